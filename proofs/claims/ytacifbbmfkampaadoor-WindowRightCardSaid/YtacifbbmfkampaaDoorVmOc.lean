/- A function whose body holds a range over a function, by its parts. -/
import Derived.Test.YtacifbbmfkampaaDoorVmOb
namespace Go.Vm
open Go.RowKit
set_option linter.unusedVariables false
set_option linter.unusedSimpArgs false
set_option linter.unusedSectionVars false
variable [Glob]

structure RFn where
  np : Nat
  res : List ARes
  pre : List ACode
  blk : Nat
  g : Nat
  ps : List Nat
  asA : ACode
  boA : ACode
  post : List ACode

def chkRS (P : Program) (EQ : List TypeId) (n : Nat) (cs : List Code) (rf : RFn) : Bool :=
  chkL P EQ n (cs.take rf.pre.length) rf.pre &&
  match cs.drop rf.pre.length with
  | .block id (.rangeFunc (.tmp g) ps as bo) :: post => id == rf.blk && g == rf.g && ps.toList == rf.ps && rf.ps.all (fun p => decide (p < n)) && chkCode P EQ n as rf.asA && noDefC as && chkCode P EQ n bo rf.boA && noDefC bo && chkL P EQ n post rf.post && post.all noDraw
  | _ => false
def chkR (P : Program) (EQ : List TypeId) (fn : Func) (rf : RFn) : Bool :=
  (match fn.body with | some c => chkRS P EQ fn.ntmps (spine c) rf | none => false) && resB P fn.results.toList rf.res && nodupB (resSlots rf.res) && decide (rf.np ≤ fn.ntmps)

section
variable {P : Program} {C : Pub} {w : World} {EQ : List TypeId}

theorem evC_of_evX {call : CallH} {a : ACode} {s : Env × Hp} {r : AExit × Env × Hp} (h : evX call a s = some r) : ∃ k, ∀ k', k ≤ k' → evC call k' a s = some r :=
  evX_cont (c := fun _ => call) (l := call) (fun _ _ _ => Le.refl _) (fun g ys h r hr => ⟨0, hr⟩) a s r h

theorem range_fn {f : FuncId} {fn : Func} {rf : RFn} (hm : P.follows .mixedOrders = true) (hEQ : ∀ t ∈ EQ, EqLaw P t) (hf : P.funcs[f]? = some fn) (hk : chkR P EQ fn rf = true)
    {gf : FuncId} {gfn : Func} {it : List AV → Option (List (List AV))} (hit : IterLaw P gf it) (hgf : P.funcs[gf]? = some gfn) (hen : enterB gfn = true)
    {call : FuncId → List AV → Option AV} (hcall : Calling P call) {xs : List AV} {us : List Value} {r : AV} (hw : Wd C w) (hg : Gl C) (hv : VRs C xs us) (hs : ∀ x ∈ xs, x.share = x) (hl : xs.length = rf.np)
    {e1 : Env} {h1 : Hp} (hpre : evX (callP call) (seqs rf.pre) (init xs, Hp.e) = some (.normal, (e1, h1)))
    {caps : List AV} {rows : List (List AV)} (hcl : (shareE e1) rf.g = .fn gf caps) (hcp : (AV.fn gf caps).pu = true) (hrows : it caps = some rows) (hps : ∀ row ∈ rows, row.length = rf.ps.length)
    (inv : Nat → Hp → Prop) (invX : AExit → Hp → Prop) (h0i : inv 0 h1)
    (hround : ∀ k row h2, rows[k]? = some row → inv k h2 → ∃ e3 h3 x e4 h4, evX (callP call) rf.asA (shareE (updL (shareE e1) rf.ps row), h2) = some (.normal, (e3, h3)) ∧ evX (callP call) rf.boA (shareE e3, h3) = some (x, (e4, h4)) ∧ (x = .normal → inv (k + 1) h4) ∧ (x ≠ .normal → invX x h4))
    (hpost : ∀ h2, (inv rows.length h2 ∨ invX (.exit rf.blk) h2) → ∃ x e3 h3 y, evX (callP call) (seqs rf.post) (shareE e1, h2) = some (x, (e3, h3)) ∧ (x = .normal ∨ x = .ret) ∧ resOf e3 h3 rf.res = some y ∧ outF h3 y = some r)
    (hret : ∀ h2, invX .ret h2 → ∃ y, resOf (shareE e1) h2 rf.res = some y ∧ outF h2 y = some r)
    (hex : ∀ i h2, invX (.exit i) h2 → i = rf.blk) :
    Calls P f us.toArray w fun e w' => ∃ v, e = .returned v ∧ Fin w.heap.size C w [] r v w' := by
  unfold chkR at hk
  simp only [Bool.and_eq_true, decide_eq_true_eq] at hk
  obtain ⟨⟨⟨hk, hres⟩, hnd⟩, hnp⟩ := hk
  cases hb : fn.body with
  | none => rw [hb] at hk; simp at hk
  | some c =>
  rw [hb] at hk
  simp only at hk
  unfold chkRS at hk
  simp only [Bool.and_eq_true] at hk
  obtain ⟨hkp, hk⟩ := hk
  split at hk <;> try (simp at hk; done)
  rename_i id g ps as bo post hdrop
  simp only [Bool.and_eq_true, beq_iff_eq] at hk
  obtain ⟨⟨⟨⟨⟨⟨⟨⟨⟨hid, hgg⟩, hpl⟩, hpn⟩, hkA⟩, hdA⟩, hkB⟩, hdB⟩, hkq⟩, hnq⟩ := hk
  have hnd := nodupB_spec hnd
  have hc := callP_ok hcall
  have hsp : spine c = (spine c).take rf.pre.length ++ (.block id (.rangeFunc (.tmp g) ps as bo) :: post) := by rw [← hdrop, List.take_append_drop]
  have hlen := hv.1
  have hst := St.start (n := fn.ntmps) hw hg (HR.e C w) (VTs.ofVRs hv) hs (by omega)
  refine (callsIn_wide (n := 0)).1 (CallsIn.mono (callsIn_of_wp_marks (R := fun e w' => ∃ v, e = .returned v ∧ Fin w.heap.size C w [] r v w') hf hb trivial ?_) fun e w' hh => hh)
  obtain ⟨Q, hQ⟩ : ∃ Q, bodyPostM Fence.wide 0 P fn (fun e w' => ∃ v, e = .returned v ∧ Fin w.heap.size C w [] r v w') = Q := ⟨_, rfl⟩
  have hQo : ∀ a w, ¬ Q .outgrown a w := by rw [← hQ]; rintro a w ⟨v, he, _⟩; cases he
  rw [hQ]
  have hwp := wp_spine (F := Fence.wide) (m := 0) (P := P) (Q := Q) c [] { tmps := us.toArray ++ Array.replicate (fn.ntmps - us.toArray.size) undef, defers := [] } w
  rw [List.append_nil] at hwp
  refine wpIn_mono (hwp ?_) fun e a w he => by cases e <;> exact he
  clear hwp
  rw [hsp]
  obtain ⟨k1, hk1⟩ := evC_of_evX hpre
  have hpre' := hk1 k1 (Nat.le_refl _)
  refine pre_sim (ro := none) (m := 0) (ds := []) hm hEQ hc k1 hQo (fun C1 φ1 a1 w1 S1 => ?_) _ _ _ _ _ { tmps := us.toArray ++ Array.replicate (fn.ntmps - us.toArray.size) undef, defers := [] } _ hkp (.inl rfl) hst hpre'
  rw [dr_nil S1.defers]
  show Code.wpIn _ _ _ _ _ _ _
  refine wpIn_block ?_
  -- the frame, what it owned given away
  have S2 := S1.comp (St.fresh S1.size S1.defers S1.vt S1.hr S1.ext.wd S1.gl)
  have hv1 := S2.vt rf.g
  rw [show (shareE e1, h1).1 rf.g = AV.fn gf caps from hcl] at hv1
  have hv2 := hv1.toVR hcp
  obtain ⟨vs, hvs, hvr⟩ : ∃ vs : List Value, tv a1 rf.g = .func (.func gf) #[] vs.toArray ∧ VRs C1 caps vs := by
    generalize tv a1 rf.g = u at hv2
    cases hv2 with
    | fn _ _ gv hgv => exact ⟨_, rfl, by simp, fun i x v hx hv => by
        have hi := (List.getElem?_eq_some_iff.1 hx).1
        simp [hi] at hv; subst hv; exact hgv i x hx⟩
  have hsh : ∀ t, (shareE e1 t).share = shareE e1 t := fun t => share_share _
  have lv : ∀ {rr C' φ' h' W e2 h2 y a2 C'' φ'' W''}, LI fn.ntmps C (fun _ => none) Hp.e w w1.heap.size rr (shareE e1) a1 C' φ' h' W → St fn.ntmps C' φ' h' W C'' φ'' (e2, h2) a2 W'' → resOf e2 h2 rf.res = some y → outF h2 y = some r →
      LeavesInM Fence.wide 0 P fn a2.tmps (fun e w' => ∃ v, e = .returned v ∧ Fin w.heap.size C w [] r v w') [{ target := .collected w1.heap.size, args := #[] }] .returning W'' :=
    fun K S hl ho => leaves_mark K S hres hnd hl ho fun v w' hf => ⟨v, rfl, hf⟩
  have hdr : ∀ d : Deferred, ({ tmps := a1.tmps, defers := d :: a1.defers } : Act) = dr [d] a1 := fun d => by rw [S1.defers]; rfl
  have hfr : ∀ {rr C' φ' h' W}, LI fn.ntmps C (fun _ => none) Hp.e w w1.heap.size rr (shareE e1) a1 C' φ' h' W → St fn.ntmps C' φ' h' W C' φ' (shareE e1, h') a1 W := fun K => by
    have := St.fresh K.st.size K.st.defers K.st.vt K.st.hr K.st.ext.wd K.st.gl
    rwa [show shareE (shareE e1) = shareE e1 from funext hsh] at this
  have after : ∀ rr C' φ' h' W, LI fn.ntmps C (fun _ => none) Hp.e w w1.heap.size rr (shareE e1) a1 C' φ' h' W → (inv rows.length h' ∨ invX (.exit rf.blk) h') → wpS Fence.wide 0 P Q post { tmps := a1.tmps, defers := { target := .collected w1.heap.size, args := #[] } :: a1.defers } W := by
    intro rr C' φ' h' W K hi
    obtain ⟨x, e3, h3, y, hev, hx, hlv, hlo⟩ := hpost h' hi
    obtain ⟨k2, hk2⟩ := evC_of_evX hev
    rw [hdr]
    refine post_sim (ro := none) (m := 0) (x1 := x) (s1 := (e3, h3)) hm hEQ hc k2 hQo (fun C2 φ2 a2 w2 S3 => ?_) _ _ _ _ _ a1 _ hkq (.inr hnq) (hfr K) (hk2 k2 (Nat.le_refl _))
    have := lv K S3 hlv hlo
    rw [← hQ]
    rcases hx with rfl | rfl <;> exact this
  refine range_sim (h := h1) (C := C1) (φ := φ1) (e := shareE e1) (asA := rf.asA) (boA := rf.boA) hm hEQ hc S2 hsh (show a1.eval (.tmp g) = .func (.func gf) #[] vs.toArray by rw [hgg]; exact hvs) hgf hen hvr hit hrows (fun row hrow => by rw [hps row hrow, ← hpl]; simp)
    (fun p hp => by rw [hpl] at hp; simpa using List.all_eq_true.1 hpn p hp) hkA hkB hdA hdB inv invX h0i ?_ ?_ ?_
  · intro k row h2 hrow hi
    obtain ⟨e3, h3, x, e4, h4, q1, q2, q3, q4⟩ := hround k row h2 hrow hi
    obtain ⟨j1, hj1⟩ := evC_of_evX q1
    obtain ⟨j2, hj2⟩ := evC_of_evX q2
    exact ⟨max j1 j2, e3, h3, x, e4, h4, by rw [hpl]; exact hj1 _ (by omega), hj2 _ (by omega), q3, q4⟩
  · intro rr C' φ' h' W K hi
    exact after rr C' φ' h' W K (.inl hi)
  · intro rr C' φ' h' W x K hx hi
    cases x with
    | normal => exact absurd rfl hx
    | exit i =>
      have hii := hex i h' hi
      subst hii
      show (if rf.blk = id then _ else _)
      rw [if_pos hid.symm]
      exact after rr C' φ' h' W K (.inr hi)
    | ret =>
      obtain ⟨y, hlv, hlo⟩ := hret h' hi
      have := lv K (hfr K) hlv hlo
      rw [← hQ]
      simp only [AExit.ex, Exit.inBlock, Exit.then, bodyPostM, S1.defers]
      exact this
end
end Go.Vm
