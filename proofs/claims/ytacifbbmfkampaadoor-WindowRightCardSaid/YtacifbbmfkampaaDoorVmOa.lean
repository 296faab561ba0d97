/- A range over a function: the statement, for every iterator that keeps its contract. -/
import Derived.Test.YtacifbbmfkampaaDoorVmO
import Derived.RangeFuncLeaves
namespace Go.Vm
open Go.RowKit
set_option linter.unusedVariables false
set_option linter.unusedSimpArgs false
set_option linter.unusedSectionVars false
variable [Glob]

section
variable {P : Program} {n : Nat} {C0 C C' : Pub} {φ0 φ φ' : Phi} {h0 h h' h1 : Hp} {w0 w w' W W' : World} {e e1 : Env} {a a1 : Act} {EQ : List TypeId} {call : CallH} {D : Nat} {r r' : Loop}

/-- What an iterator owes: in their order the rows, one by one, till it is told 'no more'. -/
def IterLaw (P : Program) (gf : FuncId) (it : List AV → Option (List (List AV))) : Prop :=
  ∀ (caps : List AV) (vs : List Value) (rows : List (List AV)) (C0 : Pub) (w0 : World), it caps = some rows → Wd C0 w0 → Gl C0 → VRs C0 caps vs →
  ∀ (l : Nat) (J : Nat → Pub → World → Prop) (Jx : Pub → World → Prop), J 0 C0 w0 →
    (∀ k C w, J k C w → Wd C w ∧ ∀ b o v, C0 b o = some v → C b o = some v) →
    (∀ k C w C' w', J k C w → Ext [] C w C' w' → J k C' w') →
    (∀ C w, Jx C w → Wd C w ∧ ∀ b o v, C0 b o = some v → C b o = some v) → (∀ C w C' w', Jx C w → Ext [] C w C' w' → Jx C' w') →
    (∀ k row us C w, rows[k]? = some row → J k C w → VRs C row us → YieldAt Fence.wide 0 P l us.toArray w fun e w' => (e = .returned (.bool true) ∧ ∃ C', J (k + 1) C' w') ∨ (e = .returned (.bool false) ∧ ∃ C', Jx C' w')) →
    CallsIn Fence.wide 0 P gf (#[.func (.yield l) #[] #[]] ++ vs.toArray) w0 fun e w' => (∃ v, e = .returned v) ∧ ((∃ C', J rows.length C' w') ∨ ∃ C', Jx C' w')

def shareE (e : Env) : Env := fun t => (e t).share
def updL (e : Env) : List Nat → List AV → Env
  | p :: ps, x :: xs => updL (upd e p x) ps xs
  | _, _ => e

theorem St.fresh (hsz : a.tmps.size = n) (hd : a.defers = []) (hv : ∀ t, VT C φ (e t) (tv a t)) (hr : HR C φ w h) (hw : Wd C w) (hg : Gl C) : St n C φ h w C φ (shareE e, h) a w := by
  have hsh : ∀ t, (shareE e t).share = shareE e t := fun t => share_share _
  refine ⟨hsz, hd, .refl hw, fun t => (hv t).share, fun t => ownP_of_share (hsh t), fun t => by show (blks (shareE e t) _).Nodup; rw [blks_nil_of_share (hsh t)]; simp, fun t t' _ b hb => ?_, hr, fun t b hb => ?_, fun _ _ => rfl, fun id b hid hb => ?_, Nat.le_refl _, hg⟩
  · have hb : b ∈ blks (shareE e t) (tv a t) := hb
    rw [blks_nil_of_share (hsh t)] at hb; simp at hb
  · have hb : b ∈ blks (shareE e t) (tv a t) := hb
    rw [blks_nil_of_share (hsh t)] at hb; simp at hb
  · rw [(hr.dom id hid).1] at hb; cases hb

/-- A loop under way: the frame that it stands in; its two blocks. -/
structure LI (n : Nat) (C0 : Pub) (φ0 : Phi) (h0 : Hp) (w0 : World) (D : Nat) (r : Loop) (e : Env) (a : Act) (C : Pub) (φ : Phi) (h : Hp) (W : World) : Prop where
  st : St n C0 φ0 h0 w0 C φ (e, h) a W
  sh : ∀ t, (e t).share = e t
  ge : w0.heap.size ≤ D
  dk : W.heap[D]? = some (.deferred (some []))
  lk : W.heap[D + 1]? = some (.loop r)
  dc : ∀ o, C D o = none
  lc : ∀ o, C (D + 1) o = none
  dp : ∀ id, φ id ≠ some D ∧ φ id ≠ some (D + 1)

theorem St.move {Bs : List Nat} (K : St n C0 φ0 h0 w0 C φ (e, h) a W) (sh : ∀ t, (e t).share = e t) (x : Ext Bs C W C' W') (hB : ∀ b ∈ Bs, w0.heap.size ≤ b ∧ ∀ id, φ id ≠ some b) : St n C0 φ0 h0 w0 C' φ (e, h) a W' := by
  refine ⟨K.size, K.defers, K.ext.trans x fun b hb => .inr (hB b hb).1, fun t => (K.vt t).mono x.mono (fun _ _ h => h), fun t => ownP_of_share (sh t), K.nodup, K.disj, K.hr.ext x fun b hb id => (hB b hb).2 id, K.apart, K.agr, K.new, K.nx, K.gl.mono x.mono⟩

theorem LI.ext (K : LI n C0 φ0 h0 w0 D r e a C φ h W) (x : Ext [] C W C' W') : LI n C0 φ0 h0 w0 D r e a C' φ h W' := by
  have hD := (Array.getElem?_eq_some_iff.1 K.dk).1
  have hL := (Array.getElem?_eq_some_iff.1 K.lk).1
  have o1 := x.old D hD (by simp)
  have o2 := x.old (D + 1) hL (by simp)
  exact ⟨K.st.move K.sh x (by simp), K.sh, K.ge, o1.1.trans K.dk, o2.1.trans K.lk, fun o => (o1.2 o).trans (K.dc o), fun o => (o2.2 o).trans (K.lc o), K.dp⟩

/-- What a part of a round has done. -/
theorem LI.step (K : LI n C0 φ0 h0 w0 D r e a C φ h W) (R : St n C φ h W C' φ' (e1, h1) a1 W') : LI n C0 φ0 h0 w0 D r e a C' φ' h1 W' := by
  have hD := (Array.getElem?_eq_some_iff.1 K.dk).1
  have hL := (Array.getElem?_eq_some_iff.1 K.lk).1
  have hlt : ∀ id b, φ id = some b → id < h.nx := fun id b hb => by
    rcases Nat.lt_or_ge id h.nx with h' | h'
    · exact h'
    · rw [(K.st.hr.dom id h').1] at hb; cases hb
  have hmono : ∀ id b, φ id = some b → φ' id = some b := fun id b hb => by rw [R.agr id (hlt id b hb)]; exact hb
  have hback : ∀ id b, φ' id = some b → φ id = some b ∨ W.heap.size ≤ b := fun id b hb => by
    rcases Nat.lt_or_ge id h.nx with h' | h'
    · rw [R.agr id h'] at hb; exact .inl hb
    · exact .inr (R.new id b h' hb)
  have nD : D ∉ HB φ h.nx := fun hm => by obtain ⟨id, _, hi⟩ := mem_HB.1 hm; exact (K.dp id).1 hi
  have nL : D + 1 ∉ HB φ h.nx := fun hm => by obtain ⟨id, _, hi⟩ := mem_HB.1 hm; exact (K.dp id).2 hi
  have o1 := R.ext.old D hD nD
  have o2 := R.ext.old (D + 1) hL nL
  have hsz := K.st.ext.size
  refine ⟨⟨K.st.size, K.st.defers, K.st.ext.trans R.ext fun b hb => ?_, fun t => (K.st.vt t).mono R.ext.mono hmono, fun t => ownP_of_share (K.sh t), fun t => by show (blks (e t) _).Nodup; rw [blks_nil_of_share (K.sh t)]; simp, fun t t' _ b hb => ?_, R.hr, fun t b hb => ?_, fun id hid => ?_, fun id b hid hb => ?_, Nat.le_trans K.st.nx R.nx, R.gl⟩,
    K.sh, K.ge, o1.1.trans K.dk, o2.1.trans K.lk, fun o => (o1.2 o).trans (K.dc o), fun o => (o2.2 o).trans (K.lc o), fun id => ⟨fun hi => ?_, fun hi => ?_⟩⟩
  · obtain ⟨id, hid, hi⟩ := mem_HB.1 hb
    rcases Nat.lt_or_ge id h0.nx with h' | h'
    · exact .inl (mem_HB.2 ⟨id, h', by rw [← K.st.agr id h']; exact hi⟩)
    · exact .inr (K.st.new id b h' hi)
  · have hb : b ∈ blks (e t) (tv a t) := hb
    rw [blks_nil_of_share (K.sh t)] at hb; simp at hb
  · have hb : b ∈ blks (e t) (tv a t) := hb
    rw [blks_nil_of_share (K.sh t)] at hb; simp at hb
  · rw [R.agr id (Nat.lt_of_lt_of_le hid K.st.nx)]; exact K.st.agr id hid
  · rcases hback id b hb with h' | h'
    · exact K.st.new id b hid h'
    · omega
  · rcases hback id D hi with h' | h'
    · exact (K.dp id).1 h'
    · omega
  · rcases hback id _ hi with h' | h'
    · exact (K.dp id).2 h'
    · omega

theorem ext_put {b : Nat} {o : Obj} (hw : Wd C W) (hc : ∀ i, C b i = none) : Ext [b] C W C (W.putObj b o) := by
  refine ⟨rfl, rfl, rfl, by simp [World.putObj], fun k hk hn => ⟨?_, fun _ => rfl⟩, fun _ _ _ h => h, fun k i v hv => ?_⟩
  · exact World.putObj_heap_other (by simp at hn; omega)
  · have hne : k ≠ b := fun h => by rw [h, hc i] at hv; cases hv
    have := hw k i v hv
    unfold World.cell? at this ⊢
    rw [World.putObj_heap_other (by omega)]; exact this

theorem ext_allocO {o : Obj} (hw : Wd C W) : Ext [] C W C (W.alloc o) := by
  refine ⟨rfl, rfl, rfl, by simp, fun b hb _ => ⟨Below.heap_alloc W _ b hb, fun o => rfl⟩, fun b o v hC => hC, ?_⟩
  intro b i v hv
  have h1 := hw b i v hv
  have hb : b < W.heap.size := by
    unfold World.cell? at h1
    rcases Nat.lt_or_ge b W.heap.size with h' | h'
    · exact h'
    · simp [Array.getElem?_eq_none h'] at h1
  rw [World.cell?_alloc_old _ _ _ (by simpa using Nat.ne_of_lt hb)]; exact h1

theorem LI.put (K : LI n C0 φ0 h0 w0 D r e a C φ h W) (r' : Loop) : LI n C0 φ0 h0 w0 D r' e a C φ h (W.putObj (D + 1) (.loop r')) := by
  have hL := (Array.getElem?_eq_some_iff.1 K.lk).1
  have := K.ge
  exact ⟨K.st.move K.sh (ext_put K.st.ext.wd K.lc) (by simp; exact ⟨by omega, fun id => (K.dp id).2⟩), K.sh, K.ge, (World.putObj_heap_other (by omega)).trans K.dk, World.putObj_heap_same hL, K.dc, K.lc, K.dp⟩

theorem LI.start (H : St n C0 φ0 h0 w0 C φ (e, h) a w) (sh : ∀ t, (e t).share = e t) (r : Loop) : LI n C0 φ0 h0 w0 w.heap.size r e a C φ h ((w.alloc (.deferred (some []))).alloc (.loop r)) := by
  have x1 := ext_allocO (o := .deferred (some [])) H.ext.wd
  have x2 := ext_allocO (o := .loop r) x1.wd
  have H1 := H.move sh x1 (by simp)
  have H2 := H1.move sh x2 (by simp)
  refine ⟨H2, sh, H.ext.size, ?_, ?_, fun o => H.ext.wd.fresh (Nat.le_refl _) o, fun o => H.ext.wd.fresh (by omega) o, fun id => ⟨fun hi => ?_, fun hi => ?_⟩⟩
  · exact (Below.heap_alloc _ _ _ (by simp)).trans (World.alloc_heap_new w _)
  · have := World.alloc_heap_new (w.alloc (.deferred (some []))) (.loop r); rwa [World.size_alloc] at this
  · exact absurd (H.hr.lt id _ hi) (by omega)
  · exact absurd (H.hr.lt id _ hi) (by omega)

theorem updL_at : ∀ (ps : List Nat) (row : List AV) (us : List Value) (e : Env) (tm : Array Value), tm.size = n → (∀ p ∈ ps, p < n) → VTs C φ row us → (∀ t, VT C φ (e t) (tm.getD t undef)) →
    ((ps.zip us).foldl (fun t (p, v) => t.setIfInBounds p v) tm).size = n ∧ ∀ t, VT C φ (updL e ps row t) (((ps.zip us).foldl (fun t (p, v) => t.setIfInBounds p v) tm).getD t undef)
  | [], row, us, e, tm, hn, _, _, h => by simp [updL]; exact ⟨hn, by simpa using h⟩
  | p :: ps, [], us, e, tm, hn, _, hv, h => by cases hv.nil_inv; simp [updL]; exact ⟨hn, by simpa using h⟩
  | p :: ps, x :: row, us, e, tm, hn, hp, hv, h => by
    obtain ⟨v, us', rfl, h1, h2⟩ := hv.cons_inv
    simp only [List.zip_cons_cons, List.foldl_cons, updL]
    refine updL_at ps row us' (upd e p x) (tm.setIfInBounds p v) (by simp [hn]) (fun q hq => hp q (by simp [hq])) h2 fun t => ?_
    unfold upd
    by_cases ht : t = p
    · subst ht
      have : t < tm.size := by rw [hn]; exact hp t (by simp)
      simp [Array.getD_eq_getD_getElem?, this, h1]
    · rw [if_neg ht]
      simp only [Array.getD_eq_getD_getElem?, Array.getElem?_setIfInBounds]
      rw [if_neg (fun hh => ht hh.symm)]
      simpa [Array.getD_eq_getD_getElem?] using h t

theorem AExit.ex_code (x : AExit) : x = .normal ∨ ∃ c, (x.ex = .ret ∧ c = Code.ret ∨ ∃ id, x.ex = .exit id ∧ c = Code.exit id) ∧ x ≠ .normal := by
  cases x with
  | normal => exact .inl rfl
  | exit id => exact .inr ⟨_, .inr ⟨id, rfl, rfl⟩, by simp⟩
  | ret => exact .inr ⟨_, .inl ⟨rfl, rfl⟩, by simp⟩

/-- The statement. -/
theorem range_sim (hm : P.follows .mixedOrders = true) (hEQ : ∀ t ∈ EQ, EqLaw P t) (hc : CallingH P call) {g : Operand} {ps : Array Tmp} {assign body : Code} {asA boA : ACode} {Q : Exit → Act → World → Prop}
    {gf : FuncId} {gfn : Func} {caps : List AV} {vs : List Value} {rows : List (List AV)} {it : List AV → Option (List (List AV))}
    (H : St n C0 φ0 h0 w0 C φ (e, h) a w) (sh : ∀ t, (e t).share = e t) (hg : a.eval g = .func (.func gf) #[] vs.toArray) (hgf : P.funcs[gf]? = some gfn) (hen : enterB gfn = true)
    (hv : VRs C caps vs) (hit : IterLaw P gf it) (hrows : it caps = some rows) (hps : ∀ row ∈ rows, row.length = ps.size) (hpn : ∀ p ∈ ps.toList, p < n)
    (hkA : chkCode P EQ n assign asA = true) (hkB : chkCode P EQ n body boA = true) (hdA : noDefC assign = true) (hdB : noDefC body = true)
    (inv : Nat → Hp → Prop) (invX : AExit → Hp → Prop) (h0i : inv 0 h)
    (hround : ∀ k row h1, rows[k]? = some row → inv k h1 → ∃ j e1 h2 x e3 h3, evC call j asA (shareE (updL e ps.toList row), h1) = some (.normal, (e1, h2)) ∧ evC call j boA (shareE e1, h2) = some (x, (e3, h3)) ∧ (x = .normal → inv (k + 1) h3) ∧ (x ≠ .normal → invX x h3))
    (hdone : ∀ r C' φ' h' W, LI n C0 φ0 h0 w0 w.heap.size r e a C' φ' h' W → inv rows.length h' → Q .normal { a with defers := { target := .collected w.heap.size, args := #[] } :: a.defers } W)
    (hstop : ∀ r C' φ' h' W x, LI n C0 φ0 h0 w0 w.heap.size r e a C' φ' h' W → x ≠ .normal → invX x h' → Q x.ex { a with defers := { target := .collected w.heap.size, args := #[] } :: a.defers } W) :
    (Code.rangeFunc g ps assign body).wpIn Fence.wide 0 P Q a w := by
  refine wpIn_rangeFunc ?_
  intro fn hfn
  obtain ⟨rec, hrec⟩ : ∃ rec : LoopState → Option Code → Loop, rec = fun st pe => { state := st, pending := pe, fn, tmps := a.tmps, params := ps, assign, body, defers := w.heap.size } := ⟨_, rfl⟩
  have K0 := LI.start H sh (rec .ready none)
  obtain ⟨W1, hW1⟩ : ∃ W1, (w.alloc (.deferred (some []))).alloc (.loop (rec .ready none)) = W1 := ⟨_, rfl⟩
  rw [hW1] at K0
  refine ⟨w.heap.size + 1, [{ target := .collected w.heap.size, args := #[] }], W1, { target := .fn (.func gf) vs.toArray, args := #[.func (.yield (w.heap.size + 1)) #[] #[]] }, W1, gf,
    #[.func (.yield (w.heap.size + 1)) #[] #[]] ++ vs.toArray, W1, ?_, ?_, fun _ _ => trivial, ?_, by simp [Fence.wide], ?_⟩
  · rw [← hW1, hrec]; exact run_enterLoop_outer _ _ _ _ _
  · simp only [resolve, hg]
    simp [go_sem]
  · simp [invoke, go_sem, callFunc_enter hgf hen]
  · refine (hit caps vs rows C W1 hrows K0.st.ext.wd K0.st.gl hv (w.heap.size + 1)
      (fun k C' W => ∃ φ' h', inv k h' ∧ LI n C0 φ0 h0 w0 w.heap.size (rec .ready none) e a C' φ' h' W ∧ ∀ b o v, C b o = some v → C' b o = some v)
      (fun C' W => ∃ x φ' h', x ≠ .normal ∧ invX x h' ∧ LI n C0 φ0 h0 w0 w.heap.size (rec .done (some (match x with | .exit id => .exit id | _ => .ret))) e a C' φ' h' W ∧ ∀ b o v, C b o = some v → C' b o = some v)
      ⟨φ, h, h0i, K0, fun _ _ _ h => h⟩ (fun k C' W ⟨φ', h', _, K, hm⟩ => ⟨K.st.ext.wd, hm⟩) (fun k C1 w1 C2 w2 ⟨φ', h', hi, K, hm⟩ x => ⟨φ', h', hi, K.ext x, fun b o v hv => x.mono _ _ _ (hm b o v hv)⟩)
      (fun C1 w1 ⟨x, φ', h', _, _, K, hm⟩ => ⟨K.st.ext.wd, hm⟩) (fun C1 w1 C2 w2 ⟨x, φ', h', hx, hi, K, hm⟩ xt => ⟨x, φ', h', hx, hi, K.ext xt, fun b o v hv => xt.mono _ _ _ (hm b o v hv)⟩) ?_).mono ?_
    · rintro k row us C1 W2 hrow ⟨φ1, h1, hi, K, hm1⟩ hus
      obtain ⟨j, e1, h2, x, e3, h3, hA, hB, hn, hx⟩ := hround k row h1 hrow hi
      have hlen : us.toArray.size = ps.size := by have := hus.1; have := hps row (List.mem_of_getElem? hrow); simp; omega
      have hy := run_yield (P := P) (args := us.toArray) K.lk (by rw [hrec]; exact hlen)
      rw [hrec] at hy
      refine ⟨fn, _, assign, body, hy, roundIn_of_wpIn trivial ?_⟩
      have hup := updL_at (n := n) (C := C1) (φ := φ1) ps.toList row us e a.tmps K.st.size hpn (VTs.ofVRs hus) K.st.vt
      have htm : (ps.zip us.toArray).foldl (fun t (p, v) => t.setIfInBounds p v) a.tmps = (ps.toList.zip us).foldl (fun t (p, v) => t.setIfInBounds p v) a.tmps := by
        rw [← Array.foldl_toList]; simp
      have S1 : St n C1 φ1 h1 W2 C1 φ1 (shareE (updL e ps.toList row), h1) { tmps := (ps.toList.zip us).foldl (fun t (p, v) => t.setIfInBounds p v) a.tmps, defers := [] } W2 :=
        St.fresh hup.1 rfl hup.2 K.st.hr K.st.ext.wd K.st.gl
      simp only [htm]
      refine code_simIn (ds := []) hm hEQ hc j asA assign hkA hdA (.inl rfl) _ _ _ _ _ .normal _ _ (fun a w hh => hh) S1 hA fun C2 φ2 a2 W3 S2 => ?_
      rw [dr_nil S2.defers]
      have K2 := K.step S2
      refine ⟨_, run_beginRound K2.lk (by rw [hrec]), ?_⟩
      have K3 := K2.put { rec .ready none with state := .busy }
      have S3 := St.fresh (e := e1) S2.size S2.defers S2.vt K3.st.hr K3.st.ext.wd K3.st.gl
      have fin : ∀ C4 φ4 a4 W4, St n C2 φ2 h2 (W3.putObj (w.heap.size + 1) (.loop { rec .ready none with state := .busy })) C4 φ4 (e3, h3) a4 W4 → ∀ jump : Option Code,
          ∃ v w', (Instr.endRound (w.heap.size + 1) jump).run P W4 = .ok v w' ∧ v = .bool jump.isNone ∧ LI n C0 φ0 h0 w0 w.heap.size (rec (if jump.isNone then .ready else .done) jump) e a C4 φ4 h3 w' := by
        intro C4 φ4 a4 W4 S4 jump
        have K4 := K3.step S4
        refine ⟨_, _, run_endRound jump K4.lk, rfl, ?_⟩
        have K5 := K4.put (rec (if jump.isNone then .ready else .done) jump)
        rw [hrec] at K5 ⊢
        exact K5
      have hgo := fun Q hQ => code_simIn (l := some (w.heap.size + 1)) (m := 0) (ds := []) hm hEQ hc j boA body hkB hdB (.inl rfl) _ _ _ _ _ x _ Q hQ S3 hB
      rw [dr_nil S2.defers] at hgo
      refine hgo _ (fun a w hh => hh) fun C4 φ4 a4 W4 S4 => ?_
      rw [dr_nil S4.defers]
      have hmono : ∀ b o v, C b o = some v → C4 b o = some v := fun b o v hv => S4.ext.mono _ _ _ (S2.ext.mono _ _ _ (hm1 _ _ _ hv))
      cases x with
      | normal =>
        obtain ⟨v, w', hr, rfl, K5⟩ := fin C4 φ4 a4 W4 S4 none
        exact ⟨_, w', hr, .inl ⟨rfl, C4, φ4, h3, hn rfl, K5, hmono⟩⟩
      | ret =>
        obtain ⟨v, w', hr, rfl, K5⟩ := fin C4 φ4 a4 W4 S4 (some .ret)
        exact ⟨_, w', hr, .inr ⟨rfl, C4, .ret, φ4, h3, by simp, hx (by simp), K5, hmono⟩⟩
      | exit id =>
        obtain ⟨v, w', hr, rfl, K5⟩ := fin C4 φ4 a4 W4 S4 (some (.exit id))
        exact ⟨_, w', hr, .inr ⟨rfl, C4, .exit id, φ4, h3, by simp, hx (by simp), K5, hmono⟩⟩
    · rintro e2 W2 ⟨⟨v, rfl⟩, (⟨C', φ', h', hi, K, _⟩ | ⟨C', x, φ', h', hxn, hi, K, _⟩)⟩
      · exact ⟨none, _, by have := run_endLoop (P := P) K.lk (by rw [hrec]; simp); rw [show (rec .ready none).pending = none by rw [hrec]] at this; exact this, hdone _ _ _ _ _ (K.put _) hi⟩
      · have hend := run_endLoop (P := P) K.lk (by rw [hrec]; simp)
        have hpe : ∀ c, (rec .done (some c)).pending = some c := fun c => by rw [hrec]
        rw [hpe] at hend
        cases x with
        | normal => exact absurd rfl hxn
        | ret => exact ⟨some .ret, _, hend, wpIn_ret (hstop _ _ _ _ _ .ret (K.put _) hxn hi)⟩
        | exit id => exact ⟨some (.exit id), _, hend, wpIn_exit (hstop _ _ _ _ _ (.exit id) (K.put _) hxn hi)⟩
end
end Go.Vm
