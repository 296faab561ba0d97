/- Functions whose body holds a range over a function: their law, from what their code computes. -/
import Derived.Test.YtacifbbmfkampaaDoorVmOa
namespace Go.Vm
open Go.RowKit
set_option linter.unusedVariables false
set_option linter.unusedSimpArgs false
set_option linter.unusedSectionVars false
variable [Glob]

def callP (call : FuncId → List AV → Option AV) : CallH := fun f xs h => if isX f then none else if xs.all AV.pu then (match call f xs with | some r => some (r, h) | none => none) else none
theorem callP_ok {P : Program} {call : FuncId → List AV → Option AV} (hc : Calling P call) : CallingH P (callP call) where
  enter := by
    intro f xs h r hx hr args w
    unfold callP at hr
    rw [if_neg (by simp [hx])] at hr
    split at hr <;> try (simp at hr; done)
    split at hr <;> simp at hr
    rename_i r' hq
    exact hc.enter f xs r' hx hq args w
  sim := by
    intro f xs us h r h' C φ w hx hr hw hg hh hv hs
    unfold callP at hr
    rw [if_neg (by simp [hx])] at hr
    split at hr <;> try (simp at hr; done)
    rename_i hp
    split at hr <;> simp at hr
    rename_i r' hq
    obtain ⟨rfl, rfl⟩ := hr
    exact Calls.mono (hc.sim f xs us r' C w hx hq hw hg (hv.toVRs hp) hs) fun e w' ⟨v, he, hf⟩ => ⟨v, he, hf.toH hh (by simp)⟩
  xop := by
    intro f o xs hx _ n0 C φ w h vals r h' ρ _ _ _ _ hr
    unfold callP at hr
    rw [if_pos hx] at hr
    cases hr

def spine : Code → List Code
  | .seq a b => spine a ++ spine b
  | c => [c]
def wpS (F : Fence) (m : Nat) (P : Program) (Q : Exit → Act → World → Prop) : List Code → Act → World → Prop
  | [], a, w => Q .normal a w
  | c :: cs, a, w => c.wpIn F m P (Exit.then (wpS F m P Q cs) Q) a w

section
variable {P : Program} {n m : Nat} {F : Fence} {C0 C C' C'' : Pub} {φ0 φ φ' φ'' : Phi} {h0 h h' h1 h2 : Hp} {w0 w w' W W' W'' : World} {e e1 e2 : Env} {a a1 a2 : Act} {EQ : List TypeId} {call : CallH} {D : Nat} {r r' : Loop} {ds : List Deferred}

theorem then_then {K : Act → World → Prop} {Q : Exit → Act → World → Prop} {K' : Act → World → Prop} {e : Exit} {a : Act} {w : World} (h : Exit.then K' (Exit.then K Q) e a w) : Exit.then K' Q e a w ∨ (e ≠ .normal ∧ Q e a w) := by
  cases e <;> first | exact .inl h | exact .inr ⟨by simp, h⟩

theorem wp_spine {Q : Exit → Act → World → Prop} : ∀ (c : Code) (rest : List Code) (a : Act) (w : World), wpS F m P Q (spine c ++ rest) a w → c.wpIn F m P (Exit.then (wpS F m P Q rest) Q) a w := by
  intro c
  induction c with
  | seq x y ihx ihy =>
    intro rest a w h
    simp only [spine, List.append_assoc] at h
    refine wpIn_seq (wpIn_mono (ihx _ a w h) fun e a1 w1 he => ?_)
    cases e with
    | normal => exact ihy rest a1 w1 he
    | _ => exact he
  | _ => intro rest a w h; exact h

def seqs : List ACode → ACode
  | [] => .skip
  | c :: cs => .seq c (seqs cs)
def chkL (P : Program) (EQ : List TypeId) (n : Nat) : List Code → List ACode → Bool
  | [], [] => true
  | c :: cs, x :: xs => chkCode P EQ n c x && noDefC c && chkL P EQ n cs xs
  | _, _ => false

theorem pre_sim {ro : Option Nat} (hm : P.follows .mixedOrders = true) (hEQ : ∀ t ∈ EQ, EqLaw P t) (hc : CallingH P call) (j : Nat) {Q : Exit → Act → World → Prop} (hQo : ∀ a w, ¬ Q .outgrown a w) {rest : List Code} {s1 : Env × Hp}
    (hQ : ∀ C' φ' a' w', St n C0 φ0 h0 w0 C' φ' s1 a' w' → wpS (fo ro) m P Q rest (dr ds a') w') :
    ∀ (cs : List Code) (xs : List ACode) (s : Env × Hp) (C : Pub) (φ : Phi) (a : Act) (w : World), chkL P EQ n cs xs = true → (ds = [] ∨ cs.all noDraw = true) → St n C0 φ0 h0 w0 C φ s a w → evC call j (seqs xs) s = some (.normal, s1) →
      wpS (fo ro) m P Q (cs ++ rest) (dr ds a) w
  | [], [], s, C, φ, a, w, _, _, H, hs => by
    simp [seqs, evC] at hs; subst hs; exact hQ C φ a w H
  | [], _ :: _, _, _, _, _, _, hk, _, _, _ => by simp [chkL] at hk
  | _ :: _, [], _, _, _, _, _, hk, _, _, _ => by simp [chkL] at hk
  | c :: cs, x :: xs, s, C, φ, a, w, hk, hd, H, hs => by
    simp only [chkL, Bool.and_eq_true] at hk
    simp only [seqs, evC] at hs
    split at hs
    · rename_i s2 h2
      refine code_simIn hm hEQ hc j x c hk.1.1 hk.1.2 (hd.imp_right fun h => by simp at h; exact h.1) s C φ a w .normal s2 _ (fun a w hh => hQo a w hh) H h2 fun C' φ' a' w' H' => ?_
      exact pre_sim hm hEQ hc j hQo hQ cs xs s2 C' φ' a' w' hk.2 (hd.imp_right fun h => by simp at h ⊢; exact h.2) H' hs
    · rename_i hnn; exact absurd hs (hnn s1)

theorem post_sim {ro : Option Nat} (hm : P.follows .mixedOrders = true) (hEQ : ∀ t ∈ EQ, EqLaw P t) (hc : CallingH P call) (j : Nat) {Q : Exit → Act → World → Prop} (hQo : ∀ a w, ¬ Q .outgrown a w) {x1 : AExit} {s1 : Env × Hp}
    (hQ : ∀ C' φ' a' w', St n C0 φ0 h0 w0 C' φ' s1 a' w' → Q x1.ex (dr ds a') w') :
    ∀ (cs : List Code) (xs : List ACode) (s : Env × Hp) (C : Pub) (φ : Phi) (a : Act) (w : World), chkL P EQ n cs xs = true → (ds = [] ∨ cs.all noDraw = true) → St n C0 φ0 h0 w0 C φ s a w → evC call j (seqs xs) s = some (x1, s1) →
      wpS (fo ro) m P Q cs (dr ds a) w
  | [], [], s, C, φ, a, w, _, _, H, hs => by
    simp [seqs, evC] at hs; obtain ⟨rfl, rfl⟩ := hs; exact hQ C φ a w H
  | [], _ :: _, _, _, _, _, _, hk, _, _, _ => by simp [chkL] at hk
  | _ :: _, [], _, _, _, _, _, hk, _, _, _ => by simp [chkL] at hk
  | c :: cs, x :: xs, s, C, φ, a, w, hk, hd, H, hs => by
    simp only [chkL, Bool.and_eq_true] at hk
    simp only [seqs, evC] at hs
    split at hs
    · rename_i s2 h2
      refine code_simIn hm hEQ hc j x c hk.1.1 hk.1.2 (hd.imp_right fun h => by simp at h; exact h.1) s C φ a w .normal s2 _ (fun a w hh => hQo a w hh) H h2 fun C' φ' a' w' H' => ?_
      exact post_sim hm hEQ hc j hQo hQ cs xs s2 C' φ' a' w' hk.2 (hd.imp_right fun h => by simp at h ⊢; exact h.2) H' hs
    · rename_i hnn
      refine code_simIn hm hEQ hc j x c hk.1.1 hk.1.2 (hd.imp_right fun h => by simp at h; exact h.1) s C φ a w x1 s1 _ (fun a w hh => hQo a w hh) H hs fun C' φ' a' w' H' => ?_
      have := hQ C' φ' a' w' H'
      cases x1 with
      | normal => exact absurd hs (hnn s1)
      | exit id => exact this
      | ret => exact this

theorem St.comp (K : St n C0 φ0 h0 w0 C φ (e, h) a W) (R : St n C φ h W C' φ' (e1, h1) a1 W') : St n C0 φ0 h0 w0 C' φ' (e1, h1) a1 W' := by
  have hsz := K.ext.size
  refine ⟨R.size, R.defers, K.ext.trans R.ext fun b hb => ?_, R.vt, fun t => (R.own t).base hsz, R.nodup, R.disj, R.hr, R.apart, fun id hid => ?_, fun id b hid hb => ?_, Nat.le_trans K.nx R.nx, R.gl⟩
  · obtain ⟨id, hid, hi⟩ := mem_HB.1 hb
    rcases Nat.lt_or_ge id h0.nx with h' | h'
    · exact .inl (mem_HB.2 ⟨id, h', by rw [← K.agr id h']; exact hi⟩)
    · exact .inr (K.new id b h' hi)
  · rw [R.agr id (Nat.lt_of_lt_of_le hid K.nx)]; exact K.agr id hid
  · rcases Nat.lt_or_ge id h.nx with h' | h'
    · rw [R.agr id h'] at hb; exact K.new id b hid hb
    · have := R.new id b h' hb; omega

theorem St.move' {Bs : List Nat} (K : St n C0 φ0 h0 w0 C φ (e, h) a W) (x : Ext Bs C W C' W') (hB : ∀ b ∈ Bs, w0.heap.size ≤ b ∧ (∀ id, φ id ≠ some b) ∧ ∀ t, b ∉ blks (e t) (tv a t)) : St n C0 φ0 h0 w0 C' φ (e, h) a W' :=
  ⟨K.size, K.defers, K.ext.trans x fun b hb => .inr (hB b hb).1, fun t => (K.vt t).mono x.mono (fun _ _ h => h), fun t => (K.own t).ext x fun b hb hm => (hB b hm).2.2 t hb, K.nodup, K.disj, K.hr.ext x fun b hb id => (hB b hb).2.1 id, K.apart, K.agr, K.new, K.nx, K.gl.mono x.mono⟩

/-- What a function hands back: a slice that it has made and filled is frozen. -/
def outF (h : Hp) : AV → Option AV
  | .msl id off k len => match h.m id with
    | some cs => if k = 1 ∧ off + len ≤ cs.length ∧ cs.all (fun c => c.leaf && c.pu) = true then some (.sl false 1 ((cs.drop off).take len)) else none
    | none => none
  | r => if r.pu then some r else none

theorem St.resultF (H : St n C0 (fun _ => none) Hp.e w0 C φ (e, h) a w) {fn : Func} {l : List ARes} (hk : resB P fn.results.toList l = true) (hl : (resSlots l).Nodup) {x r : AV}
    (hx : resOf e h l = some x) (hr : outF h x = some r) : ∃ v, (results fn a.tmps).run P w = .ok v w ∧ Fin w0.heap.size C0 w0 [] r v w := by
  by_cases hp : x.pu = true
  · have hxr : r = x := by
      unfold outF at hr
      split at hr
      · simp [AV.pu] at hp
      · rw [if_pos hp] at hr; exact (Option.some.inj hr).symm
    subst hxr
    obtain ⟨v, hrun, hf⟩ := H.result (fun _ _ => rfl) hk hl (r := r) (h1 := h.cut Hp.e.nx) (by rw [hx]; simp [leave, hp])
    exact ⟨v, hrun, hf.toFin hp⟩
  · unfold outF at hr
    split at hr
    · rename_i id off k len
      split at hr <;> try (simp at hr; done)
      rename_i cs hcs
      split at hr <;> simp at hr
      rename_i hcd
      obtain ⟨rfl, hlen, hall⟩ := hcd
      subst hr
      obtain ⟨v, hrun, hf⟩ := H.result (fun _ _ => rfl) hk hl (r := .msl id off 1 len) (h1 := h) (by rw [hx]; simp [leave, AV.pu])
      refine ⟨v, hrun, ?_⟩
      obtain ⟨C', φ', f1, f2, f3, f4, f5, f6, f7, f8, f9⟩ := hf
      obtain ⟨b, cap, rfl, hφ, hcap⟩ := f1.msl_inv
      obtain ⟨b', vs, el, g1, g2, g3, g4, g5⟩ := f3.obj id cs hcs
      rw [hφ] at g1; cases g1
      have f2 : Ext [] C0 w0 C' w := f2
      have hb := f5 id b (Nat.zero_le _) hφ
      have hlt := f3.lt id b hφ
      have hvl : cs.length = vs.size := by have := g4.1; simpa using this
      obtain ⟨C2, hC2⟩ : ∃ C2 : Pub, C2 = fun b2 o => if b2 = b then vs[o]? else C' b2 o := ⟨_, rfl⟩
      have hmono : ∀ b2 o v, C' b2 o = some v → C2 b2 o = some v := fun b2 o v hv => by
        rw [hC2]; simp only
        rw [if_neg (fun hh => by rw [hh, g3 o] at hv; cases hv)]; exact hv
      have hcell : ∀ (i : Nat) c, cs[i]? = some c → c.leaf = true ∧ c.pu = true ∧ ∃ v, vs[i]? = some v ∧ VR C2 c v := fun i c hc => by
        have h1 := List.all_eq_true.1 hall c (List.mem_of_getElem? hc)
        simp only [Bool.and_eq_true] at h1
        have hi : i < vs.size := by rw [← hvl]; exact (List.getElem?_eq_some_iff.1 hc).1
        refine ⟨h1.1, h1.2, vs[i], by simp [hi], ?_⟩
        exact ((g4.2 i c vs[i] hc (by simp [hi])).toVR h1.2).mono hmono
      refine ⟨C2, ?_, ⟨f2.os, f2.tape, f2.output, f2.size, fun b2 hb2 hn => ⟨(f2.old b2 hb2 hn).1, fun o => ?_⟩, fun b2 o v hv => hmono _ _ _ (f2.mono _ _ _ hv), fun b2 o v hv => ?_⟩, ownP_of_share rfl, by rw [blks_nil_of_share rfl]; simp, by rw [blks_nil_of_share rfl]; simp⟩
      · have hL : ((cs.drop off).take len).length = len := by simp; omega
        have hg : ∀ (i : Nat) x, ((cs.drop off).take len)[i]? = some x → cs[off + i]? = some x := fun i x hi => by
          rw [List.getElem?_take] at hi
          split at hi <;> simp at hi
          exact hi
        have hc1 : ∀ x : AV, x.leaf = true → x.cells = [x] := fun x hx => by cases x <;> first | rfl | simp [AV.leaf] at hx
        have key := VR.sl (C := C2) false 1 ((cs.drop off).take len) b off none cap (fun i j => (vs[off + i]?).getD undef) (by rw [hL]; exact hcap) (fun _ => rfl)
          (fun x hx => by
            obtain ⟨i, hi⟩ := List.getElem?_of_mem hx
            rw [hc1 x (hcell _ x (hg i x hi)).1]; rfl)
          (fun i x j c hi hj => by
            obtain ⟨q1, q2, v, q3, q4⟩ := hcell _ x (hg i x hi)
            rw [hc1 x q1] at hj
            cases j with
            | zero =>
              simp at hj; subst hj
              refine ⟨q1, ?_⟩
              rw [hC2]; simp [q3]
            | succ j => simp at hj)
          (fun i x j c hi hj => by
            obtain ⟨q1, q2, v, q3, q4⟩ := hcell _ x (hg i x hi)
            rw [hc1 x q1] at hj
            cases j with
            | zero => simp at hj; subst hj; simpa [q3] using q4
            | succ j => simp at hj)
        rw [hL] at key
        exact key
      · rw [hC2]; simp only
        rw [if_neg (by omega)]
        exact (f2.old b2 hb2 hn).2 o
      · rw [hC2] at hv; simp only at hv
        split at hv
        · rename_i he; subst he
          unfold World.cell?
          simp [g2, hv]
        · exact f2.wd b2 o v hv
    · rw [if_neg hp] at hr; cases hr

/-- Leaving, the loop's mark among the deferred calls. -/
theorem leaves_mark {fn : Func} {res : List ARes} {x rv : AV} {R : Ending → World → Prop} (K : LI n C0 (fun _ => none) Hp.e w0 D r e a C φ h W) (S : St n C φ h W C' φ' (e1, h1) a1 W') (hres : resB P fn.results.toList res = true) (hnd : (resSlots res).Nodup)
    (hl : resOf e1 h1 res = some x) (ho : outF h1 x = some rv) (hR : ∀ v w', Fin w0.heap.size C0 w0 [] rv v w' → R (.returned v) w') :
    LeavesInM Fence.wide 0 P fn a1.tmps R [{ target := .collected D, args := #[] }] .returning W' := by
  have K1 := K.step S
  have S1 := K.st.comp S
  have hD := (Array.getElem?_eq_some_iff.1 K.dk).1
  have S2 := S1.move' (ext_put (o := .deferred none) K1.st.ext.wd K1.dc) (fun b hb => by
    simp at hb; subst hb
    refine ⟨K.ge, fun id => (K1.dp id).1, fun t ht => ?_⟩
    have := ((S.own t).lt _ ht).1
    omega)
  obtain ⟨v, hrun, hfin⟩ := S2.resultF hres hnd hl ho
  exact ⟨by simp, .inl ⟨D, _, rfl, run_takeDeferred K1.dk, ⟨v, hrun, hR v _ hfin⟩⟩⟩
end
end Go.Vm
