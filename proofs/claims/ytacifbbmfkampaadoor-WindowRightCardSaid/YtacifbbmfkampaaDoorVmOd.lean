/- slices.Backward: its function is an iterator that keeps its contract. -/
import Derived.Test.YtacifbbmfkampaaDoorVmOc
import Derived.Test.YtacifbbmfkampaaDoorVmN
namespace Go.Vm
open Go.RowKit
set_option linter.unusedVariables false
set_option linter.unusedSimpArgs false
set_option linter.unusedSectionVars false
variable [Glob]

section
variable {P : Program} {n m : Nat} {C0 C C' : Pub} {φ0 φ φ' : Phi} {h0 h : Hp} {w0 w w' : World} {e e' : Env} {a a' : Act} {EQ : List TypeId} {call : CallH} {ro : Option Nat}

theorem oper_put {o : Oper} {K : Act → World → Prop} {Q : Exit → Act → World → Prop} (h : o.wp P a w K Q) : o.wp P a w (fun a' w' => K a' w' ∧ ∀ t, o.dst ≠ some t → tv a' t = tv a t) Q := by
  have tvp : ∀ (b : Act) v t, o.dst ≠ some t → tv (b.put o.dst v) t = tv b t := fun b v t ht => by
    cases hd : o.dst with
    | none => rfl
    | some d => exact tv_put_other (fun he => ht (by rw [hd, he]))
  unfold Oper.wp at h ⊢
  generalize (execOp a.eval o).run P w = r at h ⊢
  unfold Oper.upon at h ⊢
  split at h
  · exact ⟨h, tvp a _⟩
  · exact ⟨h, tvp a _⟩
  · exact ⟨h, fun t ht => tvp _ _ t ht⟩
  · refine Calls.mono h ?_
    rintro e w'' he
    cases e with
    | returned v => exact ⟨he, tvp a _⟩
    | panicked c => exact he
    | outgrown => exact he
  · exact Rows.mono h fun v w' hk => ⟨hk, tvp a _⟩
  · exact h
  · exact h.elim

def keeps (os : List Oper) (t : Nat) : Bool := os.all fun o => !(o.dst == some t)

/-- The first operations of a region; the slots that they don't write. -/
theorem opsK_in (hEQ : ∀ t ∈ EQ, EqLaw P t) (hc : CallingH P call) {ops : Array Oper} {Q : Exit → Act → World → Prop} {rest : List Nat} {sf : Env × Hp} (hQo : ∀ a w, ¬ Q .outgrown a w) {ab : Act} (kp : Nat → Prop)
    (hQ : ∀ C' φ' a' w', St n C0 φ0 h0 w0 C' φ' sf a' w' → (∀ t, kp t → tv a' t = tv ab t) → wpOpsIn (fo ro) m P ops Q rest a' w') :
    ∀ (os : List Oper) (xs : List AOper) (i : Nat) (s : Env × Hp) (C : Pub) (φ : Phi) (a : Act) (w : World), (∀ (j : Nat) o, os[j]? = some o → ops[i + j]? = some o) → noDef ops = true → (∀ o ∈ os, ∀ t, kp t → o.dst ≠ some t) → chkOps P EQ n ops os xs = true → St n C0 φ0 h0 w0 C φ s a w → (∀ t, kp t → tv a t = tv ab t) → steps call xs s = some sf →
      wpOpsIn (fo ro) m P ops Q (List.range' i os.length ++ rest) a w
  | [], [], i, s, C, φ, a, w, _, _, _, _, h, hab, hs => by
    simp [steps] at hs; subst hs
    simpa using hQ C φ a w h hab
  | [], _ :: _, _, _, _, _, _, _, _, _, _, hk, _, _, _ => by simp [chkOps] at hk
  | _ :: _, [], _, _, _, _, _, _, _, _, _, hk, _, _, _ => by simp [chkOps] at hk
  | o :: os, x :: xs, i, s, C, φ, a, w, hi, hd, hkq, hk, h, hab, hs => by
    simp only [chkOps, Bool.and_eq_true] at hk
    simp only [steps] at hs
    split at hs <;> try (simp at hs; done)
    rename_i s1 hs1
    have ho : ops[i]? = some o := by simpa using hi 0 o rfl
    have hmem : o ∈ ops.toList := by have := Array.mem_of_getElem? ho; simpa using this
    have hdo : Op.isDefer o.op = false := by simpa using List.all_eq_true.1 hd o hmem
    have hkp : ∀ t, kp t → o.dst ≠ some t := fun t ht => hkq o (by simp) t ht
    have key := op_sim (K := fun a' w' => (∀ t, o.dst ≠ some t → tv a' t = tv a t) → wpOpsIn (fo ro) m P ops Q (List.range' (i + 1) os.length ++ rest) a' w') (Q := Q) hEQ hc ho hk.1 h hs1
      (fun C' φ' a' w' h' hput => opsK_in hEQ hc hQo kp hQ os xs (i + 1) s1 C' φ' a' w' (fun j o' hj => by have := hi (j + 1) o' (by simpa using hj); rwa [show i + 1 + j = i + (j + 1) by omega] ) hd (fun o ho => hkq o (by simp [ho])) hk.2 h' (fun t ht => (hput t (hkp t ht)).trans (hab t ht)) hs)
    rw [List.length_cons, List.range'_succ, List.cons_append]
    unfold wpOp at key
    simp only [ho] at key
    unfold wpOpsIn
    simp only [ho]
    by_cases hw : Region.wanted o (yielded ops a.tmps) = true
    · rw [if_pos hw] at key
      rw [if_pos hw]
      rcases key with key | ⟨_, a', w', hl⟩
      · exact oper_in hdo (oper_put key) hQo fun a' w' hh => hh.1 hh.2
      · exact absurd hl (hQo _ _)
    · rw [if_neg hw] at key
      rw [if_neg hw]
      exact ⟨fun _ _ => trivial, key fun t ht => by
        cases hd : o.dst with
        | none => rfl
        | some d => exact tv_put_other (fun he => ht (by rw [hd, he]))⟩

/-- A whole region. -/
theorem reg_in (hEQ : ∀ t ∈ EQ, EqLaw P t) (hc : CallingH P call) {id : Nat} {ops : Array Oper} {xs : List AOper} {Q : Exit → Act → World → Prop} (hQo : ∀ a w, ¬ Q .outgrown a w) (hd : noDef ops = true) (hk : chkOps P EQ n ops ops.toList xs = true)
    (H : St n C0 φ0 h0 w0 C φ (e, h) a w) {sf : Env × Hp} (hs : steps call xs (e, h) = some sf) (hQ : ∀ C' φ' a' w', St n C0 φ0 h0 w0 C' φ' sf a' w' → (∀ t, keeps ops.toList t = true → tv a' t = tv a t) → Q .normal a' w') :
    (Code.region id ops false).wpIn (fo ro) m P Q a w := by
  refine wpIn_region ?_
  have := opsK_in (ro := ro) (m := m) (rest := []) (ab := a) hEQ hc hQo (ops := ops) (fun t => keeps ops.toList t = true) (fun C' φ' a' w' h' hk => by unfold wpOpsIn; exact hQ C' φ' a' w' h' hk) ops.toList xs 0 (e, h) C φ a w (fun j o hj => by simpa using hj) hd (fun o ho t ht => by simpa using List.all_eq_true.1 ht o ho) hk H (fun _ _ => rfl) hs
  rwa [← List.range_eq_range', List.append_nil] at this

end
end Go.Vm
