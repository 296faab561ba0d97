/- Code within a round of a range over a function goes as the abstract code goes. -/
import Derived.Test.YtacifbbmfkampaaDoorVmP
import Derived.RangeFuncNested
import Derived.RangeFuncCalls
import Derived.LoopNIn
namespace Go.Vm
open Go.RowKit
set_option linter.unusedVariables false
set_option linter.unusedSimpArgs false
set_option linter.unusedSectionVars false
variable [Glob]

abbrev fo (ro : Option Nat) : Fence := { Fence.wide with round := ro }
abbrev rnd (l : Nat) : Fence := fo (some l)
def dr (ds : List Deferred) (a : Act) : Act := { a with defers := ds }
theorem dr_nil {a : Act} (h : a.defers = []) : dr [] a = a := by cases a; simp only [dr] at *; rw [h]
theorem dr_put {ds : List Deferred} {a : Act} {d : Option Nat} {v : Value} : (dr ds a).put d v = dr ds (a.put d v) := by cases d <;> rfl
def Op.isDefer : Op → Bool | .defer _ => true | _ => false
def noDef (ops : Array Oper) : Bool := ops.toList.all fun o => !(Op.isDefer o.op)

section
variable {P : Program} {l : Option Nat} {m : Nat}

theorem callsIn_rnd {f : FuncId} {args : Array Value} {w : World} {R : Ending → World → Prop} (h : Calls P f args w R) : CallsIn (fo l) m P f args w R :=
  (callsIn_wide.2 h : CallsIn Fence.wide m P f args w R)
theorem rowsIn_rnd {row : String} {args : Array Value} {w : World} {R : Value → World → Prop} (h : Rows P row args w R) : RowsIn (fo l) m P row args w R :=
  fun c cs _ => let ⟨v, w', r, s⟩ := h c cs; ⟨v, w', r, stepsIn_wide.2 s⟩

theorem oper_in {o : Oper} {a : Act} {w : World} {K K' : Act → World → Prop} {Q : Exit → Act → World → Prop} (hd : Op.isDefer o.op = false) (h : o.wp P a w K Q)
    (hQ : ∀ a w, ¬ Q .outgrown a w) (hK : ∀ a w, K a w → K' a w) : o.wpIn (fo l) m P a w K' Q := by
  refine ⟨fun _ _ => trivial, ?_⟩
  rw [Oper.semAt_eq _ a.eval o (by intro c hc; rw [hc] at hd; simp [Op.isDefer] at hd)]
  unfold Oper.wp at h
  generalize (execOp a.eval o).run P w = r at h ⊢
  unfold Oper.upon at h
  unfold Oper.uponIn
  split at h
  · exact hK _ _ h
  · exact hK _ _ h
  · exact hK _ _ h
  · refine ⟨by simp [Fence.wide], CallsIn.mono (callsIn_rnd h) ?_⟩
    rintro e w'' he
    cases e with
    | returned v => exact hK _ _ he
    | panicked c => exact he
    | outgrown => exact he
  · exact ⟨by simp [Fence.wide], RowsIn.mono (rowsIn_rnd h) fun v w' hk => hK _ _ hk⟩
  · exact h
  · exact h.elim

theorem ops_in {ops : Array Oper} {Q : Exit → Act → World → Prop} (hd : noDef ops = true) (hQ : ∀ a w, ¬ Q .outgrown a w) : ∀ (is : List Nat) (a : Act) (w : World), wpOps P ops Q is a w → wpOpsIn (fo l) m P ops Q is a w
  | [], a, w, h => h
  | i :: is, a, w, h => by
    simp only [wpOps] at h
    simp only [wpOpsIn]
    cases ho : ops[i]? with
    | none => simp only [ho] at h ⊢; exact ops_in hd hQ is a w h
    | some o =>
      simp only [ho] at h ⊢
      by_cases hw : Region.wanted o (yielded ops a.tmps) = true
      · rw [if_pos hw] at h ⊢
        rcases h with h | ⟨_, a', w', hl⟩
        · refine oper_in ?_ h hQ fun a w hk => ops_in hd hQ is a w hk
          have := (List.all_eq_true.1 hd) o (by have := Array.mem_of_getElem? ho; simpa using this)
          simpa using this
        · exact absurd hl (hQ a' w')
      · rw [if_neg hw] at h ⊢
        exact ⟨fun _ _ => trivial, ops_in hd hQ is _ w h⟩

/-- The same, of a frame whose deferred calls are others. -/
theorem oper_in' {o : Oper} {a : Act} {w : World} {K K' : Act → World → Prop} {Q : Exit → Act → World → Prop} {ds : List Deferred} (hd : Op.isDefer o.op = false) (h : o.wp P a w K (fun e a w => Q e (dr ds a) w))
    (hQ : ∀ a w, ¬ Q .outgrown a w) (hK : ∀ a w, K a w → a.defers = [] ∧ K' (dr ds a) w) : o.wpIn (fo l) m P (dr ds a) w K' Q := by
  refine ⟨fun _ _ => trivial, ?_⟩
  rw [Oper.semAt_eq _ (dr ds a).eval o (by intro c hc; rw [hc] at hd; simp [Op.isDefer] at hd), show (dr ds a).eval = a.eval from rfl]
  unfold Oper.wp at h
  generalize (execOp a.eval o).run P w = r at h ⊢
  unfold Oper.upon at h
  unfold Oper.uponIn
  split at h
  · simp only [dr_put]; exact (hK _ _ h).2
  · simp only [dr_put]; exact (hK _ _ h).2
  · rename_i d w'
    have := (hK _ _ h).1
    cases hdst : o.dst <;> simp [Act.put, hdst] at this
  · refine ⟨by simp [Fence.wide], CallsIn.mono (callsIn_rnd h) ?_⟩
    rintro e w'' he
    cases e with
    | returned v => simp only [dr_put]; exact (hK _ _ he).2
    | panicked c => exact he
    | outgrown => obtain ⟨a', w', hq⟩ := he; exact absurd hq (hQ _ _)
  · exact ⟨by simp [Fence.wide], RowsIn.mono (rowsIn_rnd h) fun v w' hk => by simp only [dr_put]; exact (hK _ _ hk).2⟩
  · exact h
  · exact h.elim

def noDraw : Code → Bool
  | .region _ _ d => !d
  | .seq a b => noDraw a && noDraw b
  | .cond _ a b => noDraw a && noDraw b
  | .block _ c => noDraw c
  | .loop c => noDraw c
  | _ => true
def noDefC : Code → Bool
  | .region _ ops _ => noDef ops
  | .seq a b => noDefC a && noDefC b
  | .cond _ a b => noDefC a && noDefC b
  | .block _ c => noDefC c
  | .loop c => noDefC c
  | _ => true
end

section
variable {P : Program} {n : Nat} {C0 C : Pub} {φ0 φ : Phi} {h0 h h' : Hp} {w0 w : World} {e : Env} {s : Env × Hp} {a : Act} {EQ : List TypeId} {call : CallH} {l : Option Nat} {m : Nat} {ds : List Deferred}

/-- The first operations of a region. -/
theorem opsP_in (hEQ : ∀ t ∈ EQ, EqLaw P t) (hc : CallingH P call) {ops : Array Oper} {Q : Exit → Act → World → Prop} {rest : List Nat} {sf : Env × Hp} (hQo : ∀ a w, ¬ Q .outgrown a w) (hQ : ∀ C' φ' a' w', St n C0 φ0 h0 w0 C' φ' sf a' w' → wpOpsIn (fo l) m P ops Q rest (dr ds a') w') :
    ∀ (os : List Oper) (xs : List AOper) (i : Nat) (s : Env × Hp) (C : Pub) (φ : Phi) (a : Act) (w : World), (∀ (j : Nat) o, os[j]? = some o → ops[i + j]? = some o) → (os.all fun o => !(Op.isDefer o.op)) = true → chkOps P EQ n ops os xs = true → St n C0 φ0 h0 w0 C φ s a w → steps call xs s = some sf →
      wpOpsIn (fo l) m P ops Q (List.range' i os.length ++ rest) (dr ds a) w
  | [], [], i, s, C, φ, a, w, _, _, _, h, hs => by
    simp [steps] at hs; subst hs
    simpa using hQ C φ a w h
  | [], _ :: _, _, _, _, _, _, _, _, _, hk, _, _ => by simp [chkOps] at hk
  | _ :: _, [], _, _, _, _, _, _, _, _, hk, _, _ => by simp [chkOps] at hk
  | o :: os, x :: xs, i, s, C, φ, a, w, hi, hd, hk, h, hs => by
    simp only [chkOps, Bool.and_eq_true] at hk
    simp only [List.all_cons, Bool.and_eq_true] at hd
    simp only [steps] at hs
    split at hs <;> try (simp at hs; done)
    rename_i s1 hs1
    have ho : ops[i]? = some o := by simpa using hi 0 o rfl
    have key := op_sim (K := fun a' w' => a'.defers = [] ∧ wpOpsIn (fo l) m P ops Q (List.range' (i + 1) os.length ++ rest) (dr ds a') w') (Q := fun e a w => Q e (dr ds a) w) hEQ hc ho hk.1 h hs1
      (fun C' φ' a' w' h' => ⟨h'.defers, opsP_in hEQ hc hQo hQ os xs (i + 1) s1 C' φ' a' w' (fun j o' hj => by have := hi (j + 1) o' (by simpa using hj); rwa [show i + 1 + j = i + (j + 1) by omega]) hd.2 hk.2 h' hs⟩)
    rw [List.length_cons, List.range'_succ, List.cons_append]
    unfold wpOp at key
    simp only [ho] at key
    unfold wpOpsIn
    simp only [ho]
    have hy : yielded ops (dr ds a).tmps = yielded ops a.tmps := rfl
    by_cases hw : Region.wanted o (yielded ops a.tmps) = true
    · rw [if_pos hw] at key
      rw [hy, if_pos hw]
      rcases key with key | ⟨_, a', w', hl⟩
      · exact oper_in' (by simpa using hd.1) key hQo fun a' w' hh => hh
      · exact absurd hl (hQo _ _)
    · rw [if_neg hw] at key
      rw [hy, if_neg hw]
      exact ⟨fun _ _ => trivial, by rw [dr_put]; exact key.2⟩

/-- In a round. -/
theorem code_simIn (hm : P.follows .mixedOrders = true) (hEQ : ∀ t ∈ EQ, EqLaw P t) (hc : CallingH P call) (j : Nat) :
    ∀ (ac : ACode) (c : Code), chkCode P EQ n c ac = true → noDefC c = true → (ds = [] ∨ noDraw c = true) → ∀ (e : Env × Hp) (C : Pub) (φ : Phi) (a : Act) (w : World) (x : AExit) (e' : Env × Hp) (Q : Exit → Act → World → Prop), (∀ a w, ¬ Q .outgrown a w) →
      St n C0 φ0 h0 w0 C φ e a w → evC call j ac e = some (x, e') → (∀ C' φ' a' w', St n C0 φ0 h0 w0 C' φ' e' a' w' → Q x.ex (dr ds a') w') → c.wpIn (fo l) m P Q (dr ds a) w := by
  intro ac
  induction ac with
  | skip =>
    intro c hk hd hdw e C φ a w x e' Q hQo h hs hQ
    cases c <;> simp [chkCode] at hk
    simp [evC] at hs; obtain ⟨rfl, rfl⟩ := hs
    exact wpIn_skip (hQ C φ a w h)
  | ops os =>
    intro c hk hd hdw e C φ a w x e' Q hQo h hs hQ
    cases c <;> simp [chkCode] at hk
    rename_i id ops draw
    obtain ⟨hk, hdr⟩ := hk
    have hd : noDef ops = true := hd
    simp only [evC] at hs
    split at hs <;> simp at hs
    rename_i e1 he1
    obtain ⟨rfl, rfl⟩ := hs
    cases draw with
    | false =>
      refine wpIn_region ?_
      have := opsP_in (l := l) (m := m) (ds := ds) (Q := Q) (rest := []) hEQ hc (ops := ops) hQo (fun C' φ' a' w' h' => by unfold wpOpsIn; exact hQ C' φ' a' w' h') ops.toList os 0 e C φ a w (fun j o hj => by simpa using hj) hd hk h he1
      rwa [← List.range_eq_range', List.append_nil] at this
    | true =>
      have hds : ds = [] := by rcases hdw with h' | h'; exact h'; simp [noDraw] at h'
      subst hds
      rw [dr_nil h.defers]
      have hQ : ∀ C' φ' a' w', St n C0 φ0 h0 w0 C' φ' e1 a' w' → Q .normal a' w' := fun C' φ' a' w' h' => by have := hQ C' φ' a' w' h'; rwa [dr_nil h'.defers] at this
      have hdr : drawOk ops.toList os = true := by simpa using hdr
      refine wpIn_region_draw fun t => ops_in hd hQo _ _ _ ?_
      simp only [Region.schedule, hm, Bool.true_or, if_true]
      refine wpAny_sound ops.size t _ a _ ?_
      have hall : ((List.range ops.size).filter fun i => !(Array.replicate ops.size false).getD i true) = List.range ops.size := by
        refine List.filter_eq_self.2 fun i hi => ?_
        have := List.mem_range.1 hi
        simp [this]
      refine draw_sim hEQ hc hk hdr hQ ops.size (Array.replicate ops.size false) e C φ a _ (by simp) (fun k o ho hk' => ?_) ?_ ?_ h.drew
      · have := (Array.getElem?_eq_some_iff.1 ho).1
        simp [this] at hk'
      · rw [hall]; simp
      · rw [hall]
        have := stepsI_range (call := call) os os 0 e (fun j y hy => by simpa using hy)
        rw [← List.range_eq_range', ← (chkOps_get hk).1, Array.length_toList] at this
        rw [this]; exact he1
  | seq p q ihp ihq =>
    intro c hk hd hdw e C φ a w x e' Q hQo h hs hQ
    cases c <;> simp [chkCode] at hk
    obtain ⟨hk1, hk2⟩ := hk
    simp only [noDefC, Bool.and_eq_true] at hd
    simp only [evC] at hs
    refine wpIn_seq ?_
    split at hs
    · rename_i e1 he1
      exact ihp _ hk1 hd.1 (hdw.imp_right fun h => by simp only [noDraw, Bool.and_eq_true] at h; exact h.1) e C φ a w .normal e1 _ (fun a w hh => hQo a w hh) h he1 fun C' φ' a' w' h' => ihq _ hk2 hd.2 (hdw.imp_right fun h => by simp only [noDraw, Bool.and_eq_true] at h; exact h.2) e1 C' φ' a' w' x e' Q hQo h' hs hQ
    · rename_i hnn
      refine ihp _ hk1 hd.1 (hdw.imp_right fun h => by simp only [noDraw, Bool.and_eq_true] at h; exact h.1) e C φ a w x e' _ (fun a w hh => hQo a w hh) h hs fun C' φ' a' w' h' => ?_
      have := hQ C' φ' a' w' h'
      cases x with
      | normal => exact absurd hs (hnn e')
      | exit id => exact this
      | ret => exact this
  | cond x p q ihp ihq =>
    intro c hk hd hdw e C φ a w y e' Q hQo h hs hQ
    cases c <;> simp [chkCode] at hk
    obtain ⟨⟨hk0, hk1⟩, hk2⟩ := hk
    simp only [noDefC, Bool.and_eq_true] at hd
    simp only [evC] at hs
    split at hs
    · rename_i hb; exact wpIn_cond_true (show (dr ds a).eval _ = _ from (cond_sim (a := a) hk0 h hb : a.eval _ = _)) (ihp _ hk1 hd.1 (hdw.imp_right fun h => by simp only [noDraw, Bool.and_eq_true] at h; exact h.1) e C φ a w y e' Q hQo h hs hQ)
    · rename_i hb; exact wpIn_cond_false (show (dr ds a).eval _ = _ from (cond_sim (a := a) hk0 h hb : a.eval _ = _)) (ihq _ hk2 hd.2 (hdw.imp_right fun h => by simp only [noDraw, Bool.and_eq_true] at h; exact h.2) e C φ a w y e' Q hQo h hs hQ)
    · simp at hs
  | block id p ih =>
    intro c hk hd hdw e C φ a w x e' Q hQo h hs hQ
    cases c <;> simp [chkCode] at hk
    obtain ⟨rfl, hk⟩ := hk
    rename_i id p'
    have hd : noDefC p' = true := hd
    simp only [evC] at hs
    refine wpIn_block ?_
    split at hs
    · rename_i i e1 he1
      refine ih _ hk hd hdw e C φ a w (.exit i) e1 _ (fun a w hh => hQo a w hh) h he1 fun C' φ' a' w' h' => ?_
      simp only [AExit.ex, Exit.inBlock]
      split at hs
      · rename_i hi
        simp at hs; obtain ⟨rfl, rfl⟩ := hs
        rw [if_pos hi]; exact hQ C' φ' a' w' h'
      · rename_i hi
        simp at hs; obtain ⟨rfl, rfl⟩ := hs
        rw [if_neg hi]; exact hQ C' φ' a' w' h'
    · rename_i hnn
      refine ih _ hk hd hdw e C φ a w x e' _ (fun a w hh => hQo a w hh) h hs fun C' φ' a' w' h' => ?_
      have := hQ C' φ' a' w' h'
      cases x with
      | exit i => exact absurd hs (hnn i e')
      | normal => exact this
      | ret => exact this
  | loop p ih =>
    intro c hk hd hdw e C φ a w x e' Q hQo h hs hQ
    cases c <;> simp [chkCode] at hk
    rename_i p'
    have hd : noDefC p' = true := hd
    simp only [evC] at hs
    have key : ∀ (k : Nat) (e : Env × Hp) (C : Pub) (φ : Phi) (a : Act) (w : World), St n C0 φ0 h0 w0 C φ e a w → iter (evC call j p) k e = some (x, e') → Code.roundsIn (fo l) m P p' Q k (dr ds a) w := by
      intro k
      induction k with
      | zero => intro e C φ a w _ hs; simp [iter] at hs
      | succ k ihm =>
        intro e C φ a w h hs
        simp only [iter] at hs
        rw [roundsIn_succ]
        split at hs
        · rename_i e1 he1
          exact ih _ hk hd hdw e C φ a w .normal e1 _ (fun a w hh => hQo a w hh) h he1 fun C' φ' a' w' h' => ihm e1 C' φ' a' w' h' hs
        · rename_i hnn
          refine ih _ hk hd hdw e C φ a w x e' _ (fun a w hh => hQo a w hh) h hs fun C' φ' a' w' h' => ?_
          have := hQ C' φ' a' w' h'
          cases x with
          | normal => exact absurd hs (hnn e')
          | exit id => exact this
          | ret => exact this
    exact wpIn_loop_rounds j (key j e C φ a w h hs)
  | exit id =>
    intro c hk hd hdw e C φ a w x e' Q hQo h hs hQ
    cases c <;> simp [chkCode] at hk
    subst hk
    simp [evC] at hs; obtain ⟨rfl, rfl⟩ := hs
    exact wpIn_exit (hQ C φ a w h)
  | ret =>
    intro c hk hd hdw e C φ a w x e' Q hQo h hs hQ
    cases c <;> simp [chkCode] at hk
    simp [evC] at hs; obtain ⟨rfl, rfl⟩ := hs
    exact wpIn_ret (hQ C φ a w h)
  | bad => intro c hk hd hdw e C φ a w x e' Q hQo h hs hQ; simp [evC] at hs
end
end Go.Vm
