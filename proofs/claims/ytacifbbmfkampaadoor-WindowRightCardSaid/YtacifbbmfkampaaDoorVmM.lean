/- Code, functions, calls. -/
import Derived.Test.YtacifbbmfkampaaDoorVmL
import Derived.LoopN
import Derived.Conc.Own4
namespace Go.Vm
open Go.RowKit
set_option linter.unusedVariables false
set_option linter.unusedSimpArgs false
set_option linter.unusedSectionVars false
variable [Glob]

def AExit.ex : AExit → Exit
  | .normal => .normal
  | .exit id => .exit id
  | .ret => .ret

def chkCode (P : Program) (EQ : List TypeId) (n : Nat) : Code → ACode → Bool
  | .skip, .skip => true
  | .region _ ops draw, .ops xs => chkOps P EQ n ops ops.toList xs && (!draw || drawOk ops.toList xs)
  | .seq a b, .seq a' b' => chkCode P EQ n a a' && chkCode P EQ n b b'
  | .cond c a b, .cond x a' b' => chkOpd c x && chkCode P EQ n a a' && chkCode P EQ n b b'
  | .block id c, .block id' c' => id == id' && chkCode P EQ n c c'
  | .loop c, .loop c' => chkCode P EQ n c c'
  | .exit id, .exit id' => id == id'
  | .ret, .ret => true
  | _, .bad => true
  | _, _ => false

section
variable {P : Program} {n : Nat} {C0 C : Pub} {φ0 φ : Phi} {h0 h h' : Hp} {w0 w : World} {e : Env} {s : Env × Hp} {a : Act} {EQ : List TypeId} {call : CallH}

theorem cond_sim {c : Operand} {x : AOpd} {b : Bool} (hk : chkOpd c x = true) (h : St n C0 φ0 h0 w0 C φ s a w) (hb : (rd s.1 x).1 = .bool b) : a.eval c = .bool b := by
  obtain ⟨e, hh⟩ := s
  obtain ⟨g, _⟩ := rds_sim [c] [x] e h (by simp [chkOpds, hk])
  have hr : (rds e [x]).1 = [(rd e x).1] := rfl
  have hb : (rd e x).1 = .bool b := hb
  rw [hr, hb] at g
  have := (g.2 0 (.bool b) (a.eval c) rfl rfl).toVR rfl
  generalize a.eval c = u at this ⊢
  cases this; rfl

/-- Code goes as the abstract code goes. -/
theorem code_sim (hm : P.follows .mixedOrders = true) (hEQ : ∀ t ∈ EQ, EqLaw P t) (hc : CallingH P call) (j : Nat) :
    ∀ (ac : ACode) (c : Code), chkCode P EQ n c ac = true → ∀ (e : Env × Hp) (C : Pub) (φ : Phi) (a : Act) (w : World) (x : AExit) (e' : Env × Hp) (Q : Exit → Act → World → Prop),
      St n C0 φ0 h0 w0 C φ e a w → evC call j ac e = some (x, e') → (∀ C' φ' a' w', St n C0 φ0 h0 w0 C' φ' e' a' w' → Q x.ex a' w') → c.wp P Q a w := by
  intro ac
  induction ac with
  | skip =>
    intro c hk e C φ a w x e' Q h hs hQ
    cases c <;> simp [chkCode] at hk
    simp [evC] at hs; obtain ⟨rfl, rfl⟩ := hs
    exact wp_skip (hQ C φ a w h)
  | ops l =>
    intro c hk e C φ a w x e' Q h hs hQ
    cases c <;> simp [chkCode] at hk
    rename_i id ops draw
    obtain ⟨hk, hd⟩ := hk
    simp only [evC] at hs
    split at hs <;> simp at hs
    rename_i e1 he1
    obtain ⟨rfl, rfl⟩ := hs
    cases draw with
    | false =>
      refine wp_region ?_
      have := ops_sim (Q := Q) hEQ hc (ops := ops) hQ ops.toList l 0 e C φ a w (fun j o hj => by simpa using hj) hk h he1
      rwa [← List.range_eq_range'] at this
    | true =>
      have hd : drawOk ops.toList l = true := by simpa using hd
      refine wp_region_any hm ?_
      have hall : ((List.range ops.size).filter fun i => !(Array.replicate ops.size false).getD i true) = List.range ops.size := by
        refine List.filter_eq_self.2 fun i hi => ?_
        have := List.mem_range.1 hi
        simp [this]
      refine draw_sim hEQ hc hk hd hQ ops.size (Array.replicate ops.size false) e C φ a _ (by simp) (fun k o ho hk' => ?_) ?_ ?_ h.drew
      · have := (Array.getElem?_eq_some_iff.1 ho).1
        simp [this] at hk'
      · rw [hall]; simp
      · rw [hall]
        have := stepsI_range (call := call) l l 0 e (fun j y hy => by simpa using hy)
        rw [← List.range_eq_range', ← (chkOps_get hk).1, Array.length_toList] at this
        rw [this]; exact he1
  | seq p q ihp ihq =>
    intro c hk e C φ a w x e' Q h hs hQ
    cases c <;> simp [chkCode] at hk
    obtain ⟨hk1, hk2⟩ := hk
    simp only [evC] at hs
    refine wp_seq ?_
    split at hs
    · rename_i e1 he1
      exact ihp _ hk1 e C φ a w .normal e1 _ h he1 fun C' φ' a' w' h' => ihq _ hk2 e1 C' φ' a' w' x e' Q h' hs hQ
    · rename_i hnn
      refine ihp _ hk1 e C φ a w x e' _ h hs fun C' φ' a' w' h' => ?_
      have := hQ C' φ' a' w' h'
      cases x with
      | normal => exact absurd hs (hnn e')
      | exit id => exact this
      | ret => exact this
  | cond x p q ihp ihq =>
    intro c hk e C φ a w y e' Q h hs hQ
    cases c <;> simp [chkCode] at hk
    obtain ⟨⟨hk0, hk1⟩, hk2⟩ := hk
    simp only [evC] at hs
    split at hs
    · rename_i hb; exact wp_cond_true (cond_sim hk0 h hb) (ihp _ hk1 e C φ a w y e' Q h hs hQ)
    · rename_i hb; exact wp_cond_false (cond_sim hk0 h hb) (ihq _ hk2 e C φ a w y e' Q h hs hQ)
    · simp at hs
  | block id p ih =>
    intro c hk e C φ a w x e' Q h hs hQ
    cases c <;> simp [chkCode] at hk
    obtain ⟨rfl, hk⟩ := hk
    rename_i id p'
    simp only [evC] at hs
    refine wp_block ?_
    split at hs
    · rename_i i e1 he1
      refine ih _ hk e C φ a w (.exit i) e1 _ h he1 fun C' φ' a' w' h' => ?_
      simp only [AExit.ex, Exit.inBlock]
      split at hs
      · rename_i hi
        simp at hs; obtain ⟨rfl, rfl⟩ := hs
        rw [if_pos hi]; exact hQ C' φ' a' w' h'
      · rename_i hi
        simp at hs; obtain ⟨rfl, rfl⟩ := hs
        rw [if_neg hi]; exact hQ C' φ' a' w' h'
    · rename_i hnn
      refine ih _ hk e C φ a w x e' _ h hs fun C' φ' a' w' h' => ?_
      have := hQ C' φ' a' w' h'
      cases x with
      | exit i => exact absurd hs (hnn i e')
      | normal => exact this
      | ret => exact this
  | loop p ih =>
    intro c hk e C φ a w x e' Q h hs hQ
    cases c <;> simp [chkCode] at hk
    rename_i p'
    simp only [evC] at hs
    have key : ∀ (m : Nat) (e : Env × Hp) (C : Pub) (φ : Phi) (a : Act) (w : World), St n C0 φ0 h0 w0 C φ e a w → iter (evC call j p) m e = some (x, e') → Code.rounds P p' Q m a w := by
      intro m
      induction m with
      | zero => intro e C φ a w _ hs; simp [iter] at hs
      | succ m ihm =>
        intro e C φ a w h hs
        simp only [iter] at hs
        rw [rounds_succ]
        split at hs
        · rename_i e1 he1
          exact ih _ hk e C φ a w .normal e1 _ h he1 fun C' φ' a' w' h' => ihm e1 C' φ' a' w' h' hs
        · rename_i hnn
          refine ih _ hk e C φ a w x e' _ h hs fun C' φ' a' w' h' => ?_
          have := hQ C' φ' a' w' h'
          cases x with
          | normal => exact absurd hs (hnn e')
          | exit id => exact this
          | ret => exact this
    exact wp_loop_rounds j (key j e C φ a w h hs)
  | exit id =>
    intro c hk e C φ a w x e' Q h hs hQ
    cases c <;> simp [chkCode] at hk
    subst hk
    simp [evC] at hs; obtain ⟨rfl, rfl⟩ := hs
    exact wp_exit (hQ C φ a w h)
  | ret =>
    intro c hk e C φ a w x e' Q h hs hQ
    cases c <;> simp [chkCode] at hk
    simp [evC] at hs; obtain ⟨rfl, rfl⟩ := hs
    exact wp_ret (hQ C φ a w h)
  | bad => intro c hk e C φ a w x e' Q h hs hQ; simp [evC] at hs

def resB1 (P : Program) : ResultVar → ARes → Bool
  | .tmp t, .t r => t == r
  | .cell a t, .cell b n agg => a == b && isAggB P t == some agg && sizeB P t == some n
  | _, _ => false
def resB (P : Program) : List ResultVar → List ARes → Bool
  | [], [] => true
  | x :: rs, r :: rs' => resB1 P x r && resB P rs rs'
  | _, _ => false
def resSlots : List ARes → List Nat
  | [] => []
  | .t i :: rs => i :: resSlots rs
  | _ :: rs => resSlots rs
def nodupB : List Nat → Bool
  | [] => true
  | x :: xs => !xs.contains x && nodupB xs
theorem nodupB_spec : ∀ {l : List Nat}, nodupB l = true → l.Nodup
  | [], _ => List.nodup_nil
  | x :: xs, h => by
    simp only [nodupB, Bool.and_eq_true, Bool.not_eq_true', ← Bool.not_eq_true, List.contains_iff_mem] at h
    exact List.nodup_cons.2 ⟨by simpa using h.1, nodupB_spec h.2⟩

def enterB (fn : Func) : Bool := fn.body.isSome && fn.name != "runtime.NumGoroutine"
def chkFn (P : Program) (EQ : List TypeId) (fn : Func) (af : AFunc) : Bool :=
  (match fn.body with | some c => chkCode P EQ fn.ntmps c af.body | none => false) && resB P fn.results.toList af.res && nodupB (resSlots af.res) && decide (af.np ≤ fn.ntmps)

/-- What is asked of a table of functions. -/
structure Sound (P : Program) (EQ : List TypeId) (E : FuncId → Option AFn) : Prop where
  mixed : P.follows .mixedOrders = true
  eqs : ∀ t ∈ EQ, EqLaw P t
  enter : ∀ f af, isX f = false → E f = some af → ∃ fn, P.funcs[f]? = some fn ∧ enterB fn = true
  code : ∀ f af, isX f = false → E f = some (.code af) → ∃ fn, P.funcs[f]? = some fn ∧ chkFn P EQ fn af = true
  prim : ∀ f F, isX f = false → E f = some (.prim F) → ∀ call, Calling P call → ∀ xs us r (C : Pub) (w : World), F call xs = some r → Wd C w → Gl C → VRs C xs us → (∀ x ∈ xs, x.share = x) →
    Calls P f us.toArray w fun e w' => ∃ v, e = .returned v ∧ Fin w.heap.size C w [] r v w'
  primH : ∀ f F, isX f = false → E f = some (.primH F) → ∀ call, CallingH P call → ∀ xs us h r h' (C : Pub) (φ : Phi) (w : World), F call xs h = some (r, h') → Wd C w → Gl C → HR C φ w h → VTs C φ xs us → (∀ x ∈ xs, x.share = x) →
    Calls P f us.toArray w fun e w' => ∃ v, e = .returned v ∧ FinH w.heap.size C φ w h [] r v w' h'
  primX : ∀ f F, E f = some (.primX F) → ∀ call, CallingH P call → ∀ o xs, xoG f o = some xs → ∀ (n0 : Nat) (C : Pub) (φ : Phi) (w : World) h vals r h' (ρ : Operand → Value), (∀ v, ρ (.const v) = v) → (∀ f, ρ (.func f) = .func (.func f) #[] #[]) → (∀ g, ρ (.global g) = .pointer (some ⟨g, 0, none⟩)) →
    ArgsH n0 C φ w h vals (xs.map ρ) → F call vals h = some (r, h') → Res P ((execOp ρ o).run P w) (fun v w' => FinH n0 C φ w h (blksL vals (xs.map ρ)) r v w' h')
  onlyX : ∀ f F, E f = some (.primX F) → isX f = true
  notX : ∀ f af, E f = some af → (∀ F, af ≠ .primX F) → isX f = false

/-- A load out of an object. -/
theorem ref_load {t : TypeId} {n : Nat} {agg : Bool} (ha : isAggB P t = some agg) (hn : sizeB P t = some n) (hh : HR C φ w h) {id o b : Nat} (hφ : φ id = some b) {r : AV} (hr : hLd n agg h [.ref id o] = some (r, h')) :
    ∃ v, (loadVar t ⟨b, o, none⟩).run P w = .ok v w ∧ VT C φ r v ∧ r.share = r := by
  simp only [hLd] at hr
  split at hr <;> try (simp at hr; done)
  rename_i cs hcs
  obtain ⟨b', us, el, h1, h2, h3, h4, h5⟩ := hh.obj id cs hcs
  rw [hφ] at h1; cases h1
  have hcell : ∀ o, w.cell? ⟨b, o, none⟩ = us[o]? := by intro o; simp [World.cell?, h2]
  cases agg
  · simp only [Bool.false_eq_true, if_false] at hr
    split at hr <;> simp at hr
    rename_i c hc
    obtain ⟨rfl, rfl⟩ := hr
    obtain ⟨u, hu, hcu⟩ := h4.get hc
    have hu' : us[o]? = some u := by simpa using hu
    refine ⟨u, ?_, hcu, ?_⟩
    · simp only [loadVar, Sem.run_bind, run_isAggB ha, Result.andThen_ok, Bool.false_eq_true, if_false, run_load, hcell, hu']
    · have h6 := h5 c (List.mem_of_getElem? hc)
      have h7 := cellOk_leaf h6.1
      cases c <;> first | exact h6.2 | simp [AV.leaf] at h7
  · simp only [if_true] at hr
    split at hr <;> simp at hr
    rename_i hle
    obtain ⟨rfl, rfl⟩ := hr
    obtain ⟨hle, hpu⟩ := hle
    have hsz : cs.length = us.size := by simpa using h4.1
    have hl : ((us.toList.drop o).take n).length = n := by simp; omega
    have hvs : VTs C φ ((cs.drop o).take n) ((us.toList.drop o).take n) := by
      refine ⟨by simp [hsz], fun i x v hx hv => ?_⟩
      by_cases hin : i < n
      · rw [List.getElem?_take, if_pos hin, List.getElem?_drop] at hx hv
        exact h4.2 (o + i) x v hx hv
      · rw [List.getElem?_take, if_neg hin] at hx; cases hx
    have hload := run_loadCells_list (P := P) w ⟨b, o, none⟩ ((us.toList.drop o).take n) (fun j v hj => by
      rw [List.getElem?_take] at hj
      split at hj <;> simp at hj
      rw [Addr.add_lit, hcell]; exact hj)
    rw [hl] at hload
    exact ⟨.agg ((us.toList.drop o).take n).toArray, by simp only [loadVar, Sem.run_bind, run_isAggB ha, Result.andThen_ok, if_true, run_sizeB hn, hload, Sem.run_pure], .pure (VR.agg_mk (hvs.toVRs (List.all_eq_true.2 (puL_iff.1 hpu)))), rfl⟩

def resOne (tmps : Array Value) : ResultVar → Sem Value
  | .tmp t => pure (tmps.getD t undef)
  | .cell p t => do loadVar t (← asAddr (tmps.getD p undef))
theorem results_eq (fn : Func) (tmps : Array Value) : results fn tmps = (do
    let vs ← fn.results.toList.toArray.mapM (resOne tmps)
    pure (if h : vs.size = 1 then vs[0] else .tuple vs)) := by
  unfold results
  have h : ∀ f g : ResultVar → Sem Value, (∀ x, f x = g x) → fn.results.mapM f = fn.results.toList.toArray.mapM g := by
    intro f g hfg
    have : f = g := funext hfg
    subst this; simp
  rw [h _ (resOne tmps) (fun x => by cases x <;> rfl)]

/-- One result. -/
theorem res1_sim (H : St n C0 φ0 h0 w0 C φ (e, h) a w) {rv : ResultVar} {ar : ARes} (hk : resB1 P rv ar = true) {x : AV} (hx : res1 e h ar = some x) :
    ∃ v, (resOne a.tmps rv).run P w = .ok v w ∧ VT C φ x v ∧ ownP C w w0.heap.size x v ∧
      (∀ b ∈ blks x v, ∃ t, ar = .t t ∧ b ∈ blks (e t) (tv a t)) ∧ (blks x v).Nodup := by
  unfold resB1 at hk
  split at hk
  · rename_i t r
    have hk : t = r := by simpa using hk
    subst hk
    simp [res1] at hx
    subst hx
    exact ⟨tv a t, by simp [tv, resOne], H.vt t, H.own t, fun b hb => ⟨t, rfl, hb⟩, H.nodup t⟩
  · rename_i p t b n' agg
    simp only [Bool.and_eq_true, beq_iff_eq] at hk
    obtain ⟨⟨rfl, ha⟩, hn⟩ := hk
    simp only [res1] at hx
    split at hx <;> try (simp at hx; done)
    rename_i id o hep
    split at hx <;> simp at hx
    rename_i r h1 hr
    subst hx
    have hvt : VT C φ (e p) (tv a p) := H.vt p
    rw [hep] at hvt
    obtain ⟨bb, hv, hφ⟩ := hvt.ref_inv
    obtain ⟨v, hrun, hvv, hsh⟩ := ref_load (P := P) ha hn H.hr hφ hr
    have hv' : a.tmps.getD p undef = .pointer (some ⟨bb, o, none⟩) := hv
    refine ⟨v, ?_, hvv, ownP_of_share hsh, ?_, ?_⟩
    · simp only [resOne, hv', asAddr, Sem.run_bind, Sem.run_pure, Result.andThen_ok, hrun]
    · rw [blks_nil_of_share hsh]; simp
    · rw [blks_nil_of_share hsh]; simp
  · simp at hk

def resV : List Value → Value
  | [v] => v
  | vs => .tuple vs.toArray

theorem own1_of (x : AV) (v : Value) (n0 : Nat) (ho : ownP C w n0 x v) (hn : (blks x v).Nodup) : own1 C w n0 x v ∧ (∀ b ∈ blk1 x v, b ∈ blks x v) ∧ (blk1 x v).Nodup := by
  unfold ownP at ho
  unfold blks at hn ⊢
  by_cases hx : comps x v = [(x, v)]
  · rw [hx] at ho hn ⊢
    exact ⟨ho (x, v) (by simp), by simp, by simpa using hn⟩
  · cases x with
    | tup vs => exact ⟨trivial, by simp [blk1], by simp [blk1]⟩
    | _ => exact absurd rfl hx

/-- The results, one by one. -/
theorem resL_sim (H : St n C0 φ0 h0 w0 C φ (e, h) a w) :
    ∀ (rvs : List ResultVar) (rs : List ARes), resB P rvs rs = true → (resSlots rs).Nodup → ∀ xs, resL e h rs = some xs →
      ∃ vs, (rvs.mapM (resOne a.tmps)).run P w = .ok vs w ∧ VTs C φ xs vs ∧ (∀ p ∈ xs.zip vs, own1 C w w0.heap.size p.1 p.2) ∧ ((xs.zip vs).flatMap fun p => blk1 p.1 p.2).Nodup ∧
        (∀ b ∈ (xs.zip vs).flatMap fun p => blk1 p.1 p.2, ∃ t ∈ resSlots rs, b ∈ blks (e t) (tv a t))
  | [], [], _, _, xs, hx => by
    simp [resL] at hx; subst hx
    exact ⟨[], by simp, VTs.nil, by simp, by simp, by simp⟩
  | [], _ :: _, hk, _, _, _ => by simp [resB] at hk
  | _ :: _, [], hk, _, _, _ => by simp [resB] at hk
  | rv :: rvs, r :: rs, hk, hnd, xs, hx => by
    simp only [resB, Bool.and_eq_true] at hk
    simp only [resL] at hx
    split at hx <;> simp at hx
    rename_i x xs' hx1 hx2
    subst hx
    have hnd' : (resSlots rs).Nodup := by
      cases r with
      | t i => exact (List.nodup_cons.1 hnd).2
      | cell => exact hnd
    obtain ⟨v, h1, h2, h3, h4, h5⟩ := res1_sim H hk.1 hx1
    obtain ⟨vs, k1, k2, k3, k4, k5⟩ := resL_sim H rvs rs hk.2 hnd' xs' hx2
    obtain ⟨o1, o2, o3⟩ := own1_of x v _ h3 h5
    refine ⟨v :: vs, ?_, VTs.cons h2 k2, ?_, ?_, ?_⟩
    · simp only [List.mapM_cons, Sem.run_bind, h1, Result.andThen_ok, k1, Sem.run_pure]
    · intro p hp
      simp only [List.zip_cons_cons, List.mem_cons] at hp
      rcases hp with rfl | hp
      · exact o1
      · exact k3 p hp
    · simp only [List.zip_cons_cons, List.flatMap_cons]
      refine List.nodup_append.2 ⟨o3, k4, fun b hb c hc hbc => ?_⟩
      subst hbc
      obtain ⟨t, rfl, ht⟩ := h4 b (o2 b hb)
      obtain ⟨t', ht', hb'⟩ := k5 b hc
      have hne : t ≠ t' := fun he => (List.nodup_cons.1 hnd).1 (by rw [he]; exact ht')
      exact H.disj t t' hne b ht hb'
    · intro b hb
      simp only [List.zip_cons_cons, List.flatMap_cons, List.mem_append] at hb
      rcases hb with hb | hb
      · obtain ⟨t, rfl, ht⟩ := h4 b (o2 b hb)
        exact ⟨t, by simp [resSlots], ht⟩
      · obtain ⟨t, ht, hb'⟩ := k5 b hb
        refine ⟨t, ?_, hb'⟩
        cases r <;> simp [resSlots, ht]

/-- What the results are, and own. -/
theorem St.result (H : St n C0 φ0 h0 w0 C φ (e, h) a w) (hnx : ∀ id, h0.nx ≤ id → φ0 id = none) {fn : Func} {l : List ARes} (hk : resB P fn.results.toList l = true) (hl : (resSlots l).Nodup) {r : AV} {h1 : Hp}
    (hr : leave h0 h (resOf e h l) = some (r, h1)) : ∃ v, (results fn a.tmps).run P w = .ok v w ∧ FinH w0.heap.size C0 φ0 w0 h0 [] r v w h1 := by
  have hmap : ∀ {α β : Type} (f : α → β) (x : Sem α), (f <$> x).run P w = (x.run P w).andThen fun a w' => .ok (f a) w' := by
    intro α β f x
    rw [← bind_pure_comp, Sem.run_bind]; simp
  unfold leave at hr
  split at hr <;> simp at hr
  rename_i r' hro
  obtain ⟨rfl, hr⟩ := hr
  have key : ∃ v, (results fn a.tmps).run P w = .ok v w ∧ VT C φ r' v ∧ ownP C w w0.heap.size r' v ∧ (∀ b ∈ blks r' v, w0.heap.size ≤ b ∧ ∀ id, φ id ≠ some b) ∧ (blks r' v).Nodup := by
    have hs : ∀ t, ∀ b ∈ blks (e t) (tv a t), w0.heap.size ≤ b ∧ ∀ id, φ id ≠ some b := fun t b hb => ⟨((H.own t).lt b hb).1, H.apart t b hb⟩
    have hres := results_eq fn a.tmps
    by_cases h1 : ∃ ar, l = [ar]
    · obtain ⟨ar, rfl⟩ := h1
      simp only [resOf] at hro
      cases hfr : fn.results.toList with
      | nil => rw [hfr] at hk; simp [resB] at hk
      | cons rv rvs =>
        rw [hfr] at hk
        simp only [resB, Bool.and_eq_true] at hk
        have hnil : rvs = [] := by cases rvs <;> simp_all [resB]
        subst hnil
        obtain ⟨v, g1, g2, g3, g4, g5⟩ := res1_sim H hk.1 hro
        refine ⟨v, ?_, g2, g3, fun b hb => by obtain ⟨t, _, ht⟩ := g4 b hb; exact hs t b ht, g5⟩
        rw [hres, hfr, List.mapM_toArray, Sem.run_bind, hmap]
        simp only [List.mapM_cons, List.mapM_nil, Sem.run_bind, Sem.run_pure, g1, Result.andThen_ok]
        simp
    · have e1 : ∃ xs, resL e h l = some xs ∧ r' = .tup xs := by
        unfold resOf at hro
        split at hro
        · rename_i ar; exact absurd ⟨ar, rfl⟩ h1
        · split at hro <;> simp at hro
          rename_i xs hxs; exact ⟨xs, hxs, hro.symm⟩
      obtain ⟨xs, hxs, rfl⟩ := e1
      obtain ⟨vs, g1, g2, g3, g4, g5⟩ := resL_sim H _ _ hk hl xs hxs
      have hlen : vs.length ≠ 1 := by
        intro h2
        have h3 : xs.length = 1 := by rw [g2.1]; exact h2
        match l, hxs with
        | [], hxs => simp [resL] at hxs; subst hxs; simp at h3
        | [ar], _ => exact h1 ⟨ar, rfl⟩
        | ar :: ar' :: l', hxs =>
          simp only [resL] at hxs
          split at hxs <;> simp at hxs
          rename_i y ys hy hys
          split at hys <;> simp at hys
          subst hxs; subst hys; simp at h3
      refine ⟨.tuple vs.toArray, ?_, VT.tup_mk g2, fun p hp => ?_, fun b hb => ?_, ?_⟩
      · rw [hres, List.mapM_toArray, Sem.run_bind, hmap]
        rw [g1]
        simp [hlen]
      · simp only [comps] at hp; exact g3 p hp
      · simp only [blks, comps] at hb
        obtain ⟨t, _, ht⟩ := g5 b hb
        exact hs t b ht
      · simpa [blks, comps] using g4
  obtain ⟨v, hrun, k1, k2, k3, k4⟩ := key
  refine ⟨v, hrun, ?_⟩
  have hnx0 : h0.nx ≤ h.nx := H.nx
  by_cases hp : r'.pu = true
  · rw [if_pos hp] at hr
    subst hr
    refine ⟨C, φ0, .pure (k1.toVR hp), by simpa using H.ext, ⟨fun id hid => ?_, fun id b hb => ?_, fun id id' b hb hb' => ?_, fun id cs hcs => ?_⟩, fun _ _ => rfl, fun id b hid hb => ?_, Nat.le_refl _, k2, fun b hb => ⟨.inr (k3 b hb).1, fun id hid => ?_⟩, k4⟩
    · have hid : h0.nx ≤ id := hid
      refine ⟨hnx id hid, ?_⟩
      simp only [Hp.cut]; rw [if_neg (by omega)]
    · rcases Nat.lt_or_ge id h0.nx with h2 | h2
      · exact H.hr.lt id b (by rw [H.agr id h2]; exact hb)
      · rw [hnx id h2] at hb; cases hb
    · rcases Nat.lt_or_ge id h0.nx with h2 | h2
      · rcases Nat.lt_or_ge id' h0.nx with h3 | h3
        · exact H.hr.inj id id' b (by rw [H.agr id h2]; exact hb) (by rw [H.agr id' h3]; exact hb')
        · rw [hnx id' h3] at hb'; cases hb'
      · rw [hnx id h2] at hb; cases hb
    · simp only [Hp.cut] at hcs
      split at hcs <;> try (simp at hcs; done)
      rename_i hid
      obtain ⟨b, vs, el, h1, h2, h3, h4, h5⟩ := H.hr.obj id cs hcs
      refine ⟨b, vs, el, by rw [← H.agr id hid]; exact h1, h2, h3, ⟨h4.1, fun i x v hx hv => ?_⟩, h5⟩
      have hvt := h4.2 i x v hx hv
      have hok := (h5 x (List.mem_of_getElem? hx)).1
      unfold AV.cellOk at hok
      split at hok
      · rename_i i' o'
        obtain ⟨b', rfl, hb'⟩ := hvt.ref_inv
        have : i' < id := by simpa using hok
        exact .ref _ _ _ (by rw [← H.agr i' (by omega)]; exact hb')
      · rename_i i' o' k' n'
        obtain ⟨b', cap, rfl, hb', hcap⟩ := hvt.msl_inv
        have : i' < id := by simpa using hok
        exact .msl _ _ _ _ _ _ (by rw [← H.agr i' (by omega)]; exact hb') hcap
      · simp only [Bool.and_eq_true] at hok
        exact .pure (hvt.toVR hok.2)
    · rw [hnx id hid] at hb; cases hb
    · rcases Nat.lt_or_ge id h0.nx with h2 | h2
      · exact (k3 b hb).2 id (by rw [H.agr id h2]; exact hid)
      · rw [hnx id h2] at hid; cases hid
  · rw [if_neg hp] at hr
    subst hr
    exact ⟨C, φ, k1, by simpa using H.ext, H.hr, H.agr, H.new, hnx0, k2, fun b hb => ⟨.inr (k3 b hb).1, (k3 b hb).2⟩, k4⟩

/-- The state at a function's start. -/
theorem St.start {xs : List AV} {us : List Value} (hw : Wd C w) (hg : Gl C) (hh : HR C φ w h) (hv : VTs C φ xs us) (hs : ∀ x ∈ xs, x.share = x) (hn : xs.length ≤ n) :
    St n C φ h w C φ (init xs, h) { tmps := us.toArray ++ Array.replicate (n - us.toArray.size) undef, defers := [] } w := by
  have hsh : ∀ t, (init xs t).share = init xs t := by
    intro t; unfold init; split
    · rename_i v hv; exact hs v (List.mem_of_getElem? hv)
    · rfl
  refine ⟨?_, rfl, .refl hw, fun t => ?_, fun t => ownP_of_share (hsh t), fun t => by show (blks (init xs t) _).Nodup; rw [blks_nil_of_share (hsh t)]; simp, fun t t' _ b hb => ?_, hh, fun t b hb => ?_, fun _ _ => rfl, fun id b hid hb => ?_, Nat.le_refl _, hg⟩
  · have := hv.1; simp; omega
  · have hl := hv.1
    show VT C φ (init xs t) _
    unfold init tv
    split
    · rename_i x hx
      have hlt : t < us.length := by rw [← hl]; exact (List.getElem?_eq_some_iff.1 hx).1
      refine hv.2 t x _ hx ?_
      simp [Array.getElem?_append, hlt]
    · rename_i hx
      have hge : us.length ≤ t := by rw [← hl]; exact List.getElem?_eq_none_iff.1 hx
      have e1 : (us.toArray ++ Array.replicate (n - us.toArray.size) undef).getD t undef = undef := by
        simp only [Array.getD_eq_getD_getElem?, Array.getElem?_append, List.size_toArray, Array.getElem?_replicate]
        rw [if_neg (by omega)]
        split <;> rfl
      show VT C φ (.tup []) ((us.toArray ++ Array.replicate (n - us.toArray.size) undef).getD t undef)
      rw [e1]
      exact VT.tup_mk VTs.nil
  · have hb : b ∈ blks (init xs t) (tv _ t) := hb
    rw [blks_nil_of_share (hsh t)] at hb; simp at hb
  · have hb : b ∈ blks (init xs t) (tv _ t) := hb
    rw [blks_nil_of_share (hsh t)] at hb; simp at hb
  · rw [(hh.dom id hid).1] at hb; cases hb

theorem callFunc_enter {f : FuncId} {fn : Func} (hf : P.funcs[f]? = some fn) (he : enterB fn = true) (args : Array Value) (w : World) : (callFunc f args).run P w = .ok (.enter f args) w := by
  unfold enterB at he
  simp only [Bool.and_eq_true, bne_iff_ne, ne_eq] at he
  have h1 : (fn.name == "runtime.NumGoroutine") = false := by simpa using he.2
  have h2 : fn.body.isNone = false := by cases hb : fn.body <;> simp_all
  have h3 : ¬fn.name = "runtime.NumGoroutine" := by simpa using h1
  have h4 : ¬fn.body = none := by cases hb : fn.body <;> simp_all
  simp [callFunc, hf, h3, h4]

/-- Calls go as the abstract machine's. -/
theorem calling {E : FuncId → Option AFn} (S : Sound P EQ E) : ∀ k, CallingH P (evCall E k)
  | 0 => ⟨fun f xs h r _ hr => by simp [evCall] at hr, fun f xs us h r h' C φ w _ hr => by simp [evCall] at hr, fun f o xs _ _ n0 C φ w h vals r h' ρ _ _ _ _ hr => by simp [evCall] at hr⟩
  | k + 1 => by
    have ih := calling S k
    constructor
    · intro f xs h r hx hr args w
      have : ∃ af, E f = some af := by
        cases hE : E f with
        | none => simp [evCall, hE] at hr
        | some af => exact ⟨af, rfl⟩
      obtain ⟨af, hE⟩ := this
      obtain ⟨fn, hf, he⟩ := S.enter f af hx hE
      exact callFunc_enter hf he args w
    · intro f xs us h r h' C φ w hx hr hw hg hh hv hs
      simp only [evCall] at hr
      split at hr
      · rename_i af hE
        split at hr <;> try (simp at hr; done)
        rename_i hlen
        obtain ⟨fn, hf, hk⟩ := S.code f af hx hE
        unfold chkFn at hk
        simp only [Bool.and_eq_true, decide_eq_true_eq] at hk
        obtain ⟨⟨⟨hk, hres⟩, hnd⟩, hnp⟩ := hk
        split at hk <;> try (simp at hk; done)
        rename_i c hb
        refine calls_of_wp hf hb ?_
        have hst := St.start (n := fn.ntmps) hw hg hh hv hs (by omega)
        have key : ∀ (x : AExit) (e : Env) (h1 : Hp), evC (evCall E k) k af.body (init xs, h) = some (x, e, h1) → (x = .normal ∨ x = .ret) → leave h h1 (resOf e h1 af.res) = some (r, h') → c.wp P (bodyPost P fn fun e w' => ∃ v, e = .returned v ∧ FinH w.heap.size C φ w h [] r v w' h') { tmps := us.toArray ++ Array.replicate (fn.ntmps - us.toArray.size) undef, defers := [] } w := by
          intro x e h1 hx hxx hre
          refine code_sim S.mixed S.eqs ih k af.body c hk (init xs, h) C φ _ w x (e, h1) _ hst hx fun C' φ' a' w' h2 => ?_
          obtain ⟨v, hrun, hfin⟩ := h2.result (fun id hid => (hh.dom id hid).1) hres (nodupB_spec hnd) hre
          rcases hxx with rfl | rfl
          · exact ⟨h2.defers, v, hrun, v, rfl, hfin⟩
          · exact ⟨h2.defers, v, hrun, v, rfl, hfin⟩
        split at hr <;> try (simp at hr; done)
        · rename_i e h1 he; exact key _ e h1 he (.inl rfl) hr
        · rename_i e h1 he; exact key _ e h1 he (.inr rfl) hr
      · rename_i F hE
        split at hr <;> try (simp at hr; done)
        rename_i hp
        split at hr <;> try (simp at hr; done)
        rename_i r' hr'
        split at hr <;> simp at hr
        rename_i hrp
        obtain ⟨rfl, rfl⟩ := hr
        exact Calls.mono (S.prim f F hx hE _ ih.pure xs us r' C w hr' hw hg (hv.toVRs hp) hs) fun e w' ⟨v, he, hf⟩ => ⟨v, he, hf.toH hh (by simp)⟩
      · rename_i F hE
        exact S.primH f F hx hE _ ih xs us h r h' C φ w hr hw hg hh hv hs
      · rename_i F hE; exact absurd (S.onlyX f F hE) (by rw [hx]; simp)
      · simp at hr
    · intro f o xs hx ho n0 C φ w h vals r h' ρ hρ hρf hρg ha hr
      simp only [evCall] at hr
      split at hr
      · rename_i af hE; exact absurd hx (by rw [S.notX f _ hE (by intro F; simp)]; simp)
      · rename_i F hE; exact absurd hx (by rw [S.notX f _ hE (by intro F; simp)]; simp)
      · rename_i F hE; exact absurd hx (by rw [S.notX f _ hE (by intro F; simp)]; simp)
      · rename_i F hE; exact S.primX f F hE _ ih o xs ho n0 C φ w h vals r h' ρ hρ hρf hρg ha hr
      · simp at hr

end
end Go.Vm
