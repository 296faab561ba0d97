/- slices.Backward: its function keeps an iterator's contract. -/
import Derived.Test.YtacifbbmfkampaaDoorVmOe
namespace Go.Vm
open Go.RowKit
set_option linter.unusedVariables false
set_option linter.unusedSimpArgs false
set_option linter.unusedSectionVars false
variable [Glob]

section
variable {P : Program} {n m : Nat} {C0 C C' : Pub} {φ φ' : Phi} {h : Hp} {w0 w w' : World} {e e' : Env} {a a' : Act} {EQ : List TypeId}

theorem St.mk0 (hsz : a.tmps.size = n) (hd : a.defers = []) (hsh : ∀ t, (e t).share = e t) (hv : ∀ t, VT C (fun _ => none) (e t) (tv a t)) (hw : Wd C w) (hg : Gl C) : St n C (fun _ => none) Hp.e w C (fun _ => none) (e, Hp.e) a w := by
  have := St.fresh (e := e) hsz hd hv (HR.e C w) hw hg
  rwa [show shareE e = e from funext hsh] at this

theorem VT.int_of {k : IntKind} {i : Int} {v : Value} (h : VT C φ (.int k i) v) : v = .int k i := by
  have := h.toVR rfl; cases this; rfl
theorem VT.bool_of {b : Bool} {v : Value} (h : VT C φ (.bool b) v) : v = .bool b := by
  have := h.toVR rfl; cases this; rfl

theorem back_law {gf : FuncId} {fn : Func} {k : Nat} {agg : Bool} (hEQ : ∀ t ∈ EQ, EqLaw P t) (hf : P.funcs[gf]? = some fn) (hk : backB P EQ fn k agg = true) : IterLaw P gf (itBack k agg) := by
  intro caps vs rows C0 w0 hit hw0 hg0 hvs y J Jx hJ0 hJw hJe hXw hXe hJy
  unfold itBack at hit
  split at hit <;> try (simp at hit; done)
  rename_i k' l
  split at hit <;> simp at hit
  rename_i hcd
  obtain ⟨rfl, hlen, hall⟩ := hcd
  subst hit
  obtain ⟨v1, vs', rfl, hv1, hnil⟩ := hvs.cons_inv
  cases hnil.nil_inv
  unfold backB at hk
  simp only [Bool.and_eq_true, decide_eq_true_eq] at hk
  obtain ⟨⟨hk, hres⟩, hn⟩ := hk
  have hres : fn.results = #[] := by simpa using hres
  cases hb : fn.body with
  | none => rw [hb] at hk; simp at hk
  | some c =>
  rw [hb] at hk
  simp only at hk
  unfold backBody at hk
  split at hk <;> try (simp at hk; done)
  rename_i i0 r0 b0 i1 r1 b0' b1 i3 r3 i2 r2
  simp only [Bool.and_eq_true, beq_iff_eq] at hk
  obtain ⟨⟨⟨⟨⟨⟨⟨⟨⟨⟨⟨⟨⟨⟨rfl, c0⟩, d0⟩, p00⟩, p01⟩, c1⟩, d1⟩, p10⟩, p11⟩, c2⟩, d2⟩, p20⟩, p21⟩, d3⟩, hk3⟩ := hk
  split at hk3 <;> try (simp at hk3; done)
  rename_i om o1 o2 o3 o4 o5 oy ot hr3
  simp only [Bool.and_eq_true] at hk3
  obtain ⟨⟨⟨⟨⟨⟨⟨⟨hmv, c3⟩, hyb⟩, cn⟩, q0⟩, q1⟩, q11⟩, t0⟩, t1⟩ := hk3
  have hc := callN_ok (P := P)
  obtain ⟨cap, hcap⟩ : ∃ cap : AV, AV.imm [AV.sl false k' l] 0 = cap := ⟨_, rfl⟩
  have hcs : cap.share = cap := by rw [← hcap]; rfl
  obtain ⟨yf, hyf⟩ : ∃ yf : Value, Value.func (.yield y) #[] #[] = yf := ⟨_, rfl⟩
  -- a frame at the head of the loop
  have hBG : ∀ {kk C w}, J kk C w → Gl C := fun h => hg0.mono (hJw _ _ _ h).2
  have hBv : ∀ {kk C w}, J kk C w → VR C cap v1 := fun h => by rw [← hcap]; exact hv1.mono (hJw _ _ _ h).2
  have mkSt : ∀ (kk : Nat) (C : Pub) (w : World) (a : Act) (i : Int), a.tmps.size = fn.ntmps → a.defers = [] → tv a 1 = v1 → tv a 3 = .int .i64 i → J kk C w → St fn.ntmps C (fun _ => none) Hp.e w C (fun _ => none) (bhd cap i, Hp.e) a w := by
    intro kk C w a i hs hd h1 h3 hJ
    refine St.mk0 hs hd (fun t => ?_) (fun t => ?_) (hJw _ _ _ hJ).1 (hBG hJ)
    · unfold bhd; split
      · exact hcs
      · split <;> rfl
    · unfold bhd; split
      · rename_i ht; rw [ht, h1]; exact .pure (hBv hJ)
      · split
        · rename_i ht; rw [ht, h3]; exact .pure (.int _ _)
        · exact .pure (.undef _)
  refine callsIn_of_wp (F := Fence.wide) hf hb trivial ?_
  obtain ⟨Q, hQ⟩ : ∃ Q, bodyPost P fn (fun e w' => (∃ v, e = Ending.returned v) ∧ ((∃ C', J ((List.range l.length).map (backRow k' agg l)).length C' w') ∨ ∃ C', Jx C' w')) = Q := ⟨_, rfl⟩
  rw [hQ]
  have hQo : ∀ a w, ¬ Q .outgrown a w := by rw [← hQ]; rintro a w ⟨⟨v, he⟩, _⟩; cases he
  have hfin : ∀ (x : Exit) (a : Act) (w : World), x = .normal ∨ x = .ret → a.defers = [] → ((∃ C', J l.length C' w) ∨ ∃ C', Jx C' w) → Q x a w := by
    intro x a w hx hd hh
    rw [← hQ]
    have : a.defers = [] ∧ ∃ v, (results fn a.tmps).run P w = .ok v w ∧ ((∃ v', Ending.returned v = .returned v') ∧ ((∃ C', J ((List.range l.length).map (backRow k' agg l)).length C' w) ∨ ∃ C', Jx C' w)) :=
      ⟨hd, _, results_none hres _ _ _, ⟨_, rfl⟩, by simpa using hh⟩
    rcases hx with rfl | rfl <;> exact this
  obtain ⟨a0, ha0⟩ : ∃ a0 : Act, ({ tmps := #[Value.func (.yield y) #[] #[]] ++ [v1].toArray ++ Array.replicate (fn.ntmps - (#[Value.func (.yield y) #[] #[]] ++ [v1].toArray).size) undef, defers := [] } : Act) = a0 := ⟨_, rfl⟩
  rw [ha0]
  have a0s : a0.tmps.size = fn.ntmps := by rw [← ha0]; simp; omega
  have a0d : a0.defers = [] := by rw [← ha0]
  have a00 : tv a0 0 = yf := by rw [← ha0, ← hyf]; simp [tv, Array.getElem?_append]
  have a01 : tv a0 1 = v1 := by rw [← ha0]; simp [tv, Array.getElem?_append]
  -- the first region
  have S0 : St fn.ntmps C0 (fun _ => none) Hp.e w0 C0 (fun _ => none) ((fun t => if t = 1 then cap else .undef), Hp.e) a0 w0 := by
    refine St.mk0 a0s a0d (fun t => ?_) (fun t => ?_) hw0 hg0
    · show (if t = 1 then cap else AV.undef).share = _
      split
      · exact hcs
      · rfl
    · show VT _ _ (if t = 1 then cap else AV.undef) _
      split
      · rename_i ht; rw [ht, a01, ← hcap]; exact .pure hv1
      · exact .pure (.undef _)
  obtain ⟨e1, s1, he1⟩ := back_s0 (k := k') (l := l) rfl hlen
  rw [hcap] at s1
  refine wpIn_seq (reg_in (ro := none) (m := 0) hEQ hc (fun a w hh => hQo a w hh) d0 c0 S0 s1 fun C1 φ1 a1 w1 S1 k1 => ?_)
  have J1 : J 0 C1 w1 := hJe _ _ _ _ _ hJ0 S1.ext
  have a10 : tv a1 0 = yf := (k1 0 p00).trans a00
  have a11 : tv a1 1 = v1 := (k1 1 p01).trans a01
  have a13 : tv a1 3 = .int .i64 ((l.length : Int) - 1) := by have := S1.vt 3; rw [show (e1, Hp.e).1 3 = _ from he1] at this; exact this.int_of
  show Code.wpIn _ _ _ _ _ _ _
  refine wpIn_block (wpIn_loop_rounds (l.length + 1) ?_)
  -- the rounds
  have main : ∀ (j : Nat), j ≤ l.length → ∀ (C : Pub) (w : World) (a : Act), J (l.length - j) C w → a.tmps.size = fn.ntmps → a.defers = [] → tv a 0 = yf → tv a 1 = v1 → tv a 3 = .int .i64 ((j : Int) - 1) →
      Code.roundsIn (fo none) 0 P (.seq (.seq (.region i1 r1 false) (.cond (.tmp 8) .skip (.exit b0))) (.seq (.block b1 (.seq (.region i3 r3 false) (.cond (.tmp 18) .ret .skip))) (.region i2 r2 false))) (Exit.inBlock b0 Q) (j + 1) a w := by
    intro j
    induction j with
    | zero =>
      intro hj C w a hJ hs hd h0 h1 h3
      rw [roundsIn_succ]
      have S := mkSt _ C w a _ hs hd h1 h3 hJ
      obtain ⟨e2, s2, he23, he28⟩ := back_s1 (i := ((0 : Nat) : Int) - 1) cap
      refine wpIn_seq (wpIn_seq (reg_in (ro := none) (m := 0) hEQ hc (fun a w hh => hQo a w hh) d1 c1 S s2 fun C2 φ2 a2 w2 S2 k2 => ?_))
      have hv8 : tv a2 8 = .bool false := by have := S2.vt 8; rw [show (e2, Hp.e).1 8 = _ from he28] at this; simpa using this.bool_of
      show Code.wpIn _ _ _ _ _ _ _
      refine wpIn_cond_false (show a2.eval (.tmp 8) = .bool false from hv8) (wpIn_exit ?_)
      show (if b0 = b0 then _ else _)
      rw [if_pos rfl]
      exact hfin .normal a2 w2 (.inl rfl) S2.defers (.inl ⟨C2, hJe _ _ _ _ _ hJ S2.ext⟩)
    | succ j ih =>
      intro hj C w a hJ hs hd h0 h1 h3
      rw [roundsIn_succ]
      have h3 : tv a 3 = .int .i64 (j : Int) := by rw [h3]; simp
      have S := mkSt _ C w a _ hs hd h1 h3 hJ
      obtain ⟨e2, s2, he23, he28⟩ := back_s1 (i := (j : Int)) cap
      refine wpIn_seq (wpIn_seq (reg_in (ro := none) (m := 0) hEQ hc (fun a w hh => hQo a w hh) d1 c1 S s2 fun C2 φ2 a2 w2 S2 k2 => ?_))
      have hv8 : tv a2 8 = .bool true := by have := S2.vt 8; rw [show (e2, Hp.e).1 8 = _ from he28] at this; simpa using this.bool_of
      have hv3 : tv a2 3 = .int .i64 (j : Int) := by have := S2.vt 3; rw [show (e2, Hp.e).1 3 = _ from he23] at this; exact this.int_of
      have J2 := hJe _ _ _ _ _ hJ S2.ext
      have h20 := (k2 0 p10).trans h0
      have h21 := (k2 1 p11).trans h1
      show Code.wpIn _ _ _ _ _ _ _
      refine wpIn_cond_true (show a2.eval (.tmp 8) = .bool true from hv8) (wpIn_skip ?_)
      show Code.wpIn _ _ _ _ _ _ _
      refine wpIn_seq (wpIn_block (wpIn_seq (wpIn_region ?_)))
      -- the region of the call
      have hsz3 : r3.size = 8 := by have := congrArg List.length hr3; simpa using this
      rw [hsz3, show List.range 8 = [0] ++ (List.range' 1 5 ++ ([6] ++ (List.range' 7 1 ++ []))) from rfl]
      have hget : ∀ i : Nat, r3[i]? = [om, o1, o2, o3, o4, o5, oy, ot][i]? := fun i => by rw [← hr3]; simp
      unfold moveB at hmv
      split at hmv <;> try (simp at hmv; done)
      show wpOpsIn _ _ _ _ _ (0 :: _) _ _
      unfold wpOpsIn
      simp only [hget 0, List.getElem?_cons_zero]
      rw [if_pos (by simp [Region.wanted])]
      refine ⟨fun _ _ => trivial, ?_⟩
      rw [Oper.semAt_eq _ _ _ (by intro c hc; simp at hc)]
      simp only [execOp, Sem.run_pure, Oper.uponIn_value]
      obtain ⟨a3, ha3⟩ : ∃ a3, a2.put (some 11) (a2.eval (.tmp 0)) = a3 := ⟨_, rfl⟩
      rw [ha3]
      have a3s : a3.tmps.size = fn.ntmps := by rw [← ha3, put_size]; exact S2.size
      have a3d : a3.defers = [] := by rw [← ha3, put_defers]; exact S2.defers
      have a3o : ∀ t, t ≠ 11 → tv a3 t = tv a2 t := fun t ht => by rw [← ha3]; exact tv_put_other ht
      have a311 : tv a3 11 = yf := by rw [← ha3, tv_put_same (by rw [S2.size]; omega)]; exact h20
      have S3 := mkSt _ C2 w2 a3 _ a3s a3d ((a3o 1 (by omega)).trans h21) ((a3o 3 (by omega)).trans hv3) J2
      have hjl : j < l.length := by omega
      obtain ⟨x, hx⟩ : ∃ x, l[j]? = some x := ⟨l[j], by simp [hjl]⟩
      obtain ⟨z, hz, hzp⟩ : ∃ z, takeC x.cells 0 k' agg = some z ∧ z.pu = true := by
        have h := List.all_eq_true.1 hall x (List.mem_of_getElem? hx)
        cases hz : takeC x.cells 0 k' agg with
        | none => simp [hz] at h
        | some z => exact ⟨z, rfl, by simpa [hz] using h⟩
      obtain ⟨e4, s4, he43, he412, he416⟩ := back_s3 (k := k') (l := l) (agg := agg) hx hz
      rw [hcap] at s4
      refine opsK_in (ro := none) (m := 0) (ab := a3) (rest := [6] ++ (List.range' 7 1 ++ [])) hEQ hc (ops := r3) (by intro a w hh; exact hQo a w hh) (fun t => t = 0 ∨ t = 1 ∨ t = 11) (fun C4 φ4 a4 w4 S4 k4 => ?_) [o1, o2, o3, o4, o5] _ 1 _ C2 _ a3 w2 (fun i o hi => by rw [hget]; match i, hi with | 0, h => exact h | 1, h => exact h | 2, h => exact h | 3, h => exact h | 4, h => exact h | n + 5, h => simp at h) d3
        (fun o ho t ht => by rcases ht with rfl | rfl | rfl <;> first | (simpa using List.all_eq_true.1 q0 o ho) | (simpa using List.all_eq_true.1 q1 o ho) | (simpa using List.all_eq_true.1 q11 o ho)) c3 S3 (fun _ _ => rfl) s4
      have J4 := hJe _ _ _ _ _ J2 S4.ext
      have h40 : tv a4 0 = yf := (k4 0 (.inl rfl)).trans ((a3o 0 (by omega)).trans h20)
      have h41 : tv a4 1 = v1 := (k4 1 (.inr (.inl rfl))).trans ((a3o 1 (by omega)).trans h21)
      have h411 : tv a4 11 = yf := (k4 11 (.inr (.inr rfl))).trans a311
      have h43 : tv a4 3 = .int .i64 (j : Int) := by have := S4.vt 3; rw [show (e4, Hp.e).1 3 = _ from he43] at this; exact this.int_of
      have h412 : tv a4 12 = .int .i64 (j : Int) := by have := S4.vt 12; rw [show (e4, Hp.e).1 12 = _ from he412] at this; exact this.int_of
      have h416 : VT C4 φ4 z (tv a4 16) := by have := S4.vt 16; rwa [show (e4, Hp.e).1 16 = _ from he416] at this
      -- the call of yield
      unfold yieldB at hyb
      split at hyb <;> try (simp at hyb; done)
      rename_i aty tyy poy afy
      show wpOpsIn _ _ _ _ _ (6 :: _) _ _
      unfold wpOpsIn
      simp only [hget 6, List.getElem?_cons_zero, List.getElem?_cons_succ]
      rw [if_pos (by simp [Region.wanted])]
      refine ⟨fun _ _ => trivial, ?_⟩
      rw [Oper.semAt_eq _ _ _ (by intro c hc; simp at hc)]
      have hrow : ((List.range l.length).map (backRow k' agg l))[l.length - (j + 1)]? = some [.int .i64 (j : Int), z] := by
        have e1 : l.length - (j + 1) < l.length := by omega
        have e2 : l.length - 1 - (l.length - (j + 1)) = j := by omega
        simp only [List.getElem?_map, List.getElem?_range e1, Option.map_some, backRow, e2]
        rw [show l.getD j .undef = x by simp [List.getD_eq_getElem?_getD, hx], hz]
        rfl
      have hzv : VR C4 z (tv a4 16) := h416.toVR hzp
      have hrun : (execOp a4.eval ⟨some 17, .call ⟨.value (.tmp 11), ⟨[.tmp 12, .tmp 16]⟩, aty⟩, tyy, poy, afy, none⟩).run P w4 = (Instr.yield y #[.int .i64 (j : Int), tv a4 16]).run P w4 := by
        have e11 : a4.eval (.tmp 11) = .func (.yield y) #[] #[] := h411.trans hyf.symm
        have e12 : a4.eval (.tmp 12) = .int .i64 (j : Int) := h412
        have e16 : a4.eval (.tmp 16) = tv a4 16 := rfl
        simp [execOp, resolve, e11, e12, e16, Deferred.ofValue, Sem.run_bind, invoke]
      obtain ⟨fnY, tmY, asY, boY, hy, hR⟩ := hJy _ _ _ C4 w4 hrow J4 (VRs.cons (.int _ _) (VRs.cons hzv .nil))
      rw [hrun, show (#[.int .i64 (j : Int), tv a4 16] : Array Value) = [Value.int .i64 (j : Int), tv a4 16].toArray from rfl, hy, Oper.uponIn_round]
      refine ⟨by simp [Fence.wide], RoundIn.mono hR ?_⟩
      -- behind the call
      -- the answer's turn
      have after : ∀ (b : Bool) (C5 : Pub) (w5 : World) (Q' : Exit → Act → World → Prop), (∀ a w, ¬ Q' .outgrown a w) → Wd C5 w5 → (∀ b o v, C0 b o = some v → C5 b o = some v) →
          (∀ C6 a6 w6, Ext [] C5 w5 C6 w6 → a6.tmps.size = fn.ntmps → a6.defers = [] → tv a6 0 = yf → tv a6 1 = v1 → tv a6 3 = .int .i64 (j : Int) → tv a6 18 = .bool (!b) → Q' .normal a6 w6) →
          wpOpsIn (fo none) 0 P r3 Q' (List.range' 7 1 ++ []) (a4.put (some 17) (.bool b)) w5 := by
        intro b C5 w5 Q' hQo' hw5 hC5 hK
        obtain ⟨a5, ha5⟩ : ∃ a5, a4.put (some 17) (.bool b) = a5 := ⟨_, rfl⟩
        rw [ha5]
        have a5s : a5.tmps.size = fn.ntmps := by rw [← ha5, put_size]; exact S4.size
        have a5d : a5.defers = [] := by rw [← ha5, put_defers]; exact S4.defers
        have a5o : ∀ t, t ≠ 17 → tv a5 t = tv a4 t := fun t ht => by rw [← ha5]; exact tv_put_other ht
        have a517 : tv a5 17 = .bool b := by rw [← ha5, tv_put_same (by rw [S4.size]; omega)]
        have S5 : St fn.ntmps C5 (fun _ => none) Hp.e w5 C5 (fun _ => none) (bhy cap j b, Hp.e) a5 w5 := by
          refine St.mk0 a5s a5d (fun t => ?_) (fun t => ?_) hw5 (hg0.mono hC5)
          · unfold bhy; split
            · exact hcs
            · split
              · rfl
              · split <;> rfl
          · unfold bhy; split
            · rename_i ht; rw [ht, a5o 1 (by omega), h41, ← hcap]; exact .pure (hv1.mono hC5)
            · split
              · rename_i ht; rw [ht, a5o 3 (by omega), h43]; exact .pure (.int _ _)
              · split
                · rename_i ht; rw [ht, a517]; exact .pure (.bool _)
                · exact .pure (.undef _)
        obtain ⟨e6, s6, he63, he618⟩ := back_sn (i := (j : Int)) cap b
        refine opsK_in (ro := none) (m := 0) (ab := a5) hEQ hc (ops := r3) hQo' (fun t => t = 0 ∨ t = 1) (fun C6 φ6 a6 w6 S6 k6 => ?_) [ot] _ 7 _ C5 _ a5 w5 (fun i o hi => by rw [hget]; match i, hi with | 0, h => exact h | n + 1, h => simp at h) d3
          (fun o ho t ht => by rcases ht with rfl | rfl <;> first | (simpa using List.all_eq_true.1 t0 o ho) | (simpa using List.all_eq_true.1 t1 o ho)) cn S5 (fun _ _ => rfl) s6
        unfold wpOpsIn
        refine hK C6 a6 w6 S6.ext S6.size S6.defers ((k6 0 (.inl rfl)).trans ((a5o 0 (by omega)).trans h40)) ((k6 1 (.inr rfl)).trans ((a5o 1 (by omega)).trans h41)) ?_ ?_
        · have := S6.vt 3; rw [show (e6, Hp.e).1 3 = _ from he63] at this; exact this.int_of
        · have := S6.vt 18; rw [show (e6, Hp.e).1 18 = _ from he618] at this; exact this.bool_of
      rintro ee w5 (⟨rfl, C5, J5⟩ | ⟨rfl, C5, X5⟩)
      · refine after true C5 w5 _ (fun a w hh => hQo a w hh) (hJw _ _ _ J5).1 (hJw _ _ _ J5).2 fun C6 a6 w6 x6 b1 b2 b3 b4 b5 b6 => ?_
        have J6 := hJe _ _ _ _ _ J5 x6
        show Code.wpIn _ _ _ _ _ _ _
        refine wpIn_cond_false (show a6.eval (.tmp 18) = .bool false from b6) (wpIn_skip ?_)
        show Code.wpIn _ _ _ _ _ _ _
        have S6 := mkSt _ C6 w6 a6 _ b1 b2 b4 b5 J6
        obtain ⟨e7, s7, he73⟩ := back_s2 (i := (j : Int)) cap true (by omega) (by omega)
        refine reg_in (ro := none) (m := 0) hEQ hc (fun a w hh => hQo a w hh) d2 c2 S6 s7 fun C7 φ7 a7 w7 S7 k7 => ?_
        show Code.roundsIn _ _ _ _ _ _ _ _
        have J7 := hJe _ _ _ _ _ J6 S7.ext
        rw [show l.length - (j + 1) + 1 = l.length - j by omega] at J7
        exact ih (by omega) C7 w7 a7 J7 S7.size S7.defers ((k7 0 p20).trans b3) ((k7 1 p21).trans b4) (by have := S7.vt 3; rw [show (e7, Hp.e).1 3 = _ from he73] at this; exact this.int_of)
      · refine after false C5 w5 _ (fun a w hh => hQo a w hh) (hXw _ _ X5).1 (hXw _ _ X5).2 fun C6 a6 w6 x6 b1 b2 b3 b4 b5 b6 => ?_
        show Code.wpIn _ _ _ _ _ _ _
        refine wpIn_cond_true (show a6.eval (.tmp 18) = .bool true from b6) (wpIn_ret ?_)
        exact hfin .ret a6 w6 (.inr rfl) b2 (.inr ⟨C6, hXe _ _ _ _ X5 x6⟩)
  have := main l.length (Nat.le_refl _) C1 w1 a1 (by rw [Nat.sub_self]; exact J1) S1.size S1.defers a10 a11 a13
  exact this
end
end Go.Vm
