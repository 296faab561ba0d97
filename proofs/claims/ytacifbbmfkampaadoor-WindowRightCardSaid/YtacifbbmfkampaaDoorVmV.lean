/- Operations on the objects. -/
import Derived.Test.YtacifbbmfkampaaDoorVmU
namespace Go.Vm
open Go.RowKit
set_option linter.unusedVariables false
set_option linter.unusedSimpArgs false
set_option linter.unusedSectionVars false
variable [Glob]

theorem noOwn_share1 {x : AV} (h : x.noOwn = true) : x.share1 = x := by
  cases x <;> simp_all [AV.noOwn, AV.share1]
def cellC (c : AV) : Bool := c.leaf && c.pu && c.noOwn
theorem cellC_ok {c : AV} (h : cellC c = true) (id : Nat) : c.cellOk id = true ∧ c.share1 = c := by
  simp only [cellC, Bool.and_eq_true] at h
  refine ⟨?_, noOwn_share1 h.2⟩
  unfold AV.cellOk
  split
  · simp [AV.pu] at h
  · simp [AV.pu] at h
  · simp [h.1.1, h.1.2]

def chkH (P : Program) (o : Oper) (k : NK) : Option (List Operand) :=
  match k, o.op with
  | .hnew cs, .alloc t => (zeroB P t).bind fun z => if constVs cs z.cells.toList && cs.all cellC then some [] else none
  | .hbox, .box t x => some [x]
  | .hld n agg, .load t x => if isAggB P t == some agg && sizeB P t == some n then some [x] else none
  | .hst n, .store t p x => if sizeB P t == some n then some [p, x] else none
  | .hcall f, .call { callee := .value (.func f'), args, .. } => if f = f' ∧ isX f = false then some args.toList else none
  | .hcallV, .call { callee := .value (.tmp i), args, .. } => some (.tmp i :: args.toList)
  | .hmk k b zero, .makeSlice t l c =>
    (isSlice P t).bind fun e => (zeroB P e).bind fun z => if sameOpd l c && sizeB P e == some k && bytesB P e == some b && constVs zero.cells z.cells.toList && zero.cells.all cellC && zero.cells.length == k && decide (0 < k) then some [l] else none
  | _, _ => none

section
variable {P : Program} {n0 : Nat} {C : Pub} {φ : Phi} {w : World} {h h' : Hp} {vals : List AV} {vs : List Value} {r : AV} {EQ : List TypeId} {call : CallH} {Bs : List Nat}

theorem sim_hnew {t : TypeId} {z : Value} {cs : List AV} (hz : zeroB P t = some z) (hc : constVs cs z.cells.toList = true) (hok : cs.all cellC = true) (a : ArgsH n0 C φ w h vals vs) (hr : hNew cs h vals = some (r, h')) :
    ∃ v w', (Instr.alloc t true (.tuple #[])).run P w = .ok v w' ∧ FinH n0 C φ w h Bs r v w' h' := by
  unfold hNew at hr
  split at hr <;> simp at hr
  obtain ⟨rfl, rfl⟩ := hr
  refine ⟨.pointer (some ⟨w.heap.size, 0, none⟩), w.alloc (.cells z.cells t), ?_, ?_⟩
  · simp only [Instr.alloc, Sem.run_bind, run_zeroB hz, Result.andThen_ok]
    simp [newVar, newRow]
  · have := FinH.new (n0 := n0) (Bs := Bs) a.wd a.hr (VTs.ofVRs (constVs_sound (C := C) hc)) (fun c hc => cellC_ok (List.all_eq_true.1 hok c hc) _) t (r := .ref h.nx 0) (v := .pointer (some ⟨w.heap.size, 0, none⟩)) (fun φ' hφ => .ref _ _ _ hφ) rfl
    simpa using this

theorem VTs.shared {xs us} (hv : VTs C φ xs us) : VTs C φ (xs.map AV.share1) us := hv.map fun _ _ => VT.share1
theorem cells_ok {x : AV} {id : Nat} (hok : (x.cells.all fun c => c.cellOk id) = true) : (x.cells.all AV.leaf = true) ∧ ∀ c ∈ x.cells.map AV.share1, c.cellOk id = true ∧ c.share1 = c := by
  rw [List.all_eq_true] at hok
  refine ⟨List.all_eq_true.2 fun c hc => cellOk_leaf (hok c hc), fun c hc => ?_⟩
  obtain ⟨y, hy, rfl⟩ := List.mem_map.1 hc
  exact cellOk_share1 (hok y hy)

theorem sim_hbox {t : TypeId} (a : ArgsH n0 C φ w h vals vs) (hr : hBox h vals = some (r, h')) :
    ∃ x, vs = [x] ∧ ∃ v w', (Instr.box t x).run P w = .ok v w' ∧ FinH n0 C φ w h Bs r v w' h' := by
  unfold hBox at hr
  split at hr <;> try (simp at hr; done)
  rename_i x
  split at hr <;> simp at hr
  rename_i hok
  obtain ⟨rfl, rfl⟩ := hr
  obtain ⟨v, rfl, hvt⟩ := a.one
  obtain ⟨hl, hok'⟩ := cells_ok hok
  refine ⟨v, rfl, .pointer (some ⟨w.heap.size, 0, none⟩), w.alloc (.cells v.cells t), by simp [Instr.box, newVar, newRow], ?_⟩
  have := FinH.new (n0 := n0) (Bs := Bs) a.wd a.hr (hvt.cells hl).shared hok' t (r := .ref h.nx 0) (v := .pointer (some ⟨w.heap.size, 0, none⟩)) (fun φ' hφ => .ref _ _ _ hφ) rfl
  simpa using this

theorem sim_hld {t : TypeId} {n : Nat} {agg : Bool} (ha : isAggB P t = some agg) (hn : sizeB P t = some n) (a : ArgsH n0 C φ w h vals vs) (hr : hLd n agg h vals = some (r, h')) :
    ∃ x, vs = [x] ∧ ∃ v, (Instr.loadAt t x).run P w = .ok v w ∧ FinH n0 C φ w h Bs r v w h' := by
  unfold hLd at hr
  split at hr <;> try (simp at hr; done)
  · rename_i id o
    split at hr <;> try (simp at hr; done)
    rename_i cs hcs
    obtain ⟨v, rfl, hvt⟩ := a.one
    obtain ⟨b, rfl, hφ⟩ := hvt.ref_inv
    obtain ⟨b', us, el, h1, h2, h3, h4, h5⟩ := a.hr.obj id cs hcs
    rw [hφ] at h1; cases h1
    have hcell : ∀ o, w.cell? ⟨b, o, none⟩ = us[o]? := by intro o; simp [World.cell?, h2]
    cases agg
    · simp only [Bool.false_eq_true, if_false] at hr
      split at hr <;> simp at hr
      rename_i c hc
      obtain ⟨rfl, rfl⟩ := hr
      obtain ⟨u, hu, hcu⟩ := h4.get hc
      refine ⟨_, rfl, u, ?_, FinH.same a.wd a.hr hcu ?_⟩
      · have hu' : us[o]? = some u := by simpa using hu
        simp only [Instr.loadAt, Sem.run_bind, Instr.sureAddr, Sem.run_pure, Result.andThen_ok, loadVar, run_isAggB ha, Bool.false_eq_true, if_false, run_load, hcell, hu']
      · have h6 := h5 c (List.mem_of_getElem? hc)
        have h7 := cellOk_leaf h6.1
        cases c <;> first | exact h6.2 | simp [AV.leaf] at h7
    · simp only [if_true] at hr
      split at hr <;> simp at hr
      rename_i hle
      obtain ⟨rfl, rfl⟩ := hr
      obtain ⟨hle, hpu⟩ := hle
      have hsz : cs.length = us.size := by simpa using h4.1
      have hl : ((us.toList.drop o).take n).length = n := by simp; omega
      have hvs : VTs C φ ((cs.drop o).take n) ((us.toList.drop o).take n) := by
        refine ⟨by simp [hsz], fun i x v hx hv => ?_⟩
        by_cases hin : i < n
        · rw [List.getElem?_take, if_pos hin, List.getElem?_drop] at hx hv
          exact h4.2 (o + i) x v hx hv
        · rw [List.getElem?_take, if_neg hin] at hx; cases hx
      refine ⟨_, rfl, .agg ((us.toList.drop o).take n).toArray, ?_, FinH.same a.wd a.hr (.pure (VR.agg_mk (hvs.toVRs (List.all_eq_true.2 (puL_iff.1 hpu))))) rfl⟩
      have hload := run_loadCells_list (P := P) w ⟨b, o, none⟩ ((us.toList.drop o).take n) (fun j v hj => by
        rw [List.getElem?_take] at hj
        split at hj <;> simp at hj
        rw [Addr.add_lit, hcell]; exact hj)
      rw [hl] at hload
      simp only [Instr.loadAt, Sem.run_bind, Instr.sureAddr, Sem.run_pure, Result.andThen_ok, loadVar, run_isAggB ha, if_true, run_sizeB hn, hload]
  · rename_i cs o
    split at hr <;> simp at hr
    rename_i r' hr'
    obtain ⟨rfl, rfl⟩ := hr
    exact sim_ldIT (P := P) ha hn a (show sLdI n agg [.imm cs o] = some r' from hr')

theorem sets_relT {ys : List AV} {us : List Value} (hy : VTs C φ ys us) : ∀ (o : Nat) (cs : List AV) (vs : List Value), VTs C φ cs vs → o + ys.length ≤ cs.length → VTs C φ (setsA cs o ys) (vs.take o ++ us ++ vs.drop (o + us.length)) := by
  induction ys generalizing us with
  | nil => intro o cs vs hcv _; cases hy.nil_inv; simpa [setsA] using hcv
  | cons y ys ih =>
    intro o cs vs hcv hle
    obtain ⟨u, us', rfl, hyu, hys⟩ := hy.cons_inv
    simp only [setsA]
    simp only [List.length_cons] at hle
    have hlt : o < vs.length := by rw [← hcv.1]; omega
    have hset : VTs C φ (cs.set o y) (vs.set o u) := by
      refine ⟨by simp [hcv.1], fun i x v hx hv => ?_⟩
      rw [List.getElem?_set] at hx hv
      by_cases hi : o = i
      · subst hi
        have : o < cs.length := by rw [hcv.1]; exact hlt
        simp [this] at hx; simp [hlt] at hv
        subst hx; subst hv; exact hyu
      · simp [hi] at hx hv; exact hcv.2 i x v hx hv
    have := ih hys (o + 1) (cs.set o y) (vs.set o u) hset (by simp; omega)
    have e : (vs.set o u).take (o + 1) ++ us' ++ (vs.set o u).drop (o + 1 + us'.length) = vs.take o ++ (u :: us') ++ vs.drop (o + (u :: us').length) := by
      have e0 : vs.set o u = vs.take o ++ u :: vs.drop (o + 1) := by rw [List.set_eq_take_append_cons_drop, if_pos hlt]
      have hl : (vs.take o).length = o := by rw [List.length_take]; omega
      have e1 : (vs.set o u).take (o + 1) = vs.take o ++ [u] := by
        rw [e0, List.take_append, hl, List.take_of_length_le (by omega)]; simp
      have e2 : (vs.set o u).drop (o + 1 + us'.length) = vs.drop (o + 1 + us'.length) := by
        rw [e0, List.drop_append, hl, List.drop_of_length_le (by omega), show o + 1 + us'.length - o = us'.length + 1 by omega, List.drop_succ_cons, List.drop_drop]; simp
      rw [e1, e2]; simp only [List.append_assoc, List.singleton_append, List.cons_append, List.nil_append, List.length_cons, show o + 1 + us'.length = o + (us'.length + 1) by omega]
    rw [← e]; exact this
theorem setsA_mem {p : AV → Prop} : ∀ (ys : List AV) (o : Nat) (cs : List AV), (∀ c ∈ cs, p c) → (∀ c ∈ ys, p c) → ∀ c ∈ setsA cs o ys, p c
  | [], _, _, hc, _ => hc
  | y :: ys, o, cs, hc, hy => by
    simp only [setsA]
    refine setsA_mem ys (o + 1) (cs.set o y) (fun c hc' => ?_) (fun c hc' => hy c (by simp [hc']))
    rcases List.mem_or_eq_of_mem_set hc' with h1 | h1
    · exact hc c h1
    · subst h1; exact hy _ (by simp)

theorem sim_hst {t : TypeId} {n : Nat} (hs : sizeB P t = some n) (a : ArgsH n0 C φ w h vals vs) (hr : hSt n h vals = some (r, h')) :
    ∃ p x, vs = [p, x] ∧ ∃ w', (Instr.storeAt t p x).run P w = .ok () w' ∧ FinH n0 C φ w h Bs r undef w' h' := by
  unfold hSt at hr
  split at hr <;> try (simp at hr; done)
  rename_i id o x
  split at hr <;> try (simp at hr; done)
  rename_i cs hcs
  split at hr <;> simp at hr
  rename_i hcond
  obtain ⟨hcl, hle, hok⟩ := hcond
  obtain ⟨rfl, rfl⟩ := hr
  obtain ⟨p, u, rfl, hp, hu⟩ := a.two
  obtain ⟨b, rfl, hφ⟩ := hp.ref_inv
  obtain ⟨b', us, el, h1, h2, h3, h4, h5⟩ := a.hr.obj id cs hcs
  rw [hφ] at h1; cases h1
  obtain ⟨hl, hok'⟩ := cells_ok hok
  have hcells := hu.cells hl
  have hbs : u.cells.size = n := by have := hcells.1; rw [hcl] at this; simpa using this.symm
  have hsz : cs.length = us.size := by simpa using h4.1
  have h1c : ∀ v ∈ u.cells.toList, v.oneCell' = true := by
    intro v hv
    obtain ⟨i, hi, rfl⟩ := List.mem_iff_getElem.1 hv
    have hi2 : i < x.cells.length := hcells.1 ▸ hi
    exact (hcells.2 i x.cells[i] _ (by simp [hi2]) (List.getElem?_eq_getElem hi)).oneCell (List.all_eq_true.1 hl _ (List.getElem_mem hi2))
  have hst := run_storeCells_at P b o el u.cells.toList 0 us w h2 (by simp; omega) h1c
  have hrel := sets_relT hcells.shared o cs us.toList h4 (by simp; omega)
  have hset := HR.set a.wd a.hr hcs hφ h2 h3 (vs' := (us.toList.take (o + 0) ++ u.cells.toList ++ us.toList.drop (o + 0 + u.cells.toList.length)).toArray) (by simpa using hrel) (setsA_mem _ _ _ h5 hok')
  refine ⟨_, u, rfl, _, ?_, C, φ, .tup [] (fun _ => undef) (by simp), hset.1.more (fun b' hb' => ?_), hset.2, fun _ _ => rfl, fun id' b' hn hb' => ?_, Nat.le_refl _, ?_, ?_, ?_⟩
  · simp only [Instr.storeAt, Sem.run_bind, Instr.sureAddr, Sem.run_pure, Result.andThen_ok, storeVar, run_sizeB hs, hbs, ne_eq, not_true_eq_false, if_false, hst]
  · simp only [List.mem_singleton] at hb'; subst hb'
    refine List.mem_append_right _ (mem_HB.2 ⟨id, ?_, hφ⟩)
    rcases Nat.lt_or_ge id h.nx with h6 | h6
    · exact h6
    · rw [(a.hr.dom id h6).1] at hφ; cases hφ
  · rw [(a.hr.dom id' hn).1] at hb'; cases hb'
  · exact ownP_share C _ n0 (.tup []) undef
  · have : blks (.tup []) undef = [] := blks_share (.tup []) undef
    rw [this]; simp
  · have : blks (.tup []) undef = [] := blks_share (.tup []) undef
    rw [this]; simp

theorem sim_hmk {t e : TypeId} {k bytes : Nat} {zero : AV} {z : Value}
    (ht : P.underlying t = some (.slice e)) (hs : sizeB P e = some k) (hb : bytesB P e = some bytes) (hz : zeroB P e = some z) (hzc : constVs zero.cells z.cells.toList = true)
    (hzl : zero.cells.all cellC = true) (hzk : zero.cells.length = k) (hk0 : 0 < k)
    (a : ArgsH n0 C φ w h vals vs) (hr : hMk k bytes zero h vals = some (r, h')) :
    ∃ l, vs = [l] ∧ ∃ v w', (Instr.makeSlice t l l).run P w = .ok v w' ∧ FinH n0 C φ w h Bs r v w' h' := by
  unfold hMk at hr
  split at hr <;> simp at hr
  rename_i n
  obtain ⟨⟨h0, h1, h2⟩, rfl, rfl⟩ := hr
  obtain ⟨v, rfl, hvt⟩ := a.one
  have hvi : v = .int .i64 n := by have := hvt.toVR rfl; cases this; rfl
  subst hvi
  refine ⟨_, rfl, ?_⟩
  obtain ⟨i, hi, hi1, hi2, hi3⟩ := info_of hs hb hz
  have hrun := run_make (P := P) w t e i z ht hi hi3 .i64 .i64 n n h0 (Int.le_refl _) (by rw [hi2, Int.mul_comm]; omega) (by omega)
  refine ⟨_, _, hrun, ?_⟩
  have hzs : z.cells.size = k := by
    have := (constVs_sound (C := C) hzc).1; rw [hzk] at this; simpa using this.symm
  have hflat : (madeCells z.cells (n.toNat * i.size)).toList = (List.replicate n.toNat z.cells.toList).flatten := by
    have e1 : (List.replicate n.toNat z.cells.toList).flatten = (List.replicate n.toNat z).flatMap fun v => v.cells.toList := by simp [List.flatMap]
    rw [e1]
    apply List.ext_getElem?
    intro o
    rw [Great.flat_get hk0 _ (by intro v hv; rw [(List.mem_replicate.1 hv).2]; exact hzs)]
    simp only [madeCells, hi1, hzs]
    rcases Nat.lt_or_ge o (n.toNat * k) with ho | ho
    · have h3 : o / k < n.toNat := (Nat.div_lt_iff_lt_mul hk0).2 ho
      have h4 : o % k < z.cells.size := by rw [hzs]; exact Nat.mod_lt _ hk0
      simp [ho, List.getElem?_replicate, h3, h4]
    · have h3 : ¬ o / k < n.toNat := by rw [Nat.div_lt_iff_lt_mul hk0]; omega
      simp [List.getElem?_replicate, h3]; omega
  have hvs : VTs C φ (List.replicate n.toNat zero.cells).flatten (List.replicate n.toNat z.cells.toList).flatten := by
    generalize n.toNat = m
    induction m with
    | zero => exact VTs.nil
    | succ m ih => simp only [List.replicate_succ, List.flatten_cons]; exact (VTs.ofVRs (constVs_sound hzc)).append ih
  have := FinH.new (n0 := n0) (Bs := Bs) a.wd a.hr hvs (fun c hc => by
    simp only [List.mem_flatten, List.mem_replicate] at hc
    obtain ⟨l, ⟨_, rfl⟩, hc⟩ := hc
    exact cellC_ok (List.all_eq_true.1 hzl c hc) _) e (r := .msl h.nx 0 k n.toNat) (v := .slice (some ⟨w.heap.size, 0, none⟩) n.toNat n.toNat) (fun φ' hφ => .msl _ _ _ _ _ _ hφ (Nat.le_refl _)) rfl
  rw [← hflat] at this
  simpa using this

/-- Operations on the objects. -/
theorem simH (hc : CallingH P call) {o : Oper} {k : NK} {xs : List Operand} (hk : chkH P o k = some xs) {ρ : Operand → Value} (hρ : ∀ v, ρ (.const v) = v) (hρf : ∀ f, ρ (.func f) = .func (.func f) #[] #[])
    (ha : ArgsH n0 C φ w h vals (xs.map ρ)) (hr : semH call k vals h = some (r, h')) : Res P ((execOp ρ o).run P w) (fun v w' => FinH n0 C φ w h (blksL vals (xs.map ρ)) r v w' h') := by
  unfold chkH at hk
  split at hk <;> (try simp only [semH] at hr)
  -- hnew
  · rename_i cs t heq
    cases hz : zeroB P t with
    | none => simp [hz] at hk
    | some z =>
      simp only [hz, Option.bind_some] at hk
      split at hk <;> simp at hk
      rename_i ho
      simp only [Bool.and_eq_true] at ho
      subst hk
      obtain ⟨v, w', hrun, hf⟩ := sim_hnew (P := P) (Bs := blksL vals ([].map ρ)) hz ho.1 ho.2 ha hr
      simp only [execOp, heq]; exact res_v hrun hf
  -- hbox
  · rename_i t x heq
    simp at hk; subst hk
    obtain ⟨u, hv, v, w', hrun, hf⟩ := sim_hbox (P := P) (Bs := blksL vals ([x].map ρ)) (t := t) ha hr
    simp at hv; subst hv
    simp only [execOp, heq]; exact res_v hrun hf
  -- hld
  · rename_i n agg t x heq
    split at hk <;> simp at hk
    rename_i ho
    simp only [Bool.and_eq_true, beq_iff_eq] at ho
    subst hk
    obtain ⟨u, hv, v, hrun, hf⟩ := sim_hld (P := P) (Bs := blksL vals ([x].map ρ)) ho.1 ho.2 ha hr
    simp at hv; subst hv
    simp only [execOp, heq]; exact res_v hrun hf
  -- hst
  · rename_i n t p x heq
    split at hk <;> simp at hk
    rename_i ho
    simp only [beq_iff_eq] at ho
    subst hk
    obtain ⟨u, v, hv, w', hrun, hf⟩ := sim_hst (P := P) (Bs := blksL vals ([p, x].map ρ)) ho ha hr
    simp at hv; obtain ⟨rfl, rfl⟩ := hv
    simp only [execOp, heq, Sem.run_bind, hrun, Result.andThen_ok, Sem.run_pure]
    exact hf
  -- hcall
  · rename_i f f' args ats heq
    split at hk <;> simp at hk
    rename_i ho; obtain ⟨rfl, hx⟩ := ho; subst hk
    simp only [execOp, heq, hρf, resolve, Deferred.ofValue, invoke, Sem.run_bind, Sem.run_pure, Result.andThen_ok]
    exact res_callH hc hx hr ha.wd ha.gl ha.hr ha.base ha.vt _ (by rw [map_arr]; simp)
  -- hcallV
  · rename_i i args ats heq
    simp at hk; subst hk
    unfold hCallV at hr
    split at hr <;> try (simp at hr; done)
    rename_i f caps ys
    split at hr <;> try (simp at hr; done)
    rename_i hx
    have hx : isX f = false := by simpa using hx
    obtain ⟨v, vs', hv, h1, h2⟩ := ha.vt.cons_inv
    simp only [List.map_cons, List.cons.injEq] at hv
    obtain ⟨hv1, hv2⟩ := hv
    obtain ⟨cs, rfl, hcs⟩ := h1.fn_inv
    subst hv2
    simp only [execOp, heq, hv1, resolve, Deferred.ofValue, invoke, Sem.run_bind, Sem.run_pure, Result.andThen_ok]
    exact res_callH hc hx hr ha.wd ha.gl ha.hr ha.base (h2.append hcs) _ (by rw [← map_arr]; simp)
  -- hmk
  · rename_i kk b zero t l c heq
    cases hs : isSlice P t with
    | none => simp [hs] at hk
    | some e =>
      cases hz : zeroB P e with
      | none => simp [hs, hz] at hk
      | some z =>
        simp only [hs, hz, Option.bind_some] at hk
        split at hk <;> simp at hk
        rename_i hok
        subst hk
        simp only [Bool.and_eq_true, beq_iff_eq, decide_eq_true_eq] at hok
        obtain ⟨⟨⟨⟨⟨⟨h1, h2⟩, h3⟩, h4⟩, h6⟩, h7⟩, h8⟩ := hok
        obtain ⟨u, hv, v, w', hrun, hf⟩ := sim_hmk (P := P) (Bs := blksL vals ([l].map ρ)) (isSlice_spec hs) h2 h3 hz h4 h6 h7 h8 ha hr
        simp at hv; subst hv
        simp only [execOp, heq, ← sameOpd_eval h1 ρ]; exact res_v hrun hf
  · simp at hk

/-- An operation's check. -/
def chkN (P : Program) (EQ : List TypeId) (o : Oper) (k : NK) : Option (List Operand) :=
  match k with
  | .x f => if isX f then xoG f o else none
  | k => match chkH P o k with
    | some xs => some xs
    | none => chkK P EQ o k
def NK.isH : NK → Bool
  | .hnew _ | .hbox | .hld _ _ | .hst _ | .hcall _ | .hcallV | .hmk _ _ _ | .x _ => true
  | _ => false
theorem chkH_isH {o : Oper} {k : NK} {xs} (h : chkH P o k = some xs) : k.isH = true := by
  unfold chkH at h; split at h <;> first | rfl | simp at h
theorem chkK_isH {o : Oper} {k : NK} {xs} (h : chkK P EQ o k = some xs) : k.isH = false := by
  unfold chkK at h; split at h <;> first | rfl | simp at h

theorem semH_pure {k : NK} (hk : k.isH = false) : semH call k vals h = if vals.all AV.pu then (match sem call.pure k vals with | some r => some (r, h) | none => none) else (match semT k vals with | some r => some (r, h) | none => none) := by
  cases k <;> first | rfl | simp [NK.isH] at hk

theorem simN (hEQ : ∀ t ∈ EQ, EqLaw P t) (hc : CallingH P call) {o : Oper} {k : NK} {xs : List Operand} (hk : chkN P EQ o k = some xs) {ρ : Operand → Value} (hρ : ∀ v, ρ (.const v) = v) (hρf : ∀ f, ρ (.func f) = .func (.func f) #[] #[]) (hρg : ∀ g, ρ (.global g) = .pointer (some ⟨g, 0, none⟩))
    (ha : ArgsH n0 C φ w h vals (xs.map ρ)) (hr : semH call k vals h = some (r, h')) : Res P ((execOp ρ o).run P w) (fun v w' => FinH n0 C φ w h (blksL vals (xs.map ρ)) r v w' h') := by
  unfold chkN at hk
  split at hk
  · rename_i f
    split at hk <;> try (simp at hk; done)
    rename_i hx
    exact hc.xop f o xs hx hk n0 C φ w h vals r h' ρ hρ hρf hρg ha hr
  split at hk
  · rename_i xs' hH
    simp at hk; subst hk
    exact simH hc hH hρ hρf ha hr
  · rw [semH_pure (chkK_isH hk)] at hr
    split at hr
    · rename_i hp
      split at hr <;> simp at hr
      rename_i r' hr'
      obtain ⟨rfl, rfl⟩ := hr
      have hres := simK hEQ hc.pure hk hρ hρf (ha.args hp) hr'
      unfold Res at hres ⊢
      split at hres
      · exact hres.toH ha.hr ha.apart
      · exact hres.toH ha.hr ha.apart
      · exact Calls.mono hres fun e w' ⟨v, he, hf⟩ => ⟨v, he, hf.toH ha.hr ha.apart⟩
      · exact hres.elim
    · split at hr <;> simp at hr
      rename_i r' hr'
      obtain ⟨rfl, rfl⟩ := hr
      exact simT hk hρ ha hr'

end
end Go.Vm
