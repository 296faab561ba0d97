/- Operations on references, and on the objects. -/
import Derived.Test.YtacifbbmfkampaaDoorVmT
namespace Go.Vm
open Go.RowKit
set_option linter.unusedVariables false
set_option linter.unusedSimpArgs false
set_option linter.unusedSectionVars false
variable [Glob]

/-- What is asked of calls, with objects. -/
structure CallingH (P : Program) (call : CallH) : Prop where
  enter : ∀ f xs h r, isX f = false → call f xs h = some r → ∀ (args : Array Value) (w : World), (callFunc f args).run P w = .ok (.enter f args) w
  sim : ∀ f xs us h r h' (C : Pub) (φ : Phi) (w : World), isX f = false → call f xs h = some (r, h') → Wd C w → Gl C → HR C φ w h → VTs C φ xs us → (∀ x ∈ xs, x.share = x) →
    Calls P f us.toArray w fun e w' => ∃ v, e = .returned v ∧ FinH w.heap.size C φ w h [] r v w' h'
  xop : ∀ f o xs, isX f = true → xoG f o = some xs → ∀ (n0 : Nat) (C : Pub) (φ : Phi) (w : World) h vals r h' (ρ : Operand → Value), (∀ v, ρ (.const v) = v) → (∀ f, ρ (.func f) = .func (.func f) #[] #[]) → (∀ g, ρ (.global g) = .pointer (some ⟨g, 0, none⟩)) →
    ArgsH n0 C φ w h vals (xs.map ρ) → call f vals h = some (r, h') → Res P ((execOp ρ o).run P w) (fun v w' => FinH n0 C φ w h (blksL vals (xs.map ρ)) r v w' h')

section
variable {P : Program} {n0 : Nat} {C : Pub} {φ : Phi} {w : World} {h h' : Hp} {vals : List AV} {r : AV} {EQ : List TypeId} {call : CallH}

theorem FinH.toFin {Bs v w'} (hf : FinH n0 C (fun _ => none) w Hp.e Bs r v w' h') (hp : r.pu = true) : Fin n0 C w Bs r v w' := by
  obtain ⟨C', φ', h1, h2, h3, h4, h5, h6, h7, h8, h9⟩ := hf
  refine ⟨C', h1.toVR hp, ?_, h7, fun b hb => (h8 b hb).1, h9⟩
  have : HB (fun _ => none) Hp.e.nx = [] := rfl
  rw [this, List.append_nil] at h2
  exact h2

/-- Calls that need no objects. -/
theorem CallingH.pure (hc : CallingH P call) : Calling P call.pure where
  enter := by
    intro f xs r hx hr args w
    unfold CallH.pure at hr
    split at hr <;> try (simp at hr; done)
    split at hr <;> try (simp at hr; done)
    rename_i q hq; exact hc.enter f xs _ _ hx hq args w
  sim := by
    intro f xs us r C w hx hr hw hg hv hs
    unfold CallH.pure at hr
    split at hr <;> try (simp at hr; done)
    split at hr <;> try (simp at hr; done)
    rename_i r' h' hq
    split at hr <;> simp at hr
    subst hr
    rename_i hp
    exact Calls.mono (hc.sim f xs us Hp.e r' h' C _ w hx hq hw hg (HR.e C w) (.ofVRs hv) hs) fun e w' ⟨v, he, hf⟩ => ⟨v, he, hf.toFin hp⟩

theorem FinH.ofCall {Bs v w'} (hn : n0 ≤ w.heap.size) (hf : FinH w.heap.size C φ w h [] r v w' h') : FinH n0 C φ w h Bs r v w' h' := by
  obtain ⟨C', φ', h1, h2, h3, h4, h5, h6, h7, h8, h9⟩ := hf
  exact ⟨C', φ', h1, h2.more (fun b hb => by simp at hb; exact List.mem_append_right _ hb), h3, h4, h5, h6, h7.base hn, fun b hb => ⟨by have := (h8 b hb).1; simp at this; exact .inr this, (h8 b hb).2⟩, h9⟩

theorem FinH.mv {x vs} (a : ArgsH n0 C φ w h [x] vs) : ∃ v, vs = [v] ∧ FinH n0 C φ w h (blksL [x] vs) x v w h := by
  obtain ⟨v, rfl, hv⟩ := a.one
  have e : blksL [x] [v] = blks x v := by simp [blksL]
  refine ⟨v, rfl, C, φ, hv, .refl a.wd, a.hr, fun _ _ => rfl, fun id b hn hb => ?_, Nat.le_refl _, a.own 0 x v rfl rfl, fun b hb => ⟨.inl (by rw [e]; exact hb), a.apart b (by rw [e]; exact hb)⟩, by have := a.nodup; rw [e] at this; exact this⟩
  rw [(a.hr.dom id hn).1] at hb; cases hb

theorem res_callH (hc : CallingH P call) {f : FuncId} {xs : List AV} {us : List Value} (hx : isX f = false) (hr : call f (xs.map AV.share) h = some (r, h')) (hw : Wd C w) (hg : Gl C) (hh : HR C φ w h) (hn : n0 ≤ w.heap.size) (hv : VTs C φ xs us) {Bs} (args : Array Value) (ha : args = us.toArray) :
    Res P ((callFunc f args).run P w) (fun v w' => FinH n0 C φ w h Bs r v w' h') := by
  subst ha
  rw [hc.enter f _ h _ hx hr]
  exact Calls.mono (hc.sim f _ us h r h' C φ w hx hr hw hg hh (hv.map fun _ _ => VT.share) (by intro x hx; obtain ⟨y, _, rfl⟩ := List.mem_map.1 hx; exact share_share y)) fun e w' ⟨v, he, hf⟩ => ⟨v, he, hf.ofCall hn⟩

theorem ext_alloc {Bs : List Nat} (hw : Wd C w) (us : Array Value) (e : TypeId) : Ext Bs C w (fun b o => if b = w.heap.size then us[o]? else C b o) (w.alloc (.cells us e)) ∧ ∀ b o v, C b o = some v → (fun b o => if b = w.heap.size then us[o]? else C b o) b o = some v := by
  have hmono : ∀ b o v, C b o = some v → (fun b o => if b = w.heap.size then us[o]? else C b o) b o = some v := by
    intro b o v hC
    have hb : b ≠ w.heap.size := fun hb => by have := hw.fresh (b := b) (by omega) o; rw [hC] at this; cases this
    simp [hb, hC]
  refine ⟨⟨rfl, rfl, rfl, by simp, fun b hb _ => ⟨Below.heap_alloc w _ b hb, fun o => by simp [Nat.ne_of_lt hb]⟩, hmono, ?_⟩, hmono⟩
  intro b o v hC
  simp only at hC
  split at hC
  · rename_i hb; subst hb
    rw [World.cell?_alloc_at _ _ _ _ (by simp)]; exact hC
  · rename_i hb
    rw [World.cell?_alloc_old _ _ _ (by simpa using hb)]; exact hw b o v hC

/-- A new published block that holds references. -/
theorem sim_boxT {t : TypeId} {vs : List Value} {Bs} (a : ArgsH n0 C φ w h vals vs) (hr : sBox vals = some r) :
    ∃ x, vs = [x] ∧ ∃ v w', (Instr.box t x).run P w = .ok v w' ∧ FinH n0 C φ w h Bs r v w' h := by
  unfold sBox at hr
  split at hr <;> try (simp at hr; done)
  split at hr <;> simp at hr
  rename_i x hl
  obtain ⟨v, rfl, hvt⟩ := a.one
  subst hr
  obtain ⟨hext, hmono⟩ := ext_alloc (Bs := Bs) a.wd v.cells t
  have hcells := hvt.cells hl
  refine ⟨v, rfl, .pointer (some ⟨w.heap.size, 0, none⟩), w.alloc (.cells v.cells t), by simp [Instr.box, newVar, newRow], _, φ, ?_, hext.more (fun b hb => List.mem_append_left _ hb), a.hr.ext (ext_alloc (Bs := []) a.wd v.cells t).1 (by simp), fun _ _ => rfl, fun id b hn hb => ?_, Nat.le_refl _, ownP_share _ _ n0 (.imm _ _) _, ?_, ?_⟩
  · refine VT.imm (C := fun b o => if b = w.heap.size then v.cells[o]? else C b o) (x.cells.map AV.share1) 0 w.heap.size 0 (fun j => v.cells.getD j undef) (fun j c hc => ?_) (fun j c hc => ?_)
    · simp at hc
      obtain ⟨y, hy, rfl⟩ := hc
      obtain ⟨u, hu, hyu⟩ := hcells.get hy
      have hu' : v.cells[j]? = some u := by simpa using hu
      refine ⟨AV.leaf_share1 (List.all_eq_true.1 hl y (List.mem_of_getElem? hy)), ?_⟩
      simp [hu']
    · simp at hc
      obtain ⟨y, hy, rfl⟩ := hc
      obtain ⟨u, hu, hyu⟩ := hcells.get hy
      have hu' : v.cells[j]? = some u := by simpa using hu
      simp only [Array.getD_eq_getD_getElem?, hu', Option.getD_some]
      exact hyu.share1.mono hmono (fun _ _ h => h)
  · rw [(a.hr.dom id hn).1] at hb; cases hb
  · have : blks (.imm (x.cells.map AV.share1) 0) (.pointer (some ⟨w.heap.size, 0, none⟩)) = [] := blks_share (.imm _ _) _
    rw [this]; simp
  · have : blks (.imm (x.cells.map AV.share1) 0) (.pointer (some ⟨w.heap.size, 0, none⟩)) = [] := blks_share (.imm _ _) _
    rw [this]; simp

/-- A load out of a published block that holds references. -/
theorem sim_ldIT {t : TypeId} {n : Nat} {agg : Bool} {vs : List Value} {Bs} (ha : isAggB P t = some agg) (hn : sizeB P t = some n) (a : ArgsH n0 C φ w h vals vs) (hr : sLdI n agg vals = some r) :
    ∃ x, vs = [x] ∧ ∃ v, (Instr.loadAt t x).run P w = .ok v w ∧ FinH n0 C φ w h Bs r v w h := by
  unfold sLdI at hr
  split at hr <;> try (simp at hr; done)
  rename_i cs o
  obtain ⟨v, rfl, hvt⟩ := a.one
  obtain ⟨b, q, cv, rfl, a1, a2⟩ := hvt.imm_inv
  have hv : VTs C φ cs ((List.range cs.length).map cv) := VTs.range a2
  unfold takeC at hr
  cases agg
  · simp only [Bool.false_eq_true, if_false] at hr
    split at hr <;> simp at hr
    rename_i c hc
    obtain ⟨hl, rfl⟩ := hr
    refine ⟨_, rfl, cv o, ?_, FinH.same a.wd a.hr (a2 o c hc).share1 (by cases c <;> first | rfl | simp [AV.leaf] at hl)⟩
    have hcell := a.wd _ _ _ (a1 o c hc).2
    simp only [Instr.loadAt, Sem.run_bind, Instr.sureAddr, Sem.run_pure, Result.andThen_ok, loadVar, run_isAggB ha, Bool.false_eq_true, if_false, run_load, hcell]
  · simp only [if_true] at hr
    split at hr <;> simp at hr
    rename_i hle
    subst hr
    have hl : ((((List.range cs.length).map cv).drop o).take n).length = n := by simp; omega
    have hvs : VTs C φ ((cs.drop o).take n) ((((List.range cs.length).map cv).drop o).take n) := by
      refine ⟨by simp, fun i x v hx hv' => ?_⟩
      by_cases hin : i < n
      · rw [List.getElem?_take, if_pos hin, List.getElem?_drop] at hx hv'
        exact hv.2 (o + i) x v hx hv'
      · rw [List.getElem?_take, if_neg hin] at hx; cases hx
    refine ⟨_, rfl, .agg ((((List.range cs.length).map cv).drop o).take n).toArray, ?_, FinH.same a.wd a.hr (VT.agg_mk hvs) rfl⟩
    have hload := run_loadCells_list (P := P) w ⟨b, q + o, none⟩ ((((List.range cs.length).map cv).drop o).take n) (fun j v hj => by
      rw [List.getElem?_take] at hj
      split at hj <;> simp at hj
      rename_i hjn
      obtain ⟨x, hx, rfl⟩ := hj
      have hlt : o + j < cs.length := by omega
      have h3 := a.wd _ _ _ (a1 (o + j) cs[o + j] (by simp [hlt])).2
      rw [Addr.add_lit, Nat.add_assoc, h3]
      rw [List.getElem?_range hlt] at hx; simp at hx; rw [hx])
    rw [hl] at hload
    simp only [Instr.loadAt, Sem.run_bind, Instr.sureAddr, Sem.run_pure, Result.andThen_ok, loadVar, run_isAggB ha, if_true, run_sizeB hn, hload]

/-- The first store into a variable, of a value that holds references. -/
theorem sim_iniT {t : TypeId} {n : Nat} {vs : List Value} (hs : sizeB P t = some n) (H : ArgsH n0 C φ w h vals vs) (hr : sIni n vals = some r) :
    ∃ a b, vs = [a, b] ∧ ∃ w', (Instr.storeAt t a b).run P w = .ok () w' ∧ FinH n0 C φ w h (blksL vals vs) r a w' h := by
  unfold sIni at hr
  split at hr <;> try (simp at hr; done)
  rename_i m x
  split at hr <;> simp at hr
  rename_i hc
  obtain ⟨rfl, hcl, hl⟩ := hc
  obtain ⟨a, b, rfl, h1, h2⟩ := H.two
  subst hr
  have ho := H.own 0 _ _ rfl rfl (.fr m, a) (by simp [comps])
  obtain ⟨bb, e, cs, rfl, hb0, hg, hsz, hC⟩ := ho
  have hcells := h2.cells hl
  have hbs : b.cells.size = m := by have := hcells.1; rw [hcl] at this; simpa using this.symm
  have hlt : bb < w.heap.size := (Array.getElem?_eq_some_iff.1 hg).1
  have hnφ : ∀ id, φ id ≠ some bb := H.apart bb (by simp [blksL, blks, comps, blk1])
  have h1c : ∀ v ∈ b.cells.toList, v.oneCell' = true := by
    intro v hv
    obtain ⟨i, hi, rfl⟩ := List.mem_iff_getElem.1 hv
    have hi2 : i < x.cells.length := hcells.1 ▸ hi
    exact (hcells.2 i x.cells[i] _ (by simp [hi2]) (List.getElem?_eq_getElem hi)).oneCell (List.all_eq_true.1 hl _ (List.getElem_mem hi2))
  have hst := run_storeCells_at P bb 0 e b.cells.toList 0 cs w hg (by simp; omega) h1c
  have hfin : (cs.toList.take (0 + 0) ++ b.cells.toList ++ cs.toList.drop (0 + 0 + b.cells.toList.length)).toArray = b.cells := by
    have : cs.toList.drop (0 + 0 + b.cells.toList.length) = [] := List.drop_of_length_le (by simp; omega)
    rw [this]; simp
  rw [hfin] at hst
  have hmono : ∀ b' o v, C b' o = some v → (fun b' o => if b' = bb then b.cells[o]? else C b' o) b' o = some v := by
    intro b' o v hC'
    have hb : b' ≠ bb := fun hb => by subst hb; rw [hC o] at hC'; cases hC'
    simp [hb, hC']
  have hext : Ext (blksL [AV.fr m, x] [.pointer (some ⟨bb, 0, none⟩), b]) C w (fun b' o => if b' = bb then b.cells[o]? else C b' o) (w.setRow bb b.cells) := by
    refine ⟨rfl, rfl, rfl, by simp, fun b' hb' hnb => ?_, hmono, ?_⟩
    · have hne : b' ≠ bb := fun hb => by subst hb; exact hnb (by simp [blksL, blks, comps, blk1])
      exact ⟨setRow_other w bb b' _ hne, fun o => by simp [hne]⟩
    · intro b' o v hC'
      simp only at hC'
      split at hC'
      · rename_i hb; subst hb
        rw [cell_setRow_same w b' o cs b.cells e (0, 0) hg]; exact hC'
      · rename_i hb
        rw [cell_setRow_other w bb _ _ (by simpa using hb)]; exact H.wd b' o v hC'
  refine ⟨_, b, rfl, w.setRow bb b.cells, ?_, _, φ, ?_, hext.more (fun b hb => List.mem_append_left _ hb), H.hr.ext hext H.apart, fun _ _ => rfl, fun id b' hn hb => ?_, Nat.le_refl _, ?_, ?_, ?_⟩
  · simp only [Instr.storeAt, Sem.run_bind, Instr.sureAddr, Sem.run_pure, Result.andThen_ok, storeVar, run_sizeB hs, hbs, ne_eq, not_true_eq_false, if_false, hst]
  · have hcs' := hcells.map (f := AV.share1) fun _ _ => VT.share1
    have := VT.imm (C := fun b' o => if b' = bb then b.cells[o]? else C b' o) (φ := φ) (x.cells.map AV.share1) 0 bb 0 (fun j => b.cells.toList.getD j undef) (fun j c hc => by
      obtain ⟨u, hu, _⟩ := hcs'.get hc
      refine ⟨?_, by simp at hu; simp [hu]⟩
      simp at hc; obtain ⟨y, hy, rfl⟩ := hc
      exact AV.leaf_share1 (List.all_eq_true.1 hl y (List.mem_of_getElem? hy))) (fun j c hc => by
      obtain ⟨u, hu, hvr⟩ := hcs'.get hc
      simp only [List.getD_eq_getElem?_getD, hu, Option.getD_some]
      exact hvr.mono hmono (fun _ _ h => h))
    exact this
  · rw [(H.hr.dom id hn).1] at hb; cases hb
  · intro p hp; simp only [comps, List.mem_singleton] at hp; subst hp; trivial
  · simp [blks, comps, blk1]
  · simp [blks, comps, blk1]

/-- A value that is only held against nil. -/
def veil : AV → AV
  | .ifc t _ => .ifc t .undef
  | .ref _ o => .imm [] o
  | .imm _ o => .imm [] o
  | .fn f cs => .fn f (cs.map fun _ => .undef)
  | x => x
def veilOk : AV → Bool
  | .ifc _ _ | .ref _ _ | .imm _ _ | .fn _ _ | .nili | .nilp | .nilf => true
  | _ => false
theorem VT.veil {x : AV} {v : Value} (hx : veilOk x = true) (hv : VT C φ x v) : VR C (veil x) v := by
  cases hv with
  | pure hv =>
    cases hv <;> simp [veilOk] at hx
    case nilp => exact .nilp
    case nili => exact .nili
    case nilf => exact .nilf
    case imm cs off b q cv h1 h2 => exact VR.imm (C := C) [] off b q cv (by simp) (by simp)
    case ifc t x v h => exact .ifc t .undef v (.undef v)
    case fn f cs g h => 
      have := VR.fn (C := C) f (cs.map fun _ => AV.undef) g (by intro i c hc; simp at hc; obtain ⟨_, rfl⟩ := hc; exact .undef _)
      rw [List.length_map] at this; exact this
  | ref id off b h => have := VR.imm (C := C) [] off b 0 (fun _ => undef) (by simp) (by simp); rw [Nat.zero_add] at this; exact this
  | ifc t x v h => exact .ifc t .undef v (.undef v)
  | fn f cs g h =>
    have := VR.fn (C := C) f (cs.map fun _ => AV.undef) g (by intro i c hc; simp at hc; obtain ⟨_, rfl⟩ := hc; exact .undef _)
    rw [List.length_map] at this; exact this
  | imm cs off b q cv h1 h2 => exact VR.imm (C := C) [] off b q cv (by simp) (by simp)
  | msl => simp [veilOk] at hx
  | tup => simp [veilOk] at hx
  | agg => simp [veilOk] at hx
theorem veil_share {x : AV} (hx : veilOk x = true) : (veil x).share = veil x := by cases x <;> first | rfl | simp [veilOk] at hx
theorem ArgsH.veil {x : AV} {vs : List Value} (a : ArgsH n0 C φ w h [x] vs) (hx : veilOk x = true) : Args n0 C w [veil x] vs := by
  obtain ⟨v, rfl, hv⟩ := a.one
  refine ⟨a.wd, a.base, VRs.cons (hv.veil hx) .nil, ?_, ?_, a.gl⟩
  · intro i y u hy hu
    cases i with
    | zero => simp at hy hu; subst hy; subst hu; rw [← veil_share hx]; exact ownP_share C w n0 (Go.Vm.veil x) v
    | succ i => simp at hy
  · have : blks (Go.Vm.veil x) v = [] := by rw [← veil_share hx]; exact blks_share (Go.Vm.veil x) v
    simp [blksL, this]

/-- Operations on references. -/
theorem simT {o : Oper} {k : NK} {xs : List Operand} (hk : chkK P EQ o k = some xs) {ρ : Operand → Value} (hρ : ∀ v, ρ (.const v) = v)
    (ha : ArgsH n0 C φ w h vals (xs.map ρ)) (hr : semT k vals = some r) : Res P ((execOp ρ o).run P w) (fun v w' => FinH n0 C φ w h (blksL vals (xs.map ρ)) r v w' h) := by
  unfold semT at hr
  split at hr
  -- mv
  · rename_i x
    simp at hr; subst hr
    cases hop : o.op <;> simp [chkK, hop] at hk
    · subst hk
      obtain ⟨v, hv, hf⟩ := FinH.mv ha
      simp at hv; subst hv
      simp only [execOp, hop]; exact hf
    · subst hk
      obtain ⟨v, hv, hf⟩ := FinH.mv ha
      simp at hv; subst hv
      simp only [execOp, hop]; exact hf
  -- nilck
  · rename_i i p
    simp at hr; subst hr
    cases hop : o.op <;> simp [chkK, hop] at hk
    subst hk
    obtain ⟨v, hv, hvt⟩ := ha.one
    obtain ⟨b, hb, hφ⟩ := hvt.ref_inv
    simp at hv; subst hb
    simp only [execOp, hop, hv]
    exact FinH.same ha.wd ha.hr (.ref _ _ _ hφ) rfl
  -- fa
  · rename_i of i p
    simp at hr; subst hr
    cases hop : o.op <;> simp [chkK, hop] at hk
    rename_i s x i'
    cases hs : isStruct P s with
    | none => simp [hs] at hk
    | some fs =>
      cases hfi : fs[i']? with
      | none => simp [hs, hfi] at hk
      | some f =>
        simp only [hs, hfi, Option.bind_some] at hk
        split at hk <;> simp at hk
        rename_i ho
        try simp only [Bool.and_eq_true, beq_iff_eq] at ho
        obtain ⟨h1, h2⟩ := ho
        subst hk
        obtain ⟨n, hn, h2⟩ := nz_spec h2
        obtain ⟨v, hv, hvt⟩ := ha.one
        obtain ⟨b, hb, hφ⟩ := hvt.ref_inv
        subst hb; subst h1
        simp only [List.map_cons, List.map_nil, List.cons.injEq, and_true] at hv
        have hrun : (Instr.fieldAt s (.pointer (some ⟨b, p, none⟩)) i').run P w = .ok (.pointer (some ⟨b, p + f.offset, none⟩)) w := by
          simp only [Instr.fieldAt, Sem.run_bind, run_underlying (isStruct_spec hs), Result.andThen_ok, hfi, Instr.sureAddr, Sem.run_pure, fieldPlace, run_sizeB hn, h2, if_false, Addr.add_lit]
        simp only [execOp, hop, hv]
        exact res_v hrun (FinH.same ha.wd ha.hr (.ref _ _ _ hφ) rfl)
  -- mkI
  · rename_i t i p
    simp at hr; subst hr
    cases hop : o.op <;> simp [chkK, hop] at hk
    obtain ⟨⟨rfl, ht⟩, rfl⟩ := hk
    obtain ⟨v, hv, hvt⟩ := ha.one
    simp at hv; subst hv
    simp only [execOp, hop]
    exact res_v (run_makeInterface w _ _ ht) (FinH.same ha.wd ha.hr (.ifc _ _ _ hvt) rfl)
  -- mkF
  · rename_i f xs'
    simp at hr; subst hr
    cases hop : o.op <;> simp [chkK, hop] at hk
    rename_i fn first cap
    cases fn <;> simp at hk
    obtain ⟨⟨rfl, rfl⟩, rfl⟩ := hk
    have e0 : Array.map ρ #[] = #[] := by simp
    simp only [execOp, hop, e0]
    refine res_v (v := .func (.func _) #[] (cap.map ρ)) (w' := w) rfl (FinH.same ha.wd ha.hr ?_ rfl)
    rw [← map_arr]
    exact VT.fn_mk (ha.vt.map fun _ _ => VT.share)
  -- ext
  · rename_i i vs'
    split at hr <;> simp at hr
    rename_i r' hr'
    obtain ⟨ht, rfl⟩ := hr
    cases hop : o.op <;> simp [chkK, hop] at hk
    obtain ⟨rfl, rfl⟩ := hk
    rename_i x
    obtain ⟨v, hv, hvt⟩ := ha.one
    obtain ⟨us, rfl, k1⟩ := hvt.tup_inv
    obtain ⟨u, hu, hur⟩ := k1.get hr'
    have hv' : ρ x = .tuple us.toArray := by simpa using hv
    have hrun : (Instr.extract (.tuple us.toArray) i).run P w = .ok u w := by simp only [Instr.extract, List.getElem?_toArray, hu]; rfl
    simp only [execOp, hop, hv', List.map_cons, List.map_nil]
    rw [hv] at ha
    refine res_v hrun ?_
    have hm : (r', u) ∈ comps (.tup vs') (.tuple us.toArray) := by
      simp only [comps, List.mem_iff_getElem?]
      exact ⟨i, by simp [List.getElem?_zip_eq_some, hr', hu]⟩
    have ho := ha.own 0 _ _ rfl rfl _ hm
    have hc : comps r' u = [(r', u)] := by cases r' <;> first | rfl | simp [AV.isTup] at ht
    have hsub : ∀ b ∈ blks r' u, b ∈ blksL [.tup vs'] [.tuple us.toArray] := by
      intro b hb
      unfold blks at hb; rw [hc] at hb
      have hb' : b ∈ blk1 r' u := by simpa using hb
      have : b ∈ blks (.tup vs') (.tuple us.toArray) := List.mem_flatMap.2 ⟨_, hm, hb'⟩
      simpa [blksL] using this
    refine ⟨C, φ, hur, .refl ha.wd, ha.hr, fun _ _ => rfl, fun id b hn hb => ?_, Nat.le_refl _, fun p hp => ?_, fun b hb => ⟨.inl (hsub b hb), ha.apart b (hsub b hb)⟩, ?_⟩
    · rw [(ha.hr.dom id hn).1] at hb; cases hb
    · rw [hc] at hp; obtain rfl := List.mem_singleton.1 hp; exact ho
    · have e : blks r' u = blk1 r' u := by unfold blks; rw [hc]; simp
      rw [e]; exact blk1_nodup r' u
  -- ixA
  · rename_i kk id off k' len ki i
    split at hr <;> simp at hr
    rename_i hi
    obtain ⟨rfl, h0, h1⟩ := hi
    subst hr
    cases hop : o.op <;> simp [chkK, hop] at hk
    rename_i t x j
    cases hs : isSlice P t with
    | none => simp [hs] at hk
    | some e =>
      simp only [hs, Option.bind_some] at hk
      split at hk <;> simp at hk
      rename_i ho
      try simp only [beq_iff_eq] at ho
      subst hk
      obtain ⟨u, v, hv, hu, hvv⟩ := ha.two
      obtain ⟨b, cap, rfl, hφ, hcap⟩ := hu.msl_inv
      have hvi : v = .int ki i := by have := hvv.toVR rfl; cases this; rfl
      subst hvi
      simp only [List.map_cons, List.map_nil, List.cons.injEq, and_true] at hv
      have hrun : (Instr.indexAt t (.slice (some ⟨b, off, none⟩) len cap) (.int ki i)).run P w = .ok (.pointer (some ⟨b, off + i.toNat * kk, none⟩)) w := by
        have h3 : 0 ≤ i ∧ i < (len : Int) := ⟨h0, h1⟩
        simp only [Instr.indexAt, asIntOf, Sem.run_bind, Sem.run_pure, Result.andThen_ok, run_underlying (isSlice_spec hs), h3, and_self, if_true, run_sizeB ho, Addr.add_lit]
      simp only [execOp, hop, hv.1, hv.2]
      exact res_v hrun (FinH.same ha.wd ha.hr (.ref _ _ _ hφ) rfl)
  -- lenL
  · rename_i id off k' len
    simp at hr; subst hr
    cases heq : o.op <;> simp [chkK, heq] at hk
    rename_i cl
    obtain ⟨callee, args, ats⟩ := cl
    cases callee <;> (try simp at hk)
    rename_i bi
    cases bi <;> (try simp at hk)
    obtain ⟨⟨⟨h1, h2⟩, h3⟩, rfl⟩ := hk
    obtain ⟨t, ht, h4⟩ := one_arr h1 h3
    subst ht
    obtain ⟨e, he⟩ := Option.isSome_iff_exists.1 h4
    obtain ⟨v, hv, hvt⟩ := ha.one
    obtain ⟨b, cap, rfl, hφ, hcap⟩ := hvt.msl_inv
    have e1 : args.map ρ = #[.slice (some ⟨b, off, none⟩) len cap] := by rw [← map_arr, hv]
    have hrun : (Builtin.len_ #[t] o.type #[.slice (some ⟨b, off, none⟩) len cap]).run P w = .ok (.int .i64 len) w := by
      simp [Builtin.len_, run_underlying (isSlice_spec he), goInt]
    simp only [execOp, heq, resolve, invoke, builtin, Sem.run_bind, Sem.run_pure, Result.andThen_ok, e1, hrun]
    exact FinH.same ha.wd ha.hr (.pure (.int _ _)) rfl
  -- ini
  · cases hop : o.op <;> simp [chkK, hop] at hk
  -- box
  · cases hop : o.op <;> simp [chkK, hop] at hk
    rename_i t x
    subst hk
    obtain ⟨u, hv, v, w', hrun, hf⟩ := sim_boxT (P := P) (t := t) (Bs := blksL vals ([x].map ρ)) ha hr
    simp at hv; subst hv
    simp only [execOp, hop]; exact res_v hrun hf
  -- nilI
  · rename_i n
    have hr2 : ∃ x, vals = [x] ∧ sNilI n [veil x] = some r ∧ veilOk x = true := by
      unfold sNilI at hr
      split at hr <;> simp at hr <;> subst hr <;> exact ⟨_, rfl, rfl, rfl⟩
    obtain ⟨q, rfl, hr3, hq⟩ := hr2
    cases hop : o.op <;> simp only [chkK, hop] at hk <;> try (cases hk; done)
    rename_i op t x y tt
    split at hk <;> try (simp at hk; done)
    rename_i ho
    simp only [Bool.and_eq_true, beq_iff_eq] at ho
    obtain ⟨rfl, ht⟩ := ho
    split at hk
    · simp at hk; subst hk
      obtain ⟨a, hv, ⟨v, hrun, hf⟩, _⟩ := sim_nilI (P := P) (Bs := blksL [q] ([x].map ρ)) n ht x (.const .nilIface) (ha.veil hq) hr3 (.inr rfl)
      simp at hv; subst hv
      simp only [execOp, hop, hρ]; exact res_v hrun (hf.toH ha.hr ha.apart)
    · split at hk <;> simp at hk; subst hk
      obtain ⟨a, hv, _, ⟨v, hrun, hf⟩⟩ := sim_nilI (P := P) (Bs := blksL [q] ([y].map ρ)) n ht (.const .nilIface) y (ha.veil hq) hr3 (.inl rfl)
      simp at hv; subst hv
      simp only [execOp, hop, hρ]; exact res_v hrun (hf.toH ha.hr ha.apart)
  -- nilP
  · rename_i n
    have hr2 : ∃ x, vals = [x] ∧ sNilP n [veil x] = some r ∧ veilOk x = true := by
      unfold sNilP at hr
      split at hr <;> simp at hr <;> subst hr <;> exact ⟨_, rfl, rfl, rfl⟩
    obtain ⟨q, rfl, hr3, hq⟩ := hr2
    cases hop : o.op <;> simp only [chkK, hop] at hk <;> try (cases hk; done)
    rename_i op t x y tt
    split at hk <;> try (simp at hk; done)
    rename_i ho
    simp only [Bool.and_eq_true, beq_iff_eq] at ho
    obtain ⟨rfl, ht⟩ := ho
    split at hk
    · simp at hk; subst hk
      obtain ⟨a, hv, ⟨v, hrun, hf⟩, _⟩ := sim_nilP (P := P) (Bs := blksL [q] ([x].map ρ)) n ht x (.const (.pointer none)) (ha.veil hq) hr3 (.inr rfl)
      simp at hv; subst hv
      simp only [execOp, hop, hρ]; exact res_v hrun (hf.toH ha.hr ha.apart)
    · split at hk <;> simp at hk; subst hk
      obtain ⟨a, hv, _, ⟨v, hrun, hf⟩⟩ := sim_nilP (P := P) (Bs := blksL [q] ([y].map ρ)) n ht (.const (.pointer none)) y (ha.veil hq) hr3 (.inl rfl)
      simp at hv; subst hv
      simp only [execOp, hop, hρ]; exact res_v hrun (hf.toH ha.hr ha.apart)
  -- nilF
  · rename_i n
    have hr2 : ∃ x, vals = [x] ∧ sNilF n [veil x] = some r ∧ veilOk x = true := by
      unfold sNilF at hr
      split at hr <;> simp at hr <;> subst hr <;> exact ⟨_, rfl, rfl, rfl⟩
    obtain ⟨q, rfl, hr3, hq⟩ := hr2
    cases hop : o.op <;> simp only [chkK, hop] at hk <;> try (cases hk; done)
    rename_i op t x y tt
    split at hk <;> try (simp at hk; done)
    rename_i ho
    simp only [Bool.and_eq_true, beq_iff_eq] at ho
    obtain ⟨rfl, ht⟩ := ho
    split at hk
    · simp at hk; subst hk
      obtain ⟨a, hv, ⟨v, hrun, hf⟩, _⟩ := sim_nilF (P := P) (Bs := blksL [q] ([x].map ρ)) n ht x (.const .nilFunc) (ha.veil hq) hr3 (.inr rfl)
      simp at hv; subst hv
      simp only [execOp, hop, hρ]; exact res_v hrun (hf.toH ha.hr ha.apart)
    · split at hk <;> simp at hk; subst hk
      obtain ⟨a, hv, _, ⟨v, hrun, hf⟩⟩ := sim_nilF (P := P) (Bs := blksL [q] ([y].map ρ)) n ht (.const .nilFunc) y (ha.veil hq) hr3 (.inl rfl)
      simp at hv; subst hv
      simp only [execOp, hop, hρ]; exact res_v hrun (hf.toH ha.hr ha.apart)
  -- pick
  · cases hop : o.op <;> simp [chkK, hop] at hk
    rename_i c x y
    subst hk
    unfold sPick at hr
    split at hr <;> simp at hr
    rename_i b q1 q2
    obtain ⟨v1, vs1, hv1, g1, g2⟩ := ha.vt.cons_inv
    obtain ⟨v2, vs2, rfl, g3, g4⟩ := g2.cons_inv
    obtain ⟨v3, vs3, rfl, g5, g6⟩ := g4.cons_inv
    cases g6.nil_inv
    simp only [List.map_cons, List.map_nil, List.cons.injEq, and_true] at hv1
    have e1 : v1 = .bool b := by cases g1 with | pure g => cases g; rfl
    subst hr
    simp only [execOp, hop, hv1.1, e1, asBool, Sem.run_bind, Sem.run_pure, Result.andThen_ok, hv1.2.1, hv1.2.2]
    cases b
    · exact FinH.same ha.wd ha.hr g5.share (share_share _)
    · exact FinH.same ha.wd ha.hr g3.share (share_share _)
  -- ldI
  · cases hop : o.op <;> simp [chkK, hop] at hk
    rename_i n agg t x
    obtain ⟨ho, rfl⟩ := hk
    obtain ⟨u, hv, v, hrun, hf⟩ := sim_ldIT (P := P) (Bs := blksL vals ([x].map ρ)) ho.1 ho.2 ha hr
    simp at hv; subst hv
    simp only [execOp, hop]; exact res_v hrun hf
  -- ixP
  · rename_i len n id p ki i
    split at hr <;> simp at hr
    rename_i hi
    subst hr
    cases hop : o.op <;> simp [chkK, hop] at hk
    rename_i t x j
    cases hs : arrOf P t with
    | none => simp [hs] at hk
    | some q =>
      obtain ⟨l, e⟩ := q
      simp only [hs, Option.bind_some] at hk
      split at hk <;> simp at hk
      rename_i ho
      obtain ⟨rfl, h2⟩ := ho
      subst hk
      obtain ⟨u, v, hv, hu, hvv⟩ := ha.two
      obtain ⟨b, rfl, hφ⟩ := hu.ref_inv
      have hvi : v = .int ki i := by have := hvv.toVR rfl; cases this; rfl
      subst hvi
      simp only [List.map_cons, List.map_nil, List.cons.injEq, and_true] at hv
      simp only [execOp, hop, hv.1, hv.2]
      exact res_v (run_indexAt_arr hs h2 b p ki i hi.1 hi.2) (FinH.same ha.wd ha.hr (.ref _ _ _ hφ) rfl)
  · simp at hr

end
end Go.Vm
