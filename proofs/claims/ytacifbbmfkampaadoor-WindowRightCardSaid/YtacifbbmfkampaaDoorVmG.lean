/- Operations, continued: parts of structs, elements, cuts, assertions, lengths, append, new variables. -/
import Derived.Test.YtacifbbmfkampaaDoorVmF
namespace Go.Vm
open Go.RowKit
set_option linter.unusedVariables false
set_option linter.unusedSimpArgs false
set_option linter.unusedSectionVars false
variable [Glob]

section
variable {P : Program} {n0 : Nat} {C : Pub} {w : World} {vals : List AV} {vs : List Value} {r : AV} {Bs : List Nat}

-- ------------------------------------------------------------ build
theorem VRs.set {cs us x v} (h : VRs C cs us) (hx : VR C x v) (i : Nat) : VRs C (cs.set i x) (us.set i v) := by
  refine ⟨by simp [h.1], fun j y u hy hu => ?_⟩
  rw [List.getElem?_set] at hy hu
  by_cases e : i = j
  · subst e
    have hlt : i < cs.length := by rcases Nat.lt_or_ge i cs.length with h' | h'; exact h'; simp [h', List.getElem?_eq_none h'] at hy; omega
    have hlt2 : i < us.length := h.1 ▸ hlt
    simp [hlt] at hy; simp [hlt2] at hu; subst hy; subst hu; exact hx
  · simp [e] at hy hu; exact h.2 j y u hy hu
theorem setsA_length (cs : List AV) (off : Nat) (ys : List AV) : (setsA cs off ys).length = cs.length := by
  induction ys generalizing cs off with
  | nil => rfl
  | cons y ys ih => simp [setsA, ih]
theorem sets_rel {ys : List AV} {us : List Value} (h : VRs C ys us) : ∀ (o j0 : Nat) (cs : List AV) (A : Array Value), VRs C cs A.toList →
    VRs C (setsA cs (o + j0) ys) ((us.zipIdx j0).foldl (fun (a : Array Value) (x : Value × Nat) => a.setIfInBounds (o + x.2) x.1) A).toList := by
  induction ys generalizing us with
  | nil => intro o j0 cs A hA; cases h.nil_inv; exact hA
  | cons y ys ih =>
    intro o j0 cs A hA
    obtain ⟨u, us', rfl, h1, h2⟩ := h.cons_inv
    simp only [setsA, List.zipIdx_cons, List.foldl_cons]
    exact ih h2 o (j0 + 1) _ _ (by simpa using hA.set h1 (o + j0))

def placeOf (P : Program) (t : TypeId) : Option (Nat → Option (Nat × Nat)) :=
  match P.underlying t with
  | some (.struct fields) => (fields.toList.mapM (fun f => (P.info? f.type).map fun i => (f.offset, i.size))).map fun pl i => pl.toArray[i]?
  | some (.array _ e) => (P.info? e).map fun ie i => some (i * ie.size, ie.size)
  | _ => none
def aggOk (P : Program) (t : TypeId) (zero : List AV) (offs : List (Nat × Nat)) (idxs : List Nat) : Bool :=
  match zeroB P t, placeOf P t with
  | some z, some pl => constVs zero z.cells.toList && zero.all AV.leaf && decide (idxs.map pl = offs.map some)
  | _, _ => false

theorem fill_rel (pl : Nat → Option (Nat × Nat)) : ∀ (idxs : List Nat) (offs : List (Nat × Nat)) (us : List Value) (vals : List AV) (cs cs' : List AV) (A : Array Value),
    idxs.map pl = offs.map some → VRs C vals us → VRs C cs A.toList → fillA cs offs vals = some cs' → ∃ A' : Array Value, Instr.fill pl A (idxs.zip us) = some A' ∧ VRs C cs' A'.toList
  | [], [], us, vals, cs, cs', A, _, hv, hA, hf => by
    cases vals <;> simp [fillA] at hf
    subst hf; cases hv.nil_inv
    exact ⟨A, by simp [Instr.fill], hA⟩
  | [], _ :: _, _, _, _, _, _, h, _, _, _ => by simp at h
  | _ :: _, [], _, _, _, _, _, h, _, _, _ => by simp at h
  | i :: idxs, (off, n) :: offs, us, vals, cs, cs', A, h, hv, hA, hf => by
    cases vals with
    | nil => simp [fillA] at hf
    | cons x xs =>
      simp only [fillA] at hf
      split at hf <;> try (simp at hf; done)
      rename_i hc
      obtain ⟨hn, hl, ho⟩ := hc
      obtain ⟨u, us', rfl, h1, h2⟩ := hv.cons_inv
      simp only [List.map_cons, List.cons.injEq] at h
      have hcells := h1.cells hl
      have hsz : u.cells.size = n := by have := hcells.1; rw [hn] at this; simpa using this.symm
      have hcells' := hcells.map (f := AV.share1) fun _ _ => VR.share1
      have hstep := sets_rel hcells' off 0 cs A hA
      obtain ⟨A', hA', hv'⟩ := fill_rel pl idxs offs us' xs _ cs' _ h.2 h2 hstep hf
      refine ⟨A', ?_, hv'⟩
      have hAs : A.size = cs.length := by have := hA.1; simpa using this.symm
      simp only [List.zip_cons_cons, Instr.fill, h.1]
      rw [if_neg (by rw [hsz, hAs]; simp; omega), ← hA']
      congr 1
      rw [← Array.foldl_toList, Array.toList_zipIdx]

theorem sim_agg {ρ : Operand → Value} (t : TypeId) (zero : List AV) (offs : List (Nat × Nat)) (ps : Array (Nat × Operand)) (hok : aggOk P t zero offs (ps.toList.map (·.1)) = true)
    (h : Args n0 C w vals ((ps.toList.map (·.2)).map ρ)) (hr : sAgg zero offs vals = some r) :
    ∃ v, (Instr.build t (ps.map fun (i, x) => (i, ρ x))).run P w = .ok v w ∧ Fin n0 C w Bs r v w := by
  unfold sAgg at hr
  split at hr <;> simp at hr
  rename_i cs' hf
  subst hr
  unfold aggOk at hok
  split at hok <;> simp at hok
  rename_i z pl hz hpl
  obtain ⟨⟨hzc, hzl⟩, hio⟩ := hok
  have hzv : VRs C zero z.cells.toList := constVs_sound hzc
  have hio' : (ps.toList.map (·.1)).map pl = offs.map some := by simpa using hio
  obtain ⟨A', hA', hv'⟩ := fill_rel pl _ offs _ vals zero cs' z.cells hio' h.vr hzv hf
  have hparts : (ps.map fun (i, x) => (i, ρ x)).toList = (ps.toList.map (·.1)).zip ((ps.toList.map (·.2)).map ρ) := by
    apply List.ext_getElem
    · simp
    · intro i h1 h2; simp
  have hb : P.built t (ps.map fun (i, x) => (i, ρ x)).toList = some A' := by
    unfold zeroB at hz
    unfold placeOf at hpl
    unfold Program.built
    cases hi : P.info? t with
    | none => simp [hi] at hz
    | some it =>
      simp only [hi, Option.bind_some] at hz
      split at hpl
      · rename_i fields hu
        cases hm : fields.toList.mapM (fun f => (P.info? f.type).map fun i => (f.offset, i.size)) with
        | none => simp [hm] at hpl
        | some places =>
          simp only [hm, Option.map_some, Option.some.injEq] at hpl
          subst hpl
          simp only [hu, hz, hm]
          rw [hparts]; exact hA'
      · rename_i n e hu
        cases hm : P.info? e with
        | none => simp [hm] at hpl
        | some ie =>
          simp only [hm, Option.map_some, Option.some.injEq] at hpl
          subst hpl
          simp only [hu, hz, hm]
          rw [hparts]; exact hA'
      · simp at hpl
  exact ⟨_, run_build w t _ A' hb, Fin.shared h.wd (by have := VR.agg_mk hv'; simpa using this) rfl⟩

-- ------------------------------------------------------------ parts
theorem VRs.take {xs us} (h : VRs C xs us) (n : Nat) : VRs C (xs.take n) (us.take n) := by
  refine ⟨by simp [h.1], fun i x v hx hv => ?_⟩
  rw [List.getElem?_take] at hx hv
  split at hx <;> simp_all
  exact h.2 i x v hx hv
theorem VRs.drop {xs us} (h : VRs C xs us) (n : Nat) : VRs C (xs.drop n) (us.drop n) := by
  refine ⟨by simp [h.1], fun i x v hx hv => ?_⟩
  rw [List.getElem?_drop] at hx hv
  exact h.2 _ x v hx hv
theorem takeC_share {cs off n agg r} (h : takeC cs off n agg = some r) : ∃ y : AV, r = y.share1 := by
  unfold takeC at h
  split at h
  · split at h <;> simp at h
    exact ⟨.agg ((cs.drop off).take n), by rw [← h]; rfl⟩
  · split at h <;> simp at h
    exact ⟨_, h.2.symm⟩
theorem Fin.share1 {v} (hw : Wd C w) (h : VR C r v) (hs : ∃ y : AV, r = y.share1) (ht : r.isTup = false) : Fin n0 C w Bs r v w :=
  Fin.same hw h fun p hp => by
    have hc : comps r v = [(r, v)] := by cases r <;> first | rfl | simp [AV.isTup] at ht
    rw [hc] at hp; obtain rfl := List.mem_singleton.1 hp; exact hs
theorem leaf_notTup {c : AV} (h : c.leaf = true) : c.share1.isTup = false := by cases c <;> first | rfl | simp [AV.leaf] at h
theorem takeC_notTup {cs off n agg r} (h : takeC cs off n agg = some r) : r.isTup = false := by
  unfold takeC at h
  split at h
  · split at h <;> simp at h
    rw [← h]; rfl
  · split at h <;> simp at h
    rename_i c _
    rw [← h.2]; exact leaf_notTup h.1
theorem run_part {t : TypeId} {off n : Nat} {agg : Bool} (ha : isAggB P t = some agg) (hs : sizeB P t = some n) {cs : List AV} {us : List Value} (hv : VRs C cs us) (hr : takeC cs off n agg = some r) :
    ∃ v, (part t us.toArray off).run P w = .ok v w ∧ VR C r v := by
  unfold takeC at hr
  cases agg
  · simp only [Bool.false_eq_true, if_false] at hr
    split at hr <;> simp at hr
    rename_i c hc
    obtain ⟨u, hu, hvr⟩ := hv.get hc
    refine ⟨u, ?_, by rw [← hr.2]; exact hvr.share1⟩
    simp only [part, Sem.run_bind, run_isAggB ha, Result.andThen_ok, Bool.false_eq_true, if_false, List.getElem?_toArray, hu]
    rfl
  · simp only [if_true] at hr
    split at hr <;> simp at hr
    refine ⟨.agg (us.toArray.extract off (off + n)), ?_, ?_⟩
    · simp only [part, Sem.run_bind, run_isAggB ha, run_sizeB hs, Result.andThen_ok, if_true, Sem.run_pure]
    · rw [← hr]
      have h1 : us.toArray.extract off (off + n) = ((us.drop off).take n).toArray := by
        apply Array.ext'; simp [List.drop_take]
      rw [h1]; exact VR.agg_mk ((hv.drop off).take n)

theorem sim_fld {s : TypeId} {i : Nat} {fs : Array Field} {f : Field} {off n : Nat} {agg : Bool} (hs : isStruct P s = some fs) (hf : fs[i]? = some f) (ho : f.offset = off) (ha : isAggB P f.type = some agg) (hn : sizeB P f.type = some n)
    (h : Args n0 C w vals vs) (hr : sFld off n agg vals = some r) : ∃ a, vs = [a] ∧ ∃ v, (Instr.field s a i).run P w = .ok v w ∧ Fin n0 C w Bs r v w := by
  unfold sFld at hr
  split at hr <;> try (simp at hr; done)
  obtain ⟨a, rfl, h1, _, _⟩ := h.one
  obtain ⟨us, rfl, k1⟩ := h1.agg_inv
  obtain ⟨v, hrun, hv⟩ := run_part (w := w) ha hn k1 hr
  refine ⟨_, rfl, v, ?_, Fin.share1 h.wd hv (takeC_share hr) (takeC_notTup hr)⟩
  subst ho
  simp only [Instr.field, Sem.run_bind, run_underlying (isStruct_spec hs), Result.andThen_ok, hf, asAgg, Sem.run_pure, hrun]

theorem sim_ixG {t e : TypeId} {len n : Nat} {agg : Bool} (ht : P.underlying t = some (.array len e)) (ha : isAggB P e = some agg) (hn : sizeB P e = some n)
    (h : Args n0 C w vals vs) (hr : sIxG len n agg vals = some r) : ∃ a b, vs = [a, b] ∧ ∃ v, (Instr.index t a b).run P w = .ok v w ∧ Fin n0 C w Bs r v w := by
  unfold sIxG at hr
  split at hr <;> try (simp at hr; done)
  split at hr <;> try (simp at hr; done)
  rename_i hi
  obtain ⟨a, b, rfl, h1, h2⟩ := h.two
  obtain ⟨us, rfl, k1⟩ := h1.agg_inv
  cases h2
  obtain ⟨v, hrun, hv⟩ := run_part (w := w) ha hn k1 hr
  refine ⟨_, _, rfl, v, ?_, Fin.share1 h.wd hv (takeC_share hr) (takeC_notTup hr)⟩
  simp only [Instr.index, asIntOf, Sem.run_bind, Sem.run_pure, run_underlying ht, Result.andThen_ok, hi, and_self, if_true, run_sizeB hn, hrun]

theorem sim_fa {s : TypeId} {i : Nat} {fs : Array Field} {f : Field} {off n : Nat} (hs : isStruct P s = some fs) (hf : fs[i]? = some f) (ho : f.offset = off) (hn : sizeB P f.type = some n) (hn0 : n ≠ 0)
    (h : Args n0 C w vals vs) (hr : sFa off vals = some r) : ∃ a, vs = [a] ∧ ∃ v, (Instr.fieldAt s a i).run P w = .ok v w ∧ Fin n0 C w Bs r v w := by
  unfold sFa at hr
  split at hr <;> simp at hr
  · rename_i cs p
    obtain ⟨a, rfl, h1, _, _⟩ := h.one
    cases h1 with
    | imm _ _ b q cv a1 a2 =>
      subst hr; subst ho
      refine ⟨_, rfl, .pointer (some ⟨b, q + (p + f.offset), none⟩), ?_, Fin.shared h.wd (.imm _ _ b q cv a1 a2) rfl⟩
      simp only [Instr.fieldAt, Sem.run_bind, run_underlying (isStruct_spec hs), Result.andThen_ok, hf, Instr.sureAddr, Sem.run_pure, fieldPlace, run_sizeB hn, hn0, if_false, Addr.add_lit, Nat.add_assoc]
  · obtain ⟨a, rfl, h1, _, _⟩ := h.one
    cases h1

theorem sim_ldI {t : TypeId} {n : Nat} {agg : Bool} (ha : isAggB P t = some agg) (hn : sizeB P t = some n) (h : Args n0 C w vals vs) (hr : sLdI n agg vals = some r) :
    ∃ a, vs = [a] ∧ ∃ v, (Instr.loadAt t a).run P w = .ok v w ∧ Fin n0 C w Bs r v w := by
  unfold sLdI at hr
  split at hr <;> try (simp at hr; done)
  rename_i cs o
  obtain ⟨a, rfl, h1, _, _⟩ := h.one
  cases h1 with
  | imm _ _ b q cv a1 a2 =>
    have hv : VRs C cs ((List.range cs.length).map cv) := VRs.range a2
    have hr0 := hr
    unfold takeC at hr
    cases agg
    · simp only [Bool.false_eq_true, if_false] at hr
      split at hr <;> simp at hr
      rename_i c hc
      refine ⟨_, rfl, cv o, ?_, Fin.share1 h.wd (by rw [← hr.2]; exact (a2 o c hc).share1) (takeC_share hr0) (takeC_notTup hr0)⟩
      have hcell := h.wd _ _ _ (a1 o c hc).2
      simp only [Instr.loadAt, Sem.run_bind, Instr.sureAddr, Sem.run_pure, Result.andThen_ok, loadVar, run_isAggB ha, Bool.false_eq_true, if_false, run_load, hcell]
    · simp only [if_true] at hr
      split at hr <;> simp at hr
      rename_i hle
      have hl : ((((List.range cs.length).map cv).drop o).take n).length = n := by simp; omega
      refine ⟨_, rfl, .agg ((((List.range cs.length).map cv).drop o).take n).toArray, ?_, Fin.share1 h.wd (by rw [← hr]; exact VR.agg_mk ((hv.drop o).take n)) (takeC_share hr0) (takeC_notTup hr0)⟩
      have hload := run_loadCells_list (P := P) w ⟨b, q + o, none⟩ ((((List.range cs.length).map cv).drop o).take n) (fun j v hj => by
        rw [List.getElem?_take] at hj
        split at hj <;> simp at hj
        rename_i hjn
        obtain ⟨x, hx, rfl⟩ := hj
        have hlt : o + j < cs.length := by omega
        have h3 := h.wd _ _ _ (a1 (o + j) cs[o + j] (by simp [hlt])).2
        rw [Addr.add_lit, Nat.add_assoc, h3]
        rw [List.getElem?_range hlt] at hx; simp at hx; rw [hx])
      rw [hl] at hload
      simp only [Instr.loadAt, Sem.run_bind, Instr.sureAddr, Sem.run_pure, Result.andThen_ok, loadVar, run_isAggB ha, if_true, run_sizeB hn, hload]

theorem sim_ixA {t e : TypeId} {k : Nat} (ht : P.underlying t = some (.slice e)) (hk : sizeB P e = some k) (h : Args n0 C w vals vs) (hr : sIxA k vals = some r) :
    ∃ a b, vs = [a, b] ∧ ∃ v, (Instr.indexAt t a b).run P w = .ok v w ∧ Fin n0 C w Bs r v w := by
  unfold sIxA at hr
  split at hr <;> try (simp at hr; done)
  rename_i k' l ki i
  split at hr <;> try (simp at hr; done)
  rename_i hi
  obtain ⟨rfl, h0⟩ := hi
  split at hr <;> simp at hr
  rename_i x hx
  obtain ⟨a, b, rfl, h1, h2⟩ := h.two
  cases h2
  subst hr
  have hlt := lt_of_get hx
  cases h1 with
  | slnil => simp at hx
  | sl _ _ _ bb off sp cap cv hcap hsp hkk a1 a2 =>
    have hsp' : sp = none := hsp (by intro hn; subst hn; simp at hx)
    subst hsp'
    refine ⟨_, _, rfl, .pointer (some ⟨bb, (off + i.toNat * k) + 0, none⟩), ?_, Fin.shared h.wd (.imm _ _ bb (off + i.toNat * k) (fun j => cv i.toNat j) (fun j c hc => ?_) (fun j c hc => ?_)) rfl⟩
    · have h3 : 0 ≤ i ∧ i < (l.length : Int) := ⟨h0, by omega⟩
      simp only [Instr.indexAt, asIntOf, Sem.run_bind, Sem.run_pure, Result.andThen_ok, run_underlying ht, h3, and_self, if_true, run_sizeB hk, Addr.add_lit, Nat.add_zero]
    · have := a1 i.toNat x j c hx hc
      refine ⟨this.1, ?_⟩
      rw [Nat.add_assoc]; exact this.2
    · exact a2 i.toNat x j c hx hc

theorem sim_ixS {t : TypeId} (ht : P.underlying t = some .string) (h : Args n0 C w vals vs) (hr : sIxS vals = some r) :
    ∃ a b, vs = [a, b] ∧ ∃ v, (Instr.index t a b).run P w = .ok v w ∧ Fin n0 C w Bs r v w := by
  unfold sIxS at hr
  split at hr <;> try (simp at hr; done)
  rename_i s k i
  split at hr <;> try (simp at hr; done)
  rename_i h0
  split at hr <;> simp at hr
  rename_i c hc
  obtain ⟨a, b, rfl, h1, h2⟩ := h.two
  cases h1; cases h2
  subst hr
  refine ⟨_, _, rfl, _, ?_, Fin.shared h.wd (.int _ _) rfl⟩
  have hlt := lt_of_get hc
  have hg : (ByteArray.mk s.toArray)[i.toNat]? = some c := by
    have h4 : i.toNat < (ByteArray.mk s.toArray).size := by simpa [ByteArray.size] using hlt
    rw [getElem?_pos (ByteArray.mk s.toArray) i.toNat h4]
    have h5 : s[i.toNat] = c := by simpa [hlt] using hc
    rw [← h5]; rfl
  simp only [Instr.index, asIntOf, Sem.run_bind, Sem.run_pure, Result.andThen_ok, run_underlying ht, h0, if_true, hg]

-- ------------------------------------------------------------ lengths
theorem sim_lenS {t ty : TypeId} (ht : P.underlying t = some .string) (h : Args n0 C w vals vs) (hr : sLenS vals = some r) :
    ∃ a, vs = [a] ∧ ∃ v, (Builtin.len_ #[t] ty #[a]).run P w = .ok v w ∧ Fin n0 C w Bs r v w := by
  unfold sLenS at hr
  split at hr <;> simp at hr
  obtain ⟨a, rfl, h1, _, _⟩ := h.one
  cases h1; subst hr
  refine ⟨_, rfl, _, ?_, Fin.shared h.wd (.int _ _) rfl⟩
  rename_i s _ _
  have e : ByteArray.size ⟨s.toArray⟩ = s.length := by simp [ByteArray.size]
  simp [Builtin.len_, run_underlying ht, goInt, e]
theorem sim_lenL {t ty e : TypeId} (ht : P.underlying t = some (.slice e)) (h : Args n0 C w vals vs) (hr : sLenL vals = some r) :
    ∃ a, vs = [a] ∧ ∃ v, (Builtin.len_ #[t] ty #[a]).run P w = .ok v w ∧ Fin n0 C w Bs r v w := by
  unfold sLenL at hr
  split at hr <;> simp at hr
  obtain ⟨a, rfl, h1, _, _⟩ := h.one
  subst hr
  cases h1 <;> refine ⟨_, rfl, _, ?_, Fin.shared h.wd (.int _ _) rfl⟩ <;> simp [Builtin.len_, run_underlying ht, goInt]

theorem fold_mx {f : AV → AV → Option AV} {g : Value → Value → Sem Value} (hfg : ∀ x y z a b, VR C x a → VR C y b → f x y = some z → ∃ c, (g a b).run P w = .ok c w ∧ VR C z c ∧ z.share = z) :
    ∀ (xs : List AV) (us : List Value) (x : AV) (v : Value) (r : AV), VRs C xs us → VR C x v → x.share = x → foldO f xs x = some r → ∃ c, (us.foldlM g v).run P w = .ok c w ∧ VR C r c ∧ r.share = r
  | [], us, x, v, r, hv, hx, hs, hr => by
    cases hv.nil_inv
    simp [foldO] at hr; subst hr
    exact ⟨v, by simp, hx, hs⟩
  | y :: ys, us, x, v, r, hv, hx, hs, hr => by
    obtain ⟨u, us', rfl, h1, h2⟩ := hv.cons_inv
    simp only [foldO] at hr
    split at hr <;> try (simp at hr; done)
    rename_i z hz
    obtain ⟨c, hc, hvz, hsz⟩ := hfg x y z v u hx h1 hz
    obtain ⟨d, hd, hvr, hsr⟩ := fold_mx hfg ys us' z c r h2 hvz hsz hr
    exact ⟨d, by simp only [List.foldlM_cons, Sem.run_bind, hc, Result.andThen_ok, hd], hvr, hsr⟩
theorem mx2_rel : ∀ x y z a b, VR C x a → VR C y b → mx2 x y = some z → ∃ c, (Builtin.max2 a b).run P w = .ok c w ∧ VR C z c ∧ z.share = z := by
  intro x y z a b hx hy h
  unfold mx2 at h
  split at h <;> simp at h
  cases hx; cases hy; subst h
  exact ⟨_, rfl, .int _ _, rfl⟩
theorem mn2_rel : ∀ x y z a b, VR C x a → VR C y b → mn2 x y = some z → ∃ c, (Builtin.min2 a b).run P w = .ok c w ∧ VR C z c ∧ z.share = z := by
  intro x y z a b hx hy h
  unfold mn2 at h
  split at h <;> simp at h
  cases hx; cases hy; subst h
  exact ⟨_, rfl, .int _ _, rfl⟩
theorem sim_mx {ts : Array TypeId} {ty : TypeId} (h : Args n0 C w vals vs) (hr : sMx vals = some r) : ∃ v, (Builtin.max_ ts ty vs.toArray).run P w = .ok v w ∧ Fin n0 C w Bs r v w := by
  unfold sMx at hr
  split at hr <;> try (simp at hr; done)
  rename_i k n xs
  obtain ⟨v, vs', rfl, h1, h2⟩ := h.vr.cons_inv
  obtain ⟨c, hc, hv, hs⟩ := fold_mx (P := P) (w := w) mx2_rel xs vs' _ v r h2 h1 rfl hr
  exact ⟨c, by simpa [Builtin.max_] using hc, Fin.shared h.wd hv hs⟩
theorem sim_mn {ts : Array TypeId} {ty : TypeId} (h : Args n0 C w vals vs) (hr : sMn vals = some r) : ∃ v, (Builtin.min_ ts ty vs.toArray).run P w = .ok v w ∧ Fin n0 C w Bs r v w := by
  unfold sMn at hr
  split at hr <;> try (simp at hr; done)
  rename_i k n xs
  obtain ⟨v, vs', rfl, h1, h2⟩ := h.vr.cons_inv
  obtain ⟨c, hc, hv, hs⟩ := fold_mx (P := P) (w := w) mn2_rel xs vs' _ v r h2 h1 rfl hr
  exact ⟨c, by simpa [Builtin.min_] using hc, Fin.shared h.wd hv hs⟩

end
end Go.Vm
