/- Operations that make memory: literals, make, append, boxes. -/
import Derived.Test.YtacifbbmfkampaaDoorVmD
import Derived.Great.BuildSlice
namespace Go.Vm
open Go.RowKit
set_option linter.unusedVariables false
set_option linter.unusedSimpArgs false
set_option linter.unusedSectionVars false
variable [Glob]

section
variable {P : Program} {n0 : Nat} {C : Pub} {w : World} {vals : List AV} {vs : List Value} {r : AV} {Bs : List Nat}

theorem lt_row {i j k n : Nat} (hi : i < n) (hj : j < k) : i * k + j < n * k := by
  have : (i + 1) * k ≤ n * k := Nat.mul_le_mul_right _ hi
  rw [Nat.add_mul, Nat.one_mul] at this; omega
theorem div_row {i j k : Nat} (hj : j < k) : (i * k + j) / k = i := by
  rw [Nat.mul_comm, Nat.mul_add_div (by omega), Nat.div_eq_of_lt hj]; omega
theorem mod_row {i j k : Nat} (hj : j < k) : (i * k + j) % k = j := by
  rw [Nat.mul_comm, Nat.mul_add_mod, Nat.mod_eq_of_lt hj]
theorem lt_of_get {α} {l : List α} {i : Nat} {x : α} (h : l[i]? = some x) : i < l.length := by
  rcases Nat.lt_or_ge i l.length with h' | h'; exact h'; simp [List.getElem?_eq_none h'] at h

theorem VRs.get {xs : List AV} {us : List Value} (h : VRs C xs us) {i : Nat} {x} (hx : xs[i]? = some x) : ∃ u, us[i]? = some u ∧ VR C x u := by
  have hi := lt_of_get hx
  have h2 : i < us.length := h.1 ▸ hi
  exact ⟨us[i], by simp [h2], h.2 i x _ hx (by simp [h2])⟩

/-- Elements laid side by side: which cell is which. -/
theorem flat_cell {k : Nat} {l : List AV} {us : List Value} (hv : VRs C l us) (hk : ∀ x ∈ l, x.cells.length = k) (hleaf : ∀ x ∈ l, x.cells.all AV.leaf = true) (hk0 : 0 < k) :
    (us.flatMap fun v => v.cells.toList).length = l.length * k ∧
    ∀ (i : Nat) x (j : Nat) c, l[i]? = some x → x.cells[j]? = some c → c.leaf = true ∧ ∃ u, (us.flatMap fun v => v.cells.toList)[i * k + j]? = some u ∧ VR C c u := by
  have hs : ∀ u ∈ us, u.cells.size = k := by
    intro u hu
    obtain ⟨i, hi, rfl⟩ := List.mem_iff_getElem.1 hu
    have hi2 : i < l.length := hv.1 ▸ hi
    have h1 := (hv.2 i l[i] us[i] (by simp [hi2]) (by simp [hi])).cells (hleaf _ (List.getElem_mem hi2))
    have := h1.1; rw [hk _ (List.getElem_mem hi2)] at this; simpa using this.symm
  constructor
  · rw [List.length_flatMap, hv.1]
    have : us.map (fun v => v.cells.toList.length) = List.replicate us.length k := by
      apply List.ext_getElem
      · simp
      · intro i h1 h2; simp at h1 ⊢; exact hs _ (List.getElem_mem h1)
    rw [this]; simp
  · intro i x j c hx hc
    have hi := lt_of_get hx
    have hj : j < k := by have := lt_of_get hc; rwa [hk x (List.mem_of_getElem? hx)] at this
    obtain ⟨u, hu, hvr⟩ := hv.get hx
    have hlx := hleaf x (List.mem_of_getElem? hx)
    obtain ⟨v, hv2, hvr2⟩ := (hvr.cells hlx).get hc
    refine ⟨List.all_eq_true.1 hlx c (List.mem_of_getElem? hc), v, ?_, hvr2⟩
    rw [Great.flat_get hk0 us hs, div_row hj, mod_row hj, hu]
    simpa using hv2

/-- A new block, published as a row. -/
theorem Fin.row {w1 : World} (h1 : w1.heap = w.heap) (h2 : w1.os = w.os) (h3 : w1.tape = w.tape) (h4 : w1.output = w.output)
    {k : Nat} {l : List AV} {us : List Value} (hv : VRs C l us) (hk : ∀ x ∈ l, x.cells.length = k) (hleaf : ∀ x ∈ l, x.cells.all AV.leaf = true) (hk0 : 0 < k)
    (cells : Array Value) (hpre : cells.toList.take (l.length * k) = us.flatMap fun v => v.cells.toList) (cap : Nat) (hcap : l.length ≤ cap) (hmax : cap ≤ maxLen) (hsz : cells.size = cap * k)
    (e : TypeId) (hn0 : n0 ≤ w.heap.size) (hw : Wd C w) :
    Fin n0 C w Bs (.sl true k l) (.slice (some ⟨w.heap.size, 0, none⟩) l.length cap) (w1.alloc (.cells cells e)) := by
  obtain ⟨hlen, hcell⟩ := flat_cell hv hk hleaf hk0
  have hsz2 : w1.heap.size = w.heap.size := by rw [h1]
  have hle : l.length * k ≤ cells.size := by rw [hsz]; exact Nat.mul_le_mul_right _ hcap
  have hget : ∀ o, o < l.length * k → cells[o]? = (us.flatMap fun v => v.cells.toList)[o]? := by
    intro o ho; rw [← hpre, List.getElem?_take, if_pos ho]; simp
  refine ⟨fun b o => if b = w.heap.size then (if o < l.length * k then cells[o]? else none) else C b o, ?_, ?_, ?_, ?_, ?_⟩
  · refine .sl true k l w.heap.size 0 none cap (fun i j => (cells[i * k + j]?).getD undef) hcap (fun _ => rfl) hk ?_ ?_
    · intro i x j c hx hc
      obtain ⟨hl, u, hu, _⟩ := hcell i x j c hx hc
      have hj : j < k := by have := lt_of_get hc; rwa [hk x (List.mem_of_getElem? hx)] at this
      have ho := lt_row (lt_of_get hx) hj
      refine ⟨hl, ?_⟩
      simp only [Nat.zero_add, if_pos, ho, if_true]
      rw [hget _ ho, hu]; rfl
    · intro i x j c hx hc
      obtain ⟨hl, u, hu, hvr⟩ := hcell i x j c hx hc
      have hj : j < k := by have := lt_of_get hc; rwa [hk x (List.mem_of_getElem? hx)] at this
      have ho := lt_row (lt_of_get hx) hj
      rw [hget _ ho, hu]
      refine hvr.mono fun b o v hC => ?_
      have hb : b ≠ w.heap.size := fun hb => by have := hw.fresh (b := b) (by omega) o; rw [hC] at this; cases this
      simp [hb, hC]
  · refine ⟨h2, h3, h4, by simp [h1], fun b hb _ => ⟨?_, fun o => by simp [Nat.ne_of_lt hb]⟩, fun b o v hC => ?_, ?_⟩
    · rw [Below.heap_alloc w1 _ b (by omega), h1]
    · have hb : b ≠ w.heap.size := fun hb => by have := hw.fresh (b := b) (by omega) o; rw [hC] at this; cases this
      simp [hb, hC]
    · intro b o v hC
      simp only at hC
      split at hC
      · rename_i hb; subst hb
        split at hC
        · rw [← hsz2, cell_of_row _ _ _ cells e (0, 0) (heap_alloc_new w1 _)]; exact hC
        · cases hC
      · rename_i hb
        have := hw b o v hC
        rw [World.cell?_alloc_old _ _ _ (by simpa [hsz2] using hb)]
        rw [← this]; exact World.cell?_of_block (by rw [h1])
  · intro p hp
    simp only [comps, List.mem_singleton] at hp
    subst hp
    refine ⟨e, _, ⟨hlen, .inr ⟨w.heap.size, cap, cells, rfl, hn0, ?_, hcap, hmax, hsz, hpre⟩⟩, fun b hb o ho => ?_⟩
    · rw [← hsz2]; exact heap_alloc_new w1 _
    · simp [Value.ownBlock] at hb; subst hb; simp; omega
  · intro b hb
    simp [blks, comps, blk1, Value.ownBlock] at hb
    right; omega
  · simp [blks, comps, blk1, Value.ownBlock]

theorem parts_zip {ρ : Operand → Value} (ps : Array (Nat × Operand)) (n : Nat) (h : ps.toList.map (·.1) = List.range n) :
    (ps.map fun (i, x) => (i, ρ x)).toList = (((ps.toList.map (·.2)).map ρ).zipIdx 0).map fun x => (x.2, x.1) := by
  have hl : ps.toList.length = n := by have := congrArg List.length h; simpa using this
  apply List.ext_getElem
  · simp
  · intro i h1 h2
    simp at h1 h2 ⊢
    have := congrArg (fun l => l[i]?) h
    simp at this
    have hi : i < n := by simpa using (hl ▸ h1)
    simp [h1, hi] at this
    exact this

theorem sim_lit {ρ : Operand → Value} (t e : TypeId) (n k : Nat) (ps : Array (Nat × Operand)) (z : Value)
    (ht : P.underlying t = some (.slice e)) (hs : sizeB P e = some k) (hz : zeroB P e = some z) (hps : ps.toList.map (·.1) = List.range n) (hn : n * k ≤ 16777216) (hk0 : 0 < k) (hn0 : 0 < n)
    (h : Args n0 C w vals ((ps.toList.map (·.2)).map ρ)) (hr : sLit k vals = some r) :
    ∃ v w', (Instr.buildSlice t n (ps.map fun (i, x) => (i, ρ x))).run P w = .ok v w' ∧ Fin n0 C w Bs r v w' := by
  unfold sLit at hr
  split at hr <;> simp at hr
  rename_i hall
  subst hr
  simp only [List.all_eq_true, Bool.and_eq_true, decide_eq_true_eq] at hall
  unfold sizeB at hs; unfold zeroB at hz
  cases hi : P.info? e with
  | none => simp [hi] at hs
  | some i =>
    simp [hi] at hs hz
    subst hs
    have hl : ps.toList.length = n := by have := congrArg List.length hps; simpa using this
    have hlv : vals.length = n := by have := h.vr.1; simp at this; rw [this]; simpa using hl
    have hvs : ∀ v ∈ (ps.toList.map (·.2)).map ρ, v.cells.size = i.size := by
      intro v hv
      obtain ⟨j, hj, rfl⟩ := List.mem_iff_getElem.1 hv
      have hj2 : j < vals.length := by rw [h.vr.1]; exact hj
      have hx := hall vals[j] (List.getElem_mem hj2)
      have h1 := (h.vr.2 j vals[j] _ (by simp [hj2]) (List.getElem?_eq_getElem hj)).cells (List.all_eq_true.2 hx.2)
      have := h1.1; rw [hx.1] at this; simpa using this.symm
    have hrun := run_buildSlice (P := P) w t e n (ps.map fun (i, x) => (i, ρ x)) _ i z ht hi hz (by omega) (by have := Nat.mul_pos hn0 hk0; omega)
      (by rw [parts_zip ps n hps]; exact Great.fill_whole hk0 _ _ hvs (by simp only [List.length_map, hl, Array.size_map, Array.size_range]))
    refine ⟨_, _, hrun, ?_⟩
    have hv := h.vr.map (f := AV.share) fun _ _ => VR.share
    have hlm : (vals.map AV.share).length = n := by simpa using hlv
    have hsh : ∀ x : AV, x.cells.all AV.leaf = true → x.share.cells.length = x.cells.length ∧ x.share.cells.all AV.leaf = true := by
      intro x hx
      cases x with
      | tup => simp [AV.cells, AV.leaf] at hx
      | fr => simp [AV.cells, AV.leaf] at hx
      | undef => simp [AV.cells, AV.leaf] at hx
      | agg => exact ⟨rfl, hx⟩
      | _ => exact ⟨rfl, rfl⟩
    have hk : ∀ x ∈ vals.map AV.share, x.cells.length = i.size := by
      intro x hx; obtain ⟨y, hy, rfl⟩ := List.mem_map.1 hx
      rw [(hsh y (List.all_eq_true.2 (hall y hy).2)).1]; exact (hall y hy).1
    have hleaf : ∀ x ∈ vals.map AV.share, x.cells.all AV.leaf = true := by
      intro x hx; obtain ⟨y, hy, rfl⟩ := List.mem_map.1 hx
      exact (hsh y (List.all_eq_true.2 (hall y hy).2)).2
    obtain ⟨hlen, _⟩ := flat_cell hv hk hleaf hk0
    have := Fin.row (Bs := Bs) (n0 := n0) (w := w) (w1 := w) rfl rfl rfl rfl hv hk hleaf hk0 (((ps.toList.map (·.2)).map ρ).flatMap fun v => v.cells.toList).toArray (by
      show List.take _ (((ps.toList.map (·.2)).map ρ).flatMap fun v => v.cells.toList) = _
      rw [List.take_of_length_le (by rw [hlen]; exact Nat.le_refl _)]) n (by omega) (by
      have : n ≤ n * i.size := Nat.le_mul_of_pos_right _ hk0
      simp [maxLen]; omega) (by rw [List.size_toArray, hlen, hlm]) e h.base h.wd
    rw [hlm] at this
    exact this

theorem sim_rep {t e : TypeId} {k bytes : Nat} {zero : AV} {z : Value}
    (ht : P.underlying t = some (.slice e)) (hs : sizeB P e = some k) (hb : bytesB P e = some bytes) (hz : zeroB P e = some z) (hzc : constVs zero.cells z.cells.toList = true) (hzw : constW zero z = true)
    (hzl : zero.cells.all AV.leaf = true) (hzk : zero.cells.length = k) (hk0 : 0 < k)
    (h : Args n0 C w vals vs) (hr : sRep k bytes zero vals = some r) :
    ∃ l, vs = [l] ∧ ∃ v w', (Instr.makeSlice t l l).run P w = .ok v w' ∧ Fin n0 C w Bs r v w' := by
  unfold sRep at hr
  split at hr <;> simp at hr
  rename_i n
  obtain ⟨⟨h0, h1, h2⟩, rfl⟩ := hr
  obtain ⟨v, rfl, hv1, _, _⟩ := h.one
  cases hv1
  refine ⟨_, rfl, ?_⟩
  obtain ⟨i, hi, hi1, hi2, hi3⟩ := info_of hs hb hz
  have hrun := run_make (P := P) w t e i z ht hi hi3 .i64 .i64 n n h0 (Int.le_refl _) (by rw [hi2, Int.mul_comm]; omega) (by omega)
  refine ⟨_, _, hrun, ?_⟩
  have hzs : z.cells.size = k := by
    have := (constVs_sound (C := C) hzc).1; rw [hzk] at this; simpa using this.symm
  have hv : VRs C (List.replicate n.toNat zero) (List.replicate n.toNat z) := by
    refine ⟨by simp, fun i x v hx hv => ?_⟩
    simp [List.getElem?_replicate] at hx hv
    obtain ⟨_, rfl⟩ := hx; obtain ⟨_, rfl⟩ := hv
    exact constW_sound hzw
  have hk : ∀ x ∈ List.replicate n.toNat zero, x.cells.length = k := by intro x hx; rw [(List.mem_replicate.1 hx).2]; exact hzk
  have hleaf : ∀ x ∈ List.replicate n.toNat zero, x.cells.all AV.leaf = true := by intro x hx; rw [(List.mem_replicate.1 hx).2]; exact hzl
  have := Fin.row (Bs := Bs) (n0 := n0) (w := w) (w1 := w) rfl rfl rfl rfl hv hk hleaf hk0 (madeCells z.cells (n.toNat * i.size)) (by
    rw [List.take_of_length_le (by simp [size_madeCells, hi1])]
    apply List.ext_getElem?
    intro o
    rw [Great.flat_get hk0 _ (by intro v hv; rw [(List.mem_replicate.1 hv).2]; exact hzs)]
    simp only [madeCells, hi1, hzs]
    rcases Nat.lt_or_ge o (n.toNat * k) with ho | ho
    · have h3 : o / k < n.toNat := (Nat.div_lt_iff_lt_mul hk0).2 ho
      have h4 : o % k < z.cells.size := by rw [hzs]; exact Nat.mod_lt _ hk0
      simp [ho, List.getElem?_replicate, h3, h4]
    · have h3 : ¬ o / k < n.toNat := by rw [Nat.div_lt_iff_lt_mul hk0]; omega
      simp [List.getElem?_replicate, h3]; omega) n.toNat (by simp) (by simp [maxLen]; omega) (by simp [size_madeCells, hi1]) e h.base h.wd
  simpa using this

/-- A new block, published whole, behind a pointer. -/
theorem Fin.boxed {cs : List AV} {us : List Value} (hv : VRs C cs us) (hleaf : cs.all AV.leaf = true) (e : TypeId) (hw : Wd C w) :
    Fin n0 C w Bs (.imm cs 0) (.pointer (some ⟨w.heap.size, 0, none⟩)) (w.alloc (.cells us.toArray e)) := by
  refine ⟨fun b o => if b = w.heap.size then us[o]? else C b o, ?_, ?_, ?_, ?_, ?_⟩
  · have := VR.imm (C := fun b o => if b = w.heap.size then us[o]? else C b o) cs 0 w.heap.size 0 (fun j => us.getD j undef) (fun j c hc => by
      obtain ⟨u, hu, _⟩ := hv.get hc
      exact ⟨List.all_eq_true.1 hleaf c (List.mem_of_getElem? hc), by simp [hu]⟩) (fun j c hc => by
      obtain ⟨u, hu, hvr⟩ := hv.get hc
      simp only [List.getD_eq_getElem?_getD, hu, Option.getD_some]
      refine hvr.mono fun b o v hC => ?_
      have hb : b ≠ w.heap.size := fun hb => by have := hw.fresh (b := b) (by omega) o; rw [hC] at this; cases this
      simp [hb, hC])
    exact this
  · refine ⟨rfl, rfl, rfl, by simp, fun b hb _ => ⟨Below.heap_alloc w _ b hb, fun o => by simp [Nat.ne_of_lt hb]⟩, fun b o v hC => ?_, ?_⟩
    · have hb : b ≠ w.heap.size := fun hb => by have := hw.fresh (b := b) (by omega) o; rw [hC] at this; cases this
      simp [hb, hC]
    · intro b o v hC
      simp only at hC
      split at hC
      · rename_i hb; subst hb
        rw [cell_of_row _ _ _ us.toArray e (0, 0) (heap_alloc_new w _)]; simpa using hC
      · rename_i hb
        rw [World.cell?_alloc_old _ _ _ (by simpa using hb)]; exact hw b o v hC
  · intro p hp; simp only [comps, List.mem_singleton] at hp; subst hp; trivial
  · simp [blks, comps, blk1]
  · simp [blks, comps, blk1]

end
end Go.Vm
