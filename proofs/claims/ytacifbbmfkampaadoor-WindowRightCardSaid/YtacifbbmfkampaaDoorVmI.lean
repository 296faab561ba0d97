/- append, onto a row that the value owns; bytes to a string. -/
import Derived.Test.YtacifbbmfkampaaDoorVmH
namespace Go.Vm
open Go.RowKit
set_option linter.unusedVariables false
set_option linter.unusedSimpArgs false
set_option linter.unusedSectionVars false
variable [Glob]

section
variable {P : Program} {n0 : Nat} {C : Pub} {w : World} {vals : List AV} {vs : List Value} {r : AV} {Bs : List Nat}

/-- A row that was written on, in the block that it owns. -/
theorem Fin.onto {g : Nat} {w' : World} (h2 : w'.os = w.os) (h3 : w'.tape = w.tape) (h4 : w'.output = w.output) (h5 : w'.heap.size = w.heap.size)
    (hold : ∀ b, b ≠ g → w'.heap[b]? = w.heap[b]?) (cells : Array Value) (e : TypeId) (hg : w'.heap[g]? = some (.cells cells e (0, 0)))
    {k : Nat} {l : List AV} {us : List Value} (hv : VRs C l us) (hk : ∀ x ∈ l, x.cells.length = k) (hleaf : ∀ x ∈ l, x.cells.all AV.leaf = true) (hk0 : 0 < k)
    (hC : ∀ o v, C g o = some v → o < l.length * k ∧ cells[o]? = some v)
    (hpre : cells.toList.take (l.length * k) = us.flatMap fun v => v.cells.toList) (cap : Nat) (hcap : l.length ≤ cap) (hmax : cap ≤ maxLen) (hsz : cells.size = cap * k)
    (hn0 : n0 ≤ g) (hw : Wd C w) (hgB : g ∈ Bs) :
    Fin n0 C w Bs (.sl true k l) (.slice (some ⟨g, 0, none⟩) l.length cap) w' := by
  obtain ⟨hlen, hcell⟩ := flat_cell hv hk hleaf hk0
  have hle : l.length * k ≤ cells.size := by rw [hsz]; exact Nat.mul_le_mul_right _ hcap
  have hget : ∀ o, o < l.length * k → cells[o]? = (us.flatMap fun v => v.cells.toList)[o]? := by
    intro o ho; rw [← hpre, List.getElem?_take, if_pos ho]; simp
  have hmono : ∀ b o v, C b o = some v → (if b = g then (if o < l.length * k then cells[o]? else none) else C b o) = some v := by
    intro b o v h
    by_cases hb : b = g
    · subst hb; obtain ⟨h6, h7⟩ := hC o v h; simp [h6, h7]
    · simp [hb, h]
  refine ⟨fun b o => if b = g then (if o < l.length * k then cells[o]? else none) else C b o, ?_, ?_, ?_, ?_, ?_⟩
  · refine .sl true k l g 0 none cap (fun i j => (cells[i * k + j]?).getD undef) hcap (fun _ => rfl) hk ?_ ?_
    · intro i x j c hx hc
      obtain ⟨hl, u, hu, _⟩ := hcell i x j c hx hc
      have hj : j < k := by have := lt_of_get hc; rwa [hk x (List.mem_of_getElem? hx)] at this
      have ho := lt_row (lt_of_get hx) hj
      refine ⟨hl, ?_⟩
      simp only [Nat.zero_add, if_pos, ho, if_true]
      rw [hget _ ho, hu]; rfl
    · intro i x j c hx hc
      obtain ⟨hl, u, hu, hvr⟩ := hcell i x j c hx hc
      have hj : j < k := by have := lt_of_get hc; rwa [hk x (List.mem_of_getElem? hx)] at this
      have ho := lt_row (lt_of_get hx) hj
      rw [hget _ ho, hu]
      exact hvr.mono hmono
  · refine ⟨h2, h3, h4, by omega, fun b hb hnb => ?_, hmono, ?_⟩
    · have hne : b ≠ g := fun he => hnb (he ▸ hgB)
      exact ⟨hold b hne, fun o => by simp [hne]⟩
    · intro b o v h
      simp only at h
      split at h
      · rename_i hb; subst hb
        split at h
        · rw [cell_of_row _ _ _ cells e (0, 0) hg]; exact h
        · cases h
      · rename_i hb
        rw [World.cell?_of_block (w := w) (a := ⟨b, o, none⟩) (hold b hb)]; exact hw b o v h
  · intro p hp
    simp only [comps, List.mem_singleton] at hp
    subst hp
    refine ⟨e, _, ⟨hlen, .inr ⟨g, cap, cells, rfl, hn0, hg, hcap, hmax, hsz, hpre⟩⟩, fun b hb o ho => ?_⟩
    simp [Value.ownBlock] at hb; subst hb; simp; omega
  · intro b hb
    simp [blks, comps, blk1, Value.ownBlock] at hb
    left; rw [hb]; exact hgB
  · simp [blks, comps, blk1, Value.ownBlock]

/-- A slice's elements as values, and where their cells stand. -/
theorem VR.elems {o k l b off sp n cap} (h : VR C (.sl o k l) (.slice (some ⟨b, off, sp⟩) n cap)) (hk0 : 0 < k) :
    n = l.length ∧ n ≤ cap ∧ (l ≠ [] → sp = none) ∧ (∀ x ∈ l, x.cells.length = k) ∧ (∀ x ∈ l, x.cells.all AV.leaf = true) ∧
    ∃ us, VRs C l us ∧ (us.flatMap fun v => v.cells.toList).length = l.length * k ∧ ∀ (j : Nat) u, (us.flatMap fun v => v.cells.toList)[j]? = some u → C b (off + j) = some u ∧ u.oneCell' = true := by
  cases h with
  | sl _ _ _ _ _ _ _ cv hcap hsp hkk h1 h2 =>
    have hleaf : ∀ x ∈ l, x.cells.all AV.leaf = true := by
      intro x hx
      obtain ⟨i, hi, rfl⟩ := List.mem_iff_getElem.1 hx
      rw [List.all_eq_true]
      intro c hc
      obtain ⟨j, hj, rfl⟩ := List.mem_iff_getElem.1 hc
      exact (h1 i l[i] j _ (by simp [hi]) (by simp [hj])).1
    let U : Nat → AV → Value := fun i x => match x with | .agg cs => .agg ((List.range cs.length).map (cv i)).toArray | _ => cv i 0
    have hU : ∀ (i : Nat) x, l[i]? = some x → VR C x (U i x) ∧ ∀ (j : Nat) c, x.cells[j]? = some c → (U i x).cells[j]? = some (cv i j) := by
      intro i x hx
      have hlx := hleaf x (List.mem_of_getElem? hx)
      cases x with
      | agg cs =>
        refine ⟨VR.agg cs (cv i) fun j c hc => h2 i _ j c hx hc, fun j c hc => ?_⟩
        have hj := lt_of_get hc
        simp [U, Value.cells, AV.cells] at hj ⊢
        simp [hj]
      | tup => simp [AV.cells, AV.leaf] at hlx
      | fr => simp [AV.cells, AV.leaf] at hlx
      | undef => simp [AV.cells, AV.leaf] at hlx
      | _ =>
        have hv0 := h2 i _ 0 _ hx rfl
        refine ⟨hv0, fun j c hc => ?_⟩
        have hj : j = 0 := by have := lt_of_get hc; simp [AV.cells] at this; exact this
        subst hj
        have h1c := hv0.oneCell (by simpa [AV.cells] using hlx)
        show (Value.cells (cv i 0))[0]? = _
        cases hcv : cv i 0 <;> simp [hcv, Value.oneCell'] at h1c <;> rfl
    have hus : VRs C l (l.zipIdx.map fun p => U p.2 p.1) := by
      refine ⟨by simp, fun i x v hx hv => ?_⟩
      simp [List.getElem?_map, List.getElem?_zipIdx, hx] at hv
      subst hv; exact (hU i x hx).1
    obtain ⟨hlen, hcell⟩ := flat_cell hus hkk hleaf hk0
    refine ⟨rfl, hcap, hsp, hkk, hleaf, _, hus, hlen, fun j u hu => ?_⟩
    have hjl : j < l.length * k := by have := lt_of_get hu; rwa [hlen] at this
    have hi : j / k < l.length := (Nat.div_lt_iff_lt_mul hk0).2 hjl
    have hjm : j % k < k := Nat.mod_lt _ hk0
    have hx : l[j / k]? = some l[j / k] := by simp [hi]
    have hm : j % k < l[j / k].cells.length := by rw [hkk _ (List.getElem_mem hi)]; exact hjm
    have hc : l[j / k].cells[j % k]? = some l[j / k].cells[j % k] := by simp [hm]
    have e : j / k * k + j % k = j := by rw [Nat.mul_comm]; exact Nat.div_add_mod j k
    have h3 := h1 _ _ _ _ hx hc
    rw [e] at h3
    have hs : ∀ v ∈ (l.zipIdx.map fun p => U p.2 p.1), v.cells.size = k := by
      intro v hv
      obtain ⟨i, hi', rfl⟩ := List.mem_iff_getElem.1 hv
      have hi2 : i < l.length := by simpa using hi'
      have h4 := (hus.2 i l[i] _ (by simp [hi2]) (List.getElem?_eq_getElem hi')).cells (hleaf _ (List.getElem_mem hi2))
      have := h4.1; rw [hkk _ (List.getElem_mem hi2)] at this; simpa using this.symm
    rw [Great.flat_get hk0 _ hs] at hu
    simp [List.getElem?_map, List.getElem?_zipIdx, hx] at hu
    have h5 := (hU _ _ hx).2 _ _ hc
    rw [h5] at hu
    simp at hu
    rw [← hu]
    exact ⟨h3.2, (h2 _ _ _ _ hx hc).oneCell h3.1⟩

theorem run_append_room' (t ty e e' : TypeId) (i : TypeInfo) (ht : P.underlying t = some (.slice e)) (hi : P.info? e = some i)
    (g sLen sCap : Nat) (cur : Array Value) (hg : w.heap[g]? = some (.cells cur e' (0, 0)))
    (a : Addr) (m c : Nat) (news : List Value) (hl : news.length = m * i.size) (hnews : ∀ (j : Nat) u, news[j]? = some u → w.cell? (a.add j) = some u) (h1 : ∀ u ∈ news, u.oneCell' = true)
    (hroom : sLen + m ≤ sCap) (hfit : sLen * i.size + news.length ≤ cur.size) :
    (Builtin.append_ #[t, t] ty #[.slice (some ⟨g, 0, none⟩) sLen sCap, .slice (some a) m c]).run P w =
      .ok (.slice (some ⟨g, 0, none⟩) (sLen + m) sCap) (w.setRow g (cur.toList.take (sLen * i.size) ++ news ++ cur.toList.drop (sLen * i.size + news.length)).toArray) := by
  have hf := run_firstCells_some (P := P) w i.size m a m c news hl hnews
  have hst := run_storeCells_at P g (sLen * i.size) e' news 0 cur w hg (by simpa using hfit) h1
  simp only [Nat.add_zero] at hst
  simp [Builtin.append_, run_underlying ht, sizeOf, typeInfo, hi, Builtin.lenOf, hroom, hf, Addr.add_lit, hst]
theorem run_append_nothing (t ty e : TypeId) (i : TypeInfo) (ht : P.underlying t = some (.slice e)) (hi : P.info? e = some i) (base : Option Addr) (sLen sCap c : Nat) (y : Option Addr) (hroom : sLen ≤ sCap) :
    (Builtin.append_ #[t, t] ty #[.slice base sLen sCap, .slice y 0 c]).run P w = .ok (.slice base sLen sCap) w := by
  cases base <;> cases y <;> simp [Builtin.append_, run_underlying ht, sizeOf, typeInfo, hi, Builtin.lenOf, Builtin.firstCells, hroom, loadCells, loadCellsFrom, storeCells]

theorem sim_app {t ty e : TypeId} {k0 bytes : Nat} {z : Value} (ht : P.underlying t = some (.slice e)) (hs : sizeB P e = some k0) (hby : bytesB P e = some bytes) (hz : zeroB P e = some z) (hzs : z.cells.size = k0) (hk0 : 0 < k0)
    (h : Args n0 C w vals vs) (hr : sApp k0 bytes vals = some r) :
    ∃ a b, vs = [a, b] ∧ ∃ v w', (Builtin.append_ #[t, t] ty #[a, b]).run P w = .ok v w' ∧ Fin n0 C w (blksL vals vs) r v w' := by
  unfold sApp at hr
  split at hr <;> try (simp at hr; done)
  rename_i k1 l fl k m
  split at hr <;> simp at hr
  rename_i hc
  obtain ⟨⟨rfl, rfl⟩, hcb, hcl⟩ := hc
  subst hr
  obtain ⟨i, hi, hi1, hi2, hi3⟩ := info_of hs hby hz
  obtain ⟨a, b, rfl, h1, h2⟩ := h.two
  refine ⟨a, b, rfl, ?_⟩
  have ho := h.own 0 _ _ rfl rfl (.sl true k l, a) (by simp [comps])
  obtain ⟨e', xs, hrow, hCn⟩ := ho
  -- what is appended
  have hnews : ∃ (y : Option Addr) (c : Nat) (um : List Value), b = .slice y m.length c ∧ VRs C m um ∧ (∀ x ∈ m, x.cells.length = k) ∧ (∀ x ∈ m, x.cells.all AV.leaf = true) ∧ (um.flatMap fun v => v.cells.toList).length = m.length * k ∧
      (m ≠ [] → ∃ ad, y = some ad ∧ ∀ (j : Nat) u, (um.flatMap fun v => v.cells.toList)[j]? = some u → w.cell? (ad.add j) = some u) ∧ ∀ u ∈ (um.flatMap fun v => v.cells.toList), u.oneCell' = true := by
    cases h2 with
    | slnil => exact ⟨none, 0, [], rfl, VRs.nil, by simp, by simp, by simp, by simp, by simp⟩
    | sl _ _ _ bb off sp cap cv hcap hsp hkk a1 a2 =>
      obtain ⟨_, _, hsp', hkk', hl', um, hum, hlen, hcell⟩ := VR.elems (VR.sl fl k m bb off sp cap cv hcap hsp hkk a1 a2) hk0
      refine ⟨_, cap, um, rfl, hum, hkk', hl', hlen, fun hm => ?_, fun u hu => ?_⟩
      · have := hsp' hm; subst this
        exact ⟨_, rfl, fun j u hu => by rw [Addr.add_lit]; exact h.wd _ _ _ (hcell j u hu).1⟩
      · obtain ⟨j, hj, rfl⟩ := List.mem_iff_getElem.1 hu
        exact (hcell j _ (List.getElem?_eq_getElem hj)).2
  obtain ⟨y, c, um, rfl, hum, hkm, hlm, hmlen, hmc, hm1⟩ := hnews
  rcases hrow.2 with ⟨rfl, hl0⟩ | ⟨g, cap, cur, rfl, hbg, hg, hnc, hcm, hcs, htake⟩
  · -- onto nothing
    have hl : l = [] := List.eq_nil_of_length_eq_zero hl0
    subst hl
    by_cases hm : m = []
    · subst hm
      refine ⟨_, w, run_append_nothing t ty e i ht hi none 0 0 c y (Nat.le_refl _), C, ?_, .refl h.wd, ?_, ?_, ?_⟩
      · simpa using VR.slnil (C := C) true k
      · intro p hp; simp only [comps, List.mem_singleton] at hp; subst hp
        exact ⟨e', [], World.ownsRow_nil w n0 e' k, by simp [Value.ownBlock]⟩
      · simp [blks, comps, blk1, Value.ownBlock]
      · simp [blks, comps, blk1, Value.ownBlock]
    · obtain ⟨ad, rfl, hcells⟩ := hmc hm
      have hmp : 0 < m.length := List.length_pos_iff.2 hm
      have hrun := run_append_nil (P := P) w t ty e i z ht hi hi3 ad m.length c (um.flatMap fun v => v.cells.toList) (by rw [hmlen, hi1]) hcells hmp (by simp at hcl; omega) (by simp at hcb; rw [hi2]; omega)
      refine ⟨_, _, hrun, ?_⟩
      have hge := grownCap_ge w m.length 0 e
      have := Fin.row (Bs := blksL [.sl true k [], .sl fl k m] [.slice none 0 0, .slice (some ad) m.length c]) (n0 := n0) (w := w) (w1 := w.drew) rfl rfl rfl rfl hum hkm hlm hk0
        ((um.flatMap fun v => v.cells.toList).toArray ++ Builtin.zeroCells z.cells (grownCap w m.length 0 e - m.length)) (by rw [← hmlen]; simp) (grownCap w m.length 0 e) hge
        (grownCap_le_maxLen w _ _ _ (by simp at hcl; simp [maxLen]; omega)) (by rw [Array.size_append, List.size_toArray, hmlen, size_zeroCells, hzs, ← Nat.add_mul]; congr 1; omega) e h.base h.wd
      simpa using this
  · obtain ⟨_, _, hspl, hkl, hll, ul, hul, hllen, hlcell⟩ := VR.elems h1 hk0
    have hxs : xs = ul.flatMap fun v => v.cells.toList := by
      apply List.ext_getElem?
      intro j
      rcases Nat.lt_or_ge j (l.length * k) with hj | hj
      · have hj1 : j < xs.length := by rw [hrow.1]; exact hj
        have hj2 : j < (ul.flatMap fun v => v.cells.toList).length := by rw [hllen]; exact hj
        have c1 := hrow.cells (g := g) rfl j xs[j] (by simp [hj1])
        have c2 := h.wd _ _ _ (hlcell j _ (List.getElem?_eq_getElem hj2)).1
        rw [Addr.add_lit] at c1
        rw [c1] at c2
        rw [List.getElem?_eq_getElem hj1, List.getElem?_eq_getElem hj2, Option.some.inj c2]
      · rw [List.getElem?_eq_none (by rw [hrow.1]; exact hj), List.getElem?_eq_none (by rw [hllen]; exact hj)]
    have hvlm : VRs C (l ++ m) (ul ++ um) := hul.append hum
    have hklm : ∀ x ∈ l ++ m, x.cells.length = k := fun x hx => (List.mem_append.1 hx).elim (hkl x) (hkm x)
    have hllm : ∀ x ∈ l ++ m, x.cells.all AV.leaf = true := fun x hx => (List.mem_append.1 hx).elim (hll x) (hlm x)
    by_cases hm : m = []
    · subst hm
      refine ⟨_, w, run_append_nothing t ty e i ht hi _ l.length cap c y hnc, C, ?_, .refl h.wd, ?_, ?_, ?_⟩
      · simpa using h1
      · intro p hp; simp only [comps, List.mem_singleton] at hp; subst hp
        refine ⟨e', xs, ?_, ?_⟩
        · simpa using hrow
        · simpa using hCn
      · intro b hb; left; simp [blks, comps, blk1, Value.ownBlock] at hb; simp [blksL, blks, comps, blk1, Value.ownBlock, hb]
      · simp [blks, comps, blk1, Value.ownBlock]
    · obtain ⟨ad, rfl, hcells⟩ := hmc hm
      by_cases hroom : l.length + m.length ≤ cap
      · have hfit : l.length * i.size + (um.flatMap fun v => v.cells.toList).length ≤ cur.size := by rw [hmlen, hcs, hi1, ← Nat.add_mul]; exact Nat.mul_le_mul_right _ hroom
        have hrun := run_append_room' (P := P) (w := w) t ty e e' i ht hi g l.length cap cur hg ad m.length c _ (by rw [hmlen, hi1]) hcells hm1 hroom hfit
        refine ⟨_, _, hrun, ?_⟩
        rw [hi1] at hfit ⊢
        have hnew : (cur.toList.take (l.length * k) ++ (um.flatMap fun v => v.cells.toList) ++ cur.toList.drop (l.length * k + (um.flatMap fun v => v.cells.toList).length)).length = cap * k := by
          simp only [List.length_append, List.length_take, List.length_drop, Array.length_toList]; omega
        have := Fin.onto (Bs := blksL [.sl true k l, .sl fl k m] [.slice (some ⟨g, 0, none⟩) l.length cap, .slice (some ad) m.length c]) (n0 := n0) (w := w) (g := g) (w' := w.setRow g (cur.toList.take (l.length * k) ++ (um.flatMap fun v => v.cells.toList) ++ cur.toList.drop (l.length * k + (um.flatMap fun v => v.cells.toList).length)).toArray)
          rfl rfl rfl (by simp) (fun b hb => setRow_other w g b _ hb) _ e' (setRow_heap w g cur _ e' _ hg) hvlm hklm hllm hk0 (fun o v hCo => by
            have hlt : o < l.length * k := by
              rcases Nat.lt_or_ge o (l.length * k) with h' | h'
              · exact h'
              · rw [hCn g (by simp [Value.ownBlock]) o h'] at hCo; cases hCo
            refine ⟨by simp [Nat.add_mul]; omega, ?_⟩
            have hc1 := h.wd _ _ _ hCo
            rw [cell_of_row w g o cur e' (0, 0) hg] at hc1
            have hcur : o < cur.size := by rw [hcs]; exact Nat.lt_of_lt_of_le hlt (Nat.mul_le_mul_right _ hnc)
            simp only [List.getElem?_toArray]
            rw [List.getElem?_append_left (by simp; omega), List.getElem?_append_left (by simp; omega), List.getElem?_take, if_pos hlt]
            simpa using hc1)
          (by
            rw [htake, hxs]
            simp only [List.length_append, Nat.add_mul]
            rw [← hllen, ← hmlen, ← List.length_append, List.flatMap_append]
            exact List.take_left) cap (by simpa using hroom) hcm (by simpa using hnew) hbg h.wd (by simp [blksL, blks, comps, blk1, Value.ownBlock])
        simpa using this
      · have hrun := run_append_grow (P := P) w t ty e i z ht hi hi3 ⟨g, 0, none⟩ l.length cap xs (by rw [hrow.1, hi1]) (hrow.cells (g := g) rfl) ad m.length c _ (by rw [hmlen, hi1]) hcells (by omega) (by omega) (growslice_fits (by omega) (by rw [hi2]; exact hcb))
        refine ⟨_, _, hrun, ?_⟩
        have hge := grownCap_ge w (l.length + m.length) cap e
        have := Fin.row (Bs := blksL [.sl true k l, .sl fl k m] [.slice (some ⟨g, 0, none⟩) l.length cap, .slice (some ad) m.length c]) (n0 := n0) (w := w) (w1 := w.drew) rfl rfl rfl rfl hvlm hklm hllm hk0
          (xs.toArray ++ (um.flatMap fun v => v.cells.toList).toArray ++ Builtin.zeroCells z.cells (grownCap w (l.length + m.length) cap e - (l.length + m.length))) (by
            have e1 : (xs.toArray ++ (um.flatMap fun v => v.cells.toList).toArray ++ Builtin.zeroCells z.cells (grownCap w (l.length + m.length) cap e - (l.length + m.length))).toList = (xs ++ um.flatMap fun v => v.cells.toList) ++ (Builtin.zeroCells z.cells (grownCap w (l.length + m.length) cap e - (l.length + m.length))).toList := by simp
            rw [e1, List.flatMap_append, ← hxs]
            have e2 : (l ++ m).length * k = (xs ++ um.flatMap fun v => v.cells.toList).length := by
              rw [List.length_append, List.length_append, Nat.add_mul, hmlen, hrow.1]
            rw [e2]; exact List.take_left) (grownCap w (l.length + m.length) cap e) (by simpa using hge)
          (grownCap_le_maxLen w _ _ _ (by simp [maxLen]; omega)) (by rw [Array.size_append, Array.size_append, List.size_toArray, List.size_toArray, hmlen, hrow.1, size_zeroCells, hzs, ← Nat.add_mul, ← Nat.add_mul]; congr 1; omega) e h.base h.wd
        simpa using this

end
end Go.Vm
