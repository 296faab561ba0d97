/- Operations, continued: cuts, assertions, append, new variables. -/
import Derived.Test.YtacifbbmfkampaaDoorVmG
namespace Go.Vm
open Go.RowKit
set_option linter.unusedVariables false
set_option linter.unusedSimpArgs false
set_option linter.unusedSectionVars false
variable [Glob]

section
variable {P : Program} {n0 : Nat} {C : Pub} {w : World} {vals : List AV} {vs : List Value} {r : AV} {Bs : List Nat}

-- ------------------------------------------------------------ cuts
def optV (lo hi : Bool) (vs : List Value) : Option Value × Option Value :=
  match lo, hi, vs with
  | true, true, [a, b] => (some a, some b)
  | true, false, [a] => (some a, none)
  | false, true, [b] => (none, some b)
  | _, _, _ => (none, none)

theorem run_bound_ok (k : IntKind) (i : Int) (y : Nat) (code : BoundsCode) (h0 : 0 ≤ i) (h1 : i ≤ y) : (Instr.sliceBound (.int k i) y code).run P w = .ok i.toNat w :=
  run_sliceBound w k i y code h0 h1

theorem bnd_rel {lo hi : Bool} {n cap : Nat} (hcap : n ≤ cap) {xs : List AV} {us : List Value} {l h : Nat} (hv : VRs C xs us) (hb : bnd lo hi n xs = some (l, h)) (isS : Bool) :
    l ≤ h ∧ h ≤ n ∧ (Instr.sliceBounds isS n cap (optV lo hi us).1 (optV lo hi us).2 none).run P w = .ok (l, h, cap) w := by
  unfold bnd at hb
  split at hb
  · simp at hb; obtain ⟨rfl, rfl⟩ := hb
    cases hv.nil_inv
    exact ⟨Nat.zero_le _, Nat.le_refl _, by simp [optV, Instr.sliceBounds]⟩
  · split at hb <;> simp at hb
    rename_i hc
    obtain ⟨rfl, rfl⟩ := hb
    obtain ⟨u, us', rfl, h1, h2⟩ := hv.cons_inv
    cases h2.nil_inv; cases h1
    rename_i k i
    exact ⟨by omega, Nat.le_refl _, by simp only [optV, Instr.sliceBounds, Sem.run_bind, Sem.run_pure, Result.andThen_ok, run_bound_ok k i _ _ hc.1 hc.2]⟩
  · split at hb <;> simp at hb
    rename_i hc
    obtain ⟨rfl, rfl⟩ := hb
    obtain ⟨u, us', rfl, h1, h2⟩ := hv.cons_inv
    cases h2.nil_inv; cases h1
    rename_i k i
    have h3 : ∀ m code, (n : Nat) ≤ m → (Instr.sliceBound (.int k i) m code).run P w = .ok i.toNat w := fun m code hm => run_bound_ok k i m code hc.1 (by omega)
    refine ⟨Nat.zero_le _, by omega, ?_⟩
    simp only [optV, Instr.sliceBounds, Sem.run_bind, Sem.run_pure, Result.andThen_ok, h3 cap _ hcap]
  · split at hb <;> simp at hb
    rename_i hc
    obtain ⟨rfl, rfl⟩ := hb
    obtain ⟨u, us', rfl, h1, h2⟩ := hv.cons_inv
    obtain ⟨u2, us'', rfl, h4, h5⟩ := h2.cons_inv
    cases h5.nil_inv; cases h1; cases h4
    rename_i k i k' j
    have h3 : ∀ m code, (n : Nat) ≤ m → (Instr.sliceBound (.int k' j) m code).run P w = .ok j.toNat w := fun m code hm => run_bound_ok k' j m code (by omega) (by omega)
    have h6 : ∀ code, (Instr.sliceBound (.int k i) j.toNat code).run P w = .ok i.toNat w := fun code => run_bound_ok k i _ code hc.1 (by omega)
    refine ⟨by omega, by omega, ?_⟩
    simp only [optV, Instr.sliceBounds, Sem.run_bind, Sem.run_pure, Result.andThen_ok, h3 cap _ hcap, h6]
  · simp at hb

theorem sim_slS {t : TypeId} {lo hi : Bool} (ht : P.underlying t = some .string) (h : Args n0 C w vals vs) (hr : sSlS lo hi vals = some r) :
    ∃ a us, vs = a :: us ∧ ∃ v, (Instr.sliceAt t a (optV lo hi us).1 (optV lo hi us).2 none).run P w = .ok v w ∧ Fin n0 C w Bs r v w := by
  unfold sSlS at hr
  split at hr <;> try (simp at hr; done)
  rename_i s xs
  split at hr <;> simp at hr
  rename_i l hh hb
  obtain ⟨a, us, rfl, h1, h2⟩ := h.vr.cons_inv
  cases h1
  subst hr
  obtain ⟨e1, e2, e3⟩ := bnd_rel (P := P) (w := w) (n := s.length) (cap := s.length) (Nat.le_refl _) h2 hb false
  have hsz : ByteArray.size ⟨s.toArray⟩ = s.length := by simp [ByteArray.size]
  refine ⟨_, us, rfl, .string ⟨((s.take hh).drop l).toArray⟩, ?_, Fin.shared h.wd (.str _) rfl⟩
  have he : (ByteArray.mk s.toArray).extract l hh = ⟨((s.take hh).drop l).toArray⟩ := by
    apply ByteArray.ext
    rw [ByteArray.data_extract]
    apply Array.ext'
    simp [List.drop_take]
  have hs : (Instr.slice t (.string ⟨s.toArray⟩) (optV lo hi us).1 (optV lo hi us).2 none).run P w = .ok (.string ⟨((s.take hh).drop l).toArray⟩) w := by
    simp only [Instr.slice, Sem.run_bind, run_underlying ht, Result.andThen_ok, Option.isSome_none, Bool.false_eq_true, if_false, hsz, e3, he]
    rfl
  simp only [Instr.sliceAt, Sem.run_bind, run_underlying ht, Result.andThen_ok, hs]

theorem sim_slL {t e : TypeId} {kk : Nat} {lo hi : Bool} (ht : P.underlying t = some (.slice e)) (hk : sizeB P e = some kk) (h : Args n0 C w vals vs) (hr : sSlL kk lo hi vals = some r) :
    ∃ a us, vs = a :: us ∧ ∃ v, (Instr.sliceAt t a (optV lo hi us).1 (optV lo hi us).2 none).run P w = .ok v w ∧ Fin n0 C w Bs r v w := by
  unfold sSlL at hr
  split at hr <;> try (simp at hr; done)
  rename_i o k s xs
  split at hr <;> try (simp at hr; done)
  rename_i hkk'
  subst hkk'
  split at hr <;> simp at hr
  rename_i l hh hb
  obtain ⟨a, us, rfl, h1, h2⟩ := h.vr.cons_inv
  subst hr
  cases h1 with
  | slnil =>
    obtain ⟨e1, e2, e3⟩ := bnd_rel (P := P) (w := w) (n := 0) (cap := 0) (Nat.le_refl _) h2 hb true
    have hh0 : hh = 0 := by simpa using e2
    subst hh0
    have hl0 : l = 0 := by omega
    subst hl0
    refine ⟨_, us, rfl, .slice none 0 0, ?_, Fin.shared h.wd (by simpa using VR.slnil false k) rfl⟩
    simp [Instr.sliceAt, Instr.slice, run_underlying ht, run_sizeB hk, e3]
  | sl _ _ _ b off sp cap cv hcap hsp hkx a1 a2 =>
    obtain ⟨e1, e2, e3⟩ := bnd_rel (P := P) (w := w) (n := s.length) (cap := cap) hcap h2 hb true
    have hlen : ((s.take hh).drop l).length = hh - l := by simp; omega
    refine ⟨_, us, rfl, .slice (if cap = l then some ⟨b, off, sp⟩ else some ((⟨b, off, sp⟩ : Addr).add (l * k))) (hh - l) (cap - l), ?_, Fin.shared h.wd ?_ rfl⟩
    · simp only [Instr.sliceAt, Instr.slice, Sem.run_bind, run_underlying ht, Result.andThen_ok, run_sizeB hk, e3, Sem.run_pure]
      split <;> rfl
    · have hget : ∀ (i : Nat) x, ((s.take hh).drop l)[i]? = some x → s[l + i]? = some x := by
        intro i x hx
        rw [List.getElem?_drop, List.getElem?_take] at hx
        split at hx <;> simp_all
      have hkx' : ∀ x ∈ (s.take hh).drop l, x.cells.length = k := fun x hx => hkx x (List.mem_of_mem_take (List.mem_of_mem_drop hx))
      by_cases hc : cap = l
      · have hnil : (s.take hh).drop l = [] := List.eq_nil_of_length_eq_zero (by rw [hlen]; omega)
        rw [if_pos hc, hnil]
        have := VR.sl (C := C) false k [] b off sp (cap - l) (fun _ _ => undef) (by simp) (by simp) (by simp) (by simp) (by simp)
        have h0 : hh - l = 0 := by omega
        rw [h0]; exact this
      · rw [if_neg hc]
        by_cases hs0 : s = []
        · subst hs0
          have h0 : hh - l = 0 := by simp at e2; omega
          rw [h0]
          simp only [List.take_nil, List.drop_nil]
          unfold Addr.add
          split
          · exact VR.sl (C := C) false k [] b off sp (cap - l) (fun _ _ => undef) (by simp) (by simp) (by simp) (by simp) (by simp)
          · exact VR.sl (C := C) false k [] b _ none (cap - l) (fun _ _ => undef) (by simp) (by simp) (by simp) (by simp) (by simp)
        · have hsp' := hsp hs0
          subst hsp'
          rw [Addr.add_lit]
          have := VR.sl (C := C) false k ((s.take hh).drop l) b (off + l * k) none (cap - l) (fun i j => cv (l + i) j) (by rw [hlen]; omega) (fun _ => rfl) hkx'
            (fun i x j c hx hc2 => by
              have := a1 (l + i) x j c (hget i x hx) hc2
              refine ⟨this.1, ?_⟩
              rw [show off + l * k + (i * k + j) = off + ((l + i) * k + j) by rw [Nat.add_mul]; omega]; exact this.2)
            (fun i x j c hx hc2 => a2 (l + i) x j c (hget i x hx) hc2)
          rw [hlen] at this
          exact this

-- ------------------------------------------------------------ assertions to a type that is no interface
def isConc (P : Program) (t : TypeId) : Bool := match P.underlying t with | some (.interface _) => false | some _ => true | none => false
theorem sim_asrt {xt t : TypeId} {ok : Bool} {zero : AV} (ht : isConc P t = true) (hz : ok = true → ∃ z, zeroB P t = some z ∧ constW zero z = true)
    (h : Args n0 C w vals vs) (hr : sAsrt t ok zero vals = some r) : ∃ a, vs = [a] ∧ ∃ v, (Instr.typeAssert a xt t ok).run P w = .ok v w ∧ Fin n0 C w Bs r v w := by
  have hcon : ∃ d, P.underlying t = some d ∧ (∀ ms, d ≠ .interface ms) := by
    unfold isConc at ht
    split at ht <;> simp at ht
    rename_i d hd hu
    exact ⟨d, hu, fun ms e => hd ms e⟩
  obtain ⟨d, hu, hd⟩ := hcon
  have key : ∀ (u : TypeId) (x : Value), (Instr.typeAssert (.iface u x) xt t ok).run P w = (if u = t then (if ok then .ok (.tuple #[x, .bool true]) w else .ok x w) else (Instr.typeAssert (.iface u x) xt t ok).run P w) := by
    intro u x
    split
    · rename_i he
      simp only [Instr.typeAssert, Sem.run_bind, run_underlying hu, Result.andThen_ok]
      cases d <;> first | exact absurd rfl (hd _) | (simp only [he, if_true, Sem.run_pure]; cases ok <;> rfl)
    · rfl
  have key2 : ∀ (u : TypeId) (x : Value) z, ok = true → zeroB P t = some z → u ≠ t → (Instr.typeAssert (.iface u x) xt t ok).run P w = .ok (.tuple #[z, .bool false]) w := by
    intro u x z hok hz' hne
    subst hok
    simp only [Instr.typeAssert, Sem.run_bind, run_underlying hu, Result.andThen_ok]
    cases d <;> first | exact absurd rfl (hd _) | (simp only [hne, if_false, if_true, Sem.run_bind, run_zeroB hz', Result.andThen_ok, Sem.run_pure])
  have key3 : ∀ z, ok = true → zeroB P t = some z → (Instr.typeAssert .nilIface xt t ok).run P w = .ok (.tuple #[z, .bool false]) w := by
    intro z hok hz'
    subst hok
    simp only [Instr.typeAssert, Sem.run_bind, run_underlying hu, Result.andThen_ok]
    cases d <;> first | exact absurd rfl (hd _) | (simp only [if_true, Sem.run_bind, run_zeroB hz', Result.andThen_ok, Sem.run_pure])
  unfold sAsrt at hr
  split at hr <;> try (simp at hr; done)
  · rename_i t' x
    obtain ⟨a, rfl, h1, _, _⟩ := h.one
    cases h1 with
    | ifc _ _ v hv =>
      refine ⟨_, rfl, ?_⟩
      split at hr
      · rename_i he
        simp at hr; subst hr
        have hk := key t' v
        rw [if_pos he] at hk
        cases ok
        · exact ⟨v, by rw [hk]; rfl, Fin.same h.wd hv.share (comps_share _ _)⟩
        · refine ⟨.tuple #[v, .bool true], by rw [hk]; rfl, Fin.same h.wd ?_ (comps_share _ _)⟩
          exact (VR.tup_mk (vs := [v, .bool true]) (VRs.cons hv (VRs.cons (.bool true) VRs.nil))).share
      · rename_i he
        split at hr <;> simp at hr
        rename_i hok
        obtain ⟨z, hz1, hz2⟩ := hz hok
        subst hr
        refine ⟨_, key2 t' v z hok hz1 he, ?_⟩
        have := (VR.tup_mk (C := C) (vs := [z, .bool false]) (VRs.cons (constW_sound hz2).share1 (VRs.cons (.bool false) VRs.nil)))
        exact Fin.same h.wd this fun p hp => by
          simp only [comps, List.zip_cons_cons, List.zip_nil_right, List.mem_cons, List.not_mem_nil, or_false] at hp
          rcases hp with rfl | rfl
          · exact ⟨_, rfl⟩
          · exact ⟨.bool false, rfl⟩
  · obtain ⟨a, rfl, h1, _, _⟩ := h.one
    cases h1
    split at hr <;> simp at hr
    rename_i hok
    obtain ⟨z, hz1, hz2⟩ := hz hok
    subst hr
    refine ⟨_, rfl, _, key3 z hok hz1, ?_⟩
    have := (VR.tup_mk (C := C) (vs := [z, .bool false]) (VRs.cons (constW_sound hz2).share1 (VRs.cons (.bool false) VRs.nil)))
    exact Fin.same h.wd this fun p hp => by
      simp only [comps, List.zip_cons_cons, List.zip_nil_right, List.mem_cons, List.not_mem_nil, or_false] at hp
      rcases hp with rfl | rfl
      · exact ⟨_, rfl⟩
      · exact ⟨.bool false, rfl⟩

-- ------------------------------------------------------------ new variables
theorem sim_box {t : TypeId} (h : Args n0 C w vals vs) (hr : sBox vals = some r) : ∃ a, vs = [a] ∧ ∃ v w', (Instr.box t a).run P w = .ok v w' ∧ Fin n0 C w Bs r v w' := by
  unfold sBox at hr
  split at hr <;> try (simp at hr; done)
  split at hr <;> simp at hr
  rename_i x hl
  obtain ⟨a, rfl, h1, _, _⟩ := h.one
  subst hr
  refine ⟨a, rfl, .pointer (some ⟨w.heap.size, 0, none⟩), w.alloc (.cells a.cells t), ?_, ?_⟩
  · simp [Instr.box, newVar, newRow]
  · have := Fin.boxed (n0 := n0) (Bs := Bs) ((h1.cells hl).map (f := AV.share1) fun _ _ => VR.share1) (by
      rw [List.all_map]; rw [List.all_eq_true] at hl ⊢
      exact fun c hc => AV.leaf_share1 (hl c hc)) t h.wd
    simpa using this

theorem sim_frs {t : TypeId} {z : Value} {n : Nat} (hz : zeroB P t = some z) (hn : z.cells.size = n) (h : Args n0 C w vals vs) (hr : sFrs n vals = some r) :
    vs = [] ∧ ∃ v w', (Instr.alloc t true (.tuple #[])).run P w = .ok v w' ∧ Fin n0 C w Bs r v w' := by
  unfold sFrs at hr
  split at hr <;> simp at hr
  have hvs := h.vr.nil_inv
  subst hr
  refine ⟨hvs, .pointer (some ⟨w.heap.size, 0, none⟩), w.alloc (.cells z.cells t), ?_, C, .fr _ _, ?_, ?_, ?_, ?_⟩
  · simp only [Instr.alloc, Sem.run_bind, run_zeroB hz, Result.andThen_ok]
    simp [newVar, newRow]
  · refine ⟨rfl, rfl, rfl, by simp, fun b hb _ => ⟨Below.heap_alloc w _ b hb, fun o => rfl⟩, fun b o v hC => hC, ?_⟩
    intro b o v hC
    have hb : b ≠ w.heap.size := fun hb => by have := h.wd.fresh (b := b) (by omega) o; rw [hC] at this; cases this
    rw [World.cell?_alloc_old _ _ _ (by simpa using hb)]; exact h.wd b o v hC
  · intro p hp
    simp only [comps, List.mem_singleton] at hp
    subst hp
    exact ⟨w.heap.size, t, z.cells, rfl, h.base, heap_alloc_new w _, hn, fun o => h.wd.fresh (Nat.le_refl _) o⟩
  · intro b hb
    simp [blks, comps, blk1] at hb
    right; omega
  · simp [blks, comps, blk1]

/-- The first store into a variable that was just made: what it holds is published. -/
theorem sim_ini {t : TypeId} {n : Nat} (hs : sizeB P t = some n) (h : Args n0 C w vals vs) (hr : sIni n vals = some r) :
    ∃ a b, vs = [a, b] ∧ ∃ w', (Instr.storeAt t a b).run P w = .ok () w' ∧ Fin n0 C w (blksL vals vs) r a w' := by
  unfold sIni at hr
  split at hr <;> try (simp at hr; done)
  rename_i m x
  split at hr <;> simp at hr
  rename_i hc
  obtain ⟨rfl, hcl, hl⟩ := hc
  obtain ⟨a, b, rfl, h1, h2⟩ := h.two
  subst hr
  have ho := h.own 0 _ _ rfl rfl (.fr m, a) (by simp [comps])
  obtain ⟨bb, e, cs, rfl, hb0, hg, hsz, hC⟩ := ho
  have hcells := h2.cells hl
  have hbs : b.cells.size = m := by have := hcells.1; rw [hcl] at this; simpa using this.symm
  have hlt : bb < w.heap.size := (Array.getElem?_eq_some_iff.1 hg).1
  have h1c : ∀ v ∈ b.cells.toList, v.oneCell' = true := by
    intro v hv
    obtain ⟨i, hi, rfl⟩ := List.mem_iff_getElem.1 hv
    have hi2 : i < x.cells.length := hcells.1 ▸ hi
    exact (hcells.2 i x.cells[i] _ (by simp [hi2]) (List.getElem?_eq_getElem hi)).oneCell (List.all_eq_true.1 hl _ (List.getElem_mem hi2))
  have hst := run_storeCells_at P bb 0 e b.cells.toList 0 cs w hg (by simp; omega) h1c
  have hfin : (cs.toList.take (0 + 0) ++ b.cells.toList ++ cs.toList.drop (0 + 0 + b.cells.toList.length)).toArray = b.cells := by
    have : cs.toList.drop (0 + 0 + b.cells.toList.length) = [] := List.drop_of_length_le (by simp; omega)
    rw [this]; simp
  rw [hfin] at hst
  refine ⟨_, b, rfl, w.setRow bb b.cells, ?_, ?_⟩
  · simp only [Instr.storeAt, Sem.run_bind, Instr.sureAddr, Sem.run_pure, Result.andThen_ok, storeVar, run_sizeB hs, hbs, ne_eq, not_true_eq_false, if_false, hst]
  · have hcs' := hcells.map (f := AV.share1) fun _ _ => VR.share1
    refine ⟨fun b' o => if b' = bb then b.cells[o]? else C b' o, ?_, ?_, ?_, ?_, ?_⟩
    · have := VR.imm (C := fun b' o => if b' = bb then b.cells[o]? else C b' o) (x.cells.map AV.share1) 0 bb 0 (fun j => b.cells.toList.getD j undef) (fun j c hc => by
        obtain ⟨u, hu, _⟩ := hcs'.get hc
        refine ⟨?_, by simp at hu; simp [hu]⟩
        simp at hc; obtain ⟨y, hy, rfl⟩ := hc
        exact AV.leaf_share1 (List.all_eq_true.1 hl y (List.mem_of_getElem? hy))) (fun j c hc => by
        obtain ⟨u, hu, hvr⟩ := hcs'.get hc
        simp only [List.getD_eq_getElem?_getD, hu, Option.getD_some]
        refine hvr.mono fun b' o v hC' => ?_
        have hb : b' ≠ bb := fun hb => by subst hb; rw [hC o] at hC'; cases hC'
        simp [hb, hC'])
      exact this
    · refine ⟨rfl, rfl, rfl, by simp, fun b' hb' hnb => ?_, fun b' o v hC' => ?_, ?_⟩
      · have hne : b' ≠ bb := fun hb => by subst hb; exact hnb (by simp [blksL, blks, comps, blk1])
        exact ⟨setRow_other w bb b' _ hne, fun o => by simp [hne]⟩
      · have hb : b' ≠ bb := fun hb => by subst hb; rw [hC o] at hC'; cases hC'
        simp [hb, hC']
      · intro b' o v hC'
        simp only at hC'
        split at hC'
        · rename_i hb; subst hb
          rw [cell_setRow_same w b' o cs b.cells e (0, 0) hg]; exact hC'
        · rename_i hb
          rw [cell_setRow_other w bb _ _ (by simpa using hb)]; exact h.wd b' o v hC'
    · intro p hp; simp only [comps, List.mem_singleton] at hp; subst hp; trivial
    · simp [blks, comps, blk1]
    · simp [blks, comps, blk1]

end
end Go.Vm
