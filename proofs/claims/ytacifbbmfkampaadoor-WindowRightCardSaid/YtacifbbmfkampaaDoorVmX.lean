/- Some operations more. -/
import Derived.Test.YtacifbbmfkampaaDoorVmI
import Derived.Laws.BytesArg
import Derived.Laws.IdiomStrings
namespace Go.Vm
open Go.RowKit
set_option linter.unusedVariables false
set_option linter.unusedSimpArgs false
set_option linter.unusedSectionVars false
variable [Glob]

section
variable {P : Program} {n0 : Nat} {C : Pub} {w : World} {vals : List AV} {vs : List Value} {r : AV} {Bs : List Nat}

theorem sim_lit0 {t e : TypeId} {k : Nat} (ht : P.underlying t = some (.slice e)) (hs : sizeB P e = some k) (hk0 : 0 < k) (h : Args n0 C w vals vs) (hr : sLit0 k vals = some r) :
    vs = [] ∧ ∃ v w', (Instr.buildSlice t 0 #[]).run P w = .ok v w' ∧ Fin n0 C w Bs r v w' := by
  unfold sLit0 at hr
  split at hr <;> simp at hr
  subst hr
  refine ⟨h.vr.nil_inv, .slice (some ⟨w.heap.size, 0, none⟩) 0 0, w.alloc (.cells #[] e), ?_, ?_⟩
  · simp only [Instr.buildSlice, Sem.run_bind, run_underlying ht, Result.andThen_ok, run_sizeB hs]
    simp [Instr.fill, newRow, show Array.range 0 = #[] from by simp]
  · exact Fin.row (Bs := Bs) (n0 := n0) (w := w) (w1 := w) rfl rfl rfl rfl (VRs.nil (C := C)) (by simp) (by simp) hk0 #[] (by simp) 0 (by simp) (by simp [maxLen]) (by simp) e h.base h.wd

def arrOf (P : Program) (t : TypeId) : Option (Nat × TypeId) := match P.underlying t with | some (.array n e) => some (n, e) | _ => none
theorem arrOf_spec {t n e} (h : arrOf P t = some (n, e)) : P.underlying t = some (.array n e) := by
  unfold arrOf at h; split at h <;> simp_all
theorem run_indexAt_arr {t e : TypeId} {len n : Nat} (ht : arrOf P t = some (len, e)) (hn : sizeB P e = some n) (b p : Nat) (k : IntKind) (i : Int) (h0 : 0 ≤ i) (h1 : i < len) :
    (Instr.indexAt t (.pointer (some ⟨b, p, none⟩)) (.int k i)).run P w = .ok (.pointer (some ⟨b, p + i.toNat * n, none⟩)) w := by
  have h3 : 0 ≤ i ∧ i < (len : Int) := ⟨h0, h1⟩
  simp only [Instr.indexAt, asIntOf, Sem.run_bind, Sem.run_pure, Result.andThen_ok, run_underlying (arrOf_spec ht), Instr.sureAddr, h3, and_self, if_true, run_sizeB hn, Addr.add_lit]
theorem sim_ixP {t e : TypeId} {len n : Nat} (ht : arrOf P t = some (len, e)) (hn : sizeB P e = some n) (h : Args n0 C w vals vs) (hr : sIxP len n vals = some r) :
    ∃ a b, vs = [a, b] ∧ ∃ v, (Instr.indexAt t a b).run P w = .ok v w ∧ Fin n0 C w Bs r v w := by
  unfold sIxP at hr
  split at hr <;> try (simp at hr; done)
  rename_i cs p k i
  split at hr <;> simp at hr
  rename_i hi
  obtain ⟨a, b, rfl, h1, h2⟩ := h.two
  cases h2
  subst hr
  cases h1 with
  | imm _ _ b q cv a1 a2 =>
    refine ⟨_, _, rfl, _, run_indexAt_arr ht hn b (q + p) k i hi.1 hi.2, Fin.shared h.wd ?_ rfl⟩
    have := VR.imm (C := C) cs (p + i.toNat * n) b q cv a1 a2
    rwa [← Nat.add_assoc] at this

def isBytesB (P : Program) (t : TypeId) : Bool := match isSlice P t with | some e => (match P.underlying e with | some (.int .u8) => true | _ => false) | none => false
theorem isBytesB_spec {t} (h : isBytesB P t = true) : ∃ e, P.underlying t = some (.slice e) ∧ P.underlying e = some (.int .u8) := by
  unfold isBytesB at h
  split at h <;> try (simp at h; done)
  rename_i e he
  split at h <;> try (simp at h; done)
  rename_i hu
  exact ⟨e, isSlice_spec he, hu⟩

theorem bytesOf_spec : ∀ {l : List AV} {b : List UInt8}, bytesOf l = some b → l.length = b.length ∧ ∀ (i : Nat) x, l[i]? = some x → ∃ c : UInt8, b[i]? = some c ∧ x = .int .u8 c.toNat
  | [], b, h => by simp [bytesOf] at h; subst h; simp
  | x :: xs, b, h => by
    simp only [bytesOf] at h
    split at h <;> simp at h
    rename_i c cs hc hcs
    subst h
    obtain ⟨h1, h2⟩ := bytesOf_spec hcs
    refine ⟨by simp [h1], fun i y hy => ?_⟩
    cases i with
    | zero =>
      simp at hy; subst hy
      refine ⟨c, rfl, ?_⟩
      unfold AV.byte at hc
      split at hc <;> try (simp at hc; done)
      split at hc <;> simp at hc
      rename_i n hn
      subst hc
      congr 1
      simp only [UInt8.toNat_ofNat']
      omega
    | succ i => simp at hy; simpa using h2 i y hy

theorem sim_b2s {s t : TypeId} (hs : isBytesB P s = true) (ht : P.underlying t = some .string) (h : Args n0 C w vals vs) (hr : sB2s vals = some r) :
    ∃ a, vs = [a] ∧ ∃ v, (convert s t a).run P w = .ok v w ∧ Fin n0 C w Bs r v w := by
  obtain ⟨e, he1, he2⟩ := isBytesB_spec hs
  unfold sB2s at hr
  split at hr <;> try (simp at hr; done)
  rename_i o l
  split at hr <;> simp at hr
  rename_i b hb
  subst hr
  obtain ⟨a, rfl, h1, _, _⟩ := h.one
  obtain ⟨hl, hbs⟩ := bytesOf_spec hb
  refine ⟨a, rfl, .string ⟨b.toArray⟩, ?_, Fin.shared h.wd (.str b) rfl⟩
  cases h1 with
  | slnil =>
    have : b = [] := List.eq_nil_of_length_eq_zero (by simpa using hl.symm)
    subst this
    exact run_convert_bytes_nil w s e he1 he2 0 0 t ht
  | sl _ _ _ bb off sp cap cv hcap hsp hkk a1 a2 =>
    by_cases hn : l = []
    · subst hn
      have : b = [] := List.eq_nil_of_length_eq_zero (by simpa using hl.symm)
      subst this
      rw [run_convert_bytes_string w s t e _ _ cap he1 he2 ht]
      simp [Conv.bytesToString, loadCells]
      rfl
    · have hsp' : sp = none := hsp hn
      subst hsp'
      rw [hl]
      refine run_convert_bytes_back w s t e ⟨bb, off, none⟩ cap b he1 he2 ht fun j hj => ?_
      obtain ⟨c, hc, hx⟩ := hbs j l[j] (by simp [hl, hj])
      have hcj : c = b[j] := by rw [List.getElem?_eq_getElem hj] at hc; exact (Option.some.inj hc).symm
      have hxc : (l[j]'(by omega)).cells[0]? = some (l[j]'(by omega)) := by rw [hx]; rfl
      have h3 := a1 j (l[j]'(by omega)) 0 _ (by simp [hl, hj]) hxc
      have h4 := a2 j (l[j]'(by omega)) 0 _ (by simp [hl, hj]) hxc
      rw [Addr.add_lit]
      have h5 := h.wd _ _ _ h3.2
      simp only [Nat.mul_one, Nat.add_zero] at h5
      rw [h5, hcj.symm]
      rw [hx] at h4
      generalize cv j 0 = u at h4
      cases h4; rfl

end
end Go.Vm
