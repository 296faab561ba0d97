/- Right windows: plain laws of lists of windows. -/
import Derived.Test.YtacifbbmfkampaaDoorSWindow4
namespace Go.Vm.S
open Go Go.Vm
set_option linter.unusedSimpArgs false
set_option linter.unusedVariables false
def Srt (fr : Int) : Int → List Win → Prop
  | _, [] => True
  | b, w :: ws => b ≤ w.2.1 ∧ 0 < w.2.2 ∧ 0 ≤ w.1 ∧ w.2.1 + w.2.2 ≤ fr ∧ Srt fr (w.2.1 + w.2.2) ws
theorem srt_mono {fr : Int} : ∀ {ws : List Win} {b b' : Int}, Srt fr b ws → b' ≤ b → Srt fr b' ws
  | [], _, _, h, _ => h
  | w :: ws, b, b', ⟨h1, h2⟩, h => ⟨by omega, h2⟩
theorem srt_ge {fr : Int} : ∀ {ws : List Win} {b : Int} {j : Nat} {w : Win}, Srt fr b ws → ws[j]? = some w → b ≤ w.2.1 ∧ 0 < w.2.2 ∧ 0 ≤ w.1 ∧ w.2.1 + w.2.2 ≤ fr
  | [], _, _, _, _, h => by simp at h
  | w0 :: ws, b, 0, w, ⟨h1, h2, h3, h4, _⟩, h => by simp at h; subst h; exact ⟨h1, h2, h3, h4⟩
  | w0 :: ws, b, j + 1, w, ⟨h1, h2, h3, h4, h5⟩, h => by
    have := srt_ge h5 (by simpa using h : ws[j]? = some w)
    omega
theorem srt_next {fr : Int} : ∀ {ws : List Win} {b : Int} {j : Nat} {v w : Win}, Srt fr b ws → ws[j]? = some v → ws[j + 1]? = some w → v.2.1 + v.2.2 ≤ w.2.1
  | [], _, _, _, _, _, h, _ => by simp at h
  | w0 :: ws, b, 0, v, w, ⟨h1, h2, h3, h4, h5⟩, h, k => by
    simp at h; subst h
    exact (srt_ge h5 (by simpa using k : ws[0]? = some w)).1
  | w0 :: ws, b, j + 1, v, w, ⟨h1, h2, h3, h4, h5⟩, h, k => srt_next h5 (by simpa using h : ws[j]? = some v) (by simpa using k)
theorem firstI_srt {fr t : Int} : ∀ {ws : List Win} {b : Int} {j : Nat} {w : Win} (i0 : Nat), Srt fr b ws → ws[j]? = some w → w.2.1 ≤ t → t < w.2.1 + w.2.2 → firstI t ws i0 = ((i0 + j : Nat) : Int)
  | [], _, _, _, _, _, h, _, _ => by simp at h
  | w0 :: ws, b, 0, w, i0, _, h, h1, h2 => by
    simp at h; subst h
    have : hasB w0 t = true := by simp [hasB]; omega
    unfold firstI; rw [this]; simp
  | w0 :: ws, b, j + 1, w, i0, ⟨_, _, _, _, h5⟩, h, h1, h2 => by
    have hj : ws[j]? = some w := by simpa using h
    have hg := (srt_ge h5 hj).1
    have : hasB w0 t = false := by simp [hasB]; omega
    unfold firstI; rw [this]
    have := firstI_srt (i0 + 1) h5 hj h1 h2
    simp only [this, Bool.false_eq_true, if_false]
    omega
theorem cntB_append (l m : List Int) : cntB (l ++ m) = cntB l + cntB m := by simp [cntB]
theorem cntB_rep (n : Nat) : cntB (List.replicate n (-1)) = 0 := by simp [cntB]
theorem cntB_repv (n : Nat) {v : Int} (h : v ≠ -1) : cntB (List.replicate n v) = n := by simp [cntB, List.filter_replicate, h]
theorem cntB_fill (l : List Int) {A B : Nat} {v : Int} (hv : v ≠ -1) (hAB : A ≤ B) (hB : B ≤ l.length) (hl : ∀ t, t < B → l[t]? = some (-1)) : cntB (fillI l A B v) = cntB l + (B - A) := by
  have e1 : l = List.replicate B (-1) ++ l.drop B := by
    apply List.ext_getElem?; intro t
    rw [List.getElem?_append]
    simp only [List.length_replicate]
    split
    · rename_i h; rw [hl t h]; simp [h]
    · rename_i h; rw [List.getElem?_drop]; congr 1; omega
  have e2 : fillI l A B v = List.replicate A (-1) ++ (List.replicate (B - A) v ++ l.drop B) := by
    apply List.ext_getElem?; intro t
    simp only [fillI, List.getElem?_mapIdx, List.getElem?_append, List.length_replicate, List.getElem?_replicate]
    by_cases h1 : t < A
    · have : t < B := by omega
      rw [if_pos h1, hl t this]; simp [h1]; omega
    · rw [if_neg h1]
      by_cases h2 : t < B
      · rw [hl t h2, if_pos (by omega)]; simp; omega
      · rw [if_neg (by omega), List.getElem?_drop, show B + (t - A - (B - A)) = t by omega]
        cases l[t]? with
        | none => rfl
        | some x => simp; omega
  have e3 : cntB l = cntB (l.drop B) := by
    conv => lhs; rw [e1]
    rw [cntB_append, cntB_rep, Nat.zero_add]
  rw [e2, cntB_append, cntB_append, cntB_rep, cntB_repv _ hv, e3]; omega
def sumL (ws : List Win) : Int := (ws.map fun w => w.2.2).sum
theorem word_srt {n : Nat} : ∀ {ws : List Win} {b : Int}, Srt n b ws → 0 ≤ b → n ≤ 1000000 → (cntB (wordL n ws) : Int) = sumL ws ∧ ∀ t : Nat, (t : Int) < b → t < n → (wordL n ws)[t]? = some (-1)
  | [], b, _, _, _ => ⟨by simp [wordL, sumL, cntB_rep], fun t _ h => by simp [wordL, h]⟩
  | w :: ws, b, ⟨h1, h2, h3, h4, h5⟩, hb, hn => by
    obtain ⟨q1, q2⟩ := word_srt h5 (by omega) hn
    have hlen := word_len n ws
    have hF : wfrom w = w.2.1.toNat := by unfold wfrom; split <;> omega
    have hw : IntKind.i64.wrap (w.2.1 + w.2.2) = w.2.1 + w.2.2 := wI64 (by omega) (by omega)
    have hT : (wto n w).toNat = (w.2.1 + w.2.2).toNat := by unfold wto; rw [hw, if_neg (by omega)]
    have hW : wordL n (w :: ws) = fillI (wordL n ws) w.2.1.toNat (w.2.1 + w.2.2).toNat w.1 := by
      show wput w (wordL n ws) = _
      unfold wput; rw [hF, hlen, hT]
    rw [hW]
    constructor
    · rw [cntB_fill _ (by omega) (by omega) (by rw [hlen]; omega) (fun t ht => q2 t (by omega) (by omega))]
      simp only [sumL, List.map_cons, List.sum_cons] at q1 ⊢
      omega
    · intro t ht htn
      simp only [fillI, List.getElem?_mapIdx, q2 t (by omega) htn, Option.map_some]
      rw [if_neg (by omega)]
theorem rightK_zero {a fr : Int} {ws nd : List Win} (h : rightK a fr ws nd = 0) : (1 ≤ fr ∧ fr ≤ 1048576) ∧ (∀ w ∈ ws, okW w) ∧ ∀ w ∈ ws, 0 ≤ w.1 := by
  unfold rightK at h
  split at h
  · omega
  rename_i h1
  split at h
  · omega
  split at h
  · omega
  rename_i h3
  have h1 : (inB a 0 255 && inB fr 1 1048576) = true := by simpa using h1
  have h3 : ws.all goodW = true := by simpa using h3
  simp only [Bool.and_eq_true, inB, decide_eq_true_eq] at h1
  rw [List.all_eq_true] at h3
  refine ⟨by omega, fun w hw => ?_, fun w hw => ?_⟩
  · have := h3 w hw
    simp only [goodW, Bool.and_eq_true, inB, decide_eq_true_eq] at this
    exact ⟨⟨by omega, by omega⟩, by omega, by omega⟩
  · have := h3 w hw
    simp only [goodW, Bool.and_eq_true, inB, decide_eq_true_eq] at this
    omega
theorem wrongK_none {ids : List Int} {fr : Int} {v w : Win} (h : newE (wrongK ids fr v w) = none) : 0 < w.2.2 ∧ 0 ≤ w.2.1 ∧ w.2.1 + w.2.2 ≤ fr ∧ v.2.1 + v.2.2 ≤ w.2.1 := by
  unfold wrongK at h
  split at h
  · simp [newE] at h
  split at h
  · simp [newE] at h
  rename_i h2
  split at h
  · simp [newE] at h
  split at h
  · simp [newE] at h
  have h2 : fitsB w fr = true := by simpa using h2
  simp only [fitsB, Bool.and_eq_true, decide_eq_true_eq] at h2
  omega
theorem srt_of {ids : List Int} {fr : Int} {ws : List Win} (h : ∀ i w, ws[i]? = some w → newE (wrongK ids fr (aheadW ws i) w) = none) (hid : ∀ w ∈ ws, 0 ≤ w.1) : Srt fr 0 ws := by
  have key : ∀ n i, ws.length - i = n → Srt fr ((aheadW ws i).2.1 + (aheadW ws i).2.2) (ws.drop i) := by
    intro n
    induction n with
    | zero => intro i hi; rw [List.drop_of_length_le (by omega)]; trivial
    | succ n ih =>
      intro i hi
      have hlt : i < ws.length := by omega
      have hw : ws[i]? = some ws[i] := by simp [hlt]
      rw [List.drop_eq_getElem_cons hlt]
      have := wrongK_none (h i _ hw)
      refine ⟨this.2.2.2, this.1, hid _ (List.getElem_mem hlt), this.2.2.1, ?_⟩
      have := ih (i + 1) (by omega)
      have ha : aheadW ws (i + 1) = ws[i] := by unfold aheadW; simp [hlt]
      rwa [ha] at this
  have := key _ 0 rfl
  simpa [aheadW] using this
theorem touch_no {v w : Win} (h : v.2.1 + v.2.2 ≤ w.2.1) : touchB v w = false := by
  unfold touchB
  simp only [decide_eq_false_iff_not]
  split <;> split <;> omega
theorem owner_srt {fr : Int} {ws : List Win} {j : Nat} {w : Win} {t : Int} (hs : Srt fr 0 ws) (hj : ws[j]? = some w) (h1 : w.2.1 ≤ t) (h2 : t < w.2.1 + w.2.2) : ownerI fr ws t = w.1 := by
  have hg := srt_ge hs hj
  have hf := firstI_srt 0 hs hj h1 h2
  rw [Nat.zero_add] at hf
  unfold ownerI
  rw [if_neg (by omega), hf, if_neg (by omega), Int.toNat_natCast, hj]
  rfl
end Go.Vm.S
