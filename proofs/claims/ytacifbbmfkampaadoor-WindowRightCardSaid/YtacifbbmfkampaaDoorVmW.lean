/- A row's arguments as pure values. -/
import Derived.Test.YtacifbbmfkampaaDoorVmS
import Derived.ChangeSlices
import Derived.Below
import Derived.DataReads
import Derived.ChangeArms
namespace Go.Vm
open Go.RowKit
set_option linter.unusedVariables false
set_option linter.unusedSimpArgs false
set_option linter.unusedSectionVars false
variable [Glob]

/-- Do fields lie one behind the other? -/
def tileB (P : Program) : Nat → List Field → Option Nat
  | o, [] => some o
  | o, f :: fs => if f.offset = o then tileB P (o + P.cellsOf f.type) fs else none
/-- Bools, whole numbers, strings, rows and structs of these. -/
def plainT (P : Program) : Nat → TypeId → Bool
  | 0, _ => false
  | n + 1, t => match P.underlying t with
    | some .bool => P.cellsOf t == 1
    | some (.int _) => P.cellsOf t == 1
    | some .string => P.cellsOf t == 1
    | some (.slice e) => P.cellsOf t == 1 && plainT P n e && decide (0 < P.cellsOf e)
    | some (.struct fs) => tileB P 0 fs.toList == some (P.cellsOf t) && fs.toList.all fun f => plainT P n f.type
    | _ => false

def elemOf (P : Program) (e : TypeId) (ys : List AV) : AV := match isAggB P e with
  | some true => .agg ys
  | _ => ys.headD .undef

/-- What the cells of a value of a type are. -/
def Ty (P : Program) : Nat → TypeId → List AV → Prop
  | 0, _, _ => False
  | n + 1, t, xs => match P.underlying t with
    | some .bool => ∃ b, xs = [.bool b]
    | some (.int k) => ∃ m, xs = [.int k m] ∧ (Lit.int k m).wf = true
    | some .string => ∃ s, xs = [.str s] ∧ s.length ≤ maxLen
    | some (.slice e) => ∃ yss : List (List AV), xs = [.sl false (P.cellsOf e) (yss.map (elemOf P e))] ∧ yss.length ≤ maxLen ∧ ∀ ys ∈ yss, ys.length = P.cellsOf e ∧ Ty P n e ys
    | some (.struct fs) => xs.length = P.cellsOf t ∧ ∀ f ∈ fs.toList, Ty P n f.type ((xs.drop f.offset).take (P.cellsOf f.type))
    | _ => False

/-- All cells of a world, published. -/
def allC (w : World) : Pub := fun b o => w.cell? ⟨b, o, none⟩
theorem allC_wd (w : World) : Wd (allC w) w := fun _ _ _ h => h

section
variable {P : Program} {H : Type} {enc : TypeId × Value → H} {w : World}

theorem elemOf_cells {n : Nat} {e : TypeId} (hp : plainT P n e = true) {ys : List AV} (hl : ys.length = P.cellsOf e) (hleaf : ∀ y ∈ ys, y.leaf = true) : (elemOf P e ys).cells = ys := by
  cases n with
  | zero => simp [plainT] at hp
  | succ n =>
    have one : P.cellsOf e = 1 → ∃ y, ys = [y] := fun h1 => List.length_eq_one_iff.1 (by rw [hl, h1])
    have key : isAggB P e = some true ∨ (∃ y, ys = [y]) := by
      unfold plainT at hp
      cases hu : P.underlying e with
      | none => rw [hu] at hp; simp at hp
      | some u =>
        rw [hu] at hp
        cases u <;> simp at hp
        case bool => exact .inr (one hp)
        case int => exact .inr (one hp)
        case string => exact .inr (one hp)
        case slice => exact .inr (one hp.1.1)
        case struct => left; simp [isAggB, hu]
    unfold elemOf
    rcases key with h | ⟨y, rfl⟩
    · rw [h]; rfl
    · have hy := hleaf y (by simp)
      split
      · rfl
      · simp only [List.headD_cons]
        cases y <;> first | rfl | simp [AV.leaf] at hy

theorem exists_list {α : Type} {p : Nat → α → Prop} : ∀ (n : Nat), (∀ i, i < n → ∃ x, p i x) → ∃ l : List α, l.length = n ∧ ∀ (i : Nat) (x : α), l[i]? = some x → p i x
  | 0, _ => ⟨[], rfl, by simp⟩
  | n + 1, h => by
    obtain ⟨l, hl, hp⟩ := exists_list n (fun i hi => h i (by omega))
    obtain ⟨x, hx⟩ := h n (by omega)
    refine ⟨l ++ [x], by simp [hl], fun i y hy => ?_⟩
    rcases Nat.lt_or_ge i n with h1 | h1
    · rw [List.getElem?_append_left (by omega)] at hy; exact hp i y hy
    · rw [List.getElem?_append_right (by omega)] at hy
      have : i = n := by have := lt_of_get hy; simp at this; omega
      subst this
      simp [hl] at hy; subst hy; exact hx

theorem split_fields {C : Pub} {n : Nat} {cs : List Value} : ∀ (fs : List Field) (o z : Nat), tileB P o fs = some z → cs.length = z → o ≤ z →
    (∀ f ∈ fs, ∃ xs, VRs C xs ((cs.drop f.offset).take (P.cellsOf f.type)) ∧ (∀ x ∈ xs, x.leaf = true ∧ x.share1 = x) ∧ Ty P n f.type xs ∧ ((cs.drop f.offset).take (P.cellsOf f.type)).length = P.cellsOf f.type) →
    ∃ xs, VRs C xs (cs.drop o) ∧ (∀ x ∈ xs, x.leaf = true ∧ x.share1 = x) ∧ ∀ f ∈ fs, o ≤ f.offset ∧ Ty P n f.type ((xs.drop (f.offset - o)).take (P.cellsOf f.type))
  | [], o, z, ht, hl, ho, _ => by
    simp [tileB] at ht; subst ht
    refine ⟨[], ?_, by simp, by simp⟩
    rw [List.drop_of_length_le (by omega)]; exact VRs.nil
  | f :: fs, o, z, ht, hl, ho, h => by
    simp only [tileB] at ht
    split at ht <;> try (simp at ht; done)
    rename_i hfo
    obtain ⟨xs1, h1, h2, h3, h4⟩ := h f (by simp)
    have hle : o + P.cellsOf f.type ≤ z := by
      have : ∀ (fs : List Field) (o z : Nat), tileB P o fs = some z → o ≤ z := by
        intro fs
        induction fs with
        | nil => intro o z h; simp [tileB] at h; omega
        | cons g gs ih => intro o z h; simp only [tileB] at h; split at h <;> try (simp at h; done)
                          have := ih _ _ h; omega
      exact this fs _ z ht
    obtain ⟨xs2, k1, k2, k3⟩ := split_fields fs (o + P.cellsOf f.type) z ht hl hle (fun g hg => h g (by simp [hg]))
    have hx1 : xs1.length = P.cellsOf f.type := by rw [h1.1]; exact h4
    have hcs : cs.drop o = (cs.drop f.offset).take (P.cellsOf f.type) ++ cs.drop (o + P.cellsOf f.type) := by
      rw [hfo, ← List.drop_drop, List.take_append_drop]
    refine ⟨xs1 ++ xs2, by rw [hcs]; exact h1.append k1, fun x hx => ?_, fun g hg => ?_⟩
    · rcases List.mem_append.1 hx with hx | hx
      · exact h2 x hx
      · exact k2 x hx
    · rcases List.mem_cons.1 hg with rfl | hg
      · refine ⟨by omega, ?_⟩
        rw [hfo, Nat.sub_self, List.drop_zero, List.take_append_of_le_length (by omega), List.take_of_length_le (by omega)]
        exact h3
      · obtain ⟨g1, g2⟩ := k3 g hg
        refine ⟨by omega, ?_⟩
        rw [List.drop_append, List.drop_of_length_le (by omega), List.nil_append, hx1, show g.offset - o - P.cellsOf f.type = g.offset - (o + P.cellsOf f.type) by omega]
        exact g2

/-- What is read is a pure value. -/
theorem trod_ty : ∀ (n fuel : Nat) (t : TypeId) (cs : List Value) (x : DataW H × List MemPlace), plainT P n t = true → DataW.trod enc P w 0 (fun _ => true) true fuel t cs = some x →
    ∃ xs, VRs (allC w) xs cs ∧ (∀ x ∈ xs, x.leaf = true ∧ x.share1 = x) ∧ Ty P n t xs ∧ cs.length = P.cellsOf t := by
  intro n
  induction n with
  | zero => intro fuel t cs x hp; simp [plainT] at hp
  | succ n ih =>
    intro fuel t cs x hp h
    have hp0 := hp
    unfold plainT at hp
    cases hu : P.underlying t with
    | none => rw [hu] at hp; simp at hp
    | some u =>
      rw [hu] at hp
      cases u <;> simp only [Bool.false_eq_true] at hp
      case bool =>
        obtain ⟨b, rfl, _⟩ := DataW.trod_bool hu h
        exact ⟨[.bool b], VRs.cons (.bool b) VRs.nil, by simp [AV.leaf, AV.share1], by simp only [Ty, hu]; exact ⟨b, rfl⟩, by simpa using (beq_iff_eq.1 hp).symm⟩
      case int k =>
        obtain ⟨m, rfl, _, hw⟩ := DataW.trod_int hu h
        exact ⟨[.int k m], VRs.cons (.int k m) VRs.nil, by simp [AV.leaf, AV.share1], by simp only [Ty, hu]; exact ⟨m, rfl, hw⟩, by simpa using (beq_iff_eq.1 hp).symm⟩
      case string =>
        obtain ⟨b, rfl, _, hw⟩ := DataW.trod_string hu h
        exact ⟨[.str b.data.toList], VRs.cons (.str b.data.toList) VRs.nil, by simp [AV.leaf, AV.share1], by simp only [Ty, hu]; exact ⟨_, rfl, by simpa using hw⟩, by simpa using (beq_iff_eq.1 hp).symm⟩
      case slice e =>
        simp only [Bool.and_eq_true, beq_iff_eq, decide_eq_true_eq] at hp
        obtain ⟨⟨hp1, hpe⟩, hk0⟩ := hp
        rcases DataW.trod_slice hu h with ⟨rfl, _⟩ | ⟨a, len, cap, elems, rest, m, rfl, rfl, _, hb, hl, hm, hlen, hel, _, _⟩
        · exact ⟨[.sl false (P.cellsOf e) []], VRs.cons (.slnil false _) VRs.nil, by simp [AV.leaf, AV.share1], by simp only [Ty, hu]; exact ⟨[], rfl, by simp, by simp⟩, by simpa using hp1.symm⟩
        · obtain ⟨ab, ao, asp⟩ := a
          have hex : ∀ i, i < len → ∃ ys : List AV, ∃ ci : List Value, w.cells? 0 ((⟨ab, ao, asp⟩ : Addr).add (i * P.cellsOf e)) (P.cellsOf e) = some ci ∧ VRs (allC w) ys ci ∧ (∀ x ∈ ys, x.leaf = true ∧ x.share1 = x) ∧ Ty P n e ys ∧ ci.length = P.cellsOf e := by
            intro i hi
            have h1 := hel i hi
            rw [List.getElem?_eq_getElem (by omega)] at h1
            simp only [Option.bind_eq_some_iff] at h1
            obtain ⟨ci, hci, htr⟩ := h1
            obtain ⟨ys, g1, g2, g3, g4⟩ := ih m e ci _ hpe htr
            exact ⟨ys, ci, hci, g1, g2, g3, g4⟩
          obtain ⟨yss, hyl, hys⟩ := exists_list len hex
          have hyc : ∀ (i : Nat) (ys : List AV), yss[i]? = some ys → (elemOf P e ys).cells = ys ∧ ys.length = P.cellsOf e := by
            intro i ys hi
            obtain ⟨ci, _, g1, g2, _, g4⟩ := hys i ys hi
            have hyl2 : ys.length = P.cellsOf e := by rw [g1.1]; exact g4
            exact ⟨elemOf_cells hpe hyl2 fun y hy => (g2 y hy).1, hyl2⟩
          have hsp : 0 < len → asp = none := by
            intro h0
            obtain ⟨ys, ci, hci, _, _, _, g4⟩ := hex 0 h0
            obtain ⟨_, _, hget⟩ := World.cells?_some hci
            have h1 := hget 0 hk0
            rw [List.getElem?_eq_getElem (by omega)] at h1
            simp only [Nat.zero_mul, Addr.add, if_true] at h1
            unfold World.cell? at h1
            split at h1 <;> try (simp at h1; done)
            split at h1 <;> try (simp at h1; done)
            rename_i hs
            simpa using hs
          have hcell : ∀ (i : Nat) (ys : List AV) (j : Nat) (c : AV), yss[i]? = some ys → ys[j]? = some c → c.leaf = true ∧ ∃ u, w.cell? ⟨ab, ao + (i * P.cellsOf e + j), none⟩ = some u ∧ VR (allC w) c u := by
            intro i ys j c hi hj
            obtain ⟨ci, hci, g1, g2, _, g4⟩ := hys i ys hi
            have hi2 : i < len := by rw [← hyl]; exact lt_of_get hi
            have hj2 : j < P.cellsOf e := by have := lt_of_get hj; rw [(hyc i ys hi).2] at this; exact this
            obtain ⟨_, _, hget⟩ := World.cells?_some hci
            obtain ⟨u, hu2, hvr⟩ := g1.get hj
            have h1 := hget j hj2
            rw [hu2] at h1
            have hadr : ((⟨ab, ao, asp⟩ : Addr).add (i * P.cellsOf e)).add j = ⟨ab, ao + (i * P.cellsOf e + j), none⟩ := by
              rw [hsp (by omega), Addr.add_lit, Addr.add_lit, Nat.add_assoc]
            rw [hadr] at h1
            exact ⟨(g2 c (List.mem_of_getElem? hj)).1, u, h1, hvr⟩
          refine ⟨[.sl false (P.cellsOf e) (yss.map (elemOf P e))], VRs.cons ?_ VRs.nil, by simp [AV.leaf, AV.share1], ?_, by simpa using hp1.symm⟩
          · have := VR.sl (C := allC w) false (P.cellsOf e) (yss.map (elemOf P e)) ab ao asp cap (fun i j => (w.cell? ⟨ab, ao + (i * P.cellsOf e + j), none⟩).getD undef) (by simp; omega)
              (fun hne => hsp (Nat.pos_of_ne_zero fun h0 => hne (by rw [List.eq_nil_of_length_eq_zero (show yss.length = 0 by omega)]; rfl)))
              (fun x hx => by obtain ⟨ys, hy, rfl⟩ := List.mem_map.1 hx; obtain ⟨i, hi⟩ := List.mem_iff_getElem?.1 hy; obtain ⟨e1, e2⟩ := hyc i ys hi; rw [e1, e2])
              (fun i x j c hx hc => by
                rw [List.getElem?_map] at hx
                simp only [Option.map_eq_some_iff] at hx
                obtain ⟨ys, hy, rfl⟩ := hx
                rw [(hyc i ys hy).1] at hc
                obtain ⟨g1, u, g2, g3⟩ := hcell i ys j c hy hc
                exact ⟨g1, by show w.cell? _ = _; rw [g2]; rfl⟩)
              (fun i x j c hx hc => by
                rw [List.getElem?_map] at hx
                simp only [Option.map_eq_some_iff] at hx
                obtain ⟨ys, hy, rfl⟩ := hx
                rw [(hyc i ys hy).1] at hc
                obtain ⟨g1, u, g2, g3⟩ := hcell i ys j c hy hc
                rw [g2]; exact g3)
            rw [List.length_map, hyl] at this
            exact this
          · simp only [Ty, hu]
            refine ⟨yss, rfl, by omega, fun ys hy => ?_⟩
            obtain ⟨i, hi⟩ := List.mem_iff_getElem?.1 hy
            obtain ⟨ci, _, g1, g2, g3, g4⟩ := hys i ys hi
            exact ⟨(hyc i ys hi).2, g3⟩
      case struct fs =>
        simp only [Bool.and_eq_true, beq_iff_eq] at hp
        obtain ⟨htile, hall⟩ := hp
        obtain ⟨xs, m, rfl, _, hcl, hxl, hf⟩ := DataW.trod_struct hu h
        obtain ⟨ys, k1, k2, k3⟩ := split_fields (C := allC w) (n := n) fs.toList 0 _ htile hcl (Nat.zero_le _) (fun f hfm => by
          obtain ⟨i, hi⟩ := List.mem_iff_getElem?.1 hfm
          have hi' : fs[i]? = some f := by simpa using hi
          have h1 := hf i f hi'
          have hlt : i < xs.length := by rw [hxl]; exact (Array.getElem?_eq_some_iff.1 hi').1
          rw [List.getElem?_eq_getElem hlt] at h1
          obtain ⟨zs, g1, g2, g3, g4⟩ := ih m f.type _ _ (List.all_eq_true.1 hall f hfm) h1
          exact ⟨zs, g1, g2, g3, g4⟩)
        rw [List.drop_zero] at k1
        refine ⟨ys, k1, k2, ?_, hcl⟩
        simp only [Ty, hu]
        refine ⟨by rw [k1.1]; exact hcl, fun f hfm => ?_⟩
        have := (k3 f hfm).2
        simpa using this

end
end Go.Vm
