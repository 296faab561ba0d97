/- What a pure value has to do with a value of the model: reading, ownership, and how worlds go on. -/
import Derived.Test.YtacifbbmfkampaaDoorVmA
import Derived.Below
namespace Go.Vm
open Go.RowKit
set_option linter.unusedVariables false
set_option linter.unusedSectionVars false

/-- What is published: cells that nobody writes any more. -/
abbrev Pub := Nat → Nat → Option Value

/-- What the program's own variables hold, that are never written; the block of the types' handles. -/
class Glob where
  g : Pub
  hb : Nat
variable [Glob]

inductive VR (C : Pub) : AV → Value → Prop
  | int (k : IntKind) (n : Int) : VR C (.int k n) (.int k n)
  | bool (b : Bool) : VR C (.bool b) (.bool b)
  | str (s : List UInt8) : VR C (.str s) (.string ⟨s.toArray⟩)
  | agg (cs : List AV) (f : Nat → Value) (h : ∀ (i : Nat) c, cs[i]? = some c → VR C c (f i)) : VR C (.agg cs) (.agg ((List.range cs.length).map f).toArray)
  | tup (cs : List AV) (f : Nat → Value) (h : ∀ (i : Nat) c, cs[i]? = some c → VR C c (f i)) : VR C (.tup cs) (.tuple ((List.range cs.length).map f).toArray)
  | slnil (o : Bool) (k : Nat) : VR C (.sl o k []) (.slice none 0 0)
  | sl (o : Bool) (k : Nat) (l : List AV) (b off : Nat) (sp : Option Nat) (cap : Nat) (cv : Nat → Nat → Value) (hcap : l.length ≤ cap) (hsp : l ≠ [] → sp = none)
      (hk : ∀ x ∈ l, x.cells.length = k)
      (h1 : ∀ (i : Nat) x (j : Nat) c, l[i]? = some x → x.cells[j]? = some c → c.leaf = true ∧ C b (off + (i * k + j)) = some (cv i j))
      (h2 : ∀ (i : Nat) x (j : Nat) c, l[i]? = some x → x.cells[j]? = some c → VR C c (cv i j)) : VR C (.sl o k l) (.slice (some ⟨b, off, sp⟩) l.length cap)
  | nilp : VR C .nilp (.pointer none)
  | imm (cs : List AV) (off b q : Nat) (cv : Nat → Value)
      (h1 : ∀ (j : Nat) c, cs[j]? = some c → c.leaf = true ∧ C b (q + j) = some (cv j))
      (h2 : ∀ (j : Nat) c, cs[j]? = some c → VR C c (cv j)) : VR C (.imm cs off) (.pointer (some ⟨b, q + off, none⟩))
  | fr (n b : Nat) : VR C (.fr n) (.pointer (some ⟨b, 0, none⟩))
  | nili : VR C .nili .nilIface
  | ifc (t : TypeId) (x : AV) (v : Value) (h : VR C x v) : VR C (.ifc t x) (.iface t v)
  | fn (f : FuncId) (cs : List AV) (g : Nat → Value) (h : ∀ (i : Nat) c, cs[i]? = some c → VR C c (g i)) : VR C (.fn f cs) (.func (.func f) #[] ((List.range cs.length).map g).toArray)
  | nilf : VR C .nilf .nilFunc
  | undef (v : Value) : VR C .undef v
  | hdl (t : Nat) : VR C (.hdl t) (.pointer (some ⟨Glob.hb, t, none⟩))

theorem VR.mono {C C' : Pub} (hC : ∀ b o v, C b o = some v → C' b o = some v) {x : AV} {v : Value} (h : VR C x v) : VR C' x v := by
  induction h with
  | int k n => exact .int k n
  | bool b => exact .bool b
  | str s => exact .str s
  | agg cs f _ ih => exact .agg cs f ih
  | tup cs f _ ih => exact .tup cs f ih
  | slnil o k => exact .slnil o k
  | sl o k l b off sp cap cv hcap hsp hk h1 _ ih => exact .sl o k l b off sp cap cv hcap hsp hk (fun i x j c a b => ⟨(h1 i x j c a b).1, hC _ _ _ (h1 i x j c a b).2⟩) ih
  | nilp => exact .nilp
  | imm cs off b q cv h1 _ ih => exact .imm cs off b q cv (fun j c a => ⟨(h1 j c a).1, hC _ _ _ (h1 j c a).2⟩) ih
  | fr n b => exact .fr n b
  | nili => exact .nili
  | ifc t x v _ ih => exact .ifc t x v ih
  | fn f cs g _ ih => exact .fn f cs g ih
  | nilf => exact .nilf
  | undef v => exact .undef v
  | hdl t => exact .hdl t

/-- Lists of values, one by one. -/
def VRs (C : Pub) (xs : List AV) (vs : List Value) : Prop := xs.length = vs.length ∧ ∀ (i : Nat) (x : AV) (v : Value), xs[i]? = some x → vs[i]? = some v → VR C x v

theorem VRs.nil {C : Pub} : VRs C [] [] := ⟨rfl, by simp⟩
theorem VRs.cons {C : Pub} {x v xs vs} (h : VR C x v) (t : VRs C xs vs) : VRs C (x :: xs) (v :: vs) := by
  refine ⟨by simp [t.1], fun i y w hy hw => ?_⟩
  cases i with
  | zero => simp at hy hw; subst hy; subst hw; exact h
  | succ i => simp at hy hw; exact t.2 i y w hy hw
theorem VRs.cons_inv {C : Pub} {x xs vs} (h : VRs C (x :: xs) vs) : ∃ v vs', vs = v :: vs' ∧ VR C x v ∧ VRs C xs vs' := by
  cases vs with
  | nil => simp [VRs] at h
  | cons v vs' => exact ⟨v, vs', rfl, h.2 0 x v rfl rfl, by simpa using h.1, fun i y w hy hw => h.2 (i + 1) y w (by simpa using hy) (by simpa using hw)⟩
theorem VRs.nil_inv {C : Pub} {vs} (h : VRs C [] vs) : vs = [] := by cases vs <;> simp_all [VRs]
theorem VRs.mono {C C' : Pub} (hC : ∀ b o v, C b o = some v → C' b o = some v) {xs vs} (h : VRs C xs vs) : VRs C' xs vs := ⟨h.1, fun i x v a b => (h.2 i x v a b).mono hC⟩
theorem VRs.append {C : Pub} {xs vs ys ws} (h : VRs C xs vs) (k : VRs C ys ws) : VRs C (xs ++ ys) (vs ++ ws) := by
  induction xs generalizing vs with
  | nil => cases h.nil_inv; exact k
  | cons x xs ih => obtain ⟨v, vs', rfl, h1, h2⟩ := h.cons_inv; exact VRs.cons h1 (ih h2)
theorem VRs.range {C : Pub} {cs : List AV} {f : Nat → Value} (h : ∀ (i : Nat) c, cs[i]? = some c → VR C c (f i)) : VRs C cs ((List.range cs.length).map f) := by
  refine ⟨by simp, fun i x v hx hv => ?_⟩
  have hi : i < cs.length := by rcases Nat.lt_or_ge i cs.length with h' | h'; exact h'; simp [List.getElem?_eq_none h'] at hx
  simp [hi] at hv; subst hv; exact h i x hx
theorem VRs.to_range {C : Pub} {cs : List AV} {vs : List Value} (h : VRs C cs vs) : ∃ f : Nat → Value, vs = (List.range cs.length).map f ∧ ∀ (i : Nat) c, cs[i]? = some c → VR C c (f i) := by
  refine ⟨fun i => vs.getD i undef, ?_, fun i c hc => ?_⟩
  · apply List.ext_getElem?; intro i
    rcases Nat.lt_or_ge i cs.length with h' | h'
    · have h2 : i < vs.length := h.1 ▸ h'
      simp [h', h2]
    · have h2 : vs.length ≤ i := h.1 ▸ h'
      simp [h', h2]
  · have hi : i < cs.length := by rcases Nat.lt_or_ge i cs.length with h' | h'; exact h'; simp [List.getElem?_eq_none h'] at hc
    have h2 : i < vs.length := h.1 ▸ hi
    exact h.2 i c _ hc (by simp [h2])

theorem VR.agg_inv {C : Pub} {cs v} (h : VR C (.agg cs) v) : ∃ vs : List Value, v = .agg vs.toArray ∧ VRs C cs vs := by
  cases h with | agg _ f h => exact ⟨_, rfl, VRs.range h⟩
theorem VR.agg_mk {C : Pub} {cs vs} (h : VRs C cs vs) : VR C (.agg cs) (.agg vs.toArray) := by
  obtain ⟨f, rfl, hf⟩ := h.to_range; exact .agg cs f hf
theorem VR.tup_inv {C : Pub} {cs v} (h : VR C (.tup cs) v) : ∃ vs : List Value, v = .tuple vs.toArray ∧ VRs C cs vs := by
  cases h with | tup _ f h => exact ⟨_, rfl, VRs.range h⟩
theorem VR.tup_mk {C : Pub} {cs vs} (h : VRs C cs vs) : VR C (.tup cs) (.tuple vs.toArray) := by
  obtain ⟨f, rfl, hf⟩ := h.to_range; exact .tup cs f hf
theorem VR.fn_inv {C : Pub} {f cs v} (h : VR C (.fn f cs) v) : ∃ vs : List Value, v = .func (.func f) #[] vs.toArray ∧ VRs C cs vs := by
  cases h with | fn _ _ f h => exact ⟨_, rfl, VRs.range h⟩
theorem VR.fn_mk {C : Pub} {f cs vs} (h : VRs C cs vs) : VR C (.fn f cs) (.func (.func f) #[] vs.toArray) := by
  obtain ⟨g, rfl, hf⟩ := h.to_range; exact .fn f cs g hf

theorem VR.share1 {C : Pub} {x v} (h : VR C x v) : VR C x.share1 v := by
  cases h with
  | slnil o k => exact .slnil false k
  | sl o k l b off sp cap cv hcap hsp hk h1 h2 => exact .sl false k l b off sp cap cv hcap hsp hk h1 h2
  | fr n b => exact .undef _
  | int => exact .int _ _
  | bool => exact .bool _
  | str => exact .str _
  | agg _ _ h => exact .agg _ _ h
  | tup _ _ h => exact .tup _ _ h
  | nilp => exact .nilp
  | imm _ _ _ _ _ h1 h2 => exact .imm _ _ _ _ _ h1 h2
  | nili => exact .nili
  | ifc _ _ _ h => exact .ifc _ _ _ h
  | fn _ _ _ h => exact .fn _ _ _ h
  | nilf => exact .nilf
  | undef v => exact .undef v
  | hdl t => exact .hdl t
theorem VRs.map {C : Pub} {f : AV → AV} (hf : ∀ x v, VR C x v → VR C (f x) v) {xs vs} (h : VRs C xs vs) : VRs C (xs.map f) vs := by
  refine ⟨by simp [h.1], fun i x v hx hv => ?_⟩
  simp at hx
  obtain ⟨y, hy, rfl⟩ := hx
  exact hf _ _ (h.2 i y v hy hv)
theorem VR.share {C : Pub} {x v} (h : VR C x v) : VR C x.share v := by
  cases x with
  | tup vs => obtain ⟨ws, rfl, h'⟩ := h.tup_inv; exact VR.tup_mk (h'.map fun _ _ => VR.share1)
  | _ => exact h.share1

/-- A value's cells. -/
theorem VR.cells {C : Pub} {x v} (h : VR C x v) (hl : x.cells.all AV.leaf = true) : VRs C x.cells v.cells.toList := by
  cases x with
  | agg cs => obtain ⟨vs, rfl, h'⟩ := h.agg_inv; exact h'
  | tup cs => simp [AV.cells, AV.leaf] at hl
  | undef => simp [AV.cells, AV.leaf] at hl
  | fr n => simp [AV.cells, AV.leaf] at hl
  | _ =>
    have : v.cells.toList = [v] := by cases h <;> rfl
    rw [this]; exact VRs.cons h VRs.nil
theorem VR.oneCell {C : Pub} {x v} (h : VR C x v) (hl : x.leaf = true) : v.oneCell' = true := by
  cases h <;> first | rfl | simp [AV.leaf] at hl

theorem AV.leaf_share1 {x : AV} (h : x.leaf = true) : x.share1.leaf = true := by cases x <;> simp_all [AV.leaf, AV.share1]
theorem AV.cells_share1 (x : AV) : x.share1.cells.length = x.cells.length := by cases x <;> rfl

/-- The world bears what is published. -/
def Wd (C : Pub) (w : World) : Prop := ∀ b o v, C b o = some v → w.cell? ⟨b, o, none⟩ = some v

/-- What a value owns: a row that may grow, a block that was just made. -/
def own1 (C : Pub) (w : World) (n0 : Nat) : AV → Value → Prop
  | .sl true k l, v => ∃ e xs, w.ownsRow n0 e k v l.length xs ∧ ∀ b, v.ownBlock = some b → ∀ o, l.length * k ≤ o → C b o = none
  | .fr n, v => ∃ b e cs, v = .pointer (some ⟨b, 0, none⟩) ∧ n0 ≤ b ∧ w.heap[b]? = some (.cells cs e (0, 0)) ∧ cs.size = n ∧ ∀ o, C b o = none
  | _, _ => True
def blk1 : AV → Value → List Nat
  | .sl true _ _, v => v.ownBlock.toList
  | .fr _, .pointer (some a) => [a.block]
  | _, _ => []
def comps : AV → Value → List (AV × Value)
  | .tup vs, .tuple ws => vs.zip ws.toList
  | x, v => [(x, v)]
def ownP (C : Pub) (w : World) (n0 : Nat) (x : AV) (v : Value) : Prop := ∀ p ∈ comps x v, own1 C w n0 p.1 p.2
def blks (x : AV) (v : Value) : List Nat := (comps x v).flatMap fun p => blk1 p.1 p.2

theorem blk1_share1 (x : AV) (v : Value) : blk1 x.share1 v = [] := by cases x <;> simp [AV.share1, blk1]
theorem own1_share1 (C : Pub) (w : World) (n0 : Nat) (x : AV) (v : Value) : own1 C w n0 x.share1 v := by cases x <;> simp [AV.share1, own1]
theorem comps_share (x : AV) (v : Value) : ∀ p ∈ comps x.share v, ∃ y : AV, p.1 = y.share1 := by
  intro p hp
  cases x with
  | tup vs =>
    cases v <;> simp only [AV.share, comps, List.mem_singleton] at hp
    case tuple ws =>
      obtain ⟨i, hi, rfl⟩ := List.mem_iff_getElem.1 hp
      exact ⟨vs[i]'(by simp at hi; omega), by simp⟩
    all_goals (subst hp; exact ⟨AV.tup (vs.map AV.share1), rfl⟩)
  | _ => simp only [AV.share, AV.share1, comps, List.mem_singleton] at hp; subst hp; first | exact ⟨AV.sl false _ _, rfl⟩ | exact ⟨AV.undef, rfl⟩ | exact ⟨AV.agg _, rfl⟩ | exact ⟨AV.int _ _, rfl⟩ | exact ⟨AV.bool _, rfl⟩ | exact ⟨AV.str _, rfl⟩ | exact ⟨AV.nilp, rfl⟩ | exact ⟨AV.imm _ _, rfl⟩ | exact ⟨AV.ref _ _, rfl⟩ | exact ⟨AV.nili, rfl⟩ | exact ⟨AV.ifc _ _, rfl⟩ | exact ⟨AV.fn _ _, rfl⟩ | exact ⟨AV.nilf, rfl⟩ | exact ⟨AV.mp _, rfl⟩ | exact ⟨AV.msl _ _ _ _, rfl⟩ | exact ⟨AV.hdl _, rfl⟩
theorem blks_share (x : AV) (v : Value) : blks x.share v = [] := by
  unfold blks
  rw [List.flatMap_eq_nil_iff]
  intro p hp
  obtain ⟨y, hy⟩ := comps_share x v p hp
  rw [hy, blk1_share1]
theorem ownP_share (C : Pub) (w : World) (n0 : Nat) (x : AV) (v : Value) : ownP C w n0 x.share v := by
  intro p hp
  obtain ⟨y, hy⟩ := comps_share x v p hp
  rw [hy]; exact own1_share1 ..

/-- How a world goes on: new blocks, and the blocks Bs, alone turn; what is published stays. -/
structure Ext (Bs : List Nat) (C : Pub) (w : World) (C' : Pub) (w' : World) : Prop where
  os : w'.os = w.os
  tape : w'.tape = w.tape
  output : w'.output = w.output
  size : w.heap.size ≤ w'.heap.size
  old : ∀ b, b < w.heap.size → b ∉ Bs → w'.heap[b]? = w.heap[b]? ∧ ∀ o, C' b o = C b o
  mono : ∀ b o v, C b o = some v → C' b o = some v
  wd : Wd C' w'

theorem Ext.refl {Bs C w} (h : Wd C w) : Ext Bs C w C w := ⟨rfl, rfl, rfl, Nat.le_refl _, fun _ _ _ => ⟨rfl, fun _ => rfl⟩, fun _ _ _ h => h, h⟩
theorem Wd.fresh {C : Pub} {w : World} (h : Wd C w) {b : Nat} (hb : w.heap.size ≤ b) (o : Nat) : C b o = Option.none := by
  cases hc : C b o with
  | none => rfl
  | some v =>
    have h2 := h b o v hc
    have h3 : w.heap[b]? = Option.none := by simp; omega
    simp [World.cell?, h3] at h2

/-- What was owned stays so, if its block does not turn. -/
theorem own1.ext {Bs C w C' w' n0 x v} (h : own1 C w n0 x v) (e : Ext Bs C w C' w') (hb : ∀ b ∈ blk1 x v, b ∉ Bs) : own1 C' w' n0 x v := by
  unfold own1 at h ⊢
  split at h
  · rename_i k l _
    obtain ⟨el, xs, h1, h2⟩ := h
    refine ⟨el, xs, ⟨h1.1, ?_⟩, fun b hbk o ho => ?_⟩
    · rcases h1.2 with hn | ⟨g, cap, cur, rfl, hbg, hg, r⟩
      · exact .inl hn
      · refine .inr ⟨g, cap, cur, rfl, hbg, ?_, r⟩
        rw [(e.old g (Array.getElem?_eq_some_iff.1 hg).1 (hb g (by simp [blk1, Value.ownBlock]))).1]; exact hg
    · have hlt := (h1.lt b hbk).2
      rw [(e.old b hlt (hb b (by simp [blk1, hbk]))).2]; exact h2 b hbk o ho
  · obtain ⟨b, el, cs, rfl, hn, hg, hs, hc⟩ := h
    have hlt := (Array.getElem?_eq_some_iff.1 hg).1
    have ho := e.old b hlt (hb b (by simp [blk1]))
    exact ⟨b, el, cs, rfl, hn, by rw [ho.1]; exact hg, hs, fun o => by rw [ho.2]; exact hc o⟩
  · trivial
theorem own1.lt {C w n0 x v} (h : own1 C w n0 x v) : ∀ b ∈ blk1 x v, n0 ≤ b ∧ b < w.heap.size := by
  intro b hb
  unfold own1 at h
  unfold blk1 at hb
  split at h
  · obtain ⟨el, xs, h1, h2⟩ := h
    simp at hb
    exact h1.lt b hb
  · obtain ⟨b', el, cs, rfl, hn, hg, hs, hc⟩ := h
    simp at hb
    subst hb
    exact ⟨hn, (Array.getElem?_eq_some_iff.1 hg).1⟩
  · split at hb <;> simp_all
theorem own1.base {C w n0 n1 x v} (h : own1 C w n0 x v) (hn : n1 ≤ n0) : own1 C w n1 x v := by
  unfold own1 at h ⊢
  split at h
  · obtain ⟨el, xs, h1, h2⟩ := h
    refine ⟨el, xs, ⟨h1.1, ?_⟩, h2⟩
    rcases h1.2 with hn | ⟨g, cap, cur, rfl, hbg, r⟩
    · exact .inl hn
    · exact .inr ⟨g, cap, cur, rfl, by omega, r⟩
  · obtain ⟨b, el, cs, rfl, hn', r⟩ := h
    exact ⟨b, el, cs, rfl, by omega, r⟩
  · trivial
theorem ownP.ext {Bs C w C' w' n0 x v} (h : ownP C w n0 x v) (e : Ext Bs C w C' w') (hb : ∀ b ∈ blks x v, b ∉ Bs) : ownP C' w' n0 x v :=
  fun p hp => (h p hp).ext e fun b hb' => hb b (List.mem_flatMap.2 ⟨p, hp, hb'⟩)
theorem ownP.lt {C w n0 x v} (h : ownP C w n0 x v) : ∀ b ∈ blks x v, n0 ≤ b ∧ b < w.heap.size := by
  intro b hb
  obtain ⟨p, hp, hb'⟩ := List.mem_flatMap.1 hb
  exact (h p hp).lt b hb'
theorem ownP.base {C w n0 n1 x v} (h : ownP C w n0 x v) (hn : n1 ≤ n0) : ownP C w n1 x v := fun p hp => (h p hp).base hn

end Go.Vm
