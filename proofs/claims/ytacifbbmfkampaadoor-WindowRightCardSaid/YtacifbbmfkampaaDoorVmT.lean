/- References to what may turn: values, objects. -/
import Derived.Test.YtacifbbmfkampaaDoorVmJ
namespace Go.Vm
open Go.RowKit
set_option linter.unusedVariables false
set_option linter.unusedSimpArgs false
set_option linter.unusedSectionVars false
variable [Glob]

abbrev Phi := Nat → Option Nat

/-- A value, with references. -/
inductive VT (C : Pub) (φ : Phi) : AV → Value → Prop
  | pure {x : AV} {v : Value} (h : VR C x v) : VT C φ x v
  | ref (id off b : Nat) (h : φ id = some b) : VT C φ (.ref id off) (.pointer (some ⟨b, off, none⟩))
  | msl (id off k len b cap : Nat) (h : φ id = some b) (hc : len ≤ cap) : VT C φ (.msl id off k len) (.slice (some ⟨b, off, none⟩) len cap)
  | ifc (t : TypeId) (x : AV) (v : Value) (h : VT C φ x v) : VT C φ (.ifc t x) (.iface t v)
  | fn (f : FuncId) (cs : List AV) (g : Nat → Value) (h : ∀ (i : Nat) c, cs[i]? = some c → VT C φ c (g i)) : VT C φ (.fn f cs) (.func (.func f) #[] ((List.range cs.length).map g).toArray)
  | tup (cs : List AV) (g : Nat → Value) (h : ∀ (i : Nat) c, cs[i]? = some c → VT C φ c (g i)) : VT C φ (.tup cs) (.tuple ((List.range cs.length).map g).toArray)
  | agg (cs : List AV) (g : Nat → Value) (h : ∀ (i : Nat) c, cs[i]? = some c → VT C φ c (g i)) : VT C φ (.agg cs) (.agg ((List.range cs.length).map g).toArray)
  | imm (cs : List AV) (off b q : Nat) (cv : Nat → Value)
      (h1 : ∀ (j : Nat) c, cs[j]? = some c → c.leaf = true ∧ C b (q + j) = some (cv j))
      (h2 : ∀ (j : Nat) c, cs[j]? = some c → VT C φ c (cv j)) : VT C φ (.imm cs off) (.pointer (some ⟨b, q + off, none⟩))

section
variable {C C' : Pub} {φ φ' : Phi} {w w' : World} {h h' : Hp} {P : Program}

theorem VT.mono (hC : ∀ b o v, C b o = some v → C' b o = some v) (hφ : ∀ id b, φ id = some b → φ' id = some b) {x v} (h : VT C φ x v) : VT C' φ' x v := by
  induction h with
  | pure h => exact .pure (h.mono hC)
  | ref id off b h => exact .ref id off b (hφ _ _ h)
  | msl id off k len b cap h hc => exact .msl id off k len b cap (hφ _ _ h) hc
  | ifc t x v _ ih => exact .ifc t x v ih
  | fn f cs g _ ih => exact .fn f cs g ih
  | tup cs g _ ih => exact .tup cs g ih
  | agg cs g _ ih => exact .agg cs g ih
  | imm cs off b q cv h1 _ ih => exact .imm cs off b q cv (fun j c hc => ⟨(h1 j c hc).1, hC _ _ _ (h1 j c hc).2⟩) ih

theorem puL_iff {l : List AV} : AV.pu.puL l = true ↔ ∀ c ∈ l, c.pu = true := by
  induction l with
  | nil => simp [AV.pu.puL]
  | cons c cs ih => simp [AV.pu.puL, ih]
theorem VT.toVR {x v} (h : VT C φ x v) : x.pu = true → VR C x v := by
  induction h with
  | pure h => exact fun _ => h
  | ref => intro hp; simp [AV.pu] at hp
  | msl => intro hp; simp [AV.pu] at hp
  | ifc t x v _ ih => intro hp; exact .ifc t x v (ih (by simpa [AV.pu] using hp))
  | fn f cs g _ ih =>
    intro hp
    have hp : AV.pu.puL cs = true := by simpa [AV.pu] using hp
    exact .fn f cs g fun i c hc => ih i c hc (puL_iff.1 hp c (List.mem_of_getElem? hc))
  | tup cs g _ ih =>
    intro hp
    have hp : AV.pu.puL cs = true := by simpa [AV.pu] using hp
    exact .tup cs g fun i c hc => ih i c hc (puL_iff.1 hp c (List.mem_of_getElem? hc))
  | agg cs g _ ih =>
    intro hp
    have hp : AV.pu.puL cs = true := by simpa [AV.pu] using hp
    exact .agg cs g fun i c hc => ih i c hc (puL_iff.1 hp c (List.mem_of_getElem? hc))
  | imm cs off b q cv h1 _ ih =>
    intro hp
    have hp : AV.pu.puL cs = true := by simpa [AV.pu] using hp
    exact .imm cs off b q cv h1 fun i c hc => ih i c hc (puL_iff.1 hp c (List.mem_of_getElem? hc))

def VTs (C : Pub) (φ : Phi) (xs : List AV) (vs : List Value) : Prop := xs.length = vs.length ∧ ∀ (i : Nat) (x : AV) (v : Value), xs[i]? = some x → vs[i]? = some v → VT C φ x v
theorem VTs.nil : VTs C φ [] [] := ⟨rfl, by simp⟩
theorem VTs.cons {x v xs vs} (h : VT C φ x v) (t : VTs C φ xs vs) : VTs C φ (x :: xs) (v :: vs) := by
  refine ⟨by simp [t.1], fun i y w hy hw => ?_⟩
  cases i with
  | zero => simp at hy hw; subst hy; subst hw; exact h
  | succ i => simp at hy hw; exact t.2 i y w hy hw
theorem VTs.cons_inv {x xs vs} (h : VTs C φ (x :: xs) vs) : ∃ v vs', vs = v :: vs' ∧ VT C φ x v ∧ VTs C φ xs vs' := by
  cases vs with
  | nil => simp [VTs] at h
  | cons v vs' => exact ⟨v, vs', rfl, h.2 0 x v rfl rfl, by simpa using h.1, fun i y w hy hw => h.2 (i + 1) y w (by simpa using hy) (by simpa using hw)⟩
theorem VTs.nil_inv {vs} (h : VTs C φ [] vs) : vs = [] := by cases vs <;> simp_all [VTs]
theorem VTs.append {xs vs ys ws} (h : VTs C φ xs vs) (k : VTs C φ ys ws) : VTs C φ (xs ++ ys) (vs ++ ws) := by
  induction xs generalizing vs with
  | nil => cases h.nil_inv; exact k
  | cons x xs ih => obtain ⟨v, vs', rfl, h1, h2⟩ := h.cons_inv; exact VTs.cons h1 (ih h2)
theorem VTs.ofVRs {xs vs} (h : VRs C xs vs) : VTs C φ xs vs := ⟨h.1, fun i x v a b => .pure (h.2 i x v a b)⟩
theorem VTs.toVRs {xs vs} (h : VTs C φ xs vs) (hp : xs.all AV.pu = true) : VRs C xs vs :=
  ⟨h.1, fun i x v a b => (h.2 i x v a b).toVR (List.all_eq_true.1 hp x (List.mem_of_getElem? a))⟩
theorem VTs.mono (hC : ∀ b o v, C b o = some v → C' b o = some v) (hφ : ∀ id b, φ id = some b → φ' id = some b) {xs vs} (h : VTs C φ xs vs) : VTs C' φ' xs vs := ⟨h.1, fun i x v a b => (h.2 i x v a b).mono hC hφ⟩
theorem VTs.range {cs : List AV} {f : Nat → Value} (h : ∀ (i : Nat) c, cs[i]? = some c → VT C φ c (f i)) : VTs C φ cs ((List.range cs.length).map f) := by
  refine ⟨by simp, fun i x v hx hv => ?_⟩
  have hi : i < cs.length := by rcases Nat.lt_or_ge i cs.length with h' | h'; exact h'; simp [List.getElem?_eq_none h'] at hx
  simp [hi] at hv; subst hv; exact h i x hx
theorem VTs.to_range {cs : List AV} {vs : List Value} (h : VTs C φ cs vs) : ∃ f : Nat → Value, vs = (List.range cs.length).map f ∧ ∀ (i : Nat) c, cs[i]? = some c → VT C φ c (f i) := by
  refine ⟨fun i => vs.getD i undef, ?_, fun i c hc => ?_⟩
  · apply List.ext_getElem?; intro i
    rcases Nat.lt_or_ge i cs.length with h' | h'
    · have h2 : i < vs.length := h.1 ▸ h'
      simp [h', h2]
    · have h2 : vs.length ≤ i := h.1 ▸ h'
      simp [h', h2]
  · have hi : i < cs.length := by rcases Nat.lt_or_ge i cs.length with h' | h'; exact h'; simp [List.getElem?_eq_none h'] at hc
    have h2 : i < vs.length := h.1 ▸ hi
    exact h.2 i c _ hc (by simp [h2])
theorem VTs.map {f : AV → AV} (hf : ∀ x v, VT C φ x v → VT C φ (f x) v) {xs vs} (h : VTs C φ xs vs) : VTs C φ (xs.map f) vs := by
  refine ⟨by simp [h.1], fun i x v hx hv => ?_⟩
  simp at hx
  obtain ⟨y, hy, rfl⟩ := hx
  exact hf _ _ (h.2 i y v hy hv)
theorem VTs.get {xs : List AV} {us : List Value} (h : VTs C φ xs us) {i : Nat} {x} (hx : xs[i]? = some x) : ∃ u, us[i]? = some u ∧ VT C φ x u := by
  have h1 := lt_of_get hx
  have h2 : i < us.length := h.1 ▸ h1
  exact ⟨us[i], by simp [h2], h.2 i x _ hx (by simp [h2])⟩

theorem VT.tup_inv {cs v} (h : VT C φ (.tup cs) v) : ∃ vs : List Value, v = .tuple vs.toArray ∧ VTs C φ cs vs := by
  cases h with
  | pure h => obtain ⟨vs, rfl, h'⟩ := h.tup_inv; exact ⟨vs, rfl, .ofVRs h'⟩
  | tup _ f h => exact ⟨_, rfl, VTs.range h⟩
theorem VT.tup_mk {cs vs} (h : VTs C φ cs vs) : VT C φ (.tup cs) (.tuple vs.toArray) := by
  obtain ⟨f, rfl, hf⟩ := h.to_range; exact .tup cs f hf
theorem VT.fn_inv {f cs v} (h : VT C φ (.fn f cs) v) : ∃ vs : List Value, v = .func (.func f) #[] vs.toArray ∧ VTs C φ cs vs := by
  cases h with
  | pure h => obtain ⟨vs, rfl, h'⟩ := h.fn_inv; exact ⟨vs, rfl, .ofVRs h'⟩
  | fn _ _ f h => exact ⟨_, rfl, VTs.range h⟩
theorem VT.fn_mk {f cs vs} (h : VTs C φ cs vs) : VT C φ (.fn f cs) (.func (.func f) #[] vs.toArray) := by
  obtain ⟨g, rfl, hf⟩ := h.to_range; exact .fn f cs g hf
theorem VT.agg_inv {cs v} (h : VT C φ (.agg cs) v) : ∃ vs : List Value, v = .agg vs.toArray ∧ VTs C φ cs vs := by
  cases h with
  | pure h => obtain ⟨vs, rfl, h'⟩ := h.agg_inv; exact ⟨vs, rfl, .ofVRs h'⟩
  | agg _ f h => exact ⟨_, rfl, VTs.range h⟩
theorem VT.agg_mk {cs vs} (h : VTs C φ cs vs) : VT C φ (.agg cs) (.agg vs.toArray) := by
  obtain ⟨f, rfl, hf⟩ := h.to_range; exact .agg cs f hf
theorem VT.imm_inv {cs off v} (h : VT C φ (.imm cs off) v) : ∃ b q, ∃ cv : Nat → Value, v = .pointer (some ⟨b, q + off, none⟩) ∧ (∀ (j : Nat) c, cs[j]? = some c → c.leaf = true ∧ C b (q + j) = some (cv j)) ∧ ∀ (j : Nat) c, cs[j]? = some c → VT C φ c (cv j) := by
  cases h with
  | pure h => cases h with | imm _ _ b q cv a1 a2 => exact ⟨b, q, cv, rfl, a1, fun j c hc => .pure (a2 j c hc)⟩
  | imm _ _ b q cv a1 a2 => exact ⟨b, q, cv, rfl, a1, a2⟩
theorem VT.ref_inv {i o v} (h : VT C φ (.ref i o) v) : ∃ b, v = .pointer (some ⟨b, o, none⟩) ∧ φ i = some b := by
  cases h with
  | pure h => cases h
  | ref _ _ b h => exact ⟨b, rfl, h⟩
theorem VT.msl_inv {i o k n v} (h : VT C φ (.msl i o k n) v) : ∃ b cap, v = .slice (some ⟨b, o, none⟩) n cap ∧ φ i = some b ∧ n ≤ cap := by
  cases h with
  | pure h => cases h
  | msl _ _ _ _ b cap h hc => exact ⟨b, cap, rfl, h, hc⟩

theorem VT.share1 {x v} (h : VT C φ x v) : VT C φ x.share1 v := by
  cases h with
  | pure h => exact .pure h.share1
  | ref _ _ _ h => exact .ref _ _ _ h
  | msl _ _ _ _ _ _ h hc => exact .msl _ _ _ _ _ _ h hc
  | ifc _ _ _ h => exact .ifc _ _ _ h
  | fn _ _ _ h => exact .fn _ _ _ h
  | tup _ _ h => exact .tup _ _ h
  | agg _ _ h => exact .agg _ _ h
  | imm _ _ _ _ _ h1 h2 => exact .imm _ _ _ _ _ h1 h2
theorem VT.share {x v} (h : VT C φ x v) : VT C φ x.share v := by
  cases x with
  | tup vs => obtain ⟨ws, rfl, h'⟩ := h.tup_inv; exact VT.tup_mk (h'.map fun _ _ => VT.share1)
  | _ => exact h.share1

theorem cellOk_leaf {id : Nat} {x : AV} (h : x.cellOk id = true) : x.leaf = true := by
  unfold AV.cellOk at h
  split at h
  · rfl
  · rfl
  · simp at h; exact h.1
theorem VT.oneCell {x v} (h : VT C φ x v) (hl : x.leaf = true) : v.oneCell' = true := by
  cases h with
  | pure h => exact h.oneCell hl
  | ref | msl | ifc | fn | imm => rfl
  | tup => simp [AV.leaf] at hl
  | agg => simp [AV.leaf] at hl
theorem VT.cells {x v} (h : VT C φ x v) (hl : x.cells.all AV.leaf = true) : VTs C φ x.cells v.cells.toList := by
  cases h with
  | pure h => exact .ofVRs (h.cells hl)
  | ref id o b h => exact VTs.cons (.ref id o b h) .nil
  | msl id o k n b c h hc => exact VTs.cons (.msl id o k n b c h hc) .nil
  | ifc t x v h => exact VTs.cons (.ifc t x v h) .nil
  | fn f cs g h => exact VTs.cons (.fn f cs g h) .nil
  | tup cs g h => simp [AV.cells, AV.leaf] at hl
  | agg cs g h => exact VTs.range h
  | imm cs off b q cv h1 h2 => exact VTs.cons (.imm cs off b q cv h1 h2) .nil
theorem cellOk_share1 {id : Nat} {x : AV} (h : x.cellOk id = true) : x.share1.cellOk id = true ∧ x.share1.share1 = x.share1 := by
  cases x <;> simp_all [AV.cellOk, AV.share1, AV.leaf, AV.pu]

/-- The objects, in the world. -/
structure HR (C : Pub) (φ : Phi) (w : World) (h : Hp) : Prop where
  dom : ∀ id, h.nx ≤ id → φ id = none ∧ h.m id = none
  lt : ∀ id b, φ id = some b → b < w.heap.size
  inj : ∀ id id' b, φ id = some b → φ id' = some b → id = id'
  obj : ∀ id cs, h.m id = some cs → ∃ b vs el, φ id = some b ∧ w.heap[b]? = some (.cells vs el (0, 0)) ∧ (∀ o, C b o = none) ∧ VTs C φ cs vs.toList ∧ ∀ c ∈ cs, c.cellOk id = true ∧ c.share1 = c

theorem HR.e (C : Pub) (w : World) : HR C (fun _ => none) w Hp.e := ⟨fun _ _ => ⟨rfl, rfl⟩, by simp, by simp, by simp [Hp.e]⟩

theorem HR.ext {Bs} (hr : HR C φ w h) (e : Ext Bs C w C' w') (hB : ∀ b ∈ Bs, ∀ id, φ id ≠ some b) : HR C' φ w' h := by
  refine ⟨hr.dom, fun id b hb => Nat.lt_of_lt_of_le (hr.lt id b hb) e.size, hr.inj, fun id cs hcs => ?_⟩
  obtain ⟨b, vs, el, h1, h2, h3, h4, h5⟩ := hr.obj id cs hcs
  have ho := e.old b (hr.lt id b h1) (fun hm => hB b hm id h1)
  exact ⟨b, vs, el, h1, by rw [ho.1]; exact h2, fun o => by rw [ho.2]; exact h3 o, h4.mono e.mono (fun _ _ h => h), h5⟩

/-- The blocks of the objects. -/
def HB (φ : Phi) (n : Nat) : List Nat := (List.range n).filterMap φ
theorem mem_HB {φ : Phi} {n b : Nat} : b ∈ HB φ n ↔ ∃ id, id < n ∧ φ id = some b := by simp [HB]

theorem Ext.more {Bs Bs' : List Nat} (e : Ext Bs C w C' w') (hB : ∀ b ∈ Bs, b ∈ Bs') : Ext Bs' C w C' w' :=
  ⟨e.os, e.tape, e.output, e.size, fun b hb hn => e.old b hb fun hm => hn (hB b hm), e.mono, e.wd⟩

/-- The ending of an operation, with objects. -/
def FinH (n0 : Nat) (C : Pub) (φ : Phi) (w : World) (h : Hp) (Bs : List Nat) (r : AV) (v : Value) (w' : World) (h' : Hp) : Prop :=
  ∃ C' φ', VT C' φ' r v ∧ Ext (Bs ++ HB φ h.nx) C w C' w' ∧ HR C' φ' w' h' ∧ (∀ id, id < h.nx → φ' id = φ id) ∧ (∀ id b, h.nx ≤ id → φ' id = some b → w.heap.size ≤ b) ∧ h.nx ≤ h'.nx ∧
    ownP C' w' n0 r v ∧ (∀ b ∈ blks r v, (b ∈ Bs ∨ w.heap.size ≤ b) ∧ ∀ id, φ' id ≠ some b) ∧ (blks r v).Nodup

theorem Fin.toH {n0 Bs r v} (hf : Fin n0 C w Bs r v w') (hr : HR C φ w h) (hB : ∀ b ∈ Bs, ∀ id, φ id ≠ some b) : FinH n0 C φ w h Bs r v w' h := by
  obtain ⟨C', h1, h2, h3, h4, h5⟩ := hf
  refine ⟨C', φ, .pure h1, h2.more (fun b hb => List.mem_append_left _ hb), hr.ext h2 hB, fun _ _ => rfl, fun id b hn hb => ?_, Nat.le_refl _, h3, fun b hb => ⟨h4 b hb, fun id hid => ?_⟩, h5⟩
  · rw [(hr.dom id hn).1] at hb; cases hb
  · rcases h4 b hb with h6 | h6
    · exact hB b h6 id hid
    · have := hr.lt id b hid; omega

/-- A value without anything owned; the world as it was. -/
theorem FinH.same {n0 Bs r v} (hw : Wd C w) (hr : HR C φ w h) (hv : VT C φ r v) (hs : r.share = r) : FinH n0 C φ w h Bs r v w h := by
  have hb : blks r v = [] := by rw [← hs]; exact blks_share r v
  refine ⟨C, φ, hv, .refl hw, hr, fun _ _ => rfl, fun id b hn hb => ?_, Nat.le_refl _, by rw [← hs]; exact ownP_share C w n0 r v, by simp [hb], by simp [hb]⟩
  rw [(hr.dom id hn).1] at hb; cases hb

/-- Given: operands with references. -/
structure ArgsH (n0 : Nat) (C : Pub) (φ : Phi) (w : World) (h : Hp) (xs : List AV) (vs : List Value) : Prop where
  wd : Wd C w
  hr : HR C φ w h
  base : n0 ≤ w.heap.size
  vt : VTs C φ xs vs
  own : ∀ (i : Nat) x v, xs[i]? = some x → vs[i]? = some v → ownP C w n0 x v
  nodup : (blksL xs vs).Nodup
  apart : ∀ b ∈ blksL xs vs, ∀ id, φ id ≠ some b
  gl : Gl C

theorem ArgsH.args {n0 xs vs} (a : ArgsH n0 C φ w h xs vs) (hp : xs.all AV.pu = true) : Args n0 C w xs vs := ⟨a.wd, a.base, a.vt.toVRs hp, a.own, a.nodup, a.gl⟩
theorem ArgsH.one {n0 x vs} (a : ArgsH n0 C φ w h [x] vs) : ∃ v, vs = [v] ∧ VT C φ x v := by
  obtain ⟨v, vs', rfl, h1, h2⟩ := a.vt.cons_inv
  cases h2.nil_inv
  exact ⟨v, rfl, h1⟩
theorem ArgsH.two {n0 x y vs} (a : ArgsH n0 C φ w h [x, y] vs) : ∃ v u, vs = [v, u] ∧ VT C φ x v ∧ VT C φ y u := by
  obtain ⟨v, vs', rfl, h1, h2⟩ := a.vt.cons_inv
  obtain ⟨u, vs', rfl, h3, h4⟩ := h2.cons_inv
  cases h4.nil_inv
  exact ⟨v, u, rfl, h1, h3⟩

/-- A new object. -/
theorem FinH.new {n0 Bs} {cs : List AV} {us : List Value} (hw : Wd C w) (hr : HR C φ w h) (hv : VTs C φ cs us) (hok : ∀ c ∈ cs, c.cellOk h.nx = true ∧ c.share1 = c) (e : TypeId) {r : AV} {v : Value}
    (hvt : ∀ φ' : Phi, φ' h.nx = some w.heap.size → VT C φ' r v) (hs : r.share = r) : FinH n0 C φ w h Bs r v (w.alloc (.cells us.toArray e)) (h.new cs) := by
  have hb : blks r v = [] := by rw [← hs]; exact blks_share r v
  have hφ : ∀ id b, φ id = some b → (fun i => if i = h.nx then some w.heap.size else φ i) id = some b := by
    intro id b hid
    have : id ≠ h.nx := fun he => by rw [he, (hr.dom h.nx (Nat.le_refl _)).1] at hid; cases hid
    simp [this, hid]
  have hext : Ext Bs C w C (w.alloc (.cells us.toArray e)) := by
    refine ⟨rfl, rfl, rfl, by simp, fun b hb _ => ⟨Below.heap_alloc w _ b hb, fun o => rfl⟩, fun b o v hC => hC, ?_⟩
    intro b o v hC
    have hb : b ≠ w.heap.size := fun hb => by have := hw.fresh (b := b) (by omega) o; rw [hC] at this; cases this
    rw [World.cell?_alloc_old _ _ _ (by simpa using hb)]; exact hw b o v hC
  refine ⟨C, fun i => if i = h.nx then some w.heap.size else φ i, hvt _ (by simp), hext.more (fun b hb => List.mem_append_left _ hb), ⟨fun id hid => ?_, fun id b hid => ?_, fun id id' b h1 h2 => ?_, fun id cs' hcs => ?_⟩, fun id hid => ?_, fun id b hid hb => ?_, by simp [Hp.new], by rw [← hs]; exact ownP_share C _ n0 r v, by simp [hb], by simp [hb]⟩
  · have hlt : h.nx + 1 ≤ id := hid
    have hne : id ≠ h.nx := by omega
    simp only [Hp.new, hne, if_false]
    exact hr.dom id (by omega)
  · by_cases hne : id = h.nx
    · simp only [hne, if_true, Option.some.injEq] at hid; subst hid; simp
    · simp only [hne, if_false] at hid
      have := hr.lt id b hid
      simp; omega
  · by_cases hne : id = h.nx <;> by_cases hne' : id' = h.nx
    · rw [hne, hne']
    · simp only [hne, if_true, hne', if_false, Option.some.injEq] at h1 h2
      have := hr.lt id' b h2; omega
    · simp only [hne, if_false, hne', if_true, Option.some.injEq] at h1 h2
      have := hr.lt id b h1; omega
    · simp only [hne, if_false, hne'] at h1 h2
      exact hr.inj id id' b h1 h2
  · by_cases hne : id = h.nx
    · simp only [Hp.new, hne, if_true, Option.some.injEq] at hcs
      subst hcs
      refine ⟨w.heap.size, us.toArray, e, by simp [hne], heap_alloc_new w _, fun o => hw.fresh (Nat.le_refl _) o, by simpa using hv.mono (fun _ _ _ h => h) hφ, fun c hc => by rw [hne]; exact hok c hc⟩
    · simp only [Hp.new, hne, if_false] at hcs
      obtain ⟨b, vs, el, h1, h2, h3, h4, h5⟩ := hr.obj id cs' hcs
      exact ⟨b, vs, el, hφ _ _ h1, by rw [Below.heap_alloc w _ b (hr.lt id b h1)]; exact h2, h3, h4.mono (fun _ _ _ h => h) hφ, h5⟩
  · have : id ≠ h.nx := by omega
    simp [this]
  · by_cases hne : id = h.nx
    · simp only [hne, if_true, Option.some.injEq] at hb; omega
    · simp only [hne, if_false] at hb
      rw [(hr.dom id hid).1] at hb; cases hb

/-- An object turned. -/
theorem HR.set (hw : Wd C w) (hr : HR C φ w h) {id b : Nat} {cs cs' : List AV} {vs vs' : Array Value} {el : TypeId} (hm : h.m id = some cs) (hb : φ id = some b) (hg : w.heap[b]? = some (.cells vs el (0, 0))) (hC : ∀ o, C b o = none)
    (hv : VTs C φ cs' vs'.toList) (hok : ∀ c ∈ cs', c.cellOk id = true ∧ c.share1 = c) : Ext [b] C w C (w.setRow b vs') ∧ HR C φ (w.setRow b vs') (h.set id cs') := by
  have hlt := hr.lt id b hb
  have hsz : (w.setRow b vs').heap.size = w.heap.size := by simp
  have hsame : (w.setRow b vs').heap[b]? = some (.cells vs' el (0, 0)) := by
    simp [World.setRow, hg, Array.getElem?_modify]
  refine ⟨⟨rfl, rfl, rfl, by simp, fun b' hb' hnb => ?_, fun b o v hC => hC, fun b' o v hC' => ?_⟩, ⟨fun i hi => ?_, fun i b' hi => by rw [hsz]; exact hr.lt i b' hi, hr.inj, fun i cs'' hcs => ?_⟩⟩
  · have hne : b' ≠ b := fun he => by subst he; exact hnb (by simp)
    exact ⟨setRow_other w b b' _ hne, fun o => rfl⟩
  · have hne : b' ≠ b := fun he => by subst he; rw [hC o] at hC'; cases hC'
    rw [cell_setRow_other w b _ _ (by simpa using hne)]; exact hw b' o v hC'
  · refine ⟨(hr.dom i hi).1, ?_⟩
    have hne : i ≠ id := fun he => by subst he; rw [(hr.dom i hi).2] at hm; cases hm
    simp only [Hp.set, if_neg hne]; exact (hr.dom i hi).2
  · by_cases hne : i = id
    · subst hne
      simp only [Hp.set, if_true, hm, Option.map_some, Option.some.injEq] at hcs
      subst hcs
      exact ⟨b, vs', el, hb, hsame, hC, hv, hok⟩
    · simp only [Hp.set, hne, if_false] at hcs
      obtain ⟨b', vs'', el', h1, h2, h3, h4, h5⟩ := hr.obj i cs'' hcs
      have hbb : b' ≠ b := fun he => hne (hr.inj i id b (by rw [← he]; exact h1) hb)
      exact ⟨b', vs'', el', h1, by rw [setRow_other w b b' _ hbb]; exact h2, h3, h4, h5⟩

end
end Go.Vm
