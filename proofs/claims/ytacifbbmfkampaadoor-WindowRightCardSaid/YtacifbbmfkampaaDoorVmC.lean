/- Operations: when one of the model's is one of the abstract machine's. -/
import Derived.Test.YtacifbbmfkampaaDoorVmB
import Derived.WideLaws
import Derived.WalkLawsBesides
import Derived.Laws.Build
namespace Go.Vm
open Go.RowKit
set_option linter.unusedVariables false
set_option linter.unusedSimpArgs false
set_option linter.unusedSectionVars false
variable [Glob]

/-- A constant's value. -/
def constV : AV → Value → Bool
  | .int k n, .int k' n' => k == k' && n == n'
  | .bool b, .bool b' => b == b'
  | .str s, .string b => s == b.data.toList
  | .nilp, .pointer none => true
  | .sl _ _ [], .slice none 0 0 => true
  | .nili, .nilIface => true
  | .nilf, .nilFunc => true
  | .tup [], .tuple vs => vs.isEmpty
  | _, _ => false
def constVs : List AV → List Value → Bool
  | [], [] => true
  | x :: xs, v :: vs => constV x v && constVs xs vs
  | _, _ => false
def constW : AV → Value → Bool
  | .agg cs, .agg vs => constVs cs vs.toList
  | x, v => constV x v
theorem constV_sound {C : Pub} {x v} (h : constV x v = true) : VR C x v := by
  unfold constV at h
  split at h <;> simp at h
  · obtain ⟨rfl, rfl⟩ := h; exact .int _ _
  · subst h; exact .bool _
  · subst h; exact .str _
  · exact .nilp
  · exact .slnil _ _
  · exact .nili
  · exact .nilf
  · subst h; exact VR.tup_mk VRs.nil
theorem constVs_sound {C : Pub} {xs vs} (h : constVs xs vs = true) : VRs C xs vs := by
  induction xs generalizing vs with
  | nil => cases vs <;> simp [constVs] at h; exact VRs.nil
  | cons x xs ih => cases vs <;> simp [constVs] at h; exact VRs.cons (constV_sound h.1) (ih h.2)
theorem constW_sound {C : Pub} {x v} (h : constW x v = true) : VR C x v := by
  unfold constW at h
  split at h
  · exact VR.agg_mk (constVs_sound h)
  · exact constV_sound h
theorem constVs_leaf {xs vs} (h : constVs xs vs = true) (hv : ∀ v ∈ vs, v.oneCell' = true) : xs.all AV.leaf = true := by
  induction xs generalizing vs with
  | nil => rfl
  | cons x xs ih =>
    cases vs <;> simp [constVs] at h
    rename_i v vs
    simp only [List.all_cons, Bool.and_eq_true]
    refine ⟨?_, ih h.2 fun u hu => hv u (by simp [hu])⟩
    have h1 := h.1
    have h2 := hv v (by simp)
    unfold constV at h1
    split at h1 <;> simp_all [AV.leaf, Value.oneCell']

def isSlice (P : Program) (t : TypeId) : Option TypeId := match P.underlying t with | some (.slice e) => some e | _ => none
def isStruct (P : Program) (t : TypeId) : Option (Array Field) := match P.underlying t with | some (.struct fs) => some fs | _ => none
def isAggB (P : Program) (t : TypeId) : Option Bool := match P.underlying t with | some (.struct _) | some (.array _ _) => some true | some _ => some false | none => none
def isIntB (P : Program) (t : TypeId) : Option IntKind := match P.underlying t with | some (.int k) => some k | _ => none
def isStrB (P : Program) (t : TypeId) : Bool := match P.underlying t with | some .string => true | _ => false
def isBoolB (P : Program) (t : TypeId) : Bool := match P.underlying t with | some .bool => true | _ => false
def sizeB (P : Program) (t : TypeId) : Option Nat := (P.info? t).map (·.size)
def bytesB (P : Program) (t : TypeId) : Option Nat := (P.info? t).map (·.bytes)
def zeroB (P : Program) (t : TypeId) : Option Value := (P.info? t).bind (·.zero)

theorem isSlice_spec {P t e} (h : isSlice P t = some e) : P.underlying t = some (.slice e) := by
  unfold isSlice at h; split at h <;> simp_all
theorem isStruct_spec {P t fs} (h : isStruct P t = some fs) : P.underlying t = some (.struct fs) := by
  unfold isStruct at h; split at h <;> simp_all
theorem isIntB_spec {P t k} (h : isIntB P t = some k) : P.underlying t = some (.int k) := by
  unfold isIntB at h; split at h <;> simp_all
theorem isStrB_spec {P t} (h : isStrB P t = true) : P.underlying t = some .string := by
  unfold isStrB at h; split at h <;> simp_all
theorem isBoolB_spec {P t} (h : isBoolB P t = true) : P.underlying t = some .bool := by
  unfold isBoolB at h; split at h <;> simp_all
theorem run_isAggB {P t b} (h : isAggB P t = some b) (w : World) : (isAgg t).run P w = .ok b w := by
  unfold isAggB at h
  cases hu : P.underlying t with
  | none => simp [hu] at h
  | some d =>
    rw [hu] at h
    simp only [isAgg, Sem.run_bind, run_underlying hu, Result.andThen_ok]
    cases d <;> simp_all
theorem run_sizeB {P t n} (h : sizeB P t = some n) (w : World) : (sizeOf t).run P w = .ok n w := by
  unfold sizeB at h
  cases hi : P.info? t with
  | none => simp [hi] at h
  | some i => simp [hi] at h; simp [sizeOf, typeInfo, hi, h]
theorem run_zeroB {P t z} (h : zeroB P t = some z) (w : World) : (zeroValue t).run P w = .ok z w := by
  unfold zeroB at h
  cases hi : P.info? t with
  | none => simp [hi] at h
  | some i => simp [hi] at h; simp [zeroValue, typeInfo, hi, h]
theorem info_of {P t n bts z} (h : sizeB P t = some n) (h2 : bytesB P t = some bts) (h3 : zeroB P t = some z) : ∃ i, P.info? t = some i ∧ i.size = n ∧ i.bytes = bts ∧ i.zero = some z := by
  unfold sizeB at h; unfold bytesB at h2; unfold zeroB at h3
  cases hi : P.info? t with
  | none => simp [hi] at h
  | some i => simp [hi] at h h2 h3; exact ⟨i, rfl, h, h2, h3⟩

/-- What an operation comes to: a value, or a call's. -/
def Res (P : Program) (R : Result Next) (post : Value → World → Prop) : Prop :=
  match R with
  | .ok (.value v) w => post v w
  | .ok .skip w => post undef w
  | .ok (.enter f args) w => Calls P f args w fun e w' => ∃ v, e = .returned v ∧ post v w'
  | _ => False

/-- The ending of an operation: its value, and how the world went on. -/
def Fin (n0 : Nat) (C : Pub) (w : World) (Bs : List Nat) (r : AV) (v : Value) (w' : World) : Prop :=
  ∃ C', VR C' r v ∧ Ext Bs C w C' w' ∧ ownP C' w' n0 r v ∧ (∀ b ∈ blks r v, b ∈ Bs ∨ w.heap.size ≤ b) ∧ (blks r v).Nodup

/-- A value without anything owned, the world as it was. -/
theorem Fin.same {n0 C w Bs r v} (hw : Wd C w) (h : VR C r v) (ho : ∀ p ∈ comps r v, ∃ y : AV, p.1 = y.share1) : Fin n0 C w Bs r v w := by
  have hb : blks r v = [] := by
    unfold blks; rw [List.flatMap_eq_nil_iff]; intro p hp; obtain ⟨y, hy⟩ := ho p hp; rw [hy, blk1_share1]
  exact ⟨C, h, .refl hw, fun p hp => by obtain ⟨y, hy⟩ := ho p hp; rw [hy]; exact own1_share1 .., by simp [hb], by simp [hb]⟩
theorem Fin.shared {n0 C w Bs v} {r : AV} (hw : Wd C w) (h : VR C r v) (hs : r.share = r) : Fin n0 C w Bs r v w :=
  Fin.same hw h fun p hp => comps_share r v p (by rw [hs]; exact hp)

/-- What the operands own. -/
def blksL : List AV → List Value → List Nat
  | x :: xs, v :: vs => blks x v ++ blksL xs vs
  | _, _ => []

/-- The methods' names that have numbers. -/
def xnames : List String := ["Kind", "Elem", "Implements", "AssignableTo", "Unwrap", "As", "Error", "Is", "Comparable"]
/-- Which operations are given apart, by their numbers. -/
def xoG (f : Nat) (o : Oper) : Option (List Operand) :=
  match o.op with
  | .call { callee := .value (.func g), args, .. } => if @Eq Nat f (1000000 + g) ∧ @LT.lt Nat _ g 1000000 then some args.toList else none
  | .call { callee := .invoke r m, args, .. } => if 2000000 ≤ f ∧ f < 3000000 ∧ xnames[f - 2000000]? = some m then some (r :: args.toList) else none
  | .typeAssert x _ t ok => if @Eq Nat f (3000000 + 2 * t + ok.toNat) ∧ @LT.lt Nat _ t 500000 then some [x] else none
  | .load t (.global g) => if @Eq Nat f (4000000 + (g * 10000 + t)) ∧ @LT.lt Nat _ t 10000 then some [] else none
  | _ => none
def Gl (C : Pub) : Prop := ∀ b o v, Glob.g b o = some v → C b o = some v
theorem Gl.mono {C C' : Pub} (h : Gl C) (hC : ∀ b o v, C b o = some v → C' b o = some v) : Gl C' := fun b o v hv => hC b o v (h b o v hv)
/-- What is given to an operation. -/
structure Args (n0 : Nat) (C : Pub) (w : World) (xs : List AV) (vs : List Value) : Prop where
  wd : Wd C w
  base : n0 ≤ w.heap.size
  vr : VRs C xs vs
  own : ∀ (i : Nat) x v, xs[i]? = some x → vs[i]? = some v → ownP C w n0 x v
  nodup : (blksL xs vs).Nodup
  gl : Gl C

theorem Args.one {n0 C w x vs} (h : Args n0 C w [x] vs) : ∃ v, vs = [v] ∧ VR C x v ∧ ownP C w n0 x v ∧ (blks x v).Nodup := by
  obtain ⟨v, vs', rfl, h1, h2⟩ := h.vr.cons_inv
  cases h2.nil_inv
  exact ⟨v, rfl, h1, h.own 0 x v rfl rfl, by simpa [blksL] using h.nodup⟩
theorem Args.two {n0 C w x y vs} (h : Args n0 C w [x, y] vs) : ∃ v u, vs = [v, u] ∧ VR C x v ∧ VR C y u := by
  obtain ⟨v, vs', rfl, h1, h2⟩ := h.vr.cons_inv
  obtain ⟨u, vs', rfl, h3, h4⟩ := h2.cons_inv
  cases h4.nil_inv
  exact ⟨v, u, rfl, h1, h3⟩
theorem Args.three {n0 C w x y z vs} (h : Args n0 C w [x, y, z] vs) : ∃ v u t, vs = [v, u, t] ∧ VR C x v ∧ VR C y u ∧ VR C z t := by
  obtain ⟨v, vs', rfl, h1, h2⟩ := h.vr.cons_inv
  obtain ⟨u, vs', rfl, h3, h4⟩ := h2.cons_inv
  obtain ⟨t, vs', rfl, h5, h6⟩ := h4.cons_inv
  cases h6.nil_inv
  exact ⟨v, u, t, rfl, h1, h3, h5⟩

theorem Fin.mv {n0 C w x vs} (h : Args n0 C w [x] vs) {Bs} (hB : Bs = blksL [x] vs) : ∃ v, vs = [v] ∧ Fin n0 C w Bs x v w := by
  obtain ⟨v, rfl, h1, h2, h3⟩ := h.one
  exact ⟨v, rfl, C, h1, .refl h.wd, h2, fun b hb => .inl (by subst hB; simpa [blksL] using hb), h3⟩

end Go.Vm
