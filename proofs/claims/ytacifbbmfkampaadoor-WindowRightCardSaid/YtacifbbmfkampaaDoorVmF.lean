/- Operations, continued: structs, pointers, interfaces, slices, strings. -/
import Derived.Test.YtacifbbmfkampaaDoorVmE
namespace Go.Vm
open Go.RowKit
set_option linter.unusedVariables false
set_option linter.unusedSimpArgs false
set_option linter.unusedSectionVars false
variable [Glob]

section
variable {P : Program} {n0 : Nat} {C : Pub} {w : World} {vals : List AV} {vs : List Value} {r : AV} {Bs : List Nat}

-- ------------------------------------------------------------ nil
def isIfcB (P : Program) (t : TypeId) : Bool := match P.underlying t with | some (.interface _) => true | _ => false
def isPtrB (P : Program) (t : TypeId) : Bool := match P.underlying t with | some (.pointer _) => true | _ => false
def isFunB (P : Program) (t : TypeId) : Bool := match P.underlying t with | some (.func _ _ _) => true | _ => false
def isNilC : Operand → Bool | .const .nilIface | .const (.pointer none) | .const .nilFunc => true | _ => false

theorem run_eqGuard_nilI (op : BinOp) (t : TypeId) (x y : Operand) (a b : Value) (hc : (x matches .const _) = true ∨ (y matches .const _) = true) (ha : ¬ ∃ cs, a = .agg cs) : (eqGuard op t x y a b).run P w = .ok () w := by
  unfold eqGuard
  cases op
  case eql =>
    cases a <;> first | rfl | exact absurd ⟨_, rfl⟩ ha | skip
    cases b <;> first | rfl | skip
    rcases hc with hc | hc
    · cases x <;> simp at hc <;> rfl
    · cases y <;> simp at hc; cases x <;> rfl
  case neq =>
    cases a <;> first | rfl | exact absurd ⟨_, rfl⟩ ha | skip
    cases b <;> first | rfl | skip
    rcases hc with hc | hc
    · cases x <;> simp at hc <;> rfl
    · cases y <;> simp at hc; cases x <;> rfl
  all_goals rfl

theorem run_equalIn_ifc (d : Nat) {t : TypeId} (ht : isIfcB P t = true) (u : TypeId) (x : Value) :
    (Op.equalIn (d + 1) t (.iface u x) .nilIface).run P w = .ok false w ∧ (Op.equalIn (d + 1) t .nilIface (.iface u x)).run P w = .ok false w ∧ (Op.equalIn (d + 1) t .nilIface .nilIface).run P w = .ok true w := by
  unfold isIfcB at ht
  split at ht <;> simp at ht
  rename_i ms hu
  simp only [Op.equalIn, Sem.run_bind, run_underlying hu, Result.andThen_ok, Sem.run_pure, and_self]
theorem run_equalIn_ptr (d : Nat) {t : TypeId} (ht : isPtrB P t = true) (a : Addr) :
    (Op.equalIn (d + 1) t (.pointer (some a)) (.pointer none)).run P w = .ok false w ∧ (Op.equalIn (d + 1) t (.pointer none) (.pointer (some a))).run P w = .ok false w ∧ (Op.equalIn (d + 1) t (.pointer none) (.pointer none)).run P w = .ok true w := by
  unfold isPtrB at ht
  split at ht <;> simp at ht
  rename_i ms hu
  simp only [Op.equalIn, Sem.run_bind, run_underlying hu, Result.andThen_ok, Sem.run_pure, Option.isNone_some, Option.isNone_none, and_self]
theorem run_equalIn_fun (d : Nat) {t : TypeId} (ht : isFunB P t = true) (f : Fn) (x y : Array Value) :
    (Op.equalIn (d + 1) t (.func f x y) .nilFunc).run P w = .ok false w ∧ (Op.equalIn (d + 1) t .nilFunc (.func f x y)).run P w = .ok false w ∧ (Op.equalIn (d + 1) t .nilFunc .nilFunc).run P w = .ok true w := by
  unfold isFunB at ht
  split at ht <;> simp at ht
  rename_i hu
  simp only [Op.equalIn, Sem.run_bind, run_underlying hu, Result.andThen_ok, Sem.run_pure, and_self]

/-- '==' and '!=' out of 'Op.equal'. -/
theorem run_eqNeq (n : Bool) (t : TypeId) (x y : Operand) (a b : Value) (c : Bool) (hg : (eqGuard (if n then .neq else .eql) t x y a b).run P w = .ok () w) (he : (Op.equal t a b).run P w = .ok c w)
    (hk : (a matches .int _ _) = false ∧ (a matches .float _ _) = false ∧ (a matches .complex _ _ _) = false ∧ (a matches .string _) = false) :
    (do eqGuard (if n then .neq else .eql) t x y a b; binOp (if n then .neq else .eql) t a b : Sem Value).run P w = .ok (.bool (if n then !c else c)) w := by
  simp only [Sem.run_bind, hg, Result.andThen_ok]
  cases n
  · cases a <;> simp_all [binOp]
  · cases a <;> simp_all [binOp]

theorem VR.neg {n b : Bool} : VR C (neg n b) (.bool (if n then !b else b)) := .bool _
theorem neg_share (n b : Bool) : (neg n b).share = neg n b := rfl

theorem sim_nilI (n : Bool) {t : TypeId} (ht : isIfcB P t = true) (x y : Operand) (h : Args n0 C w vals vs) (hr : sNilI n vals = some r) (hc : (x matches .const _) = true ∨ (y matches .const _) = true) :
    ∃ a, vs = [a] ∧ (∃ v, (do eqGuard (if n then .neq else .eql) t x y a .nilIface; binOp (if n then .neq else .eql) t a .nilIface : Sem Value).run P w = .ok v w ∧ Fin n0 C w Bs r v w) ∧
      (∃ v, (do eqGuard (if n then .neq else .eql) t x y .nilIface a; binOp (if n then .neq else .eql) t .nilIface a : Sem Value).run P w = .ok v w ∧ Fin n0 C w Bs r v w) := by
  unfold sNilI at hr
  split at hr <;> simp at hr <;> subst hr <;> obtain ⟨a, rfl, h1, _, _⟩ := h.one <;> cases h1 <;> refine ⟨_, rfl, ⟨_, ?_, Fin.shared h.wd VR.neg rfl⟩, ⟨_, ?_, Fin.shared h.wd VR.neg rfl⟩⟩
  · exact run_eqNeq n t x y _ _ _ (run_eqGuard_nilI _ _ _ _ _ _ hc (by simp)) (run_equalIn_ifc 9999 ht 0 .nilIface).2.2 (by simp)
  · exact run_eqNeq n t x y _ _ _ (run_eqGuard_nilI _ _ _ _ _ _ hc (by simp)) (run_equalIn_ifc 9999 ht 0 .nilIface).2.2 (by simp)
  · exact run_eqNeq n t x y _ _ _ (run_eqGuard_nilI _ _ _ _ _ _ hc (by simp)) (run_equalIn_ifc 9999 ht _ _).1 (by simp)
  · exact run_eqNeq n t x y _ _ _ (run_eqGuard_nilI _ _ _ _ _ _ hc (by simp)) (run_equalIn_ifc 9999 ht _ _).2.1 (by simp)
theorem sim_nilP (n : Bool) {t : TypeId} (ht : isPtrB P t = true) (x y : Operand) (h : Args n0 C w vals vs) (hr : sNilP n vals = some r) (hc : (x matches .const _) = true ∨ (y matches .const _) = true) :
    ∃ a, vs = [a] ∧ (∃ v, (do eqGuard (if n then .neq else .eql) t x y a (.pointer none); binOp (if n then .neq else .eql) t a (.pointer none) : Sem Value).run P w = .ok v w ∧ Fin n0 C w Bs r v w) ∧
      (∃ v, (do eqGuard (if n then .neq else .eql) t x y (.pointer none) a; binOp (if n then .neq else .eql) t (.pointer none) a : Sem Value).run P w = .ok v w ∧ Fin n0 C w Bs r v w) := by
  unfold sNilP at hr
  split at hr <;> simp at hr <;> subst hr <;> obtain ⟨a, rfl, h1, _, _⟩ := h.one <;> cases h1 <;> refine ⟨_, rfl, ⟨_, ?_, Fin.shared h.wd VR.neg rfl⟩, ⟨_, ?_, Fin.shared h.wd VR.neg rfl⟩⟩
  · exact run_eqNeq n t x y _ _ _ (run_eqGuard_nilI _ _ _ _ _ _ hc (by simp)) (run_equalIn_ptr 9999 ht ⟨0, 0, none⟩).2.2 (by simp)
  · exact run_eqNeq n t x y _ _ _ (run_eqGuard_nilI _ _ _ _ _ _ hc (by simp)) (run_equalIn_ptr 9999 ht ⟨0, 0, none⟩).2.2 (by simp)
  · exact run_eqNeq n t x y _ _ _ (run_eqGuard_nilI _ _ _ _ _ _ hc (by simp)) (run_equalIn_ptr 9999 ht _).1 (by simp)
  · exact run_eqNeq n t x y _ _ _ (run_eqGuard_nilI _ _ _ _ _ _ hc (by simp)) (run_equalIn_ptr 9999 ht _).2.1 (by simp)
theorem sim_nilF (n : Bool) {t : TypeId} (ht : isFunB P t = true) (x y : Operand) (h : Args n0 C w vals vs) (hr : sNilF n vals = some r) (hc : (x matches .const _) = true ∨ (y matches .const _) = true) :
    ∃ a, vs = [a] ∧ (∃ v, (do eqGuard (if n then .neq else .eql) t x y a .nilFunc; binOp (if n then .neq else .eql) t a .nilFunc : Sem Value).run P w = .ok v w ∧ Fin n0 C w Bs r v w) ∧
      (∃ v, (do eqGuard (if n then .neq else .eql) t x y .nilFunc a; binOp (if n then .neq else .eql) t .nilFunc a : Sem Value).run P w = .ok v w ∧ Fin n0 C w Bs r v w) := by
  unfold sNilF at hr
  split at hr <;> simp at hr <;> subst hr <;> obtain ⟨a, rfl, h1, _, _⟩ := h.one <;> cases h1 <;> refine ⟨_, rfl, ⟨_, ?_, Fin.shared h.wd VR.neg rfl⟩, ⟨_, ?_, Fin.shared h.wd VR.neg rfl⟩⟩
  · exact run_eqNeq n t x y _ _ _ (run_eqGuard_nilI _ _ _ _ _ _ hc (by simp)) (run_equalIn_fun 9999 ht (.func 0) #[] #[]).2.2 (by simp)
  · exact run_eqNeq n t x y _ _ _ (run_eqGuard_nilI _ _ _ _ _ _ hc (by simp)) (run_equalIn_fun 9999 ht (.func 0) #[] #[]).2.2 (by simp)
  · exact run_eqNeq n t x y _ _ _ (run_eqGuard_nilI _ _ _ _ _ _ hc (by simp)) (run_equalIn_fun 9999 ht _ _ _).1 (by simp)
  · exact run_eqNeq n t x y _ _ _ (run_eqGuard_nilI _ _ _ _ _ _ hc (by simp)) (run_equalIn_fun 9999 ht _ _ _).2.1 (by simp)

/-- '==' of structs, as a law that is owed type by type. -/
def tgT (P : Program) (t : TypeId) : Nat := match P.underlying t with | some (.int _) => 0 | some .bool => 1 | some .string => 2 | _ => 4
def shapeB (P : Program) (t : TypeId) : Option (List Nat) := match P.underlying t with
  | some (.struct fs) => some (fs.toList.map fun f => tgT P f.type)
  | _ => none
def EqLaw (P : Program) (t : TypeId) : Prop :=
  ∀ (n : Bool) (xs ys : List AV) (us vs : List Value) (C : Pub) (w : World) (b : Bool) (x y : Operand), shapeB P t = some (xs.map AV.tg) → VRs C xs us → VRs C ys vs → sameL xs ys = some b →
    (do eqGuard (if n then .neq else .eql) t x y (.agg us.toArray) (.agg vs.toArray); binOp (if n then .neq else .eql) t (.agg us.toArray) (.agg vs.toArray) : Sem Value).run P w = .ok (.bool (if n then !b else b)) w
theorem sim_eqs (n : Bool) {t : TypeId} {sh : List Nat} (ht : EqLaw P t) (hsh : shapeB P t = some sh) (x y : Operand) (h : Args n0 C w vals vs) (hr : sEqs sh n vals = some r) :
    ∃ a b, vs = [a, b] ∧ ∃ v, (do eqGuard (if n then .neq else .eql) t x y a b; binOp (if n then .neq else .eql) t a b : Sem Value).run P w = .ok v w ∧ Fin n0 C w Bs r v w := by
  unfold sEqs at hr
  split at hr <;> try (simp at hr; done)
  split at hr <;> try (simp at hr; done)
  rename_i hmap
  subst hmap
  split at hr <;> simp at hr
  rename_i b hs
  obtain ⟨a, c, rfl, h1, h2⟩ := h.two
  obtain ⟨us, rfl, k1⟩ := h1.agg_inv
  obtain ⟨ws, rfl, k2⟩ := h2.agg_inv
  subst hr
  exact ⟨_, _, rfl, _, ht n _ _ us ws C w b x y hsh k1 k2 hs, Fin.shared h.wd VR.neg rfl⟩

-- ------------------------------------------------------------ one operand
theorem sim_not (h : Args n0 C w vals vs) (hr : sNot vals = some r) : ∃ a, vs = [a] ∧ ∃ v, (Op.unary .not a).run P w = .ok v w ∧ Fin n0 C w Bs r v w := by
  unfold sNot at hr
  split at hr <;> simp at hr
  obtain ⟨a, rfl, h1, _, _⟩ := h.one
  cases h1; subst hr
  exact ⟨_, rfl, _, rfl, Fin.shared h.wd (.bool _) rfl⟩
theorem sim_neg (h : Args n0 C w vals vs) (hr : sNeg vals = some r) : ∃ a, vs = [a] ∧ ∃ v, (Op.unary .neg a).run P w = .ok v w ∧ Fin n0 C w Bs r v w := by
  unfold sNeg at hr
  split at hr <;> simp only [Option.some.injEq, reduceCtorEq] at hr
  obtain ⟨a, rfl, h1, _, _⟩ := h.one
  cases h1; subst hr
  exact ⟨_, rfl, _, rfl, Fin.shared h.wd (.int _ _) rfl⟩
theorem sim_xor (h : Args n0 C w vals vs) (hr : sXor vals = some r) : ∃ a, vs = [a] ∧ ∃ v, (Op.unary .xor a).run P w = .ok v w ∧ Fin n0 C w Bs r v w := by
  unfold sXor at hr
  split at hr <;> simp only [Option.some.injEq, reduceCtorEq] at hr
  obtain ⟨a, rfl, h1, _, _⟩ := h.one
  cases h1; subst hr
  exact ⟨_, rfl, _, rfl, Fin.shared h.wd (.int _ _) rfl⟩
theorem sim_conv {s t : TypeId} {d : TypeDesc} {k : IntKind} (hs : P.underlying s = some d) (ht : P.underlying t = some (.int k)) (h : Args n0 C w vals vs) (hr : sConv k vals = some r) :
    ∃ a, vs = [a] ∧ ∃ v, (convert s t a).run P w = .ok v w ∧ Fin n0 C w Bs r v w := by
  unfold sConv at hr
  split at hr <;> simp at hr
  obtain ⟨a, rfl, h1, _, _⟩ := h.one
  cases h1; subst hr
  refine ⟨_, rfl, _, ?_, Fin.shared h.wd (.int _ _) rfl⟩
  simp only [convert, Sem.run_bind, run_underlying hs, run_underlying ht, Result.andThen_ok]
  cases d <;> rfl
theorem sim_convS {s t : TypeId} (hs : P.underlying s = some .string) (ht : P.underlying t = some .string) (h : Args n0 C w vals vs) (hr : sConvS vals = some r) :
    ∃ a, vs = [a] ∧ ∃ v, (convert s t a).run P w = .ok v w ∧ Fin n0 C w Bs r v w := by
  unfold sConvS at hr
  split at hr <;> simp at hr
  obtain ⟨a, rfl, h1, _, _⟩ := h.one
  cases h1; subst hr
  refine ⟨_, rfl, _, ?_, Fin.shared h.wd (.str _) rfl⟩
  simp only [convert, Sem.run_bind, run_underlying hs, run_underlying ht, Result.andThen_ok]
  rfl
theorem sim_mkI {t : TypeId} (ht : P.concrete t = true) (h : Args n0 C w vals vs) (hr : sMkI t vals = some r) : ∃ a, vs = [a] ∧ ∃ v, (Instr.makeInterface t a).run P w = .ok v w ∧ Fin n0 C w Bs r v w := by
  unfold sMkI at hr
  split at hr <;> simp at hr
  obtain ⟨a, rfl, h1, _, _⟩ := h.one
  subst hr
  exact ⟨_, rfl, _, run_makeInterface w t a ht, Fin.shared h.wd (.ifc _ _ _ h1.share) rfl⟩
theorem sim_mkF {f : FuncId} (h : Args n0 C w vals vs) (hr : sMkF f vals = some r) : ∃ v, (Instr.makeFunc (.func f) #[] vs.toArray).run P w = .ok v w ∧ Fin n0 C w Bs r v w := by
  unfold sMkF at hr
  simp at hr
  subst hr
  exact ⟨_, rfl, Fin.shared h.wd (VR.fn_mk (h.vr.map fun _ _ => VR.share)) rfl⟩
theorem blk1_nodup (x : AV) (v : Value) : (blk1 x v).Nodup := by
  unfold blk1
  split
  · cases v.ownBlock <;> simp
  · simp
  · simp
theorem sim_ext (i : Nat) (h : Args n0 C w vals vs) (hr : sExt i vals = some r) : ∃ a, vs = [a] ∧ ∃ v, (Instr.extract a i).run P w = .ok v w ∧ Fin n0 C w (blksL vals vs) r v w := by
  unfold sExt at hr
  split at hr <;> try (simp at hr; done)
  rename_i xs
  split at hr <;> simp at hr
  rename_i r' hr'
  obtain ⟨ht, rfl⟩ := hr
  obtain ⟨a, rfl, h1, h2, h3⟩ := h.one
  obtain ⟨us, rfl, k1⟩ := h1.tup_inv
  obtain ⟨u, hu, hvr⟩ := k1.get hr'
  refine ⟨_, rfl, u, ?_, ?_⟩
  · simp only [Instr.extract, List.getElem?_toArray, hu]; rfl
  · have hm : (r', u) ∈ comps (.tup xs) (.tuple us.toArray) := by
      simp only [comps, List.mem_iff_getElem?]
      exact ⟨i, by simp [List.getElem?_zip_eq_some, hr', hu]⟩
    have ho := h2 _ hm
    have hc : comps r' u = [(r', u)] := by cases r' <;> first | rfl | simp [AV.isTup] at ht
    refine ⟨C, hvr, .refl h.wd, fun p hp => ?_, fun b hb => .inl ?_, ?_⟩
    · rw [hc] at hp; obtain rfl := List.mem_singleton.1 hp; exact ho
    · unfold blks at hb; rw [hc] at hb
      have hb' : b ∈ blk1 r' u := by simpa using hb
      have : b ∈ blks (.tup xs) (.tuple us.toArray) := List.mem_flatMap.2 ⟨_, hm, hb'⟩
      simpa [blksL] using this
    · have e : blks r' u = blk1 r' u := by unfold blks; rw [hc]; simp
      rw [e]
      exact blk1_nodup r' u

end
end Go.Vm
