/- The shapes of a row's arguments. -/
import Derived.Test.YtacifbbmfkampaaDoorVmZ
namespace Go.Vm
open Go.RowKit Go.ChangeShapes Go.WideShapes
set_option linter.unusedVariables false
set_option linter.unusedSimpArgs false
set_option linter.unusedSectionVars false
variable [Glob]

/-- The shape of a row of cells. -/
inductive Sh where
  | nil
  | int (k : IntKind) (r : Sh)
  | bool (r : Sh)
  | str (r : Sh)
  | sl (k : Nat) (agg : Bool) (e r : Sh)
def Sh.app : Sh → Sh → Sh
  | .nil, s => s
  | .int k r, s => .int k (r.app s)
  | .bool r, s => .bool (r.app s)
  | .str r, s => .str (r.app s)
  | .sl k a e r, s => .sl k a e (r.app s)
def ShOk : Sh → List AV → Prop
  | .nil, xs => xs = []
  | .int k r, xs => ∃ m xs', xs = .int k m :: xs' ∧ (Lit.int k m).wf = true ∧ ShOk r xs'
  | .bool r, xs => ∃ b xs', xs = .bool b :: xs' ∧ ShOk r xs'
  | .str r, xs => ∃ s xs', xs = .str s :: xs' ∧ s.length ≤ maxLen ∧ ShOk r xs'
  | .sl k agg e r, xs => ∃ l xs', xs = .sl false k l :: xs' ∧ l.length ≤ maxLen ∧ (∀ y ∈ l, ∃ ys, ShOk e ys ∧ y = if agg then .agg ys else ys.headD .undef) ∧ ShOk r xs'
theorem ShOk.app : ∀ {s t : Sh} {xs ys : List AV}, ShOk s xs → ShOk t ys → ShOk (s.app t) (xs ++ ys)
  | .nil, t, xs, ys, h, k => by cases h; exact k
  | .int q r, t, xs, ys, h, k => by obtain ⟨m, xs', rfl, h1, h2⟩ := h; exact ⟨m, _, rfl, h1, ShOk.app h2 k⟩
  | .bool r, t, xs, ys, h, k => by obtain ⟨m, xs', rfl, h2⟩ := h; exact ⟨m, _, rfl, ShOk.app h2 k⟩
  | .str r, t, xs, ys, h, k => by obtain ⟨m, xs', rfl, h1, h2⟩ := h; exact ⟨m, _, rfl, h1, ShOk.app h2 k⟩
  | .sl a b e r, t, xs, ys, h, k => by obtain ⟨m, xs', rfl, h1, h3, h2⟩ := h; exact ⟨m, _, rfl, h1, h3, ShOk.app h2 k⟩

def appF (f : Field → Option Sh) : List Field → Option Sh
  | [] => some .nil
  | g :: gs => match f g, appF f gs with | some s, some t => some (s.app t) | _, _ => none
def shT (P : Program) : Nat → TypeId → Option Sh
  | 0, _ => none
  | n + 1, t => match P.underlying t with
    | some .bool => some (.bool .nil)
    | some (.int k) => some (.int k .nil)
    | some .string => some (.str .nil)
    | some (.slice e) => match shT P n e with | some s => some (.sl (P.cellsOf e) ((isAggB P e).getD false) s .nil) | none => none
    | some (.struct fs) => if tileB P 0 fs.toList = some (P.cellsOf t) then appF (fun f => shT P n f.type) fs.toList else none
    | _ => none

section
variable {P : Program}
theorem tile_le : ∀ {fs : List Field} {o z : Nat}, tileB P o fs = some z → o ≤ z
  | [], o, z, h => by simp [tileB] at h; omega
  | f :: fs, o, z, h => by
    simp only [tileB] at h
    split at h <;> try (simp at h; done)
    have := tile_le h; omega
theorem sh_fields {F : Field → Option Sh} {xs : List AV} : ∀ (fs : List Field) (o z : Nat) (s : Sh), tileB P o fs = some z → xs.length = z → appF F fs = some s →
    (∀ f ∈ fs, ∀ s, F f = some s → ShOk s ((xs.drop f.offset).take (P.cellsOf f.type))) → ShOk s (xs.drop o)
  | [], o, z, s, ht, hl, hs, _ => by
    simp [tileB] at ht; simp [appF] at hs; subst hs; subst ht
    show _ = _
    exact List.drop_of_length_le (by omega)
  | f :: fs, o, z, s, ht, hl, hs, h => by
    simp only [tileB] at ht
    split at ht <;> try (simp at ht; done)
    rename_i hfo
    simp only [appF] at hs
    split at hs <;> try (simp at hs; done)
    rename_i s1 s2 e1 e2
    simp only [Option.some.injEq] at hs; subst hs
    have h1 := h f (by simp) s1 e1
    have h2 := sh_fields fs _ z s2 ht hl e2 (fun g hg => h g (by simp [hg]))
    rw [hfo] at h1
    have := ShOk.app h1 h2
    rw [← List.drop_drop, List.take_append_drop] at this
    exact this
theorem ty_sh : ∀ (n : Nat) (t : TypeId) (s : Sh) (xs : List AV), shT P n t = some s → Ty P n t xs → ShOk s xs
  | 0, t, s, xs, h, _ => by simp [shT] at h
  | n + 1, t, s, xs, h, hy => by
    unfold shT at h
    unfold Ty at hy
    cases hu : P.underlying t with
    | none => rw [hu] at h; simp at h
    | some d =>
      rw [hu] at h hy
      cases d <;> simp only [reduceCtorEq] at h
      case bool => obtain ⟨b, rfl⟩ := hy; simp only [Option.some.injEq] at h; subst h; exact ⟨b, [], rfl, rfl⟩
      case int k => obtain ⟨b, rfl, hw⟩ := hy; simp only [Option.some.injEq] at h; subst h; exact ⟨b, [], rfl, hw, rfl⟩
      case string => obtain ⟨b, rfl, hw⟩ := hy; simp only [Option.some.injEq] at h; subst h; exact ⟨b, [], rfl, hw, rfl⟩
      case slice e =>
        split at h <;> try (simp at h; done)
        rename_i s' hs'
        simp only [Option.some.injEq] at h; subst h
        obtain ⟨yss, rfl, hl, hel⟩ := hy
        refine ⟨_, [], rfl, by simpa using hl, fun y hy => ?_, rfl⟩
        obtain ⟨ys, hys, rfl⟩ := List.mem_map.1 hy
        refine ⟨ys, ty_sh n e s' ys hs' (hel ys hys).2, ?_⟩
        unfold elemOf
        cases ha : isAggB P e with
        | none => simp
        | some b => cases b <;> simp
      case struct fs =>
        split at h <;> try (simp at h; done)
        rename_i htile
        obtain ⟨hl, hf⟩ := hy
        have := sh_fields (P := P) fs.toList 0 _ s htile hl h (fun f hfm s hs => ty_sh n f.type s _ hs (hf f hfm))
        simpa using this
theorem tyA_sh {n : Nat} {t : TypeId} {ts : List TypeId} {xs : List AV} {s : Sh} (hs : shT P n t = some s) (h : TyArgs P n (t :: ts) xs) :
    ∃ ys xs', xs = elemOf P t ys :: xs' ∧ ShOk s ys ∧ TyArgs P n ts xs' := by
  obtain ⟨ys, xs', rfl, h1, h2⟩ := tyA_cons h
  exact ⟨ys, xs', rfl, ty_sh _ _ _ _ hs h1, h2⟩
end
/-- A list whose members are all of a form. -/
theorem list_form {α β : Type} {f : α → β} : ∀ {l : List β}, (∀ y ∈ l, ∃ x, y = f x) → ∃ m : List α, l = m.map f
  | [], _ => ⟨[], rfl⟩
  | y :: l, h => by
    obtain ⟨x, rfl⟩ := h y (by simp)
    obtain ⟨m, rfl⟩ := list_form (l := l) (fun z hz => h z (List.mem_cons_of_mem _ hz))
    exact ⟨x :: m, rfl⟩
theorem wf_i64 {n : Int} (h : (Lit.int .i64 n).wf = true) : -9223372036854775808 ≤ n ∧ n < 9223372036854775808 := by
  simp [Lit.wf, IntKind.min, IntKind.max, IntKind.signed, IntKind.bits] at h; omega
theorem wf_u64 {n : Int} (h : (Lit.int .u64 n).wf = true) : 0 ≤ n ∧ n < 18446744073709551616 := by
  simp [Lit.wf, IntKind.min, IntKind.max, IntKind.signed, IntKind.bits] at h; omega
theorem wf_u32 {n : Int} (h : (Lit.int .u32 n).wf = true) : 0 ≤ n ∧ n < 4294967296 := by
  simp [Lit.wf, IntKind.min, IntKind.max, IntKind.signed, IntKind.bits] at h; omega
theorem wf_u16 {n : Int} (h : (Lit.int .u16 n).wf = true) : 0 ≤ n ∧ n < 65536 := by
  simp [Lit.wf, IntKind.min, IntKind.max, IntKind.signed, IntKind.bits] at h; omega
theorem wf_u8 {n : Int} (h : (Lit.int .u8 n).wf = true) : 0 ≤ n ∧ n < 256 := by
  simp [Lit.wf, IntKind.min, IntKind.max, IntKind.signed, IntKind.bits] at h; omega
end Go.Vm
