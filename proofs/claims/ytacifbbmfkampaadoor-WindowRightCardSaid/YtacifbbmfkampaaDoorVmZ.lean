/- From the abstract machine to a law's row. -/
import Derived.Test.YtacifbbmfkampaaDoorVmW
import Derived.WalkKit
import Derived.ProofKit
import Derived.OpenShut
import Derived.ShutString
import Derived.ChangeOld
import Derived.Carry
import Derived.WideShapes
import Derived.SizedLaws
import Derived.Handed
import Derived.RowKit
import Derived.RowKitTokens
import Derived.LaidLaws
import Derived.LaidHandle
import Derived.SevenTiedAt
namespace Go.Vm
open Go.RowKit Go.ChangeShapes Go.WideShapes
set_option linter.unusedVariables false
set_option linter.unusedSimpArgs false
set_option linter.unusedSectionVars false
variable [Glob]

/-- What a row's arguments are. -/
def TyArgs (P : Program) (n : Nat) : List TypeId → List AV → Prop
  | [], [] => True
  | t :: ts, x :: xs => (∃ ys, x = elemOf P t ys ∧ Ty P n t ys) ∧ TyArgs P n ts xs
  | _, _ => False

section
variable {P : Program} {H : Type} {enc : TypeId × Value → H} {w W W' : World} {C C' : Pub} {base : Nat}

theorem vr_arg {n : Nat} {t : TypeId} {v : Value} {ys : List AV} (hp : plainT P n t = true) (hok : Value.okWide P W .any base t v) (hv : VRs C ys v.cells.toList) (hy : Ty P n t ys) : VR C (elemOf P t ys) v := by
  cases n with
  | zero => simp [plainT] at hp
  | succ n =>
    unfold plainT at hp
    unfold Ty at hy
    have one : ∀ y, ys = [y] → v.cells = #[v] → isAggB P t = some false → VR C (elemOf P t ys) v := by
      intro y e hc ha
      subst e
      rw [hc] at hv
      obtain ⟨u, us, he, h1, h2⟩ := hv.cons_inv
      cases h2.nil_inv
      simp at he; subst he
      simp only [elemOf, ha]; exact h1
    cases hu : P.underlying t with
    | none => rw [hu] at hp; simp at hp
    | some d =>
      rw [hu] at hp hy
      cases d <;> simp only [Bool.false_eq_true] at hp
      case bool =>
        obtain ⟨b, e⟩ := hy
        refine one _ e ?_ (by simp [isAggB, hu])
        simp only [Value.okWide, hu, Cell.okWide, Cell.ok] at hok
        cases v <;> first | rfl | exact absurd hok (by simp)
      case int k =>
        obtain ⟨b, e, _⟩ := hy
        refine one _ e ?_ (by simp [isAggB, hu])
        simp only [Value.okWide, hu, Cell.okWide, Cell.ok] at hok
        cases v <;> first | rfl | exact absurd hok (by simp)
      case string =>
        obtain ⟨b, e, _⟩ := hy
        refine one _ e ?_ (by simp [isAggB, hu])
        simp only [Value.okWide, hu, Cell.okWide, Cell.ok] at hok
        cases v <;> first | rfl | exact absurd hok (by simp)
      case slice e =>
        obtain ⟨b, e', _⟩ := hy
        obtain ⟨a, len, cap, rfl⟩ := okWide_slice hu hok
        exact one _ e' rfl (by simp [isAggB, hu])
      case struct fs =>
        simp only [Value.okWide, hu] at hok
        obtain ⟨cs, rfl, _⟩ := hok
        have ha : isAggB P t = some true := by simp [isAggB, hu]
        simp only [elemOf, ha]
        exact VR.agg_mk hv

theorem elemOf_share {n : Nat} {t : TypeId} {ys : List AV} (hp : plainT P n t = true) (hl : ∀ y ∈ ys, y.leaf = true ∧ y.share1 = y) (hy : Ty P n t ys) : (elemOf P t ys).share = elemOf P t ys := by
  unfold elemOf
  split
  · rfl
  · cases ys with
    | nil => rfl
    | cons y ys =>
      have := hl y (by simp)
      simp only [List.headD_cons]
      cases y <;> first | exact this.2 | simp [AV.leaf] at this
/-- A row's arguments are pure values. -/
theorem args_ty {n : Nat} : ∀ (ts : List TypeId) (vs : List Value) (ds : List (DataW H)) (ps : List MemPlace), (ts.all (plainT P n)) = true →
    DataW.TrodAll enc P W 0 (fun _ => true) true ts vs ds ps → (∀ (j : Nat) t v, ts[j]? = some t → vs[j]? = some v → Value.okWide P W .any base t v) →
    ∃ xs, VRs (allC W) xs vs ∧ (∀ x ∈ xs, x.share = x) ∧ TyArgs P n ts xs
  | [], vs, ds, ps, _, h, _ => by
    obtain ⟨rfl, rfl, rfl⟩ := trodAll_nil h
    exact ⟨[], .nil, by simp, trivial⟩
  | t :: ts, vs, ds, ps, hp, h, hok => by
    simp only [List.all_cons, Bool.and_eq_true] at hp
    obtain ⟨v, vs', d, ds', p, q, rfl, rfl, rfl, ⟨fuel, h1⟩, h2⟩ := trodAll_cons h
    obtain ⟨xs, g1, g2, g3⟩ := args_ty ts vs' ds' q hp.2 h2 (fun j t v ht hv => hok (j + 1) t v (by simpa using ht) (by simpa using hv))
    obtain ⟨ys, k1, k2, k3, k4⟩ := trod_ty n fuel t _ _ hp.1 h1
    exact ⟨elemOf P t ys :: xs, .cons (vr_arg hp.1 (hok 0 t v rfl rfl) k1 k3) g1, by
      intro x hx
      rcases List.mem_cons.1 hx with rfl | hx
      · exact elemOf_share hp.1 k2 k3
      · exact g2 x hx, ⟨ys, rfl, k3⟩, g3⟩

/-- Behind the call they read as they read. -/
theorem args_back (hl : laidOutB P = true) (hb : Below W.heap.size W W') : ∀ (ts : List TypeId) (vs : List Value) (ds : List (DataW H)) (ps : List MemPlace), (ts.all fun t => P.readableRec t && decide (t < P.types.size)) = true →
    DataW.TrodAll enc P W 0 (fun _ => true) true ts vs ds ps → DataW.TrodAll enc P W' 0 (fun b => decide (b < W.heap.size)) true ts vs ds ps
  | [], vs, ds, ps, _, h => by
    obtain ⟨rfl, rfl, rfl⟩ := trodAll_nil h
    exact trodAll_mk0
  | t :: ts, vs, ds, ps, hp, h => by
    simp only [List.all_cons, Bool.and_eq_true, decide_eq_true_eq] at hp
    obtain ⟨v, vs', d, ds', p, q, rfl, rfl, rfl, h1, h2⟩ := trodAll_cons h
    exact trodAll_cons_mk (Below.trod hl hp.1.1 hp.1.2 h1 hb (by obtain ⟨m, hm⟩ := h1; exact DataW.trod_lt m _ _ _ hm)) (args_back hl hb ts vs' ds' q (by simpa using hp.2) h2)

theorem trod_len : ∀ {ts : List TypeId} {vs : List Value} {ds : List (DataW H)} {ps : List MemPlace}, DataW.TrodAll enc P W 0 (fun _ => true) true ts vs ds ps → ds.length = ts.length
  | [], vs, ds, ps, h => by
    obtain ⟨_, rfl, _⟩ := trodAll_nil h
    rfl
  | t :: ts, vs, ds, ps, h => by
    obtain ⟨v, vs', d, ds', p, q, rfl, rfl, rfl, h1, h2⟩ := trodAll_cons h
    simp [trod_len h2]
theorem stand_all {P : Program} {ts : Array TypeId} (h : (ts.toList.all fun t => !P.wantsStandIn t) = true) (j : Nat) (t : TypeId) (ht : ts[j]? = some t) : P.wantsStandIn t = false := by
  have := List.all_eq_true.1 h t (by have := Array.mem_of_getElem? ht; simpa using this)
  simpa using this
theorem ext_below (h : Ext [] C W C' W') : Below W.heap.size W W' := ⟨h.os, h.tape, h.output, h.size, fun k hk => (h.old k hk (by simp)).1⟩

theorem tyA_nil {n : Nat} {xs : List AV} (h : TyArgs P n [] xs) : xs = [] := by cases xs <;> simp_all [TyArgs]
theorem tyA_cons {n : Nat} {t : TypeId} {ts : List TypeId} {xs : List AV} (h : TyArgs P n (t :: ts) xs) : ∃ ys xs', xs = elemOf P t ys :: xs' ∧ Ty P n t ys ∧ TyArgs P n ts xs' := by
  cases xs with
  | nil => simp [TyArgs] at h
  | cons x xs => obtain ⟨⟨ys, rfl, h1⟩, h2⟩ := h; exact ⟨ys, xs, rfl, h1, h2⟩
theorem tyA_string {n : Nat} {t : TypeId} {ts : List TypeId} {xs : List AV} (hu : P.underlying t = some .string) (h : TyArgs P (n + 1) (t :: ts) xs) : ∃ s xs', xs = .str s :: xs' ∧ s.length ≤ maxLen ∧ TyArgs P (n + 1) ts xs' := by
  obtain ⟨ys, xs', rfl, h1, h2⟩ := tyA_cons h
  unfold Ty at h1
  rw [hu] at h1
  obtain ⟨s, rfl, hs⟩ := h1
  exact ⟨s, xs', by simp [elemOf, isAggB, hu], hs, h2⟩
theorem tyA_int {n : Nat} {t : TypeId} {k : IntKind} {ts : List TypeId} {xs : List AV} (hu : P.underlying t = some (.int k)) (h : TyArgs P (n + 1) (t :: ts) xs) : ∃ m xs', xs = .int k m :: xs' ∧ (Lit.int k m).wf = true ∧ TyArgs P (n + 1) ts xs' := by
  obtain ⟨ys, xs', rfl, h1, h2⟩ := tyA_cons h
  unfold Ty at h1
  rw [hu] at h1
  obtain ⟨s, rfl, hs⟩ := h1
  exact ⟨s, xs', by simp [elemOf, isAggB, hu], hs, h2⟩
theorem tyA_bool {n : Nat} {t : TypeId} {ts : List TypeId} {xs : List AV} (hu : P.underlying t = some .bool) (h : TyArgs P (n + 1) (t :: ts) xs) : ∃ b xs', xs = .bool b :: xs' ∧ TyArgs P (n + 1) ts xs' := by
  obtain ⟨ys, xs', rfl, h1, h2⟩ := tyA_cons h
  unfold Ty at h1
  rw [hu] at h1
  obtain ⟨s, rfl⟩ := h1
  exact ⟨s, xs', by simp [elemOf, isAggB, hu], h2⟩

/-- A law's call: true, and all as it was. -/
theorem law_calls {EQ : List TypeId} {E : FuncId → Option AFn} (S : Sound P EQ E) {f : FuncId} (hx : isX f = false) {n : Nat} {ts : List TypeId} (hp : (ts.all (plainT P n)) = true) {args : Array Value} {ds : List (DataW H)} {ps : List MemPlace}
    (hA : DataW.TrodAll enc P W 0 (fun _ => true) true ts args.toList ds ps) (hok : ∀ (j : Nat) t v, ts[j]? = some t → args[j]? = some v → Value.okWide P W .any base t v)
    (hg : Gl (allC W)) (law : ∀ xs, TyArgs P n ts xs → ∃ h', evT E f xs Hp.e = some (.bool true, h')) :
    Calls P f args W fun e W' => e = .returned (.bool true) ∧ Below W.heap.size W W' := by
  obtain ⟨xs, h1, h2, h3⟩ := args_ty ts args.toList ds ps hp hA (fun j t v ht hv => hok j t v ht (by simpa using hv))
  obtain ⟨h', hev⟩ := law xs h3
  have := evT_calls S hx hev rfl (allC_wd W) hg h1 h2
  simp only [Array.toArray_toList] at this
  refine this.mono fun e W' ⟨v, he, C', g1, g2, _⟩ => ?_
  cases g1
  exact ⟨he, ext_below g2⟩
end
end Go.Vm
