/- One operation of the model against one of the abstract machine's: the check, and that it is sound. -/
import Derived.Test.YtacifbbmfkampaaDoorVmX
namespace Go.Vm
open Go.RowKit
set_option linter.unusedVariables false
set_option linter.unusedSimpArgs false
set_option linter.unusedSectionVars false
variable [Glob]

def sameOpd : Operand → Operand → Bool
  | .tmp a, .tmp b => a == b
  | .const (.int k n), .const (.int k' n') => k == k' && n == n'
  | _, _ => false
theorem sameOpd_eval {x y : Operand} (h : sameOpd x y = true) (ρ : Operand → Value) : ρ x = ρ y := by
  unfold sameOpd at h
  split at h <;> simp at h
  · rw [h]
  · obtain ⟨rfl, rfl⟩ := h; rfl

def eqOp (n : Bool) : BinOp := if n then .neq else .eql
def nz : Option Nat → Bool | some n => n != 0 | none => false
theorem nz_spec {o} (h : nz o = true) : ∃ n, o = some n ∧ n ≠ 0 := by cases o <;> simp [nz] at h; exact ⟨_, rfl, h⟩
theorem map_arr (ρ : Operand → Value) (a : Array Operand) : (a.toList.map ρ).toArray = a.map ρ := by apply Array.ext'; simp
def onB (f : TypeId → Bool) : Option TypeId → Bool | some t => f t | none => false
theorem one_arr {f : TypeId → Bool} {a : Array TypeId} (h : a.size = 1) (h2 : onB f a[0]? = true) : ∃ t, a = #[t] ∧ f t = true := by
  rcases a with ⟨l⟩
  match l, h with
  | [t], _ => exact ⟨t, rfl, by simpa [onB] using h2⟩
def optL : Option Operand → List Operand | some x => [x] | none => []

/-- Which operands an operation has, if it is one of the abstract machine's. -/
def chkK (P : Program) (EQ : List TypeId) (o : Oper) (k : NK) : Option (List Operand) :=
  match k, o.op with
  | .mv, .move x => some [x]
  | .mv, .assign x => some [x]
  | .pick, .pick c a b => some [c, a, b]
  | .nilck, .nilCheck x => some [x]
  | .agg zero offs, .build t ps => if aggOk P t zero offs (ps.toList.map (·.1)) then some (ps.toList.map (·.2)) else none
  | .lit k, .buildSlice t n ps =>
    (isSlice P t).bind fun e => if (sizeB P e == some k && (zeroB P e).isSome && decide (ps.toList.map (·.1) = List.range n) && decide (n * k ≤ 16777216) && decide (0 < k) && decide (0 < n)) then some (ps.toList.map (·.2)) else none
  | .bin op', .binOp op t x y _ => if op = op' then some [x, y] else none
  | .beq n, .binOp op t x y _ => if (op == eqOp n) && isBoolB P t then some [x, y] else none
  | .eqs t' sh n, .binOp op t x y _ => if (op == eqOp n) && t == t' && EQ.contains t && shapeB P t == some sh then some [x, y] else none
  | .nilI n, .binOp op t x y _ => if (op == eqOp n) && isIfcB P t then (match y with | .const .nilIface => some [x] | _ => match x with | .const .nilIface => some [y] | _ => none) else none
  | .nilP n, .binOp op t x y _ => if (op == eqOp n) && isPtrB P t then (match y with | .const (.pointer none) => some [x] | _ => match x with | .const (.pointer none) => some [y] | _ => none) else none
  | .nilF n, .binOp op t x y _ => if (op == eqOp n) && isFunB P t then (match y with | .const .nilFunc => some [x] | _ => match x with | .const .nilFunc => some [y] | _ => none) else none
  | .unot, .unOp .not _ x => some [x]
  | .uneg, .unOp .neg _ x => some [x]
  | .uxor, .unOp .xor _ x => some [x]
  | .conv k, .convert s t x => if (P.underlying s).isSome && isIntB P t == some k then some [x] else none
  | .convS, .convert s t x => if isStrB P s && isStrB P t then some [x] else none
  | .mkI t', .makeInterface t x => if t = t' ∧ P.concrete t = true then some [x] else none
  | .mkF f, .makeFunc (.func f') first cap => if f = f' ∧ first.isEmpty = true then some cap.toList else none
  | .rep k b zero, .makeSlice t l c =>
    (isSlice P t).bind fun e => (zeroB P e).bind fun z => if sameOpd l c && sizeB P e == some k && bytesB P e == some b && constVs zero.cells z.cells.toList && constW zero z && zero.cells.all AV.leaf && zero.cells.length == k && decide (0 < k) then some [l] else none
  | .slS lo hi, .slice t x l h m => if isStrB P t && m.isNone && l.isSome == lo && h.isSome == hi then some (x :: (optL l ++ optL h)) else none
  | .slL kk lo hi, .slice t x l h m => (isSlice P t).bind fun e => if sizeB P e == some kk && m.isNone && l.isSome == lo && h.isSome == hi then some (x :: (optL l ++ optL h)) else none
  | .fa off, .fieldAddr s x i => (isStruct P s).bind fun fs => (fs[i]?).bind fun f => if f.offset == off && nz (sizeB P f.type) then some [x] else none
  | .fld off n agg, .field s x i => (isStruct P s).bind fun fs => (fs[i]?).bind fun f => if f.offset == off && isAggB P f.type == some agg && sizeB P f.type == some n then some [x] else none
  | .ixA k, .indexAddr t x i => (isSlice P t).bind fun e => if sizeB P e == some k then some [x, i] else none
  | .ixS, .index t x i => if isStrB P t then some [x, i] else none
  | .ixG len n agg, .index t x i => match P.underlying t with | some (.array l e) => if l == len && isAggB P e == some agg && sizeB P e == some n then some [x, i] else none | _ => none
  | .asrt t' ok zero, .typeAssert x xt t ok' => if t = t' ∧ ok = ok' ∧ isConc P t = true then (if ok then (match zeroB P t with | some z => if constW zero z then some [x] else none | none => none) else some [x]) else none
  | .ext i, .extract x i' => if i = i' then some [x] else none
  | .ldI n agg, .load t x => if isAggB P t == some agg && sizeB P t == some n then some [x] else none
  | .call f, .call { callee := .value (.func f'), args, .. } => if f = f' ∧ isX f = false then some args.toList else none
  | .callV, .call { callee := .value (.tmp i), args, .. } => some (.tmp i :: args.toList)
  | .lenS, .call { callee := .builtin .len, args, argTypes } => if argTypes.size == 1 && args.size == 1 && onB (isStrB P) argTypes[0]? then some args.toList else none
  | .lenL, .call { callee := .builtin .len, args, argTypes } => if argTypes.size == 1 && args.size == 1 && onB (fun t => (isSlice P t).isSome) argTypes[0]? then some args.toList else none
  | .mx, .call { callee := .builtin .max, args, .. } => some args.toList
  | .mn, .call { callee := .builtin .min, args, .. } => some args.toList
  | .app k b, .call { callee := .builtin .append, args, argTypes } => match argTypes.toList, args.toList with
    | [t, t'], [s, x] => (isSlice P t).bind fun e => (zeroB P e).bind fun z => if t == t' && sizeB P e == some k && bytesB P e == some b && z.cells.size == k && decide (0 < k) then some [s, x] else none
    | _, _ => none
  | .box, .box t x => some [x]
  | .frs n, .alloc t => (zeroB P t).bind fun z => if z.cells.size == n then some [] else none
  | .lit0 k, .buildSlice t n ps => (isSlice P t).bind fun e => if sizeB P e == some k && decide (0 < k) && n == 0 && ps.isEmpty then some [] else none
  | .ixP len n, .indexAddr t x i => (arrOf P t).bind fun q => if q.1 == len && sizeB P q.2 == some n then some [x, i] else none
  | .b2s, .convert s t x => if isBytesB P s && isStrB P t then some [x] else none
  | .bad, _ => some []
  | _, _ => none

section
variable {P : Program} {n0 : Nat} {C : Pub} {w : World} {vals : List AV} {r : AV} {EQ : List TypeId} {call : FuncId → List AV → Option AV}

/-- What is asked of calls. -/
structure Calling (P : Program) (call : FuncId → List AV → Option AV) : Prop where
  enter : ∀ f xs r, isX f = false → call f xs = some r → ∀ (args : Array Value) (w : World), (callFunc f args).run P w = .ok (.enter f args) w
  sim : ∀ f xs us r (C : Pub) (w : World), isX f = false → call f xs = some r → Wd C w → Gl C → VRs C xs us → (∀ x ∈ xs, x.share = x) → Calls P f us.toArray w fun e w' => ∃ v, e = .returned v ∧ Fin w.heap.size C w [] r v w'

theorem share_share (x : AV) : x.share.share = x.share := by
  have h1 : ∀ y : AV, y.share1.share1 = y.share1 := fun y => by cases y <;> rfl
  cases x with
  | tup vs => simp only [AV.share, List.map_map]; congr 1; apply List.map_congr_left; intro y _; exact h1 y
  | sl => rfl
  | fr => rfl
  | _ => rfl

theorem Fin.ofCall {Bs v w'} (hn : n0 ≤ w.heap.size) (h : Fin w.heap.size C w [] r v w') : Fin n0 C w Bs r v w' := by
  obtain ⟨C', h1, h2, h3, h4, h5⟩ := h
  exact ⟨C', h1, ⟨h2.os, h2.tape, h2.output, h2.size, fun b hb _ => h2.old b hb (by simp), h2.mono, h2.wd⟩, h3.base hn, fun b hb => .inr ((h4 b hb).resolve_left (by simp)), h5⟩

theorem res_call (hc : Calling P call) {f : FuncId} {xs : List AV} {us : List Value} (hx : isX f = false) (h : call f (xs.map AV.share) = some r) (hw : Wd C w) (hg : Gl C) (hn : n0 ≤ w.heap.size) (hv : VRs C xs us) {Bs} (args : Array Value) (ha : args = us.toArray) :
    Res P ((callFunc f args).run P w) (Fin n0 C w Bs r) := by
  subst ha
  rw [hc.enter f _ r hx h]
  exact Calls.mono (hc.sim f _ us r C w hx h hw hg (hv.map fun _ _ => VR.share) (by intro x hx; obtain ⟨y, _, rfl⟩ := List.mem_map.1 hx; exact share_share y)) fun e w' ⟨v, he, hf⟩ => ⟨v, he, hf.ofCall hn⟩

theorem optV_eval {lo hi : Bool} {l h : Option Operand} (ρ : Operand → Value) (hl : l.isSome = lo) (hh : h.isSome = hi) : optV lo hi ((optL l ++ optL h).map ρ) = (l.map ρ, h.map ρ) := by
  cases l <;> cases h <;> simp at hl hh <;> subst hl <;> subst hh <;> rfl


theorem simK (hEQ : ∀ t ∈ EQ, EqLaw P t) (hc : Calling P call) {o : Oper} {k : NK} {xs : List Operand} (h : chkK P EQ o k = some xs) {ρ : Operand → Value} (hρ : ∀ v, ρ (.const v) = v) (hρf : ∀ f, ρ (.func f) = .func (.func f) #[] #[])
    (ha : Args n0 C w vals (xs.map ρ)) (hr : sem call k vals = some r) : Res P ((execOp ρ o).run P w) (Fin n0 C w (blksL vals (xs.map ρ)) r) := by
  unfold chkK at h
  split at h <;> (try simp only [sem] at hr)
  -- mv
  · rename_i x heq
    simp at h; subst h
    simp only [execOp, heq]
    unfold sMv at hr; split at hr <;> simp at hr; subst hr
    obtain ⟨v, hv, hf⟩ := Fin.mv ha rfl
    simp at hv; subst hv; exact hf
  · rename_i x heq
    simp at h; subst h
    simp only [execOp, heq]
    unfold sMv at hr; split at hr <;> simp at hr; subst hr
    obtain ⟨v, hv, hf⟩ := Fin.mv ha rfl
    simp at hv; subst hv; exact hf
  -- pick
  · rename_i c a b heq
    simp at h; subst h
    obtain ⟨v1, v2, v3, hv, hf⟩ := sim_pick (P := P) (Bs := blksL vals ([c, a, b].map ρ)) ha hr
    simp at hv; obtain ⟨rfl, rfl, rfl⟩ := hv
    simp only [execOp, heq]; exact hf
  -- nilck
  · rename_i x heq
    simp at h; subst h
    obtain ⟨v, hv, hf⟩ := sim_nil (P := P) (Bs := blksL vals ([x].map ρ)) ha hr
    simp at hv; subst hv
    simp only [execOp, heq]; exact hf
  -- agg
  · rename_i zero offs t ps heq
    split at h <;> simp at h; rename_i hok; subst h
    obtain ⟨v, hrun, hf⟩ := sim_agg (P := P) (Bs := blksL vals ((ps.toList.map (·.2)).map ρ)) t zero offs ps hok ha hr
    simp only [execOp, heq]; exact res_v hrun hf
  -- lit
  · rename_i kk t n ps heq
    cases hs : isSlice P t with
    | none => simp [hs] at h
    | some e =>
      simp only [hs, Option.bind_some] at h
      split at h <;> simp at h
      rename_i hok
      subst h
      simp only [Bool.and_eq_true, beq_iff_eq, decide_eq_true_eq, Option.isSome_iff_exists] at hok
      obtain ⟨⟨⟨⟨⟨h1, z, h2⟩, h3⟩, h4⟩, h5⟩, h6⟩ := hok
      obtain ⟨v, w', hrun, hf⟩ := sim_lit (P := P) (Bs := blksL vals ((ps.toList.map (·.2)).map ρ)) t e n kk ps z (isSlice_spec hs) h1 h2 h3 h4 h5 h6 ha hr
      simp only [execOp, heq]; exact res_v hrun hf
  -- bin
  · rename_i op' op t x y _ heq
    split at h <;> simp at h
    rename_i ho; subst ho; subst h
    obtain ⟨a, b, hv, v, hrun, hf⟩ := sim_bin (P := P) (Bs := blksL vals ([x, y].map ρ)) op t x y ha hr
    simp at hv; obtain ⟨rfl, rfl⟩ := hv
    simp only [execOp, heq]; exact res_v hrun hf
  -- beq
  · rename_i n op t x y _ heq
    split at h <;> simp at h
    rename_i ho
    simp only [Bool.and_eq_true, beq_iff_eq] at ho
    obtain ⟨rfl, ht⟩ := ho
    subst h
    obtain ⟨a, b, hv, v, hrun, hf⟩ := sim_beq (P := P) (Bs := blksL vals ([x, y].map ρ)) n t (isBoolB_spec ht) x y ha hr
    simp at hv; obtain ⟨rfl, rfl⟩ := hv
    simp only [execOp, heq]; exact res_v hrun hf
  -- eqs
  · rename_i t' sh n op t x y _ heq
    split at h <;> simp at h
    rename_i ho
    simp only [Bool.and_eq_true, beq_iff_eq, List.contains_iff_mem] at ho
    obtain ⟨⟨⟨rfl, rfl⟩, ht⟩, hsh⟩ := ho
    subst h
    obtain ⟨a, b, hv, v, hrun, hf⟩ := sim_eqs (P := P) (Bs := blksL vals ([x, y].map ρ)) n (hEQ _ ht) hsh x y ha hr
    simp at hv; obtain ⟨rfl, rfl⟩ := hv
    simp only [execOp, heq]; exact res_v hrun hf
  -- nilI
  · rename_i n op t x y _ heq
    split at h <;> try (simp at h; done)
    rename_i ho
    simp only [Bool.and_eq_true, beq_iff_eq] at ho
    obtain ⟨rfl, ht⟩ := ho
    split at h
    · simp at h; subst h
      obtain ⟨a, hv, ⟨v, hrun, hf⟩, _⟩ := sim_nilI (P := P) (Bs := blksL vals ([x].map ρ)) n ht x (.const .nilIface) ha hr (.inr rfl)
      simp at hv; subst hv
      simp only [execOp, heq, hρ]; exact res_v hrun hf
    · split at h <;> simp at h; subst h
      obtain ⟨a, hv, _, ⟨v, hrun, hf⟩⟩ := sim_nilI (P := P) (Bs := blksL vals ([y].map ρ)) n ht (.const .nilIface) y ha hr (.inl rfl)
      simp at hv; subst hv
      simp only [execOp, heq, hρ]; exact res_v hrun hf
  -- nilP
  · rename_i n op t x y _ heq
    split at h <;> try (simp at h; done)
    rename_i ho
    simp only [Bool.and_eq_true, beq_iff_eq] at ho
    obtain ⟨rfl, ht⟩ := ho
    split at h
    · simp at h; subst h
      obtain ⟨a, hv, ⟨v, hrun, hf⟩, _⟩ := sim_nilP (P := P) (Bs := blksL vals ([x].map ρ)) n ht x (.const (.pointer none)) ha hr (.inr rfl)
      simp at hv; subst hv
      simp only [execOp, heq, hρ]; exact res_v hrun hf
    · split at h <;> simp at h; subst h
      obtain ⟨a, hv, _, ⟨v, hrun, hf⟩⟩ := sim_nilP (P := P) (Bs := blksL vals ([y].map ρ)) n ht (.const (.pointer none)) y ha hr (.inl rfl)
      simp at hv; subst hv
      simp only [execOp, heq, hρ]; exact res_v hrun hf
  -- nilF
  · rename_i n op t x y _ heq
    split at h <;> try (simp at h; done)
    rename_i ho
    simp only [Bool.and_eq_true, beq_iff_eq] at ho
    obtain ⟨rfl, ht⟩ := ho
    split at h
    · simp at h; subst h
      obtain ⟨a, hv, ⟨v, hrun, hf⟩, _⟩ := sim_nilF (P := P) (Bs := blksL vals ([x].map ρ)) n ht x (.const .nilFunc) ha hr (.inr rfl)
      simp at hv; subst hv
      simp only [execOp, heq, hρ]; exact res_v hrun hf
    · split at h <;> simp at h; subst h
      obtain ⟨a, hv, _, ⟨v, hrun, hf⟩⟩ := sim_nilF (P := P) (Bs := blksL vals ([y].map ρ)) n ht (.const .nilFunc) y ha hr (.inl rfl)
      simp at hv; subst hv
      simp only [execOp, heq, hρ]; exact res_v hrun hf
  -- unot, uneg, uxor
  · rename_i t x heq
    simp at h; subst h
    obtain ⟨a, hv, v, hrun, hf⟩ := sim_not (P := P) (Bs := blksL vals ([x].map ρ)) ha hr
    simp at hv; subst hv
    simp only [execOp, heq]; exact res_v hrun hf
  · rename_i t x heq
    simp at h; subst h
    obtain ⟨a, hv, v, hrun, hf⟩ := sim_neg (P := P) (Bs := blksL vals ([x].map ρ)) ha hr
    simp at hv; subst hv
    simp only [execOp, heq]; exact res_v hrun hf
  · rename_i t x heq
    simp at h; subst h
    obtain ⟨a, hv, v, hrun, hf⟩ := sim_xor (P := P) (Bs := blksL vals ([x].map ρ)) ha hr
    simp at hv; subst hv
    simp only [execOp, heq]; exact res_v hrun hf
  -- conv
  · rename_i kk s t x heq
    split at h <;> simp at h
    rename_i ho
    simp only [Bool.and_eq_true, beq_iff_eq, Option.isSome_iff_exists] at ho
    obtain ⟨⟨d, hd⟩, hk⟩ := ho
    subst h
    obtain ⟨a, hv, v, hrun, hf⟩ := sim_conv (P := P) (Bs := blksL vals ([x].map ρ)) hd (isIntB_spec hk) ha hr
    simp at hv; subst hv
    simp only [execOp, heq]; exact res_v hrun hf
  -- convS
  · rename_i s t x heq
    split at h <;> simp at h
    rename_i ho
    simp only [Bool.and_eq_true] at ho
    subst h
    obtain ⟨a, hv, v, hrun, hf⟩ := sim_convS (P := P) (Bs := blksL vals ([x].map ρ)) (isStrB_spec ho.1) (isStrB_spec ho.2) ha hr
    simp at hv; subst hv
    simp only [execOp, heq]; exact res_v hrun hf
  -- mkI
  · rename_i t' t x heq
    split at h <;> simp at h
    rename_i ho
    obtain ⟨rfl, ht⟩ := ho
    subst h
    obtain ⟨a, hv, v, hrun, hf⟩ := sim_mkI (P := P) (Bs := blksL vals ([x].map ρ)) ht ha hr
    simp at hv; subst hv
    simp only [execOp, heq]; exact res_v hrun hf
  -- mkF
  · rename_i f f' first cap heq
    split at h <;> simp at h
    rename_i ho
    obtain ⟨rfl, ht⟩ := ho
    subst h
    have hf0 : first = #[] := by simpa using ht
    subst hf0
    obtain ⟨v, hrun, hf⟩ := sim_mkF (P := P) (Bs := blksL vals (cap.toList.map ρ)) ha hr
    rw [map_arr] at hrun
    have e0 : Array.map ρ #[] = #[] := by simp
    simp only [execOp, heq, e0]
    exact res_v hrun hf
  -- rep
  · rename_i kk b zero t l c heq
    cases hs : isSlice P t with
    | none => simp [hs] at h
    | some e =>
      cases hz : zeroB P e with
      | none => simp [hs, hz] at h
      | some z =>
        simp only [hs, hz, Option.bind_some] at h
        split at h <;> simp at h
        rename_i hok
        subst h
        simp only [Bool.and_eq_true, beq_iff_eq, decide_eq_true_eq] at hok
        obtain ⟨⟨⟨⟨⟨⟨⟨h1, h2⟩, h3⟩, h4⟩, h5⟩, h6⟩, h7⟩, h8⟩ := hok
        obtain ⟨a, hv, v, w', hrun, hf⟩ := sim_rep (P := P) (Bs := blksL vals ([l].map ρ)) (isSlice_spec hs) h2 h3 hz h4 h5 h6 h7 h8 ha hr
        simp at hv; subst hv
        simp only [execOp, heq, ← sameOpd_eval h1 ρ]; exact res_v hrun hf
  -- slS
  · rename_i lo hi t x l hh m heq
    split at h <;> simp at h
    rename_i ho
    simp only [Bool.and_eq_true, beq_iff_eq, Option.isNone_iff_eq_none] at ho
    obtain ⟨⟨⟨h1, rfl⟩, h3⟩, h4⟩ := ho
    subst h
    obtain ⟨a, us, hv, v, hrun, hf⟩ := sim_slS (P := P) (Bs := blksL vals ((x :: (optL l ++ optL hh)).map ρ)) (isStrB_spec h1) ha hr
    simp only [List.map_cons, List.cons.injEq] at hv
    obtain ⟨rfl, rfl⟩ := hv
    rw [optV_eval ρ h3 h4] at hrun
    simp only [execOp, heq]; exact res_v hrun hf
  -- slL
  · rename_i kk lo hi t x l hh m heq
    cases hs : isSlice P t with
    | none => simp [hs] at h
    | some e =>
      simp only [hs, Option.bind_some] at h
      split at h <;> simp at h
      rename_i ho
      simp only [Bool.and_eq_true, beq_iff_eq, Option.isNone_iff_eq_none] at ho
      obtain ⟨⟨⟨h1, rfl⟩, h3⟩, h4⟩ := ho
      subst h
      obtain ⟨a, us, hv, v, hrun, hf⟩ := sim_slL (P := P) (Bs := blksL vals ((x :: (optL l ++ optL hh)).map ρ)) (isSlice_spec hs) h1 ha hr
      simp only [List.map_cons, List.cons.injEq] at hv
      obtain ⟨rfl, rfl⟩ := hv
      rw [optV_eval ρ h3 h4] at hrun
      simp only [execOp, heq]; exact res_v hrun hf
  -- fa
  · rename_i off s x i heq
    cases hs : isStruct P s with
    | none => simp [hs] at h
    | some fs =>
      cases hfi : fs[i]? with
      | none => simp [hs, hfi] at h
      | some f =>
        simp only [hs, hfi, Option.bind_some] at h
        split at h <;> simp at h
        rename_i ho
        simp only [Bool.and_eq_true, beq_iff_eq] at ho
        obtain ⟨h1, h2⟩ := ho
        subst h
        obtain ⟨n, hn, h2⟩ := nz_spec h2
        obtain ⟨a, hv, v, hrun, hf⟩ := sim_fa (P := P) (Bs := blksL vals ([x].map ρ)) hs hfi h1 hn h2 ha hr
        simp at hv; subst hv
        simp only [execOp, heq]; exact res_v hrun hf
  -- fld
  · rename_i off n agg s x i heq
    cases hs : isStruct P s with
    | none => simp [hs] at h
    | some fs =>
      cases hfi : fs[i]? with
      | none => simp [hs, hfi] at h
      | some f =>
        simp only [hs, hfi, Option.bind_some] at h
        split at h <;> simp at h
        rename_i ho
        simp only [Bool.and_eq_true, beq_iff_eq] at ho
        obtain ⟨⟨h1, h2⟩, h3⟩ := ho
        subst h
        obtain ⟨a, hv, v, hrun, hf⟩ := sim_fld (P := P) (Bs := blksL vals ([x].map ρ)) hs hfi h1 h2 h3 ha hr
        simp at hv; subst hv
        simp only [execOp, heq]; exact res_v hrun hf
  -- ixA
  · rename_i kk t x i heq
    cases hs : isSlice P t with
    | none => simp [hs] at h
    | some e =>
      simp only [hs, Option.bind_some] at h
      split at h <;> simp at h
      rename_i ho
      simp only [beq_iff_eq] at ho
      subst h
      obtain ⟨a, b, hv, v, hrun, hf⟩ := sim_ixA (P := P) (Bs := blksL vals ([x, i].map ρ)) (isSlice_spec hs) ho ha hr
      simp at hv; obtain ⟨rfl, rfl⟩ := hv
      simp only [execOp, heq]; exact res_v hrun hf
  -- ixS
  · rename_i t x i heq
    split at h <;> simp at h
    rename_i ho; subst h
    obtain ⟨a, b, hv, v, hrun, hf⟩ := sim_ixS (P := P) (Bs := blksL vals ([x, i].map ρ)) (isStrB_spec ho) ha hr
    simp at hv; obtain ⟨rfl, rfl⟩ := hv
    simp only [execOp, heq]; exact res_v hrun hf
  -- ixG
  · rename_i len n agg t x i heq
    split at h <;> try (simp at h; done)
    rename_i l e hu
    split at h <;> simp at h
    rename_i ho
    simp only [Bool.and_eq_true, beq_iff_eq] at ho
    obtain ⟨⟨rfl, h2⟩, h3⟩ := ho
    subst h
    obtain ⟨a, b, hv, v, hrun, hf⟩ := sim_ixG (P := P) (Bs := blksL vals ([x, i].map ρ)) hu h2 h3 ha hr
    simp at hv; obtain ⟨rfl, rfl⟩ := hv
    simp only [execOp, heq]; exact res_v hrun hf
  -- asrt
  · rename_i t' ok zero x xt t ok' heq
    split at h <;> try (simp at h; done)
    rename_i ho
    obtain ⟨rfl, rfl, ht⟩ := ho
    have hx : xs = [x] ∧ (ok = true → ∃ z, zeroB P t = some z ∧ constW zero z = true) := by
      cases ok
      · simp at h; exact ⟨h.symm, by simp⟩
      · simp only [if_true] at h
        split at h <;> try (simp at h; done)
        rename_i z hz
        split at h <;> simp at h
        rename_i hzw
        exact ⟨h.symm, fun _ => ⟨z, hz, hzw⟩⟩
    obtain ⟨rfl, hz⟩ := hx
    obtain ⟨a, hv, v, hrun, hf⟩ := sim_asrt (P := P) (Bs := blksL vals ([x].map ρ)) (xt := xt) ht hz ha hr
    simp at hv; subst hv
    simp only [execOp, heq]; exact res_v hrun hf
  -- ext
  · rename_i i x i' heq
    split at h <;> simp at h
    rename_i ho; subst ho; subst h
    obtain ⟨a, hv, v, hrun, hf⟩ := sim_ext (P := P) i ha hr
    have hv' : ρ x = a := by simpa using hv
    simp only [execOp, heq]; rw [hv']; exact res_v hrun hf
  -- ldI
  · rename_i n agg t x heq
    split at h <;> simp at h
    rename_i ho
    simp only [Bool.and_eq_true, beq_iff_eq] at ho
    subst h
    obtain ⟨a, hv, v, hrun, hf⟩ := sim_ldI (P := P) (Bs := blksL vals ([x].map ρ)) ho.1 ho.2 ha hr
    simp at hv; subst hv
    simp only [execOp, heq]; exact res_v hrun hf
  -- call
  · rename_i f f' args ats heq
    split at h <;> simp at h
    rename_i ho; obtain ⟨rfl, hx⟩ := ho; subst h
    simp only [execOp, heq, hρf, resolve, Deferred.ofValue, invoke, Sem.run_bind, Sem.run_pure, Result.andThen_ok]
    exact res_call hc hx hr ha.wd ha.gl ha.base ha.vr _ (by rw [map_arr]; simp)
  -- callV
  · rename_i i args ats heq
    simp at h; subst h
    unfold sCallV at hr
    split at hr <;> try (simp at hr; done)
    rename_i f caps ys
    split at hr <;> try (simp at hr; done)
    rename_i hx
    have hx : isX f = false := by simpa using hx
    obtain ⟨v, vs', hv, h1, h2⟩ := ha.vr.cons_inv
    simp only [List.map_cons, List.cons.injEq] at hv
    obtain ⟨hv1, hv2⟩ := hv
    obtain ⟨cs, rfl, hcs⟩ := h1.fn_inv
    subst hv2
    simp only [execOp, heq, hv1, resolve, Deferred.ofValue, invoke, Sem.run_bind, Sem.run_pure, Result.andThen_ok]
    exact res_call hc hx hr ha.wd ha.gl ha.base (h2.append hcs) _ (by rw [← map_arr]; simp)
  -- lenS
  · rename_i args ats heq
    split at h <;> try (simp at h; done)
    rename_i ho
    simp only [Option.some.injEq] at h
    subst h
    simp only [Bool.and_eq_true, beq_iff_eq] at ho
    obtain ⟨⟨h1, h2⟩, h3⟩ := ho
    obtain ⟨t, ht, h4⟩ := one_arr h1 h3
    subst ht
    obtain ⟨a, hv, v, hrun, hf⟩ := sim_lenS (P := P) (Bs := blksL vals (args.toList.map ρ)) (t := t) (ty := o.type) (isStrB_spec h4) ha hr
    have e : args.map ρ = #[a] := by rw [← map_arr, hv]
    simp only [execOp, heq, resolve, invoke, builtin, Sem.run_bind, Sem.run_pure, Result.andThen_ok, e, hrun]
    exact hf
  -- lenL
  · rename_i args ats heq
    split at h <;> try (simp at h; done)
    rename_i ho
    simp only [Option.some.injEq] at h
    subst h
    simp only [Bool.and_eq_true, beq_iff_eq] at ho
    obtain ⟨⟨h1, h2⟩, h3⟩ := ho
    obtain ⟨t, ht, h4⟩ := one_arr h1 h3
    subst ht
    obtain ⟨e, he⟩ := Option.isSome_iff_exists.1 h4
    obtain ⟨a, hv, v, hrun, hf⟩ := sim_lenL (P := P) (Bs := blksL vals (args.toList.map ρ)) (t := t) (ty := o.type) (isSlice_spec he) ha hr
    have e : args.map ρ = #[a] := by rw [← map_arr, hv]
    simp only [execOp, heq, resolve, invoke, builtin, Sem.run_bind, Sem.run_pure, Result.andThen_ok, e, hrun]
    exact hf
  -- mx
  · rename_i args ats heq
    simp at h; subst h
    obtain ⟨v, hrun, hf⟩ := sim_mx (P := P) (Bs := blksL vals (args.toList.map ρ)) (ts := ats) (ty := o.type) ha hr
    rw [map_arr] at hrun
    simp only [execOp, heq, resolve, invoke, builtin, Sem.run_bind, Sem.run_pure, Result.andThen_ok, hrun]
    exact hf
  -- mn
  · rename_i args ats heq
    simp at h; subst h
    obtain ⟨v, hrun, hf⟩ := sim_mn (P := P) (Bs := blksL vals (args.toList.map ρ)) (ts := ats) (ty := o.type) ha hr
    rw [map_arr] at hrun
    simp only [execOp, heq, resolve, invoke, builtin, Sem.run_bind, Sem.run_pure, Result.andThen_ok, hrun]
    exact hf
  -- app
  · rename_i kk b args ats heq
    split at h <;> try (simp at h; done)
    rename_i t t' s x hts has
    cases hs : isSlice P t with
    | none => simp [hs] at h
    | some e =>
      cases hz : zeroB P e with
      | none => simp [hs, hz] at h
      | some z =>
        simp only [hs, hz, Option.bind_some] at h
        split at h <;> simp at h
        rename_i ho
        subst h
        simp only [Bool.and_eq_true, beq_iff_eq, decide_eq_true_eq] at ho
        obtain ⟨⟨⟨⟨rfl, h2⟩, h3⟩, h4⟩, h5⟩ := ho
        obtain ⟨a, c, hv, v, w', hrun, hf⟩ := sim_app (P := P) (ty := o.type) (isSlice_spec hs) h2 h3 hz h4 h5 ha hr
        have e1 : args.map ρ = #[a, c] := by rw [← map_arr, has, hv]
        have e2 : ats = #[t, t] := by apply Array.ext'; rw [hts]
        simp only [execOp, heq, resolve, invoke, builtin, Sem.run_bind, Sem.run_pure, Result.andThen_ok, e1, e2, hrun]
        exact hf
  -- box
  · rename_i t x heq
    simp at h; subst h
    obtain ⟨a, hv, v, w', hrun, hf⟩ := sim_box (P := P) (Bs := blksL vals ([x].map ρ)) (t := t) ha hr
    simp at hv; subst hv
    simp only [execOp, heq]; exact res_v hrun hf
  -- frs
  · rename_i n t heq
    cases hz : zeroB P t with
    | none => simp [hz] at h
    | some z =>
      simp only [hz, Option.bind_some] at h
      split at h <;> simp at h
      rename_i ho
      simp only [beq_iff_eq] at ho
      subst h
      obtain ⟨hv, v, w', hrun, hf⟩ := sim_frs (P := P) (Bs := blksL vals ([].map ρ)) hz ho ha hr
      simp only [execOp, heq]; exact res_v hrun hf
  -- lit0
  · rename_i kk t n ps heq
    cases hs : isSlice P t with
    | none => simp [hs] at h
    | some e =>
      simp only [hs, Option.bind_some] at h
      split at h <;> simp at h
      rename_i ho
      simp only [Bool.and_eq_true, beq_iff_eq, decide_eq_true_eq] at ho
      obtain ⟨⟨⟨h1, h2⟩, rfl⟩, h4⟩ := ho
      subst h
      have hps : ps = #[] := by simpa using h4
      subst hps
      obtain ⟨_, v, w', hrun, hf⟩ := sim_lit0 (P := P) (Bs := blksL vals ([].map ρ)) (isSlice_spec hs) h1 h2 ha hr
      simp only [execOp, heq, Array.map_empty]; exact res_v hrun hf
  -- ixP
  · rename_i len n t x i heq
    cases hs : arrOf P t with
    | none => simp [hs] at h
    | some q =>
      obtain ⟨l, e⟩ := q
      simp only [hs, Option.bind_some] at h
      split at h <;> simp at h
      rename_i ho
      simp only [Bool.and_eq_true, beq_iff_eq] at ho
      obtain ⟨rfl, h2⟩ := ho
      subst h
      obtain ⟨a, b, hv, v, hrun, hf⟩ := sim_ixP (P := P) (Bs := blksL vals ([x, i].map ρ)) hs h2 ha hr
      simp at hv; obtain ⟨rfl, rfl⟩ := hv
      simp only [execOp, heq]; exact res_v hrun hf
  -- b2s
  · rename_i s t x heq
    split at h <;> simp at h
    rename_i ho
    simp only [Bool.and_eq_true] at ho
    subst h
    obtain ⟨a, hv, v, hrun, hf⟩ := sim_b2s (P := P) (Bs := blksL vals ([x].map ρ)) ho.1 (isStrB_spec ho.2) ha hr
    simp at hv; subst hv
    simp only [execOp, heq]; exact res_v hrun hf
  -- bad
  · simp at hr
  · simp at h

end
end Go.Vm
