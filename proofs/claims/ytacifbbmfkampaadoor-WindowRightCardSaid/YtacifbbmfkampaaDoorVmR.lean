/- Rules by which the abstract machine is walked. -/
import Derived.Test.YtacifbbmfkampaaDoorVmS
namespace Go.Vm
set_option linter.unusedVariables false
set_option linter.unusedSimpArgs false
set_option linter.unusedSectionVars false
variable [Glob]

section
variable (call : CallH)
theorem xskip (s : Env × Hp) : evX call .skip s = some (.normal, s) := rfl
theorem xops (l : List AOper) (s : Env × Hp) : evX call (.ops l) s = match steps call l s with | some s1 => some (.normal, s1) | none => none := rfl
theorem xseq (a b : ACode) (s : Env × Hp) : evX call (.seq a b) s = match evX call a s with | some (.normal, s1) => evX call b s1 | r => r := rfl
theorem xcond (x : AOpd) (a b : ACode) (s : Env × Hp) : evX call (.cond x a b) s = match (rd s.1 x).1 with | .bool true => evX call a s | .bool false => evX call b s | _ => none := rfl
theorem xblock (id : Nat) (c : ACode) (s : Env × Hp) : evX call (.block id c) s = match evX call c s with | some (.exit i, s1) => if i = id then some (.normal, s1) else some (.exit i, s1) | r => r := rfl
theorem xexit (id : Nat) (s : Env × Hp) : evX call (.exit id) s = some (.exit id, s) := rfl
theorem xret (s : Env × Hp) : evX call .ret s = some (.ret, s) := rfl
theorem xnil (s : Env × Hp) : steps call [] s = some s := rfl
theorem xcons (o : AOper) (os : List AOper) (s : Env × Hp) : steps call (o :: os) s = match step call o s with | some s1 => steps call os s1 | none => none := rfl
end

-- ------------------------------------------------------------ what is told of a value by its head
theorem leafL : (∀ (k : IntKind) (n : Int), (AV.int k n).leaf = true) ∧
    (∀ (b : Bool), (AV.bool b).leaf = true) ∧
    (∀ (s : List UInt8), (AV.str s).leaf = true) ∧
    (∀ (cs : List AV), (AV.agg cs).leaf = false) ∧
    (∀ (o : Bool) (k : Nat) (l : List AV), (AV.sl o k l).leaf = true) ∧
    ((AV.nilp).leaf = true) ∧
    (∀ (cs : List AV) (p : Nat), (AV.imm cs p).leaf = true) ∧
    (∀ (n : Nat), (AV.fr n).leaf = false) ∧
    (∀ (i p : Nat), (AV.ref i p).leaf = true) ∧
    ((AV.nili).leaf = true) ∧
    (∀ (t : TypeId) (v : AV), (AV.ifc t v).leaf = true) ∧
    (∀ (f : FuncId) (c : List AV), (AV.fn f c).leaf = true) ∧
    ((AV.nilf).leaf = true) ∧
    (∀ (i : Nat), (AV.mp i).leaf = true) ∧
    (∀ (i p k n : Nat), (AV.msl i p k n).leaf = true) ∧
    (∀ (t : Nat), (AV.hdl t).leaf = true) ∧
    (∀ (vs : List AV), (AV.tup vs).leaf = false) ∧
    ((AV.undef).leaf = false) := ⟨fun _ _ => rfl, fun _ => rfl, fun _ => rfl, fun _ => rfl, fun _ _ _ => rfl, rfl, fun _ _ => rfl, fun _ => rfl, fun _ _ => rfl, rfl, fun _ _ => rfl, fun _ _ => rfl, rfl, fun _ => rfl, fun _ _ _ _ => rfl, fun _ => rfl, fun _ => rfl, rfl⟩
theorem share1L : (∀ (k : IntKind) (n : Int), (AV.int k n).share1 = (AV.int k n)) ∧
    (∀ (b : Bool), (AV.bool b).share1 = (AV.bool b)) ∧
    (∀ (s : List UInt8), (AV.str s).share1 = (AV.str s)) ∧
    (∀ (cs : List AV), (AV.agg cs).share1 = (AV.agg cs)) ∧
    (∀ (o : Bool) (k : Nat) (l : List AV), (AV.sl o k l).share1 = .sl false k l) ∧
    ((AV.nilp).share1 = (AV.nilp)) ∧
    (∀ (cs : List AV) (p : Nat), (AV.imm cs p).share1 = (AV.imm cs p)) ∧
    (∀ (n : Nat), (AV.fr n).share1 = .undef) ∧
    (∀ (i p : Nat), (AV.ref i p).share1 = (AV.ref i p)) ∧
    ((AV.nili).share1 = (AV.nili)) ∧
    (∀ (t : TypeId) (v : AV), (AV.ifc t v).share1 = (AV.ifc t v)) ∧
    (∀ (f : FuncId) (c : List AV), (AV.fn f c).share1 = (AV.fn f c)) ∧
    ((AV.nilf).share1 = (AV.nilf)) ∧
    (∀ (i : Nat), (AV.mp i).share1 = (AV.mp i)) ∧
    (∀ (i p k n : Nat), (AV.msl i p k n).share1 = (AV.msl i p k n)) ∧
    (∀ (t : Nat), (AV.hdl t).share1 = (AV.hdl t)) ∧
    (∀ (vs : List AV), (AV.tup vs).share1 = (AV.tup vs)) ∧
    ((AV.undef).share1 = (AV.undef)) := ⟨fun _ _ => rfl, fun _ => rfl, fun _ => rfl, fun _ => rfl, fun _ _ _ => rfl, rfl, fun _ _ => rfl, fun _ => rfl, fun _ _ => rfl, rfl, fun _ _ => rfl, fun _ _ => rfl, rfl, fun _ => rfl, fun _ _ _ _ => rfl, fun _ => rfl, fun _ => rfl, rfl⟩
theorem shareL : (∀ (k : IntKind) (n : Int), (AV.int k n).share = (AV.int k n)) ∧
    (∀ (b : Bool), (AV.bool b).share = (AV.bool b)) ∧
    (∀ (s : List UInt8), (AV.str s).share = (AV.str s)) ∧
    (∀ (cs : List AV), (AV.agg cs).share = (AV.agg cs)) ∧
    (∀ (o : Bool) (k : Nat) (l : List AV), (AV.sl o k l).share = .sl false k l) ∧
    ((AV.nilp).share = (AV.nilp)) ∧
    (∀ (cs : List AV) (p : Nat), (AV.imm cs p).share = (AV.imm cs p)) ∧
    (∀ (n : Nat), (AV.fr n).share = .undef) ∧
    (∀ (i p : Nat), (AV.ref i p).share = (AV.ref i p)) ∧
    ((AV.nili).share = (AV.nili)) ∧
    (∀ (t : TypeId) (v : AV), (AV.ifc t v).share = (AV.ifc t v)) ∧
    (∀ (f : FuncId) (c : List AV), (AV.fn f c).share = (AV.fn f c)) ∧
    ((AV.nilf).share = (AV.nilf)) ∧
    (∀ (i : Nat), (AV.mp i).share = (AV.mp i)) ∧
    (∀ (i p k n : Nat), (AV.msl i p k n).share = (AV.msl i p k n)) ∧
    (∀ (t : Nat), (AV.hdl t).share = (AV.hdl t)) ∧
    (∀ (vs : List AV), (AV.tup vs).share = .tup (vs.map AV.share1)) ∧
    ((AV.undef).share = (AV.undef)) := ⟨fun _ _ => rfl, fun _ => rfl, fun _ => rfl, fun _ => rfl, fun _ _ _ => rfl, rfl, fun _ _ => rfl, fun _ => rfl, fun _ _ => rfl, rfl, fun _ _ => rfl, fun _ _ => rfl, rfl, fun _ => rfl, fun _ _ _ _ => rfl, fun _ => rfl, fun _ => rfl, rfl⟩
theorem cellsL : (∀ (k : IntKind) (n : Int), (AV.int k n).cells = [(AV.int k n)]) ∧
    (∀ (b : Bool), (AV.bool b).cells = [(AV.bool b)]) ∧
    (∀ (s : List UInt8), (AV.str s).cells = [(AV.str s)]) ∧
    (∀ (cs : List AV), (AV.agg cs).cells = cs) ∧
    (∀ (o : Bool) (k : Nat) (l : List AV), (AV.sl o k l).cells = [(AV.sl o k l)]) ∧
    ((AV.nilp).cells = [(AV.nilp)]) ∧
    (∀ (cs : List AV) (p : Nat), (AV.imm cs p).cells = [(AV.imm cs p)]) ∧
    (∀ (n : Nat), (AV.fr n).cells = [(AV.fr n)]) ∧
    (∀ (i p : Nat), (AV.ref i p).cells = [(AV.ref i p)]) ∧
    ((AV.nili).cells = [(AV.nili)]) ∧
    (∀ (t : TypeId) (v : AV), (AV.ifc t v).cells = [(AV.ifc t v)]) ∧
    (∀ (f : FuncId) (c : List AV), (AV.fn f c).cells = [(AV.fn f c)]) ∧
    ((AV.nilf).cells = [(AV.nilf)]) ∧
    (∀ (i : Nat), (AV.mp i).cells = [(AV.mp i)]) ∧
    (∀ (i p k n : Nat), (AV.msl i p k n).cells = [(AV.msl i p k n)]) ∧
    (∀ (t : Nat), (AV.hdl t).cells = [(AV.hdl t)]) ∧
    (∀ (vs : List AV), (AV.tup vs).cells = [(AV.tup vs)]) ∧
    ((AV.undef).cells = [(AV.undef)]) := ⟨fun _ _ => rfl, fun _ => rfl, fun _ => rfl, fun _ => rfl, fun _ _ _ => rfl, rfl, fun _ _ => rfl, fun _ => rfl, fun _ _ => rfl, rfl, fun _ _ => rfl, fun _ _ => rfl, rfl, fun _ => rfl, fun _ _ _ _ => rfl, fun _ => rfl, fun _ => rfl, rfl⟩
theorem isTupL : (∀ (k : IntKind) (n : Int), (AV.int k n).isTup = false) ∧
    (∀ (b : Bool), (AV.bool b).isTup = false) ∧
    (∀ (s : List UInt8), (AV.str s).isTup = false) ∧
    (∀ (cs : List AV), (AV.agg cs).isTup = false) ∧
    (∀ (o : Bool) (k : Nat) (l : List AV), (AV.sl o k l).isTup = false) ∧
    ((AV.nilp).isTup = false) ∧
    (∀ (cs : List AV) (p : Nat), (AV.imm cs p).isTup = false) ∧
    (∀ (n : Nat), (AV.fr n).isTup = false) ∧
    (∀ (i p : Nat), (AV.ref i p).isTup = false) ∧
    ((AV.nili).isTup = false) ∧
    (∀ (t : TypeId) (v : AV), (AV.ifc t v).isTup = false) ∧
    (∀ (f : FuncId) (c : List AV), (AV.fn f c).isTup = false) ∧
    ((AV.nilf).isTup = false) ∧
    (∀ (i : Nat), (AV.mp i).isTup = false) ∧
    (∀ (i p k n : Nat), (AV.msl i p k n).isTup = false) ∧
    (∀ (t : Nat), (AV.hdl t).isTup = false) ∧
    (∀ (vs : List AV), (AV.tup vs).isTup = true) ∧
    ((AV.undef).isTup = false) := ⟨fun _ _ => rfl, fun _ => rfl, fun _ => rfl, fun _ => rfl, fun _ _ _ => rfl, rfl, fun _ _ => rfl, fun _ => rfl, fun _ _ => rfl, rfl, fun _ _ => rfl, fun _ _ => rfl, rfl, fun _ => rfl, fun _ _ _ _ => rfl, fun _ => rfl, fun _ => rfl, rfl⟩
theorem tgL : (∀ (k : IntKind) (n : Int), (AV.int k n).tg = 0) ∧
    (∀ (b : Bool), (AV.bool b).tg = 1) ∧
    (∀ (s : List UInt8), (AV.str s).tg = 2) ∧
    (∀ (cs : List AV), (AV.agg cs).tg = 3) ∧
    (∀ (o : Bool) (k : Nat) (l : List AV), (AV.sl o k l).tg = 3) ∧
    ((AV.nilp).tg = 3) ∧
    (∀ (cs : List AV) (p : Nat), (AV.imm cs p).tg = 3) ∧
    (∀ (n : Nat), (AV.fr n).tg = 3) ∧
    (∀ (i p : Nat), (AV.ref i p).tg = 3) ∧
    ((AV.nili).tg = 3) ∧
    (∀ (t : TypeId) (v : AV), (AV.ifc t v).tg = 3) ∧
    (∀ (f : FuncId) (c : List AV), (AV.fn f c).tg = 3) ∧
    ((AV.nilf).tg = 3) ∧
    (∀ (i : Nat), (AV.mp i).tg = 3) ∧
    (∀ (i p k n : Nat), (AV.msl i p k n).tg = 3) ∧
    (∀ (t : Nat), (AV.hdl t).tg = 3) ∧
    (∀ (vs : List AV), (AV.tup vs).tg = 3) ∧
    ((AV.undef).tg = 3) := ⟨fun _ _ => rfl, fun _ => rfl, fun _ => rfl, fun _ => rfl, fun _ _ _ => rfl, rfl, fun _ _ => rfl, fun _ => rfl, fun _ _ => rfl, rfl, fun _ _ => rfl, fun _ _ => rfl, rfl, fun _ => rfl, fun _ _ _ _ => rfl, fun _ => rfl, fun _ => rfl, rfl⟩
theorem noOwnL : (∀ (k : IntKind) (n : Int), (AV.int k n).noOwn = true) ∧
    (∀ (b : Bool), (AV.bool b).noOwn = true) ∧
    (∀ (s : List UInt8), (AV.str s).noOwn = true) ∧
    (∀ (cs : List AV), (AV.agg cs).noOwn = true) ∧
    (∀ (o : Bool) (k : Nat) (l : List AV), (AV.sl o k l).noOwn = !o) ∧
    ((AV.nilp).noOwn = true) ∧
    (∀ (cs : List AV) (p : Nat), (AV.imm cs p).noOwn = true) ∧
    (∀ (n : Nat), (AV.fr n).noOwn = false) ∧
    (∀ (i p : Nat), (AV.ref i p).noOwn = true) ∧
    ((AV.nili).noOwn = true) ∧
    (∀ (t : TypeId) (v : AV), (AV.ifc t v).noOwn = true) ∧
    (∀ (f : FuncId) (c : List AV), (AV.fn f c).noOwn = true) ∧
    ((AV.nilf).noOwn = true) ∧
    (∀ (i : Nat), (AV.mp i).noOwn = true) ∧
    (∀ (i p k n : Nat), (AV.msl i p k n).noOwn = true) ∧
    (∀ (t : Nat), (AV.hdl t).noOwn = true) ∧
    (∀ (vs : List AV), (AV.tup vs).noOwn = true) ∧
    ((AV.undef).noOwn = true) := ⟨fun _ _ => rfl, fun _ => rfl, fun _ => rfl, fun _ => rfl, fun _ _ _ => rfl, rfl, fun _ _ => rfl, fun _ => rfl, fun _ _ => rfl, rfl, fun _ _ => rfl, fun _ _ => rfl, rfl, fun _ => rfl, fun _ _ _ _ => rfl, fun _ => rfl, fun _ => rfl, rfl⟩
theorem puLL : (∀ (k : IntKind) (n : Int), (AV.int k n).pu = true) ∧
    (∀ (b : Bool), (AV.bool b).pu = true) ∧
    (∀ (s : List UInt8), (AV.str s).pu = true) ∧
    (∀ (cs : List AV), (AV.agg cs).pu = AV.pu.puL cs) ∧
    (∀ (o : Bool) (k : Nat) (l : List AV), (AV.sl o k l).pu = true) ∧
    ((AV.nilp).pu = true) ∧
    (∀ (cs : List AV) (p : Nat), (AV.imm cs p).pu = AV.pu.puL cs) ∧
    (∀ (n : Nat), (AV.fr n).pu = true) ∧
    (∀ (i p : Nat), (AV.ref i p).pu = false) ∧
    ((AV.nili).pu = true) ∧
    (∀ (t : TypeId) (v : AV), (AV.ifc t v).pu = v.pu) ∧
    (∀ (f : FuncId) (c : List AV), (AV.fn f c).pu = AV.pu.puL c) ∧
    ((AV.nilf).pu = true) ∧
    (∀ (i : Nat), (AV.mp i).pu = false) ∧
    (∀ (i p k n : Nat), (AV.msl i p k n).pu = false) ∧
    (∀ (t : Nat), (AV.hdl t).pu = true) ∧
    (∀ (vs : List AV), (AV.tup vs).pu = AV.pu.puL vs) ∧
    ((AV.undef).pu = true) := ⟨fun _ _ => rfl, fun _ => rfl, fun _ => rfl, fun _ => rfl, fun _ _ _ => rfl, rfl, fun _ _ => rfl, fun _ => rfl, fun _ _ => rfl, rfl, fun _ _ => rfl, fun _ _ => rfl, rfl, fun _ => rfl, fun _ _ _ _ => rfl, fun _ => rfl, fun _ => rfl, rfl⟩
theorem puLN : AV.pu.puL [] = true ∧ ∀ c cs, AV.pu.puL (c :: cs) = (c.pu && AV.pu.puL cs) := ⟨rfl, fun _ _ => rfl⟩
theorem cellOkL : (∀ (id : Nat) (k : IntKind) (n : Int), (AV.int k n).cellOk id = true) ∧
    (∀ (id : Nat) (b : Bool), (AV.bool b).cellOk id = true) ∧
    (∀ (id : Nat) (s : List UInt8), (AV.str s).cellOk id = true) ∧
    (∀ (id : Nat) (cs : List AV), (AV.agg cs).cellOk id = false) ∧
    (∀ (id : Nat) (o : Bool) (k : Nat) (l : List AV), (AV.sl o k l).cellOk id = true) ∧
    (∀ (id : Nat) , (AV.nilp).cellOk id = true) ∧
    (∀ (id : Nat) (cs : List AV) (p : Nat), (AV.imm cs p).cellOk id = AV.pu.puL cs) ∧
    (∀ (id : Nat) (n : Nat), (AV.fr n).cellOk id = false) ∧
    (∀ (id : Nat) (i p : Nat), (AV.ref i p).cellOk id = decide (i < id)) ∧
    (∀ (id : Nat) , (AV.nili).cellOk id = true) ∧
    (∀ (id : Nat) (t : TypeId) (v : AV), (AV.ifc t v).cellOk id = v.pu) ∧
    (∀ (id : Nat) (f : FuncId) (c : List AV), (AV.fn f c).cellOk id = AV.pu.puL c) ∧
    (∀ (id : Nat) , (AV.nilf).cellOk id = true) ∧
    (∀ (id : Nat) (i : Nat), (AV.mp i).cellOk id = false) ∧
    (∀ (id : Nat) (i p k n : Nat), (AV.msl i p k n).cellOk id = decide (i < id)) ∧
    (∀ (id : Nat) (t : Nat), (AV.hdl t).cellOk id = true) ∧
    (∀ (id : Nat) (vs : List AV), (AV.tup vs).cellOk id = false) ∧
    (∀ (id : Nat) , (AV.undef).cellOk id = false) := ⟨fun _ _ _ => by simp [AV.cellOk, AV.leaf, AV.pu], fun _ _ => by simp [AV.cellOk, AV.leaf, AV.pu], fun _ _ => by simp [AV.cellOk, AV.leaf, AV.pu], fun _ _ => by simp [AV.cellOk, AV.leaf, AV.pu], fun _ _ _ _ => by simp [AV.cellOk, AV.leaf, AV.pu], fun _ => by simp [AV.cellOk, AV.leaf, AV.pu], fun _ _ _ => by simp [AV.cellOk, AV.leaf, AV.pu], fun _ _ => by simp [AV.cellOk, AV.leaf, AV.pu], fun _ _ _ => by simp [AV.cellOk, AV.leaf, AV.pu], fun _ => by simp [AV.cellOk, AV.leaf, AV.pu], fun _ _ _ => by simp [AV.cellOk, AV.leaf, AV.pu], fun _ _ _ => by simp [AV.cellOk, AV.leaf, AV.pu], fun _ => by simp [AV.cellOk, AV.leaf, AV.pu], fun _ _ => by simp [AV.cellOk, AV.leaf, AV.pu], fun _ _ _ _ _ => by simp [AV.cellOk, AV.leaf, AV.pu], fun _ _ => by simp [AV.cellOk, AV.leaf, AV.pu], fun _ _ => by simp [AV.cellOk, AV.leaf, AV.pu], fun _ => by simp [AV.cellOk, AV.leaf, AV.pu]⟩

/-- How a loop's body ends. -/
def Post (I : Env × Hp → Prop) (Q : AExit × Env × Hp → Prop) : Option (AExit × Env × Hp) → Prop
  | some (.normal, s) => I s
  | some (.exit i, s) => Q (.exit i, s)
  | some (.ret, s) => Q (.ret, s)
  | none => False
theorem post_n (I Q) (s : Env × Hp) : Post I Q (some (.normal, s)) = I s := rfl
theorem post_e (I Q) (i : Nat) (s : Env × Hp) : Post I Q (some (.exit i, s)) = Q (.exit i, s) := rfl
theorem post_r (I Q) (s : Env × Hp) : Post I Q (some (.ret, s)) = Q (.ret, s) := rfl


section
variable (call : CallH) (K : Env × Hp → Prop) (Q : AExit × Env × Hp → Prop)
theorem post_seq (a b : ACode) (s : Env × Hp) : Post K Q (evX call (.seq a b) s) = Post (fun s1 => Post K Q (evX call b s1)) Q (evX call a s) := by
  rw [xseq]
  cases evX call a s with
  | none => rfl
  | some r => obtain ⟨x, s1⟩ := r; cases x <;> rfl
def inBlk (id : Nat) (K : Env × Hp → Prop) (Q : AExit × Env × Hp → Prop) : AExit × Env × Hp → Prop
  | (.exit i, s1) => if i = id then K s1 else Q (.exit i, s1)
  | r => Q r
theorem inBlk_e (id i : Nat) (s : Env × Hp) : inBlk id K Q (.exit i, s) = if i = id then K s else Q (.exit i, s) := rfl
theorem inBlk_r (id : Nat) (s : Env × Hp) : inBlk id K Q (.ret, s) = Q (.ret, s) := rfl
theorem post_block (id : Nat) (c : ACode) (s : Env × Hp) : Post K Q (evX call (.block id c) s) = Post K (inBlk id K Q) (evX call c s) := by
  rw [xblock]
  cases evX call c s with
  | none => rfl
  | some r =>
    obtain ⟨x, s1⟩ := r
    cases x with
    | normal => rfl
    | ret => rfl
    | exit i =>
      simp only [post_e, inBlk_e]
      by_cases h : i = id
      · rw [if_pos h, if_pos h]; rfl
      · rw [if_neg h, if_neg h]; rfl
theorem post_cond (x : AOpd) (a b : ACode) (s : Env × Hp) : Post K Q (evX call (.cond x a b) s) = match (rd s.1 x).1 with | .bool c => if c = true then Post K Q (evX call a s) else Post K Q (evX call b s) | _ => False := by
  rw [xcond]
  cases (rd s.1 x).1 <;> try rfl
  rename_i c
  cases c <;> simp
theorem post_skip (s : Env × Hp) : Post K Q (evX call .skip s) = K s := rfl
theorem post_exit (id : Nat) (s : Env × Hp) : Post K Q (evX call (.exit id) s) = Q (.exit id, s) := rfl
theorem post_ret (s : Env × Hp) : Post K Q (evX call .ret s) = Q (.ret, s) := rfl
theorem post_ops (l : List AOper) (s : Env × Hp) : Post K Q (evX call (.ops l) s) = match steps call l s with | some s1 => K s1 | none => False := by
  rw [xops]; cases steps call l s <;> rfl

variable {call K Q}
/-- A loop with a measure. -/
theorem post_meas {b : ACode} {s : Env × Hp} (I : Nat → Env × Hp → Prop) (m : Nat) (h0 : I m s)
    (step : ∀ m s, I m s → Post (fun s' => ∃ m', m' < m ∧ I m' s') Q (evX call b s)) : Post K Q (evX call (.loop b) s) := by
  induction m using Nat.strongRecOn generalizing s with
  | _ m ih =>
    have hs := step m s h0
    rw [evX_loop]
    cases hb : evX call b s with
    | none => rw [hb] at hs; exact hs.elim
    | some r =>
      obtain ⟨x, s1⟩ := r
      rw [hb] at hs
      cases x with
      | normal =>
        obtain ⟨m', hm, hI⟩ := hs
        exact ih m' hm hI
      | exit i => exact hs
      | ret => exact hs
/-- A loop that counts. -/
theorem post_count {b : ACode} {s : Env × Hp} (I : Nat → Env × Hp → Prop) (n i : Nat) (hi : i ≤ n) (h0 : I i s)
    (step : ∀ i s, i < n → I i s → Post (I (i + 1)) Q (evX call b s)) (fin : ∀ s, I n s → Post (fun _ => False) Q (evX call b s)) : Post K Q (evX call (.loop b) s) := by
  refine post_meas (fun m s => ∃ i, i ≤ n ∧ m = n - i ∧ I i s) (n - i) ⟨i, hi, rfl, h0⟩ ?_
  rintro m s ⟨i, hi, rfl, hI⟩
  rcases Nat.lt_or_ge i n with hlt | hge
  · have := step i s hlt hI
    cases hb : evX call b s with
    | none => rw [hb] at this; exact this
    | some r =>
      obtain ⟨x, s1⟩ := r
      rw [hb] at this
      cases x with
      | normal => exact ⟨n - (i + 1), by omega, i + 1, by omega, rfl, this⟩
      | exit i => exact this
      | ret => exact this
  · have : i = n := by omega
    subst this
    have := fin s hI
    cases hb : evX call b s with
    | none => rw [hb] at this; exact this
    | some r =>
      obtain ⟨x, s1⟩ := r
      rw [hb] at this
      cases x with
      | normal => exact this.elim
      | exit i => exact this
      | ret => exact this
end

def done (h0 : Hp) (res : List ARes) (v : AV × Hp) : Env × Hp → Prop := fun s => leave h0 s.2 (resOf s.1 s.2 res) = some v
def doneQ (h0 : Hp) (res : List ARes) (v : AV × Hp) : AExit × Env × Hp → Prop
  | (.ret, s) => done h0 res v s
  | _ => False
theorem doneQ_r (h0 : Hp) (res : List ARes) (v : AV × Hp) (s : Env × Hp) : doneQ h0 res v (.ret, s) = done h0 res v s := rfl
/-- What a function's call comes to. -/
theorem evT_fn {E : FuncId → Option AFn} (T : Tame E) {f : FuncId} {af : AFunc} (hE : E f = some (.code af)) {xs : List AV} (hl : xs.length = af.np) {h h' : Hp} {r : AV}
    (hb : Post (done h af.res (r, h')) (doneQ h af.res (r, h')) (evX (evT E) af.body (init xs, h))) : evT E f xs h = some (r, h') := by
  refine evT_code T hE hl ?_
  cases hx : evX (evT E) af.body (init xs, h) with
  | none => rw [hx] at hb; exact hb.elim
  | some q =>
    obtain ⟨x, e, h1⟩ := q
    rw [hx] at hb
    cases x with
    | normal => exact hb
    | exit i => exact hb.elim
    | ret => exact hb

/-- What a call without objects comes to: its result alone. -/
def doneP (res : List ARes) (r : AV) : Env × Hp → Prop := fun s => resOf s.1 s.2 res = some r
def donePQ (res : List ARes) (r : AV) : AExit × Env × Hp → Prop
  | (.ret, s) => doneP res r s
  | _ => False
theorem donePQ_r (res : List ARes) (r : AV) (s : Env × Hp) : donePQ res r (.ret, s) = doneP res r s := rfl
theorem pure_fn {E : FuncId → Option AFn} (T : Tame E) {f : FuncId} {af : AFunc} (hE : E f = some (.code af)) {xs : List AV} (hl : xs.length = af.np) {r : AV} (hp : xs.all AV.pu = true) (hr : r.pu = true)
    (hb : Post (doneP af.res r) (donePQ af.res r) (evX (evT E) af.body (init xs, Hp.e))) : (evT E).pure f xs = some r := by
  have key : ∃ h', evT E f xs Hp.e = some (r, h') := by
    cases hx : evX (evT E) af.body (init xs, Hp.e) with
    | none => rw [hx] at hb; exact hb.elim
    | some q =>
      obtain ⟨x, e, h1⟩ := q
      rw [hx] at hb
      cases x with
      | normal =>
        have hb' : resOf e h1 af.res = some r := hb
        exact ⟨_, evT_code T hE hl (by rw [hx]; simp only [endOf, hb', leave]; rfl)⟩
      | exit i => exact hb.elim
      | ret =>
        have hb' : resOf e h1 af.res = some r := hb
        exact ⟨_, evT_code T hE hl (by rw [hx]; simp only [endOf, hb', leave]; rfl)⟩
  obtain ⟨h', hev⟩ := key
  exact evT_pure hev hp hr
theorem pure_run {E : FuncId → Option AFn} (T : Tame E) {f : FuncId} {xs : List AV} {r : AV} (k : Nat) (hk : (evCall E k f xs Hp.e).map Prod.fst = some r) (hp : xs.all AV.pu = true) (hr : r.pu = true) : (evT E).pure f xs = some r := by
  obtain ⟨⟨r', h'⟩, h1, h2⟩ := Option.map_eq_some_iff.1 hk
  simp only at h2
  subst h2
  exact evT_pure (evT_of T k h1) hp hr
theorem pure_of {E : FuncId → Option AFn} {f : FuncId} {xs : List AV} {r : AV} (h : ∀ h, evT E f xs h = some (r, h)) (hp : xs.all AV.pu = true) (hr : r.pu = true) : (evT E).pure f xs = some r := evT_pure (h Hp.e) hp hr
/-- A law: its call comes to true. -/
theorem law_of {E : FuncId → Option AFn} {f : FuncId} {xs : List AV} {r : AV} (h : (evT E).pure f xs = some r) : ∃ h', evT E f xs Hp.e = some (r, h') := by
  unfold CallH.pure at h
  split at h <;> try (simp at h; done)
  split at h <;> try (simp at h; done)
  rename_i q hh hq
  split at h <;> simp at h
  subst h
  exact ⟨_, hq⟩
theorem prim_pure {E : FuncId → Option AFn} (T : Tame E) {f : FuncId} {F} (hE : E f = some (.prim F)) {xs : List AV} {r : AV} (hp : xs.all AV.pu = true) (hr : F (evT E).pure xs = some r) (hrp : r.pu = true) : (evT E).pure f xs = some r :=
  evT_pure (evT_prim T hE hp hr hrp) hp hrp
end Go.Vm
