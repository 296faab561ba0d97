/- The abstract machine: Go's operations on pure values; nothing of memory, of orders, of capacities. -/
import Derived.Orders
import Derived.Laws.AppendOwn
import Derived.Laws.MakeOwn
namespace Go.Vm
set_option linter.unusedVariables false

inductive AV where
  | int (k : IntKind) (n : Int)
  | bool (b : Bool)
  | str (s : List UInt8)
  | agg (cs : List AV)
  | sl (own : Bool) (k : Nat) (l : List AV)
  | nilp
  | imm (cs : List AV) (off : Nat)
  | fr (n : Nat)
  | ref (id off : Nat)
  | nili
  | ifc (t : TypeId) (v : AV)
  | fn (f : FuncId) (cap : List AV)
  | nilf
  | mp (id : Nat)
  | msl (id off k len : Nat)
  | hdl (t : Nat)
  | tup (vs : List AV)
  | undef
  deriving Inhabited

def AV.cells : AV → List AV
  | .agg cs => cs
  | v => [v]
def AV.leaf : AV → Bool
  | .agg _ | .tup _ | .undef | .fr _ => false
  | _ => true
def AV.share1 : AV → AV
  | .sl _ k l => .sl false k l
  | .fr _ => .undef
  | v => v
def AV.share : AV → AV
  | .tup vs => .tup (vs.map AV.share1)
  | v => v.share1

/-- '==' of two values of one kind. -/
def AV.same : AV → AV → Option Bool
  | .int k a, .int k' b => if k = k' then some (decide (a = b)) else none
  | .bool a, .bool b => some (a == b)
  | .str a, .str b => some (decide (a = b))
  | _, _ => none
def sameL : List AV → List AV → Option Bool
  | [], [] => some true
  | x :: xs, y :: ys => match x.same y, sameL xs ys with
    | some a, some b => some (a && b)
    | _, _ => none
  | _, _ => none

/-- The bits of whole numbers, as Go has them. -/
def bitsK (op : BinOp) (k : IntKind) (x y : Int) : Int :=
  let a := BitVec.ofInt k.bits x
  let b := BitVec.ofInt k.bits y
  k.wrap (match op with | .and => a &&& b | .or => a ||| b | .xor => a ^^^ b | _ => a &&& ~~~b).toNat
def binI (op : BinOp) (k : IntKind) (x y : Int) : Option AV :=
  match op with
  | .add => some (.int k (k.wrap (x + y)))
  | .sub => some (.int k (k.wrap (x - y)))
  | .mul => some (.int k (k.wrap (x * y)))
  | .quo => if y = 0 then none else some (.int k (k.wrap (x.tdiv y)))
  | .rem => if y = 0 then none else some (.int k (x.tmod y))
  | .and | .or | .xor | .andNot => some (.int k (bitsK op k x y))
  | .eql => some (.bool (decide (x = y)))
  | .neq => some (.bool (!decide (x = y)))
  | .lss => some (.bool (decide (x < y)))
  | .leq => some (.bool (decide (x ≤ y)))
  | .gtr => some (.bool (decide (x > y)))
  | .geq => some (.bool (decide (x ≥ y)))
  | _ => none
def shiftI (op : BinOp) (k : IntKind) (x y : Int) : Option AV :=
  if y < 0 then none else
  match op with
  | .shl => some (.int k (k.wrap (x * 2 ^ (min y.toNat k.bits))))
  | .shr => some (.int k (x.fdiv (2 ^ (min y.toNat k.bits))))
  | _ => none
def binS (op : BinOp) (x y : List UInt8) : Option AV :=
  match op with
  | .add => if x.length + y.length ≤ 9223372036854775807 then some (.str (x ++ y)) else none
  | .eql => some (.bool (decide (x = y)))
  | .neq => some (.bool (!decide (x = y)))
  | .lss => some (.bool (Op.bytesLess x y))
  | _ => none
def bin (op : BinOp) : AV → AV → Option AV
  | .int k x, .int k' y => match op with
    | .shl | .shr => shiftI op k x y
    | _ => if k = k' then binI op k x y else none
  | .str x, .str y => binS op x y
  | _, _ => none

def AV.byte : AV → Option UInt8
  | .int .u8 n => if 0 ≤ n ∧ n < 256 then some (UInt8.ofNat n.toNat) else none
  | _ => none
def bytesOf : List AV → Option (List UInt8)
  | [] => some []
  | x :: xs => match x.byte, bytesOf xs with
    | some b, some bs => some (b :: bs)
    | _, _ => none

/-- Parts laid into cells. -/
def setsA (cs : List AV) (off : Nat) : List AV → List AV
  | [] => cs
  | x :: xs => setsA (cs.set off x) (off + 1) xs
def fillA (cs : List AV) : List (Nat × Nat) → List AV → Option (List AV)
  | [], [] => some cs
  | (off, n) :: ps, x :: xs => if x.cells.length = n ∧ x.cells.all AV.leaf = true ∧ off + n ≤ cs.length then fillA (setsA cs off (x.cells.map AV.share1)) ps xs else none
  | _, _ => none

inductive NK where
  | mv | pick | nilck
  | agg (zero : List AV) (offs : List (Nat × Nat))
  | lit (k : Nat)
  | bin (op : BinOp)
  | beq (neg : Bool)
  | eqs (t : TypeId) (sh : List Nat) (neg : Bool)
  | nilI (neg : Bool) | nilP (neg : Bool) | nilF (neg : Bool)
  | unot | uneg | uxor
  | conv (k : IntKind)
  | convS
  | b2s
  | mkI (t : TypeId)
  | mkF (f : FuncId)
  | rep (k bytes : Nat) (zero : AV)
  | slS (lo hi : Bool)
  | slL (k : Nat) (lo hi : Bool)
  | fa (off : Nat)
  | fld (off n : Nat) (agg : Bool)
  | ixA (k : Nat)
  | ixS
  | ixG (len n : Nat) (agg : Bool)
  | asrt (t : TypeId) (ok : Bool) (zero : AV)
  | ext (i : Nat)
  | ldI (n : Nat) (agg : Bool)
  | call (f : FuncId)
  | callV
  | lenS | lenL | mx | mn
  | app (k bytes : Nat)
  | appS
  | box
  | frs (n : Nat)
  | ini (n : Nat)
  | hnew (cs : List AV)
  | hbox
  | hld (n : Nat) (agg : Bool)
  | hst (n : Nat)
  | hcall (f : FuncId)
  | hcallV
  | hmk (k bytes : Nat) (zero : AV)
  | hfrz (n : Nat)
  | lit0 (k : Nat)
  | ixP (len n : Nat)
  | s2b
  | bad
  | x (f : FuncId)

/-- Numbers of operations that are given apart. -/
def isX (f : FuncId) : Bool := Nat.ble 1000000 f

def bnd (lo hi : Bool) (n : Nat) (xs : List AV) : Option (Nat × Nat) :=
  match lo, hi, xs with
  | false, false, [] => some (0, n)
  | true, false, [.int _ l] => if 0 ≤ l ∧ l ≤ n then some (l.toNat, n) else none
  | false, true, [.int _ h] => if 0 ≤ h ∧ h ≤ n then some (0, h.toNat) else none
  | true, true, [.int _ l, .int _ h] => if 0 ≤ l ∧ l ≤ h ∧ h ≤ n then some (l.toNat, h.toNat) else none
  | _, _, _ => none

def mx2 : AV → AV → Option AV
  | .int k x, .int _ y => some (.int k (if y > x then y else x))
  | _, _ => none
def mn2 : AV → AV → Option AV
  | .int k x, .int _ y => some (.int k (if y < x then y else x))
  | _, _ => none
def foldO (f : AV → AV → Option AV) : List AV → AV → Option AV
  | [], a => some a
  | x :: xs, a => match f a x with | some b => foldO f xs b | none => none

def takeC (cs : List AV) (off n : Nat) (agg : Bool) : Option AV :=
  if agg then (if off + n ≤ cs.length then some (.agg ((cs.drop off).take n)) else none)
  else match cs[off]? with | some c => if c.leaf = true then some c.share1 else none | none => none

def sMv : List AV → Option AV | [x] => some x | _ => none
def sPick : List AV → Option AV | [.bool c, x, y] => some (if c then x.share else y.share) | _ => none
def sNil : List AV → Option AV
  | [.imm cs o] => some (.imm cs o)
  | [.ref i o] => some (.ref i o)
  | [.fn f c] => some (.fn f c)
  | [.ifc t v] => some (.ifc t v)
  | _ => none
def sAgg (zero : List AV) (offs : List (Nat × Nat)) (xs : List AV) : Option AV :=
  match fillA zero offs xs with
  | some cs => some (.agg cs)
  | none => none
def sLit (k : Nat) (xs : List AV) : Option AV :=
  if xs.all (fun x => decide (x.cells.length = k) && x.cells.all AV.leaf) then some (.sl true k (xs.map AV.share)) else none
def sBin (op : BinOp) : List AV → Option AV | [x, y] => bin op x y | _ => none
def neg (n : Bool) (b : Bool) : AV := .bool (if n then !b else b)
def sBeq (n : Bool) : List AV → Option AV | [.bool x, .bool y] => some (neg n (x == y)) | _ => none
def AV.tg : AV → Nat | .int _ _ => 0 | .bool _ => 1 | .str _ => 2 | _ => 3
def sEqs (sh : List Nat) (n : Bool) : List AV → Option AV
  | [.agg xs, .agg ys] => if xs.map AV.tg = sh then (match sameL xs ys with | some b => some (neg n b) | none => none) else none
  | _ => none
def sNilI (n : Bool) : List AV → Option AV | [.nili] => some (neg n true) | [.ifc _ _] => some (neg n false) | _ => none
def sNilP (n : Bool) : List AV → Option AV | [.nilp] => some (neg n true) | [.imm _ _] => some (neg n false) | [.ref _ _] => some (neg n false) | _ => none
def sNilF (n : Bool) : List AV → Option AV | [.nilf] => some (neg n true) | [.fn _ _] => some (neg n false) | _ => none
def sNot : List AV → Option AV | [.bool b] => some (.bool !b) | _ => none
def sNeg : List AV → Option AV | [.int k n] => some (.int k (k.wrap (0 - n))) | _ => none
def sXor : List AV → Option AV | [.int k n] => some (.int k (bitsK .xor k (if k.signed then -1 else k.max) n)) | _ => none
def sConv (k : IntKind) : List AV → Option AV | [.int _ n] => some (.int k (k.wrap n)) | _ => none
def sConvS : List AV → Option AV | [.str s] => some (.str s) | _ => none
def sB2s : List AV → Option AV | [.sl _ 1 l] => (match bytesOf l with | some b => some (.str b) | none => none) | _ => none
def sMkI (t : TypeId) : List AV → Option AV | [x] => some (.ifc t x.share) | _ => none
def sMkF (f : FuncId) (xs : List AV) : Option AV := some (.fn f (xs.map AV.share))
def sRep (k bytes : Nat) (zero : AV) : List AV → Option AV
  | [.int .i64 n] => if 0 ≤ n ∧ n * bytes ≤ 140737488355328 ∧ n ≤ 4611686018427387904 then some (.sl true k (List.replicate n.toNat zero)) else none
  | _ => none
def sSlS (lo hi : Bool) : List AV → Option AV
  | .str s :: xs => (match bnd lo hi s.length xs with | some (l, h) => some (.str ((s.take h).drop l)) | none => none)
  | _ => none
def sSlL (kk : Nat) (lo hi : Bool) : List AV → Option AV
  | .sl _ k l :: xs => if k = kk then (match bnd lo hi l.length xs with | some (a, b) => some (.sl false k ((l.take b).drop a)) | none => none) else none
  | _ => none
def sFa (o : Nat) : List AV → Option AV | [.imm cs p] => some (.imm cs (p + o)) | [.ref id p] => some (.ref id (p + o)) | _ => none
def sFld (off n : Nat) (agg : Bool) : List AV → Option AV | [.agg cs] => takeC cs off n agg | _ => none
def sIxA (k : Nat) : List AV → Option AV
  | [.sl _ k' l, .int _ i] => if k = k' ∧ 0 ≤ i then (match l[i.toNat]? with | some x => some (.imm x.cells 0) | none => none) else none
  | _ => none
def sIxS : List AV → Option AV
  | [.str s, .int _ i] => if 0 ≤ i then (match s[i.toNat]? with | some c => some (.int .u8 c.toNat) | none => none) else none
  | _ => none
def sIxG (len n : Nat) (agg : Bool) : List AV → Option AV
  | [.agg cs, .int _ i] => if 0 ≤ i ∧ i < len then takeC cs (i.toNat * n) n agg else none
  | _ => none
def sAsrt (t : TypeId) (ok : Bool) (zero : AV) : List AV → Option AV
  | [.ifc t' v] => if t' = t then some (if ok then .tup [v, .bool true] else v).share else if ok then some (.tup [zero.share1, .bool false]) else none
  | [.nili] => if ok then some (.tup [zero.share1, .bool false]) else none
  | _ => none
def AV.isTup : AV → Bool | .tup _ => true | _ => false
def sExt (i : Nat) : List AV → Option AV | [.tup vs] => (match vs[i]? with | some v => if v.isTup then none else some v | none => none) | _ => none
def sLdI (n : Nat) (agg : Bool) : List AV → Option AV | [.imm cs o] => takeC cs o n agg | _ => none
def sLenS : List AV → Option AV | [.str s] => some (.int .i64 s.length) | _ => none
def sLenL : List AV → Option AV | [.sl _ _ l] => some (.int .i64 l.length) | _ => none
def sMx : List AV → Option AV | .int k n :: xs => foldO mx2 xs (.int k n) | _ => none
def sMn : List AV → Option AV | .int k n :: xs => foldO mn2 xs (.int k n) | _ => none
def sApp (k bytes : Nat) : List AV → Option AV
  | [.sl true k1 l, .sl _ k2 m] =>
    if (k1 = k ∧ k2 = k) ∧ (l.length + m.length) * bytes ≤ 140737488355328 ∧ l.length + m.length ≤ 4611686018427387904 then some (.sl true k (l ++ m)) else none
  | _ => none
def sAppS : List AV → Option AV
  | [.sl true 1 l, .str s] => if l.length + s.length ≤ 140737488355328 then some (.sl true 1 (l ++ s.map fun c => .int .u8 c.toNat)) else none
  | _ => none
def sBox : List AV → Option AV | [x] => if x.cells.all AV.leaf then some (.imm (x.cells.map AV.share1) 0) else none | _ => none
def sFrs (n : Nat) : List AV → Option AV | [] => some (.fr n) | _ => none
def sIni (n0 : Nat) : List AV → Option AV
  | [.fr n, x] => if n = n0 ∧ x.cells.length = n ∧ x.cells.all AV.leaf then some (.imm (x.cells.map AV.share1) 0) else none
  | _ => none
def sCallV (call : FuncId → List AV → Option AV) : List AV → Option AV
  | .fn f caps :: xs => if isX f then none else call f ((xs ++ caps).map AV.share)
  | _ => none

def sLit0 (k : Nat) : List AV → Option AV | [] => some (.sl true k []) | _ => none
def sIxP (len n : Nat) : List AV → Option AV
  | [.imm cs p, .int _ i] => if 0 ≤ i ∧ i < len then some (.imm cs (p + i.toNat * n)) else none
  | _ => none
def sS2b : List AV → Option AV | [.str s] => some (.sl false 1 (s.map fun c => .int .u8 c.toNat)) | _ => none

def sem (call : FuncId → List AV → Option AV) (k : NK) (xs : List AV) : Option AV :=
  match k with
  | .mv => sMv xs
  | .pick => sPick xs
  | .nilck => sNil xs
  | .agg zero offs => sAgg zero offs xs
  | .lit k => sLit k xs
  | .bin op => sBin op xs
  | .beq n => sBeq n xs
  | .eqs _ sh n => sEqs sh n xs
  | .nilI n => sNilI n xs
  | .nilP n => sNilP n xs
  | .nilF n => sNilF n xs
  | .unot => sNot xs
  | .uneg => sNeg xs
  | .uxor => sXor xs
  | .conv k => sConv k xs
  | .convS => sConvS xs
  | .b2s => sB2s xs
  | .mkI t => sMkI t xs
  | .mkF f => sMkF f xs
  | .rep k b z => sRep k b z xs
  | .slS lo hi => sSlS lo hi xs
  | .slL k lo hi => sSlL k lo hi xs
  | .fa o => sFa o xs
  | .fld o n a => sFld o n a xs
  | .ixA k => sIxA k xs
  | .ixS => sIxS xs
  | .ixG l n a => sIxG l n a xs
  | .asrt t ok z => sAsrt t ok z xs
  | .ext i => sExt i xs
  | .ldI n a => sLdI n a xs
  | .call f => call f (xs.map AV.share)
  | .callV => sCallV call xs
  | .lenS => sLenS xs
  | .lenL => sLenL xs
  | .mx => sMx xs
  | .mn => sMn xs
  | .app k b => sApp k b xs
  | .appS => sAppS xs
  | .box => sBox xs
  | .frs n => sFrs n xs
  | .ini n => sIni n xs
  | .lit0 k => sLit0 k xs
  | .ixP l n => sIxP l n xs
  | .s2b => sS2b xs
  | _ => none

/-- No reference to what may turn. -/
def AV.pu : AV → Bool
  | .ref _ _ | .msl _ _ _ _ | .mp _ => false
  | .ifc _ v => v.pu
  | .fn _ cs => puL cs
  | .tup cs => puL cs
  | .agg cs => puL cs
  | .imm cs _ => puL cs
  | _ => true
where puL : List AV → Bool
  | [] => true
  | c :: cs => c.pu && puL cs

/-- The objects that may turn. -/
structure Hp where
  nx : Nat
  m : Nat → Option (List AV)
  wf : ∀ i, nx ≤ i → m i = none
theorem Hp.same : ∀ {h h' : Hp}, h.nx = h'.nx → (∀ i, h.m i = h'.m i) → h = h'
  | ⟨n, m, _⟩, ⟨n', m', _⟩, h1, h2 => by
    have e1 : n = n' := h1
    have e2 : m = m' := funext h2
    clear h1 h2
    subst e1; subst e2; rfl
def Hp.e : Hp := ⟨0, fun _ => none, fun _ _ => rfl⟩
def Hp.new (h : Hp) (cs : List AV) : Hp := ⟨h.nx + 1, fun i => if i = h.nx then some cs else h.m i, fun i hi => by rw [if_neg (by omega)]; exact h.wf i (by omega)⟩
def Hp.set (h : Hp) (id : Nat) (cs : List AV) : Hp := ⟨h.nx, fun i => if i = id then (h.m id).map (fun _ => cs) else h.m i, fun i hi => by
  split
  · rename_i he; subst he; rw [h.wf i hi]; rfl
  · exact h.wf i hi⟩
def Hp.cut (h : Hp) (n : Nat) : Hp := ⟨n, fun i => if i < n then h.m i else none, fun i hi => if_neg (by omega)⟩
theorem Hp.cut_self (h : Hp) : h.cut h.nx = h := Hp.same rfl fun i => by
  simp only [Hp.cut]; split
  · rfl
  · rw [h.wf i (by omega)]
theorem Hp.cut_new (h : Hp) (cs : List AV) (n : Nat) (hn : n ≤ h.nx) : (h.new cs).cut n = h.cut n := Hp.same rfl fun i => by
  simp only [Hp.cut, Hp.new]; split
  · rw [if_neg (by omega)]
  · rfl
theorem Hp.cut_set (h : Hp) (id : Nat) (cs : List AV) (n : Nat) (hn : n ≤ id) : (h.set id cs).cut n = h.cut n := Hp.same rfl fun i => by
  simp only [Hp.cut, Hp.set]; split
  · rw [if_neg (by omega)]
  · rfl
theorem Hp.cut_set_lt (h : Hp) (id : Nat) (cs : List AV) (n : Nat) (hn : id < n) : (h.set id cs).cut n = (h.cut n).set id cs := Hp.same rfl fun i => by
  simp only [Hp.cut, Hp.set]
  by_cases hi : i = id
  · subst hi; simp [hn]
  · simp [hi]
theorem Hp.m_new (h : Hp) (cs : List AV) : (h.new cs).m h.nx = some cs := by simp [Hp.new]
theorem Hp.m_new_lt (h : Hp) (cs : List AV) (i : Nat) (hi : i ≠ h.nx) : (h.new cs).m i = h.m i := by simp [Hp.new, hi]
theorem Hp.m_set (h : Hp) (id : Nat) (cs c0 : List AV) (h0 : h.m id = some c0) : (h.set id cs).m id = some cs := by simp [Hp.set, h0]
theorem Hp.m_set_ne (h : Hp) (id i : Nat) (cs : List AV) (hi : i ≠ id) : (h.set id cs).m i = h.m i := by simp [Hp.set, hi]
theorem Hp.nx_new (h : Hp) (cs : List AV) : (h.new cs).nx = h.nx + 1 := rfl
theorem Hp.nx_set (h : Hp) (id : Nat) (cs : List AV) : (h.set id cs).nx = h.nx := rfl

/-- May this lie in an object's cell? -/
def AV.cellOk (id : Nat) : AV → Bool
  | .ref i _ => decide (i < id)
  | .msl i _ _ _ => decide (i < id)
  | x => x.leaf && x.pu

/-- Operations on references: nothing of the objects is read. -/
def semT (k : NK) (xs : List AV) : Option AV :=
  match k, xs with
  | .mv, [x] => some x
  | .nilck, [.ref i o] => some (.ref i o)
  | .fa o, [.ref i p] => some (.ref i (p + o))
  | .mkI t, [.ref i o] => some (.ifc t (.ref i o))
  | .mkF f, xs => some (.fn f (xs.map AV.share))
  | .ext i, [.tup vs] => (match vs[i]? with | some v => if v.isTup then none else some v | none => none)
  | .ixA k, [.msl id off k' len, .int _ i] => if k = k' ∧ 0 ≤ i ∧ i < len then some (.ref id (off + i.toNat * k)) else none
  | .lenL, [.msl _ _ _ len] => some (.int .i64 len)
  | .ini n, xs => sIni n xs
  | .box, xs => sBox xs
  | .nilI n, xs => sNilI n xs
  | .nilP n, xs => sNilP n xs
  | .nilF n, xs => sNilF n xs
  | .pick, xs => sPick xs
  | .ldI n agg, xs => sLdI n agg xs
  | .ixP len n, [.ref id p, .int _ i] => if 0 ≤ i ∧ i < len then some (.ref id (p + i.toNat * n)) else none
  | _, _ => none

def AV.noOwn : AV → Bool
  | .sl o _ _ => !o
  | .fr _ => false
  | _ => true
abbrev CallH := FuncId → List AV → Hp → Option (AV × Hp)
/-- A call that needs no objects. -/
def CallH.pure (call : CallH) (f : FuncId) (xs : List AV) : Option AV :=
  if xs.all AV.pu then match call f xs Hp.e with
    | some (r, _) => if r.pu then some r else none
    | none => none
  else none

def hLd (n : Nat) (agg : Bool) (h : Hp) : List AV → Option (AV × Hp)
  | [.ref id o] => (match h.m id with
    | some cs => if agg then (if o + n ≤ cs.length ∧ AV.pu.puL ((cs.drop o).take n) = true then some (.agg ((cs.drop o).take n), h) else none) else (match cs[o]? with | some c => some (c, h) | none => none)
    | none => none)
  | [.imm cs o] => (match takeC cs o n agg with | some r => some (r, h) | none => none)
  | _ => none
def hSt (n : Nat) (h : Hp) : List AV → Option (AV × Hp)
  | [.ref id o, x] => (match h.m id with
    | some cs => if x.cells.length = n ∧ o + n ≤ cs.length ∧ (x.cells.all fun c => c.cellOk id) = true then some (.tup [], h.set id (setsA cs o (x.cells.map AV.share1))) else none
    | none => none)
  | _ => none
def hBox (h : Hp) : List AV → Option (AV × Hp)
  | [x] => if (x.cells.all fun c => c.cellOk h.nx) = true then some (.ref h.nx 0, h.new (x.cells.map AV.share1)) else none
  | _ => none
def hNew (cs : List AV) (h : Hp) : List AV → Option (AV × Hp)
  | [] => some (.ref h.nx 0, h.new cs)
  | _ => none
def chunks (k : Nat) : Nat → List AV → List AV
  | 0, _ => []
  | n + 1, l => (if k = 1 then l.headD .undef else .agg (l.take k)) :: chunks k n (l.drop k)
def hMk (k bytes : Nat) (zero : AV) (h : Hp) : List AV → Option (AV × Hp)
  | [.int .i64 n] => if 0 ≤ n ∧ n * bytes ≤ 140737488355328 ∧ n ≤ 4611686018427387904 then some (.msl h.nx 0 k n.toNat, h.new (List.replicate n.toNat zero.cells).flatten) else none
  | _ => none
def hCallV (call : CallH) (h : Hp) : List AV → Option (AV × Hp)
  | .fn f caps :: xs => if isX f then none else call f ((xs ++ caps).map AV.share) h
  | _ => none

def semH (call : CallH) (k : NK) (xs : List AV) (h : Hp) : Option (AV × Hp) :=
  match k with
  | .hnew cs => hNew cs h xs
  | .hbox => hBox h xs
  | .hld n a => hLd n a h xs
  | .hst n => hSt n h xs
  | .hcall f => call f (xs.map AV.share) h
  | .hcallV => hCallV call h xs
  | .hmk k b z => hMk k b z h xs
  | .x f => call f xs h
  | k => if xs.all AV.pu then (match sem call.pure k xs with | some r => some (r, h) | none => none) else (match semT k xs with | some r => some (r, h) | none => none)

inductive AOpd where
  | t (i : Nat)
  | tk (i : Nat)
  | c (v : AV)
  | f (i : FuncId)
structure AOper where
  dst : Option Nat
  k : NK
  xs : List AOpd
  g : Option (Nat × Bool)

abbrev Env := Nat → AV
def upd (e : Env) (i : Nat) (v : AV) : Env := fun j => if j = i then v else e j
def updO (e : Env) : Option Nat → AV → Env
  | some i, v => upd e i v
  | none, _ => e
def rd (e : Env) : AOpd → AV × Env
  | .t i => ((e i).share, e)
  | .tk i => (e i, upd e i (e i).share)
  | .c v => (v, e)
  | .f i => (.fn i [], e)
def rds (e : Env) : List AOpd → List AV × Env
  | [] => ([], e)
  | x :: xs => let (v, e1) := rd e x; let (vs, e2) := rds e1 xs; (v :: vs, e2)

section
variable (call : CallH)
def stepGo (o : AOper) (s : Env × Hp) : Option (Env × Hp) :=
  let r := rds s.1 o.xs
  match semH call o.k r.1 s.2 with
  | some (v, h) => some (updO r.2 o.dst v, h)
  | none => none
def step (o : AOper) (s : Env × Hp) : Option (Env × Hp) :=
  match o.g with
  | none => stepGo call o s
  | some (t, want) => match s.1 t with
    | .bool b => if b = want then stepGo call o s else some (updO s.1 o.dst (.tup []), s.2)
    | .tup [] => some (updO s.1 o.dst (.tup []), s.2)
    | _ => none
def steps : List AOper → Env × Hp → Option (Env × Hp)
  | [], s => some s
  | o :: os, s => match step call o s with | some s1 => steps os s1 | none => none

inductive ACode where
  | skip
  | ops (l : List AOper)
  | seq (a b : ACode)
  | cond (x : AOpd) (a b : ACode)
  | block (id : Nat) (c : ACode)
  | loop (c : ACode)
  | exit (id : Nat)
  | ret
  | bad
inductive AExit where
  | normal
  | exit (id : Nat)
  | ret
  deriving DecidableEq

def iter (f : Env × Hp → Option (AExit × Env × Hp)) : Nat → Env × Hp → Option (AExit × Env × Hp)
  | 0, _ => none
  | j + 1, s => match f s with
    | some (.normal, s1) => iter f j s1
    | r => r
def evC (j : Nat) : ACode → Env × Hp → Option (AExit × Env × Hp)
  | .skip, s => some (.normal, s)
  | .ops l, s => match steps call l s with | some s1 => some (.normal, s1) | none => none
  | .seq a b, s => match evC j a s with
    | some (.normal, s1) => evC j b s1
    | r => r
  | .cond x a b, s => match (rd s.1 x).1 with
    | .bool true => evC j a s
    | .bool false => evC j b s
    | _ => none
  | .block id c, s => match evC j c s with
    | some (.exit i, s1) => if i = id then some (.normal, s1) else some (.exit i, s1)
    | r => r
  | .loop c, s => iter (evC j c) j s
  | .exit id, s => some (.exit id, s)
  | .ret, s => some (.ret, s)
  | .bad, _ => none
end

inductive ARes where
  | t (i : Nat)
  | cell (a n : Nat) (agg : Bool)
structure AFunc where
  np : Nat
  res : List ARes
  body : ACode
inductive AFn where
  | code (f : AFunc)
  | prim (F : (FuncId → List AV → Option AV) → List AV → Option AV)
  | primH (F : CallH → List AV → Hp → Option (AV × Hp))
  | primX (F : CallH → List AV → Hp → Option (AV × Hp))

def init (args : List AV) : Env := fun i => match args[i]? with | some v => v | none => .tup []
def res1 (e : Env) (h : Hp) : ARes → Option AV
  | .t i => some (e i)
  | .cell a n agg => match e a with
    | .ref id o => (match hLd n agg h [.ref id o] with | some (v, _) => some v | none => none)
    | _ => none
def resL (e : Env) (h : Hp) : List ARes → Option (List AV)
  | [] => some []
  | r :: rs => match res1 e h r, resL e h rs with | some x, some xs => some (x :: xs) | _, _ => none
def resOf (e : Env) (h : Hp) : List ARes → Option AV
  | [r] => res1 e h r
  | rs => match resL e h rs with | some xs => some (.tup xs) | none => none
def leave (h0 : Hp) (h : Hp) : Option AV → Option (AV × Hp)
  | some r => some (r, if r.pu then h.cut h0.nx else h)
  | none => none

def evCall (E : FuncId → Option AFn) : Nat → CallH
  | 0, _, _, _ => none
  | k + 1, f, args, h => match E f with
    | some (.code af) =>
      if args.length = af.np then
        match evC (evCall E k) k af.body (init args, h) with
        | some (.normal, e, h1) | some (.ret, e, h1) => leave h h1 (resOf e h1 af.res)
        | _ => none
      else none
    | some (.prim F) => if args.all AV.pu then (match F (evCall E k).pure args with | some r => if r.pu then some (r, h) else none | none => none) else none
    | some (.primH F) => F (evCall E k) args h
    | some (.primX F) => F (evCall E k) args h
    | none => none

end Go.Vm
