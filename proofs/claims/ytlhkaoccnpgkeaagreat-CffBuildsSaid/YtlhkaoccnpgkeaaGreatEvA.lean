/- eval: a program run by the kernel on its own data: the functions (what is shown of them: XEvB and on). -/
import GoSem.Core.Utf8
import Derived.RangeFuncLeaves
import Derived.RangeFuncOwn
import Derived.Test.YtlhkaoccnpgkeaaGreatProg
namespace Go.Proofs.YtlhkaoccnpgkeaaGreat.Ev
open Go
set_option linter.unusedVariables false
set_option linter.unusedSimpArgs false
/-! Tables by number. -/
inductive T (α : Type) where
  | leaf
  | node (l : T α) (v : Option α) (r : T α)
variable {α : Type} {β : Type}
noncomputable def T.get (t : T α) : Nat → Option α :=
  T.rec (motive := fun _ => Nat → Option α) (fun _ => none) (fun l v r gl gr n => Nat.rec (motive := fun _ => Option α) v (fun k _ => Bool.rec (motive := fun _ => Option α) (gr (Nat.div k 2)) (gl (Nat.div k 2)) (Nat.beq (Nat.mod k 2) 0)) n) t
def T.one : Nat → Nat → α → T α
  | 0, _, _ => .leaf
  | f + 1, n, a => match n with
    | 0 => .node .leaf (some a) .leaf
    | k + 1 => match Nat.beq (Nat.mod k 2) 0 with
      | true => .node (T.one f (Nat.div k 2) a) none .leaf
      | false => .node .leaf none (T.one f (Nat.div k 2) a)
noncomputable def T.set (t : T α) : Nat → α → T α :=
  T.rec (motive := fun _ => Nat → α → T α) (fun n a => T.one (Nat.succ n) n a) (fun l v r gl gr n a => Nat.rec (motive := fun _ => T α) (.node l (some a) r) (fun k _ => Bool.rec (motive := fun _ => T α)
    (T.rec (motive := fun _ => T α) .leaf (fun x y z _ _ => .node l v (.node x y z)) (gr (Nat.div k 2) a))
    (T.rec (motive := fun _ => T α) .leaf (fun x y z _ _ => .node (.node x y z) v r) (gl (Nat.div k 2) a)) (Nat.beq (Nat.mod k 2) 0)) n) t
noncomputable def T.go : List (Option α) → Nat → T α → T α
  | [], _, t => t
  | none :: l, n, t => T.go l (Nat.succ n) t
  | some a :: l, n, t => match t.set n a with
    | .leaf => .leaf
    | .node x y z => T.go l (Nat.succ n) (.node x y z)
noncomputable def T.ofOpts (l : List (Option α)) : T α := T.go l 0 .leaf
noncomputable def T.ofList (l : List α) : T α := T.ofOpts (l.map some)
/-! A number that is handed on worked out. -/
def fNat (n : Nat) (f : Nat → β) : β := match n with
  | 0 => f 0
  | k + 1 => f (Nat.succ k)
def fInt (n : Int) (f : Int → β) : β := match n with
  | .ofNat k => fNat k fun k => f (.ofNat k)
  | .negSucc k => fNat k fun k => f (.negSucc k)
def no (_ : Nat) : Option β := none
/-- How a piece of code is left. -/
inductive Ex where
  | normal
  | exit (id : Nat)
  | ret
/-- A block. cells: its elements' type; whether its true size is not known (an append has made it); how many cells are known; these cells. loop: a range over a function: its state (0 ready, 1 busy, 2 done, 3 exhausted), how it is to be left, the block of its deferred calls, how many temporaries, these. -/
inductive Ob where
  | cells (elem : TypeId) (opn : Bool) (n : Nat) (c : T Value)
  | loop (st : Nat) (pend : Option Ex) (df nt : Nat) (tm : T Value) (ps : List Tmp) (asg body : Code)
  | defer
  | dead
  | map (es : List (Value × Value))
  | iter (s : ByteArray) (pos : Nat)
structure TI where
  und : TypeDesc
  size : Nat
  bytes : Nat
  zero : List Value
  /-- A struct's fields, where each is a number, a Boolean or a string, and is named. -/
  eqs : Option (List (Nat × TypeId))
  meths : Array Method
  /-- The zero value, where it lies in one cell. -/
  z1 : Option Value
/-- The heap: the next number, the blocks. -/
structure H where
  nx : Nat
  t : T Ob
/-- A call that has been worked out on its own: its arguments, the blocks it may look at (elements' type, whether the true size is not known, the cells); its value, what these blocks are then. -/
structure Ent where
  k : FuncId
  nx : Nat
  args : List Value
  g : List (Nat × TypeId × Bool × List Value)
  v : Value
  nx' : Nat
  g' : List (Nat × TypeId × Bool × List Value)
structure Env where
  ty : T TI
  fn : T Func
  orc : List Ent
noncomputable def H.new (h : H) (o : Ob) (k : Nat → H → Option β) : Option β :=
  match h with
  | ⟨nx, t⟩ => match t.set nx o with
    | .leaf => no 1
    | .node x y z => fNat (Nat.succ nx) fun n => k nx ⟨n, .node x y z⟩
noncomputable def setH (h : H) (b : Nat) (o : Ob) (f : H → Option β) : Option β := match h with
  | ⟨nx, t⟩ => match t.set b o with
    | .leaf => no 2
    | .node x y z => f ⟨nx, .node x y z⟩
noncomputable def loadL (c : T Value) : Nat → Nat → Option (List Value)
  | 0, _ => some []
  | n + 1, i => match c.get i with
    | some v => match loadL c n (Nat.succ i) with
      | some l => some (v :: l)
      | none => none
    | none => no 3
/-- What lies in one cell, and is known. -/
def oneC : Value → Bool
  | .agg _ | .tuple _ => false
  | .complex _ _ b => match b with
    | 0 => false
    | _ => true
  | _ => true
/-- Cells that are there are changed. -/
noncomputable def storeL (c : T Value) (i : Nat) : List Value → Option (T Value)
  | [] => some c
  | v :: l => match c.get i with
    | some _ => match oneC v with
      | true => match c.set i v with
        | .leaf => no 4
        | .node x y z => storeL (.node x y z) (Nat.succ i) l
      | false => no 5
    | none => no 6
def cellsL : Value → List Value
  | .agg ⟨l⟩ => l
  | v => [v]
def wrapF (k : IntKind) (n : Int) : Int :=
  match k with
  | .i64 => match Int.emod n 18446744073709551616 with
    | .ofNat m => match Nat.ble 9223372036854775808 m with
      | true => Int.subNatNat m 18446744073709551616
      | false => .ofNat m
    | .negSucc m => .negSucc m
  | .u8 => Int.emod n 256
  | .u16 => Int.emod n 65536
  | .u32 => Int.emod n 4294967296
  | .u64 => Int.emod n 18446744073709551616
  | .i8 => IntKind.wrap .i8 n
  | .i16 => IntKind.wrap .i16 n
  | .i32 => IntKind.wrap .i32 n
def leI (a b : Int) : Bool := match a, b with
  | .ofNat x, .ofNat y => Nat.ble x y
  | .ofNat _, .negSucc _ => false
  | .negSucc _, .ofNat _ => true
  | .negSucc x, .negSucc y => Nat.ble y x
def eqI (a b : Int) : Bool := match a, b with
  | .ofNat x, .ofNat y => Nat.beq x y
  | .negSucc x, .negSucc y => Nat.beq x y
  | .ofNat _, .negSucc _ => false
  | .negSucc _, .ofNat _ => false
def bArith (op : BinOp) (k : IntKind) (a b : Int) : Option Value :=
  match op with
  | .add => some (.int k (wrapF k (Int.add a b)))
  | .sub => some (.int k (wrapF k (Int.sub a b)))
  | .mul => some (.int k (wrapF k (Int.mul a b)))
  | .quo => match eqI b 0 with | true => no 7 | false => some (.int k (wrapF k (Int.tdiv a b)))
  | .rem => match eqI b 0 with | true => no 8 | false => some (.int k (Int.tmod a b))
  | .shl => match leI 0 b with | false => no 9 | true => some (.int k (wrapF k (Int.mul a (Int.ofNat (Nat.pow 2 (Nat.min b.toNat k.bits))))))
  | .shr => match leI 0 b with | false => no 10 | true => some (.int k (Int.fdiv a (Int.ofNat (Nat.pow 2 (Nat.min b.toNat k.bits)))))
  | .and => match a, b with
    | .ofNat a, .ofNat b => some (.int k (wrapF k (.ofNat (Nat.land a b))))
    | _, _ => no 11
  | .or => match a, b with
    | .ofNat a, .ofNat b => some (.int k (wrapF k (.ofNat (Nat.lor a b))))
    | _, _ => no 12
  | .xor => match a, b with
    | .ofNat a, .ofNat b => some (.int k (wrapF k (.ofNat (Nat.xor a b))))
    | _, _ => no 13
  | _ => no 14
def bCmp (op : BinOp) (k : IntKind) (a b : Int) : Option Value :=
  match op with
  | .eql => some (.bool (eqI a b))
  | .neq => some (.bool (!eqI a b))
  | .lss => some (.bool (!leI b a))
  | .leq => some (.bool (leI a b))
  | .gtr => some (.bool (!leI a b))
  | .geq => some (.bool (leI b a))
  | op => bArith op k a b
def bEq (op : BinOp) (r : Bool) : Option Value := match op with
  | .eql => some (.bool r)
  | .neq => some (.bool (!r))
  | _ => no 15
def bStr (op : BinOp) (a b : ByteArray) : Option Value := match op with
  | .eql => some (.bool (a.toList == b.toList))
  | .neq => some (.bool (!(a.toList == b.toList)))
  | .lss => some (.bool (Op.bytesLess a.toList b.toList))
  | .leq => some (.bool (Op.bytesLess a.toList b.toList || a.toList == b.toList))
  | .gtr => some (.bool (!(Op.bytesLess a.toList b.toList || a.toList == b.toList)))
  | .geq => some (.bool (!Op.bytesLess a.toList b.toList))
  | _ => no 15
def aUn (op : UnOp) (x : Value) : Option Value :=
  match op with
  | .neg => match x with
    | .int k a => some (.int k (wrapF k (Int.sub 0 a)))
    | _ => no 27
  | .not => match x with
    | .bool b => some (.bool (!b))
    | _ => no 28
  | _ => no 29
def addA (a : Addr) (n : Nat) : Addr := match a with
  | ⟨b, o, _⟩ => ⟨b, Nat.add o n, none⟩
def isAggD : TypeDesc → Bool
  | .struct _ | .array _ _ => true
  | _ => false
def isSlD : TypeDesc → Bool
  | .slice _ => true
  | _ => false
def nth : List α → Nat → Option α
  | [], _ => none
  | a :: l, n => match n with
    | 0 => some a
    | k + 1 => nth l k
/-- What an operation comes to; what comes of the heap is not worked out yet. -/
inductive Eff where
  | val (v : Value)
  | load (agg : Bool) (n : Nat) (a : Addr)
  | str (a : Addr) (n : Nat)
  | new (elem : TypeId) (n : Nat) (cs : List Value) (sl : Option (Nat × Nat))
  | newS (elem : TypeId) (n : Nat) (cs : List Value)
  | store (n : Nat) (a : Addr) (v : Value)
  | append (size bytes : Nat) (elem : TypeId) (base : Option Addr) (n cap m : Nat) (new : List Value ⊕ Addr)
  | copy (size : Nat) (a : Addr) (m : Nat) (src : Addr)
  | freeze (a : Addr) (n c : Nat)
  | capOf (b c : Nat)
  | newM
  | look (kt : TypeId) (b : Nat) (k z : Value) (ok : Bool)
  | upd (kt : TypeId) (b : Nat) (k v : Value)
  | newI (s : ByteArray)
  | enterM (f : FuncId) (agg : Bool) (n : Nat) (a : Addr) (args : List Value)
  | fill (a : Addr) (l : List Value)
  | nxt (b : Nat)
  | enter (f : FuncId) (args : List Value)
  | round (l : Nat) (args : List Value)
def isLeafD : TypeDesc → Bool
  | .int _ => true
  | .bool => true
  | .string => true
  | _ => false
/-- Two numbers of a kind, two Booleans, two strings. -/
def eqLeaf (d : TypeDesc) (u v : Value) : Option Bool := match d with
  | .int _ => match u with
    | .int k a => match v with
      | .int k' b => match decide (k = k') with
        | true => some (eqI a b)
        | false => no 170
      | _ => no 171
    | _ => no 172
  | .bool => match u with
    | .bool a => match v with
      | .bool b => some (a == b)
      | _ => no 173
    | _ => no 174
  | .string => match u with
    | .string a => match v with
      | .string b => some (a.data.toList == b.data.toList)
      | _ => no 175
    | _ => no 176
  | _ => no 177
noncomputable def eqOffs (E : Env) (xs ys : List Value) : List (Nat × TypeId) → Option Bool
  | [] => some true
  | (o, t) :: l => match E.ty.get t with
    | some i => match nth xs o with
      | some u => match nth ys o with
        | some v => match eqLeaf i.und u v with
          | some b => match b with
            | true => eqOffs E xs ys l
            | false => some false
          | none => none
        | none => no 178
      | none => no 179
    | none => no 180
/-- Two values of a type: numbers, Booleans, strings, structs of these. -/
noncomputable def eqA (E : Env) (t : TypeId) (x y : Value) : Option Bool := match E.ty.get t with
  | some i => match i.eqs with
    | some l => match x with
      | .agg xs => match y with
        | .agg ys => eqOffs E xs.toList ys.toList l
        | _ => no 181
      | _ => no 182
    | none => eqLeaf i.und x y
  | none => no 183
/-- Two slices, functions, pointers, of which one is nil; two Booleans; two strings. -/
noncomputable def bOther (E : Env) (t : TypeId) (op : BinOp) (x y : Value) : Option Value :=
  match x with
  | .string a => match y with
    | .string b => bStr op a b
    | _ => no 23
  | .agg xs => match y with
    | .agg ys => match E.ty.get t with
      | some i => match i.eqs with
        | some l => match eqOffs E xs.toList ys.toList l with
          | some b => bEq op b
          | none => none
        | none => no 184
      | none => no 185
    | _ => no 186
  | x => match E.ty.get t with
    | some i => match i.und with
      | .bool => match x with
        | .bool a => match y with
          | .bool b => bEq op (a == b)
          | _ => no 16
        | _ => no 151
      | .slice _ => match x with
        | .slice a _ _ => match y with
          | .slice b _ _ => match a with
            | none => bEq op b.isNone
            | some _ => match b with
              | none => bEq op false
              | some _ => no 17
          | _ => no 18
        | _ => no 152
      | .pointer _ => match x with
        | .pointer a => match y with
          | .pointer b => match a with
            | none => bEq op b.isNone
            | some _ => match b with
              | none => bEq op false
              | some _ => no 19
          | _ => no 20
        | _ => no 153
      | .func _ _ _ => match x with
        | .nilFunc => match y with
          | .nilFunc => bEq op true
          | .func _ _ _ => bEq op false
          | _ => no 21
        | .func _ _ _ => match y with
          | .nilFunc => bEq op false
          | _ => no 22
        | _ => no 154
      | _ => no 24
    | none => no 155
noncomputable def aBin (E : Env) (t : TypeId) (op : BinOp) (x y : Value) : Option Value :=
  match x with
  | .int k a => match y with
    | .int k' b => match op with
      | .shl | .shr => bArith op k a b
      | op => match decide (k = k') with
        | true => bCmp op k a b
        | false => no 25
    | _ => no 26
  | x => bOther E t op x y
noncomputable def Env.elem (E : Env) (t : TypeId) : Option (TypeId × TI) := match E.ty.get t with
  | some i => match i.und with
    | .slice e => match E.ty.get e with
      | some j => match Nat.beq j.size 0 with
        | true => no 30
        | false => some (e, j)
      | none => none
    | _ => none
  | none => none
def repL (l : List α) : Nat → List α
  | 0 => []
  | n + 1 => l ++ repL l n
/-- Parts that are laid into cells. -/
def fillL (pl : Nat → Option (Nat × Nat)) (cs : List Value) : List (Nat × Value) → Option (List Value)
  | [] => some cs
  | (i, v) :: l => match pl i with
    | some (off, size) => match Nat.beq (cellsL v).length size && (cellsL v).all oneC with
      | true => match Nat.ble (Nat.add off size) cs.length with
        | true => fillL pl (cs.take off ++ (cellsL v ++ cs.drop (Nat.add off size))) l
        | false => no 31
      | false => no 32
    | none => no 33
noncomputable def fieldPl (E : Env) (fs : List Field) (k : Nat) : Option (Nat × Nat) := match nth fs k with
  | some g => match E.ty.get g.type with
    | some j => some (g.offset, j.size)
    | none => none
  | none => none
noncomputable def part (E : Env) (t : TypeId) (cs : List Value) (off : Nat) : Option Value :=
  match E.ty.get t with
  | some i => match isAggD i.und with
    | true => match Nat.ble (Nat.add off i.size) cs.length with
      | true => some (.agg ⟨(cs.drop off).take i.size⟩)
      | false => no 34
    | false => nth cs off
  | none => no 35
def bnd (ρ : Operand → Value) (o : Option Operand) (d : Nat) : Option Nat :=
  match o with
  | none => some d
  | some x => match ρ x with
    | .int _ n => match n with
      | .ofNat k => some k
      | .negSucc _ => no 36
    | _ => no 37
def bytesV (s : ByteArray) : List Value := s.data.toList.map fun b => Value.int .u8 b.toNat
noncomputable def oBuild (E : Env) (t : TypeId) (ps : List (Nat × Value)) : Option Eff := match E.ty.get t with
  | some i => match i.und with
    | .struct fs => match fs.toList.all fun g => (E.ty.get g.type).isSome with
      | true => match fillL (fieldPl E fs.toList) i.zero ps with
        | some cs => some (.val (.agg ⟨cs⟩))
        | none => none
      | false => no 157
    | .array _ e => match E.ty.get e with
      | some j => match fillL (fun k => some (Nat.mul k j.size, j.size)) i.zero ps with
        | some cs => some (.val (.agg ⟨cs⟩))
        | none => none
      | none => none
    | _ => no 38
  | none => no 39
noncomputable def oBuildSlice (E : Env) (t : TypeId) (len : Nat) (ps : List (Nat × Value)) : Option Eff := match E.elem t with
  | some (e, j) => match Nat.ble (Nat.mul len j.size) 65536 with
    | true => match fillL (fun k => some (Nat.mul k j.size, j.size)) (repL j.zero len) ps with
      | some cs => some (.new e (Nat.mul len j.size) cs (some (len, len)))
      | none => none
    | false => no 40
  | none => no 41
noncomputable def oLoad (E : Env) (t : TypeId) (a : Value) : Option Eff := match a with
  | .pointer a => match a with
    | some a => match E.ty.get t with
      | some i => some (.load (isAggD i.und) i.size a)
      | none => no 42
    | none => no 43
  | _ => no 44
noncomputable def oStore (E : Env) (t : TypeId) (a v : Value) : Option Eff := match a with
  | .pointer a => match a with
    | some a => match E.ty.get t with
      | some i => some (.store i.size a v)
      | none => no 45
    | none => no 46
  | _ => no 47
def oNilCheck (v : Value) : Option Eff := match v with
  | .pointer a => match a with
    | some a => some (.val (.pointer (some a)))
    | none => no 48
  | .func g a b => match g with
    | .func k => some (.val (.func (.func k) a b))
    | _ => no 49
  | _ => no 50
noncomputable def oConvert (E : Env) (s d : TypeId) (v : Value) : Option Eff := match E.ty.get d, E.ty.get s with
  | some i, some is => match v with
    | .int _ n => match i.und with
      | .int k => some (.val (.int k (wrapF k n)))
      | _ => no 51
    | .slice a n c => match i.und with
      | .string => match a with
        | none => no 156
        | some a => match E.elem s with
          | some (_, j) => match j.und with
            | .int k => match k with
              | .u8 => match n with
                | 0 => some (.val (.string ByteArray.empty))
                | _ => some (.str a n)
              | _ => no 52
            | _ => no 53
          | none => no 54
      | .slice e => match a with
        | some a => match isSlD is.und && Nat.beq s d, E.ty.get e with
          | true, some j => match j.und with
            | .int k => match k with
              | .u8 => some (.freeze a n c)
              | _ => no 55
            | _ => no 56
          | _, _ => no 57
        | none => no 58
      | _ => no 59
    | .string b => match i.und with
      | .slice e => match E.ty.get e with
        | some j => match j.und with
          | .int k => match k with
            | .u8 => match Nat.beq j.size 1 with
              | true => some (.newS e (bytesV b).length (bytesV b))
              | false => no 159
            | _ => no 60
          | _ => no 61
        | none => no 62
      | .string => some (.val (.string b))
      | _ => no 63
    | _ => no 64
  | _, _ => no 65
noncomputable def oMakeSlice (E : Env) (t : TypeId) (l c : Value) : Option Eff := match E.elem t with
  | some (e, j) => match l with
    | .int _ l => match l with
      | .ofNat n => match c with
        | .int _ c => match c with
          | .ofNat m => match Nat.ble n m, Nat.ble (Nat.mul m (Nat.add j.bytes j.size)) 16777216 with
            | true, true => some (.new e (Nat.mul m j.size) (repL j.zero m) (some (n, m)))
            | _, _ => no 66
          | _ => no 67
        | _ => no 68
      | _ => no 69
    | _ => no 70
  | none => no 71
/-- A spot that is told empties the address. -/
def noSpot (a : Addr) : Bool := match a.spot with
  | none => true
  | some k => Nat.beq k 0
/-- (A slice's address whose 'spot' is 0 has its capacity told, whatever its block is; whose 'spot' is 1: an empty slice, nothing else is told of it.) -/
noncomputable def oSlice (E : Env) (ρ : Operand → Value) (t : TypeId) (x : Value) (lo hi mx : Option Operand) : Option Eff := match x with
  | .slice a n c => match E.elem t with
    | some (_, j) => match (match mx with
        | none => bnd ρ mx c
        | some _ => match hi with
          | some _ => bnd ρ mx c
          | none => no 158) with
      | some m => match bnd ρ hi n with
        | some hi => match bnd ρ lo 0 with
          | some lo => match Nat.ble lo hi, Nat.ble hi m, Nat.ble m c with
            | true, true, true => match a with
              | none => some (.val (.slice none (Nat.sub hi lo) (Nat.sub m lo)))
              | some a => match a with
                | ⟨b, o, sp⟩ => match noSpot ⟨b, o, sp⟩, mx.isSome, Nat.beq m lo with
                  | false, _, _ => some (.val (.slice (some ⟨b, o, some 1⟩) 0 0))
                  | true, true, true => some (.val (.slice (some ⟨b, o, some 0⟩) (Nat.sub hi lo) (Nat.sub m lo)))
                  | true, true, false => some (.val (.slice (some ⟨b, Nat.add o (Nat.mul lo j.size), some 0⟩) (Nat.sub hi lo) (Nat.sub m lo)))
                  | true, false, false => some (.val (.slice (some ⟨b, Nat.add o (Nat.mul lo j.size), sp⟩) (Nat.sub hi lo) (Nat.sub m lo)))
                  | true, false, true => match lo with
                    | 0 => some (.val (.slice (some ⟨b, o, sp⟩) (Nat.sub hi lo) (Nat.sub m lo)))
                    | _ => some (.val (.slice (some ⟨b, o, some 1⟩) 0 0))
            | _, _, _ => no 72
          | none => none
        | none => none
      | none => none
    | none => no 73
  | .string s => match bnd ρ hi s.size, bnd ρ lo 0, mx with
    | some hi, some lo, none => match Nat.ble lo hi, Nat.ble hi s.size, E.ty.get t with
      | true, true, some i => match i.und with
        | .string => some (.val (.string (s.extract lo hi)))
        | _ => no 74
      | _, _, _ => no 75
    | _, _, _ => no 76
  | _ => no 77
noncomputable def oFieldAddr (E : Env) (s : TypeId) (x : Value) (k : Nat) : Option Eff := match x with
  | .pointer a => match a with
    | some a => match E.ty.get s with
      | some i => match i.und with
        | .struct fs => match fieldPl E fs.toList k with
          | some (off, size) => match Nat.beq size 0 with
            | true => no 78
            | false => some (.val (.pointer (some (addA a off))))
          | none => no 79
        | _ => no 80
      | none => no 81
    | none => no 82
  | _ => no 83
noncomputable def oField (E : Env) (t : TypeId) (x : Value) (k : Nat) : Option Eff := match x with
  | .agg cs => match E.ty.get t with
    | some i => match i.und with
      | .struct fs => match nth fs.toList k with
        | some g => match part E g.type cs.toList g.offset with
          | some v => some (.val v)
          | none => none
        | none => no 84
      | _ => no 85
    | none => no 86
  | _ => no 87
noncomputable def oIndexAddr (E : Env) (t : TypeId) (x i : Value) : Option Eff := match i with
  | .int _ z => match z with
    | .ofNat k => match E.ty.get t with
      | some i => match i.und with
        | .slice e => match E.ty.get e with
          | some j => match x with
            | .slice a n _ => match a with
              | some a => match Nat.ble n k with
                | false => some (.val (.pointer (some (addA a (Nat.mul k j.size)))))
                | true => no 88
              | none => no 89
            | _ => no 90
          | none => no 91
        | .array n e => match E.ty.get e with
          | some j => match x with
            | .pointer a => match a with
              | some a => match Nat.ble n k with
                | false => some (.val (.pointer (some (addA a (Nat.mul k j.size)))))
                | true => no 92
              | none => no 93
            | _ => no 94
          | none => no 95
        | _ => no 96
      | none => no 97
    | .negSucc _ => no 98
  | _ => no 99
noncomputable def oIndex (E : Env) (t : TypeId) (x i : Value) : Option Eff := match i with
  | .int _ z => match z with
    | .ofNat k => match x with
      | .string s => match E.ty.get t with
        | some i => match i.und with
          | .string => match nth (bytesV s) k with
            | some v => some (.val v)
            | none => no 100
          | _ => no 101
        | none => no 102
      | .agg cs => match E.ty.get t with
        | some i => match i.und with
          | .array n e => match E.ty.get e with
            | some j => match Nat.ble n k with
              | false => match part E e cs.toList (Nat.mul k j.size) with
                | some v => some (.val v)
                | none => none
              | true => no 146
            | none => no 147
          | _ => no 148
        | none => no 149
      | _ => no 103
    | .negSucc _ => no 104
  | _ => no 105
def oExtract (x : Value) (k : Nat) : Option Eff := match x with
  | .tuple l => match nth l.toList k with
    | some v => some (.val v)
    | none => no 106
  | _ => no 107
def oMax (mx : Bool) (l : List Value) : Option Eff := match l with
  | [x, y] => match x with
    | .int k a => match y with
      | .int _ b => match mx with
        | true => match leI b a with
          | true => some (.val (.int k a))
          | false => some (.val (.int k b))
        | false => match leI a b with
          | true => some (.val (.int k a))
          | false => some (.val (.int k b))
      | _ => no 108
    | _ => no 109
  | _ => no 110
noncomputable def oLen (E : Env) (ts : List TypeId) (l : List Value) : Option Eff := match l, ts with
  | [x], t :: _ => match E.ty.get t with
    | some i => match i.und with
      | .slice _ => match x with
        | .slice _ n _ => some (.val (.int .i64 (.ofNat n)))
        | _ => no 111
      | .string => match x with
        | .string s => some (.val (.int .i64 (.ofNat s.size)))
        | _ => no 112
      | _ => no 113
    | none => no 114
  | _, _ => no 115
/-- (The capacity is known where the slice is nil, or told.) -/
noncomputable def oCap (E : Env) (ts : List TypeId) (l : List Value) : Option Eff := match l, ts with
  | [x], t :: _ => match E.ty.get t with
    | some i => match i.und with
      | .slice _ => match x with
        | .slice a _ c => match a with
          | none => some (.val (.int .i64 (.ofNat c)))
          | some a => match a.spot with
            | some q => match q with
              | 0 => some (.val (.int .i64 (.ofNat c)))
              | _ => no 145
            | none => some (.capOf a.block c)
        | _ => no 116
      | _ => no 117
    | none => no 118
  | _, _ => no 119
noncomputable def oAppend (E : Env) (ts : List TypeId) (l : List Value) : Option Eff := match l with
  | [s, x] => match ts with
    | [t, u] => match E.elem t, s with
      | some (e, j), .slice base n cap => match E.ty.get u with
        | some i => match i.und with
          | .int _ => match x with
            | .int _ z => match z with
              | .ofNat m => match Nat.ble (Nat.mul m (Nat.succ j.bytes)) 1099511627776 with
                | true => some (.append j.size j.bytes e base n cap m (.inl (repL j.zero m)))
                | false => no 160
              | .negSucc _ => no 120
            | _ => no 121
          | .slice _ => match x with
            | .slice a m _ => match a with
              | some a => match m with
                | 0 => some (.append j.size j.bytes e base n cap 0 (.inl []))
                | _ => some (.append j.size j.bytes e base n cap m (.inr a))
              | none => match m with
                | 0 => some (.append j.size j.bytes e base n cap 0 (.inl []))
                | _ => no 122
            | _ => no 123
          | .string => match x with
            | .string b => match Nat.beq j.size 1 with
              | true => some (.append j.size j.bytes e base n cap b.size (.inl (bytesV b)))
              | false => no 161
            | _ => no 124
          | _ => no 125
        | none => no 126
      | _, _ => no 127
    | _ => no 128
  | _ => no 129
noncomputable def oCopy (E : Env) (ts : List TypeId) (l : List Value) : Option Eff := match l with
  | [s, x] => match ts with
    | t :: _ => match E.elem t, s, x with
      | some (e, j), .slice a n _, .slice b m _ => match a, b with
        | some a, some b => match Nat.min m n with
          | 0 => some (.val (.int .i64 0))
          | k => some (.copy j.size a k b)
        | _, _ => no 130
      | _, _, _ => no 131
    | _ => no 132
  | _ => no 133
noncomputable def oClear (E : Env) (ts : List TypeId) (l : List Value) : Option Eff := match l, ts with
  | [x], t :: _ => match E.elem t with
    | some (_, j) => match x with
      | .slice a n _ => match a with
        | none => some (.val (.tuple ⟨[]⟩))
        | some a => match n with
          | 0 => some (.val (.tuple ⟨[]⟩))
          | _ => some (.fill a (repL j.zero n))
      | _ => no 310
    | none => no 311
  | _, _ => no 312
noncomputable def oBuiltin (E : Env) (b : Builtin) (ts : List TypeId) (l : List Value) : Option Eff := match b with
  | .len => oLen E ts l
  | .cap => oCap E ts l
  | .max => oMax true l
  | .min => oMax false l
  | .append => oAppend E ts l
  | .copy => oCopy E ts l
  | .clear => oClear E ts l
  | _ => no 134
def isIfD : TypeDesc → Bool
  | .interface _ => true
  | _ => false
noncomputable def oIface (E : Env) (t : TypeId) (x : Value) : Option Eff := match E.ty.get t with
  | some i => match isIfD i.und with
    | false => some (.val (.iface t x))
    | true => no 320
  | none => no 321
noncomputable def oAssert (E : Env) (x : Value) (t : TypeId) (ok : Bool) : Option Eff := match E.ty.get t with
  | some i => match isIfD i.und with
    | false => match x with
      | .iface t' v => match Nat.beq t' t with
        | true => match ok with
          | true => some (.val (.tuple ⟨[v, .bool true]⟩))
          | false => some (.val v)
        | false => no 322
      | _ => no 323
    | true => no 324
  | none => no 325
/-- A method that is a function: of a pointer or of a value that is no pointer; of the variable that a pointer points to. -/
noncomputable def oMeth (E : Env) (t : TypeId) (name : String) (v : Value) (args : List Value) : Option Eff := match E.ty.get t with
  | some i => match i.meths.find? (·.name == name) with
    | some m => match m.path.isEmpty, m.func with
      | true, some (f, pr) => match i.und with
        | .pointer el => match pr with
          | true => some (.enter f (v :: args))
          | false => match E.ty.get el with
            | some j => match v with
              | .pointer a => match a with
                | some a => some (.enterM f (isAggD j.und) j.size a args)
                | none => no 326
              | _ => no 331
            | none => no 332
        | _ => match pr with
          | true => no 327
          | false => some (.enter f (v :: args))
      | _, _ => no 328
    | none => no 329
  | none => no 330
noncomputable def oCall (E : Env) (ρ : Operand → Value) (c : Call) : Option Eff := match c.callee with
  | .value g => match ρ g with
    | .func g a b => match g with
      | .func k => some (.enter k (a.toList ++ (c.args.toList.map ρ ++ b.toList)))
      | .yield l => match a.toList with
        | [] => some (.round l (c.args.toList.map ρ))
        | _ => no 135
      | _ => no 136
    | _ => no 137
  | .builtin b => oBuiltin E b c.argTypes.toList (c.args.toList.map ρ)
  | .invoke r name => match ρ r with
    | .iface t v => oMeth E t name v (c.args.toList.map ρ)
    | _ => no 138
def leafKey : Value → Bool
  | .bool _ | .int _ _ | .string _ => true
  | _ => false
/-- A key that a map may be asked for. -/
def keyOk : Value → Bool
  | .agg l => l.toList.all leafKey
  | v => leafKey v
/-- A key is one of its type. -/
noncomputable def keyT (E : Env) (t : TypeId) (k : Value) : Bool := match E.ty.get t with
  | some i => match i.eqs with
    | some l => match k with
      | .agg xs => l.all fun p => (nth xs.toList p.1).isSome
      | _ => false
    | none => isLeafD i.und && leafKey k
  | none => false
noncomputable def oLook (E : Env) (t : TypeId) (x k : Value) (ok : Bool) : Option Eff := match E.ty.get t with
  | some i => match i.und with
    | .map kt el => match E.ty.get el with
      | some j => match j.z1 with
        | some z => match keyOk k && keyT E kt k with
          | true => match x with
            | .map b => match b with
              | some b => some (.look kt b k z ok)
              | none => no 187
            | _ => no 188
          | false => no 189
        | none => no 190
      | none => no 191
    | _ => no 192
  | none => no 193
noncomputable def oUpd (E : Env) (t : TypeId) (x k v : Value) : Option Eff := match E.ty.get t with
  | some i => match i.und with
    | .map kt _ => match keyOk k && keyT E kt k with
      | true => match x with
        | .map b => match b with
          | some b => some (.upd kt b k v)
          | none => no 194
        | _ => no 195
      | false => no 196
    | _ => no 197
  | none => no 198
noncomputable def oRange (E : Env) (t : TypeId) (x : Value) : Option Eff := match E.ty.get t with
  | some i => match i.und with
    | .string => match x with
      | .string s => some (.newI s)
      | _ => no 300
    | _ => no 301
  | none => no 302
def oNext (it : Value) (str : Bool) : Option Eff := match str with
  | true => match it with
    | .pointer a => match a with
      | some a => match a with
        | ⟨b, o, _⟩ => match o with
          | 0 => some (.nxt b)
          | _ => no 303
      | none => no 304
    | _ => no 305
  | false => no 306
def pρ (ρ : Operand → Value) (ps : Array (Nat × Operand)) : List (Nat × Value) := ps.toList.map fun p => (p.1, ρ p.2)
def sV : Option Value → Option Eff
  | some v => some (.val v)
  | none => none
noncomputable def aOp (E : Env) (ρ : Operand → Value) (o : Op) : Option Eff :=
  match o with
  | .move x => some (.val (ρ x))
  | .assign x => some (.val (ρ x))
  | .pick c a b => match ρ c with
    | .bool t => match t with
      | true => some (.val (ρ a))
      | false => some (.val (ρ b))
    | _ => no 139
  | .alloc e => match E.ty.get e with
    | some i => some (.new e i.size i.zero none)
    | none => no 140
  | .box e x => match (cellsL (ρ x)).all oneC with
    | true => some (.new e (cellsL (ρ x)).length (cellsL (ρ x)) none)
    | false => no 150
  | .build t ps => oBuild E t (pρ ρ ps)
  | .buildSlice t len ps => oBuildSlice E t len (pρ ρ ps)
  | .load t a => oLoad E t (ρ a)
  | .store t a x => oStore E t (ρ a) (ρ x)
  | .nilCheck x => oNilCheck (ρ x)
  | .binOp op t x y _ => sV (aBin E t op (ρ x) (ρ y))
  | .unOp op _ x => sV (aUn op (ρ x))
  | .convert s d x => oConvert E s d (ρ x)
  | .makeFunc fn a b => match fn with
    | .func k => some (.val (.func (.func k) ⟨a.toList.map ρ⟩ ⟨b.toList.map ρ⟩))
    | _ => no 141
  | .makeSlice t l c => oMakeSlice E t (ρ l) (ρ c)
  | .slice t x lo hi mx => oSlice E ρ t (ρ x) lo hi mx
  | .fieldAddr s x k => oFieldAddr E s (ρ x) k
  | .field t x k => oField E t (ρ x) k
  | .indexAddr t x i => oIndexAddr E t (ρ x) (ρ i)
  | .index t x i => oIndex E t (ρ x) (ρ i)
  | .extract x k => oExtract (ρ x) k
  | .call c => oCall E ρ c
  | .makeMap _ r => match r with
    | none => some .newM
    | some _ => no 199
  | .makeInterface t x => oIface E t (ρ x)
  | .typeAssert x _ t ok => oAssert E (ρ x) t ok
  | .range t x => oRange E t (ρ x)
  | .next it str => oNext (ρ it) str
  | .lookup t x k ok => oLook E t (ρ x) (ρ k) ok
  | .mapUpdate t x k v => oUpd E t (ρ x) (ρ k) (ρ v)
  | .insert t x k v => oUpd E t (ρ x) (ρ k) (ρ v)
  | _ => no 142
/-- Values that bear no address. -/
def gr : Value → Bool
  | .bool _ | .int _ _ | .string _ | .nilFunc | .nilIface => true
  | .pointer a => a.isNone
  | .slice a n c => a.isNone && Nat.beq n 0 && Nat.beq c 0
  | .map a => a.isNone
  | _ => false
def grA : Value → Bool
  | .agg l => l.toList.all gr
  | v => gr v
/-- A value that is not known. -/
def top : Value := .complex .f32 0 0
/-- A value that is not known, but lies in one cell. -/
def top1 : Value := .complex .f32 0 1
noncomputable def evalO (tm : T Value) (x : Operand) : Value := match x with
  | .tmp t => match tm.get t with
    | some v => v
    | none => undef
  | .const v => match grA v with
    | true => v
    | false => top
  | .global _ => top
  | .func f => .func (.func f) ⟨[]⟩ ⟨[]⟩
def fAddr (a : Addr) (f : Addr → β) : β := match a with
  | ⟨b, o, s⟩ => fNat b fun b => fNat o fun o => f ⟨b, o, s⟩
def fVal (v : Value) (f : Value → β) : β :=
  match v with
  | .int k n => fInt n fun n => f (.int k n)
  | .bool b => match b with
    | true => f (.bool true)
    | false => f (.bool false)
  | .slice a n c => match a with
    | some a => fAddr a fun a => fNat n fun n => fNat c fun c => f (.slice (some a) n c)
    | none => fNat n fun n => fNat c fun c => f (.slice none n c)
  | .pointer a => match a with
    | some a => fAddr a fun a => f (.pointer (some a))
    | none => f (.pointer none)
  | .map a => match a with
    | some b => fNat b fun b => f (.map (some b))
    | none => f (.map none)
  | v => f v
/-- A temporary of nt is set. -/
noncomputable def put (nt : Nat) (tm : T Value) (d : Option Tmp) (v : Value) (f : T Value → Option β) : Option β :=
  match d with
  | none => f tm
  | some d => match Nat.blt d nt with
    | true => fVal v fun v => match tm.set d v with
      | .leaf => no 143
      | .node x y z => f (.node x y z)
    | false => no 144
end Go.Proofs.YtlhkaoccnpgkeaaGreat.Ev
