/- eval: the functions' second half: operations upon the heap, regions, code. -/
import Derived.Test.YtlhkaoccnpgkeaaGreatEvA
namespace Go.Proofs.YtlhkaoccnpgkeaaGreat.Ev
open Go
set_option linter.unusedVariables false
set_option linter.unusedSimpArgs false
variable {α : Type} {β : Type}
/-- What is read. -/
noncomputable def loadOb (o : Option Ob) (agg : Bool) (n : Nat) (a : Addr) : Option Value := match o with
  | some (.cells _ _ _ c) => match agg with
    | true => match loadL c n a.off with
      | some l => some (.agg ⟨l⟩)
      | none => none
    | false => c.get a.off
  | _ => no 200
def strB (l : List Value) : Option ByteArray := go l ByteArray.empty
where go : List Value → ByteArray → Option ByteArray
  | [], s => some s
  | .int k z :: l, s => match k with
    | .u8 => go l (s.push (UInt8.ofNat z.toNat))
    | _ => no 201
  | _, _ => no 202
noncomputable def strOb (o : Option Ob) (n : Nat) (a : Addr) : Option Value := match o with
  | some (.cells _ _ _ c) => match loadL c n a.off with
    | some l => match strB l with
      | some b => some (.string b)
      | none => none
    | none => none
  | _ => no 203
def eqV : Value → Value → Bool
  | .int k a, .int k' b => decide (k = k') && eqI a b
  | .bool a, .bool b => a == b
  | .string a, .string b => a.data.toList == b.data.toList
  | .pointer a, .pointer b => decide (a = b)
  | .slice a n c, .slice b m d => decide (a = b) && Nat.beq n m && Nat.beq c d
  | .nilFunc, .nilFunc => true
  | .agg a, .agg b => go a.toList b.toList
  | _, _ => false
where go : List Value → List Value → Bool
  | [], [] => true
  | .int k a :: l, .int k' b :: m => decide (k = k') && eqI a b && go l m
  | .bool a :: l, .bool b :: m => (a == b) && go l m
  | .pointer a :: l, .pointer b :: m => decide (a = b) && go l m
  | .slice a n c :: l, .slice b n' c' :: m => decide (a = b) && Nat.beq n n' && Nat.beq c c' && go l m
  | .nilFunc :: l, .nilFunc :: m => go l m
  | .string a :: l, .string b :: m => (a.data.toList == b.data.toList) && go l m
  | _, _ => false
/-- What a map holds for a key: where, what. -/
noncomputable def findM (E : Env) (kt : TypeId) (k : Value) : List (Value × Value) → Nat → Option (Option (Nat × Value))
  | [], _ => some none
  | (k', v) :: l, i => match eqA E kt k k' with
    | some b => match b with
      | true => match eqV k k' with
        | true => some (some (i, v))
        | false => no 274
      | false => findM E kt k l (Nat.succ i)
    | none => none
noncomputable def lookOb (E : Env) (kt : TypeId) (k z : Value) (ok : Bool) (o : Option Ob) : Option Value := match o with
  | some (.map es) => match findM E kt k es 0 with
    | some r => match r with
      | some (_, v) => match ok with
        | true => some (.tuple ⟨[v, .bool true]⟩)
        | false => some v
      | none => match ok with
        | true => some (.tuple ⟨[z, .bool false]⟩)
        | false => some z
    | none => none
  | _ => no 270
def setAt (p : Value × Value) : List (Value × Value) → Nat → List (Value × Value)
  | [], _ => []
  | q :: l, n => match n with
    | 0 => p :: l
    | k + 1 => q :: setAt p l k
noncomputable def doUpd (E : Env) (h : H) (kt : TypeId) (b : Nat) (k v : Value) (f : Value → H → Option β) : Option β := match h.t.get b with
  | some (.map es) => match findM E kt k es 0 with
    | some r => match r with
      | some (i, _) => setH h b (.map (setAt (k, v) es i)) fun h => f undef h
      | none => setH h b (.map (es ++ [(k, v)])) fun h => f undef h
    | none => none
  | _ => no 271
noncomputable def doFill (h : H) (a : Addr) (l : List Value) (f : Value → H → Option β) : Option β := match h.t.get a.block with
  | some (.cells e o k c) => match storeL c a.off l with
    | some c => setH h a.block (.cells e o k c) fun h => f (.tuple ⟨[]⟩) h
    | none => none
  | _ => no 273
noncomputable def doNext (h : H) (b : Nat) (f : Value → H → Option β) : Option β := match h.t.get b with
  | some (.iter s pos) => match Nat.blt pos s.size with
    | true => match Utf8.decode s pos with
      | (c, width) => fNat (Nat.add pos width) fun p => setH h b (.iter s p) fun h => f (.tuple ⟨[.bool true, .int .i64 (.ofNat pos), .int .i32 c]⟩) h
    | false => f (.tuple ⟨[.bool false]⟩) h
  | _ => no 272
noncomputable def doAppend (h : H) (size bytes : Nat) (e : TypeId) (base : Option Addr) (n cap m : Nat) (src : List Value ⊕ Addr) (f : Value → H → Option β) : Option β :=
  match (match src with
    | .inl l => some l
    | .inr a => match h.t.get a.block with
      | some (.cells _ _ _ c) => loadL c (Nat.mul m size) a.off
      | _ => no 204) with
  | none => none
  | some new => match new.all oneC, Nat.ble (Nat.mul (Nat.add n m) (Nat.succ bytes)) 1099511627776 with
    | true, true => match Nat.ble (Nat.add n m) cap with
      | true => match base with
        | none => match m with
          | 0 => f (.slice none n cap) h
          | _ => no 205
        | some a => match noSpot a, h.t.get a.block with
          | true, some (.cells e' o k c) => match storeL c (Nat.add a.off (Nat.mul n size)) new with
            | some c => setH h a.block (.cells e' o k c) fun h => f (.slice (some a) (Nat.add n m) cap) h
            | none => none
          | _, _ => no 206
      | false => match base with
        | none => match n with
          | 0 => H.new h (.cells e true (Nat.mul m size) (T.ofList new)) fun b h => f (.slice (some ⟨b, 0, none⟩) m m) h
          | _ => no 207
        | some a => match h.t.get a.block with
          | some (.cells e' o k c) => match loadL c (Nat.mul n size) a.off with
            | some old => match o, a.spot with
              | true, none => match Nat.beq a.off 0, Nat.beq (Nat.mul cap size) k, Nat.beq e e' with
                | true, true, true => setH h a.block .dead fun h => H.new h (.cells e true (Nat.mul (Nat.add n m) size) (T.ofList (old ++ new))) fun b h => f (.slice (some ⟨b, 0, none⟩) (Nat.add n m) (Nat.add n m)) h
                | _, _, _ => no 208
              | _, _ => match noSpot a with
                | true => H.new h (.cells e true (Nat.mul (Nat.add n m) size) (T.ofList (old ++ new))) fun b h => f (.slice (some ⟨b, 0, none⟩) (Nat.add n m) (Nat.add n m)) h
                | false => no 209
            | none => none
          | _ => no 210
    | _, _ => no 211
/-- Operations that change what is there. -/
noncomputable def doStore (h : H) (n : Nat) (a : Addr) (v : Value) (f : Value → H → Option β) : Option β :=
  match Nat.beq (cellsL v).length n, h.t.get a.block with
  | true, some (.cells e o k c) => match storeL c a.off (cellsL v) with
    | some c => setH h a.block (.cells e o k c) fun h => f undef h
    | none => none
  | _, _ => no 212
noncomputable def doCopy (h : H) (size : Nat) (a : Addr) (m : Nat) (b : Addr) (f : Value → H → Option β) : Option β :=
  match h.t.get b.block with
  | some (.cells _ _ _ c) => match loadL c (Nat.mul m size) b.off with
    | some l => match h.t.get a.block with
      | some (.cells e o k c) => match storeL c a.off l with
        | some c => setH h a.block (.cells e o k c) fun h => f (.int .i64 (.ofNat m)) h
        | none => none
      | _ => no 213
    | none => none
  | _ => no 214
noncomputable def doFreeze (h : H) (a : Addr) (n c : Nat) (f : Value → H → Option β) : Option β :=
  match noSpot a, h.t.get a.block with
  | true, some (.cells _ _ _ _) => f (.slice (some a) n c) h
  | _, _ => no 215
noncomputable def doCap (h : H) (b c : Nat) (f : Value → H → Option β) : Option β :=
  match h.t.get b with
  | some (.cells _ o _ _) => match o with
    | false => f (.int .i64 (.ofNat c)) h
    | true => no 216
  | _ => no 217
structure St where
  tm : T Value
  ms : List Nat
  hp : H
abbrev R := Option (Ex × St)
/-- Where code stands: how many temporaries its frame has; the range over a function whose body it is. -/
structure Cx where
  nt : Nat
  ro : Option Nat
abbrev Ev := Cx → Code → T Value → List Nat → H → R
noncomputable def resultsOf (E : Env) (tm : T Value) (h : H) : List ResultVar → Option (List Value)
  | [] => some []
  | .tmp t :: l => match resultsOf E tm h l with
    | some vs => some (evalO tm (.tmp t) :: vs)
    | none => none
  | .cell a t :: l => match evalO tm (.tmp a) with
    | .pointer a => match a with
      | some b => match E.ty.get t with
        | some i => match loadOb (h.t.get b.block) (isAggD i.und) i.size b, resultsOf E tm h l with
          | some v, some vs => some (v :: vs)
          | _, _ => no 218
        | none => none
      | none => no 219
    | _ => no 220
/-- The marks of a frame that is left: their blocks are shut. -/
noncomputable def killM : List Nat → H → (H → Option β) → Option β
  | [], h, f => f h
  | d :: l, h, f => match h.t.get d with
    | some .defer => setH h d .dead fun h => killM l h f
    | _ => no 222
def one : List Value → Value
  | [v] => v
  | vs => .tuple ⟨vs⟩
def noDup : List Nat → Bool
  | [] => true
  | a :: l => !(l.elem a) && noDup l
/-- Two values that are told alike. -/
def sameV : Value → Value → Bool
  | .int k a, .int k' b => decide (k = k') && eqI a b
  | .bool a, .bool b => a == b
  | .string a, .string b => a.data.toList == b.data.toList
  | .pointer a, .pointer b => decide (a = b)
  | .slice a n c, .slice b m d => decide (a = b) && Nat.beq n m && Nat.beq c d
  | .nilFunc, .nilFunc => true
  | .nilIface, .nilIface => true
  | .map a, .map b => decide (a = b)
  | .func (.func k) ⟨[]⟩ ⟨[]⟩, .func (.func k') ⟨[]⟩ ⟨[]⟩ => Nat.beq k k'
  | .complex .f32 0 b, .complex .f32 0 b' => Nat.beq b b'
  | _, _ => false
def sameL : List Value → List Value → Bool
  | [], [] => true
  | a :: l, b :: m => sameV a b && sameL l m
  | _, _ => false
def sameA0 : Value → Value → Bool
  | .agg ⟨l⟩, .agg ⟨m⟩ => sameL l m
  | u, v => sameV u v
def sameAs0 : List Value → List Value → Bool
  | [], [] => true
  | a :: l, b :: m => sameA0 a b && sameAs0 l m
  | _, _ => false
def sameA : Value → Value → Bool
  | .tuple ⟨l⟩, .tuple ⟨m⟩ => sameAs0 l m
  | u, v => sameA0 u v
def sameAs : List Value → List Value → Bool
  | [], [] => true
  | a :: l, b :: m => sameA a b && sameAs l m
  | _, _ => false
/-- These cells, from the i-th on, lie in a block. -/
noncomputable def subC (c : T Value) : Nat → List Value → Bool
  | _, [] => true
  | i, v :: l => match c.get i with
    | some u => sameV u v && subC c (Nat.succ i) l
    | none => false
/-- These blocks are in a heap. -/
noncomputable def subG (t : T Ob) : List (Nat × TypeId × Bool × List Value) → Bool
  | [] => true
  | (B, e, o, l) :: g => match t.get B with
    | some (.cells e' o' n c) => Nat.beq e e' && (o == o') && Nat.beq n l.length && subC c 0 l && subG t g
    | _ => false
noncomputable def mkG : List (Nat × TypeId × Bool × List Value) → T Ob → T Ob
  | [], t => t
  | (B, e, o, l) :: g, t => match t.set B (.cells e o l.length (T.ofList l)) with
    | .leaf => mkG g .leaf
    | .node x y z => mkG g (.node x y z)
/-- All blocks that it looked at are told of behind it; what is told of besides is new. -/
def domOk (nx : Nat) (g g' : List (Nat × TypeId × Bool × List Value)) : Bool :=
  (g.all fun p => g'.any fun q => Nat.beq p.1 q.1) && (g'.all fun q => Nat.ble nx q.1 || g.any fun p => Nat.beq p.1 q.1)
def findE (k nx : Nat) : List Ent → Option Ent
  | [] => none
  | e :: l => match Nat.beq e.k k && Nat.beq e.nx nx with
    | true => some e
    | false => findE k nx l
noncomputable def callG (E : Env) (ev : Ev) (k : FuncId) (args : List Value) (h : H) (f : Value → H → Option β) : Option β :=
  match E.fn.get k with
  | some fn => match fn.body with
    | some c => match Nat.ble args.length fn.ntmps with
      | true => match ev ⟨fn.ntmps, none⟩ c (T.ofList args) [] h with
        | some (x, s) => match x with
          | .exit _ => no 221
          | _ => match s with
            | ⟨tm, mk, h⟩ => killM mk h fun h => match resultsOf E tm h fn.results.toList with
              | some vs => f (one vs) h
              | none => none
        | none => none
      | false => no 223
    | none => no 224
  | none => no 225
/-- A call: one that has been worked out on its own is not worked out again. -/
noncomputable def callF (E : Env) (ev : Ev) (k : FuncId) (args : List Value) (h : H) (f : Value → H → Option β) : Option β :=
  match findE k h.nx E.orc with
  | none => callG E ev k args h f
  | some e => match sameAs args e.args && subG h.t e.g with
    | true => f e.v ⟨e.nx', mkG e.g' h.t⟩
    | false => no 226
noncomputable def setPs (nt : Nat) (tm : T Value) : List Tmp → List Value → Option (T Value)
  | [], [] => some tm
  | p :: ps, v :: vs => match Nat.blt p nt with
    | true => match tm.set p v with
      | .leaf => no 226
      | .node x y z => setPs nt (.node x y z) ps vs
    | false => no 227
  | _, _ => no 228
noncomputable def roundF (ev : Ev) (l : Nat) (args : List Value) (h : H) (f : Value → H → Option β) : Option β :=
  match h.t.get l with
  | some (.loop _ _ _ nt tm ps asg body) => match setPs nt tm ps args with
    | some tm' => match ev ⟨nt, some l⟩ asg tm' [] h with
      | some (x, s) => match x with
        | .normal => match s with
          | ⟨tm', mk, h⟩ => match mk, h.t.get l with
            | [], some (.loop st pend df nt1 tm1 ps1 asg1 body1) => match st with
              | 0 => setH h l (.loop 1 pend df nt1 tm1 ps1 asg1 body1) fun h => match ev ⟨nt, some l⟩ body tm' [] h with
                | some (x, s) => match s with
                  | ⟨_, _, h⟩ => match h.t.get l with
                    | some (.loop _ _ df nt2 tm2 ps2 asg2 body2) => match x with
                      | .normal => setH h l (.loop 0 none df nt2 tm2 ps2 asg2 body2) fun h => f (.bool true) h
                      | x => setH h l (.loop 2 (some x) df nt2 tm2 ps2 asg2 body2) fun h => f (.bool false) h
                    | _ => no 229
                | none => none
              | _ => no 230
            | _, _ => no 231
        | _ => no 232
      | none => none
    | none => none
  | _ => no 234
noncomputable def rangeG (E : Env) (ev : Ev) (cx : Cx) (g : Operand) (l : Nat) (tm : T Value) (mk : List Nat) (h : H) : R :=
  match evalO tm g with
  | .func fn a b => match fn with
    | .func k => callF E ev k (a.toList ++ (.func (.yield l) #[] #[] :: b.toList)) h fun _ h => match h.t.get l with
      | some (.loop st pend df nt1 tm1 ps1 asg1 body1) => match st with
        | 1 => no 235
        | _ => setH h l (.loop 3 pend df nt1 tm1 ps1 asg1 body1) fun h => match pend with
          | none => some (.normal, ⟨tm, mk, h⟩)
          | some x => some (x, ⟨tm, mk, h⟩)
      | _ => no 236
    | _ => no 237
  | _ => no 238
noncomputable def rangeF (E : Env) (ev : Ev) (cx : Cx) (g : Operand) (ps : List Tmp) (asg body : Code) (tm : T Value) (mk : List Nat) (h : H) : R :=
  match cx.ro with
  | none => H.new h .defer fun d h => H.new h (.loop 0 none d cx.nt tm ps asg body) fun l h => rangeG E ev cx g l tm (d :: mk) h
  | some l0 => match h.t.get l0 with
    | some (.loop _ _ d _ _ _ _ _) => H.new h (.loop 0 none d cx.nt tm ps asg body) fun l h => rangeG E ev cx g l tm mk h
    | _ => no 239
def newVal (b : Nat) (sl : Option (Nat × Nat)) : Value := match sl with
  | none => .pointer (some ⟨b, 0, none⟩)
  | some (n, m) => .slice (some ⟨b, 0, none⟩) n m
noncomputable def newOb : Eff → Option (Ob × (Nat → Value))
  | .new e n cs sl => some (.cells e false n (T.ofList cs), fun b => newVal b sl)
  | .newS e n cs => some (.cells e true n (T.ofList cs), fun b => .slice (some ⟨b, 0, none⟩) n n)
  | _ => none
/-- What an operation does that changes the heap that is there, or may. -/
noncomputable def doW (E : Env) (ev : Ev) (eff : Eff) (h : H) (f : Value → H → Option β) : Option β := match eff with
  | .store n a v => doStore h n a v f
  | .append size bytes e base n cap m src => doAppend h size bytes e base n cap m src f
  | .copy size a m b => doCopy h size a m b f
  | .freeze a n c => doFreeze h a n c f
  | .capOf b c => doCap h b c f
  | .upd kt b k v => doUpd E h kt b k v f
  | .nxt b => doNext h b f
  | .fill a l => doFill h a l f
  | .enter k args => callF E ev k args h f
  | .enterM k agg n a args => match loadOb (h.t.get a.block) agg n a with
    | some v => callF E ev k (v :: args) h f
    | none => none
  | .round l args => roundF ev l args h f
  | _ => no 240
noncomputable def guardF (all : List Oper) (tm : T Value) : Option (Nat × Bool) → Option Bool
  | none => some true
  | some (j, b) => match nth all j with
    | some o => match o.dst with
      | some d => match tm.get d with
        | some (.bool c) => some (c == b)
        | some (.tuple _) => some false
        | _ => no 241
      | none => no 242
    | none => no 243
/-- An operation, in the text's order. -/
noncomputable def opF (E : Env) (ev : Ev) (ρ : Operand → Value) (op : Op) (h : H) (f : Value → H → R) : R :=
  match aOp E ρ op with
  | some eff => match eff with
    | .val v => f v h
    | .load agg n a => match loadOb (h.t.get a.block) agg n a with
      | some v => f v h
      | none => none
    | .str a n => match strOb (h.t.get a.block) n a with
      | some v => f v h
      | none => none
    | .new e n cs sl => H.new h (.cells e false n (T.ofList cs)) fun b h => f (newVal b sl) h
    | .newS e n cs => H.new h (.cells e true n (T.ofList cs)) fun b h => f (.slice (some ⟨b, 0, none⟩) n n) h
    | .newM => H.new h (.map []) fun b h => f (.map (some b)) h
    | .newI s => H.new h (.iter s 0) fun b h => f (.pointer (some ⟨b, 0, none⟩)) h
    | .look kt b k z ok => match lookOb E kt k z ok (h.t.get b) with
      | some v => f v h
      | none => none
    | eff => doW E ev eff h f
  | none => none
noncomputable def opsF (E : Env) (ev : Ev) (cx : Cx) (mk : List Nat) (all : List Oper) : List Oper → T Value → H → R
  | [], tm, h => some (.normal, ⟨tm, mk, h⟩)
  | o :: l, tm, h => match guardF all tm o.guard with
    | some b => match b with
      | true => opF E ev (evalO tm) o.op h fun v h => put cx.nt tm o.dst v fun tm => opsF E ev cx mk all l tm h
      | false => put cx.nt tm o.dst undef fun tm => opsF E ev cx mk all l tm h
    | none => none
/-! A region that draws its order. -/
def ancOf (acc : List Nat) (o : Oper) : Nat := o.after.toList.foldl (fun s e => match Region.binds .any e with
  | true => match nth acc e.on with
    | some a => Nat.lor s (Nat.lor (Nat.pow 2 e.on) a)
    | none => s
  | false => s) 0
/-- What must come ahead of each operation, as bits. -/
def ancs : List Oper → List Nat → List Nat
  | [], acc => acc
  | o :: l, acc => ancs l (acc ++ [ancOf acc o])
noncomputable def isSl (E : Env) (t : TypeId) : Bool := match E.ty.get t with
  | some i => match i.und with
    | .slice _ => true
    | _ => false
  | none => false
/-- May an operation change the heap that is there? -/
noncomputable def isW (E : Env) (o : Op) : Bool := match o with
  | .store _ _ _ => true
  | .mapUpdate _ _ _ _ => true
  | .next _ _ => true
  | .insert _ _ _ _ => true
  | .convert s d _ => isSl E s && isSl E d
  | .call c => match c.callee with
    | .builtin b => match b with
      | .len => false
      | .max => false
      | .min => false
      | _ => true
    | _ => true
  | _ => false
/-- The order in which a region is worked out: ahead of each operation that may change the heap those alone that it waits for. -/
def pick (anc : List Nat) (c : Nat) : Nat → Nat → List Nat → Nat × List Nat
  | 0, done, acc => (done, acc)
  | n + 1, done, acc => match pick anc c n done acc with
    | (done, acc) => match Nat.testBit done n, nth anc c with
      | false, some a => match Nat.testBit a n with
        | true => (Nat.lor done (Nat.pow 2 n), acc ++ [n])
        | false => (done, acc)
      | _, _ => (done, acc)
noncomputable def orderW (E : Env) (anc : List Nat) : List Oper → Nat → Nat → List Nat → Nat × List Nat
  | [], _, done, acc => (done, acc)
  | o :: l, i, done, acc => match isW E o.op with
    | true => match pick anc i i done acc with
      | (done, acc) => orderW E anc l (Nat.succ i) (Nat.lor done (Nat.pow 2 i)) (acc ++ [i])
    | false => orderW E anc l (Nat.succ i) done acc
noncomputable def order (E : Env) (l : List Oper) : List Nat :=
  match orderW E (ancs l []) l 0 0 [] with
  | (done, acc) => acc ++ (List.range l.length).filter fun i => !Nat.testBit done i
def tmpsOf (o : Op) : List Tmp := o.operands.toList.filterMap fun x => match x with
  | .tmp t => some t
  | _ => none
def dstIs (o : Oper) (t : Tmp) : Bool := match o.dst with
  | some d => Nat.beq d t
  | none => false
/-- An operation sees the slots that are written by operations ahead of it, or behind it. -/
def depsOk (all : List Oper) (anc : List Nat) (i : Nat) (o : Oper) : Bool :=
  (tmpsOf o.op).all fun t => (List.range all.length).all fun j => match nth all j, nth anc j, nth anc i with
    | some oj, some aj, some ai => !dstIs oj t || Nat.testBit ai j || Nat.testBit aj i || Nat.beq i j
    | _, _, _ => false
def guardOk (all : List Oper) (anc : List Nat) (i : Nat) (o : Oper) : Bool := match o.guard with
  | none => true
  | some (j, _) => match nth anc i, nth all j with
    | some ai, some oj => Nat.testBit ai j && oj.dst.isSome
    | _, _ => false
def edgesOk (i : Nat) (o : Oper) : Bool := o.after.toList.all fun e => !Region.binds .any e || Nat.blt e.on i
def dstsOk (all : List Oper) : Bool := noDup (all.filterMap (·.dst))
def drOk (all : List Oper) (anc : List Nat) : Bool :=
  dstsOk all && ((List.range all.length).all fun i => match nth all i with
    | some o => depsOk all anc i o && guardOk all anc i o && edgesOk i o
    | none => false)
/-- What was read now would have been read ahead of each operation that changed the heap and that need not come first. -/
noncomputable def histOk (ai : Nat) (b : Nat) (ld : Option Ob → Option Value) (v : Value) : List (Nat × T Ob) → Bool
  | [] => true
  | (c, t) :: l => match Nat.testBit ai c with
    | true => true
    | false => match t.get b with
      | some o => match ld (some o) with
        | some u => eqV u v && histOk ai b ld v l
        | none => false
      | none => false
def memN (n : Nat) : List Nat → Bool
  | [] => false
  | a :: l => match Nat.beq a n with
    | true => true
    | false => memN n l
/-- An operation of a drawn region is worked out of what it looks at alone. -/
noncomputable def evalR (tm : T Value) (l : List Tmp) (x : Operand) : Value := match x with
  | .tmp t => match memN t l with
    | true => evalO tm (.tmp t)
    | false => top
  | x => evalO tm x
structure Dr where
  done : Nat
  hist : List (Nat × T Ob)
/-- An operation of a drawn region: does it change the heap, what comes of it. -/
noncomputable def drOp (E : Env) (ev : Ev) (ρ : Operand → Value) (op : Op) (ai done : Nat) (hist : List (Nat × T Ob)) (h : H) (f : Bool → Value → H → R) : R :=
  match aOp E ρ op with
  | some eff => match eff with
    | .val v => f false v h
    | .load agg n a => match loadOb (h.t.get a.block) agg n a with
      | some v => match histOk ai a.block (fun o => loadOb o agg n a) v hist with
        | true => f false v h
        | false => no 251
      | none => none
    | .str a n => match strOb (h.t.get a.block) n a with
      | some v => match histOk ai a.block (fun o => strOb o n a) v hist with
        | true => f false v h
        | false => no 252
      | none => none
    | .new e n cs sl => H.new h (.cells e false n (T.ofList cs)) fun b h => f false (newVal b sl) h
    | .newS e n cs => H.new h (.cells e true n (T.ofList cs)) fun b h => f false (.slice (some ⟨b, 0, none⟩) n n) h
    | .newM => H.new h (.map []) fun b h => f false (.map (some b)) h
    | .newI s => H.new h (.iter s 0) fun b h => f false (.pointer (some ⟨b, 0, none⟩)) h
    | .look kt b k z ok => match lookOb E kt k z ok (h.t.get b) with
      | some v => match histOk ai b (lookOb E kt k z ok) v hist with
        | true => f false v h
        | false => no 253
      | none => none
    | eff => match Nat.beq ai done with
      | true => doW E ev eff h fun v h => f true v h
      | false => no 255
  | none => none
noncomputable def drF (E : Env) (ev : Ev) (cx : Cx) (mk : List Nat) (all : List Oper) (anc : List Nat) : List Nat → Dr → T Value → H → R
  | [], d, tm, h => match Nat.beq (Nat.succ d.done) (Nat.pow 2 all.length) with
    | true => some (.normal, ⟨tm, mk, h⟩)
    | false => no 250
  | i :: l, ⟨done, hist⟩, tm, h => match h with
    | ⟨nx, t⟩ => match nth all i, nth anc i with
      | some o, some ai => match Nat.testBit done i, Nat.beq (Nat.land ai done) ai with
        | false, true => match guardF all tm o.guard with
          | some b => match b with
            | true => drOp E ev (evalR tm (tmpsOf o.op)) o.op ai done hist ⟨nx, t⟩ fun w v h => put cx.nt tm o.dst v fun tm => drF E ev cx mk all anc l ⟨Nat.lor done (Nat.pow 2 i), match w with
              | true => (i, t) :: hist
              | false => hist⟩ tm h
            | false => put cx.nt tm o.dst undef fun tm => drF E ev cx mk all anc l ⟨Nat.lor done (Nat.pow 2 i), hist⟩ tm ⟨nx, t⟩
          | none => none
        | _, _ => no 256
      | _, _ => no 257
noncomputable def drawF (E : Env) (ev : Ev) (cx : Cx) (mk : List Nat) (l : List Oper) (tm : T Value) (h : H) : R :=
  match drOk l (ancs l []) with
  | true => drF E ev cx mk l (ancs l []) (order E l) ⟨0, []⟩ tm h
  | false => no 258
/-! Code. -/
noncomputable def codeF (E : Env) (ev : Ev) (cx : Cx) (c : Code) (tm : T Value) (mk : List Nat) (h : H) : R :=
  match c with
  | .skip => some (.normal, ⟨tm, mk, h⟩)
  | .label _ => some (.normal, ⟨tm, mk, h⟩)
  | .seq a b => match ev cx a tm mk h with
    | some (x, s) => match x with
      | .normal => match s with
        | ⟨tm, mk, h⟩ => ev cx b tm mk h
      | x => some (x, s)
    | none => none
  | .cond x a b => match evalO tm x with
    | .bool c => match c with
      | true => ev cx a tm mk h
      | false => ev cx b tm mk h
    | _ => no 259
  | .block id c => match ev cx c tm mk h with
    | some (x, s) => match x with
      | .exit i => match Nat.beq i id with
        | true => some (.normal, s)
        | false => some (.exit i, s)
      | x => some (x, s)
    | none => none
  | .loop c => match ev cx c tm mk h with
    | some (x, s) => match x with
      | .normal => match s with
        | ⟨tm, mk, h⟩ => ev cx (.loop c) tm mk h
      | x => some (x, s)
    | none => none
  | .exit id => some (.exit id, ⟨tm, mk, h⟩)
  | .ret => some (.ret, ⟨tm, mk, h⟩)
  | .region _ l d => match d with
    | true => drawF E ev cx mk l.toList tm h
    | false => opsF E ev cx mk l.toList l.toList tm h
  | .rangeFunc g ps asg body => rangeF E ev cx g ps.toList asg body tm mk h
  | _ => no 260
noncomputable def evC (E : Env) : Nat → Ev
  | 0 => fun _ _ _ _ _ => none
  | n + 1 => codeF E (evC E n)
/-- A function, called out of nothing. -/
noncomputable def evF (E : Env) (n : Nat) (k : FuncId) (args : List Value) : Option Value :=
  callF E (evC E n) k args ⟨0, .leaf⟩ fun v _ => some v
/-- A call is worked out on its own. -/
noncomputable def entB (E : Env) (n : Nat) (e : Ent) : Bool := match callG E (evC E n) e.k e.args ⟨e.nx, mkG e.g .leaf⟩ fun v h => some (sameA v e.v && Nat.beq h.nx e.nx' && subG h.t e.g' && domOk e.nx e.g e.g') with
  | some b => b
  | none => false
def mkEqs (P : Program) (t : Nat) (u : TypeDesc) : Option (List (Nat × TypeId)) := match u with
  | .struct fs => match fs.toList.all fun f => (f.name != "_") && ((P.underlying f.type).any isLeafD) with
    | true => match !P.stoodInHeld t && !P.eqGuardType P.depth t with
      | true => some (fs.toList.map fun f => (f.offset, f.type))
      | false => none
    | false => none
  | _ => none
def mkZ1 (z : Value) : Option Value := match gr z with
  | true => some z
  | false => none
def mkTI (P : Program) (t : Nat) : Option TI := match P.info? t, P.underlying t with
  | some i, some u => match i.zero with
    | some z => match z.cells.toList.all gr, Nat.beq z.cells.size i.size with
      | true, true => some ⟨u, i.size, i.bytes, z.cells.toList, mkEqs P t u, i.methods, mkZ1 z⟩
      | _, _ => none
    | none => none
  | _, _ => none
noncomputable def mkEnv (P : Program) (orc : List Ent) : Env := ⟨T.ofOpts ((List.range P.types.size).map (mkTI P)), T.ofList P.funcs.toList, orc⟩
end Go.Proofs.YtlhkaoccnpgkeaaGreat.Ev
