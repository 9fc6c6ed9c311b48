import Derived.Calls
import Derived.Orders
import Derived.Laws.Sem
import Derived.WalkKit
set_option linter.unusedSectionVars false
set_option linter.unusedVariables false
set_option linter.unusedSimpArgs false
set_option autoImplicit false
namespace Go.Proofs.Am

inductive Js where
  | mk (kind : Int) (yes : Bool) (num : Bool × List UInt8 × Int) (text : List UInt8) (list : List Js) (keys : List (List UInt8))

/-- The types of plain data. 'cons' ties the fields of a struct. -/
inductive Ty where
  | int (k : IntKind) | bool | str | list (t : Ty) | st (fs : Ty) | cons (a b : Ty) | json

@[reducible] def Ty.den : Ty → Type
  | .int _ => Int | .bool => Bool | .str => List UInt8 | .list t => List t.den | .st fs => fs.den | .cons a b => a.den × b.den | .json => Js

abbrev decT : Ty := .st (.cons .bool (.cons .str (.int .i64)))
abbrev jsF : Ty := .cons (.int .i64) (.cons .bool (.cons decT (.cons .str (.cons (.list .json) (.list .str)))))
def Js.kind : Js → Int | .mk a _ _ _ _ _ => a
def Js.yes : Js → Bool | .mk _ a _ _ _ _ => a
def Js.num : Js → Bool × List UInt8 × Int | .mk _ _ a _ _ _ => a
def Js.text : Js → List UInt8 | .mk _ _ _ a _ _ => a
def Js.list : Js → List Js | .mk _ _ _ _ a _ => a
def Js.keys : Js → List (List UInt8) | .mk _ _ _ _ _ a => a

def Ty.size : Ty → Nat
  | .st fs => fs.size
  | .cons a b => a.size + b.size
  | .json => 8
  | _ => 1

def Ty.agg : Ty → Bool
  | .st _ | .json | .cons _ _ => true
  | _ => false

def kindEq : (a b : IntKind) → Option (PLift (a = b))
  | .i8, .i8 => some ⟨rfl⟩ | .i16, .i16 => some ⟨rfl⟩ | .i32, .i32 => some ⟨rfl⟩ | .i64, .i64 => some ⟨rfl⟩
  | .u8, .u8 => some ⟨rfl⟩ | .u16, .u16 => some ⟨rfl⟩ | .u32, .u32 => some ⟨rfl⟩ | .u64, .u64 => some ⟨rfl⟩
  | _, _ => none

def Ty.same : (a b : Ty) → Option (PLift (a = b))
  | .int k, .int k' => match kindEq k k' with | some ⟨h⟩ => some ⟨by rw [h]⟩ | none => none
  | .bool, .bool => some ⟨rfl⟩
  | .str, .str => some ⟨rfl⟩
  | .json, .json => some ⟨rfl⟩
  | .list a, .list b => match a.same b with | some ⟨h⟩ => some ⟨by rw [h]⟩ | none => none
  | .st a, .st b => match a.same b with | some ⟨h⟩ => some ⟨by rw [h]⟩ | none => none
  | .cons a b, .cons a' b' => match a.same a', b.same b' with | some ⟨h⟩, some ⟨h'⟩ => some ⟨by rw [h, h']⟩ | _, _ => none
  | _, _ => none

/-- What a temporary or a cell holds. -/
inductive AV where
  | junk | undef | tt | ff
  | d (t : Ty) (v : t.den)
  | own (t : Ty) (xs : List t.den) (s j : Nat)
  | nil
  | st (ls : List AV)
  | ptr (s j off : Nat)
  | pidx (s j k i off : Nat)
  | pel (t : Ty) (v : t.den)
  | nilp | nilfn | nilm
  | fn (f : FuncId) (first caps : List AV)
  | ms (s j k : Nat)
  | mref (s j : Nat)
  | iref (s j : Nat)
  | tup (vs : List AV)

inductive Cont where
  | gone | tok
  | cells (ls : List AV)
  | arr (ver : Nat) (t : Ty) (xs : List t.den)
  | iter (s : List UInt8) (pos : Nat)
  | map (k v : Ty) (es : List (k.den × v.den))

inductive Tree (α : Type) where
  | leaf (a : α) | fail | br (b : Bool) (l r : Tree α) | opt (t : Ty) (o : Option t.den) (k : t.den → Tree α)

def Tree.bind {α β : Type} : Tree α → (α → Tree β) → Tree β
  | .leaf a, f => f a
  | .fail, _ => .fail
  | .br b l r, f => .br b (l.bind f) (r.bind f)
  | .opt t o k, f => .opt t o fun x => (k x).bind f

def Tree.run {α : Type} : Tree α → Option α
  | .leaf a => some a
  | .fail => none
  | .br b l r => bif b then l.run else r.run
  | .opt _ o k => o.bind fun x => (k x).run

def guardT {α : Type} (b : Bool) (t : Tree α) : Tree α := .br b t .fail
def ofOption {α : Type} : Option α → Tree α
  | some a => .leaf a
  | none => .fail

def leaves : (t : Ty) → t.den → List AV
  | .st fs, v => leaves fs v
  | .cons a b, v => leaves a (Prod.fst (α := a.den) (β := b.den) v) ++ leaves b (Prod.snd (α := a.den) (β := b.den) v)
  | .json, v => [.d (.int .i64) (Js.kind v), .d .bool (Js.yes v), .d .bool (Js.num v).1, .d .str (Js.num v).2.1, .d (.int .i64) (Js.num v).2.2, .d .str (Js.text v), .d (.list .json) (Js.list v), .d (.list .str) (Js.keys v)]
  | .int k, v => [.d (.int k) v]
  | .bool, v => [.d .bool v]
  | .str, v => [.d .str v]
  | .list t, v => [.d (.list t) v]

/-- A value's cells. -/
def cellsOf : AV → Option (List AV)
  | .d t v => some (leaves t v)
  | .st ls => some ls
  | .junk | .undef | .tup _ => none
  | x => some [x]

def leafTo (t : Ty) : AV → Option t.den
  | .d t' v => match t'.same t with | some ⟨h⟩ => some (h ▸ v) | none => none
  | .own t' xs _ _ => match (Ty.list t').same t with | some ⟨h⟩ => some (h ▸ (show (Ty.list t').den from xs)) | none => none
  | .nil => match t with | .list _ => some [] | _ => none
  | .tt => match t with | .bool => some true | _ => none
  | .ff => match t with | .bool => some false | _ => none
  | _ => none

def pack : (t : Ty) → List AV → Option (t.den × List AV)
  | .st fs, l => pack fs l
  | .cons a b, l => match pack a l with
    | some (x, l) => match pack b l with
      | some (y, l) => some ((x, y), l)
      | none => none
    | none => none
  | .json, l => match l with
    | a :: b :: c :: d :: e :: f :: g :: h :: l =>
      match leafTo (.int .i64) a, leafTo .bool b, leafTo .bool c, leafTo .str d, leafTo (.int .i64) e, leafTo .str f, leafTo (.list .json) g, leafTo (.list .str) h with
      | some a, some b, some c, some d, some e, some f, some g, some h => some (.mk a b (c, d, e) f g h, l)
      | _, _, _, _, _, _, _, _ => none
    | _ => none
  | .int k, l => match l with | a :: l => (leafTo (.int k) a).map (·, l) | [] => none
  | .bool, l => match l with | a :: l => (leafTo .bool a).map (·, l) | [] => none
  | .str, l => match l with | a :: l => (leafTo .str a).map (·, l) | [] => none
  | .list t, l => match l with | a :: l => (leafTo (.list t) a).map (·, l) | [] => none

def castTo (t : Ty) : AV → Option t.den
  | .st ls => bif t.agg then (match pack t ls with | some (v, []) => some v | _ => none) else none
  | x => leafTo t x

/-- Does it stand for a value of one cell? -/
def flat : AV → Bool
  | .d t _ => !t.agg
  | .junk | .undef | .st _ | .tup _ => false
  | _ => true

/-! The types of the program, as far as they are looked at. -/
inductive TI where
  | int (k : IntKind) | bool | str | func
  | slice (e : TypeId)
  | struct (fs : List (Nat × TypeId))
  | array (n : Nat) (e : TypeId)
  | ptr (e : TypeId)
  | map (k e : TypeId)
  | other

structure TInfo where
  desc : TI
  size : Nat
  bytes : Nat
  zero : List AV
  ty : Option Ty
  eq : Bool := false

def TInfo.agg (i : TInfo) : Bool := match i.desc with | .struct _ | .array _ _ => true | _ => false

inductive Tab where
  | leaf
  | node (k : TypeId) (i : TInfo) (l r : Tab)

def Tab.find : Tab → TypeId → Option TInfo
  | .leaf, _ => none
  | .node k i l r, t => if Nat.beq t k then some i else if Nat.blt t k then l.find t else r.find t

/-! A state; what an operation asks of it. -/
structure St where
  tmps : Nat → AV
  res : Nat → List Cont

structure Req where
  rs : List Nat
  wr : Bool
  act : List (List Cont) → Tree (AV × List (List Cont))

def Req.pure (t : Tree AV) : Req := ⟨[], false, fun cs => t.bind fun v => .leaf (v, cs)⟩
def Req.fail : Req := .pure .fail

structure Out where
  res : AV
  fams : List (List Cont)
  ret : List Cont

/-- What a function does, as far as it is told: its arguments, the families of resources that come with them. -/
abbrev Spec := List AV → List (List Cont) → Tree Out

/-- 'owns': the arguments whose lists the function may append to. -/
structure FnSpec where
  owns : List Nat
  spec : Spec
  ro : Option (List (Nat × Ty)) := none     -- it only reads, and hands back plain data: the boxes that come are told as data of these types

abbrev Env := List (FuncId × FnSpec)
def Env.find : Env → FuncId → Option FnSpec
  | [], _ => none
  | (g, s) :: e, f => if Nat.beq f g then some s else Env.find e f

def maxStr : Nat := 9223372036854775807

def rangeB (k : IntKind) (n : Int) : Bool := decide (k.min ≤ n) && decide (n ≤ k.max)

mutual
def constAV : Value → AV
  | .bool b => bif b then .tt else .ff
  | .int k n => bif rangeB k n then .d (.int k) n else .junk
  | .string s => bif Nat.ble s.size maxStr then .d .str s.data.toList else .junk
  | .slice none 0 0 => .nil
  | .pointer none => .nilp
  | .nilFunc => .nilfn
  | .map none => .nilm
  | .agg ⟨cs⟩ => bif cs.all Value.oneCell' then .st (constAVs cs) else .junk
  | _ => .junk
def constAVs : List Value → List AV
  | [] => []
  | v :: vs => constAV v :: constAVs vs
end

def evalO (st : St) : Operand → AV
  | .tmp t => st.tmps t
  | .const v => constAV v
  | .func f => .fn f [] []
  | .global _ => .junk

/-! ## Operations -/
def idx {α : Type} (xs : List α) (i : Int) : Option α := if 0 ≤ i then xs[i.toNat]? else none
def cut {α : Type} (xs : List α) (l h : Int) : List α := (xs.take h.toNat).drop l.toNat
def lim (bytes : Nat) : Nat := 140737488355328 / bytes

def isConst : Operand → Bool
  | .const _ => true
  | _ => false

def intOp (op : BinOp) (k : IntKind) (a b : Int) (yc : Bool) : Tree AV :=
  match op with
  | .add => .leaf (.d (.int k) (k.wrap (a + b)))
  | .sub => .leaf (.d (.int k) (k.wrap (a - b)))
  | .mul => .leaf (.d (.int k) (k.wrap (a * b)))
  | .quo => bif yc then (bif b == 0 then .fail else .leaf (.d (.int k) (k.wrap (a.tdiv b)))) else .br (b == 0) .fail (.leaf (.d (.int k) (k.wrap (a.tdiv b))))
  | .rem => bif yc then (bif b == 0 then .fail else .leaf (.d (.int k) (a.tmod b))) else .br (b == 0) .fail (.leaf (.d (.int k) (a.tmod b)))
  | .and => .leaf (.d (.int k) (k.wrap (BitVec.ofInt k.bits a &&& BitVec.ofInt k.bits b).toNat))
  | .or => .leaf (.d (.int k) (k.wrap (BitVec.ofInt k.bits a ||| BitVec.ofInt k.bits b).toNat))
  | .xor => .leaf (.d (.int k) (k.wrap (BitVec.ofInt k.bits a ^^^ BitVec.ofInt k.bits b).toNat))
  | .andNot => .leaf (.d (.int k) (k.wrap (BitVec.ofInt k.bits a &&& ~~~ BitVec.ofInt k.bits b).toNat))
  | .eql => .leaf (.d .bool (a == b))
  | .neq => .leaf (.d .bool (a != b))
  | .lss => .leaf (.d .bool (decide (a < b)))
  | .leq => .leaf (.d .bool (decide (a ≤ b)))
  | .gtr => .leaf (.d .bool (decide (a > b)))
  | .geq => .leaf (.d .bool (decide (a ≥ b)))
  | _ => .fail

def shiftOp (op : BinOp) (k : IntKind) (a b : Int) (yc : Bool) : Tree AV :=
  let v : Tree AV := match op with
    | .shl => .leaf (.d (.int k) (k.wrap (a * 2 ^ (min b.toNat k.bits))))
    | .shr => .leaf (.d (.int k) (a.fdiv (2 ^ (min b.toNat k.bits))))
    | _ => .fail
  bif yc then (bif decide (b < 0) then .fail else v) else .br (decide (b < 0)) .fail v

def strOp (op : BinOp) (x y : List UInt8) : Tree AV :=
  match op with
  | .add => guardT (decide (x.length + y.length ≤ maxStr)) (.leaf (.d .str (x ++ y)))
  | .eql => .leaf (.d .bool (x == y))
  | .neq => .leaf (.d .bool (!(x == y)))
  | .lss => .leaf (.d .bool (Op.bytesLess x y))
  | .leq => .leaf (.d .bool (Op.bytesLess x y || x == y))
  | .gtr => .leaf (.d .bool !(Op.bytesLess x y || x == y))
  | .geq => .leaf (.d .bool !(Op.bytesLess x y))
  | _ => .fail

def isEmptyAV : AV → Option Bool
  | .d (.list _) xs => some (List.isEmpty xs)
  | .own _ xs _ _ => some xs.isEmpty
  | _ => none

/-- Held against nil: is it nil? -/
def nilTest : AV → Tree Bool
  | .nil | .nilp | .nilfn | .nilm => .leaf true
  | .ptr .. | .pel .. | .fn .. | .mref .. => .leaf false
  | x => match isEmptyAV x with
    | some e => guardT (!e) (.leaf false)
    | none => .fail

def isNil : AV → Bool
  | .nil | .nilp | .nilfn | .nilm => true
  | _ => false

def intOf : AV → Option (IntKind × Int)
  | .d t v => match t, v with | .int k, v => some (k, v) | _, _ => none
  | _ => none
def boolOf : AV → Option Bool
  | .tt => some true
  | .ff => some false
  | .d t v => match t, v with | .bool, v => some v | _, _ => none
  | _ => none
def strOf : AV → Option (List UInt8)
  | .d t v => match t, v with | .str, v => some v | _, _ => none
  | _ => none
/-- A list of data, whoever owns it. -/
def listOf : AV → Option ((t : Ty) × List t.den)
  | .d t v => match t, v with | .list t, v => some ⟨t, v⟩ | _, _ => none
  | .own t xs _ _ => some ⟨t, xs⟩
  | _ => none

def knownB (b : Bool) : AV := bif b then .tt else .ff

/-- May values of this type be held against nil? -/
def nilable : Option TI → AV → Bool
  | some (.slice _), .nil | some (.slice _), .d _ _ | some (.slice _), .own .. => true
  | some (.ptr _), .nilp | some (.ptr _), .ptr .. | some (.ptr _), .pel .. => true
  | some .func, .nilfn | some .func, .fn .. => true
  | some (.map _ _), .nilm | some (.map _ _), .mref .. => true
  | _, _ => false

def binAV (desc : Option TI) (op : BinOp) (x y : AV) (yc : Bool) : Tree AV :=
  match intOf x, intOf y with
  | some (k, a), some (k', b) =>
    match op with
    | .shl => shiftOp .shl k a b yc
    | .shr => shiftOp .shr k a b yc
    | op => match kindEq k k' with | some _ => intOp op k a b yc | none => .fail
  | _, _ =>
  match strOf x, strOf y with
  | some a, some b => strOp op a b
  | _, _ =>
  match boolOf x, boolOf y with
  | some a, some b => match desc, op with
    | some .bool, .eql => .leaf (.d .bool (a == b))
    | some .bool, .neq => .leaf (.d .bool (!(a == b)))
    | _, _ => .fail
  | _, _ =>
  bif nilable desc x && nilable desc y then
    (match op with
    | .eql => bif isNil y then (nilTest x).bind fun b => .leaf (knownB b) else bif isNil x then (nilTest y).bind fun b => .leaf (knownB b) else .fail
    | .neq => bif isNil y then (nilTest x).bind fun b => .leaf (knownB (!b)) else bif isNil x then (nilTest y).bind fun b => .leaf (knownB (!b)) else .fail
    | _ => .fail)
  else .fail

def unAV (op : UnOp) (x : AV) : Tree AV :=
  match x with
  | .tt => (match op with | .not => .leaf .ff | _ => .fail)
  | .ff => (match op with | .not => .leaf .tt | _ => .fail)
  | x =>
  match boolOf x, intOf x with
  | some b, _ => match op with | .not => .leaf (.d .bool (!b)) | _ => .fail
  | none, some (k, n) => match op with
    | .neg => .leaf (.d (.int k) (k.wrap (0 - n)))
    | .xor => .leaf (.d (.int k) (k.wrap (BitVec.ofInt k.bits (bif k.signed then -1 else k.max) ^^^ BitVec.ofInt k.bits n).toNat))
    | _ => .fail
  | none, none => .fail

/-- 'pick': one of two values of one type needs no parting of the ways. -/
def pickAV (c a b : AV) : Tree AV :=
  match c with
  | .tt => .leaf a
  | .ff => .leaf b
  | c => match boolOf c with
    | some v => .br v (.leaf a) (.leaf b)
    | none => .fail

def tyOf (tab : Tab) (T : TypeId) : Option Ty := (tab.find T).bind (·.ty)

def arrayOf (tab : Tab) (T : TypeId) : Option (Nat × TInfo) :=
  match tab.find T with
  | some { desc := .array n e, .. } => (tab.find e).map fun i => (n, i)
  | _ => none

def sliceOf (tab : Tab) (T : TypeId) : Option TInfo :=
  match tab.find T with
  | some { desc := .slice e, .. } => tab.find e
  | _ => none

def toBytes (xs : List Int) : List UInt8 := xs.map fun n => UInt8.ofNat n.toNat
def ofBytes (s : List UInt8) : List Int := s.map fun b => (b.toNat : Int)

def AV.bound : AV → AV
  | x => x

/-- The part of a struct's data number i: where it begins, and itself. -/
def proj : (fs : Ty) → Nat → fs.den → Option (Nat × (t : Ty) × t.den)
  | .cons a _, 0, v => some (0, ⟨a, Prod.fst v⟩)
  | .cons a b, i + 1, v => (proj b i (Prod.snd v)).map fun (o, x) => (a.size + o, x)
  | .int k, 0, v => some (0, ⟨.int k, v⟩)
  | .bool, 0, v => some (0, ⟨.bool, v⟩)
  | .str, 0, v => some (0, ⟨.str, v⟩)
  | .list t, 0, v => some (0, ⟨.list t, v⟩)
  | .st fs, 0, v => some (0, ⟨.st fs, v⟩)
  | .json, 0, v => some (0, ⟨.json, v⟩)
  | _, _, _ => none

def jsProj : Nat → Js → Option (Nat × (t : Ty) × t.den)
  | 0, v => some (0, ⟨.int .i64, v.kind⟩)
  | 1, v => some (1, ⟨.bool, v.yes⟩)
  | 2, v => some (2, ⟨decT, v.num⟩)
  | 3, v => some (5, ⟨.str, v.text⟩)
  | 4, v => some (6, ⟨.list .json, v.list⟩)
  | 5, v => some (7, ⟨.list .str, v.keys⟩)
  | _, _ => none

def dataField (i : Nat) : (t : Ty) → t.den → Option (Nat × (t : Ty) × t.den)
  | .st fs, v => proj fs i v
  | .json, v => jsProj i v
  | _, _ => none

/-- Field number i, if it lies where the program's type says. -/
def fieldAt (o : Nat) (i : Nat) (t : Ty) (v : t.den) : Option ((t : Ty) × t.den) :=
  match dataField i t v with
  | some (o', x) => bif Nat.beq o o' then some x else none
  | none => none

def fits (i : TInfo) (t : Ty) : Bool := Nat.beq i.size t.size && (bif i.agg then t.agg else !t.agg)

/-- The cells from 'off' on, 'n' of them, as a value of the type. -/
def takeLeaves (i : TInfo) (ls : List AV) (off : Nat) : Option AV :=
  let part := (ls.drop off).take i.size
  bif Nat.ble (off + i.size) ls.length then
    (bif i.agg then some (.st part) else match part with | [x] => some x | _ => none)
  else none

def putLeaves (ls new : List AV) (off : Nat) : Option (List AV) :=
  bif Nat.ble (off + new.length) ls.length then some (ls.take off ++ new ++ ls.drop (off + new.length)) else none

def structField (tab : Tab) (T : TypeId) (i : Nat) : Option (Nat × TypeId) :=
  match tab.find T with
  | some { desc := .struct fs, .. } => fs[i]?
  | _ => none

/-- Parts laid into a row of cells. -/
def fillAV (place : Nat → Option (Nat × Nat)) (cells : List AV) : List (Nat × AV) → Option (List AV)
  | [] => some cells
  | (i, v) :: rest =>
    match place i with
    | none => none
    | some (off, size) =>
      match cellsOf v with
      | none => none
      | some new => bif Nat.beq new.length size then
          (match putLeaves cells new off with
          | some cells => fillAV place cells rest
          | none => none)
        else none

def castAll (t : Ty) : List AV → Option (List t.den)
  | [] => some []
  | v :: vs => match castTo t v, castAll t vs with
    | some x, some xs => some (x :: xs)
    | _, _ => none

def single (site : Nat) (v : AV) (c : Cont) : Req :=
  ⟨[site], true, fun fs => match fs with
    | [[]] => .leaf (v, [[c]])
    | _ => .fail⟩

def intAV (n : Int) : AV := .d (.int .i64) n

def lenAV (desc : Option TI) (x : AV) : Tree AV :=
  match desc with
  | some .str => match strOf x with
    | some s => .leaf (intAV s.length)
    | none => .fail
  | some (.slice _) => match listOf x with
    | some ⟨_, xs⟩ => .leaf (intAV xs.length)
    | none => match x with | .nil => .leaf (intAV 0) | _ => .fail
  | some (.array n _) => bif Nat.ble n maxStr then .leaf (intAV n) else .fail
  | _ => .fail

def optInt (x : Option AV) (dflt : Int) : Option Int :=
  match x with
  | none => some dflt
  | some v => match intOf v with | some (_, n) => some n | none => none

def sliceAV (tab : Tab) (T : TypeId) (x : AV) (lo hi : Option AV) : Tree AV :=
  match tab.find T, strOf x with
  | some { desc := .str, .. }, some s => match optInt lo 0, optInt hi s.length with
    | some l, some h => guardT (decide (0 ≤ l) && decide (l ≤ h) && decide (h ≤ s.length)) (.leaf (.d .str (cut s l h)))
    | _, _ => .fail
  | some { desc := .slice e, .. }, none => match listOf x, tab.find e with
    | some ⟨t, xs⟩, some ei => bif fits ei t then (match optInt lo 0, optInt hi xs.length with
      | some l, some h => guardT (decide (0 ≤ l) && decide (l ≤ h) && decide (h ≤ xs.length)) (.leaf (.d (.list t) (cut xs l h)))
      | _, _ => .fail) else .fail
    | _, _ => .fail
  | _, _ => .fail

/-! Lists that may be written to -/
def onArr (s j k : Nat) (wr : Bool) (act : (t : Ty) → List t.den → Tree (AV × Cont)) : Req :=
  ⟨[s], wr, fun fs => match fs with
    | [f] => match f[j]? with
      | some (.arr k' t xs) => bif Nat.beq k k' then (act t xs).bind fun (v, c) => .leaf (v, [f.set j c]) else .fail
      | _ => .fail
    | _ => .fail⟩
/-- Only looked at. -/
def atArr (s j k : Nat) (act : (t : Ty) → List t.den → Tree AV) : Req :=
  ⟨[s], false, fun fs => match fs with
    | [f] => match f[j]? with
      | some (.arr k' t xs) => bif Nat.beq k k' then (act t xs).bind fun v => .leaf (v, [f]) else .fail
      | _ => .fail
    | _ => .fail⟩
def lenReq (desc : Option TI) (x : AV) : Req :=
  match x with
  | .ms s j k => match desc with
    | some (.slice _) => atArr s j k fun _ xs => .leaf (intAV xs.length)
    | _ => .fail
  | x => .pure (lenAV desc x)
def partOf (i : TInfo) (t : Ty) (x : t.den) (off : Nat) : Option AV :=
  bif Nat.beq off 0 && fits i t then some (.d t x) else takeLeaves i (leaves t x) off
def loadArr (i : TInfo) (s j k n off : Nat) : Req :=
  atArr s j k fun t xs => .opt t xs[n]? fun x => ofOption (partOf i t x off)
def putPart (t : Ty) (x : t.den) (new : List AV) (off : Nat) : Option t.den :=
  match putLeaves (leaves t x) new off with
  | some ls => match pack t ls with
    | some (y, []) => some y
    | _ => none
  | none => none
def storeArr (i : TInfo) (s j k n off : Nat) (v : AV) : Req :=
  match cellsOf v with
  | some new => onArr s j k true fun t xs => .opt t xs[n]? fun x => bif Nat.beq new.length i.size then (match putPart t x new off with
    | some y => .leaf (.undef, .arr k t (xs.set n y))
    | none => .fail) else .fail
  | none => .fail
def appendArr (bytes : Nat) (t : Ty) (s j k : Nat) (ys : List t.den) : Req :=
  onArr s j k true fun t' xs => match t'.same t with
    | some ⟨h⟩ => guardT (decide (xs.length + ys.length ≤ lim bytes)) (.leaf (.ms s j (k + 1), .arr (k + 1) t ((h ▸ xs) ++ ys)))
    | none => .fail

def appendReq (bytes : Nat) (site : Nat) (t : Ty) (x : AV) (ys : List t.den) : Req :=
  match x with
  | .nil => ⟨[site], true, fun fs => match fs with
      | [[]] => guardT (decide (ys.length ≤ lim bytes)) (.leaf (.own t ys site 0, [[.tok]]))
      | _ => .fail⟩
  | .ms s j k => appendArr bytes t s j k ys
  | .own t' xs s j => match t'.same t with
    | some ⟨h⟩ => ⟨[s, site], true, fun fs => match fs with
        | [f, []] => match f[j]? with
          | some .tok => guardT (decide (xs.length + ys.length ≤ lim bytes)) (.leaf (.own t ((h ▸ xs) ++ ys) site 0, [f.set j .gone, [.tok]]))
          | _ => .fail
        | _ => .fail⟩
    | none => .fail
  | _ => .fail

def convAV (tab : Tab) (src dst : TypeId) (site : Nat) (x : AV) : Req :=
  match tab.find src, tab.find dst with
  | some _, some { desc := .int k, .. } => match intOf x with
    | some (_, n) => .pure (.leaf (.d (.int k) (k.wrap n)))
    | none => .fail
  | some _, some { desc := .str, .. } => match strOf x with
    | some s => .pure (.leaf (.d .str s))
    | none => match sliceOf tab src, listOf x with
      | some { desc := .int .u8, .. }, some ⟨.int .u8, xs⟩ => .pure (.leaf (.d .str (toBytes xs)))
      | some { desc := .int .u8, .. }, none => (match x with | .nil => .pure (.leaf (.d .str [])) | _ => .fail)
      | _, _ => .fail
  | some { desc := .str, .. }, some { desc := .slice e, .. } => match tab.find e, strOf x with
    | some { desc := .int .u8, .. }, some s => ⟨[site], true, fun fs => match fs with
        | [[]] => .leaf (.own (.int .u8) (ofBytes s) site 0, [[.tok]])
        | _ => .fail⟩
    | _, _ => .fail
  | _, _ => .fail

/-! ## Calls: what comes with an argument, and the way back -/
mutual
def sitesOf : AV → List Nat
  | .ptr s _ _ | .own _ _ s _ | .mref s _ | .iref s _ | .ms s _ _ | .pidx s _ _ _ _ => [s]
  | .st ls | .tup ls => sitesOfL ls
  | .fn _ a b => sitesOfL a ++ sitesOfL b
  | _ => []
def sitesOfL : List AV → List Nat
  | [] => []
  | x :: xs => sitesOf x ++ sitesOfL xs
end
def contSites : Cont → List Nat
  | .cells ls => sitesOfL ls
  | _ => []

def addSite (l : List Nat) (s : Nat) : List Nat := bif l.any (Nat.beq s) then l else l ++ [s]
def addSites (l ss : List Nat) : List Nat := ss.foldl addSite l

def famAt : List Nat → List (List Cont) → Nat → List Cont
  | r :: rs, f :: fs, s => bif Nat.beq r s then f else famAt rs fs s
  | _, _, _ => []

/-- Where a resource of the callee's lies with the caller: the callee's name, the caller's. -/
abbrev Back := List ((Nat × Nat) × (Nat × Nat))
def Back.find : Back → Nat → Nat → Option (Nat × Nat)
  | [], _, _ => none
  | ((a, b), r) :: l, s, j => bif Nat.beq a s && Nat.beq b j then some r else Back.find l s j

def dupFree : List (Nat × Nat) → Bool
  | [] => true
  | x :: xs => !(xs.any fun y => Nat.beq x.1 y.1 && Nat.beq x.2 y.2) && dupFree xs

/-- The names of the resources that the callee has made. -/
def retSite : Nat := 100000

mutual
/-- Back among the caller's names: 'nw' names the tokens and all that the callee has made, 'bk' the boxes and the maps that came with the arguments. -/
def unAVn (nw bk : Back) : AV → Option AV
  | .own t xs s j => match nw.find s j with | some (s', j') => some (.own t xs s' j') | none => some (.d (.list t) xs)
  | .ptr s j off => match nw.find s j with
    | some (s', j') => some (.ptr s' j' off)
    | none => match bk.find s j with | some (s', j') => some (.ptr s' j' off) | none => none
  | .mref s j => match nw.find s j with
    | some (s', j') => some (.mref s' j')
    | none => match bk.find s j with | some (s', j') => some (.mref s' j') | none => none
  | .ms s j k => match nw.find s j with | some (s', j') => some (.ms s' j' k) | none => none
  | .pidx .. => none
  | .iref .. => none
  | .st ls => match unAVs nw bk ls with | some ls => some (.st ls) | none => none
  | .tup ls => match unAVs nw bk ls with | some ls => some (.tup ls) | none => none
  | .fn f a b => match unAVs nw bk a, unAVs nw bk b with | some a, some b => some (.fn f a b) | _, _ => none
  | x => some x
def unAVs (nw bk : Back) : List AV → Option (List AV)
  | [] => some []
  | x :: xs => match unAVn nw bk x, unAVs nw bk xs with | some x, some xs => some (x :: xs) | _, _ => none
end

def unCont (nw bk : Back) : Cont → Option Cont
  | .cells ls => match unAVs nw bk ls with | some ls => some (.cells ls) | none => none
  | c => some c

/-- The tokens behind the call in what came with argument number i, from (i, q) on: each gets a name of the call's own site. -/
def freshOf (i : Nat) : Nat → List Cont → List ((Nat × Nat) × Cont)
  | _, [] => []
  | q, c :: cs => match c with
    | .tok => ((i, q), .tok) :: freshOf i (q + 1) cs
    | _ => freshOf i (q + 1) cs

def freshAll : Nat → List (List Cont) → List ((Nat × Nat) × Cont)
  | _, [] => []
  | i, f :: fs => match f with
    | .cells _ :: cs => freshOf i 1 cs ++ freshAll (i + 1) fs
    | _ => freshAll (i + 1) fs

def nameFrom (site : Nat) : Nat → List ((Nat × Nat) × Cont) → Back
  | _, [] => []
  | k, (r, _) :: l => (r, (site, k)) :: nameFrom site (k + 1) l

def unConts (nw bk : Back) : List Cont → Option (List Cont)
  | [] => some []
  | c :: cs => match unCont nw bk c, unConts nw bk cs with | some c, some cs => some (c :: cs) | _, _ => none

def isTok : Option Cont → Bool
  | some (.cells _) | some (.map _ _ _) => false
  | _ => true

def turned (bk : Back) : Back := bk.map fun e => (e.2, e.1)
def tokBack (get : Nat → Nat → Option Cont) (bk : Back) : Back := (turned bk).filter fun e => isTok (get e.1.1 e.1.2)
def refBack (get : Nat → Nat → Option Cont) (bk : Back) : Back := (turned bk).filter fun e => !isTok (get e.1.1 e.1.2)

/-- The cells that come with argument number i, from cell q on: each open token (if it is asked for) and each map gets the callee's name (i, q + 1). -/
def leafNames (get : Nat → Nat → Option Cont) (own : Bool) (i : Nat) : Nat → List AV → List Cont × Back
  | _, [] => ([], [])
  | q, x :: xs =>
    let r := leafNames get own i (q + 1) xs
    match x with
    | .own _ _ s j => match own, get s j with
      | true, some .tok => (.tok :: r.1, ((i, q + 1), (s, j)) :: r.2)
      | _, _ => (.gone :: r.1, r.2)
    | .mref s j => match get s j with
      | some (.map k v es) => (.map k v es :: r.1, ((i, q + 1), (s, j)) :: r.2)
      | _ => (.gone :: r.1, r.2)
    | _ => (.gone :: r.1, r.2)

mutual
/-- The boxes and maps that a value leads to at once. -/
def ptrsOf : AV → List (Nat × Nat)
  | .ptr s j _ | .mref s j => [(s, j)]
  | .st ls | .tup ls => ptrsOfL ls
  | .fn _ a b => ptrsOfL a ++ ptrsOfL b
  | _ => []
def ptrsOfL : List AV → List (Nat × Nat)
  | [] => []
  | x :: xs => ptrsOf x ++ ptrsOfL xs
end
/-- .. and those that these lead to. -/
def reach (get : Nat → Nat → Option Cont) : Nat → List (Nat × Nat) → List (Nat × Nat) → List (Nat × Nat)
  | 0, _, done => done
  | _, [], done => done
  | n + 1, x :: todo, done =>
    bif done.any (fun y => Nat.beq y.1 x.1 && Nat.beq y.2 x.2) then reach get n todo done else
    match get x.1 x.2 with
    | some (.cells ls) => reach get n (todo ++ ptrsOfL ls) (done ++ [x])
    | some (.map _ _ _) => reach get n todo (done ++ [x])
    | _ => reach get n todo done

/-- The boxes and maps that a closure leads to, from number q on. -/
def capNames (get : Nat → Nat → Option Cont) (i : Nat) : Nat → List (Nat × Nat) → List Cont × Back
  | _, [] => ([], [])
  | q, x :: xs =>
    let r := capNames get i (q + 1) xs
    match get x.1 x.2 with
    | some (.cells ls) => (.cells ls :: r.1, ((i, q), x) :: r.2)
    | some (.map k v es) => (.map k v es :: r.1, ((i, q), x) :: r.2)
    | _ => (.gone :: r.1, r.2)

def nameArg (get : Nat → Nat → Option Cont) (own : Bool) (i : Nat) : AV → List Cont × Back
  | .ptr s j _ => match get s j with
    | some (.cells ls) => let r := leafNames get true i 0 ls; (.cells ls :: r.1, ((i, 0), (s, j)) :: r.2)
    | _ => ([], [])
  | .own _ _ s j => match own, get s j with
    | true, some .tok => ([.tok], [((i, 0), (s, j))])
    | _, _ => ([], [])
  | .mref s j => match get s j with
    | some (.map k v es) => ([.map k v es], [((i, 0), (s, j))])
    | _ => ([], [])
  | .st ls => let r := leafNames get own i 0 ls; (.gone :: r.1, r.2)
  | .fn _ a b => capNames get i 0 (ptrsOfL (a ++ b))
  | _ => ([], [])

def nameArgs (get : Nat → Nat → Option Cont) (owns : List Nat) : Nat → List AV → List (List Cont) × Back
  | _, [] => ([], [])
  | i, x :: xs =>
    let r := nameArg get (owns.any (Nat.beq i)) i x
    let rs := nameArgs get owns (i + 1) xs
    (r.1 :: rs.1, r.2 ++ rs.2)

def contPtrs : Cont → List (Nat × Nat)
  | .cells ls => ptrsOfL ls
  | _ => []
def addLast (more : List Cont) : List (List Cont) → List (List Cont)
  | [] => []
  | [f] => [f ++ more]
  | f :: fs => f :: addLast more fs
/-- The boxes and maps that those which came lead to: they come with the last argument. -/
def nameAll (get : Nat → Nat → Option Cont) (owns : List Nat) (xs : List AV) : List (List Cont) × Back :=
  let r := nameArgs get owns 0 xs
  let base := r.2.map (·.2)
  let m := capNames get (xs.length - 1) ((r.1.getLast?).getD []).length ((reach get 64 (r.1.flatMap fun f => f.flatMap contPtrs) base).drop base.length)
  (addLast m.1 r.1, r.2 ++ m.2)

def unFams (nw bk : Back) : List (List Cont) → Option (List (List Cont))
  | [] => some []
  | f :: fs => match unConts nw bk f, unFams nw bk fs with | some f, some fs => some (f :: fs) | _, _ => none

/-- The arguments under the callee's names; what comes with them; whose these names are. -/
def renArgs (get : Nat → Nat → Option Cont) (owns : List Nat) (xs : List AV) : Option (List AV × List (List Cont) × Back) :=
  let n := nameAll get owns xs
  match unAVs (tokBack get n.2) (refBack get n.2) xs, unFams (tokBack get n.2) (refBack get n.2) n.1 with
  | some xs', some fams => some (xs', fams, n.2)
  | _, _ => none

/-- The callee's name of a resource of the caller's. -/
def Back.from : Back → Nat → Nat → Option (Nat × Nat)
  | [], _, _ => none
  | (r, (a, b)) :: l, s, j => bif Nat.beq a s && Nat.beq b j then some r else Back.from l s j

/-- The caller's family of a site, behind the call: a box or a map that came with an argument is what the callee left; a token is gone. -/
def backFam (bk nw bx : Back) (fams : List (List Cont)) (s : Nat) : Nat → List Cont → Option (List Cont)
  | _, [] => some []
  | j, c :: cs =>
    match backFam bk nw bx fams s (j + 1) cs with
    | none => none
    | some cs' =>
      match bk.from s j with
      | none => some (c :: cs')
      | some (i, q) => match c with
        | .tok => some (.gone :: cs')
        | _ => match (fams[i]?).bind (·[q]?) with
          | some c' => match unCont nw bx c' with
            | some c'' => some (c'' :: cs')
            | none => none
          | none => none

def backFams (bk nw bx : Back) (fams : List (List Cont)) : List Nat → List (List Cont) → Option (List (List Cont))
  | s :: ss, f :: fs => match backFam bk nw bx fams s 0 f, backFams bk nw bx fams ss fs with
    | some f, some fs => some (f :: fs)
    | _, _ => none
  | [], [] => some []
  | _, _ => none

/-! A call that only reads -/
def plainTy : Ty → Bool
  | .int _ | .bool | .str => true
  | .st fs => plainTy fs
  | .cons a b => plainTy a && plainTy b
  | _ => false
def plainAV1 : AV → Bool
  | .d t _ => plainTy t
  | .tt | .ff => true
  | _ => false
def plainAV : AV → Bool
  | .tup vs => vs.all plainAV1
  | x => plainAV1 x
def roTy : List (Nat × Ty) → Nat → Option Ty
  | [], _ => none
  | (j, t) :: l, i => bif Nat.beq j i then some t else roTy l i
def dataLeaf : AV → AV
  | .own t xs _ _ => .d (.list t) xs
  | x => x
def roArg (get : Nat → Nat → Option Cont) (ro : List (Nat × Ty)) (i : Nat) : AV → Option AV
  | .ptr s j off => match roTy ro i, get s j with
    | some t, some (.cells ls) => bif Nat.beq off 0 && Nat.beq ls.length t.size && t.agg then (castTo t (.st ls)).map fun v => .pel t v else none
    | _, _ => none
  | .own t xs _ _ => some (.d (.list t) xs)
  | .ms s j k => match get s j with
    | some (.arr k' t xs) => bif Nat.beq k k' then some (.d (.list t) xs) else none
    | _ => none
  | .st ls => bif (sitesOfL (ls.map dataLeaf)).isEmpty then some (.st (ls.map dataLeaf)) else none
  | x => bif (sitesOf x).isEmpty then some x else none
def roArgs (get : Nat → Nat → Option Cont) (ro : List (Nat × Ty)) : Nat → List AV → Option (List AV)
  | _, [] => some []
  | i, x :: xs => match roArg get ro i x, roArgs get ro (i + 1) xs with
    | some y, some ys => some (y :: ys)
    | _, _ => none
def roReq (fs : FnSpec) (ro : List (Nat × Ty)) (args : List AV) : Req :=
  ⟨addSites [] (sitesOfL args), false, fun fms =>
    match roArgs (fun s j => (famAt (addSites [] (sitesOfL args)) fms s)[j]?) ro 0 args with
    | some args' => (fs.spec args' (args'.map fun _ => [])).bind fun out => bif plainAV out.res then .leaf (out.res, fms) else .fail
    | none => .fail⟩

def callReq (env : Env) (f : FuncId) (args : List AV) (site : Nat) (res : Nat → List Cont) : Req :=
  match env.find f with
  | none => .fail
  | some fs => match fs.ro with
    | some ro => roReq fs ro args
    | none =>
    let s1 := addSites [] (sitesOfL args)
    let rs := addSites s1 (s1.flatMap fun s => (res s).flatMap contSites)
    ⟨rs ++ [site], true, fun fms =>
      let get := fun s j => (famAt rs fms s)[j]?
      match fms.getLast?, renArgs get fs.owns args with
      | some [], some (args', fams, bk) =>
        bif dupFree (bk.map (·.1)) && dupFree (bk.map (·.2)) && !(rs.any (Nat.beq site)) && Nat.ble fams.length retSite then
          (fs.spec args' fams).bind fun out =>
            let fresh := out.ret.zipIdx.map (fun (c, k) => ((retSite, k), c)) ++ freshAll 0 out.fams
            let nw := nameFrom site 0 fresh
            let bx := bk.filter fun p => !isTok (get p.2.1 p.2.2)
            bif Nat.ble out.fams.length retSite && dupFree (fresh.map (·.1)) then
              (match unAVn nw bx out.res, backFams bk nw bx out.fams rs fms.dropLast, unConts nw bx (fresh.map (·.2)) with
              | some r, some fs', some new => .leaf (r, fs' ++ [new])
              | _, _, _ => .fail)
            else .fail
        else .fail
      | _, _ => .fail⟩

/-! ## One operation -/
def pureOpt (o : Option AV) : Req := match o with | some v => .pure (.leaf v) | none => .fail

def loadReq (tab : Tab) (T : TypeId) (p : AV) : Req :=
  match p with
  | .pel t v => match tab.find T with
    | some i => bif fits i t then .pure (.leaf (.d t v)) else .fail
    | none => .fail
  | .pidx s j k n off => match tab.find T with
    | none => .fail
    | some i => loadArr i s j k n off
  | .ptr s j off => match tab.find T with
    | none => .fail
    | some i => ⟨[s], false, fun fs => match fs with
      | [f] => match f[j]? with
        | some (.cells ls) => match takeLeaves i ls off with
          | some v => .leaf (v, [f])
          | none => .fail
        | _ => .fail
      | _ => .fail⟩
  | _ => .fail

def storeReq (tab : Tab) (T : TypeId) (p v : AV) : Req :=
  match p with
  | .pidx s j k n off => match tab.find T with
    | none => .fail
    | some i => storeArr i s j k n off v
  | .ptr s j off => match tab.find T with
    | none => .fail
    | some i => ⟨[s], true, fun fs => match fs with
      | [f] => match f[j]? with
        | some (.cells ls) => match cellsOf v with
          | none => .fail
          | some new => bif Nat.beq new.length i.size then
              (match putLeaves ls new off with
              | some ls' => .leaf (.undef, [f.set j (.cells ls')])
              | none => .fail)
            else .fail
        | _ => .fail
      | _ => .fail⟩
  | _ => .fail

def fieldAddrAV (tab : Tab) (T : TypeId) (p : AV) (i : Nat) : Option AV :=
  match p with
  | .ptr s j off => match structField tab T i with
    | some (o, T') => match tab.find T' with
      | some fi => bif Nat.beq fi.size 0 then none else some (.ptr s j (off + o))
      | none => none
    | none => none
  | .pel t v => match structField tab T i with
    | some (o, T') => match tab.find T', fieldAt o i t v with
      | some fi, some ⟨t', v'⟩ => bif fits fi t' && !(Nat.beq fi.size 0) then some (.pel t' v') else none
      | _, _ => none
    | none => none
  | _ => none

def fieldAddrReq (tab : Tab) (T : TypeId) (p : AV) (i : Nat) : Req :=
  match p with
  | .pidx s j k n off => match structField tab T i with
    | some (o, T') => match tab.find T' with
      | some fi => bif Nat.beq fi.size 0 then .fail else atArr s j k fun _ _ => .leaf (.pidx s j k n (off + o))
      | none => .fail
    | none => .fail
  | p => pureOpt (fieldAddrAV tab T p i)

def fieldAV (tab : Tab) (T : TypeId) (x : AV) (i : Nat) : Option AV :=
  match structField tab T i with
  | some (o, T') => match tab.find T' with
    | some fi => match x with
      | .d t v => match fieldAt o i t v with
        | some ⟨t', v'⟩ => bif fits fi t' then some (.d t' v') else none
        | none => none
      | .st ls => takeLeaves fi ls o
      | _ => none
    | none => none
  | none => none

def natLit (x : AV) : Option Nat :=
  match intOf x with
  | some (_, .ofNat n) => some n
  | _ => none

def indexAddrT (tab : Tab) (T : TypeId) (x i : AV) (ic : Bool) : Tree AV :=
  match x with
  | .ptr s j off => match arrayOf tab T, ic, natLit i with
    | some (n, ei), true, some k => bif Nat.blt k n then .leaf (.ptr s j (off + k * ei.size)) else .fail
    | _, _, _ => .fail
  | .pel t v => match arrayOf tab T, ic, natLit i with
    | some (n, ei), true, some k => bif Nat.blt k n then (match fieldAt (k * ei.size) k t v with
      | some ⟨t', v'⟩ => bif fits ei t' then .leaf (.pel t' v') else .fail
      | none => .fail) else .fail
    | _, _, _ => .fail
  | x => match listOf x, intOf i, sliceOf tab T with
    | some ⟨t, xs⟩, some (_, n), some ei => bif fits ei t then .opt t (idx xs n) fun v => .leaf (.pel t v) else .fail
    | _, _, _ => .fail

def indexAddrReq (tab : Tab) (T : TypeId) (x i : AV) (ic : Bool) : Req :=
  match x with
  | .ms s j k => match intOf i, sliceOf tab T with
    | some (_, n), some ei => atArr s j k fun t xs => bif fits ei t then .br (decide (0 ≤ n) && decide (n < xs.length)) (.leaf (.pidx s j k n.toNat 0)) .fail else .fail
    | _, _ => .fail
  | x => .pure (indexAddrT tab T x i ic)
def isStrT (tab : Tab) (T : TypeId) : Bool := match tab.find T with | some { desc := .str, .. } => true | _ => false

def indexT (tab : Tab) (T : TypeId) (x i : AV) (ic : Bool) : Tree AV :=
  match strOf x, intOf i with
  | some s, some (_, n) => bif isStrT tab T then .opt (.int .u8) ((idx s n).map fun c => (c.toNat : Int)) fun v => .leaf (.d (.int .u8) v) else .fail
  | _, _ => match ic, natLit i, arrayOf tab T with
    | true, some k, some (n, ei) => bif Nat.blt k n then (match x with
      | .d t v => match fieldAt (k * ei.size) k t v with
        | some ⟨t', v'⟩ => bif fits ei t' then .leaf (.d t' v') else .fail
        | none => .fail
      | .st ls => ofOption (takeLeaves ei ls (k * ei.size))
      | _ => .fail) else .fail
    | _, _, _ => .fail

/-- Where the parts of a struct, of an array, lie: their places and sizes. -/
def placesOf (tab : Tab) (T : TypeId) : Option (Nat → Option (Nat × Nat)) :=
  match tab.find T with
  | some { desc := .struct fs, .. } => bif fs.all (fun (_, T') => (tab.find T').isSome) then
      some fun i => (fs[i]?).bind fun (o, T') => (tab.find T').map fun fi => (o, fi.size) else none
  | some { desc := .array _ e, .. } => (tab.find e).map fun ei i => some (i * ei.size, ei.size)
  | _ => none

def buildAV (tab : Tab) (T : TypeId) (parts : List (Nat × AV)) : Option AV :=
  match tab.find T, placesOf tab T with
  | some i, some pl => bif i.zero.all flat then (fillAV pl i.zero parts).map .st else none
  | _, _ => none

/-- The parts of a slice that is written out: all of them, in order. -/
def inOrder : Nat → List (Nat × AV) → Option (List AV)
  | _, [] => some []
  | n, (i, v) :: l => bif Nat.beq i n then (inOrder (n + 1) l).map (v :: ·) else none

def elemTy (tab : Tab) (T : TypeId) : Option (TInfo × Ty) :=
  match sliceOf tab T with
  | some i => match i.ty with
    | some t => bif fits i t && !(Nat.beq i.bytes 0) && !(Nat.beq i.size 0) && Nat.beq i.zero.length i.size then some (i, t) else none
    | none => none
  | none => none

def buildSliceReq (tab : Tab) (T : TypeId) (n : Nat) (parts : List (Nat × AV)) (site : Nat) : Req :=
  match elemTy tab T, inOrder 0 parts with
  | some (i, t), some vs => bif Nat.beq vs.length n && Nat.ble (n * i.size) 16777216 then (match castAll t vs with
      | some xs => single site (.own t xs site 0) .tok
      | none => .fail) else .fail
  | _, _ => .fail

def descAt (tab : Tab) (T : TypeId) : Option TI := (tab.find T).map (·.desc)

def appendOp (tab : Tab) (T Tx : TypeId) (site : Nat) (x y : AV) : Req :=
  match elemTy tab T with
  | some (i, t) => match descAt tab Tx with
    | some (.slice _) => (match castTo (.list t) y with
      | some ys => appendReq i.bytes site t x ys
      | none => .fail)
    | some .str => (match t.same (.int .u8), strOf y with
      | some _, some s => appendReq i.bytes site (.int .u8) x (ofBytes s)
      | _, _ => .fail)
    | _ => .fail
  | none => .fail

def minMax (mx : Bool) : List AV → Tree AV
  | [x, y] => match intOf x, intOf y with
    | some (k, a), some (k', b) => match kindEq k k' with
      | some _ => .leaf (.d (.int k) (bif mx then max a b else min a b))
      | none => .fail
    | _, _ => .fail
  | _ => .fail

/-! Maps: the keys are numbers, bools or texts. -/
def keyEqB : (t : Ty) → t.den → t.den → Bool
  | .int _, a, b => (show Int from a) == (show Int from b)
  | .str, a, b => (show List UInt8 from a) == (show List UInt8 from b)
  | .bool, a, b => (show Bool from a) == (show Bool from b)
  | _, _, _ => false
def keyDesc : Ty → TI → Bool
  | .int _, .int _ => true
  | .str, .str => true
  | .bool, .bool => true
  | _, _ => false
def mapFind (k v : Ty) (key : k.den) : List (k.den × v.den) → Option v.den
  | [] => none
  | e :: es => bif keyEqB k key e.1 then some e.2 else mapFind k v key es
def mapPut (k v : Ty) (key : k.den) (val : v.den) : List (k.den × v.den) → List (k.den × v.den)
  | [] => [(key, val)]
  | e :: es => bif keyEqB k key e.1 then (key, val) :: es else e :: mapPut k v key val es
def zeroAV (i : TInfo) : AV := bif i.agg then .st i.zero else match i.zero with | [x] => x | _ => .junk
structure MI where
  k : Ty
  v : Ty
  zero : v.den
def mapInfo (tab : Tab) (T : TypeId) : Option MI :=
  match tab.find T with
  | some { desc := .map K E, .. } => match tab.find K, tab.find E with
    | some ki, some ei => match ki.ty, ei.ty with
      | some kt, some vt => match keyDesc kt ki.desc && ei.zero.all flat && (ei.agg || Nat.beq ei.zero.length 1), castTo vt (zeroAV ei) with
        | true, some z => some ⟨kt, vt, z⟩
        | _, _ => none
      | _, _ => none
    | _, _ => none
  | _ => none
def makeMapReq (tab : Tab) (T : TypeId) (site : Nat) : Req :=
  match mapInfo tab T with
  | some mi => single site (.mref site 0) (.map mi.k mi.v [])
  | none => .fail
def lookRes {v : Ty} (zero : v.den) (r : Option v.den) (ok : Bool) : AV :=
  bif ok then .tup [.d v (r.getD zero), .d .bool r.isSome] else .d v (r.getD zero)
def lookupReq (tab : Tab) (T : TypeId) (x i : AV) (ok : Bool) : Req :=
  match mapInfo tab T with
  | none => .fail
  | some mi => match castTo mi.k i with
    | none => .fail
    | some key => match x with
      | .nilm => .pure (.leaf (lookRes mi.zero none ok))
      | .mref s j => ⟨[s], false, fun fs => match fs with
        | [f] => match f[j]? with
          | some (.map k v es) => match k.same mi.k, v.same mi.v with
            | some ⟨h⟩, some ⟨h'⟩ => .leaf (lookRes mi.zero (mapFind mi.k mi.v key (by subst h; subst h'; exact es)) ok, [f])
            | _, _ => .fail
          | _ => .fail
        | _ => .fail⟩
      | _ => .fail
def updateReq (tab : Tab) (T : TypeId) (x i y : AV) : Req :=
  match mapInfo tab T with
  | none => .fail
  | some mi => match castTo mi.k i, castTo mi.v y with
    | some key, some val => match x with
      | .mref s j => ⟨[s], true, fun fs => match fs with
        | [f] => match f[j]? with
          | some (.map k v es) => match k.same mi.k, v.same mi.v with
            | some ⟨h⟩, some ⟨h'⟩ => .leaf (.undef, [f.set j (.map mi.k mi.v (mapPut mi.k mi.v key val (by subst h; subst h'; exact es)))])
            | _, _ => .fail
          | _ => .fail
        | _ => .fail⟩
      | _ => .fail
    | _, _ => .fail

/-! Structs and arrays held against each other. -/
def eqD : (t : Ty) → t.den → t.den → Bool
  | .int _, a, b => (show Int from a) == (show Int from b)
  | .str, a, b => (show List UInt8 from a) == (show List UInt8 from b)
  | .bool, a, b => (show Bool from a) == (show Bool from b)
  | .st fs, a, b => eqD fs a b
  | .cons s t, a, b => eqD s (Prod.fst (α := s.den) (β := t.den) a) (Prod.fst (α := s.den) (β := t.den) b) && eqD t (Prod.snd (α := s.den) (β := t.den) a) (Prod.snd (α := s.den) (β := t.den) b)
  | _, _, _ => false

/-- Two structs, or arrays, of plain data held against each other. -/
def eqAV (tab : Tab) (op : BinOp) (T : TypeId) (x y : AV) : Option (Tree AV) :=
  match tab.find T with
  | some i => match i.agg && i.eq, i.ty with
    | true, some t => match castTo t x, castTo t y with
      | some a, some b => match op with
        | .eql => some (.leaf (.d .bool (eqD t a b)))
        | .neq => some (.leaf (.d .bool (!(eqD t a b))))
        | _ => none
      | _, _ => none
    | _, _ => none
  | none => none
def binTree (tab : Tab) (op : BinOp) (T : TypeId) (x y : AV) (yc : Bool) : Tree AV :=
  match eqAV tab op T x y with
  | some t => t
  | none => binAV ((tab.find T).map (·.desc)) op x y yc

/-! A text, rune by rune -/
def decodeL (s : List UInt8) (i : Nat) : Nat × Nat := Utf8.decode ⟨⟨s⟩⟩ i
def rangeReq (tab : Tab) (T : TypeId) (x : AV) (site : Nat) : Req :=
  match descAt tab T, strOf x with
  | some .str, some s => single site (.iref site 0) (.iter s 0)
  | _, _ => .fail
def nextReq (x : AV) : Req :=
  match x with
  | .iref s j => ⟨[s], true, fun fs => match fs with
    | [f] => match f[j]? with
      | some (.iter t pos) => .br (decide (pos < t.length)) (.leaf (.tup [.tt, intAV pos, .d (.int .i32) (decodeL t pos).1], [f.set j (.iter t (pos + (decodeL t pos).2))])) (.leaf (.tup [.ff], [f]))
      | _ => .fail
    | _ => .fail⟩
  | _ => .fail

def fnArgs (f : AV) (args : List AV) : Option (FuncId × List AV) :=
  match f with
  | .fn g a b => some (g, a ++ args ++ b)
  | _ => none

def reqOf (tab : Tab) (env : Env) (o : Oper) (st : St) : Req :=
  let ρ := evalO st
  let site := o.dst.getD 0
  match o.op with
  | .move x | .assign x => .pure (.leaf (ρ x))
  | .pick c a b => .pure (pickAV (ρ c) (ρ a) (ρ b))
  | .alloc T => match tab.find T with
    | some i => bif i.zero.all flat then single site (.ptr site 0 0) (.cells i.zero) else .fail
    | none => .fail
  | .box T x => match tab.find T with
    | some i => match cellsOf (ρ x) with
      | some ls => bif Nat.beq ls.length i.size then single site (.ptr site 0 0) (.cells ls) else .fail
      | none => .fail
    | none => .fail
  | .build T parts => pureOpt (buildAV tab T (parts.toList.map fun (i, x) => (i, ρ x)))
  | .buildSlice T n parts => buildSliceReq tab T n (parts.toList.map fun (i, x) => (i, ρ x)) site
  | .load T a => loadReq tab T (ρ a)
  | .store T a x => storeReq tab T (ρ a) (ρ x)
  | .nilCheck x => match ρ x with
    | .ptr s j off => .pure (.leaf (.ptr s j off))
    | .pel t v => .pure (.leaf (.pel t v))
    | .pidx s j k n off => atArr s j k fun _ _ => .leaf (.pidx s j k n off)
    | .fn f a b => .pure (.leaf (.fn f a b))
    | _ => .fail
  | .binOp op T x y _ => .pure (binTree tab op T (ρ x) (ρ y) (isConst y))
  | .unOp op _ x => .pure (unAV op (ρ x))
  | .convert src dst x => convAV tab src dst site (ρ x)
  | .makeFunc (.func f) first caps => .pure (.leaf (.fn f (first.toList.map ρ) (caps.toList.map ρ)))
  | .slice T x lo hi none => .pure (sliceAV tab T (ρ x) (lo.map ρ) (hi.map ρ))
  | .fieldAddr T x f => fieldAddrReq tab T (ρ x) f
  | .field T x f => pureOpt (fieldAV tab T (ρ x) f)
  | .indexAddr T x i => indexAddrReq tab T (ρ x) (ρ i) (isConst i)
  | .index T x i => .pure (indexT tab T (ρ x) (ρ i) (isConst i))
  | .makeMap T none => makeMapReq tab T site
  | .lookup T x i ok => lookupReq tab T (ρ x) (ρ i) ok
  | .mapUpdate T x i y => updateReq tab T (ρ x) (ρ i) (ρ y)
  | .insert T x i y => updateReq tab T (ρ x) (ρ i) (ρ y)
  | .range T x => rangeReq tab T (ρ x) site
  | .next x true => nextReq (ρ x)
  | .extract x i => match ρ x with
    | .tup vs => pureOpt vs[i]?
    | _ => .fail
  | .call c => match c.callee with
    | .builtin .len => match c.args.toList, c.argTypes.toList with
      | [x], [T] => lenReq ((tab.find T).map (·.desc)) (ρ x)
      | _, _ => .fail
    | .builtin .append => match c.args.toList, c.argTypes.toList with
      | [x, y], [T, Tx] => appendOp tab T Tx site (ρ x) (ρ y)
      | _, _ => .fail
    | .builtin .max => .pure (minMax true (c.args.toList.map ρ))
    | .builtin .min => .pure (minMax false (c.args.toList.map ρ))
    | .value f => match fnArgs (ρ f) (c.args.toList.map ρ) with
      | some (g, args) => callReq env g args site st.res
      | none => .fail
    | _ => .fail
  | _ => .fail

/-! ## Regions and code -/
def setF {α : Type} (f : Nat → α) (i : Nat) (v : α) : Nat → α := fun j => bif Nat.beq j i then v else f j

def putRes (res : Nat → List Cont) : List Nat → List (List Cont) → Nat → List Cont
  | s :: ss, f :: fs => setF (putRes res ss fs) s f
  | _, _ => res

def putDst (st : St) (dst : Option Nat) (v : AV) : St :=
  match dst with
  | some d => ⟨setF st.tmps d v, st.res⟩
  | none => st

def doReq (r : Req) (dst : Option Nat) (st : St) : Tree St :=
  (r.act (r.rs.map st.res)).bind fun (v, fs) => .leaf (putDst ⟨st.tmps, putRes st.res r.rs fs⟩ dst v)

abbrev Log := List (Option (List Nat × Bool))

def doO (tab : Tab) (env : Env) (o : Oper) (st : St) : Tree (St × Option (List Nat × Bool)) :=
  let r := reqOf tab env o st
  (doReq r o.dst st).bind fun st' => .leaf (st', some (r.rs, r.wr))

def learnt (learn : Bool) (st : St) (t : Nat) (v : AV) : St := bif learn then ⟨setF st.tmps t v, st.res⟩ else st

def execO (tab : Tab) (env : Env) (learn : Bool) (ops : Array Oper) (o : Oper) (st : St) : Tree (St × Option (List Nat × Bool)) :=
  match o.guard with
  | none => doO tab env o st
  | some (j, want) =>
    match (ops[j]?).bind (·.dst) with
    | none => .fail
    | some t =>
      let go := fun (b : Bool) (st : St) => bif b == want then doO tab env o st else .leaf (putDst st o.dst .undef, none)
      match st.tmps t with
      | .tt => go true st
      | .ff => go false st
      | .undef => .leaf (putDst st o.dst .undef, none)
      | x => match boolOf x with
        | some b => .br b (go true (learnt learn st t .tt)) (go false (learnt learn st t .ff))
        | none => .fail

def execOs (tab : Tab) (env : Env) (learn : Bool) (ops : Array Oper) : List Oper → St → Tree (St × Log)
  | [], st => .leaf (st, [])
  | o :: l, st => (execO tab env learn ops o st).bind fun (st', lg) => (execOs tab env learn ops l st').bind fun (st'', lgs) => .leaf (st'', lg :: lgs)

/-- The same, where it is remembered which way a guard went: 'kn' holds the temporaries known. -/
def knownAt : List (Nat × Bool) → Nat → Option Bool
  | [], _ => none
  | (t, b) :: l, i => bif Nat.beq t i then some b else knownAt l i
def forget (d : Option Nat) (kn : List (Nat × Bool)) : List (Nat × Bool) := match d with
  | none => kn
  | some d => kn.filter fun p => !(Nat.beq p.1 d)
def execOsM (tab : Tab) (env : Env) (ops : Array Oper) : List Oper → List (Nat × Bool) → St → Tree (St × Log)
  | [], _, st => .leaf (st, [])
  | o :: l, kn, st =>
    let rest := fun (kn : List (Nat × Bool)) (r : St × Option (List Nat × Bool)) => (execOsM tab env ops l (forget o.dst kn) r.1).bind fun (st'', lgs) => .leaf (st'', r.2 :: lgs)
    match o.guard with
    | none => (doO tab env o st).bind (rest kn)
    | some (j, want) =>
      match (ops[j]?).bind (·.dst) with
      | none => .fail
      | some t =>
        let go := fun (b : Bool) (st : St) => bif b == want then doO tab env o st else .leaf (putDst st o.dst .undef, none)
        match st.tmps t with
        | .tt => (go true st).bind (rest kn)
        | .ff => (go false st).bind (rest kn)
        | .undef => rest kn (putDst st o.dst .undef, none)
        | x => match knownAt kn t with
          | some b => (go b st).bind (rest kn)
          | none => match boolOf x with
            | some b => .br b ((go true st).bind (rest ((t, true) :: kn))) ((go false st).bind (rest ((t, false) :: kn)))
            | none => .fail

def disjoint (a b : List Nat) : Bool := a.all fun x => !(b.any (Nat.beq x))
def apartLog : Option (List Nat × Bool) → Option (List Nat × Bool) → Bool
  | some (a, wa), some (b, wb) => (!wa && !wb) || disjoint a b
  | _, _ => true

/-- What an operation waits for, near and far. -/
def bitsOf (acc : List Nat) (o : Oper) : Nat := o.after.toList.foldl (fun s e => bif Region.binds .any e then s ||| 2 ^ e.on ||| acc.getD e.on 0 else s) 0
def befores : List Oper → List Nat → List Nat
  | [], acc => acc
  | o :: l, acc => befores l (acc ++ [bitsOf acc o])

abbrev Done := Nat × Oper × Option (List Nat × Bool)

/-- Operation number j: with all of 'l' for which it does not wait it has nothing in common. -/
def free1 (ops : Array Oper) (b : List Nat) (y : Done) (x : Done) : Bool := (b.getD y.1 0).testBit x.1 || (apartLog x.2.2 y.2.2 && x.2.1.apart ops y.2.1)
def orderFree (ops : Array Oper) (b : List Nat) : List Done → Bool
  | [] => true
  | x :: l => l.all (fun y => free1 ops b y x) && orderFree ops b l

def withLog : Nat → List Oper → Log → List Done
  | k, o :: l, x :: lg => (k, o, x) :: withLog (k + 1) l lg
  | _, _, _ => []

/-- Each waits for earlier ones alone. -/
def backward : Nat → List Oper → Bool
  | _, [] => true
  | k, o :: l => o.after.toList.all (fun e => Nat.blt e.on k) && backward (k + 1) l

/-- .. of those that the mode binds. -/
def backwardM (md : Region.Mode) : Nat → List Oper → Bool
  | _, [] => true
  | k, o :: l => o.after.toList.all (fun e => !(Region.binds md e) || Nat.blt e.on k) && backwardM md (k + 1) l
/-- An order in which all of them may come. -/
def topoOk (md : Region.Mode) (ops : List Oper) : List Nat → List Nat → Bool
  | [], _ => true
  | i :: σ, done => (match ops[i]? with | some o => o.after.toList.all (fun e => !(Region.binds md e) || done.any (Nat.beq e.on)) | none => false) && topoOk md ops σ (i :: done)
def topo2 (md : Region.Mode) (ops : Array Oper) : Bool :=
  backwardM md 0 ops.toList || (topoOk md ops.toList (Region.linearise md ops 0) [] && (List.range ops.size).all fun i => (Region.linearise md ops 0).any (Nat.beq i))
def ordOk (ops : Array Oper) : Bool :=
  backwardM .any 0 ops.toList && (backward 0 ops.toList || (topo2 .text ops && topo2 .gc ops))

def regionT (tab : Tab) (env : Env) (ops : Array Oper) (draw : Bool) (st : St) : Tree St :=
  (bif draw then execOsM tab env ops ops.toList [] st else execOs tab env true ops ops.toList st).bind fun (st', lg) =>
    bif draw then (bif ordOk ops && orderFree ops (befores ops.toList []) (withLog 0 ops.toList lg) then .leaf st' else .fail) else .leaf st'

/-! ## Cuts -/
inductive Sh where
  | d (t : Ty) | own (t : Ty) (s j : Nat) | lit (v : AV) | st (ls : List Sh) | any | ms (s j : Nat)

inductive CSh where
  | cells (ls : List Sh) | arr (t : Ty) | map (k v : Ty) | tok | gone

structure Cut where
  tm : List (Nat × Sh)
  rs : List (Nat × List CSh)

inductive Leaf where
  | done (o : Out)
  | jump (j : Nat) (ps : List AV)

inductive Ex where
  | normal | exit (id : Nat) | ret | jump (j : Nat) (ps : List AV)

mutual
def sameLit : AV → AV → Bool
  | .ptr s j o, .ptr s' j' o' => Nat.beq s s' && Nat.beq j j' && Nat.beq o o'
  | .mref s j, .mref s' j' => Nat.beq s s' && Nat.beq j j'
  | .nilp, .nilp | .nilfn, .nilfn | .nilm, .nilm | .nil, .nil | .undef, .undef | .tt, .tt | .ff, .ff => true
  | .fn f a b, .fn f' a' b' => Nat.beq f f' && sameLits a a' && sameLits b b'
  | _, _ => false
def sameLits : List AV → List AV → Bool
  | [], [] => true
  | x :: xs, y :: ys => sameLit x y && sameLits xs ys
  | _, _ => false
end


/-- What has been taken up: the new name, the old one. -/
abbrev Used := List ((Nat × Nat) × Option (Nat × Nat))
def Used.find : Used → Nat → Nat → Option (Option (Nat × Nat))
  | [], _, _ => none
  | ((a, b), r) :: l, s, j => bif Nat.beq a s && Nat.beq b j then some r else Used.find l s j
def srcs (u : Used) : List (Nat × Nat) := u.filterMap (·.2)

/-- The cells of a struct. -/
def aggOf : AV → Option (List AV)
  | .st ls => some ls
  | .d t v => bif t.agg then some (leaves t v) else none
  | _ => none

mutual
/-- A value brought into its shape: what is not fixed by the shape. -/
def normSh (res : Nat → List Cont) : Sh → AV → Option (List AV × Used)
  | .d t, v => match castTo t v with | some x => some ([.d t x], []) | none => none
  | .own t s j, v => match v with
    | .nil => some ([.own t [] s j], [((s, j), none)])
    | .own t' xs s' j' => match t'.same t, (res s')[j']? with
      | some ⟨h⟩, some .tok => some ([.own t (h ▸ xs) s j], [((s, j), some (s', j'))])
      | _, _ => none
    | _ => none
  | .lit w, v => bif sameLit w v then some ([], []) else none
  | .st ls, v => match aggOf v with | some vs => normShs res ls vs | none => none
  | .any, _ => some ([], [])
  | .ms s j, v => match v with
    | .ms s' j' k => bif Nat.beq s s' && Nat.beq j j' then (match (res s)[j]? with
      | some (.arr k' _ _) => bif Nat.beq k k' then some ([], []) else none
      | _ => none) else none
    | _ => none
def normShs (res : Nat → List Cont) : List Sh → List AV → Option (List AV × Used)
  | [], [] => some ([], [])
  | s :: ss, v :: vs => match normSh res s v, normShs res ss vs with
    | some (a, u), some (b, w) => some (a ++ b, u ++ w)
    | _, _ => none
  | _, _ => none
end

def normCont (res : Nat → List Cont) : CSh → Cont → Option (List AV × Used)
  | .cells ls, .cells vs => normShs res ls vs
  | .map k v, .map k' v' es => match k'.same k, v'.same v with
    | some ⟨h⟩, some ⟨h'⟩ => some ([.tup [.d (.list (.cons k v)) (by subst h; subst h'; exact es)]], [])
    | _, _ => none
  | .arr t, .arr _ t' xs => match t'.same t with
    | some ⟨h⟩ => some ([.d (.list t) (by subst h; exact xs)], [])
    | none => none
  | .tok, _ => some ([], [])
  | .gone, _ => some ([], [])
  | _, _ => none

def normConts (res : Nat → List Cont) : List CSh → List Cont → Option (List AV × Used)
  | [], _ => some ([], [])
  | s :: ss, c :: cs => match normCont res s c, normConts res ss cs with
    | some (a, u), some (b, w) => some (a ++ b, u ++ w)
    | _, _ => none
  | .tok :: ss, [] => normConts res ss []
  | .gone :: ss, [] => normConts res ss []
  | _, [] => none

def normTm (st : St) : List (Nat × Sh) → Option (List AV × Used)
  | [] => some ([], [])
  | (t, s) :: l => match normSh st.res s (st.tmps t), normTm st l with
    | some (a, u), some (b, w) => some (a ++ b, u ++ w)
    | _, _ => none

def normRs (st : St) : List (Nat × List CSh) → Option (List AV × Used)
  | [] => some ([], [])
  | (s, cs) :: l => match normConts st.res cs (st.res s), normRs st l with
    | some (a, u), some (b, w) => some (a ++ b, u ++ w)
    | _, _ => none

def normSt (c : Cut) (st : St) : Option (List AV) :=
  match normTm st c.tm, normRs st c.rs with
  | some (a, u), some (b, w) => bif dupFree (srcs (u ++ w)) then some (a ++ b) else none
  | _, _ => none

mutual
def mkSh : Sh → List AV → Option (AV × List AV)
  | .d _, p :: ps => some (p, ps)
  | .own .., p :: ps => some (p, ps)
  | .lit v, ps => some (v, ps)
  | .any, ps => some (.junk, ps)
  | .ms s j, ps => some (.ms s j 0, ps)
  | .st ls, ps => match mkShs ls ps with
    | some (vs, ps) => some (.st vs, ps)
    | none => none
  | _, [] => none
def mkShs : List Sh → List AV → Option (List AV × List AV)
  | [], ps => some ([], ps)
  | s :: ss, ps => match mkSh s ps with
    | some (v, ps) => match mkShs ss ps with
      | some (vs, ps) => some (v :: vs, ps)
      | none => none
    | none => none
end

def mkCont : CSh → List AV → Option (Cont × List AV)
  | .cells ls, ps => match mkShs ls ps with
    | some (vs, ps) => some (.cells vs, ps)
    | none => none
  | .arr t, p :: ps => match listOf p with
    | some ⟨t', xs⟩ => match t'.same t with | some ⟨h⟩ => some (.arr 0 t (by subst h; exact xs), ps) | none => none
    | none => none
  | .map k v, .tup [p] :: ps => match listOf p with
    | some ⟨t', xs⟩ => match t'.same (.cons k v) with | some ⟨h⟩ => some (.map k v (show (Ty.list (.cons k v)).den from h ▸ xs), ps) | none => none
    | none => none
  | .tok, ps => some (.tok, ps)
  | .gone, ps => some (.gone, ps)
  | _, _ => none

def mkConts : List CSh → List AV → Option (List Cont × List AV)
  | [], ps => some ([], ps)
  | s :: ss, ps => match mkCont s ps with
    | some (v, ps) => match mkConts ss ps with
      | some (vs, ps) => some (v :: vs, ps)
      | none => none
    | none => none

def mkTm : List (Nat × Sh) → List AV → Option (List (Nat × AV) × List AV)
  | [], ps => some ([], ps)
  | (t, s) :: l, ps => match mkSh s ps with
    | some (v, ps) => match mkTm l ps with
      | some (vs, ps) => some ((t, v) :: vs, ps)
      | none => none
    | none => none

def mkRs : List (Nat × List CSh) → List AV → Option (List (Nat × List Cont) × List AV)
  | [], ps => some ([], ps)
  | (s, cs) :: l, ps => match mkConts cs ps with
    | some (v, ps) => match mkRs l ps with
      | some (vs, ps) => some ((s, v) :: vs, ps)
      | none => none
    | none => none

def lookT : List (Nat × AV) → Nat → AV
  | [], _ => .junk
  | (t, v) :: l, i => bif Nat.beq i t then v else lookT l i
def lookR : List (Nat × List Cont) → Nat → List Cont
  | [], _ => []
  | (t, v) :: l, i => bif Nat.beq i t then v else lookR l i

def mkSt (c : Cut) (ps : List AV) : Option St :=
  match mkTm c.tm ps with
  | some (tm, ps) => match mkRs c.rs ps with
    | some (rs, []) => some ⟨lookT tm, lookR rs⟩
    | _ => none
  | none => none

/-! ### What is asked of a cut -/
mutual
def namesOf : AV → List (Nat × Nat)
  | .ptr s j _ | .own _ _ s j | .mref s j | .iref s j | .ms s j _ | .pidx s j _ _ _ => [(s, j)]
  | .st ls | .tup ls => namesOfL ls
  | .fn _ a b => namesOfL a ++ namesOfL b
  | _ => []
def namesOfL : List AV → List (Nat × Nat)
  | [] => []
  | x :: xs => namesOf x ++ namesOfL xs
end
mutual
def ownSh : Sh → List (Nat × Nat)
  | .own _ s j => [(s, j)]
  | .st ls => ownShs ls
  | _ => []
def ownShs : List Sh → List (Nat × Nat)
  | [] => []
  | x :: xs => ownSh x ++ ownShs xs
end
mutual
def litSh : Sh → List (Nat × Nat)
  | .lit v => namesOf v
  | .ms s j => [(s, j)]
  | .st ls => litShs ls
  | _ => []
def litShs : List Sh → List (Nat × Nat)
  | [] => []
  | x :: xs => litSh x ++ litShs xs
end
def ownC : List CSh → List (Nat × Nat)
  | [] => []
  | .cells ls :: cs => ownShs ls ++ ownC cs
  | _ :: cs => ownC cs
def litC : List CSh → List (Nat × Nat)
  | [] => []
  | .cells ls :: cs => litShs ls ++ litC cs
  | _ :: cs => litC cs
def ownTm : List (Nat × Sh) → List (Nat × Nat)
  | [] => []
  | (_, s) :: l => ownSh s ++ ownTm l
def litTm : List (Nat × Sh) → List (Nat × Nat)
  | [] => []
  | (_, s) :: l => litSh s ++ litTm l
def ownRs : List (Nat × List CSh) → List (Nat × Nat)
  | [] => []
  | (_, cs) :: l => ownC cs ++ ownRs l
def litRs : List (Nat × List CSh) → List (Nat × Nat)
  | [] => []
  | (_, cs) :: l => litC cs ++ litRs l
def Cut.owns (c : Cut) : List (Nat × Nat) := ownTm c.tm ++ ownRs c.rs
def Cut.lits (c : Cut) : List (Nat × Nat) := litTm c.tm ++ litRs c.rs
def lookC : List (Nat × List CSh) → Nat → List CSh
  | [], _ => []
  | (t, v) :: l, i => bif Nat.beq i t then v else lookC l i
def Cut.slot (c : Cut) (s j : Nat) : Option CSh := (lookC c.rs s)[j]?
def isTokS : Option CSh → Bool
  | some .tok => true
  | _ => false
def slotKeep : Option CSh → Bool
  | some (.cells _) | some (.map _ _) | some (.arr _) | some .gone => true
  | _ => false
def toksIn (own : List (Nat × Nat)) (s : Nat) : Nat → List CSh → Bool
  | _, [] => true
  | j, .tok :: cs => own.any (fun y => Nat.beq y.1 s && Nat.beq y.2 j) && toksIn own s (j + 1) cs
  | j, _ :: cs => toksIn own s (j + 1) cs
def cutOk (c : Cut) : Bool :=
  c.owns.all (fun n => isTokS (c.slot n.1 n.2)) && dupFree c.owns && c.rs.all (fun (s, cs) => toksIn c.owns s 0 cs) && c.lits.all (fun n => slotKeep (c.slot n.1 n.2))
/-- What came with the arguments is not lost sight of. -/
def keepIn (c : Cut) (s : Nat) : Nat → List CSh → Bool
  | _, [] => true
  | j, .cells _ :: cs => slotKeep (c.slot s j) && keepIn c s (j + 1) cs
  | j, .map _ _ :: cs => slotKeep (c.slot s j) && keepIn c s (j + 1) cs
  | j, _ :: cs => keepIn c s (j + 1) cs
def keepsOk (e c : Cut) : Bool := e.rs.all fun (s, cs) => keepIn c s 0 cs

/-! ## What a function hands back -/
inductive RS where
  | d (t : Ty) | own (t : Ty) | lit (v : AV) | st (ls : List RS) | box (ls : List RS) | alt (a b : RS) | arg (i : Nat) | tup (ls : List RS) | mp

/-- A list that may be written to, as data. -/
def frozenAt (res : Nat → List Cont) (t : Ty) : AV → Option t.den
  | .ms s j k => match (res s)[j]? with
    | some (.arr k' t' xs) => match Nat.beq k k', (Ty.list t').same t with
      | true, some ⟨h⟩ => some (h ▸ (show (Ty.list t').den from xs))
      | _, _ => none
    | _ => none
  | _ => none

mutual
def normRS (res : Nat → List Cont) : RS → AV → List Cont → Option (AV × List Cont × Used)
  | .d t, v, k => match frozenAt res t v with
    | some x => some (.d t x, k, [])
    | none => match castTo t v with | some x => some (.d t x, k, []) | none => none
  | .own t, v, k => match v with
    | .nil => some (.own t [] retSite k.length, k ++ [.tok], [((retSite, k.length), none)])
    | .own t' xs s j => match t'.same t, (res s)[j]? with
      | some ⟨h⟩, some .tok => some (.own t (h ▸ xs) retSite k.length, k ++ [.tok], [((retSite, k.length), some (s, j))])
      | _, _ => none
    | _ => none
  | .lit w, v, k => bif sameLit w v && (sitesOf w).isEmpty then some (w, k, []) else none
  | .st ls, v, k => match aggOf v with
    | some cs => match normRSs res ls cs k with
      | some (vs, k, u) => some (.st vs, k, u)
      | none => none
    | none => none
  | .tup ls, v, k => match v with
    | .tup vs => match normRSs res ls vs k with
      | some (vs, k, u) => some (.tup vs, k, u)
      | none => none
    | _ => none
  | .box ls, v, k => match v with
    | .ptr s j o => match (res s)[j]? with
      | some (.cells vs) => match normRSs res ls vs (k ++ [.gone]) with
        | some (vs, k', u) => some (.ptr retSite k.length o, k'.set k.length (.cells vs), ((retSite, k.length), some (s, j)) :: u)
        | none => none
      | _ => none
    | _ => none
  | .alt a b, v, k => match normRS res a v k with
    | some r => some r
    | none => normRS res b v k
  | .mp, v, k => match v with
    | .mref s j => match (res s)[j]? with
      | some (.map kt vt es) => some (.mref retSite k.length, k ++ [.map kt vt es], [((retSite, k.length), some (s, j))])
      | _ => none
    | _ => none
  | .arg i, v, k => match v with
    | .ptr s j o => bif Nat.beq s i && Nat.beq j 0 then some (.ptr i 0 o, k, []) else none
    | _ => none
def normRSs (res : Nat → List Cont) : List RS → List AV → List Cont → Option (List AV × List Cont × Used)
  | [], [], k => some ([], k, [])
  | r :: rs, v :: vs, k => match normRS res r v k with
    | some (x, k, u) => match normRSs res rs vs k with
      | some (xs, k, w) => some (x :: xs, k, u ++ w)
      | none => none
    | none => none
  | _, _, _ => none
end

/-- The maps of a struct that came as an argument. -/
def famMaps (res : Nat → List Cont) (i : Nat) : Nat → List CSh → Option (List Cont × Used)
  | _, [] => some ([], [])
  | q, c :: cs => match famMaps res i (q + 1) cs with
    | none => none
    | some (f, u) => match c with
      | .map _ _ => match (res i)[q]? with
        | some (.map k v es) => some (.map k v es :: f, ((i, q), some (i, q)) :: u)
        | _ => none
      | _ => some (.gone :: f, u)

/-- The boxes that a closure has caught, behind the call. -/
def boxesAt (res : Nat → List Cont) (i : Nat) : Nat → List CSh → List Cont × Back
  | _, [] => ([], [])
  | q, _ :: cs =>
    let r := boxesAt res i (q + 1) cs
    match (res i)[q]? with
    | some (.cells ls) => (.cells ls :: r.1, ((i, q), (i, q)) :: r.2)
    | some (.map k v es) => (.map k v es :: r.1, ((i, q), (i, q)) :: r.2)
    | _ => (.gone :: r.1, r.2)

def isBoxes : List CSh → Bool
  | .cells _ :: .cells _ :: _ => true
  | .cells _ :: .map _ _ :: .cells _ :: _ => true
  | _ => false

/-- What has become of what came with argument number i; 'keep': the boxes and maps whose names stand. -/
def famOut (keep : Back) (res : Nat → List Cont) (i : Nat) (cs : List CSh) : Option (List Cont × Used) :=
  match cs with
  | [] => some ([], [])
  | .cells _ :: _ =>
    let get := fun s j => (res s)[j]?
    let n := bif isBoxes cs then boxesAt res i 0 cs else
      let n1 := nameArg get true i (.ptr i 0 0)
      let n2 := boxesAt res i n1.1.length (cs.drop n1.1.length)
      (n1.1 ++ n2.1, n1.2 ++ n2.2)
    match unConts (tokBack get n.2) (refBack get n.2 ++ keep) n.1 with
    | some f => some (f, n.2.map fun p => (p.1, some p.2))
    | none => none
  | cs => famMaps res i 0 cs

def famsOut (keep : Back) (res : Nat → List Cont) : List (Nat × List CSh) → Nat → Nat → Option (List (List Cont) × Used)
  | _, _, 0 => some ([], [])
  | l, i, n + 1 =>
    match famOut keep res i (((l.find? fun p => Nat.beq p.1 i).map (·.2)).getD []), famsOut keep res l (i + 1) n with
    | some (f, u), some (fs, w) => some (f :: fs, u ++ w)
    | _, _ => none

def keepNames (s : Nat) : Nat → List CSh → Back
  | _, [] => []
  | j, .cells _ :: cs => ((s, j), (s, j)) :: keepNames s (j + 1) cs
  | j, .map _ _ :: cs => ((s, j), (s, j)) :: keepNames s (j + 1) cs
  | j, _ :: cs => keepNames s (j + 1) cs
def keepAll : List (Nat × List CSh) → Back
  | [] => []
  | (s, cs) :: l => keepNames s 0 cs ++ keepAll l

structure Meta where
  tab : Tab
  nargs : Nat
  res : RS
  cuts : List (Nat × Cut)      -- number 100000 is the entry
  fuel : Nat := 1              -- how many rounds of a loop without a cut

def Meta.cut (m : Meta) (j : Nat) : Option Cut := (m.cuts.find? fun p => Nat.beq p.1 j).map (·.2)
def entry : Nat := 100000

def resultsAV (tab : Tab) (fn : Func) (st : St) : Option AV :=
  let one := fun (r : ResultVar) => match r with
    | .tmp t => some (st.tmps t)
    | .cell a T => match st.tmps a, tab.find T with
      | .ptr s j o, some i => match (st.res s)[j]? with
        | some (.cells ls) => takeLeaves i ls o
        | _ => none
      | _, _ => none
  match fn.results.toList with
  | [r] => one r
  | rs => (rs.mapM one).map .tup

mutual
/-- The arguments that may be handed back. -/
def argsRS : RS → List Nat
  | .st ls | .tup ls | .box ls => argsRSs ls
  | .alt a b => argsRS a ++ argsRS b
  | .arg i => [i]
  | _ => []
def argsRSs : List RS → List Nat
  | [] => []
  | r :: rs => argsRS r ++ argsRSs rs
end

def keepU1 (u : Used) (s : Nat) : Nat → List CSh → Bool
  | _, [] => true
  | j, .cells _ :: cs => (match u.find s j with | some (some (a, b)) => Nat.beq a s && Nat.beq b j | some none => false | none => true) && keepU1 u s (j + 1) cs
  | j, .map _ _ :: cs => (match u.find s j with | some (some (a, b)) => Nat.beq a s && Nat.beq b j | some none => false | none => true) && keepU1 u s (j + 1) cs
  | j, _ :: cs => keepU1 u s (j + 1) cs
/-- What came with the arguments is where it was. -/
def keepU (u : Used) (fams : List (List Cont)) (rs : List (Nat × List CSh)) : Bool :=
  rs.all fun (s, cs) => (cs.isEmpty || !(((fams[s]?).getD []).isEmpty)) && keepU1 u s 0 cs
def isBoxS : Option CSh → Bool
  | some (.cells _) => true
  | _ => false

def okC : Cont → Bool
  | .arr .. | .iter .. => false
  | _ => true

def finish (m : Meta) (fn : Func) (st : St) : Option Out :=
  match resultsAV m.tab fn st, m.cut entry with
  | some v, some ec =>
    match normRS st.res m.res v [], famsOut (keepAll ec.rs) st.res ec.rs 0 m.nargs with
    | some (r, ret, u), some (fams, w) =>
      bif dupFree (srcs (u ++ w)) && dupFree ((u ++ w).map (·.1)) && keepU (u ++ w) fams ec.rs && Nat.ble fams.length retSite && (argsRS m.res).all (fun i => isBoxS (ec.slot i 0)) && (u ++ w).all (fun e => !((bif Nat.beq e.1.1 retSite then ret else (fams[e.1.1]?).getD []).isEmpty)) && (ret.all okC && fams.all (fun f => f.all okC)) then some ⟨r, fams, ret⟩ else none
    | _, _ => none
  | _, _ => none

/-! ## The code of a function between its cuts -/
/-! In a loop that is run round by round, what was made in earlier rounds gets older names. -/
def agedSite (n s : Nat) : Nat := bif Nat.blt s n then s else s + 65536
mutual
def ageAV (n : Nat) : AV → AV
  | .own t xs s j => .own t xs (agedSite n s) j
  | .ptr s j off => .ptr (agedSite n s) j off
  | .mref s j => .mref (agedSite n s) j
  | .iref s j => .iref (agedSite n s) j
  | .ms s j k => .ms (agedSite n s) j k
  | .pidx s j k i off => .pidx (agedSite n s) j k i off
  | .st ls => .st (ageAVs n ls)
  | .tup ls => .tup (ageAVs n ls)
  | .fn f a b => .fn f (ageAVs n a) (ageAVs n b)
  | x => x
def ageAVs (n : Nat) : List AV → List AV
  | [] => []
  | x :: xs => ageAV n x :: ageAVs n xs
end
def ageCont (n : Nat) : Cont → Cont
  | .cells ls => .cells (ageAVs n ls)
  | c => c
def ageConts (n : Nat) : List Cont → List Cont
  | [] => []
  | c :: cs => ageCont n c :: ageConts n cs
def ageSt (n : Nat) (st : St) : St := ⟨fun t => ageAV n (st.tmps t), fun s => bif Nat.blt s n then ageConts n (st.res s) else bif Nat.ble (n + 65536) s then ageConts n (st.res (s - 65536)) else []⟩

def Meta.aged (m : Meta) (st : St) : St := bif Nat.ble m.fuel 1 then st else ageSt m.nargs st

def loopF (m : Meta) (f : St → Tree (Ex × St)) : Nat → St → Tree (Ex × St)
  | 0, _ => .fail
  | k + 1, st => (f st).bind fun (e, st) => match e with
    | .normal => loopF m f k (m.aged st)
    | e => .leaf (e, st)

def den (m : Meta) (env : Env) : Code → St → Tree (Ex × St)
  | .skip, st => .leaf (.normal, st)
  | .region id ops draw, st =>
    match m.cut id with
    | some c => match normSt c st with
      | some ps => .leaf (.jump id ps, st)
      | none => .fail
    | none => (regionT m.tab env ops draw st).bind fun st => .leaf (.normal, st)
  | .seq a b, st => (den m env a st).bind fun (e, st) => match e with
    | .normal => den m env b st
    | e => .leaf (e, st)
  | .cond c x y, st =>
    match evalO st c with
    | .tt => den m env x st
    | .ff => den m env y st
    | v => match boolOf v with
      | some b => .br b (den m env x st) (den m env y st)
      | none => .fail
  | .block id c, st => (den m env c st).bind fun (e, st) => match e with
    | .exit i => .leaf (bif Nat.beq i id then .normal else .exit i, st)
    | e => .leaf (e, st)
  | .loop c, st => loopF m (den m env c) m.fuel st
  | .exit id, st => .leaf (.exit id, st)
  | .ret, st => .leaf (.ret, st)
  | _, _ => .fail

def hasRegion (j : Nat) : Code → Bool
  | .region id _ _ => Nat.beq id j
  | .seq a b => hasRegion j a || hasRegion j b
  | .cond _ x y => hasRegion j x || hasRegion j y
  | .block _ c => hasRegion j c
  | .loop c => hasRegion j c
  | _ => false

/-- From region number j on. -/
def enter (m : Meta) (env : Env) (j : Nat) : Code → St → Tree (Ex × St)
  | .region _ ops draw, st => (regionT m.tab env ops draw st).bind fun st => .leaf (.normal, st)
  | .seq a b, st =>
    bif hasRegion j a then (enter m env j a st).bind fun (e, st) => (match e with
      | .normal => den m env b st
      | e => .leaf (e, st))
    else enter m env j b st
  | .cond _ x y, st => bif hasRegion j x then enter m env j x st else enter m env j y st
  | .block id c, st => (enter m env j c st).bind fun (e, st) => match e with
    | .exit i => .leaf (bif Nat.beq i id then .normal else .exit i, st)
    | e => .leaf (e, st)
  | .loop c, st => (enter m env j c st).bind fun (e, st) => match e with
    | .normal => loopF m (den m env c) m.fuel (m.aged st)
    | e => .leaf (e, st)
  | _, _ => .fail

def endT (m : Meta) (fn : Func) : Ex × St → Tree Leaf
  | (.normal, st) | (.ret, st) => match finish m fn st with
    | some o => .leaf (.done o)
    | none => .fail
  | (.jump j ps, _) => .leaf (.jump j ps)
  | _ => .fail

def seg (m : Meta) (env : Env) (fn : Func) (body : Code) (j : Nat) (ps : List AV) : Tree Leaf :=
  match (m.cut j).bind (mkSt · ps) with
  | none => .fail
  | some st => (bif Nat.beq j entry then den m env body st else enter m env j body st).bind (endT m fn)

def exec (sg : Nat → List AV → Tree Leaf) : Nat → Nat → List AV → Option Out
  | 0, _, _ => none
  | n + 1, j, ps => match (sg j ps).run with
    | some (.done o) => some o
    | some (.jump j' ps') => exec sg n j' ps'
    | none => none

/-- The arguments as the entry wants them. -/
def entrySt (args : List AV) (fams : List (List Cont)) : St := ⟨fun t => (args[t]?).getD .undef, fun s => (fams[s]?).getD []⟩
end Go.Proofs.Am

set_option autoImplicit false
set_option linter.unusedVariables false
set_option linter.unusedSimpArgs false
namespace Go.Proofs.Am

/-! ## Stable memory, and what values stand for -/
abbrev Mem := Nat → Nat → Option Value
def Mem.le (m m' : Mem) : Prop := ∀ b j v, m b j = some v → m' b j = some v
theorem Mem.le_refl (m : Mem) : m.le m := fun _ _ _ h => h
theorem Mem.le_trans {m m' m'' : Mem} (h : m.le m') (h' : m'.le m'') : m.le m'' := fun b j v hv => h' b j v (h b j v hv)

def inRange (k : IntKind) (n : Int) : Prop := k.min ≤ n ∧ n ≤ k.max

inductive RepC (m : Mem) : (t : Ty) → List Value → t.den → Prop
  | int (k : IntKind) (n : Int) (h : inRange k n) : RepC m (.int k) [.int k n] n
  | bool (b : Bool) : RepC m .bool [.bool b] b
  | str (s : ByteArray) (x : List UInt8) (h : s.data.toList = x) (hs : s.size ≤ maxStr) : RepC m .str [.string s] x
  | nil (t : Ty) (A : Option Addr) (c : Nat) : RepC m (.list t) [.slice A 0 c] []
  | list (t : Ty) (b off n c : Nat) (xs : List t.den) (cs : Nat → List Value) (hn : xs.length = n) (hl : n ≤ maxStr) (hc : n ≤ c)
      (hm : ∀ i, i < n → (cs i).length = t.size ∧ ∀ j, j < t.size → m b (off + i * t.size + j) = (cs i)[j]?)
      (h : ∀ (i : Nat) (hi : i < xs.length), RepC m t (cs i) xs[i]) : RepC m (.list t) [.slice (some ⟨b, off, none⟩) n c] xs
  | st (fs : Ty) (cs : List Value) (v : fs.den) (h : RepC m fs cs v) : RepC m (.st fs) cs v
  | cons (a b : Ty) (c1 c2 : List Value) (x : a.den) (y : b.den) (h1 : RepC m a c1 x) (h2 : RepC m b c2 y) : RepC m (.cons a b) (c1 ++ c2) (x, y)
  | json (cs : List Value) (k : Int) (y : Bool) (n : Bool × List UInt8 × Int) (t : List UInt8) (l : List Js) (ks : List (List UInt8))
      (h : RepC m jsF cs (k, y, n, t, l, ks)) : RepC m .json cs (.mk k y n t l ks)

/-- A value that can stand in memory. -/
def WF (t : Ty) (v : t.den) : Prop := ∃ m cs, RepC m t cs v

theorem RepC.mono {m m' : Mem} (hm : m.le m') {t : Ty} {cs : List Value} {v : t.den} (h : RepC m t cs v) : RepC m' t cs v := by
  induction h with
  | int k n h => exact .int k n h
  | bool b => exact .bool b
  | str s x h hs => exact .str s x h hs
  | nil t A c => exact .nil t A c
  | list t b off n c xs cs hn hl hc hmm h ih =>
    refine .list t b off n c xs cs hn hl hc (fun i hi => ⟨(hmm i hi).1, fun j hj => ?_⟩) ih
    have := (hmm i hi).2 j hj
    have hj' : j < (cs i).length := by rw [(hmm i hi).1]; exact hj
    rw [List.getElem?_eq_getElem hj'] at this ⊢
    exact hm _ _ _ this
  | st fs cs v h ih => exact .st fs cs v ih
  | cons a b c1 c2 x y h1 h2 ih1 ih2 => exact .cons a b c1 c2 x y ih1 ih2
  | json cs k y n t l ks h ih => exact .json cs k y n t l ks ih

theorem RepC.length {m : Mem} {t : Ty} {cs : List Value} {v : t.den} (h : RepC m t cs v) : cs.length = t.size := by
  induction h with
  | int | bool | str | nil | list => rfl
  | st fs cs v h ih => exact ih
  | cons a b c1 c2 x y h1 h2 ih1 ih2 => simp [Ty.size, ih1, ih2]
  | json cs k y n t l ks h ih => exact ih

theorem RepC.oneCell {m : Mem} {t : Ty} {cs : List Value} {v : t.den} (h : RepC m t cs v) : ∀ c ∈ cs, c.oneCell' = true := by
  induction h with
  | int | bool | str | nil | list => simp [Value.oneCell']
  | st fs cs v h ih => exact ih
  | cons a b c1 c2 x y h1 h2 ih1 ih2 =>
    intro c hc
    rcases List.mem_append.1 hc with h | h
    · exact ih1 c h
    · exact ih2 c h
  | json cs k y n t l ks h ih => exact ih

/-! ## Where resources lie -/
inductive Loc where
  | no | dead | box (b off : Nat) | tok (r : Option (Nat × Nat × Nat)) | map (r : Nat) | arr (ver b off n sz lim : Nat)
abbrev Locs := Nat → Nat → Loc

/-- The slice value (A, n, c), its cells 'size' an element, ends where the token says. -/
def TokAt (r : Option (Nat × Nat × Nat)) (size : Nat) (A : Option Addr) (n c : Nat) : Prop :=
  match r with
  | none => A = none ∧ n = 0 ∧ c = 0
  | some (b, e, l) => ∃ off, A = some ⟨b, off, none⟩ ∧ e = off + n * size ∧ off + c * size ≤ l ∧ n ≤ c

inductive ARep (m : Mem) (L : Locs) : AV → Value → Prop
  | junk (v : Value) : ARep m L .junk v
  | undef : ARep m L .undef Go.undef
  | tt : ARep m L .tt (.bool true)
  | ff : ARep m L .ff (.bool false)
  | d1 (t : Ty) (x : t.den) (v : Value) (ha : t.agg = false) (h : RepC m t [v] x) : ARep m L (.d t x) v
  | d2 (t : Ty) (x : t.den) (cs : List Value) (ha : t.agg = true) (h : RepC m t cs x) : ARep m L (.d t x) (.agg ⟨cs⟩)
  | own (t : Ty) (xs : List t.den) (s j : Nat) (A : Option Addr) (n c : Nat) (h : RepC m (.list t) [.slice A n c] xs)
      (hL : L s j = .dead ∨ ∃ r, L s j = .tok r ∧ TokAt r t.size A n c) : ARep m L (.own t xs s j) (.slice A n c)
  | nil : ARep m L .nil (.slice none 0 0)
  | st (ls : List AV) (cs : List Value) (hn : cs.length = ls.length) (h1 : ∀ c ∈ cs, c.oneCell' = true)
      (h : ∀ (i : Nat) (hi : i < ls.length) (hc : i < cs.length), ARep m L ls[i] cs[i]) : ARep m L (.st ls) (.agg ⟨cs⟩)
  | ptr (s j off b o : Nat) (h : L s j = .box b o) : ARep m L (.ptr s j off) (.pointer (some ⟨b, o + off, none⟩))
  | pel (t : Ty) (x : t.den) (b off : Nat) (cs : List Value) (hm : ∀ j, j < t.size → m b (off + j) = cs[j]?) (h : RepC m t cs x) : ARep m L (.pel t x) (.pointer (some ⟨b, off, none⟩))
  | nilp : ARep m L .nilp (.pointer none)
  | nilfn : ARep m L .nilfn .nilFunc
  | nilm : ARep m L .nilm (.map none)
  | fn (f : FuncId) (a b : List AV) (va vb : List Value) (ha : va.length = a.length) (hb : vb.length = b.length)
      (h1 : ∀ (i : Nat) (hi : i < a.length) (hc : i < va.length), ARep m L a[i] va[i])
      (h2 : ∀ (i : Nat) (hi : i < b.length) (hc : i < vb.length), ARep m L b[i] vb[i]) : ARep m L (.fn f a b) (.func (.func f) ⟨va⟩ ⟨vb⟩)
  | mref (s j r : Nat) (h : L s j = .map r) : ARep m L (.mref s j) (.map (some r))
  | iref (s j r : Nat) (h : L s j = .map r) : ARep m L (.iref s j) (.pointer (some ⟨r, 0, none⟩))
  | ms (s j k : Nat) (v : Value) (hn : L s j ≠ .no) (ho : v.oneCell' = true)
      (h : ∀ k' b off n sz lim, L s j = .arr k' b off n sz lim → k ≤ k' ∧ (k = k' → ∃ A c, v = .slice A n c ∧ n ≤ c ∧ off + c * sz ≤ lim ∧ (A = some ⟨b, off, none⟩ ∨ (A = none ∧ n = 0 ∧ c = 0)))) : ARep m L (.ms s j k) v
  | pidx (s j k i o : Nat) (v : Value) (hn : L s j ≠ .no) (ho : v.oneCell' = true)
      (h : ∀ k' b off n sz lim, L s j = .arr k' b off n sz lim → k ≤ k' ∧ (k = k' → v = .pointer (some ⟨b, off + i * sz + o, none⟩))) : ARep m L (.pidx s j k i o) v
  | tup (ls : List AV) (cs : List Value) (hn : cs.length = ls.length)
      (h : ∀ (i : Nat) (hi : i < ls.length) (hc : i < cs.length), ARep m L ls[i] cs[i]) : ARep m L (.tup ls) (.tuple ⟨cs⟩)

/-- Element by element. -/
def ReL (m : Mem) (L : Locs) (ls : List AV) (cs : List Value) : Prop :=
  cs.length = ls.length ∧ ∀ (i : Nat) (hi : i < ls.length) (hc : i < cs.length), ARep m L ls[i] cs[i]

/-- How the places may change: what is there stays; a token may die. -/
def Locs.le (L L' : Locs) : Prop := ∀ s j, L s j ≠ .no → L' s j = L s j ∨ ((∃ r, L s j = .tok r) ∧ L' s j = .dead) ∨
  ∃ k b off n sz lim k' b' off' n' sz' lim', L s j = .arr k b off n sz lim ∧ L' s j = .arr k' b' off' n' sz' lim' ∧ k < k'
theorem Locs.le_refl (L : Locs) : L.le L := fun _ _ _ => .inl rfl

theorem ARep.mono {m m' : Mem} {L L' : Locs} (hm : m.le m') (hL : L.le L') {a : AV} {v : Value} (h : ARep m L a v) : ARep m' L' a v := by
  induction h with
  | junk v => exact .junk v
  | undef => exact .undef
  | tt => exact .tt
  | ff => exact .ff
  | d1 t x v ha h => exact .d1 t x v ha (h.mono hm)
  | d2 t x cs ha h => exact .d2 t x cs ha (h.mono hm)
  | own t xs s j A n c h hl =>
    refine .own t xs s j A n c (h.mono hm) ?_
    rcases hl with hd | ⟨r, hr, ht⟩
    · rcases hL s j (by rw [hd]; simp) with h | ⟨⟨r, h⟩, _⟩ | ⟨_, _, _, _, _, _, _, _, _, _, _, _, h, _⟩
      · exact .inl (h.trans hd)
      · rw [hd] at h; cases h
      · rw [hd] at h; cases h
    · rcases hL s j (by rw [hr]; simp) with h | ⟨_, h⟩ | ⟨_, _, _, _, _, _, _, _, _, _, _, _, h, _⟩
      · exact .inr ⟨r, h.trans hr, ht⟩
      · exact .inl h
      · rw [hr] at h; cases h
  | nil => exact .nil
  | st ls cs hn h1 h ih => exact .st ls cs hn h1 ih
  | ptr s j off b o h =>
    refine .ptr s j off b o ?_
    rcases hL s j (by rw [h]; simp) with h' | ⟨⟨r, h'⟩, _⟩ | ⟨_, _, _, _, _, _, _, _, _, _, _, _, h', _⟩
    · exact h'.trans h
    · rw [h] at h'; cases h'
    · rw [h] at h'; cases h'
  | pel t x b off cs hmm h =>
    have hl := h.length
    refine .pel t x b off cs (fun j hj => ?_) (h.mono hm)
    have := hmm j hj
    have hj' : j < cs.length := by omega
    rw [List.getElem?_eq_getElem hj'] at this ⊢
    exact hm _ _ _ this
  | nilp => exact .nilp
  | nilfn => exact .nilfn
  | nilm => exact .nilm
  | fn f a b va vb ha hb h1 h2 ih1 ih2 => exact .fn f a b va vb ha hb ih1 ih2
  | mref s j r h =>
    refine .mref s j r ?_
    rcases hL s j (by rw [h]; simp) with h' | ⟨⟨r, h'⟩, _⟩ | ⟨_, _, _, _, _, _, _, _, _, _, _, _, h', _⟩
    · exact h'.trans h
    · rw [h] at h'; cases h'
    · rw [h] at h'; cases h'
  | iref s j r h =>
    refine .iref s j r ?_
    rcases hL s j (by rw [h]; simp) with h' | ⟨⟨r, h'⟩, _⟩ | ⟨_, _, _, _, _, _, _, _, _, _, _, _, h', _⟩
    · exact h'.trans h
    · rw [h] at h'; cases h'
    · rw [h] at h'; cases h'
  | ms s j k v hn ho h =>
    rcases hL s j hn with h' | ⟨⟨r, h1⟩, h2⟩ | ⟨k1, b, off, n, sz, lim, k2, b', off', n', sz', lim', h1, h2, hlt⟩
    · exact .ms s j k v (by rw [h']; exact hn) ho (by rw [h']; exact h)
    · exact .ms s j k v (by rw [h2]; simp) ho (by rw [h2]; intro _ _ _ _ _ _ h; cases h)
    · refine .ms s j k v (by rw [h2]; simp) ho ?_
      rw [h2]
      intro k' b0 off0 n0 sz0 lim0 he
      cases he
      obtain ⟨hk, _⟩ := h _ _ _ _ _ _ h1
      exact ⟨by omega, fun he => by omega⟩
  | pidx s j k i o v hn ho h =>
    rcases hL s j hn with h' | ⟨⟨r, h1⟩, h2⟩ | ⟨k1, b, off, n, sz, lim, k2, b', off', n', sz', lim', h1, h2, hlt⟩
    · exact .pidx s j k i o v (by rw [h']; exact hn) ho (by rw [h']; exact h)
    · exact .pidx s j k i o v (by rw [h2]; simp) ho (by rw [h2]; intro _ _ _ _ _ _ h; cases h)
    · refine .pidx s j k i o v (by rw [h2]; simp) ho ?_
      rw [h2]
      intro k' b0 off0 n0 sz0 lim0 he
      cases he
      obtain ⟨hk, _⟩ := h _ _ _ _ _ _ h1
      exact ⟨by omega, fun he => by omega⟩
  | tup ls cs hn h ih => exact .tup ls cs hn ih

theorem ReL.mono {m m' : Mem} {L L' : Locs} (hm : m.le m') (hL : L.le L') {ls : List AV} {cs : List Value} (h : ReL m L ls cs) : ReL m' L' ls cs :=
  ⟨h.1, fun i hi hc => (h.2 i hi hc).mono hm hL⟩

theorem ReL.nil {m : Mem} {L : Locs} : ReL m L [] [] := ⟨rfl, fun i hi => absurd hi (by simp)⟩
theorem ReL.cons {m : Mem} {L : Locs} {a : AV} {v : Value} {ls : List AV} {cs : List Value} (h : ARep m L a v) (h' : ReL m L ls cs) : ReL m L (a :: ls) (v :: cs) :=
  ⟨by simp [h'.1], fun i hi hc => by
    cases i with
    | zero => exact h
    | succ i => exact h'.2 i (by simpa using hi) (by simpa using hc)⟩
theorem ReL.head {m : Mem} {L : Locs} {a : AV} {ls : List AV} {cs : List Value} (h : ReL m L (a :: ls) cs) : ∃ v cs', cs = v :: cs' ∧ ARep m L a v ∧ ReL m L ls cs' := by
  obtain ⟨hn, h⟩ := h
  match cs, hn with
  | v :: cs', hn =>
    exact ⟨v, cs', rfl, h 0 (by simp) (by simp), by simpa using hn, fun i hi hc => h (i + 1) (by simpa using hi) (by simpa using hc)⟩
theorem ReL.append {m : Mem} {L : Locs} {l1 l2 : List AV} {c1 c2 : List Value} (h : ReL m L l1 c1) (h' : ReL m L l2 c2) : ReL m L (l1 ++ l2) (c1 ++ c2) := by
  induction l1 generalizing c1 with
  | nil =>
    have : c1 = [] := List.eq_nil_of_length_eq_zero h.1
    subst this; simpa using h'
  | cons a l1 ih =>
    obtain ⟨v, cs', rfl, hv, ht⟩ := h.head
    exact .cons hv (ih ht)
theorem ReL.split {m : Mem} {L : Locs} {l1 l2 : List AV} {cs : List Value} (h : ReL m L (l1 ++ l2) cs) : ∃ c1 c2, cs = c1 ++ c2 ∧ ReL m L l1 c1 ∧ ReL m L l2 c2 := by
  induction l1 generalizing cs with
  | nil => exact ⟨[], cs, rfl, .nil, by simpa using h⟩
  | cons a l1 ih =>
    obtain ⟨v, cs', rfl, hv, ht⟩ := ReL.head (by simpa using h)
    obtain ⟨c1, c2, rfl, h1, h2⟩ := ih ht
    exact ⟨v :: c1, c2, rfl, .cons hv h1, h2⟩

/-! ## Data taken apart, and put together -/
theorem ARep.data {m : Mem} {L : Locs} {t : Ty} {x : t.den} {v : Value} (h : ARep m L (.d t x) v) : (t.agg = false ∧ RepC m t [v] x) ∨ (t.agg = true ∧ ∃ cs : List Value, v = .agg ⟨cs⟩ ∧ RepC m t cs x) := by
  cases h with
  | d1 t x v ha h => exact .inl ⟨ha, h⟩
  | d2 t x cs ha h => exact .inr ⟨ha, cs, rfl, h⟩
/-- The cells of a value. -/
theorem ARep.cells {m : Mem} {L : Locs} {t : Ty} {x : t.den} {v : Value} (h : ARep m L (.d t x) v) : RepC m t v.cells.toList x := by
  rcases h.data with ⟨ha, hd⟩ | ⟨ha, cs, hv, hd⟩
  · have ho : v.oneCell' = true := hd.oneCell v (by simp)
    cases v <;> first | exact hd | simp [Value.oneCell'] at ho
  · subst hv; exact hd
theorem ARep.of_scalar {m : Mem} {L : Locs} {t : Ty} {x : t.den} {v : Value} (ha : t.agg = false) (h : RepC m t [v] x) : ARep m L (.d t x) v := .d1 t x v ha h

theorem leaves_rep {m : Mem} {L : Locs} {t : Ty} {cs : List Value} {x : t.den} (h : RepC m t cs x) : ReL m L (leaves t x) cs := by
  induction h with
  | int k n h => exact .cons (.d1 _ _ _ rfl (.int k n h)) .nil
  | bool b => exact .cons (.d1 _ _ _ rfl (.bool b)) .nil
  | str s x h hs => exact .cons (.d1 _ _ _ rfl (.str s x h hs)) .nil
  | nil t A c => exact .cons (.d1 _ _ _ rfl (.nil t A c)) .nil
  | list t b off n c xs cs hn hl hc hm h => exact .cons (.d1 _ _ _ rfl (.list t b off n c xs cs hn hl hc hm h)) .nil
  | st fs cs v h ih => exact ih
  | cons a b c1 c2 x y h1 h2 ih1 ih2 => exact ih1.append ih2
  | json cs k y n t l ks h ih =>
    obtain ⟨n1, n2, n3⟩ := n
    exact ih


theorem kindEq_some {a b : IntKind} {h : PLift (a = b)} (_ : kindEq a b = some h) : a = b := h.down

theorem cast_list {t t' : Ty} (h : t' = t) (xs : List t'.den) : (h ▸ xs : List t.den) = h ▸ xs := rfl

theorem leafTo_rep {m : Mem} {L : Locs} {t : Ty} {a : AV} {v : Value} {x : t.den} (h : ARep m L a v) (hx : leafTo t a = some x) : ARep m L (.d t x) v := by
  cases a <;> simp only [leafTo] at hx <;> try (exact absurd hx (by simp))
  case d t' y =>
    split at hx
    · rename_i h' _
      subst h'
      simp at hx
      subst hx
      exact h
    · cases hx
  case own t' xs s j =>
    split at hx
    · rename_i h' _
      subst h'
      simp at hx
      subst hx
      cases h with
      | own _ _ _ _ A n c h hl => exact .d1 _ _ _ rfl h
    · cases hx
  case nil =>
    cases h
    cases t <;> simp at hx
    subst hx
    exact .d1 _ _ _ rfl (.nil _ _ _)
  case tt =>
    cases h
    cases t <;> simp at hx
    subst hx
    exact .d1 _ _ _ rfl (.bool true)
  case ff =>
    cases h
    cases t <;> simp at hx
    subst hx
    exact .d1 _ _ _ rfl (.bool false)

theorem leafTo_cell {m : Mem} {L : Locs} {t : Ty} {a : AV} {v : Value} {x : t.den} (h : ARep m L a v) (hx : leafTo t a = some x) (ht : t.agg = false) : RepC m t [v] x := by
  rcases (leafTo_rep h hx).data with ⟨_, h⟩ | ⟨ha, _⟩
  · exact h
  · rw [ht] at ha; cases ha

theorem pack_one {m : Mem} {L : Locs} {t : Ty} (ht : t.agg = false) (hp : ∀ l, pack t l = match l with | a :: l => (leafTo t a).map (·, l) | [] => none)
    {ls rest : List AV} {cs : List Value} {x : t.den} (h : ReL m L ls cs) (hx : pack t ls = some (x, rest)) : ∃ c1 c2, cs = c1 ++ c2 ∧ RepC m t c1 x ∧ ReL m L rest c2 := by
  rw [hp] at hx
  cases ls with
  | nil => simp at hx
  | cons a ls =>
    obtain ⟨v, cs', rfl, hv, ht'⟩ := h.head
    simp only [Option.map_eq_some_iff, Prod.mk.injEq] at hx
    obtain ⟨y, hy, rfl, rfl⟩ := hx
    exact ⟨[v], cs', rfl, leafTo_cell hv hy ht, ht'⟩

theorem pack_rep {m : Mem} {L : Locs} : ∀ (t : Ty) {ls rest : List AV} {cs : List Value} {x : t.den}, ReL m L ls cs → pack t ls = some (x, rest) →
    ∃ c1 c2, cs = c1 ++ c2 ∧ RepC m t c1 x ∧ ReL m L rest c2
  | .int k, _, _, _, _, h, hx => pack_one rfl (fun l => by cases l <;> rfl) h hx
  | .bool, _, _, _, _, h, hx => pack_one rfl (fun l => by cases l <;> rfl) h hx
  | .str, _, _, _, _, h, hx => pack_one rfl (fun l => by cases l <;> rfl) h hx
  | .list t, _, _, _, _, h, hx => pack_one rfl (fun l => by cases l <;> rfl) h hx
  | .st fs, _, _, _, _, h, hx => by
    obtain ⟨c1, c2, e, h1, h2⟩ := pack_rep fs h hx
    exact ⟨c1, c2, e, .st _ _ _ h1, h2⟩
  | .cons a b, ls, rest, cs, x, h, hx => by
    simp only [pack] at hx
    split at hx
    · rename_i y l hy
      split at hx
      · rename_i z l' hz
        simp only [Option.some.injEq, Prod.mk.injEq] at hx
        obtain ⟨rfl, rfl⟩ := hx
        obtain ⟨c1, c2, rfl, h1, h2⟩ := pack_rep a h hy
        obtain ⟨c3, c4, rfl, h3, h4⟩ := pack_rep b h2 hz
        exact ⟨c1 ++ c3, c4, by simp, .cons _ _ _ _ _ _ h1 h3, h4⟩
      · cases hx
    · cases hx
  | .json, ls, rest, cs, x, h, hx => by
    simp only [pack] at hx
    split at hx
    · rename_i a b c d e f g i l
      split at hx
      · rename_i a' b' c' d' e' f' g' i' ha hb hc hd he hf hg hi
        simp only [Option.some.injEq, Prod.mk.injEq] at hx
        obtain ⟨rfl, rfl⟩ := hx
        obtain ⟨v1, cs1, rfl, r1, h⟩ := h.head
        obtain ⟨v2, cs2, rfl, r2, h⟩ := h.head
        obtain ⟨v3, cs3, rfl, r3, h⟩ := h.head
        obtain ⟨v4, cs4, rfl, r4, h⟩ := h.head
        obtain ⟨v5, cs5, rfl, r5, h⟩ := h.head
        obtain ⟨v6, cs6, rfl, r6, h⟩ := h.head
        obtain ⟨v7, cs7, rfl, r7, h⟩ := h.head
        obtain ⟨v8, cs8, rfl, r8, h⟩ := h.head
        refine ⟨[v1, v2, v3, v4, v5, v6, v7, v8], cs8, rfl, .json _ _ _ _ _ _ _ ?_, h⟩
        exact .cons _ _ [v1] _ _ _ (leafTo_cell r1 ha rfl) (.cons _ _ [v2] _ _ _ (leafTo_cell r2 hb rfl) (.cons decT _ [v3, v4, v5] _ _ _
          (.st _ _ _ (.cons _ _ [v3] _ _ _ (leafTo_cell r3 hc rfl) (.cons _ _ [v4] _ _ _ (leafTo_cell r4 hd rfl) (leafTo_cell r5 he rfl))))
          (.cons _ _ [v6] _ _ _ (leafTo_cell r6 hf rfl) (.cons _ _ [v7] _ _ _ (leafTo_cell r7 hg rfl) (leafTo_cell r8 hi rfl)))))
      · cases hx
    · cases hx

theorem castTo_rep {m : Mem} {L : Locs} {t : Ty} {a : AV} {v : Value} {x : t.den} (h : ARep m L a v) (hx : castTo t a = some x) : ARep m L (.d t x) v := by
  unfold castTo at hx
  split at hx
  · rename_i ls
    cases ht : t.agg with
    | false => rw [ht] at hx; cases hx
    | true =>
      rw [ht] at hx
      simp only [cond_true] at hx
      split at hx
      · rename_i y hy
        simp only [Option.some.injEq] at hx
        subst hx
        cases h with
        | st _ cs hn h1 h =>
          obtain ⟨c1, c2, e, r1, r2⟩ := pack_rep t ⟨hn, h⟩ hy
          have : c2 = [] := List.eq_nil_of_length_eq_zero r2.1
          subst this
          rw [List.append_nil] at e
          subst e
          exact .d2 _ _ _ ht r1
      · cases hx
  · exact leafTo_rep h hx

theorem castAll_rep {m : Mem} {L : Locs} {t : Ty} : ∀ {ls : List AV} {vs : List Value} {xs : List t.den}, ReL m L ls vs → castAll t ls = some xs →
    xs.length = ls.length ∧ ∀ (i : Nat) (hi : i < xs.length) (hc : i < vs.length), ARep m L (.d t xs[i]) vs[i]
  | [], vs, xs, h, hx => by
    simp only [castAll, Option.some.injEq] at hx
    subst hx
    exact ⟨rfl, fun i hi => absurd hi (by simp)⟩
  | a :: ls, vs, xs, h, hx => by
    simp only [castAll] at hx
    split at hx
    · rename_i y ys hy hys
      simp only [Option.some.injEq] at hx
      subst hx
      obtain ⟨v, cs', rfl, hv, ht⟩ := h.head
      obtain ⟨h1, h2⟩ := castAll_rep ht hys
      refine ⟨by simp [h1], fun i hi hc => ?_⟩
      cases i with
      | zero => exact castTo_rep hv hy
      | succ i => exact h2 i (by simpa using hi) (by simpa using hc)
    · cases hx


theorem cellsOf_rep {m : Mem} {L : Locs} {a : AV} {v : Value} {ls : List AV} (h : ARep m L a v) (hl : cellsOf a = some ls) :
    ReL m L ls v.cells.toList ∧ ∀ c ∈ v.cells.toList, c.oneCell' = true := by
  cases a
  case d t x =>
    simp only [cellsOf, Option.some.injEq] at hl
    subst hl
    exact ⟨leaves_rep h.cells, h.cells.oneCell⟩
  case st l =>
    simp only [cellsOf, Option.some.injEq] at hl
    subst hl
    cases h with
    | st _ cs hn h1 h => exact ⟨⟨hn, h⟩, h1⟩
  case junk => simp [cellsOf] at hl
  case undef => simp [cellsOf] at hl
  case tup => simp [cellsOf] at hl
  case pidx =>
    simp only [cellsOf, Option.some.injEq] at hl
    subst hl
    have h' := h
    cases h with
    | pidx _ _ _ _ _ _ hn ho hh =>
      have hc : v.cells.toList = [v] := by cases v <;> first | rfl | simp [Value.oneCell'] at ho
      rw [hc]
      exact ⟨.cons h' .nil, by simpa using ho⟩
  case ms =>
    simp only [cellsOf, Option.some.injEq] at hl
    subst hl
    have h' := h
    cases h with
    | ms _ _ _ _ hn ho hh =>
      have hc : v.cells.toList = [v] := by cases v <;> first | rfl | simp [Value.oneCell'] at ho
      rw [hc]
      exact ⟨.cons h' .nil, by simpa using ho⟩
  all_goals
    simp only [cellsOf, Option.some.injEq] at hl
    subst hl
    refine ⟨?_, ?_⟩
    · have h' := h
      cases h <;> exact .cons h' .nil
    · cases h <;> simp [Value.cells, Value.oneCell']

/-! ## Constants -/
theorem rangeB_iff {k : IntKind} {n : Int} : rangeB k n = true ↔ inRange k n := by simp [rangeB, inRange]

mutual
theorem constAV_rep {m : Mem} {L : Locs} : ∀ v : Value, ARep m L (constAV v) v
  | .bool b => by cases b <;> simp only [constAV, cond_true, cond_false] <;> constructor
  | .int k n => by
    simp only [constAV]
    cases h : rangeB k n with
    | true => exact .d1 _ _ _ rfl (.int k n (rangeB_iff.1 h))
    | false => exact .junk _
  | .string s => by
    simp only [constAV]
    cases h : Nat.ble s.size maxStr with
    | true => exact .d1 _ _ _ rfl (.str s _ rfl (Nat.le_of_ble_eq_true h))
    | false => exact .junk _
  | .slice none 0 0 => .nil
  | .slice none 0 (_ + 1) => .junk _
  | .slice none (_ + 1) _ => .junk _
  | .slice (some _) _ _ => .junk _
  | .pointer none => .nilp
  | .pointer (some _) => .junk _
  | .nilFunc => .nilfn
  | .map none => .nilm
  | .map (some _) => .junk _
  | .agg ⟨cs⟩ => by
    simp only [constAV]
    cases h : cs.all Value.oneCell' with
    | true =>
      have hc := constAVs_rep (m := m) (L := L) cs
      exact .st _ _ hc.1 (by simpa using h) hc.2
    | false => exact .junk _
  | .float .. => .junk _
  | .complex .. => .junk _
  | .chan _ => .junk _
  | .func .. => .junk _
  | .iface .. => .junk _
  | .nilIface => .junk _
  | .tuple _ => .junk _
theorem constAVs_rep {m : Mem} {L : Locs} : ∀ vs : List Value, ReL m L (constAVs vs) vs
  | [] => .nil
  | v :: vs => .cons (constAV_rep v) (constAVs_rep vs)
end
end Go.Proofs.Am

set_option autoImplicit false
set_option linter.unusedVariables false
set_option linter.unusedSimpArgs false
namespace Go.Proofs.Am
open Go.RowKit

/-! ## Worlds -/
def Agree (m : Mem) (w : World) : Prop := ∀ b j v, m b j = some v → w.cell? ⟨b, j, none⟩ = some v

def RepV (m : Mem) (t : Ty) (x : t.den) (v : Value) : Prop := (t.agg = false ∧ RepC m t [v] x) ∨ (t.agg = true ∧ ∃ cs : List Value, v = .agg ⟨cs⟩ ∧ RepC m t cs x)
theorem RepV.rep {m : Mem} {L : Locs} {t : Ty} {x : t.den} {v : Value} (h : RepV m t x v) : ARep m L (.d t x) v := by
  rcases h with ⟨ha, h⟩ | ⟨ha, cs, rfl, h⟩
  · exact .d1 _ _ _ ha h
  · exact .d2 _ _ _ ha h
theorem RepV.mono {m m' : Mem} (hm : m.le m') {t : Ty} {x : t.den} {v : Value} (h : RepV m t x v) : RepV m' t x v := by
  rcases h with ⟨ha, h⟩ | ⟨ha, cs, e, h⟩
  · exact .inl ⟨ha, h.mono hm⟩
  · exact .inr ⟨ha, cs, e, h.mono hm⟩

/-- The entries of a map, in the order in which they came. -/
def MapRep (m : Mem) (k v : Ty) (es : List (k.den × v.den)) (ents : Array MapEntry) : Prop :=
  ents.size = es.length ∧ ∀ (i : Nat) (hi : i < es.length) (hc : i < ents.size), RepV m k es[i].1 ents[i].key ∧ RepV m v es[i].2 ents[i].val

def ContAt (m : Mem) (L : Locs) (w : World) (l : Loc) (c : Cont) : Prop :=
  match c with
  | .gone => True
  | .tok => ∃ r, l = .tok r ∧ ∀ b e lim, r = some (b, e, lim) → ∃ cs E fr, w.heap[b]? = some (.cells cs E fr) ∧ lim ≤ cs.size ∧ ∀ j, e ≤ j → j < lim → m b j = none ∧ ¬ (fr.1 ≤ j ∧ j < fr.2)
  | .cells ls => ∃ b off, l = .box b off ∧ b < w.heap.size ∧ ∃ cs : List Value, ReL m L ls cs ∧ (∀ c ∈ cs, c.oneCell' = true) ∧
      ∀ i, i < cs.length → w.cell? ⟨b, off + i, none⟩ = cs[i]? ∧ w.frozen? ⟨b, off + i, none⟩ = false ∧ m b (off + i) = none
  | .arr k t xs => ∃ b off lim, l = .arr k b off xs.length t.size lim ∧ t.size ≠ 0 ∧ xs.length ≤ maxStr ∧ off + xs.length * t.size ≤ lim ∧ ((xs = [] ∧ lim = off) ∨ ∃ cs E fr, w.heap[b]? = some (.cells cs E fr) ∧ lim ≤ cs.size ∧
      (∀ j, off ≤ j → j < lim → m b j = none ∧ ¬ (fr.1 ≤ j ∧ j < fr.2)) ∧ ∀ (i : Nat) (hi : i < xs.length), RepC m t ((cs.toList.drop (off + i * t.size)).take t.size) xs[i])
  | .iter s pos => ∃ r, l = .map r ∧ ∃ bs, w.heap[r]? = some (.stringIter bs pos) ∧ bs.data.toList = s ∧ bs.size ≤ maxStr
  | .map k v es => ∃ r, l = .map r ∧ ∃ ents clock, w.heap[r]? = some (.map ents clock) ∧ MapRep m k v es ents

def foot (l : Loc) (c : Cont) (b j : Nat) : Prop :=
  match l, c with
  | .tok (some (b', e, lim)), .tok => b = b' ∧ e ≤ j ∧ j < lim
  | .box b' off, .cells ls => b = b' ∧ off ≤ j ∧ j < off + ls.length
  | .map r, .map _ _ _ => b = r
  | .map r, .iter _ _ => b = r
  | .arr _ b' off _ _ lim, .arr _ _ _ => b = b' ∧ off ≤ j ∧ j < lim
  | _, _ => False

structure ResAt (m : Mem) (L : Locs) (w : World) (R : Nat → List Cont) : Prop where
  at_ : ∀ s j c, (R s)[j]? = some c → ContAt m L w (L s j) c
  apart : ∀ s j c s' j' c', (R s)[j]? = some c → (R s')[j']? = some c' → (s, j) ≠ (s', j') → ∀ b i, foot (L s j) c b i → ¬ foot (L s' j') c' b i
  no : ∀ s, R s = [] → ∀ j, L s j = .no

def isRow : Obj → Bool
  | .cells .. => true
  | _ => false
def SameBut (p : Nat → Prop) (o o' : Option Obj) : Prop :=
  o' = o ∨ (∃ cs cs' E fr, o = some (.cells cs E fr) ∧ o' = some (.cells cs' E fr) ∧ cs'.size = cs.size ∧ ∀ j, ¬ p j → cs'[j]? = cs[j]?) ∨
  ((∀ j, p j) ∧ ∃ a a', o = some a ∧ o' = some a' ∧ isRow a = false ∧ isRow a' = false)

theorem SameBut.trans {p q : Nat → Prop} {o o1 o2 : Option Obj} (h : SameBut p o o1) (h' : SameBut q o1 o2) (hq : ∀ j, q j → p j) : SameBut p o o2 := by
  rcases h with rfl | ⟨cs, cs1, E, fr, h1, h2, h3, h4⟩ | ⟨hp, a, c, h1, h2, h3, h4⟩
  · rcases h' with rfl | ⟨cs, cs', E, fr, h1, h2, h3, h4⟩ | ⟨hq', a, c, h1⟩
    · exact .inl rfl
    · exact .inr (.inl ⟨cs, cs', E, fr, h1, h2, h3, fun j hj => h4 j fun h => hj (hq j h)⟩)
    · exact .inr (.inr ⟨fun j => hq j (hq' j), a, c, h1⟩)
  · rcases h' with rfl | ⟨cs', cs2, E', fr', h1', h2', h3', h4'⟩ | ⟨hq', a, c, g1, g2, g3, g4⟩
    · exact .inr (.inl ⟨cs, cs1, E, fr, h1, h2, h3, h4⟩)
    · rw [h2] at h1'
      simp only [Option.some.injEq, Obj.cells.injEq] at h1'
      obtain ⟨rfl, rfl, rfl⟩ := h1'
      exact .inr (.inl ⟨cs, cs2, E, fr, h1, h2', by rw [h3', h3], fun j hj => by rw [h4' j fun h => hj (hq j h), h4 j hj]⟩)
    · rw [h2] at g1; cases g1; cases g3
  · rcases h' with rfl | ⟨cs', cs2, E', fr', h1', h2', h3', h4'⟩ | ⟨hq', a', c', g1, g2, g3, g4⟩
    · exact .inr (.inr ⟨hp, a, c, h1, h2, h3, h4⟩)
    · rw [h2] at h1'; cases h1'; cases h4
    · exact .inr (.inr ⟨hp, a, c', h1, g2, h3, g4⟩)

/-- What has become of the world and of the stable memory, but for the places F. -/
structure Evo (F : Nat → Nat → Prop) (w : World) (m : Mem) (w' : World) (m' : Mem) : Prop where
  size : w.heap.size ≤ w'.heap.size
  os : w'.os = w.os
  tape : w'.tape = w.tape
  output : w'.output = w.output
  le : m.le m'
  agree : Agree m' w'
  new : ∀ b j, m' b j ≠ none → m b j = none → F b j ∨ w.heap.size ≤ b
  same : ∀ b, b < w.heap.size → SameBut (F b) w.heap[b]? w'.heap[b]?

theorem Evo.refl {F : Nat → Nat → Prop} {w : World} {m : Mem} (h : Agree m w) : Evo F w m w m :=
  ⟨Nat.le_refl _, rfl, rfl, rfl, m.le_refl, h, fun b j h h' => absurd h' h, fun b _ => .inl rfl⟩

theorem Evo.trans {F F1 : Nat → Nat → Prop} {w w1 w2 : World} {m m1 m2 : Mem} (h : Evo F w m w1 m1) (h' : Evo F1 w1 m1 w2 m2)
    (hF : ∀ b j, F1 b j → F b j ∨ w.heap.size ≤ b) : Evo F w m w2 m2 where
  size := Nat.le_trans h.size h'.size
  os := h'.os.trans h.os
  tape := h'.tape.trans h.tape
  output := h'.output.trans h.output
  le := Mem.le_trans h.le h'.le
  agree := h'.agree
  new b j h2 h0 := by
    cases h1 : m1 b j with
    | none =>
      rcases h'.new b j h2 h1 with hf | hf
      · exact hF b j hf
      · exact .inr (Nat.le_trans h.size hf)
    | some v => exact h.new b j (by rw [h1]; simp) h0
  same b hb := by
    refine (h.same b hb).trans (h'.same b (Nat.lt_of_lt_of_le hb h.size)) fun j hj => ?_
    rcases hF b j hj with hf | hf
    · exact hf
    · omega

theorem Evo.weaken {F F' : Nat → Nat → Prop} {w w' : World} {m m' : Mem} (h : Evo F w m w' m') (hF : ∀ b j, F b j → F' b j) : Evo F' w m w' m' where
  size := h.size
  os := h.os
  tape := h.tape
  output := h.output
  le := h.le
  agree := h.agree
  new b j h2 h0 := (h.new b j h2 h0).imp (hF b j) id
  same b hb := by
    rcases h.same b hb with h | ⟨cs, cs1, E, fr, h1, h2, h3, h4⟩ | ⟨hp, hr⟩
    · exact .inl h
    · exact .inr (.inl ⟨cs, cs1, E, fr, h1, h2, h3, fun j hj => h4 j fun h => hj (hF b j h)⟩)
    · exact .inr (.inr ⟨fun j => hF b j (hp j), hr⟩)

/-- With nothing that may change: all that was there stands. -/
theorem Evo.below {w w' : World} {m m' : Mem} (h : Evo (fun _ _ => False) w m w' m') : Below w.heap.size w w' :=
  ⟨h.os, h.tape, h.output, h.size, fun b hb => by
    rcases h.same b hb with h | ⟨cs, cs1, E, fr, h1, h2, h3, h4⟩ | ⟨hp, _⟩
    · exact h
    · rw [h1, h2]
      have : cs1 = cs := Array.ext (by simpa using h3) fun i hi hi' => by
        have := h4 i (by simp)
        simpa [Array.getElem?_eq_getElem hi, Array.getElem?_eq_getElem hi'] using this
      rw [this]
    · exact absurd (hp 0) (by simp)⟩

/-! ## The frame -/
theorem cell_lt {w : World} {b j : Nat} {v : Value} (h : w.cell? ⟨b, j, none⟩ = some v) : b < w.heap.size := by
  unfold World.cell? at h
  cases hb : w.heap[b]? with
  | none => simp [hb] at h
  | some o => exact (Array.getElem?_eq_some_iff.1 hb).1

theorem ContAt.foot_lt {m : Mem} {L : Locs} {w : World} {l : Loc} {c : Cont} (h : ContAt m L w l c) {b j : Nat} (hf : foot l c b j) : b < w.heap.size := by
  cases c with
  | gone => cases l <;> simp [foot] at hf
  | tok =>
    obtain ⟨r, rfl, hr⟩ := h
    match r, hr, hf with
    | some (b', e, lim), hr, hf =>
      obtain ⟨rfl, _, _⟩ := hf
      obtain ⟨cs, E, fr, hh, _⟩ := hr b e lim rfl
      exact (Array.getElem?_eq_some_iff.1 hh).1
  | cells ls =>
    obtain ⟨b', off, rfl, hb, _⟩ := h
    obtain ⟨rfl, _⟩ := hf
    exact hb
  | arr k t xs =>
    obtain ⟨b', off, lim, rfl, _, _, _, ⟨_, h0⟩ | ⟨cs, E, fr, hh, _⟩⟩ := h
    · obtain ⟨_, h1, h2⟩ := hf
      omega
    obtain ⟨rfl, _, _⟩ := hf
    exact (Array.getElem?_eq_some_iff.1 hh).1
  | iter s pos =>
    obtain ⟨r, rfl, bs, hh, _⟩ := h
    have : b = r := hf
    subst this
    exact (Array.getElem?_eq_some_iff.1 hh).1
  | map k v es =>
    obtain ⟨r, rfl, ents, clock, hh, _⟩ := h
    have : b = r := hf
    subst this
    exact (Array.getElem?_eq_some_iff.1 hh).1

theorem ContAt.unstable {m : Mem} {L : Locs} {w : World} {l : Loc} {c : Cont} (ha : Agree m w) (h : ContAt m L w l c) {b j : Nat} (hf : foot l c b j) : m b j = none := by
  cases c with
  | gone => cases l <;> simp [foot] at hf
  | tok =>
    obtain ⟨r, rfl, hr⟩ := h
    match r, hr, hf with
    | some (b', e, lim), hr, hf =>
      obtain ⟨rfl, h1, h2⟩ := hf
      obtain ⟨cs, E, fr, hh, _, hm⟩ := hr b e lim rfl
      exact (hm j h1 h2).1
  | cells ls =>
    obtain ⟨b', off, rfl, hb, cs, hr, h1, hc⟩ := h
    obtain ⟨rfl, h2, h3⟩ := hf
    have := (hc (j - off) (by have := hr.1; omega)).2.2
    rwa [show off + (j - off) = j by omega] at this
  | arr k t xs =>
    obtain ⟨b', off, lim, rfl, _, _, _, ⟨_, h0⟩ | ⟨cs, E, fr, hh, _, hm, _⟩⟩ := h
    · obtain ⟨_, h1, h2⟩ := hf
      omega
    obtain ⟨rfl, h1, h2⟩ := hf
    exact (hm j h1 h2).1
  | iter s pos =>
    obtain ⟨r, rfl, bs, hh, _⟩ := h
    have : b = r := hf
    subst this
    cases hm : m b j with
    | none => rfl
    | some v =>
      have := ha b j v hm
      simp [World.cell?, hh] at this
  | map k v es =>
    obtain ⟨r, rfl, ents, clock, hh, _⟩ := h
    have : b = r := hf
    subst this
    cases hm : m b j with
    | none => rfl
    | some v =>
      have := ha b j v hm
      simp [World.cell?, hh] at this

/-- What lies outside of the places that may change lies on. -/
theorem ContAt.kept {F : Nat → Nat → Prop} {m m' : Mem} {L L' : Locs} {w w' : World} {l : Loc} {c : Cont} (h : ContAt m L w l c) (ha : Agree m w) (hL : L.le L') (he : Evo F w m w' m')
    (hd : ∀ b j, foot l c b j → ¬ F b j) : ContAt m' L' w' l c := by
  have hnew : ∀ b j, foot l c b j → m' b j = none := by
    intro b j hf
    cases hm : m' b j with
    | none => rfl
    | some v =>
      rcases he.new b j (by rw [hm]; simp) (h.unstable ha hf) with h' | h'
      · exact absurd h' (hd b j hf)
      · have := h.foot_lt hf; omega
  cases c with
  | gone => trivial
  | tok =>
    obtain ⟨r, rfl, hr⟩ := h
    refine ⟨r, rfl, fun b e lim hbe => ?_⟩
    subst hbe
    obtain ⟨cs, E, fr, hh, hlim, hm⟩ := hr b e lim rfl
    have hb : b < w.heap.size := (Array.getElem?_eq_some_iff.1 hh).1
    rcases he.same b hb with h' | ⟨cs0, cs1, E', fr', h1, h2, h3, h4⟩ | ⟨hp, a, a', h1, _, h2, _⟩
    · exact ⟨cs, E, fr, h'.trans hh, hlim, fun j h1 h2 => ⟨hnew b j ⟨rfl, h1, h2⟩, (hm j h1 h2).2⟩⟩
    · rw [hh] at h1
      simp only [Option.some.injEq, Obj.cells.injEq] at h1
      obtain ⟨rfl, rfl, rfl⟩ := h1
      exact ⟨cs1, E, fr, h2, by omega, fun j h1 h2 => ⟨hnew b j ⟨rfl, h1, h2⟩, (hm j h1 h2).2⟩⟩
    · rw [hh] at h1; cases h1; cases h2
  | cells ls =>
    obtain ⟨b, off, rfl, hb, cs, hr, h1, hc⟩ := h
    refine ⟨b, off, rfl, Nat.lt_of_lt_of_le hb he.size, cs, hr.mono he.le hL, h1, fun i hi => ?_⟩
    obtain ⟨hcell, hfr, hm⟩ := hc i hi
    have hf : foot (.box b off) (.cells ls) b (off + i) := ⟨rfl, by omega, by have := hr.1; omega⟩
    refine ⟨?_, ?_, hnew _ _ hf⟩
    · rcases he.same b hb with h' | ⟨cs0, cs1, E', fr', h1, h2, h3, h4⟩ | ⟨hp, _⟩
      · rw [← hcell]; simp only [World.cell?, h']
      · rw [← hcell]
        simp only [World.cell?, h1, h2]
        simp [h4 (off + i) (hd _ _ hf)]
      · exact absurd (hp (off + i)) (hd _ _ hf)
    · rcases he.same b hb with h' | ⟨cs0, cs1, E', fr', h1, h2, h3, h4⟩ | ⟨hp, _⟩
      · rw [← hfr]; simp only [World.frozen?, h']
      · rw [← hfr]; simp only [World.frozen?, h1, h2]
      · exact absurd (hp (off + i)) (hd _ _ hf)
  | arr k t xs =>
    obtain ⟨b, off, lim, rfl, hz, hmax, hl, he0 | ⟨cs, E, fr, hh, hlim, hm, hr⟩⟩ := h
    · exact ⟨b, off, lim, rfl, hz, hmax, hl, .inl he0⟩
    have hb : b < w.heap.size := (Array.getElem?_eq_some_iff.1 hh).1
    have hff : ∀ j, off ≤ j → j < lim → foot (.arr k b off xs.length t.size lim) (.arr k t xs) b j := fun j h1 h2 => ⟨rfl, h1, h2⟩
    rcases he.same b hb with h' | ⟨cs0, cs1, E', fr', h1, h2, h3, h4⟩ | ⟨hp, a, a', h1, _, h2, _⟩
    · exact ⟨b, off, lim, rfl, hz, hmax, hl, .inr ⟨cs, E, fr, h'.trans hh, hlim, fun j h1 h2 => ⟨hnew b j (hff j h1 h2), (hm j h1 h2).2⟩, fun i hi => (hr i hi).mono he.le⟩⟩
    · rw [hh] at h1
      simp only [Option.some.injEq, Obj.cells.injEq] at h1
      obtain ⟨rfl, rfl, rfl⟩ := h1
      refine ⟨b, off, lim, rfl, hz, hmax, hl, .inr ⟨cs1, E, fr, h2, by omega, fun j h1 h2 => ⟨hnew b j (hff j h1 h2), (hm j h1 h2).2⟩, fun i hi => ?_⟩⟩
      have : (cs1.toList.drop (off + i * t.size)).take t.size = (cs.toList.drop (off + i * t.size)).take t.size := by
        refine List.ext_getElem? fun q => ?_
        by_cases hq : q < t.size
        · rw [List.getElem?_take_of_lt hq, List.getElem?_take_of_lt hq, List.getElem?_drop, List.getElem?_drop, Array.getElem?_toList, Array.getElem?_toList]
          refine h4 _ fun hF => ?_
          have hle : (i + 1) * t.size ≤ xs.length * t.size := Nat.mul_le_mul_right _ (by omega)
          rw [Nat.add_mul] at hle
          exact hd b _ (hff _ (by omega) (by omega)) hF
        · rw [List.getElem?_eq_none (by simp; omega), List.getElem?_eq_none (by simp; omega)]
      rw [this]
      exact (hr i hi).mono he.le
    · rw [hh] at h1; cases h1; cases h2
  | iter s pos =>
    obtain ⟨r, rfl, bs, hh, hs, hss⟩ := h
    have hb : r < w.heap.size := (Array.getElem?_eq_some_iff.1 hh).1
    have hsame : w'.heap[r]? = w.heap[r]? := by
      rcases he.same r hb with h' | ⟨cs0, cs1, E', fr', h1, h2, h3, h4⟩ | ⟨hp, _⟩
      · exact h'
      · rw [hh] at h1; cases h1
      · exact absurd (hp 0) (hd r 0 rfl)
    exact ⟨r, rfl, bs, hsame.trans hh, hs, hss⟩
  | map k v es =>
    obtain ⟨r, rfl, ents, clock, hh, hm⟩ := h
    have hb : r < w.heap.size := (Array.getElem?_eq_some_iff.1 hh).1
    have hsame : w'.heap[r]? = w.heap[r]? := by
      rcases he.same r hb with h' | ⟨cs0, cs1, E', fr', h1, h2, h3, h4⟩ | ⟨hp, _⟩
      · exact h'
      · rw [hh] at h1; cases h1
      · exact absurd (hp 0) (hd r 0 rfl)
    exact ⟨r, rfl, ents, clock, hsame.trans hh, hm.1, fun i hi hc => ⟨(hm.2 i hi hc).1.mono he.le, (hm.2 i hi hc).2.mono he.le⟩⟩

/-- What one operation that asks for the sites 'rs' has done: 'R' are the resources ahead of it, 'R'' behind it. -/
structure Did (rs : List Nat) (R R' : Nat → List Cont) (w : World) (m : Mem) (L : Locs) (w' : World) (m' : Mem) (L' : Locs) : Prop where
  evo : Evo (fun b i => ∃ s j c, s ∈ rs ∧ (R s)[j]? = some c ∧ foot (L s j) c b i) w m w' m'
  keep : L.le L'
  out : ∀ s, s ∉ rs → R' s = R s ∧ ∀ j, L' s j = L s j
  at_ : ∀ s j c, s ∈ rs → (R' s)[j]? = some c → ContAt m' L' w' (L' s j) c
  apart : ∀ s j c s' j' c', s ∈ rs → s' ∈ rs → (R' s)[j]? = some c → (R' s')[j']? = some c' → (s, j) ≠ (s', j') → ∀ b i, foot (L' s j) c b i → ¬ foot (L' s' j') c' b i
  foot : ∀ s j c, s ∈ rs → (R' s)[j]? = some c → ∀ b i, foot (L' s j) c b i → (∃ s j c, s ∈ rs ∧ (R s)[j]? = some c ∧ Am.foot (L s j) c b i) ∨ w.heap.size ≤ b
  no : ∀ s, s ∈ rs → R' s = [] → ∀ j, L' s j = .no

theorem Did.res {rs : List Nat} {R R' : Nat → List Cont} {w w' : World} {m m' : Mem} {L L' : Locs} (h : Did rs R R' w m L w' m' L') (ha : Agree m w) (hr : ResAt m L w R) : ResAt m' L' w' R' where
  at_ s j c hc := by
    by_cases hs : s ∈ rs
    · exact h.at_ s j c hs hc
    · obtain ⟨h1, h2⟩ := h.out s hs
      rw [h1] at hc
      rw [h2]
      refine (hr.at_ s j c hc).kept ha h.keep h.evo fun b i hf => ?_
      rintro ⟨s', j', c', hs', hc', hf'⟩
      exact hr.apart s j c s' j' c' hc hc' (fun e => hs (by cases e; exact hs')) b i hf hf'
  apart s j c s' j' c' hc hc' hne b i hf hf' := by
    by_cases hs : s ∈ rs <;> by_cases hs' : s' ∈ rs
    · exact h.apart s j c s' j' c' hs hs' hc hc' hne b i hf hf'
    · obtain ⟨h1, h2⟩ := h.out s' hs'
      rw [h1] at hc'
      rw [h2] at hf'
      rcases h.foot s j c hs hc b i hf with ⟨s0, j0, c0, hs0, hc0, hf0⟩ | hb
      · exact hr.apart s0 j0 c0 s' j' c' hc0 hc' (fun e => hs' (by cases e; exact hs0)) b i hf0 hf'
      · have := (hr.at_ s' j' c' hc').foot_lt hf'; omega
    · obtain ⟨h1, h2⟩ := h.out s hs
      rw [h1] at hc
      rw [h2] at hf
      rcases h.foot s' j' c' hs' hc' b i hf' with ⟨s0, j0, c0, hs0, hc0, hf0⟩ | hb
      · exact hr.apart s0 j0 c0 s j c hc0 hc (fun e => hs (by cases e; exact hs0)) b i hf0 hf
      · have := (hr.at_ s j c hc).foot_lt hf; omega
    · obtain ⟨h1, h2⟩ := h.out s hs
      obtain ⟨h1', h2'⟩ := h.out s' hs'
      rw [h1] at hc
      rw [h2] at hf
      rw [h1'] at hc'
      rw [h2'] at hf'
      exact hr.apart s j c s' j' c' hc hc' hne b i hf hf'
  no s hs j := by
    by_cases hm : s ∈ rs
    · exact h.no s hm hs j
    · obtain ⟨h1, h2⟩ := h.out s hm
      rw [h2]
      exact hr.no s (h1 ▸ hs) j

end Go.Proofs.Am

set_option autoImplicit false
set_option linter.unusedVariables false
set_option linter.unusedSimpArgs false
namespace Go.Proofs.Am
open Go.RowKit

/-! ## The table of types -/
def descOf : TypeDesc → TI
  | .int k => .int k
  | .bool => .bool
  | .string => .str
  | .slice e => .slice e
  | .struct fs => .struct (fs.toList.map fun f => (f.offset, f.type))
  | .array n e => .array n e
  | .pointer e => .ptr e
  | .map k e => .map k e
  | .func .. => .func
  | _ => .other

def aggV : Value → Bool
  | .agg _ => true
  | _ => false
def aggTI : TI → Bool
  | .struct _ | .array _ _ => true
  | _ => false
def tinfoOf (P : Program) (T : TypeId) : Option TInfo :=
  match P.info? T, P.underlying T with
  | some i, some d => i.zero.bind fun z => bif aggV z == aggTI (descOf d) then some ⟨descOf d, i.size, i.bytes, z.cells.toList.map constAV, none, false⟩ else none
  | _, _ => none

def TInfo.core (i : TInfo) : TInfo := { i with ty := none, eq := false }
def consN (t : Ty) : Nat → Option Ty
  | 0 => none
  | 1 => some t
  | n + 1 => (consN t n).map (.cons t)
def eqFs (tab : Tab) (f : TypeId → Option Ty) : List Field → Nat → Option Ty
  | [], _ => none
  | g :: gs, off => match tab.find g.type, f g.type with
    | some i, some t => bif g.name != "_" && Nat.beq g.offset off && fits i t then
        (match gs with
        | [] => some t
        | gs => (eqFs tab f gs (off + t.size)).map (.cons t))
      else none
    | _, _ => none
/-- The data of a type whose values are held against each other part by part. -/
def eqTy (P : Program) (tab : Tab) : Nat → TypeId → Option Ty
  | 0, _ => none
  | d + 1, T => match P.underlying T with
    | some .bool => some .bool
    | some (.int k) => some (.int k)
    | some .string => some .str
    | some (.struct fs) => bif P.stoodInHeld T then none else (eqFs tab (eqTy P tab d) fs.toList 0).map .st
    | some (.array n e) => match tab.find e, eqTy P tab d e with
      | some i, some t => bif fits i t then (consN t n).map .st else none
      | _, _ => none
    | _ => none
def TabOk (P : Program) (tab : Tab) : Prop := ∀ T i, tab.find T = some i → tinfoOf P T = some i.core ∧ (i.eq = true → eqTy P tab 9 T = i.ty ∧ P.eqGuardType P.depth T = false)

theorem constAVs_eq : ∀ l : List Value, constAVs l = l.map constAV
  | [] => rfl
  | v :: l => by simp [constAVs, constAVs_eq l]

theorem tinfo_parts {P : Program} {tab : Tab} (ht : TabOk P tab) {T : TypeId} {i : TInfo} (h : tab.find T = some i) :
    ∃ ti d z, P.info? T = some ti ∧ P.underlying T = some d ∧ ti.zero = some z ∧ descOf d = i.desc ∧ ti.size = i.size ∧ ti.bytes = i.bytes ∧ z.cells.toList.map constAV = i.zero := by
  have h' := (ht T i h).1
  unfold tinfoOf at h'
  split at h'
  · rename_i ti d h1 h2
    simp only [Option.bind_eq_some_iff] at h'
    obtain ⟨z, hz, he⟩ := h'
    cases hb : (aggV z == aggTI (descOf d)) with
    | false => simp [hb] at he
    | true =>
    simp only [hb, cond_true, Option.some.injEq, TInfo.core, TInfo.mk.injEq, and_true] at he
    exact ⟨ti, d, z, h1, h2, hz, he.1, he.2.1, he.2.2.1, he.2.2.2⟩
  · cases h'

theorem tinfo_agg {P : Program} {tab : Tab} (ht : TabOk P tab) {T : TypeId} {i : TInfo} (h : tab.find T = some i) :
    ∃ ti z, P.info? T = some ti ∧ ti.zero = some z ∧ z.cells.toList.map constAV = i.zero ∧ aggV z = i.agg := by
  have h' := (ht T i h).1
  unfold tinfoOf at h'
  split at h'
  · rename_i ti d h1 h2
    simp only [Option.bind_eq_some_iff] at h'
    obtain ⟨z, hz, he⟩ := h'
    cases hb : (aggV z == aggTI (descOf d)) with
    | false => simp [hb] at he
    | true =>
    simp only [hb, cond_true, Option.some.injEq, TInfo.core, TInfo.mk.injEq, and_true] at he
    refine ⟨ti, z, h1, hz, he.2.2.2, ?_⟩
    simp only [beq_iff_eq] at hb
    rw [hb, he.1]
    unfold TInfo.agg aggTI
    cases i.desc <;> rfl
  · cases h'

section
variable {P : Program} {tab : Tab} (ht : TabOk P tab) {T : TypeId} {i : TInfo} (h : tab.find T = some i) (w : World)
include ht h
theorem run_sizeOf' : (sizeOf T).run P w = .ok i.size w := by
  obtain ⟨ti, d, z, h1, h2, h3, h4, h5, h6, h7⟩ := tinfo_parts ht h
  simp [sizeOf, typeInfo, h1, h5]
theorem run_isAgg' : (isAgg T).run P w = .ok i.agg w := by
  obtain ⟨ti, d, z, h1, h2, h3, h4, h5, h6, h7⟩ := tinfo_parts ht h
  unfold isAgg TInfo.agg
  rw [← h4]
  cases d <;> simp [underlying, h2, descOf]
theorem run_zeroValue' : ∃ z, (zeroValue T).run P w = .ok z w ∧ z.cells.toList.map constAV = i.zero := by
  obtain ⟨ti, d, z, h1, h2, h3, h4, h5, h6, h7⟩ := tinfo_parts ht h
  exact ⟨z, by simp [zeroValue, typeInfo, h1, h3], h7⟩
theorem under_of : ∃ d, P.underlying T = some d ∧ descOf d = i.desc := by
  obtain ⟨ti, d, z, h1, h2, h3, h4, h5, h6, h7⟩ := tinfo_parts ht h
  exact ⟨d, h2, h4⟩
theorem info_of : ∃ ti, P.info? T = some ti ∧ ti.size = i.size ∧ ti.bytes = i.bytes := by
  obtain ⟨ti, d, z, h1, h2, h3, h4, h5, h6, h7⟩ := tinfo_parts ht h
  exact ⟨ti, h1, h5, h6⟩
end

theorem under_slice {P : Program} {tab : Tab} (ht : TabOk P tab) {T e : TypeId} {i : TInfo} (h : tab.find T = some i) (hd : i.desc = .slice e) : P.underlying T = some (.slice e) := by
  obtain ⟨d, h1, h2⟩ := under_of ht h
  rw [hd] at h2
  cases d <;> simp [descOf] at h2
  subst h2; exact h1
theorem under_struct {P : Program} {tab : Tab} (ht : TabOk P tab) {T : TypeId} {i : TInfo} {fs : List (Nat × TypeId)} (h : tab.find T = some i) (hd : i.desc = .struct fs) :
    ∃ fields : Array Field, P.underlying T = some (.struct fields) ∧ fields.toList.map (fun f => (f.offset, f.type)) = fs := by
  obtain ⟨d, h1, h2⟩ := under_of ht h
  rw [hd] at h2
  cases d <;> simp [descOf] at h2
  exact ⟨_, h1, h2⟩
theorem under_array {P : Program} {tab : Tab} (ht : TabOk P tab) {T e : TypeId} {n : Nat} {i : TInfo} (h : tab.find T = some i) (hd : i.desc = .array n e) : P.underlying T = some (.array n e) := by
  obtain ⟨d, h1, h2⟩ := under_of ht h
  rw [hd] at h2
  cases d <;> simp [descOf] at h2
  obtain ⟨rfl, rfl⟩ := h2; exact h1
theorem under_str {P : Program} {tab : Tab} (ht : TabOk P tab) {T : TypeId} {i : TInfo} (h : tab.find T = some i) (hd : i.desc = .str) : P.underlying T = some .string := by
  obtain ⟨d, h1, h2⟩ := under_of ht h
  rw [hd] at h2
  cases d <;> simp [descOf] at h2
  exact h1
theorem under_int {P : Program} {tab : Tab} (ht : TabOk P tab) {T : TypeId} {i : TInfo} {k : IntKind} (h : tab.find T = some i) (hd : i.desc = .int k) : P.underlying T = some (.int k) := by
  obtain ⟨d, h1, h2⟩ := under_of ht h
  rw [hd] at h2
  cases d <;> simp [descOf] at h2
  subst h2; exact h1
theorem under_bool {P : Program} {tab : Tab} (ht : TabOk P tab) {T : TypeId} {i : TInfo} (h : tab.find T = some i) (hd : i.desc = .bool) : P.underlying T = some .bool := by
  obtain ⟨d, h1, h2⟩ := under_of ht h
  rw [hd] at h2
  cases d <;> simp [descOf] at h2
  exact h1
theorem under_ptr {P : Program} {tab : Tab} (ht : TabOk P tab) {T e : TypeId} {i : TInfo} (h : tab.find T = some i) (hd : i.desc = .ptr e) : P.underlying T = some (.pointer e) := by
  obtain ⟨d, h1, h2⟩ := under_of ht h
  rw [hd] at h2
  cases d <;> simp [descOf] at h2
  subst h2; exact h1
theorem under_map {P : Program} {tab : Tab} (ht : TabOk P tab) {T k e : TypeId} {i : TInfo} (h : tab.find T = some i) (hd : i.desc = .map k e) : P.underlying T = some (.map k e) := by
  obtain ⟨d, h1, h2⟩ := under_of ht h
  rw [hd] at h2
  cases d <;> simp [descOf] at h2
  obtain ⟨rfl, rfl⟩ := h2; exact h1

theorem zero_rep {m : Mem} {L : Locs} {z : Value} {zs : List AV} (h : z.cells.toList.map constAV = zs) : ReL m L zs z.cells.toList := by
  rw [← h, ← constAVs_eq]; exact constAVs_rep _

theorem flat_rep {m : Mem} {L : Locs} {a : AV} {v : Value} (h : ARep m L a v) (hf : flat a = true) : v.oneCell' = true := by
  cases h <;> simp [flat] at hf <;> try rfl
  case d1 t x ha h => exact h.oneCell v (by simp)
  case d2 t x cs ha h => rw [ha] at hf; cases hf
  case ms => assumption
  case pidx => assumption
theorem flats_rep {m : Mem} {L : Locs} {ls : List AV} {cs : List Value} (h : ReL m L ls cs) (hf : ls.all flat = true) : ∀ c ∈ cs, c.oneCell' = true := by
  induction ls generalizing cs with
  | nil =>
    have : cs = [] := List.eq_nil_of_length_eq_zero h.1
    subst this; simp
  | cons a ls ih =>
    obtain ⟨v, cs', rfl, hv, ht⟩ := h.head
    simp only [List.all_cons, Bool.and_eq_true] at hf
    intro c hc
    rcases List.mem_cons.1 hc with rfl | hc
    · exact flat_rep hv hf.1
    · exact ih ht hf.2 c hc

/-! ## States -/
structure Sim (m : Mem) (L : Locs) (st : St) (a : Act) (w : World) : Prop where
  defers : a.defers = []
  tmps : ∀ i, ARep m L (st.tmps i) (a.tmps.getD i undef)
  agree : Agree m w
  res : ResAt m L w st.res

theorem Sim.eval {m : Mem} {L : Locs} {st : St} {a : Act} {w : World} (h : Sim m L st a w) (x : Operand) : ARep m L (evalO st x) (a.eval x) := by
  cases x with
  | tmp t => exact h.tmps t
  | const v => exact constAV_rep v
  | global g => exact .junk _
  | func f => exact .fn f [] [] [] [] rfl rfl (fun i hi => absurd hi (by simp)) (fun i hi => absurd hi (by simp))

theorem Sim.evals {m : Mem} {L : Locs} {st : St} {a : Act} {w : World} (h : Sim m L st a w) : ∀ xs : List Operand, ReL m L (xs.map (evalO st)) (xs.map a.eval)
  | [] => .nil
  | x :: xs => .cons (h.eval x) (h.evals xs)

@[simp] theorem Tree.run_bind {α β : Type} (t : Tree α) (f : α → Tree β) : (t.bind f).run = t.run.bind fun x => (f x).run := by
  induction t with
  | leaf a => rfl
  | fail => rfl
  | br b l r ihl ihr => cases b <;> simp [Tree.bind, Tree.run, ihl, ihr]
  | opt t o k ih => cases o <;> simp [Tree.bind, Tree.run, ih]
@[simp] theorem Tree.run_leaf {α : Type} (a : α) : (Tree.leaf a).run = some a := rfl
@[simp] theorem Tree.run_fail {α : Type} : (Tree.fail : Tree α).run = none := rfl
@[simp] theorem Tree.run_br {α : Type} (b : Bool) (l r : Tree α) : (Tree.br b l r).run = bif b then l.run else r.run := rfl
@[simp] theorem Tree.run_opt {α : Type} (t : Ty) (o : Option t.den) (k : t.den → Tree α) : (Tree.opt t o k).run = o.bind fun x => (k x).run := rfl
@[simp] theorem Tree.run_guard {α : Type} (b : Bool) (t : Tree α) : (guardT b t).run = bif b then t.run else none := rfl
@[simp] theorem Tree.run_ofOption {α : Type} (o : Option α) : (ofOption o).run = o := by cases o <;> rfl

/-- The operation does what is asked for. -/
def OpOk (P : Program) (o : Oper) (a : Act) (w : World) (m : Mem) (L : Locs) (st : St) (r : Req) : Prop :=
  ∀ v fs, (r.act (r.rs.map st.res)).run = some (v, fs) → ∀ (next : Act → World → Prop) (Q : Exit → Act → World → Prop),
    (∀ v' w' m' L', ARep m' L' v v' → Did r.rs st.res (putRes st.res r.rs fs) w m L w' m' L' → next (a.put o.dst v') w') →
    o.upon P a next Q ((execOp a.eval o).run P w)

theorem Did.nothing {R : Nat → List Cont} {w : World} {m : Mem} {L : Locs} (h : Agree m w) : Did [] R R w m L w m L where
  evo := .refl h
  keep := L.le_refl
  out s _ := ⟨rfl, fun _ => rfl⟩
  at_ s j c hs := absurd hs (by simp)
  apart s j c s' j' c' hs := absurd hs (by simp)
  foot s j c hs := absurd hs (by simp)
  no s hs := absurd hs (by simp)

theorem pureOk {P : Program} {o : Oper} {a : Act} {w : World} {m : Mem} {L : Locs} {st : St} (hs : Sim m L st a w) {t : Tree AV}
    (h : ∀ v, t.run = some v → ∃ v', ARep m L v v' ∧ (execOp a.eval o).run P w = .ok (.value v') w) : OpOk P o a w m L st (.pure t) := by
  intro v fs hr next Q hn
  simp only [Req.pure, List.map_nil, Tree.run_bind, Tree.run_leaf, Option.bind_eq_some_iff, Option.some.injEq, Prod.mk.injEq] at hr
  obtain ⟨v0, h0, rfl, rfl⟩ := hr
  obtain ⟨v', hv, he⟩ := h _ h0
  rw [he]
  exact hn v' w m L hv (show Did [] st.res st.res w m L w m L from Did.nothing hs.agree)

theorem failOk {P : Program} {o : Oper} {a : Act} {w : World} {m : Mem} {L : Locs} {st : St} : OpOk P o a w m L st .fail := by
  intro v fs hr
  simp [Req.fail, Req.pure] at hr

theorem pureOptOk {P : Program} {o : Oper} {a : Act} {w : World} {m : Mem} {L : Locs} {st : St} (hs : Sim m L st a w) {t : Option AV}
    (h : ∀ v, t = some v → ∃ v', ARep m L v v' ∧ (execOp a.eval o).run P w = .ok (.value v') w) : OpOk P o a w m L st (pureOpt t) := by
  cases t with
  | none => exact failOk
  | some v => exact pureOk hs fun v' hv => by simp at hv; subst hv; exact h v rfl
end Go.Proofs.Am

set_option autoImplicit false
set_option linter.unusedVariables false
set_option linter.unusedSimpArgs false
namespace Go.Proofs.Am
open Go.RowKit

section
variable {m : Mem} {L : Locs} {x : AV} {v : Value}
theorem intOf_rep {k : IntKind} {n : Int} (h : ARep m L x v) (hx : intOf x = some (k, n)) : v = .int k n ∧ inRange k n := by
  cases x <;> simp only [intOf] at hx <;> try (simp at hx; done)
  case d t y =>
    cases t <;> simp at hx
    obtain ⟨rfl, rfl⟩ := hx
    rcases h.data with ⟨_, h⟩ | ⟨ha, _⟩
    · cases h; exact ⟨rfl, by assumption⟩
    · cases ha
theorem boolOf_rep {b : Bool} (h : ARep m L x v) (hx : boolOf x = some b) : v = .bool b := by
  cases x <;> simp only [boolOf] at hx <;> try (simp at hx; done)
  case tt => cases h; simp at hx; rw [hx]
  case ff => cases h; simp at hx; rw [hx]
  case d t y =>
    cases t <;> simp at hx
    subst hx
    rcases h.data with ⟨_, h⟩ | ⟨ha, _⟩
    · cases h; rfl
    · cases ha
theorem strOf_rep {s : List UInt8} (h : ARep m L x v) (hx : strOf x = some s) : ∃ s' : ByteArray, v = .string s' ∧ s'.data.toList = s ∧ s'.size ≤ maxStr := by
  cases x <;> simp only [strOf] at hx <;> try (simp at hx; done)
  case d t y =>
    cases t <;> simp at hx
    subst hx
    rcases h.data with ⟨_, h⟩ | ⟨ha, _⟩
    · cases h; exact ⟨_, rfl, by assumption, by assumption⟩
    · cases ha
theorem listOf_rep {t : Ty} {xs : List t.den} (h : ARep m L x v) (hx : listOf x = some ⟨t, xs⟩) : ∃ A n c, v = .slice A n c ∧ RepC m (.list t) [.slice A n c] xs := by
  cases x <;> simp only [listOf] at hx <;> try (simp at hx; done)
  case d t' y =>
    cases t' <;> simp at hx
    obtain ⟨rfl, hx⟩ := hx
    have hx := eq_of_heq hx
    subst hx
    rcases h.data with ⟨_, h⟩ | ⟨ha, _⟩
    · have h' := h
      cases h with
      | nil t A c => exact ⟨_, _, _, rfl, h'⟩
      | list t b off n c xs cs hn hl hc hm h => exact ⟨_, _, _, rfl, h'⟩
    · cases ha
  case own t' ys s j =>
    simp at hx
    obtain ⟨rfl, hx⟩ := hx
    have hx := eq_of_heq hx
    subst hx
    cases h with
    | own _ _ _ _ A n c h hl => exact ⟨A, n, c, rfl, h⟩
theorem list_len {t : Ty} {xs : List t.den} {A : Option Addr} {n c : Nat} (h : RepC m (.list t) [.slice A n c] xs) : xs.length = n ∧ n ≤ maxStr := by
  cases h with
  | nil => exact ⟨rfl, Nat.zero_le _⟩
  | list _ b off n c xs cs hn hl hc hm h => exact ⟨hn, hl⟩
end

theorem ok_int {m : Mem} {L : Locs} {k : IntKind} {n : Int} (h : inRange k n) : ARep m L (.d (.int k) n) (.int k n) := .d1 _ _ _ rfl (.int k n h)
theorem ok_bool {m : Mem} {L : Locs} {b : Bool} : ARep m L (.d .bool b) (.bool b) := .d1 _ _ _ rfl (.bool b)
theorem ok_str {m : Mem} {L : Locs} {s : ByteArray} {x : List UInt8} (h : s.data.toList = x) (hs : s.size ≤ maxStr) : ARep m L (.d .str x) (.string s) := .d1 _ _ _ rfl (.str s x h hs)
theorem ok_known {m : Mem} {L : Locs} {b : Bool} : ARep m L (knownB b) (.bool b) := by cases b <;> constructor

theorem wrap_range (k : IntKind) (n : Int) : inRange k (k.wrap n) := by
  unfold inRange IntKind.wrap
  cases k <;> simp only [IntKind.min, IntKind.max, IntKind.bits, IntKind.signed] <;> simp <;> (try split) <;> omega

theorem tmod_range (k : IntKind) (a b : Int) (ha : inRange k a) : inRange k (a.tmod b) := by
  have h1 : (a.tmod b).natAbs ≤ a.natAbs := by
    rw [Int.natAbs_tmod]; exact Nat.mod_le _ _
  have h2 : 0 ≤ a → 0 ≤ a.tmod b := fun h => Int.tmod_nonneg _ h
  have h3 : a ≤ 0 → a.tmod b ≤ 0 := fun h => by
    have := Int.tmod_nonneg b (show 0 ≤ -a by omega)
    rw [Int.neg_tmod] at this; omega
  unfold inRange at *
  have hmin : k.min ≤ 0 := by cases k <;> simp [IntKind.min, IntKind.signed, IntKind.bits]
  have hmax : 0 ≤ k.max := by cases k <;> simp [IntKind.max, IntKind.signed, IntKind.bits]
  omega

theorem fdiv_range (k : IntKind) (a : Int) (n : Nat) (ha : inRange k a) : inRange k (a.fdiv (2 ^ n)) := by
  have hp : (0 : Int) < 2 ^ n := Int.pow_pos (by decide)
  have hmin : k.min ≤ 0 := by cases k <;> simp [IntKind.min, IntKind.signed, IntKind.bits]
  have hmax : 0 ≤ k.max := by cases k <;> simp [IntKind.max, IntKind.signed, IntKind.bits]
  unfold inRange at *
  rw [Int.fdiv_eq_ediv_of_nonneg _ (by omega)]
  constructor
  · rcases Int.le_total 0 a with h | h
    · exact Int.le_trans hmin (Int.ediv_nonneg h (by omega))
    · refine Int.le_trans ha.1 ?_
      rw [Int.le_ediv_iff_mul_le hp]
      have : a * 2 ^ n ≤ a * 1 := Int.mul_le_mul_of_nonpos_left h (by omega)
      omega
  · rcases Int.le_total 0 a with h | h
    · exact Int.le_trans (Int.ediv_le_self _ h) ha.2
    · have := Int.ediv_le_ediv hp h
      simp at this
      omega

theorem i64_len {n : Nat} (h : n ≤ maxStr) : inRange .i64 (n : Int) := by
  unfold inRange maxStr at *
  simp [IntKind.min, IntKind.max, IntKind.bits, IntKind.signed]
  omega

theorem intOp_run {P : Program} {w : World} {m : Mem} {L : Locs} {op : BinOp} {k : IntKind} {a b : Int} {yc : Bool} {v : AV} (T : TypeId) (ha : inRange k a) (hb : inRange k b)
    (h : (intOp op k a b yc).run = some v) (hne : op ≠ .shl ∧ op ≠ .shr) : ∃ v', ARep m L v v' ∧ (binOp op T (.int k a) (.int k b)).run P w = .ok v' w := by
  cases op <;> simp only [intOp, Tree.run_leaf, Tree.run_fail, Tree.run_br, Option.some.injEq, reduceCtorEq] at h <;> try (subst h)
  case add => exact ⟨_, ok_int (wrap_range _ _), by simp [binOp, Op.intArith]⟩
  case sub => exact ⟨_, ok_int (wrap_range _ _), by simp [binOp, Op.intArith]⟩
  case mul => exact ⟨_, ok_int (wrap_range _ _), by simp [binOp, Op.intArith]⟩
  case quo =>
    by_cases h0 : b = 0
    · subst h0; cases yc <;> simp at h
    · have hb0 : (b == 0) = false := by simpa using h0
      have : v = .d (.int k) (k.wrap (a.tdiv b)) := by cases yc <;> simp [hb0] at h <;> exact h.symm
      subst this
      exact ⟨_, ok_int (wrap_range _ _), by simp [binOp, Op.intDiv, h0]⟩
  case rem =>
    by_cases h0 : b = 0
    · subst h0; cases yc <;> simp at h
    · have hb0 : (b == 0) = false := by simpa using h0
      have : v = .d (.int k) (a.tmod b) := by cases yc <;> simp [hb0] at h <;> exact h.symm
      subst this
      exact ⟨_, ok_int (tmod_range _ _ _ ha), by simp [binOp, Op.intDiv, h0]⟩
  case and => exact ⟨_, ok_int (wrap_range _ _), by simp [binOp, Op.intBits]⟩
  case or => exact ⟨_, ok_int (wrap_range _ _), by simp [binOp, Op.intBits]⟩
  case xor => exact ⟨_, ok_int (wrap_range _ _), by simp [binOp, Op.intBits]⟩
  case andNot => exact ⟨_, ok_int (wrap_range _ _), by simp [binOp, Op.intBits]⟩
  case eql => exact ⟨_, ok_bool, by simp [binOp, Op.intCmp]⟩
  case neq => exact ⟨_, ok_bool, by simp [binOp, Op.intCmp]⟩
  case lss => exact ⟨_, ok_bool, by simp [binOp, Op.intCmp]⟩
  case leq => exact ⟨_, ok_bool, by simp [binOp, Op.intCmp]⟩
  case gtr => exact ⟨_, ok_bool, by simp [binOp, Op.intCmp]⟩
  case geq => exact ⟨_, ok_bool, by simp [binOp, Op.intCmp]⟩

theorem shiftOp_run {P : Program} {w : World} {m : Mem} {L : Locs} {op : BinOp} {k k' : IntKind} {a b : Int} {yc : Bool} {v : AV} (T : TypeId) (ha : inRange k a)
    (h : (shiftOp op k a b yc).run = some v) (hop : op = .shl ∨ op = .shr) : ∃ v', ARep m L v v' ∧ (binOp op T (.int k a) (.int k' b)).run P w = .ok v' w := by
  by_cases h0 : b < 0
  · have : decide (b < 0) = true := by simpa using h0
    cases yc <;> simp [shiftOp, this] at h
  · have h0' : decide (b < 0) = false := by simpa using h0
    rcases hop with rfl | rfl
    · have : v = .d (.int k) (k.wrap (a * 2 ^ (min b.toNat k.bits))) := by cases yc <;> simp [shiftOp, h0'] at h <;> exact h.symm
      subst this
      exact ⟨_, ok_int (wrap_range _ _), by simp [binOp, Op.shift, h0]⟩
    · have : v = .d (.int k) (a.fdiv (2 ^ (min b.toNat k.bits))) := by cases yc <;> simp [shiftOp, h0'] at h <;> exact h.symm
      subst this
      exact ⟨_, ok_int (fdiv_range _ _ _ ha), by simp [binOp, Op.shift, h0]⟩

theorem data_ext {s t : ByteArray} (h : s.data.toList = t.data.toList) : s = t := by
  cases s; cases t; simp at h; rw [h]

theorem string_eq {a b : ByteArray} : (a.toList == b.toList) = (a.data.toList == b.data.toList) := by rw [ByteArray.toList_eq, ByteArray.toList_eq]

theorem strOp_run {P : Program} {w : World} {m : Mem} {L : Locs} {op : BinOp} {a b : ByteArray} {v : AV} (T : TypeId)
    (h : (strOp op a.data.toList b.data.toList).run = some v) : ∃ v', ARep m L v v' ∧ (binOp op T (.string a) (.string b)).run P w = .ok v' w := by
  cases op <;> simp only [strOp, Tree.run_leaf, Tree.run_fail, Tree.run_guard, Option.some.injEq, reduceCtorEq] at h <;> try (subst h)
  case add =>
    by_cases hl : a.data.toList.length + b.data.toList.length ≤ maxStr
    · simp only [hl, decide_true, cond_true, Option.some.injEq] at h
      subst h
      have hl' : a.size + b.size ≤ maxStr := hl
      refine ⟨.string (a ++ b), ok_str (by simp) (by simpa using hl'), ?_⟩
      have hm : ¬ ((a.size + b.size : Nat) : Int) > IntKind.i64.max := by
        have : IntKind.i64.max = 9223372036854775807 := rfl
        rw [this]; unfold maxStr at hl'; omega
      simp only [binOp, Op.stringOp, Sem.run_ite, if_neg hm, Sem.run_pure]
    · simp only [hl, decide_false, cond_false, reduceCtorEq] at h
  case eql => exact ⟨_, ok_bool, by simp only [binOp, Op.stringOp, Sem.run_pure, string_eq]⟩
  case neq => exact ⟨_, ok_bool, by simp only [binOp, Op.stringOp, Sem.run_pure, string_eq]⟩
  case lss => exact ⟨_, ok_bool, by simp only [binOp, Op.stringOp, Sem.run_pure, string_eq, ByteArray.toList_eq]⟩
  case leq => exact ⟨_, ok_bool, by simp only [binOp, Op.stringOp, Sem.run_pure, string_eq, ByteArray.toList_eq]⟩
  case gtr => exact ⟨_, ok_bool, by simp only [binOp, Op.stringOp, Sem.run_pure, string_eq, ByteArray.toList_eq]⟩
  case geq => exact ⟨_, ok_bool, by simp only [binOp, Op.stringOp, Sem.run_pure, string_eq, ByteArray.toList_eq]⟩
end Go.Proofs.Am

set_option autoImplicit false
set_option linter.unusedVariables false
set_option linter.unusedSimpArgs false
namespace Go.Proofs.Am
open Go.RowKit

section
variable {P : Program} {tab : Tab} (ht : TabOk P tab) {m : Mem} {L : Locs} {w : World}

theorem run_under {T : TypeId} {d : TypeDesc} (h : P.underlying T = some d) : (underlying T).run P w = .ok d w := by simp [underlying, h]

/-- A list that is not empty lies somewhere. -/
theorem list_some {t : Ty} {xs : List t.den} {A : Option Addr} {n c : Nat} (h : RepC m (.list t) [.slice A n c] xs) (hx : xs.isEmpty = false) : A.isNone = false := by
  cases h with
  | nil => simp at hx
  | list => rfl

/-- The value of a nilable thing: is it nil? -/
theorem nilTest_rep {x : AV} {v : Value} {b : Bool} (h : ARep m L x v) (hb : (nilTest x).run = some b) :
    (∃ A n c, v = .slice A n c ∧ A.isNone = b) ∨ (∃ p, v = .pointer p ∧ p.isNone = b) ∨ (v = .nilFunc ∧ b = true) ∨ (∃ f a c, v = .func f a c ∧ b = false) ∨ (∃ r, v = .map r ∧ r.isNone = b) := by
  cases h <;> simp [nilTest, isEmptyAV] at hb
  case nil => subst hb; exact .inl ⟨_, _, _, rfl, rfl⟩
  case nilp => subst hb; exact .inr (.inl ⟨_, rfl, rfl⟩)
  case nilfn => subst hb; exact .inr (.inr (.inl ⟨rfl, rfl⟩))
  case nilm => subst hb; exact .inr (.inr (.inr (.inr ⟨_, rfl, rfl⟩)))
  case ptr => subst hb; exact .inr (.inl ⟨_, rfl, rfl⟩)
  case pel => subst hb; exact .inr (.inl ⟨_, rfl, rfl⟩)
  case mref => subst hb; exact .inr (.inr (.inr (.inr ⟨_, rfl, rfl⟩)))
  case fn => subst hb; exact .inr (.inr (.inr (.inl ⟨_, _, _, rfl, rfl⟩)))
  case own t xs s j A n c h hl =>
    cases he : xs.isEmpty <;> simp [he] at hb
    subst hb
    exact .inl ⟨A, n, c, rfl, list_some h he⟩
  case d1 t y ha h =>
    cases t <;> simp at hb
    rename_i t
    cases he : List.isEmpty (α := t.den) y <;> simp [he] at hb
    subst hb
    have h' := h
    cases h with
    | nil => simp at he
    | list _ b off n c xs cs hn hl hc hm h => exact .inl ⟨_, _, _, rfl, rfl⟩
  case d2 t y cs ha h => cases t <;> simp [Ty.agg] at ha hb

theorem isNil_rep {x : AV} {v : Value} (h : ARep m L x v) (hb : isNil x = true) :
    (x = .nil ∧ v = .slice none 0 0) ∨ (x = .nilp ∧ v = .pointer none) ∨ (x = .nilfn ∧ v = .nilFunc) ∨ (x = .nilm ∧ v = .map none) := by
  cases h <;> simp [isNil] at hb <;> simp

theorem eqIn_slice (d : Nat) {T e : TypeId} (hu : P.underlying T = some (.slice e)) (A : Option Addr) (n c : Nat) :
    (Op.equalIn (d + 1) T (.slice A n c) (.slice none 0 0)).run P w = .ok A.isNone w ∧ (Op.equalIn (d + 1) T (.slice none 0 0) (.slice A n c)).run P w = .ok A.isNone w := by
  cases A <;> simp [Op.equalIn, run_under hu]
theorem eqIn_ptr (d : Nat) {T e : TypeId} (hu : P.underlying T = some (.pointer e)) (A : Option Addr) :
    (Op.equalIn (d + 1) T (.pointer A) (.pointer none)).run P w = .ok A.isNone w ∧ (Op.equalIn (d + 1) T (.pointer none) (.pointer A)).run P w = .ok A.isNone w := by
  cases A <;> simp [Op.equalIn, run_under hu]
theorem eqIn_map (d : Nat) {T k e : TypeId} (hu : P.underlying T = some (.map k e)) (A : Option Nat) :
    (Op.equalIn (d + 1) T (.map A) (.map none)).run P w = .ok A.isNone w ∧ (Op.equalIn (d + 1) T (.map none) (.map A)).run P w = .ok A.isNone w := by
  cases A <;> simp [Op.equalIn, run_under hu]
theorem eqIn_nilfn (d : Nat) {T : TypeId} {ps rs : Array TypeId} {vv : Bool} (hu : P.underlying T = some (.func ps rs vv)) :
    (Op.equalIn (d + 1) T .nilFunc .nilFunc).run P w = .ok true w := by
  simp [Op.equalIn, run_under hu]
theorem eqIn_fn (d : Nat) {T : TypeId} {ps rs : Array TypeId} {vv : Bool} (hu : P.underlying T = some (.func ps rs vv)) (f : Fn) (a c : Array Value) :
    (Op.equalIn (d + 1) T (.func f a c) .nilFunc).run P w = .ok false w ∧ (Op.equalIn (d + 1) T .nilFunc (.func f a c)).run P w = .ok false w := by
  simp [Op.equalIn, run_under hu]

theorem nilable_slice {e : TypeId} {x : AV} {v : Value} (h : ARep m L x v) (nx : nilable (some (.slice e)) x = true) (hb : ∃ b, (nilTest x).run = some b) : ∃ A n c, v = .slice A n c := by
  obtain ⟨b, hb⟩ := hb
  cases h <;> simp [nilable] at nx <;> simp [nilTest, isEmptyAV] at hb <;> try exact ⟨_, _, _, rfl⟩
  case d1 t y ha h =>
    cases t <;> simp at hb
    cases h with
    | nil => exact ⟨_, _, _, rfl⟩
    | list => exact ⟨_, _, _, rfl⟩
  case d2 t y cs ha h => cases t <;> simp [Ty.agg] at ha hb
theorem nilable_ptr {e : TypeId} {x : AV} {v : Value} (h : ARep m L x v) (nx : nilable (some (.ptr e)) x = true) : ∃ A, v = .pointer A := by
  cases h <;> simp [nilable] at nx <;> exact ⟨_, rfl⟩
theorem nilable_map {k e : TypeId} {x : AV} {v : Value} (h : ARep m L x v) (nx : nilable (some (.map k e)) x = true) : ∃ A, v = .map A := by
  cases h <;> simp [nilable] at nx <;> exact ⟨_, rfl⟩
theorem nilable_fn {x : AV} {v : Value} (h : ARep m L x v) (nx : nilable (some .func) x = true) : v = .nilFunc ∨ ∃ f a c, v = .func f a c := by
  cases h <;> simp [nilable] at nx
  · exact .inl rfl
  · exact .inr ⟨_, _, _, rfl⟩

include ht in
theorem equal_nil {T : TypeId} {x y : AV} {vx vy : Value} {b : Bool} {desc : Option TI} (hd : (tab.find T).map (·.desc) = desc) (hx : ARep m L x vx) (hy : ARep m L y vy)
    (nx : nilable desc x = true) (ny : nilable desc y = true) (hn : isNil y = true) (hb : (nilTest x).run = some b) :
    (Op.equal T vx vy).run P w = .ok b w ∧ (Op.equal T vy vx).run P w = .ok b w := by
  cases hi : tab.find T with
  | none => rw [hi] at hd; subst hd; simp [nilable] at ny
  | some i =>
    rw [hi] at hd
    subst hd
    have hr := nilTest_rep hx hb
    rcases isNil_rep hy hn with ⟨rfl, rfl⟩ | ⟨rfl, rfl⟩ | ⟨rfl, rfl⟩ | ⟨rfl, rfl⟩
    · cases hdsc : i.desc <;> simp [nilable, hdsc] at ny
      simp only [Option.map_some, hdsc] at nx
      have hu := under_slice ht hi hdsc
      obtain ⟨A, n, c, rfl⟩ := nilable_slice hx nx ⟨b, hb⟩
      simp at hr
      subst hr
      exact eqIn_slice 9999 hu A n c
    · cases hdsc : i.desc <;> simp [nilable, hdsc] at ny
      simp only [Option.map_some, hdsc] at nx
      have hu := under_ptr ht hi hdsc
      obtain ⟨A, rfl⟩ := nilable_ptr hx nx
      simp at hr
      subst hr
      exact eqIn_ptr 9999 hu A
    · cases hdsc : i.desc <;> simp [nilable, hdsc] at ny
      simp only [Option.map_some, hdsc] at nx
      obtain ⟨d, hu, hdd⟩ := under_of ht hi
      rw [hdsc] at hdd
      have hu' : ∃ ps rs v, d = .func ps rs v := by cases d <;> simp [descOf] at hdd ⊢
      obtain ⟨ps, rs, vv, rfl⟩ := hu'
      rcases nilable_fn hx nx with rfl | ⟨f, a, c, rfl⟩
      · simp at hr
        subst hr
        exact ⟨eqIn_nilfn 9999 hu, eqIn_nilfn 9999 hu⟩
      · simp at hr
        subst hr
        exact eqIn_fn 9999 hu f a c
    · cases hdsc : i.desc <;> simp [nilable, hdsc] at ny
      simp only [Option.map_some, hdsc] at nx
      have hu := under_map ht hi hdsc
      obtain ⟨A, rfl⟩ := nilable_map hx nx
      simp at hr
      subst hr
      exact eqIn_map 9999 hu A

/-- No guard stands ahead of an '==' where neither side is an interface value nor an aggregate. -/
theorem run_eqGuard {op : BinOp} {T : TypeId} {x y : Operand} {a b : Value} (h : ∀ cs, b ≠ .agg cs) (h' : b ≠ .nilIface) : (eqGuard op T x y a b).run P w = .ok () w := by
  unfold eqGuard
  cases b <;> first | exact absurd rfl h' | exact absurd rfl (h _) | (cases op <;> cases a <;> rfl)

theorem eql_run {T : TypeId} {a b : Value} {r : Bool} (h : (Op.equal T a b).run P w = .ok r w) (hk : (∃ A n c, a = .slice A n c) ∨ (∃ p, a = .pointer p) ∨ a = .nilFunc ∨ (∃ f c d, a = .func f c d) ∨ (∃ q, a = .map q))
    (hk' : (∃ A n c, b = .slice A n c) ∨ (∃ p, b = .pointer p) ∨ b = .nilFunc ∨ (∃ f c d, b = .func f c d) ∨ (∃ q, b = .map q)) :
    (binOp .eql T a b).run P w = .ok (.bool r) w ∧ (binOp .neq T a b).run P w = .ok (.bool (!r)) w := by
  rcases hk with ⟨A, n, c, rfl⟩ | ⟨p, rfl⟩ | rfl | ⟨f, c, d, rfl⟩ | ⟨q, rfl⟩ <;> rcases hk' with ⟨A', n', c', rfl⟩ | ⟨p', rfl⟩ | rfl | ⟨f', c', d', rfl⟩ | ⟨q', rfl⟩ <;>
    exact ⟨by simp only [binOp, Sem.run_bind, h, Result.andThen_ok, Sem.run_pure], by simp only [binOp, Sem.run_bind, h, Result.andThen_ok, Sem.run_pure]⟩

theorem nilkind {x : AV} {v : Value} {b : Bool} (h : ARep m L x v) (hb : (nilTest x).run = some b) :
    (∃ A n c, v = .slice A n c) ∨ (∃ p, v = .pointer p) ∨ v = .nilFunc ∨ (∃ f c d, v = .func f c d) ∨ (∃ q, v = .map q) := by
  rcases nilTest_rep h hb with ⟨A, n, c, rfl, _⟩ | ⟨p, rfl, _⟩ | ⟨rfl, _⟩ | ⟨f, a, c, rfl, _⟩ | ⟨r, rfl, _⟩
  · exact .inl ⟨_, _, _, rfl⟩
  · exact .inr (.inl ⟨_, rfl⟩)
  · exact .inr (.inr (.inl rfl))
  · exact .inr (.inr (.inr (.inl ⟨_, _, _, rfl⟩)))
  · exact .inr (.inr (.inr (.inr ⟨_, rfl⟩)))

theorem nil_test {x : AV} (h : isNil x = true) : (nilTest x).run = some true := by
  cases x <;> simp [isNil] at h <;> rfl

include ht in
theorem nil_op {T : TypeId} {x y : AV} {vx vy : Value} {v : AV} {desc : Option TI} (op : BinOp) (hop : op = .eql ∨ op = .neq) (f : Bool → Bool) (hf : (op = .eql → f = id) ∧ (op = .neq → f = not))
    (hd : (tab.find T).map (·.desc) = desc) (hx : ARep m L x vx) (hy : ARep m L y vy) (nx : nilable desc x = true) (ny : nilable desc y = true)
    (h : (bif isNil y then (nilTest x).bind fun b => .leaf (knownB (f b)) else bif isNil x then (nilTest y).bind fun b => .leaf (knownB (f b)) else .fail).run = some v) :
    ∃ v', ARep m L v v' ∧ (binOp op T vx vy).run P w = .ok v' w := by
  cases hn : isNil y with
  | true =>
    simp only [hn, cond_true, Tree.run_bind, Tree.run_leaf, Option.bind_eq_some_iff, Option.some.injEq] at h
    obtain ⟨b, hb, rfl⟩ := h
    have he := (equal_nil ht (w := w) hd hx hy nx ny hn hb).1
    have := eql_run he (nilkind hx hb) (nilkind hy (nil_test hn))
    refine ⟨_, ok_known, ?_⟩
    rcases hop with rfl | rfl
    · rw [hf.1 rfl]; exact this.1
    · rw [hf.2 rfl]; exact this.2
  | false =>
    cases hn' : isNil x with
    | true =>
      simp only [hn, hn', cond_true, cond_false, Tree.run_bind, Tree.run_leaf, Option.bind_eq_some_iff, Option.some.injEq] at h
      obtain ⟨b, hb, rfl⟩ := h
      have he := (equal_nil ht (w := w) hd hy hx ny nx hn' hb).2
      have := eql_run he (nilkind hx (nil_test hn')) (nilkind hy hb)
      refine ⟨_, ok_known, ?_⟩
      rcases hop with rfl | rfl
      · rw [hf.1 rfl]; exact this.1
      · rw [hf.2 rfl]; exact this.2
    | false => simp [hn, hn'] at h

include ht in
theorem binAV_run {T : TypeId} {x y : AV} {vx vy : Value} {op : BinOp} {yc : Bool} {v : AV} {o1 o2 : Operand} (hx : ARep m L x vx) (hy : ARep m L y vy)
    (h : (binAV ((tab.find T).map (·.desc)) op x y yc).run = some v) : ∃ v', ARep m L v v' ∧ (do eqGuard op T o1 o2 vx vy; binOp op T vx vy : Sem Value).run P w = .ok v' w := by
  have guard : (∀ cs, vy ≠ .agg cs) → vy ≠ .nilIface → (∃ v', ARep m L v v' ∧ (binOp op T vx vy).run P w = .ok v' w) → ∃ v', ARep m L v v' ∧ (do eqGuard op T o1 o2 vx vy; binOp op T vx vy : Sem Value).run P w = .ok v' w :=
    fun g1 g2 ⟨v', h1, h2⟩ => ⟨v', h1, by rw [Sem.run_bind, run_eqGuard g1 g2, Result.andThen_ok]; exact h2⟩
  unfold binAV at h
  split at h
  · rename_i k a k' b hix hiy
    obtain ⟨rfl, ra⟩ := intOf_rep hx hix
    obtain ⟨rfl, rb⟩ := intOf_rep hy hiy
    refine guard (by simp) (by simp) ?_
    split at h
    · exact shiftOp_run T ra h (.inl rfl)
    · exact shiftOp_run T ra h (.inr rfl)
    · rename_i n1 n2
      split at h
      · rename_i hk
        obtain rfl := kindEq_some hk
        exact intOp_run T ra rb h ⟨n1, n2⟩
      · simp at h
  · split at h
    · rename_i a b hsx hsy
      obtain ⟨sa, rfl, rfl, _⟩ := strOf_rep hx hsx
      obtain ⟨sb, rfl, rfl, _⟩ := strOf_rep hy hsy
      exact guard (by simp) (by simp) (strOp_run T h)
    · split at h
      · rename_i a b hbx hby
        obtain rfl := boolOf_rep hx hbx
        obtain rfl := boolOf_rep hy hby
        refine guard (by simp) (by simp) ?_
        split at h
        · rename_i hdesc
          simp only [Tree.run_leaf, Option.some.injEq] at h
          subst h
          simp only [Option.map_eq_some_iff] at hdesc
          obtain ⟨i, hi, hd⟩ := hdesc
          exact ⟨_, ok_bool, run_eql_bool w T a b (under_bool ht hi hd)⟩
        · rename_i hdesc
          simp only [Tree.run_leaf, Option.some.injEq] at h
          subst h
          simp only [Option.map_eq_some_iff] at hdesc
          obtain ⟨i, hi, hd⟩ := hdesc
          exact ⟨_, ok_bool, run_neq_bool w T a b (under_bool ht hi hd)⟩
        · simp at h
      · cases hnl : (nilable ((tab.find T).map (·.desc)) x && nilable ((tab.find T).map (·.desc)) y) with
        | false => simp [hnl] at h
        | true =>
          simp only [hnl, cond_true] at h
          simp only [Bool.and_eq_true] at hnl
          have key : (op = .eql ∨ op = .neq) → (∃ b, (nilTest y).run = some b) → ∃ v', ARep m L v v' ∧ (do eqGuard op T o1 o2 vx vy; binOp op T vx vy : Sem Value).run P w = .ok v' w := by
            rintro hop ⟨b, hb⟩
            refine guard ?_ ?_ ?_
            · rintro cs rfl
              rcases nilkind hy hb with ⟨_, _, _, h⟩ | ⟨_, h⟩ | h | ⟨_, _, _, h⟩ | ⟨_, h⟩ <;> cases h
            · rintro rfl
              rcases nilkind hy hb with ⟨_, _, _, h⟩ | ⟨_, h⟩ | h | ⟨_, _, _, h⟩ | ⟨_, h⟩ <;> cases h
            · rcases hop with rfl | rfl
              · exact nil_op ht .eql (.inl rfl) id ⟨fun _ => rfl, fun h => by cases h⟩ rfl hx hy hnl.1 hnl.2 h
              · exact nil_op ht .neq (.inr rfl) not ⟨fun h => (by cases h), fun _ => rfl⟩ rfl hx hy hnl.1 hnl.2 h
          have hy' : ∀ f : Bool → AV, (bif isNil y then (nilTest x).bind fun b => Tree.leaf (f b) else bif isNil x then (nilTest y).bind fun b => .leaf (f b) else .fail).run = some v → ∃ b, (nilTest y).run = some b := by
            intro f h
            cases hn : isNil y with
            | true => exact ⟨true, nil_test hn⟩
            | false =>
              cases hn' : isNil x with
              | true =>
                simp only [hn, hn', cond_true, cond_false, Tree.run_bind, Option.bind_eq_some_iff] at h
                obtain ⟨b, hb, _⟩ := h
                exact ⟨b, hb⟩
              | false => simp [hn, hn'] at h
          split at h
          · exact key (.inl rfl) (hy' _ h)
          · exact key (.inr rfl) (hy' _ h)
          · simp at h
end
end Go.Proofs.Am

set_option autoImplicit false
set_option linter.unusedVariables false
set_option linter.unusedSimpArgs false
namespace Go.Proofs.Am
open Go.RowKit

theorem addr_add (b off n : Nat) : (⟨b, off, none⟩ : Addr).add n = ⟨b, off + n, none⟩ := by unfold Addr.add; split <;> simp_all

theorem fits_size {i : TInfo} {t : Ty} (h : fits i t = true) : i.size = t.size ∧ i.agg = t.agg := by
  unfold fits at h
  simp only [Bool.and_eq_true] at h
  refine ⟨Nat.eq_of_beq_eq_true h.1, ?_⟩
  cases ha : i.agg <;> simp [ha] at h <;> simp [h.2]

theorem idx_some {α : Type} {xs : List α} {n : Int} {x : α} (h : idx xs n = some x) : 0 ≤ n ∧ ∃ hi : n.toNat < xs.length, xs[n.toNat] = x := by
  unfold idx at h
  split at h
  · exact ⟨by assumption, List.getElem?_eq_some_iff.1 h⟩
  · cases h

theorem loadVar_list {P : Program} {tab : Tab} (ht : TabOk P tab) {T : TypeId} {i : TInfo} (h : tab.find T = some i) {w : World} {b off : Nat} {cs : List Value} (hl : cs.length = i.size)
    (hc : ∀ j, j < cs.length → w.cell? ⟨b, off + j, none⟩ = cs[j]?) :
    (loadVar T ⟨b, off, none⟩).run P w = .ok (if i.agg then .agg ⟨cs⟩ else cs.headD undef) w ∨ (i.agg = false ∧ i.size ≠ 1) := by
  cases ha : i.agg with
  | true =>
    left
    have := run_loadCells_list (P := P) w ⟨b, off, none⟩ cs (fun j v hv => by
      rw [addr_add]
      have hj : j < cs.length := by
        rcases Nat.lt_or_ge j cs.length with h | h
        · exact h
        · simp [List.getElem?_eq_none h] at hv
      rw [hc j hj]; exact hv)
    simp only [loadVar, Sem.run_bind, run_isAgg' ht h, Result.andThen_ok, ha, if_true, run_sizeOf' ht h, Sem.run_pure]
    rw [← hl, this]
    rfl
  | false =>
    by_cases h1 : i.size = 1
    · left
      match cs, hl.trans h1 with
      | [c], _ =>
        have := hc 0 (by simp)
        simp only [Nat.add_zero, List.getElem?_cons_zero] at this
        simp [loadVar, run_isAgg' ht h, ha, this]
    · exact .inr ⟨rfl, h1⟩

/-! ### Parts of data -/
theorem proj_rep {m : Mem} : ∀ (fs : Ty) (i : Nat) {x : fs.den} {cs : List Value} {o : Nat} {t : Ty} {y : t.den}, RepC m fs cs x → proj fs i x = some (o, ⟨t, y⟩) →
    ∃ c1 c2 c3, cs = c1 ++ c2 ++ c3 ∧ c1.length = o ∧ RepC m t c2 y
  | .cons a b, 0, x, cs, o, t, y, h, hp => by
    simp only [proj, Option.some.injEq, Prod.mk.injEq, Sigma.mk.injEq] at hp
    obtain ⟨rfl, rfl, hp⟩ := hp
    have hp := eq_of_heq hp
    subst hp
    cases h with
    | cons _ _ c1 c2 x y h1 h2 => exact ⟨[], c1, c2, by simp, rfl, h1⟩
  | .cons a b, i + 1, x, cs, o, t, y, h, hp => by
    simp only [proj, Option.map_eq_some_iff, Prod.mk.injEq, Prod.exists] at hp
    obtain ⟨o', z, hz, rfl, rfl⟩ := hp
    cases h with
    | cons _ _ c1 c2 x y' h1 h2 =>
      obtain ⟨d1, d2, d3, rfl, rfl, hr⟩ := proj_rep b i h2 hz
      exact ⟨c1 ++ d1, d2, d3, by simp, by simp [h1.length], hr⟩
  | .int k, 0, x, cs, o, t, y, h, hp => by
    simp only [proj, Option.some.injEq, Prod.mk.injEq, Sigma.mk.injEq] at hp
    obtain ⟨rfl, rfl, hp⟩ := hp
    have hp := eq_of_heq hp
    subst hp
    exact ⟨[], cs, [], by simp, rfl, h⟩
  | .bool, 0, x, cs, o, t, y, h, hp => by
    simp only [proj, Option.some.injEq, Prod.mk.injEq, Sigma.mk.injEq] at hp
    obtain ⟨rfl, rfl, hp⟩ := hp
    have hp := eq_of_heq hp
    subst hp
    exact ⟨[], cs, [], by simp, rfl, h⟩
  | .str, 0, x, cs, o, t, y, h, hp => by
    simp only [proj, Option.some.injEq, Prod.mk.injEq, Sigma.mk.injEq] at hp
    obtain ⟨rfl, rfl, hp⟩ := hp
    have hp := eq_of_heq hp
    subst hp
    exact ⟨[], cs, [], by simp, rfl, h⟩
  | .list t0, 0, x, cs, o, t, y, h, hp => by
    simp only [proj, Option.some.injEq, Prod.mk.injEq, Sigma.mk.injEq] at hp
    obtain ⟨rfl, rfl, hp⟩ := hp
    have hp := eq_of_heq hp
    subst hp
    exact ⟨[], cs, [], by simp, rfl, h⟩
  | .st fs, 0, x, cs, o, t, y, h, hp => by
    simp only [proj, Option.some.injEq, Prod.mk.injEq, Sigma.mk.injEq] at hp
    obtain ⟨rfl, rfl, hp⟩ := hp
    have hp := eq_of_heq hp
    subst hp
    exact ⟨[], cs, [], by simp, rfl, h⟩
  | .json, 0, x, cs, o, t, y, h, hp => by
    simp only [proj, Option.some.injEq, Prod.mk.injEq, Sigma.mk.injEq] at hp
    obtain ⟨rfl, rfl, hp⟩ := hp
    have hp := eq_of_heq hp
    subst hp
    exact ⟨[], cs, [], by simp, rfl, h⟩
  | .int _, _ + 1, _, _, _, _, _, _, hp => by simp [proj] at hp
  | .bool, _ + 1, _, _, _, _, _, _, hp => by simp [proj] at hp
  | .str, _ + 1, _, _, _, _, _, _, hp => by simp [proj] at hp
  | .list _, _ + 1, _, _, _, _, _, _, hp => by simp [proj] at hp
  | .st _, _ + 1, _, _, _, _, _, _, hp => by simp [proj] at hp
  | .json, _ + 1, _, _, _, _, _, _, hp => by simp [proj] at hp

theorem js_as {m : Mem} {cs : List Value} {x : Js} (h : RepC m .json cs x) : RepC m jsF cs (x.kind, x.yes, x.num, x.text, x.list, x.keys) := by
  cases h with
  | json _ k y n t l ks h => exact h

theorem jsProj_eq (i : Nat) (x : Js) {o : Nat} {t : Ty} {y : t.den} (h : jsProj i x = some (o, ⟨t, y⟩)) : proj jsF i (x.kind, x.yes, x.num, x.text, x.list, x.keys) = some (o, ⟨t, y⟩) := by
  match i with
  | 0 => exact h
  | 1 => exact h
  | 2 => exact h
  | 3 => exact h
  | 4 => exact h
  | 5 => exact h
  | _ + 6 => simp [jsProj] at h

theorem dataField_rep {m : Mem} {t : Ty} {i : Nat} {x : t.den} {cs : List Value} {o : Nat} {t' : Ty} {y : t'.den} (h : RepC m t cs x) (hp : dataField i t x = some (o, ⟨t', y⟩)) :
    ∃ c1 c2 c3, cs = c1 ++ c2 ++ c3 ∧ c1.length = o ∧ RepC m t' c2 y := by
  cases t <;> simp only [dataField] at hp <;> try (simp at hp; done)
  case st fs =>
    cases h with
    | st _ _ _ h => exact proj_rep fs i h hp
  case json => exact proj_rep jsF i (js_as h) (jsProj_eq i x hp)

theorem fieldAt_rep {m : Mem} {t : Ty} {o i : Nat} {x : t.den} {cs : List Value} {t' : Ty} {y : t'.den} (h : RepC m t cs x) (hp : fieldAt o i t x = some ⟨t', y⟩) :
    ∃ c1 c2 c3, cs = c1 ++ c2 ++ c3 ∧ c1.length = o ∧ RepC m t' c2 y := by
  unfold fieldAt at hp
  split at hp
  · rename_i o' z hz
    cases hb : Nat.beq o o' with
    | false => simp [hb] at hp
    | true =>
      simp only [hb, cond_true, Option.some.injEq] at hp
      subst hp
      have : o = o' := Nat.eq_of_beq_eq_true hb
      subst this
      exact dataField_rep h hz
  · cases hp

section
variable {P : Program} {tab : Tab} (ht : TabOk P tab) {m : Mem} {L : Locs} {w : World}

include ht in
theorem structField_some {T : TypeId} {i o : Nat} {T' : TypeId} (h : structField tab T i = some (o, T')) :
    ∃ fields : Array Field, P.underlying T = some (.struct fields) ∧ ∃ f, fields[i]? = some f ∧ f.offset = o ∧ f.type = T' := by
  unfold structField at h
  split at h
  · rename_i fs size bytes zero ty teq hi
    obtain ⟨fields, hu, hf⟩ := under_struct ht hi rfl
    refine ⟨fields, hu, ?_⟩
    rw [← hf, List.getElem?_map] at h
    simp only [Option.map_eq_some_iff, Prod.mk.injEq] at h
    obtain ⟨f, hf', h1, h2⟩ := h
    exact ⟨f, by rw [← Array.getElem?_toList]; exact hf', h1, h2⟩
  · cases h

/-- A part of a row of cells, as a value. -/
theorem part_run {T : TypeId} {i : TInfo} (hi : tab.find T = some i) {t : Ty} {x : t.den} {c1 c2 c3 : List Value} (hf : fits i t = true) (h : RepC m t c2 x) (ht : TabOk P tab) :
    ∃ v', ARep m L (.d t x) v' ∧ (part T ⟨c1 ++ c2 ++ c3⟩ c1.length).run P w = .ok v' w := by
  obtain ⟨h1, h2⟩ := fits_size hf
  have hl := h.length
  cases ha : i.agg with
  | true =>
    refine ⟨.agg ⟨c2⟩, .d2 _ _ _ (h2 ▸ ha) h, ?_⟩
    simp only [part, Sem.run_bind, run_isAgg' ht hi, Result.andThen_ok, ha, if_true, run_sizeOf' ht hi, Sem.run_pure]
    congr 2
    simp [h1, ← hl]
  | false =>
    have ht' : t.agg = false := h2 ▸ ha
    have hs : t.size = 1 := by cases t <;> simp [Ty.agg] at ht' <;> rfl
    match c2, hl.trans hs, h with
    | [c], _, h =>
      refine ⟨c, .d1 _ _ _ ht' h, ?_⟩
      simp [part, run_isAgg' ht hi, ha]

theorem takeLeaves_rep {i : TInfo} {ls : List AV} {cs : List Value} {off : Nat} {x : AV} (h : ReL m L ls cs) (h1 : ∀ c ∈ cs, c.oneCell' = true) (hx : takeLeaves i ls off = some x) :
    ∃ c1 c2 c3, cs = c1 ++ c2 ++ c3 ∧ c1.length = off ∧ c2.length = i.size ∧ ((i.agg = true ∧ ARep m L x (.agg ⟨c2⟩)) ∨ (i.agg = false ∧ ∃ c, c2 = [c] ∧ ARep m L x c)) := by
  unfold takeLeaves at hx
  cases hb : Nat.ble (off + i.size) ls.length with
  | false => simp only [hb, cond_false, reduceCtorEq] at hx
  | true =>
    have hle : off + i.size ≤ ls.length := Nat.le_of_ble_eq_true hb
    have hlen : ((ls.drop off).take i.size).length = i.size := by simp; omega
    simp only [hb, cond_true] at hx
    have e1 : ls = ls.take off ++ ((ls.drop off).take i.size ++ (ls.drop off).drop i.size) := by
      rw [List.take_append_drop, List.take_append_drop]
    rw [e1] at h
    obtain ⟨c1, c', rfl, r1, r2⟩ := h.split
    obtain ⟨c2, c3, rfl, r2, r3⟩ := r2.split
    refine ⟨c1, c2, c3, by simp, by rw [r1.1]; simp; omega, by rw [r2.1]; exact hlen, ?_⟩
    cases ha : i.agg with
    | true =>
      simp only [ha, cond_true, Option.some.injEq] at hx
      subst hx
      exact .inl ⟨rfl, .st _ _ r2.1 (fun c hc => h1 c (by simp [hc])) r2.2⟩
    | false =>
      simp only [ha, cond_false] at hx
      split at hx
      · rename_i y hy
        simp only [Option.some.injEq] at hx
        subst hx
        rw [hy] at r2
        obtain ⟨c, cs', rfl, hc, hr⟩ := r2.head
        have : cs' = [] := List.eq_nil_of_length_eq_zero hr.1
        subst this
        exact .inr ⟨rfl, c, rfl, hc⟩
      · cases hx
end
end Go.Proofs.Am
