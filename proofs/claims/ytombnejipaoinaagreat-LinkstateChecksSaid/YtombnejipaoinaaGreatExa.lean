/-
  A program's closed runs, reckoned: an evaluator over blocks with numbers of its own (the definitions).
-/
import Derived.Orders
import Derived.Calls
import Derived.Laws.Sem
namespace Go.Ex
open Go

/-- a table by numbers -/
inductive Tr (α : Type) where
  | nil
  | node (l : Tr α) (v : Option α) (r : Tr α)

noncomputable def Tr.get {α : Type} (t : Tr α) : Nat → Option α :=
  @Tr.rec α (fun _ => Nat → Option α) (fun _ => none) (fun _ v _ il ir n => @Bool.rec (fun _ => Option α) (@Bool.rec (fun _ => Option α) (ir (Nat.div (Nat.sub n 1) 2)) (il (Nat.div n 2)) (Nat.beq (Nat.mod n 2) 1)) v (Nat.beq n 0)) t

/-- a table with one entry -/
noncomputable def Tr.one {α : Type} (x : Option α) (k : Nat) : Nat → Tr α :=
  @Nat.rec (fun _ => Nat → Tr α) (fun _ => .nil) (fun _ ih n => @Bool.rec (fun _ => Tr α) (@Bool.rec (fun _ => Tr α) (.node .nil none (ih (Nat.div (Nat.sub n 1) 2))) (.node (ih (Nat.div n 2)) none .nil) (Nat.beq (Nat.mod n 2) 1)) (.node .nil x .nil) (Nat.beq n 0)) k

noncomputable def Tr.set {α : Type} (t : Tr α) (x : Option α) : Nat → Tr α :=
  @Tr.rec α (fun _ => Nat → Tr α) (fun n => Tr.one x (Nat.succ n) n) (fun l v r il ir n => @Bool.rec (fun _ => Tr α) (@Bool.rec (fun _ => Tr α) (.node l v (ir (Nat.div (Nat.sub n 1) 2))) (.node (il (Nat.div n 2)) v r) (Nat.beq (Nat.mod n 2) 1)) (.node l x r) (Nat.beq n 0)) t

noncomputable def Tr.ofList {α : Type} : List α → Nat → Tr α → Tr α
  | [], _, t => t
  | x :: l, i, t => Tr.ofList l (Nat.succ i) (t.set (some x) i)

/-- a function's places; how many package-level variables there are; the marks of its loops over functions -/
structure Tm where
  t : Tr Value
  ng : Nat
  mks : List Nat
noncomputable def Tm.get (tm : Tm) (i : Nat) : Option Value := tm.t.get i
noncomputable def Tm.set (tm : Tm) (x : Option Value) (i : Nat) : Tm := ⟨tm.t.set x i, tm.ng, tm.mks⟩

/-- the record of a loop over a function -/
structure Lp where
  st : LoopState
  pend : Option Code
  sz : Nat
  tm : Tm
  params : List Tmp
  assign : Code
  body : Code
  dfr : Nat

/-- what a block holds -/
inductive VObj where
  | row (cells : List Value) (elem : TypeId)
  | map (entries : List MapEntry) (clock : Nat)
  | iter (map : Option Nat) (since : Nat) (seen : List Nat) (stepped : Nat)
  | siter (s : ByteArray) (pos : Nat)
  | dfr (shut : Bool)
  | loop (l : Lp)

/-- the blocks; the next number; the least number of a block written -/
structure St where
  h : Tr VObj
  n : Nat
  wm : Nat

/-- a type's row, and what it is made of -/
structure TI where
  i : TypeInfo
  u : Option TypeDesc

/-- functions whose answers are known -/
abbrev Hooks := Nat → Option (List Value → St → Option (Value × St))

structure Env where
  P : Program
  T : Tr TI
  F : Tr Func
  ng : Nat
  H : Hooks

noncomputable def envH (P : Program) (H : Hooks) : Env :=
  ⟨P, Tr.ofList (P.types.toList.map fun i => ⟨i, match i.desc with | .named _ u => (P.info? u).map (·.desc) | d => some d⟩) 0 .nil, Tr.ofList P.funcs.toList 0 .nil, P.globals.size, H⟩
noncomputable def noH : Hooks := fun _ => none
noncomputable def envOf (P : Program) : Env := envH P noH

/-- capacities from here on: not known; what is above it: the cells of an element -/
def BIG : Nat := 1180591620717411303424
/-- an unknown capacity of at least m, of elements of s cells -/
def K20 : Nat := 1048576
noncomputable def unk (m s : Nat) : Nat := Nat.add BIG (Nat.add (Nat.mul m K20) s)
/-- the capacity of an empty slice of whatever place -/
def EMP : Nat := 2361183241434822606848
noncomputable def mcV (c : Nat) : Nat := @Bool.rec (fun _ => Nat) c (Nat.div (Nat.sub c BIG) K20) (Nat.ble BIG c)
noncomputable def scV (c : Nat) : Nat := Nat.mod (Nat.sub c BIG) K20

noncomputable def ob {α β : Type} (x : Option α) (f : α → Option β) : Option β := @Option.rec α (fun _ => Option β) none f x
noncomputable def gd {β : Type} (b : Bool) (x : Option β) : Option β := @Bool.rec (fun _ => Option β) none x b

/-- a reckoning that touches no memory -/
noncomputable def pureRun {α : Type} (P : Program) : Sem α → Option α
  | .pure a => some a
  | .program k => pureRun P (k P)
  | .mark _ k => pureRun P k
  | _ => none

/-- no address in it -/
noncomputable def pl : Nat → Value → Bool
  | 0, _ => false
  | k + 1, v => match v with
    | .bool _ | .int .. | .string _ | .float .. | .nilFunc | .nilIface | .pointer none | .map none | .slice none 0 0 => true
    | .agg cs => cs.toList.all (pl k)
    | .tuple cs => cs.toList.all (pl k)
    | .iface _ v => pl k v
    | .func (.func _) a b => a.toList.all (pl k) && b.toList.all (pl k)
    | _ => false

noncomputable def typ (E : Env) (t : TypeId) : Option TI := E.T.get t
noncomputable def und (E : Env) (t : TypeId) : Option TypeDesc := ob (E.T.get t) fun i => i.u
noncomputable def sz (E : Env) (t : TypeId) : Option Nat := ob (E.T.get t) fun i => some i.i.size
noncomputable def agB : TypeDesc → Bool
  | .struct _ | .array _ _ => true
  | _ => false
/-- is it a struct or an array, and how many cells -/
noncomputable def shp (E : Env) (t : TypeId) : Option (Bool × Nat) := ob (E.T.get t) fun i => ob i.u fun u => some (agB u, i.i.size)
noncomputable def zer (E : Env) (t : TypeId) : Option Value := ob (E.T.get t) fun i => ob i.i.zero fun v => gd (pl 4 v) (some v)
noncomputable def elS (E : Env) (t : TypeId) : Option (TypeId × Nat) := ob (und E t) fun d => match d with | .slice e => ob (sz E e) fun n => some (e, n) | _ => none
noncomputable def fld (E : Env) (t : TypeId) (f : Nat) : Option Field := ob (und E t) fun d => match d with | .struct fs => fs.toList[f]? | _ => none
/-- a field's place, where it has cells -/
noncomputable def fOff (E : Env) (t : TypeId) (f : Nat) : Option Nat := ob (fld E t f) fun x => ob (sz E x.type) fun n => gd (Nat.ble 1 n) (some x.offset)


noncomputable def evO (tm : Tm) : Operand → Option Value
  | .tmp t => tm.get t
  | .const v => gd (pl 8 v) (some v)
  | .global g => gd (Nat.blt g tm.ng) (some (.pointer (some ⟨g, 0, none⟩)))
  | .func f => some (.func (.func f) #[] #[])
noncomputable def evL (tm : Tm) : List Operand → Option (List Value)
  | [] => some []
  | x :: r => ob (evO tm x) fun v => ob (evL tm r) fun l => some (v :: l)
noncomputable def evP (tm : Tm) : List (Nat × Operand) → Option (List (Nat × Value))
  | [] => some []
  | x :: r => ob (evO tm x.2) fun v => ob (evP tm r) fun l => some ((x.1, v) :: l)
/-- an operand that may be left out -/
noncomputable def evM (tm : Tm) : Option Operand → Option (Option Value)
  | none => some none
  | some x => ob (evO tm x) fun v => some (some v)

noncomputable def takeX : List Value → Nat → Nat → Option (List Value)
  | l, 0, n => match n with
    | 0 => some []
    | n + 1 => match l with
      | x :: r => ob (takeX r 0 n) fun s => some (x :: s)
      | [] => none
  | _ :: r, k + 1, n => takeX r k n
  | [], _ + 1, _ => none
noncomputable def setX : List Value → Nat → List Value → Option (List Value)
  | l, 0, vs => match vs with
    | [] => some l
    | v :: vs => match l with
      | _ :: r => ob (setX r 0 vs) fun s => some (v :: s)
      | [] => none
  | x :: r, k + 1, vs => ob (setX r k vs) fun s => some (x :: s)
  | [], _ + 1, _ => none
noncomputable def rep (zero : List Value) : Nat → List Value
  | 0 => []
  | n + 1 => zero ++ rep zero n

noncomputable def newV (S : St) (o : VObj) : St := ⟨S.h.set (some o) S.n, Nat.succ S.n, S.wm⟩
noncomputable def putV (S : St) (i : Nat) (o : VObj) : St := ⟨S.h.set (some o) i, S.n, @Bool.rec (fun _ => Nat) S.wm i (Nat.ble i S.wm)⟩
noncomputable def killV (S : St) (i : Nat) : St := ⟨S.h.set none i, S.n, @Bool.rec (fun _ => Nat) S.wm i (Nat.ble i S.wm)⟩

noncomputable def rowV (S : St) (i : Nat) : Option (List Value × TypeId) := ob (S.h.get i) fun o => match o with | .row cs e => some (cs, e) | _ => none
noncomputable def mapV (S : St) (i : Nat) : Option (List MapEntry × Nat) := ob (S.h.get i) fun o => match o with | .map es c => some (es, c) | _ => none

/-- a plain place -/
noncomputable def adr : Value → Option (Nat × Nat)
  | .pointer (some ⟨i, off, none⟩) => some (i, off)
  | _ => none

noncomputable def intV : Value → Option Int
  | .int _ n => some n
  | _ => none

noncomputable def ldV (S : St) (sh : Bool × Nat) (a : Value) : Option Value :=
  ob (adr a) fun p => ob (rowV S p.1) fun r => @Bool.rec (fun _ => Option Value) (r.1[p.2]?) (ob (takeX r.1 p.2 sh.2) fun l => some (.agg ⟨l⟩)) sh.1
noncomputable def stV (S : St) (n : Nat) (a v : Value) : Option St :=
  ob (adr a) fun p => ob (rowV S p.1) fun r => gd (Nat.beq v.cells.toList.length n && v.cells.toList.all (·.oneCell')) (ob (setX r.1 p.2 v.cells.toList) fun cs => some (putV S p.1 (.row cs r.2)))

noncomputable def partV (E : Env) (t : TypeId) (cs : List Value) (off : Nat) : Option Value :=
  ob (shp E t) fun s => @Bool.rec (fun _ => Option Value) (cs[off]?) (ob (takeX cs off s.2) fun l => some (.agg ⟨l⟩)) s.1

noncomputable def fillV (place : Nat → Option (Nat × Nat)) : List Value → List (Nat × Value) → Option (List Value)
  | cells, [] => some cells
  | cells, (i, v) :: rest => ob (place i) fun p => gd (Nat.beq v.cells.toList.length p.2) (ob (setX cells p.1 v.cells.toList) fun c => fillV place c rest)

noncomputable def places (E : Env) : List Field → Option (List (Nat × Nat))
  | [] => some []
  | f :: r => ob (sz E f.type) fun n => ob (places E r) fun l => some ((f.offset, n) :: l)

/-- the cells of a slice's or a string's elements -/
noncomputable def cellsOfV (S : St) (size : Nat) : Value → Option (List Value)
  | .slice none _ _ => some []
  | .slice (some ⟨i, off, none⟩) n _ => ob (rowV S i) fun r => takeX r.1 off (Nat.mul n size)
  | .string s => gd (Nat.beq size 1) (some (s.data.toList.map fun b => .int .u8 b.toNat))
  | _ => none

noncomputable def boundV (y : Nat) (v : Value) : Option Nat := ob (intV v) fun i => gd (decide (0 ≤ i ∧ i ≤ (y : Int))) (some i.toNat)
noncomputable def boundO (y : Nat) (d : Nat) : Option Value → Option Nat
  | none => some d
  | some v => boundV y v

noncomputable def adO (a : Option Addr) (k : Nat) : Option Addr := a.map (·.add k)

/-- the bounds of a slice -/
noncomputable def boundsV (len cap : Nat) (lo hi mx : Option Value) : Option (Nat × Nat × Nat) :=
  ob (boundO cap cap mx) fun m => gd (mx.isNone || hi.isSome) (ob (boundO m len hi) fun h => ob (boundO h 0 lo) fun l => some (l, h, m))
/-- slicing -/
noncomputable def sliceV (E : Env) (t : TypeId) (x : Value) (lo hi mx : Option Value) : Option Value :=
  ob (und E t) fun d => match d, x with
  | .string, .string s => gd mx.isNone (ob (boundsV s.size s.size lo hi none) fun b => some (.string (s.extract b.1 b.2.1)))
  | .slice elem, .slice none _ c => gd (Nat.beq c 0) (ob (sz E elem) fun _ => ob (boundsV 0 0 lo hi mx) fun _ => some (.slice none 0 0))
  | .slice elem, .slice (some ⟨i, off, none⟩) len cap => ob (sz E elem) fun size =>
    @Bool.rec (fun _ => Option Value)
      (ob (boundsV len cap lo hi mx) fun b => some (.slice (some ⟨i, @Bool.rec (fun _ => Nat) (Nat.add off (Nat.mul b.1 size)) off (Nat.beq b.2.2 b.1), none⟩) (Nat.sub b.2.1 b.1) (Nat.sub b.2.2 b.1)))
      (gd (Nat.blt cap EMP && Nat.beq (scV cap) size) (ob (boundsV len (mcV cap) lo hi mx) fun b => @Bool.rec (fun _ => Option Value)
        (gd (Nat.blt b.1 b.2.2 && Nat.blt b.2.2 BIG) (some (.slice (some ⟨i, Nat.add off (Nat.mul b.1 size), none⟩) (Nat.sub b.2.1 b.1) (Nat.sub b.2.2 b.1))))
        (@Bool.rec (fun _ => Option Value) (gd (Nat.beq b.2.1 b.1) (some (.slice none 0 EMP)))
          (some (.slice (some ⟨i, Nat.add off (Nat.mul b.1 size), none⟩) (Nat.sub b.2.1 b.1) (unk (Nat.sub (mcV cap) b.1) size))) (Nat.beq b.1 0 || Nat.blt b.1 (mcV cap)))
        mx.isNone))
      (Nat.ble BIG cap)
  | .array n elem, .pointer (some ⟨i, off, none⟩) => ob (sz E elem) fun size => gd (Nat.blt n BIG) (ob (boundsV n n lo hi mx) fun b =>
    some (.slice (some ⟨i, @Bool.rec (fun _ => Nat) (Nat.add off (Nat.mul b.1 size)) off (Nat.beq b.2.2 b.1), none⟩) (Nat.sub b.2.1 b.1) (Nat.sub b.2.2 b.1)))
  | _, _ => none

/-- a result without an address -/
noncomputable def plR (x : Option Value) : Option Value := ob x fun v => gd (pl 4 v) (some v)

/-- a comparison with nil -/
noncomputable def nilEq : TypeDesc → Value → Value → Bool
  | .slice _, .slice none 0 0, .slice (some _) _ _ | .slice _, .slice (some _) _ _, .slice none 0 0 => true
  | .map _ _, .map none, .map (some _) | .map _ _, .map (some _), .map none => true
  | .pointer _, .pointer none, .pointer (some _) | .pointer _, .pointer (some _), .pointer none => true
  | .func _ _ _, .nilFunc, .func _ _ _ | .func _ _ _, .func _ _ _, .nilFunc => true
  | .interface _, .nilIface, .iface _ _ | .interface _, .iface _ _, .nilIface => true
  | _, _, _ => false
noncomputable def binV (E : Env) (op : BinOp) (t : TypeId) (x y : Operand) (a b : Value) : Option Value :=
  @Bool.rec (fun _ => Option Value)
    (ob (und E t) fun d => match op with
      | .eql => gd (nilEq d a b) (some (.bool false))
      | .neq => gd (nilEq d a b) (some (.bool true))
      | _ => none)
    (plR (pureRun E.P (do eqGuard op t x y a b; binOp op t a b)))
    (pl 4 a && pl 4 b)

/-- operations that touch no memory -/
noncomputable def isPure (E : Env) : Op → Bool
  | .move _ | .assign _ | .pick .. | .build .. | .nilCheck _ | .binOp .. | .unOp .. | .fieldAddr .. | .field .. | .indexAddr .. | .index .. | .slice ..
  | .makeInterface .. | .makeFunc .. | .extract .. => true
  | .convert s d _ => match und E s, und E d with
    | some (.int _), some (.int _) => true
    | some .string, some .string => true
    | _, _ => false
  | .call { callee := .builtin b, argTypes, .. } => match b with
    | .len => match und E (argTypes.toList.getD 0 0) with | some .string | some (.slice _) | some (.array ..) => true | _ => false
    | .cap | .min | .max => true
    | _ => false
  | _ => false

noncomputable def pureV (E : Env) (tm : Tm) : Op → Option Value
  | .move x | .assign x => evO tm x
  | .pick c a b => ob (evO tm c) fun v => match v with | .bool true => evO tm a | .bool false => evO tm b | _ => none
  | .build t parts => ob (zer E t) fun z => ob (evP tm parts.toList) fun ps => ob (und E t) fun d => match d with
    | .struct fs => ob (places E fs.toList) fun pl => ob (fillV (fun i => pl[i]?) z.cells.toList ps) fun cs => some (.agg ⟨cs⟩)
    | .array _ e => ob (sz E e) fun size => ob (fillV (fun i => some (Nat.mul i size, size)) z.cells.toList ps) fun cs => some (.agg ⟨cs⟩)
    | _ => none
  | .nilCheck x => ob (evO tm x) fun v => match v with
    | .pointer (some a) => some (.pointer (some a))
    | .func (.func f) a b => some (.func (.func f) a b)
    | _ => none
  | .binOp op t x y _ => ob (evO tm x) fun a => ob (evO tm y) fun b => binV E op t x y a b
  | .unOp op _ x => ob (evO tm x) fun v => gd (pl 2 v) (plR (pureRun E.P (Op.unary op v)))
  | .convert s d x => ob (evO tm x) fun v => gd (pl 2 v) (plR (pureRun E.P (convert s d v)))
  | .makeInterface t x => ob (und E t) fun d => match d with | .interface _ => none | _ => ob (evO tm x) fun v => some (.iface t v)
  | .makeFunc fn a b => match fn with
    | .func f => ob (evL tm a.toList) fun a => ob (evL tm b.toList) fun b => some (.func (.func f) ⟨a⟩ ⟨b⟩)
    | _ => none
  | .fieldAddr t x f => ob (fOff E t f) fun o => ob (evO tm x) fun v => ob (adr v) fun p => some (.pointer (some ⟨p.1, Nat.add p.2 o, none⟩))
  | .field t x f => ob (fld E t f) fun g => ob (evO tm x) fun v => match v with | .agg cs => partV E g.type cs.toList g.offset | _ => none
  | .indexAddr t x i => ob (evO tm i) fun iv => ob (intV iv) fun i => ob (evO tm x) fun v => ob (und E t) fun d => match d, v with
    | .array len e, .pointer (some ⟨b, off, none⟩) => gd (decide (0 ≤ i ∧ i < (len : Int))) (ob (sz E e) fun n => some (.pointer (some ⟨b, Nat.add off (Nat.mul i.toNat n), none⟩)))
    | .slice e, .slice (some ⟨b, off, none⟩) len _ => gd (decide (0 ≤ i ∧ i < (len : Int))) (ob (sz E e) fun n => some (.pointer (some ⟨b, Nat.add off (Nat.mul i.toNat n), none⟩)))
    | _, _ => none
  | .index t x i => ob (evO tm i) fun iv => ob (intV iv) fun i => ob (evO tm x) fun v => ob (und E t) fun d => match d, v with
    | .array len e, .agg cs => gd (decide (0 ≤ i ∧ i < (len : Int))) (ob (sz E e) fun n => partV E e cs.toList (Nat.mul i.toNat n))
    | .string, .string s => gd (decide (0 ≤ i)) (ob (s.data.toList[i.toNat]?) fun b => some (.int .u8 b.toNat))
    | _, _ => none
  | .slice t x lo hi mx => ob (evO tm x) fun v => ob (evM tm lo) fun l => ob (evM tm hi) fun h => ob (evM tm mx) fun m => sliceV E t v l h m
  | .extract t i => ob (evO tm t) fun v => match v with | .tuple vs => vs.toList[i]? | _ => none
  | .call { callee := .builtin b, args, argTypes } => ob (evL tm args.toList) fun vs => match b, vs with
    | .len, [x] => ob (argTypes.toList[0]?) fun t => ob (und E t) fun d => match d, x with
      | .string, .string s => some (goInt s.size)
      | .array n _, _ => some (goInt n)
      | .slice _, .slice _ n _ => some (goInt n)
      | _, _ => none
    | .cap, [.slice _ _ c] => ob (argTypes.toList[0]?) fun t => ob (und E t) fun d => match d with | .slice _ => gd (Nat.blt c BIG) (some (goInt c)) | _ => none
    | .min, vs => gd (vs.all (pl 2)) (plR (pureRun E.P (Builtin.min_ argTypes 0 ⟨vs⟩)))
    | .max, vs => gd (vs.all (pl 2)) (plR (pureRun E.P (Builtin.max_ argTypes 0 ⟨vs⟩)))
    | _, _ => none
  | _ => none

/-- what is appended -/
noncomputable def newCells (E : Env) (S : St) (e : TypeId × Nat) (t2 : TypeId) (x : Value) : Option (List Value) :=
  ob (und E t2) fun d2 => match d2 with
  | .int _ => ob (typ E e.1) fun ti => ob (zer E e.1) fun z => ob (intV x) fun k => gd (decide (0 ≤ k ∧ k ≤ 100000 ∧ ti.i.bytes ≤ 100000) && Nat.beq z.cells.toList.length e.2) (some (rep z.cells.toList k.toNat))
  | _ => cellsOfV S e.2 x

noncomputable def appendV (E : Env) (S : St) (t t2 : TypeId) (s x : Value) : Option (Value × St) :=
  ob (elS E t) fun e => ob (typ E e.1) fun ti => ob (zer E e.1) fun z => gd (Nat.ble 1 e.2 && Nat.blt e.2 K20 && Nat.ble ti.i.bytes 100000 && Nat.beq z.cells.toList.length e.2) (match s with
  | .slice base len cap => gd (Nat.blt cap EMP) (ob (newCells E S e t2 x) fun new => gd (new.all (·.oneCell') && Nat.beq (Nat.mul (Nat.div new.length e.2) e.2) new.length && Nat.ble new.length 100000 && Nat.ble len 100000) (
    @Bool.rec (fun _ => Option (Value × St))
      (ob (cellsOfV S e.2 s) fun old =>
        @Bool.rec (fun _ => Option (Value × St))
          (some (.slice (some ⟨S.n, 0, none⟩) (Nat.add len (Nat.div new.length e.2)) (unk (Nat.add len (Nat.div new.length e.2)) e.2), newV S (.row (old ++ new) e.1)))
          (match base with
            | some a => ob (rowV S a.block) fun r => gd (Nat.beq (scV cap) e.2 && Nat.beq r.2 e.1) (some (.slice (some ⟨S.n, 0, none⟩) (Nat.add len (Nat.div new.length e.2)) (unk (Nat.add len (Nat.div new.length e.2)) e.2), killV (newV S (.row (old ++ new) e.1)) a.block))
            | none => none) (Nat.ble BIG cap))
      (match new with
        | [] => some (s, S)
        | _ :: _ => match base with
          | none => none
          | some a => ob (rowV S a.block) fun r => gd a.spot.isNone (ob (setX r.1 (Nat.add a.off (Nat.mul len e.2)) new) fun cs => some (.slice base (Nat.add len (Nat.div new.length e.2)) cap, putV S a.block (.row cs r.2))))
      (Nat.ble (Nat.add len (Nat.div new.length e.2)) (mcV cap))))
  | _ => none)

noncomputable def keyB (E : Env) (empty : Bool) (kt : TypeId) (k : Value) : Bool := pl 4 k && (pureRun E.P (Instr.checkKey empty 10000 kt k)).isSome
noncomputable def findV (E : Env) (kt : TypeId) (k : Value) (es : List MapEntry) : Option (Option (Nat × Value)) := pureRun E.P (Instr.findKey kt k es)
noncomputable def mapT (E : Env) (t : TypeId) : Option (TypeId × TypeId) := ob (und E t) fun d => match d with | .map k e => some (k, e) | _ => none
noncomputable def mref : Value → Option Nat
  | .map (some r) => some r
  | _ => none

/-- operations that touch memory -/
noncomputable def heapV (E : Env) (tm : Tm) (S : St) : Op → Option (Value × St)
  | .alloc t => ob (zer E t) fun z => some (.pointer (some ⟨S.n, 0, none⟩), newV S (.row z.cells.toList t))
  | .box t x => ob (evO tm x) fun v => some (.pointer (some ⟨S.n, 0, none⟩), newV S (.row v.cells.toList t))
  | .buildSlice t len parts => ob (elS E t) fun e => ob (zer E e.1) fun z => ob (evP tm parts.toList) fun ps => gd (Nat.ble (Nat.mul len e.2) 16777216 && Nat.beq z.cells.toList.length e.2 && Nat.ble len 16777216) (
    ob (fillV (fun i => some (Nat.mul i e.2, e.2)) (rep z.cells.toList len) ps) fun cs => some (.slice (some ⟨S.n, 0, none⟩) len len, newV S (.row cs e.1)))
  | .load t a => ob (shp E t) fun s => ob (evO tm a) fun v => ob (ldV S s v) fun r => some (r, S)
  | .store t a x => ob (sz E t) fun n => ob (evO tm a) fun p => ob (evO tm x) fun v => ob (stV S n p v) fun S => some (undef, S)
  | .makeMap t r => ob (mapT E t) fun _ => ob (match r with | none => some 0 | some x => ob (evO tm x) fun v => intV v) fun _ => some (.map (some S.n), newV S (.map [] 0))
  | .makeSlice t l c => ob (elS E t) fun e => ob (typ E e.1) fun ti => ob (zer E e.1) fun z => ob (evO tm l) fun l => ob (intV l) fun l => ob (evO tm c) fun c => ob (intV c) fun c =>
    gd (decide (0 ≤ l ∧ l ≤ c ∧ c ≤ 100000 ∧ ti.i.bytes ≤ 100000) && Nat.beq z.cells.toList.length e.2) (some (.slice (some ⟨S.n, 0, none⟩) l.toNat c.toNat, newV S (.row (rep z.cells.toList c.toNat) e.1)))
  | .lookup t x k ok => ob (mapT E t) fun m => ob (evO tm k) fun k => ob (evO tm x) fun x => ob (match x with | .map none => some [] | .map (some r) => ob (mapV S r) fun e => some e.1 | _ => none) fun es =>
    gd (keyB E es.isEmpty m.1 k) (ob (findV E m.1 k es) fun f => match f with
      | some (_, v) => some (@Bool.rec (fun _ => Value) v (.tuple #[v, .bool true]) ok, S)
      | none => ob (zer E m.2) fun v => some (@Bool.rec (fun _ => Value) v (.tuple #[v, .bool false]) ok, S))
  | .mapUpdate t m k x | .insert t m k x => ob (mapT E t) fun ty => ob (evO tm m) fun m => ob (mref m) fun r => ob (evO tm k) fun k => ob (evO tm x) fun v => ob (mapV S r) fun e =>
    gd (keyB E false ty.1 k) (ob (findV E ty.1 k e.1) fun f => match f with
      | some (i, _) => gd (Instr.sameBits 10000 (((e.1[i]?).map (·.key)).getD k) k) (some (undef, putV S r (.map (e.1.modify i fun e => { e with key := k, val := v }) e.2)))
      | none => some (undef, putV S r (.map (e.1 ++ [{ key := k, val := v, born := e.2 }]) (Nat.succ e.2))))
  | .mapEntry t m k => ob (mapT E t) fun ty => ob (evO tm m) fun m => ob (mref m) fun r => ob (evO tm k) fun k => ob (mapV S r) fun e =>
    gd (keyB E false ty.1 k) (ob (findV E ty.1 k e.1) fun f => match f with
      | some (i, v) => gd (Instr.sameBits 10000 (((e.1[i]?).map (·.key)).getD k) k) (some (.tuple #[v, goInt (((e.1[i]?).map (·.born)).getD 0)], putV S r (.map (e.1.modify i fun e => { e with key := k }) e.2)))
      | none => ob (zer E ty.2) fun z => some (.tuple #[z, goInt e.2], putV S r (.map (e.1 ++ [{ key := k, val := z, born := e.2 }]) (Nat.succ e.2))))
  | .entryStore _ m s x => ob (evO tm m) fun m => ob (mref m) fun r => ob (evO tm s) fun s => ob (intV s) fun b => ob (evO tm x) fun v => ob (mapV S r) fun e =>
    ob (e.1.findIdx? fun e => (e.born : Int) == b) fun i => some (undef, putV S r (.map (e.1.modify i fun e => { e with val := v }) e.2))
  | .range t x => ob (und E t) fun d => ob (evO tm x) fun x => match d, x with
    | .string, .string s => some (.pointer (some ⟨S.n, 0, none⟩), newV S (.siter s 0))
    | .map _ _, .map none => some (.pointer (some ⟨S.n, 0, none⟩), newV S (.iter none 0 [] 0))
    | .map _ _, .map (some m) => ob (mapV S m) fun e => some (.pointer (some ⟨S.n, 0, none⟩), newV S (.iter (some m) e.2 [] e.2))
    | _, _ => none
  | .next it isS => ob (evO tm it) fun it => ob (adr it) fun p => gd (Nat.beq p.2 0) (ob (S.h.get p.1) fun o => match o, isS with
    | .siter s pos, true => @Bool.rec (fun _ => Option (Value × St)) (some (.tuple #[.bool false], S))
      (some (.tuple #[.bool true, goInt pos, .int .i32 (Utf8.decode s pos).1], putV S p.1 (.siter s (Nat.add pos (Utf8.decode s pos).2)))) (Nat.blt pos s.size)
    | .iter none _ _ _, false => some (.tuple #[.bool false], S)
    | .iter (some m) since seen last, false => ob (mapV S m) fun e =>
      gd (seen.isEmpty || e.1.isEmpty || !(e.1.all fun x => Nat.ble last x.born)) (match e.1.filter fun x => !seen.contains x.born with
      | [] => some (.tuple #[.bool false], S)
      | [x] => gd (Nat.blt x.born since) (some (.tuple #[.bool true, x.key, x.val], putV S p.1 (.iter (some m) since (seen ++ [x.born]) e.2)))
      | _ => none)
    | _, _ => none)
  | .entry it => ob (evO tm it) fun it => ob (adr it) fun p => gd (Nat.beq p.2 0) (ob (S.h.get p.1) fun o => match o with
    | .iter (some m) _ seen stepped => ob (mapV S m) fun e => gd (Nat.beq e.2 stepped) (ob seen.getLast? fun b => ob (e.1.find? fun x => x.born == b) fun x => some (.tuple #[x.key, x.val], S))
    | _ => none)
  | .convert s d x => ob (und E s) fun s => ob (und E d) fun d => match s, d with
    | .slice e, .string => ob (und E e) fun e => match e with
      | .int .u8 => ob (evO tm x) fun v => ob (match v with | .slice _ _ _ => cellsOfV S 1 v | _ => none) fun cs => ob (bytesV cs) fun bs => some (.string ⟨⟨bs⟩⟩, S)
      | _ => none
    | .string, .slice e => ob (und E e) fun e' => match e' with
      | .int .u8 => ob (evO tm x) fun v => match v with
        | .string s => gd (Nat.ble s.size 100000) (some (.slice (some ⟨S.n, 0, none⟩) s.size (unk s.size 1), newV S (.row (s.data.toList.map fun b => .int .u8 b.toNat) e)))
        | _ => none
      | _ => none
    | _, _ => none
  | .call { callee := .builtin b, args, argTypes } => ob (evL tm args.toList) fun vs => match b, vs with
    | .len, [x] => ob (argTypes.toList[0]?) fun t => ob (mapT E t) fun _ => match x with
      | .map none => some (goInt 0, S)
      | .map (some r) => ob (mapV S r) fun e => some (goInt e.1.length, S)
      | _ => none
    | .append, [s, x] => ob (argTypes.toList[0]?) fun t => ob (argTypes.toList[1]?) fun t2 => appendV E S t t2 s x
    | .copy, [.slice base dl _, x] => ob (argTypes.toList[0]?) fun t => ob (elS E t) fun e => gd (Nat.ble 1 e.2) (ob (cellsOfV S e.2 x) fun src =>
      match base with
      | none => some (goInt 0, S)
      | some a => ob (rowV S a.block) fun r => gd (a.spot.isNone && src.all (·.oneCell') && Nat.beq (Nat.mul (Nat.div src.length e.2) e.2) src.length) (ob (setX r.1 a.off (src.take (Nat.mul (Nat.min (Nat.div src.length e.2) dl) e.2))) fun cs => some (goInt (Nat.min (Nat.div src.length e.2) dl), putV S a.block (.row cs r.2))))
    | .clear, [.slice base dl _] => ob (argTypes.toList[0]?) fun t => ob (elS E t) fun e => ob (zer E e.1) fun z => gd (Nat.beq z.cells.toList.length e.2 && z.cells.toList.all (·.oneCell')) (match base with
      | none => some (.tuple #[], S)
      | some a => ob (rowV S a.block) fun r => gd a.spot.isNone (ob (setX r.1 a.off (rep z.cells.toList dl)) fun cs => some (.tuple #[], putV S a.block (.row cs r.2))))
    | .delete, [m, k] => ob (argTypes.toList[0]?) fun t => ob (mapT E t) fun ty => ob (mref m) fun r => ob (mapV S r) fun e => gd (keyB E e.1.isEmpty ty.1 k) (ob (findV E ty.1 k e.1) fun f => match f with
      | some (i, _) => some (.tuple #[], putV S r (.map (e.1.eraseIdx i) e.2))
      | none => some (.tuple #[], putV S r (.map e.1 e.2)))
    | _, _ => none
  | _ => none
where
  bytesV : List Value → Option (List UInt8)
    | [] => some []
    | .int .u8 n :: r => ob (bytesV r) fun l => some (UInt8.ofNat n.toNat :: l)
    | _ :: _ => none

/-- what is called -/
inductive CT where
  | fn (f : FuncId) (args : List Value)
  | yld (l : Nat) (args : List Value)
noncomputable def callV (tm : Tm) : Op → Option CT
  | .call { callee := .value f, args, .. } => ob (evO tm f) fun g => ob (evL tm args.toList) fun vs => match g with
    | .func (.func g) first cap => some (.fn g (first.toList ++ (vs ++ cap.toList)))
    | .func (.yield l) _ _ => some (.yld l vs)
    | _ => none
  | _ => none

inductive X where
  | normal | exit (id : Nat) | ret

noncomputable def isCall : Op → Bool
  | .call { callee := .value _, .. } => true
  | _ => false

/-- is the operation carried out -/
noncomputable def wantV (ops : Array Oper) (tm : Tm) (o : Oper) : Option Bool :=
  match o.guard with
  | none => some true
  | some (j, b) => ob (ops.toList[j]?) fun p => ob p.dst fun d => ob (tm.get d) fun v => match v with
    | .bool c => some (c == b)
    | .tuple _ => some false
    | _ => none

noncomputable def putT (sz : Nat) (tm : Tm) (d : Option Tmp) (v : Value) : Option Tm :=
  match d with
  | none => some tm
  | some d => gd (Nat.blt d sz) (some (tm.set (some v) d))

noncomputable def resV (E : Env) (tm : Tm) (S : St) : List ResultVar → Option (List Value)
  | [] => some []
  | .tmp t :: r => ob (tm.get t) fun v => ob (resV E tm S r) fun l => some (v :: l)
  | .cell a t :: r => ob (tm.get a) fun p => ob (shp E t) fun s => ob (ldV S s p) fun v => ob (resV E tm S r) fun l => some (v :: l)
noncomputable def oneV : List Value → Value
  | [v] => v
  | l => .tuple ⟨l⟩

/-- the edges that bind -/
noncomputable def eB (e : Edge) : Bool := match e.ground with
  | .textOnly _ => false
  | .gcOnly _ => false
  | _ => true
noncomputable def bitB (m i : Nat) : Bool := Nat.beq (Nat.land (Nat.shiftRight m i) 1) 1
noncomputable def maskE (acc : List Nat) : List Edge → Nat
  | [] => 0
  | e :: r => @Bool.rec (fun _ => Nat) (maskE acc r) (Nat.lor (Nat.pow 2 e.on) (Nat.lor (acc.getD e.on 0) (maskE acc r))) (eB e)
noncomputable def masksG : List Oper → List Nat → List Nat
  | [], acc => acc
  | o :: r, acc => masksG r (acc ++ [maskE acc o.after.toList])
/-- the numbers of the operations ahead of each, as bits -/
noncomputable def masks (ops : Array Oper) : List Nat := masksG ops.toList []
noncomputable def isLoad : Op → Bool
  | .load _ _ => true
  | _ => false
noncomputable def isAl : Op → Bool
  | .alloc _ => true
  | _ => false
/-- one that touches memory, before or behind which every other such one comes, the loads set apart, and the new variables that the list makes later -/
noncomputable def barr (E : Env) (ops : Array Oper) (i : Nat) : Bool := (match ops.toList[i]? with | some o => !isAl o.op | none => true) && (List.range ops.size).all fun j => Nat.beq i j || (match ops.toList[j]? with | some o => isPure E o.op || isLoad o.op || (isAl o.op && Nat.blt i j) | none => true) || bitB ((masks ops).getD i 0) j || bitB ((masks ops).getD j 0) i
noncomputable def tmpsOf (o : Oper) (ops : Array Oper) : List Tmp :=
  (o.op.operands.toList.filterMap fun | .tmp t => some t | _ => none) ++ (match o.guard with | some (g, _) => ((ops.toList[g]?).bind (·.dst)).toList | none => [])
/-- what an operation looks at has been made ahead of it; no place is written twice; the edges lead back -/
noncomputable def regB (ops : Array Oper) : Bool :=
  (List.range ops.size).all fun i => match ops.toList[i]? with
  | none => false
  | some o => (o.after.toList.all fun e => !eB e || Nat.blt e.on i) && ((List.range ops.size).all fun j => Nat.beq i j || (match (ops.toList[j]?).bind (·.dst) with
    | none => true
    | some d => !(o.dst == some d) && (!((tmpsOf o ops).contains d) || bitB ((masks ops).getD i 0) j || bitB ((masks ops).getD j 0) i)))
/-- only the places that an operation looks at -/
noncomputable def cutL (t : Tr Value) : List Tmp → Tr Value
  | [] => .nil
  | d :: r => (cutL t r).set (t.get d) d
noncomputable def cutT (ts : List Tmp) (tm : Tm) : Tm := ⟨cutL tm.t ts, tm.ng, tm.mks⟩

/-- the blocks from n on that a value leads to -/
noncomputable def addrsOf : Nat → Value → List Nat
  | 0, _ => []
  | k + 1, v => match v with
    | .pointer (some a) => [a.block]
    | .slice (some a) _ _ => [a.block]
    | .map (some r) => [r]
    | .agg cs => cs.toList.flatMap (addrsOf k)
    | .tuple cs => cs.toList.flatMap (addrsOf k)
    | .iface _ v => addrsOf k v
    | .func (.yield l) _ _ => [l]
    | .func _ a b => a.toList.flatMap (addrsOf k) ++ b.toList.flatMap (addrsOf k)
    | _ => []
noncomputable def addrsObj : VObj → List Nat
  | .row cs _ => cs.flatMap (addrsOf 4)
  | .map es _ => es.flatMap fun e => addrsOf 4 e.val
  | .iter m _ _ _ => m.toList
  | .siter .. => []
  | .dfr _ => []
  | .loop l => [l.dfr]
noncomputable def collect (lo hi : Nat) : Nat → Tr VObj → List Nat → List (Nat × VObj) → Option (List (Nat × VObj))
  | _, _, [], acc => some acc
  | 0, _, _ :: _, _ => none
  | k + 1, h, i :: r, acc => @Bool.rec (fun _ => Option (List (Nat × VObj))) (collect lo hi k h r acc)
    (match h.get i with
      | none => collect lo hi k h r acc
      | some o => collect lo hi k (h.set none i) (addrsObj o ++ r) ((i, o) :: acc)) (Nat.ble lo i && Nat.blt i hi)
noncomputable def addAll : List (Nat × VObj) → Tr VObj → Tr VObj
  | [], h => h
  | (i, o) :: r, h => addAll r (h.set (some o) i)

/-- an operation of the segment that made blocks -/
structure Mk where
  i : Nat
  v : Value
  lo : Nat
  hi : Nat
  h : Tr VObj
/-- a load -/
structure Rd where
  i : Nat
  s : Bool × Nat
  a : Value
  v : Value
structure DS where
  tm : Tm
  C : St
  hm : Tr VObj
  L : List Mk
  R : List Rd
  B : List (Nat × Tr VObj)

/-- surely the same -/
noncomputable def eqV : Nat → Value → Value → Bool
  | 0, _, _ => false
  | k + 1, v, w => match v, w with
    | .bool a, .bool b => a == b
    | .int a m, .int b n => decide (a = b) && decide (m = n)
    | .string a, .string b => decide (a = b)
    | .nilFunc, .nilFunc | .nilIface, .nilIface | .pointer none, .pointer none | .map none, .map none => true
    | .pointer (some ⟨i, o, none⟩), .pointer (some ⟨j, p, none⟩) => Nat.beq i j && Nat.beq o p
    | .map (some i), .map (some j) => Nat.beq i j
    | .slice none a b, .slice none c d => Nat.beq a c && Nat.beq b d
    | .slice (some ⟨i, o, none⟩) a b, .slice (some ⟨j, p, none⟩) c d => Nat.beq i j && Nat.beq o p && Nat.beq a c && Nat.beq b d
    | .iface s a, .iface t b => Nat.beq s t && eqV k a b
    | .agg as, .agg bs => eqL (eqV k) as.toList bs.toList
    | _, _ => false
where
  eqL (f : Value → Value → Bool) : List Value → List Value → Bool
    | [], [] => true
    | a :: as, b :: bs => f a b && eqL f as bs
    | _, _ => false
noncomputable def eqO (x : Option Value) (v : Value) : Bool := match x with | some u => eqV 6 u v | none => false

noncomputable def visible (mask : Nat) : List Mk → Tr VObj → Option (Tr VObj)
  | [], h => some h
  | m :: r, h => ob (visible mask r h) fun h => @Bool.rec (fun _ => Option (Tr VObj)) (some h) (ob (collect m.lo m.hi 100000 m.h (addrsOf 4 m.v) []) fun l => some (addAll l h)) (bitB mask m.i)

/-- a load that is carried out -/
noncomputable def loadStep (E : Env) (sz : Nat) (ops : Array Oper) (i : Nat) (o : Oper) (D : DS) (t : TypeId) (a : Operand) : Option DS :=
  ob (shp E t) fun s => ob (evO (cutT (tmpsOf o ops) D.tm) a) fun p => ob (ldV D.C s p) fun v =>
    gd (D.B.all fun b => bitB ((masks ops).getD i 0) b.1 || eqO (ldV ⟨b.2, 0, 0⟩ s p) v) (ob (putT sz D.tm o.dst v) fun tm => some ⟨tm, D.C, D.hm, D.L, ⟨i, s, p, v⟩ :: D.R, D.B⟩)

noncomputable def drawStep (E : Env) (sz : Nat) (run : Oper → Tm → St → Option (Value × St)) (ops : Array Oper) (i : Nat) (o : Oper) (D : DS) : Option DS :=
  ob (wantV ops (cutT (tmpsOf o ops) D.tm) o) fun w => @Bool.rec (fun _ => Option DS)
    (ob (putT sz D.tm o.dst undef) fun tm => some ⟨tm, D.C, D.hm, D.L, D.R, D.B⟩)
    (@Bool.rec (fun _ => Option DS)
      (match o.op with
      | .load t a => loadStep E sz ops i o D t a
      | _ => @Bool.rec (fun _ => Option DS)
        (ob (@Bool.rec (fun _ => Option (Tr VObj)) (visible ((masks ops).getD i 0) D.L D.hm) (some D.C.h) (D.L.all fun m => bitB ((masks ops).getD i 0) m.i)) fun h =>
          ob (run o (cutT (tmpsOf o ops) D.tm) ⟨h, D.C.n, BIG⟩) fun r => gd (Nat.ble D.C.n r.2.wm && Nat.ble D.C.n r.2.n) (ob (putT sz D.tm o.dst r.1) fun tm =>
            @Bool.rec (fun _ => Option DS)
              (ob (ob (collect D.C.n r.2.n 100000 r.2.h (addrsOf 4 r.1) []) fun l => some (addAll l D.C.h)) fun h' =>
                some ⟨tm, ⟨h', r.2.n, D.C.wm⟩, D.hm, ⟨i, r.1, D.C.n, r.2.n, r.2.h⟩ :: D.L, D.R, D.B⟩)
              (some ⟨tm, D.C, D.hm, D.L, D.R, D.B⟩)
              (Nat.beq D.C.n r.2.n)))
        (ob (run o (cutT (tmpsOf o ops) D.tm) D.C) fun r => gd (Nat.ble D.C.n r.2.n && D.R.all fun x => bitB ((masks ops).getD i 0) x.i || eqO (ldV r.2 x.s x.a) x.v) (ob (putT sz D.tm o.dst r.1) fun tm => some ⟨tm, r.2, r.2.h, [], D.R, (i, D.C.h) :: D.B⟩))
        (barr E ops i))
      (ob (pureV E (cutT (tmpsOf o ops) D.tm) o.op) fun v => ob (putT sz D.tm o.dst v) fun tm => some ⟨tm, D.C, D.hm, D.L, D.R, D.B⟩)
      (isPure E o.op)) w
noncomputable def drawAll (E : Env) (sz : Nat) (run : Oper → Tm → St → Option (Value × St)) (ops : Array Oper) : Nat → List Oper → DS → Option DS
  | _, [], D => some D
  | i, o :: r, D => ob (drawStep E sz run ops i o D) fun D => drawAll E sz run ops (Nat.succ i) r D

noncomputable def seqAll (E : Env) (sz : Nat) (run : Oper → Tm → St → Option (Value × St)) (ops : Array Oper) : List Oper → Tm → St → Option (Tm × St)
  | [], tm, S => some (tm, S)
  | o :: r, tm, S => ob (wantV ops tm o) fun w => @Bool.rec (fun _ => Option (Tm × St))
    (ob (putT sz tm o.dst undef) fun tm => seqAll E sz run ops r tm S)
    (ob (run o tm S) fun x => ob (putT sz tm o.dst x.1) fun tm => ob (seqAll E sz run ops r tm x.2) fun y => gd (Nat.ble x.2.n y.2.n) (some y)) w

noncomputable def loopV (S : St) (i : Nat) : Option Lp := ob (S.h.get i) fun o => match o with | .loop l => some l | _ => none
noncomputable def isRdy : LoopState → Bool
  | .ready => true
  | _ => false
noncomputable def isBsy : LoopState → Bool
  | .busy => true
  | _ => false
/-- the parameters of a round -/
noncomputable def setPs (sz : Nat) : List Tmp → List Value → Tm → Option Tm
  | [], [], tm => some tm
  | p :: ps, v :: vs, tm => gd (Nat.blt p sz) (setPs sz ps vs (tm.set (some v) p))
  | _, _, _ => none
/-- the marks of a function that leaves -/
noncomputable def shutAll : List Nat → St → Option St
  | [], S => some S
  | i :: r, S => ob (S.h.get i) fun o => match o with
    | .dfr false => shutAll r (putV S i (.dfr true))
    | _ => none
noncomputable def jumpOf : X → Option Code
  | .normal => none
  | .exit id => some (.exit id)
  | .ret => some .ret

mutual
noncomputable def callX (E : Env) : Nat → FuncId → List Value → St → Option (Value × St)
  | 0, _, _, _ => none
  | k + 1, f, args, S => ob (E.F.get f) fun fn => match fn.body with
    | none => gd (!(fn.name == "runtime.NumGoroutine") && (Extern.findNext fn).isNone && args.all (pl 4)) (ob (Extern.find fn) fun e => ob (plR (pureRun E.P (e ⟨args⟩))) fun v => some (v, S))
    | some c => gd (!(fn.name == "runtime.NumGoroutine")) (match E.H f with
      | some h => h args S
      | none => ob (codeX E k none (Nat.add args.length (Nat.sub fn.ntmps args.length)) c ⟨Tr.ofList args 0 .nil, E.ng, []⟩ S) fun r => match r.1 with
      | .exit _ => none
      | _ => ob (shutAll r.2.1.mks r.2.2) fun S => gd (Nat.ble r.2.2.n S.n) (ob (resV E r.2.1 S fn.results.toList) fun l => some (oneV l, S)))
/-- a round of a loop over a function -/
noncomputable def roundX (E : Env) : Nat → Nat → List Value → St → Option (Value × St)
  | 0, _, _, _ => none
  | k + 1, i, args, S => ob (loopV S i) fun L => gd (isRdy L.st && Nat.beq L.tm.ng E.ng) (ob (setPs L.sz L.params args L.tm) fun tm =>
    ob (codeX E k (some i) L.sz L.assign ⟨tm.t, tm.ng, []⟩ S) fun r => match r.1 with
      | .normal => ob (loopV r.2.2 i) fun L1 => gd (isRdy L1.st) (ob (codeX E k (some i) L.sz L.body r.2.1 (putV r.2.2 i (.loop { L1 with st := .busy }))) fun r2 =>
          gd (Nat.ble r.2.2.n r2.2.2.n) (ob (loopV r2.2.2 i) fun L2 => some (.bool (jumpOf r2.1).isNone, putV r2.2.2 i (.loop { L2 with st := @Bool.rec (fun _ => LoopState) .done .ready (jumpOf r2.1).isNone, pend := jumpOf r2.1 }))))
      | _ => none)
noncomputable def codeX (E : Env) : Nat → Option Nat → Nat → Code → Tm → St → Option (X × Tm × St)
  | 0, _, _, _, _, _ => none
  | k + 1, rnd, sz, c, tm, S => match c with
    | .skip => some (.normal, tm, S)
    | .label _ => some (.normal, tm, S)
    | .region _ ops false => ob (seqAll E sz (opX E k) ops ops.toList tm S) fun r => some (.normal, r.1, r.2)
    | .region _ ops true => gd (regB ops) (ob (drawAll E sz (opX E k) ops 0 ops.toList ⟨tm, S, S.h, [], [], []⟩) fun D => some (.normal, D.tm, D.C))
    | .seq a b => ob (codeX E k rnd sz a tm S) fun r => match r.1 with
      | .normal => ob (codeX E k rnd sz b r.2.1 r.2.2) fun y => gd (Nat.ble r.2.2.n y.2.2.n) (some y)
      | _ => some r
    | .cond x a b => ob (evO tm x) fun v => match v with
      | .bool true => codeX E k rnd sz a tm S
      | .bool false => codeX E k rnd sz b tm S
      | _ => none
    | .block id b => ob (codeX E k rnd sz b tm S) fun r => match r.1 with
      | .exit j => some (@Bool.rec (fun _ => X) (.exit j) .normal (Nat.beq j id), r.2)
      | _ => some r
    | .loop b => ob (codeX E k rnd sz b tm S) fun r => match r.1 with
      | .normal => ob (codeX E k rnd sz (.loop b) r.2.1 r.2.2) fun y => gd (Nat.ble r.2.2.n y.2.2.n) (some y)
      | _ => some r
    | .exit id => some (.exit id, tm, S)
    | .ret => some (.ret, tm, S)
    | .scope b => gd rnd.isNone (codeX E k rnd sz b tm S)
    | .rangeFunc f ps assign body => ob (evO tm f) fun g => match g with
      | .func (.func g) first cap =>
        ob (match rnd with
          | none => some (S.n, newV S (.dfr false), (⟨tm.t, tm.ng, S.n :: tm.mks⟩ : Tm))
          | some i => ob (loopV S i) fun L => some (L.dfr, S, tm)) fun e =>
        ob (callX E k g (first.toList ++ (.func (.yield e.2.1.n) #[] #[] :: cap.toList)) (newV e.2.1 (.loop ⟨.ready, none, sz, ⟨tm.t, tm.ng, []⟩, ps.toList, assign, body, e.1⟩))) fun r => gd (Nat.ble (Nat.succ e.2.1.n) r.2.n) (
        ob (loopV r.2 e.2.1.n) fun L => gd (!isBsy L.st) (match L.pend with
          | none => some (.normal, e.2.2, putV r.2 e.2.1.n (.loop { L with st := .exhausted }))
          | some c => ob (codeX E k rnd sz c e.2.2 (putV r.2 e.2.1.n (.loop { L with st := .exhausted }))) fun y => gd (Nat.ble r.2.n y.2.2.n) (some y)))
      | _ => none
    | _ => none
noncomputable def opX (E : Env) : Nat → Oper → Tm → St → Option (Value × St)
  | 0, _, _, _ => none
  | k + 1, o, tm, S => @Bool.rec (fun _ => Option (Value × St))
    (@Bool.rec (fun _ => Option (Value × St)) (heapV E tm S o.op) (ob (callV tm o.op) fun c => match c with
      | .fn f args => callX E k f args S
      | .yld l args => roundX E k l args S) (isCall o.op))
    (ob (pureV E tm o.op) fun v => some (v, S)) (isPure E o.op)
end

end Go.Ex
