/-
  PI: a pure, deterministic reading of the program's code. No addresses, no capacities, no drawn orders: what a call owns lies in "roots" (boxes of struct variables, rows of slices), what it only reads lies in plain lists. Nothing is proved here; the conditions stand where PI's answers are tied to the machine's.
-/
import Derived.Calls
import Derived.KernelRfl
set_option linter.unusedVariables false
set_option linter.unusedSimpArgs false
namespace Go.Proofs.Ytdgamfanffnhaaa.PI
open Go
inductive C where
  | int (k : IntKind) (n : Int)
  | bool (b : Bool)
  | str (s : ByteArray)
  | nil
  | np
  | fn (f : Nat)
  | sl (rows : List (List C))
  | rsl (rows : List (List C))
  | ref (key len : Nat)
  | nref (key vs i j len : Nat)
  | view (key off len tot : Nat)
  | bptr (key off : Nat)
  | eptr (key tot i off : Nat)
  | rptr (el : List C) (off : Nat)
  | pt (cells : List C)
  | em (nil : Bool)
  deriving Inhabited
inductive V where
  | one (c : C)
  | agg (cs : List C)
  | tup (vs : List V)
  deriving Inhabited
def undefV : V := .tup []
inductive Root where
  | box (par : Bool) (cells : List C)
  | row (par : Bool) (vs : Nat) (rows : List (List C)) (foc : Option (Nat × List C))
  | frow (rows : List (List C))
  | dead
def eff (rows : List (List C)) (foc : Option (Nat × List C)) : List (List C) :=
  match foc with
  | none => rows
  | some (j, el) => rows.set j el
def Root.settled : Root → Root
  | .row p v rows foc => .row p v (eff rows foc) none
  | r => r
def uni (sz : Nat) (rows : List (List C)) : Bool := rows.all fun el => el.length == sz
abbrev Ups := List (Nat × Option Root)
abbrev Res := V × List C
def get {α : Type} : List (Nat × α) → Nat → Option α
  | [], _ => none
  | (m, v) :: r, n => if m = n then some v else get r n
def put {α : Type} : List (Nat × α) → Nat → α → List (Nat × α)
  | [], n, v => [(n, v)]
  | (m, w) :: r, n, v => if m = n then (n, v) :: r else (m, w) :: put r n v
def applyUps (r : List (Nat × Root)) : Ups → List (Nat × Root)
  | [] => r
  | (k, some x) :: u => applyUps (put r k x) u
  | (k, none) :: u => applyUps (put r k .dead) u
structure St where
  env : List (Nat × V)
  roots : List (Nat × Root)
def C.scalar : C → Bool
  | .int .. | .bool _ | .str _ | .fn _ => true
  | _ => false
def C.plainRo : C → Bool
  | .rsl _ => true
  | c => c.scalar
def C.isSl : C → Bool
  | .sl _ => true
  | _ => false
def C.keyOk (ks : List Nat) : C → Bool
  | .ref k _ | .nref k .. | .view k .. | .bptr k _ | .eptr k .. => ks.contains k
  | _ => true
def V.keyOk (ks : List Nat) : V → Bool
  | .one c => c.keyOk ks
  | .agg cs => cs.all (·.keyOk ks)
  | .tup vs => vs.all fun
    | .one c => c.keyOk ks
    | .agg cs => cs.all (·.keyOk ks)
    | .tup _ => false
def Root.keyOk (ks : List Nat) : Root → Bool
  | .box _ cs => cs.all (·.keyOk ks)
  | _ => true
def V.cells : V → Option (List C)
  | .one c => some [c]
  | .agg cs => some cs
  | .tup _ => none
def mkV (agg : Bool) (cs : List C) : Option V :=
  if agg then some (.agg cs) else match cs with
    | [c] => some (.one c)
    | _ => none
def cut {α : Type} (off n : Nat) (l : List α) : List α := (l.drop off).take n
def setAt {α : Type} (l : List α) (off : Nat) (new : List α) : List α := l.take off ++ (new ++ l.drop (off + new.length))
def nilSl : C → C
  | .nil => .sl []
  | c => c
def liftRo : C → C
  | .sl rows => .rsl rows
  | .nil => .rsl []
  | c => c
def liftOwn (key vs i : Nat) : Nat → List C → List C
  | _, [] => []
  | j, .sl rows :: cs => .nref key vs i j rows.length :: liftOwn key vs i (j + 1) cs
  | j, c :: cs => c :: liftOwn key vs i (j + 1) cs
inductive RM where
  | ret (v : V) (ups : Ups)
  | fail
  | rd (key : Nat) (k : Root → RM)
  | ab (key : Nat) (k : RM)
  | chk (b : Bool) (k : RM)
  | br (b : Bool) (t f : RM)
  | el (rows : List (List C)) (i : Nat) (k : List C → RM)
  | call (f : Nat) (args : List V) (k : Res → RM)
def RM.run (call : Nat → List V → Option Res) (r : Nat → Option Root) : RM → Option (V × Ups × List Nat)
  | .ret v u => some (v, u, [])
  | .fail => none
  | .rd key k => match r key with
    | some x => match (k x).run call r with
      | some (v, u, l) => some (v, u, key :: l)
      | none => none
    | none => none
  | .ab key k => match r key with
    | none => match k.run call r with
      | some (v, u, l) => some (v, u, key :: l)
      | none => none
    | some _ => none
  | .chk b k => match b with
    | true => k.run call r
    | false => none
  | .br b t f => match b with
    | true => t.run call r
    | false => f.run call r
  | .el rows i k => match rows[i]? with
    | some x => (k x).run call r
    | none => none
  | .call f args k => match call f args with
    | some x => (k x).run call r
    | none => none
inductive Opd where
  | t (n : Nat)
  | k (c : C)
instance (n : Nat) : OfNat Opd n := ⟨.t n⟩
def Opd.val (e : List (Nat × V)) : Opd → Option V
  | .t n => get e n
  | .k c => some (.one c)
inductive POp where
  | mov (x : Opd)
  | pick (c a b : Opd)
  | nilroot
  | alloc (zero : List C)
  | box (x : Opd)
  | build (zero : List C) (parts : List (Nat × Nat × Opd))
  | bslice (n : Nat) (zero : List C) (parts : List (Nat × Opd))
  | load (agg : Bool) (sz : Nat) (a : Opd)
  | store (sz : Nat) (a x : Opd)
  | nilc (x : Opd)
  | bin (ty : Nat) (op : BinOp) (x y : Opd)
  | eqa (neg : Bool) (n : Nat) (x y : Opd)
  | not (x : Opd)
  | ngt (x : Opd)
  | conv (k : IntKind) (x : Opd)
  | mk (zero : List C) (lim : Nat) (n : Opd)
  | slice (str : Bool) (sz : Nat) (x : Opd) (lo hi : Option Opd)
  | fld (off : Nat) (x : Opd)
  | idx (sz : Nat) (x i : Opd)
  | ext (x : Opd) (i : Nat)
  | len (str : Bool) (x : Opd)
  | mn (xs : List Opd)
  | mx (xs : List Opd)
  | app (sz lim : Nat) (s y : Opd)
  | call (f : Nat) (args : List Opd)
  | callv (f : Opd) (args : List Opd)
def opd (e : List (Nat × V)) (x : Opd) (K : V → RM) : RM :=
  match x.val e with
  | some v => K v
  | none => .fail
def opds (e : List (Nat × V)) : List Opd → (List V → RM) → RM
  | [], K => K []
  | x :: xs, K => match x.val e with
    | some v => opds e xs fun vs => K (v :: vs)
    | none => .fail
def optRM {α : Type} (x : Option α) (K : α → RM) : RM :=
  match x with
  | some v => K v
  | none => .fail
def absorb : List C → (List C → Ups → RM) → RM
  | [], K => K [] []
  | c :: cs, K => match c with
    | .ref k len => .rd k fun
      | .row false _ rows foc => .chk (decide (rows.length = len)) (absorb cs fun cs' u => .chk (!u.any (·.1 == k)) (K (.sl (eff rows foc) :: cs') ((k, none) :: u)))
      | _ => .fail
    | .nil => absorb cs fun cs' u => K (.sl [] :: cs') u
    | .int k n => absorb cs fun cs' u => K (.int k n :: cs') u
    | .bool b => absorb cs fun cs' u => K (.bool b :: cs') u
    | .str s => absorb cs fun cs' u => K (.str s :: cs') u
    | _ => .fail
def absorbAll : List (List C) → (List (List C) → Ups → RM) → RM
  | [], K => K [] []
  | el :: els, K => absorb el fun el' u => absorbAll els fun els' u' => .chk (!u.any fun x => u'.any (·.1 == x.1)) (K (el' :: els') (u ++ u'))
def rkey (d j : Nat) : Nat := d + 1000 * (j + 1)
def absent : Ups → RM → RM
  | [], K => K
  | (k, _) :: u, K => .ab k (absent u K)
def boxed (k : Nat) : Nat → List C → List C × Ups
  | _, [] => ([], [])
  | j, .nil :: cs => (.ref (rkey k j) 0 :: (boxed k (j + 1) cs).1, (rkey k j, some (.row false 0 [] none)) :: (boxed k (j + 1) cs).2)
  | j, c :: cs => (c :: (boxed k (j + 1) cs).1, (boxed k (j + 1) cs).2)
def rowsOf (k : Nat) (K : List (List C) → RM) : RM :=
  .rd k fun
    | .row _ _ rows foc => K (eff rows foc)
    | .frow rows => K rows
    | _ => .fail
def elAt (rows : List (List C)) (foc : Option (Nat × List C)) (i : Nat) (K : List C → List (List C) → RM) : RM :=
  match foc with
  | none => .el rows i fun el => K el rows
  | some (j, x) => .br (decide (i = j)) (K x rows) (.el (rows.set j x) i fun el => K el (rows.set j x))
def nested (el : List C) (j : Nat) (K : List (List C) → RM) : RM :=
  match el[j]? with
  | some (.sl rs) => K rs
  | _ => .fail
def snapC (c : C) (K : C → List Nat → RM) : RM :=
  match c with
  | .int k n => K (.int k n) []
  | .bool b => K (.bool b) []
  | .str s => K (.str s) []
  | .fn f => K (.fn f) []
  | .nil => K (.rsl []) []
  | .rsl rows => K (.rsl rows) []
  | .rptr el off => K (.rptr el off) []
  | .ref k len => rowsOf k fun rows => .chk (decide (rows.length = len)) (K (.rsl rows) [k])
  | .view k off len tot => rowsOf k fun rows => .chk (decide (rows.length = tot) && decide (off + len ≤ tot)) (K (.rsl (cut off len rows)) [k])
  | .nref k vs i j len => .rd k fun
    | .row _ vs' rows foc => .chk (decide (vs = vs')) (elAt rows foc i fun el _ => nested el j fun rs => .chk (decide (rs.length = len)) (K (.rsl rs) [k]))
    | _ => .fail
  | _ => .fail
def snapCs : List C → (List C → List Nat → RM) → RM
  | [], K => K [] []
  | c :: cs, K => snapC c fun c' ks => snapCs cs fun cs' ks' => K (c' :: cs') (ks ++ ks')
def snapV (v : V) (K : V → List Nat → RM) : RM :=
  match v with
  | .one c => snapC c fun c' ks => K (.one c') ks
  | .agg cs => snapCs cs fun cs' ks => K (.agg cs') ks
  | .tup _ => .fail
inductive Take where
  | row (key : Nat) (par : Bool) (vs : Nat)
  | nrow (key : Nat) (par : Bool) (vs : Nat) (rows : List (List C)) (i : Nat) (el : List C) (j : Nat)
  | box (key : Nat) (par : Bool) (cells : List C)
def Take.key : Take → Nat
  | .row k .. | .nrow k .. | .box k .. => k
def takeC (c : C) (K : C → List Take → RM) : RM :=
  match c with
  | .int k n => K (.int k n) []
  | .bool b => K (.bool b) []
  | .ref k len => .rd k fun
    | .row par vs rows foc => .chk (decide (rows.length = len)) (K (.sl (eff rows foc)) [.row k par vs])
    | _ => .fail
  | .nref k vs i j len => .rd k fun
    | .row par vs' rows foc => .chk (decide (vs = vs')) (elAt rows foc i fun el base => nested el j fun rs => .chk (decide (rs.length = len)) (K (.sl rs) [.nrow k par vs base i el j]))
    | _ => .fail
  | _ => .fail
def takeCs : List C → (List C → List Take → RM) → RM
  | [], K => K [] []
  | c :: cs, K => takeC c fun c' ks => takeCs cs fun cs' ks' => K (c' :: cs') (ks ++ ks')
def takeV (v : V) (K : V → List Take → RM) : RM :=
  match v with
  | .one (.bptr k off) => .rd k fun
    | .box par cells => .chk (decide (off = 0) && cells.all C.plainRo) (K (.one (.pt cells)) [.box k par cells])
    | _ => .fail
  | .one c => takeC c fun c' ks => K (.one c') ks
  | .agg cs => takeCs cs fun cs' ks => K (.agg cs') ks
  | .tup _ => .fail
def handArgs : List Bool → List V → (List V → List Nat → List Take → RM) → RM
  | _, [], K => K [] [] []
  | true :: fs, v :: vs, K => takeV v fun v' ts => handArgs fs vs fun vs' ks ts' => K (v' :: vs') ks (ts ++ ts')
  | fs, v :: vs, K => snapV v fun v' ks => handArgs fs.tail vs fun vs' ks' ts => K (v' :: vs') (ks ++ ks') ts
def mergeBox : List C → List C → Option (List C)
  | [], [] => some []
  | .rsl rows :: old, .rsl _ :: new => (mergeBox old new).map (.rsl rows :: ·)
  | o :: old, c :: new => if o.scalar && c.scalar then (mergeBox old new).map (c :: ·) else none
  | _, _ => none
def giveBack : List Take → List C → Option Ups
  | [], [] => some []
  | .row k par vs :: ts, .sl rs :: cs => (giveBack ts cs).map ((k, some (.row par (vs + 1) rs none)) :: ·)
  | .nrow k par vs rows i el j :: ts, .sl rs :: cs => (giveBack ts cs).map ((k, some (.row par vs rows (some (i, el.set j (.sl rs))))) :: ·)
  | .box k par old :: ts, .pt new :: cs => match mergeBox old new with
    | some cells => (giveBack ts cs).map ((k, some (.box par cells)) :: ·)
    | none => none
  | _, _ => none
def Take.par : Take → Bool
  | .row _ p _ | .nrow _ p .. | .box _ p _ => p
def allNew (ks : List Nat) (ts : List Take) : Bool :=
  match ts with
  | [] => true
  | t :: ts => !ks.contains t.key && !(ts.any fun u => u.key == t.key) && allNew ks ts && ts.all fun u => u.par == t.par
def bornC (par : Bool) (d j : Nat) : C → C × Ups
  | .sl rows => (.ref (rkey d j) rows.length, [(rkey d j, some (.row par 0 rows none))])
  | c => (c, [])
def bornCs (par : Bool) (d : Nat) : Nat → List C → List C × Ups
  | _, [] => ([], [])
  | j, c :: cs => ((bornC par d j c).1 :: (bornCs par d (j + 1) cs).1, (bornC par d j c).2 ++ (bornCs par d (j + 1) cs).2)
def bornV (par : Bool) (d j : Nat) : V → V × Ups × Nat
  | .one (.pt cells) => (.one (.bptr (rkey d j) 0), (rkey d j, some (.box par (bornCs par d (j + 1) cells).1)) :: (bornCs par d (j + 1) cells).2, j + 1 + cells.length)
  | .one c => (.one (bornC par d j c).1, (bornC par d j c).2, j + 1)
  | .agg cs => (.agg (bornCs par d j cs).1, (bornCs par d j cs).2, j + cs.length)
  | .tup vs => (.tup vs, [], j)
def bornVs (par : Bool) (d : Nat) : Nat → List V → List V × Ups
  | _, [] => ([], [])
  | j, v :: vs => ((bornV par d j v).1 :: (bornVs par d (bornV par d j v).2.2 vs).1, (bornV par d j v).2.1 ++ (bornVs par d (bornV par d j v).2.2 vs).2)
def bornR (d : Nat) : V → V × Ups
  | .tup vs => (.tup (bornVs false d 0 vs).1, (bornVs false d 0 vs).2)
  | v => ((bornV false d 0 v).1, (bornV false d 0 v).2.1)
def C.isRsl : C → Bool
  | .rsl _ | .rptr .. => true
  | _ => false
def C.hasRsl : C → Bool
  | .rsl _ | .rptr .. => true
  | .pt cells => cells.any C.isRsl
  | _ => false
def V.hasRsl : V → Bool
  | .one c => c.hasRsl
  | .agg cs => cs.any C.hasRsl
  | .tup vs => vs.any fun
    | .one c => c.hasRsl
    | .agg cs => cs.any C.hasRsl
    | .tup _ => true
structure Cfg where
  own : Nat → List Bool
  fz : Bool
def freeze : List Nat → (Ups → RM) → RM
  | [], K => K []
  | k :: ks, K => .rd k fun
    | .row false _ rows foc => freeze ks fun u => K ((k, some (.frow (eff rows foc))) :: u)
    | .frow rows => freeze ks fun u => K ((k, some (.frow rows)) :: u)
    | _ => .fail
def doCall (fz : Bool) (d : Nat) (ks : List Nat) (ts : List Take) (r : Res) : RM :=
  optRM (giveBack ts r.2) fun back =>
    absent (bornR d r.1).2 (
      if r.1.hasRsl && !ks.isEmpty then (if fz then freeze ks fun z => .ret (bornR d r.1).1 ((bornR d r.1).2 ++ back ++ z) else .fail)
      else .ret (bornR d r.1).1 ((bornR d r.1).2 ++ back))
def intBits (op : BinOp) (k : IntKind) (x y : Int) : Option Int :=
  let a := BitVec.ofInt k.bits x
  let b := BitVec.ofInt k.bits y
  match op with
  | .and => some (k.wrap (a &&& b).toNat)
  | .or => some (k.wrap (a ||| b).toNat)
  | .xor => some (k.wrap (a ^^^ b).toNat)
  | .andNot => some (k.wrap (a &&& ~~~b).toNat)
  | _ => none
def retC (c : C) : RM := .ret (.one c) []
def binInt (op : BinOp) (k : IntKind) (x y : Int) : RM :=
  match op with
  | .add => retC (.int k (k.wrap (x + y)))
  | .sub => retC (.int k (k.wrap (x - y)))
  | .mul => retC (.int k (k.wrap (x * y)))
  | .quo => .chk (decide (y ≠ 0)) (retC (.int k (k.wrap (x.tdiv y))))
  | .rem => .chk (decide (y ≠ 0)) (retC (.int k (x.tmod y)))
  | .eql => retC (.bool (x == y))
  | .neq => retC (.bool (x != y))
  | .lss => retC (.bool (decide (x < y)))
  | .leq => retC (.bool (decide (x ≤ y)))
  | .gtr => retC (.bool (decide (x > y)))
  | .geq => retC (.bool (decide (x ≥ y)))
  | op => optRM (intBits op k x y) fun n => retC (.int k n)
def binStr (op : BinOp) (x y : ByteArray) : RM :=
  match op with
  | .add => .chk (decide (((x.size + y.size : Nat) : Int) ≤ IntKind.i64.max)) (retC (.str (x ++ y)))
  | .eql => retC (.bool (x.toList == y.toList))
  | .neq => retC (.bool (!(x.toList == y.toList)))
  | _ => .fail
def isNil (c : C) (K : Bool → RM) : RM :=
  match c with
  | .nil => K true
  | .ref _ len => .chk (decide (0 < len)) (K false)
  | .rsl rows => .chk (decide (0 < rows.length)) (K false)
  | .em b => K b
  | _ => .fail
def binC (ty : Nat) (op : BinOp) (a b : C) : RM :=
  match ty with
  | 0 => match a, b with
    | .int k x, .int k' y => .chk (decide (k = k')) (binInt op k x y)
    | .str x, .str y => binStr op x y
    | _, _ => .fail
  | 1 => match a, b with
    | .bool x, .bool y => match op with
      | .eql => retC (.bool (x == y))
      | .neq => retC (.bool (!(x == y)))
      | _ => .fail
    | _, _ => .fail
  | _ => match b with
    | .nil => match op with
      | .eql => isNil a fun b => retC (.bool b)
      | .neq => isNil a fun b => retC (.bool (!b))
      | _ => .fail
    | _ => .fail
def eqC : C → C → Option Bool
  | .int k x, .int k' y => if k = k' then some (x == y) else none
  | _, _ => none
def eqCs : List C → List C → Option Bool
  | [], [] => some true
  | x :: xs, y :: ys => match eqC x y, eqCs xs ys with
    | some a, some b => some (a && b)
    | _, _ => none
  | _, _ => none
def minC (x y : C) : Option C :=
  match x, y with
  | .int k a, .int k' b => if k = k' then some (.int k (if b < a then b else a)) else none
  | _, _ => none
def maxC (x y : C) : Option C :=
  match x, y with
  | .int k a, .int k' b => if k = k' then some (.int k (if b > a then b else a)) else none
  | _, _ => none
def foldC (f : C → C → Option C) : C → List V → Option C
  | c, [] => some c
  | c, .one x :: xs => match f c x with
    | some c' => foldC f c' xs
    | none => none
  | _, _ :: _ => none
def lenC (str : Bool) : C → Option Nat
  | .str s => if str then some s.size else none
  | .nil => if str then none else some 0
  | .ref _ len => if str then none else some len
  | .nref _ _ _ _ len => if str then none else some len
  | .view _ _ len _ => if str then none else some len
  | .rsl rows => if str then none else some rows.length
  | .em _ => if str then none else some 0
  | _ => none
def setParts : List C → List (Nat × Nat × V) → Option (List C)
  | cs, [] => some cs
  | cs, (off, n, v) :: ps => match v.cells with
    | some xs => if xs.length = n ∧ off + n ≤ cs.length then setParts (setAt cs off xs) ps else none
    | none => none
def setEls (sz : Nat) : List (List C) → List (Nat × V) → Option (List (List C))
  | els, [] => some els
  | els, (i, v) :: ps => match v.cells with
    | some xs => if xs.length = sz ∧ i < els.length then setEls sz (els.set i xs) ps else none
    | none => none
def boundOf (e : List (Nat × V)) (x : Option Opd) (dflt : Nat) (K : Nat → RM) : RM :=
  match x with
  | none => K dflt
  | some x => opd e x fun
    | .one (.int _ n) => .chk (decide (0 ≤ n)) (K n.toNat)
    | _ => .fail
def retO (v : Option V) : RM := optRM v fun v => .ret v []
def loadAt (agg : Bool) (sz : Nat) : C → RM
  | .bptr k off => .rd k fun
    | .box _ cells => if off + sz ≤ cells.length then retO (mkV agg (cut off sz cells)) else .fail
    | _ => .fail
  | .eptr k tot i off => .rd k fun
    | .row _ vs rows foc => .chk (decide (rows.length = tot)) (elAt rows foc i fun el _ => if off + sz ≤ el.length then retO (mkV agg (liftOwn k vs i off (cut off sz el))) else .fail)
    | .frow rows => .chk (decide (rows.length = tot)) (.el rows i fun el => if off + sz ≤ el.length ∧ (cut off sz el).all C.scalar then retO (mkV agg (cut off sz el)) else .fail)
    | _ => .fail
  | .rptr el off => if off + sz ≤ el.length then retO (mkV agg ((cut off sz el).map liftRo)) else .fail
  | _ => .fail
def storeAt (sz : Nat) (xs : List C) : C → RM
  | .bptr k off => .rd k fun
    | .box par cells => if off + sz ≤ cells.length ∧ (par = false ∨ (xs.all C.scalar = true ∧ (cut off sz cells).all C.scalar = true)) then
        absent (boxed k off xs).2 (.ret undefV ((k, some (.box par (setAt cells off (boxed k off xs).1))) :: (boxed k off xs).2)) else .fail
    | _ => .fail
  | .eptr k tot i off => .rd k fun
    | .row par vs rows foc => .chk (decide (rows.length = tot)) (elAt rows foc i fun el base => if off + sz ≤ el.length then absorb xs fun xs' u =>
        .chk (!u.any (·.1 == k)) (.ret undefV ((k, some (.row par (if xs'.all C.scalar && (cut off sz el).all C.scalar then vs else vs + 1) base (some (i, setAt el off xs')))) :: u)) else .fail)
    | _ => .fail
  | _ => .fail
def fldAt (off : Nat) : C → Option C
  | .bptr k o => some (.bptr k (o + off))
  | .eptr k t i o => some (.eptr k t i (o + off))
  | .rptr el o => some (.rptr el (o + off))
  | _ => none
def idxRow (k sz len off n tot : Nat) (i : Int) (rows : List (List C)) (foc : Option (Nat × List C)) : RM :=
  .chk (decide (rows.length = tot) && (decide (0 ≤ i) && (decide (i < (len : Int)) && decide (off + len ≤ tot)))) (elAt rows foc n fun el _ => if el.length = sz then retC (.eptr k tot n 0) else .fail)
def idxAt (sz : Nat) (i : Int) : C → RM
  | .ref k len => .rd k fun
    | .row _ _ rows foc => idxRow k sz len 0 i.toNat len i rows foc
    | .frow rows => idxRow k sz len 0 i.toNat len i rows none
    | _ => .fail
  | .view k off len tot => .rd k fun
    | .row _ _ rows foc => idxRow k sz len off (off + i.toNat) tot i rows foc
    | .frow rows => idxRow k sz len off (off + i.toNat) tot i rows none
    | _ => .fail
  | .rsl rows => .chk (decide (0 ≤ i)) (.el rows i.toNat fun el => if el.length = sz then retC (.rptr el 0) else .fail)
  | _ => .fail
def sliceAt (sz l h : Nat) : C → RM
  | .ref k len => .chk (decide (l ≤ h) && decide (h ≤ len)) (rowsOf k fun rows => .chk (decide (rows.length = len) && uni sz rows) (retC (.view k l (h - l) len)))
  | .view k off len tot => .chk (decide (l ≤ h) && decide (h ≤ len)) (rowsOf k fun rows => .chk (decide (rows.length = tot) && uni sz rows) (retC (.view k (off + l) (h - l) tot)))
  | .rsl rows => .chk (decide (l ≤ h) && decide (h ≤ rows.length) && uni sz rows) (retC (.rsl (cut l (h - l) rows)))
  | .str s => .chk (decide (l ≤ h) && decide (h ≤ s.size)) (retC (.str (s.extract l h)))
  | _ => .fail
def appSrc (y : C) (K : List (List C) → Ups → RM) : RM :=
  match y with
  | .nil => K [] []
  | .rsl rows => .chk (rows.all (·.all C.scalar)) (K rows [])
  | .ref k len => .rd k fun
    | .row false _ rows foc => .chk (decide (rows.length = len)) (K (eff rows foc) [(k, none)])
    | _ => .fail
  | .em _ => K [] []
  | _ => .fail
def appAt (d sz lim : Nat) (s y : C) : RM :=
  match s with
  | .nil => .ab d (appSrc y fun rows u => .chk (uni sz rows && decide (rows.length ≤ lim)) (.ret (.one (.ref d rows.length)) ((d, some (.row false 0 rows none)) :: u)))
  | .ref k len => .rd k fun
    | .row false vs old foc => .chk (decide (old.length = len)) (appSrc y fun rows u =>
        .chk (!u.any (·.1 == k) && (uni sz (eff old foc) && (uni sz rows && decide (old.length + rows.length ≤ lim)))) (.ret (.one (.ref k (eff old foc ++ rows).length)) ((k, some (.row false vs (eff old foc ++ rows) none)) :: u)))
    | _ => .fail
  | _ => .fail
def POp.rm (cfg : Cfg) (d : Nat) (e : List (Nat × V)) : POp → RM
  | .mov x => opd e x fun v => .ret v []
  | .pick c a b => opd e c fun
    | .one (.bool c) => .br c (opd e a fun v => .ret v []) (opd e b fun v => .ret v [])
    | _ => .fail
  | .nilroot => .ab d (.ret (.one (.ref d 0)) [(d, some (.row false 0 [] none))])
  | .alloc zero => .ab d (.ret (.one (.bptr d 0)) [(d, some (.box false zero))])
  | .box x => opd e x fun v => optRM v.cells fun cs => .ab d (absent (boxed d 0 cs).2 (.ret (.one (.bptr d 0)) ((d, some (.box false (boxed d 0 cs).1)) :: (boxed d 0 cs).2)))
  | .build zero parts => opds e (parts.map (·.2.2)) fun vs => optRM (setParts zero ((parts.zip vs).map fun (p, v) => (p.1, p.2.1, v))) fun cs => .ret (.agg cs) []
  | .bslice n zero parts => opds e (parts.map (·.2)) fun vs => optRM (setEls zero.length (List.replicate n zero) ((parts.zip vs).map fun (p, v) => (p.1, v))) fun els =>
      absorbAll els fun els' u => .ab d (.ret (.one (.ref d els'.length)) ((d, some (.row false 0 els' none)) :: u))
  | .load agg sz a => opd e a fun
    | .one c => loadAt agg sz c
    | _ => .fail
  | .store sz a x => opd e x fun v => optRM v.cells fun xs => if xs.length = sz then opd e a fun
      | .one c => storeAt sz xs c
      | _ => .fail
    else .fail
  | .nilc x => opd e x fun
    | .one (.bptr k o) => retC (.bptr k o)
    | .one (.eptr k t i o) => retC (.eptr k t i o)
    | .one (.rptr el o) => retC (.rptr el o)
    | _ => .fail
  | .bin ty op x y => opd e x fun
    | .one a => opd e y fun
      | .one b => binC ty op a b
      | _ => .fail
    | _ => .fail
  | .eqa neg n x y => opd e x fun
    | .agg a => opd e y fun
      | .agg b => optRM (if a.length = n then eqCs a b else none) fun r => retC (.bool (if neg then !r else r))
      | _ => .fail
    | _ => .fail
  | .not x => opd e x fun
    | .one (.bool b) => retC (.bool (!b))
    | _ => .fail
  | .ngt x => opd e x fun
    | .one (.int k n) => retC (.int k (k.wrap (0 - n)))
    | _ => .fail
  | .conv k x => opd e x fun
    | .one (.int _ n) => retC (.int k (k.wrap n))
    | _ => .fail
  | .mk zero lim n => opd e n fun
    | .one (.int .i64 n) => .chk (decide (0 ≤ n) && decide (n ≤ (lim : Int))) (.ab d (.ret (.one (.ref d (List.replicate n.toNat (zero.map nilSl)).length)) [(d, some (.row false 0 (List.replicate n.toNat (zero.map nilSl)) none))]))
    | _ => .fail
  | .slice str sz x lo hi => opd e x fun
    | .one c => optRM (lenC str c) fun len => boundOf e hi len fun h => boundOf e lo 0 fun l => sliceAt sz l h c
    | _ => .fail
  | .fld off x => opd e x fun
    | .one c => optRM (fldAt off c) retC
    | _ => .fail
  | .idx sz x i => opd e i fun
    | .one (.int _ n) => opd e x fun
      | .one c => idxAt sz n c
      | _ => .fail
    | _ => .fail
  | .ext x i => opd e x fun
    | .tup vs => retO vs[i]?
    | _ => .fail
  | .len str x => opd e x fun
    | .one c => optRM (lenC str c) fun n => retC (.int .i64 n)
    | _ => .fail
  | .mn xs => opds e xs fun
    | .one c :: vs => optRM (foldC minC c vs) retC
    | _ => .fail
  | .mx xs => opds e xs fun
    | .one c :: vs => optRM (foldC maxC c vs) retC
    | _ => .fail
  | .app sz lim s y => opd e s fun
    | .one a => opd e y fun
      | .one b => appAt d sz lim a b
      | _ => .fail
    | _ => .fail
  | .call f args => opds e args fun vs => handArgs (cfg.own f) vs fun vs' ks ts => if allNew ks ts then .call f vs' (doCall cfg.fz d ks ts) else .fail
  | .callv f args => opd e f fun
    | .one (.fn f) => opds e args fun vs => handArgs (cfg.own f) vs fun vs' ks ts => if allNew ks ts then .call f vs' (doCall cfg.fz d ks ts) else .fail
    | _ => .fail
structure PO where
  dst : Option Nat
  guard : Option (Nat × Bool) := none
  op : POp
def o (d : Nat) (p : POp) : PO := ⟨some d, none, p⟩
def u (p : POp) : PO := ⟨none, none, p⟩
def gd (d g : Nat) (b : Bool) (p : POp) : PO := ⟨some d, some (g, b), p⟩
def i (n : Int) : Opd := .k (.int .i64 n)
def bT : Opd := .k (.bool true)
def bF : Opd := .k (.bool false)
def nl : Opd := .k .nil
inductive PCode where
  | skip
  | ret
  | exit (n : Nat)
  | region (ops : List PO)
  | dregion (ops : List (PO × List Nat))
  | seq (a b : PCode)
  | cond (c : Opd) (a b : PCode)
  | block (n : Nat) (c : PCode)
  | loop (slots keys slots2 keys2 : List Nat) (c : PCode)
inductive PExit where
  | normal
  | ret
  | exit (n : Nat)
def setD (e : List (Nat × V)) (d : Option Nat) (v : V) : List (Nat × V) :=
  match d with
  | some n => put e n v
  | none => e
inductive Guard where
  | free
  | ask (b : Bool)
  | no
  | bad
def PO.guarded (e : List (Nat × V)) (o : PO) : Guard :=
  match o.guard with
  | none => .free
  | some (g, b) => match get e g with
    | some (.one (.bool c)) => .ask (c == b)
    | some _ => .no
    | none => .bad
abbrev Touch := List Nat × List Nat
section
variable (call : Nat → List V → Option Res) (cfg : Cfg)
def PO.rm (o : PO) (e : List (Nat × V)) : RM := o.op.rm cfg (o.dst.getD 0) e
def distinct : List Nat → Bool
  | [] => true
  | k :: ks => !ks.contains k && distinct ks
def stepOn (o : PO) (st : St) : Option (St × Touch) :=
  match (o.rm cfg st.env).run call (get st.roots) with
  | some (v, u, l) => if distinct (u.map (·.1)) then some (⟨setD st.env o.dst v, applyUps st.roots u⟩, (l, u.map (·.1))) else none
  | none => none
def stepOff (o : PO) (st : St) : St × Touch := (⟨setD st.env o.dst undefV, st.roots⟩, ([], []))
def pstep (o : PO) (st : St) : Option (St × Touch) :=
  match o.guarded st.env with
  | .free => stepOn call cfg o st
  | .ask true => stepOn call cfg o st
  | .ask false => some (stepOff o st)
  | .no => some (stepOff o st)
  | .bad => none
def pops : List PO → St → Option St
  | [], st => some st
  | o :: os, st => match pstep call cfg o st with
    | some (st', _) => pops os st'
    | none => none
def clash (a b : Touch) : Bool :=
  a.2.any (fun k => b.1.contains k || b.2.contains k) || b.2.any fun k => a.1.contains k
def apart (pre : List Nat) (t : Touch) (seen : List (Nat × Touch)) : Bool := seen.all fun x => pre.contains x.1 || !clash x.2 t
def pdraw : List (PO × List Nat) → Nat → List (Nat × Touch) → St → Option St
  | [], _, _, st => some st
  | (o, pre) :: os, i, seen, st => match pstep call cfg o st with
    | some (st', t) => if apart pre t seen then pdraw os (i + 1) ((i, t) :: seen) st' else none
    | none => none
def keep {α : Type} (e : List (Nat × α)) : List Nat → List (Nat × α)
  | [] => []
  | n :: ns => match get e n with
    | some v => (n, v) :: keep e ns
    | none => keep e ns
def Root.isDead : Root → Bool
  | .dead => true
  | _ => false
def keepRoots (e : List (Nat × Root)) : List Nat → List (Nat × Root)
  | [] => []
  | n :: ns => match get e n with
    | some v => if v.isDead then keepRoots e ns else (n, v.settled) :: keepRoots e ns
    | none => keepRoots e ns
def prune (slots keys : List Nat) (st : St) : Option St :=
  if (keep st.env slots).all (fun x => x.2.keyOk ((keepRoots st.roots keys).map (·.1))) && (keepRoots st.roots keys).all (fun x => x.2.keyOk ((keepRoots st.roots keys).map (·.1)))
  then some ⟨keep st.env slots, keepRoots st.roots keys⟩ else none
def roundEnd (slots keys slots2 keys2 : List Nat) : Option (PExit × St) → Option (PExit × St)
  | some (.normal, st) => match prune slots keys st with
    | some st' => some (.normal, st')
    | none => none
  | some (.ret, st) => match prune slots2 keys2 st with
    | some st' => some (.ret, st')
    | none => none
  | some (.exit n, st) => match prune slots2 keys2 st with
    | some st' => some (.exit n, st')
    | none => none
  | none => none
def condOf (c : Opd) (e : List (Nat × V)) : Option Bool :=
  match c.val e with
  | some (.one (.bool b)) => some b
  | _ => none
def pexec (lp : (St → Option (PExit × St)) → St → Option (PExit × St)) : PCode → St → Option (PExit × St)
  | .skip, st => some (.normal, st)
  | .ret, st => some (.ret, st)
  | .exit n, st => some (.exit n, st)
  | .region ops, st => match pops call cfg ops st with
    | some st' => some (.normal, st')
    | none => none
  | .dregion ops, st => match pdraw call cfg ops 0 [] st with
    | some st' => some (.normal, st')
    | none => none
  | .seq a b, st => match pexec lp a st with
    | some (.normal, st') => pexec lp b st'
    | r => r
  | .cond c a b, st => match condOf c st.env with
    | some true => pexec lp a st
    | some false => pexec lp b st
    | none => none
  | .block n c, st => match pexec lp c st with
    | some (.exit m, st') => if m = n then some (.normal, st') else some (.exit m, st')
    | r => r
  | .loop slots keys slots2 keys2 c, st => match prune slots keys st with
    | some st' => lp (fun st => roundEnd slots keys slots2 keys2 (pexec lp c st)) st'
    | none => none
def round (lp : (St → Option (PExit × St)) → St → Option (PExit × St)) (slots keys slots2 keys2 : List Nat) (c : PCode) (st : St) : Option (PExit × St) :=
  roundEnd slots keys slots2 keys2 (pexec call cfg lp c st)
end
inductive PRes where
  | tmp (t : Nat)
  | cell (t : Nat) (agg : Bool) (sz : Nat)
structure PFunc where
  np : Nat
  own : List Bool
  nils : Bool
  fz : Bool
  res : List PRes
  body : PCode
def enter (own : List Bool) : Nat → List V → List (Nat × V) × List (Nat × Root) × List Nat
  | _, [] => ([], [], [])
  | i, v :: vs =>
    if own.headD false then
      ((i, (bornV true i 0 v).1) :: (enter own.tail (i + 1) vs).1, ((bornV true i 0 v).2.1.filterMap fun (k, x) => x.map (k, ·)) ++ (enter own.tail (i + 1) vs).2.1, (bornV true i 0 v).2.1.map (·.1) ++ (enter own.tail (i + 1) vs).2.2)
    else ((i, v) :: (enter own.tail (i + 1) vs).1, (enter own.tail (i + 1) vs).2)
def closeC (nils fz : Bool) (r : List (Nat × Root)) (used : List Nat) : C → Option (C × List Nat × Bool)
  | .int k n => some (.int k n, used, true)
  | .bool b => some (.bool b, used, true)
  | .str s => some (.str s, used, true)
  | .nil => some (if nils then .nil else .sl [], used, true)
  | .rsl rows => if fz then none else some (.rsl rows, used, true)
  | .ref k len => match get r k with
    | some (.row false _ rows foc) => if used.contains k then none else some (.sl (eff rows foc), k :: used, decide (rows.length = len))
    | _ => none
  | _ => none
def closeCs (nils fz : Bool) (r : List (Nat × Root)) : List Nat → List C → Option (List C × List Nat × Bool)
  | used, [] => some ([], used, true)
  | used, c :: cs => match closeC nils fz r used c with
    | some (c', used', b) => match closeCs nils fz r used' cs with
      | some (cs', used'', b') => some (c' :: cs', used'', b && b')
      | none => none
    | none => none
def closeV (nils fz : Bool) (r : List (Nat × Root)) (used : List Nat) : V → Option (V × List Nat × Bool)
  | .one (.bptr k 0) => match get r k with
    | some (.box false cells) => if used.contains k then none else match closeCs nils fz r (k :: used) cells with
      | some (cs, u, b) => some (.one (.pt cs), u, b)
      | none => none
    | _ => none
  | .one c => match closeC nils fz r used c with
    | some (c', u, b) => some (.one c', u, b)
    | none => none
  | .agg cs => match closeCs nils fz r used cs with
    | some (cs', u, b) => some (.agg cs', u, b)
    | none => none
  | .tup _ => none
def closeVs (nils fz : Bool) (r : List (Nat × Root)) : List Nat → List V → Option (List V × Bool)
  | _, [] => some ([], true)
  | used, v :: vs => match closeV nils fz r used v with
    | some (v', used', b) => match closeVs nils fz r used' vs with
      | some (vs', b') => some (v' :: vs', b && b')
      | none => none
    | none => none
def PRes.get (st : St) : PRes → Option V
  | .tmp t => PI.get st.env t
  | .cell t agg sz => match PI.get st.env t with
    | some (.one (.bptr k off)) => match PI.get st.roots k with
      | some (.box _ cells) => if off + sz ≤ cells.length then mkV agg (PI.cut off sz cells) else none
      | _ => none
    | _ => none
def gather {α : Type} : List (Option α) → Option (List α)
  | [] => some []
  | some x :: xs => match gather xs with
    | some l => some (x :: l)
    | none => none
  | none :: _ => none
def outsOf (r : List (Nat × Root)) : List Nat → Option (List C)
  | [] => some []
  | k :: ks => match get r k, outsOf r ks with
    | some (.row true _ rows foc), some l => some (.sl (eff rows foc) :: l)
    | some (.box true cells), some l => some (.pt cells :: l)
    | _, _ => none
def tupV : List V → V
  | [v] => v
  | vs => .tup vs
def leave (pf : PFunc) (pkeys : List Nat) (st : St) : Option (Res × Bool) :=
  match gather (pf.res.map (·.get st)) with
  | none => none
  | some vs => match closeVs pf.nils pf.fz st.roots [] vs, outsOf st.roots pkeys with
    | some (vs', b), some outs => some ((tupV vs', outs), b)
    | _, _ => none
def chkd {α : Type} : Option (α × Bool) → Option α
  | some (x, true) => some x
  | _ => none
def isEnd : PExit → Bool
  | .normal => true
  | .ret => true
  | .exit _ => false
def pfun (funcs : Nat → Option PFunc) (own : Nat → List Bool) (call : Nat → List V → Option Res) (lp : (St → Option (PExit × St)) → St → Option (PExit × St)) (f : Nat) (args : List V) : Option Res :=
  match funcs f with
  | none => none
  | some pf =>
    if args.length = pf.np then
      match pexec call ⟨own, pf.fz⟩ lp pf.body ⟨(enter pf.own 0 args).1, (enter pf.own 0 args).2.1⟩ with
      | some (e, st) => if isEnd e then chkd (leave pf (enter pf.own 0 args).2.2 st) else none
      | none => none
    else none
def lpN (n : Nat) (step : St → Option (PExit × St)) (st : St) : Option (PExit × St) :=
  match n with
  | 0 => none
  | n + 1 => match step st with
    | some (.normal, st') => lpN n step st'
    | r => r
def both (own : Bool) (g : List V → Option Res) : List V → Option Res
  | [.one (.rsl [])] => match own, g [.one (.em true)], g [.one (.em false)] with
    | false, some (.one (.sl []), []), some (.one (.sl []), []) => some (.one (.sl []), [])
    | _, _, _ => none
  | _ => none
def orElse {α : Type} : Option α → Option α → Option α
  | some x, _ => some x
  | none, y => y
def pcN (funcs : Nat → Option PFunc) (own : Nat → List Bool) : Nat → Nat → List V → Option Res
  | 0, _, _ => none
  | n + 1, f, args => orElse (pfun funcs own (pcN funcs own n) (lpN (n + 1)) f args) (both ((own f).headD false) (pfun funcs own (pcN funcs own n) (lpN (n + 1)) f) args)
end Go.Proofs.Ytdgamfanffnhaaa.PI
