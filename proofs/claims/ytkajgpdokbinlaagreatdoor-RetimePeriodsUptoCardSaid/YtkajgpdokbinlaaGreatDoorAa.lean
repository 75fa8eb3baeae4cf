/- RetimePeriods (second form, tied card): the law answers true at every netlist and list of delays whose reading is of bulk at most 1048576, and the input reads as it did; no further condition. This text: part Aa (D0 D1 S0 S1 S2 S3 S4 S5 S6 S7). -/
import GoSem.Dispatch
import Derived.Orders
import Derived.Laws.AppendOwn
import Derived.Laws.Rows
import Derived.Laws.Append
import Derived.Below
import Derived.Laws.Strings
import Derived.Laws.StructEq
set_option linter.unusedVariables false
set_option linter.unusedSimpArgs false
set_option linter.unnecessarySimpa false
namespace Go.Pvm

inductive Mode where
  | fr | bor | clip | nl | as (isNil : Bool)
  deriving DecidableEq, Repr

/-- Pure values. 'sl': a slice that nobody changes, with its elements (nl: nil; clip: nothing behind its end; bor: lent; as: known to be nil, or not); 'own': a slice that the call itself made; 'ref': a pointer into an object of the store; 'fptr': a pointer to a place that nobody changes (true: that is lent), with what it holds. -/
inductive PVal where
  | undef
  | int (k : IntKind) (n : Int)
  | bool (b : Bool)
  | str (s : ByteArray)
  | agg (cs : List PVal)
  | tup (vs : List PVal)
  | sl (m : Mode) (sz : Nat) (xs : List PVal)
  | own (id : Nat)
  | ref (id sz i off : Nat)
  | fptr (b : Bool) (x : PVal)
  | nilptr
  | fn (f : Nat) (caps : List PVal)
  | nilfn
  | mapr (id : Nat)
  | nilmap
  | iface (t : Nat) (v : PVal)
  | nilif
  deriving Inhabited

/-- Objects of the store. 'row': elements of type e, each of sz cells; bx: a variable (one element), else a slice's row; 'frz': a row that nobody changes any more. -/
inductive AObj where
  | none
  | row (bx : Bool) (e sz : Nat) (xs : List PVal)
  | frz (bx : Bool) (sz : Nat) (xs : List PVal)
  | mp (es : List (PVal × PVal))
  deriving Inhabited

/-- equality of values, reckoned -/
def PVal.beq : PVal → PVal → Bool
  | .undef, .undef => true
  | .int k a, .int k' b => decide (k = k') && decide (a = b)
  | .bool a, .bool b => a == b
  | .str a, .str b => decide (a = b)
  | .agg a, .agg b => beqL a b
  | .tup a, .tup b => beqL a b
  | .sl m n a, .sl m' n' b => decide (m = m') && Nat.beq n n' && beqL a b
  | .own a, .own b => Nat.beq a b
  | .ref a b c d, .ref a' b' c' d' => Nat.beq a a' && Nat.beq b b' && Nat.beq c c' && Nat.beq d d'
  | .fptr b x, .fptr b' y => b == b' && x.beq y
  | .nilptr, .nilptr => true
  | .fn f a, .fn g b => Nat.beq f g && beqL a b
  | .nilfn, .nilfn => true
  | .mapr a, .mapr b => Nat.beq a b
  | .nilmap, .nilmap => true
  | .iface t x, .iface t' y => Nat.beq t t' && x.beq y
  | .nilif, .nilif => true
  | _, _ => false
where
  beqL : List PVal → List PVal → Bool
    | [], [] => true
    | x :: r, y :: s => x.beq y && beqL r s
    | _, _ => false
theorem natBeq_iff {a b : Nat} : Nat.beq a b = true ↔ a = b := ⟨Nat.eq_of_beq_eq_true, fun h => by subst h; exact Nat.beq_refl a⟩
mutual
theorem PVal.beq_iff : ∀ x y : PVal, x.beq y = true ↔ x = y
  | .undef, y => by cases y <;> simp [PVal.beq]
  | .int k a, y => by cases y <;> simp [PVal.beq]
  | .bool a, y => by cases y <;> simp [PVal.beq]
  | .str a, y => by cases y <;> simp [PVal.beq]
  | .agg a, y => by cases y <;> simp [PVal.beq, PVal.beqL_iff a]
  | .tup a, y => by cases y <;> simp [PVal.beq, PVal.beqL_iff a]
  | .sl m n a, y => by cases y <;> simp [PVal.beq, PVal.beqL_iff a, natBeq_iff, and_assoc]
  | .own a, y => by cases y <;> simp [PVal.beq, natBeq_iff]
  | .ref a b c d, y => by cases y <;> simp [PVal.beq, natBeq_iff, and_assoc]
  | .fptr b x, y => by cases y <;> simp [PVal.beq, PVal.beq_iff x]
  | .nilptr, y => by cases y <;> simp [PVal.beq]
  | .fn f a, y => by cases y <;> simp [PVal.beq, PVal.beqL_iff a, natBeq_iff]
  | .nilfn, y => by cases y <;> simp [PVal.beq]
  | .mapr a, y => by cases y <;> simp [PVal.beq, natBeq_iff]
  | .nilmap, y => by cases y <;> simp [PVal.beq]
  | .iface t x, y => by cases y <;> simp [PVal.beq, PVal.beq_iff x, natBeq_iff]
  | .nilif, y => by cases y <;> simp [PVal.beq]
theorem PVal.beqL_iff : ∀ x y : List PVal, PVal.beq.beqL x y = true ↔ x = y
  | [], y => by cases y <;> simp [PVal.beq.beqL]
  | x :: r, y => by cases y <;> simp [PVal.beq.beqL, PVal.beq_iff x, PVal.beqL_iff r]
end
instance : DecidableEq PVal := fun x y => if h : x.beq y = true then .isTrue ((PVal.beq_iff x y).1 h) else .isFalse fun e => h ((PVal.beq_iff x y).2 e)

/-- Answers: a value, or why there is none. -/
inductive R (α : Type) where
  | ok (a : α)
  | no (why : List String)
  deriving Inhabited
def R.bind {α β : Type} (x : R α) (f : α → R β) : R β := match x with | .ok a => f a | .no w => .no w

/-- What an operation asks of the store, and of its operands. -/
inductive AM (α : Type) where
  | pure (a : α)
  | fail (why : List String)
  | get (id : Nat) (k : AObj → AM α)
  | put (id : Nat) (o : AObj) (k : AM α)
  | need (p : Prop) [d : Decidable p] (k : AM α)
def AM.bind {α β : Type} : AM α → (α → AM β) → AM β
  | .pure a, f => f a
  | .fail w, _ => .fail w
  | .get id k, f => .get id fun o => (k o).bind f
  | .put id o k, f => .put id o (k.bind f)
  | @AM.need _ p d k, f => @AM.need _ p d (k.bind f)
def AM.ofR {α : Type} : R α → AM α
  | .ok a => .pure a
  | .no w => .fail w

abbrev Store := Nat → AObj
def Store.upd (s : Store) (id : Nat) (o : AObj) : Store := fun k => bif Nat.beq k id then o else s k
def Store.empty : Store := fun _ => .none

/-- The answer, the store behind it, what was asked for, what was written. -/
def AM.run {α : Type} : AM α → Store → R (α × Store × List Nat × List Nat)
  | .pure a, s => .ok (a, s, [], [])
  | .fail w, _ => .no w
  | .get id k, s => match (k (s id)).run s with
    | .ok (a, s', t, w) => .ok (a, s', id :: t, w)
    | .no w => .no w
  | .put id o k, s => match k.run (s.upd id o) with
    | .ok (a, s', t, w) => .ok (a, s', t, id :: w)
    | .no w => .no w
  | @AM.need _ p d k, s => @ite _ p d (k.run s) (.no ["a condition"])

def PVal.cells : PVal → List PVal
  | .agg cs => cs
  | v => [v]

/- total readers: for values that are not written out -/
def asI : PVal → Int
  | .int _ n => n
  | _ => 0
def asB : PVal → Bool
  | .bool b => b
  | _ => false
def asS : PVal → ByteArray
  | .str s => s
  | _ => ⟨#[]⟩
def asL : PVal → List PVal
  | .sl _ _ xs => xs
  | _ => []
def cellAt (x : PVal) (i : Nat) : PVal := x.cells.getD i .undef
def getP (xs : List PVal) (i : Nat) : PVal := xs.getD i .undef
def byteAt (s : ByteArray) (i : Nat) : Int := if h : i < s.size then ((s[i]'h).toNat : Int) else 0

/-- A scalar as a value of the model. -/
def PVal.toV : PVal → Option Value
  | .int k n => some (.int k n)
  | .bool b => some (.bool b)
  | .str s => some (.string s)
  | _ => none
def ofScalar : Value → R PVal
  | .int k n => .ok (.int k n)
  | .bool b => .ok (.bool b)
  | .string s => .ok (.str s)
  | _ => .no ["no scalar"]
def scal (s : Sem Value) : R PVal := match s with | .pure v => ofScalar v | _ => .no ["no plain answer"]

/-- A constant of the program: a cell. -/
def ofCell : Value → PVal
  | .int k n => .int k n
  | .bool b => .bool b
  | .string s => .str s
  | .pointer none => .nilptr
  | .slice none 0 0 => .sl .nl 1 []
  | .map none => .nilmap
  | .nilFunc => .nilfn
  | .func (.func f) ⟨[]⟩ ⟨[]⟩ => .fn f []
  | .nilIface => .nilif
  | .tuple ⟨[]⟩ => .tup []
  | _ => .undef
def ofConst : Value → PVal
  | .agg cs => .agg (cs.toList.map ofCell)
  | v => ofCell v

/-- The ids that a value names (a slice that nobody changes names none). -/
def PVal.ids : PVal → List Nat
  | .own id | .mapr id => [id]
  | .ref id _ _ _ => [id]
  | .fptr _ x => x.ids
  | .agg cs | .tup cs => idsL cs
  | .fn _ cs => idsL cs
  | .iface _ v => v.ids
  | _ => []
where
  idsL : List PVal → List Nat
    | [] => []
    | c :: cs => c.ids ++ idsL cs
/-- Ids renamed. -/
def PVal.ren (ρ : Nat → Nat) : PVal → PVal
  | .own id => .own (ρ id)
  | .mapr id => .mapr (ρ id)
  | .ref id sz i off => .ref (ρ id) sz i off
  | .fptr b x => .fptr b (x.ren ρ)
  | .agg cs => .agg (renL cs)
  | .tup cs => .tup (renL cs)
  | .fn f cs => .fn f (renL cs)
  | .iface t v => .iface t (v.ren ρ)
  | v => v
where
  renL : List PVal → List PVal
    | [] => []
    | c :: cs => c.ren ρ :: renL cs
/-- A cell of an element of a slice (an element: top) names no id. -/
def PVal.cl : PVal → Bool → Bool
  | .undef, _ | .own _, _ | .ref .., _ | .mapr _, _ | .tup _, _ => false
  | .agg cs, top => top && clL cs
  | .sl m _ _, _ => m == .fr || m == .nl
  | .fptr b x, _ => !b && x.cl true
  | .fn _ cs, _ => clL cs
  | .iface _ v, _ => v.cl true
  | _, _ => true
where
  clL : List PVal → Bool
    | [] => true
    | c :: cs => c.cl false && clL cs
def PVal.clean1 (x : PVal) : Bool := x.cl false
def PVal.clean1.clean1L (cs : List PVal) : Bool := PVal.cl.clL cs
def PVal.clean1.cleanX (x : PVal) : Bool := x.cl true
abbrev PVal.cleanX := PVal.clean1.cleanX
/-- An element of a slice. -/
def PVal.clean (x : PVal) : Bool := PVal.clean1.clean1L x.cells
/-- A cell of a variable. -/
def PVal.one : PVal → Bool
  | .undef | .agg _ | .tup _ => false
  | _ => true
def oneL : List PVal → Bool
  | [] => true
  | c :: cs => c.one && oneL cs
/-- Names nothing lent. -/
def PVal.noBor : PVal → Bool
  | .sl m _ _ => m != .bor
  | .agg cs | .tup cs | .fn _ cs => noBorL cs
  | .fptr b x => !b && x.noBor
  | .iface _ v => v.noBor
  | _ => true
where
  noBorL : List PVal → Bool
    | [] => true
    | c :: cs => c.noBor && noBorL cs
def AObj.ids : AObj → List Nat
  | .row true _ _ xs | .frz true _ xs => PVal.ids.idsL xs
  | _ => []
def AObj.ren (ρ : Nat → Nat) : AObj → AObj
  | .row true e sz xs => .row true e sz (PVal.ren.renL ρ xs)
  | .frz true sz xs => .frz true sz (PVal.ren.renL ρ xs)
  | o => o
def AObj.noBor : AObj → Bool
  | .row true _ _ xs | .frz true _ xs => PVal.noBor.noBorL xs
  | _ => true

/-- What a function is known to do: a condition, its value, the objects behind it (those handed over first, then new ones). -/
structure Ans where
  pre : Prop
  val : PVal
  objs : List AObj
abbrev SpecF := List PVal → List AObj → Ans

/-- Hints: none is trusted. -/
structure Hints where
  /-- of a type's zero value: for each cell that is a slice its element's type and size -/
  zcell : Nat → List (Option (Nat × Nat))
  /-- does a closure (its number) write to what it captured? -/
  keep : Nat → Bool
  /-- results handed over as the caller's own -/
  ownRet : Nat → Bool
  /-- parameters that are lent (the caller goes on writing) -/
  lent : Nat → List Nat
  /-- parameters that are handed over as they are (the callee writes into them) -/
  raw : Nat → List Nat
  /-- live slots at a loop's head: function, block -/
  live : Nat → Nat → List Nat
  /-- live slots where a function's code is cut: function, first region behind -/
  cut : Nat → Nat → Option (List Nat)

structure Env where
  P : Program
  look : Nat → Option Func
  glob : Nat → Option PVal
  spec : Nat → Option SpecF
  /-- functions known, reckoned -/
  run : Nat → Option (List PVal → List AObj → R (PVal × List AObj)) := fun _ => none
  h : Hints

section
variable (E : Env)

def isAggT (t : Nat) : Bool := match E.P.underlying t with | some (.struct _) | some (.array ..) => true | _ => false
def hasType (t : Nat) : Bool := (E.P.info? t).isSome && (E.P.underlying t).isSome
/-- a type of elements: it has a zero, as long as its elements -/
def okT (t : Nat) : Bool := match E.P.info? t with
  | some i => match i.zero with
    | some z => Nat.beq z.cells.size i.size && !Nat.beq i.size 0
    | none => false
  | none => false

/-- a nil slice's element size, by the hints -/
def sizedNil : List PVal → List (Option (Nat × Nat)) → List PVal
  | [], _ => []
  | .sl .nl _ [] :: cs, some (_, sz) :: hs => .sl .nl sz [] :: sizedNil cs hs
  | c :: cs, hs => c :: sizedNil cs hs.tail
def rebuild (z : PVal) (cs : List PVal) : PVal := match z with
  | .agg _ => .agg cs
  | _ => match cs with | [c] => c | _ => .undef
def zeroV (t : Nat) : R PVal := match E.P.info? t with
  | some i => match i.zero with
    | some z => .ok (rebuild (ofConst z) (sizedNil (ofConst z).cells (E.h.zcell t)))
    | none => .no ["no zero"]
  | none => .no ["no type"]

/-- an element of a list that isn't written out, by its type -/
def eta1 (t : Nat) (x : PVal) : PVal := match E.P.underlying t with
  | some (.int k) => .int k (asI x)
  | some .bool => .bool (asB x)
  | some .string => .str (asS x)
  | some (.slice e) => .sl .fr (E.P.cellsOf e) (asL x)
  | _ => x
def etaFields (g : Nat → PVal → Nat → List PVal) : List Field → PVal → Nat → List PVal
  | [], _, _ => []
  | f :: fs, x, off => g f.type x (off + f.offset) ++ etaFields g fs x off
def etaElems (g : Nat → PVal → Nat → List PVal) : Nat → Nat → Nat → PVal → Nat → List PVal
  | 0, _, _, _, _ => []
  | k + 1, e, n, x, off => g e x off ++ etaElems g k e n x (off + n)
def etaC : Nat → Nat → PVal → Nat → List PVal
  | 0, _, _, _ => []
  | n + 1, t, x, off => match E.P.underlying t with
    | some (.struct fs) => etaFields (etaC n) fs.toList x off
    | some (.array k e) => etaElems (etaC n) k e (E.P.cellsOf e) x off
    | _ => [eta1 E t (cellAt x off)]
def eta (t : Nat) (x : PVal) : PVal := if isAggT E t then .agg (etaC E 8 t x 0) else eta1 E t x

/-- Own rows become slices that nobody changes. -/
def freezeV (m : Mode) : PVal → AM PVal
  | .own id => .get id fun
    | .row false _ sz xs => match m with
      | .fr => .put id (.frz false sz xs) (.pure (.sl .fr sz xs))
      | m => .pure (.sl m sz xs)
    | .frz false sz xs => .pure (.sl .fr sz xs)
    | _ => .fail ["freeze: no row"]
  | .sl .clip sz xs => .pure (.sl .fr sz xs)
  | .sl .nl sz xs => .pure (.sl .fr sz xs)
  | .sl (.as _) sz xs => .pure (.sl .fr sz xs)
  | .agg cs => (freezeL cs).bind fun cs => .pure (.agg cs)
  | .tup cs => (freezeL cs).bind fun cs => .pure (.tup cs)
  | v => .pure v
where
  freezeL : List PVal → AM (List PVal)
    | [] => .pure []
    | c :: cs => (freezeV m c).bind fun c => (freezeL cs).bind fun cs => .pure (c :: cs)

/-- A list's elements, whoever holds it. -/
def listOf (sz : Nat) : PVal → AM (List PVal)
  | .sl _ sz' xs => bif Nat.beq sz' sz then .pure xs else .fail ["list: another size"]
  | .own id => .get id fun
    | .row false _ sz' xs => bif Nat.beq sz' sz then .pure xs else .fail ["list: another size"]
    | .frz false sz' xs => bif Nat.beq sz' sz then .pure xs else .fail ["list: another size"]
    | _ => .fail ["list: no row"]
  | _ => .fail ["list: no slice"]

def part (x : PVal) (off n : Nat) (agg : Bool) : R PVal :=
  bif agg then (bif Nat.ble (off + n) x.cells.length then .ok (.agg ((x.cells.drop off).take n)) else .no ["part: too short"])
  else match x.cells[off]? with
    | some c => .ok c
    | none => .no ["part: no such cell"]
def setCells (xs : List PVal) (off : Nat) : List PVal → List PVal
  | [] => xs
  | c :: cs => setCells (xs.set off c) (off + 1) cs
def patch (x : PVal) (off : Nat) (v : PVal) : R PVal :=
  bif Nat.ble (off + v.cells.length) x.cells.length then
    match x with
    | .agg cs => .ok (.agg (setCells cs off v.cells))
    | _ => match v.cells with | [c] => .ok c | _ => .no ["patch: size"]
  else .no ["patch: too long"]

/-- an element of a row: written out where it is a variable's, else by its type -/
def elemAt (bx : Bool) (e : Nat) (xs : List PVal) (i : Nat) : AM PVal :=
  bif bx then (match xs[i]? with | some x => .pure x | none => .fail ["no such element"])
  else .need (i < xs.length ∧ getP xs i = eta E e (getP xs i)) (.pure (eta E e (getP xs i)))

def loadA (t : Nat) (p : PVal) : AM PVal :=
  let n := E.P.cellsOf t
  bif !hasType E t then .fail ["load: no such type"] else
  match p with
  | .ref id sz i off => .get id fun
    | .row bx e sz' xs => bif Nat.beq sz' sz then (elemAt E bx e xs i).bind fun x => .ofR (part x off n (isAggT E t)) else .fail ["load: size"]
    | .frz true sz' xs => bif Nat.beq sz' sz then (elemAt E true 0 xs i).bind fun x => .ofR (part x off n (isAggT E t)) else .fail ["load: size"]
    | _ => .fail ["load: no row"]
  | .fptr _ x => bif isAggT E t then (bif Nat.beq x.cells.length n then .pure (.agg x.cells) else .fail ["load: size"]) else .ofR (part x 0 n false)
  | _ => .fail ["load: no pointer"]

/-- A variable's nil slices: each becomes an empty row of its own. -/
def zeroOwn (n : Nat) : List PVal → List (Option (Nat × Nat)) → List PVal × List (Nat × AObj)
  | [], _ => ([], [])
  | .sl .nl _ [] :: cs, some (e, sz) :: hs => let r := zeroOwn (n + 1) cs hs; (.own n :: r.1, (n, .row false e sz []) :: r.2)
  | c :: cs, hs => let r := zeroOwn n cs hs.tail; (c :: r.1, r.2)
def putAll {α : Type} (l : List (Nat × AObj)) (k : AM α) : AM α := match l with
  | [] => k
  | (id, o) :: r => .put id o (putAll r k)
def hintsOk : List (Option (Nat × Nat)) → Bool
  | [] => true
  | some (_, sz) :: r => !Nat.beq sz 0 && hintsOk r
  | none :: r => hintsOk r
/-- a value as a variable of type t holds it -/
def varOf (n0 t : Nat) (v : PVal) : AM PVal :=
  let r := zeroOwn n0 v.cells (E.h.zcell t)
  bif Nat.ble r.2.length 14 && hintsOk (E.h.zcell t) && oneL r.1 then putAll r.2 (.pure (rebuild v r.1)) else .fail ["slices of a variable"]

/-- A nil of a slice's type, in a variable: an empty row of the call's own. -/
def nilOwn (n0 t : Nat) (v : PVal) : AM PVal := match v with
  | .sl .nl _ [] => match E.P.underlying t with
    | some (.slice e) => bif Nat.ble 1 (E.P.cellsOf e) then .put n0 (.row false e (E.P.cellsOf e) []) (.pure (.own n0)) else .fail ["nil: size"]
    | _ => .pure v
  | v => .pure v

def storeA (n0 t : Nat) (p v : PVal) : AM PVal :=
  match p with
  | .ref id sz i off => .get id fun
    | .row bx _ _ _ => (bif bx then varOf E n0 t v else freezeV .fr v).bind fun v => .get id fun
      | .row bx e sz' xs => bif Nat.beq sz' sz && Nat.beq v.cells.length (E.P.cellsOf t) && (bif bx then oneL v.cells else v.clean) then
          (elemAt E bx e xs i).bind fun x => match patch x off v with
          | .ok x' => .put id (.row bx e sz' (xs.set i x')) (.pure (.tup []))
          | .no w => .fail w
        else .fail ["store: the value"]
      | _ => .fail ["store: no row that may be written"]
    | _ => .fail ["store: no row that may be written"]
  | _ => .fail ["store: no pointer"]

def fieldAddrA (t : Nat) (p : PVal) (f : Nat) : R PVal := match E.P.underlying t with
  | some (.struct fs) => match fs[f]? with
    | some fd =>
      let n := E.P.cellsOf fd.type
      bif Nat.beq n 0 then .no ["fieldAddr: a field of no cells"] else
      match p with
      | .ref id sz i off => .ok (.ref id sz i (off + fd.offset))
      | .fptr b x => (part x fd.offset n (isAggT E fd.type)).bind fun y => .ok (.fptr b y)
      | _ => .no ["fieldAddr: no pointer"]
    | none => .no ["fieldAddr: no such field"]
  | _ => .no ["fieldAddr: no struct"]

def indexAddrA (t : Nat) (p : PVal) (i : PVal) : AM PVal := match i with
  | .int k j => match E.P.underlying t with
    | some (.slice e) =>
      let sz := E.P.cellsOf e
      bif Nat.beq sz 0 then .fail ["indexAddr: no cells"] else
      match p with
      | .sl m sz' xs => bif Nat.beq sz' sz then .need ((0 ≤ j ∧ j < xs.length) ∧ getP xs j.toNat = eta E e (getP xs j.toNat)) (.pure (.fptr (m == .bor) (eta E e (getP xs j.toNat)))) else .fail ["indexAddr: size"]
      | .own id => .get id fun
        | .row false _ sz' xs => bif Nat.beq sz' sz then .need (0 ≤ j ∧ j < xs.length) (.pure (.ref id sz j.toNat 0)) else .fail ["indexAddr: size"]
        | .frz false sz' xs => bif Nat.beq sz' sz then .need ((0 ≤ j ∧ j < xs.length) ∧ getP xs j.toNat = eta E e (getP xs j.toNat)) (.pure (.fptr false (eta E e (getP xs j.toNat)))) else .fail ["indexAddr: size"]
        | _ => .fail ["indexAddr: no row"]
      | _ => .fail ["indexAddr: no slice"]
    | some (.array n e) =>
      let sz := E.P.cellsOf e
      bif Nat.beq sz 0 then .fail ["indexAddr: no cells"] else
      .need (0 ≤ j ∧ j < n) (match p with
        | .ref id sz' i' off => .pure (.ref id sz' i' (off + j.toNat * sz))
        | .fptr b x => .ofR ((part x (j.toNat * sz) sz (isAggT E e)).bind fun y => .ok (.fptr b y))
        | _ => .fail ["indexAddr: no pointer"])
    | _ => .fail ["indexAddr: type"]
  | _ => .fail ["indexAddr: no index"]

def indexA (t : Nat) (x i : PVal) : AM PVal := match i with
  | .int k j => match E.P.underlying t, x with
    | some .string, .str s => .need (0 ≤ j ∧ j < s.size) (.pure (.int .u8 (byteAt s j.toNat)))
    | some (.array n e), .agg cs => bif !hasType E e then .fail ["index: type"] else .need (0 ≤ j ∧ j < n) (.ofR (part (.agg cs) (j.toNat * E.P.cellsOf e) (E.P.cellsOf e) (isAggT E e)))
    | _, _ => .fail ["index: operand"]
  | _ => .fail ["index: no index"]

def fieldA (t : Nat) (x : PVal) (f : Nat) : R PVal := match E.P.underlying t, x with
  | some (.struct fs), .agg cs => match fs[f]? with
    | some fd => bif !hasType E fd.type then .no ["field: type"] else part (.agg cs) fd.offset (E.P.cellsOf fd.type) (isAggT E fd.type)
    | none => .no ["field: no such field"]
  | _, _ => .no ["field: no struct"]

def isSliceT (t : Nat) : Bool := match E.P.underlying t with | some (.slice _) => true | _ => false
def isFuncT (t : Nat) : Bool := match E.P.underlying t with | some (.func ..) => true | _ => false
def isPtrT (t : Nat) : Bool := match E.P.underlying t with | some (.pointer _) => true | _ => false
def isMapT (t : Nat) : Bool := match E.P.underlying t with | some (.map ..) => true | _ => false
/-- '==' of cells that are scalars. -/
def eqCell : PVal → PVal → R Bool
  | .int k a, .int k' b => if k = k' then .ok (decide (a = b)) else .no ["eq: kinds"]
  | .bool a, .bool b => .ok (a == b)
  | .str a, .str b => .ok (decide (a = b))
  | _, _ => .no ["eq: no scalars"]
/-- a scalar of a scalar type -/
def scalFits (t : Nat) : PVal → Bool
  | .int _ _ => match E.P.underlying t with | some (.int _) => true | _ => false
  | .bool _ => match E.P.underlying t with | some .bool => true | _ => false
  | .str _ => match E.P.underlying t with | some .string => true | _ => false
  | _ => false
/-- Flat structs of scalars, field by field. -/
def eqFieldsL : Nat → List Field → List PVal → List PVal → R Bool
  | _, [], [], [] => .ok true
  | i, f :: fs, c :: cs, e :: es => bif Nat.beq f.offset i && f.name != "_" && scalFits E f.type c then (eqCell c e).bind fun b => (eqFieldsL (i + 1) fs cs es).bind fun r => .ok (b && r) else .no ["eq: a struct that isn't flat"]
  | _, _, _, _ => .no ["eq: lengths"]
def eqlA (t : Nat) (x y : PVal) : AM Bool := match x, y with
  | .agg cs, .agg ds => match E.P.underlying t with
    | some (.struct fs) => bif E.P.stoodInHeld t then .fail ["eq: held"] else .ofR (eqFieldsL E 0 fs.toList cs ds)
    | _ => .fail ["eq: no struct"]
  | .sl .nl _ _, .sl .nl _ _ => bif isSliceT E t then .pure true else .fail ["eq: type"]
  | .sl (.as b) _ _, .sl .nl _ _ => bif isSliceT E t then .pure b else .fail ["eq: type"]
  | .nilfn, .nilfn => bif isFuncT E t then .pure true else .fail ["eq: type"]
  | .fn .., .nilfn | .nilfn, .fn .. => bif isFuncT E t then .pure false else .fail ["eq: type"]
  | .nilptr, .nilptr => bif isPtrT E t then .pure true else .fail ["eq: type"]
  | .fptr .., .nilptr | .ref .., .nilptr | .nilptr, .fptr .. | .nilptr, .ref .. => bif isPtrT E t then .pure false else .fail ["eq: type"]
  | .nilmap, .nilmap => bif isMapT E t then .pure true else .fail ["eq: type"]
  | .mapr _, .nilmap | .nilmap, .mapr _ => bif isMapT E t then .pure false else .fail ["eq: type"]
  | _, _ => .fail ["eq: operands"]

def isBoolT (t : Nat) : Bool := match E.P.underlying t with | some .bool => true | _ => false
def binA (op : BinOp) (t : Nat) (x y : PVal) : AM PVal :=
  match x.toV, y.toV with
  | some a, some b => match op, a, b with
    | .quo, .int k m, .int k' n => if k = k' then .need (n ≠ 0) (.pure (.int k (k.wrap (m.tdiv n)))) else .fail ["binOp: kinds"]
    | .rem, .int k m, .int k' n => if k = k' then .need (n ≠ 0) (.pure (.int k (m.tmod n))) else .fail ["binOp: kinds"]
    | .shl, .int k m, .int _ n => .need (0 ≤ n) (.pure (.int k (k.wrap (m * 2 ^ min n.toNat k.bits))))
    | .shr, .int k m, .int _ n => .need (0 ≤ n) (.pure (.int k (m.fdiv (2 ^ min n.toNat k.bits))))
    | .add, .string r, .string s => .need (r.size + s.size ≤ 9223372036854775807) (.pure (.str (r ++ s)))
    | .eql, .bool _, _ => bif isBoolT E t then .ofR ((eqCell x y).bind fun b => .ok (.bool b)) else .fail ["binOp: bools"]
    | .neq, .bool _, _ => bif isBoolT E t then .ofR ((eqCell x y).bind fun b => .ok (.bool !b)) else .fail ["binOp: bools"]
    | .eql, _, _ => .ofR ((eqCell x y).bind fun b => .ok (.bool b))
    | .neq, _, _ => .ofR ((eqCell x y).bind fun b => .ok (.bool !b))
    | _, .bool _, _ => .fail ["binOp: bools"]
    | _, _, _ => .ofR (scal (binOp op t a b))
  | _, _ => match op with
    | .eql => (eqlA E t x y).bind fun b => .pure (.bool b)
    | .neq => (eqlA E t x y).bind fun b => .pure (.bool !b)
    | _ => .fail ["binOp: operands"]

def unA (op : UnOp) (x : PVal) : R PVal := match x.toV with
  | some a => scal (Op.unary op a)
  | none => .no ["unOp: operand"]

def bytesP (s : ByteArray) : List PVal := s.data.toList.map fun b => .int .u8 b.toNat
def strOf (xs : List PVal) : ByteArray := ⟨(xs.map fun x => UInt8.ofNat (asI x).toNat).toArray⟩
def isBytes (xs : List PVal) : Prop := ∀ x ∈ xs, ∃ n : Int, x = .int .u8 n ∧ 0 ≤ n ∧ n < 256
def isByteB : PVal → Bool
  | .int .u8 n => decide (0 ≤ n ∧ n < 256)
  | _ => false
theorem isByteB_iff (x : PVal) : isByteB x = true ↔ ∃ n : Int, x = .int .u8 n ∧ 0 ≤ n ∧ n < 256 := by
  cases x with
  | int k n => cases k <;> simp [isByteB]
  | _ => simp [isByteB]
instance (xs : List PVal) : Decidable (isBytes xs) := if h : xs.all isByteB = true then .isTrue fun x hx => (isByteB_iff x).1 (List.all_eq_true.1 h x hx) else .isFalse fun e => h (List.all_eq_true.2 fun x hx => (isByteB_iff x).2 (e x hx))

def convA (src dst : Nat) (x : PVal) : AM PVal := match E.P.underlying src, E.P.underlying dst, x with
  | some _, some (.int k), .int _ n => .pure (.int k (k.wrap n))
  | some .string, some .string, .str s => .pure (.str s)
  | some .string, some (.slice e), .str s => match E.P.underlying e with
    | some (.int .u8) => .need (s.size ≤ 9223372036854775807) (.pure (.sl .fr 1 (bytesP s)))
    | _ => .fail ["convert: string to slice"]
  | some (.slice e), some .string, x => match E.P.underlying e with
    | some (.int .u8) => (listOf 1 x).bind fun xs => .need (isBytes xs) (.pure (.str (strOf xs)))
    | _ => .fail ["convert: slice to string"]
  | _, _, _ => .fail ["convert: kinds"]

def boundA (x : Option PVal) (d y : Nat) (k : Nat → AM PVal) : AM PVal := match x with
  | none => k d
  | some (.int _ i) => .need (0 ≤ i ∧ i ≤ y) (k i.toNat)
  | some _ => .fail ["slice bound: no int"]

def sliceA (t : Nat) (x : PVal) (lo hi mx : Option PVal) : AM PVal := match E.P.underlying t, x with
  | some .string, .str s => bif mx.isSome then .fail ["slice: string, three"] else
    boundA hi s.size s.size fun h => boundA lo 0 h fun l => .pure (.str (s.extract l h))
  | some (.slice e), x => (freezeV .fr x).bind fun
    | .sl m sz xs => bif Nat.beq sz (E.P.cellsOf e) then (match mx with
      | none => boundA hi xs.length xs.length fun h => boundA lo 0 h fun l => bif (E.P.info? e).isSome then .pure (.sl (if m = .bor then .bor else .fr) sz ((xs.take h).drop l)) else .fail ["slice: type"]
      | some _ => boundA mx 0 xs.length fun q => boundA hi 0 q fun h => boundA lo 0 h fun l => bif (E.P.info? e).isSome then .need (h = q ∧ hi ≠ none) (.pure (.sl (if m = .bor then .bor else .clip) sz ((xs.take h).drop l))) else .fail ["slice: type"])
      else .fail ["slice: size"]
    | _ => .fail ["slice: no slice"]
  | _, _ => .fail ["slice: operand"]

/-- parts of an aggregate put into its zero -/
def fillA (place : Nat → Option (Nat × Nat)) (cs : List PVal) : List (Nat × PVal) → R (List PVal)
  | [] => .ok cs
  | (i, v) :: r => match place i with
    | none => .no ["build: no such place"]
    | some (off, n) => bif Nat.beq v.cells.length n && Nat.ble (off + n) cs.length && oneL v.cells then fillA place (setCells cs off v.cells) r else .no ["build: size"]
def freezeP : List (Nat × PVal) → AM (List (Nat × PVal))
  | [] => .pure []
  | (i, v) :: r => (freezeV .fr v).bind fun v => (freezeP r).bind fun r => .pure ((i, v) :: r)

def buildA (t : Nat) (ps : List (Nat × PVal)) : AM PVal :=
  match zeroV E t with
  | .ok (.agg z) => match E.P.underlying t with
    | some (.struct fs) => bif fs.toList.all fun f => (E.P.info? f.type).isSome then
        .ofR ((fillA (fun i => match fs[i]? with | some f => some (f.offset, E.P.cellsOf f.type) | none => none) z ps).bind fun cs => .ok (.agg cs))
      else .fail ["build: a field's type"]
    | some (.array _ e) => bif (E.P.info? e).isSome then .ofR ((fillA (fun i => some (i * E.P.cellsOf e, E.P.cellsOf e)) z ps).bind fun cs => .ok (.agg cs)) else .fail ["build: the type"]
    | _ => .fail ["build: type"]
  | _ => .fail ["build: zero"]

def setParts (sz : Nat) (xs : List PVal) : List (Nat × PVal) → R (List PVal)
  | [] => .ok xs
  | (i, v) :: r => bif Nat.blt i xs.length && v.clean && Nat.beq v.cells.length sz then setParts sz (xs.set i v) r else .no ["buildSlice: place"]
def buildSliceA (n0 t n : Nat) (ps : List (Nat × PVal)) : AM PVal := match E.P.underlying t with
  | some (.slice e) =>
    let sz := E.P.cellsOf e
    bif !okT E e || Nat.blt 16777216 (n * sz) then .fail ["buildSlice: size"] else
    match zeroV E e with
    | .no w => .fail w
    | .ok z => (freezeV .fr z).bind fun z => (freezeP ps).bind fun ps => bif z.clean && Nat.beq z.cells.length sz then
        match setParts sz (List.replicate n z) ps with
        | .no w => .fail w
        | .ok xs => .put n0 (.row false e sz xs) (.pure (.own n0))
      else .fail ["buildSlice: zero"]
  | _ => .fail ["buildSlice: type"]

def lim : Nat := 140737488355328
def appendA (n0 t : Nat) (x y : PVal) : AM PVal := match E.P.underlying t with
  | some (.slice e) =>
    let sz := E.P.cellsOf e
    bif !okT E e then .fail ["append: size"] else
    match x with
    | .own id => .get id fun
      | .row false e' sz' xs => bif Nat.beq e' e && Nat.beq sz' sz then
          (listOf sz y).bind fun ys => .need ((xs.length + ys.length) * E.P.bytesOf e ≤ lim ∧ xs.length + ys.length ≤ 9223372036854775807) (.put id .none (.put n0 (.row false e sz (xs ++ ys)) (.pure (.own n0))))
        else .fail ["append: another type"]
      | _ => .fail ["append: a row that is gone, or frozen"]
    | .sl .nl _ [] => (listOf sz y).bind fun ys => .need (ys.length * E.P.bytesOf e ≤ lim ∧ ys.length ≤ 9223372036854775807) (.put n0 (.row false e sz ys) (.pure (.own n0)))
    | .sl .clip sz' xs => (listOf sz y).bind fun ys => bif Nat.beq sz' sz then
        .need (ys ≠ [] ∧ (xs.length + ys.length) * E.P.bytesOf e ≤ lim ∧ xs.length + ys.length ≤ 9223372036854775807) (.put n0 (.row false e sz (xs ++ ys)) (.pure (.own n0))) else .fail ["append: size"]
    | _ => .fail ["append: to a slice that isn't the call's own"]
  | _ => .fail ["append: type"]

def makeSliceA (n0 t : Nat) (l c : PVal) : AM PVal := match E.P.underlying t, l, c with
  | some (.slice e), .int _ l, .int _ c =>
    let sz := E.P.cellsOf e
    bif !okT E e then .fail ["make: size"] else
      match zeroV E e with
      | .no w => .fail w
      | .ok z => (freezeV .fr z).bind fun z => bif z.clean && Nat.beq z.cells.length sz then
        .need (0 ≤ l ∧ l ≤ c ∧ c * (E.P.bytesOf e : Int) ≤ 140737488355328 ∧ c ≤ 9223372036854775807) (.put n0 (.row false e sz (List.replicate l.toNat z)) (.pure (.own n0)))
        else .fail ["make: zero"]
  | _, _, _ => .fail ["make: operands"]

def boxA (n0 t : Nat) (v : PVal) : AM PVal :=
  (varOf E (n0 + 1) t v).bind fun v => bif Nat.beq v.cells.length (E.P.cellsOf t) && !Nat.beq v.cells.length 0 then .put n0 (.row true t (E.P.cellsOf t) [v]) (.pure (.ref n0 (E.P.cellsOf t) 0 0)) else .fail ["box: size"]
def allocA (n0 t : Nat) : AM PVal := match zeroV E t with
  | .no w => .fail w
  | .ok z => boxA E n0 t z

/-- What a closure captures: a variable that nobody writes any more is frozen. -/
def captA (keep : Bool) : List PVal → AM (List PVal)
  | [] => .pure []
  | .ref id sz 0 0 :: cs => bif keep then (captA keep cs).bind fun cs => .pure (.ref id sz 0 0 :: cs) else
    .get id fun
      | .row true _ _ [x] => (freezeV .fr x).bind fun x => .get id fun
        | .row true _ sz' [_] => bif oneL x.cells then .put id (.frz true sz' [x]) ((captA keep cs).bind fun cs => .pure (.fptr false x :: cs)) else .fail ["capture: cells"]
        | _ => .fail ["capture: no variable"]
      | .frz true _ [x] => (captA keep cs).bind fun cs => .pure (.fptr false x :: cs)
      | _ => .fail ["capture: no variable"]
  | .fptr b x :: cs => (captA keep cs).bind fun cs => .pure (.fptr b x :: cs)
  | _ => .fail ["capture"]

/-- maps keyed by scalars -/
def keyEq : PVal → PVal → Bool
  | .int _ a, .int _ b => decide (a = b)
  | .bool a, .bool b => a == b
  | .str a, .str b => decide (a = b)
  | _, _ => false
def mget : List (PVal × PVal) → PVal → Option PVal
  | [], _ => none
  | (k', v) :: r, k => bif keyEq k k' then some v else mget r k
def mhas (es : List (PVal × PVal)) (k : PVal) : Bool := (mget es k).isSome
def mgetD (es : List (PVal × PVal)) (k z : PVal) : PVal := (mget es k).getD z
def mset : List (PVal × PVal) → PVal → PVal → List (PVal × PVal)
  | [], k, v => [(k, v)]
  | (k', v') :: r, k, v => bif keyEq k k' then (k, v) :: r else (k', v') :: mset r k v
def keyFits (t : Nat) : PVal → Bool
  | .int k _ => match E.P.underlying t with | some (.int k') => k == k' | _ => false
  | .bool _ => match E.P.underlying t with | some .bool => true | _ => false
  | .str _ => match E.P.underlying t with | some .string => true | _ => false
  | _ => false
/-- all entries are of the map's types -/
def mapFits (kt et : Nat) (es : List (PVal × PVal)) : Prop := ∀ p ∈ es, keyFits E kt p.1 = true ∧ p.2 = eta E et p.2
instance (kt et : Nat) (es : List (PVal × PVal)) : Decidable (mapFits E kt et es) := inferInstanceAs (Decidable (∀ p ∈ es, keyFits E kt p.1 = true ∧ p.2 = eta E et p.2))
def lookupA (t : Nat) (m k : PVal) (ok : Bool) : AM PVal := match E.P.underlying t with
  | some (.map kt et) => bif keyFits E kt k then (match zeroV E et with
    | .no w => .fail w
    | .ok z => (freezeV .fr z).bind fun z => match m with
      | .nilmap => .pure (bif ok then .tup [z, .bool false] else z)
      | .mapr id => .get id fun
        | .mp es => .need (mapFits E kt et es ∧ z = eta E et z) (.pure (bif ok then .tup [eta E et (mgetD es k z), .bool (mhas es k)] else eta E et (mgetD es k z)))
        | _ => .fail ["lookup: no map"]
      | _ => .fail ["lookup: no map"])
    else .fail ["lookup: key"]
  | _ => .fail ["lookup: type"]
def mapUpdateA (t : Nat) (m k v : PVal) : AM PVal := match E.P.underlying t with
  | some (.map kt et) => bif keyFits E kt k then
    (freezeV .fr v).bind fun v => bif v.clean && Nat.beq v.cells.length (E.P.cellsOf et) then (match m with
      | .mapr id => .get id fun
        | .mp es => .need (mapFits E kt et es) (.put id (.mp (mset es k v)) (.pure (.tup [])))
        | _ => .fail ["update: no map"]
      | _ => .fail ["update: no map"]) else .fail ["update: value"]
    else .fail ["update: key"]
  | _ => .fail ["update: type"]

def lenA (t : Nat) (x : PVal) : AM PVal := match E.P.underlying t, x with
  | some .string, .str s => .pure (.int .i64 s.size)
  | some (.slice _), .sl _ _ xs => .pure (.int .i64 xs.length)
  | some (.slice _), .own id => .get id fun
    | .row false _ _ xs => .pure (.int .i64 xs.length)
    | .frz false _ xs => .pure (.int .i64 xs.length)
    | _ => .fail ["len: no row"]
  | some (.array n _), _ => .pure (.int .i64 n)
  | some (.map ..), .nilmap => .pure (.int .i64 0)
  | some (.map ..), .mapr id => .get id fun
    | .mp es => .pure (.int .i64 es.length)
    | _ => .fail ["len: no map"]
  | _, _ => .fail ["len: operand"]

def maxI1 (k : IntKind) : Int → List PVal → R PVal
  | a, [] => .ok (.int k a)
  | a, .int _ b :: r => maxI1 k (if b > a then b else a) r
  | _, _ => .no ["max: no ints"]
def maxI : List PVal → R PVal
  | .int k a :: r => maxI1 k a r
  | _ => .no ["max: no ints"]
def minI1 (k : IntKind) : Int → List PVal → R PVal
  | a, [] => .ok (.int k a)
  | a, .int _ b :: r => minI1 k (if b < a then b else a) r
  | _, _ => .no ["min: no ints"]
def minI : List PVal → R PVal
  | .int k a :: r => minI1 k a r
  | _ => .no ["min: no ints"]

def builtinA (n0 : Nat) (b : Builtin) (ts : Array TypeId) (args : List PVal) : AM PVal := match b, args with
  | .len, [x] => match ts[0]? with
    | some t => lenA E t x
    | none => .fail ["len: type"]
  | .append, [x, y] => match ts[0]?, ts[1]? with
    | some t, some u => bif Nat.beq t u then appendA E n0 t x y else .fail ["append: another source"]
    | _, _ => .fail ["append: types"]
  | .max, xs => .ofR (maxI xs)
  | .min, xs => .ofR (minI xs)
  | _, _ => .fail ["builtin"]

def opd (s : Nat → PVal) : Operand → PVal
  | .tmp t => s t
  | .const v => ofConst v
  | .global g => match E.glob g with | some x => .fptr false x | none => .undef
  | .func f => .fn f []

/-- arguments as they are handed over: first those that nobody changes any more, then those that are lent -/
def argsA (lent raw : List Nat) : Nat → List PVal → AM (List PVal)
  | _, [] => .pure []
  | i, a :: as => (bif raw.contains i || lent.contains i then .pure a else freezeV .fr a).bind fun a => (argsA lent raw (i + 1) as).bind fun as => .pure (a :: as)
def lendA (lent : List Nat) : Nat → List PVal → AM (List PVal)
  | _, [] => .pure []
  | i, a :: as => (bif lent.contains i then freezeV .bor a else .pure a).bind fun a => (lendA lent (i + 1) as).bind fun as => .pure (a :: as)

/-- all objects that some ids lead to -/
def reachA : Nat → List Nat → List (Nat × AObj) → AM (List (Nat × AObj))
  | 0, ids, acc => match ids with | [] => .pure acc | _ => .fail ["reach: too deep"]
  | n + 1, ids, acc => match ids with
    | [] => .pure acc
    | id :: r => bif acc.any (fun p => Nat.beq p.1 id) then reachA n r acc else .get id fun
      | .none => .fail ["reach: an object that is gone"]
      | o => reachA n (o.ids ++ r) (acc ++ [(id, o)])
def idsOf : List (Nat × AObj) → List Nat
  | [] => []
  | (i, _) :: r => i :: idsOf r
def indexIn : List Nat → Nat → Nat → Option Nat
  | [], _, _ => none
  | x :: xs, k, i => bif Nat.beq x k then some i else indexIn xs k (i + 1)
/-- the ids of a list become fl, fl + 1, .. -/
def renOf (ids : List Nat) (fl k : Nat) : Nat := match indexIn ids k 0 with | some i => fl + i | none => k
/-- and back: below m the list's, from m on new ones -/
def backOf (ids : List Nat) (m n0 k : Nat) : Nat := match ids[k]? with | some i => i | none => n0 + (k - m)
def storeOf (os : List AObj) : Store := fun k => match os[k]? with | some o => o | none => .none
def putBack (ρ : Nat → Nat) : Nat → List AObj → AM Unit
  | _, [] => .pure ()
  | k, o :: r => .put (ρ k) (o.ren ρ) (putBack ρ (k + 1) r)

/-- the ids lent -/
def lentIds (lent : List Nat) : Nat → List PVal → List Nat
  | _, [] => []
  | i, a :: as => (bif lent.contains i then a.ids else []) ++ lentIds lent (i + 1) as
/-- the call's operands made ready -/
def prepA (f : Nat) (args : List PVal) : AM (List PVal × List (Nat × AObj)) :=
  (argsA (E.h.lent f) (E.h.raw f) 0 args).bind fun as1 => (lendA (E.h.lent f) 0 as1).bind fun as => (reachA 64 (PVal.ids.idsL as) []).bind fun rs =>
    bif (lentIds (E.h.lent f) 0 as1).all (fun i => !(idsOf rs).contains i) then .pure (as, rs) else .fail ["call: lent, and handed over"]

/-- one operation that is no call of a function; n0: its own ids begin there -/
def act (n0 : Nat) (o : Oper) (s : Nat → PVal) : AM PVal :=
  match o.op with
  | .move x | .assign x => nilOwn E n0 o.type (opd E s x)
  | .pick c a b => match opd E s c with
    | .bool t => match opd E s a, opd E s b with
      | .bool x, .bool y => .pure (.bool (bif t then x else y))
      | x, y => match t with
        | true => .pure x
        | false => .pure y
    | _ => .fail ["pick"]
  | .alloc t => allocA E n0 t
  | .box t x => boxA E n0 t (opd E s x)
  | .build t ps => buildA E t (ps.toList.map fun p => (p.1, opd E s p.2))
  | .buildSlice t n ps => buildSliceA E n0 t n (ps.toList.map fun p => (p.1, opd E s p.2))
  | .load t a => loadA E t (opd E s a)
  | .store t a x => bif (E.P.info? t).isSome then storeA E n0 t (opd E s a) (opd E s x) else .fail ["store: type"]
  | .nilCheck x => match opd E s x with
    | .ref a b c d => .pure (.ref a b c d)
    | .fptr b x => .pure (.fptr b x)
    | .fn f cs => .pure (.fn f cs)
    | _ => .fail ["nilCheck"]
  | .binOp op t x y _ => binA E op t (opd E s x) (opd E s y)
  | .unOp op _ x => .ofR (unA op (opd E s x))
  | .convert a b x => convA E a b (opd E s x)
  | .makeFunc (.func f) first caps => match first with
    | ⟨[]⟩ => (captA (E.h.keep f) (caps.toList.map (opd E s))).bind fun cs => .pure (.fn f cs)
    | _ => .fail ["makeFunc"]
  | .makeMap _ none => .put n0 (.mp []) (.pure (.mapr n0))
  | .makeSlice t l c => makeSliceA E n0 t (opd E s l) (opd E s c)
  | .slice t x lo hi mx => sliceA E t (opd E s x) (lo.map (opd E s)) (hi.map (opd E s)) (mx.map (opd E s))
  | .fieldAddr t x f => .ofR (fieldAddrA E t (opd E s x) f)
  | .field t x f => .ofR (fieldA E t (opd E s x) f)
  | .indexAddr t x i => indexAddrA E t (opd E s x) (opd E s i)
  | .index t x i => indexA E t (opd E s x) (opd E s i)
  | .lookup t m k ok => lookupA E t (opd E s m) (opd E s k) ok
  | .mapUpdate t m k v => mapUpdateA E t (opd E s m) (opd E s k) (opd E s v)
  | .extract x i => match opd E s x with
    | .tup vs => match vs[i]? with
      | some v => .pure v
      | none => .fail ["extract"]
    | _ => .fail ["extract: no tuple"]
  | .call c => match c.callee with
    | .builtin b => builtinA E n0 b c.argTypes (c.args.toList.map (opd E s))
    | _ => .fail ["call"]
  | _ => .fail ["operation"]
def callable (g : Nat) : Bool := match E.look g with
  | some fn => fn.body.isSome
  | none => false
/-- is the operation a call of a function, and of which, with what -/
def calleeOf (o : Oper) (s : Nat → PVal) : Option (Nat × List PVal) := match o.op with
  | .call c => match c.callee with
    | .value f => match opd E s f with
      | .fn g caps => bif callable E g then some (g, c.args.toList.map (opd E s) ++ caps) else none
      | _ => none
    | _ => none
  | _ => none

structure St where
  slots : Nat → PVal
  store : Store
  next : Nat

def updS (s : Nat → PVal) (d : Nat) (v : PVal) : Nat → PVal := fun k => bif Nat.beq k d then v else s k
def setSlot (s : Nat → PVal) (d : Option Nat) (v : PVal) : Nat → PVal := match d with
  | none => s
  | some d => updS s d v

inductive Ex where
  | normal | exit (id : Nat) | ret
  deriving DecidableEq, Inhabited

/-- an own row that is frozen, as a slice -/
def defrost1 (st : Store) : PVal → PVal
  | .own id => match st id with
    | .frz false sz xs => .sl .fr sz xs
    | _ => .own id
  | v => v
def defrost (st : Store) : PVal → PVal
  | .agg cs => .agg (go cs)
  | v => defrost1 st v
where
  go : List PVal → List PVal
    | [] => []
    | c :: cs => defrost1 st c :: go cs
def defrostO (st : Store) : AObj → AObj
  | .row true e sz xs => .row true e sz (go xs)
  | .frz true sz xs => .frz true sz (go xs)
  | o => o
where
  go : List PVal → List PVal
    | [] => []
    | c :: cs => defrost st c :: go cs
/-- the objects from the floor on that ids lead to -/
def reachN (st : Store) (fl : Nat) : Nat → List Nat → List Nat → R (List Nat)
  | 0, ids, acc => match ids with | [] => .ok acc | _ => .no ["reach: too deep"]
  | n + 1, ids, acc => match ids with
    | [] => .ok acc
    | id :: r => bif Nat.blt id fl || acc.contains id then reachN st fl n r acc else reachN st fl n ((defrostO st (st id)).ids ++ r) (acc ++ [id])
def lowO (st : Store) : Nat → Nat → List AObj
  | 0, _ => []
  | n + 1, k => defrostO st (st k) :: lowO st n (k + 1)
def idsO : List AObj → List Nat
  | [] => []
  | o :: r => o.ids ++ idsO r
/-- Values and a store in one form: ids below the floor stay, all others become fl, fl + 1, .. -/
def canon (fl : Nat) (vs : List PVal) (st : Store) : R (List PVal × List AObj) :=
  let vs := defrostO.go st vs
  let low := lowO st fl 0
  (reachN st fl 300 (PVal.ids.idsL vs ++ idsO low) []).bind fun ids =>
    let ρ := renOf ids fl
    .ok (PVal.ren.renL ρ vs, (low ++ ids.map (fun id => defrostO st (st id))).map (·.ren ρ))
def slotsOf : List Nat → List PVal → Nat → PVal
  | t :: ts, v :: vs, k => bif Nat.beq k t then v else slotsOf ts vs k
  | _, _, _ => .undef
/-- a loop's head, out of its live slots' values and all objects -/
def headSt (live : List Nat) (vs : List PVal) (os : List AObj) : St := ⟨slotsOf live vs, storeOf os, os.length⟩
def getSlots (s : Nat → PVal) : List Nat → List PVal
  | [] => []
  | t :: ts => s t :: getSlots s ts

def resultsA (s : Nat → PVal) : List ResultVar → AM (List PVal)
  | [] => .pure []
  | .tmp t :: r => (resultsA s r).bind fun vs => .pure (s t :: vs)
  | .cell a t :: r => (loadA E t (s a)).bind fun v => (resultsA s r).bind fun vs => .pure (v :: vs)
def one : List PVal → PVal
  | [v] => v
  | vs => .tup vs
def retA (own : Bool) (s : Nat → PVal) (rs : List ResultVar) : AM PVal :=
  (resultsA E s rs).bind fun vs => bif own then .pure (one vs) else (freezeV.freezeL .fr vs).bind fun vs => .pure (one vs)

/-- for each operation all that must come ahead of it, whatever the order -/
def dedup : List Nat → List Nat
  | [] => []
  | x :: xs => x :: (dedup xs).filter (· != x)
def predsOf (acc : List (List Nat)) (o : Oper) : List Nat :=
  dedup (o.after.toList.flatMap fun e => if Region.binds .any e then e.on :: acc.getD e.on [] else [])
def preds : List (List Nat) → List Oper → List (List Nat)
  | acc, [] => acc
  | acc, o :: r => preds (acc ++ [predsOf acc o]) r
def meets (a b : List Nat) : Bool := a.any fun x => b.contains x
def indep (ops : Array Oper) (fk fi : List Nat × List Nat) (ok oi : Oper) : Bool :=
  Oper.apart ops ok oi && !meets fk.2 fi.1 && !meets fk.2 fi.2 && !meets fi.2 fk.1
def edgesBack : Nat → List Oper → Bool
  | _, [] => true
  | i, o :: r => o.after.all (fun e => !Region.binds .any e || e.on < i) && edgesBack (i + 1) r
def orderOk (ops : Array Oper) (fps : List (List Nat × List Nat)) : Bool :=
  let l := ops.toList
  let ps := preds [] l
  edgesBack 0 l && Region.noSelect ops &&
  (List.range l.length).all fun i => (List.range i).all fun k =>
    (ps.getD i []).contains k || (match l[k]?, l[i]? with
      | some ok, some oi => indep ops (fps.getD k ([], [])) (fps.getD i ([], [])) ok oi
      | _, _ => false)
end
end Go.Pvm
namespace Go.Pvm

/-- a callee's answer: its value, the objects behind it -/
abbrev CallF := Nat → List PVal → List AObj → R (PVal × List AObj)
abbrev LoopF := Nat → Nat → Nat → Code → List PVal → List AObj → R (Ex × St)
abbrev Foot := List Nat × List Nat

section
variable (E : Env)

/-- is an operation wanted? 'ask d b': if slot d, which holds b, is true -/
inductive Want where
  | yes | no | ask (d : Nat) (w b : Bool)
def wantA (ops : Array Oper) (o : Oper) (s : Nat → PVal) : R Want := match o.guard with
  | none => .ok .yes
  | some (j, w) => match ops[j]? with
    | none => .no ["guard"]
    | some g => match g.dst with
      | none => .no ["guard: no slot"]
      | some d => match s d with
        | .bool b => .ok (.ask d w b)
        | .tup [] => .ok .no
        | _ => .no ["guard: no bool"]

def objsNoBor : List AObj → Bool
  | [] => true
  | o :: r => o.noBor && objsNoBor r
/-- a callee's answer, taken over -/
def finA (n0 : Nat) (ids : List Nat) (v : PVal) (os : List AObj) : AM PVal :=
  let σ := backOf ids ids.length n0
  bif Nat.ble ids.length os.length && Nat.ble os.length (ids.length + 15) && v.noBor && objsNoBor os then (putBack σ 0 os).bind fun _ => .pure (v.ren σ) else .fail ["call: what comes back"]

/-- a callee that is known, or reckoned, or walked into -/
def callR (call : CallF) (f : Nat) (args : List PVal) (objs : List AObj) : R (PVal × List AObj) := match E.run f with
  | some g => g args objs
  | none => call f args objs
noncomputable section
def callS (call : CallF) (n0 f : Nat) (args : List PVal) (st : Store) : R (PVal × Store × List Nat × List Nat) :=
  match (prepA E f args).run st with
  | .no w => .no w
  | .ok ((as, rs), st1, t, w) =>
    let ids := idsOf rs
    let ρ := renOf ids 0
    let fin (v : PVal) (os : List AObj) : R (PVal × Store × List Nat × List Nat) := match (finA n0 ids v os).run st1 with
      | .no w => .no w
      | .ok (v, st2, t2, w2) => .ok (v, st2, t ++ t2, w ++ w2)
    match E.spec f with
    | some g =>
      let a := g (PVal.ren.renL ρ as) (rs.map fun p => p.2.ren ρ)
      open Classical in if a.pre then fin a.val a.objs else .no ["a callee's condition"]
    | none => match callR E call f (PVal.ren.renL ρ as) (rs.map fun p => p.2.ren ρ) with
      | .no w => .no w
      | .ok (v, os) => fin v os

/-- an operation that is wanted -/
def doF (call : CallF) (n0 : Nat) (o : Oper) (s : Nat → PVal) (st : Store) : R (PVal × Store × List Nat × List Nat) :=
  match calleeOf E o s with
  | some (f, args) => callS E call n0 f args st
  | none => (act E n0 o s).run st
def stepF (call : CallF) (ops : Array Oper) (nx i : Nat) (o : Oper) (s : Nat → PVal) (st : Store) : R ((Nat → PVal) × Store × Foot) :=
  let go : Unit → R ((Nat → PVal) × Store × Foot) := fun _ => match doF E call (nx + 16 * i) o s st with
    | .no w => .no w
    | .ok (v, st', t, w) => .ok (setSlot s o.dst v, st', t, w)
  match wantA ops o s with
  | .no w => .no w
  | .ok .yes => go ()
  | .ok .no => .ok (setSlot s o.dst (.tup []), st, [], [])
  | .ok (.ask d w b) => if b = w then go () else .ok (setSlot s o.dst (.tup []), st, [], [])

def runF (call : CallF) (ops : Array Oper) (nx : Nat) : Nat → List Oper → (Nat → PVal) → Store → List Foot → R ((Nat → PVal) × Store × List Foot)
  | _, [], s, st, acc => .ok (s, st, acc)
  | i, o :: r, s, st, acc => match stepF E call ops nx i o s st with
    | .no w => .no w
    | .ok (s', st', fp) => runF call ops nx (i + 1) r s' st' (acc ++ [fp])

def firstRegion : Code → Option Nat
  | .region id _ _ => some id
  | .seq a _ => firstRegion a
  | .block _ c => firstRegion c
  | .loop c => firstRegion c
  | .cond _ a _ => none
  | _ => none
def cutOf (fid : Nat) (c : Code) : Option (List Nat) := match firstRegion c with
  | some r => E.h.cut fid r
  | none => none

/-- code; fl: the function's floor, fid: its number, bid: the block around -/
def exC (call : CallF) (loop : LoopF) (fl fid : Nat) : Nat → Code → St → R (Ex × St)
  | _, .skip, σ => .ok (.normal, σ)
  | _, .region _ ops draw, σ => match runF E call ops σ.next 0 ops.toList σ.slots σ.store [] with
    | .no w => .no w
    | .ok (s, st, fps) => if draw = false ∨ orderOk ops fps = true then .ok (.normal, ⟨s, st, σ.next + 16 * ops.size⟩) else .no ["order"]
  | bid, .seq a b, σ => match exC call loop fl fid bid a σ with
    | .ok (.normal, σ') => (match cutOf E fid b with
      | none => exC call loop fl fid bid b σ'
      | some live => match canon fl (getSlots σ'.slots live) σ'.store with
        | .no w => .no w
        | .ok (vs, os) => exC call loop fl fid bid b (headSt live vs os))
    | r => r
  | bid, .cond c a b, σ => match opd E σ.slots c with
    | .bool t => if t = true then exC call loop fl fid bid a σ else exC call loop fl fid bid b σ
    | _ => .no ["cond"]
  | _, .block id c, σ => match exC call loop fl fid id c σ with
    | .ok (.exit id', σ') => if id' = id then .ok (.normal, σ') else .ok (.exit id', σ')
    | r => r
  | bid, .loop c, σ => match canon fl (getSlots σ.slots (E.h.live fid bid)) σ.store with
    | .no w => .no w
    | .ok (vs, os) => loop fl fid bid c vs os
  | _, .exit id, σ => .ok (.exit id, σ)
  | _, .ret, σ => .ok (.ret, σ)
  | _, _, _ => .no ["code"]

structure Lv where
  call : CallF
  loop : LoopF
def entry (args : List PVal) (objs : List AObj) : St := ⟨fun k => match args[k]? with | some v => v | none => .tup [], storeOf objs, objs.length⟩
/-- what a function hands back -/
def leave (fid fl : Nat) (fn : Func) (σ : St) : R (PVal × List AObj) :=
  match (retA E (E.h.ownRet fid) σ.slots fn.results.toList).run σ.store with
  | .no w => .no w
  | .ok (v, st', _, _) => match canon fl [v] st' with
    | .ok ([v'], os) => .ok (v', os)
    | .ok _ => .no ["leave"]
    | .no w => .no w
def callStep (l : Lv) : CallF := fun f args objs => match E.look f with
  | none => .no ["no such function"]
  | some fn => match fn.body with
    | none => .no ["no body"]
    | some c => match exC E l.call l.loop objs.length f 0 c (entry args objs) with
      | .no w => .no w
      | .ok (.exit _, _) => .no ["exit"]
      | .ok (_, σ) => leave E f objs.length fn σ
def loopStep (l : Lv) : LoopF := fun fl fid bid c vs os => match exC E l.call l.loop fl fid bid c (headSt (E.h.live fid bid) vs os) with
  | .ok (.normal, σ') => (match canon fl (getSlots σ'.slots (E.h.live fid bid)) σ'.store with
    | .no w => .no w
    | .ok (vs', os') => l.loop fl fid bid c vs' os')
  | r => r
def lv : Nat → Lv
  | 0 => ⟨fun _ _ _ => .no ["fuel"], fun _ _ _ _ _ _ => .no ["fuel"]⟩
  | n + 1 => ⟨callStep E (lv n), loopStep E (lv n)⟩
end

/- the same as a condition: what must hold for the code to come to what K asks -/
abbrev CallV := Nat → List PVal → List AObj → (PVal → List AObj → Prop) → Prop

inductive Fail (why : List String) : Prop
theorem Fail.elim {why : List String} {p : Prop} (h : Fail why) : p := by cases h
def br (b : Bool) (x y : Prop) : Prop := match b with | true => x | false => y
def AM.vc {α : Type} : AM α → Store → (α → Store → List Nat → List Nat → Prop) → Prop
  | .pure a, s, K => K a s [] []
  | .fail w, _, _ => Fail w
  | .get id k, s, K => (k (s id)).vc s fun a s' t w => K a s' (id :: t) w
  | .put id o k, s, K => k.vc (s.upd id o) fun a s' t w => K a s' t (id :: w)
  | @AM.need _ p _ k, s, K => p ∧ k.vc s K

structure CallP (f : Nat) (args : List PVal) (objs : List AObj) (K : PVal → List AObj → Prop) : Prop where
  ex : ∃ n v os, (lv E n).call f args objs = .ok (v, os) ∧ K v os
structure LoopP (fl fid bid : Nat) (c : Code) (vs : List PVal) (os : List AObj) (K : Ex → St → Prop) : Prop where
  ex : ∃ n e σ, (lv E n).loop fl fid bid c vs os = .ok (e, σ) ∧ K e σ
/-- code whose head is in one form, to be looked at apart -/
structure CodeP (fl fid bid : Nat) (c : Code) (σ : St) (K : Ex → St → Prop) : Prop where
  ex : ∃ n e σ', exC E (lv E n).call (lv E n).loop fl fid bid c σ = .ok (e, σ') ∧ K e σ'
def CutP (fl fid bid : Nat) (c : Code) (live : List Nat) (vs : List PVal) (os : List AObj) (K : Ex → St → Prop) : Prop :=
  CodeP E fl fid bid c (headSt live vs os) K

def callV (call : CallV) (n0 f : Nat) (args : List PVal) (st : Store) (K : PVal → Store → List Nat → List Nat → Prop) : Prop :=
  (prepA E f args).vc st fun p st1 t w =>
    let ids := idsOf p.2
    let ρ := renOf ids 0
    match E.spec f with
    | some g =>
      let a := g (PVal.ren.renL ρ p.1) (p.2.map fun q => q.2.ren ρ)
      a.pre ∧ (finA n0 ids a.val a.objs).vc st1 fun v st2 t2 w2 => K v st2 (t ++ t2) (w ++ w2)
    | none => match E.run f with
      | some _ => Fail ["reckoned"]
      | none => call f (PVal.ren.renL ρ p.1) (p.2.map fun q => q.2.ren ρ) fun v os => (finA n0 ids v os).vc st1 fun v st2 t2 w2 => K v st2 (t ++ t2) (w ++ w2)
def doV (call : CallV) (n0 : Nat) (o : Oper) (s : Nat → PVal) (st : Store) (K : PVal → Store → List Nat → List Nat → Prop) : Prop :=
  match calleeOf E o s with
  | some (f, args) => callV E call n0 f args st K
  | none => (act E n0 o s).vc st K
def stepV (call : CallV) (ops : Array Oper) (nx i : Nat) (o : Oper) (s : Nat → PVal) (st : Store) (K : (Nat → PVal) → Store → Foot → Prop) : Prop :=
  match wantA ops o s with
  | .no w => Fail w
  | .ok .yes => doV E call (nx + 16 * i) o s st fun v st' t w => K (setSlot s o.dst v) st' (t, w)
  | .ok .no => K (setSlot s o.dst (.tup [])) st ([], [])
  | .ok (.ask d true b) => br b
    (doV E call (nx + 16 * i) o (updS s d (.bool true)) st fun v st' t w => K (setSlot (updS s d (.bool true)) o.dst v) st' (t, w))
    (K (setSlot (updS s d (.bool false)) o.dst (.tup [])) st ([], []))
  | .ok (.ask d false b) => br b
    (K (setSlot (updS s d (.bool true)) o.dst (.tup [])) st ([], []))
    (doV E call (nx + 16 * i) o (updS s d (.bool false)) st fun v st' t w => K (setSlot (updS s d (.bool false)) o.dst v) st' (t, w))
def runV (call : CallV) (ops : Array Oper) (nx : Nat) : Nat → List Oper → (Nat → PVal) → Store → List Foot → ((Nat → PVal) → Store → List Foot → Prop) → Prop
  | _, [], s, st, acc, K => K s st acc
  | i, o :: r, s, st, acc, K => stepV E call ops nx i o s st fun s' st' fp => runV call ops nx (i + 1) r s' st' (acc ++ [fp]) K
/-- what follows a block's code; a loop's round; a function's code -/
def kB (id : Nat) (K : Ex → St → Prop) : Ex → St → Prop := fun e σ => match e with
  | .exit id' => (bif Nat.beq id' id then K .normal σ else K (.exit id') σ)
  | .normal => K .normal σ
  | .ret => K .ret σ
def kL (fl fid bid : Nat) (K : Ex → St → Prop) (J : List PVal → List AObj → Prop) : Ex → St → Prop := fun e σ => match e with
  | .normal => (match canon fl (getSlots σ.slots (E.h.live fid bid)) σ.store with
    | .no w => Fail w
    | .ok (vs', os') => J vs' os')
  | .exit id => K (.exit id) σ
  | .ret => K .ret σ
def vcC (call : CallV) (fl fid : Nat) : Nat → Code → St → (Ex → St → Prop) → Prop
  | _, .skip, σ, K => K .normal σ
  | _, .region _ ops draw, σ, K => runV E call ops σ.next 0 ops.toList σ.slots σ.store [] fun s st fps =>
    match draw || orderOk ops fps, draw with
    | _, false => K .normal ⟨s, st, σ.next + 16 * ops.size⟩
    | _, true => match orderOk ops fps with
      | true => K .normal ⟨s, st, σ.next + 16 * ops.size⟩
      | false => Fail ["order"]
  | bid, .seq a b, σ, K => vcC call fl fid bid a σ fun e σ' => match e with
    | .normal => (match cutOf E fid b with
      | none => vcC call fl fid bid b σ' K
      | some live => match canon fl (getSlots σ'.slots live) σ'.store with
        | .no w => Fail w
        | .ok (vs, os) => CutP E fl fid bid b live vs os K)
    | .exit id => K (.exit id) σ'
    | .ret => K .ret σ'
  | bid, .cond c a b, σ, K => match opd E σ.slots c with
    | .bool t => br t (vcC call fl fid bid a σ K) (vcC call fl fid bid b σ K)
    | _ => Fail ["cond"]
  | _, .block id c, σ, K => vcC call fl fid id c σ (kB id K)
  | bid, .loop c, σ, K => match canon fl (getSlots σ.slots (E.h.live fid bid)) σ.store with
    | .no w => Fail w
    | .ok (vs, os) => LoopP E fl fid bid c vs os K
  | _, .exit id, σ, K => K (.exit id) σ
  | _, .ret, σ, K => K .ret σ
  | _, _, _, _ => Fail ["code"]
def leaveV (fid fl : Nat) (fn : Func) (σ : St) (K : PVal → List AObj → Prop) : Prop :=
  (retA E (E.h.ownRet fid) σ.slots fn.results.toList).vc σ.store fun v st' _ _ => match canon fl [v] st' with
    | .ok ([v'], os) => K v' os
    | .ok _ => Fail ["leave"]
    | .no w => Fail w
def kT (f fl : Nat) (K : PVal → List AObj → Prop) : Ex → St → Prop := fun e σ => match e with
  | .exit _ => Fail ["exit"]
  | .normal => (match E.look f with
    | some fn => leaveV E f fl fn σ K
    | none => Fail ["no such function"])
  | .ret => (match E.look f with
    | some fn => leaveV E f fl fn σ K
    | none => Fail ["no such function"])
def bodyC (f : Nat) : Code := match E.look f with
  | none => .skip
  | some fn => match fn.body with
    | none => .skip
    | some c => c
def bodyV (call : CallV) (f : Nat) (args : List PVal) (objs : List AObj) (K : PVal → List AObj → Prop) : Prop :=
  match E.look f with
  | none => Fail ["no such function"]
  | some fn => match fn.body with
    | none => Fail ["no body"]
    | some c => vcC E call objs.length f 0 c (entry args objs) (kT E f objs.length K)
/-- calls unfolded so deep -/
def vcF : Nat → CallV
  | 0 => CallP E
  | n + 1 => bodyV E (vcF n)
/-- a loop's body, from a head on: K behind a way out, J behind a round -/
def bodyL (call : CallV) (fl fid bid : Nat) (c : Code) (vs : List PVal) (os : List AObj) (K : Ex → St → Prop) (J : List PVal → List AObj → Prop) : Prop :=
  vcC E call fl fid bid c (headSt (E.h.live fid bid) vs os) (kL E fl fid bid K J)
/-- what follows a code's first part -/
def kS (call : CallV) (fl fid bid : Nat) (b : Code) (K : Ex → St → Prop) : Ex → St → Prop := fun e σ' => match e with
  | .normal => (match cutOf E fid b with
    | none => vcC E call fl fid bid b σ' K
    | some live => match canon fl (getSlots σ'.slots live) σ'.store with
      | .no w => Fail w
      | .ok (vs, os) => CutP E fl fid bid b live vs os K)
  | .exit id => K (.exit id) σ'
  | .ret => K .ret σ'
/-- a place in a function's code; what follows it (Js: what the loops around go on with) -/
def subC : List Nat → Code → Code
  | 0 :: p, .seq a _ => subC p a
  | _ :: p, .seq _ b => subC p b
  | 0 :: p, .cond _ a _ => subC p a
  | _ :: p, .cond _ _ b => subC p b
  | _ :: p, .block _ c => subC p c
  | _ :: p, .loop c => subC p c
  | _, c => c
def cd (f : Nat) (p : List Nat) : Code := subC p (bodyC E f)
def katC (call : CallV) (fl fid : Nat) : List Nat → Code → Nat → (Ex → St → Prop) → List (List PVal → List AObj → Prop) → Ex → St → Prop
  | 0 :: p, .seq a b, bid, K, Js => katC call fl fid p a bid (kS E call fl fid bid b K) Js
  | _ :: p, .seq _ b, bid, K, Js => katC call fl fid p b bid K Js
  | 0 :: p, .cond _ a _, bid, K, Js => katC call fl fid p a bid K Js
  | _ :: p, .cond _ _ b, bid, K, Js => katC call fl fid p b bid K Js
  | _ :: p, .block id c, _, K, Js => katC call fl fid p c id (kB id K) Js
  | _ :: p, .loop c, bid, K, J :: Js => katC call fl fid p c bid (kL E fl fid bid K J) Js
  | _, _, _, K, _ => K
def kat (n fl fid : Nat) (p : List Nat) (K : PVal → List AObj → Prop) (Js : List (List PVal → List AObj → Prop)) : Ex → St → Prop :=
  katC E (vcF E n) fl fid p (bodyC E fid) 0 (kT E fid fl K) Js
end
end Go.Pvm
namespace Go.Pvm
open Go.RowKit

structure Ctx where
  w : World
  φ : Nat → Option Value
  Z : Nat → Prop
  B : Nat → Prop
/-- a block that nobody changes, or that is lent -/
def Ctx.S (Γ : Ctx) (b : Bool) (k : Nat) : Prop := Γ.Z k ∨ (b = true ∧ Γ.B k)

inductive VR (Γ : Ctx) : PVal → Value → Prop
  | undef (v : Value) : VR Γ .undef v
  | int (k : IntKind) (n : Int) : VR Γ (.int k n) (.int k n)
  | bool (b : Bool) : VR Γ (.bool b) (.bool b)
  | str (s : ByteArray) : VR Γ (.str s) (.string s)
  | agg (cs : List PVal) (vs : Array Value) (hl : cs.length = vs.size)
      (h : ∀ (i : Nat) (c : PVal) (v : Value), cs[i]? = some c → vs[i]? = some v → VR Γ c v) : VR Γ (.agg cs) (.agg vs)
  | tup (cs : List PVal) (vs : Array Value) (hl : cs.length = vs.size)
      (h : ∀ (i : Nat) (c : PVal) (v : Value), cs[i]? = some c → vs[i]? = some v → VR Γ c v) : VR Γ (.tup cs) (.tuple vs)
  | sl (m : Mode) (sz : Nat) (xs : List PVal) (a : Option Addr) (cap : Nat)
      (hnl : m = .nl → xs = [] ∧ a = none ∧ cap = 0) (hcl : (m = .clip → cap = xs.length) ∧ ∀ b, m = .as b → a.isNone = b) (hcap : xs.length ≤ cap)
      (hsz : ∀ x ∈ xs, x.cells.length = sz) (hcn : ∀ x ∈ xs, x.clean = true)
      (hz : xs ≠ [] → ∃ ad, a = some ad ∧ Γ.S (m == .bor) ad.block) (f : Nat → Nat → Value)
      (hc : ∀ (ad : Addr) (i : Nat) (x : PVal) (j : Nat) (c : PVal), a = some ad → xs[i]? = some x → x.cells[j]? = some c → Γ.w.cell? (ad.add (i * sz + j)) = some (f i j))
      (hv : ∀ (i : Nat) (x : PVal) (j : Nat) (c : PVal), xs[i]? = some x → x.cells[j]? = some c → VR Γ c (f i j)) :
      VR Γ (.sl m sz xs) (.slice a xs.length cap)
  | own (id : Nat) (a : Option Addr) (n cap : Nat) (h : Γ.φ id = some (.slice a n cap)) : VR Γ (.own id) (.slice a n cap)
  | ref (id sz i off g : Nat) (v : Value) (h : Γ.φ id = some v) (hg : v.ownBlock = some g) : VR Γ (.ref id sz i off) (.pointer (some ⟨g, i * sz + off, none⟩))
  | fptr (b : Bool) (x : PVal) (ad : Addr) (hz : Γ.S b ad.block) (ho : oneL x.cells = true) (f : Nat → Value)
      (hc : ∀ (j : Nat) (c : PVal), x.cells[j]? = some c → Γ.w.cell? (ad.add j) = some (f j))
      (hv : ∀ (j : Nat) (c : PVal), x.cells[j]? = some c → VR Γ c (f j)) : VR Γ (.fptr b x) (.pointer (some ad))
  | nilptr : VR Γ .nilptr (.pointer none)
  | fn (g : Nat) (cs : List PVal) (vs : Array Value) (hl : cs.length = vs.size)
      (h : ∀ (i : Nat) (c : PVal) (v : Value), cs[i]? = some c → vs[i]? = some v → VR Γ c v) : VR Γ (.fn g cs) (.func (.func g) #[] vs)
  | nilfn : VR Γ .nilfn .nilFunc
  | mapr (id r : Nat) (h : Γ.φ id = some (.map (some r))) : VR Γ (.mapr id) (.map (some r))
  | nilmap : VR Γ .nilmap (.map none)
  | iface (t : Nat) (p : PVal) (v : Value) (h : VR Γ p v) : VR Γ (.iface t p) (.iface t v)
  | nilif : VR Γ .nilif .nilIface

/-- What was known lives on. -/
structure Ctx.le (Γ Γ' : Ctx) : Prop where
  Z : ∀ b, Γ.Z b → Γ'.Z b
  B : ∀ b, Γ'.B b ↔ Γ.B b
  blk : ∀ b, Γ.Z b ∨ Γ.B b → Γ'.w.heap[b]? = Γ.w.heap[b]?
  φ : ∀ id v, Γ.φ id = some v → Γ'.φ id = some v
theorem Ctx.le.refl (Γ : Ctx) : Γ.le Γ := ⟨fun _ h => h, fun _ => Iff.rfl, fun _ _ => rfl, fun _ _ h => h⟩
theorem Ctx.le.trans {a b c : Ctx} (h : a.le b) (k : b.le c) : a.le c :=
  ⟨fun x hx => k.Z x (h.Z x hx), fun x => (k.B x).trans (h.B x), fun x hx => (k.blk x (hx.imp (h.Z x) (h.B x).2)).trans (h.blk x hx), fun i v hv => k.φ i v (h.φ i v hv)⟩
theorem Ctx.le.S {Γ Γ' : Ctx} (h : Γ.le Γ') {b : Bool} {k : Nat} (hs : Γ.S b k) : Γ'.S b k := hs.imp (h.Z k) fun ⟨e, hb⟩ => ⟨e, (h.B k).2 hb⟩
theorem Ctx.S.ZB {Γ : Ctx} {b : Bool} {k : Nat} (hs : Γ.S b k) : Γ.Z k ∨ Γ.B k := hs.imp id (·.2)
theorem Ctx.le.cell {Γ Γ' : Ctx} (h : Γ.le Γ') {a : Addr} (hz : Γ.Z a.block ∨ Γ.B a.block) : Γ'.w.cell? a = Γ.w.cell? a := World.cell?_of_block (h.blk a.block hz)
theorem add_block (a : Addr) (n : Nat) : (a.add n).block = a.block := by unfold Addr.add; split <;> rfl

theorem VR.mono {Γ Γ' : Ctx} (hle : Γ.le Γ') {p : PVal} {v : Value} (h : VR Γ p v) : VR Γ' p v := by
  induction h with
  | undef v => exact .undef v
  | int k n => exact .int k n
  | bool b => exact .bool b
  | str s => exact .str s
  | agg cs vs hl _ ih => exact .agg cs vs hl ih
  | tup cs vs hl _ ih => exact .tup cs vs hl ih
  | sl m sz xs a cap hnl hcl hcap hsz hcn hz f hc _ ih =>
    refine .sl m sz xs a cap hnl hcl hcap hsz hcn (fun hx => ?_) f (fun ad i x j c ha hx hcc => ?_) ih
    · obtain ⟨ad, e, z⟩ := hz hx
      exact ⟨ad, e, hle.S z⟩
    · have hne : xs ≠ [] := by intro e; subst e; simp at hx
      obtain ⟨ad', e, z⟩ := hz hne
      have : ad' = ad := by rw [ha] at e; exact (Option.some.inj e).symm
      subst this
      rw [hle.cell (by rw [add_block]; exact z.ZB)]
      exact hc _ i x j c ha hx hcc
  | own id a n cap h => exact .own id a n cap (hle.φ _ _ h)
  | ref id sz i off g v h hg => exact .ref id sz i off g v (hle.φ _ _ h) hg
  | fptr b x ad hz ho f hc _ ih => exact .fptr b x ad (hle.S hz) ho f (fun j c hj => by rw [hle.cell (by rw [add_block]; exact hz.ZB)]; exact hc j c hj) ih
  | nilptr => exact .nilptr
  | fn g cs vs hl _ ih => exact .fn g cs vs hl ih
  | nilfn => exact .nilfn
  | mapr id r h => exact .mapr id r (hle.φ _ _ h)
  | nilmap => exact .nilmap
  | iface t p v _ ih => exact .iface t p v ih
  | nilif => exact .nilif
end Go.Pvm
namespace Go.Pvm
open Go.RowKit

def blk : Value → Option Nat
  | .slice (some a) _ _ => some a.block
  | .map (some r) => some r
  | _ => none
def AObj.live : AObj → Bool
  | .row .. | .mp _ => true
  | _ => false

def CellsOK (Γ : Ctx) (sz : Nat) (xs : List PVal) (vs : List Value) : Prop :=
  (∀ x ∈ xs, x.cells.length = sz ∧ oneL x.cells = true) ∧
  ∀ (i : Nat) (x : PVal) (j : Nat) (c : PVal), xs[i]? = some x → x.cells[j]? = some c → ∃ u, vs[i * sz + j]? = some u ∧ VR Γ c u
def RowOK (Γ : Ctx) (id : Nat) (bx : Bool) (e sz : Nat) (xs : List PVal) : Prop :=
  ∃ v vs, Γ.φ id = some v ∧ 0 < sz ∧ Γ.w.ownsRow 0 e sz v xs.length vs ∧ CellsOK Γ sz xs vs ∧ (bx = false → ∀ x ∈ xs, x.clean = true)
def FrzOK (Γ : Ctx) (id : Nat) (bx : Bool) (sz : Nat) (xs : List PVal) : Prop :=
  ∃ a cap, Γ.φ id = some (.slice a xs.length cap) ∧ xs.length ≤ cap ∧ (∀ x ∈ xs, x.cells.length = sz ∧ oneL x.cells = true) ∧
    (xs ≠ [] → ∃ g, a = some ⟨g, 0, none⟩ ∧ Γ.Z g ∧ ∃ f : Nat → Nat → Value, ∀ (i : Nat) (x : PVal) (j : Nat) (c : PVal), xs[i]? = some x → x.cells[j]? = some c → Γ.w.cell? ⟨g, i * sz + j, none⟩ = some (f i j) ∧ VR Γ c (f i j)) ∧
    (bx = false → ∀ x ∈ xs, x.clean = true)
def MapOK (Γ : Ctx) (id : Nat) (es : List (PVal × PVal)) : Prop :=
  ∃ (r : Nat) (ents : Array MapEntry) (clock : Nat), Γ.φ id = some (.map (some r)) ∧ Γ.w.heap[r]? = some (.map ents clock) ∧ ents.size = es.length ∧
    ∀ (i : Nat) (p : PVal × PVal) (m : MapEntry), es[i]? = some p → ents[i]? = some m → VR Γ p.1 m.key ∧ VR Γ p.2 m.val ∧ p.2.clean = true ∧ p.1.clean1 = true
def ObjOK (Γ : Ctx) (id : Nat) : AObj → Prop
  | .none => True
  | .row bx e sz xs => RowOK Γ id bx e sz xs
  | .frz bx sz xs => FrzOK Γ id bx sz xs
  | .mp es => MapOK Γ id es

/-- The store stands in the context; its living objects lie in blocks that may be written (K), each in its own. -/
structure SR (K : Nat → Prop) (Γ : Ctx) (st : Store) : Prop where
  obj : ∀ id, ObjOK Γ id (st id)
  own : ∀ id v k, (st id).live = true → Γ.φ id = some v → blk v = some k → K k ∧ ¬ Γ.Z k ∧ ¬ Γ.B k
  disj : ∀ id id' v v' k, (st id).live = true → (st id').live = true → Γ.φ id = some v → Γ.φ id' = some v' → blk v = some k → blk v' = some k → id = id'
  zlt : ∀ b, Γ.Z b ∨ Γ.B b → b < Γ.w.heap.size

/-- Since w0 only blocks of M, and new ones, have been written. -/
structure Keep (w0 : World) (M : Nat → Prop) (w : World) : Prop where
  os : w.os = w0.os
  tape : w.tape = w0.tape
  output : w.output = w0.output
  size : w0.heap.size ≤ w.heap.size
  block : ∀ b, b < w0.heap.size → ¬ M b → w.heap[b]? = w0.heap[b]?
abbrev KK (w0 : World) (M : Nat → Prop) : Nat → Prop := fun b => M b ∨ w0.heap.size ≤ b
theorem Keep.refl (w : World) (M : Nat → Prop) : Keep w M w := ⟨rfl, rfl, rfl, Nat.le_refl _, fun _ _ _ => rfl⟩
/-- what a step may turn: nothing but blocks that may be written -/
theorem Keep.step {w0 w w' : World} {M : Nat → Prop} (h : Keep w0 M w) (ho : w'.os = w.os) (ht : w'.tape = w.tape) (hp : w'.output = w.output) (hs : w.heap.size ≤ w'.heap.size)
    (hb : ∀ b, b < w.heap.size → ¬ KK w0 M b → w'.heap[b]? = w.heap[b]?) : Keep w0 M w' :=
  ⟨ho.trans h.os, ht.trans h.tape, hp.trans h.output, Nat.le_trans h.size hs, fun b hl hm => (hb b (Nat.lt_of_lt_of_le hl h.size) (fun hk => hk.elim hm (fun h2 => by omega))).trans (h.block b hl hm)⟩

theorem ownBlock_blk {v : Value} {g : Nat} (h : v.ownBlock = some g) : blk v = some g := by
  cases v <;> try (simp [Value.ownBlock] at h; done)
  rename_i a n c
  cases a <;> simp [Value.ownBlock] at h
  simp [blk, h]
theorem ownsRow_heap {w w' : World} {base e size n : Nat} {v : Value} {xs : List Value} (h : w.ownsRow base e size v n xs)
    (hb : ∀ k, blk v = some k → w'.heap[k]? = w.heap[k]?) : w'.ownsRow base e size v n xs := by
  refine ⟨h.1, ?_⟩
  rcases h.2 with hn | ⟨g, cap, cur, rfl, hbase, hg, rest⟩
  · exact .inl hn
  · exact .inr ⟨g, cap, cur, rfl, hbase, (hb g rfl).trans hg, rest⟩

theorem CellsOK.mono {Γ Γ' : Ctx} (hle : Γ.le Γ') {sz : Nat} {xs : List PVal} {vs : List Value} (h : CellsOK Γ sz xs vs) : CellsOK Γ' sz xs vs :=
  ⟨h.1, fun i x j c hx hc => by obtain ⟨u, hu, hv⟩ := h.2 i x j c hx hc; exact ⟨u, hu, hv.mono hle⟩⟩
theorem ObjOK.keep {Γ Γ' : Ctx} (hle : Γ.le Γ') {id : Nat} {o : AObj} (hb : ∀ v k, o.live = true → Γ.φ id = some v → blk v = some k → Γ'.w.heap[k]? = Γ.w.heap[k]?) (h : ObjOK Γ id o) : ObjOK Γ' id o := by
  cases o with
  | none => trivial
  | row bx e sz xs =>
    obtain ⟨v, vs, hv, hs, hr, hc, hcl⟩ := h
    exact ⟨v, vs, hle.φ _ _ hv, hs, ownsRow_heap hr (fun k hk => hb v k rfl hv hk), hc.mono hle, hcl⟩
  | frz bx sz xs =>
    obtain ⟨a, cap, hv, hcap, hs, hz, hcl⟩ := h
    refine ⟨a, cap, hle.φ _ _ hv, hcap, hs, fun hne => ?_, hcl⟩
    obtain ⟨g, ha, hzg, f, hf⟩ := hz hne
    refine ⟨g, ha, hle.Z _ hzg, f, fun i x j c hx hc => ?_⟩
    obtain ⟨h1, h2⟩ := hf i x j c hx hc
    exact ⟨(hle.cell (a := ⟨g, _, none⟩) (.inl hzg)).trans h1, h2.mono hle⟩
  | mp es =>
    obtain ⟨r, ents, clock, hv, hr, hn, he⟩ := h
    refine ⟨r, ents, clock, hle.φ _ _ hv, (hb _ r rfl hv rfl).trans hr, hn, fun i p m hp hm => ?_⟩
    obtain ⟨h1, h2, h3⟩ := he i p m hp hm
    exact ⟨h1.mono hle, h2.mono hle, h3⟩

theorem upd_same (st : Store) (id : Nat) (o : AObj) : (st.upd id o) id = o := by simp [Store.upd]
theorem upd_ne (st : Store) {id k : Nat} (o : AObj) (h : k ≠ id) : (st.upd id o) k = st k := by
  have : Nat.beq k id = false := by
    cases hb : Nat.beq k id with
    | true => exact absurd (Nat.eq_of_beq_eq_true hb) h
    | false => rfl
  simp [Store.upd, this]

/-- One object turns, or comes; all others stay. -/
theorem SR.put {K : Nat → Prop} {Γ Γ' : Ctx} {st : Store} (h : SR K Γ st) (hle : Γ.le Γ') (id : Nat) (o : AObj)
    (hoth : ∀ id' v k, id' ≠ id → (st id').live = true → Γ.φ id' = some v → blk v = some k → Γ'.w.heap[k]? = Γ.w.heap[k]? ∧ ¬ Γ'.Z k)
    (hφ : ∀ id' v, id' ≠ id → Γ'.φ id' = some v → Γ.φ id' = some v)
    (hnew : ObjOK Γ' id o)
    (hown : o.live = true → ∀ v k, Γ'.φ id = some v → blk v = some k → K k ∧ ¬ Γ'.Z k ∧ ¬ Γ'.B k ∧ ∀ id' v', id' ≠ id → (st id').live = true → Γ.φ id' = some v' → blk v' ≠ some k)
    (hz : ∀ b, Γ'.Z b ∨ Γ'.B b → b < Γ'.w.heap.size) : SR K Γ' (st.upd id o) := by
  refine ⟨fun id' => ?_, fun id' v k hl hv hk => ?_, fun i1 i2 v v' k h1 h2 hv hv' hk hk' => ?_, hz⟩
  · by_cases he : id' = id
    · subst he; rw [upd_same]; exact hnew
    · rw [upd_ne _ _ he]
      exact (h.obj id').keep hle fun v k hl hv hk => (hoth id' v k he hl hv hk).1
  · by_cases he : id' = id
    · subst he; rw [upd_same] at hl; exact ⟨(hown hl v k hv hk).1, (hown hl v k hv hk).2.1, (hown hl v k hv hk).2.2.1⟩
    · rw [upd_ne _ _ he] at hl
      exact ⟨(h.own id' v k hl (hφ id' v he hv) hk).1, (hoth id' v k he hl (hφ id' v he hv) hk).2, fun hb => (h.own id' v k hl (hφ id' v he hv) hk).2.2 ((hle.B k).1 hb)⟩
  · by_cases e1 : i1 = id
    · by_cases e2 : i2 = id
      · exact e1.trans e2.symm
      · subst e1
        rw [upd_same] at h1; rw [upd_ne _ _ e2] at h2
        exact absurd hk' ((hown h1 v k hv hk).2.2.2 i2 v' e2 h2 (hφ i2 v' e2 hv'))
    · by_cases e2 : i2 = id
      · subst e2
        rw [upd_same] at h2; rw [upd_ne _ _ e1] at h1
        exact absurd hk ((hown h2 v' k hv' hk').2.2.2 i1 v e1 h1 (hφ i1 v e1 hv))
      · rw [upd_ne _ _ e1] at h1; rw [upd_ne _ _ e2] at h2
        exact h.disj i1 i2 v v' k h1 h2 (hφ i1 v e1 hv) (hφ i2 v' e2 hv') hk hk'
/-- An object is gone. -/
theorem SR.drop {K : Nat → Prop} {Γ : Ctx} {st : Store} (h : SR K Γ st) (id : Nat) : SR K Γ (st.upd id .none) :=
  h.put (Ctx.le.refl Γ) id .none (fun id' v k _ hl hv hk => ⟨rfl, (h.own id' v k hl hv hk).2.1⟩) (fun _ _ _ h => h) trivial (fun hl => by cases hl) h.zlt

/-- A step's outcome: what was known lives on, the store stands, only what may be written was written, ids outside of the step's own stay free. -/
structure Out (w0 : World) (M : Nat → Prop) (n0 : Nat) (Γ Γ' : Ctx) (st' : Store) : Prop where
  le : Γ.le Γ'
  sr : SR (KK w0 M) Γ' st'
  keep : Keep w0 M Γ'.w
  free : ∀ id, (id < n0 ∨ n0 + 16 ≤ id) → Γ.φ id = none → Γ'.φ id = none
  zz : ∀ b, Γ'.Z b → Γ.Z b ∨ KK w0 M b
theorem Out.same {w0 : World} {M : Nat → Prop} {n0 : Nat} {Γ : Ctx} {st : Store} (h : SR (KK w0 M) Γ st) (k : Keep w0 M Γ.w) : Out w0 M n0 Γ Γ st :=
  ⟨Ctx.le.refl Γ, h, k, fun _ _ h => h, fun _ h => .inl h⟩
theorem Out.trans {w0 : World} {M : Nat → Prop} {n0 : Nat} {Γ Γ1 Γ2 : Ctx} {st1 st2 : Store} (h : Out w0 M n0 Γ Γ1 st1) (k : Out w0 M n0 Γ1 Γ2 st2) : Out w0 M n0 Γ Γ2 st2 :=
  ⟨h.le.trans k.le, k.sr, k.keep, fun id hi hn => k.free id hi (h.free id hi hn), fun b hb => (k.zz b hb).elim (h.zz b) .inr⟩
/-- a context with one id more -/
def Ctx.at_ (Γ : Ctx) (w : World) (id : Nat) (v : Value) : Ctx := { Γ with w, φ := fun k => if k = id then some v else Γ.φ k }
theorem Ctx.at_le {Γ : Ctx} {w : World} {id : Nat} {v : Value} (hn : Γ.φ id = none) (hb : ∀ b, Γ.Z b ∨ Γ.B b → w.heap[b]? = Γ.w.heap[b]?) : Γ.le (Γ.at_ w id v) :=
  ⟨fun _ h => h, fun _ => Iff.rfl, hb, fun i u hu => by
    simp only [Ctx.at_]
    split
    · rename_i e; subst e; rw [hn] at hu; cases hu
    · exact hu⟩
end Go.Pvm
namespace Go.Pvm
open Go.RowKit

theorem AM.run_bind {α β : Type} (m : AM α) (f : α → AM β) (s : Store) : (m.bind f).run s = match m.run s with
    | .ok (a, s1, t1, w1) => (match (f a).run s1 with
      | .ok (b, s2, t2, w2) => .ok (b, s2, t1 ++ t2, w1 ++ w2)
      | .no w => .no w)
    | .no w => .no w := by
  induction m generalizing s with
  | pure a => simp only [AM.bind, AM.run, List.nil_append]; split <;> rename_i h <;> simp [h]
  | fail w => simp [AM.bind, AM.run]
  | get id k ih =>
    simp only [AM.bind, AM.run, ih]
    cases (k (s id)).run s with
    | no w => rfl
    | ok p => obtain ⟨a, s1, t1, w1⟩ := p; simp only []; cases (f a).run s1 with | no w => rfl | ok q => rfl
  | put id o k ih =>
    simp only [AM.bind, AM.run, ih]
    cases k.run (s.upd id o) with
    | no w => rfl
    | ok p => obtain ⟨a, s1, t1, w1⟩ := p; simp only []; cases (f a).run s1 with | no w => rfl | ok q => rfl
  | need p k ih =>
    simp only [AM.bind, AM.run, ih]
    split <;> rfl
theorem AM.bind_ok {α β : Type} {m : AM α} {f : α → AM β} {s s' : Store} {b : β} {t w : List Nat} (h : (m.bind f).run s = .ok (b, s', t, w)) :
    ∃ a s1 t1 w1 t2 w2, m.run s = .ok (a, s1, t1, w1) ∧ (f a).run s1 = .ok (b, s', t2, w2) ∧ t = t1 ++ t2 ∧ w = w1 ++ w2 := by
  rw [AM.run_bind] at h
  cases hm : m.run s with
  | no w => rw [hm] at h; cases h
  | ok p =>
    obtain ⟨a, s1, t1, w1⟩ := p
    rw [hm] at h
    simp only [] at h
    cases hf : (f a).run s1 with
    | no w => rw [hf] at h; cases h
    | ok q =>
      obtain ⟨b', s2, t2, w2⟩ := q
      rw [hf] at h
      simp only [R.ok.injEq, Prod.mk.injEq] at h
      obtain ⟨rfl, rfl, rfl, rfl⟩ := h
      exact ⟨a, s1, t1, w1, t2, w2, rfl, hf, rfl, rfl⟩
theorem AM.pure_ok {α : Type} {a b : α} {s s' : Store} {t w : List Nat} (h : (AM.pure a).run s = .ok (b, s', t, w)) : b = a ∧ s' = s := by
  simp only [AM.run, R.ok.injEq, Prod.mk.injEq] at h
  exact ⟨h.1.symm, h.2.1.symm⟩
theorem AM.get_ok {α : Type} {id : Nat} {k : AObj → AM α} {b : α} {s s' : Store} {t w : List Nat} (h : (AM.get id k).run s = .ok (b, s', t, w)) : ∃ t', (k (s id)).run s = .ok (b, s', t', w) := by
  simp only [AM.run] at h
  cases hk : (k (s id)).run s with
  | no w => rw [hk] at h; cases h
  | ok p => obtain ⟨a, s1, t1, w1⟩ := p; rw [hk] at h; simp only [R.ok.injEq, Prod.mk.injEq] at h; obtain ⟨rfl, rfl, rfl, rfl⟩ := h; exact ⟨t1, rfl⟩
theorem AM.put_ok {α : Type} {id : Nat} {o : AObj} {k : AM α} {b : α} {s s' : Store} {t w : List Nat} (h : (AM.put id o k).run s = .ok (b, s', t, w)) : ∃ w', k.run (s.upd id o) = .ok (b, s', t, w') := by
  simp only [AM.run] at h
  cases hk : k.run (s.upd id o) with
  | no w => rw [hk] at h; cases h
  | ok p => obtain ⟨a, s1, t1, w1⟩ := p; rw [hk] at h; simp only [R.ok.injEq, Prod.mk.injEq] at h; obtain ⟨rfl, rfl, rfl, rfl⟩ := h; exact ⟨w1, rfl⟩
theorem AM.need_ok {α : Type} {p : Prop} [Decidable p] {k : AM α} {b : α} {s s' : Store} {t w : List Nat} (h : (AM.need p k).run s = .ok (b, s', t, w)) : p ∧ k.run s = .ok (b, s', t, w) := by
  simp only [AM.run] at h
  split at h
  · rename_i hp; exact ⟨hp, h⟩
  · cases h
theorem AM.fail_ok {α : Type} {why : List String} {b : α} {s s' : Store} {t w : List Nat} (h : (AM.fail why : AM α).run s = .ok (b, s', t, w)) : False := by
  simp only [AM.run] at h; cases h
theorem AM.ofR_ok {α : Type} {r : R α} {b : α} {s s' : Store} {t w : List Nat} (h : (AM.ofR r).run s = .ok (b, s', t, w)) : r = .ok b ∧ s' = s := by
  cases r with
  | ok a => have := AM.pure_ok h; exact ⟨by rw [this.1], this.2⟩
  | no w => exact (AM.fail_ok h).elim
theorem R.bind_ok {α β : Type} {x : R α} {f : α → R β} {b : β} (h : x.bind f = .ok b) : ∃ a, x = .ok a ∧ f a = .ok b := by
  cases x with
  | ok a => exact ⟨a, rfl, h⟩
  | no w => cases h
theorem bif_ok {c : Bool} {α : Type} {x y : α} {z : α} (h : (bif c then x else y) = z) : (c = true ∧ x = z) ∨ (c = false ∧ y = z) := by
  cases c <;> simp_all

theorem AM.bif_ok {α : Type} {c : Bool} {x y : AM α} {s : Store} {r : α × Store × List Nat × List Nat} (h : (bif c then x else y).run s = .ok r) : (c = true ∧ x.run s = .ok r) ∨ (c = false ∧ y.run s = .ok r) := by
  cases c
  · exact .inr ⟨rfl, h⟩
  · exact .inl ⟨rfl, h⟩

theorem VR.oneCell {Γ : Ctx} {c : PVal} {u : Value} (h : VR Γ c u) (h1 : c.one = true) : u.oneCell' = true := by
  cases h <;> first | rfl | (simp [PVal.one] at h1)
theorem oneL_get {cs : List PVal} (h : oneL cs = true) {j : Nat} {c : PVal} (hj : cs[j]? = some c) : c.one = true := by
  induction cs generalizing j with
  | nil => simp at hj
  | cons x xs ih =>
    simp only [oneL, Bool.and_eq_true] at h
    cases j with
    | zero => simp at hj; subst hj; exact h.1
    | succ j => exact ih h.2 (by simpa using hj)
theorem VR.cells_of {Γ : Ctx} {p : PVal} {v : Value} (h : VR Γ p v) (h1 : oneL p.cells = true) :
    v.cells.size = p.cells.length ∧ ∀ (j : Nat) (c : PVal), p.cells[j]? = some c → ∃ u, v.cells[j]? = some u ∧ VR Γ c u := by
  have single : ∀ (q : PVal) (u : Value), q.cells = [q] → u.cells = #[u] → VR Γ q u →
      u.cells.size = q.cells.length ∧ ∀ (j : Nat) (c : PVal), q.cells[j]? = some c → ∃ u', u.cells[j]? = some u' ∧ VR Γ c u' := by
    intro q u hq hu hr
    rw [hq, hu]
    refine ⟨rfl, fun j c hj => ?_⟩
    cases j with
    | zero => simp at hj; subst hj; exact ⟨u, rfl, hr⟩
    | succ j => simp at hj
  cases h with
  | undef v => simp [PVal.cells, oneL, PVal.one] at h1
  | tup cs vs hl h => simp [PVal.cells, oneL, PVal.one] at h1
  | agg cs vs hl h =>
    refine ⟨hl.symm, fun j c hj => ?_⟩
    have hlt : j < vs.size := by rw [← hl]; exact (List.getElem?_eq_some_iff.1 hj).1
    exact ⟨vs[j], by simp [Value.cells, hlt], h j c _ hj (by simp [hlt])⟩
  | int k n => exact single _ _ rfl rfl (.int k n)
  | bool b => exact single _ _ rfl rfl (.bool b)
  | str s => exact single _ _ rfl rfl (.str s)
  | sl m sz xs a cap g1 g2 g3 g4 g5 g6 f g7 g8 => exact single _ _ rfl rfl (.sl m sz xs a cap g1 g2 g3 g4 g5 g6 f g7 g8)
  | own id a n cap h => exact single _ _ rfl rfl (.own id a n cap h)
  | ref id sz i off g v h hg => exact single _ _ rfl rfl (.ref id sz i off g v h hg)
  | fptr b x ad hz ho f hc hv => exact single _ _ rfl rfl (.fptr b x ad hz ho f hc hv)
  | nilptr => exact single _ _ rfl rfl .nilptr
  | fn g cs vs hl h => exact single _ _ rfl rfl (.fn g cs vs hl h)
  | nilfn => exact single _ _ rfl rfl .nilfn
  | mapr id r h => exact single _ _ rfl rfl (.mapr id r h)
  | nilmap => exact single _ _ rfl rfl .nilmap
  | iface t p v h => exact single _ _ rfl rfl (.iface t p v h)
  | nilif => exact single _ _ rfl rfl .nilif

theorem add_mk (g o j : Nat) : (⟨g, o, none⟩ : Addr).add j = ⟨g, o + j, none⟩ := by unfold Addr.add; split <;> simp_all

section
variable {E : Env}
theorem hasType_info {t : Nat} (h : hasType E t = true) : ∃ i d, E.P.info? t = some i ∧ E.P.underlying t = some d := by
  simp only [hasType, Bool.and_eq_true, Option.isSome_iff_exists] at h
  obtain ⟨⟨i, hi⟩, d, hd⟩ := h
  exact ⟨i, d, hi, hd⟩
theorem run_isAgg {t : Nat} (h : hasType E t = true) (w : World) : (isAgg t).run E.P w = .ok (isAggT E t) w := by
  obtain ⟨i, d, hi, hd⟩ := hasType_info h
  unfold isAgg isAggT
  rw [Sem.run_bind, run_underlying hd w, hd]
  cases d <;> rfl
theorem run_sizeOf {t : Nat} (h : (E.P.info? t).isSome = true) (w : World) : (sizeOf t).run E.P w = .ok (E.P.cellsOf t) w := by
  obtain ⟨i, hi⟩ := Option.isSome_iff_exists.1 h
  simp [sizeOf, typeInfo, hi, Program.cellsOf]

/-- a variable read whose cells are known -/
theorem loadVar_agg {Γ : Ctx} {t : Nat} (ht : hasType E t = true) (ha : isAggT E t = true) (ad : Addr) (cs : List PVal) (f : Nat → Value)
    (hl : cs.length = E.P.cellsOf t) (hc : ∀ j c, cs[j]? = some c → Γ.w.cell? (ad.add j) = some (f j) ∧ VR Γ c (f j)) :
    ∃ u, (loadVar t ad).run E.P Γ.w = .ok u Γ.w ∧ VR Γ (.agg cs) u := by
  have hload := run_loadCells (P := E.P) Γ.w ad (E.P.cellsOf t) f (fun j hj => by
    have : j < cs.length := by omega
    exact (hc j _ (List.getElem?_eq_getElem this)).1)
  refine ⟨.agg ((List.range (E.P.cellsOf t)).map f).toArray, ?_, ?_⟩
  · have hs : (E.P.info? t).isSome = true := by obtain ⟨i, d, hi, _⟩ := hasType_info ht; simp [hi]
    unfold loadVar
    rw [Sem.run_bind, run_isAgg ht, Result.andThen_ok, ha]
    simp only [if_true, Sem.run_bind, run_sizeOf hs, Result.andThen_ok, hload, Sem.run_pure]
  · refine .agg cs _ (by simp [hl]) fun i c v hi hv => ?_
    have hlt : i < cs.length := (List.getElem?_eq_some_iff.1 hi).1
    have : v = f i := by
      have h2 : i < E.P.cellsOf t := by omega
      simp [h2] at hv
      exact hv.symm
    subst this
    exact (hc i c hi).2
theorem loadVar_one {Γ : Ctx} {t : Nat} (ht : hasType E t = true) (ha : isAggT E t = false) (ad : Addr) {u : Value} (hc : Γ.w.cell? ad = some u) :
    (loadVar t ad).run E.P Γ.w = .ok u Γ.w := by
  unfold loadVar
  rw [Sem.run_bind, run_isAgg ht, Result.andThen_ok, ha]
  simp only [Bool.false_eq_true, if_false, run_load, hc]
theorem add_zero_ (ad : Addr) : ad.add 0 = ad := by simp [Addr.add]
/-- a part of what lies at an address -/
theorem load_part {Γ : Ctx} {t : Nat} (ht : hasType E t = true) {x v : PVal} {off : Nat} (hp : part x off (E.P.cellsOf t) (isAggT E t) = .ok v) (g o : Nat) (f : Nat → Value)
    (hc : ∀ j c, x.cells[j]? = some c → Γ.w.cell? ⟨g, o + j, none⟩ = some (f j) ∧ VR Γ c (f j)) :
    ∃ u, (loadVar t ⟨g, o + off, none⟩).run E.P Γ.w = .ok u Γ.w ∧ VR Γ v u := by
  unfold part at hp
  cases ha : isAggT E t with
  | true =>
    rw [ha] at hp
    simp only [cond_true] at hp
    rcases bif_ok hp with ⟨hle, h⟩ | ⟨_, h⟩
    · simp only [R.ok.injEq] at h
      subst h
      have hle := Nat.le_of_ble_eq_true hle
      refine loadVar_agg ht ha _ _ (fun j => f (off + j)) (by simp; omega) fun j c hj => ?_
      rw [add_mk, Nat.add_assoc]
      refine hc (off + j) c ?_
      rw [List.getElem?_take] at hj
      split at hj
      · simpa using hj
      · cases hj
    · cases h
  | false =>
    rw [ha] at hp
    simp only [cond_false] at hp
    cases hx : x.cells[off]? with
    | none => rw [hx] at hp; cases hp
    | some c =>
      rw [hx] at hp
      simp only [R.ok.injEq] at hp
      subst hp
      obtain ⟨h1, h2⟩ := hc off c hx
      exact ⟨f off, loadVar_one ht ha _ h1, h2⟩
end
end Go.Pvm
namespace Go.Pvm
open Go.RowKit
section
variable {E : Env}

theorem getP_get {xs : List PVal} {i : Nat} (h : i < xs.length) : xs[i]? = some (getP xs i) := by
  simp [getP, List.getD_eq_getElem?_getD, List.getElem?_eq_getElem h]
theorem elemAt_ok {bx : Bool} {e : Nat} {xs : List PVal} {i : Nat} {x : PVal} {s s' : Store} {t w : List Nat} (h : (elemAt E bx e xs i).run s = .ok (x, s', t, w)) : xs[i]? = some x ∧ s' = s := by
  unfold elemAt at h
  cases bx with
  | true =>
    simp only [cond_true] at h
    cases hx : xs[i]? with
    | none => rw [hx] at h; exact (AM.fail_ok h).elim
    | some y => rw [hx] at h; have := AM.pure_ok h; exact ⟨by rw [this.1], this.2⟩
  | false =>
    simp only [cond_false] at h
    obtain ⟨⟨hl, he⟩, h⟩ := AM.need_ok h
    obtain ⟨rfl, hs⟩ := AM.pure_ok h
    exact ⟨by rw [← he]; exact getP_get hl, hs⟩

/-- what a living or frozen row's element reads as, cell by cell -/
theorem row_cells {Γ : Ctx} {id : Nat} {bx : Bool} {e sz : Nat} {xs : List PVal} (h : RowOK Γ id bx e sz xs) {i : Nat} {x : PVal} (hx : xs[i]? = some x) {v : Value} {g : Nat} (hv : Γ.φ id = some v) (hg : v.ownBlock = some g) :
    ∃ f : Nat → Value, ∀ j c, x.cells[j]? = some c → Γ.w.cell? ⟨g, i * sz + j, none⟩ = some (f j) ∧ VR Γ c (f j) := by
  obtain ⟨v', vs, hv', hs, hr, hc, _⟩ := h
  rw [hv] at hv'
  obtain rfl := Option.some.inj hv'
  refine ⟨fun j => (vs[i * sz + j]?).getD undef, fun j c hj => ?_⟩
  obtain ⟨u, hu, hvr⟩ := hc.2 i x j c hx hj
  have := hr.cells hg (i * sz + j) u hu
  rw [add_mk, Nat.zero_add] at this
  simp only [hu, Option.getD_some]
  exact ⟨this, hvr⟩
theorem frz_cells {Γ : Ctx} {id : Nat} {bx : Bool} {sz : Nat} {xs : List PVal} (h : FrzOK Γ id bx sz xs) {i : Nat} {x : PVal} (hx : xs[i]? = some x) {v : Value} {g : Nat} (hv : Γ.φ id = some v) (hg : v.ownBlock = some g) :
    ∃ f : Nat → Value, ∀ j c, x.cells[j]? = some c → Γ.w.cell? ⟨g, i * sz + j, none⟩ = some (f j) ∧ VR Γ c (f j) := by
  obtain ⟨a, cap, hv', _, _, hz, _⟩ := h
  rw [hv] at hv'
  obtain rfl := Option.some.inj hv'
  obtain ⟨g', ha, _, f, hf⟩ := hz (by intro e; subst e; simp at hx)
  subst ha
  simp [Value.ownBlock] at hg
  subst hg
  exact ⟨f i, fun j c hj => hf i x j c hx hj⟩

theorem loadA_ok {K : Nat → Prop} {Γ : Ctx} {t : Nat} {p v : PVal} {pv : Value} {st st' : Store} {T W : List Nat} (hsr : SR K Γ st) (hp : VR Γ p pv) (h : (loadA E t p).run st = .ok (v, st', T, W)) :
    st' = st ∧ ∃ u, (Instr.loadAt t pv).run E.P Γ.w = .ok u Γ.w ∧ VR Γ v u := by
  unfold loadA at h
  dsimp only at h
  rcases AM.bif_ok h with ⟨_, h⟩ | ⟨ht, h⟩
  · exact (AM.fail_ok h).elim
  have ht : hasType E t = true := by simpa using ht
  cases hp with
  | ref id sz i off g vv hφ hg =>
    simp only [] at h
    obtain ⟨t', h⟩ := AM.get_ok h
    have fin : ∀ (x : PVal) (s1 : Store) (T1 W1 : List Nat), (AM.ofR (part x off (E.P.cellsOf t) (isAggT E t))).run s1 = .ok (v, st', T1, W1) → s1 = st →
        (∃ f : Nat → Value, ∀ j c, x.cells[j]? = some c → Γ.w.cell? ⟨g, i * sz + j, none⟩ = some (f j) ∧ VR Γ c (f j)) →
        st' = st ∧ ∃ u, (Instr.loadAt t (.pointer (some ⟨g, i * sz + off, none⟩))).run E.P Γ.w = .ok u Γ.w ∧ VR Γ v u := by
      intro x s1 T1 W1 h hs1 ⟨f, hf⟩
      obtain ⟨hpart, hs⟩ := AM.ofR_ok h
      obtain ⟨u, hu, hvu⟩ := load_part ht hpart g (i * sz) f hf
      refine ⟨hs.trans hs1, u, ?_, hvu⟩
      simp only [Instr.loadAt, Instr.sureAddr, Sem.run_bind, Sem.run_pure, Result.andThen_ok, hu]
    have hob := hsr.obj id
    cases ho : st id with
    | none => rw [ho] at h; exact (AM.fail_ok h).elim
    | mp es => rw [ho] at h; exact (AM.fail_ok h).elim
    | row bx e sz' xs =>
      rw [ho] at h hob
      simp only [] at h
      rcases AM.bif_ok h with ⟨hsz, h3⟩ | ⟨_, h3⟩
      · have hsz := Nat.eq_of_beq_eq_true hsz
        subst hsz
        obtain ⟨x, s1, t1, w1, t2, w2, h1, h2, _, _⟩ := AM.bind_ok h3
        obtain ⟨hx, hs1⟩ := elemAt_ok h1
        exact fin x s1 _ _ h2 hs1 (row_cells hob hx hφ hg)
      · exact (AM.fail_ok h3).elim
    | frz bx sz' xs =>
      rw [ho] at h hob
      cases bx with
      | false => exact (AM.fail_ok h).elim
      | true =>
        simp only [] at h
        rcases AM.bif_ok h with ⟨hsz, h3⟩ | ⟨_, h3⟩
        · have hsz := Nat.eq_of_beq_eq_true hsz
          subst hsz
          obtain ⟨x, s1, t1, w1, t2, w2, h1, h2, _, _⟩ := AM.bind_ok h3
          obtain ⟨hx, hs1⟩ := elemAt_ok h1
          exact fin x s1 _ _ h2 hs1 (frz_cells hob hx hφ hg)
        · exact (AM.fail_ok h3).elim
  | fptr b x ad hz ho f hc hv =>
    simp only [] at h
    have run : ∀ u, (loadVar t ad).run E.P Γ.w = .ok u Γ.w → (Instr.loadAt t (.pointer (some ad))).run E.P Γ.w = .ok u Γ.w := fun u hu => by
      simp only [Instr.loadAt, Instr.sureAddr, Sem.run_bind, Sem.run_pure, Result.andThen_ok, hu]
    cases ha : isAggT E t with
    | true =>
      rw [ha] at h
      simp only [cond_true] at h
      rcases AM.bif_ok h with ⟨hl, h⟩ | ⟨_, h⟩
      · obtain ⟨rfl, hs⟩ := AM.pure_ok h
        obtain ⟨u, hu, hvu⟩ := loadVar_agg ht ha ad x.cells f (Nat.eq_of_beq_eq_true hl) (fun j c hj => ⟨hc j c hj, hv j c hj⟩)
        exact ⟨hs, u, run u hu, hvu⟩
      · exact (AM.fail_ok h).elim
    | false =>
      rw [ha] at h
      simp only [cond_false] at h
      obtain ⟨hpart, hs⟩ := AM.ofR_ok h
      unfold part at hpart
      simp only [cond_false] at hpart
      cases hx : x.cells[0]? with
      | none => rw [hx] at hpart; cases hpart
      | some c =>
        rw [hx] at hpart
        simp only [R.ok.injEq] at hpart
        subst hpart
        have h0 := hc 0 c hx
        rw [add_zero_] at h0
        exact ⟨hs, f 0, run _ (loadVar_one ht ha ad h0), hv 0 c hx⟩
  | _ => exact (AM.fail_ok h).elim
end
end Go.Pvm
namespace Go.Pvm
open Go.RowKit
theorem add_add (a : Addr) (m n : Nat) : (a.add m).add n = a.add (m + n) := by
  unfold Addr.add
  by_cases hm : m = 0
  · subst hm; simp
  · by_cases hn : n = 0
    · subst hn; simp
    · simp [hm, hn, Nat.add_assoc]
theorem oneL_one {c : PVal} (h : c.one = true) : c.cells = [c] := by cases c <;> first | rfl | (simp [PVal.one] at h)
theorem oneL_of {cs : List PVal} (h : ∀ (j : Nat) (c : PVal), cs[j]? = some c → c.one = true) : oneL cs = true := by
  induction cs with
  | nil => rfl
  | cons x xs ih =>
    simp only [oneL, Bool.and_eq_true]
    exact ⟨h 0 x rfl, ih fun j c hj => h (j + 1) c (by simpa using hj)⟩
theorem clean1_one {c : PVal} (h : c.clean1 = true) : c.one = true := by cases c <;> first | rfl | (simp [PVal.clean1, PVal.cl] at h)
theorem clean1L_get {cs : List PVal} (h : PVal.clean1.clean1L cs = true) {j : Nat} {c : PVal} (hj : cs[j]? = some c) : c.clean1 = true := by
  induction cs generalizing j with
  | nil => simp at hj
  | cons x xs ih =>
    simp only [PVal.clean1.clean1L, Bool.and_eq_true, PVal.cl, PVal.cl.clL] at h
    cases j with
    | zero => simp at hj; subst hj; exact h.1
    | succ j => exact ih h.2 (by simpa using hj)
theorem clean_one {x : PVal} (h : x.clean = true) : oneL x.cells = true := oneL_of fun j c hj => clean1_one (clean1L_get h hj)
/-- a part of a place that nobody changes -/
theorem fptr_part {Γ : Ctx} {x y : PVal} {ad : Addr} {off n : Nat} {agg b : Bool} (hz : Γ.S b ad.block) (ho : oneL x.cells = true) {f : Nat → Value}
    (hc : ∀ j c, x.cells[j]? = some c → Γ.w.cell? (ad.add j) = some (f j)) (hv : ∀ j c, x.cells[j]? = some c → VR Γ c (f j)) (hp : part x off n agg = .ok y) :
    VR Γ (.fptr b y) (.pointer (some (ad.add off))) := by
  unfold part at hp
  cases agg with
  | true =>
    simp only [cond_true] at hp
    rcases bif_ok hp with ⟨_, h⟩ | ⟨_, h⟩
    · simp only [R.ok.injEq] at h
      subst h
      have key : ∀ j c, ((x.cells.drop off).take n)[j]? = some c → x.cells[off + j]? = some c := fun j c hj => by
        rw [List.getElem?_take] at hj
        split at hj
        · simpa using hj
        · cases hj
      refine .fptr _ _ _ (by rw [add_block]; exact hz) (oneL_of fun j c hj => oneL_get ho (key j c hj)) (fun j => f (off + j)) (fun j c hj => ?_) (fun j c hj => hv _ c (key j c hj))
      rw [add_add]
      exact hc _ c (key j c hj)
    · cases h
  | false =>
    simp only [cond_false] at hp
    cases hx : x.cells[off]? with
    | none => rw [hx] at hp; cases hp
    | some c =>
      rw [hx] at hp
      simp only [R.ok.injEq] at hp
      subst hp
      have h1 := oneL_get ho hx
      have e := oneL_one h1
      refine .fptr _ _ _ (by rw [add_block]; exact hz) (by rw [e]; simp [oneL, h1]) (fun _ => f off) (fun j d hj => ?_) (fun j d hj => ?_)
      · rw [e] at hj
        cases j with
        | zero => rw [add_add]; exact hc off c hx
        | succ j => simp at hj
      · rw [e] at hj
        cases j with
        | zero => simp at hj; subst hj; exact hv off _ hx
        | succ j => simp at hj
section
variable {E : Env}
theorem cellsOf_info {t : Nat} (h : E.P.cellsOf t ≠ 0) : (E.P.info? t).isSome = true := by
  unfold Program.cellsOf at h
  cases hi : E.P.info? t with
  | none => simp [hi] at h
  | some i => rfl
theorem fieldAddrA_ok {Γ : Ctx} {t f : Nat} {p v : PVal} {pv : Value} (hp : VR Γ p pv) (h : fieldAddrA E t p f = .ok v) :
    ∃ u, (Instr.fieldAt t pv f).run E.P Γ.w = .ok u Γ.w ∧ VR Γ v u := by
  unfold fieldAddrA at h
  split at h
  · rename_i fs hu
    split at h
    · rename_i fd hfd
      dsimp only at h
      rcases bif_ok h with ⟨_, h1⟩ | ⟨hn, h1⟩
      · cases h1
      have hne : E.P.cellsOf fd.type ≠ 0 := by
        intro e; rw [e] at hn; simp at hn
      have run : ∀ a : Addr, (Instr.fieldAt t (.pointer (some a)) f).run E.P Γ.w = .ok (.pointer (some (a.add fd.offset))) Γ.w := fun a => by
        simp only [Instr.fieldAt, Sem.run_bind, run_underlying hu Γ.w, Result.andThen_ok, hfd, Instr.sureAddr, Sem.run_pure, fieldPlace, run_sizeOf (cellsOf_info hne), if_neg hne]
      cases hp with
      | ref id sz i off g vv hφ hg =>
        simp only [R.ok.injEq] at h1
        subst h1
        refine ⟨_, run _, ?_⟩
        rw [add_mk, Nat.add_assoc]
        exact .ref id sz i (off + fd.offset) g vv hφ hg
      | fptr b x ad hz ho fv hc hv =>
        simp only [] at h1
        obtain ⟨y, hy, h2⟩ := R.bind_ok h1
        simp only [R.ok.injEq] at h2
        subst h2
        exact ⟨_, run _, fptr_part hz ho hc hv hy⟩
      | _ => cases h1
    · cases h
  · cases h

theorem sl_inv {Γ : Ctx} {m : Mode} {sz : Nat} {xs : List PVal} {v : Value} (h : VR Γ (.sl m sz xs) v) : ∃ (a : Option Addr) (cap : Nat) (f : Nat → Nat → Value), v = .slice a xs.length cap ∧ (m = .nl → xs = [] ∧ a = none ∧ cap = 0) ∧ ((m = .clip → cap = xs.length) ∧ ∀ b, m = .as b → a.isNone = b) ∧ xs.length ≤ cap ∧
    (∀ x ∈ xs, x.cells.length = sz) ∧ (∀ x ∈ xs, x.clean = true) ∧ (xs ≠ [] → ∃ ad, a = some ad ∧ Γ.S (m == .bor) ad.block) ∧
    (∀ (ad : Addr) (i : Nat) (x : PVal) (j : Nat) (c : PVal), a = some ad → xs[i]? = some x → x.cells[j]? = some c → Γ.w.cell? (ad.add (i * sz + j)) = some (f i j)) ∧
    (∀ (i : Nat) (x : PVal) (j : Nat) (c : PVal), xs[i]? = some x → x.cells[j]? = some c → VR Γ c (f i j)) := by
  cases h with
  | sl m sz xs a cap h1 h2 h3 h4 h5 h6 f h7 h8 => exact ⟨a, cap, f, rfl, h1, h2, h3, h4, h5, h6, h7, h8⟩
theorem mem_of_get {α : Type} {xs : List α} {i : Nat} {x : α} (h : xs[i]? = some x) : x ∈ xs := List.mem_of_getElem? h
/-- an element of a list as a place -/
theorem sl_elem {Γ : Ctx} {sz : Nat} {b : Bool} {xs : List PVal} {a : Option Addr} {f : Nat → Nat → Value} {i : Nat} {x : PVal} (hx : xs[i]? = some x)
    (h5 : ∀ x ∈ xs, x.clean = true) (h6 : xs ≠ [] → ∃ ad, a = some ad ∧ Γ.S b ad.block)
    (h7 : ∀ (ad : Addr) (i : Nat) (x : PVal) (j : Nat) (c : PVal), a = some ad → xs[i]? = some x → x.cells[j]? = some c → Γ.w.cell? (ad.add (i * sz + j)) = some (f i j))
    (h8 : ∀ (i : Nat) (x : PVal) (j : Nat) (c : PVal), xs[i]? = some x → x.cells[j]? = some c → VR Γ c (f i j)) :
    ∃ ad, a = some ad ∧ VR Γ (.fptr b x) (.pointer (some (ad.add (i * sz)))) := by
  obtain ⟨ad, ha, hz⟩ := h6 (by intro e; subst e; simp at hx)
  exact ⟨ad, ha, .fptr _ x _ (by rw [add_block]; exact hz) (clean_one (h5 x (mem_of_get hx))) (f i) (fun j c hj => by rw [add_add]; exact h7 ad i x j c ha hx hj) (fun j c hj => h8 i x j c hx hj)⟩

theorem toNat_lt {j : Int} {n : Nat} (h0 : 0 ≤ j) (h1 : j < n) : j.toNat < n := by omega
theorem indexAddrA_ok {K : Nat → Prop} {Γ : Ctx} {t : Nat} {p i v : PVal} {pv iv : Value} {st st' : Store} {T W : List Nat} (hsr : SR K Γ st) (hp : VR Γ p pv) (hi : VR Γ i iv)
    (h : (indexAddrA E t p i).run st = .ok (v, st', T, W)) : st' = st ∧ ∃ u, (Instr.indexAt t pv iv).run E.P Γ.w = .ok u Γ.w ∧ VR Γ v u := by
  unfold indexAddrA at h
  cases hi with
  | int k j =>
    simp only [] at h
    split at h
    · rename_i e hu
      rcases AM.bif_ok h with ⟨_, h1⟩ | ⟨hn, h1⟩
      · exact (AM.fail_ok h1).elim
      have hne : E.P.cellsOf e ≠ 0 := by intro e'; rw [e'] at hn; simp at hn
      have run : ∀ (ad : Addr) (len cap : Nat), 0 ≤ j → j < len → (Instr.indexAt t (.slice (some ad) len cap) (.int k j)).run E.P Γ.w = .ok (.pointer (some (ad.add (j.toNat * E.P.cellsOf e)))) Γ.w := fun ad len cap h0 hl => by
        simp [Instr.indexAt, asIntOf, run_underlying hu Γ.w, run_sizeOf (cellsOf_info hne), h0, hl]
      cases hp with
      | sl m sz xs a cap g1 g2 g3 g4 g5 g6 f g7 g8 =>
        simp only [] at h1
        rcases AM.bif_ok h1 with ⟨hsz, h2⟩ | ⟨_, h2⟩
        · have hsz := Nat.eq_of_beq_eq_true hsz
          subst hsz
          obtain ⟨⟨⟨h0, hl⟩, he⟩, h3⟩ := AM.need_ok h2
          obtain ⟨rfl, hs⟩ := AM.pure_ok h3
          have hx := getP_get (toNat_lt h0 hl)
          obtain ⟨ad, rfl, hr⟩ := sl_elem hx g5 g6 g7 g8
          rw [← he]
          exact ⟨hs, _, run ad _ _ h0 hl, hr⟩
        · exact (AM.fail_ok h2).elim
      | own id a n cap hφ =>
        simp only [] at h1
        obtain ⟨t', h2⟩ := AM.get_ok h1
        have hob := hsr.obj id
        cases ho : st id with
        | none => rw [ho] at h2; exact (AM.fail_ok h2).elim
        | mp es => rw [ho] at h2; exact (AM.fail_ok h2).elim
        | row bx e' sz' xs =>
          cases bx with
          | true => rw [ho] at h2; exact (AM.fail_ok h2).elim
          | false =>
            rw [ho] at h2 hob
            simp only [] at h2
            rcases AM.bif_ok h2 with ⟨hsz, h3⟩ | ⟨_, h3⟩
            · obtain ⟨⟨h0, hl⟩, h4⟩ := AM.need_ok h3
              obtain ⟨rfl, hs⟩ := AM.pure_ok h4
              obtain ⟨v', vs, hv', _, hr, _⟩ := hob
              rw [hφ] at hv'
              obtain rfl := Option.some.inj hv'
              rcases hr.2 with ⟨he, hn0⟩ | ⟨g, cap', cur, he, _, _, _⟩
              · rw [hn0] at hl; omega
              · injection he with e1 e2 e3
                subst e1; subst e2
                refine ⟨hs, _, run _ _ _ h0 hl, ?_⟩
                have := VR.ref (Γ := Γ) id (E.P.cellsOf e) j.toNat 0 g _ hφ rfl
                rw [add_mk, Nat.zero_add]
                exact this
            · exact (AM.fail_ok h3).elim
        | frz bx sz' xs =>
          cases bx with
          | true => rw [ho] at h2; exact (AM.fail_ok h2).elim
          | false =>
            rw [ho] at h2 hob
            simp only [] at h2
            rcases AM.bif_ok h2 with ⟨hsz, h3⟩ | ⟨_, h3⟩
            · have hsz := Nat.eq_of_beq_eq_true hsz
              subst hsz
              obtain ⟨⟨⟨h0, hl⟩, he⟩, h4⟩ := AM.need_ok h3
              obtain ⟨rfl, hs⟩ := AM.pure_ok h4
              obtain ⟨a', cap', hv', _, h1c, hz, hcl⟩ := hob
              rw [hφ] at hv'
              injection hv' with hv'
              injection hv' with e1 e2 e3
              subst e1; subst e2
              have hx := getP_get (toNat_lt h0 hl)
              have hne' : xs ≠ [] := by intro e'; subst e'; simp at hl; omega
              obtain ⟨g, rfl, hzg, f, hf⟩ := hz hne'
              refine ⟨hs, _, run _ _ _ h0 hl, ?_⟩
              rw [← he]
              refine .fptr _ _ _ (by rw [add_block]; exact .inl hzg) (h1c _ (mem_of_get hx)).2 (f j.toNat) (fun q c hq => ?_) (fun q c hq => (hf _ _ q c hx hq).2)
              rw [add_add, add_mk, Nat.zero_add]
              exact (hf _ _ q c hx hq).1
            · exact (AM.fail_ok h3).elim
      | _ => exact (AM.fail_ok h1).elim
    · rename_i n e hu
      rcases AM.bif_ok h with ⟨_, h1⟩ | ⟨hn, h1⟩
      · exact (AM.fail_ok h1).elim
      have hne : E.P.cellsOf e ≠ 0 := by intro e'; rw [e'] at hn; simp at hn
      obtain ⟨⟨h0, hl⟩, h2⟩ := AM.need_ok h1
      have run : ∀ (ad : Addr), (Instr.indexAt t (.pointer (some ad)) (.int k j)).run E.P Γ.w = .ok (.pointer (some (ad.add (j.toNat * E.P.cellsOf e)))) Γ.w := fun ad => by
        simp [Instr.indexAt, asIntOf, run_underlying hu Γ.w, run_sizeOf (cellsOf_info hne), h0, hl, Instr.sureAddr]
      cases hp with
      | ref id sz i off g vv hφ hg =>
        obtain ⟨rfl, hs⟩ := AM.pure_ok h2
        refine ⟨hs, _, run _, ?_⟩
        rw [add_mk, Nat.add_assoc]
        exact .ref id sz i _ g vv hφ hg
      | fptr b x ad hz ho f hc hv =>
        obtain ⟨h3, hs⟩ := AM.ofR_ok h2
        obtain ⟨y, hy, h4⟩ := R.bind_ok h3
        simp only [R.ok.injEq] at h4
        subst h4
        exact ⟨hs, _, run _, fptr_part hz ho hc hv hy⟩
      | _ => exact (AM.fail_ok h2).elim
    · exact (AM.fail_ok h).elim
  | _ => exact (AM.fail_ok h).elim
end
end Go.Pvm
namespace Go.Pvm
open Go.RowKit
theorem bytes_beq (a b : ByteArray) : (a == b) = decide (a = b) := by
  cases a with | mk x => cases b with | mk y =>
  show ByteArray.beq ⟨x⟩ ⟨y⟩ = _
  unfold ByteArray.beq
  by_cases h : x = y <;> simp [h]
theorem bytes_beq2 (a b : ByteArray) : (a.toList == b.toList) = decide (a = b) := by
  rw [ByteArray.toList_eq, ByteArray.toList_eq]
  cases a with | mk x => cases b with | mk y =>
  by_cases h : x = y
  · subst h; simp
  · have : x.toList ≠ y.toList := fun e => h (Array.ext' e)
    simp [h]
theorem ofScalar_VR {Γ : Ctx} {u : Value} {v : PVal} (h : ofScalar u = .ok v) : VR Γ v u := by
  cases u <;> simp [ofScalar] at h <;> subst h <;> constructor
theorem scal_ok {Γ : Ctx} {s : Sem Value} {v : PVal} (P : Program) (h : scal s = .ok v) : ∃ u, s.run P Γ.w = .ok u Γ.w ∧ VR Γ v u := by
  cases s with
  | pure u => exact ⟨u, rfl, ofScalar_VR h⟩
  | _ => cases h
theorem toV_some {Γ : Ctx} {p : PVal} {a v : Value} (h : p.toV = some a) (hp : VR Γ p v) : v = a := by
  cases hp <;> simp [PVal.toV] at h <;> exact h
section
variable {E : Env}
theorem unA_ok {Γ : Ctx} {op : UnOp} {x v : PVal} {xv : Value} (hx : VR Γ x xv) (h : unA op x = .ok v) : ∃ u, (Op.unary op xv).run E.P Γ.w = .ok u Γ.w ∧ VR Γ v u := by
  unfold unA at h
  split at h
  · rename_i a ha
    rw [toV_some ha hx]
    exact scal_ok E.P h
  · cases h
theorem guard_scal {op : BinOp} {t : Nat} {x y : Operand} {a b : Value} (w : World) (h : (∀ cs, a ≠ .agg cs) ∧ a ≠ .nilIface) : (eqGuard op t x y a b).run E.P w = .ok () w := by
  unfold eqGuard
  cases op <;> first | rfl | (simp only []; cases a <;> first | rfl | exact absurd rfl h.2 | exact absurd rfl (h.1 _))
theorem eqCell_int {k k' : IntKind} {a b : Int} {r : Bool} (h : eqCell (.int k a) (.int k' b) = .ok r) : k = k' ∧ r = decide (a = b) := by
  simp only [eqCell] at h
  split at h
  · rename_i hk; exact ⟨hk, (R.ok.inj h).symm⟩
  · cases h
theorem run_equalIn_bool {t n : Nat} {c d : Bool} (hu : E.P.underlying t = some .bool) (w : World) : (Op.equalIn (n + 1) t (.bool c) (.bool d)).run E.P w = .ok (c == d) w := by
  rw [Op.equalIn]
  simp only [Sem.run_bind, run_underlying hu w, Result.andThen_ok, Sem.run_pure]
theorem run_equalIn_int {t n : Nat} {k k' : IntKind} {c d : Int} (hu : E.P.underlying t = some (.int k')) (w : World) : (Op.equalIn (n + 1) t (.int k c) (.int k d)).run E.P w = .ok (decide (c = d)) w := by
  rw [Op.equalIn]
  simp only [Sem.run_bind, run_underlying hu w, Result.andThen_ok, Sem.run_pure, if_true]
  rfl
theorem run_equalIn_str {t n : Nat} {c d : ByteArray} (hu : E.P.underlying t = some .string) (w : World) : (Op.equalIn (n + 1) t (.string c) (.string d)).run E.P w = .ok (decide (c = d)) w := by
  rw [Op.equalIn]
  simp only [Sem.run_bind, run_underlying hu w, Result.andThen_ok, Sem.run_pure, bytes_beq]
/-- a scalar '==' in the model -/
theorem run_eql {t : Nat} {x y : PVal} {a b : Value} {r : Bool} (Γ : Ctx) (hx : x.toV = some a) (hy : y.toV = some b) (h : eqCell x y = .ok r)
    (hbool : ∀ c, a = .bool c → E.P.underlying t = some .bool) :
    (binOp .eql t a b).run E.P Γ.w = .ok (.bool r) Γ.w ∧ (binOp .neq t a b).run E.P Γ.w = .ok (.bool !r) Γ.w := by
  cases x <;> simp [PVal.toV] at hx <;> subst hx <;> cases y <;> simp [PVal.toV] at hy <;> subst hy <;> try (cases h; done)
  · obtain ⟨rfl, rfl⟩ := eqCell_int h
    constructor
    · simp only [binOp, ne_eq, not_true_eq_false, if_false, Op.intCmp, Sem.run_pure]; rfl
    · simp only [binOp, ne_eq, not_true_eq_false, if_false, Op.intCmp, Sem.run_pure]; rfl
  · rename_i c d
    simp only [eqCell, R.ok.injEq] at h
    subst h
    have hu := hbool c rfl
    have he : (Op.equal t (.bool c) (.bool d)).run E.P Γ.w = .ok (c == d) Γ.w := run_equalIn_bool (n := 9999) hu Γ.w
    constructor
    · show ((do pure (Value.bool (← Op.equal t (.bool c) (.bool d)))) : Sem Value).run E.P Γ.w = _
      rw [Sem.run_bind, he]; rfl
    · show ((do pure (Value.bool (!(← Op.equal t (.bool c) (.bool d))))) : Sem Value).run E.P Γ.w = _
      rw [Sem.run_bind, he]; rfl
  · simp only [eqCell, R.ok.injEq] at h
    subst h
    constructor
    · simp only [binOp, Op.stringOp, bytes_beq2, Sem.run_pure]
    · simp only [binOp, Op.stringOp, bytes_beq2, Sem.run_pure]
theorem isBoolT_eq {t : Nat} (h : isBoolT E t = true) : E.P.underlying t = some .bool := by
  unfold isBoolT at h
  split at h
  · assumption
  · cases h
end
end Go.Pvm
namespace Go.Pvm
open Go.RowKit
section
variable {E : Env}
theorem scalFits_cases {t : Nat} {c : PVal} (h : scalFits E t c = true) : (∃ k n k', c = .int k n ∧ E.P.underlying t = some (.int k')) ∨ (∃ b, c = .bool b ∧ E.P.underlying t = some .bool) ∨ (∃ s, c = .str s ∧ E.P.underlying t = some .string) := by
  cases c <;> simp only [scalFits] at h <;> try (cases h; done)
  · split at h
    · rename_i k' hk; exact .inl ⟨_, _, k', rfl, hk⟩
    · cases h
  · split at h
    · rename_i hk; exact .inr (.inl ⟨_, rfl, hk⟩)
    · cases h
  · split at h
    · rename_i hk; exact .inr (.inr ⟨_, rfl, hk⟩)
    · cases h
theorem run_part_scal {t : Nat} {c : PVal} {cs : Array Value} {off : Nat} {v : Value} (h : scalFits E t c = true) (hv : cs[off]? = some v) (w : World) : (Go.part t cs off).run E.P w = .ok v w := by
  unfold Go.part isAgg
  rcases scalFits_cases h with ⟨_, _, k, _, hu⟩ | ⟨_, _, hu⟩ | ⟨_, _, hu⟩ <;> simp [run_underlying hu w, hv]
/-- scalars of a struct, field by field -/
theorem run_eqFields {Γ : Ctx} {d : Nat} : ∀ (fs : List Field) (i : Nat) (cs ds : List PVal) (xs ys : Array Value) (r : Bool),
    (∀ (j : Nat) (c : PVal), cs[j]? = some c → ∃ u, xs[i + j]? = some u ∧ VR Γ c u) → (∀ (j : Nat) (c : PVal), ds[j]? = some c → ∃ u, ys[i + j]? = some u ∧ VR Γ c u) →
    eqFieldsL E i fs cs ds = .ok r → (Op.eqFields (d + 1) xs ys fs).run E.P Γ.w = .ok r Γ.w
  | [], i, cs, ds, xs, ys, r, _, _, he => by
    cases cs <;> cases ds <;> simp only [eqFieldsL] at he <;> try (cases he; done)
    simp only [R.ok.injEq] at he; subst he; simp [Op.eqFields]
  | f :: fs, i, [], ds, xs, ys, r, hx, hy, he => by cases ds <;> cases he
  | f :: fs, i, c :: cs, [], xs, ys, r, hx, hy, he => by cases he
  | f :: fs, i, c :: cs, e :: ds, xs, ys, r, hx, hy, he => by
    simp only [eqFieldsL] at he
    rcases bif_ok he with ⟨hf, he⟩ | ⟨_, he⟩
    · simp only [Bool.and_eq_true, bne_iff_ne, ne_eq] at hf
      obtain ⟨⟨ho, hn⟩, hs⟩ := hf
      have ho := Nat.eq_of_beq_eq_true ho
      obtain ⟨b, hb, he⟩ := R.bind_ok he
      obtain ⟨b', hb', he⟩ := R.bind_ok he
      simp only [R.ok.injEq] at he
      obtain ⟨u, hu, hcu⟩ := hx 0 c rfl
      obtain ⟨v, hv, hev⟩ := hy 0 e rfl
      have hrest := run_eqFields (Γ := Γ) (d := d) fs (i + 1) cs ds xs ys b'
        (fun j q hj => by have := hx (j + 1) q (by simpa using hj); rwa [show i + (j + 1) = i + 1 + j by omega] at this)
        (fun j q hj => by have := hy (j + 1) q (by simpa using hj); rwa [show i + (j + 1) = i + 1 + j by omega] at this) hb'
      have hpu : (Go.part f.type xs f.offset).run E.P Γ.w = .ok u Γ.w := run_part_scal hs (by rw [ho]; simpa using hu) _
      have hpv : (Go.part f.type ys f.offset).run E.P Γ.w = .ok v Γ.w := run_part_scal hs (by rw [ho]; simpa using hv) _
      have heq : (Op.equalIn (d + 1) f.type u v).run E.P Γ.w = .ok b Γ.w := by
        rcases scalFits_cases hs with ⟨k, n, k', rfl, hut⟩ | ⟨n, rfl, hut⟩ | ⟨n, rfl, hut⟩
        · cases e <;> try (cases hb; done)
          obtain ⟨rfl, rfl⟩ := eqCell_int hb
          cases hcu; cases hev
          exact Pvm.run_equalIn_int hut _
        · cases e <;> try (cases hb; done)
          simp only [eqCell, R.ok.injEq] at hb
          subst hb
          cases hcu; cases hev
          exact Pvm.run_equalIn_bool hut _
        · cases e <;> try (cases hb; done)
          simp only [eqCell, R.ok.injEq] at hb
          subst hb
          cases hcu; cases hev
          exact Pvm.run_equalIn_str hut _
      have hn' : f.name ≠ "_" := hn
      rw [Op.eqFields, if_pos hn']
      simp only [Sem.run_bind, hpu, hpv, heq, Result.andThen_ok]
      subst he
      cases b
      · simp
      · simpa using hrest
    · cases he
theorem eqFields_guard {d : Nat} : ∀ (fs : List Field) (i : Nat) (cs ds : List PVal) (r : Bool), eqFieldsL E i fs cs ds = .ok r → (fs.any fun f => f.name != "_" && E.P.eqGuardType (d + 1) f.type) = false
  | [], i, cs, ds, r, _ => rfl
  | f :: fs, i, [], ds, r, he => by cases ds <;> cases he
  | f :: fs, i, c :: cs, [], r, he => by cases he
  | f :: fs, i, c :: cs, e :: ds, r, he => by
    simp only [eqFieldsL] at he
    rcases bif_ok he with ⟨hf, he⟩ | ⟨_, he⟩
    · simp only [Bool.and_eq_true, bne_iff_ne, ne_eq] at hf
      obtain ⟨b, hb, he⟩ := R.bind_ok he
      obtain ⟨b', hb', he⟩ := R.bind_ok he
      have := eqFields_guard (d := d) fs (i + 1) cs ds b' hb'
      have hg : E.P.eqGuardType (d + 1) f.type = false := by
        rw [Program.eqGuardType]
        rcases scalFits_cases hf.2 with ⟨_, _, k, _, hu⟩ | ⟨_, _, hu⟩ | ⟨_, _, hu⟩ <;> rw [hu]
      simp only [List.any_cons, hg, Bool.and_false, Bool.false_or]
      exact this
    · cases he
theorem run_eqlAgg {Γ : Ctx} {t : Nat} {cs ds : List PVal} {xs ys : Array Value} {r : Bool} (hx : VR Γ (.agg cs) (.agg xs)) (hy : VR Γ (.agg ds) (.agg ys)) {fs : Array Field} (hu : E.P.underlying t = some (.struct fs)) (hh : E.P.stoodInHeld t = false)
    (he : eqFieldsL E 0 fs.toList cs ds = .ok r) (op : BinOp) (a b : Operand) :
    (eqGuard op t a b (.agg xs) (.agg ys)).run E.P Γ.w = .ok () Γ.w ∧ (binOp .eql t (.agg xs) (.agg ys)).run E.P Γ.w = .ok (.bool r) Γ.w ∧ (binOp .neq t (.agg xs) (.agg ys)).run E.P Γ.w = .ok (.bool !r) Γ.w := by
  have hfo : E.P.fieldsOf t = fs := by simp [Program.fieldsOf, hu]
  have h1 : (Op.equalIn 10000 t (.agg xs) (.agg ys)).run E.P Γ.w = .ok r Γ.w := by
    rw [show (10000 : Nat) = 9999 + 1 from rfl, run_equalIn_struct Γ.w 9999 t xs ys (by rw [hfo]; exact hu) hh, hfo]
    cases hx with
    | agg _ _ hl1 h1 =>
      cases hy with
      | agg _ _ hl2 h2 =>
        refine run_eqFields (d := 9998) fs.toList 0 cs ds xs ys r (fun j c hj => ?_) (fun j c hj => ?_) he
        · have hlt : j < xs.size := by rw [← hl1]; exact (List.getElem?_eq_some_iff.1 hj).1
          exact ⟨xs[j], by simp [hlt], h1 j c _ hj (by simp [hlt])⟩
        · have hlt : j < ys.size := by rw [← hl2]; exact (List.getElem?_eq_some_iff.1 hj).1
          exact ⟨ys[j], by simp [hlt], h2 j c _ hj (by simp [hlt])⟩
  refine ⟨run_eqGuard_agg Γ.w op t a b xs ys ?_, ?_, ?_⟩
  · have hd : E.P.depth = (2 * (E.P.types.size + Made.depth)) + 1 + 1 := rfl
    rw [hd, Program.eqGuardType, hu]
    simp only []
    rw [← Array.any_toList]
    exact eqFields_guard fs.toList 0 cs ds r he
  · rw [run_eql_struct, h1]; rfl
  · rw [run_neq_struct, h1]; rfl
end
end Go.Pvm
namespace Go.Pvm
open Go.RowKit
section
variable {E : Env}
theorem run_eql_of {t : Nat} {a b : Value} {r : Bool} {w : World} (h : (Op.equalIn (9999 + 1) t a b).run E.P w = .ok r w) :
    ((do pure (Value.bool (← Op.equal t a b))) : Sem Value).run E.P w = .ok (.bool r) w ∧ ((do pure (Value.bool (!(← Op.equal t a b)))) : Sem Value).run E.P w = .ok (.bool !r) w := by
  have h' : (Op.equal t a b).run E.P w = .ok r w := h
  constructor <;> rw [Sem.run_bind, h'] <;> rfl
theorem isSliceT_eq {t : Nat} (h : isSliceT E t = true) : ∃ e, E.P.underlying t = some (.slice e) := by
  unfold isSliceT at h
  split at h
  · exact ⟨_, by assumption⟩
  · cases h
theorem isPtrT_eq {t : Nat} (h : isPtrT E t = true) : ∃ e, E.P.underlying t = some (.pointer e) := by
  unfold isPtrT at h
  split at h
  · exact ⟨_, by assumption⟩
  · cases h
theorem isFuncT_eq {t : Nat} (h : isFuncT E t = true) : ∃ a b c, E.P.underlying t = some (.func a b c) := by
  unfold isFuncT at h
  split at h
  · exact ⟨_, _, _, by assumption⟩
  · cases h
theorem isMapT_eq {t : Nat} (h : isMapT E t = true) : ∃ a b, E.P.underlying t = some (.map a b) := by
  unfold isMapT at h
  split at h
  · exact ⟨_, _, by assumption⟩
  · cases h
theorem eqlA_ok {Γ : Ctx} {t : Nat} {x y : PVal} {a b : Value} {r : Bool} {st st' : Store} {T W : List Nat} (hx : VR Γ x a) (hy : VR Γ y b) (h : (eqlA E t x y).run st = .ok (r, st', T, W)) (op : BinOp) (oa ob : Operand) :
    st' = st ∧ (eqGuard op t oa ob a b).run E.P Γ.w = .ok () Γ.w ∧ (binOp .eql t a b).run E.P Γ.w = .ok (.bool r) Γ.w ∧ (binOp .neq t a b).run E.P Γ.w = .ok (.bool !r) Γ.w := by
  unfold eqlA at h
  split at h
  · -- structs
    rename_i cs ds
    split at h
    · rename_i fs hu
      rcases AM.bif_ok h with ⟨_, h1⟩ | ⟨hh, h1⟩
      · exact (AM.fail_ok h1).elim
      · obtain ⟨he, hs⟩ := AM.ofR_ok h1
        cases hx with
        | agg _ xs hl h => cases hy with
          | agg _ ys hl' h' => exact ⟨hs, run_eqlAgg (.agg _ _ hl h) (.agg _ _ hl' h') hu hh he op oa ob⟩
    · exact (AM.fail_ok h).elim
  · rcases AM.bif_ok h with ⟨ht, h1⟩ | ⟨_, h1⟩
    · obtain ⟨rfl, hs⟩ := AM.pure_ok h1
      obtain ⟨e, hu⟩ := isSliceT_eq ht
      obtain ⟨a1, c1, f1, rfl, g1, _⟩ := sl_inv hx
      obtain ⟨a2, c2, f2, rfl, g2, _⟩ := sl_inv hy
      obtain ⟨_, rfl, _⟩ := g1 rfl
      obtain ⟨_, rfl, _⟩ := g2 rfl
      refine ⟨hs, guard_scal _ ⟨by simp, by simp⟩, run_eql_of ?_⟩
      rw [Op.equalIn]; simp [run_underlying hu]
    · exact (AM.fail_ok h1).elim
  · rcases AM.bif_ok h with ⟨ht, h1⟩ | ⟨_, h1⟩
    · obtain ⟨rfl, hs⟩ := AM.pure_ok h1
      obtain ⟨e, hu⟩ := isSliceT_eq ht
      obtain ⟨a1, c1, f1, rfl, _, g1, _⟩ := sl_inv hx
      obtain ⟨a2, c2, f2, rfl, g2, _⟩ := sl_inv hy
      obtain ⟨_, rfl, _⟩ := g2 rfl
      have hb := g1.2 _ rfl
      refine ⟨hs, guard_scal _ ⟨by simp, by simp⟩, run_eql_of ?_⟩
      subst hb
      cases a1 <;> (rw [Op.equalIn]; simp [run_underlying hu])
    · exact (AM.fail_ok h1).elim
  · rcases AM.bif_ok h with ⟨ht, h1⟩ | ⟨_, h1⟩
    · obtain ⟨rfl, hs⟩ := AM.pure_ok h1
      obtain ⟨_, _, _, hu⟩ := isFuncT_eq ht
      cases hx; cases hy
      refine ⟨hs, guard_scal _ ⟨by simp, by simp⟩, run_eql_of ?_⟩
      rw [Op.equalIn]; simp [run_underlying hu]
    · exact (AM.fail_ok h1).elim
  · rcases AM.bif_ok h with ⟨ht, h1⟩ | ⟨_, h1⟩
    · obtain ⟨rfl, hs⟩ := AM.pure_ok h1
      obtain ⟨_, _, _, hu⟩ := isFuncT_eq ht
      cases hx; cases hy
      refine ⟨hs, guard_scal _ ⟨by simp, by simp⟩, run_eql_of ?_⟩
      rw [Op.equalIn]; simp [run_underlying hu]
    · exact (AM.fail_ok h1).elim
  · rcases AM.bif_ok h with ⟨ht, h1⟩ | ⟨_, h1⟩
    · obtain ⟨rfl, hs⟩ := AM.pure_ok h1
      obtain ⟨_, _, _, hu⟩ := isFuncT_eq ht
      cases hx; cases hy
      refine ⟨hs, guard_scal _ ⟨by simp, by simp⟩, run_eql_of ?_⟩
      rw [Op.equalIn]; simp [run_underlying hu]
    · exact (AM.fail_ok h1).elim
  · rcases AM.bif_ok h with ⟨ht, h1⟩ | ⟨_, h1⟩
    · obtain ⟨rfl, hs⟩ := AM.pure_ok h1
      obtain ⟨_, hu⟩ := isPtrT_eq ht
      cases hx; cases hy
      refine ⟨hs, guard_scal _ ⟨by simp, by simp⟩, run_eql_of ?_⟩
      rw [Op.equalIn]; simp [run_underlying hu]
    · exact (AM.fail_ok h1).elim
  iterate 4
    · rcases AM.bif_ok h with ⟨ht, h1⟩ | ⟨_, h1⟩
      · obtain ⟨rfl, hs⟩ := AM.pure_ok h1
        obtain ⟨_, hu⟩ := isPtrT_eq ht
        cases hx <;> cases hy <;> (refine ⟨hs, guard_scal _ ⟨by simp, by simp⟩, run_eql_of ?_⟩; rw [Op.equalIn]; simp [run_underlying hu])
      · exact (AM.fail_ok h1).elim
  iterate 3
    · rcases AM.bif_ok h with ⟨ht, h1⟩ | ⟨_, h1⟩
      · obtain ⟨rfl, hs⟩ := AM.pure_ok h1
        obtain ⟨_, _, hu⟩ := isMapT_eq ht
        cases hx <;> cases hy <;> (refine ⟨hs, guard_scal _ ⟨by simp, by simp⟩, run_eql_of ?_⟩; rw [Op.equalIn]; simp [run_underlying hu])
      · exact (AM.fail_ok h1).elim
  · exact (AM.fail_ok h).elim

theorem toV_VR {Γ : Ctx} {p : PVal} {a : Value} (h : p.toV = some a) : VR Γ p a := by
  cases p <;> simp [PVal.toV] at h <;> subst h <;> constructor
theorem toV_shape {p : PVal} {a : Value} (h : p.toV = some a) : (∀ cs, a ≠ .agg cs) ∧ a ≠ .nilIface := by
  cases p <;> simp [PVal.toV] at h <;> subst h <;> simp
theorem binA_ok {Γ : Ctx} {op : BinOp} {t : Nat} {x y v : PVal} {a b : Value} {st st' : Store} {T W : List Nat} (hx : VR Γ x a) (hy : VR Γ y b) (h : (binA E op t x y).run st = .ok (v, st', T, W)) (oa ob : Operand) :
    st' = st ∧ ∃ u, (eqGuard op t oa ob a b).run E.P Γ.w = .ok () Γ.w ∧ (binOp op t a b).run E.P Γ.w = .ok u Γ.w ∧ VR Γ v u := by
  unfold binA at h
  split at h
  · rename_i a' b' ha hb
    have e1 := toV_some ha hx
    have e2 := toV_some hb hy
    subst e1; subst e2
    have hg : (eqGuard op t oa ob a b).run E.P Γ.w = .ok () Γ.w := guard_scal _ (toV_shape ha)
    have eqs : ∀ r, eqCell x y = .ok r → (∀ c, a = .bool c → isBoolT E t = true) → (binOp .eql t a b).run E.P Γ.w = .ok (.bool r) Γ.w ∧ (binOp .neq t a b).run E.P Γ.w = .ok (.bool !r) Γ.w :=
      fun r hr hbt => run_eql Γ ha hb hr fun c hc => isBoolT_eq (hbt c hc)
    split at h
    · -- quo
      split at h
      · rename_i hk
        subst hk
        obtain ⟨hne, h1⟩ := AM.need_ok h
        obtain ⟨rfl, hs⟩ := AM.pure_ok h1
        exact ⟨hs, _, hg, by simp only [binOp, ne_eq, not_true_eq_false, if_false, Op.intDiv, if_neg hne, Sem.run_pure], .int _ _⟩
      · exact (AM.fail_ok h).elim
    · split at h
      · rename_i hk
        subst hk
        obtain ⟨hne, h1⟩ := AM.need_ok h
        obtain ⟨rfl, hs⟩ := AM.pure_ok h1
        exact ⟨hs, _, hg, by simp only [binOp, ne_eq, not_true_eq_false, if_false, Op.intDiv, if_neg hne, Sem.run_pure], .int _ _⟩
      · exact (AM.fail_ok h).elim
    · obtain ⟨hne, h1⟩ := AM.need_ok h
      obtain ⟨rfl, hs⟩ := AM.pure_ok h1
      exact ⟨hs, _, hg, by simp only [binOp, Op.shift, if_neg (Int.not_lt.2 hne), Sem.run_pure], .int _ _⟩
    · obtain ⟨hne, h1⟩ := AM.need_ok h
      obtain ⟨rfl, hs⟩ := AM.pure_ok h1
      exact ⟨hs, _, hg, by simp only [binOp, Op.shift, if_neg (Int.not_lt.2 hne), Sem.run_pure], .int _ _⟩
    · obtain ⟨hne, h1⟩ := AM.need_ok h
      obtain ⟨rfl, hs⟩ := AM.pure_ok h1
      refine ⟨hs, _, hg, ?_, .str _⟩
      simp only [binOp, Op.stringOp]
      rw [if_neg (by simp only [IntKind.max, IntKind.signed, IntKind.bits]; simp; omega)]
      rfl
    · rename_i hna
      rcases AM.bif_ok h with ⟨ht, h1⟩ | ⟨_, h1⟩
      · obtain ⟨h2, hs⟩ := AM.ofR_ok h1
        obtain ⟨r, hr, h3⟩ := R.bind_ok h2
        simp only [R.ok.injEq] at h3
        subst h3
        exact ⟨hs, _, hg, (eqs r hr fun _ _ => ht).1, .bool _⟩
      · exact (AM.fail_ok h1).elim
    · rcases AM.bif_ok h with ⟨ht, h1⟩ | ⟨_, h1⟩
      · obtain ⟨h2, hs⟩ := AM.ofR_ok h1
        obtain ⟨r, hr, h3⟩ := R.bind_ok h2
        simp only [R.ok.injEq] at h3
        subst h3
        exact ⟨hs, _, hg, (eqs r hr fun _ _ => ht).2, .bool _⟩
      · exact (AM.fail_ok h1).elim
    · rename_i hnb
      obtain ⟨h2, hs⟩ := AM.ofR_ok h
      obtain ⟨r, hr, h3⟩ := R.bind_ok h2
      simp only [R.ok.injEq] at h3
      subst h3
      exact ⟨hs, _, hg, (eqs r hr fun c hc => (hnb c hc).elim).1, .bool _⟩
    · rename_i hnb
      obtain ⟨h2, hs⟩ := AM.ofR_ok h
      obtain ⟨r, hr, h3⟩ := R.bind_ok h2
      simp only [R.ok.injEq] at h3
      subst h3
      exact ⟨hs, _, hg, (eqs r hr fun c hc => (hnb c hc).elim).2, .bool _⟩
    · exact (AM.fail_ok h).elim
    · obtain ⟨h2, hs⟩ := AM.ofR_ok h
      obtain ⟨u, hu, hv⟩ := scal_ok E.P h2
      exact ⟨hs, u, hg, hu, hv⟩
  · split at h
    · obtain ⟨r, s1, t1, w1, t2, w2, h1, h2, _, _⟩ := AM.bind_ok h
      obtain ⟨rfl, hs2⟩ := AM.pure_ok h2
      obtain ⟨hs, hg, he, hn⟩ := eqlA_ok hx hy h1 .eql oa ob
      exact ⟨hs2.trans hs, _, hg, he, .bool _⟩
    · obtain ⟨r, s1, t1, w1, t2, w2, h1, h2, _, _⟩ := AM.bind_ok h
      obtain ⟨rfl, hs2⟩ := AM.pure_ok h2
      obtain ⟨hs, hg, he, hn⟩ := eqlA_ok hx hy h1 .neq oa ob
      exact ⟨hs2.trans hs, _, hg, hn, .bool _⟩
    · exact (AM.fail_ok h).elim
end
end Go.Pvm
