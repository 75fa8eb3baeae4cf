/- RetimePeriods (second form, tied card): the law answers true at every netlist and list of delays whose reading is of bulk at most 1048576, and the input reads as it did; no further condition. This text: part Ca (R0). -/
import Derived.Test.YtkajgpdokbinlaaGreatDoorBa
set_option linter.unusedVariables false
set_option linter.unusedSimpArgs false
set_option linter.unnecessarySimpa false
set_option maxHeartbeats 4000000
namespace Go.Pvm.Seat
open Go
def L_base_Ints_0 (K : PVal → List AObj → Prop) (vs : List PVal) (os : List AObj) : Prop := LoopP env0 0 18 0 (cd env0 18 [1, 1, 0, 1, 0, 0]) vs os (kat env0 5 0 18 [1, 1, 0, 1, 0] K [])
theorem e_base_Ints (K : PVal → List AObj → Prop) (a' : List PVal) (b' : List PVal)
    (h : br (!decide ((↑a'.length : Int) = (↑b'.length : Int))) (K (PVal.bool false) []) (L_base_Ints_0 K [PVal.sl Mode.fr 1 a', PVal.sl Mode.fr 1 b', eI (0 : Int)] [])) :
    CallP env0 18 [PVal.sl Mode.fr 1 a', PVal.sl Mode.fr 1 b'] [] K :=
  e_of (n := 6) h (by kernel_rfl)
theorem r_base_Ints_0 (K : PVal → List AObj → Prop) (a' : List PVal) (b' : List PVal) (i' : Int)
    (h : br (decide (i' < (↑a'.length : Int)))
  ((((0 : Int) ≤ i' ∧ i' < (↑a'.length : Int)) ∧ getP a' i'.toNat = eI (asI (getP a' i'.toNat))) ∧
    (((0 : Int) ≤ i' ∧ i' < (↑b'.length : Int)) ∧ getP b' i'.toNat = eI (asI (getP b' i'.toNat))) ∧
    br (!decide (asI (getP a' i'.toNat) = asI (getP b' i'.toNat))) (K (PVal.bool false) []) (L_base_Ints_0 K [PVal.sl Mode.fr 1 a', PVal.sl Mode.fr 1 b', eI (IntKind.i64.wrap (i' + (1 : Int)))] []))
  (K (PVal.bool true) [])) :
    L_base_Ints_0 K [PVal.sl Mode.fr 1 a', PVal.sl Mode.fr 1 b', eI i'] [] :=
  r_of (n := 5) h (by kernel_rfl)
def L_base_IsName_0 (K : PVal → List AObj → Prop) (vs : List PVal) (os : List AObj) : Prop := LoopP env0 0 85 0 (cd env0 85 [1, 1, 0, 1, 0, 0]) vs os (kat env0 5 0 85 [1, 1, 0, 1, 0] K [])
theorem e_base_IsName (K : PVal → List AObj → Prop) (s' : ByteArray)
    (h : br (decide ((↑s'.size : Int) < (1 : Int))) (K (PVal.bool false) []) (br (decide ((↑s'.size : Int) > (16 : Int))) (K (PVal.bool false) []) (L_base_IsName_0 K [PVal.str s', eI (0 : Int)] []))) :
    CallP env0 85 [PVal.str s'] [] K :=
  e_of (n := 6) h (by kernel_rfl)
theorem r_base_IsName_0 (K : PVal → List AObj → Prop) (s' : ByteArray) (i' : Int)
    (h : br (decide (i' < (↑s'.size : Int)))
  (((0 : Int) ≤ i' ∧ i' < (↑s'.size : Int)) ∧
    br (decide (byteAt s' i'.toNat ≥ (97 : Int)))
    (br (decide (byteAt s' i'.toNat ≤ (122 : Int))) (L_base_IsName_0 K [PVal.str s', eI (IntKind.i64.wrap (i' + (1 : Int)))] [])
    (br (decide (byteAt s' i'.toNat ≥ (65 : Int)))
    (br (!decide (byteAt s' i'.toNat ≤ (90 : Int)))
    (br (decide (i' = (0 : Int))) (K (PVal.bool false) [])
    (br (!decide (byteAt s' i'.toNat = (95 : Int)))
    (br (decide (byteAt s' i'.toNat < (48 : Int))) (K (PVal.bool false) []) (br (decide (byteAt s' i'.toNat > (57 : Int))) (K (PVal.bool false) []) (L_base_IsName_0 K [PVal.str s', eI (IntKind.i64.wrap (i' + (1 : Int)))] [])))
    (L_base_IsName_0 K [PVal.str s', eI (IntKind.i64.wrap (i' + (1 : Int)))] [])))
    (L_base_IsName_0 K [PVal.str s', eI (IntKind.i64.wrap (i' + (1 : Int)))] []))
    (br (decide (i' = (0 : Int))) (K (PVal.bool false) [])
    (br (!decide (byteAt s' i'.toNat = (95 : Int)))
    (br (decide (byteAt s' i'.toNat < (48 : Int))) (K (PVal.bool false) []) (br (decide (byteAt s' i'.toNat > (57 : Int))) (K (PVal.bool false) []) (L_base_IsName_0 K [PVal.str s', eI (IntKind.i64.wrap (i' + (1 : Int)))] [])))
    (L_base_IsName_0 K [PVal.str s', eI (IntKind.i64.wrap (i' + (1 : Int)))] [])))))
    (br (decide (byteAt s' i'.toNat ≥ (65 : Int)))
    (br (!decide (byteAt s' i'.toNat ≤ (90 : Int)))
    (br (decide (i' = (0 : Int))) (K (PVal.bool false) [])
    (br (!decide (byteAt s' i'.toNat = (95 : Int)))
    (br (decide (byteAt s' i'.toNat < (48 : Int))) (K (PVal.bool false) []) (br (decide (byteAt s' i'.toNat > (57 : Int))) (K (PVal.bool false) []) (L_base_IsName_0 K [PVal.str s', eI (IntKind.i64.wrap (i' + (1 : Int)))] [])))
    (L_base_IsName_0 K [PVal.str s', eI (IntKind.i64.wrap (i' + (1 : Int)))] [])))
    (L_base_IsName_0 K [PVal.str s', eI (IntKind.i64.wrap (i' + (1 : Int)))] []))
    (br (decide (i' = (0 : Int))) (K (PVal.bool false) [])
    (br (!decide (byteAt s' i'.toNat = (95 : Int)))
    (br (decide (byteAt s' i'.toNat < (48 : Int))) (K (PVal.bool false) []) (br (decide (byteAt s' i'.toNat > (57 : Int))) (K (PVal.bool false) []) (L_base_IsName_0 K [PVal.str s', eI (IntKind.i64.wrap (i' + (1 : Int)))] [])))
    (L_base_IsName_0 K [PVal.str s', eI (IntKind.i64.wrap (i' + (1 : Int)))] [])))))
  (K (PVal.bool true) [])) :
    L_base_IsName_0 K [PVal.str s', eI i'] [] :=
  r_of (n := 5) h (by kernel_rfl)
def L_base_NetLeaves_0 (K : PVal → List AObj → Prop) (vs : List PVal) (os : List AObj) : Prop := LoopP env0 0 90 0 (cd env0 90 [1, 1, 0, 1, 0, 0]) vs os (kat env0 5 0 90 [1, 1, 0, 1, 0] K [])
def L_base_NetLeaves_2 (K : PVal → List AObj → Prop) (vs : List PVal) (os : List AObj) : Prop := LoopP env0 0 90 2 (cd env0 90 [1, 1, 1, 0, 1, 0, 0]) vs os (kat env0 5 0 90 [1, 1, 1, 0, 1, 0] K [])
theorem e_base_NetLeaves (K : PVal → List AObj → Prop) (n'Name : ByteArray) (n'Inputs : List PVal) (n'Registers : List PVal) (n'Nodes : List PVal) (n'Outputs : List PVal)
    (h : L_base_NetLeaves_0 K [PVal.ref (0 : Nat) (5 : Nat) (0 : Nat) (0 : Nat), PVal.own (1 : Nat), eI (0 : Int)]
  [AObj.row true (27 : Nat) (5 : Nat) [PVal.agg [PVal.str n'Name, PVal.sl Mode.fr 2 n'Inputs, PVal.sl Mode.fr 5 n'Registers, PVal.sl Mode.fr 4 n'Nodes, PVal.sl Mode.fr 2 n'Outputs]],
    AObj.row false (3 : Nat) (1 : Nat) []]) :
    CallP env0 90 [PVal.agg [PVal.str n'Name, PVal.sl Mode.fr 2 n'Inputs, PVal.sl Mode.fr 5 n'Registers, PVal.sl Mode.fr 4 n'Nodes, PVal.sl Mode.fr 2 n'Outputs]] [] K :=
  e_of (n := 6) h (by kernel_rfl)
theorem r_base_NetLeaves_0 (K : PVal → List AObj → Prop) (i' : Int) (o00 : ByteArray) (o01 : List PVal) (o02 : List PVal) (o03 : List PVal) (o04 : List PVal) (o1 : List PVal)
    (h : br (decide (i' < (↑o01.length : Int)))
  ((((0 : Int) ≤ i' ∧ i' < (↑o01.length : Int)) ∧ getP o01 i'.toNat = PVal.agg [PVal.str (asS (cellAt (getP o01 i'.toNat) (0 : Nat))), eI (asI (cellAt (getP o01 i'.toNat) (1 : Nat)))]) ∧
    ((o1.length + (1 : Nat)) * (8 : Nat) ≤ (140737488355328 : Nat) ∧ o1.length + (1 : Nat) ≤ (9223372036854775807 : Nat)) ∧
    L_base_NetLeaves_0 K [PVal.ref (0 : Nat) (5 : Nat) (0 : Nat) (0 : Nat), PVal.own (1 : Nat), eI (IntKind.i64.wrap (i' + (1 : Int)))]
    [AObj.row true (27 : Nat) (5 : Nat) [PVal.agg [PVal.str o00, PVal.sl Mode.fr 2 o01, PVal.sl Mode.fr 5 o02, PVal.sl Mode.fr 4 o03, PVal.sl Mode.fr 2 o04]],
    AObj.row false (3 : Nat) (1 : Nat) (o1 ++ [eI (asI (cellAt (getP o01 i'.toNat) (1 : Nat)))])])
  (L_base_NetLeaves_2 K [PVal.ref (0 : Nat) (5 : Nat) (0 : Nat) (0 : Nat), PVal.own (1 : Nat), eI (0 : Int)]
    [AObj.row true (27 : Nat) (5 : Nat) [PVal.agg [PVal.str o00, PVal.sl Mode.fr 2 o01, PVal.sl Mode.fr 5 o02, PVal.sl Mode.fr 4 o03, PVal.sl Mode.fr 2 o04]], AObj.row false (3 : Nat) (1 : Nat) o1])) :
    L_base_NetLeaves_0 K [PVal.ref (0 : Nat) (5 : Nat) (0 : Nat) (0 : Nat), PVal.own (1 : Nat), eI i'] [AObj.row true (27 : Nat) (5 : Nat) [PVal.agg [PVal.str o00, PVal.sl Mode.fr 2 o01, PVal.sl Mode.fr 5 o02, PVal.sl Mode.fr 4 o03, PVal.sl Mode.fr 2 o04]], AObj.row false (3 : Nat) (1 : Nat) o1] :=
  r_of (n := 5) h (by kernel_rfl)
theorem r_base_NetLeaves_2 (K : PVal → List AObj → Prop) (i' : Int) (o00 : ByteArray) (o01 : List PVal) (o02 : List PVal) (o03 : List PVal) (o04 : List PVal) (o1 : List PVal)
    (h : br (decide (i' < (↑o02.length : Int)))
  ((((0 : Int) ≤ i' ∧ i' < (↑o02.length : Int)) ∧
    getP o02 i'.toNat =
    PVal.agg
    [PVal.str (asS (cellAt (getP o02 i'.toNat) (0 : Nat))), eI (asI (cellAt (getP o02 i'.toNat) (1 : Nat))), eI (asI (cellAt (getP o02 i'.toNat) (2 : Nat))),
    eI (asI (cellAt (getP o02 i'.toNat) (3 : Nat))), eI (asI (cellAt (getP o02 i'.toNat) (4 : Nat)))]) ∧
    ((o1.length + (1 : Nat)) * (8 : Nat) ≤ (140737488355328 : Nat) ∧ o1.length + (1 : Nat) ≤ (9223372036854775807 : Nat)) ∧
    L_base_NetLeaves_2 K [PVal.ref (0 : Nat) (5 : Nat) (0 : Nat) (0 : Nat), PVal.own (1 : Nat), eI (IntKind.i64.wrap (i' + (1 : Int)))]
    [AObj.row true (27 : Nat) (5 : Nat) [PVal.agg [PVal.str o00, PVal.sl Mode.fr 2 o01, PVal.sl Mode.fr 5 o02, PVal.sl Mode.fr 4 o03, PVal.sl Mode.fr 2 o04]],
    AObj.row false (3 : Nat) (1 : Nat) (o1 ++ [eI (asI (cellAt (getP o02 i'.toNat) (1 : Nat)))])])
  (K (PVal.sl Mode.fr 1 o1) [])) :
    L_base_NetLeaves_2 K [PVal.ref (0 : Nat) (5 : Nat) (0 : Nat) (0 : Nat), PVal.own (1 : Nat), eI i'] [AObj.row true (27 : Nat) (5 : Nat) [PVal.agg [PVal.str o00, PVal.sl Mode.fr 2 o01, PVal.sl Mode.fr 5 o02, PVal.sl Mode.fr 4 o03, PVal.sl Mode.fr 2 o04]], AObj.row false (3 : Nat) (1 : Nat) o1] :=
  r_of (n := 5) h (by kernel_rfl)
def L_base_CopyNodes_0 (K : PVal → List AObj → Prop) (vs : List PVal) (os : List AObj) : Prop := LoopP env0 0 49 0 (cd env0 49 [1, 1, 0, 1, 0, 0]) vs os (kat env0 5 0 49 [1, 1, 0, 1, 0] K [])
theorem e_base_CopyNodes (K : PVal → List AObj → Prop) (l' : List PVal)
    (h : ((0 : Int) ≤ (↑l'.length : Int) ∧ (↑l'.length : Int) ≤ (↑l'.length : Int) ∧ (↑l'.length : Int) * (48 : Int) ≤ (140737488355328 : Int) ∧ (↑l'.length : Int) ≤ (9223372036854775807 : Int)) ∧
  L_base_CopyNodes_0 K [PVal.sl Mode.fr 4 l', PVal.own (0 : Nat), eI (0 : Int)]
    [AObj.row false (59 : Nat) (4 : Nat) (List.replicate (↑l'.length : Int).toNat (PVal.agg [eI (0 : Int), eI (0 : Int), PVal.sl Mode.fr 1 [], eI (0 : Int)]))]) :
    CallP env0 49 [PVal.sl Mode.fr 4 l'] [] K :=
  e_of (n := 6) h (by kernel_rfl)
theorem r_base_CopyNodes_0 (K : PVal → List AObj → Prop) (l' : List PVal) (i' : Int) (o0 : List PVal)
    (h : br (decide (i' < (↑l'.length : Int)))
  ((((0 : Int) ≤ i' ∧ i' < (↑l'.length : Int)) ∧
    getP l' i'.toNat =
    PVal.agg
    [eI (asI (cellAt (getP l' i'.toNat) (0 : Nat))), eI (asI (cellAt (getP l' i'.toNat) (1 : Nat))), PVal.sl Mode.fr 1 (asL (cellAt (getP l' i'.toNat) (2 : Nat))),
    eI (asI (cellAt (getP l' i'.toNat) (3 : Nat)))]) ∧
    ((0 : Int) ≤ i' ∧ i' < (↑o0.length : Int)) ∧
    (i'.toNat < o0.length ∧
    getP o0 i'.toNat =
    PVal.agg
    [eI (asI (cellAt (getP o0 i'.toNat) (0 : Nat))), eI (asI (cellAt (getP o0 i'.toNat) (1 : Nat))), PVal.sl Mode.fr 1 (asL (cellAt (getP o0 i'.toNat) (2 : Nat))),
    eI (asI (cellAt (getP o0 i'.toNat) (3 : Nat)))]) ∧
    (((0 : Int) ≤ i' ∧ i' < (↑l'.length : Int)) ∧
    getP l' i'.toNat =
    PVal.agg
    [eI (asI (cellAt (getP l' i'.toNat) (0 : Nat))), eI (asI (cellAt (getP l' i'.toNat) (1 : Nat))), PVal.sl Mode.fr 1 (asL (cellAt (getP l' i'.toNat) (2 : Nat))),
    eI (asI (cellAt (getP l' i'.toNat) (3 : Nat)))]) ∧
    (((0 : Nat) + (asL (cellAt (getP l' i'.toNat) (2 : Nat))).length) * (8 : Nat) ≤ (140737488355328 : Nat) ∧ (0 : Nat) + (asL (cellAt (getP l' i'.toNat) (2 : Nat))).length ≤ (9223372036854775807 : Nat)) ∧
    ((0 : Int) ≤ i' ∧
    i' <
    (↑(o0.set i'.toNat
    (PVal.agg
    [eI (asI (cellAt (getP l' i'.toNat) (0 : Nat))), eI (asI (cellAt (getP l' i'.toNat) (1 : Nat))), PVal.sl Mode.fr 1 (asL (cellAt (getP l' i'.toNat) (2 : Nat))),
    eI (asI (cellAt (getP l' i'.toNat) (3 : Nat)))])).length :
    Int)) ∧
    (i'.toNat <
    (o0.set i'.toNat
    (PVal.agg
    [eI (asI (cellAt (getP l' i'.toNat) (0 : Nat))), eI (asI (cellAt (getP l' i'.toNat) (1 : Nat))), PVal.sl Mode.fr 1 (asL (cellAt (getP l' i'.toNat) (2 : Nat))),
    eI (asI (cellAt (getP l' i'.toNat) (3 : Nat)))])).length ∧
    getP
    (o0.set i'.toNat
    (PVal.agg
    [eI (asI (cellAt (getP l' i'.toNat) (0 : Nat))), eI (asI (cellAt (getP l' i'.toNat) (1 : Nat))), PVal.sl Mode.fr 1 (asL (cellAt (getP l' i'.toNat) (2 : Nat))),
    eI (asI (cellAt (getP l' i'.toNat) (3 : Nat)))]))
    i'.toNat =
    PVal.agg
    [PVal.int IntKind.i64
    (asI
    (cellAt
    (getP
    (o0.set i'.toNat
    (PVal.agg
    [eI (asI (cellAt (getP l' i'.toNat) (0 : Nat))), eI (asI (cellAt (getP l' i'.toNat) (1 : Nat))), PVal.sl Mode.fr 1 (asL (cellAt (getP l' i'.toNat) (2 : Nat))),
    eI (asI (cellAt (getP l' i'.toNat) (3 : Nat)))]))
    i'.toNat)
    (0 : Nat))),
    PVal.int IntKind.i64
    (asI
    (cellAt
    (getP
    (o0.set i'.toNat
    (PVal.agg
    [eI (asI (cellAt (getP l' i'.toNat) (0 : Nat))), eI (asI (cellAt (getP l' i'.toNat) (1 : Nat))), PVal.sl Mode.fr 1 (asL (cellAt (getP l' i'.toNat) (2 : Nat))),
    eI (asI (cellAt (getP l' i'.toNat) (3 : Nat)))]))
    i'.toNat)
    (1 : Nat))),
    PVal.sl Mode.fr 1
    (asL
    (cellAt
    (getP
    (o0.set i'.toNat
    (PVal.agg
    [eI (asI (cellAt (getP l' i'.toNat) (0 : Nat))), eI (asI (cellAt (getP l' i'.toNat) (1 : Nat))), PVal.sl Mode.fr 1 (asL (cellAt (getP l' i'.toNat) (2 : Nat))),
    eI (asI (cellAt (getP l' i'.toNat) (3 : Nat)))]))
    i'.toNat)
    (2 : Nat))),
    PVal.int IntKind.i64
    (asI
    (cellAt
    (getP
    (o0.set i'.toNat
    (PVal.agg
    [eI (asI (cellAt (getP l' i'.toNat) (0 : Nat))), eI (asI (cellAt (getP l' i'.toNat) (1 : Nat))), PVal.sl Mode.fr 1 (asL (cellAt (getP l' i'.toNat) (2 : Nat))),
    eI (asI (cellAt (getP l' i'.toNat) (3 : Nat)))]))
    i'.toNat)
    (3 : Nat)))]) ∧
    L_base_CopyNodes_0 K [PVal.sl Mode.fr 4 l', PVal.own (0 : Nat), eI (IntKind.i64.wrap (i' + (1 : Int)))]
    [AObj.row false (59 : Nat) (4 : Nat)
    ((o0.set i'.toNat
    (PVal.agg
    [eI (asI (cellAt (getP l' i'.toNat) (0 : Nat))), eI (asI (cellAt (getP l' i'.toNat) (1 : Nat))), PVal.sl Mode.fr 1 (asL (cellAt (getP l' i'.toNat) (2 : Nat))),
    eI (asI (cellAt (getP l' i'.toNat) (3 : Nat)))])).set
    i'.toNat
    (PVal.agg
    [PVal.int IntKind.i64
    (asI
    (cellAt
    (getP
    (o0.set i'.toNat
    (PVal.agg
    [eI (asI (cellAt (getP l' i'.toNat) (0 : Nat))), eI (asI (cellAt (getP l' i'.toNat) (1 : Nat))), PVal.sl Mode.fr 1 (asL (cellAt (getP l' i'.toNat) (2 : Nat))),
    eI (asI (cellAt (getP l' i'.toNat) (3 : Nat)))]))
    i'.toNat)
    (0 : Nat))),
    PVal.int IntKind.i64
    (asI
    (cellAt
    (getP
    (o0.set i'.toNat
    (PVal.agg
    [eI (asI (cellAt (getP l' i'.toNat) (0 : Nat))), eI (asI (cellAt (getP l' i'.toNat) (1 : Nat))), PVal.sl Mode.fr 1 (asL (cellAt (getP l' i'.toNat) (2 : Nat))),
    eI (asI (cellAt (getP l' i'.toNat) (3 : Nat)))]))
    i'.toNat)
    (1 : Nat))),
    PVal.sl Mode.fr 1 ([] ++ asL (cellAt (getP l' i'.toNat) (2 : Nat))),
    PVal.int IntKind.i64
    (asI
    (cellAt
    (getP
    (o0.set i'.toNat
    (PVal.agg
    [eI (asI (cellAt (getP l' i'.toNat) (0 : Nat))), eI (asI (cellAt (getP l' i'.toNat) (1 : Nat))), PVal.sl Mode.fr 1 (asL (cellAt (getP l' i'.toNat) (2 : Nat))),
    eI (asI (cellAt (getP l' i'.toNat) (3 : Nat)))]))
    i'.toNat)
    (3 : Nat)))]))])
  (K (PVal.own (0 : Nat)) [AObj.row false (59 : Nat) (4 : Nat) o0])) :
    L_base_CopyNodes_0 K [PVal.sl Mode.fr 4 l', PVal.own (0 : Nat), eI i'] [AObj.row false (59 : Nat) (4 : Nat) o0] :=
  r_of (n := 5) h (by kernel_rfl)
def L_base_widthsFit_0 (K : PVal → List AObj → Prop) (vs : List PVal) (os : List AObj) : Prop := LoopP env0 0 182 0 (cd env0 182 [1, 1, 0, 1, 0, 0]) vs os (kat env0 5 0 182 [1, 1, 0, 1, 0] K [])
theorem e_base_widthsFit (K : PVal → List AObj → Prop) (x0 : List PVal) (x1Op : Int) (x1Width : Int) (x1Args : List PVal) (x1Value : Int)
    (h : L_base_widthsFit_0 K [PVal.sl Mode.fr 4 x0, PVal.ref (0 : Nat) (4 : Nat) (0 : Nat) (0 : Nat), PVal.own (1 : Nat), eI (0 : Int)]
  [AObj.row true (59 : Nat) (4 : Nat) [PVal.agg [eI x1Op, eI x1Width, PVal.sl Mode.fr 1 x1Args, eI x1Value]], AObj.row false (3 : Nat) (1 : Nat) []]) :
    CallP env0 182 [PVal.sl Mode.fr 4 x0, PVal.agg [eI x1Op, eI x1Width, PVal.sl Mode.fr 1 x1Args, eI x1Value]] [] K :=
  e_of (n := 6) h (by kernel_rfl)
theorem r_base_widthsFit_0 (K : PVal → List AObj → Prop) (x0 : List PVal) (x6 : Int) (o00 : Int) (o01 : Int) (o02 : List PVal) (o03 : Int) (o1 : List PVal)
    (h : br (decide (x6 < (↑o02.length : Int)))
  ((((0 : Int) ≤ x6 ∧ x6 < (↑o02.length : Int)) ∧ getP o02 x6.toNat = eI (asI (getP o02 x6.toNat))) ∧
    (((0 : Int) ≤ asI (getP o02 x6.toNat) ∧ asI (getP o02 x6.toNat) < (↑x0.length : Int)) ∧
    getP x0 (asI (getP o02 x6.toNat)).toNat =
    PVal.agg
    [eI (asI (cellAt (getP x0 (asI (getP o02 x6.toNat)).toNat) (0 : Nat))), eI (asI (cellAt (getP x0 (asI (getP o02 x6.toNat)).toNat) (1 : Nat))),
    PVal.sl Mode.fr 1 (asL (cellAt (getP x0 (asI (getP o02 x6.toNat)).toNat) (2 : Nat))), eI (asI (cellAt (getP x0 (asI (getP o02 x6.toNat)).toNat) (3 : Nat)))]) ∧
    ((o1.length + (1 : Nat)) * (8 : Nat) ≤ (140737488355328 : Nat) ∧ o1.length + (1 : Nat) ≤ (9223372036854775807 : Nat)) ∧
    L_base_widthsFit_0 K [PVal.sl Mode.fr 4 x0, PVal.ref (0 : Nat) (4 : Nat) (0 : Nat) (0 : Nat), PVal.own (1 : Nat), eI (IntKind.i64.wrap (x6 + (1 : Int)))]
    [AObj.row true (59 : Nat) (4 : Nat) [PVal.agg [eI o00, eI o01, PVal.sl Mode.fr 1 o02, eI o03]],
    AObj.row false (3 : Nat) (1 : Nat) (o1 ++ [eI (asI (cellAt (getP x0 (asI (getP o02 x6.toNat)).toNat) (1 : Nat)))])])
  (br (decide (o00 = (2 : Int))) (((0 : Int) ≤ (0 : Int) ∧ (0 : Int) < (↑o1.length : Int)) ∧ ((0 : Nat) < o1.length ∧ getP o1 (0 : Nat) = eI (asI (getP o1 (0 : Nat)))) ∧ K (PVal.bool (decide (asI (getP o1 (0 : Nat)) = o01))) [])
    (br (decide (o00 = (3 : Int)))
    (br (decide (o00 = (3 : Int)))
    (((0 : Int) ≤ (0 : Int) ∧ (0 : Int) < (↑o1.length : Int)) ∧
    ((0 : Nat) < o1.length ∧ getP o1 (0 : Nat) = eI (asI (getP o1 (0 : Nat)))) ∧
    br (decide (asI (getP o1 (0 : Nat)) = o01))
    (((0 : Int) ≤ (1 : Int) ∧ (1 : Int) < (↑o1.length : Int)) ∧ ((1 : Nat) < o1.length ∧ getP o1 (1 : Nat) = eI (asI (getP o1 (1 : Nat)))) ∧ K (PVal.bool (decide (asI (getP o1 (1 : Nat)) = o01))) [])
    (K (PVal.bool false) []))
    (br (decide (o00 = (9 : Int)))
    (br (decide (o00 = (9 : Int)))
    (((0 : Int) ≤ (0 : Int) ∧ (0 : Int) < (↑o1.length : Int)) ∧
    ((0 : Nat) < o1.length ∧ getP o1 (0 : Nat) = eI (asI (getP o1 (0 : Nat)))) ∧
    ((0 : Int) ≤ (1 : Int) ∧ (1 : Int) < (↑o1.length : Int)) ∧
    ((1 : Nat) < o1.length ∧ getP o1 (1 : Nat) = eI (asI (getP o1 (1 : Nat)))) ∧ br (decide (asI (getP o1 (0 : Nat)) = asI (getP o1 (1 : Nat)))) (K (PVal.bool (decide (o01 = (1 : Int)))) []) (K (PVal.bool false) []))
    (br (decide (o00 = (12 : Int)))
    (((0 : Int) ≤ (0 : Int) ∧ (0 : Int) < (↑o1.length : Int)) ∧
    ((0 : Nat) < o1.length ∧ getP o1 (0 : Nat) = eI (asI (getP o1 (0 : Nat)))) ∧
    br (decide (asI (getP o1 (0 : Nat)) = (1 : Int)))
    (((0 : Int) ≤ (1 : Int) ∧ (1 : Int) < (↑o1.length : Int)) ∧
    ((1 : Nat) < o1.length ∧ getP o1 (1 : Nat) = eI (asI (getP o1 (1 : Nat)))) ∧
    br (decide (asI (getP o1 (1 : Nat)) = o01))
    (((0 : Int) ≤ (2 : Int) ∧ (2 : Int) < (↑o1.length : Int)) ∧ ((2 : Nat) < o1.length ∧ getP o1 (2 : Nat) = eI (asI (getP o1 (2 : Nat)))) ∧ K (PVal.bool (decide (asI (getP o1 (2 : Nat)) = o01))) [])
    (K (PVal.bool false) []))
    (K (PVal.bool false) []))
    (br (decide (o00 = (13 : Int)))
    (((0 : Int) ≤ (0 : Int) ∧ (0 : Int) < (↑o1.length : Int)) ∧
    ((0 : Nat) < o1.length ∧ getP o1 (0 : Nat) = eI (asI (getP o1 (0 : Nat)))) ∧
    ((0 : Int) ≤ (1 : Int) ∧ (1 : Int) < (↑o1.length : Int)) ∧
    ((1 : Nat) < o1.length ∧ getP o1 (1 : Nat) = eI (asI (getP o1 (1 : Nat)))) ∧ K (PVal.bool (decide (IntKind.i64.wrap (asI (getP o1 (0 : Nat)) + asI (getP o1 (1 : Nat))) = o01))) [])
    (br (decide (o00 = (14 : Int)))
    (((0 : Int) ≤ (0 : Int) ∧ (0 : Int) < (↑o1.length : Int)) ∧
    ((0 : Nat) < o1.length ∧ getP o1 (0 : Nat) = eI (asI (getP o1 (0 : Nat)))) ∧ K (PVal.bool (decide (IntKind.i64.wrap (o03 + o01) ≤ asI (getP o1 (0 : Nat))))) [])
    (br (decide (o00 = (15 : Int)))
    (br (decide (o00 = (15 : Int)))
    (((0 : Int) ≤ (0 : Int) ∧ (0 : Int) < (↑o1.length : Int)) ∧ ((0 : Nat) < o1.length ∧ getP o1 (0 : Nat) = eI (asI (getP o1 (0 : Nat)))) ∧ K (PVal.bool (decide (asI (getP o1 (0 : Nat)) ≤ o01))) [])
    (((0 : Int) ≤ (0 : Int) ∧ (0 : Int) < (↑o1.length : Int)) ∧ ((0 : Nat) < o1.length ∧ getP o1 (0 : Nat) = eI (asI (getP o1 (0 : Nat)))) ∧ K (PVal.bool (decide (asI (getP o1 (0 : Nat)) = o01))) []))
    (br (decide (o00 = (16 : Int)))
    (((0 : Int) ≤ (0 : Int) ∧ (0 : Int) < (↑o1.length : Int)) ∧ ((0 : Nat) < o1.length ∧ getP o1 (0 : Nat) = eI (asI (getP o1 (0 : Nat)))) ∧ K (PVal.bool (decide (asI (getP o1 (0 : Nat)) ≤ o01))) [])
    (((0 : Int) ≤ (0 : Int) ∧ (0 : Int) < (↑o1.length : Int)) ∧ ((0 : Nat) < o1.length ∧ getP o1 (0 : Nat) = eI (asI (getP o1 (0 : Nat)))) ∧ K (PVal.bool (decide (asI (getP o1 (0 : Nat)) = o01))) [])))))))
    (br (decide (o00 = (10 : Int)))
    (br (decide (o00 = (10 : Int)))
    (((0 : Int) ≤ (0 : Int) ∧ (0 : Int) < (↑o1.length : Int)) ∧
    ((0 : Nat) < o1.length ∧ getP o1 (0 : Nat) = eI (asI (getP o1 (0 : Nat)))) ∧
    ((0 : Int) ≤ (1 : Int) ∧ (1 : Int) < (↑o1.length : Int)) ∧
    ((1 : Nat) < o1.length ∧ getP o1 (1 : Nat) = eI (asI (getP o1 (1 : Nat)))) ∧ br (decide (asI (getP o1 (0 : Nat)) = asI (getP o1 (1 : Nat)))) (K (PVal.bool (decide (o01 = (1 : Int)))) []) (K (PVal.bool false) []))
    (br (decide (o00 = (12 : Int)))
    (((0 : Int) ≤ (0 : Int) ∧ (0 : Int) < (↑o1.length : Int)) ∧
    ((0 : Nat) < o1.length ∧ getP o1 (0 : Nat) = eI (asI (getP o1 (0 : Nat)))) ∧
    br (decide (asI (getP o1 (0 : Nat)) = (1 : Int)))
    (((0 : Int) ≤ (1 : Int) ∧ (1 : Int) < (↑o1.length : Int)) ∧
    ((1 : Nat) < o1.length ∧ getP o1 (1 : Nat) = eI (asI (getP o1 (1 : Nat)))) ∧
    br (decide (asI (getP o1 (1 : Nat)) = o01))
    (((0 : Int) ≤ (2 : Int) ∧ (2 : Int) < (↑o1.length : Int)) ∧ ((2 : Nat) < o1.length ∧ getP o1 (2 : Nat) = eI (asI (getP o1 (2 : Nat)))) ∧ K (PVal.bool (decide (asI (getP o1 (2 : Nat)) = o01))) [])
    (K (PVal.bool false) []))
    (K (PVal.bool false) []))
    (br (decide (o00 = (13 : Int)))
    (((0 : Int) ≤ (0 : Int) ∧ (0 : Int) < (↑o1.length : Int)) ∧
    ((0 : Nat) < o1.length ∧ getP o1 (0 : Nat) = eI (asI (getP o1 (0 : Nat)))) ∧
    ((0 : Int) ≤ (1 : Int) ∧ (1 : Int) < (↑o1.length : Int)) ∧
    ((1 : Nat) < o1.length ∧ getP o1 (1 : Nat) = eI (asI (getP o1 (1 : Nat)))) ∧ K (PVal.bool (decide (IntKind.i64.wrap (asI (getP o1 (0 : Nat)) + asI (getP o1 (1 : Nat))) = o01))) [])
    (br (decide (o00 = (14 : Int)))
    (((0 : Int) ≤ (0 : Int) ∧ (0 : Int) < (↑o1.length : Int)) ∧
    ((0 : Nat) < o1.length ∧ getP o1 (0 : Nat) = eI (asI (getP o1 (0 : Nat)))) ∧ K (PVal.bool (decide (IntKind.i64.wrap (o03 + o01) ≤ asI (getP o1 (0 : Nat))))) [])
    (br (decide (o00 = (15 : Int)))
    (br (decide (o00 = (15 : Int)))
    (((0 : Int) ≤ (0 : Int) ∧ (0 : Int) < (↑o1.length : Int)) ∧ ((0 : Nat) < o1.length ∧ getP o1 (0 : Nat) = eI (asI (getP o1 (0 : Nat)))) ∧ K (PVal.bool (decide (asI (getP o1 (0 : Nat)) ≤ o01))) [])
    (((0 : Int) ≤ (0 : Int) ∧ (0 : Int) < (↑o1.length : Int)) ∧ ((0 : Nat) < o1.length ∧ getP o1 (0 : Nat) = eI (asI (getP o1 (0 : Nat)))) ∧ K (PVal.bool (decide (asI (getP o1 (0 : Nat)) = o01))) []))
    (br (decide (o00 = (16 : Int)))
    (((0 : Int) ≤ (0 : Int) ∧ (0 : Int) < (↑o1.length : Int)) ∧ ((0 : Nat) < o1.length ∧ getP o1 (0 : Nat) = eI (asI (getP o1 (0 : Nat)))) ∧ K (PVal.bool (decide (asI (getP o1 (0 : Nat)) ≤ o01))) [])
    (((0 : Int) ≤ (0 : Int) ∧ (0 : Int) < (↑o1.length : Int)) ∧ ((0 : Nat) < o1.length ∧ getP o1 (0 : Nat) = eI (asI (getP o1 (0 : Nat)))) ∧ K (PVal.bool (decide (asI (getP o1 (0 : Nat)) = o01))) [])))))))
    (br (decide (o00 = (11 : Int)))
    (((0 : Int) ≤ (0 : Int) ∧ (0 : Int) < (↑o1.length : Int)) ∧
    ((0 : Nat) < o1.length ∧ getP o1 (0 : Nat) = eI (asI (getP o1 (0 : Nat)))) ∧
    ((0 : Int) ≤ (1 : Int) ∧ (1 : Int) < (↑o1.length : Int)) ∧
    ((1 : Nat) < o1.length ∧ getP o1 (1 : Nat) = eI (asI (getP o1 (1 : Nat)))) ∧ br (decide (asI (getP o1 (0 : Nat)) = asI (getP o1 (1 : Nat)))) (K (PVal.bool (decide (o01 = (1 : Int)))) []) (K (PVal.bool false) []))
    (br (decide (o00 = (12 : Int)))
    (((0 : Int) ≤ (0 : Int) ∧ (0 : Int) < (↑o1.length : Int)) ∧
    ((0 : Nat) < o1.length ∧ getP o1 (0 : Nat) = eI (asI (getP o1 (0 : Nat)))) ∧
    br (decide (asI (getP o1 (0 : Nat)) = (1 : Int)))
    (((0 : Int) ≤ (1 : Int) ∧ (1 : Int) < (↑o1.length : Int)) ∧
    ((1 : Nat) < o1.length ∧ getP o1 (1 : Nat) = eI (asI (getP o1 (1 : Nat)))) ∧
    br (decide (asI (getP o1 (1 : Nat)) = o01))
    (((0 : Int) ≤ (2 : Int) ∧ (2 : Int) < (↑o1.length : Int)) ∧ ((2 : Nat) < o1.length ∧ getP o1 (2 : Nat) = eI (asI (getP o1 (2 : Nat)))) ∧ K (PVal.bool (decide (asI (getP o1 (2 : Nat)) = o01))) [])
    (K (PVal.bool false) []))
    (K (PVal.bool false) []))
    (br (decide (o00 = (13 : Int)))
    (((0 : Int) ≤ (0 : Int) ∧ (0 : Int) < (↑o1.length : Int)) ∧
    ((0 : Nat) < o1.length ∧ getP o1 (0 : Nat) = eI (asI (getP o1 (0 : Nat)))) ∧
    ((0 : Int) ≤ (1 : Int) ∧ (1 : Int) < (↑o1.length : Int)) ∧
    ((1 : Nat) < o1.length ∧ getP o1 (1 : Nat) = eI (asI (getP o1 (1 : Nat)))) ∧ K (PVal.bool (decide (IntKind.i64.wrap (asI (getP o1 (0 : Nat)) + asI (getP o1 (1 : Nat))) = o01))) [])
    (br (decide (o00 = (14 : Int)))
    (((0 : Int) ≤ (0 : Int) ∧ (0 : Int) < (↑o1.length : Int)) ∧
    ((0 : Nat) < o1.length ∧ getP o1 (0 : Nat) = eI (asI (getP o1 (0 : Nat)))) ∧ K (PVal.bool (decide (IntKind.i64.wrap (o03 + o01) ≤ asI (getP o1 (0 : Nat))))) [])
    (br (decide (o00 = (15 : Int)))
    (br (decide (o00 = (15 : Int)))
    (((0 : Int) ≤ (0 : Int) ∧ (0 : Int) < (↑o1.length : Int)) ∧ ((0 : Nat) < o1.length ∧ getP o1 (0 : Nat) = eI (asI (getP o1 (0 : Nat)))) ∧ K (PVal.bool (decide (asI (getP o1 (0 : Nat)) ≤ o01))) [])
    (((0 : Int) ≤ (0 : Int) ∧ (0 : Int) < (↑o1.length : Int)) ∧ ((0 : Nat) < o1.length ∧ getP o1 (0 : Nat) = eI (asI (getP o1 (0 : Nat)))) ∧ K (PVal.bool (decide (asI (getP o1 (0 : Nat)) = o01))) []))
    (br (decide (o00 = (16 : Int)))
    (((0 : Int) ≤ (0 : Int) ∧ (0 : Int) < (↑o1.length : Int)) ∧ ((0 : Nat) < o1.length ∧ getP o1 (0 : Nat) = eI (asI (getP o1 (0 : Nat)))) ∧ K (PVal.bool (decide (asI (getP o1 (0 : Nat)) ≤ o01))) [])
    (((0 : Int) ≤ (0 : Int) ∧ (0 : Int) < (↑o1.length : Int)) ∧ ((0 : Nat) < o1.length ∧ getP o1 (0 : Nat) = eI (asI (getP o1 (0 : Nat)))) ∧ K (PVal.bool (decide (asI (getP o1 (0 : Nat)) = o01))) []))))))))))
    (br (decide (o00 = (4 : Int)))
    (br (decide (o00 = (4 : Int)))
    (((0 : Int) ≤ (0 : Int) ∧ (0 : Int) < (↑o1.length : Int)) ∧
    ((0 : Nat) < o1.length ∧ getP o1 (0 : Nat) = eI (asI (getP o1 (0 : Nat)))) ∧
    br (decide (asI (getP o1 (0 : Nat)) = o01))
    (((0 : Int) ≤ (1 : Int) ∧ (1 : Int) < (↑o1.length : Int)) ∧ ((1 : Nat) < o1.length ∧ getP o1 (1 : Nat) = eI (asI (getP o1 (1 : Nat)))) ∧ K (PVal.bool (decide (asI (getP o1 (1 : Nat)) = o01))) [])
    (K (PVal.bool false) []))
    (br (decide (o00 = (9 : Int)))
    (br (decide (o00 = (9 : Int)))
    (((0 : Int) ≤ (0 : Int) ∧ (0 : Int) < (↑o1.length : Int)) ∧
    ((0 : Nat) < o1.length ∧ getP o1 (0 : Nat) = eI (asI (getP o1 (0 : Nat)))) ∧
    ((0 : Int) ≤ (1 : Int) ∧ (1 : Int) < (↑o1.length : Int)) ∧
    ((1 : Nat) < o1.length ∧ getP o1 (1 : Nat) = eI (asI (getP o1 (1 : Nat)))) ∧ br (decide (asI (getP o1 (0 : Nat)) = asI (getP o1 (1 : Nat)))) (K (PVal.bool (decide (o01 = (1 : Int)))) []) (K (PVal.bool false) []))
    (br (decide (o00 = (12 : Int)))
    (((0 : Int) ≤ (0 : Int) ∧ (0 : Int) < (↑o1.length : Int)) ∧
    ((0 : Nat) < o1.length ∧ getP o1 (0 : Nat) = eI (asI (getP o1 (0 : Nat)))) ∧
    br (decide (asI (getP o1 (0 : Nat)) = (1 : Int)))
    (((0 : Int) ≤ (1 : Int) ∧ (1 : Int) < (↑o1.length : Int)) ∧
    ((1 : Nat) < o1.length ∧ getP o1 (1 : Nat) = eI (asI (getP o1 (1 : Nat)))) ∧
    br (decide (asI (getP o1 (1 : Nat)) = o01))
    (((0 : Int) ≤ (2 : Int) ∧ (2 : Int) < (↑o1.length : Int)) ∧ ((2 : Nat) < o1.length ∧ getP o1 (2 : Nat) = eI (asI (getP o1 (2 : Nat)))) ∧ K (PVal.bool (decide (asI (getP o1 (2 : Nat)) = o01))) [])
    (K (PVal.bool false) []))
    (K (PVal.bool false) []))
    (br (decide (o00 = (13 : Int)))
    (((0 : Int) ≤ (0 : Int) ∧ (0 : Int) < (↑o1.length : Int)) ∧
    ((0 : Nat) < o1.length ∧ getP o1 (0 : Nat) = eI (asI (getP o1 (0 : Nat)))) ∧
    ((0 : Int) ≤ (1 : Int) ∧ (1 : Int) < (↑o1.length : Int)) ∧
    ((1 : Nat) < o1.length ∧ getP o1 (1 : Nat) = eI (asI (getP o1 (1 : Nat)))) ∧ K (PVal.bool (decide (IntKind.i64.wrap (asI (getP o1 (0 : Nat)) + asI (getP o1 (1 : Nat))) = o01))) [])
    (br (decide (o00 = (14 : Int)))
    (((0 : Int) ≤ (0 : Int) ∧ (0 : Int) < (↑o1.length : Int)) ∧
    ((0 : Nat) < o1.length ∧ getP o1 (0 : Nat) = eI (asI (getP o1 (0 : Nat)))) ∧ K (PVal.bool (decide (IntKind.i64.wrap (o03 + o01) ≤ asI (getP o1 (0 : Nat))))) [])
    (br (decide (o00 = (15 : Int)))
    (br (decide (o00 = (15 : Int)))
    (((0 : Int) ≤ (0 : Int) ∧ (0 : Int) < (↑o1.length : Int)) ∧ ((0 : Nat) < o1.length ∧ getP o1 (0 : Nat) = eI (asI (getP o1 (0 : Nat)))) ∧ K (PVal.bool (decide (asI (getP o1 (0 : Nat)) ≤ o01))) [])
    (((0 : Int) ≤ (0 : Int) ∧ (0 : Int) < (↑o1.length : Int)) ∧ ((0 : Nat) < o1.length ∧ getP o1 (0 : Nat) = eI (asI (getP o1 (0 : Nat)))) ∧ K (PVal.bool (decide (asI (getP o1 (0 : Nat)) = o01))) []))
    (br (decide (o00 = (16 : Int)))
    (((0 : Int) ≤ (0 : Int) ∧ (0 : Int) < (↑o1.length : Int)) ∧ ((0 : Nat) < o1.length ∧ getP o1 (0 : Nat) = eI (asI (getP o1 (0 : Nat)))) ∧ K (PVal.bool (decide (asI (getP o1 (0 : Nat)) ≤ o01))) [])
    (((0 : Int) ≤ (0 : Int) ∧ (0 : Int) < (↑o1.length : Int)) ∧ ((0 : Nat) < o1.length ∧ getP o1 (0 : Nat) = eI (asI (getP o1 (0 : Nat)))) ∧ K (PVal.bool (decide (asI (getP o1 (0 : Nat)) = o01))) [])))))))
    (br (decide (o00 = (10 : Int)))
    (br (decide (o00 = (10 : Int)))
    (((0 : Int) ≤ (0 : Int) ∧ (0 : Int) < (↑o1.length : Int)) ∧
    ((0 : Nat) < o1.length ∧ getP o1 (0 : Nat) = eI (asI (getP o1 (0 : Nat)))) ∧
    ((0 : Int) ≤ (1 : Int) ∧ (1 : Int) < (↑o1.length : Int)) ∧
    ((1 : Nat) < o1.length ∧ getP o1 (1 : Nat) = eI (asI (getP o1 (1 : Nat)))) ∧
    br (decide (asI (getP o1 (0 : Nat)) = asI (getP o1 (1 : Nat)))) (K (PVal.bool (decide (o01 = (1 : Int)))) []) (K (PVal.bool false) []))
    (br (decide (o00 = (12 : Int)))
    (((0 : Int) ≤ (0 : Int) ∧ (0 : Int) < (↑o1.length : Int)) ∧
    ((0 : Nat) < o1.length ∧ getP o1 (0 : Nat) = eI (asI (getP o1 (0 : Nat)))) ∧
    br (decide (asI (getP o1 (0 : Nat)) = (1 : Int)))
    (((0 : Int) ≤ (1 : Int) ∧ (1 : Int) < (↑o1.length : Int)) ∧
    ((1 : Nat) < o1.length ∧ getP o1 (1 : Nat) = eI (asI (getP o1 (1 : Nat)))) ∧
    br (decide (asI (getP o1 (1 : Nat)) = o01))
    (((0 : Int) ≤ (2 : Int) ∧ (2 : Int) < (↑o1.length : Int)) ∧ ((2 : Nat) < o1.length ∧ getP o1 (2 : Nat) = eI (asI (getP o1 (2 : Nat)))) ∧ K (PVal.bool (decide (asI (getP o1 (2 : Nat)) = o01))) [])
    (K (PVal.bool false) []))
    (K (PVal.bool false) []))
    (br (decide (o00 = (13 : Int)))
    (((0 : Int) ≤ (0 : Int) ∧ (0 : Int) < (↑o1.length : Int)) ∧
    ((0 : Nat) < o1.length ∧ getP o1 (0 : Nat) = eI (asI (getP o1 (0 : Nat)))) ∧
    ((0 : Int) ≤ (1 : Int) ∧ (1 : Int) < (↑o1.length : Int)) ∧
    ((1 : Nat) < o1.length ∧ getP o1 (1 : Nat) = eI (asI (getP o1 (1 : Nat)))) ∧ K (PVal.bool (decide (IntKind.i64.wrap (asI (getP o1 (0 : Nat)) + asI (getP o1 (1 : Nat))) = o01))) [])
    (br (decide (o00 = (14 : Int)))
    (((0 : Int) ≤ (0 : Int) ∧ (0 : Int) < (↑o1.length : Int)) ∧
    ((0 : Nat) < o1.length ∧ getP o1 (0 : Nat) = eI (asI (getP o1 (0 : Nat)))) ∧ K (PVal.bool (decide (IntKind.i64.wrap (o03 + o01) ≤ asI (getP o1 (0 : Nat))))) [])
    (br (decide (o00 = (15 : Int)))
    (br (decide (o00 = (15 : Int)))
    (((0 : Int) ≤ (0 : Int) ∧ (0 : Int) < (↑o1.length : Int)) ∧ ((0 : Nat) < o1.length ∧ getP o1 (0 : Nat) = eI (asI (getP o1 (0 : Nat)))) ∧ K (PVal.bool (decide (asI (getP o1 (0 : Nat)) ≤ o01))) [])
    (((0 : Int) ≤ (0 : Int) ∧ (0 : Int) < (↑o1.length : Int)) ∧ ((0 : Nat) < o1.length ∧ getP o1 (0 : Nat) = eI (asI (getP o1 (0 : Nat)))) ∧ K (PVal.bool (decide (asI (getP o1 (0 : Nat)) = o01))) []))
    (br (decide (o00 = (16 : Int)))
    (((0 : Int) ≤ (0 : Int) ∧ (0 : Int) < (↑o1.length : Int)) ∧ ((0 : Nat) < o1.length ∧ getP o1 (0 : Nat) = eI (asI (getP o1 (0 : Nat)))) ∧ K (PVal.bool (decide (asI (getP o1 (0 : Nat)) ≤ o01))) [])
    (((0 : Int) ≤ (0 : Int) ∧ (0 : Int) < (↑o1.length : Int)) ∧ ((0 : Nat) < o1.length ∧ getP o1 (0 : Nat) = eI (asI (getP o1 (0 : Nat)))) ∧ K (PVal.bool (decide (asI (getP o1 (0 : Nat)) = o01))) [])))))))
    (br (decide (o00 = (11 : Int)))
    (((0 : Int) ≤ (0 : Int) ∧ (0 : Int) < (↑o1.length : Int)) ∧
    ((0 : Nat) < o1.length ∧ getP o1 (0 : Nat) = eI (asI (getP o1 (0 : Nat)))) ∧
    ((0 : Int) ≤ (1 : Int) ∧ (1 : Int) < (↑o1.length : Int)) ∧
    ((1 : Nat) < o1.length ∧ getP o1 (1 : Nat) = eI (asI (getP o1 (1 : Nat)))) ∧
    br (decide (asI (getP o1 (0 : Nat)) = asI (getP o1 (1 : Nat)))) (K (PVal.bool (decide (o01 = (1 : Int)))) []) (K (PVal.bool false) []))
    (br (decide (o00 = (12 : Int)))
    (((0 : Int) ≤ (0 : Int) ∧ (0 : Int) < (↑o1.length : Int)) ∧
    ((0 : Nat) < o1.length ∧ getP o1 (0 : Nat) = eI (asI (getP o1 (0 : Nat)))) ∧
    br (decide (asI (getP o1 (0 : Nat)) = (1 : Int)))
    (((0 : Int) ≤ (1 : Int) ∧ (1 : Int) < (↑o1.length : Int)) ∧
    ((1 : Nat) < o1.length ∧ getP o1 (1 : Nat) = eI (asI (getP o1 (1 : Nat)))) ∧
    br (decide (asI (getP o1 (1 : Nat)) = o01))
    (((0 : Int) ≤ (2 : Int) ∧ (2 : Int) < (↑o1.length : Int)) ∧ ((2 : Nat) < o1.length ∧ getP o1 (2 : Nat) = eI (asI (getP o1 (2 : Nat)))) ∧ K (PVal.bool (decide (asI (getP o1 (2 : Nat)) = o01))) [])
    (K (PVal.bool false) []))
    (K (PVal.bool false) []))
    (br (decide (o00 = (13 : Int)))
    (((0 : Int) ≤ (0 : Int) ∧ (0 : Int) < (↑o1.length : Int)) ∧
    ((0 : Nat) < o1.length ∧ getP o1 (0 : Nat) = eI (asI (getP o1 (0 : Nat)))) ∧
    ((0 : Int) ≤ (1 : Int) ∧ (1 : Int) < (↑o1.length : Int)) ∧
    ((1 : Nat) < o1.length ∧ getP o1 (1 : Nat) = eI (asI (getP o1 (1 : Nat)))) ∧ K (PVal.bool (decide (IntKind.i64.wrap (asI (getP o1 (0 : Nat)) + asI (getP o1 (1 : Nat))) = o01))) [])
    (br (decide (o00 = (14 : Int)))
    (((0 : Int) ≤ (0 : Int) ∧ (0 : Int) < (↑o1.length : Int)) ∧
    ((0 : Nat) < o1.length ∧ getP o1 (0 : Nat) = eI (asI (getP o1 (0 : Nat)))) ∧ K (PVal.bool (decide (IntKind.i64.wrap (o03 + o01) ≤ asI (getP o1 (0 : Nat))))) [])
    (br (decide (o00 = (15 : Int)))
    (br (decide (o00 = (15 : Int)))
    (((0 : Int) ≤ (0 : Int) ∧ (0 : Int) < (↑o1.length : Int)) ∧ ((0 : Nat) < o1.length ∧ getP o1 (0 : Nat) = eI (asI (getP o1 (0 : Nat)))) ∧ K (PVal.bool (decide (asI (getP o1 (0 : Nat)) ≤ o01))) [])
    (((0 : Int) ≤ (0 : Int) ∧ (0 : Int) < (↑o1.length : Int)) ∧ ((0 : Nat) < o1.length ∧ getP o1 (0 : Nat) = eI (asI (getP o1 (0 : Nat)))) ∧ K (PVal.bool (decide (asI (getP o1 (0 : Nat)) = o01))) []))
    (br (decide (o00 = (16 : Int)))
    (((0 : Int) ≤ (0 : Int) ∧ (0 : Int) < (↑o1.length : Int)) ∧ ((0 : Nat) < o1.length ∧ getP o1 (0 : Nat) = eI (asI (getP o1 (0 : Nat)))) ∧ K (PVal.bool (decide (asI (getP o1 (0 : Nat)) ≤ o01))) [])
    (((0 : Int) ≤ (0 : Int) ∧ (0 : Int) < (↑o1.length : Int)) ∧ ((0 : Nat) < o1.length ∧ getP o1 (0 : Nat) = eI (asI (getP o1 (0 : Nat)))) ∧ K (PVal.bool (decide (asI (getP o1 (0 : Nat)) = o01))) []))))))))))
    (br (decide (o00 = (5 : Int)))
    (br (decide (o00 = (5 : Int)))
    (((0 : Int) ≤ (0 : Int) ∧ (0 : Int) < (↑o1.length : Int)) ∧
    ((0 : Nat) < o1.length ∧ getP o1 (0 : Nat) = eI (asI (getP o1 (0 : Nat)))) ∧
    br (decide (asI (getP o1 (0 : Nat)) = o01))
    (((0 : Int) ≤ (1 : Int) ∧ (1 : Int) < (↑o1.length : Int)) ∧ ((1 : Nat) < o1.length ∧ getP o1 (1 : Nat) = eI (asI (getP o1 (1 : Nat)))) ∧ K (PVal.bool (decide (asI (getP o1 (1 : Nat)) = o01))) [])
    (K (PVal.bool false) []))
    (br (decide (o00 = (9 : Int)))
    (br (decide (o00 = (9 : Int)))
    (((0 : Int) ≤ (0 : Int) ∧ (0 : Int) < (↑o1.length : Int)) ∧
    ((0 : Nat) < o1.length ∧ getP o1 (0 : Nat) = eI (asI (getP o1 (0 : Nat)))) ∧
    ((0 : Int) ≤ (1 : Int) ∧ (1 : Int) < (↑o1.length : Int)) ∧
    ((1 : Nat) < o1.length ∧ getP o1 (1 : Nat) = eI (asI (getP o1 (1 : Nat)))) ∧
    br (decide (asI (getP o1 (0 : Nat)) = asI (getP o1 (1 : Nat)))) (K (PVal.bool (decide (o01 = (1 : Int)))) []) (K (PVal.bool false) []))
    (br (decide (o00 = (12 : Int)))
    (((0 : Int) ≤ (0 : Int) ∧ (0 : Int) < (↑o1.length : Int)) ∧
    ((0 : Nat) < o1.length ∧ getP o1 (0 : Nat) = eI (asI (getP o1 (0 : Nat)))) ∧
    br (decide (asI (getP o1 (0 : Nat)) = (1 : Int)))
    (((0 : Int) ≤ (1 : Int) ∧ (1 : Int) < (↑o1.length : Int)) ∧
    ((1 : Nat) < o1.length ∧ getP o1 (1 : Nat) = eI (asI (getP o1 (1 : Nat)))) ∧
    br (decide (asI (getP o1 (1 : Nat)) = o01))
    (((0 : Int) ≤ (2 : Int) ∧ (2 : Int) < (↑o1.length : Int)) ∧ ((2 : Nat) < o1.length ∧ getP o1 (2 : Nat) = eI (asI (getP o1 (2 : Nat)))) ∧ K (PVal.bool (decide (asI (getP o1 (2 : Nat)) = o01))) [])
    (K (PVal.bool false) []))
    (K (PVal.bool false) []))
    (br (decide (o00 = (13 : Int)))
    (((0 : Int) ≤ (0 : Int) ∧ (0 : Int) < (↑o1.length : Int)) ∧
    ((0 : Nat) < o1.length ∧ getP o1 (0 : Nat) = eI (asI (getP o1 (0 : Nat)))) ∧
    ((0 : Int) ≤ (1 : Int) ∧ (1 : Int) < (↑o1.length : Int)) ∧
    ((1 : Nat) < o1.length ∧ getP o1 (1 : Nat) = eI (asI (getP o1 (1 : Nat)))) ∧ K (PVal.bool (decide (IntKind.i64.wrap (asI (getP o1 (0 : Nat)) + asI (getP o1 (1 : Nat))) = o01))) [])
    (br (decide (o00 = (14 : Int)))
    (((0 : Int) ≤ (0 : Int) ∧ (0 : Int) < (↑o1.length : Int)) ∧
    ((0 : Nat) < o1.length ∧ getP o1 (0 : Nat) = eI (asI (getP o1 (0 : Nat)))) ∧ K (PVal.bool (decide (IntKind.i64.wrap (o03 + o01) ≤ asI (getP o1 (0 : Nat))))) [])
    (br (decide (o00 = (15 : Int)))
    (br (decide (o00 = (15 : Int)))
    (((0 : Int) ≤ (0 : Int) ∧ (0 : Int) < (↑o1.length : Int)) ∧ ((0 : Nat) < o1.length ∧ getP o1 (0 : Nat) = eI (asI (getP o1 (0 : Nat)))) ∧ K (PVal.bool (decide (asI (getP o1 (0 : Nat)) ≤ o01))) [])
    (((0 : Int) ≤ (0 : Int) ∧ (0 : Int) < (↑o1.length : Int)) ∧ ((0 : Nat) < o1.length ∧ getP o1 (0 : Nat) = eI (asI (getP o1 (0 : Nat)))) ∧ K (PVal.bool (decide (asI (getP o1 (0 : Nat)) = o01))) []))
    (br (decide (o00 = (16 : Int)))
    (((0 : Int) ≤ (0 : Int) ∧ (0 : Int) < (↑o1.length : Int)) ∧ ((0 : Nat) < o1.length ∧ getP o1 (0 : Nat) = eI (asI (getP o1 (0 : Nat)))) ∧ K (PVal.bool (decide (asI (getP o1 (0 : Nat)) ≤ o01))) [])
    (((0 : Int) ≤ (0 : Int) ∧ (0 : Int) < (↑o1.length : Int)) ∧ ((0 : Nat) < o1.length ∧ getP o1 (0 : Nat) = eI (asI (getP o1 (0 : Nat)))) ∧ K (PVal.bool (decide (asI (getP o1 (0 : Nat)) = o01))) [])))))))
    (br (decide (o00 = (10 : Int)))
    (br (decide (o00 = (10 : Int)))
    (((0 : Int) ≤ (0 : Int) ∧ (0 : Int) < (↑o1.length : Int)) ∧
    ((0 : Nat) < o1.length ∧ getP o1 (0 : Nat) = eI (asI (getP o1 (0 : Nat)))) ∧
    ((0 : Int) ≤ (1 : Int) ∧ (1 : Int) < (↑o1.length : Int)) ∧
    ((1 : Nat) < o1.length ∧ getP o1 (1 : Nat) = eI (asI (getP o1 (1 : Nat)))) ∧
    br (decide (asI (getP o1 (0 : Nat)) = asI (getP o1 (1 : Nat)))) (K (PVal.bool (decide (o01 = (1 : Int)))) []) (K (PVal.bool false) []))
    (br (decide (o00 = (12 : Int)))
    (((0 : Int) ≤ (0 : Int) ∧ (0 : Int) < (↑o1.length : Int)) ∧
    ((0 : Nat) < o1.length ∧ getP o1 (0 : Nat) = eI (asI (getP o1 (0 : Nat)))) ∧
    br (decide (asI (getP o1 (0 : Nat)) = (1 : Int)))
    (((0 : Int) ≤ (1 : Int) ∧ (1 : Int) < (↑o1.length : Int)) ∧
    ((1 : Nat) < o1.length ∧ getP o1 (1 : Nat) = eI (asI (getP o1 (1 : Nat)))) ∧
    br (decide (asI (getP o1 (1 : Nat)) = o01))
    (((0 : Int) ≤ (2 : Int) ∧ (2 : Int) < (↑o1.length : Int)) ∧ ((2 : Nat) < o1.length ∧ getP o1 (2 : Nat) = eI (asI (getP o1 (2 : Nat)))) ∧ K (PVal.bool (decide (asI (getP o1 (2 : Nat)) = o01))) [])
    (K (PVal.bool false) []))
    (K (PVal.bool false) []))
    (br (decide (o00 = (13 : Int)))
    (((0 : Int) ≤ (0 : Int) ∧ (0 : Int) < (↑o1.length : Int)) ∧
    ((0 : Nat) < o1.length ∧ getP o1 (0 : Nat) = eI (asI (getP o1 (0 : Nat)))) ∧
    ((0 : Int) ≤ (1 : Int) ∧ (1 : Int) < (↑o1.length : Int)) ∧
    ((1 : Nat) < o1.length ∧ getP o1 (1 : Nat) = eI (asI (getP o1 (1 : Nat)))) ∧ K (PVal.bool (decide (IntKind.i64.wrap (asI (getP o1 (0 : Nat)) + asI (getP o1 (1 : Nat))) = o01))) [])
    (br (decide (o00 = (14 : Int)))
    (((0 : Int) ≤ (0 : Int) ∧ (0 : Int) < (↑o1.length : Int)) ∧
    ((0 : Nat) < o1.length ∧ getP o1 (0 : Nat) = eI (asI (getP o1 (0 : Nat)))) ∧ K (PVal.bool (decide (IntKind.i64.wrap (o03 + o01) ≤ asI (getP o1 (0 : Nat))))) [])
    (br (decide (o00 = (15 : Int)))
    (br (decide (o00 = (15 : Int)))
    (((0 : Int) ≤ (0 : Int) ∧ (0 : Int) < (↑o1.length : Int)) ∧ ((0 : Nat) < o1.length ∧ getP o1 (0 : Nat) = eI (asI (getP o1 (0 : Nat)))) ∧ K (PVal.bool (decide (asI (getP o1 (0 : Nat)) ≤ o01))) [])
    (((0 : Int) ≤ (0 : Int) ∧ (0 : Int) < (↑o1.length : Int)) ∧ ((0 : Nat) < o1.length ∧ getP o1 (0 : Nat) = eI (asI (getP o1 (0 : Nat)))) ∧ K (PVal.bool (decide (asI (getP o1 (0 : Nat)) = o01))) []))
    (br (decide (o00 = (16 : Int)))
    (((0 : Int) ≤ (0 : Int) ∧ (0 : Int) < (↑o1.length : Int)) ∧ ((0 : Nat) < o1.length ∧ getP o1 (0 : Nat) = eI (asI (getP o1 (0 : Nat)))) ∧ K (PVal.bool (decide (asI (getP o1 (0 : Nat)) ≤ o01))) [])
    (((0 : Int) ≤ (0 : Int) ∧ (0 : Int) < (↑o1.length : Int)) ∧ ((0 : Nat) < o1.length ∧ getP o1 (0 : Nat) = eI (asI (getP o1 (0 : Nat)))) ∧ K (PVal.bool (decide (asI (getP o1 (0 : Nat)) = o01))) [])))))))
    (br (decide (o00 = (11 : Int)))
    (((0 : Int) ≤ (0 : Int) ∧ (0 : Int) < (↑o1.length : Int)) ∧
    ((0 : Nat) < o1.length ∧ getP o1 (0 : Nat) = eI (asI (getP o1 (0 : Nat)))) ∧
    ((0 : Int) ≤ (1 : Int) ∧ (1 : Int) < (↑o1.length : Int)) ∧
    ((1 : Nat) < o1.length ∧ getP o1 (1 : Nat) = eI (asI (getP o1 (1 : Nat)))) ∧
    br (decide (asI (getP o1 (0 : Nat)) = asI (getP o1 (1 : Nat)))) (K (PVal.bool (decide (o01 = (1 : Int)))) []) (K (PVal.bool false) []))
    (br (decide (o00 = (12 : Int)))
    (((0 : Int) ≤ (0 : Int) ∧ (0 : Int) < (↑o1.length : Int)) ∧
    ((0 : Nat) < o1.length ∧ getP o1 (0 : Nat) = eI (asI (getP o1 (0 : Nat)))) ∧
    br (decide (asI (getP o1 (0 : Nat)) = (1 : Int)))
    (((0 : Int) ≤ (1 : Int) ∧ (1 : Int) < (↑o1.length : Int)) ∧
    ((1 : Nat) < o1.length ∧ getP o1 (1 : Nat) = eI (asI (getP o1 (1 : Nat)))) ∧
    br (decide (asI (getP o1 (1 : Nat)) = o01))
    (((0 : Int) ≤ (2 : Int) ∧ (2 : Int) < (↑o1.length : Int)) ∧ ((2 : Nat) < o1.length ∧ getP o1 (2 : Nat) = eI (asI (getP o1 (2 : Nat)))) ∧ K (PVal.bool (decide (asI (getP o1 (2 : Nat)) = o01))) [])
    (K (PVal.bool false) []))
    (K (PVal.bool false) []))
    (br (decide (o00 = (13 : Int)))
    (((0 : Int) ≤ (0 : Int) ∧ (0 : Int) < (↑o1.length : Int)) ∧
    ((0 : Nat) < o1.length ∧ getP o1 (0 : Nat) = eI (asI (getP o1 (0 : Nat)))) ∧
    ((0 : Int) ≤ (1 : Int) ∧ (1 : Int) < (↑o1.length : Int)) ∧
    ((1 : Nat) < o1.length ∧ getP o1 (1 : Nat) = eI (asI (getP o1 (1 : Nat)))) ∧ K (PVal.bool (decide (IntKind.i64.wrap (asI (getP o1 (0 : Nat)) + asI (getP o1 (1 : Nat))) = o01))) [])
    (br (decide (o00 = (14 : Int)))
    (((0 : Int) ≤ (0 : Int) ∧ (0 : Int) < (↑o1.length : Int)) ∧
    ((0 : Nat) < o1.length ∧ getP o1 (0 : Nat) = eI (asI (getP o1 (0 : Nat)))) ∧ K (PVal.bool (decide (IntKind.i64.wrap (o03 + o01) ≤ asI (getP o1 (0 : Nat))))) [])
    (br (decide (o00 = (15 : Int)))
    (br (decide (o00 = (15 : Int)))
    (((0 : Int) ≤ (0 : Int) ∧ (0 : Int) < (↑o1.length : Int)) ∧ ((0 : Nat) < o1.length ∧ getP o1 (0 : Nat) = eI (asI (getP o1 (0 : Nat)))) ∧ K (PVal.bool (decide (asI (getP o1 (0 : Nat)) ≤ o01))) [])
    (((0 : Int) ≤ (0 : Int) ∧ (0 : Int) < (↑o1.length : Int)) ∧ ((0 : Nat) < o1.length ∧ getP o1 (0 : Nat) = eI (asI (getP o1 (0 : Nat)))) ∧ K (PVal.bool (decide (asI (getP o1 (0 : Nat)) = o01))) []))
    (br (decide (o00 = (16 : Int)))
    (((0 : Int) ≤ (0 : Int) ∧ (0 : Int) < (↑o1.length : Int)) ∧ ((0 : Nat) < o1.length ∧ getP o1 (0 : Nat) = eI (asI (getP o1 (0 : Nat)))) ∧ K (PVal.bool (decide (asI (getP o1 (0 : Nat)) ≤ o01))) [])
    (((0 : Int) ≤ (0 : Int) ∧ (0 : Int) < (↑o1.length : Int)) ∧ ((0 : Nat) < o1.length ∧ getP o1 (0 : Nat) = eI (asI (getP o1 (0 : Nat)))) ∧ K (PVal.bool (decide (asI (getP o1 (0 : Nat)) = o01))) []))))))))))
    (br (decide (o00 = (6 : Int)))
    (br (decide (o00 = (6 : Int)))
    (((0 : Int) ≤ (0 : Int) ∧ (0 : Int) < (↑o1.length : Int)) ∧
    ((0 : Nat) < o1.length ∧ getP o1 (0 : Nat) = eI (asI (getP o1 (0 : Nat)))) ∧
    br (decide (asI (getP o1 (0 : Nat)) = o01))
    (((0 : Int) ≤ (1 : Int) ∧ (1 : Int) < (↑o1.length : Int)) ∧ ((1 : Nat) < o1.length ∧ getP o1 (1 : Nat) = eI (asI (getP o1 (1 : Nat)))) ∧ K (PVal.bool (decide (asI (getP o1 (1 : Nat)) = o01))) [])
    (K (PVal.bool false) []))
    (br (decide (o00 = (9 : Int)))
    (br (decide (o00 = (9 : Int)))
    (((0 : Int) ≤ (0 : Int) ∧ (0 : Int) < (↑o1.length : Int)) ∧
    ((0 : Nat) < o1.length ∧ getP o1 (0 : Nat) = eI (asI (getP o1 (0 : Nat)))) ∧
    ((0 : Int) ≤ (1 : Int) ∧ (1 : Int) < (↑o1.length : Int)) ∧
    ((1 : Nat) < o1.length ∧ getP o1 (1 : Nat) = eI (asI (getP o1 (1 : Nat)))) ∧
    br (decide (asI (getP o1 (0 : Nat)) = asI (getP o1 (1 : Nat)))) (K (PVal.bool (decide (o01 = (1 : Int)))) []) (K (PVal.bool false) []))
    (br (decide (o00 = (12 : Int)))
    (((0 : Int) ≤ (0 : Int) ∧ (0 : Int) < (↑o1.length : Int)) ∧
    ((0 : Nat) < o1.length ∧ getP o1 (0 : Nat) = eI (asI (getP o1 (0 : Nat)))) ∧
    br (decide (asI (getP o1 (0 : Nat)) = (1 : Int)))
    (((0 : Int) ≤ (1 : Int) ∧ (1 : Int) < (↑o1.length : Int)) ∧
    ((1 : Nat) < o1.length ∧ getP o1 (1 : Nat) = eI (asI (getP o1 (1 : Nat)))) ∧
    br (decide (asI (getP o1 (1 : Nat)) = o01))
    (((0 : Int) ≤ (2 : Int) ∧ (2 : Int) < (↑o1.length : Int)) ∧ ((2 : Nat) < o1.length ∧ getP o1 (2 : Nat) = eI (asI (getP o1 (2 : Nat)))) ∧ K (PVal.bool (decide (asI (getP o1 (2 : Nat)) = o01))) [])
    (K (PVal.bool false) []))
    (K (PVal.bool false) []))
    (br (decide (o00 = (13 : Int)))
    (((0 : Int) ≤ (0 : Int) ∧ (0 : Int) < (↑o1.length : Int)) ∧
    ((0 : Nat) < o1.length ∧ getP o1 (0 : Nat) = eI (asI (getP o1 (0 : Nat)))) ∧
    ((0 : Int) ≤ (1 : Int) ∧ (1 : Int) < (↑o1.length : Int)) ∧
    ((1 : Nat) < o1.length ∧ getP o1 (1 : Nat) = eI (asI (getP o1 (1 : Nat)))) ∧ K (PVal.bool (decide (IntKind.i64.wrap (asI (getP o1 (0 : Nat)) + asI (getP o1 (1 : Nat))) = o01))) [])
    (br (decide (o00 = (14 : Int)))
    (((0 : Int) ≤ (0 : Int) ∧ (0 : Int) < (↑o1.length : Int)) ∧
    ((0 : Nat) < o1.length ∧ getP o1 (0 : Nat) = eI (asI (getP o1 (0 : Nat)))) ∧ K (PVal.bool (decide (IntKind.i64.wrap (o03 + o01) ≤ asI (getP o1 (0 : Nat))))) [])
    (br (decide (o00 = (15 : Int)))
    (br (decide (o00 = (15 : Int)))
    (((0 : Int) ≤ (0 : Int) ∧ (0 : Int) < (↑o1.length : Int)) ∧ ((0 : Nat) < o1.length ∧ getP o1 (0 : Nat) = eI (asI (getP o1 (0 : Nat)))) ∧ K (PVal.bool (decide (asI (getP o1 (0 : Nat)) ≤ o01))) [])
    (((0 : Int) ≤ (0 : Int) ∧ (0 : Int) < (↑o1.length : Int)) ∧ ((0 : Nat) < o1.length ∧ getP o1 (0 : Nat) = eI (asI (getP o1 (0 : Nat)))) ∧ K (PVal.bool (decide (asI (getP o1 (0 : Nat)) = o01))) []))
    (br (decide (o00 = (16 : Int)))
    (((0 : Int) ≤ (0 : Int) ∧ (0 : Int) < (↑o1.length : Int)) ∧ ((0 : Nat) < o1.length ∧ getP o1 (0 : Nat) = eI (asI (getP o1 (0 : Nat)))) ∧ K (PVal.bool (decide (asI (getP o1 (0 : Nat)) ≤ o01))) [])
    (((0 : Int) ≤ (0 : Int) ∧ (0 : Int) < (↑o1.length : Int)) ∧ ((0 : Nat) < o1.length ∧ getP o1 (0 : Nat) = eI (asI (getP o1 (0 : Nat)))) ∧ K (PVal.bool (decide (asI (getP o1 (0 : Nat)) = o01))) [])))))))
    (br (decide (o00 = (10 : Int)))
    (br (decide (o00 = (10 : Int)))
    (((0 : Int) ≤ (0 : Int) ∧ (0 : Int) < (↑o1.length : Int)) ∧
    ((0 : Nat) < o1.length ∧ getP o1 (0 : Nat) = eI (asI (getP o1 (0 : Nat)))) ∧
    ((0 : Int) ≤ (1 : Int) ∧ (1 : Int) < (↑o1.length : Int)) ∧
    ((1 : Nat) < o1.length ∧ getP o1 (1 : Nat) = eI (asI (getP o1 (1 : Nat)))) ∧
    br (decide (asI (getP o1 (0 : Nat)) = asI (getP o1 (1 : Nat)))) (K (PVal.bool (decide (o01 = (1 : Int)))) []) (K (PVal.bool false) []))
    (br (decide (o00 = (12 : Int)))
    (((0 : Int) ≤ (0 : Int) ∧ (0 : Int) < (↑o1.length : Int)) ∧
    ((0 : Nat) < o1.length ∧ getP o1 (0 : Nat) = eI (asI (getP o1 (0 : Nat)))) ∧
    br (decide (asI (getP o1 (0 : Nat)) = (1 : Int)))
    (((0 : Int) ≤ (1 : Int) ∧ (1 : Int) < (↑o1.length : Int)) ∧
    ((1 : Nat) < o1.length ∧ getP o1 (1 : Nat) = eI (asI (getP o1 (1 : Nat)))) ∧
    br (decide (asI (getP o1 (1 : Nat)) = o01))
    (((0 : Int) ≤ (2 : Int) ∧ (2 : Int) < (↑o1.length : Int)) ∧ ((2 : Nat) < o1.length ∧ getP o1 (2 : Nat) = eI (asI (getP o1 (2 : Nat)))) ∧ K (PVal.bool (decide (asI (getP o1 (2 : Nat)) = o01))) [])
    (K (PVal.bool false) []))
    (K (PVal.bool false) []))
    (br (decide (o00 = (13 : Int)))
    (((0 : Int) ≤ (0 : Int) ∧ (0 : Int) < (↑o1.length : Int)) ∧
    ((0 : Nat) < o1.length ∧ getP o1 (0 : Nat) = eI (asI (getP o1 (0 : Nat)))) ∧
    ((0 : Int) ≤ (1 : Int) ∧ (1 : Int) < (↑o1.length : Int)) ∧
    ((1 : Nat) < o1.length ∧ getP o1 (1 : Nat) = eI (asI (getP o1 (1 : Nat)))) ∧ K (PVal.bool (decide (IntKind.i64.wrap (asI (getP o1 (0 : Nat)) + asI (getP o1 (1 : Nat))) = o01))) [])
    (br (decide (o00 = (14 : Int)))
    (((0 : Int) ≤ (0 : Int) ∧ (0 : Int) < (↑o1.length : Int)) ∧
    ((0 : Nat) < o1.length ∧ getP o1 (0 : Nat) = eI (asI (getP o1 (0 : Nat)))) ∧ K (PVal.bool (decide (IntKind.i64.wrap (o03 + o01) ≤ asI (getP o1 (0 : Nat))))) [])
    (br (decide (o00 = (15 : Int)))
    (br (decide (o00 = (15 : Int)))
    (((0 : Int) ≤ (0 : Int) ∧ (0 : Int) < (↑o1.length : Int)) ∧ ((0 : Nat) < o1.length ∧ getP o1 (0 : Nat) = eI (asI (getP o1 (0 : Nat)))) ∧ K (PVal.bool (decide (asI (getP o1 (0 : Nat)) ≤ o01))) [])
    (((0 : Int) ≤ (0 : Int) ∧ (0 : Int) < (↑o1.length : Int)) ∧ ((0 : Nat) < o1.length ∧ getP o1 (0 : Nat) = eI (asI (getP o1 (0 : Nat)))) ∧ K (PVal.bool (decide (asI (getP o1 (0 : Nat)) = o01))) []))
    (br (decide (o00 = (16 : Int)))
    (((0 : Int) ≤ (0 : Int) ∧ (0 : Int) < (↑o1.length : Int)) ∧ ((0 : Nat) < o1.length ∧ getP o1 (0 : Nat) = eI (asI (getP o1 (0 : Nat)))) ∧ K (PVal.bool (decide (asI (getP o1 (0 : Nat)) ≤ o01))) [])
    (((0 : Int) ≤ (0 : Int) ∧ (0 : Int) < (↑o1.length : Int)) ∧ ((0 : Nat) < o1.length ∧ getP o1 (0 : Nat) = eI (asI (getP o1 (0 : Nat)))) ∧ K (PVal.bool (decide (asI (getP o1 (0 : Nat)) = o01))) [])))))))
    (br (decide (o00 = (11 : Int)))
    (((0 : Int) ≤ (0 : Int) ∧ (0 : Int) < (↑o1.length : Int)) ∧
    ((0 : Nat) < o1.length ∧ getP o1 (0 : Nat) = eI (asI (getP o1 (0 : Nat)))) ∧
    ((0 : Int) ≤ (1 : Int) ∧ (1 : Int) < (↑o1.length : Int)) ∧
    ((1 : Nat) < o1.length ∧ getP o1 (1 : Nat) = eI (asI (getP o1 (1 : Nat)))) ∧
    br (decide (asI (getP o1 (0 : Nat)) = asI (getP o1 (1 : Nat)))) (K (PVal.bool (decide (o01 = (1 : Int)))) []) (K (PVal.bool false) []))
    (br (decide (o00 = (12 : Int)))
    (((0 : Int) ≤ (0 : Int) ∧ (0 : Int) < (↑o1.length : Int)) ∧
    ((0 : Nat) < o1.length ∧ getP o1 (0 : Nat) = eI (asI (getP o1 (0 : Nat)))) ∧
    br (decide (asI (getP o1 (0 : Nat)) = (1 : Int)))
    (((0 : Int) ≤ (1 : Int) ∧ (1 : Int) < (↑o1.length : Int)) ∧
    ((1 : Nat) < o1.length ∧ getP o1 (1 : Nat) = eI (asI (getP o1 (1 : Nat)))) ∧
    br (decide (asI (getP o1 (1 : Nat)) = o01))
    (((0 : Int) ≤ (2 : Int) ∧ (2 : Int) < (↑o1.length : Int)) ∧ ((2 : Nat) < o1.length ∧ getP o1 (2 : Nat) = eI (asI (getP o1 (2 : Nat)))) ∧ K (PVal.bool (decide (asI (getP o1 (2 : Nat)) = o01))) [])
    (K (PVal.bool false) []))
    (K (PVal.bool false) []))
    (br (decide (o00 = (13 : Int)))
    (((0 : Int) ≤ (0 : Int) ∧ (0 : Int) < (↑o1.length : Int)) ∧
    ((0 : Nat) < o1.length ∧ getP o1 (0 : Nat) = eI (asI (getP o1 (0 : Nat)))) ∧
    ((0 : Int) ≤ (1 : Int) ∧ (1 : Int) < (↑o1.length : Int)) ∧
    ((1 : Nat) < o1.length ∧ getP o1 (1 : Nat) = eI (asI (getP o1 (1 : Nat)))) ∧ K (PVal.bool (decide (IntKind.i64.wrap (asI (getP o1 (0 : Nat)) + asI (getP o1 (1 : Nat))) = o01))) [])
    (br (decide (o00 = (14 : Int)))
    (((0 : Int) ≤ (0 : Int) ∧ (0 : Int) < (↑o1.length : Int)) ∧
    ((0 : Nat) < o1.length ∧ getP o1 (0 : Nat) = eI (asI (getP o1 (0 : Nat)))) ∧ K (PVal.bool (decide (IntKind.i64.wrap (o03 + o01) ≤ asI (getP o1 (0 : Nat))))) [])
    (br (decide (o00 = (15 : Int)))
    (br (decide (o00 = (15 : Int)))
    (((0 : Int) ≤ (0 : Int) ∧ (0 : Int) < (↑o1.length : Int)) ∧ ((0 : Nat) < o1.length ∧ getP o1 (0 : Nat) = eI (asI (getP o1 (0 : Nat)))) ∧ K (PVal.bool (decide (asI (getP o1 (0 : Nat)) ≤ o01))) [])
    (((0 : Int) ≤ (0 : Int) ∧ (0 : Int) < (↑o1.length : Int)) ∧ ((0 : Nat) < o1.length ∧ getP o1 (0 : Nat) = eI (asI (getP o1 (0 : Nat)))) ∧ K (PVal.bool (decide (asI (getP o1 (0 : Nat)) = o01))) []))
    (br (decide (o00 = (16 : Int)))
    (((0 : Int) ≤ (0 : Int) ∧ (0 : Int) < (↑o1.length : Int)) ∧ ((0 : Nat) < o1.length ∧ getP o1 (0 : Nat) = eI (asI (getP o1 (0 : Nat)))) ∧ K (PVal.bool (decide (asI (getP o1 (0 : Nat)) ≤ o01))) [])
    (((0 : Int) ≤ (0 : Int) ∧ (0 : Int) < (↑o1.length : Int)) ∧
    ((0 : Nat) < o1.length ∧ getP o1 (0 : Nat) = eI (asI (getP o1 (0 : Nat)))) ∧ K (PVal.bool (decide (asI (getP o1 (0 : Nat)) = o01))) []))))))))))
    (br (decide (o00 = (7 : Int)))
    (br (decide (o00 = (7 : Int)))
    (((0 : Int) ≤ (0 : Int) ∧ (0 : Int) < (↑o1.length : Int)) ∧
    ((0 : Nat) < o1.length ∧ getP o1 (0 : Nat) = eI (asI (getP o1 (0 : Nat)))) ∧
    br (decide (asI (getP o1 (0 : Nat)) = o01))
    (((0 : Int) ≤ (1 : Int) ∧ (1 : Int) < (↑o1.length : Int)) ∧ ((1 : Nat) < o1.length ∧ getP o1 (1 : Nat) = eI (asI (getP o1 (1 : Nat)))) ∧ K (PVal.bool (decide (asI (getP o1 (1 : Nat)) = o01))) [])
    (K (PVal.bool false) []))
    (br (decide (o00 = (9 : Int)))
    (br (decide (o00 = (9 : Int)))
    (((0 : Int) ≤ (0 : Int) ∧ (0 : Int) < (↑o1.length : Int)) ∧
    ((0 : Nat) < o1.length ∧ getP o1 (0 : Nat) = eI (asI (getP o1 (0 : Nat)))) ∧
    ((0 : Int) ≤ (1 : Int) ∧ (1 : Int) < (↑o1.length : Int)) ∧
    ((1 : Nat) < o1.length ∧ getP o1 (1 : Nat) = eI (asI (getP o1 (1 : Nat)))) ∧
    br (decide (asI (getP o1 (0 : Nat)) = asI (getP o1 (1 : Nat)))) (K (PVal.bool (decide (o01 = (1 : Int)))) []) (K (PVal.bool false) []))
    (br (decide (o00 = (12 : Int)))
    (((0 : Int) ≤ (0 : Int) ∧ (0 : Int) < (↑o1.length : Int)) ∧
    ((0 : Nat) < o1.length ∧ getP o1 (0 : Nat) = eI (asI (getP o1 (0 : Nat)))) ∧
    br (decide (asI (getP o1 (0 : Nat)) = (1 : Int)))
    (((0 : Int) ≤ (1 : Int) ∧ (1 : Int) < (↑o1.length : Int)) ∧
    ((1 : Nat) < o1.length ∧ getP o1 (1 : Nat) = eI (asI (getP o1 (1 : Nat)))) ∧
    br (decide (asI (getP o1 (1 : Nat)) = o01))
    (((0 : Int) ≤ (2 : Int) ∧ (2 : Int) < (↑o1.length : Int)) ∧ ((2 : Nat) < o1.length ∧ getP o1 (2 : Nat) = eI (asI (getP o1 (2 : Nat)))) ∧ K (PVal.bool (decide (asI (getP o1 (2 : Nat)) = o01))) [])
    (K (PVal.bool false) []))
    (K (PVal.bool false) []))
    (br (decide (o00 = (13 : Int)))
    (((0 : Int) ≤ (0 : Int) ∧ (0 : Int) < (↑o1.length : Int)) ∧
    ((0 : Nat) < o1.length ∧ getP o1 (0 : Nat) = eI (asI (getP o1 (0 : Nat)))) ∧
    ((0 : Int) ≤ (1 : Int) ∧ (1 : Int) < (↑o1.length : Int)) ∧
    ((1 : Nat) < o1.length ∧ getP o1 (1 : Nat) = eI (asI (getP o1 (1 : Nat)))) ∧ K (PVal.bool (decide (IntKind.i64.wrap (asI (getP o1 (0 : Nat)) + asI (getP o1 (1 : Nat))) = o01))) [])
    (br (decide (o00 = (14 : Int)))
    (((0 : Int) ≤ (0 : Int) ∧ (0 : Int) < (↑o1.length : Int)) ∧
    ((0 : Nat) < o1.length ∧ getP o1 (0 : Nat) = eI (asI (getP o1 (0 : Nat)))) ∧ K (PVal.bool (decide (IntKind.i64.wrap (o03 + o01) ≤ asI (getP o1 (0 : Nat))))) [])
    (br (decide (o00 = (15 : Int)))
    (br (decide (o00 = (15 : Int)))
    (((0 : Int) ≤ (0 : Int) ∧ (0 : Int) < (↑o1.length : Int)) ∧ ((0 : Nat) < o1.length ∧ getP o1 (0 : Nat) = eI (asI (getP o1 (0 : Nat)))) ∧ K (PVal.bool (decide (asI (getP o1 (0 : Nat)) ≤ o01))) [])
    (((0 : Int) ≤ (0 : Int) ∧ (0 : Int) < (↑o1.length : Int)) ∧ ((0 : Nat) < o1.length ∧ getP o1 (0 : Nat) = eI (asI (getP o1 (0 : Nat)))) ∧ K (PVal.bool (decide (asI (getP o1 (0 : Nat)) = o01))) []))
    (br (decide (o00 = (16 : Int)))
    (((0 : Int) ≤ (0 : Int) ∧ (0 : Int) < (↑o1.length : Int)) ∧ ((0 : Nat) < o1.length ∧ getP o1 (0 : Nat) = eI (asI (getP o1 (0 : Nat)))) ∧ K (PVal.bool (decide (asI (getP o1 (0 : Nat)) ≤ o01))) [])
    (((0 : Int) ≤ (0 : Int) ∧ (0 : Int) < (↑o1.length : Int)) ∧ ((0 : Nat) < o1.length ∧ getP o1 (0 : Nat) = eI (asI (getP o1 (0 : Nat)))) ∧ K (PVal.bool (decide (asI (getP o1 (0 : Nat)) = o01))) [])))))))
    (br (decide (o00 = (10 : Int)))
    (br (decide (o00 = (10 : Int)))
    (((0 : Int) ≤ (0 : Int) ∧ (0 : Int) < (↑o1.length : Int)) ∧
    ((0 : Nat) < o1.length ∧ getP o1 (0 : Nat) = eI (asI (getP o1 (0 : Nat)))) ∧
    ((0 : Int) ≤ (1 : Int) ∧ (1 : Int) < (↑o1.length : Int)) ∧
    ((1 : Nat) < o1.length ∧ getP o1 (1 : Nat) = eI (asI (getP o1 (1 : Nat)))) ∧
    br (decide (asI (getP o1 (0 : Nat)) = asI (getP o1 (1 : Nat)))) (K (PVal.bool (decide (o01 = (1 : Int)))) []) (K (PVal.bool false) []))
    (br (decide (o00 = (12 : Int)))
    (((0 : Int) ≤ (0 : Int) ∧ (0 : Int) < (↑o1.length : Int)) ∧
    ((0 : Nat) < o1.length ∧ getP o1 (0 : Nat) = eI (asI (getP o1 (0 : Nat)))) ∧
    br (decide (asI (getP o1 (0 : Nat)) = (1 : Int)))
    (((0 : Int) ≤ (1 : Int) ∧ (1 : Int) < (↑o1.length : Int)) ∧
    ((1 : Nat) < o1.length ∧ getP o1 (1 : Nat) = eI (asI (getP o1 (1 : Nat)))) ∧
    br (decide (asI (getP o1 (1 : Nat)) = o01))
    (((0 : Int) ≤ (2 : Int) ∧ (2 : Int) < (↑o1.length : Int)) ∧ ((2 : Nat) < o1.length ∧ getP o1 (2 : Nat) = eI (asI (getP o1 (2 : Nat)))) ∧ K (PVal.bool (decide (asI (getP o1 (2 : Nat)) = o01))) [])
    (K (PVal.bool false) []))
    (K (PVal.bool false) []))
    (br (decide (o00 = (13 : Int)))
    (((0 : Int) ≤ (0 : Int) ∧ (0 : Int) < (↑o1.length : Int)) ∧
    ((0 : Nat) < o1.length ∧ getP o1 (0 : Nat) = eI (asI (getP o1 (0 : Nat)))) ∧
    ((0 : Int) ≤ (1 : Int) ∧ (1 : Int) < (↑o1.length : Int)) ∧
    ((1 : Nat) < o1.length ∧ getP o1 (1 : Nat) = eI (asI (getP o1 (1 : Nat)))) ∧ K (PVal.bool (decide (IntKind.i64.wrap (asI (getP o1 (0 : Nat)) + asI (getP o1 (1 : Nat))) = o01))) [])
    (br (decide (o00 = (14 : Int)))
    (((0 : Int) ≤ (0 : Int) ∧ (0 : Int) < (↑o1.length : Int)) ∧
    ((0 : Nat) < o1.length ∧ getP o1 (0 : Nat) = eI (asI (getP o1 (0 : Nat)))) ∧ K (PVal.bool (decide (IntKind.i64.wrap (o03 + o01) ≤ asI (getP o1 (0 : Nat))))) [])
    (br (decide (o00 = (15 : Int)))
    (br (decide (o00 = (15 : Int)))
    (((0 : Int) ≤ (0 : Int) ∧ (0 : Int) < (↑o1.length : Int)) ∧ ((0 : Nat) < o1.length ∧ getP o1 (0 : Nat) = eI (asI (getP o1 (0 : Nat)))) ∧ K (PVal.bool (decide (asI (getP o1 (0 : Nat)) ≤ o01))) [])
    (((0 : Int) ≤ (0 : Int) ∧ (0 : Int) < (↑o1.length : Int)) ∧ ((0 : Nat) < o1.length ∧ getP o1 (0 : Nat) = eI (asI (getP o1 (0 : Nat)))) ∧ K (PVal.bool (decide (asI (getP o1 (0 : Nat)) = o01))) []))
    (br (decide (o00 = (16 : Int)))
    (((0 : Int) ≤ (0 : Int) ∧ (0 : Int) < (↑o1.length : Int)) ∧ ((0 : Nat) < o1.length ∧ getP o1 (0 : Nat) = eI (asI (getP o1 (0 : Nat)))) ∧ K (PVal.bool (decide (asI (getP o1 (0 : Nat)) ≤ o01))) [])
    (((0 : Int) ≤ (0 : Int) ∧ (0 : Int) < (↑o1.length : Int)) ∧
    ((0 : Nat) < o1.length ∧ getP o1 (0 : Nat) = eI (asI (getP o1 (0 : Nat)))) ∧ K (PVal.bool (decide (asI (getP o1 (0 : Nat)) = o01))) [])))))))
    (br (decide (o00 = (11 : Int)))
    (((0 : Int) ≤ (0 : Int) ∧ (0 : Int) < (↑o1.length : Int)) ∧
    ((0 : Nat) < o1.length ∧ getP o1 (0 : Nat) = eI (asI (getP o1 (0 : Nat)))) ∧
    ((0 : Int) ≤ (1 : Int) ∧ (1 : Int) < (↑o1.length : Int)) ∧
    ((1 : Nat) < o1.length ∧ getP o1 (1 : Nat) = eI (asI (getP o1 (1 : Nat)))) ∧
    br (decide (asI (getP o1 (0 : Nat)) = asI (getP o1 (1 : Nat)))) (K (PVal.bool (decide (o01 = (1 : Int)))) []) (K (PVal.bool false) []))
    (br (decide (o00 = (12 : Int)))
    (((0 : Int) ≤ (0 : Int) ∧ (0 : Int) < (↑o1.length : Int)) ∧
    ((0 : Nat) < o1.length ∧ getP o1 (0 : Nat) = eI (asI (getP o1 (0 : Nat)))) ∧
    br (decide (asI (getP o1 (0 : Nat)) = (1 : Int)))
    (((0 : Int) ≤ (1 : Int) ∧ (1 : Int) < (↑o1.length : Int)) ∧
    ((1 : Nat) < o1.length ∧ getP o1 (1 : Nat) = eI (asI (getP o1 (1 : Nat)))) ∧
    br (decide (asI (getP o1 (1 : Nat)) = o01))
    (((0 : Int) ≤ (2 : Int) ∧ (2 : Int) < (↑o1.length : Int)) ∧ ((2 : Nat) < o1.length ∧ getP o1 (2 : Nat) = eI (asI (getP o1 (2 : Nat)))) ∧ K (PVal.bool (decide (asI (getP o1 (2 : Nat)) = o01))) [])
    (K (PVal.bool false) []))
    (K (PVal.bool false) []))
    (br (decide (o00 = (13 : Int)))
    (((0 : Int) ≤ (0 : Int) ∧ (0 : Int) < (↑o1.length : Int)) ∧
    ((0 : Nat) < o1.length ∧ getP o1 (0 : Nat) = eI (asI (getP o1 (0 : Nat)))) ∧
    ((0 : Int) ≤ (1 : Int) ∧ (1 : Int) < (↑o1.length : Int)) ∧
    ((1 : Nat) < o1.length ∧ getP o1 (1 : Nat) = eI (asI (getP o1 (1 : Nat)))) ∧ K (PVal.bool (decide (IntKind.i64.wrap (asI (getP o1 (0 : Nat)) + asI (getP o1 (1 : Nat))) = o01))) [])
    (br (decide (o00 = (14 : Int)))
    (((0 : Int) ≤ (0 : Int) ∧ (0 : Int) < (↑o1.length : Int)) ∧
    ((0 : Nat) < o1.length ∧ getP o1 (0 : Nat) = eI (asI (getP o1 (0 : Nat)))) ∧ K (PVal.bool (decide (IntKind.i64.wrap (o03 + o01) ≤ asI (getP o1 (0 : Nat))))) [])
    (br (decide (o00 = (15 : Int)))
    (br (decide (o00 = (15 : Int)))
    (((0 : Int) ≤ (0 : Int) ∧ (0 : Int) < (↑o1.length : Int)) ∧ ((0 : Nat) < o1.length ∧ getP o1 (0 : Nat) = eI (asI (getP o1 (0 : Nat)))) ∧ K (PVal.bool (decide (asI (getP o1 (0 : Nat)) ≤ o01))) [])
    (((0 : Int) ≤ (0 : Int) ∧ (0 : Int) < (↑o1.length : Int)) ∧ ((0 : Nat) < o1.length ∧ getP o1 (0 : Nat) = eI (asI (getP o1 (0 : Nat)))) ∧ K (PVal.bool (decide (asI (getP o1 (0 : Nat)) = o01))) []))
    (br (decide (o00 = (16 : Int)))
    (((0 : Int) ≤ (0 : Int) ∧ (0 : Int) < (↑o1.length : Int)) ∧ ((0 : Nat) < o1.length ∧ getP o1 (0 : Nat) = eI (asI (getP o1 (0 : Nat)))) ∧ K (PVal.bool (decide (asI (getP o1 (0 : Nat)) ≤ o01))) [])
    (((0 : Int) ≤ (0 : Int) ∧ (0 : Int) < (↑o1.length : Int)) ∧
    ((0 : Nat) < o1.length ∧ getP o1 (0 : Nat) = eI (asI (getP o1 (0 : Nat)))) ∧ K (PVal.bool (decide (asI (getP o1 (0 : Nat)) = o01))) []))))))))))
    (br (decide (o00 = (8 : Int)))
    (((0 : Int) ≤ (0 : Int) ∧ (0 : Int) < (↑o1.length : Int)) ∧
    ((0 : Nat) < o1.length ∧ getP o1 (0 : Nat) = eI (asI (getP o1 (0 : Nat)))) ∧
    br (decide (asI (getP o1 (0 : Nat)) = o01))
    (((0 : Int) ≤ (1 : Int) ∧ (1 : Int) < (↑o1.length : Int)) ∧ ((1 : Nat) < o1.length ∧ getP o1 (1 : Nat) = eI (asI (getP o1 (1 : Nat)))) ∧ K (PVal.bool (decide (asI (getP o1 (1 : Nat)) = o01))) [])
    (K (PVal.bool false) []))
    (br (decide (o00 = (9 : Int)))
    (br (decide (o00 = (9 : Int)))
    (((0 : Int) ≤ (0 : Int) ∧ (0 : Int) < (↑o1.length : Int)) ∧
    ((0 : Nat) < o1.length ∧ getP o1 (0 : Nat) = eI (asI (getP o1 (0 : Nat)))) ∧
    ((0 : Int) ≤ (1 : Int) ∧ (1 : Int) < (↑o1.length : Int)) ∧
    ((1 : Nat) < o1.length ∧ getP o1 (1 : Nat) = eI (asI (getP o1 (1 : Nat)))) ∧
    br (decide (asI (getP o1 (0 : Nat)) = asI (getP o1 (1 : Nat)))) (K (PVal.bool (decide (o01 = (1 : Int)))) []) (K (PVal.bool false) []))
    (br (decide (o00 = (12 : Int)))
    (((0 : Int) ≤ (0 : Int) ∧ (0 : Int) < (↑o1.length : Int)) ∧
    ((0 : Nat) < o1.length ∧ getP o1 (0 : Nat) = eI (asI (getP o1 (0 : Nat)))) ∧
    br (decide (asI (getP o1 (0 : Nat)) = (1 : Int)))
    (((0 : Int) ≤ (1 : Int) ∧ (1 : Int) < (↑o1.length : Int)) ∧
    ((1 : Nat) < o1.length ∧ getP o1 (1 : Nat) = eI (asI (getP o1 (1 : Nat)))) ∧
    br (decide (asI (getP o1 (1 : Nat)) = o01))
    (((0 : Int) ≤ (2 : Int) ∧ (2 : Int) < (↑o1.length : Int)) ∧ ((2 : Nat) < o1.length ∧ getP o1 (2 : Nat) = eI (asI (getP o1 (2 : Nat)))) ∧ K (PVal.bool (decide (asI (getP o1 (2 : Nat)) = o01))) [])
    (K (PVal.bool false) []))
    (K (PVal.bool false) []))
    (br (decide (o00 = (13 : Int)))
    (((0 : Int) ≤ (0 : Int) ∧ (0 : Int) < (↑o1.length : Int)) ∧
    ((0 : Nat) < o1.length ∧ getP o1 (0 : Nat) = eI (asI (getP o1 (0 : Nat)))) ∧
    ((0 : Int) ≤ (1 : Int) ∧ (1 : Int) < (↑o1.length : Int)) ∧
    ((1 : Nat) < o1.length ∧ getP o1 (1 : Nat) = eI (asI (getP o1 (1 : Nat)))) ∧ K (PVal.bool (decide (IntKind.i64.wrap (asI (getP o1 (0 : Nat)) + asI (getP o1 (1 : Nat))) = o01))) [])
    (br (decide (o00 = (14 : Int)))
    (((0 : Int) ≤ (0 : Int) ∧ (0 : Int) < (↑o1.length : Int)) ∧
    ((0 : Nat) < o1.length ∧ getP o1 (0 : Nat) = eI (asI (getP o1 (0 : Nat)))) ∧ K (PVal.bool (decide (IntKind.i64.wrap (o03 + o01) ≤ asI (getP o1 (0 : Nat))))) [])
    (br (decide (o00 = (15 : Int)))
    (br (decide (o00 = (15 : Int)))
    (((0 : Int) ≤ (0 : Int) ∧ (0 : Int) < (↑o1.length : Int)) ∧ ((0 : Nat) < o1.length ∧ getP o1 (0 : Nat) = eI (asI (getP o1 (0 : Nat)))) ∧ K (PVal.bool (decide (asI (getP o1 (0 : Nat)) ≤ o01))) [])
    (((0 : Int) ≤ (0 : Int) ∧ (0 : Int) < (↑o1.length : Int)) ∧ ((0 : Nat) < o1.length ∧ getP o1 (0 : Nat) = eI (asI (getP o1 (0 : Nat)))) ∧ K (PVal.bool (decide (asI (getP o1 (0 : Nat)) = o01))) []))
    (br (decide (o00 = (16 : Int)))
    (((0 : Int) ≤ (0 : Int) ∧ (0 : Int) < (↑o1.length : Int)) ∧ ((0 : Nat) < o1.length ∧ getP o1 (0 : Nat) = eI (asI (getP o1 (0 : Nat)))) ∧ K (PVal.bool (decide (asI (getP o1 (0 : Nat)) ≤ o01))) [])
    (((0 : Int) ≤ (0 : Int) ∧ (0 : Int) < (↑o1.length : Int)) ∧ ((0 : Nat) < o1.length ∧ getP o1 (0 : Nat) = eI (asI (getP o1 (0 : Nat)))) ∧ K (PVal.bool (decide (asI (getP o1 (0 : Nat)) = o01))) [])))))))
    (br (decide (o00 = (10 : Int)))
    (br (decide (o00 = (10 : Int)))
    (((0 : Int) ≤ (0 : Int) ∧ (0 : Int) < (↑o1.length : Int)) ∧
    ((0 : Nat) < o1.length ∧ getP o1 (0 : Nat) = eI (asI (getP o1 (0 : Nat)))) ∧
    ((0 : Int) ≤ (1 : Int) ∧ (1 : Int) < (↑o1.length : Int)) ∧
    ((1 : Nat) < o1.length ∧ getP o1 (1 : Nat) = eI (asI (getP o1 (1 : Nat)))) ∧
    br (decide (asI (getP o1 (0 : Nat)) = asI (getP o1 (1 : Nat)))) (K (PVal.bool (decide (o01 = (1 : Int)))) []) (K (PVal.bool false) []))
    (br (decide (o00 = (12 : Int)))
    (((0 : Int) ≤ (0 : Int) ∧ (0 : Int) < (↑o1.length : Int)) ∧
    ((0 : Nat) < o1.length ∧ getP o1 (0 : Nat) = eI (asI (getP o1 (0 : Nat)))) ∧
    br (decide (asI (getP o1 (0 : Nat)) = (1 : Int)))
    (((0 : Int) ≤ (1 : Int) ∧ (1 : Int) < (↑o1.length : Int)) ∧
    ((1 : Nat) < o1.length ∧ getP o1 (1 : Nat) = eI (asI (getP o1 (1 : Nat)))) ∧
    br (decide (asI (getP o1 (1 : Nat)) = o01))
    (((0 : Int) ≤ (2 : Int) ∧ (2 : Int) < (↑o1.length : Int)) ∧ ((2 : Nat) < o1.length ∧ getP o1 (2 : Nat) = eI (asI (getP o1 (2 : Nat)))) ∧ K (PVal.bool (decide (asI (getP o1 (2 : Nat)) = o01))) [])
    (K (PVal.bool false) []))
    (K (PVal.bool false) []))
    (br (decide (o00 = (13 : Int)))
    (((0 : Int) ≤ (0 : Int) ∧ (0 : Int) < (↑o1.length : Int)) ∧
    ((0 : Nat) < o1.length ∧ getP o1 (0 : Nat) = eI (asI (getP o1 (0 : Nat)))) ∧
    ((0 : Int) ≤ (1 : Int) ∧ (1 : Int) < (↑o1.length : Int)) ∧
    ((1 : Nat) < o1.length ∧ getP o1 (1 : Nat) = eI (asI (getP o1 (1 : Nat)))) ∧ K (PVal.bool (decide (IntKind.i64.wrap (asI (getP o1 (0 : Nat)) + asI (getP o1 (1 : Nat))) = o01))) [])
    (br (decide (o00 = (14 : Int)))
    (((0 : Int) ≤ (0 : Int) ∧ (0 : Int) < (↑o1.length : Int)) ∧
    ((0 : Nat) < o1.length ∧ getP o1 (0 : Nat) = eI (asI (getP o1 (0 : Nat)))) ∧ K (PVal.bool (decide (IntKind.i64.wrap (o03 + o01) ≤ asI (getP o1 (0 : Nat))))) [])
    (br (decide (o00 = (15 : Int)))
    (br (decide (o00 = (15 : Int)))
    (((0 : Int) ≤ (0 : Int) ∧ (0 : Int) < (↑o1.length : Int)) ∧ ((0 : Nat) < o1.length ∧ getP o1 (0 : Nat) = eI (asI (getP o1 (0 : Nat)))) ∧ K (PVal.bool (decide (asI (getP o1 (0 : Nat)) ≤ o01))) [])
    (((0 : Int) ≤ (0 : Int) ∧ (0 : Int) < (↑o1.length : Int)) ∧ ((0 : Nat) < o1.length ∧ getP o1 (0 : Nat) = eI (asI (getP o1 (0 : Nat)))) ∧ K (PVal.bool (decide (asI (getP o1 (0 : Nat)) = o01))) []))
    (br (decide (o00 = (16 : Int)))
    (((0 : Int) ≤ (0 : Int) ∧ (0 : Int) < (↑o1.length : Int)) ∧ ((0 : Nat) < o1.length ∧ getP o1 (0 : Nat) = eI (asI (getP o1 (0 : Nat)))) ∧ K (PVal.bool (decide (asI (getP o1 (0 : Nat)) ≤ o01))) [])
    (((0 : Int) ≤ (0 : Int) ∧ (0 : Int) < (↑o1.length : Int)) ∧
    ((0 : Nat) < o1.length ∧ getP o1 (0 : Nat) = eI (asI (getP o1 (0 : Nat)))) ∧ K (PVal.bool (decide (asI (getP o1 (0 : Nat)) = o01))) [])))))))
    (br (decide (o00 = (11 : Int)))
    (((0 : Int) ≤ (0 : Int) ∧ (0 : Int) < (↑o1.length : Int)) ∧
    ((0 : Nat) < o1.length ∧ getP o1 (0 : Nat) = eI (asI (getP o1 (0 : Nat)))) ∧
    ((0 : Int) ≤ (1 : Int) ∧ (1 : Int) < (↑o1.length : Int)) ∧
    ((1 : Nat) < o1.length ∧ getP o1 (1 : Nat) = eI (asI (getP o1 (1 : Nat)))) ∧
    br (decide (asI (getP o1 (0 : Nat)) = asI (getP o1 (1 : Nat)))) (K (PVal.bool (decide (o01 = (1 : Int)))) []) (K (PVal.bool false) []))
    (br (decide (o00 = (12 : Int)))
    (((0 : Int) ≤ (0 : Int) ∧ (0 : Int) < (↑o1.length : Int)) ∧
    ((0 : Nat) < o1.length ∧ getP o1 (0 : Nat) = eI (asI (getP o1 (0 : Nat)))) ∧
    br (decide (asI (getP o1 (0 : Nat)) = (1 : Int)))
    (((0 : Int) ≤ (1 : Int) ∧ (1 : Int) < (↑o1.length : Int)) ∧
    ((1 : Nat) < o1.length ∧ getP o1 (1 : Nat) = eI (asI (getP o1 (1 : Nat)))) ∧
    br (decide (asI (getP o1 (1 : Nat)) = o01))
    (((0 : Int) ≤ (2 : Int) ∧ (2 : Int) < (↑o1.length : Int)) ∧ ((2 : Nat) < o1.length ∧ getP o1 (2 : Nat) = eI (asI (getP o1 (2 : Nat)))) ∧ K (PVal.bool (decide (asI (getP o1 (2 : Nat)) = o01))) [])
    (K (PVal.bool false) []))
    (K (PVal.bool false) []))
    (br (decide (o00 = (13 : Int)))
    (((0 : Int) ≤ (0 : Int) ∧ (0 : Int) < (↑o1.length : Int)) ∧
    ((0 : Nat) < o1.length ∧ getP o1 (0 : Nat) = eI (asI (getP o1 (0 : Nat)))) ∧
    ((0 : Int) ≤ (1 : Int) ∧ (1 : Int) < (↑o1.length : Int)) ∧
    ((1 : Nat) < o1.length ∧ getP o1 (1 : Nat) = eI (asI (getP o1 (1 : Nat)))) ∧ K (PVal.bool (decide (IntKind.i64.wrap (asI (getP o1 (0 : Nat)) + asI (getP o1 (1 : Nat))) = o01))) [])
    (br (decide (o00 = (14 : Int)))
    (((0 : Int) ≤ (0 : Int) ∧ (0 : Int) < (↑o1.length : Int)) ∧
    ((0 : Nat) < o1.length ∧ getP o1 (0 : Nat) = eI (asI (getP o1 (0 : Nat)))) ∧ K (PVal.bool (decide (IntKind.i64.wrap (o03 + o01) ≤ asI (getP o1 (0 : Nat))))) [])
    (br (decide (o00 = (15 : Int)))
    (br (decide (o00 = (15 : Int)))
    (((0 : Int) ≤ (0 : Int) ∧ (0 : Int) < (↑o1.length : Int)) ∧ ((0 : Nat) < o1.length ∧ getP o1 (0 : Nat) = eI (asI (getP o1 (0 : Nat)))) ∧ K (PVal.bool (decide (asI (getP o1 (0 : Nat)) ≤ o01))) [])
    (((0 : Int) ≤ (0 : Int) ∧ (0 : Int) < (↑o1.length : Int)) ∧ ((0 : Nat) < o1.length ∧ getP o1 (0 : Nat) = eI (asI (getP o1 (0 : Nat)))) ∧ K (PVal.bool (decide (asI (getP o1 (0 : Nat)) = o01))) []))
    (br (decide (o00 = (16 : Int)))
    (((0 : Int) ≤ (0 : Int) ∧ (0 : Int) < (↑o1.length : Int)) ∧ ((0 : Nat) < o1.length ∧ getP o1 (0 : Nat) = eI (asI (getP o1 (0 : Nat)))) ∧ K (PVal.bool (decide (asI (getP o1 (0 : Nat)) ≤ o01))) [])
    (((0 : Int) ≤ (0 : Int) ∧ (0 : Int) < (↑o1.length : Int)) ∧
    ((0 : Nat) < o1.length ∧ getP o1 (0 : Nat) = eI (asI (getP o1 (0 : Nat)))) ∧ K (PVal.bool (decide (asI (getP o1 (0 : Nat)) = o01))) []))))))))))))))))) :
    L_base_widthsFit_0 K [PVal.sl Mode.fr 4 x0, PVal.ref (0 : Nat) (4 : Nat) (0 : Nat) (0 : Nat), PVal.own (1 : Nat), eI x6] [AObj.row true (59 : Nat) (4 : Nat) [PVal.agg [eI o00, eI o01, PVal.sl Mode.fr 1 o02, eI o03]], AObj.row false (3 : Nat) (1 : Nat) o1] :=
  r_of (n := 5) h (by kernel_rfl)
def L_base_SamePorts_0 (K : PVal → List AObj → Prop) (vs : List PVal) (os : List AObj) : Prop := LoopP env0 0 63 0 (cd env0 63 [1, 1, 0, 1, 0, 0]) vs os (kat env0 5 0 63 [1, 1, 0, 1, 0] K [])
theorem e_base_SamePorts (K : PVal → List AObj → Prop) (a' : List PVal) (b' : List PVal)
    (h : br (!decide ((↑a'.length : Int) = (↑b'.length : Int))) (K (PVal.bool false) []) (L_base_SamePorts_0 K [PVal.sl Mode.fr 2 a', PVal.sl Mode.fr 2 b', eI (0 : Int)] [])) :
    CallP env0 63 [PVal.sl Mode.fr 2 a', PVal.sl Mode.fr 2 b'] [] K :=
  e_of (n := 6) h (by kernel_rfl)
theorem r_base_SamePorts_0 (K : PVal → List AObj → Prop) (a' : List PVal) (b' : List PVal) (i' : Int)
    (h : br (decide (i' < (↑a'.length : Int)))
  ((((0 : Int) ≤ i' ∧ i' < (↑a'.length : Int)) ∧ getP a' i'.toNat = PVal.agg [PVal.str (asS (cellAt (getP a' i'.toNat) (0 : Nat))), eI (asI (cellAt (getP a' i'.toNat) (1 : Nat)))]) ∧
    (((0 : Int) ≤ i' ∧ i' < (↑b'.length : Int)) ∧ getP b' i'.toNat = PVal.agg [PVal.str (asS (cellAt (getP b' i'.toNat) (0 : Nat))), eI (asI (cellAt (getP b' i'.toNat) (1 : Nat)))]) ∧
    br (!(decide (asS (cellAt (getP a' i'.toNat) (0 : Nat)) = asS (cellAt (getP b' i'.toNat) (0 : Nat))) && (decide (asI (cellAt (getP a' i'.toNat) (1 : Nat)) = asI (cellAt (getP b' i'.toNat) (1 : Nat))) && true))) (K (PVal.bool false) [])
    (L_base_SamePorts_0 K [PVal.sl Mode.fr 2 a', PVal.sl Mode.fr 2 b', eI (IntKind.i64.wrap (i' + (1 : Int)))] []))
  (K (PVal.bool true) [])) :
    L_base_SamePorts_0 K [PVal.sl Mode.fr 2 a', PVal.sl Mode.fr 2 b', eI i'] [] :=
  r_of (n := 5) h (by kernel_rfl)
def L_base_SameOutputs_0 (K : PVal → List AObj → Prop) (vs : List PVal) (os : List AObj) : Prop := LoopP env0 0 65 0 (cd env0 65 [1, 1, 0, 1, 0, 0]) vs os (kat env0 5 0 65 [1, 1, 0, 1, 0] K [])
theorem e_base_SameOutputs (K : PVal → List AObj → Prop) (a' : List PVal) (b' : List PVal)
    (h : br (!decide ((↑a'.length : Int) = (↑b'.length : Int))) (K (PVal.bool false) []) (L_base_SameOutputs_0 K [PVal.sl Mode.fr 2 a', PVal.sl Mode.fr 2 b', eI (0 : Int)] [])) :
    CallP env0 65 [PVal.sl Mode.fr 2 a', PVal.sl Mode.fr 2 b'] [] K :=
  e_of (n := 6) h (by kernel_rfl)
theorem r_base_SameOutputs_0 (K : PVal → List AObj → Prop) (a' : List PVal) (b' : List PVal) (i' : Int)
    (h : br (decide (i' < (↑a'.length : Int)))
  ((((0 : Int) ≤ i' ∧ i' < (↑a'.length : Int)) ∧ getP a' i'.toNat = PVal.agg [PVal.str (asS (cellAt (getP a' i'.toNat) (0 : Nat))), eI (asI (cellAt (getP a' i'.toNat) (1 : Nat)))]) ∧
    (((0 : Int) ≤ i' ∧ i' < (↑b'.length : Int)) ∧ getP b' i'.toNat = PVal.agg [PVal.str (asS (cellAt (getP b' i'.toNat) (0 : Nat))), eI (asI (cellAt (getP b' i'.toNat) (1 : Nat)))]) ∧
    br (!(decide (asS (cellAt (getP a' i'.toNat) (0 : Nat)) = asS (cellAt (getP b' i'.toNat) (0 : Nat))) && (decide (asI (cellAt (getP a' i'.toNat) (1 : Nat)) = asI (cellAt (getP b' i'.toNat) (1 : Nat))) && true))) (K (PVal.bool false) [])
    (L_base_SameOutputs_0 K [PVal.sl Mode.fr 2 a', PVal.sl Mode.fr 2 b', eI (IntKind.i64.wrap (i' + (1 : Int)))] []))
  (K (PVal.bool true) [])) :
    L_base_SameOutputs_0 K [PVal.sl Mode.fr 2 a', PVal.sl Mode.fr 2 b', eI i'] [] :=
  r_of (n := 5) h (by kernel_rfl)
def L_law26_few_0 (K : PVal → List AObj → Prop) (vs : List PVal) (os : List AObj) : Prop := LoopP env0 0 9 0 (cd env0 9 [1, 1, 0, 1, 0, 0]) vs os (kat env0 5 0 9 [1, 1, 0, 1, 0] K [])
theorem e_law26_few (K : PVal → List AObj → Prop) (n'Name : ByteArray) (n'Inputs : List PVal) (n'Registers : List PVal) (n'Nodes : List PVal) (n'Outputs : List PVal)
    (h : br (decide ((↑n'Inputs.length : Int) > (14 : Int))) (K (PVal.bool false) [])
  (br (decide ((↑n'Registers.length : Int) > (42 : Int))) (K (PVal.bool false) [])
    (br (decide ((↑n'Nodes.length : Int) > (60 : Int)))
    (br (!decide ((↑n'Nodes.length : Int) = (400 : Int))) (K (PVal.bool false) [])
    (br (decide ((↑n'Outputs.length : Int) > (14 : Int))) (K (PVal.bool false) [])
    (L_law26_few_0 K [PVal.ref (0 : Nat) (5 : Nat) (0 : Nat) (0 : Nat), eI (0 : Int)]
    [AObj.row true (27 : Nat) (5 : Nat) [PVal.agg [PVal.str n'Name, PVal.sl Mode.fr 2 n'Inputs, PVal.sl Mode.fr 5 n'Registers, PVal.sl Mode.fr 4 n'Nodes, PVal.sl Mode.fr 2 n'Outputs]]])))
    (br (decide ((↑n'Outputs.length : Int) > (14 : Int))) (K (PVal.bool false) [])
    (L_law26_few_0 K [PVal.ref (0 : Nat) (5 : Nat) (0 : Nat) (0 : Nat), eI (0 : Int)]
    [AObj.row true (27 : Nat) (5 : Nat) [PVal.agg [PVal.str n'Name, PVal.sl Mode.fr 2 n'Inputs, PVal.sl Mode.fr 5 n'Registers, PVal.sl Mode.fr 4 n'Nodes, PVal.sl Mode.fr 2 n'Outputs]]]))))) :
    CallP env0 9 [PVal.agg [PVal.str n'Name, PVal.sl Mode.fr 2 n'Inputs, PVal.sl Mode.fr 5 n'Registers, PVal.sl Mode.fr 4 n'Nodes, PVal.sl Mode.fr 2 n'Outputs]] [] K :=
  e_of (n := 6) h (by kernel_rfl)
theorem r_law26_few_0 (K : PVal → List AObj → Prop) (i' : Int) (o00 : ByteArray) (o01 : List PVal) (o02 : List PVal) (o03 : List PVal) (o04 : List PVal)
    (h : br (decide (i' < (↑o03.length : Int)))
  ((((0 : Int) ≤ i' ∧ i' < (↑o03.length : Int)) ∧
    getP o03 i'.toNat =
    PVal.agg
    [eI (asI (cellAt (getP o03 i'.toNat) (0 : Nat))), eI (asI (cellAt (getP o03 i'.toNat) (1 : Nat))), PVal.sl Mode.fr 1 (asL (cellAt (getP o03 i'.toNat) (2 : Nat))),
    eI (asI (cellAt (getP o03 i'.toNat) (3 : Nat)))]) ∧
    br (decide ((↑(asL (cellAt (getP o03 i'.toNat) (2 : Nat))).length : Int) > (5 : Int))) (K (PVal.bool false) [])
    (L_law26_few_0 K [PVal.ref (0 : Nat) (5 : Nat) (0 : Nat) (0 : Nat), eI (IntKind.i64.wrap (i' + (1 : Int)))]
    [AObj.row true (27 : Nat) (5 : Nat) [PVal.agg [PVal.str o00, PVal.sl Mode.fr 2 o01, PVal.sl Mode.fr 5 o02, PVal.sl Mode.fr 4 o03, PVal.sl Mode.fr 2 o04]]]))
  (K (PVal.bool true) [])) :
    L_law26_few_0 K [PVal.ref (0 : Nat) (5 : Nat) (0 : Nat) (0 : Nat), eI i'] [AObj.row true (27 : Nat) (5 : Nat) [PVal.agg [PVal.str o00, PVal.sl Mode.fr 2 o01, PVal.sl Mode.fr 5 o02, PVal.sl Mode.fr 4 o03, PVal.sl Mode.fr 2 o04]]] :=
  r_of (n := 5) h (by kernel_rfl)
def L_ref26_CheckDelays_0 (K : PVal → List AObj → Prop) (vs : List PVal) (os : List AObj) : Prop := LoopP env0 0 16 0 (cd env0 16 [1, 1, 0, 1, 0, 0]) vs os (kat env0 5 0 16 [1, 1, 0, 1, 0] K [])
theorem e_ref26_CheckDelays (K : PVal → List AObj → Prop) (l' : List PVal)
    (h : br (!decide ((↑l'.length : Int) = (19 : Int))) (K (PVal.tup [eI (0 : Int), eI (10 : Int)]) []) (L_ref26_CheckDelays_0 K [PVal.sl Mode.fr 1 l', eI (0 : Int)] [])) :
    CallP env0 16 [PVal.sl Mode.fr 1 l'] [] K :=
  e_of (n := 6) h (by kernel_rfl)
theorem r_ref26_CheckDelays_0 (K : PVal → List AObj → Prop) (l' : List PVal) (i' : Int)
    (h : br (decide (i' < (↑l'.length : Int)))
  ((((0 : Int) ≤ i' ∧ i' < (↑l'.length : Int)) ∧ getP l' i'.toNat = eI (asI (getP l' i'.toNat))) ∧
    br (decide ((0 : Int) ≤ asI (getP l' i'.toNat)))
    (br (!decide (asI (getP l' i'.toNat) ≤ (1000 : Int))) (K (PVal.tup [eI i', eI (2 : Int)]) []) (L_ref26_CheckDelays_0 K [PVal.sl Mode.fr 1 l', eI (IntKind.i64.wrap (i' + (1 : Int)))] []))
    (K (PVal.tup [eI i', eI (2 : Int)]) []))
  (K (PVal.tup [eI (0 : Int), eI (0 : Int)]) [])) :
    L_ref26_CheckDelays_0 K [PVal.sl Mode.fr 1 l', eI i'] [] :=
  r_of (n := 5) h (by kernel_rfl)
def L_ref26_Arrivals_0 (K : PVal → List AObj → Prop) (vs : List PVal) (os : List AObj) : Prop := LoopP env0 0 19 0 (cd env0 19 [1, 1, 0, 1, 0, 0]) vs os (kat env0 5 0 19 [1, 1, 0, 1, 0] K [])
def L_ref26_Arrivals_2 (K : PVal → List AObj → Prop) (J0 : List PVal → List AObj → Prop) (vs : List PVal) (os : List AObj) : Prop := LoopP env0 0 19 2 (cd env0 19 [1, 1, 0, 1, 0, 0, 1, 0, 0, 1, 0, 1, 0, 0]) vs os (kat env0 5 0 19 [1, 1, 0, 1, 0, 0, 1, 0, 0, 1, 0, 1, 0] K [J0])
theorem e_ref26_Arrivals (K : PVal → List AObj → Prop) (n'Name : ByteArray) (n'Inputs : List PVal) (n'Registers : List PVal) (n'Nodes : List PVal) (n'Outputs : List PVal) (delays' : List PVal)
    (h : ((0 : Int) ≤ (↑n'Nodes.length : Int) ∧ (↑n'Nodes.length : Int) ≤ (↑n'Nodes.length : Int) ∧ (↑n'Nodes.length : Int) * (8 : Int) ≤ (140737488355328 : Int) ∧ (↑n'Nodes.length : Int) ≤ (9223372036854775807 : Int)) ∧
  L_ref26_Arrivals_0 K [PVal.sl Mode.fr 1 delays', PVal.ref (0 : Nat) (5 : Nat) (0 : Nat) (0 : Nat), PVal.own (1 : Nat), eI (0 : Int)]
    [AObj.row true (27 : Nat) (5 : Nat) [PVal.agg [PVal.str n'Name, PVal.sl Mode.fr 2 n'Inputs, PVal.sl Mode.fr 5 n'Registers, PVal.sl Mode.fr 4 n'Nodes, PVal.sl Mode.fr 2 n'Outputs]],
    AObj.row false (3 : Nat) (1 : Nat) (List.replicate (↑n'Nodes.length : Int).toNat (eI (0 : Int)))]) :
    CallP env0 19 [PVal.agg [PVal.str n'Name, PVal.sl Mode.fr 2 n'Inputs, PVal.sl Mode.fr 5 n'Registers, PVal.sl Mode.fr 4 n'Nodes, PVal.sl Mode.fr 2 n'Outputs], PVal.sl Mode.fr 1 delays'] [] K :=
  e_of (n := 6) h (by kernel_rfl)
theorem r_ref26_Arrivals_0 (K : PVal → List AObj → Prop) (delays' : List PVal) (i' : Int) (o00 : ByteArray) (o01 : List PVal) (o02 : List PVal) (o03 : List PVal) (o04 : List PVal) (o1 : List PVal)
    (h : br (decide (i' < (↑o03.length : Int)))
  (L_ref26_Arrivals_2 K (L_ref26_Arrivals_0 K) [PVal.sl Mode.fr 1 delays', PVal.ref (0 : Nat) (5 : Nat) (0 : Nat) (0 : Nat), PVal.own (1 : Nat), eI i', eI (0 : Int), eI (0 : Int)]
    [AObj.row true (27 : Nat) (5 : Nat) [PVal.agg [PVal.str o00, PVal.sl Mode.fr 2 o01, PVal.sl Mode.fr 5 o02, PVal.sl Mode.fr 4 o03, PVal.sl Mode.fr 2 o04]], AObj.row false (3 : Nat) (1 : Nat) o1])
  (K (PVal.sl Mode.fr 1 o1) [])) :
    L_ref26_Arrivals_0 K [PVal.sl Mode.fr 1 delays', PVal.ref (0 : Nat) (5 : Nat) (0 : Nat) (0 : Nat), PVal.own (1 : Nat), eI i'] [AObj.row true (27 : Nat) (5 : Nat) [PVal.agg [PVal.str o00, PVal.sl Mode.fr 2 o01, PVal.sl Mode.fr 5 o02, PVal.sl Mode.fr 4 o03, PVal.sl Mode.fr 2 o04]], AObj.row false (3 : Nat) (1 : Nat) o1] :=
  r_of (n := 5) h (by kernel_rfl)
theorem r_ref26_Arrivals_2 (K : PVal → List AObj → Prop) (J0 : List PVal → List AObj → Prop) (delays' : List PVal) (i' : Int) (most' : Int) (k' : Int) (o00 : ByteArray) (o01 : List PVal) (o02 : List PVal) (o03 : List PVal) (o04 : List PVal) (o1 : List PVal)
    (h : (((0 : Int) ≤ i' ∧ i' < (↑o03.length : Int)) ∧
    getP o03 i'.toNat =
    PVal.agg
    [eI (asI (cellAt (getP o03 i'.toNat) (0 : Nat))), eI (asI (cellAt (getP o03 i'.toNat) (1 : Nat))), PVal.sl Mode.fr 1 (asL (cellAt (getP o03 i'.toNat) (2 : Nat))),
    eI (asI (cellAt (getP o03 i'.toNat) (3 : Nat)))]) ∧
  br (decide (k' < (↑(asL (cellAt (getP o03 i'.toNat) (2 : Nat))).length : Int)))
    ((((0 : Int) ≤ i' ∧ i' < (↑o03.length : Int)) ∧
    getP o03 i'.toNat =
    PVal.agg
    [eI (asI (cellAt (getP o03 i'.toNat) (0 : Nat))), eI (asI (cellAt (getP o03 i'.toNat) (1 : Nat))), PVal.sl Mode.fr 1 (asL (cellAt (getP o03 i'.toNat) (2 : Nat))),
    eI (asI (cellAt (getP o03 i'.toNat) (3 : Nat)))]) ∧
    (((0 : Int) ≤ k' ∧ k' < (↑(asL (cellAt (getP o03 i'.toNat) (2 : Nat))).length : Int)) ∧ getP (asL (cellAt (getP o03 i'.toNat) (2 : Nat))) k'.toNat = eI (asI (getP (asL (cellAt (getP o03 i'.toNat) (2 : Nat))) k'.toNat))) ∧
    ((0 : Int) ≤ asI (getP (asL (cellAt (getP o03 i'.toNat) (2 : Nat))) k'.toNat) ∧ asI (getP (asL (cellAt (getP o03 i'.toNat) (2 : Nat))) k'.toNat) < (↑o1.length : Int)) ∧
    ((asI (getP (asL (cellAt (getP o03 i'.toNat) (2 : Nat))) k'.toNat)).toNat < o1.length ∧
    getP o1 (asI (getP (asL (cellAt (getP o03 i'.toNat) (2 : Nat))) k'.toNat)).toNat = eI (asI (getP o1 (asI (getP (asL (cellAt (getP o03 i'.toNat) (2 : Nat))) k'.toNat)).toNat))) ∧
    L_ref26_Arrivals_2 K J0
    [PVal.sl Mode.fr 1 delays', PVal.ref (0 : Nat) (5 : Nat) (0 : Nat) (0 : Nat), PVal.own (1 : Nat), eI i',
    eI (if asI (getP o1 (asI (getP (asL (cellAt (getP o03 i'.toNat) (2 : Nat))) k'.toNat)).toNat) > most' then asI (getP o1 (asI (getP (asL (cellAt (getP o03 i'.toNat) (2 : Nat))) k'.toNat)).toNat) else most'),
    eI (IntKind.i64.wrap (k' + (1 : Int)))]
    [AObj.row true (27 : Nat) (5 : Nat) [PVal.agg [PVal.str o00, PVal.sl Mode.fr 2 o01, PVal.sl Mode.fr 5 o02, PVal.sl Mode.fr 4 o03, PVal.sl Mode.fr 2 o04]], AObj.row false (3 : Nat) (1 : Nat) o1])
    ((((0 : Int) ≤ i' ∧ i' < (↑o03.length : Int)) ∧
    getP o03 i'.toNat =
    PVal.agg
    [eI (asI (cellAt (getP o03 i'.toNat) (0 : Nat))), eI (asI (cellAt (getP o03 i'.toNat) (1 : Nat))), PVal.sl Mode.fr 1 (asL (cellAt (getP o03 i'.toNat) (2 : Nat))),
    eI (asI (cellAt (getP o03 i'.toNat) (3 : Nat)))]) ∧
    (((0 : Int) ≤ asI (cellAt (getP o03 i'.toNat) (0 : Nat)) ∧ asI (cellAt (getP o03 i'.toNat) (0 : Nat)) < (↑delays'.length : Int)) ∧
    getP delays' (asI (cellAt (getP o03 i'.toNat) (0 : Nat))).toNat = eI (asI (getP delays' (asI (cellAt (getP o03 i'.toNat) (0 : Nat))).toNat))) ∧
    ((0 : Int) ≤ i' ∧ i' < (↑o1.length : Int)) ∧
    (i'.toNat < o1.length ∧ getP o1 i'.toNat = eI (asI (getP o1 i'.toNat))) ∧
    J0 [PVal.sl Mode.fr 1 delays', PVal.ref (0 : Nat) (5 : Nat) (0 : Nat) (0 : Nat), PVal.own (1 : Nat), eI (IntKind.i64.wrap (i' + (1 : Int)))]
    [AObj.row true (27 : Nat) (5 : Nat) [PVal.agg [PVal.str o00, PVal.sl Mode.fr 2 o01, PVal.sl Mode.fr 5 o02, PVal.sl Mode.fr 4 o03, PVal.sl Mode.fr 2 o04]],
    AObj.row false (3 : Nat) (1 : Nat) (o1.set i'.toNat (eI (IntKind.i64.wrap (most' + asI (getP delays' (asI (cellAt (getP o03 i'.toNat) (0 : Nat))).toNat)))))])) :
    L_ref26_Arrivals_2 K J0 [PVal.sl Mode.fr 1 delays', PVal.ref (0 : Nat) (5 : Nat) (0 : Nat) (0 : Nat), PVal.own (1 : Nat), eI i', eI most', eI k'] [AObj.row true (27 : Nat) (5 : Nat) [PVal.agg [PVal.str o00, PVal.sl Mode.fr 2 o01, PVal.sl Mode.fr 5 o02, PVal.sl Mode.fr 4 o03, PVal.sl Mode.fr 2 o04]], AObj.row false (3 : Nat) (1 : Nat) o1] :=
  r_of (n := 5) h (by kernel_rfl)
def L_ref26_Named_0 (K : PVal → List AObj → Prop) (vs : List PVal) (os : List AObj) : Prop := LoopP env0 0 21 0 (cd env0 21 [1, 1, 0, 1, 0, 0]) vs os (kat env0 5 0 21 [1, 1, 0, 1, 0] K [])
def L_ref26_Named_2 (K : PVal → List AObj → Prop) (vs : List PVal) (os : List AObj) : Prop := LoopP env0 0 21 2 (cd env0 21 [1, 1, 1, 0, 1, 0, 0]) vs os (kat env0 5 0 21 [1, 1, 1, 0, 1, 0] K [])
theorem e_ref26_Named (K : PVal → List AObj → Prop) (n'Name : ByteArray) (n'Inputs : List PVal) (n'Registers : List PVal) (n'Nodes : List PVal) (n'Outputs : List PVal)
    (h : L_ref26_Named_0 K [PVal.ref (0 : Nat) (5 : Nat) (0 : Nat) (0 : Nat), PVal.own (1 : Nat), eI (0 : Int)]
  [AObj.row true (27 : Nat) (5 : Nat) [PVal.agg [PVal.str n'Name, PVal.sl Mode.fr 2 n'Inputs, PVal.sl Mode.fr 5 n'Registers, PVal.sl Mode.fr 4 n'Nodes, PVal.sl Mode.fr 2 n'Outputs]],
    AObj.row false (3 : Nat) (1 : Nat) []]) :
    CallP env0 21 [PVal.agg [PVal.str n'Name, PVal.sl Mode.fr 2 n'Inputs, PVal.sl Mode.fr 5 n'Registers, PVal.sl Mode.fr 4 n'Nodes, PVal.sl Mode.fr 2 n'Outputs]] [] K :=
  e_of (n := 6) h (by kernel_rfl)
theorem r_ref26_Named_0 (K : PVal → List AObj → Prop) (i' : Int) (o00 : ByteArray) (o01 : List PVal) (o02 : List PVal) (o03 : List PVal) (o04 : List PVal) (o1 : List PVal)
    (h : br (decide (i' < (↑o04.length : Int)))
  ((((0 : Int) ≤ i' ∧ i' < (↑o04.length : Int)) ∧ getP o04 i'.toNat = PVal.agg [PVal.str (asS (cellAt (getP o04 i'.toNat) (0 : Nat))), eI (asI (cellAt (getP o04 i'.toNat) (1 : Nat)))]) ∧
    ((o1.length + (1 : Nat)) * (8 : Nat) ≤ (140737488355328 : Nat) ∧ o1.length + (1 : Nat) ≤ (9223372036854775807 : Nat)) ∧
    L_ref26_Named_0 K [PVal.ref (0 : Nat) (5 : Nat) (0 : Nat) (0 : Nat), PVal.own (1 : Nat), eI (IntKind.i64.wrap (i' + (1 : Int)))]
    [AObj.row true (27 : Nat) (5 : Nat) [PVal.agg [PVal.str o00, PVal.sl Mode.fr 2 o01, PVal.sl Mode.fr 5 o02, PVal.sl Mode.fr 4 o03, PVal.sl Mode.fr 2 o04]],
    AObj.row false (3 : Nat) (1 : Nat) (o1 ++ [eI (asI (cellAt (getP o04 i'.toNat) (1 : Nat)))])])
  (L_ref26_Named_2 K [PVal.ref (0 : Nat) (5 : Nat) (0 : Nat) (0 : Nat), PVal.own (1 : Nat), eI (0 : Int)]
    [AObj.row true (27 : Nat) (5 : Nat) [PVal.agg [PVal.str o00, PVal.sl Mode.fr 2 o01, PVal.sl Mode.fr 5 o02, PVal.sl Mode.fr 4 o03, PVal.sl Mode.fr 2 o04]], AObj.row false (3 : Nat) (1 : Nat) o1])) :
    L_ref26_Named_0 K [PVal.ref (0 : Nat) (5 : Nat) (0 : Nat) (0 : Nat), PVal.own (1 : Nat), eI i'] [AObj.row true (27 : Nat) (5 : Nat) [PVal.agg [PVal.str o00, PVal.sl Mode.fr 2 o01, PVal.sl Mode.fr 5 o02, PVal.sl Mode.fr 4 o03, PVal.sl Mode.fr 2 o04]], AObj.row false (3 : Nat) (1 : Nat) o1] :=
  r_of (n := 5) h (by kernel_rfl)
theorem r_ref26_Named_2 (K : PVal → List AObj → Prop) (i' : Int) (o00 : ByteArray) (o01 : List PVal) (o02 : List PVal) (o03 : List PVal) (o04 : List PVal) (o1 : List PVal)
    (h : br (decide (i' < (↑o02.length : Int)))
  ((((0 : Int) ≤ i' ∧ i' < (↑o02.length : Int)) ∧
    getP o02 i'.toNat =
    PVal.agg
    [PVal.str (asS (cellAt (getP o02 i'.toNat) (0 : Nat))), eI (asI (cellAt (getP o02 i'.toNat) (1 : Nat))), eI (asI (cellAt (getP o02 i'.toNat) (2 : Nat))),
    eI (asI (cellAt (getP o02 i'.toNat) (3 : Nat))), eI (asI (cellAt (getP o02 i'.toNat) (4 : Nat)))]) ∧
    (((0 : Int) ≤ i' ∧ i' < (↑o02.length : Int)) ∧
    getP o02 i'.toNat =
    PVal.agg
    [PVal.str (asS (cellAt (getP o02 i'.toNat) (0 : Nat))), eI (asI (cellAt (getP o02 i'.toNat) (1 : Nat))), eI (asI (cellAt (getP o02 i'.toNat) (2 : Nat))),
    eI (asI (cellAt (getP o02 i'.toNat) (3 : Nat))), eI (asI (cellAt (getP o02 i'.toNat) (4 : Nat)))]) ∧
    ((o1.length + (2 : Nat)) * (8 : Nat) ≤ (140737488355328 : Nat) ∧ o1.length + (2 : Nat) ≤ (9223372036854775807 : Nat)) ∧
    L_ref26_Named_2 K [PVal.ref (0 : Nat) (5 : Nat) (0 : Nat) (0 : Nat), PVal.own (1 : Nat), eI (IntKind.i64.wrap (i' + (1 : Int)))]
    [AObj.row true (27 : Nat) (5 : Nat) [PVal.agg [PVal.str o00, PVal.sl Mode.fr 2 o01, PVal.sl Mode.fr 5 o02, PVal.sl Mode.fr 4 o03, PVal.sl Mode.fr 2 o04]],
    AObj.row false (3 : Nat) (1 : Nat) (o1 ++ [eI (asI (cellAt (getP o02 i'.toNat) (3 : Nat))), eI (asI (cellAt (getP o02 i'.toNat) (4 : Nat)))])])
  (K (PVal.sl Mode.fr 1 o1) [])) :
    L_ref26_Named_2 K [PVal.ref (0 : Nat) (5 : Nat) (0 : Nat) (0 : Nat), PVal.own (1 : Nat), eI i'] [AObj.row true (27 : Nat) (5 : Nat) [PVal.agg [PVal.str o00, PVal.sl Mode.fr 2 o01, PVal.sl Mode.fr 5 o02, PVal.sl Mode.fr 4 o03, PVal.sl Mode.fr 2 o04]], AObj.row false (3 : Nat) (1 : Nat) o1] :=
  r_of (n := 5) h (by kernel_rfl)
def L_retime_net_arrivals_0 (K : PVal → List AObj → Prop) (vs : List PVal) (os : List AObj) : Prop := LoopP env0 0 47 0 (cd env0 47 [1, 1, 0, 1, 0, 0]) vs os (kat env0 5 0 47 [1, 1, 0, 1, 0] K [])
def L_retime_net_arrivals_2 (K : PVal → List AObj → Prop) (J0 : List PVal → List AObj → Prop) (vs : List PVal) (os : List AObj) : Prop := LoopP env0 0 47 2 (cd env0 47 [1, 1, 0, 1, 0, 0, 1, 1, 0, 0, 1, 1, 0, 1, 0, 0]) vs os (kat env0 5 0 47 [1, 1, 0, 1, 0, 0, 1, 1, 0, 0, 1, 1, 0, 1, 0] K [J0])
theorem e_retime_net_arrivals (K : PVal → List AObj → Prop) (n'NetlistName : ByteArray) (n'NetlistInputs : List PVal) (n'NetlistRegisters : List PVal) (n'NetlistNodes : List PVal) (n'NetlistOutputs : List PVal) (delays' : List PVal)
    (h : L_retime_net_arrivals_0 K [PVal.sl Mode.fr 1 delays', PVal.own (0 : Nat), PVal.sl Mode.fr 4 n'NetlistNodes, eI (↑n'NetlistNodes.length : Int), eI (0 : Int)] [AObj.row false (3 : Nat) (1 : Nat) []]) :
    CallP env0 47 [PVal.agg [PVal.str n'NetlistName, PVal.sl Mode.fr 2 n'NetlistInputs, PVal.sl Mode.fr 5 n'NetlistRegisters, PVal.sl Mode.fr 4 n'NetlistNodes, PVal.sl Mode.fr 2 n'NetlistOutputs], PVal.sl Mode.fr 1 delays'] [] K :=
  e_of (n := 6) h (by kernel_rfl)
theorem r_retime_net_arrivals_0 (K : PVal → List AObj → Prop) (delays' : List PVal) (x13 : List PVal) (x14 : Int) (x15 : Int) (o0 : List PVal)
    (h : br (decide (x15 < x14))
  ((((0 : Int) ≤ x15 ∧ x15 < (↑x13.length : Int)) ∧
    getP x13 x15.toNat =
    PVal.agg
    [eI (asI (cellAt (getP x13 x15.toNat) (0 : Nat))), eI (asI (cellAt (getP x13 x15.toNat) (1 : Nat))), PVal.sl Mode.fr 1 (asL (cellAt (getP x13 x15.toNat) (2 : Nat))),
    eI (asI (cellAt (getP x13 x15.toNat) (3 : Nat)))]) ∧
    L_retime_net_arrivals_2 K (L_retime_net_arrivals_0 K)
    [PVal.sl Mode.fr 1 delays', PVal.own (0 : Nat), PVal.ref (1 : Nat) (4 : Nat) (0 : Nat) (0 : Nat), eI (0 : Int), PVal.sl Mode.fr 4 x13, eI x14, eI x15,
    PVal.sl Mode.fr 1 (asL (cellAt (getP x13 x15.toNat) (2 : Nat))), eI (↑(asL (cellAt (getP x13 x15.toNat) (2 : Nat))).length : Int), eI (0 : Int)]
    [AObj.row false (3 : Nat) (1 : Nat) o0,
    AObj.row true (59 : Nat) (4 : Nat)
    [PVal.agg
    [eI (asI (cellAt (getP x13 x15.toNat) (0 : Nat))), eI (asI (cellAt (getP x13 x15.toNat) (1 : Nat))), PVal.sl Mode.fr 1 (asL (cellAt (getP x13 x15.toNat) (2 : Nat))),
    eI (asI (cellAt (getP x13 x15.toNat) (3 : Nat)))]]])
  (K (PVal.sl Mode.fr 1 o0) [])) :
    L_retime_net_arrivals_0 K [PVal.sl Mode.fr 1 delays', PVal.own (0 : Nat), PVal.sl Mode.fr 4 x13, eI x14, eI x15] [AObj.row false (3 : Nat) (1 : Nat) o0] :=
  r_of (n := 5) h (by kernel_rfl)
theorem r_retime_net_arrivals_2 (K : PVal → List AObj → Prop) (J0 : List PVal → List AObj → Prop) (delays' : List PVal) (most' : Int) (x13 : List PVal) (x14 : Int) (x15 : Int) (x20 : List PVal) (x21 : Int) (x22 : Int) (o0 : List PVal) (o10 : Int) (o11 : Int) (o12 : List PVal) (o13 : Int)
    (h : br (decide (x22 < x21))
  ((((0 : Int) ≤ x22 ∧ x22 < (↑x20.length : Int)) ∧ getP x20 x22.toNat = eI (asI (getP x20 x22.toNat))) ∧
    ((0 : Int) ≤ asI (getP x20 x22.toNat) ∧ asI (getP x20 x22.toNat) < (↑o0.length : Int)) ∧
    ((asI (getP x20 x22.toNat)).toNat < o0.length ∧ getP o0 (asI (getP x20 x22.toNat)).toNat = eI (asI (getP o0 (asI (getP x20 x22.toNat)).toNat))) ∧
    L_retime_net_arrivals_2 K J0
    [PVal.sl Mode.fr 1 delays', PVal.own (0 : Nat), PVal.ref (1 : Nat) (4 : Nat) (0 : Nat) (0 : Nat),
    eI (if asI (getP o0 (asI (getP x20 x22.toNat)).toNat) > most' then asI (getP o0 (asI (getP x20 x22.toNat)).toNat) else most'), PVal.sl Mode.fr 4 x13, eI x14, eI x15,
    PVal.sl Mode.fr 1 x20, eI x21, eI (IntKind.i64.wrap (x22 + (1 : Int)))]
    [AObj.row false (3 : Nat) (1 : Nat) o0, AObj.row true (59 : Nat) (4 : Nat) [PVal.agg [eI o10, eI o11, PVal.sl Mode.fr 1 o12, eI o13]]])
  ((((0 : Int) ≤ o10 ∧ o10 < (↑delays'.length : Int)) ∧ getP delays' o10.toNat = eI (asI (getP delays' o10.toNat))) ∧
    ((o0.length + (1 : Nat)) * (8 : Nat) ≤ (140737488355328 : Nat) ∧ o0.length + (1 : Nat) ≤ (9223372036854775807 : Nat)) ∧
    J0 [PVal.sl Mode.fr 1 delays', PVal.own (0 : Nat), PVal.sl Mode.fr 4 x13, eI x14, eI (IntKind.i64.wrap (x15 + (1 : Int)))]
    [AObj.row false (3 : Nat) (1 : Nat) (o0 ++ [eI (IntKind.i64.wrap (most' + asI (getP delays' o10.toNat)))])])) :
    L_retime_net_arrivals_2 K J0 [PVal.sl Mode.fr 1 delays', PVal.own (0 : Nat), PVal.ref (1 : Nat) (4 : Nat) (0 : Nat) (0 : Nat), eI most', PVal.sl Mode.fr 4 x13, eI x14, eI x15, PVal.sl Mode.fr 1 x20,
  eI x21, eI x22] [AObj.row false (3 : Nat) (1 : Nat) o0, AObj.row true (59 : Nat) (4 : Nat) [PVal.agg [eI o10, eI o11, PVal.sl Mode.fr 1 o12, eI o13]]] :=
  r_of (n := 5) h (by kernel_rfl)
def L_netlist_isName_0 (K : PVal → List AObj → Prop) (vs : List PVal) (os : List AObj) : Prop := LoopP env0 0 122 0 (cd env0 122 [1, 0, 1, 0, 0]) vs os (kat env0 5 0 122 [1, 0, 1, 0] K [])
theorem e_netlist_isName (K : PVal → List AObj → Prop) (s' : ByteArray)
    (h : L_netlist_isName_0 K [PVal.str s', eI (↑s'.size : Int), eI (0 : Int)] []) :
    CallP env0 122 [PVal.str s'] [] K :=
  e_of (n := 6) h (by kernel_rfl)
theorem r_netlist_isName_0 (K : PVal → List AObj → Prop) (s' : ByteArray) (x7 : Int) (x8 : Int)
    (h : br (decide (x8 < x7))
  (((0 : Int) ≤ x8 ∧ x8 < (↑s'.size : Int)) ∧
    br (decide ((97 : Int) ≤ IntKind.i64.wrap (byteAt s' x8.toNat)))
    (br (decide (IntKind.i64.wrap (byteAt s' x8.toNat) ≤ (122 : Int))) (L_netlist_isName_0 K [PVal.str s', eI x7, eI (IntKind.i64.wrap (x8 + (1 : Int)))] [])
    (br (decide ((65 : Int) ≤ IntKind.i64.wrap (byteAt s' x8.toNat)))
    (br (!decide (IntKind.i64.wrap (byteAt s' x8.toNat) ≤ (90 : Int)))
    (br (decide (x8 = (0 : Int))) (K (PVal.bool false) [])
    (br (!decide (IntKind.i64.wrap (byteAt s' x8.toNat) = (95 : Int)))
    (br (decide ((48 : Int) ≤ IntKind.i64.wrap (byteAt s' x8.toNat)))
    (br (!decide (IntKind.i64.wrap (byteAt s' x8.toNat) ≤ (57 : Int))) (K (PVal.bool false) []) (L_netlist_isName_0 K [PVal.str s', eI x7, eI (IntKind.i64.wrap (x8 + (1 : Int)))] [])) (K (PVal.bool false) []))
    (L_netlist_isName_0 K [PVal.str s', eI x7, eI (IntKind.i64.wrap (x8 + (1 : Int)))] [])))
    (L_netlist_isName_0 K [PVal.str s', eI x7, eI (IntKind.i64.wrap (x8 + (1 : Int)))] []))
    (br (decide (x8 = (0 : Int))) (K (PVal.bool false) [])
    (br (!decide (IntKind.i64.wrap (byteAt s' x8.toNat) = (95 : Int)))
    (br (decide ((48 : Int) ≤ IntKind.i64.wrap (byteAt s' x8.toNat)))
    (br (!decide (IntKind.i64.wrap (byteAt s' x8.toNat) ≤ (57 : Int))) (K (PVal.bool false) []) (L_netlist_isName_0 K [PVal.str s', eI x7, eI (IntKind.i64.wrap (x8 + (1 : Int)))] [])) (K (PVal.bool false) []))
    (L_netlist_isName_0 K [PVal.str s', eI x7, eI (IntKind.i64.wrap (x8 + (1 : Int)))] [])))))
    (br (decide ((65 : Int) ≤ IntKind.i64.wrap (byteAt s' x8.toNat)))
    (br (!decide (IntKind.i64.wrap (byteAt s' x8.toNat) ≤ (90 : Int)))
    (br (decide (x8 = (0 : Int))) (K (PVal.bool false) [])
    (br (!decide (IntKind.i64.wrap (byteAt s' x8.toNat) = (95 : Int)))
    (br (decide ((48 : Int) ≤ IntKind.i64.wrap (byteAt s' x8.toNat)))
    (br (!decide (IntKind.i64.wrap (byteAt s' x8.toNat) ≤ (57 : Int))) (K (PVal.bool false) []) (L_netlist_isName_0 K [PVal.str s', eI x7, eI (IntKind.i64.wrap (x8 + (1 : Int)))] [])) (K (PVal.bool false) []))
    (L_netlist_isName_0 K [PVal.str s', eI x7, eI (IntKind.i64.wrap (x8 + (1 : Int)))] [])))
    (L_netlist_isName_0 K [PVal.str s', eI x7, eI (IntKind.i64.wrap (x8 + (1 : Int)))] []))
    (br (decide (x8 = (0 : Int))) (K (PVal.bool false) [])
    (br (!decide (IntKind.i64.wrap (byteAt s' x8.toNat) = (95 : Int)))
    (br (decide ((48 : Int) ≤ IntKind.i64.wrap (byteAt s' x8.toNat)))
    (br (!decide (IntKind.i64.wrap (byteAt s' x8.toNat) ≤ (57 : Int))) (K (PVal.bool false) []) (L_netlist_isName_0 K [PVal.str s', eI x7, eI (IntKind.i64.wrap (x8 + (1 : Int)))] [])) (K (PVal.bool false) []))
    (L_netlist_isName_0 K [PVal.str s', eI x7, eI (IntKind.i64.wrap (x8 + (1 : Int)))] [])))))
  (br (decide ((1 : Int) ≤ (↑s'.size : Int))) (K (PVal.bool (decide ((↑s'.size : Int) ≤ (16 : Int)))) []) (K (PVal.bool false) []))) :
    L_netlist_isName_0 K [PVal.str s', eI x7, eI x8] [] :=
  r_of (n := 5) h (by kernel_rfl)
def L_netlist_leaves_0 (K : PVal → List AObj → Prop) (vs : List PVal) (os : List AObj) : Prop := LoopP env0 0 135 0 (cd env0 135 [1, 1, 0, 1, 0, 0]) vs os (kat env0 5 0 135 [1, 1, 0, 1, 0] K [])
def L_netlist_leaves_2 (K : PVal → List AObj → Prop) (vs : List PVal) (os : List AObj) : Prop := LoopP env0 0 135 2 (cd env0 135 [1, 1, 1, 0, 1, 0, 0]) vs os (kat env0 5 0 135 [1, 1, 1, 0, 1, 0] K [])
theorem e_netlist_leaves (K : PVal → List AObj → Prop) (n'Name : ByteArray) (n'Inputs : List PVal) (n'Registers : List PVal) (n'Nodes : List PVal) (n'Outputs : List PVal)
    (h : L_netlist_leaves_0 K [PVal.ref (0 : Nat) (5 : Nat) (0 : Nat) (0 : Nat), PVal.own (1 : Nat), PVal.sl Mode.fr 2 n'Inputs, eI (↑n'Inputs.length : Int), eI (0 : Int)]
  [AObj.row true (27 : Nat) (5 : Nat) [PVal.agg [PVal.str n'Name, PVal.sl Mode.fr 2 n'Inputs, PVal.sl Mode.fr 5 n'Registers, PVal.sl Mode.fr 4 n'Nodes, PVal.sl Mode.fr 2 n'Outputs]],
    AObj.row false (3 : Nat) (1 : Nat) []]) :
    CallP env0 135 [PVal.agg [PVal.str n'Name, PVal.sl Mode.fr 2 n'Inputs, PVal.sl Mode.fr 5 n'Registers, PVal.sl Mode.fr 4 n'Nodes, PVal.sl Mode.fr 2 n'Outputs]] [] K :=
  e_of (n := 6) h (by kernel_rfl)
theorem r_netlist_leaves_0 (K : PVal → List AObj → Prop) (x9 : List PVal) (x10 : Int) (x11 : Int) (o00 : ByteArray) (o01 : List PVal) (o02 : List PVal) (o03 : List PVal) (o04 : List PVal) (o1 : List PVal)
    (h : br (decide (x11 < x10))
  ((((0 : Int) ≤ x11 ∧ x11 < (↑x9.length : Int)) ∧ getP x9 x11.toNat = PVal.agg [PVal.str (asS (cellAt (getP x9 x11.toNat) (0 : Nat))), eI (asI (cellAt (getP x9 x11.toNat) (1 : Nat)))]) ∧
    ((o1.length + (1 : Nat)) * (8 : Nat) ≤ (140737488355328 : Nat) ∧ o1.length + (1 : Nat) ≤ (9223372036854775807 : Nat)) ∧
    L_netlist_leaves_0 K [PVal.ref (0 : Nat) (5 : Nat) (0 : Nat) (0 : Nat), PVal.own (1 : Nat), PVal.sl Mode.fr 2 x9, eI x10, eI (IntKind.i64.wrap (x11 + (1 : Int)))]
    [AObj.row true (27 : Nat) (5 : Nat) [PVal.agg [PVal.str o00, PVal.sl Mode.fr 2 o01, PVal.sl Mode.fr 5 o02, PVal.sl Mode.fr 4 o03, PVal.sl Mode.fr 2 o04]],
    AObj.row false (3 : Nat) (1 : Nat) (o1 ++ [eI (asI (cellAt (getP x9 x11.toNat) (1 : Nat)))])])
  (L_netlist_leaves_2 K [PVal.own (0 : Nat), PVal.sl Mode.fr 5 o02, eI (↑o02.length : Int), eI (0 : Int)] [AObj.row false (3 : Nat) (1 : Nat) o1])) :
    L_netlist_leaves_0 K [PVal.ref (0 : Nat) (5 : Nat) (0 : Nat) (0 : Nat), PVal.own (1 : Nat), PVal.sl Mode.fr 2 x9, eI x10, eI x11] [AObj.row true (27 : Nat) (5 : Nat) [PVal.agg [PVal.str o00, PVal.sl Mode.fr 2 o01, PVal.sl Mode.fr 5 o02, PVal.sl Mode.fr 4 o03, PVal.sl Mode.fr 2 o04]], AObj.row false (3 : Nat) (1 : Nat) o1] :=
  r_of (n := 5) h (by kernel_rfl)
theorem r_netlist_leaves_2 (K : PVal → List AObj → Prop) (x22 : List PVal) (x23 : Int) (x24 : Int) (o0 : List PVal)
    (h : br (decide (x24 < x23))
  ((((0 : Int) ≤ x24 ∧ x24 < (↑x22.length : Int)) ∧
    getP x22 x24.toNat =
    PVal.agg
    [PVal.str (asS (cellAt (getP x22 x24.toNat) (0 : Nat))), eI (asI (cellAt (getP x22 x24.toNat) (1 : Nat))), eI (asI (cellAt (getP x22 x24.toNat) (2 : Nat))),
    eI (asI (cellAt (getP x22 x24.toNat) (3 : Nat))), eI (asI (cellAt (getP x22 x24.toNat) (4 : Nat)))]) ∧
    ((o0.length + (1 : Nat)) * (8 : Nat) ≤ (140737488355328 : Nat) ∧ o0.length + (1 : Nat) ≤ (9223372036854775807 : Nat)) ∧
    L_netlist_leaves_2 K [PVal.own (0 : Nat), PVal.sl Mode.fr 5 x22, eI x23, eI (IntKind.i64.wrap (x24 + (1 : Int)))]
    [AObj.row false (3 : Nat) (1 : Nat) (o0 ++ [eI (asI (cellAt (getP x22 x24.toNat) (1 : Nat)))])])
  (K (PVal.sl Mode.fr 1 o0) [])) :
    L_netlist_leaves_2 K [PVal.own (0 : Nat), PVal.sl Mode.fr 5 x22, eI x23, eI x24] [AObj.row false (3 : Nat) (1 : Nat) o0] :=
  r_of (n := 5) h (by kernel_rfl)
def L_retime_first_0 (K : PVal → List AObj → Prop) (vs : List PVal) (os : List AObj) : Prop := LoopP env0 0 68 0 (cd env0 68 [1, 0, 1, 0, 0]) vs os (kat env0 5 0 68 [1, 0, 1, 0] K [])
theorem e_retime_first (K : PVal → List AObj → Prop) (l' : List PVal)
    (h : L_retime_first_0 K [PVal.sl Mode.fr 1 l', eI (↑l'.length : Int), eI (0 : Int)] []) :
    CallP env0 68 [PVal.sl Mode.fr 1 l'] [] K :=
  e_of (n := 6) h (by kernel_rfl)
theorem r_retime_first_0 (K : PVal → List AObj → Prop) (x5 : List PVal) (x6 : Int) (x7 : Int)
    (h : br (decide (x7 < x6))
  ((((0 : Int) ≤ x7 ∧ x7 < (↑x5.length : Int)) ∧ getP x5 x7.toNat = eI (asI (getP x5 x7.toNat))) ∧
    br (!decide (asI (getP x5 x7.toNat) = (0 : Int))) (K (eI (asI (getP x5 x7.toNat))) []) (L_retime_first_0 K [PVal.sl Mode.fr 1 x5, eI x6, eI (IntKind.i64.wrap (x7 + (1 : Int)))] []))
  (K (eI (0 : Int)) [])) :
    L_retime_first_0 K [PVal.sl Mode.fr 1 x5, eI x6, eI x7] [] :=
  r_of (n := 5) h (by kernel_rfl)
def L_netlist_first_0 (K : PVal → List AObj → Prop) (vs : List PVal) (os : List AObj) : Prop := LoopP env0 0 109 0 (cd env0 109 [1, 0, 1, 0, 0]) vs os (kat env0 5 0 109 [1, 0, 1, 0] K [])
theorem e_netlist_first (K : PVal → List AObj → Prop) (l' : List PVal)
    (h : L_netlist_first_0 K [PVal.sl Mode.fr 1 l', eI (↑l'.length : Int), eI (0 : Int)] []) :
    CallP env0 109 [PVal.sl Mode.fr 1 l'] [] K :=
  e_of (n := 6) h (by kernel_rfl)
theorem r_netlist_first_0 (K : PVal → List AObj → Prop) (x5 : List PVal) (x6 : Int) (x7 : Int)
    (h : br (decide (x7 < x6))
  ((((0 : Int) ≤ x7 ∧ x7 < (↑x5.length : Int)) ∧ getP x5 x7.toNat = eI (asI (getP x5 x7.toNat))) ∧
    br (!decide (asI (getP x5 x7.toNat) = (0 : Int))) (K (eI (asI (getP x5 x7.toNat))) []) (L_netlist_first_0 K [PVal.sl Mode.fr 1 x5, eI x6, eI (IntKind.i64.wrap (x7 + (1 : Int)))] []))
  (K (eI (0 : Int)) [])) :
    L_netlist_first_0 K [PVal.sl Mode.fr 1 x5, eI x6, eI x7] [] :=
  r_of (n := 5) h (by kernel_rfl)
def L_graph_first_0 (K : PVal → List AObj → Prop) (vs : List PVal) (os : List AObj) : Prop := LoopP env0 0 176 0 (cd env0 176 [1, 0, 1, 0, 0]) vs os (kat env0 5 0 176 [1, 0, 1, 0] K [])
theorem e_graph_first (K : PVal → List AObj → Prop) (l' : List PVal)
    (h : L_graph_first_0 K [PVal.sl Mode.fr 1 l', eI (↑l'.length : Int), eI (0 : Int)] []) :
    CallP env0 176 [PVal.sl Mode.fr 1 l'] [] K :=
  e_of (n := 6) h (by kernel_rfl)
theorem r_graph_first_0 (K : PVal → List AObj → Prop) (x5 : List PVal) (x6 : Int) (x7 : Int)
    (h : br (decide (x7 < x6))
  ((((0 : Int) ≤ x7 ∧ x7 < (↑x5.length : Int)) ∧ getP x5 x7.toNat = eI (asI (getP x5 x7.toNat))) ∧
    br (!decide (asI (getP x5 x7.toNat) = (0 : Int))) (K (eI (asI (getP x5 x7.toNat))) []) (L_graph_first_0 K [PVal.sl Mode.fr 1 x5, eI x6, eI (IntKind.i64.wrap (x7 + (1 : Int)))] []))
  (K (eI (0 : Int)) [])) :
    L_graph_first_0 K [PVal.sl Mode.fr 1 x5, eI x6, eI x7] [] :=
  r_of (n := 5) h (by kernel_rfl)
def L_slices_Equal_int_int_0 (K : PVal → List AObj → Prop) (vs : List PVal) (os : List AObj) : Prop := LoopP env0 0 101 0 (cd env0 101 [1, 1, 0, 1, 0, 0]) vs os (kat env0 5 0 101 [1, 1, 0, 1, 0] K [])
theorem e_slices_Equal_int_int (K : PVal → List AObj → Prop) (s1' : List PVal) (s2' : List PVal)
    (h : br (!decide ((↑s1'.length : Int) = (↑s2'.length : Int))) (K (PVal.bool false) []) (L_slices_Equal_int_int_0 K [PVal.sl Mode.fr 1 s1', PVal.sl Mode.fr 1 s2', eI (↑s1'.length : Int), eI (0 : Int)] [])) :
    CallP env0 101 [PVal.sl Mode.fr 1 s1', PVal.sl Mode.fr 1 s2'] [] K :=
  e_of (n := 6) h (by kernel_rfl)
theorem r_slices_Equal_int_int_0 (K : PVal → List AObj → Prop) (s1' : List PVal) (s2' : List PVal) (x12 : Int) (x13 : Int)
    (h : br (decide (x13 < x12))
  ((((0 : Int) ≤ x13 ∧ x13 < (↑s1'.length : Int)) ∧ getP s1' x13.toNat = eI (asI (getP s1' x13.toNat))) ∧
    (((0 : Int) ≤ x13 ∧ x13 < (↑s2'.length : Int)) ∧ getP s2' x13.toNat = eI (asI (getP s2' x13.toNat))) ∧
    br (!decide (asI (getP s1' x13.toNat) = asI (getP s2' x13.toNat))) (K (PVal.bool false) [])
    (L_slices_Equal_int_int_0 K [PVal.sl Mode.fr 1 s1', PVal.sl Mode.fr 1 s2', eI x12, eI (IntKind.i64.wrap (x13 + (1 : Int)))] []))
  (K (PVal.bool true) [])) :
    L_slices_Equal_int_int_0 K [PVal.sl Mode.fr 1 s1', PVal.sl Mode.fr 1 s2', eI x12, eI x13] [] :=
  r_of (n := 5) h (by kernel_rfl)
theorem e_graph_operations (K : PVal → List AObj → Prop)
    (h : K
  (PVal.agg
    [PVal.str { data := #[OfNat.ofNat (99 : Nat), OfNat.ofNat (111 : Nat), OfNat.ofNat (110 : Nat), OfNat.ofNat (115 : Nat), OfNat.ofNat (116 : Nat)] }, eI (0 : Int), PVal.bool true, PVal.fn (202 : Nat) [], PVal.fn (201 : Nat) [],
    PVal.str { data := #[OfNat.ofNat (108 : Nat), OfNat.ofNat (101 : Nat), OfNat.ofNat (97 : Nat), OfNat.ofNat (102 : Nat)] }, eI (0 : Int), PVal.bool true, PVal.fn (202 : Nat) [], PVal.fn (201 : Nat) [],
    PVal.str { data := #[OfNat.ofNat (110 : Nat), OfNat.ofNat (111 : Nat), OfNat.ofNat (116 : Nat)] }, eI (1 : Int), PVal.bool false, PVal.fn (203 : Nat) [], PVal.fn (204 : Nat) [],
    PVal.str { data := #[OfNat.ofNat (97 : Nat), OfNat.ofNat (110 : Nat), OfNat.ofNat (100 : Nat)] }, eI (2 : Int), PVal.bool false, PVal.fn (203 : Nat) [], PVal.fn (235 : Nat) [PVal.fptr false (PVal.fn (207 : Nat) [])],
    PVal.str { data := #[OfNat.ofNat (111 : Nat), OfNat.ofNat (114 : Nat)] }, eI (2 : Int), PVal.bool false, PVal.fn (203 : Nat) [], PVal.fn (235 : Nat) [PVal.fptr false (PVal.fn (208 : Nat) [])],
    PVal.str { data := #[OfNat.ofNat (120 : Nat), OfNat.ofNat (111 : Nat), OfNat.ofNat (114 : Nat)] }, eI (2 : Int), PVal.bool false, PVal.fn (203 : Nat) [], PVal.fn (235 : Nat) [PVal.fptr false (PVal.fn (209 : Nat) [])],
    PVal.str { data := #[OfNat.ofNat (97 : Nat), OfNat.ofNat (100 : Nat), OfNat.ofNat (100 : Nat)] }, eI (2 : Int), PVal.bool false, PVal.fn (203 : Nat) [], PVal.fn (235 : Nat) [PVal.fptr false (PVal.fn (210 : Nat) [])],
    PVal.str { data := #[OfNat.ofNat (115 : Nat), OfNat.ofNat (117 : Nat), OfNat.ofNat (98 : Nat)] }, eI (2 : Int), PVal.bool false, PVal.fn (203 : Nat) [], PVal.fn (235 : Nat) [PVal.fptr false (PVal.fn (211 : Nat) [])],
    PVal.str { data := #[OfNat.ofNat (109 : Nat), OfNat.ofNat (117 : Nat), OfNat.ofNat (108 : Nat)] }, eI (2 : Int), PVal.bool false, PVal.fn (203 : Nat) [], PVal.fn (235 : Nat) [PVal.fptr false (PVal.fn (212 : Nat) [])],
    PVal.str { data := #[OfNat.ofNat (101 : Nat), OfNat.ofNat (113 : Nat)] }, eI (2 : Int), PVal.bool false, PVal.fn (236 : Nat) [], PVal.fn (237 : Nat) [PVal.fptr false (PVal.fn (214 : Nat) [])],
    PVal.str { data := #[OfNat.ofNat (108 : Nat), OfNat.ofNat (116 : Nat)] }, eI (2 : Int), PVal.bool false, PVal.fn (236 : Nat) [], PVal.fn (237 : Nat) [PVal.fptr false (PVal.fn (215 : Nat) [])],
    PVal.str { data := #[OfNat.ofNat (115 : Nat), OfNat.ofNat (108 : Nat), OfNat.ofNat (116 : Nat)] }, eI (2 : Int), PVal.bool false, PVal.fn (236 : Nat) [], PVal.fn (237 : Nat) [PVal.fptr false (PVal.fn (216 : Nat) [])],
    PVal.str { data := #[OfNat.ofNat (109 : Nat), OfNat.ofNat (117 : Nat), OfNat.ofNat (120 : Nat)] }, eI (3 : Int), PVal.bool false, PVal.fn (218 : Nat) [], PVal.fn (219 : Nat) [],
    PVal.str { data := #[OfNat.ofNat (106 : Nat), OfNat.ofNat (111 : Nat), OfNat.ofNat (105 : Nat), OfNat.ofNat (110 : Nat)] }, eI (2 : Int), PVal.bool false, PVal.fn (220 : Nat) [], PVal.fn (221 : Nat) [],
    PVal.str { data := #[OfNat.ofNat (115 : Nat), OfNat.ofNat (108 : Nat), OfNat.ofNat (105 : Nat), OfNat.ofNat (99 : Nat), OfNat.ofNat (101 : Nat)] }, eI (1 : Int), PVal.bool true, PVal.fn (222 : Nat) [], PVal.fn (223 : Nat) [],
    PVal.str { data := #[OfNat.ofNat (122 : Nat), OfNat.ofNat (101 : Nat), OfNat.ofNat (120 : Nat), OfNat.ofNat (116 : Nat)] }, eI (1 : Int), PVal.bool false, PVal.fn (224 : Nat) [], PVal.fn (225 : Nat) [],
    PVal.str { data := #[OfNat.ofNat (115 : Nat), OfNat.ofNat (101 : Nat), OfNat.ofNat (120 : Nat), OfNat.ofNat (116 : Nat)] }, eI (1 : Int), PVal.bool false, PVal.fn (224 : Nat) [], PVal.fn (226 : Nat) [],
    PVal.str { data := #[OfNat.ofNat (115 : Nat), OfNat.ofNat (104 : Nat), OfNat.ofNat (108 : Nat)] }, eI (2 : Int), PVal.bool false, PVal.fn (227 : Nat) [], PVal.fn (228 : Nat) [],
    PVal.str { data := #[OfNat.ofNat (115 : Nat), OfNat.ofNat (104 : Nat), OfNat.ofNat (114 : Nat)] }, eI (2 : Int), PVal.bool false, PVal.fn (227 : Nat) [], PVal.fn (229 : Nat) []])
  []) :
    CallP env0 173 [] [] K :=
  e_of (n := 6) h (by kernel_rfl)
def L_slices_IndexFunc_int_int_odd_0 (K : PVal → List AObj → Prop) (vs : List PVal) (os : List AObj) : Prop := LoopP env0 0 230 0 (cd env0 230 [1, 0, 1, 0, 0]) vs os (kat env0 5 0 230 [1, 0, 1, 0] K [])
theorem e_slices_IndexFunc_int_int_odd (K : PVal → List AObj → Prop) (s : List PVal) (i : Int)
    (h : L_slices_IndexFunc_int_int_odd_0 K [PVal.sl Mode.fr 1 s, PVal.fn (179 : Nat) [PVal.fptr false (eI i)], eI (↑s.length : Int), eI (0 : Int)] []) :
    CallP env0 230 [PVal.sl Mode.fr 1 s, PVal.fn (179 : Nat) [PVal.fptr false (eI i)]] [] K :=
  e_of (n := 6) h (by kernel_rfl)
theorem r_slices_IndexFunc_int_int_odd_0 (K : PVal → List AObj → Prop) (s' : List PVal) (f' : Int) (x7 : Int) (x8 : Int)
    (h : br (decide (x8 < x7))
  ((((0 : Int) ≤ x8 ∧ x8 < (↑s'.length : Int)) ∧ getP s' x8.toNat = eI (asI (getP s' x8.toNat))) ∧
    br (decide ((0 : Int) ≤ asI (getP s' x8.toNat)))
    (br (!decide (asI (getP s' x8.toNat) ≤ IntKind.i64.wrap (f' - (1 : Int)))) (K (eI x8) [])
    (L_slices_IndexFunc_int_int_odd_0 K [PVal.sl Mode.fr 1 s', PVal.fn (179 : Nat) [PVal.fptr false (eI f')], eI x7, eI (IntKind.i64.wrap (x8 + (1 : Int)))] []))
    (K (eI x8) []))
  (K (eI (-1 : Int)) [])) :
    L_slices_IndexFunc_int_int_odd_0 K [PVal.sl Mode.fr 1 s', PVal.fn (179 : Nat) [PVal.fptr false (eI f')], eI x7, eI x8] [] :=
  r_of (n := 5) h (by kernel_rfl)
def L_slices_IndexFunc_int_int_same_0 (K : PVal → List AObj → Prop) (vs : List PVal) (os : List AObj) : Prop := LoopP env0 0 230 0 (cd env0 230 [1, 0, 1, 0, 0]) vs os (kat env0 5 0 230 [1, 0, 1, 0] K [])
theorem e_slices_IndexFunc_int_int_same (K : PVal → List AObj → Prop) (s : List PVal) (i : Int)
    (h : L_slices_IndexFunc_int_int_same_0 K [PVal.sl Mode.fr 1 s, PVal.fn (234 : Nat) [PVal.fptr false (eI i)], eI (↑s.length : Int), eI (0 : Int)] []) :
    CallP env0 230 [PVal.sl Mode.fr 1 s, PVal.fn (234 : Nat) [PVal.fptr false (eI i)]] [] K :=
  e_of (n := 6) h (by kernel_rfl)
theorem r_slices_IndexFunc_int_int_same_0 (K : PVal → List AObj → Prop) (s' : List PVal) (f' : Int) (x7 : Int) (x8 : Int)
    (h : br (decide (x8 < x7))
  ((((0 : Int) ≤ x8 ∧ x8 < (↑s'.length : Int)) ∧ getP s' x8.toNat = eI (asI (getP s' x8.toNat))) ∧
    br (!decide (asI (getP s' x8.toNat) = f')) (K (eI x8) [])
    (L_slices_IndexFunc_int_int_same_0 K [PVal.sl Mode.fr 1 s', PVal.fn (234 : Nat) [PVal.fptr false (eI f')], eI x7, eI (IntKind.i64.wrap (x8 + (1 : Int)))] []))
  (K (eI (-1 : Int)) [])) :
    L_slices_IndexFunc_int_int_same_0 K [PVal.sl Mode.fr 1 s', PVal.fn (234 : Nat) [PVal.fptr false (eI f')], eI x7, eI x8] [] :=
  r_of (n := 5) h (by kernel_rfl)
def L_retime_each_int_delays_0 (K : PVal → List AObj → Prop) (vs : List PVal) (os : List AObj) : Prop := LoopP env0 0 42 0 (cd env0 42 [1, 0, 1, 0, 0]) vs os (kat env0 5 0 42 [1, 0, 1, 0] K [])
theorem e_retime_each_int_delays (K : PVal → List AObj → Prop) (s : List PVal)
    (h : L_retime_each_int_delays_0 K [PVal.fn (43 : Nat) [], PVal.sl Mode.fr 1 s, eI (↑s.length : Int), eI (0 : Int)] []) :
    CallP env0 42 [PVal.sl Mode.fr 1 s, PVal.fn (43 : Nat) []] [] K :=
  e_of (n := 6) h (by kernel_rfl)
theorem r_retime_each_int_delays_0 (K : PVal → List AObj → Prop) (x9 : List PVal) (x10 : Int) (x11 : Int)
    (h : br (decide (x11 < x10))
  ((((0 : Int) ≤ x11 ∧ x11 < (↑x9.length : Int)) ∧ getP x9 x11.toNat = eI (asI (getP x9 x11.toNat))) ∧
    br (decide ((0 : Int) ≤ asI (getP x9 x11.toNat)))
    (br (decide (asI (getP x9 x11.toNat) ≤ (1000 : Int))) (L_retime_each_int_delays_0 K [PVal.fn (43 : Nat) [], PVal.sl Mode.fr 1 x9, eI x10, eI (IntKind.i64.wrap (x11 + (1 : Int)))] [])
    (K (PVal.tup [eI x11, eI (2 : Int)]) []))
    (K (PVal.tup [eI x11, eI (2 : Int)]) []))
  (K (PVal.tup [eI (0 : Int), eI (0 : Int)]) [])) :
    L_retime_each_int_delays_0 K [PVal.fn (43 : Nat) [], PVal.sl Mode.fr 1 x9, eI x10, eI x11] [] :=
  r_of (n := 5) h (by kernel_rfl)
def L_graph_each_int_widths_0 (K : PVal → List AObj → Prop) (vs : List PVal) (os : List AObj) : Prop := LoopP env0 0 169 0 (cd env0 169 [1, 0, 1, 0, 0]) vs os (kat env0 5 0 169 [1, 0, 1, 0] K [])
theorem e_graph_each_int_widths (K : PVal → List AObj → Prop) (s : List PVal)
    (h : L_graph_each_int_widths_0 K [PVal.fn (170 : Nat) [], PVal.sl Mode.fr 1 s, eI (↑s.length : Int), eI (0 : Int)] []) :
    CallP env0 169 [PVal.sl Mode.fr 1 s, PVal.fn (170 : Nat) []] [] K :=
  e_of (n := 6) h (by kernel_rfl)
theorem r_graph_each_int_widths_0 (K : PVal → List AObj → Prop) (x9 : List PVal) (x10 : Int) (x11 : Int)
    (h : br (decide (x11 < x10))
  ((((0 : Int) ≤ x11 ∧ x11 < (↑x9.length : Int)) ∧ getP x9 x11.toNat = eI (asI (getP x9 x11.toNat))) ∧
    br (decide ((1 : Int) ≤ asI (getP x9 x11.toNat)))
    (br (decide (asI (getP x9 x11.toNat) ≤ (16 : Int))) (L_graph_each_int_widths_0 K [PVal.fn (170 : Nat) [], PVal.sl Mode.fr 1 x9, eI x10, eI (IntKind.i64.wrap (x11 + (1 : Int)))] [])
    (K (PVal.tup [eI x11, eI (2 : Int)]) []))
    (K (PVal.tup [eI x11, eI (2 : Int)]) []))
  (K (PVal.tup [eI (0 : Int), eI (0 : Int)]) [])) :
    L_graph_each_int_widths_0 K [PVal.fn (170 : Nat) [], PVal.sl Mode.fr 1 x9, eI x10, eI x11] [] :=
  r_of (n := 5) h (by kernel_rfl)
def L_slices_MaxFunc_int_int_path_0 (K : PVal → List AObj → Prop) (vs : List PVal) (os : List AObj) : Prop := LoopP env0 0 54 0 (cd env0 54 [1, 1, 1, 0, 1, 0, 0]) vs os (kat env0 5 0 54 [1, 1, 1, 0, 1, 0] K [])
theorem e_slices_MaxFunc_int_int_path (K : PVal → List AObj → Prop) (s : List PVal) (l : List PVal)
    (h : br (decide ((↑s.length : Int) < (1 : Int))) (Fail ["operation"])
  ((((0 : Int) ≤ (0 : Int) ∧ (0 : Int) < (↑s.length : Int)) ∧ getP s (0 : Nat) = eI (asI (getP s (0 : Nat)))) ∧
    L_slices_MaxFunc_int_int_path_0 K [PVal.sl Mode.fr 1 s, PVal.fn (53 : Nat) [PVal.fptr false (PVal.sl Mode.fr 1 l)], eI (asI (getP s (0 : Nat))), eI (1 : Int)] [])) :
    CallP env0 54 [PVal.sl Mode.fr 1 s, PVal.fn (53 : Nat) [PVal.fptr false (PVal.sl Mode.fr 1 l)]] [] K :=
  e_of (n := 6) h (by kernel_rfl)
theorem r_slices_MaxFunc_int_int_path_0 (K : PVal → List AObj → Prop) (x' : List PVal) (cmp' : List PVal) (m' : Int) (i' : Int)
    (h : br (decide (i' < (↑x'.length : Int)))
  ((((0 : Int) ≤ i' ∧ i' < (↑x'.length : Int)) ∧ getP x' i'.toNat = eI (asI (getP x' i'.toNat))) ∧
    (((0 : Int) ≤ asI (getP x' i'.toNat) ∧ asI (getP x' i'.toNat) < (↑cmp'.length : Int)) ∧ getP cmp' (asI (getP x' i'.toNat)).toNat = eI (asI (getP cmp' (asI (getP x' i'.toNat)).toNat))) ∧
    (((0 : Int) ≤ m' ∧ m' < (↑cmp'.length : Int)) ∧ getP cmp' m'.toNat = eI (asI (getP cmp' m'.toNat))) ∧
    br (decide (IntKind.i64.wrap (asI (getP cmp' (asI (getP x' i'.toNat)).toNat) - asI (getP cmp' m'.toNat)) > (0 : Int)))
    ((((0 : Int) ≤ i' ∧ i' < (↑x'.length : Int)) ∧ getP x' i'.toNat = eI (asI (getP x' i'.toNat))) ∧
    L_slices_MaxFunc_int_int_path_0 K [PVal.sl Mode.fr 1 x', PVal.fn (53 : Nat) [PVal.fptr false (PVal.sl Mode.fr 1 cmp')], eI (asI (getP x' i'.toNat)), eI (IntKind.i64.wrap (i' + (1 : Int)))] [])
    (L_slices_MaxFunc_int_int_path_0 K [PVal.sl Mode.fr 1 x', PVal.fn (53 : Nat) [PVal.fptr false (PVal.sl Mode.fr 1 cmp')], eI m', eI (IntKind.i64.wrap (i' + (1 : Int)))] []))
  (K (eI m') [])) :
    L_slices_MaxFunc_int_int_path_0 K [PVal.sl Mode.fr 1 x', PVal.fn (53 : Nat) [PVal.fptr false (PVal.sl Mode.fr 1 cmp')], eI m', eI i'] [] :=
  r_of (n := 5) h (by kernel_rfl)
def L_slices_Reverse_int_int_0 (K : PVal → List AObj → Prop) (vs : List PVal) (os : List AObj) : Prop := LoopP env0 1 55 0 (cd env0 55 [1, 0, 0]) vs os (kat env0 5 1 55 [1, 0] K [])
theorem e_slices_Reverse_int_int (K : PVal → List AObj → Prop) (s : List PVal)
    (h : L_slices_Reverse_int_int_0 K [PVal.own (0 : Nat), eI (0 : Int), eI (IntKind.i64.wrap ((↑s.length : Int) - (1 : Int)))] [AObj.row false (3 : Nat) (1 : Nat) s]) :
    CallP env0 55 [PVal.own (0 : Nat)] [AObj.row false (3 : Nat) (1 : Nat) s] K :=
  e_of (n := 6) h (by kernel_rfl)
theorem r_slices_Reverse_int_int_0 (K : PVal → List AObj → Prop) (i' : Int) (j' : Int) (o0 : List PVal)
    (h : br (decide (i' < j'))
  (((0 : Int) ≤ j' ∧ j' < (↑o0.length : Int)) ∧
    (j'.toNat < o0.length ∧ getP o0 j'.toNat = eI (asI (getP o0 j'.toNat))) ∧
    ((0 : Int) ≤ i' ∧ i' < (↑o0.length : Int)) ∧
    (i'.toNat < o0.length ∧ getP o0 i'.toNat = eI (asI (getP o0 i'.toNat))) ∧
    ((0 : Int) ≤ i' ∧ i' < (↑o0.length : Int)) ∧
    (i'.toNat < o0.length ∧ getP o0 i'.toNat = eI (asI (getP o0 i'.toNat))) ∧
    ((0 : Int) ≤ j' ∧ j' < (↑(o0.set i'.toNat (eI (asI (getP o0 j'.toNat)))).length : Int)) ∧
    (j'.toNat < (o0.set i'.toNat (eI (asI (getP o0 j'.toNat)))).length ∧
    getP (o0.set i'.toNat (eI (asI (getP o0 j'.toNat)))) j'.toNat = eI (asI (getP (o0.set i'.toNat (eI (asI (getP o0 j'.toNat)))) j'.toNat))) ∧
    L_slices_Reverse_int_int_0 K [PVal.own (0 : Nat), eI (IntKind.i64.wrap (i' + (1 : Int))), eI (IntKind.i64.wrap (j' - (1 : Int)))]
    [AObj.row false (3 : Nat) (1 : Nat) ((o0.set i'.toNat (eI (asI (getP o0 j'.toNat)))).set j'.toNat (eI (asI (getP o0 i'.toNat))))])
  (K (PVal.tup []) [AObj.row false (3 : Nat) (1 : Nat) o0])) :
    L_slices_Reverse_int_int_0 K [PVal.own (0 : Nat), eI i', eI j'] [AObj.row false (3 : Nat) (1 : Nat) o0] :=
  r_of (n := 5) h (by kernel_rfl)
end Go.Pvm.Seat
