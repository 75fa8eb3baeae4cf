/- RetimePeriods (second form, tied card): the law answers true at every netlist and list of delays whose reading is of bulk at most 1048576, and the input reads as it did; no further condition. This text: part Ce (R2 P2 O3 R3 P3 O4). -/
import Derived.Test.YtkajgpdokbinlaaGreatDoorBa
import Derived.Test.YtkajgpdokbinlaaGreatDoorCd
set_option linter.unusedVariables false
set_option linter.unusedSimpArgs false
set_option linter.unnecessarySimpa false
set_option maxHeartbeats 4000000
namespace Go.Pvm.Seat
open Go
def L_base_NodesErr_0 (K : PVal → List AObj → Prop) (vs : List PVal) (os : List AObj) : Prop := LoopP env2 0 89 0 (cd env2 89 [1, 1, 0, 1, 0, 0]) vs os (kat env2 5 0 89 [1, 1, 0, 1, 0] K [])
theorem e_base_NodesErr (K : PVal → List AObj → Prop) (leaves' : List PVal) (nodes' : List PVal)
    (h : br (decide ((↑nodes'.length : Int) > (400 : Int))) (K (PVal.tup [eI (0 : Int), eI (8 : Int)]) []) (L_base_NodesErr_0 K [PVal.sl Mode.fr 1 leaves', PVal.sl Mode.fr 4 nodes', eI (0 : Int)] [])) :
    CallP env2 89 [PVal.sl Mode.fr 1 leaves', PVal.sl Mode.fr 4 nodes'] [] K :=
  e_of (n := 6) h (by kernel_rfl)
theorem r_base_NodesErr_0 (K : PVal → List AObj → Prop) (leaves' : List PVal) (nodes' : List PVal) (i' : Int)
    (h : br (decide (i' < (↑nodes'.length : Int)))
  ((sp_base_nodeErr [PVal.sl Mode.fr 1 leaves', PVal.sl Mode.fr 4 nodes', eI i'] []).pre ∧
    br (!decide (nodeE (dInts leaves') (List.map dNode nodes') i'.toNat ((List.map dNode nodes').getD i'.toNat default) = (0 : Int)))
    (K (PVal.tup [eI i', eI (nodeE (dInts leaves') (List.map dNode nodes') i'.toNat ((List.map dNode nodes').getD i'.toNat default))]) [])
    (L_base_NodesErr_0 K [PVal.sl Mode.fr 1 leaves', PVal.sl Mode.fr 4 nodes', eI (IntKind.i64.wrap (i' + (1 : Int)))] []))
  (K (PVal.tup [eI (0 : Int), eI (0 : Int)]) [])) :
    L_base_NodesErr_0 K [PVal.sl Mode.fr 1 leaves', PVal.sl Mode.fr 4 nodes', eI i'] [] :=
  r_of (n := 5) h (by kernel_rfl)
def L_base_SameNetlist_0 (K : PVal → List AObj → Prop) (vs : List PVal) (os : List AObj) : Prop := LoopP env2 0 25 0 (cd env2 25 [1, 1, 0, 1, 0, 0]) vs os (kat env2 5 0 25 [1, 1, 0, 1, 0] K [])
theorem e_base_SameNetlist (K : PVal → List AObj → Prop) (a'Name : ByteArray) (a'Inputs : List PVal) (a'Registers : List PVal) (a'Nodes : List PVal) (a'Outputs : List PVal) (b'Name : ByteArray) (b'Inputs : List PVal) (b'Registers : List PVal) (b'Nodes : List PVal) (b'Outputs : List PVal)
    (h : br (!decide (a'Name = b'Name)) (K (PVal.bool false) [])
  ((sp_base_SamePorts [PVal.sl Mode.fr 2 a'Inputs, PVal.sl Mode.fr 2 b'Inputs] []).pre ∧
    br (!decide (List.map dPort a'Inputs = List.map dPort b'Inputs)) (K (PVal.bool false) [])
    (br (!decide ((↑a'Registers.length : Int) = (↑b'Registers.length : Int))) (K (PVal.bool false) [])
    ((sp_base_SameNodes [PVal.sl Mode.fr 4 a'Nodes, PVal.sl Mode.fr 4 b'Nodes] []).pre ∧
    br (!decide (List.map dNode a'Nodes = List.map dNode b'Nodes)) (K (PVal.bool false) [])
    ((sp_base_SameOutputs [PVal.sl Mode.fr 2 a'Outputs, PVal.sl Mode.fr 2 b'Outputs] []).pre ∧
    br (!decide (List.map dOutp a'Outputs = List.map dOutp b'Outputs)) (K (PVal.bool false) [])
    (L_base_SameNetlist_0 K [PVal.ref (0 : Nat) (5 : Nat) (0 : Nat) (0 : Nat), PVal.ref (1 : Nat) (5 : Nat) (0 : Nat) (0 : Nat), eI (0 : Int)]
    [AObj.row true (27 : Nat) (5 : Nat) [PVal.agg [PVal.str a'Name, PVal.sl Mode.fr 2 a'Inputs, PVal.sl Mode.fr 5 a'Registers, PVal.sl Mode.fr 4 a'Nodes, PVal.sl Mode.fr 2 a'Outputs]],
    AObj.row true (27 : Nat) (5 : Nat) [PVal.agg [PVal.str b'Name, PVal.sl Mode.fr 2 b'Inputs, PVal.sl Mode.fr 5 b'Registers, PVal.sl Mode.fr 4 b'Nodes, PVal.sl Mode.fr 2 b'Outputs]]])))))) :
    CallP env2 25 [PVal.agg [PVal.str a'Name, PVal.sl Mode.fr 2 a'Inputs, PVal.sl Mode.fr 5 a'Registers, PVal.sl Mode.fr 4 a'Nodes, PVal.sl Mode.fr 2 a'Outputs],
  PVal.agg [PVal.str b'Name, PVal.sl Mode.fr 2 b'Inputs, PVal.sl Mode.fr 5 b'Registers, PVal.sl Mode.fr 4 b'Nodes, PVal.sl Mode.fr 2 b'Outputs]] [] K :=
  e_of (n := 6) h (by kernel_rfl)
theorem r_base_SameNetlist_0 (K : PVal → List AObj → Prop) (i' : Int) (o00 : ByteArray) (o01 : List PVal) (o02 : List PVal) (o03 : List PVal) (o04 : List PVal) (o10 : ByteArray) (o11 : List PVal) (o12 : List PVal) (o13 : List PVal) (o14 : List PVal)
    (h : br (decide (i' < (↑o02.length : Int)))
  ((((0 : Int) ≤ i' ∧ i' < (↑o02.length : Int)) ∧
    getP o02 i'.toNat =
    PVal.agg
    [PVal.str (asS (cellAt (getP o02 i'.toNat) (0 : Nat))), eI (asI (cellAt (getP o02 i'.toNat) (1 : Nat))), eI (asI (cellAt (getP o02 i'.toNat) (2 : Nat))),
    eI (asI (cellAt (getP o02 i'.toNat) (3 : Nat))), eI (asI (cellAt (getP o02 i'.toNat) (4 : Nat)))]) ∧
    (((0 : Int) ≤ i' ∧ i' < (↑o12.length : Int)) ∧
    getP o12 i'.toNat =
    PVal.agg
    [PVal.str (asS (cellAt (getP o12 i'.toNat) (0 : Nat))), eI (asI (cellAt (getP o12 i'.toNat) (1 : Nat))), eI (asI (cellAt (getP o12 i'.toNat) (2 : Nat))),
    eI (asI (cellAt (getP o12 i'.toNat) (3 : Nat))), eI (asI (cellAt (getP o12 i'.toNat) (4 : Nat)))]) ∧
    br
    (!(decide (asS (cellAt (getP o02 i'.toNat) (0 : Nat)) = asS (cellAt (getP o12 i'.toNat) (0 : Nat))) &&
    (decide (asI (cellAt (getP o02 i'.toNat) (1 : Nat)) = asI (cellAt (getP o12 i'.toNat) (1 : Nat))) &&
    (decide (asI (cellAt (getP o02 i'.toNat) (2 : Nat)) = asI (cellAt (getP o12 i'.toNat) (2 : Nat))) &&
    (decide (asI (cellAt (getP o02 i'.toNat) (3 : Nat)) = asI (cellAt (getP o12 i'.toNat) (3 : Nat))) && (decide (asI (cellAt (getP o02 i'.toNat) (4 : Nat)) = asI (cellAt (getP o12 i'.toNat) (4 : Nat))) && true))))))
    (K (PVal.bool false) [])
    (L_base_SameNetlist_0 K [PVal.ref (0 : Nat) (5 : Nat) (0 : Nat) (0 : Nat), PVal.ref (1 : Nat) (5 : Nat) (0 : Nat) (0 : Nat), eI (IntKind.i64.wrap (i' + (1 : Int)))]
    [AObj.row true (27 : Nat) (5 : Nat) [PVal.agg [PVal.str o00, PVal.sl Mode.fr 2 o01, PVal.sl Mode.fr 5 o02, PVal.sl Mode.fr 4 o03, PVal.sl Mode.fr 2 o04]],
    AObj.row true (27 : Nat) (5 : Nat) [PVal.agg [PVal.str o10, PVal.sl Mode.fr 2 o11, PVal.sl Mode.fr 5 o12, PVal.sl Mode.fr 4 o13, PVal.sl Mode.fr 2 o14]]]))
  (K (PVal.bool true) [])) :
    L_base_SameNetlist_0 K [PVal.ref (0 : Nat) (5 : Nat) (0 : Nat) (0 : Nat), PVal.ref (1 : Nat) (5 : Nat) (0 : Nat) (0 : Nat), eI i'] [AObj.row true (27 : Nat) (5 : Nat) [PVal.agg [PVal.str o00, PVal.sl Mode.fr 2 o01, PVal.sl Mode.fr 5 o02, PVal.sl Mode.fr 4 o03, PVal.sl Mode.fr 2 o04]],
  AObj.row true (27 : Nat) (5 : Nat) [PVal.agg [PVal.str o10, PVal.sl Mode.fr 2 o11, PVal.sl Mode.fr 5 o12, PVal.sl Mode.fr 4 o13, PVal.sl Mode.fr 2 o14]]] :=
  r_of (n := 5) h (by kernel_rfl)
def L_ref26_Path_0 (K : PVal → List AObj → Prop) (vs : List PVal) (os : List AObj) : Prop := LoopP env2 0 22 0 (cd env2 22 [1, 1, 1, 0, 1, 0, 0]) vs os (kat env2 5 0 22 [1, 1, 1, 0, 1, 0] K [])
def L_ref26_Path_2 (K : PVal → List AObj → Prop) (vs : List PVal) (os : List AObj) : Prop := LoopP env2 0 22 2 (cd env2 22 [1, 1, 1, 1, 1, 0, 0, 0]) vs os (kat env2 5 0 22 [1, 1, 1, 1, 1, 0, 0] K [])
def L_ref26_Path_4 (K : PVal → List AObj → Prop) (J2 : List PVal → List AObj → Prop) (vs : List PVal) (os : List AObj) : Prop := LoopP env2 0 22 4 (cd env2 22 [1, 1, 1, 1, 1, 0, 0, 0, 1, 0, 1, 0, 1, 0, 0]) vs os (kat env2 5 0 22 [1, 1, 1, 1, 1, 0, 0, 0, 1, 0, 1, 0, 1, 0] K [J2])
theorem e_ref26_Path (K : PVal → List AObj → Prop) (x0Name : ByteArray) (x0Inputs : List PVal) (x0Registers : List PVal) (x0Nodes : List PVal) (x0Outputs : List PVal) (x1 : List PVal)
    (h : (sp_ref26_Arrivals [PVal.agg [PVal.str x0Name, PVal.sl Mode.fr 2 x0Inputs, PVal.sl Mode.fr 5 x0Registers, PVal.sl Mode.fr 4 x0Nodes, PVal.sl Mode.fr 2 x0Outputs], PVal.sl Mode.fr 1 x1] []).pre ∧
  (sp_ref26_Named [PVal.agg [PVal.str x0Name, PVal.sl Mode.fr 2 x0Inputs, PVal.sl Mode.fr 5 x0Registers, PVal.sl Mode.fr 4 x0Nodes, PVal.sl Mode.fr 2 x0Outputs]] []).pre ∧
    L_ref26_Path_0 K
    [PVal.sl Mode.fr 1 x1, PVal.ref (0 : Nat) (5 : Nat) (0 : Nat) (0 : Nat),
    PVal.sl Mode.fr 1
    (List.map eI (arrF (dInts x1) (dNet (PVal.agg [PVal.str x0Name, PVal.sl Mode.fr 2 x0Inputs, PVal.sl Mode.fr 5 x0Registers, PVal.sl Mode.fr 4 x0Nodes, PVal.sl Mode.fr 2 x0Outputs])).nodes [])),
    PVal.sl Mode.fr 1 (List.map eI (namedF (dNet (PVal.agg [PVal.str x0Name, PVal.sl Mode.fr 2 x0Inputs, PVal.sl Mode.fr 5 x0Registers, PVal.sl Mode.fr 4 x0Nodes, PVal.sl Mode.fr 2 x0Outputs])))),
    eI (-1 : Int), eI (0 : Int)]
    [AObj.row true (27 : Nat) (5 : Nat) [PVal.agg [PVal.str x0Name, PVal.sl Mode.fr 2 x0Inputs, PVal.sl Mode.fr 5 x0Registers, PVal.sl Mode.fr 4 x0Nodes, PVal.sl Mode.fr 2 x0Outputs]]]) :
    CallP env2 22 [PVal.agg [PVal.str x0Name, PVal.sl Mode.fr 2 x0Inputs, PVal.sl Mode.fr 5 x0Registers, PVal.sl Mode.fr 4 x0Nodes, PVal.sl Mode.fr 2 x0Outputs], PVal.sl Mode.fr 1 x1] [] K :=
  e_of (n := 6) h (by kernel_rfl)
theorem r_ref26_Path_0 (K : PVal → List AObj → Prop) (x1 : List PVal) (x5 : List PVal) (x6 : List PVal) (x7 : Int) (x8 : Int) (o00 : ByteArray) (o01 : List PVal) (o02 : List PVal) (o03 : List PVal) (o04 : List PVal)
    (h : br (decide (x8 < (↑x6.length : Int)))
  ((((0 : Int) ≤ x8 ∧ x8 < (↑x6.length : Int)) ∧ getP x6 x8.toNat = eI (asI (getP x6 x8.toNat))) ∧
    (((0 : Int) ≤ asI (getP x6 x8.toNat) ∧ asI (getP x6 x8.toNat) < (↑x5.length : Int)) ∧ getP x5 (asI (getP x6 x8.toNat)).toNat = eI (asI (getP x5 (asI (getP x6 x8.toNat)).toNat))) ∧
    (sp_ref26_Period [PVal.agg [PVal.str o00, PVal.sl Mode.fr 2 o01, PVal.sl Mode.fr 5 o02, PVal.sl Mode.fr 4 o03, PVal.sl Mode.fr 2 o04], PVal.sl Mode.fr 1 x1] []).pre ∧
    br
    (decide
    (asI (getP x5 (asI (getP x6 x8.toNat)).toNat) =
    mostF (arrF (dInts x1) (dNet (PVal.agg [PVal.str o00, PVal.sl Mode.fr 2 o01, PVal.sl Mode.fr 5 o02, PVal.sl Mode.fr 4 o03, PVal.sl Mode.fr 2 o04])).nodes [])
    (namedF (dNet (PVal.agg [PVal.str o00, PVal.sl Mode.fr 2 o01, PVal.sl Mode.fr 5 o02, PVal.sl Mode.fr 4 o03, PVal.sl Mode.fr 2 o04]))) (0 : Int)))
    (br (decide (x7 < (0 : Int)))
    ((((0 : Int) ≤ x8 ∧ x8 < (↑x6.length : Int)) ∧ getP x6 x8.toNat = eI (asI (getP x6 x8.toNat))) ∧
    L_ref26_Path_0 K
    [PVal.sl Mode.fr 1 x1, PVal.ref (0 : Nat) (5 : Nat) (0 : Nat) (0 : Nat), PVal.sl Mode.fr 1 x5, PVal.sl Mode.fr 1 x6, eI (asI (getP x6 x8.toNat)),
    eI (IntKind.i64.wrap (x8 + (1 : Int)))]
    [AObj.row true (27 : Nat) (5 : Nat) [PVal.agg [PVal.str o00, PVal.sl Mode.fr 2 o01, PVal.sl Mode.fr 5 o02, PVal.sl Mode.fr 4 o03, PVal.sl Mode.fr 2 o04]]])
    ((((0 : Int) ≤ x8 ∧ x8 < (↑x6.length : Int)) ∧ getP x6 x8.toNat = eI (asI (getP x6 x8.toNat))) ∧
    br (decide (asI (getP x6 x8.toNat) < x7))
    ((((0 : Int) ≤ x8 ∧ x8 < (↑x6.length : Int)) ∧ getP x6 x8.toNat = eI (asI (getP x6 x8.toNat))) ∧
    L_ref26_Path_0 K
    [PVal.sl Mode.fr 1 x1, PVal.ref (0 : Nat) (5 : Nat) (0 : Nat) (0 : Nat), PVal.sl Mode.fr 1 x5, PVal.sl Mode.fr 1 x6, eI (asI (getP x6 x8.toNat)),
    eI (IntKind.i64.wrap (x8 + (1 : Int)))]
    [AObj.row true (27 : Nat) (5 : Nat) [PVal.agg [PVal.str o00, PVal.sl Mode.fr 2 o01, PVal.sl Mode.fr 5 o02, PVal.sl Mode.fr 4 o03, PVal.sl Mode.fr 2 o04]]])
    (L_ref26_Path_0 K [PVal.sl Mode.fr 1 x1, PVal.ref (0 : Nat) (5 : Nat) (0 : Nat) (0 : Nat), PVal.sl Mode.fr 1 x5, PVal.sl Mode.fr 1 x6, eI x7, eI (IntKind.i64.wrap (x8 + (1 : Int)))]
    [AObj.row true (27 : Nat) (5 : Nat) [PVal.agg [PVal.str o00, PVal.sl Mode.fr 2 o01, PVal.sl Mode.fr 5 o02, PVal.sl Mode.fr 4 o03, PVal.sl Mode.fr 2 o04]]])))
    (L_ref26_Path_0 K [PVal.sl Mode.fr 1 x1, PVal.ref (0 : Nat) (5 : Nat) (0 : Nat) (0 : Nat), PVal.sl Mode.fr 1 x5, PVal.sl Mode.fr 1 x6, eI x7, eI (IntKind.i64.wrap (x8 + (1 : Int)))]
    [AObj.row true (27 : Nat) (5 : Nat) [PVal.agg [PVal.str o00, PVal.sl Mode.fr 2 o01, PVal.sl Mode.fr 5 o02, PVal.sl Mode.fr 4 o03, PVal.sl Mode.fr 2 o04]]]))
  (L_ref26_Path_2 K [PVal.ref (0 : Nat) (5 : Nat) (0 : Nat) (0 : Nat), PVal.sl Mode.fr 1 x5, eI x7, PVal.own (1 : Nat)]
    [AObj.row true (27 : Nat) (5 : Nat) [PVal.agg [PVal.str o00, PVal.sl Mode.fr 2 o01, PVal.sl Mode.fr 5 o02, PVal.sl Mode.fr 4 o03, PVal.sl Mode.fr 2 o04]],
    AObj.row false (3 : Nat) (1 : Nat) [eI x7]])) :
    L_ref26_Path_0 K [PVal.sl Mode.fr 1 x1, PVal.ref (0 : Nat) (5 : Nat) (0 : Nat) (0 : Nat), PVal.sl Mode.fr 1 x5, PVal.sl Mode.fr 1 x6, eI x7, eI x8] [AObj.row true (27 : Nat) (5 : Nat) [PVal.agg [PVal.str o00, PVal.sl Mode.fr 2 o01, PVal.sl Mode.fr 5 o02, PVal.sl Mode.fr 4 o03, PVal.sl Mode.fr 2 o04]]] :=
  r_of (n := 5) h (by kernel_rfl)
theorem r_ref26_Path_2 (K : PVal → List AObj → Prop) (x5 : List PVal) (x7 : Int) (o00 : ByteArray) (o01 : List PVal) (o02 : List PVal) (o03 : List PVal) (o04 : List PVal) (o1 : List PVal)
    (h : (((0 : Int) ≤ x7 ∧ x7 < (↑o03.length : Int)) ∧
    getP o03 x7.toNat =
    PVal.agg
    [eI (asI (cellAt (getP o03 x7.toNat) (0 : Nat))), eI (asI (cellAt (getP o03 x7.toNat) (1 : Nat))), PVal.sl Mode.fr 1 (asL (cellAt (getP o03 x7.toNat) (2 : Nat))),
    eI (asI (cellAt (getP o03 x7.toNat) (3 : Nat)))]) ∧
  br (decide ((↑(asL (cellAt (getP o03 x7.toNat) (2 : Nat))).length : Int) > (0 : Int)))
    ((((0 : Int) ≤ x7 ∧ x7 < (↑o03.length : Int)) ∧
    getP o03 x7.toNat =
    PVal.agg
    [eI (asI (cellAt (getP o03 x7.toNat) (0 : Nat))), eI (asI (cellAt (getP o03 x7.toNat) (1 : Nat))), PVal.sl Mode.fr 1 (asL (cellAt (getP o03 x7.toNat) (2 : Nat))),
    eI (asI (cellAt (getP o03 x7.toNat) (3 : Nat)))]) ∧
    (((0 : Int) ≤ (0 : Int) ∧ (0 : Int) < (↑(asL (cellAt (getP o03 x7.toNat) (2 : Nat))).length : Int)) ∧
    getP (asL (cellAt (getP o03 x7.toNat) (2 : Nat))) (0 : Nat) = eI (asI (getP (asL (cellAt (getP o03 x7.toNat) (2 : Nat))) (0 : Nat)))) ∧
    L_ref26_Path_4 K (L_ref26_Path_2 K)
    [PVal.ref (0 : Nat) (5 : Nat) (0 : Nat) (0 : Nat), PVal.sl Mode.fr 1 x5, eI x7, PVal.own (1 : Nat), eI (asI (getP (asL (cellAt (getP o03 x7.toNat) (2 : Nat))) (0 : Nat))),
    eI (0 : Int)]
    [AObj.row true (27 : Nat) (5 : Nat) [PVal.agg [PVal.str o00, PVal.sl Mode.fr 2 o01, PVal.sl Mode.fr 5 o02, PVal.sl Mode.fr 4 o03, PVal.sl Mode.fr 2 o04]], AObj.row false (3 : Nat) (1 : Nat) o1])
    (K (PVal.sl Mode.fr 1 o1) [])) :
    L_ref26_Path_2 K [PVal.ref (0 : Nat) (5 : Nat) (0 : Nat) (0 : Nat), PVal.sl Mode.fr 1 x5, eI x7, PVal.own (1 : Nat)] [AObj.row true (27 : Nat) (5 : Nat) [PVal.agg [PVal.str o00, PVal.sl Mode.fr 2 o01, PVal.sl Mode.fr 5 o02, PVal.sl Mode.fr 4 o03, PVal.sl Mode.fr 2 o04]], AObj.row false (3 : Nat) (1 : Nat) o1] :=
  r_of (n := 5) h (by kernel_rfl)
theorem r_ref26_Path_4 (K : PVal → List AObj → Prop) (J2 : List PVal → List AObj → Prop) (x5 : List PVal) (x7 : Int) (x10 : Int) (x11 : Int) (o00 : ByteArray) (o01 : List PVal) (o02 : List PVal) (o03 : List PVal) (o04 : List PVal) (o1 : List PVal)
    (h : (((0 : Int) ≤ x7 ∧ x7 < (↑o03.length : Int)) ∧
    getP o03 x7.toNat =
    PVal.agg
    [eI (asI (cellAt (getP o03 x7.toNat) (0 : Nat))), eI (asI (cellAt (getP o03 x7.toNat) (1 : Nat))), PVal.sl Mode.fr 1 (asL (cellAt (getP o03 x7.toNat) (2 : Nat))),
    eI (asI (cellAt (getP o03 x7.toNat) (3 : Nat)))]) ∧
  br (decide (x11 < (↑(asL (cellAt (getP o03 x7.toNat) (2 : Nat))).length : Int)))
    ((((0 : Int) ≤ x7 ∧ x7 < (↑o03.length : Int)) ∧
    getP o03 x7.toNat =
    PVal.agg
    [eI (asI (cellAt (getP o03 x7.toNat) (0 : Nat))), eI (asI (cellAt (getP o03 x7.toNat) (1 : Nat))), PVal.sl Mode.fr 1 (asL (cellAt (getP o03 x7.toNat) (2 : Nat))),
    eI (asI (cellAt (getP o03 x7.toNat) (3 : Nat)))]) ∧
    (((0 : Int) ≤ x11 ∧ x11 < (↑(asL (cellAt (getP o03 x7.toNat) (2 : Nat))).length : Int)) ∧ getP (asL (cellAt (getP o03 x7.toNat) (2 : Nat))) x11.toNat = eI (asI (getP (asL (cellAt (getP o03 x7.toNat) (2 : Nat))) x11.toNat))) ∧
    (((0 : Int) ≤ asI (getP (asL (cellAt (getP o03 x7.toNat) (2 : Nat))) x11.toNat) ∧ asI (getP (asL (cellAt (getP o03 x7.toNat) (2 : Nat))) x11.toNat) < (↑x5.length : Int)) ∧
    getP x5 (asI (getP (asL (cellAt (getP o03 x7.toNat) (2 : Nat))) x11.toNat)).toNat = eI (asI (getP x5 (asI (getP (asL (cellAt (getP o03 x7.toNat) (2 : Nat))) x11.toNat)).toNat))) ∧
    (((0 : Int) ≤ x10 ∧ x10 < (↑x5.length : Int)) ∧ getP x5 x10.toNat = eI (asI (getP x5 x10.toNat))) ∧
    br (decide (asI (getP x5 (asI (getP (asL (cellAt (getP o03 x7.toNat) (2 : Nat))) x11.toNat)).toNat) > asI (getP x5 x10.toNat)))
    ((((0 : Int) ≤ x7 ∧ x7 < (↑o03.length : Int)) ∧
    getP o03 x7.toNat =
    PVal.agg
    [eI (asI (cellAt (getP o03 x7.toNat) (0 : Nat))), eI (asI (cellAt (getP o03 x7.toNat) (1 : Nat))), PVal.sl Mode.fr 1 (asL (cellAt (getP o03 x7.toNat) (2 : Nat))),
    eI (asI (cellAt (getP o03 x7.toNat) (3 : Nat)))]) ∧
    (((0 : Int) ≤ x11 ∧ x11 < (↑(asL (cellAt (getP o03 x7.toNat) (2 : Nat))).length : Int)) ∧
    getP (asL (cellAt (getP o03 x7.toNat) (2 : Nat))) x11.toNat = eI (asI (getP (asL (cellAt (getP o03 x7.toNat) (2 : Nat))) x11.toNat))) ∧
    L_ref26_Path_4 K J2
    [PVal.ref (0 : Nat) (5 : Nat) (0 : Nat) (0 : Nat), PVal.sl Mode.fr 1 x5, eI x7, PVal.own (1 : Nat), eI (asI (getP (asL (cellAt (getP o03 x7.toNat) (2 : Nat))) x11.toNat)),
    eI (IntKind.i64.wrap (x11 + (1 : Int)))]
    [AObj.row true (27 : Nat) (5 : Nat) [PVal.agg [PVal.str o00, PVal.sl Mode.fr 2 o01, PVal.sl Mode.fr 5 o02, PVal.sl Mode.fr 4 o03, PVal.sl Mode.fr 2 o04]], AObj.row false (3 : Nat) (1 : Nat) o1])
    (L_ref26_Path_4 K J2 [PVal.ref (0 : Nat) (5 : Nat) (0 : Nat) (0 : Nat), PVal.sl Mode.fr 1 x5, eI x7, PVal.own (1 : Nat), eI x10, eI (IntKind.i64.wrap (x11 + (1 : Int)))]
    [AObj.row true (27 : Nat) (5 : Nat) [PVal.agg [PVal.str o00, PVal.sl Mode.fr 2 o01, PVal.sl Mode.fr 5 o02, PVal.sl Mode.fr 4 o03, PVal.sl Mode.fr 2 o04]], AObj.row false (3 : Nat) (1 : Nat) o1]))
    ((((1 : Nat) + o1.length) * (8 : Nat) ≤ (140737488355328 : Nat) ∧ (1 : Nat) + o1.length ≤ (9223372036854775807 : Nat)) ∧
    J2 [PVal.ref (0 : Nat) (5 : Nat) (0 : Nat) (0 : Nat), PVal.sl Mode.fr 1 x5, eI x10, PVal.own (1 : Nat)]
    [AObj.row true (27 : Nat) (5 : Nat) [PVal.agg [PVal.str o00, PVal.sl Mode.fr 2 o01, PVal.sl Mode.fr 5 o02, PVal.sl Mode.fr 4 o03, PVal.sl Mode.fr 2 o04]],
    AObj.row false (3 : Nat) (1 : Nat) (eI x10 :: o1)])) :
    L_ref26_Path_4 K J2 [PVal.ref (0 : Nat) (5 : Nat) (0 : Nat) (0 : Nat), PVal.sl Mode.fr 1 x5, eI x7, PVal.own (1 : Nat), eI x10, eI x11] [AObj.row true (27 : Nat) (5 : Nat) [PVal.agg [PVal.str o00, PVal.sl Mode.fr 2 o01, PVal.sl Mode.fr 5 o02, PVal.sl Mode.fr 4 o03, PVal.sl Mode.fr 2 o04]], AObj.row false (3 : Nat) (1 : Nat) o1] :=
  r_of (n := 5) h (by kernel_rfl)
def L_graph_each_api_Node_c2_0 (K : PVal → List AObj → Prop) (vs : List PVal) (os : List AObj) : Prop := LoopP env2 0 174 0 (cd env2 174 [1, 0, 1, 0, 0]) vs os (kat env2 5 0 174 [1, 0, 1, 0] K [])
theorem e_graph_each_api_Node_c2 (K : PVal → List AObj → Prop) (l : List PVal) (leaves : List PVal) (nodes : List PVal)
    (h : L_graph_each_api_Node_c2_0 K
  [PVal.fn (175 : Nat) [PVal.fptr false opsV, PVal.fptr false (PVal.sl Mode.fr 1 leaves), PVal.fptr false (PVal.sl Mode.fr 4 nodes)], PVal.sl Mode.fr 4 l, eI (↑l.length : Int), eI (0 : Int)]
  []) :
    CallP env2 174 [PVal.sl Mode.fr 4 l, PVal.fn (175 : Nat) [PVal.fptr false opsV, PVal.fptr false (PVal.sl Mode.fr 1 leaves), PVal.fptr false (PVal.sl Mode.fr 4 nodes)]] [] K :=
  e_of (n := 6) h (by kernel_rfl)
theorem r_graph_each_api_Node_c2_0 (K : PVal → List AObj → Prop) (check'1 : List PVal) (check'2 : List PVal) (x9 : List PVal) (x10 : Int) (x11 : Int)
    (h : br (decide (x11 < x10))
  ((((0 : Int) ≤ x11 ∧ x11 < (↑x9.length : Int)) ∧
    getP x9 x11.toNat =
    PVal.agg
    [eI (asI (cellAt (getP x9 x11.toNat) (0 : Nat))), eI (asI (cellAt (getP x9 x11.toNat) (1 : Nat))), PVal.sl Mode.fr 1 (asL (cellAt (getP x9 x11.toNat) (2 : Nat))),
    eI (asI (cellAt (getP x9 x11.toNat) (3 : Nat)))]) ∧
    (sp_graph_CheckNodes_c2
    [eI x11,
    PVal.agg
    [eI (asI (cellAt (getP x9 x11.toNat) (0 : Nat))), eI (asI (cellAt (getP x9 x11.toNat) (1 : Nat))), PVal.sl Mode.fr 1 (asL (cellAt (getP x9 x11.toNat) (2 : Nat))),
    eI (asI (cellAt (getP x9 x11.toNat) (3 : Nat)))],
    PVal.fptr false opsV, PVal.fptr false (PVal.sl Mode.fr 1 check'1), PVal.fptr false (PVal.sl Mode.fr 4 check'2)]
    []).pre ∧
    br
    (!decide
    (nodeE (dInts check'1) (List.map dNode check'2) x11.toNat
    (dNode
    (PVal.agg
    [eI (asI (cellAt (getP x9 x11.toNat) (0 : Nat))), eI (asI (cellAt (getP x9 x11.toNat) (1 : Nat))), PVal.sl Mode.fr 1 (asL (cellAt (getP x9 x11.toNat) (2 : Nat))),
    eI (asI (cellAt (getP x9 x11.toNat) (3 : Nat)))])) =
    (0 : Int)))
    (K
    (PVal.tup
    [eI x11,
    PVal.int IntKind.i64
    (nodeE (dInts check'1) (List.map dNode check'2) x11.toNat
    (dNode
    (PVal.agg
    [eI (asI (cellAt (getP x9 x11.toNat) (0 : Nat))), eI (asI (cellAt (getP x9 x11.toNat) (1 : Nat))), PVal.sl Mode.fr 1 (asL (cellAt (getP x9 x11.toNat) (2 : Nat))),
    eI (asI (cellAt (getP x9 x11.toNat) (3 : Nat)))])))])
    [])
    (L_graph_each_api_Node_c2_0 K
    [PVal.fn (175 : Nat) [PVal.fptr false opsV, PVal.fptr false (PVal.sl Mode.fr 1 check'1), PVal.fptr false (PVal.sl Mode.fr 4 check'2)], PVal.sl Mode.fr 4 x9, eI x10,
    eI (IntKind.i64.wrap (x11 + (1 : Int)))]
    []))
  (K (PVal.tup [eI (0 : Int), eI (0 : Int)]) [])) :
    L_graph_each_api_Node_c2_0 K [PVal.fn (175 : Nat) [PVal.fptr false opsV, PVal.fptr false (PVal.sl Mode.fr 1 check'1), PVal.fptr false (PVal.sl Mode.fr 4 check'2)], PVal.sl Mode.fr 4 x9, eI x10, eI x11] [] :=
  r_of (n := 5) h (by kernel_rfl)
end Go.Pvm.Seat
set_option maxHeartbeats 1000000
namespace Go.Pvm.Seat
open Go
theorem base_NodesErr_loop (K : PVal → List AObj → Prop) (leaves : List Int) (nodes : List Node) (hl : leaves.length ≤ 1048576) (hn : nodes.length ≤ 1048576) (hx : ∀ x ∈ nodes, x.args.length ≤ 1048576) : ∀ n i : Nat, i + n = nodes.length →
    K (.tup [eI (firstE i (nodeEs leaves nodes i (nodes.drop i))).1, eI (firstE i (nodeEs leaves nodes i (nodes.drop i))).2]) [] → L_base_NodesErr_0 K [eInts leaves, eNodes nodes, eI i] [] := by
  intro n
  induction n with
  | zero =>
    intro i hi hK
    apply r_base_NodesErr_0
    refine br_neg (by simp; omega) ?_
    rwa [List.drop_eq_nil_of_le (by omega), nodeEs] at hK
  | succ n ih =>
    intro i hi hK
    apply r_base_NodesErr_0
    have h1 : i < nodes.length := by omega
    refine br_pos (by simp; omega) ?_
    rw [drop_at h1, nodeEs, firstE] at hK
    simp (disch := omega) only [natCast_toNat, dInts_map, dNodes_map, wrap_succ]
    refine ⟨⟨?_, rfl, ?_⟩, br_n (fun h => ?_) (fun h => ?_)⟩
    · simp only [aIs_0, aNs_1, aI_2]
    · simp only [aIs_0, aNs_1, aI_2, natCast_toNat]; exact ⟨hl, hn, by omega, hx _ (mem_getD h1)⟩
    · rwa [if_neg h] at hK
    · rw [if_pos h] at hK; exact ih (i+1) (by omega) hK
theorem base_NodesErr_ok (K : PVal → List AObj → Prop) (leaves : List Int) (nodes : List Node) (hl : leaves.length ≤ 1048576) (hn : nodes.length ≤ 1048576) (hx : ∀ x ∈ nodes, x.args.length ≤ 1048576) (hK : K (.tup [eI (nodesE leaves nodes).1, eI (nodesE leaves nodes).2]) []) : CallP env2 F_base_NodesErr [eInts leaves, eNodes nodes] [] K := by
  apply e_base_NodesErr
  simp only [List.length_map]
  refine br_d (fun h => ?_) (fun h => ?_)
  · rwa [nodesE, if_pos (by omega)] at hK
  · rw [nodesE, if_neg (by omega)] at hK
    exact base_NodesErr_loop K leaves nodes hl hn hx nodes.length 0 (by omega) hK
theorem graph_each_api_Node_c2_loop (K : PVal → List AObj → Prop) (leaves : List Int) (nodes : List Node) (hl : leaves.length ≤ 1048576) (hn : nodes.length ≤ 1048576) (hx : ∀ x ∈ nodes, x.args.length ≤ 1048576) : ∀ n i : Nat, i + n = nodes.length →
    K (.tup [eI (firstE i (nodeEs leaves nodes i (nodes.drop i))).1, eI (firstE i (nodeEs leaves nodes i (nodes.drop i))).2]) [] → L_graph_each_api_Node_c2_0 K [.fn F_graph_CheckNodes_c2 [.fptr false opsV, .fptr false (eInts leaves), .fptr false (eNodes nodes)], eNodes nodes, eI nodes.length, eI i] [] := by
  intro n
  induction n with
  | zero =>
    intro i hi hK
    apply r_graph_each_api_Node_c2_0
    refine br_neg (by omega) ?_
    rwa [List.drop_eq_nil_of_le (by omega), nodeEs] at hK
  | succ n ih =>
    intro i hi hK
    apply r_graph_each_api_Node_c2_0
    have h1 : i < nodes.length := by omega
    refine br_pos (by omega) ?_
    rw [drop_at h1, nodeEs, firstE] at hK
    simp (disch := omega) only [List.length_map, natCast_toNat, getP_nodes, asI_int, asS_str, asL_sl, cellAt_agg, List.getD_cons_zero, List.getD_cons_succ, Int.natCast_nonneg, Int.ofNat_lt, true_and, and_true, wrap_succ, h1, dInts_map, dNodes_map, dNode_e]
    refine ⟨⟨?_, rfl, ?_⟩, br_n (fun h => ?_) (fun h => ?_)⟩
    · simp only [aI_0, aX_1, capA, List.getD_cons_zero, List.getD_cons_succ, asL_sl, dInts_map, dNodes_map]
    · simp only [aI_0, aX_1, capA, List.getD_cons_zero, List.getD_cons_succ, asL_sl, dInts_map, dNodes_map]; exact ⟨hl, hn, by omega, hx _ (mem_getD h1)⟩
    · rwa [if_neg h] at hK
    · rw [if_pos h] at hK; exact ih (i+1) (by omega) hK
theorem graph_each_api_Node_c2_ok (K : PVal → List AObj → Prop) (leaves : List Int) (nodes : List Node) (hl : leaves.length ≤ 1048576) (hn : nodes.length ≤ 1048576) (hx : ∀ x ∈ nodes, x.args.length ≤ 1048576)
    (hK : K (.tup [eI (firstE 0 (nodeEs leaves nodes 0 nodes)).1, eI (firstE 0 (nodeEs leaves nodes 0 nodes)).2]) []) : CallP env2 F_graph_each_api_Node [eNodes nodes, .fn F_graph_CheckNodes_c2 [.fptr false opsV, .fptr false (eInts leaves), .fptr false (eNodes nodes)]] [] K := by
  apply e_graph_each_api_Node_c2
  simp only [List.length_map]
  exact graph_each_api_Node_c2_loop K leaves nodes hl hn hx nodes.length 0 (by omega) hK
theorem base_SameNetlist_loop (K : PVal → List AObj → Prop) (a b : Net) (hl : a.regs.length = b.regs.length) (ha : a.regs.length ≤ 1048576) : ∀ n i : Nat, i + n = a.regs.length → K (.bool (decide (a.regs.drop i = b.regs.drop i))) [] →
    L_base_SameNetlist_0 K [.ref 0 5 0 0, .ref 1 5 0 0, eI i] [.row true T_api_Netlist 5 [eNet a], .row true T_api_Netlist 5 [eNet b]] := by
  intro n
  induction n with
  | zero =>
    intro i hi hK
    apply r_base_SameNetlist_0
    refine br_neg (by simp; omega) ?_
    have e : a.regs.drop i = b.regs.drop i := by rw [List.drop_eq_nil_of_le (by omega), List.drop_eq_nil_of_le (by omega)]
    rwa [decide_eq_true e] at hK
  | succ n ih =>
    intro i hi hK
    apply r_base_SameNetlist_0
    have hi1 : i < a.regs.length := by omega
    have hi2 : i < b.regs.length := by omega
    refine br_pos (by simp; omega) ?_
    simp (disch := omega) only [List.length_map, natCast_toNat, getP_regs, asI_int, asS_str, cellAt_agg, List.getD_cons_zero, List.getD_cons_succ, Int.natCast_nonneg, Int.ofNat_lt, true_and, and_true, wrap_succ, hi1, hi2]
    rw [drop_at hi1, drop_at hi2] at hK
    generalize a.regs.getD i default = x at *
    generalize b.regs.getD i default = y at *
    refine br_iff.2 ⟨fun he => ?_, fun he => ?_⟩
    · have : x ≠ y := by rintro rfl; simp at he
      rwa [decide_eq_false (by simp [this])] at hK
    · have : x = y := by cases x; cases y; simp at he; simp [he]
      subst this
      refine ih (i+1) (by omega) ?_
      rwa [show decide (x :: a.regs.drop (i+1) = x :: b.regs.drop (i+1)) = decide (a.regs.drop (i+1) = b.regs.drop (i+1)) by simp] at hK
theorem base_SameNetlist_ok (K : PVal → List AObj → Prop) (a b : Net) (hs : Small a) (hK : K (.bool (decide (a = b))) []) : CallP env2 F_base_SameNetlist [eNet a, eNet b] [] K := by
  obtain ⟨s1, s2, s3, s4, s5, s6, s7, s8, s9⟩ := hs
  apply e_base_SameNetlist
  simp only [List.length_map, dPorts_map, dNodes_map, dOutps_map]
  have hF : a ≠ b → K (.bool false) [] := fun h => by rwa [decide_eq_false h] at hK
  refine br_n (fun h => hF fun e => h (by rw [e])) fun h1 => ⟨⟨?_, rfl, ?_⟩, br_n (fun h => hF fun e => h (by rw [e])) fun h2 => br_n (fun h => hF fun e => h (by rw [e])) fun h3 => ⟨⟨?_, rfl, ?_⟩, br_n (fun h => hF fun e => h (by rw [e])) fun h4 => ⟨⟨?_, rfl, ?_⟩, br_n (fun h => hF fun e => h (by rw [e])) fun h5 => ?_⟩⟩⟩
  · simp only [aPs_0, aPs, List.getD_cons_zero, List.getD_cons_succ, asL_sl, dPorts_map]
  · simp only [aPs_0]; exact s2
  · simp only [aNs_0, aNs_1]
  · simp only [aNs_0]; exact ⟨s4, s6⟩
  · simp only [aOs, List.getD_cons_zero, List.getD_cons_succ, asL_sl, dOutps_map]
  · simp only [aOs, List.getD_cons_zero, List.getD_cons_succ, asL_sl, dOutps_map]; exact s5
  · refine base_SameNetlist_loop K a b (by omega) s3 a.regs.length 0 (by omega) ?_
    rw [List.drop_zero, List.drop_zero]
    have : (a = b) ↔ (a.regs = b.regs) := ⟨fun e => by rw [e], fun e => by cases a; cases b; simp_all⟩
    rwa [show decide (a.regs = b.regs) = decide (a = b) by rw [decide_eq_decide]; exact this.symm]
theorem named_length (n : Net) : (namedF n).length = n.outputs.length + 2 * n.regs.length := by
  have : ∀ r : List Reg, (r.flatMap fun r => [r.enable, r.next]).length = 2 * r.length := fun r => by
    induction r with
    | nil => rfl
    | cons a r ih => simp [List.flatMap_cons, ih]; omega
  simp only [namedF, List.length_append, List.length_map, this]
theorem ref26_Path_4 (K : PVal → List AObj → Prop) (J2 : List PVal → List AObj → Prop) (n : Net) (a : List Int) (ha : a.length = n.nodes.length) (hn : n.nodes.length ≤ 1048576) (hok : nodesOK 0 n.nodes) (k : Nat) (hk : k < n.nodes.length) (hx : (n.nodes.getD k default).args.length ≤ 1048576) (o : List Int) (ho : o.length ≤ 2000000) :
    ∀ m j : Nat, j + m = (n.nodes.getD k default).args.length → ∀ b : Int, 0 ≤ b ∧ b < (a.length : Int) →
      J2 [.ref 0 5 0 0, eInts a, eI (bestGo a b ((n.nodes.getD k default).args.drop j)), .own 1] [.row true T_api_Netlist 5 [eNet n], .row false T_int 1 (eI (bestGo a b ((n.nodes.getD k default).args.drop j)) :: o.map eI)] →
      L_ref26_Path_4 K J2 [.ref 0 5 0 0, eInts a, eI k, .own 1, eI b, eI j] [.row true T_api_Netlist 5 [eNet n], .row false T_int 1 (o.map eI)] := by
  obtain ⟨hop, hargs⟩ := nodesOK_at hok hk
  rw [Nat.zero_add] at hargs
  intro m
  induction m with
  | zero =>
    intro j hj b hb hJ
    apply r_ref26_Path_4
    simp (disch := omega) only [List.length_map, natCast_toNat, getP_nodes, asI_int, asS_str, asL_sl, cellAt_agg, List.getD_cons_zero, List.getD_cons_succ, Int.natCast_nonneg, Int.ofNat_lt, true_and, and_true, hk]
    refine br_neg (by omega) ⟨by omega, ?_⟩
    rwa [List.drop_eq_nil_of_le (by omega), bestGo] at hJ
  | succ m ih =>
    intro j hj b hb hJ
    apply r_ref26_Path_4
    have h1 : j < (n.nodes.getD k default).args.length := by omega
    have h2 := hargs _ (mem_getD0 h1)
    have h3 : ((n.nodes.getD k default).args.getD j 0).toNat < a.length := by omega
    have h4 : (n.nodes.getD k default).args.getD j 0 < (a.length : Int) := by omega
    have h5 : b.toNat < a.length := by omega
    simp (disch := omega) only [List.length_map, natCast_toNat, getP_nodes, getP_ints, asI_int, asS_str, asL_sl, cellAt_agg, List.getD_cons_zero, List.getD_cons_succ, Int.natCast_nonneg, Int.ofNat_lt, true_and, and_true, wrap_succ, hk, h1, h2, h3, h4, h5, hb]
    refine br_pos (by first | omega | trivial) ?_
    rw [drop_at0 h1, bestGo] at hJ
    refine br_d (fun h => ih (j+1) (by omega) _ ⟨h2.1, h4⟩ ?_) (fun h => ih (j+1) (by omega) _ hb ?_)
    · rwa [if_pos h] at hJ
    · rwa [if_neg h] at hJ
theorem ref26_Path_2 (K : PVal → List AObj → Prop) (n : Net) (a : List Int) (hs : Small n) (ha : a.length = n.nodes.length) (hok : nodesOK 0 n.nodes) : ∀ (fuel k : Nat), k < fuel → k < n.nodes.length → ∀ o : List Int, o.length + k ≤ 1500000 →
    K (eInts (pathGo n.nodes a fuel k o)) [] → L_ref26_Path_2 K [.ref 0 5 0 0, eInts a, eI k, .own 1] [.row true T_api_Netlist 5 [eNet n], .row false T_int 1 (o.map eI)] := by
  obtain ⟨s1, s2, s3, s4, s5, s6, s7, s8, s9⟩ := hs
  intro fuel
  induction fuel with
  | zero => intro k hk; omega
  | succ fuel ih =>
    intro k hk hkn o ho hK
    apply r_ref26_Path_2
    obtain ⟨hop, hargs⟩ := nodesOK_at hok hkn
    rw [Nat.zero_add] at hargs
    rw [pathGo] at hK
    simp (disch := omega) only [List.length_map, natCast_toNat, getP_nodes, asI_int, asS_str, asL_sl, cellAt_agg, List.getD_cons_zero, List.getD_cons_succ, Int.natCast_nonneg, Int.ofNat_lt, true_and, and_true, hkn]
    simp only [argsAt, natCast_toNat] at hK
    refine br_d (fun h => ?_) (fun h => ?_)
    · have h0 : (n.nodes.getD k default).args.length ≠ 0 := by omega
      rw [if_neg h0] at hK
      rw [getP_ints _ _ (by omega)]
      simp only [asI_int]
      refine ⟨⟨by omega, trivial⟩, ?_⟩
      have hin := bestGo_in a h0
      have hlt := hargs _ hin
      have hfirst := hargs _ (mem_getD0 (show 0 < (n.nodes.getD k default).args.length by omega))
      obtain ⟨b, hb⟩ : ∃ b : Nat, bestGo a ((n.nodes.getD k default).args.getD 0 0) (n.nodes.getD k default).args = b := ⟨_, (Int.toNat_of_nonneg hlt.1).symm⟩
      refine ref26_Path_4 K _ n a ha s4 hok k hkn (s6 _ (mem_getD hkn)) o (by omega) (n.nodes.getD k default).args.length 0 (by omega) _ (by omega) ?_
      rw [List.drop_zero, hb]
      rw [hb] at hK hlt
      have := ih b (by omega) (by omega) ((b : Int) :: o) (by simp; omega) hK
      simpa using this
    · rwa [if_pos (by omega)] at hK
theorem ref26_Path_0 (K : PVal → List AObj → Prop) (n : Net) (d : List Int) (h : PathOK n d) (h0 : namedF n ≠ []) (hK : K (eInts (pathF n d)) []) : ∀ m i : Nat, i + m = (namedF n).length → ∀ k : Int,
    atGo (arrF d n.nodes []) (mostF (arrF d n.nodes []) (namedF n) 0) k ((namedF n).drop i) = atGo (arrF d n.nodes []) (mostF (arrF d n.nodes []) (namedF n) 0) (-1) (namedF n) →
    L_ref26_Path_0 K [eInts d, .ref 0 5 0 0, eInts (arrF d n.nodes []), eInts (namedF n), eI k, eI i] [.row true T_api_Netlist 5 [eNet n]] := by
  have hnl := named_length n
  have hal : (arrF d n.nodes []).length = n.nodes.length := PathOK.alen
  have hat := h.at_in h0
  have hrng := h.named _ hat
  obtain ⟨s1, s2, s3, s4, s5, s6, s7, s8, s9⟩ := h.small
  intro m
  induction m with
  | zero =>
    intro i hi k hk
    apply r_ref26_Path_0
    refine br_neg (by simp; omega) ?_
    rw [List.drop_eq_nil_of_le (by omega), atGo] at hk
    subst hk
    obtain ⟨b, hb⟩ : ∃ b : Nat, atGo (arrF d n.nodes []) (mostF (arrF d n.nodes []) (namedF n) 0) (-1) (namedF n) = b := ⟨_, (Int.toNat_of_nonneg hrng.1).symm⟩
    rw [pathF, hb] at hK
    rw [hb] at hrng ⊢
    exact ref26_Path_2 K n _ h.small hal h.ok (n.nodes.length + 1) b (by omega) (by omega) [(b : Int)] (by simp; omega) hK
  | succ m ih =>
    intro i hi k hk
    apply r_ref26_Path_0
    have h1 : i < (namedF n).length := by omega
    have h2 := h.named _ (mem_getD0 h1)
    have h3 : ((namedF n).getD i 0).toNat < (arrF d n.nodes []).length := by omega
    have h4 : (namedF n).getD i 0 < ((arrF d n.nodes []).length : Int) := by omega
    refine br_pos (by simp; omega) ?_
    rw [drop_at0 h1, atGo] at hk
    simp (disch := omega) only [List.length_map, natCast_toNat, getP_ints, asI_int, asS_str, asL_sl, Int.natCast_nonneg, Int.ofNat_lt, true_and, and_true, wrap_succ, h1, h2, h3, h4, dInts_map, dNet_e]
    refine ⟨⟨?_, rfl, ?_⟩, ?_⟩
    · simp only [aN_0, aIs_1]
    · simp only [aN_0, aIs_1]; exact ⟨h.small, h.len, h.ok, h.named⟩
    · have hT : (arrF d n.nodes []).getD ((namedF n).getD i 0).toNat 0 = mostF (arrF d n.nodes []) (namedF n) 0 ∧ (k < 0 ∨ (namedF n).getD i 0 < k) → L_ref26_Path_0 K [eInts d, .ref 0 5 0 0, eInts (arrF d n.nodes []), eInts (namedF n), eI ((namedF n).getD i 0), eI ((i + 1 : Nat) : Int)] [.row true T_api_Netlist 5 [eNet n]] := fun hc => by
        rw [if_pos hc] at hk; exact ih (i+1) (by omega) _ hk
      have hF : ¬ ((arrF d n.nodes []).getD ((namedF n).getD i 0).toNat 0 = mostF (arrF d n.nodes []) (namedF n) 0 ∧ (k < 0 ∨ (namedF n).getD i 0 < k)) → L_ref26_Path_0 K [eInts d, .ref 0 5 0 0, eInts (arrF d n.nodes []), eInts (namedF n), eI k, eI ((i + 1 : Nat) : Int)] [.row true T_api_Netlist 5 [eNet n]] := fun hc => by
        rw [if_neg hc] at hk; exact ih (i+1) (by omega) _ hk
      refine br_d (fun e1 => br_d (fun e2 => hT ⟨e1, .inl e2⟩) (fun e2 => br_d (fun e3 => hT ⟨e1, .inr e3⟩) (fun e3 => hF ?_))) (fun e1 => hF fun hc => e1 hc.1)
      rintro ⟨_, hc | hc⟩
      · exact e2 hc
      · exact e3 hc
theorem ref26_Path_ok (K : PVal → List AObj → Prop) (n : Net) (d : List Int) (h : PathOK n d) (h0 : namedF n ≠ []) (hK : K (eInts (pathF n d)) []) : CallP env2 F_ref26_Path [eNet n, eInts d] [] K := by
  obtain ⟨s1, s2, s3, s4, s5, s6, s7, s8, s9⟩ := h.small
  apply e_ref26_Path
  simp only [dInts_map, dNet_e]
  refine ⟨⟨?_, rfl, ?_⟩, ⟨?_, rfl, ?_⟩, ?_⟩
  · simp only [aN_0, aIs_1]
  · simp only [aN_0, aIs_1]; exact ⟨h.len, s4, h.ok, s6⟩
  · simp only [aN_0]
  · simp only [aN_0]; exact ⟨s3, s5⟩
  · exact ref26_Path_0 K n d h h0 hK (namedF n).length 0 (by omega) (-1) (by rw [List.drop_zero])
end Go.Pvm.Seat
namespace Go.Pvm.Seat
open Go
theorem ok_base_NodesErr : SpecOK F_base_NodesErr sp_base_NodesErr := specOK all2 fun av os hp => by
  obtain ⟨h1, h2, h3⟩ := hp
  unfold sp_base_NodesErr
  dsimp only at h1 h2 h3 ⊢
  generalize aIs av 0 = l at *
  generalize aNs av 1 = m at *
  subst h1 h2
  exact base_NodesErr_ok _ _ _ h3.1 h3.2.1 h3.2.2 ⟨rfl, rfl⟩
theorem ok_graph_each_api_Node : SpecOK F_graph_each_api_Node sp_graph_each_api_Node := specOK all2 fun av os hp => by
  obtain ⟨h1, h2, h3⟩ := hp
  unfold sp_graph_each_api_Node
  dsimp only at h1 h2 h3 ⊢
  generalize aNs av 0 = m at *
  generalize dInts (asL (capB (av.getD 1 .undef) 1)) = l at *
  subst h1 h2
  exact graph_each_api_Node_c2_ok _ _ _ h3.1 h3.2.1 h3.2.2 ⟨rfl, rfl⟩
theorem ok_base_SameNetlist : SpecOK F_base_SameNetlist sp_base_SameNetlist := specOK all2 fun av os hp => by
  obtain ⟨h1, h2, h3⟩ := hp
  unfold sp_base_SameNetlist
  dsimp only at h1 h2 h3 ⊢
  generalize aN av 0 = a at *
  generalize aN av 1 = b at *
  subst h1 h2
  exact base_SameNetlist_ok _ _ _ h3 ⟨rfl, rfl⟩
theorem ok_ref26_Path : SpecOK F_ref26_Path sp_ref26_Path := specOK all2 fun av os hp => by
  obtain ⟨h1, h2, h3⟩ := hp
  unfold sp_ref26_Path
  dsimp only at h1 h2 h3 ⊢
  generalize aN av 0 = n at *
  generalize aIs av 1 = d at *
  subst h1 h2
  exact ref26_Path_ok _ _ _ h3.1 h3.2 ⟨rfl, rfl⟩
theorem all3 (hS : SpecOK F_slices_Sort_int_int sp_slices_Sort_int_int) (hC : SpecOK F_slices_Compact_int_int sp_slices_Compact_int_int) : AllOK specs3 := allOK_cons ok_base_NodesErr (allOK_cons ok_graph_each_api_Node (allOK_cons ok_base_SameNetlist (allOK_cons ok_ref26_Path (allOK_cons hS (allOK_cons hC all2)))))
end Go.Pvm.Seat
set_option maxHeartbeats 4000000
namespace Go.Pvm.Seat
open Go
def L_base_NetErr_0 (K : PVal → List AObj → Prop) (vs : List PVal) (os : List AObj) : Prop := LoopP env3 0 62 0 (cd env3 62 [1, 1, 1, 1, 0, 1, 0, 0]) vs os (kat env3 5 0 62 [1, 1, 1, 1, 0, 1, 0] K [])
def L_base_NetErr_2 (K : PVal → List AObj → Prop) (J0 : List PVal → List AObj → Prop) (vs : List PVal) (os : List AObj) : Prop := LoopP env3 0 62 2 (cd env3 62 [1, 1, 1, 1, 0, 1, 0, 0, 1, 0, 0, 1, 1, 0, 1, 0, 0]) vs os (kat env3 5 0 62 [1, 1, 1, 1, 0, 1, 0, 0, 1, 0, 0, 1, 1, 0, 1, 0] K [J0])
def L_base_NetErr_4 (K : PVal → List AObj → Prop) (J0 : List PVal → List AObj → Prop) (vs : List PVal) (os : List AObj) : Prop := LoopP env3 0 62 4 (cd env3 62 [1, 1, 1, 1, 0, 1, 0, 0, 1, 0, 0, 1, 1, 1, 0, 1, 0, 0]) vs os (kat env3 5 0 62 [1, 1, 1, 1, 0, 1, 0, 0, 1, 0, 0, 1, 1, 1, 0, 1, 0] K [J0])
def L_base_NetErr_6 (K : PVal → List AObj → Prop) (vs : List PVal) (os : List AObj) : Prop := LoopP env3 0 62 6 (cd env3 62 [1, 1, 1, 1, 1, 1, 0, 1, 0, 0]) vs os (kat env3 5 0 62 [1, 1, 1, 1, 1, 1, 0, 1, 0] K [])
theorem e_base_NetErr (K : PVal → List AObj → Prop) (x0Name : ByteArray) (x0Inputs : List PVal) (x0Registers : List PVal) (x0Nodes : List PVal) (x0Outputs : List PVal)
    (h : (sp_base_IsName [PVal.str x0Name] []).pre ∧
  br (!isName x0Name) (K (PVal.tup [eI (0 : Int), eI (4 : Int)]) [])
    ((sp_base_PortsErr [PVal.sl Mode.fr 2 x0Inputs] []).pre ∧
    br (!decide ((portsE (List.map dPort x0Inputs)).snd = (0 : Int))) (K (PVal.tup [eI (portsE (List.map dPort x0Inputs)).fst, eI (portsE (List.map dPort x0Inputs)).snd]) [])
    (br (decide (IntKind.i64.wrap ((↑x0Inputs.length : Int) + (↑x0Registers.length : Int)) > (40 : Int))) (K (PVal.tup [eI (0 : Int), eI (8 : Int)]) [])
    (L_base_NetErr_0 K [PVal.ref (0 : Nat) (5 : Nat) (0 : Nat) (0 : Nat), eI (0 : Int)]
    [AObj.row true (27 : Nat) (5 : Nat) [PVal.agg [PVal.str x0Name, PVal.sl Mode.fr 2 x0Inputs, PVal.sl Mode.fr 5 x0Registers, PVal.sl Mode.fr 4 x0Nodes, PVal.sl Mode.fr 2 x0Outputs]]])))) :
    CallP env3 62 [PVal.agg [PVal.str x0Name, PVal.sl Mode.fr 2 x0Inputs, PVal.sl Mode.fr 5 x0Registers, PVal.sl Mode.fr 4 x0Nodes, PVal.sl Mode.fr 2 x0Outputs]] [] K :=
  e_of (n := 6) h (by kernel_rfl)
theorem r_base_NetErr_0 (K : PVal → List AObj → Prop) (x6 : Int) (o00 : ByteArray) (o01 : List PVal) (o02 : List PVal) (o03 : List PVal) (o04 : List PVal)
    (h : br (decide (x6 < (↑o02.length : Int)))
  ((((0 : Int) ≤ x6 ∧ x6 < (↑o02.length : Int)) ∧
    getP o02 x6.toNat =
    PVal.agg
    [PVal.str (asS (cellAt (getP o02 x6.toNat) (0 : Nat))), eI (asI (cellAt (getP o02 x6.toNat) (1 : Nat))), eI (asI (cellAt (getP o02 x6.toNat) (2 : Nat))),
    eI (asI (cellAt (getP o02 x6.toNat) (3 : Nat))), eI (asI (cellAt (getP o02 x6.toNat) (4 : Nat)))]) ∧
    (sp_base_IsName [PVal.str (asS (cellAt (getP o02 x6.toNat) (0 : Nat)))] []).pre ∧
    br (!isName (asS (cellAt (getP o02 x6.toNat) (0 : Nat)))) (K (PVal.tup [eI x6, eI (4 : Int)]) [])
    (L_base_NetErr_2 K (L_base_NetErr_0 K) [PVal.ref (0 : Nat) (5 : Nat) (0 : Nat) (0 : Nat), eI x6, PVal.ref (1 : Nat) (5 : Nat) (0 : Nat) (0 : Nat), eI (0 : Int)]
    [AObj.row true (27 : Nat) (5 : Nat) [PVal.agg [PVal.str o00, PVal.sl Mode.fr 2 o01, PVal.sl Mode.fr 5 o02, PVal.sl Mode.fr 4 o03, PVal.sl Mode.fr 2 o04]],
    AObj.row true (94 : Nat) (5 : Nat)
    [PVal.agg
    [PVal.str (asS (cellAt (getP o02 x6.toNat) (0 : Nat))), eI (asI (cellAt (getP o02 x6.toNat) (1 : Nat))), eI (asI (cellAt (getP o02 x6.toNat) (2 : Nat))),
    eI (asI (cellAt (getP o02 x6.toNat) (3 : Nat))), eI (asI (cellAt (getP o02 x6.toNat) (4 : Nat)))]]]))
  ((sp_base_NetLeaves [PVal.agg [PVal.str o00, PVal.sl Mode.fr 2 o01, PVal.sl Mode.fr 5 o02, PVal.sl Mode.fr 4 o03, PVal.sl Mode.fr 2 o04]] []).pre ∧
    (sp_base_NodesErr
    [PVal.sl Mode.fr 1 (List.map eI (leavesF (dNet (PVal.agg [PVal.str o00, PVal.sl Mode.fr 2 o01, PVal.sl Mode.fr 5 o02, PVal.sl Mode.fr 4 o03, PVal.sl Mode.fr 2 o04])))), PVal.sl Mode.fr 4 o03]
    []).pre ∧
    br
    (!decide
    ((nodesE (dInts (asL (PVal.sl Mode.fr 1 (List.map eI (leavesF (dNet (PVal.agg [PVal.str o00, PVal.sl Mode.fr 2 o01, PVal.sl Mode.fr 5 o02, PVal.sl Mode.fr 4 o03, PVal.sl Mode.fr 2 o04])))))))
    (List.map dNode o03)).snd =
    (0 : Int)))
    (K
    (PVal.tup
    [PVal.int IntKind.i64
    (nodesE (dInts (asL (PVal.sl Mode.fr 1 (List.map eI (leavesF (dNet (PVal.agg [PVal.str o00, PVal.sl Mode.fr 2 o01, PVal.sl Mode.fr 5 o02, PVal.sl Mode.fr 4 o03, PVal.sl Mode.fr 2 o04])))))))
    (List.map dNode o03)).fst,
    PVal.int IntKind.i64
    (nodesE (dInts (asL (PVal.sl Mode.fr 1 (List.map eI (leavesF (dNet (PVal.agg [PVal.str o00, PVal.sl Mode.fr 2 o01, PVal.sl Mode.fr 5 o02, PVal.sl Mode.fr 4 o03, PVal.sl Mode.fr 2 o04])))))))
    (List.map dNode o03)).snd])
    [])
    (L_base_NetErr_6 K [PVal.ref (0 : Nat) (5 : Nat) (0 : Nat) (0 : Nat), eI (0 : Int)]
    [AObj.row true (27 : Nat) (5 : Nat) [PVal.agg [PVal.str o00, PVal.sl Mode.fr 2 o01, PVal.sl Mode.fr 5 o02, PVal.sl Mode.fr 4 o03, PVal.sl Mode.fr 2 o04]]]))) :
    L_base_NetErr_0 K [PVal.ref (0 : Nat) (5 : Nat) (0 : Nat) (0 : Nat), eI x6] [AObj.row true (27 : Nat) (5 : Nat) [PVal.agg [PVal.str o00, PVal.sl Mode.fr 2 o01, PVal.sl Mode.fr 5 o02, PVal.sl Mode.fr 4 o03, PVal.sl Mode.fr 2 o04]]] :=
  r_of (n := 5) h (by kernel_rfl)
theorem r_base_NetErr_2 (K : PVal → List AObj → Prop) (J0 : List PVal → List AObj → Prop) (x6 : Int) (x8 : Int) (o00 : ByteArray) (o01 : List PVal) (o02 : List PVal) (o03 : List PVal) (o04 : List PVal) (o10 : ByteArray) (o11 : Int) (o12 : Int) (o13 : Int) (o14 : Int)
    (h : br (decide (x8 < x6))
  ((((0 : Int) ≤ x8 ∧ x8 < (↑o02.length : Int)) ∧
    getP o02 x8.toNat =
    PVal.agg
    [PVal.str (asS (cellAt (getP o02 x8.toNat) (0 : Nat))), eI (asI (cellAt (getP o02 x8.toNat) (1 : Nat))), eI (asI (cellAt (getP o02 x8.toNat) (2 : Nat))),
    eI (asI (cellAt (getP o02 x8.toNat) (3 : Nat))), eI (asI (cellAt (getP o02 x8.toNat) (4 : Nat)))]) ∧
    br (decide (asS (cellAt (getP o02 x8.toNat) (0 : Nat)) = o10)) (K (PVal.tup [eI x6, eI (5 : Int)]) [])
    (L_base_NetErr_2 K J0 [PVal.ref (0 : Nat) (5 : Nat) (0 : Nat) (0 : Nat), eI x6, PVal.ref (1 : Nat) (5 : Nat) (0 : Nat) (0 : Nat), eI (IntKind.i64.wrap (x8 + (1 : Int)))]
    [AObj.row true (27 : Nat) (5 : Nat) [PVal.agg [PVal.str o00, PVal.sl Mode.fr 2 o01, PVal.sl Mode.fr 5 o02, PVal.sl Mode.fr 4 o03, PVal.sl Mode.fr 2 o04]],
    AObj.row true (94 : Nat) (5 : Nat) [PVal.agg [PVal.str o10, eI o11, eI o12, eI o13, eI o14]]]))
  (L_base_NetErr_4 K J0 [PVal.ref (0 : Nat) (5 : Nat) (0 : Nat) (0 : Nat), eI x6, PVal.ref (1 : Nat) (5 : Nat) (0 : Nat) (0 : Nat), eI (0 : Int)]
    [AObj.row true (27 : Nat) (5 : Nat) [PVal.agg [PVal.str o00, PVal.sl Mode.fr 2 o01, PVal.sl Mode.fr 5 o02, PVal.sl Mode.fr 4 o03, PVal.sl Mode.fr 2 o04]],
    AObj.row true (94 : Nat) (5 : Nat) [PVal.agg [PVal.str o10, eI o11, eI o12, eI o13, eI o14]]])) :
    L_base_NetErr_2 K J0 [PVal.ref (0 : Nat) (5 : Nat) (0 : Nat) (0 : Nat), eI x6, PVal.ref (1 : Nat) (5 : Nat) (0 : Nat) (0 : Nat), eI x8] [AObj.row true (27 : Nat) (5 : Nat) [PVal.agg [PVal.str o00, PVal.sl Mode.fr 2 o01, PVal.sl Mode.fr 5 o02, PVal.sl Mode.fr 4 o03, PVal.sl Mode.fr 2 o04]],
  AObj.row true (94 : Nat) (5 : Nat) [PVal.agg [PVal.str o10, eI o11, eI o12, eI o13, eI o14]]] :=
  r_of (n := 5) h (by kernel_rfl)
theorem r_base_NetErr_6 (K : PVal → List AObj → Prop) (x12 : Int) (o00 : ByteArray) (o01 : List PVal) (o02 : List PVal) (o03 : List PVal) (o04 : List PVal)
    (h : br (decide (x12 < (↑o02.length : Int)))
  ((((0 : Int) ≤ x12 ∧ x12 < (↑o02.length : Int)) ∧
    getP o02 x12.toNat =
    PVal.agg
    [PVal.str (asS (cellAt (getP o02 x12.toNat) (0 : Nat))), eI (asI (cellAt (getP o02 x12.toNat) (1 : Nat))), eI (asI (cellAt (getP o02 x12.toNat) (2 : Nat))),
    eI (asI (cellAt (getP o02 x12.toNat) (3 : Nat))), eI (asI (cellAt (getP o02 x12.toNat) (4 : Nat)))]) ∧
    br (decide ((0 : Int) ≤ asI (cellAt (getP o02 x12.toNat) (3 : Nat))))
    (br (decide (asI (cellAt (getP o02 x12.toNat) (3 : Nat)) ≤ IntKind.i64.wrap ((↑o03.length : Int) - (1 : Int))))
    ((((0 : Int) ≤ asI (cellAt (getP o02 x12.toNat) (3 : Nat)) ∧ asI (cellAt (getP o02 x12.toNat) (3 : Nat)) < (↑o03.length : Int)) ∧
    getP o03 (asI (cellAt (getP o02 x12.toNat) (3 : Nat))).toNat =
    PVal.agg
    [eI (asI (cellAt (getP o03 (asI (cellAt (getP o02 x12.toNat) (3 : Nat))).toNat) (0 : Nat))), eI (asI (cellAt (getP o03 (asI (cellAt (getP o02 x12.toNat) (3 : Nat))).toNat) (1 : Nat))),
    PVal.sl Mode.fr 1 (asL (cellAt (getP o03 (asI (cellAt (getP o02 x12.toNat) (3 : Nat))).toNat) (2 : Nat))), eI (asI (cellAt (getP o03 (asI (cellAt (getP o02 x12.toNat) (3 : Nat))).toNat) (3 : Nat)))]) ∧
    br (!decide (asI (cellAt (getP o03 (asI (cellAt (getP o02 x12.toNat) (3 : Nat))).toNat) (1 : Nat)) = (1 : Int))) (K (PVal.tup [eI x12, eI (9 : Int)]) [])
    (br (decide ((0 : Int) ≤ asI (cellAt (getP o02 x12.toNat) (4 : Nat))))
    (br (!decide (asI (cellAt (getP o02 x12.toNat) (4 : Nat)) ≤ IntKind.i64.wrap ((↑o03.length : Int) - (1 : Int)))) (K (PVal.tup [eI x12, eI (9 : Int)]) [])
    ((((0 : Int) ≤ asI (cellAt (getP o02 x12.toNat) (4 : Nat)) ∧ asI (cellAt (getP o02 x12.toNat) (4 : Nat)) < (↑o03.length : Int)) ∧
    getP o03 (asI (cellAt (getP o02 x12.toNat) (4 : Nat))).toNat =
    PVal.agg
    [eI (asI (cellAt (getP o03 (asI (cellAt (getP o02 x12.toNat) (4 : Nat))).toNat) (0 : Nat))), eI (asI (cellAt (getP o03 (asI (cellAt (getP o02 x12.toNat) (4 : Nat))).toNat) (1 : Nat))),
    PVal.sl Mode.fr 1 (asL (cellAt (getP o03 (asI (cellAt (getP o02 x12.toNat) (4 : Nat))).toNat) (2 : Nat))),
    eI (asI (cellAt (getP o03 (asI (cellAt (getP o02 x12.toNat) (4 : Nat))).toNat) (3 : Nat)))]) ∧
    br (!decide (asI (cellAt (getP o03 (asI (cellAt (getP o02 x12.toNat) (4 : Nat))).toNat) (1 : Nat)) = asI (cellAt (getP o02 x12.toNat) (1 : Nat)))) (K (PVal.tup [eI x12, eI (25 : Int)]) [])
    (L_base_NetErr_6 K [PVal.ref (0 : Nat) (5 : Nat) (0 : Nat) (0 : Nat), eI (IntKind.i64.wrap (x12 + (1 : Int)))]
    [AObj.row true (27 : Nat) (5 : Nat) [PVal.agg [PVal.str o00, PVal.sl Mode.fr 2 o01, PVal.sl Mode.fr 5 o02, PVal.sl Mode.fr 4 o03, PVal.sl Mode.fr 2 o04]]])))
    (K (PVal.tup [eI x12, eI (9 : Int)]) [])))
    (K (PVal.tup [eI x12, eI (9 : Int)]) []))
    (K (PVal.tup [eI x12, eI (9 : Int)]) []))
  ((sp_base_OutputsErr [PVal.sl Mode.fr 4 o03, PVal.sl Mode.fr 2 o04] []).pre ∧
    K (PVal.tup [eI (outsE (List.map dNode o03) (List.map dOutp o04)).fst, eI (outsE (List.map dNode o03) (List.map dOutp o04)).snd]) [])) :
    L_base_NetErr_6 K [PVal.ref (0 : Nat) (5 : Nat) (0 : Nat) (0 : Nat), eI x12] [AObj.row true (27 : Nat) (5 : Nat) [PVal.agg [PVal.str o00, PVal.sl Mode.fr 2 o01, PVal.sl Mode.fr 5 o02, PVal.sl Mode.fr 4 o03, PVal.sl Mode.fr 2 o04]]] :=
  r_of (n := 5) h (by kernel_rfl)
theorem r_base_NetErr_4 (K : PVal → List AObj → Prop) (J0 : List PVal → List AObj → Prop) (x6 : Int) (x9 : Int) (o00 : ByteArray) (o01 : List PVal) (o02 : List PVal) (o03 : List PVal) (o04 : List PVal) (o10 : ByteArray) (o11 : Int) (o12 : Int) (o13 : Int) (o14 : Int)
    (h : br (decide (x9 < (↑o01.length : Int)))
  ((((0 : Int) ≤ x9 ∧ x9 < (↑o01.length : Int)) ∧ getP o01 x9.toNat = PVal.agg [PVal.str (asS (cellAt (getP o01 x9.toNat) (0 : Nat))), eI (asI (cellAt (getP o01 x9.toNat) (1 : Nat)))]) ∧
    br (decide (asS (cellAt (getP o01 x9.toNat) (0 : Nat)) = o10)) (K (PVal.tup [eI x6, eI (5 : Int)]) [])
    (L_base_NetErr_4 K J0 [PVal.ref (0 : Nat) (5 : Nat) (0 : Nat) (0 : Nat), eI x6, PVal.ref (1 : Nat) (5 : Nat) (0 : Nat) (0 : Nat), eI (IntKind.i64.wrap (x9 + (1 : Int)))]
    [AObj.row true (27 : Nat) (5 : Nat) [PVal.agg [PVal.str o00, PVal.sl Mode.fr 2 o01, PVal.sl Mode.fr 5 o02, PVal.sl Mode.fr 4 o03, PVal.sl Mode.fr 2 o04]],
    AObj.row true (94 : Nat) (5 : Nat) [PVal.agg [PVal.str o10, eI o11, eI o12, eI o13, eI o14]]]))
  (br (decide ((1 : Int) ≤ o11))
    (br (!decide (o11 ≤ (16 : Int))) (K (PVal.tup [eI x6, eI (2 : Int)]) [])
    ((0 : Int) ≤ o11 ∧
    br (decide ((0 : Int) ≤ o12))
    (br (!decide (o12 ≤ IntKind.i64.wrap (IntKind.i64.wrap ((1 : Int) * (2 : Int) ^ min o11.toNat (64 : Nat)) - (1 : Int)))) (K (PVal.tup [eI x6, eI (2 : Int)]) [])
    (J0 [PVal.ref (0 : Nat) (5 : Nat) (0 : Nat) (0 : Nat), eI (IntKind.i64.wrap (x6 + (1 : Int)))]
    [AObj.row true (27 : Nat) (5 : Nat) [PVal.agg [PVal.str o00, PVal.sl Mode.fr 2 o01, PVal.sl Mode.fr 5 o02, PVal.sl Mode.fr 4 o03, PVal.sl Mode.fr 2 o04]]]))
    (K (PVal.tup [eI x6, eI (2 : Int)]) [])))
    (K (PVal.tup [eI x6, eI (2 : Int)]) []))) :
    L_base_NetErr_4 K J0 [PVal.ref (0 : Nat) (5 : Nat) (0 : Nat) (0 : Nat), eI x6, PVal.ref (1 : Nat) (5 : Nat) (0 : Nat) (0 : Nat), eI x9] [AObj.row true (27 : Nat) (5 : Nat) [PVal.agg [PVal.str o00, PVal.sl Mode.fr 2 o01, PVal.sl Mode.fr 5 o02, PVal.sl Mode.fr 4 o03, PVal.sl Mode.fr 2 o04]],
  AObj.row true (94 : Nat) (5 : Nat) [PVal.agg [PVal.str o10, eI o11, eI o12, eI o13, eI o14]]] :=
  r_of (n := 5) h (by kernel_rfl)
theorem e_graph_CheckNodes (K : PVal → List AObj → Prop) (leaves' : List PVal) (nodes' : List PVal)
    (h : br (decide ((↑leaves'.length : Int) > (40 : Int))) (K (PVal.tup [eI (0 : Int), eI (8 : Int)]) [])
  ((sp_graph_each_int [PVal.sl Mode.fr 1 leaves', PVal.fn (170 : Nat) []] []).pre ∧
    br (!decide ((firstE (0 : Nat) (List.map widthE (dInts leaves'))).snd = (0 : Int)))
    (K (PVal.tup [eI (firstE (0 : Nat) (List.map widthE (dInts leaves'))).fst, eI (firstE (0 : Nat) (List.map widthE (dInts leaves'))).snd]) [])
    (br (decide ((↑nodes'.length : Int) > (400 : Int))) (K (PVal.tup [eI (0 : Int), eI (8 : Int)]) [])
    ((sp_graph_each_api_Node [PVal.sl Mode.fr 4 nodes', PVal.fn (175 : Nat) [PVal.fptr false opsV, PVal.fptr false (PVal.sl Mode.fr 1 leaves'), PVal.fptr false (PVal.sl Mode.fr 4 nodes')]] []).pre ∧
    K
    (PVal.tup
    [eI (firstE (0 : Nat) (nodeEs (dInts leaves') (List.map dNode nodes') (0 : Nat) (List.map dNode nodes'))).fst,
    eI (firstE (0 : Nat) (nodeEs (dInts leaves') (List.map dNode nodes') (0 : Nat) (List.map dNode nodes'))).snd])
    [])))) :
    CallP env3 134 [PVal.sl Mode.fr 1 leaves', PVal.sl Mode.fr 4 nodes'] [] K :=
  e_of (n := 6) h (by kernel_rfl)
def L_retime_net_ends_0 (K : PVal → List AObj → Prop) (vs : List PVal) (os : List AObj) : Prop := LoopP env3 0 52 0 (cd env3 52 [1, 1, 0, 1, 0, 0]) vs os (kat env3 5 0 52 [1, 1, 0, 1, 0] K [])
def L_retime_net_ends_2 (K : PVal → List AObj → Prop) (vs : List PVal) (os : List AObj) : Prop := LoopP env3 0 52 2 (cd env3 52 [1, 1, 1, 0, 1, 0, 0]) vs os (kat env3 5 0 52 [1, 1, 1, 0, 1, 0] K [])
theorem e_retime_net_ends (K : PVal → List AObj → Prop) (n'NetlistName : ByteArray) (n'NetlistInputs : List PVal) (n'NetlistRegisters : List PVal) (n'NetlistNodes : List PVal) (n'NetlistOutputs : List PVal)
    (h : L_retime_net_ends_0 K [PVal.ref (0 : Nat) (5 : Nat) (0 : Nat) (0 : Nat), PVal.own (1 : Nat), PVal.sl Mode.fr 2 n'NetlistOutputs, eI (↑n'NetlistOutputs.length : Int), eI (0 : Int)]
  [AObj.row true (81 : Nat) (5 : Nat) [PVal.agg [PVal.str n'NetlistName, PVal.sl Mode.fr 2 n'NetlistInputs, PVal.sl Mode.fr 5 n'NetlistRegisters, PVal.sl Mode.fr 4 n'NetlistNodes, PVal.sl Mode.fr 2 n'NetlistOutputs]],
    AObj.row false (3 : Nat) (1 : Nat) []]) :
    CallP env3 52 [PVal.agg [PVal.str n'NetlistName, PVal.sl Mode.fr 2 n'NetlistInputs, PVal.sl Mode.fr 5 n'NetlistRegisters, PVal.sl Mode.fr 4 n'NetlistNodes, PVal.sl Mode.fr 2 n'NetlistOutputs]] [] K :=
  e_of (n := 6) h (by kernel_rfl)
theorem r_retime_net_ends_0 (K : PVal → List AObj → Prop) (x10 : List PVal) (x11 : Int) (x12 : Int) (o00 : ByteArray) (o01 : List PVal) (o02 : List PVal) (o03 : List PVal) (o04 : List PVal) (o1 : List PVal)
    (h : br (decide (x12 < x11))
  ((((0 : Int) ≤ x12 ∧ x12 < (↑x10.length : Int)) ∧ getP x10 x12.toNat = PVal.agg [PVal.str (asS (cellAt (getP x10 x12.toNat) (0 : Nat))), eI (asI (cellAt (getP x10 x12.toNat) (1 : Nat)))]) ∧
    ((o1.length + (1 : Nat)) * (8 : Nat) ≤ (140737488355328 : Nat) ∧ o1.length + (1 : Nat) ≤ (9223372036854775807 : Nat)) ∧
    L_retime_net_ends_0 K [PVal.ref (0 : Nat) (5 : Nat) (0 : Nat) (0 : Nat), PVal.own (1 : Nat), PVal.sl Mode.fr 2 x10, eI x11, eI (IntKind.i64.wrap (x12 + (1 : Int)))]
    [AObj.row true (81 : Nat) (5 : Nat) [PVal.agg [PVal.str o00, PVal.sl Mode.fr 2 o01, PVal.sl Mode.fr 5 o02, PVal.sl Mode.fr 4 o03, PVal.sl Mode.fr 2 o04]],
    AObj.row false (3 : Nat) (1 : Nat) (o1 ++ [eI (asI (cellAt (getP x10 x12.toNat) (1 : Nat)))])])
  (L_retime_net_ends_2 K [PVal.own (0 : Nat), PVal.sl Mode.fr 5 o02, eI (↑o02.length : Int), eI (0 : Int)] [AObj.row false (3 : Nat) (1 : Nat) o1])) :
    L_retime_net_ends_0 K [PVal.ref (0 : Nat) (5 : Nat) (0 : Nat) (0 : Nat), PVal.own (1 : Nat), PVal.sl Mode.fr 2 x10, eI x11, eI x12] [AObj.row true (81 : Nat) (5 : Nat) [PVal.agg [PVal.str o00, PVal.sl Mode.fr 2 o01, PVal.sl Mode.fr 5 o02, PVal.sl Mode.fr 4 o03, PVal.sl Mode.fr 2 o04]], AObj.row false (3 : Nat) (1 : Nat) o1] :=
  r_of (n := 5) h (by kernel_rfl)
theorem r_retime_net_ends_2 (K : PVal → List AObj → Prop) (x24 : List PVal) (x25 : Int) (x26 : Int) (o0 : List PVal)
    (h : br (decide (x26 < x25))
  ((((0 : Int) ≤ x26 ∧ x26 < (↑x24.length : Int)) ∧
    getP x24 x26.toNat =
    PVal.agg
    [PVal.str (asS (cellAt (getP x24 x26.toNat) (0 : Nat))), eI (asI (cellAt (getP x24 x26.toNat) (1 : Nat))), eI (asI (cellAt (getP x24 x26.toNat) (2 : Nat))),
    eI (asI (cellAt (getP x24 x26.toNat) (3 : Nat))), eI (asI (cellAt (getP x24 x26.toNat) (4 : Nat)))]) ∧
    ((o0.length + (2 : Nat)) * (8 : Nat) ≤ (140737488355328 : Nat) ∧ o0.length + (2 : Nat) ≤ (9223372036854775807 : Nat)) ∧
    L_retime_net_ends_2 K [PVal.own (0 : Nat), PVal.sl Mode.fr 5 x24, eI x25, eI (IntKind.i64.wrap (x26 + (1 : Int)))]
    [AObj.row false (3 : Nat) (1 : Nat) (o0 ++ [eI (asI (cellAt (getP x24 x26.toNat) (3 : Nat))), eI (asI (cellAt (getP x24 x26.toNat) (4 : Nat)))])])
  ((sp_slices_Sort_int_int [PVal.own (0 : Nat)] [AObj.row false (3 : Nat) (1 : Nat) o0]).pre ∧
    (sp_slices_Compact_int_int [PVal.own (0 : Nat)] [AObj.row false (3 : Nat) (1 : Nat) (List.map eI (sortI (rowL [AObj.row false (3 : Nat) (1 : Nat) o0] (0 : Nat))))]).pre ∧
    K (PVal.sl Mode.fr 1 (List.map eI (compI (rowL [AObj.row false (3 : Nat) (1 : Nat) (List.map eI (sortI (rowL [AObj.row false (3 : Nat) (1 : Nat) o0] (0 : Nat))))] (0 : Nat))))) [])) :
    L_retime_net_ends_2 K [PVal.own (0 : Nat), PVal.sl Mode.fr 5 x24, eI x25, eI x26] [AObj.row false (3 : Nat) (1 : Nat) o0] :=
  r_of (n := 5) h (by kernel_rfl)
end Go.Pvm.Seat
set_option maxHeartbeats 1000000
namespace Go.Pvm.Seat
open Go
theorem graph_CheckNodes_ok (K : PVal → List AObj → Prop) (leaves : List Int) (nodes : List Node) (hl : leaves.length ≤ 1048576) (hn : nodes.length ≤ 1048576) (hx : ∀ x ∈ nodes, x.args.length ≤ 1048576)
    (hK : K (.tup [eI (checkNodesE leaves nodes).1, eI (checkNodesE leaves nodes).2]) []) : CallP env3 F_graph_CheckNodes [eInts leaves, eNodes nodes] [] K := by
  apply e_graph_CheckNodes
  simp only [List.length_map, dInts_map, dNodes_map]
  refine br_d (fun h => ?_) (fun h => ⟨⟨?_, rfl, ?_⟩, br_n (fun h2 => ?_) (fun h2 => br_d (fun h3 => ?_) (fun h3 => ⟨⟨?_, rfl, ?_⟩, ?_⟩))⟩)
  · rwa [checkNodesE, if_pos (by omega)] at hK
  · simp only [aIs_0]
  · simp only [aIs_0]; exact hl
  · rwa [checkNodesE, if_neg (by omega), if_pos h2] at hK
  · rwa [checkNodesE, if_neg (by omega), if_neg (by simp [h2]), nodesE, if_pos (by omega)] at hK
  · simp only [aNs_0, capB, List.getD_cons_zero, List.getD_cons_succ, asL_sl, dInts_map]
  · simp only [aNs_0, capB, List.getD_cons_zero, List.getD_cons_succ, asL_sl, dInts_map]; exact ⟨hl, hn, hx⟩
  · rwa [checkNodesE, if_neg (by omega), if_neg (by simp [h2]), nodesE, if_neg (by omega)] at hK
theorem retime_net_ends_loop2 (K : PVal → List AObj → Prop) (n : Net) (hn : n.regs.length ≤ 1048576) (hm : n.outputs.length ≤ 1048576) (hK : K (eInts (compI (sortI (namedF n)))) []) : ∀ k i : Nat, i + k = n.regs.length → ∀ o : List Int, o ++ ((n.regs.drop i).flatMap fun r => [r.enable, r.next]) = namedF n → o.length = n.outputs.length + 2 * i →
    L_retime_net_ends_2 K [.own 0, eRegs n.regs, eI n.regs.length, eI i] [.row false T_int 1 (o.map eI)] := by
  intro k
  induction k with
  | zero =>
    intro i hi o ho hol
    apply r_retime_net_ends_2
    refine br_neg (by omega) ?_
    rw [List.drop_eq_nil_of_le (by omega)] at ho
    simp only [List.flatMap_nil, List.append_nil] at ho
    have hr : ∀ (os : List Int), rowL [.row false 3 1 (os.map eI)] 0 = os := fun os => dInts_map os
    subst ho
    simp only [hr]
    refine ⟨⟨rfl, ?_, ?_⟩, ⟨rfl, ?_, ?_⟩, hK⟩
    · simp only [hr]
    · simp only [hr]; omega
    · simp only [hr]
    · simp only [hr]; rw [sortI_length]; omega
  | succ k ih =>
    intro i hi o ho hol
    apply r_retime_net_ends_2
    refine br_pos (by omega) ?_
    have hi1 : i < n.regs.length := by omega
    simp (disch := omega) only [List.length_map, natCast_toNat, getP_regs, asI_int, asS_str, cellAt_agg, List.getD_cons_zero, List.getD_cons_succ, Int.natCast_nonneg, Int.ofNat_lt, true_and, and_true, wrap_succ, hi1]
    rw [drop_at hi1] at ho
    refine ⟨by omega, ?_⟩
    rw [show o.map eI ++ [PVal.int IntKind.i64 (n.regs.getD i default).enable, PVal.int IntKind.i64 (n.regs.getD i default).next] = (o ++ [(n.regs.getD i default).enable, (n.regs.getD i default).next]).map eI by simp]
    exact ih (i+1) (by omega) _ (by rw [← ho]; simp) (by simp; omega)
theorem retime_net_ends_loop (K : PVal → List AObj → Prop) (n : Net) (hn : n.regs.length ≤ 1048576) (hm : n.outputs.length ≤ 1048576) (hK : K (eInts (compI (sortI (namedF n)))) []) : ∀ k i : Nat, i + k = n.outputs.length → ∀ o : List Int, o ++ (n.outputs.drop i).map Outp.node ++ (n.regs.flatMap fun r => [r.enable, r.next]) = namedF n → o.length = i →
    L_retime_net_ends_0 K [.ref 0 5 0 0, .own 1, eOutps n.outputs, eI n.outputs.length, eI i] [.row true T_retime_net 5 [eNet n], .row false T_int 1 (o.map eI)] := by
  intro k
  induction k with
  | zero =>
    intro i hi o ho hol
    apply r_retime_net_ends_0
    refine br_neg (by omega) ?_
    rw [List.drop_eq_nil_of_le (by omega), List.map_nil, List.append_nil] at ho
    simp only [List.length_map]
    exact retime_net_ends_loop2 K n hn hm hK n.regs.length 0 (by omega) o (by simpa using ho) (by omega)
  | succ k ih =>
    intro i hi o ho hol
    apply r_retime_net_ends_0
    refine br_pos (by omega) ?_
    have hi1 : i < n.outputs.length := by omega
    simp (disch := omega) only [List.length_map, natCast_toNat, getP_outps, asI_int, asS_str, cellAt_agg, List.getD_cons_zero, List.getD_cons_succ, Int.natCast_nonneg, Int.ofNat_lt, true_and, and_true, wrap_succ, hi1]
    rw [drop_at hi1] at ho
    refine ⟨by omega, ?_⟩
    rw [show o.map eI ++ [PVal.int IntKind.i64 (n.outputs.getD i default).node] = (o ++ [(n.outputs.getD i default).node]).map eI by simp]
    exact ih (i+1) (by omega) _ (by rw [← ho]; simp) (by simp; omega)
theorem retime_net_ends_ok (K : PVal → List AObj → Prop) (n : Net) (hn : n.regs.length ≤ 1048576) (hm : n.outputs.length ≤ 1048576) (hK : K (eInts (compI (sortI (namedF n)))) []) : CallP env3 F_retime_net_ends [eNet n] [] K := by
  apply e_retime_net_ends
  simp only [List.length_map]
  exact retime_net_ends_loop K n hn hm hK n.outputs.length 0 (by omega) [] (by simp [namedF]) rfl

theorem base_NetErr_6 (K : PVal → List AObj → Prop) (n : Net) (hs : Small n) : ∀ m i : Nat, i + m = n.regs.length →
    K (.tup [eI (if (firstE i ((n.regs.drop i).map (regW n.nodes))).2 ≠ 0 then firstE i ((n.regs.drop i).map (regW n.nodes)) else outsE n.nodes n.outputs).1, eI (if (firstE i ((n.regs.drop i).map (regW n.nodes))).2 ≠ 0 then firstE i ((n.regs.drop i).map (regW n.nodes)) else outsE n.nodes n.outputs).2]) [] →
    L_base_NetErr_6 K [.ref 0 5 0 0, eI i] [.row true T_api_Netlist 5 [eNet n]] := by
  obtain ⟨s1, s2, s3, s4, s5, s6, s7, s8, s9⟩ := hs
  intro m
  induction m with
  | zero =>
    intro i hi hK
    apply r_base_NetErr_6
    refine br_neg (by simp; omega) ?_
    rw [List.drop_eq_nil_of_le (by omega), List.map_nil, firstE, if_neg (by simp)] at hK
    simp only [dNodes_map, dOutps_map]
    refine ⟨⟨?_, rfl, ?_⟩, hK⟩
    · simp only [aNs_0, aOs_1]
    · simp only [aNs_0, aOs_1]; exact ⟨s4, s5⟩
  | succ m ih =>
    intro i hi hK
    apply r_base_NetErr_6
    have h1 : i < n.regs.length := by omega
    refine br_pos (by simp; omega) ?_
    rw [drop_at h1, List.map_cons, firstE] at hK
    simp (disch := omega) only [List.length_map, natCast_toNat, getP_regs, asI_int, asS_str, asB_bool, cellAt_agg, List.getD_cons_zero, List.getD_cons_succ, Int.natCast_nonneg, Int.ofNat_lt, true_and, and_true, wrap_succ, wrap64, h1]
    generalize n.regs.getD i default = p at *
    have hErr : ∀ e, regW n.nodes p = e → e ≠ 0 → K (.tup [eI i, eI e]) [] := fun e he h => by
      have e1 : (if regW n.nodes p = 0 then firstE (i + 1) ((n.regs.drop (i + 1)).map (regW n.nodes)) else ((i : Int), regW n.nodes p)) = ((i : Int), e) := by rw [if_neg (by rw [he]; exact h), he]
      rw [e1, if_pos h] at hK; exact hK
    have hOk : regW n.nodes p = 0 → L_base_NetErr_6 K [.ref 0 5 0 0, eI ((i + 1 : Nat) : Int)] [.row true T_api_Netlist 5 [eNet n]] := fun h => by
      have e1 : (if regW n.nodes p = 0 then firstE (i + 1) ((n.regs.drop (i + 1)).map (regW n.nodes)) else ((i : Int), regW n.nodes p)) = firstE (i + 1) ((n.regs.drop (i + 1)).map (regW n.nodes)) := if_pos h
      rw [e1] at hK
      exact ih (i+1) (by omega) hK
    clear hK
    have h9 : ¬ (isNodeB n.nodes p.enable = true ∧ (n.nodes.getD p.enable.toNat default).width = 1 ∧ isNodeB n.nodes p.next = true) → K (.tup [eI i, eI 9]) [] := fun h => hErr 9 (by rw [regW, if_pos h]) (by decide)
    have hb : ∀ k, isNodeB n.nodes k = true ↔ (0 ≤ k ∧ k < (n.nodes.length : Int)) := fun k => by simp [isNodeB]
    refine br_d (fun e0 => br_d (fun e1 => ?_) (fun e1 => ?_)) (fun e0 => ?_)
    · rw [getP_nodes _ _ (by omega)]
      simp only [asI_int, cellAt_agg, List.getD_cons_zero, List.getD_cons_succ, asL_sl]
      refine ⟨⟨by omega, trivial⟩, br_n (fun e2 => h9 fun h => e2 h.2.1) (fun e2 => ?_)⟩
      refine br_d (fun e3 => br_n (fun e4 => ?_) (fun e4 => ?_)) (fun e3 => ?_)
      · exact h9 fun h => e4 (by have := (hb _).1 h.2.2; omega)
      · rw [getP_nodes _ _ (by omega)]
        simp only [asI_int, cellAt_agg, List.getD_cons_zero, List.getD_cons_succ, asL_sl]
        have hc : isNodeB n.nodes p.enable = true ∧ (n.nodes.getD p.enable.toNat default).width = 1 ∧ isNodeB n.nodes p.next = true := ⟨(hb _).2 (by omega), e2, (hb _).2 (by omega)⟩
        refine ⟨⟨by omega, trivial⟩, br_n (fun e5 => hErr 25 ?_ (by decide)) (fun e5 => hOk ?_)⟩
        · rw [regW, if_neg (fun h => h hc), if_neg e5]
        · rw [regW, if_neg (fun h => h hc), if_pos e5]
      · exact h9 fun h => e3 (by have := (hb _).1 h.2.2; omega)
    · exact h9 fun h => e1 (by have := (hb _).1 h.1; omega)
    · exact h9 fun h => e0 (by have := (hb _).1 h.1; omega)
theorem base_NetErr_4 (K : PVal → List AObj → Prop) (J0 : List PVal → List AObj → Prop) (n : Net) (r : Reg) (i : Nat) (hi : i ≤ 1048576) (hm : n.inputs.length ≤ 1048576)
    (h5 : r.name ∈ n.inputs.map Port.name → K (.tup [eI i, eI 5]) [])
    (hT : r.name ∉ n.inputs.map Port.name → ((1 ≤ r.width ∧ r.width ≤ 16) ∧ fitsB r.init r.width = true) → J0 [.ref 0 5 0 0, eI ((i + 1 : Nat) : Int)] [.row true T_api_Netlist 5 [eNet n]])
    (hF : r.name ∉ n.inputs.map Port.name → ¬ ((1 ≤ r.width ∧ r.width ≤ 16) ∧ fitsB r.init r.width = true) → K (.tup [eI i, eI 2]) []) :
    ∀ m j : Nat, j + m = n.inputs.length → r.name ∉ (n.inputs.take j).map Port.name → L_base_NetErr_4 K J0 [.ref 0 5 0 0, eI i, .ref 1 5 0 0, eI j] [.row true T_api_Netlist 5 [eNet n], .row true T_api_NetRegister 5 [eReg r]] := by
  intro m
  induction m with
  | zero =>
    intro j hj hn
    rw [List.take_of_length_le (by omega)] at hn
    replace hT := hT hn
    replace hF := hF hn
    apply r_base_NetErr_4
    refine br_neg (by simp; omega) ?_
    simp (disch := omega) only [wrap_succ]
    refine br_d (fun e0 => br_n (fun e1 => hF (by omega)) (fun e1 => ?_)) (fun e0 => hF (by omega))
    rw [powW (by omega)]
    have hfT : (0 ≤ r.init ∧ r.init ≤ 2 ^ r.width.toNat - 1) → fitsB r.init r.width = true := fun h => decide_eq_true h
    have hfF : ¬ (0 ≤ r.init ∧ r.init ≤ 2 ^ r.width.toNat - 1) → ¬ ((1 ≤ r.width ∧ r.width ≤ 16) ∧ fitsB r.init r.width = true) := fun h h' => by rw [fitsB, decide_eq_false h] at h'; simp at h'
    refine ⟨by omega, br_d (fun e2 => br_n (fun e3 => hF (hfF (by omega))) (fun e3 => hT ⟨by omega, hfT (by omega)⟩)) (fun e2 => hF (hfF (by omega)))⟩
  | succ m ih =>
    intro j hj hn
    apply r_base_NetErr_4
    have h1 : j < n.inputs.length := by omega
    refine br_pos (by simp; omega) ?_
    simp (disch := omega) only [List.length_map, natCast_toNat, getP_ports, asI_int, asS_str, asB_bool, cellAt_agg, List.getD_cons_zero, List.getD_cons_succ, Int.natCast_nonneg, Int.ofNat_lt, true_and, and_true, wrap_succ, h1]
    refine br_d (fun e => h5 ?_) (fun e => ih (j+1) (by omega) ?_)
    · rw [← e]; exact List.mem_map.2 ⟨_, mem_getD h1, rfl⟩
    · rw [List.take_succ_eq_append_getElem h1, List.map_append, List.mem_append]
      rintro (h | h)
      · exact hn h
      · rw [List.getD_eq_getElem?_getD, List.getElem?_eq_getElem h1] at e
        simp at h; exact e h.symm
theorem base_NetErr_2 (K : PVal → List AObj → Prop) (J0 : List PVal → List AObj → Prop) (n : Net) (r : Reg) (i : Nat) (hi : i ≤ n.regs.length) (hl : n.regs.length ≤ 1048576)
    (h5 : r.name ∈ (n.regs.take i).map Reg.name → K (.tup [eI i, eI 5]) [])
    (h0 : r.name ∉ (n.regs.take i).map Reg.name → L_base_NetErr_4 K J0 [.ref 0 5 0 0, eI i, .ref 1 5 0 0, eI 0] [.row true T_api_Netlist 5 [eNet n], .row true T_api_NetRegister 5 [eReg r]]) :
    ∀ m j : Nat, j + m = i → (∀ k, k < j → (n.regs.getD k default).name ≠ r.name) → L_base_NetErr_2 K J0 [.ref 0 5 0 0, eI i, .ref 1 5 0 0, eI j] [.row true T_api_Netlist 5 [eNet n], .row true T_api_NetRegister 5 [eReg r]] := by
  intro m
  induction m with
  | zero =>
    intro j hj hne
    apply r_base_NetErr_2
    refine br_neg (by omega) ?_
    exact h0 (not_seen (nm := Reg.name) (by omega) fun k hk => hne k (by omega))
  | succ m ih =>
    intro j hj hne
    apply r_base_NetErr_2
    have h1 : j < n.regs.length := by omega
    refine br_pos (by omega) ?_
    simp (disch := omega) only [List.length_map, natCast_toNat, getP_regs, asI_int, asS_str, asB_bool, cellAt_agg, List.getD_cons_zero, List.getD_cons_succ, Int.natCast_nonneg, Int.ofNat_lt, true_and, and_true, wrap_succ, h1]
    refine br_d (fun e => h5 ?_) (fun e => ih (j+1) (by omega) fun k hk => ?_)
    · rw [← e]; exact is_seen (nm := Reg.name) (by omega) (by omega)
    · by_cases hkj : k = j
      · subst hkj; exact e
      · exact hne k (by omega)
/-- what comes after the registers' names -/
def tailE (n : Net) : Int × Int :=
  if (nodesE (leavesF n) n.nodes).2 ≠ 0 then nodesE (leavesF n) n.nodes
  else if (firstE 0 (n.regs.map (regW n.nodes))).2 ≠ 0 then firstE 0 (n.regs.map (regW n.nodes))
  else outsE n.nodes n.outputs
theorem base_NetErr_0 (K : PVal → List AObj → Prop) (n : Net) (hs : Small n) (h40 : n.inputs.length + n.regs.length ≤ 40) : ∀ m i : Nat, i + m = n.regs.length → ∀ seen, (∀ s, has seen s = true ↔ (s ∈ n.inputs.map Port.name ∨ s ∈ (n.regs.take i).map Reg.name)) →
    K (.tup [eI (if (namesGo regE Reg.name seen i (n.regs.drop i)).2.1 ≠ 0 then ((namesGo regE Reg.name seen i (n.regs.drop i)).1, (namesGo regE Reg.name seen i (n.regs.drop i)).2.1) else tailE n).1, eI (if (namesGo regE Reg.name seen i (n.regs.drop i)).2.1 ≠ 0 then ((namesGo regE Reg.name seen i (n.regs.drop i)).1, (namesGo regE Reg.name seen i (n.regs.drop i)).2.1) else tailE n).2]) [] →
    L_base_NetErr_0 K [.ref 0 5 0 0, eI i] [.row true T_api_Netlist 5 [eNet n]] := by
  obtain ⟨s1, s2, s3, s4, s5, s6, s7, s8, s9⟩ := id hs
  intro m
  induction m with
  | zero =>
    intro i hi seen hseen hK
    apply r_base_NetErr_0
    refine br_neg (by simp; omega) ?_
    rw [List.drop_eq_nil_of_le (by omega), namesGo, if_neg (by simp), tailE] at hK
    have hll : (leavesF n).length ≤ 1048576 := by simp [leavesF]; omega
    simp only [dNet_e, asL_sl, dInts_map, dNodes_map]
    refine ⟨⟨?_, rfl, ?_⟩, ⟨?_, rfl, ?_⟩, br_n (fun h => ?_) (fun h => ?_)⟩
    · simp only [aN_0]
    · simp only [aN_0]; exact ⟨s3, s2⟩
    · simp only [aIs_0, aNs_1]
    · simp only [aIs_0, aNs_1]; exact ⟨hll, s4, s6⟩
    · rwa [if_pos h] at hK
    · rw [if_neg (by simpa using h)] at hK
      exact base_NetErr_6 K n hs n.regs.length 0 (by omega) (by simpa using hK)
  | succ m ih =>
    intro i hi seen hseen hK
    apply r_base_NetErr_0
    have h1 : i < n.regs.length := by omega
    refine br_pos (by simp; omega) ?_
    rw [drop_at h1, namesGo] at hK
    simp (disch := omega) only [List.length_map, natCast_toNat, getP_regs, asI_int, asS_str, asB_bool, cellAt_agg, List.getD_cons_zero, List.getD_cons_succ, Int.natCast_nonneg, Int.ofNat_lt, true_and, and_true, wrap_succ, wrap64, h1]
    have hnext : ∀ s, has (ins seen (n.regs.getD i default).name) s = true ↔ (s ∈ n.inputs.map Port.name ∨ s ∈ (n.regs.take (i + 1)).map Reg.name) := fun s => by
      rw [has_ins, Bool.or_eq_true, hseen s, List.take_succ_eq_append_getElem h1, List.map_append, List.mem_append, decide_eq_true_eq, or_assoc, List.getD_eq_getElem?_getD, List.getElem?_eq_getElem h1]
      simp
    have hsn := hseen (n.regs.getD i default).name
    generalize hr : n.regs.getD i default = r at *
    have hErr : ∀ e, regE seen r = e → e ≠ 0 → K (.tup [eI i, eI e]) [] := fun e he h => by
      have e1 : (if regE seen r = 0 then namesGo regE Reg.name (ins seen r.name) (i + 1) (n.regs.drop (i + 1)) else ((i : Int), regE seen r, ins seen r.name)) = ((i : Int), e, ins seen r.name) := by rw [if_neg (by rw [he]; exact h), he]
      rw [e1, if_pos h] at hK; exact hK
    have hOk : regE seen r = 0 → L_base_NetErr_0 K [.ref 0 5 0 0, eI ((i + 1 : Nat) : Int)] [.row true T_api_Netlist 5 [eNet n]] := fun h => by
      have e1 : (if regE seen r = 0 then namesGo regE Reg.name (ins seen r.name) (i + 1) (n.regs.drop (i + 1)) else ((i : Int), regE seen r, ins seen r.name)) = namesGo regE Reg.name (ins seen r.name) (i + 1) (n.regs.drop (i + 1)) := if_pos h
      rw [e1] at hK
      exact ih (i+1) (by omega) _ hnext hK
    clear hK
    refine ⟨⟨rfl, rfl, trivial⟩, br_nb (fun hn => hErr 4 ?_ (by decide)) (fun hn => ?_)⟩
    · simp only [regE, nameE, hn, or0]; rfl
    · refine base_NetErr_2 K _ n r i (by omega) s3 (fun h => hErr 5 ?_ (by decide)) (fun h => ?_) i 0 (by omega) (fun k hk => by omega)
      · simp only [regE, nameE, hn, hsn.2 (.inr h), or0]; rfl
      · refine base_NetErr_4 K _ n r i (by omega) s2 (fun h' => hErr 5 ?_ (by decide)) (fun h' hc => hOk ?_) (fun h' hc => hErr 2 ?_ (by decide)) n.inputs.length 0 (by omega) (by simp)
        · simp only [regE, nameE, hn, hsn.2 (.inl h'), or0]; rfl
        all_goals
          have hf : has seen r.name = false := by
            cases hh : has seen r.name with
            | false => rfl
            | true => exact ((hsn.1 hh).elim h' h).elim
        · simp only [regE, nameE, hn, hf, or0, if_pos hc]; rfl
        · simp only [regE, nameE, hn, hf, or0, if_neg hc]; rfl
theorem base_NetErr_ok (K : PVal → List AObj → Prop) (n : Net) (hs : Small n) (hK : K (.tup [eI (netE n).1, eI (netE n).2]) []) : CallP env3 F_base_NetErr [eNet n] [] K := by
  obtain ⟨s1, s2, s3, s4, s5, s6, s7, s8, s9⟩ := id hs
  apply e_base_NetErr
  simp (disch := omega) only [List.length_map, dPorts_map, wrap64]
  refine ⟨⟨rfl, rfl, trivial⟩, br_nb (fun h => ?_) (fun h => ⟨⟨?_, rfl, ?_⟩, br_n (fun h2 => ?_) (fun h2 => br_d (fun h3 => ?_) (fun h3 => ?_))⟩)⟩
  · rwa [netE, if_pos h] at hK
  · simp only [aPs_0]
  · simp only [aPs_0]; exact s2
  · rwa [netE, if_neg (by simp [h]), if_pos h2] at hK
  · rwa [netE, if_neg (by simp [h]), if_neg (by simpa using h2), if_pos (by omega)] at hK
  · rw [netE, if_neg (by simp [h]), if_neg (by simpa using h2), if_neg (by omega)] at hK
    have hz : (namesGo portE Port.name [] 0 n.inputs).2.1 = 0 := by
      unfold portsE at h2
      split at h2
      · simp at h2
      · exact h2
    refine base_NetErr_0 K n hs (by omega) n.regs.length 0 (by omega) (namesGo portE Port.name [] 0 n.inputs).2.2 (fun s => ?_) ?_
    · rw [namesGo_seen n.inputs [] 0 hz s]; simp [has]
    · rw [List.drop_zero]; exact hK
end Go.Pvm.Seat
namespace Go.Pvm.Seat
open Go
theorem all4 (h3 : AllOK specs3) : AllOK specs4 := by
  refine allOK_cons (specOK h3 fun av os hp => ?_) (allOK_cons (specOK h3 fun av os hp => ?_) (allOK_cons (specOK h3 fun av os hp => ?_) h3))
  · obtain ⟨h1, h2, h3⟩ := hp
    unfold sp_base_NetErr
    dsimp only at h1 h2 h3 ⊢
    generalize aN av 0 = n at *
    subst h1 h2
    exact base_NetErr_ok _ _ h3 ⟨rfl, rfl⟩
  · obtain ⟨h1, h2, h3⟩ := hp
    unfold sp_graph_CheckNodes
    dsimp only at h1 h2 h3 ⊢
    generalize aIs av 0 = l at *
    generalize aNs av 1 = m at *
    subst h1 h2
    exact graph_CheckNodes_ok _ _ _ h3.1 h3.2.1 h3.2.2 ⟨rfl, rfl⟩
  · obtain ⟨h1, h2, h3⟩ := hp
    unfold sp_retime_net_ends
    dsimp only at h1 h2 h3 ⊢
    generalize aN av 0 = n at *
    subst h1 h2
    exact retime_net_ends_ok _ _ h3.1 h3.2 ⟨rfl, rfl⟩
end Go.Pvm.Seat
