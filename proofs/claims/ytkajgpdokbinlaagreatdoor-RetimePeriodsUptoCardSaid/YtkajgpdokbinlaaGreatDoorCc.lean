/- RetimePeriods (second form, tied card): the law answers true at every netlist and list of delays whose reading is of bulk at most 1048576, and the input reads as it did; no further condition. This text: part Cc (R1). -/
import Derived.Test.YtkajgpdokbinlaaGreatDoorBa
set_option linter.unusedVariables false
set_option linter.unusedSimpArgs false
set_option linter.unnecessarySimpa false
set_option maxHeartbeats 4000000
namespace Go.Pvm.Seat
open Go
def L_base_PortsErr_0 (K : PVal → List AObj → Prop) (vs : List PVal) (os : List AObj) : Prop := LoopP env1 0 86 0 (cd env1 86 [1, 1, 0, 1, 0, 0]) vs os (kat env1 5 0 86 [1, 1, 0, 1, 0] K [])
def L_base_PortsErr_2 (K : PVal → List AObj → Prop) (J0 : List PVal → List AObj → Prop) (vs : List PVal) (os : List AObj) : Prop := LoopP env1 0 86 2 (cd env1 86 [1, 1, 0, 1, 0, 0, 1, 0, 0, 1, 0, 1, 0, 0]) vs os (kat env1 5 0 86 [1, 1, 0, 1, 0, 0, 1, 0, 0, 1, 0, 1, 0] K [J0])
theorem e_base_PortsErr (K : PVal → List AObj → Prop) (l' : List PVal)
    (h : br (decide ((↑l'.length : Int) > (12 : Int))) (K (PVal.tup [eI (0 : Int), eI (8 : Int)]) []) (L_base_PortsErr_0 K [PVal.sl Mode.fr 2 l', eI (0 : Int)] [])) :
    CallP env1 86 [PVal.sl Mode.fr 2 l'] [] K :=
  e_of (n := 6) h (by kernel_rfl)
theorem r_base_PortsErr_0 (K : PVal → List AObj → Prop) (l' : List PVal) (i' : Int)
    (h : br (decide (i' < (↑l'.length : Int)))
  ((((0 : Int) ≤ i' ∧ i' < (↑l'.length : Int)) ∧ getP l' i'.toNat = PVal.agg [PVal.str (asS (cellAt (getP l' i'.toNat) (0 : Nat))), eI (asI (cellAt (getP l' i'.toNat) (1 : Nat)))]) ∧
    (sp_base_IsName [PVal.str (asS (cellAt (getP l' i'.toNat) (0 : Nat)))] []).pre ∧
    br (!isName (asS (cellAt (getP l' i'.toNat) (0 : Nat)))) (K (PVal.tup [eI i', eI (4 : Int)]) []) (L_base_PortsErr_2 K (L_base_PortsErr_0 K) [PVal.sl Mode.fr 2 l', eI i', eI (0 : Int)] []))
  (K (PVal.tup [eI (0 : Int), eI (0 : Int)]) [])) :
    L_base_PortsErr_0 K [PVal.sl Mode.fr 2 l', eI i'] [] :=
  r_of (n := 5) h (by kernel_rfl)
theorem r_base_PortsErr_2 (K : PVal → List AObj → Prop) (J0 : List PVal → List AObj → Prop) (l' : List PVal) (i' : Int) (k' : Int)
    (h : br (decide (k' < i'))
  ((((0 : Int) ≤ k' ∧ k' < (↑l'.length : Int)) ∧ getP l' k'.toNat = PVal.agg [PVal.str (asS (cellAt (getP l' k'.toNat) (0 : Nat))), eI (asI (cellAt (getP l' k'.toNat) (1 : Nat)))]) ∧
    (((0 : Int) ≤ i' ∧ i' < (↑l'.length : Int)) ∧ getP l' i'.toNat = PVal.agg [PVal.str (asS (cellAt (getP l' i'.toNat) (0 : Nat))), eI (asI (cellAt (getP l' i'.toNat) (1 : Nat)))]) ∧
    br (decide (asS (cellAt (getP l' k'.toNat) (0 : Nat)) = asS (cellAt (getP l' i'.toNat) (0 : Nat)))) (K (PVal.tup [eI i', eI (5 : Int)]) [])
    (L_base_PortsErr_2 K J0 [PVal.sl Mode.fr 2 l', eI i', eI (IntKind.i64.wrap (k' + (1 : Int)))] []))
  ((((0 : Int) ≤ i' ∧ i' < (↑l'.length : Int)) ∧ getP l' i'.toNat = PVal.agg [PVal.str (asS (cellAt (getP l' i'.toNat) (0 : Nat))), eI (asI (cellAt (getP l' i'.toNat) (1 : Nat)))]) ∧
    br (decide ((1 : Int) ≤ asI (cellAt (getP l' i'.toNat) (1 : Nat))))
    (br (!decide (asI (cellAt (getP l' i'.toNat) (1 : Nat)) ≤ (16 : Int))) (K (PVal.tup [eI i', eI (2 : Int)]) []) (J0 [PVal.sl Mode.fr 2 l', eI (IntKind.i64.wrap (i' + (1 : Int)))] []))
    (K (PVal.tup [eI i', eI (2 : Int)]) []))) :
    L_base_PortsErr_2 K J0 [PVal.sl Mode.fr 2 l', eI i', eI k'] [] :=
  r_of (n := 5) h (by kernel_rfl)
def L_base_OutputsErr_0 (K : PVal → List AObj → Prop) (vs : List PVal) (os : List AObj) : Prop := LoopP env1 0 92 0 (cd env1 92 [1, 1, 0, 1, 0, 0]) vs os (kat env1 5 0 92 [1, 1, 0, 1, 0] K [])
def L_base_OutputsErr_2 (K : PVal → List AObj → Prop) (J0 : List PVal → List AObj → Prop) (vs : List PVal) (os : List AObj) : Prop := LoopP env1 0 92 2 (cd env1 92 [1, 1, 0, 1, 0, 0, 1, 0, 0, 1, 0, 1, 0, 0]) vs os (kat env1 5 0 92 [1, 1, 0, 1, 0, 0, 1, 0, 0, 1, 0, 1, 0] K [J0])
theorem e_base_OutputsErr (K : PVal → List AObj → Prop) (nodes' : List PVal) (l' : List PVal)
    (h : br (decide ((↑l'.length : Int) > (12 : Int))) (K (PVal.tup [eI (0 : Int), eI (8 : Int)]) []) (L_base_OutputsErr_0 K [PVal.sl Mode.fr 4 nodes', PVal.sl Mode.fr 2 l', eI (0 : Int)] [])) :
    CallP env1 92 [PVal.sl Mode.fr 4 nodes', PVal.sl Mode.fr 2 l'] [] K :=
  e_of (n := 6) h (by kernel_rfl)
theorem r_base_OutputsErr_0 (K : PVal → List AObj → Prop) (nodes' : List PVal) (l' : List PVal) (i' : Int)
    (h : br (decide (i' < (↑l'.length : Int)))
  ((((0 : Int) ≤ i' ∧ i' < (↑l'.length : Int)) ∧ getP l' i'.toNat = PVal.agg [PVal.str (asS (cellAt (getP l' i'.toNat) (0 : Nat))), eI (asI (cellAt (getP l' i'.toNat) (1 : Nat)))]) ∧
    (sp_base_IsName [PVal.str (asS (cellAt (getP l' i'.toNat) (0 : Nat)))] []).pre ∧
    br (!isName (asS (cellAt (getP l' i'.toNat) (0 : Nat)))) (K (PVal.tup [eI i', eI (4 : Int)]) [])
    (L_base_OutputsErr_2 K (L_base_OutputsErr_0 K) [PVal.sl Mode.fr 4 nodes', PVal.sl Mode.fr 2 l', eI i', eI (0 : Int)] []))
  (K (PVal.tup [eI (0 : Int), eI (0 : Int)]) [])) :
    L_base_OutputsErr_0 K [PVal.sl Mode.fr 4 nodes', PVal.sl Mode.fr 2 l', eI i'] [] :=
  r_of (n := 5) h (by kernel_rfl)
theorem r_base_OutputsErr_2 (K : PVal → List AObj → Prop) (J0 : List PVal → List AObj → Prop) (nodes' : List PVal) (l' : List PVal) (i' : Int) (k' : Int)
    (h : br (decide (k' < i'))
  ((((0 : Int) ≤ k' ∧ k' < (↑l'.length : Int)) ∧ getP l' k'.toNat = PVal.agg [PVal.str (asS (cellAt (getP l' k'.toNat) (0 : Nat))), eI (asI (cellAt (getP l' k'.toNat) (1 : Nat)))]) ∧
    (((0 : Int) ≤ i' ∧ i' < (↑l'.length : Int)) ∧ getP l' i'.toNat = PVal.agg [PVal.str (asS (cellAt (getP l' i'.toNat) (0 : Nat))), eI (asI (cellAt (getP l' i'.toNat) (1 : Nat)))]) ∧
    br (decide (asS (cellAt (getP l' k'.toNat) (0 : Nat)) = asS (cellAt (getP l' i'.toNat) (0 : Nat)))) (K (PVal.tup [eI i', eI (5 : Int)]) [])
    (L_base_OutputsErr_2 K J0 [PVal.sl Mode.fr 4 nodes', PVal.sl Mode.fr 2 l', eI i', eI (IntKind.i64.wrap (k' + (1 : Int)))] []))
  ((((0 : Int) ≤ i' ∧ i' < (↑l'.length : Int)) ∧ getP l' i'.toNat = PVal.agg [PVal.str (asS (cellAt (getP l' i'.toNat) (0 : Nat))), eI (asI (cellAt (getP l' i'.toNat) (1 : Nat)))]) ∧
    br (decide ((0 : Int) ≤ asI (cellAt (getP l' i'.toNat) (1 : Nat))))
    (br (!decide (asI (cellAt (getP l' i'.toNat) (1 : Nat)) ≤ IntKind.i64.wrap ((↑nodes'.length : Int) - (1 : Int)))) (K (PVal.tup [eI i', eI (9 : Int)]) [])
    (J0 [PVal.sl Mode.fr 4 nodes', PVal.sl Mode.fr 2 l', eI (IntKind.i64.wrap (i' + (1 : Int)))] []))
    (K (PVal.tup [eI i', eI (9 : Int)]) []))) :
    L_base_OutputsErr_2 K J0 [PVal.sl Mode.fr 4 nodes', PVal.sl Mode.fr 2 l', eI i', eI k'] [] :=
  r_of (n := 5) h (by kernel_rfl)
def L_base_nodeErr_0 (K : PVal → List AObj → Prop) (vs : List PVal) (os : List AObj) : Prop := LoopP env1 0 143 0 (cd env1 143 [1, 1, 1, 1, 1, 0, 1, 0, 0]) vs os (kat env1 5 0 143 [1, 1, 1, 1, 1, 0, 1, 0] K [])
theorem e_base_nodeErr (K : PVal → List AObj → Prop) (x0 : List PVal) (x1 : List PVal) (x2 : Int)
    (h : (((0 : Int) ≤ x2 ∧ x2 < (↑x1.length : Int)) ∧
    getP x1 x2.toNat =
    PVal.agg
    [eI (asI (cellAt (getP x1 x2.toNat) (0 : Nat))), eI (asI (cellAt (getP x1 x2.toNat) (1 : Nat))), PVal.sl Mode.fr 1 (asL (cellAt (getP x1 x2.toNat) (2 : Nat))),
    eI (asI (cellAt (getP x1 x2.toNat) (3 : Nat)))]) ∧
  br (decide ((0 : Int) ≤ asI (cellAt (getP x1 x2.toNat) (0 : Nat))))
    (br (!decide (asI (cellAt (getP x1 x2.toNat) (0 : Nat)) ≤ (18 : Int))) (K (eI (15 : Int)) [])
    (br (decide ((1 : Int) ≤ asI (cellAt (getP x1 x2.toNat) (1 : Nat))))
    (br (!decide (asI (cellAt (getP x1 x2.toNat) (1 : Nat)) ≤ (16 : Int))) (K (eI (2 : Int)) [])
    (br (decide (asI (cellAt (getP x1 x2.toNat) (0 : Nat)) = (0 : Int)))
    (br (decide (asI (cellAt (getP x1 x2.toNat) (0 : Nat)) = (0 : Int)))
    (br (!decide ((↑(asL (cellAt (getP x1 x2.toNat) (2 : Nat))).length : Int) = (0 : Int))) (K (eI (10 : Int)) [])
    (L_base_nodeErr_0 K [PVal.sl Mode.fr 1 x0, PVal.sl Mode.fr 4 x1, eI x2, PVal.ref (0 : Nat) (4 : Nat) (0 : Nat) (0 : Nat), eI (0 : Int)]
    [AObj.row true (59 : Nat) (4 : Nat)
    [PVal.agg
    [eI (asI (cellAt (getP x1 x2.toNat) (0 : Nat))), eI (asI (cellAt (getP x1 x2.toNat) (1 : Nat))), PVal.sl Mode.fr 1 (asL (cellAt (getP x1 x2.toNat) (2 : Nat))),
    eI (asI (cellAt (getP x1 x2.toNat) (3 : Nat)))]]]))
    (br (decide (asI (cellAt (getP x1 x2.toNat) (0 : Nat)) = (2 : Int)))
    (br (decide (asI (cellAt (getP x1 x2.toNat) (0 : Nat)) = (2 : Int)))
    (br (!decide ((↑(asL (cellAt (getP x1 x2.toNat) (2 : Nat))).length : Int) = (1 : Int))) (K (eI (10 : Int)) [])
    (L_base_nodeErr_0 K [PVal.sl Mode.fr 1 x0, PVal.sl Mode.fr 4 x1, eI x2, PVal.ref (0 : Nat) (4 : Nat) (0 : Nat) (0 : Nat), eI (0 : Int)]
    [AObj.row true (59 : Nat) (4 : Nat)
    [PVal.agg
    [eI (asI (cellAt (getP x1 x2.toNat) (0 : Nat))), eI (asI (cellAt (getP x1 x2.toNat) (1 : Nat))), PVal.sl Mode.fr 1 (asL (cellAt (getP x1 x2.toNat) (2 : Nat))),
    eI (asI (cellAt (getP x1 x2.toNat) (3 : Nat)))]]]))
    (br (decide (asI (cellAt (getP x1 x2.toNat) (0 : Nat)) = (12 : Int)))
    (br (!decide ((↑(asL (cellAt (getP x1 x2.toNat) (2 : Nat))).length : Int) = (3 : Int))) (K (eI (10 : Int)) [])
    (L_base_nodeErr_0 K [PVal.sl Mode.fr 1 x0, PVal.sl Mode.fr 4 x1, eI x2, PVal.ref (0 : Nat) (4 : Nat) (0 : Nat) (0 : Nat), eI (0 : Int)]
    [AObj.row true (59 : Nat) (4 : Nat)
    [PVal.agg
    [eI (asI (cellAt (getP x1 x2.toNat) (0 : Nat))), eI (asI (cellAt (getP x1 x2.toNat) (1 : Nat))), PVal.sl Mode.fr 1 (asL (cellAt (getP x1 x2.toNat) (2 : Nat))),
    eI (asI (cellAt (getP x1 x2.toNat) (3 : Nat)))]]]))
    (br (!decide ((↑(asL (cellAt (getP x1 x2.toNat) (2 : Nat))).length : Int) = (2 : Int))) (K (eI (10 : Int)) [])
    (L_base_nodeErr_0 K [PVal.sl Mode.fr 1 x0, PVal.sl Mode.fr 4 x1, eI x2, PVal.ref (0 : Nat) (4 : Nat) (0 : Nat) (0 : Nat), eI (0 : Int)]
    [AObj.row true (59 : Nat) (4 : Nat)
    [PVal.agg
    [eI (asI (cellAt (getP x1 x2.toNat) (0 : Nat))), eI (asI (cellAt (getP x1 x2.toNat) (1 : Nat))), PVal.sl Mode.fr 1 (asL (cellAt (getP x1 x2.toNat) (2 : Nat))),
    eI (asI (cellAt (getP x1 x2.toNat) (3 : Nat)))]]]))))
    (br (decide (asI (cellAt (getP x1 x2.toNat) (0 : Nat)) = (14 : Int)))
    (br (decide (asI (cellAt (getP x1 x2.toNat) (0 : Nat)) = (14 : Int)))
    (br (!decide ((↑(asL (cellAt (getP x1 x2.toNat) (2 : Nat))).length : Int) = (1 : Int))) (K (eI (10 : Int)) [])
    (L_base_nodeErr_0 K [PVal.sl Mode.fr 1 x0, PVal.sl Mode.fr 4 x1, eI x2, PVal.ref (0 : Nat) (4 : Nat) (0 : Nat) (0 : Nat), eI (0 : Int)]
    [AObj.row true (59 : Nat) (4 : Nat)
    [PVal.agg
    [eI (asI (cellAt (getP x1 x2.toNat) (0 : Nat))), eI (asI (cellAt (getP x1 x2.toNat) (1 : Nat))), PVal.sl Mode.fr 1 (asL (cellAt (getP x1 x2.toNat) (2 : Nat))),
    eI (asI (cellAt (getP x1 x2.toNat) (3 : Nat)))]]]))
    (br (decide (asI (cellAt (getP x1 x2.toNat) (0 : Nat)) = (12 : Int)))
    (br (!decide ((↑(asL (cellAt (getP x1 x2.toNat) (2 : Nat))).length : Int) = (3 : Int))) (K (eI (10 : Int)) [])
    (L_base_nodeErr_0 K [PVal.sl Mode.fr 1 x0, PVal.sl Mode.fr 4 x1, eI x2, PVal.ref (0 : Nat) (4 : Nat) (0 : Nat) (0 : Nat), eI (0 : Int)]
    [AObj.row true (59 : Nat) (4 : Nat)
    [PVal.agg
    [eI (asI (cellAt (getP x1 x2.toNat) (0 : Nat))), eI (asI (cellAt (getP x1 x2.toNat) (1 : Nat))), PVal.sl Mode.fr 1 (asL (cellAt (getP x1 x2.toNat) (2 : Nat))),
    eI (asI (cellAt (getP x1 x2.toNat) (3 : Nat)))]]]))
    (br (!decide ((↑(asL (cellAt (getP x1 x2.toNat) (2 : Nat))).length : Int) = (2 : Int))) (K (eI (10 : Int)) [])
    (L_base_nodeErr_0 K [PVal.sl Mode.fr 1 x0, PVal.sl Mode.fr 4 x1, eI x2, PVal.ref (0 : Nat) (4 : Nat) (0 : Nat) (0 : Nat), eI (0 : Int)]
    [AObj.row true (59 : Nat) (4 : Nat)
    [PVal.agg
    [eI (asI (cellAt (getP x1 x2.toNat) (0 : Nat))), eI (asI (cellAt (getP x1 x2.toNat) (1 : Nat))), PVal.sl Mode.fr 1 (asL (cellAt (getP x1 x2.toNat) (2 : Nat))),
    eI (asI (cellAt (getP x1 x2.toNat) (3 : Nat)))]]]))))
    (br (decide (asI (cellAt (getP x1 x2.toNat) (0 : Nat)) = (15 : Int)))
    (br (decide (asI (cellAt (getP x1 x2.toNat) (0 : Nat)) = (15 : Int)))
    (br (!decide ((↑(asL (cellAt (getP x1 x2.toNat) (2 : Nat))).length : Int) = (1 : Int))) (K (eI (10 : Int)) [])
    (L_base_nodeErr_0 K [PVal.sl Mode.fr 1 x0, PVal.sl Mode.fr 4 x1, eI x2, PVal.ref (0 : Nat) (4 : Nat) (0 : Nat) (0 : Nat), eI (0 : Int)]
    [AObj.row true (59 : Nat) (4 : Nat)
    [PVal.agg
    [eI (asI (cellAt (getP x1 x2.toNat) (0 : Nat))), eI (asI (cellAt (getP x1 x2.toNat) (1 : Nat))), PVal.sl Mode.fr 1 (asL (cellAt (getP x1 x2.toNat) (2 : Nat))),
    eI (asI (cellAt (getP x1 x2.toNat) (3 : Nat)))]]]))
    (br (decide (asI (cellAt (getP x1 x2.toNat) (0 : Nat)) = (12 : Int)))
    (br (!decide ((↑(asL (cellAt (getP x1 x2.toNat) (2 : Nat))).length : Int) = (3 : Int))) (K (eI (10 : Int)) [])
    (L_base_nodeErr_0 K [PVal.sl Mode.fr 1 x0, PVal.sl Mode.fr 4 x1, eI x2, PVal.ref (0 : Nat) (4 : Nat) (0 : Nat) (0 : Nat), eI (0 : Int)]
    [AObj.row true (59 : Nat) (4 : Nat)
    [PVal.agg
    [eI (asI (cellAt (getP x1 x2.toNat) (0 : Nat))), eI (asI (cellAt (getP x1 x2.toNat) (1 : Nat))), PVal.sl Mode.fr 1 (asL (cellAt (getP x1 x2.toNat) (2 : Nat))),
    eI (asI (cellAt (getP x1 x2.toNat) (3 : Nat)))]]]))
    (br (!decide ((↑(asL (cellAt (getP x1 x2.toNat) (2 : Nat))).length : Int) = (2 : Int))) (K (eI (10 : Int)) [])
    (L_base_nodeErr_0 K [PVal.sl Mode.fr 1 x0, PVal.sl Mode.fr 4 x1, eI x2, PVal.ref (0 : Nat) (4 : Nat) (0 : Nat) (0 : Nat), eI (0 : Int)]
    [AObj.row true (59 : Nat) (4 : Nat)
    [PVal.agg
    [eI (asI (cellAt (getP x1 x2.toNat) (0 : Nat))), eI (asI (cellAt (getP x1 x2.toNat) (1 : Nat))), PVal.sl Mode.fr 1 (asL (cellAt (getP x1 x2.toNat) (2 : Nat))),
    eI (asI (cellAt (getP x1 x2.toNat) (3 : Nat)))]]]))))
    (br (decide (asI (cellAt (getP x1 x2.toNat) (0 : Nat)) = (16 : Int)))
    (br (!decide ((↑(asL (cellAt (getP x1 x2.toNat) (2 : Nat))).length : Int) = (1 : Int))) (K (eI (10 : Int)) [])
    (L_base_nodeErr_0 K [PVal.sl Mode.fr 1 x0, PVal.sl Mode.fr 4 x1, eI x2, PVal.ref (0 : Nat) (4 : Nat) (0 : Nat) (0 : Nat), eI (0 : Int)]
    [AObj.row true (59 : Nat) (4 : Nat)
    [PVal.agg
    [eI (asI (cellAt (getP x1 x2.toNat) (0 : Nat))), eI (asI (cellAt (getP x1 x2.toNat) (1 : Nat))), PVal.sl Mode.fr 1 (asL (cellAt (getP x1 x2.toNat) (2 : Nat))),
    eI (asI (cellAt (getP x1 x2.toNat) (3 : Nat)))]]]))
    (br (decide (asI (cellAt (getP x1 x2.toNat) (0 : Nat)) = (12 : Int)))
    (br (!decide ((↑(asL (cellAt (getP x1 x2.toNat) (2 : Nat))).length : Int) = (3 : Int))) (K (eI (10 : Int)) [])
    (L_base_nodeErr_0 K [PVal.sl Mode.fr 1 x0, PVal.sl Mode.fr 4 x1, eI x2, PVal.ref (0 : Nat) (4 : Nat) (0 : Nat) (0 : Nat), eI (0 : Int)]
    [AObj.row true (59 : Nat) (4 : Nat)
    [PVal.agg
    [eI (asI (cellAt (getP x1 x2.toNat) (0 : Nat))), eI (asI (cellAt (getP x1 x2.toNat) (1 : Nat))), PVal.sl Mode.fr 1 (asL (cellAt (getP x1 x2.toNat) (2 : Nat))),
    eI (asI (cellAt (getP x1 x2.toNat) (3 : Nat)))]]]))
    (br (!decide ((↑(asL (cellAt (getP x1 x2.toNat) (2 : Nat))).length : Int) = (2 : Int))) (K (eI (10 : Int)) [])
    (L_base_nodeErr_0 K [PVal.sl Mode.fr 1 x0, PVal.sl Mode.fr 4 x1, eI x2, PVal.ref (0 : Nat) (4 : Nat) (0 : Nat) (0 : Nat), eI (0 : Int)]
    [AObj.row true (59 : Nat) (4 : Nat)
    [PVal.agg
    [eI (asI (cellAt (getP x1 x2.toNat) (0 : Nat))), eI (asI (cellAt (getP x1 x2.toNat) (1 : Nat))), PVal.sl Mode.fr 1 (asL (cellAt (getP x1 x2.toNat) (2 : Nat))),
    eI (asI (cellAt (getP x1 x2.toNat) (3 : Nat)))]]]))))))))
    (br (decide (asI (cellAt (getP x1 x2.toNat) (0 : Nat)) = (1 : Int)))
    (br (!decide ((↑(asL (cellAt (getP x1 x2.toNat) (2 : Nat))).length : Int) = (0 : Int))) (K (eI (10 : Int)) [])
    (L_base_nodeErr_0 K [PVal.sl Mode.fr 1 x0, PVal.sl Mode.fr 4 x1, eI x2, PVal.ref (0 : Nat) (4 : Nat) (0 : Nat) (0 : Nat), eI (0 : Int)]
    [AObj.row true (59 : Nat) (4 : Nat)
    [PVal.agg
    [eI (asI (cellAt (getP x1 x2.toNat) (0 : Nat))), eI (asI (cellAt (getP x1 x2.toNat) (1 : Nat))), PVal.sl Mode.fr 1 (asL (cellAt (getP x1 x2.toNat) (2 : Nat))),
    eI (asI (cellAt (getP x1 x2.toNat) (3 : Nat)))]]]))
    (br (decide (asI (cellAt (getP x1 x2.toNat) (0 : Nat)) = (2 : Int)))
    (br (decide (asI (cellAt (getP x1 x2.toNat) (0 : Nat)) = (2 : Int)))
    (br (!decide ((↑(asL (cellAt (getP x1 x2.toNat) (2 : Nat))).length : Int) = (1 : Int))) (K (eI (10 : Int)) [])
    (L_base_nodeErr_0 K [PVal.sl Mode.fr 1 x0, PVal.sl Mode.fr 4 x1, eI x2, PVal.ref (0 : Nat) (4 : Nat) (0 : Nat) (0 : Nat), eI (0 : Int)]
    [AObj.row true (59 : Nat) (4 : Nat)
    [PVal.agg
    [eI (asI (cellAt (getP x1 x2.toNat) (0 : Nat))), eI (asI (cellAt (getP x1 x2.toNat) (1 : Nat))), PVal.sl Mode.fr 1 (asL (cellAt (getP x1 x2.toNat) (2 : Nat))),
    eI (asI (cellAt (getP x1 x2.toNat) (3 : Nat)))]]]))
    (br (decide (asI (cellAt (getP x1 x2.toNat) (0 : Nat)) = (12 : Int)))
    (br (!decide ((↑(asL (cellAt (getP x1 x2.toNat) (2 : Nat))).length : Int) = (3 : Int))) (K (eI (10 : Int)) [])
    (L_base_nodeErr_0 K [PVal.sl Mode.fr 1 x0, PVal.sl Mode.fr 4 x1, eI x2, PVal.ref (0 : Nat) (4 : Nat) (0 : Nat) (0 : Nat), eI (0 : Int)]
    [AObj.row true (59 : Nat) (4 : Nat)
    [PVal.agg
    [eI (asI (cellAt (getP x1 x2.toNat) (0 : Nat))), eI (asI (cellAt (getP x1 x2.toNat) (1 : Nat))), PVal.sl Mode.fr 1 (asL (cellAt (getP x1 x2.toNat) (2 : Nat))),
    eI (asI (cellAt (getP x1 x2.toNat) (3 : Nat)))]]]))
    (br (!decide ((↑(asL (cellAt (getP x1 x2.toNat) (2 : Nat))).length : Int) = (2 : Int))) (K (eI (10 : Int)) [])
    (L_base_nodeErr_0 K [PVal.sl Mode.fr 1 x0, PVal.sl Mode.fr 4 x1, eI x2, PVal.ref (0 : Nat) (4 : Nat) (0 : Nat) (0 : Nat), eI (0 : Int)]
    [AObj.row true (59 : Nat) (4 : Nat)
    [PVal.agg
    [eI (asI (cellAt (getP x1 x2.toNat) (0 : Nat))), eI (asI (cellAt (getP x1 x2.toNat) (1 : Nat))), PVal.sl Mode.fr 1 (asL (cellAt (getP x1 x2.toNat) (2 : Nat))),
    eI (asI (cellAt (getP x1 x2.toNat) (3 : Nat)))]]]))))
    (br (decide (asI (cellAt (getP x1 x2.toNat) (0 : Nat)) = (14 : Int)))
    (br (decide (asI (cellAt (getP x1 x2.toNat) (0 : Nat)) = (14 : Int)))
    (br (!decide ((↑(asL (cellAt (getP x1 x2.toNat) (2 : Nat))).length : Int) = (1 : Int))) (K (eI (10 : Int)) [])
    (L_base_nodeErr_0 K [PVal.sl Mode.fr 1 x0, PVal.sl Mode.fr 4 x1, eI x2, PVal.ref (0 : Nat) (4 : Nat) (0 : Nat) (0 : Nat), eI (0 : Int)]
    [AObj.row true (59 : Nat) (4 : Nat)
    [PVal.agg
    [eI (asI (cellAt (getP x1 x2.toNat) (0 : Nat))), eI (asI (cellAt (getP x1 x2.toNat) (1 : Nat))), PVal.sl Mode.fr 1 (asL (cellAt (getP x1 x2.toNat) (2 : Nat))),
    eI (asI (cellAt (getP x1 x2.toNat) (3 : Nat)))]]]))
    (br (decide (asI (cellAt (getP x1 x2.toNat) (0 : Nat)) = (12 : Int)))
    (br (!decide ((↑(asL (cellAt (getP x1 x2.toNat) (2 : Nat))).length : Int) = (3 : Int))) (K (eI (10 : Int)) [])
    (L_base_nodeErr_0 K [PVal.sl Mode.fr 1 x0, PVal.sl Mode.fr 4 x1, eI x2, PVal.ref (0 : Nat) (4 : Nat) (0 : Nat) (0 : Nat), eI (0 : Int)]
    [AObj.row true (59 : Nat) (4 : Nat)
    [PVal.agg
    [eI (asI (cellAt (getP x1 x2.toNat) (0 : Nat))), eI (asI (cellAt (getP x1 x2.toNat) (1 : Nat))), PVal.sl Mode.fr 1 (asL (cellAt (getP x1 x2.toNat) (2 : Nat))),
    eI (asI (cellAt (getP x1 x2.toNat) (3 : Nat)))]]]))
    (br (!decide ((↑(asL (cellAt (getP x1 x2.toNat) (2 : Nat))).length : Int) = (2 : Int))) (K (eI (10 : Int)) [])
    (L_base_nodeErr_0 K [PVal.sl Mode.fr 1 x0, PVal.sl Mode.fr 4 x1, eI x2, PVal.ref (0 : Nat) (4 : Nat) (0 : Nat) (0 : Nat), eI (0 : Int)]
    [AObj.row true (59 : Nat) (4 : Nat)
    [PVal.agg
    [eI (asI (cellAt (getP x1 x2.toNat) (0 : Nat))), eI (asI (cellAt (getP x1 x2.toNat) (1 : Nat))), PVal.sl Mode.fr 1 (asL (cellAt (getP x1 x2.toNat) (2 : Nat))),
    eI (asI (cellAt (getP x1 x2.toNat) (3 : Nat)))]]]))))
    (br (decide (asI (cellAt (getP x1 x2.toNat) (0 : Nat)) = (15 : Int)))
    (br (decide (asI (cellAt (getP x1 x2.toNat) (0 : Nat)) = (15 : Int)))
    (br (!decide ((↑(asL (cellAt (getP x1 x2.toNat) (2 : Nat))).length : Int) = (1 : Int))) (K (eI (10 : Int)) [])
    (L_base_nodeErr_0 K [PVal.sl Mode.fr 1 x0, PVal.sl Mode.fr 4 x1, eI x2, PVal.ref (0 : Nat) (4 : Nat) (0 : Nat) (0 : Nat), eI (0 : Int)]
    [AObj.row true (59 : Nat) (4 : Nat)
    [PVal.agg
    [eI (asI (cellAt (getP x1 x2.toNat) (0 : Nat))), eI (asI (cellAt (getP x1 x2.toNat) (1 : Nat))), PVal.sl Mode.fr 1 (asL (cellAt (getP x1 x2.toNat) (2 : Nat))),
    eI (asI (cellAt (getP x1 x2.toNat) (3 : Nat)))]]]))
    (br (decide (asI (cellAt (getP x1 x2.toNat) (0 : Nat)) = (12 : Int)))
    (br (!decide ((↑(asL (cellAt (getP x1 x2.toNat) (2 : Nat))).length : Int) = (3 : Int))) (K (eI (10 : Int)) [])
    (L_base_nodeErr_0 K [PVal.sl Mode.fr 1 x0, PVal.sl Mode.fr 4 x1, eI x2, PVal.ref (0 : Nat) (4 : Nat) (0 : Nat) (0 : Nat), eI (0 : Int)]
    [AObj.row true (59 : Nat) (4 : Nat)
    [PVal.agg
    [eI (asI (cellAt (getP x1 x2.toNat) (0 : Nat))), eI (asI (cellAt (getP x1 x2.toNat) (1 : Nat))), PVal.sl Mode.fr 1 (asL (cellAt (getP x1 x2.toNat) (2 : Nat))),
    eI (asI (cellAt (getP x1 x2.toNat) (3 : Nat)))]]]))
    (br (!decide ((↑(asL (cellAt (getP x1 x2.toNat) (2 : Nat))).length : Int) = (2 : Int))) (K (eI (10 : Int)) [])
    (L_base_nodeErr_0 K [PVal.sl Mode.fr 1 x0, PVal.sl Mode.fr 4 x1, eI x2, PVal.ref (0 : Nat) (4 : Nat) (0 : Nat) (0 : Nat), eI (0 : Int)]
    [AObj.row true (59 : Nat) (4 : Nat)
    [PVal.agg
    [eI (asI (cellAt (getP x1 x2.toNat) (0 : Nat))), eI (asI (cellAt (getP x1 x2.toNat) (1 : Nat))), PVal.sl Mode.fr 1 (asL (cellAt (getP x1 x2.toNat) (2 : Nat))),
    eI (asI (cellAt (getP x1 x2.toNat) (3 : Nat)))]]]))))
    (br (decide (asI (cellAt (getP x1 x2.toNat) (0 : Nat)) = (16 : Int)))
    (br (!decide ((↑(asL (cellAt (getP x1 x2.toNat) (2 : Nat))).length : Int) = (1 : Int))) (K (eI (10 : Int)) [])
    (L_base_nodeErr_0 K [PVal.sl Mode.fr 1 x0, PVal.sl Mode.fr 4 x1, eI x2, PVal.ref (0 : Nat) (4 : Nat) (0 : Nat) (0 : Nat), eI (0 : Int)]
    [AObj.row true (59 : Nat) (4 : Nat)
    [PVal.agg
    [eI (asI (cellAt (getP x1 x2.toNat) (0 : Nat))), eI (asI (cellAt (getP x1 x2.toNat) (1 : Nat))), PVal.sl Mode.fr 1 (asL (cellAt (getP x1 x2.toNat) (2 : Nat))),
    eI (asI (cellAt (getP x1 x2.toNat) (3 : Nat)))]]]))
    (br (decide (asI (cellAt (getP x1 x2.toNat) (0 : Nat)) = (12 : Int)))
    (br (!decide ((↑(asL (cellAt (getP x1 x2.toNat) (2 : Nat))).length : Int) = (3 : Int))) (K (eI (10 : Int)) [])
    (L_base_nodeErr_0 K [PVal.sl Mode.fr 1 x0, PVal.sl Mode.fr 4 x1, eI x2, PVal.ref (0 : Nat) (4 : Nat) (0 : Nat) (0 : Nat), eI (0 : Int)]
    [AObj.row true (59 : Nat) (4 : Nat)
    [PVal.agg
    [eI (asI (cellAt (getP x1 x2.toNat) (0 : Nat))), eI (asI (cellAt (getP x1 x2.toNat) (1 : Nat))), PVal.sl Mode.fr 1 (asL (cellAt (getP x1 x2.toNat) (2 : Nat))),
    eI (asI (cellAt (getP x1 x2.toNat) (3 : Nat)))]]]))
    (br (!decide ((↑(asL (cellAt (getP x1 x2.toNat) (2 : Nat))).length : Int) = (2 : Int))) (K (eI (10 : Int)) [])
    (L_base_nodeErr_0 K [PVal.sl Mode.fr 1 x0, PVal.sl Mode.fr 4 x1, eI x2, PVal.ref (0 : Nat) (4 : Nat) (0 : Nat) (0 : Nat), eI (0 : Int)]
    [AObj.row true (59 : Nat) (4 : Nat)
    [PVal.agg
    [eI (asI (cellAt (getP x1 x2.toNat) (0 : Nat))), eI (asI (cellAt (getP x1 x2.toNat) (1 : Nat))), PVal.sl Mode.fr 1 (asL (cellAt (getP x1 x2.toNat) (2 : Nat))),
    eI (asI (cellAt (getP x1 x2.toNat) (3 : Nat)))]]]))))))))))
    (K (eI (2 : Int)) [])))
    (K (eI (15 : Int)) [])) :
    CallP env1 143 [PVal.sl Mode.fr 1 x0, PVal.sl Mode.fr 4 x1, eI x2] [] K :=
  e_of (n := 6) h (by kernel_rfl)
theorem r_base_nodeErr_0 (K : PVal → List AObj → Prop) (x0 : List PVal) (x1 : List PVal) (x2 : Int) (x8 : Int) (o00 : Int) (o01 : Int) (o02 : List PVal) (o03 : Int)
    (h : br (decide (x8 < (↑o02.length : Int)))
  ((((0 : Int) ≤ x8 ∧ x8 < (↑o02.length : Int)) ∧ getP o02 x8.toNat = eI (asI (getP o02 x8.toNat))) ∧
    br (decide ((0 : Int) ≤ asI (getP o02 x8.toNat)))
    (br (!decide (asI (getP o02 x8.toNat) ≤ IntKind.i64.wrap (x2 - (1 : Int)))) (K (eI (9 : Int)) [])
    (L_base_nodeErr_0 K [PVal.sl Mode.fr 1 x0, PVal.sl Mode.fr 4 x1, eI x2, PVal.ref (0 : Nat) (4 : Nat) (0 : Nat) (0 : Nat), eI (IntKind.i64.wrap (x8 + (1 : Int)))]
    [AObj.row true (59 : Nat) (4 : Nat) [PVal.agg [eI o00, eI o01, PVal.sl Mode.fr 1 o02, eI o03]]]))
    (K (eI (9 : Int)) []))
  (br (decide (o00 = (0 : Int)))
    ((0 : Int) ≤ o01 ∧
    br (decide ((0 : Int) ≤ o03)) (br (!decide (o03 ≤ IntKind.i64.wrap (IntKind.i64.wrap ((1 : Int) * (2 : Int) ^ min o01.toNat (64 : Nat)) - (1 : Int)))) (K (eI (2 : Int)) []) (K (eI (0 : Int)) []))
    (K (eI (2 : Int)) []))
    (br (decide (o00 = (1 : Int)))
    (br (decide ((0 : Int) ≤ o03))
    (br (!decide (o03 ≤ IntKind.i64.wrap ((↑x0.length : Int) - (1 : Int)))) (K (eI (6 : Int)) [])
    ((((0 : Int) ≤ o03 ∧ o03 < (↑x0.length : Int)) ∧ getP x0 o03.toNat = eI (asI (getP x0 o03.toNat))) ∧
    br (!decide (asI (getP x0 o03.toNat) = o01)) (K (eI (25 : Int)) []) (K (eI (0 : Int)) [])))
    (K (eI (6 : Int)) []))
    (br (decide (o00 = (14 : Int)))
    (br (decide ((0 : Int) ≤ o03))
    (br (!decide (o03 ≤ (15 : Int))) (K (eI (2 : Int)) [])
    ((sp_base_widthsFit [PVal.sl Mode.fr 4 x1, PVal.agg [eI o00, eI o01, PVal.sl Mode.fr 1 o02, eI o03]] []).pre ∧
    br
    (!widthsOK (dNode (PVal.agg [eI o00, eI o01, PVal.sl Mode.fr 1 o02, eI o03])).op
    (dNode (PVal.agg [eI o00, eI o01, PVal.sl Mode.fr 1 o02, eI o03])).width
    (dNode (PVal.agg [eI o00, eI o01, PVal.sl Mode.fr 1 o02, eI o03])).value
    (argWidths (List.map dNode x1) (dNode (PVal.agg [eI o00, eI o01, PVal.sl Mode.fr 1 o02, eI o03])).args))
    (K (eI (25 : Int)) []) (K (eI (0 : Int)) [])))
    (K (eI (2 : Int)) []))
    (br (!decide (o03 = (0 : Int))) (K (eI (3 : Int)) [])
    ((sp_base_widthsFit [PVal.sl Mode.fr 4 x1, PVal.agg [eI o00, eI o01, PVal.sl Mode.fr 1 o02, eI o03]] []).pre ∧
    br
    (!widthsOK (dNode (PVal.agg [eI o00, eI o01, PVal.sl Mode.fr 1 o02, eI o03])).op
    (dNode (PVal.agg [eI o00, eI o01, PVal.sl Mode.fr 1 o02, eI o03])).width
    (dNode (PVal.agg [eI o00, eI o01, PVal.sl Mode.fr 1 o02, eI o03])).value
    (argWidths (List.map dNode x1) (dNode (PVal.agg [eI o00, eI o01, PVal.sl Mode.fr 1 o02, eI o03])).args))
    (K (eI (25 : Int)) []) (K (eI (0 : Int)) []))))))) :
    L_base_nodeErr_0 K [PVal.sl Mode.fr 1 x0, PVal.sl Mode.fr 4 x1, eI x2, PVal.ref (0 : Nat) (4 : Nat) (0 : Nat) (0 : Nat), eI x8] [AObj.row true (59 : Nat) (4 : Nat) [PVal.agg [eI o00, eI o01, PVal.sl Mode.fr 1 o02, eI o03]]] :=
  r_of (n := 5) h (by kernel_rfl)
def L_base_SameNodes_0 (K : PVal → List AObj → Prop) (vs : List PVal) (os : List AObj) : Prop := LoopP env1 0 64 0 (cd env1 64 [1, 1, 0, 1, 0, 0]) vs os (kat env1 5 0 64 [1, 1, 0, 1, 0] K [])
theorem e_base_SameNodes (K : PVal → List AObj → Prop) (x0 : List PVal) (x1 : List PVal)
    (h : br (!decide ((↑x0.length : Int) = (↑x1.length : Int))) (K (PVal.bool false) []) (L_base_SameNodes_0 K [PVal.sl Mode.fr 4 x0, PVal.sl Mode.fr 4 x1, eI (0 : Int)] [])) :
    CallP env1 64 [PVal.sl Mode.fr 4 x0, PVal.sl Mode.fr 4 x1] [] K :=
  e_of (n := 6) h (by kernel_rfl)
theorem r_base_SameNodes_0 (K : PVal → List AObj → Prop) (x0 : List PVal) (x1 : List PVal) (x5 : Int)
    (h : br (decide (x5 < (↑x0.length : Int)))
  ((((0 : Int) ≤ x5 ∧ x5 < (↑x0.length : Int)) ∧
    getP x0 x5.toNat =
    PVal.agg
    [eI (asI (cellAt (getP x0 x5.toNat) (0 : Nat))), eI (asI (cellAt (getP x0 x5.toNat) (1 : Nat))), PVal.sl Mode.fr 1 (asL (cellAt (getP x0 x5.toNat) (2 : Nat))),
    eI (asI (cellAt (getP x0 x5.toNat) (3 : Nat)))]) ∧
    (((0 : Int) ≤ x5 ∧ x5 < (↑x1.length : Int)) ∧
    getP x1 x5.toNat =
    PVal.agg
    [eI (asI (cellAt (getP x1 x5.toNat) (0 : Nat))), eI (asI (cellAt (getP x1 x5.toNat) (1 : Nat))), PVal.sl Mode.fr 1 (asL (cellAt (getP x1 x5.toNat) (2 : Nat))),
    eI (asI (cellAt (getP x1 x5.toNat) (3 : Nat)))]) ∧
    br (!decide (asI (cellAt (getP x0 x5.toNat) (0 : Nat)) = asI (cellAt (getP x1 x5.toNat) (0 : Nat)))) (K (PVal.bool false) [])
    ((((0 : Int) ≤ x5 ∧ x5 < (↑x0.length : Int)) ∧
    getP x0 x5.toNat =
    PVal.agg
    [eI (asI (cellAt (getP x0 x5.toNat) (0 : Nat))), eI (asI (cellAt (getP x0 x5.toNat) (1 : Nat))), PVal.sl Mode.fr 1 (asL (cellAt (getP x0 x5.toNat) (2 : Nat))),
    eI (asI (cellAt (getP x0 x5.toNat) (3 : Nat)))]) ∧
    (((0 : Int) ≤ x5 ∧ x5 < (↑x1.length : Int)) ∧
    getP x1 x5.toNat =
    PVal.agg
    [eI (asI (cellAt (getP x1 x5.toNat) (0 : Nat))), eI (asI (cellAt (getP x1 x5.toNat) (1 : Nat))), PVal.sl Mode.fr 1 (asL (cellAt (getP x1 x5.toNat) (2 : Nat))),
    eI (asI (cellAt (getP x1 x5.toNat) (3 : Nat)))]) ∧
    br (!decide (asI (cellAt (getP x0 x5.toNat) (1 : Nat)) = asI (cellAt (getP x1 x5.toNat) (1 : Nat)))) (K (PVal.bool false) [])
    ((((0 : Int) ≤ x5 ∧ x5 < (↑x0.length : Int)) ∧
    getP x0 x5.toNat =
    PVal.agg
    [eI (asI (cellAt (getP x0 x5.toNat) (0 : Nat))), eI (asI (cellAt (getP x0 x5.toNat) (1 : Nat))), PVal.sl Mode.fr 1 (asL (cellAt (getP x0 x5.toNat) (2 : Nat))),
    eI (asI (cellAt (getP x0 x5.toNat) (3 : Nat)))]) ∧
    (((0 : Int) ≤ x5 ∧ x5 < (↑x1.length : Int)) ∧
    getP x1 x5.toNat =
    PVal.agg
    [eI (asI (cellAt (getP x1 x5.toNat) (0 : Nat))), eI (asI (cellAt (getP x1 x5.toNat) (1 : Nat))), PVal.sl Mode.fr 1 (asL (cellAt (getP x1 x5.toNat) (2 : Nat))),
    eI (asI (cellAt (getP x1 x5.toNat) (3 : Nat)))]) ∧
    br (!decide (asI (cellAt (getP x0 x5.toNat) (3 : Nat)) = asI (cellAt (getP x1 x5.toNat) (3 : Nat)))) (K (PVal.bool false) [])
    ((((0 : Int) ≤ x5 ∧ x5 < (↑x0.length : Int)) ∧
    getP x0 x5.toNat =
    PVal.agg
    [eI (asI (cellAt (getP x0 x5.toNat) (0 : Nat))), eI (asI (cellAt (getP x0 x5.toNat) (1 : Nat))), PVal.sl Mode.fr 1 (asL (cellAt (getP x0 x5.toNat) (2 : Nat))),
    eI (asI (cellAt (getP x0 x5.toNat) (3 : Nat)))]) ∧
    (((0 : Int) ≤ x5 ∧ x5 < (↑x1.length : Int)) ∧
    getP x1 x5.toNat =
    PVal.agg
    [eI (asI (cellAt (getP x1 x5.toNat) (0 : Nat))), eI (asI (cellAt (getP x1 x5.toNat) (1 : Nat))), PVal.sl Mode.fr 1 (asL (cellAt (getP x1 x5.toNat) (2 : Nat))),
    eI (asI (cellAt (getP x1 x5.toNat) (3 : Nat)))]) ∧
    (sp_base_Ints [PVal.sl Mode.fr 1 (asL (cellAt (getP x0 x5.toNat) (2 : Nat))), PVal.sl Mode.fr 1 (asL (cellAt (getP x1 x5.toNat) (2 : Nat)))] []).pre ∧
    br (!decide (dInts (asL (PVal.sl Mode.fr 1 (asL (cellAt (getP x0 x5.toNat) (2 : Nat))))) = dInts (asL (PVal.sl Mode.fr 1 (asL (cellAt (getP x1 x5.toNat) (2 : Nat))))))) (K (PVal.bool false) [])
    (L_base_SameNodes_0 K [PVal.sl Mode.fr 4 x0, PVal.sl Mode.fr 4 x1, eI (IntKind.i64.wrap (x5 + (1 : Int)))] [])))))
  (K (PVal.bool true) [])) :
    L_base_SameNodes_0 K [PVal.sl Mode.fr 4 x0, PVal.sl Mode.fr 4 x1, eI x5] [] :=
  r_of (n := 5) h (by kernel_rfl)
theorem e_base_CopyNetlist (K : PVal → List AObj → Prop) (n'Name : ByteArray) (n'Inputs : List PVal) (n'Registers : List PVal) (n'Nodes : List PVal) (n'Outputs : List PVal)
    (h : (((0 : Nat) + n'Inputs.length) * (24 : Nat) ≤ (140737488355328 : Nat) ∧ (0 : Nat) + n'Inputs.length ≤ (9223372036854775807 : Nat)) ∧
  (sp_base_CopyNodes [PVal.sl Mode.fr 4 n'Nodes] []).pre ∧
    (((0 : Nat) + n'Outputs.length) * (24 : Nat) ≤ (140737488355328 : Nat) ∧ (0 : Nat) + n'Outputs.length ≤ (9223372036854775807 : Nat)) ∧
    (((0 : Nat) + n'Registers.length) * (48 : Nat) ≤ (140737488355328 : Nat) ∧ (0 : Nat) + n'Registers.length ≤ (9223372036854775807 : Nat)) ∧
    K (PVal.agg [PVal.str n'Name, PVal.own (0 : Nat), PVal.own (1 : Nat), PVal.own (2 : Nat), PVal.own (3 : Nat)])
    [AObj.row false (118 : Nat) (2 : Nat) n'Inputs, AObj.row false (94 : Nat) (5 : Nat) n'Registers, AObj.row false (59 : Nat) (4 : Nat) (List.map eNode (List.map dNode n'Nodes)), AObj.row false (92 : Nat) (2 : Nat) n'Outputs]) :
    CallP env1 13 [PVal.agg [PVal.str n'Name, PVal.sl Mode.fr 2 n'Inputs, PVal.sl Mode.fr 5 n'Registers, PVal.sl Mode.fr 4 n'Nodes, PVal.sl Mode.fr 2 n'Outputs]] [] K :=
  e_of (n := 6) h (by kernel_rfl)
def L_ref26_Period_0 (K : PVal → List AObj → Prop) (vs : List PVal) (os : List AObj) : Prop := LoopP env1 0 20 0 (cd env1 20 [1, 1, 1, 0, 1, 0, 0]) vs os (kat env1 5 0 20 [1, 1, 1, 0, 1, 0] K [])
theorem e_ref26_Period (K : PVal → List AObj → Prop) (n'Name : ByteArray) (n'Inputs : List PVal) (n'Registers : List PVal) (n'Nodes : List PVal) (n'Outputs : List PVal) (delays' : List PVal)
    (h : (sp_ref26_Arrivals [PVal.agg [PVal.str n'Name, PVal.sl Mode.fr 2 n'Inputs, PVal.sl Mode.fr 5 n'Registers, PVal.sl Mode.fr 4 n'Nodes, PVal.sl Mode.fr 2 n'Outputs], PVal.sl Mode.fr 1 delays'] []).pre ∧
  (sp_ref26_Named [PVal.agg [PVal.str n'Name, PVal.sl Mode.fr 2 n'Inputs, PVal.sl Mode.fr 5 n'Registers, PVal.sl Mode.fr 4 n'Nodes, PVal.sl Mode.fr 2 n'Outputs]] []).pre ∧
    L_ref26_Period_0 K
    [PVal.sl Mode.fr 1
    (List.map eI (arrF (dInts delays') (dNet (PVal.agg [PVal.str n'Name, PVal.sl Mode.fr 2 n'Inputs, PVal.sl Mode.fr 5 n'Registers, PVal.sl Mode.fr 4 n'Nodes, PVal.sl Mode.fr 2 n'Outputs])).nodes [])),
    PVal.sl Mode.fr 1 (List.map eI (namedF (dNet (PVal.agg [PVal.str n'Name, PVal.sl Mode.fr 2 n'Inputs, PVal.sl Mode.fr 5 n'Registers, PVal.sl Mode.fr 4 n'Nodes, PVal.sl Mode.fr 2 n'Outputs])))),
    eI (0 : Int), eI (0 : Int)]
    []) :
    CallP env1 20 [PVal.agg [PVal.str n'Name, PVal.sl Mode.fr 2 n'Inputs, PVal.sl Mode.fr 5 n'Registers, PVal.sl Mode.fr 4 n'Nodes, PVal.sl Mode.fr 2 n'Outputs], PVal.sl Mode.fr 1 delays'] [] K :=
  e_of (n := 6) h (by kernel_rfl)
theorem r_ref26_Period_0 (K : PVal → List AObj → Prop) (a' : List PVal) (l' : List PVal) (most' : Int) (i' : Int)
    (h : br (decide (i' < (↑l'.length : Int)))
  ((((0 : Int) ≤ i' ∧ i' < (↑l'.length : Int)) ∧ getP l' i'.toNat = eI (asI (getP l' i'.toNat))) ∧
    (((0 : Int) ≤ asI (getP l' i'.toNat) ∧ asI (getP l' i'.toNat) < (↑a'.length : Int)) ∧ getP a' (asI (getP l' i'.toNat)).toNat = eI (asI (getP a' (asI (getP l' i'.toNat)).toNat))) ∧
    L_ref26_Period_0 K
    [PVal.sl Mode.fr 1 a', PVal.sl Mode.fr 1 l', eI (if asI (getP a' (asI (getP l' i'.toNat)).toNat) > most' then asI (getP a' (asI (getP l' i'.toNat)).toNat) else most'),
    eI (IntKind.i64.wrap (i' + (1 : Int)))]
    [])
  (K (eI most') [])) :
    L_ref26_Period_0 K [PVal.sl Mode.fr 1 a', PVal.sl Mode.fr 1 l', eI most', eI i'] [] :=
  r_of (n := 5) h (by kernel_rfl)
theorem e_retime_CheckDelays (K : PVal → List AObj → Prop) (l' : List PVal)
    (h : br (!decide ((↑l'.length : Int) = (19 : Int))) (K (PVal.tup [eI (0 : Int), eI (10 : Int)]) [])
  ((sp_retime_each_int [PVal.sl Mode.fr 1 l', PVal.fn (43 : Nat) []] []).pre ∧
    K (PVal.tup [eI (firstE (0 : Nat) (List.map delayE (dInts l'))).fst, eI (firstE (0 : Nat) (List.map delayE (dInts l'))).snd]) [])) :
    CallP env1 10 [PVal.sl Mode.fr 1 l'] [] K :=
  e_of (n := 6) h (by kernel_rfl)
def L_netlist_each_api_Port_c3_0 (K : PVal → List AObj → Prop) (vs : List PVal) (os : List AObj) : Prop := LoopP env1 1 124 0 (cd env1 124 [1, 0, 1, 0, 0]) vs os (kat env1 5 1 124 [1, 0, 1, 0] K [])
theorem e_netlist_each_api_Port_c3 (K : PVal → List AObj → Prop) (ps : List PVal) (es : List (PVal × PVal))
    (h : L_netlist_each_api_Port_c3_0 K [PVal.fn (125 : Nat) [PVal.fptr false (PVal.mapr (0 : Nat))], PVal.sl Mode.fr 2 ps, eI (↑ps.length : Int), eI (0 : Int)] [AObj.mp es]) :
    CallP env1 124 [PVal.sl Mode.fr 2 ps, PVal.fn (125 : Nat) [PVal.fptr false (PVal.mapr (0 : Nat))]] [AObj.mp es] K :=
  e_of (n := 6) h (by kernel_rfl)
theorem r_netlist_each_api_Port_c3_0 (K : PVal → List AObj → Prop) (x9 : List PVal) (x10 : Int) (x11 : Int) (o0 : List (PVal × PVal))
    (h : br (decide (x11 < x10))
  ((((0 : Int) ≤ x11 ∧ x11 < (↑x9.length : Int)) ∧ getP x9 x11.toNat = PVal.agg [PVal.str (asS (cellAt (getP x9 x11.toNat) (0 : Nat))), eI (asI (cellAt (getP x9 x11.toNat) (1 : Nat)))]) ∧
    (sp_netlist_isName [PVal.str (asS (cellAt (getP x9 x11.toNat) (0 : Nat)))] []).pre ∧
    br (isName (asS (cellAt (getP x9 x11.toNat) (0 : Nat))))
    ((mapFits env1 (9 : Nat) (4 : Nat) o0 ∧ PVal.bool false = PVal.bool false) ∧
    br (!asB (mgetD o0 (PVal.str (asS (cellAt (getP x9 x11.toNat) (0 : Nat)))) (PVal.bool false)))
    ((sp_netlist_first [PVal.sl Mode.fr 1 [eI (0 : Int), eI (0 : Int)]] []).pre ∧
    mapFits env1 (9 : Nat) (4 : Nat) o0 ∧
    br (decide ((1 : Int) ≤ asI (cellAt (getP x9 x11.toNat) (1 : Nat))))
    (br (decide (asI (cellAt (getP x9 x11.toNat) (1 : Nat)) ≤ (16 : Int)))
    ((sp_netlist_first [PVal.sl Mode.fr 1 [eI (0 : Int), eI (0 : Int)]] []).pre ∧
    L_netlist_each_api_Port_c3_0 K [PVal.fn (125 : Nat) [PVal.fptr false (PVal.mapr (0 : Nat))], PVal.sl Mode.fr 2 x9, eI x10, eI (IntKind.i64.wrap (x11 + (1 : Int)))]
    [AObj.mp (mset o0 (PVal.str (asS (cellAt (getP x9 x11.toNat) (0 : Nat)))) (PVal.bool true))])
    ((sp_netlist_first [PVal.sl Mode.fr 1 [eI (0 : Int), eI (2 : Int)]] []).pre ∧
    K (PVal.tup [eI x11, eI (2 : Int)]) [AObj.mp (mset o0 (PVal.str (asS (cellAt (getP x9 x11.toNat) (0 : Nat)))) (PVal.bool true))]))
    ((sp_netlist_first [PVal.sl Mode.fr 1 [eI (0 : Int), eI (2 : Int)]] []).pre ∧
    K (PVal.tup [eI x11, eI (2 : Int)]) [AObj.mp (mset o0 (PVal.str (asS (cellAt (getP x9 x11.toNat) (0 : Nat)))) (PVal.bool true))]))
    ((sp_netlist_first [PVal.sl Mode.fr 1 [eI (0 : Int), eI (5 : Int)]] []).pre ∧
    mapFits env1 (9 : Nat) (4 : Nat) o0 ∧
    br (decide ((1 : Int) ≤ asI (cellAt (getP x9 x11.toNat) (1 : Nat))))
    (br (decide (asI (cellAt (getP x9 x11.toNat) (1 : Nat)) ≤ (16 : Int)))
    ((sp_netlist_first [PVal.sl Mode.fr 1 [eI (5 : Int), eI (0 : Int)]] []).pre ∧
    K (PVal.tup [eI x11, eI (5 : Int)]) [AObj.mp (mset o0 (PVal.str (asS (cellAt (getP x9 x11.toNat) (0 : Nat)))) (PVal.bool true))])
    ((sp_netlist_first [PVal.sl Mode.fr 1 [eI (5 : Int), eI (2 : Int)]] []).pre ∧
    K (PVal.tup [eI x11, eI (5 : Int)]) [AObj.mp (mset o0 (PVal.str (asS (cellAt (getP x9 x11.toNat) (0 : Nat)))) (PVal.bool true))]))
    ((sp_netlist_first [PVal.sl Mode.fr 1 [eI (5 : Int), eI (2 : Int)]] []).pre ∧
    K (PVal.tup [eI x11, eI (5 : Int)]) [AObj.mp (mset o0 (PVal.str (asS (cellAt (getP x9 x11.toNat) (0 : Nat)))) (PVal.bool true))])))
    ((mapFits env1 (9 : Nat) (4 : Nat) o0 ∧ PVal.bool false = PVal.bool false) ∧
    br (!asB (mgetD o0 (PVal.str (asS (cellAt (getP x9 x11.toNat) (0 : Nat)))) (PVal.bool false)))
    ((sp_netlist_first [PVal.sl Mode.fr 1 [eI (4 : Int), eI (0 : Int)]] []).pre ∧
    mapFits env1 (9 : Nat) (4 : Nat) o0 ∧
    br (decide ((1 : Int) ≤ asI (cellAt (getP x9 x11.toNat) (1 : Nat))))
    (br (decide (asI (cellAt (getP x9 x11.toNat) (1 : Nat)) ≤ (16 : Int)))
    ((sp_netlist_first [PVal.sl Mode.fr 1 [eI (4 : Int), eI (0 : Int)]] []).pre ∧
    K (PVal.tup [eI x11, eI (4 : Int)]) [AObj.mp (mset o0 (PVal.str (asS (cellAt (getP x9 x11.toNat) (0 : Nat)))) (PVal.bool true))])
    ((sp_netlist_first [PVal.sl Mode.fr 1 [eI (4 : Int), eI (2 : Int)]] []).pre ∧
    K (PVal.tup [eI x11, eI (4 : Int)]) [AObj.mp (mset o0 (PVal.str (asS (cellAt (getP x9 x11.toNat) (0 : Nat)))) (PVal.bool true))]))
    ((sp_netlist_first [PVal.sl Mode.fr 1 [eI (4 : Int), eI (2 : Int)]] []).pre ∧
    K (PVal.tup [eI x11, eI (4 : Int)]) [AObj.mp (mset o0 (PVal.str (asS (cellAt (getP x9 x11.toNat) (0 : Nat)))) (PVal.bool true))]))
    ((sp_netlist_first [PVal.sl Mode.fr 1 [eI (4 : Int), eI (5 : Int)]] []).pre ∧
    mapFits env1 (9 : Nat) (4 : Nat) o0 ∧
    br (decide ((1 : Int) ≤ asI (cellAt (getP x9 x11.toNat) (1 : Nat))))
    (br (decide (asI (cellAt (getP x9 x11.toNat) (1 : Nat)) ≤ (16 : Int)))
    ((sp_netlist_first [PVal.sl Mode.fr 1 [eI (4 : Int), eI (0 : Int)]] []).pre ∧
    K (PVal.tup [eI x11, eI (4 : Int)]) [AObj.mp (mset o0 (PVal.str (asS (cellAt (getP x9 x11.toNat) (0 : Nat)))) (PVal.bool true))])
    ((sp_netlist_first [PVal.sl Mode.fr 1 [eI (4 : Int), eI (2 : Int)]] []).pre ∧
    K (PVal.tup [eI x11, eI (4 : Int)]) [AObj.mp (mset o0 (PVal.str (asS (cellAt (getP x9 x11.toNat) (0 : Nat)))) (PVal.bool true))]))
    ((sp_netlist_first [PVal.sl Mode.fr 1 [eI (4 : Int), eI (2 : Int)]] []).pre ∧
    K (PVal.tup [eI x11, eI (4 : Int)]) [AObj.mp (mset o0 (PVal.str (asS (cellAt (getP x9 x11.toNat) (0 : Nat)))) (PVal.bool true))]))))
  (K (PVal.tup [eI (0 : Int), eI (0 : Int)]) [AObj.mp o0])) :
    L_netlist_each_api_Port_c3_0 K [PVal.fn (125 : Nat) [PVal.fptr false (PVal.mapr (0 : Nat))], PVal.sl Mode.fr 2 x9, eI x10, eI x11] [AObj.mp o0] :=
  r_of (n := 5) h (by kernel_rfl)
def L_netlist_each_api_NetRegister_c5_0 (K : PVal → List AObj → Prop) (vs : List PVal) (os : List AObj) : Prop := LoopP env1 1 130 0 (cd env1 130 [1, 0, 1, 0, 0]) vs os (kat env1 5 1 130 [1, 0, 1, 0] K [])
theorem e_netlist_each_api_NetRegister_c5 (K : PVal → List AObj → Prop) (rs : List PVal) (es : List (PVal × PVal))
    (h : L_netlist_each_api_NetRegister_c5_0 K [PVal.fn (131 : Nat) [PVal.fptr false (PVal.mapr (0 : Nat))], PVal.sl Mode.fr 5 rs, eI (↑rs.length : Int), eI (0 : Int)] [AObj.mp es]) :
    CallP env1 130 [PVal.sl Mode.fr 5 rs, PVal.fn (131 : Nat) [PVal.fptr false (PVal.mapr (0 : Nat))]] [AObj.mp es] K :=
  e_of (n := 6) h (by kernel_rfl)
theorem r_netlist_each_api_NetRegister_c5_0 (K : PVal → List AObj → Prop) (x9 : List PVal) (x10 : Int) (x11 : Int) (o0 : List (PVal × PVal))
    (h : br (decide (x11 < x10))
  ((((0 : Int) ≤ x11 ∧ x11 < (↑x9.length : Int)) ∧
    getP x9 x11.toNat =
    PVal.agg
    [PVal.str (asS (cellAt (getP x9 x11.toNat) (0 : Nat))), eI (asI (cellAt (getP x9 x11.toNat) (1 : Nat))), eI (asI (cellAt (getP x9 x11.toNat) (2 : Nat))),
    eI (asI (cellAt (getP x9 x11.toNat) (3 : Nat))), eI (asI (cellAt (getP x9 x11.toNat) (4 : Nat)))]) ∧
    (sp_netlist_isName [PVal.str (asS (cellAt (getP x9 x11.toNat) (0 : Nat)))] []).pre ∧
    br (isName (asS (cellAt (getP x9 x11.toNat) (0 : Nat))))
    ((mapFits env1 (9 : Nat) (4 : Nat) o0 ∧ PVal.bool false = PVal.bool false) ∧
    br (!asB (mgetD o0 (PVal.str (asS (cellAt (getP x9 x11.toNat) (0 : Nat)))) (PVal.bool false)))
    ((sp_netlist_first [PVal.sl Mode.fr 1 [eI (0 : Int), eI (0 : Int)]] []).pre ∧
    mapFits env1 (9 : Nat) (4 : Nat) o0 ∧
    br (decide ((1 : Int) ≤ asI (cellAt (getP x9 x11.toNat) (1 : Nat))))
    (br (decide (asI (cellAt (getP x9 x11.toNat) (1 : Nat)) ≤ (16 : Int)))
    (((0 : Int) ≤
    if (if (16 : Int) < asI (cellAt (getP x9 x11.toNat) (1 : Nat)) then (16 : Int) else asI (cellAt (getP x9 x11.toNat) (1 : Nat))) > (0 : Int) then
    if (16 : Int) < asI (cellAt (getP x9 x11.toNat) (1 : Nat)) then (16 : Int) else asI (cellAt (getP x9 x11.toNat) (1 : Nat))
    else (0 : Int)) ∧
    br (decide ((0 : Int) ≤ asI (cellAt (getP x9 x11.toNat) (2 : Nat))))
    (br
    (decide
    (asI (cellAt (getP x9 x11.toNat) (2 : Nat)) ≤
    IntKind.i64.wrap
    (IntKind.i64.wrap
    ((1 : Int) *
    (2 : Int) ^
    min
    (if (if (16 : Int) < asI (cellAt (getP x9 x11.toNat) (1 : Nat)) then (16 : Int) else asI (cellAt (getP x9 x11.toNat) (1 : Nat))) > (0 : Int) then
    if (16 : Int) < asI (cellAt (getP x9 x11.toNat) (1 : Nat)) then (16 : Int) else asI (cellAt (getP x9 x11.toNat) (1 : Nat))
    else (0 : Int)).toNat
    (64 : Nat)) -
    (1 : Int))))
    ((sp_netlist_first [PVal.sl Mode.fr 1 [eI (0 : Int), eI (0 : Int)]] []).pre ∧
    L_netlist_each_api_NetRegister_c5_0 K [PVal.fn (131 : Nat) [PVal.fptr false (PVal.mapr (0 : Nat))], PVal.sl Mode.fr 5 x9, eI x10, eI (IntKind.i64.wrap (x11 + (1 : Int)))]
    [AObj.mp (mset o0 (PVal.str (asS (cellAt (getP x9 x11.toNat) (0 : Nat)))) (PVal.bool true))])
    ((sp_netlist_first [PVal.sl Mode.fr 1 [eI (0 : Int), eI (2 : Int)]] []).pre ∧
    K (PVal.tup [eI x11, eI (2 : Int)]) [AObj.mp (mset o0 (PVal.str (asS (cellAt (getP x9 x11.toNat) (0 : Nat)))) (PVal.bool true))]))
    ((sp_netlist_first [PVal.sl Mode.fr 1 [eI (0 : Int), eI (2 : Int)]] []).pre ∧
    K (PVal.tup [eI x11, eI (2 : Int)]) [AObj.mp (mset o0 (PVal.str (asS (cellAt (getP x9 x11.toNat) (0 : Nat)))) (PVal.bool true))]))
    ((sp_netlist_first [PVal.sl Mode.fr 1 [eI (0 : Int), eI (2 : Int)]] []).pre ∧
    K (PVal.tup [eI x11, eI (2 : Int)]) [AObj.mp (mset o0 (PVal.str (asS (cellAt (getP x9 x11.toNat) (0 : Nat)))) (PVal.bool true))]))
    ((sp_netlist_first [PVal.sl Mode.fr 1 [eI (0 : Int), eI (2 : Int)]] []).pre ∧
    K (PVal.tup [eI x11, eI (2 : Int)]) [AObj.mp (mset o0 (PVal.str (asS (cellAt (getP x9 x11.toNat) (0 : Nat)))) (PVal.bool true))]))
    ((sp_netlist_first [PVal.sl Mode.fr 1 [eI (0 : Int), eI (5 : Int)]] []).pre ∧
    mapFits env1 (9 : Nat) (4 : Nat) o0 ∧
    br (decide ((1 : Int) ≤ asI (cellAt (getP x9 x11.toNat) (1 : Nat))))
    (br (decide (asI (cellAt (getP x9 x11.toNat) (1 : Nat)) ≤ (16 : Int)))
    (((0 : Int) ≤
    if (if (16 : Int) < asI (cellAt (getP x9 x11.toNat) (1 : Nat)) then (16 : Int) else asI (cellAt (getP x9 x11.toNat) (1 : Nat))) > (0 : Int) then
    if (16 : Int) < asI (cellAt (getP x9 x11.toNat) (1 : Nat)) then (16 : Int) else asI (cellAt (getP x9 x11.toNat) (1 : Nat))
    else (0 : Int)) ∧
    br (decide ((0 : Int) ≤ asI (cellAt (getP x9 x11.toNat) (2 : Nat))))
    (br
    (decide
    (asI (cellAt (getP x9 x11.toNat) (2 : Nat)) ≤
    IntKind.i64.wrap
    (IntKind.i64.wrap
    ((1 : Int) *
    (2 : Int) ^
    min
    (if (if (16 : Int) < asI (cellAt (getP x9 x11.toNat) (1 : Nat)) then (16 : Int) else asI (cellAt (getP x9 x11.toNat) (1 : Nat))) > (0 : Int) then
    if (16 : Int) < asI (cellAt (getP x9 x11.toNat) (1 : Nat)) then (16 : Int) else asI (cellAt (getP x9 x11.toNat) (1 : Nat))
    else (0 : Int)).toNat
    (64 : Nat)) -
    (1 : Int))))
    ((sp_netlist_first [PVal.sl Mode.fr 1 [eI (5 : Int), eI (0 : Int)]] []).pre ∧
    K (PVal.tup [eI x11, eI (5 : Int)]) [AObj.mp (mset o0 (PVal.str (asS (cellAt (getP x9 x11.toNat) (0 : Nat)))) (PVal.bool true))])
    ((sp_netlist_first [PVal.sl Mode.fr 1 [eI (5 : Int), eI (2 : Int)]] []).pre ∧
    K (PVal.tup [eI x11, eI (5 : Int)]) [AObj.mp (mset o0 (PVal.str (asS (cellAt (getP x9 x11.toNat) (0 : Nat)))) (PVal.bool true))]))
    ((sp_netlist_first [PVal.sl Mode.fr 1 [eI (5 : Int), eI (2 : Int)]] []).pre ∧
    K (PVal.tup [eI x11, eI (5 : Int)]) [AObj.mp (mset o0 (PVal.str (asS (cellAt (getP x9 x11.toNat) (0 : Nat)))) (PVal.bool true))]))
    ((sp_netlist_first [PVal.sl Mode.fr 1 [eI (5 : Int), eI (2 : Int)]] []).pre ∧
    K (PVal.tup [eI x11, eI (5 : Int)]) [AObj.mp (mset o0 (PVal.str (asS (cellAt (getP x9 x11.toNat) (0 : Nat)))) (PVal.bool true))]))
    ((sp_netlist_first [PVal.sl Mode.fr 1 [eI (5 : Int), eI (2 : Int)]] []).pre ∧
    K (PVal.tup [eI x11, eI (5 : Int)]) [AObj.mp (mset o0 (PVal.str (asS (cellAt (getP x9 x11.toNat) (0 : Nat)))) (PVal.bool true))])))
    ((mapFits env1 (9 : Nat) (4 : Nat) o0 ∧ PVal.bool false = PVal.bool false) ∧
    br (!asB (mgetD o0 (PVal.str (asS (cellAt (getP x9 x11.toNat) (0 : Nat)))) (PVal.bool false)))
    ((sp_netlist_first [PVal.sl Mode.fr 1 [eI (4 : Int), eI (0 : Int)]] []).pre ∧
    mapFits env1 (9 : Nat) (4 : Nat) o0 ∧
    br (decide ((1 : Int) ≤ asI (cellAt (getP x9 x11.toNat) (1 : Nat))))
    (br (decide (asI (cellAt (getP x9 x11.toNat) (1 : Nat)) ≤ (16 : Int)))
    (((0 : Int) ≤
    if (if (16 : Int) < asI (cellAt (getP x9 x11.toNat) (1 : Nat)) then (16 : Int) else asI (cellAt (getP x9 x11.toNat) (1 : Nat))) > (0 : Int) then
    if (16 : Int) < asI (cellAt (getP x9 x11.toNat) (1 : Nat)) then (16 : Int) else asI (cellAt (getP x9 x11.toNat) (1 : Nat))
    else (0 : Int)) ∧
    br (decide ((0 : Int) ≤ asI (cellAt (getP x9 x11.toNat) (2 : Nat))))
    (br
    (decide
    (asI (cellAt (getP x9 x11.toNat) (2 : Nat)) ≤
    IntKind.i64.wrap
    (IntKind.i64.wrap
    ((1 : Int) *
    (2 : Int) ^
    min
    (if (if (16 : Int) < asI (cellAt (getP x9 x11.toNat) (1 : Nat)) then (16 : Int) else asI (cellAt (getP x9 x11.toNat) (1 : Nat))) > (0 : Int) then
    if (16 : Int) < asI (cellAt (getP x9 x11.toNat) (1 : Nat)) then (16 : Int) else asI (cellAt (getP x9 x11.toNat) (1 : Nat))
    else (0 : Int)).toNat
    (64 : Nat)) -
    (1 : Int))))
    ((sp_netlist_first [PVal.sl Mode.fr 1 [eI (4 : Int), eI (0 : Int)]] []).pre ∧
    K (PVal.tup [eI x11, eI (4 : Int)]) [AObj.mp (mset o0 (PVal.str (asS (cellAt (getP x9 x11.toNat) (0 : Nat)))) (PVal.bool true))])
    ((sp_netlist_first [PVal.sl Mode.fr 1 [eI (4 : Int), eI (2 : Int)]] []).pre ∧
    K (PVal.tup [eI x11, eI (4 : Int)]) [AObj.mp (mset o0 (PVal.str (asS (cellAt (getP x9 x11.toNat) (0 : Nat)))) (PVal.bool true))]))
    ((sp_netlist_first [PVal.sl Mode.fr 1 [eI (4 : Int), eI (2 : Int)]] []).pre ∧
    K (PVal.tup [eI x11, eI (4 : Int)]) [AObj.mp (mset o0 (PVal.str (asS (cellAt (getP x9 x11.toNat) (0 : Nat)))) (PVal.bool true))]))
    ((sp_netlist_first [PVal.sl Mode.fr 1 [eI (4 : Int), eI (2 : Int)]] []).pre ∧
    K (PVal.tup [eI x11, eI (4 : Int)]) [AObj.mp (mset o0 (PVal.str (asS (cellAt (getP x9 x11.toNat) (0 : Nat)))) (PVal.bool true))]))
    ((sp_netlist_first [PVal.sl Mode.fr 1 [eI (4 : Int), eI (2 : Int)]] []).pre ∧
    K (PVal.tup [eI x11, eI (4 : Int)]) [AObj.mp (mset o0 (PVal.str (asS (cellAt (getP x9 x11.toNat) (0 : Nat)))) (PVal.bool true))]))
    ((sp_netlist_first [PVal.sl Mode.fr 1 [eI (4 : Int), eI (5 : Int)]] []).pre ∧
    mapFits env1 (9 : Nat) (4 : Nat) o0 ∧
    br (decide ((1 : Int) ≤ asI (cellAt (getP x9 x11.toNat) (1 : Nat))))
    (br (decide (asI (cellAt (getP x9 x11.toNat) (1 : Nat)) ≤ (16 : Int)))
    (((0 : Int) ≤
    if (if (16 : Int) < asI (cellAt (getP x9 x11.toNat) (1 : Nat)) then (16 : Int) else asI (cellAt (getP x9 x11.toNat) (1 : Nat))) > (0 : Int) then
    if (16 : Int) < asI (cellAt (getP x9 x11.toNat) (1 : Nat)) then (16 : Int) else asI (cellAt (getP x9 x11.toNat) (1 : Nat))
    else (0 : Int)) ∧
    br (decide ((0 : Int) ≤ asI (cellAt (getP x9 x11.toNat) (2 : Nat))))
    (br
    (decide
    (asI (cellAt (getP x9 x11.toNat) (2 : Nat)) ≤
    IntKind.i64.wrap
    (IntKind.i64.wrap
    ((1 : Int) *
    (2 : Int) ^
    min
    (if (if (16 : Int) < asI (cellAt (getP x9 x11.toNat) (1 : Nat)) then (16 : Int) else asI (cellAt (getP x9 x11.toNat) (1 : Nat))) > (0 : Int) then
    if (16 : Int) < asI (cellAt (getP x9 x11.toNat) (1 : Nat)) then (16 : Int) else asI (cellAt (getP x9 x11.toNat) (1 : Nat))
    else (0 : Int)).toNat
    (64 : Nat)) -
    (1 : Int))))
    ((sp_netlist_first [PVal.sl Mode.fr 1 [eI (4 : Int), eI (0 : Int)]] []).pre ∧
    K (PVal.tup [eI x11, eI (4 : Int)]) [AObj.mp (mset o0 (PVal.str (asS (cellAt (getP x9 x11.toNat) (0 : Nat)))) (PVal.bool true))])
    ((sp_netlist_first [PVal.sl Mode.fr 1 [eI (4 : Int), eI (2 : Int)]] []).pre ∧
    K (PVal.tup [eI x11, eI (4 : Int)]) [AObj.mp (mset o0 (PVal.str (asS (cellAt (getP x9 x11.toNat) (0 : Nat)))) (PVal.bool true))]))
    ((sp_netlist_first [PVal.sl Mode.fr 1 [eI (4 : Int), eI (2 : Int)]] []).pre ∧
    K (PVal.tup [eI x11, eI (4 : Int)]) [AObj.mp (mset o0 (PVal.str (asS (cellAt (getP x9 x11.toNat) (0 : Nat)))) (PVal.bool true))]))
    ((sp_netlist_first [PVal.sl Mode.fr 1 [eI (4 : Int), eI (2 : Int)]] []).pre ∧
    K (PVal.tup [eI x11, eI (4 : Int)]) [AObj.mp (mset o0 (PVal.str (asS (cellAt (getP x9 x11.toNat) (0 : Nat)))) (PVal.bool true))]))
    ((sp_netlist_first [PVal.sl Mode.fr 1 [eI (4 : Int), eI (2 : Int)]] []).pre ∧
    K (PVal.tup [eI x11, eI (4 : Int)]) [AObj.mp (mset o0 (PVal.str (asS (cellAt (getP x9 x11.toNat) (0 : Nat)))) (PVal.bool true))]))))
  (K (PVal.tup [eI (0 : Int), eI (0 : Int)]) [AObj.mp o0])) :
    L_netlist_each_api_NetRegister_c5_0 K [PVal.fn (131 : Nat) [PVal.fptr false (PVal.mapr (0 : Nat))], PVal.sl Mode.fr 5 x9, eI x10, eI x11] [AObj.mp o0] :=
  r_of (n := 5) h (by kernel_rfl)
def L_netlist_each_api_NetRegister_c7_0 (K : PVal → List AObj → Prop) (vs : List PVal) (os : List AObj) : Prop := LoopP env1 0 130 0 (cd env1 130 [1, 0, 1, 0, 0]) vs os (kat env1 5 0 130 [1, 0, 1, 0] K [])
theorem e_netlist_each_api_NetRegister_c7 (K : PVal → List AObj → Prop) (rs : List PVal) (nm : ByteArray) (ins : List PVal) (regs : List PVal) (nodes : List PVal) (outs : List PVal)
    (h : L_netlist_each_api_NetRegister_c7_0 K
  [PVal.fn (137 : Nat)
    [PVal.fptr false (PVal.fn (119 : Nat) [PVal.fptr false (PVal.agg [PVal.str nm, PVal.sl Mode.fr 2 ins, PVal.sl Mode.fr 5 regs, PVal.sl Mode.fr 4 nodes, PVal.sl Mode.fr 2 outs])]),
    PVal.fptr false (PVal.agg [PVal.str nm, PVal.sl Mode.fr 2 ins, PVal.sl Mode.fr 5 regs, PVal.sl Mode.fr 4 nodes, PVal.sl Mode.fr 2 outs])],
    PVal.sl Mode.fr 5 rs, eI (↑rs.length : Int), eI (0 : Int)]
  []) :
    CallP env1 130 [PVal.sl Mode.fr 5 rs,
  PVal.fn (137 : Nat)
    [PVal.fptr false (PVal.fn (119 : Nat) [PVal.fptr false (PVal.agg [PVal.str nm, PVal.sl Mode.fr 2 ins, PVal.sl Mode.fr 5 regs, PVal.sl Mode.fr 4 nodes, PVal.sl Mode.fr 2 outs])]),
    PVal.fptr false (PVal.agg [PVal.str nm, PVal.sl Mode.fr 2 ins, PVal.sl Mode.fr 5 regs, PVal.sl Mode.fr 4 nodes, PVal.sl Mode.fr 2 outs])]] [] K :=
  e_of (n := 6) h (by kernel_rfl)
theorem r_netlist_each_api_NetRegister_c7_0 (K : PVal → List AObj → Prop) (check'00 : ByteArray) (check'01 : List PVal) (check'02 : List PVal) (check'03 : List PVal) (check'04 : List PVal) (check'10 : ByteArray) (check'11 : List PVal) (check'12 : List PVal) (check'13 : List PVal) (check'14 : List PVal) (x9 : List PVal) (x10 : Int) (x11 : Int)
    (h : br (decide (x11 < x10))
  ((((0 : Int) ≤ x11 ∧ x11 < (↑x9.length : Int)) ∧
    getP x9 x11.toNat =
    PVal.agg
    [PVal.str (asS (cellAt (getP x9 x11.toNat) (0 : Nat))), eI (asI (cellAt (getP x9 x11.toNat) (1 : Nat))), eI (asI (cellAt (getP x9 x11.toNat) (2 : Nat))),
    eI (asI (cellAt (getP x9 x11.toNat) (3 : Nat))), eI (asI (cellAt (getP x9 x11.toNat) (4 : Nat)))]) ∧
    br (decide ((0 : Int) ≤ asI (cellAt (getP x9 x11.toNat) (3 : Nat))))
    (br (!decide (asI (cellAt (getP x9 x11.toNat) (3 : Nat)) ≤ IntKind.i64.wrap ((↑check'03.length : Int) - (1 : Int)))) (K (PVal.tup [eI x11, eI (9 : Int)]) [])
    ((((0 : Int) ≤ asI (cellAt (getP x9 x11.toNat) (3 : Nat)) ∧ asI (cellAt (getP x9 x11.toNat) (3 : Nat)) < (↑check'13.length : Int)) ∧
    getP check'13 (asI (cellAt (getP x9 x11.toNat) (3 : Nat))).toNat =
    PVal.agg
    [eI (asI (cellAt (getP check'13 (asI (cellAt (getP x9 x11.toNat) (3 : Nat))).toNat) (0 : Nat))), eI (asI (cellAt (getP check'13 (asI (cellAt (getP x9 x11.toNat) (3 : Nat))).toNat) (1 : Nat))),
    PVal.sl Mode.fr 1 (asL (cellAt (getP check'13 (asI (cellAt (getP x9 x11.toNat) (3 : Nat))).toNat) (2 : Nat))),
    eI (asI (cellAt (getP check'13 (asI (cellAt (getP x9 x11.toNat) (3 : Nat))).toNat) (3 : Nat)))]) ∧
    br (!decide (asI (cellAt (getP check'13 (asI (cellAt (getP x9 x11.toNat) (3 : Nat))).toNat) (1 : Nat)) = (1 : Int))) (K (PVal.tup [eI x11, eI (9 : Int)]) [])
    (br (decide ((0 : Int) ≤ asI (cellAt (getP x9 x11.toNat) (4 : Nat))))
    (br (!decide (asI (cellAt (getP x9 x11.toNat) (4 : Nat)) ≤ IntKind.i64.wrap ((↑check'03.length : Int) - (1 : Int)))) (K (PVal.tup [eI x11, eI (9 : Int)]) [])
    ((((0 : Int) ≤ asI (cellAt (getP x9 x11.toNat) (4 : Nat)) ∧ asI (cellAt (getP x9 x11.toNat) (4 : Nat)) < (↑check'13.length : Int)) ∧
    getP check'13 (asI (cellAt (getP x9 x11.toNat) (4 : Nat))).toNat =
    PVal.agg
    [eI (asI (cellAt (getP check'13 (asI (cellAt (getP x9 x11.toNat) (4 : Nat))).toNat) (0 : Nat))),
    eI (asI (cellAt (getP check'13 (asI (cellAt (getP x9 x11.toNat) (4 : Nat))).toNat) (1 : Nat))),
    PVal.sl Mode.fr 1 (asL (cellAt (getP check'13 (asI (cellAt (getP x9 x11.toNat) (4 : Nat))).toNat) (2 : Nat))),
    eI (asI (cellAt (getP check'13 (asI (cellAt (getP x9 x11.toNat) (4 : Nat))).toNat) (3 : Nat)))]) ∧
    br (decide (asI (cellAt (getP check'13 (asI (cellAt (getP x9 x11.toNat) (4 : Nat))).toNat) (1 : Nat)) = asI (cellAt (getP x9 x11.toNat) (1 : Nat))))
    (L_netlist_each_api_NetRegister_c7_0 K
    [PVal.fn (137 : Nat)
    [PVal.fptr false
    (PVal.fn (119 : Nat) [PVal.fptr false (PVal.agg [PVal.str check'00, PVal.sl Mode.fr 2 check'01, PVal.sl Mode.fr 5 check'02, PVal.sl Mode.fr 4 check'03, PVal.sl Mode.fr 2 check'04])]),
    PVal.fptr false (PVal.agg [PVal.str check'10, PVal.sl Mode.fr 2 check'11, PVal.sl Mode.fr 5 check'12, PVal.sl Mode.fr 4 check'13, PVal.sl Mode.fr 2 check'14])],
    PVal.sl Mode.fr 5 x9, eI x10, eI (IntKind.i64.wrap (x11 + (1 : Int)))]
    [])
    (K (PVal.tup [eI x11, eI (25 : Int)]) [])))
    (K (PVal.tup [eI x11, eI (9 : Int)]) []))))
    (K (PVal.tup [eI x11, eI (9 : Int)]) []))
  (K (PVal.tup [eI (0 : Int), eI (0 : Int)]) [])) :
    L_netlist_each_api_NetRegister_c7_0 K [PVal.fn (137 : Nat)
    [PVal.fptr false (PVal.fn (119 : Nat) [PVal.fptr false (PVal.agg [PVal.str check'00, PVal.sl Mode.fr 2 check'01, PVal.sl Mode.fr 5 check'02, PVal.sl Mode.fr 4 check'03, PVal.sl Mode.fr 2 check'04])]),
    PVal.fptr false (PVal.agg [PVal.str check'10, PVal.sl Mode.fr 2 check'11, PVal.sl Mode.fr 5 check'12, PVal.sl Mode.fr 4 check'13, PVal.sl Mode.fr 2 check'14])],
  PVal.sl Mode.fr 5 x9, eI x10, eI x11] [] :=
  r_of (n := 5) h (by kernel_rfl)
def L_netlist_each_api_Output_c9_0 (K : PVal → List AObj → Prop) (vs : List PVal) (os : List AObj) : Prop := LoopP env1 1 140 0 (cd env1 140 [1, 0, 1, 0, 0]) vs os (kat env1 5 1 140 [1, 0, 1, 0] K [])
theorem e_netlist_each_api_Output_c9 (K : PVal → List AObj → Prop) (os : List PVal) (nm : ByteArray) (ins : List PVal) (regs : List PVal) (nodes : List PVal) (outs : List PVal) (es : List (PVal × PVal))
    (h : L_netlist_each_api_Output_c9_0 K
  [PVal.fn (141 : Nat)
    [PVal.fptr false (PVal.mapr (0 : Nat)),
    PVal.fptr false (PVal.fn (119 : Nat) [PVal.fptr false (PVal.agg [PVal.str nm, PVal.sl Mode.fr 2 ins, PVal.sl Mode.fr 5 regs, PVal.sl Mode.fr 4 nodes, PVal.sl Mode.fr 2 outs])])],
    PVal.sl Mode.fr 2 os, eI (↑os.length : Int), eI (0 : Int)]
  [AObj.mp es]) :
    CallP env1 140 [PVal.sl Mode.fr 2 os,
  PVal.fn (141 : Nat)
    [PVal.fptr false (PVal.mapr (0 : Nat)),
    PVal.fptr false (PVal.fn (119 : Nat) [PVal.fptr false (PVal.agg [PVal.str nm, PVal.sl Mode.fr 2 ins, PVal.sl Mode.fr 5 regs, PVal.sl Mode.fr 4 nodes, PVal.sl Mode.fr 2 outs])])]] [AObj.mp es] K :=
  e_of (n := 6) h (by kernel_rfl)
theorem r_netlist_each_api_Output_c9_0 (K : PVal → List AObj → Prop) (check'10 : ByteArray) (check'11 : List PVal) (check'12 : List PVal) (check'13 : List PVal) (check'14 : List PVal) (x9 : List PVal) (x10 : Int) (x11 : Int) (o0 : List (PVal × PVal))
    (h : br (decide (x11 < x10))
  ((((0 : Int) ≤ x11 ∧ x11 < (↑x9.length : Int)) ∧ getP x9 x11.toNat = PVal.agg [PVal.str (asS (cellAt (getP x9 x11.toNat) (0 : Nat))), eI (asI (cellAt (getP x9 x11.toNat) (1 : Nat)))]) ∧
    (sp_netlist_isName [PVal.str (asS (cellAt (getP x9 x11.toNat) (0 : Nat)))] []).pre ∧
    br (isName (asS (cellAt (getP x9 x11.toNat) (0 : Nat))))
    ((mapFits env1 (9 : Nat) (4 : Nat) o0 ∧ PVal.bool false = PVal.bool false) ∧
    br (!asB (mgetD o0 (PVal.str (asS (cellAt (getP x9 x11.toNat) (0 : Nat)))) (PVal.bool false)))
    ((sp_netlist_first [PVal.sl Mode.fr 1 [eI (0 : Int), eI (0 : Int)]] []).pre ∧
    mapFits env1 (9 : Nat) (4 : Nat) o0 ∧
    br (decide ((0 : Int) ≤ asI (cellAt (getP x9 x11.toNat) (1 : Nat))))
    (br (decide (asI (cellAt (getP x9 x11.toNat) (1 : Nat)) ≤ IntKind.i64.wrap ((↑check'13.length : Int) - (1 : Int))))
    ((sp_netlist_first [PVal.sl Mode.fr 1 [eI (0 : Int), eI (0 : Int)]] []).pre ∧
    L_netlist_each_api_Output_c9_0 K
    [PVal.fn (141 : Nat)
    [PVal.fptr false (PVal.mapr (0 : Nat)),
    PVal.fptr false
    (PVal.fn (119 : Nat) [PVal.fptr false (PVal.agg [PVal.str check'10, PVal.sl Mode.fr 2 check'11, PVal.sl Mode.fr 5 check'12, PVal.sl Mode.fr 4 check'13, PVal.sl Mode.fr 2 check'14])])],
    PVal.sl Mode.fr 2 x9, eI x10, eI (IntKind.i64.wrap (x11 + (1 : Int)))]
    [AObj.mp (mset o0 (PVal.str (asS (cellAt (getP x9 x11.toNat) (0 : Nat)))) (PVal.bool true))])
    ((sp_netlist_first [PVal.sl Mode.fr 1 [eI (0 : Int), eI (9 : Int)]] []).pre ∧
    K (PVal.tup [eI x11, eI (9 : Int)]) [AObj.mp (mset o0 (PVal.str (asS (cellAt (getP x9 x11.toNat) (0 : Nat)))) (PVal.bool true))]))
    ((sp_netlist_first [PVal.sl Mode.fr 1 [eI (0 : Int), eI (9 : Int)]] []).pre ∧
    K (PVal.tup [eI x11, eI (9 : Int)]) [AObj.mp (mset o0 (PVal.str (asS (cellAt (getP x9 x11.toNat) (0 : Nat)))) (PVal.bool true))]))
    ((sp_netlist_first [PVal.sl Mode.fr 1 [eI (0 : Int), eI (5 : Int)]] []).pre ∧
    mapFits env1 (9 : Nat) (4 : Nat) o0 ∧
    br (decide ((0 : Int) ≤ asI (cellAt (getP x9 x11.toNat) (1 : Nat))))
    (br (decide (asI (cellAt (getP x9 x11.toNat) (1 : Nat)) ≤ IntKind.i64.wrap ((↑check'13.length : Int) - (1 : Int))))
    ((sp_netlist_first [PVal.sl Mode.fr 1 [eI (5 : Int), eI (0 : Int)]] []).pre ∧
    K (PVal.tup [eI x11, eI (5 : Int)]) [AObj.mp (mset o0 (PVal.str (asS (cellAt (getP x9 x11.toNat) (0 : Nat)))) (PVal.bool true))])
    ((sp_netlist_first [PVal.sl Mode.fr 1 [eI (5 : Int), eI (9 : Int)]] []).pre ∧
    K (PVal.tup [eI x11, eI (5 : Int)]) [AObj.mp (mset o0 (PVal.str (asS (cellAt (getP x9 x11.toNat) (0 : Nat)))) (PVal.bool true))]))
    ((sp_netlist_first [PVal.sl Mode.fr 1 [eI (5 : Int), eI (9 : Int)]] []).pre ∧
    K (PVal.tup [eI x11, eI (5 : Int)]) [AObj.mp (mset o0 (PVal.str (asS (cellAt (getP x9 x11.toNat) (0 : Nat)))) (PVal.bool true))])))
    ((mapFits env1 (9 : Nat) (4 : Nat) o0 ∧ PVal.bool false = PVal.bool false) ∧
    br (!asB (mgetD o0 (PVal.str (asS (cellAt (getP x9 x11.toNat) (0 : Nat)))) (PVal.bool false)))
    ((sp_netlist_first [PVal.sl Mode.fr 1 [eI (4 : Int), eI (0 : Int)]] []).pre ∧
    mapFits env1 (9 : Nat) (4 : Nat) o0 ∧
    br (decide ((0 : Int) ≤ asI (cellAt (getP x9 x11.toNat) (1 : Nat))))
    (br (decide (asI (cellAt (getP x9 x11.toNat) (1 : Nat)) ≤ IntKind.i64.wrap ((↑check'13.length : Int) - (1 : Int))))
    ((sp_netlist_first [PVal.sl Mode.fr 1 [eI (4 : Int), eI (0 : Int)]] []).pre ∧
    K (PVal.tup [eI x11, eI (4 : Int)]) [AObj.mp (mset o0 (PVal.str (asS (cellAt (getP x9 x11.toNat) (0 : Nat)))) (PVal.bool true))])
    ((sp_netlist_first [PVal.sl Mode.fr 1 [eI (4 : Int), eI (9 : Int)]] []).pre ∧
    K (PVal.tup [eI x11, eI (4 : Int)]) [AObj.mp (mset o0 (PVal.str (asS (cellAt (getP x9 x11.toNat) (0 : Nat)))) (PVal.bool true))]))
    ((sp_netlist_first [PVal.sl Mode.fr 1 [eI (4 : Int), eI (9 : Int)]] []).pre ∧
    K (PVal.tup [eI x11, eI (4 : Int)]) [AObj.mp (mset o0 (PVal.str (asS (cellAt (getP x9 x11.toNat) (0 : Nat)))) (PVal.bool true))]))
    ((sp_netlist_first [PVal.sl Mode.fr 1 [eI (4 : Int), eI (5 : Int)]] []).pre ∧
    mapFits env1 (9 : Nat) (4 : Nat) o0 ∧
    br (decide ((0 : Int) ≤ asI (cellAt (getP x9 x11.toNat) (1 : Nat))))
    (br (decide (asI (cellAt (getP x9 x11.toNat) (1 : Nat)) ≤ IntKind.i64.wrap ((↑check'13.length : Int) - (1 : Int))))
    ((sp_netlist_first [PVal.sl Mode.fr 1 [eI (4 : Int), eI (0 : Int)]] []).pre ∧
    K (PVal.tup [eI x11, eI (4 : Int)]) [AObj.mp (mset o0 (PVal.str (asS (cellAt (getP x9 x11.toNat) (0 : Nat)))) (PVal.bool true))])
    ((sp_netlist_first [PVal.sl Mode.fr 1 [eI (4 : Int), eI (9 : Int)]] []).pre ∧
    K (PVal.tup [eI x11, eI (4 : Int)]) [AObj.mp (mset o0 (PVal.str (asS (cellAt (getP x9 x11.toNat) (0 : Nat)))) (PVal.bool true))]))
    ((sp_netlist_first [PVal.sl Mode.fr 1 [eI (4 : Int), eI (9 : Int)]] []).pre ∧
    K (PVal.tup [eI x11, eI (4 : Int)]) [AObj.mp (mset o0 (PVal.str (asS (cellAt (getP x9 x11.toNat) (0 : Nat)))) (PVal.bool true))]))))
  (K (PVal.tup [eI (0 : Int), eI (0 : Int)]) [AObj.mp o0])) :
    L_netlist_each_api_Output_c9_0 K [PVal.fn (141 : Nat)
    [PVal.fptr false (PVal.mapr (0 : Nat)),
    PVal.fptr false (PVal.fn (119 : Nat) [PVal.fptr false (PVal.agg [PVal.str check'10, PVal.sl Mode.fr 2 check'11, PVal.sl Mode.fr 5 check'12, PVal.sl Mode.fr 4 check'13, PVal.sl Mode.fr 2 check'14])])],
  PVal.sl Mode.fr 2 x9, eI x10, eI x11] [AObj.mp o0] :=
  r_of (n := 5) h (by kernel_rfl)
def L_graph_CheckNodes_c2_0 (K : PVal → List AObj → Prop) (vs : List PVal) (os : List AObj) : Prop := LoopP env1 0 175 0 (cd env1 175 [1, 1, 1, 1, 1, 1, 0, 1, 0, 0]) vs os (kat env1 5 0 175 [1, 1, 1, 1, 1, 1, 0, 1, 0] K [])
def C_graph_CheckNodes_c2_4 (K : PVal → List AObj → Prop) (vs : List PVal) (os : List AObj) : Prop := CutP env1 0 175 0 (cd env1 175 [1, 1]) [2, 3, 4, 5, 6] vs os (kat env1 5 0 175 [1, 1] K [])
theorem e_graph_CheckNodes_c2 (K : PVal → List AObj → Prop) (i : Int) (op : Int) (w : Int) (v : Int) (leaves : List PVal) (nodes : List PVal) (args : List PVal)
    (h : br (decide ((0 : Int) ≤ op))
  (br (decide (op ≤ (18 : Int)))
    (br (decide ((1 : Int) ≤ w))
    (br (decide (w ≤ (16 : Int)))
    ((sp_graph_first [PVal.sl Mode.fr 1 [eI (0 : Int), eI (0 : Int)]] []).pre ∧
    C_graph_CheckNodes_c2_4 K [PVal.fptr false opsV, PVal.fptr false (PVal.sl Mode.fr 1 leaves), PVal.fptr false (PVal.sl Mode.fr 4 nodes), PVal.ref (0 : Nat) (1 : Nat) (0 : Nat) (0 : Nat), PVal.ref (1 : Nat) (4 : Nat) (0 : Nat) (0 : Nat)]
    [AObj.row true (3 : Nat) (1 : Nat) [eI i], AObj.row true (59 : Nat) (4 : Nat) [PVal.agg [eI op, eI w, PVal.sl Mode.fr 1 args, eI v]]])
    ((sp_graph_first [PVal.sl Mode.fr 1 [eI (0 : Int), eI (2 : Int)]] []).pre ∧ K (eI (2 : Int)) []))
    ((sp_graph_first [PVal.sl Mode.fr 1 [eI (0 : Int), eI (2 : Int)]] []).pre ∧ K (eI (2 : Int)) []))
    (br (decide ((1 : Int) ≤ w))
    (br (decide (w ≤ (16 : Int))) ((sp_graph_first [PVal.sl Mode.fr 1 [eI (15 : Int), eI (0 : Int)]] []).pre ∧ K (eI (15 : Int)) [])
    ((sp_graph_first [PVal.sl Mode.fr 1 [eI (15 : Int), eI (2 : Int)]] []).pre ∧ K (eI (15 : Int)) []))
    ((sp_graph_first [PVal.sl Mode.fr 1 [eI (15 : Int), eI (2 : Int)]] []).pre ∧ K (eI (15 : Int)) [])))
  (br (decide ((1 : Int) ≤ w))
    (br (decide (w ≤ (16 : Int))) ((sp_graph_first [PVal.sl Mode.fr 1 [eI (15 : Int), eI (0 : Int)]] []).pre ∧ K (eI (15 : Int)) [])
    ((sp_graph_first [PVal.sl Mode.fr 1 [eI (15 : Int), eI (2 : Int)]] []).pre ∧ K (eI (15 : Int)) []))
    ((sp_graph_first [PVal.sl Mode.fr 1 [eI (15 : Int), eI (2 : Int)]] []).pre ∧ K (eI (15 : Int)) []))) :
    CallP env1 175 [eI i, PVal.agg [eI op, eI w, PVal.sl Mode.fr 1 args, eI v], PVal.fptr false opsV, PVal.fptr false (PVal.sl Mode.fr 1 leaves),
  PVal.fptr false (PVal.sl Mode.fr 4 nodes)] [] K :=
  e_of (n := 6) h (by kernel_rfl)
-- loop 0 is not reached
theorem c_graph_CheckNodes_c2_4_op0 (K : PVal → List AObj → Prop) (i : Int) (w : Int) (v : Int) (leaves : List PVal) (nodes : List PVal) (args : List PVal)
    (h : ((0 : Int) ≤ (0 : Int) ∧ (0 : Int) < (19 : Int)) ∧
  (sp_slices_IndexFunc_int_int [PVal.sl Mode.fr 1 args, PVal.fn (179 : Nat) [PVal.fptr false (eI i)]] []).pre ∧
    br (decide ((↑args.length : Int) = (0 : Int)))
    (br (!decide (idxGo (oddB (capI (PVal.fn (179 : Nat) [PVal.fptr false (eI i)]))) (0 : Nat) (dInts args) ≥ (0 : Int)))
    (br (decide (w ≥ (0 : Int)))
    ((0 : Int) ≤ w ∧
    br (decide ((0 : Int) ≤ v))
    (br (decide (v ≤ IntKind.i64.wrap (IntKind.i64.wrap ((1 : Int) * (2 : Int) ^ min w.toNat (64 : Nat)) - (1 : Int))))
    ((sp_graph_first [PVal.sl Mode.fr 1 [eI (0 : Int), eI (0 : Int), eI (0 : Int)]] []).pre ∧
    L_graph_CheckNodes_c2_0 K
    [PVal.fptr false (PVal.sl Mode.fr 4 nodes), PVal.ref (0 : Nat) (4 : Nat) (0 : Nat) (0 : Nat), PVal.ref (1 : Nat) (5 : Nat) (0 : Nat) (0 : Nat), PVal.own (2 : Nat), PVal.sl Mode.fr 1 args,
    eI (↑args.length : Int), eI (0 : Int)]
    [AObj.row true (59 : Nat) (4 : Nat) [PVal.agg [eI (0 : Int), eI w, PVal.sl Mode.fr 1 args, eI v]],
    AObj.row true (188 : Nat) (5 : Nat)
    [PVal.agg
    [PVal.str { data := #[OfNat.ofNat (99 : Nat), OfNat.ofNat (111 : Nat), OfNat.ofNat (110 : Nat), OfNat.ofNat (115 : Nat), OfNat.ofNat (116 : Nat)] }, eI (0 : Int), PVal.bool true, PVal.fn (202 : Nat) [],
    PVal.fn (201 : Nat) []]],
    AObj.row false (3 : Nat) (1 : Nat) []])
    ((sp_graph_first [PVal.sl Mode.fr 1 [eI (0 : Int), eI (0 : Int), eI (2 : Int)]] []).pre ∧ K (eI (2 : Int)) []))
    ((sp_graph_first [PVal.sl Mode.fr 1 [eI (0 : Int), eI (0 : Int), eI (2 : Int)]] []).pre ∧ K (eI (2 : Int)) []))
    ((sp_graph_first [PVal.sl Mode.fr 1 [eI (0 : Int), eI (0 : Int), eI (2 : Int)]] []).pre ∧ K (eI (2 : Int)) []))
    (br (decide (w ≥ (0 : Int)))
    ((0 : Int) ≤ w ∧
    br (decide ((0 : Int) ≤ v))
    (br (decide (v ≤ IntKind.i64.wrap (IntKind.i64.wrap ((1 : Int) * (2 : Int) ^ min w.toNat (64 : Nat)) - (1 : Int))))
    ((sp_graph_first [PVal.sl Mode.fr 1 [eI (0 : Int), eI (9 : Int), eI (0 : Int)]] []).pre ∧ K (eI (9 : Int)) [])
    ((sp_graph_first [PVal.sl Mode.fr 1 [eI (0 : Int), eI (9 : Int), eI (2 : Int)]] []).pre ∧ K (eI (9 : Int)) []))
    ((sp_graph_first [PVal.sl Mode.fr 1 [eI (0 : Int), eI (9 : Int), eI (2 : Int)]] []).pre ∧ K (eI (9 : Int)) []))
    ((sp_graph_first [PVal.sl Mode.fr 1 [eI (0 : Int), eI (9 : Int), eI (2 : Int)]] []).pre ∧ K (eI (9 : Int)) [])))
    (br (!decide (idxGo (oddB (capI (PVal.fn (179 : Nat) [PVal.fptr false (eI i)]))) (0 : Nat) (dInts args) ≥ (0 : Int)))
    (br (decide (w ≥ (0 : Int)))
    ((0 : Int) ≤ w ∧
    br (decide ((0 : Int) ≤ v))
    (br (decide (v ≤ IntKind.i64.wrap (IntKind.i64.wrap ((1 : Int) * (2 : Int) ^ min w.toNat (64 : Nat)) - (1 : Int))))
    ((sp_graph_first [PVal.sl Mode.fr 1 [eI (10 : Int), eI (0 : Int), eI (0 : Int)]] []).pre ∧ K (eI (10 : Int)) [])
    ((sp_graph_first [PVal.sl Mode.fr 1 [eI (10 : Int), eI (0 : Int), eI (2 : Int)]] []).pre ∧ K (eI (10 : Int)) []))
    ((sp_graph_first [PVal.sl Mode.fr 1 [eI (10 : Int), eI (0 : Int), eI (2 : Int)]] []).pre ∧ K (eI (10 : Int)) []))
    ((sp_graph_first [PVal.sl Mode.fr 1 [eI (10 : Int), eI (0 : Int), eI (2 : Int)]] []).pre ∧ K (eI (10 : Int)) []))
    (br (decide (w ≥ (0 : Int)))
    ((0 : Int) ≤ w ∧
    br (decide ((0 : Int) ≤ v))
    (br (decide (v ≤ IntKind.i64.wrap (IntKind.i64.wrap ((1 : Int) * (2 : Int) ^ min w.toNat (64 : Nat)) - (1 : Int))))
    ((sp_graph_first [PVal.sl Mode.fr 1 [eI (10 : Int), eI (9 : Int), eI (0 : Int)]] []).pre ∧ K (eI (10 : Int)) [])
    ((sp_graph_first [PVal.sl Mode.fr 1 [eI (10 : Int), eI (9 : Int), eI (2 : Int)]] []).pre ∧ K (eI (10 : Int)) []))
    ((sp_graph_first [PVal.sl Mode.fr 1 [eI (10 : Int), eI (9 : Int), eI (2 : Int)]] []).pre ∧ K (eI (10 : Int)) []))
    ((sp_graph_first [PVal.sl Mode.fr 1 [eI (10 : Int), eI (9 : Int), eI (2 : Int)]] []).pre ∧ K (eI (10 : Int)) [])))) :
    C_graph_CheckNodes_c2_4 K [PVal.fptr false opsV, PVal.fptr false (PVal.sl Mode.fr 1 leaves), PVal.fptr false (PVal.sl Mode.fr 4 nodes), PVal.ref (0 : Nat) (1 : Nat) (0 : Nat) (0 : Nat), PVal.ref (1 : Nat) (4 : Nat) (0 : Nat) (0 : Nat)] [AObj.row true T_int (1 : Nat) [eI i], AObj.row true T_api_Node (4 : Nat) [PVal.agg [eI (0 : Int), eI w, PVal.sl Mode.fr 1 args, eI v]]] :=
  c_of (n := 5) h (by kernel_rfl)
theorem r_graph_CheckNodes_c2_0_op0 (K : PVal → List AObj → Prop) (x4 : List PVal) (x56 : List PVal) (x57 : Int) (x58 : Int) (o00 : Int) (o01 : Int) (o02 : List PVal) (o03 : Int) (o10 : ByteArray) (o11 : Int) (o12 : Bool) (o2 : List PVal)
    (h : br (decide (x58 < x57))
  ((((0 : Int) ≤ x58 ∧ x58 < (↑x56.length : Int)) ∧ getP x56 x58.toNat = eI (asI (getP x56 x58.toNat))) ∧
    (((0 : Int) ≤ asI (getP x56 x58.toNat) ∧ asI (getP x56 x58.toNat) < (↑x4.length : Int)) ∧
    getP x4 (asI (getP x56 x58.toNat)).toNat =
    PVal.agg
    [eI (asI (cellAt (getP x4 (asI (getP x56 x58.toNat)).toNat) (0 : Nat))), eI (asI (cellAt (getP x4 (asI (getP x56 x58.toNat)).toNat) (1 : Nat))),
    PVal.sl Mode.fr 1 (asL (cellAt (getP x4 (asI (getP x56 x58.toNat)).toNat) (2 : Nat))), eI (asI (cellAt (getP x4 (asI (getP x56 x58.toNat)).toNat) (3 : Nat)))]) ∧
    ((o2.length + (1 : Nat)) * (8 : Nat) ≤ (140737488355328 : Nat) ∧ o2.length + (1 : Nat) ≤ (9223372036854775807 : Nat)) ∧
    L_graph_CheckNodes_c2_0 K
    [PVal.fptr false (PVal.sl Mode.fr 4 x4), PVal.ref (0 : Nat) (4 : Nat) (0 : Nat) (0 : Nat), PVal.ref (1 : Nat) (5 : Nat) (0 : Nat) (0 : Nat), PVal.own (2 : Nat), PVal.sl Mode.fr 1 x56, eI x57,
    eI (IntKind.i64.wrap (x58 + (1 : Int)))]
    [AObj.row true (59 : Nat) (4 : Nat) [PVal.agg [eI o00, eI o01, PVal.sl Mode.fr 1 o02, eI o03]],
    AObj.row true (188 : Nat) (5 : Nat) [PVal.agg [PVal.str o10, eI o11, PVal.bool o12, PVal.fn (202 : Nat) [], PVal.fn (201 : Nat) []]],
    AObj.row false (3 : Nat) (1 : Nat) (o2 ++ [eI (asI (cellAt (getP x4 (asI (getP x56 x58.toNat)).toNat) (1 : Nat)))])])
  (K (eI (0 : Int)) [])) :
    L_graph_CheckNodes_c2_0 K [PVal.fptr false (PVal.sl Mode.fr 4 x4), PVal.ref (0 : Nat) (4 : Nat) (0 : Nat) (0 : Nat), PVal.ref (1 : Nat) (5 : Nat) (0 : Nat) (0 : Nat), PVal.own (2 : Nat), PVal.sl Mode.fr 1 x56, eI x57,
  eI x58] [AObj.row true (59 : Nat) (4 : Nat) [PVal.agg [eI o00, eI o01, PVal.sl Mode.fr 1 o02, eI o03]],
  AObj.row true (188 : Nat) (5 : Nat) [PVal.agg [PVal.str o10, eI o11, PVal.bool o12, PVal.fn (202 : Nat) [], PVal.fn (201 : Nat) []]], AObj.row false (3 : Nat) (1 : Nat) o2] :=
  r_of (n := 5) h (by kernel_rfl)
theorem c_graph_CheckNodes_c2_4_op1 (K : PVal → List AObj → Prop) (i : Int) (w : Int) (v : Int) (leaves : List PVal) (nodes : List PVal) (args : List PVal)
    (h : ((0 : Int) ≤ (1 : Int) ∧ (1 : Int) < (19 : Int)) ∧
  (sp_slices_IndexFunc_int_int [PVal.sl Mode.fr 1 args, PVal.fn (179 : Nat) [PVal.fptr false (eI i)]] []).pre ∧
    br (decide ((↑args.length : Int) = (0 : Int)))
    (br (!decide (idxGo (oddB (capI (PVal.fn (179 : Nat) [PVal.fptr false (eI i)]))) (0 : Nat) (dInts args) ≥ (0 : Int)))
    (br (decide ((0 : Int) ≤ v))
    (br (!decide (v ≤ IntKind.i64.wrap ((↑leaves.length : Int) - (1 : Int))))
    ((sp_graph_first [PVal.sl Mode.fr 1 [eI (0 : Int), eI (0 : Int), eI (6 : Int)]] []).pre ∧ K (eI (6 : Int)) [])
    ((((0 : Int) ≤ v ∧ v < (↑leaves.length : Int)) ∧ getP leaves v.toNat = eI (asI (getP leaves v.toNat))) ∧
    br (decide (asI (getP leaves v.toNat) = w))
    ((sp_graph_first [PVal.sl Mode.fr 1 [eI (0 : Int), eI (0 : Int), eI (0 : Int)]] []).pre ∧
    L_graph_CheckNodes_c2_0 K
    [PVal.fptr false (PVal.sl Mode.fr 4 nodes), PVal.ref (0 : Nat) (4 : Nat) (0 : Nat) (0 : Nat), PVal.ref (1 : Nat) (5 : Nat) (0 : Nat) (0 : Nat), PVal.own (2 : Nat), PVal.sl Mode.fr 1 args,
    eI (↑args.length : Int), eI (0 : Int)]
    [AObj.row true (59 : Nat) (4 : Nat) [PVal.agg [eI (1 : Int), eI w, PVal.sl Mode.fr 1 args, eI v]],
    AObj.row true (188 : Nat) (5 : Nat)
    [PVal.agg
    [PVal.str { data := #[OfNat.ofNat (108 : Nat), OfNat.ofNat (101 : Nat), OfNat.ofNat (97 : Nat), OfNat.ofNat (102 : Nat)] }, eI (0 : Int), PVal.bool true, PVal.fn (202 : Nat) [], PVal.fn (201 : Nat) []]],
    AObj.row false (3 : Nat) (1 : Nat) []])
    ((sp_graph_first [PVal.sl Mode.fr 1 [eI (0 : Int), eI (0 : Int), eI (25 : Int)]] []).pre ∧ K (eI (25 : Int)) [])))
    ((sp_graph_first [PVal.sl Mode.fr 1 [eI (0 : Int), eI (0 : Int), eI (6 : Int)]] []).pre ∧ K (eI (6 : Int)) []))
    (br (decide ((0 : Int) ≤ v))
    (br (!decide (v ≤ IntKind.i64.wrap ((↑leaves.length : Int) - (1 : Int))))
    ((sp_graph_first [PVal.sl Mode.fr 1 [eI (0 : Int), eI (9 : Int), eI (6 : Int)]] []).pre ∧ K (eI (9 : Int)) [])
    ((((0 : Int) ≤ v ∧ v < (↑leaves.length : Int)) ∧ getP leaves v.toNat = eI (asI (getP leaves v.toNat))) ∧
    br (decide (asI (getP leaves v.toNat) = w)) ((sp_graph_first [PVal.sl Mode.fr 1 [eI (0 : Int), eI (9 : Int), eI (0 : Int)]] []).pre ∧ K (eI (9 : Int)) [])
    ((sp_graph_first [PVal.sl Mode.fr 1 [eI (0 : Int), eI (9 : Int), eI (25 : Int)]] []).pre ∧ K (eI (9 : Int)) [])))
    ((sp_graph_first [PVal.sl Mode.fr 1 [eI (0 : Int), eI (9 : Int), eI (6 : Int)]] []).pre ∧ K (eI (9 : Int)) [])))
    (br (!decide (idxGo (oddB (capI (PVal.fn (179 : Nat) [PVal.fptr false (eI i)]))) (0 : Nat) (dInts args) ≥ (0 : Int)))
    (br (decide ((0 : Int) ≤ v))
    (br (!decide (v ≤ IntKind.i64.wrap ((↑leaves.length : Int) - (1 : Int))))
    ((sp_graph_first [PVal.sl Mode.fr 1 [eI (10 : Int), eI (0 : Int), eI (6 : Int)]] []).pre ∧ K (eI (10 : Int)) [])
    ((((0 : Int) ≤ v ∧ v < (↑leaves.length : Int)) ∧ getP leaves v.toNat = eI (asI (getP leaves v.toNat))) ∧
    br (decide (asI (getP leaves v.toNat) = w)) ((sp_graph_first [PVal.sl Mode.fr 1 [eI (10 : Int), eI (0 : Int), eI (0 : Int)]] []).pre ∧ K (eI (10 : Int)) [])
    ((sp_graph_first [PVal.sl Mode.fr 1 [eI (10 : Int), eI (0 : Int), eI (25 : Int)]] []).pre ∧ K (eI (10 : Int)) [])))
    ((sp_graph_first [PVal.sl Mode.fr 1 [eI (10 : Int), eI (0 : Int), eI (6 : Int)]] []).pre ∧ K (eI (10 : Int)) []))
    (br (decide ((0 : Int) ≤ v))
    (br (!decide (v ≤ IntKind.i64.wrap ((↑leaves.length : Int) - (1 : Int))))
    ((sp_graph_first [PVal.sl Mode.fr 1 [eI (10 : Int), eI (9 : Int), eI (6 : Int)]] []).pre ∧ K (eI (10 : Int)) [])
    ((((0 : Int) ≤ v ∧ v < (↑leaves.length : Int)) ∧ getP leaves v.toNat = eI (asI (getP leaves v.toNat))) ∧
    br (decide (asI (getP leaves v.toNat) = w)) ((sp_graph_first [PVal.sl Mode.fr 1 [eI (10 : Int), eI (9 : Int), eI (0 : Int)]] []).pre ∧ K (eI (10 : Int)) [])
    ((sp_graph_first [PVal.sl Mode.fr 1 [eI (10 : Int), eI (9 : Int), eI (25 : Int)]] []).pre ∧ K (eI (10 : Int)) [])))
    ((sp_graph_first [PVal.sl Mode.fr 1 [eI (10 : Int), eI (9 : Int), eI (6 : Int)]] []).pre ∧ K (eI (10 : Int)) [])))) :
    C_graph_CheckNodes_c2_4 K [PVal.fptr false opsV, PVal.fptr false (PVal.sl Mode.fr 1 leaves), PVal.fptr false (PVal.sl Mode.fr 4 nodes), PVal.ref (0 : Nat) (1 : Nat) (0 : Nat) (0 : Nat), PVal.ref (1 : Nat) (4 : Nat) (0 : Nat) (0 : Nat)] [AObj.row true T_int (1 : Nat) [eI i], AObj.row true T_api_Node (4 : Nat) [PVal.agg [eI (1 : Int), eI w, PVal.sl Mode.fr 1 args, eI v]]] :=
  c_of (n := 5) h (by kernel_rfl)
theorem r_graph_CheckNodes_c2_0_op1 (K : PVal → List AObj → Prop) (x4 : List PVal) (x56 : List PVal) (x57 : Int) (x58 : Int) (o00 : Int) (o01 : Int) (o02 : List PVal) (o03 : Int) (o10 : ByteArray) (o11 : Int) (o12 : Bool) (o2 : List PVal)
    (h : br (decide (x58 < x57))
  ((((0 : Int) ≤ x58 ∧ x58 < (↑x56.length : Int)) ∧ getP x56 x58.toNat = eI (asI (getP x56 x58.toNat))) ∧
    (((0 : Int) ≤ asI (getP x56 x58.toNat) ∧ asI (getP x56 x58.toNat) < (↑x4.length : Int)) ∧
    getP x4 (asI (getP x56 x58.toNat)).toNat =
    PVal.agg
    [eI (asI (cellAt (getP x4 (asI (getP x56 x58.toNat)).toNat) (0 : Nat))), eI (asI (cellAt (getP x4 (asI (getP x56 x58.toNat)).toNat) (1 : Nat))),
    PVal.sl Mode.fr 1 (asL (cellAt (getP x4 (asI (getP x56 x58.toNat)).toNat) (2 : Nat))), eI (asI (cellAt (getP x4 (asI (getP x56 x58.toNat)).toNat) (3 : Nat)))]) ∧
    ((o2.length + (1 : Nat)) * (8 : Nat) ≤ (140737488355328 : Nat) ∧ o2.length + (1 : Nat) ≤ (9223372036854775807 : Nat)) ∧
    L_graph_CheckNodes_c2_0 K
    [PVal.fptr false (PVal.sl Mode.fr 4 x4), PVal.ref (0 : Nat) (4 : Nat) (0 : Nat) (0 : Nat), PVal.ref (1 : Nat) (5 : Nat) (0 : Nat) (0 : Nat), PVal.own (2 : Nat), PVal.sl Mode.fr 1 x56, eI x57,
    eI (IntKind.i64.wrap (x58 + (1 : Int)))]
    [AObj.row true (59 : Nat) (4 : Nat) [PVal.agg [eI o00, eI o01, PVal.sl Mode.fr 1 o02, eI o03]],
    AObj.row true (188 : Nat) (5 : Nat) [PVal.agg [PVal.str o10, eI o11, PVal.bool o12, PVal.fn (202 : Nat) [], PVal.fn (201 : Nat) []]],
    AObj.row false (3 : Nat) (1 : Nat) (o2 ++ [eI (asI (cellAt (getP x4 (asI (getP x56 x58.toNat)).toNat) (1 : Nat)))])])
  (K (eI (0 : Int)) [])) :
    L_graph_CheckNodes_c2_0 K [PVal.fptr false (PVal.sl Mode.fr 4 x4), PVal.ref (0 : Nat) (4 : Nat) (0 : Nat) (0 : Nat), PVal.ref (1 : Nat) (5 : Nat) (0 : Nat) (0 : Nat), PVal.own (2 : Nat), PVal.sl Mode.fr 1 x56, eI x57,
  eI x58] [AObj.row true (59 : Nat) (4 : Nat) [PVal.agg [eI o00, eI o01, PVal.sl Mode.fr 1 o02, eI o03]],
  AObj.row true (188 : Nat) (5 : Nat) [PVal.agg [PVal.str o10, eI o11, PVal.bool o12, PVal.fn (202 : Nat) [], PVal.fn (201 : Nat) []]], AObj.row false (3 : Nat) (1 : Nat) o2] :=
  r_of (n := 5) h (by kernel_rfl)
theorem c_graph_CheckNodes_c2_4_op2 (K : PVal → List AObj → Prop) (i : Int) (w : Int) (v : Int) (leaves : List PVal) (nodes : List PVal) (args : List PVal)
    (h : ((0 : Int) ≤ (2 : Int) ∧ (2 : Int) < (19 : Int)) ∧
  (sp_slices_IndexFunc_int_int [PVal.sl Mode.fr 1 args, PVal.fn (179 : Nat) [PVal.fptr false (eI i)]] []).pre ∧
    br (decide ((↑args.length : Int) = (1 : Int)))
    (br (!decide (idxGo (oddB (capI (PVal.fn (179 : Nat) [PVal.fptr false (eI i)]))) (0 : Nat) (dInts args) ≥ (0 : Int)))
    (br (decide (v = (0 : Int)))
    ((sp_graph_first [PVal.sl Mode.fr 1 [eI (0 : Int), eI (0 : Int), eI (0 : Int)]] []).pre ∧
    L_graph_CheckNodes_c2_0 K
    [PVal.fptr false (PVal.sl Mode.fr 4 nodes), PVal.ref (0 : Nat) (4 : Nat) (0 : Nat) (0 : Nat), PVal.ref (1 : Nat) (5 : Nat) (0 : Nat) (0 : Nat), PVal.own (2 : Nat), PVal.sl Mode.fr 1 args,
    eI (↑args.length : Int), eI (0 : Int)]
    [AObj.row true (59 : Nat) (4 : Nat) [PVal.agg [eI (2 : Int), eI w, PVal.sl Mode.fr 1 args, eI v]],
    AObj.row true (188 : Nat) (5 : Nat)
    [PVal.agg [PVal.str { data := #[OfNat.ofNat (110 : Nat), OfNat.ofNat (111 : Nat), OfNat.ofNat (116 : Nat)] }, eI (1 : Int), PVal.bool false, PVal.fn (203 : Nat) [], PVal.fn (204 : Nat) []]],
    AObj.row false (3 : Nat) (1 : Nat) []])
    ((sp_graph_first [PVal.sl Mode.fr 1 [eI (0 : Int), eI (0 : Int), eI (3 : Int)]] []).pre ∧ K (eI (3 : Int)) []))
    (br (decide (v = (0 : Int))) ((sp_graph_first [PVal.sl Mode.fr 1 [eI (0 : Int), eI (9 : Int), eI (0 : Int)]] []).pre ∧ K (eI (9 : Int)) [])
    ((sp_graph_first [PVal.sl Mode.fr 1 [eI (0 : Int), eI (9 : Int), eI (3 : Int)]] []).pre ∧ K (eI (9 : Int)) [])))
    (br (!decide (idxGo (oddB (capI (PVal.fn (179 : Nat) [PVal.fptr false (eI i)]))) (0 : Nat) (dInts args) ≥ (0 : Int)))
    (br (decide (v = (0 : Int))) ((sp_graph_first [PVal.sl Mode.fr 1 [eI (10 : Int), eI (0 : Int), eI (0 : Int)]] []).pre ∧ K (eI (10 : Int)) [])
    ((sp_graph_first [PVal.sl Mode.fr 1 [eI (10 : Int), eI (0 : Int), eI (3 : Int)]] []).pre ∧ K (eI (10 : Int)) []))
    (br (decide (v = (0 : Int))) ((sp_graph_first [PVal.sl Mode.fr 1 [eI (10 : Int), eI (9 : Int), eI (0 : Int)]] []).pre ∧ K (eI (10 : Int)) [])
    ((sp_graph_first [PVal.sl Mode.fr 1 [eI (10 : Int), eI (9 : Int), eI (3 : Int)]] []).pre ∧ K (eI (10 : Int)) [])))) :
    C_graph_CheckNodes_c2_4 K [PVal.fptr false opsV, PVal.fptr false (PVal.sl Mode.fr 1 leaves), PVal.fptr false (PVal.sl Mode.fr 4 nodes), PVal.ref (0 : Nat) (1 : Nat) (0 : Nat) (0 : Nat), PVal.ref (1 : Nat) (4 : Nat) (0 : Nat) (0 : Nat)] [AObj.row true T_int (1 : Nat) [eI i], AObj.row true T_api_Node (4 : Nat) [PVal.agg [eI (2 : Int), eI w, PVal.sl Mode.fr 1 args, eI v]]] :=
  c_of (n := 5) h (by kernel_rfl)
theorem r_graph_CheckNodes_c2_0_op2 (K : PVal → List AObj → Prop) (x4 : List PVal) (x56 : List PVal) (x57 : Int) (x58 : Int) (o00 : Int) (o01 : Int) (o02 : List PVal) (o03 : Int) (o10 : ByteArray) (o11 : Int) (o12 : Bool) (o2 : List PVal)
    (h : br (decide (x58 < x57))
  ((((0 : Int) ≤ x58 ∧ x58 < (↑x56.length : Int)) ∧ getP x56 x58.toNat = eI (asI (getP x56 x58.toNat))) ∧
    (((0 : Int) ≤ asI (getP x56 x58.toNat) ∧ asI (getP x56 x58.toNat) < (↑x4.length : Int)) ∧
    getP x4 (asI (getP x56 x58.toNat)).toNat =
    PVal.agg
    [eI (asI (cellAt (getP x4 (asI (getP x56 x58.toNat)).toNat) (0 : Nat))), eI (asI (cellAt (getP x4 (asI (getP x56 x58.toNat)).toNat) (1 : Nat))),
    PVal.sl Mode.fr 1 (asL (cellAt (getP x4 (asI (getP x56 x58.toNat)).toNat) (2 : Nat))), eI (asI (cellAt (getP x4 (asI (getP x56 x58.toNat)).toNat) (3 : Nat)))]) ∧
    ((o2.length + (1 : Nat)) * (8 : Nat) ≤ (140737488355328 : Nat) ∧ o2.length + (1 : Nat) ≤ (9223372036854775807 : Nat)) ∧
    L_graph_CheckNodes_c2_0 K
    [PVal.fptr false (PVal.sl Mode.fr 4 x4), PVal.ref (0 : Nat) (4 : Nat) (0 : Nat) (0 : Nat), PVal.ref (1 : Nat) (5 : Nat) (0 : Nat) (0 : Nat), PVal.own (2 : Nat), PVal.sl Mode.fr 1 x56, eI x57,
    eI (IntKind.i64.wrap (x58 + (1 : Int)))]
    [AObj.row true (59 : Nat) (4 : Nat) [PVal.agg [eI o00, eI o01, PVal.sl Mode.fr 1 o02, eI o03]],
    AObj.row true (188 : Nat) (5 : Nat) [PVal.agg [PVal.str o10, eI o11, PVal.bool o12, PVal.fn (203 : Nat) [], PVal.fn (204 : Nat) []]],
    AObj.row false (3 : Nat) (1 : Nat) (o2 ++ [eI (asI (cellAt (getP x4 (asI (getP x56 x58.toNat)).toNat) (1 : Nat)))])])
  ((sp_slices_IndexFunc_int_int [PVal.sl Mode.fr 1 o2, PVal.fn (234 : Nat) [PVal.fptr false (eI o01)]] []).pre ∧
    br (!decide (idxGo (neB (capI (PVal.fn (234 : Nat) [PVal.fptr false (eI o01)]))) (0 : Nat) (dInts o2) ≥ (0 : Int))) (K (eI (0 : Int)) []) (K (eI (25 : Int)) []))) :
    L_graph_CheckNodes_c2_0 K [PVal.fptr false (PVal.sl Mode.fr 4 x4), PVal.ref (0 : Nat) (4 : Nat) (0 : Nat) (0 : Nat), PVal.ref (1 : Nat) (5 : Nat) (0 : Nat) (0 : Nat), PVal.own (2 : Nat), PVal.sl Mode.fr 1 x56, eI x57,
  eI x58] [AObj.row true (59 : Nat) (4 : Nat) [PVal.agg [eI o00, eI o01, PVal.sl Mode.fr 1 o02, eI o03]],
  AObj.row true (188 : Nat) (5 : Nat) [PVal.agg [PVal.str o10, eI o11, PVal.bool o12, PVal.fn (203 : Nat) [], PVal.fn (204 : Nat) []]], AObj.row false (3 : Nat) (1 : Nat) o2] :=
  r_of (n := 5) h (by kernel_rfl)
theorem c_graph_CheckNodes_c2_4_op3 (K : PVal → List AObj → Prop) (i : Int) (w : Int) (v : Int) (leaves : List PVal) (nodes : List PVal) (args : List PVal)
    (h : ((0 : Int) ≤ (3 : Int) ∧ (3 : Int) < (19 : Int)) ∧
  (sp_slices_IndexFunc_int_int [PVal.sl Mode.fr 1 args, PVal.fn (179 : Nat) [PVal.fptr false (eI i)]] []).pre ∧
    br (decide ((↑args.length : Int) = (2 : Int)))
    (br (!decide (idxGo (oddB (capI (PVal.fn (179 : Nat) [PVal.fptr false (eI i)]))) (0 : Nat) (dInts args) ≥ (0 : Int)))
    (br (decide (v = (0 : Int)))
    ((sp_graph_first [PVal.sl Mode.fr 1 [eI (0 : Int), eI (0 : Int), eI (0 : Int)]] []).pre ∧
    L_graph_CheckNodes_c2_0 K
    [PVal.fptr false (PVal.sl Mode.fr 4 nodes), PVal.ref (0 : Nat) (4 : Nat) (0 : Nat) (0 : Nat), PVal.ref (1 : Nat) (5 : Nat) (0 : Nat) (0 : Nat), PVal.own (2 : Nat), PVal.sl Mode.fr 1 args,
    eI (↑args.length : Int), eI (0 : Int)]
    [AObj.row true (59 : Nat) (4 : Nat) [PVal.agg [eI (3 : Int), eI w, PVal.sl Mode.fr 1 args, eI v]],
    AObj.row true (188 : Nat) (5 : Nat)
    [PVal.agg
    [PVal.str { data := #[OfNat.ofNat (97 : Nat), OfNat.ofNat (110 : Nat), OfNat.ofNat (100 : Nat)] }, eI (2 : Int), PVal.bool false, PVal.fn (203 : Nat) [],
    PVal.fn (235 : Nat) [PVal.fptr false (PVal.fn (207 : Nat) [])]]],
    AObj.row false (3 : Nat) (1 : Nat) []])
    ((sp_graph_first [PVal.sl Mode.fr 1 [eI (0 : Int), eI (0 : Int), eI (3 : Int)]] []).pre ∧ K (eI (3 : Int)) []))
    (br (decide (v = (0 : Int))) ((sp_graph_first [PVal.sl Mode.fr 1 [eI (0 : Int), eI (9 : Int), eI (0 : Int)]] []).pre ∧ K (eI (9 : Int)) [])
    ((sp_graph_first [PVal.sl Mode.fr 1 [eI (0 : Int), eI (9 : Int), eI (3 : Int)]] []).pre ∧ K (eI (9 : Int)) [])))
    (br (!decide (idxGo (oddB (capI (PVal.fn (179 : Nat) [PVal.fptr false (eI i)]))) (0 : Nat) (dInts args) ≥ (0 : Int)))
    (br (decide (v = (0 : Int))) ((sp_graph_first [PVal.sl Mode.fr 1 [eI (10 : Int), eI (0 : Int), eI (0 : Int)]] []).pre ∧ K (eI (10 : Int)) [])
    ((sp_graph_first [PVal.sl Mode.fr 1 [eI (10 : Int), eI (0 : Int), eI (3 : Int)]] []).pre ∧ K (eI (10 : Int)) []))
    (br (decide (v = (0 : Int))) ((sp_graph_first [PVal.sl Mode.fr 1 [eI (10 : Int), eI (9 : Int), eI (0 : Int)]] []).pre ∧ K (eI (10 : Int)) [])
    ((sp_graph_first [PVal.sl Mode.fr 1 [eI (10 : Int), eI (9 : Int), eI (3 : Int)]] []).pre ∧ K (eI (10 : Int)) [])))) :
    C_graph_CheckNodes_c2_4 K [PVal.fptr false opsV, PVal.fptr false (PVal.sl Mode.fr 1 leaves), PVal.fptr false (PVal.sl Mode.fr 4 nodes), PVal.ref (0 : Nat) (1 : Nat) (0 : Nat) (0 : Nat), PVal.ref (1 : Nat) (4 : Nat) (0 : Nat) (0 : Nat)] [AObj.row true T_int (1 : Nat) [eI i], AObj.row true T_api_Node (4 : Nat) [PVal.agg [eI (3 : Int), eI w, PVal.sl Mode.fr 1 args, eI v]]] :=
  c_of (n := 5) h (by kernel_rfl)
theorem r_graph_CheckNodes_c2_0_op3 (K : PVal → List AObj → Prop) (x4 : List PVal) (x56 : List PVal) (x57 : Int) (x58 : Int) (o00 : Int) (o01 : Int) (o02 : List PVal) (o03 : Int) (o10 : ByteArray) (o11 : Int) (o12 : Bool) (o2 : List PVal)
    (h : br (decide (x58 < x57))
  ((((0 : Int) ≤ x58 ∧ x58 < (↑x56.length : Int)) ∧ getP x56 x58.toNat = eI (asI (getP x56 x58.toNat))) ∧
    (((0 : Int) ≤ asI (getP x56 x58.toNat) ∧ asI (getP x56 x58.toNat) < (↑x4.length : Int)) ∧
    getP x4 (asI (getP x56 x58.toNat)).toNat =
    PVal.agg
    [eI (asI (cellAt (getP x4 (asI (getP x56 x58.toNat)).toNat) (0 : Nat))), eI (asI (cellAt (getP x4 (asI (getP x56 x58.toNat)).toNat) (1 : Nat))),
    PVal.sl Mode.fr 1 (asL (cellAt (getP x4 (asI (getP x56 x58.toNat)).toNat) (2 : Nat))), eI (asI (cellAt (getP x4 (asI (getP x56 x58.toNat)).toNat) (3 : Nat)))]) ∧
    ((o2.length + (1 : Nat)) * (8 : Nat) ≤ (140737488355328 : Nat) ∧ o2.length + (1 : Nat) ≤ (9223372036854775807 : Nat)) ∧
    L_graph_CheckNodes_c2_0 K
    [PVal.fptr false (PVal.sl Mode.fr 4 x4), PVal.ref (0 : Nat) (4 : Nat) (0 : Nat) (0 : Nat), PVal.ref (1 : Nat) (5 : Nat) (0 : Nat) (0 : Nat), PVal.own (2 : Nat), PVal.sl Mode.fr 1 x56, eI x57,
    eI (IntKind.i64.wrap (x58 + (1 : Int)))]
    [AObj.row true (59 : Nat) (4 : Nat) [PVal.agg [eI o00, eI o01, PVal.sl Mode.fr 1 o02, eI o03]],
    AObj.row true (188 : Nat) (5 : Nat) [PVal.agg [PVal.str o10, eI o11, PVal.bool o12, PVal.fn (203 : Nat) [], PVal.fn (235 : Nat) [PVal.fptr false (PVal.fn (207 : Nat) [])]]],
    AObj.row false (3 : Nat) (1 : Nat) (o2 ++ [eI (asI (cellAt (getP x4 (asI (getP x56 x58.toNat)).toNat) (1 : Nat)))])])
  ((sp_slices_IndexFunc_int_int [PVal.sl Mode.fr 1 o2, PVal.fn (234 : Nat) [PVal.fptr false (eI o01)]] []).pre ∧
    br (!decide (idxGo (neB (capI (PVal.fn (234 : Nat) [PVal.fptr false (eI o01)]))) (0 : Nat) (dInts o2) ≥ (0 : Int))) (K (eI (0 : Int)) []) (K (eI (25 : Int)) []))) :
    L_graph_CheckNodes_c2_0 K [PVal.fptr false (PVal.sl Mode.fr 4 x4), PVal.ref (0 : Nat) (4 : Nat) (0 : Nat) (0 : Nat), PVal.ref (1 : Nat) (5 : Nat) (0 : Nat) (0 : Nat), PVal.own (2 : Nat), PVal.sl Mode.fr 1 x56, eI x57,
  eI x58] [AObj.row true (59 : Nat) (4 : Nat) [PVal.agg [eI o00, eI o01, PVal.sl Mode.fr 1 o02, eI o03]],
  AObj.row true (188 : Nat) (5 : Nat) [PVal.agg [PVal.str o10, eI o11, PVal.bool o12, PVal.fn (203 : Nat) [], PVal.fn (235 : Nat) [PVal.fptr false (PVal.fn (207 : Nat) [])]]], AObj.row false (3 : Nat) (1 : Nat) o2] :=
  r_of (n := 5) h (by kernel_rfl)
theorem c_graph_CheckNodes_c2_4_op4 (K : PVal → List AObj → Prop) (i : Int) (w : Int) (v : Int) (leaves : List PVal) (nodes : List PVal) (args : List PVal)
    (h : ((0 : Int) ≤ (4 : Int) ∧ (4 : Int) < (19 : Int)) ∧
  (sp_slices_IndexFunc_int_int [PVal.sl Mode.fr 1 args, PVal.fn (179 : Nat) [PVal.fptr false (eI i)]] []).pre ∧
    br (decide ((↑args.length : Int) = (2 : Int)))
    (br (!decide (idxGo (oddB (capI (PVal.fn (179 : Nat) [PVal.fptr false (eI i)]))) (0 : Nat) (dInts args) ≥ (0 : Int)))
    (br (decide (v = (0 : Int)))
    ((sp_graph_first [PVal.sl Mode.fr 1 [eI (0 : Int), eI (0 : Int), eI (0 : Int)]] []).pre ∧
    L_graph_CheckNodes_c2_0 K
    [PVal.fptr false (PVal.sl Mode.fr 4 nodes), PVal.ref (0 : Nat) (4 : Nat) (0 : Nat) (0 : Nat), PVal.ref (1 : Nat) (5 : Nat) (0 : Nat) (0 : Nat), PVal.own (2 : Nat), PVal.sl Mode.fr 1 args,
    eI (↑args.length : Int), eI (0 : Int)]
    [AObj.row true (59 : Nat) (4 : Nat) [PVal.agg [eI (4 : Int), eI w, PVal.sl Mode.fr 1 args, eI v]],
    AObj.row true (188 : Nat) (5 : Nat)
    [PVal.agg [PVal.str { data := #[OfNat.ofNat (111 : Nat), OfNat.ofNat (114 : Nat)] }, eI (2 : Int), PVal.bool false, PVal.fn (203 : Nat) [], PVal.fn (235 : Nat) [PVal.fptr false (PVal.fn (208 : Nat) [])]]],
    AObj.row false (3 : Nat) (1 : Nat) []])
    ((sp_graph_first [PVal.sl Mode.fr 1 [eI (0 : Int), eI (0 : Int), eI (3 : Int)]] []).pre ∧ K (eI (3 : Int)) []))
    (br (decide (v = (0 : Int))) ((sp_graph_first [PVal.sl Mode.fr 1 [eI (0 : Int), eI (9 : Int), eI (0 : Int)]] []).pre ∧ K (eI (9 : Int)) [])
    ((sp_graph_first [PVal.sl Mode.fr 1 [eI (0 : Int), eI (9 : Int), eI (3 : Int)]] []).pre ∧ K (eI (9 : Int)) [])))
    (br (!decide (idxGo (oddB (capI (PVal.fn (179 : Nat) [PVal.fptr false (eI i)]))) (0 : Nat) (dInts args) ≥ (0 : Int)))
    (br (decide (v = (0 : Int))) ((sp_graph_first [PVal.sl Mode.fr 1 [eI (10 : Int), eI (0 : Int), eI (0 : Int)]] []).pre ∧ K (eI (10 : Int)) [])
    ((sp_graph_first [PVal.sl Mode.fr 1 [eI (10 : Int), eI (0 : Int), eI (3 : Int)]] []).pre ∧ K (eI (10 : Int)) []))
    (br (decide (v = (0 : Int))) ((sp_graph_first [PVal.sl Mode.fr 1 [eI (10 : Int), eI (9 : Int), eI (0 : Int)]] []).pre ∧ K (eI (10 : Int)) [])
    ((sp_graph_first [PVal.sl Mode.fr 1 [eI (10 : Int), eI (9 : Int), eI (3 : Int)]] []).pre ∧ K (eI (10 : Int)) [])))) :
    C_graph_CheckNodes_c2_4 K [PVal.fptr false opsV, PVal.fptr false (PVal.sl Mode.fr 1 leaves), PVal.fptr false (PVal.sl Mode.fr 4 nodes), PVal.ref (0 : Nat) (1 : Nat) (0 : Nat) (0 : Nat), PVal.ref (1 : Nat) (4 : Nat) (0 : Nat) (0 : Nat)] [AObj.row true T_int (1 : Nat) [eI i], AObj.row true T_api_Node (4 : Nat) [PVal.agg [eI (4 : Int), eI w, PVal.sl Mode.fr 1 args, eI v]]] :=
  c_of (n := 5) h (by kernel_rfl)
theorem r_graph_CheckNodes_c2_0_op4 (K : PVal → List AObj → Prop) (x4 : List PVal) (x56 : List PVal) (x57 : Int) (x58 : Int) (o00 : Int) (o01 : Int) (o02 : List PVal) (o03 : Int) (o10 : ByteArray) (o11 : Int) (o12 : Bool) (o2 : List PVal)
    (h : br (decide (x58 < x57))
  ((((0 : Int) ≤ x58 ∧ x58 < (↑x56.length : Int)) ∧ getP x56 x58.toNat = eI (asI (getP x56 x58.toNat))) ∧
    (((0 : Int) ≤ asI (getP x56 x58.toNat) ∧ asI (getP x56 x58.toNat) < (↑x4.length : Int)) ∧
    getP x4 (asI (getP x56 x58.toNat)).toNat =
    PVal.agg
    [eI (asI (cellAt (getP x4 (asI (getP x56 x58.toNat)).toNat) (0 : Nat))), eI (asI (cellAt (getP x4 (asI (getP x56 x58.toNat)).toNat) (1 : Nat))),
    PVal.sl Mode.fr 1 (asL (cellAt (getP x4 (asI (getP x56 x58.toNat)).toNat) (2 : Nat))), eI (asI (cellAt (getP x4 (asI (getP x56 x58.toNat)).toNat) (3 : Nat)))]) ∧
    ((o2.length + (1 : Nat)) * (8 : Nat) ≤ (140737488355328 : Nat) ∧ o2.length + (1 : Nat) ≤ (9223372036854775807 : Nat)) ∧
    L_graph_CheckNodes_c2_0 K
    [PVal.fptr false (PVal.sl Mode.fr 4 x4), PVal.ref (0 : Nat) (4 : Nat) (0 : Nat) (0 : Nat), PVal.ref (1 : Nat) (5 : Nat) (0 : Nat) (0 : Nat), PVal.own (2 : Nat), PVal.sl Mode.fr 1 x56, eI x57,
    eI (IntKind.i64.wrap (x58 + (1 : Int)))]
    [AObj.row true (59 : Nat) (4 : Nat) [PVal.agg [eI o00, eI o01, PVal.sl Mode.fr 1 o02, eI o03]],
    AObj.row true (188 : Nat) (5 : Nat) [PVal.agg [PVal.str o10, eI o11, PVal.bool o12, PVal.fn (203 : Nat) [], PVal.fn (235 : Nat) [PVal.fptr false (PVal.fn (208 : Nat) [])]]],
    AObj.row false (3 : Nat) (1 : Nat) (o2 ++ [eI (asI (cellAt (getP x4 (asI (getP x56 x58.toNat)).toNat) (1 : Nat)))])])
  ((sp_slices_IndexFunc_int_int [PVal.sl Mode.fr 1 o2, PVal.fn (234 : Nat) [PVal.fptr false (eI o01)]] []).pre ∧
    br (!decide (idxGo (neB (capI (PVal.fn (234 : Nat) [PVal.fptr false (eI o01)]))) (0 : Nat) (dInts o2) ≥ (0 : Int))) (K (eI (0 : Int)) []) (K (eI (25 : Int)) []))) :
    L_graph_CheckNodes_c2_0 K [PVal.fptr false (PVal.sl Mode.fr 4 x4), PVal.ref (0 : Nat) (4 : Nat) (0 : Nat) (0 : Nat), PVal.ref (1 : Nat) (5 : Nat) (0 : Nat) (0 : Nat), PVal.own (2 : Nat), PVal.sl Mode.fr 1 x56, eI x57,
  eI x58] [AObj.row true (59 : Nat) (4 : Nat) [PVal.agg [eI o00, eI o01, PVal.sl Mode.fr 1 o02, eI o03]],
  AObj.row true (188 : Nat) (5 : Nat) [PVal.agg [PVal.str o10, eI o11, PVal.bool o12, PVal.fn (203 : Nat) [], PVal.fn (235 : Nat) [PVal.fptr false (PVal.fn (208 : Nat) [])]]], AObj.row false (3 : Nat) (1 : Nat) o2] :=
  r_of (n := 5) h (by kernel_rfl)
theorem c_graph_CheckNodes_c2_4_op5 (K : PVal → List AObj → Prop) (i : Int) (w : Int) (v : Int) (leaves : List PVal) (nodes : List PVal) (args : List PVal)
    (h : ((0 : Int) ≤ (5 : Int) ∧ (5 : Int) < (19 : Int)) ∧
  (sp_slices_IndexFunc_int_int [PVal.sl Mode.fr 1 args, PVal.fn (179 : Nat) [PVal.fptr false (eI i)]] []).pre ∧
    br (decide ((↑args.length : Int) = (2 : Int)))
    (br (!decide (idxGo (oddB (capI (PVal.fn (179 : Nat) [PVal.fptr false (eI i)]))) (0 : Nat) (dInts args) ≥ (0 : Int)))
    (br (decide (v = (0 : Int)))
    ((sp_graph_first [PVal.sl Mode.fr 1 [eI (0 : Int), eI (0 : Int), eI (0 : Int)]] []).pre ∧
    L_graph_CheckNodes_c2_0 K
    [PVal.fptr false (PVal.sl Mode.fr 4 nodes), PVal.ref (0 : Nat) (4 : Nat) (0 : Nat) (0 : Nat), PVal.ref (1 : Nat) (5 : Nat) (0 : Nat) (0 : Nat), PVal.own (2 : Nat), PVal.sl Mode.fr 1 args,
    eI (↑args.length : Int), eI (0 : Int)]
    [AObj.row true (59 : Nat) (4 : Nat) [PVal.agg [eI (5 : Int), eI w, PVal.sl Mode.fr 1 args, eI v]],
    AObj.row true (188 : Nat) (5 : Nat)
    [PVal.agg
    [PVal.str { data := #[OfNat.ofNat (120 : Nat), OfNat.ofNat (111 : Nat), OfNat.ofNat (114 : Nat)] }, eI (2 : Int), PVal.bool false, PVal.fn (203 : Nat) [],
    PVal.fn (235 : Nat) [PVal.fptr false (PVal.fn (209 : Nat) [])]]],
    AObj.row false (3 : Nat) (1 : Nat) []])
    ((sp_graph_first [PVal.sl Mode.fr 1 [eI (0 : Int), eI (0 : Int), eI (3 : Int)]] []).pre ∧ K (eI (3 : Int)) []))
    (br (decide (v = (0 : Int))) ((sp_graph_first [PVal.sl Mode.fr 1 [eI (0 : Int), eI (9 : Int), eI (0 : Int)]] []).pre ∧ K (eI (9 : Int)) [])
    ((sp_graph_first [PVal.sl Mode.fr 1 [eI (0 : Int), eI (9 : Int), eI (3 : Int)]] []).pre ∧ K (eI (9 : Int)) [])))
    (br (!decide (idxGo (oddB (capI (PVal.fn (179 : Nat) [PVal.fptr false (eI i)]))) (0 : Nat) (dInts args) ≥ (0 : Int)))
    (br (decide (v = (0 : Int))) ((sp_graph_first [PVal.sl Mode.fr 1 [eI (10 : Int), eI (0 : Int), eI (0 : Int)]] []).pre ∧ K (eI (10 : Int)) [])
    ((sp_graph_first [PVal.sl Mode.fr 1 [eI (10 : Int), eI (0 : Int), eI (3 : Int)]] []).pre ∧ K (eI (10 : Int)) []))
    (br (decide (v = (0 : Int))) ((sp_graph_first [PVal.sl Mode.fr 1 [eI (10 : Int), eI (9 : Int), eI (0 : Int)]] []).pre ∧ K (eI (10 : Int)) [])
    ((sp_graph_first [PVal.sl Mode.fr 1 [eI (10 : Int), eI (9 : Int), eI (3 : Int)]] []).pre ∧ K (eI (10 : Int)) [])))) :
    C_graph_CheckNodes_c2_4 K [PVal.fptr false opsV, PVal.fptr false (PVal.sl Mode.fr 1 leaves), PVal.fptr false (PVal.sl Mode.fr 4 nodes), PVal.ref (0 : Nat) (1 : Nat) (0 : Nat) (0 : Nat), PVal.ref (1 : Nat) (4 : Nat) (0 : Nat) (0 : Nat)] [AObj.row true T_int (1 : Nat) [eI i], AObj.row true T_api_Node (4 : Nat) [PVal.agg [eI (5 : Int), eI w, PVal.sl Mode.fr 1 args, eI v]]] :=
  c_of (n := 5) h (by kernel_rfl)
theorem r_graph_CheckNodes_c2_0_op5 (K : PVal → List AObj → Prop) (x4 : List PVal) (x56 : List PVal) (x57 : Int) (x58 : Int) (o00 : Int) (o01 : Int) (o02 : List PVal) (o03 : Int) (o10 : ByteArray) (o11 : Int) (o12 : Bool) (o2 : List PVal)
    (h : br (decide (x58 < x57))
  ((((0 : Int) ≤ x58 ∧ x58 < (↑x56.length : Int)) ∧ getP x56 x58.toNat = eI (asI (getP x56 x58.toNat))) ∧
    (((0 : Int) ≤ asI (getP x56 x58.toNat) ∧ asI (getP x56 x58.toNat) < (↑x4.length : Int)) ∧
    getP x4 (asI (getP x56 x58.toNat)).toNat =
    PVal.agg
    [eI (asI (cellAt (getP x4 (asI (getP x56 x58.toNat)).toNat) (0 : Nat))), eI (asI (cellAt (getP x4 (asI (getP x56 x58.toNat)).toNat) (1 : Nat))),
    PVal.sl Mode.fr 1 (asL (cellAt (getP x4 (asI (getP x56 x58.toNat)).toNat) (2 : Nat))), eI (asI (cellAt (getP x4 (asI (getP x56 x58.toNat)).toNat) (3 : Nat)))]) ∧
    ((o2.length + (1 : Nat)) * (8 : Nat) ≤ (140737488355328 : Nat) ∧ o2.length + (1 : Nat) ≤ (9223372036854775807 : Nat)) ∧
    L_graph_CheckNodes_c2_0 K
    [PVal.fptr false (PVal.sl Mode.fr 4 x4), PVal.ref (0 : Nat) (4 : Nat) (0 : Nat) (0 : Nat), PVal.ref (1 : Nat) (5 : Nat) (0 : Nat) (0 : Nat), PVal.own (2 : Nat), PVal.sl Mode.fr 1 x56, eI x57,
    eI (IntKind.i64.wrap (x58 + (1 : Int)))]
    [AObj.row true (59 : Nat) (4 : Nat) [PVal.agg [eI o00, eI o01, PVal.sl Mode.fr 1 o02, eI o03]],
    AObj.row true (188 : Nat) (5 : Nat) [PVal.agg [PVal.str o10, eI o11, PVal.bool o12, PVal.fn (203 : Nat) [], PVal.fn (235 : Nat) [PVal.fptr false (PVal.fn (209 : Nat) [])]]],
    AObj.row false (3 : Nat) (1 : Nat) (o2 ++ [eI (asI (cellAt (getP x4 (asI (getP x56 x58.toNat)).toNat) (1 : Nat)))])])
  ((sp_slices_IndexFunc_int_int [PVal.sl Mode.fr 1 o2, PVal.fn (234 : Nat) [PVal.fptr false (eI o01)]] []).pre ∧
    br (!decide (idxGo (neB (capI (PVal.fn (234 : Nat) [PVal.fptr false (eI o01)]))) (0 : Nat) (dInts o2) ≥ (0 : Int))) (K (eI (0 : Int)) []) (K (eI (25 : Int)) []))) :
    L_graph_CheckNodes_c2_0 K [PVal.fptr false (PVal.sl Mode.fr 4 x4), PVal.ref (0 : Nat) (4 : Nat) (0 : Nat) (0 : Nat), PVal.ref (1 : Nat) (5 : Nat) (0 : Nat) (0 : Nat), PVal.own (2 : Nat), PVal.sl Mode.fr 1 x56, eI x57,
  eI x58] [AObj.row true (59 : Nat) (4 : Nat) [PVal.agg [eI o00, eI o01, PVal.sl Mode.fr 1 o02, eI o03]],
  AObj.row true (188 : Nat) (5 : Nat) [PVal.agg [PVal.str o10, eI o11, PVal.bool o12, PVal.fn (203 : Nat) [], PVal.fn (235 : Nat) [PVal.fptr false (PVal.fn (209 : Nat) [])]]], AObj.row false (3 : Nat) (1 : Nat) o2] :=
  r_of (n := 5) h (by kernel_rfl)
theorem c_graph_CheckNodes_c2_4_op6 (K : PVal → List AObj → Prop) (i : Int) (w : Int) (v : Int) (leaves : List PVal) (nodes : List PVal) (args : List PVal)
    (h : ((0 : Int) ≤ (6 : Int) ∧ (6 : Int) < (19 : Int)) ∧
  (sp_slices_IndexFunc_int_int [PVal.sl Mode.fr 1 args, PVal.fn (179 : Nat) [PVal.fptr false (eI i)]] []).pre ∧
    br (decide ((↑args.length : Int) = (2 : Int)))
    (br (!decide (idxGo (oddB (capI (PVal.fn (179 : Nat) [PVal.fptr false (eI i)]))) (0 : Nat) (dInts args) ≥ (0 : Int)))
    (br (decide (v = (0 : Int)))
    ((sp_graph_first [PVal.sl Mode.fr 1 [eI (0 : Int), eI (0 : Int), eI (0 : Int)]] []).pre ∧
    L_graph_CheckNodes_c2_0 K
    [PVal.fptr false (PVal.sl Mode.fr 4 nodes), PVal.ref (0 : Nat) (4 : Nat) (0 : Nat) (0 : Nat), PVal.ref (1 : Nat) (5 : Nat) (0 : Nat) (0 : Nat), PVal.own (2 : Nat), PVal.sl Mode.fr 1 args,
    eI (↑args.length : Int), eI (0 : Int)]
    [AObj.row true (59 : Nat) (4 : Nat) [PVal.agg [eI (6 : Int), eI w, PVal.sl Mode.fr 1 args, eI v]],
    AObj.row true (188 : Nat) (5 : Nat)
    [PVal.agg
    [PVal.str { data := #[OfNat.ofNat (97 : Nat), OfNat.ofNat (100 : Nat), OfNat.ofNat (100 : Nat)] }, eI (2 : Int), PVal.bool false, PVal.fn (203 : Nat) [],
    PVal.fn (235 : Nat) [PVal.fptr false (PVal.fn (210 : Nat) [])]]],
    AObj.row false (3 : Nat) (1 : Nat) []])
    ((sp_graph_first [PVal.sl Mode.fr 1 [eI (0 : Int), eI (0 : Int), eI (3 : Int)]] []).pre ∧ K (eI (3 : Int)) []))
    (br (decide (v = (0 : Int))) ((sp_graph_first [PVal.sl Mode.fr 1 [eI (0 : Int), eI (9 : Int), eI (0 : Int)]] []).pre ∧ K (eI (9 : Int)) [])
    ((sp_graph_first [PVal.sl Mode.fr 1 [eI (0 : Int), eI (9 : Int), eI (3 : Int)]] []).pre ∧ K (eI (9 : Int)) [])))
    (br (!decide (idxGo (oddB (capI (PVal.fn (179 : Nat) [PVal.fptr false (eI i)]))) (0 : Nat) (dInts args) ≥ (0 : Int)))
    (br (decide (v = (0 : Int))) ((sp_graph_first [PVal.sl Mode.fr 1 [eI (10 : Int), eI (0 : Int), eI (0 : Int)]] []).pre ∧ K (eI (10 : Int)) [])
    ((sp_graph_first [PVal.sl Mode.fr 1 [eI (10 : Int), eI (0 : Int), eI (3 : Int)]] []).pre ∧ K (eI (10 : Int)) []))
    (br (decide (v = (0 : Int))) ((sp_graph_first [PVal.sl Mode.fr 1 [eI (10 : Int), eI (9 : Int), eI (0 : Int)]] []).pre ∧ K (eI (10 : Int)) [])
    ((sp_graph_first [PVal.sl Mode.fr 1 [eI (10 : Int), eI (9 : Int), eI (3 : Int)]] []).pre ∧ K (eI (10 : Int)) [])))) :
    C_graph_CheckNodes_c2_4 K [PVal.fptr false opsV, PVal.fptr false (PVal.sl Mode.fr 1 leaves), PVal.fptr false (PVal.sl Mode.fr 4 nodes), PVal.ref (0 : Nat) (1 : Nat) (0 : Nat) (0 : Nat), PVal.ref (1 : Nat) (4 : Nat) (0 : Nat) (0 : Nat)] [AObj.row true T_int (1 : Nat) [eI i], AObj.row true T_api_Node (4 : Nat) [PVal.agg [eI (6 : Int), eI w, PVal.sl Mode.fr 1 args, eI v]]] :=
  c_of (n := 5) h (by kernel_rfl)
theorem r_graph_CheckNodes_c2_0_op6 (K : PVal → List AObj → Prop) (x4 : List PVal) (x56 : List PVal) (x57 : Int) (x58 : Int) (o00 : Int) (o01 : Int) (o02 : List PVal) (o03 : Int) (o10 : ByteArray) (o11 : Int) (o12 : Bool) (o2 : List PVal)
    (h : br (decide (x58 < x57))
  ((((0 : Int) ≤ x58 ∧ x58 < (↑x56.length : Int)) ∧ getP x56 x58.toNat = eI (asI (getP x56 x58.toNat))) ∧
    (((0 : Int) ≤ asI (getP x56 x58.toNat) ∧ asI (getP x56 x58.toNat) < (↑x4.length : Int)) ∧
    getP x4 (asI (getP x56 x58.toNat)).toNat =
    PVal.agg
    [eI (asI (cellAt (getP x4 (asI (getP x56 x58.toNat)).toNat) (0 : Nat))), eI (asI (cellAt (getP x4 (asI (getP x56 x58.toNat)).toNat) (1 : Nat))),
    PVal.sl Mode.fr 1 (asL (cellAt (getP x4 (asI (getP x56 x58.toNat)).toNat) (2 : Nat))), eI (asI (cellAt (getP x4 (asI (getP x56 x58.toNat)).toNat) (3 : Nat)))]) ∧
    ((o2.length + (1 : Nat)) * (8 : Nat) ≤ (140737488355328 : Nat) ∧ o2.length + (1 : Nat) ≤ (9223372036854775807 : Nat)) ∧
    L_graph_CheckNodes_c2_0 K
    [PVal.fptr false (PVal.sl Mode.fr 4 x4), PVal.ref (0 : Nat) (4 : Nat) (0 : Nat) (0 : Nat), PVal.ref (1 : Nat) (5 : Nat) (0 : Nat) (0 : Nat), PVal.own (2 : Nat), PVal.sl Mode.fr 1 x56, eI x57,
    eI (IntKind.i64.wrap (x58 + (1 : Int)))]
    [AObj.row true (59 : Nat) (4 : Nat) [PVal.agg [eI o00, eI o01, PVal.sl Mode.fr 1 o02, eI o03]],
    AObj.row true (188 : Nat) (5 : Nat) [PVal.agg [PVal.str o10, eI o11, PVal.bool o12, PVal.fn (203 : Nat) [], PVal.fn (235 : Nat) [PVal.fptr false (PVal.fn (210 : Nat) [])]]],
    AObj.row false (3 : Nat) (1 : Nat) (o2 ++ [eI (asI (cellAt (getP x4 (asI (getP x56 x58.toNat)).toNat) (1 : Nat)))])])
  ((sp_slices_IndexFunc_int_int [PVal.sl Mode.fr 1 o2, PVal.fn (234 : Nat) [PVal.fptr false (eI o01)]] []).pre ∧
    br (!decide (idxGo (neB (capI (PVal.fn (234 : Nat) [PVal.fptr false (eI o01)]))) (0 : Nat) (dInts o2) ≥ (0 : Int))) (K (eI (0 : Int)) []) (K (eI (25 : Int)) []))) :
    L_graph_CheckNodes_c2_0 K [PVal.fptr false (PVal.sl Mode.fr 4 x4), PVal.ref (0 : Nat) (4 : Nat) (0 : Nat) (0 : Nat), PVal.ref (1 : Nat) (5 : Nat) (0 : Nat) (0 : Nat), PVal.own (2 : Nat), PVal.sl Mode.fr 1 x56, eI x57,
  eI x58] [AObj.row true (59 : Nat) (4 : Nat) [PVal.agg [eI o00, eI o01, PVal.sl Mode.fr 1 o02, eI o03]],
  AObj.row true (188 : Nat) (5 : Nat) [PVal.agg [PVal.str o10, eI o11, PVal.bool o12, PVal.fn (203 : Nat) [], PVal.fn (235 : Nat) [PVal.fptr false (PVal.fn (210 : Nat) [])]]], AObj.row false (3 : Nat) (1 : Nat) o2] :=
  r_of (n := 5) h (by kernel_rfl)
theorem c_graph_CheckNodes_c2_4_op7 (K : PVal → List AObj → Prop) (i : Int) (w : Int) (v : Int) (leaves : List PVal) (nodes : List PVal) (args : List PVal)
    (h : ((0 : Int) ≤ (7 : Int) ∧ (7 : Int) < (19 : Int)) ∧
  (sp_slices_IndexFunc_int_int [PVal.sl Mode.fr 1 args, PVal.fn (179 : Nat) [PVal.fptr false (eI i)]] []).pre ∧
    br (decide ((↑args.length : Int) = (2 : Int)))
    (br (!decide (idxGo (oddB (capI (PVal.fn (179 : Nat) [PVal.fptr false (eI i)]))) (0 : Nat) (dInts args) ≥ (0 : Int)))
    (br (decide (v = (0 : Int)))
    ((sp_graph_first [PVal.sl Mode.fr 1 [eI (0 : Int), eI (0 : Int), eI (0 : Int)]] []).pre ∧
    L_graph_CheckNodes_c2_0 K
    [PVal.fptr false (PVal.sl Mode.fr 4 nodes), PVal.ref (0 : Nat) (4 : Nat) (0 : Nat) (0 : Nat), PVal.ref (1 : Nat) (5 : Nat) (0 : Nat) (0 : Nat), PVal.own (2 : Nat), PVal.sl Mode.fr 1 args,
    eI (↑args.length : Int), eI (0 : Int)]
    [AObj.row true (59 : Nat) (4 : Nat) [PVal.agg [eI (7 : Int), eI w, PVal.sl Mode.fr 1 args, eI v]],
    AObj.row true (188 : Nat) (5 : Nat)
    [PVal.agg
    [PVal.str { data := #[OfNat.ofNat (115 : Nat), OfNat.ofNat (117 : Nat), OfNat.ofNat (98 : Nat)] }, eI (2 : Int), PVal.bool false, PVal.fn (203 : Nat) [],
    PVal.fn (235 : Nat) [PVal.fptr false (PVal.fn (211 : Nat) [])]]],
    AObj.row false (3 : Nat) (1 : Nat) []])
    ((sp_graph_first [PVal.sl Mode.fr 1 [eI (0 : Int), eI (0 : Int), eI (3 : Int)]] []).pre ∧ K (eI (3 : Int)) []))
    (br (decide (v = (0 : Int))) ((sp_graph_first [PVal.sl Mode.fr 1 [eI (0 : Int), eI (9 : Int), eI (0 : Int)]] []).pre ∧ K (eI (9 : Int)) [])
    ((sp_graph_first [PVal.sl Mode.fr 1 [eI (0 : Int), eI (9 : Int), eI (3 : Int)]] []).pre ∧ K (eI (9 : Int)) [])))
    (br (!decide (idxGo (oddB (capI (PVal.fn (179 : Nat) [PVal.fptr false (eI i)]))) (0 : Nat) (dInts args) ≥ (0 : Int)))
    (br (decide (v = (0 : Int))) ((sp_graph_first [PVal.sl Mode.fr 1 [eI (10 : Int), eI (0 : Int), eI (0 : Int)]] []).pre ∧ K (eI (10 : Int)) [])
    ((sp_graph_first [PVal.sl Mode.fr 1 [eI (10 : Int), eI (0 : Int), eI (3 : Int)]] []).pre ∧ K (eI (10 : Int)) []))
    (br (decide (v = (0 : Int))) ((sp_graph_first [PVal.sl Mode.fr 1 [eI (10 : Int), eI (9 : Int), eI (0 : Int)]] []).pre ∧ K (eI (10 : Int)) [])
    ((sp_graph_first [PVal.sl Mode.fr 1 [eI (10 : Int), eI (9 : Int), eI (3 : Int)]] []).pre ∧ K (eI (10 : Int)) [])))) :
    C_graph_CheckNodes_c2_4 K [PVal.fptr false opsV, PVal.fptr false (PVal.sl Mode.fr 1 leaves), PVal.fptr false (PVal.sl Mode.fr 4 nodes), PVal.ref (0 : Nat) (1 : Nat) (0 : Nat) (0 : Nat), PVal.ref (1 : Nat) (4 : Nat) (0 : Nat) (0 : Nat)] [AObj.row true T_int (1 : Nat) [eI i], AObj.row true T_api_Node (4 : Nat) [PVal.agg [eI (7 : Int), eI w, PVal.sl Mode.fr 1 args, eI v]]] :=
  c_of (n := 5) h (by kernel_rfl)
theorem r_graph_CheckNodes_c2_0_op7 (K : PVal → List AObj → Prop) (x4 : List PVal) (x56 : List PVal) (x57 : Int) (x58 : Int) (o00 : Int) (o01 : Int) (o02 : List PVal) (o03 : Int) (o10 : ByteArray) (o11 : Int) (o12 : Bool) (o2 : List PVal)
    (h : br (decide (x58 < x57))
  ((((0 : Int) ≤ x58 ∧ x58 < (↑x56.length : Int)) ∧ getP x56 x58.toNat = eI (asI (getP x56 x58.toNat))) ∧
    (((0 : Int) ≤ asI (getP x56 x58.toNat) ∧ asI (getP x56 x58.toNat) < (↑x4.length : Int)) ∧
    getP x4 (asI (getP x56 x58.toNat)).toNat =
    PVal.agg
    [eI (asI (cellAt (getP x4 (asI (getP x56 x58.toNat)).toNat) (0 : Nat))), eI (asI (cellAt (getP x4 (asI (getP x56 x58.toNat)).toNat) (1 : Nat))),
    PVal.sl Mode.fr 1 (asL (cellAt (getP x4 (asI (getP x56 x58.toNat)).toNat) (2 : Nat))), eI (asI (cellAt (getP x4 (asI (getP x56 x58.toNat)).toNat) (3 : Nat)))]) ∧
    ((o2.length + (1 : Nat)) * (8 : Nat) ≤ (140737488355328 : Nat) ∧ o2.length + (1 : Nat) ≤ (9223372036854775807 : Nat)) ∧
    L_graph_CheckNodes_c2_0 K
    [PVal.fptr false (PVal.sl Mode.fr 4 x4), PVal.ref (0 : Nat) (4 : Nat) (0 : Nat) (0 : Nat), PVal.ref (1 : Nat) (5 : Nat) (0 : Nat) (0 : Nat), PVal.own (2 : Nat), PVal.sl Mode.fr 1 x56, eI x57,
    eI (IntKind.i64.wrap (x58 + (1 : Int)))]
    [AObj.row true (59 : Nat) (4 : Nat) [PVal.agg [eI o00, eI o01, PVal.sl Mode.fr 1 o02, eI o03]],
    AObj.row true (188 : Nat) (5 : Nat) [PVal.agg [PVal.str o10, eI o11, PVal.bool o12, PVal.fn (203 : Nat) [], PVal.fn (235 : Nat) [PVal.fptr false (PVal.fn (211 : Nat) [])]]],
    AObj.row false (3 : Nat) (1 : Nat) (o2 ++ [eI (asI (cellAt (getP x4 (asI (getP x56 x58.toNat)).toNat) (1 : Nat)))])])
  ((sp_slices_IndexFunc_int_int [PVal.sl Mode.fr 1 o2, PVal.fn (234 : Nat) [PVal.fptr false (eI o01)]] []).pre ∧
    br (!decide (idxGo (neB (capI (PVal.fn (234 : Nat) [PVal.fptr false (eI o01)]))) (0 : Nat) (dInts o2) ≥ (0 : Int))) (K (eI (0 : Int)) []) (K (eI (25 : Int)) []))) :
    L_graph_CheckNodes_c2_0 K [PVal.fptr false (PVal.sl Mode.fr 4 x4), PVal.ref (0 : Nat) (4 : Nat) (0 : Nat) (0 : Nat), PVal.ref (1 : Nat) (5 : Nat) (0 : Nat) (0 : Nat), PVal.own (2 : Nat), PVal.sl Mode.fr 1 x56, eI x57,
  eI x58] [AObj.row true (59 : Nat) (4 : Nat) [PVal.agg [eI o00, eI o01, PVal.sl Mode.fr 1 o02, eI o03]],
  AObj.row true (188 : Nat) (5 : Nat) [PVal.agg [PVal.str o10, eI o11, PVal.bool o12, PVal.fn (203 : Nat) [], PVal.fn (235 : Nat) [PVal.fptr false (PVal.fn (211 : Nat) [])]]], AObj.row false (3 : Nat) (1 : Nat) o2] :=
  r_of (n := 5) h (by kernel_rfl)
theorem c_graph_CheckNodes_c2_4_op8 (K : PVal → List AObj → Prop) (i : Int) (w : Int) (v : Int) (leaves : List PVal) (nodes : List PVal) (args : List PVal)
    (h : ((0 : Int) ≤ (8 : Int) ∧ (8 : Int) < (19 : Int)) ∧
  (sp_slices_IndexFunc_int_int [PVal.sl Mode.fr 1 args, PVal.fn (179 : Nat) [PVal.fptr false (eI i)]] []).pre ∧
    br (decide ((↑args.length : Int) = (2 : Int)))
    (br (!decide (idxGo (oddB (capI (PVal.fn (179 : Nat) [PVal.fptr false (eI i)]))) (0 : Nat) (dInts args) ≥ (0 : Int)))
    (br (decide (v = (0 : Int)))
    ((sp_graph_first [PVal.sl Mode.fr 1 [eI (0 : Int), eI (0 : Int), eI (0 : Int)]] []).pre ∧
    L_graph_CheckNodes_c2_0 K
    [PVal.fptr false (PVal.sl Mode.fr 4 nodes), PVal.ref (0 : Nat) (4 : Nat) (0 : Nat) (0 : Nat), PVal.ref (1 : Nat) (5 : Nat) (0 : Nat) (0 : Nat), PVal.own (2 : Nat), PVal.sl Mode.fr 1 args,
    eI (↑args.length : Int), eI (0 : Int)]
    [AObj.row true (59 : Nat) (4 : Nat) [PVal.agg [eI (8 : Int), eI w, PVal.sl Mode.fr 1 args, eI v]],
    AObj.row true (188 : Nat) (5 : Nat)
    [PVal.agg
    [PVal.str { data := #[OfNat.ofNat (109 : Nat), OfNat.ofNat (117 : Nat), OfNat.ofNat (108 : Nat)] }, eI (2 : Int), PVal.bool false, PVal.fn (203 : Nat) [],
    PVal.fn (235 : Nat) [PVal.fptr false (PVal.fn (212 : Nat) [])]]],
    AObj.row false (3 : Nat) (1 : Nat) []])
    ((sp_graph_first [PVal.sl Mode.fr 1 [eI (0 : Int), eI (0 : Int), eI (3 : Int)]] []).pre ∧ K (eI (3 : Int)) []))
    (br (decide (v = (0 : Int))) ((sp_graph_first [PVal.sl Mode.fr 1 [eI (0 : Int), eI (9 : Int), eI (0 : Int)]] []).pre ∧ K (eI (9 : Int)) [])
    ((sp_graph_first [PVal.sl Mode.fr 1 [eI (0 : Int), eI (9 : Int), eI (3 : Int)]] []).pre ∧ K (eI (9 : Int)) [])))
    (br (!decide (idxGo (oddB (capI (PVal.fn (179 : Nat) [PVal.fptr false (eI i)]))) (0 : Nat) (dInts args) ≥ (0 : Int)))
    (br (decide (v = (0 : Int))) ((sp_graph_first [PVal.sl Mode.fr 1 [eI (10 : Int), eI (0 : Int), eI (0 : Int)]] []).pre ∧ K (eI (10 : Int)) [])
    ((sp_graph_first [PVal.sl Mode.fr 1 [eI (10 : Int), eI (0 : Int), eI (3 : Int)]] []).pre ∧ K (eI (10 : Int)) []))
    (br (decide (v = (0 : Int))) ((sp_graph_first [PVal.sl Mode.fr 1 [eI (10 : Int), eI (9 : Int), eI (0 : Int)]] []).pre ∧ K (eI (10 : Int)) [])
    ((sp_graph_first [PVal.sl Mode.fr 1 [eI (10 : Int), eI (9 : Int), eI (3 : Int)]] []).pre ∧ K (eI (10 : Int)) [])))) :
    C_graph_CheckNodes_c2_4 K [PVal.fptr false opsV, PVal.fptr false (PVal.sl Mode.fr 1 leaves), PVal.fptr false (PVal.sl Mode.fr 4 nodes), PVal.ref (0 : Nat) (1 : Nat) (0 : Nat) (0 : Nat), PVal.ref (1 : Nat) (4 : Nat) (0 : Nat) (0 : Nat)] [AObj.row true T_int (1 : Nat) [eI i], AObj.row true T_api_Node (4 : Nat) [PVal.agg [eI (8 : Int), eI w, PVal.sl Mode.fr 1 args, eI v]]] :=
  c_of (n := 5) h (by kernel_rfl)
theorem r_graph_CheckNodes_c2_0_op8 (K : PVal → List AObj → Prop) (x4 : List PVal) (x56 : List PVal) (x57 : Int) (x58 : Int) (o00 : Int) (o01 : Int) (o02 : List PVal) (o03 : Int) (o10 : ByteArray) (o11 : Int) (o12 : Bool) (o2 : List PVal)
    (h : br (decide (x58 < x57))
  ((((0 : Int) ≤ x58 ∧ x58 < (↑x56.length : Int)) ∧ getP x56 x58.toNat = eI (asI (getP x56 x58.toNat))) ∧
    (((0 : Int) ≤ asI (getP x56 x58.toNat) ∧ asI (getP x56 x58.toNat) < (↑x4.length : Int)) ∧
    getP x4 (asI (getP x56 x58.toNat)).toNat =
    PVal.agg
    [eI (asI (cellAt (getP x4 (asI (getP x56 x58.toNat)).toNat) (0 : Nat))), eI (asI (cellAt (getP x4 (asI (getP x56 x58.toNat)).toNat) (1 : Nat))),
    PVal.sl Mode.fr 1 (asL (cellAt (getP x4 (asI (getP x56 x58.toNat)).toNat) (2 : Nat))), eI (asI (cellAt (getP x4 (asI (getP x56 x58.toNat)).toNat) (3 : Nat)))]) ∧
    ((o2.length + (1 : Nat)) * (8 : Nat) ≤ (140737488355328 : Nat) ∧ o2.length + (1 : Nat) ≤ (9223372036854775807 : Nat)) ∧
    L_graph_CheckNodes_c2_0 K
    [PVal.fptr false (PVal.sl Mode.fr 4 x4), PVal.ref (0 : Nat) (4 : Nat) (0 : Nat) (0 : Nat), PVal.ref (1 : Nat) (5 : Nat) (0 : Nat) (0 : Nat), PVal.own (2 : Nat), PVal.sl Mode.fr 1 x56, eI x57,
    eI (IntKind.i64.wrap (x58 + (1 : Int)))]
    [AObj.row true (59 : Nat) (4 : Nat) [PVal.agg [eI o00, eI o01, PVal.sl Mode.fr 1 o02, eI o03]],
    AObj.row true (188 : Nat) (5 : Nat) [PVal.agg [PVal.str o10, eI o11, PVal.bool o12, PVal.fn (203 : Nat) [], PVal.fn (235 : Nat) [PVal.fptr false (PVal.fn (212 : Nat) [])]]],
    AObj.row false (3 : Nat) (1 : Nat) (o2 ++ [eI (asI (cellAt (getP x4 (asI (getP x56 x58.toNat)).toNat) (1 : Nat)))])])
  ((sp_slices_IndexFunc_int_int [PVal.sl Mode.fr 1 o2, PVal.fn (234 : Nat) [PVal.fptr false (eI o01)]] []).pre ∧
    br (!decide (idxGo (neB (capI (PVal.fn (234 : Nat) [PVal.fptr false (eI o01)]))) (0 : Nat) (dInts o2) ≥ (0 : Int))) (K (eI (0 : Int)) []) (K (eI (25 : Int)) []))) :
    L_graph_CheckNodes_c2_0 K [PVal.fptr false (PVal.sl Mode.fr 4 x4), PVal.ref (0 : Nat) (4 : Nat) (0 : Nat) (0 : Nat), PVal.ref (1 : Nat) (5 : Nat) (0 : Nat) (0 : Nat), PVal.own (2 : Nat), PVal.sl Mode.fr 1 x56, eI x57,
  eI x58] [AObj.row true (59 : Nat) (4 : Nat) [PVal.agg [eI o00, eI o01, PVal.sl Mode.fr 1 o02, eI o03]],
  AObj.row true (188 : Nat) (5 : Nat) [PVal.agg [PVal.str o10, eI o11, PVal.bool o12, PVal.fn (203 : Nat) [], PVal.fn (235 : Nat) [PVal.fptr false (PVal.fn (212 : Nat) [])]]], AObj.row false (3 : Nat) (1 : Nat) o2] :=
  r_of (n := 5) h (by kernel_rfl)
theorem c_graph_CheckNodes_c2_4_op9 (K : PVal → List AObj → Prop) (i : Int) (w : Int) (v : Int) (leaves : List PVal) (nodes : List PVal) (args : List PVal)
    (h : ((0 : Int) ≤ (9 : Int) ∧ (9 : Int) < (19 : Int)) ∧
  (sp_slices_IndexFunc_int_int [PVal.sl Mode.fr 1 args, PVal.fn (179 : Nat) [PVal.fptr false (eI i)]] []).pre ∧
    br (decide ((↑args.length : Int) = (2 : Int)))
    (br (!decide (idxGo (oddB (capI (PVal.fn (179 : Nat) [PVal.fptr false (eI i)]))) (0 : Nat) (dInts args) ≥ (0 : Int)))
    (br (decide (v = (0 : Int)))
    ((sp_graph_first [PVal.sl Mode.fr 1 [eI (0 : Int), eI (0 : Int), eI (0 : Int)]] []).pre ∧
    L_graph_CheckNodes_c2_0 K
    [PVal.fptr false (PVal.sl Mode.fr 4 nodes), PVal.ref (0 : Nat) (4 : Nat) (0 : Nat) (0 : Nat), PVal.ref (1 : Nat) (5 : Nat) (0 : Nat) (0 : Nat), PVal.own (2 : Nat), PVal.sl Mode.fr 1 args,
    eI (↑args.length : Int), eI (0 : Int)]
    [AObj.row true (59 : Nat) (4 : Nat) [PVal.agg [eI (9 : Int), eI w, PVal.sl Mode.fr 1 args, eI v]],
    AObj.row true (188 : Nat) (5 : Nat)
    [PVal.agg [PVal.str { data := #[OfNat.ofNat (101 : Nat), OfNat.ofNat (113 : Nat)] }, eI (2 : Int), PVal.bool false, PVal.fn (236 : Nat) [], PVal.fn (237 : Nat) [PVal.fptr false (PVal.fn (214 : Nat) [])]]],
    AObj.row false (3 : Nat) (1 : Nat) []])
    ((sp_graph_first [PVal.sl Mode.fr 1 [eI (0 : Int), eI (0 : Int), eI (3 : Int)]] []).pre ∧ K (eI (3 : Int)) []))
    (br (decide (v = (0 : Int))) ((sp_graph_first [PVal.sl Mode.fr 1 [eI (0 : Int), eI (9 : Int), eI (0 : Int)]] []).pre ∧ K (eI (9 : Int)) [])
    ((sp_graph_first [PVal.sl Mode.fr 1 [eI (0 : Int), eI (9 : Int), eI (3 : Int)]] []).pre ∧ K (eI (9 : Int)) [])))
    (br (!decide (idxGo (oddB (capI (PVal.fn (179 : Nat) [PVal.fptr false (eI i)]))) (0 : Nat) (dInts args) ≥ (0 : Int)))
    (br (decide (v = (0 : Int))) ((sp_graph_first [PVal.sl Mode.fr 1 [eI (10 : Int), eI (0 : Int), eI (0 : Int)]] []).pre ∧ K (eI (10 : Int)) [])
    ((sp_graph_first [PVal.sl Mode.fr 1 [eI (10 : Int), eI (0 : Int), eI (3 : Int)]] []).pre ∧ K (eI (10 : Int)) []))
    (br (decide (v = (0 : Int))) ((sp_graph_first [PVal.sl Mode.fr 1 [eI (10 : Int), eI (9 : Int), eI (0 : Int)]] []).pre ∧ K (eI (10 : Int)) [])
    ((sp_graph_first [PVal.sl Mode.fr 1 [eI (10 : Int), eI (9 : Int), eI (3 : Int)]] []).pre ∧ K (eI (10 : Int)) [])))) :
    C_graph_CheckNodes_c2_4 K [PVal.fptr false opsV, PVal.fptr false (PVal.sl Mode.fr 1 leaves), PVal.fptr false (PVal.sl Mode.fr 4 nodes), PVal.ref (0 : Nat) (1 : Nat) (0 : Nat) (0 : Nat), PVal.ref (1 : Nat) (4 : Nat) (0 : Nat) (0 : Nat)] [AObj.row true T_int (1 : Nat) [eI i], AObj.row true T_api_Node (4 : Nat) [PVal.agg [eI (9 : Int), eI w, PVal.sl Mode.fr 1 args, eI v]]] :=
  c_of (n := 5) h (by kernel_rfl)
theorem r_graph_CheckNodes_c2_0_op9 (K : PVal → List AObj → Prop) (x4 : List PVal) (x56 : List PVal) (x57 : Int) (x58 : Int) (o00 : Int) (o01 : Int) (o02 : List PVal) (o03 : Int) (o10 : ByteArray) (o11 : Int) (o12 : Bool) (o2 : List PVal)
    (h : br (decide (x58 < x57))
  ((((0 : Int) ≤ x58 ∧ x58 < (↑x56.length : Int)) ∧ getP x56 x58.toNat = eI (asI (getP x56 x58.toNat))) ∧
    (((0 : Int) ≤ asI (getP x56 x58.toNat) ∧ asI (getP x56 x58.toNat) < (↑x4.length : Int)) ∧
    getP x4 (asI (getP x56 x58.toNat)).toNat =
    PVal.agg
    [eI (asI (cellAt (getP x4 (asI (getP x56 x58.toNat)).toNat) (0 : Nat))), eI (asI (cellAt (getP x4 (asI (getP x56 x58.toNat)).toNat) (1 : Nat))),
    PVal.sl Mode.fr 1 (asL (cellAt (getP x4 (asI (getP x56 x58.toNat)).toNat) (2 : Nat))), eI (asI (cellAt (getP x4 (asI (getP x56 x58.toNat)).toNat) (3 : Nat)))]) ∧
    ((o2.length + (1 : Nat)) * (8 : Nat) ≤ (140737488355328 : Nat) ∧ o2.length + (1 : Nat) ≤ (9223372036854775807 : Nat)) ∧
    L_graph_CheckNodes_c2_0 K
    [PVal.fptr false (PVal.sl Mode.fr 4 x4), PVal.ref (0 : Nat) (4 : Nat) (0 : Nat) (0 : Nat), PVal.ref (1 : Nat) (5 : Nat) (0 : Nat) (0 : Nat), PVal.own (2 : Nat), PVal.sl Mode.fr 1 x56, eI x57,
    eI (IntKind.i64.wrap (x58 + (1 : Int)))]
    [AObj.row true (59 : Nat) (4 : Nat) [PVal.agg [eI o00, eI o01, PVal.sl Mode.fr 1 o02, eI o03]],
    AObj.row true (188 : Nat) (5 : Nat) [PVal.agg [PVal.str o10, eI o11, PVal.bool o12, PVal.fn (236 : Nat) [], PVal.fn (237 : Nat) [PVal.fptr false (PVal.fn (214 : Nat) [])]]],
    AObj.row false (3 : Nat) (1 : Nat) (o2 ++ [eI (asI (cellAt (getP x4 (asI (getP x56 x58.toNat)).toNat) (1 : Nat)))])])
  (br (decide (o01 = (1 : Int)))
    ((((0 : Int) ≤ (0 : Int) ∧ (0 : Int) < (↑o2.length : Int)) ∧ getP o2 (0 : Nat) = eI (asI (getP o2 (0 : Nat)))) ∧
    (((0 : Int) ≤ (1 : Int) ∧ (1 : Int) < (↑o2.length : Int)) ∧ getP o2 (1 : Nat) = eI (asI (getP o2 (1 : Nat)))) ∧
    br (decide (asI (getP o2 (0 : Nat)) = asI (getP o2 (1 : Nat)))) (K (eI (0 : Int)) []) (K (eI (25 : Int)) []))
    (K (eI (25 : Int)) []))) :
    L_graph_CheckNodes_c2_0 K [PVal.fptr false (PVal.sl Mode.fr 4 x4), PVal.ref (0 : Nat) (4 : Nat) (0 : Nat) (0 : Nat), PVal.ref (1 : Nat) (5 : Nat) (0 : Nat) (0 : Nat), PVal.own (2 : Nat), PVal.sl Mode.fr 1 x56, eI x57,
  eI x58] [AObj.row true (59 : Nat) (4 : Nat) [PVal.agg [eI o00, eI o01, PVal.sl Mode.fr 1 o02, eI o03]],
  AObj.row true (188 : Nat) (5 : Nat) [PVal.agg [PVal.str o10, eI o11, PVal.bool o12, PVal.fn (236 : Nat) [], PVal.fn (237 : Nat) [PVal.fptr false (PVal.fn (214 : Nat) [])]]], AObj.row false (3 : Nat) (1 : Nat) o2] :=
  r_of (n := 5) h (by kernel_rfl)
theorem c_graph_CheckNodes_c2_4_op10 (K : PVal → List AObj → Prop) (i : Int) (w : Int) (v : Int) (leaves : List PVal) (nodes : List PVal) (args : List PVal)
    (h : ((0 : Int) ≤ (10 : Int) ∧ (10 : Int) < (19 : Int)) ∧
  (sp_slices_IndexFunc_int_int [PVal.sl Mode.fr 1 args, PVal.fn (179 : Nat) [PVal.fptr false (eI i)]] []).pre ∧
    br (decide ((↑args.length : Int) = (2 : Int)))
    (br (!decide (idxGo (oddB (capI (PVal.fn (179 : Nat) [PVal.fptr false (eI i)]))) (0 : Nat) (dInts args) ≥ (0 : Int)))
    (br (decide (v = (0 : Int)))
    ((sp_graph_first [PVal.sl Mode.fr 1 [eI (0 : Int), eI (0 : Int), eI (0 : Int)]] []).pre ∧
    L_graph_CheckNodes_c2_0 K
    [PVal.fptr false (PVal.sl Mode.fr 4 nodes), PVal.ref (0 : Nat) (4 : Nat) (0 : Nat) (0 : Nat), PVal.ref (1 : Nat) (5 : Nat) (0 : Nat) (0 : Nat), PVal.own (2 : Nat), PVal.sl Mode.fr 1 args,
    eI (↑args.length : Int), eI (0 : Int)]
    [AObj.row true (59 : Nat) (4 : Nat) [PVal.agg [eI (10 : Int), eI w, PVal.sl Mode.fr 1 args, eI v]],
    AObj.row true (188 : Nat) (5 : Nat)
    [PVal.agg [PVal.str { data := #[OfNat.ofNat (108 : Nat), OfNat.ofNat (116 : Nat)] }, eI (2 : Int), PVal.bool false, PVal.fn (236 : Nat) [], PVal.fn (237 : Nat) [PVal.fptr false (PVal.fn (215 : Nat) [])]]],
    AObj.row false (3 : Nat) (1 : Nat) []])
    ((sp_graph_first [PVal.sl Mode.fr 1 [eI (0 : Int), eI (0 : Int), eI (3 : Int)]] []).pre ∧ K (eI (3 : Int)) []))
    (br (decide (v = (0 : Int))) ((sp_graph_first [PVal.sl Mode.fr 1 [eI (0 : Int), eI (9 : Int), eI (0 : Int)]] []).pre ∧ K (eI (9 : Int)) [])
    ((sp_graph_first [PVal.sl Mode.fr 1 [eI (0 : Int), eI (9 : Int), eI (3 : Int)]] []).pre ∧ K (eI (9 : Int)) [])))
    (br (!decide (idxGo (oddB (capI (PVal.fn (179 : Nat) [PVal.fptr false (eI i)]))) (0 : Nat) (dInts args) ≥ (0 : Int)))
    (br (decide (v = (0 : Int))) ((sp_graph_first [PVal.sl Mode.fr 1 [eI (10 : Int), eI (0 : Int), eI (0 : Int)]] []).pre ∧ K (eI (10 : Int)) [])
    ((sp_graph_first [PVal.sl Mode.fr 1 [eI (10 : Int), eI (0 : Int), eI (3 : Int)]] []).pre ∧ K (eI (10 : Int)) []))
    (br (decide (v = (0 : Int))) ((sp_graph_first [PVal.sl Mode.fr 1 [eI (10 : Int), eI (9 : Int), eI (0 : Int)]] []).pre ∧ K (eI (10 : Int)) [])
    ((sp_graph_first [PVal.sl Mode.fr 1 [eI (10 : Int), eI (9 : Int), eI (3 : Int)]] []).pre ∧ K (eI (10 : Int)) [])))) :
    C_graph_CheckNodes_c2_4 K [PVal.fptr false opsV, PVal.fptr false (PVal.sl Mode.fr 1 leaves), PVal.fptr false (PVal.sl Mode.fr 4 nodes), PVal.ref (0 : Nat) (1 : Nat) (0 : Nat) (0 : Nat), PVal.ref (1 : Nat) (4 : Nat) (0 : Nat) (0 : Nat)] [AObj.row true T_int (1 : Nat) [eI i], AObj.row true T_api_Node (4 : Nat) [PVal.agg [eI (10 : Int), eI w, PVal.sl Mode.fr 1 args, eI v]]] :=
  c_of (n := 5) h (by kernel_rfl)
theorem r_graph_CheckNodes_c2_0_op10 (K : PVal → List AObj → Prop) (x4 : List PVal) (x56 : List PVal) (x57 : Int) (x58 : Int) (o00 : Int) (o01 : Int) (o02 : List PVal) (o03 : Int) (o10 : ByteArray) (o11 : Int) (o12 : Bool) (o2 : List PVal)
    (h : br (decide (x58 < x57))
  ((((0 : Int) ≤ x58 ∧ x58 < (↑x56.length : Int)) ∧ getP x56 x58.toNat = eI (asI (getP x56 x58.toNat))) ∧
    (((0 : Int) ≤ asI (getP x56 x58.toNat) ∧ asI (getP x56 x58.toNat) < (↑x4.length : Int)) ∧
    getP x4 (asI (getP x56 x58.toNat)).toNat =
    PVal.agg
    [eI (asI (cellAt (getP x4 (asI (getP x56 x58.toNat)).toNat) (0 : Nat))), eI (asI (cellAt (getP x4 (asI (getP x56 x58.toNat)).toNat) (1 : Nat))),
    PVal.sl Mode.fr 1 (asL (cellAt (getP x4 (asI (getP x56 x58.toNat)).toNat) (2 : Nat))), eI (asI (cellAt (getP x4 (asI (getP x56 x58.toNat)).toNat) (3 : Nat)))]) ∧
    ((o2.length + (1 : Nat)) * (8 : Nat) ≤ (140737488355328 : Nat) ∧ o2.length + (1 : Nat) ≤ (9223372036854775807 : Nat)) ∧
    L_graph_CheckNodes_c2_0 K
    [PVal.fptr false (PVal.sl Mode.fr 4 x4), PVal.ref (0 : Nat) (4 : Nat) (0 : Nat) (0 : Nat), PVal.ref (1 : Nat) (5 : Nat) (0 : Nat) (0 : Nat), PVal.own (2 : Nat), PVal.sl Mode.fr 1 x56, eI x57,
    eI (IntKind.i64.wrap (x58 + (1 : Int)))]
    [AObj.row true (59 : Nat) (4 : Nat) [PVal.agg [eI o00, eI o01, PVal.sl Mode.fr 1 o02, eI o03]],
    AObj.row true (188 : Nat) (5 : Nat) [PVal.agg [PVal.str o10, eI o11, PVal.bool o12, PVal.fn (236 : Nat) [], PVal.fn (237 : Nat) [PVal.fptr false (PVal.fn (215 : Nat) [])]]],
    AObj.row false (3 : Nat) (1 : Nat) (o2 ++ [eI (asI (cellAt (getP x4 (asI (getP x56 x58.toNat)).toNat) (1 : Nat)))])])
  (br (decide (o01 = (1 : Int)))
    ((((0 : Int) ≤ (0 : Int) ∧ (0 : Int) < (↑o2.length : Int)) ∧ getP o2 (0 : Nat) = eI (asI (getP o2 (0 : Nat)))) ∧
    (((0 : Int) ≤ (1 : Int) ∧ (1 : Int) < (↑o2.length : Int)) ∧ getP o2 (1 : Nat) = eI (asI (getP o2 (1 : Nat)))) ∧
    br (decide (asI (getP o2 (0 : Nat)) = asI (getP o2 (1 : Nat)))) (K (eI (0 : Int)) []) (K (eI (25 : Int)) []))
    (K (eI (25 : Int)) []))) :
    L_graph_CheckNodes_c2_0 K [PVal.fptr false (PVal.sl Mode.fr 4 x4), PVal.ref (0 : Nat) (4 : Nat) (0 : Nat) (0 : Nat), PVal.ref (1 : Nat) (5 : Nat) (0 : Nat) (0 : Nat), PVal.own (2 : Nat), PVal.sl Mode.fr 1 x56, eI x57,
  eI x58] [AObj.row true (59 : Nat) (4 : Nat) [PVal.agg [eI o00, eI o01, PVal.sl Mode.fr 1 o02, eI o03]],
  AObj.row true (188 : Nat) (5 : Nat) [PVal.agg [PVal.str o10, eI o11, PVal.bool o12, PVal.fn (236 : Nat) [], PVal.fn (237 : Nat) [PVal.fptr false (PVal.fn (215 : Nat) [])]]], AObj.row false (3 : Nat) (1 : Nat) o2] :=
  r_of (n := 5) h (by kernel_rfl)
theorem c_graph_CheckNodes_c2_4_op11 (K : PVal → List AObj → Prop) (i : Int) (w : Int) (v : Int) (leaves : List PVal) (nodes : List PVal) (args : List PVal)
    (h : ((0 : Int) ≤ (11 : Int) ∧ (11 : Int) < (19 : Int)) ∧
  (sp_slices_IndexFunc_int_int [PVal.sl Mode.fr 1 args, PVal.fn (179 : Nat) [PVal.fptr false (eI i)]] []).pre ∧
    br (decide ((↑args.length : Int) = (2 : Int)))
    (br (!decide (idxGo (oddB (capI (PVal.fn (179 : Nat) [PVal.fptr false (eI i)]))) (0 : Nat) (dInts args) ≥ (0 : Int)))
    (br (decide (v = (0 : Int)))
    ((sp_graph_first [PVal.sl Mode.fr 1 [eI (0 : Int), eI (0 : Int), eI (0 : Int)]] []).pre ∧
    L_graph_CheckNodes_c2_0 K
    [PVal.fptr false (PVal.sl Mode.fr 4 nodes), PVal.ref (0 : Nat) (4 : Nat) (0 : Nat) (0 : Nat), PVal.ref (1 : Nat) (5 : Nat) (0 : Nat) (0 : Nat), PVal.own (2 : Nat), PVal.sl Mode.fr 1 args,
    eI (↑args.length : Int), eI (0 : Int)]
    [AObj.row true (59 : Nat) (4 : Nat) [PVal.agg [eI (11 : Int), eI w, PVal.sl Mode.fr 1 args, eI v]],
    AObj.row true (188 : Nat) (5 : Nat)
    [PVal.agg
    [PVal.str { data := #[OfNat.ofNat (115 : Nat), OfNat.ofNat (108 : Nat), OfNat.ofNat (116 : Nat)] }, eI (2 : Int), PVal.bool false, PVal.fn (236 : Nat) [],
    PVal.fn (237 : Nat) [PVal.fptr false (PVal.fn (216 : Nat) [])]]],
    AObj.row false (3 : Nat) (1 : Nat) []])
    ((sp_graph_first [PVal.sl Mode.fr 1 [eI (0 : Int), eI (0 : Int), eI (3 : Int)]] []).pre ∧ K (eI (3 : Int)) []))
    (br (decide (v = (0 : Int))) ((sp_graph_first [PVal.sl Mode.fr 1 [eI (0 : Int), eI (9 : Int), eI (0 : Int)]] []).pre ∧ K (eI (9 : Int)) [])
    ((sp_graph_first [PVal.sl Mode.fr 1 [eI (0 : Int), eI (9 : Int), eI (3 : Int)]] []).pre ∧ K (eI (9 : Int)) [])))
    (br (!decide (idxGo (oddB (capI (PVal.fn (179 : Nat) [PVal.fptr false (eI i)]))) (0 : Nat) (dInts args) ≥ (0 : Int)))
    (br (decide (v = (0 : Int))) ((sp_graph_first [PVal.sl Mode.fr 1 [eI (10 : Int), eI (0 : Int), eI (0 : Int)]] []).pre ∧ K (eI (10 : Int)) [])
    ((sp_graph_first [PVal.sl Mode.fr 1 [eI (10 : Int), eI (0 : Int), eI (3 : Int)]] []).pre ∧ K (eI (10 : Int)) []))
    (br (decide (v = (0 : Int))) ((sp_graph_first [PVal.sl Mode.fr 1 [eI (10 : Int), eI (9 : Int), eI (0 : Int)]] []).pre ∧ K (eI (10 : Int)) [])
    ((sp_graph_first [PVal.sl Mode.fr 1 [eI (10 : Int), eI (9 : Int), eI (3 : Int)]] []).pre ∧ K (eI (10 : Int)) [])))) :
    C_graph_CheckNodes_c2_4 K [PVal.fptr false opsV, PVal.fptr false (PVal.sl Mode.fr 1 leaves), PVal.fptr false (PVal.sl Mode.fr 4 nodes), PVal.ref (0 : Nat) (1 : Nat) (0 : Nat) (0 : Nat), PVal.ref (1 : Nat) (4 : Nat) (0 : Nat) (0 : Nat)] [AObj.row true T_int (1 : Nat) [eI i], AObj.row true T_api_Node (4 : Nat) [PVal.agg [eI (11 : Int), eI w, PVal.sl Mode.fr 1 args, eI v]]] :=
  c_of (n := 5) h (by kernel_rfl)
theorem r_graph_CheckNodes_c2_0_op11 (K : PVal → List AObj → Prop) (x4 : List PVal) (x56 : List PVal) (x57 : Int) (x58 : Int) (o00 : Int) (o01 : Int) (o02 : List PVal) (o03 : Int) (o10 : ByteArray) (o11 : Int) (o12 : Bool) (o2 : List PVal)
    (h : br (decide (x58 < x57))
  ((((0 : Int) ≤ x58 ∧ x58 < (↑x56.length : Int)) ∧ getP x56 x58.toNat = eI (asI (getP x56 x58.toNat))) ∧
    (((0 : Int) ≤ asI (getP x56 x58.toNat) ∧ asI (getP x56 x58.toNat) < (↑x4.length : Int)) ∧
    getP x4 (asI (getP x56 x58.toNat)).toNat =
    PVal.agg
    [eI (asI (cellAt (getP x4 (asI (getP x56 x58.toNat)).toNat) (0 : Nat))), eI (asI (cellAt (getP x4 (asI (getP x56 x58.toNat)).toNat) (1 : Nat))),
    PVal.sl Mode.fr 1 (asL (cellAt (getP x4 (asI (getP x56 x58.toNat)).toNat) (2 : Nat))), eI (asI (cellAt (getP x4 (asI (getP x56 x58.toNat)).toNat) (3 : Nat)))]) ∧
    ((o2.length + (1 : Nat)) * (8 : Nat) ≤ (140737488355328 : Nat) ∧ o2.length + (1 : Nat) ≤ (9223372036854775807 : Nat)) ∧
    L_graph_CheckNodes_c2_0 K
    [PVal.fptr false (PVal.sl Mode.fr 4 x4), PVal.ref (0 : Nat) (4 : Nat) (0 : Nat) (0 : Nat), PVal.ref (1 : Nat) (5 : Nat) (0 : Nat) (0 : Nat), PVal.own (2 : Nat), PVal.sl Mode.fr 1 x56, eI x57,
    eI (IntKind.i64.wrap (x58 + (1 : Int)))]
    [AObj.row true (59 : Nat) (4 : Nat) [PVal.agg [eI o00, eI o01, PVal.sl Mode.fr 1 o02, eI o03]],
    AObj.row true (188 : Nat) (5 : Nat) [PVal.agg [PVal.str o10, eI o11, PVal.bool o12, PVal.fn (236 : Nat) [], PVal.fn (237 : Nat) [PVal.fptr false (PVal.fn (216 : Nat) [])]]],
    AObj.row false (3 : Nat) (1 : Nat) (o2 ++ [eI (asI (cellAt (getP x4 (asI (getP x56 x58.toNat)).toNat) (1 : Nat)))])])
  (br (decide (o01 = (1 : Int)))
    ((((0 : Int) ≤ (0 : Int) ∧ (0 : Int) < (↑o2.length : Int)) ∧ getP o2 (0 : Nat) = eI (asI (getP o2 (0 : Nat)))) ∧
    (((0 : Int) ≤ (1 : Int) ∧ (1 : Int) < (↑o2.length : Int)) ∧ getP o2 (1 : Nat) = eI (asI (getP o2 (1 : Nat)))) ∧
    br (decide (asI (getP o2 (0 : Nat)) = asI (getP o2 (1 : Nat)))) (K (eI (0 : Int)) []) (K (eI (25 : Int)) []))
    (K (eI (25 : Int)) []))) :
    L_graph_CheckNodes_c2_0 K [PVal.fptr false (PVal.sl Mode.fr 4 x4), PVal.ref (0 : Nat) (4 : Nat) (0 : Nat) (0 : Nat), PVal.ref (1 : Nat) (5 : Nat) (0 : Nat) (0 : Nat), PVal.own (2 : Nat), PVal.sl Mode.fr 1 x56, eI x57,
  eI x58] [AObj.row true (59 : Nat) (4 : Nat) [PVal.agg [eI o00, eI o01, PVal.sl Mode.fr 1 o02, eI o03]],
  AObj.row true (188 : Nat) (5 : Nat) [PVal.agg [PVal.str o10, eI o11, PVal.bool o12, PVal.fn (236 : Nat) [], PVal.fn (237 : Nat) [PVal.fptr false (PVal.fn (216 : Nat) [])]]], AObj.row false (3 : Nat) (1 : Nat) o2] :=
  r_of (n := 5) h (by kernel_rfl)
theorem c_graph_CheckNodes_c2_4_op12 (K : PVal → List AObj → Prop) (i : Int) (w : Int) (v : Int) (leaves : List PVal) (nodes : List PVal) (args : List PVal)
    (h : ((0 : Int) ≤ (12 : Int) ∧ (12 : Int) < (19 : Int)) ∧
  (sp_slices_IndexFunc_int_int [PVal.sl Mode.fr 1 args, PVal.fn (179 : Nat) [PVal.fptr false (eI i)]] []).pre ∧
    br (decide ((↑args.length : Int) = (3 : Int)))
    (br (!decide (idxGo (oddB (capI (PVal.fn (179 : Nat) [PVal.fptr false (eI i)]))) (0 : Nat) (dInts args) ≥ (0 : Int)))
    (br (decide (v = (0 : Int)))
    ((sp_graph_first [PVal.sl Mode.fr 1 [eI (0 : Int), eI (0 : Int), eI (0 : Int)]] []).pre ∧
    L_graph_CheckNodes_c2_0 K
    [PVal.fptr false (PVal.sl Mode.fr 4 nodes), PVal.ref (0 : Nat) (4 : Nat) (0 : Nat) (0 : Nat), PVal.ref (1 : Nat) (5 : Nat) (0 : Nat) (0 : Nat), PVal.own (2 : Nat), PVal.sl Mode.fr 1 args,
    eI (↑args.length : Int), eI (0 : Int)]
    [AObj.row true (59 : Nat) (4 : Nat) [PVal.agg [eI (12 : Int), eI w, PVal.sl Mode.fr 1 args, eI v]],
    AObj.row true (188 : Nat) (5 : Nat)
    [PVal.agg [PVal.str { data := #[OfNat.ofNat (109 : Nat), OfNat.ofNat (117 : Nat), OfNat.ofNat (120 : Nat)] }, eI (3 : Int), PVal.bool false, PVal.fn (218 : Nat) [], PVal.fn (219 : Nat) []]],
    AObj.row false (3 : Nat) (1 : Nat) []])
    ((sp_graph_first [PVal.sl Mode.fr 1 [eI (0 : Int), eI (0 : Int), eI (3 : Int)]] []).pre ∧ K (eI (3 : Int)) []))
    (br (decide (v = (0 : Int))) ((sp_graph_first [PVal.sl Mode.fr 1 [eI (0 : Int), eI (9 : Int), eI (0 : Int)]] []).pre ∧ K (eI (9 : Int)) [])
    ((sp_graph_first [PVal.sl Mode.fr 1 [eI (0 : Int), eI (9 : Int), eI (3 : Int)]] []).pre ∧ K (eI (9 : Int)) [])))
    (br (!decide (idxGo (oddB (capI (PVal.fn (179 : Nat) [PVal.fptr false (eI i)]))) (0 : Nat) (dInts args) ≥ (0 : Int)))
    (br (decide (v = (0 : Int))) ((sp_graph_first [PVal.sl Mode.fr 1 [eI (10 : Int), eI (0 : Int), eI (0 : Int)]] []).pre ∧ K (eI (10 : Int)) [])
    ((sp_graph_first [PVal.sl Mode.fr 1 [eI (10 : Int), eI (0 : Int), eI (3 : Int)]] []).pre ∧ K (eI (10 : Int)) []))
    (br (decide (v = (0 : Int))) ((sp_graph_first [PVal.sl Mode.fr 1 [eI (10 : Int), eI (9 : Int), eI (0 : Int)]] []).pre ∧ K (eI (10 : Int)) [])
    ((sp_graph_first [PVal.sl Mode.fr 1 [eI (10 : Int), eI (9 : Int), eI (3 : Int)]] []).pre ∧ K (eI (10 : Int)) [])))) :
    C_graph_CheckNodes_c2_4 K [PVal.fptr false opsV, PVal.fptr false (PVal.sl Mode.fr 1 leaves), PVal.fptr false (PVal.sl Mode.fr 4 nodes), PVal.ref (0 : Nat) (1 : Nat) (0 : Nat) (0 : Nat), PVal.ref (1 : Nat) (4 : Nat) (0 : Nat) (0 : Nat)] [AObj.row true T_int (1 : Nat) [eI i], AObj.row true T_api_Node (4 : Nat) [PVal.agg [eI (12 : Int), eI w, PVal.sl Mode.fr 1 args, eI v]]] :=
  c_of (n := 5) h (by kernel_rfl)
theorem r_graph_CheckNodes_c2_0_op12 (K : PVal → List AObj → Prop) (x4 : List PVal) (x56 : List PVal) (x57 : Int) (x58 : Int) (o00 : Int) (o01 : Int) (o02 : List PVal) (o03 : Int) (o10 : ByteArray) (o11 : Int) (o12 : Bool) (o2 : List PVal)
    (h : br (decide (x58 < x57))
  ((((0 : Int) ≤ x58 ∧ x58 < (↑x56.length : Int)) ∧ getP x56 x58.toNat = eI (asI (getP x56 x58.toNat))) ∧
    (((0 : Int) ≤ asI (getP x56 x58.toNat) ∧ asI (getP x56 x58.toNat) < (↑x4.length : Int)) ∧
    getP x4 (asI (getP x56 x58.toNat)).toNat =
    PVal.agg
    [eI (asI (cellAt (getP x4 (asI (getP x56 x58.toNat)).toNat) (0 : Nat))), eI (asI (cellAt (getP x4 (asI (getP x56 x58.toNat)).toNat) (1 : Nat))),
    PVal.sl Mode.fr 1 (asL (cellAt (getP x4 (asI (getP x56 x58.toNat)).toNat) (2 : Nat))), eI (asI (cellAt (getP x4 (asI (getP x56 x58.toNat)).toNat) (3 : Nat)))]) ∧
    ((o2.length + (1 : Nat)) * (8 : Nat) ≤ (140737488355328 : Nat) ∧ o2.length + (1 : Nat) ≤ (9223372036854775807 : Nat)) ∧
    L_graph_CheckNodes_c2_0 K
    [PVal.fptr false (PVal.sl Mode.fr 4 x4), PVal.ref (0 : Nat) (4 : Nat) (0 : Nat) (0 : Nat), PVal.ref (1 : Nat) (5 : Nat) (0 : Nat) (0 : Nat), PVal.own (2 : Nat), PVal.sl Mode.fr 1 x56, eI x57,
    eI (IntKind.i64.wrap (x58 + (1 : Int)))]
    [AObj.row true (59 : Nat) (4 : Nat) [PVal.agg [eI o00, eI o01, PVal.sl Mode.fr 1 o02, eI o03]],
    AObj.row true (188 : Nat) (5 : Nat) [PVal.agg [PVal.str o10, eI o11, PVal.bool o12, PVal.fn (218 : Nat) [], PVal.fn (219 : Nat) []]],
    AObj.row false (3 : Nat) (1 : Nat) (o2 ++ [eI (asI (cellAt (getP x4 (asI (getP x56 x58.toNat)).toNat) (1 : Nat)))])])
  ((((0 : Int) ≤ (0 : Int) ∧ (0 : Int) < (↑o2.length : Int)) ∧ getP o2 (0 : Nat) = eI (asI (getP o2 (0 : Nat)))) ∧
    br (decide (asI (getP o2 (0 : Nat)) = (1 : Int)))
    ((((0 : Int) ≤ (1 : Int) ∧ (1 : Int) < (↑o2.length : Int)) ∧ getP o2 (1 : Nat) = eI (asI (getP o2 (1 : Nat)))) ∧
    br (decide (asI (getP o2 (1 : Nat)) = o01))
    ((((0 : Int) ≤ (2 : Int) ∧ (2 : Int) < (↑o2.length : Int)) ∧ getP o2 (2 : Nat) = eI (asI (getP o2 (2 : Nat)))) ∧
    br (decide (asI (getP o2 (2 : Nat)) = o01)) (K (eI (0 : Int)) []) (K (eI (25 : Int)) []))
    (K (eI (25 : Int)) []))
    (K (eI (25 : Int)) []))) :
    L_graph_CheckNodes_c2_0 K [PVal.fptr false (PVal.sl Mode.fr 4 x4), PVal.ref (0 : Nat) (4 : Nat) (0 : Nat) (0 : Nat), PVal.ref (1 : Nat) (5 : Nat) (0 : Nat) (0 : Nat), PVal.own (2 : Nat), PVal.sl Mode.fr 1 x56, eI x57,
  eI x58] [AObj.row true (59 : Nat) (4 : Nat) [PVal.agg [eI o00, eI o01, PVal.sl Mode.fr 1 o02, eI o03]],
  AObj.row true (188 : Nat) (5 : Nat) [PVal.agg [PVal.str o10, eI o11, PVal.bool o12, PVal.fn (218 : Nat) [], PVal.fn (219 : Nat) []]], AObj.row false (3 : Nat) (1 : Nat) o2] :=
  r_of (n := 5) h (by kernel_rfl)
theorem c_graph_CheckNodes_c2_4_op13 (K : PVal → List AObj → Prop) (i : Int) (w : Int) (v : Int) (leaves : List PVal) (nodes : List PVal) (args : List PVal)
    (h : ((0 : Int) ≤ (13 : Int) ∧ (13 : Int) < (19 : Int)) ∧
  (sp_slices_IndexFunc_int_int [PVal.sl Mode.fr 1 args, PVal.fn (179 : Nat) [PVal.fptr false (eI i)]] []).pre ∧
    br (decide ((↑args.length : Int) = (2 : Int)))
    (br (!decide (idxGo (oddB (capI (PVal.fn (179 : Nat) [PVal.fptr false (eI i)]))) (0 : Nat) (dInts args) ≥ (0 : Int)))
    (br (decide (v = (0 : Int)))
    ((sp_graph_first [PVal.sl Mode.fr 1 [eI (0 : Int), eI (0 : Int), eI (0 : Int)]] []).pre ∧
    L_graph_CheckNodes_c2_0 K
    [PVal.fptr false (PVal.sl Mode.fr 4 nodes), PVal.ref (0 : Nat) (4 : Nat) (0 : Nat) (0 : Nat), PVal.ref (1 : Nat) (5 : Nat) (0 : Nat) (0 : Nat), PVal.own (2 : Nat), PVal.sl Mode.fr 1 args,
    eI (↑args.length : Int), eI (0 : Int)]
    [AObj.row true (59 : Nat) (4 : Nat) [PVal.agg [eI (13 : Int), eI w, PVal.sl Mode.fr 1 args, eI v]],
    AObj.row true (188 : Nat) (5 : Nat)
    [PVal.agg
    [PVal.str { data := #[OfNat.ofNat (106 : Nat), OfNat.ofNat (111 : Nat), OfNat.ofNat (105 : Nat), OfNat.ofNat (110 : Nat)] }, eI (2 : Int), PVal.bool false, PVal.fn (220 : Nat) [], PVal.fn (221 : Nat) []]],
    AObj.row false (3 : Nat) (1 : Nat) []])
    ((sp_graph_first [PVal.sl Mode.fr 1 [eI (0 : Int), eI (0 : Int), eI (3 : Int)]] []).pre ∧ K (eI (3 : Int)) []))
    (br (decide (v = (0 : Int))) ((sp_graph_first [PVal.sl Mode.fr 1 [eI (0 : Int), eI (9 : Int), eI (0 : Int)]] []).pre ∧ K (eI (9 : Int)) [])
    ((sp_graph_first [PVal.sl Mode.fr 1 [eI (0 : Int), eI (9 : Int), eI (3 : Int)]] []).pre ∧ K (eI (9 : Int)) [])))
    (br (!decide (idxGo (oddB (capI (PVal.fn (179 : Nat) [PVal.fptr false (eI i)]))) (0 : Nat) (dInts args) ≥ (0 : Int)))
    (br (decide (v = (0 : Int))) ((sp_graph_first [PVal.sl Mode.fr 1 [eI (10 : Int), eI (0 : Int), eI (0 : Int)]] []).pre ∧ K (eI (10 : Int)) [])
    ((sp_graph_first [PVal.sl Mode.fr 1 [eI (10 : Int), eI (0 : Int), eI (3 : Int)]] []).pre ∧ K (eI (10 : Int)) []))
    (br (decide (v = (0 : Int))) ((sp_graph_first [PVal.sl Mode.fr 1 [eI (10 : Int), eI (9 : Int), eI (0 : Int)]] []).pre ∧ K (eI (10 : Int)) [])
    ((sp_graph_first [PVal.sl Mode.fr 1 [eI (10 : Int), eI (9 : Int), eI (3 : Int)]] []).pre ∧ K (eI (10 : Int)) [])))) :
    C_graph_CheckNodes_c2_4 K [PVal.fptr false opsV, PVal.fptr false (PVal.sl Mode.fr 1 leaves), PVal.fptr false (PVal.sl Mode.fr 4 nodes), PVal.ref (0 : Nat) (1 : Nat) (0 : Nat) (0 : Nat), PVal.ref (1 : Nat) (4 : Nat) (0 : Nat) (0 : Nat)] [AObj.row true T_int (1 : Nat) [eI i], AObj.row true T_api_Node (4 : Nat) [PVal.agg [eI (13 : Int), eI w, PVal.sl Mode.fr 1 args, eI v]]] :=
  c_of (n := 5) h (by kernel_rfl)
theorem r_graph_CheckNodes_c2_0_op13 (K : PVal → List AObj → Prop) (x4 : List PVal) (x56 : List PVal) (x57 : Int) (x58 : Int) (o00 : Int) (o01 : Int) (o02 : List PVal) (o03 : Int) (o10 : ByteArray) (o11 : Int) (o12 : Bool) (o2 : List PVal)
    (h : br (decide (x58 < x57))
  ((((0 : Int) ≤ x58 ∧ x58 < (↑x56.length : Int)) ∧ getP x56 x58.toNat = eI (asI (getP x56 x58.toNat))) ∧
    (((0 : Int) ≤ asI (getP x56 x58.toNat) ∧ asI (getP x56 x58.toNat) < (↑x4.length : Int)) ∧
    getP x4 (asI (getP x56 x58.toNat)).toNat =
    PVal.agg
    [eI (asI (cellAt (getP x4 (asI (getP x56 x58.toNat)).toNat) (0 : Nat))), eI (asI (cellAt (getP x4 (asI (getP x56 x58.toNat)).toNat) (1 : Nat))),
    PVal.sl Mode.fr 1 (asL (cellAt (getP x4 (asI (getP x56 x58.toNat)).toNat) (2 : Nat))), eI (asI (cellAt (getP x4 (asI (getP x56 x58.toNat)).toNat) (3 : Nat)))]) ∧
    ((o2.length + (1 : Nat)) * (8 : Nat) ≤ (140737488355328 : Nat) ∧ o2.length + (1 : Nat) ≤ (9223372036854775807 : Nat)) ∧
    L_graph_CheckNodes_c2_0 K
    [PVal.fptr false (PVal.sl Mode.fr 4 x4), PVal.ref (0 : Nat) (4 : Nat) (0 : Nat) (0 : Nat), PVal.ref (1 : Nat) (5 : Nat) (0 : Nat) (0 : Nat), PVal.own (2 : Nat), PVal.sl Mode.fr 1 x56, eI x57,
    eI (IntKind.i64.wrap (x58 + (1 : Int)))]
    [AObj.row true (59 : Nat) (4 : Nat) [PVal.agg [eI o00, eI o01, PVal.sl Mode.fr 1 o02, eI o03]],
    AObj.row true (188 : Nat) (5 : Nat) [PVal.agg [PVal.str o10, eI o11, PVal.bool o12, PVal.fn (220 : Nat) [], PVal.fn (221 : Nat) []]],
    AObj.row false (3 : Nat) (1 : Nat) (o2 ++ [eI (asI (cellAt (getP x4 (asI (getP x56 x58.toNat)).toNat) (1 : Nat)))])])
  ((((0 : Int) ≤ (0 : Int) ∧ (0 : Int) < (↑o2.length : Int)) ∧ getP o2 (0 : Nat) = eI (asI (getP o2 (0 : Nat)))) ∧
    (((0 : Int) ≤ (1 : Int) ∧ (1 : Int) < (↑o2.length : Int)) ∧ getP o2 (1 : Nat) = eI (asI (getP o2 (1 : Nat)))) ∧
    br (decide (IntKind.i64.wrap (asI (getP o2 (0 : Nat)) + asI (getP o2 (1 : Nat))) = o01)) (K (eI (0 : Int)) []) (K (eI (25 : Int)) []))) :
    L_graph_CheckNodes_c2_0 K [PVal.fptr false (PVal.sl Mode.fr 4 x4), PVal.ref (0 : Nat) (4 : Nat) (0 : Nat) (0 : Nat), PVal.ref (1 : Nat) (5 : Nat) (0 : Nat) (0 : Nat), PVal.own (2 : Nat), PVal.sl Mode.fr 1 x56, eI x57,
  eI x58] [AObj.row true (59 : Nat) (4 : Nat) [PVal.agg [eI o00, eI o01, PVal.sl Mode.fr 1 o02, eI o03]],
  AObj.row true (188 : Nat) (5 : Nat) [PVal.agg [PVal.str o10, eI o11, PVal.bool o12, PVal.fn (220 : Nat) [], PVal.fn (221 : Nat) []]], AObj.row false (3 : Nat) (1 : Nat) o2] :=
  r_of (n := 5) h (by kernel_rfl)
theorem c_graph_CheckNodes_c2_4_op14 (K : PVal → List AObj → Prop) (i : Int) (w : Int) (v : Int) (leaves : List PVal) (nodes : List PVal) (args : List PVal)
    (h : ((0 : Int) ≤ (14 : Int) ∧ (14 : Int) < (19 : Int)) ∧
  (sp_slices_IndexFunc_int_int [PVal.sl Mode.fr 1 args, PVal.fn (179 : Nat) [PVal.fptr false (eI i)]] []).pre ∧
    br (decide ((↑args.length : Int) = (1 : Int)))
    (br (!decide (idxGo (oddB (capI (PVal.fn (179 : Nat) [PVal.fptr false (eI i)]))) (0 : Nat) (dInts args) ≥ (0 : Int)))
    (br (decide ((0 : Int) ≤ v))
    (br (decide (v ≤ (15 : Int)))
    ((sp_graph_first [PVal.sl Mode.fr 1 [eI (0 : Int), eI (0 : Int), eI (0 : Int)]] []).pre ∧
    L_graph_CheckNodes_c2_0 K
    [PVal.fptr false (PVal.sl Mode.fr 4 nodes), PVal.ref (0 : Nat) (4 : Nat) (0 : Nat) (0 : Nat), PVal.ref (1 : Nat) (5 : Nat) (0 : Nat) (0 : Nat), PVal.own (2 : Nat), PVal.sl Mode.fr 1 args,
    eI (↑args.length : Int), eI (0 : Int)]
    [AObj.row true (59 : Nat) (4 : Nat) [PVal.agg [eI (14 : Int), eI w, PVal.sl Mode.fr 1 args, eI v]],
    AObj.row true (188 : Nat) (5 : Nat)
    [PVal.agg
    [PVal.str { data := #[OfNat.ofNat (115 : Nat), OfNat.ofNat (108 : Nat), OfNat.ofNat (105 : Nat), OfNat.ofNat (99 : Nat), OfNat.ofNat (101 : Nat)] }, eI (1 : Int), PVal.bool true, PVal.fn (222 : Nat) [],
    PVal.fn (223 : Nat) []]],
    AObj.row false (3 : Nat) (1 : Nat) []])
    ((sp_graph_first [PVal.sl Mode.fr 1 [eI (0 : Int), eI (0 : Int), eI (2 : Int)]] []).pre ∧ K (eI (2 : Int)) []))
    ((sp_graph_first [PVal.sl Mode.fr 1 [eI (0 : Int), eI (0 : Int), eI (2 : Int)]] []).pre ∧ K (eI (2 : Int)) []))
    (br (decide ((0 : Int) ≤ v))
    (br (decide (v ≤ (15 : Int))) ((sp_graph_first [PVal.sl Mode.fr 1 [eI (0 : Int), eI (9 : Int), eI (0 : Int)]] []).pre ∧ K (eI (9 : Int)) [])
    ((sp_graph_first [PVal.sl Mode.fr 1 [eI (0 : Int), eI (9 : Int), eI (2 : Int)]] []).pre ∧ K (eI (9 : Int)) []))
    ((sp_graph_first [PVal.sl Mode.fr 1 [eI (0 : Int), eI (9 : Int), eI (2 : Int)]] []).pre ∧ K (eI (9 : Int)) [])))
    (br (!decide (idxGo (oddB (capI (PVal.fn (179 : Nat) [PVal.fptr false (eI i)]))) (0 : Nat) (dInts args) ≥ (0 : Int)))
    (br (decide ((0 : Int) ≤ v))
    (br (decide (v ≤ (15 : Int))) ((sp_graph_first [PVal.sl Mode.fr 1 [eI (10 : Int), eI (0 : Int), eI (0 : Int)]] []).pre ∧ K (eI (10 : Int)) [])
    ((sp_graph_first [PVal.sl Mode.fr 1 [eI (10 : Int), eI (0 : Int), eI (2 : Int)]] []).pre ∧ K (eI (10 : Int)) []))
    ((sp_graph_first [PVal.sl Mode.fr 1 [eI (10 : Int), eI (0 : Int), eI (2 : Int)]] []).pre ∧ K (eI (10 : Int)) []))
    (br (decide ((0 : Int) ≤ v))
    (br (decide (v ≤ (15 : Int))) ((sp_graph_first [PVal.sl Mode.fr 1 [eI (10 : Int), eI (9 : Int), eI (0 : Int)]] []).pre ∧ K (eI (10 : Int)) [])
    ((sp_graph_first [PVal.sl Mode.fr 1 [eI (10 : Int), eI (9 : Int), eI (2 : Int)]] []).pre ∧ K (eI (10 : Int)) []))
    ((sp_graph_first [PVal.sl Mode.fr 1 [eI (10 : Int), eI (9 : Int), eI (2 : Int)]] []).pre ∧ K (eI (10 : Int)) [])))) :
    C_graph_CheckNodes_c2_4 K [PVal.fptr false opsV, PVal.fptr false (PVal.sl Mode.fr 1 leaves), PVal.fptr false (PVal.sl Mode.fr 4 nodes), PVal.ref (0 : Nat) (1 : Nat) (0 : Nat) (0 : Nat), PVal.ref (1 : Nat) (4 : Nat) (0 : Nat) (0 : Nat)] [AObj.row true T_int (1 : Nat) [eI i], AObj.row true T_api_Node (4 : Nat) [PVal.agg [eI (14 : Int), eI w, PVal.sl Mode.fr 1 args, eI v]]] :=
  c_of (n := 5) h (by kernel_rfl)
theorem r_graph_CheckNodes_c2_0_op14 (K : PVal → List AObj → Prop) (x4 : List PVal) (x56 : List PVal) (x57 : Int) (x58 : Int) (o00 : Int) (o01 : Int) (o02 : List PVal) (o03 : Int) (o10 : ByteArray) (o11 : Int) (o12 : Bool) (o2 : List PVal)
    (h : br (decide (x58 < x57))
  ((((0 : Int) ≤ x58 ∧ x58 < (↑x56.length : Int)) ∧ getP x56 x58.toNat = eI (asI (getP x56 x58.toNat))) ∧
    (((0 : Int) ≤ asI (getP x56 x58.toNat) ∧ asI (getP x56 x58.toNat) < (↑x4.length : Int)) ∧
    getP x4 (asI (getP x56 x58.toNat)).toNat =
    PVal.agg
    [eI (asI (cellAt (getP x4 (asI (getP x56 x58.toNat)).toNat) (0 : Nat))), eI (asI (cellAt (getP x4 (asI (getP x56 x58.toNat)).toNat) (1 : Nat))),
    PVal.sl Mode.fr 1 (asL (cellAt (getP x4 (asI (getP x56 x58.toNat)).toNat) (2 : Nat))), eI (asI (cellAt (getP x4 (asI (getP x56 x58.toNat)).toNat) (3 : Nat)))]) ∧
    ((o2.length + (1 : Nat)) * (8 : Nat) ≤ (140737488355328 : Nat) ∧ o2.length + (1 : Nat) ≤ (9223372036854775807 : Nat)) ∧
    L_graph_CheckNodes_c2_0 K
    [PVal.fptr false (PVal.sl Mode.fr 4 x4), PVal.ref (0 : Nat) (4 : Nat) (0 : Nat) (0 : Nat), PVal.ref (1 : Nat) (5 : Nat) (0 : Nat) (0 : Nat), PVal.own (2 : Nat), PVal.sl Mode.fr 1 x56, eI x57,
    eI (IntKind.i64.wrap (x58 + (1 : Int)))]
    [AObj.row true (59 : Nat) (4 : Nat) [PVal.agg [eI o00, eI o01, PVal.sl Mode.fr 1 o02, eI o03]],
    AObj.row true (188 : Nat) (5 : Nat) [PVal.agg [PVal.str o10, eI o11, PVal.bool o12, PVal.fn (222 : Nat) [], PVal.fn (223 : Nat) []]],
    AObj.row false (3 : Nat) (1 : Nat) (o2 ++ [eI (asI (cellAt (getP x4 (asI (getP x56 x58.toNat)).toNat) (1 : Nat)))])])
  ((((0 : Int) ≤ (0 : Int) ∧ (0 : Int) < (↑o2.length : Int)) ∧ getP o2 (0 : Nat) = eI (asI (getP o2 (0 : Nat)))) ∧
    br (decide (IntKind.i64.wrap (o03 + o01) ≤ asI (getP o2 (0 : Nat)))) (K (eI (0 : Int)) []) (K (eI (25 : Int)) []))) :
    L_graph_CheckNodes_c2_0 K [PVal.fptr false (PVal.sl Mode.fr 4 x4), PVal.ref (0 : Nat) (4 : Nat) (0 : Nat) (0 : Nat), PVal.ref (1 : Nat) (5 : Nat) (0 : Nat) (0 : Nat), PVal.own (2 : Nat), PVal.sl Mode.fr 1 x56, eI x57,
  eI x58] [AObj.row true (59 : Nat) (4 : Nat) [PVal.agg [eI o00, eI o01, PVal.sl Mode.fr 1 o02, eI o03]],
  AObj.row true (188 : Nat) (5 : Nat) [PVal.agg [PVal.str o10, eI o11, PVal.bool o12, PVal.fn (222 : Nat) [], PVal.fn (223 : Nat) []]], AObj.row false (3 : Nat) (1 : Nat) o2] :=
  r_of (n := 5) h (by kernel_rfl)
theorem c_graph_CheckNodes_c2_4_op15 (K : PVal → List AObj → Prop) (i : Int) (w : Int) (v : Int) (leaves : List PVal) (nodes : List PVal) (args : List PVal)
    (h : ((0 : Int) ≤ (15 : Int) ∧ (15 : Int) < (19 : Int)) ∧
  (sp_slices_IndexFunc_int_int [PVal.sl Mode.fr 1 args, PVal.fn (179 : Nat) [PVal.fptr false (eI i)]] []).pre ∧
    br (decide ((↑args.length : Int) = (1 : Int)))
    (br (!decide (idxGo (oddB (capI (PVal.fn (179 : Nat) [PVal.fptr false (eI i)]))) (0 : Nat) (dInts args) ≥ (0 : Int)))
    (br (decide (v = (0 : Int)))
    ((sp_graph_first [PVal.sl Mode.fr 1 [eI (0 : Int), eI (0 : Int), eI (0 : Int)]] []).pre ∧
    L_graph_CheckNodes_c2_0 K
    [PVal.fptr false (PVal.sl Mode.fr 4 nodes), PVal.ref (0 : Nat) (4 : Nat) (0 : Nat) (0 : Nat), PVal.ref (1 : Nat) (5 : Nat) (0 : Nat) (0 : Nat), PVal.own (2 : Nat), PVal.sl Mode.fr 1 args,
    eI (↑args.length : Int), eI (0 : Int)]
    [AObj.row true (59 : Nat) (4 : Nat) [PVal.agg [eI (15 : Int), eI w, PVal.sl Mode.fr 1 args, eI v]],
    AObj.row true (188 : Nat) (5 : Nat)
    [PVal.agg
    [PVal.str { data := #[OfNat.ofNat (122 : Nat), OfNat.ofNat (101 : Nat), OfNat.ofNat (120 : Nat), OfNat.ofNat (116 : Nat)] }, eI (1 : Int), PVal.bool false, PVal.fn (224 : Nat) [], PVal.fn (225 : Nat) []]],
    AObj.row false (3 : Nat) (1 : Nat) []])
    ((sp_graph_first [PVal.sl Mode.fr 1 [eI (0 : Int), eI (0 : Int), eI (3 : Int)]] []).pre ∧ K (eI (3 : Int)) []))
    (br (decide (v = (0 : Int))) ((sp_graph_first [PVal.sl Mode.fr 1 [eI (0 : Int), eI (9 : Int), eI (0 : Int)]] []).pre ∧ K (eI (9 : Int)) [])
    ((sp_graph_first [PVal.sl Mode.fr 1 [eI (0 : Int), eI (9 : Int), eI (3 : Int)]] []).pre ∧ K (eI (9 : Int)) [])))
    (br (!decide (idxGo (oddB (capI (PVal.fn (179 : Nat) [PVal.fptr false (eI i)]))) (0 : Nat) (dInts args) ≥ (0 : Int)))
    (br (decide (v = (0 : Int))) ((sp_graph_first [PVal.sl Mode.fr 1 [eI (10 : Int), eI (0 : Int), eI (0 : Int)]] []).pre ∧ K (eI (10 : Int)) [])
    ((sp_graph_first [PVal.sl Mode.fr 1 [eI (10 : Int), eI (0 : Int), eI (3 : Int)]] []).pre ∧ K (eI (10 : Int)) []))
    (br (decide (v = (0 : Int))) ((sp_graph_first [PVal.sl Mode.fr 1 [eI (10 : Int), eI (9 : Int), eI (0 : Int)]] []).pre ∧ K (eI (10 : Int)) [])
    ((sp_graph_first [PVal.sl Mode.fr 1 [eI (10 : Int), eI (9 : Int), eI (3 : Int)]] []).pre ∧ K (eI (10 : Int)) [])))) :
    C_graph_CheckNodes_c2_4 K [PVal.fptr false opsV, PVal.fptr false (PVal.sl Mode.fr 1 leaves), PVal.fptr false (PVal.sl Mode.fr 4 nodes), PVal.ref (0 : Nat) (1 : Nat) (0 : Nat) (0 : Nat), PVal.ref (1 : Nat) (4 : Nat) (0 : Nat) (0 : Nat)] [AObj.row true T_int (1 : Nat) [eI i], AObj.row true T_api_Node (4 : Nat) [PVal.agg [eI (15 : Int), eI w, PVal.sl Mode.fr 1 args, eI v]]] :=
  c_of (n := 5) h (by kernel_rfl)
theorem r_graph_CheckNodes_c2_0_op15 (K : PVal → List AObj → Prop) (x4 : List PVal) (x56 : List PVal) (x57 : Int) (x58 : Int) (o00 : Int) (o01 : Int) (o02 : List PVal) (o03 : Int) (o10 : ByteArray) (o11 : Int) (o12 : Bool) (o2 : List PVal)
    (h : br (decide (x58 < x57))
  ((((0 : Int) ≤ x58 ∧ x58 < (↑x56.length : Int)) ∧ getP x56 x58.toNat = eI (asI (getP x56 x58.toNat))) ∧
    (((0 : Int) ≤ asI (getP x56 x58.toNat) ∧ asI (getP x56 x58.toNat) < (↑x4.length : Int)) ∧
    getP x4 (asI (getP x56 x58.toNat)).toNat =
    PVal.agg
    [eI (asI (cellAt (getP x4 (asI (getP x56 x58.toNat)).toNat) (0 : Nat))), eI (asI (cellAt (getP x4 (asI (getP x56 x58.toNat)).toNat) (1 : Nat))),
    PVal.sl Mode.fr 1 (asL (cellAt (getP x4 (asI (getP x56 x58.toNat)).toNat) (2 : Nat))), eI (asI (cellAt (getP x4 (asI (getP x56 x58.toNat)).toNat) (3 : Nat)))]) ∧
    ((o2.length + (1 : Nat)) * (8 : Nat) ≤ (140737488355328 : Nat) ∧ o2.length + (1 : Nat) ≤ (9223372036854775807 : Nat)) ∧
    L_graph_CheckNodes_c2_0 K
    [PVal.fptr false (PVal.sl Mode.fr 4 x4), PVal.ref (0 : Nat) (4 : Nat) (0 : Nat) (0 : Nat), PVal.ref (1 : Nat) (5 : Nat) (0 : Nat) (0 : Nat), PVal.own (2 : Nat), PVal.sl Mode.fr 1 x56, eI x57,
    eI (IntKind.i64.wrap (x58 + (1 : Int)))]
    [AObj.row true (59 : Nat) (4 : Nat) [PVal.agg [eI o00, eI o01, PVal.sl Mode.fr 1 o02, eI o03]],
    AObj.row true (188 : Nat) (5 : Nat) [PVal.agg [PVal.str o10, eI o11, PVal.bool o12, PVal.fn (224 : Nat) [], PVal.fn (225 : Nat) []]],
    AObj.row false (3 : Nat) (1 : Nat) (o2 ++ [eI (asI (cellAt (getP x4 (asI (getP x56 x58.toNat)).toNat) (1 : Nat)))])])
  ((((0 : Int) ≤ (0 : Int) ∧ (0 : Int) < (↑o2.length : Int)) ∧ getP o2 (0 : Nat) = eI (asI (getP o2 (0 : Nat)))) ∧
    br (decide (asI (getP o2 (0 : Nat)) ≤ o01)) (K (eI (0 : Int)) []) (K (eI (25 : Int)) []))) :
    L_graph_CheckNodes_c2_0 K [PVal.fptr false (PVal.sl Mode.fr 4 x4), PVal.ref (0 : Nat) (4 : Nat) (0 : Nat) (0 : Nat), PVal.ref (1 : Nat) (5 : Nat) (0 : Nat) (0 : Nat), PVal.own (2 : Nat), PVal.sl Mode.fr 1 x56, eI x57,
  eI x58] [AObj.row true (59 : Nat) (4 : Nat) [PVal.agg [eI o00, eI o01, PVal.sl Mode.fr 1 o02, eI o03]],
  AObj.row true (188 : Nat) (5 : Nat) [PVal.agg [PVal.str o10, eI o11, PVal.bool o12, PVal.fn (224 : Nat) [], PVal.fn (225 : Nat) []]], AObj.row false (3 : Nat) (1 : Nat) o2] :=
  r_of (n := 5) h (by kernel_rfl)
theorem c_graph_CheckNodes_c2_4_op16 (K : PVal → List AObj → Prop) (i : Int) (w : Int) (v : Int) (leaves : List PVal) (nodes : List PVal) (args : List PVal)
    (h : ((0 : Int) ≤ (16 : Int) ∧ (16 : Int) < (19 : Int)) ∧
  (sp_slices_IndexFunc_int_int [PVal.sl Mode.fr 1 args, PVal.fn (179 : Nat) [PVal.fptr false (eI i)]] []).pre ∧
    br (decide ((↑args.length : Int) = (1 : Int)))
    (br (!decide (idxGo (oddB (capI (PVal.fn (179 : Nat) [PVal.fptr false (eI i)]))) (0 : Nat) (dInts args) ≥ (0 : Int)))
    (br (decide (v = (0 : Int)))
    ((sp_graph_first [PVal.sl Mode.fr 1 [eI (0 : Int), eI (0 : Int), eI (0 : Int)]] []).pre ∧
    L_graph_CheckNodes_c2_0 K
    [PVal.fptr false (PVal.sl Mode.fr 4 nodes), PVal.ref (0 : Nat) (4 : Nat) (0 : Nat) (0 : Nat), PVal.ref (1 : Nat) (5 : Nat) (0 : Nat) (0 : Nat), PVal.own (2 : Nat), PVal.sl Mode.fr 1 args,
    eI (↑args.length : Int), eI (0 : Int)]
    [AObj.row true (59 : Nat) (4 : Nat) [PVal.agg [eI (16 : Int), eI w, PVal.sl Mode.fr 1 args, eI v]],
    AObj.row true (188 : Nat) (5 : Nat)
    [PVal.agg
    [PVal.str { data := #[OfNat.ofNat (115 : Nat), OfNat.ofNat (101 : Nat), OfNat.ofNat (120 : Nat), OfNat.ofNat (116 : Nat)] }, eI (1 : Int), PVal.bool false, PVal.fn (224 : Nat) [], PVal.fn (226 : Nat) []]],
    AObj.row false (3 : Nat) (1 : Nat) []])
    ((sp_graph_first [PVal.sl Mode.fr 1 [eI (0 : Int), eI (0 : Int), eI (3 : Int)]] []).pre ∧ K (eI (3 : Int)) []))
    (br (decide (v = (0 : Int))) ((sp_graph_first [PVal.sl Mode.fr 1 [eI (0 : Int), eI (9 : Int), eI (0 : Int)]] []).pre ∧ K (eI (9 : Int)) [])
    ((sp_graph_first [PVal.sl Mode.fr 1 [eI (0 : Int), eI (9 : Int), eI (3 : Int)]] []).pre ∧ K (eI (9 : Int)) [])))
    (br (!decide (idxGo (oddB (capI (PVal.fn (179 : Nat) [PVal.fptr false (eI i)]))) (0 : Nat) (dInts args) ≥ (0 : Int)))
    (br (decide (v = (0 : Int))) ((sp_graph_first [PVal.sl Mode.fr 1 [eI (10 : Int), eI (0 : Int), eI (0 : Int)]] []).pre ∧ K (eI (10 : Int)) [])
    ((sp_graph_first [PVal.sl Mode.fr 1 [eI (10 : Int), eI (0 : Int), eI (3 : Int)]] []).pre ∧ K (eI (10 : Int)) []))
    (br (decide (v = (0 : Int))) ((sp_graph_first [PVal.sl Mode.fr 1 [eI (10 : Int), eI (9 : Int), eI (0 : Int)]] []).pre ∧ K (eI (10 : Int)) [])
    ((sp_graph_first [PVal.sl Mode.fr 1 [eI (10 : Int), eI (9 : Int), eI (3 : Int)]] []).pre ∧ K (eI (10 : Int)) [])))) :
    C_graph_CheckNodes_c2_4 K [PVal.fptr false opsV, PVal.fptr false (PVal.sl Mode.fr 1 leaves), PVal.fptr false (PVal.sl Mode.fr 4 nodes), PVal.ref (0 : Nat) (1 : Nat) (0 : Nat) (0 : Nat), PVal.ref (1 : Nat) (4 : Nat) (0 : Nat) (0 : Nat)] [AObj.row true T_int (1 : Nat) [eI i], AObj.row true T_api_Node (4 : Nat) [PVal.agg [eI (16 : Int), eI w, PVal.sl Mode.fr 1 args, eI v]]] :=
  c_of (n := 5) h (by kernel_rfl)
theorem r_graph_CheckNodes_c2_0_op16 (K : PVal → List AObj → Prop) (x4 : List PVal) (x56 : List PVal) (x57 : Int) (x58 : Int) (o00 : Int) (o01 : Int) (o02 : List PVal) (o03 : Int) (o10 : ByteArray) (o11 : Int) (o12 : Bool) (o2 : List PVal)
    (h : br (decide (x58 < x57))
  ((((0 : Int) ≤ x58 ∧ x58 < (↑x56.length : Int)) ∧ getP x56 x58.toNat = eI (asI (getP x56 x58.toNat))) ∧
    (((0 : Int) ≤ asI (getP x56 x58.toNat) ∧ asI (getP x56 x58.toNat) < (↑x4.length : Int)) ∧
    getP x4 (asI (getP x56 x58.toNat)).toNat =
    PVal.agg
    [eI (asI (cellAt (getP x4 (asI (getP x56 x58.toNat)).toNat) (0 : Nat))), eI (asI (cellAt (getP x4 (asI (getP x56 x58.toNat)).toNat) (1 : Nat))),
    PVal.sl Mode.fr 1 (asL (cellAt (getP x4 (asI (getP x56 x58.toNat)).toNat) (2 : Nat))), eI (asI (cellAt (getP x4 (asI (getP x56 x58.toNat)).toNat) (3 : Nat)))]) ∧
    ((o2.length + (1 : Nat)) * (8 : Nat) ≤ (140737488355328 : Nat) ∧ o2.length + (1 : Nat) ≤ (9223372036854775807 : Nat)) ∧
    L_graph_CheckNodes_c2_0 K
    [PVal.fptr false (PVal.sl Mode.fr 4 x4), PVal.ref (0 : Nat) (4 : Nat) (0 : Nat) (0 : Nat), PVal.ref (1 : Nat) (5 : Nat) (0 : Nat) (0 : Nat), PVal.own (2 : Nat), PVal.sl Mode.fr 1 x56, eI x57,
    eI (IntKind.i64.wrap (x58 + (1 : Int)))]
    [AObj.row true (59 : Nat) (4 : Nat) [PVal.agg [eI o00, eI o01, PVal.sl Mode.fr 1 o02, eI o03]],
    AObj.row true (188 : Nat) (5 : Nat) [PVal.agg [PVal.str o10, eI o11, PVal.bool o12, PVal.fn (224 : Nat) [], PVal.fn (226 : Nat) []]],
    AObj.row false (3 : Nat) (1 : Nat) (o2 ++ [eI (asI (cellAt (getP x4 (asI (getP x56 x58.toNat)).toNat) (1 : Nat)))])])
  ((((0 : Int) ≤ (0 : Int) ∧ (0 : Int) < (↑o2.length : Int)) ∧ getP o2 (0 : Nat) = eI (asI (getP o2 (0 : Nat)))) ∧
    br (decide (asI (getP o2 (0 : Nat)) ≤ o01)) (K (eI (0 : Int)) []) (K (eI (25 : Int)) []))) :
    L_graph_CheckNodes_c2_0 K [PVal.fptr false (PVal.sl Mode.fr 4 x4), PVal.ref (0 : Nat) (4 : Nat) (0 : Nat) (0 : Nat), PVal.ref (1 : Nat) (5 : Nat) (0 : Nat) (0 : Nat), PVal.own (2 : Nat), PVal.sl Mode.fr 1 x56, eI x57,
  eI x58] [AObj.row true (59 : Nat) (4 : Nat) [PVal.agg [eI o00, eI o01, PVal.sl Mode.fr 1 o02, eI o03]],
  AObj.row true (188 : Nat) (5 : Nat) [PVal.agg [PVal.str o10, eI o11, PVal.bool o12, PVal.fn (224 : Nat) [], PVal.fn (226 : Nat) []]], AObj.row false (3 : Nat) (1 : Nat) o2] :=
  r_of (n := 5) h (by kernel_rfl)
theorem c_graph_CheckNodes_c2_4_op17 (K : PVal → List AObj → Prop) (i : Int) (w : Int) (v : Int) (leaves : List PVal) (nodes : List PVal) (args : List PVal)
    (h : ((0 : Int) ≤ (17 : Int) ∧ (17 : Int) < (19 : Int)) ∧
  (sp_slices_IndexFunc_int_int [PVal.sl Mode.fr 1 args, PVal.fn (179 : Nat) [PVal.fptr false (eI i)]] []).pre ∧
    br (decide ((↑args.length : Int) = (2 : Int)))
    (br (!decide (idxGo (oddB (capI (PVal.fn (179 : Nat) [PVal.fptr false (eI i)]))) (0 : Nat) (dInts args) ≥ (0 : Int)))
    (br (decide (v = (0 : Int)))
    ((sp_graph_first [PVal.sl Mode.fr 1 [eI (0 : Int), eI (0 : Int), eI (0 : Int)]] []).pre ∧
    L_graph_CheckNodes_c2_0 K
    [PVal.fptr false (PVal.sl Mode.fr 4 nodes), PVal.ref (0 : Nat) (4 : Nat) (0 : Nat) (0 : Nat), PVal.ref (1 : Nat) (5 : Nat) (0 : Nat) (0 : Nat), PVal.own (2 : Nat), PVal.sl Mode.fr 1 args,
    eI (↑args.length : Int), eI (0 : Int)]
    [AObj.row true (59 : Nat) (4 : Nat) [PVal.agg [eI (17 : Int), eI w, PVal.sl Mode.fr 1 args, eI v]],
    AObj.row true (188 : Nat) (5 : Nat)
    [PVal.agg [PVal.str { data := #[OfNat.ofNat (115 : Nat), OfNat.ofNat (104 : Nat), OfNat.ofNat (108 : Nat)] }, eI (2 : Int), PVal.bool false, PVal.fn (227 : Nat) [], PVal.fn (228 : Nat) []]],
    AObj.row false (3 : Nat) (1 : Nat) []])
    ((sp_graph_first [PVal.sl Mode.fr 1 [eI (0 : Int), eI (0 : Int), eI (3 : Int)]] []).pre ∧ K (eI (3 : Int)) []))
    (br (decide (v = (0 : Int))) ((sp_graph_first [PVal.sl Mode.fr 1 [eI (0 : Int), eI (9 : Int), eI (0 : Int)]] []).pre ∧ K (eI (9 : Int)) [])
    ((sp_graph_first [PVal.sl Mode.fr 1 [eI (0 : Int), eI (9 : Int), eI (3 : Int)]] []).pre ∧ K (eI (9 : Int)) [])))
    (br (!decide (idxGo (oddB (capI (PVal.fn (179 : Nat) [PVal.fptr false (eI i)]))) (0 : Nat) (dInts args) ≥ (0 : Int)))
    (br (decide (v = (0 : Int))) ((sp_graph_first [PVal.sl Mode.fr 1 [eI (10 : Int), eI (0 : Int), eI (0 : Int)]] []).pre ∧ K (eI (10 : Int)) [])
    ((sp_graph_first [PVal.sl Mode.fr 1 [eI (10 : Int), eI (0 : Int), eI (3 : Int)]] []).pre ∧ K (eI (10 : Int)) []))
    (br (decide (v = (0 : Int))) ((sp_graph_first [PVal.sl Mode.fr 1 [eI (10 : Int), eI (9 : Int), eI (0 : Int)]] []).pre ∧ K (eI (10 : Int)) [])
    ((sp_graph_first [PVal.sl Mode.fr 1 [eI (10 : Int), eI (9 : Int), eI (3 : Int)]] []).pre ∧ K (eI (10 : Int)) [])))) :
    C_graph_CheckNodes_c2_4 K [PVal.fptr false opsV, PVal.fptr false (PVal.sl Mode.fr 1 leaves), PVal.fptr false (PVal.sl Mode.fr 4 nodes), PVal.ref (0 : Nat) (1 : Nat) (0 : Nat) (0 : Nat), PVal.ref (1 : Nat) (4 : Nat) (0 : Nat) (0 : Nat)] [AObj.row true T_int (1 : Nat) [eI i], AObj.row true T_api_Node (4 : Nat) [PVal.agg [eI (17 : Int), eI w, PVal.sl Mode.fr 1 args, eI v]]] :=
  c_of (n := 5) h (by kernel_rfl)
theorem r_graph_CheckNodes_c2_0_op17 (K : PVal → List AObj → Prop) (x4 : List PVal) (x56 : List PVal) (x57 : Int) (x58 : Int) (o00 : Int) (o01 : Int) (o02 : List PVal) (o03 : Int) (o10 : ByteArray) (o11 : Int) (o12 : Bool) (o2 : List PVal)
    (h : br (decide (x58 < x57))
  ((((0 : Int) ≤ x58 ∧ x58 < (↑x56.length : Int)) ∧ getP x56 x58.toNat = eI (asI (getP x56 x58.toNat))) ∧
    (((0 : Int) ≤ asI (getP x56 x58.toNat) ∧ asI (getP x56 x58.toNat) < (↑x4.length : Int)) ∧
    getP x4 (asI (getP x56 x58.toNat)).toNat =
    PVal.agg
    [eI (asI (cellAt (getP x4 (asI (getP x56 x58.toNat)).toNat) (0 : Nat))), eI (asI (cellAt (getP x4 (asI (getP x56 x58.toNat)).toNat) (1 : Nat))),
    PVal.sl Mode.fr 1 (asL (cellAt (getP x4 (asI (getP x56 x58.toNat)).toNat) (2 : Nat))), eI (asI (cellAt (getP x4 (asI (getP x56 x58.toNat)).toNat) (3 : Nat)))]) ∧
    ((o2.length + (1 : Nat)) * (8 : Nat) ≤ (140737488355328 : Nat) ∧ o2.length + (1 : Nat) ≤ (9223372036854775807 : Nat)) ∧
    L_graph_CheckNodes_c2_0 K
    [PVal.fptr false (PVal.sl Mode.fr 4 x4), PVal.ref (0 : Nat) (4 : Nat) (0 : Nat) (0 : Nat), PVal.ref (1 : Nat) (5 : Nat) (0 : Nat) (0 : Nat), PVal.own (2 : Nat), PVal.sl Mode.fr 1 x56, eI x57,
    eI (IntKind.i64.wrap (x58 + (1 : Int)))]
    [AObj.row true (59 : Nat) (4 : Nat) [PVal.agg [eI o00, eI o01, PVal.sl Mode.fr 1 o02, eI o03]],
    AObj.row true (188 : Nat) (5 : Nat) [PVal.agg [PVal.str o10, eI o11, PVal.bool o12, PVal.fn (227 : Nat) [], PVal.fn (228 : Nat) []]],
    AObj.row false (3 : Nat) (1 : Nat) (o2 ++ [eI (asI (cellAt (getP x4 (asI (getP x56 x58.toNat)).toNat) (1 : Nat)))])])
  ((((0 : Int) ≤ (0 : Int) ∧ (0 : Int) < (↑o2.length : Int)) ∧ getP o2 (0 : Nat) = eI (asI (getP o2 (0 : Nat)))) ∧
    br (decide (asI (getP o2 (0 : Nat)) = o01)) (K (eI (0 : Int)) []) (K (eI (25 : Int)) []))) :
    L_graph_CheckNodes_c2_0 K [PVal.fptr false (PVal.sl Mode.fr 4 x4), PVal.ref (0 : Nat) (4 : Nat) (0 : Nat) (0 : Nat), PVal.ref (1 : Nat) (5 : Nat) (0 : Nat) (0 : Nat), PVal.own (2 : Nat), PVal.sl Mode.fr 1 x56, eI x57,
  eI x58] [AObj.row true (59 : Nat) (4 : Nat) [PVal.agg [eI o00, eI o01, PVal.sl Mode.fr 1 o02, eI o03]],
  AObj.row true (188 : Nat) (5 : Nat) [PVal.agg [PVal.str o10, eI o11, PVal.bool o12, PVal.fn (227 : Nat) [], PVal.fn (228 : Nat) []]], AObj.row false (3 : Nat) (1 : Nat) o2] :=
  r_of (n := 5) h (by kernel_rfl)
theorem c_graph_CheckNodes_c2_4_op18 (K : PVal → List AObj → Prop) (i : Int) (w : Int) (v : Int) (leaves : List PVal) (nodes : List PVal) (args : List PVal)
    (h : ((0 : Int) ≤ (18 : Int) ∧ (18 : Int) < (19 : Int)) ∧
  (sp_slices_IndexFunc_int_int [PVal.sl Mode.fr 1 args, PVal.fn (179 : Nat) [PVal.fptr false (eI i)]] []).pre ∧
    br (decide ((↑args.length : Int) = (2 : Int)))
    (br (!decide (idxGo (oddB (capI (PVal.fn (179 : Nat) [PVal.fptr false (eI i)]))) (0 : Nat) (dInts args) ≥ (0 : Int)))
    (br (decide (v = (0 : Int)))
    ((sp_graph_first [PVal.sl Mode.fr 1 [eI (0 : Int), eI (0 : Int), eI (0 : Int)]] []).pre ∧
    L_graph_CheckNodes_c2_0 K
    [PVal.fptr false (PVal.sl Mode.fr 4 nodes), PVal.ref (0 : Nat) (4 : Nat) (0 : Nat) (0 : Nat), PVal.ref (1 : Nat) (5 : Nat) (0 : Nat) (0 : Nat), PVal.own (2 : Nat), PVal.sl Mode.fr 1 args,
    eI (↑args.length : Int), eI (0 : Int)]
    [AObj.row true (59 : Nat) (4 : Nat) [PVal.agg [eI (18 : Int), eI w, PVal.sl Mode.fr 1 args, eI v]],
    AObj.row true (188 : Nat) (5 : Nat)
    [PVal.agg [PVal.str { data := #[OfNat.ofNat (115 : Nat), OfNat.ofNat (104 : Nat), OfNat.ofNat (114 : Nat)] }, eI (2 : Int), PVal.bool false, PVal.fn (227 : Nat) [], PVal.fn (229 : Nat) []]],
    AObj.row false (3 : Nat) (1 : Nat) []])
    ((sp_graph_first [PVal.sl Mode.fr 1 [eI (0 : Int), eI (0 : Int), eI (3 : Int)]] []).pre ∧ K (eI (3 : Int)) []))
    (br (decide (v = (0 : Int))) ((sp_graph_first [PVal.sl Mode.fr 1 [eI (0 : Int), eI (9 : Int), eI (0 : Int)]] []).pre ∧ K (eI (9 : Int)) [])
    ((sp_graph_first [PVal.sl Mode.fr 1 [eI (0 : Int), eI (9 : Int), eI (3 : Int)]] []).pre ∧ K (eI (9 : Int)) [])))
    (br (!decide (idxGo (oddB (capI (PVal.fn (179 : Nat) [PVal.fptr false (eI i)]))) (0 : Nat) (dInts args) ≥ (0 : Int)))
    (br (decide (v = (0 : Int))) ((sp_graph_first [PVal.sl Mode.fr 1 [eI (10 : Int), eI (0 : Int), eI (0 : Int)]] []).pre ∧ K (eI (10 : Int)) [])
    ((sp_graph_first [PVal.sl Mode.fr 1 [eI (10 : Int), eI (0 : Int), eI (3 : Int)]] []).pre ∧ K (eI (10 : Int)) []))
    (br (decide (v = (0 : Int))) ((sp_graph_first [PVal.sl Mode.fr 1 [eI (10 : Int), eI (9 : Int), eI (0 : Int)]] []).pre ∧ K (eI (10 : Int)) [])
    ((sp_graph_first [PVal.sl Mode.fr 1 [eI (10 : Int), eI (9 : Int), eI (3 : Int)]] []).pre ∧ K (eI (10 : Int)) [])))) :
    C_graph_CheckNodes_c2_4 K [PVal.fptr false opsV, PVal.fptr false (PVal.sl Mode.fr 1 leaves), PVal.fptr false (PVal.sl Mode.fr 4 nodes), PVal.ref (0 : Nat) (1 : Nat) (0 : Nat) (0 : Nat), PVal.ref (1 : Nat) (4 : Nat) (0 : Nat) (0 : Nat)] [AObj.row true T_int (1 : Nat) [eI i], AObj.row true T_api_Node (4 : Nat) [PVal.agg [eI (18 : Int), eI w, PVal.sl Mode.fr 1 args, eI v]]] :=
  c_of (n := 5) h (by kernel_rfl)
theorem r_graph_CheckNodes_c2_0_op18 (K : PVal → List AObj → Prop) (x4 : List PVal) (x56 : List PVal) (x57 : Int) (x58 : Int) (o00 : Int) (o01 : Int) (o02 : List PVal) (o03 : Int) (o10 : ByteArray) (o11 : Int) (o12 : Bool) (o2 : List PVal)
    (h : br (decide (x58 < x57))
  ((((0 : Int) ≤ x58 ∧ x58 < (↑x56.length : Int)) ∧ getP x56 x58.toNat = eI (asI (getP x56 x58.toNat))) ∧
    (((0 : Int) ≤ asI (getP x56 x58.toNat) ∧ asI (getP x56 x58.toNat) < (↑x4.length : Int)) ∧
    getP x4 (asI (getP x56 x58.toNat)).toNat =
    PVal.agg
    [eI (asI (cellAt (getP x4 (asI (getP x56 x58.toNat)).toNat) (0 : Nat))), eI (asI (cellAt (getP x4 (asI (getP x56 x58.toNat)).toNat) (1 : Nat))),
    PVal.sl Mode.fr 1 (asL (cellAt (getP x4 (asI (getP x56 x58.toNat)).toNat) (2 : Nat))), eI (asI (cellAt (getP x4 (asI (getP x56 x58.toNat)).toNat) (3 : Nat)))]) ∧
    ((o2.length + (1 : Nat)) * (8 : Nat) ≤ (140737488355328 : Nat) ∧ o2.length + (1 : Nat) ≤ (9223372036854775807 : Nat)) ∧
    L_graph_CheckNodes_c2_0 K
    [PVal.fptr false (PVal.sl Mode.fr 4 x4), PVal.ref (0 : Nat) (4 : Nat) (0 : Nat) (0 : Nat), PVal.ref (1 : Nat) (5 : Nat) (0 : Nat) (0 : Nat), PVal.own (2 : Nat), PVal.sl Mode.fr 1 x56, eI x57,
    eI (IntKind.i64.wrap (x58 + (1 : Int)))]
    [AObj.row true (59 : Nat) (4 : Nat) [PVal.agg [eI o00, eI o01, PVal.sl Mode.fr 1 o02, eI o03]],
    AObj.row true (188 : Nat) (5 : Nat) [PVal.agg [PVal.str o10, eI o11, PVal.bool o12, PVal.fn (227 : Nat) [], PVal.fn (229 : Nat) []]],
    AObj.row false (3 : Nat) (1 : Nat) (o2 ++ [eI (asI (cellAt (getP x4 (asI (getP x56 x58.toNat)).toNat) (1 : Nat)))])])
  ((((0 : Int) ≤ (0 : Int) ∧ (0 : Int) < (↑o2.length : Int)) ∧ getP o2 (0 : Nat) = eI (asI (getP o2 (0 : Nat)))) ∧
    br (decide (asI (getP o2 (0 : Nat)) = o01)) (K (eI (0 : Int)) []) (K (eI (25 : Int)) []))) :
    L_graph_CheckNodes_c2_0 K [PVal.fptr false (PVal.sl Mode.fr 4 x4), PVal.ref (0 : Nat) (4 : Nat) (0 : Nat) (0 : Nat), PVal.ref (1 : Nat) (5 : Nat) (0 : Nat) (0 : Nat), PVal.own (2 : Nat), PVal.sl Mode.fr 1 x56, eI x57,
  eI x58] [AObj.row true (59 : Nat) (4 : Nat) [PVal.agg [eI o00, eI o01, PVal.sl Mode.fr 1 o02, eI o03]],
  AObj.row true (188 : Nat) (5 : Nat) [PVal.agg [PVal.str o10, eI o11, PVal.bool o12, PVal.fn (227 : Nat) [], PVal.fn (229 : Nat) []]], AObj.row false (3 : Nat) (1 : Nat) o2] :=
  r_of (n := 5) h (by kernel_rfl)
end Go.Pvm.Seat
