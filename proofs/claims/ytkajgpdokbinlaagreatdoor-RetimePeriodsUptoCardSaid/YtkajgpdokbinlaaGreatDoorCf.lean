/- RetimePeriods (second form, tied card): the law answers true at every netlist and list of delays whose reading is of bulk at most 1048576, and the input reads as it did; no further condition. This text: part Cf (R4 P4 O5 R5 P5 O6 R7 P7). -/
import Derived.Test.YtkajgpdokbinlaaGreatDoorBa
import Derived.Test.YtkajgpdokbinlaaGreatDoorCe
set_option linter.unusedVariables false
set_option linter.unusedSimpArgs false
set_option linter.unnecessarySimpa false
set_option maxHeartbeats 4000000
namespace Go.Pvm.Seat
open Go
def L_netlist_CheckNetlist_0 (K : PVal → List AObj → Prop) (vs : List PVal) (os : List AObj) : Prop := LoopP env4 0 79 0 (cd env4 79 [1, 1, 1, 1, 0, 1, 0, 0]) vs os (kat env4 5 0 79 [1, 1, 1, 1, 0, 1, 0] K [])
theorem e_netlist_CheckNetlist (K : PVal → List AObj → Prop) (n'Name : ByteArray) (n'Inputs : List PVal) (n'Registers : List PVal) (n'Nodes : List PVal) (n'Outputs : List PVal)
    (h : L_netlist_CheckNetlist_0 K
  [PVal.agg
    [PVal.fn (121 : Nat) [PVal.fptr false (PVal.agg [PVal.str n'Name, PVal.sl Mode.fr 2 n'Inputs, PVal.sl Mode.fr 5 n'Registers, PVal.sl Mode.fr 4 n'Nodes, PVal.sl Mode.fr 2 n'Outputs])],
    PVal.fn (123 : Nat)
    [PVal.fptr false (PVal.agg [PVal.str n'Name, PVal.sl Mode.fr 2 n'Inputs, PVal.sl Mode.fr 5 n'Registers, PVal.sl Mode.fr 4 n'Nodes, PVal.sl Mode.fr 2 n'Outputs]), PVal.fptr false (PVal.mapr (0 : Nat))],
    PVal.fn (128 : Nat) [PVal.fptr false (PVal.agg [PVal.str n'Name, PVal.sl Mode.fr 2 n'Inputs, PVal.sl Mode.fr 5 n'Registers, PVal.sl Mode.fr 4 n'Nodes, PVal.sl Mode.fr 2 n'Outputs])],
    PVal.fn (129 : Nat)
    [PVal.fptr false (PVal.agg [PVal.str n'Name, PVal.sl Mode.fr 2 n'Inputs, PVal.sl Mode.fr 5 n'Registers, PVal.sl Mode.fr 4 n'Nodes, PVal.sl Mode.fr 2 n'Outputs]), PVal.fptr false (PVal.mapr (0 : Nat))],
    PVal.fn (133 : Nat) [PVal.fptr false (PVal.agg [PVal.str n'Name, PVal.sl Mode.fr 2 n'Inputs, PVal.sl Mode.fr 5 n'Registers, PVal.sl Mode.fr 4 n'Nodes, PVal.sl Mode.fr 2 n'Outputs])],
    PVal.fn (136 : Nat)
    [PVal.fptr false (PVal.agg [PVal.str n'Name, PVal.sl Mode.fr 2 n'Inputs, PVal.sl Mode.fr 5 n'Registers, PVal.sl Mode.fr 4 n'Nodes, PVal.sl Mode.fr 2 n'Outputs]),
    PVal.fptr false (PVal.fn (119 : Nat) [PVal.fptr false (PVal.agg [PVal.str n'Name, PVal.sl Mode.fr 2 n'Inputs, PVal.sl Mode.fr 5 n'Registers, PVal.sl Mode.fr 4 n'Nodes, PVal.sl Mode.fr 2 n'Outputs])])],
    PVal.fn (138 : Nat) [PVal.fptr false (PVal.agg [PVal.str n'Name, PVal.sl Mode.fr 2 n'Inputs, PVal.sl Mode.fr 5 n'Registers, PVal.sl Mode.fr 4 n'Nodes, PVal.sl Mode.fr 2 n'Outputs])],
    PVal.fn (139 : Nat)
    [PVal.fptr false (PVal.agg [PVal.str n'Name, PVal.sl Mode.fr 2 n'Inputs, PVal.sl Mode.fr 5 n'Registers, PVal.sl Mode.fr 4 n'Nodes, PVal.sl Mode.fr 2 n'Outputs]), PVal.fptr false (PVal.mapr (1 : Nat)),
    PVal.fptr false (PVal.fn (119 : Nat) [PVal.fptr false (PVal.agg [PVal.str n'Name, PVal.sl Mode.fr 2 n'Inputs, PVal.sl Mode.fr 5 n'Registers, PVal.sl Mode.fr 4 n'Nodes, PVal.sl Mode.fr 2 n'Outputs])])]],
    eI (0 : Int)]
  [AObj.mp [], AObj.mp []]) :
    CallP env4 79 [PVal.agg [PVal.str n'Name, PVal.sl Mode.fr 2 n'Inputs, PVal.sl Mode.fr 5 n'Registers, PVal.sl Mode.fr 4 n'Nodes, PVal.sl Mode.fr 2 n'Outputs]] [] K :=
  e_of (n := 6) h (by kernel_rfl)
theorem r_netlist_CheckNetlist_0_0 (K : PVal → List AObj → Prop) (x2400 : ByteArray) (x2401 : List PVal) (x2402 : List PVal) (x2403 : List PVal) (x2404 : List PVal) (x24100 : ByteArray) (x24101 : List PVal) (x24102 : List PVal) (x24103 : List PVal) (x24104 : List PVal) (x2420 : ByteArray) (x2421 : List PVal) (x2422 : List PVal) (x2423 : List PVal) (x2424 : List PVal) (x24300 : ByteArray) (x24301 : List PVal) (x24302 : List PVal) (x24303 : List PVal) (x24304 : List PVal) (x2440 : ByteArray) (x2441 : List PVal) (x2442 : List PVal) (x2443 : List PVal) (x2444 : List PVal) (x24500 : ByteArray) (x24501 : List PVal) (x24502 : List PVal) (x24503 : List PVal) (x24504 : List PVal) (x24510 : ByteArray) (x24511 : List PVal) (x24512 : List PVal) (x24513 : List PVal) (x24514 : List PVal) (x2460 : ByteArray) (x2461 : List PVal) (x2462 : List PVal) (x2463 : List PVal) (x2464 : List PVal) (x24700 : ByteArray) (x24701 : List PVal) (x24702 : List PVal) (x24703 : List PVal) (x24704 : List PVal) (x24720 : ByteArray) (x24721 : List PVal) (x24722 : List PVal) (x24723 : List PVal) (x24724 : List PVal) (o0 : List (PVal × PVal)) (o1 : List (PVal × PVal))
    (h : ((0 : Int) ≤ (0 : Int) ∧ (0 : Int) < (8 : Int)) ∧
  (sp_netlist_isName [PVal.str x2400] []).pre ∧
    br (isName x2400)
    (br (decide ((↑x2401.length : Int) ≤ (12 : Int)))
    ((sp_netlist_first [PVal.sl Mode.fr 1 [eI (0 : Int), eI (0 : Int)]] []).pre ∧
    L_netlist_CheckNetlist_0 K
    [PVal.agg
    [PVal.fn (121 : Nat) [PVal.fptr false (PVal.agg [PVal.str x2400, PVal.sl Mode.fr 2 x2401, PVal.sl Mode.fr 5 x2402, PVal.sl Mode.fr 4 x2403, PVal.sl Mode.fr 2 x2404])],
    PVal.fn (123 : Nat)
    [PVal.fptr false (PVal.agg [PVal.str x24100, PVal.sl Mode.fr 2 x24101, PVal.sl Mode.fr 5 x24102, PVal.sl Mode.fr 4 x24103, PVal.sl Mode.fr 2 x24104]), PVal.fptr false (PVal.mapr (0 : Nat))],
    PVal.fn (128 : Nat) [PVal.fptr false (PVal.agg [PVal.str x2420, PVal.sl Mode.fr 2 x2421, PVal.sl Mode.fr 5 x2422, PVal.sl Mode.fr 4 x2423, PVal.sl Mode.fr 2 x2424])],
    PVal.fn (129 : Nat)
    [PVal.fptr false (PVal.agg [PVal.str x24300, PVal.sl Mode.fr 2 x24301, PVal.sl Mode.fr 5 x24302, PVal.sl Mode.fr 4 x24303, PVal.sl Mode.fr 2 x24304]), PVal.fptr false (PVal.mapr (0 : Nat))],
    PVal.fn (133 : Nat) [PVal.fptr false (PVal.agg [PVal.str x2440, PVal.sl Mode.fr 2 x2441, PVal.sl Mode.fr 5 x2442, PVal.sl Mode.fr 4 x2443, PVal.sl Mode.fr 2 x2444])],
    PVal.fn (136 : Nat)
    [PVal.fptr false (PVal.agg [PVal.str x24500, PVal.sl Mode.fr 2 x24501, PVal.sl Mode.fr 5 x24502, PVal.sl Mode.fr 4 x24503, PVal.sl Mode.fr 2 x24504]),
    PVal.fptr false (PVal.fn (119 : Nat) [PVal.fptr false (PVal.agg [PVal.str x24510, PVal.sl Mode.fr 2 x24511, PVal.sl Mode.fr 5 x24512, PVal.sl Mode.fr 4 x24513, PVal.sl Mode.fr 2 x24514])])],
    PVal.fn (138 : Nat) [PVal.fptr false (PVal.agg [PVal.str x2460, PVal.sl Mode.fr 2 x2461, PVal.sl Mode.fr 5 x2462, PVal.sl Mode.fr 4 x2463, PVal.sl Mode.fr 2 x2464])],
    PVal.fn (139 : Nat)
    [PVal.fptr false (PVal.agg [PVal.str x24700, PVal.sl Mode.fr 2 x24701, PVal.sl Mode.fr 5 x24702, PVal.sl Mode.fr 4 x24703, PVal.sl Mode.fr 2 x24704]), PVal.fptr false (PVal.mapr (1 : Nat)),
    PVal.fptr false (PVal.fn (119 : Nat) [PVal.fptr false (PVal.agg [PVal.str x24720, PVal.sl Mode.fr 2 x24721, PVal.sl Mode.fr 5 x24722, PVal.sl Mode.fr 4 x24723, PVal.sl Mode.fr 2 x24724])])]],
    eI (1 : Int)]
    [AObj.mp o0, AObj.mp o1])
    ((sp_netlist_first [PVal.sl Mode.fr 1 [eI (0 : Int), eI (8 : Int)]] []).pre ∧ K (PVal.tup [eI (0 : Int), eI (8 : Int)]) []))
    (br (decide ((↑x2401.length : Int) ≤ (12 : Int)))
    ((sp_netlist_first [PVal.sl Mode.fr 1 [eI (4 : Int), eI (0 : Int)]] []).pre ∧ K (PVal.tup [eI (0 : Int), eI (4 : Int)]) [])
    ((sp_netlist_first [PVal.sl Mode.fr 1 [eI (4 : Int), eI (8 : Int)]] []).pre ∧ K (PVal.tup [eI (0 : Int), eI (4 : Int)]) []))) :
    L_netlist_CheckNetlist_0 K [PVal.agg
    [PVal.fn (121 : Nat) [PVal.fptr false (PVal.agg [PVal.str x2400, PVal.sl Mode.fr 2 x2401, PVal.sl Mode.fr 5 x2402, PVal.sl Mode.fr 4 x2403, PVal.sl Mode.fr 2 x2404])],
    PVal.fn (123 : Nat) [PVal.fptr false (PVal.agg [PVal.str x24100, PVal.sl Mode.fr 2 x24101, PVal.sl Mode.fr 5 x24102, PVal.sl Mode.fr 4 x24103, PVal.sl Mode.fr 2 x24104]), PVal.fptr false (PVal.mapr (0 : Nat))],
    PVal.fn (128 : Nat) [PVal.fptr false (PVal.agg [PVal.str x2420, PVal.sl Mode.fr 2 x2421, PVal.sl Mode.fr 5 x2422, PVal.sl Mode.fr 4 x2423, PVal.sl Mode.fr 2 x2424])],
    PVal.fn (129 : Nat) [PVal.fptr false (PVal.agg [PVal.str x24300, PVal.sl Mode.fr 2 x24301, PVal.sl Mode.fr 5 x24302, PVal.sl Mode.fr 4 x24303, PVal.sl Mode.fr 2 x24304]), PVal.fptr false (PVal.mapr (0 : Nat))],
    PVal.fn (133 : Nat) [PVal.fptr false (PVal.agg [PVal.str x2440, PVal.sl Mode.fr 2 x2441, PVal.sl Mode.fr 5 x2442, PVal.sl Mode.fr 4 x2443, PVal.sl Mode.fr 2 x2444])],
    PVal.fn (136 : Nat)
    [PVal.fptr false (PVal.agg [PVal.str x24500, PVal.sl Mode.fr 2 x24501, PVal.sl Mode.fr 5 x24502, PVal.sl Mode.fr 4 x24503, PVal.sl Mode.fr 2 x24504]),
    PVal.fptr false (PVal.fn (119 : Nat) [PVal.fptr false (PVal.agg [PVal.str x24510, PVal.sl Mode.fr 2 x24511, PVal.sl Mode.fr 5 x24512, PVal.sl Mode.fr 4 x24513, PVal.sl Mode.fr 2 x24514])])],
    PVal.fn (138 : Nat) [PVal.fptr false (PVal.agg [PVal.str x2460, PVal.sl Mode.fr 2 x2461, PVal.sl Mode.fr 5 x2462, PVal.sl Mode.fr 4 x2463, PVal.sl Mode.fr 2 x2464])],
    PVal.fn (139 : Nat)
    [PVal.fptr false (PVal.agg [PVal.str x24700, PVal.sl Mode.fr 2 x24701, PVal.sl Mode.fr 5 x24702, PVal.sl Mode.fr 4 x24703, PVal.sl Mode.fr 2 x24704]), PVal.fptr false (PVal.mapr (1 : Nat)),
    PVal.fptr false (PVal.fn (119 : Nat) [PVal.fptr false (PVal.agg [PVal.str x24720, PVal.sl Mode.fr 2 x24721, PVal.sl Mode.fr 5 x24722, PVal.sl Mode.fr 4 x24723, PVal.sl Mode.fr 2 x24724])])]],
  eI (0 : Int)] [AObj.mp o0, AObj.mp o1] :=
  r_of (n := 5) h (by kernel_rfl)
theorem r_netlist_CheckNetlist_0_1 (K : PVal → List AObj → Prop) (x2400 : ByteArray) (x2401 : List PVal) (x2402 : List PVal) (x2403 : List PVal) (x2404 : List PVal) (x24100 : ByteArray) (x24101 : List PVal) (x24102 : List PVal) (x24103 : List PVal) (x24104 : List PVal) (x2420 : ByteArray) (x2421 : List PVal) (x2422 : List PVal) (x2423 : List PVal) (x2424 : List PVal) (x24300 : ByteArray) (x24301 : List PVal) (x24302 : List PVal) (x24303 : List PVal) (x24304 : List PVal) (x2440 : ByteArray) (x2441 : List PVal) (x2442 : List PVal) (x2443 : List PVal) (x2444 : List PVal) (x24500 : ByteArray) (x24501 : List PVal) (x24502 : List PVal) (x24503 : List PVal) (x24504 : List PVal) (x24510 : ByteArray) (x24511 : List PVal) (x24512 : List PVal) (x24513 : List PVal) (x24514 : List PVal) (x2460 : ByteArray) (x2461 : List PVal) (x2462 : List PVal) (x2463 : List PVal) (x2464 : List PVal) (x24700 : ByteArray) (x24701 : List PVal) (x24702 : List PVal) (x24703 : List PVal) (x24704 : List PVal) (x24720 : ByteArray) (x24721 : List PVal) (x24722 : List PVal) (x24723 : List PVal) (x24724 : List PVal) (o0 : List (PVal × PVal)) (o1 : List (PVal × PVal))
    (h : ((0 : Int) ≤ (1 : Int) ∧ (1 : Int) < (8 : Int)) ∧
  (sp_netlist_each_api_Port [PVal.sl Mode.fr 2 x24101, PVal.fn (125 : Nat) [PVal.fptr false (PVal.mapr (0 : Nat))]] [AObj.mp o0]).pre ∧
    br (!decide ((namesGo portE Port.name (mapL [AObj.mp o0] (0 : Nat)) (0 : Nat) (List.map dPort x24101)).snd.fst = (0 : Int)))
    (K
    (PVal.tup
    [eI (namesGo portE Port.name (mapL [AObj.mp o0] (0 : Nat)) (0 : Nat) (List.map dPort x24101)).fst, eI (namesGo portE Port.name (mapL [AObj.mp o0] (0 : Nat)) (0 : Nat) (List.map dPort x24101)).snd.fst])
    [])
    (L_netlist_CheckNetlist_0 K
    [PVal.agg
    [PVal.fn (121 : Nat) [PVal.fptr false (PVal.agg [PVal.str x2400, PVal.sl Mode.fr 2 x2401, PVal.sl Mode.fr 5 x2402, PVal.sl Mode.fr 4 x2403, PVal.sl Mode.fr 2 x2404])],
    PVal.fn (123 : Nat)
    [PVal.fptr false (PVal.agg [PVal.str x24100, PVal.sl Mode.fr 2 x24101, PVal.sl Mode.fr 5 x24102, PVal.sl Mode.fr 4 x24103, PVal.sl Mode.fr 2 x24104]), PVal.fptr false (PVal.mapr (0 : Nat))],
    PVal.fn (128 : Nat) [PVal.fptr false (PVal.agg [PVal.str x2420, PVal.sl Mode.fr 2 x2421, PVal.sl Mode.fr 5 x2422, PVal.sl Mode.fr 4 x2423, PVal.sl Mode.fr 2 x2424])],
    PVal.fn (129 : Nat)
    [PVal.fptr false (PVal.agg [PVal.str x24300, PVal.sl Mode.fr 2 x24301, PVal.sl Mode.fr 5 x24302, PVal.sl Mode.fr 4 x24303, PVal.sl Mode.fr 2 x24304]), PVal.fptr false (PVal.mapr (0 : Nat))],
    PVal.fn (133 : Nat) [PVal.fptr false (PVal.agg [PVal.str x2440, PVal.sl Mode.fr 2 x2441, PVal.sl Mode.fr 5 x2442, PVal.sl Mode.fr 4 x2443, PVal.sl Mode.fr 2 x2444])],
    PVal.fn (136 : Nat)
    [PVal.fptr false (PVal.agg [PVal.str x24500, PVal.sl Mode.fr 2 x24501, PVal.sl Mode.fr 5 x24502, PVal.sl Mode.fr 4 x24503, PVal.sl Mode.fr 2 x24504]),
    PVal.fptr false (PVal.fn (119 : Nat) [PVal.fptr false (PVal.agg [PVal.str x24510, PVal.sl Mode.fr 2 x24511, PVal.sl Mode.fr 5 x24512, PVal.sl Mode.fr 4 x24513, PVal.sl Mode.fr 2 x24514])])],
    PVal.fn (138 : Nat) [PVal.fptr false (PVal.agg [PVal.str x2460, PVal.sl Mode.fr 2 x2461, PVal.sl Mode.fr 5 x2462, PVal.sl Mode.fr 4 x2463, PVal.sl Mode.fr 2 x2464])],
    PVal.fn (139 : Nat)
    [PVal.fptr false (PVal.agg [PVal.str x24700, PVal.sl Mode.fr 2 x24701, PVal.sl Mode.fr 5 x24702, PVal.sl Mode.fr 4 x24703, PVal.sl Mode.fr 2 x24704]), PVal.fptr false (PVal.mapr (1 : Nat)),
    PVal.fptr false (PVal.fn (119 : Nat) [PVal.fptr false (PVal.agg [PVal.str x24720, PVal.sl Mode.fr 2 x24721, PVal.sl Mode.fr 5 x24722, PVal.sl Mode.fr 4 x24723, PVal.sl Mode.fr 2 x24724])])]],
    eI (2 : Int)]
    [AObj.mp (eM (namesGo portE Port.name (mapL [AObj.mp o0] (0 : Nat)) (0 : Nat) (List.map dPort x24101)).snd.snd), AObj.mp o1])) :
    L_netlist_CheckNetlist_0 K [PVal.agg
    [PVal.fn (121 : Nat) [PVal.fptr false (PVal.agg [PVal.str x2400, PVal.sl Mode.fr 2 x2401, PVal.sl Mode.fr 5 x2402, PVal.sl Mode.fr 4 x2403, PVal.sl Mode.fr 2 x2404])],
    PVal.fn (123 : Nat) [PVal.fptr false (PVal.agg [PVal.str x24100, PVal.sl Mode.fr 2 x24101, PVal.sl Mode.fr 5 x24102, PVal.sl Mode.fr 4 x24103, PVal.sl Mode.fr 2 x24104]), PVal.fptr false (PVal.mapr (0 : Nat))],
    PVal.fn (128 : Nat) [PVal.fptr false (PVal.agg [PVal.str x2420, PVal.sl Mode.fr 2 x2421, PVal.sl Mode.fr 5 x2422, PVal.sl Mode.fr 4 x2423, PVal.sl Mode.fr 2 x2424])],
    PVal.fn (129 : Nat) [PVal.fptr false (PVal.agg [PVal.str x24300, PVal.sl Mode.fr 2 x24301, PVal.sl Mode.fr 5 x24302, PVal.sl Mode.fr 4 x24303, PVal.sl Mode.fr 2 x24304]), PVal.fptr false (PVal.mapr (0 : Nat))],
    PVal.fn (133 : Nat) [PVal.fptr false (PVal.agg [PVal.str x2440, PVal.sl Mode.fr 2 x2441, PVal.sl Mode.fr 5 x2442, PVal.sl Mode.fr 4 x2443, PVal.sl Mode.fr 2 x2444])],
    PVal.fn (136 : Nat)
    [PVal.fptr false (PVal.agg [PVal.str x24500, PVal.sl Mode.fr 2 x24501, PVal.sl Mode.fr 5 x24502, PVal.sl Mode.fr 4 x24503, PVal.sl Mode.fr 2 x24504]),
    PVal.fptr false (PVal.fn (119 : Nat) [PVal.fptr false (PVal.agg [PVal.str x24510, PVal.sl Mode.fr 2 x24511, PVal.sl Mode.fr 5 x24512, PVal.sl Mode.fr 4 x24513, PVal.sl Mode.fr 2 x24514])])],
    PVal.fn (138 : Nat) [PVal.fptr false (PVal.agg [PVal.str x2460, PVal.sl Mode.fr 2 x2461, PVal.sl Mode.fr 5 x2462, PVal.sl Mode.fr 4 x2463, PVal.sl Mode.fr 2 x2464])],
    PVal.fn (139 : Nat)
    [PVal.fptr false (PVal.agg [PVal.str x24700, PVal.sl Mode.fr 2 x24701, PVal.sl Mode.fr 5 x24702, PVal.sl Mode.fr 4 x24703, PVal.sl Mode.fr 2 x24704]), PVal.fptr false (PVal.mapr (1 : Nat)),
    PVal.fptr false (PVal.fn (119 : Nat) [PVal.fptr false (PVal.agg [PVal.str x24720, PVal.sl Mode.fr 2 x24721, PVal.sl Mode.fr 5 x24722, PVal.sl Mode.fr 4 x24723, PVal.sl Mode.fr 2 x24724])])]],
  eI (1 : Int)] [AObj.mp o0, AObj.mp o1] :=
  r_of (n := 5) h (by kernel_rfl)
theorem r_netlist_CheckNetlist_0_2 (K : PVal → List AObj → Prop) (x2400 : ByteArray) (x2401 : List PVal) (x2402 : List PVal) (x2403 : List PVal) (x2404 : List PVal) (x24100 : ByteArray) (x24101 : List PVal) (x24102 : List PVal) (x24103 : List PVal) (x24104 : List PVal) (x2420 : ByteArray) (x2421 : List PVal) (x2422 : List PVal) (x2423 : List PVal) (x2424 : List PVal) (x24300 : ByteArray) (x24301 : List PVal) (x24302 : List PVal) (x24303 : List PVal) (x24304 : List PVal) (x2440 : ByteArray) (x2441 : List PVal) (x2442 : List PVal) (x2443 : List PVal) (x2444 : List PVal) (x24500 : ByteArray) (x24501 : List PVal) (x24502 : List PVal) (x24503 : List PVal) (x24504 : List PVal) (x24510 : ByteArray) (x24511 : List PVal) (x24512 : List PVal) (x24513 : List PVal) (x24514 : List PVal) (x2460 : ByteArray) (x2461 : List PVal) (x2462 : List PVal) (x2463 : List PVal) (x2464 : List PVal) (x24700 : ByteArray) (x24701 : List PVal) (x24702 : List PVal) (x24703 : List PVal) (x24704 : List PVal) (x24720 : ByteArray) (x24721 : List PVal) (x24722 : List PVal) (x24723 : List PVal) (x24724 : List PVal) (o0 : List (PVal × PVal)) (o1 : List (PVal × PVal))
    (h : ((0 : Int) ≤ (2 : Int) ∧ (2 : Int) < (8 : Int)) ∧
  br (decide (IntKind.i64.wrap ((↑x2421.length : Int) + (↑x2422.length : Int)) ≤ (40 : Int)))
    (L_netlist_CheckNetlist_0 K
    [PVal.agg
    [PVal.fn (121 : Nat) [PVal.fptr false (PVal.agg [PVal.str x2400, PVal.sl Mode.fr 2 x2401, PVal.sl Mode.fr 5 x2402, PVal.sl Mode.fr 4 x2403, PVal.sl Mode.fr 2 x2404])],
    PVal.fn (123 : Nat)
    [PVal.fptr false (PVal.agg [PVal.str x24100, PVal.sl Mode.fr 2 x24101, PVal.sl Mode.fr 5 x24102, PVal.sl Mode.fr 4 x24103, PVal.sl Mode.fr 2 x24104]), PVal.fptr false (PVal.mapr (0 : Nat))],
    PVal.fn (128 : Nat) [PVal.fptr false (PVal.agg [PVal.str x2420, PVal.sl Mode.fr 2 x2421, PVal.sl Mode.fr 5 x2422, PVal.sl Mode.fr 4 x2423, PVal.sl Mode.fr 2 x2424])],
    PVal.fn (129 : Nat)
    [PVal.fptr false (PVal.agg [PVal.str x24300, PVal.sl Mode.fr 2 x24301, PVal.sl Mode.fr 5 x24302, PVal.sl Mode.fr 4 x24303, PVal.sl Mode.fr 2 x24304]), PVal.fptr false (PVal.mapr (0 : Nat))],
    PVal.fn (133 : Nat) [PVal.fptr false (PVal.agg [PVal.str x2440, PVal.sl Mode.fr 2 x2441, PVal.sl Mode.fr 5 x2442, PVal.sl Mode.fr 4 x2443, PVal.sl Mode.fr 2 x2444])],
    PVal.fn (136 : Nat)
    [PVal.fptr false (PVal.agg [PVal.str x24500, PVal.sl Mode.fr 2 x24501, PVal.sl Mode.fr 5 x24502, PVal.sl Mode.fr 4 x24503, PVal.sl Mode.fr 2 x24504]),
    PVal.fptr false (PVal.fn (119 : Nat) [PVal.fptr false (PVal.agg [PVal.str x24510, PVal.sl Mode.fr 2 x24511, PVal.sl Mode.fr 5 x24512, PVal.sl Mode.fr 4 x24513, PVal.sl Mode.fr 2 x24514])])],
    PVal.fn (138 : Nat) [PVal.fptr false (PVal.agg [PVal.str x2460, PVal.sl Mode.fr 2 x2461, PVal.sl Mode.fr 5 x2462, PVal.sl Mode.fr 4 x2463, PVal.sl Mode.fr 2 x2464])],
    PVal.fn (139 : Nat)
    [PVal.fptr false (PVal.agg [PVal.str x24700, PVal.sl Mode.fr 2 x24701, PVal.sl Mode.fr 5 x24702, PVal.sl Mode.fr 4 x24703, PVal.sl Mode.fr 2 x24704]), PVal.fptr false (PVal.mapr (1 : Nat)),
    PVal.fptr false (PVal.fn (119 : Nat) [PVal.fptr false (PVal.agg [PVal.str x24720, PVal.sl Mode.fr 2 x24721, PVal.sl Mode.fr 5 x24722, PVal.sl Mode.fr 4 x24723, PVal.sl Mode.fr 2 x24724])])]],
    eI (3 : Int)]
    [AObj.mp o0, AObj.mp o1])
    (K (PVal.tup [eI (0 : Int), eI (8 : Int)]) [])) :
    L_netlist_CheckNetlist_0 K [PVal.agg
    [PVal.fn (121 : Nat) [PVal.fptr false (PVal.agg [PVal.str x2400, PVal.sl Mode.fr 2 x2401, PVal.sl Mode.fr 5 x2402, PVal.sl Mode.fr 4 x2403, PVal.sl Mode.fr 2 x2404])],
    PVal.fn (123 : Nat) [PVal.fptr false (PVal.agg [PVal.str x24100, PVal.sl Mode.fr 2 x24101, PVal.sl Mode.fr 5 x24102, PVal.sl Mode.fr 4 x24103, PVal.sl Mode.fr 2 x24104]), PVal.fptr false (PVal.mapr (0 : Nat))],
    PVal.fn (128 : Nat) [PVal.fptr false (PVal.agg [PVal.str x2420, PVal.sl Mode.fr 2 x2421, PVal.sl Mode.fr 5 x2422, PVal.sl Mode.fr 4 x2423, PVal.sl Mode.fr 2 x2424])],
    PVal.fn (129 : Nat) [PVal.fptr false (PVal.agg [PVal.str x24300, PVal.sl Mode.fr 2 x24301, PVal.sl Mode.fr 5 x24302, PVal.sl Mode.fr 4 x24303, PVal.sl Mode.fr 2 x24304]), PVal.fptr false (PVal.mapr (0 : Nat))],
    PVal.fn (133 : Nat) [PVal.fptr false (PVal.agg [PVal.str x2440, PVal.sl Mode.fr 2 x2441, PVal.sl Mode.fr 5 x2442, PVal.sl Mode.fr 4 x2443, PVal.sl Mode.fr 2 x2444])],
    PVal.fn (136 : Nat)
    [PVal.fptr false (PVal.agg [PVal.str x24500, PVal.sl Mode.fr 2 x24501, PVal.sl Mode.fr 5 x24502, PVal.sl Mode.fr 4 x24503, PVal.sl Mode.fr 2 x24504]),
    PVal.fptr false (PVal.fn (119 : Nat) [PVal.fptr false (PVal.agg [PVal.str x24510, PVal.sl Mode.fr 2 x24511, PVal.sl Mode.fr 5 x24512, PVal.sl Mode.fr 4 x24513, PVal.sl Mode.fr 2 x24514])])],
    PVal.fn (138 : Nat) [PVal.fptr false (PVal.agg [PVal.str x2460, PVal.sl Mode.fr 2 x2461, PVal.sl Mode.fr 5 x2462, PVal.sl Mode.fr 4 x2463, PVal.sl Mode.fr 2 x2464])],
    PVal.fn (139 : Nat)
    [PVal.fptr false (PVal.agg [PVal.str x24700, PVal.sl Mode.fr 2 x24701, PVal.sl Mode.fr 5 x24702, PVal.sl Mode.fr 4 x24703, PVal.sl Mode.fr 2 x24704]), PVal.fptr false (PVal.mapr (1 : Nat)),
    PVal.fptr false (PVal.fn (119 : Nat) [PVal.fptr false (PVal.agg [PVal.str x24720, PVal.sl Mode.fr 2 x24721, PVal.sl Mode.fr 5 x24722, PVal.sl Mode.fr 4 x24723, PVal.sl Mode.fr 2 x24724])])]],
  eI (2 : Int)] [AObj.mp o0, AObj.mp o1] :=
  r_of (n := 5) h (by kernel_rfl)
theorem r_netlist_CheckNetlist_0_3 (K : PVal → List AObj → Prop) (x2400 : ByteArray) (x2401 : List PVal) (x2402 : List PVal) (x2403 : List PVal) (x2404 : List PVal) (x24100 : ByteArray) (x24101 : List PVal) (x24102 : List PVal) (x24103 : List PVal) (x24104 : List PVal) (x2420 : ByteArray) (x2421 : List PVal) (x2422 : List PVal) (x2423 : List PVal) (x2424 : List PVal) (x24300 : ByteArray) (x24301 : List PVal) (x24302 : List PVal) (x24303 : List PVal) (x24304 : List PVal) (x2440 : ByteArray) (x2441 : List PVal) (x2442 : List PVal) (x2443 : List PVal) (x2444 : List PVal) (x24500 : ByteArray) (x24501 : List PVal) (x24502 : List PVal) (x24503 : List PVal) (x24504 : List PVal) (x24510 : ByteArray) (x24511 : List PVal) (x24512 : List PVal) (x24513 : List PVal) (x24514 : List PVal) (x2460 : ByteArray) (x2461 : List PVal) (x2462 : List PVal) (x2463 : List PVal) (x2464 : List PVal) (x24700 : ByteArray) (x24701 : List PVal) (x24702 : List PVal) (x24703 : List PVal) (x24704 : List PVal) (x24720 : ByteArray) (x24721 : List PVal) (x24722 : List PVal) (x24723 : List PVal) (x24724 : List PVal) (o0 : List (PVal × PVal)) (o1 : List (PVal × PVal))
    (h : ((0 : Int) ≤ (3 : Int) ∧ (3 : Int) < (8 : Int)) ∧
  (sp_netlist_each_api_NetRegister [PVal.sl Mode.fr 5 x24302, PVal.fn (131 : Nat) [PVal.fptr false (PVal.mapr (0 : Nat))]] [AObj.mp o0]).pre ∧
    br (!decide ((namesGo regE Reg.name (mapL [AObj.mp o0] (0 : Nat)) (0 : Nat) (List.map dReg x24302)).snd.fst = (0 : Int)))
    (K (PVal.tup [eI (namesGo regE Reg.name (mapL [AObj.mp o0] (0 : Nat)) (0 : Nat) (List.map dReg x24302)).fst, eI (namesGo regE Reg.name (mapL [AObj.mp o0] (0 : Nat)) (0 : Nat) (List.map dReg x24302)).snd.fst])
    [])
    (L_netlist_CheckNetlist_0 K
    [PVal.agg
    [PVal.fn (121 : Nat) [PVal.fptr false (PVal.agg [PVal.str x2400, PVal.sl Mode.fr 2 x2401, PVal.sl Mode.fr 5 x2402, PVal.sl Mode.fr 4 x2403, PVal.sl Mode.fr 2 x2404])],
    PVal.fn (123 : Nat)
    [PVal.fptr false (PVal.agg [PVal.str x24100, PVal.sl Mode.fr 2 x24101, PVal.sl Mode.fr 5 x24102, PVal.sl Mode.fr 4 x24103, PVal.sl Mode.fr 2 x24104]), PVal.fptr false (PVal.mapr (0 : Nat))],
    PVal.fn (128 : Nat) [PVal.fptr false (PVal.agg [PVal.str x2420, PVal.sl Mode.fr 2 x2421, PVal.sl Mode.fr 5 x2422, PVal.sl Mode.fr 4 x2423, PVal.sl Mode.fr 2 x2424])],
    PVal.fn (129 : Nat)
    [PVal.fptr false (PVal.agg [PVal.str x24300, PVal.sl Mode.fr 2 x24301, PVal.sl Mode.fr 5 x24302, PVal.sl Mode.fr 4 x24303, PVal.sl Mode.fr 2 x24304]), PVal.fptr false (PVal.mapr (0 : Nat))],
    PVal.fn (133 : Nat) [PVal.fptr false (PVal.agg [PVal.str x2440, PVal.sl Mode.fr 2 x2441, PVal.sl Mode.fr 5 x2442, PVal.sl Mode.fr 4 x2443, PVal.sl Mode.fr 2 x2444])],
    PVal.fn (136 : Nat)
    [PVal.fptr false (PVal.agg [PVal.str x24500, PVal.sl Mode.fr 2 x24501, PVal.sl Mode.fr 5 x24502, PVal.sl Mode.fr 4 x24503, PVal.sl Mode.fr 2 x24504]),
    PVal.fptr false (PVal.fn (119 : Nat) [PVal.fptr false (PVal.agg [PVal.str x24510, PVal.sl Mode.fr 2 x24511, PVal.sl Mode.fr 5 x24512, PVal.sl Mode.fr 4 x24513, PVal.sl Mode.fr 2 x24514])])],
    PVal.fn (138 : Nat) [PVal.fptr false (PVal.agg [PVal.str x2460, PVal.sl Mode.fr 2 x2461, PVal.sl Mode.fr 5 x2462, PVal.sl Mode.fr 4 x2463, PVal.sl Mode.fr 2 x2464])],
    PVal.fn (139 : Nat)
    [PVal.fptr false (PVal.agg [PVal.str x24700, PVal.sl Mode.fr 2 x24701, PVal.sl Mode.fr 5 x24702, PVal.sl Mode.fr 4 x24703, PVal.sl Mode.fr 2 x24704]), PVal.fptr false (PVal.mapr (1 : Nat)),
    PVal.fptr false (PVal.fn (119 : Nat) [PVal.fptr false (PVal.agg [PVal.str x24720, PVal.sl Mode.fr 2 x24721, PVal.sl Mode.fr 5 x24722, PVal.sl Mode.fr 4 x24723, PVal.sl Mode.fr 2 x24724])])]],
    eI (4 : Int)]
    [AObj.mp (eM (namesGo regE Reg.name (mapL [AObj.mp o0] (0 : Nat)) (0 : Nat) (List.map dReg x24302)).snd.snd), AObj.mp o1])) :
    L_netlist_CheckNetlist_0 K [PVal.agg
    [PVal.fn (121 : Nat) [PVal.fptr false (PVal.agg [PVal.str x2400, PVal.sl Mode.fr 2 x2401, PVal.sl Mode.fr 5 x2402, PVal.sl Mode.fr 4 x2403, PVal.sl Mode.fr 2 x2404])],
    PVal.fn (123 : Nat) [PVal.fptr false (PVal.agg [PVal.str x24100, PVal.sl Mode.fr 2 x24101, PVal.sl Mode.fr 5 x24102, PVal.sl Mode.fr 4 x24103, PVal.sl Mode.fr 2 x24104]), PVal.fptr false (PVal.mapr (0 : Nat))],
    PVal.fn (128 : Nat) [PVal.fptr false (PVal.agg [PVal.str x2420, PVal.sl Mode.fr 2 x2421, PVal.sl Mode.fr 5 x2422, PVal.sl Mode.fr 4 x2423, PVal.sl Mode.fr 2 x2424])],
    PVal.fn (129 : Nat) [PVal.fptr false (PVal.agg [PVal.str x24300, PVal.sl Mode.fr 2 x24301, PVal.sl Mode.fr 5 x24302, PVal.sl Mode.fr 4 x24303, PVal.sl Mode.fr 2 x24304]), PVal.fptr false (PVal.mapr (0 : Nat))],
    PVal.fn (133 : Nat) [PVal.fptr false (PVal.agg [PVal.str x2440, PVal.sl Mode.fr 2 x2441, PVal.sl Mode.fr 5 x2442, PVal.sl Mode.fr 4 x2443, PVal.sl Mode.fr 2 x2444])],
    PVal.fn (136 : Nat)
    [PVal.fptr false (PVal.agg [PVal.str x24500, PVal.sl Mode.fr 2 x24501, PVal.sl Mode.fr 5 x24502, PVal.sl Mode.fr 4 x24503, PVal.sl Mode.fr 2 x24504]),
    PVal.fptr false (PVal.fn (119 : Nat) [PVal.fptr false (PVal.agg [PVal.str x24510, PVal.sl Mode.fr 2 x24511, PVal.sl Mode.fr 5 x24512, PVal.sl Mode.fr 4 x24513, PVal.sl Mode.fr 2 x24514])])],
    PVal.fn (138 : Nat) [PVal.fptr false (PVal.agg [PVal.str x2460, PVal.sl Mode.fr 2 x2461, PVal.sl Mode.fr 5 x2462, PVal.sl Mode.fr 4 x2463, PVal.sl Mode.fr 2 x2464])],
    PVal.fn (139 : Nat)
    [PVal.fptr false (PVal.agg [PVal.str x24700, PVal.sl Mode.fr 2 x24701, PVal.sl Mode.fr 5 x24702, PVal.sl Mode.fr 4 x24703, PVal.sl Mode.fr 2 x24704]), PVal.fptr false (PVal.mapr (1 : Nat)),
    PVal.fptr false (PVal.fn (119 : Nat) [PVal.fptr false (PVal.agg [PVal.str x24720, PVal.sl Mode.fr 2 x24721, PVal.sl Mode.fr 5 x24722, PVal.sl Mode.fr 4 x24723, PVal.sl Mode.fr 2 x24724])])]],
  eI (3 : Int)] [AObj.mp o0, AObj.mp o1] :=
  r_of (n := 5) h (by kernel_rfl)
theorem r_netlist_CheckNetlist_0_4 (K : PVal → List AObj → Prop) (x2400 : ByteArray) (x2401 : List PVal) (x2402 : List PVal) (x2403 : List PVal) (x2404 : List PVal) (x24100 : ByteArray) (x24101 : List PVal) (x24102 : List PVal) (x24103 : List PVal) (x24104 : List PVal) (x2420 : ByteArray) (x2421 : List PVal) (x2422 : List PVal) (x2423 : List PVal) (x2424 : List PVal) (x24300 : ByteArray) (x24301 : List PVal) (x24302 : List PVal) (x24303 : List PVal) (x24304 : List PVal) (x2440 : ByteArray) (x2441 : List PVal) (x2442 : List PVal) (x2443 : List PVal) (x2444 : List PVal) (x24500 : ByteArray) (x24501 : List PVal) (x24502 : List PVal) (x24503 : List PVal) (x24504 : List PVal) (x24510 : ByteArray) (x24511 : List PVal) (x24512 : List PVal) (x24513 : List PVal) (x24514 : List PVal) (x2460 : ByteArray) (x2461 : List PVal) (x2462 : List PVal) (x2463 : List PVal) (x2464 : List PVal) (x24700 : ByteArray) (x24701 : List PVal) (x24702 : List PVal) (x24703 : List PVal) (x24704 : List PVal) (x24720 : ByteArray) (x24721 : List PVal) (x24722 : List PVal) (x24723 : List PVal) (x24724 : List PVal) (o0 : List (PVal × PVal)) (o1 : List (PVal × PVal))
    (h : ((0 : Int) ≤ (4 : Int) ∧ (4 : Int) < (8 : Int)) ∧
  (sp_netlist_leaves [PVal.agg [PVal.str x2440, PVal.sl Mode.fr 2 x2441, PVal.sl Mode.fr 5 x2442, PVal.sl Mode.fr 4 x2443, PVal.sl Mode.fr 2 x2444]] []).pre ∧
    (sp_graph_CheckNodes
    [PVal.sl Mode.fr 1 (List.map eI (leavesF (dNet (PVal.agg [PVal.str x2440, PVal.sl Mode.fr 2 x2441, PVal.sl Mode.fr 5 x2442, PVal.sl Mode.fr 4 x2443, PVal.sl Mode.fr 2 x2444])))),
    PVal.sl Mode.fr 4 x2443]
    []).pre ∧
    br
    (!decide
    ((checkNodesE
    (dInts (asL (PVal.sl Mode.fr 1 (List.map eI (leavesF (dNet (PVal.agg [PVal.str x2440, PVal.sl Mode.fr 2 x2441, PVal.sl Mode.fr 5 x2442, PVal.sl Mode.fr 4 x2443, PVal.sl Mode.fr 2 x2444])))))))
    (List.map dNode x2443)).snd =
    (0 : Int)))
    (K
    (PVal.tup
    [PVal.int IntKind.i64
    (checkNodesE
    (dInts
    (asL (PVal.sl Mode.fr 1 (List.map eI (leavesF (dNet (PVal.agg [PVal.str x2440, PVal.sl Mode.fr 2 x2441, PVal.sl Mode.fr 5 x2442, PVal.sl Mode.fr 4 x2443, PVal.sl Mode.fr 2 x2444])))))))
    (List.map dNode x2443)).fst,
    PVal.int IntKind.i64
    (checkNodesE
    (dInts
    (asL (PVal.sl Mode.fr 1 (List.map eI (leavesF (dNet (PVal.agg [PVal.str x2440, PVal.sl Mode.fr 2 x2441, PVal.sl Mode.fr 5 x2442, PVal.sl Mode.fr 4 x2443, PVal.sl Mode.fr 2 x2444])))))))
    (List.map dNode x2443)).snd])
    [])
    (L_netlist_CheckNetlist_0 K
    [PVal.agg
    [PVal.fn (121 : Nat) [PVal.fptr false (PVal.agg [PVal.str x2400, PVal.sl Mode.fr 2 x2401, PVal.sl Mode.fr 5 x2402, PVal.sl Mode.fr 4 x2403, PVal.sl Mode.fr 2 x2404])],
    PVal.fn (123 : Nat)
    [PVal.fptr false (PVal.agg [PVal.str x24100, PVal.sl Mode.fr 2 x24101, PVal.sl Mode.fr 5 x24102, PVal.sl Mode.fr 4 x24103, PVal.sl Mode.fr 2 x24104]), PVal.fptr false (PVal.mapr (0 : Nat))],
    PVal.fn (128 : Nat) [PVal.fptr false (PVal.agg [PVal.str x2420, PVal.sl Mode.fr 2 x2421, PVal.sl Mode.fr 5 x2422, PVal.sl Mode.fr 4 x2423, PVal.sl Mode.fr 2 x2424])],
    PVal.fn (129 : Nat)
    [PVal.fptr false (PVal.agg [PVal.str x24300, PVal.sl Mode.fr 2 x24301, PVal.sl Mode.fr 5 x24302, PVal.sl Mode.fr 4 x24303, PVal.sl Mode.fr 2 x24304]), PVal.fptr false (PVal.mapr (0 : Nat))],
    PVal.fn (133 : Nat) [PVal.fptr false (PVal.agg [PVal.str x2440, PVal.sl Mode.fr 2 x2441, PVal.sl Mode.fr 5 x2442, PVal.sl Mode.fr 4 x2443, PVal.sl Mode.fr 2 x2444])],
    PVal.fn (136 : Nat)
    [PVal.fptr false (PVal.agg [PVal.str x24500, PVal.sl Mode.fr 2 x24501, PVal.sl Mode.fr 5 x24502, PVal.sl Mode.fr 4 x24503, PVal.sl Mode.fr 2 x24504]),
    PVal.fptr false (PVal.fn (119 : Nat) [PVal.fptr false (PVal.agg [PVal.str x24510, PVal.sl Mode.fr 2 x24511, PVal.sl Mode.fr 5 x24512, PVal.sl Mode.fr 4 x24513, PVal.sl Mode.fr 2 x24514])])],
    PVal.fn (138 : Nat) [PVal.fptr false (PVal.agg [PVal.str x2460, PVal.sl Mode.fr 2 x2461, PVal.sl Mode.fr 5 x2462, PVal.sl Mode.fr 4 x2463, PVal.sl Mode.fr 2 x2464])],
    PVal.fn (139 : Nat)
    [PVal.fptr false (PVal.agg [PVal.str x24700, PVal.sl Mode.fr 2 x24701, PVal.sl Mode.fr 5 x24702, PVal.sl Mode.fr 4 x24703, PVal.sl Mode.fr 2 x24704]), PVal.fptr false (PVal.mapr (1 : Nat)),
    PVal.fptr false (PVal.fn (119 : Nat) [PVal.fptr false (PVal.agg [PVal.str x24720, PVal.sl Mode.fr 2 x24721, PVal.sl Mode.fr 5 x24722, PVal.sl Mode.fr 4 x24723, PVal.sl Mode.fr 2 x24724])])]],
    eI (5 : Int)]
    [AObj.mp o0, AObj.mp o1])) :
    L_netlist_CheckNetlist_0 K [PVal.agg
    [PVal.fn (121 : Nat) [PVal.fptr false (PVal.agg [PVal.str x2400, PVal.sl Mode.fr 2 x2401, PVal.sl Mode.fr 5 x2402, PVal.sl Mode.fr 4 x2403, PVal.sl Mode.fr 2 x2404])],
    PVal.fn (123 : Nat) [PVal.fptr false (PVal.agg [PVal.str x24100, PVal.sl Mode.fr 2 x24101, PVal.sl Mode.fr 5 x24102, PVal.sl Mode.fr 4 x24103, PVal.sl Mode.fr 2 x24104]), PVal.fptr false (PVal.mapr (0 : Nat))],
    PVal.fn (128 : Nat) [PVal.fptr false (PVal.agg [PVal.str x2420, PVal.sl Mode.fr 2 x2421, PVal.sl Mode.fr 5 x2422, PVal.sl Mode.fr 4 x2423, PVal.sl Mode.fr 2 x2424])],
    PVal.fn (129 : Nat) [PVal.fptr false (PVal.agg [PVal.str x24300, PVal.sl Mode.fr 2 x24301, PVal.sl Mode.fr 5 x24302, PVal.sl Mode.fr 4 x24303, PVal.sl Mode.fr 2 x24304]), PVal.fptr false (PVal.mapr (0 : Nat))],
    PVal.fn (133 : Nat) [PVal.fptr false (PVal.agg [PVal.str x2440, PVal.sl Mode.fr 2 x2441, PVal.sl Mode.fr 5 x2442, PVal.sl Mode.fr 4 x2443, PVal.sl Mode.fr 2 x2444])],
    PVal.fn (136 : Nat)
    [PVal.fptr false (PVal.agg [PVal.str x24500, PVal.sl Mode.fr 2 x24501, PVal.sl Mode.fr 5 x24502, PVal.sl Mode.fr 4 x24503, PVal.sl Mode.fr 2 x24504]),
    PVal.fptr false (PVal.fn (119 : Nat) [PVal.fptr false (PVal.agg [PVal.str x24510, PVal.sl Mode.fr 2 x24511, PVal.sl Mode.fr 5 x24512, PVal.sl Mode.fr 4 x24513, PVal.sl Mode.fr 2 x24514])])],
    PVal.fn (138 : Nat) [PVal.fptr false (PVal.agg [PVal.str x2460, PVal.sl Mode.fr 2 x2461, PVal.sl Mode.fr 5 x2462, PVal.sl Mode.fr 4 x2463, PVal.sl Mode.fr 2 x2464])],
    PVal.fn (139 : Nat)
    [PVal.fptr false (PVal.agg [PVal.str x24700, PVal.sl Mode.fr 2 x24701, PVal.sl Mode.fr 5 x24702, PVal.sl Mode.fr 4 x24703, PVal.sl Mode.fr 2 x24704]), PVal.fptr false (PVal.mapr (1 : Nat)),
    PVal.fptr false (PVal.fn (119 : Nat) [PVal.fptr false (PVal.agg [PVal.str x24720, PVal.sl Mode.fr 2 x24721, PVal.sl Mode.fr 5 x24722, PVal.sl Mode.fr 4 x24723, PVal.sl Mode.fr 2 x24724])])]],
  eI (4 : Int)] [AObj.mp o0, AObj.mp o1] :=
  r_of (n := 5) h (by kernel_rfl)
theorem r_netlist_CheckNetlist_0_5 (K : PVal → List AObj → Prop) (x2400 : ByteArray) (x2401 : List PVal) (x2402 : List PVal) (x2403 : List PVal) (x2404 : List PVal) (x24100 : ByteArray) (x24101 : List PVal) (x24102 : List PVal) (x24103 : List PVal) (x24104 : List PVal) (x2420 : ByteArray) (x2421 : List PVal) (x2422 : List PVal) (x2423 : List PVal) (x2424 : List PVal) (x24300 : ByteArray) (x24301 : List PVal) (x24302 : List PVal) (x24303 : List PVal) (x24304 : List PVal) (x2440 : ByteArray) (x2441 : List PVal) (x2442 : List PVal) (x2443 : List PVal) (x2444 : List PVal) (x24500 : ByteArray) (x24501 : List PVal) (x24502 : List PVal) (x24503 : List PVal) (x24504 : List PVal) (x24510 : ByteArray) (x24511 : List PVal) (x24512 : List PVal) (x24513 : List PVal) (x24514 : List PVal) (x2460 : ByteArray) (x2461 : List PVal) (x2462 : List PVal) (x2463 : List PVal) (x2464 : List PVal) (x24700 : ByteArray) (x24701 : List PVal) (x24702 : List PVal) (x24703 : List PVal) (x24704 : List PVal) (x24720 : ByteArray) (x24721 : List PVal) (x24722 : List PVal) (x24723 : List PVal) (x24724 : List PVal) (o0 : List (PVal × PVal)) (o1 : List (PVal × PVal))
    (h : ((0 : Int) ≤ (5 : Int) ∧ (5 : Int) < (8 : Int)) ∧
  (sp_netlist_each_api_NetRegister
    [PVal.sl Mode.fr 5 x24502,
    PVal.fn (137 : Nat)
    [PVal.fptr false (PVal.fn (119 : Nat) [PVal.fptr false (PVal.agg [PVal.str x24510, PVal.sl Mode.fr 2 x24511, PVal.sl Mode.fr 5 x24512, PVal.sl Mode.fr 4 x24513, PVal.sl Mode.fr 2 x24514])]),
    PVal.fptr false (PVal.agg [PVal.str x24500, PVal.sl Mode.fr 2 x24501, PVal.sl Mode.fr 5 x24502, PVal.sl Mode.fr 4 x24503, PVal.sl Mode.fr 2 x24504])]]
    []).pre ∧
    br
    (!decide
    ((firstE (0 : Nat)
    (List.map
    (regW
    (capNet
    (PVal.fn (137 : Nat)
    [PVal.fptr false (PVal.fn (119 : Nat) [PVal.fptr false (PVal.agg [PVal.str x24510, PVal.sl Mode.fr 2 x24511, PVal.sl Mode.fr 5 x24512, PVal.sl Mode.fr 4 x24513, PVal.sl Mode.fr 2 x24514])]),
    PVal.fptr false (PVal.agg [PVal.str x24500, PVal.sl Mode.fr 2 x24501, PVal.sl Mode.fr 5 x24502, PVal.sl Mode.fr 4 x24503, PVal.sl Mode.fr 2 x24504])])).nodes)
    (List.map dReg x24502))).snd =
    (0 : Int)))
    (K
    (PVal.tup
    [PVal.int IntKind.i64
    (firstE (0 : Nat)
    (List.map
    (regW
    (capNet
    (PVal.fn (137 : Nat)
    [PVal.fptr false (PVal.fn (119 : Nat) [PVal.fptr false (PVal.agg [PVal.str x24510, PVal.sl Mode.fr 2 x24511, PVal.sl Mode.fr 5 x24512, PVal.sl Mode.fr 4 x24513, PVal.sl Mode.fr 2 x24514])]),
    PVal.fptr false (PVal.agg [PVal.str x24500, PVal.sl Mode.fr 2 x24501, PVal.sl Mode.fr 5 x24502, PVal.sl Mode.fr 4 x24503, PVal.sl Mode.fr 2 x24504])])).nodes)
    (List.map dReg x24502))).fst,
    PVal.int IntKind.i64
    (firstE (0 : Nat)
    (List.map
    (regW
    (capNet
    (PVal.fn (137 : Nat)
    [PVal.fptr false (PVal.fn (119 : Nat) [PVal.fptr false (PVal.agg [PVal.str x24510, PVal.sl Mode.fr 2 x24511, PVal.sl Mode.fr 5 x24512, PVal.sl Mode.fr 4 x24513, PVal.sl Mode.fr 2 x24514])]),
    PVal.fptr false (PVal.agg [PVal.str x24500, PVal.sl Mode.fr 2 x24501, PVal.sl Mode.fr 5 x24502, PVal.sl Mode.fr 4 x24503, PVal.sl Mode.fr 2 x24504])])).nodes)
    (List.map dReg x24502))).snd])
    [])
    (L_netlist_CheckNetlist_0 K
    [PVal.agg
    [PVal.fn (121 : Nat) [PVal.fptr false (PVal.agg [PVal.str x2400, PVal.sl Mode.fr 2 x2401, PVal.sl Mode.fr 5 x2402, PVal.sl Mode.fr 4 x2403, PVal.sl Mode.fr 2 x2404])],
    PVal.fn (123 : Nat)
    [PVal.fptr false (PVal.agg [PVal.str x24100, PVal.sl Mode.fr 2 x24101, PVal.sl Mode.fr 5 x24102, PVal.sl Mode.fr 4 x24103, PVal.sl Mode.fr 2 x24104]), PVal.fptr false (PVal.mapr (0 : Nat))],
    PVal.fn (128 : Nat) [PVal.fptr false (PVal.agg [PVal.str x2420, PVal.sl Mode.fr 2 x2421, PVal.sl Mode.fr 5 x2422, PVal.sl Mode.fr 4 x2423, PVal.sl Mode.fr 2 x2424])],
    PVal.fn (129 : Nat)
    [PVal.fptr false (PVal.agg [PVal.str x24300, PVal.sl Mode.fr 2 x24301, PVal.sl Mode.fr 5 x24302, PVal.sl Mode.fr 4 x24303, PVal.sl Mode.fr 2 x24304]), PVal.fptr false (PVal.mapr (0 : Nat))],
    PVal.fn (133 : Nat) [PVal.fptr false (PVal.agg [PVal.str x2440, PVal.sl Mode.fr 2 x2441, PVal.sl Mode.fr 5 x2442, PVal.sl Mode.fr 4 x2443, PVal.sl Mode.fr 2 x2444])],
    PVal.fn (136 : Nat)
    [PVal.fptr false (PVal.agg [PVal.str x24500, PVal.sl Mode.fr 2 x24501, PVal.sl Mode.fr 5 x24502, PVal.sl Mode.fr 4 x24503, PVal.sl Mode.fr 2 x24504]),
    PVal.fptr false (PVal.fn (119 : Nat) [PVal.fptr false (PVal.agg [PVal.str x24510, PVal.sl Mode.fr 2 x24511, PVal.sl Mode.fr 5 x24512, PVal.sl Mode.fr 4 x24513, PVal.sl Mode.fr 2 x24514])])],
    PVal.fn (138 : Nat) [PVal.fptr false (PVal.agg [PVal.str x2460, PVal.sl Mode.fr 2 x2461, PVal.sl Mode.fr 5 x2462, PVal.sl Mode.fr 4 x2463, PVal.sl Mode.fr 2 x2464])],
    PVal.fn (139 : Nat)
    [PVal.fptr false (PVal.agg [PVal.str x24700, PVal.sl Mode.fr 2 x24701, PVal.sl Mode.fr 5 x24702, PVal.sl Mode.fr 4 x24703, PVal.sl Mode.fr 2 x24704]), PVal.fptr false (PVal.mapr (1 : Nat)),
    PVal.fptr false (PVal.fn (119 : Nat) [PVal.fptr false (PVal.agg [PVal.str x24720, PVal.sl Mode.fr 2 x24721, PVal.sl Mode.fr 5 x24722, PVal.sl Mode.fr 4 x24723, PVal.sl Mode.fr 2 x24724])])]],
    eI (6 : Int)]
    [AObj.mp o0, AObj.mp o1])) :
    L_netlist_CheckNetlist_0 K [PVal.agg
    [PVal.fn (121 : Nat) [PVal.fptr false (PVal.agg [PVal.str x2400, PVal.sl Mode.fr 2 x2401, PVal.sl Mode.fr 5 x2402, PVal.sl Mode.fr 4 x2403, PVal.sl Mode.fr 2 x2404])],
    PVal.fn (123 : Nat) [PVal.fptr false (PVal.agg [PVal.str x24100, PVal.sl Mode.fr 2 x24101, PVal.sl Mode.fr 5 x24102, PVal.sl Mode.fr 4 x24103, PVal.sl Mode.fr 2 x24104]), PVal.fptr false (PVal.mapr (0 : Nat))],
    PVal.fn (128 : Nat) [PVal.fptr false (PVal.agg [PVal.str x2420, PVal.sl Mode.fr 2 x2421, PVal.sl Mode.fr 5 x2422, PVal.sl Mode.fr 4 x2423, PVal.sl Mode.fr 2 x2424])],
    PVal.fn (129 : Nat) [PVal.fptr false (PVal.agg [PVal.str x24300, PVal.sl Mode.fr 2 x24301, PVal.sl Mode.fr 5 x24302, PVal.sl Mode.fr 4 x24303, PVal.sl Mode.fr 2 x24304]), PVal.fptr false (PVal.mapr (0 : Nat))],
    PVal.fn (133 : Nat) [PVal.fptr false (PVal.agg [PVal.str x2440, PVal.sl Mode.fr 2 x2441, PVal.sl Mode.fr 5 x2442, PVal.sl Mode.fr 4 x2443, PVal.sl Mode.fr 2 x2444])],
    PVal.fn (136 : Nat)
    [PVal.fptr false (PVal.agg [PVal.str x24500, PVal.sl Mode.fr 2 x24501, PVal.sl Mode.fr 5 x24502, PVal.sl Mode.fr 4 x24503, PVal.sl Mode.fr 2 x24504]),
    PVal.fptr false (PVal.fn (119 : Nat) [PVal.fptr false (PVal.agg [PVal.str x24510, PVal.sl Mode.fr 2 x24511, PVal.sl Mode.fr 5 x24512, PVal.sl Mode.fr 4 x24513, PVal.sl Mode.fr 2 x24514])])],
    PVal.fn (138 : Nat) [PVal.fptr false (PVal.agg [PVal.str x2460, PVal.sl Mode.fr 2 x2461, PVal.sl Mode.fr 5 x2462, PVal.sl Mode.fr 4 x2463, PVal.sl Mode.fr 2 x2464])],
    PVal.fn (139 : Nat)
    [PVal.fptr false (PVal.agg [PVal.str x24700, PVal.sl Mode.fr 2 x24701, PVal.sl Mode.fr 5 x24702, PVal.sl Mode.fr 4 x24703, PVal.sl Mode.fr 2 x24704]), PVal.fptr false (PVal.mapr (1 : Nat)),
    PVal.fptr false (PVal.fn (119 : Nat) [PVal.fptr false (PVal.agg [PVal.str x24720, PVal.sl Mode.fr 2 x24721, PVal.sl Mode.fr 5 x24722, PVal.sl Mode.fr 4 x24723, PVal.sl Mode.fr 2 x24724])])]],
  eI (5 : Int)] [AObj.mp o0, AObj.mp o1] :=
  r_of (n := 5) h (by kernel_rfl)
theorem r_netlist_CheckNetlist_0_6 (K : PVal → List AObj → Prop) (x2400 : ByteArray) (x2401 : List PVal) (x2402 : List PVal) (x2403 : List PVal) (x2404 : List PVal) (x24100 : ByteArray) (x24101 : List PVal) (x24102 : List PVal) (x24103 : List PVal) (x24104 : List PVal) (x2420 : ByteArray) (x2421 : List PVal) (x2422 : List PVal) (x2423 : List PVal) (x2424 : List PVal) (x24300 : ByteArray) (x24301 : List PVal) (x24302 : List PVal) (x24303 : List PVal) (x24304 : List PVal) (x2440 : ByteArray) (x2441 : List PVal) (x2442 : List PVal) (x2443 : List PVal) (x2444 : List PVal) (x24500 : ByteArray) (x24501 : List PVal) (x24502 : List PVal) (x24503 : List PVal) (x24504 : List PVal) (x24510 : ByteArray) (x24511 : List PVal) (x24512 : List PVal) (x24513 : List PVal) (x24514 : List PVal) (x2460 : ByteArray) (x2461 : List PVal) (x2462 : List PVal) (x2463 : List PVal) (x2464 : List PVal) (x24700 : ByteArray) (x24701 : List PVal) (x24702 : List PVal) (x24703 : List PVal) (x24704 : List PVal) (x24720 : ByteArray) (x24721 : List PVal) (x24722 : List PVal) (x24723 : List PVal) (x24724 : List PVal) (o0 : List (PVal × PVal)) (o1 : List (PVal × PVal))
    (h : ((0 : Int) ≤ (6 : Int) ∧ (6 : Int) < (8 : Int)) ∧
  br (decide ((↑x2464.length : Int) ≤ (12 : Int)))
    (L_netlist_CheckNetlist_0 K
    [PVal.agg
    [PVal.fn (121 : Nat) [PVal.fptr false (PVal.agg [PVal.str x2400, PVal.sl Mode.fr 2 x2401, PVal.sl Mode.fr 5 x2402, PVal.sl Mode.fr 4 x2403, PVal.sl Mode.fr 2 x2404])],
    PVal.fn (123 : Nat)
    [PVal.fptr false (PVal.agg [PVal.str x24100, PVal.sl Mode.fr 2 x24101, PVal.sl Mode.fr 5 x24102, PVal.sl Mode.fr 4 x24103, PVal.sl Mode.fr 2 x24104]), PVal.fptr false (PVal.mapr (0 : Nat))],
    PVal.fn (128 : Nat) [PVal.fptr false (PVal.agg [PVal.str x2420, PVal.sl Mode.fr 2 x2421, PVal.sl Mode.fr 5 x2422, PVal.sl Mode.fr 4 x2423, PVal.sl Mode.fr 2 x2424])],
    PVal.fn (129 : Nat)
    [PVal.fptr false (PVal.agg [PVal.str x24300, PVal.sl Mode.fr 2 x24301, PVal.sl Mode.fr 5 x24302, PVal.sl Mode.fr 4 x24303, PVal.sl Mode.fr 2 x24304]), PVal.fptr false (PVal.mapr (0 : Nat))],
    PVal.fn (133 : Nat) [PVal.fptr false (PVal.agg [PVal.str x2440, PVal.sl Mode.fr 2 x2441, PVal.sl Mode.fr 5 x2442, PVal.sl Mode.fr 4 x2443, PVal.sl Mode.fr 2 x2444])],
    PVal.fn (136 : Nat)
    [PVal.fptr false (PVal.agg [PVal.str x24500, PVal.sl Mode.fr 2 x24501, PVal.sl Mode.fr 5 x24502, PVal.sl Mode.fr 4 x24503, PVal.sl Mode.fr 2 x24504]),
    PVal.fptr false (PVal.fn (119 : Nat) [PVal.fptr false (PVal.agg [PVal.str x24510, PVal.sl Mode.fr 2 x24511, PVal.sl Mode.fr 5 x24512, PVal.sl Mode.fr 4 x24513, PVal.sl Mode.fr 2 x24514])])],
    PVal.fn (138 : Nat) [PVal.fptr false (PVal.agg [PVal.str x2460, PVal.sl Mode.fr 2 x2461, PVal.sl Mode.fr 5 x2462, PVal.sl Mode.fr 4 x2463, PVal.sl Mode.fr 2 x2464])],
    PVal.fn (139 : Nat)
    [PVal.fptr false (PVal.agg [PVal.str x24700, PVal.sl Mode.fr 2 x24701, PVal.sl Mode.fr 5 x24702, PVal.sl Mode.fr 4 x24703, PVal.sl Mode.fr 2 x24704]), PVal.fptr false (PVal.mapr (1 : Nat)),
    PVal.fptr false (PVal.fn (119 : Nat) [PVal.fptr false (PVal.agg [PVal.str x24720, PVal.sl Mode.fr 2 x24721, PVal.sl Mode.fr 5 x24722, PVal.sl Mode.fr 4 x24723, PVal.sl Mode.fr 2 x24724])])]],
    eI (7 : Int)]
    [AObj.mp o0, AObj.mp o1])
    (K (PVal.tup [eI (0 : Int), eI (8 : Int)]) [])) :
    L_netlist_CheckNetlist_0 K [PVal.agg
    [PVal.fn (121 : Nat) [PVal.fptr false (PVal.agg [PVal.str x2400, PVal.sl Mode.fr 2 x2401, PVal.sl Mode.fr 5 x2402, PVal.sl Mode.fr 4 x2403, PVal.sl Mode.fr 2 x2404])],
    PVal.fn (123 : Nat) [PVal.fptr false (PVal.agg [PVal.str x24100, PVal.sl Mode.fr 2 x24101, PVal.sl Mode.fr 5 x24102, PVal.sl Mode.fr 4 x24103, PVal.sl Mode.fr 2 x24104]), PVal.fptr false (PVal.mapr (0 : Nat))],
    PVal.fn (128 : Nat) [PVal.fptr false (PVal.agg [PVal.str x2420, PVal.sl Mode.fr 2 x2421, PVal.sl Mode.fr 5 x2422, PVal.sl Mode.fr 4 x2423, PVal.sl Mode.fr 2 x2424])],
    PVal.fn (129 : Nat) [PVal.fptr false (PVal.agg [PVal.str x24300, PVal.sl Mode.fr 2 x24301, PVal.sl Mode.fr 5 x24302, PVal.sl Mode.fr 4 x24303, PVal.sl Mode.fr 2 x24304]), PVal.fptr false (PVal.mapr (0 : Nat))],
    PVal.fn (133 : Nat) [PVal.fptr false (PVal.agg [PVal.str x2440, PVal.sl Mode.fr 2 x2441, PVal.sl Mode.fr 5 x2442, PVal.sl Mode.fr 4 x2443, PVal.sl Mode.fr 2 x2444])],
    PVal.fn (136 : Nat)
    [PVal.fptr false (PVal.agg [PVal.str x24500, PVal.sl Mode.fr 2 x24501, PVal.sl Mode.fr 5 x24502, PVal.sl Mode.fr 4 x24503, PVal.sl Mode.fr 2 x24504]),
    PVal.fptr false (PVal.fn (119 : Nat) [PVal.fptr false (PVal.agg [PVal.str x24510, PVal.sl Mode.fr 2 x24511, PVal.sl Mode.fr 5 x24512, PVal.sl Mode.fr 4 x24513, PVal.sl Mode.fr 2 x24514])])],
    PVal.fn (138 : Nat) [PVal.fptr false (PVal.agg [PVal.str x2460, PVal.sl Mode.fr 2 x2461, PVal.sl Mode.fr 5 x2462, PVal.sl Mode.fr 4 x2463, PVal.sl Mode.fr 2 x2464])],
    PVal.fn (139 : Nat)
    [PVal.fptr false (PVal.agg [PVal.str x24700, PVal.sl Mode.fr 2 x24701, PVal.sl Mode.fr 5 x24702, PVal.sl Mode.fr 4 x24703, PVal.sl Mode.fr 2 x24704]), PVal.fptr false (PVal.mapr (1 : Nat)),
    PVal.fptr false (PVal.fn (119 : Nat) [PVal.fptr false (PVal.agg [PVal.str x24720, PVal.sl Mode.fr 2 x24721, PVal.sl Mode.fr 5 x24722, PVal.sl Mode.fr 4 x24723, PVal.sl Mode.fr 2 x24724])])]],
  eI (6 : Int)] [AObj.mp o0, AObj.mp o1] :=
  r_of (n := 5) h (by kernel_rfl)
theorem r_netlist_CheckNetlist_0_7 (K : PVal → List AObj → Prop) (x2400 : ByteArray) (x2401 : List PVal) (x2402 : List PVal) (x2403 : List PVal) (x2404 : List PVal) (x24100 : ByteArray) (x24101 : List PVal) (x24102 : List PVal) (x24103 : List PVal) (x24104 : List PVal) (x2420 : ByteArray) (x2421 : List PVal) (x2422 : List PVal) (x2423 : List PVal) (x2424 : List PVal) (x24300 : ByteArray) (x24301 : List PVal) (x24302 : List PVal) (x24303 : List PVal) (x24304 : List PVal) (x2440 : ByteArray) (x2441 : List PVal) (x2442 : List PVal) (x2443 : List PVal) (x2444 : List PVal) (x24500 : ByteArray) (x24501 : List PVal) (x24502 : List PVal) (x24503 : List PVal) (x24504 : List PVal) (x24510 : ByteArray) (x24511 : List PVal) (x24512 : List PVal) (x24513 : List PVal) (x24514 : List PVal) (x2460 : ByteArray) (x2461 : List PVal) (x2462 : List PVal) (x2463 : List PVal) (x2464 : List PVal) (x24700 : ByteArray) (x24701 : List PVal) (x24702 : List PVal) (x24703 : List PVal) (x24704 : List PVal) (x24720 : ByteArray) (x24721 : List PVal) (x24722 : List PVal) (x24723 : List PVal) (x24724 : List PVal) (o0 : List (PVal × PVal)) (o1 : List (PVal × PVal))
    (h : ((0 : Int) ≤ (7 : Int) ∧ (7 : Int) < (8 : Int)) ∧
  (sp_netlist_each_api_Output
    [PVal.sl Mode.fr 2 x24704,
    PVal.fn (141 : Nat)
    [PVal.fptr false (PVal.mapr (0 : Nat)),
    PVal.fptr false (PVal.fn (119 : Nat) [PVal.fptr false (PVal.agg [PVal.str x24720, PVal.sl Mode.fr 2 x24721, PVal.sl Mode.fr 5 x24722, PVal.sl Mode.fr 4 x24723, PVal.sl Mode.fr 2 x24724])])]]
    [AObj.mp o1]).pre ∧
    br
    (!decide
    ((namesGo
    (outE
    (capNet
    (PVal.fn (141 : Nat)
    [PVal.fptr false (PVal.mapr (0 : Nat)),
    PVal.fptr false
    (PVal.fn (119 : Nat) [PVal.fptr false (PVal.agg [PVal.str x24720, PVal.sl Mode.fr 2 x24721, PVal.sl Mode.fr 5 x24722, PVal.sl Mode.fr 4 x24723, PVal.sl Mode.fr 2 x24724])])])).nodes)
    Outp.name (mapL [AObj.mp o1] (0 : Nat)) (0 : Nat) (List.map dOutp x24704)).snd.fst =
    (0 : Int)))
    (K
    (PVal.tup
    [PVal.int IntKind.i64
    (namesGo
    (outE
    (capNet
    (PVal.fn (141 : Nat)
    [PVal.fptr false (PVal.mapr (0 : Nat)),
    PVal.fptr false
    (PVal.fn (119 : Nat) [PVal.fptr false (PVal.agg [PVal.str x24720, PVal.sl Mode.fr 2 x24721, PVal.sl Mode.fr 5 x24722, PVal.sl Mode.fr 4 x24723, PVal.sl Mode.fr 2 x24724])])])).nodes)
    Outp.name (mapL [AObj.mp o1] (0 : Nat)) (0 : Nat) (List.map dOutp x24704)).fst,
    PVal.int IntKind.i64
    (namesGo
    (outE
    (capNet
    (PVal.fn (141 : Nat)
    [PVal.fptr false (PVal.mapr (0 : Nat)),
    PVal.fptr false
    (PVal.fn (119 : Nat) [PVal.fptr false (PVal.agg [PVal.str x24720, PVal.sl Mode.fr 2 x24721, PVal.sl Mode.fr 5 x24722, PVal.sl Mode.fr 4 x24723, PVal.sl Mode.fr 2 x24724])])])).nodes)
    Outp.name (mapL [AObj.mp o1] (0 : Nat)) (0 : Nat) (List.map dOutp x24704)).snd.fst])
    [])
    (L_netlist_CheckNetlist_0 K
    [PVal.agg
    [PVal.fn (121 : Nat) [PVal.fptr false (PVal.agg [PVal.str x2400, PVal.sl Mode.fr 2 x2401, PVal.sl Mode.fr 5 x2402, PVal.sl Mode.fr 4 x2403, PVal.sl Mode.fr 2 x2404])],
    PVal.fn (123 : Nat)
    [PVal.fptr false (PVal.agg [PVal.str x24100, PVal.sl Mode.fr 2 x24101, PVal.sl Mode.fr 5 x24102, PVal.sl Mode.fr 4 x24103, PVal.sl Mode.fr 2 x24104]), PVal.fptr false (PVal.mapr (0 : Nat))],
    PVal.fn (128 : Nat) [PVal.fptr false (PVal.agg [PVal.str x2420, PVal.sl Mode.fr 2 x2421, PVal.sl Mode.fr 5 x2422, PVal.sl Mode.fr 4 x2423, PVal.sl Mode.fr 2 x2424])],
    PVal.fn (129 : Nat)
    [PVal.fptr false (PVal.agg [PVal.str x24300, PVal.sl Mode.fr 2 x24301, PVal.sl Mode.fr 5 x24302, PVal.sl Mode.fr 4 x24303, PVal.sl Mode.fr 2 x24304]), PVal.fptr false (PVal.mapr (0 : Nat))],
    PVal.fn (133 : Nat) [PVal.fptr false (PVal.agg [PVal.str x2440, PVal.sl Mode.fr 2 x2441, PVal.sl Mode.fr 5 x2442, PVal.sl Mode.fr 4 x2443, PVal.sl Mode.fr 2 x2444])],
    PVal.fn (136 : Nat)
    [PVal.fptr false (PVal.agg [PVal.str x24500, PVal.sl Mode.fr 2 x24501, PVal.sl Mode.fr 5 x24502, PVal.sl Mode.fr 4 x24503, PVal.sl Mode.fr 2 x24504]),
    PVal.fptr false (PVal.fn (119 : Nat) [PVal.fptr false (PVal.agg [PVal.str x24510, PVal.sl Mode.fr 2 x24511, PVal.sl Mode.fr 5 x24512, PVal.sl Mode.fr 4 x24513, PVal.sl Mode.fr 2 x24514])])],
    PVal.fn (138 : Nat) [PVal.fptr false (PVal.agg [PVal.str x2460, PVal.sl Mode.fr 2 x2461, PVal.sl Mode.fr 5 x2462, PVal.sl Mode.fr 4 x2463, PVal.sl Mode.fr 2 x2464])],
    PVal.fn (139 : Nat)
    [PVal.fptr false (PVal.agg [PVal.str x24700, PVal.sl Mode.fr 2 x24701, PVal.sl Mode.fr 5 x24702, PVal.sl Mode.fr 4 x24703, PVal.sl Mode.fr 2 x24704]), PVal.fptr false (PVal.mapr (1 : Nat)),
    PVal.fptr false (PVal.fn (119 : Nat) [PVal.fptr false (PVal.agg [PVal.str x24720, PVal.sl Mode.fr 2 x24721, PVal.sl Mode.fr 5 x24722, PVal.sl Mode.fr 4 x24723, PVal.sl Mode.fr 2 x24724])])]],
    eI (8 : Int)]
    [AObj.mp o0,
    AObj.mp
    (eM
    (namesGo
    (outE
    (capNet
    (PVal.fn (141 : Nat)
    [PVal.fptr false (PVal.mapr (0 : Nat)),
    PVal.fptr false
    (PVal.fn (119 : Nat) [PVal.fptr false (PVal.agg [PVal.str x24720, PVal.sl Mode.fr 2 x24721, PVal.sl Mode.fr 5 x24722, PVal.sl Mode.fr 4 x24723, PVal.sl Mode.fr 2 x24724])])])).nodes)
    Outp.name (mapL [AObj.mp o1] (0 : Nat)) (0 : Nat) (List.map dOutp x24704)).snd.snd)])) :
    L_netlist_CheckNetlist_0 K [PVal.agg
    [PVal.fn (121 : Nat) [PVal.fptr false (PVal.agg [PVal.str x2400, PVal.sl Mode.fr 2 x2401, PVal.sl Mode.fr 5 x2402, PVal.sl Mode.fr 4 x2403, PVal.sl Mode.fr 2 x2404])],
    PVal.fn (123 : Nat) [PVal.fptr false (PVal.agg [PVal.str x24100, PVal.sl Mode.fr 2 x24101, PVal.sl Mode.fr 5 x24102, PVal.sl Mode.fr 4 x24103, PVal.sl Mode.fr 2 x24104]), PVal.fptr false (PVal.mapr (0 : Nat))],
    PVal.fn (128 : Nat) [PVal.fptr false (PVal.agg [PVal.str x2420, PVal.sl Mode.fr 2 x2421, PVal.sl Mode.fr 5 x2422, PVal.sl Mode.fr 4 x2423, PVal.sl Mode.fr 2 x2424])],
    PVal.fn (129 : Nat) [PVal.fptr false (PVal.agg [PVal.str x24300, PVal.sl Mode.fr 2 x24301, PVal.sl Mode.fr 5 x24302, PVal.sl Mode.fr 4 x24303, PVal.sl Mode.fr 2 x24304]), PVal.fptr false (PVal.mapr (0 : Nat))],
    PVal.fn (133 : Nat) [PVal.fptr false (PVal.agg [PVal.str x2440, PVal.sl Mode.fr 2 x2441, PVal.sl Mode.fr 5 x2442, PVal.sl Mode.fr 4 x2443, PVal.sl Mode.fr 2 x2444])],
    PVal.fn (136 : Nat)
    [PVal.fptr false (PVal.agg [PVal.str x24500, PVal.sl Mode.fr 2 x24501, PVal.sl Mode.fr 5 x24502, PVal.sl Mode.fr 4 x24503, PVal.sl Mode.fr 2 x24504]),
    PVal.fptr false (PVal.fn (119 : Nat) [PVal.fptr false (PVal.agg [PVal.str x24510, PVal.sl Mode.fr 2 x24511, PVal.sl Mode.fr 5 x24512, PVal.sl Mode.fr 4 x24513, PVal.sl Mode.fr 2 x24514])])],
    PVal.fn (138 : Nat) [PVal.fptr false (PVal.agg [PVal.str x2460, PVal.sl Mode.fr 2 x2461, PVal.sl Mode.fr 5 x2462, PVal.sl Mode.fr 4 x2463, PVal.sl Mode.fr 2 x2464])],
    PVal.fn (139 : Nat)
    [PVal.fptr false (PVal.agg [PVal.str x24700, PVal.sl Mode.fr 2 x24701, PVal.sl Mode.fr 5 x24702, PVal.sl Mode.fr 4 x24703, PVal.sl Mode.fr 2 x24704]), PVal.fptr false (PVal.mapr (1 : Nat)),
    PVal.fptr false (PVal.fn (119 : Nat) [PVal.fptr false (PVal.agg [PVal.str x24720, PVal.sl Mode.fr 2 x24721, PVal.sl Mode.fr 5 x24722, PVal.sl Mode.fr 4 x24723, PVal.sl Mode.fr 2 x24724])])]],
  eI (7 : Int)] [AObj.mp o0, AObj.mp o1] :=
  r_of (n := 5) h (by kernel_rfl)
theorem r_netlist_CheckNetlist_0_8 (K : PVal → List AObj → Prop) (x2400 : ByteArray) (x2401 : List PVal) (x2402 : List PVal) (x2403 : List PVal) (x2404 : List PVal) (x24100 : ByteArray) (x24101 : List PVal) (x24102 : List PVal) (x24103 : List PVal) (x24104 : List PVal) (x2420 : ByteArray) (x2421 : List PVal) (x2422 : List PVal) (x2423 : List PVal) (x2424 : List PVal) (x24300 : ByteArray) (x24301 : List PVal) (x24302 : List PVal) (x24303 : List PVal) (x24304 : List PVal) (x2440 : ByteArray) (x2441 : List PVal) (x2442 : List PVal) (x2443 : List PVal) (x2444 : List PVal) (x24500 : ByteArray) (x24501 : List PVal) (x24502 : List PVal) (x24503 : List PVal) (x24504 : List PVal) (x24510 : ByteArray) (x24511 : List PVal) (x24512 : List PVal) (x24513 : List PVal) (x24514 : List PVal) (x2460 : ByteArray) (x2461 : List PVal) (x2462 : List PVal) (x2463 : List PVal) (x2464 : List PVal) (x24700 : ByteArray) (x24701 : List PVal) (x24702 : List PVal) (x24703 : List PVal) (x24704 : List PVal) (x24720 : ByteArray) (x24721 : List PVal) (x24722 : List PVal) (x24723 : List PVal) (x24724 : List PVal) (o0 : List (PVal × PVal)) (o1 : List (PVal × PVal))
    (h : K (PVal.tup [eI (0 : Int), eI (0 : Int)]) []) :
    L_netlist_CheckNetlist_0 K [PVal.agg
    [PVal.fn (121 : Nat) [PVal.fptr false (PVal.agg [PVal.str x2400, PVal.sl Mode.fr 2 x2401, PVal.sl Mode.fr 5 x2402, PVal.sl Mode.fr 4 x2403, PVal.sl Mode.fr 2 x2404])],
    PVal.fn (123 : Nat) [PVal.fptr false (PVal.agg [PVal.str x24100, PVal.sl Mode.fr 2 x24101, PVal.sl Mode.fr 5 x24102, PVal.sl Mode.fr 4 x24103, PVal.sl Mode.fr 2 x24104]), PVal.fptr false (PVal.mapr (0 : Nat))],
    PVal.fn (128 : Nat) [PVal.fptr false (PVal.agg [PVal.str x2420, PVal.sl Mode.fr 2 x2421, PVal.sl Mode.fr 5 x2422, PVal.sl Mode.fr 4 x2423, PVal.sl Mode.fr 2 x2424])],
    PVal.fn (129 : Nat) [PVal.fptr false (PVal.agg [PVal.str x24300, PVal.sl Mode.fr 2 x24301, PVal.sl Mode.fr 5 x24302, PVal.sl Mode.fr 4 x24303, PVal.sl Mode.fr 2 x24304]), PVal.fptr false (PVal.mapr (0 : Nat))],
    PVal.fn (133 : Nat) [PVal.fptr false (PVal.agg [PVal.str x2440, PVal.sl Mode.fr 2 x2441, PVal.sl Mode.fr 5 x2442, PVal.sl Mode.fr 4 x2443, PVal.sl Mode.fr 2 x2444])],
    PVal.fn (136 : Nat)
    [PVal.fptr false (PVal.agg [PVal.str x24500, PVal.sl Mode.fr 2 x24501, PVal.sl Mode.fr 5 x24502, PVal.sl Mode.fr 4 x24503, PVal.sl Mode.fr 2 x24504]),
    PVal.fptr false (PVal.fn (119 : Nat) [PVal.fptr false (PVal.agg [PVal.str x24510, PVal.sl Mode.fr 2 x24511, PVal.sl Mode.fr 5 x24512, PVal.sl Mode.fr 4 x24513, PVal.sl Mode.fr 2 x24514])])],
    PVal.fn (138 : Nat) [PVal.fptr false (PVal.agg [PVal.str x2460, PVal.sl Mode.fr 2 x2461, PVal.sl Mode.fr 5 x2462, PVal.sl Mode.fr 4 x2463, PVal.sl Mode.fr 2 x2464])],
    PVal.fn (139 : Nat)
    [PVal.fptr false (PVal.agg [PVal.str x24700, PVal.sl Mode.fr 2 x24701, PVal.sl Mode.fr 5 x24702, PVal.sl Mode.fr 4 x24703, PVal.sl Mode.fr 2 x24704]), PVal.fptr false (PVal.mapr (1 : Nat)),
    PVal.fptr false (PVal.fn (119 : Nat) [PVal.fptr false (PVal.agg [PVal.str x24720, PVal.sl Mode.fr 2 x24721, PVal.sl Mode.fr 5 x24722, PVal.sl Mode.fr 4 x24723, PVal.sl Mode.fr 2 x24724])])]],
  eI (8 : Int)] [AObj.mp o0, AObj.mp o1] :=
  r_of (n := 5) h (by kernel_rfl)
def L_retime_net_period_0 (K : PVal → List AObj → Prop) (vs : List PVal) (os : List AObj) : Prop := LoopP env4 0 51 0 (cd env4 51 [1, 1, 1, 0, 1, 0, 0]) vs os (kat env4 5 0 51 [1, 1, 1, 0, 1, 0] K [])
theorem e_retime_net_period (K : PVal → List AObj → Prop) (n'NetlistName : ByteArray) (n'NetlistInputs : List PVal) (n'NetlistRegisters : List PVal) (n'NetlistNodes : List PVal) (n'NetlistOutputs : List PVal) (delays' : List PVal)
    (h : (sp_retime_net_arrivals
    [PVal.agg [PVal.str n'NetlistName, PVal.sl Mode.fr 2 n'NetlistInputs, PVal.sl Mode.fr 5 n'NetlistRegisters, PVal.sl Mode.fr 4 n'NetlistNodes, PVal.sl Mode.fr 2 n'NetlistOutputs],
    PVal.sl Mode.fr 1 delays']
    []).pre ∧
  (sp_retime_net_ends [PVal.agg [PVal.str n'NetlistName, PVal.sl Mode.fr 2 n'NetlistInputs, PVal.sl Mode.fr 5 n'NetlistRegisters, PVal.sl Mode.fr 4 n'NetlistNodes, PVal.sl Mode.fr 2 n'NetlistOutputs]] []).pre ∧
    L_retime_net_period_0 K
    [PVal.sl Mode.fr 1
    (List.map eI
    (arrF (dInts delays')
    (dNet (PVal.agg [PVal.str n'NetlistName, PVal.sl Mode.fr 2 n'NetlistInputs, PVal.sl Mode.fr 5 n'NetlistRegisters, PVal.sl Mode.fr 4 n'NetlistNodes, PVal.sl Mode.fr 2 n'NetlistOutputs])).nodes [])),
    eI (0 : Int),
    PVal.sl Mode.fr 1
    (List.map eI
    (compI
    (sortI
    (namedF (dNet (PVal.agg [PVal.str n'NetlistName, PVal.sl Mode.fr 2 n'NetlistInputs, PVal.sl Mode.fr 5 n'NetlistRegisters, PVal.sl Mode.fr 4 n'NetlistNodes, PVal.sl Mode.fr 2 n'NetlistOutputs])))))),
    PVal.int IntKind.i64
    (↑(List.map eI
    (compI
    (sortI
    (namedF
    (dNet
    (PVal.agg [PVal.str n'NetlistName, PVal.sl Mode.fr 2 n'NetlistInputs, PVal.sl Mode.fr 5 n'NetlistRegisters, PVal.sl Mode.fr 4 n'NetlistNodes, PVal.sl Mode.fr 2 n'NetlistOutputs])))))).length :
    Int),
    eI (0 : Int)]
    []) :
    CallP env4 51 [PVal.agg [PVal.str n'NetlistName, PVal.sl Mode.fr 2 n'NetlistInputs, PVal.sl Mode.fr 5 n'NetlistRegisters, PVal.sl Mode.fr 4 n'NetlistNodes, PVal.sl Mode.fr 2 n'NetlistOutputs], PVal.sl Mode.fr 1 delays'] [] K :=
  e_of (n := 6) h (by kernel_rfl)
theorem r_retime_net_period_0 (K : PVal → List AObj → Prop) (l' : List PVal) (most' : Int) (x13 : List PVal) (x14 : Int) (x15 : Int)
    (h : br (decide (x15 < x14))
  ((((0 : Int) ≤ x15 ∧ x15 < (↑x13.length : Int)) ∧ getP x13 x15.toNat = eI (asI (getP x13 x15.toNat))) ∧
    (((0 : Int) ≤ asI (getP x13 x15.toNat) ∧ asI (getP x13 x15.toNat) < (↑l'.length : Int)) ∧ getP l' (asI (getP x13 x15.toNat)).toNat = eI (asI (getP l' (asI (getP x13 x15.toNat)).toNat))) ∧
    L_retime_net_period_0 K
    [PVal.sl Mode.fr 1 l', eI (if asI (getP l' (asI (getP x13 x15.toNat)).toNat) > most' then asI (getP l' (asI (getP x13 x15.toNat)).toNat) else most'), PVal.sl Mode.fr 1 x13, eI x14,
    eI (IntKind.i64.wrap (x15 + (1 : Int)))]
    [])
  (K (eI most') [])) :
    L_retime_net_period_0 K [PVal.sl Mode.fr 1 l', eI most', PVal.sl Mode.fr 1 x13, eI x14, eI x15] [] :=
  r_of (n := 5) h (by kernel_rfl)
end Go.Pvm.Seat
set_option maxHeartbeats 1000000
namespace Go.Pvm.Seat
open Go
abbrev CH (n : Net) : PVal := .agg [.fn F_netlist_CheckNetlist_c2 [.fptr false (eNet n)], .fn F_netlist_CheckNetlist_c3 [.fptr false (eNet n), .fptr false (.mapr 0)], .fn F_netlist_CheckNetlist_c4 [.fptr false (eNet n)],
  .fn F_netlist_CheckNetlist_c5 [.fptr false (eNet n), .fptr false (.mapr 0)], .fn F_netlist_CheckNetlist_c6 [.fptr false (eNet n)], .fn F_netlist_CheckNetlist_c7 [.fptr false (eNet n), .fptr false (.fn F_netlist_CheckNetlist_c1 [.fptr false (eNet n)])],
  .fn F_netlist_CheckNetlist_c8 [.fptr false (eNet n)], .fn F_netlist_CheckNetlist_c9 [.fptr false (eNet n), .fptr false (.mapr 1), .fptr false (.fn F_netlist_CheckNetlist_c1 [.fptr false (eNet n)])]]
theorem pre_first2 (a b : Int) : (sp_netlist_first [.sl .fr 1 [eI a, eI b]] []).pre := ⟨rfl, rfl, by simp [aIs, dInts]⟩
theorem mapL_eM (l : List ByteArray) : mapL [.mp (eM l)] 0 = l := dM_eM l
theorem netlist_CheckNetlist_7 (K : PVal → List AObj → Prop) (n : Net) (hs : Small n) (h12 : ¬ n.outputs.length > 12) (s0 : List ByteArray) (hK : K (.tup [eI (outsE n.nodes n.outputs).1, eI (outsE n.nodes n.outputs).2]) []) : L_netlist_CheckNetlist_0 K [CH n, eI 7] [.mp (eM s0), .mp (eM [])] := by
  obtain ⟨s1, s2, s3, s4, s5, s6, s7, s8, s9⟩ := id hs
  apply r_netlist_CheckNetlist_0_7
  simp only [mapL_eM, dOutps_map, capNet, dNet_e]
  rw [outsE, if_neg h12] at hK
  refine ⟨by omega, ⟨?_, ?_, ?_⟩, br_n (fun h => hK) (fun h => ?_)⟩
  · simp only [aOs, capNet, List.getD_cons_zero, List.getD_cons_succ, asL_sl, dOutps_map, dNet_e]
  · simp only [mapL_eM]
  · simp only [aOs, capNet, List.getD_cons_zero, List.getD_cons_succ, asL_sl, dOutps_map, dNet_e]; exact ⟨s4, s5, s9⟩
  · apply r_netlist_CheckNetlist_0_8
    rw [h, namesGo_zero _ _ _ h] at hK
    exact hK
theorem netlist_CheckNetlist_ok (K : PVal → List AObj → Prop) (n : Net) (hs : Small n) (hK : K (.tup [eI (netE n).1, eI (netE n).2]) []) : CallP env4 F_netlist_CheckNetlist [eNet n] [] K := by
  obtain ⟨s1, s2, s3, s4, s5, s6, s7, s8, s9⟩ := id hs
  apply e_netlist_CheckNetlist
  have go0 : L_netlist_CheckNetlist_0 K [CH n, eI 0] [.mp (eM []), .mp (eM [])] := by
    apply r_netlist_CheckNetlist_0_0
    simp only [List.length_map]
    refine ⟨by omega, ⟨rfl, rfl, s1⟩, br_of (fun h0 => br_d (fun h1 => ⟨pre_first2 _ _, ?_⟩) (fun h1 => ⟨pre_first2 _ _, ?_⟩)) (fun h0 => br_d (fun h1 => ⟨pre_first2 _ _, ?_⟩) (fun h1 => ⟨pre_first2 _ _, ?_⟩))⟩
    · rw [netE, if_neg (by simp [h0])] at hK
      have hpE : portsE n.inputs = ((namesGo portE Port.name [] 0 n.inputs).1, (namesGo portE Port.name [] 0 n.inputs).2.1) := by rw [portsE, if_neg (by omega)]
      rw [hpE] at hK
      apply r_netlist_CheckNetlist_0_1
      simp only [mapL_eM, dPorts_map]
      refine ⟨by omega, ⟨?_, ?_, ?_⟩, br_n (fun h2 => ?_) (fun h2 => ?_)⟩
      · simp only [aPs_0]
      · simp only [mapL_eM]
      · simp only [aPs_0]; exact ⟨s2, s7⟩
      · rwa [if_pos h2] at hK
      · rw [if_neg (by simpa using h2)] at hK
        apply r_netlist_CheckNetlist_0_2
        simp (disch := omega) only [List.length_map, wrap64]
        refine ⟨by omega, br_d (fun h3 => ?_) (fun h3 => ?_)⟩
        · rw [if_neg (by omega)] at hK
          apply r_netlist_CheckNetlist_0_3
          simp only [mapL_eM, dRegs_map]
          refine ⟨by omega, ?_, br_n (fun h4 => ?_) (fun h4 => ?_)⟩
          · show (bif true then (_ : Ans) else _).pre
            refine ⟨?_, ?_, ?_⟩
            · simp only [aRs, List.getD_cons_zero, asL_sl, dRegs_map]
            · simp only [mapL_eM]
            · simp only [aRs, List.getD_cons_zero, asL_sl, dRegs_map]; exact ⟨s3, s8⟩
          · rwa [if_pos h4] at hK
          · rw [if_neg (by simpa using h4)] at hK
            have hce := checkNodes_eq (by omega) h2 h4
            have hll : (leavesF n).length ≤ 1048576 := by simp [leavesF]; omega
            apply r_netlist_CheckNetlist_0_4
            simp only [dNet_e, asL_sl, dInts_map, dNodes_map, hce]
            refine ⟨by omega, ⟨?_, rfl, ?_⟩, ⟨?_, rfl, ?_⟩, br_n (fun h5 => ?_) (fun h5 => ?_)⟩
            · simp only [aN_0]
            · simp only [aN_0]; exact ⟨s3, s2⟩
            · simp only [aIs_0, aNs_1]
            · simp only [aIs_0, aNs_1]; exact ⟨hll, s4, s6⟩
            · rwa [if_pos h5] at hK
            · rw [if_neg (by simpa using h5)] at hK
              apply r_netlist_CheckNetlist_0_5
              simp only [capNet, dNet_e, dRegs_map]
              refine ⟨by omega, ?_, br_n (fun h6 => ?_) (fun h6 => ?_)⟩
              · show (bif false then (_ : Ans) else _).pre
                refine ⟨?_, rfl, ?_⟩
                · simp only [aRs, capNet, List.getD_cons_zero, List.getD_cons_succ, asL_sl, dRegs_map, dNet_e]
                · simp only [aRs, capNet, List.getD_cons_zero, List.getD_cons_succ, asL_sl, dRegs_map, dNet_e]; exact ⟨s4, s3⟩
              · rwa [if_pos h6] at hK
              · rw [if_neg (by simpa using h6)] at hK
                apply r_netlist_CheckNetlist_0_6
                simp only [List.length_map]
                refine ⟨by omega, br_d (fun h7 => ?_) (fun h7 => ?_)⟩
                · exact netlist_CheckNetlist_7 K n hs (by omega) _ hK
                · rwa [outsE, if_pos (by omega)] at hK
        · rwa [if_pos (by omega)] at hK
    · have : portsE n.inputs = (0, 8) := by rw [portsE, if_pos (by omega)]
      rwa [netE, if_neg (by simp [h0]), this, if_pos (by simp)] at hK
    · rwa [netE, if_pos h0] at hK
    · rwa [netE, if_pos h0] at hK
  exact go0
theorem retime_net_period_loop (K : PVal → List AObj → Prop) (a l : List Int) (hl : l.length ≤ 2000000000) (hb : ∀ x ∈ l, 0 ≤ x ∧ x < (a.length : Int)) : ∀ n i : Nat, i + n = l.length → ∀ m : Int, K (eI (mostF a (l.drop i) m)) [] → L_retime_net_period_0 K [eInts a, eI m, eInts l, eI l.length, eI i] [] := by
  intro n
  induction n with
  | zero =>
    intro i hi m hK
    apply r_retime_net_period_0
    refine br_neg (by omega) ?_
    rwa [List.drop_eq_nil_of_le (by omega), mostF, List.foldl_nil] at hK
  | succ n ih =>
    intro i hi m hK
    apply r_retime_net_period_0
    have h1 : i < l.length := by omega
    have h2 := hb _ (mem_getD0 h1)
    refine br_pos (by omega) ?_
    simp (disch := omega) only [List.length_map, natCast_toNat, getP_ints, asI_int, Int.natCast_nonneg, Int.ofNat_lt, true_and, and_true, wrap_succ, h1, h2]
    rw [drop_at0 h1, mostF, List.foldl_cons] at hK
    exact ih (i+1) (by omega) _ hK
theorem compI_length : ∀ l : List Int, (compI l).length ≤ l.length
  | [] => Nat.le_refl _
  | x :: r => by
    have ih := compI_length r
    rw [compI]
    split
    · simp
    · rename_i h; rw [h] at ih; split <;> simp at * <;> omega
theorem named_len (n : Net) : (namedF n).length = n.outputs.length + 2 * n.regs.length := by
  have : ∀ r : List Reg, (r.flatMap fun r => [r.enable, r.next]).length = 2 * r.length := fun r => by
    induction r with
    | nil => rfl
    | cons a r ih => simp [List.flatMap_cons, ih]; omega
  simp only [namedF, List.length_append, List.length_map, this]
theorem ends_len {n : Net} (hs : Small n) : (compI (sortI (namedF n))).length ≤ 4194304 := by
  have h1 := compI_length (sortI (namedF n))
  have h2 := named_len n
  rw [sortI_length] at h1
  obtain ⟨s1, s2, s3, s4, s5, s6, s7, s8, s9⟩ := hs
  omega
theorem retime_net_period_ok (K : PVal → List AObj → Prop) (n : Net) (d : List Int) (hs : Small n) (hd : d.length = 19) (hok : nodesOK 0 n.nodes) (hb : ∀ x ∈ namedF n, 0 ≤ x ∧ x < (n.nodes.length : Int)) (hK : K (eI (mostF (arrF d n.nodes []) (namedF n) 0)) []) :
    CallP env4 F_retime_net_period [eNet n, eInts d] [] K := by
  obtain ⟨s1, s2, s3, s4, s5, s6, s7, s8, s9⟩ := id hs
  apply e_retime_net_period
  simp only [dInts_map, dNet_e, List.length_map]
  have hl := ends_len hs
  refine ⟨⟨?_, rfl, ?_⟩, ⟨?_, rfl, ?_⟩, ?_⟩
  · simp only [aN_0, aIs_1]
  · simp only [aN_0, aIs_1]; exact ⟨hd, s4, hok, s6⟩
  · simp only [aN_0]
  · simp only [aN_0]; exact ⟨s3, s5⟩
  · rw [mostF_mem (arrF d n.nodes []) (fun x => (mem_compI.trans mem_sortI).symm : ∀ x, x ∈ namedF n ↔ x ∈ compI (sortI (namedF n)))] at hK
    exact retime_net_period_loop K _ _ (by omega) (fun x hx => by rw [PathOK.alen]; exact hb x ((mem_compI.trans mem_sortI).1 hx)) (compI (sortI (namedF n))).length 0 (by omega) 0 hK
end Go.Pvm.Seat
namespace Go.Pvm.Seat
open Go
theorem all5 (h4 : AllOK specs4) : AllOK specs5 := by
  refine allOK_cons (specOK h4 fun av os hp => ?_) (allOK_cons (specOK h4 fun av os hp => ?_) h4)
  · obtain ⟨h1, h2, h3⟩ := hp
    unfold sp_netlist_CheckNetlist
    dsimp only at h1 h2 h3 ⊢
    generalize aN av 0 = n at *
    subst h1 h2
    exact netlist_CheckNetlist_ok _ _ h3 ⟨rfl, rfl⟩
  · obtain ⟨h1, h2, h3⟩ := hp
    unfold sp_retime_net_period
    dsimp only at h1 h2 h3 ⊢
    generalize aN av 0 = n at *
    generalize aIs av 1 = d at *
    subst h1 h2
    exact retime_net_period_ok _ _ _ h3.1 h3.2.1 h3.2.2.1 h3.2.2.2 ⟨rfl, rfl⟩
end Go.Pvm.Seat
set_option maxHeartbeats 4000000
namespace Go.Pvm.Seat
open Go
theorem e_retime_ArrivalsOf (K : PVal → List AObj → Prop) (n'Name : ByteArray) (n'Inputs : List PVal) (n'Registers : List PVal) (n'Nodes : List PVal) (n'Outputs : List PVal) (delays' : List PVal)
    (h : (sp_netlist_CheckNetlist [PVal.agg [PVal.str n'Name, PVal.sl Mode.fr 2 n'Inputs, PVal.sl Mode.fr 5 n'Registers, PVal.sl Mode.fr 4 n'Nodes, PVal.sl Mode.fr 2 n'Outputs]] []).pre ∧
  (sp_retime_CheckDelays [PVal.sl Mode.fr 1 delays'] []).pre ∧
    (sp_retime_first
    [PVal.sl Mode.fr 1
    [eI (netE (dNet (PVal.agg [PVal.str n'Name, PVal.sl Mode.fr 2 n'Inputs, PVal.sl Mode.fr 5 n'Registers, PVal.sl Mode.fr 4 n'Nodes, PVal.sl Mode.fr 2 n'Outputs]))).snd,
    eI (delaysE (dInts delays')).snd]]
    []).pre ∧
    br
    (!decide
    (firstNZ
    (dInts
    [eI (netE (dNet (PVal.agg [PVal.str n'Name, PVal.sl Mode.fr 2 n'Inputs, PVal.sl Mode.fr 5 n'Registers, PVal.sl Mode.fr 4 n'Nodes, PVal.sl Mode.fr 2 n'Outputs]))).snd,
    eI (delaysE (dInts delays')).snd]) =
    (0 : Int)))
    (K
    (PVal.tup
    [PVal.sl Mode.fr 1 [],
    PVal.int IntKind.i64
    (firstNZ
    (dInts
    [eI (netE (dNet (PVal.agg [PVal.str n'Name, PVal.sl Mode.fr 2 n'Inputs, PVal.sl Mode.fr 5 n'Registers, PVal.sl Mode.fr 4 n'Nodes, PVal.sl Mode.fr 2 n'Outputs]))).snd,
    eI (delaysE (dInts delays')).snd]))])
    [])
    ((sp_retime_net_arrivals [PVal.agg [PVal.str n'Name, PVal.sl Mode.fr 2 n'Inputs, PVal.sl Mode.fr 5 n'Registers, PVal.sl Mode.fr 4 n'Nodes, PVal.sl Mode.fr 2 n'Outputs], PVal.sl Mode.fr 1 delays']
    []).pre ∧
    K
    (PVal.tup
    [PVal.sl Mode.fr 1
    (List.map eI (arrF (dInts delays') (dNet (PVal.agg [PVal.str n'Name, PVal.sl Mode.fr 2 n'Inputs, PVal.sl Mode.fr 5 n'Registers, PVal.sl Mode.fr 4 n'Nodes, PVal.sl Mode.fr 2 n'Outputs])).nodes [])),
    eI (0 : Int)])
    [])) :
    CallP env5 12 [PVal.agg [PVal.str n'Name, PVal.sl Mode.fr 2 n'Inputs, PVal.sl Mode.fr 5 n'Registers, PVal.sl Mode.fr 4 n'Nodes, PVal.sl Mode.fr 2 n'Outputs], PVal.sl Mode.fr 1 delays'] [] K :=
  e_of (n := 6) h (by kernel_rfl)
theorem e_retime_PeriodOf (K : PVal → List AObj → Prop) (n'Name : ByteArray) (n'Inputs : List PVal) (n'Registers : List PVal) (n'Nodes : List PVal) (n'Outputs : List PVal) (delays' : List PVal)
    (h : (sp_netlist_CheckNetlist [PVal.agg [PVal.str n'Name, PVal.sl Mode.fr 2 n'Inputs, PVal.sl Mode.fr 5 n'Registers, PVal.sl Mode.fr 4 n'Nodes, PVal.sl Mode.fr 2 n'Outputs]] []).pre ∧
  (sp_retime_CheckDelays [PVal.sl Mode.fr 1 delays'] []).pre ∧
    (sp_retime_first
    [PVal.sl Mode.fr 1
    [eI (netE (dNet (PVal.agg [PVal.str n'Name, PVal.sl Mode.fr 2 n'Inputs, PVal.sl Mode.fr 5 n'Registers, PVal.sl Mode.fr 4 n'Nodes, PVal.sl Mode.fr 2 n'Outputs]))).snd,
    eI (delaysE (dInts delays')).snd]]
    []).pre ∧
    br
    (!decide
    (firstNZ
    (dInts
    [eI (netE (dNet (PVal.agg [PVal.str n'Name, PVal.sl Mode.fr 2 n'Inputs, PVal.sl Mode.fr 5 n'Registers, PVal.sl Mode.fr 4 n'Nodes, PVal.sl Mode.fr 2 n'Outputs]))).snd,
    eI (delaysE (dInts delays')).snd]) =
    (0 : Int)))
    (K
    (PVal.tup
    [eI (0 : Int),
    PVal.int IntKind.i64
    (firstNZ
    (dInts
    [eI (netE (dNet (PVal.agg [PVal.str n'Name, PVal.sl Mode.fr 2 n'Inputs, PVal.sl Mode.fr 5 n'Registers, PVal.sl Mode.fr 4 n'Nodes, PVal.sl Mode.fr 2 n'Outputs]))).snd,
    eI (delaysE (dInts delays')).snd]))])
    [])
    ((sp_retime_net_period [PVal.agg [PVal.str n'Name, PVal.sl Mode.fr 2 n'Inputs, PVal.sl Mode.fr 5 n'Registers, PVal.sl Mode.fr 4 n'Nodes, PVal.sl Mode.fr 2 n'Outputs], PVal.sl Mode.fr 1 delays']
    []).pre ∧
    K
    (PVal.tup
    [PVal.int IntKind.i64
    (mostF (arrF (dInts delays') (dNet (PVal.agg [PVal.str n'Name, PVal.sl Mode.fr 2 n'Inputs, PVal.sl Mode.fr 5 n'Registers, PVal.sl Mode.fr 4 n'Nodes, PVal.sl Mode.fr 2 n'Outputs])).nodes [])
    (namedF (dNet (PVal.agg [PVal.str n'Name, PVal.sl Mode.fr 2 n'Inputs, PVal.sl Mode.fr 5 n'Registers, PVal.sl Mode.fr 4 n'Nodes, PVal.sl Mode.fr 2 n'Outputs]))) (0 : Int)),
    eI (0 : Int)])
    [])) :
    CallP env5 14 [PVal.agg [PVal.str n'Name, PVal.sl Mode.fr 2 n'Inputs, PVal.sl Mode.fr 5 n'Registers, PVal.sl Mode.fr 4 n'Nodes, PVal.sl Mode.fr 2 n'Outputs], PVal.sl Mode.fr 1 delays'] [] K :=
  e_of (n := 6) h (by kernel_rfl)
def L_retime_PathOf_0 (K : PVal → List AObj → Prop) (vs : List PVal) (os : List AObj) : Prop := LoopP env5 0 15 0 (cd env5 15 [1, 1, 1, 1, 1, 1, 1, 1, 0, 0, 0]) vs os (kat env5 5 0 15 [1, 1, 1, 1, 1, 1, 1, 1, 0, 0] K [])
theorem e_retime_PathOf (K : PVal → List AObj → Prop) (n'Name : ByteArray) (n'Inputs : List PVal) (n'Registers : List PVal) (n'Nodes : List PVal) (n'Outputs : List PVal) (delays' : List PVal)
    (h : (sp_netlist_CheckNetlist [PVal.agg [PVal.str n'Name, PVal.sl Mode.fr 2 n'Inputs, PVal.sl Mode.fr 5 n'Registers, PVal.sl Mode.fr 4 n'Nodes, PVal.sl Mode.fr 2 n'Outputs]] []).pre ∧
  (sp_retime_CheckDelays [PVal.sl Mode.fr 1 delays'] []).pre ∧
    (sp_retime_first
    [PVal.sl Mode.fr 1
    [eI (netE (dNet (PVal.agg [PVal.str n'Name, PVal.sl Mode.fr 2 n'Inputs, PVal.sl Mode.fr 5 n'Registers, PVal.sl Mode.fr 4 n'Nodes, PVal.sl Mode.fr 2 n'Outputs]))).snd,
    eI (delaysE (dInts delays')).snd]]
    []).pre ∧
    br
    (!decide
    (firstNZ
    (dInts
    [eI (netE (dNet (PVal.agg [PVal.str n'Name, PVal.sl Mode.fr 2 n'Inputs, PVal.sl Mode.fr 5 n'Registers, PVal.sl Mode.fr 4 n'Nodes, PVal.sl Mode.fr 2 n'Outputs]))).snd,
    eI (delaysE (dInts delays')).snd]) =
    (0 : Int)))
    (K
    (PVal.tup
    [PVal.sl Mode.fr 1 [],
    PVal.int IntKind.i64
    (firstNZ
    (dInts
    [eI (netE (dNet (PVal.agg [PVal.str n'Name, PVal.sl Mode.fr 2 n'Inputs, PVal.sl Mode.fr 5 n'Registers, PVal.sl Mode.fr 4 n'Nodes, PVal.sl Mode.fr 2 n'Outputs]))).snd,
    eI (delaysE (dInts delays')).snd]))])
    [])
    ((sp_retime_net_arrivals [PVal.agg [PVal.str n'Name, PVal.sl Mode.fr 2 n'Inputs, PVal.sl Mode.fr 5 n'Registers, PVal.sl Mode.fr 4 n'Nodes, PVal.sl Mode.fr 2 n'Outputs], PVal.sl Mode.fr 1 delays']
    []).pre ∧
    (sp_retime_net_ends [PVal.agg [PVal.str n'Name, PVal.sl Mode.fr 2 n'Inputs, PVal.sl Mode.fr 5 n'Registers, PVal.sl Mode.fr 4 n'Nodes, PVal.sl Mode.fr 2 n'Outputs]] []).pre ∧
    br
    (decide
    ((↑(List.map eI (compI (sortI (namedF (dNet (PVal.agg [PVal.str n'Name, PVal.sl Mode.fr 2 n'Inputs, PVal.sl Mode.fr 5 n'Registers, PVal.sl Mode.fr 4 n'Nodes, PVal.sl Mode.fr 2 n'Outputs])))))).length :
    Int) =
    (0 : Int)))
    (K (PVal.tup [PVal.sl Mode.fr 1 [], eI (12 : Int)]) [])
    ((sp_slices_MaxFunc_int_int
    [PVal.sl Mode.fr 1
    (List.map eI (compI (sortI (namedF (dNet (PVal.agg [PVal.str n'Name, PVal.sl Mode.fr 2 n'Inputs, PVal.sl Mode.fr 5 n'Registers, PVal.sl Mode.fr 4 n'Nodes, PVal.sl Mode.fr 2 n'Outputs])))))),
    PVal.fn (53 : Nat)
    [PVal.fptr false
    (PVal.sl Mode.fr 1
    (List.map eI
    (arrF (dInts delays') (dNet (PVal.agg [PVal.str n'Name, PVal.sl Mode.fr 2 n'Inputs, PVal.sl Mode.fr 5 n'Registers, PVal.sl Mode.fr 4 n'Nodes, PVal.sl Mode.fr 2 n'Outputs])).nodes [])))]]
    []).pre ∧
    L_retime_PathOf_0 K
    [PVal.ref (0 : Nat) (5 : Nat) (0 : Nat) (0 : Nat),
    PVal.fn (53 : Nat)
    [PVal.fptr false
    (PVal.sl Mode.fr 1
    (List.map eI
    (arrF (dInts delays') (dNet (PVal.agg [PVal.str n'Name, PVal.sl Mode.fr 2 n'Inputs, PVal.sl Mode.fr 5 n'Registers, PVal.sl Mode.fr 4 n'Nodes, PVal.sl Mode.fr 2 n'Outputs])).nodes [])))],
    PVal.int IntKind.i64
    (maxF
    (capL
    (PVal.fn (53 : Nat)
    [PVal.fptr false
    (PVal.sl Mode.fr 1
    (List.map eI
    (arrF (dInts delays') (dNet (PVal.agg [PVal.str n'Name, PVal.sl Mode.fr 2 n'Inputs, PVal.sl Mode.fr 5 n'Registers, PVal.sl Mode.fr 4 n'Nodes, PVal.sl Mode.fr 2 n'Outputs])).nodes
    [])))]))
    (dInts
    (asL
    (PVal.sl Mode.fr 1
    (List.map eI
    (compI (sortI (namedF (dNet (PVal.agg [PVal.str n'Name, PVal.sl Mode.fr 2 n'Inputs, PVal.sl Mode.fr 5 n'Registers, PVal.sl Mode.fr 4 n'Nodes, PVal.sl Mode.fr 2 n'Outputs])))))))))),
    PVal.own (1 : Nat)]
    [AObj.row true (27 : Nat) (5 : Nat) [PVal.agg [PVal.str n'Name, PVal.sl Mode.fr 2 n'Inputs, PVal.sl Mode.fr 5 n'Registers, PVal.sl Mode.fr 4 n'Nodes, PVal.sl Mode.fr 2 n'Outputs]],
    AObj.row false (3 : Nat) (1 : Nat)
    [PVal.int IntKind.i64
    (maxF
    (capL
    (PVal.fn (53 : Nat)
    [PVal.fptr false
    (PVal.sl Mode.fr 1
    (List.map eI
    (arrF (dInts delays') (dNet (PVal.agg [PVal.str n'Name, PVal.sl Mode.fr 2 n'Inputs, PVal.sl Mode.fr 5 n'Registers, PVal.sl Mode.fr 4 n'Nodes, PVal.sl Mode.fr 2 n'Outputs])).nodes
    [])))]))
    (dInts
    (asL
    (PVal.sl Mode.fr 1
    (List.map eI
    (compI
    (sortI (namedF (dNet (PVal.agg [PVal.str n'Name, PVal.sl Mode.fr 2 n'Inputs, PVal.sl Mode.fr 5 n'Registers, PVal.sl Mode.fr 4 n'Nodes, PVal.sl Mode.fr 2 n'Outputs]))))))))))]]))) :
    CallP env5 15 [PVal.agg [PVal.str n'Name, PVal.sl Mode.fr 2 n'Inputs, PVal.sl Mode.fr 5 n'Registers, PVal.sl Mode.fr 4 n'Nodes, PVal.sl Mode.fr 2 n'Outputs], PVal.sl Mode.fr 1 delays'] [] K :=
  e_of (n := 6) h (by kernel_rfl)
theorem r_retime_PathOf_0 (K : PVal → List AObj → Prop) (byArrival' : List PVal) (at' : Int) (o00 : ByteArray) (o01 : List PVal) (o02 : List PVal) (o03 : List PVal) (o04 : List PVal) (o1 : List PVal)
    (h : (((0 : Int) ≤ at' ∧ at' < (↑o03.length : Int)) ∧
    getP o03 at'.toNat =
    PVal.agg
    [eI (asI (cellAt (getP o03 at'.toNat) (0 : Nat))), eI (asI (cellAt (getP o03 at'.toNat) (1 : Nat))), PVal.sl Mode.fr 1 (asL (cellAt (getP o03 at'.toNat) (2 : Nat))),
    eI (asI (cellAt (getP o03 at'.toNat) (3 : Nat)))]) ∧
  br (decide ((↑(asL (cellAt (getP o03 at'.toNat) (2 : Nat))).length : Int) > (0 : Int)))
    ((((0 : Int) ≤ at' ∧ at' < (↑o03.length : Int)) ∧
    getP o03 at'.toNat =
    PVal.agg
    [eI (asI (cellAt (getP o03 at'.toNat) (0 : Nat))), eI (asI (cellAt (getP o03 at'.toNat) (1 : Nat))), PVal.sl Mode.fr 1 (asL (cellAt (getP o03 at'.toNat) (2 : Nat))),
    eI (asI (cellAt (getP o03 at'.toNat) (3 : Nat)))]) ∧
    (sp_slices_MaxFunc_int_int [PVal.sl Mode.fr 1 (asL (cellAt (getP o03 at'.toNat) (2 : Nat))), PVal.fn (53 : Nat) [PVal.fptr false (PVal.sl Mode.fr 1 byArrival')]] []).pre ∧
    ((o1.length + (1 : Nat)) * (8 : Nat) ≤ (140737488355328 : Nat) ∧ o1.length + (1 : Nat) ≤ (9223372036854775807 : Nat)) ∧
    L_retime_PathOf_0 K
    [PVal.ref (0 : Nat) (5 : Nat) (0 : Nat) (0 : Nat), PVal.fn (53 : Nat) [PVal.fptr false (PVal.sl Mode.fr 1 byArrival')],
    eI (maxF (capL (PVal.fn (53 : Nat) [PVal.fptr false (PVal.sl Mode.fr 1 byArrival')])) (dInts (asL (PVal.sl Mode.fr 1 (asL (cellAt (getP o03 at'.toNat) (2 : Nat))))))), PVal.own (1 : Nat)]
    [AObj.row true (27 : Nat) (5 : Nat) [PVal.agg [PVal.str o00, PVal.sl Mode.fr 2 o01, PVal.sl Mode.fr 5 o02, PVal.sl Mode.fr 4 o03, PVal.sl Mode.fr 2 o04]],
    AObj.row false (3 : Nat) (1 : Nat)
    (o1 ++ [eI (maxF (capL (PVal.fn (53 : Nat) [PVal.fptr false (PVal.sl Mode.fr 1 byArrival')])) (dInts (asL (PVal.sl Mode.fr 1 (asL (cellAt (getP o03 at'.toNat) (2 : Nat)))))))])])
    ((sp_slices_Reverse_int_int [PVal.own (0 : Nat)] [AObj.row false (3 : Nat) (1 : Nat) o1]).pre ∧
    K (PVal.tup [PVal.sl Mode.fr 1 (List.map eI (rowL [AObj.row false (3 : Nat) (1 : Nat) o1] (0 : Nat)).reverse), eI (0 : Int)]) [])) :
    L_retime_PathOf_0 K [PVal.ref (0 : Nat) (5 : Nat) (0 : Nat) (0 : Nat), PVal.fn (53 : Nat) [PVal.fptr false (PVal.sl Mode.fr 1 byArrival')], eI at', PVal.own (1 : Nat)] [AObj.row true (27 : Nat) (5 : Nat) [PVal.agg [PVal.str o00, PVal.sl Mode.fr 2 o01, PVal.sl Mode.fr 5 o02, PVal.sl Mode.fr 4 o03, PVal.sl Mode.fr 2 o04]], AObj.row false (3 : Nat) (1 : Nat) o1] :=
  r_of (n := 5) h (by kernel_rfl)
theorem e_law26_bothErr (K : PVal → List AObj → Prop) (n'Name : ByteArray) (n'Inputs : List PVal) (n'Registers : List PVal) (n'Nodes : List PVal) (n'Outputs : List PVal) (delays' : List PVal)
    (h : (sp_base_NetErr [PVal.agg [PVal.str n'Name, PVal.sl Mode.fr 2 n'Inputs, PVal.sl Mode.fr 5 n'Registers, PVal.sl Mode.fr 4 n'Nodes, PVal.sl Mode.fr 2 n'Outputs]] []).pre ∧
  br (!decide ((netE (dNet (PVal.agg [PVal.str n'Name, PVal.sl Mode.fr 2 n'Inputs, PVal.sl Mode.fr 5 n'Registers, PVal.sl Mode.fr 4 n'Nodes, PVal.sl Mode.fr 2 n'Outputs]))).snd = (0 : Int)))
    (K (eI (netE (dNet (PVal.agg [PVal.str n'Name, PVal.sl Mode.fr 2 n'Inputs, PVal.sl Mode.fr 5 n'Registers, PVal.sl Mode.fr 4 n'Nodes, PVal.sl Mode.fr 2 n'Outputs]))).snd) [])
    ((sp_ref26_CheckDelays [PVal.sl Mode.fr 1 delays'] []).pre ∧ K (eI (delaysE (dInts delays')).snd) [])) :
    CallP env5 17 [PVal.agg [PVal.str n'Name, PVal.sl Mode.fr 2 n'Inputs, PVal.sl Mode.fr 5 n'Registers, PVal.sl Mode.fr 4 n'Nodes, PVal.sl Mode.fr 2 n'Outputs], PVal.sl Mode.fr 1 delays'] [] K :=
  e_of (n := 6) h (by kernel_rfl)
theorem e_ref22_Err (K : PVal → List AObj → Prop) (n'Name : ByteArray) (n'Inputs : List PVal) (n'Registers : List PVal) (n'Nodes : List PVal) (n'Outputs : List PVal)
    (h : (sp_base_NetErr [PVal.agg [PVal.str n'Name, PVal.sl Mode.fr 2 n'Inputs, PVal.sl Mode.fr 5 n'Registers, PVal.sl Mode.fr 4 n'Nodes, PVal.sl Mode.fr 2 n'Outputs]] []).pre ∧
  K (eI (netE (dNet (PVal.agg [PVal.str n'Name, PVal.sl Mode.fr 2 n'Inputs, PVal.sl Mode.fr 5 n'Registers, PVal.sl Mode.fr 4 n'Nodes, PVal.sl Mode.fr 2 n'Outputs]))).snd) []) :
    CallP env5 24 [PVal.agg [PVal.str n'Name, PVal.sl Mode.fr 2 n'Inputs, PVal.sl Mode.fr 5 n'Registers, PVal.sl Mode.fr 4 n'Nodes, PVal.sl Mode.fr 2 n'Outputs]] [] K :=
  e_of (n := 6) h (by kernel_rfl)
end Go.Pvm.Seat
set_option maxHeartbeats 1000000
namespace Go.Pvm.Seat
open Go
theorem pre_net (n : Net) (hs : Small n) : (sp_netlist_CheckNetlist [eNet n] []).pre := ⟨by simp only [aN_0], rfl, by simpa only [aN_0] using hs⟩
theorem pre_neterr (n : Net) (hs : Small n) : (sp_base_NetErr [eNet n] []).pre := ⟨by simp only [aN_0], rfl, by simpa only [aN_0] using hs⟩
theorem pre_delays (d : List Int) (h : d.length ≤ 1048576) : (sp_retime_CheckDelays [eInts d] []).pre := ⟨by simp only [aIs_0], rfl, by simpa only [aIs_0] using h⟩
theorem pre_delays' (d : List Int) (h : d.length ≤ 1048576) : (sp_ref26_CheckDelays [eInts d] []).pre := ⟨by simp only [aIs_0], rfl, by simpa only [aIs_0] using h⟩
theorem pre_firstR (a b : Int) : (sp_retime_first [.sl .fr 1 [eI a, eI b]] []).pre := ⟨rfl, rfl, by simp [aIs, dInts]⟩
theorem law26_bothErr_ok (K : PVal → List AObj → Prop) (n : Net) (d : List Int) (hs : Small n) (hd : d.length ≤ 1048576) (hK : K (eI (bothE n d)) []) : CallP env5 F_law26_bothErr [eNet n, eInts d] [] K := by
  apply e_law26_bothErr
  simp only [dNet_e, dInts_map]
  refine ⟨pre_neterr n hs, br_n (fun h => ?_) (fun h => ⟨pre_delays' d hd, ?_⟩)⟩
  · rwa [bothE, if_neg h] at hK
  · rwa [bothE, if_pos h] at hK
theorem retime_ArrivalsOf_ok (K : PVal → List AObj → Prop) (n : Net) (d : List Int) (hs : Small n) (hd : d.length ≤ 1048576) (hK : K (.tup [eInts (if bothE n d = 0 then arrF d n.nodes [] else []), eI (bothE n d)]) []) : CallP env5 F_retime_ArrivalsOf [eNet n, eInts d] [] K := by
  obtain ⟨s1, s2, s3, s4, s5, s6, s7, s8, s9⟩ := id hs
  have hf : firstNZ (dInts [PVal.int IntKind.i64 (netE n).2, PVal.int IntKind.i64 (delaysE d).2]) = bothE n d := both_first n d
  apply e_retime_ArrivalsOf
  simp only [dNet_e, dInts_map, hf]
  refine ⟨pre_net n hs, pre_delays d hd, pre_firstR _ _, br_n (fun h => ?_) (fun h => ⟨⟨?_, rfl, ?_⟩, ?_⟩)⟩
  · rwa [if_neg h] at hK
  · simp only [aN_0, aIs_1]
  · simp only [aN_0, aIs_1]; have := (bothE_ok hs h).1; exact ⟨this.len, s4, this.ok, s6⟩
  · rwa [if_pos h, h] at hK
theorem retime_PeriodOf_ok (K : PVal → List AObj → Prop) (n : Net) (d : List Int) (hs : Small n) (hd : d.length ≤ 1048576) (hK : K (.tup [eI (if bothE n d = 0 then mostF (arrF d n.nodes []) (namedF n) 0 else 0), eI (bothE n d)]) []) : CallP env5 F_retime_PeriodOf [eNet n, eInts d] [] K := by
  obtain ⟨s1, s2, s3, s4, s5, s6, s7, s8, s9⟩ := id hs
  have hf : firstNZ (dInts [PVal.int IntKind.i64 (netE n).2, PVal.int IntKind.i64 (delaysE d).2]) = bothE n d := both_first n d
  apply e_retime_PeriodOf
  simp only [dNet_e, dInts_map, hf]
  refine ⟨pre_net n hs, pre_delays d hd, pre_firstR _ _, br_n (fun h => ?_) (fun h => ⟨⟨?_, rfl, ?_⟩, ?_⟩)⟩
  · rwa [if_neg h] at hK
  · simp only [aN_0, aIs_1]
  · simp only [aN_0, aIs_1]; have := (bothE_ok hs h).1; exact ⟨hs, this.len, this.ok, this.named⟩
  · rwa [if_pos h, h] at hK
theorem retime_PathOf_loop (K : PVal → List AObj → Prop) (n : Net) (a : List Int) (hs : Small n) (ha : a.length = n.nodes.length) (hb : Bnd a) (hok : nodesOK 0 n.nodes) (h400 : n.nodes.length ≤ 400) : ∀ (fuel k : Nat), k < fuel → k < n.nodes.length → ∀ o : List Int, o.length + k ≤ 1000 →
    K (.tup [eInts (pathGo n.nodes a fuel k o.reverse), eI 0]) [] → L_retime_PathOf_0 K [.ref 0 5 0 0, .fn F_retime_PathOf_c1 [.fptr false (eInts a)], eI k, .own 1] [.row true T_api_Netlist 5 [eNet n], .row false T_int 1 (o.map eI)] := by
  obtain ⟨s1, s2, s3, s4, s5, s6, s7, s8, s9⟩ := hs
  intro fuel
  induction fuel with
  | zero => intro k hk; omega
  | succ fuel ih =>
    intro k hk hkn o ho hK
    apply r_retime_PathOf_0
    obtain ⟨hop, hargs⟩ := nodesOK_at hok hkn
    rw [Nat.zero_add] at hargs
    rw [pathGo] at hK
    simp only [argsAt, natCast_toNat] at hK
    have hr : ∀ (os : List Int), rowL [.row false 3 1 (os.map eI)] 0 = os := fun os => dInts_map os
    simp (disch := omega) only [List.length_map, natCast_toNat, getP_nodes, asI_int, asS_str, asL_sl, cellAt_agg, List.getD_cons_zero, List.getD_cons_succ, Int.natCast_nonneg, Int.ofNat_lt, true_and, and_true, hkn, capL, dInts_map, hr]
    refine br_d (fun h => ?_) (fun h => ?_)
    · have h0 : (n.nodes.getD k default).args.length ≠ 0 := by omega
      have hrng : ∀ x ∈ (n.nodes.getD k default).args, 0 ≤ x ∧ x < (a.length : Int) := fun x hx => by have := hargs x hx; omega
      have hmx := maxF_best hb (by omega) h0 hrng
      rw [if_neg h0] at hK
      rw [hmx]
      have hlt := hargs _ (bestGo_in a h0)
      obtain ⟨b, hbb⟩ : ∃ b : Nat, bestGo a ((n.nodes.getD k default).args.getD 0 0) (n.nodes.getD k default).args = b := ⟨_, (Int.toNat_of_nonneg hlt.1).symm⟩
      rw [hbb] at hK hlt ⊢
      refine ⟨⟨?_, rfl, ?_⟩, by omega, ?_⟩
      · simp only [aIs_0, capL, List.getD_cons_zero, List.getD_cons_succ, dInts_map]
      · simp only [aIs_0, capL, List.getD_cons_zero, List.getD_cons_succ, dInts_map]; exact ⟨s6 _ (mem_getD hkn), fun he => h0 (by rw [he]; rfl), hrng⟩
      · have := ih b (by omega) (by omega) (o ++ [(b : Int)]) (by simp; omega) (by simpa using hK)
        simpa using this
    · rw [if_pos (by omega)] at hK
      refine ⟨⟨rfl, ?_, ?_⟩, hK⟩
      · simp only [hr]
      · simp only [hr]; omega
theorem retime_PathOf_ok (K : PVal → List AObj → Prop) (n : Net) (d : List Int) (hs : Small n) (hd : d.length ≤ 1048576)
    (hK : K (.tup [eInts (if bothE n d = 0 then (if namedF n = [] then [] else pathF n d) else []), eI (if bothE n d = 0 then (if namedF n = [] then 12 else 0) else bothE n d)]) []) : CallP env5 F_retime_PathOf [eNet n, eInts d] [] K := by
  obtain ⟨s1, s2, s3, s4, s5, s6, s7, s8, s9⟩ := id hs
  have hf : firstNZ (dInts [PVal.int IntKind.i64 (netE n).2, PVal.int IntKind.i64 (delaysE d).2]) = bothE n d := both_first n d
  apply e_retime_PathOf
  simp only [dNet_e, dInts_map, hf, List.length_map, capL, asL_sl]
  refine ⟨pre_net n hs, pre_delays d hd, pre_firstR _ _, br_n (fun h => ?_) (fun h => ?_)⟩
  · rwa [if_neg h, if_neg h] at hK
  · obtain ⟨hp, h400⟩ := bothE_ok hs h
    rw [if_pos h, if_pos h] at hK
    have hmem : ∀ x, x ∈ compI (sortI (namedF n)) ↔ x ∈ namedF n := fun x => mem_compI.trans mem_sortI
    have hnil : (compI (sortI (namedF n))).length = 0 ↔ namedF n = [] := by
      constructor
      · intro he
        have he := List.eq_nil_of_length_eq_zero he
        refine List.eq_nil_iff_forall_not_mem.2 fun x hx => ?_
        have := (hmem x).2 hx; rw [he] at this; simp at this
      · intro he; rw [he]; rfl
    refine ⟨⟨?_, rfl, ?_⟩, ⟨?_, rfl, ?_⟩, br_d (fun h2 => ?_) (fun h2 => ⟨⟨?_, rfl, ?_⟩, ?_⟩)⟩
    · simp only [aN_0, aIs_1]
    · simp only [aN_0, aIs_1]; exact ⟨hp.len, s4, hp.ok, s6⟩
    · simp only [aN_0]
    · simp only [aN_0]; exact ⟨s3, s5⟩
    · have := hnil.1 (by omega)
      rwa [if_pos this, if_pos this] at hK
    · simp only [aIs_0, capL, List.getD_cons_zero, List.getD_cons_succ, dInts_map]
    · simp only [aIs_0, capL, List.getD_cons_zero, List.getD_cons_succ, dInts_map]
      refine ⟨?_, fun he => h2 (by rw [he]; rfl), fun x hx => by rw [PathOK.alen]; exact hp.named x ((hmem x).1 hx)⟩
      have h12 := named_length_le hs h
      have := compI_len (sortI (namedF n)); rw [sortI_length] at this
      omega
    · have hne : namedF n ≠ [] := fun he => h2 (by have := hnil.2 he; omega)
      rw [if_neg hne, if_neg hne] at hK
      have hat := hp.named _ (hp.at_in hne)
      rw [at_eq hp hne]
      rw [pathF] at hK
      obtain ⟨k, hk⟩ : ∃ k : Nat, atGo (arrF d n.nodes []) (mostF (arrF d n.nodes []) (namedF n) 0) (-1) (namedF n) = k := ⟨_, (Int.toNat_of_nonneg hat.1).symm⟩
      rw [hk] at hK hat ⊢
      exact retime_PathOf_loop K n _ hs PathOK.alen hp.bnd hp.ok h400 (n.nodes.length + 1) k (by omega) (by omega) [(k : Int)] (by simp; omega) hK
end Go.Pvm.Seat
namespace Go.Pvm.Seat
open Go
theorem all6 (h5 : AllOK specs5) : AllOK specs6 := by
  refine allOK_cons (specOK h5 fun av os hp => ?_) (allOK_cons (specOK h5 fun av os hp => ?_) (allOK_cons (specOK h5 fun av os hp => ?_) (allOK_cons (specOK h5 fun av os hp => ?_) h5)))
  · obtain ⟨h1, h2, h3⟩ := hp
    unfold sp_law26_bothErr
    dsimp only at h1 h2 h3 ⊢
    generalize aN av 0 = n at *
    generalize aIs av 1 = d at *
    subst h1 h2
    exact law26_bothErr_ok _ _ _ h3.1 h3.2 ⟨rfl, rfl⟩
  · obtain ⟨h1, h2, h3⟩ := hp
    unfold sp_retime_ArrivalsOf
    dsimp only at h1 h2 h3 ⊢
    generalize aN av 0 = n at *
    generalize aIs av 1 = d at *
    subst h1 h2
    exact retime_ArrivalsOf_ok _ _ _ h3.1 h3.2 ⟨rfl, rfl⟩
  · obtain ⟨h1, h2, h3⟩ := hp
    unfold sp_retime_PeriodOf
    dsimp only at h1 h2 h3 ⊢
    generalize aN av 0 = n at *
    generalize aIs av 1 = d at *
    subst h1 h2
    exact retime_PeriodOf_ok _ _ _ h3.1 h3.2 ⟨rfl, rfl⟩
  · obtain ⟨h1, h2, h3⟩ := hp
    unfold sp_retime_PathOf
    dsimp only at h1 h2 h3 ⊢
    generalize aN av 0 = n at *
    generalize aIs av 1 = d at *
    subst h1 h2
    exact retime_PathOf_ok _ _ _ h3.1 h3.2 ⟨rfl, rfl⟩
end Go.Pvm.Seat
set_option maxHeartbeats 4000000
namespace Go.Pvm.Seat
open Go
theorem e_law26_RetimePeriods (K : PVal → List AObj → Prop) (x0Name : ByteArray) (x0Inputs : List PVal) (x0Registers : List PVal) (x0Nodes : List PVal) (x0Outputs : List PVal) (x1 : List PVal)
    (h : (sp_law26_awake [] []).pre ∧
  (sp_law26_few [PVal.agg [PVal.str x0Name, PVal.sl Mode.fr 2 x0Inputs, PVal.sl Mode.fr 5 x0Registers, PVal.sl Mode.fr 4 x0Nodes, PVal.sl Mode.fr 2 x0Outputs]] []).pre ∧
    br (!fewF (dNet (PVal.agg [PVal.str x0Name, PVal.sl Mode.fr 2 x0Inputs, PVal.sl Mode.fr 5 x0Registers, PVal.sl Mode.fr 4 x0Nodes, PVal.sl Mode.fr 2 x0Outputs]))) (K (PVal.bool true) [])
    (br (decide ((↑x1.length : Int) > (25 : Int))) (K (PVal.bool true) [])
    ((((0 : Nat) + x1.length) * (8 : Nat) ≤ (140737488355328 : Nat) ∧ (0 : Nat) + x1.length ≤ (9223372036854775807 : Nat)) ∧
    (sp_retime_CheckDelays [PVal.sl Mode.fr 1 x1] []).pre ∧
    (sp_base_CopyNetlist [PVal.agg [PVal.str x0Name, PVal.sl Mode.fr 2 x0Inputs, PVal.sl Mode.fr 5 x0Registers, PVal.sl Mode.fr 4 x0Nodes, PVal.sl Mode.fr 2 x0Outputs]] []).pre ∧
    (((0 : Nat) + x1.length) * (8 : Nat) ≤ (140737488355328 : Nat) ∧ (0 : Nat) + x1.length ≤ (9223372036854775807 : Nat)) ∧
    (sp_retime_ArrivalsOf
    [PVal.agg
    [PVal.str x0Name, PVal.sl Mode.fr 2 (List.map ePort (List.map dPort x0Inputs)), PVal.sl Mode.fr 5 (List.map eReg (List.map dReg x0Registers)),
    PVal.sl Mode.fr 4 (List.map eNode (List.map dNode x0Nodes)), PVal.sl Mode.fr 2 (List.map eOutp (List.map dOutp x0Outputs))],
    PVal.sl Mode.fr 1 x1]
    []).pre ∧
    (sp_base_CopyNetlist [PVal.agg [PVal.str x0Name, PVal.sl Mode.fr 2 x0Inputs, PVal.sl Mode.fr 5 x0Registers, PVal.sl Mode.fr 4 x0Nodes, PVal.sl Mode.fr 2 x0Outputs]] []).pre ∧
    (((0 : Nat) + x1.length) * (8 : Nat) ≤ (140737488355328 : Nat) ∧ (0 : Nat) + x1.length ≤ (9223372036854775807 : Nat)) ∧
    (sp_retime_PeriodOf
    [PVal.agg
    [PVal.str x0Name, PVal.sl Mode.fr 2 (List.map ePort (List.map dPort x0Inputs)), PVal.sl Mode.fr 5 (List.map eReg (List.map dReg x0Registers)),
    PVal.sl Mode.fr 4 (List.map eNode (List.map dNode x0Nodes)), PVal.sl Mode.fr 2 (List.map eOutp (List.map dOutp x0Outputs))],
    PVal.sl Mode.fr 1 x1]
    []).pre ∧
    (sp_base_CopyNetlist [PVal.agg [PVal.str x0Name, PVal.sl Mode.fr 2 x0Inputs, PVal.sl Mode.fr 5 x0Registers, PVal.sl Mode.fr 4 x0Nodes, PVal.sl Mode.fr 2 x0Outputs]] []).pre ∧
    (((0 : Nat) + x1.length) * (8 : Nat) ≤ (140737488355328 : Nat) ∧ (0 : Nat) + x1.length ≤ (9223372036854775807 : Nat)) ∧
    (sp_retime_PathOf
    [PVal.agg
    [PVal.str x0Name, PVal.sl Mode.fr 2 (List.map ePort (List.map dPort x0Inputs)), PVal.sl Mode.fr 5 (List.map eReg (List.map dReg x0Registers)),
    PVal.sl Mode.fr 4 (List.map eNode (List.map dNode x0Nodes)), PVal.sl Mode.fr 2 (List.map eOutp (List.map dOutp x0Outputs))],
    PVal.sl Mode.fr 1 x1]
    []).pre ∧
    (sp_ref26_CheckDelays [PVal.sl Mode.fr 1 x1] []).pre ∧
    br (!decide ((delaysE (dInts x1)).snd = (delaysE (dInts x1)).snd)) (K (PVal.bool false) [])
    (br (!decide ((delaysE (dInts x1)).fst = (delaysE (dInts x1)).fst)) (K (PVal.bool false) [])
    ((sp_law26_bothErr
    [PVal.agg [PVal.str x0Name, PVal.sl Mode.fr 2 x0Inputs, PVal.sl Mode.fr 5 x0Registers, PVal.sl Mode.fr 4 x0Nodes, PVal.sl Mode.fr 2 x0Outputs], PVal.sl Mode.fr 1 x1]
    []).pre ∧
    br
    (!decide
    (bothE (dNet (PVal.agg [PVal.str x0Name, PVal.sl Mode.fr 2 x0Inputs, PVal.sl Mode.fr 5 x0Registers, PVal.sl Mode.fr 4 x0Nodes, PVal.sl Mode.fr 2 x0Outputs])) (dInts x1) =
    (0 : Int)))
    (br
    (decide
    (bothE
    (dNet
    (PVal.agg
    [PVal.str x0Name, PVal.sl Mode.fr 2 (List.map ePort (List.map dPort x0Inputs)), PVal.sl Mode.fr 5 (List.map eReg (List.map dReg x0Registers)),
    PVal.sl Mode.fr 4 (List.map eNode (List.map dNode x0Nodes)), PVal.sl Mode.fr 2 (List.map eOutp (List.map dOutp x0Outputs))]))
    (dInts x1) =
    bothE (dNet (PVal.agg [PVal.str x0Name, PVal.sl Mode.fr 2 x0Inputs, PVal.sl Mode.fr 5 x0Registers, PVal.sl Mode.fr 4 x0Nodes, PVal.sl Mode.fr 2 x0Outputs])) (dInts x1)))
    (br
    (decide
    ((↑(List.map eI
    (if
    bothE
    (dNet
    (PVal.agg
    [PVal.str x0Name, PVal.sl Mode.fr 2 (List.map ePort (List.map dPort x0Inputs)), PVal.sl Mode.fr 5 (List.map eReg (List.map dReg x0Registers)),
    PVal.sl Mode.fr 4 (List.map eNode (List.map dNode x0Nodes)), PVal.sl Mode.fr 2 (List.map eOutp (List.map dOutp x0Outputs))]))
    (dInts x1) =
    (0 : Int) then
    arrF (dInts x1) (List.map dNode (asL (PVal.sl Mode.fr 4 (List.map eNode (List.map dNode x0Nodes))))) []
    else [])).length :
    Int) =
    (0 : Int)))
    (br
    (decide
    (bothE
    (dNet
    (PVal.agg
    [PVal.str x0Name, PVal.sl Mode.fr 2 (List.map ePort (List.map dPort x0Inputs)), PVal.sl Mode.fr 5 (List.map eReg (List.map dReg x0Registers)),
    PVal.sl Mode.fr 4 (List.map eNode (List.map dNode x0Nodes)), PVal.sl Mode.fr 2 (List.map eOutp (List.map dOutp x0Outputs))]))
    (dInts x1) =
    bothE (dNet (PVal.agg [PVal.str x0Name, PVal.sl Mode.fr 2 x0Inputs, PVal.sl Mode.fr 5 x0Registers, PVal.sl Mode.fr 4 x0Nodes, PVal.sl Mode.fr 2 x0Outputs]))
    (dInts x1)))
    (br
    (decide
    ((if
    bothE
    (dNet
    (PVal.agg
    [PVal.str x0Name, PVal.sl Mode.fr 2 (List.map ePort (List.map dPort x0Inputs)), PVal.sl Mode.fr 5 (List.map eReg (List.map dReg x0Registers)),
    PVal.sl Mode.fr 4 (List.map eNode (List.map dNode x0Nodes)), PVal.sl Mode.fr 2 (List.map eOutp (List.map dOutp x0Outputs))]))
    (dInts x1) =
    (0 : Int) then
    mostF (arrF (dInts x1) (List.map dNode (asL (PVal.sl Mode.fr 4 (List.map eNode (List.map dNode x0Nodes))))) [])
    (namedF
    (dNet
    (PVal.agg
    [PVal.str x0Name, PVal.sl Mode.fr 2 (List.map ePort (List.map dPort x0Inputs)), PVal.sl Mode.fr 5 (List.map eReg (List.map dReg x0Registers)),
    PVal.sl Mode.fr 4 (List.map eNode (List.map dNode x0Nodes)), PVal.sl Mode.fr 2 (List.map eOutp (List.map dOutp x0Outputs))])))
    (0 : Int)
    else (0 : Int)) =
    (0 : Int)))
    (br
    (decide
    ((if
    bothE
    (dNet
    (PVal.agg
    [PVal.str x0Name, PVal.sl Mode.fr 2 (List.map ePort (List.map dPort x0Inputs)), PVal.sl Mode.fr 5 (List.map eReg (List.map dReg x0Registers)),
    PVal.sl Mode.fr 4 (List.map eNode (List.map dNode x0Nodes)), PVal.sl Mode.fr 2 (List.map eOutp (List.map dOutp x0Outputs))]))
    (dInts x1) =
    (0 : Int) then
    if
    namedF
    (dNet
    (PVal.agg
    [PVal.str x0Name, PVal.sl Mode.fr 2 (List.map ePort (List.map dPort x0Inputs)), PVal.sl Mode.fr 5 (List.map eReg (List.map dReg x0Registers)),
    PVal.sl Mode.fr 4 (List.map eNode (List.map dNode x0Nodes)), PVal.sl Mode.fr 2 (List.map eOutp (List.map dOutp x0Outputs))])) =
    [] then
    (12 : Int)
    else (0 : Int)
    else
    bothE
    (dNet
    (PVal.agg
    [PVal.str x0Name, PVal.sl Mode.fr 2 (List.map ePort (List.map dPort x0Inputs)), PVal.sl Mode.fr 5 (List.map eReg (List.map dReg x0Registers)),
    PVal.sl Mode.fr 4 (List.map eNode (List.map dNode x0Nodes)), PVal.sl Mode.fr 2 (List.map eOutp (List.map dOutp x0Outputs))]))
    (dInts x1)) =
    bothE (dNet (PVal.agg [PVal.str x0Name, PVal.sl Mode.fr 2 x0Inputs, PVal.sl Mode.fr 5 x0Registers, PVal.sl Mode.fr 4 x0Nodes, PVal.sl Mode.fr 2 x0Outputs]))
    (dInts x1)))
    (K
    (PVal.bool
    (decide
    ((↑(List.map eI
    (if
    bothE
    (dNet
    (PVal.agg
    [PVal.str x0Name, PVal.sl Mode.fr 2 (List.map ePort (List.map dPort x0Inputs)), PVal.sl Mode.fr 5 (List.map eReg (List.map dReg x0Registers)),
    PVal.sl Mode.fr 4 (List.map eNode (List.map dNode x0Nodes)), PVal.sl Mode.fr 2 (List.map eOutp (List.map dOutp x0Outputs))]))
    (dInts x1) =
    (0 : Int) then
    if
    namedF
    (dNet
    (PVal.agg
    [PVal.str x0Name, PVal.sl Mode.fr 2 (List.map ePort (List.map dPort x0Inputs)), PVal.sl Mode.fr 5 (List.map eReg (List.map dReg x0Registers)),
    PVal.sl Mode.fr 4 (List.map eNode (List.map dNode x0Nodes)), PVal.sl Mode.fr 2 (List.map eOutp (List.map dOutp x0Outputs))])) =
    [] then
    []
    else
    pathF
    (dNet
    (PVal.agg
    [PVal.str x0Name, PVal.sl Mode.fr 2 (List.map ePort (List.map dPort x0Inputs)), PVal.sl Mode.fr 5 (List.map eReg (List.map dReg x0Registers)),
    PVal.sl Mode.fr 4 (List.map eNode (List.map dNode x0Nodes)), PVal.sl Mode.fr 2 (List.map eOutp (List.map dOutp x0Outputs))]))
    (dInts x1)
    else [])).length :
    Int) =
    (0 : Int))))
    [])
    (K (PVal.bool false) []))
    (K (PVal.bool false) []))
    (K (PVal.bool false) []))
    (K (PVal.bool false) []))
    (K (PVal.bool false) []))
    (br
    (!decide
    (bothE
    (dNet
    (PVal.agg
    [PVal.str x0Name, PVal.sl Mode.fr 2 (List.map ePort (List.map dPort x0Inputs)), PVal.sl Mode.fr 5 (List.map eReg (List.map dReg x0Registers)),
    PVal.sl Mode.fr 4 (List.map eNode (List.map dNode x0Nodes)), PVal.sl Mode.fr 2 (List.map eOutp (List.map dOutp x0Outputs))]))
    (dInts x1) =
    (0 : Int)))
    (K (PVal.bool false) [])
    ((sp_ref26_Arrivals
    [PVal.agg [PVal.str x0Name, PVal.sl Mode.fr 2 x0Inputs, PVal.sl Mode.fr 5 x0Registers, PVal.sl Mode.fr 4 x0Nodes, PVal.sl Mode.fr 2 x0Outputs],
    PVal.sl Mode.fr 1 x1]
    []).pre ∧
    (sp_base_Ints
    [PVal.sl Mode.fr 1
    (List.map eI
    (if
    bothE
    (dNet
    (PVal.agg
    [PVal.str x0Name, PVal.sl Mode.fr 2 (List.map ePort (List.map dPort x0Inputs)), PVal.sl Mode.fr 5 (List.map eReg (List.map dReg x0Registers)),
    PVal.sl Mode.fr 4 (List.map eNode (List.map dNode x0Nodes)), PVal.sl Mode.fr 2 (List.map eOutp (List.map dOutp x0Outputs))]))
    (dInts x1) =
    (0 : Int) then
    arrF (dInts x1) (List.map dNode (asL (PVal.sl Mode.fr 4 (List.map eNode (List.map dNode x0Nodes))))) []
    else [])),
    PVal.sl Mode.fr 1 (List.map eI (arrF (dInts x1) (List.map dNode x0Nodes) []))]
    []).pre ∧
    br
    (!decide
    (dInts
    (asL
    (PVal.sl Mode.fr 1
    (List.map eI
    (if
    bothE
    (dNet
    (PVal.agg
    [PVal.str x0Name, PVal.sl Mode.fr 2 (List.map ePort (List.map dPort x0Inputs)), PVal.sl Mode.fr 5 (List.map eReg (List.map dReg x0Registers)),
    PVal.sl Mode.fr 4 (List.map eNode (List.map dNode x0Nodes)), PVal.sl Mode.fr 2 (List.map eOutp (List.map dOutp x0Outputs))]))
    (dInts x1) =
    (0 : Int) then
    arrF (dInts x1) (List.map dNode (asL (PVal.sl Mode.fr 4 (List.map eNode (List.map dNode x0Nodes))))) []
    else [])))) =
    dInts (asL (PVal.sl Mode.fr 1 (List.map eI (arrF (dInts x1) (List.map dNode x0Nodes) []))))))
    (K (PVal.bool false) [])
    (br
    (!decide
    (bothE
    (dNet
    (PVal.agg
    [PVal.str x0Name, PVal.sl Mode.fr 2 (List.map ePort (List.map dPort x0Inputs)), PVal.sl Mode.fr 5 (List.map eReg (List.map dReg x0Registers)),
    PVal.sl Mode.fr 4 (List.map eNode (List.map dNode x0Nodes)), PVal.sl Mode.fr 2 (List.map eOutp (List.map dOutp x0Outputs))]))
    (dInts x1) =
    (0 : Int)))
    (K (PVal.bool false) [])
    ((sp_ref26_Period
    [PVal.agg [PVal.str x0Name, PVal.sl Mode.fr 2 x0Inputs, PVal.sl Mode.fr 5 x0Registers, PVal.sl Mode.fr 4 x0Nodes, PVal.sl Mode.fr 2 x0Outputs],
    PVal.sl Mode.fr 1 x1]
    []).pre ∧
    br
    (!decide
    ((if
    bothE
    (dNet
    (PVal.agg
    [PVal.str x0Name, PVal.sl Mode.fr 2 (List.map ePort (List.map dPort x0Inputs)), PVal.sl Mode.fr 5 (List.map eReg (List.map dReg x0Registers)),
    PVal.sl Mode.fr 4 (List.map eNode (List.map dNode x0Nodes)), PVal.sl Mode.fr 2 (List.map eOutp (List.map dOutp x0Outputs))]))
    (dInts x1) =
    (0 : Int) then
    mostF (arrF (dInts x1) (List.map dNode (asL (PVal.sl Mode.fr 4 (List.map eNode (List.map dNode x0Nodes))))) [])
    (namedF
    (dNet
    (PVal.agg
    [PVal.str x0Name, PVal.sl Mode.fr 2 (List.map ePort (List.map dPort x0Inputs)), PVal.sl Mode.fr 5 (List.map eReg (List.map dReg x0Registers)),
    PVal.sl Mode.fr 4 (List.map eNode (List.map dNode x0Nodes)), PVal.sl Mode.fr 2 (List.map eOutp (List.map dOutp x0Outputs))])))
    (0 : Int)
    else (0 : Int)) =
    mostF (arrF (dInts x1) (List.map dNode x0Nodes) [])
    (namedF
    (dNet (PVal.agg [PVal.str x0Name, PVal.sl Mode.fr 2 x0Inputs, PVal.sl Mode.fr 5 x0Registers, PVal.sl Mode.fr 4 x0Nodes, PVal.sl Mode.fr 2 x0Outputs])))
    (0 : Int)))
    (K (PVal.bool false) [])
    ((sp_ref26_Named [PVal.agg [PVal.str x0Name, PVal.sl Mode.fr 2 x0Inputs, PVal.sl Mode.fr 5 x0Registers, PVal.sl Mode.fr 4 x0Nodes, PVal.sl Mode.fr 2 x0Outputs]]
    []).pre ∧
    br
    (decide
    ((↑(List.map eI
    (namedF
    (dNet
    (PVal.agg
    [PVal.str x0Name, PVal.sl Mode.fr 2 x0Inputs, PVal.sl Mode.fr 5 x0Registers, PVal.sl Mode.fr 4 x0Nodes,
    PVal.sl Mode.fr 2 x0Outputs])))).length :
    Int) =
    (0 : Int)))
    (br
    (decide
    ((if
    bothE
    (dNet
    (PVal.agg
    [PVal.str x0Name, PVal.sl Mode.fr 2 (List.map ePort (List.map dPort x0Inputs)), PVal.sl Mode.fr 5 (List.map eReg (List.map dReg x0Registers)),
    PVal.sl Mode.fr 4 (List.map eNode (List.map dNode x0Nodes)), PVal.sl Mode.fr 2 (List.map eOutp (List.map dOutp x0Outputs))]))
    (dInts x1) =
    (0 : Int) then
    if
    namedF
    (dNet
    (PVal.agg
    [PVal.str x0Name, PVal.sl Mode.fr 2 (List.map ePort (List.map dPort x0Inputs)), PVal.sl Mode.fr 5 (List.map eReg (List.map dReg x0Registers)),
    PVal.sl Mode.fr 4 (List.map eNode (List.map dNode x0Nodes)), PVal.sl Mode.fr 2 (List.map eOutp (List.map dOutp x0Outputs))])) =
    [] then
    (12 : Int)
    else (0 : Int)
    else
    bothE
    (dNet
    (PVal.agg
    [PVal.str x0Name, PVal.sl Mode.fr 2 (List.map ePort (List.map dPort x0Inputs)), PVal.sl Mode.fr 5 (List.map eReg (List.map dReg x0Registers)),
    PVal.sl Mode.fr 4 (List.map eNode (List.map dNode x0Nodes)), PVal.sl Mode.fr 2 (List.map eOutp (List.map dOutp x0Outputs))]))
    (dInts x1)) =
    (12 : Int)))
    (K
    (PVal.bool
    (decide
    ((↑(List.map eI
    (if
    bothE
    (dNet
    (PVal.agg
    [PVal.str x0Name, PVal.sl Mode.fr 2 (List.map ePort (List.map dPort x0Inputs)), PVal.sl Mode.fr 5 (List.map eReg (List.map dReg x0Registers)),
    PVal.sl Mode.fr 4 (List.map eNode (List.map dNode x0Nodes)), PVal.sl Mode.fr 2 (List.map eOutp (List.map dOutp x0Outputs))]))
    (dInts x1) =
    (0 : Int) then
    if
    namedF
    (dNet
    (PVal.agg
    [PVal.str x0Name, PVal.sl Mode.fr 2 (List.map ePort (List.map dPort x0Inputs)), PVal.sl Mode.fr 5 (List.map eReg (List.map dReg x0Registers)),
    PVal.sl Mode.fr 4 (List.map eNode (List.map dNode x0Nodes)), PVal.sl Mode.fr 2 (List.map eOutp (List.map dOutp x0Outputs))])) =
    [] then
    []
    else
    pathF
    (dNet
    (PVal.agg
    [PVal.str x0Name, PVal.sl Mode.fr 2 (List.map ePort (List.map dPort x0Inputs)), PVal.sl Mode.fr 5 (List.map eReg (List.map dReg x0Registers)),
    PVal.sl Mode.fr 4 (List.map eNode (List.map dNode x0Nodes)), PVal.sl Mode.fr 2 (List.map eOutp (List.map dOutp x0Outputs))]))
    (dInts x1)
    else [])).length :
    Int) =
    (0 : Int))))
    [])
    (K (PVal.bool false) []))
    (br
    (decide
    ((if
    bothE
    (dNet
    (PVal.agg
    [PVal.str x0Name, PVal.sl Mode.fr 2 (List.map ePort (List.map dPort x0Inputs)), PVal.sl Mode.fr 5 (List.map eReg (List.map dReg x0Registers)),
    PVal.sl Mode.fr 4 (List.map eNode (List.map dNode x0Nodes)), PVal.sl Mode.fr 2 (List.map eOutp (List.map dOutp x0Outputs))]))
    (dInts x1) =
    (0 : Int) then
    if
    namedF
    (dNet
    (PVal.agg
    [PVal.str x0Name, PVal.sl Mode.fr 2 (List.map ePort (List.map dPort x0Inputs)), PVal.sl Mode.fr 5 (List.map eReg (List.map dReg x0Registers)),
    PVal.sl Mode.fr 4 (List.map eNode (List.map dNode x0Nodes)), PVal.sl Mode.fr 2 (List.map eOutp (List.map dOutp x0Outputs))])) =
    [] then
    (12 : Int)
    else (0 : Int)
    else
    bothE
    (dNet
    (PVal.agg
    [PVal.str x0Name, PVal.sl Mode.fr 2 (List.map ePort (List.map dPort x0Inputs)), PVal.sl Mode.fr 5 (List.map eReg (List.map dReg x0Registers)),
    PVal.sl Mode.fr 4 (List.map eNode (List.map dNode x0Nodes)), PVal.sl Mode.fr 2 (List.map eOutp (List.map dOutp x0Outputs))]))
    (dInts x1)) =
    (0 : Int)))
    ((sp_ref26_Path
    [PVal.agg [PVal.str x0Name, PVal.sl Mode.fr 2 x0Inputs, PVal.sl Mode.fr 5 x0Registers, PVal.sl Mode.fr 4 x0Nodes, PVal.sl Mode.fr 2 x0Outputs],
    PVal.sl Mode.fr 1 x1]
    []).pre ∧
    (sp_base_Ints
    [PVal.sl Mode.fr 1
    (List.map eI
    (if
    bothE
    (dNet
    (PVal.agg
    [PVal.str x0Name, PVal.sl Mode.fr 2 (List.map ePort (List.map dPort x0Inputs)), PVal.sl Mode.fr 5 (List.map eReg (List.map dReg x0Registers)),
    PVal.sl Mode.fr 4 (List.map eNode (List.map dNode x0Nodes)), PVal.sl Mode.fr 2 (List.map eOutp (List.map dOutp x0Outputs))]))
    (dInts x1) =
    (0 : Int) then
    if
    namedF
    (dNet
    (PVal.agg
    [PVal.str x0Name, PVal.sl Mode.fr 2 (List.map ePort (List.map dPort x0Inputs)), PVal.sl Mode.fr 5 (List.map eReg (List.map dReg x0Registers)),
    PVal.sl Mode.fr 4 (List.map eNode (List.map dNode x0Nodes)), PVal.sl Mode.fr 2 (List.map eOutp (List.map dOutp x0Outputs))])) =
    [] then
    []
    else
    pathF
    (dNet
    (PVal.agg
    [PVal.str x0Name, PVal.sl Mode.fr 2 (List.map ePort (List.map dPort x0Inputs)), PVal.sl Mode.fr 5 (List.map eReg (List.map dReg x0Registers)),
    PVal.sl Mode.fr 4 (List.map eNode (List.map dNode x0Nodes)), PVal.sl Mode.fr 2 (List.map eOutp (List.map dOutp x0Outputs))]))
    (dInts x1)
    else [])),
    PVal.sl Mode.fr 1
    (List.map eI
    (pathF
    (dNet
    (PVal.agg
    [PVal.str x0Name, PVal.sl Mode.fr 2 x0Inputs, PVal.sl Mode.fr 5 x0Registers, PVal.sl Mode.fr 4 x0Nodes, PVal.sl Mode.fr 2 x0Outputs]))
    (dInts x1)))]
    []).pre ∧
    K
    (PVal.bool
    (decide
    (dInts
    (asL
    (PVal.sl Mode.fr 1
    (List.map eI
    (if
    bothE
    (dNet
    (PVal.agg
    [PVal.str x0Name, PVal.sl Mode.fr 2 (List.map ePort (List.map dPort x0Inputs)), PVal.sl Mode.fr 5 (List.map eReg (List.map dReg x0Registers)),
    PVal.sl Mode.fr 4 (List.map eNode (List.map dNode x0Nodes)), PVal.sl Mode.fr 2 (List.map eOutp (List.map dOutp x0Outputs))]))
    (dInts x1) =
    (0 : Int) then
    if
    namedF
    (dNet
    (PVal.agg
    [PVal.str x0Name, PVal.sl Mode.fr 2 (List.map ePort (List.map dPort x0Inputs)),
    PVal.sl Mode.fr 5 (List.map eReg (List.map dReg x0Registers)), PVal.sl Mode.fr 4 (List.map eNode (List.map dNode x0Nodes)),
    PVal.sl Mode.fr 2 (List.map eOutp (List.map dOutp x0Outputs))])) =
    [] then
    []
    else
    pathF
    (dNet
    (PVal.agg
    [PVal.str x0Name, PVal.sl Mode.fr 2 (List.map ePort (List.map dPort x0Inputs)), PVal.sl Mode.fr 5 (List.map eReg (List.map dReg x0Registers)),
    PVal.sl Mode.fr 4 (List.map eNode (List.map dNode x0Nodes)), PVal.sl Mode.fr 2 (List.map eOutp (List.map dOutp x0Outputs))]))
    (dInts x1)
    else [])))) =
    dInts
    (asL
    (PVal.sl Mode.fr 1
    (List.map eI
    (pathF
    (dNet
    (PVal.agg
    [PVal.str x0Name, PVal.sl Mode.fr 2 x0Inputs, PVal.sl Mode.fr 5 x0Registers, PVal.sl Mode.fr 4 x0Nodes,
    PVal.sl Mode.fr 2 x0Outputs]))
    (dInts x1))))))))
    [])
    (K (PVal.bool false) [])))))))))))) :
    CallP env7 3 [PVal.agg [PVal.str x0Name, PVal.sl Mode.fr 2 x0Inputs, PVal.sl Mode.fr 5 x0Registers, PVal.sl Mode.fr 4 x0Nodes, PVal.sl Mode.fr 2 x0Outputs], PVal.sl Mode.fr 1 x1] [] K :=
  e_of (n := 6) h (by kernel_rfl)
end Go.Pvm.Seat
set_option maxHeartbeats 1000000
namespace Go.Pvm.Seat
open Go
theorem pre_two {P : Net → List Int → Prop} {av : List PVal} {n : Net} {d : List Int} (hav : av = [eNet n, eInts d]) (h : P n d) : av = [eNet (aN av 0), eInts (aIs av 1)] ∧ ([] : List AObj) = [] ∧ P (aN av 0) (aIs av 1) := by
  subst hav; simp only [aN_0, aIs_1]; exact ⟨trivial, trivial, h⟩
theorem law26_RetimePeriods_ok (K : PVal → List AObj → Prop) (n : Net) (d : List Int) (hs : Small n) (hd : d.length ≤ 1048576) (hK : K (.bool true) []) : CallP env7 F_law26_RetimePeriods [eNet n, eInts d] [] K := by
  obtain ⟨s1, s2, s3, s4, s5, s6, s7, s8, s9⟩ := id hs
  apply e_law26_RetimePeriods
  simp only [dNet_e, dInts_map, List.length_map, dPorts_map, dRegs_map, dNodes_map, dOutps_map]
  have hcopy : (sp_base_CopyNetlist [eNet n] []).pre := ⟨by simp only [aN_0], rfl, by simpa only [aN_0] using hs⟩
  have happ : ((0 + d.length) * 8 ≤ 140737488355328 ∧ 0 + d.length ≤ 9223372036854775807) := by omega
  refine ⟨⟨rfl, rfl⟩, ⟨by simp only [aN_0], rfl, by simpa only [aN_0] using s4⟩, br_nb (fun _ => hK) (fun hfew => br_d (fun _ => hK) (fun h25 => ⟨happ, pre_delays d hd, hcopy, happ, pre_two (P := fun n d => Small n ∧ d.length ≤ 1048576) rfl ⟨hs, hd⟩, hcopy, happ, pre_two (P := fun n d => Small n ∧ d.length ≤ 1048576) rfl ⟨hs, hd⟩, hcopy, happ, pre_two (P := fun n d => Small n ∧ d.length ≤ 1048576) rfl ⟨hs, hd⟩, pre_delays' d hd, ?_⟩))⟩
  refine br_n (fun h => absurd trivial h) (fun _ => br_n (fun h => absurd trivial h) (fun _ => ⟨pre_two (P := fun n d => Small n ∧ d.length ≤ 1048576) rfl ⟨hs, hd⟩, ?_⟩))
  have hfl : (fewF n = true) := hfew
  by_cases hb : bothE n d = 0
  · obtain ⟨hp, h400⟩ := bothE_ok hs hb
    have hal : (arrF d n.nodes []).length = n.nodes.length := PathOK.alen
    have hints : ∀ a b : List Int, a.length ≤ 1048576 → (sp_base_Ints [.sl .fr 1 (a.map eI), .sl .fr 1 (b.map eI)] []).pre := fun a b h => ⟨by simp only [aIs_0, aIs_1], rfl, by simpa only [aIs_0] using h⟩
    have hpl := pathF_length n d
    simp only [hb, if_true, decide_true, Bool.not_true, br_true, br_false, asL_sl, dInts_map, dPorts_map, dRegs_map, dNodes_map, dOutps_map]
    refine ⟨pre_two (P := fun n d => d.length = 19 ∧ n.nodes.length ≤ 1048576 ∧ nodesOK 0 n.nodes ∧ ∀ x ∈ n.nodes, x.args.length ≤ 1048576) rfl ⟨hp.len, s4, hp.ok, s6⟩, hints _ _ (by omega), ?_⟩
    refine ⟨pre_two (P := fun n d => Small n ∧ d.length = 19 ∧ nodesOK 0 n.nodes ∧ ∀ x ∈ namedF n, 0 ≤ x ∧ x < (n.nodes.length : Int)) rfl ⟨hs, hp.len, hp.ok, hp.named⟩, ?_⟩
    refine ⟨⟨by simp only [aN_0], rfl, by simp only [aN_0]; exact ⟨s3, s5⟩⟩, br_d (fun h0 => ?_) (fun h0 => ?_)⟩
    · have he : namedF n = [] := List.eq_nil_of_length_eq_zero (by omega)
      simp only [he, if_true, decide_true, br_true, List.length_nil]
      simpa using hK
    · have he : ¬ namedF n = [] := fun e => h0 (by rw [e]; rfl)
      simp only [he, if_false, decide_true, br_true]
      refine ⟨pre_two (P := fun n d => PathOK n d ∧ namedF n ≠ []) rfl ⟨hp, he⟩, hints _ _ (by omega), ?_⟩
      simpa using hK
  · have hz : decide (bothE n d = 0) = false := decide_eq_false hb
    simp only [if_neg hb, hz, decide_true, Bool.not_true, Bool.not_false, br_true, br_false, List.map_nil, List.length_nil]
    simpa using hK
end Go.Pvm.Seat
