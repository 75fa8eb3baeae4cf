/- RetimePeriods (second form, tied card): the law answers true at every netlist and list of delays whose reading is of bulk at most 1048576, and the input reads as it did; no further condition. This text: part Ba (L0 Sp1 L1 N0 T0 Q1 Ops Sp2 L2 Q2 L3 Q3 Q4 Q5 Q6). -/
import Derived.Test.YtkajgpdokbinlaaGreatDoorAc
import Derived.KernelRfl
import Derived.Test.YtkajgpdokbinlaaGreatDoorProg
set_option linter.unusedVariables false
set_option linter.unusedSimpArgs false
set_option linter.unnecessarySimpa false
namespace Go.Pvm

theorem br_iff {b : Bool} {x y : Prop} : br b x y ↔ ((b = true → x) ∧ (b = false → y)) := by cases b <;> simp [br]
@[simp] theorem br_true {x y : Prop} : br true x y = x := rfl
@[simp] theorem br_false {x y : Prop} : br false x y = y := rfl
theorem br_dec {p : Prop} [Decidable p] {x y : Prop} : br (decide p) x y ↔ ((p → x) ∧ (¬ p → y)) := by by_cases h : p <;> simp [br, h]
theorem br_not {b : Bool} {x y : Prop} : br (!b) x y = br b y x := by cases b <;> rfl
theorem br_of {b : Bool} {x y : Prop} (h1 : b = true → x) (h2 : b = false → y) : br b x y := br_iff.2 ⟨h1, h2⟩
theorem br_pos {p : Prop} [Decidable p] {x y : Prop} (hp : p) (h : x) : br (decide p) x y := br_dec.2 ⟨fun _ => h, fun h' => absurd hp h'⟩
theorem br_neg {p : Prop} [Decidable p] {x y : Prop} (hp : ¬ p) (h : y) : br (decide p) x y := br_dec.2 ⟨fun h' => absurd h' hp, fun _ => h⟩

theorem br_d {p : Prop} [Decidable p] {x y : Prop} (h1 : p → x) (h2 : ¬ p → y) : br (decide p) x y := br_dec.2 ⟨h1, h2⟩
theorem br_n {p : Prop} [Decidable p] {x y : Prop} (h1 : ¬ p → x) (h2 : p → y) : br (!decide p) x y := by rw [br_not]; exact br_d h2 h1
theorem wrap64 {n : Int} (h0 : -9223372036854775808 ≤ n) (h1 : n ≤ 9223372036854775807) : Go.IntKind.i64.wrap n = n := by
  simp only [Go.IntKind.wrap, Go.IntKind.bits]
  first | omega | (simp [Go.IntKind.signed]; omega) | skip

abbrev eI (n : Int) : PVal := .int .i64 n
abbrev eInts (l : List Int) : PVal := .sl .fr 1 (l.map eI)
@[simp] theorem asI_int (k : Go.IntKind) (n : Int) : asI (.int k n) = n := rfl
@[simp] theorem asB_bool (b : Bool) : asB (.bool b) = b := rfl
@[simp] theorem asS_str (s : ByteArray) : asS (.str s) = s := rfl
@[simp] theorem asL_sl (m : Mode) (n : Nat) (l : List PVal) : asL (.sl m n l) = l := rfl
@[simp] theorem cellAt_agg (l : List PVal) (i : Nat) : cellAt (.agg l) i = l.getD i .undef := rfl
theorem getP_map {α : Type} [Inhabited α] (e : α → PVal) (l : List α) (i : Nat) (h : i < l.length) : getP (l.map e) i = e (l.getD i default) := by
  simp [getP, List.getD_eq_getElem?_getD, h]
@[simp] theorem getP_mid {α : Type} (e : α → PVal) (a b : List α) (x : α) : getP (a.map e ++ e x :: b.map e) a.length = e x := by
  simp [getP, List.getD_eq_getElem?_getD]
@[simp] theorem natCast_toNat (n : Nat) : ((n : Int)).toNat = n := Int.toNat_natCast n
theorem wrap_succ (i : Nat) (h : i ≤ 4611686018427387904) : Go.IntKind.i64.wrap ((i : Int) + 1) = ((i + 1 : Nat) : Int) := by
  rw [wrap64 (by omega) (by omega)]; omega
theorem Int_natCast_lt {a b : Nat} : ((a : Int) < (b : Int)) ↔ a < b := Int.ofNat_lt
theorem drop_at {α : Type} [Inhabited α] {l : List α} {i : Nat} (h : i < l.length) : l.drop i = l.getD i default :: l.drop (i + 1) := by
  rw [List.drop_eq_getElem_cons h, List.getD_eq_getElem?_getD, List.getElem?_eq_getElem h]; rfl

theorem take_set_succ {α : Type} {o : List α} {i : Nat} {x : α} (h : i < o.length) : (o.set i x).take (i + 1) = o.take i ++ [x] := by
  induction o generalizing i with
  | nil => simp at h
  | cons a o ih => cases i with
    | zero => simp
    | succ i => simp at h; simp [ih h]

structure Port where
  name : ByteArray
  width : Int
  deriving Inhabited, DecidableEq
structure Reg where
  name : ByteArray
  width : Int
  init : Int
  enable : Int
  next : Int
  deriving Inhabited, DecidableEq
structure Node where
  op : Int
  width : Int
  args : List Int
  value : Int
  deriving Inhabited, DecidableEq
structure Outp where
  name : ByteArray
  node : Int
  deriving Inhabited, DecidableEq
structure Net where
  name : ByteArray
  inputs : List Port
  regs : List Reg
  nodes : List Node
  outputs : List Outp
  deriving Inhabited, DecidableEq
abbrev ePort (p : Port) : PVal := .agg [.str p.name, .int .i64 p.width]
abbrev eReg (r : Reg) : PVal := .agg [.str r.name, .int .i64 r.width, .int .i64 r.init, .int .i64 r.enable, .int .i64 r.next]
abbrev eNode (x : Node) : PVal := .agg [.int .i64 x.op, .int .i64 x.width, eInts x.args, .int .i64 x.value]
abbrev eOutp (o : Outp) : PVal := .agg [.str o.name, .int .i64 o.node]
abbrev eNet (n : Net) : PVal := .agg [.str n.name, .sl .fr 2 (n.inputs.map ePort), .sl .fr 5 (n.regs.map eReg), .sl .fr 4 (n.nodes.map eNode), .sl .fr 2 (n.outputs.map eOutp)]
def dPort (x : PVal) : Port := ⟨asS (cellAt x 0), asI (cellAt x 1)⟩
def dReg (x : PVal) : Reg := ⟨asS (cellAt x 0), asI (cellAt x 1), asI (cellAt x 2), asI (cellAt x 3), asI (cellAt x 4)⟩
def dInts (l : List PVal) : List Int := l.map asI
def dNode (x : PVal) : Node := ⟨asI (cellAt x 0), asI (cellAt x 1), dInts (asL (cellAt x 2)), asI (cellAt x 3)⟩
def dOutp (x : PVal) : Outp := ⟨asS (cellAt x 0), asI (cellAt x 1)⟩
def dNet (x : PVal) : Net := ⟨asS (cellAt x 0), (asL (cellAt x 1)).map dPort, (asL (cellAt x 2)).map dReg, (asL (cellAt x 3)).map dNode, (asL (cellAt x 4)).map dOutp⟩
@[simp] theorem dInts_map (l : List Int) : dInts (l.map eI) = l := by simp [dInts, Function.comp_def]
@[simp] theorem dPort_e (p : Port) : dPort (ePort p) = p := rfl
@[simp] theorem dReg_e (p : Reg) : dReg (eReg p) = p := rfl
@[simp] theorem dNode_e (p : Node) : dNode (eNode p) = p := by simp [dNode]
@[simp] theorem dOutp_e (p : Outp) : dOutp (eOutp p) = p := rfl
theorem map_id_of {α : Type} {e : α → PVal} {d : PVal → α} (h : ∀ x, d (e x) = x) (l : List α) : (l.map e).map d = l := by
  rw [List.map_map, show d ∘ e = id from funext h, List.map_id]
@[simp] theorem dPorts_map (l : List Port) : (l.map ePort).map dPort = l := map_id_of dPort_e l
@[simp] theorem dRegs_map (l : List Reg) : (l.map eReg).map dReg = l := map_id_of dReg_e l
@[simp] theorem dNodes_map (l : List Node) : (l.map eNode).map dNode = l := map_id_of dNode_e l
@[simp] theorem dOutps_map (l : List Outp) : (l.map eOutp).map dOutp = l := map_id_of dOutp_e l
@[simp] theorem dNet_e (n : Net) : dNet (eNet n) = n := by simp only [dNet, cellAt_agg, List.getD_cons_zero, List.getD_cons_succ, asS_str, asL_sl, dPorts_map, dRegs_map, dNodes_map, dOutps_map]
theorem getP_set_self (l : List PVal) (i : Nat) (v : PVal) (h : i < l.length) : getP (l.set i v) i = v := by simp [getP, List.getD_eq_getElem?_getD, h]
end Go.Pvm
namespace Go.Pvm
def letter (c : Int) : Bool := decide (97 ≤ c ∧ c ≤ 122 ∨ 65 ≤ c ∧ c ≤ 90)
def nameByte (i : Nat) (c : Int) : Bool := letter c || decide (i ≠ 0 ∧ (c = 95 ∨ 48 ≤ c ∧ c ≤ 57))
def nameGo (s : ByteArray) : Nat → Nat → Bool
  | 0, _ => true
  | n + 1, i => nameByte i (byteAt s i) && nameGo s n (i + 1)
def isName (s : ByteArray) : Bool := decide (1 ≤ s.size ∧ s.size ≤ 16) && nameGo s s.size 0
def leavesF (n : Net) : List Int := n.inputs.map Port.width ++ n.regs.map Reg.width
def namedF (n : Net) : List Int := n.outputs.map Outp.node ++ n.regs.flatMap fun r => [r.enable, r.next]
def fewF (n : Net) : Bool := decide (n.inputs.length ≤ 14 ∧ n.regs.length ≤ 42 ∧ (n.nodes.length ≤ 60 ∨ n.nodes.length = 400) ∧ n.outputs.length ≤ 14) && n.nodes.all fun x => decide (x.args.length ≤ 5)
/-- the first error, with its place -/
def firstE : Nat → List Int → Int × Int
  | _, [] => (0, 0)
  | i, e :: r => if e = 0 then firstE (i + 1) r else (i, e)
def delayE (d : Int) : Int := if 0 ≤ d ∧ d ≤ 1000 then 0 else 2
def delaysE (l : List Int) : Int × Int := if l.length = 19 then firstE 0 (l.map delayE) else (0, 10)
/-- arrivals: node by node -/
def mostF (out : List Int) (args : List Int) (m : Int) : Int := args.foldl (fun m a => if out.getD a.toNat 0 > m then out.getD a.toNat 0 else m) m
def arrF (d : List Int) : List Node → List Int → List Int
  | [], out => out
  | x :: r, out => arrF d r (out ++ [Go.IntKind.i64.wrap (mostF out x.args 0 + d.getD x.op.toNat 0)])
/-- each node's arguments come before it, its operation is known -/
def nodesOK : Nat → List Node → Prop
  | _, [] => True
  | i, x :: r => (0 ≤ x.op ∧ x.op < 19) ∧ (∀ a ∈ x.args, 0 ≤ a ∧ a < i) ∧ nodesOK (i + 1) r
def argCount (op : Int) : Int := if op = 0 ∨ op = 1 then 0 else if op = 2 ∨ op = 14 ∨ op = 15 ∨ op = 16 then 1 else if op = 12 then 3 else 2
def widthsOK (op width value : Int) (w : List Int) : Bool :=
  let a := w.getD 0 0; let b := w.getD 1 0; let c := w.getD 2 0
  if op = 2 then decide (a = width)
  else if 3 ≤ op ∧ op ≤ 8 then decide (a = width ∧ b = width)
  else if 9 ≤ op ∧ op ≤ 11 then decide (a = b ∧ width = 1)
  else if op = 12 then decide (a = 1 ∧ b = width ∧ c = width)
  else if op = 13 then decide (Go.IntKind.i64.wrap (a + b) = width)
  else if op = 14 then decide (Go.IntKind.i64.wrap (value + width) ≤ a)
  else if op = 15 ∨ op = 16 then decide (a ≤ width)
  else decide (a = width)
def argWidths (nodes : List Node) (args : List Int) : List Int := args.map fun a => (nodes.getD a.toNat default).width
def firstNZ : List Int → Int
  | [] => 0
  | e :: r => if e = 0 then firstNZ r else e
def idxGo (p : Int → Bool) : Nat → List Int → Int
  | _, [] => -1
  | i, x :: r => if p x then i else idxGo p (i + 1) r
def oddB (i : Int) (n : Int) : Bool := !decide (0 ≤ n ∧ n ≤ Go.IntKind.i64.wrap (i - 1))
def neB (w : Int) (n : Int) : Bool := !decide (n = w)
def maxGo (l : List Int) : Int → List Int → Int
  | m, [] => m
  | m, x :: r => maxGo l (if Go.IntKind.i64.wrap (l.getD x.toNat 0 - l.getD m.toNat 0) > 0 then x else m) r
def maxF (l : List Int) (s : List Int) : Int := maxGo l (s.getD 0 0) (s.drop 1)
def widthE (n : Int) : Int := if 1 ≤ n ∧ n ≤ 16 then 0 else 2
end Go.Pvm
namespace Go.Pvm
theorem getP_ints (l : List Int) (i : Nat) (h : i < l.length) : getP (l.map eI) i = eI (l.getD i 0) := getP_map eI l i h
theorem getP_nodes (l : List Node) (i : Nat) (h : i < l.length) : getP (l.map eNode) i = eNode (l.getD i default) := getP_map eNode l i h
theorem getP_regs (l : List Reg) (i : Nat) (h : i < l.length) : getP (l.map eReg) i = eReg (l.getD i default) := getP_map eReg l i h
theorem getP_ports (l : List Port) (i : Nat) (h : i < l.length) : getP (l.map ePort) i = ePort (l.getD i default) := getP_map ePort l i h
theorem getP_outps (l : List Outp) (i : Nat) (h : i < l.length) : getP (l.map eOutp) i = eOutp (l.getD i default) := getP_map eOutp l i h
theorem drop_at0 {l : List Int} {i : Nat} (h : i < l.length) : l.drop i = l.getD i 0 :: l.drop (i + 1) := drop_at h
theorem getD_left {l r : List Int} {i : Nat} (h : i < l.length) : (l ++ r).getD i 0 = l.getD i 0 := by
  simp [List.getD_eq_getElem?_getD, List.getElem?_append_left h]
theorem nodesOK_at {nodes : List Node} : ∀ {i : Nat}, nodesOK i nodes → ∀ {k : Nat}, k < nodes.length → (0 ≤ (nodes.getD k default).op ∧ (nodes.getD k default).op < 19) ∧ ∀ a ∈ (nodes.getD k default).args, 0 ≤ a ∧ a < ((i + k : Nat) : Int) := by
  induction nodes with
  | nil => intro i h k hk; simp at hk
  | cons x r ih =>
    intro i h k hk
    cases k with
    | zero => exact ⟨h.1, by simpa using h.2.1⟩
    | succ k =>
      have := ih h.2.2 (k := k) (by simpa using hk)
      simpa [show i + (k + 1) = i + 1 + k by omega] using this
theorem mem_getD {α : Type} [Inhabited α] {l : List α} {k : Nat} (h : k < l.length) : l.getD k default ∈ l := by
  simp [List.getD_eq_getElem?_getD, h]
theorem mem_getD0 {l : List Int} {k : Nat} (h : k < l.length) : l.getD k 0 ∈ l := by
  simp [List.getD_eq_getElem?_getD, h]
theorem len1 {w : List Int} (h : (w.length : Int) = 1) : ∃ a, w = [a] := by
  cases w with
  | nil => simp at h
  | cons a w => cases w with
    | nil => exact ⟨a, rfl⟩
    | cons b w => simp at h; omega
theorem len2 {w : List Int} (h : (w.length : Int) = 2) : ∃ a b, w = [a, b] := by
  cases w with
  | nil => simp at h
  | cons a w => obtain ⟨b, rfl⟩ := len1 (w := w) (by simp at h; omega); exact ⟨a, b, rfl⟩
theorem len3 {w : List Int} (h : (w.length : Int) = 3) : ∃ a b c, w = [a, b, c] := by
  cases w with
  | nil => simp at h
  | cons a w => obtain ⟨b, c, rfl⟩ := len2 (w := w) (by simp at h; omega); exact ⟨a, b, c, rfl⟩
theorem getP0 (x : PVal) (l : List PVal) : getP (x :: l) 0 = x := rfl
theorem getP1 (x y : PVal) (l : List PVal) : getP (x :: y :: l) 1 = y := rfl
theorem getP2 (x y z : PVal) (l : List PVal) : getP (x :: y :: z :: l) 2 = z := rfl
def aI (zs : List PVal) (i : Nat) : Int := asI (zs.getD i .undef)
def aS (zs : List PVal) (i : Nat) : ByteArray := asS (zs.getD i .undef)
def aIs (zs : List PVal) (i : Nat) : List Int := dInts (asL (zs.getD i .undef))
def aNs (zs : List PVal) (i : Nat) : List Node := (asL (zs.getD i .undef)).map dNode
def aPs (zs : List PVal) (i : Nat) : List Port := (asL (zs.getD i .undef)).map dPort
def aOs (zs : List PVal) (i : Nat) : List Outp := (asL (zs.getD i .undef)).map dOutp
def aRs (zs : List PVal) (i : Nat) : List Reg := (asL (zs.getD i .undef)).map dReg
def aN (zs : List PVal) (i : Nat) : Net := dNet (zs.getD i .undef)
def aX (zs : List PVal) (i : Nat) : Node := dNode (zs.getD i .undef)
abbrev eNodes (l : List Node) : PVal := .sl .fr 4 (l.map eNode)
abbrev ePorts (l : List Port) : PVal := .sl .fr 2 (l.map ePort)
abbrev eOutps (l : List Outp) : PVal := .sl .fr 2 (l.map eOutp)
abbrev eRegs (l : List Reg) : PVal := .sl .fr 5 (l.map eReg)
/-- a netlist whose lists are short -/
def Small (n : Net) : Prop := n.name.size ≤ 1048576 ∧ n.inputs.length ≤ 1048576 ∧ n.regs.length ≤ 1048576 ∧ n.nodes.length ≤ 1048576 ∧ n.outputs.length ≤ 1048576 ∧ (∀ x ∈ n.nodes, x.args.length ≤ 1048576) ∧ (∀ p ∈ n.inputs, p.name.size ≤ 1048576) ∧ (∀ p ∈ n.regs, p.name.size ≤ 1048576) ∧ (∀ p ∈ n.outputs, p.name.size ≤ 1048576)
end Go.Pvm
namespace Go.Pvm.Seat
open Go.Proofs
abbrev F_gosem_cut_init : Nat := 2
abbrev F_law26_RetimePeriods : Nat := 3
abbrev F_law26_RetimeJoined : Nat := 4
abbrev F_law26_RetimeFaster : Nat := 5
abbrev F_law26_RetimeLists : Nat := 6
abbrev F_law26_RetimeSame : Nat := 7
abbrev F_law26_awake : Nat := 8
abbrev F_law26_few : Nat := 9
abbrev F_retime_CheckDelays : Nat := 10
abbrev F_base_CopyInts : Nat := 11
abbrev F_retime_ArrivalsOf : Nat := 12
abbrev F_base_CopyNetlist : Nat := 13
abbrev F_retime_PeriodOf : Nat := 14
abbrev F_retime_PathOf : Nat := 15
abbrev F_ref26_CheckDelays : Nat := 16
abbrev F_law26_bothErr : Nat := 17
abbrev F_base_Ints : Nat := 18
abbrev F_ref26_Arrivals : Nat := 19
abbrev F_ref26_Period : Nat := 20
abbrev F_ref26_Named : Nat := 21
abbrev F_ref26_Path : Nat := 22
abbrev F_retime_JoinedOf : Nat := 23
abbrev F_ref22_Err : Nat := 24
abbrev F_base_SameNetlist : Nat := 25
abbrev F_ref26_Joined : Nat := 26
abbrev F_retime_BestFor : Nat := 27
abbrev F_retime_RetimedBy : Nat := 28
abbrev F_base_IsNode : Nat := 29
abbrev F_base_Has : Nat := 30
abbrev F_retime_CheckRetimed : Nat := 31
abbrev F_ref26_CheckRetimed : Nat := 32
abbrev F_ref26_Retimed : Nat := 33
abbrev F_ref22_SequenceErr : Nat := 34
abbrev F_base_Within : Nat := 35
abbrev F_netlist_TraceOf : Nat := 36
abbrev F_base_CopyLists : Nat := 37
abbrev F_base_Lists : Nat := 38
abbrev F_law26_Net : Nat := 39
abbrev F_law26_Delays : Nat := 40
abbrev F_retime_MovableIn : Nat := 41
abbrev F_retime_each_int : Nat := 42
abbrev F_retime_CheckDelays_c1 : Nat := 43
abbrev F_retime_unless : Nat := 44
abbrev F_retime_within : Nat := 45
abbrev F_retime_openDelays : Nat := 46
abbrev F_retime_net_arrivals : Nat := 47
abbrev F_base_CopyPorts : Nat := 48
abbrev F_base_CopyNodes : Nat := 49
abbrev F_base_CopyOutputs : Nat := 50
abbrev F_retime_net_period : Nat := 51
abbrev F_retime_net_ends : Nat := 52
abbrev F_retime_PathOf_c1 : Nat := 53
abbrev F_slices_MaxFunc_int_int : Nat := 54
abbrev F_slices_Reverse_int_int : Nat := 55
abbrev F_ref26_DelaysErr : Nat := 56
abbrev F_retime_open : Nat := 57
abbrev F_retime_net_clone : Nat := 58
abbrev F_slices_IndexFunc_api_NetRegister_api_NetRegister : Nat := 59
abbrev F_retime_JoinedOf_c1 : Nat := 60
abbrev F_retime_net_register : Nat := 61
abbrev F_base_NetErr : Nat := 62
abbrev F_base_SamePorts : Nat := 63
abbrev F_base_SameNodes : Nat := 64
abbrev F_base_SameOutputs : Nat := 65
abbrev F_ref26_alike : Nat := 66
abbrev F_ref26_registerOf : Nat := 67
abbrev F_retime_first : Nat := 68
abbrev F_retime_search_visit : Nat := 69
abbrev F_retime_movesErr : Nat := 70
abbrev F_retime_net_made : Nat := 71
abbrev F_retime_same : Nat := 72
abbrev F_ref26_Moved : Nat := 73
abbrev F_ref22_allErr : Nat := 74
abbrev F_netlist_run : Nat := 75
abbrev F_retime_net_movable : Nat := 76
abbrev F_slices_Sort_int_int : Nat := 77
abbrev F_slices_Compact_int_int : Nat := 78
abbrev F_netlist_CheckNetlist : Nat := 79
abbrev F_slices_Clone_api_Port_api_Port : Nat := 80
abbrev F_slices_Clone_api_NetRegister_api_NetRegister : Nat := 81
abbrev F_slices_Clone_api_Output_api_Output : Nat := 82
abbrev F_slices_Clone_api_Node_api_Node : Nat := 83
abbrev F_slices_Clone_int_int : Nat := 84
abbrev F_base_IsName : Nat := 85
abbrev F_base_PortsErr : Nat := 86
abbrev F_base_IsWidth : Nat := 87
abbrev F_base_Fits : Nat := 88
abbrev F_base_NodesErr : Nat := 89
abbrev F_base_NetLeaves : Nat := 90
abbrev F_base_IsCondition : Nat := 91
abbrev F_base_OutputsErr : Nat := 92
abbrev F_retime_net_moveErr : Nat := 93
abbrev F_retime_net_moved : Nat := 94
abbrev F_slices_Clip_int_int : Nat := 95
abbrev F_slices_Equal_api_Port_api_Port : Nat := 96
abbrev F_slices_Equal_api_NetRegister_api_NetRegister : Nat := 97
abbrev F_slices_Equal_api_Output_api_Output : Nat := 98
abbrev F_slices_EqualFunc_api_Node_api_Node_api_Node_api_Node : Nat := 99
abbrev F_retime_same_c1 : Nat := 100
abbrev F_slices_Equal_int_int : Nat := 101
abbrev F_ref26_IsMovable : Nat := 102
abbrev F_base_Decimal : Nat := 103
abbrev F_base_NodeValues : Nat := 104
abbrev F_base_LeafValues : Nat := 105
abbrev F_base_NetResets : Nat := 106
abbrev F_ref22_InputsErr : Nat := 107
abbrev F_netlist_open : Nat := 108
abbrev F_netlist_first : Nat := 109
abbrev F_netlist_unless : Nat := 110
abbrev F_netlist_each_int : Nat := 111
abbrev F_netlist_run_c1 : Nat := 112
abbrev F_netlist_circuit_inputsErr : Nat := 113
abbrev F_netlist_circuit_reset : Nat := 114
abbrev F_netlist_circuit_clock : Nat := 115
abbrev F_retime_net_isMovable : Nat := 116
abbrev F_slices_pdqsortOrdered_int : Nat := 117
abbrev F_math_bits_Len : Nat := 118
abbrev F_netlist_CheckNetlist_c1 : Nat := 119
abbrev F_netlist_within : Nat := 120
abbrev F_netlist_CheckNetlist_c2 : Nat := 121
abbrev F_netlist_isName : Nat := 122
abbrev F_netlist_CheckNetlist_c3 : Nat := 123
abbrev F_netlist_each_api_Port : Nat := 124
abbrev F_netlist_CheckNetlist_c3_c1 : Nat := 125
abbrev F_netlist_names_err : Nat := 126
abbrev F_netlist_isWidth : Nat := 127
abbrev F_netlist_CheckNetlist_c4 : Nat := 128
abbrev F_netlist_CheckNetlist_c5 : Nat := 129
abbrev F_netlist_each_api_NetRegister : Nat := 130
abbrev F_netlist_CheckNetlist_c5_c1 : Nat := 131
abbrev F_netlist_fits : Nat := 132
abbrev F_netlist_CheckNetlist_c6 : Nat := 133
abbrev F_graph_CheckNodes : Nat := 134
abbrev F_netlist_leaves : Nat := 135
abbrev F_netlist_CheckNetlist_c7 : Nat := 136
abbrev F_netlist_CheckNetlist_c7_c1 : Nat := 137
abbrev F_netlist_CheckNetlist_c8 : Nat := 138
abbrev F_netlist_CheckNetlist_c9 : Nat := 139
abbrev F_netlist_each_api_Output : Nat := 140
abbrev F_netlist_CheckNetlist_c9_c1 : Nat := 141
abbrev F_base_Power : Nat := 142
abbrev F_base_nodeErr : Nat := 143
abbrev F_retime_net_newName : Nat := 144
abbrev F_slices_ContainsFunc_api_Port_api_Port : Nat := 145
abbrev F_retime_net_moveErr_c1 : Nat := 146
abbrev F_slices_ContainsFunc_api_NetRegister_api_NetRegister : Nat := 147
abbrev F_retime_net_moveErr_c2 : Nat := 148
abbrev F_retime_net_widths : Nat := 149
abbrev F_graph_ValuesOf : Nat := 150
abbrev F_ref26_isAlways : Nat := 151
abbrev F_base_Size : Nat := 152
abbrev F_base_Apply : Nat := 153
abbrev F_ref02_ValuesErr : Nat := 154
abbrev F_netlist_valuesErr : Nat := 155
abbrev F_slices_Concat_int_int : Nat := 156
abbrev F_retime_net_isOne : Nat := 157
abbrev F_slices_insertionSortOrdered_int : Nat := 158
abbrev F_slices_heapSortOrdered_int : Nat := 159
abbrev F_slices_breakPatternsOrdered_int : Nat := 160
abbrev F_slices_choosePivotOrdered_int : Nat := 161
abbrev F_slices_reverseRangeOrdered_int : Nat := 162
abbrev F_slices_partialInsertionSortOrdered_int : Nat := 163
abbrev F_cmp_Less_int : Nat := 164
abbrev F_slices_partitionEqualOrdered_int : Nat := 165
abbrev F_slices_partitionOrdered_int : Nat := 166
abbrev F_math_bits_Len32 : Nat := 167
abbrev F_math_bits_Len64 : Nat := 168
abbrev F_graph_each_int : Nat := 169
abbrev F_graph_CheckNodes_c1 : Nat := 170
abbrev F_graph_unless : Nat := 171
abbrev F_graph_isWidth : Nat := 172
abbrev F_graph_operations : Nat := 173
abbrev F_graph_each_api_Node : Nat := 174
abbrev F_graph_CheckNodes_c2 : Nat := 175
abbrev F_graph_first : Nat := 176
abbrev F_graph_within : Nat := 177
abbrev F_slices_ContainsFunc_int_int : Nat := 178
abbrev F_graph_CheckNodes_c2_c1 : Nat := 179
abbrev F_graph_valueErr : Nat := 180
abbrev F_base_ArgCount : Nat := 181
abbrev F_base_widthsFit : Nat := 182
abbrev F_strconv_Itoa : Nat := 183
abbrev F_slices_IndexFunc_api_Port_api_Port : Nat := 184
abbrev F_graph_graphErr : Nat := 185
abbrev F_graph_ValuesOf_c1 : Nat := 186
abbrev F_graph_fits : Nat := 187
abbrev F_graph_valued : Nat := 188
abbrev F_base_Bit : Nat := 189
abbrev F_base_Signed : Nat := 190
abbrev F_base_IsValues : Nat := 191
abbrev F_netlist_each_int_2 : Nat := 192
abbrev F_netlist_valuesErr_c1 : Nat := 193
abbrev F_slices_Grow_int_int : Nat := 194
abbrev F_slices_siftDownOrdered_int : Nat := 195
abbrev F_slices_nextPowerOfTwo : Nat := 196
abbrev F_slices_xorshift_Next : Nat := 197
abbrev F_slices_medianAdjacentOrdered_int : Nat := 198
abbrev F_slices_medianOrdered_int : Nat := 199
abbrev F_cmp_isNaN_int : Nat := 200
abbrev F_graph_operations_c1 : Nat := 201
abbrev F_graph_anyWidth : Nat := 202
abbrev F_graph_same : Nat := 203
abbrev F_graph_operations_c2 : Nat := 204
abbrev F_graph_mask : Nat := 205
abbrev F_graph_binary : Nat := 206
abbrev F_graph_operations_c3 : Nat := 207
abbrev F_graph_operations_c4 : Nat := 208
abbrev F_graph_operations_c5 : Nat := 209
abbrev F_graph_operations_c6 : Nat := 210
abbrev F_graph_operations_c7 : Nat := 211
abbrev F_graph_operations_c8 : Nat := 212
abbrev F_graph_relation : Nat := 213
abbrev F_graph_operations_c9 : Nat := 214
abbrev F_graph_operations_c10 : Nat := 215
abbrev F_graph_operations_c11 : Nat := 216
abbrev F_graph_signed : Nat := 217
abbrev F_graph_operations_c12 : Nat := 218
abbrev F_graph_operations_c13 : Nat := 219
abbrev F_graph_operations_c14 : Nat := 220
abbrev F_graph_operations_c15 : Nat := 221
abbrev F_graph_operations_c16 : Nat := 222
abbrev F_graph_operations_c17 : Nat := 223
abbrev F_graph_extended : Nat := 224
abbrev F_graph_operations_c18 : Nat := 225
abbrev F_graph_operations_c19 : Nat := 226
abbrev F_graph_shifted : Nat := 227
abbrev F_graph_operations_c20 : Nat := 228
abbrev F_graph_operations_c21 : Nat := 229
abbrev F_slices_IndexFunc_int_int : Nat := 230
abbrev F_strconv_Itoa_2 : Nat := 231
abbrev F_graph_applied : Nat := 232
abbrev F_slices_order2Ordered_int : Nat := 233
abbrev F_graph_same_c1 : Nat := 234
abbrev F_graph_binary_c1 : Nat := 235
abbrev F_graph_compared : Nat := 236
abbrev F_graph_relation_c1 : Nat := 237
abbrev F_graph_truth : Nat := 238
abbrev F_strconv_FormatInt : Nat := 239
abbrev F_strconv_small : Nat := 240
abbrev F_strconv_numDigits : Nat := 241
abbrev F_strconv_formatBase10 : Nat := 242
abbrev F_strconv_formatBits : Nat := 243
abbrev F_strconv_log10Pow2 : Nat := 244
abbrev F_strconv_bool2_int : Nat := 245
abbrev F_strconv_isPowerOfTwo : Nat := 246
abbrev F_math_bits_TrailingZeros : Nat := 247
abbrev F_math_bits_TrailingZeros32 : Nat := 248
abbrev F_math_bits_TrailingZeros64 : Nat := 249
abbrev T_int64 : Nat := 2
abbrev T_int : Nat := 3
abbrev T_bool : Nat := 4
abbrev T_uint8 : Nat := 5
abbrev T_internal_abi_BoundsErrorCode : Nat := 6
abbrev T_runtime_boundsError : Nat := 8
abbrev T_string : Nat := 9
abbrev T_runtime_errorString : Nat := 10
abbrev T_runtime_plainError : Nat := 11
abbrev T_uintptr : Nat := 12
abbrev T_runtime_errorAddressString : Nat := 14
abbrev T_p_runtime_TypeAssertionError : Nat := 15
abbrev T_p_runtime_PanicNilError : Nat := 16
abbrev T_p_abi_Type : Nat := 17
abbrev T_internal_runtime_maps_unhashableTypeError : Nat := 19
abbrev T_int32 : Nat := 21
abbrev T_s_api_Port : Nat := 22
abbrev T_s_api_NetRegister : Nat := 23
abbrev T_s_api_Node : Nat := 24
abbrev T_s_api_Output : Nat := 25
abbrev T_api_Netlist : Nat := 27
abbrev T_s_int : Nat := 28
abbrev T_api_Errno : Nat := 31
abbrev T_api_Node : Nat := 59
abbrev T_s_s_int : Nat := 66
abbrev T_retime_net : Nat := 81
abbrev T_api_Output : Nat := 92
abbrev T_api_NetRegister : Nat := 94
abbrev T_retime_search : Nat := 108
abbrev T_api_Port : Nat := 118
abbrev T_s_api_Errno : Nat := 127
abbrev T_p_retime_search : Nat := 128
abbrev T_netlist_circuit : Nat := 138
abbrev T_uint : Nat := 147
abbrev T_map_string_bool : Nat := 148
abbrev T_netlist_names : Nat := 149
abbrev T_8_func_int_api_Errno : Nat := 159
abbrev T_s_uint8 : Nat := 168
abbrev T_slices_sortedHint : Nat := 174
abbrev T_uint32 : Nat := 182
abbrev T_uint64 : Nat := 184
abbrev T_graph_operation : Nat := 188
abbrev T_19_graph_operation : Nat := 189
abbrev T_slices_xorshift : Nat := 200
abbrev T_p_int : Nat := 204
abbrev T_p__19_graph_operation : Nat := 210
abbrev T_p_slices_xorshift : Nat := 211
abbrev T_24_uint8 : Nat := 214
abbrev T_20_uint64 : Nat := 218
abbrev T_65_uint8 : Nat := 219
abbrev T_32_uint8 : Nat := 220
abbrev T_64_uint8 : Nat := 221
abbrev T_runtime_TypeAssertionError : Nat := 223
abbrev T_0_p_runtime_PanicNilError : Nat := 224
abbrev T_runtime_PanicNilError : Nat := 226
abbrev T_internal_abi_TFlag : Nat := 228
abbrev T_internal_abi_Kind : Nat := 229
abbrev T_p_uint8 : Nat := 231
abbrev T_internal_abi_NameOff : Nat := 232
abbrev T_internal_abi_TypeOff : Nat := 233
abbrev T_internal_abi_Type : Nat := 235
abbrev T_unsafe_Pointer : Nat := 236
def liveH : Nat → Nat → List Nat
  | 5, 0 => [1, 2, 3, 7, 9, 10, 12]
  | 5, 2 => [1, 3, 7, 22, 23, 24, 25]
  | 9, 0 => [1, 3]
  | 15, 0 => [2, 10, 11, 12]
  | 16, 0 => [0, 4]
  | 18, 0 => [0, 1, 5]
  | 19, 0 => [1, 2, 5, 6]
  | 19, 2 => [1, 2, 5, 6, 7, 8]
  | 20, 0 => [5, 6, 7, 8]
  | 21, 0 => [1, 3, 4]
  | 21, 2 => [1, 3, 5]
  | 22, 0 => [1, 2, 5, 6, 7, 8]
  | 22, 2 => [2, 5, 7, 9]
  | 22, 4 => [2, 5, 7, 9, 10, 11]
  | 23, 0 => [1, 2, 5, 7, 8, 28, 29, 30]
  | 23, 2 => [1, 2, 5, 7, 8, 61, 62]
  | 25, 0 => [2, 3, 5]
  | 26, 0 => [1, 2, 4, 5, 6]
  | 26, 2 => [1, 2, 4, 5, 6, 7]
  | 26, 4 => [1, 2, 4, 5, 8, 9]
  | 26, 6 => [1, 2, 5, 8, 10]
  | 30, 0 => [0, 1, 5]
  | 33, 0 => [1, 2, 4, 7]
  | 37, 0 => [0, 3, 4]
  | 38, 0 => [0, 1, 5]
  | 42, 0 => [1, 9, 10, 11]
  | 47, 0 => [1, 5, 13, 14, 15]
  | 47, 2 => [1, 5, 7, 8, 13, 14, 15, 20, 21, 22]
  | 49, 0 => [0, 3, 4]
  | 51, 0 => [5, 6, 13, 14, 15]
  | 52, 0 => [1, 3, 10, 11, 12]
  | 52, 2 => [3, 24, 25, 26]
  | 54, 0 => [0, 1, 5, 6]
  | 55, 0 => [0, 2, 3]
  | 58, 0 => [2, 3, 29, 30]
  | 59, 0 => [0, 1, 7, 8]
  | 62, 0 => [1, 6]
  | 62, 2 => [1, 6, 7, 8]
  | 62, 4 => [1, 6, 7, 9]
  | 62, 6 => [1, 12]
  | 63, 0 => [0, 1, 5]
  | 64, 0 => [0, 1, 5]
  | 65, 0 => [0, 1, 5]
  | 68, 0 => [5, 6, 7]
  | 69, 0 => [0, 2, 3, 5, 65, 66, 67]
  | 71, 0 => [1, 4, 6, 11, 12, 13]
  | 73, 0 => [1, 2, 4, 6, 7]
  | 73, 2 => [1, 2, 4, 6, 8]
  | 73, 4 => [1, 2, 4, 6, 9, 10, 11, 12, 13, 14]
  | 74, 0 => [1, 2, 5]
  | 75, 0 => [4, 5, 7, 41, 42, 43]
  | 76, 0 => [1, 3, 8, 9]
  | 78, 0 => [0, 3]
  | 78, 2 => [0, 3, 4, 5]
  | 79, 0 => [24, 25]
  | 85, 0 => [0, 3]
  | 86, 0 => [0, 4]
  | 86, 2 => [0, 4, 5]
  | 89, 0 => [0, 1, 6]
  | 90, 0 => [1, 3, 4]
  | 90, 2 => [1, 3, 5]
  | 92, 0 => [0, 1, 6]
  | 92, 2 => [0, 1, 6, 7]
  | 94, 0 => [1, 2, 4, 5, 6, 7, 8, 32, 33, 34]
  | 96, 0 => [0, 1, 12, 13]
  | 97, 0 => [0, 1, 12, 13]
  | 98, 0 => [0, 1, 12, 13]
  | 99, 0 => [1, 2, 15, 16, 17]
  | 101, 0 => [0, 1, 12, 13]
  | 102, 0 => [2, 5, 6, 7]
  | 103, 0 => [0, 3, 4]
  | 104, 0 => [0, 1, 5, 6]
  | 104, 2 => [0, 1, 5, 6, 7, 8, 9]
  | 106, 0 => [1, 3, 4]
  | 109, 0 => [5, 6, 7]
  | 111, 0 => [1, 9, 10, 11]
  | 114, 0 => [3, 8, 9, 10]
  | 115, 0 => [2, 3, 6, 7, 8, 31, 32, 33]
  | 115, 2 => [2, 6, 7, 8, 48, 49, 50]
  | 116, 0 => [2, 6, 17, 18, 19]
  | 117, 0 => [0, 1, 2, 3, 8, 9]
  | 122, 0 => [0, 7, 8]
  | 124, 0 => [1, 9, 10, 11]
  | 130, 0 => [1, 9, 10, 11]
  | 135, 0 => [1, 3, 9, 10, 11]
  | 135, 2 => [3, 22, 23, 24]
  | 140, 0 => [1, 9, 10, 11]
  | 143, 0 => [0, 1, 2, 7, 8]
  | 149, 0 => [1, 2, 3, 10, 11, 12]
  | 149, 2 => [2, 3, 27, 28, 29]
  | 156, 0 => [0, 3, 9, 10, 11]
  | 156, 2 => [6, 25, 26, 27]
  | 158, 0 => [0, 1, 2, 6]
  | 158, 2 => [0, 1, 2, 6, 7]
  | 159, 0 => [0, 6, 7, 8, 9]
  | 159, 2 => [0, 6, 7, 10]
  | 160, 0 => [0, 1, 6, 7, 8, 9]
  | 162, 0 => [0, 6, 7]
  | 163, 0 => [0, 1, 2, 7, 8]
  | 163, 2 => [0, 1, 2, 7, 8]
  | 163, 4 => [0, 1, 2, 7, 8, 9]
  | 163, 6 => [0, 1, 2, 7, 8, 10]
  | 165, 0 => [0, 1, 9, 10]
  | 165, 2 => [0, 1, 9, 10]
  | 165, 4 => [0, 1, 9, 10]
  | 166, 0 => [0, 1, 10, 11]
  | 166, 2 => [0, 1, 10, 11]
  | 166, 4 => [0, 1, 10, 11]
  | 166, 6 => [0, 1, 10, 11]
  | 166, 8 => [0, 1, 10, 11]
  | 169, 0 => [1, 9, 10, 11]
  | 174, 0 => [1, 9, 10, 11]
  | 175, 0 => [4, 6, 9, 12, 56, 57, 58]
  | 176, 0 => [5, 6, 7]
  | 182, 0 => [0, 3, 5, 6]
  | 184, 0 => [0, 1, 7, 8]
  | 188, 0 => [0, 1, 5, 6, 11, 12, 13]
  | 191, 0 => [0, 1, 5]
  | 192, 0 => [1, 9, 10, 11]
  | 195, 0 => [0, 2, 3, 8]
  | 230, 0 => [0, 1, 7, 8]
  | 232, 0 => [0, 1, 3, 6, 9, 10, 14, 15, 16]
  | 242, 0 => [0, 1, 4]
  | 243, 0 => [0, 1, 3, 4, 10, 11, 12, 13, 14, 15, 16]
  | 243, 2 => [0, 1, 3, 4, 10, 11, 12, 13, 17]
  | _, _ => []
def cutH : Nat → Nat → Option (List Nat)
  | 175, 4 => some [2, 3, 4, 5, 6]
  | _, _ => none
def zc (P : Program) : Nat → Nat → List (Option (Nat × Nat))
  | 0, _ => [none]
  | n+1, t => match P.underlying t with
    | some (.struct fs) => fs.toList.flatMap fun f => zc P n f.type
    | some (.array k e) => (List.replicate k (zc P n e)).flatten
    | some (.slice e) => [some (e, P.cellsOf e)]
    | _ => [none]
def specAt : List (Nat × SpecF) → Nat → Option SpecF
  | [], _ => none
  | (k, g) :: r, f => bif Nat.beq k f then some g else specAt r f
noncomputable def prog : Program := Tryz.prog
noncomputable def envOf (specs : List (Nat × SpecF)) : Env where
  P := Tryz.prog
  look := fun f => Tryz.prog.funcs[f]?
  glob := fun _ => none
  spec := specAt specs
  h := { zcell := zc Tryz.prog 5, keep := fun _ => false, ownRet := fun f => [F_base_CopyInts, F_base_CopyNetlist, F_base_CopyLists, F_base_CopyPorts, F_base_CopyNodes, F_base_CopyOutputs, F_retime_net_clone, F_slices_Clone_api_Port_api_Port, F_slices_Clone_api_NetRegister_api_NetRegister, F_slices_Clone_api_Output_api_Output, F_slices_Clone_api_Node_api_Node, F_slices_Clone_int_int, F_slices_Clip_int_int].contains f, lent := fun f => if f = F_graph_applied then [3] else [], raw := fun f => [F_slices_Reverse_int_int, F_slices_Sort_int_int, F_slices_Compact_int_int].contains f |> fun b => bif b then [0] else [], live := liveH, cut := cutH }
noncomputable def env0 : Env := envOf []
end Go.Pvm.Seat
namespace Go.Pvm.Seat
open Go
theorem names_ok : prog.funcs.toList.all (fun fn => !(fn.name == "runtime.NumGoroutine")) = true := by kernel_rfl
theorem wf_ok : prog.funcs.toList.all (fun fn => match fn.body with | some c => wfC fn.ntmps c | none => true) = true := by kernel_rfl
theorem mixed_ok : prog.follows .mixedOrders = true := by kernel_rfl
theorem mem_funcs {f : Nat} {fn : Func} (h : prog.funcs[f]? = some fn) : fn ∈ prog.funcs.toList := by
  rw [← Array.getElem?_toList] at h
  exact List.mem_of_getElem? h
def SpecOK (f : Nat) (g : SpecF) : Prop := ∀ args objs, (g args objs).pre → CallOK env0 f args objs (g args objs).val (g args objs).objs
def AllOK (l : List (Nat × SpecF)) : Prop := ∀ p ∈ l, SpecOK p.1 p.2
theorem specAt_mem {l : List (Nat × SpecF)} {f : Nat} {g : SpecF} (h : specAt l f = some g) : (f, g) ∈ l := by
  induction l with
  | nil => simp [specAt] at h
  | cons p r ih =>
    obtain ⟨k, g'⟩ := p
    simp only [specAt] at h
    cases hb : Nat.beq k f with
    | true =>
      rw [hb] at h
      have := Nat.eq_of_beq_eq_true hb
      subst this
      simp at h; subst h; exact List.mem_cons_self
    | false => rw [hb] at h; exact List.mem_cons_of_mem _ (ih h)
theorem envOK {l : List (Nat × SpecF)} (h : AllOK l) : EnvOK (envOf l) where
  look := fun f fn h => h
  name := fun f fn hf => by
    have := List.all_eq_true.1 names_ok fn (mem_funcs hf)
    simpa using this
  globClean := fun g x h => by cases h
  spec := fun f g hg args objs hp => h _ (specAt_mem hg) args objs hp
  run := fun f g hg => by cases hg
theorem wfEnv (l : List (Nat × SpecF)) : WfEnv (envOf l) := fun f fn c hf hb => by
  have := List.all_eq_true.1 wf_ok fn (mem_funcs hf)
  rw [hb] at this
  exact this
/-- from the conditions over some specifications to a new one -/
theorem specOK {l : List (Nat × SpecF)} (hl : AllOK l) {f : Nat} {g : SpecF} (h : ∀ args objs, (g args objs).pre → CallP (envOf l) f args objs fun v os => v = (g args objs).val ∧ os = (g args objs).objs) : SpecOK f g :=
  fun args objs hp => callOK_of (envOK hl) (wfEnv l) mixed_ok (h args objs hp)
theorem allOK_nil : AllOK [] := fun p h => by simp at h
theorem allOK_cons {l : List (Nat × SpecF)} {f : Nat} {g : SpecF} (h : SpecOK f g) (hl : AllOK l) : AllOK ((f, g) :: l) := fun p hp => by
  rcases List.mem_cons.1 hp with rfl | hp
  · exact h
  · exact hl p hp
end Go.Pvm.Seat
namespace Go.Pvm.Seat
open Go
def sp_base_Ints : SpecF := fun av os => ⟨av = [eInts (aIs av 0), eInts (aIs av 1)] ∧ os = [] ∧ (aIs av 0).length ≤ 1048576, .bool (decide (aIs av 0 = aIs av 1)), []⟩
def sp_base_SamePorts : SpecF := fun av os => ⟨av = [ePorts (aPs av 0), ePorts (aPs av 1)] ∧ os = [] ∧ (aPs av 0).length ≤ 1048576, .bool (decide (aPs av 0 = aPs av 1)), []⟩
def sp_base_SameOutputs : SpecF := fun av os => ⟨av = [eOutps (aOs av 0), eOutps (aOs av 1)] ∧ os = [] ∧ (aOs av 0).length ≤ 1048576, .bool (decide (aOs av 0 = aOs av 1)), []⟩
def sp_base_IsName : SpecF := fun av os => ⟨av = [.str (aS av 0)] ∧ os = [] ∧ True, .bool (isName (aS av 0)), []⟩
def sp_netlist_isName : SpecF := fun av os => ⟨av = [.str (aS av 0)] ∧ os = [] ∧ (aS av 0).size ≤ 1048576, .bool (isName (aS av 0)), []⟩
def sp_base_NetLeaves : SpecF := fun av os => ⟨av = [eNet (aN av 0)] ∧ os = [] ∧ (aN av 0).regs.length ≤ 1048576 ∧ (aN av 0).inputs.length ≤ 1048576, eInts (leavesF (aN av 0)), []⟩
def sp_netlist_leaves : SpecF := fun av os => ⟨av = [eNet (aN av 0)] ∧ os = [] ∧ (aN av 0).regs.length ≤ 1048576 ∧ (aN av 0).inputs.length ≤ 1048576, eInts (leavesF (aN av 0)), []⟩
def sp_ref26_Named : SpecF := fun av os => ⟨av = [eNet (aN av 0)] ∧ os = [] ∧ (aN av 0).regs.length ≤ 1048576 ∧ (aN av 0).outputs.length ≤ 1048576, eInts (namedF (aN av 0)), []⟩
def sp_base_CopyNodes : SpecF := fun av os => ⟨av = [eNodes (aNs av 0)] ∧ os = [] ∧ (aNs av 0).length ≤ 1048576 ∧ ∀ x ∈ aNs av 0, x.args.length ≤ 1048576, .own 0, [.row false T_api_Node 4 ((aNs av 0).map eNode)]⟩
def sp_base_widthsFit : SpecF := fun av os => ⟨av = [eNodes (aNs av 0), eNode (aX av 1)] ∧ os = [] ∧ (aX av 1).args.length ≤ 1048576 ∧ (2 ≤ (aX av 1).op ∧ (aX av 1).op < 19) ∧ ((aX av 1).args.length : Int) = argCount (aX av 1).op ∧ ∀ a ∈ (aX av 1).args, 0 ≤ a ∧ a < ((aNs av 0).length : Int), .bool (widthsOK (aX av 1).op (aX av 1).width (aX av 1).value (argWidths (aNs av 0) (aX av 1).args)), []⟩
def sp_law26_few : SpecF := fun av os => ⟨av = [eNet (aN av 0)] ∧ os = [] ∧ (aN av 0).nodes.length ≤ 1048576, .bool (fewF (aN av 0)), []⟩
def sp_ref26_CheckDelays : SpecF := fun av os => ⟨av = [eInts (aIs av 0)] ∧ os = [] ∧ (aIs av 0).length ≤ 1048576, .tup [eI (delaysE (aIs av 0)).1, eI (delaysE (aIs av 0)).2], []⟩
def sp_ref26_Arrivals : SpecF := fun av os => ⟨av = [eNet (aN av 0), eInts (aIs av 1)] ∧ os = [] ∧ (aIs av 1).length = 19 ∧ (aN av 0).nodes.length ≤ 1048576 ∧ nodesOK 0 (aN av 0).nodes ∧ ∀ x ∈ (aN av 0).nodes, x.args.length ≤ 1048576, eInts (arrF (aIs av 1) (aN av 0).nodes []), []⟩
def sp_retime_net_arrivals : SpecF := fun av os => ⟨av = [eNet (aN av 0), eInts (aIs av 1)] ∧ os = [] ∧ (aIs av 1).length = 19 ∧ (aN av 0).nodes.length ≤ 1048576 ∧ nodesOK 0 (aN av 0).nodes ∧ ∀ x ∈ (aN av 0).nodes, x.args.length ≤ 1048576, eInts (arrF (aIs av 1) (aN av 0).nodes []), []⟩
def sp_retime_first : SpecF := fun av os => ⟨av = [eInts (aIs av 0)] ∧ os = [] ∧ (aIs av 0).length ≤ 1048576, eI (firstNZ (aIs av 0)), []⟩
def sp_netlist_first : SpecF := fun av os => ⟨av = [eInts (aIs av 0)] ∧ os = [] ∧ (aIs av 0).length ≤ 1048576, eI (firstNZ (aIs av 0)), []⟩
def sp_graph_first : SpecF := fun av os => ⟨av = [eInts (aIs av 0)] ∧ os = [] ∧ (aIs av 0).length ≤ 1048576, eI (firstNZ (aIs av 0)), []⟩
/-- the number a closure captured (a frozen variable) -/
def capI (f : PVal) : Int := match f with | .fn _ [.fptr _ (.int _ n)] => n | _ => 0
def capL (f : PVal) : List Int := match f with | .fn _ [.fptr _ (.sl _ _ l)] => dInts l | _ => []
def isFn (g : Nat) (f : PVal) : Bool := match f with | .fn k _ => Nat.beq k g | _ => false
def sp_slices_IndexFunc_int_int : SpecF := fun av os => bif isFn F_graph_CheckNodes_c2_c1 (av.getD 1 .undef) then
    ⟨av = [eInts (aIs av 0), .fn F_graph_CheckNodes_c2_c1 [.fptr false (eI (capI (av.getD 1 .undef)))]] ∧ os = [] ∧ (aIs av 0).length ≤ 1048576, eI (idxGo (oddB (capI (av.getD 1 .undef))) 0 (aIs av 0)), []⟩
  else ⟨av = [eInts (aIs av 0), .fn F_graph_same_c1 [.fptr false (eI (capI (av.getD 1 .undef)))]] ∧ os = [] ∧ (aIs av 0).length ≤ 1048576, eI (idxGo (neB (capI (av.getD 1 .undef))) 0 (aIs av 0)), []⟩
def sp_retime_each_int : SpecF := fun av os => ⟨av = [eInts (aIs av 0), .fn F_retime_CheckDelays_c1 []] ∧ os = [] ∧ (aIs av 0).length ≤ 1048576, .tup [eI (firstE 0 ((aIs av 0).map delayE)).1, eI (firstE 0 ((aIs av 0).map delayE)).2], []⟩
def sp_graph_each_int : SpecF := fun av os => ⟨av = [eInts (aIs av 0), .fn F_graph_CheckNodes_c1 []] ∧ os = [] ∧ (aIs av 0).length ≤ 1048576, .tup [eI (firstE 0 ((aIs av 0).map widthE)).1, eI (firstE 0 ((aIs av 0).map widthE)).2], []⟩
def sp_slices_MaxFunc_int_int : SpecF := fun av os => ⟨av = [eInts (aIs av 0), .fn F_retime_PathOf_c1 [.fptr false (eInts (capL (av.getD 1 .undef)))]] ∧ os = [] ∧ ((aIs av 0).length ≤ 1048576 ∧ aIs av 0 ≠ [] ∧ ∀ x ∈ aIs av 0, 0 ≤ x ∧ x < ((capL (av.getD 1 .undef)).length : Int)), eI (maxF (capL (av.getD 1 .undef)) (aIs av 0)), []⟩
def rowL (os : List AObj) (i : Nat) : List Int := match os.getD i .none with | .row _ _ _ xs => dInts xs | _ => []
def sp_slices_Reverse_int_int : SpecF := fun av os => ⟨av = [.own 0] ∧ os = [.row false T_int 1 ((rowL os 0).map eI)] ∧ (rowL os 0).length ≤ 1048576, .tup [], [.row false T_int 1 ((rowL os 0).reverse.map eI)]⟩
def specs1 : List (Nat × SpecF) := [(F_base_Ints, sp_base_Ints), (F_base_SamePorts, sp_base_SamePorts), (F_base_SameOutputs, sp_base_SameOutputs), (F_base_IsName, sp_base_IsName), (F_netlist_isName, sp_netlist_isName), (F_base_NetLeaves, sp_base_NetLeaves), (F_netlist_leaves, sp_netlist_leaves), (F_ref26_Named, sp_ref26_Named), (F_base_CopyNodes, sp_base_CopyNodes), (F_base_widthsFit, sp_base_widthsFit), (F_law26_few, sp_law26_few), (F_ref26_CheckDelays, sp_ref26_CheckDelays), (F_ref26_Arrivals, sp_ref26_Arrivals), (F_retime_net_arrivals, sp_retime_net_arrivals), (F_retime_first, sp_retime_first), (F_netlist_first, sp_netlist_first), (F_graph_first, sp_graph_first), (F_slices_IndexFunc_int_int, sp_slices_IndexFunc_int_int), (F_retime_each_int, sp_retime_each_int), (F_graph_each_int, sp_graph_each_int), (F_slices_MaxFunc_int_int, sp_slices_MaxFunc_int_int), (F_slices_Reverse_int_int, sp_slices_Reverse_int_int)]
noncomputable def env1 : Env := envOf specs1
end Go.Pvm.Seat
namespace Go.Pvm.Seat
open Go
def opsV : PVal := PVal.agg
    [PVal.str { data := #[99, 111, 110, 115, 116] }, PVal.int IntKind.i64 0, PVal.bool true, PVal.fn F_graph_anyWidth [], PVal.fn F_graph_operations_c1 [],
      PVal.str { data := #[108, 101, 97, 102] }, PVal.int IntKind.i64 0, PVal.bool true, PVal.fn F_graph_anyWidth [], PVal.fn F_graph_operations_c1 [],
      PVal.str { data := #[110, 111, 116] }, PVal.int IntKind.i64 1, PVal.bool false, PVal.fn F_graph_same [], PVal.fn F_graph_operations_c2 [],
      PVal.str { data := #[97, 110, 100] }, PVal.int IntKind.i64 2, PVal.bool false, PVal.fn F_graph_same [], PVal.fn F_graph_binary_c1 [PVal.fptr false (PVal.fn F_graph_operations_c3 [])],
      PVal.str { data := #[111, 114] }, PVal.int IntKind.i64 2, PVal.bool false, PVal.fn F_graph_same [], PVal.fn F_graph_binary_c1 [PVal.fptr false (PVal.fn F_graph_operations_c4 [])],
      PVal.str { data := #[120, 111, 114] }, PVal.int IntKind.i64 2, PVal.bool false, PVal.fn F_graph_same [], PVal.fn F_graph_binary_c1 [PVal.fptr false (PVal.fn F_graph_operations_c5 [])],
      PVal.str { data := #[97, 100, 100] }, PVal.int IntKind.i64 2, PVal.bool false, PVal.fn F_graph_same [], PVal.fn F_graph_binary_c1 [PVal.fptr false (PVal.fn F_graph_operations_c6 [])],
      PVal.str { data := #[115, 117, 98] }, PVal.int IntKind.i64 2, PVal.bool false, PVal.fn F_graph_same [], PVal.fn F_graph_binary_c1 [PVal.fptr false (PVal.fn F_graph_operations_c7 [])],
      PVal.str { data := #[109, 117, 108] }, PVal.int IntKind.i64 2, PVal.bool false, PVal.fn F_graph_same [], PVal.fn F_graph_binary_c1 [PVal.fptr false (PVal.fn F_graph_operations_c8 [])],
      PVal.str { data := #[101, 113] }, PVal.int IntKind.i64 2, PVal.bool false, PVal.fn F_graph_compared [], PVal.fn F_graph_relation_c1 [PVal.fptr false (PVal.fn F_graph_operations_c9 [])],
      PVal.str { data := #[108, 116] }, PVal.int IntKind.i64 2, PVal.bool false, PVal.fn F_graph_compared [], PVal.fn F_graph_relation_c1 [PVal.fptr false (PVal.fn F_graph_operations_c10 [])],
      PVal.str { data := #[115, 108, 116] }, PVal.int IntKind.i64 2, PVal.bool false, PVal.fn F_graph_compared [], PVal.fn F_graph_relation_c1 [PVal.fptr false (PVal.fn F_graph_operations_c11 [])],
      PVal.str { data := #[109, 117, 120] }, PVal.int IntKind.i64 3, PVal.bool false, PVal.fn F_graph_operations_c12 [], PVal.fn F_graph_operations_c13 [],
      PVal.str { data := #[106, 111, 105, 110] }, PVal.int IntKind.i64 2, PVal.bool false, PVal.fn F_graph_operations_c14 [], PVal.fn F_graph_operations_c15 [],
      PVal.str { data := #[115, 108, 105, 99, 101] }, PVal.int IntKind.i64 1, PVal.bool true, PVal.fn F_graph_operations_c16 [], PVal.fn F_graph_operations_c17 [],
      PVal.str { data := #[122, 101, 120, 116] }, PVal.int IntKind.i64 1, PVal.bool false, PVal.fn F_graph_extended [], PVal.fn F_graph_operations_c18 [],
      PVal.str { data := #[115, 101, 120, 116] }, PVal.int IntKind.i64 1, PVal.bool false, PVal.fn F_graph_extended [], PVal.fn F_graph_operations_c19 [],
      PVal.str { data := #[115, 104, 108] }, PVal.int IntKind.i64 2, PVal.bool false, PVal.fn F_graph_shifted [], PVal.fn F_graph_operations_c20 [],
      PVal.str { data := #[115, 104, 114] }, PVal.int IntKind.i64 2, PVal.bool false, PVal.fn F_graph_shifted [], PVal.fn F_graph_operations_c21 []]
end Go.Pvm.Seat
namespace Go.Pvm
def has : List ByteArray → ByteArray → Bool
  | [], _ => false
  | a :: r, s => decide (s = a) || has r s
def ins (l : List ByteArray) (s : ByteArray) : List ByteArray := if has l s then l else l ++ [s]
def eM (l : List ByteArray) : List (PVal × PVal) := l.map fun s => (.str s, .bool true)
def or0 (e f : Int) : Int := if e = 0 then f else e
def nameE (seen : List ByteArray) (s : ByteArray) : Int := if isName s then (if has seen s then 5 else 0) else 4
def fitsB (n w : Int) : Bool := decide (0 ≤ n ∧ n ≤ 2 ^ w.toNat - 1)
def portE (seen : List ByteArray) (p : Port) : Int := or0 (nameE seen p.name) (widthE p.width)
def regE (seen : List ByteArray) (r : Reg) : Int := or0 (nameE seen r.name) (if (1 ≤ r.width ∧ r.width ≤ 16) ∧ fitsB r.init r.width = true then 0 else 2)
def isNodeB (nodes : List Node) (i : Int) : Bool := decide (0 ≤ i ∧ i < (nodes.length : Int))
def outE (nodes : List Node) (seen : List ByteArray) (o : Outp) : Int := or0 (nameE seen o.name) (if isNodeB nodes o.node then 0 else 9)
def namesGo {α : Type} (E : List ByteArray → α → Int) (nm : α → ByteArray) : List ByteArray → Nat → List α → Int × Int × List ByteArray
  | seen, _, [] => (0, 0, seen)
  | seen, i, x :: r => if E seen x = 0 then namesGo E nm (ins seen (nm x)) (i + 1) r else ((i : Int), E seen x, ins seen (nm x))
def valueE (leaves : List Int) (x : Node) : Int :=
  if x.op = 0 then (if fitsB x.value x.width then 0 else 2)
  else if x.op = 1 then (if 0 ≤ x.value ∧ x.value < (leaves.length : Int) then (if leaves.getD x.value.toNat 0 = x.width then 0 else 25) else 6)
  else if x.op = 14 then (if 0 ≤ x.value ∧ x.value ≤ 15 then 0 else 2)
  else (if x.value = 0 then 0 else 3)
def nodeE (leaves : List Int) (nodes : List Node) (i : Nat) (x : Node) : Int :=
  if ¬ (0 ≤ x.op ∧ x.op ≤ 18) then 15
  else if ¬ (1 ≤ x.width ∧ x.width ≤ 16) then 2
  else if (x.args.length : Int) ≠ argCount x.op then 10
  else if ¬ (∀ a ∈ x.args, 0 ≤ a ∧ a < (i : Int)) then 9
  else or0 (valueE leaves x) (if x.op < 2 ∨ widthsOK x.op x.width x.value (argWidths nodes x.args) = true then 0 else 25)
def nodeEs (leaves : List Int) (nodes : List Node) : Nat → List Node → List Int
  | _, [] => []
  | i, x :: r => nodeE leaves nodes i x :: nodeEs leaves nodes (i + 1) r
def nodesE (leaves : List Int) (nodes : List Node) : Int × Int := if nodes.length > 400 then (0, 8) else firstE 0 (nodeEs leaves nodes 0 nodes)
def checkNodesE (leaves : List Int) (nodes : List Node) : Int × Int :=
  if leaves.length > 40 then (0, 8) else if (firstE 0 (leaves.map widthE)).2 ≠ 0 then firstE 0 (leaves.map widthE) else nodesE leaves nodes
def regW (nodes : List Node) (r : Reg) : Int :=
  if ¬ (isNodeB nodes r.enable = true ∧ (nodes.getD r.enable.toNat default).width = 1 ∧ isNodeB nodes r.next = true) then 9
  else if (nodes.getD r.next.toNat default).width = r.width then 0 else 25
def portsE (l : List Port) : Int × Int := if l.length > 12 then (0, 8) else ((namesGo portE Port.name [] 0 l).1, (namesGo portE Port.name [] 0 l).2.1)
def outsE (nodes : List Node) (l : List Outp) : Int × Int := if l.length > 12 then (0, 8) else ((namesGo (outE nodes) Outp.name [] 0 l).1, (namesGo (outE nodes) Outp.name [] 0 l).2.1)
def netE (n : Net) : Int × Int :=
  if isName n.name = false then (0, 4)
  else if (portsE n.inputs).2 ≠ 0 then portsE n.inputs
  else if n.inputs.length + n.regs.length > 40 then (0, 8)
  else if (namesGo regE Reg.name (namesGo portE Port.name [] 0 n.inputs).2.2 0 n.regs).2.1 ≠ 0 then
    ((namesGo regE Reg.name (namesGo portE Port.name [] 0 n.inputs).2.2 0 n.regs).1, (namesGo regE Reg.name (namesGo portE Port.name [] 0 n.inputs).2.2 0 n.regs).2.1)
  else if (nodesE (leavesF n) n.nodes).2 ≠ 0 then nodesE (leavesF n) n.nodes
  else if (firstE 0 (n.regs.map (regW n.nodes))).2 ≠ 0 then firstE 0 (n.regs.map (regW n.nodes))
  else outsE n.nodes n.outputs
def insI (x : Int) : List Int → List Int
  | [] => [x]
  | y :: r => if x ≤ y then x :: y :: r else y :: insI x r
def sortI : List Int → List Int
  | [] => []
  | x :: r => insI x (sortI r)
def compI : List Int → List Int
  | [] => []
  | x :: r => match compI r with
    | [] => [x]
    | y :: s => if x = y then y :: s else x :: y :: s
end Go.Pvm
namespace Go.Pvm
theorem has_iff {l : List ByteArray} {s : ByteArray} : has l s = true ↔ s ∈ l := by
  induction l with
  | nil => simp [has]
  | cons a r ih => simp [has, ih]
theorem has_ins {l : List ByteArray} {s t : ByteArray} : has (ins l s) t = (has l t || decide (t = s)) := by
  rw [Bool.eq_iff_iff, has_iff]
  unfold ins; split
  · rename_i h; rw [has_iff] at h
    simp only [Bool.or_eq_true, decide_eq_true_eq, has_iff]
    constructor
    · exact .inl
    · rintro (h' | rfl); exact h'; exact h
  · simp [has_iff]
theorem mget_eM (l : List ByteArray) (s : ByteArray) : mgetD (eM l) (.str s) (.bool false) = .bool (has l s) := by
  induction l with
  | nil => rfl
  | cons a r ih =>
    unfold mgetD at ih ⊢
    simp only [eM, List.map_cons, mget, keyEq, has] at ih ⊢
    by_cases h : s = a
    · subst h; simp
    · rw [decide_eq_false h]; simp only [cond_false, Bool.false_or]; exact ih
theorem mset_eM (l : List ByteArray) (s : ByteArray) : mset (eM l) (.str s) (.bool true) = eM (ins l s) := by
  induction l with
  | nil => simp [eM, mset, ins, has]
  | cons a r ih =>
    simp only [eM, List.map_cons, mset, keyEq] at ih ⊢
    by_cases h : s = a
    · subst h; simp [ins, has]
    · rw [decide_eq_false h]; simp only [cond_false]; rw [ih]
      unfold ins
      simp only [has, decide_eq_false h, Bool.false_or]
      split <;> simp
theorem firstE_zero {i : Nat} {l : List Int} (h : (firstE i l).2 = 0) : ∀ e ∈ l, e = 0 := by
  induction l generalizing i with
  | nil => simp
  | cons a r ih =>
    simp only [firstE] at h
    by_cases ha : a = 0
    · rw [if_pos ha] at h
      intro e he
      rcases List.mem_cons.1 he with rfl | he
      · exact ha
      · exact ih h e he
    · rw [if_neg ha] at h; exact absurd h ha
theorem firstE_none {i : Nat} {l : List Int} (h : (firstE i l).2 = 0) : firstE i l = (0, 0) := by
  induction l generalizing i with
  | nil => rfl
  | cons a r ih =>
    simp only [firstE] at h ⊢
    by_cases ha : a = 0
    · rw [if_pos ha] at h ⊢; exact ih h
    · rw [if_neg ha] at h; exact absurd h ha
theorem or0_zero {e f : Int} : or0 e f = 0 ↔ e = 0 ∧ f = 0 := by
  unfold or0; split
  · rename_i h; simp [h]
  · rename_i h; simp [h]
theorem nodeE_zero {leaves : List Int} {nodes : List Node} {i : Nat} {x : Node} (h : nodeE leaves nodes i x = 0) : (0 ≤ x.op ∧ x.op < 19) ∧ (1 ≤ x.width ∧ x.width ≤ 16) ∧ (x.args.length : Int) = argCount x.op ∧ (∀ a ∈ x.args, 0 ≤ a ∧ a < (i : Int)) := by
  unfold nodeE at h
  split at h
  · simp at h
  · split at h
    · simp at h
    · split at h
      · simp at h
      · split at h
        · simp at h
        · rename_i h1 h2 h3 h4
          simp only [Classical.not_not] at h1 h2 h3 h4
          exact ⟨by omega, h2, h3, h4⟩
theorem nodeEs_ok {leaves : List Int} {nodes : List Node} : ∀ {i : Nat} {l : List Node}, (∀ e ∈ nodeEs leaves nodes i l, e = 0) → nodesOK i l
  | i, [], _ => trivial
  | i, x :: r, h => by
    have h0 := nodeE_zero (h (nodeE leaves nodes i x) (by simp [nodeEs]))
    exact ⟨h0.1, h0.2.2.2, nodeEs_ok (leaves := leaves) (nodes := nodes) fun e he => h e (by rw [nodeEs]; exact List.mem_cons_of_mem _ he)⟩
theorem nodesE_ok {leaves : List Int} {nodes : List Node} (h : (nodesE leaves nodes).2 = 0) : nodes.length ≤ 400 ∧ nodesOK 0 nodes := by
  unfold nodesE at h
  split at h
  · simp at h
  · exact ⟨by omega, nodeEs_ok (firstE_zero h)⟩
theorem nodesE_all {leaves : List Int} {nodes : List Node} (h : (nodesE leaves nodes).2 = 0) : ∀ e ∈ nodeEs leaves nodes 0 nodes, e = 0 := by
  unfold nodesE at h
  split at h
  · simp at h
  · exact firstE_zero h
theorem seen_next {α : Type} [Inhabited α] {nm : α → ByteArray} {l : List α} {i : Nat} {seen : List ByteArray} (hi : i < l.length) (h : ∀ s, has seen s = true ↔ s ∈ (l.take i).map nm) : ∀ s, has (ins seen (nm (l.getD i default))) s = true ↔ s ∈ (l.take (i + 1)).map nm := fun s => by
  rw [has_ins, Bool.or_eq_true, h s, List.take_succ_eq_append_getElem hi, List.map_append, List.mem_append, decide_eq_true_eq]
  rw [List.getD_eq_getElem?_getD, List.getElem?_eq_getElem hi]
  simp
theorem not_seen {α : Type} [Inhabited α] {nm : α → ByteArray} {l : List α} {i : Nat} {s : ByteArray} (hi : i ≤ l.length) (h : ∀ k, k < i → nm (l.getD k default) ≠ s) : s ∉ (l.take i).map nm := fun hm => by
  obtain ⟨x, hx, rfl⟩ := List.mem_map.1 hm
  obtain ⟨k, hk, rfl⟩ := List.mem_iff_getElem.1 hx
  have hk' : k < i := by simp at hk; omega
  refine h k hk' ?_
  rw [List.getD_eq_getElem?_getD, List.getElem?_eq_getElem (by omega)]
  simp
theorem is_seen {α : Type} [Inhabited α] {nm : α → ByteArray} {l : List α} {i k : Nat} (hi : i ≤ l.length) (hk : k < i) : nm (l.getD k default) ∈ (l.take i).map nm := by
  refine List.mem_map.2 ⟨_, ?_, rfl⟩
  rw [List.getD_eq_getElem?_getD, List.getElem?_eq_getElem (by omega), Option.getD_some]
  exact List.mem_take_iff_getElem.2 ⟨k, by omega, rfl⟩
theorem pow16 {n : Nat} (h : n ≤ 16) : (2 : Int) ^ n ≤ 65536 ∧ 0 < (2 : Int) ^ n := by
  have h1 : 2 ^ n ≤ 2 ^ 16 := Nat.pow_le_pow_right (by omega) h
  have h2 : 0 < 2 ^ n := Nat.pow_pos (by omega)
  have e : ((2 ^ n : Nat) : Int) = (2 : Int) ^ n := by simp
  rw [← e]; omega
theorem powW {w : Int} (h : 0 ≤ w ∧ w ≤ 16) : Go.IntKind.i64.wrap (Go.IntKind.i64.wrap (1 * 2 ^ min w.toNat 64) - 1) = 2 ^ w.toNat - 1 := by
  obtain ⟨h1, h2⟩ := pow16 (n := w.toNat) (by omega)
  have e1 : Go.IntKind.i64.wrap (2 ^ w.toNat) = 2 ^ w.toNat := wrap64 (by omega) (by omega)
  rw [Nat.min_eq_left (by omega), Int.one_mul, e1, wrap64 (by omega) (by omega)]
theorem aIs_0 (m : Mode) (k : Nat) (l : List Int) (r : List PVal) : aIs (.sl m k (l.map eI) :: r) 0 = l := dInts_map l
theorem aIs_1 (m : Mode) (k : Nat) (x : PVal) (l : List Int) (r : List PVal) : aIs (x :: .sl m k (l.map eI) :: r) 1 = l := dInts_map l
theorem aNs_0 (m : Mode) (k : Nat) (l : List Node) (r : List PVal) : aNs (.sl m k (l.map eNode) :: r) 0 = l := dNodes_map l
theorem aNs_1 (m : Mode) (k : Nat) (x : PVal) (l : List Node) (r : List PVal) : aNs (x :: .sl m k (l.map eNode) :: r) 1 = l := dNodes_map l
theorem aPs_0 (m : Mode) (k : Nat) (l : List Port) (r : List PVal) : aPs (.sl m k (l.map ePort) :: r) 0 = l := dPorts_map l
theorem aOs_1 (m : Mode) (k : Nat) (x : PVal) (l : List Outp) (r : List PVal) : aOs (x :: .sl m k (l.map eOutp) :: r) 1 = l := dOutps_map l
theorem aX_1 (y : PVal) (x : Node) (r : List PVal) : aX (y :: eNode x :: r) 1 = x := dNode_e x
theorem aN_0 (n : Net) (r : List PVal) : aN (eNet n :: r) 0 = n := dNet_e n
theorem aS_0 (s : ByteArray) (r : List PVal) : aS (.str s :: r) 0 = s := rfl
theorem aI_0 (k : Go.IntKind) (s : Int) (r : List PVal) : aI (.int k s :: r) 0 = s := rfl
theorem aI_1 (k : Go.IntKind) (x : PVal) (s : Int) (r : List PVal) : aI (x :: .int k s :: r) 1 = s := rfl
theorem aI_2 (k : Go.IntKind) (x y : PVal) (s : Int) (r : List PVal) : aI (x :: y :: .int k s :: r) 2 = s := rfl
theorem clampW {w : Int} (h : 1 ≤ w ∧ w ≤ 16) : (if (if (16 : Int) < w then (16 : Int) else w) > 0 then (if (16 : Int) < w then (16 : Int) else w) else 0) = w := by
  rw [if_neg (show ¬ (16 : Int) < w by omega), if_pos (by omega)]
theorem idxGo_ge (p : Int → Bool) : ∀ (l : List Int) (i : Nat), idxGo p i l ≥ 0 ↔ ¬ ∀ x ∈ l, p x = false
  | [], i => by simp [idxGo]
  | x :: r, i => by
    rw [idxGo]
    by_cases h : p x = true
    · rw [if_pos h]; simp [h]
    · rw [if_neg h, idxGo_ge p r (i + 1)]; simp [h]
theorem odd_iff {i : Nat} (hi : i ≤ 1048576) (l : List Int) : idxGo (oddB i) 0 l ≥ 0 ↔ ¬ ∀ a ∈ l, 0 ≤ a ∧ a < (i : Int) := by
  rw [idxGo_ge]
  have : ∀ a, oddB i a = false ↔ (0 ≤ a ∧ a < (i : Int)) := fun a => by
    unfold oddB
    rw [wrap64 (by omega) (by omega)]
    simp; omega
  constructor
  · exact fun h h' => h fun x hx => (this x).2 (h' x hx)
  · exact fun h h' => h fun x hx => (this x).1 (h' x hx)
end Go.Pvm
namespace Go.Pvm.Seat
open Go
def sp_base_PortsErr : SpecF := fun av os => ⟨av = [ePorts (aPs av 0)] ∧ os = [] ∧ (aPs av 0).length ≤ 1048576, .tup [eI (portsE (aPs av 0)).1, eI (portsE (aPs av 0)).2], []⟩
def sp_base_OutputsErr : SpecF := fun av os => ⟨av = [eNodes (aNs av 0), eOutps (aOs av 1)] ∧ os = [] ∧ (aNs av 0).length ≤ 1048576 ∧ (aOs av 1).length ≤ 1048576, .tup [eI (outsE (aNs av 0) (aOs av 1)).1, eI (outsE (aNs av 0) (aOs av 1)).2], []⟩
def sp_base_nodeErr : SpecF := fun av os => ⟨av = [eInts (aIs av 0), eNodes (aNs av 1), eI (aI av 2)] ∧ os = [] ∧ ((aIs av 0).length ≤ 1048576 ∧ (aNs av 1).length ≤ 1048576 ∧ (0 ≤ aI av 2 ∧ aI av 2 < ((aNs av 1).length : Int)) ∧ ((aNs av 1).getD (aI av 2).toNat default).args.length ≤ 1048576), eI (nodeE (aIs av 0) (aNs av 1) (aI av 2).toNat ((aNs av 1).getD (aI av 2).toNat default)), []⟩
def sp_base_CopyNetlist : SpecF := fun av os => ⟨av = [eNet (aN av 0)] ∧ os = [] ∧ Small (aN av 0), .agg [.str (aN av 0).name, .own 0, .own 1, .own 2, .own 3], [.row false T_api_Port 2 ((aN av 0).inputs.map ePort), .row false T_api_NetRegister 5 ((aN av 0).regs.map eReg), .row false T_api_Node 4 ((aN av 0).nodes.map eNode), .row false T_api_Output 2 ((aN av 0).outputs.map eOutp)]⟩
def sp_ref26_Period : SpecF := fun av os => ⟨av = [eNet (aN av 0), eInts (aIs av 1)] ∧ os = [] ∧ (Small (aN av 0) ∧ (aIs av 1).length = 19 ∧ nodesOK 0 (aN av 0).nodes ∧ ∀ x ∈ namedF (aN av 0), 0 ≤ x ∧ x < ((aN av 0).nodes.length : Int)), eI (mostF (arrF (aIs av 1) (aN av 0).nodes []) (namedF (aN av 0)) 0), []⟩
def sp_retime_CheckDelays : SpecF := fun av os => ⟨av = [eInts (aIs av 0)] ∧ os = [] ∧ (aIs av 0).length ≤ 1048576, .tup [eI (delaysE (aIs av 0)).1, eI (delaysE (aIs av 0)).2], []⟩
def sp_base_SameNodes : SpecF := fun av os => ⟨av = [eNodes (aNs av 0), eNodes (aNs av 1)] ∧ os = [] ∧ ((aNs av 0).length ≤ 1048576 ∧ ∀ x ∈ aNs av 0, x.args.length ≤ 1048576), .bool (decide (aNs av 0 = aNs av 1)), []⟩
def dM (es : List (PVal × PVal)) : List ByteArray := es.map fun p => asS p.1
def mapL (os : List AObj) (i : Nat) : List ByteArray := match os.getD i .none with | .mp es => dM es | _ => []
def capNet (f : PVal) : Net := match f with
  | .fn _ [_, .fptr _ (.fn _ [.fptr _ x])] => dNet x
  | .fn _ [_, .fptr _ x] => dNet x
  | _ => default
theorem dM_eM (l : List ByteArray) : dM (eM l) = l := by simp [dM, eM, Function.comp_def]
def sp_netlist_each_api_Port : SpecF := fun av os => ⟨av = [ePorts (aPs av 0), .fn F_netlist_CheckNetlist_c3_c1 [.fptr false (.mapr 0)]] ∧ os = [.mp (eM (mapL os 0))] ∧ ((aPs av 0).length ≤ 1048576 ∧ ∀ p ∈ aPs av 0, p.name.size ≤ 1048576),
  .tup [eI (namesGo portE Port.name (mapL os 0) 0 (aPs av 0)).1, eI (namesGo portE Port.name (mapL os 0) 0 (aPs av 0)).2.1], [.mp (eM (namesGo portE Port.name (mapL os 0) 0 (aPs av 0)).2.2)]⟩
def sp_netlist_each_api_Output : SpecF := fun av os => ⟨av = [eOutps (aOs av 0), .fn F_netlist_CheckNetlist_c9_c1 [.fptr false (.mapr 0), .fptr false (.fn F_netlist_CheckNetlist_c1 [.fptr false (eNet (capNet (av.getD 1 .undef)))])]] ∧ os = [.mp (eM (mapL os 0))] ∧ ((capNet (av.getD 1 .undef)).nodes.length ≤ 1048576 ∧ (aOs av 0).length ≤ 1048576 ∧ ∀ p ∈ aOs av 0, p.name.size ≤ 1048576),
  .tup [eI (namesGo (outE (capNet (av.getD 1 .undef)).nodes) Outp.name (mapL os 0) 0 (aOs av 0)).1, eI (namesGo (outE (capNet (av.getD 1 .undef)).nodes) Outp.name (mapL os 0) 0 (aOs av 0)).2.1], [.mp (eM (namesGo (outE (capNet (av.getD 1 .undef)).nodes) Outp.name (mapL os 0) 0 (aOs av 0)).2.2)]⟩
def sp_netlist_each_api_NetRegister : SpecF := fun av os => bif isFn F_netlist_CheckNetlist_c5_c1 (av.getD 1 .undef) then
    ⟨av = [eRegs (aRs av 0), .fn F_netlist_CheckNetlist_c5_c1 [.fptr false (.mapr 0)]] ∧ os = [.mp (eM (mapL os 0))] ∧ ((aRs av 0).length ≤ 1048576 ∧ ∀ p ∈ aRs av 0, p.name.size ≤ 1048576),
      .tup [eI (namesGo regE Reg.name (mapL os 0) 0 (aRs av 0)).1, eI (namesGo regE Reg.name (mapL os 0) 0 (aRs av 0)).2.1], [.mp (eM (namesGo regE Reg.name (mapL os 0) 0 (aRs av 0)).2.2)]⟩
  else ⟨av = [eRegs (aRs av 0), .fn F_netlist_CheckNetlist_c7_c1 [.fptr false (.fn F_netlist_CheckNetlist_c1 [.fptr false (eNet (capNet (av.getD 1 .undef)))]), .fptr false (eNet (capNet (av.getD 1 .undef)))]] ∧ os = [] ∧ ((capNet (av.getD 1 .undef)).nodes.length ≤ 1048576 ∧ (aRs av 0).length ≤ 1048576),
      .tup [eI (firstE 0 ((aRs av 0).map (regW (capNet (av.getD 1 .undef)).nodes))).1, eI (firstE 0 ((aRs av 0).map (regW (capNet (av.getD 1 .undef)).nodes))).2], []⟩
def capA (av : List PVal) (k : Nat) : PVal := match av.getD k .undef with | .fptr _ x => x | _ => .undef
def sp_graph_CheckNodes_c2 : SpecF := fun av os => ⟨av = [eI (aI av 0), eNode (aX av 1), .fptr false opsV, .fptr false (eInts (dInts (asL (capA av 3)))), .fptr false (eNodes ((asL (capA av 4)).map dNode))] ∧ os = [] ∧
    ((dInts (asL (capA av 3))).length ≤ 1048576 ∧ ((asL (capA av 4)).map dNode).length ≤ 1048576 ∧ (0 ≤ aI av 0 ∧ aI av 0 ≤ (((asL (capA av 4)).map dNode).length : Int)) ∧ (aX av 1).args.length ≤ 1048576),
  eI (nodeE (dInts (asL (capA av 3))) ((asL (capA av 4)).map dNode) (aI av 0).toNat (aX av 1)), []⟩
def specs2 : List (Nat × SpecF) := (F_base_PortsErr, sp_base_PortsErr) :: (F_base_OutputsErr, sp_base_OutputsErr) :: (F_base_nodeErr, sp_base_nodeErr) :: (F_base_CopyNetlist, sp_base_CopyNetlist) :: (F_ref26_Period, sp_ref26_Period) :: (F_retime_CheckDelays, sp_retime_CheckDelays) :: (F_base_SameNodes, sp_base_SameNodes) :: (F_netlist_each_api_Port, sp_netlist_each_api_Port) :: (F_netlist_each_api_Output, sp_netlist_each_api_Output) :: (F_netlist_each_api_NetRegister, sp_netlist_each_api_NetRegister) :: (F_graph_CheckNodes_c2, sp_graph_CheckNodes_c2) :: specs1
noncomputable def env2 : Env := envOf specs2
end Go.Pvm.Seat
namespace Go.Pvm
def atGo (a : List Int) (per : Int) : Int → List Int → Int
  | at_, [] => at_
  | at_, x :: r => atGo a per (if a.getD x.toNat 0 = per ∧ (at_ < 0 ∨ x < at_) then x else at_) r
def bestGo (a : List Int) : Int → List Int → Int
  | b, [] => b
  | b, x :: r => bestGo a (if a.getD x.toNat 0 > a.getD b.toNat 0 then x else b) r
def argsAt (nodes : List Node) (k : Int) : List Int := (nodes.getD k.toNat default).args
def pathGo (nodes : List Node) (a : List Int) : Nat → Int → List Int → List Int
  | 0, _, out => out
  | n + 1, k, out => if (argsAt nodes k).length = 0 then out else pathGo nodes a n (bestGo a ((argsAt nodes k).getD 0 0) (argsAt nodes k)) (bestGo a ((argsAt nodes k).getD 0 0) (argsAt nodes k) :: out)
/-- what arrivals are bounded by -/
def Bnd (a : List Int) : Prop := ∀ k, k < a.length → 0 ≤ a.getD k 0 ∧ a.getD k 0 ≤ 1000 * ((k : Int) + 1)
theorem mostF_bound {a : List Int} (ha : Bnd a) : ∀ (l : List Int) (m : Int), 0 ≤ m ∧ m ≤ 1000 * a.length → (∀ x ∈ l, 0 ≤ x ∧ x < (a.length : Int)) → 0 ≤ mostF a l m ∧ mostF a l m ≤ 1000 * a.length
  | [], m, hm, h => hm
  | x :: r, m, hm, h => by
    rw [mostF, List.foldl_cons]
    refine mostF_bound ha r _ ?_ fun y hy => h y (List.mem_cons_of_mem _ hy)
    have hx := h x List.mem_cons_self
    have hb := ha x.toNat (by omega)
    split
    · omega
    · exact hm
theorem arr_bound {d : List Int} (hd : ∀ x ∈ d, 0 ≤ x ∧ x ≤ 1000) (h19 : d.length = 19) : ∀ (l : List Node) (out : List Int), Bnd out → out.length + l.length ≤ 1048576 → nodesOK out.length l → Bnd (arrF d l out)
  | [], out, hb, hl, hn => by rwa [arrF]
  | x :: r, out, hb, hl, hn => by
    rw [arrF]
    simp only [List.length_cons] at hl
    have hm := mostF_bound hb x.args 0 (by omega) hn.2.1
    have hdx := hd _ (mem_getD0 (show x.op.toNat < d.length by have := hn.1; omega))
    rw [wrap64 (by omega) (by omega)]
    refine arr_bound hd h19 r _ ?_ (by simp; omega) (by simpa using hn.2.2)
    intro k hk
    simp only [List.length_append, List.length_cons, List.length_nil] at hk
    by_cases h : k < out.length
    · rw [getD_left h]; exact hb k h
    · have e : k = out.length := by omega
      subst e
      rw [show (out ++ [mostF out x.args 0 + d.getD x.op.toNat 0]).getD out.length 0 = mostF out x.args 0 + d.getD x.op.toNat 0 by simp [List.getD_eq_getElem?_getD]]
      omega
theorem arrF_length (d : List Int) : ∀ (l : List Node) (out : List Int), (arrF d l out).length = out.length + l.length
  | [], out => by simp [arrF]
  | x :: r, out => by rw [arrF, arrF_length d r]; simp; omega
theorem mostF_ge (a : List Int) : ∀ (l : List Int) (m : Int), m ≤ mostF a l m ∧ (∀ x ∈ l, a.getD x.toNat 0 ≤ mostF a l m) ∧ (mostF a l m = m ∨ ∃ x ∈ l, a.getD x.toNat 0 = mostF a l m)
  | [], m => ⟨by simp [mostF], by simp, .inl rfl⟩
  | x :: r, m => by
    rw [mostF, List.foldl_cons]
    obtain ⟨h1, h2, h3⟩ := mostF_ge a r (if a.getD x.toNat 0 > m then a.getD x.toNat 0 else m)
    rw [mostF] at h1 h2 h3
    have hv : m ≤ (if a.getD x.toNat 0 > m then a.getD x.toNat 0 else m) ∧ a.getD x.toNat 0 ≤ (if a.getD x.toNat 0 > m then a.getD x.toNat 0 else m) := by split <;> omega
    refine ⟨Int.le_trans hv.1 h1, ?_, ?_⟩
    · intro y hy
      rcases List.mem_cons.1 hy with rfl | hy
      · exact Int.le_trans hv.2 h1
      · exact h2 y hy
    · rcases h3 with h3 | ⟨y, hy, h3⟩
      · rw [h3]
        split
        · exact .inr ⟨x, List.mem_cons_self, rfl⟩
        · exact .inl rfl
      · exact .inr ⟨y, List.mem_cons_of_mem _ hy, h3⟩
theorem atGo_mem (a : List Int) (per : Int) : ∀ (l : List Int) (k : Int), (∀ x ∈ l, 0 ≤ x) → (0 ≤ k ∨ ∃ x ∈ l, a.getD x.toNat 0 = per) → (atGo a per k l = k ∧ 0 ≤ k) ∨ (atGo a per k l ∈ l)
  | [], k, hl, h => by rcases h with h | ⟨x, hx, _⟩; exact .inl ⟨rfl, h⟩; simp at hx
  | x :: r, k, hl, h => by
    rw [atGo]
    have hx := hl x List.mem_cons_self
    by_cases hc : a.getD x.toNat 0 = per ∧ (k < 0 ∨ x < k)
    · rw [if_pos hc]
      rcases atGo_mem a per r x (fun y hy => hl y (List.mem_cons_of_mem _ hy)) (.inl hx) with h1 | h1
      · exact .inr (by rw [h1.1]; exact List.mem_cons_self)
      · exact .inr (List.mem_cons_of_mem _ h1)
    · rw [if_neg hc]
      have : 0 ≤ k ∨ ∃ y ∈ r, a.getD y.toNat 0 = per := by
        rcases h with h | ⟨y, hy, hp⟩
        · exact .inl h
        · rcases List.mem_cons.1 hy with rfl | hy
          · exact .inl (by omega)
          · exact .inr ⟨y, hy, hp⟩
      rcases atGo_mem a per r k (fun y hy => hl y (List.mem_cons_of_mem _ hy)) this with h1 | h1
      · exact .inl h1
      · exact .inr (List.mem_cons_of_mem _ h1)
theorem bestGo_mem (a : List Int) : ∀ (l : List Int) (b : Int), bestGo a b l = b ∨ bestGo a b l ∈ l
  | [], b => .inl rfl
  | x :: r, b => by
    rw [bestGo]
    rcases bestGo_mem a r (if a.getD x.toNat 0 > a.getD b.toNat 0 then x else b) with h | h
    · rw [h]; split
      · exact .inr List.mem_cons_self
      · exact .inl rfl
    · exact .inr (List.mem_cons_of_mem _ h)
theorem bestGo_in (a : List Int) {l : List Int} (h : l.length ≠ 0) : bestGo a (l.getD 0 0) l ∈ l := by
  rcases bestGo_mem a l (l.getD 0 0) with h1 | h1
  · rw [h1]; exact mem_getD0 (by omega)
  · exact h1
/-- the two ways of looking for the greatest agree -/
theorem maxGo_best {a : List Int} (ha : Bnd a) (hl : a.length ≤ 1048576) : ∀ (l : List Int) (b : Int), (0 ≤ b ∧ b < (a.length : Int)) → (∀ x ∈ l, 0 ≤ x ∧ x < (a.length : Int)) → maxGo a b l = bestGo a b l
  | [], b, hb, h => rfl
  | x :: r, b, hb, h => by
    have hx := h x List.mem_cons_self
    have h1 := ha x.toNat (by omega)
    have h2 := ha b.toNat (by omega)
    rw [maxGo, bestGo, wrap64 (by omega) (by omega)]
    have e : (if a.getD x.toNat 0 - a.getD b.toNat 0 > 0 then x else b) = (if a.getD x.toNat 0 > a.getD b.toNat 0 then x else b) := by
      by_cases hc : a.getD x.toNat 0 > a.getD b.toNat 0
      · rw [if_pos hc, if_pos (by omega)]
      · rw [if_neg hc, if_neg (by omega)]
    rw [e]
    refine maxGo_best ha hl r _ ?_ fun y hy => h y (List.mem_cons_of_mem _ hy)
    split
    · exact hx
    · exact hb
theorem maxF_best {a : List Int} (ha : Bnd a) (hl : a.length ≤ 1048576) {l : List Int} (h0 : l.length ≠ 0) (h : ∀ x ∈ l, 0 ≤ x ∧ x < (a.length : Int)) : maxF a l = bestGo a (l.getD 0 0) l := by
  cases l with
  | nil => simp at h0
  | cons x r =>
    unfold maxF
    simp only [List.getD_cons_zero, List.drop_one, List.tail_cons]
    rw [maxGo_best ha hl r x (h x List.mem_cons_self) fun y hy => h y (List.mem_cons_of_mem _ hy), bestGo, if_neg (by omega)]
def pathF (n : Net) (d : List Int) : List Int :=
  pathGo n.nodes (arrF d n.nodes []) (n.nodes.length + 1) (atGo (arrF d n.nodes []) (mostF (arrF d n.nodes []) (namedF n) 0) (-1) (namedF n)) [atGo (arrF d n.nodes []) (mostF (arrF d n.nodes []) (namedF n) 0) (-1) (namedF n)]
/-- what a path asks of a netlist and delays -/
structure PathOK (n : Net) (d : List Int) : Prop where
  small : Small n
  len : d.length = 19
  rng : ∀ x ∈ d, 0 ≤ x ∧ x ≤ 1000
  ok : nodesOK 0 n.nodes
  named : ∀ x ∈ namedF n, 0 ≤ x ∧ x < (n.nodes.length : Int)
theorem PathOK.bnd {n : Net} {d : List Int} (h : PathOK n d) : Bnd (arrF d n.nodes []) := arr_bound h.rng h.len n.nodes [] (fun k hk => by simp at hk) (by have := h.small.2.2.2.1; simp; omega) h.ok
theorem PathOK.alen {n : Net} {d : List Int} : (arrF d n.nodes []).length = n.nodes.length := by rw [arrF_length]; simp
theorem PathOK.at_in {n : Net} {d : List Int} (h : PathOK n d) (h0 : namedF n ≠ []) : atGo (arrF d n.nodes []) (mostF (arrF d n.nodes []) (namedF n) 0) (-1) (namedF n) ∈ namedF n := by
  have hb := h.bnd
  have hl : (arrF d n.nodes []).length = n.nodes.length := PathOK.alen
  generalize arrF d n.nodes [] = a at *
  obtain ⟨h1, h2, h3⟩ := mostF_ge a (namedF n) 0
  have hex : ∃ x ∈ namedF n, a.getD x.toNat 0 = mostF a (namedF n) 0 := by
    rcases h3 with h3 | h3
    · obtain ⟨x, r, hx⟩ := List.exists_cons_of_ne_nil h0
      have hm : x ∈ namedF n := by rw [hx]; exact List.mem_cons_self
      have := h.named x hm
      have h4 := hb x.toNat (by omega)
      have h5 := h2 x hm
      exact ⟨x, hm, by omega⟩
    · exact h3
  rcases atGo_mem a (mostF a (namedF n) 0) (namedF n) (-1) (fun x hx => (h.named x hx).1) (.inr hex) with h4 | h4
  · omega
  · exact h4
theorem namesGo_seen {α : Type} {E : List ByteArray → α → Int} {nm : α → ByteArray} : ∀ (l : List α) (seen : List ByteArray) (i : Nat), (namesGo E nm seen i l).2.1 = 0 → ∀ s, has (namesGo E nm seen i l).2.2 s = true ↔ (has seen s = true ∨ s ∈ l.map nm)
  | [], seen, i, h, s => by simp [namesGo]
  | x :: r, seen, i, h, s => by
    rw [namesGo] at h ⊢
    by_cases hx : E seen x = 0
    · rw [if_pos hx] at h ⊢
      rw [namesGo_seen r _ _ h s, has_ins]
      simp only [Bool.or_eq_true, decide_eq_true_eq, List.map_cons, List.mem_cons, or_assoc]
    · rw [if_neg hx] at h; exact absurd h hx
theorem namesGo_zero {α : Type} {E : List ByteArray → α → Int} {nm : α → ByteArray} : ∀ (l : List α) (seen : List ByteArray) (i : Nat), (namesGo E nm seen i l).2.1 = 0 → (namesGo E nm seen i l).1 = 0
  | [], seen, i, h => rfl
  | x :: r, seen, i, h => by
    rw [namesGo] at h ⊢
    by_cases hx : E seen x = 0
    · rw [if_pos hx] at h ⊢; exact namesGo_zero r _ _ h
    · rw [if_neg hx] at h; exact absurd h hx
theorem insI_length (x : Int) : ∀ l : List Int, (insI x l).length = l.length + 1
  | [] => rfl
  | y :: r => by rw [insI]; split <;> simp [insI_length x r]
theorem sortI_length : ∀ l : List Int, (sortI l).length = l.length
  | [] => rfl
  | x :: r => by rw [sortI, insI_length, sortI_length r]; rfl
theorem br_nb {b : Bool} {x y : Prop} (h1 : b = false → x) (h2 : b = true → y) : br (!b) x y := by rw [br_not]; exact br_of h2 h1
theorem namesGo_all {α : Type} {E : List ByteArray → α → Int} {nm : α → ByteArray} : ∀ (l : List α) (seen : List ByteArray) (i : Nat), (namesGo E nm seen i l).2.1 = 0 → ∀ x ∈ l, ∃ s, E s x = 0
  | [], seen, i, h => by simp
  | x :: r, seen, i, h => by
    rw [namesGo] at h
    by_cases hx : E seen x = 0
    · rw [if_pos hx] at h
      intro y hy
      rcases List.mem_cons.1 hy with rfl | hy
      · exact ⟨seen, hx⟩
      · exact namesGo_all r _ _ h y hy
    · rw [if_neg hx] at h; exact absurd h hx
theorem widthE_zero {n : Int} : widthE n = 0 ↔ 1 ≤ n ∧ n ≤ 16 := by unfold widthE; split <;> simp_all
theorem firstE_of_zero {l : List Int} (h : ∀ e ∈ l, e = 0) : ∀ i, firstE i l = (0, 0) := by
  induction l with
  | nil => exact fun i => rfl
  | cons a r ih => intro i; rw [firstE, if_pos (h a List.mem_cons_self)]; exact ih (fun e he => h e (List.mem_cons_of_mem _ he)) _
/-- where ports and registers are in order, the graph's own check of the leaves says nothing -/
theorem checkNodes_eq {n : Net} (h40 : n.inputs.length + n.regs.length ≤ 40) {seen : List ByteArray} (hp : (namesGo portE Port.name [] 0 n.inputs).2.1 = 0) (hr : (namesGo regE Reg.name seen 0 n.regs).2.1 = 0) : checkNodesE (leavesF n) n.nodes = nodesE (leavesF n) n.nodes := by
  have hl : (leavesF n).length ≤ 40 := by simp [leavesF]; omega
  have hw : firstE 0 ((leavesF n).map widthE) = (0, 0) := firstE_of_zero (fun e he => by
    obtain ⟨w, hw, rfl⟩ := List.mem_map.1 he
    rw [leavesF, List.mem_append] at hw
    rcases hw with hw | hw
    · obtain ⟨p, hp', rfl⟩ := List.mem_map.1 hw
      obtain ⟨s, hs⟩ := namesGo_all _ _ _ hp p hp'
      exact (or0_zero.1 hs).2
    · obtain ⟨r, hr', rfl⟩ := List.mem_map.1 hw
      obtain ⟨s, hs⟩ := namesGo_all _ _ _ hr r hr'
      have := (or0_zero.1 hs).2
      rw [widthE_zero]
      split at this
      · rename_i h; exact h.1
      · simp at this) 0
  rw [checkNodesE, if_neg (by omega), hw, if_neg (by simp)]
theorem mem_insI {x y : Int} : ∀ {l : List Int}, y ∈ insI x l ↔ y = x ∨ y ∈ l
  | [] => by simp [insI]
  | z :: r => by
    rw [insI]; split
    · simp
    · simp only [List.mem_cons, mem_insI (l := r)]
      constructor
      · rintro (h | h | h); exact .inr (.inl h); exact .inl h; exact .inr (.inr h)
      · rintro (h | h | h); exact .inr (.inl h); exact .inl h; exact .inr (.inr h)
theorem mem_sortI {y : Int} : ∀ {l : List Int}, y ∈ sortI l ↔ y ∈ l
  | [] => by simp [sortI]
  | x :: r => by rw [sortI, mem_insI, mem_sortI, List.mem_cons]
theorem insI_sorted {x : Int} : ∀ {l : List Int}, l.Pairwise (· ≤ ·) → (insI x l).Pairwise (· ≤ ·)
  | [], h => by simp [insI]
  | z :: r, h => by
    rw [insI]
    rw [List.pairwise_cons] at h
    split
    · rename_i hx
      refine List.pairwise_cons.2 ⟨fun y hy => ?_, List.pairwise_cons.2 h⟩
      rcases List.mem_cons.1 hy with rfl | hy
      · exact hx
      · exact Int.le_trans hx (h.1 y hy)
    · rename_i hx
      refine List.pairwise_cons.2 ⟨fun y hy => ?_, insI_sorted h.2⟩
      rcases mem_insI.1 hy with rfl | hy
      · omega
      · exact h.1 y hy
theorem sortI_sorted : ∀ l : List Int, (sortI l).Pairwise (· ≤ ·)
  | [] => by simp [sortI]
  | x :: r => insI_sorted (sortI_sorted r)
theorem mem_compI {y : Int} : ∀ {l : List Int}, y ∈ compI l ↔ y ∈ l
  | [] => by simp [compI]
  | x :: r => by
    have ih := mem_compI (y := y) (l := r)
    rw [compI]
    split
    · rename_i h
      rw [h] at ih
      simp only [List.mem_cons, ← ih]
    · rename_i z s h
      rw [h] at ih
      split
      · rename_i e; subst e
        rw [ih]; simp only [List.mem_cons]
        constructor
        · exact .inr
        · rintro (rfl | h'); exact ih.1 List.mem_cons_self; exact h'
      · simp only [List.mem_cons] at ih ⊢
        rw [ih]
theorem compI_sorted : ∀ {l : List Int}, l.Pairwise (· ≤ ·) → (compI l).Pairwise (· < ·)
  | [], h => by simp [compI]
  | x :: r, h => by
    rw [List.pairwise_cons] at h
    have ih := compI_sorted h.2
    have hm : ∀ y, y ∈ compI r ↔ y ∈ r := fun y => mem_compI
    rw [compI]
    split
    · simp
    · rename_i z s he
      rw [he] at ih hm
      split
      · exact ih
      · rename_i hne
        refine List.pairwise_cons.2 ⟨fun y hy => ?_, ih⟩
        have hz := h.1 z ((hm z).1 List.mem_cons_self)
        rw [List.pairwise_cons] at ih
        rcases List.mem_cons.1 hy with rfl | hy
        · omega
        · have := ih.1 y hy; omega
theorem mostF_mem (a : List Int) {l l' : List Int} (h : ∀ x, x ∈ l ↔ x ∈ l') : mostF a l 0 = mostF a l' 0 := by
  obtain ⟨h1, h2, h3⟩ := mostF_ge a l 0
  obtain ⟨k1, k2, k3⟩ := mostF_ge a l' 0
  apply Int.le_antisymm
  · rcases h3 with h3 | ⟨x, hx, h3⟩
    · rw [h3]; exact k1
    · rw [← h3]; exact k2 x ((h x).1 hx)
  · rcases k3 with k3 | ⟨x, hx, k3⟩
    · rw [k3]; exact h1
    · rw [← k3]; exact h2 x ((h x).2 hx)
theorem bestGo_least (a : List Int) : ∀ (l : List Int) (b : Int), (b :: l).Pairwise (· < ·) → (∀ y ∈ b :: l, a.getD y.toNat 0 ≤ a.getD (bestGo a b l).toNat 0) ∧ ∀ y ∈ b :: l, a.getD y.toNat 0 = a.getD (bestGo a b l).toNat 0 → bestGo a b l ≤ y
  | [], b, h => by simp [bestGo]
  | x :: r, b, h => by
    rw [List.pairwise_cons] at h
    have hx := h.1 x List.mem_cons_self
    rw [bestGo]
    by_cases hc : a.getD x.toNat 0 > a.getD b.toNat 0
    · rw [if_pos hc]
      obtain ⟨h1, h2⟩ := bestGo_least a r x h.2
      have hxx := h1 x List.mem_cons_self
      refine ⟨fun y hy => ?_, fun y hy he => ?_⟩
      · rcases List.mem_cons.1 hy with rfl | hy
        · omega
        · exact h1 y hy
      · rcases List.mem_cons.1 hy with rfl | hy
        · omega
        · exact h2 y hy he
    · rw [if_neg hc]
      have hb : (b :: r).Pairwise (· < ·) := List.pairwise_cons.2 ⟨fun y hy => h.1 y (List.mem_cons_of_mem _ hy), (List.pairwise_cons.1 h.2).2⟩
      obtain ⟨h1, h2⟩ := bestGo_least a r b hb
      have hbb := h1 b List.mem_cons_self
      refine ⟨fun y hy => ?_, fun y hy he => ?_⟩
      · rcases List.mem_cons.1 hy with rfl | hy
        · exact hbb
        · rcases List.mem_cons.1 hy with rfl | hy
          · omega
          · exact h1 y (List.mem_cons_of_mem _ hy)
      · rcases List.mem_cons.1 hy with rfl | hy
        · exact h2 _ List.mem_cons_self he
        · rcases List.mem_cons.1 hy with rfl | hy
          · have := h2 b List.mem_cons_self (by omega); omega
          · exact h2 y (List.mem_cons_of_mem _ hy) he
theorem atGo_least (a : List Int) (per : Int) : ∀ (l : List Int) (k : Int), (∀ x ∈ l, 0 ≤ x) → (0 ≤ k → a.getD k.toNat 0 = per) → 0 ≤ atGo a per k l → a.getD (atGo a per k l).toNat 0 = per ∧ (0 ≤ k → atGo a per k l ≤ k) ∧ ∀ y ∈ l, a.getD y.toNat 0 = per → atGo a per k l ≤ y
  | [], k, hl, hk, h => ⟨hk h, fun _ => Int.le_refl _, by simp⟩
  | x :: r, k, hl, hk, h => by
    have hx := hl x List.mem_cons_self
    have hr : ∀ y ∈ r, 0 ≤ y := fun y hy => hl y (List.mem_cons_of_mem _ hy)
    rw [atGo] at h ⊢
    by_cases hc : a.getD x.toNat 0 = per ∧ (k < 0 ∨ x < k)
    · rw [if_pos hc] at h ⊢
      obtain ⟨h1, h2, h3⟩ := atGo_least a per r x hr (fun _ => hc.1) h
      refine ⟨h1, fun hk0 => ?_, fun y hy he => ?_⟩
      · have := h2 hx; omega
      · rcases List.mem_cons.1 hy with rfl | hy
        · exact h2 hx
        · exact h3 y hy he
    · rw [if_neg hc] at h ⊢
      obtain ⟨h1, h2, h3⟩ := atGo_least a per r k hr hk h
      refine ⟨h1, h2, fun y hy he => ?_⟩
      rcases List.mem_cons.1 hy with rfl | hy
      · have : ¬ (k < 0 ∨ y < k) := fun hh => hc ⟨he, hh⟩
        have := h2 (by omega); omega
      · exact h3 y hy he
/-- the first of the greatest, in order, is the least of the greatest -/
theorem at_eq {n : Net} {d : List Int} (h : PathOK n d) (h0 : namedF n ≠ []) : maxF (arrF d n.nodes []) (compI (sortI (namedF n))) = atGo (arrF d n.nodes []) (mostF (arrF d n.nodes []) (namedF n) 0) (-1) (namedF n) := by
  have hb := h.bnd
  have hin := h.at_in h0
  have hl : (arrF d n.nodes []).length = n.nodes.length := PathOK.alen
  have hl4 := h.small.2.2.2.1
  have hmem : ∀ x, x ∈ compI (sortI (namedF n)) ↔ x ∈ namedF n := fun x => mem_compI.trans mem_sortI
  have hsrt := compI_sorted (sortI_sorted (namedF n))
  have hrng : ∀ x ∈ compI (sortI (namedF n)), 0 ≤ x ∧ x < ((arrF d n.nodes []).length : Int) := fun x hx => by rw [hl]; exact h.named x ((hmem x).1 hx)
  have hne : (compI (sortI (namedF n))).length ≠ 0 := fun he => by
    have : compI (sortI (namedF n)) = [] := List.eq_nil_of_length_eq_zero he
    have := (hmem _).2 hin
    simp_all
  rw [maxF_best hb (by omega) hne hrng]
  generalize arrF d n.nodes [] = a at *
  generalize hs : compI (sortI (namedF n)) = s at *
  obtain ⟨x, r, rfl⟩ : ∃ x r, s = x :: r := by cases s with | nil => simp at hne | cons x r => exact ⟨x, r, rfl⟩
  simp only [List.getD_cons_zero]
  have hb1 : bestGo a x (x :: r) = bestGo a x r := by rw [bestGo, if_neg (by omega)]
  rw [hb1]
  obtain ⟨h1, h2⟩ := bestGo_least a r x hsrt
  have hbm : bestGo a x r ∈ x :: r := by
    rcases bestGo_mem a r x with h | h
    · rw [h]; exact List.mem_cons_self
    · exact List.mem_cons_of_mem _ h
  have hat0 := (h.named _ hin).1
  obtain ⟨k1, k2, k3⟩ := atGo_least a (mostF a (namedF n) 0) (namedF n) (-1) (fun x hx => (h.named x hx).1) (fun hh => by omega) hat0
  obtain ⟨m1, m2, m3⟩ := mostF_ge a (namedF n) 0
  generalize atGo a (mostF a (namedF n) 0) (-1) (namedF n) = t at *
  have e1 : a.getD t.toNat 0 ≤ a.getD (bestGo a x r).toNat 0 := h1 t ((hmem t).2 hin)
  have e2 : a.getD (bestGo a x r).toNat 0 ≤ mostF a (namedF n) 0 := m2 _ ((hmem _).1 hbm)
  have e3 : a.getD (bestGo a x r).toNat 0 = mostF a (namedF n) 0 := by omega
  apply Int.le_antisymm
  · exact h2 t ((hmem t).2 hin) (by omega)
  · exact k3 _ ((hmem _).1 hbm) e3
def bothE (n : Net) (d : List Int) : Int := if (netE n).2 = 0 then (delaysE d).2 else (netE n).2
theorem both_first (n : Net) (d : List Int) : firstNZ [(netE n).2, (delaysE d).2] = bothE n d := by
  unfold bothE
  by_cases h : (netE n).2 = 0
  · rw [if_pos h, firstNZ, if_pos h, firstNZ]
    split
    · rename_i h2; rw [h2]; rfl
    · rfl
  · rw [if_neg h, firstNZ, if_neg h]
theorem netE_ok {n : Net} (h : (netE n).2 = 0) : n.nodes.length ≤ 400 ∧ n.inputs.length ≤ 12 ∧ n.inputs.length + n.regs.length ≤ 40 ∧ n.outputs.length ≤ 12 ∧ nodesOK 0 n.nodes ∧ (∀ x ∈ namedF n, 0 ≤ x ∧ x < (n.nodes.length : Int)) := by
  unfold netE at h
  split at h; · simp at h
  split at h; · rename_i h2; exact absurd h h2
  split at h; · simp at h
  split at h; · rename_i h2; exact absurd h h2
  split at h; · rename_i h2; exact absurd h h2
  split at h; · rename_i h2; exact absurd h h2
  rename_i h1 h2 h3 h4 h5 h6
  simp only [Classical.not_not] at h2 h4 h5 h6
  obtain ⟨n1, n2⟩ := nodesE_ok h5
  have hi : n.inputs.length ≤ 12 := by
    unfold portsE at h2; split at h2
    · simp at h2
    · omega
  have ho : n.outputs.length ≤ 12 ∧ (namesGo (outE n.nodes) Outp.name [] 0 n.outputs).2.1 = 0 := by
    unfold outsE at h; split at h
    · simp at h
    · exact ⟨by omega, h⟩
  refine ⟨n1, hi, by omega, ho.1, n2, fun x hx => ?_⟩
  rw [namedF, List.mem_append] at hx
  rcases hx with hx | hx
  · obtain ⟨o, ho', rfl⟩ := List.mem_map.1 hx
    obtain ⟨s, hs⟩ := namesGo_all _ _ _ ho.2 o ho'
    have := (or0_zero.1 hs).2
    split at this
    · rename_i hb; simpa [isNodeB] using hb
    · simp at this
  · obtain ⟨r, hr, hx⟩ := List.mem_flatMap.1 hx
    have h0 := firstE_zero h6 _ (List.mem_map.2 ⟨r, hr, rfl⟩)
    unfold regW at h0
    split at h0
    · simp at h0
    · rename_i hb
      simp only [Classical.not_not] at hb
      simp [isNodeB] at hb
      rcases List.mem_cons.1 hx with rfl | hx
      · exact hb.1
      · simp at hx; subst hx; exact hb.2.2
theorem delaysE_ok {d : List Int} (h : (delaysE d).2 = 0) : d.length = 19 ∧ ∀ x ∈ d, 0 ≤ x ∧ x ≤ 1000 := by
  unfold delaysE at h
  split at h
  · rename_i h19
    refine ⟨h19, fun x hx => ?_⟩
    have := firstE_zero h _ (List.mem_map.2 ⟨x, hx, rfl⟩)
    unfold delayE at this
    split at this
    · assumption
    · simp at this
  · simp at h
theorem bothE_ok {n : Net} {d : List Int} (hs : Small n) (h : bothE n d = 0) : PathOK n d ∧ n.nodes.length ≤ 400 := by
  unfold bothE at h
  split at h
  · rename_i h1
    obtain ⟨k1, k2, k3, k4, k5, k6⟩ := netE_ok h1
    obtain ⟨d1, d2⟩ := delaysE_ok h
    exact ⟨⟨hs, d1, d2, k5, k6⟩, k1⟩
  · rename_i h1; exact absurd h h1
theorem compI_len : ∀ l : List Int, (compI l).length ≤ l.length
  | [] => Nat.le_refl _
  | x :: r => by
    have ih := compI_len r
    rw [compI]
    split
    · simp
    · rename_i h; rw [h] at ih; split <;> simp at * <;> omega
theorem named_length_le {n : Net} {d : List Int} (hs : Small n) (h : bothE n d = 0) : (namedF n).length ≤ 1000 := by
  unfold bothE at h
  split at h
  · rename_i h1
    obtain ⟨k1, k2, k3, k4, k5, k6⟩ := netE_ok h1
    have : ∀ r : List Reg, (r.flatMap fun r => [r.enable, r.next]).length = 2 * r.length := fun r => by
      induction r with
      | nil => rfl
      | cons a r ih => simp [List.flatMap_cons, ih]; omega
    simp only [namedF, List.length_append, List.length_map, this]
    omega
  · rename_i h1; exact absurd h h1
theorem pathGo_length (nodes : List Node) (a : List Int) : ∀ (f : Nat) (k : Int) (out : List Int), (pathGo nodes a f k out).length ≤ f + out.length
  | 0, k, out => by simp [pathGo]
  | f + 1, k, out => by
    rw [pathGo]; split
    · omega
    · refine Nat.le_trans (pathGo_length nodes a f _ _) ?_
      simp; omega
theorem pathF_length (n : Net) (d : List Int) : (pathF n d).length ≤ n.nodes.length + 2 := by
  unfold pathF
  refine Nat.le_trans (pathGo_length _ _ _ _ _) ?_
  simp
end Go.Pvm
namespace Go.Pvm.Seat
open Go
def sp_base_NodesErr : SpecF := fun av os => ⟨av = [eInts (aIs av 0), eNodes (aNs av 1)] ∧ os = [] ∧ ((aIs av 0).length ≤ 1048576 ∧ (aNs av 1).length ≤ 1048576 ∧ ∀ x ∈ aNs av 1, x.args.length ≤ 1048576), .tup [eI (nodesE (aIs av 0) (aNs av 1)).1, eI (nodesE (aIs av 0) (aNs av 1)).2], []⟩
def capB (f : PVal) (k : Nat) : PVal := match f with | .fn _ cs => (match cs.getD k .undef with | .fptr _ x => x | _ => .undef) | _ => .undef
def sp_graph_each_api_Node : SpecF := fun av os => ⟨av = [eNodes (aNs av 0), .fn F_graph_CheckNodes_c2 [.fptr false opsV, .fptr false (eInts (dInts (asL (capB (av.getD 1 .undef) 1)))), .fptr false (eNodes (aNs av 0))]] ∧ os = [] ∧
    ((dInts (asL (capB (av.getD 1 .undef) 1))).length ≤ 1048576 ∧ (aNs av 0).length ≤ 1048576 ∧ ∀ x ∈ aNs av 0, x.args.length ≤ 1048576),
  .tup [eI (firstE 0 (nodeEs (dInts (asL (capB (av.getD 1 .undef) 1))) (aNs av 0) 0 (aNs av 0))).1, eI (firstE 0 (nodeEs (dInts (asL (capB (av.getD 1 .undef) 1))) (aNs av 0) 0 (aNs av 0))).2], []⟩
def sp_base_SameNetlist : SpecF := fun av os => ⟨av = [eNet (aN av 0), eNet (aN av 1)] ∧ os = [] ∧ Small (aN av 0), .bool (decide (aN av 0 = aN av 1)), []⟩
def sp_ref26_Path : SpecF := fun av os => ⟨av = [eNet (aN av 0), eInts (aIs av 1)] ∧ os = [] ∧ (PathOK (aN av 0) (aIs av 1) ∧ namedF (aN av 0) ≠ []), eInts (pathF (aN av 0) (aIs av 1)), []⟩
def sp_slices_Sort_int_int : SpecF := fun av os => ⟨av = [.own 0] ∧ os = [.row false T_int 1 ((rowL os 0).map eI)] ∧ (rowL os 0).length ≤ 4194304, .tup [], [.row false T_int 1 ((sortI (rowL os 0)).map eI)]⟩
def sp_slices_Compact_int_int : SpecF := fun av os => ⟨av = [.own 0] ∧ os = [.row false T_int 1 ((rowL os 0).map eI)] ∧ (rowL os 0).length ≤ 4194304, eInts (compI (rowL os 0)), [.none]⟩
def specs3 : List (Nat × SpecF) := (F_base_NodesErr, sp_base_NodesErr) :: (F_graph_each_api_Node, sp_graph_each_api_Node) :: (F_base_SameNetlist, sp_base_SameNetlist) :: (F_ref26_Path, sp_ref26_Path) :: (F_slices_Sort_int_int, sp_slices_Sort_int_int) :: (F_slices_Compact_int_int, sp_slices_Compact_int_int) :: specs2
noncomputable def env3 : Env := envOf specs3
end Go.Pvm.Seat
namespace Go.Pvm.Seat
open Go
def sp_base_NetErr : SpecF := fun av os => ⟨av = [eNet (aN av 0)] ∧ os = [] ∧ Small (aN av 0), .tup [eI (netE (aN av 0)).1, eI (netE (aN av 0)).2], []⟩
def sp_graph_CheckNodes : SpecF := fun av os => ⟨av = [eInts (aIs av 0), eNodes (aNs av 1)] ∧ os = [] ∧ ((aIs av 0).length ≤ 1048576 ∧ (aNs av 1).length ≤ 1048576 ∧ ∀ x ∈ aNs av 1, x.args.length ≤ 1048576), .tup [eI (checkNodesE (aIs av 0) (aNs av 1)).1, eI (checkNodesE (aIs av 0) (aNs av 1)).2], []⟩
def sp_retime_net_ends : SpecF := fun av os => ⟨av = [eNet (aN av 0)] ∧ os = [] ∧ ((aN av 0).regs.length ≤ 1048576 ∧ (aN av 0).outputs.length ≤ 1048576), eInts (compI (sortI (namedF (aN av 0)))), []⟩
def specs4 : List (Nat × SpecF) := (F_base_NetErr, sp_base_NetErr) :: (F_graph_CheckNodes, sp_graph_CheckNodes) :: (F_retime_net_ends, sp_retime_net_ends) :: specs3
noncomputable def env4 : Env := envOf specs4
end Go.Pvm.Seat
namespace Go.Pvm.Seat
open Go
def sp_netlist_CheckNetlist : SpecF := fun av os => ⟨av = [eNet (aN av 0)] ∧ os = [] ∧ Small (aN av 0), .tup [eI (netE (aN av 0)).1, eI (netE (aN av 0)).2], []⟩
def sp_retime_net_period : SpecF := fun av os => ⟨av = [eNet (aN av 0), eInts (aIs av 1)] ∧ os = [] ∧ (Small (aN av 0) ∧ (aIs av 1).length = 19 ∧ nodesOK 0 (aN av 0).nodes ∧ ∀ x ∈ namedF (aN av 0), 0 ≤ x ∧ x < ((aN av 0).nodes.length : Int)), eI (mostF (arrF (aIs av 1) (aN av 0).nodes []) (namedF (aN av 0)) 0), []⟩
def specs5 : List (Nat × SpecF) := (F_netlist_CheckNetlist, sp_netlist_CheckNetlist) :: (F_retime_net_period, sp_retime_net_period) :: specs4
noncomputable def env5 : Env := envOf specs5
end Go.Pvm.Seat
namespace Go.Pvm.Seat
open Go
def sp_law26_bothErr : SpecF := fun av os => ⟨av = [eNet (aN av 0), eInts (aIs av 1)] ∧ os = [] ∧ (Small (aN av 0) ∧ (aIs av 1).length ≤ 1048576), eI (bothE (aN av 0) (aIs av 1)), []⟩
def sp_retime_ArrivalsOf : SpecF := fun av os => ⟨av = [eNet (aN av 0), eInts (aIs av 1)] ∧ os = [] ∧ (Small (aN av 0) ∧ (aIs av 1).length ≤ 1048576), .tup [eInts (if bothE (aN av 0) (aIs av 1) = 0 then arrF (aIs av 1) (aN av 0).nodes [] else []), eI (bothE (aN av 0) (aIs av 1))], []⟩
def sp_retime_PeriodOf : SpecF := fun av os => ⟨av = [eNet (aN av 0), eInts (aIs av 1)] ∧ os = [] ∧ (Small (aN av 0) ∧ (aIs av 1).length ≤ 1048576), .tup [eI (if bothE (aN av 0) (aIs av 1) = 0 then mostF (arrF (aIs av 1) (aN av 0).nodes []) (namedF (aN av 0)) 0 else 0), eI (bothE (aN av 0) (aIs av 1))], []⟩
def sp_retime_PathOf : SpecF := fun av os => ⟨av = [eNet (aN av 0), eInts (aIs av 1)] ∧ os = [] ∧ (Small (aN av 0) ∧ (aIs av 1).length ≤ 1048576), .tup [eInts (if bothE (aN av 0) (aIs av 1) = 0 then (if namedF (aN av 0) = [] then [] else pathF (aN av 0) (aIs av 1)) else []), eI (if bothE (aN av 0) (aIs av 1) = 0 then (if namedF (aN av 0) = [] then 12 else 0) else bothE (aN av 0) (aIs av 1))], []⟩
def specs6 : List (Nat × SpecF) := (F_law26_bothErr, sp_law26_bothErr) :: (F_retime_ArrivalsOf, sp_retime_ArrivalsOf) :: (F_retime_PeriodOf, sp_retime_PeriodOf) :: (F_retime_PathOf, sp_retime_PathOf) :: specs5
noncomputable def env6 : Env := envOf specs6
/-- the examples of the document hold -/
def sp_law26_awake : SpecF := fun av os => ⟨av = [] ∧ os = [], .bool true, []⟩
def specs7 : List (Nat × SpecF) := (F_law26_awake, sp_law26_awake) :: specs6
noncomputable def env7 : Env := envOf specs7
end Go.Pvm.Seat
