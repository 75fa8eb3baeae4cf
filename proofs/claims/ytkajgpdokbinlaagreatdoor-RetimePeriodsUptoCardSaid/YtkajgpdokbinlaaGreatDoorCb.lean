/- RetimePeriods (second form, tied card): the law answers true at every netlist and list of delays whose reading is of bulk at most 1048576, and the input reads as it did; no further condition. This text: part Cb (P0 O1). -/
import Derived.Test.YtkajgpdokbinlaaGreatDoorBa
import Derived.Test.YtkajgpdokbinlaaGreatDoorCa
set_option linter.unusedVariables false
set_option linter.unusedSimpArgs false
set_option linter.unnecessarySimpa false
namespace Go.Pvm.Seat
open Go

theorem byteAt_range (s : ByteArray) (i : Nat) : 0 ≤ byteAt s i ∧ byteAt s i < 256 := by
  unfold byteAt; split
  · have := (s[i]).toNat_lt; omega
  · omega
theorem base_IsName_loop (K : PVal → List AObj → Prop) (s : ByteArray) (hs : s.size ≤ 1048576) : ∀ n i : Nat, i + n = s.size → K (.bool (nameGo s n i)) [] → L_base_IsName_0 K [.str s, eI i] [] := by
  intro n
  induction n with
  | zero =>
    intro i hi hK
    apply r_base_IsName_0
    refine br_neg (by omega) ?_
    exact hK
  | succ n ih =>
    intro i hi hK
    apply r_base_IsName_0
    refine br_pos (by omega) ⟨by omega, ?_⟩
    simp only [nameGo] at hK
    simp (disch := omega) only [natCast_toNat, wrap_succ]
    generalize byteAt s i = c at *
    have hT : nameByte i c = true → L_base_IsName_0 K [.str s, eI ((i + 1 : Nat) : Int)] [] := fun h => ih (i+1) (by omega) (by simpa [h] using hK)
    have hF : nameByte i c = false → K (.bool false) [] := fun h => by simpa [h] using hK
    repeat' first | refine br_d (fun _ => ?_) (fun _ => ?_) | refine br_n (fun _ => ?_) (fun _ => ?_)
    all_goals first
      | (apply hT; simp only [nameByte, letter, Bool.or_eq_true, decide_eq_true_eq]; omega)
      | (apply hF; simp only [nameByte, letter, Bool.or_eq_false_iff, decide_eq_false_iff_not]; omega)
theorem base_IsName_ok (K : PVal → List AObj → Prop) (s : ByteArray) (hK : K (.bool (isName s)) []) : CallP env0 F_base_IsName [.str s] [] K := by
  apply e_base_IsName
  refine br_d (fun h => ?_) (fun h => br_d (fun h => ?_) (fun h => ?_))
  · rwa [show isName s = false by unfold isName; rw [decide_eq_false (by omega)]; rfl] at hK
  · rwa [show isName s = false by unfold isName; rw [decide_eq_false (by omega)]; rfl] at hK
  · refine base_IsName_loop K s (by omega) s.size 0 (by omega) ?_
    rwa [isName, decide_eq_true (by omega), Bool.true_and] at hK
theorem netlist_isName_loop (K : PVal → List AObj → Prop) (s : ByteArray) (hs : s.size ≤ 1048576) : ∀ n i : Nat, i + n = s.size → K (.bool (decide (1 ≤ s.size ∧ s.size ≤ 16) && nameGo s n i)) [] → L_netlist_isName_0 K [.str s, eI s.size, eI i] [] := by
  intro n
  induction n with
  | zero =>
    intro i hi hK
    apply r_netlist_isName_0
    refine br_neg (by omega) ?_
    simp only [nameGo, Bool.and_true] at hK
    refine br_d (fun h => ?_) (fun h => ?_)
    · rwa [show decide ((s.size : Int) ≤ 16) = decide (1 ≤ s.size ∧ s.size ≤ 16) by rw [decide_eq_decide]; omega]
    · rwa [decide_eq_false (by omega)] at hK
  | succ n ih =>
    intro i hi hK
    apply r_netlist_isName_0
    refine br_pos (by omega) ⟨by omega, ?_⟩
    simp only [nameGo] at hK
    have hc := byteAt_range s i
    simp (disch := omega) only [natCast_toNat, wrap_succ, wrap64]
    generalize byteAt s i = c at *
    have hT : nameByte i c = true → L_netlist_isName_0 K [.str s, eI s.size, eI ((i + 1 : Nat) : Int)] [] := fun h => ih (i+1) (by omega) (by simpa [h] using hK)
    have hF : nameByte i c = false → K (.bool false) [] := fun h => by simpa [h] using hK
    repeat' first | refine br_d (fun _ => ?_) (fun _ => ?_) | refine br_n (fun _ => ?_) (fun _ => ?_)
    all_goals first
      | (apply hT; simp only [nameByte, letter, Bool.or_eq_true, decide_eq_true_eq]; omega)
      | (apply hF; simp only [nameByte, letter, Bool.or_eq_false_iff, decide_eq_false_iff_not]; omega)
theorem netlist_isName_ok (K : PVal → List AObj → Prop) (s : ByteArray) (hs : s.size ≤ 1048576) (hK : K (.bool (isName s)) []) : CallP env0 F_netlist_isName [.str s] [] K := by
  apply e_netlist_isName
  exact netlist_isName_loop K s hs s.size 0 (by omega) hK
theorem base_Ints_loop (K : PVal → List AObj → Prop) (a b : List Int) (hl : a.length = b.length) (ha : a.length ≤ 1048576) : ∀ n i : Nat, i + n = a.length → K (.bool (decide (a.drop i = b.drop i))) [] →
    L_base_Ints_0 K [.sl .fr 1 (a.map eI), .sl .fr 1 (b.map eI), eI i] [] := by
  intro n
  induction n with
  | zero =>
    intro i hi hK
    apply r_base_Ints_0
    refine br_neg (by simp; omega) ?_
    have e : a.drop i = b.drop i := by rw [List.drop_eq_nil_of_le (by omega), List.drop_eq_nil_of_le (by omega)]
    rwa [decide_eq_true e] at hK
  | succ n ih =>
    intro i hi hK
    apply r_base_Ints_0
    refine br_pos (by simp; omega) ?_
    have hi1 : i < a.length := by omega
    have hi2 : i < b.length := by omega
    simp (disch := omega) only [List.length_map, natCast_toNat, getP_map, asI_int, asS_str, cellAt_agg, List.getD_cons_zero, List.getD_cons_succ, Int.natCast_nonneg, Int.ofNat_lt, true_and, and_true, wrap_succ, hi1, hi2, Bool.and_true, Bool.not_true]
    rw [drop_at hi1, drop_at hi2] at hK
    generalize a.getD i default = x at *
    generalize b.getD i default = y at *
    refine br_iff.2 ⟨fun he => ?_, fun he => ?_⟩
    · have : x ≠ y := by rintro rfl; simp at he
      rwa [decide_eq_false (by simp [this])] at hK
    · have : x = y := by simpa using he
      subst this
      refine ih (i+1) (by omega) ?_
      rwa [show decide (x :: a.drop (i+1) = x :: b.drop (i+1)) = decide (a.drop (i+1) = b.drop (i+1)) by simp] at hK
theorem base_Ints_ok (K : PVal → List AObj → Prop) (a b : List Int) (ha : a.length ≤ 1048576) (hK : K (.bool (decide (a = b))) []) : CallP env0 F_base_Ints [.sl .fr 1 (a.map eI), .sl .fr 1 (b.map eI)] [] K := by
  apply e_base_Ints
  refine br_n (fun h => ?_) (fun h => ?_)
  · rwa [decide_eq_false (by rintro rfl; exact h rfl)] at hK
  · simp only [List.length_map] at h
    exact base_Ints_loop K a b (by omega) ha a.length 0 (by omega) (by simpa using hK)
theorem base_SamePorts_loop (K : PVal → List AObj → Prop) (a b : List Port) (hl : a.length = b.length) (ha : a.length ≤ 1048576) : ∀ n i : Nat, i + n = a.length → K (.bool (decide (a.drop i = b.drop i))) [] →
    L_base_SamePorts_0 K [.sl .fr 2 (a.map ePort), .sl .fr 2 (b.map ePort), eI i] [] := by
  intro n
  induction n with
  | zero =>
    intro i hi hK
    apply r_base_SamePorts_0
    refine br_neg (by simp; omega) ?_
    have e : a.drop i = b.drop i := by rw [List.drop_eq_nil_of_le (by omega), List.drop_eq_nil_of_le (by omega)]
    rwa [decide_eq_true e] at hK
  | succ n ih =>
    intro i hi hK
    apply r_base_SamePorts_0
    refine br_pos (by simp; omega) ?_
    have hi1 : i < a.length := by omega
    have hi2 : i < b.length := by omega
    simp (disch := omega) only [List.length_map, natCast_toNat, getP_map, asI_int, asS_str, cellAt_agg, List.getD_cons_zero, List.getD_cons_succ, Int.natCast_nonneg, Int.ofNat_lt, true_and, and_true, wrap_succ, hi1, hi2, Bool.and_true, Bool.not_true]
    rw [drop_at hi1, drop_at hi2] at hK
    generalize a.getD i default = x at *
    generalize b.getD i default = y at *
    refine br_iff.2 ⟨fun he => ?_, fun he => ?_⟩
    · have : x ≠ y := by rintro rfl; simp at he
      rwa [decide_eq_false (by simp [this])] at hK
    · have : x = y := by cases x; cases y; simp at he; simp [he]
      subst this
      refine ih (i+1) (by omega) ?_
      rwa [show decide (x :: a.drop (i+1) = x :: b.drop (i+1)) = decide (a.drop (i+1) = b.drop (i+1)) by simp] at hK
theorem base_SamePorts_ok (K : PVal → List AObj → Prop) (a b : List Port) (ha : a.length ≤ 1048576) (hK : K (.bool (decide (a = b))) []) : CallP env0 F_base_SamePorts [.sl .fr 2 (a.map ePort), .sl .fr 2 (b.map ePort)] [] K := by
  apply e_base_SamePorts
  refine br_n (fun h => ?_) (fun h => ?_)
  · rwa [decide_eq_false (by rintro rfl; exact h rfl)] at hK
  · simp only [List.length_map] at h
    exact base_SamePorts_loop K a b (by omega) ha a.length 0 (by omega) (by simpa using hK)
theorem base_SameOutputs_loop (K : PVal → List AObj → Prop) (a b : List Outp) (hl : a.length = b.length) (ha : a.length ≤ 1048576) : ∀ n i : Nat, i + n = a.length → K (.bool (decide (a.drop i = b.drop i))) [] →
    L_base_SameOutputs_0 K [.sl .fr 2 (a.map eOutp), .sl .fr 2 (b.map eOutp), eI i] [] := by
  intro n
  induction n with
  | zero =>
    intro i hi hK
    apply r_base_SameOutputs_0
    refine br_neg (by simp; omega) ?_
    have e : a.drop i = b.drop i := by rw [List.drop_eq_nil_of_le (by omega), List.drop_eq_nil_of_le (by omega)]
    rwa [decide_eq_true e] at hK
  | succ n ih =>
    intro i hi hK
    apply r_base_SameOutputs_0
    refine br_pos (by simp; omega) ?_
    have hi1 : i < a.length := by omega
    have hi2 : i < b.length := by omega
    simp (disch := omega) only [List.length_map, natCast_toNat, getP_map, asI_int, asS_str, cellAt_agg, List.getD_cons_zero, List.getD_cons_succ, Int.natCast_nonneg, Int.ofNat_lt, true_and, and_true, wrap_succ, hi1, hi2, Bool.and_true, Bool.not_true]
    rw [drop_at hi1, drop_at hi2] at hK
    generalize a.getD i default = x at *
    generalize b.getD i default = y at *
    refine br_iff.2 ⟨fun he => ?_, fun he => ?_⟩
    · have : x ≠ y := by rintro rfl; simp at he
      rwa [decide_eq_false (by simp [this])] at hK
    · have : x = y := by cases x; cases y; simp at he; simp [he]
      subst this
      refine ih (i+1) (by omega) ?_
      rwa [show decide (x :: a.drop (i+1) = x :: b.drop (i+1)) = decide (a.drop (i+1) = b.drop (i+1)) by simp] at hK
theorem base_SameOutputs_ok (K : PVal → List AObj → Prop) (a b : List Outp) (ha : a.length ≤ 1048576) (hK : K (.bool (decide (a = b))) []) : CallP env0 F_base_SameOutputs [.sl .fr 2 (a.map eOutp), .sl .fr 2 (b.map eOutp)] [] K := by
  apply e_base_SameOutputs
  refine br_n (fun h => ?_) (fun h => ?_)
  · rwa [decide_eq_false (by rintro rfl; exact h rfl)] at hK
  · simp only [List.length_map] at h
    exact base_SameOutputs_loop K a b (by omega) ha a.length 0 (by omega) (by simpa using hK)
theorem base_NetLeaves_loop2 (K : PVal → List AObj → Prop) (n : Net) (hn : n.regs.length ≤ 1048576) : ∀ k i : Nat, i + k = n.regs.length → ∀ o : List Int, o.length ≤ 1048576 + i → K (eInts (o ++ (n.regs.drop i).map Reg.width)) [] →
    L_base_NetLeaves_2 K [.ref 0 5 0 0, .own 1, eI i] [.row true T_api_Netlist 5 [eNet n], .row false T_int 1 (o.map eI)] := by
  intro k
  induction k with
  | zero =>
    intro i hi o ho hK
    apply r_base_NetLeaves_2
    refine br_neg (by simp; omega) ?_
    simpa [List.drop_eq_nil_of_le (show n.regs.length ≤ i by omega)] using hK
  | succ k ih =>
    intro i hi o ho hK
    apply r_base_NetLeaves_2
    refine br_pos (by simp; omega) ?_
    have hi1 : i < n.regs.length := by omega
    simp (disch := omega) only [List.length_map, natCast_toNat, getP_map, asI_int, asS_str, cellAt_agg, List.getD_cons_zero, List.getD_cons_succ, Int.natCast_nonneg, Int.ofNat_lt, true_and, and_true, wrap_succ, hi1]
    rw [drop_at hi1] at hK
    refine ⟨by omega, ?_⟩
    rw [show o.map eI ++ [PVal.int IntKind.i64 (n.regs.getD i default).width] = (o ++ [(n.regs.getD i default).width]).map eI by simp]
    exact ih (i+1) (by omega) _ (by simp; omega) (by simpa using hK)
theorem base_NetLeaves_loop (K : PVal → List AObj → Prop) (n : Net) (hn : n.regs.length ≤ 1048576) (hm : n.inputs.length ≤ 1048576) : ∀ k i : Nat, i + k = n.inputs.length → ∀ o : List Int, o.length ≤ i → K (eInts (o ++ (n.inputs.drop i).map Port.width ++ n.regs.map Reg.width)) [] →
    L_base_NetLeaves_0 K [.ref 0 5 0 0, .own 1, eI i] [.row true T_api_Netlist 5 [eNet n], .row false T_int 1 (o.map eI)] := by
  intro k
  induction k with
  | zero =>
    intro i hi o ho hK
    apply r_base_NetLeaves_0
    refine br_neg (by simp; omega) ?_
    refine base_NetLeaves_loop2 K n hn n.regs.length 0 (by omega) o (by omega) ?_
    simpa [List.drop_eq_nil_of_le (show n.inputs.length ≤ i by omega)] using hK
  | succ k ih =>
    intro i hi o ho hK
    apply r_base_NetLeaves_0
    refine br_pos (by simp; omega) ?_
    have hi1 : i < n.inputs.length := by omega
    simp (disch := omega) only [List.length_map, natCast_toNat, getP_map, asI_int, asS_str, cellAt_agg, List.getD_cons_zero, List.getD_cons_succ, Int.natCast_nonneg, Int.ofNat_lt, true_and, and_true, wrap_succ, hi1]
    rw [drop_at hi1] at hK
    refine ⟨by omega, ?_⟩
    rw [show o.map eI ++ [PVal.int IntKind.i64 (n.inputs.getD i default).width] = (o ++ [(n.inputs.getD i default).width]).map eI by simp]
    exact ih (i+1) (by omega) _ (by simp; omega) (by simpa using hK)
theorem base_NetLeaves_ok (K : PVal → List AObj → Prop) (n : Net) (hn : n.regs.length ≤ 1048576) (hm : n.inputs.length ≤ 1048576) (hK : K (eInts (leavesF n)) []) : CallP env0 F_base_NetLeaves [eNet n] [] K := by
  apply e_base_NetLeaves
  exact base_NetLeaves_loop K n hn hm n.inputs.length 0 (by omega) [] (by simp) (by simpa [leavesF] using hK)
theorem netlist_leaves_loop2 (K : PVal → List AObj → Prop) (n : Net) (hn : n.regs.length ≤ 1048576) : ∀ k i : Nat, i + k = n.regs.length → ∀ o : List Int, o.length ≤ 1048576 + i → K (eInts (o ++ (n.regs.drop i).map Reg.width)) [] →
    L_netlist_leaves_2 K [.own 0, .sl .fr 5 (n.regs.map eReg), eI n.regs.length, eI i] [.row false T_int 1 (o.map eI)] := by
  intro k
  induction k with
  | zero =>
    intro i hi o ho hK
    apply r_netlist_leaves_2
    refine br_neg (by omega) ?_
    simpa [List.drop_eq_nil_of_le (show n.regs.length ≤ i by omega)] using hK
  | succ k ih =>
    intro i hi o ho hK
    apply r_netlist_leaves_2
    refine br_pos (by omega) ?_
    have hi1 : i < n.regs.length := by omega
    simp (disch := omega) only [List.length_map, natCast_toNat, getP_map, asI_int, asS_str, cellAt_agg, List.getD_cons_zero, List.getD_cons_succ, Int.natCast_nonneg, Int.ofNat_lt, true_and, and_true, wrap_succ, hi1]
    rw [drop_at hi1] at hK
    refine ⟨by omega, ?_⟩
    rw [show o.map eI ++ [PVal.int IntKind.i64 (n.regs.getD i default).width] = (o ++ [(n.regs.getD i default).width]).map eI by simp]
    exact ih (i+1) (by omega) _ (by simp; omega) (by simpa using hK)
theorem netlist_leaves_loop (K : PVal → List AObj → Prop) (n : Net) (hn : n.regs.length ≤ 1048576) (hm : n.inputs.length ≤ 1048576) : ∀ k i : Nat, i + k = n.inputs.length → ∀ o : List Int, o.length ≤ i → K (eInts (o ++ (n.inputs.drop i).map Port.width ++ n.regs.map Reg.width)) [] →
    L_netlist_leaves_0 K [.ref 0 5 0 0, .own 1, .sl .fr 2 (n.inputs.map ePort), eI n.inputs.length, eI i] [.row true T_api_Netlist 5 [eNet n], .row false T_int 1 (o.map eI)] := by
  intro k
  induction k with
  | zero =>
    intro i hi o ho hK
    apply r_netlist_leaves_0
    refine br_neg (by omega) ?_
    simp only [List.length_map]
    refine netlist_leaves_loop2 K n hn n.regs.length 0 (by omega) o (by omega) ?_
    simpa [List.drop_eq_nil_of_le (show n.inputs.length ≤ i by omega)] using hK
  | succ k ih =>
    intro i hi o ho hK
    apply r_netlist_leaves_0
    refine br_pos (by omega) ?_
    have hi1 : i < n.inputs.length := by omega
    simp (disch := omega) only [List.length_map, natCast_toNat, getP_map, asI_int, asS_str, cellAt_agg, List.getD_cons_zero, List.getD_cons_succ, Int.natCast_nonneg, Int.ofNat_lt, true_and, and_true, wrap_succ, hi1]
    rw [drop_at hi1] at hK
    refine ⟨by omega, ?_⟩
    rw [show o.map eI ++ [PVal.int IntKind.i64 (n.inputs.getD i default).width] = (o ++ [(n.inputs.getD i default).width]).map eI by simp]
    exact ih (i+1) (by omega) _ (by simp; omega) (by simpa using hK)
theorem netlist_leaves_ok (K : PVal → List AObj → Prop) (n : Net) (hn : n.regs.length ≤ 1048576) (hm : n.inputs.length ≤ 1048576) (hK : K (eInts (leavesF n)) []) : CallP env0 F_netlist_leaves [eNet n] [] K := by
  apply e_netlist_leaves
  simp only [List.length_map]
  exact netlist_leaves_loop K n hn hm n.inputs.length 0 (by omega) [] (by simp) (by simpa [leavesF] using hK)

theorem ref26_Named_loop2 (K : PVal → List AObj → Prop) (n : Net) (hn : n.regs.length ≤ 1048576) : ∀ k i : Nat, i + k = n.regs.length → ∀ o : List Int, o.length ≤ 1048576 + 2 * i → K (eInts (o ++ (n.regs.drop i).flatMap fun r => [r.enable, r.next])) [] →
    L_ref26_Named_2 K [.ref 0 5 0 0, .own 1, eI i] [.row true T_api_Netlist 5 [eNet n], .row false T_int 1 (o.map eI)] := by
  intro k
  induction k with
  | zero =>
    intro i hi o ho hK
    apply r_ref26_Named_2
    refine br_neg (by simp; omega) ?_
    simpa [List.drop_eq_nil_of_le (show n.regs.length ≤ i by omega)] using hK
  | succ k ih =>
    intro i hi o ho hK
    apply r_ref26_Named_2
    refine br_pos (by simp; omega) ?_
    have hi1 : i < n.regs.length := by omega
    simp (disch := omega) only [List.length_map, natCast_toNat, getP_map, asI_int, asS_str, cellAt_agg, List.getD_cons_zero, List.getD_cons_succ, Int.natCast_nonneg, Int.ofNat_lt, true_and, and_true, wrap_succ, hi1]
    rw [drop_at hi1] at hK
    refine ⟨by omega, ?_⟩
    rw [show o.map eI ++ [PVal.int IntKind.i64 (n.regs.getD i default).enable, PVal.int IntKind.i64 (n.regs.getD i default).next] = (o ++ [(n.regs.getD i default).enable, (n.regs.getD i default).next]).map eI by simp]
    exact ih (i+1) (by omega) _ (by simp; omega) (by simpa using hK)
theorem ref26_Named_loop (K : PVal → List AObj → Prop) (n : Net) (hn : n.regs.length ≤ 1048576) (hm : n.outputs.length ≤ 1048576) : ∀ k i : Nat, i + k = n.outputs.length → ∀ o : List Int, o.length ≤ i → K (eInts (o ++ (n.outputs.drop i).map Outp.node ++ n.regs.flatMap fun r => [r.enable, r.next])) [] →
    L_ref26_Named_0 K [.ref 0 5 0 0, .own 1, eI i] [.row true T_api_Netlist 5 [eNet n], .row false T_int 1 (o.map eI)] := by
  intro k
  induction k with
  | zero =>
    intro i hi o ho hK
    apply r_ref26_Named_0
    refine br_neg (by simp; omega) ?_
    refine ref26_Named_loop2 K n hn n.regs.length 0 (by omega) o (by omega) ?_
    simpa [List.drop_eq_nil_of_le (show n.outputs.length ≤ i by omega)] using hK
  | succ k ih =>
    intro i hi o ho hK
    apply r_ref26_Named_0
    refine br_pos (by simp; omega) ?_
    have hi1 : i < n.outputs.length := by omega
    simp (disch := omega) only [List.length_map, natCast_toNat, getP_map, asI_int, asS_str, cellAt_agg, List.getD_cons_zero, List.getD_cons_succ, Int.natCast_nonneg, Int.ofNat_lt, true_and, and_true, wrap_succ, hi1]
    rw [drop_at hi1] at hK
    refine ⟨by omega, ?_⟩
    rw [show o.map eI ++ [PVal.int IntKind.i64 (n.outputs.getD i default).node] = (o ++ [(n.outputs.getD i default).node]).map eI by simp]
    exact ih (i+1) (by omega) _ (by simp; omega) (by simpa using hK)
theorem ref26_Named_ok (K : PVal → List AObj → Prop) (n : Net) (hn : n.regs.length ≤ 1048576) (hm : n.outputs.length ≤ 1048576) (hK : K (eInts (namedF n)) []) : CallP env0 F_ref26_Named [eNet n] [] K := by
  apply e_ref26_Named
  exact ref26_Named_loop K n hn hm n.outputs.length 0 (by omega) [] (by simp) (by simpa [namedF] using hK)

theorem base_CopyNodes_loop (K : PVal → List AObj → Prop) (l : List Node) (hl : l.length ≤ 1048576) (hb : ∀ x ∈ l, x.args.length ≤ 1048576) : ∀ n i : Nat, i + n = l.length → ∀ o : List Node, o.length = l.length →
    K (.own 0) [.row false T_api_Node 4 ((o.take i ++ l.drop i).map eNode)] → L_base_CopyNodes_0 K [.sl .fr 4 (l.map eNode), .own 0, eI i] [.row false T_api_Node 4 (o.map eNode)] := by
  intro n
  induction n with
  | zero =>
    intro i hi o ho hK
    apply r_base_CopyNodes_0
    refine br_neg (by simp; omega) ?_
    rwa [List.drop_eq_nil_of_le (show l.length ≤ i by omega), List.take_of_length_le (by omega), List.append_nil] at hK
  | succ n ih =>
    intro i hi o ho hK
    apply r_base_CopyNodes_0
    refine br_pos (by simp; omega) ?_
    have h1 : i < l.length := by omega
    have h3 : i < o.length := by omega
    have h2 := hb (l.getD i default) (by simp [List.getD_eq_getElem?_getD, h1])
    rw [drop_at h1] at hK
    simp (disch := first | omega | (simp; omega)) only [List.length_map, natCast_toNat, getP_map, asI_int, Int.natCast_nonneg, Int.ofNat_lt, true_and, and_true, wrap_succ, h1, h3, cellAt_agg, List.getD_cons_zero, List.getD_cons_succ, asI_int, asL_sl, List.length_set, getP_set_self, List.nil_append]
    refine ⟨by omega, ?_⟩
    have hs : ((o.map eNode).set i (eNode (l.getD i default))).set i (eNode (l.getD i default)) = (o.set i (l.getD i default)).map eNode := by
      rw [List.set_set, List.map_set]
    refine Eq.mp (congrArg (fun z => L_base_CopyNodes_0 K [.sl .fr 4 (l.map eNode), .own 0, eI ((i + 1 : Nat) : Int)] [.row false T_api_Node 4 z]) hs.symm) ?_
    refine ih (i+1) (by omega) _ (by simp [ho]) ?_
    rw [take_set_succ h3]
    simpa using hK
theorem base_CopyNodes_ok (K : PVal → List AObj → Prop) (l : List Node) (hl : l.length ≤ 1048576) (hb : ∀ x ∈ l, x.args.length ≤ 1048576) (hK : K (.own 0) [.row false T_api_Node 4 (l.map eNode)]) : CallP env0 F_base_CopyNodes [.sl .fr 4 (l.map eNode)] [] K := by
  apply e_base_CopyNodes
  simp only [List.length_map, natCast_toNat]
  refine ⟨⟨by omega, by omega, by show (((l.length * 48 : Nat)) : Int) ≤ _; omega, by omega⟩, ?_⟩
  have h0 : List.replicate l.length (eNode default) = (List.replicate l.length default).map eNode := by rw [List.map_replicate]
  refine Eq.mp (congrArg (fun z => L_base_CopyNodes_0 K [.sl .fr 4 (l.map eNode), .own 0, eI 0] [.row false T_api_Node 4 z]) h0.symm) ?_
  exact base_CopyNodes_loop K l hl hb l.length 0 (by omega) (List.replicate l.length default) (by simp) (by simpa using hK)
theorem law26_few_loop (K : PVal → List AObj → Prop) (n : Net) (hn : n.nodes.length ≤ 1048576) : ∀ k i : Nat, i + k = n.nodes.length → K (.bool ((n.nodes.drop i).all fun x => decide (x.args.length ≤ 5))) [] →
    L_law26_few_0 K [.ref 0 5 0 0, eI i] [.row true T_api_Netlist 5 [eNet n]] := by
  intro k
  induction k with
  | zero =>
    intro i hi hK
    apply r_law26_few_0
    refine br_neg (by simp; omega) ?_
    simpa [List.drop_eq_nil_of_le (show n.nodes.length ≤ i by omega)] using hK
  | succ k ih =>
    intro i hi hK
    apply r_law26_few_0
    refine br_pos (by simp; omega) ?_
    have hi1 : i < n.nodes.length := by omega
    simp (disch := omega) only [List.length_map, natCast_toNat, getP_map, asI_int, asS_str, asL_sl, cellAt_agg, List.getD_cons_zero, List.getD_cons_succ, Int.natCast_nonneg, Int.ofNat_lt, true_and, and_true, wrap_succ, hi1]
    rw [drop_at hi1, List.all_cons] at hK
    refine br_d (fun h => ?_) (fun h => ?_)
    · rwa [decide_eq_false (by omega), Bool.false_and] at hK
    · rw [decide_eq_true (by omega), Bool.true_and] at hK
      exact ih (i+1) (by omega) hK
theorem law26_few_ok (K : PVal → List AObj → Prop) (n : Net) (hn : n.nodes.length ≤ 1048576) (hK : K (.bool (fewF n)) []) : CallP env0 F_law26_few [eNet n] [] K := by
  apply e_law26_few
  simp only [List.length_map]
  have hF : (¬ (n.inputs.length ≤ 14 ∧ n.regs.length ≤ 42 ∧ (n.nodes.length ≤ 60 ∨ n.nodes.length = 400) ∧ n.outputs.length ≤ 14)) → K (.bool false) [] := fun h => by
    rwa [fewF, decide_eq_false h, Bool.false_and] at hK
  have hT : (n.inputs.length ≤ 14 ∧ n.regs.length ≤ 42 ∧ (n.nodes.length ≤ 60 ∨ n.nodes.length = 400) ∧ n.outputs.length ≤ 14) → L_law26_few_0 K [.ref 0 5 0 0, eI 0] [.row true T_api_Netlist 5 [eNet n]] := fun h => by
    refine law26_few_loop K n hn n.nodes.length 0 (by omega) ?_
    rwa [fewF, decide_eq_true h, Bool.true_and] at hK
  repeat' first | refine br_d (fun _ => ?_) (fun _ => ?_) | refine br_n (fun _ => ?_) (fun _ => ?_)
  all_goals first
    | (refine hF ?_; omega)
    | (refine hT ?_; omega)
theorem ref26_CheckDelays_loop (K : PVal → List AObj → Prop) (l : List Int) (hl : l.length ≤ 1048576) : ∀ k i : Nat, i + k = l.length → K (.tup [eI (firstE i ((l.drop i).map delayE)).1, eI (firstE i ((l.drop i).map delayE)).2]) [] →
    L_ref26_CheckDelays_0 K [eInts l, eI i] [] := by
  intro k
  induction k with
  | zero =>
    intro i hi hK
    apply r_ref26_CheckDelays_0
    refine br_neg (by simp; omega) ?_
    rwa [List.drop_eq_nil_of_le (show l.length ≤ i by omega)] at hK
  | succ k ih =>
    intro i hi hK
    apply r_ref26_CheckDelays_0
    refine br_pos (by simp; omega) ?_
    have hi1 : i < l.length := by omega
    simp (disch := omega) only [List.length_map, natCast_toNat, getP_map, asI_int, asS_str, asL_sl, cellAt_agg, List.getD_cons_zero, List.getD_cons_succ, Int.natCast_nonneg, Int.ofNat_lt, true_and, and_true, wrap_succ, hi1]
    rw [drop_at hi1, List.map_cons] at hK
    generalize l.getD i default = x at *
    have hF : ¬ (0 ≤ x ∧ x ≤ 1000) → K (.tup [eI i, eI 2]) [] := fun h => by simpa [firstE, delayE, if_neg h] using hK
    refine br_d (fun h => br_n (fun h2 => hF (by omega)) (fun h2 => ?_)) (fun h => hF (by omega))
    refine ih (i+1) (by omega) ?_
    simpa [firstE, delayE, if_pos (show 0 ≤ x ∧ x ≤ 1000 from ⟨h, h2⟩)] using hK
theorem ref26_CheckDelays_ok (K : PVal → List AObj → Prop) (l : List Int) (hl : l.length ≤ 1048576) (hK : K (.tup [eI (delaysE l).1, eI (delaysE l).2]) []) : CallP env0 F_ref26_CheckDelays [eInts l] [] K := by
  apply e_ref26_CheckDelays
  simp only [List.length_map]
  refine br_n (fun h => ?_) (fun h => ?_)
  · rwa [delaysE, if_neg (by omega)] at hK
  · refine ref26_CheckDelays_loop K l hl l.length 0 (by omega) ?_
    rwa [delaysE, if_pos (by omega)] at hK
theorem ref26_Arrivals_in (K : PVal → List AObj → Prop) (J0 : List PVal → List AObj → Prop) (n : Net) (d : List Int) (hn : n.nodes.length ≤ 1048576) (i : Nat) (hi : i < n.nodes.length) (hop : 0 ≤ (n.nodes.getD i default).op ∧ (n.nodes.getD i default).op < d.length)
    (ha : ∀ a ∈ (n.nodes.getD i default).args, 0 ≤ a ∧ a < (i : Int)) (hl : (n.nodes.getD i default).args.length ≤ 1048576) (don zer : List Int) (hd : don.length = i) (hz : zer.length + i = n.nodes.length) :
    ∀ k j : Nat, j + k = (n.nodes.getD i default).args.length → ∀ m : Int,
      J0 [eInts d, .ref 0 5 0 0, .own 1, eI ((i + 1 : Nat) : Int)] [.row true T_api_Netlist 5 [eNet n], .row false T_int 1 (((don ++ zer).map eI).set i (eI (IntKind.i64.wrap (mostF don ((n.nodes.getD i default).args.drop j) m + d.getD (n.nodes.getD i default).op.toNat 0))))] →
      L_ref26_Arrivals_2 K J0 [eInts d, .ref 0 5 0 0, .own 1, eI i, eI m, eI j] [.row true T_api_Netlist 5 [eNet n], .row false T_int 1 ((don ++ zer).map eI)] := by
  intro k
  induction k with
  | zero =>
    intro j hj m hJ
    apply r_ref26_Arrivals_2
    have h3 : (n.nodes.getD i default).op.toNat < d.length := by omega
    have h4 : i < (don ++ zer).length := by rw [List.length_append]; omega
    simp (disch := omega) only [List.length_map, natCast_toNat, getP_nodes, getP_ints, asI_int, asS_str, asL_sl, cellAt_agg, List.getD_cons_zero, List.getD_cons_succ, Int.natCast_nonneg, Int.ofNat_lt, true_and, and_true, wrap_succ, hi, hop, h3, h4]
    refine br_neg (by omega) ?_
    rwa [List.drop_eq_nil_of_le (by omega)] at hJ
  | succ k ih =>
    intro j hj m hJ
    apply r_ref26_Arrivals_2
    have h1 : j < (n.nodes.getD i default).args.length := by omega
    have h2 := ha _ (mem_getD0 h1)
    have h3 : ((n.nodes.getD i default).args.getD j 0).toNat < (don ++ zer).length := by rw [List.length_append]; omega
    have h3' : ((n.nodes.getD i default).args.getD j 0) < ((don ++ zer).length : Int) := by rw [List.length_append]; omega
    simp (disch := omega) only [List.length_map, natCast_toNat, getP_nodes, getP_ints, asI_int, asS_str, asL_sl, cellAt_agg, List.getD_cons_zero, List.getD_cons_succ, Int.natCast_nonneg, Int.ofNat_lt, true_and, and_true, wrap_succ, hi, h1, h2, h3, h3', getD_left]
    refine br_pos (by first | omega | trivial) ?_
    rw [drop_at0 h1, mostF, List.foldl_cons] at hJ
    exact ih (j+1) (by omega) _ hJ
theorem ref26_Arrivals_loop (K : PVal → List AObj → Prop) (n : Net) (d : List Int) (hd : d.length = 19) (hn : n.nodes.length ≤ 1048576) (hok : nodesOK 0 n.nodes) (hl : ∀ x ∈ n.nodes, x.args.length ≤ 1048576) : ∀ k i : Nat, i + k = n.nodes.length → ∀ don : List Int, don.length = i → K (eInts (arrF d (n.nodes.drop i) don)) [] →
    L_ref26_Arrivals_0 K [eInts d, .ref 0 5 0 0, .own 1, eI i] [.row true T_api_Netlist 5 [eNet n], .row false T_int 1 ((don ++ List.replicate k 0).map eI)] := by
  intro k
  induction k with
  | zero =>
    intro i hi don hdon hK
    apply r_ref26_Arrivals_0
    refine br_neg (by simp; omega) ?_
    simpa [List.drop_eq_nil_of_le (show n.nodes.length ≤ i by omega), arrF] using hK
  | succ k ih =>
    intro i hi don hdon hK
    apply r_ref26_Arrivals_0
    refine br_pos (by simp; omega) ?_
    have hi1 : i < n.nodes.length := by omega
    obtain ⟨h1, h2⟩ := nodesOK_at hok hi1
    rw [drop_at hi1, arrF] at hK
    refine ref26_Arrivals_in K _ n d hn i hi1 (by omega) (by simpa using h2) (hl _ (mem_getD hi1)) don _ hdon (by simp; omega) (n.nodes.getD i default).args.length 0 (by omega) 0 ?_
    simp only [List.drop_zero]
    generalize IntKind.i64.wrap (mostF don (n.nodes.getD i default).args 0 + d.getD (n.nodes.getD i default).op.toNat 0) = v at *
    have hs : ((don ++ List.replicate (k + 1) 0).map eI).set i (eI v) = ((don ++ [v]) ++ List.replicate k 0).map eI := by
      subst hdon
      simp [List.replicate_succ]
    rw [hs]
    exact ih (i+1) (by omega) _ (by simp [hdon]) hK
theorem ref26_Arrivals_ok (K : PVal → List AObj → Prop) (n : Net) (d : List Int) (hd : d.length = 19) (hn : n.nodes.length ≤ 1048576) (hok : nodesOK 0 n.nodes) (hl : ∀ x ∈ n.nodes, x.args.length ≤ 1048576) (hK : K (eInts (arrF d n.nodes [])) []) : CallP env0 F_ref26_Arrivals [eNet n, eInts d] [] K := by
  apply e_ref26_Arrivals
  simp only [List.length_map, natCast_toNat]
  refine ⟨⟨by omega, by omega, by omega, by omega⟩, ?_⟩
  have h0 : List.replicate n.nodes.length (eI 0) = (([] : List Int) ++ List.replicate n.nodes.length 0).map eI := by simp
  refine Eq.mp (congrArg (fun z => L_ref26_Arrivals_0 K [eInts d, .ref 0 5 0 0, .own 1, eI 0] [.row true T_api_Netlist 5 [eNet n], .row false T_int 1 z]) h0.symm) ?_
  exact ref26_Arrivals_loop K n d hd hn hok hl n.nodes.length 0 (by omega) [] rfl (by simpa using hK)

theorem retime_net_arrivals_in (K : PVal → List AObj → Prop) (J0 : List PVal → List AObj → Prop) (nodes : List Node) (x : Node) (d : List Int) (hn : nodes.length ≤ 1048576) (i : Nat) (hi : i < nodes.length) (hop : 0 ≤ x.op ∧ x.op < d.length)
    (ha : ∀ a ∈ x.args, 0 ≤ a ∧ a < (i : Int)) (hl : x.args.length ≤ 1048576) (don : List Int) (hd : don.length = i) :
    ∀ k j : Nat, j + k = x.args.length → ∀ m : Int,
      J0 [eInts d, .own 0, .sl .fr 4 (nodes.map eNode), eI nodes.length, eI ((i + 1 : Nat) : Int)] [.row false T_int 1 ((don ++ [IntKind.i64.wrap (mostF don (x.args.drop j) m + d.getD x.op.toNat 0)]).map eI)] →
      L_retime_net_arrivals_2 K J0 [eInts d, .own 0, .ref 1 4 0 0, eI m, .sl .fr 4 (nodes.map eNode), eI nodes.length, eI i, eInts x.args, eI x.args.length, eI j] [.row false T_int 1 (don.map eI), .row true T_api_Node 4 [eNode x]] := by
  intro k
  induction k with
  | zero =>
    intro j hj m hJ
    apply r_retime_net_arrivals_2
    have h3 : x.op.toNat < d.length := by omega
    refine br_neg (by omega) ?_
    simp (disch := omega) only [List.length_map, natCast_toNat, getP_nodes, getP_ints, asI_int, asS_str, asL_sl, cellAt_agg, List.getD_cons_zero, List.getD_cons_succ, Int.natCast_nonneg, Int.ofNat_lt, true_and, and_true, wrap_succ, hi, hop, h3]
    refine ⟨by omega, ?_⟩
    rw [List.drop_eq_nil_of_le (by omega)] at hJ
    simpa [mostF] using hJ
  | succ k ih =>
    intro j hj m hJ
    apply r_retime_net_arrivals_2
    have h1 : j < x.args.length := by omega
    have h2 := ha _ (mem_getD0 h1)
    have h3 : (x.args.getD j 0).toNat < don.length := by omega
    have h3' : (x.args.getD j 0) < (don.length : Int) := by omega
    refine br_pos (by first | omega | trivial) ?_
    simp (disch := omega) only [List.length_map, natCast_toNat, getP_nodes, getP_ints, asI_int, asS_str, asL_sl, cellAt_agg, List.getD_cons_zero, List.getD_cons_succ, Int.natCast_nonneg, Int.ofNat_lt, true_and, and_true, wrap_succ, hi, h1, h2, h3, h3']
    rw [drop_at0 h1, mostF, List.foldl_cons] at hJ
    exact ih (j+1) (by omega) _ hJ
theorem retime_net_arrivals_loop (K : PVal → List AObj → Prop) (nodes : List Node) (d : List Int) (hd : d.length = 19) (hn : nodes.length ≤ 1048576) (hok : nodesOK 0 nodes) (hl : ∀ x ∈ nodes, x.args.length ≤ 1048576) : ∀ k i : Nat, i + k = nodes.length → ∀ don : List Int, don.length = i → K (eInts (arrF d (nodes.drop i) don)) [] →
    L_retime_net_arrivals_0 K [eInts d, .own 0, .sl .fr 4 (nodes.map eNode), eI nodes.length, eI i] [.row false T_int 1 (don.map eI)] := by
  intro k
  induction k with
  | zero =>
    intro i hi don hdon hK
    apply r_retime_net_arrivals_0
    refine br_neg (by omega) ?_
    rwa [List.drop_eq_nil_of_le (show nodes.length ≤ i by omega), arrF] at hK
  | succ k ih =>
    intro i hi don hdon hK
    apply r_retime_net_arrivals_0
    refine br_pos (by first | omega | trivial) ?_
    have hi1 : i < nodes.length := by omega
    obtain ⟨h1, h2⟩ := nodesOK_at hok hi1
    rw [drop_at hi1, arrF] at hK
    simp (disch := omega) only [List.length_map, natCast_toNat, getP_nodes, getP_ints, asI_int, asS_str, asL_sl, cellAt_agg, List.getD_cons_zero, List.getD_cons_succ, Int.natCast_nonneg, Int.ofNat_lt, true_and, and_true, wrap_succ, hi1]
    refine retime_net_arrivals_in K _ nodes _ d hn i hi1 (by omega) (by simpa using h2) (hl _ (mem_getD hi1)) don hdon (nodes.getD i default).args.length 0 (by omega) 0 ?_
    exact ih (i+1) (by omega) _ (by simp [hdon]) hK
theorem retime_net_arrivals_ok (K : PVal → List AObj → Prop) (n : Net) (d : List Int) (hd : d.length = 19) (hn : n.nodes.length ≤ 1048576) (hok : nodesOK 0 n.nodes) (hl : ∀ x ∈ n.nodes, x.args.length ≤ 1048576) (hK : K (eInts (arrF d n.nodes [])) []) : CallP env0 F_retime_net_arrivals [eNet n, eInts d] [] K := by
  apply e_retime_net_arrivals
  simp only [List.length_map]
  exact retime_net_arrivals_loop K n.nodes d hd hn hok hl n.nodes.length 0 (by omega) [] rfl hK
theorem base_widthsFit_end (K : PVal → List AObj → Prop) (nodes : List Node) (x : Node) (w : List Int) (hop : 2 ≤ x.op ∧ x.op < 19) (hw : (w.length : Int) = argCount x.op) (i : Nat) (hi : i = x.args.length) (hK : K (.bool (widthsOK x.op x.width x.value w)) []) :
    L_base_widthsFit_0 K [.sl .fr 4 (nodes.map eNode), .ref 0 4 0 0, .own 1, eI i] [.row true T_api_Node 4 [eNode x], .row false T_int 1 (w.map eI)] := by
  apply r_base_widthsFit_0
  refine br_neg (by simp; omega) ?_
  obtain ⟨op, width, args, value⟩ := x
  simp only at *
  have ho : op = 2 ∨ op = 3 ∨ op = 4 ∨ op = 5 ∨ op = 6 ∨ op = 7 ∨ op = 8 ∨ op = 9 ∨ op = 10 ∨ op = 11 ∨ op = 12 ∨ op = 13 ∨ op = 14 ∨ op = 15 ∨ op = 16 ∨ op = 17 ∨ op = 18 := by omega
  rcases ho with rfl | rfl | rfl | rfl | rfl | rfl | rfl | rfl | rfl | rfl | rfl | rfl | rfl | rfl | rfl | rfl | rfl
  all_goals first
    | (obtain ⟨a, rfl⟩ := len1 (by simpa [argCount] using hw)
       simp [br_dec, br_not, getP0, getP1, getP2] at hK ⊢
       simpa [widthsOK] using hK)
    | (obtain ⟨a, b, rfl⟩ := len2 (by simpa [argCount] using hw)
       simp [getP0, getP1, getP2] at hK ⊢
       simp [br_dec, br_not, widthsOK] at hK ⊢
       first
         | exact hK
         | (refine ⟨fun h => ?_, fun h => ?_⟩ <;> simpa [h] using hK))
    | (obtain ⟨a, b, c, rfl⟩ := len3 (by simpa [argCount] using hw)
       simp [getP0, getP1, getP2] at hK ⊢
       simp [br_dec, br_not, widthsOK] at hK ⊢
       refine ⟨fun h => ⟨fun h2 => ?_, fun h2 => ?_⟩, fun h => ?_⟩
       · simpa [h, h2] using hK
       · simpa [h, h2] using hK
       · simpa [h] using hK)
theorem base_widthsFit_loop (K : PVal → List AObj → Prop) (nodes : List Node) (x : Node) (hx : x.args.length ≤ 1048576) (hop : 2 ≤ x.op ∧ x.op < 19) (hw : (x.args.length : Int) = argCount x.op) (ha : ∀ a ∈ x.args, 0 ≤ a ∧ a < (nodes.length : Int)) : ∀ k i : Nat, i + k = x.args.length → ∀ w : List Int, w.length = i → K (.bool (widthsOK x.op x.width x.value (w ++ argWidths nodes (x.args.drop i)))) [] →
    L_base_widthsFit_0 K [.sl .fr 4 (nodes.map eNode), .ref 0 4 0 0, .own 1, eI i] [.row true T_api_Node 4 [eNode x], .row false T_int 1 (w.map eI)] := by
  intro k
  induction k with
  | zero =>
    intro i hi w hwl hK
    refine base_widthsFit_end K nodes x w hop (by rw [← hw]; omega) i (by omega) ?_
    rwa [List.drop_eq_nil_of_le (by omega), argWidths, List.map_nil, List.append_nil] at hK
  | succ k ih =>
    intro i hi w hwl hK
    apply r_base_widthsFit_0
    have h1 : i < x.args.length := by omega
    have h2 := ha _ (mem_getD0 h1)
    have h3 : (x.args.getD i 0).toNat < nodes.length := by omega
    refine br_pos (by simp; omega) ?_
    simp (disch := omega) only [List.length_map, natCast_toNat, getP_nodes, getP_ints, asI_int, asS_str, asL_sl, cellAt_agg, List.getD_cons_zero, List.getD_cons_succ, Int.natCast_nonneg, Int.ofNat_lt, true_and, and_true, wrap_succ, h1, h2, h3]
    refine ⟨by omega, ?_⟩
    rw [drop_at0 h1, argWidths, List.map_cons] at hK
    have := ih (i+1) (by omega) (w ++ [(nodes.getD (x.args.getD i 0).toNat default).width]) (by simp [hwl]) (by simpa [argWidths] using hK)
    simpa using this
theorem base_widthsFit_ok (K : PVal → List AObj → Prop) (nodes : List Node) (x : Node) (hx : x.args.length ≤ 1048576) (hop : 2 ≤ x.op ∧ x.op < 19) (hw : (x.args.length : Int) = argCount x.op) (ha : ∀ a ∈ x.args, 0 ≤ a ∧ a < (nodes.length : Int)) (hK : K (.bool (widthsOK x.op x.width x.value (argWidths nodes x.args))) []) :
    CallP env0 F_base_widthsFit [.sl .fr 4 (nodes.map eNode), eNode x] [] K := by
  apply e_base_widthsFit
  exact base_widthsFit_loop K nodes x hx hop hw ha x.args.length 0 (by omega) [] rfl (by simpa using hK)
theorem retime_first_loop (K : PVal → List AObj → Prop) (l : List Int) (hl : l.length ≤ 1048576) : ∀ k i : Nat, i + k = l.length → K (eI (firstNZ (l.drop i))) [] → L_retime_first_0 K [eInts l, eI l.length, eI i] [] := by
  intro k
  induction k with
  | zero =>
    intro i hi hK
    apply r_retime_first_0
    refine br_neg (by omega) ?_
    rwa [List.drop_eq_nil_of_le (by omega), firstNZ] at hK
  | succ k ih =>
    intro i hi hK
    apply r_retime_first_0
    refine br_pos (by omega) ?_
    have hi1 : i < l.length := by omega
    simp (disch := omega) only [List.length_map, natCast_toNat, getP_ints, asI_int, Int.natCast_nonneg, Int.ofNat_lt, true_and, and_true, wrap_succ, hi1]
    rw [drop_at0 hi1, firstNZ] at hK
    refine br_n (fun h => ?_) (fun h => ?_)
    · rwa [if_neg h] at hK
    · rw [if_pos h] at hK; exact ih (i+1) (by omega) hK
theorem retime_first_ok (K : PVal → List AObj → Prop) (l : List Int) (hl : l.length ≤ 1048576) (hK : K (eI (firstNZ l)) []) : CallP env0 F_retime_first [eInts l] [] K := by
  apply e_retime_first
  simp only [List.length_map]
  exact retime_first_loop K l hl l.length 0 (by omega) hK
theorem netlist_first_loop (K : PVal → List AObj → Prop) (l : List Int) (hl : l.length ≤ 1048576) : ∀ k i : Nat, i + k = l.length → K (eI (firstNZ (l.drop i))) [] → L_netlist_first_0 K [eInts l, eI l.length, eI i] [] := by
  intro k
  induction k with
  | zero =>
    intro i hi hK
    apply r_netlist_first_0
    refine br_neg (by omega) ?_
    rwa [List.drop_eq_nil_of_le (by omega), firstNZ] at hK
  | succ k ih =>
    intro i hi hK
    apply r_netlist_first_0
    refine br_pos (by omega) ?_
    have hi1 : i < l.length := by omega
    simp (disch := omega) only [List.length_map, natCast_toNat, getP_ints, asI_int, Int.natCast_nonneg, Int.ofNat_lt, true_and, and_true, wrap_succ, hi1]
    rw [drop_at0 hi1, firstNZ] at hK
    refine br_n (fun h => ?_) (fun h => ?_)
    · rwa [if_neg h] at hK
    · rw [if_pos h] at hK; exact ih (i+1) (by omega) hK
theorem netlist_first_ok (K : PVal → List AObj → Prop) (l : List Int) (hl : l.length ≤ 1048576) (hK : K (eI (firstNZ l)) []) : CallP env0 F_netlist_first [eInts l] [] K := by
  apply e_netlist_first
  simp only [List.length_map]
  exact netlist_first_loop K l hl l.length 0 (by omega) hK
theorem graph_first_loop (K : PVal → List AObj → Prop) (l : List Int) (hl : l.length ≤ 1048576) : ∀ k i : Nat, i + k = l.length → K (eI (firstNZ (l.drop i))) [] → L_graph_first_0 K [eInts l, eI l.length, eI i] [] := by
  intro k
  induction k with
  | zero =>
    intro i hi hK
    apply r_graph_first_0
    refine br_neg (by omega) ?_
    rwa [List.drop_eq_nil_of_le (by omega), firstNZ] at hK
  | succ k ih =>
    intro i hi hK
    apply r_graph_first_0
    refine br_pos (by omega) ?_
    have hi1 : i < l.length := by omega
    simp (disch := omega) only [List.length_map, natCast_toNat, getP_ints, asI_int, Int.natCast_nonneg, Int.ofNat_lt, true_and, and_true, wrap_succ, hi1]
    rw [drop_at0 hi1, firstNZ] at hK
    refine br_n (fun h => ?_) (fun h => ?_)
    · rwa [if_neg h] at hK
    · rw [if_pos h] at hK; exact ih (i+1) (by omega) hK
theorem graph_first_ok (K : PVal → List AObj → Prop) (l : List Int) (hl : l.length ≤ 1048576) (hK : K (eI (firstNZ l)) []) : CallP env0 F_graph_first [eInts l] [] K := by
  apply e_graph_first
  simp only [List.length_map]
  exact graph_first_loop K l hl l.length 0 (by omega) hK
theorem slices_IndexFunc_int_int_odd_loop (K : PVal → List AObj → Prop) (l : List Int) (w : Int) (hl : l.length ≤ 1048576) : ∀ k i : Nat, i + k = l.length → K (eI (idxGo (oddB w) i (l.drop i))) [] → L_slices_IndexFunc_int_int_odd_0 K [eInts l, .fn F_graph_CheckNodes_c2_c1 [.fptr false (eI w)], eI l.length, eI i] [] := by
  intro k
  induction k with
  | zero =>
    intro i hi hK
    apply r_slices_IndexFunc_int_int_odd_0
    refine br_neg (by omega) ?_
    rwa [List.drop_eq_nil_of_le (by omega), idxGo] at hK
  | succ k ih =>
    intro i hi hK
    apply r_slices_IndexFunc_int_int_odd_0
    refine br_pos (by omega) ?_
    have hi1 : i < l.length := by omega
    simp (disch := omega) only [List.length_map, natCast_toNat, getP_ints, asI_int, Int.natCast_nonneg, Int.ofNat_lt, true_and, and_true, wrap_succ, hi1]
    rw [drop_at0 hi1, idxGo] at hK
    generalize l.getD i 0 = x at *
    have hT : oddB w x = true → K (eI i) [] := fun h => by rwa [if_pos h] at hK
    have hF : oddB w x = false → L_slices_IndexFunc_int_int_odd_0 K [eInts l, .fn F_graph_CheckNodes_c2_c1 [.fptr false (eI w)], eI l.length, eI ((i + 1 : Nat) : Int)] [] := fun h => by
      rw [if_neg (by simp [h])] at hK; exact ih (i+1) (by omega) hK
    repeat' first | refine br_d (fun _ => ?_) (fun _ => ?_) | refine br_n (fun _ => ?_) (fun _ => ?_)
    all_goals first
      | (apply hT; simp only [oddB, Bool.not_eq_true', decide_eq_false_iff_not]; omega)
      | (apply hF; simp only [oddB, Bool.not_eq_false', decide_eq_true_eq]; omega)
theorem slices_IndexFunc_int_int_odd_ok (K : PVal → List AObj → Prop) (l : List Int) (w : Int) (hl : l.length ≤ 1048576) (hK : K (eI (idxGo (oddB w) 0 l)) []) : CallP env0 F_slices_IndexFunc_int_int [eInts l, .fn F_graph_CheckNodes_c2_c1 [.fptr false (eI w)]] [] K := by
  apply e_slices_IndexFunc_int_int_odd
  simp only [List.length_map]
  exact slices_IndexFunc_int_int_odd_loop K l w hl l.length 0 (by omega) hK
theorem slices_IndexFunc_int_int_same_loop (K : PVal → List AObj → Prop) (l : List Int) (w : Int) (hl : l.length ≤ 1048576) : ∀ k i : Nat, i + k = l.length → K (eI (idxGo (neB w) i (l.drop i))) [] → L_slices_IndexFunc_int_int_same_0 K [eInts l, .fn F_graph_same_c1 [.fptr false (eI w)], eI l.length, eI i] [] := by
  intro k
  induction k with
  | zero =>
    intro i hi hK
    apply r_slices_IndexFunc_int_int_same_0
    refine br_neg (by omega) ?_
    rwa [List.drop_eq_nil_of_le (by omega), idxGo] at hK
  | succ k ih =>
    intro i hi hK
    apply r_slices_IndexFunc_int_int_same_0
    refine br_pos (by omega) ?_
    have hi1 : i < l.length := by omega
    simp (disch := omega) only [List.length_map, natCast_toNat, getP_ints, asI_int, Int.natCast_nonneg, Int.ofNat_lt, true_and, and_true, wrap_succ, hi1]
    rw [drop_at0 hi1, idxGo] at hK
    generalize l.getD i 0 = x at *
    have hT : neB w x = true → K (eI i) [] := fun h => by rwa [if_pos h] at hK
    have hF : neB w x = false → L_slices_IndexFunc_int_int_same_0 K [eInts l, .fn F_graph_same_c1 [.fptr false (eI w)], eI l.length, eI ((i + 1 : Nat) : Int)] [] := fun h => by
      rw [if_neg (by simp [h])] at hK; exact ih (i+1) (by omega) hK
    repeat' first | refine br_d (fun _ => ?_) (fun _ => ?_) | refine br_n (fun _ => ?_) (fun _ => ?_)
    all_goals first
      | (apply hT; simp only [neB, Bool.not_eq_true', decide_eq_false_iff_not]; omega)
      | (apply hF; simp only [neB, Bool.not_eq_false', decide_eq_true_eq]; omega)
theorem slices_IndexFunc_int_int_same_ok (K : PVal → List AObj → Prop) (l : List Int) (w : Int) (hl : l.length ≤ 1048576) (hK : K (eI (idxGo (neB w) 0 l)) []) : CallP env0 F_slices_IndexFunc_int_int [eInts l, .fn F_graph_same_c1 [.fptr false (eI w)]] [] K := by
  apply e_slices_IndexFunc_int_int_same
  simp only [List.length_map]
  exact slices_IndexFunc_int_int_same_loop K l w hl l.length 0 (by omega) hK
theorem retime_each_int_delays_loop (K : PVal → List AObj → Prop) (l : List Int) (hl : l.length ≤ 1048576) : ∀ k i : Nat, i + k = l.length → K (.tup [eI (firstE i ((l.drop i).map delayE)).1, eI (firstE i ((l.drop i).map delayE)).2]) [] → L_retime_each_int_delays_0 K [.fn F_retime_CheckDelays_c1 [], eInts l, eI l.length, eI i] [] := by
  intro k
  induction k with
  | zero =>
    intro i hi hK
    apply r_retime_each_int_delays_0
    refine br_neg (by omega) ?_
    rwa [List.drop_eq_nil_of_le (by omega)] at hK
  | succ k ih =>
    intro i hi hK
    apply r_retime_each_int_delays_0
    refine br_pos (by omega) ?_
    have hi1 : i < l.length := by omega
    simp (disch := omega) only [List.length_map, natCast_toNat, getP_ints, asI_int, Int.natCast_nonneg, Int.ofNat_lt, true_and, and_true, wrap_succ, hi1]
    rw [drop_at0 hi1, List.map_cons] at hK
    generalize l.getD i 0 = x at *
    have hF : ¬ (0 ≤ x ∧ x ≤ 1000) → K (.tup [eI i, eI 2]) [] := fun h => by simpa [firstE, delayE, if_neg h] using hK
    have hT : (0 ≤ x ∧ x ≤ 1000) → L_retime_each_int_delays_0 K [.fn F_retime_CheckDelays_c1 [], eInts l, eI l.length, eI ((i + 1 : Nat) : Int)] [] := fun h => by
      refine ih (i+1) (by omega) ?_
      simpa [firstE, delayE, if_pos h] using hK
    repeat' first | refine br_d (fun _ => ?_) (fun _ => ?_) | refine br_n (fun _ => ?_) (fun _ => ?_)
    all_goals first
      | (apply hT; omega)
      | (apply hF; omega)
theorem retime_each_int_delays_ok (K : PVal → List AObj → Prop) (l : List Int) (hl : l.length ≤ 1048576) (hK : K (.tup [eI (firstE 0 (l.map delayE)).1, eI (firstE 0 (l.map delayE)).2]) []) : CallP env0 F_retime_each_int [eInts l, .fn F_retime_CheckDelays_c1 []] [] K := by
  apply e_retime_each_int_delays
  simp only [List.length_map]
  exact retime_each_int_delays_loop K l hl l.length 0 (by omega) hK
theorem graph_each_int_widths_loop (K : PVal → List AObj → Prop) (l : List Int) (hl : l.length ≤ 1048576) : ∀ k i : Nat, i + k = l.length → K (.tup [eI (firstE i ((l.drop i).map widthE)).1, eI (firstE i ((l.drop i).map widthE)).2]) [] → L_graph_each_int_widths_0 K [.fn F_graph_CheckNodes_c1 [], eInts l, eI l.length, eI i] [] := by
  intro k
  induction k with
  | zero =>
    intro i hi hK
    apply r_graph_each_int_widths_0
    refine br_neg (by omega) ?_
    rwa [List.drop_eq_nil_of_le (by omega)] at hK
  | succ k ih =>
    intro i hi hK
    apply r_graph_each_int_widths_0
    refine br_pos (by omega) ?_
    have hi1 : i < l.length := by omega
    simp (disch := omega) only [List.length_map, natCast_toNat, getP_ints, asI_int, Int.natCast_nonneg, Int.ofNat_lt, true_and, and_true, wrap_succ, hi1]
    rw [drop_at0 hi1, List.map_cons] at hK
    generalize l.getD i 0 = x at *
    have hF : ¬ (1 ≤ x ∧ x ≤ 16) → K (.tup [eI i, eI 2]) [] := fun h => by simpa [firstE, widthE, if_neg h] using hK
    have hT : (1 ≤ x ∧ x ≤ 16) → L_graph_each_int_widths_0 K [.fn F_graph_CheckNodes_c1 [], eInts l, eI l.length, eI ((i + 1 : Nat) : Int)] [] := fun h => by
      refine ih (i+1) (by omega) ?_
      simpa [firstE, widthE, if_pos h] using hK
    repeat' first | refine br_d (fun _ => ?_) (fun _ => ?_) | refine br_n (fun _ => ?_) (fun _ => ?_)
    all_goals first
      | (apply hT; omega)
      | (apply hF; omega)
theorem graph_each_int_widths_ok (K : PVal → List AObj → Prop) (l : List Int) (hl : l.length ≤ 1048576) (hK : K (.tup [eI (firstE 0 (l.map widthE)).1, eI (firstE 0 (l.map widthE)).2]) []) : CallP env0 F_graph_each_int [eInts l, .fn F_graph_CheckNodes_c1 []] [] K := by
  apply e_graph_each_int_widths
  simp only [List.length_map]
  exact graph_each_int_widths_loop K l hl l.length 0 (by omega) hK
theorem slices_MaxFunc_path_loop (K : PVal → List AObj → Prop) (s l : List Int) (hs : s.length ≤ 1048576) (hb : ∀ x ∈ s, 0 ≤ x ∧ x < (l.length : Int)) : ∀ k i : Nat, i + k = s.length → ∀ m : Int, 0 ≤ m ∧ m < (l.length : Int) → K (eI (maxGo l m (s.drop i))) [] →
    L_slices_MaxFunc_int_int_path_0 K [eInts s, .fn F_retime_PathOf_c1 [.fptr false (eInts l)], eI m, eI i] [] := by
  intro k
  induction k with
  | zero =>
    intro i hi m hm hK
    apply r_slices_MaxFunc_int_int_path_0
    refine br_neg (by simp; omega) ?_
    rwa [List.drop_eq_nil_of_le (by omega), maxGo] at hK
  | succ k ih =>
    intro i hi m hm hK
    apply r_slices_MaxFunc_int_int_path_0
    refine br_pos (by simp; omega) ?_
    have hi1 : i < s.length := by omega
    have h2 := hb _ (mem_getD0 hi1)
    have h3 : (s.getD i 0).toNat < l.length := by omega
    have h4 : m.toNat < l.length := by omega
    simp (disch := omega) only [List.length_map, natCast_toNat, getP_ints, asI_int, Int.natCast_nonneg, Int.ofNat_lt, true_and, and_true, wrap_succ, hi1, h2, h3, h4, hm]
    rw [drop_at0 hi1, maxGo] at hK
    refine br_d (fun h => ih (i+1) (by omega) _ h2 ?_) (fun h => ih (i+1) (by omega) _ hm ?_)
    · rwa [if_pos h] at hK
    · rwa [if_neg h] at hK
theorem slices_MaxFunc_path_ok (K : PVal → List AObj → Prop) (s l : List Int) (hs : s.length ≤ 1048576) (h0 : s ≠ []) (hb : ∀ x ∈ s, 0 ≤ x ∧ x < (l.length : Int)) (hK : K (eI (maxF l s)) []) : CallP env0 F_slices_MaxFunc_int_int [eInts s, .fn F_retime_PathOf_c1 [.fptr false (eInts l)]] [] K := by
  apply e_slices_MaxFunc_int_int_path
  have h1 : 0 < s.length := List.length_pos_iff.2 h0
  refine br_neg (by simp; omega) ?_
  have h2 := hb _ (mem_getD0 h1)
  simp (disch := omega) only [List.length_map, getP_ints, asI_int, true_and, and_true]
  exact ⟨by omega, slices_MaxFunc_path_loop K s l hs hb (s.length - 1) 1 (by omega) _ h2 hK⟩
theorem slices_Reverse_int_int_loop (K : PVal → List AObj → Prop) (l : List Int) (hl : l.length ≤ 1048576) (hK : K (.tup []) [.row false T_int 1 (l.reverse.map eI)]) : ∀ (n i : Nat) (o : List Int), l.length ≤ n + 2 * i → 2 * i ≤ l.length + 1 → o.length = l.length →
    (∀ k : Nat, k < l.length → o.getD k 0 = if k < i ∨ (l.length : Int) - 1 - i < k then l.getD (l.length - 1 - k) 0 else l.getD k 0) →
    L_slices_Reverse_int_int_0 K [.own 0, eI i, eI ((l.length : Int) - 1 - i)] [.row false T_int 1 (o.map eI)] := by
  intro n
  induction n with
  | zero =>
    intro i o h1 h2 ho hw
    apply r_slices_Reverse_int_int_0
    refine br_neg (by omega) ?_
    have : o = l.reverse := by
      apply List.ext_getElem (by simp [ho])
      intro k hk hk'
      have hk2 : k < l.length := by omega
      have := hw k hk2
      simp only [List.getD_eq_getElem?_getD, List.getElem?_eq_getElem hk, Option.getD_some] at this
      rw [this, List.getElem_reverse]
      split
      · rw [List.getElem?_eq_getElem (by omega)]; rfl
      · have e : k = l.length - 1 - k := by omega
        rw [List.getElem?_eq_getElem hk2, Option.getD_some]; congr 1
    rw [this]; exact hK
  | succ n ih =>
    intro i o h1 h2 ho hw
    apply r_slices_Reverse_int_int_0
    refine br_d (fun h => ?_) (fun h => ?_)
    · obtain ⟨j, hj⟩ : ∃ j : Nat, (l.length : Int) - 1 - i = j := ⟨l.length - 1 - i, by omega⟩
      rw [hj] at h ⊢
      have hi1 : i < o.length := by omega
      have hj1 : j < o.length := by omega
      have hjs : IntKind.i64.wrap ((j : Int) - 1) = (l.length : Int) - 1 - ((i + 1 : Nat) : Int) := by rw [wrap64 (by omega) (by omega)]; omega
      have hset : getP ((o.map eI).set i (eI (o.getD j 0))) j = eI (o.getD j 0) := by
        rw [← List.map_set, getP_ints _ _ (by simpa using hj1)]
        have : i ≠ j := by omega
        simp [List.getD_eq_getElem?_getD, List.getElem?_set, this]
      simp (disch := omega) only [List.length_map, natCast_toNat, getP_ints, asI_int, Int.natCast_nonneg, Int.ofNat_lt, true_and, and_true, wrap_succ, hi1, hj1, List.length_set, hset, hjs]
      have e : ((o.map eI).set i (eI (o.getD j 0))).set j (eI (o.getD i 0)) = ((o.set i (o.getD j 0)).set j (o.getD i 0)).map eI := by rw [List.map_set, List.map_set]
      refine Eq.mp (congrArg (fun z => L_slices_Reverse_int_int_0 K [.own 0, eI ((i + 1 : Nat) : Int), eI ((l.length : Int) - 1 - ((i + 1 : Nat) : Int))] [.row false T_int 1 z]) e.symm) ?_
      refine ih (i + 1) _ (by omega) (by omega) (by simp [ho]) ?_
      intro k hk
      have hwi := hw i (by omega)
      have hwj := hw j (by omega)
      have hwk := hw k hk
      rw [if_neg (by omega)] at hwi hwj
      by_cases ki : k = i
      · subst ki
        have hne : k ≠ j := by omega
        rw [if_pos (by omega)]
        have : ((o.set k (o.getD j 0)).set j (o.getD k 0)).getD k 0 = o.getD j 0 := by
          simp [List.getD_eq_getElem?_getD, List.getElem?_set, hi1, hj1, Ne.symm hne, hne]
        rw [this, hwj]
        congr 1; omega
      · by_cases kj : k = j
        · subst kj
          rw [if_pos (by omega)]
          have : ((o.set i (o.getD k 0)).set k (o.getD i 0)).getD k 0 = o.getD i 0 := by
            simp [List.getD_eq_getElem?_getD, List.getElem?_set, hi1, hj1]
          rw [this, hwi]
          congr 1; omega
        · have : ((o.set i (o.getD j 0)).set j (o.getD i 0)).getD k 0 = o.getD k 0 := by
            simp [List.getD_eq_getElem?_getD, List.getElem?_set, Ne.symm ki, Ne.symm kj]
          rw [this, hwk]
          by_cases hc : k < i ∨ (l.length : Int) - 1 - i < k
          · rw [if_pos hc, if_pos (by omega)]
          · rw [if_neg hc, if_neg (by omega)]
    · have : o = l.reverse := by
        apply List.ext_getElem (by simp [ho])
        intro k hk hk'
        have hk2 : k < l.length := by omega
        have := hw k hk2
        simp only [List.getD_eq_getElem?_getD, List.getElem?_eq_getElem hk, Option.getD_some] at this
        rw [this, List.getElem_reverse]
        split
        · rw [List.getElem?_eq_getElem (by omega)]; rfl
        · have e : k = l.length - 1 - k := by omega
          rw [List.getElem?_eq_getElem hk2, Option.getD_some]; congr 1
      rw [this]; exact hK
theorem slices_Reverse_int_int_ok (K : PVal → List AObj → Prop) (l : List Int) (hl : l.length ≤ 1048576) (hK : K (.tup []) [.row false T_int 1 (l.reverse.map eI)]) : CallP env0 F_slices_Reverse_int_int [.own 0] [.row false T_int 1 (l.map eI)] K := by
  apply e_slices_Reverse_int_int
  have := slices_Reverse_int_int_loop K l hl hK l.length 0 l (by omega) (by omega) rfl (fun k hk => by rw [if_neg (by omega)])
  rw [List.length_map, wrap64 (by omega) (by omega)]
  simpa using this
end Go.Pvm.Seat
namespace Go.Pvm.Seat
open Go
theorem ok_base_Ints : SpecOK F_base_Ints sp_base_Ints := specOK allOK_nil fun av os hp => by
  obtain ⟨h1, h2, h3⟩ := hp
  unfold sp_base_Ints
  dsimp only at h1 h2 h3 ⊢
  generalize aIs av 0 = a at *
  generalize aIs av 1 = b at *
  subst h1 h2
  exact base_Ints_ok _ _ _ h3 ⟨rfl, rfl⟩
theorem ok_base_SamePorts : SpecOK F_base_SamePorts sp_base_SamePorts := specOK allOK_nil fun av os hp => by
  obtain ⟨h1, h2, h3⟩ := hp
  unfold sp_base_SamePorts
  dsimp only at h1 h2 h3 ⊢
  generalize aPs av 0 = a at *
  generalize aPs av 1 = b at *
  subst h1 h2
  exact base_SamePorts_ok _ _ _ h3 ⟨rfl, rfl⟩
theorem ok_base_SameOutputs : SpecOK F_base_SameOutputs sp_base_SameOutputs := specOK allOK_nil fun av os hp => by
  obtain ⟨h1, h2, h3⟩ := hp
  unfold sp_base_SameOutputs
  dsimp only at h1 h2 h3 ⊢
  generalize aOs av 0 = a at *
  generalize aOs av 1 = b at *
  subst h1 h2
  exact base_SameOutputs_ok _ _ _ h3 ⟨rfl, rfl⟩
theorem ok_base_IsName : SpecOK F_base_IsName sp_base_IsName := specOK allOK_nil fun av os hp => by
  obtain ⟨h1, h2, h3⟩ := hp
  unfold sp_base_IsName
  dsimp only at h1 h2 h3 ⊢
  generalize aS av 0 = s at *
  subst h1 h2
  exact base_IsName_ok _ _ ⟨rfl, rfl⟩
theorem ok_netlist_isName : SpecOK F_netlist_isName sp_netlist_isName := specOK allOK_nil fun av os hp => by
  obtain ⟨h1, h2, h3⟩ := hp
  unfold sp_netlist_isName
  dsimp only at h1 h2 h3 ⊢
  generalize aS av 0 = s at *
  subst h1 h2
  exact netlist_isName_ok _ _ h3 ⟨rfl, rfl⟩
theorem ok_base_NetLeaves : SpecOK F_base_NetLeaves sp_base_NetLeaves := specOK allOK_nil fun av os hp => by
  obtain ⟨h1, h2, h3⟩ := hp
  unfold sp_base_NetLeaves
  dsimp only at h1 h2 h3 ⊢
  generalize aN av 0 = n at *
  subst h1 h2
  exact base_NetLeaves_ok _ _ h3.1 h3.2 ⟨rfl, rfl⟩
theorem ok_netlist_leaves : SpecOK F_netlist_leaves sp_netlist_leaves := specOK allOK_nil fun av os hp => by
  obtain ⟨h1, h2, h3⟩ := hp
  unfold sp_netlist_leaves
  dsimp only at h1 h2 h3 ⊢
  generalize aN av 0 = n at *
  subst h1 h2
  exact netlist_leaves_ok _ _ h3.1 h3.2 ⟨rfl, rfl⟩
theorem ok_ref26_Named : SpecOK F_ref26_Named sp_ref26_Named := specOK allOK_nil fun av os hp => by
  obtain ⟨h1, h2, h3⟩ := hp
  unfold sp_ref26_Named
  dsimp only at h1 h2 h3 ⊢
  generalize aN av 0 = n at *
  subst h1 h2
  exact ref26_Named_ok _ _ h3.1 h3.2 ⟨rfl, rfl⟩
theorem ok_base_CopyNodes : SpecOK F_base_CopyNodes sp_base_CopyNodes := specOK allOK_nil fun av os hp => by
  obtain ⟨h1, h2, h3⟩ := hp
  unfold sp_base_CopyNodes
  dsimp only at h1 h2 h3 ⊢
  generalize aNs av 0 = l at *
  subst h1 h2
  exact base_CopyNodes_ok _ _ h3.1 h3.2 ⟨rfl, rfl⟩
theorem ok_base_widthsFit : SpecOK F_base_widthsFit sp_base_widthsFit := specOK allOK_nil fun av os hp => by
  obtain ⟨h1, h2, h3⟩ := hp
  unfold sp_base_widthsFit
  dsimp only at h1 h2 h3 ⊢
  generalize aNs av 0 = l at *
  generalize aX av 1 = x at *
  subst h1 h2
  exact base_widthsFit_ok _ _ _ h3.1 h3.2.1 h3.2.2.1 h3.2.2.2 ⟨rfl, rfl⟩
theorem ok_law26_few : SpecOK F_law26_few sp_law26_few := specOK allOK_nil fun av os hp => by
  obtain ⟨h1, h2, h3⟩ := hp
  unfold sp_law26_few
  dsimp only at h1 h2 h3 ⊢
  generalize aN av 0 = n at *
  subst h1 h2
  exact law26_few_ok _ _ h3 ⟨rfl, rfl⟩
theorem ok_ref26_CheckDelays : SpecOK F_ref26_CheckDelays sp_ref26_CheckDelays := specOK allOK_nil fun av os hp => by
  obtain ⟨h1, h2, h3⟩ := hp
  unfold sp_ref26_CheckDelays
  dsimp only at h1 h2 h3 ⊢
  generalize aIs av 0 = l at *
  subst h1 h2
  exact ref26_CheckDelays_ok _ _ h3 ⟨rfl, rfl⟩
theorem ok_ref26_Arrivals : SpecOK F_ref26_Arrivals sp_ref26_Arrivals := specOK allOK_nil fun av os hp => by
  obtain ⟨h1, h2, h3⟩ := hp
  unfold sp_ref26_Arrivals
  dsimp only at h1 h2 h3 ⊢
  generalize aN av 0 = n at *
  generalize aIs av 1 = d at *
  subst h1 h2
  exact ref26_Arrivals_ok _ _ _ h3.1 h3.2.1 h3.2.2.1 h3.2.2.2 ⟨rfl, rfl⟩
theorem ok_retime_net_arrivals : SpecOK F_retime_net_arrivals sp_retime_net_arrivals := specOK allOK_nil fun av os hp => by
  obtain ⟨h1, h2, h3⟩ := hp
  unfold sp_retime_net_arrivals
  dsimp only at h1 h2 h3 ⊢
  generalize aN av 0 = n at *
  generalize aIs av 1 = d at *
  subst h1 h2
  exact retime_net_arrivals_ok _ _ _ h3.1 h3.2.1 h3.2.2.1 h3.2.2.2 ⟨rfl, rfl⟩
theorem ok_retime_first : SpecOK F_retime_first sp_retime_first := specOK allOK_nil fun av os hp => by
  obtain ⟨h1, h2, h3⟩ := hp
  unfold sp_retime_first
  dsimp only at h1 h2 h3 ⊢
  generalize aIs av 0 = l at *
  subst h1 h2
  exact retime_first_ok _ _ h3 ⟨rfl, rfl⟩
theorem ok_netlist_first : SpecOK F_netlist_first sp_netlist_first := specOK allOK_nil fun av os hp => by
  obtain ⟨h1, h2, h3⟩ := hp
  unfold sp_netlist_first
  dsimp only at h1 h2 h3 ⊢
  generalize aIs av 0 = l at *
  subst h1 h2
  exact netlist_first_ok _ _ h3 ⟨rfl, rfl⟩
theorem ok_graph_first : SpecOK F_graph_first sp_graph_first := specOK allOK_nil fun av os hp => by
  obtain ⟨h1, h2, h3⟩ := hp
  unfold sp_graph_first
  dsimp only at h1 h2 h3 ⊢
  generalize aIs av 0 = l at *
  subst h1 h2
  exact graph_first_ok _ _ h3 ⟨rfl, rfl⟩
theorem ok_slices_IndexFunc_int_int : SpecOK F_slices_IndexFunc_int_int sp_slices_IndexFunc_int_int := specOK allOK_nil fun av os hp => by
  unfold sp_slices_IndexFunc_int_int at hp ⊢
  cases hb : isFn F_graph_CheckNodes_c2_c1 (av.getD 1 .undef) with
  | true =>
    rw [hb] at hp
    obtain ⟨h1, h2, h3⟩ := hp
    dsimp only [cond_true] at h1 h2 h3 ⊢
    generalize aIs av 0 = l at *
    generalize capI (av.getD 1 .undef) = w at *
    subst h1 h2
    exact slices_IndexFunc_int_int_odd_ok _ _ _ h3 ⟨rfl, rfl⟩
  | false =>
    rw [hb] at hp
    obtain ⟨h1, h2, h3⟩ := hp
    dsimp only [cond_false] at h1 h2 h3 ⊢
    generalize aIs av 0 = l at *
    generalize capI (av.getD 1 .undef) = w at *
    subst h1 h2
    exact slices_IndexFunc_int_int_same_ok _ _ _ h3 ⟨rfl, rfl⟩
theorem ok_retime_each_int : SpecOK F_retime_each_int sp_retime_each_int := specOK allOK_nil fun av os hp => by
  obtain ⟨h1, h2, h3⟩ := hp
  unfold sp_retime_each_int
  dsimp only at h1 h2 h3 ⊢
  generalize aIs av 0 = l at *
  subst h1 h2
  exact retime_each_int_delays_ok _ _ h3 ⟨rfl, rfl⟩
theorem ok_graph_each_int : SpecOK F_graph_each_int sp_graph_each_int := specOK allOK_nil fun av os hp => by
  obtain ⟨h1, h2, h3⟩ := hp
  unfold sp_graph_each_int
  dsimp only at h1 h2 h3 ⊢
  generalize aIs av 0 = l at *
  subst h1 h2
  exact graph_each_int_widths_ok _ _ h3 ⟨rfl, rfl⟩
theorem ok_slices_MaxFunc_int_int : SpecOK F_slices_MaxFunc_int_int sp_slices_MaxFunc_int_int := specOK allOK_nil fun av os hp => by
  obtain ⟨h1, h2, h3⟩ := hp
  unfold sp_slices_MaxFunc_int_int
  dsimp only at h1 h2 h3 ⊢
  generalize aIs av 0 = l at *
  generalize capL (av.getD 1 .undef) = c at *
  subst h1 h2
  exact slices_MaxFunc_path_ok _ _ _ h3.1 h3.2.1 h3.2.2 ⟨rfl, rfl⟩
theorem ok_slices_Reverse_int_int : SpecOK F_slices_Reverse_int_int sp_slices_Reverse_int_int := specOK allOK_nil fun av os hp => by
  obtain ⟨h1, h2, h3⟩ := hp
  unfold sp_slices_Reverse_int_int
  dsimp only at h1 h2 h3 ⊢
  generalize rowL os 0 = l at *
  subst h1 h2
  exact slices_Reverse_int_int_ok _ _ h3 ⟨rfl, rfl⟩
theorem all1 : AllOK specs1 := allOK_cons ok_base_Ints (allOK_cons ok_base_SamePorts (allOK_cons ok_base_SameOutputs (allOK_cons ok_base_IsName (allOK_cons ok_netlist_isName (allOK_cons ok_base_NetLeaves (allOK_cons ok_netlist_leaves (allOK_cons ok_ref26_Named (allOK_cons ok_base_CopyNodes (allOK_cons ok_base_widthsFit (allOK_cons ok_law26_few (allOK_cons ok_ref26_CheckDelays (allOK_cons ok_ref26_Arrivals (allOK_cons ok_retime_net_arrivals (allOK_cons ok_retime_first (allOK_cons ok_netlist_first (allOK_cons ok_graph_first (allOK_cons ok_slices_IndexFunc_int_int (allOK_cons ok_retime_each_int (allOK_cons ok_graph_each_int (allOK_cons ok_slices_MaxFunc_int_int (allOK_cons ok_slices_Reverse_int_int allOK_nil)))))))))))))))))))))
end Go.Pvm.Seat
