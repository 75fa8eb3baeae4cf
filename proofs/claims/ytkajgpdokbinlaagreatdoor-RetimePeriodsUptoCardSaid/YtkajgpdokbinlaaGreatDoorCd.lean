/- RetimePeriods (second form, tied card): the law answers true at every netlist and list of delays whose reading is of bulk at most 1048576, and the input reads as it did; no further condition. This text: part Cd (P1 O2). -/
import Derived.Test.YtkajgpdokbinlaaGreatDoorBa
import Derived.Test.YtkajgpdokbinlaaGreatDoorCc
import Derived.Test.YtkajgpdokbinlaaGreatDoorCb
set_option linter.unusedVariables false
set_option linter.unusedSimpArgs false
set_option linter.unnecessarySimpa false
set_option maxHeartbeats 1000000
namespace Go.Pvm.Seat
open Go

theorem base_PortsErr_in (K : PVal → List AObj → Prop) (J0 : List PVal → List AObj → Prop) (l : List Port) (hl : l.length ≤ 1048576) (i : Nat) (hi : i < l.length)
    (h5 : (l.getD i default).name ∈ ((l.take i).map Port.name) → K (.tup [eI i, eI 5]) [])
    (h0 : (l.getD i default).name ∉ ((l.take i).map Port.name) → (1 ≤ (l.getD i default).width ∧ (l.getD i default).width ≤ 16) → J0 [ePorts l, eI ((i + 1 : Nat) : Int)] [])
    (h2 : (l.getD i default).name ∉ ((l.take i).map Port.name) → ¬ (1 ≤ (l.getD i default).width ∧ (l.getD i default).width ≤ 16) → K (.tup [eI i, eI 2]) []) :
    ∀ n k : Nat, k + n = i → (∀ j, j < k → (l.getD j default).name ≠ (l.getD i default).name) → L_base_PortsErr_2 K J0 [ePorts l, eI i, eI k] [] := by
  intro n
  induction n with
  | zero =>
    intro k hk hne
    apply r_base_PortsErr_2
    have hn := not_seen (nm := Port.name) (l := l) (i := i) (by omega) (fun j hj => hne j (by omega))
    refine br_neg (by omega) ?_
    simp (disch := omega) only [List.length_map, natCast_toNat, getP_ports, asI_int, asS_str, cellAt_agg, List.getD_cons_zero, List.getD_cons_succ, Int.natCast_nonneg, Int.ofNat_lt, true_and, and_true, wrap_succ, hi]
    refine br_d (fun h => br_n (fun h' => h2 hn (by omega)) (fun h' => h0 hn (by omega))) (fun h => h2 hn (by omega))
  | succ n ih =>
    intro k hk hne
    apply r_base_PortsErr_2
    have hk1 : k < l.length := by omega
    refine br_pos (by omega) ?_
    simp (disch := omega) only [List.length_map, natCast_toNat, getP_ports, asI_int, asS_str, cellAt_agg, List.getD_cons_zero, List.getD_cons_succ, Int.natCast_nonneg, Int.ofNat_lt, true_and, and_true, wrap_succ, hi, hk1]
    refine br_d (fun h => h5 ?_) (fun h => ih (k+1) (by omega) fun j hj => ?_)
    · rw [← h]; exact is_seen (nm := Port.name) (by omega) (by omega)
    · by_cases e : j = k
      · subst e; exact h
      · exact hne j (by omega)
theorem base_PortsErr_loop (K : PVal → List AObj → Prop) (l : List Port) (hl : l.length ≤ 1048576) : ∀ n i : Nat, i + n = l.length → ∀ seen, (∀ s, has seen s = true ↔ s ∈ (l.take i).map Port.name) →
    K (.tup [eI (namesGo portE Port.name seen i (l.drop i)).1, eI (namesGo portE Port.name seen i (l.drop i)).2.1]) [] → L_base_PortsErr_0 K [ePorts l, eI i] [] := by
  intro n
  induction n with
  | zero =>
    intro i hi seen hs hK
    apply r_base_PortsErr_0
    refine br_neg (by simp; omega) ?_
    rwa [List.drop_eq_nil_of_le (by omega), namesGo] at hK
  | succ n ih =>
    intro i hi seen hs hK
    apply r_base_PortsErr_0
    have hi1 : i < l.length := by omega
    refine br_pos (by simp; omega) ?_
    rw [drop_at hi1, namesGo] at hK
    have hseen := hs (l.getD i default).name
    have hnext := seen_next (nm := Port.name) hi1 hs
    simp (disch := omega) only [List.length_map, natCast_toNat, getP_ports, asI_int, asS_str, cellAt_agg, List.getD_cons_zero, List.getD_cons_succ, Int.natCast_nonneg, Int.ofNat_lt, true_and, and_true, wrap_succ, hi1]
    refine ⟨⟨rfl, rfl, trivial⟩, ?_⟩
    cases hn : isName (l.getD i default).name with
    | false =>
      have he : portE seen (l.getD i default) = 4 := by simp only [portE, nameE, hn, or0]; rfl
      rw [if_neg (by rw [he]; decide), he] at hK
      exact hK
    | true =>
      refine base_PortsErr_in K _ l hl i hi1 (fun h => ?_) (fun h h2 => ?_) (fun h h2 => ?_) i 0 (by omega) (fun j hj => by omega)
      · have he : portE seen (l.getD i default) = 5 := by simp only [portE, nameE, hn, hseen.2 h, or0]; rfl
        rw [if_neg (by rw [he]; decide), he] at hK
        exact hK
      · have hf : has seen (l.getD i default).name = false := by
          cases hh : has seen (l.getD i default).name with
          | false => rfl
          | true => exact absurd (hseen.1 hh) h
        refine ih (i+1) (by omega) _ hnext ?_
        rwa [if_pos (by simp only [portE, nameE, hn, hf, or0, widthE, if_pos h2]; rfl)] at hK
      · have hf : has seen (l.getD i default).name = false := by
          cases hh : has seen (l.getD i default).name with
          | false => rfl
          | true => exact absurd (hseen.1 hh) h
        have he : portE seen (l.getD i default) = 2 := by simp only [portE, nameE, hn, hf, or0, widthE, if_neg h2]; rfl
        rw [if_neg (by rw [he]; decide), he] at hK
        exact hK
theorem base_PortsErr_ok (K : PVal → List AObj → Prop) (l : List Port) (hl : l.length ≤ 1048576) (hK : K (.tup [eI (portsE l).1, eI (portsE l).2]) []) : CallP env1 F_base_PortsErr [ePorts l] [] K := by
  apply e_base_PortsErr
  simp only [List.length_map]
  refine br_d (fun h => ?_) (fun h => ?_)
  · rwa [portsE, if_pos (by omega)] at hK
  · rw [portsE, if_neg (by omega)] at hK
    exact base_PortsErr_loop K l hl l.length 0 (by omega) [] (by simp [has]) hK
theorem base_OutputsErr_in (K : PVal → List AObj → Prop) (nodes : List Node) (hn0 : nodes.length ≤ 1048576) (J0 : List PVal → List AObj → Prop) (l : List Outp) (hl : l.length ≤ 1048576) (i : Nat) (hi : i < l.length)
    (h5 : (l.getD i default).name ∈ ((l.take i).map Outp.name) → K (.tup [eI i, eI 5]) [])
    (h0 : (l.getD i default).name ∉ ((l.take i).map Outp.name) → (0 ≤ (l.getD i default).node ∧ (l.getD i default).node < (nodes.length : Int)) → J0 [eNodes nodes, eOutps l, eI ((i + 1 : Nat) : Int)] [])
    (h2 : (l.getD i default).name ∉ ((l.take i).map Outp.name) → ¬ (0 ≤ (l.getD i default).node ∧ (l.getD i default).node < (nodes.length : Int)) → K (.tup [eI i, eI 9]) []) :
    ∀ n k : Nat, k + n = i → (∀ j, j < k → (l.getD j default).name ≠ (l.getD i default).name) → L_base_OutputsErr_2 K J0 [eNodes nodes, eOutps l, eI i, eI k] [] := by
  intro n
  induction n with
  | zero =>
    intro k hk hne
    apply r_base_OutputsErr_2
    have hn := not_seen (nm := Outp.name) (l := l) (i := i) (by omega) (fun j hj => hne j (by omega))
    refine br_neg (by omega) ?_
    simp (disch := omega) only [List.length_map, natCast_toNat, getP_outps, asI_int, asS_str, cellAt_agg, List.getD_cons_zero, List.getD_cons_succ, Int.natCast_nonneg, Int.ofNat_lt, true_and, and_true, wrap_succ, hi, wrap64]
    refine br_d (fun h => br_n (fun h' => h2 hn (by omega)) (fun h' => h0 hn (by omega))) (fun h => h2 hn (by omega))
  | succ n ih =>
    intro k hk hne
    apply r_base_OutputsErr_2
    have hk1 : k < l.length := by omega
    refine br_pos (by omega) ?_
    simp (disch := omega) only [List.length_map, natCast_toNat, getP_outps, asI_int, asS_str, cellAt_agg, List.getD_cons_zero, List.getD_cons_succ, Int.natCast_nonneg, Int.ofNat_lt, true_and, and_true, wrap_succ, hi, hk1]
    refine br_d (fun h => h5 ?_) (fun h => ih (k+1) (by omega) fun j hj => ?_)
    · rw [← h]; exact is_seen (nm := Outp.name) (by omega) (by omega)
    · by_cases e : j = k
      · subst e; exact h
      · exact hne j (by omega)
theorem base_OutputsErr_loop (K : PVal → List AObj → Prop) (nodes : List Node) (hn0 : nodes.length ≤ 1048576) (l : List Outp) (hl : l.length ≤ 1048576) : ∀ n i : Nat, i + n = l.length → ∀ seen, (∀ s, has seen s = true ↔ s ∈ (l.take i).map Outp.name) →
    K (.tup [eI (namesGo (outE nodes) Outp.name seen i (l.drop i)).1, eI (namesGo (outE nodes) Outp.name seen i (l.drop i)).2.1]) [] → L_base_OutputsErr_0 K [eNodes nodes, eOutps l, eI i] [] := by
  intro n
  induction n with
  | zero =>
    intro i hi seen hs hK
    apply r_base_OutputsErr_0
    refine br_neg (by simp; omega) ?_
    rwa [List.drop_eq_nil_of_le (by omega), namesGo] at hK
  | succ n ih =>
    intro i hi seen hs hK
    apply r_base_OutputsErr_0
    have hi1 : i < l.length := by omega
    refine br_pos (by simp; omega) ?_
    rw [drop_at hi1, namesGo] at hK
    have hseen := hs (l.getD i default).name
    have hnext := seen_next (nm := Outp.name) hi1 hs
    simp (disch := omega) only [List.length_map, natCast_toNat, getP_outps, asI_int, asS_str, cellAt_agg, List.getD_cons_zero, List.getD_cons_succ, Int.natCast_nonneg, Int.ofNat_lt, true_and, and_true, wrap_succ, hi1]
    refine ⟨⟨rfl, rfl, trivial⟩, ?_⟩
    cases hn : isName (l.getD i default).name with
    | false =>
      have he : (outE nodes) seen (l.getD i default) = 4 := by simp only [outE, nameE, hn, or0]; rfl
      rw [if_neg (by rw [he]; decide), he] at hK
      exact hK
    | true =>
      refine base_OutputsErr_in K nodes hn0 _ l hl i hi1 (fun h => ?_) (fun h h2 => ?_) (fun h h2 => ?_) i 0 (by omega) (fun j hj => by omega)
      · have he : (outE nodes) seen (l.getD i default) = 5 := by simp only [outE, nameE, hn, hseen.2 h, or0]; rfl
        rw [if_neg (by rw [he]; decide), he] at hK
        exact hK
      · have hf : has seen (l.getD i default).name = false := by
          cases hh : has seen (l.getD i default).name with
          | false => rfl
          | true => exact absurd (hseen.1 hh) h
        refine ih (i+1) (by omega) _ hnext ?_
        rwa [if_pos (by simp only [outE, nameE, hn, hf, or0, isNodeB, decide_eq_true h2]; rfl)] at hK
      · have hf : has seen (l.getD i default).name = false := by
          cases hh : has seen (l.getD i default).name with
          | false => rfl
          | true => exact absurd (hseen.1 hh) h
        have he : (outE nodes) seen (l.getD i default) = 9 := by simp only [outE, nameE, hn, hf, or0, isNodeB, decide_eq_false h2]; rfl
        rw [if_neg (by rw [he]; decide), he] at hK
        exact hK
theorem base_OutputsErr_ok (K : PVal → List AObj → Prop) (nodes : List Node) (hn0 : nodes.length ≤ 1048576) (l : List Outp) (hl : l.length ≤ 1048576) (hK : K (.tup [eI (outsE nodes l).1, eI (outsE nodes l).2]) []) : CallP env1 F_base_OutputsErr [eNodes nodes, eOutps l] [] K := by
  apply e_base_OutputsErr
  simp only [List.length_map]
  refine br_d (fun h => ?_) (fun h => ?_)
  · rwa [outsE, if_pos (by omega)] at hK
  · rw [outsE, if_neg (by omega)] at hK
    exact base_OutputsErr_loop K nodes hn0 l hl l.length 0 (by omega) [] (by simp [has]) hK
theorem base_nodeErr_loop (K : PVal → List AObj → Prop) (leaves : List Int) (nodes : List Node) (i : Nat) (x : Node) (hl : leaves.length ≤ 1048576) (hn : nodes.length ≤ 1048576) (hi : i ≤ nodes.length) (hx : x.args.length ≤ 1048576)
    (hop : 0 ≤ x.op ∧ x.op ≤ 18) (hw : 1 ≤ x.width ∧ x.width ≤ 16) (hc : (x.args.length : Int) = argCount x.op)
    (h9 : ¬ (∀ a ∈ x.args, 0 ≤ a ∧ a < (i : Int)) → K (eI 9) []) (h0 : (∀ a ∈ x.args, 0 ≤ a ∧ a < (i : Int)) → K (eI (or0 (valueE leaves x) (if x.op < 2 ∨ widthsOK x.op x.width x.value (argWidths nodes x.args) = true then 0 else 25))) []) :
    ∀ k j : Nat, j + k = x.args.length → (∀ a ∈ x.args.take j, 0 ≤ a ∧ a < (i : Int)) → L_base_nodeErr_0 K [eInts leaves, eNodes nodes, eI i, .ref 0 4 0 0, eI j] [.row true T_api_Node 4 [eNode x]] := by
  intro k
  induction k with
  | zero =>
    intro j hj ha
    rw [List.take_of_length_le (by omega)] at ha
    replace h0 := h0 ha
    apply r_base_nodeErr_0
    refine br_neg (by simp; omega) ?_
    simp (disch := omega) only [powW, List.length_map, natCast_toNat, getP_ints, asI_int, Int.natCast_nonneg, Int.ofNat_lt, true_and, and_true, wrap_succ, wrap64]
    have hpre : 2 ≤ x.op → (sp_base_widthsFit [eNodes nodes, eNode x] []).pre := fun h => by
      unfold sp_base_widthsFit
      simp only [aNs_0, aX_1]
      exact ⟨trivial, trivial, hx, by omega, hc, fun a hm => by have := ha a hm; omega⟩
    have fin : ∀ v, or0 (valueE leaves x) (if x.op < 2 ∨ widthsOK x.op x.width x.value (argWidths nodes x.args) = true then 0 else 25) = v → K (eI v) [] := fun v hv => by rw [hv] at h0; exact h0
    clear h0
    by_cases o0 : x.op = 0
    · refine br_pos o0 ⟨by omega, ?_⟩
      have hT : (0 ≤ x.value ∧ x.value ≤ 2 ^ x.width.toNat - 1) → K (eI 0) [] := fun h => fin 0 (by
        rw [show valueE leaves x = 0 by unfold valueE fitsB; rw [if_pos o0, if_pos (decide_eq_true h)], if_pos (.inl (by omega))]; rfl)
      have hF : ¬ (0 ≤ x.value ∧ x.value ≤ 2 ^ x.width.toNat - 1) → K (eI 2) [] := fun h => fin 2 (by
        rw [show valueE leaves x = 2 by unfold valueE fitsB; rw [if_pos o0, if_neg (by simpa using h)]]; rfl)
      refine br_d (fun h => br_n (fun h' => hF (by omega)) (fun h' => hT (by omega))) (fun h => hF (by omega))
    refine br_neg o0 ?_
    by_cases o1 : x.op = 1
    · refine br_pos o1 ?_
      have hM : ¬ (0 ≤ x.value ∧ x.value < (leaves.length : Int)) → K (eI 6) [] := fun h => fin 6 (by
        rw [show valueE leaves x = 6 by unfold valueE; rw [if_neg o0, if_pos o1, if_neg h]]; rfl)
      refine br_d (fun h => br_n (fun h' => hM (by omega)) (fun h' => ?_)) (fun h => hM (by omega))
      rw [getP_ints _ _ (by omega), asI_int]
      refine ⟨⟨by omega, rfl⟩, br_n (fun h2 => fin 25 ?_) (fun h2 => fin 0 ?_)⟩
      · rw [show valueE leaves x = 25 by unfold valueE; rw [if_neg o0, if_pos o1, if_pos (by omega), if_neg h2]]; rfl
      · rw [show valueE leaves x = 0 by unfold valueE; rw [if_neg o0, if_pos o1, if_pos (by omega), if_pos h2], if_pos (.inl (by omega))]; rfl
    refine br_neg o1 ?_
    have hW : valueE leaves x = 0 → (sp_base_widthsFit [eNodes nodes, eNode x] []).pre ∧ br (!widthsOK x.op x.width x.value (argWidths nodes x.args)) (K (eI 25) []) (K (eI 0) []) := fun hv => by
      refine ⟨hpre (by omega), ?_⟩
      rw [br_not]
      refine br_of (fun h => fin 0 ?_) (fun h => fin 25 ?_)
      · rw [hv, if_pos (.inr h)]; rfl
      · rw [hv, if_neg (fun hh => hh.elim (by omega) (by simp [h]))]; rfl
    by_cases o14 : x.op = 14
    · refine br_pos o14 ?_
      have hF : ¬ (0 ≤ x.value ∧ x.value ≤ 15) → K (eI 2) [] := fun h => fin 2 (by
        rw [show valueE leaves x = 2 by unfold valueE; rw [if_neg o0, if_neg o1, if_pos o14, if_neg h]]; rfl)
      refine br_d (fun h => br_n (fun h' => hF (by omega)) (fun h' => ?_)) (fun h => hF (by omega))
      have := hW (by unfold valueE; rw [if_neg o0, if_neg o1, if_pos o14, if_pos ⟨h, h'⟩])
      simpa only [dNodes_map, dNode_e, argWidths] using this
    refine br_neg o14 ?_
    refine br_n (fun h => fin 3 ?_) (fun h => ?_)
    · rw [show valueE leaves x = 3 by unfold valueE; rw [if_neg o0, if_neg o1, if_neg o14, if_neg h]]; rfl
    · have := hW (by unfold valueE; rw [if_neg o0, if_neg o1, if_neg o14, if_pos h])
      simpa only [dNodes_map, dNode_e, argWidths] using this
  | succ k ih =>
    intro j hj ha
    apply r_base_nodeErr_0
    have h1 : j < x.args.length := by omega
    refine br_pos (by simp; omega) ?_
    simp (disch := omega) only [List.length_map, natCast_toNat, getP_ints, asI_int, Int.natCast_nonneg, Int.ofNat_lt, true_and, and_true, wrap_succ, wrap64, h1]
    have hm : x.args.getD j 0 ∈ x.args := mem_getD0 h1
    have hF : ¬ (0 ≤ x.args.getD j 0 ∧ x.args.getD j 0 < (i : Int)) → K (eI 9) [] := fun h => h9 fun h' => h (h' _ hm)
    refine br_d (fun h => br_n (fun h' => hF (by omega)) (fun h' => ih (j+1) (by omega) fun a hm => ?_)) (fun h => hF (by omega))
    rw [List.take_succ_eq_append_getElem h1, List.mem_append] at hm
    rcases hm with hm | hm
    · exact ha a hm
    · simp at hm; subst hm
      rw [List.getD_eq_getElem?_getD, List.getElem?_eq_getElem h1, Option.getD_some] at h h'
      omega
theorem base_nodeErr_ok (K : PVal → List AObj → Prop) (leaves : List Int) (nodes : List Node) (i : Nat) (hl : leaves.length ≤ 1048576) (hn : nodes.length ≤ 1048576) (hi : i < nodes.length) (hx : (nodes.getD i default).args.length ≤ 1048576) (hK : K (eI (nodeE leaves nodes i (nodes.getD i default))) []) :
    CallP env1 F_base_nodeErr [eInts leaves, eNodes nodes, eI i] [] K := by
  apply e_base_nodeErr
  simp (disch := omega) only [List.length_map, natCast_toNat, getP_nodes, asI_int, asS_str, asL_sl, cellAt_agg, List.getD_cons_zero, List.getD_cons_succ, Int.natCast_nonneg, Int.ofNat_lt, true_and, and_true, hi]
  generalize nodes.getD i default = x at *
  have h15 : ¬ (0 ≤ x.op ∧ x.op ≤ 18) → K (eI 15) [] := fun h => by rwa [nodeE, if_pos h] at hK
  have h2 : (0 ≤ x.op ∧ x.op ≤ 18) → ¬ (1 ≤ x.width ∧ x.width ≤ 16) → K (eI 2) [] := fun h h' => by rwa [nodeE, if_neg (fun hh => hh h), if_pos h'] at hK
  have h10 : (0 ≤ x.op ∧ x.op ≤ 18) → (1 ≤ x.width ∧ x.width ≤ 16) → (x.args.length : Int) ≠ argCount x.op → K (eI 10) [] := fun h h' hc => by
    rwa [nodeE, if_neg (fun hh => hh h), if_neg (fun hh => hh h'), if_pos hc] at hK
  have hL : (0 ≤ x.op ∧ x.op ≤ 18) → (1 ≤ x.width ∧ x.width ≤ 16) → (x.args.length : Int) = argCount x.op → L_base_nodeErr_0 K [eInts leaves, eNodes nodes, eI i, .ref 0 4 0 0, eI 0] [.row true T_api_Node 4 [eNode x]] := fun h h' hc => by
    rw [nodeE, if_neg (fun hh => hh h), if_neg (fun hh => hh h'), if_neg (fun hh => hh hc)] at hK
    refine base_nodeErr_loop K leaves nodes i x hl hn (by omega) hx h h' hc (fun h9 => ?_) (fun h9 => ?_) x.args.length 0 (by omega) (by simp)
    · rwa [if_pos h9] at hK
    · rwa [if_neg (fun hh => hh h9)] at hK
  clear hK
  unfold argCount at h10 hL
  repeat' first | refine br_d (fun _ => ?_) (fun _ => ?_) | refine br_n (fun _ => ?_) (fun _ => ?_)
  all_goals first
    | (refine h15 ?_; omega)
    | (refine h2 ?_ ?_ <;> omega)
    | (refine h10 ?_ ?_ ?_ <;> omega)
    | (refine hL ?_ ?_ ?_ <;> omega)
theorem base_CopyNetlist_ok (K : PVal → List AObj → Prop) (n : Net) (hs : Small n) (hK : K (.agg [.str n.name, .own 0, .own 1, .own 2, .own 3]) [.row false T_api_Port 2 (n.inputs.map ePort), .row false T_api_NetRegister 5 (n.regs.map eReg), .row false T_api_Node 4 (n.nodes.map eNode), .row false T_api_Output 2 (n.outputs.map eOutp)]) :
    CallP env1 F_base_CopyNetlist [eNet n] [] K := by
  obtain ⟨s1, s2, s3, s4, s5, s6, s7, s8, s9⟩ := hs
  apply e_base_CopyNetlist
  simp only [List.length_map, dNodes_map]
  refine ⟨by omega, ⟨?_, rfl, ?_⟩, by omega, by omega, hK⟩
  · simp only [aNs_0]
  · simp only [aNs_0]; exact ⟨s4, s6⟩
theorem ref26_Period_loop (K : PVal → List AObj → Prop) (a l : List Int) (hl : l.length ≤ 2000000000) (hb : ∀ x ∈ l, 0 ≤ x ∧ x < (a.length : Int)) : ∀ n i : Nat, i + n = l.length → ∀ m : Int, K (eI (mostF a (l.drop i) m)) [] → L_ref26_Period_0 K [eInts a, eInts l, eI m, eI i] [] := by
  intro n
  induction n with
  | zero =>
    intro i hi m hK
    apply r_ref26_Period_0
    refine br_neg (by simp; omega) ?_
    rwa [List.drop_eq_nil_of_le (by omega), mostF, List.foldl_nil] at hK
  | succ n ih =>
    intro i hi m hK
    apply r_ref26_Period_0
    have h1 : i < l.length := by omega
    have h2 := hb _ (mem_getD0 h1)
    refine br_pos (by simp; omega) ?_
    simp (disch := omega) only [List.length_map, natCast_toNat, getP_ints, asI_int, Int.natCast_nonneg, Int.ofNat_lt, true_and, and_true, wrap_succ, h1, h2]
    rw [drop_at0 h1, mostF, List.foldl_cons] at hK
    exact ih (i+1) (by omega) _ hK
theorem arrF_length (d : List Int) : ∀ (l : List Node) (out : List Int), (arrF d l out).length = out.length + l.length
  | [], out => by simp [arrF]
  | x :: r, out => by rw [arrF, arrF_length d r]; simp; omega
theorem ref26_Period_ok (K : PVal → List AObj → Prop) (n : Net) (d : List Int) (hs : Small n) (hd : d.length = 19) (hok : nodesOK 0 n.nodes) (hb : ∀ x ∈ namedF n, 0 ≤ x ∧ x < (n.nodes.length : Int)) (hK : K (eI (mostF (arrF d n.nodes []) (namedF n) 0)) []) :
    CallP env1 F_ref26_Period [eNet n, eInts d] [] K := by
  obtain ⟨s1, s2, s3, s4, s5, s6, s7, s8, s9⟩ := hs
  apply e_ref26_Period
  simp only [dInts_map, dNet_e]
  refine ⟨⟨?_, rfl, ?_⟩, ⟨?_, rfl, ?_⟩, ?_⟩
  · simp only [aN_0, aIs_1]
  · simp only [aN_0, aIs_1]; exact ⟨hd, s4, hok, s6⟩
  · simp only [aN_0]
  · simp only [aN_0]; exact ⟨s3, s5⟩
  · refine ref26_Period_loop K _ _ ?_ (fun x hx => by rw [arrF_length]; simpa using hb x hx) (namedF n).length 0 (by omega) 0 hK
    have : ∀ r : List Reg, (r.flatMap fun r => [r.enable, r.next]).length = 2 * r.length := fun r => by
      induction r with
      | nil => rfl
      | cons a r ih => simp [List.flatMap_cons, ih]; omega
    simp only [namedF, List.length_append, List.length_map, this]
    omega
theorem retime_CheckDelays_ok (K : PVal → List AObj → Prop) (l : List Int) (hl : l.length ≤ 1048576) (hK : K (.tup [eI (delaysE l).1, eI (delaysE l).2]) []) : CallP env1 F_retime_CheckDelays [eInts l] [] K := by
  apply e_retime_CheckDelays
  simp only [List.length_map, dInts_map]
  refine br_n (fun h => ?_) (fun h => ⟨⟨?_, rfl, ?_⟩, ?_⟩)
  · rwa [delaysE, if_neg (by omega)] at hK
  · simp only [aIs_0]
  · simp only [aIs_0]; exact hl
  · rwa [delaysE, if_pos (by omega)] at hK
theorem br_nb {b : Bool} {x y : Prop} (h1 : b = false → x) (h2 : b = true → y) : br (!b) x y := by rw [br_not]; exact br_of h2 h1
theorem fits_eM (seen : List ByteArray) : mapFits env1 T_string T_bool (eM seen) := fun p hp => by
  obtain ⟨s, _, rfl⟩ := List.mem_map.1 hp
  exact ⟨by kernel_rfl, by kernel_rfl⟩
theorem pre_first1 (a b : Int) : (sp_netlist_first [.sl .fr 1 [eI a, eI b]] []).pre := ⟨rfl, rfl, by simp [aIs, dInts]⟩
theorem netlist_each_api_Port_c3_loop (K : PVal → List AObj → Prop) (l : List Port) (hl : l.length ≤ 1048576) (hb : ∀ p ∈ l, p.name.size ≤ 1048576) : ∀ n i : Nat, i + n = l.length → ∀ seen,
    K (.tup [eI (namesGo portE Port.name seen i (l.drop i)).1, eI (namesGo portE Port.name seen i (l.drop i)).2.1]) [.mp (eM (namesGo portE Port.name seen i (l.drop i)).2.2)] →
    L_netlist_each_api_Port_c3_0 K [.fn F_netlist_CheckNetlist_c3_c1 [.fptr false (.mapr 0)], ePorts l, eI l.length, eI i] [.mp (eM seen)] := by
  intro n
  induction n with
  | zero =>
    intro i hi seen hK
    apply r_netlist_each_api_Port_c3_0
    refine br_neg (by omega) ?_
    rwa [List.drop_eq_nil_of_le (by omega), namesGo] at hK
  | succ n ih =>
    intro i hi seen hK
    apply r_netlist_each_api_Port_c3_0
    have h1 : i < l.length := by omega
    have h2 := hb _ (mem_getD h1)
    refine br_pos (by omega) ?_
    rw [drop_at h1, namesGo] at hK
    simp (disch := omega) only [List.length_map, natCast_toNat, getP_ports, asI_int, asS_str, asB_bool, cellAt_agg, List.getD_cons_zero, List.getD_cons_succ, Int.natCast_nonneg, Int.ofNat_lt, true_and, and_true, wrap_succ, h1, mget_eM, mset_eM]
    generalize l.getD i default = p at *
    have hErr : ∀ e, portE seen p = e → e ≠ 0 → K (.tup [eI i, eI e]) [.mp (eM (ins seen p.name))] := fun e he h => by
      rwa [if_neg (by rw [he]; exact h), he] at hK
    have hOk : portE seen p = 0 → L_netlist_each_api_Port_c3_0 K [.fn F_netlist_CheckNetlist_c3_c1 [.fptr false (.mapr 0)], ePorts l, eI l.length, eI ((i + 1 : Nat) : Int)] [.mp (eM (ins seen p.name))] := fun h => by
      rw [if_pos h] at hK
      exact ih (i+1) (by omega) _ hK
    clear hK
    have hfit := fits_eM seen
    refine ⟨⟨rfl, rfl, h2⟩, ?_⟩
    repeat' first | refine br_d (fun _ => ?_) (fun _ => ?_) | refine br_nb (fun _ => ?_) (fun _ => ?_) | refine br_of (fun _ => ?_) (fun _ => ?_) | exact hfit | exact pre_first1 _ _ | refine And.intro ?_ ?_
    all_goals first
      | (refine hOk ?_; simp_all [portE, nameE, or0, widthE]; done)
      | (refine hErr _ ?_ (by decide); simp_all [portE, nameE, or0, widthE]; done)
      | (refine hErr _ ?_ (by decide); simp_all [portE, nameE, or0, widthE]; omega)
theorem netlist_each_api_Port_c3_ok (K : PVal → List AObj → Prop) (l : List Port) (hl : l.length ≤ 1048576) (hb : ∀ p ∈ l, p.name.size ≤ 1048576) (seen : List ByteArray)
    (hK : K (.tup [eI (namesGo portE Port.name seen 0 l).1, eI (namesGo portE Port.name seen 0 l).2.1]) [.mp (eM (namesGo portE Port.name seen 0 l).2.2)]) : CallP env1 F_netlist_each_api_Port [ePorts l, .fn F_netlist_CheckNetlist_c3_c1 [.fptr false (.mapr 0)]] [.mp (eM seen)] K := by
  apply e_netlist_each_api_Port_c3
  simp only [List.length_map]
  exact netlist_each_api_Port_c3_loop K l hl hb l.length 0 (by omega) seen hK
theorem netlist_each_api_NetRegister_c5_loop (K : PVal → List AObj → Prop) (l : List Reg) (hl : l.length ≤ 1048576) (hb : ∀ p ∈ l, p.name.size ≤ 1048576) : ∀ n i : Nat, i + n = l.length → ∀ seen,
    K (.tup [eI (namesGo regE Reg.name seen i (l.drop i)).1, eI (namesGo regE Reg.name seen i (l.drop i)).2.1]) [.mp (eM (namesGo regE Reg.name seen i (l.drop i)).2.2)] →
    L_netlist_each_api_NetRegister_c5_0 K [.fn F_netlist_CheckNetlist_c5_c1 [.fptr false (.mapr 0)], eRegs l, eI l.length, eI i] [.mp (eM seen)] := by
  intro n
  induction n with
  | zero =>
    intro i hi seen hK
    apply r_netlist_each_api_NetRegister_c5_0
    refine br_neg (by omega) ?_
    rwa [List.drop_eq_nil_of_le (by omega), namesGo] at hK
  | succ n ih =>
    intro i hi seen hK
    apply r_netlist_each_api_NetRegister_c5_0
    have h1 : i < l.length := by omega
    have h2 := hb _ (mem_getD h1)
    refine br_pos (by omega) ?_
    rw [drop_at h1, namesGo] at hK
    simp (disch := omega) only [List.length_map, natCast_toNat, getP_regs, asI_int, asS_str, asB_bool, cellAt_agg, List.getD_cons_zero, List.getD_cons_succ, Int.natCast_nonneg, Int.ofNat_lt, true_and, and_true, wrap_succ, h1, mget_eM, mset_eM]
    generalize l.getD i default = p at *
    have hErr : ∀ e, regE seen p = e → e ≠ 0 → K (.tup [eI i, eI e]) [.mp (eM (ins seen p.name))] := fun e he h => by
      rwa [if_neg (by rw [he]; exact h), he] at hK
    have hOk : regE seen p = 0 → L_netlist_each_api_NetRegister_c5_0 K [.fn F_netlist_CheckNetlist_c5_c1 [.fptr false (.mapr 0)], eRegs l, eI l.length, eI ((i + 1 : Nat) : Int)] [.mp (eM (ins seen p.name))] := fun h => by
      rw [if_pos h] at hK
      exact ih (i+1) (by omega) _ hK
    clear hK
    have hfit := fits_eM seen
    refine ⟨⟨rfl, rfl, h2⟩, ?_⟩
    by_cases hw : 1 ≤ p.width ∧ p.width ≤ 16
    · have hw' : 0 ≤ p.width ∧ p.width ≤ 16 := by omega
      simp only [clampW hw, powW hw']
      have hfT : (0 ≤ p.init ∧ p.init ≤ 2 ^ p.width.toNat - 1) → fitsB p.init p.width = true := fun h => decide_eq_true h
      have hfF : ¬ (0 ≤ p.init ∧ p.init ≤ 2 ^ p.width.toNat - 1) → fitsB p.init p.width = false := fun h => decide_eq_false h
      repeat' first | refine br_d (fun _ => ?_) (fun _ => ?_) | refine br_nb (fun _ => ?_) (fun _ => ?_) | refine br_of (fun _ => ?_) (fun _ => ?_) | exact hfit | exact pre_first1 _ _ | refine And.intro ?_ ?_
      all_goals first
        | omega
        | (have hf := hfT (by omega); refine hOk ?_; simp_all [regE, nameE, or0]; done)
        | (have hf := hfT (by omega); refine hErr _ ?_ (by decide); simp_all [regE, nameE, or0]; done)
        | (have hf := hfF (by omega); refine hErr _ ?_ (by decide); simp_all [regE, nameE, or0]; done)
    · have hE2 : nameE seen p.name = 0 → regE seen p = 2 := fun h => by unfold regE; rw [h, if_neg (fun hh => hw hh.1)]; rfl
      have hEn : nameE seen p.name ≠ 0 → regE seen p = nameE seen p.name := fun h => by unfold regE or0; rw [if_neg h]
      clear hOk
      repeat' first | refine br_d (fun _ => ?_) (fun _ => ?_) | refine br_nb (fun _ => ?_) (fun _ => ?_) | refine br_of (fun _ => ?_) (fun _ => ?_) | exact hfit | exact pre_first1 _ _ | refine And.intro ?_ ?_
      all_goals first
        | (exfalso; omega)
        | (refine hErr _ (hE2 ?_) (by decide); simp_all [nameE]; done)
        | (refine hErr _ ((hEn ?_).trans ?_) (by decide) <;> simp_all [nameE] <;> done)
theorem netlist_each_api_NetRegister_c5_ok (K : PVal → List AObj → Prop) (l : List Reg) (hl : l.length ≤ 1048576) (hb : ∀ p ∈ l, p.name.size ≤ 1048576) (seen : List ByteArray)
    (hK : K (.tup [eI (namesGo regE Reg.name seen 0 l).1, eI (namesGo regE Reg.name seen 0 l).2.1]) [.mp (eM (namesGo regE Reg.name seen 0 l).2.2)]) : CallP env1 F_netlist_each_api_NetRegister [eRegs l, .fn F_netlist_CheckNetlist_c5_c1 [.fptr false (.mapr 0)]] [.mp (eM seen)] K := by
  apply e_netlist_each_api_NetRegister_c5
  simp only [List.length_map]
  exact netlist_each_api_NetRegister_c5_loop K l hl hb l.length 0 (by omega) seen hK
theorem netlist_each_api_Output_c9_loop (K : PVal → List AObj → Prop) (m : Net) (hm : m.nodes.length ≤ 1048576) (l : List Outp) (hl : l.length ≤ 1048576) (hb : ∀ p ∈ l, p.name.size ≤ 1048576) : ∀ n i : Nat, i + n = l.length → ∀ seen,
    K (.tup [eI (namesGo (outE m.nodes) Outp.name seen i (l.drop i)).1, eI (namesGo (outE m.nodes) Outp.name seen i (l.drop i)).2.1]) [.mp (eM (namesGo (outE m.nodes) Outp.name seen i (l.drop i)).2.2)] →
    L_netlist_each_api_Output_c9_0 K [.fn F_netlist_CheckNetlist_c9_c1 [.fptr false (.mapr 0), .fptr false (.fn F_netlist_CheckNetlist_c1 [.fptr false (eNet m)])], eOutps l, eI l.length, eI i] [.mp (eM seen)] := by
  intro n
  induction n with
  | zero =>
    intro i hi seen hK
    apply r_netlist_each_api_Output_c9_0
    refine br_neg (by omega) ?_
    rwa [List.drop_eq_nil_of_le (by omega), namesGo] at hK
  | succ n ih =>
    intro i hi seen hK
    apply r_netlist_each_api_Output_c9_0
    have h1 : i < l.length := by omega
    have h2 := hb _ (mem_getD h1)
    refine br_pos (by omega) ?_
    rw [drop_at h1, namesGo] at hK
    simp (disch := omega) only [List.length_map, natCast_toNat, getP_outps, asI_int, asS_str, asB_bool, cellAt_agg, List.getD_cons_zero, List.getD_cons_succ, Int.natCast_nonneg, Int.ofNat_lt, true_and, and_true, wrap_succ, wrap64, h1, mget_eM, mset_eM]
    generalize l.getD i default = p at *
    have hErr : ∀ e, (outE m.nodes) seen p = e → e ≠ 0 → K (.tup [eI i, eI e]) [.mp (eM (ins seen p.name))] := fun e he h => by
      rwa [if_neg (by rw [he]; exact h), he] at hK
    have hOk : (outE m.nodes) seen p = 0 → L_netlist_each_api_Output_c9_0 K [.fn F_netlist_CheckNetlist_c9_c1 [.fptr false (.mapr 0), .fptr false (.fn F_netlist_CheckNetlist_c1 [.fptr false (eNet m)])], eOutps l, eI l.length, eI ((i + 1 : Nat) : Int)] [.mp (eM (ins seen p.name))] := fun h => by
      rw [if_pos h] at hK
      exact ih (i+1) (by omega) _ hK
    clear hK
    have hfit := fits_eM seen
    refine ⟨⟨rfl, rfl, h2⟩, ?_⟩
    repeat' first | refine br_d (fun _ => ?_) (fun _ => ?_) | refine br_nb (fun _ => ?_) (fun _ => ?_) | refine br_of (fun _ => ?_) (fun _ => ?_) | exact hfit | exact pre_first1 _ _ | refine And.intro ?_ ?_
    all_goals first
      | (have hf : isNodeB m.nodes p.node = true := decide_eq_true (by omega)
         refine hOk ?_; simp_all [outE, nameE, or0]; done)
      | (have hf : isNodeB m.nodes p.node = true := decide_eq_true (by omega)
         refine hErr _ ?_ (by decide); simp_all [outE, nameE, or0]; done)
      | (have hf : isNodeB m.nodes p.node = false := decide_eq_false (by omega)
         refine hErr _ ?_ (by decide); simp_all [outE, nameE, or0]; done)
theorem netlist_each_api_Output_c9_ok (K : PVal → List AObj → Prop) (m : Net) (hm : m.nodes.length ≤ 1048576) (l : List Outp) (hl : l.length ≤ 1048576) (hb : ∀ p ∈ l, p.name.size ≤ 1048576) (seen : List ByteArray)
    (hK : K (.tup [eI (namesGo (outE m.nodes) Outp.name seen 0 l).1, eI (namesGo (outE m.nodes) Outp.name seen 0 l).2.1]) [.mp (eM (namesGo (outE m.nodes) Outp.name seen 0 l).2.2)]) : CallP env1 F_netlist_each_api_Output [eOutps l, .fn F_netlist_CheckNetlist_c9_c1 [.fptr false (.mapr 0), .fptr false (.fn F_netlist_CheckNetlist_c1 [.fptr false (eNet m)])]] [.mp (eM seen)] K := by
  apply e_netlist_each_api_Output_c9
  simp only [List.length_map]
  exact netlist_each_api_Output_c9_loop K m hm l hl hb l.length 0 (by omega) seen hK
theorem netlist_each_api_NetRegister_c7_loop (K : PVal → List AObj → Prop) (m : Net) (hm : m.nodes.length ≤ 1048576) (l : List Reg) (hl : l.length ≤ 1048576) : ∀ n i : Nat, i + n = l.length →
    K (.tup [eI (firstE i ((l.drop i).map (regW m.nodes))).1, eI (firstE i ((l.drop i).map (regW m.nodes))).2]) [] →
    L_netlist_each_api_NetRegister_c7_0 K [.fn F_netlist_CheckNetlist_c7_c1 [.fptr false (.fn F_netlist_CheckNetlist_c1 [.fptr false (eNet m)]), .fptr false (eNet m)], eRegs l, eI l.length, eI i] [] := by
  intro n
  induction n with
  | zero =>
    intro i hi hK
    apply r_netlist_each_api_NetRegister_c7_0
    refine br_neg (by omega) ?_
    rwa [List.drop_eq_nil_of_le (by omega)] at hK
  | succ n ih =>
    intro i hi hK
    apply r_netlist_each_api_NetRegister_c7_0
    have h1 : i < l.length := by omega
    refine br_pos (by omega) ?_
    rw [drop_at h1, List.map_cons, firstE] at hK
    simp (disch := omega) only [List.length_map, natCast_toNat, getP_regs, asI_int, asS_str, asB_bool, cellAt_agg, List.getD_cons_zero, List.getD_cons_succ, Int.natCast_nonneg, Int.ofNat_lt, true_and, and_true, wrap_succ, wrap64, h1]
    generalize l.getD i default = p at *
    have hErr : ∀ e, regW m.nodes p = e → e ≠ 0 → K (.tup [eI i, eI e]) [] := fun e he h => by
      rwa [if_neg (by rw [he]; exact h), he] at hK
    have hOk : regW m.nodes p = 0 → L_netlist_each_api_NetRegister_c7_0 K [.fn F_netlist_CheckNetlist_c7_c1 [.fptr false (.fn F_netlist_CheckNetlist_c1 [.fptr false (eNet m)]), .fptr false (eNet m)], eRegs l, eI l.length, eI ((i + 1 : Nat) : Int)] [] := fun h => by
      rw [if_pos h] at hK
      exact ih (i+1) (by omega) hK
    clear hK
    have h9 : ¬ (isNodeB m.nodes p.enable = true ∧ (m.nodes.getD p.enable.toNat default).width = 1 ∧ isNodeB m.nodes p.next = true) → K (.tup [eI i, eI 9]) [] := fun h => hErr 9 (by rw [regW, if_pos h]) (by decide)
    have hb : ∀ k, isNodeB m.nodes k = true ↔ (0 ≤ k ∧ k < (m.nodes.length : Int)) := fun k => by simp [isNodeB]
    refine br_d (fun e0 => br_n (fun e1 => ?_) (fun e1 => ?_)) (fun e0 => ?_)
    · exact h9 fun h => e1 (by have := (hb _).1 h.1; omega)
    · rw [getP_nodes _ _ (by omega)]
      simp only [asI_int, cellAt_agg, List.getD_cons_zero, List.getD_cons_succ, asL_sl]
      refine ⟨⟨by omega, trivial⟩, br_n (fun e2 => h9 fun h => e2 h.2.1) (fun e2 => ?_)⟩
      refine br_d (fun e3 => br_n (fun e4 => ?_) (fun e4 => ?_)) (fun e3 => ?_)
      · exact h9 fun h => e4 (by have := (hb _).1 h.2.2; omega)
      · rw [getP_nodes _ _ (by omega)]
        simp only [asI_int, cellAt_agg, List.getD_cons_zero, List.getD_cons_succ, asL_sl]
        have hc : isNodeB m.nodes p.enable = true ∧ (m.nodes.getD p.enable.toNat default).width = 1 ∧ isNodeB m.nodes p.next = true := ⟨(hb _).2 (by omega), e2, (hb _).2 (by omega)⟩
        refine ⟨⟨by omega, trivial⟩, br_d (fun e5 => hOk ?_) (fun e5 => hErr 25 ?_ (by decide))⟩
        · rw [regW, if_neg (fun h => h hc), if_pos e5]
        · rw [regW, if_neg (fun h => h hc), if_neg e5]
      · exact h9 fun h => e3 (by have := (hb _).1 h.2.2; omega)
    · exact h9 fun h => e0 (by have := (hb _).1 h.1; omega)
theorem netlist_each_api_NetRegister_c7_ok (K : PVal → List AObj → Prop) (m : Net) (hm : m.nodes.length ≤ 1048576) (l : List Reg) (hl : l.length ≤ 1048576)
    (hK : K (.tup [eI (firstE 0 (l.map (regW m.nodes))).1, eI (firstE 0 (l.map (regW m.nodes))).2]) []) : CallP env1 F_netlist_each_api_NetRegister [eRegs l, .fn F_netlist_CheckNetlist_c7_c1 [.fptr false (.fn F_netlist_CheckNetlist_c1 [.fptr false (eNet m)]), .fptr false (eNet m)]] [] K := by
  apply e_netlist_each_api_NetRegister_c7
  simp only [List.length_map]
  exact netlist_each_api_NetRegister_c7_loop K m hm l hl l.length 0 (by omega) hK
theorem pre_same (w : List Int) (x : Int) (h : w.length ≤ 1048576) : (sp_slices_IndexFunc_int_int [.sl .fr 1 (w.map eI), .fn F_graph_same_c1 [.fptr false (eI x)]] []).pre := by
  show (bif false then (_ : Ans) else _).pre
  simp only [cond_false]
  exact ⟨by simp only [aIs_0]; trivial, trivial, by simpa only [aIs_0] using h⟩
theorem pre_odd (w : List Int) (x : Int) (h : w.length ≤ 1048576) : (sp_slices_IndexFunc_int_int [.sl .fr 1 (w.map eI), .fn F_graph_CheckNodes_c2_c1 [.fptr false (eI x)]] []).pre := by
  show (bif true then (_ : Ans) else _).pre
  simp only [cond_true]
  exact ⟨by simp only [aIs_0]; trivial, trivial, by simpa only [aIs_0] using h⟩
theorem pre_firstG (l : List Int) (h : l.length ≤ 1048576) : (sp_graph_first [.sl .fr 1 (l.map eI)] []).pre := ⟨by simp only [aIs_0], rfl, by simpa only [aIs_0] using h⟩
theorem graph_CheckNodes_c2_end0 (K : PVal → List AObj → Prop) (nodes : List Node) (nm : ByteArray) (q : Int) (z : Bool) (width value : Int) (args : List Int) (w : List Int) (hw : (w.length : Int) = argCount 0) (hl : args.length = w.length)
    (hK : K (eI (if (0 : Int) < 2 ∨ widthsOK 0 width value w = true then 0 else 25)) []) :
    L_graph_CheckNodes_c2_0 K [.fptr false (eNodes nodes), .ref 0 4 0 0, .ref 1 5 0 0, .own 2, eInts args, eI args.length, eI w.length] [.row true T_api_Node 4 [eNode ⟨0, width, args, value⟩], .row true T_graph_operation 5 [.agg [.str nm, eI q, .bool z, PVal.fn 202 [], PVal.fn 201 []]], .row false T_int 1 (w.map eI)] := by
  apply r_graph_CheckNodes_c2_0_op0
  refine br_neg (by omega) ?_
  obtain rfl : w = [] := by cases w with | nil => rfl | cons a r => (simp [argCount] at hw; try omega)
  simpa using hK
theorem graph_CheckNodes_c2_end1 (K : PVal → List AObj → Prop) (nodes : List Node) (nm : ByteArray) (q : Int) (z : Bool) (width value : Int) (args : List Int) (w : List Int) (hw : (w.length : Int) = argCount 1) (hl : args.length = w.length)
    (hK : K (eI (if (1 : Int) < 2 ∨ widthsOK 1 width value w = true then 0 else 25)) []) :
    L_graph_CheckNodes_c2_0 K [.fptr false (eNodes nodes), .ref 0 4 0 0, .ref 1 5 0 0, .own 2, eInts args, eI args.length, eI w.length] [.row true T_api_Node 4 [eNode ⟨1, width, args, value⟩], .row true T_graph_operation 5 [.agg [.str nm, eI q, .bool z, PVal.fn 202 [], PVal.fn 201 []]], .row false T_int 1 (w.map eI)] := by
  apply r_graph_CheckNodes_c2_0_op1
  refine br_neg (by omega) ?_
  obtain rfl : w = [] := by cases w with | nil => rfl | cons a r => (simp [argCount] at hw; try omega)
  simpa using hK
theorem graph_CheckNodes_c2_end2 (K : PVal → List AObj → Prop) (nodes : List Node) (nm : ByteArray) (q : Int) (z : Bool) (width value : Int) (args : List Int) (w : List Int) (hw : (w.length : Int) = argCount 2) (hl : args.length = w.length)
    (hK : K (eI (if (2 : Int) < 2 ∨ widthsOK 2 width value w = true then 0 else 25)) []) :
    L_graph_CheckNodes_c2_0 K [.fptr false (eNodes nodes), .ref 0 4 0 0, .ref 1 5 0 0, .own 2, eInts args, eI args.length, eI w.length] [.row true T_api_Node 4 [eNode ⟨2, width, args, value⟩], .row true T_graph_operation 5 [.agg [.str nm, eI q, .bool z, PVal.fn 203 [], PVal.fn 204 []]], .row false T_int 1 (w.map eI)] := by
  apply r_graph_CheckNodes_c2_0_op2
  refine br_neg (by omega) ?_
  obtain ⟨a, rfl⟩ := len1 (by simpa [argCount] using hw)
  refine ⟨pre_same [a] width (by simp), ?_⟩
  simp [widthsOK] at hK
  simp [br_dec, br_not, getP0, getP1, getP2, capI, aIs, dInts, idxGo, neB, -List.length_map]
  by_cases h0 : a = width <;> clear hw hl <;> simp_all
theorem graph_CheckNodes_c2_end3 (K : PVal → List AObj → Prop) (nodes : List Node) (nm : ByteArray) (q : Int) (z : Bool) (width value : Int) (args : List Int) (w : List Int) (hw : (w.length : Int) = argCount 3) (hl : args.length = w.length)
    (hK : K (eI (if (3 : Int) < 2 ∨ widthsOK 3 width value w = true then 0 else 25)) []) :
    L_graph_CheckNodes_c2_0 K [.fptr false (eNodes nodes), .ref 0 4 0 0, .ref 1 5 0 0, .own 2, eInts args, eI args.length, eI w.length] [.row true T_api_Node 4 [eNode ⟨3, width, args, value⟩], .row true T_graph_operation 5 [.agg [.str nm, eI q, .bool z, PVal.fn 203 [], PVal.fn 235 [PVal.fptr false (PVal.fn 207 [])]]], .row false T_int 1 (w.map eI)] := by
  apply r_graph_CheckNodes_c2_0_op3
  refine br_neg (by omega) ?_
  obtain ⟨a, b, rfl⟩ := len2 (by simpa [argCount] using hw)
  refine ⟨pre_same [a, b] width (by simp), ?_⟩
  simp [widthsOK] at hK
  simp [br_dec, br_not, getP0, getP1, getP2, capI, aIs, dInts, idxGo, neB, -List.length_map]
  by_cases h0 : a = width <;> by_cases h1 : b = width <;> clear hw hl <;> simp_all
theorem graph_CheckNodes_c2_end4 (K : PVal → List AObj → Prop) (nodes : List Node) (nm : ByteArray) (q : Int) (z : Bool) (width value : Int) (args : List Int) (w : List Int) (hw : (w.length : Int) = argCount 4) (hl : args.length = w.length)
    (hK : K (eI (if (4 : Int) < 2 ∨ widthsOK 4 width value w = true then 0 else 25)) []) :
    L_graph_CheckNodes_c2_0 K [.fptr false (eNodes nodes), .ref 0 4 0 0, .ref 1 5 0 0, .own 2, eInts args, eI args.length, eI w.length] [.row true T_api_Node 4 [eNode ⟨4, width, args, value⟩], .row true T_graph_operation 5 [.agg [.str nm, eI q, .bool z, PVal.fn 203 [], PVal.fn 235 [PVal.fptr false (PVal.fn 208 [])]]], .row false T_int 1 (w.map eI)] := by
  apply r_graph_CheckNodes_c2_0_op4
  refine br_neg (by omega) ?_
  obtain ⟨a, b, rfl⟩ := len2 (by simpa [argCount] using hw)
  refine ⟨pre_same [a, b] width (by simp), ?_⟩
  simp [widthsOK] at hK
  simp [br_dec, br_not, getP0, getP1, getP2, capI, aIs, dInts, idxGo, neB, -List.length_map]
  by_cases h0 : a = width <;> by_cases h1 : b = width <;> clear hw hl <;> simp_all
theorem graph_CheckNodes_c2_end5 (K : PVal → List AObj → Prop) (nodes : List Node) (nm : ByteArray) (q : Int) (z : Bool) (width value : Int) (args : List Int) (w : List Int) (hw : (w.length : Int) = argCount 5) (hl : args.length = w.length)
    (hK : K (eI (if (5 : Int) < 2 ∨ widthsOK 5 width value w = true then 0 else 25)) []) :
    L_graph_CheckNodes_c2_0 K [.fptr false (eNodes nodes), .ref 0 4 0 0, .ref 1 5 0 0, .own 2, eInts args, eI args.length, eI w.length] [.row true T_api_Node 4 [eNode ⟨5, width, args, value⟩], .row true T_graph_operation 5 [.agg [.str nm, eI q, .bool z, PVal.fn 203 [], PVal.fn 235 [PVal.fptr false (PVal.fn 209 [])]]], .row false T_int 1 (w.map eI)] := by
  apply r_graph_CheckNodes_c2_0_op5
  refine br_neg (by omega) ?_
  obtain ⟨a, b, rfl⟩ := len2 (by simpa [argCount] using hw)
  refine ⟨pre_same [a, b] width (by simp), ?_⟩
  simp [widthsOK] at hK
  simp [br_dec, br_not, getP0, getP1, getP2, capI, aIs, dInts, idxGo, neB, -List.length_map]
  by_cases h0 : a = width <;> by_cases h1 : b = width <;> clear hw hl <;> simp_all
theorem graph_CheckNodes_c2_end6 (K : PVal → List AObj → Prop) (nodes : List Node) (nm : ByteArray) (q : Int) (z : Bool) (width value : Int) (args : List Int) (w : List Int) (hw : (w.length : Int) = argCount 6) (hl : args.length = w.length)
    (hK : K (eI (if (6 : Int) < 2 ∨ widthsOK 6 width value w = true then 0 else 25)) []) :
    L_graph_CheckNodes_c2_0 K [.fptr false (eNodes nodes), .ref 0 4 0 0, .ref 1 5 0 0, .own 2, eInts args, eI args.length, eI w.length] [.row true T_api_Node 4 [eNode ⟨6, width, args, value⟩], .row true T_graph_operation 5 [.agg [.str nm, eI q, .bool z, PVal.fn 203 [], PVal.fn 235 [PVal.fptr false (PVal.fn 210 [])]]], .row false T_int 1 (w.map eI)] := by
  apply r_graph_CheckNodes_c2_0_op6
  refine br_neg (by omega) ?_
  obtain ⟨a, b, rfl⟩ := len2 (by simpa [argCount] using hw)
  refine ⟨pre_same [a, b] width (by simp), ?_⟩
  simp [widthsOK] at hK
  simp [br_dec, br_not, getP0, getP1, getP2, capI, aIs, dInts, idxGo, neB, -List.length_map]
  by_cases h0 : a = width <;> by_cases h1 : b = width <;> clear hw hl <;> simp_all
theorem graph_CheckNodes_c2_end7 (K : PVal → List AObj → Prop) (nodes : List Node) (nm : ByteArray) (q : Int) (z : Bool) (width value : Int) (args : List Int) (w : List Int) (hw : (w.length : Int) = argCount 7) (hl : args.length = w.length)
    (hK : K (eI (if (7 : Int) < 2 ∨ widthsOK 7 width value w = true then 0 else 25)) []) :
    L_graph_CheckNodes_c2_0 K [.fptr false (eNodes nodes), .ref 0 4 0 0, .ref 1 5 0 0, .own 2, eInts args, eI args.length, eI w.length] [.row true T_api_Node 4 [eNode ⟨7, width, args, value⟩], .row true T_graph_operation 5 [.agg [.str nm, eI q, .bool z, PVal.fn 203 [], PVal.fn 235 [PVal.fptr false (PVal.fn 211 [])]]], .row false T_int 1 (w.map eI)] := by
  apply r_graph_CheckNodes_c2_0_op7
  refine br_neg (by omega) ?_
  obtain ⟨a, b, rfl⟩ := len2 (by simpa [argCount] using hw)
  refine ⟨pre_same [a, b] width (by simp), ?_⟩
  simp [widthsOK] at hK
  simp [br_dec, br_not, getP0, getP1, getP2, capI, aIs, dInts, idxGo, neB, -List.length_map]
  by_cases h0 : a = width <;> by_cases h1 : b = width <;> clear hw hl <;> simp_all
theorem graph_CheckNodes_c2_end8 (K : PVal → List AObj → Prop) (nodes : List Node) (nm : ByteArray) (q : Int) (z : Bool) (width value : Int) (args : List Int) (w : List Int) (hw : (w.length : Int) = argCount 8) (hl : args.length = w.length)
    (hK : K (eI (if (8 : Int) < 2 ∨ widthsOK 8 width value w = true then 0 else 25)) []) :
    L_graph_CheckNodes_c2_0 K [.fptr false (eNodes nodes), .ref 0 4 0 0, .ref 1 5 0 0, .own 2, eInts args, eI args.length, eI w.length] [.row true T_api_Node 4 [eNode ⟨8, width, args, value⟩], .row true T_graph_operation 5 [.agg [.str nm, eI q, .bool z, PVal.fn 203 [], PVal.fn 235 [PVal.fptr false (PVal.fn 212 [])]]], .row false T_int 1 (w.map eI)] := by
  apply r_graph_CheckNodes_c2_0_op8
  refine br_neg (by omega) ?_
  obtain ⟨a, b, rfl⟩ := len2 (by simpa [argCount] using hw)
  refine ⟨pre_same [a, b] width (by simp), ?_⟩
  simp [widthsOK] at hK
  simp [br_dec, br_not, getP0, getP1, getP2, capI, aIs, dInts, idxGo, neB, -List.length_map]
  by_cases h0 : a = width <;> by_cases h1 : b = width <;> clear hw hl <;> simp_all
theorem graph_CheckNodes_c2_end9 (K : PVal → List AObj → Prop) (nodes : List Node) (nm : ByteArray) (q : Int) (z : Bool) (width value : Int) (args : List Int) (w : List Int) (hw : (w.length : Int) = argCount 9) (hl : args.length = w.length)
    (hK : K (eI (if (9 : Int) < 2 ∨ widthsOK 9 width value w = true then 0 else 25)) []) :
    L_graph_CheckNodes_c2_0 K [.fptr false (eNodes nodes), .ref 0 4 0 0, .ref 1 5 0 0, .own 2, eInts args, eI args.length, eI w.length] [.row true T_api_Node 4 [eNode ⟨9, width, args, value⟩], .row true T_graph_operation 5 [.agg [.str nm, eI q, .bool z, PVal.fn 236 [], PVal.fn 237 [PVal.fptr false (PVal.fn 214 [])]]], .row false T_int 1 (w.map eI)] := by
  apply r_graph_CheckNodes_c2_0_op9
  refine br_neg (by omega) ?_
  obtain ⟨a, b, rfl⟩ := len2 (by simpa [argCount] using hw)
  simp [widthsOK] at hK
  simp [br_dec, br_not, getP0, getP1, getP2, capI, aIs, dInts, idxGo, neB, -List.length_map]
  by_cases h0 : width = 1 <;> by_cases h1 : a = b <;> clear hw hl <;> simp_all
theorem graph_CheckNodes_c2_end10 (K : PVal → List AObj → Prop) (nodes : List Node) (nm : ByteArray) (q : Int) (z : Bool) (width value : Int) (args : List Int) (w : List Int) (hw : (w.length : Int) = argCount 10) (hl : args.length = w.length)
    (hK : K (eI (if (10 : Int) < 2 ∨ widthsOK 10 width value w = true then 0 else 25)) []) :
    L_graph_CheckNodes_c2_0 K [.fptr false (eNodes nodes), .ref 0 4 0 0, .ref 1 5 0 0, .own 2, eInts args, eI args.length, eI w.length] [.row true T_api_Node 4 [eNode ⟨10, width, args, value⟩], .row true T_graph_operation 5 [.agg [.str nm, eI q, .bool z, PVal.fn 236 [], PVal.fn 237 [PVal.fptr false (PVal.fn 215 [])]]], .row false T_int 1 (w.map eI)] := by
  apply r_graph_CheckNodes_c2_0_op10
  refine br_neg (by omega) ?_
  obtain ⟨a, b, rfl⟩ := len2 (by simpa [argCount] using hw)
  simp [widthsOK] at hK
  simp [br_dec, br_not, getP0, getP1, getP2, capI, aIs, dInts, idxGo, neB, -List.length_map]
  by_cases h0 : width = 1 <;> by_cases h1 : a = b <;> clear hw hl <;> simp_all
theorem graph_CheckNodes_c2_end11 (K : PVal → List AObj → Prop) (nodes : List Node) (nm : ByteArray) (q : Int) (z : Bool) (width value : Int) (args : List Int) (w : List Int) (hw : (w.length : Int) = argCount 11) (hl : args.length = w.length)
    (hK : K (eI (if (11 : Int) < 2 ∨ widthsOK 11 width value w = true then 0 else 25)) []) :
    L_graph_CheckNodes_c2_0 K [.fptr false (eNodes nodes), .ref 0 4 0 0, .ref 1 5 0 0, .own 2, eInts args, eI args.length, eI w.length] [.row true T_api_Node 4 [eNode ⟨11, width, args, value⟩], .row true T_graph_operation 5 [.agg [.str nm, eI q, .bool z, PVal.fn 236 [], PVal.fn 237 [PVal.fptr false (PVal.fn 216 [])]]], .row false T_int 1 (w.map eI)] := by
  apply r_graph_CheckNodes_c2_0_op11
  refine br_neg (by omega) ?_
  obtain ⟨a, b, rfl⟩ := len2 (by simpa [argCount] using hw)
  simp [widthsOK] at hK
  simp [br_dec, br_not, getP0, getP1, getP2, capI, aIs, dInts, idxGo, neB, -List.length_map]
  by_cases h0 : width = 1 <;> by_cases h1 : a = b <;> clear hw hl <;> simp_all
theorem graph_CheckNodes_c2_end12 (K : PVal → List AObj → Prop) (nodes : List Node) (nm : ByteArray) (q : Int) (z : Bool) (width value : Int) (args : List Int) (w : List Int) (hw : (w.length : Int) = argCount 12) (hl : args.length = w.length)
    (hK : K (eI (if (12 : Int) < 2 ∨ widthsOK 12 width value w = true then 0 else 25)) []) :
    L_graph_CheckNodes_c2_0 K [.fptr false (eNodes nodes), .ref 0 4 0 0, .ref 1 5 0 0, .own 2, eInts args, eI args.length, eI w.length] [.row true T_api_Node 4 [eNode ⟨12, width, args, value⟩], .row true T_graph_operation 5 [.agg [.str nm, eI q, .bool z, PVal.fn 218 [], PVal.fn 219 []]], .row false T_int 1 (w.map eI)] := by
  apply r_graph_CheckNodes_c2_0_op12
  refine br_neg (by omega) ?_
  obtain ⟨a, b, c, rfl⟩ := len3 (by simpa [argCount] using hw)
  simp [widthsOK] at hK
  simp [br_dec, br_not, getP0, getP1, getP2, capI, aIs, dInts, idxGo, neB, -List.length_map]
  by_cases h0 : a = 1 <;> by_cases h1 : b = width <;> by_cases h2 : c = width <;> clear hw hl <;> simp_all
theorem graph_CheckNodes_c2_end13 (K : PVal → List AObj → Prop) (nodes : List Node) (nm : ByteArray) (q : Int) (z : Bool) (width value : Int) (args : List Int) (w : List Int) (hw : (w.length : Int) = argCount 13) (hl : args.length = w.length)
    (hK : K (eI (if (13 : Int) < 2 ∨ widthsOK 13 width value w = true then 0 else 25)) []) :
    L_graph_CheckNodes_c2_0 K [.fptr false (eNodes nodes), .ref 0 4 0 0, .ref 1 5 0 0, .own 2, eInts args, eI args.length, eI w.length] [.row true T_api_Node 4 [eNode ⟨13, width, args, value⟩], .row true T_graph_operation 5 [.agg [.str nm, eI q, .bool z, PVal.fn 220 [], PVal.fn 221 []]], .row false T_int 1 (w.map eI)] := by
  apply r_graph_CheckNodes_c2_0_op13
  refine br_neg (by omega) ?_
  obtain ⟨a, b, rfl⟩ := len2 (by simpa [argCount] using hw)
  simp [widthsOK] at hK
  simp [br_dec, br_not, getP0, getP1, getP2, capI, aIs, dInts, idxGo, neB, -List.length_map]
  by_cases h0 : IntKind.i64.wrap (a + b) = width <;> clear hw hl <;> simp_all
theorem graph_CheckNodes_c2_end14 (K : PVal → List AObj → Prop) (nodes : List Node) (nm : ByteArray) (q : Int) (z : Bool) (width value : Int) (args : List Int) (w : List Int) (hw : (w.length : Int) = argCount 14) (hl : args.length = w.length)
    (hK : K (eI (if (14 : Int) < 2 ∨ widthsOK 14 width value w = true then 0 else 25)) []) :
    L_graph_CheckNodes_c2_0 K [.fptr false (eNodes nodes), .ref 0 4 0 0, .ref 1 5 0 0, .own 2, eInts args, eI args.length, eI w.length] [.row true T_api_Node 4 [eNode ⟨14, width, args, value⟩], .row true T_graph_operation 5 [.agg [.str nm, eI q, .bool z, PVal.fn 222 [], PVal.fn 223 []]], .row false T_int 1 (w.map eI)] := by
  apply r_graph_CheckNodes_c2_0_op14
  refine br_neg (by omega) ?_
  obtain ⟨a, rfl⟩ := len1 (by simpa [argCount] using hw)
  simp [widthsOK] at hK
  simp [br_dec, br_not, getP0, getP1, getP2, capI, aIs, dInts, idxGo, neB, -List.length_map]
  by_cases h0 : IntKind.i64.wrap (value + width) ≤ a <;> simp [h0] at hK ⊢ <;> first | exact hK | exact fun _ => hK | (refine ⟨hK, fun h => ?_⟩; omega) | (refine ⟨fun h => ?_, fun _ => hK⟩; omega)
theorem graph_CheckNodes_c2_end15 (K : PVal → List AObj → Prop) (nodes : List Node) (nm : ByteArray) (q : Int) (z : Bool) (width value : Int) (args : List Int) (w : List Int) (hw : (w.length : Int) = argCount 15) (hl : args.length = w.length)
    (hK : K (eI (if (15 : Int) < 2 ∨ widthsOK 15 width value w = true then 0 else 25)) []) :
    L_graph_CheckNodes_c2_0 K [.fptr false (eNodes nodes), .ref 0 4 0 0, .ref 1 5 0 0, .own 2, eInts args, eI args.length, eI w.length] [.row true T_api_Node 4 [eNode ⟨15, width, args, value⟩], .row true T_graph_operation 5 [.agg [.str nm, eI q, .bool z, PVal.fn 224 [], PVal.fn 225 []]], .row false T_int 1 (w.map eI)] := by
  apply r_graph_CheckNodes_c2_0_op15
  refine br_neg (by omega) ?_
  obtain ⟨a, rfl⟩ := len1 (by simpa [argCount] using hw)
  simp [widthsOK] at hK
  simp [br_dec, br_not, getP0, getP1, getP2, capI, aIs, dInts, idxGo, neB, -List.length_map]
  by_cases h0 : a ≤ width <;> simp [h0] at hK ⊢ <;> first | exact hK | exact fun _ => hK | (refine ⟨hK, fun h => ?_⟩; omega) | (refine ⟨fun h => ?_, fun _ => hK⟩; omega)
theorem graph_CheckNodes_c2_end16 (K : PVal → List AObj → Prop) (nodes : List Node) (nm : ByteArray) (q : Int) (z : Bool) (width value : Int) (args : List Int) (w : List Int) (hw : (w.length : Int) = argCount 16) (hl : args.length = w.length)
    (hK : K (eI (if (16 : Int) < 2 ∨ widthsOK 16 width value w = true then 0 else 25)) []) :
    L_graph_CheckNodes_c2_0 K [.fptr false (eNodes nodes), .ref 0 4 0 0, .ref 1 5 0 0, .own 2, eInts args, eI args.length, eI w.length] [.row true T_api_Node 4 [eNode ⟨16, width, args, value⟩], .row true T_graph_operation 5 [.agg [.str nm, eI q, .bool z, PVal.fn 224 [], PVal.fn 226 []]], .row false T_int 1 (w.map eI)] := by
  apply r_graph_CheckNodes_c2_0_op16
  refine br_neg (by omega) ?_
  obtain ⟨a, rfl⟩ := len1 (by simpa [argCount] using hw)
  simp [widthsOK] at hK
  simp [br_dec, br_not, getP0, getP1, getP2, capI, aIs, dInts, idxGo, neB, -List.length_map]
  by_cases h0 : a ≤ width <;> simp [h0] at hK ⊢ <;> first | exact hK | exact fun _ => hK | (refine ⟨hK, fun h => ?_⟩; omega) | (refine ⟨fun h => ?_, fun _ => hK⟩; omega)
theorem graph_CheckNodes_c2_end17 (K : PVal → List AObj → Prop) (nodes : List Node) (nm : ByteArray) (q : Int) (z : Bool) (width value : Int) (args : List Int) (w : List Int) (hw : (w.length : Int) = argCount 17) (hl : args.length = w.length)
    (hK : K (eI (if (17 : Int) < 2 ∨ widthsOK 17 width value w = true then 0 else 25)) []) :
    L_graph_CheckNodes_c2_0 K [.fptr false (eNodes nodes), .ref 0 4 0 0, .ref 1 5 0 0, .own 2, eInts args, eI args.length, eI w.length] [.row true T_api_Node 4 [eNode ⟨17, width, args, value⟩], .row true T_graph_operation 5 [.agg [.str nm, eI q, .bool z, PVal.fn 227 [], PVal.fn 228 []]], .row false T_int 1 (w.map eI)] := by
  apply r_graph_CheckNodes_c2_0_op17
  refine br_neg (by omega) ?_
  obtain ⟨a, b, rfl⟩ := len2 (by simpa [argCount] using hw)
  simp [widthsOK] at hK
  simp [br_dec, br_not, getP0, getP1, getP2, capI, aIs, dInts, idxGo, neB, -List.length_map]
  by_cases h0 : a = width <;> clear hw hl <;> simp_all
theorem graph_CheckNodes_c2_end18 (K : PVal → List AObj → Prop) (nodes : List Node) (nm : ByteArray) (q : Int) (z : Bool) (width value : Int) (args : List Int) (w : List Int) (hw : (w.length : Int) = argCount 18) (hl : args.length = w.length)
    (hK : K (eI (if (18 : Int) < 2 ∨ widthsOK 18 width value w = true then 0 else 25)) []) :
    L_graph_CheckNodes_c2_0 K [.fptr false (eNodes nodes), .ref 0 4 0 0, .ref 1 5 0 0, .own 2, eInts args, eI args.length, eI w.length] [.row true T_api_Node 4 [eNode ⟨18, width, args, value⟩], .row true T_graph_operation 5 [.agg [.str nm, eI q, .bool z, PVal.fn 227 [], PVal.fn 229 []]], .row false T_int 1 (w.map eI)] := by
  apply r_graph_CheckNodes_c2_0_op18
  refine br_neg (by omega) ?_
  obtain ⟨a, b, rfl⟩ := len2 (by simpa [argCount] using hw)
  simp [widthsOK] at hK
  simp [br_dec, br_not, getP0, getP1, getP2, capI, aIs, dInts, idxGo, neB, -List.length_map]
  by_cases h0 : a = width <;> clear hw hl <;> simp_all
theorem graph_CheckNodes_c2_loop0 (K : PVal → List AObj → Prop) (nodes : List Node) (width value : Int) (args : List Int) (hx : args.length ≤ 1048576) (hc : (args.length : Int) = argCount 0) (hn : nodes.length ≤ 1048576) (ha : ∀ a ∈ args, 0 ≤ a ∧ a < (nodes.length : Int)) : ∀ k j : Nat, j + k = args.length → ∀ w : List Int, w.length = j →
    K (eI (if (0 : Int) < 2 ∨ widthsOK 0 width value (w ++ argWidths nodes (args.drop j)) = true then 0 else 25)) [] →
    L_graph_CheckNodes_c2_0 K [.fptr false (eNodes nodes), .ref 0 4 0 0, .ref 1 5 0 0, .own 2, eInts args, eI args.length, eI j] [.row true T_api_Node 4 [eNode ⟨0, width, args, value⟩], .row true T_graph_operation 5 [.agg [.str ⟨#[99, 111, 110, 115, 116]⟩, eI 0, .bool true, PVal.fn 202 [], PVal.fn 201 []]], .row false T_int 1 (w.map eI)] := by
  intro k
  induction k with
  | zero =>
    intro j hj w hw hK
    rw [List.drop_eq_nil_of_le (by omega), argWidths, List.map_nil, List.append_nil] at hK
    subst hw
    exact graph_CheckNodes_c2_end0 K nodes _ _ _ width value args w (by rw [← hc]; omega) (by omega) hK
  | succ k ih =>
    intro j hj w hw hK
    apply r_graph_CheckNodes_c2_0_op0
    have h1 : j < args.length := by omega
    have h2 := ha _ (mem_getD0 h1)
    refine br_pos (by omega) ?_
    simp (disch := omega) only [List.length_map, natCast_toNat, getP_nodes, getP_ints, asI_int, asL_sl, cellAt_agg, List.getD_cons_zero, List.getD_cons_succ, Int.natCast_nonneg, Int.ofNat_lt, true_and, and_true, wrap_succ, h1, h2]
    refine ⟨by omega, ?_⟩
    rw [drop_at0 h1, argWidths, List.map_cons] at hK
    have := ih (j+1) (by omega) (w ++ [(nodes.getD (args.getD j 0).toNat default).width]) (by simp [hw]) (by simpa [argWidths] using hK)
    simpa using this
theorem graph_CheckNodes_c2_cut0 (K : PVal → List AObj → Prop) (leaves : List Int) (nodes : List Node) (i : Nat) (width value : Int) (args : List Int) (hl : leaves.length ≤ 1048576) (hn : nodes.length ≤ 1048576) (hi : i ≤ nodes.length) (hx : args.length ≤ 1048576) (hwd : 1 ≤ width ∧ width ≤ 16)
    (hK : K (eI (nodeE leaves nodes i ⟨0, width, args, value⟩)) []) :
    C_graph_CheckNodes_c2_4 K [.fptr false opsV, .fptr false (eInts leaves), .fptr false (eNodes nodes), .ref 0 1 0 0, .ref 1 4 0 0] [.row true T_int 1 [eI i], .row true T_api_Node 4 [eNode ⟨0, width, args, value⟩]] := by
  apply c_graph_CheckNodes_c2_4_op0
  simp (disch := omega) only [powW, List.length_map, dInts_map, capI, wrap64]
  have hodd := odd_iff (i := i) (by omega) args
  have kS : (args.length : Int) ≠ 0 → K (eI 10) [] := fun h => by
    rwa [nodeE, if_neg (by simp), if_neg (fun hh => hh hwd), if_pos (by simpa [argCount] using h)] at hK
  have kO : (args.length : Int) = 0 → (¬ ∀ a ∈ args, 0 ≤ a ∧ a < (i : Int)) → K (eI 9) [] := fun h h' => by
    rwa [nodeE, if_neg (by simp), if_neg (fun hh => hh hwd), if_neg (by simpa [argCount] using h), if_pos h'] at hK
  have kV : ∀ e, (args.length : Int) = 0 → (∀ a ∈ args, 0 ≤ a ∧ a < (i : Int)) → valueE leaves ⟨0, width, args, value⟩ = e → e ≠ 0 → K (eI e) [] := fun e h h' hv he => by
    rwa [nodeE, if_neg (by simp), if_neg (fun hh => hh hwd), if_neg (by simpa [argCount] using h), if_neg (fun hh => hh h'), hv, or0, if_neg he] at hK
  have kL : (args.length : Int) = 0 → (∀ a ∈ args, 0 ≤ a ∧ a < (i : Int)) → valueE leaves ⟨0, width, args, value⟩ = 0 → L_graph_CheckNodes_c2_0 K [.fptr false (eNodes nodes), .ref 0 4 0 0, .ref 1 5 0 0, .own 2, eInts args, eI args.length, eI 0] [.row true T_api_Node 4 [eNode ⟨0, width, args, value⟩], .row true T_graph_operation 5 [.agg [.str ⟨#[99, 111, 110, 115, 116]⟩, eI 0, .bool true, PVal.fn 202 [], PVal.fn 201 []]], .row false T_int 1 []] := fun h h' hv => by
    rw [nodeE, if_neg (by simp), if_neg (fun hh => hh hwd), if_neg (by simpa [argCount] using h), if_neg (fun hh => hh h'), hv, or0, if_pos rfl] at hK
    exact graph_CheckNodes_c2_loop0 K nodes width value args hx (by simpa [argCount] using h) hn (fun a hm => by have := h' a hm; omega) args.length 0 (by omega) [] rfl (by simpa using hK)
  clear hK
  have v0 : (0 ≤ value ∧ value ≤ 2 ^ width.toNat - 1) → valueE leaves ⟨0, width, args, value⟩ = 0 := fun h => by unfold valueE fitsB; rw [if_pos rfl, if_pos (decide_eq_true h)]
  have v1 : ¬ (0 ≤ value ∧ value ≤ 2 ^ width.toNat - 1) → valueE leaves ⟨0, width, args, value⟩ = 2 := fun h => by unfold valueE fitsB; rw [if_pos rfl, if_neg (by simpa using h)]
  repeat' first | exact pre_odd args i hx | exact pre_firstG [_, _, _] (by simp) | exact pre_firstG [_, _] (by simp) | refine br_d (fun _ => ?_) (fun _ => ?_) | refine br_n (fun _ => ?_) (fun _ => ?_) | refine And.intro ?_ ?_
  all_goals first
    | omega
    | exact kS (by omega)
    | exact kO (by omega) (hodd.1 (by omega))
    | exact kL (by omega) (Classical.not_not.1 fun h => absurd (hodd.2 h) (by omega)) (by exact v0 (by omega))
    | exact kV _ (by omega) (Classical.not_not.1 fun h => absurd (hodd.2 h) (by omega)) (by exact v1 (by omega)) (by decide)
theorem graph_CheckNodes_c2_loop1 (K : PVal → List AObj → Prop) (nodes : List Node) (width value : Int) (args : List Int) (hx : args.length ≤ 1048576) (hc : (args.length : Int) = argCount 1) (hn : nodes.length ≤ 1048576) (ha : ∀ a ∈ args, 0 ≤ a ∧ a < (nodes.length : Int)) : ∀ k j : Nat, j + k = args.length → ∀ w : List Int, w.length = j →
    K (eI (if (1 : Int) < 2 ∨ widthsOK 1 width value (w ++ argWidths nodes (args.drop j)) = true then 0 else 25)) [] →
    L_graph_CheckNodes_c2_0 K [.fptr false (eNodes nodes), .ref 0 4 0 0, .ref 1 5 0 0, .own 2, eInts args, eI args.length, eI j] [.row true T_api_Node 4 [eNode ⟨1, width, args, value⟩], .row true T_graph_operation 5 [.agg [.str ⟨#[108, 101, 97, 102]⟩, eI 0, .bool true, PVal.fn 202 [], PVal.fn 201 []]], .row false T_int 1 (w.map eI)] := by
  intro k
  induction k with
  | zero =>
    intro j hj w hw hK
    rw [List.drop_eq_nil_of_le (by omega), argWidths, List.map_nil, List.append_nil] at hK
    subst hw
    exact graph_CheckNodes_c2_end1 K nodes _ _ _ width value args w (by rw [← hc]; omega) (by omega) hK
  | succ k ih =>
    intro j hj w hw hK
    apply r_graph_CheckNodes_c2_0_op1
    have h1 : j < args.length := by omega
    have h2 := ha _ (mem_getD0 h1)
    refine br_pos (by omega) ?_
    simp (disch := omega) only [List.length_map, natCast_toNat, getP_nodes, getP_ints, asI_int, asL_sl, cellAt_agg, List.getD_cons_zero, List.getD_cons_succ, Int.natCast_nonneg, Int.ofNat_lt, true_and, and_true, wrap_succ, h1, h2]
    refine ⟨by omega, ?_⟩
    rw [drop_at0 h1, argWidths, List.map_cons] at hK
    have := ih (j+1) (by omega) (w ++ [(nodes.getD (args.getD j 0).toNat default).width]) (by simp [hw]) (by simpa [argWidths] using hK)
    simpa using this
theorem graph_CheckNodes_c2_cut1 (K : PVal → List AObj → Prop) (leaves : List Int) (nodes : List Node) (i : Nat) (width value : Int) (args : List Int) (hl : leaves.length ≤ 1048576) (hn : nodes.length ≤ 1048576) (hi : i ≤ nodes.length) (hx : args.length ≤ 1048576) (hwd : 1 ≤ width ∧ width ≤ 16)
    (hK : K (eI (nodeE leaves nodes i ⟨1, width, args, value⟩)) []) :
    C_graph_CheckNodes_c2_4 K [.fptr false opsV, .fptr false (eInts leaves), .fptr false (eNodes nodes), .ref 0 1 0 0, .ref 1 4 0 0] [.row true T_int 1 [eI i], .row true T_api_Node 4 [eNode ⟨1, width, args, value⟩]] := by
  apply c_graph_CheckNodes_c2_4_op1
  simp (disch := omega) only [powW, List.length_map, dInts_map, capI, wrap64]
  have hodd := odd_iff (i := i) (by omega) args
  have kS : (args.length : Int) ≠ 0 → K (eI 10) [] := fun h => by
    rwa [nodeE, if_neg (by simp), if_neg (fun hh => hh hwd), if_pos (by simpa [argCount] using h)] at hK
  have kO : (args.length : Int) = 0 → (¬ ∀ a ∈ args, 0 ≤ a ∧ a < (i : Int)) → K (eI 9) [] := fun h h' => by
    rwa [nodeE, if_neg (by simp), if_neg (fun hh => hh hwd), if_neg (by simpa [argCount] using h), if_pos h'] at hK
  have kV : ∀ e, (args.length : Int) = 0 → (∀ a ∈ args, 0 ≤ a ∧ a < (i : Int)) → valueE leaves ⟨1, width, args, value⟩ = e → e ≠ 0 → K (eI e) [] := fun e h h' hv he => by
    rwa [nodeE, if_neg (by simp), if_neg (fun hh => hh hwd), if_neg (by simpa [argCount] using h), if_neg (fun hh => hh h'), hv, or0, if_neg he] at hK
  have kL : (args.length : Int) = 0 → (∀ a ∈ args, 0 ≤ a ∧ a < (i : Int)) → valueE leaves ⟨1, width, args, value⟩ = 0 → L_graph_CheckNodes_c2_0 K [.fptr false (eNodes nodes), .ref 0 4 0 0, .ref 1 5 0 0, .own 2, eInts args, eI args.length, eI 0] [.row true T_api_Node 4 [eNode ⟨1, width, args, value⟩], .row true T_graph_operation 5 [.agg [.str ⟨#[108, 101, 97, 102]⟩, eI 0, .bool true, PVal.fn 202 [], PVal.fn 201 []]], .row false T_int 1 []] := fun h h' hv => by
    rw [nodeE, if_neg (by simp), if_neg (fun hh => hh hwd), if_neg (by simpa [argCount] using h), if_neg (fun hh => hh h'), hv, or0, if_pos rfl] at hK
    exact graph_CheckNodes_c2_loop1 K nodes width value args hx (by simpa [argCount] using h) hn (fun a hm => by have := h' a hm; omega) args.length 0 (by omega) [] rfl (by simpa using hK)
  clear hK
  have v0 : (0 ≤ value ∧ value < (leaves.length : Int)) → leaves.getD value.toNat 0 = width → valueE leaves ⟨1, width, args, value⟩ = 0 := fun h h' => by unfold valueE; rw [if_neg (by simp), if_pos rfl, if_pos h, if_pos h']
  have v1 : ¬ (0 ≤ value ∧ value < (leaves.length : Int)) → valueE leaves ⟨1, width, args, value⟩ = 6 := fun h => by unfold valueE; rw [if_neg (by simp), if_pos rfl, if_neg h]
  have v2 : (0 ≤ value ∧ value < (leaves.length : Int)) → leaves.getD value.toNat 0 ≠ width → valueE leaves ⟨1, width, args, value⟩ = 25 := fun h h' => by unfold valueE; rw [if_neg (by simp), if_pos rfl, if_pos h, if_neg h']
  have hget : (0 ≤ value ∧ value < (leaves.length : Int)) → getP (leaves.map eI) value.toNat = eI (leaves.getD value.toNat 0) := fun h => getP_ints _ _ (by omega)
  by_cases hv : 0 ≤ value ∧ value < (leaves.length : Int)
  · simp only [hget hv, asI_int]
    repeat' first | exact pre_odd args i hx | exact pre_firstG [_, _, _] (by simp) | exact pre_firstG [_, _] (by simp) | refine br_d (fun _ => ?_) (fun _ => ?_) | refine br_n (fun _ => ?_) (fun _ => ?_) | refine And.intro ?_ ?_
    all_goals first
      | trivial
      | omega
      | exact kS (by omega)
      | exact kO (by omega) (hodd.1 (by omega))
      | exact kL (by omega) (Classical.not_not.1 fun h => absurd (hodd.2 h) (by omega)) (v0 hv (by assumption))
      | exact kV _ (by omega) (Classical.not_not.1 fun h => absurd (hodd.2 h) (by omega)) (v2 hv (by assumption)) (by decide)
      | (exfalso; omega)
  · repeat' first | exact pre_odd args i hx | exact pre_firstG [_, _, _] (by simp) | exact pre_firstG [_, _] (by simp) | refine br_d (fun _ => ?_) (fun _ => ?_) | refine br_n (fun _ => ?_) (fun _ => ?_) | refine And.intro ?_ ?_
    all_goals first
      | omega
      | (exfalso; omega)
      | exact kS (by omega)
      | exact kO (by omega) (hodd.1 (by omega))
      | exact kV _ (by omega) (Classical.not_not.1 fun h => absurd (hodd.2 h) (by omega)) (v1 hv) (by decide)
theorem graph_CheckNodes_c2_loop2 (K : PVal → List AObj → Prop) (nodes : List Node) (width value : Int) (args : List Int) (hx : args.length ≤ 1048576) (hc : (args.length : Int) = argCount 2) (hn : nodes.length ≤ 1048576) (ha : ∀ a ∈ args, 0 ≤ a ∧ a < (nodes.length : Int)) : ∀ k j : Nat, j + k = args.length → ∀ w : List Int, w.length = j →
    K (eI (if (2 : Int) < 2 ∨ widthsOK 2 width value (w ++ argWidths nodes (args.drop j)) = true then 0 else 25)) [] →
    L_graph_CheckNodes_c2_0 K [.fptr false (eNodes nodes), .ref 0 4 0 0, .ref 1 5 0 0, .own 2, eInts args, eI args.length, eI j] [.row true T_api_Node 4 [eNode ⟨2, width, args, value⟩], .row true T_graph_operation 5 [.agg [.str ⟨#[110, 111, 116]⟩, eI 1, .bool false, PVal.fn 203 [], PVal.fn 204 []]], .row false T_int 1 (w.map eI)] := by
  intro k
  induction k with
  | zero =>
    intro j hj w hw hK
    rw [List.drop_eq_nil_of_le (by omega), argWidths, List.map_nil, List.append_nil] at hK
    subst hw
    exact graph_CheckNodes_c2_end2 K nodes _ _ _ width value args w (by rw [← hc]; omega) (by omega) hK
  | succ k ih =>
    intro j hj w hw hK
    apply r_graph_CheckNodes_c2_0_op2
    have h1 : j < args.length := by omega
    have h2 := ha _ (mem_getD0 h1)
    refine br_pos (by omega) ?_
    simp (disch := omega) only [List.length_map, natCast_toNat, getP_nodes, getP_ints, asI_int, asL_sl, cellAt_agg, List.getD_cons_zero, List.getD_cons_succ, Int.natCast_nonneg, Int.ofNat_lt, true_and, and_true, wrap_succ, h1, h2]
    refine ⟨by omega, ?_⟩
    rw [drop_at0 h1, argWidths, List.map_cons] at hK
    have := ih (j+1) (by omega) (w ++ [(nodes.getD (args.getD j 0).toNat default).width]) (by simp [hw]) (by simpa [argWidths] using hK)
    simpa using this
theorem graph_CheckNodes_c2_cut2 (K : PVal → List AObj → Prop) (leaves : List Int) (nodes : List Node) (i : Nat) (width value : Int) (args : List Int) (hl : leaves.length ≤ 1048576) (hn : nodes.length ≤ 1048576) (hi : i ≤ nodes.length) (hx : args.length ≤ 1048576) (hwd : 1 ≤ width ∧ width ≤ 16)
    (hK : K (eI (nodeE leaves nodes i ⟨2, width, args, value⟩)) []) :
    C_graph_CheckNodes_c2_4 K [.fptr false opsV, .fptr false (eInts leaves), .fptr false (eNodes nodes), .ref 0 1 0 0, .ref 1 4 0 0] [.row true T_int 1 [eI i], .row true T_api_Node 4 [eNode ⟨2, width, args, value⟩]] := by
  apply c_graph_CheckNodes_c2_4_op2
  simp (disch := omega) only [powW, List.length_map, dInts_map, capI, wrap64]
  have hodd := odd_iff (i := i) (by omega) args
  have kS : (args.length : Int) ≠ 1 → K (eI 10) [] := fun h => by
    rwa [nodeE, if_neg (by simp), if_neg (fun hh => hh hwd), if_pos (by simpa [argCount] using h)] at hK
  have kO : (args.length : Int) = 1 → (¬ ∀ a ∈ args, 0 ≤ a ∧ a < (i : Int)) → K (eI 9) [] := fun h h' => by
    rwa [nodeE, if_neg (by simp), if_neg (fun hh => hh hwd), if_neg (by simpa [argCount] using h), if_pos h'] at hK
  have kV : ∀ e, (args.length : Int) = 1 → (∀ a ∈ args, 0 ≤ a ∧ a < (i : Int)) → valueE leaves ⟨2, width, args, value⟩ = e → e ≠ 0 → K (eI e) [] := fun e h h' hv he => by
    rwa [nodeE, if_neg (by simp), if_neg (fun hh => hh hwd), if_neg (by simpa [argCount] using h), if_neg (fun hh => hh h'), hv, or0, if_neg he] at hK
  have kL : (args.length : Int) = 1 → (∀ a ∈ args, 0 ≤ a ∧ a < (i : Int)) → valueE leaves ⟨2, width, args, value⟩ = 0 → L_graph_CheckNodes_c2_0 K [.fptr false (eNodes nodes), .ref 0 4 0 0, .ref 1 5 0 0, .own 2, eInts args, eI args.length, eI 0] [.row true T_api_Node 4 [eNode ⟨2, width, args, value⟩], .row true T_graph_operation 5 [.agg [.str ⟨#[110, 111, 116]⟩, eI 1, .bool false, PVal.fn 203 [], PVal.fn 204 []]], .row false T_int 1 []] := fun h h' hv => by
    rw [nodeE, if_neg (by simp), if_neg (fun hh => hh hwd), if_neg (by simpa [argCount] using h), if_neg (fun hh => hh h'), hv, or0, if_pos rfl] at hK
    exact graph_CheckNodes_c2_loop2 K nodes width value args hx (by simpa [argCount] using h) hn (fun a hm => by have := h' a hm; omega) args.length 0 (by omega) [] rfl (by simpa using hK)
  clear hK
  have v0 : value = 0 → valueE leaves ⟨2, width, args, value⟩ = 0 := fun h => by unfold valueE; rw [if_neg (by simp), if_neg (by simp), if_neg (by simp), if_pos h]
  have v1 : ¬ value = 0 → valueE leaves ⟨2, width, args, value⟩ = 3 := fun h => by unfold valueE; rw [if_neg (by simp), if_neg (by simp), if_neg (by simp), if_neg h]
  repeat' first | exact pre_odd args i hx | exact pre_firstG [_, _, _] (by simp) | exact pre_firstG [_, _] (by simp) | refine br_d (fun _ => ?_) (fun _ => ?_) | refine br_n (fun _ => ?_) (fun _ => ?_) | refine And.intro ?_ ?_
  all_goals first
    | omega
    | exact kS (by omega)
    | exact kO (by omega) (hodd.1 (by omega))
    | exact kL (by omega) (Classical.not_not.1 fun h => absurd (hodd.2 h) (by omega)) (by exact v0 (by omega))
    | exact kV _ (by omega) (Classical.not_not.1 fun h => absurd (hodd.2 h) (by omega)) (by exact v1 (by omega)) (by decide)
theorem graph_CheckNodes_c2_loop3 (K : PVal → List AObj → Prop) (nodes : List Node) (width value : Int) (args : List Int) (hx : args.length ≤ 1048576) (hc : (args.length : Int) = argCount 3) (hn : nodes.length ≤ 1048576) (ha : ∀ a ∈ args, 0 ≤ a ∧ a < (nodes.length : Int)) : ∀ k j : Nat, j + k = args.length → ∀ w : List Int, w.length = j →
    K (eI (if (3 : Int) < 2 ∨ widthsOK 3 width value (w ++ argWidths nodes (args.drop j)) = true then 0 else 25)) [] →
    L_graph_CheckNodes_c2_0 K [.fptr false (eNodes nodes), .ref 0 4 0 0, .ref 1 5 0 0, .own 2, eInts args, eI args.length, eI j] [.row true T_api_Node 4 [eNode ⟨3, width, args, value⟩], .row true T_graph_operation 5 [.agg [.str ⟨#[97, 110, 100]⟩, eI 2, .bool false, PVal.fn 203 [], PVal.fn 235 [PVal.fptr false (PVal.fn 207 [])]]], .row false T_int 1 (w.map eI)] := by
  intro k
  induction k with
  | zero =>
    intro j hj w hw hK
    rw [List.drop_eq_nil_of_le (by omega), argWidths, List.map_nil, List.append_nil] at hK
    subst hw
    exact graph_CheckNodes_c2_end3 K nodes _ _ _ width value args w (by rw [← hc]; omega) (by omega) hK
  | succ k ih =>
    intro j hj w hw hK
    apply r_graph_CheckNodes_c2_0_op3
    have h1 : j < args.length := by omega
    have h2 := ha _ (mem_getD0 h1)
    refine br_pos (by omega) ?_
    simp (disch := omega) only [List.length_map, natCast_toNat, getP_nodes, getP_ints, asI_int, asL_sl, cellAt_agg, List.getD_cons_zero, List.getD_cons_succ, Int.natCast_nonneg, Int.ofNat_lt, true_and, and_true, wrap_succ, h1, h2]
    refine ⟨by omega, ?_⟩
    rw [drop_at0 h1, argWidths, List.map_cons] at hK
    have := ih (j+1) (by omega) (w ++ [(nodes.getD (args.getD j 0).toNat default).width]) (by simp [hw]) (by simpa [argWidths] using hK)
    simpa using this
theorem graph_CheckNodes_c2_cut3 (K : PVal → List AObj → Prop) (leaves : List Int) (nodes : List Node) (i : Nat) (width value : Int) (args : List Int) (hl : leaves.length ≤ 1048576) (hn : nodes.length ≤ 1048576) (hi : i ≤ nodes.length) (hx : args.length ≤ 1048576) (hwd : 1 ≤ width ∧ width ≤ 16)
    (hK : K (eI (nodeE leaves nodes i ⟨3, width, args, value⟩)) []) :
    C_graph_CheckNodes_c2_4 K [.fptr false opsV, .fptr false (eInts leaves), .fptr false (eNodes nodes), .ref 0 1 0 0, .ref 1 4 0 0] [.row true T_int 1 [eI i], .row true T_api_Node 4 [eNode ⟨3, width, args, value⟩]] := by
  apply c_graph_CheckNodes_c2_4_op3
  simp (disch := omega) only [powW, List.length_map, dInts_map, capI, wrap64]
  have hodd := odd_iff (i := i) (by omega) args
  have kS : (args.length : Int) ≠ 2 → K (eI 10) [] := fun h => by
    rwa [nodeE, if_neg (by simp), if_neg (fun hh => hh hwd), if_pos (by simpa [argCount] using h)] at hK
  have kO : (args.length : Int) = 2 → (¬ ∀ a ∈ args, 0 ≤ a ∧ a < (i : Int)) → K (eI 9) [] := fun h h' => by
    rwa [nodeE, if_neg (by simp), if_neg (fun hh => hh hwd), if_neg (by simpa [argCount] using h), if_pos h'] at hK
  have kV : ∀ e, (args.length : Int) = 2 → (∀ a ∈ args, 0 ≤ a ∧ a < (i : Int)) → valueE leaves ⟨3, width, args, value⟩ = e → e ≠ 0 → K (eI e) [] := fun e h h' hv he => by
    rwa [nodeE, if_neg (by simp), if_neg (fun hh => hh hwd), if_neg (by simpa [argCount] using h), if_neg (fun hh => hh h'), hv, or0, if_neg he] at hK
  have kL : (args.length : Int) = 2 → (∀ a ∈ args, 0 ≤ a ∧ a < (i : Int)) → valueE leaves ⟨3, width, args, value⟩ = 0 → L_graph_CheckNodes_c2_0 K [.fptr false (eNodes nodes), .ref 0 4 0 0, .ref 1 5 0 0, .own 2, eInts args, eI args.length, eI 0] [.row true T_api_Node 4 [eNode ⟨3, width, args, value⟩], .row true T_graph_operation 5 [.agg [.str ⟨#[97, 110, 100]⟩, eI 2, .bool false, PVal.fn 203 [], PVal.fn 235 [PVal.fptr false (PVal.fn 207 [])]]], .row false T_int 1 []] := fun h h' hv => by
    rw [nodeE, if_neg (by simp), if_neg (fun hh => hh hwd), if_neg (by simpa [argCount] using h), if_neg (fun hh => hh h'), hv, or0, if_pos rfl] at hK
    exact graph_CheckNodes_c2_loop3 K nodes width value args hx (by simpa [argCount] using h) hn (fun a hm => by have := h' a hm; omega) args.length 0 (by omega) [] rfl (by simpa using hK)
  clear hK
  have v0 : value = 0 → valueE leaves ⟨3, width, args, value⟩ = 0 := fun h => by unfold valueE; rw [if_neg (by simp), if_neg (by simp), if_neg (by simp), if_pos h]
  have v1 : ¬ value = 0 → valueE leaves ⟨3, width, args, value⟩ = 3 := fun h => by unfold valueE; rw [if_neg (by simp), if_neg (by simp), if_neg (by simp), if_neg h]
  repeat' first | exact pre_odd args i hx | exact pre_firstG [_, _, _] (by simp) | exact pre_firstG [_, _] (by simp) | refine br_d (fun _ => ?_) (fun _ => ?_) | refine br_n (fun _ => ?_) (fun _ => ?_) | refine And.intro ?_ ?_
  all_goals first
    | omega
    | exact kS (by omega)
    | exact kO (by omega) (hodd.1 (by omega))
    | exact kL (by omega) (Classical.not_not.1 fun h => absurd (hodd.2 h) (by omega)) (by exact v0 (by omega))
    | exact kV _ (by omega) (Classical.not_not.1 fun h => absurd (hodd.2 h) (by omega)) (by exact v1 (by omega)) (by decide)
theorem graph_CheckNodes_c2_loop4 (K : PVal → List AObj → Prop) (nodes : List Node) (width value : Int) (args : List Int) (hx : args.length ≤ 1048576) (hc : (args.length : Int) = argCount 4) (hn : nodes.length ≤ 1048576) (ha : ∀ a ∈ args, 0 ≤ a ∧ a < (nodes.length : Int)) : ∀ k j : Nat, j + k = args.length → ∀ w : List Int, w.length = j →
    K (eI (if (4 : Int) < 2 ∨ widthsOK 4 width value (w ++ argWidths nodes (args.drop j)) = true then 0 else 25)) [] →
    L_graph_CheckNodes_c2_0 K [.fptr false (eNodes nodes), .ref 0 4 0 0, .ref 1 5 0 0, .own 2, eInts args, eI args.length, eI j] [.row true T_api_Node 4 [eNode ⟨4, width, args, value⟩], .row true T_graph_operation 5 [.agg [.str ⟨#[111, 114]⟩, eI 2, .bool false, PVal.fn 203 [], PVal.fn 235 [PVal.fptr false (PVal.fn 208 [])]]], .row false T_int 1 (w.map eI)] := by
  intro k
  induction k with
  | zero =>
    intro j hj w hw hK
    rw [List.drop_eq_nil_of_le (by omega), argWidths, List.map_nil, List.append_nil] at hK
    subst hw
    exact graph_CheckNodes_c2_end4 K nodes _ _ _ width value args w (by rw [← hc]; omega) (by omega) hK
  | succ k ih =>
    intro j hj w hw hK
    apply r_graph_CheckNodes_c2_0_op4
    have h1 : j < args.length := by omega
    have h2 := ha _ (mem_getD0 h1)
    refine br_pos (by omega) ?_
    simp (disch := omega) only [List.length_map, natCast_toNat, getP_nodes, getP_ints, asI_int, asL_sl, cellAt_agg, List.getD_cons_zero, List.getD_cons_succ, Int.natCast_nonneg, Int.ofNat_lt, true_and, and_true, wrap_succ, h1, h2]
    refine ⟨by omega, ?_⟩
    rw [drop_at0 h1, argWidths, List.map_cons] at hK
    have := ih (j+1) (by omega) (w ++ [(nodes.getD (args.getD j 0).toNat default).width]) (by simp [hw]) (by simpa [argWidths] using hK)
    simpa using this
theorem graph_CheckNodes_c2_cut4 (K : PVal → List AObj → Prop) (leaves : List Int) (nodes : List Node) (i : Nat) (width value : Int) (args : List Int) (hl : leaves.length ≤ 1048576) (hn : nodes.length ≤ 1048576) (hi : i ≤ nodes.length) (hx : args.length ≤ 1048576) (hwd : 1 ≤ width ∧ width ≤ 16)
    (hK : K (eI (nodeE leaves nodes i ⟨4, width, args, value⟩)) []) :
    C_graph_CheckNodes_c2_4 K [.fptr false opsV, .fptr false (eInts leaves), .fptr false (eNodes nodes), .ref 0 1 0 0, .ref 1 4 0 0] [.row true T_int 1 [eI i], .row true T_api_Node 4 [eNode ⟨4, width, args, value⟩]] := by
  apply c_graph_CheckNodes_c2_4_op4
  simp (disch := omega) only [powW, List.length_map, dInts_map, capI, wrap64]
  have hodd := odd_iff (i := i) (by omega) args
  have kS : (args.length : Int) ≠ 2 → K (eI 10) [] := fun h => by
    rwa [nodeE, if_neg (by simp), if_neg (fun hh => hh hwd), if_pos (by simpa [argCount] using h)] at hK
  have kO : (args.length : Int) = 2 → (¬ ∀ a ∈ args, 0 ≤ a ∧ a < (i : Int)) → K (eI 9) [] := fun h h' => by
    rwa [nodeE, if_neg (by simp), if_neg (fun hh => hh hwd), if_neg (by simpa [argCount] using h), if_pos h'] at hK
  have kV : ∀ e, (args.length : Int) = 2 → (∀ a ∈ args, 0 ≤ a ∧ a < (i : Int)) → valueE leaves ⟨4, width, args, value⟩ = e → e ≠ 0 → K (eI e) [] := fun e h h' hv he => by
    rwa [nodeE, if_neg (by simp), if_neg (fun hh => hh hwd), if_neg (by simpa [argCount] using h), if_neg (fun hh => hh h'), hv, or0, if_neg he] at hK
  have kL : (args.length : Int) = 2 → (∀ a ∈ args, 0 ≤ a ∧ a < (i : Int)) → valueE leaves ⟨4, width, args, value⟩ = 0 → L_graph_CheckNodes_c2_0 K [.fptr false (eNodes nodes), .ref 0 4 0 0, .ref 1 5 0 0, .own 2, eInts args, eI args.length, eI 0] [.row true T_api_Node 4 [eNode ⟨4, width, args, value⟩], .row true T_graph_operation 5 [.agg [.str ⟨#[111, 114]⟩, eI 2, .bool false, PVal.fn 203 [], PVal.fn 235 [PVal.fptr false (PVal.fn 208 [])]]], .row false T_int 1 []] := fun h h' hv => by
    rw [nodeE, if_neg (by simp), if_neg (fun hh => hh hwd), if_neg (by simpa [argCount] using h), if_neg (fun hh => hh h'), hv, or0, if_pos rfl] at hK
    exact graph_CheckNodes_c2_loop4 K nodes width value args hx (by simpa [argCount] using h) hn (fun a hm => by have := h' a hm; omega) args.length 0 (by omega) [] rfl (by simpa using hK)
  clear hK
  have v0 : value = 0 → valueE leaves ⟨4, width, args, value⟩ = 0 := fun h => by unfold valueE; rw [if_neg (by simp), if_neg (by simp), if_neg (by simp), if_pos h]
  have v1 : ¬ value = 0 → valueE leaves ⟨4, width, args, value⟩ = 3 := fun h => by unfold valueE; rw [if_neg (by simp), if_neg (by simp), if_neg (by simp), if_neg h]
  repeat' first | exact pre_odd args i hx | exact pre_firstG [_, _, _] (by simp) | exact pre_firstG [_, _] (by simp) | refine br_d (fun _ => ?_) (fun _ => ?_) | refine br_n (fun _ => ?_) (fun _ => ?_) | refine And.intro ?_ ?_
  all_goals first
    | omega
    | exact kS (by omega)
    | exact kO (by omega) (hodd.1 (by omega))
    | exact kL (by omega) (Classical.not_not.1 fun h => absurd (hodd.2 h) (by omega)) (by exact v0 (by omega))
    | exact kV _ (by omega) (Classical.not_not.1 fun h => absurd (hodd.2 h) (by omega)) (by exact v1 (by omega)) (by decide)
theorem graph_CheckNodes_c2_loop5 (K : PVal → List AObj → Prop) (nodes : List Node) (width value : Int) (args : List Int) (hx : args.length ≤ 1048576) (hc : (args.length : Int) = argCount 5) (hn : nodes.length ≤ 1048576) (ha : ∀ a ∈ args, 0 ≤ a ∧ a < (nodes.length : Int)) : ∀ k j : Nat, j + k = args.length → ∀ w : List Int, w.length = j →
    K (eI (if (5 : Int) < 2 ∨ widthsOK 5 width value (w ++ argWidths nodes (args.drop j)) = true then 0 else 25)) [] →
    L_graph_CheckNodes_c2_0 K [.fptr false (eNodes nodes), .ref 0 4 0 0, .ref 1 5 0 0, .own 2, eInts args, eI args.length, eI j] [.row true T_api_Node 4 [eNode ⟨5, width, args, value⟩], .row true T_graph_operation 5 [.agg [.str ⟨#[120, 111, 114]⟩, eI 2, .bool false, PVal.fn 203 [], PVal.fn 235 [PVal.fptr false (PVal.fn 209 [])]]], .row false T_int 1 (w.map eI)] := by
  intro k
  induction k with
  | zero =>
    intro j hj w hw hK
    rw [List.drop_eq_nil_of_le (by omega), argWidths, List.map_nil, List.append_nil] at hK
    subst hw
    exact graph_CheckNodes_c2_end5 K nodes _ _ _ width value args w (by rw [← hc]; omega) (by omega) hK
  | succ k ih =>
    intro j hj w hw hK
    apply r_graph_CheckNodes_c2_0_op5
    have h1 : j < args.length := by omega
    have h2 := ha _ (mem_getD0 h1)
    refine br_pos (by omega) ?_
    simp (disch := omega) only [List.length_map, natCast_toNat, getP_nodes, getP_ints, asI_int, asL_sl, cellAt_agg, List.getD_cons_zero, List.getD_cons_succ, Int.natCast_nonneg, Int.ofNat_lt, true_and, and_true, wrap_succ, h1, h2]
    refine ⟨by omega, ?_⟩
    rw [drop_at0 h1, argWidths, List.map_cons] at hK
    have := ih (j+1) (by omega) (w ++ [(nodes.getD (args.getD j 0).toNat default).width]) (by simp [hw]) (by simpa [argWidths] using hK)
    simpa using this
theorem graph_CheckNodes_c2_cut5 (K : PVal → List AObj → Prop) (leaves : List Int) (nodes : List Node) (i : Nat) (width value : Int) (args : List Int) (hl : leaves.length ≤ 1048576) (hn : nodes.length ≤ 1048576) (hi : i ≤ nodes.length) (hx : args.length ≤ 1048576) (hwd : 1 ≤ width ∧ width ≤ 16)
    (hK : K (eI (nodeE leaves nodes i ⟨5, width, args, value⟩)) []) :
    C_graph_CheckNodes_c2_4 K [.fptr false opsV, .fptr false (eInts leaves), .fptr false (eNodes nodes), .ref 0 1 0 0, .ref 1 4 0 0] [.row true T_int 1 [eI i], .row true T_api_Node 4 [eNode ⟨5, width, args, value⟩]] := by
  apply c_graph_CheckNodes_c2_4_op5
  simp (disch := omega) only [powW, List.length_map, dInts_map, capI, wrap64]
  have hodd := odd_iff (i := i) (by omega) args
  have kS : (args.length : Int) ≠ 2 → K (eI 10) [] := fun h => by
    rwa [nodeE, if_neg (by simp), if_neg (fun hh => hh hwd), if_pos (by simpa [argCount] using h)] at hK
  have kO : (args.length : Int) = 2 → (¬ ∀ a ∈ args, 0 ≤ a ∧ a < (i : Int)) → K (eI 9) [] := fun h h' => by
    rwa [nodeE, if_neg (by simp), if_neg (fun hh => hh hwd), if_neg (by simpa [argCount] using h), if_pos h'] at hK
  have kV : ∀ e, (args.length : Int) = 2 → (∀ a ∈ args, 0 ≤ a ∧ a < (i : Int)) → valueE leaves ⟨5, width, args, value⟩ = e → e ≠ 0 → K (eI e) [] := fun e h h' hv he => by
    rwa [nodeE, if_neg (by simp), if_neg (fun hh => hh hwd), if_neg (by simpa [argCount] using h), if_neg (fun hh => hh h'), hv, or0, if_neg he] at hK
  have kL : (args.length : Int) = 2 → (∀ a ∈ args, 0 ≤ a ∧ a < (i : Int)) → valueE leaves ⟨5, width, args, value⟩ = 0 → L_graph_CheckNodes_c2_0 K [.fptr false (eNodes nodes), .ref 0 4 0 0, .ref 1 5 0 0, .own 2, eInts args, eI args.length, eI 0] [.row true T_api_Node 4 [eNode ⟨5, width, args, value⟩], .row true T_graph_operation 5 [.agg [.str ⟨#[120, 111, 114]⟩, eI 2, .bool false, PVal.fn 203 [], PVal.fn 235 [PVal.fptr false (PVal.fn 209 [])]]], .row false T_int 1 []] := fun h h' hv => by
    rw [nodeE, if_neg (by simp), if_neg (fun hh => hh hwd), if_neg (by simpa [argCount] using h), if_neg (fun hh => hh h'), hv, or0, if_pos rfl] at hK
    exact graph_CheckNodes_c2_loop5 K nodes width value args hx (by simpa [argCount] using h) hn (fun a hm => by have := h' a hm; omega) args.length 0 (by omega) [] rfl (by simpa using hK)
  clear hK
  have v0 : value = 0 → valueE leaves ⟨5, width, args, value⟩ = 0 := fun h => by unfold valueE; rw [if_neg (by simp), if_neg (by simp), if_neg (by simp), if_pos h]
  have v1 : ¬ value = 0 → valueE leaves ⟨5, width, args, value⟩ = 3 := fun h => by unfold valueE; rw [if_neg (by simp), if_neg (by simp), if_neg (by simp), if_neg h]
  repeat' first | exact pre_odd args i hx | exact pre_firstG [_, _, _] (by simp) | exact pre_firstG [_, _] (by simp) | refine br_d (fun _ => ?_) (fun _ => ?_) | refine br_n (fun _ => ?_) (fun _ => ?_) | refine And.intro ?_ ?_
  all_goals first
    | omega
    | exact kS (by omega)
    | exact kO (by omega) (hodd.1 (by omega))
    | exact kL (by omega) (Classical.not_not.1 fun h => absurd (hodd.2 h) (by omega)) (by exact v0 (by omega))
    | exact kV _ (by omega) (Classical.not_not.1 fun h => absurd (hodd.2 h) (by omega)) (by exact v1 (by omega)) (by decide)
theorem graph_CheckNodes_c2_loop6 (K : PVal → List AObj → Prop) (nodes : List Node) (width value : Int) (args : List Int) (hx : args.length ≤ 1048576) (hc : (args.length : Int) = argCount 6) (hn : nodes.length ≤ 1048576) (ha : ∀ a ∈ args, 0 ≤ a ∧ a < (nodes.length : Int)) : ∀ k j : Nat, j + k = args.length → ∀ w : List Int, w.length = j →
    K (eI (if (6 : Int) < 2 ∨ widthsOK 6 width value (w ++ argWidths nodes (args.drop j)) = true then 0 else 25)) [] →
    L_graph_CheckNodes_c2_0 K [.fptr false (eNodes nodes), .ref 0 4 0 0, .ref 1 5 0 0, .own 2, eInts args, eI args.length, eI j] [.row true T_api_Node 4 [eNode ⟨6, width, args, value⟩], .row true T_graph_operation 5 [.agg [.str ⟨#[97, 100, 100]⟩, eI 2, .bool false, PVal.fn 203 [], PVal.fn 235 [PVal.fptr false (PVal.fn 210 [])]]], .row false T_int 1 (w.map eI)] := by
  intro k
  induction k with
  | zero =>
    intro j hj w hw hK
    rw [List.drop_eq_nil_of_le (by omega), argWidths, List.map_nil, List.append_nil] at hK
    subst hw
    exact graph_CheckNodes_c2_end6 K nodes _ _ _ width value args w (by rw [← hc]; omega) (by omega) hK
  | succ k ih =>
    intro j hj w hw hK
    apply r_graph_CheckNodes_c2_0_op6
    have h1 : j < args.length := by omega
    have h2 := ha _ (mem_getD0 h1)
    refine br_pos (by omega) ?_
    simp (disch := omega) only [List.length_map, natCast_toNat, getP_nodes, getP_ints, asI_int, asL_sl, cellAt_agg, List.getD_cons_zero, List.getD_cons_succ, Int.natCast_nonneg, Int.ofNat_lt, true_and, and_true, wrap_succ, h1, h2]
    refine ⟨by omega, ?_⟩
    rw [drop_at0 h1, argWidths, List.map_cons] at hK
    have := ih (j+1) (by omega) (w ++ [(nodes.getD (args.getD j 0).toNat default).width]) (by simp [hw]) (by simpa [argWidths] using hK)
    simpa using this
theorem graph_CheckNodes_c2_cut6 (K : PVal → List AObj → Prop) (leaves : List Int) (nodes : List Node) (i : Nat) (width value : Int) (args : List Int) (hl : leaves.length ≤ 1048576) (hn : nodes.length ≤ 1048576) (hi : i ≤ nodes.length) (hx : args.length ≤ 1048576) (hwd : 1 ≤ width ∧ width ≤ 16)
    (hK : K (eI (nodeE leaves nodes i ⟨6, width, args, value⟩)) []) :
    C_graph_CheckNodes_c2_4 K [.fptr false opsV, .fptr false (eInts leaves), .fptr false (eNodes nodes), .ref 0 1 0 0, .ref 1 4 0 0] [.row true T_int 1 [eI i], .row true T_api_Node 4 [eNode ⟨6, width, args, value⟩]] := by
  apply c_graph_CheckNodes_c2_4_op6
  simp (disch := omega) only [powW, List.length_map, dInts_map, capI, wrap64]
  have hodd := odd_iff (i := i) (by omega) args
  have kS : (args.length : Int) ≠ 2 → K (eI 10) [] := fun h => by
    rwa [nodeE, if_neg (by simp), if_neg (fun hh => hh hwd), if_pos (by simpa [argCount] using h)] at hK
  have kO : (args.length : Int) = 2 → (¬ ∀ a ∈ args, 0 ≤ a ∧ a < (i : Int)) → K (eI 9) [] := fun h h' => by
    rwa [nodeE, if_neg (by simp), if_neg (fun hh => hh hwd), if_neg (by simpa [argCount] using h), if_pos h'] at hK
  have kV : ∀ e, (args.length : Int) = 2 → (∀ a ∈ args, 0 ≤ a ∧ a < (i : Int)) → valueE leaves ⟨6, width, args, value⟩ = e → e ≠ 0 → K (eI e) [] := fun e h h' hv he => by
    rwa [nodeE, if_neg (by simp), if_neg (fun hh => hh hwd), if_neg (by simpa [argCount] using h), if_neg (fun hh => hh h'), hv, or0, if_neg he] at hK
  have kL : (args.length : Int) = 2 → (∀ a ∈ args, 0 ≤ a ∧ a < (i : Int)) → valueE leaves ⟨6, width, args, value⟩ = 0 → L_graph_CheckNodes_c2_0 K [.fptr false (eNodes nodes), .ref 0 4 0 0, .ref 1 5 0 0, .own 2, eInts args, eI args.length, eI 0] [.row true T_api_Node 4 [eNode ⟨6, width, args, value⟩], .row true T_graph_operation 5 [.agg [.str ⟨#[97, 100, 100]⟩, eI 2, .bool false, PVal.fn 203 [], PVal.fn 235 [PVal.fptr false (PVal.fn 210 [])]]], .row false T_int 1 []] := fun h h' hv => by
    rw [nodeE, if_neg (by simp), if_neg (fun hh => hh hwd), if_neg (by simpa [argCount] using h), if_neg (fun hh => hh h'), hv, or0, if_pos rfl] at hK
    exact graph_CheckNodes_c2_loop6 K nodes width value args hx (by simpa [argCount] using h) hn (fun a hm => by have := h' a hm; omega) args.length 0 (by omega) [] rfl (by simpa using hK)
  clear hK
  have v0 : value = 0 → valueE leaves ⟨6, width, args, value⟩ = 0 := fun h => by unfold valueE; rw [if_neg (by simp), if_neg (by simp), if_neg (by simp), if_pos h]
  have v1 : ¬ value = 0 → valueE leaves ⟨6, width, args, value⟩ = 3 := fun h => by unfold valueE; rw [if_neg (by simp), if_neg (by simp), if_neg (by simp), if_neg h]
  repeat' first | exact pre_odd args i hx | exact pre_firstG [_, _, _] (by simp) | exact pre_firstG [_, _] (by simp) | refine br_d (fun _ => ?_) (fun _ => ?_) | refine br_n (fun _ => ?_) (fun _ => ?_) | refine And.intro ?_ ?_
  all_goals first
    | omega
    | exact kS (by omega)
    | exact kO (by omega) (hodd.1 (by omega))
    | exact kL (by omega) (Classical.not_not.1 fun h => absurd (hodd.2 h) (by omega)) (by exact v0 (by omega))
    | exact kV _ (by omega) (Classical.not_not.1 fun h => absurd (hodd.2 h) (by omega)) (by exact v1 (by omega)) (by decide)
theorem graph_CheckNodes_c2_loop7 (K : PVal → List AObj → Prop) (nodes : List Node) (width value : Int) (args : List Int) (hx : args.length ≤ 1048576) (hc : (args.length : Int) = argCount 7) (hn : nodes.length ≤ 1048576) (ha : ∀ a ∈ args, 0 ≤ a ∧ a < (nodes.length : Int)) : ∀ k j : Nat, j + k = args.length → ∀ w : List Int, w.length = j →
    K (eI (if (7 : Int) < 2 ∨ widthsOK 7 width value (w ++ argWidths nodes (args.drop j)) = true then 0 else 25)) [] →
    L_graph_CheckNodes_c2_0 K [.fptr false (eNodes nodes), .ref 0 4 0 0, .ref 1 5 0 0, .own 2, eInts args, eI args.length, eI j] [.row true T_api_Node 4 [eNode ⟨7, width, args, value⟩], .row true T_graph_operation 5 [.agg [.str ⟨#[115, 117, 98]⟩, eI 2, .bool false, PVal.fn 203 [], PVal.fn 235 [PVal.fptr false (PVal.fn 211 [])]]], .row false T_int 1 (w.map eI)] := by
  intro k
  induction k with
  | zero =>
    intro j hj w hw hK
    rw [List.drop_eq_nil_of_le (by omega), argWidths, List.map_nil, List.append_nil] at hK
    subst hw
    exact graph_CheckNodes_c2_end7 K nodes _ _ _ width value args w (by rw [← hc]; omega) (by omega) hK
  | succ k ih =>
    intro j hj w hw hK
    apply r_graph_CheckNodes_c2_0_op7
    have h1 : j < args.length := by omega
    have h2 := ha _ (mem_getD0 h1)
    refine br_pos (by omega) ?_
    simp (disch := omega) only [List.length_map, natCast_toNat, getP_nodes, getP_ints, asI_int, asL_sl, cellAt_agg, List.getD_cons_zero, List.getD_cons_succ, Int.natCast_nonneg, Int.ofNat_lt, true_and, and_true, wrap_succ, h1, h2]
    refine ⟨by omega, ?_⟩
    rw [drop_at0 h1, argWidths, List.map_cons] at hK
    have := ih (j+1) (by omega) (w ++ [(nodes.getD (args.getD j 0).toNat default).width]) (by simp [hw]) (by simpa [argWidths] using hK)
    simpa using this
theorem graph_CheckNodes_c2_cut7 (K : PVal → List AObj → Prop) (leaves : List Int) (nodes : List Node) (i : Nat) (width value : Int) (args : List Int) (hl : leaves.length ≤ 1048576) (hn : nodes.length ≤ 1048576) (hi : i ≤ nodes.length) (hx : args.length ≤ 1048576) (hwd : 1 ≤ width ∧ width ≤ 16)
    (hK : K (eI (nodeE leaves nodes i ⟨7, width, args, value⟩)) []) :
    C_graph_CheckNodes_c2_4 K [.fptr false opsV, .fptr false (eInts leaves), .fptr false (eNodes nodes), .ref 0 1 0 0, .ref 1 4 0 0] [.row true T_int 1 [eI i], .row true T_api_Node 4 [eNode ⟨7, width, args, value⟩]] := by
  apply c_graph_CheckNodes_c2_4_op7
  simp (disch := omega) only [powW, List.length_map, dInts_map, capI, wrap64]
  have hodd := odd_iff (i := i) (by omega) args
  have kS : (args.length : Int) ≠ 2 → K (eI 10) [] := fun h => by
    rwa [nodeE, if_neg (by simp), if_neg (fun hh => hh hwd), if_pos (by simpa [argCount] using h)] at hK
  have kO : (args.length : Int) = 2 → (¬ ∀ a ∈ args, 0 ≤ a ∧ a < (i : Int)) → K (eI 9) [] := fun h h' => by
    rwa [nodeE, if_neg (by simp), if_neg (fun hh => hh hwd), if_neg (by simpa [argCount] using h), if_pos h'] at hK
  have kV : ∀ e, (args.length : Int) = 2 → (∀ a ∈ args, 0 ≤ a ∧ a < (i : Int)) → valueE leaves ⟨7, width, args, value⟩ = e → e ≠ 0 → K (eI e) [] := fun e h h' hv he => by
    rwa [nodeE, if_neg (by simp), if_neg (fun hh => hh hwd), if_neg (by simpa [argCount] using h), if_neg (fun hh => hh h'), hv, or0, if_neg he] at hK
  have kL : (args.length : Int) = 2 → (∀ a ∈ args, 0 ≤ a ∧ a < (i : Int)) → valueE leaves ⟨7, width, args, value⟩ = 0 → L_graph_CheckNodes_c2_0 K [.fptr false (eNodes nodes), .ref 0 4 0 0, .ref 1 5 0 0, .own 2, eInts args, eI args.length, eI 0] [.row true T_api_Node 4 [eNode ⟨7, width, args, value⟩], .row true T_graph_operation 5 [.agg [.str ⟨#[115, 117, 98]⟩, eI 2, .bool false, PVal.fn 203 [], PVal.fn 235 [PVal.fptr false (PVal.fn 211 [])]]], .row false T_int 1 []] := fun h h' hv => by
    rw [nodeE, if_neg (by simp), if_neg (fun hh => hh hwd), if_neg (by simpa [argCount] using h), if_neg (fun hh => hh h'), hv, or0, if_pos rfl] at hK
    exact graph_CheckNodes_c2_loop7 K nodes width value args hx (by simpa [argCount] using h) hn (fun a hm => by have := h' a hm; omega) args.length 0 (by omega) [] rfl (by simpa using hK)
  clear hK
  have v0 : value = 0 → valueE leaves ⟨7, width, args, value⟩ = 0 := fun h => by unfold valueE; rw [if_neg (by simp), if_neg (by simp), if_neg (by simp), if_pos h]
  have v1 : ¬ value = 0 → valueE leaves ⟨7, width, args, value⟩ = 3 := fun h => by unfold valueE; rw [if_neg (by simp), if_neg (by simp), if_neg (by simp), if_neg h]
  repeat' first | exact pre_odd args i hx | exact pre_firstG [_, _, _] (by simp) | exact pre_firstG [_, _] (by simp) | refine br_d (fun _ => ?_) (fun _ => ?_) | refine br_n (fun _ => ?_) (fun _ => ?_) | refine And.intro ?_ ?_
  all_goals first
    | omega
    | exact kS (by omega)
    | exact kO (by omega) (hodd.1 (by omega))
    | exact kL (by omega) (Classical.not_not.1 fun h => absurd (hodd.2 h) (by omega)) (by exact v0 (by omega))
    | exact kV _ (by omega) (Classical.not_not.1 fun h => absurd (hodd.2 h) (by omega)) (by exact v1 (by omega)) (by decide)
theorem graph_CheckNodes_c2_loop8 (K : PVal → List AObj → Prop) (nodes : List Node) (width value : Int) (args : List Int) (hx : args.length ≤ 1048576) (hc : (args.length : Int) = argCount 8) (hn : nodes.length ≤ 1048576) (ha : ∀ a ∈ args, 0 ≤ a ∧ a < (nodes.length : Int)) : ∀ k j : Nat, j + k = args.length → ∀ w : List Int, w.length = j →
    K (eI (if (8 : Int) < 2 ∨ widthsOK 8 width value (w ++ argWidths nodes (args.drop j)) = true then 0 else 25)) [] →
    L_graph_CheckNodes_c2_0 K [.fptr false (eNodes nodes), .ref 0 4 0 0, .ref 1 5 0 0, .own 2, eInts args, eI args.length, eI j] [.row true T_api_Node 4 [eNode ⟨8, width, args, value⟩], .row true T_graph_operation 5 [.agg [.str ⟨#[109, 117, 108]⟩, eI 2, .bool false, PVal.fn 203 [], PVal.fn 235 [PVal.fptr false (PVal.fn 212 [])]]], .row false T_int 1 (w.map eI)] := by
  intro k
  induction k with
  | zero =>
    intro j hj w hw hK
    rw [List.drop_eq_nil_of_le (by omega), argWidths, List.map_nil, List.append_nil] at hK
    subst hw
    exact graph_CheckNodes_c2_end8 K nodes _ _ _ width value args w (by rw [← hc]; omega) (by omega) hK
  | succ k ih =>
    intro j hj w hw hK
    apply r_graph_CheckNodes_c2_0_op8
    have h1 : j < args.length := by omega
    have h2 := ha _ (mem_getD0 h1)
    refine br_pos (by omega) ?_
    simp (disch := omega) only [List.length_map, natCast_toNat, getP_nodes, getP_ints, asI_int, asL_sl, cellAt_agg, List.getD_cons_zero, List.getD_cons_succ, Int.natCast_nonneg, Int.ofNat_lt, true_and, and_true, wrap_succ, h1, h2]
    refine ⟨by omega, ?_⟩
    rw [drop_at0 h1, argWidths, List.map_cons] at hK
    have := ih (j+1) (by omega) (w ++ [(nodes.getD (args.getD j 0).toNat default).width]) (by simp [hw]) (by simpa [argWidths] using hK)
    simpa using this
theorem graph_CheckNodes_c2_cut8 (K : PVal → List AObj → Prop) (leaves : List Int) (nodes : List Node) (i : Nat) (width value : Int) (args : List Int) (hl : leaves.length ≤ 1048576) (hn : nodes.length ≤ 1048576) (hi : i ≤ nodes.length) (hx : args.length ≤ 1048576) (hwd : 1 ≤ width ∧ width ≤ 16)
    (hK : K (eI (nodeE leaves nodes i ⟨8, width, args, value⟩)) []) :
    C_graph_CheckNodes_c2_4 K [.fptr false opsV, .fptr false (eInts leaves), .fptr false (eNodes nodes), .ref 0 1 0 0, .ref 1 4 0 0] [.row true T_int 1 [eI i], .row true T_api_Node 4 [eNode ⟨8, width, args, value⟩]] := by
  apply c_graph_CheckNodes_c2_4_op8
  simp (disch := omega) only [powW, List.length_map, dInts_map, capI, wrap64]
  have hodd := odd_iff (i := i) (by omega) args
  have kS : (args.length : Int) ≠ 2 → K (eI 10) [] := fun h => by
    rwa [nodeE, if_neg (by simp), if_neg (fun hh => hh hwd), if_pos (by simpa [argCount] using h)] at hK
  have kO : (args.length : Int) = 2 → (¬ ∀ a ∈ args, 0 ≤ a ∧ a < (i : Int)) → K (eI 9) [] := fun h h' => by
    rwa [nodeE, if_neg (by simp), if_neg (fun hh => hh hwd), if_neg (by simpa [argCount] using h), if_pos h'] at hK
  have kV : ∀ e, (args.length : Int) = 2 → (∀ a ∈ args, 0 ≤ a ∧ a < (i : Int)) → valueE leaves ⟨8, width, args, value⟩ = e → e ≠ 0 → K (eI e) [] := fun e h h' hv he => by
    rwa [nodeE, if_neg (by simp), if_neg (fun hh => hh hwd), if_neg (by simpa [argCount] using h), if_neg (fun hh => hh h'), hv, or0, if_neg he] at hK
  have kL : (args.length : Int) = 2 → (∀ a ∈ args, 0 ≤ a ∧ a < (i : Int)) → valueE leaves ⟨8, width, args, value⟩ = 0 → L_graph_CheckNodes_c2_0 K [.fptr false (eNodes nodes), .ref 0 4 0 0, .ref 1 5 0 0, .own 2, eInts args, eI args.length, eI 0] [.row true T_api_Node 4 [eNode ⟨8, width, args, value⟩], .row true T_graph_operation 5 [.agg [.str ⟨#[109, 117, 108]⟩, eI 2, .bool false, PVal.fn 203 [], PVal.fn 235 [PVal.fptr false (PVal.fn 212 [])]]], .row false T_int 1 []] := fun h h' hv => by
    rw [nodeE, if_neg (by simp), if_neg (fun hh => hh hwd), if_neg (by simpa [argCount] using h), if_neg (fun hh => hh h'), hv, or0, if_pos rfl] at hK
    exact graph_CheckNodes_c2_loop8 K nodes width value args hx (by simpa [argCount] using h) hn (fun a hm => by have := h' a hm; omega) args.length 0 (by omega) [] rfl (by simpa using hK)
  clear hK
  have v0 : value = 0 → valueE leaves ⟨8, width, args, value⟩ = 0 := fun h => by unfold valueE; rw [if_neg (by simp), if_neg (by simp), if_neg (by simp), if_pos h]
  have v1 : ¬ value = 0 → valueE leaves ⟨8, width, args, value⟩ = 3 := fun h => by unfold valueE; rw [if_neg (by simp), if_neg (by simp), if_neg (by simp), if_neg h]
  repeat' first | exact pre_odd args i hx | exact pre_firstG [_, _, _] (by simp) | exact pre_firstG [_, _] (by simp) | refine br_d (fun _ => ?_) (fun _ => ?_) | refine br_n (fun _ => ?_) (fun _ => ?_) | refine And.intro ?_ ?_
  all_goals first
    | omega
    | exact kS (by omega)
    | exact kO (by omega) (hodd.1 (by omega))
    | exact kL (by omega) (Classical.not_not.1 fun h => absurd (hodd.2 h) (by omega)) (by exact v0 (by omega))
    | exact kV _ (by omega) (Classical.not_not.1 fun h => absurd (hodd.2 h) (by omega)) (by exact v1 (by omega)) (by decide)
theorem graph_CheckNodes_c2_loop9 (K : PVal → List AObj → Prop) (nodes : List Node) (width value : Int) (args : List Int) (hx : args.length ≤ 1048576) (hc : (args.length : Int) = argCount 9) (hn : nodes.length ≤ 1048576) (ha : ∀ a ∈ args, 0 ≤ a ∧ a < (nodes.length : Int)) : ∀ k j : Nat, j + k = args.length → ∀ w : List Int, w.length = j →
    K (eI (if (9 : Int) < 2 ∨ widthsOK 9 width value (w ++ argWidths nodes (args.drop j)) = true then 0 else 25)) [] →
    L_graph_CheckNodes_c2_0 K [.fptr false (eNodes nodes), .ref 0 4 0 0, .ref 1 5 0 0, .own 2, eInts args, eI args.length, eI j] [.row true T_api_Node 4 [eNode ⟨9, width, args, value⟩], .row true T_graph_operation 5 [.agg [.str ⟨#[101, 113]⟩, eI 2, .bool false, PVal.fn 236 [], PVal.fn 237 [PVal.fptr false (PVal.fn 214 [])]]], .row false T_int 1 (w.map eI)] := by
  intro k
  induction k with
  | zero =>
    intro j hj w hw hK
    rw [List.drop_eq_nil_of_le (by omega), argWidths, List.map_nil, List.append_nil] at hK
    subst hw
    exact graph_CheckNodes_c2_end9 K nodes _ _ _ width value args w (by rw [← hc]; omega) (by omega) hK
  | succ k ih =>
    intro j hj w hw hK
    apply r_graph_CheckNodes_c2_0_op9
    have h1 : j < args.length := by omega
    have h2 := ha _ (mem_getD0 h1)
    refine br_pos (by omega) ?_
    simp (disch := omega) only [List.length_map, natCast_toNat, getP_nodes, getP_ints, asI_int, asL_sl, cellAt_agg, List.getD_cons_zero, List.getD_cons_succ, Int.natCast_nonneg, Int.ofNat_lt, true_and, and_true, wrap_succ, h1, h2]
    refine ⟨by omega, ?_⟩
    rw [drop_at0 h1, argWidths, List.map_cons] at hK
    have := ih (j+1) (by omega) (w ++ [(nodes.getD (args.getD j 0).toNat default).width]) (by simp [hw]) (by simpa [argWidths] using hK)
    simpa using this
theorem graph_CheckNodes_c2_cut9 (K : PVal → List AObj → Prop) (leaves : List Int) (nodes : List Node) (i : Nat) (width value : Int) (args : List Int) (hl : leaves.length ≤ 1048576) (hn : nodes.length ≤ 1048576) (hi : i ≤ nodes.length) (hx : args.length ≤ 1048576) (hwd : 1 ≤ width ∧ width ≤ 16)
    (hK : K (eI (nodeE leaves nodes i ⟨9, width, args, value⟩)) []) :
    C_graph_CheckNodes_c2_4 K [.fptr false opsV, .fptr false (eInts leaves), .fptr false (eNodes nodes), .ref 0 1 0 0, .ref 1 4 0 0] [.row true T_int 1 [eI i], .row true T_api_Node 4 [eNode ⟨9, width, args, value⟩]] := by
  apply c_graph_CheckNodes_c2_4_op9
  simp (disch := omega) only [powW, List.length_map, dInts_map, capI, wrap64]
  have hodd := odd_iff (i := i) (by omega) args
  have kS : (args.length : Int) ≠ 2 → K (eI 10) [] := fun h => by
    rwa [nodeE, if_neg (by simp), if_neg (fun hh => hh hwd), if_pos (by simpa [argCount] using h)] at hK
  have kO : (args.length : Int) = 2 → (¬ ∀ a ∈ args, 0 ≤ a ∧ a < (i : Int)) → K (eI 9) [] := fun h h' => by
    rwa [nodeE, if_neg (by simp), if_neg (fun hh => hh hwd), if_neg (by simpa [argCount] using h), if_pos h'] at hK
  have kV : ∀ e, (args.length : Int) = 2 → (∀ a ∈ args, 0 ≤ a ∧ a < (i : Int)) → valueE leaves ⟨9, width, args, value⟩ = e → e ≠ 0 → K (eI e) [] := fun e h h' hv he => by
    rwa [nodeE, if_neg (by simp), if_neg (fun hh => hh hwd), if_neg (by simpa [argCount] using h), if_neg (fun hh => hh h'), hv, or0, if_neg he] at hK
  have kL : (args.length : Int) = 2 → (∀ a ∈ args, 0 ≤ a ∧ a < (i : Int)) → valueE leaves ⟨9, width, args, value⟩ = 0 → L_graph_CheckNodes_c2_0 K [.fptr false (eNodes nodes), .ref 0 4 0 0, .ref 1 5 0 0, .own 2, eInts args, eI args.length, eI 0] [.row true T_api_Node 4 [eNode ⟨9, width, args, value⟩], .row true T_graph_operation 5 [.agg [.str ⟨#[101, 113]⟩, eI 2, .bool false, PVal.fn 236 [], PVal.fn 237 [PVal.fptr false (PVal.fn 214 [])]]], .row false T_int 1 []] := fun h h' hv => by
    rw [nodeE, if_neg (by simp), if_neg (fun hh => hh hwd), if_neg (by simpa [argCount] using h), if_neg (fun hh => hh h'), hv, or0, if_pos rfl] at hK
    exact graph_CheckNodes_c2_loop9 K nodes width value args hx (by simpa [argCount] using h) hn (fun a hm => by have := h' a hm; omega) args.length 0 (by omega) [] rfl (by simpa using hK)
  clear hK
  have v0 : value = 0 → valueE leaves ⟨9, width, args, value⟩ = 0 := fun h => by unfold valueE; rw [if_neg (by simp), if_neg (by simp), if_neg (by simp), if_pos h]
  have v1 : ¬ value = 0 → valueE leaves ⟨9, width, args, value⟩ = 3 := fun h => by unfold valueE; rw [if_neg (by simp), if_neg (by simp), if_neg (by simp), if_neg h]
  repeat' first | exact pre_odd args i hx | exact pre_firstG [_, _, _] (by simp) | exact pre_firstG [_, _] (by simp) | refine br_d (fun _ => ?_) (fun _ => ?_) | refine br_n (fun _ => ?_) (fun _ => ?_) | refine And.intro ?_ ?_
  all_goals first
    | omega
    | exact kS (by omega)
    | exact kO (by omega) (hodd.1 (by omega))
    | exact kL (by omega) (Classical.not_not.1 fun h => absurd (hodd.2 h) (by omega)) (by exact v0 (by omega))
    | exact kV _ (by omega) (Classical.not_not.1 fun h => absurd (hodd.2 h) (by omega)) (by exact v1 (by omega)) (by decide)
theorem graph_CheckNodes_c2_loop10 (K : PVal → List AObj → Prop) (nodes : List Node) (width value : Int) (args : List Int) (hx : args.length ≤ 1048576) (hc : (args.length : Int) = argCount 10) (hn : nodes.length ≤ 1048576) (ha : ∀ a ∈ args, 0 ≤ a ∧ a < (nodes.length : Int)) : ∀ k j : Nat, j + k = args.length → ∀ w : List Int, w.length = j →
    K (eI (if (10 : Int) < 2 ∨ widthsOK 10 width value (w ++ argWidths nodes (args.drop j)) = true then 0 else 25)) [] →
    L_graph_CheckNodes_c2_0 K [.fptr false (eNodes nodes), .ref 0 4 0 0, .ref 1 5 0 0, .own 2, eInts args, eI args.length, eI j] [.row true T_api_Node 4 [eNode ⟨10, width, args, value⟩], .row true T_graph_operation 5 [.agg [.str ⟨#[108, 116]⟩, eI 2, .bool false, PVal.fn 236 [], PVal.fn 237 [PVal.fptr false (PVal.fn 215 [])]]], .row false T_int 1 (w.map eI)] := by
  intro k
  induction k with
  | zero =>
    intro j hj w hw hK
    rw [List.drop_eq_nil_of_le (by omega), argWidths, List.map_nil, List.append_nil] at hK
    subst hw
    exact graph_CheckNodes_c2_end10 K nodes _ _ _ width value args w (by rw [← hc]; omega) (by omega) hK
  | succ k ih =>
    intro j hj w hw hK
    apply r_graph_CheckNodes_c2_0_op10
    have h1 : j < args.length := by omega
    have h2 := ha _ (mem_getD0 h1)
    refine br_pos (by omega) ?_
    simp (disch := omega) only [List.length_map, natCast_toNat, getP_nodes, getP_ints, asI_int, asL_sl, cellAt_agg, List.getD_cons_zero, List.getD_cons_succ, Int.natCast_nonneg, Int.ofNat_lt, true_and, and_true, wrap_succ, h1, h2]
    refine ⟨by omega, ?_⟩
    rw [drop_at0 h1, argWidths, List.map_cons] at hK
    have := ih (j+1) (by omega) (w ++ [(nodes.getD (args.getD j 0).toNat default).width]) (by simp [hw]) (by simpa [argWidths] using hK)
    simpa using this
theorem graph_CheckNodes_c2_cut10 (K : PVal → List AObj → Prop) (leaves : List Int) (nodes : List Node) (i : Nat) (width value : Int) (args : List Int) (hl : leaves.length ≤ 1048576) (hn : nodes.length ≤ 1048576) (hi : i ≤ nodes.length) (hx : args.length ≤ 1048576) (hwd : 1 ≤ width ∧ width ≤ 16)
    (hK : K (eI (nodeE leaves nodes i ⟨10, width, args, value⟩)) []) :
    C_graph_CheckNodes_c2_4 K [.fptr false opsV, .fptr false (eInts leaves), .fptr false (eNodes nodes), .ref 0 1 0 0, .ref 1 4 0 0] [.row true T_int 1 [eI i], .row true T_api_Node 4 [eNode ⟨10, width, args, value⟩]] := by
  apply c_graph_CheckNodes_c2_4_op10
  simp (disch := omega) only [powW, List.length_map, dInts_map, capI, wrap64]
  have hodd := odd_iff (i := i) (by omega) args
  have kS : (args.length : Int) ≠ 2 → K (eI 10) [] := fun h => by
    rwa [nodeE, if_neg (by simp), if_neg (fun hh => hh hwd), if_pos (by simpa [argCount] using h)] at hK
  have kO : (args.length : Int) = 2 → (¬ ∀ a ∈ args, 0 ≤ a ∧ a < (i : Int)) → K (eI 9) [] := fun h h' => by
    rwa [nodeE, if_neg (by simp), if_neg (fun hh => hh hwd), if_neg (by simpa [argCount] using h), if_pos h'] at hK
  have kV : ∀ e, (args.length : Int) = 2 → (∀ a ∈ args, 0 ≤ a ∧ a < (i : Int)) → valueE leaves ⟨10, width, args, value⟩ = e → e ≠ 0 → K (eI e) [] := fun e h h' hv he => by
    rwa [nodeE, if_neg (by simp), if_neg (fun hh => hh hwd), if_neg (by simpa [argCount] using h), if_neg (fun hh => hh h'), hv, or0, if_neg he] at hK
  have kL : (args.length : Int) = 2 → (∀ a ∈ args, 0 ≤ a ∧ a < (i : Int)) → valueE leaves ⟨10, width, args, value⟩ = 0 → L_graph_CheckNodes_c2_0 K [.fptr false (eNodes nodes), .ref 0 4 0 0, .ref 1 5 0 0, .own 2, eInts args, eI args.length, eI 0] [.row true T_api_Node 4 [eNode ⟨10, width, args, value⟩], .row true T_graph_operation 5 [.agg [.str ⟨#[108, 116]⟩, eI 2, .bool false, PVal.fn 236 [], PVal.fn 237 [PVal.fptr false (PVal.fn 215 [])]]], .row false T_int 1 []] := fun h h' hv => by
    rw [nodeE, if_neg (by simp), if_neg (fun hh => hh hwd), if_neg (by simpa [argCount] using h), if_neg (fun hh => hh h'), hv, or0, if_pos rfl] at hK
    exact graph_CheckNodes_c2_loop10 K nodes width value args hx (by simpa [argCount] using h) hn (fun a hm => by have := h' a hm; omega) args.length 0 (by omega) [] rfl (by simpa using hK)
  clear hK
  have v0 : value = 0 → valueE leaves ⟨10, width, args, value⟩ = 0 := fun h => by unfold valueE; rw [if_neg (by simp), if_neg (by simp), if_neg (by simp), if_pos h]
  have v1 : ¬ value = 0 → valueE leaves ⟨10, width, args, value⟩ = 3 := fun h => by unfold valueE; rw [if_neg (by simp), if_neg (by simp), if_neg (by simp), if_neg h]
  repeat' first | exact pre_odd args i hx | exact pre_firstG [_, _, _] (by simp) | exact pre_firstG [_, _] (by simp) | refine br_d (fun _ => ?_) (fun _ => ?_) | refine br_n (fun _ => ?_) (fun _ => ?_) | refine And.intro ?_ ?_
  all_goals first
    | omega
    | exact kS (by omega)
    | exact kO (by omega) (hodd.1 (by omega))
    | exact kL (by omega) (Classical.not_not.1 fun h => absurd (hodd.2 h) (by omega)) (by exact v0 (by omega))
    | exact kV _ (by omega) (Classical.not_not.1 fun h => absurd (hodd.2 h) (by omega)) (by exact v1 (by omega)) (by decide)
theorem graph_CheckNodes_c2_loop11 (K : PVal → List AObj → Prop) (nodes : List Node) (width value : Int) (args : List Int) (hx : args.length ≤ 1048576) (hc : (args.length : Int) = argCount 11) (hn : nodes.length ≤ 1048576) (ha : ∀ a ∈ args, 0 ≤ a ∧ a < (nodes.length : Int)) : ∀ k j : Nat, j + k = args.length → ∀ w : List Int, w.length = j →
    K (eI (if (11 : Int) < 2 ∨ widthsOK 11 width value (w ++ argWidths nodes (args.drop j)) = true then 0 else 25)) [] →
    L_graph_CheckNodes_c2_0 K [.fptr false (eNodes nodes), .ref 0 4 0 0, .ref 1 5 0 0, .own 2, eInts args, eI args.length, eI j] [.row true T_api_Node 4 [eNode ⟨11, width, args, value⟩], .row true T_graph_operation 5 [.agg [.str ⟨#[115, 108, 116]⟩, eI 2, .bool false, PVal.fn 236 [], PVal.fn 237 [PVal.fptr false (PVal.fn 216 [])]]], .row false T_int 1 (w.map eI)] := by
  intro k
  induction k with
  | zero =>
    intro j hj w hw hK
    rw [List.drop_eq_nil_of_le (by omega), argWidths, List.map_nil, List.append_nil] at hK
    subst hw
    exact graph_CheckNodes_c2_end11 K nodes _ _ _ width value args w (by rw [← hc]; omega) (by omega) hK
  | succ k ih =>
    intro j hj w hw hK
    apply r_graph_CheckNodes_c2_0_op11
    have h1 : j < args.length := by omega
    have h2 := ha _ (mem_getD0 h1)
    refine br_pos (by omega) ?_
    simp (disch := omega) only [List.length_map, natCast_toNat, getP_nodes, getP_ints, asI_int, asL_sl, cellAt_agg, List.getD_cons_zero, List.getD_cons_succ, Int.natCast_nonneg, Int.ofNat_lt, true_and, and_true, wrap_succ, h1, h2]
    refine ⟨by omega, ?_⟩
    rw [drop_at0 h1, argWidths, List.map_cons] at hK
    have := ih (j+1) (by omega) (w ++ [(nodes.getD (args.getD j 0).toNat default).width]) (by simp [hw]) (by simpa [argWidths] using hK)
    simpa using this
theorem graph_CheckNodes_c2_cut11 (K : PVal → List AObj → Prop) (leaves : List Int) (nodes : List Node) (i : Nat) (width value : Int) (args : List Int) (hl : leaves.length ≤ 1048576) (hn : nodes.length ≤ 1048576) (hi : i ≤ nodes.length) (hx : args.length ≤ 1048576) (hwd : 1 ≤ width ∧ width ≤ 16)
    (hK : K (eI (nodeE leaves nodes i ⟨11, width, args, value⟩)) []) :
    C_graph_CheckNodes_c2_4 K [.fptr false opsV, .fptr false (eInts leaves), .fptr false (eNodes nodes), .ref 0 1 0 0, .ref 1 4 0 0] [.row true T_int 1 [eI i], .row true T_api_Node 4 [eNode ⟨11, width, args, value⟩]] := by
  apply c_graph_CheckNodes_c2_4_op11
  simp (disch := omega) only [powW, List.length_map, dInts_map, capI, wrap64]
  have hodd := odd_iff (i := i) (by omega) args
  have kS : (args.length : Int) ≠ 2 → K (eI 10) [] := fun h => by
    rwa [nodeE, if_neg (by simp), if_neg (fun hh => hh hwd), if_pos (by simpa [argCount] using h)] at hK
  have kO : (args.length : Int) = 2 → (¬ ∀ a ∈ args, 0 ≤ a ∧ a < (i : Int)) → K (eI 9) [] := fun h h' => by
    rwa [nodeE, if_neg (by simp), if_neg (fun hh => hh hwd), if_neg (by simpa [argCount] using h), if_pos h'] at hK
  have kV : ∀ e, (args.length : Int) = 2 → (∀ a ∈ args, 0 ≤ a ∧ a < (i : Int)) → valueE leaves ⟨11, width, args, value⟩ = e → e ≠ 0 → K (eI e) [] := fun e h h' hv he => by
    rwa [nodeE, if_neg (by simp), if_neg (fun hh => hh hwd), if_neg (by simpa [argCount] using h), if_neg (fun hh => hh h'), hv, or0, if_neg he] at hK
  have kL : (args.length : Int) = 2 → (∀ a ∈ args, 0 ≤ a ∧ a < (i : Int)) → valueE leaves ⟨11, width, args, value⟩ = 0 → L_graph_CheckNodes_c2_0 K [.fptr false (eNodes nodes), .ref 0 4 0 0, .ref 1 5 0 0, .own 2, eInts args, eI args.length, eI 0] [.row true T_api_Node 4 [eNode ⟨11, width, args, value⟩], .row true T_graph_operation 5 [.agg [.str ⟨#[115, 108, 116]⟩, eI 2, .bool false, PVal.fn 236 [], PVal.fn 237 [PVal.fptr false (PVal.fn 216 [])]]], .row false T_int 1 []] := fun h h' hv => by
    rw [nodeE, if_neg (by simp), if_neg (fun hh => hh hwd), if_neg (by simpa [argCount] using h), if_neg (fun hh => hh h'), hv, or0, if_pos rfl] at hK
    exact graph_CheckNodes_c2_loop11 K nodes width value args hx (by simpa [argCount] using h) hn (fun a hm => by have := h' a hm; omega) args.length 0 (by omega) [] rfl (by simpa using hK)
  clear hK
  have v0 : value = 0 → valueE leaves ⟨11, width, args, value⟩ = 0 := fun h => by unfold valueE; rw [if_neg (by simp), if_neg (by simp), if_neg (by simp), if_pos h]
  have v1 : ¬ value = 0 → valueE leaves ⟨11, width, args, value⟩ = 3 := fun h => by unfold valueE; rw [if_neg (by simp), if_neg (by simp), if_neg (by simp), if_neg h]
  repeat' first | exact pre_odd args i hx | exact pre_firstG [_, _, _] (by simp) | exact pre_firstG [_, _] (by simp) | refine br_d (fun _ => ?_) (fun _ => ?_) | refine br_n (fun _ => ?_) (fun _ => ?_) | refine And.intro ?_ ?_
  all_goals first
    | omega
    | exact kS (by omega)
    | exact kO (by omega) (hodd.1 (by omega))
    | exact kL (by omega) (Classical.not_not.1 fun h => absurd (hodd.2 h) (by omega)) (by exact v0 (by omega))
    | exact kV _ (by omega) (Classical.not_not.1 fun h => absurd (hodd.2 h) (by omega)) (by exact v1 (by omega)) (by decide)
theorem graph_CheckNodes_c2_loop12 (K : PVal → List AObj → Prop) (nodes : List Node) (width value : Int) (args : List Int) (hx : args.length ≤ 1048576) (hc : (args.length : Int) = argCount 12) (hn : nodes.length ≤ 1048576) (ha : ∀ a ∈ args, 0 ≤ a ∧ a < (nodes.length : Int)) : ∀ k j : Nat, j + k = args.length → ∀ w : List Int, w.length = j →
    K (eI (if (12 : Int) < 2 ∨ widthsOK 12 width value (w ++ argWidths nodes (args.drop j)) = true then 0 else 25)) [] →
    L_graph_CheckNodes_c2_0 K [.fptr false (eNodes nodes), .ref 0 4 0 0, .ref 1 5 0 0, .own 2, eInts args, eI args.length, eI j] [.row true T_api_Node 4 [eNode ⟨12, width, args, value⟩], .row true T_graph_operation 5 [.agg [.str ⟨#[109, 117, 120]⟩, eI 3, .bool false, PVal.fn 218 [], PVal.fn 219 []]], .row false T_int 1 (w.map eI)] := by
  intro k
  induction k with
  | zero =>
    intro j hj w hw hK
    rw [List.drop_eq_nil_of_le (by omega), argWidths, List.map_nil, List.append_nil] at hK
    subst hw
    exact graph_CheckNodes_c2_end12 K nodes _ _ _ width value args w (by rw [← hc]; omega) (by omega) hK
  | succ k ih =>
    intro j hj w hw hK
    apply r_graph_CheckNodes_c2_0_op12
    have h1 : j < args.length := by omega
    have h2 := ha _ (mem_getD0 h1)
    refine br_pos (by omega) ?_
    simp (disch := omega) only [List.length_map, natCast_toNat, getP_nodes, getP_ints, asI_int, asL_sl, cellAt_agg, List.getD_cons_zero, List.getD_cons_succ, Int.natCast_nonneg, Int.ofNat_lt, true_and, and_true, wrap_succ, h1, h2]
    refine ⟨by omega, ?_⟩
    rw [drop_at0 h1, argWidths, List.map_cons] at hK
    have := ih (j+1) (by omega) (w ++ [(nodes.getD (args.getD j 0).toNat default).width]) (by simp [hw]) (by simpa [argWidths] using hK)
    simpa using this
theorem graph_CheckNodes_c2_cut12 (K : PVal → List AObj → Prop) (leaves : List Int) (nodes : List Node) (i : Nat) (width value : Int) (args : List Int) (hl : leaves.length ≤ 1048576) (hn : nodes.length ≤ 1048576) (hi : i ≤ nodes.length) (hx : args.length ≤ 1048576) (hwd : 1 ≤ width ∧ width ≤ 16)
    (hK : K (eI (nodeE leaves nodes i ⟨12, width, args, value⟩)) []) :
    C_graph_CheckNodes_c2_4 K [.fptr false opsV, .fptr false (eInts leaves), .fptr false (eNodes nodes), .ref 0 1 0 0, .ref 1 4 0 0] [.row true T_int 1 [eI i], .row true T_api_Node 4 [eNode ⟨12, width, args, value⟩]] := by
  apply c_graph_CheckNodes_c2_4_op12
  simp (disch := omega) only [powW, List.length_map, dInts_map, capI, wrap64]
  have hodd := odd_iff (i := i) (by omega) args
  have kS : (args.length : Int) ≠ 3 → K (eI 10) [] := fun h => by
    rwa [nodeE, if_neg (by simp), if_neg (fun hh => hh hwd), if_pos (by simpa [argCount] using h)] at hK
  have kO : (args.length : Int) = 3 → (¬ ∀ a ∈ args, 0 ≤ a ∧ a < (i : Int)) → K (eI 9) [] := fun h h' => by
    rwa [nodeE, if_neg (by simp), if_neg (fun hh => hh hwd), if_neg (by simpa [argCount] using h), if_pos h'] at hK
  have kV : ∀ e, (args.length : Int) = 3 → (∀ a ∈ args, 0 ≤ a ∧ a < (i : Int)) → valueE leaves ⟨12, width, args, value⟩ = e → e ≠ 0 → K (eI e) [] := fun e h h' hv he => by
    rwa [nodeE, if_neg (by simp), if_neg (fun hh => hh hwd), if_neg (by simpa [argCount] using h), if_neg (fun hh => hh h'), hv, or0, if_neg he] at hK
  have kL : (args.length : Int) = 3 → (∀ a ∈ args, 0 ≤ a ∧ a < (i : Int)) → valueE leaves ⟨12, width, args, value⟩ = 0 → L_graph_CheckNodes_c2_0 K [.fptr false (eNodes nodes), .ref 0 4 0 0, .ref 1 5 0 0, .own 2, eInts args, eI args.length, eI 0] [.row true T_api_Node 4 [eNode ⟨12, width, args, value⟩], .row true T_graph_operation 5 [.agg [.str ⟨#[109, 117, 120]⟩, eI 3, .bool false, PVal.fn 218 [], PVal.fn 219 []]], .row false T_int 1 []] := fun h h' hv => by
    rw [nodeE, if_neg (by simp), if_neg (fun hh => hh hwd), if_neg (by simpa [argCount] using h), if_neg (fun hh => hh h'), hv, or0, if_pos rfl] at hK
    exact graph_CheckNodes_c2_loop12 K nodes width value args hx (by simpa [argCount] using h) hn (fun a hm => by have := h' a hm; omega) args.length 0 (by omega) [] rfl (by simpa using hK)
  clear hK
  have v0 : value = 0 → valueE leaves ⟨12, width, args, value⟩ = 0 := fun h => by unfold valueE; rw [if_neg (by simp), if_neg (by simp), if_neg (by simp), if_pos h]
  have v1 : ¬ value = 0 → valueE leaves ⟨12, width, args, value⟩ = 3 := fun h => by unfold valueE; rw [if_neg (by simp), if_neg (by simp), if_neg (by simp), if_neg h]
  repeat' first | exact pre_odd args i hx | exact pre_firstG [_, _, _] (by simp) | exact pre_firstG [_, _] (by simp) | refine br_d (fun _ => ?_) (fun _ => ?_) | refine br_n (fun _ => ?_) (fun _ => ?_) | refine And.intro ?_ ?_
  all_goals first
    | omega
    | exact kS (by omega)
    | exact kO (by omega) (hodd.1 (by omega))
    | exact kL (by omega) (Classical.not_not.1 fun h => absurd (hodd.2 h) (by omega)) (by exact v0 (by omega))
    | exact kV _ (by omega) (Classical.not_not.1 fun h => absurd (hodd.2 h) (by omega)) (by exact v1 (by omega)) (by decide)
theorem graph_CheckNodes_c2_loop13 (K : PVal → List AObj → Prop) (nodes : List Node) (width value : Int) (args : List Int) (hx : args.length ≤ 1048576) (hc : (args.length : Int) = argCount 13) (hn : nodes.length ≤ 1048576) (ha : ∀ a ∈ args, 0 ≤ a ∧ a < (nodes.length : Int)) : ∀ k j : Nat, j + k = args.length → ∀ w : List Int, w.length = j →
    K (eI (if (13 : Int) < 2 ∨ widthsOK 13 width value (w ++ argWidths nodes (args.drop j)) = true then 0 else 25)) [] →
    L_graph_CheckNodes_c2_0 K [.fptr false (eNodes nodes), .ref 0 4 0 0, .ref 1 5 0 0, .own 2, eInts args, eI args.length, eI j] [.row true T_api_Node 4 [eNode ⟨13, width, args, value⟩], .row true T_graph_operation 5 [.agg [.str ⟨#[106, 111, 105, 110]⟩, eI 2, .bool false, PVal.fn 220 [], PVal.fn 221 []]], .row false T_int 1 (w.map eI)] := by
  intro k
  induction k with
  | zero =>
    intro j hj w hw hK
    rw [List.drop_eq_nil_of_le (by omega), argWidths, List.map_nil, List.append_nil] at hK
    subst hw
    exact graph_CheckNodes_c2_end13 K nodes _ _ _ width value args w (by rw [← hc]; omega) (by omega) hK
  | succ k ih =>
    intro j hj w hw hK
    apply r_graph_CheckNodes_c2_0_op13
    have h1 : j < args.length := by omega
    have h2 := ha _ (mem_getD0 h1)
    refine br_pos (by omega) ?_
    simp (disch := omega) only [List.length_map, natCast_toNat, getP_nodes, getP_ints, asI_int, asL_sl, cellAt_agg, List.getD_cons_zero, List.getD_cons_succ, Int.natCast_nonneg, Int.ofNat_lt, true_and, and_true, wrap_succ, h1, h2]
    refine ⟨by omega, ?_⟩
    rw [drop_at0 h1, argWidths, List.map_cons] at hK
    have := ih (j+1) (by omega) (w ++ [(nodes.getD (args.getD j 0).toNat default).width]) (by simp [hw]) (by simpa [argWidths] using hK)
    simpa using this
theorem graph_CheckNodes_c2_cut13 (K : PVal → List AObj → Prop) (leaves : List Int) (nodes : List Node) (i : Nat) (width value : Int) (args : List Int) (hl : leaves.length ≤ 1048576) (hn : nodes.length ≤ 1048576) (hi : i ≤ nodes.length) (hx : args.length ≤ 1048576) (hwd : 1 ≤ width ∧ width ≤ 16)
    (hK : K (eI (nodeE leaves nodes i ⟨13, width, args, value⟩)) []) :
    C_graph_CheckNodes_c2_4 K [.fptr false opsV, .fptr false (eInts leaves), .fptr false (eNodes nodes), .ref 0 1 0 0, .ref 1 4 0 0] [.row true T_int 1 [eI i], .row true T_api_Node 4 [eNode ⟨13, width, args, value⟩]] := by
  apply c_graph_CheckNodes_c2_4_op13
  simp (disch := omega) only [powW, List.length_map, dInts_map, capI, wrap64]
  have hodd := odd_iff (i := i) (by omega) args
  have kS : (args.length : Int) ≠ 2 → K (eI 10) [] := fun h => by
    rwa [nodeE, if_neg (by simp), if_neg (fun hh => hh hwd), if_pos (by simpa [argCount] using h)] at hK
  have kO : (args.length : Int) = 2 → (¬ ∀ a ∈ args, 0 ≤ a ∧ a < (i : Int)) → K (eI 9) [] := fun h h' => by
    rwa [nodeE, if_neg (by simp), if_neg (fun hh => hh hwd), if_neg (by simpa [argCount] using h), if_pos h'] at hK
  have kV : ∀ e, (args.length : Int) = 2 → (∀ a ∈ args, 0 ≤ a ∧ a < (i : Int)) → valueE leaves ⟨13, width, args, value⟩ = e → e ≠ 0 → K (eI e) [] := fun e h h' hv he => by
    rwa [nodeE, if_neg (by simp), if_neg (fun hh => hh hwd), if_neg (by simpa [argCount] using h), if_neg (fun hh => hh h'), hv, or0, if_neg he] at hK
  have kL : (args.length : Int) = 2 → (∀ a ∈ args, 0 ≤ a ∧ a < (i : Int)) → valueE leaves ⟨13, width, args, value⟩ = 0 → L_graph_CheckNodes_c2_0 K [.fptr false (eNodes nodes), .ref 0 4 0 0, .ref 1 5 0 0, .own 2, eInts args, eI args.length, eI 0] [.row true T_api_Node 4 [eNode ⟨13, width, args, value⟩], .row true T_graph_operation 5 [.agg [.str ⟨#[106, 111, 105, 110]⟩, eI 2, .bool false, PVal.fn 220 [], PVal.fn 221 []]], .row false T_int 1 []] := fun h h' hv => by
    rw [nodeE, if_neg (by simp), if_neg (fun hh => hh hwd), if_neg (by simpa [argCount] using h), if_neg (fun hh => hh h'), hv, or0, if_pos rfl] at hK
    exact graph_CheckNodes_c2_loop13 K nodes width value args hx (by simpa [argCount] using h) hn (fun a hm => by have := h' a hm; omega) args.length 0 (by omega) [] rfl (by simpa using hK)
  clear hK
  have v0 : value = 0 → valueE leaves ⟨13, width, args, value⟩ = 0 := fun h => by unfold valueE; rw [if_neg (by simp), if_neg (by simp), if_neg (by simp), if_pos h]
  have v1 : ¬ value = 0 → valueE leaves ⟨13, width, args, value⟩ = 3 := fun h => by unfold valueE; rw [if_neg (by simp), if_neg (by simp), if_neg (by simp), if_neg h]
  repeat' first | exact pre_odd args i hx | exact pre_firstG [_, _, _] (by simp) | exact pre_firstG [_, _] (by simp) | refine br_d (fun _ => ?_) (fun _ => ?_) | refine br_n (fun _ => ?_) (fun _ => ?_) | refine And.intro ?_ ?_
  all_goals first
    | omega
    | exact kS (by omega)
    | exact kO (by omega) (hodd.1 (by omega))
    | exact kL (by omega) (Classical.not_not.1 fun h => absurd (hodd.2 h) (by omega)) (by exact v0 (by omega))
    | exact kV _ (by omega) (Classical.not_not.1 fun h => absurd (hodd.2 h) (by omega)) (by exact v1 (by omega)) (by decide)
theorem graph_CheckNodes_c2_loop14 (K : PVal → List AObj → Prop) (nodes : List Node) (width value : Int) (args : List Int) (hx : args.length ≤ 1048576) (hc : (args.length : Int) = argCount 14) (hn : nodes.length ≤ 1048576) (ha : ∀ a ∈ args, 0 ≤ a ∧ a < (nodes.length : Int)) : ∀ k j : Nat, j + k = args.length → ∀ w : List Int, w.length = j →
    K (eI (if (14 : Int) < 2 ∨ widthsOK 14 width value (w ++ argWidths nodes (args.drop j)) = true then 0 else 25)) [] →
    L_graph_CheckNodes_c2_0 K [.fptr false (eNodes nodes), .ref 0 4 0 0, .ref 1 5 0 0, .own 2, eInts args, eI args.length, eI j] [.row true T_api_Node 4 [eNode ⟨14, width, args, value⟩], .row true T_graph_operation 5 [.agg [.str ⟨#[115, 108, 105, 99, 101]⟩, eI 1, .bool true, PVal.fn 222 [], PVal.fn 223 []]], .row false T_int 1 (w.map eI)] := by
  intro k
  induction k with
  | zero =>
    intro j hj w hw hK
    rw [List.drop_eq_nil_of_le (by omega), argWidths, List.map_nil, List.append_nil] at hK
    subst hw
    exact graph_CheckNodes_c2_end14 K nodes _ _ _ width value args w (by rw [← hc]; omega) (by omega) hK
  | succ k ih =>
    intro j hj w hw hK
    apply r_graph_CheckNodes_c2_0_op14
    have h1 : j < args.length := by omega
    have h2 := ha _ (mem_getD0 h1)
    refine br_pos (by omega) ?_
    simp (disch := omega) only [List.length_map, natCast_toNat, getP_nodes, getP_ints, asI_int, asL_sl, cellAt_agg, List.getD_cons_zero, List.getD_cons_succ, Int.natCast_nonneg, Int.ofNat_lt, true_and, and_true, wrap_succ, h1, h2]
    refine ⟨by omega, ?_⟩
    rw [drop_at0 h1, argWidths, List.map_cons] at hK
    have := ih (j+1) (by omega) (w ++ [(nodes.getD (args.getD j 0).toNat default).width]) (by simp [hw]) (by simpa [argWidths] using hK)
    simpa using this
theorem graph_CheckNodes_c2_cut14 (K : PVal → List AObj → Prop) (leaves : List Int) (nodes : List Node) (i : Nat) (width value : Int) (args : List Int) (hl : leaves.length ≤ 1048576) (hn : nodes.length ≤ 1048576) (hi : i ≤ nodes.length) (hx : args.length ≤ 1048576) (hwd : 1 ≤ width ∧ width ≤ 16)
    (hK : K (eI (nodeE leaves nodes i ⟨14, width, args, value⟩)) []) :
    C_graph_CheckNodes_c2_4 K [.fptr false opsV, .fptr false (eInts leaves), .fptr false (eNodes nodes), .ref 0 1 0 0, .ref 1 4 0 0] [.row true T_int 1 [eI i], .row true T_api_Node 4 [eNode ⟨14, width, args, value⟩]] := by
  apply c_graph_CheckNodes_c2_4_op14
  simp (disch := omega) only [powW, List.length_map, dInts_map, capI, wrap64]
  have hodd := odd_iff (i := i) (by omega) args
  have kS : (args.length : Int) ≠ 1 → K (eI 10) [] := fun h => by
    rwa [nodeE, if_neg (by simp), if_neg (fun hh => hh hwd), if_pos (by simpa [argCount] using h)] at hK
  have kO : (args.length : Int) = 1 → (¬ ∀ a ∈ args, 0 ≤ a ∧ a < (i : Int)) → K (eI 9) [] := fun h h' => by
    rwa [nodeE, if_neg (by simp), if_neg (fun hh => hh hwd), if_neg (by simpa [argCount] using h), if_pos h'] at hK
  have kV : ∀ e, (args.length : Int) = 1 → (∀ a ∈ args, 0 ≤ a ∧ a < (i : Int)) → valueE leaves ⟨14, width, args, value⟩ = e → e ≠ 0 → K (eI e) [] := fun e h h' hv he => by
    rwa [nodeE, if_neg (by simp), if_neg (fun hh => hh hwd), if_neg (by simpa [argCount] using h), if_neg (fun hh => hh h'), hv, or0, if_neg he] at hK
  have kL : (args.length : Int) = 1 → (∀ a ∈ args, 0 ≤ a ∧ a < (i : Int)) → valueE leaves ⟨14, width, args, value⟩ = 0 → L_graph_CheckNodes_c2_0 K [.fptr false (eNodes nodes), .ref 0 4 0 0, .ref 1 5 0 0, .own 2, eInts args, eI args.length, eI 0] [.row true T_api_Node 4 [eNode ⟨14, width, args, value⟩], .row true T_graph_operation 5 [.agg [.str ⟨#[115, 108, 105, 99, 101]⟩, eI 1, .bool true, PVal.fn 222 [], PVal.fn 223 []]], .row false T_int 1 []] := fun h h' hv => by
    rw [nodeE, if_neg (by simp), if_neg (fun hh => hh hwd), if_neg (by simpa [argCount] using h), if_neg (fun hh => hh h'), hv, or0, if_pos rfl] at hK
    exact graph_CheckNodes_c2_loop14 K nodes width value args hx (by simpa [argCount] using h) hn (fun a hm => by have := h' a hm; omega) args.length 0 (by omega) [] rfl (by simpa using hK)
  clear hK
  have v0 : (0 ≤ value ∧ value ≤ 15) → valueE leaves ⟨14, width, args, value⟩ = 0 := fun h => by unfold valueE; rw [if_neg (by simp), if_neg (by simp), if_pos rfl, if_pos h]
  have v1 : ¬ (0 ≤ value ∧ value ≤ 15) → valueE leaves ⟨14, width, args, value⟩ = 2 := fun h => by unfold valueE; rw [if_neg (by simp), if_neg (by simp), if_pos rfl, if_neg h]
  repeat' first | exact pre_odd args i hx | exact pre_firstG [_, _, _] (by simp) | exact pre_firstG [_, _] (by simp) | refine br_d (fun _ => ?_) (fun _ => ?_) | refine br_n (fun _ => ?_) (fun _ => ?_) | refine And.intro ?_ ?_
  all_goals first
    | omega
    | exact kS (by omega)
    | exact kO (by omega) (hodd.1 (by omega))
    | exact kL (by omega) (Classical.not_not.1 fun h => absurd (hodd.2 h) (by omega)) (by exact v0 (by omega))
    | exact kV _ (by omega) (Classical.not_not.1 fun h => absurd (hodd.2 h) (by omega)) (by exact v1 (by omega)) (by decide)
theorem graph_CheckNodes_c2_loop15 (K : PVal → List AObj → Prop) (nodes : List Node) (width value : Int) (args : List Int) (hx : args.length ≤ 1048576) (hc : (args.length : Int) = argCount 15) (hn : nodes.length ≤ 1048576) (ha : ∀ a ∈ args, 0 ≤ a ∧ a < (nodes.length : Int)) : ∀ k j : Nat, j + k = args.length → ∀ w : List Int, w.length = j →
    K (eI (if (15 : Int) < 2 ∨ widthsOK 15 width value (w ++ argWidths nodes (args.drop j)) = true then 0 else 25)) [] →
    L_graph_CheckNodes_c2_0 K [.fptr false (eNodes nodes), .ref 0 4 0 0, .ref 1 5 0 0, .own 2, eInts args, eI args.length, eI j] [.row true T_api_Node 4 [eNode ⟨15, width, args, value⟩], .row true T_graph_operation 5 [.agg [.str ⟨#[122, 101, 120, 116]⟩, eI 1, .bool false, PVal.fn 224 [], PVal.fn 225 []]], .row false T_int 1 (w.map eI)] := by
  intro k
  induction k with
  | zero =>
    intro j hj w hw hK
    rw [List.drop_eq_nil_of_le (by omega), argWidths, List.map_nil, List.append_nil] at hK
    subst hw
    exact graph_CheckNodes_c2_end15 K nodes _ _ _ width value args w (by rw [← hc]; omega) (by omega) hK
  | succ k ih =>
    intro j hj w hw hK
    apply r_graph_CheckNodes_c2_0_op15
    have h1 : j < args.length := by omega
    have h2 := ha _ (mem_getD0 h1)
    refine br_pos (by omega) ?_
    simp (disch := omega) only [List.length_map, natCast_toNat, getP_nodes, getP_ints, asI_int, asL_sl, cellAt_agg, List.getD_cons_zero, List.getD_cons_succ, Int.natCast_nonneg, Int.ofNat_lt, true_and, and_true, wrap_succ, h1, h2]
    refine ⟨by omega, ?_⟩
    rw [drop_at0 h1, argWidths, List.map_cons] at hK
    have := ih (j+1) (by omega) (w ++ [(nodes.getD (args.getD j 0).toNat default).width]) (by simp [hw]) (by simpa [argWidths] using hK)
    simpa using this
theorem graph_CheckNodes_c2_cut15 (K : PVal → List AObj → Prop) (leaves : List Int) (nodes : List Node) (i : Nat) (width value : Int) (args : List Int) (hl : leaves.length ≤ 1048576) (hn : nodes.length ≤ 1048576) (hi : i ≤ nodes.length) (hx : args.length ≤ 1048576) (hwd : 1 ≤ width ∧ width ≤ 16)
    (hK : K (eI (nodeE leaves nodes i ⟨15, width, args, value⟩)) []) :
    C_graph_CheckNodes_c2_4 K [.fptr false opsV, .fptr false (eInts leaves), .fptr false (eNodes nodes), .ref 0 1 0 0, .ref 1 4 0 0] [.row true T_int 1 [eI i], .row true T_api_Node 4 [eNode ⟨15, width, args, value⟩]] := by
  apply c_graph_CheckNodes_c2_4_op15
  simp (disch := omega) only [powW, List.length_map, dInts_map, capI, wrap64]
  have hodd := odd_iff (i := i) (by omega) args
  have kS : (args.length : Int) ≠ 1 → K (eI 10) [] := fun h => by
    rwa [nodeE, if_neg (by simp), if_neg (fun hh => hh hwd), if_pos (by simpa [argCount] using h)] at hK
  have kO : (args.length : Int) = 1 → (¬ ∀ a ∈ args, 0 ≤ a ∧ a < (i : Int)) → K (eI 9) [] := fun h h' => by
    rwa [nodeE, if_neg (by simp), if_neg (fun hh => hh hwd), if_neg (by simpa [argCount] using h), if_pos h'] at hK
  have kV : ∀ e, (args.length : Int) = 1 → (∀ a ∈ args, 0 ≤ a ∧ a < (i : Int)) → valueE leaves ⟨15, width, args, value⟩ = e → e ≠ 0 → K (eI e) [] := fun e h h' hv he => by
    rwa [nodeE, if_neg (by simp), if_neg (fun hh => hh hwd), if_neg (by simpa [argCount] using h), if_neg (fun hh => hh h'), hv, or0, if_neg he] at hK
  have kL : (args.length : Int) = 1 → (∀ a ∈ args, 0 ≤ a ∧ a < (i : Int)) → valueE leaves ⟨15, width, args, value⟩ = 0 → L_graph_CheckNodes_c2_0 K [.fptr false (eNodes nodes), .ref 0 4 0 0, .ref 1 5 0 0, .own 2, eInts args, eI args.length, eI 0] [.row true T_api_Node 4 [eNode ⟨15, width, args, value⟩], .row true T_graph_operation 5 [.agg [.str ⟨#[122, 101, 120, 116]⟩, eI 1, .bool false, PVal.fn 224 [], PVal.fn 225 []]], .row false T_int 1 []] := fun h h' hv => by
    rw [nodeE, if_neg (by simp), if_neg (fun hh => hh hwd), if_neg (by simpa [argCount] using h), if_neg (fun hh => hh h'), hv, or0, if_pos rfl] at hK
    exact graph_CheckNodes_c2_loop15 K nodes width value args hx (by simpa [argCount] using h) hn (fun a hm => by have := h' a hm; omega) args.length 0 (by omega) [] rfl (by simpa using hK)
  clear hK
  have v0 : value = 0 → valueE leaves ⟨15, width, args, value⟩ = 0 := fun h => by unfold valueE; rw [if_neg (by simp), if_neg (by simp), if_neg (by simp), if_pos h]
  have v1 : ¬ value = 0 → valueE leaves ⟨15, width, args, value⟩ = 3 := fun h => by unfold valueE; rw [if_neg (by simp), if_neg (by simp), if_neg (by simp), if_neg h]
  repeat' first | exact pre_odd args i hx | exact pre_firstG [_, _, _] (by simp) | exact pre_firstG [_, _] (by simp) | refine br_d (fun _ => ?_) (fun _ => ?_) | refine br_n (fun _ => ?_) (fun _ => ?_) | refine And.intro ?_ ?_
  all_goals first
    | omega
    | exact kS (by omega)
    | exact kO (by omega) (hodd.1 (by omega))
    | exact kL (by omega) (Classical.not_not.1 fun h => absurd (hodd.2 h) (by omega)) (by exact v0 (by omega))
    | exact kV _ (by omega) (Classical.not_not.1 fun h => absurd (hodd.2 h) (by omega)) (by exact v1 (by omega)) (by decide)
theorem graph_CheckNodes_c2_loop16 (K : PVal → List AObj → Prop) (nodes : List Node) (width value : Int) (args : List Int) (hx : args.length ≤ 1048576) (hc : (args.length : Int) = argCount 16) (hn : nodes.length ≤ 1048576) (ha : ∀ a ∈ args, 0 ≤ a ∧ a < (nodes.length : Int)) : ∀ k j : Nat, j + k = args.length → ∀ w : List Int, w.length = j →
    K (eI (if (16 : Int) < 2 ∨ widthsOK 16 width value (w ++ argWidths nodes (args.drop j)) = true then 0 else 25)) [] →
    L_graph_CheckNodes_c2_0 K [.fptr false (eNodes nodes), .ref 0 4 0 0, .ref 1 5 0 0, .own 2, eInts args, eI args.length, eI j] [.row true T_api_Node 4 [eNode ⟨16, width, args, value⟩], .row true T_graph_operation 5 [.agg [.str ⟨#[115, 101, 120, 116]⟩, eI 1, .bool false, PVal.fn 224 [], PVal.fn 226 []]], .row false T_int 1 (w.map eI)] := by
  intro k
  induction k with
  | zero =>
    intro j hj w hw hK
    rw [List.drop_eq_nil_of_le (by omega), argWidths, List.map_nil, List.append_nil] at hK
    subst hw
    exact graph_CheckNodes_c2_end16 K nodes _ _ _ width value args w (by rw [← hc]; omega) (by omega) hK
  | succ k ih =>
    intro j hj w hw hK
    apply r_graph_CheckNodes_c2_0_op16
    have h1 : j < args.length := by omega
    have h2 := ha _ (mem_getD0 h1)
    refine br_pos (by omega) ?_
    simp (disch := omega) only [List.length_map, natCast_toNat, getP_nodes, getP_ints, asI_int, asL_sl, cellAt_agg, List.getD_cons_zero, List.getD_cons_succ, Int.natCast_nonneg, Int.ofNat_lt, true_and, and_true, wrap_succ, h1, h2]
    refine ⟨by omega, ?_⟩
    rw [drop_at0 h1, argWidths, List.map_cons] at hK
    have := ih (j+1) (by omega) (w ++ [(nodes.getD (args.getD j 0).toNat default).width]) (by simp [hw]) (by simpa [argWidths] using hK)
    simpa using this
theorem graph_CheckNodes_c2_cut16 (K : PVal → List AObj → Prop) (leaves : List Int) (nodes : List Node) (i : Nat) (width value : Int) (args : List Int) (hl : leaves.length ≤ 1048576) (hn : nodes.length ≤ 1048576) (hi : i ≤ nodes.length) (hx : args.length ≤ 1048576) (hwd : 1 ≤ width ∧ width ≤ 16)
    (hK : K (eI (nodeE leaves nodes i ⟨16, width, args, value⟩)) []) :
    C_graph_CheckNodes_c2_4 K [.fptr false opsV, .fptr false (eInts leaves), .fptr false (eNodes nodes), .ref 0 1 0 0, .ref 1 4 0 0] [.row true T_int 1 [eI i], .row true T_api_Node 4 [eNode ⟨16, width, args, value⟩]] := by
  apply c_graph_CheckNodes_c2_4_op16
  simp (disch := omega) only [powW, List.length_map, dInts_map, capI, wrap64]
  have hodd := odd_iff (i := i) (by omega) args
  have kS : (args.length : Int) ≠ 1 → K (eI 10) [] := fun h => by
    rwa [nodeE, if_neg (by simp), if_neg (fun hh => hh hwd), if_pos (by simpa [argCount] using h)] at hK
  have kO : (args.length : Int) = 1 → (¬ ∀ a ∈ args, 0 ≤ a ∧ a < (i : Int)) → K (eI 9) [] := fun h h' => by
    rwa [nodeE, if_neg (by simp), if_neg (fun hh => hh hwd), if_neg (by simpa [argCount] using h), if_pos h'] at hK
  have kV : ∀ e, (args.length : Int) = 1 → (∀ a ∈ args, 0 ≤ a ∧ a < (i : Int)) → valueE leaves ⟨16, width, args, value⟩ = e → e ≠ 0 → K (eI e) [] := fun e h h' hv he => by
    rwa [nodeE, if_neg (by simp), if_neg (fun hh => hh hwd), if_neg (by simpa [argCount] using h), if_neg (fun hh => hh h'), hv, or0, if_neg he] at hK
  have kL : (args.length : Int) = 1 → (∀ a ∈ args, 0 ≤ a ∧ a < (i : Int)) → valueE leaves ⟨16, width, args, value⟩ = 0 → L_graph_CheckNodes_c2_0 K [.fptr false (eNodes nodes), .ref 0 4 0 0, .ref 1 5 0 0, .own 2, eInts args, eI args.length, eI 0] [.row true T_api_Node 4 [eNode ⟨16, width, args, value⟩], .row true T_graph_operation 5 [.agg [.str ⟨#[115, 101, 120, 116]⟩, eI 1, .bool false, PVal.fn 224 [], PVal.fn 226 []]], .row false T_int 1 []] := fun h h' hv => by
    rw [nodeE, if_neg (by simp), if_neg (fun hh => hh hwd), if_neg (by simpa [argCount] using h), if_neg (fun hh => hh h'), hv, or0, if_pos rfl] at hK
    exact graph_CheckNodes_c2_loop16 K nodes width value args hx (by simpa [argCount] using h) hn (fun a hm => by have := h' a hm; omega) args.length 0 (by omega) [] rfl (by simpa using hK)
  clear hK
  have v0 : value = 0 → valueE leaves ⟨16, width, args, value⟩ = 0 := fun h => by unfold valueE; rw [if_neg (by simp), if_neg (by simp), if_neg (by simp), if_pos h]
  have v1 : ¬ value = 0 → valueE leaves ⟨16, width, args, value⟩ = 3 := fun h => by unfold valueE; rw [if_neg (by simp), if_neg (by simp), if_neg (by simp), if_neg h]
  repeat' first | exact pre_odd args i hx | exact pre_firstG [_, _, _] (by simp) | exact pre_firstG [_, _] (by simp) | refine br_d (fun _ => ?_) (fun _ => ?_) | refine br_n (fun _ => ?_) (fun _ => ?_) | refine And.intro ?_ ?_
  all_goals first
    | omega
    | exact kS (by omega)
    | exact kO (by omega) (hodd.1 (by omega))
    | exact kL (by omega) (Classical.not_not.1 fun h => absurd (hodd.2 h) (by omega)) (by exact v0 (by omega))
    | exact kV _ (by omega) (Classical.not_not.1 fun h => absurd (hodd.2 h) (by omega)) (by exact v1 (by omega)) (by decide)
theorem graph_CheckNodes_c2_loop17 (K : PVal → List AObj → Prop) (nodes : List Node) (width value : Int) (args : List Int) (hx : args.length ≤ 1048576) (hc : (args.length : Int) = argCount 17) (hn : nodes.length ≤ 1048576) (ha : ∀ a ∈ args, 0 ≤ a ∧ a < (nodes.length : Int)) : ∀ k j : Nat, j + k = args.length → ∀ w : List Int, w.length = j →
    K (eI (if (17 : Int) < 2 ∨ widthsOK 17 width value (w ++ argWidths nodes (args.drop j)) = true then 0 else 25)) [] →
    L_graph_CheckNodes_c2_0 K [.fptr false (eNodes nodes), .ref 0 4 0 0, .ref 1 5 0 0, .own 2, eInts args, eI args.length, eI j] [.row true T_api_Node 4 [eNode ⟨17, width, args, value⟩], .row true T_graph_operation 5 [.agg [.str ⟨#[115, 104, 108]⟩, eI 2, .bool false, PVal.fn 227 [], PVal.fn 228 []]], .row false T_int 1 (w.map eI)] := by
  intro k
  induction k with
  | zero =>
    intro j hj w hw hK
    rw [List.drop_eq_nil_of_le (by omega), argWidths, List.map_nil, List.append_nil] at hK
    subst hw
    exact graph_CheckNodes_c2_end17 K nodes _ _ _ width value args w (by rw [← hc]; omega) (by omega) hK
  | succ k ih =>
    intro j hj w hw hK
    apply r_graph_CheckNodes_c2_0_op17
    have h1 : j < args.length := by omega
    have h2 := ha _ (mem_getD0 h1)
    refine br_pos (by omega) ?_
    simp (disch := omega) only [List.length_map, natCast_toNat, getP_nodes, getP_ints, asI_int, asL_sl, cellAt_agg, List.getD_cons_zero, List.getD_cons_succ, Int.natCast_nonneg, Int.ofNat_lt, true_and, and_true, wrap_succ, h1, h2]
    refine ⟨by omega, ?_⟩
    rw [drop_at0 h1, argWidths, List.map_cons] at hK
    have := ih (j+1) (by omega) (w ++ [(nodes.getD (args.getD j 0).toNat default).width]) (by simp [hw]) (by simpa [argWidths] using hK)
    simpa using this
theorem graph_CheckNodes_c2_cut17 (K : PVal → List AObj → Prop) (leaves : List Int) (nodes : List Node) (i : Nat) (width value : Int) (args : List Int) (hl : leaves.length ≤ 1048576) (hn : nodes.length ≤ 1048576) (hi : i ≤ nodes.length) (hx : args.length ≤ 1048576) (hwd : 1 ≤ width ∧ width ≤ 16)
    (hK : K (eI (nodeE leaves nodes i ⟨17, width, args, value⟩)) []) :
    C_graph_CheckNodes_c2_4 K [.fptr false opsV, .fptr false (eInts leaves), .fptr false (eNodes nodes), .ref 0 1 0 0, .ref 1 4 0 0] [.row true T_int 1 [eI i], .row true T_api_Node 4 [eNode ⟨17, width, args, value⟩]] := by
  apply c_graph_CheckNodes_c2_4_op17
  simp (disch := omega) only [powW, List.length_map, dInts_map, capI, wrap64]
  have hodd := odd_iff (i := i) (by omega) args
  have kS : (args.length : Int) ≠ 2 → K (eI 10) [] := fun h => by
    rwa [nodeE, if_neg (by simp), if_neg (fun hh => hh hwd), if_pos (by simpa [argCount] using h)] at hK
  have kO : (args.length : Int) = 2 → (¬ ∀ a ∈ args, 0 ≤ a ∧ a < (i : Int)) → K (eI 9) [] := fun h h' => by
    rwa [nodeE, if_neg (by simp), if_neg (fun hh => hh hwd), if_neg (by simpa [argCount] using h), if_pos h'] at hK
  have kV : ∀ e, (args.length : Int) = 2 → (∀ a ∈ args, 0 ≤ a ∧ a < (i : Int)) → valueE leaves ⟨17, width, args, value⟩ = e → e ≠ 0 → K (eI e) [] := fun e h h' hv he => by
    rwa [nodeE, if_neg (by simp), if_neg (fun hh => hh hwd), if_neg (by simpa [argCount] using h), if_neg (fun hh => hh h'), hv, or0, if_neg he] at hK
  have kL : (args.length : Int) = 2 → (∀ a ∈ args, 0 ≤ a ∧ a < (i : Int)) → valueE leaves ⟨17, width, args, value⟩ = 0 → L_graph_CheckNodes_c2_0 K [.fptr false (eNodes nodes), .ref 0 4 0 0, .ref 1 5 0 0, .own 2, eInts args, eI args.length, eI 0] [.row true T_api_Node 4 [eNode ⟨17, width, args, value⟩], .row true T_graph_operation 5 [.agg [.str ⟨#[115, 104, 108]⟩, eI 2, .bool false, PVal.fn 227 [], PVal.fn 228 []]], .row false T_int 1 []] := fun h h' hv => by
    rw [nodeE, if_neg (by simp), if_neg (fun hh => hh hwd), if_neg (by simpa [argCount] using h), if_neg (fun hh => hh h'), hv, or0, if_pos rfl] at hK
    exact graph_CheckNodes_c2_loop17 K nodes width value args hx (by simpa [argCount] using h) hn (fun a hm => by have := h' a hm; omega) args.length 0 (by omega) [] rfl (by simpa using hK)
  clear hK
  have v0 : value = 0 → valueE leaves ⟨17, width, args, value⟩ = 0 := fun h => by unfold valueE; rw [if_neg (by simp), if_neg (by simp), if_neg (by simp), if_pos h]
  have v1 : ¬ value = 0 → valueE leaves ⟨17, width, args, value⟩ = 3 := fun h => by unfold valueE; rw [if_neg (by simp), if_neg (by simp), if_neg (by simp), if_neg h]
  repeat' first | exact pre_odd args i hx | exact pre_firstG [_, _, _] (by simp) | exact pre_firstG [_, _] (by simp) | refine br_d (fun _ => ?_) (fun _ => ?_) | refine br_n (fun _ => ?_) (fun _ => ?_) | refine And.intro ?_ ?_
  all_goals first
    | omega
    | exact kS (by omega)
    | exact kO (by omega) (hodd.1 (by omega))
    | exact kL (by omega) (Classical.not_not.1 fun h => absurd (hodd.2 h) (by omega)) (by exact v0 (by omega))
    | exact kV _ (by omega) (Classical.not_not.1 fun h => absurd (hodd.2 h) (by omega)) (by exact v1 (by omega)) (by decide)
theorem graph_CheckNodes_c2_loop18 (K : PVal → List AObj → Prop) (nodes : List Node) (width value : Int) (args : List Int) (hx : args.length ≤ 1048576) (hc : (args.length : Int) = argCount 18) (hn : nodes.length ≤ 1048576) (ha : ∀ a ∈ args, 0 ≤ a ∧ a < (nodes.length : Int)) : ∀ k j : Nat, j + k = args.length → ∀ w : List Int, w.length = j →
    K (eI (if (18 : Int) < 2 ∨ widthsOK 18 width value (w ++ argWidths nodes (args.drop j)) = true then 0 else 25)) [] →
    L_graph_CheckNodes_c2_0 K [.fptr false (eNodes nodes), .ref 0 4 0 0, .ref 1 5 0 0, .own 2, eInts args, eI args.length, eI j] [.row true T_api_Node 4 [eNode ⟨18, width, args, value⟩], .row true T_graph_operation 5 [.agg [.str ⟨#[115, 104, 114]⟩, eI 2, .bool false, PVal.fn 227 [], PVal.fn 229 []]], .row false T_int 1 (w.map eI)] := by
  intro k
  induction k with
  | zero =>
    intro j hj w hw hK
    rw [List.drop_eq_nil_of_le (by omega), argWidths, List.map_nil, List.append_nil] at hK
    subst hw
    exact graph_CheckNodes_c2_end18 K nodes _ _ _ width value args w (by rw [← hc]; omega) (by omega) hK
  | succ k ih =>
    intro j hj w hw hK
    apply r_graph_CheckNodes_c2_0_op18
    have h1 : j < args.length := by omega
    have h2 := ha _ (mem_getD0 h1)
    refine br_pos (by omega) ?_
    simp (disch := omega) only [List.length_map, natCast_toNat, getP_nodes, getP_ints, asI_int, asL_sl, cellAt_agg, List.getD_cons_zero, List.getD_cons_succ, Int.natCast_nonneg, Int.ofNat_lt, true_and, and_true, wrap_succ, h1, h2]
    refine ⟨by omega, ?_⟩
    rw [drop_at0 h1, argWidths, List.map_cons] at hK
    have := ih (j+1) (by omega) (w ++ [(nodes.getD (args.getD j 0).toNat default).width]) (by simp [hw]) (by simpa [argWidths] using hK)
    simpa using this
theorem graph_CheckNodes_c2_cut18 (K : PVal → List AObj → Prop) (leaves : List Int) (nodes : List Node) (i : Nat) (width value : Int) (args : List Int) (hl : leaves.length ≤ 1048576) (hn : nodes.length ≤ 1048576) (hi : i ≤ nodes.length) (hx : args.length ≤ 1048576) (hwd : 1 ≤ width ∧ width ≤ 16)
    (hK : K (eI (nodeE leaves nodes i ⟨18, width, args, value⟩)) []) :
    C_graph_CheckNodes_c2_4 K [.fptr false opsV, .fptr false (eInts leaves), .fptr false (eNodes nodes), .ref 0 1 0 0, .ref 1 4 0 0] [.row true T_int 1 [eI i], .row true T_api_Node 4 [eNode ⟨18, width, args, value⟩]] := by
  apply c_graph_CheckNodes_c2_4_op18
  simp (disch := omega) only [powW, List.length_map, dInts_map, capI, wrap64]
  have hodd := odd_iff (i := i) (by omega) args
  have kS : (args.length : Int) ≠ 2 → K (eI 10) [] := fun h => by
    rwa [nodeE, if_neg (by simp), if_neg (fun hh => hh hwd), if_pos (by simpa [argCount] using h)] at hK
  have kO : (args.length : Int) = 2 → (¬ ∀ a ∈ args, 0 ≤ a ∧ a < (i : Int)) → K (eI 9) [] := fun h h' => by
    rwa [nodeE, if_neg (by simp), if_neg (fun hh => hh hwd), if_neg (by simpa [argCount] using h), if_pos h'] at hK
  have kV : ∀ e, (args.length : Int) = 2 → (∀ a ∈ args, 0 ≤ a ∧ a < (i : Int)) → valueE leaves ⟨18, width, args, value⟩ = e → e ≠ 0 → K (eI e) [] := fun e h h' hv he => by
    rwa [nodeE, if_neg (by simp), if_neg (fun hh => hh hwd), if_neg (by simpa [argCount] using h), if_neg (fun hh => hh h'), hv, or0, if_neg he] at hK
  have kL : (args.length : Int) = 2 → (∀ a ∈ args, 0 ≤ a ∧ a < (i : Int)) → valueE leaves ⟨18, width, args, value⟩ = 0 → L_graph_CheckNodes_c2_0 K [.fptr false (eNodes nodes), .ref 0 4 0 0, .ref 1 5 0 0, .own 2, eInts args, eI args.length, eI 0] [.row true T_api_Node 4 [eNode ⟨18, width, args, value⟩], .row true T_graph_operation 5 [.agg [.str ⟨#[115, 104, 114]⟩, eI 2, .bool false, PVal.fn 227 [], PVal.fn 229 []]], .row false T_int 1 []] := fun h h' hv => by
    rw [nodeE, if_neg (by simp), if_neg (fun hh => hh hwd), if_neg (by simpa [argCount] using h), if_neg (fun hh => hh h'), hv, or0, if_pos rfl] at hK
    exact graph_CheckNodes_c2_loop18 K nodes width value args hx (by simpa [argCount] using h) hn (fun a hm => by have := h' a hm; omega) args.length 0 (by omega) [] rfl (by simpa using hK)
  clear hK
  have v0 : value = 0 → valueE leaves ⟨18, width, args, value⟩ = 0 := fun h => by unfold valueE; rw [if_neg (by simp), if_neg (by simp), if_neg (by simp), if_pos h]
  have v1 : ¬ value = 0 → valueE leaves ⟨18, width, args, value⟩ = 3 := fun h => by unfold valueE; rw [if_neg (by simp), if_neg (by simp), if_neg (by simp), if_neg h]
  repeat' first | exact pre_odd args i hx | exact pre_firstG [_, _, _] (by simp) | exact pre_firstG [_, _] (by simp) | refine br_d (fun _ => ?_) (fun _ => ?_) | refine br_n (fun _ => ?_) (fun _ => ?_) | refine And.intro ?_ ?_
  all_goals first
    | omega
    | exact kS (by omega)
    | exact kO (by omega) (hodd.1 (by omega))
    | exact kL (by omega) (Classical.not_not.1 fun h => absurd (hodd.2 h) (by omega)) (by exact v0 (by omega))
    | exact kV _ (by omega) (Classical.not_not.1 fun h => absurd (hodd.2 h) (by omega)) (by exact v1 (by omega)) (by decide)
theorem graph_CheckNodes_c2_ok (K : PVal → List AObj → Prop) (leaves : List Int) (nodes : List Node) (i : Nat) (x : Node) (hl : leaves.length ≤ 1048576) (hn : nodes.length ≤ 1048576) (hi : i ≤ nodes.length) (hx : x.args.length ≤ 1048576) (hK : K (eI (nodeE leaves nodes i x)) []) :
    CallP env1 F_graph_CheckNodes_c2 [eI i, eNode x, .fptr false opsV, .fptr false (eInts leaves), .fptr false (eNodes nodes)] [] K := by
  obtain ⟨op, width, args, value⟩ := x
  simp only at hx
  apply e_graph_CheckNodes_c2
  dsimp only
  have k15 : ¬ (0 ≤ op ∧ op ≤ 18) → K (eI 15) [] := fun h => by rwa [nodeE, if_pos h] at hK
  have k2 : (0 ≤ op ∧ op ≤ 18) → ¬ (1 ≤ width ∧ width ≤ 16) → K (eI 2) [] := fun h h' => by rwa [nodeE, if_neg (fun hh => hh h), if_pos h'] at hK
  have kC : (0 ≤ op ∧ op ≤ 18) → (1 ≤ width ∧ width ≤ 16) → C_graph_CheckNodes_c2_4 K [.fptr false opsV, .fptr false (eInts leaves), .fptr false (eNodes nodes), .ref 0 1 0 0, .ref 1 4 0 0] [.row true T_int 1 [eI i], .row true T_api_Node 4 [eNode ⟨op, width, args, value⟩]] := fun h hw => by
    have ho : op = 0 ∨ op = 1 ∨ op = 2 ∨ op = 3 ∨ op = 4 ∨ op = 5 ∨ op = 6 ∨ op = 7 ∨ op = 8 ∨ op = 9 ∨ op = 10 ∨ op = 11 ∨ op = 12 ∨ op = 13 ∨ op = 14 ∨ op = 15 ∨ op = 16 ∨ op = 17 ∨ op = 18 := by omega
    rcases ho with rfl | rfl | rfl | rfl | rfl | rfl | rfl | rfl | rfl | rfl | rfl | rfl | rfl | rfl | rfl | rfl | rfl | rfl | rfl
    · exact graph_CheckNodes_c2_cut0 K leaves nodes i width value args hl hn hi hx hw hK
    · exact graph_CheckNodes_c2_cut1 K leaves nodes i width value args hl hn hi hx hw hK
    · exact graph_CheckNodes_c2_cut2 K leaves nodes i width value args hl hn hi hx hw hK
    · exact graph_CheckNodes_c2_cut3 K leaves nodes i width value args hl hn hi hx hw hK
    · exact graph_CheckNodes_c2_cut4 K leaves nodes i width value args hl hn hi hx hw hK
    · exact graph_CheckNodes_c2_cut5 K leaves nodes i width value args hl hn hi hx hw hK
    · exact graph_CheckNodes_c2_cut6 K leaves nodes i width value args hl hn hi hx hw hK
    · exact graph_CheckNodes_c2_cut7 K leaves nodes i width value args hl hn hi hx hw hK
    · exact graph_CheckNodes_c2_cut8 K leaves nodes i width value args hl hn hi hx hw hK
    · exact graph_CheckNodes_c2_cut9 K leaves nodes i width value args hl hn hi hx hw hK
    · exact graph_CheckNodes_c2_cut10 K leaves nodes i width value args hl hn hi hx hw hK
    · exact graph_CheckNodes_c2_cut11 K leaves nodes i width value args hl hn hi hx hw hK
    · exact graph_CheckNodes_c2_cut12 K leaves nodes i width value args hl hn hi hx hw hK
    · exact graph_CheckNodes_c2_cut13 K leaves nodes i width value args hl hn hi hx hw hK
    · exact graph_CheckNodes_c2_cut14 K leaves nodes i width value args hl hn hi hx hw hK
    · exact graph_CheckNodes_c2_cut15 K leaves nodes i width value args hl hn hi hx hw hK
    · exact graph_CheckNodes_c2_cut16 K leaves nodes i width value args hl hn hi hx hw hK
    · exact graph_CheckNodes_c2_cut17 K leaves nodes i width value args hl hn hi hx hw hK
    · exact graph_CheckNodes_c2_cut18 K leaves nodes i width value args hl hn hi hx hw hK
  clear hK
  repeat' first | exact pre_firstG [_, _] (by simp) | refine br_d (fun _ => ?_) (fun _ => ?_) | refine br_n (fun _ => ?_) (fun _ => ?_) | refine And.intro ?_ ?_
  all_goals first
    | exact kC (by omega) (by omega)
    | exact k2 (by omega) (by omega)
    | exact k15 (by omega)
theorem base_SameNodes_loop (K : PVal → List AObj → Prop) (a b : List Node) (hl : a.length = b.length) (ha : a.length ≤ 1048576) (hx : ∀ x ∈ a, x.args.length ≤ 1048576) : ∀ n i : Nat, i + n = a.length → K (.bool (decide (a.drop i = b.drop i))) [] →
    L_base_SameNodes_0 K [eNodes a, eNodes b, eI i] [] := by
  intro n
  induction n with
  | zero =>
    intro i hi hK
    apply r_base_SameNodes_0
    refine br_neg (by simp; omega) ?_
    have e : a.drop i = b.drop i := by rw [List.drop_eq_nil_of_le (by omega), List.drop_eq_nil_of_le (by omega)]
    rwa [decide_eq_true e] at hK
  | succ n ih =>
    intro i hi hK
    apply r_base_SameNodes_0
    have hi1 : i < a.length := by omega
    have hi2 : i < b.length := by omega
    have hx1 := hx _ (mem_getD hi1)
    refine br_pos (by simp; omega) ?_
    simp (disch := omega) only [List.length_map, natCast_toNat, getP_nodes, asI_int, asS_str, asL_sl, cellAt_agg, List.getD_cons_zero, List.getD_cons_succ, Int.natCast_nonneg, Int.ofNat_lt, true_and, and_true, wrap_succ, hi1, hi2, dInts_map]
    rw [drop_at hi1, drop_at hi2] at hK
    generalize a.getD i default = x at *
    generalize b.getD i default = y at *
    have hF : x ≠ y → K (.bool false) [] := fun h => by rwa [decide_eq_false (by simp [h])] at hK
    have hT : x = y → L_base_SameNodes_0 K [eNodes a, eNodes b, eI ((i + 1 : Nat) : Int)] [] := fun h => by
      subst h
      refine ih (i+1) (by omega) ?_
      rwa [show decide (x :: a.drop (i+1) = x :: b.drop (i+1)) = decide (a.drop (i+1) = b.drop (i+1)) by simp] at hK
    refine br_n (fun h => hF fun e => h (by rw [e])) (fun h1 => br_n (fun h => hF fun e => h (by rw [e])) (fun h2 => br_n (fun h => hF fun e => h (by rw [e])) (fun h3 => ⟨?_, br_n (fun h => hF fun e => h (by rw [e])) (fun h4 => hT ?_)⟩)))
    · exact ⟨by simp only [aIs_0, aIs_1], rfl, by simpa only [aIs_0] using hx1⟩
    · cases x; cases y; simp only at h1 h2 h3 h4; subst h1 h2 h3 h4; rfl
theorem base_SameNodes_ok (K : PVal → List AObj → Prop) (a b : List Node) (ha : a.length ≤ 1048576) (hx : ∀ x ∈ a, x.args.length ≤ 1048576) (hK : K (.bool (decide (a = b))) []) : CallP env1 F_base_SameNodes [eNodes a, eNodes b] [] K := by
  apply e_base_SameNodes
  refine br_n (fun h => ?_) (fun h => ?_)
  · rwa [decide_eq_false (by rintro rfl; exact h rfl)] at hK
  · simp only [List.length_map] at h
    exact base_SameNodes_loop K a b (by omega) ha hx a.length 0 (by omega) (by simpa using hK)
end Go.Pvm.Seat
namespace Go.Pvm.Seat
open Go
theorem ok_base_PortsErr : SpecOK F_base_PortsErr sp_base_PortsErr := specOK all1 fun av os hp => by
  obtain ⟨h1, h2, h3⟩ := hp
  unfold sp_base_PortsErr
  dsimp only at h1 h2 h3 ⊢
  generalize aPs av 0 = l at *
  subst h1 h2
  exact base_PortsErr_ok _ _ h3 ⟨rfl, rfl⟩
theorem ok_base_OutputsErr : SpecOK F_base_OutputsErr sp_base_OutputsErr := specOK all1 fun av os hp => by
  obtain ⟨h1, h2, h3⟩ := hp
  unfold sp_base_OutputsErr
  dsimp only at h1 h2 h3 ⊢
  generalize aNs av 0 = m at *
  generalize aOs av 1 = l at *
  subst h1 h2
  exact base_OutputsErr_ok _ _ h3.1 _ h3.2 ⟨rfl, rfl⟩
theorem ok_base_nodeErr : SpecOK F_base_nodeErr sp_base_nodeErr := specOK all1 fun av os hp => by
  obtain ⟨h1, h2, h3⟩ := hp
  unfold sp_base_nodeErr
  dsimp only at h1 h2 h3 ⊢
  generalize aIs av 0 = l at *
  generalize aNs av 1 = m at *
  generalize aI av 2 = i at *
  subst h1 h2
  exact (by
    obtain ⟨k, rfl⟩ : ∃ k : Nat, i = k := ⟨i.toNat, by omega⟩
    rw [natCast_toNat] at *
    exact base_nodeErr_ok _ _ _ _ h3.1 h3.2.1 (by omega) h3.2.2.2 ⟨rfl, rfl⟩)
theorem ok_base_CopyNetlist : SpecOK F_base_CopyNetlist sp_base_CopyNetlist := specOK all1 fun av os hp => by
  obtain ⟨h1, h2, h3⟩ := hp
  unfold sp_base_CopyNetlist
  dsimp only at h1 h2 h3 ⊢
  generalize aN av 0 = n at *
  subst h1 h2
  exact base_CopyNetlist_ok _ _ h3 ⟨rfl, rfl⟩
theorem ok_ref26_Period : SpecOK F_ref26_Period sp_ref26_Period := specOK all1 fun av os hp => by
  obtain ⟨h1, h2, h3⟩ := hp
  unfold sp_ref26_Period
  dsimp only at h1 h2 h3 ⊢
  generalize aN av 0 = n at *
  generalize aIs av 1 = d at *
  subst h1 h2
  exact ref26_Period_ok _ _ _ h3.1 h3.2.1 h3.2.2.1 h3.2.2.2 ⟨rfl, rfl⟩
theorem ok_retime_CheckDelays : SpecOK F_retime_CheckDelays sp_retime_CheckDelays := specOK all1 fun av os hp => by
  obtain ⟨h1, h2, h3⟩ := hp
  unfold sp_retime_CheckDelays
  dsimp only at h1 h2 h3 ⊢
  generalize aIs av 0 = l at *
  subst h1 h2
  exact retime_CheckDelays_ok _ _ h3 ⟨rfl, rfl⟩
theorem ok_base_SameNodes : SpecOK F_base_SameNodes sp_base_SameNodes := specOK all1 fun av os hp => by
  obtain ⟨h1, h2, h3⟩ := hp
  unfold sp_base_SameNodes
  dsimp only at h1 h2 h3 ⊢
  generalize aNs av 0 = a at *
  generalize aNs av 1 = b at *
  subst h1 h2
  exact base_SameNodes_ok _ _ _ h3.1 h3.2 ⟨rfl, rfl⟩
theorem ok_netlist_each_api_Port : SpecOK F_netlist_each_api_Port sp_netlist_each_api_Port := specOK all1 fun av os hp => by
  obtain ⟨h1, h2, h3⟩ := hp
  unfold sp_netlist_each_api_Port
  dsimp only at h1 h2 h3 ⊢
  generalize aPs av 0 = l at *
  generalize mapL os 0 = s at *
  subst h1 h2
  exact netlist_each_api_Port_c3_ok _ _ h3.1 h3.2 _ ⟨rfl, rfl⟩
theorem ok_netlist_each_api_Output : SpecOK F_netlist_each_api_Output sp_netlist_each_api_Output := specOK all1 fun av os hp => by
  obtain ⟨h1, h2, h3⟩ := hp
  unfold sp_netlist_each_api_Output
  dsimp only at h1 h2 h3 ⊢
  generalize aOs av 0 = l at *
  generalize capNet (av.getD 1 .undef) = m at *
  generalize mapL os 0 = s at *
  subst h1 h2
  exact netlist_each_api_Output_c9_ok _ _ h3.1 _ h3.2.1 h3.2.2 _ ⟨rfl, rfl⟩
theorem ok_netlist_each_api_NetRegister : SpecOK F_netlist_each_api_NetRegister sp_netlist_each_api_NetRegister := specOK all1 fun av os hp => by
  unfold sp_netlist_each_api_NetRegister at hp ⊢
  cases hb : isFn F_netlist_CheckNetlist_c5_c1 (av.getD 1 .undef) with
  | true =>
    rw [hb] at hp
    obtain ⟨h1, h2, h3⟩ := hp
    dsimp only [cond_true] at h1 h2 h3 ⊢
    generalize aRs av 0 = l at *
    generalize mapL os 0 = s at *
    subst h1 h2
    exact netlist_each_api_NetRegister_c5_ok _ _ h3.1 h3.2 _ ⟨rfl, rfl⟩
  | false =>
    rw [hb] at hp
    obtain ⟨h1, h2, h3⟩ := hp
    dsimp only [cond_false] at h1 h2 h3 ⊢
    generalize aRs av 0 = l at *
    generalize capNet (av.getD 1 .undef) = m at *
    subst h1 h2
    exact netlist_each_api_NetRegister_c7_ok _ _ h3.1 _ h3.2 ⟨rfl, rfl⟩
theorem ok_graph_CheckNodes_c2 : SpecOK F_graph_CheckNodes_c2 sp_graph_CheckNodes_c2 := specOK all1 fun av os hp => by
  obtain ⟨h1, h2, h3⟩ := hp
  unfold sp_graph_CheckNodes_c2
  dsimp only at h1 h2 h3 ⊢
  generalize aI av 0 = i at *
  generalize aX av 1 = x at *
  generalize dInts (asL (capA av 3)) = l at *
  generalize (asL (capA av 4)).map dNode = m at *
  subst h1 h2
  obtain ⟨k, rfl⟩ : ∃ k : Nat, i = k := ⟨i.toNat, by omega⟩
  exact graph_CheckNodes_c2_ok _ _ _ _ _ h3.1 h3.2.1 (by omega) h3.2.2.2 ⟨rfl, rfl⟩
theorem all2 : AllOK specs2 := allOK_cons ok_base_PortsErr (allOK_cons ok_base_OutputsErr (allOK_cons ok_base_nodeErr (allOK_cons ok_base_CopyNetlist (allOK_cons ok_ref26_Period (allOK_cons ok_retime_CheckDelays (allOK_cons ok_base_SameNodes (allOK_cons ok_netlist_each_api_Port (allOK_cons ok_netlist_each_api_Output (allOK_cons ok_netlist_each_api_NetRegister (allOK_cons ok_graph_CheckNodes_c2 all1))))))))))
end Go.Pvm.Seat
