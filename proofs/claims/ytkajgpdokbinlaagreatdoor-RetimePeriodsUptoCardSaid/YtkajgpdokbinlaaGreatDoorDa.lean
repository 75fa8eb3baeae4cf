/- RetimePeriods (second form, tied card): the law answers true at every netlist and list of delays whose reading is of bulk at most 1048576, and the input reads as it did; no further condition. This text: part Da (R9 K0 C26 C27 O7). -/
import Derived.Test.YtkajgpdokbinlaaGreatDoorBa
import Derived.Test.YtkajgpdokbinlaaGreatDoorCf
set_option linter.unusedVariables false
set_option linter.unusedSimpArgs false
set_option linter.unnecessarySimpa false
set_option maxHeartbeats 4000000
namespace Go.Pvm.Seat
open Go
theorem e_Clone_int_t (K : PVal → List AObj → Prop) (q : Nat)
    (h : K (PVal.own (0 : Nat)) [AObj.row false (3 : Nat) (1 : Nat) []]) :
    CallP env0 84 [PVal.sl (Mode.as true) (1 : Nat) []] [] K :=
  e_of (n := 6) h (by kernel_rfl)
theorem e_Clone_int_f (K : PVal → List AObj → Prop) (xs : List PVal)
    (h : (((0 : Nat) + xs.length) * (8 : Nat) ≤ (140737488355328 : Nat) ∧ (0 : Nat) + xs.length ≤ (9223372036854775807 : Nat)) ∧ K (PVal.own (0 : Nat)) [AObj.row false (3 : Nat) (1 : Nat) xs]) :
    CallP env0 84 [PVal.sl (Mode.as false) (1 : Nat) xs] [] K :=
  e_of (n := 6) h (by kernel_rfl)
theorem e_Clone_Port_t (K : PVal → List AObj → Prop) (q : Nat)
    (h : K (PVal.own (0 : Nat)) [AObj.row false (118 : Nat) (2 : Nat) []]) :
    CallP env0 80 [PVal.sl (Mode.as true) (2 : Nat) []] [] K :=
  e_of (n := 6) h (by kernel_rfl)
theorem e_Clone_Port_f (K : PVal → List AObj → Prop) (xs : List PVal)
    (h : (((0 : Nat) + xs.length) * (24 : Nat) ≤ (140737488355328 : Nat) ∧ (0 : Nat) + xs.length ≤ (9223372036854775807 : Nat)) ∧ K (PVal.own (0 : Nat)) [AObj.row false (118 : Nat) (2 : Nat) xs]) :
    CallP env0 80 [PVal.sl (Mode.as false) (2 : Nat) xs] [] K :=
  e_of (n := 6) h (by kernel_rfl)
theorem e_Clone_Reg_t (K : PVal → List AObj → Prop) (q : Nat)
    (h : K (PVal.own (0 : Nat)) [AObj.row false (94 : Nat) (5 : Nat) []]) :
    CallP env0 81 [PVal.sl (Mode.as true) (5 : Nat) []] [] K :=
  e_of (n := 6) h (by kernel_rfl)
theorem e_Clone_Reg_f (K : PVal → List AObj → Prop) (xs : List PVal)
    (h : (((0 : Nat) + xs.length) * (48 : Nat) ≤ (140737488355328 : Nat) ∧ (0 : Nat) + xs.length ≤ (9223372036854775807 : Nat)) ∧ K (PVal.own (0 : Nat)) [AObj.row false (94 : Nat) (5 : Nat) xs]) :
    CallP env0 81 [PVal.sl (Mode.as false) (5 : Nat) xs] [] K :=
  e_of (n := 6) h (by kernel_rfl)
theorem e_Clone_Outp_t (K : PVal → List AObj → Prop) (q : Nat)
    (h : K (PVal.own (0 : Nat)) [AObj.row false (92 : Nat) (2 : Nat) []]) :
    CallP env0 82 [PVal.sl (Mode.as true) (2 : Nat) []] [] K :=
  e_of (n := 6) h (by kernel_rfl)
theorem e_Clone_Outp_f (K : PVal → List AObj → Prop) (xs : List PVal)
    (h : (((0 : Nat) + xs.length) * (24 : Nat) ≤ (140737488355328 : Nat) ∧ (0 : Nat) + xs.length ≤ (9223372036854775807 : Nat)) ∧ K (PVal.own (0 : Nat)) [AObj.row false (92 : Nat) (2 : Nat) xs]) :
    CallP env0 82 [PVal.sl (Mode.as false) (2 : Nat) xs] [] K :=
  e_of (n := 6) h (by kernel_rfl)
theorem e_Clone_Node_t (K : PVal → List AObj → Prop) (q : Nat)
    (h : K (PVal.own (0 : Nat)) [AObj.row false (59 : Nat) (4 : Nat) []]) :
    CallP env0 83 [PVal.sl (Mode.as true) (4 : Nat) []] [] K :=
  e_of (n := 6) h (by kernel_rfl)
theorem e_Clone_Node_f (K : PVal → List AObj → Prop) (xs : List PVal)
    (h : (((0 : Nat) + xs.length) * (48 : Nat) ≤ (140737488355328 : Nat) ∧ (0 : Nat) + xs.length ≤ (9223372036854775807 : Nat)) ∧ K (PVal.own (0 : Nat)) [AObj.row false (59 : Nat) (4 : Nat) xs]) :
    CallP env0 83 [PVal.sl (Mode.as false) (4 : Nat) xs] [] K :=
  e_of (n := 6) h (by kernel_rfl)
end Go.Pvm.Seat
namespace Go.Pvm.Seat
open Go
theorem as_VR {Γ : Ctx} {sz : Nat} {xs : List PVal} {v : Value} (h : VR Γ (.sl .fr sz xs) v) : (xs = [] ∧ VR Γ (.sl (.as true) sz []) v) ∨ VR Γ (.sl (.as false) sz xs) v := by
  obtain ⟨a, cap, f, rfl, g1, g2, g3, g4, g5, g6, g7, g8⟩ := sl_inv h
  cases a with
  | none =>
    have hx : xs = [] := Classical.byContradiction fun hne => by obtain ⟨ad, e, _⟩ := g6 hne; cases e
    subst hx
    exact .inl ⟨rfl, .sl (.as true) sz [] none cap (fun e => by cases e) ⟨fun e => (by cases e), fun b e => (by cases e; rfl)⟩ g3 g4 g5 (fun hne => absurd rfl hne) f g7 g8⟩
  | some ad => exact .inr (.sl (.as false) sz xs (some ad) cap (fun e => by cases e) ⟨fun e => (by cases e), fun b e => (by cases e; rfl)⟩ g3 g4 g5 (fun hne => g6 hne) f g7 g8)
def spClone (t sz by_ : Nat) : SpecF := fun av os => ⟨av = [.sl .fr sz (asL (av.getD 0 .undef))] ∧ os = [] ∧ (0 + (asL (av.getD 0 .undef)).length) * by_ ≤ 140737488355328 ∧ 0 + (asL (av.getD 0 .undef)).length ≤ 9223372036854775807, .own 0, [.row false t sz (asL (av.getD 0 .undef))]⟩
theorem clone_ok {f t sz by_ : Nat} (ht : ∀ K : PVal → List AObj → Prop, K (.own 0) [.row false t sz []] → CallP env0 f [.sl (.as true) sz []] [] K)
    (hf : ∀ (K : PVal → List AObj → Prop) (xs : List PVal), ((0 + xs.length) * by_ ≤ 140737488355328 ∧ 0 + xs.length ≤ 9223372036854775807) ∧ K (.own 0) [.row false t sz xs] → CallP env0 f [.sl (.as false) sz xs] [] K) : SpecOK f (spClone t sz by_) := by
  intro args objs hp
  obtain ⟨h1, rfl, h2, h3⟩ := hp
  revert h1 h2 h3
  show _ → _ → _ → CallOK env0 f args [] (.own 0) [.row false t sz (asL (args.getD 0 .undef))]
  generalize asL (args.getD 0 .undef) = xs
  intro h1 h2 h3
  subst h1
  intro Γ M vals hv hsr hφ hg
  have hcase : (xs = [] ∧ ListVR Γ [.sl (.as true) sz []] vals) ∨ ListVR Γ [.sl (.as false) sz xs] vals := by
    obtain ⟨hl, hv⟩ := hv
    match vals, hl with
    | [u], _ =>
      rcases as_VR (hv 0 _ u rfl rfl) with ⟨e, h⟩ | h
      · exact .inl ⟨e, rfl, fun i c w hi hw => by cases i with | zero => cases hi; cases hw; exact h | succ i => simp at hi⟩
      · exact .inr ⟨rfl, fun i c w hi hw => by cases i with | zero => cases hi; cases hw; exact h | succ i => simp at hi⟩
  rcases hcase with ⟨rfl, h⟩ | h
  · exact callOK_of (envOK allOK_nil) (wfEnv _) mixed_ok (ht _ ⟨rfl, rfl⟩) Γ M vals h hsr hφ hg
  · exact callOK_of (envOK allOK_nil) (wfEnv _) mixed_ok (hf _ xs ⟨⟨h2, h3⟩, rfl, rfl⟩) Γ M vals h hsr hφ hg
theorem clone_int_ok : SpecOK F_slices_Clone_int_int (spClone T_int 1 8) := clone_ok (fun K h => e_Clone_int_t K 0 h) (fun K xs h => e_Clone_int_f K xs h)
theorem clone_Port_ok : SpecOK F_slices_Clone_api_Port_api_Port (spClone T_api_Port 2 24) := clone_ok (fun K h => e_Clone_Port_t K 0 h) (fun K xs h => e_Clone_Port_f K xs h)
theorem clone_Reg_ok : SpecOK F_slices_Clone_api_NetRegister_api_NetRegister (spClone T_api_NetRegister 5 48) := clone_ok (fun K h => e_Clone_Reg_t K 0 h) (fun K xs h => e_Clone_Reg_f K xs h)
theorem clone_Outp_ok : SpecOK F_slices_Clone_api_Output_api_Output (spClone T_api_Output 2 24) := clone_ok (fun K h => e_Clone_Outp_t K 0 h) (fun K xs h => e_Clone_Outp_f K xs h)
theorem clone_Node_ok : SpecOK F_slices_Clone_api_Node_api_Node (spClone T_api_Node 4 48) := clone_ok (fun K h => e_Clone_Node_t K 0 h) (fun K xs h => e_Clone_Node_f K xs h)
end Go.Pvm.Seat
namespace Go.Pvm.Seat
open Go
instance (n : Net) : Decidable (Small n) := inferInstanceAs (Decidable (_ ∧ _))
def runSort : List PVal → List AObj → R (PVal × List AObj)
  | [.own 0], [.row false t 1 xs] => if t = T_int ∧ xs = (dInts xs).map eI ∧ (dInts xs).length ≤ 4194304 then .ok (.tup [], [.row false T_int 1 ((sortI (dInts xs)).map eI)]) else .no ["sort"]
  | _, _ => .no ["sort"]
def runCompact : List PVal → List AObj → R (PVal × List AObj)
  | [.own 0], [.row false t 1 xs] => if t = T_int ∧ xs = (dInts xs).map eI ∧ (dInts xs).length ≤ 4194304 then .ok (eInts (compI (dInts xs)), [.none]) else .no ["compact"]
  | _, _ => .no ["compact"]
def runNet : List PVal → List AObj → R (PVal × List AObj)
  | [x], [] => if x = eNet (dNet x) ∧ Small (dNet x) then .ok (.tup [eI (netE (dNet x)).1, eI (netE (dNet x)).2], []) else .no ["net"]
  | _, _ => .no ["net"]
def runNodes : List PVal → List AObj → R (PVal × List AObj)
  | [.sl .fr 1 a, .sl .fr 4 b], [] => if a = (dInts a).map eI ∧ b = (b.map dNode).map eNode ∧ (dInts a).length ≤ 1048576 ∧ (b.map dNode).length ≤ 1048576 ∧ (∀ x ∈ b.map dNode, x.args.length ≤ 1048576) then .ok (.tup [eI (checkNodesE (dInts a) (b.map dNode)).1, eI (checkNodesE (dInts a) (b.map dNode)).2], []) else .no ["nodes"]
  | _, _ => .no ["nodes"]
def runClone (t sz by_ : Nat) : List PVal → List AObj → R (PVal × List AObj)
  | [.sl .fr q xs], [] => if q = sz ∧ (0 + xs.length) * by_ ≤ 140737488355328 ∧ 0 + xs.length ≤ 9223372036854775807 then .ok (.own 0, [.row false t sz xs]) else .no ["clone"]
  | _, _ => .no ["clone"]
def runC (f : Nat) : Option (List PVal → List AObj → R (PVal × List AObj)) :=
  bif Nat.beq f F_slices_Sort_int_int then some runSort else bif Nat.beq f F_slices_Compact_int_int then some runCompact else bif Nat.beq f F_netlist_CheckNetlist then some runNet else bif Nat.beq f F_graph_CheckNodes then some runNodes else
  bif Nat.beq f F_slices_Clone_int_int then some (runClone T_int 1 8) else bif Nat.beq f F_slices_Clone_api_Port_api_Port then some (runClone T_api_Port 2 24) else bif Nat.beq f F_slices_Clone_api_NetRegister_api_NetRegister then some (runClone T_api_NetRegister 5 48) else
  bif Nat.beq f F_slices_Clone_api_Output_api_Output then some (runClone T_api_Output 2 24) else bif Nat.beq f F_slices_Clone_api_Node_api_Node then some (runClone T_api_Node 4 48) else none
noncomputable def envC : Env := { envOf [] with run := runC }
end Go.Pvm.Seat
namespace Go.Pvm.Seat
open Go
def okT : R (PVal × List AObj) → Bool
  | .ok (.bool true, []) => true
  | _ => false
theorem okT_eq {x : R (PVal × List AObj)} (h : okT x = true) : x = .ok (.bool true, []) := by
  unfold okT at h
  split at h
  · rfl
  · cases h
theorem awake26 : okT ((lv envC 100).call F_law26_awake [] []) = true := by kernel_rfl
end Go.Pvm.Seat
namespace Go.Pvm.Seat
open Go
theorem bif_some {α : Type} {f k : Nat} {a g : α} {r : Option α} (h : (bif Nat.beq f k then some a else r) = some g) : (f = k ∧ a = g) ∨ r = some g := by
  cases hb : Nat.beq f k with
  | true => rw [hb] at h; exact .inl ⟨Nat.eq_of_beq_eq_true hb, Option.some.inj h⟩
  | false => rw [hb] at h; exact .inr h
theorem ite_okR {α : Type} {p : Prop} [Decidable p] {a b : α} {w : List String} (h : (if p then R.ok a else R.no w) = R.ok b) : p ∧ a = b := by
  split at h
  · exact ⟨‹_›, R.ok.inj h⟩
  · cases h
theorem env_call {f : Nat} {args : List PVal} {objs : List AObj} {v : PVal} {os : List AObj} (h : CallOK env0 f args objs v os) : CallOK envC f args objs v os := h
theorem call_env {f : Nat} {args : List PVal} {objs : List AObj} {v : PVal} {os : List AObj} (h : CallOK envC f args objs v os) : CallOK env0 f args objs v os := h
theorem runSort_ok (hS : SpecOK F_slices_Sort_int_int sp_slices_Sort_int_int) {args : List PVal} {objs : List AObj} {v : PVal} {os : List AObj} (h : runSort args objs = .ok (v, os)) : CallOK env0 F_slices_Sort_int_int args objs v os := by
  unfold runSort at h
  split at h
  · rename_i t xs
    obtain ⟨⟨h1, h2, h3⟩, h4⟩ := ite_okR h
    obtain ⟨rfl, rfl⟩ := Prod.mk.inj h4
    exact hS _ _ ⟨rfl, by rw [h1]; simpa [rowL] using h2, h3⟩
  · cases h
theorem runCompact_ok (hC : SpecOK F_slices_Compact_int_int sp_slices_Compact_int_int) {args : List PVal} {objs : List AObj} {v : PVal} {os : List AObj} (h : runCompact args objs = .ok (v, os)) : CallOK env0 F_slices_Compact_int_int args objs v os := by
  unfold runCompact at h
  split at h
  · rename_i t xs
    obtain ⟨⟨h1, h2, h3⟩, h4⟩ := ite_okR h
    obtain ⟨rfl, rfl⟩ := Prod.mk.inj h4
    exact hC _ _ ⟨rfl, by rw [h1]; simpa [rowL] using h2, h3⟩
  · cases h
theorem runNet_ok (hN : SpecOK F_netlist_CheckNetlist sp_netlist_CheckNetlist) {args : List PVal} {objs : List AObj} {v : PVal} {os : List AObj} (h : runNet args objs = .ok (v, os)) : CallOK env0 F_netlist_CheckNetlist args objs v os := by
  unfold runNet at h
  split at h
  · rename_i x
    obtain ⟨⟨h1, h2⟩, h4⟩ := ite_okR h
    obtain ⟨rfl, rfl⟩ := Prod.mk.inj h4
    exact hN [x] [] ⟨by rw [show aN [x] 0 = dNet x from rfl, ← h1], rfl, h2⟩
  · cases h
theorem runNodes_ok (hN : SpecOK F_graph_CheckNodes sp_graph_CheckNodes) {args : List PVal} {objs : List AObj} {v : PVal} {os : List AObj} (h : runNodes args objs = .ok (v, os)) : CallOK env0 F_graph_CheckNodes args objs v os := by
  unfold runNodes at h
  split at h
  · rename_i a b
    obtain ⟨⟨h1, h2, h3, h5, h6⟩, h4⟩ := ite_okR h
    obtain ⟨rfl, rfl⟩ := Prod.mk.inj h4
    exact hN [.sl .fr 1 a, .sl .fr 4 b] [] ⟨by rw [show aIs [.sl .fr 1 a, .sl .fr 4 b] 0 = dInts a from rfl, show aNs [.sl .fr 1 a, .sl .fr 4 b] 1 = b.map dNode from rfl, eInts, eNodes, ← h1, ← h2], rfl, h3, h5, h6⟩
  · cases h
theorem runClone_ok {f t sz by_ : Nat} (hN : SpecOK f (spClone t sz by_)) {args : List PVal} {objs : List AObj} {v : PVal} {os : List AObj} (h : runClone t sz by_ args objs = .ok (v, os)) : CallOK env0 f args objs v os := by
  unfold runClone at h
  split at h
  · rename_i q xs
    obtain ⟨⟨h1, h2, h3⟩, h4⟩ := ite_okR h
    obtain ⟨rfl, rfl⟩ := Prod.mk.inj h4
    subst h1
    exact hN [.sl .fr q xs] [] ⟨rfl, rfl, h2, h3⟩
  · cases h
theorem envC_ok (hS : SpecOK F_slices_Sort_int_int sp_slices_Sort_int_int) (hC : SpecOK F_slices_Compact_int_int sp_slices_Compact_int_int) (hNet : SpecOK F_netlist_CheckNetlist sp_netlist_CheckNetlist) (hNod : SpecOK F_graph_CheckNodes sp_graph_CheckNodes) : EnvOK envC where
  look := (envOK allOK_nil).look
  name := (envOK allOK_nil).name
  globClean := (envOK allOK_nil).globClean
  spec := (envOK allOK_nil).spec
  run := fun f g hg args objs v os h => by
    have hg : runC f = some g := hg
    unfold runC at hg
    refine env_call ?_
    rcases bif_some hg with ⟨rfl, rfl⟩ | hg
    · exact runSort_ok hS h
    rcases bif_some hg with ⟨rfl, rfl⟩ | hg
    · exact runCompact_ok hC h
    rcases bif_some hg with ⟨rfl, rfl⟩ | hg
    · exact runNet_ok hNet h
    rcases bif_some hg with ⟨rfl, rfl⟩ | hg
    · exact runNodes_ok hNod h
    rcases bif_some hg with ⟨rfl, rfl⟩ | hg
    · exact runClone_ok clone_int_ok h
    rcases bif_some hg with ⟨rfl, rfl⟩ | hg
    · exact runClone_ok clone_Port_ok h
    rcases bif_some hg with ⟨rfl, rfl⟩ | hg
    · exact runClone_ok clone_Reg_ok h
    rcases bif_some hg with ⟨rfl, rfl⟩ | hg
    · exact runClone_ok clone_Outp_ok h
    rcases bif_some hg with ⟨rfl, rfl⟩ | hg
    · exact runClone_ok clone_Node_ok h
    cases hg
theorem wfEnvC : WfEnv envC := wfEnv []
theorem awake_ok (hS : SpecOK F_slices_Sort_int_int sp_slices_Sort_int_int) (hC : SpecOK F_slices_Compact_int_int sp_slices_Compact_int_int) (hNet : SpecOK F_netlist_CheckNetlist sp_netlist_CheckNetlist) (hNod : SpecOK F_graph_CheckNodes sp_graph_CheckNodes) : SpecOK F_law26_awake sp_law26_awake := fun args objs hp => by
  obtain ⟨rfl, rfl⟩ := hp
  exact call_env ((lv_ok (envC_ok hS hC hNet hNod) wfEnvC mixed_ok 100).1 _ _ _ _ _ (okT_eq awake26))
theorem all7 (hS : SpecOK F_slices_Sort_int_int sp_slices_Sort_int_int) (hC : SpecOK F_slices_Compact_int_int sp_slices_Compact_int_int) : AllOK specs7 := by
  have h4 := all4 (all3 hS hC)
  have h5 := all5 h4
  exact allOK_cons (awake_ok hS hC (h5 (_, _) (specAt_mem rfl)) (h4 (_, _) (specAt_mem rfl))) (all6 h5)
end Go.Pvm.Seat
