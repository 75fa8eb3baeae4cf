/- RetimePeriods (second form, tied card): the law answers true at every netlist and list of delays whose reading is of bulk at most 1048576, and the input reads as it did; no further condition. This text: part Db (B1 B2 B3 W0 W1 W2 W3). -/
import Derived.Test.YtkajgpdokbinlaaGreatDoorBa
import Derived.Lib.SlicesCompact
import Derived.Test.YtkajgpdokbinlaaGreatDoorSh
import Derived.Lib.SortBridge
import Derived.Shelf.Slices.In.SortNone
import Derived.Test.YtkajgpdokbinlaaGreatDoorRows
import Derived.Deep.Slices
import Derived.ChangeSame
import Derived.Test.YtkajgpdokbinlaaGreatDoorCf
import Derived.Test.YtkajgpdokbinlaaGreatDoorDa
import Derived.Carry
import Derived.WalkKit
import Derived.ProofKit
import Derived.OpenShut
import Derived.RowKit
import Derived.RowKit3
import Derived.Test.YtkajgpdokbinlaaGreatDoorCards
import Derived.Test.YtkajgpdokbinlaaGreatDoorTie
import Derived.Deep.DeepHandedRow
import Derived.Lib.LaidTab
set_option linter.unusedVariables false
set_option linter.unusedSimpArgs false
set_option linter.unnecessarySimpa false
namespace Go.Pvm.Srt
theorem mem_insI {x y : Int} : ∀ {l : List Int}, y ∈ insI x l ↔ y = x ∨ y ∈ l
  | [] => by simp [insI]
  | z :: r => by
    have ih := mem_insI (x := x) (y := y) (l := r)
    simp only [insI]
    split
    · simp
    · simp only [List.mem_cons, ih]
      constructor
      · rintro (h | h | h)
        · exact .inr (.inl h)
        · exact .inl h
        · exact .inr (.inr h)
      · rintro (h | h | h)
        · exact .inr (.inl h)
        · exact .inl h
        · exact .inr (.inr h)
theorem insI_perm (x : Int) : ∀ l : List Int, (insI x l).Perm (x :: l)
  | [] => by simp [insI]
  | z :: r => by
    simp only [insI]
    split
    · exact .refl _
    · exact ((insI_perm x r).cons z).trans (.swap x z r)
theorem sortI_perm : ∀ l : List Int, (sortI l).Perm l
  | [] => .refl _
  | x :: r => (insI_perm x (sortI r)).trans ((sortI_perm r).cons x)
theorem insI_sorted (x : Int) : ∀ l : List Int, l.Pairwise (· ≤ ·) → (insI x l).Pairwise (· ≤ ·)
  | [], _ => by simp [insI]
  | z :: r, h => by
    simp only [insI]
    rw [List.pairwise_cons] at h
    split
    · rename_i hx
      rw [List.pairwise_cons, List.pairwise_cons]
      refine ⟨fun y hy => ?_, h⟩
      rcases List.mem_cons.1 hy with rfl | hy
      · omega
      · have := h.1 y hy; omega
    · rename_i hx
      rw [List.pairwise_cons]
      refine ⟨fun y hy => ?_, insI_sorted x r h.2⟩
      rcases mem_insI.1 hy with rfl | hy
      · omega
      · exact h.1 y hy
theorem sortI_sorted : ∀ l : List Int, (sortI l).Pairwise (· ≤ ·)
  | [] => .nil
  | x :: r => insI_sorted x _ (sortI_sorted r)
theorem perm_sorted_eq : ∀ {l m : List Int}, l.Perm m → l.Pairwise (· ≤ ·) → m.Pairwise (· ≤ ·) → l = m
  | [], m, h, _, _ => by simpa using h.symm
  | x :: r, [], h, _, _ => by simp at h
  | x :: r, y :: s, h, h1, h2 => by
    have hx := h1
    have hy := h2
    rw [List.pairwise_cons] at h1 h2
    have e : x = y := by
      have m1 : x ∈ y :: s := h.subset List.mem_cons_self
      have m2 : y ∈ x :: r := h.symm.subset List.mem_cons_self
      rcases List.mem_cons.1 m1 with e | e
      · exact e
      · rcases List.mem_cons.1 m2 with e' | e'
        · exact e'.symm
        · have := h1.1 y e'; have := h2.1 x e; omega
    subst e
    rw [perm_sorted_eq h.cons_inv h1.2 h2.2]
theorem mergeSort_eq (l : List Int) : (l.mergeSort fun x y => decide (x ≤ y)) = sortI l := by
  refine perm_sorted_eq ((List.mergeSort_perm l _).trans (sortI_perm l).symm) ?_ (sortI_sorted l)
  have := List.pairwise_mergeSort (le := fun x y : Int => decide (x ≤ y)) (fun a b c h1 h2 => by simp at *; omega) (fun a b => by simp; omega) l
  exact this.imp (fun h => by simpa using h)
theorem compI_ne {l : List Int} (h : l ≠ []) : compI l ≠ [] := by
  cases l with
  | nil => exact absurd rfl h
  | cons x r =>
    simp only [compI]
    split
    · simp
    · split <;> simp
theorem compI_snoc : ∀ (l : List Int) (x : Int), compI (l ++ [x]) = if l.getLast? = some x then compI l else compI l ++ [x]
  | [], x => by simp [compI]
  | y :: r, x => by
    have ih := compI_snoc r x
    simp only [List.cons_append, compI]
    cases r with
    | nil =>
      simp only [List.nil_append, compI, List.getLast?_singleton, Option.some.injEq]
      by_cases h : y = x <;> simp [h]
    | cons z r =>
      rw [ih]
      have hne := compI_ne (l := z :: r) (by simp)
      rw [List.getLast?_cons_cons]
      by_cases hl : (z :: r).getLast? = some x
      · simp only [hl, if_true]
      · simp only [hl, if_false]
        cases hc : compI (z :: r) with
        | nil => exact absurd hc hne
        | cons a b =>
          simp only [List.cons_append]
          by_cases h : y = a <;> simp [h]
theorem compactUpTo_compI (l : List Int) : ∀ m, m ≤ l.length → Go.Lib.compactUpTo l.toArray m = compI (l.take m)
  | 0, _ => by simp [Go.Lib.compactUpTo, compI]
  | m + 1, h => by
    rw [Go.Lib.compactUpTo_succ, compactUpTo_compI l m (by omega), List.take_succ_eq_append_getElem (by omega), compI_snoc]
    have e : l.toArray[m]! = l[m] := by rw [getElem!_pos _ m (by simp; omega)]; simp
    rw [e]
    cases m with
    | zero => simp [Go.Lib.keeps]
    | succ k =>
      have e2 : l.toArray[k]! = l[k] := by rw [getElem!_pos _ k (by simp; omega)]; simp
      have e3 : (l.take (k + 1)).getLast? = some l[k] := by
        rw [List.take_succ_eq_append_getElem (by omega)]; exact List.getLast?_concat
      rw [e3]
      simp only [Go.Lib.keeps, e, e2, Nat.add_sub_cancel, Nat.add_one_ne_zero, false_or]
      by_cases hk : l[k + 1] = l[k]
      · rw [hk]; simp
      · have : ¬ l[k] = l[k + 1] := fun h => hk h.symm
        simp [hk, this]
theorem compact_eq (l : List Int) : Go.Lib.compact l = compI l := by
  rw [Go.Lib.compact, compactUpTo_compI l _ (Nat.le_refl _), List.take_length]
end Go.Pvm.Srt
namespace Go.Pvm.Seat
open Go Go.Sort Go.Shelf Go.Proofs
abbrev encI : Int → Value := Value.int .i64
theorem own_one {Γ : Ctx} {vals : List Value} (h : ListVR Γ [.own 0] vals) : ∃ a n cap, vals = [.slice a n cap] ∧ Γ.φ 0 = some (.slice a n cap) := by
  obtain ⟨hl, hv⟩ := h
  match vals, hl with
  | [u], _ =>
    obtain ⟨a, n, cap, rfl, h⟩ := own_inv (hv 0 _ u rfl rfl)
    exact ⟨a, n, cap, rfl, h⟩
/-- the row of ints -/
theorem row_ints {Γ : Ctx} {id : Nat} {l : List Int} {a : Option Addr} {n cap : Nat} (h : RowOK Γ id false T_int 1 (l.map eI)) (hφ : Γ.φ id = some (.slice a n cap)) :
    n = l.length ∧ ((a = none ∧ cap = 0 ∧ l = []) ∨ ∃ g cur, a = some ⟨g, 0, none⟩ ∧ Γ.w.heap[g]? = some (.cells cur T_int (0, 0)) ∧ l.length ≤ cap ∧ cap ≤ maxLen ∧ cur.size = cap ∧ cur.toList.take l.length = l.map encI) := by
  obtain ⟨v, vs, hv, hpos, hr, hc, hcl⟩ := h
  rw [hφ] at hv
  obtain rfl := Option.some.inj hv
  have hvs : vs = l.map encI := by
    apply List.ext_getElem?
    intro i
    have hlen : vs.length = l.length := by have := hr.1; simpa using this
    by_cases hi : i < l.length
    · have hx : (l.map eI)[i]? = some (eI l[i]) := by simp [hi]
      obtain ⟨u, hu, hvr⟩ := hc.2 i _ 0 (eI l[i]) hx rfl
      have hu' : vs[i]? = some u := by simpa using hu
      cases hvr
      rw [hu']; simp [hi]
    · rw [List.getElem?_eq_none (by omega), List.getElem?_eq_none (by simp; omega)]
  rcases hr.2 with ⟨e, hn⟩ | ⟨g, cap', cur, e, _, hg, hn, hcm, hcs, htake⟩
  · injection e with e1 e2 e3
    have hl : l = [] := by simpa using hn
    subst e1 e2 e3 hl
    exact ⟨rfl, .inl ⟨rfl, rfl, rfl⟩⟩
  · injection e with e1 e2 e3
    subst e1 e2 e3
    refine ⟨by simp, .inr ⟨g, cur, rfl, hg, by simpa using hn, hcm, by simpa using hcs, ?_⟩⟩
    rw [← hvs]; simpa using htake
theorem holds_of_row {w : World} {g : Nat} {cur : Array Value} {t : TypeId} {l : List Int} (hg : w.heap[g]? = some (.cells cur t (0, 0))) (hlen : l.length ≤ cur.size) (ht : cur.toList.take l.length = l.map encI) : Holds encI w g 0 l.toArray := by
  intro j hj
  have hj' : j < l.length := by simpa using hj
  have e : l.toArray[j]! = l[j] := by rw [getElem!_pos _ j hj]; simp
  have e2 : cur[j]? = some (encI l[j]) := by
    have : (cur.toList.take l.length)[j]? = (l.map encI)[j]? := by rw [ht]
    rw [List.getElem?_take, if_pos hj', Array.getElem?_toList] at this
    rw [this]; simp [hj']
  rw [e]
  refine ⟨?_, ?_⟩
  · simp [World.cell?, hg, e2]
  · simp [World.frozen?, hg]
/-- the block behind -/
theorem put_heap {w : World} {g : Nat} {cur : Array Value} {t : TypeId} {d : Array Int} {n : Nat} {os : Array Obj} (hg : w.heap[g]? = some (.cells cur t (0, 0))) :
    (grow (putRow encI (Sort.ahead w n) g 0 d) os).heap[g]? = some (.cells (putCells encI 0 d cur) t (0, 0)) ∧ ∀ k, k ≠ g → k < w.heap.size → (grow (putRow encI (Sort.ahead w n) g 0 d) os).heap[k]? = w.heap[k]? := by
  have hgl : g < w.heap.size := (Array.getElem?_eq_some_iff.1 hg).1
  have e := (Array.getElem?_eq_some_iff.1 hg).2
  constructor
  · simp [grow, putRow, mapBlock, Sort.ahead, Array.getElem?_append, Array.size_modify, hgl, Array.getElem_modify, e, onCells]
  · intro k hk hl
    simp [grow, putRow, mapBlock, Sort.ahead, Array.getElem?_append, Array.size_modify, hl, Array.getElem_modify, Ne.symm hk, hk]
theorem put_take {d : List Int} {cur : Array Value} (hn : d.length ≤ cur.size) : (putCells encI 0 d.toArray cur).toList.take d.length = d.map encI ∧ (putCells encI 0 d.toArray cur).size = cur.size := by
  refine ⟨?_, by simp [putCells]⟩
  apply List.ext_getElem?
  intro i
  by_cases hi : i < d.length
  · rw [List.getElem?_take, if_pos hi, Array.getElem?_toList]
    have e : d.toArray[i]! = d[i] := by rw [getElem!_pos _ i (by simpa using hi)]; simp
    simp [putCells, hi, show i < cur.size by omega, e]
  · rw [List.getElem?_eq_none (by simp; omega), List.getElem?_eq_none (by simp; omega)]
end Go.Pvm.Seat
namespace Go.Pvm.Seat
open Go Go.Sort Go.Shelf Go.Proofs
theorem storeOf_zero (o : AObj) : storeOf [o] 0 = o := rfl
theorem storeOf_succ (o : AObj) (k : Nat) : storeOf [o] (k + 1) = .none := by simp [storeOf]
theorem rowOK_ints {Γ : Ctx} {id g cap : Nat} {l : List Int} {cur : Array Value} (hφ : Γ.φ id = some (.slice (some ⟨g, 0, none⟩) l.length cap)) (hg : Γ.w.heap[g]? = some (.cells cur T_int (0, 0))) (hn : l.length ≤ cap) (hcm : cap ≤ maxLen) (hcs : cur.size = cap)
    (ht : cur.toList.take l.length = l.map encI) : RowOK Γ id false T_int 1 (l.map eI) := by
  refine ⟨_, l.map encI, hφ, by decide, ⟨by simp, .inr ⟨g, cap, cur, by simp, Nat.zero_le _, hg, by simpa using hn, hcm, by simpa using hcs, by simpa using ht⟩⟩, ⟨fun x hx => ?_, fun i x j c hx hc => ?_⟩, fun _ x hx => ?_⟩
  · obtain ⟨y, _, rfl⟩ := List.mem_map.1 hx; exact ⟨rfl, rfl⟩
  · rw [List.getElem?_map] at hx
    cases hy : l[i]? with
    | none => rw [hy] at hx; cases hx
    | some y =>
      rw [hy] at hx
      obtain rfl := Option.some.inj hx
      cases j with
      | zero =>
        obtain rfl : eI y = c := Option.some.inj hc
        exact ⟨encI y, by simp [hy], .int _ _⟩
      | succ j => simp [PVal.cells] at hc
  · obtain ⟨y, _, rfl⟩ := List.mem_map.1 hx; rfl
theorem SR_one {Γ Γ' : Ctx} {M K : Nat → Prop} {o o' : AObj} (h : SR M Γ (storeOf [o])) (hK : ∀ k, M k → K k) (hφ : Γ'.φ = Γ.φ) (hZ : Γ'.Z = Γ.Z) (hB : Γ'.B = Γ.B) (hl : o.live = true) (hsz : Γ.w.heap.size ≤ Γ'.w.heap.size) (hnew : ObjOK Γ' 0 o') : SR K Γ' (storeOf [o']) := by
  refine ⟨fun id => ?_, fun id v k hlv hv hk => ?_, fun id id' v v' k h1 h2 _ _ _ _ => ?_, fun b hb => ?_⟩
  · cases id with
    | zero => exact hnew
    | succ k => rw [storeOf_succ]; trivial
  · cases id with
    | zero =>
      rw [hφ] at hv
      obtain ⟨a, b, c⟩ := h.own 0 v k hl hv hk
      rw [hZ, hB]
      exact ⟨hK _ a, b, c⟩
    | succ k => rw [storeOf_succ] at hlv; cases hlv
  · cases id with
    | zero => cases id' with
      | zero => rfl
      | succ k => rw [storeOf_succ] at h2; cases h2
    | succ k => rw [storeOf_succ] at h1; cases h1
  · rw [hZ, hB] at hb; exact Nat.lt_of_lt_of_le (h.zlt b hb) hsz
theorem tup_nil (Γ : Ctx) : VR Γ (.tup []) (.tuple #[]) := .tup [] #[] rfl (fun i c v h => by simp at h)
theorem slices_Sort_ok : SpecOK F_slices_Sort_int_int sp_slices_Sort_int_int := by
  intro args objs hp
  obtain ⟨h1, h2, h3⟩ := hp
  revert h2 h3
  unfold sp_slices_Sort_int_int
  dsimp only
  generalize rowL objs 0 = l
  intro h2 h3
  subst h1 h2
  intro Γ M vals hv hsr hφ hg
  obtain ⟨a, n, cap, rfl, h0⟩ := own_one hv
  obtain ⟨rfl, hc⟩ := row_ints (hsr.obj 0) h0
  rcases hc with ⟨rfl, rfl, rfl⟩ | ⟨g, cur, rfl, hgg, hcap, hcm, hcs, htake⟩
  · refine (calls_of_every_depth fun D => AnyS.slices_Sort_int_none_alone Tryz.laysSort D none 0 Γ.w).mono ?_
    rintro e w' ⟨rfl, rfl⟩
    exact ⟨Γ, rfl, Ctx.le.refl Γ, tup_nil Γ, SR_one hsr (fun k h => .inl h) rfl rfl rfl rfl (Nat.le_refl _) (hsr.obj 0), Keep.refl _ _, hφ, fun b h => .inl h⟩
  · have hgl : g < Γ.w.heap.size := (Array.getElem?_eq_some_iff.1 hgg).1
    refine (Any.slices_Sort_int Tryz.laysSort g 0 cap l Γ.w (holds_of_row hgg (by omega) htake) hgl (by omega)).mono ?_
    rintro e w' ⟨rfl, n, os, hw⟩
    rw [Srt.mergeSort_eq] at hw
    obtain ⟨hnew, hold⟩ := put_heap (d := (sortI l).toArray) (n := n) (os := os) hgg
    rw [← hw] at hnew hold
    have hlen : (sortI l).length = l.length := (Srt.sortI_perm l).length_eq
    obtain ⟨ht, hs⟩ := put_take (d := sortI l) (cur := cur) (by omega)
    obtain ⟨hM, hZ, hB⟩ := hsr.own 0 _ g rfl h0 rfl
    have hsz : Γ.w.heap.size ≤ w'.heap.size := by rw [hw]; simp [grow, putRow, mapBlock, Sort.ahead]
    have hoth : ∀ k, k ≠ g → k < Γ.w.heap.size → w'.heap[k]? = Γ.w.heap[k]? := hold
    refine ⟨{ Γ with w := w' }, rfl, ⟨fun _ h => h, fun _ => Iff.rfl, fun b hb => hoth b (fun e => by subst e; exact hb.elim hZ hB) (hsr.zlt b hb), fun _ _ h => h⟩, tup_nil _, SR_one hsr (fun k h => .inl h) rfl rfl rfl rfl hsz ?_, ⟨?_, ?_, ?_, hsz, fun b hl hm => hoth b (fun e => by subst e; exact hm hM) hl⟩, hφ, fun b h => .inl h⟩
    · exact rowOK_ints (cur := putCells encI 0 (sortI l).toArray cur) (by rw [hlen]; exact h0) hnew (by omega) hcm (by rw [hs, hcs]) ht
    · rw [hw]; rfl
    · rw [hw]; rfl
    · rw [hw]; rfl
theorem slices_Compact_ok : SpecOK F_slices_Compact_int_int sp_slices_Compact_int_int := by
  intro args objs hp
  obtain ⟨h1, h2, h3⟩ := hp
  revert h2 h3
  unfold sp_slices_Compact_int_int
  dsimp only
  generalize rowL objs 0 = l
  intro h2 h3
  subst h1 h2
  intro Γ M vals hv hsr hφ hg
  obtain ⟨a, n, cap, rfl, h0⟩ := own_one hv
  obtain ⟨rfl, hc⟩ := row_ints (hsr.obj 0) h0
  have none_SR : ∀ Γ' : Ctx, (∀ b, Γ'.Z b ∨ Γ'.B b → b < Γ'.w.heap.size) → SR (KK Γ.w M) Γ' (storeOf [.none]) := fun Γ' hz => by
    have hn : ∀ id, storeOf [AObj.none] id = .none := fun id => by cases id with | zero => rfl | succ k => exact storeOf_succ _ k
    exact ⟨fun id => by rw [hn]; trivial, fun id v k h => (by rw [hn] at h; cases h), fun i1 i2 v v' k h => (by rw [hn] at h; cases h), hz⟩
  rcases hc with ⟨rfl, rfl, rfl⟩ | ⟨g, cur, rfl, hgg, hcap, hcm, hcs, htake⟩
  · refine (Any.slices_Compact_int_empty Tryz.laysCompact none 0 Γ.w).mono ?_
    rintro e w' ⟨rfl, rfl⟩
    exact ⟨Γ, rfl, Ctx.le.refl Γ, .sl .fr 1 [] none 0 (fun e => by cases e) ⟨fun e => (by cases e), fun _ e => (by cases e)⟩ (Nat.le_refl _) (by simp) (by simp) (fun h => absurd rfl h) (fun _ _ => undef) (fun ad i x j c h => by cases h) (fun i x j c h => by simp at h), none_SR Γ hsr.zlt, Keep.refl _ _, hφ, fun b h => .inl h⟩
  · have hgl : g < Γ.w.heap.size := (Array.getElem?_eq_some_iff.1 hgg).1
    refine (Any.slices_Compact_int Tryz.laysCompact g 0 cap l Γ.w (holds_of_row hgg (by omega) htake) (by omega) hcap).mono ?_
    rintro e w' ⟨rfl, n, hw⟩
    rw [Srt.compact_eq] at hw
    have hle : (compI l).length ≤ l.length := by rw [← Srt.compact_eq]; exact Go.Lib.compact_length_le l
    rw [← grow_empty (putRow _ _ _ _ _)] at hw
    obtain ⟨hnew, hold⟩ := put_heap (d := (compI l ++ List.replicate (l.length - (compI l).length) 0).toArray) (n := n) (os := #[]) hgg
    rw [← hw] at hnew hold
    obtain ⟨ht, hs⟩ := put_take (d := compI l ++ List.replicate (l.length - (compI l).length) 0) (cur := cur) (by simp; omega)
    obtain ⟨hM, hZ, hB⟩ := hsr.own 0 _ g rfl h0 rfl
    have hsz : Γ.w.heap.size ≤ w'.heap.size := by rw [hw]; simp [grow, putRow, mapBlock, Sort.ahead]
    have hcell : ∀ i x, (compI l)[i]? = some x → w'.cell? ⟨g, i, none⟩ = some (encI x) := fun i x hx => by
      have hi : i < (compI l).length := (List.getElem?_eq_some_iff.1 hx).1
      have e : ((putCells encI 0 (compI l ++ List.replicate (l.length - (compI l).length) 0).toArray cur).toList.take (compI l ++ List.replicate (l.length - (compI l).length) 0).length)[i]? = some (encI x) := by
        rw [ht, List.getElem?_map, List.getElem?_append_left hi, hx]; rfl
      rw [List.getElem?_take, if_pos (by simp; omega), Array.getElem?_toList] at e
      simp [World.cell?, hnew, e]
    rw [Srt.compact_eq]
    refine ⟨{ Γ with w := w', Z := fun b => Γ.Z b ∨ b = g }, rfl, ⟨fun _ h => .inl h, fun _ => Iff.rfl, fun b hb => hold b (fun e => by subst e; exact hb.elim hZ hB) (hsr.zlt b hb), fun _ _ h => h⟩, ?_, none_SR _ (fun b hb => ?_), ⟨?_, ?_, ?_, hsz, fun b hl hm => hold b (fun e => by subst e; exact hm hM) hl⟩, hφ, fun b h => h.elim .inl (fun e => by subst e; exact .inr (.inl hM))⟩
    · have hlen : (compI l).length = ((compI l).map eI).length := by simp
      rw [hlen]
      refine .sl .fr 1 _ _ cap (fun e => by cases e) ⟨fun e => (by cases e), fun _ e => (by cases e)⟩ (by simp; omega) (fun x hx => ?_) (fun x hx => ?_) (fun _ => ⟨_, rfl, .inl (.inr rfl)⟩) (fun i _ => encI ((compI l).getD i 0)) (fun ad i x j c had hx hj => ?_) (fun i x j c hx hj => ?_)
      · obtain ⟨y, _, rfl⟩ := List.mem_map.1 hx; rfl
      · obtain ⟨y, _, rfl⟩ := List.mem_map.1 hx; rfl
      · obtain rfl := Option.some.inj had
        rw [List.getElem?_map] at hx
        cases hy : (compI l)[i]? with
        | none => rw [hy] at hx; cases hx
        | some y =>
          rw [hy] at hx
          obtain rfl := Option.some.inj hx
          cases j with
          | zero =>
            have := hcell i y hy
            rw [show i * 1 + 0 = i by omega, add_mk, Nat.zero_add, this]; simp [List.getD_eq_getElem?_getD, hy]
          | succ j => simp [PVal.cells] at hj
      · rw [List.getElem?_map] at hx
        cases hy : (compI l)[i]? with
        | none => rw [hy] at hx; cases hx
        | some y =>
          rw [hy] at hx
          obtain rfl := Option.some.inj hx
          cases j with
          | zero =>
            obtain rfl : eI y = c := Option.some.inj hj
            simp only [List.getD_eq_getElem?_getD, hy, Option.getD_some]
            exact .int _ _
          | succ j => simp [PVal.cells] at hj
    · have : b < Γ.w.heap.size := by
        rcases hb with (h | h) | h
        · exact hsr.zlt b (.inl h)
        · subst h; exact hgl
        · exact hsr.zlt b (.inr h)
      exact Nat.lt_of_lt_of_le this hsz
    · rw [hw]; rfl
    · rw [hw]; rfl
    · rw [hw]; rfl
end Go.Pvm.Seat
namespace Go.Pvm.Seat
open Go Go.Proofs
open Go.Proofs.YtkajgpdokbinlaaGreatDoor.Rows (uptoBulk uptoBulkAll uptoSmall)
def BB : Nat := 1048576
theorem BB_eq : BB = 1048576 := rfl
def ctx0 (w : World) : Ctx := ⟨w, fun _ => none, fun b => b < w.heap.size, fun _ => False⟩
def Rd (t : Nat) {α : Type} (f : α → List PVal) (Q : α → Prop) : Prop :=
  ∀ (H : Type) (enc : TypeId × Value → H) (w : World) (fuel : Nat) (cs : List Value) (x : DataW H × List MemPlace), DataW.trod enc Tryz.prog w 0 (fun _ => true) true fuel t cs = some x → uptoBulk x.1 ≤ BB → ∃ y : α, ListVR (ctx0 w) (f y) cs ∧ Q y
theorem vr_one {Γ : Ctx} {p : PVal} {v : Value} (h : VR Γ p v) : ListVR Γ [p] [v] := .cons h (.nil _)
theorem rd_int {t : Nat} (ht : Tryz.prog.underlying t = some (.int .i64)) : Rd t (fun n : Int => [.int .i64 n]) (fun _ => True) := by
  intro H enc w fuel cs x h hb
  cases fuel with
  | zero => simp [DataW.trod] at h
  | succ n =>
    rcases cs with _ | ⟨v, _ | ⟨b, r⟩⟩
    · simp [DataW.trod, ht] at h
    · cases v <;> simp [DataW.trod, ht] at h
      rename_i k m
      obtain ⟨⟨rfl, _⟩, _⟩ := h
      exact ⟨m, vr_one (.int _ _), trivial⟩
    · cases v <;> simp [DataW.trod, ht] at h
theorem rd_str {t : Nat} (ht : Tryz.prog.underlying t = some .string) : Rd t (fun s : ByteArray => [.str s]) (fun s => s.size ≤ BB) := by
  intro H enc w fuel cs x h hb
  cases fuel with
  | zero => simp [DataW.trod] at h
  | succ n =>
    rcases cs with _ | ⟨v, _ | ⟨b, r⟩⟩
    · simp [DataW.trod, ht] at h
    · cases v <;> simp [DataW.trod, ht] at h
      rename_i s
      obtain ⟨_, rfl⟩ := h
      refine ⟨s, vr_one (.str _), ?_⟩
      have hb : s.data.toList.length + 1 ≤ BB := by simpa only [uptoBulk] using hb
      have : s.data.toList.length = s.size := Array.length_toList
      omega
    · cases v <;> simp [DataW.trod, ht] at h
theorem bulk_part {H : Type} {d : DataW H} {l : List (DataW H)} (h : d ∈ l) : uptoBulk d ≤ uptoBulkAll l := by
  induction l with
  | nil => cases h
  | cons x r ih =>
    simp only [uptoBulkAll]
    cases List.mem_cons.1 h with
    | inl e => subst e; omega
    | inr e => have := ih e; omega
theorem bulk_one {H : Type} (d : DataW H) : 1 ≤ uptoBulk d := by
  cases d with
  | lit l => cases l <;> simp [uptoBulk]
  | _ => simp [uptoBulk]
theorem bulk_length {H : Type} (l : List (DataW H)) : l.length ≤ uptoBulkAll l := by
  induction l with
  | nil => simp [uptoBulkAll]
  | cons x r ih => have := bulk_one x; simp only [uptoBulkAll, List.length_cons]; omega
theorem rd_slice {t e sz : Nat} {α : Type} {f : α → List PVal} {Q : α → Prop} (g : α → PVal) (ht : Tryz.prog.underlying t = some (.slice e)) (hsz : Tryz.prog.cellsOf e = sz) (hpos : 0 < sz) (hg : ∀ y, (g y).cells = f y) (hlen : ∀ y, (f y).length = sz)
    (hcl : ∀ y, (g y).clean = true) (hR : Rd e f Q) : Rd t (fun l : List α => [.sl .fr sz (l.map g)]) (fun l => l.length ≤ BB ∧ ∀ y ∈ l, Q y) := by
  intro H enc w fuel cs x h hb
  rcases DataW.trod_slice ht h with ⟨rfl, rfl⟩ | ⟨a, len, cap, elems, rest, n, rfl, rfl, rfl, _, hlc, hcm, hel, hget, _, _⟩
  · exact ⟨[], vr_one (.sl .fr sz [] none 0 (fun e => by cases e) ⟨fun e => (by cases e), fun _ e => (by cases e)⟩ (Nat.le_refl _) (by simp) (by simp) (fun h => absurd rfl h) (fun _ _ => undef) (fun ad i x j c h => by cases h) (fun i x j c h => by simp at h)), by simp, by simp⟩
  · simp only [uptoBulk] at hb
    have hlen' := bulk_length (elems.map (·.1))
    rw [List.length_map, hel] at hlen'
    have key : ∀ k : Nat, k ≤ len → ∃ l : List α, l.length = k ∧ ∀ i y, l[i]? = some y → Q y ∧ ∃ cs' : List Value, cs'.length = sz ∧ ListVR (ctx0 w) (f y) cs' ∧ ∀ j, j < sz → w.cell? (a.add (i * sz + j)) = cs'[j]? := by
      intro k
      induction k with
      | zero => exact fun _ => ⟨[], rfl, fun i y h => by simp at h⟩
      | succ k ih =>
        intro hk
        obtain ⟨l, hl, hq⟩ := ih (by omega)
        have h1 := hget k (by omega)
        obtain ⟨z, hz⟩ : ∃ z, elems[k]? = some z := ⟨elems[k]'(by omega), by simp [show k < elems.length by omega]⟩
        rw [hz, hsz] at h1
        obtain ⟨cs', h2, h3⟩ := Option.bind_eq_some_iff.1 h1
        obtain ⟨_, hl', hc⟩ := World.cells?_some h2
        have hz1 : z.1 ∈ elems.map (·.1) := List.mem_map_of_mem (List.mem_of_getElem? hz)
        have hzb := bulk_part hz1
        obtain ⟨y, hy, hqy⟩ := hR H enc w n cs' z h3 (by omega)
        refine ⟨l ++ [y], by simp [hl], fun i u hu => ?_⟩
        by_cases hi : i < k
        · rw [List.getElem?_append_left (by omega)] at hu
          exact hq i u hu
        · have hik : i = k := by
            have := (List.getElem?_eq_some_iff.1 hu).1
            simp [hl] at this
            omega
          subst hik
          rw [List.getElem?_append_right (by omega), hl, Nat.sub_self] at hu
          obtain rfl : y = u := by simpa using hu
          exact ⟨hqy, cs', hl', hy, fun j hj => by rw [← hc j hj, Go.Pvm.add_add]⟩
    obtain ⟨l, hl, hq⟩ := key len (Nat.le_refl _)
    subst hl
    refine ⟨l, vr_one ?_, by omega, fun y hy => ?_⟩
    · have e : l.length = (l.map g).length := by simp
      rw [e]
      have get : ∀ i x j c, (l.map g)[i]? = some x → x.cells[j]? = some c → ∃ u, w.cell? (a.add (i * sz + j)) = some u ∧ VR (ctx0 w) c u := by
        intro i x j c hx hc
        rw [List.getElem?_map] at hx
        cases hy : l[i]? with
        | none => rw [hy] at hx; cases hx
        | some y =>
          rw [hy] at hx
          obtain rfl := Option.some.inj hx
          rw [hg] at hc
          obtain ⟨_, cs', hl', hv, hcell⟩ := hq i y hy
          have hj : j < sz := by rw [← hlen y]; exact (List.getElem?_eq_some_iff.1 hc).1
          obtain ⟨u, hu⟩ : ∃ u, cs'[j]? = some u := ⟨cs'[j]'(by omega), by simp [show j < cs'.length by omega]⟩
          exact ⟨u, (hcell j hj).trans hu, hv.2 j c u hc hu⟩
      have lt : l ≠ [] → a.block < w.heap.size := by
        intro hne
        obtain ⟨y, r, rfl⟩ := List.exists_cons_of_ne_nil hne
        obtain ⟨c, hc⟩ : ∃ c, (f y)[0]? = some c := ⟨(f y)[0]'(by rw [hlen]; exact hpos), by simp [hlen, hpos]⟩
        obtain ⟨u, hu, _⟩ := get 0 (g y) 0 c rfl (by rw [hg]; exact hc)
        simp only [World.cell?] at hu
        cases hh : w.heap[a.block]? with
        | none => simp [Go.Pvm.add_block, hh] at hu
        | some o => exact (Array.getElem?_eq_some_iff.1 hh).1
      refine .sl .fr sz _ _ cap (fun e => by cases e) ⟨fun e => (by cases e), fun _ e => (by cases e)⟩ (by simpa using hlc) (fun x hx => ?_) (fun x hx => ?_) (fun hne => ⟨a, rfl, .inl (lt (by intro e; subst e; exact hne rfl))⟩)
        (fun i j => (w.cell? (a.add (i * sz + j))).getD undef) (fun ad i x j c had hx hj => ?_) (fun i x j c hx hj => ?_)
      · obtain ⟨y, _, rfl⟩ := List.mem_map.1 hx; rw [hg]; exact hlen y
      · obtain ⟨y, _, rfl⟩ := List.mem_map.1 hx; exact hcl y
      · obtain rfl := Option.some.inj had
        obtain ⟨u, hu, _⟩ := get i x j c hx hj
        show w.cell? _ = _
        rw [hu]; rfl
      · obtain ⟨u, hu, hv⟩ := get i x j c hx hj
        rw [hu]; exact hv
    · obtain ⟨i, hi⟩ := List.getElem?_of_mem hy
      exact (hq i y hi).1
end Go.Pvm.Seat
namespace Go.Pvm.Seat
open Go Go.Proofs
open Go.Proofs.YtkajgpdokbinlaaGreatDoor.Rows (uptoBulk uptoBulkAll uptoSmall)
theorem fld {H : Type} {enc : TypeId × Value → H} {w : World} {fuel : Nat} {cs : List Value} {x : DataW H × List MemPlace} {t i : Nat} {fs : Array Field} {fl : Field} {α : Type} {p : α → PVal} {Q : α → Prop} (ht : Tryz.prog.underlying t = some (.struct fs))
    (h : DataW.trod enc Tryz.prog w 0 (fun _ => true) true fuel t cs = some x) (hb : uptoBulk x.1 ≤ BB) (hf : fs[i]? = some fl) (ho : fl.offset = i) (hc : Tryz.prog.cellsOf fl.type = 1) (hR : Rd fl.type (fun y => [p y]) Q) : ∃ y v, cs[i]? = some v ∧ VR (ctx0 w) (p y) v ∧ Q y := by
  obtain ⟨xs, n, _, rfl, hl, hlen, hg⟩ := DataW.trod_struct ht h
  have h1 := hg i fl hf
  have hi : i < xs.length := by rw [hlen]; exact (Array.getElem?_eq_some_iff.1 hf).1
  obtain ⟨z, hz⟩ : ∃ z, xs[i]? = some z := ⟨xs[i], by simp [hi]⟩
  rw [hz, ho, hc] at h1
  simp only [uptoBulk] at hb
  have hzb := bulk_part (show z.1 ∈ xs.map (·.1) from List.mem_map_of_mem (List.mem_of_getElem? hz))
  obtain ⟨y, hy, hq⟩ := hR H enc w n _ z h1 (by omega)
  have h2 := hy.1
  have h3 : ((cs.drop i).take 1).length = 1 := h2.symm
  have h4 : i < cs.length := by
    rw [List.length_take, List.length_drop] at h3
    omega
  refine ⟨y, cs[i], by simp [h4], hy.2 0 _ _ rfl ?_, hq⟩
  rw [List.getElem?_take, if_pos (by decide), List.getElem?_drop]
  simp [h4]
theorem len_struct {H : Type} {enc : TypeId × Value → H} {w : World} {fuel : Nat} {cs : List Value} {x : DataW H × List MemPlace} {t : Nat} {fs : Array Field} (ht : Tryz.prog.underlying t = some (.struct fs))
    (h : DataW.trod enc Tryz.prog w 0 (fun _ => true) true fuel t cs = some x) : cs.length = Tryz.prog.cellsOf t := by
  obtain ⟨xs, n, _, rfl, hl, _⟩ := DataW.trod_struct ht h
  exact hl
theorem two_of {cs : List Value} {a b : Value} (hl : cs.length = 2) (h0 : cs[0]? = some a) (h1 : cs[1]? = some b) : cs = [a, b] := by
  apply List.ext_getElem?
  intro i
  match i with
  | 0 => exact h0
  | 1 => exact h1
  | i + 2 => rw [List.getElem?_eq_none (by omega)]; rfl
theorem four_of {cs : List Value} {a b c d : Value} (hl : cs.length = 4) (h0 : cs[0]? = some a) (h1 : cs[1]? = some b) (h2 : cs[2]? = some c) (h3 : cs[3]? = some d) : cs = [a, b, c, d] := by
  apply List.ext_getElem?
  intro i
  match i with
  | 0 => exact h0
  | 1 => exact h1
  | 2 => exact h2
  | 3 => exact h3
  | i + 4 => rw [List.getElem?_eq_none (by omega)]; rfl
theorem five_of {cs : List Value} {a b c d e : Value} (hl : cs.length = 5) (h0 : cs[0]? = some a) (h1 : cs[1]? = some b) (h2 : cs[2]? = some c) (h3 : cs[3]? = some d) (h4 : cs[4]? = some e) : cs = [a, b, c, d, e] := by
  apply List.ext_getElem?
  intro i
  match i with
  | 0 => exact h0
  | 1 => exact h1
  | 2 => exact h2
  | 3 => exact h3
  | 4 => exact h4
  | i + 5 => rw [List.getElem?_eq_none (by omega)]; rfl
theorem c3 : Tryz.prog.cellsOf 3 = 1 := by kernel_rfl
theorem c9 : Tryz.prog.cellsOf 9 = 1 := by kernel_rfl
theorem c22 : Tryz.prog.cellsOf 22 = 1 := by kernel_rfl
theorem c23 : Tryz.prog.cellsOf 23 = 1 := by kernel_rfl
theorem c24 : Tryz.prog.cellsOf 24 = 1 := by kernel_rfl
theorem c25 : Tryz.prog.cellsOf 25 = 1 := by kernel_rfl
theorem c28 : Tryz.prog.cellsOf 28 = 1 := by kernel_rfl
theorem c118 : Tryz.prog.cellsOf 118 = 2 := by kernel_rfl
theorem c92 : Tryz.prog.cellsOf 92 = 2 := by kernel_rfl
theorem c94 : Tryz.prog.cellsOf 94 = 5 := by kernel_rfl
theorem c59 : Tryz.prog.cellsOf 59 = 4 := by kernel_rfl
theorem c27 : Tryz.prog.cellsOf 27 = 5 := by kernel_rfl
theorem rd_port : Rd 118 (fun p : Port => [.str p.name, eI p.width]) (fun p => p.name.size ≤ BB) := by
  intro H enc w fuel cs x h hb
  obtain ⟨s, v0, e0, r0, q0⟩ := fld (i := 0) Tryz.underlying118 h hb rfl rfl c9 (rd_str Tryz.underlying9)
  obtain ⟨n, v1, e1, r1, _⟩ := fld (i := 1) Tryz.underlying118 h hb rfl rfl c3 (rd_int Tryz.underlying3)
  obtain rfl := two_of ((len_struct Tryz.underlying118 h).trans c118) e0 e1
  exact ⟨⟨s, n⟩, .cons r0 (.cons r1 (.nil _)), q0⟩
theorem rd_outp : Rd 92 (fun p : Outp => [.str p.name, eI p.node]) (fun p => p.name.size ≤ BB) := by
  intro H enc w fuel cs x h hb
  obtain ⟨s, v0, e0, r0, q0⟩ := fld (i := 0) Tryz.underlying92 h hb rfl rfl c9 (rd_str Tryz.underlying9)
  obtain ⟨n, v1, e1, r1, _⟩ := fld (i := 1) Tryz.underlying92 h hb rfl rfl c3 (rd_int Tryz.underlying3)
  obtain rfl := two_of ((len_struct Tryz.underlying92 h).trans c92) e0 e1
  exact ⟨⟨s, n⟩, .cons r0 (.cons r1 (.nil _)), q0⟩
theorem rd_reg : Rd 94 (fun p : Reg => [.str p.name, eI p.width, eI p.init, eI p.enable, eI p.next]) (fun p => p.name.size ≤ BB) := by
  intro H enc w fuel cs x h hb
  obtain ⟨s, v0, e0, r0, q0⟩ := fld (i := 0) Tryz.underlying94 h hb rfl rfl c9 (rd_str Tryz.underlying9)
  obtain ⟨n1, v1, e1, r1, _⟩ := fld (i := 1) Tryz.underlying94 h hb rfl rfl c3 (rd_int Tryz.underlying3)
  obtain ⟨n2, v2, e2, r2, _⟩ := fld (i := 2) Tryz.underlying94 h hb rfl rfl c3 (rd_int Tryz.underlying3)
  obtain ⟨n3, v3, e3, r3, _⟩ := fld (i := 3) Tryz.underlying94 h hb rfl rfl c3 (rd_int Tryz.underlying3)
  obtain ⟨n4, v4, e4, r4, _⟩ := fld (i := 4) Tryz.underlying94 h hb rfl rfl c3 (rd_int Tryz.underlying3)
  obtain rfl := five_of ((len_struct Tryz.underlying94 h).trans c94) e0 e1 e2 e3 e4
  exact ⟨⟨s, n1, n2, n3, n4⟩, .cons r0 (.cons r1 (.cons r2 (.cons r3 (.cons r4 (.nil _))))), q0⟩
theorem rd_ints : Rd 28 (fun l : List Int => [eInts l]) (fun l => l.length ≤ BB ∧ ∀ y ∈ l, True) :=
  rd_slice eI Tryz.underlying28 c3 (by decide) (fun _ => rfl) (fun _ => rfl) (fun _ => rfl) (rd_int Tryz.underlying3)
theorem rd_node : Rd 59 (fun p : Node => [eI p.op, eI p.width, eInts p.args, eI p.value]) (fun p => p.args.length ≤ BB) := by
  intro H enc w fuel cs x h hb
  obtain ⟨n0, v0, e0, r0, _⟩ := fld (i := 0) Tryz.underlying59 h hb rfl rfl c3 (rd_int Tryz.underlying3)
  obtain ⟨n1, v1, e1, r1, _⟩ := fld (i := 1) Tryz.underlying59 h hb rfl rfl c3 (rd_int Tryz.underlying3)
  obtain ⟨l2, v2, e2, r2, q2, _⟩ := fld (i := 2) Tryz.underlying59 h hb rfl rfl c28 rd_ints
  obtain ⟨n3, v3, e3, r3, _⟩ := fld (i := 3) Tryz.underlying59 h hb rfl rfl c3 (rd_int Tryz.underlying3)
  obtain rfl := four_of ((len_struct Tryz.underlying59 h).trans c59) e0 e1 e2 e3
  exact ⟨⟨n0, n1, l2, n3⟩, .cons r0 (.cons r1 (.cons r2 (.cons r3 (.nil _)))), q2⟩
theorem rd_net : Rd 27 (fun n : Net => [.str n.name, .sl .fr 2 (n.inputs.map ePort), .sl .fr 5 (n.regs.map eReg), .sl .fr 4 (n.nodes.map eNode), .sl .fr 2 (n.outputs.map eOutp)]) Small := by
  intro H enc w fuel cs x h hb
  obtain ⟨s, v0, e0, r0, q0⟩ := fld (i := 0) Tryz.underlying27 h hb rfl rfl c9 (rd_str Tryz.underlying9)
  obtain ⟨l1, v1, e1, r1, q1⟩ := fld (i := 1) Tryz.underlying27 h hb rfl rfl c22 (rd_slice ePort Tryz.underlying22 c118 (by decide) (fun _ => rfl) (fun _ => rfl) (fun _ => rfl) rd_port)
  obtain ⟨l2, v2, e2, r2, q2⟩ := fld (i := 2) Tryz.underlying27 h hb rfl rfl c23 (rd_slice eReg Tryz.underlying23 c94 (by decide) (fun _ => rfl) (fun _ => rfl) (fun _ => rfl) rd_reg)
  obtain ⟨l3, v3, e3, r3, q3⟩ := fld (i := 3) Tryz.underlying27 h hb rfl rfl c24 (rd_slice eNode Tryz.underlying24 c59 (by decide) (fun _ => rfl) (fun _ => rfl) (fun _ => rfl) rd_node)
  obtain ⟨l4, v4, e4, r4, q4⟩ := fld (i := 4) Tryz.underlying27 h hb rfl rfl c25 (rd_slice eOutp Tryz.underlying25 c92 (by decide) (fun _ => rfl) (fun _ => rfl) (fun _ => rfl) rd_outp)
  obtain rfl := five_of ((len_struct Tryz.underlying27 h).trans c27) e0 e1 e2 e3 e4
  exact ⟨⟨s, l1, l2, l3, l4⟩, .cons r0 (.cons r1 (.cons r2 (.cons r3 (.cons r4 (.nil _))))), q0, q1.1, q2.1, q3.1, q4.1, q3.2, q1.2, q2.2, q4.2⟩
end Go.Pvm.Seat
namespace Go.Pvm.Seat
open Go Go.Proofs Go.ChangeShapes Go.WideShapes Go.ChangeAt Go.RowKit
open Go.Proofs.YtkajgpdokbinlaaGreatDoor
open Go.Proofs.YtkajgpdokbinlaaGreatDoor.Rows (uptoBulk uptoBulkAll uptoSmall)
theorem sr0 (w : World) : SR (fun _ => False) (ctx0 w) (storeOf []) := by
  have hn : ∀ id, storeOf [] id = AObj.none := fun id => by simp [storeOf]
  exact ⟨fun id => by rw [hn]; trivial, fun id v k h => (by rw [hn] at h; cases h), fun i1 i2 v v' k h => (by rw [hn] at h; cases h), fun b hb => hb.elim id False.elim⟩
theorem below_of {w w' : World} (h : Keep w (fun _ => False) w') : Below w.heap.size w w' := ⟨h.os, h.tape, h.output, h.size, fun k hk => h.block k hk id⟩
theorem kept_of {w w' : World} (h : Keep w (fun _ => False) w') (may : MemPlace → Prop) : w.keptBut w' may := by
  refine ⟨h.os, h.output, fun i hi => ?_⟩
  rw [h.block i hi id]
  cases hh : w.heap[i]? with
  | none => rfl
  | some o =>
    cases o with
    | cells c t fr => exact ⟨rfl, rfl, rfl, fun _ _ => rfl⟩
    | map es clock => exact .inr ⟨rfl, rfl⟩
    | _ => rfl
theorem agg_of {Γ : Ctx} {ps : List PVal} {cs : Array Value} (h : ListVR Γ ps cs.toList) : VR Γ (.agg ps) (.agg cs) := .agg ps cs (by simpa using h.1) (fun i c v hi hv => h.2 i c v hi (by simpa using hv))
theorem laidOut : laidOutB Tryz.prog = true := by kernel_rfl
theorem rec27 : Tryz.prog.readableRec 27 = true := by kernel_rfl
theorem rec28 : Tryz.prog.readableRec 28 = true := by kernel_rfl
theorem lt27 : 27 < Tryz.prog.types.size := by have : (decide (27 < Tryz.prog.types.size)) = true := by kernel_rfl
                                               exact of_decide_eq_true this
theorem lt28 : 28 < Tryz.prog.types.size := by have : (decide (28 < Tryz.prog.types.size)) = true := by kernel_rfl
                                               exact of_decide_eq_true this
theorem res3 : Tryz.f3.resultTypes = #[4] := by kernel_rfl
theorem call26 (n : Net) (d : List Int) (hs : Small n) (hd : d.length ≤ 1048576) : CallOK env7 F_law26_RetimePeriods [eNet n, eInts d] [] (.bool true) [] :=
  callOK_of (envOK (all7 slices_Sort_ok slices_Compact_ok)) (wfEnv _) mixed_ok (law26_RetimePeriods_ok _ n d hs hd ⟨rfl, rfl⟩)
set_option maxRecDepth 100000 in
theorem contract (H : Type) (enc : TypeId × Value → H) (W : World) (base : Nat) (args : Array Value) (ds gs : List (DataW H)) (before : List MemPlace)
    (hval : ∀ (j : Nat) t v, Tryz.f3.params[j]? = some t → args[j]? = some v → Value.okWide Tryz.prog W .any base t v)
    (hW : DataW.Whole enc Tryz.prog Tryz.f3.params.toList Rows.retimePeriodsSpec.vars false W args.toList ds gs before) (hk : uptoSmall H (ds ++ gs) = true) :
    Calls Tryz.prog 3 args W fun e W' => ∃ v, e = .returned v ∧ Rows.retimePeriodsSpec.post enc Tryz.prog Tryz.f3 false true false false W args v W' := by
  have hW' := hW
  obtain ⟨p, q, hA0, hV, rfl, hfz, hnd⟩ := hW
  have hA : DataW.TrodAll enc Tryz.prog W 0 (fun _ => true) true Tryz.f3.params.toList args.toList ds p := hA0
  rw [Tryz.params3] at hA hval
  obtain ⟨v0, v1, d0, d1, p0, p1, rfl, rfl, rfl, h0, h1⟩ := trodAll_two hA
  obtain ⟨rfl, rfl⟩ := trodVars_none hV
  have hk' : uptoBulkAll [d0, d1] ≤ BB := of_decide_eq_true hk
  simp only [uptoBulkAll] at hk'
  have hk2 : uptoBulk d0 ≤ BB ∧ uptoBulk d1 ≤ BB := by omega
  have s0 := hval 0 27 v0 rfl rfl
  have s1 := hval 1 28 v1 rfl rfl
  unfold Value.okWide at s0 s1
  rw [Tryz.underlying27] at s0
  rw [Tryz.underlying28] at s1
  obtain ⟨cs, rfl, _, _⟩ := s0
  obtain ⟨fu0, f0⟩ := id h0
  obtain ⟨fu1, f1⟩ := id h1
  obtain ⟨n, r0, hs⟩ := rd_net H enc W fu0 _ _ f0 hk2.1
  obtain ⟨d, r1, hd, _⟩ := rd_ints H enc W fu1 _ _ f1 hk2.2
  have r0' : VR (ctx0 W) (eNet n) (.agg cs) := agg_of r0
  have r1' : VR (ctx0 W) (eInts d) v1 := by
    have hl := r1.1
    cases v1 with
    | agg c => simp [Cell.okWide, Cell.ok, Tryz.underlying28] at s1
    | _ => exact r1.2 0 _ _ rfl rfl
  have hlt := hW'.lt
  refine (call26 n d hs hd (ctx0 W) (fun _ => False) [.agg cs, v1] (.cons r0' (.cons r1' (.nil _))) (sr0 W) (fun _ _ => rfl) (fun g x h => by cases h)).mono fun e W' he => ?_
  cases e with
  | returned u =>
    obtain ⟨Γ', rfl, _, hu, _, hkeep, _, _⟩ := he
    have hkeep : Keep W (fun _ => False) Γ'.w := hkeep
    cases hu
    refine ⟨_, rfl, [d0, d1], [], _, [], p0 ++ p1, [], hW', ?_, ?_, ?_, kept_of hkeep _, fun h => by cases h⟩
    · rw [res3]; exact trodAll_cons_mk (shut_bool Tryz.underlying4 _) trodAll_mk0
    · rw [Tryz.params3]
      exact trodAll_mk2 (Below.trod laidOut rec27 lt27 h0 (below_of hkeep) (fun x hx => hlt x (by simp [hx]))) (Below.trod laidOut rec28 lt28 h1 (below_of hkeep) (fun x hx => hlt x (by simp [hx])))
    · rfl
  | _ => exact he.elim
end Go.Pvm.Seat
namespace Go.Pvm.Seat
open Go Go.Proofs Go.ChangeShapes Go.WideShapes Go.ChangeAt Go.RowKit
open Go.Proofs.YtkajgpdokbinlaaGreatDoor
theorem own26 : ownKnob Tryz.prog.godebug = none := by kernel_rfl
def cellsOfData : DataW Unit → Array Value
  | .agg parts => (parts.map fun | .lit (.int k n) => Value.int k n | _ => .bool false).toArray
  | _ => #[]
def putData (d : DataW Unit) : Obj → Obj
  | .cells _ t frozen => .cells (cellsOfData d) t frozen
  | o => o
/-- a world for the witness: the settled one, the three tables holding what their initialisers lay -/
noncomputable def laidWorld (os : Os) : World :=
  { World.holding Tryz.prog os ⟨#[], #[], []⟩ with heap := (((World.holding Tryz.prog os ⟨#[], #[], []⟩).heap.modify 0 (putData Rows.laid_internal_strconv_uint64pow10)).modify 1 (putData Rows.laid_math_bits_deBruijn32tab)).modify 2 (putData Rows.laid_math_bits_deBruijn64tab) }
def wArgs : Array Value := #[.agg #[.string ByteArray.empty, .slice none 0 0, .slice none 0 0, .slice none 0 0, .slice none 0 0], .slice none 0 0]
theorem laid_met (os : Os) : laidMet Tryz.prog Rows.retimePeriodsUptoRow.laid ((laidWorld os).forCall (fun _ _ => 0) ⟨#[], wArgs, []⟩).memory :=
  laidMet_of_run' 8 (by kernel_rfl) (by kernel_rfl)
theorem reads26 (os : Os) {H : Type} (enc : TypeId × Value → H) : ∃ places, DataW.whole enc Tryz.prog ((laidWorld os).forCall (fun _ _ => 0) ⟨#[], wArgs, []⟩).memory Tryz.f3.params.toList Rows.retimePeriodsSpec.vars false wArgs.toList 8 = some ([.agg [.lit (.string []), .nil, .nil, .nil, .nil], .nil], [], places) :=
  ⟨[], by kernel_rfl⟩
set_option maxRecDepth 100000 in
theorem liftedUpto (os : Os) (started : os.Started) (H : Type) (enc : TypeId × Value → H) (F : Stop.Interp) :
    ReturnsInHanded {} Tryz.checked os 3 .any ((Rows.OpenSpec.upto Rows.retimePeriodsSpec).preRow enc Tryz.prog Tryz.f3 Rows.retimePeriodsUptoRow.domain false Rows.retimePeriodsUptoRow.laid) (((Rows.OpenSpec.upto Rows.retimePeriodsSpec).at F).post enc Tryz.prog Tryz.f3 false true false false) := by
  obtain ⟨places, hx⟩ := reads26 os enc
  refine returnsInHanded_of_row (C := Tryz.checked) (s := Rows.OpenSpec.upto Rows.retimePeriodsSpec) own26 started (by kernel_rfl) Tryz.func3
    (witness_row_at (enc := enc) (C := Tryz.checked) false (laidWorld os) wArgs rfl (by kernel_rfl) (by kernel_rfl) (by kernel_rfl)
      (OpenSpec.preRow_of_cond 8 hx (by kernel_rfl) (fun k hk => by cases hk; kernel_rfl) (by kernel_rfl) (laid_met os))) ?_
  intro W base args ds gs before hval hW _ hcond _ _ _ _
  exact contract H enc W base args ds gs before hval hW (hcond _ rfl)
theorem saidUpto : Rows.RetimePeriodsUptoSaid :=
  OpenClaim.holds_of_cond 3 Tryz.f3 rfl rfl rfl rfl rfl rfl rfl ⟨rfl, rfl, rfl, rfl, rfl⟩ rfl rfl rfl rfl rfl (by kernel_rfl) Tryz.func3 (by kernel_rfl)
    (of_decide_eq_true (by kernel_rfl)) (by unfold Func.isWrapper; first | (rw [if_pos (by decide +kernel)]; kernel_rfl) | (rw [if_neg (by decide +kernel)]; exact ⟨rfl, rfl⟩))
    (fun os started H enc _ F => by rw [OpenClaim.pre_eq_preRow]; exact liftedUpto os started H enc F)
theorem plain26 (f : FuncId) (fn : Func) (hf : Tryz.pinned.checked.prog.funcNamed "ratchet/ratchetlaw26.RetimePeriods" = some f) (hfn : Tryz.pinned.checked.prog.funcs[f]? = some fn) :
    false = Tryz.pinned.checked.prog.looks [] ∧ ∀ (j : Nat) t, fn.params[j]? = some t → Tryz.pinned.checked.prog.wantsStandIn t = false := by
  obtain rfl : f = 3 := Option.some.inj ((show Tryz.prog.funcNamed "ratchet/ratchetlaw26.RetimePeriods" = some 3 by kernel_rfl).symm.trans hf) |>.symm
  obtain rfl : fn = Tryz.f3 := (Option.some.inj (Tryz.func3.symm.trans hfn)).symm
  refine ⟨by kernel_rfl, fun j t ht => ?_⟩
  rw [Tryz.params3] at ht
  have hm : t = 27 ∨ t = 28 := by simpa using Array.mem_of_getElem? ht
  rcases hm with rfl | rfl
  · exact (show Tryz.prog.wantsStandIn 27 = false by kernel_rfl)
  · exact (show Tryz.prog.wantsStandIn 28 = false by kernel_rfl)
theorem retimePeriodsUpto_card : Rows.RetimePeriodsUptoCardSaid :=
  Claim7.holds_tied_plain_at .later [] _ _ _ _ saidUpto (fun _ h => by cases h) (by kernel_rfl) (fun _ h => by cases h) retimePeriodsUpto_row_tie rfl ⟨rfl, rfl⟩ (by kernel_rfl) rfl plain26 (by kernel_rfl)
end Go.Pvm.Seat
namespace Go.Proofs.YtkajgpdokbinlaaGreatDoor
theorem retimePeriodsUpto_law : Rows.RetimePeriodsUptoCardSaid := Go.Pvm.Seat.retimePeriodsUpto_card
end Go.Proofs.YtkajgpdokbinlaaGreatDoor
