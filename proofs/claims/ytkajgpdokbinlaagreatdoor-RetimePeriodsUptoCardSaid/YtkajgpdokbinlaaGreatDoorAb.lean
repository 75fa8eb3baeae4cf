/- RetimePeriods (second form, tied card): the law answers true at every netlist and list of delays whose reading is of bulk at most 1048576, and the input reads as it did; no further condition. This text: part Ab (S8 S9 S10 S11 S12 S13 S14 S15 S16 S17 S18). -/
import Derived.Test.YtkajgpdokbinlaaGreatDoorAa
import Derived.Laws.Tables
import Derived.Laws.MakeOwn
import Derived.Laws.OwnMore
import Derived.Laws.IdiomStrings
import Derived.Laws.BytesArg
import Derived.Laws.Slices
import Derived.MapKept
set_option linter.unusedVariables false
set_option linter.unusedSimpArgs false
set_option linter.unnecessarySimpa false
namespace Go.Pvm
open Go.RowKit

/-- Nothing moves in the world; some blocks are known not to change any more. -/
structure Frz (K : Nat → Prop) (Γ Γ' : Ctx) (st' : Store) : Prop where
  w : Γ'.w = Γ.w
  φ : Γ'.φ = Γ.φ
  le : Γ.le Γ'
  sr : SR K Γ' st'
  zz : ∀ b, Γ'.Z b → Γ.Z b ∨ K b
theorem Frz.refl {K : Nat → Prop} {Γ : Ctx} {st : Store} (h : SR K Γ st) : Frz K Γ Γ st := ⟨rfl, rfl, Ctx.le.refl Γ, h, fun _ h => .inl h⟩
theorem Frz.trans {K : Nat → Prop} {Γ Γ1 Γ2 : Ctx} {st1 st2 : Store} (h : Frz K Γ Γ1 st1) (k : Frz K Γ1 Γ2 st2) : Frz K Γ Γ2 st2 := ⟨k.w.trans h.w, k.φ.trans h.φ, h.le.trans k.le, k.sr, fun b hb => (k.zz b hb).elim (h.zz b) .inr⟩
theorem Frz.out {w0 : World} {M : Nat → Prop} {n0 : Nat} {Γ Γ' : Ctx} {st' : Store} (h : Frz (KK w0 M) Γ Γ' st') (k : Keep w0 M Γ.w) : Out w0 M n0 Γ Γ' st' :=
  ⟨h.le, h.sr, by rw [h.w]; exact k, fun id _ hn => by rw [h.φ]; exact hn, h.zz⟩

theorem own_inv {Γ : Ctx} {id : Nat} {v : Value} (h : VR Γ (.own id) v) : ∃ a n cap, v = .slice a n cap ∧ Γ.φ id = some (.slice a n cap) := by
  cases h with
  | own id a n cap h => exact ⟨a, n, cap, rfl, h⟩
theorem ownsRow_shape {w : World} {base e size n : Nat} {v : Value} {vs : List Value} (h : w.ownsRow base e size v n vs) :
    ∃ a cap, v = .slice a n cap ∧ n ≤ cap ∧ (a = none → n = 0 ∧ cap = 0) ∧ (∀ ad, a = some ad → ∃ g, ad = ⟨g, 0, none⟩ ∧ v.ownBlock = some g ∧ blk v = some g ∧ g < w.heap.size) ∧ (a = none → blk v = none) := by
  have hlt := h.lt
  rcases h.2 with ⟨rfl, rfl⟩ | ⟨g, cap, cur, rfl, _, hg, hn, _⟩
  · exact ⟨none, 0, rfl, Nat.le_refl _, fun _ => ⟨rfl, rfl⟩, fun ad h => (by cases h), fun _ => rfl⟩
  · exact ⟨some ⟨g, 0, none⟩, cap, rfl, hn, fun h => (by cases h), fun ad h => ⟨g, (Option.some.inj h).symm, rfl, rfl, (hlt g rfl).2⟩, fun h => by cases h⟩
/-- a row read as a list -/
theorem row_sl {Γ Γ' : Ctx} {id : Nat} {e sz : Nat} {xs : List PVal} {v : Value} (m : Mode) (hm : m = .fr ∨ m = .bor) (h : RowOK Γ id false e sz xs) (hv : Γ.φ id = some v) (hle : Γ.le Γ')
    (hw : Γ'.w = Γ.w) (hz : ∀ g, blk v = some g → Γ'.S (m == .bor) g) : VR Γ' (.sl m sz xs) v := by
  obtain ⟨v', vs, hv', hs, hr, hc, hcl⟩ := h
  rw [hv] at hv'
  obtain rfl := Option.some.inj hv'
  obtain ⟨a, cap, rfl, hcap, ha0, ha1, _⟩ := ownsRow_shape hr
  refine .sl m sz xs a cap (fun e => ?_) ?_ hcap (fun x hx => (hc.1 x hx).1) (hcl rfl) (fun hne => ?_) (fun i j => (vs[i * sz + j]?).getD undef) (fun ad i x j c had hx hj => ?_) (fun i x j c hx hj => ?_)
  · rcases hm with rfl | rfl <;> cases e
  · rcases hm with rfl | rfl <;> exact ⟨fun e => (by cases e), fun _ e => (by cases e)⟩
  · cases a with
    | none => exact absurd (List.eq_nil_of_length_eq_zero (ha0 rfl).1) hne
    | some ad => obtain ⟨g, rfl, _, hb, _⟩ := ha1 ad rfl; exact ⟨_, rfl, hz g hb⟩
  · obtain ⟨g, rfl, ho, _, _⟩ := ha1 ad had
    obtain ⟨u, hu, hvr⟩ := hc.2 i x j c hx hj
    have := hr.cells ho (i * sz + j) u hu
    rw [hw, hu]
    exact this
  · obtain ⟨u, hu, hvr⟩ := hc.2 i x j c hx hj
    simp only [hu, Option.getD_some]
    exact hvr.mono hle
theorem frz_sl {Γ : Ctx} {id : Nat} {sz : Nat} {xs : List PVal} {v : Value} (h : FrzOK Γ id false sz xs) (hv : Γ.φ id = some v) : VR Γ (.sl .fr sz xs) v := by
  obtain ⟨a, cap, hv', hcap, h1, hz, hcl⟩ := h
  rw [hv] at hv'
  obtain rfl := Option.some.inj hv'
  by_cases hne : xs = []
  · subst hne
    exact .sl .fr sz [] a cap (fun e => by cases e) ⟨fun e => (by cases e), fun _ e => (by cases e)⟩ hcap (fun x hx => by cases hx) (fun x hx => by cases hx) (fun e => absurd rfl e) (fun _ _ => undef) (fun ad i x j c had hx => by simp at hx) (fun i x j c hx => by simp at hx)
  · obtain ⟨g, rfl, hzg, f, hf⟩ := hz hne
    refine .sl .fr sz xs _ cap (fun e => by cases e) ⟨fun e => (by cases e), fun _ e => (by cases e)⟩ hcap (fun x hx => (h1 x hx).1) (hcl rfl) (fun _ => ⟨_, rfl, .inl hzg⟩) f (fun ad i x j c had hx hj => ?_) (fun i x j c hx hj => (hf i x j c hx hj).2)
    have := Option.some.inj had
    subst this
    rw [add_mk, Nat.zero_add]
    exact (hf i x j c hx hj).1
/-- a row is frozen -/
theorem row_frz {K : Nat → Prop} {Γ : Ctx} {st : Store} {id : Nat} {bx : Bool} {e sz : Nat} {xs : List PVal} (hsr : SR K Γ st) (ho : st id = .row bx e sz xs) :
    ∃ Γ', Frz K Γ Γ' (st.upd id (.frz bx sz xs)) ∧ (∀ v g, Γ.φ id = some v → blk v = some g → Γ'.Z g) := by
  have hob := hsr.obj id
  rw [ho] at hob
  obtain ⟨v, vs, hv, hs, hr, hc, hcl⟩ := hob
  obtain ⟨a, cap, rfl, hcap, ha0, ha1, hbn⟩ := ownsRow_shape hr
  have hle : Γ.le { Γ with Z := fun b => Γ.Z b ∨ blk (.slice a xs.length cap) = some b } := ⟨fun _ h => .inl h, fun _ => Iff.rfl, fun _ _ => rfl, fun _ _ h => h⟩
  refine ⟨{ Γ with Z := fun b => Γ.Z b ∨ blk (.slice a xs.length cap) = some b }, ⟨rfl, rfl, hle, ?_, fun b hb => hb.imp (fun h => h) fun h => (hsr.own id _ b (by rw [ho]; rfl) hv h).1⟩, fun v' g hv' hg => Or.inr ?_⟩
  · refine hsr.put hle id (.frz bx sz xs) (fun id' v' k hne hl hv' hk => ⟨rfl, fun hz => ?_⟩) (fun _ _ _ h => h) ⟨a, cap, hv, hcap, hc.1, fun hne => ?_, hcl⟩ (fun hl => by cases hl) (fun b hz => ?_)
    · rcases hz with hz | hz
      · exact (hsr.own id' v' k hl hv' hk).2.1 hz
      · exact hne (hsr.disj id' id v' _ k hl (by rw [ho]; rfl) hv' hv hk hz)
    · cases a with
      | none => exact absurd (List.eq_nil_of_length_eq_zero (ha0 rfl).1) hne
      | some ad =>
        obtain ⟨g, rfl, hob, hb, _⟩ := ha1 ad rfl
        refine ⟨g, rfl, .inr hb, fun i j => (vs[i * sz + j]?).getD undef, fun i x j c hx hj => ?_⟩
        obtain ⟨u, hu, hvr⟩ := hc.2 i x j c hx hj
        have := hr.cells hob (i * sz + j) u hu
        rw [add_mk, Nat.zero_add] at this
        simp only [hu, Option.getD_some]
        exact ⟨this, hvr.mono hle⟩
    · rcases hz with (hz | hz) | hz
      · exact hsr.zlt b (.inl hz)
      · cases a with
        | none => rw [hbn rfl] at hz; cases hz
        | some ad =>
          obtain ⟨g, rfl, _, hb, hlt⟩ := ha1 ad rfl
          rw [hb] at hz
          obtain rfl := Option.some.inj hz
          exact hlt
      · exact hsr.zlt b (.inr hz)
  · rw [hv] at hv'
    obtain rfl := Option.some.inj hv'
    exact hg

mutual
theorem freezeV_ok {K : Nat → Prop} : ∀ (p : PVal) {Γ : Ctx} {st st' : Store} {p' : PVal} {u : Value} {T W : List Nat}, SR K Γ st → VR Γ p u → (freezeV .fr p).run st = .ok (p', st', T, W) →
    ∃ Γ', Frz K Γ Γ' st' ∧ VR Γ' p' u := by
  intro p Γ st st' p' u T W hsr hp h
  cases p with
  | own id =>
    simp only [freezeV] at h
    obtain ⟨t', h⟩ := AM.get_ok h
    obtain ⟨a, n, cap, rfl, hφ⟩ := own_inv hp
    have hob := hsr.obj id
    cases ho : st id with
    | none => rw [ho] at h; exact (AM.fail_ok h).elim
    | mp es => rw [ho] at h; exact (AM.fail_ok h).elim
    | row bx e sz xs =>
      rw [ho] at h hob
      cases bx with
      | true => exact (AM.fail_ok h).elim
      | false =>
        obtain ⟨w', h⟩ := AM.put_ok h
        obtain ⟨rfl, rfl⟩ := AM.pure_ok h
        obtain ⟨Γ', hf, hz⟩ := row_frz hsr ho
        exact ⟨Γ', hf, row_sl .fr (.inl rfl) hob hφ hf.le hf.w (fun g hg => .inl (hz _ g hφ hg))⟩
    | frz bx sz xs =>
      rw [ho] at h hob
      cases bx with
      | true => exact (AM.fail_ok h).elim
      | false =>
        obtain ⟨rfl, rfl⟩ := AM.pure_ok h
        exact ⟨Γ, Frz.refl hsr, frz_sl hob hφ⟩
  | sl m sz xs =>
    have key : ∀ m', (freezeV .fr (.sl m sz xs)).run st = .ok (p', st', T, W) → m = m' → (m' = .clip ∨ m' = .nl ∨ ∃ b, m' = .as b) → ∃ Γ', Frz K Γ Γ' st' ∧ VR Γ' p' u := by
      intro m' h hm hmm
      subst hm
      have h' : (AM.pure (PVal.sl .fr sz xs)).run st = .ok (p', st', T, W) := by rcases hmm with rfl | rfl | ⟨_, rfl⟩ <;> simpa only [freezeV] using h
      obtain ⟨rfl, rfl⟩ := AM.pure_ok h'
      obtain ⟨a, cap, f, rfl, g1, g2, g3, g4, g5, g6, g7, g8⟩ := sl_inv hp
      refine ⟨Γ, Frz.refl hsr, .sl .fr sz xs a cap (fun e => by cases e) ⟨fun e => (by cases e), fun _ e => (by cases e)⟩ g3 g4 g5 (fun hne => ?_) f g7 g8⟩
      obtain ⟨ad, e, hs⟩ := g6 hne
      refine ⟨ad, e, .inl ?_⟩
      rcases hs with hs | ⟨hb, _⟩
      · exact hs
      · rcases hmm with rfl | rfl | ⟨_, rfl⟩ <;> cases hb
    cases m with
    | clip => exact key _ h rfl (.inl rfl)
    | nl => exact key _ h rfl (.inr (.inl rfl))
    | as b => exact key _ h rfl (.inr (.inr ⟨b, rfl⟩))
    | fr => simp only [freezeV] at h; obtain ⟨rfl, rfl⟩ := AM.pure_ok h; exact ⟨Γ, Frz.refl hsr, hp⟩
    | bor => simp only [freezeV] at h; obtain ⟨rfl, rfl⟩ := AM.pure_ok h; exact ⟨Γ, Frz.refl hsr, hp⟩
  | agg cs =>
    simp only [freezeV] at h
    obtain ⟨cs', s1, t1, w1, t2, w2, h1, h2, _, _⟩ := AM.bind_ok h
    obtain ⟨rfl, rfl⟩ := AM.pure_ok h2
    cases hp with
    | agg _ vs hl hv =>
      obtain ⟨Γ', hf, hl', hv'⟩ := freezeL_ok cs hsr (vs := vs.toList) (by simpa using hl) (fun i c v hi hvi => hv i c v hi (by simpa using hvi)) h1
      exact ⟨Γ', hf, .agg _ _ (by simpa using hl') (fun i c v hi hvi => hv' i c v hi (by simpa using hvi))⟩
  | tup cs =>
    simp only [freezeV] at h
    obtain ⟨cs', s1, t1, w1, t2, w2, h1, h2, _, _⟩ := AM.bind_ok h
    obtain ⟨rfl, rfl⟩ := AM.pure_ok h2
    cases hp with
    | tup _ vs hl hv =>
      obtain ⟨Γ', hf, hl', hv'⟩ := freezeL_ok cs hsr (vs := vs.toList) (by simpa using hl) (fun i c v hi hvi => hv i c v hi (by simpa using hvi)) h1
      exact ⟨Γ', hf, .tup _ _ (by simpa using hl') (fun i c v hi hvi => hv' i c v hi (by simpa using hvi))⟩
  | _ => simp only [freezeV] at h; obtain ⟨rfl, rfl⟩ := AM.pure_ok h; exact ⟨Γ, Frz.refl hsr, hp⟩
theorem freezeL_ok {K : Nat → Prop} : ∀ (cs : List PVal) {Γ : Ctx} {st st' : Store} {cs' : List PVal} {vs : List Value} {T W : List Nat}, SR K Γ st → cs.length = vs.length →
    (∀ (i : Nat) (c : PVal) (v : Value), cs[i]? = some c → vs[i]? = some v → VR Γ c v) → (freezeV.freezeL .fr cs).run st = .ok (cs', st', T, W) →
    ∃ Γ', Frz K Γ Γ' st' ∧ cs'.length = vs.length ∧ ∀ (i : Nat) (c : PVal) (v : Value), cs'[i]? = some c → vs[i]? = some v → VR Γ' c v := by
  intro cs Γ st st' cs' vs T W hsr hl hv h
  cases cs with
  | nil =>
    simp only [freezeV.freezeL] at h
    obtain ⟨rfl, rfl⟩ := AM.pure_ok h
    exact ⟨Γ, Frz.refl hsr, hl, fun i c v hi => by simp at hi⟩
  | cons c cs =>
    simp only [freezeV.freezeL] at h
    cases vs with
    | nil => simp at hl
    | cons v vs =>
      obtain ⟨c', s1, t1, w1, t2, w2, h1, h2, _, _⟩ := AM.bind_ok h
      obtain ⟨cs', s2, t3, w3, t4, w4, h3, h4, _, _⟩ := AM.bind_ok h2
      obtain ⟨rfl, rfl⟩ := AM.pure_ok h4
      obtain ⟨Γ1, hf1, hv1⟩ := freezeV_ok c hsr (hv 0 c v rfl rfl) h1
      obtain ⟨Γ2, hf2, hl2, hv2⟩ := freezeL_ok cs hf1.sr (vs := vs) (by simpa using hl) (fun i c v hi hvi => (hv (i + 1) c v (by simpa using hi) (by simpa using hvi)).mono hf1.le) h3
      refine ⟨Γ2, hf1.trans hf2, by simp [hl2], fun i d u hi hu => ?_⟩
      cases i with
      | zero => simp at hi hu; subst hi; subst hu; exact hv1.mono hf2.le
      | succ i => exact hv2 i d u (by simpa using hi) (by simpa using hu)
end
end Go.Pvm
namespace Go.Pvm
open Go.RowKit

theorem at_self (Γ : Ctx) (w : World) (id : Nat) (v : Value) : (Γ.at_ w id v).φ id = some v := by simp [Ctx.at_]
theorem at_ne (Γ : Ctx) (w : World) {id k : Nat} (v : Value) (h : k ≠ id) : (Γ.at_ w id v).φ k = Γ.φ k := by simp [Ctx.at_, h]
theorem grown_refl (w : World) (r : Option Nat) : w.grownBy w r := ⟨rfl, rfl, rfl, Nat.le_refl _, fun _ _ _ => rfl⟩
theorem live_lt {K : Nat → Prop} {Γ : Ctx} {st : Store} (hsr : SR K Γ st) {id : Nat} {v : Value} {k : Nat} (hl : (st id).live = true) (hv : Γ.φ id = some v) (hk : blk v = some k) : k < Γ.w.heap.size := by
  have hob := hsr.obj id
  cases ho : st id with
  | none => rw [ho] at hl; cases hl
  | frz bx sz xs => rw [ho] at hl; cases hl
  | row bx e sz xs =>
    rw [ho] at hob
    obtain ⟨v', vs, hv', _, hr, _⟩ := hob
    rw [hv] at hv'
    obtain rfl := Option.some.inj hv'
    obtain ⟨a, cap, rfl, _, _, ha1, hn⟩ := ownsRow_shape hr
    cases a with
    | none => rw [hn rfl] at hk; cases hk
    | some ad => obtain ⟨g, _, _, hb, hlt⟩ := ha1 ad rfl; rw [hb] at hk; obtain rfl := Option.some.inj hk; exact hlt
  | mp es =>
    rw [ho] at hob
    obtain ⟨r, ents, clock, hv', hr, _⟩ := hob
    rw [hv] at hv'
    obtain rfl := Option.some.inj hv'
    obtain rfl := Option.some.inj hk
    exact (Array.getElem?_eq_some_iff.1 hr).1
/-- A new object in new blocks. -/
theorem out_new {w0 : World} {M : Nat → Prop} {n0 : Nat} {Γ : Ctx} {st : Store} {w' : World} {id : Nat} {v : Value} {o : AObj} (hsr : SR (KK w0 M) Γ st) (hk : Keep w0 M Γ.w) (hn : Γ.φ id = none)
    (hg : Γ.w.grownBy w' none) (hb : ∀ k, blk v = some k → Γ.w.heap.size ≤ k ∧ k < w'.heap.size) (hid : n0 ≤ id ∧ id < n0 + 16) (hob : ObjOK (Γ.at_ w' id v) id o) : Out w0 M n0 Γ (Γ.at_ w' id v) (st.upd id o) := by
  have hblk : ∀ b, b < Γ.w.heap.size → w'.heap[b]? = Γ.w.heap[b]? := fun b hb => hg.block b hb (by simp)
  have hle : Γ.le (Γ.at_ w' id v) := Ctx.at_le hn fun b hz => hblk b (hsr.zlt b hz)
  refine ⟨hle, ?_, hk.step hg.os hg.tape hg.output hg.size (fun b hb _ => hblk b hb), fun k hi hk => ?_, fun b h => .inl h⟩
  · refine hsr.put hle id o (fun id' v' k hne hl hv' hk' => ⟨hblk k (live_lt hsr hl hv' hk'), (hsr.own id' v' k hl hv' hk').2.1⟩) (fun id' v' hne h => by rwa [at_ne _ _ _ hne] at h) hob (fun hl v' k hv' hk' => ?_) (fun b hz => Nat.lt_of_lt_of_le (hsr.zlt b hz) hg.size)
    rw [at_self] at hv'
    obtain rfl := Option.some.inj hv'
    have h1 := hb k hk'
    refine ⟨.inr (Nat.le_trans hk.size h1.1), fun hz => ?_, fun hz => ?_, fun id' v' hne hl hv' hk'' => ?_⟩
    · have := hsr.zlt k (.inl hz); omega
    · have := hsr.zlt k (.inr hz); omega
    · have := live_lt hsr hl hv' hk''; omega
  · rw [at_ne _ _ _ (by omega)]; exact hk
theorem nil_inv {Γ : Ctx} {sz : Nat} {u : Value} (h : VR Γ (.sl .nl sz []) u) : u = .slice none 0 0 := by
  obtain ⟨a, cap, f, rfl, g1, _⟩ := sl_inv h
  obtain ⟨_, rfl, rfl⟩ := g1 rfl
  rfl
theorem row_nil (Γ : Ctx) (bx : Bool) (id e sz : Nat) (h : Γ.φ id = some (.slice none 0 0)) (hs : 0 < sz) : RowOK Γ id bx e sz [] :=
  ⟨_, [], h, hs, World.ownsRow_nil _ _ _ _, ⟨(by simp), (by simp)⟩, (by simp)⟩

def updAll (st : Store) : List (Nat × AObj) → Store
  | [] => st
  | (id, o) :: r => updAll (st.upd id o) r
theorem putAll_ok {α : Type} {l : List (Nat × AObj)} {k : AM α} {b : α} {s s' : Store} {t w : List Nat} (h : (putAll l k).run s = .ok (b, s', t, w)) : ∃ w', k.run (updAll s l) = .ok (b, s', t, w') := by
  induction l generalizing s w with
  | nil => exact ⟨w, h⟩
  | cons p r ih =>
    obtain ⟨id, o⟩ := p
    simp only [putAll] at h
    obtain ⟨w1, h1⟩ := AM.put_ok h
    exact ih h1
/-- what zeroOwn comes to -/
def ZO (w0 : World) (M : Nat → Prop) (n n0 : Nat) (Γ : Ctx) (st : Store) (us : List Value) (z : List PVal × List (Nat × AObj)) : Prop :=
  ∃ Γ' : Ctx, Γ'.w = Γ.w ∧ Out w0 M n0 Γ Γ' (updAll st z.2) ∧ z.1.length = us.length ∧ (∀ (i : Nat) (c : PVal) (u : Value), z.1[i]? = some c → us[i]? = some u → VR Γ' c u) ∧ (∀ id, id < n → Γ'.φ id = Γ.φ id)
theorem zeroOwn_ok {w0 : World} {M : Nat → Prop} : ∀ (cs : List PVal) (hs : List (Option (Nat × Nat))) (n n0 : Nat) (Γ : Ctx) (st : Store) (us : List Value), SR (KK w0 M) Γ st → Keep w0 M Γ.w → cs.length = us.length →
    (∀ (i : Nat) (c : PVal) (u : Value), cs[i]? = some c → us[i]? = some u → VR Γ c u) → hintsOk hs = true → (∀ id, n ≤ id → id < n0 + 16 → Γ.φ id = none) → n0 ≤ n → n + (zeroOwn n cs hs).2.length ≤ n0 + 16 →
    ZO w0 M n n0 Γ st us (zeroOwn n cs hs)
  | [], hs, n, n0, Γ, st, us, hsr, hk, hl, hv, hh, hf, h0, hlen => by
    simp only [zeroOwn]
    exact ⟨Γ, rfl, Out.same hsr hk, hl, fun i c u hi => by simp at hi, fun _ _ => rfl⟩
  | c :: cs, hs, n, n0, Γ, st, [], hsr, hk, hl, hv, hh, hf, h0, hlen => by simp at hl
  | c :: cs, hs, n, n0, Γ, st, u :: us, hsr, hk, hl, hv, hh, hf, h0, hlen => by
    have hl' : cs.length = us.length := by simpa using hl
    have hv' : ∀ (i : Nat) (c : PVal) (u : Value), cs[i]? = some c → us[i]? = some u → VR Γ c u := fun i d u hi hu => hv (i + 1) d u (by simpa using hi) (by simpa using hu)
    have hc := hv 0 c u rfl rfl
    have plain : ∀ hs', hintsOk hs' = true → zeroOwn n (c :: cs) hs = (c :: (zeroOwn n cs hs').1, (zeroOwn n cs hs').2) → ZO w0 M n n0 Γ st (u :: us) (zeroOwn n (c :: cs) hs) := fun hs' hh' e => by
      rw [e] at hlen ⊢
      obtain ⟨Γ', hw, ho, hl2, hv2, hφ⟩ := zeroOwn_ok cs hs' n n0 Γ st us hsr hk hl' hv' hh' hf h0 hlen
      refine ⟨Γ', hw, ho, by simp [hl2], fun i d v hi hu => ?_, hφ⟩
      cases i with
      | zero => simp at hi hu; subst hi; subst hu; exact hc.mono ho.le
      | succ i => exact hv2 i d v (by simpa using hi) (by simpa using hu)
    have fresh : ∀ e sz hs', hs = some (e, sz) :: hs' → ∀ q, c = .sl .nl q [] → ZO w0 M n n0 Γ st (u :: us) (zeroOwn n (c :: cs) hs) := fun e sz hs' ehs q ec => by
      subst ehs; subst ec
      simp only [hintsOk, Bool.and_eq_true, Bool.not_eq_true'] at hh
      have hsz : 0 < sz := by
        rcases Nat.eq_zero_or_pos sz with h | h
        · subst h; simp at hh
        · exact h
      simp only [zeroOwn, List.length_cons] at hlen
      have hn : Γ.φ n = none := hf n (Nat.le_refl _) (by omega)
      have hu := nil_inv hc
      subst hu
      have ho := out_new (n0 := n0) (o := .row false e sz []) (v := .slice none 0 0) hsr hk hn (grown_refl Γ.w none) (fun k hk => by cases hk) ⟨h0, by omega⟩ (row_nil _ _ _ _ _ (at_self _ _ _ _) hsz)
      obtain ⟨Γ', hw, ho', hl2, hv2, hφ⟩ := zeroOwn_ok cs hs' (n + 1) n0 _ _ us ho.sr ho.keep hl' (fun i d u hi hu => (hv' i d u hi hu).mono ho.le) hh.2
        (fun id h1 h2 => by rw [at_ne _ _ _ (by omega)]; exact hf id (by omega) h2) (by omega) (by omega)
      refine ⟨Γ', hw, ho.trans ho', by simp [zeroOwn, hl2], fun i d v hi hu => ?_, fun id hid => (hφ id (by omega)).trans (at_ne _ _ _ (by omega))⟩
      cases i with
      | zero => simp [zeroOwn] at hi hu; subst hi; subst hu; exact (VR.own n none 0 0 (ho'.le.φ _ _ (at_self _ _ _ _)))
      | succ i => exact hv2 i d v (by simpa [zeroOwn] using hi) (by simpa using hu)
    cases hs with
    | nil => exact plain [] rfl (by cases c <;> simp [zeroOwn])
    | cons h1 hs' =>
      have hh' : hintsOk hs' = true := by
        cases h1 with
        | none => simpa [hintsOk] using hh
        | some p => obtain ⟨e, sz⟩ := p; simp only [hintsOk, Bool.and_eq_true] at hh; exact hh.2
      cases h1 with
      | none => exact plain hs' hh' (by cases c <;> simp [zeroOwn])
      | some p =>
        obtain ⟨e, sz⟩ := p
        cases c with
        | sl m q xs =>
          cases m with
          | nl => cases xs with
            | nil => exact fresh e sz hs' rfl q rfl
            | cons x xs => exact plain hs' hh' (by simp [zeroOwn])
          | _ => exact plain hs' hh' (by simp [zeroOwn])
        | _ => exact plain hs' hh' (by simp [zeroOwn])
section
variable {E : Env}
theorem rebuild_one {v c : PVal} (h : ∀ cs, v ≠ .agg cs) : rebuild v [c] = c := by
  cases v <;> first | rfl | exact absurd rfl (h _)
theorem cells_one {v : PVal} (h : ∀ cs, v ≠ .agg cs) : v.cells = [v] := by
  cases v <;> first | rfl | exact absurd rfl (h _)
theorem varOf_ok {w0 : World} {M : Nat → Prop} {n n0 : Nat} {Γ : Ctx} {st st' : Store} {t : Nat} {v v' : PVal} {u : Value} {T W : List Nat} (hsr : SR (KK w0 M) Γ st) (hk : Keep w0 M Γ.w) (hv : VR Γ v u)
    (hf : ∀ id, n ≤ id → id < n0 + 16 → Γ.φ id = none) (h0 : n0 ≤ n) (h1 : n ≤ n0 + 1) (h : (varOf E n t v).run st = .ok (v', st', T, W)) :
    ∃ Γ', Γ'.w = Γ.w ∧ Out w0 M n0 Γ Γ' st' ∧ VR Γ' v' u ∧ oneL v'.cells = true ∧ (∀ id, id < n → Γ'.φ id = Γ.φ id) := by
  unfold varOf at h
  dsimp only at h
  rcases AM.bif_ok h with ⟨hb, h2⟩ | ⟨_, h2⟩
  · simp only [Bool.and_eq_true] at hb
    obtain ⟨⟨hlen, hh⟩, hone⟩ := hb
    have hlen := Nat.le_of_ble_eq_true hlen
    obtain ⟨w', h3⟩ := putAll_ok h2
    obtain ⟨rfl, rfl⟩ := AM.pure_ok h3
    by_cases ha : ∃ cs, v = .agg cs
    · obtain ⟨cs, rfl⟩ := ha
      cases hv with
      | agg _ us hl hvs =>
        obtain ⟨Γ', hw, ho, hl2, hv2, hφ⟩ := zeroOwn_ok cs (E.h.zcell t) n n0 Γ st us.toList hsr hk (by simpa using hl) (fun i c u hi hu => hvs i c u hi (by simpa using hu)) hh hf h0 (by simp only [PVal.cells] at hlen; omega)
        exact ⟨Γ', hw, ho, .agg _ _ (by simpa [PVal.cells] using hl2) (fun i c u hi hu => hv2 i c u hi (by simpa using hu)), hone, hφ⟩
    · have hna : ∀ cs, v ≠ .agg cs := fun cs e => ha ⟨cs, e⟩
      have hc := cells_one hna
      obtain ⟨Γ', hw, ho, hl2, hv2, hφ⟩ := zeroOwn_ok v.cells (E.h.zcell t) n n0 Γ st [u] hsr hk (by rw [hc]; rfl) (fun i c u' hi hu => by
        rw [hc] at hi
        cases i with
        | zero => simp at hi hu; subst hi; subst hu; exact hv
        | succ i => simp at hi) hh hf h0 (by omega)
      generalize hz : (zeroOwn n v.cells (E.h.zcell t)) = z at *
      obtain ⟨zs, zl⟩ := z
      cases zs with
      | nil => simp at hl2
      | cons c zs =>
        cases zs with
        | cons d zs => simp at hl2
        | nil =>
          simp only [] at *
          rw [rebuild_one hna]
          have hco : c.one = true := by simp [oneL] at hone; exact hone
          exact ⟨Γ', hw, ho, hv2 0 c u rfl rfl, by rw [oneL_one hco]; simp [oneL, hco], hφ⟩
  · exact (AM.fail_ok h2).elim
theorem nilOwn_ok {w0 : World} {M : Nat → Prop} {n0 : Nat} {Γ : Ctx} {st st' : Store} {t : Nat} {v v' : PVal} {u : Value} {T W : List Nat} (hsr : SR (KK w0 M) Γ st) (hk : Keep w0 M Γ.w) (hv : VR Γ v u)
    (hf : ∀ id, n0 ≤ id → id < n0 + 16 → Γ.φ id = none) (h : (nilOwn E n0 t v).run st = .ok (v', st', T, W)) : ∃ Γ', Γ'.w = Γ.w ∧ Out w0 M n0 Γ Γ' st' ∧ VR Γ' v' u := by
  have same : (AM.pure v).run st = .ok (v', st', T, W) → ∃ Γ', Γ'.w = Γ.w ∧ Out w0 M n0 Γ Γ' st' ∧ VR Γ' v' u := fun h => by
    obtain ⟨rfl, rfl⟩ := AM.pure_ok h
    exact ⟨Γ, rfl, Out.same hsr hk, hv⟩
  unfold nilOwn at h
  split at h
  · split at h
    · rename_i e hu
      rcases AM.bif_ok h with ⟨hb, h2⟩ | ⟨_, h2⟩
      · obtain ⟨w', h3⟩ := AM.put_ok h2
        obtain ⟨rfl, rfl⟩ := AM.pure_ok h3
        have hu := nil_inv hv
        subst hu
        have ho := out_new (n0 := n0) (o := .row false e (E.P.cellsOf e) []) (v := .slice none 0 0) hsr hk (hf n0 (Nat.le_refl _) (by omega)) (grown_refl Γ.w none) (fun k hk => by cases hk) ⟨Nat.le_refl _, by omega⟩
          (row_nil _ _ _ _ _ (at_self _ _ _ _) (Nat.le_of_ble_eq_true hb))
        exact ⟨Γ.at_ Γ.w n0 (.slice none 0 0), rfl, ho, .own n0 none 0 0 (at_self _ _ _ _)⟩
      · exact (AM.fail_ok h2).elim
    · exact same h
  · exact same h
end
end Go.Pvm
namespace Go.Pvm
open Go.RowKit
theorem nil_VR (Γ : Ctx) (sz : Nat) : VR Γ (.sl .nl sz []) (.slice none 0 0) :=
  .sl .nl sz [] none 0 (fun _ => ⟨rfl, rfl, rfl⟩) ⟨fun h => (by cases h), fun _ h => (by cases h)⟩ (Nat.le_refl _) (by simp) (by simp) (fun h => absurd rfl h) (fun _ _ => undef) (fun ad i x j c h => by cases h) (fun i x j c h => by simp at h)
theorem ofCell_VR (Γ : Ctx) (v : Value) : VR Γ (ofCell v) v := by
  unfold ofCell
  split
  · exact .int _ _
  · exact .bool _
  · exact .str _
  · exact .nilptr
  · exact nil_VR Γ 1
  · exact .nilmap
  · exact .nilfn
  · exact .fn _ [] #[] rfl (fun i c v h => by simp at h)
  · exact .nilif
  · exact .tup [] #[] rfl (fun i c v h => by simp at h)
  · exact .undef _
theorem ofConst_VR (Γ : Ctx) (v : Value) : VR Γ (ofConst v) v := by
  unfold ofConst
  split
  · rename_i cs
    refine .agg _ cs (by simp) fun i c v hi hv => ?_
    rw [List.getElem?_map, Option.map_eq_some_iff] at hi
    obtain ⟨u, hu, rfl⟩ := hi
    rw [← Array.getElem?_toList, hu] at hv
    obtain rfl := Option.some.inj hv
    exact ofCell_VR Γ _
  · exact ofCell_VR Γ _
theorem sizedNil_VR {Γ : Ctx} : ∀ (cs : List PVal) (hs : List (Option (Nat × Nat))), (sizedNil cs hs).length = cs.length ∧
    ∀ (i : Nat) (c d : PVal) (u : Value), (sizedNil cs hs)[i]? = some c → cs[i]? = some d → VR Γ d u → VR Γ c u
  | [], hs => by simp [sizedNil]
  | c :: cs, hs => by
    have plain : ∀ hs', sizedNil (c :: cs) hs = c :: sizedNil cs hs' → (sizedNil (c :: cs) hs).length = (c :: cs).length ∧
        ∀ (i : Nat) (d e : PVal) (u : Value), (sizedNil (c :: cs) hs)[i]? = some d → (c :: cs)[i]? = some e → VR Γ e u → VR Γ d u := fun hs' e => by
      have ih := sizedNil_VR (Γ := Γ) cs hs'
      rw [e]
      refine ⟨by simp [ih.1], fun i d q u hi hq hv => ?_⟩
      cases i with
      | zero => simp at hi hq; subst hi; subst hq; exact hv
      | succ i => exact ih.2 i d q u (by simpa using hi) (by simpa using hq) hv
    cases hs with
    | nil => exact plain [] (by cases c <;> simp [sizedNil])
    | cons h hs =>
      cases h with
      | none => exact plain hs (by cases c <;> simp [sizedNil])
      | some p =>
        obtain ⟨e, sz⟩ := p
        cases c with
        | sl m q xs =>
          cases m with
          | nl => cases xs with
            | nil =>
              have ih := sizedNil_VR (Γ := Γ) cs hs
              simp only [sizedNil]
              refine ⟨by simp [ih.1], fun i d q u hi hq hv => ?_⟩
              cases i with
              | zero => simp at hi hq; subst hi; subst hq; rw [nil_inv hv]; exact nil_VR Γ sz
              | succ i => exact ih.2 i d q u (by simpa using hi) (by simpa using hq) hv
            | cons x xs => exact plain hs (by simp [sizedNil])
          | _ => exact plain hs (by simp [sizedNil])
        | _ => exact plain hs (by simp [sizedNil])
section
variable {E : Env}
theorem zeroV_ok {t : Nat} {z : PVal} (Γ : Ctx) (h : zeroV E t = .ok z) : ∃ i zv, E.P.info? t = some i ∧ i.zero = some zv ∧ VR Γ z zv := by
  unfold zeroV at h
  split at h
  · rename_i i hi
    split at h
    · rename_i zv hz
      simp only [R.ok.injEq] at h
      subst h
      refine ⟨i, zv, hi, hz, ?_⟩
      have hv := ofConst_VR Γ zv
      have hs := sizedNil_VR (Γ := Γ) (ofConst zv).cells (E.h.zcell t)
      by_cases ha : ∃ cs, ofConst zv = .agg cs
      · obtain ⟨cs, e⟩ := ha
        rw [e] at hv hs ⊢
        cases hv with
        | agg _ us hl hvs =>
          refine .agg _ _ (by rw [hs.1]; exact hl) fun j c u hj hu => ?_
          have hlt : j < cs.length := by rw [hl]; exact (Array.getElem?_eq_some_iff.1 hu).1
          exact hs.2 j c _ u hj (List.getElem?_eq_getElem hlt) (hvs j _ u (List.getElem?_eq_getElem hlt) hu)
      · have hna : ∀ cs, ofConst zv ≠ .agg cs := fun cs e => ha ⟨cs, e⟩
        have hc := cells_one hna
        rw [hc] at hs ⊢
        generalize hq : sizedNil [ofConst zv] (E.h.zcell t) = q at *
        cases q with
        | nil => simp at hs
        | cons c q =>
          cases q with
          | cons d q => simp at hs
          | nil => rw [rebuild_one hna]; exact hs.2 0 c _ _ rfl rfl hv
    · cases h
  · cases h
theorem run_box {t : Nat} {u : Value} (w : World) : (Instr.box t u).run E.P w = .ok (.pointer (some ⟨w.heap.size, 0, none⟩)) (w.alloc (.cells u.cells t)) := rfl
theorem grown_alloc (w : World) (o : Obj) : w.grownBy (w.alloc o) none := World.grownBy_alloc w o none
theorem boxA_ok {w0 : World} {M : Nat → Prop} {n0 : Nat} {Γ : Ctx} {st st' : Store} {t : Nat} {v v' : PVal} {u : Value} {T W : List Nat} (hsr : SR (KK w0 M) Γ st) (hk : Keep w0 M Γ.w) (hv : VR Γ v u)
    (hf : ∀ id, n0 ≤ id → id < n0 + 16 → Γ.φ id = none) (h : (boxA E n0 t v).run st = .ok (v', st', T, W)) :
    ∃ Γ' r, (Instr.box t u).run E.P Γ.w = .ok r Γ'.w ∧ Out w0 M n0 Γ Γ' st' ∧ VR Γ' v' r := by
  unfold boxA at h
  obtain ⟨y, s1, t1, w1, t2, w2, h2, h1, _, _⟩ := AM.bind_ok h
  rcases AM.bif_ok h1 with ⟨hb, h3⟩ | ⟨_, h3⟩
  · simp only [Bool.and_eq_true, Bool.not_eq_true'] at hb
    have hpos : 0 < y.cells.length := by
      rcases Nat.eq_zero_or_pos y.cells.length with h | h
      · rw [h] at hb; simp at hb
      · exact h
    have hlen := Nat.eq_of_beq_eq_true hb.1
    obtain ⟨w', h4⟩ := AM.put_ok h3
    obtain ⟨rfl, rfl⟩ := AM.pure_ok h4
    obtain ⟨Γ1, hw, ho, hy, hone, hφ⟩ := varOf_ok (n0 := n0) hsr hk hv (fun id h1 h2 => hf id (by omega) h2) (by omega) (Nat.le_refl _) h2
    obtain ⟨hcs, hcv⟩ := hy.cells_of hone
    have hg := grown_alloc Γ.w (.cells u.cells t)
    have hob : ∀ Γ' : Ctx, Γ1.le Γ' → Γ'.w = Γ.w.alloc (.cells u.cells t) → Γ'.φ n0 = some (.slice (some ⟨Γ.w.heap.size, 0, none⟩) 1 1) → RowOK Γ' n0 true t (E.P.cellsOf t) [y] := fun Γ' hle hw' hφ' => by
      refine ⟨_, u.cells.toList, hφ', by omega, ⟨by simp; omega, .inr ⟨Γ.w.heap.size, 1, u.cells, rfl, Nat.zero_le _, by rw [hw']; exact heap_alloc_new _ _, Nat.le_refl _, by simp [maxLen], by omega, ?_⟩⟩, ⟨fun x hx => ?_, fun i x j c hx hj => ?_⟩, fun hb => by cases hb⟩
      · apply List.take_of_length_le; simp; omega
      · simp at hx; subst hx; exact ⟨hlen, hone⟩
      · cases i with
        | zero =>
          simp at hx
          subst hx
          obtain ⟨q, hq, hvq⟩ := hcv j c hj
          exact ⟨q, by simpa using hq, hvq.mono hle⟩
        | succ i => simp at hx
    have hn0 : Γ1.φ n0 = none := by rw [hφ n0 (by omega)]; exact hf n0 (Nat.le_refl _) (by omega)
    have hle2 : Γ1.le (Γ1.at_ (Γ.w.alloc (.cells u.cells t)) n0 (.slice (some ⟨Γ.w.heap.size, 0, none⟩) 1 1)) := Ctx.at_le hn0 fun b hz => by
      have := ho.sr.zlt b hz
      rw [hw] at this ⊢
      exact heap_alloc_old _ _ _ this
    have ho2 := out_new (n0 := n0) (id := n0) (w' := Γ.w.alloc (.cells u.cells t)) (v := .slice (some ⟨Γ.w.heap.size, 0, none⟩) 1 1) (o := .row true t (E.P.cellsOf t) [y]) ho.sr ho.keep hn0 (by rw [hw]; exact hg)
      (fun k hk => by simp [blk] at hk; subst hk; rw [hw]; simp) ⟨Nat.le_refl _, by omega⟩ (hob _ hle2 rfl (at_self _ _ _ _))
    refine ⟨_, _, run_box Γ.w, ho.trans ho2, ?_⟩
    have := VR.ref (Γ := Γ1.at_ (Γ.w.alloc (.cells u.cells t)) n0 (.slice (some ⟨Γ.w.heap.size, 0, none⟩) 1 1)) n0 (E.P.cellsOf t) 0 0 Γ.w.heap.size _ (at_self _ _ _ _) rfl
    simpa using this
  · exact (AM.fail_ok h3).elim
theorem allocA_ok {w0 : World} {M : Nat → Prop} {n0 : Nat} {Γ : Ctx} {st st' : Store} {t : Nat} {v' : PVal} {T W : List Nat} (hsr : SR (KK w0 M) Γ st) (hk : Keep w0 M Γ.w)
    (hf : ∀ id, n0 ≤ id → id < n0 + 16 → Γ.φ id = none) (h : (allocA E n0 t).run st = .ok (v', st', T, W)) :
    ∃ Γ' r, (Instr.alloc t true (.tuple #[])).run E.P Γ.w = .ok r Γ'.w ∧ Out w0 M n0 Γ Γ' st' ∧ VR Γ' v' r := by
  unfold allocA at h
  split at h
  · exact (AM.fail_ok h).elim
  · rename_i z hz
    obtain ⟨i, zv, hi, hiz, hv⟩ := zeroV_ok Γ hz
    obtain ⟨Γ', r, hr, ho, hvr⟩ := boxA_ok hsr hk hv hf h
    refine ⟨Γ', r, ?_, ho, hvr⟩
    rw [← hr]
    simp [Instr.alloc, zeroValue, typeInfo, hi, hiz, Instr.box]

theorem setCells_len : ∀ (vs xs : List PVal) (off : Nat), (setCells xs off vs).length = xs.length
  | [], xs, off => rfl
  | c :: cs, xs, off => by simp [setCells, setCells_len cs]
theorem setCells_get : ∀ (vs xs : List PVal) (off j : Nat), off + vs.length ≤ xs.length → (setCells xs off vs)[j]? = if off ≤ j ∧ j < off + vs.length then vs[j - off]? else xs[j]?
  | [], xs, off, j, _ => by
    rw [if_neg (by rw [List.length_nil]; omega)]; rfl
  | c :: cs, xs, off, j, h => by
    simp only [List.length_cons] at h ⊢
    rw [setCells, setCells_get cs (xs.set off c) (off + 1) j (by simp; omega)]
    by_cases h1 : off + 1 ≤ j ∧ j < off + 1 + cs.length
    · rw [if_pos h1, if_pos (by omega), show j - off = (j - (off + 1)) + 1 by omega, List.getElem?_cons_succ]
    · rw [if_neg h1]
      by_cases h2 : j = off
      · subst h2
        rw [if_pos (by omega)]
        simp [show j < xs.length by omega]
      · rw [if_neg (by omega), List.getElem?_set_ne (by omega)]
theorem patch_ok {x v x' : PVal} {off : Nat} (h : patch x off v = .ok x') (hv : oneL v.cells = true) : off + v.cells.length ≤ x.cells.length ∧ x'.cells.length = x.cells.length ∧
    ∀ j, x'.cells[j]? = if off ≤ j ∧ j < off + v.cells.length then v.cells[j - off]? else x.cells[j]? := by
  unfold patch at h
  rcases bif_ok h with ⟨hle, h1⟩ | ⟨_, h1⟩
  · have hle := Nat.le_of_ble_eq_true hle
    split at h1
    · rename_i cs
      simp only [R.ok.injEq] at h1
      subst h1
      exact ⟨hle, setCells_len _ _ _, fun j => setCells_get _ _ _ _ hle⟩
    · rename_i hna
      split at h1
      · rename_i c hc
        simp only [R.ok.injEq] at h1
        subst h1
        have hx := cells_one (v := x) (fun cs e => hna cs e)
        have h1c : c.one = true := by rw [hc] at hv; simpa [oneL] using hv
        have hcc := oneL_one h1c
        rw [hc, hx] at hle ⊢
        rw [hcc]
        simp at hle
        subst hle
        refine ⟨by simp, rfl, fun j => ?_⟩
        cases j with
        | zero => simp
        | succ j => simp
      · cases h1
  · cases h1
theorem oneL_cells_of {xs ys : List PVal} {p : Nat → Bool} {f : Nat → Nat} (h : ∀ (j : Nat) (c : PVal), xs[j]? = some c → c.one = true) : oneL xs = true := oneL_of h
theorem clean1L_of {cs : List PVal} (h : ∀ (j : Nat) (c : PVal), cs[j]? = some c → c.clean1 = true) : PVal.clean1.clean1L cs = true := by
  induction cs with
  | nil => simp [PVal.clean1.clean1L, PVal.cl, PVal.cl.clL]
  | cons x xs ih =>
    simp only [PVal.clean1.clean1L, Bool.and_eq_true, PVal.cl, PVal.cl.clL]
    exact ⟨h 0 x rfl, ih fun j c hj => h (j + 1) c (by simpa using hj)⟩
theorem setRow_other' (w : World) (g k : Nat) (cs : Array Value) (h : k ≠ g) : (w.setRow g cs).heap[k]? = w.heap[k]? := setRow_other w g k cs h
theorem toList_set_seg (cur : List Value) (o : Nat) (us : List Value) (h : o + us.length ≤ cur.length) (j : Nat) : (cur.take o ++ us ++ cur.drop (o + us.length))[j]? = if o ≤ j ∧ j < o + us.length then us[j - o]? else cur[j]? := by
  rw [List.append_assoc, List.getElem?_append, List.length_take, Nat.min_eq_left (by omega)]
  by_cases h1 : j < o
  · rw [if_pos h1, if_neg (by omega), List.getElem?_take, if_pos h1]
  · rw [if_neg h1, List.getElem?_append]
    by_cases h2 : j - o < us.length
    · rw [if_pos h2, if_pos (by omega)]
    · rw [if_neg h2, if_neg (by omega), List.getElem?_drop]
      congr 1
      omega
theorem mul_lt_block {i i' j sz off m : Nat} (hne : i' ≠ i) (hj : j < sz) (hm : off + m ≤ sz) : ¬ (i * sz + off ≤ i' * sz + j ∧ i' * sz + j < i * sz + off + m) := by
  rintro ⟨h1, h2⟩
  rcases Nat.lt_or_gt_of_ne hne with h | h
  · have : (i' + 1) * sz ≤ i * sz := Nat.mul_le_mul_right _ h
    rw [Nat.add_mul, Nat.one_mul] at this
    omega
  · have : (i + 1) * sz ≤ i' * sz := Nat.mul_le_mul_right _ h
    rw [Nat.add_mul, Nat.one_mul] at this
    omega
/-- an element of a living row is written over -/
theorem put_row {w0 : World} {M : Nat → Prop} {n0 : Nat} {Γ : Ctx} {st : Store} {id : Nat} {bx : Bool} {e sz i off t g : Nat} {xs : List PVal} {x y x' : PVal} {u v : Value} (hsr : SR (KK w0 M) Γ st) (hk : Keep w0 M Γ.w)
    (ho : st id = .row bx e sz xs) (hx : xs[i]? = some x) (hy : VR Γ y u) (hone : oneL y.cells = true) (hcl : bx = false → y.clean = true) (hp : patch x off y = .ok x') (hlen : y.cells.length = E.P.cellsOf t) (ht : (E.P.info? t).isSome = true)
    (hφ : Γ.φ id = some v) (hg : v.ownBlock = some g) :
    ∃ w', (storeVar t ⟨g, i * sz + off, none⟩ u).run E.P Γ.w = .ok () w' ∧ Out w0 M n0 Γ { Γ with w := w' } (st.upd id (.row bx e sz (xs.set i x'))) := by
  have hob := hsr.obj id
  rw [ho] at hob
  obtain ⟨v', vs, hv', hpos, hr, hc, hclean⟩ := hob
  rw [hφ] at hv'
  obtain rfl := Option.some.inj hv'
  clear hv'
  obtain ⟨hle, hl', hget⟩ := patch_ok hp hone
  obtain ⟨hus, huv⟩ := hy.cells_of hone
  have hbk := ownBlock_blk hg
  have hil : i < xs.length := (List.getElem?_eq_some_iff.1 hx).1
  have hxl := (hc.1 x (mem_of_get hx)).1
  have hown := hsr.own id v g (by rw [ho]; rfl) hφ hbk
  rcases hr.2 with ⟨rfl, _⟩ | ⟨g', cap, cur, rfl, _, hgg, hncap, hcm, hcs, htake⟩
  · simp [Value.ownBlock] at hg
  simp [Value.ownBlock] at hg
  have hg' := hg.symm
  subst hg'
  have hseg : i * sz + off + u.cells.toList.length ≤ xs.length * sz := by
    have : (i + 1) * sz ≤ xs.length * sz := Nat.mul_le_mul_right _ hil
    rw [Nat.add_mul, Nat.one_mul] at this
    simp
    omega
  have hcur : xs.length * sz ≤ cur.size := by rw [hcs]; exact Nat.mul_le_mul_right _ hncap
  have hst := run_storeCells_at (P := E.P) g (i * sz + off) e u.cells.toList 0 cur Γ.w hgg (by omega) (fun q hq => by
    obtain ⟨j, hj⟩ := List.getElem?_of_mem hq
    have hjl : j < y.cells.length := by rw [← hus]; simpa using (List.getElem?_eq_some_iff.1 hj).1
    obtain ⟨q', hq', hvq⟩ := huv j _ (List.getElem?_eq_getElem hjl)
    have : q' = q := by rw [← Array.getElem?_toList, hj] at hq'; exact (Option.some.inj hq').symm
    subst this
    exact hvq.oneCell (oneL_get hone (List.getElem?_eq_getElem hjl)))
  simp only [Nat.add_zero] at hst
  refine ⟨Γ.w.setRow g (cur.toList.take (i * sz + off) ++ u.cells.toList ++ cur.toList.drop (i * sz + off + u.cells.toList.length)).toArray, ?_, ?_⟩
  · have hz : u.cells.size = E.P.cellsOf t := by omega
    simp only [storeVar, Sem.run_bind, run_sizeOf ht, Result.andThen_ok, hz]
    simpa using hst
  · have hcl2 : cur.toList.length = cur.size := by simp
    have hblk : ∀ k, k ≠ g → (Γ.w.setRow g (cur.toList.take (i * sz + off) ++ u.cells.toList ++ cur.toList.drop (i * sz + off + u.cells.toList.length)).toArray).heap[k]? = Γ.w.heap[k]? := fun k hk => setRow_other _ _ _ _ hk
    have hle' : Γ.le { Γ with w := Γ.w.setRow g (cur.toList.take (i * sz + off) ++ u.cells.toList ++ cur.toList.drop (i * sz + off + u.cells.toList.length)).toArray } :=
      ⟨fun _ h => h, fun _ => Iff.rfl, fun b hb => hblk b (fun e => by subst e; exact hb.elim hown.2.1 hown.2.2), fun _ _ h => h⟩
    refine ⟨hle', ?_, hk.step rfl rfl rfl (by simp) (fun b _ hb => hblk b (fun e => by subst e; exact hb hown.1)), fun _ _ h => h, fun _ h => .inl h⟩
    refine hsr.put hle' id _ (fun id' v' k hne hl hv' hk' => ⟨hblk k (fun e => ?_), (hsr.own id' v' k hl hv' hk').2.1⟩) (fun _ _ _ h => h) ?_ (fun _ v' k hv' hk' => ?_) (fun b hb => by simpa using hsr.zlt b hb)
    · subst e; exact hne (hsr.disj id' id v' _ k hl (by rw [ho]; rfl) hv' hφ hk' hbk)
    · have hvs : vs.length = xs.length * sz := hr.1
      refine ⟨_, vs.take (i * sz + off) ++ u.cells.toList ++ vs.drop (i * sz + off + u.cells.toList.length), hφ, hpos, ⟨?_, .inr ⟨g, cap, _, by simp, Nat.zero_le _, setRow_heap _ g cur _ e _ hgg, by simpa using hncap, hcm, ?_, ?_⟩⟩, ⟨fun q hq => ?_, fun i' q j c hq hj => ?_⟩, fun hb q hq => ?_⟩
      · simp only [List.length_append, List.length_take, List.length_drop, List.length_set]; omega
      · simp only [List.size_toArray, List.length_append, List.length_take, List.length_drop]; omega
      · apply List.ext_getElem?
        intro j
        rw [List.length_set, List.getElem?_take, toList_set_seg vs _ _ (by omega)]
        simp only []
        rw [toList_set_seg cur.toList _ _ (by omega), ← htake, List.getElem?_take]
        by_cases hj : j < xs.length * sz
        · simp [hj]
        · rw [if_neg hj, if_neg hj, if_neg (by omega)]
      · rcases List.mem_or_eq_of_mem_set hq with hq | rfl
        · exact hc.1 q hq
        · refine ⟨hl'.trans hxl, oneL_of fun j c hj => ?_⟩
          rw [hget j] at hj
          split at hj
          · exact oneL_get hone hj
          · exact oneL_get (hc.1 x (mem_of_get hx)).2 hj
      · by_cases hii : i' = i
        · subst hii
          rw [List.getElem?_set_self hil] at hq
          obtain rfl := Option.some.inj hq
          rw [hget j] at hj
          split at hj
          · rename_i hin
            obtain ⟨q, hq, hvq⟩ := huv (j - off) c hj
            refine ⟨q, ?_, hvq.mono hle'⟩
            rw [toList_set_seg vs _ _ (by omega), if_pos (by simp; omega)]
            rw [show i' * sz + j - (i' * sz + off) = j - off by omega]
            simpa using hq
          · rename_i hout
            obtain ⟨q, hq, hvq⟩ := hc.2 i' x j c hx hj
            refine ⟨q, ?_, hvq.mono hle'⟩
            rw [toList_set_seg vs _ _ (by omega), if_neg (by simp; omega)]
            exact hq
        · rw [List.getElem?_set_ne (Ne.symm hii)] at hq
          obtain ⟨q', hq', hvq⟩ := hc.2 i' q j c hq hj
          refine ⟨q', ?_, hvq.mono hle'⟩
          have hjl : j < sz := by have := (hc.1 q (mem_of_get hq)).1; have := (List.getElem?_eq_some_iff.1 hj).1; omega
          have := mul_lt_block (m := u.cells.toList.length) (off := off) hii hjl (by simp; omega)
          rw [toList_set_seg vs _ _ (by omega), if_neg this]
          exact hq'
      · rcases List.mem_or_eq_of_mem_set hq with hq | rfl
        · exact hclean hb q hq
        · refine clean1L_of fun j c hj => ?_
          rw [hget j] at hj
          split at hj
          · exact clean1L_get (hcl hb) hj
          · exact clean1L_get (hclean hb x (mem_of_get hx)) hj
    · have e : v' = .slice (some ⟨g, 0, none⟩) xs.length cap := by rw [hφ] at hv'; exact (Option.some.inj hv').symm
      subst e
      rw [hbk] at hk'
      obtain rfl := Option.some.inj hk'
      exact ⟨hown.1, hown.2.1, hown.2.2, fun id' v'' hne hl hv'' hk'' => hne (hsr.disj id' id v'' _ g hl (by rw [ho]; rfl) hv'' hφ hk'' hbk)⟩
theorem storeA_ok {w0 : World} {M : Nat → Prop} {n0 : Nat} {Γ : Ctx} {st st' : Store} {t : Nat} {p v r : PVal} {pv u : Value} {T W : List Nat} (hsr : SR (KK w0 M) Γ st) (hk : Keep w0 M Γ.w) (hp : VR Γ p pv) (hv : VR Γ v u)
    (ht : (E.P.info? t).isSome = true) (hf : ∀ id, n0 ≤ id → id < n0 + 16 → Γ.φ id = none) (h : (storeA E n0 t p v).run st = .ok (r, st', T, W)) :
    r = .tup [] ∧ ∃ Γ', (Instr.storeAt t pv u).run E.P Γ.w = .ok () Γ'.w ∧ Out w0 M n0 Γ Γ' st' := by
  unfold storeA at h
  cases hp with
  | ref id sz i off g vv hφ hg =>
    simp only [] at h
    obtain ⟨t', h1⟩ := AM.get_ok h
    split at h1
    · rename_i bx _ _ _ _
      obtain ⟨y, s1, t1, w1, t2, w2, h2, h3, _, _⟩ := AM.bind_ok h1
      have conv : ∃ Γ1, Γ1.w = Γ.w ∧ Out w0 M n0 Γ Γ1 s1 ∧ VR Γ1 y u := by
        cases bx with
        | true =>
          obtain ⟨Γ1, hw, ho, hy, _, _⟩ := varOf_ok (n0 := n0) hsr hk hv hf (Nat.le_refl _) (by omega) h2
          exact ⟨Γ1, hw, ho, hy⟩
        | false =>
          obtain ⟨Γ1, hfz, hy⟩ := freezeV_ok v hsr hv h2
          exact ⟨Γ1, hfz.w, hfz.out hk, hy⟩
      obtain ⟨Γ1, hw, ho, hy⟩ := conv
      obtain ⟨t3, h4⟩ := AM.get_ok h3
      split at h4
      · rename_i bx' e sz' xs hst
        rcases AM.bif_ok h4 with ⟨hb, h5⟩ | ⟨_, h5⟩
        · simp only [Bool.and_eq_true] at hb
          have hsz := Nat.eq_of_beq_eq_true hb.1.1
          have hlen := Nat.eq_of_beq_eq_true hb.1.2
          subst hsz
          have hone : oneL y.cells = true := by
            have := hb.2
            cases bx' with
            | true => exact this
            | false => exact clean_one this
          obtain ⟨x, s2, t4, w4, t5, w5, h6, h7, _, _⟩ := AM.bind_ok h5
          obtain ⟨hx, rfl⟩ := elemAt_ok h6
          split at h7
          · rename_i x' hpatch
            obtain ⟨w6, h8⟩ := AM.put_ok h7
            obtain ⟨rfl, rfl⟩ := AM.pure_ok h8
            obtain ⟨w', hr, ho2⟩ := put_row (E := E) (n0 := n0) ho.sr ho.keep hst hx hy hone (fun e => by subst e; exact hb.2) hpatch hlen ht (ho.le.φ _ _ hφ) hg
            refine ⟨rfl, _, ?_, ho.trans ho2⟩
            simp only [Instr.storeAt, Instr.sureAddr, Sem.run_bind, Sem.run_pure, Result.andThen_ok, ← hw]
            exact hr
          · exact (AM.fail_ok h7).elim
        · exact (AM.fail_ok h5).elim
      · exact (AM.fail_ok h4).elim
    · exact (AM.fail_ok h1).elim
  | _ => exact (AM.fail_ok h).elim
end
end Go.Pvm
namespace Go.Pvm
open Go.RowKit

/-- What is known of a list that is read. -/
structure LF (Γ : Ctx) (sz : Nat) (xs : List PVal) (a : Option Addr) (news : List Value) : Prop where
  none : a = none → xs = []
  len : news.length = xs.length * sz
  cell : ∀ ad j q, a = some ad → news[j]? = some q → Γ.w.cell? (ad.add j) = some q
  one : ∀ q ∈ news, q.oneCell' = true
  ok : CellsOK Γ sz xs news
  clean : ∀ x ∈ xs, x.clean = true
theorem LF.mono {Γ Γ' : Ctx} (hle : Γ.le Γ') (hw : Γ'.w = Γ.w) {sz : Nat} {xs : List PVal} {a : Option Addr} {news : List Value} (h : LF Γ sz xs a news) : LF Γ' sz xs a news :=
  ⟨h.none, h.len, fun ad j q ha hq => by rw [hw]; exact h.cell ad j q ha hq, h.one, h.ok.mono hle, h.clean⟩
theorem flat_get {n sz k : Nat} {f : Nat → Nat → Value} (hk : k < n * sz) : ((List.range (n * sz)).map fun k => f (k / sz) (k % sz))[k]? = some (f (k / sz) (k % sz)) := by
  rw [List.getElem?_map, List.getElem?_range hk]; rfl
theorem sl_LF {Γ : Ctx} {m : Mode} {sz : Nat} {xs : List PVal} {u : Value} (h : VR Γ (.sl m sz xs) u) : ∃ a cap news, u = .slice a xs.length cap ∧ LF Γ sz xs a news ∧ (m = .clip → cap = xs.length) := by
  obtain ⟨a, cap, f, rfl, g1, g2, g3, g4, g5, g6, g7, g8⟩ := sl_inv h
  have key : ∀ k, k < xs.length * sz → ∃ x c, xs[k / sz]? = some x ∧ x.cells[k % sz]? = some c ∧ c.one = true := fun k hk => by
    have hsz : 0 < sz := by rcases Nat.eq_zero_or_pos sz with h | h; · subst h; simp at hk
                            · exact h
    have h1 : k / sz < xs.length := Nat.div_lt_of_lt_mul (by rw [Nat.mul_comm]; exact hk)
    have hx := List.getElem?_eq_getElem h1
    have hl := g4 _ (mem_of_get hx)
    have h2 : k % sz < (xs[k / sz]).cells.length := by rw [hl]; exact Nat.mod_lt _ hsz
    have hc := List.getElem?_eq_getElem h2
    exact ⟨_, _, hx, hc, oneL_get (clean_one (g5 _ (mem_of_get hx))) hc⟩
  refine ⟨a, cap, (List.range (xs.length * sz)).map fun k => f (k / sz) (k % sz), rfl, ⟨fun ha => ?_, by simp, fun ad j q ha hq => ?_, fun q hq => ?_, ⟨fun x hx => ⟨g4 x hx, clean_one (g5 x hx)⟩, fun i x j c hx hc => ?_⟩, g5⟩, g2.1⟩
  · by_cases hne : xs = []
    · exact hne
    · obtain ⟨ad, e, _⟩ := g6 hne; rw [ha] at e; cases e
  · have hj : j < xs.length * sz := by have := (List.getElem?_eq_some_iff.1 hq).1; simpa using this
    rw [flat_get hj] at hq
    obtain rfl := Option.some.inj hq
    obtain ⟨x, c, hx, hc, _⟩ := key j hj
    have := g7 ad _ x _ c ha hx hc
    rwa [show j / sz * sz + j % sz = j by rw [Nat.mul_comm]; exact Nat.div_add_mod j sz] at this
  · obtain ⟨j, hj⟩ := List.getElem?_of_mem hq
    have hjl : j < xs.length * sz := by have := (List.getElem?_eq_some_iff.1 hj).1; simpa using this
    rw [flat_get hjl] at hj
    obtain rfl := Option.some.inj hj
    obtain ⟨x, c, hx, hc, h1⟩ := key j hjl
    exact (g8 _ x _ c hx hc).oneCell h1
  · have hl := g4 x (mem_of_get hx)
    have hj : j < sz := by rw [← hl]; exact (List.getElem?_eq_some_iff.1 hc).1
    have hi := (List.getElem?_eq_some_iff.1 hx).1
    have hlt : i * sz + j < xs.length * sz := by
      have : (i + 1) * sz ≤ xs.length * sz := Nat.mul_le_mul_right _ hi
      rw [Nat.add_mul, Nat.one_mul] at this
      omega
    refine ⟨f i j, ?_, g8 i x j c hx hc⟩
    rw [flat_get hlt]
    have e1 : (i * sz + j) / sz = i := by rw [Nat.mul_comm, Nat.mul_add_div (by omega), Nat.div_eq_of_lt hj, Nat.add_zero]
    have e2 : (i * sz + j) % sz = j := by rw [Nat.mul_comm, Nat.mul_add_mod, Nat.mod_eq_of_lt hj]
    rw [e1, e2]
theorem listOf_ok {K : Nat → Prop} {Γ : Ctx} {st st' : Store} {sz : Nat} {p : PVal} {xs : List PVal} {u : Value} {T W : List Nat} (hsr : SR K Γ st) (hp : VR Γ p u) (h : (listOf sz p).run st = .ok (xs, st', T, W)) :
    st' = st ∧ ∃ a cap news, u = .slice a xs.length cap ∧ LF Γ sz xs a news := by
  cases p with
  | sl m sz' ys =>
    simp only [listOf] at h
    rcases AM.bif_ok h with ⟨hs, h1⟩ | ⟨_, h1⟩
    · have hs := Nat.eq_of_beq_eq_true hs
      subst hs
      obtain ⟨rfl, rfl⟩ := AM.pure_ok h1
      obtain ⟨a, cap, news, hu, hf, _⟩ := sl_LF hp
      exact ⟨rfl, a, cap, news, hu, hf⟩
    · exact (AM.fail_ok h1).elim
  | own id =>
    simp only [listOf] at h
    obtain ⟨t', h⟩ := AM.get_ok h
    obtain ⟨a, n, cap, rfl, hφ⟩ := own_inv hp
    have hob := hsr.obj id
    cases ho : st id with
    | none => rw [ho] at h; exact (AM.fail_ok h).elim
    | mp es => rw [ho] at h; exact (AM.fail_ok h).elim
    | row bx e sz' ys =>
      rw [ho] at h hob
      cases bx with
      | true => exact (AM.fail_ok h).elim
      | false =>
        rcases AM.bif_ok h with ⟨hs, h1⟩ | ⟨_, h1⟩
        · have hs := Nat.eq_of_beq_eq_true hs
          subst hs
          obtain ⟨rfl, rfl⟩ := AM.pure_ok h1
          obtain ⟨v, vs, hv, hpos, hr, hc, hcl⟩ := hob
          rw [hφ] at hv
          obtain rfl := Option.some.inj hv
          obtain ⟨a', cap', he, hcap, ha0, ha1, _⟩ := ownsRow_shape hr
          injection he with e1 e2 e3
          subst e1; subst e2; subst e3
          refine ⟨rfl, a, cap, vs, rfl, ⟨fun ha => List.eq_nil_of_length_eq_zero (ha0 ha).1, hr.1, fun ad j q ha hq => ?_, fun q hq => ?_, hc, hcl rfl⟩⟩
          · obtain ⟨g, rfl, hob, _⟩ := ha1 ad ha
            exact hr.cells hob j q hq
          · obtain ⟨j, hj⟩ := List.getElem?_of_mem hq
            have hjl : j < xs.length * sz' := by rw [← hr.1]; exact (List.getElem?_eq_some_iff.1 hj).1
            have h1 : j / sz' < xs.length := Nat.div_lt_of_lt_mul (by rw [Nat.mul_comm]; exact hjl)
            have hx := List.getElem?_eq_getElem h1
            have hcx := hc.1 _ (mem_of_get hx)
            have h2 : j % sz' < (xs[j / sz']).cells.length := by rw [hcx.1]; exact Nat.mod_lt _ hpos
            have hcc := List.getElem?_eq_getElem h2
            obtain ⟨q', hq', hvq⟩ := hc.2 _ _ _ _ hx hcc
            rw [show j / sz' * sz' + j % sz' = j by rw [Nat.mul_comm]; exact Nat.div_add_mod j sz', hj] at hq'
            obtain rfl := Option.some.inj hq'
            exact hvq.oneCell (oneL_get hcx.2 hcc)
        · exact (AM.fail_ok h1).elim
    | frz bx sz' ys =>
      rw [ho] at h hob
      cases bx with
      | true => exact (AM.fail_ok h).elim
      | false =>
        rcases AM.bif_ok h with ⟨hs, h1⟩ | ⟨_, h1⟩
        · have hs := Nat.eq_of_beq_eq_true hs
          subst hs
          obtain ⟨rfl, rfl⟩ := AM.pure_ok h1
          obtain ⟨a', cap', news, hu, hf, _⟩ := sl_LF (frz_sl hob hφ)
          exact ⟨rfl, a', cap', news, hu, hf⟩
        · exact (AM.fail_ok h1).elim
  | _ => exact (AM.fail_ok h).elim

/-- what is appended to a row fits it -/
theorem CellsOK.append {Γ : Ctx} {sz : Nat} {xs ys : List PVal} {vs ws : List Value} (hv : vs.length = xs.length * sz) (h : CellsOK Γ sz xs vs) (k : CellsOK Γ sz ys ws) : CellsOK Γ sz (xs ++ ys) (vs ++ ws) := by
  refine ⟨fun x hx => (List.mem_append.1 hx).elim (h.1 x) (k.1 x), fun i x j c hx hj => ?_⟩
  by_cases hi : i < xs.length
  · rw [List.getElem?_append_left hi] at hx
    obtain ⟨u, hu, hvu⟩ := h.2 i x j c hx hj
    exact ⟨u, by rw [List.getElem?_append_left (List.getElem?_eq_some_iff.1 hu).1]; exact hu, hvu⟩
  · rw [List.getElem?_append_right (by omega)] at hx
    obtain ⟨u, hu, hvu⟩ := k.2 _ x j c hx hj
    refine ⟨u, ?_, hvu⟩
    have : xs.length * sz ≤ i * sz := Nat.mul_le_mul_right _ (by omega)
    rw [List.getElem?_append_right (by omega), hv, ← hu]
    congr 1
    rw [Nat.sub_mul]
    omega
theorem grown_own {P : Program} (w : World) (e need old sz : Nat) (z : Array Value) (olds news : List Value) (hl : (olds ++ news).length = need * sz) (hz : z.size = sz) (hm : need ≤ maxLen) :
    (w.drew.alloc (.cells (olds.toArray ++ news.toArray ++ Builtin.zeroCells z (grownCap w need old e - need)) e)).ownsRow 0 e sz (.slice (some ⟨w.heap.size, 0, none⟩) need (grownCap w need old e)) need (olds ++ news) ∧
    w.grownBy (w.drew.alloc (.cells (olds.toArray ++ news.toArray ++ Builtin.zeroCells z (grownCap w need old e - need)) e)) none := by
  have hge := grownCap_ge w need old e
  refine ⟨⟨hl, .inr ⟨w.heap.size, _, _, rfl, Nat.zero_le _, heap_alloc_new w.drew _, hge, grownCap_le_maxLen w need old e hm, ?_, ?_⟩⟩, ⟨rfl, rfl, rfl, by simp, fun k hk _ => heap_alloc_old w.drew _ k hk⟩⟩
  · rw [List.length_append] at hl
    simp only [Array.size_append, List.size_toArray, size_zeroCells, hz, hl, ← Nat.add_mul]
    congr 1
    omega
  · simp only [Array.toList_append, List.append_assoc]
    rw [← List.append_assoc, ← hl]
    exact List.take_left
section
variable {E : Env}
theorem okT_info {t : Nat} (h : okT E t = true) : ∃ i z, E.P.info? t = some i ∧ i.zero = some z ∧ z.cells.size = i.size ∧ 0 < i.size ∧ E.P.cellsOf t = i.size ∧ E.P.bytesOf t = i.bytes := by
  unfold okT at h
  split at h
  · rename_i i hi
    split at h
    · rename_i z hz
      simp only [Bool.and_eq_true, Bool.not_eq_true'] at h
      refine ⟨i, z, hi, hz, Nat.eq_of_beq_eq_true h.1, ?_, by simp [Program.cellsOf, hi], by simp [Program.bytesOf, hi]⟩
      rcases Nat.eq_zero_or_pos i.size with h0 | h0
      · rw [h0] at h; simp at h
      · exact h0
    · cases h
  · cases h
theorem run_append_none {t ty e : Nat} {i : TypeInfo} (w : World) (ht : E.P.underlying t = some (.slice e)) (hi : E.P.info? e = some i) (a : Option Addr) (n cap c : Nat) (hn : n ≤ cap) :
    (Builtin.append_ #[t, t] ty #[.slice a n cap, .slice none 0 c]).run E.P w = .ok (.slice a n cap) w := by
  cases a <;> simp [Builtin.append_, run_underlying ht, sizeOf, typeInfo, hi, Builtin.lenOf, Builtin.firstCells, hn, storeCells]
/-- A row that grows under a new name. -/
theorem out_grow {w0 : World} {M : Nat → Prop} {n0 : Nat} {Γ : Ctx} {st : Store} {w' : World} {id : Nat} {v v' : Value} {o : AObj} (hsr : SR (KK w0 M) Γ st) (hk : Keep w0 M Γ.w) (hl : (st id).live = true) (hφ : Γ.φ id = some v)
    (hn : Γ.φ n0 = none) (hg : Γ.w.grownBy w' (blk v)) (hb : ∀ k, blk v' = some k → (blk v = some k ∨ Γ.w.heap.size ≤ k) ∧ k < w'.heap.size) (hob : ∀ Γ' : Ctx, Γ.le Γ' → Γ'.w = w' → Γ'.φ n0 = some v' → ObjOK Γ' n0 o) :
    Out w0 M n0 Γ (Γ.at_ w' n0 v') ((st.upd id .none).upd n0 o) := by
  have hblk : ∀ b, b < Γ.w.heap.size → blk v ≠ some b → w'.heap[b]? = Γ.w.heap[b]? := fun b hb hne => hg.block b hb (fun e => hne e.symm)
  have hzb : ∀ b, Γ.Z b ∨ Γ.B b → blk v ≠ some b := fun b hz e => by have := hsr.own id v b hl hφ e; exact hz.elim this.2.1 this.2.2
  have hle : Γ.le (Γ.at_ w' n0 v') := Ctx.at_le hn fun b hz => hblk b (hsr.zlt b hz) (hzb b hz)
  have hsr1 := hsr.drop id
  have live1 : ∀ id', ((st.upd id .none) id').live = true → id' ≠ id ∧ (st id').live = true := fun id' h => by
    by_cases e : id' = id
    · subst e; rw [upd_same] at h; cases h
    · rw [upd_ne _ _ e] at h; exact ⟨e, h⟩
  refine ⟨hle, ?_, hk.step hg.os hg.tape hg.output hg.size (fun b hb hnk => hblk b hb (fun e => hnk (hsr.own id v b hl hφ e).1)), fun k hi hk => ?_, fun b h => .inl h⟩
  · refine hsr1.put hle n0 o (fun id' v'' k hne hl' hv' hk' => ?_) (fun id' v'' hne h => by rwa [at_ne _ _ _ hne] at h) (hob _ hle rfl (at_self _ _ _ _)) (fun hl2 v2 k hv2 hk2 => ?_) (fun b hz => Nat.lt_of_lt_of_le (hsr.zlt b hz) hg.size)
    · obtain ⟨hne2, hl2⟩ := live1 id' hl'
      exact ⟨hblk k (live_lt hsr hl2 hv' hk') (fun e => hne2 (hsr.disj id' id v'' v k hl2 hl hv' hφ hk' e)), (hsr.own id' v'' k hl2 hv' hk').2.1⟩
    · rw [at_self] at hv2
      obtain rfl := Option.some.inj hv2
      obtain ⟨h1, h2⟩ := hb k hk2
      rcases h1 with h1 | h1
      · have ho := hsr.own id v k hl hφ h1
        exact ⟨ho.1, ho.2.1, ho.2.2, fun id' v'' hne hl' hv'' hk'' => (live1 id' hl').1 (hsr.disj id' id v'' v k (live1 id' hl').2 hl hv'' hφ hk'' h1)⟩
      · refine ⟨.inr (Nat.le_trans hk.size h1), fun hz => ?_, fun hz => ?_, fun id' v'' hne hl' hv'' hk'' => ?_⟩
        · have := hsr.zlt k (.inl hz); omega
        · have := hsr.zlt k (.inr hz); omega
        · have := live_lt hsr (live1 id' hl').2 hv'' hk''; omega
  · rw [at_ne _ _ _ (by omega)]; exact hk
theorem own_of {v : Value} : v.ownBlock = blk v ∨ v.ownBlock = none := by
  cases v <;> try (exact .inr rfl)
  rename_i a n c
  cases a
  · exact .inr rfl
  · exact .inl rfl
theorem runB {b : Builtin} {o : Oper} {args : Array Value} {ts : Array TypeId} {v : Value} {w w' : World} : True := trivial
theorem appendA_ok {w0 : World} {M : Nat → Prop} {n0 : Nat} {Γ : Ctx} {st st' : Store} {t ty : Nat} {x y r : PVal} {xv yv : Value} {T W : List Nat} (hsr : SR (KK w0 M) Γ st) (hk : Keep w0 M Γ.w) (hx : VR Γ x xv) (hy : VR Γ y yv)
    (hf : ∀ id, n0 ≤ id → id < n0 + 16 → Γ.φ id = none) (h : (appendA E n0 t x y).run st = .ok (r, st', T, W)) :
    ∃ Γ' u, (Builtin.append_ #[t, t] ty #[xv, yv]).run E.P Γ.w = .ok u Γ'.w ∧ Out w0 M n0 Γ Γ' st' ∧ VR Γ' r u := by
  unfold appendA at h
  split at h
  · rename_i e hu
    dsimp only at h
    rcases AM.bif_ok h with ⟨_, h0⟩ | ⟨hok, h0⟩
    · exact (AM.fail_ok h0).elim
    obtain ⟨i, z, hi, hiz, hzs, hpos, hcell, hby⟩ := okT_info (by simpa using hok)
    rw [hcell, hby] at h0
    have hn := hf n0 (Nat.le_refl _) (by omega)
    -- a row out of nothing
    have fromNil : ∀ (ys : List PVal) (a : Option Addr) (c : Nat) (news : List Value) (s1 : Store) (T1 W1 : List Nat), LF Γ i.size ys a news → yv = .slice a ys.length c → xv = .slice none 0 0 →
        ys.length * i.bytes ≤ lim ∧ ys.length ≤ 9223372036854775807 → st' = st.upd n0 (.row false e i.size ys) → r = .own n0 →
        ∃ Γ' u, (Builtin.append_ #[t, t] ty #[xv, yv]).run E.P Γ.w = .ok u Γ'.w ∧ Out w0 M n0 Γ Γ' st' ∧ VR Γ' r u := by
      intro ys a c news s1 T1 W1 hlf hyv hxv hlim hst hr
      subst hyv; subst hxv; subst hst; subst hr
      have hown0 := World.ownsRow_nil Γ.w Γ.w.heap.size e i.size
      have fin : ∀ v' w', (Builtin.append_ #[t, t] ty #[.slice none 0 0, .slice a ys.length c]).run E.P Γ.w = .ok v' w' → w'.ownsRow Γ.w.heap.size e i.size v' ys.length news → Γ.w.grownBy w' none →
          ∃ Γ' u, (Builtin.append_ #[t, t] ty #[.slice none 0 0, .slice a ys.length c]).run E.P Γ.w = .ok u Γ'.w ∧ Out w0 M n0 Γ Γ' (st.upd n0 (.row false e i.size ys)) ∧ VR Γ' (.own n0) u := by
        intro v' w' hrun hown hgr
        obtain ⟨a', cap', rfl, _, _, ha1, hbn⟩ := ownsRow_shape hown
        have hle : ∀ b, Γ.Z b ∨ Γ.B b → w'.heap[b]? = Γ.w.heap[b]? := fun b hz => hgr.block b (hsr.zlt b hz) (by simp)
        have ho := out_new (n0 := n0) (id := n0) (o := .row false e i.size ys) (v := .slice a' ys.length cap') hsr hk hn hgr (fun k hk => by
          cases a' with
          | none => rw [hbn rfl] at hk; cases hk
          | some ad =>
            obtain ⟨g, rfl, ho, hb, hlt⟩ := ha1 ad rfl
            rw [hb] at hk
            obtain rfl := Option.some.inj hk
            exact hown.lt _ ho) ⟨Nat.le_refl _, by omega⟩
          ⟨_, news, at_self _ _ _ _, hpos, ⟨hown.1, hown.2.imp id fun ⟨g, cap, cur, e1, _, r⟩ => ⟨g, cap, cur, e1, Nat.zero_le _, r⟩⟩, hlf.ok.mono (Ctx.at_le hn hle), fun _ => hlf.clean⟩
        exact ⟨_, _, hrun, ho, .own n0 _ _ _ (at_self _ _ _ _)⟩
      cases a with
      | none =>
        have hys := hlf.none rfl
        subst hys
        have : news = [] := List.eq_nil_of_length_eq_zero (by simpa using hlf.len)
        subst this
        exact fin _ _ (run_append_none Γ.w hu hi none 0 0 c (Nat.le_refl _)) hown0 (grown_refl _ _)
      | some ad =>
        obtain ⟨v', w', hrun, hown, hgr, _⟩ := run_append_own (P := E.P) Γ.w Γ.w.heap.size t ty e i z i.size i.bytes hu hi hiz rfl rfl hzs hpos _ 0 [] hown0 ad ys.length c news hlf.len (fun j q hq => hlf.cell ad j q rfl hq) hlf.one
          (by simp only [maxLen]; omega) (by simpa [lim] using hlim.1) (Nat.le_refl _)
        simp only [Nat.zero_add, List.nil_append] at hown
        exact fin v' w' hrun hown hgr
    split at h0
    · -- a row of the call's own
      rename_i id
      obtain ⟨t1, h1⟩ := AM.get_ok h0
      split at h1
      · rename_i e' sz' xs ho
        rcases AM.bif_ok h1 with ⟨hb, h2⟩ | ⟨_, h2⟩
        · simp only [Bool.and_eq_true] at hb
          have he := Nat.eq_of_beq_eq_true hb.1
          have hs := Nat.eq_of_beq_eq_true hb.2
          subst he; subst hs
          obtain ⟨ys, s1, t1', w1, t2, w2, h3, h4, _, _⟩ := AM.bind_ok h2
          obtain ⟨rfl, a, c, news, rfl, hlf⟩ := listOf_ok hsr hy h3
          obtain ⟨hlim, h5⟩ := AM.need_ok h4
          obtain ⟨w3, h6⟩ := AM.put_ok h5
          obtain ⟨w4, h7⟩ := AM.put_ok h6
          obtain ⟨rfl, rfl⟩ := AM.pure_ok h7
          obtain ⟨xa, xn, xc, rfl, hφ⟩ := own_inv hx
          have hob := hsr.obj id
          rw [ho] at hob
          obtain ⟨v, vs, hv, _, hown, hc, hcl⟩ := hob
          rw [hφ] at hv
          obtain rfl := Option.some.inj hv
          obtain ⟨xa', xc', hxe, hxcap, ha0, ha1, hbn⟩ := ownsRow_shape hown
          injection hxe with e1 e2 e3
          subst e1; subst e2; subst e3
          have hm : xs.length + ys.length ≤ maxLen := by simp only [maxLen]; omega
          have fin : ∀ v' w', (Builtin.append_ #[t, t] ty #[.slice xa xs.length xc, .slice a ys.length c]).run E.P Γ.w = .ok v' w' → w'.ownsRow 0 e' i.size v' (xs.length + ys.length) (vs ++ news) → Γ.w.grownBy w' (blk (.slice xa xs.length xc)) →
              (∀ k, blk v' = some k → blk (.slice xa xs.length xc) = some k ∨ Γ.w.heap.size ≤ k) →
              ∃ Γ' u, (Builtin.append_ #[t, t] ty #[.slice xa xs.length xc, .slice a ys.length c]).run E.P Γ.w = .ok u Γ'.w ∧ Out w0 M n0 Γ Γ' ((s1.upd id .none).upd n0 (.row false e' i.size (xs ++ ys))) ∧ VR Γ' (.own n0) u := by
            intro v' w' hrun hown' hgr hb'
            obtain ⟨a', cap', rfl, _, _, ha1', hbn'⟩ := ownsRow_shape hown'
            have ho' := out_grow (n0 := n0) (id := id) (o := .row false e' i.size (xs ++ ys)) (v' := .slice a' (xs.length + ys.length) cap') hsr hk (by rw [ho]; rfl) hφ hn hgr (fun k hk => ⟨hb' k hk, by
                cases a' with
                | none => rw [hbn' rfl] at hk; cases hk
                | some ad =>
                  obtain ⟨g, rfl, _, hb, hlt⟩ := ha1' ad rfl
                  rw [hb] at hk
                  obtain rfl := Option.some.inj hk
                  exact hlt⟩)
              (fun Γ' hle hw hφ' => ⟨_, vs ++ news, hφ', hpos, by rw [hw, List.length_append]; exact hown', (CellsOK.append hown.1 hc hlf.ok).mono hle, fun _ q hq => (List.mem_append.1 hq).elim (hcl rfl q) (hlf.clean q)⟩)
            exact ⟨_, _, hrun, ho', .own n0 _ _ _ (at_self _ _ _ _)⟩
          cases a with
          | none =>
            have hys := hlf.none rfl
            subst hys
            have hnews : news = [] := List.eq_nil_of_length_eq_zero (by simpa using hlf.len)
            subst hnews
            exact fin _ _ (run_append_none Γ.w hu hi xa xs.length xc c hxcap) (by simpa using hown) (grown_refl _ _) (fun k hk => .inl hk)
          | some ad =>
            cases xa with
            | none =>
              obtain ⟨hx0, hxc0⟩ := ha0 rfl
              have hxs := List.eq_nil_of_length_eq_zero hx0
              subst hxs; subst hxc0
              have hvs : vs = [] := List.eq_nil_of_length_eq_zero (by simpa using hown.1)
              subst hvs
              obtain ⟨v', w', hrun, hown', hgr, _⟩ := run_append_own (P := E.P) Γ.w Γ.w.heap.size t ty e' i z i.size i.bytes hu hi hiz rfl rfl hzs hpos _ 0 [] (World.ownsRow_nil Γ.w Γ.w.heap.size e' i.size) ad ys.length c news hlf.len (fun j q hq => hlf.cell ad j q rfl hq) hlf.one
                (by simpa using hm) (by simpa [lim] using hlim.1) (Nat.le_refl _)
              refine fin v' w' hrun ⟨hown'.1, hown'.2.imp (fun h => h) fun ⟨g, cap, cur, e1, _, r⟩ => ⟨g, cap, cur, e1, Nat.zero_le _, r⟩⟩ hgr (fun k hk => .inr ?_)
              obtain ⟨a', cap', rfl, _, _, ha1', hbn'⟩ := ownsRow_shape hown'
              cases a' with
              | none => rw [hbn' rfl] at hk; cases hk
              | some ad' =>
                obtain ⟨g, rfl, hob, hb, hlt⟩ := ha1' ad' rfl
                rw [hb] at hk
                obtain rfl := Option.some.inj hk
                exact (hown'.lt _ hob).1
            | some xad =>
              obtain ⟨g, rfl, hog, hbg, hgl⟩ := ha1 xad rfl
              by_cases hroom : xs.length + ys.length ≤ xc
              · obtain ⟨w', hrun, hown', hgr⟩ := run_append_fits (P := E.P) Γ.w 0 t ty e' i i.size hu hi rfl g xs.length xc vs hown ad ys.length c news hlf.len (fun j q hq => hlf.cell ad j q rfl hq) hlf.one hroom
                exact fin _ w' hrun hown' hgr (fun k hk => .inl hk)
              · have hrun := run_append_grow (P := E.P) Γ.w t ty e' i z hu hi hiz ⟨g, 0, none⟩ xs.length xc vs hown.1 (hown.cells hog) ad ys.length c news hlf.len (fun j q hq => hlf.cell ad j q rfl hq) (by omega) (by omega)
                  (growslice_fits (by omega) (by simpa [lim] using hlim.1))
                obtain ⟨hown', hgr⟩ := grown_own (P := E.P) Γ.w e' (xs.length + ys.length) xc i.size z.cells vs news (by rw [List.length_append, hown.1, hlf.len, Nat.add_mul]) hzs hm
                exact fin _ _ hrun hown' ⟨hgr.os, hgr.tape, hgr.output, hgr.size, fun k hk _ => hgr.block k hk (by simp)⟩ (fun k hk => .inr (by simp [blk] at hk; omega))
        · exact (AM.fail_ok h2).elim
      · exact (AM.fail_ok h1).elim
    · -- nil
      obtain ⟨ys, s1, t1', w1, t2, w2, h3, h4, _, _⟩ := AM.bind_ok h0
      obtain ⟨rfl, a, c, news, hyv, hlf⟩ := listOf_ok hsr hy h3
      obtain ⟨hlim, h5⟩ := AM.need_ok h4
      obtain ⟨w3, h6⟩ := AM.put_ok h5
      obtain ⟨rfl, rfl⟩ := AM.pure_ok h6
      exact fromNil ys a c news s1 [] [] hlf hyv (nil_inv hx) hlim rfl rfl
    · -- behind a clipped slice
      rename_i sz' xs
      obtain ⟨ys, s1, t1', w1, t2, w2, h3, h4, _, _⟩ := AM.bind_ok h0
      obtain ⟨rfl, a, c, news, rfl, hlf⟩ := listOf_ok hsr hy h3
      rcases AM.bif_ok h4 with ⟨hb, h5⟩ | ⟨_, h5⟩
      · have hs := Nat.eq_of_beq_eq_true hb
        subst hs
        obtain ⟨⟨hne, hlim⟩, h6⟩ := AM.need_ok h5
        obtain ⟨w3, h7⟩ := AM.put_ok h6
        obtain ⟨rfl, rfl⟩ := AM.pure_ok h7
        obtain ⟨xa, xc, olds, rfl, hxf, hcl⟩ := sl_LF hx
        have hxc := hcl rfl
        subst hxc
        have hy0 : 0 < ys.length := List.length_pos_iff.2 hne
        have hm : xs.length + ys.length ≤ maxLen := by simp only [maxLen]; omega
        cases a with
        | none => exact absurd (hlf.none rfl) hne
        | some ad =>
          have fin : ∀ old, (Builtin.append_ #[t, t] ty #[.slice xa xs.length xs.length, .slice (some ad) ys.length c]).run E.P Γ.w = .ok (.slice (some ⟨Γ.w.heap.size, 0, none⟩) (xs.length + ys.length) (grownCap Γ.w (xs.length + ys.length) old e))
              (Γ.w.drew.alloc (.cells (olds.toArray ++ news.toArray ++ Builtin.zeroCells z.cells (grownCap Γ.w (xs.length + ys.length) old e - (xs.length + ys.length))) e)) →
              ∃ Γ' u, (Builtin.append_ #[t, t] ty #[.slice xa xs.length xs.length, .slice (some ad) ys.length c]).run E.P Γ.w = .ok u Γ'.w ∧ Out w0 M n0 Γ Γ' (s1.upd n0 (.row false e i.size (xs ++ ys))) ∧ VR Γ' (.own n0) u := by
            intro old hrun
            obtain ⟨hown', hgr⟩ := grown_own (P := E.P) Γ.w e (xs.length + ys.length) old i.size z.cells olds news (by rw [List.length_append, hxf.len, hlf.len, Nat.add_mul]) hzs hm
            have hle := fun b (hz : Γ.Z b ∨ Γ.B b) => hgr.block b (hsr.zlt b hz) (by simp)
            have ho' := out_new (n0 := n0) (id := n0) (o := .row false e i.size (xs ++ ys)) (v := .slice (some ⟨Γ.w.heap.size, 0, none⟩) (xs.length + ys.length) (grownCap Γ.w (xs.length + ys.length) old e)) hsr hk hn hgr (fun k hk => by simp [blk] at hk; subst hk; simp) ⟨Nat.le_refl _, by omega⟩
              ⟨_, olds ++ news, at_self _ _ _ _, hpos, by rw [List.length_append]; exact hown', (CellsOK.append hxf.len hxf.ok hlf.ok).mono (Ctx.at_le hn hle), fun _ q hq => (List.mem_append.1 hq).elim (hxf.clean q) (hlf.clean q)⟩
            exact ⟨_, _, hrun, ho', .own n0 _ _ _ (at_self _ _ _ _)⟩
          cases xa with
          | none =>
            have hxs := hxf.none rfl
            subst hxs
            have holds : olds = [] := List.eq_nil_of_length_eq_zero (by simpa using hxf.len)
            subst holds
            have hrun := run_append_nil (P := E.P) Γ.w t ty e i z hu hi hiz ad ys.length c news hlf.len (fun j q hq => hlf.cell ad j q rfl hq) hy0 (by omega) (by have := hlim.1; simp [lim] at this; omega)
            refine fin 0 ?_
            simpa using hrun
          | some xad =>
            exact fin _ (run_append_grow (P := E.P) Γ.w t ty e i z hu hi hiz xad xs.length xs.length olds hxf.len (fun j q hq => hxf.cell xad j q rfl hq) ad ys.length c news hlf.len (fun j q hq => hlf.cell ad j q rfl hq) (by omega) (by omega)
              (growslice_fits (by omega) (by simpa [lim] using hlim.1)))
      · exact (AM.fail_ok h5).elim
    · exact (AM.fail_ok h0).elim
  · exact (AM.fail_ok h).elim
end
end Go.Pvm
namespace Go.Pvm
open Go.RowKit

theorem get_madeCells {z : Array Value} {n k : Nat} (hk : k < n) (hz : 0 < z.size) : (madeCells z n)[k]? = z[k % z.size]? := by
  have : k % z.size < z.size := Nat.mod_lt _ hz
  simp [madeCells, hk, this]
/-- a zero again and again -/
theorem made_ok {Γ : Ctx} {sz n c : Nat} {z : PVal} {zv : Value} (hz : VR Γ z zv) (hone : oneL z.cells = true) (hl : z.cells.length = sz) (hzs : zv.cells.size = sz) (hpos : 0 < sz) (hnc : n ≤ c) :
    CellsOK Γ sz (List.replicate n z) ((madeCells zv.cells (c * sz)).toList.take (n * sz)) := by
  obtain ⟨_, hv⟩ := hz.cells_of hone
  refine ⟨fun x hx => by rw [List.eq_of_mem_replicate hx]; exact ⟨hl, hone⟩, fun i x j q hx hj => ?_⟩
  have hi : i < n := by have := (List.getElem?_eq_some_iff.1 hx).1; simpa using this
  have : x = z := List.eq_of_mem_replicate (mem_of_get hx)
  subst this
  have hjl : j < sz := by rw [← hl]; exact (List.getElem?_eq_some_iff.1 hj).1
  have h1 : (i + 1) * sz ≤ n * sz := Nat.mul_le_mul_right _ hi
  rw [Nat.add_mul, Nat.one_mul] at h1
  have h2 : n * sz ≤ c * sz := Nat.mul_le_mul_right _ hnc
  obtain ⟨u, hu, hvu⟩ := hv j q hj
  refine ⟨u, ?_, hvu⟩
  rw [List.getElem?_take, if_pos (by omega), Array.getElem?_toList, get_madeCells (by omega) (by omega), hzs, Nat.mul_comm i sz, Nat.mul_add_mod, Nat.mod_eq_of_lt hjl]
  exact hu
section
variable {E : Env}
/-- a zero, frozen -/
theorem zeroF_ok {K : Nat → Prop} {Γ : Ctx} {st s1 : Store} {e : Nat} {z z' : PVal} {T W : List Nat} (hsr : SR K Γ st) (hz : zeroV E e = .ok z) (h : (freezeV .fr z).run st = .ok (z', s1, T, W)) :
    ∃ Γ1 i zv, Frz K Γ Γ1 s1 ∧ E.P.info? e = some i ∧ i.zero = some zv ∧ VR Γ1 z' zv := by
  obtain ⟨i, zv, hi, hiz, hv⟩ := zeroV_ok Γ hz
  obtain ⟨Γ1, hf, hv1⟩ := freezeV_ok z hsr hv h
  exact ⟨Γ1, i, zv, hf, hi, hiz, hv1⟩
theorem makeSliceA_ok {w0 : World} {M : Nat → Prop} {n0 : Nat} {Γ : Ctx} {st st' : Store} {t : Nat} {l c r : PVal} {lv cv : Value} {T W : List Nat} (hsr : SR (KK w0 M) Γ st) (hk : Keep w0 M Γ.w) (hl : VR Γ l lv) (hc : VR Γ c cv)
    (hf : ∀ id, n0 ≤ id → id < n0 + 16 → Γ.φ id = none) (h : (makeSliceA E n0 t l c).run st = .ok (r, st', T, W)) :
    ∃ Γ' u, (Instr.makeSlice t lv cv).run E.P Γ.w = .ok u Γ'.w ∧ Out w0 M n0 Γ Γ' st' ∧ VR Γ' r u := by
  unfold makeSliceA at h
  split at h
  · rename_i e kl l' kc c' hu
    cases hl; cases hc
    dsimp only at h
    rcases AM.bif_ok h with ⟨_, h0⟩ | ⟨hok, h0⟩
    · exact (AM.fail_ok h0).elim
    obtain ⟨i, z, hi, hiz, hzs, hpos, hcell, hby⟩ := okT_info (by simpa using hok)
    rw [hcell, hby] at h0
    split at h0
    · exact (AM.fail_ok h0).elim
    · rename_i z0 hz0
      obtain ⟨z', s1, t1, w1, t2, w2, h1, h2, _, _⟩ := AM.bind_ok h0
      obtain ⟨Γ1, i', zv, hfz, hi', hiz', hvz⟩ := zeroF_ok hsr hz0 h1
      rw [hi] at hi'
      obtain rfl := Option.some.inj hi'
      rw [hiz] at hiz'
      obtain rfl := Option.some.inj hiz'
      rcases AM.bif_ok h2 with ⟨hb, h3⟩ | ⟨_, h3⟩
      · simp only [Bool.and_eq_true] at hb
        have hzl := Nat.eq_of_beq_eq_true hb.2
        obtain ⟨⟨h00, hlc, hlim, h63⟩, h4⟩ := AM.need_ok h3
        obtain ⟨w3, h5⟩ := AM.put_ok h4
        obtain ⟨rfl, rfl⟩ := AM.pure_ok h5
        have hrun := run_make (P := E.P) Γ.w t e i z hu hi hiz kl kc l' c' h00 hlc (by rw [Int.mul_comm]; omega) h63
        have hgr := grown_alloc Γ.w (.cells (madeCells z.cells (c'.toNat * i.size)) e)
        have hn : Γ1.φ n0 = none := by rw [hfz.φ]; exact hf n0 (Nat.le_refl _) (by omega)
        have hle : Γ1.le (Γ1.at_ (Γ.w.alloc (.cells (madeCells z.cells (c'.toNat * i.size)) e)) n0 (.slice (some ⟨Γ.w.heap.size, 0, none⟩) l'.toNat c'.toNat)) := Ctx.at_le hn fun b hz => by
          have := hfz.sr.zlt b hz
          rw [hfz.w] at this ⊢
          exact heap_alloc_old _ _ _ this
        have hlen : (List.replicate l'.toNat z').length = l'.toNat := by simp
        have hnc : l'.toNat ≤ c'.toNat := by omega
        have hmul : l'.toNat * i.size ≤ c'.toNat * i.size := Nat.mul_le_mul_right _ hnc
        have ho := out_new (n0 := n0) (id := n0) (w' := Γ.w.alloc (.cells (madeCells z.cells (c'.toNat * i.size)) e)) (o := .row false e i.size (List.replicate l'.toNat z'))
          (v := .slice (some ⟨Γ.w.heap.size, 0, none⟩) l'.toNat c'.toNat) hfz.sr (by rw [hfz.w]; exact hk) hn (by rw [hfz.w]; exact hgr) (fun k hk => by simp [blk] at hk; subst hk; rw [hfz.w]; simp) ⟨Nat.le_refl _, by omega⟩
          ⟨_, (madeCells z.cells (c'.toNat * i.size)).toList.take (l'.toNat * i.size), at_self _ _ _ _, hpos,
            by
              rw [hlen]
              exact ⟨by rw [List.length_take, Array.length_toList, size_madeCells]; omega, .inr ⟨_, _, _, rfl, Nat.zero_le _, heap_alloc_new _ _, hnc, by simp only [maxLen]; omega, size_madeCells _ _, rfl⟩⟩,
            (made_ok hvz (clean_one hb.1) hzl hzs hpos hnc).mono hle, fun _ x hx => by rw [List.eq_of_mem_replicate hx]; exact hb.1⟩
        exact ⟨_, _, hrun, (hfz.out hk).trans ho, .own n0 _ _ _ (at_self _ _ _ _)⟩
      · exact (AM.fail_ok h3).elim
  · exact (AM.fail_ok h).elim

/-- the model's way to put a part in -/
theorem foldl_set : ∀ (l : List Value) (s : Nat) (off : Nat) (A : Array Value) (k : Nat), off + s + l.length ≤ A.size →
    ((l.zipIdx s).foldl (fun cs (p : Value × Nat) => cs.setIfInBounds (off + p.2) p.1) A)[k]? = (if off + s ≤ k ∧ k < off + s + l.length then l[k - (off + s)]? else A[k]?) ∧
    ((l.zipIdx s).foldl (fun cs (p : Value × Nat) => cs.setIfInBounds (off + p.2) p.1) A).size = A.size
  | [], s, off, A, k, h => by
    simp only [List.zipIdx_nil, List.foldl_nil, List.length_nil, and_true]
    rw [if_neg (by omega)]
  | v :: l, s, off, A, k, h => by
    simp only [List.length_cons] at h
    obtain ⟨h1, h2⟩ := foldl_set l (s + 1) off (A.setIfInBounds (off + s) v) k (by simp; omega)
    simp only [List.zipIdx_cons, List.foldl_cons]
    refine ⟨?_, by rw [h2]; simp⟩
    rw [h1]
    simp only [List.length_cons]
    by_cases hk : off + (s + 1) ≤ k ∧ k < off + (s + 1) + l.length
    · rw [if_pos hk, if_pos (by omega), show k - (off + s) = (k - (off + (s + 1))) + 1 by omega, List.getElem?_cons_succ]
    · rw [if_neg hk]
      by_cases h3 : k = off + s
      · subst h3
        rw [if_pos (by omega)]
        simp [show off + s < A.size by omega]
      · rw [if_neg (by omega), Array.getElem?_setIfInBounds_ne (by omega)]
theorem fold_part (v : Value) (off : Nat) (A : Array Value) (h : off + v.cells.size ≤ A.size) :
    (v.cells.zipIdx.foldl (fun cs (c, j) => cs.setIfInBounds (off + j) c) A).size = A.size ∧
    ∀ k, (v.cells.zipIdx.foldl (fun cs (c, j) => cs.setIfInBounds (off + j) c) A)[k]? = if off ≤ k ∧ k < off + v.cells.size then v.cells[k - off]? else A[k]? := by
  have e : (v.cells.zipIdx.foldl (fun cs (c, j) => cs.setIfInBounds (off + j) c) A) = ((v.cells.toList.zipIdx 0).foldl (fun cs (p : Value × Nat) => cs.setIfInBounds (off + p.2) p.1) A) := by
    rw [← Array.foldl_toList, Array.toList_zipIdx]
  rw [e]
  refine ⟨(foldl_set v.cells.toList 0 off A 0 (by simpa using h)).2, fun k => ?_⟩
  rw [(foldl_set v.cells.toList 0 off A k (by simpa using h)).1]
  simp
/-- cells of one aggregate -/
def FlatOK (Γ : Ctx) (cs : List PVal) (A : Array Value) : Prop := A.size = cs.length ∧ ∀ (j : Nat) (c : PVal), cs[j]? = some c → ∃ u, A[j]? = some u ∧ VR Γ c u
def PartsOK (Γ : Ctx) (ps : List (Nat × PVal)) (qs : List (Nat × Value)) : Prop := ps.length = qs.length ∧ ∀ (i : Nat) (p : Nat × PVal) (q : Nat × Value), ps[i]? = some p → qs[i]? = some q → p.1 = q.1 ∧ VR Γ p.2 q.2
theorem PartsOK.tail {Γ : Ctx} {p : Nat × PVal} {q : Nat × Value} {ps : List (Nat × PVal)} {qs : List (Nat × Value)} (h : PartsOK Γ (p :: ps) (q :: qs)) : (p.1 = q.1 ∧ VR Γ p.2 q.2) ∧ PartsOK Γ ps qs :=
  ⟨h.2 0 p q rfl rfl, by simpa using h.1, fun i a b ha hb => h.2 (i + 1) a b (by simpa using ha) (by simpa using hb)⟩
theorem PartsOK.mono {Γ Γ' : Ctx} (hle : Γ.le Γ') {ps : List (Nat × PVal)} {qs : List (Nat × Value)} (h : PartsOK Γ ps qs) : PartsOK Γ' ps qs := ⟨h.1, fun i p q hp hq => ⟨(h.2 i p q hp hq).1, (h.2 i p q hp hq).2.mono hle⟩⟩
theorem fillA_ok {Γ : Ctx} {place place' : Nat → Option (Nat × Nat)} (hpl : ∀ i o n, place i = some (o, n) → place' i = some (o, n)) : ∀ (ps : List (Nat × PVal)) (qs : List (Nat × Value)) (cs cs' : List PVal) (A : Array Value), PartsOK Γ ps qs → FlatOK Γ cs A →
    fillA place cs ps = .ok cs' → ∃ A', Instr.fill place' A qs = some A' ∧ FlatOK Γ cs' A'
  | [], [], cs, cs', A, hp, hc, h => by
    simp only [fillA, R.ok.injEq] at h
    subst h
    exact ⟨A, rfl, hc⟩
  | [], q :: qs, cs, cs', A, hp, hc, h => by have := hp.1; simp at this
  | p :: ps, [], cs, cs', A, hp, hc, h => by have := hp.1; simp at this
  | (i, v) :: ps, (i', u) :: qs, cs, cs', A, hp, hc, h => by
    obtain ⟨⟨hi, hv⟩, ht⟩ := hp.tail
    simp only at hi hv
    subst hi
    simp only [fillA] at h
    split at h
    · cases h
    · rename_i off n hpl'
      rcases bif_ok h with ⟨hb, h1⟩ | ⟨_, h1⟩
      · simp only [Bool.and_eq_true] at hb
        have hn := Nat.eq_of_beq_eq_true hb.1.1
        have hle := Nat.le_of_ble_eq_true hb.1.2
        obtain ⟨hus, huv⟩ := hv.cells_of hb.2
        have hA := hc.1
        obtain ⟨hs, hg⟩ := fold_part u off A (by omega)
        have hflat : FlatOK Γ (setCells cs off v.cells) (u.cells.zipIdx.foldl (fun cs (c, j) => cs.setIfInBounds (off + j) c) A) := by
          refine ⟨by rw [hs, setCells_len]; exact hA, fun j c hj => ?_⟩
          rw [setCells_get _ _ _ _ (by omega)] at hj
          rw [hg j, hus]
          split at hj
          · rename_i hin
            rw [if_pos hin]
            exact huv _ c hj
          · rename_i hout
            rw [if_neg hout]
            exact hc.2 j c hj
        obtain ⟨A', hA', hf⟩ := fillA_ok hpl ps qs _ cs' _ ht hflat h1
        refine ⟨A', ?_, hf⟩
        simp only [Instr.fill, hpl _ _ _ hpl']
        rw [if_neg (by rw [hus, hn]; simp; omega)]
        exact hA'
      · cases h1
theorem mapM_info {P : Program} : ∀ (fs : List Field), (fs.all fun f => (P.info? f.type).isSome) = true → fs.mapM (fun f => (P.info? f.type).map fun i => (f.offset, i.size)) = some (fs.map fun f => (f.offset, P.cellsOf f.type))
  | [], _ => rfl
  | f :: fs, h => by
    simp only [List.all_cons, Bool.and_eq_true] at h
    obtain ⟨i, hi⟩ := Option.isSome_iff_exists.1 h.1
    have hc : P.cellsOf f.type = i.size := by simp [Program.cellsOf, hi]
    simp [List.mapM_cons, mapM_info fs h.2, hi, hc]
theorem zero_flat {t : Nat} {z : List PVal} (Γ : Ctx) (h : zeroV E t = .ok (.agg z)) : ∃ i zv, E.P.info? t = some i ∧ i.zero = some zv ∧ FlatOK Γ z zv.cells := by
  obtain ⟨i, zv, hi, hz, hv⟩ := zeroV_ok Γ h
  cases hv with
  | agg _ us hl hvs =>
    refine ⟨i, _, hi, hz, hl.symm, fun j c hj => ?_⟩
    have hlt : j < us.size := by rw [← hl]; exact (List.getElem?_eq_some_iff.1 hj).1
    exact ⟨us[j], by simp [Value.cells, hlt], hvs j c _ hj (by simp [hlt])⟩
theorem flat_agg {Γ : Ctx} {cs : List PVal} {A : Array Value} (h : FlatOK Γ cs A) : VR Γ (.agg cs) (.agg A) := .agg cs A h.1.symm fun i c v hi hv => by
  obtain ⟨u, hu, hvu⟩ := h.2 i c hi
  rw [hv] at hu
  obtain rfl := Option.some.inj hu
  exact hvu
theorem buildA_ok {Γ : Ctx} {st st' : Store} {t : Nat} {ps : List (Nat × PVal)} {qs : Array (Nat × Value)} {r : PVal} {T W : List Nat} (hp : PartsOK Γ ps qs.toList) (h : (buildA E t ps).run st = .ok (r, st', T, W)) :
    st' = st ∧ ∃ u, (Instr.build t qs).run E.P Γ.w = .ok u Γ.w ∧ VR Γ r u := by
  unfold buildA at h
  split at h
  · rename_i z hz
    obtain ⟨i, zv, hi, hiz, hfl⟩ := zero_flat Γ hz
    split at h
    · rename_i fs hu
      rcases AM.bif_ok h with ⟨hall, h1⟩ | ⟨_, h1⟩
      · obtain ⟨h2, hs⟩ := AM.ofR_ok h1
        obtain ⟨cs, hcs, h3⟩ := R.bind_ok h2
        simp only [R.ok.injEq] at h3
        subst h3
        obtain ⟨A', hA, hfA⟩ := fillA_ok (place' := ((fs.toList.map fun f => (f.offset, E.P.cellsOf f.type)).toArray[·]?)) (fun i o n hpl => by
          split at hpl
          · rename_i f hf
            rw [← hpl]
            rw [List.getElem?_toArray, List.getElem?_map, Array.getElem?_toList, hf]
            rfl
          · cases hpl) ps qs.toList z cs zv.cells hp hfl hcs
        refine ⟨hs, .agg A', run_build Γ.w t qs A' ?_, flat_agg hfA⟩
        unfold Program.built
        rw [hi, hu]
        simp only [hiz, mapM_info fs.toList hall]
        exact hA
      · exact (AM.fail_ok h1).elim
    · rename_i n e hu
      rcases AM.bif_ok h with ⟨hinf, h1⟩ | ⟨_, h1⟩
      · obtain ⟨h2, hs⟩ := AM.ofR_ok h1
        obtain ⟨cs, hcs, h3⟩ := R.bind_ok h2
        simp only [R.ok.injEq] at h3
        subst h3
        obtain ⟨A', hA, hfA⟩ := fillA_ok (place' := fun i => some (i * E.P.cellsOf e, E.P.cellsOf e)) (fun i o n hpl => hpl) ps qs.toList z cs zv.cells hp hfl hcs
        refine ⟨hs, .agg A', run_build Γ.w t qs A' ?_, flat_agg hfA⟩
        obtain ⟨ie, hie⟩ := Option.isSome_iff_exists.1 hinf
        have hc : E.P.cellsOf e = ie.size := by simp [Program.cellsOf, hie]
        unfold Program.built
        rw [hi, hu]
        simp only [hiz, hie]
        rw [hc] at hA
        exact hA
      · exact (AM.fail_ok h1).elim
    · exact (AM.fail_ok h).elim
  · exact (AM.fail_ok h).elim

theorem freezeP_ok {K : Nat → Prop} : ∀ (ps : List (Nat × PVal)) {Γ : Ctx} {st st' : Store} {ps' : List (Nat × PVal)} {qs : List (Nat × Value)} {T W : List Nat}, SR K Γ st → PartsOK Γ ps qs → (freezeP ps).run st = .ok (ps', st', T, W) →
    ∃ Γ', Frz K Γ Γ' st' ∧ PartsOK Γ' ps' qs
  | [], Γ, st, st', ps', qs, T, W, hsr, hp, h => by
    simp only [freezeP] at h
    obtain ⟨rfl, rfl⟩ := AM.pure_ok h
    exact ⟨Γ, Frz.refl hsr, hp⟩
  | (i, v) :: ps, Γ, st, st', ps', [], T, W, hsr, hp, h => by have := hp.1; simp at this
  | (i, v) :: ps, Γ, st, st', ps', (i', u) :: qs, T, W, hsr, hp, h => by
    obtain ⟨⟨hi, hv⟩, ht⟩ := hp.tail
    simp only [freezeP] at h
    obtain ⟨v', s1, t1, w1, t2, w2, h1, h2, _, _⟩ := AM.bind_ok h
    obtain ⟨r, s2, t3, w3, t4, w4, h3, h4, _, _⟩ := AM.bind_ok h2
    obtain ⟨rfl, rfl⟩ := AM.pure_ok h4
    obtain ⟨Γ1, hf1, hv1⟩ := freezeV_ok v hsr hv h1
    obtain ⟨Γ2, hf2, hp2⟩ := freezeP_ok ps hf1.sr (ht.mono hf1.le) h3
    refine ⟨Γ2, hf1.trans hf2, by simp [hp2.1], fun j p q hp hq => ?_⟩
    cases j with
    | zero => simp at hp hq; subst hp; subst hq; exact ⟨hi, hv1.mono hf2.le⟩
    | succ j => exact hp2.2 j p q (by simpa using hp) (by simpa using hq)
theorem setParts_ok {Γ : Ctx} {sz : Nat} (hpos : 0 < sz) : ∀ (ps : List (Nat × PVal)) (qs : List (Nat × Value)) (xs xs' : List PVal) (A : Array Value), PartsOK Γ ps qs → A.size = xs.length * sz → CellsOK Γ sz xs A.toList → (∀ x ∈ xs, x.clean = true) →
    setParts sz xs ps = .ok xs' → ∃ A', Instr.fill (fun i => some (i * sz, sz)) A qs = some A' ∧ xs'.length = xs.length ∧ A'.size = xs.length * sz ∧ CellsOK Γ sz xs' A'.toList ∧ (∀ x ∈ xs', x.clean = true)
  | [], [], xs, xs', A, hp, hA, hc, hcl, h => by
    simp only [setParts, R.ok.injEq] at h
    subst h
    exact ⟨A, rfl, rfl, hA, hc, hcl⟩
  | [], q :: qs, xs, xs', A, hp, hA, hc, hcl, h => by have := hp.1; simp at this
  | p :: ps, [], xs, xs', A, hp, hA, hc, hcl, h => by have := hp.1; simp at this
  | (i, v) :: ps, (i', u) :: qs, xs, xs', A, hp, hA, hc, hcl, h => by
    obtain ⟨⟨hi, hv⟩, ht⟩ := hp.tail
    simp only at hi hv
    subst hi
    simp only [setParts] at h
    rcases bif_ok h with ⟨hb, h1⟩ | ⟨_, h1⟩
    · simp only [Bool.and_eq_true] at hb
      have hil : i < xs.length := Nat.le_of_ble_eq_true hb.1.1
      have hvl := Nat.eq_of_beq_eq_true hb.2
      obtain ⟨hus, huv⟩ := hv.cells_of (clean_one hb.1.2)
      have hseg : i * sz + sz ≤ xs.length * sz := by
        have : (i + 1) * sz ≤ xs.length * sz := Nat.mul_le_mul_right _ hil
        rwa [Nat.add_mul, Nat.one_mul] at this
      obtain ⟨hs, hg⟩ := fold_part u (i * sz) A (by omega)
      have k1 : ∀ x ∈ xs.set i v, x.cells.length = sz ∧ oneL x.cells = true := fun x hx => by
        rcases List.mem_or_eq_of_mem_set hx with hx | rfl
        · exact hc.1 x hx
        · exact ⟨hvl, clean_one hb.1.2⟩
      have k2 : ∀ (i2 : Nat) (x : PVal) (j : Nat) (c : PVal), (xs.set i v)[i2]? = some x → x.cells[j]? = some c → ∃ q, (u.cells.zipIdx.foldl (fun cs (c, j) => cs.setIfInBounds (i * sz + j) c) A).toList[i2 * sz + j]? = some q ∧ VR Γ c q := fun i2 x j c hx hj => by
        rw [Array.getElem?_toList, hg, hus, hvl]
        by_cases hii : i2 = i
        · subst hii
          rw [List.getElem?_set_self hil] at hx
          obtain rfl := Option.some.inj hx
          have hjl : j < sz := by rw [← hvl]; exact (List.getElem?_eq_some_iff.1 hj).1
          rw [if_pos (by omega), show i2 * sz + j - i2 * sz = j by omega]
          exact huv j c hj
        · rw [List.getElem?_set_ne (Ne.symm hii)] at hx
          have hjl : j < sz := by have := (hc.1 x (mem_of_get hx)).1; have := (List.getElem?_eq_some_iff.1 hj).1; omega
          have := mul_lt_block (m := sz) (off := 0) hii hjl (by omega)
          simp only [Nat.add_zero] at this
          rw [if_neg this]
          obtain ⟨q, hq, hvq⟩ := hc.2 i2 x j c hx hj
          exact ⟨q, by simpa using hq, hvq⟩
      have k3 : ∀ x ∈ xs.set i v, x.clean = true := fun x hx => by
        rcases List.mem_or_eq_of_mem_set hx with hx | rfl
        · exact hcl x hx
        · exact hb.1.2
      obtain ⟨A', hA', hl, hs', hc', hcl'⟩ := setParts_ok hpos ps qs (xs.set i v) xs' (u.cells.zipIdx.foldl (fun cs (c, j) => cs.setIfInBounds (i * sz + j) c) A) ht (by rw [hs, List.length_set]; exact hA) ⟨k1, k2⟩ k3 h1
      refine ⟨A', ?_, by simpa using hl, by simpa using hs', hc', hcl'⟩
      simp only [Instr.fill]
      rw [if_neg (by rw [hus, hvl]; simp; omega)]
      exact hA'
    · cases h1
theorem buildSliceA_ok {w0 : World} {M : Nat → Prop} {n0 : Nat} {Γ : Ctx} {st st' : Store} {t n : Nat} {ps : List (Nat × PVal)} {qs : Array (Nat × Value)} {r : PVal} {T W : List Nat} (hsr : SR (KK w0 M) Γ st) (hk : Keep w0 M Γ.w) (hp : PartsOK Γ ps qs.toList)
    (hf : ∀ id, n0 ≤ id → id < n0 + 16 → Γ.φ id = none) (h : (buildSliceA E n0 t n ps).run st = .ok (r, st', T, W)) :
    ∃ Γ' u, (Instr.buildSlice t n qs).run E.P Γ.w = .ok u Γ'.w ∧ Out w0 M n0 Γ Γ' st' ∧ VR Γ' r u := by
  unfold buildSliceA at h
  split at h
  · rename_i e hu
    dsimp only at h
    rcases AM.bif_ok h with ⟨_, h0⟩ | ⟨hok, h0⟩
    · exact (AM.fail_ok h0).elim
    simp only [Bool.or_eq_false_iff, Bool.not_eq_false'] at hok
    obtain ⟨i, z, hi, hiz, hzs, hpos, hcell, hby⟩ := okT_info hok.1
    have hsmall : n * i.size ≤ 16777216 := by
      have h2 := hok.2
      rw [hcell] at h2
      rcases Nat.lt_or_ge 16777216 (n * i.size) with h | h
      · have h3 : Nat.blt 16777216 (n * i.size) = true := Nat.ble_eq_true_of_le h
        rw [h3] at h2; cases h2
      · exact h
    rw [hcell] at h0
    split at h0
    · exact (AM.fail_ok h0).elim
    · rename_i z0 hz0
      obtain ⟨z', s1, t1, w1, t2, w2, h1, h2, _, _⟩ := AM.bind_ok h0
      obtain ⟨Γ1, i', zv, hfz, hi', hiz', hvz⟩ := zeroF_ok hsr hz0 h1
      rw [hi] at hi'
      obtain rfl := Option.some.inj hi'
      rw [hiz] at hiz'
      obtain rfl := Option.some.inj hiz'
      obtain ⟨ps', s2, t3, w3, t4, w4, h3, h4, _, _⟩ := AM.bind_ok h2
      obtain ⟨Γ2, hfz2, hp2⟩ := freezeP_ok ps hfz.sr (hp.mono hfz.le) h3
      have hfa := hfz.trans hfz2
      rcases AM.bif_ok h4 with ⟨hb, h5⟩ | ⟨_, h5⟩
      · simp only [Bool.and_eq_true] at hb
        have hzl := Nat.eq_of_beq_eq_true hb.2
        split at h5
        · exact (AM.fail_ok h5).elim
        · rename_i xs hxs
          obtain ⟨w5, h6⟩ := AM.put_ok h5
          obtain ⟨rfl, rfl⟩ := AM.pure_ok h6
          have hmade := made_ok (c := n) (n := n) (hvz.mono hfz2.le) (clean_one hb.1) hzl hzs hpos (Nat.le_refl _)
          have htk : (madeCells z.cells (n * i.size)).toList.take (n * i.size) = (madeCells z.cells (n * i.size)).toList := List.take_of_length_le (by simp [size_madeCells])
          rw [htk] at hmade
          obtain ⟨A', hA', hl, hs', hc', hcl'⟩ := setParts_ok hpos ps' qs.toList (List.replicate n z') xs (madeCells z.cells (n * i.size)) hp2 (by simp [size_madeCells]) hmade (fun x hx => by rw [List.eq_of_mem_replicate hx]; exact hb.1) hxs
          have hlen : xs.length = n := by simpa using hl
          rw [List.length_replicate] at hs'
          have hrun : (Instr.buildSlice t n qs).run E.P Γ.w = .ok (.slice (some ⟨Γ.w.heap.size, 0, none⟩) n n) (Γ.w.alloc (.cells A' e)) := by
            have hng : ¬ (n * i.size > 2 ^ 24) := by omega
            by_cases hn0 : n * i.size = 0
            · have hn00 : n = 0 := by
                rcases Nat.mul_eq_zero.1 hn0 with h | h
                · exact h
                · omega
              have hA0 : madeCells z.cells (n * i.size) = #[] := by rw [hn0]; simp [madeCells]
              rw [hA0] at hA'
              subst hn00
              simp [Instr.buildSlice, run_underlying hu, sizeOf, typeInfo, hi, show Array.range 0 = #[] from rfl, hA', newRow]
            · unfold madeCells at hA'
              simp [Instr.buildSlice, run_underlying hu, sizeOf, typeInfo, hi, hng, hn0, zeroValue, hiz, hA', newRow]
          have hgr := grown_alloc Γ.w (.cells A' e)
          have hn : Γ2.φ n0 = none := by rw [hfa.φ]; exact hf n0 (Nat.le_refl _) (by omega)
          have hle : Γ2.le (Γ2.at_ (Γ.w.alloc (.cells A' e)) n0 (.slice (some ⟨Γ.w.heap.size, 0, none⟩) n n)) := Ctx.at_le hn fun b hz => by
            have := hfa.sr.zlt b hz
            rw [hfa.w] at this ⊢
            exact heap_alloc_old _ _ _ this
          have hnm : n ≤ maxLen := by
            have : n * 1 ≤ n * i.size := Nat.mul_le_mul_left _ hpos
            simp only [maxLen]
            omega
          have ho := out_new (n0 := n0) (id := n0) (w' := Γ.w.alloc (.cells A' e)) (o := .row false e i.size xs) (v := .slice (some ⟨Γ.w.heap.size, 0, none⟩) n n) hfa.sr (by rw [hfa.w]; exact hk) hn (by rw [hfa.w]; exact hgr)
            (fun k hk => by simp [blk] at hk; subst hk; rw [hfa.w]; simp) ⟨Nat.le_refl _, by omega⟩
            ⟨_, A'.toList, at_self _ _ _ _, hpos, by rw [hlen]; exact World.ownsRow_lit Γ.w A' n (Nat.zero_le _) hnm hs', hc'.mono hle, fun _ => hcl'⟩
          exact ⟨_, _, hrun, (hfa.out hk).trans ho, .own n0 _ _ _ (at_self _ _ _ _)⟩
      · exact (AM.fail_ok h5).elim
  · exact (AM.fail_ok h).elim
end
end Go.Pvm
namespace Go.Pvm
open Go.RowKit

theorem SR.grow {K : Nat → Prop} {Γ Γ' : Ctx} {st : Store} (h : SR K Γ st) (hle : Γ.le Γ') (hφ : Γ'.φ = Γ.φ)
    (hl : ∀ id v k, (st id).live = true → Γ.φ id = some v → blk v = some k → Γ'.w.heap[k]? = Γ.w.heap[k]? ∧ ¬ Γ'.Z k) (hz : ∀ b, Γ'.Z b ∨ Γ'.B b → b < Γ'.w.heap.size) : SR K Γ' st :=
  ⟨fun id => (h.obj id).keep hle fun v k hlv hv hk => (hl id v k hlv hv hk).1,
   fun id v k hlv hv hk => by rw [hφ] at hv; exact ⟨(h.own id v k hlv hv hk).1, (hl id v k hlv hv hk).2, fun hb => (h.own id v k hlv hv hk).2.2 ((hle.B k).1 hb)⟩,
   fun id id' v v' k h1 h2 hv hv' hk hk' => by rw [hφ] at hv hv'; exact h.disj id id' v v' k h1 h2 hv hv' hk hk', hz⟩

def OptVR (Γ : Ctx) : Option PVal → Option Value → Prop
  | none, none => True
  | some p, some v => VR Γ p v
  | _, _ => False
theorem OptVR.mono {Γ Γ' : Ctx} (hle : Γ.le Γ') {p : Option PVal} {v : Option Value} (h : OptVR Γ p v) : OptVR Γ' p v := by
  cases p <;> cases v <;> first | exact h | exact VR.mono hle h
/-- a bound that is met -/
def BoundIs (v : Option Value) (d y n : Nat) : Prop := (v = none ∧ n = d) ∨ (∃ k i, v = some (.int k i) ∧ 0 ≤ i ∧ i ≤ (y : Int) ∧ n = i.toNat)
theorem boundA_ok {Γ : Ctx} {x : Option PVal} {v : Option Value} {d y : Nat} {k : Nat → AM PVal} {r : PVal} {s s' : Store} {T W : List Nat} (hx : OptVR Γ x v) (h : (boundA x d y k).run s = .ok (r, s', T, W)) : ∃ n, BoundIs v d y n ∧ (k n).run s = .ok (r, s', T, W) := by
  unfold boundA at h
  split at h
  · cases v with
    | none => exact ⟨d, .inl ⟨rfl, rfl⟩, h⟩
    | some v => exact hx.elim
  · cases v with
    | none => exact hx.elim
    | some v =>
      obtain ⟨⟨h0, h1⟩, h2⟩ := AM.need_ok h
      cases hx
      exact ⟨_, .inr ⟨_, _, rfl, h0, h1, rfl⟩, h2⟩
  · exact (AM.fail_ok h).elim
theorem BoundIs.le {v : Option Value} {d y n : Nat} (h : BoundIs v d y n) (hd : d ≤ y) : n ≤ y := by
  rcases h with ⟨_, rfl⟩ | ⟨k, i, _, h0, h1, rfl⟩
  · exact hd
  · omega
theorem run_bound {P : Program} {v : Value} {d y n y' : Nat} (w : World) (code : BoundsCode) (h : BoundIs (some v) d y n) (hy : y ≤ y') : (Instr.sliceBound v y' code).run P w = .ok n w := by
  rcases h with ⟨h, _⟩ | ⟨k, i, e, h0, h1, rfl⟩
  · cases h
  · obtain rfl := Option.some.inj e
    exact run_sliceBound w k i y' code h0 (by omega)
theorem run_bounds2 {P : Program} (w : World) (b : Bool) (len cap : Nat) (lo hi : Option Value) (l h : Nat) (hlc : len ≤ cap) (hh : BoundIs hi len len h) (hl : BoundIs lo 0 h l) : (Instr.sliceBounds b len cap lo hi none).run P w = .ok (l, h, cap) w := by
  unfold Instr.sliceBounds
  cases hi with
  | none =>
    have : h = len := by rcases hh with ⟨_, e⟩ | ⟨_, _, e, _⟩; exact e; cases e
    subst this
    cases lo with
    | none =>
      have : l = 0 := by rcases hl with ⟨_, e⟩ | ⟨_, _, e, _⟩; exact e; cases e
      subst this
      simp
    | some lv => simp [run_bound w _ hl (Nat.le_refl _)]
  | some hv =>
    have e1 := fun c => run_bound (P := P) w c hh hlc
    cases lo with
    | none =>
      have : l = 0 := by rcases hl with ⟨_, e⟩ | ⟨_, _, e, _⟩; exact e; cases e
      subst this
      simp [e1]
    | some lv => simp [e1, run_bound w _ hl (Nat.le_refl _)]
theorem run_bounds3 {P : Program} (w : World) (len cap : Nat) (lo : Option Value) (hv mv : Value) (l h m : Nat) (hlc : len ≤ cap) (hm : BoundIs (some mv) 0 len m) (hh : BoundIs (some hv) 0 m h) (hl : BoundIs lo 0 h l) :
    (Instr.sliceBounds true len cap lo (some hv) (some mv)).run P w = .ok (l, h, m) w := by
  unfold Instr.sliceBounds
  have e1 := fun c => run_bound (P := P) w c hm hlc
  have e2 := fun c => run_bound (P := P) w c hh (Nat.le_refl m)
  cases lo with
  | none =>
    have : l = 0 := by rcases hl with ⟨_, e⟩ | ⟨_, _, e, _⟩; exact e; cases e
    subst this
    simp [e1, e2]
  | some lv => simp [e1, e2, run_bound w _ hl (Nat.le_refl _)]
theorem drop_take_get {α : Type} {xs : List α} {l h i : Nat} {x : α} (hx : ((xs.take h).drop l)[i]? = some x) : xs[l + i]? = some x := by
  rw [List.getElem?_drop, List.getElem?_take] at hx
  split at hx
  · exact hx
  · cases hx
theorem elem_eq {P : Program} {t e : Nat} (h : P.underlying t = some (.slice e)) : P.elem t = e := by simp [Program.elem, h]
/-- a part of a slice -/
theorem sl_part {Γ : Ctx} {m m' : Mode} {sz l h cap' : Nat} {xs : List PVal} {a : Option Addr} {cap mm : Nat} (hv : VR Γ (.sl m sz xs) (.slice a xs.length cap)) (hlh : l ≤ h) (hh : h ≤ xs.length) (hm : h ≤ mm)
    (hmode : m' = .bor ∨ (m ≠ .bor ∧ (m' = .fr ∨ (m' = .clip ∧ mm = h)))) : VR Γ (.sl m' sz ((xs.take h).drop l)) (sliced a l h mm sz) := by
  obtain ⟨a1, c1, f, e, g1, g2, g3, g4, g5, g6, g7, g8⟩ := sl_inv hv
  injection e with e1 _ e3
  subst e1; subst e3
  have hlen : ((xs.take h).drop l).length = h - l := by simp; omega
  unfold sliced
  rw [← hlen]
  refine .sl m' sz _ _ _ (fun e => ?_) ⟨fun e => ?_, fun _ e => ?_⟩ (by omega) (fun x hx => g4 x (List.mem_of_mem_take (List.mem_of_mem_drop hx))) (fun x hx => g5 x (List.mem_of_mem_take (List.mem_of_mem_drop hx))) (fun hne => ?_)
    (fun i j => f (l + i) j) (fun ad i x j c had hx hj => ?_) (fun i x j c hx hj => g8 _ x j c (drop_take_get hx) hj)
  · rcases hmode with rfl | ⟨_, rfl | ⟨rfl, _⟩⟩ <;> cases e
  · rcases hmode with rfl | ⟨_, rfl | ⟨rfl, rfl⟩⟩
    · cases e
    · cases e
    · omega
  · rcases hmode with rfl | ⟨_, rfl | ⟨rfl, _⟩⟩ <;> cases e
  · have hxs : xs ≠ [] := by intro e; subst e; simp at hne
    obtain ⟨ad, rfl, hs⟩ := g6 hxs
    have hne2 : mm ≠ l := by
      intro e
      apply hne
      apply List.eq_nil_of_length_eq_zero
      omega
    rw [if_neg hne2]
    refine ⟨_, rfl, ?_⟩
    rw [add_block]
    rcases hs with hs | ⟨hb, hs⟩
    · exact .inl hs
    · rcases hmode with rfl | ⟨hm', _⟩
      · exact .inr ⟨rfl, hs⟩
      · exact absurd (by simpa using hb) hm'
  · split at had
    · rename_i e
      have : h - l = 0 := by omega
      rw [List.eq_nil_of_length_eq_zero (hlen.trans this)] at hx
      simp at hx
    · cases a with
      | none => cases had
      | some ad0 =>
        simp only [Option.map_some, Option.some.injEq] at had
        subst had
        rw [add_add, show l * sz + (i * sz + j) = (l + i) * sz + j by rw [Nat.add_mul]; omega]
        exact g7 ad0 (l + i) x j c rfl (drop_take_get hx) hj
section
variable {E : Env}
theorem cellsOf_sizeOf {e sz : Nat} (h : E.P.cellsOf e = sz) (hs : 0 < sz) (w : World) : (sizeOf e).run E.P w = .ok sz w := by
  rw [run_sizeOf (cellsOf_info (by omega)), h]
theorem sliceA_ok {w0 : World} {M : Nat → Prop} {n0 : Nat} {Γ : Ctx} {st st' : Store} {t : Nat} {x r : PVal} {xv : Value} {lo hi mx : Option PVal} {lov hiv mxv : Option Value} {T W : List Nat} (hsr : SR (KK w0 M) Γ st) (hk : Keep w0 M Γ.w)
    (hx : VR Γ x xv) (hlo : OptVR Γ lo lov) (hhi : OptVR Γ hi hiv) (hmx : OptVR Γ mx mxv) (h : (sliceA E t x lo hi mx).run st = .ok (r, st', T, W)) :
    ∃ Γ' u, (Instr.sliceAt t xv lov hiv mxv).run E.P Γ.w = .ok u Γ'.w ∧ Out w0 M n0 Γ Γ' st' ∧ VR Γ' r u := by
  unfold sliceA at h
  split at h
  · rename_i s hu
    rcases AM.bif_ok h with ⟨_, h1⟩ | ⟨hm, h1⟩
    · exact (AM.fail_ok h1).elim
    have hm0 : mx = none := by cases mx; rfl; cases hm
    subst hm0
    have hmv : mxv = none := by cases mxv; rfl; exact hmx.elim
    subst hmv
    obtain ⟨hh, hb1, h2⟩ := boundA_ok hhi h1
    obtain ⟨ll, hb2, h3⟩ := boundA_ok hlo h2
    obtain ⟨rfl, rfl⟩ := AM.pure_ok h3
    cases hx
    refine ⟨Γ, _, ?_, Out.same hsr hk, .str _⟩
    rw [run_sliceAt_string Γ.w t _ _ _ _ hu]
    simp [Instr.slice, run_underlying hu, run_bounds2 Γ.w false s.size s.size lov hiv ll hh (Nat.le_refl _) hb1 hb2]
  · rename_i x _ _ e hu
    obtain ⟨x', s1, t1, w1, t2, w2, h1, h2, _, _⟩ := AM.bind_ok h
    obtain ⟨Γ1, hfz, hx1⟩ := freezeV_ok x hsr hx h1
    split at h2
    · rename_i m sz xs
      rcases AM.bif_ok h2 with ⟨hsz, h3⟩ | ⟨_, h3⟩
      · have hsz := Nat.eq_of_beq_eq_true hsz
        subst hsz
        obtain ⟨a, cap, f, rfl, _, _, hcap, _⟩ := sl_inv hx1
        have hue : E.P.underlying t = some (.slice (E.P.elem t)) := by rw [elem_eq hu]; exact hu
        have size : ∀ (w : World), ∃ i, E.P.info? e = some i ∨ True := fun _ => ⟨default, .inr trivial⟩
        split at h3
        · have hmv : mxv = none := by cases mxv; rfl; exact hmx.elim
          subst hmv
          obtain ⟨hh, hb1, h4⟩ := boundA_ok hhi h3
          obtain ⟨ll, hb2, h5⟩ := boundA_ok hlo h4
          rcases AM.bif_ok h5 with ⟨hinf, h5⟩ | ⟨_, h5⟩
          · obtain ⟨rfl, rfl⟩ := AM.pure_ok h5
            have h6 := hb1.le (Nat.le_refl _)
            have h7 := hb2.le (Nat.zero_le _)
            refine ⟨Γ1, sliced a ll hh cap (E.P.cellsOf e), ?_, hfz.out hk, sl_part (cap' := 0) hx1 h7 h6 (by omega) ?_⟩
            · rw [run_sliceAt_slice Γ.w t _ _ _ _ hue, run_slice_any Γ.w t a xs.length cap hue, run_bounds2 Γ.w true xs.length cap lov hiv ll hh hcap hb1 hb2, elem_eq hu]
              simp only [Result.andThen_ok, run_sizeOf hinf, hfz.w]
            · by_cases hb : m = .bor
              · left; simp [hb]
              · right; exact ⟨hb, .inl (by simp [hb])⟩
          · exact (AM.fail_ok h5).elim
        · rename_i mp
          cases mxv with
          | none => exact hmx.elim
          | some mv =>
            obtain ⟨q, hb0, h4⟩ := boundA_ok hmx h3
            obtain ⟨hh, hb1, h5⟩ := boundA_ok hhi h4
            obtain ⟨ll, hb2, h6⟩ := boundA_ok hlo h5
            rcases AM.bif_ok h6 with ⟨hinf, h6⟩ | ⟨_, h6⟩
            · obtain ⟨⟨e1, e2⟩, h7⟩ := AM.need_ok h6
              obtain ⟨rfl, rfl⟩ := AM.pure_ok h7
              have h8 := hb0.le (Nat.zero_le _)
              have h9 := hb1.le (Nat.zero_le _)
              have h10 := hb2.le (Nat.zero_le _)
              cases hiv with
              | none => cases hi <;> first | exact absurd rfl e2 | exact hhi.elim
              | some hv =>
                refine ⟨Γ1, sliced a ll hh q (E.P.cellsOf e), ?_, hfz.out hk, sl_part (cap' := 0) hx1 h10 (by omega) h9 ?_⟩
                · rw [run_sliceAt_slice Γ.w t _ _ _ _ hue, run_slice_any Γ.w t a xs.length cap hue, run_bounds3 Γ.w xs.length cap lov hv mv ll hh q hcap hb0 hb1 hb2, elem_eq hu]
                  simp only [Result.andThen_ok, run_sizeOf hinf, hfz.w]
                · by_cases hb : m = .bor
                  · left; simp [hb]
                  · right; exact ⟨hb, .inr ⟨by simp [hb], e1.symm⟩⟩
            · exact (AM.fail_ok h6).elim
      · exact (AM.fail_ok h3).elim
    · exact (AM.fail_ok h2).elim
  · exact (AM.fail_ok h).elim
theorem run_part {Γ : Ctx} {t : Nat} (ht : hasType E t = true) {cs : List PVal} {A : Array Value} (hA : VR Γ (.agg cs) (.agg A)) {off : Nat} {v : PVal} (h : part (.agg cs) off (E.P.cellsOf t) (isAggT E t) = .ok v) :
    ∃ u, (Go.part t A off).run E.P Γ.w = .ok u Γ.w ∧ VR Γ v u := by
  have hinf : (E.P.info? t).isSome = true := by obtain ⟨i, d, hi, _⟩ := hasType_info ht; simp [hi]
  cases hA with
  | agg _ _ hl hv =>
  unfold part at h
  unfold Go.part
  cases ha : isAggT E t with
  | true =>
    rw [ha] at h
    simp only [cond_true] at h
    rcases bif_ok h with ⟨hle, h1⟩ | ⟨_, h1⟩
    · have hle := Nat.le_of_ble_eq_true hle
      simp only [R.ok.injEq] at h1
      subst h1
      simp only [PVal.cells] at hle
      refine ⟨.agg (A.extract off (off + E.P.cellsOf t)), ?_, .agg _ _ (by simp [PVal.cells]; omega) fun j c u hj hu => ?_⟩
      · simp only [Sem.run_bind, run_isAgg ht, Result.andThen_ok, ha, if_true, run_sizeOf hinf, Sem.run_pure]
      · simp only [PVal.cells] at hj
        rw [List.getElem?_take] at hj
        split at hj
        · rename_i hlt
          rw [List.getElem?_drop] at hj
          rw [Array.getElem?_extract] at hu
          split at hu
          · exact hv _ c u hj hu
          · cases hu
        · cases hj
    · cases h1
  | false =>
    rw [ha] at h
    simp only [cond_false, PVal.cells] at h
    split at h
    · rename_i c hc
      simp only [R.ok.injEq] at h
      subst h
      have hlt : off < A.size := by rw [← hl]; exact (List.getElem?_eq_some_iff.1 hc).1
      refine ⟨A[off], ?_, hv off c _ hc (by simp [hlt])⟩
      simp [run_isAgg ht, ha, hlt]
    · cases h
theorem fieldA_ok {Γ : Ctx} {t f : Nat} {x v : PVal} {xv : Value} (hx : VR Γ x xv) (h : fieldA E t x f = .ok v) : ∃ u, (Instr.field t xv f).run E.P Γ.w = .ok u Γ.w ∧ VR Γ v u := by
  unfold fieldA at h
  split at h
  · rename_i fs cs hu
    split at h
    · rename_i fd hfd
      rcases bif_ok h with ⟨_, h1⟩ | ⟨ht, h1⟩
      · cases h1
      · cases hx with
        | agg _ A hl hv =>
          obtain ⟨u, hr, hvu⟩ := run_part (by simpa using ht) (.agg _ A hl hv) h1
          refine ⟨u, ?_, hvu⟩
          simp [Instr.field, run_underlying hu, hfd, asAgg, hr]
    · cases h
  · cases h
theorem byteAt_get {s : ByteArray} {i : Nat} (h : i < s.size) : ∃ b : UInt8, s[i]? = some b ∧ byteAt s i = (b.toNat : Int) :=
  ⟨s[i]'h, by simp [h], by unfold byteAt; rw [dif_pos h]⟩
theorem indexA_ok {Γ : Ctx} {t : Nat} {x i v : PVal} {xv iv : Value} {st st' : Store} {T W : List Nat} (hx : VR Γ x xv) (hi : VR Γ i iv) (h : (indexA E t x i).run st = .ok (v, st', T, W)) :
    st' = st ∧ ∃ u, (Instr.index t xv iv).run E.P Γ.w = .ok u Γ.w ∧ VR Γ v u := by
  unfold indexA at h
  split at h
  · rename_i k j
    cases hi
    split at h
    · rename_i s hu
      obtain ⟨⟨h0, h1⟩, h2⟩ := AM.need_ok h
      obtain ⟨rfl, rfl⟩ := AM.pure_ok h2
      cases hx
      obtain ⟨b, hb, he⟩ := byteAt_get (s := s) (i := j.toNat) (by omega)
      rw [he]
      refine ⟨rfl, _, ?_, .int _ _⟩
      simp [Instr.index, asIntOf, run_underlying hu, h0, hb]
    · rename_i n e cs hu
      rcases AM.bif_ok h with ⟨_, h1⟩ | ⟨ht, h1⟩
      · exact (AM.fail_ok h1).elim
      · obtain ⟨⟨h0, hn⟩, h2⟩ := AM.need_ok h1
        obtain ⟨h3, hs⟩ := AM.ofR_ok h2
        cases hx with
        | agg _ A hl hv =>
          have ht : hasType E e = true := by simpa using ht
          have hinf : (E.P.info? e).isSome = true := by obtain ⟨i, d, hi, _⟩ := hasType_info ht; simp [hi]
          obtain ⟨u, hr, hvu⟩ := run_part ht (.agg _ A hl hv) h3
          refine ⟨hs, u, ?_, hvu⟩
          simp [Instr.index, asIntOf, run_underlying hu, h0, hn, run_sizeOf hinf, hr]
    · exact (AM.fail_ok h).elim
  · exact (AM.fail_ok h).elim
theorem lenA_ok {K : Nat → Prop} {Γ : Ctx} {t ty : Nat} {x v : PVal} {xv : Value} {st st' : Store} {T W : List Nat} (hsr : SR K Γ st) (hx : VR Γ x xv) (h : (lenA E t x).run st = .ok (v, st', T, W)) :
    st' = st ∧ ∃ u, (Builtin.len_ #[t] ty #[xv]).run E.P Γ.w = .ok u Γ.w ∧ VR Γ v u := by
  unfold lenA at h
  split at h
  · rename_i s hu
    obtain ⟨rfl, rfl⟩ := AM.pure_ok h
    cases hx
    exact ⟨rfl, _, (by simp [Builtin.len_, run_underlying hu, goInt] : (Builtin.len_ #[t] ty #[_]).run E.P Γ.w = .ok (.int .i64 _) Γ.w), .int _ _⟩
  · rename_i m sz xs hu
    obtain ⟨rfl, rfl⟩ := AM.pure_ok h
    obtain ⟨a, cap, f, rfl, _⟩ := sl_inv hx
    exact ⟨rfl, _, (by simp [Builtin.len_, run_underlying hu, goInt] : (Builtin.len_ #[t] ty #[_]).run E.P Γ.w = .ok (.int .i64 _) Γ.w), .int _ _⟩
  · rename_i id hu
    obtain ⟨t', h⟩ := AM.get_ok h
    obtain ⟨a, n, cap, rfl, hφ⟩ := own_inv hx
    have hob := hsr.obj id
    split at h
    · rename_i e sz xs ho
      rw [ho] at hob
      obtain ⟨rfl, rfl⟩ := AM.pure_ok h
      obtain ⟨v, vs, hv, _, hr, _⟩ := hob
      rw [hφ] at hv
      obtain rfl := Option.some.inj hv
      obtain ⟨a', cap', he, _⟩ := ownsRow_shape hr
      injection he with e1 e2 e3
      subst e2
      exact ⟨rfl, _, (by simp [Builtin.len_, run_underlying hu, goInt] : (Builtin.len_ #[t] ty #[_]).run E.P Γ.w = .ok (.int .i64 _) Γ.w), .int _ _⟩
    · rename_i sz xs ho
      rw [ho] at hob
      obtain ⟨rfl, rfl⟩ := AM.pure_ok h
      obtain ⟨a', cap', hv, _⟩ := hob
      rw [hφ] at hv
      injection hv with hv
      injection hv with e1 e2 e3
      subst e2
      exact ⟨rfl, _, (by simp [Builtin.len_, run_underlying hu, goInt] : (Builtin.len_ #[t] ty #[_]).run E.P Γ.w = .ok (.int .i64 _) Γ.w), .int _ _⟩
    · exact (AM.fail_ok h).elim
  · rename_i n e hu
    obtain ⟨rfl, rfl⟩ := AM.pure_ok h
    exact ⟨rfl, _, (by simp [Builtin.len_, run_underlying hu, goInt] : (Builtin.len_ #[t] ty #[_]).run E.P Γ.w = .ok (.int .i64 _) Γ.w), .int _ _⟩
  · rename_i k e hu
    obtain ⟨rfl, rfl⟩ := AM.pure_ok h
    cases hx
    exact ⟨rfl, _, (by simp [Builtin.len_, run_underlying hu, goInt] : (Builtin.len_ #[t] ty #[_]).run E.P Γ.w = .ok (.int .i64 _) Γ.w), .int _ _⟩
  · rename_i k e id hu
    obtain ⟨t', h⟩ := AM.get_ok h
    split at h
    · rename_i es ho
      have hob := hsr.obj id
      rw [ho] at hob
      obtain ⟨rfl, rfl⟩ := AM.pure_ok h
      obtain ⟨r, ents, clock, hφ, hr, hn, _⟩ := hob
      cases hx with
      | mapr _ r' hφ' =>
        rw [hφ] at hφ'
        injection hφ' with e1
        injection e1 with e1
        injection e1 with e1
        subst e1
        refine ⟨rfl, .int .i64 es.length, ?_, .int _ _⟩
        rw [← hn]
        simp [Builtin.len_, run_underlying hu, goInt, MapKept.run_getObj_map hr]
    · exact (AM.fail_ok h).elim
  · exact (AM.fail_ok h).elim
end
end Go.Pvm
namespace Go.Pvm
open Go.RowKit
section
variable {E : Env}
theorem run_maxL {Γ : Ctx} {k : IntKind} : ∀ (ps : List PVal) (vs : List Value) (a : Int) (r : PVal), ps.length = vs.length → (∀ (i : Nat) (p : PVal) (v : Value), ps[i]? = some p → vs[i]? = some v → VR Γ p v) → maxI1 k a ps = .ok r →
    ∃ u, (vs.foldlM Builtin.max2 (.int k a)).run E.P Γ.w = .ok u Γ.w ∧ VR Γ r u
  | [], [], a, r, _, _, h => by
    simp only [maxI1, R.ok.injEq] at h
    subst h
    exact ⟨_, rfl, .int _ _⟩
  | [], v :: vs, a, r, hl, _, h => by simp at hl
  | p :: ps, [], a, r, hl, _, h => by simp at hl
  | p :: ps, v :: vs, a, r, hl, hv, h => by
    have h0 := hv 0 p v rfl rfl
    cases p with
    | int k' b =>
      cases h0
      simp only [maxI1] at h
      obtain ⟨u, hu, hr⟩ := run_maxL ps vs _ r (by simpa using hl) (fun i p v hp hq => hv (i + 1) p v (by simpa using hp) (by simpa using hq)) h
      refine ⟨u, ?_, hr⟩
      simp only [List.foldlM_cons, Builtin.max2, Sem.run_bind, Sem.run_pure, Result.andThen_ok]
      exact hu
    | _ => cases h
theorem run_minL {Γ : Ctx} {k : IntKind} : ∀ (ps : List PVal) (vs : List Value) (a : Int) (r : PVal), ps.length = vs.length → (∀ (i : Nat) (p : PVal) (v : Value), ps[i]? = some p → vs[i]? = some v → VR Γ p v) → minI1 k a ps = .ok r →
    ∃ u, (vs.foldlM Builtin.min2 (.int k a)).run E.P Γ.w = .ok u Γ.w ∧ VR Γ r u
  | [], [], a, r, _, _, h => by
    simp only [minI1, R.ok.injEq] at h
    subst h
    exact ⟨_, rfl, .int _ _⟩
  | [], v :: vs, a, r, hl, _, h => by simp at hl
  | p :: ps, [], a, r, hl, _, h => by simp at hl
  | p :: ps, v :: vs, a, r, hl, hv, h => by
    have h0 := hv 0 p v rfl rfl
    cases p with
    | int k' b =>
      cases h0
      simp only [minI1] at h
      obtain ⟨u, hu, hr⟩ := run_minL ps vs _ r (by simpa using hl) (fun i p v hp hq => hv (i + 1) p v (by simpa using hp) (by simpa using hq)) h
      refine ⟨u, ?_, hr⟩
      simp only [List.foldlM_cons, Builtin.min2, Sem.run_bind, Sem.run_pure, Result.andThen_ok]
      exact hu
    | _ => cases h
theorem maxI_ok {Γ : Ctx} {ps : List PVal} {vs : Array Value} {r : PVal} (ts : Array TypeId) (ty : TypeId) (hl : ps.length = vs.size) (hv : ∀ (i : Nat) (p : PVal) (v : Value), ps[i]? = some p → vs[i]? = some v → VR Γ p v) (h : maxI ps = .ok r) :
    ∃ u, (Builtin.max_ ts ty vs).run E.P Γ.w = .ok u Γ.w ∧ VR Γ r u := by
  obtain ⟨l, rfl⟩ : ∃ l : List Value, vs = l.toArray := ⟨vs.toList, by simp⟩
  simp only [List.size_toArray, List.getElem?_toArray] at hl hv
  cases ps with
  | nil => cases h
  | cons p ps =>
    cases l with
    | nil => simp at hl
    | cons v l =>
      have h0 := hv 0 p v rfl rfl
      cases p with
      | int k a =>
        cases h0
        obtain ⟨u, hu, hr⟩ := run_maxL (E := E) ps l a r (by simpa using hl) (fun i p v hp hq => hv (i + 1) p v (by simpa using hp) (by simpa using hq)) h
        exact ⟨u, by simpa [Builtin.max_] using hu, hr⟩
      | _ => cases h
theorem minI_ok {Γ : Ctx} {ps : List PVal} {vs : Array Value} {r : PVal} (ts : Array TypeId) (ty : TypeId) (hl : ps.length = vs.size) (hv : ∀ (i : Nat) (p : PVal) (v : Value), ps[i]? = some p → vs[i]? = some v → VR Γ p v) (h : minI ps = .ok r) :
    ∃ u, (Builtin.min_ ts ty vs).run E.P Γ.w = .ok u Γ.w ∧ VR Γ r u := by
  obtain ⟨l, rfl⟩ : ∃ l : List Value, vs = l.toArray := ⟨vs.toList, by simp⟩
  simp only [List.size_toArray, List.getElem?_toArray] at hl hv
  cases ps with
  | nil => cases h
  | cons p ps =>
    cases l with
    | nil => simp at hl
    | cons v l =>
      have h0 := hv 0 p v rfl rfl
      cases p with
      | int k a =>
        cases h0
        obtain ⟨u, hu, hr⟩ := run_minL (E := E) ps l a r (by simpa using hl) (fun i p v hp hq => hv (i + 1) p v (by simpa using hp) (by simpa using hq)) h
        exact ⟨u, by simpa [Builtin.min_] using hu, hr⟩
      | _ => cases h

theorem convA_ok {w0 : World} {M : Nat → Prop} {n0 : Nat} {Γ : Ctx} {st st' : Store} {src dst : Nat} {x r : PVal} {xv : Value} {T W : List Nat} (hsr : SR (KK w0 M) Γ st) (hk : Keep w0 M Γ.w) (hx : VR Γ x xv)
    (h : (convA E src dst x).run st = .ok (r, st', T, W)) : ∃ Γ' u, (convert src dst xv).run E.P Γ.w = .ok u Γ'.w ∧ Out w0 M n0 Γ Γ' st' ∧ VR Γ' r u := by
  unfold convA at h
  split at h
  · rename_i d k _ n hs hd
    obtain ⟨rfl, rfl⟩ := AM.pure_ok h
    cases hx
    refine ⟨Γ, _, ?_, Out.same hsr hk, .int _ _⟩
    simp only [convert, Sem.run_bind, run_underlying hs, run_underlying hd, Result.andThen_ok, Conv.intToInt, Sem.run_pure]
  · rename_i s hs hd
    obtain ⟨rfl, rfl⟩ := AM.pure_ok h
    cases hx
    refine ⟨Γ, _, ?_, Out.same hsr hk, .str _⟩
    simp only [convert, Sem.run_bind, run_underlying hs, run_underlying hd, Result.andThen_ok, Sem.run_pure]
  · rename_i e s hs hd
    split at h
    · rename_i he
      obtain ⟨hsz, h1⟩ := AM.need_ok h
      obtain ⟨rfl, rfl⟩ := AM.pure_ok h1
      cases hx
      have hrun := run_bytes_of_string (P := E.P) Γ.w src dst e s hs hd he
      have hge := grownCap_ge Γ.w s.size 0 e
      generalize hcap : grownCap Γ.w s.size 0 e = cap at *
      generalize hw : (Γ.w.drew.alloc (.cells (bytesRow s cap) e ((bytesRow s cap).size, (bytesRow s cap).size + 1))) = w' at *
      have hold : ∀ b, b < Γ.w.heap.size → w'.heap[b]? = Γ.w.heap[b]? := fun b hb => by rw [← hw]; exact heap_alloc_old Γ.w.drew _ b hb
      have hnew : w'.heap[Γ.w.heap.size]? = some (.cells (bytesRow s cap) e ((bytesRow s cap).size, (bytesRow s cap).size + 1)) := by rw [← hw]; exact heap_alloc_new Γ.w.drew _
      have hsize : w'.heap.size = Γ.w.heap.size + 1 := by rw [← hw]; simp
      have hle : Γ.le { w := w', φ := Γ.φ, Z := fun b => Γ.Z b ∨ b = Γ.w.heap.size, B := Γ.B } := ⟨fun _ h => .inl h, fun _ => Iff.rfl, fun b hb => hold b (hsr.zlt b hb), fun _ _ h => h⟩
      refine ⟨{ w := w', φ := Γ.φ, Z := fun b => Γ.Z b ∨ b = Γ.w.heap.size, B := Γ.B }, _, hrun, ⟨hle, ?_, ?_, fun _ _ h => h, fun b hb => hb.imp (fun h => h) fun h => .inr (by rw [h]; exact hk.size)⟩, ?_⟩
      · refine hsr.grow hle rfl (fun id v k hl hv hk => ⟨hold k (live_lt hsr hl hv hk), fun hz => ?_⟩) (fun b hb => ?_)
        · rcases hz with hz | hz
          · exact (hsr.own id v k hl hv hk).2.1 hz
          · have := live_lt hsr hl hv hk; omega
        · show b < w'.heap.size
          rcases hb with (hb | hb) | hb
          · have := hsr.zlt b (.inl hb); omega
          · omega
          · have := hsr.zlt b (.inr hb); omega
      · exact hk.step (by show w'.os = _; rw [← hw]; rfl) (by show w'.tape = _; rw [← hw]; rfl) (by show w'.output = _; rw [← hw]; rfl) (by show _ ≤ w'.heap.size; omega) (fun b hb _ => hold b hb)
      · have hlen : (bytesP s).length = s.size := by unfold bytesP; rw [List.length_map, Array.length_toList]; rfl
        have hget : ∀ (i : Nat) (x : PVal), (bytesP s)[i]? = some x → ∃ b : UInt8, s.data.toList[i]? = some b ∧ x = .int .u8 b.toNat := fun i x hx => by
          unfold bytesP at hx
          rw [List.getElem?_map, Option.map_eq_some_iff] at hx
          obtain ⟨b, hb, rfl⟩ := hx
          exact ⟨b, hb, rfl⟩
        rw [← hlen]
        refine .sl .fr 1 (bytesP s) _ cap (fun e => by cases e) ⟨fun e => (by cases e), fun _ e => (by cases e)⟩ (by omega) (fun x hx => ?_) (fun x hx => ?_) (fun _ => ⟨_, rfl, .inl (.inr rfl)⟩) (fun i _ => ((s.data.toList[i]?).map fun b => Value.int .u8 b.toNat).getD undef)
          (fun ad i x j c had hx hj => ?_) (fun i x j c hx hj => ?_)
        · obtain ⟨i, hi⟩ := List.getElem?_of_mem hx
          obtain ⟨b, _, rfl⟩ := hget i x hi
          rfl
        · obtain ⟨i, hi⟩ := List.getElem?_of_mem hx
          obtain ⟨b, _, rfl⟩ := hget i x hi
          simp [PVal.clean, PVal.cells, PVal.clean1.clean1L, PVal.clean1, PVal.cl, PVal.cl.clL]
        · obtain ⟨b, hb, rfl⟩ := hget i x hx
          have := Option.some.inj had
          subst this
          simp only [PVal.cells] at hj
          cases j with
          | succ j => simp at hj
          | zero =>
            rw [add_mk, hb]
            show w'.cell? _ = _
            rw [cell_of_row w' _ _ _ e _ hnew]
            have hlt : i < s.data.toList.length := (List.getElem?_eq_some_iff.1 hb).1
            simp only [bytesRow, Nat.zero_add, Nat.mul_one, Nat.add_zero, Option.map_some, Option.getD_some]
            rw [Array.getElem?_append_left (by simpa using hlt), Array.getElem?_map, ← Array.getElem?_toList, hb]
            rfl
        · obtain ⟨b, hb, rfl⟩ := hget i x hx
          simp only [PVal.cells] at hj
          cases j with
          | succ j => simp at hj
          | zero =>
            simp at hj
            subst hj
            simp only [hb, Option.map_some, Option.getD_some]
            exact .int _ _
    · exact (AM.fail_ok h).elim
  · rename_i x e hs hd
    split at h
    · rename_i he
      obtain ⟨xs, s1, t1, w1, t2, w2, h1, h2, _, _⟩ := AM.bind_ok h
      obtain ⟨rfl, a, cap, news, rfl, hlf⟩ := listOf_ok hsr hx h1
      obtain ⟨hby, h3⟩ := AM.need_ok h2
      obtain ⟨rfl, rfl⟩ := AM.pure_ok h3
      have hnl : news.length = xs.length := by rw [hlf.len, Nat.mul_one]
      have hnews : news = (xs.map asI).map (Value.int .u8) := by
        apply List.ext_getElem?
        intro i
        rcases Nat.lt_or_ge i xs.length with hi | hi
        · have hx := List.getElem?_eq_getElem hi
          obtain ⟨n, hn, _⟩ := hby _ (mem_of_get hx)
          obtain ⟨u, hu, hvu⟩ := hlf.ok.2 i _ 0 (.int .u8 n) hx (by rw [hn]; rfl)
          cases hvu
          simp only [Nat.mul_one, Nat.add_zero] at hu
          rw [hu, List.getElem?_map, List.getElem?_map, hx, hn]
          rfl
        · rw [List.getElem?_eq_none (by omega), List.getElem?_eq_none (by simpa using hi)]
      refine ⟨Γ, .string (strOf xs), ?_, Out.same hsr hk, .str _⟩
      rw [run_convert_bytes_string Γ.w src dst e a xs.length cap hs he hd]
      cases a with
      | none =>
        have := hlf.none rfl
        subst this
        simp [Conv.bytesToString, strOf]
        rfl
      | some ad =>
        have hl := run_loadCells_list (P := E.P) Γ.w ad news (fun j v hj => hlf.cell ad j v rfl hj)
        rw [hnl] at hl
        rw [run_bytesToString Γ.w ad xs.length cap (xs.map asI) (by rw [← hnews]; exact hl), foldl_push_bytes]
        congr 2
        simp [strOf]
    · exact (AM.fail_ok h).elim
  · exact (AM.fail_ok h).elim

theorem sameKeys {Γ : Ctx} {kt : Nat} {a b : PVal} {av bv : Value} (ha : keyFits E kt a = true) (hb : keyFits E kt b = true) (hav : VR Γ a av) (hbv : VR Γ b bv) {d : TypeDesc} (hd : E.P.underlying kt = some d) :
    MapKept.IsKey d av ∧ Instr.sameNow d av bv = some (keyEq a b) ∧ (keyEq a b = true → av = bv) := by
  unfold keyFits at ha hb
  cases a <;> simp only [hd] at ha <;> try (cases ha; done)
  all_goals cases b <;> simp only [hd] at hb <;> try (cases hb; done)
  all_goals cases hav <;> cases hbv
  all_goals cases d <;> first | (simp_all [MapKept.IsKey, Instr.sameNow, keyEq, bytes_beq]; done) | (simp_all [MapKept.IsKey, Instr.sameNow, keyEq, bytes_beq]; rfl)
theorem find_ok {Γ : Ctx} {kt : Nat} {k : PVal} {kv : Value} {d : TypeDesc} (hd : E.P.underlying kt = some d) (hk : keyFits E kt k = true) (hkv : VR Γ k kv) : ∀ (es : List (PVal × PVal)) (ms : List MapEntry) (i : Nat), es.length = ms.length →
    (∀ (j : Nat) (p : PVal × PVal) (m : MapEntry), es[j]? = some p → ms[j]? = some m → VR Γ p.1 m.key) → (∀ p ∈ es, keyFits E kt p.1 = true) →
    (mget es k = none ∧ Instr.findNow d kv ms i = some none ∧ ∀ v, mset es k v = es ++ [(k, v)]) ∨
    (∃ j p m, es[j]? = some p ∧ ms[j]? = some m ∧ mget es k = some p.2 ∧ Instr.findNow d kv ms i = some (some (i + j, m.val)) ∧ m.key = kv ∧ ∀ v, mset es k v = es.set j (k, v))
  | [], [], i, _, _, _ => .inl ⟨rfl, rfl, fun _ => rfl⟩
  | [], m :: ms, i, hl, _, _ => by simp at hl
  | p :: es, [], i, hl, _, _ => by simp at hl
  | p :: es, m :: ms, i, hl, hv, hf => by
    obtain ⟨_, hs, he⟩ := sameKeys hk (hf p (by simp)) hkv (hv 0 p m rfl rfl) hd
    obtain ⟨k', v'⟩ := p
    cases hke : keyEq k k' with
    | true =>
      simp only [hke] at hs
      exact .inr ⟨0, (k', v'), m, rfl, rfl, by simp [mget, hke], by simp [Instr.findNow, hs], (he hke).symm, fun v => by simp [mset, hke]⟩
    | false =>
      simp only [hke] at hs
      rcases find_ok hd hk hkv es ms (i + 1) (by simpa using hl) (fun j p m hp hm => hv (j + 1) p m (by simpa using hp) (by simpa using hm)) (fun p hp => hf p (by simp [hp])) with ⟨h1, h2, h3⟩ | ⟨j, p, m', h1, h2, h3, h4, h5, h6⟩
      · exact .inl ⟨by simp [mget, hke, h1], by simp [Instr.findNow, hs, h2], fun v => by simp [mset, hke, h3]⟩
      · exact .inr ⟨j + 1, p, m', by simpa using h1, by simpa using h2, by simp [mget, hke, h3], by simp [Instr.findNow, hs, h4]; omega, h5, fun v => by simp [mset, hke, h6]⟩
theorem keyFits_clean {kt : Nat} {k : PVal} (hk : keyFits E kt k = true) : k.clean1 = true := by
  unfold keyFits at hk
  cases k <;> first | (simp [PVal.clean1, PVal.cl]; done) | cases hk
theorem keyFits_key {Γ : Ctx} {kt : Nat} {k : PVal} {kv : Value} (hk : keyFits E kt k = true) (hkv : VR Γ k kv) : ∃ d, E.P.underlying kt = some d ∧ MapKept.IsKey d kv := by
  cases hd : E.P.underlying kt with
  | none => unfold keyFits at hk; cases k <;> simp [hd] at hk
  | some d => exact ⟨d, rfl, (sameKeys hk hk hkv hkv hd).1⟩
theorem lookupA_ok {w0 : World} {M : Nat → Prop} {n0 : Nat} {Γ : Ctx} {st st' : Store} {t : Nat} {m k r : PVal} {mv kv : Value} {ok : Bool} {T W : List Nat} (hsr : SR (KK w0 M) Γ st) (hkp : Keep w0 M Γ.w) (hm : VR Γ m mv) (hk : VR Γ k kv)
    (h : (lookupA E t m k ok).run st = .ok (r, st', T, W)) : ∃ Γ' u, (Instr.lookup t mv kv ok).run E.P Γ.w = .ok u Γ'.w ∧ Out w0 M n0 Γ Γ' st' ∧ VR Γ' r u := by
  unfold lookupA at h
  split at h
  · rename_i kt et hu
    rcases AM.bif_ok h with ⟨hkf, h1⟩ | ⟨_, h1⟩
    · obtain ⟨d, hd, hik⟩ := keyFits_key hkf hk
      split at h1
      · exact (AM.fail_ok h1).elim
      · rename_i z0 hz0
        obtain ⟨z, s1, t1, w1, t2, w2, h2, h3, _, _⟩ := AM.bind_ok h1
        obtain ⟨Γ1, i, zv, hfz, hi, hiz, hvz⟩ := zeroF_ok hsr hz0 h2
        have hzr : (zeroValue et).run E.P Γ.w = .ok zv Γ.w := by simp [zeroValue, typeInfo, hi, hiz]
        have res : ∀ (x : PVal) (xv : Value) (b : Bool), VR Γ1 x xv → VR Γ1 (bif ok then .tup [x, .bool b] else x) (if ok = true then .tuple #[xv, .bool b] else xv) := fun x xv b hx => by
          cases ok with
          | false => exact hx
          | true =>
            refine .tup _ #[xv, .bool b] rfl fun i c v hc hv => ?_
            cases i with
            | zero => simp at hc hv; subst hc; subst hv; exact hx
            | succ i => cases i with
              | zero => simp at hc hv; subst hc; subst hv; exact .bool b
              | succ i => simp at hc
        split at h3
        · obtain ⟨rfl, rfl⟩ := AM.pure_ok h3
          cases hm
          refine ⟨Γ1, _, ?_, hfz.out hkp, res z zv false hvz⟩
          rw [hfz.w]
          simp [Instr.lookup, run_underlying hu, MapKept.run_checkKey hd hik, MapKept.run_findKey hd (show Instr.findNow d kv [] 0 = some none from rfl), hzr]
        · rename_i id
          obtain ⟨t3, h4⟩ := AM.get_ok h3
          split at h4
          · rename_i es ho
            obtain ⟨⟨hmf, hze⟩, h5⟩ := AM.need_ok h4
            obtain ⟨rfl, rfl⟩ := AM.pure_ok h5
            have hob := hfz.sr.obj id
            rw [ho] at hob
            obtain ⟨rr, ents, clock, hφ, hr, hn, he⟩ := hob
            rw [hfz.w] at hr
            cases hm with
            | mapr _ r' hφ' =>
              rw [hfz.φ, hφ'] at hφ
              injection hφ with e1
              injection e1 with e1
              injection e1 with e1
              subst e1
              refine ⟨Γ1, ?_⟩
              rw [hfz.w]
              rcases find_ok hd hkf (hk.mono hfz.le) es ents.toList 0 (by simp [hn]) (fun j p m hp hm => (he j p m hp (by simpa using hm)).1) (fun p hp => (hmf p hp).1) with ⟨h1, h2, _⟩ | ⟨j, p, m, h1, h2, h3, h4, h5, _⟩
              · refine ⟨if ok = true then .tuple #[zv, .bool false] else zv, ?_, hfz.out hkp, ?_⟩
                · simp [Instr.lookup, run_underlying hu, MapKept.run_getObj_map hr, MapKept.run_checkKey hd hik, MapKept.run_findKey hd h2, hzr]
                · have e1 : mgetD es k z = z := by simp [mgetD, h1]
                  have e2 : mhas es k = false := by simp [mhas, h1]
                  rw [e1, e2, ← hze]
                  exact res z zv false hvz
              · refine ⟨if ok = true then .tuple #[m.val, .bool true] else m.val, ?_, hfz.out hkp, ?_⟩
                · simp [Instr.lookup, run_underlying hu, MapKept.run_getObj_map hr, MapKept.run_checkKey hd hik, MapKept.run_findKey hd h4]
                · have e1 : mgetD es k z = p.2 := by simp [mgetD, h3]
                  have e2 : mhas es k = true := by simp [mhas, h3]
                  rw [e1, e2, ← (hmf p (mem_of_get h1)).2]
                  exact res _ _ true (he j p m h1 (by simpa using h2)).2.1
          · exact (AM.fail_ok h4).elim
        · exact (AM.fail_ok h3).elim
    · exact (AM.fail_ok h1).elim
  · exact (AM.fail_ok h).elim
theorem mapUpdateA_ok {w0 : World} {M : Nat → Prop} {n0 : Nat} {Γ : Ctx} {st st' : Store} {t : Nat} {m k v r : PVal} {mv kv vv : Value} {T W : List Nat} (hsr : SR (KK w0 M) Γ st) (hkp : Keep w0 M Γ.w) (hm : VR Γ m mv) (hk : VR Γ k kv) (hv : VR Γ v vv)
    (h : (mapUpdateA E t m k v).run st = .ok (r, st', T, W)) : r = .tup [] ∧ ∃ Γ', (Instr.mapUpdate t mv kv vv).run E.P Γ.w = .ok () Γ'.w ∧ Out w0 M n0 Γ Γ' st' := by
  unfold mapUpdateA at h
  split at h
  · rename_i kt et hu
    rcases AM.bif_ok h with ⟨hkf, h1⟩ | ⟨_, h1⟩
    · obtain ⟨d, hd, hik⟩ := keyFits_key hkf hk
      obtain ⟨v', s1, t1, w1, t2, w2, h2, h3, _, _⟩ := AM.bind_ok h1
      obtain ⟨Γ1, hfz, hv1⟩ := freezeV_ok v hsr hv h2
      rcases AM.bif_ok h3 with ⟨hb, h4⟩ | ⟨_, h4⟩
      · simp only [Bool.and_eq_true] at hb
        split at h4
        · rename_i id
          obtain ⟨t3, h5⟩ := AM.get_ok h4
          split at h5
          · rename_i es ho
            obtain ⟨hmf, h6⟩ := AM.need_ok h5
            obtain ⟨w3, h7⟩ := AM.put_ok h6
            obtain ⟨rfl, rfl⟩ := AM.pure_ok h7
            refine ⟨rfl, ?_⟩
            have hob := hfz.sr.obj id
            have hlive : (s1 id).live = true := by rw [ho]; rfl
            rw [ho] at hob
            obtain ⟨rr, ents, clock, hφ, hr, hn, he⟩ := hob
            cases hm with
            | mapr _ r' hφ' =>
              have hφ2 := hfz.le.φ _ _ hφ'
              rw [hφ] at hφ2
              injection hφ2 with e1
              injection e1 with e1
              injection e1 with e1
              subst e1
              have hown := hfz.sr.own id _ rr hlive hφ rfl
              have fin : ∀ (ents' : Array MapEntry) (clock' : Nat) (es' : List (PVal × PVal)), (Instr.mapUpdate t (.map (some rr)) kv vv).run E.P Γ1.w = .ok () { Γ1.w with heap := Γ1.w.heap.setIfInBounds rr (.map ents' clock') } → ents'.size = es'.length →
                  (∀ (i : Nat) (p : PVal × PVal) (m : MapEntry), es'[i]? = some p → ents'[i]? = some m → VR Γ1 p.1 m.key ∧ VR Γ1 p.2 m.val ∧ p.2.clean = true ∧ p.1.clean1 = true) →
                  ∃ Γ', (Instr.mapUpdate t (.map (some rr)) kv vv).run E.P Γ1.w = .ok () Γ'.w ∧ Out w0 M n0 Γ Γ' (s1.upd id (.mp es')) := by
                intro ents' clock' es' hrun hn' he'
                have hother : ∀ b, b ≠ rr → (Γ1.w.heap.setIfInBounds rr (.map ents' clock'))[b]? = Γ1.w.heap[b]? := fun b hb => (MapKept.heap_set hr).2 b hb
                have hle : Γ1.le { Γ1 with w := { Γ1.w with heap := Γ1.w.heap.setIfInBounds rr (.map ents' clock') } } :=
                  ⟨fun _ h => h, fun _ => Iff.rfl, fun b hz => hother b (fun e => by subst e; exact hz.elim hown.2.1 hown.2.2), fun _ _ h => h⟩
                refine ⟨_, hrun, (hfz.out hkp).trans ⟨hle, ?_, ?_, fun _ _ h => h, fun _ h => .inl h⟩⟩
                · refine hfz.sr.put hle id (.mp es') (fun id' v' q hne hl hv' hq => ⟨hother q (fun e => ?_), (hfz.sr.own id' v' q hl hv' hq).2.1⟩) (fun _ _ _ h => h) ⟨rr, ents', clock', hφ, (MapKept.heap_set hr).1, hn', fun i p m hp hm => ?_⟩ (fun _ v' q hv' hq => ?_) (fun b hz => by simpa using hfz.sr.zlt b hz)
                  · subst e; exact hne (hfz.sr.disj id' id v' _ q hl hlive hv' hφ hq rfl)
                  · obtain ⟨a1, a2, a3⟩ := he' i p m hp hm
                    exact ⟨a1.mono hle, a2.mono hle, a3⟩
                  · have e1 : v' = .map (some rr) := by have := hφ.symm.trans hv'; exact (Option.some.inj this).symm
                    subst e1
                    obtain rfl := Option.some.inj hq
                    exact ⟨hown.1, hown.2.1, hown.2.2, fun id' v'' hne hl hv'' hq'' => hne (hfz.sr.disj id' id v'' _ rr hl hlive hv'' hφ hq'' rfl)⟩
                · have hk1 : Keep w0 M Γ1.w := by rw [hfz.w]; exact hkp
                  exact hk1.step rfl rfl rfl (by simp) (fun b _ hb => hother b (fun e => by subst e; exact hb hown.1))
              rw [← hfz.w]
              rcases find_ok hd hkf (hk.mono hfz.le) es ents.toList 0 (by simp [hn]) (fun j p m hp hm => (he j p m hp (by simpa using hm)).1) (fun p hp => (hmf p hp).1) with ⟨h1, h2, h3⟩ | ⟨j, p, m, h1, h2, h3, h4, h5, h6⟩
              · rw [h3]
                refine fin (ents.push { key := kv, val := vv, born := clock }) (clock + 1) _ ?_ (by simp [hn]) (fun i p m hp hm => ?_)
                · simp [Instr.mapUpdate, run_underlying hu, MapKept.run_getObj_map hr, MapKept.run_checkKey hd hik, MapKept.run_findKey hd h2, MapKept.run_setObj_map _ hr]
                · rcases Nat.lt_or_ge i es.length with hlt | hge
                  · rw [List.getElem?_append_left hlt] at hp
                    rw [Array.getElem?_push_lt (by omega)] at hm
                    exact he i p m hp (by rw [← hm]; simp [hn, hlt])
                  · have hi : i = es.length := by
                      have := (List.getElem?_eq_some_iff.1 hp).1
                      simp at this
                      omega
                    subst hi
                    rw [List.getElem?_append_right (Nat.le_refl _)] at hp
                    simp at hp
                    subst hp
                    rw [← hn] at hm
                    simp at hm
                    subst hm
                    exact ⟨hk.mono hfz.le, hv1, hb.1, keyFits_clean hkf⟩
              · rw [h6]
                have hj : j < es.length := (List.getElem?_eq_some_iff.1 h1).1
                have h2' : ents[j]? = some m := by simpa using h2
                refine fin (ents.modify j fun e => { e with key := kv, val := vv }) clock _ ?_ (by simp [hn]) (fun i p' m' hp hm => ?_)
                · simp [Instr.mapUpdate, run_underlying hu, MapKept.run_getObj_map hr, MapKept.run_checkKey hd hik, MapKept.run_findKey hd h4, h2', h5, MapKept.run_keyThatStays hik, MapKept.run_setObj_map _ hr]
                · by_cases hij : j = i
                  · subst hij
                    rw [List.getElem?_set_self hj] at hp
                    obtain rfl := Option.some.inj hp
                    rw [Array.getElem?_modify, if_pos rfl, h2'] at hm
                    obtain rfl := Option.some.inj hm
                    exact ⟨hk.mono hfz.le, hv1, hb.1, keyFits_clean hkf⟩
                  · rw [List.getElem?_set_ne hij] at hp
                    rw [Array.getElem?_modify, if_neg hij] at hm
                    exact he i p' m' hp (by simpa using hm)
          · exact (AM.fail_ok h5).elim
        · exact (AM.fail_ok h4).elim
      · exact (AM.fail_ok h4).elim
    · exact (AM.fail_ok h1).elim
  · exact (AM.fail_ok h).elim
end
end Go.Pvm
namespace Go.Pvm
open Go.RowKit

def ListVR (Γ : Ctx) (ps : List PVal) (vs : List Value) : Prop := ps.length = vs.length ∧ ∀ (i : Nat) (p : PVal) (v : Value), ps[i]? = some p → vs[i]? = some v → VR Γ p v
theorem ListVR.nil (Γ : Ctx) : ListVR Γ [] [] := ⟨rfl, fun i p v h => by simp at h⟩
theorem ListVR.cons {Γ : Ctx} {p : PVal} {v : Value} {ps : List PVal} {vs : List Value} (h : VR Γ p v) (k : ListVR Γ ps vs) : ListVR Γ (p :: ps) (v :: vs) :=
  ⟨by simp [k.1], fun i q u hq hu => by
    cases i with
    | zero => simp at hq hu; subst hq; subst hu; exact h
    | succ i => exact k.2 i q u (by simpa using hq) (by simpa using hu)⟩
theorem ListVR.inv {Γ : Ctx} {p : PVal} {v : Value} {ps : List PVal} {vs : List Value} (h : ListVR Γ (p :: ps) (v :: vs)) : VR Γ p v ∧ ListVR Γ ps vs :=
  ⟨h.2 0 p v rfl rfl, by simpa using h.1, fun i q u hq hu => h.2 (i + 1) q u (by simpa using hq) (by simpa using hu)⟩
theorem ListVR.mono {Γ Γ' : Ctx} (hle : Γ.le Γ') {ps : List PVal} {vs : List Value} (h : ListVR Γ ps vs) : ListVR Γ' ps vs := ⟨h.1, fun i p v hp hv => (h.2 i p v hp hv).mono hle⟩
theorem ListVR.append {Γ : Ctx} {ps qs : List PVal} {vs us : List Value} (h : ListVR Γ ps vs) (k : ListVR Γ qs us) : ListVR Γ (ps ++ qs) (vs ++ us) := by
  refine ⟨by simp [h.1, k.1], fun i p v hp hv => ?_⟩
  rcases Nat.lt_or_ge i ps.length with hi | hi
  · rw [List.getElem?_append_left hi] at hp
    rw [List.getElem?_append_left (by rw [← h.1]; exact hi)] at hv
    exact h.2 i p v hp hv
  · rw [List.getElem?_append_right hi] at hp
    rw [List.getElem?_append_right (by rw [← h.1]; exact hi), ← h.1] at hv
    exact k.2 _ p v hp hv
theorem ListVR.map {Γ : Ctx} {α : Type} (l : List α) (f : α → PVal) (g : α → Value) (h : ∀ x ∈ l, VR Γ (f x) (g x)) : ListVR Γ (l.map f) (l.map g) := by
  refine ⟨by simp, fun i p v hp hv => ?_⟩
  rw [List.getElem?_map, Option.map_eq_some_iff] at hp hv
  obtain ⟨x, hx, rfl⟩ := hp
  obtain ⟨y, hy, rfl⟩ := hv
  rw [hx] at hy
  obtain rfl := Option.some.inj hy
  exact h x (mem_of_get hx)
theorem ListVR.fn {Γ : Ctx} {g : Nat} {ps : List PVal} {vs : List Value} (h : ListVR Γ ps vs) : VR Γ (.fn g ps) (.func (.func g) #[] vs.toArray) := .fn g ps _ (by simpa using h.1) (fun i p v hp hv => h.2 i p v hp (by simpa using hv))
theorem fn_inv {Γ : Ctx} {g : Nat} {ps : List PVal} {v : Value} (h : VR Γ (.fn g ps) v) : ∃ vs : Array Value, v = .func (.func g) #[] vs ∧ ListVR Γ ps vs.toList := by
  cases h with
  | fn _ _ vs hl h => exact ⟨vs, rfl, by simpa using hl, fun i p v hp hv => h i p v hp (by simpa using hv)⟩

/-- a frozen variable's place -/
theorem frz_fptr {Γ : Ctx} {id sz sz' : Nat} {x : PVal} {v : Value} (h : FrzOK Γ id true sz' [x]) (hv : VR Γ (.ref id sz 0 0) v) : VR Γ (.fptr false x) v := by
  cases hv with
  | ref _ _ _ _ g u hφ hg =>
    obtain ⟨a, cap, hv', _, h1, hz, _⟩ := h
    rw [hφ] at hv'
    obtain rfl := Option.some.inj hv'
    obtain ⟨g', rfl, hzg, f, hf⟩ := hz (by simp)
    simp [Value.ownBlock] at hg
    subst hg
    refine .fptr false x _ (.inl hzg) (h1 x (by simp)).2 (f 0) (fun j c hj => ?_) (fun j c hj => (hf 0 x j c rfl hj).2)
    rw [add_mk]
    simpa using (hf 0 x j c rfl hj).1
theorem captA_ok {K : Nat → Prop} {keep : Bool} : ∀ (cs : List PVal) {Γ : Ctx} {st st' : Store} {cs' : List PVal} {vs : List Value} {T W : List Nat}, SR K Γ st → ListVR Γ cs vs → (captA keep cs).run st = .ok (cs', st', T, W) →
    ∃ Γ', Frz K Γ Γ' st' ∧ ListVR Γ' cs' vs
  | [], Γ, st, st', cs', vs, T, W, hsr, hv, h => by
    simp only [captA] at h
    obtain ⟨rfl, rfl⟩ := AM.pure_ok h
    exact ⟨Γ, Frz.refl hsr, hv⟩
  | c :: cs, Γ, st, st', cs', [], T, W, hsr, hv, h => by have := hv.1; simp at this
  | c :: cs, Γ, st, st', cs', v :: vs, T, W, hsr, hv, h => by
    obtain ⟨hc, ht⟩ := hv.inv
    have rest : ∀ (Γ1 : Ctx) (s1 : Store) (c' : PVal) (T1 W1 : List Nat), Frz K Γ Γ1 s1 → VR Γ1 c' v → ((captA keep cs).bind fun cs => .pure (c' :: cs)).run s1 = .ok (cs', st', T1, W1) → ∃ Γ', Frz K Γ Γ' st' ∧ ListVR Γ' cs' (v :: vs) := by
      intro Γ1 s1 c' T1 W1 hf hc' h1
      obtain ⟨r, s2, t1, w1, t2, w2, h2, h3, _, _⟩ := AM.bind_ok h1
      obtain ⟨rfl, rfl⟩ := AM.pure_ok h3
      obtain ⟨Γ2, hf2, hr⟩ := captA_ok cs hf.sr (ht.mono hf.le) h2
      exact ⟨Γ2, hf.trans hf2, .cons (hc'.mono hf2.le) hr⟩
    unfold captA at h
    split at h
    · rename_i e; cases e
    · rename_i id sz cs0 e
      injection e with e1 e2
      subst e1; subst e2
      rcases AM.bif_ok h with ⟨_, h1⟩ | ⟨_, h1⟩
      · exact rest Γ st _ _ _ (Frz.refl hsr) hc h1
      · obtain ⟨t1, h2⟩ := AM.get_ok h1
        have hob := hsr.obj id
        split at h2
        · rename_i e0 sz0 x ho
          rw [ho] at hob
          obtain ⟨u0, vs0, hφ, hpos, hr, hcl, _⟩ := hob
          obtain ⟨x', s1, t2, w2, t3, w3, h3, h4, _, _⟩ := AM.bind_ok h2
          -- the variable's value in the model
          have hcells := hcl.2 0 x
          have hx1 := hcl.1 x (by simp)
          have hvs : vs0.length = sz0 := by have := hr.1; simpa using this
          have hux : ∃ u, VR Γ x u ∧ u.cells.toList = vs0 := by
            by_cases ha : ∃ cs, x = .agg cs
            · obtain ⟨ds, rfl⟩ := ha
              refine ⟨.agg vs0.toArray, .agg _ _ (by simp [hvs]; exact hx1.1) (fun i c w hi hw => ?_), by simp [Value.cells]⟩
              obtain ⟨q, hq, hvq⟩ := hcells i c rfl hi
              simp only [Nat.zero_mul, Nat.zero_add] at hq
              have : q = w := by
                have hw' : vs0[i]? = some w := by simpa using hw
                rw [hq] at hw'
                exact Option.some.inj hw'
              subst this
              exact hvq
            · have hna : ∀ cs, x ≠ .agg cs := fun cs e => ha ⟨cs, e⟩
              have hxc := cells_one hna
              obtain ⟨q, hq, hvq⟩ := hcells 0 x rfl (by rw [hxc]; rfl)
              simp only [Nat.zero_mul, Nat.zero_add] at hq
              have hl1 : vs0.length = 1 := by rw [hvs, ← hx1.1, hxc]; rfl
              refine ⟨q, hvq, ?_⟩
              obtain ⟨hqc, _⟩ := hvq.cells_of hx1.2
              rw [hxc] at hqc
              cases vs0 with
              | nil => simp at hl1
              | cons q' r =>
                have : r = [] := List.eq_nil_of_length_eq_zero (by simpa using hl1)
                subst this
                simp at hq
                subst hq
                cases hvq <;> first | rfl | (exact absurd rfl (hna _)) | (simp [hxc, oneL, PVal.one] at hx1)
          obtain ⟨u, hxu, huc⟩ := hux
          obtain ⟨Γ1, hf1, hx'⟩ := freezeV_ok x hsr hxu h3
          obtain ⟨t4, h5⟩ := AM.get_ok h4
          split at h5
          · rename_i e1 sz1 y ho1
            rcases AM.bif_ok h5 with ⟨hone, h6⟩ | ⟨_, h6⟩
            · obtain ⟨w4, h7⟩ := AM.put_ok h6
              have hob1 := hf1.sr.obj id
              rw [ho1] at hob1
              obtain ⟨u1, vs1, hφ1, hpos1, hr1, hcl1, _⟩ := hob1
              have eu : u1 = u0 := by rw [hf1.φ, hφ] at hφ1; exact (Option.some.inj hφ1).symm
              subst eu
              -- the same row
              obtain ⟨Γ2, hf2, hz2⟩ := row_frz hf1.sr ho1
              obtain ⟨a, cap, rfl, hcap, ha0, ha1, _⟩ := ownsRow_shape hr
              cases a with
              | none => have := (ha0 rfl).1; simp at this
              | some ad =>
              obtain ⟨g, rfl, hog, hbg, hgl⟩ := ha1 ad rfl
              have hvs1 : vs1.length = sz1 := by have := hr1.1; simpa using this
              -- sizes are the same block's
              have hsz : sz1 = sz0 := by
                rcases hr.2 with ⟨e, _⟩ | ⟨g', c', cur, e, _, hg, _, _, hcs, htk⟩
                · cases e
                rcases hr1.2 with ⟨e', _⟩ | ⟨g'', c'', cur', e', _, hg', _, _, hcs', htk'⟩
                · cases e'
                injection e with e2 e3 e4
                injection e' with e5 e6 e7
                subst e4; subst e7
                injection e2 with e2
                injection e5 with e5
                injection e2 with e2
                injection e5 with e5
                subst e2; subst e5
                rw [hf1.w, hg] at hg'
                injection hg' with hg'
                injection hg' with hg'
                subst hg'
                rw [hcs] at hcs'
                have hc0 : 0 < cap := by have := hcap; simp at this; omega
                exact (Nat.eq_of_mul_eq_mul_left hc0 hcs').symm
              subst hsz
              obtain ⟨hu1, hu2⟩ := hx'.cells_of hone
              have hlen : x'.cells.length = sz1 := by rw [← hu1, ← hvs, ← huc]; simp
              have hfrz : FrzOK Γ2 id true sz1 [x'] := by
                refine ⟨some ⟨g, 0, none⟩, cap, by rw [hf2.φ, hf1.φ]; exact hφ, hcap, fun q hq => by simp at hq; subst hq; exact ⟨hlen, hone⟩, fun _ => ⟨g, rfl, hz2 _ g (by rw [hf1.φ]; exact hφ) hbg, fun _ j => (vs0[j]?).getD undef, fun i q j c hq hj => ?_⟩, fun e => by cases e⟩
                cases i with
                | succ i => simp at hq
                | zero =>
                  simp at hq
                  subst hq
                  obtain ⟨q', hq', hvq⟩ := hu2 j c hj
                  have hq2 : vs0[j]? = some q' := by rw [← huc, Array.getElem?_toList]; exact hq'
                  have := hr.cells hog j q' hq2
                  rw [add_mk, Nat.zero_add] at this
                  simp only [hq2, Option.getD_some]
                  exact ⟨by rw [hf2.w, hf1.w]; simpa using this, hvq.mono hf2.le⟩
              -- the store with the other value
              have hsr2 : SR K Γ2 (s1.upd id (.frz true sz1 [x'])) := by
                have hb := hf2.sr
                refine ⟨fun id' => ?_, fun id' v' k hl hv' hk => ?_, fun i1 i2 v1 v2 k h1 h2 hv1 hv2 hk1 hk2 => ?_, hb.zlt⟩
                · by_cases e : id' = id
                  · subst e; rw [upd_same]; exact hfrz
                  · have := hb.obj id'; rw [upd_ne _ _ e] at this ⊢; exact this
                · by_cases e : id' = id
                  · subst e; rw [upd_same] at hl; cases hl
                  · rw [upd_ne _ _ e] at hl; exact hb.own id' v' k (by rw [upd_ne _ _ e]; exact hl) hv' hk
                · have q1 : i1 ≠ id := by intro e; subst e; rw [upd_same] at h1; cases h1
                  have q2 : i2 ≠ id := by intro e; subst e; rw [upd_same] at h2; cases h2
                  rw [upd_ne _ _ q1] at h1
                  rw [upd_ne _ _ q2] at h2
                  exact hb.disj i1 i2 v1 v2 k (by rw [upd_ne _ _ q1]; exact h1) (by rw [upd_ne _ _ q2]; exact h2) hv1 hv2 hk1 hk2
              have hle := hf1.le.trans hf2.le
              exact rest Γ2 _ _ _ _ ⟨hf2.w.trans hf1.w, hf2.φ.trans hf1.φ, hle, hsr2, (hf1.trans hf2).zz⟩ (frz_fptr hfrz (hc.mono hle)) h7
            · exact (AM.fail_ok h6).elim
          · exact (AM.fail_ok h5).elim
        · rename_i sz0 x ho
          rw [ho] at hob
          exact rest Γ st _ _ _ (Frz.refl hsr) (frz_fptr hob hc) h2
        · exact (AM.fail_ok h2).elim
    · rename_i b x cs0 e
      injection e with e1 e2
      subst e1; subst e2
      exact rest Γ st _ _ _ (Frz.refl hsr) hc h
    · exact (AM.fail_ok h).elim

section
variable {E : Env}
def SlotsOK (Γ : Ctx) (s : Nat → PVal) (a : Act) : Prop := ∀ t, VR Γ (s t) (a.tmps.getD t undef)
def GlobOK (E : Env) (Γ : Ctx) : Prop := ∀ g x, E.glob g = some x → VR Γ (.fptr false x) (.pointer (some ⟨g, 0, none⟩))
theorem opd_ok {Γ : Ctx} {s : Nat → PVal} {a : Act} (hs : SlotsOK Γ s a) (hg : GlobOK E Γ) (x : Operand) : VR Γ (opd E s x) (a.eval x) := by
  cases x with
  | tmp t => exact hs t
  | const v => exact ofConst_VR Γ v
  | global g =>
    simp only [opd, Act.eval]
    split
    · exact hg g _ (by assumption)
    · exact .undef _
  | func f => exact .fn f [] #[] rfl (fun i c v h => by simp at h)
theorem opdO_ok {Γ : Ctx} {s : Nat → PVal} {a : Act} (hs : SlotsOK Γ s a) (hg : GlobOK E Γ) (x : Option Operand) : OptVR Γ (x.map (opd E s)) (x.map a.eval) := by
  cases x with
  | none => trivial
  | some x => exact opd_ok hs hg x
theorem tup0 (Γ : Ctx) : VR Γ (.tup []) undef := .tup [] #[] rfl (fun i c v h => by simp at h)
theorem len_ts {ts : Array TypeId} {t ty : TypeId} {x : Value} (h : ts[0]? = some t) : Builtin.len_ ts ty #[x] = Builtin.len_ #[t] ty #[x] := by unfold Builtin.len_; simp [h]
theorem append_ts {ts : Array TypeId} {t ty : TypeId} {args : Array Value} (h0 : ts[0]? = some t) (h1 : ts[1]? = some t) : Builtin.append_ ts ty args = Builtin.append_ #[t, t] ty args := by
  unfold Builtin.append_
  simp only [h0, h1]
  rfl
/-- one operation that is no call of a function -/
theorem act_ok {w0 : World} {M : Nat → Prop} {n0 : Nat} {Γ : Ctx} {st st' : Store} {o : Oper} {s : Nat → PVal} {a : Act} {v : PVal} {T W : List Nat} (hsr : SR (KK w0 M) Γ st) (hk : Keep w0 M Γ.w) (hs : SlotsOK Γ s a) (hg : GlobOK E Γ)
    (hf : ∀ id, n0 ≤ id → id < n0 + 16 → Γ.φ id = none) (h : (act E n0 o s).run st = .ok (v, st', T, W)) :
    ∃ Γ', Out w0 M n0 Γ Γ' st' ∧ ((∃ u, (execOp a.eval o).run E.P Γ.w = .ok (.value u) Γ'.w ∧ VR Γ' v u) ∨ ((execOp a.eval o).run E.P Γ.w = .ok .skip Γ'.w ∧ v = .tup [])) := by
  have O := fun x => opd_ok (E := E) hs hg x
  -- an operation that answers with a value
  have val : ∀ (S : Sem Value), execOp a.eval o = (do pure (.value (← S))) → (∃ Γ' u, S.run E.P Γ.w = .ok u Γ'.w ∧ Out w0 M n0 Γ Γ' st' ∧ VR Γ' v u) →
      ∃ Γ', Out w0 M n0 Γ Γ' st' ∧ ((∃ u, (execOp a.eval o).run E.P Γ.w = .ok (.value u) Γ'.w ∧ VR Γ' v u) ∨ ((execOp a.eval o).run E.P Γ.w = .ok .skip Γ'.w ∧ v = .tup [])) := by
    intro S hS ⟨Γ', u, hr, ho, hv⟩
    refine ⟨Γ', ho, .inl ⟨u, ?_, hv⟩⟩
    rw [hS]
    simp only [Sem.run_bind, hr, Result.andThen_ok, Sem.run_pure]
  have pur : ∀ (S : Sem Value), execOp a.eval o = (do pure (.value (← S))) → (st' = st ∧ ∃ u, S.run E.P Γ.w = .ok u Γ.w ∧ VR Γ v u) →
      ∃ Γ', Out w0 M n0 Γ Γ' st' ∧ ((∃ u, (execOp a.eval o).run E.P Γ.w = .ok (.value u) Γ'.w ∧ VR Γ' v u) ∨ ((execOp a.eval o).run E.P Γ.w = .ok .skip Γ'.w ∧ v = .tup [])) := by
    intro S hS ⟨hst, u, hr, hv⟩
    subst hst
    exact val S hS ⟨Γ, u, hr, Out.same hsr hk, hv⟩
  have same : ∀ (u : Value), execOp a.eval o = pure (.value u) → VR Γ v u → st' = st →
      ∃ Γ', Out w0 M n0 Γ Γ' st' ∧ ((∃ u, (execOp a.eval o).run E.P Γ.w = .ok (.value u) Γ'.w ∧ VR Γ' v u) ∨ ((execOp a.eval o).run E.P Γ.w = .ok .skip Γ'.w ∧ v = .tup [])) := by
    intro u hS hv hst
    subst hst
    exact ⟨Γ, Out.same hsr hk, .inl ⟨u, by rw [hS]; rfl, hv⟩⟩
  obtain ⟨dst, op, ty, pos, after, guard⟩ := o
  unfold act at h
  dsimp only at h
  split at h
  · obtain ⟨Γ', hw, ho, hv⟩ := nilOwn_ok hsr hk (O _) hf h
    exact ⟨Γ', ho, .inl ⟨_, by rw [hw]; rfl, hv⟩⟩
  · obtain ⟨Γ', hw, ho, hv⟩ := nilOwn_ok hsr hk (O _) hf h
    exact ⟨Γ', ho, .inl ⟨_, by rw [hw]; rfl, hv⟩⟩
  · rename_i c x y
    have hc := O c
    have hx := O x
    have hy := O y
    cases hcv : opd E s c with
    | bool t =>
      rw [hcv] at h hc
      cases hcc : a.eval c with
      | bool t' =>
        rw [hcc] at hc
        cases hc
        have hres : st' = st ∧ v = (if t = true then opd E s x else opd E s y) := by
          simp only [] at h
          split at h
          · rename_i b1 b2 e1 e2
            obtain ⟨rfl, rfl⟩ := AM.pure_ok h
            rw [e1, e2]
            cases t <;> exact ⟨rfl, rfl⟩
          · cases t
            · obtain ⟨rfl, rfl⟩ := AM.pure_ok h; exact ⟨rfl, rfl⟩
            · obtain ⟨rfl, rfl⟩ := AM.pure_ok h; exact ⟨rfl, rfl⟩
        obtain ⟨rfl, rfl⟩ := hres
        refine ⟨Γ, Out.same hsr hk, .inl ⟨if t = true then a.eval x else a.eval y, ?_, ?_⟩⟩
        · simp only [execOp, hcc, asBool, Sem.run_bind, Sem.run_pure, Result.andThen_ok]
        · cases t
          · exact hy
          · exact hx
      | _ => rw [hcc] at hc; cases hc
    | _ => rw [hcv] at h; exact (AM.fail_ok h).elim
  · exact val _ rfl (let ⟨Γ', r, h1, h2, h3⟩ := allocA_ok hsr hk hf h; ⟨Γ', r, h1, h2, h3⟩)
  · exact val _ rfl (let ⟨Γ', r, h1, h2, h3⟩ := boxA_ok hsr hk (O _) hf h; ⟨Γ', r, h1, h2, h3⟩)
  · rename_i t ps
    refine pur _ rfl (buildA_ok ⟨by simp, fun i p q hp hq => ?_⟩ h)
    rw [List.getElem?_map, Option.map_eq_some_iff] at hp
    obtain ⟨x, hx, rfl⟩ := hp
    rw [Array.toList_map, List.getElem?_map, hx] at hq
    obtain rfl := Option.some.inj hq
    exact ⟨rfl, O _⟩
  · rename_i t n ps
    refine val _ rfl (buildSliceA_ok hsr hk ⟨by simp, fun i p q hp hq => ?_⟩ hf h)
    rw [List.getElem?_map, Option.map_eq_some_iff] at hp
    obtain ⟨x, hx, rfl⟩ := hp
    rw [Array.toList_map, List.getElem?_map, hx] at hq
    obtain rfl := Option.some.inj hq
    exact ⟨rfl, O _⟩
  · exact pur _ rfl (loadA_ok hsr (O _) h)
  · rename_i t x y
    rcases AM.bif_ok h with ⟨ht, h1⟩ | ⟨_, h1⟩
    · obtain ⟨rfl, Γ', hr, ho⟩ := storeA_ok hsr hk (O x) (O y) ht hf h1
      refine ⟨Γ', ho, .inr ⟨?_, rfl⟩⟩
      simp only [execOp, Sem.run_bind, hr, Result.andThen_ok, Sem.run_pure]
    · exact (AM.fail_ok h1).elim
  · rename_i x
    have hx := O x
    cases hxv : opd E s x with
    | ref i1 i2 i3 i4 =>
      rw [hxv] at h hx
      obtain ⟨rfl, rfl⟩ := AM.pure_ok h
      generalize hq : a.eval x = q at hx
      refine same q ?_ hx rfl
      cases hx
      simp only [execOp, hq]
    | fptr b y =>
      rw [hxv] at h hx
      obtain ⟨rfl, rfl⟩ := AM.pure_ok h
      generalize hq : a.eval x = q at hx
      refine same q ?_ hx rfl
      cases hx
      simp only [execOp, hq]
    | fn g cs =>
      rw [hxv] at h hx
      obtain ⟨rfl, rfl⟩ := AM.pure_ok h
      generalize hq : a.eval x = q at hx
      refine same q ?_ hx rfl
      cases hx
      simp only [execOp, hq]
    | _ => rw [hxv] at h; exact (AM.fail_ok h).elim
  · rename_i op t x y _
    obtain ⟨hst, u, h1, h2, h3⟩ := binA_ok (O x) (O y) h x y
    refine pur _ rfl ⟨hst, u, ?_, h3⟩
    simp only [Sem.run_bind, h1, Result.andThen_ok, h2]
  · obtain ⟨h1, hst⟩ := AM.ofR_ok h
    exact pur _ rfl ⟨hst, unA_ok (O _) h1⟩
  · exact val _ rfl (convA_ok hsr hk (O _) h)
  · rename_i f first caps
    split at h
    · obtain ⟨cs, s1, t1, w1, t2, w2, h1, h2, _, _⟩ := AM.bind_ok h
      obtain ⟨rfl, rfl⟩ := AM.pure_ok h2
      obtain ⟨Γ', hfz, hcs⟩ := captA_ok _ hsr (ListVR.map caps.toList (opd E s) a.eval fun x _ => O x) h1
      refine val _ rfl ⟨Γ', .func (.func f) #[] (caps.map a.eval), ?_, hfz.out hk, ?_⟩
      · rw [hfz.w]; simp [Instr.makeFunc]
      · rw [show caps.map a.eval = (caps.toList.map a.eval).toArray from by rw [← Array.toList_map, Array.toArray_toList]]
        exact hcs.fn
    · exact (AM.fail_ok h).elim
  · rename_i t
    obtain ⟨w1, h1⟩ := AM.put_ok h
    obtain ⟨rfl, rfl⟩ := AM.pure_ok h1
    refine val _ rfl ⟨Γ.at_ (Γ.w.alloc (.map #[] 0)) n0 (.map (some Γ.w.heap.size)), .map (some Γ.w.heap.size), ?_, ?_, .mapr n0 _ (at_self _ _ _ _)⟩
    · simp [Instr.makeMap]; rfl
    · exact out_new hsr hk (hf n0 (Nat.le_refl _) (by omega)) (grown_alloc _ _) (fun k hk => by simp [blk] at hk; subst hk; simp) ⟨Nat.le_refl _, by omega⟩ ⟨_, #[], 0, at_self _ _ _ _, heap_alloc_new _ _, rfl, fun i p m hp => by simp at hp⟩
  · exact val _ rfl (makeSliceA_ok hsr hk (O _) (O _) hf h)
  · exact val _ rfl (sliceA_ok hsr hk (O _) (opdO_ok hs hg _) (opdO_ok hs hg _) (opdO_ok hs hg _) h)
  · obtain ⟨h1, hst⟩ := AM.ofR_ok h
    exact pur _ rfl ⟨hst, fieldAddrA_ok (O _) h1⟩
  · obtain ⟨h1, hst⟩ := AM.ofR_ok h
    exact pur _ rfl ⟨hst, fieldA_ok (O _) h1⟩
  · exact pur _ rfl (indexAddrA_ok hsr (O _) (O _) h)
  · exact pur _ rfl (indexA_ok (O _) (O _) h)
  · exact val _ rfl (lookupA_ok hsr hk (O _) (O _) h)
  · rename_i t m k x
    obtain ⟨rfl, Γ', hr, ho⟩ := mapUpdateA_ok hsr hk (O m) (O k) (O x) h
    refine ⟨Γ', ho, .inr ⟨?_, rfl⟩⟩
    simp only [execOp, Sem.run_bind, hr, Result.andThen_ok, Sem.run_pure]
  · rename_i x i
    have hx := O x
    cases hxv : opd E s x with
    | tup vs =>
      rw [hxv] at h hx
      simp only [] at h
      split at h
      · rename_i c hc
        obtain ⟨rfl, rfl⟩ := AM.pure_ok h
        generalize hq : a.eval x = q at hx
        cases hx with
        | tup _ us hl hv =>
          have hlt : i < us.size := by rw [← hl]; exact (List.getElem?_eq_some_iff.1 hc).1
          refine pur _ rfl ⟨rfl, us[i], ?_, hv i v _ hc (by simp [hlt])⟩
          simp [hq, Instr.extract, hlt]
      · exact (AM.fail_ok h).elim
    | _ => rw [hxv] at h; exact (AM.fail_ok h).elim
  · rename_i c
    obtain ⟨callee, args, argTypes⟩ := c
    simp only [] at h
    split at h
    · rename_i b
      have hargs : ListVR Γ (args.toList.map (opd E s)) (args.map a.eval).toList := by rw [Array.toList_map]; exact ListVR.map args.toList (opd E s) a.eval fun x _ => O x
      have run : ∀ (S : Sem Value), (∀ cs, builtin b argTypes ty cs (args.map a.eval) = (do pure (.value (← S)))) → (∃ Γ' u, S.run E.P Γ.w = .ok u Γ'.w ∧ Out w0 M n0 Γ Γ' st' ∧ VR Γ' v u) →
          ∃ Γ', Out w0 M n0 Γ Γ' st' ∧ ((∃ u, (execOp a.eval ⟨dst, .call ⟨.builtin b, args, argTypes⟩, ty, pos, after, guard⟩).run E.P Γ.w = .ok (.value u) Γ'.w ∧ VR Γ' v u) ∨ ((execOp a.eval ⟨dst, .call ⟨.builtin b, args, argTypes⟩, ty, pos, after, guard⟩).run E.P Γ.w = .ok .skip Γ'.w ∧ v = .tup [])) := by
        intro S hS ⟨Γ', u, hr, ho, hv⟩
        refine ⟨Γ', ho, .inl ⟨u, ?_, hv⟩⟩
        simp only [execOp, resolve, invoke, Sem.run_bind, Sem.run_pure, Result.andThen_ok, hS, hr]
      generalize hpl : args.toList.map (opd E s) = pl at h hargs
      generalize hvl : args.map a.eval = vl at run hargs
      obtain ⟨vl⟩ := vl
      unfold builtinA at h
      split at h
      · -- len
        rename_i x
        split at h
        · rename_i t ht
          cases vl with
          | nil => have := hargs.1; simp at this
          | cons xv r =>
            obtain ⟨hx, hr⟩ := hargs.inv
            have : r = [] := by cases r with | nil => rfl | cons q r => have := hr.1; simp at this
            subst this
            obtain ⟨rfl, u, hu, hv⟩ := lenA_ok (ty := ty) hsr hx h
            exact run _ (fun cs => rfl) ⟨Γ, u, by rw [len_ts ht]; exact hu, Out.same hsr hk, hv⟩
        · exact (AM.fail_ok h).elim
      · rename_i x y
        split at h
        · rename_i t u ht hu
          rcases AM.bif_ok h with ⟨he, h1⟩ | ⟨_, h1⟩
          · have he := Nat.eq_of_beq_eq_true he
            subst he
            cases vl with
            | nil => have := hargs.1; simp at this
            | cons xv r =>
              obtain ⟨hx, hr⟩ := hargs.inv
              cases r with
              | nil => have := hr.1; simp at this
              | cons yv r =>
                obtain ⟨hy, hr⟩ := hr.inv
                have : r = [] := by cases r with | nil => rfl | cons q r => have := hr.1; simp at this
                subst this
                obtain ⟨Γ', u, hu', ho, hv⟩ := appendA_ok (ty := ty) hsr hk hx hy hf h1
                exact run _ (fun cs => rfl) ⟨Γ', u, by rw [append_ts ht hu]; exact hu', ho, hv⟩
          · exact (AM.fail_ok h1).elim
        · exact (AM.fail_ok h).elim
      · obtain ⟨h1, rfl⟩ := AM.ofR_ok h
        obtain ⟨u, hu, hv⟩ := maxI_ok (E := E) (vs := vl.toArray) argTypes ty (by simpa using hargs.1) (fun i p q hp hq => hargs.2 i p q hp (by simpa using hq)) h1
        exact run _ (fun cs => rfl) ⟨Γ, u, hu, Out.same hsr hk, hv⟩
      · obtain ⟨h1, rfl⟩ := AM.ofR_ok h
        obtain ⟨u, hu, hv⟩ := minI_ok (E := E) (vs := vl.toArray) argTypes ty (by simpa using hargs.1) (fun i p q hp hq => hargs.2 i p q hp (by simpa using hq)) h1
        exact run _ (fun cs => rfl) ⟨Γ, u, hu, Out.same hsr hk, hv⟩
      · exact (AM.fail_ok h).elim
    · exact (AM.fail_ok h).elim
  · exact (AM.fail_ok h).elim
end
end Go.Pvm
namespace Go.Pvm
open Go.RowKit

mutual
theorem clean1_facts : ∀ (c : PVal), c.clean1 = true → c.ids = [] ∧ c.noBor = true ∧ ∀ ρ, c.ren ρ = c := by
  intro c h
  cases c with
  | sl m sz xs =>
    refine ⟨by simp [PVal.ids], ?_, fun ρ => by simp [PVal.ren]⟩
    cases m <;> simp [PVal.clean1, PVal.cl] at h <;> simp [PVal.noBor]
  | fptr b x =>
    simp only [PVal.clean1, Bool.and_eq_true, Bool.not_eq_true', PVal.cl] at h
    obtain ⟨h1, h2, h3⟩ := cleanX_facts x h.2
    exact ⟨by simpa [PVal.ids] using h1, by simp [PVal.noBor, h.1, h2], fun ρ => by simp [PVal.ren, h3 ρ]⟩
  | fn f cs =>
    simp only [PVal.clean1, PVal.cl] at h
    obtain ⟨h1, h2, h3⟩ := clean1L_facts cs h
    exact ⟨by simpa [PVal.ids] using h1, by simpa [PVal.noBor] using h2, fun ρ => by simp [PVal.ren, h3 ρ]⟩
  | iface t x =>
    simp only [PVal.clean1, PVal.cl] at h
    obtain ⟨h1, h2, h3⟩ := cleanX_facts x h
    exact ⟨by simpa [PVal.ids] using h1, by simpa [PVal.noBor] using h2, fun ρ => by simp [PVal.ren, h3 ρ]⟩
  | undef => simp [PVal.clean1, PVal.cl] at h
  | own id => simp [PVal.clean1, PVal.cl] at h
  | ref a b c d => simp [PVal.clean1, PVal.cl] at h
  | mapr id => simp [PVal.clean1, PVal.cl] at h
  | tup vs => simp [PVal.clean1, PVal.cl] at h
  | agg vs => simp [PVal.clean1, PVal.cl] at h
  | _ => simp [PVal.ids, PVal.noBor, PVal.ren]
theorem cleanX_facts : ∀ (c : PVal), PVal.clean1.cleanX c = true → c.ids = [] ∧ c.noBor = true ∧ ∀ ρ, c.ren ρ = c := by
  intro c h
  cases c with
  | agg cs =>
    simp only [PVal.clean1.cleanX, PVal.cl] at h
    obtain ⟨h1, h2, h3⟩ := clean1L_facts cs h
    exact ⟨by simpa [PVal.ids] using h1, by simpa [PVal.noBor] using h2, fun ρ => by simp [PVal.ren, h3 ρ]⟩
  | fptr b x =>
    simp only [PVal.clean1.cleanX, PVal.clean1, Bool.and_eq_true, Bool.not_eq_true', PVal.cl] at h
    obtain ⟨h1, h2, h3⟩ := cleanX_facts x h.2
    exact ⟨by simpa [PVal.ids] using h1, by simp [PVal.noBor, h.1, h2], fun ρ => by simp [PVal.ren, h3 ρ]⟩
  | fn f cs =>
    simp only [PVal.clean1.cleanX, PVal.clean1, PVal.cl] at h
    obtain ⟨h1, h2, h3⟩ := clean1L_facts cs h
    exact ⟨by simpa [PVal.ids] using h1, by simpa [PVal.noBor] using h2, fun ρ => by simp [PVal.ren, h3 ρ]⟩
  | iface t x =>
    simp only [PVal.clean1.cleanX, PVal.clean1, PVal.cl] at h
    obtain ⟨h1, h2, h3⟩ := cleanX_facts x h
    exact ⟨by simpa [PVal.ids] using h1, by simpa [PVal.noBor] using h2, fun ρ => by simp [PVal.ren, h3 ρ]⟩
  | sl m sz xs =>
    refine ⟨by simp [PVal.ids], ?_, fun ρ => by simp [PVal.ren]⟩
    cases m <;> simp [PVal.clean1.cleanX, PVal.clean1, PVal.cl] at h <;> simp [PVal.noBor]
  | undef => simp [PVal.clean1.cleanX, PVal.clean1, PVal.cl] at h
  | own id => simp [PVal.clean1.cleanX, PVal.clean1, PVal.cl] at h
  | ref a b c d => simp [PVal.clean1.cleanX, PVal.clean1, PVal.cl] at h
  | mapr id => simp [PVal.clean1.cleanX, PVal.clean1, PVal.cl] at h
  | tup vs => simp [PVal.clean1.cleanX, PVal.clean1, PVal.cl] at h
  | _ => simp [PVal.ids, PVal.noBor, PVal.ren]
theorem clean1L_facts : ∀ (cs : List PVal), PVal.clean1.clean1L cs = true → PVal.ids.idsL cs = [] ∧ PVal.noBor.noBorL cs = true ∧ ∀ ρ, PVal.ren.renL ρ cs = cs := by
  intro cs h
  cases cs with
  | nil => simp [PVal.ids.idsL, PVal.noBor.noBorL, PVal.ren.renL]
  | cons c cs =>
    simp only [PVal.clean1.clean1L, Bool.and_eq_true, PVal.cl, PVal.cl.clL] at h
    obtain ⟨h1, h2, h3⟩ := clean1_facts c h.1
    obtain ⟨k1, k2, k3⟩ := clean1L_facts cs h.2
    exact ⟨by simp [PVal.ids.idsL, h1, k1], by simp [PVal.noBor.noBorL, h2, k2], fun ρ => by simp [PVal.ren.renL, h3 ρ, k3 ρ]⟩
end
theorem renL_map (ρ : Nat → Nat) (cs : List PVal) : PVal.ren.renL ρ cs = cs.map (PVal.ren ρ) := by
  induction cs with
  | nil => simp [PVal.ren.renL]
  | cons c cs ih => simp [PVal.ren.renL, ih]
theorem mem_idsL {cs : List PVal} {id : Nat} : id ∈ PVal.ids.idsL cs ↔ ∃ c ∈ cs, id ∈ c.ids := by
  induction cs with
  | nil => simp [PVal.ids.idsL]
  | cons c cs ih => simp [PVal.ids.idsL, ih]
theorem noBorL_iff {cs : List PVal} : PVal.noBor.noBorL cs = true ↔ ∀ c ∈ cs, c.noBor = true := by
  induction cs with
  | nil => simp [PVal.noBor.noBorL]
  | cons c cs ih => simp [PVal.noBor.noBorL, ih]
theorem cells_ren (ρ : Nat → Nat) (x : PVal) : (x.ren ρ).cells = x.cells.map (PVal.ren ρ) := by
  cases x <;> simp [PVal.ren, PVal.cells, renL_map]
theorem cells_ids {x c : PVal} {j id : Nat} (hj : x.cells[j]? = some c) (h : id ∈ c.ids) : id ∈ x.ids := by
  cases x with
  | agg cs => simp only [PVal.ids]; exact mem_idsL.2 ⟨c, mem_of_get hj, h⟩
  | _ => simp only [PVal.cells] at hj; cases j with
    | zero => simp at hj; subst hj; exact h
    | succ j => simp at hj
theorem cells_noBor {x c : PVal} {j : Nat} (hj : x.cells[j]? = some c) (h : x.noBor = true) : c.noBor = true := by
  cases x with
  | agg cs => simp only [PVal.noBor] at h; exact noBorL_iff.1 h c (mem_of_get hj)
  | _ => simp only [PVal.cells] at hj; cases j with
    | zero => simp at hj; subst hj; exact h
    | succ j => simp at hj
theorem one_ren (ρ : Nat → Nat) (c : PVal) : (c.ren ρ).one = c.one := by cases c <;> simp [PVal.ren, PVal.one]
theorem oneL_ren (ρ : Nat → Nat) (cs : List PVal) : oneL (cs.map (PVal.ren ρ)) = oneL cs := by
  induction cs with
  | nil => rfl
  | cons c cs ih => simp [oneL, one_ren, ih]

/-- the names of one context in another; b: nothing lent is left -/
structure RenOK (Γ Γ' : Ctx) (ρ : Nat → Nat) (b : Bool) : Prop where
  w : Γ'.w = Γ.w
  Z : ∀ k, Γ.Z k → Γ'.Z k
  B : b = false → ∀ k, Γ.B k → Γ'.B k
theorem RenOK.S {Γ Γ' : Ctx} {ρ : Nat → Nat} {b m : Bool} (h : RenOK Γ Γ' ρ b) (hm : b = true → m = false) {k : Nat} (hs : Γ.S m k) : Γ'.S m k := by
  rcases hs with hs | ⟨e, hs⟩
  · exact .inl (h.Z k hs)
  · cases b with
    | false => exact .inr ⟨e, h.B rfl k hs⟩
    | true => rw [hm rfl] at e; cases e
theorem VR.rename {Γ Γ' : Ctx} {ρ : Nat → Nat} {b : Bool} (hr : RenOK Γ Γ' ρ b) {p : PVal} {v : Value} (h : VR Γ p v) :
    (b = true → p.noBor = true) → (∀ id u, id ∈ p.ids → Γ.φ id = some u → Γ'.φ (ρ id) = some u) → VR Γ' (p.ren ρ) v := by
  have cell : ∀ (cs : List PVal) (vs : Array Value), (∀ (i : Nat) (c : PVal) (v : Value), cs[i]? = some c → vs[i]? = some v → (b = true → c.noBor = true) → (∀ id u, id ∈ c.ids → Γ.φ id = some u → Γ'.φ (ρ id) = some u) → VR Γ' (c.ren ρ) v) →
      (b = true → PVal.noBor.noBorL cs = true) → (∀ id u, id ∈ PVal.ids.idsL cs → Γ.φ id = some u → Γ'.φ (ρ id) = some u) →
      ∀ (i : Nat) (c : PVal) (v : Value), (PVal.ren.renL ρ cs)[i]? = some c → vs[i]? = some v → VR Γ' c v := by
    intro cs vs ih hb hi i c v hc hv
    rw [renL_map, List.getElem?_map, Option.map_eq_some_iff] at hc
    obtain ⟨c0, hc0, rfl⟩ := hc
    exact ih i c0 v hc0 hv (fun e => noBorL_iff.1 (hb e) c0 (mem_of_get hc0)) (fun id u hid => hi id u (mem_idsL.2 ⟨c0, mem_of_get hc0, hid⟩))
  induction h with
  | undef v => intro _ _; exact .undef v
  | int k n => intro _ _; exact .int k n
  | bool b => intro _ _; exact .bool b
  | str s => intro _ _; exact .str s
  | agg cs vs hl _ ih =>
    intro hb hi
    simp only [PVal.ren, PVal.noBor, PVal.ids] at *
    exact .agg _ vs (by rw [renL_map]; simpa using hl) (cell cs vs ih hb hi)
  | tup cs vs hl _ ih =>
    intro hb hi
    simp only [PVal.ren, PVal.noBor, PVal.ids] at *
    exact .tup _ vs (by rw [renL_map]; simpa using hl) (cell cs vs ih hb hi)
  | fn g cs vs hl _ ih =>
    intro hb hi
    simp only [PVal.ren, PVal.noBor, PVal.ids] at *
    exact .fn g _ vs (by rw [renL_map]; simpa using hl) (cell cs vs ih hb hi)
  | sl m sz xs a cap hnl hcl hcap hsz hcn hz f hc _ ih =>
    intro hb hi
    have e : (PVal.sl m sz xs).ren ρ = .sl m sz xs := by simp [PVal.ren]
    rw [e]
    have hm : b = true → (m == .bor) = false := fun h => by
      have := hb h
      cases m <;> simp [PVal.noBor] at this <;> rfl
    refine .sl m sz xs a cap hnl hcl hcap hsz hcn (fun hne => ?_) f (fun ad i x j c ha hx hj => by rw [hr.w]; exact hc ad i x j c ha hx hj) (fun i x j c hx hj => ?_)
    · obtain ⟨ad, e, hs⟩ := hz hne
      exact ⟨ad, e, hr.S hm hs⟩
    · obtain ⟨h1, h2, h3⟩ := clean1_facts c (clean1L_get (hcn x (mem_of_get hx)) hj)
      have := ih i x j c hx hj (fun _ => h2) (fun id u hid => by rw [h1] at hid; simp at hid)
      rwa [h3 ρ] at this
  | own id a n cap h =>
    intro hb hi
    simp only [PVal.ren]
    exact .own _ a n cap (hi id _ (by simp [PVal.ids]) h)
  | ref id sz i off g v h hg =>
    intro hb hi
    simp only [PVal.ren]
    exact .ref _ sz i off g v (hi id _ (by simp [PVal.ids]) h) hg
  | fptr bb x ad hz ho f hc _ ih =>
    intro hb hi
    simp only [PVal.ren]
    have hbb : b = true → bb = false := fun h => by
      have := hb h
      simp [PVal.noBor] at this
      exact this.1
    refine .fptr bb _ ad (hr.S hbb hz) (by rw [cells_ren, oneL_ren]; exact ho) f (fun j c hj => ?_) (fun j c hj => ?_)
    · rw [cells_ren, List.getElem?_map, Option.map_eq_some_iff] at hj
      obtain ⟨c0, hc0, _⟩ := hj
      rw [hr.w]
      exact hc j c0 hc0
    · rw [cells_ren, List.getElem?_map, Option.map_eq_some_iff] at hj
      obtain ⟨c0, hc0, rfl⟩ := hj
      refine ih j c0 hc0 (fun h => ?_) (fun id u hid => hi id u (by simp only [PVal.ids]; exact cells_ids hc0 hid))
      have := hb h
      simp [PVal.noBor] at this
      exact cells_noBor hc0 this.2
  | nilptr => intro _ _; exact .nilptr
  | nilfn => intro _ _; exact .nilfn
  | mapr id r h =>
    intro hb hi
    simp only [PVal.ren]
    exact .mapr _ r (hi id _ (by simp [PVal.ids]) h)
  | nilmap => intro _ _; exact .nilmap
  | iface t p v _ ih =>
    intro hb hi
    simp only [PVal.ren, PVal.noBor, PVal.ids] at *
    exact .iface t _ v (ih hb hi)
  | nilif => intro _ _; exact .nilif

theorem ListVR.rename {Γ Γ' : Ctx} {ρ : Nat → Nat} {b : Bool} (hr : RenOK Γ Γ' ρ b) {ps : List PVal} {vs : List Value} (h : ListVR Γ ps vs) (hb : b = true → PVal.noBor.noBorL ps = true)
    (hi : ∀ id u, id ∈ PVal.ids.idsL ps → Γ.φ id = some u → Γ'.φ (ρ id) = some u) : ListVR Γ' (PVal.ren.renL ρ ps) vs := by
  rw [renL_map]
  refine ⟨by simp [h.1], fun i p v hp hv => ?_⟩
  rw [List.getElem?_map, Option.map_eq_some_iff] at hp
  obtain ⟨c0, hc0, rfl⟩ := hp
  exact VR.rename hr (h.2 i c0 v hc0 hv) (fun e => noBorL_iff.1 (hb e) c0 (mem_of_get hc0)) (fun id u hid => hi id u (mem_idsL.2 ⟨c0, mem_of_get hc0, hid⟩))
theorem mem_row_ids {bx : Bool} {e sz : Nat} {xs : List PVal} {x : PVal} {id : Nat} (hx : x ∈ xs) (hid : id ∈ x.ids) (hb : bx = true) : id ∈ (AObj.row bx e sz xs).ids := by
  subst hb; simp only [AObj.ids]; exact mem_idsL.2 ⟨x, hx, hid⟩
/-- cells under new names -/
theorem CellsOK.rename {Γ Γ' : Ctx} {ρ : Nat → Nat} {b : Bool} (hr : RenOK Γ Γ' ρ b) {sz : Nat} {xs : List PVal} {vs : List Value} (h : CellsOK Γ sz xs vs) (hb : b = true → PVal.noBor.noBorL xs = true)
    (hi : ∀ id u, id ∈ PVal.ids.idsL xs → Γ.φ id = some u → Γ'.φ (ρ id) = some u) : CellsOK Γ' sz (PVal.ren.renL ρ xs) vs := by
  rw [renL_map]
  refine ⟨fun x hx => ?_, fun i x j c hx hj => ?_⟩
  · obtain ⟨x0, hx0, rfl⟩ := List.mem_map.1 hx
    rw [cells_ren, oneL_ren]
    simpa using h.1 x0 hx0
  · rw [List.getElem?_map, Option.map_eq_some_iff] at hx
    obtain ⟨x0, hx0, rfl⟩ := hx
    rw [cells_ren, List.getElem?_map, Option.map_eq_some_iff] at hj
    obtain ⟨c0, hc0, rfl⟩ := hj
    obtain ⟨u, hu, hv⟩ := h.2 i x0 j c0 hx0 hc0
    exact ⟨u, hu, VR.rename hr hv (fun e => cells_noBor hc0 (noBorL_iff.1 (hb e) x0 (mem_of_get hx0))) (fun id u hid => hi id u (mem_idsL.2 ⟨x0, mem_of_get hx0, cells_ids hc0 hid⟩))⟩
/-- clean cells keep their names -/
theorem CellsOK.rename_clean {Γ Γ' : Ctx} {ρ : Nat → Nat} {b : Bool} (hr : RenOK Γ Γ' ρ b) {sz : Nat} {xs : List PVal} {vs : List Value} (h : CellsOK Γ sz xs vs) (hcl : ∀ x ∈ xs, x.clean = true) : CellsOK Γ' sz xs vs := by
  refine ⟨h.1, fun i x j c hx hj => ?_⟩
  obtain ⟨u, hu, hv⟩ := h.2 i x j c hx hj
  obtain ⟨h1, h2, h3⟩ := clean1_facts c (clean1L_get (hcl x (mem_of_get hx)) hj)
  have := VR.rename hr hv (fun _ => h2) (fun id u hid => by rw [h1] at hid; simp at hid)
  exact ⟨u, hu, by rwa [h3 ρ] at this⟩
theorem VR.rename_clean {Γ Γ' : Ctx} {ρ : Nat → Nat} {b : Bool} (hr : RenOK Γ Γ' ρ b) {x : PVal} {v : Value} (h : VR Γ x v) (hf : x.ids = [] ∧ x.noBor = true ∧ ∀ ρ, x.ren ρ = x) : VR Γ' x v := by
  have := VR.rename hr h (fun _ => hf.2.1) (fun id u hid => by rw [hf.1] at hid; simp at hid)
  rwa [hf.2.2 ρ] at this
theorem clean_single {c : PVal} (h : PVal.clean1.clean1L [c] = true) : c.clean1 = true := by
  simpa [PVal.clean1.clean1L, PVal.cl.clL, PVal.clean1] using h
theorem clean_facts {x : PVal} (h : x.clean = true) : x.ids = [] ∧ x.noBor = true ∧ ∀ ρ, x.ren ρ = x := by
  cases x with
  | agg cs =>
    have h' : PVal.clean1.cleanX (.agg cs) = true := h
    exact cleanX_facts _ h'
  | _ => exact clean1_facts _ (clean_single h)
/-- an object under new names -/
theorem ObjOK.rename {Γ Γ' : Ctx} {ρ : Nat → Nat} {b : Bool} (hr : RenOK Γ Γ' ρ b) {id id' : Nat} {o : AObj} (h : ObjOK Γ id o) (hφ : ∀ u, Γ.φ id = some u → Γ'.φ id' = some u) (hb : b = true → o.noBor = true)
    (hi : ∀ k u, k ∈ o.ids → Γ.φ k = some u → Γ'.φ (ρ k) = some u) : ObjOK Γ' id' (o.ren ρ) := by
  cases o with
  | none => trivial
  | row bx e sz xs =>
    obtain ⟨v, vs, hv, hpos, hrow, hc, hcl⟩ := h
    have hrow' : Γ'.w.ownsRow 0 e sz v xs.length vs := by rw [hr.w]; exact hrow
    cases bx with
    | true =>
      simp only [AObj.ren]
      refine ⟨v, vs, hφ v hv, hpos, by rw [renL_map, List.length_map]; exact hrow', hc.rename hr (fun e => by have := hb e; simpa [AObj.noBor] using this) (fun k u hkm => hi k u (by simp only [AObj.ids]; exact hkm)), fun e => by cases e⟩
    | false => exact ⟨v, vs, hφ v hv, hpos, hrow', hc.rename_clean hr (hcl rfl), hcl⟩
  | frz bx sz xs =>
    obtain ⟨a, cap, hv, hcap, h1, hz, hcl⟩ := h
    cases bx with
    | true =>
      simp only [AObj.ren]
      refine ⟨a, cap, by rw [renL_map, List.length_map]; exact hφ _ hv, by rw [renL_map, List.length_map]; exact hcap, fun x hx => ?_, fun hne => ?_, fun e => by cases e⟩
      · rw [renL_map] at hx
        obtain ⟨x0, hx0, rfl⟩ := List.mem_map.1 hx
        rw [cells_ren, oneL_ren]
        simpa using h1 x0 hx0
      · obtain ⟨g, ha, hzg, f, hf⟩ := hz (fun e => by subst e; simp [PVal.ren.renL] at hne)
        refine ⟨g, ha, hr.Z g hzg, f, fun i x j c hx hj => ?_⟩
        rw [renL_map, List.getElem?_map, Option.map_eq_some_iff] at hx
        obtain ⟨x0, hx0, rfl⟩ := hx
        rw [cells_ren, List.getElem?_map, Option.map_eq_some_iff] at hj
        obtain ⟨c0, hc0, rfl⟩ := hj
        obtain ⟨k1, k2⟩ := hf i x0 j c0 hx0 hc0
        refine ⟨by rw [hr.w]; exact k1, VR.rename hr k2 (fun e => ?_) (fun id u hid => hi id u (by simp only [AObj.ids]; exact mem_idsL.2 ⟨x0, mem_of_get hx0, cells_ids hc0 hid⟩))⟩
        have := hb e
        simp only [AObj.noBor] at this
        exact cells_noBor hc0 (noBorL_iff.1 this x0 (mem_of_get hx0))
    | false =>
      refine ⟨a, cap, hφ _ hv, hcap, h1, fun hne => ?_, hcl⟩
      obtain ⟨g, ha, hzg, f, hf⟩ := hz hne
      refine ⟨g, ha, hr.Z g hzg, f, fun i x j c hx hj => ?_⟩
      obtain ⟨k1, k2⟩ := hf i x j c hx hj
      exact ⟨by rw [hr.w]; exact k1, VR.rename_clean hr k2 (clean1_facts c (clean1L_get (hcl rfl x (mem_of_get hx)) hj))⟩
  | mp es =>
    obtain ⟨r, ents, clock, hv, hrr, hn, he⟩ := h
    refine ⟨r, ents, clock, hφ _ hv, by rw [hr.w]; exact hrr, hn, fun i p m hp hm => ?_⟩
    obtain ⟨k1, k2, k3⟩ := he i p m hp hm
    exact ⟨VR.rename_clean hr k1 (clean1_facts _ k3.2), VR.rename_clean hr k2 (clean_facts k3.1), k3⟩
end Go.Pvm
namespace Go.Pvm
open Go.RowKit

theorem argsA_ok {K : Nat → Prop} {lent raw : List Nat} : ∀ (as : List PVal) (i : Nat) {Γ : Ctx} {st st' : Store} {as' : List PVal} {vs : List Value} {T W : List Nat}, SR K Γ st → ListVR Γ as vs → (argsA lent raw i as).run st = .ok (as', st', T, W) →
    ∃ Γ', Frz K Γ Γ' st' ∧ ListVR Γ' as' vs
  | [], i, Γ, st, st', as', vs, T, W, hsr, hv, h => by
    simp only [argsA] at h
    obtain ⟨rfl, rfl⟩ := AM.pure_ok h
    exact ⟨Γ, Frz.refl hsr, hv⟩
  | a :: as, i, Γ, st, st', as', [], T, W, hsr, hv, h => by have := hv.1; simp at this
  | a :: as, i, Γ, st, st', as', v :: vs, T, W, hsr, hv, h => by
    obtain ⟨ha, ht⟩ := hv.inv
    simp only [argsA] at h
    obtain ⟨a', s1, t1, w1, t2, w2, h1, h2, _, _⟩ := AM.bind_ok h
    have key : ∃ Γ1, Frz K Γ Γ1 s1 ∧ VR Γ1 a' v := by
      rcases AM.bif_ok h1 with ⟨_, h3⟩ | ⟨_, h3⟩
      · obtain ⟨rfl, rfl⟩ := AM.pure_ok h3; exact ⟨Γ, Frz.refl hsr, ha⟩
      · exact freezeV_ok a hsr ha h3
    obtain ⟨Γ1, hf1, ha'⟩ := key
    obtain ⟨r, s2, t3, w3, t4, w4, h3, h4, _, _⟩ := AM.bind_ok h2
    obtain ⟨rfl, rfl⟩ := AM.pure_ok h4
    obtain ⟨Γ2, hf2, hr⟩ := argsA_ok as (i + 1) hf1.sr (ht.mono hf1.le) h3
    exact ⟨Γ2, hf1.trans hf2, .cons (ha'.mono hf2.le) hr⟩

/-- a context in which some living blocks are lent -/
def Ctx.lend (Γ : Ctx) (st : Store) (ids : List Nat) : Ctx := { Γ with B := fun b => Γ.B b ∨ ∃ id v, id ∈ ids ∧ (st id).live = true ∧ Γ.φ id = some v ∧ blk v = some b }
theorem lend_ren (Γ : Ctx) (st : Store) (ids : List Nat) : RenOK Γ (Γ.lend st ids) id false := ⟨rfl, fun _ h => h, fun _ _ h => .inl h⟩
mutual
theorem ren_id : ∀ (p : PVal), p.ren id = p := by
  intro p
  cases p with
  | fptr b x => simp [PVal.ren, ren_id x]
  | agg cs => simp [PVal.ren, renL_id cs]
  | tup cs => simp [PVal.ren, renL_id cs]
  | fn f cs => simp [PVal.ren, renL_id cs]
  | iface t x => simp [PVal.ren, ren_id x]
  | _ => simp [PVal.ren]
theorem renL_id : ∀ (ps : List PVal), PVal.ren.renL id ps = ps := by
  intro ps
  cases ps with
  | nil => simp [PVal.ren.renL]
  | cons p ps => simp [PVal.ren.renL, ren_id p, renL_id ps]
end
theorem VR.lend {Γ : Ctx} {st : Store} {ids : List Nat} {p : PVal} {v : Value} (h : VR Γ p v) : VR (Γ.lend st ids) p v := by
  have := VR.rename (lend_ren Γ st ids) h (fun e => by cases e) (fun _ _ _ h => h)
  rwa [ren_id] at this
mutual
theorem lendV_ok {K : Nat → Prop} {ids : List Nat} : ∀ (p : PVal) {Γ : Ctx} {st st' : Store} {p' : PVal} {u : Value} {T W : List Nat}, SR K Γ st → VR Γ p u → (∀ k, k ∈ p.ids → k ∈ ids) → (freezeV .bor p).run st = .ok (p', st', T, W) →
    st' = st ∧ VR (Γ.lend st ids) p' u := by
  intro p Γ st st' p' u T W hsr hp hi h
  cases p with
  | own id =>
    simp only [freezeV] at h
    obtain ⟨t', h⟩ := AM.get_ok h
    obtain ⟨a, n, cap, rfl, hφ⟩ := own_inv hp
    have hob := hsr.obj id
    cases ho : st id with
    | none => rw [ho] at h; exact (AM.fail_ok h).elim
    | mp es => rw [ho] at h; exact (AM.fail_ok h).elim
    | row bx e sz xs =>
      rw [ho] at h hob
      cases bx with
      | true => exact (AM.fail_ok h).elim
      | false =>
        obtain ⟨rfl, rfl⟩ := AM.pure_ok h
        have hle : RenOK Γ (Γ.lend st' ids) _root_.id false := lend_ren Γ st' ids
        refine ⟨rfl, ?_⟩
        obtain ⟨v', vs, hv', hs, hr, hc, hcl⟩ := hob
        rw [hφ] at hv'
        obtain rfl := Option.some.inj hv'
        obtain ⟨a', cap', he, hcap, ha0, ha1, _⟩ := ownsRow_shape hr
        injection he with e1 e2 e3
        subst e1; subst e2; subst e3
        refine .sl .bor sz xs a cap (fun e => by cases e) ⟨fun e => (by cases e), fun _ e => (by cases e)⟩ hcap (fun x hx => (hc.1 x hx).1) (hcl rfl) (fun hne => ?_) (fun i j => (vs[i * sz + j]?).getD undef) (fun ad i x j c had hx hj => ?_) (fun i x j c hx hj => ?_)
        · cases a with
          | none => exact absurd (List.eq_nil_of_length_eq_zero (ha0 rfl).1) hne
          | some ad =>
            obtain ⟨g, rfl, _, hb, _⟩ := ha1 ad rfl
            exact ⟨_, rfl, .inr ⟨rfl, .inr ⟨id, _, hi id (by simp [PVal.ids]), by rw [ho]; rfl, hφ, hb⟩⟩⟩
        · obtain ⟨g, rfl, hob, _, _⟩ := ha1 ad had
          obtain ⟨u, hu, hvr⟩ := hc.2 i x j c hx hj
          have := hr.cells hob (i * sz + j) u hu
          rw [hu]
          exact this
        · obtain ⟨u, hu, hvr⟩ := hc.2 i x j c hx hj
          simp only [hu, Option.getD_some]
          exact hvr.lend
    | frz bx sz xs =>
      rw [ho] at h hob
      cases bx with
      | true => exact (AM.fail_ok h).elim
      | false =>
        obtain ⟨rfl, rfl⟩ := AM.pure_ok h
        exact ⟨rfl, (frz_sl hob hφ).lend⟩
  | sl m sz xs =>
    have key : ∀ m', (freezeV .bor (.sl m sz xs)).run st = .ok (p', st', T, W) → m = m' → (m' = .clip ∨ m' = .nl ∨ ∃ b, m' = .as b) → st' = st ∧ VR (Γ.lend st ids) p' u := by
      intro m' h hm hmm
      subst hm
      have h' : (AM.pure (PVal.sl .fr sz xs)).run st = .ok (p', st', T, W) := by rcases hmm with rfl | rfl | ⟨_, rfl⟩ <;> simpa only [freezeV] using h
      obtain ⟨rfl, rfl⟩ := AM.pure_ok h'
      obtain ⟨a, cap, f, rfl, g1, g2, g3, g4, g5, g6, g7, g8⟩ := sl_inv hp
      refine ⟨rfl, VR.lend (.sl .fr sz xs a cap (fun e => by cases e) ⟨fun e => (by cases e), fun _ e => (by cases e)⟩ g3 g4 g5 (fun hne => ?_) f g7 g8)⟩
      obtain ⟨ad, e, hs⟩ := g6 hne
      refine ⟨ad, e, .inl ?_⟩
      rcases hs with hs | ⟨hb, _⟩
      · exact hs
      · rcases hmm with rfl | rfl | ⟨_, rfl⟩ <;> cases hb
    cases m with
    | clip => exact key _ h rfl (.inl rfl)
    | nl => exact key _ h rfl (.inr (.inl rfl))
    | as b => exact key _ h rfl (.inr (.inr ⟨b, rfl⟩))
    | fr => simp only [freezeV] at h; obtain ⟨rfl, rfl⟩ := AM.pure_ok h; exact ⟨rfl, hp.lend⟩
    | bor => simp only [freezeV] at h; obtain ⟨rfl, rfl⟩ := AM.pure_ok h; exact ⟨rfl, hp.lend⟩
  | agg cs =>
    simp only [freezeV] at h
    obtain ⟨cs', s1, t1, w1, t2, w2, h1, h2, _, _⟩ := AM.bind_ok h
    obtain ⟨rfl, rfl⟩ := AM.pure_ok h2
    cases hp with
    | agg _ vs hl hv =>
      obtain ⟨rfl, hl', hv'⟩ := lendL_ok (ids := ids) cs hsr (vs := vs.toList) (by simpa using hl) (fun i c v hi hvi => hv i c v hi (by simpa using hvi)) (fun k hk => hi k (by simpa [PVal.ids] using hk)) h1
      exact ⟨rfl, .agg _ _ (by simpa using hl') (fun i c v hi hvi => hv' i c v hi (by simpa using hvi))⟩
  | tup cs =>
    simp only [freezeV] at h
    obtain ⟨cs', s1, t1, w1, t2, w2, h1, h2, _, _⟩ := AM.bind_ok h
    obtain ⟨rfl, rfl⟩ := AM.pure_ok h2
    cases hp with
    | tup _ vs hl hv =>
      obtain ⟨rfl, hl', hv'⟩ := lendL_ok (ids := ids) cs hsr (vs := vs.toList) (by simpa using hl) (fun i c v hi hvi => hv i c v hi (by simpa using hvi)) (fun k hk => hi k (by simpa [PVal.ids] using hk)) h1
      exact ⟨rfl, .tup _ _ (by simpa using hl') (fun i c v hi hvi => hv' i c v hi (by simpa using hvi))⟩
  | _ => simp only [freezeV] at h; obtain ⟨rfl, rfl⟩ := AM.pure_ok h; exact ⟨rfl, hp.lend⟩
theorem lendL_ok {K : Nat → Prop} {ids : List Nat} : ∀ (cs : List PVal) {Γ : Ctx} {st st' : Store} {cs' : List PVal} {vs : List Value} {T W : List Nat}, SR K Γ st → cs.length = vs.length →
    (∀ (i : Nat) (c : PVal) (v : Value), cs[i]? = some c → vs[i]? = some v → VR Γ c v) → (∀ k, k ∈ PVal.ids.idsL cs → k ∈ ids) → (freezeV.freezeL .bor cs).run st = .ok (cs', st', T, W) →
    st' = st ∧ cs'.length = vs.length ∧ ∀ (i : Nat) (c : PVal) (v : Value), cs'[i]? = some c → vs[i]? = some v → VR (Γ.lend st ids) c v := by
  intro cs Γ st st' cs' vs T W hsr hl hv hi h
  cases cs with
  | nil =>
    simp only [freezeV.freezeL] at h
    obtain ⟨rfl, rfl⟩ := AM.pure_ok h
    exact ⟨rfl, hl, fun i c v hi => by simp at hi⟩
  | cons c cs =>
    simp only [freezeV.freezeL] at h
    cases vs with
    | nil => simp at hl
    | cons v vs =>
      obtain ⟨c', s1, t1, w1, t2, w2, h1, h2, _, _⟩ := AM.bind_ok h
      obtain ⟨cs', s2, t3, w3, t4, w4, h3, h4, _, _⟩ := AM.bind_ok h2
      obtain ⟨rfl, rfl⟩ := AM.pure_ok h4
      obtain ⟨rfl, hv1⟩ := lendV_ok (ids := ids) c hsr (hv 0 c v rfl rfl) (fun k hk => hi k (by simp [PVal.ids.idsL, hk])) h1
      obtain ⟨rfl, hl2, hv2⟩ := lendL_ok (ids := ids) cs hsr (vs := vs) (by simpa using hl) (fun i c v hi hvi => hv (i + 1) c v (by simpa using hi) (by simpa using hvi)) (fun k hk => hi k (by simp [PVal.ids.idsL, hk])) h3
      refine ⟨rfl, by simp [hl2], fun i d u hi hu => ?_⟩
      cases i with
      | zero => simp at hi hu; subst hi; subst hu; exact hv1
      | succ i => exact hv2 i d u (by simpa using hi) (by simpa using hu)
end
theorem lendA_ok {K : Nat → Prop} {lent ids : List Nat} : ∀ (as : List PVal) (i : Nat) {Γ : Ctx} {st st' : Store} {as' : List PVal} {vs : List Value} {T W : List Nat}, SR K Γ st → ListVR Γ as vs → (∀ k, k ∈ lentIds lent i as → k ∈ ids) → (lendA lent i as).run st = .ok (as', st', T, W) →
    st' = st ∧ ListVR (Γ.lend st ids) as' vs
  | [], i, Γ, st, st', as', vs, T, W, hsr, hv, hi, h => by
    simp only [lendA] at h
    obtain ⟨rfl, rfl⟩ := AM.pure_ok h
    refine ⟨rfl, ?_⟩
    have : vs = [] := List.eq_nil_of_length_eq_zero hv.1.symm
    subst this
    exact ListVR.nil _
  | a :: as, i, Γ, st, st', as', [], T, W, hsr, hv, hi, h => by have := hv.1; simp at this
  | a :: as, i, Γ, st, st', as', v :: vs, T, W, hsr, hv, hi, h => by
    obtain ⟨ha, ht⟩ := hv.inv
    simp only [lendA] at h
    obtain ⟨a', s1, t1, w1, t2, w2, h1, h2, _, _⟩ := AM.bind_ok h
    have key : s1 = st ∧ VR (Γ.lend st ids) a' v := by
      rcases AM.bif_ok h1 with ⟨hl, h3⟩ | ⟨_, h3⟩
      · exact lendV_ok a hsr ha (fun k hk => hi k (by rw [lentIds, hl]; exact List.mem_append_left _ hk)) h3
      · obtain ⟨rfl, rfl⟩ := AM.pure_ok h3; exact ⟨rfl, ha.lend⟩
    obtain ⟨rfl, ha'⟩ := key
    obtain ⟨r, s2, t3, w3, t4, w4, h3, h4, _, _⟩ := AM.bind_ok h2
    obtain ⟨rfl, rfl⟩ := AM.pure_ok h4
    obtain ⟨rfl, hr⟩ := lendA_ok (ids := ids) as (i + 1) hsr ht (fun k hk => hi k (by rw [lentIds]; exact List.mem_append_right _ hk)) h3
    exact ⟨rfl, .cons ha' hr⟩

theorem idsOf_append (l r : List (Nat × AObj)) : idsOf (l ++ r) = idsOf l ++ idsOf r := by
  induction l with
  | nil => rfl
  | cons p l ih => obtain ⟨i, o⟩ := p; simp [idsOf, ih]
theorem idsOf_map (l : List (Nat × AObj)) : idsOf l = l.map (·.1) := by
  induction l with
  | nil => rfl
  | cons p l ih => obtain ⟨i, o⟩ := p; simp [idsOf, ih]
theorem mem_idsOf {l : List (Nat × AObj)} {id : Nat} : id ∈ idsOf l ↔ ∃ o, (id, o) ∈ l := by
  rw [idsOf_map]; simp
/-- what was reached is closed -/
structure Reached (st : Store) (rs : List (Nat × AObj)) (ids : List Nat) : Prop where
  obj : ∀ id o, (id, o) ∈ rs → o = st id ∧ o ≠ .none
  nodup : (idsOf rs).Nodup
  root : ∀ id, id ∈ ids → id ∈ idsOf rs
  closed : ∀ id o, (id, o) ∈ rs → ∀ k, k ∈ o.ids → k ∈ idsOf rs
theorem reachA_ok : ∀ (n : Nat) (ids : List Nat) (acc rs : List (Nat × AObj)) (st st' : Store) (T W : List Nat), (reachA n ids acc).run st = .ok (rs, st', T, W) →
    (∀ id o, (id, o) ∈ acc → o = st id ∧ o ≠ .none) → (idsOf acc).Nodup → (∀ id o, (id, o) ∈ acc → ∀ k, k ∈ o.ids → k ∈ idsOf acc ∨ k ∈ ids) →
    st' = st ∧ Reached st rs ids ∧ ∀ id, id ∈ idsOf acc → id ∈ idsOf rs := by
  intro n
  induction n with
  | zero =>
    intro ids acc rs st st' T W h h1 h2 h3
    cases ids with
    | nil =>
      simp only [reachA] at h
      obtain ⟨rfl, rfl⟩ := AM.pure_ok h
      exact ⟨rfl, ⟨h1, h2, by simp, fun id o hm k hk => (h3 id o hm k hk).resolve_right (by simp)⟩, fun _ h => h⟩
    | cons id r => exact (AM.fail_ok h).elim
  | succ n ih =>
    intro ids acc rs st st' T W h h1 h2 h3
    cases ids with
    | nil =>
      simp only [reachA] at h
      obtain ⟨rfl, rfl⟩ := AM.pure_ok h
      exact ⟨rfl, ⟨h1, h2, by simp, fun id o hm k hk => (h3 id o hm k hk).resolve_right (by simp)⟩, fun _ h => h⟩
    | cons id r =>
      simp only [reachA] at h
      rcases AM.bif_ok h with ⟨hany, h4⟩ | ⟨hany, h4⟩
      · have hid : id ∈ idsOf acc := by
          rw [List.any_eq_true] at hany
          obtain ⟨p, hp, he⟩ := hany
          have := Nat.eq_of_beq_eq_true he
          subst this
          exact mem_idsOf.2 ⟨p.2, hp⟩
        obtain ⟨hst, hr, hm⟩ := ih r acc rs st st' T W h4 h1 h2 (fun i o hmm k hk => (h3 i o hmm k hk).elim .inl (fun hk => by
          rcases List.mem_cons.1 hk with rfl | hk
          · exact .inl hid
          · exact .inr hk))
        exact ⟨hst, ⟨hr.obj, hr.nodup, fun i hi => (List.mem_cons.1 hi).elim (fun e => by subst e; exact hm _ hid) (hr.root i), hr.closed⟩, hm⟩
      · obtain ⟨t', h5⟩ := AM.get_ok h4
        have hnid : id ∉ idsOf acc := fun hm => by
          obtain ⟨o, ho⟩ := mem_idsOf.1 hm
          have : (acc.any fun p => Nat.beq p.1 id) = true := List.any_eq_true.2 ⟨(id, o), ho, Nat.beq_refl id⟩
          rw [this] at hany
          cases hany
        have key : st id ≠ .none ∧ (reachA n ((st id).ids ++ r) (acc ++ [(id, st id)])).run st = .ok (rs, st', t', W) := by
          split at h5
          · exact (AM.fail_ok h5).elim
          · rename_i hne
            exact ⟨fun e => hne e, h5⟩
        obtain ⟨hst, hr, hm⟩ := ih _ _ rs st st' _ _ key.2 (fun i o hmm => by
            rcases List.mem_append.1 hmm with hmm | hmm
            · exact h1 i o hmm
            · simp at hmm
              obtain ⟨rfl, rfl⟩ := hmm
              exact ⟨rfl, key.1⟩) (by
            rw [idsOf_append]
            refine List.nodup_append.2 ⟨h2, by simp [idsOf], fun a ha b hb => ?_⟩
            simp [idsOf] at hb
            subst hb
            exact fun e => hnid (e ▸ ha)) (fun i o hmm k hk => by
            rw [idsOf_append]
            rcases List.mem_append.1 hmm with hmm | hmm
            · rcases h3 i o hmm k hk with hk | hk
              · exact .inl (List.mem_append_left _ hk)
              · rcases List.mem_cons.1 hk with rfl | hk
                · exact .inl (List.mem_append_right _ (by simp [idsOf]))
                · exact .inr (List.mem_append_right _ hk)
            · simp at hmm
              obtain ⟨rfl, rfl⟩ := hmm
              exact .inr (List.mem_append_left _ hk))
        refine ⟨hst, ⟨hr.obj, hr.nodup, fun i hi => ?_, hr.closed⟩, fun i hi => hm i (by rw [idsOf_append]; exact List.mem_append_left _ hi)⟩
        rcases List.mem_cons.1 hi with rfl | hi
        · exact hm _ (by rw [idsOf_append]; exact List.mem_append_right _ (by simp [idsOf]))
        · exact hr.root i (List.mem_append_right _ hi)
theorem indexIn_spec : ∀ (l : List Nat) (k n i : Nat), indexIn l k n = some i → n ≤ i ∧ l[i - n]? = some k
  | [], k, n, i, h => by cases h
  | x :: xs, k, n, i, h => by
    simp only [indexIn] at h
    rcases bif_ok h with ⟨hb, h1⟩ | ⟨_, h1⟩
    · have := Nat.eq_of_beq_eq_true hb
      subst this
      obtain rfl := Option.some.inj h1
      simp
    · obtain ⟨h2, h3⟩ := indexIn_spec xs k (n + 1) i h1
      refine ⟨by omega, ?_⟩
      rw [show i - n = (i - (n + 1)) + 1 by omega, List.getElem?_cons_succ]
      exact h3
theorem indexIn_mem : ∀ (l : List Nat) (k n : Nat), k ∈ l → ∃ i, indexIn l k n = some i
  | [], k, n, h => by simp at h
  | x :: xs, k, n, h => by
    simp only [indexIn]
    cases hb : Nat.beq x k with
    | true => exact ⟨n, rfl⟩
    | false =>
      have : k ∈ xs := by
        rcases List.mem_cons.1 h with rfl | h
        · rw [Nat.beq_refl] at hb; cases hb
        · exact h
      exact indexIn_mem xs k (n + 1) this
theorem renOf_mem {ids : List Nat} {k : Nat} (fl : Nat) (h : k ∈ ids) : ∃ i, renOf ids fl k = fl + i ∧ ids[i]? = some k := by
  obtain ⟨i, hi⟩ := indexIn_mem ids k 0 h
  refine ⟨i, by simp [renOf, hi], ?_⟩
  have := (indexIn_spec ids k 0 i hi).2
  simpa using this
theorem backOf_renOf {ids : List Nat} {k m n0 : Nat} (h : k ∈ ids) : backOf ids m n0 (renOf ids 0 k) = k := by
  obtain ⟨i, h1, h2⟩ := renOf_mem 0 h
  rw [h1, Nat.zero_add]
  simp [backOf, h2]
end Go.Pvm
namespace Go.Pvm
open Go.RowKit

/-- A function, called with these, answers with those. -/
def CallOK (E : Env) (f : Nat) (args : List PVal) (objs : List AObj) (v : PVal) (os : List AObj) : Prop :=
  ∀ (Γ : Ctx) (M : Nat → Prop) (vals : List Value), ListVR Γ args vals → SR M Γ (storeOf objs) → (∀ id, objs.length ≤ id → Γ.φ id = none) → GlobOK E Γ →
    Calls E.P f vals.toArray Γ.w fun r w' => match r with
      | .returned u => ∃ Γ' : Ctx, Γ'.w = w' ∧ Γ.le Γ' ∧ VR Γ' v u ∧ SR (KK Γ.w M) Γ' (storeOf os) ∧ Keep Γ.w M w' ∧ (∀ id, os.length ≤ id → Γ'.φ id = none) ∧ ∀ b, Γ'.Z b → Γ.Z b ∨ KK Γ.w M b
      | _ => False
/-- What is asked of an environment. -/
structure EnvOK (E : Env) : Prop where
  look : ∀ f fn, E.look f = some fn → E.P.funcs[f]? = some fn
  name : ∀ f fn, E.look f = some fn → (fn.name == "runtime.NumGoroutine") = false
  globClean : ∀ g x, E.glob g = some x → PVal.clean1.cleanX x = true
  spec : ∀ f g, E.spec f = some g → ∀ args objs, (g args objs).pre → CallOK E f args objs (g args objs).val (g args objs).objs
  run : ∀ f g, E.run f = some g → ∀ args objs v os, g args objs = .ok (v, os) → CallOK E f args objs v os

theorem GlobOK.rename {E : Env} (hE : EnvOK E) {Γ Γ' : Ctx} {ρ : Nat → Nat} {b : Bool} (hr : RenOK Γ Γ' ρ b) (h : GlobOK E Γ) : GlobOK E Γ' := fun g x hx => by
  obtain ⟨h1, h2, h3⟩ := cleanX_facts x (hE.globClean g x hx)
  exact VR.rename_clean hr (h g x hx) ⟨by simpa [PVal.ids] using h1, by simp [PVal.noBor, h2], fun ρ => by simp [PVal.ren, h3 ρ]⟩
theorem GlobOK.mono {E : Env} {Γ Γ' : Ctx} (hle : Γ.le Γ') (h : GlobOK E Γ) : GlobOK E Γ' := fun g x hx => (h g x hx).mono hle

theorem putBack_ok {σ : Nat → Nat} : ∀ (os : List AObj) (k0 : Nat) (st st' : Store) (u : Unit) (T W : List Nat), (putBack σ k0 os).run st = .ok (u, st', T, W) →
    ∀ j, (∃ i o, os[i]? = some o ∧ σ (k0 + i) = j ∧ st' j = o.ren σ) ∨ ((∀ i, i < os.length → σ (k0 + i) ≠ j) ∧ st' j = st j)
  | [], k0, st, st', u, T, W, h, j => by
    simp only [putBack] at h
    obtain ⟨_, rfl⟩ := AM.pure_ok h
    exact .inr ⟨fun i hi => by simp at hi, rfl⟩
  | o :: r, k0, st, st', u, T, W, h, j => by
    simp only [putBack] at h
    obtain ⟨w', h1⟩ := AM.put_ok h
    rcases putBack_ok r (k0 + 1) _ st' u _ _ h1 j with ⟨i, o', h2, h3, h4⟩ | ⟨h2, h3⟩
    · exact .inl ⟨i + 1, o', by simpa using h2, by rw [← h3]; congr 1; omega, h4⟩
    · by_cases e : j = σ k0
      · subst e
        rw [upd_same] at h3
        exact .inl ⟨0, o, rfl, rfl, h3⟩
      · rw [upd_ne _ _ e] at h3
        refine .inr ⟨fun i hi => ?_, h3⟩
        cases i with
        | zero => exact fun e' => e e'.symm
        | succ i => have := h2 i (by simpa using hi); rwa [show k0 + 1 + i = k0 + (i + 1) by omega] at this
theorem objsNoBor_get {os : List AObj} (h : objsNoBor os = true) {i : Nat} {o : AObj} (hi : os[i]? = some o) : o.noBor = true := by
  induction os generalizing i with
  | nil => simp at hi
  | cons a r ih =>
    simp only [objsNoBor, Bool.and_eq_true] at h
    cases i with
    | zero => simp at hi; subst hi; exact h.1
    | succ i => exact ih h.2 (by simpa using hi)
theorem objφ {Γ : Ctx} {id : Nat} {o : AObj} (h : ObjOK Γ id o) (hne : o ≠ .none) : ∃ u, Γ.φ id = some u := by
  cases o with
  | none => exact absurd rfl hne
  | row bx e sz xs => obtain ⟨v, vs, hv, _⟩ := h; exact ⟨v, hv⟩
  | frz bx sz xs => obtain ⟨a, cap, hv, _⟩ := h; exact ⟨_, hv⟩
  | mp es => obtain ⟨r, _, _, hv, _⟩ := h; exact ⟨_, hv⟩
theorem live_ren (ρ : Nat → Nat) (o : AObj) : (o.ren ρ).live = o.live := by cases o with
  | row bx e sz xs => cases bx <;> rfl
  | frz bx sz xs => cases bx <;> rfl
  | _ => rfl
theorem live_ne {o : AObj} (h : o.live = true) : o ≠ .none := fun e => by subst e; cases h
theorem storeOf_some {os : List AObj} {k : Nat} {o : AObj} (h : os[k]? = some o) : storeOf os k = o := by simp [storeOf, h]
theorem storeOf_none {os : List AObj} {k : Nat} (h : os[k]? = none) : storeOf os k = .none := by simp [storeOf, h]
theorem storeOf_live {os : List AObj} {k : Nat} (h : (storeOf os k).live = true) : ∃ o, os[k]? = some o ∧ storeOf os k = o := by
  cases ho : os[k]? with
  | none => rw [storeOf_none ho] at h; cases h
  | some o => exact ⟨o, rfl, storeOf_some ho⟩

theorem callR_ok {E : Env} (hE : EnvOK E) {call : CallF} (hcall : ∀ f args objs v os, call f args objs = .ok (v, os) → CallOK E f args objs v os) (f : Nat) (args : List PVal) (objs : List AObj) (v : PVal) (os : List AObj) (h : callR E call f args objs = .ok (v, os)) : CallOK E f args objs v os := by
  unfold callR at h
  cases hr : E.run f with
  | some g => rw [hr] at h; exact hE.run f g hr args objs v os h
  | none => rw [hr] at h; exact hcall f args objs v os h
theorem callS_ok {E : Env} (hE : EnvOK E) {call : CallF} (hcall : ∀ f args objs v os, call f args objs = .ok (v, os) → CallOK E f args objs v os)
    {w0 : World} {M : Nat → Prop} {n0 f : Nat} {Γ : Ctx} {st st' : Store} {args : List PVal} {vals : List Value} {v : PVal} {T W : List Nat} (hsr : SR (KK w0 M) Γ st) (hk : Keep w0 M Γ.w) (hg : GlobOK E Γ)
    (hf : ∀ id, n0 ≤ id → id < n0 + 16 → Γ.φ id = none) (ha : ListVR Γ args vals) (h : callS E call n0 f args st = .ok (v, st', T, W)) :
    Calls E.P f vals.toArray Γ.w fun r w' => match r with
      | .returned u => ∃ Γ' : Ctx, Γ'.w = w' ∧ Out w0 M n0 Γ Γ' st' ∧ VR Γ' v u
      | _ => False := by
  unfold callS at h
  cases hp : (prepA E f args).run st with
  | no w => rw [hp] at h; cases h
  | ok p =>
    obtain ⟨⟨as, rs⟩, st1, t1, w1⟩ := p
    rw [hp] at h
    simp only [] at h
    -- what was handed over
    unfold prepA at hp
    obtain ⟨as1, sa, ta, wa, tb, wb, hA, hp, _, _⟩ := AM.bind_ok hp
    obtain ⟨as2, sb, tc, wc, td, wd, hL, hp, _, _⟩ := AM.bind_ok hp
    obtain ⟨rs', sc, te, we, tf, wf, hR, hp, _, _⟩ := AM.bind_ok hp
    rcases AM.bif_ok hp with ⟨hchk, hp⟩ | ⟨_, hp⟩
    case inr => exact (AM.fail_ok hp).elim
    obtain ⟨e1, e2⟩ := AM.pure_ok hp
    injection e1 with e1 e3
    subst e1; subst e2; subst e3
    obtain ⟨Γ1, hfz, hA1⟩ := argsA_ok args 0 hsr ha hA
    obtain ⟨rfl, hL1⟩ := lendA_ok (ids := lentIds (E.h.lent f) 0 as1) as1 0 hfz.sr hA1 (fun _ h => h) hL
    obtain ⟨rfl, hrd, _⟩ := reachA_ok 64 _ [] rs _ _ _ _ hR (by simp) (by simp [idsOf]) (by simp)
    generalize hlids : lentIds (E.h.lent f) 0 as1 = lids at *
    generalize hids : idsOf rs = ids at *
    have hsr1 := hfz.sr
    have hmem : ∀ id, id ∈ ids → ∃ o, (id, o) ∈ rs := fun id h => by rw [← hids] at h; exact mem_idsOf.1 h
    have hget : ∀ k id, ids[k]? = some id → ∃ o, rs[k]? = some (id, o) ∧ o = st1 id ∧ o ≠ .none := fun k id h => by
      rw [← hids, idsOf_map, List.getElem?_map, Option.map_eq_some_iff] at h
      obtain ⟨⟨i, o⟩, h1, h2⟩ := h
      simp at h2
      subst h2
      exact ⟨o, h1, hrd.obj _ o (mem_of_get h1)⟩
    have hlent : ∀ id, id ∈ lids → id ∉ ids := fun id h1 h2 => by
      rw [List.all_eq_true] at hchk
      have := hchk id h1
      simp at this
      exact this h2
    have hinj : ∀ (k k' id : Nat), ids[k]? = some id → ids[k']? = some id → k = k' := fun k k' id h1 h2 => by
      have hn := hrd.nodup
      rw [hids] at hn
      obtain ⟨l1, e1⟩ := List.getElem?_eq_some_iff.1 h1
      obtain ⟨l2, e2⟩ := List.getElem?_eq_some_iff.1 h2
      exact (List.getElem_inj hn).1 (e1.trans e2.symm)
    -- the callee's context
    let Mc : Nat → Prop := fun b => ∃ id v, id ∈ ids ∧ (st1 id).live = true ∧ Γ1.φ id = some v ∧ blk v = some b
    let Γc : Ctx := { w := Γ1.w, φ := fun k => (ids[k]?).bind Γ1.φ, Z := Γ1.Z, B := (Γ1.lend st1 lids).B }
    have hφc : ∀ k id, ids[k]? = some id → Γc.φ k = Γ1.φ id := fun k id h => by show (ids[k]?).bind Γ1.φ = _; rw [h]; rfl
    have hren1 : RenOK (Γ1.lend st1 lids) Γc (renOf ids 0) false := ⟨rfl, fun _ h => h, fun _ _ h => h⟩
    have hren2 : RenOK Γ1 Γc (renOf ids 0) false := ⟨rfl, fun _ h => h, fun _ _ h => .inl h⟩
    have hρ : ∀ id, id ∈ ids → Γc.φ (renOf ids 0 id) = Γ1.φ id := fun id h => by
      obtain ⟨i, h1, h2⟩ := renOf_mem 0 h
      rw [h1, Nat.zero_add]
      exact hφc i id h2
    have hargs : ListVR Γc (PVal.ren.renL (renOf ids 0) as) vals := hL1.rename hren1 (fun e => by cases e) (fun id u hid hu => by
      rw [hρ id (by rw [← hids]; exact hrd.root id hid)]; exact hu)
    have hobjs : ∀ k id, ids[k]? = some id → (rs.map fun p => p.2.ren (renOf ids 0))[k]? = some ((st1 id).ren (renOf ids 0)) := fun k id h => by
      obtain ⟨o, h1, h2, _⟩ := hget k id h
      rw [List.getElem?_map, h1, h2]; rfl
    have hlenr : rs.length = ids.length := by rw [← hids, idsOf_map, List.length_map]
    have hobjsN : ∀ k, ids[k]? = none → (rs.map fun p => p.2.ren (renOf ids 0))[k]? = none := fun k h => by
      rw [List.getElem?_eq_none_iff] at h ⊢
      rw [List.length_map, hlenr]; exact h
    have hcase : ∀ k, (storeOf (rs.map fun p => p.2.ren (renOf ids 0)) k).live = true → ∃ id, ids[k]? = some id ∧ (st1 id).live = true ∧ id ∈ ids := fun k hl => by
      cases hk' : ids[k]? with
      | none => rw [storeOf_none (hobjsN k hk')] at hl; cases hl
      | some id => rw [storeOf_some (hobjs k id hk'), live_ren] at hl; exact ⟨id, rfl, hl, mem_of_get hk'⟩
    have hsrc : SR Mc Γc (storeOf (rs.map fun p => p.2.ren (renOf ids 0))) := by
      refine ⟨fun k => ?_, fun k v b hl hv hb => ?_, fun k k' v v' b hl hl' hv hv' hb hb' => ?_, fun b hb => ?_⟩
      · cases hk' : ids[k]? with
        | none => rw [storeOf_none (hobjsN k hk')]; trivial
        | some id =>
          rw [storeOf_some (hobjs k id hk')]
          obtain ⟨o, h1, h2, _⟩ := hget k id hk'
          refine ObjOK.rename hren2 (hsr1.obj id) (fun u hu => by rw [hφc k id hk']; exact hu) (fun e => by cases e) (fun i u hi hu => ?_)
          rw [hρ i (by rw [← hids]; exact hrd.closed id o (mem_of_get h1) i (by rw [h2]; exact hi))]
          exact hu
      · obtain ⟨id, hk', hl1, hm⟩ := hcase k hl
        rw [hφc k id hk'] at hv
        have ho := hsr1.own id v b hl1 hv hb
        refine ⟨⟨id, v, hm, hl1, hv, hb⟩, ho.2.1, fun hB => ?_⟩
        rcases hB with hB | ⟨id', v', h1, h2, h3, h4⟩
        · exact ho.2.2 hB
        · have := hsr1.disj id' id v' v b h2 hl1 h3 hv h4 hb
          subst this
          exact hlent id' h1 hm
      · obtain ⟨id, hk1, hl1, hm⟩ := hcase k hl
        obtain ⟨id', hk2, hl2, hm'⟩ := hcase k' hl'
        rw [hφc k id hk1] at hv
        rw [hφc k' id' hk2] at hv'
        have := hsr1.disj id id' v v' b hl1 hl2 hv hv' hb hb'
        subst this
        exact hinj k k' id hk1 hk2
      · rcases hb with hb | hb | ⟨id', v', h1, h2, h3, h4⟩
        · exact hsr1.zlt b (.inl hb)
        · exact hsr1.zlt b (.inr hb)
        · exact live_lt hsr1 h2 h3 h4
    have hlimit : ∀ id, (rs.map fun p => p.2.ren (renOf ids 0)).length ≤ id → Γc.φ id = none := fun id h => by
      rw [List.length_map, hlenr] at h
      show (ids[id]?).bind Γ1.φ = none
      rw [List.getElem?_eq_none h]; rfl
    have hgc : GlobOK E Γc := (hg.mono hfz.le).rename hE hren2
    -- the callee's answer
    have hMc : ∀ b, Mc b → KK w0 M b := fun b ⟨id, v, _, h2, h3, h4⟩ => (hsr1.own id v b h2 h3 h4).1
    have fin : ∀ (v0 : PVal) (os : List AObj), CallOK E f (PVal.ren.renL (renOf ids 0) as) (rs.map fun p => p.2.ren (renOf ids 0)) v0 os →
        (∃ t2 w2, (finA n0 ids v0 os).run st1 = .ok (v, st', t2, w2)) → Calls E.P f vals.toArray Γ.w fun r w' => match r with
          | .returned u => ∃ Γ' : Ctx, Γ'.w = w' ∧ Out w0 M n0 Γ Γ' st' ∧ VR Γ' v u
          | _ => False := by
      intro v0 os hc ⟨t2, w2, hfin⟩
      unfold finA at hfin
      dsimp only at hfin
      rcases AM.bif_ok hfin with ⟨hb, hfin⟩ | ⟨_, hfin⟩
      case inr => exact (AM.fail_ok hfin).elim
      simp only [Bool.and_eq_true] at hb
      obtain ⟨⟨⟨hb1, hb2⟩, hb3⟩, hb4⟩ := hb
      have hb1 := Nat.le_of_ble_eq_true hb1
      have hb2 := Nat.le_of_ble_eq_true hb2
      obtain ⟨_, st2, t3, w3, t4, w4, hput, hfin, _, _⟩ := AM.bind_ok hfin
      obtain ⟨rfl, rfl⟩ := AM.pure_ok hfin
      generalize hσe : backOf ids ids.length n0 = σ at *
      have hσ1 : ∀ k id, ids[k]? = some id → σ k = id := fun k id h => by rw [← hσe]; simp [backOf, h]
      have hσ2 : ∀ k, ids.length ≤ k → σ k = n0 + (k - ids.length) := fun k h => by rw [← hσe]; simp [backOf, List.getElem?_eq_none h]
      have hst2 := putBack_ok os 0 st1 st' _ _ _ hput
      simp only [Nat.zero_add] at hst2
      have hres := hc Γc Mc vals hargs hsrc hlimit hgc
      have hcw : Γc.w = Γ.w := hfz.w
      rw [hcw] at hres
      refine hres.mono fun r w' hr => ?_
      cases r with
      | returned u =>
        obtain ⟨Γr, hrw, hler, hvr, hsrr, hkr, hlr, hzr⟩ := hr
        subst hrw
        have hφ1 : ∀ k id, ids[k]? = some id → ∃ u, Γ1.φ id = some u ∧ Γr.φ k = some u := fun k id h => by
          obtain ⟨o, _, h2, h3⟩ := hget k id h
          have hob := hsr1.obj id
          obtain ⟨u, hu⟩ := objφ (o := st1 id) hob (h2 ▸ h3)
          exact ⟨u, hu, hler.φ k u (by rw [hφc k id h]; exact hu)⟩
        let Γ2 : Ctx := { w := Γr.w, φ := fun k => match Γ1.φ k with | some v => some v | none => if n0 ≤ k ∧ k < n0 + 16 then Γr.φ (ids.length + (k - n0)) else none, Z := Γr.Z, B := Γ1.B }
        have hφ2 : ∀ k v, Γ1.φ k = some v → Γ2.φ k = some v := fun k v h => by show (match Γ1.φ k with | some v => some v | none => _) = _; rw [h]
        have hφ3 : ∀ k, Γ1.φ k = none → Γ2.φ k = if n0 ≤ k ∧ k < n0 + 16 then Γr.φ (ids.length + (k - n0)) else none := fun k h => by show (match Γ1.φ k with | some v => some v | none => _) = _; rw [h]
        have hσφ : ∀ k u, Γr.φ k = some u → Γ2.φ (σ k) = some u := fun k u h => by
          rcases Nat.lt_or_ge k ids.length with hlt | hge
          · obtain ⟨u', h1, h2⟩ := hφ1 k _ (List.getElem?_eq_getElem hlt)
            rw [hσ1 k _ (List.getElem?_eq_getElem hlt)]
            rw [h2] at h
            obtain rfl := Option.some.inj h
            exact hφ2 _ _ h1
          · rw [hσ2 k hge]
            have hlt : k < os.length := by
              rcases Nat.lt_or_ge k os.length with h' | h'
              · exact h'
              · rw [hlr k h'] at h; cases h
            rw [hφ3 _ (by rw [hfz.φ]; exact hf _ (by omega) (by omega)), if_pos (by omega), show ids.length + (n0 + (k - ids.length) - n0) = k by omega]
            exact h
        have hren3 : RenOK Γr Γ2 σ true := ⟨rfl, fun _ h => h, fun e => by cases e⟩
        have hsz : Γ.w.heap.size = Γ1.w.heap.size := by rw [hfz.w]
        have hMcl : ∀ j v k, (st1 j).live = true → Γ1.φ j = some v → blk v = some k → (∀ i, i < os.length → σ i ≠ j) → ¬ KK Γ.w Mc k := fun j v k hl hv hb hni hkk => by
          rcases hkk with ⟨id, v', h1, h2, h3, h4⟩ | hge
          · have := hsr1.disj id j v' v k h2 hl h3 hv h4 hb
            subst this
            obtain ⟨i, _, hi⟩ := renOf_mem 0 h1
            have hil := (List.getElem?_eq_some_iff.1 hi).1
            exact hni i (by omega) (hσ1 i id hi)
          · have := live_lt hsr1 hl hv hb; omega
        have hle2 : Γ1.le Γ2 := ⟨fun b hb => hler.Z b hb, fun _ => Iff.rfl, fun b hb => hler.blk b (hb.imp (fun h => h) .inl), hφ2⟩
        -- an object behind the call
        have hA : ∀ (i : Nat) (o : AObj) (v : Value), os[i]? = some o → o.live = true → Γ2.φ (σ i) = some v → (storeOf os i).live = true ∧ Γr.φ i = some v := fun i o v ho hl hv => by
          have hso := storeOf_some ho
          have hob := hsrr.obj i
          rw [hso] at hob
          obtain ⟨u', hu'⟩ := objφ hob (live_ne hl)
          have := hσφ i u' hu'
          rw [hv] at this
          obtain rfl := Option.some.inj this
          exact ⟨by rw [hso]; exact hl, hu'⟩
        have hB : ∀ j v, (st1 j).live = true → Γ2.φ j = some v → Γ1.φ j = some v := fun j v hl hv => by
          obtain ⟨u', hu'⟩ := objφ (hsr1.obj j) (live_ne hl)
          have := hφ2 j u' hu'
          rw [hv] at this
          obtain rfl := Option.some.inj this
          exact hu'
        have hsr2 : SR (KK w0 M) Γ2 st' := by
          refine ⟨fun j => ?_, fun j v k hl hv hb => ?_, fun j j' v v' k hl hl' hv hv' hb hb' => ?_, fun b hb => ?_⟩
          · rcases hst2 j with ⟨i, o, h1, rfl, h3⟩ | ⟨h1, h2⟩
            · rw [h3]
              have hob := hsrr.obj i
              rw [storeOf_some h1] at hob
              exact ObjOK.rename hren3 hob (hσφ i) (fun _ => objsNoBor_get hb4 h1) (fun k u _ hu => hσφ k u hu)
            · rw [h2]
              refine (hsr1.obj j).keep hle2 fun v k hl hv hb => ?_
              show Γr.w.heap[k]? = Γ1.w.heap[k]?
              have := hkr.block k (by rw [hsz]; exact live_lt hsr1 hl hv hb) (fun hm => hMcl j v k hl hv hb h1 (.inl hm))
              rw [this, hfz.w]
          · rcases hst2 j with ⟨i, o, h1, rfl, h3⟩ | ⟨h1, h2⟩
            · rw [h3, live_ren] at hl
              obtain ⟨h4, h5⟩ := hA i o v h1 hl hv
              have ho := hsrr.own i v k h4 h5 hb
              refine ⟨ho.1.elim (hMc k) fun h => .inr (Nat.le_trans hk.size h), ho.2.1, fun hB' => ho.2.2 ((hler.B k).2 (.inl hB'))⟩
            · rw [h2] at hl
              have hv1 := hB j v hl hv
              have ho := hsr1.own j v k hl hv1 hb
              refine ⟨ho.1, fun hz => ?_, ho.2.2⟩
              rcases hzr k hz with hz | hz
              · exact ho.2.1 hz
              · exact hMcl j v k hl hv1 hb h1 (hz)
          · rcases hst2 j with ⟨i, o, h1, rfl, h3⟩ | ⟨h1, h2⟩
            · rw [h3, live_ren] at hl
              obtain ⟨h4, h5⟩ := hA i o v h1 hl hv
              rcases hst2 j' with ⟨i', o', h1', rfl, h3'⟩ | ⟨h1', h2'⟩
              · rw [h3', live_ren] at hl'
                obtain ⟨h4', h5'⟩ := hA i' o' v' h1' hl' hv'
                rw [hsrr.disj i i' v v' k h4 h4' h5 h5' hb hb']
              · rw [h2'] at hl'
                have ho := hsrr.own i v k h4 h5 hb
                exact absurd (ho.1) (hMcl j' v' k hl' (hB j' v' hl' hv') hb' h1')
            · rw [h2] at hl
              rcases hst2 j' with ⟨i', o', h1', rfl, h3'⟩ | ⟨h1', h2'⟩
              · rw [h3', live_ren] at hl'
                obtain ⟨h4', h5'⟩ := hA i' o' v' h1' hl' hv'
                have ho := hsrr.own i' v' k h4' h5' hb'
                exact absurd (ho.1) (hMcl j v k hl (hB j v hl hv) hb h1)
              · rw [h2'] at hl'
                exact hsr1.disj j j' v v' k hl hl' (hB j v hl hv) (hB j' v' hl' hv') hb hb'
          · exact hsrr.zlt b (hb.imp (fun h => h) fun h => (hler.B b).2 (.inl h))
        refine ⟨Γ2, rfl, ⟨hfz.le.trans hle2, hsr2, ⟨hkr.os.trans hk.os, hkr.tape.trans hk.tape, hkr.output.trans hk.output, Nat.le_trans hk.size hkr.size, fun b hb hm => ?_⟩, fun id hid hn => ?_, fun b hb => ?_⟩, ?_⟩
        · exact (hkr.block b (Nat.lt_of_lt_of_le hb hk.size) (fun hmc => (hMc b hmc).elim hm (fun h => by omega))).trans (hk.block b hb hm)
        · rw [hφ3 id (by rw [hfz.φ]; exact hn), if_neg (by omega)]
        · rcases hzr b hb with hb | hb | hb
          · exact hfz.zz b hb
          · exact .inr (hMc b hb)
          · exact .inr (.inr (Nat.le_trans hk.size hb))
        · exact VR.rename hren3 hvr (fun _ => hb3) (fun id u _ hu => hσφ id u hu)
      | panicked c => exact hr
      | outgrown => exact hr
    split at h
    · rename_i g hspec
      split at h
      · rename_i hpre
        refine fin _ _ (hE.spec f g hspec _ _ hpre) ?_
        cases hfin : (finA n0 ids (g (PVal.ren.renL (renOf ids 0) as) (rs.map fun p => p.2.ren (renOf ids 0))).val (g (PVal.ren.renL (renOf ids 0) as) (rs.map fun p => p.2.ren (renOf ids 0))).objs).run st1 with
        | no w => rw [hfin] at h; cases h
        | ok q =>
          obtain ⟨a, b, c, d⟩ := q
          rw [hfin] at h
          simp only [R.ok.injEq, Prod.mk.injEq] at h
          obtain ⟨rfl, rfl, _, _⟩ := h
          exact ⟨c, d, rfl⟩
      · cases h
    · split at h
      · cases h
      · rename_i v0 os hcv
        refine fin _ _ (callR_ok hE hcall f _ _ v0 os hcv) ?_
        cases hfin : (finA n0 ids v0 os).run st1 with
        | no w => rw [hfin] at h; cases h
        | ok q =>
          obtain ⟨a, b, c, d⟩ := q
          rw [hfin] at h
          simp only [R.ok.injEq, Prod.mk.injEq] at h
          obtain ⟨rfl, rfl, _, _⟩ := h
          exact ⟨c, d, rfl⟩
end Go.Pvm
