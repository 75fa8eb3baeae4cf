/- RetimePeriods (second form, tied card): the law answers true at every netlist and list of delays whose reading is of bulk at most 1048576, and the input reads as it did; no further condition. This text: part Ac (S19 S20 S21 S22 S23 S24 S25 S26 S27 S28). -/
import Derived.Test.YtkajgpdokbinlaaGreatDoorAb
import Derived.LoopN
set_option linter.unusedVariables false
set_option linter.unusedSimpArgs false
set_option linter.unnecessarySimpa false
namespace Go.Pvm
open Go.RowKit

abbrev Res (α : Type) := R (α × Store × List Nat × List Nat)
/-- what is read and written is all that matters -/
def Local {α : Type} (F : Store → Res α) : Prop := ∀ (st : Store) (a : α) (st' : Store) (t w : List Nat), F st = .ok (a, st', t, w) →
  (∀ id, id ∉ w → st' id = st id) ∧ ∀ st2 : Store, (∀ id, id ∈ t → st2 id = st id) → ∃ st2', F st2 = .ok (a, st2', t, w) ∧ (∀ id, id ∈ w → st2' id = st' id) ∧ (∀ id, id ∉ w → st2' id = st2 id)
theorem AM.local_ {α : Type} (m : AM α) : Local m.run := by
  induction m with
  | pure a =>
    intro st b st' t w h
    simp only [AM.run, R.ok.injEq, Prod.mk.injEq] at h
    obtain ⟨rfl, rfl, rfl, rfl⟩ := h
    exact ⟨fun _ _ => rfl, fun st2 _ => ⟨st2, rfl, fun _ h => by simp at h, fun _ _ => rfl⟩⟩
  | fail w => intro st b st' t w h; cases h
  | get id k ih =>
    intro st b st' t w h
    simp only [AM.run] at h
    cases hk : (k (st id)).run st with
    | no w => rw [hk] at h; cases h
    | ok p =>
      obtain ⟨a, s1, t1, w1⟩ := p
      rw [hk] at h
      simp only [R.ok.injEq, Prod.mk.injEq] at h
      obtain ⟨rfl, rfl, rfl, rfl⟩ := h
      obtain ⟨h1, h2⟩ := ih (st id) st a s1 t1 w1 hk
      refine ⟨h1, fun st2 hag => ?_⟩
      obtain ⟨st2', h3, h4, h5⟩ := h2 st2 (fun i hi => hag i (List.mem_cons_of_mem _ hi))
      exact ⟨st2', by simp only [AM.run]; rw [hag id (by simp), h3], h4, h5⟩
  | put id o k ih =>
    intro st b st' t w h
    simp only [AM.run] at h
    cases hk : k.run (st.upd id o) with
    | no w => rw [hk] at h; cases h
    | ok p =>
      obtain ⟨a, s1, t1, w1⟩ := p
      rw [hk] at h
      simp only [R.ok.injEq, Prod.mk.injEq] at h
      obtain ⟨rfl, rfl, rfl, rfl⟩ := h
      obtain ⟨h1, h2⟩ := ih (st.upd id o) a s1 t1 w1 hk
      refine ⟨fun i hi => ?_, fun st2 hag => ?_⟩
      · simp only [List.mem_cons, not_or] at hi
        rw [h1 i hi.2, upd_ne _ _ hi.1]
      · obtain ⟨st2', h3, h4, h5⟩ := h2 (st2.upd id o) (fun i hi => by
          by_cases e : i = id
          · subst e; rw [upd_same, upd_same]
          · rw [upd_ne _ _ e, upd_ne _ _ e]; exact hag i hi)
        refine ⟨st2', by simp only [AM.run]; rw [h3], fun i hi => ?_, fun i hi => ?_⟩
        · by_cases hw : i ∈ w1
          · exact h4 i hw
          · rcases List.mem_cons.1 hi with rfl | hi
            · rw [h5 _ hw, h1 _ hw, upd_same, upd_same]
            · exact absurd hi hw
        · simp only [List.mem_cons, not_or] at hi
          rw [h5 i hi.2, upd_ne _ _ hi.1]
  | need p k ih =>
    intro st b st' t w h
    obtain ⟨hp, h⟩ := AM.need_ok h
    obtain ⟨h1, h2⟩ := ih st b st' t w h
    refine ⟨h1, fun st2 hag => ?_⟩
    obtain ⟨st2', h3, h4, h5⟩ := h2 st2 hag
    exact ⟨st2', by simp only [AM.run]; rw [if_pos hp]; exact h3, h4, h5⟩
/-- one after the other -/
def seqF {α β : Type} (F : Store → Res α) (G : α → Store → Res β) (st : Store) : Res β := match F st with
  | .no w => .no w
  | .ok (a, st1, t, w) => match G a st1 with
    | .no w => .no w
    | .ok (b, st2, t2, w2) => .ok (b, st2, t ++ t2, w ++ w2)
theorem Local.seq {α β : Type} {F : Store → Res α} {G : α → Store → Res β} (hF : Local F) (hG : ∀ a, Local (G a)) : Local (seqF F G) := by
  intro st b st' t w h
  simp only [seqF] at h
  cases hf : F st with
  | no w => rw [hf] at h; cases h
  | ok p =>
    obtain ⟨a, s1, t1, w1⟩ := p
    rw [hf] at h
    simp only [] at h
    cases hg : G a s1 with
    | no w => rw [hg] at h; cases h
    | ok q =>
      obtain ⟨b', s2, t2, w2⟩ := q
      rw [hg] at h
      simp only [R.ok.injEq, Prod.mk.injEq] at h
      obtain ⟨rfl, rfl, rfl, rfl⟩ := h
      obtain ⟨h1, h2⟩ := hF st a s1 t1 w1 hf
      obtain ⟨h3, h4⟩ := hG a s1 b' s2 t2 w2 hg
      refine ⟨fun i hi => ?_, fun st2 hag => ?_⟩
      · simp only [List.mem_append, not_or] at hi
        rw [h3 i hi.2, h1 i hi.1]
      · obtain ⟨sa, ha1, ha2, ha3⟩ := h2 st2 (fun i hi => hag i (List.mem_append_left _ hi))
        obtain ⟨sb, hb1, hb2, hb3⟩ := h4 sa (fun i hi => by
          by_cases hw : i ∈ w1
          · exact ha2 i hw
          · rw [ha3 i hw, h1 i hw]; exact hag i (List.mem_append_right _ hi))
        refine ⟨sb, by simp only [seqF, ha1, hb1], fun i hi => ?_, fun i hi => ?_⟩
        · by_cases hw2 : i ∈ w2
          · exact hb2 i hw2
          · rw [hb3 i hw2, h3 i hw2]
            exact ha2 i ((List.mem_append.1 hi).resolve_right hw2)
        · simp only [List.mem_append, not_or] at hi
          rw [hb3 i hi.2, ha3 i hi.1]
theorem Local.no {α : Type} (w : List String) : Local (fun _ => (.no w : Res α)) := fun _ _ _ _ _ h => by cases h
/-- what comes behind the hand-over -/
noncomputable def callG (E : Env) (call : CallF) (n0 f : Nat) (p : List PVal × List (Nat × AObj)) (st1 : Store) : Res PVal :=
  match E.spec f with
  | some g => open Classical in if (g (PVal.ren.renL (renOf (idsOf p.2) 0) p.1) (p.2.map fun q => q.2.ren (renOf (idsOf p.2) 0))).pre then
      (finA n0 (idsOf p.2) (g (PVal.ren.renL (renOf (idsOf p.2) 0) p.1) (p.2.map fun q => q.2.ren (renOf (idsOf p.2) 0))).val (g (PVal.ren.renL (renOf (idsOf p.2) 0) p.1) (p.2.map fun q => q.2.ren (renOf (idsOf p.2) 0))).objs).run st1
    else .no ["a callee's condition"]
  | none => match callR E call f (PVal.ren.renL (renOf (idsOf p.2) 0) p.1) (p.2.map fun q => q.2.ren (renOf (idsOf p.2) 0)) with
    | .no w => .no w
    | .ok (v, os) => (finA n0 (idsOf p.2) v os).run st1
theorem callS_local {E : Env} (call : CallF) (n0 f : Nat) (args : List PVal) : Local (callS E call n0 f args) := by
  have key : Local (seqF (prepA E f args).run (callG E call n0 f)) := Local.seq (AM.local_ (prepA E f args)) (fun p => by
      unfold callG
      split
      · rename_i g hg
        by_cases hp : (g (PVal.ren.renL (renOf (idsOf p.2) 0) p.1) (p.2.map fun q => q.2.ren (renOf (idsOf p.2) 0))).pre
        · simp only [if_pos hp]; exact AM.local_ _
        · simp only [if_neg hp]; exact Local.no _
      · split
        · exact Local.no _
        · exact AM.local_ _)
  have e : callS E call n0 f args = seqF (prepA E f args).run (callG E call n0 f) := by
    funext st
    unfold callS seqF callG
    cases (prepA E f args).run st with
    | no w => rfl
    | ok p =>
      obtain ⟨⟨as, rs⟩, s1, t1, w1⟩ := p
      dsimp only
      cases E.spec f with
      | some g =>
        dsimp only
        by_cases hp : (g (PVal.ren.renL (renOf (idsOf rs) 0) as) (rs.map fun q => q.2.ren (renOf (idsOf rs) 0))).pre
        · rw [if_pos hp, if_pos hp]
          cases (finA n0 (idsOf rs) _ _).run s1 <;> rfl
        · rw [if_neg hp, if_neg hp]
      | none =>
        dsimp only
        cases callR E call f (PVal.ren.renL (renOf (idsOf rs) 0) as) (rs.map fun q => q.2.ren (renOf (idsOf rs) 0)) with
        | no w => rfl
        | ok q => obtain ⟨v, os⟩ := q; dsimp only; cases (finA n0 (idsOf rs) v os).run s1 <;> rfl
  rw [e]
  exact key

section
variable {E : Env}
theorem doF_local (call : CallF) (n0 : Nat) (o : Oper) (s : Nat → PVal) : Local (doF E call n0 o s) := by
  unfold doF
  split
  · exact callS_local call n0 _ _
  · exact AM.local_ _
/-- slots alike where an operation looks -/
def AgreeOn (o : Oper) (s s' : Nat → PVal) : Prop := ∀ t, .tmp t ∈ o.op.operands → s t = s' t
theorem opd_congr {s s' : Nat → PVal} {x : Operand} (h : ∀ t, x = .tmp t → s t = s' t) : opd E s x = opd E s' x := by
  cases x with
  | tmp t => exact h t rfl
  | _ => rfl
theorem call_congr {o : Oper} {s s' : Nat → PVal} (h : AgreeOn o s s') : (∀ n0, act E n0 o s = act E n0 o s') ∧ calleeOf E o s = calleeOf E o s' := by
  obtain ⟨dst, op, ty, pos, after, guard⟩ := o
  have O : ∀ x, x ∈ op.operands → opd E s x = opd E s' x := fun x hx => opd_congr fun t e => h t (by subst e; exact hx)
  have pairs : ∀ ps : Array (Nat × Operand), (∀ x, x ∈ (ps.toList.map (·.2)).toArray → opd E s x = opd E s' x) → (ps.toList.map fun p => (p.1, opd E s p.2)) = (ps.toList.map fun p => (p.1, opd E s' p.2)) := fun ps hp =>
    List.map_congr_left fun p hm => by rw [hp p.2 (by simp only [List.mem_toArray, List.mem_map]; exact ⟨p, hm, rfl⟩)]
  have arr : ∀ xs : Array Operand, (∀ x, x ∈ xs → opd E s x = opd E s' x) → xs.toList.map (opd E s) = xs.toList.map (opd E s') := fun xs hx => List.map_congr_left fun x hm => hx x (by simpa using hm)
  have op' : ∀ x : Option Operand, (∀ y, x = some y → opd E s y = opd E s' y) → x.map (opd E s) = x.map (opd E s') := fun x hx => by cases x with | none => rfl | some y => simp [hx y rfl]
  refine ⟨fun n0 => ?_, ?_⟩
  · unfold act
    cases op <;> simp only [Op.operands] at O <;> dsimp only
    case move x => rw [O x (by simp)]
    case assign x => rw [O x (by simp)]
    case pick c a b => rw [O c (by simp), O a (by simp), O b (by simp)]
    case box t x => rw [O x (by simp)]
    case build t ps => rw [pairs ps O]
    case buildSlice t n ps => rw [pairs ps O]
    case load t x => rw [O x (by simp)]
    case store t x y => rw [O x (by simp), O y (by simp)]
    case nilCheck x => rw [O x (by simp)]
    case binOp p t x y _ => rw [O x (by simp), O y (by simp)]
    case unOp p t x => rw [O x (by simp)]
    case convert a b x => rw [O x (by simp)]
    case makeFunc fn first captured => cases fn <;> dsimp only <;> rw [arr captured fun x hx => O x (by simp [hx])]
    case makeMap t r => cases r <;> rfl
    case makeSlice t l c => rw [O l (by simp), O c (by simp)]
    case slice t x lo hi mx =>
      rw [O x (by simp), op' lo (fun y e => O y (by subst e; simp)), op' hi (fun y e => O y (by subst e; simp)), op' mx (fun y e => O y (by subst e; simp))]
    case fieldAddr t x f => rw [O x (by simp)]
    case field t x f => rw [O x (by simp)]
    case indexAddr t x i => rw [O x (by simp), O i (by simp)]
    case index t x i => rw [O x (by simp), O i (by simp)]
    case lookup t x i c => rw [O x (by simp), O i (by simp)]
    case mapUpdate t m k v => rw [O m (by simp), O k (by simp), O v (by simp)]
    case extract x i => rw [O x (by simp)]
    case call c =>
      obtain ⟨callee, args, ts⟩ := c
      rw [arr args fun x hx => O x (by simp [Call.operands, hx])]
  · unfold calleeOf
    cases op <;> try rfl
    case call c =>
      obtain ⟨callee, args, ts⟩ := c
      simp only [Op.operands] at O
      cases callee with
      | value f =>
        dsimp only
        rw [O f (by simp [Call.operands]), arr args fun x hx => O x (by simp [Call.operands, hx])]
      | _ => rfl
theorem doF_congr {call : CallF} {n0 : Nat} {o : Oper} {s s' : Nat → PVal} (h : AgreeOn o s s') : doF E call n0 o s = doF E call n0 o s' := by
  funext st
  unfold doF
  rw [(call_congr (E := E) h).2, (call_congr (E := E) h).1]
end
end Go.Pvm
namespace Go.Pvm
open Go.RowKit

/-- What is kept from step to step, whatever ids were used. -/
structure Step (w0 : World) (M : Nat → Prop) (Γ Γ' : Ctx) (st' : Store) : Prop where
  le : Γ.le Γ'
  sr : SR (KK w0 M) Γ' st'
  keep : Keep w0 M Γ'.w
  zz : ∀ b, Γ'.Z b → Γ.Z b ∨ KK w0 M b
theorem Out.step {w0 : World} {M : Nat → Prop} {n0 : Nat} {Γ Γ' : Ctx} {st' : Store} (h : Out w0 M n0 Γ Γ' st') : Step w0 M Γ Γ' st' := ⟨h.le, h.sr, h.keep, h.zz⟩
theorem Step.trans {w0 : World} {M : Nat → Prop} {Γ Γ1 Γ2 : Ctx} {s1 s2 : Store} (h : Step w0 M Γ Γ1 s1) (k : Step w0 M Γ1 Γ2 s2) : Step w0 M Γ Γ2 s2 :=
  ⟨h.le.trans k.le, k.sr, k.keep, fun b hb => (k.zz b hb).elim (h.zz b) .inr⟩
theorem Step.refl {w0 : World} {M : Nat → Prop} {Γ : Ctx} {st : Store} (h : SR (KK w0 M) Γ st) (k : Keep w0 M Γ.w) : Step w0 M Γ Γ st := ⟨Ctx.le.refl Γ, h, k, fun _ h => .inl h⟩

theorem SlotsOK.put {Γ Γ' : Ctx} {s : Nat → PVal} {a : Act} {v : PVal} {u : Value} {dst : Option Nat} (h : SlotsOK Γ s a) (hle : Γ.le Γ') (hd : ∀ d, dst = some d → d < a.tmps.size) (hv : VR Γ' v u) : SlotsOK Γ' (setSlot s dst v) (a.put dst u) := by
  cases dst with
  | none => exact fun t => (h t).mono hle
  | some d =>
    intro t
    have hlt := hd d rfl
    simp only [setSlot, updS, Act.put]
    by_cases e : t = d
    · subst e
      rw [Nat.beq_refl]
      simp [hlt, hv]
    · have hb : Nat.beq t d = false := by
        cases hb : Nat.beq t d with
        | true => exact absurd (Nat.eq_of_beq_eq_true hb) e
        | false => rfl
      rw [hb]
      have := (h t).mono hle
      simpa [Array.getD_eq_getD_getElem?, Array.getElem?_setIfInBounds_ne (Ne.symm e)] using this
theorem SlotsOK.mono {Γ Γ' : Ctx} {s : Nat → PVal} {a : Act} (h : SlotsOK Γ s a) (hle : Γ.le Γ') : SlotsOK Γ' s a := fun t => (h t).mono hle
theorem put_size (a : Act) (dst : Option Nat) (u : Value) : (a.put dst u).tmps.size = a.tmps.size := by cases dst <;> simp [Act.put]
theorem put_defers' (a : Act) (dst : Option Nat) (u : Value) : (a.put dst u).defers = a.defers := by cases dst <;> rfl

section
variable {E : Env}
/-- is an operation wanted -/
theorem wantA_ok {Γ : Ctx} {ops : Array Oper} {o : Oper} {s : Nat → PVal} {a : Act} {w : Want} (hs : SlotsOK Γ s a) (h : wantA ops o s = .ok w) :
    match w with
    | .yes => Region.wanted o (yielded ops a.tmps) = true
    | .no => Region.wanted o (yielded ops a.tmps) = false
    | .ask _ want b => Region.wanted o (yielded ops a.tmps) = decide (b = want) := by
  unfold wantA at h
  unfold Region.wanted
  split at h
  · rename_i hg
    obtain rfl := R.ok.inj h
    simp [hg]
  · rename_i j want hg
    rw [hg]
    split at h
    · cases h
    · rename_i g hj
      split at h
      · cases h
      · rename_i d hd
        have hsd := hs d
        have hy : yielded ops a.tmps j = match a.tmps[d]? with | some (.bool b) => some b | _ => none := by
          unfold yielded
          rw [hj]
          simp only [Option.bind_some, hd]
          rfl
        split at h
        · rename_i b hb
          obtain rfl := R.ok.inj h
          rw [hb] at hsd
          have ht : a.tmps[d]? = some (.bool b) := by
            cases hq : a.tmps[d]? with
            | none => rw [Array.getD_eq_getD_getElem?, hq] at hsd; cases hsd
            | some q => rw [Array.getD_eq_getD_getElem?, hq] at hsd; cases hsd; rfl
          simp only [hy, ht]
          cases b <;> cases want <;> rfl
        · rename_i hb
          obtain rfl := R.ok.inj h
          rw [hb] at hsd
          have ht : yielded ops a.tmps j = none := by
            rw [hy]
            cases hq : a.tmps[d]? with
            | none => rfl
            | some q => rw [Array.getD_eq_getD_getElem?, hq] at hsd; cases hsd; rfl
          simp only [ht]
          rfl
        · cases h
theorem callable_ok (hE : EnvOK E) {g : Nat} (h : callable E g = true) (args : Array Value) (w : World) : (callFunc g args).run E.P w = .ok (.enter g args) w := by
  unfold callable at h
  split at h
  · rename_i fn hl
    obtain ⟨c, hc⟩ := Option.isSome_iff_exists.1 h
    have hn := hE.name g fn hl
    simp only [callFunc, Sem.run_bind, run_program, Result.andThen_ok, hE.look g fn hl, hn, hc]
    rfl
  · cases h
/-- an operation that is wanted -/
theorem doF_ok (hE : EnvOK E) {call : CallF} (hcall : ∀ f args objs v os, call f args objs = .ok (v, os) → CallOK E f args objs v os) {w0 : World} {M : Nat → Prop} {n0 : Nat} {Γ : Ctx} {st st' : Store} {o : Oper} {s : Nat → PVal} {a : Act}
    {v : PVal} {T W : List Nat} {Q : Exit → Act → World → Prop} {K : Act → World → Prop} (hsr : SR (KK w0 M) Γ st) (hk : Keep w0 M Γ.w) (hs : SlotsOK Γ s a) (hg : GlobOK E Γ) (hf : ∀ id, n0 ≤ id → id < n0 + 16 → Γ.φ id = none)
    (h : doF E call n0 o s st = .ok (v, st', T, W)) (hK : ∀ Γ' u, Out w0 M n0 Γ Γ' st' → VR Γ' v u → K (a.put o.dst u) Γ'.w) : o.wp E.P a Γ.w K Q := by
  unfold doF at h
  unfold Oper.wp
  split at h
  · rename_i g args hcal
    unfold calleeOf at hcal
    split at hcal
    · rename_i c hop
      split at hcal
      · rename_i fo hfo
        split at hcal
        · rename_i g' caps hfn
          cases hcb : callable E g' with
          | false => rw [hcb] at hcal; cases hcal
          | true =>
            rw [hcb] at hcal
            simp only [cond_true, Option.some.injEq, Prod.mk.injEq] at hcal
            obtain ⟨rfl, rfl⟩ := hcal
            have hv := opd_ok (E := E) hs hg fo
            rw [hfn] at hv
            obtain ⟨cs, hcs, hcl⟩ := fn_inv hv
            have hargs : ListVR Γ (c.args.toList.map (opd E s) ++ caps) ((c.args.map a.eval) ++ cs).toList := by
              rw [Array.toList_append, Array.toList_map]
              exact (ListVR.map c.args.toList (opd E s) a.eval fun x _ => opd_ok hs hg x).append hcl
            have hrun : (execOp a.eval o).run E.P Γ.w = .ok (.enter g' (c.args.map a.eval ++ cs)) Γ.w := by
              unfold execOp
              rw [hop]
              simp only [resolve, hfo, hcs, Deferred.ofValue, Sem.run_bind, Sem.run_pure, Result.andThen_ok, invoke]
              simp only [Array.empty_append]
              exact callable_ok hE hcb _ _
            rw [hrun, Oper.upon_enter]
            have hc := callS_ok hE hcall hsr hk hg hf hargs h
            rw [Array.toArray_toList] at hc
            refine hc.mono fun r w' hr => ?_
            cases r with
            | returned u =>
              obtain ⟨Γ', rfl, ho, hv⟩ := hr
              exact hK Γ' u ho hv
            | panicked _ => exact hr.elim
            | outgrown => exact hr.elim
        · cases hcal
      · cases hcal
    · cases hcal
  · obtain ⟨Γ', ho, ⟨u, hr, hv⟩ | ⟨hr, rfl⟩⟩ := act_ok hsr hk hs hg hf h
    · rw [hr, Oper.upon_value]; exact hK Γ' u ho hv
    · rw [hr, Oper.upon_skip]; exact hK Γ' undef ho (tup0 Γ')
/-- one operation of a region -/
theorem stepF_ok (hE : EnvOK E) {call : CallF} (hcall : ∀ f args objs v os, call f args objs = .ok (v, os) → CallOK E f args objs v os) {w0 : World} {M : Nat → Prop} {nx i : Nat} {Γ : Ctx} {st st' : Store} {ops : Array Oper} {o : Oper} {s s' : Nat → PVal} {a : Act}
    {fp : Foot} {Q : Exit → Act → World → Prop} {K : Act → World → Prop} (ho : ops[i]? = some o) (hd : ∀ d, o.dst = some d → d < a.tmps.size) (hsr : SR (KK w0 M) Γ st) (hk : Keep w0 M Γ.w) (hs : SlotsOK Γ s a) (hg : GlobOK E Γ)
    (hf : ∀ id, nx + 16 * i ≤ id → id < nx + 16 * i + 16 → Γ.φ id = none) (h : stepF E call ops nx i o s st = .ok (s', st', fp))
    (hK : ∀ Γ' a', Step w0 M Γ Γ' st' → (∀ id, (id < nx + 16 * i ∨ nx + 16 * i + 16 ≤ id) → Γ.φ id = none → Γ'.φ id = none) → SlotsOK Γ' s' a' → a'.tmps.size = a.tmps.size → a'.defers = a.defers → K a' Γ'.w) :
    wpOp E.P ops Q i K a Γ.w := by
  unfold wpOp
  rw [ho]
  show (if Region.wanted o (yielded ops a.tmps) = true then (o.wp E.P a Γ.w K Q ∨ (o.asks E.P a Γ.w ∧ LetsOut Q)) else K (a.put o.dst undef) Γ.w)
  have run : ∀ (hw : Region.wanted o (yielded ops a.tmps) = true), (match doF E call (nx + 16 * i) o s st with
      | .no w => (.no w : R ((Nat → PVal) × Store × Foot))
      | .ok (v, st', t, w) => .ok (setSlot s o.dst v, st', t, w)) = .ok (s', st', fp) → (if Region.wanted o (yielded ops a.tmps) = true then (o.wp E.P a Γ.w K Q ∨ (o.asks E.P a Γ.w ∧ LetsOut Q)) else K (a.put o.dst undef) Γ.w) := fun hw h => by
    rw [if_pos hw]
    cases hdo : doF E call (nx + 16 * i) o s st with
    | no w => rw [hdo] at h; cases h
    | ok p =>
      obtain ⟨v, st1, t, w⟩ := p
      rw [hdo] at h
      simp only [R.ok.injEq, Prod.mk.injEq] at h
      obtain ⟨rfl, rfl, _⟩ := h
      exact .inl (doF_ok hE hcall hsr hk hs hg hf hdo fun Γ' u hout hv => hK Γ' _ hout.step hout.free (hs.put hout.le hd hv) (put_size _ _ _) (put_defers' _ _ _))
  have skip : ∀ (hw : Region.wanted o (yielded ops a.tmps) = false), (R.ok (setSlot s o.dst (.tup []), st, ([], [])) : R ((Nat → PVal) × Store × Foot)) = .ok (s', st', fp) → (if Region.wanted o (yielded ops a.tmps) = true then (o.wp E.P a Γ.w K Q ∨ (o.asks E.P a Γ.w ∧ LetsOut Q)) else K (a.put o.dst undef) Γ.w) := fun hw h => by
    rw [if_neg (by rw [hw]; simp)]
    simp only [R.ok.injEq, Prod.mk.injEq] at h
    obtain ⟨rfl, rfl, _⟩ := h
    exact hK Γ _ (Step.refl hsr hk) (fun _ _ h => h) (hs.put (Ctx.le.refl Γ) hd (tup0 Γ)) (put_size _ _ _) (put_defers' _ _ _)
  unfold stepF at h
  dsimp only at h
  cases hw : wantA ops o s with
  | no w => rw [hw] at h; cases h
  | ok w =>
    rw [hw] at h
    have hwok := wantA_ok hs hw
    cases w with
    | yes => exact run hwok h
    | no => exact skip hwok h
    | ask d want b =>
      simp only [] at h hwok
      by_cases hb : b = want
      · rw [if_pos hb] at h
        exact run (by rw [hwok]; simp [hb]) h
      · rw [if_neg hb] at h
        exact skip (by rw [hwok]; simp [hb]) h
end
end Go.Pvm
namespace Go.Pvm
open Go.RowKit
section
variable {E : Env}
/-- what an operation of a region does to the store, and its value -/
noncomputable def stepD (E : Env) (call : CallF) (ops : Array Oper) (nx i : Nat) (o : Oper) (s : Nat → PVal) : Store → Res PVal :=
  match wantA ops o s with
  | .no w => fun _ => .no w
  | .ok .yes => doF E call (nx + 16 * i) o s
  | .ok .no => fun st => .ok (.tup [], st, [], [])
  | .ok (.ask d w b) => if b = w then doF E call (nx + 16 * i) o s else fun st => .ok (.tup [], st, [], [])
theorem stepF_eq (call : CallF) (ops : Array Oper) (nx i : Nat) (o : Oper) (s : Nat → PVal) (st : Store) : stepF E call ops nx i o s st = match stepD E call ops nx i o s st with
    | .no w => .no w
    | .ok (v, st', t, w) => .ok (setSlot s o.dst v, st', t, w) := by
  unfold stepF stepD
  cases wantA ops o s with
  | no w => rfl
  | ok x =>
    cases x with
    | yes => rfl
    | no => rfl
    | ask d w b =>
      dsimp only
      by_cases h : b = w
      · rw [if_pos h, if_pos h]; rfl
      · rw [if_neg h, if_neg h]
theorem skip_local : Local (fun st => (.ok (.tup [], st, [], []) : Res PVal)) := fun st a st' t w h => by
  simp only [R.ok.injEq, Prod.mk.injEq] at h
  obtain ⟨rfl, rfl, rfl, rfl⟩ := h
  exact ⟨fun _ _ => rfl, fun st2 _ => ⟨st2, rfl, fun _ h => by simp at h, fun _ _ => rfl⟩⟩
theorem stepD_local (call : CallF) (ops : Array Oper) (nx i : Nat) (o : Oper) (s : Nat → PVal) : Local (stepD E call ops nx i o s) := by
  unfold stepD
  split
  · exact Local.no _
  · exact doF_local _ _ _ _
  · exact skip_local
  · split
    · exact doF_local _ _ _ _
    · exact skip_local
theorem looks_tmp {ops : Array Oper} {o : Oper} {t : Nat} (h : .tmp t ∈ o.op.operands) : t ∈ o.looksAt ops := by
  unfold Oper.looksAt
  exact List.mem_append_left _ (List.mem_filterMap.2 ⟨.tmp t, by simpa using h, rfl⟩)
theorem stepD_congr (call : CallF) (ops : Array Oper) (nx i : Nat) (o : Oper) {s s' : Nat → PVal} (h : ∀ t, t ∈ o.looksAt ops → s t = s' t) : stepD E call ops nx i o s = stepD E call ops nx i o s' := by
  have hw : wantA ops o s = wantA ops o s' := by
    unfold wantA
    cases hg : o.guard with
    | none => rfl
    | some p =>
      obtain ⟨j, w⟩ := p
      dsimp only
      cases hj : ops[j]? with
      | none => rfl
      | some g =>
        dsimp only
        cases hd : g.dst with
        | none => rfl
        | some d =>
          dsimp only
          rw [h d (by
            unfold Oper.looksAt
            refine List.mem_append_right _ ?_
            rw [hg]
            simp [hj, hd])]
  unfold stepD
  rw [hw, doF_congr (E := E) (call := call) (n0 := nx + 16 * i) (o := o) (s := s) (s' := s') (fun t ht => h t (looks_tmp ht))]
theorem setSlot_other {s : Nat → PVal} {dst : Option Nat} {v : PVal} {t : Nat} (h : ∀ d, dst = some d → d ≠ t) : setSlot s dst v t = s t := by
  cases dst with
  | none => rfl
  | some d =>
    have hb : Nat.beq t d = false := by
      cases hb : Nat.beq t d with
      | true => exact absurd (Nat.eq_of_beq_eq_true hb).symm (h d rfl)
      | false => rfl
    simp [setSlot, updS, hb]
theorem setSlot_comm {s : Nat → PVal} {x y : Option Nat} {v u : PVal} (h : ∀ d, x = some d → y ≠ some d) : setSlot (setSlot s x v) y u = setSlot (setSlot s y u) x v := by
  cases x with
  | none => rfl
  | some d =>
    cases y with
    | none => rfl
    | some e =>
      have hne : d ≠ e := fun he => h d rfl (he ▸ rfl)
      funext t
      simp only [setSlot, updS]
      cases h1 : Nat.beq t d <;> cases h2 : Nat.beq t e <;> try rfl
      have e1 := Nat.eq_of_beq_eq_true h1
      have e2 := Nat.eq_of_beq_eq_true h2
      exact absurd (e1.symm.trans e2) hne
/-- two operations that do not meet -/
structure Indep (ops : Array Oper) (ok oi : Oper) (fk fi : Foot) : Prop where
  apart : Oper.apart ops ok oi = true
  wr : ∀ id, id ∈ fk.2 → id ∉ fi.1
  ww : ∀ id, id ∈ fk.2 → id ∉ fi.2
  rw' : ∀ id, id ∈ fi.2 → id ∉ fk.1
theorem swap_ok {call : CallF} {ops : Array Oper} {nx k i : Nat} {ok oi : Oper} {s s1 s2 : Nat → PVal} {st st1 st2 : Store} {fk fi : Foot} (h1 : stepF E call ops nx k ok s st = .ok (s1, st1, fk)) (h2 : stepF E call ops nx i oi s1 st1 = .ok (s2, st2, fi))
    (hi : Indep ops ok oi fk fi) : ∃ s1' st1', stepF E call ops nx i oi s st = .ok (s1', st1', fi) ∧ stepF E call ops nx k ok s1' st1' = .ok (s2, st2, fk) := by
  obtain ⟨a1, a2, a3⟩ := Oper.apart_spec hi.apart
  rw [stepF_eq] at h1 h2
  cases hk : stepD E call ops nx k ok s st with
  | no w => rw [hk] at h1; cases h1
  | ok p =>
    obtain ⟨vk, sk, tk, wk⟩ := p
    rw [hk] at h1
    simp only [R.ok.injEq, Prod.mk.injEq] at h1
    obtain ⟨rfl, rfl, rfl⟩ := h1
    rw [stepD_congr (s' := s) call ops nx i oi (fun t ht => setSlot_other fun d hd e => a1 d hd (e ▸ ht))] at h2
    cases hj : stepD E call ops nx i oi s sk with
    | no w => rw [hj] at h2; cases h2
    | ok q =>
      obtain ⟨vi, si, ti, wi⟩ := q
      rw [hj] at h2
      simp only [R.ok.injEq, Prod.mk.injEq] at h2
      obtain ⟨rfl, rfl, rfl⟩ := h2
      obtain ⟨k1, k2⟩ := stepD_local call ops nx k ok s st vk sk tk wk hk
      obtain ⟨i1, i2⟩ := stepD_local call ops nx i oi s sk vi si ti wi hj
      obtain ⟨x, hx1, hx2, hx3⟩ := i2 st (fun id hid => (k1 id (fun hw => hi.wr id hw hid)).symm)
      obtain ⟨y, hy1, hy2, hy3⟩ := k2 x (fun id hid => hx3 id (fun hw => hi.rw' id hw hid))
      refine ⟨setSlot s oi.dst vi, x, by rw [stepF_eq, hx1], ?_⟩
      rw [stepF_eq, stepD_congr (s' := s) call ops nx k ok (fun t ht => setSlot_other fun d hd e => a3 d hd (e ▸ ht)), hy1]
      simp only [R.ok.injEq, Prod.mk.injEq, and_true]
      refine ⟨(setSlot_comm a2).symm, ?_⟩
      funext id
      by_cases hwk : id ∈ wk
      · rw [hy2 id hwk, i1 id (hi.ww id hwk)]
      · rw [hy3 id hwk]
        by_cases hwi : id ∈ wi
        · exact hx2 id hwi
        · rw [hx3 id hwi, i1 id hwi, k1 id hwk]

/-- operations in some order, with their footprints -/
noncomputable def runL (E : Env) (call : CallF) (ops : Array Oper) (nx : Nat) : List Nat → (Nat → PVal) → Store → R ((Nat → PVal) × Store × List (Nat × Foot))
  | [], s, st => .ok (s, st, [])
  | i :: r, s, st => match ops[i]? with
    | none => .no ["no operation"]
    | some o => match stepF E call ops nx i o s st with
      | .no w => .no w
      | .ok (s1, st1, fp) => match runL E call ops nx r s1 st1 with
        | .no w => .no w
        | .ok (s2, st2, F) => .ok (s2, st2, (i, fp) :: F)
theorem runL_cons {call : CallF} {ops : Array Oper} {nx i : Nat} {r : List Nat} {s s2 : Nat → PVal} {st st2 : Store} {F : List (Nat × Foot)} : runL E call ops nx (i :: r) s st = .ok (s2, st2, F) ↔
    ∃ o s1 st1 fp F', ops[i]? = some o ∧ stepF E call ops nx i o s st = .ok (s1, st1, fp) ∧ runL E call ops nx r s1 st1 = .ok (s2, st2, F') ∧ F = (i, fp) :: F' := by
  constructor
  · intro h
    simp only [runL] at h
    cases ho : ops[i]? with
    | none => rw [ho] at h; cases h
    | some o =>
      rw [ho] at h
      simp only [] at h
      cases hs : stepF E call ops nx i o s st with
      | no w => rw [hs] at h; cases h
      | ok p =>
        obtain ⟨s1, st1, fp⟩ := p
        rw [hs] at h
        simp only [] at h
        cases hr : runL E call ops nx r s1 st1 with
        | no w => rw [hr] at h; cases h
        | ok q =>
          obtain ⟨a, b, c⟩ := q
          rw [hr] at h
          simp only [R.ok.injEq, Prod.mk.injEq] at h
          obtain ⟨rfl, rfl, rfl⟩ := h
          exact ⟨o, s1, st1, fp, c, rfl, hs, hr, rfl⟩
  · rintro ⟨o, s1, st1, fp, F', h1, h2, h3, rfl⟩
    simp only [runL, h1, h2, h3]
/-- one that meets none of those ahead of it may come first -/
theorem front_ok {call : CallF} {ops : Array Oper} {nx i : Nat} : ∀ (A B : List Nat) (s s2 : Nat → PVal) (st st2 : Store) (F : List (Nat × Foot)), runL E call ops nx (A ++ i :: B) s st = .ok (s2, st2, F) →
    (∀ k, k ∈ A → ∀ ok oi fk fi, ops[k]? = some ok → ops[i]? = some oi → (k, fk) ∈ F → (i, fi) ∈ F → Indep ops ok oi fk fi) →
    ∃ F', runL E call ops nx (i :: (A ++ B)) s st = .ok (s2, st2, F') ∧ ∀ x, x ∈ F' → x ∈ F
  | [], B, s, s2, st, st2, F, h, hi => ⟨F, h, fun _ h => h⟩
  | k :: A, B, s, s2, st, st2, F, h, hi => by
    rw [List.cons_append, runL_cons] at h
    obtain ⟨ok, s1, st1, fk, F1, h1, h2, h3, rfl⟩ := h
    obtain ⟨F2, h4, h5⟩ := front_ok A B s1 s2 st1 st2 F1 h3 (fun k' hk' ok' oi' fk' fi' a b c d => hi k' (List.mem_cons_of_mem _ hk') ok' oi' fk' fi' a b (List.mem_cons_of_mem _ c) (List.mem_cons_of_mem _ d))
    rw [runL_cons] at h4
    obtain ⟨oi, sa, sta, fi, F3, h6, h7, h8, rfl⟩ := h4
    have hind := hi k (by simp) ok oi fk fi h1 h6 (by simp) (List.mem_cons_of_mem _ (h5 _ (by simp)))
    obtain ⟨sb, stb, h9, h10⟩ := swap_ok h2 h7 hind
    refine ⟨(i, fi) :: (k, fk) :: F3, ?_, fun x hx => ?_⟩
    · rw [runL_cons]
      refine ⟨oi, sb, stb, fi, (k, fk) :: F3, h6, h9, ?_, rfl⟩
      rw [List.cons_append, runL_cons]
      exact ⟨ok, sa, sta, fk, F3, h1, h10, h8, rfl⟩
    · rcases List.mem_cons.1 hx with rfl | hx
      · exact List.mem_cons_of_mem _ (h5 _ (by simp))
      · rcases List.mem_cons.1 hx with rfl | hx
        · simp
        · exact List.mem_cons_of_mem _ (h5 _ (List.mem_cons_of_mem _ hx))
/-- the text's order -/
theorem runF_runL {call : CallF} {ops : Array Oper} {nx : Nat} : ∀ (r : List Oper) (i : Nat) (s s' : Nat → PVal) (st st' : Store) (acc fps : List Foot), (∀ j o, r[j]? = some o → ops[i + j]? = some o) → runF E call ops nx i r s st acc = .ok (s', st', fps) →
    ∃ F, runL E call ops nx (List.range' i r.length) s st = .ok (s', st', F) ∧ fps = acc ++ F.map (·.2) ∧ F.map (·.1) = List.range' i r.length
  | [], i, s, s', st, st', acc, fps, ho, h => by
    simp only [runF, R.ok.injEq, Prod.mk.injEq] at h
    obtain ⟨rfl, rfl, rfl⟩ := h
    exact ⟨[], rfl, by simp, rfl⟩
  | o :: r, i, s, s', st, st', acc, fps, ho, h => by
    simp only [runF] at h
    cases hs : stepF E call ops nx i o s st with
    | no w => rw [hs] at h; cases h
    | ok p =>
      obtain ⟨s1, st1, fp⟩ := p
      rw [hs] at h
      simp only [] at h
      obtain ⟨F, h1, h2, h3⟩ := runF_runL r (i + 1) s1 s' st1 st' _ fps (fun j o' hj => by have := ho (j + 1) o' (by simpa using hj); rwa [show i + (j + 1) = i + 1 + j by omega] at this) h
      refine ⟨(i, fp) :: F, ?_, by rw [h2]; simp, by simp [List.range'_succ, h3]⟩
      rw [List.length_cons, List.range'_succ, runL_cons]
      exact ⟨o, s1, st1, fp, F, by have := ho 0 o rfl; simpa using this, hs, h1, rfl⟩
end
end Go.Pvm
namespace Go.Pvm
open Go.RowKit

theorem mem_dedup {l : List Nat} {x : Nat} (h : x ∈ dedup l) : x ∈ l := by
  induction l with
  | nil => simp [dedup] at h
  | cons y ys ih =>
    simp only [dedup, List.mem_cons, List.mem_filter] at h
    rcases h with rfl | ⟨h, _⟩
    · simp
    · exact List.mem_cons_of_mem _ (ih h)
theorem preds_len : ∀ (l : List Oper) (acc : List (List Nat)), (preds acc l).length = acc.length + l.length
  | [], acc => by simp [preds]
  | o :: r, acc => by rw [preds, preds_len r]; simp; omega
theorem preds_prefix : ∀ (l : List Oper) (acc : List (List Nat)) (j : Nat), j < acc.length → (preds acc l)[j]? = acc[j]?
  | [], acc, j, h => rfl
  | o :: r, acc, j, h => by rw [preds, preds_prefix r _ j (by simp; omega), List.getElem?_append_left h]
theorem preds_at : ∀ (l : List Oper) (acc : List (List Nat)) (j : Nat) (o : Oper), l[j]? = some o → ∃ pre : List (List Nat), (preds acc l)[acc.length + j]? = some (predsOf pre o) ∧ ∀ x, x < pre.length → pre[x]? = (preds acc l)[x]?
  | [], acc, j, o, h => by simp at h
  | o' :: r, acc, 0, o, h => by
    simp at h
    subst h
    refine ⟨acc, ?_, fun x hx => ?_⟩
    · rw [preds, preds_prefix r _ _ (by simp)]
      simp
    · rw [preds, preds_prefix r _ _ (by simp; omega), List.getElem?_append_left hx]
  | o' :: r, acc, j + 1, o, h => by
    obtain ⟨pre, h1, h2⟩ := preds_at r (acc ++ [predsOf acc o']) j o (by simpa using h)
    refine ⟨pre, ?_, fun x hx => by rw [preds]; exact h2 x hx⟩
    rw [preds]
    rw [show acc.length + (j + 1) = (acc ++ [predsOf acc o']).length + j by simp; omega]
    exact h1
theorem edgesBack_at : ∀ (l : List Oper) (i j : Nat) (o : Oper), edgesBack i l = true → l[j]? = some o → ∀ e, e ∈ o.after → Region.binds .any e = true → e.on < i + j
  | [], i, j, o, h, hj => by simp at hj
  | o' :: r, i, 0, o, h, hj => by
    simp at hj
    subst hj
    simp only [edgesBack, Bool.and_eq_true] at h
    intro e he hb
    have := Array.all_eq_true_iff_forall_mem.1 h.1 e he
    simp [hb] at this
    omega
  | o' :: r, i, j + 1, o, h, hj => by
    simp only [edgesBack, Bool.and_eq_true] at h
    intro e he hb
    have := edgesBack_at r (i + 1) j o h.2 (by simpa using hj) e he hb
    omega
theorem not_meets {a b : List Nat} (h : meets a b = false) : ∀ id, id ∈ a → id ∉ b := fun id h1 h2 => by
  have : meets a b = true := by
    unfold meets
    rw [List.any_eq_true]
    exact ⟨id, h1, by simpa using h2⟩
  rw [this] at h
  cases h
theorem indep_ok {ops : Array Oper} {fk fi : Foot} {ok oi : Oper} (h : indep ops fk fi ok oi = true) : Indep ops ok oi fk fi := by
  unfold indep at h
  simp only [Bool.and_eq_true, Bool.not_eq_true'] at h
  obtain ⟨⟨⟨h1, h2⟩, h3⟩, h4⟩ := h
  exact ⟨h1, not_meets h2, not_meets h3, not_meets h4⟩

/-- what is left of a region -/
structure Rest (ops : Array Oper) (listed : Array Bool) (L : List Nat) : Prop where
  size : listed.size = ops.size
  sorted : L.Pairwise (· < ·)
  mem : ∀ i, i ∈ L ↔ i < ops.size ∧ listed.getD i true = false
  closed : ∀ (j : Nat) (o : Oper), ops[j]? = some o → listed.getD j false = true → ∀ e, e ∈ o.after → Region.binds .any e = true → listed.getD e.on false = true
theorem getD_true_false {listed : Array Bool} {n j : Nat} (hs : listed.size = n) (hj : j < n) : listed.getD j true = listed.getD j false := by
  simp [hs, hj]
theorem closure_ok {ops : Array Oper} {listed : Array Bool} {L : List Nat} (h : Rest ops listed L) (hb : edgesBack 0 ops.toList = true) : ∀ (i : Nat) (o : Oper), ops[i]? = some o → (∀ e, e ∈ o.after → Region.binds .any e = true → listed.getD e.on false = true) →
    ∀ k, k ∈ (preds [] ops.toList).getD i [] → listed.getD k false = true := by
  intro i
  induction i using Nat.strongRecOn with
  | ind i ih =>
    intro o ho hall k hk
    obtain ⟨pre, h1, h2⟩ := preds_at ops.toList [] i o (by simpa using ho)
    simp only [List.length_nil, Nat.zero_add] at h1
    rw [List.getD_eq_getElem?_getD, h1] at hk
    simp only [Option.getD_some] at hk
    unfold predsOf at hk
    have hk := mem_dedup hk
    rw [List.mem_flatMap] at hk
    obtain ⟨e, he, hk⟩ := hk
    have he : e ∈ o.after := by simpa using he
    split at hk
    · rename_i hbe
      have hlt := edgesBack_at ops.toList 0 i o hb (by simpa using ho) e he hbe
      rcases List.mem_cons.1 hk with rfl | hk
      · exact hall e he hbe
      · have hil : i < ops.size := (Array.getElem?_eq_some_iff.1 ho).1
        have hoe : ops[e.on]? = some ops[e.on] := by simp [show e.on < ops.size by omega]
        refine ih e.on (by omega) _ hoe (h.closed e.on _ hoe (hall e he hbe)) k ?_
        rw [List.getD_eq_getElem?_getD] at hk ⊢
        by_cases hx : e.on < pre.length
        · rw [← h2 _ hx]; exact hk
        · rw [List.getElem?_eq_none (by omega)] at hk; simp at hk
    · simp at hk
section
variable {E : Env}
theorem Step.drew {w0 : World} {M : Nat → Prop} {Γ : Ctx} {st : Store} (hsr : SR (KK w0 M) Γ st) (hk : Keep w0 M Γ.w) : Step w0 M Γ { Γ with w := { Γ.w with drawn := Γ.w.drawn + 1 } } st := by
  have hle : Γ.le { Γ with w := { Γ.w with drawn := Γ.w.drawn + 1 } } := ⟨fun _ h => h, fun _ => Iff.rfl, fun _ _ => rfl, fun _ _ h => h⟩
  exact ⟨hle, hsr.grow hle rfl (fun id v k hl hv hb => ⟨rfl, (hsr.own id v k hl hv hb).2.1⟩) hsr.zlt, ⟨hk.os, hk.tape, hk.output, hk.size, hk.block⟩, fun _ h => .inl h⟩

/-- the state of an activation: values in slots, and a store, in the model's -/
structure Sim (E : Env) (w0 : World) (M : Nat → Prop) (Γ : Ctx) (s : Nat → PVal) (st : Store) (a : Act) : Prop where
  sr : SR (KK w0 M) Γ st
  keep : Keep w0 M Γ.w
  slots : SlotsOK Γ s a
  glob : GlobOK E Γ
theorem Sim.next {w0 : World} {M : Nat → Prop} {Γ Γ' : Ctx} {s s' : Nat → PVal} {st st' : Store} {a a' : Act} (h : Sim E w0 M Γ s st a) (k : Step w0 M Γ Γ' st') (hs : SlotsOK Γ' s' a') : Sim E w0 M Γ' s' st' a' := ⟨k.sr, k.keep, hs, h.glob.mono k.le⟩

/-- a given order -/
theorem runL_wpOps (hE : EnvOK E) {call : CallF} (hcall : ∀ f args objs v os, call f args objs = .ok (v, os) → CallOK E f args objs v os) {w0 : World} {M : Nat → Prop} {nx : Nat} {ops : Array Oper} {Q : Exit → Act → World → Prop} :
    ∀ (L : List Nat) (Γ : Ctx) (s s' : Nat → PVal) (st st' : Store) (a : Act) (F : List (Nat × Foot)), Sim E w0 M Γ s st a → (∀ (i : Nat) (o : Oper) (d : Nat), ops[i]? = some o → o.dst = some d → d < a.tmps.size) → L.Nodup →
      (∀ i, i ∈ L → ∀ id, nx + 16 * i ≤ id → id < nx + 16 * i + 16 → Γ.φ id = none) → (∀ id, nx + 16 * ops.size ≤ id → Γ.φ id = none) → runL E call ops nx L s st = .ok (s', st', F) →
      (∀ Γ' a', Step w0 M Γ Γ' st' → (∀ id, nx + 16 * ops.size ≤ id → Γ'.φ id = none) → SlotsOK Γ' s' a' → a'.tmps.size = a.tmps.size → a'.defers = a.defers → Q .normal a' Γ'.w) → wpOps E.P ops Q L a Γ.w
  | [], Γ, s, s', st, st', a, F, hs, hd, hn, hf, hf2, h, hQ => by
    simp only [runL, R.ok.injEq, Prod.mk.injEq] at h
    obtain ⟨rfl, rfl, rfl⟩ := h
    exact hQ Γ a (Step.refl hs.sr hs.keep) hf2 hs.slots rfl rfl
  | i :: L, Γ, s, s', st, st', a, F, hs, hd, hn, hf, hf2, h, hQ => by
    rw [runL_cons] at h
    obtain ⟨o, s1, st1, fp, F', ho, h1, h2, rfl⟩ := h
    rw [wpOps_cons]
    have hil : i < ops.size := (Array.getElem?_eq_some_iff.1 ho).1
    refine stepF_ok hE hcall ho (fun d hd' => hd i o d ho hd') hs.sr hs.keep hs.slots hs.glob (hf i (by simp)) h1 fun Γ1 a1 hst hfree hsl hsz hdf => ?_
    rw [List.nodup_cons] at hn
    refine runL_wpOps hE hcall L Γ1 s1 s' st1 st' a1 F' (hs.next hst hsl) (fun i o d h1 h2 => by rw [hsz]; exact hd i o d h1 h2) hn.2 (fun j hj id h3 h4 => ?_) (fun id h3 => hfree id (by omega) (hf2 id h3)) h2 fun Γ2 a2 hst2 hf2' hsl2 hsz2 hdf2 => ?_
    · have hne : j ≠ i := fun e => hn.1 (e ▸ hj)
      exact hfree id (by omega) (hf j (List.mem_cons_of_mem _ hj) id h3 h4)
    · exact hQ Γ2 a2 (hst.trans hst2) hf2' hsl2 (hsz2.trans hsz) (hdf2.trans hdf)
/-- any order -/
theorem runL_wpAny (hE : EnvOK E) {call : CallF} (hcall : ∀ f args objs v os, call f args objs = .ok (v, os) → CallOK E f args objs v os) {w0 : World} {M : Nat → Prop} {nx : Nat} {ops : Array Oper} {Q : Exit → Act → World → Prop} (hb : edgesBack 0 ops.toList = true)
    (F0 : List (Nat × Foot)) (hF0 : ∀ k i ok oi fk fi, k < i → (k, fk) ∈ F0 → (i, fi) ∈ F0 → ops[k]? = some ok → ops[i]? = some oi → k ∉ (preds [] ops.toList).getD i [] → Indep ops ok oi fk fi) :
    ∀ (fuel : Nat) (listed : Array Bool) (L : List Nat) (Γ : Ctx) (s s' : Nat → PVal) (st st' : Store) (a : Act) (F : List (Nat × Foot)), L.length = fuel → Rest ops listed L → (∀ x, x ∈ F → x ∈ F0) → Sim E w0 M Γ s st a →
      (∀ (i : Nat) (o : Oper) (d : Nat), ops[i]? = some o → o.dst = some d → d < a.tmps.size) → (∀ i, i ∈ L → ∀ id, nx + 16 * i ≤ id → id < nx + 16 * i + 16 → Γ.φ id = none) → (∀ id, nx + 16 * ops.size ≤ id → Γ.φ id = none) → runL E call ops nx L s st = .ok (s', st', F) →
      (∀ Γ' a', Step w0 M Γ Γ' st' → (∀ id, nx + 16 * ops.size ≤ id → Γ'.φ id = none) → SlotsOK Γ' s' a' → a'.tmps.size = a.tmps.size → a'.defers = a.defers → Q .normal a' Γ'.w) → wpAny E.P .any ops Q fuel listed a Γ.w := by
  intro fuel
  induction fuel with
  | zero =>
    intro listed L Γ s s' st st' a F hlen hr hF hs hd hf hf2 h hQ
    have : L = [] := List.eq_nil_of_length_eq_zero hlen
    subst this
    simp only [runL, R.ok.injEq, Prod.mk.injEq] at h
    obtain ⟨rfl, rfl, rfl⟩ := h
    refine ⟨?_, hQ Γ a (Step.refl hs.sr hs.keep) hf2 hs.slots rfl rfl⟩
    apply List.eq_nil_iff_forall_not_mem.2
    intro i hi
    obtain ⟨h0, o, ho, _⟩ := mem_ready.1 hi
    have := (hr.mem i).2 ⟨(Array.getElem?_eq_some_iff.1 ho).1, h0⟩
    simp at this
  | succ fuel ih =>
    intro listed L Γ s s' st st' a F hlen hr hF hs hd hf hf2 h hQ
    refine ⟨fun hnil => ?_, fun i hi => ?_⟩
    · -- the first that is left is ready
      exfalso
      cases L with
      | nil => simp at hlen
      | cons i0 L =>
        obtain ⟨hi0, hun⟩ := (hr.mem i0).1 (by simp)
        have hready : i0 ∈ Region.ready .any ops listed := by
          rw [mem_ready]
          have ho : ops[i0]? = some ops[i0] := by simp [hi0]
          refine ⟨hun, _, ho, fun e he hbe => ?_⟩
          have hlt := edgesBack_at ops.toList 0 i0 _ hb (by simp) e he hbe
          have hnl : e.on ∉ i0 :: L := fun hm => by
            rcases List.mem_cons.1 hm with e1 | hm
            · omega
            · have := (List.pairwise_cons.1 hr.sorted).1 _ hm; omega
          have h1 : ¬ (e.on < ops.size ∧ listed.getD e.on true = false) := fun h => hnl ((hr.mem e.on).2 h)
          have h2 : listed.getD e.on true = true := by
            cases hq : listed.getD e.on true with
            | true => rfl
            | false => exact absurd ⟨by omega, hq⟩ h1
          rw [← getD_true_false hr.size (by omega)]
          exact h2
        rw [hnil] at hready
        simp at hready
    · obtain ⟨hun, oi, hoi, hall⟩ := mem_ready.1 hi
      have hil : i < ops.size := (Array.getElem?_eq_some_iff.1 hoi).1
      have hiL : i ∈ L := (hr.mem i).2 ⟨hil, hun⟩
      obtain ⟨A, B, rfl⟩ := List.append_of_mem hiL
      have hpw := List.pairwise_append.1 hr.sorted
      have hcl := closure_ok hr hb i oi hoi hall
      obtain ⟨F', h1, h2⟩ := front_ok A B s s' st st' F h (fun k hk ok oi' fk fi hok hoi' hfk hfi => by
        refine hF0 k i ok oi' fk fi (hpw.2.2 k hk i (by simp)) (hF _ hfk) (hF _ hfi) hok hoi' (fun hm => ?_)
        have hkl := (hr.mem k).1 (List.mem_append_left _ hk)
        have := hcl k hm
        rw [← getD_true_false hr.size hkl.1, hkl.2] at this
        cases this)
      rw [runL_cons] at h1
      obtain ⟨o, s1, st1, fp, F1, ho, h3, h4, rfl⟩ := h1
      rw [hoi] at ho
      obtain rfl := Option.some.inj ho
      have hnd : (A ++ i :: B).Nodup := hr.sorted.imp (fun h => by omega)
      have hni : i ∉ A ++ B := by
        have h7 := List.nodup_append.1 hnd
        intro hm
        rcases List.mem_append.1 hm with hm | hm
        · exact h7.2.2 i hm i (by simp) rfl
        · exact (List.nodup_cons.1 h7.2.1).1 hm
      have hsub : ∀ j, j ∈ A ++ B → j ∈ A ++ i :: B := fun j hj => by
        rcases List.mem_append.1 hj with hj | hj
        · exact List.mem_append_left _ hj
        · exact List.mem_append_right _ (List.mem_cons_of_mem _ hj)
      refine stepF_ok hE hcall hoi (fun d hd' => hd i oi d hoi hd') hs.sr hs.keep hs.slots hs.glob (hf i hiL) h3 fun Γ1 a1 hst hfree hsl hsz hdf => ?_
      refine ih (listed.setIfInBounds i true) (A ++ B) Γ1 s1 s' st1 st' a1 F1 (by simp at hlen ⊢; omega) ⟨by simpa using hr.size, ?_, fun j => ?_, fun j o hjo hl e he hbe => ?_⟩ (fun x hx => hF x (h2 x (List.mem_cons_of_mem _ hx))) (hs.next hst hsl)
        (fun i o d h1 h2 => by rw [hsz]; exact hd i o d h1 h2) (fun j hj id h5 h6 => ?_) (fun id h5 => hfree id (by omega) (hf2 id h5)) h4 fun Γ2 a2 hst2 hf2' hsl2 hsz2 hdf2 => hQ Γ2 a2 (hst.trans hst2) hf2' hsl2 (hsz2.trans hsz) (hdf2.trans hdf)
      · refine hr.sorted.sublist ?_
        exact List.Sublist.append_left (List.sublist_cons_self i B) A
      · constructor
        · intro hj
          obtain ⟨h5, h6⟩ := (hr.mem j).1 (hsub j hj)
          refine ⟨h5, ?_⟩
          rw [getD_set_ne true (fun e => hni (by rw [e]; exact hj))]
          exact h6
        · rintro ⟨h5, h6⟩
          have hne : i ≠ j := fun e => by
            subst e
            simp [hr.size, h5] at h6
          rw [getD_set_ne true hne] at h6
          have := (hr.mem j).2 ⟨h5, h6⟩
          rcases List.mem_append.1 this with hj | hj
          · exact List.mem_append_left _ hj
          · rcases List.mem_cons.1 hj with e | hj
            · exact absurd e.symm hne
            · exact List.mem_append_right _ hj
      · by_cases hji : i = j
        · subst hji
          rw [hoi] at hjo
          obtain rfl := Option.some.inj hjo
          exact getD_set_true (hall e he hbe)
        · rw [getD_set_ne false hji] at hl
          exact getD_set_true (hr.closed j o hjo hl e he hbe)
      · have hne : j ≠ i := fun e => hni (e ▸ hj)
        exact hfree id (by omega) (hf j (hsub j hj) id h5 h6)
/-- a region -/
theorem region_ok (hE : EnvOK E) (hm : E.P.follows .mixedOrders = true) {call : CallF} (hcall : ∀ f args objs v os, call f args objs = .ok (v, os) → CallOK E f args objs v os) {w0 : World} {M : Nat → Prop} {nx id : Nat} {ops : Array Oper} {draw : Bool} {Q : Exit → Act → World → Prop}
    {Γ : Ctx} {s s' : Nat → PVal} {st st' : Store} {a : Act} {fps : List Foot} (hs : Sim E w0 M Γ s st a) (hd : ∀ (i : Nat) (o : Oper) (d : Nat), ops[i]? = some o → o.dst = some d → d < a.tmps.size) (hf : ∀ id, nx ≤ id → Γ.φ id = none)
    (h : runF E call ops nx 0 ops.toList s st [] = .ok (s', st', fps)) (hord : draw = false ∨ orderOk ops fps = true)
    (hQ : ∀ Γ' a', Step w0 M Γ Γ' st' → (∀ id, nx + 16 * ops.size ≤ id → Γ'.φ id = none) → SlotsOK Γ' s' a' → a'.tmps.size = a.tmps.size → a'.defers = a.defers → Q .normal a' Γ'.w) : (Code.region id ops draw).wp E.P Q a Γ.w := by
  obtain ⟨F, h1, h2, h3⟩ := runF_runL ops.toList 0 s s' st st' [] fps (fun j o hj => by rw [Nat.zero_add]; simpa using hj) h
  simp only [List.nil_append, Array.length_toList] at h1 h2 h3
  rw [← List.range_eq_range'] at h1 h3
  cases draw with
  | false =>
    refine wp_region (runL_wpOps hE hcall _ Γ s s' st st' a F hs hd List.nodup_range (fun i _ id h4 _ => hf id (by omega)) (fun id h4 => hf id (by omega)) h1 hQ)
  | true =>
    have hord := hord.resolve_left (by simp)
    unfold orderOk at hord
    simp only [Bool.and_eq_true] at hord
    obtain ⟨⟨hb, _⟩, hall⟩ := hord
    refine wp_region_any hm ?_
    have hstep := Step.drew hs.sr hs.keep
    have hsim := hs.next hstep (hs.slots.mono hstep.le)
    have hfp : ∀ k fk, (k, fk) ∈ F → k < ops.size ∧ fps.getD k ([], []) = fk := fun k fk hm => by
      obtain ⟨j, hj⟩ := List.getElem?_of_mem hm
      have e1 : (F.map (·.1))[j]? = some k := by rw [List.getElem?_map, hj]; rfl
      rw [h3] at e1
      have hjn : j < ops.size := by have := (List.getElem?_eq_some_iff.1 e1).1; simpa using this
      rw [List.getElem?_range hjn] at e1
      obtain rfl := Option.some.inj e1
      refine ⟨hjn, ?_⟩
      rw [h2, List.getD_eq_getElem?_getD, List.getElem?_map, hj]
      rfl
    refine runL_wpAny hE hcall hb F (fun k i ok oi fk fi hki hmk hmi hok hoi hnp => ?_) ops.size (Array.replicate ops.size false) (List.range ops.size) _ s s' st st' a F (by simp) ⟨by simp, ?_, fun i => ?_, fun j o _ hl => ?_⟩ (fun _ h => h) hsim hd
      (fun i _ id h4 _ => hf id (by omega)) (fun id h4 => hf id (by omega)) h1 (fun Γ' a' hst' hf' hsl' hsz' hdf' => hQ Γ' a' (hstep.trans hst') hf' hsl' hsz' hdf')
    · obtain ⟨_, e1⟩ := hfp k fk hmk
      obtain ⟨hin, e2⟩ := hfp i fi hmi
      rw [List.all_eq_true] at hall
      have h5 := hall i (by simpa using hin)
      rw [List.all_eq_true] at h5
      have h6 := h5 k (by simpa using hki)
      rw [Bool.or_eq_true] at h6
      rcases h6 with h6 | h6
      · exact absurd (by simpa using h6) hnp
      · have e3 : ops.toList[k]? = some ok := by simpa using hok
        have e4 : ops.toList[i]? = some oi := by simpa using hoi
        rw [e3, e4] at h6
        simp only [] at h6
        rw [e1, e2] at h6
        exact indep_ok h6
    · exact List.pairwise_lt_range
    · rw [List.mem_range]
      constructor
      · intro hi; exact ⟨hi, by simp [hi]⟩
      · exact fun h => h.1
    · exfalso
      by_cases hj : j < ops.size
      · simp [hj] at hl
      · simp [hj] at hl
end
end Go.Pvm
namespace Go.Pvm
open Go.RowKit

theorem defrost1_ok {K : Nat → Prop} {Γ : Ctx} {st : Store} (hsr : SR K Γ st) {c : PVal} {u : Value} (h : VR Γ c u) : VR Γ (defrost1 st c) u ∧ (c.one = true → (defrost1 st c).one = true) := by
  unfold defrost1
  split
  · rename_i id
    split
    · rename_i sz xs ho
      have hob := hsr.obj id
      rw [ho] at hob
      obtain ⟨a, n, cap, rfl, hφ⟩ := own_inv h
      exact ⟨frz_sl hob hφ, fun _ => rfl⟩
    · exact ⟨h, fun h => h⟩
  · exact ⟨h, fun h => h⟩
theorem defrostL_map (st : Store) (cs : List PVal) : defrost.go st cs = cs.map (defrost1 st) := by
  induction cs with
  | nil => rfl
  | cons c cs ih => simp [defrost.go, ih]
theorem defrostO_map (st : Store) (cs : List PVal) : defrostO.go st cs = cs.map (defrost st) := by
  induction cs with
  | nil => rfl
  | cons c cs ih => simp [defrostO.go, ih]
theorem defrost_nagg {st : Store} {c : PVal} (h : ∀ cs, c ≠ .agg cs) : defrost st c = defrost1 st c := by
  cases c <;> first | rfl | exact absurd rfl (h _)
theorem defrost1_nagg {st : Store} {c : PVal} (h : ∀ cs, c ≠ .agg cs) : ∀ cs, defrost1 st c ≠ .agg cs := by
  intro cs
  unfold defrost1
  split
  · split <;> simp
  · exact h cs
theorem defrost_cells (st : Store) (c : PVal) : (defrost st c).cells = c.cells.map (defrost1 st) := by
  by_cases ha : ∃ cs, c = .agg cs
  · obtain ⟨cs, rfl⟩ := ha
    simp [defrost, PVal.cells, defrostL_map]
  · have hna : ∀ cs, c ≠ .agg cs := fun cs e => ha ⟨cs, e⟩
    rw [defrost_nagg hna, cells_one (defrost1_nagg hna), cells_one hna]
    rfl
theorem defrost_ok {K : Nat → Prop} {Γ : Ctx} {st : Store} (hsr : SR K Γ st) {c : PVal} {u : Value} (h : VR Γ c u) : VR Γ (defrost st c) u := by
  by_cases ha : ∃ cs, c = .agg cs
  · obtain ⟨cs, rfl⟩ := ha
    cases h with
    | agg _ vs hl hv =>
      simp only [defrost, defrostL_map]
      refine .agg _ vs (by simpa using hl) fun i c v hc hv' => ?_
      rw [List.getElem?_map, Option.map_eq_some_iff] at hc
      obtain ⟨c0, hc0, rfl⟩ := hc
      exact (defrost1_ok hsr (hv i c0 v hc0 hv')).1
  · rw [defrost_nagg fun cs e => ha ⟨cs, e⟩]
    exact (defrost1_ok hsr h).1
theorem one_defrost1 (st : Store) {c : PVal} (h : c.one = true) : (defrost1 st c).one = true := by
  unfold defrost1
  split
  · split <;> first | rfl | exact h
  · exact h
theorem oneL_defrost (st : Store) {cs : List PVal} (h : oneL cs = true) : oneL (cs.map (defrost1 st)) = true := by
  induction cs with
  | nil => rfl
  | cons c cs ih =>
    simp only [oneL, Bool.and_eq_true] at h
    simp only [List.map_cons, oneL, Bool.and_eq_true]
    exact ⟨one_defrost1 st h.1, ih h.2⟩
theorem live_defrost (st : Store) (o : AObj) : (defrostO st o).live = o.live := by
  cases o with
  | row bx e sz xs => cases bx <;> rfl
  | frz bx sz xs => cases bx <;> rfl
  | _ => rfl
theorem CellsOK.defrost {K : Nat → Prop} {Γ : Ctx} {st : Store} (hsr : SR K Γ st) {sz : Nat} {xs : List PVal} {vs : List Value} (h : CellsOK Γ sz xs vs) : CellsOK Γ sz (xs.map (Pvm.defrost st)) vs := by
  refine ⟨fun x hx => ?_, fun i x j c hx hj => ?_⟩
  · obtain ⟨x0, hx0, rfl⟩ := List.mem_map.1 hx
    rw [defrost_cells]
    exact ⟨by simpa using (h.1 x0 hx0).1, oneL_defrost st (h.1 x0 hx0).2⟩
  · rw [List.getElem?_map, Option.map_eq_some_iff] at hx
    obtain ⟨x0, hx0, rfl⟩ := hx
    rw [defrost_cells, List.getElem?_map, Option.map_eq_some_iff] at hj
    obtain ⟨c0, hc0, rfl⟩ := hj
    obtain ⟨u, hu, hv⟩ := h.2 i x0 j c0 hx0 hc0
    exact ⟨u, hu, (defrost1_ok hsr hv).1⟩
theorem defrostO_ok {K : Nat → Prop} {Γ : Ctx} {st : Store} (hsr : SR K Γ st) {id : Nat} {o : AObj} (h : ObjOK Γ id o) : ObjOK Γ id (defrostO st o) := by
  cases o with
  | none => trivial
  | mp es => exact h
  | row bx e sz xs =>
    cases bx with
    | false => exact h
    | true =>
      obtain ⟨v, vs, hv, hpos, hrow, hc, hcl⟩ := h
      simp only [defrostO, defrostO_map]
      exact ⟨v, vs, hv, hpos, by rw [List.length_map]; exact hrow, hc.defrost hsr, fun e => by cases e⟩
  | frz bx sz xs =>
    cases bx with
    | false => exact h
    | true =>
      obtain ⟨a, cap, hv, hcap, h1, hz, hcl⟩ := h
      simp only [defrostO, defrostO_map]
      refine ⟨a, cap, by rw [List.length_map]; exact hv, by rw [List.length_map]; exact hcap, fun x hx => ?_, fun hne => ?_, fun e => by cases e⟩
      · obtain ⟨x0, hx0, rfl⟩ := List.mem_map.1 hx
        rw [defrost_cells]
        exact ⟨by simpa using (h1 x0 hx0).1, oneL_defrost st (h1 x0 hx0).2⟩
      · obtain ⟨g, ha, hzg, f, hf⟩ := hz (fun e => by subst e; simp at hne)
        refine ⟨g, ha, hzg, f, fun i x j c hx hj => ?_⟩
        rw [List.getElem?_map, Option.map_eq_some_iff] at hx
        obtain ⟨x0, hx0, rfl⟩ := hx
        rw [defrost_cells, List.getElem?_map, Option.map_eq_some_iff] at hj
        obtain ⟨c0, hc0, rfl⟩ := hj
        obtain ⟨k1, k2⟩ := hf i x0 j c0 hx0 hc0
        exact ⟨k1, (defrost1_ok hsr k2).1⟩

structure ReachedN (st : Store) (fl : Nat) (rs ids : List Nat) : Prop where
  ge : ∀ id, id ∈ rs → fl ≤ id
  nodup : rs.Nodup
  root : ∀ id, id ∈ ids → fl ≤ id → id ∈ rs
  closed : ∀ id, id ∈ rs → ∀ k, k ∈ (defrostO st (st id)).ids → fl ≤ k → k ∈ rs
theorem reachN_ok (st : Store) (fl : Nat) : ∀ (n : Nat) (ids acc rs : List Nat), reachN st fl n ids acc = .ok rs → (∀ id, id ∈ acc → fl ≤ id) → acc.Nodup → (∀ id, id ∈ acc → ∀ k, k ∈ (defrostO st (st id)).ids → fl ≤ k → k ∈ acc ∨ k ∈ ids) →
    ReachedN st fl rs ids ∧ ∀ id, id ∈ acc → id ∈ rs := by
  intro n
  induction n with
  | zero =>
    intro ids acc rs h h1 h2 h3
    cases ids with
    | nil =>
      simp only [reachN, R.ok.injEq] at h
      subst h
      exact ⟨⟨h1, h2, by simp, fun id hm k hk hl => (h3 id hm k hk hl).resolve_right (by simp)⟩, fun _ h => h⟩
    | cons id r => cases h
  | succ n ih =>
    intro ids acc rs h h1 h2 h3
    cases ids with
    | nil =>
      simp only [reachN, R.ok.injEq] at h
      subst h
      exact ⟨⟨h1, h2, by simp, fun id hm k hk hl => (h3 id hm k hk hl).resolve_right (by simp)⟩, fun _ h => h⟩
    | cons id r =>
      simp only [reachN] at h
      rcases bif_ok h with ⟨hb, h4⟩ | ⟨hb, h4⟩
      · have hd : fl ≤ id → id ∈ acc := fun hge => by
          rw [Bool.or_eq_true] at hb
          rcases hb with hb | hb
          · have : id + 1 ≤ fl := Nat.le_of_ble_eq_true hb
            omega
          · simpa using hb
        obtain ⟨hr, hm⟩ := ih r acc rs h4 h1 h2 (fun i hi k hk hl => (h3 i hi k hk hl).elim .inl (fun hk => by
          rcases List.mem_cons.1 hk with rfl | hk
          · exact .inl (hd hl)
          · exact .inr hk))
        exact ⟨⟨hr.ge, hr.nodup, fun i hi hl => (List.mem_cons.1 hi).elim (fun e => by subst e; exact hm _ (hd hl)) (fun hi => hr.root i hi hl), hr.closed⟩, hm⟩
      · rw [Bool.or_eq_false_iff] at hb
        have hge : fl ≤ id := by
          rcases Nat.lt_or_ge id fl with hlt | hge
          · have : Nat.blt id fl = true := Nat.ble_eq_true_of_le hlt
            rw [this] at hb; exact absurd hb.1 (by simp)
          · exact hge
        have hni : id ∉ acc := fun hm => by
          have : acc.contains id = true := by simpa using hm
          rw [this] at hb; exact absurd hb.2 (by simp)
        obtain ⟨hr, hm⟩ := ih _ (acc ++ [id]) rs h4 (fun i hi => by
            rcases List.mem_append.1 hi with hi | hi
            · exact h1 i hi
            · simp at hi; subst hi; exact hge) (List.nodup_append.2 ⟨h2, by simp, fun a ha b hb' => by simp at hb'; subst hb'; exact fun e => hni (e ▸ ha)⟩) (fun i hi k hk hl => by
            rcases List.mem_append.1 hi with hi | hi
            · rcases h3 i hi k hk hl with hk | hk
              · exact .inl (List.mem_append_left _ hk)
              · rcases List.mem_cons.1 hk with rfl | hk
                · exact .inl (List.mem_append_right _ (by simp))
                · exact .inr (List.mem_append_right _ hk)
            · simp at hi
              subst hi
              exact .inr (List.mem_append_left _ hk))
        refine ⟨⟨hr.ge, hr.nodup, fun i hi hl => ?_, hr.closed⟩, fun i hi => hm i (List.mem_append_left _ hi)⟩
        rcases List.mem_cons.1 hi with rfl | hi
        · exact hm _ (List.mem_append_right _ (by simp))
        · exact hr.root i (List.mem_append_right _ hi) hl
theorem lowO_get (st : Store) : ∀ (n k i : Nat), i < n → (lowO st n k)[i]? = some (defrostO st (st (k + i)))
  | 0, k, i, h => by omega
  | n + 1, k, i, h => by
    cases i with
    | zero => simp [lowO]
    | succ i =>
      simp only [lowO, List.getElem?_cons_succ]
      rw [lowO_get st n (k + 1) i (by omega), show k + 1 + i = k + (i + 1) by omega]
theorem lowO_len (st : Store) : ∀ (n k : Nat), (lowO st n k).length = n
  | 0, k => rfl
  | n + 1, k => by simp [lowO, lowO_len st n]
theorem mem_idsO {os : List AObj} {id : Nat} {o : AObj} (ho : o ∈ os) (h : id ∈ o.ids) : id ∈ idsO os := by
  induction os with
  | nil => simp at ho
  | cons a r ih =>
    simp only [idsO, List.mem_append]
    rcases List.mem_cons.1 ho with rfl | ho
    · exact .inl h
    · exact .inr (ih ho)
/-- values and a store in their one form -/
theorem canon_ok {K : Nat → Prop} {Γ : Ctx} {st : Store} {fl : Nat} {vs vs' : List PVal} {os : List AObj} {vals : List Value} (hsr : SR K Γ st) (hv : ListVR Γ vs vals) (h : canon fl vs st = .ok (vs', os)) :
    ∃ Γ' : Ctx, Γ'.w = Γ.w ∧ Γ'.Z = Γ.Z ∧ Γ'.B = Γ.B ∧ (∀ id, id < fl → Γ'.φ id = Γ.φ id) ∧ ListVR Γ' vs' vals ∧ SR K Γ' (storeOf os) ∧ (∀ id, os.length ≤ id → Γ'.φ id = none) ∧ fl ≤ os.length := by
  unfold canon at h
  dsimp only at h
  obtain ⟨ids, hids, h⟩ := R.bind_ok h
  simp only [R.ok.injEq, Prod.mk.injEq] at h
  obtain ⟨rfl, rfl⟩ := h
  obtain ⟨hr, _⟩ := reachN_ok st fl 300 _ [] ids hids (by simp) (by simp) (by simp)
  -- where each name comes from
  let src : Nat → Option Nat := fun k => if k < fl then some k else ids[k - fl]?
  have src_lo : ∀ k, k < fl → src k = some k := fun k h => by show (if k < fl then _ else _) = _; rw [if_pos h]
  have src_hi : ∀ k, fl ≤ k → src k = ids[k - fl]? := fun k h => by show (if k < fl then _ else _) = _; rw [if_neg (by omega)]
  let Γ' : Ctx := { Γ with φ := fun k => (src k).bind Γ.φ }
  have hφ : ∀ k id, src k = some id → Γ'.φ k = Γ.φ id := fun k id h => by show (src k).bind Γ.φ = _; rw [h]; rfl
  have hφn : ∀ k, src k = none → Γ'.φ k = none := fun k h => by show (src k).bind Γ.φ = _; rw [h]; rfl
  have hinj : ∀ k k' id, src k = some id → src k' = some id → k = k' := fun k k' id h1 h2 => by
    rcases Nat.lt_or_ge k fl with hk | hk <;> rcases Nat.lt_or_ge k' fl with hk' | hk'
    · rw [src_lo k hk] at h1; rw [src_lo k' hk'] at h2
      exact (Option.some.inj h1).trans (Option.some.inj h2).symm
    · rw [src_lo k hk] at h1; rw [src_hi k' hk'] at h2
      have := hr.ge id (mem_of_get h2)
      have := Option.some.inj h1; omega
    · rw [src_hi k hk] at h1; rw [src_lo k' hk'] at h2
      have := hr.ge id (mem_of_get h1)
      have := Option.some.inj h2; omega
    · rw [src_hi k hk] at h1; rw [src_hi k' hk'] at h2
      obtain ⟨l1, e1⟩ := List.getElem?_eq_some_iff.1 h1
      obtain ⟨l2, e2⟩ := List.getElem?_eq_some_iff.1 h2
      have := (List.getElem_inj hr.nodup).1 (e1.trans e2.symm)
      omega
  have hρlo : ∀ k, k < fl → renOf ids fl k = k := fun k hk => by
    unfold renOf
    cases hi : indexIn ids k 0 with
    | none => rfl
    | some i =>
      have := hr.ge k (mem_of_get (indexIn_spec ids k 0 i hi).2)
      omega
  have hρ : ∀ k, (fl ≤ k → k ∈ ids) → Γ'.φ (renOf ids fl k) = Γ.φ k := fun k h => by
    rcases Nat.lt_or_ge k fl with hk | hk
    · rw [hρlo k hk]; exact hφ k k (src_lo k hk)
    · obtain ⟨i, h1, h2⟩ := renOf_mem fl (h hk)
      rw [h1]
      refine hφ _ k ?_
      rw [src_hi _ (by omega), show fl + i - fl = i by omega]
      exact h2
  have hren : RenOK Γ Γ' (renOf ids fl) false := ⟨rfl, fun _ h => h, fun _ _ h => h⟩
  have hobj : ∀ k id, src k = some id → ((lowO st fl 0 ++ ids.map (fun id => defrostO st (st id))).map (·.ren (renOf ids fl)))[k]? = some ((defrostO st (st id)).ren (renOf ids fl)) := fun k id h => by
    rw [List.getElem?_map]
    rcases Nat.lt_or_ge k fl with hk | hk
    · rw [src_lo k hk] at h
      obtain rfl := Option.some.inj h
      rw [List.getElem?_append_left (by rw [lowO_len]; exact hk), lowO_get st fl 0 k hk, Nat.zero_add]
      rfl
    · rw [src_hi k hk] at h
      rw [List.getElem?_append_right (by rw [lowO_len]; exact hk), lowO_len, List.getElem?_map, h]
      rfl
  have hlen : ((lowO st fl 0 ++ ids.map (fun id => defrostO st (st id))).map (·.ren (renOf ids fl))).length = fl + ids.length := by simp [lowO_len]
  have hnone : ∀ k, src k = none → ((lowO st fl 0 ++ ids.map (fun id => defrostO st (st id))).map (·.ren (renOf ids fl)))[k]? = none := fun k h => by
    rcases Nat.lt_or_ge k fl with hk | hk
    · rw [src_lo k hk] at h; cases h
    · rw [src_hi k hk, List.getElem?_eq_none_iff] at h
      rw [List.getElem?_eq_none_iff, hlen]; omega
  have hids' : ∀ k id, src k = some id → ∀ j, j ∈ (defrostO st (st id)).ids → fl ≤ j → j ∈ ids := fun k id h j hj hl => by
    rcases Nat.lt_or_ge k fl with hk | hk
    · rw [src_lo k hk] at h
      obtain rfl := Option.some.inj h
      refine hr.root j (List.mem_append_right _ ?_) hl
      have := lowO_get st fl 0 k hk
      rw [Nat.zero_add] at this
      exact mem_idsO (mem_of_get this) hj
    · rw [src_hi k hk] at h
      exact hr.closed id (mem_of_get h) j hj hl
  have hcase : ∀ k, (storeOf ((lowO st fl 0 ++ ids.map (fun id => defrostO st (st id))).map (·.ren (renOf ids fl))) k).live = true → ∃ id, src k = some id ∧ (st id).live = true := fun k hl => by
    cases hk : src k with
    | none => rw [storeOf_none (hnone k hk)] at hl; cases hl
    | some id => rw [storeOf_some (hobj k id hk), live_ren, live_defrost] at hl; exact ⟨id, rfl, hl⟩
  refine ⟨Γ', rfl, rfl, rfl, fun id hid => hφ id id (src_lo id hid), ?_, ⟨fun k => ?_, fun k v b hl hv' hb => ?_, fun k k' v v' b hl hl' hv1 hv2 hb hb' => ?_, hsr.zlt⟩, fun id hid => hφn id ?_, by rw [hlen]; omega⟩
  · have hd : ListVR Γ (defrostO.go st vs) vals := by
      rw [defrostO_map]
      refine ⟨by simp [hv.1], fun i p v hp hv' => ?_⟩
      rw [List.getElem?_map, Option.map_eq_some_iff] at hp
      obtain ⟨p0, hp0, rfl⟩ := hp
      exact defrost_ok hsr (hv.2 i p0 v hp0 hv')
    exact hd.rename hren (fun e => by cases e) (fun id u hid hu => by
      rw [hρ id (fun hl => hr.root id (List.mem_append_left _ hid) hl)]; exact hu)
  · cases hk : src k with
    | none => rw [storeOf_none (hnone k hk)]; trivial
    | some id =>
      rw [storeOf_some (hobj k id hk)]
      exact ObjOK.rename hren (defrostO_ok hsr (hsr.obj id)) (fun u hu => by rw [hφ k id hk]; exact hu) (fun e => by cases e) (fun j u hj hu => by rw [hρ j (hids' k id hk j hj)]; exact hu)
  · obtain ⟨id, hk, hl1⟩ := hcase k hl
    rw [hφ k id hk] at hv'
    exact hsr.own id v b hl1 hv' hb
  · obtain ⟨id, hk1, hl1⟩ := hcase k hl
    obtain ⟨id', hk2, hl2⟩ := hcase k' hl'
    rw [hφ k id hk1] at hv1
    rw [hφ k' id' hk2] at hv2
    have := hsr.disj id id' v v' b hl1 hl2 hv1 hv2 hb hb'
    subst this
    exact hinj k k' id hk1 hk2
  · rw [hlen] at hid
    rw [src_hi id (by omega), List.getElem?_eq_none (by omega)]
end Go.Pvm
namespace Go.Pvm
open Go.RowKit

/-- all slots that are written lie in the frame -/
def wfOps (N : Nat) : List Oper → Bool
  | [] => true
  | o :: r => (match o.dst with | some d => Nat.blt d N | none => true) && wfOps N r
def wfC (N : Nat) : Code → Bool
  | .region _ ops _ => wfOps N ops.toList
  | .seq a b => wfC N a && wfC N b
  | .cond _ a b => wfC N a && wfC N b
  | .block _ c => wfC N c
  | .loop c => wfC N c
  | _ => true
theorem wfOps_get {N : Nat} {l : List Oper} (h : wfOps N l = true) {i : Nat} {o : Oper} {d : Nat} (hi : l[i]? = some o) (hd : o.dst = some d) : d < N := by
  induction l generalizing i with
  | nil => simp at hi
  | cons a r ih =>
    simp only [wfOps, Bool.and_eq_true] at h
    cases i with
    | zero =>
      simp at hi
      subst hi
      rw [hd] at h
      exact Nat.le_of_ble_eq_true h.1
    | succ i => exact ih h.2 (by simpa using hi)

/-- an activation, from its entry on -/
structure At (E : Env) (Γ0 : Ctx) (M : Nat → Prop) (N : Nat) (Γ : Ctx) (σ : St) (a : Act) : Prop where
  sim : Sim E Γ0.w M Γ σ.slots σ.store a
  base : Γ0.le Γ
  zz : ∀ b, Γ.Z b → Γ0.Z b ∨ KK Γ0.w M b
  fresh : ∀ id, σ.next ≤ id → Γ.φ id = none
  size : N ≤ a.tmps.size
  defers : a.defers = []
def exitOf : Ex → Exit
  | .normal => .normal
  | .exit id => .exit id
  | .ret => .ret

theorem slotsOf_ok {Γ : Ctx} {a : Act} : ∀ (live : List Nat) (vs : List PVal), ListVR Γ vs (live.map fun t => a.tmps.getD t undef) → SlotsOK Γ (slotsOf live vs) a
  | [], vs, h => fun t => by cases vs <;> exact .undef _
  | x :: live, [], h => fun t => .undef _
  | x :: live, v :: vs, h => fun t => by
    have h' : ListVR Γ (v :: vs) (a.tmps.getD x undef :: live.map fun t => a.tmps.getD t undef) := h
    obtain ⟨h1, h2⟩ := h'.inv
    simp only [slotsOf]
    cases hb : Nat.beq t x with
    | true => have := Nat.eq_of_beq_eq_true hb; subst this; exact h1
    | false => exact slotsOf_ok live vs h2 t
theorem getSlots_VR {Γ : Ctx} {s : Nat → PVal} {a : Act} (h : SlotsOK Γ s a) : ∀ (live : List Nat), ListVR Γ (getSlots s live) (live.map fun t => a.tmps.getD t undef)
  | [] => ListVR.nil _
  | t :: live => ListVR.cons (h t) (getSlots_VR h live)
section
variable {E : Env}
/-- a state in one form goes on -/
theorem At.head (hE : EnvOK E) {Γ0 Γ : Ctx} {M : Nat → Prop} {N fl : Nat} {σ : St} {a : Act} {live : List Nat} {vs : List PVal} {os : List AObj} (h : At E Γ0 M N Γ σ a) (hfl : ∀ id, fl ≤ id → Γ0.φ id = none) (hc : canon fl (getSlots σ.slots live) σ.store = .ok (vs, os)) :
    ∃ Γ', Γ'.w = Γ.w ∧ At E Γ0 M N Γ' (headSt live vs os) a := by
  obtain ⟨Γ', hw, hZ, hB, hφ, hv, hsr, hn, _⟩ := canon_ok h.sim.sr (getSlots_VR h.sim.slots live) hc
  have hg : GlobOK E Γ' := h.sim.glob.rename hE (ρ := fun k => k) (b := false) ⟨hw, fun b hb => by rw [hZ]; exact hb, fun _ b hb => by rw [hB]; exact hb⟩
  refine ⟨Γ', hw, ⟨hsr, by rw [hw]; exact h.sim.keep, slotsOf_ok live vs hv, hg⟩, ⟨fun b hb => by rw [hZ]; exact h.base.Z b hb, fun b => by rw [hB]; exact h.base.B b, fun b hb => by rw [hw]; exact h.base.blk b hb, fun id v hid => ?_⟩, fun b hb => h.zz b (by rw [hZ] at hb; exact hb), hn, h.size, h.defers⟩
  rcases Nat.lt_or_ge id fl with hlt | hge
  · rw [hφ id hlt]; exact h.base.φ id v hid
  · rw [hfl id hge] at hid; cases hid
/-- What a loop is to keep, with so many rounds. -/
def LoopOK (E : Env) (n : Nat) (loop : LoopF) : Prop := ∀ (fl fid bid : Nat) (c : Code) (vs : List PVal) (os : List AObj) (e : Ex) (σ' : St), loop fl fid bid c vs os = .ok (e, σ') →
  ∀ (Γ0 Γ : Ctx) (M : Nat → Prop) (N : Nat) (a : Act) (Q : Exit → Act → World → Prop), wfC N c = true → (∀ id, fl ≤ id → Γ0.φ id = none) → At E Γ0 M N Γ (headSt (E.h.live fid bid) vs os) a →
    (∀ Γ' a', At E Γ0 M N Γ' σ' a' → Q (exitOf e) a' Γ'.w) → Code.rounds E.P c Q n a Γ.w
theorem exC_ok (hE : EnvOK E) (hm : E.P.follows .mixedOrders = true) {call : CallF} {loop : LoopF} {n : Nat} (hcall : ∀ f args objs v os, call f args objs = .ok (v, os) → CallOK E f args objs v os) (hloop : LoopOK E n loop) {fl fid : Nat} {Γ0 : Ctx} {M : Nat → Prop} {N : Nat} (hfl : ∀ id, fl ≤ id → Γ0.φ id = none) :
    ∀ (c : Code) (bid : Nat) (σ σ' : St) (e : Ex) (Γ : Ctx) (a : Act) (Q : Exit → Act → World → Prop), wfC N c = true → exC E call loop fl fid bid c σ = .ok (e, σ') → At E Γ0 M N Γ σ a →
      (∀ Γ' a', At E Γ0 M N Γ' σ' a' → Q (exitOf e) a' Γ'.w) → c.wp E.P Q a Γ.w := by
  intro c
  induction c with
  | skip =>
    intro bid σ σ' e Γ a Q hwf h hat hQ
    simp only [exC, R.ok.injEq, Prod.mk.injEq] at h
    obtain ⟨rfl, rfl⟩ := h
    exact wp_skip (hQ Γ a hat)
  | exit id =>
    intro bid σ σ' e Γ a Q hwf h hat hQ
    simp only [exC, R.ok.injEq, Prod.mk.injEq] at h
    obtain ⟨rfl, rfl⟩ := h
    exact wp_exit (hQ Γ a hat)
  | ret =>
    intro bid σ σ' e Γ a Q hwf h hat hQ
    simp only [exC, R.ok.injEq, Prod.mk.injEq] at h
    obtain ⟨rfl, rfl⟩ := h
    exact wp_ret (hQ Γ a hat)
  | region id ops draw =>
    intro bid σ σ' e Γ a Q hwf h hat hQ
    simp only [exC] at h
    cases hr : runF E call ops σ.next 0 ops.toList σ.slots σ.store [] with
    | no w => rw [hr] at h; cases h
    | ok p =>
      obtain ⟨s1, st1, fps⟩ := p
      rw [hr] at h
      simp only [] at h
      split at h
      · rename_i hord
        simp only [R.ok.injEq, Prod.mk.injEq] at h
        obtain ⟨rfl, rfl⟩ := h
        refine region_ok hE hm hcall hat.sim (fun i o d ho hd => Nat.lt_of_lt_of_le (wfOps_get hwf (i := i) (by simpa using ho) hd) hat.size) hat.fresh hr hord fun Γ' a' hst hf hsl hsz hdf => ?_
        exact hQ Γ' a' ⟨hat.sim.next hst hsl, hat.base.trans hst.le, fun b hb => (hst.zz b hb).elim (hat.zz b) .inr, hf, by rw [hsz]; exact hat.size, hdf.trans hat.defers⟩
      · cases h
  | seq x y ihx ihy =>
    intro bid σ σ' e Γ a Q hwf h hat hQ
    simp only [wfC, Bool.and_eq_true] at hwf
    simp only [exC] at h
    cases hx : exC E call loop fl fid bid x σ with
    | no w => rw [hx] at h; cases h
    | ok p =>
      obtain ⟨e1, σ1⟩ := p
      rw [hx] at h
      refine wp_seq (ihx bid σ σ1 e1 Γ a _ hwf.1 hx hat fun Γ1 a1 hat1 => ?_)
      cases e1 with
      | normal =>
        simp only [] at h
        show y.wp E.P Q a1 Γ1.w
        split at h
        · exact ihy bid σ1 σ' e Γ1 a1 Q hwf.2 h hat1 hQ
        · rename_i live _
          split at h
          · cases h
          · rename_i vs os hc
            obtain ⟨Γ2, hw, hat2⟩ := hat1.head hE hfl hc
            rw [← hw]
            exact ihy bid _ σ' e Γ2 a1 Q hwf.2 h hat2 hQ
      | exit id =>
        simp only [R.ok.injEq, Prod.mk.injEq] at h
        obtain ⟨rfl, rfl⟩ := h
        exact hQ Γ1 a1 hat1
      | ret =>
        simp only [R.ok.injEq, Prod.mk.injEq] at h
        obtain ⟨rfl, rfl⟩ := h
        exact hQ Γ1 a1 hat1
  | cond c x y ihx ihy =>
    intro bid σ σ' e Γ a Q hwf h hat hQ
    simp only [wfC, Bool.and_eq_true] at hwf
    simp only [exC] at h
    have hc := opd_ok (E := E) hat.sim.slots hat.sim.glob c
    split at h
    · rename_i t hb
      rw [hb] at hc
      have hct : a.eval c = .bool t := by
        generalize a.eval c = q at hc
        cases hc
        rfl
      split at h
      · rename_i ht
        subst ht
        exact wp_cond_true hct (ihx bid σ σ' e Γ a Q hwf.1 h hat hQ)
      · rename_i ht
        have ht : t = false := by simpa using ht
        subst ht
        exact wp_cond_false hct (ihy bid σ σ' e Γ a Q hwf.2 h hat hQ)
    · cases h
  | block id c ih =>
    intro bid σ σ' e Γ a Q hwf h hat hQ
    simp only [wfC] at hwf
    simp only [exC] at h
    cases hx : exC E call loop fl fid id c σ with
    | no w => rw [hx] at h; cases h
    | ok p =>
      obtain ⟨e1, σ1⟩ := p
      rw [hx] at h
      refine wp_block (ih id σ σ1 e1 Γ a _ hwf hx hat fun Γ1 a1 hat1 => ?_)
      cases e1 with
      | normal =>
        simp only [R.ok.injEq, Prod.mk.injEq] at h
        obtain ⟨rfl, rfl⟩ := h
        exact hQ Γ1 a1 hat1
      | ret =>
        simp only [R.ok.injEq, Prod.mk.injEq] at h
        obtain ⟨rfl, rfl⟩ := h
        exact hQ Γ1 a1 hat1
      | exit id' =>
        simp only [] at h
        show (if id' = id then Q .normal a1 Γ1.w else Q (.exit id') a1 Γ1.w)
        split at h
        · rename_i he
          simp only [R.ok.injEq, Prod.mk.injEq] at h
          obtain ⟨rfl, rfl⟩ := h
          rw [if_pos he]
          exact hQ Γ1 a1 hat1
        · rename_i he
          simp only [R.ok.injEq, Prod.mk.injEq] at h
          obtain ⟨rfl, rfl⟩ := h
          rw [if_neg he]
          exact hQ Γ1 a1 hat1
  | loop c ih =>
    intro bid σ σ' e Γ a Q hwf h hat hQ
    simp only [wfC] at hwf
    simp only [exC] at h
    split at h
    · cases h
    · rename_i vs os hc
      obtain ⟨Γ2, hw, hat2⟩ := hat.head hE hfl hc
      rw [← hw]
      exact wp_loop_rounds n (hloop fl fid bid c vs os e σ' h Γ0 Γ2 M N a Q hwf hfl hat2 hQ)
  | _ => intro bid σ σ' e Γ a Q hwf h; simp [exC] at h
theorem loopStep_ok (hE : EnvOK E) (hm : E.P.follows .mixedOrders = true) {l : Lv} {n : Nat} (hcall : ∀ f args objs v os, l.call f args objs = .ok (v, os) → CallOK E f args objs v os) (hloop : LoopOK E n l.loop) : LoopOK E (n + 1) (loopStep E l) := by
  intro fl fid bid c vs os e σ' h Γ0 Γ M N a Q hwf hfl hat hQ
  unfold loopStep at h
  rw [rounds_succ]
  cases hx : exC E l.call l.loop fl fid bid c (headSt (E.h.live fid bid) vs os) with
  | no w => rw [hx] at h; cases h
  | ok p =>
    obtain ⟨e1, σ1⟩ := p
    rw [hx] at h
    refine exC_ok hE hm hcall hloop hfl c bid _ σ1 e1 Γ a _ hwf hx hat fun Γ1 a1 hat1 => ?_
    cases e1 with
    | normal =>
      simp only [] at h
      show Code.rounds E.P c Q n a1 Γ1.w
      split at h
      · cases h
      · rename_i vs' os' hc
        obtain ⟨Γ2, hw, hat2⟩ := hat1.head hE hfl hc
        rw [← hw]
        exact hloop fl fid bid c vs' os' e σ' h Γ0 Γ2 M N a1 Q hwf hfl hat2 hQ
    | exit id =>
      simp only [R.ok.injEq, Prod.mk.injEq] at h
      obtain ⟨rfl, rfl⟩ := h
      exact hQ Γ1 a1 hat1
    | ret =>
      simp only [R.ok.injEq, Prod.mk.injEq] at h
      obtain ⟨rfl, rfl⟩ := h
      exact hQ Γ1 a1 hat1
end
end Go.Pvm
namespace Go.Pvm
open Go.RowKit
section
variable {E : Env}
theorem loadA_ptr {Γ : Ctx} {t : Nat} {p v : PVal} {pv : Value} {st st' : Store} {T W : List Nat} (hp : VR Γ p pv) (h : (loadA E t p).run st = .ok (v, st', T, W)) : ∃ ad, pv = .pointer (some ad) := by
  unfold loadA at h
  dsimp only at h
  rcases AM.bif_ok h with ⟨_, h⟩ | ⟨ht, h⟩
  · exact (AM.fail_ok h).elim
  cases hp with
  | ref id sz i off g vv hφ hg => exact ⟨_, rfl⟩
  | fptr b x ad hz ho f hc hv => exact ⟨_, rfl⟩
  | _ => exact (AM.fail_ok h).elim
/-- one result in the model -/
def resOne (tmps : Array Value) : ResultVar → Sem Value
  | .tmp t => pure (tmps.getD t undef)
  | .cell a t => do loadVar t (← asAddr (tmps.getD a undef))
theorem results_eq (fn : Func) (tmps : Array Value) : results fn tmps = (do
    let vs ← fn.results.mapM (resOne tmps)
    pure (if h : vs.size = 1 then vs[0] else .tuple vs)) := by
  unfold results
  have : (fun | .tmp t => pure (tmps.getD t undef) | .cell a t => do loadVar t (← asAddr (tmps.getD a undef)) : ResultVar → Sem Value) = resOne tmps := by
    funext r; cases r <;> rfl
  rw [← this]
  rfl
theorem resultsA_ok {K : Nat → Prop} {Γ : Ctx} {st : Store} {s : Nat → PVal} {a : Act} (hsr : SR K Γ st) (hs : SlotsOK Γ s a) : ∀ (rs : List ResultVar) (vs : List PVal) (st' : Store) (T W : List Nat), (resultsA E s rs).run st = .ok (vs, st', T, W) →
    st' = st ∧ ∃ us, (rs.mapM (resOne a.tmps)).run E.P Γ.w = .ok us Γ.w ∧ ListVR Γ vs us
  | [], vs, st', T, W, h => by
    simp only [resultsA] at h
    obtain ⟨rfl, rfl⟩ := AM.pure_ok h
    exact ⟨rfl, [], rfl, ListVR.nil _⟩
  | .tmp t :: r, vs, st', T, W, h => by
    simp only [resultsA] at h
    obtain ⟨vs', s1, t1, w1, t2, w2, h1, h2, _, _⟩ := AM.bind_ok h
    obtain ⟨rfl, rfl⟩ := AM.pure_ok h2
    obtain ⟨rfl, us, hu, hv⟩ := resultsA_ok hsr hs r vs' _ _ _ h1
    refine ⟨rfl, a.tmps.getD t undef :: us, ?_, .cons (hs t) hv⟩
    simp only [List.mapM_cons, resOne, Sem.run_bind, Sem.run_pure, Result.andThen_ok, hu]
  | .cell b t :: r, vs, st', T, W, h => by
    simp only [resultsA] at h
    obtain ⟨v, s1, t1, w1, t2, w2, h1, h2, _, _⟩ := AM.bind_ok h
    obtain ⟨vs', s2, t3, w3, t4, w4, h3, h4, _, _⟩ := AM.bind_ok h2
    obtain ⟨rfl, rfl⟩ := AM.pure_ok h4
    obtain ⟨ad, hpv⟩ := loadA_ptr (hs b) h1
    obtain ⟨rfl, u, hu, hvu⟩ := loadA_ok hsr (hs b) h1
    obtain ⟨rfl, us, hus, hv⟩ := resultsA_ok hsr hs r vs' _ _ _ h3
    refine ⟨rfl, u :: us, ?_, .cons hvu hv⟩
    rw [hpv] at hu
    simp only [Instr.loadAt, Instr.sureAddr, Sem.run_bind, Sem.run_pure, Result.andThen_ok] at hu
    simp only [List.mapM_cons, resOne, hpv, asAddr, Sem.run_bind, Sem.run_pure, Result.andThen_ok, hu, hus]
theorem one_ok {Γ : Ctx} {vs : List PVal} {us : List Value} (h : ListVR Γ vs us) : VR Γ (one vs) (if h : us.toArray.size = 1 then us.toArray[0] else .tuple us.toArray) := by
  cases vs with
  | nil =>
    have : us = [] := List.eq_nil_of_length_eq_zero h.1.symm
    subst this
    exact .tup [] #[] rfl (fun i c v h => by simp at h)
  | cons v vs =>
    cases us with
    | nil => have := h.1; simp at this
    | cons u us =>
      cases vs with
      | nil =>
        have : us = [] := List.eq_nil_of_length_eq_zero (by have := h.1; simpa using this.symm)
        subst this
        exact h.inv.1
      | cons v' vs =>
        have hne : ¬ (u :: us).toArray.size = 1 := by have := h.1; simp at this ⊢; intro e; subst e; simp at this
        rw [dif_neg hne]
        exact .tup _ _ (by simpa using h.1) (fun i c q hc hq => h.2 i c q hc (by simpa using hq))
theorem leave_ok (hE : EnvOK E) {Γ0 Γ : Ctx} {M : Nat → Prop} {N fl fid : Nat} {fn : Func} {σ : St} {a : Act} {v : PVal} {os : List AObj} (h : At E Γ0 M N Γ σ a) (hfl : ∀ id, fl ≤ id → Γ0.φ id = none) (hl : leave E fid fl fn σ = .ok (v, os)) :
    ∃ (u : Value) (Γ' : Ctx), (results fn a.tmps).run E.P Γ.w = .ok u Γ.w ∧ Γ'.w = Γ.w ∧ Γ0.le Γ' ∧ VR Γ' v u ∧ SR (KK Γ0.w M) Γ' (storeOf os) ∧ (∀ id, os.length ≤ id → Γ'.φ id = none) ∧ ∀ b, Γ'.Z b → Γ0.Z b ∨ KK Γ0.w M b := by
  unfold leave at hl
  cases hr : (retA E (E.h.ownRet fid) σ.slots fn.results.toList).run σ.store with
  | no w => rw [hr] at hl; cases hl
  | ok p =>
    obtain ⟨v1, st1, t1, w1⟩ := p
    rw [hr] at hl
    simp only [] at hl
    unfold retA at hr
    obtain ⟨vs, s1, t2, w2, t3, w3, h1, h2, _, _⟩ := AM.bind_ok hr
    obtain ⟨rfl, us, hus, hv⟩ := resultsA_ok h.sim.sr h.sim.slots _ _ _ _ _ h1
    have key : ∃ Γ1, Frz (KK Γ0.w M) Γ Γ1 st1 ∧ VR Γ1 v1 (if h : us.toArray.size = 1 then us.toArray[0] else .tuple us.toArray) := by
      rcases AM.bif_ok h2 with ⟨_, h3⟩ | ⟨_, h3⟩
      · obtain ⟨rfl, rfl⟩ := AM.pure_ok h3
        exact ⟨Γ, Frz.refl h.sim.sr, one_ok hv⟩
      · obtain ⟨vs', s2, t4, w4, t5, w5, h4, h5, _, _⟩ := AM.bind_ok h3
        obtain ⟨rfl, rfl⟩ := AM.pure_ok h5
        obtain ⟨Γ1, hf, hl1, hv1⟩ := freezeL_ok vs h.sim.sr hv.1 hv.2 h4
        exact ⟨Γ1, hf, one_ok ⟨hl1, hv1⟩⟩
    obtain ⟨Γ1, hf, hv1⟩ := key
    have hrun : (results fn a.tmps).run E.P Γ.w = .ok (if h : us.toArray.size = 1 then us.toArray[0] else .tuple us.toArray) Γ.w := by
      rw [results_eq, Array.mapM_eq_mapM_toList]
      simp only [Sem.run_bind, Sem.run_map, hus, Result.andThen_ok, Sem.run_pure]
    split at hl
    · rename_i v' os' hc
      simp only [R.ok.injEq, Prod.mk.injEq] at hl
      obtain ⟨rfl, rfl⟩ := hl
      obtain ⟨Γ2, hw, hZ, hB, hφ, hlv, hsr, hn, _⟩ := canon_ok hf.sr (ListVR.cons hv1 (ListVR.nil _)) hc
      refine ⟨_, Γ2, hrun, hw.trans hf.w, ⟨fun b hb => by rw [hZ]; exact hf.le.Z b (h.base.Z b hb), fun b => by rw [hB]; exact (hf.le.B b).trans (h.base.B b), fun b hb => by rw [hw, hf.w]; exact h.base.blk b hb, fun id u hid => ?_⟩, hlv.inv.1, hsr, hn, fun b hb => ?_⟩
      · rcases Nat.lt_or_ge id fl with hlt | hge
        · rw [hφ id hlt]; exact hf.le.φ id u (h.base.φ id u hid)
        · rw [hfl id hge] at hid; cases hid
      · rw [hZ] at hb
        exact (hf.zz b hb).elim (h.zz b) .inr
    · cases hl
    · cases hl
/-- what is asked of the program's functions -/
def WfEnv (E : Env) : Prop := ∀ f fn c, E.look f = some fn → fn.body = some c → wfC fn.ntmps c = true
theorem callStep_ok (hE : EnvOK E) (hW : WfEnv E) (hm : E.P.follows .mixedOrders = true) {l : Lv} {n : Nat} (hcall : ∀ f args objs v os, l.call f args objs = .ok (v, os) → CallOK E f args objs v os) (hloop : LoopOK E n l.loop) :
    ∀ f args objs v os, callStep E l f args objs = .ok (v, os) → CallOK E f args objs v os := by
  intro f args objs v os h Γ M vals hv hsr hfl hg
  unfold callStep at h
  split at h
  · cases h
  · rename_i fn hlook
    split at h
    · cases h
    · rename_i c hbody
      have main : ∀ e σ, exC E l.call l.loop objs.length f 0 c (entry args objs) = .ok (e, σ) → (e = .normal ∨ e = .ret) → leave E f objs.length fn σ = .ok (v, os) → Calls E.P f vals.toArray Γ.w fun r w' => match r with
          | .returned u => ∃ Γ' : Ctx, Γ'.w = w' ∧ Γ.le Γ' ∧ VR Γ' v u ∧ SR (KK Γ.w M) Γ' (storeOf os) ∧ Keep Γ.w M w' ∧ (∀ id, os.length ≤ id → Γ'.φ id = none) ∧ ∀ b, Γ'.Z b → Γ.Z b ∨ KK Γ.w M b
          | _ => False := by
        intro e σ hx he hl
        refine calls_of_wp (hE.look f fn hlook) hbody ?_
        have hat : At E Γ M fn.ntmps Γ (entry args objs) { tmps := vals.toArray ++ Array.replicate (fn.ntmps - vals.toArray.size) undef, defers := [] } := by
          refine ⟨⟨⟨hsr.obj, fun id v k hl hv hb => ⟨.inl (hsr.own id v k hl hv hb).1, (hsr.own id v k hl hv hb).2⟩, hsr.disj, hsr.zlt⟩, Keep.refl _ _, fun t => ?_, hg⟩, Ctx.le.refl Γ, fun b hb => .inl hb, hfl, by simp; omega, rfl⟩
          show VR Γ (match args[t]? with | some v => v | none => .tup []) _
          rcases Nat.lt_or_ge t args.length with hlt | hge
          · have hlv : t < vals.length := by rw [← hv.1]; exact hlt
            rw [List.getElem?_eq_getElem hlt]
            have := hv.2 t _ _ (List.getElem?_eq_getElem hlt) (List.getElem?_eq_getElem hlv)
            rw [Array.getD_eq_getD_getElem?, Array.getElem?_append_left (by simpa using hlv)]
            simpa [hlv] using this
          · have hlv : vals.length ≤ t := by rw [← hv.1]; exact hge
            rw [List.getElem?_eq_none hge, Array.getD_eq_getD_getElem?, Array.getElem?_append_right (by simpa using hlv)]
            have : ((Array.replicate (fn.ntmps - vals.toArray.size) undef)[t - vals.toArray.size]?).getD undef = undef := by
              rw [Array.getElem?_replicate]
              split <;> rfl
            rw [this]
            exact tup0 Γ
        refine exC_ok hE hm hcall hloop hfl c 0 _ σ e Γ _ _ (hW f fn c hlook hbody) hx hat fun Γ1 a1 hat1 => ?_
        obtain ⟨u, Γ2, hr, hw, hle, hvu, hsr2, hn, hz⟩ := leave_ok hE hat1 hfl hl
        have post : a1.defers = [] ∧ ∃ v0, (results fn a1.tmps).run E.P Γ1.w = .ok v0 Γ1.w ∧ (∃ Γ' : Ctx, Γ'.w = Γ1.w ∧ Γ.le Γ' ∧ VR Γ' v v0 ∧ SR (KK Γ.w M) Γ' (storeOf os) ∧ Keep Γ.w M Γ1.w ∧ (∀ id, os.length ≤ id → Γ'.φ id = none) ∧ ∀ b, Γ'.Z b → Γ.Z b ∨ KK Γ.w M b) :=
          ⟨hat1.defers, u, hr, Γ2, hw, hle, hvu, hsr2, hat1.sim.keep, hn, hz⟩
        rcases he with rfl | rfl
        · exact post
        · exact post
      split at h
      · cases h
      · cases h
      · rename_i e σ hne hx
        refine main e σ hx ?_ h
        cases e with
        | normal => exact .inl rfl
        | ret => exact .inr rfl
        | exit id => exact (hne id rfl).elim
/-- what the abstract machine computes is what the model's functions compute -/
theorem lv_ok (hE : EnvOK E) (hW : WfEnv E) (hm : E.P.follows .mixedOrders = true) : ∀ n, (∀ f args objs v os, (lv E n).call f args objs = .ok (v, os) → CallOK E f args objs v os) ∧ LoopOK E n (lv E n).loop
  | 0 => ⟨fun f args objs v os h => by simp [lv] at h, fun fl fid bid c vs os e σ' h => by simp [lv] at h⟩
  | n + 1 => ⟨callStep_ok hE hW hm (lv_ok hE hW hm n).1 (lv_ok hE hW hm n).2, loopStep_ok hE hm (lv_ok hE hW hm n).1 (lv_ok hE hW hm n).2⟩
end
end Go.Pvm
namespace Go.Pvm
section
variable {E : Env}
def CallLe (c c' : CallF) : Prop := ∀ f args objs r, c f args objs = .ok r → c' f args objs = .ok r
def LoopLe (l l' : LoopF) : Prop := ∀ fl fid bid c vs os r, l fl fid bid c vs os = .ok r → l' fl fid bid c vs os = .ok r
theorem callS_mono {c c' : CallF} (h : CallLe c c') {n0 f : Nat} {args : List PVal} {st : Store} {r : PVal × Store × List Nat × List Nat} (hr : callS E c n0 f args st = .ok r) : callS E c' n0 f args st = .ok r := by
  unfold callS at hr ⊢
  cases hp : (prepA E f args).run st with
  | no w => rw [hp] at hr; cases hr
  | ok p =>
    obtain ⟨⟨as, rs⟩, st1, t, w⟩ := p
    rw [hp] at hr
    simp only [] at hr ⊢
    cases hs : E.spec f with
    | some g => rw [hs] at hr; exact hr
    | none =>
      rw [hs] at hr
      simp only [] at hr ⊢
      cases hc : callR E c f (PVal.ren.renL (renOf (idsOf rs) 0) as) (rs.map fun p => p.2.ren (renOf (idsOf rs) 0)) with
      | no w => rw [hc] at hr; cases hr
      | ok q =>
        rw [hc] at hr
        have hc' : callR E c' f (PVal.ren.renL (renOf (idsOf rs) 0) as) (rs.map fun p => p.2.ren (renOf (idsOf rs) 0)) = .ok q := by
          unfold callR at hc ⊢
          cases hrun : E.run f with
          | some g => rw [hrun] at hc; exact hc
          | none => rw [hrun] at hc; exact h _ _ _ _ hc
        rw [hc']; exact hr
theorem doF_mono {c c' : CallF} (h : CallLe c c') {n0 : Nat} {o : Oper} {s : Nat → PVal} {st : Store} {r : PVal × Store × List Nat × List Nat} (hr : doF E c n0 o s st = .ok r) : doF E c' n0 o s st = .ok r := by
  unfold doF at hr ⊢
  split at hr
  · exact callS_mono h hr
  · exact hr
theorem stepF_mono {c c' : CallF} (h : CallLe c c') {ops : Array Oper} {nx i : Nat} {o : Oper} {s : Nat → PVal} {st : Store} {r : (Nat → PVal) × Store × Foot} (hr : stepF E c ops nx i o s st = .ok r) : stepF E c' ops nx i o s st = .ok r := by
  have key : (match doF E c (nx + 16 * i) o s st with
      | .no w => (.no w : R ((Nat → PVal) × Store × Foot))
      | .ok (v, st', t, w) => .ok (setSlot s o.dst v, st', t, w)) = .ok r → (match doF E c' (nx + 16 * i) o s st with
      | .no w => (.no w : R ((Nat → PVal) × Store × Foot))
      | .ok (v, st', t, w) => .ok (setSlot s o.dst v, st', t, w)) = .ok r := fun hk => by
    cases hd : doF E c (nx + 16 * i) o s st with
    | no w => rw [hd] at hk; cases hk
    | ok p => rw [hd] at hk; rw [doF_mono h hd]; exact hk
  unfold stepF at hr ⊢
  dsimp only at hr ⊢
  cases hw : wantA ops o s with
  | no w => rw [hw] at hr; cases hr
  | ok x =>
    rw [hw] at hr
    cases x with
    | yes => exact key hr
    | no => exact hr
    | ask d w b =>
      simp only [] at hr ⊢
      by_cases hb : b = w
      · rw [if_pos hb] at hr ⊢; exact key hr
      · rw [if_neg hb] at hr ⊢; exact hr
theorem runF_mono {c c' : CallF} (h : CallLe c c') {ops : Array Oper} {nx : Nat} : ∀ (l : List Oper) (i : Nat) (s : Nat → PVal) (st : Store) (acc : List Foot) (r : (Nat → PVal) × Store × List Foot), runF E c ops nx i l s st acc = .ok r → runF E c' ops nx i l s st acc = .ok r
  | [], i, s, st, acc, r, hr => hr
  | o :: l, i, s, st, acc, r, hr => by
    simp only [runF] at hr ⊢
    cases hs : stepF E c ops nx i o s st with
    | no w => rw [hs] at hr; cases hr
    | ok p =>
      obtain ⟨s1, st1, fp⟩ := p
      rw [hs] at hr
      rw [stepF_mono h hs]
      exact runF_mono h l (i + 1) s1 st1 _ r hr
theorem exC_mono {c c' : CallF} {l l' : LoopF} (h : CallLe c c') (hl : LoopLe l l') {fl fid : Nat} : ∀ (k : Code) (bid : Nat) (σ : St) (r : Ex × St), exC E c l fl fid bid k σ = .ok r → exC E c' l' fl fid bid k σ = .ok r := by
  intro k
  induction k with
  | region id ops draw =>
    intro bid σ r hr
    simp only [exC] at hr ⊢
    cases hs : runF E c ops σ.next 0 ops.toList σ.slots σ.store [] with
    | no w => rw [hs] at hr; cases hr
    | ok p => rw [hs] at hr; rw [runF_mono h _ _ _ _ _ _ hs]; exact hr
  | seq x y ihx ihy =>
    intro bid σ r hr
    simp only [exC] at hr ⊢
    cases hx : exC E c l fl fid bid x σ with
    | no w => rw [hx] at hr; cases hr
    | ok p =>
      obtain ⟨e, σ1⟩ := p
      rw [hx] at hr
      rw [ihx bid σ _ hx]
      cases e with
      | normal =>
        simp only [] at hr ⊢
        cases hc : cutOf E fid y with
        | none => rw [hc] at hr; exact ihy bid σ1 r hr
        | some live =>
          rw [hc] at hr
          simp only [] at hr ⊢
          cases hcn : canon fl (getSlots σ1.slots live) σ1.store with
          | no w => rw [hcn] at hr; cases hr
          | ok q => obtain ⟨vs, os⟩ := q; rw [hcn] at hr; exact ihy bid _ r hr
      | exit id => exact hr
      | ret => exact hr
  | cond b x y ihx ihy =>
    intro bid σ r hr
    simp only [exC] at hr ⊢
    split at hr
    · rename_i t hb
      cases t with
      | true => exact ihx bid σ r hr
      | false => exact ihy bid σ r hr
    · cases hr
  | block id x ih =>
    intro bid σ r hr
    simp only [exC] at hr ⊢
    cases hx : exC E c l fl fid id x σ with
    | no w => rw [hx] at hr; cases hr
    | ok p => rw [hx] at hr; rw [ih id σ _ hx]; exact hr
  | loop x ih =>
    intro bid σ r hr
    simp only [exC] at hr ⊢
    cases hcn : canon fl (getSlots σ.slots (E.h.live fid bid)) σ.store with
    | no w => rw [hcn] at hr; cases hr
    | ok q => obtain ⟨vs, os⟩ := q; rw [hcn] at hr; exact hl _ _ _ _ _ _ _ hr
  | _ => intro bid σ r hr; exact hr
theorem lv_step : ∀ n, CallLe (lv E n).call (lv E (n + 1)).call ∧ LoopLe (lv E n).loop (lv E (n + 1)).loop
  | 0 => ⟨fun f args objs r h => by simp [lv] at h, fun fl fid bid c vs os r h => by simp [lv] at h⟩
  | n + 1 => by
    obtain ⟨h1, h2⟩ := lv_step n
    refine ⟨fun f args objs r h => ?_, fun fl fid bid c vs os r h => ?_⟩
    · show callStep E (lv E (n + 1)) f args objs = .ok r
      have h : callStep E (lv E n) f args objs = .ok r := h
      unfold callStep at h ⊢
      cases hl : E.look f with
      | none => rw [hl] at h; cases h
      | some fn =>
        rw [hl] at h
        simp only [] at h ⊢
        cases hb : fn.body with
        | none => rw [hb] at h; cases h
        | some c =>
          rw [hb] at h
          simp only [] at h ⊢
          cases hx : exC E (lv E n).call (lv E n).loop objs.length f 0 c (entry args objs) with
          | no w => rw [hx] at h; cases h
          | ok p => rw [hx] at h; rw [exC_mono h1 h2 c 0 _ _ hx]; exact h
    · show loopStep E (lv E (n + 1)) fl fid bid c vs os = .ok r
      have h : loopStep E (lv E n) fl fid bid c vs os = .ok r := h
      unfold loopStep at h ⊢
      cases hx : exC E (lv E n).call (lv E n).loop fl fid bid c (headSt (E.h.live fid bid) vs os) with
      | no w => rw [hx] at h; cases h
      | ok p =>
        obtain ⟨e, σ⟩ := p
        rw [hx] at h
        rw [exC_mono h1 h2 c bid _ _ hx]
        cases e with
        | normal =>
          simp only [] at h ⊢
          cases hcn : canon fl (getSlots σ.slots (E.h.live fid bid)) σ.store with
          | no w => rw [hcn] at h; cases h
          | ok q => obtain ⟨vs', os'⟩ := q; rw [hcn] at h; exact h2 _ _ _ _ _ _ _ h
        | exit id => exact h
        | ret => exact h
theorem lv_le {n m : Nat} (h : n ≤ m) : CallLe (lv E n).call (lv E m).call ∧ LoopLe (lv E n).loop (lv E m).loop := by
  induction h with
  | refl => exact ⟨fun _ _ _ _ h => h, fun _ _ _ _ _ _ _ h => h⟩
  | step _ ih => exact ⟨fun f a o r h => (lv_step _).1 f a o r (ih.1 f a o r h), fun a b c d e f r h => (lv_step _).2 a b c d e f r (ih.2 a b c d e f r h)⟩
end
end Go.Pvm
namespace Go.Pvm
section
variable {E : Env}
theorem AM.vc_ok {α : Type} (m : AM α) : ∀ (s : Store) (K : α → Store → List Nat → List Nat → Prop), m.vc s K → ∃ a s' t w, m.run s = .ok (a, s', t, w) ∧ K a s' t w := by
  induction m with
  | pure a => intro s K h; exact ⟨a, s, [], [], rfl, h⟩
  | fail w => intro s K h; exact h.elim
  | get id k ih =>
    intro s K h
    obtain ⟨a, s', t, w, h1, h2⟩ := ih (s id) s _ h
    exact ⟨a, s', id :: t, w, by simp only [AM.run, h1], h2⟩
  | put id o k ih =>
    intro s K h
    obtain ⟨a, s', t, w, h1, h2⟩ := ih (s.upd id o) _ h
    exact ⟨a, s', t, id :: w, by simp only [AM.run, h1], h2⟩
  | need p k ih =>
    intro s K h
    obtain ⟨a, s', t, w, h1, h2⟩ := ih s _ h.2
    exact ⟨a, s', t, w, by simp only [AM.run]; rw [if_pos h.1]; exact h1, h2⟩
def CallVOK (E : Env) (call : CallV) : Prop := ∀ f args objs K, call f args objs K → CallP E f args objs K
theorem callV_ok {call : CallV} (hc : CallVOK E call) {n0 f : Nat} {args : List PVal} {st : Store} {K : PVal → Store → List Nat → List Nat → Prop} (h : callV E call n0 f args st K) :
    ∃ n v st' t w, callS E (lv E n).call n0 f args st = .ok (v, st', t, w) ∧ K v st' t w := by
  unfold callV at h
  obtain ⟨⟨as, rs⟩, st1, t, w, h1, h2⟩ := AM.vc_ok _ _ _ h
  dsimp only at h2
  unfold callS
  rw [h1]
  dsimp only
  cases hs : E.spec f with
  | some g =>
    rw [hs] at h2
    simp only [] at h2
    obtain ⟨hp, h3⟩ := h2
    obtain ⟨v, st2, t2, w2, h4, h5⟩ := AM.vc_ok _ _ _ h3
    refine ⟨0, v, st2, t ++ t2, w ++ w2, ?_, h5⟩
    simp only []
    rw [if_pos hp, h4]
  | none =>
    rw [hs] at h2
    simp only [] at h2
    cases hr : E.run f with
    | some g => rw [hr] at h2; exact h2.elim
    | none =>
      rw [hr] at h2
      simp only [] at h2
      obtain ⟨n, v, os, h3, h4⟩ := hc _ _ _ _ h2
      obtain ⟨v', st2, t2, w2, h5, h6⟩ := AM.vc_ok _ _ _ h4
      refine ⟨n, v', st2, t ++ t2, w ++ w2, ?_, h6⟩
      simp only [callR, hr, h3, h5]
theorem doV_ok {call : CallV} (hc : CallVOK E call) {n0 : Nat} {o : Oper} {s : Nat → PVal} {st : Store} {K : PVal → Store → List Nat → List Nat → Prop} (h : doV E call n0 o s st K) :
    ∃ n v st' t w, doF E (lv E n).call n0 o s st = .ok (v, st', t, w) ∧ K v st' t w := by
  unfold doV at h
  unfold doF
  split at h
  · exact callV_ok hc h
  · obtain ⟨a, s', t, w, h1, h2⟩ := AM.vc_ok _ _ _ h
    exact ⟨0, a, s', t, w, h1, h2⟩
theorem updS_self {s : Nat → PVal} {d : Nat} {v : PVal} (h : s d = v) : updS s d v = s := by
  funext k
  simp only [updS]
  cases hb : Nat.beq k d with
  | true => have := Nat.eq_of_beq_eq_true hb; subst this; exact h.symm
  | false => rfl
theorem wantA_ask {ops : Array Oper} {o : Oper} {s : Nat → PVal} {d : Nat} {w b : Bool} (h : wantA ops o s = .ok (.ask d w b)) : s d = .bool b := by
  unfold wantA at h
  split at h
  · simp at h
  · split at h
    · cases h
    · split at h
      · cases h
      · split at h
        · rename_i hb
          simp only [R.ok.injEq, Want.ask.injEq] at h
          obtain ⟨rfl, rfl, rfl⟩ := h
          exact hb
        · simp at h
        · cases h
theorem stepV_ok {call : CallV} (hc : CallVOK E call) {ops : Array Oper} {nx i : Nat} {o : Oper} {s : Nat → PVal} {st : Store} {K : (Nat → PVal) → Store → Foot → Prop} (h : stepV E call ops nx i o s st K) :
    ∃ n s' st' fp, stepF E (lv E n).call ops nx i o s st = .ok (s', st', fp) ∧ K s' st' fp := by
  unfold stepV at h
  unfold stepF
  dsimp only
  cases hw : wantA ops o s with
  | no w => rw [hw] at h; exact h.elim
  | ok x =>
    rw [hw] at h
    cases x with
    | yes =>
      simp only [] at h ⊢
      obtain ⟨n, v, st', t, w, h1, h2⟩ := doV_ok hc h
      exact ⟨n, _, _, _, by rw [h1], h2⟩
    | no => exact ⟨0, _, _, _, rfl, h⟩
    | ask d w b =>
      have hd := wantA_ask hw
      simp only [] at h ⊢
      cases w with
      | true =>
        simp only [] at h
        cases b with
        | true =>
          have h : doV E call (nx + 16 * i) o (updS s d (.bool true)) st fun v st' t w => K (setSlot (updS s d (.bool true)) o.dst v) st' (t, w) := h
          rw [updS_self hd] at h
          obtain ⟨n, v, st', t, w, h1, h2⟩ := doV_ok hc h
          exact ⟨n, _, _, _, by rw [if_pos rfl, h1], h2⟩
        | false =>
          have h : K (setSlot (updS s d (.bool false)) o.dst (.tup [])) st ([], []) := h
          rw [updS_self hd] at h
          exact ⟨0, _, _, _, by rw [if_neg (by simp)], h⟩
      | false =>
        simp only [] at h
        cases b with
        | true =>
          have h : K (setSlot (updS s d (.bool true)) o.dst (.tup [])) st ([], []) := h
          rw [updS_self hd] at h
          exact ⟨0, _, _, _, by rw [if_neg (by simp)], h⟩
        | false =>
          have h : doV E call (nx + 16 * i) o (updS s d (.bool false)) st fun v st' t w => K (setSlot (updS s d (.bool false)) o.dst v) st' (t, w) := h
          rw [updS_self hd] at h
          obtain ⟨n, v, st', t, w, h1, h2⟩ := doV_ok hc h
          exact ⟨n, _, _, _, by rw [if_pos rfl, h1], h2⟩
theorem runV_ok {call : CallV} (hc : CallVOK E call) {ops : Array Oper} {nx : Nat} : ∀ (l : List Oper) (i : Nat) (s : Nat → PVal) (st : Store) (acc : List Foot) (K : (Nat → PVal) → Store → List Foot → Prop), runV E call ops nx i l s st acc K →
    ∃ n s' st' fps, runF E (lv E n).call ops nx i l s st acc = .ok (s', st', fps) ∧ K s' st' fps
  | [], i, s, st, acc, K, h => ⟨0, s, st, acc, rfl, h⟩
  | o :: l, i, s, st, acc, K, h => by
    simp only [runV] at h
    obtain ⟨n1, s1, st1, fp, h1, h2⟩ := stepV_ok hc h
    obtain ⟨n2, s2, st2, fps, h3, h4⟩ := runV_ok hc l (i + 1) s1 st1 _ K h2
    refine ⟨max n1 n2, s2, st2, fps, ?_, h4⟩
    simp only [runF]
    rw [stepF_mono (lv_le (Nat.le_max_left n1 n2)).1 h1]
    exact runF_mono (lv_le (Nat.le_max_right n1 n2)).1 _ _ _ _ _ _ h3
theorem vcC_ok {call : CallV} (hc : CallVOK E call) {fl fid : Nat} : ∀ (c : Code) (bid : Nat) (σ : St) (K : Ex → St → Prop), vcC E call fl fid bid c σ K → CodeP E fl fid bid c σ K := by
  intro c
  induction c with
  | skip => intro bid σ K h; exact ⟨0, .normal, σ, rfl, h⟩
  | exit id => intro bid σ K h; exact ⟨0, .exit id, σ, rfl, h⟩
  | ret => intro bid σ K h; exact ⟨0, .ret, σ, rfl, h⟩
  | region id ops draw =>
    intro bid σ K h
    simp only [vcC] at h
    obtain ⟨n, s, st, fps, h1, h2⟩ := runV_ok hc _ _ _ _ _ _ h
    refine ⟨n, .normal, ⟨s, st, σ.next + 16 * ops.size⟩, ?_, ?_⟩
    · simp only [exC, h1]
      cases draw with
      | false => simp
      | true =>
        simp only [] at h2
        cases ho : orderOk ops fps with
        | true => simp
        | false => rw [ho] at h2; exact h2.elim
    · cases draw with
      | false => exact h2
      | true =>
        simp only [] at h2
        cases ho : orderOk ops fps with
        | true => rw [ho] at h2; exact h2
        | false => rw [ho] at h2; exact h2.elim
  | seq x y ihx ihy =>
    intro bid σ K h
    simp only [vcC] at h
    obtain ⟨n1, e1, σ1, h1, h2⟩ := ihx bid σ _ h
    cases e1 with
    | normal =>
      simp only [] at h2
      cases hcu : cutOf E fid y with
      | none =>
        rw [hcu] at h2
        obtain ⟨n2, e2, σ2, h3, h4⟩ := ihy bid σ1 K h2
        refine ⟨max n1 n2, e2, σ2, ?_, h4⟩
        simp only [exC]
        rw [exC_mono (lv_le (Nat.le_max_left n1 n2)).1 (lv_le (Nat.le_max_left n1 n2)).2 x bid σ _ h1]
        simp only [hcu]
        exact exC_mono (lv_le (Nat.le_max_right n1 n2)).1 (lv_le (Nat.le_max_right n1 n2)).2 y bid σ1 _ h3
      | some live =>
        rw [hcu] at h2
        simp only [] at h2
        cases hcn : canon fl (getSlots σ1.slots live) σ1.store with
        | no w => rw [hcn] at h2; exact h2.elim
        | ok q =>
          obtain ⟨vs, os⟩ := q
          rw [hcn] at h2
          obtain ⟨n2, e2, σ2, h3, h4⟩ := h2
          refine ⟨max n1 n2, e2, σ2, ?_, h4⟩
          simp only [exC]
          rw [exC_mono (lv_le (Nat.le_max_left n1 n2)).1 (lv_le (Nat.le_max_left n1 n2)).2 x bid σ _ h1]
          simp only [hcu, hcn]
          exact exC_mono (lv_le (Nat.le_max_right n1 n2)).1 (lv_le (Nat.le_max_right n1 n2)).2 y bid _ _ h3
    | exit id => exact ⟨n1, .exit id, σ1, by simp only [exC, h1], h2⟩
    | ret => exact ⟨n1, .ret, σ1, by simp only [exC, h1], h2⟩
  | cond b x y ihx ihy =>
    intro bid σ K h
    simp only [vcC] at h
    split at h
    · rename_i t hb
      cases t with
      | true =>
        obtain ⟨n, e, σ', h1, h2⟩ := ihx bid σ K h
        exact ⟨n, e, σ', by simp only [exC, hb]; simpa using h1, h2⟩
      | false =>
        obtain ⟨n, e, σ', h1, h2⟩ := ihy bid σ K h
        exact ⟨n, e, σ', by simp only [exC, hb]; simpa using h1, h2⟩
    · exact h.elim
  | block id x ih =>
    intro bid σ K h
    simp only [vcC] at h
    obtain ⟨n, e, σ', h1, h2⟩ := ih id σ _ h
    unfold kB at h2
    cases e with
    | normal => exact ⟨n, .normal, σ', by simp only [exC, h1], h2⟩
    | ret => exact ⟨n, .ret, σ', by simp only [exC, h1], h2⟩
    | exit id' =>
      simp only [] at h2
      cases hb : Nat.beq id' id with
      | true =>
        rw [hb] at h2
        have := Nat.eq_of_beq_eq_true hb
        exact ⟨n, .normal, σ', by simp only [exC, h1]; rw [if_pos this], h2⟩
      | false =>
        rw [hb] at h2
        have hne : id' ≠ id := fun e => by subst e; rw [Nat.beq_refl] at hb; cases hb
        exact ⟨n, .exit id', σ', by simp only [exC, h1]; rw [if_neg hne], h2⟩
  | loop x ih =>
    intro bid σ K h
    simp only [vcC] at h
    cases hcn : canon fl (getSlots σ.slots (E.h.live fid bid)) σ.store with
    | no w => rw [hcn] at h; exact h.elim
    | ok q =>
      obtain ⟨vs, os⟩ := q
      rw [hcn] at h
      obtain ⟨n, e, σ', h1, h2⟩ := h
      exact ⟨n, e, σ', by simp only [exC, hcn]; exact h1, h2⟩
  | _ => intro bid σ K h; exact h.elim
end
end Go.Pvm
namespace Go.Pvm
section
variable {E : Env}
theorem leaveV_ok {fid fl : Nat} {fn : Func} {σ : St} {K : PVal → List AObj → Prop} (h : leaveV E fid fl fn σ K) : ∃ v os, leave E fid fl fn σ = .ok (v, os) ∧ K v os := by
  unfold leaveV at h
  obtain ⟨v, st', t, w, h1, h2⟩ := AM.vc_ok _ _ _ h
  unfold leave
  rw [h1]
  simp only [] at h2 ⊢
  split at h2
  · rename_i v' os hc
    exact ⟨v', os, rfl, h2⟩
  · exact h2.elim
  · exact h2.elim
theorem bodyV_ok {call : CallV} (hc : CallVOK E call) : CallVOK E (bodyV E call) := by
  intro f args objs K h
  unfold bodyV at h
  cases hl : E.look f with
  | none => rw [hl] at h; exact h.elim
  | some fn =>
    rw [hl] at h
    simp only [] at h
    cases hb : fn.body with
    | none => rw [hb] at h; exact h.elim
    | some c =>
      rw [hb] at h
      simp only [] at h
      obtain ⟨n, e, σ, h1, h2⟩ := vcC_ok hc c 0 _ _ h
      unfold kT at h2
      rw [hl] at h2
      have fin : (e = .normal ∨ e = .ret) → leaveV E f objs.length fn σ K → CallP E f args objs K := fun he hlv => by
        obtain ⟨v, os, h3, h4⟩ := leaveV_ok hlv
        refine ⟨n + 1, v, os, ?_, h4⟩
        show callStep E (lv E n) f args objs = _
        unfold callStep
        simp only [hl, hb, h1]
        rcases he with rfl | rfl <;> exact h3
      cases e with
      | normal => exact fin (.inl rfl) h2
      | ret => exact fin (.inr rfl) h2
      | exit id => exact h2.elim
theorem vcF_ok : ∀ n, CallVOK E (vcF E n)
  | 0 => fun f args objs K h => h
  | n + 1 => bodyV_ok (vcF_ok n)
/-- one round of a loop -/
theorem loop_round {call : CallV} (hc : CallVOK E call) {fl fid bid : Nat} {c : Code} {vs : List PVal} {os : List AObj} {K : Ex → St → Prop} {J : List PVal → List AObj → Prop} (h : bodyL E call fl fid bid c vs os K J)
    (hJ : ∀ vs' os', J vs' os' → LoopP E fl fid bid c vs' os' K) : LoopP E fl fid bid c vs os K := by
  unfold bodyL at h
  obtain ⟨n, e, σ, h1, h2⟩ := vcC_ok hc c bid _ _ h
  unfold kL at h2
  cases e with
  | normal =>
    simp only [] at h2
    cases hcn : canon fl (getSlots σ.slots (E.h.live fid bid)) σ.store with
    | no w => rw [hcn] at h2; exact h2.elim
    | ok q =>
      obtain ⟨vs', os'⟩ := q
      rw [hcn] at h2
      obtain ⟨m, e', σ', h3, h4⟩ := hJ vs' os' h2
      refine ⟨max n m + 1, e', σ', ?_, h4⟩
      show loopStep E (lv E (max n m)) fl fid bid c vs os = _
      unfold loopStep
      rw [exC_mono (lv_le (Nat.le_max_left n m)).1 (lv_le (Nat.le_max_left n m)).2 c bid _ _ h1]
      simp only [hcn]
      exact (lv_le (Nat.le_max_right n m)).2 _ _ _ _ _ _ _ h3
  | exit id =>
    refine ⟨n + 1, .exit id, σ, ?_, h2⟩
    show loopStep E (lv E n) fl fid bid c vs os = _
    unfold loopStep
    rw [h1]
  | ret =>
    refine ⟨n + 1, .ret, σ, ?_, h2⟩
    show loopStep E (lv E n) fl fid bid c vs os = _
    unfold loopStep
    rw [h1]
/-- a loop by an invariant and a measure -/
theorem loop_inv {call : CallV} (hc : CallVOK E call) {fl fid bid : Nat} {c : Code} {K : Ex → St → Prop} (I : Nat → List PVal → List AObj → Prop)
    (h : ∀ n vs os, I n vs os → bodyL E call fl fid bid c vs os K fun vs' os' => ∃ m, m < n ∧ I m vs' os') : ∀ n vs os, I n vs os → LoopP E fl fid bid c vs os K := by
  intro n
  induction n using Nat.strongRecOn with
  | ind n ih => exact fun vs os hi => loop_round hc (h n vs os hi) fun vs' os' ⟨m, hm, hi'⟩ => ih m hm vs' os' hi'
theorem CallP.mono {f : Nat} {args : List PVal} {objs : List AObj} {K K' : PVal → List AObj → Prop} (h : CallP E f args objs K) (hk : ∀ v os, K v os → K' v os) : CallP E f args objs K' := by
  obtain ⟨n, v, os, h1, h2⟩ := h
  exact ⟨n, v, os, h1, hk v os h2⟩
theorem LoopP.mono {fl fid bid : Nat} {c : Code} {vs : List PVal} {os : List AObj} {K K' : Ex → St → Prop} (h : LoopP E fl fid bid c vs os K) (hk : ∀ e σ, K e σ → K' e σ) : LoopP E fl fid bid c vs os K' := by
  obtain ⟨n, e, σ, h1, h2⟩ := h
  exact ⟨n, e, σ, h1, hk e σ h2⟩
/-- a loop's round, where the next head is the same loop's -/
theorem loop_next {call : CallV} (hc : CallVOK E call) {fl fid bid : Nat} {c : Code} {vs : List PVal} {os : List AObj} {K : Ex → St → Prop} (h : bodyL E call fl fid bid c vs os K fun vs' os' => LoopP E fl fid bid c vs' os' K) : LoopP E fl fid bid c vs os K :=
  loop_round hc h fun _ _ h => h
theorem e_of {n : Nat} {f : Nat} {args : List PVal} {objs : List AObj} {K : PVal → List AObj → Prop} {p : Prop} (h : p) (hp : vcF E n f args objs K = p) : CallP E f args objs K := vcF_ok n _ _ _ _ (hp ▸ h)
theorem r_of {n : Nat} {fl fid bid : Nat} {c : Code} {vs : List PVal} {os : List AObj} {K : Ex → St → Prop} {p : Prop} (h : p) (hp : (bodyL E (vcF E n) fl fid bid c vs os K fun vs' os' => LoopP E fl fid bid c vs' os' K) = p) : LoopP E fl fid bid c vs os K := loop_next (vcF_ok n) (hp ▸ h)
theorem c_of {n : Nat} {fl fid bid : Nat} {c : Code} {live : List Nat} {vs : List PVal} {os : List AObj} {K : Ex → St → Prop} {p : Prop} (h : p) (hp : vcC E (vcF E n) fl fid bid c (headSt live vs os) K = p) : CutP E fl fid bid c live vs os K := vcC_ok (vcF_ok n) _ _ _ _ (hp ▸ h)
/-- from a condition to the contract -/
theorem callOK_of (hE : EnvOK E) (hW : WfEnv E) (hm : E.P.follows .mixedOrders = true) {f : Nat} {args : List PVal} {objs : List AObj} {v : PVal} {os : List AObj} (h : CallP E f args objs fun v' os' => v' = v ∧ os' = os) : CallOK E f args objs v os := by
  obtain ⟨n, v', os', h1, rfl, rfl⟩ := h
  exact (lv_ok hE hW hm n).1 f args objs v' os' h1
end
end Go.Pvm
