/-
  The executor is right (11): an operation with its guard; a region in the order of its text.
-/
import Derived.Test.YtcnklcnehpkfaaaEvM
namespace Go.Ev
open Go Go.RowKit
set_option linter.unusedVariables false
set_option linter.unusedSimpArgs false

theorem mapM'_congr {α β : Type} {f g : α → Option β} : ∀ {l : List α}, (∀ x ∈ l, f x = g x) → mapM' f l = mapM' g l
  | [], _ => rfl
  | x :: l, h => by
    simp only [mapM', h x (by simp), mapM'_congr (l := l) fun y hy => h y (by simp [hy])]

theorem evOp_congr {P : Program} {L : Lay} {E : Env} {C : Tab} {look : Nat → HObj} {fr : Nat} {ev ev' : Operand → Option AV} {o : Oper} (h : ∀ x ∈ o.op.operands, ev x = ev' x) : evOp P L E C look fr ev o = evOp P L E C look fr ev' o := by
  obtain ⟨dst, op, ty, pos, after, guard⟩ := o
  have bnd : ∀ x : Option Operand, (∀ y ∈ x.toArray, ev y = ev' y) → bndA ev x = bndA ev' x := by
    intro x hx
    cases x with
    | none => rfl
    | some y => simp only [bndA, hx y (by simp)]
  cases op with
  | move x => simp only [evOp, h x (by simp [Op.operands])]
  | assign x => simp only [evOp, h x (by simp [Op.operands])]
  | alloc t => rfl
  | box t x => simp only [evOp, h x (by simp [Op.operands])]
  | build t ps =>
    have : mapM' (fun (p : Nat × Operand) => (ev p.2).bind fun v => if (cellsOf v).all AV.one then some (p.1, cellsOf v) else none) ps.toList = mapM' (fun (p : Nat × Operand) => (ev' p.2).bind fun v => if (cellsOf v).all AV.one then some (p.1, cellsOf v) else none) ps.toList :=
      mapM'_congr fun p hp => by rw [h p.2 (by simp only [Op.operands]; exact List.mem_toArray.2 (List.mem_map.2 ⟨p, hp, rfl⟩))]
    simp only [evOp, this]
  | buildSlice t len ps =>
    have : mapM' (fun (p : Nat × Operand) => (ev p.2).bind fun v => if (cellsOf v).all AV.one then some (p.1, cellsOf v) else none) ps.toList = mapM' (fun (p : Nat × Operand) => (ev' p.2).bind fun v => if (cellsOf v).all AV.one then some (p.1, cellsOf v) else none) ps.toList :=
      mapM'_congr fun p hp => by rw [h p.2 (by simp only [Op.operands]; exact List.mem_toArray.2 (List.mem_map.2 ⟨p, hp, rfl⟩))]
    simp only [evOp, this]
  | load t x => simp only [evOp, h x (by simp [Op.operands])]
  | store t x y => simp only [evOp, h x (by simp [Op.operands]), h y (by simp [Op.operands])]
  | nilCheck x => simp only [evOp, h x (by simp [Op.operands])]
  | binOp op t x y yt => simp only [evOp, h x (by simp [Op.operands]), h y (by simp [Op.operands])]
  | unOp op t x => simp only [evOp, h x (by simp [Op.operands])]
  | convert s d x => simp only [evOp, h x (by simp [Op.operands])]
  | makeInterface t x => simp only [evOp, h x (by simp [Op.operands])]
  | makeFunc fn first cap =>
    have : mapM' ev cap.toList = mapM' ev' cap.toList := mapM'_congr fun x hx => h x (by simp only [Op.operands, Array.mem_append]; exact .inr (Array.mem_toList_iff.1 hx))
    cases fn <;> simp only [evOp, this]
  | makeSlice t l c => simp only [evOp, h l (by simp [Op.operands]), h c (by simp [Op.operands])]
  | slice t x lo hi mx =>
    have h1 := bnd lo fun y hy => h y (by simp only [Op.operands, Array.mem_append]; exact .inl (.inl (.inr hy)))
    have h2 := bnd hi fun y hy => h y (by simp only [Op.operands, Array.mem_append]; exact .inl (.inr hy))
    have h3 := bnd mx fun y hy => h y (by simp only [Op.operands, Array.mem_append]; exact .inr hy)
    simp only [evOp, h1, h2, h3, h x (by simp [Op.operands])]
  | fieldAddr t x i => simp only [evOp, h x (by simp [Op.operands])]
  | field t x i => simp only [evOp, h x (by simp [Op.operands])]
  | indexAddr t x i => simp only [evOp, h x (by simp [Op.operands]), h i (by simp [Op.operands])]
  | extract x i => simp only [evOp, h x (by simp [Op.operands])]
  | index t x i => simp only [evOp, h x (by simp [Op.operands]), h i (by simp [Op.operands])]
  | call c =>
    obtain ⟨callee, args, ts⟩ := c
    have : mapM' ev args.toList = mapM' ev' args.toList := mapM'_congr fun x hx => h x (by simp only [Op.operands, Call.operands, Array.mem_append]; exact .inr (Array.mem_toList_iff.1 hx))
    cases callee with
    | value f => simp only [evOp, this, h f (by simp [Op.operands, Call.operands])]
    | builtin b => cases b <;> simp only [evOp, this]
    | invoke r m => simp only [evOp, this, h r (by simp [Op.operands, Call.operands])]
  | _ => rfl

section
variable {P : Program} {L : Lay} {E : Env} {C : Tab} {X : Nat → Prop} {w0 : World} {F : Nat → Prop} {w : World} {ρ : Ren} {h look : Nat → HObj} {fr : Nat} {a : Act} {t : List (Nat × AV)} {o : Oper} {out : Out} {ops : Array Oper}

theorem evX_sound (hs : Slots F w ρ t a) {x : Operand} {y : AV} (hx : evX t x = some y) : AR F w ρ y (a.eval x) := by
  cases x with
  | tmp n =>
    obtain ⟨v, hv, hr⟩ := hs n y hx
    have : a.eval (.tmp n) = v := by simp [Act.eval, hv]
    rw [this]; exact hr
  | const v =>
    simp only [evX, Option.some.injEq] at hx
    subst hx
    show AR F w ρ (constA v) v
    unfold constA
    split
    · simp only [AR]; exact ⟨_, rfl, ARL.consts⟩
    · simp only [AR]
  | global g => simp only [evX, Option.some.injEq] at hx; subst hx; simp only [AR]; rfl
  | func f => simp only [evX, Option.some.injEq] at hx; subst hx; simp only [AR]; exact ⟨#[], rfl, by simp [ARL]⟩

/-- An operand whose test holds. -/
def evT (t : List (Nat × AV)) (x : Operand) : Option AV :=
  match evX t x with
  | some (.g b y) => if b = true then some y else none
  | r => r

theorem evT_sound (hs : Slots F w ρ t a) {x : Operand} {y : AV} (hx : evT t x = some y) : AR F w ρ y (a.eval x) := by
  unfold evT at hx
  split at hx
  · rename_i b z hz
    split at hx
    · rename_i hb
      simp only [Option.some.injEq] at hx; subst hx; subst hb
      have := evX_sound hs hz
      simpa only [AR, if_true] using this
    · cases hx
  · exact evX_sound hs hx

theorem evT_eq {x : Operand} (hg : ∀ y, evX t x = some y → All (gOf y)) : (evX t x).map unG = evT t x := by
  unfold evT
  cases hx : evX t x with
  | none => rfl
  | some y =>
    have := hg y hx
    cases y with
    | g b z => simp only [gOf, All, and_true] at this; subst this; rfl
    | _ => rfl

theorem gsOf_all {xs : List Operand} (hp : All (gsOf t xs)) {x : Operand} (hx : x ∈ xs) : ∀ y, evX t x = some y → All (gOf y) := by
  intro y hy
  refine All_iff.2 fun p hp' => All_iff.1 hp p ?_
  simp only [gsOf, List.mem_flatMap]
  exact ⟨x, hx, by rw [hy]; exact hp'⟩

theorem unG_sound {y : AV} {v : Value} (hy : AR F w ρ y v) (hg : All (gOf y)) : AR F w ρ (unG y) v := by
  cases y with
  | g b z => simp only [gOf, All, and_true] at hg; subst hg; simpa only [AR, if_true, unG] using hy
  | _ => exact hy

theorem pickAll (l : List Prop) : pickA.All l ↔ All l := by
  induction l with
  | nil => simp [pickA.All, All]
  | cons p l ih => simp [pickA.All, All, ih]

theorem evBare_sound (hE : EnvOK P E) (hC : C.kill = true → ∀ b, ¬ X b) (hs : Slots F w ρ t a) (M : Mem L X w0 F w ρ h) (hlook : ∀ n, (look n).live → look n = h n) (hout : evBare P L E C look fr t o = some out) (hfr : ∀ n, fr ≤ n → n < fr + out.news.length → ρ n = none) (hp : All out.os) :
    Sound P L X w0 F w ρ h fr a o out := by
  unfold evBare at hout
  split at hout
  · rename_i c x y hop
    simp only [Option.bind_eq_bind, Option.bind_eq_some_iff, Prod.exists, Option.val, Option.some.injEq] at hout
    obtain ⟨cv, hc, xv, hx, yv, hy, v, ps, hpk, rfl⟩ := hout
    have hca := evX_sound hs hc
    have hxa := evX_sound hs hx
    have hya := evX_sound hs hy
    unfold pickA at hpk
    split at hpk
    · rename_i b1 b2 b3 e1 e2 e3
      simp only [Option.some.injEq, Prod.mk.injEq] at hpk
      obtain ⟨rfl, rfl⟩ := hpk
      rw [All_append] at hp
      obtain ⟨hp1, hp2, hp3, _⟩ := hp
      have h1 := unG_sound hca hp1
      rw [e1] at h1; simp only [AR] at h1
      have hval : (if b1 then a.eval x else a.eval y) = .bool (if b1 then b2 else b3) := by
        cases b1
        · have := unG_sound hya ((pickAll _).1 (hp3 rfl)); rw [e3] at this; simpa only [AR, Bool.false_eq_true, if_false] using this
        · have := unG_sound hxa ((pickAll _).1 (hp2 rfl)); rw [e2] at this; simpa only [AR, if_true] using this
      refine .value (v := .bool (if b1 then b2 else b3)) (ρ' := ρ) (F' := F) ?_ (.pure M (by simp only [AR]))
      simp only [execOp, hop, h1]
      simp [asBool, hval]
    · rename_i b1 e1 _
      split at hpk
      · simp only [Option.some.injEq, Prod.mk.injEq] at hpk
        obtain ⟨rfl, rfl⟩ := hpk
        rw [All_append] at hp
        have h1 := unG_sound hca hp.1
        rw [e1] at h1; simp only [AR] at h1
        refine .value (v := a.eval x) (ρ' := ρ) (F' := F) ?_ (.pure M (unG_sound hxa hp.2))
        simp only [execOp, hop, h1]
        simp [asBool]
      · simp only [Option.some.injEq, Prod.mk.injEq] at hpk
        obtain ⟨rfl, rfl⟩ := hpk
        rw [All_append] at hp
        have h1 := unG_sound hca hp.1
        rw [e1] at h1; simp only [AR] at h1
        refine .value (v := a.eval y) (ρ' := ρ) (F' := F) ?_ (.pure M (unG_sound hya hp.2))
        simp only [execOp, hop, h1]
        simp [asBool]
    · cases hpk
  · rename_i op hnp
    simp only [Option.bind_eq_bind, Option.bind_eq_some_iff, Option.some.injEq] at hout
    obtain ⟨out', hev, rfl⟩ := hout
    simp only [All_append] at hp
    rw [evOp_congr (ev' := evT t) fun x hx => evT_eq (gsOf_all hp.1 (Array.mem_toList_iff.2 hx))] at hev
    have := evOp_sound (a := a) hC ⟨hE, M, hlook, fun x y hx => evT_sound hs hx⟩ hev hfr hp.2
    intro next Q hn
    exact this next Q fun v w' ρ' F' hP => hn v w' ρ' F' ⟨hP.stay, hP.ext, hP.fnew, hP.names, hP.mem, hP.val⟩

theorem guardA_sound (hs : Slots F w ρ t a) {j : Nat} {want g : Bool} (hg : guardA t ops j want = some g) (hgd : o.guard = some (j, want)) : Region.wanted o (yielded ops a.tmps) = g := by
  simp only [guardA, Option.bind_eq_bind, Option.bind_eq_some_iff] at hg
  obtain ⟨oj, hoj, d, hd, x, hx, hg⟩ := hg
  obtain ⟨v, hv, hr⟩ := hs d x hx
  simp only [Region.wanted, hgd, yielded, hoj, Option.bind_some, hd, hv]
  split at hg
  · rename_i b
    simp only [Option.some.injEq] at hg; subst hg
    simp only [AR] at hr; subst hr
    cases want <;> cases b <;> rfl
  · rename_i g' b
    simp only [Option.some.injEq] at hg; subst hg
    simp only [AR] at hr
    cases g'
    · simp only [Bool.false_eq_true, if_false] at hr; subst hr; cases want <;> rfl
    · simp only [if_true] at hr; subst hr; cases want <;> cases b <;> rfl
  · cases hg

theorem evStep_sound (hE : EnvOK P E) (hC : C.kill = true → ∀ b, ¬ X b) (hs : Slots F w ρ t a) (M : Mem L X w0 F w ρ h) (hlook : ∀ n, (look n).live → look n = h n) (hout : evStep P L E C look fr t ops o = some out) (hfr : ∀ n, fr ≤ n → n < fr + out.news.length → ρ n = none) (hp : All out.os)
    {K : Act → World → Prop} {Q : Exit → Act → World → Prop} (hK : ∀ v w' ρ' F', Post L X w0 F w ρ h fr out v w' ρ' F' → K (a.put o.dst v) w') :
    if Region.wanted o (yielded ops a.tmps) then o.wp P a w K Q else K (a.put o.dst undef) w := by
  unfold evStep at hout
  split at hout
  · rename_i hg
    rw [if_pos (by simp [Region.wanted, hg])]
    exact evBare_sound hE hC hs M hlook hout hfr hp K Q hK
  · rename_i j want hg
    simp only [Option.bind_eq_bind, Option.bind_eq_some_iff] at hout
    obtain ⟨g, hgA, hout⟩ := hout
    have hw := guardA_sound (o := o) hs hgA hg
    rw [hw]
    split at hout
    · rename_i out' hb
      split at hout
      · rename_i hws hns
        simp only [Option.some.injEq] at hout; subst hout
        cases g
        · rw [if_neg (by simp)]
          exact hK undef w ρ F (.pure M (by simp [AR]))
        · rw [if_pos rfl]
          refine evBare_sound hE hC hs M hlook hb (by rw [hns]; simp; omega) (gz_ok hp rfl) K Q fun v w' ρ' F' hP => hK v w' ρ' F' ⟨hP.stay, hP.ext, hP.fnew, fun n hn => hP.names n (by rw [hns]; exact hn), ?_, by simpa [AR] using hP.val⟩
          have := hP.mem
          rw [hws, hns] at this; exact this
      · cases g
        · simp only [Option.some.injEq] at hout; subst hout
          rw [if_neg (by simp)]
          exact hK undef w ρ F (.pure M (by simp [AR]))
        · simp only [Option.some.injEq] at hout; subst hout
          rw [if_pos rfl]
          exact evBare_sound hE hC hs M hlook hb hfr hp K Q hK
    · cases g
      · simp only [Option.some.injEq] at hout; subst hout
        rw [if_neg (by simp)]
        exact hK undef w ρ F (.pure M (by simp [AR]))
      · cases hout

theorem setAll_length : ∀ (ws : List (Nat × HObj)) (l : List HObj), (setAll ws l).length = l.length
  | [], _ => rfl
  | p :: ws, l => by
    have := setAll_length ws l
    simp only [setAll, List.foldr_cons, List.length_set]
    simpa only [setAll] using this

theorem setAll_get : ∀ (ws : List (Nat × HObj)) (l : List HObj) (n : Nat), (∀ p ∈ ws, p.1 < l.length) → (setAll ws l).getD n .dead = match look2 ws n with | some o => o | none => l.getD n .dead
  | [], l, n, _ => rfl
  | (m, o) :: ws, l, n, hlt => by
    have ih := setAll_get ws l n fun p hp => hlt p (by simp [hp])
    have hlen := setAll_length ws l
    simp only [setAll, List.foldr_cons, look2] at ih hlen ⊢
    by_cases e : m = n
    · subst e
      have hm := hlt (m, o) (by simp)
      rw [if_pos rfl]
      simp only at hm
      simp [List.getD, hlen, hm]
    · rw [if_neg e, ← ih]
      simp [List.getD, e]

theorem Act.put_tmps (a : Act) (dst : Option Tmp) (v : Value) : (a.put dst v).tmps = match dst with | some d => a.tmps.setIfInBounds d v | none => a.tmps := by cases dst <;> rfl

/-- A step's outcome laid into the state. -/
theorem Rel.step {B : Base} {N : Nat} {st st' : St} (R : Rel L B N st a w ρ F) (hput : put N st o out = some st') {v : Value} {w' : World} {ρ' : Ren} {F' : Nat → Prop}
    (hP : Post L B.X B.w0 F w ρ (fun n => st.h.getD n .dead) st.h.length out v w' ρ' F') : Rel L B N st' (a.put o.dst v) w' ρ' F' := by
  unfold put at hput
  have hws : ∀ p ∈ out.ws, p.1 < st.h.length := by
    split at hput
    · rename_i hall
      intro p hp
      simpa using List.all_eq_true.1 hall p hp
    · cases hput
  have hf1 : ∀ b, F' b → B.F0 b ∨ B.w0.heap.size ≤ b := fun b hb => (hP.fnew b hb).elim (R.f1 b) .inr
  have hslots : ∀ n x, look1 st.t n = some x → ∃ u, a.tmps[n]? = some u ∧ AR F' w' ρ' x u := fun n x hx => by
    obtain ⟨u, hu, hr⟩ := R.slots n x hx
    exact ⟨u, hu, hr.mono hP.stay hP.ext⟩
  have hh : ∀ t, st' = ⟨t, setAll out.ws (st.h ++ out.news)⟩ → Mem L B.X B.w0 F' w' ρ' (fun n => st'.h.getD n .dead) ∧ ∀ n, n ≥ st'.h.length → ρ' n = none := fun t e => by
    subst e
    refine ⟨?_, fun n hn => ?_⟩
    · have : (fun n => (setAll out.ws (st.h ++ out.news)).getD n .dead) = eff (fun n => st.h.getD n .dead) st.h.length out.ws out.news := by
        funext n
        rw [setAll_get _ _ _ fun p hp => by rw [List.length_append]; have := hws p hp; omega]
        simp only [eff]
        cases look2 out.ws n with
        | some o => rfl
        | none =>
          simp only
          by_cases h1 : n < st.h.length
          · rw [if_neg (by omega)]; simp [List.getD, List.getElem?_append_left h1]
          · by_cases h2 : n < st.h.length + out.news.length
            · rw [if_pos (by omega)]; simp [List.getD, List.getElem?_append_right (Nat.le_of_not_lt h1)]
            · rw [if_neg (by omega)]
              simp only [List.getD]
              rw [List.getElem?_eq_none (by rw [List.length_append]; omega), List.getElem?_eq_none (by omega)]
      simp only [this]; exact hP.mem
    · rw [setAll_length, List.length_append] at hn
      rw [hP.names n (by omega)]
      exact R.fresh n (by omega)
  rw [if_pos (by rw [List.all_eq_true]; intro p hp; exact decide_eq_true (hws p hp))] at hput
  cases hd : o.dst with
  | none =>
    rw [hd] at hput
    simp only [Option.some.injEq] at hput
    obtain ⟨h1, h2⟩ := hh st.t hput.symm
    subst hput
    exact ⟨R.defers, R.size, hslots, h2, h1, fun n lo hn => hP.ext _ _ (R.ext0 n lo hn), fun b hb => (hP.stay b (R.f0 b hb)).1, hf1⟩
  | some d =>
    rw [hd] at hput
    simp only at hput
    split at hput
    · rename_i hlt
      simp only [Option.some.injEq] at hput
      obtain ⟨h1, h2⟩ := hh ((d, out.v) :: st.t) hput.symm
      subst hput
      refine ⟨R.defers, by simp [Act.put, R.size], fun n x hx => ?_, h2, h1, fun n lo hn => hP.ext _ _ (R.ext0 n lo hn), fun b hb => (hP.stay b (R.f0 b hb)).1, hf1⟩
      simp only [look1] at hx
      split at hx
      · rename_i e
        subst e
        simp only [Option.some.injEq] at hx; subst hx
        exact ⟨v, by simp [Act.put, R.size, hlt], hP.val⟩
      · rename_i e
        obtain ⟨u, hu, hr⟩ := hslots n x hx
        exact ⟨u, by simp only [Act.put]; rw [Array.getElem?_setIfInBounds, if_neg e]; exact hu, hr⟩
    · cases hput
end
end Go.Ev
