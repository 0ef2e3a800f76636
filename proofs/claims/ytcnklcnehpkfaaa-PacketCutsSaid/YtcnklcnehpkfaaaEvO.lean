/-
  The executor is right (12): code; functions.
-/
import Derived.Test.YtcnklcnehpkfaaaEvDs
import Derived.LoopN
import Derived.Scope
namespace Go.Ev
open Go Go.RowKit
set_option linter.unusedVariables false
set_option linter.unusedSimpArgs false

section
variable {P : Program} {L : Lay} {E : Env} {C : Tab} {B : Base} {k : Nat} {F : Nat → Prop} {w : World} {ρ : Ren} {a : Act} {N : Nat}

theorem evOps_sound (hE : EnvOK P E) (hC : C.kill = true → ∀ b, ¬ B.X b) {ops : Array Oper} {Q : Exit → Act → World → Prop} : ∀ {l : List Oper} {st st' : St} {ps : List Prop} {sg : List Sig} {a : Act} {w : World} {ρ : Ren} {F : Nat → Prop}, evOps P L E C N ops l st = some (st', ps, sg) → All ps → Rel L B N st a w ρ F →
    (∀ a' w' ρ' F', Rel L B N st' a' w' ρ' F' → Q .normal a' w') → wpList P ops Q l a w
  | [], st, st', ps, sg, a, w, ρ, F, h, _, R, hQ => by
    simp only [evOps, Option.some.injEq, Prod.mk.injEq] at h
    obtain ⟨rfl, _⟩ := h
    exact hQ _ _ _ _ R
  | o :: l, st, st', ps, sg, a, w, ρ, F, h, hp, R, hQ => by
    simp only [evOps, Option.bind_eq_bind, Option.bind_eq_some_iff, Option.some.injEq, Prod.mk.injEq, Prod.exists] at h
    obtain ⟨out, hout, st1, hput, st2, qs, sg', hr, rfl, rfl, rfl⟩ := h
    rw [All_append] at hp
    refine wpList_step fun K hK => ?_
    refine evStep_sound hE hC R.slots R.mem (fun _ _ => rfl) hout (fun n hn _ => R.fresh n hn) hp.1 fun v w' ρ' F' hP => ?_
    exact hK _ _ (evOps_sound hE hC hr hp.2 (R.step hput hP) hQ)

theorem look1_keepS {t : List (Nat × AV)} {n : Nat} {x : AV} : ∀ {l : List Nat}, look1 (keepS t l) n = some x → look1 t n = some x
  | [], h => by simp [keepS, look1] at h
  | m :: l, h => by
    simp only [keepS] at h
    split at h
    · rename_i y hy
      simp only [look1] at h
      split at h
      · rename_i e; subst e; rw [hy]; exact h
      · exact look1_keepS h
    · exact look1_keepS h

theorem Rel.keep {st : St} (R : Rel L B N st a w ρ F) (l : List Nat) : Rel L B N ⟨keepS st.t l, st.h⟩ a w ρ F :=
  ⟨R.defers, R.size, fun n x hx => R.slots n x (look1_keepS hx), R.fresh, R.mem, R.ext0, R.f0, R.f1⟩

theorem VC.skip {st : St} {K : Exit → St → Prop} (h : K .normal st) : VC P L k N .skip st K := fun _ _ _ _ _ _ _ R hQ => wp_skip (hQ _ _ _ _ _ _ h R)
theorem VC.exit {st : St} {K : Exit → St → Prop} {id : Nat} (h : K (.exit id) st) : VC P L k N (.exit id) st K := fun _ _ _ _ _ _ _ R hQ => wp_exit (hQ _ _ _ _ _ _ h R)
theorem VC.ret {st : St} {K : Exit → St → Prop} (h : K .ret st) : VC P L k N .ret st K := fun _ _ _ _ _ _ _ R hQ => wp_ret (hQ _ _ _ _ _ _ h R)

/-- A region. -/
theorem VC.region (hE : EnvOK P E) (hm : P.follows .mixedOrders = true) (hC0 : C.kill = true → k = 0) (keep : List Nat) {ops : Array Oper} {draw : Bool} {st st' : St} {ps : List Prop} {id : Nat} {K : Exit → St → Prop} (h : evR P L E C N ops draw keep st = some (st', ps)) (hp : All ps) (hK : K .normal st') : VC P L k N (.region id ops draw) st K := by
  intro B a w ρ F Q hk R hQ
  have hC : C.kill = true → ∀ b, ¬ B.X b := fun hK b hb => by
    obtain ⟨n, hn, _⟩ := B.hX b hb
    have := hC0 hK
    omega
  simp only [evR] at h
  split at h
  · rename_i st1 qs sg hev
    split at h
    · rename_i hd
      simp only [Option.some.injEq, Prod.mk.injEq] at h
      obtain ⟨rfl, rfl⟩ := h
      cases draw
      · exact wp_region_list (evOps_sound hE hC hev hp R fun a' w' ρ' F' R' => hQ _ _ _ _ _ _ hK (R'.keep keep))
      · exact evDraw_sound hE hC hm hev (by simpa using hd) hp R fun a' w' ρ' F' R' => hQ _ _ _ _ _ _ hK (R'.keep keep)
    · cases h
  · cases h

theorem VC.mono {c : Code} {st : St} {K K' : Exit → St → Prop} (h : VC P L k N c st K) (hK : ∀ e st', K e st' → K' e st') : VC P L k N c st K' :=
  fun B a w ρ F Q hk R hQ => h B a w ρ F Q hk R fun _ _ _ _ _ _ hq R' => hQ _ _ _ _ _ _ (hK _ _ hq) R'

/-- What stands behind a piece of code, where it ends as usual. -/
def seqK (P : Program) (L : Lay) (k N : Nat) (b : Code) (K : Exit → St → Prop) : Exit → St → Prop
  | .normal, st => VC P L k N b st K
  | e, st => K e st

theorem VC.seq {x y : Code} {st : St} {K : Exit → St → Prop} (h : VC P L k N x st (seqK P L k N y K)) : VC P L k N (.seq x y) st K := by
  intro B a w ρ F Q hk R hQ
  refine wp_seq (h B a w ρ F _ hk R fun e st' a' w' ρ' F' hK R' => ?_)
  cases e with
  | normal => exact hK B a' w' ρ' F' Q hk R' hQ
  | _ => exact hQ _ _ _ _ _ _ hK R'

theorem VC.cond {c : Operand} {x y : Code} {b : Bool} {st : St} {K : Exit → St → Prop} (hc : evX st.t c = some (.c (.bool b))) (hx : b = true → VC P L k N x st K) (hy : b = false → VC P L k N y st K) : VC P L k N (.cond c x y) st K := by
  intro B a w ρ F Q hk R hQ
  have := evX_sound R.slots hc
  simp only [AR] at this
  exact wp_cond_split this (fun hb => hx hb B a w ρ F Q hk R hQ) (fun hb => hy hb B a w ρ F Q hk R hQ)

def blockK (id : Nat) (K : Exit → St → Prop) : Exit → St → Prop
  | .exit i, st => if i = id then K .normal st else K (.exit i) st
  | e, st => K e st

theorem VC.block {id : Nat} {body : Code} {st : St} {K : Exit → St → Prop} (h : VC P L k N body st (blockK id K)) : VC P L k N (.block id body) st K := by
  intro B a w ρ F Q hk R hQ
  refine wp_block (h B a w ρ F _ hk R fun e st' a' w' ρ' F' hK R' => ?_)
  cases e with
  | exit id' =>
    simp only [blockK] at hK
    simp only [Exit.inBlock]
    split
    · rename_i e; rw [if_pos e] at hK; exact hQ _ _ _ _ _ _ hK R'
    · rename_i e; rw [if_neg e] at hK; exact hQ _ _ _ _ _ _ hK R'
  | _ => exact hQ _ _ _ _ _ _ hK R'

/-- A scope that no jump leaves. -/
def scopeK (K : Exit → St → Prop) : Exit → St → Prop
  | .goto _, _ => False
  | e, st => K e st

theorem VC.scope {body : Code} {st : St} {K : Exit → St → Prop} (h : VC P L k N body st (scopeK K)) : VC P L k N (.scope body) st K := by
  intro B a w ρ F Q hk R hQ
  refine wp_scope_straight (h B a w ρ F _ hk R fun e st' a' w' ρ' F' hK R' => ?_)
  cases e with
  | goto l => exact hK.elim
  | _ => exact hQ _ _ _ _ _ _ hK R'
theorem VC.label {st : St} {K : Exit → St → Prop} {l : Nat} (h : K .normal st) : VC P L k N (.label l) st K := fun _ _ _ _ _ _ _ R hQ => wp_label (hQ _ _ _ _ _ _ h R)

theorem VC.ent {c : Code} {st st1 : St} {K : Exit → St → Prop} (he : Ent L k N st st1) (h : VC P L k N c st1 K) : VC P L k N c st K := by
  intro B a w ρ F Q hk R hQ
  obtain ⟨ρ1, F1, R1⟩ := he B a w ρ F hk R
  exact h B a w ρ1 F1 Q hk R1 hQ

/-- A loop: inv: the states at its head; m: what falls. -/
def loopK (L : Lay) (k N : Nat) {Y : Type} (inv : Y → St) (m : Y → Nat) (y : Y) (K : Exit → St → Prop) : Exit → St → Prop
  | .normal, st => ∃ y', m y' < m y ∧ Ent L k N st (inv y')
  | e, st => K e st

theorem VC.loop {Y : Type} (inv : Y → St) (m : Y → Nat) (y0 : Y) {body : Code} {st : St} {K : Exit → St → Prop} (h0 : Ent L k N st (inv y0)) (h : ∀ y, VC P L k N body (inv y) (loopK L k N inv m y K)) : VC P L k N (.loop body) st K := by
  intro B a w ρ F Q hk R hQ
  obtain ⟨ρ0, F0, R0⟩ := h0 B a w ρ F hk R
  have key : ∀ (n : Nat) (y : Y), m y < n → ∀ (a : Act) (w : World) (ρ : Ren) (F : Nat → Prop), Rel L B N (inv y) a w ρ F → Code.rounds P body Q n a w := by
    intro n
    induction n with
    | zero => intro y hy; omega
    | succ n ih =>
      intro y hy a w ρ F R
      rw [rounds_succ]
      refine h y B a w ρ F _ hk R fun e st' a' w' ρ' F' hK R' => ?_
      cases e with
      | normal =>
        obtain ⟨y', hlt, hent⟩ := hK
        obtain ⟨ρ2, F2, R2⟩ := hent B a' w' ρ' F' hk R'
        exact ih y' (by omega) a' w' ρ2 F2 R2
      | _ => exact hQ _ _ _ _ _ _ hK R'
  exact wp_loop_rounds _ (key _ y0 (Nat.lt_succ_self _) a w ρ0 F0 R0)

/-- A loop, round for round: at most n. -/
def VCR (P : Program) (L : Lay) (k N n : Nat) (c : Code) (st : St) (K : Exit → St → Prop) : Prop :=
  ∀ (B : Base) (a : Act) (w : World) (ρ : Ren) (F : Nat → Prop) (Q : Exit → Act → World → Prop), B.k = k → Rel L B N st a w ρ F →
    (∀ e st' a' w' ρ' F', K e st' → Rel L B N st' a' w' ρ' F' → Q e a' w') → Code.rounds P c Q n a w

/-- What stands behind a round. -/
def roundK (P : Program) (L : Lay) (k N n : Nat) (c : Code) (K : Exit → St → Prop) : Exit → St → Prop
  | .normal, st => VCR P L k N n c st K
  | e, st => K e st

theorem VC.rounds (n : Nat) {c : Code} {st : St} {K : Exit → St → Prop} (h : VCR P L k N n c st K) : VC P L k N (.loop c) st K :=
  fun B a w ρ F Q hk R hQ => wp_loop_rounds n (h B a w ρ F Q hk R hQ)

theorem VCR.next {n : Nat} {c : Code} {st : St} {K : Exit → St → Prop} (h : VC P L k N c st (roundK P L k N n c K)) : VCR P L k N (n + 1) c st K := by
  intro B a w ρ F Q hk R hQ
  rw [rounds_succ]
  refine h B a w ρ F _ hk R fun e st' a' w' ρ' F' hK R' => ?_
  cases e with
  | normal => exact hK B a' w' ρ' F' Q hk R' hQ
  | _ => exact hQ _ _ _ _ _ _ hK R'

/-- The arguments in the first slots. -/
def slotsOf : Nat → List AV → List (Nat × AV)
  | _, [] => []
  | i, x :: l => (i, x) :: slotsOf (i + 1) l

theorem slotsOf_get : ∀ {l : List AV} {i n : Nat} {x : AV}, look1 (slotsOf i l) n = some x → i ≤ n ∧ l[n - i]? = some x
  | [], _, _, _, h => by simp [slotsOf, look1] at h
  | y :: l, i, n, x, h => by
    simp only [slotsOf, look1] at h
    split at h
    · rename_i e; subst e; exact ⟨Nat.le_refl _, by simpa using h⟩
    · rename_i e
      obtain ⟨h1, h2⟩ := slotsOf_get h
      refine ⟨by omega, ?_⟩
      rw [show n - i = (n - (i + 1)) + 1 from by omega]; simpa using h2

/-- A variable's value, read off the blocks. -/
def varA (L : Lay) (ti : TyI) (st : St) (ad : AV) : Option (AV × List Prop) :=
  if isAggV ti.v then do
    let (l, ps) ← cellsAt L (fun n => st.h.getD n .dead) ad ti.size
    some (.a l, ps)
  else do
    let (l, ps) ← cellsAt L (fun n => st.h.getD n .dead) ad 1
    match l with
    | [y] => some (y, ps)
    | _ => none

/-- A function's results, read off a state. -/
def resA (L : Lay) (E : Env) (st : St) : ResultVar → Option (AV × List Prop)
  | .tmp t => (look1 st.t t).map (·, [])
  | .cell a t => do
    let ti ← E t
    let ad ← look1 st.t a
    match ad with
    | .p n off => varA L ti st (.p n off)
    | _ => none

def resAll (L : Lay) (E : Env) (st : St) (rs : List ResultVar) : Option (List AV × List Prop) :=
  match rs with
  | [] => some ([], [])
  | r :: rs => do
    let (x, p) ← resA L E st r
    let (l, ps) ← resAll L E st rs
    some (x :: l, p ++ ps)

def oneOf : List AV → AV
  | [x] => x
  | l => .t l

/-- The name that goes out as the n-th. -/
def outName (st : St) (k : Nat) (outs : List Nat) (n : Nat) : Nat := (List.range k ++ outs).getD n (st.h.length + n)

/-- The names that go out, and the values that bear them: outs: the names behind the callers' own that are handed back. -/
def Fin (L : Lay) (E : Env) (fn : Func) (k : Nat) (outs : List Nat) (hout : List HObj) (res : AV) (e : Exit) (st : St) : Prop :=
  (e = .normal ∨ e = .ret) ∧
  match resAll L E st fn.results.toList with
  | some (l, ps) => All ps ∧ (∀ n ∈ outs, k ≤ n ∧ n < st.h.length) ∧ outs.Nodup ∧ hout.length = k + outs.length ∧ k ≤ st.h.length ∧
      (∀ i, i < hout.length → hout.getD i .dead = .dead ∨ st.h.getD (outName st k outs i) .dead = (hout.getD i .dead).ren (outName st k outs)) ∧
      oneOf l = res.ren (outName st k outs)
  | none => False

/-- The end of a function, whichever names go out. -/
def Fins (L : Lay) (E : Env) (fn : Func) (k : Nat) (hout : List HObj) (res : AV) (e : Exit) (st : St) : Prop := ∃ outs, Fin L E fn k outs hout res e st

theorem resA_sound {st : St} (hE : EnvOK P E) (R : Rel L B N st a w ρ F) {r : ResultVar} {x : AV} {ps : List Prop} (h : resA L E st r = some (x, ps)) (hp : All ps) :
    ∃ v, (match r with | .tmp t => pure (a.tmps.getD t undef) | .cell c t => do loadVar t (← asAddr (a.tmps.getD c undef)) : Sem Value).run P w = .ok v w ∧ AR F w ρ x v := by
  cases r with
  | tmp t =>
    simp only [resA, Option.map_eq_some_iff, Prod.mk.injEq] at h
    obtain ⟨y, hy, rfl, rfl⟩ := h
    obtain ⟨v, hv, hr⟩ := R.slots t y hy
    exact ⟨v, by simp [hv], hr⟩
  | cell c t =>
    simp only [resA, Option.bind_eq_bind, Option.bind_eq_some_iff] at h
    obtain ⟨ti, ht, ad, had, h⟩ := h
    obtain ⟨va, hva, hra⟩ := R.slots c ad had
    have ha := hE.isAgg ht (w := w)
    have hs := hE.sizeOf ht (w := w)
    split at h
    · unfold varA at h
      split at h
      · rename_i hv
        simp only [Option.bind_eq_bind, Option.bind_eq_some_iff, Option.some.injEq, Prod.mk.injEq, Prod.exists] at h
        obtain ⟨l, qs, hc, rfl, rfl⟩ := h
        obtain ⟨hl, _, A, vs, e, hav, hcell⟩ := cellsAt_sound R.mem (fun _ _ => rfl) hra hc hp
        subst e
        have r := run_loadCells_list (P := P) w A vs hcell
        rw [hav.length, hl] at r
        refine ⟨.agg vs.toArray, ?_, by simp only [AR]; exact ⟨_, rfl, by simpa using hav⟩⟩
        simp [hva, asAddr, loadVar, ha, hv, hs, r, Result.andThen]
      · rename_i hv
        simp only [Option.bind_eq_bind, Option.bind_eq_some_iff, Prod.exists] at h
        obtain ⟨l, qs, hc, h⟩ := h
        split at h
        · simp only [Option.some.injEq, Prod.mk.injEq] at h
          obtain ⟨rfl, rfl⟩ := h
          obtain ⟨hl, _, A, vs, e, hav, hcell⟩ := cellsAt_sound R.mem (fun _ _ => rfl) hra hc hp
          subst e
          simp only [ARL] at hav
          obtain ⟨v, _, rfl, hav, rfl⟩ := hav
          have hc0 := hcell 0 v (by simp)
          rw [Addr.add_zero'] at hc0
          have hv' : isAggV ti.v = false := by simpa using hv
          exact ⟨v, by simp [hva, asAddr, loadVar, ha, hv', run_load, hc0, Result.andThen], hav⟩
        · cases h
    · cases h

theorem resAll_sound {st : St} (hE : EnvOK P E) (R : Rel L B N st a w ρ F) : ∀ {rs : List ResultVar} {l : List AV} {ps : List Prop}, resAll L E st rs = some (l, ps) → All ps →
    ∃ vs, (rs.mapM (fun r => match r with | .tmp t => pure (a.tmps.getD t undef) | .cell c t => do loadVar t (← asAddr (a.tmps.getD c undef)) : ResultVar → Sem Value)).run P w = .ok vs w ∧ ARL F w ρ l vs
  | [], l, ps, h, _ => by
    simp only [resAll, Option.some.injEq, Prod.mk.injEq] at h
    obtain ⟨rfl, _⟩ := h
    exact ⟨[], by simp, by simp [ARL]⟩
  | r :: rs, l, ps, h, hp => by
    simp only [resAll, Option.bind_eq_bind, Option.bind_eq_some_iff, Option.some.injEq, Prod.mk.injEq, Prod.exists] at h
    obtain ⟨x, p, hx, l', qs, hr, rfl, rfl⟩ := h
    rw [All_append] at hp
    obtain ⟨v, h1, h2⟩ := resA_sound hE R hx hp.1
    obtain ⟨vs, h3, h4⟩ := resAll_sound hE R hr hp.2
    exact ⟨v :: vs, by simp only [List.mapM_cons, Sem.run_bind, h1, h3, Result.andThen_ok, Sem.run_pure], by simp only [ARL]; exact ⟨v, vs, rfl, h2, h4⟩⟩

section back
variable {ρ' : Ren}
mutual
theorem AR.ren_back {g : Nat → Nat} (hg : ∀ n lo, ρ (g n) = some lo → ρ' n = some lo) : ∀ (x : AV) (v : Value), AR F w ρ (x.ren g) v → AR F w ρ' x v
  | .c _, _, h => by simpa [AR, AV.ren] using h
  | .gp _ _, _, h => by simpa [AR, AV.ren] using h
  | .p n off, v, h => by
    simp only [AR, AV.ren] at h ⊢; obtain ⟨b, sl, h1, h2⟩ := h; exact ⟨b, sl, hg _ _ h1, h2⟩
  | .s n off len cap, v, h => by
    simp only [AR, AV.ren] at h ⊢; obtain ⟨lo, h1, h2⟩ := h; exact ⟨lo, hg _ _ h1, h2⟩
  | .x n off len cap, v, h => by
    simp only [AR, AV.ren] at h ⊢; obtain ⟨lo, h1, h2⟩ := h; exact ⟨lo, hg _ _ h1, h2⟩
  | .q x off, v, h => by
    simp only [AR, AV.ren] at h ⊢; obtain ⟨ad, len, cap, h1, h2⟩ := h; exact ⟨ad, len, cap, AR.ren_back hg x _ h1, h2⟩
  | .ri k l, v, h => by simpa [AR, AV.ren] using h
  | .rr sz l, v, h => by
    simp only [AR, AV.ren] at h ⊢; obtain ⟨ao, cap, h1, h2, h3, h0, h4⟩ := h
    exact ⟨ao, cap, h1, h2, h3, h0, h4⟩
  | .a l, v, h => by
    simp only [AR, AV.ren] at h ⊢; obtain ⟨vs, h1, h2⟩ := h; exact ⟨vs, h1, ARL.ren_back hg l _ h2⟩
  | .t l, v, h => by
    simp only [AR, AV.ren] at h ⊢; obtain ⟨vs, h1, h2⟩ := h; exact ⟨vs, h1, ARL.ren_back hg l _ h2⟩
  | .f fn l, v, h => by
    simp only [AR, AV.ren] at h ⊢; obtain ⟨vs, h1, h2⟩ := h; exact ⟨vs, h1, ARL.ren_back hg l _ h2⟩
  | .i ty x, v, h => by
    simp only [AR, AV.ren] at h ⊢; obtain ⟨u, h1, h2⟩ := h; exact ⟨u, h1, AR.ren_back hg x _ h2⟩
  | .g b x, v, h => by
    simp only [AR, AV.ren] at h ⊢
    cases b
    · simpa using h
    · simp only [if_true] at h ⊢; exact AR.ren_back hg x _ h
theorem ARL.ren_back {g : Nat → Nat} (hg : ∀ n lo, ρ (g n) = some lo → ρ' n = some lo) : ∀ (l : List AV) (vs : List Value), ARL F w ρ (renL g l) vs → ARL F w ρ' l vs
  | [], _, h => by simpa [ARL, renL] using h
  | x :: l, vs, h => by
    simp only [ARL, renL] at h ⊢; obtain ⟨v, r, h1, h2, h3⟩ := h
    exact ⟨v, r, h1, AR.ren_back hg x _ h2, ARL.ren_back hg l _ h3⟩
theorem ARC.ren_back {g : Nat → Nat} (hg : ∀ n lo, ρ (g n) = some lo → ρ' n = some lo) {ad : Addr} : ∀ (i : Nat) (l : List AV), ARC F w ρ ad i (renL g l) → ARC F w ρ' ad i l
  | _, [], _ => by simp [ARC]
  | i, x :: l, h => by
    simp only [ARC, renL] at h ⊢; obtain ⟨⟨h0, v, h1, h2⟩, h3⟩ := h
    exact ⟨⟨by rw [one_ren] at h0; exact h0, v, h1, AR.ren_back hg x _ h2⟩, ARC.ren_back hg (i + 1) l h3⟩
theorem ARR.ren_back {g : Nat → Nat} (hg : ∀ n lo, ρ (g n) = some lo → ρ' n = some lo) (ao : Option Addr) (sz : Nat) : ∀ (i : Nat) (l : List (List AV)), ARR F w ρ ao sz i (renLL g l) → ARR F w ρ' ao sz i l
  | _, [], _ => by simp [ARR]
  | i, c :: l, h => by
    simp only [ARR, renLL] at h ⊢; obtain ⟨⟨ad, h1, h2, h3, h4⟩, h5⟩ := h
    exact ⟨⟨ad, h1, h2, by rw [renL_length] at h3; exact h3, ARC.ren_back hg _ c h4⟩, ARR.ren_back hg ao sz (i + 1) l h5⟩
end

theorem HR.ren_back {g : Nat → Nat} (hg : ∀ n lo, ρ (g n) = some lo → ρ' n = some lo) {n : Nat} {o : HObj} (hh : HR F w ρ (g n) (o.ren g)) : HR F w ρ' n o := by
  cases o with
  | dead => trivial
  | oi e k l => obtain ⟨lo, h1, h2⟩ := hh; exact ⟨lo, hg _ _ h1, h2⟩
  | oo e sz l =>
    obtain ⟨lo, xs, h1, h2, h3, h4⟩ := hh
    rw [renLL_length] at h2
    rw [renLL_flatten] at h3
    refine ⟨lo, xs, hg _ _ h1, h2, ARL.ren_back hg _ _ h3, fun c hc => ?_⟩
    have hmem : renL g c ∈ renLL g l := by
      clear h2 h3 h4
      induction l with
      | nil => cases hc
      | cons d l ih =>
        simp only [renLL, List.mem_cons]
        rcases List.mem_cons.1 hc with rfl | hc
        · exact .inl rfl
        · exact .inr (ih hc)
    obtain ⟨q1, q2⟩ := h4 _ hmem
    rw [renL_length] at q1
    refine ⟨q1, fun x hx => ?_⟩
    have : x.ren g ∈ renL g c := by
      clear q1 q2 hmem hc h2 h3 h4
      induction c with
      | nil => cases hx
      | cons d c ih =>
        simp only [renL, List.mem_cons]
        rcases List.mem_cons.1 hx with rfl | hx
        · exact .inl rfl
        · exact .inr (ih hx)
    have := q2 _ this
    rwa [one_ren] at this
end back

def valsOf : List Value → Value
  | [v] => v
  | vs => .tuple vs.toArray

theorem run_results {fn : Func} {tmps : Array Value} {vs : List Value} (h : (fn.results.toList.mapM (fun r => match r with | .tmp t => pure (tmps.getD t undef) | .cell c t => do loadVar t (← asAddr (tmps.getD c undef)) : ResultVar → Sem Value)).run P w = .ok vs w) :
    (results fn tmps).run P w = .ok (valsOf vs) w := by
  have e : (fn.results.mapM (fun r => match r with | .tmp t => pure (tmps.getD t undef) | .cell c t => do loadVar t (← asAddr (tmps.getD c undef)) : ResultVar → Sem Value)) = (do pure (← fn.results.toList.mapM (fun r => match r with | .tmp t => pure (tmps.getD t undef) | .cell c t => do loadVar t (← asAddr (tmps.getD c undef)) : ResultVar → Sem Value)).toArray) := by
    rw [Array.mapM_eq_mapM_toList]; rfl
  have e0 : results fn tmps = (do let vs ← fn.results.mapM (fun r => match r with | .tmp t => pure (tmps.getD t undef) | .cell c t => do loadVar t (← asAddr (tmps.getD c undef)) : ResultVar → Sem Value); pure (if h : vs.size = 1 then vs[0] else .tuple vs)) := rfl
  rw [e0]
  rcases vs with _ | ⟨v, _ | ⟨u, r⟩⟩
  · simp only [e, Sem.run_bind, h, Result.andThen_ok, Sem.run_pure]; rfl
  · simp only [e, Sem.run_bind, h, Result.andThen_ok, Sem.run_pure]; rfl
  · simp only [e, Sem.run_bind, h, Result.andThen_ok, Sem.run_pure]
    rw [dif_neg (by simp)]
    rfl

theorem AR.oneOf {l : List AV} {vs : List Value} (h : ARL F w ρ l vs) : AR F w ρ (oneOf l) (valsOf vs) := by
  have hl := h.length
  rcases l with _ | ⟨x, _ | ⟨y, l⟩⟩
  · rcases vs with _ | ⟨v, vs⟩
    · simp only [Go.Ev.oneOf, valsOf, AR]; exact ⟨_, rfl, by simpa using h⟩
    · simp at hl
  · rcases vs with _ | ⟨v, _ | ⟨u, vs⟩⟩
    · simp at hl
    · simp only [ARL] at h; obtain ⟨_, _, h1, h2, _⟩ := h
      simp only [List.cons.injEq] at h1
      simp only [Go.Ev.oneOf, valsOf]
      rw [h1.1]; exact h2
    · simp at hl
  · rcases vs with _ | ⟨v, _ | ⟨u, vs⟩⟩
    · simp at hl
    · simp at hl
    · simp only [Go.Ev.oneOf, valsOf, AR]; exact ⟨_, rfl, by simpa using h⟩

/-- A FUNCTION: its contract, out of what the executor asks of its code. -/
theorem con_of_vc {f : FuncId} {fn : Func} {c : Code} {hin : List HObj} {args : List AV} {hout : List HObj} {res : AV} (hE : EnvOK P E) (hm : P.follows .mixedOrders = true) (hf : P.funcs[f]? = some fn) (hb : fn.body = some c)
    (hcall : ∀ (as : Array Value) (w : World), (callFunc f as).run P w = .ok (.enter f as) w) (hn : args.length ≤ fn.ntmps)
    (h : VC P L hin.length fn.ntmps c ⟨slotsOf 0 args, hin⟩ (Fins L E fn hin.length hout res)) : Con P L f hin args hout res := by
  refine ⟨hcall, fun w vs F0 ρ0 hρ M hv => calls_of_wp hf hb ?_⟩
  let B : Base := ⟨fun b => ∃ n, (hin.getD n .dead).live ∧ blkOf ρ0 n = some b, w, F0, ρ0, hin.length, hρ, fun b ⟨n, hl, hb⟩ => ⟨n, (by rcases Nat.lt_or_ge n hin.length with h | h; exact h; simp only [List.getD, List.getElem?_eq_none h] at hl; exact hl.elim), hb⟩⟩
  refine h B _ w ρ0 F0 _ rfl ⟨rfl, ?_, fun n x hx => ?_, hρ, M, fun _ _ h => h, fun _ h => h, fun _ h => .inl h⟩ fun e st a' w' ρ' F' hK R => ?_
  · have := hv.length; simp; omega
  · obtain ⟨_, hx⟩ := slotsOf_get hx
    obtain ⟨v, hv1, hv2⟩ := hv.get _ _ hx
    refine ⟨v, ?_, hv2⟩
    simp only [Nat.sub_zero] at hv1
    have hlt := (List.getElem?_eq_some_iff.1 hv1).1
    rw [Array.getElem?_append_left (by simpa using hlt)]; simpa using hv1
  · obtain ⟨outs, he, hK⟩ := hK
    split at hK
    · rename_i l ps hres
      obtain ⟨hp, hmem, hnd, hlen, hk, hobj, hone⟩ := hK
      obtain ⟨vals, h1, h2⟩ := resAll_sound hE R hres hp
      have hrun := run_results h1
      have hav := AR.oneOf h2
      rw [hone] at hav
      generalize hgd : outName st hin.length outs = g at hobj hav
      have hg1 : ∀ n, n < hin.length → g n = n := fun n hn => by
        rw [← hgd]; simp only [outName, List.getD]; rw [List.getElem?_append_left (by simpa using hn)]; simp [hn]
      have hg2 : ∀ n, hin.length ≤ n → (hn : n < hout.length) → ∃ m ∈ outs, g n = m ∧ outs[n - hin.length]? = some m := fun n h1 h2 => by
        have hlt : n - hin.length < outs.length := by omega
        refine ⟨outs[n - hin.length], List.getElem_mem hlt, ?_, List.getElem?_eq_getElem hlt⟩
        rw [← hgd]; simp only [outName, List.getD]; rw [List.getElem?_append_right (by simpa using h1)]; simp [hlt]
      have hg3 : ∀ n, hout.length ≤ n → g n ≥ st.h.length := fun n h1 => by
        rw [← hgd]; simp only [outName, List.getD]; rw [List.getElem?_eq_none (by simp; omega)]; simp
      have hginj : ∀ i j, i < hout.length → j < hout.length → g i = g j → i = j := fun i j hi hj e => by
        by_cases h1 : i < hin.length <;> by_cases h2 : j < hin.length
        · rw [hg1 i h1, hg1 j h2] at e; exact e
        · obtain ⟨m, hm1, hm2, _⟩ := hg2 j (by omega) hj
          rw [hg1 i h1, hm2] at e
          have := (hmem m hm1).1; omega
        · obtain ⟨m, hm1, hm2, _⟩ := hg2 i (by omega) hi
          rw [hg1 j h2, hm2] at e
          have := (hmem m hm1).1; omega
        · obtain ⟨m1, _, hm2, hm3⟩ := hg2 i (by omega) hi
          obtain ⟨m2, _, hm5, hm6⟩ := hg2 j (by omega) hj
          rw [hm2, hm5] at e
          subst e
          have hi' : i - hin.length < outs.length := by omega
          have hj' : j - hin.length < outs.length := by omega
          rw [List.getElem?_eq_getElem hi'] at hm3
          rw [List.getElem?_eq_getElem hj'] at hm6
          have := (List.getElem_inj hnd).1 (Option.some.inj (hm3.trans hm6.symm))
          omega
      let ρo : Ren := fun n => ρ' (g n)
      have hρo : ∀ n lo, ρ' (g n) = some lo → ρo n = some lo := fun _ _ h => h
      have hlv : ∀ n, (hout.getD n .dead).live → n < hout.length ∧ st.h.getD (g n) .dead = (hout.getD n .dead).ren g := fun n hl => by
        have hn : n < hout.length := by
          rcases Nat.lt_or_ge n hout.length with h | h
          · exact h
          · simp only [List.getD, List.getElem?_eq_none h] at hl; exact hl.elim
        refine ⟨hn, (hobj n hn).resolve_left fun e => by rw [e] at hl; exact hl⟩
      have hlv' : ∀ n, (hout.getD n .dead).live → (st.h.getD (g n) .dead).live := fun n hl => by rw [(hlv n hl).2, HObj.live_ren]; exact hl
      have fin : bodyPost P fn (fun e w'_1 => ∃ v F ρ, e = Ending.returned v ∧ (∀ b, F0 b → F b) ∧ (∀ b, F b → F0 b ∨ w.heap.size ≤ b) ∧ (∀ n lo, ρ0 n = some lo → ρ n = some lo) ∧ (∀ n, n ≥ hout.length → ρ n = none) ∧
          Mem L (fun b => ∃ n, (hin.getD n .dead).live ∧ blkOf ρ0 n = some b) w F w'_1 ρ (fun n => hout.getD n .dead) ∧ AR F w'_1 ρ res v) .normal a' w' := by
        refine ⟨R.defers, _, hrun, _, F', ρo, rfl, R.f0, R.f1, fun n lo hn => ?_, fun n hn => R.fresh _ (hg3 n hn), ?_, AR.ren_back hρo _ _ hav⟩
        · have hlt : n < hin.length := by
            rcases Nat.lt_or_ge n hin.length with h | h
            · exact h
            · rw [hρ n h] at hn; cases hn
          show ρ' (g n) = some lo
          rw [hg1 n hlt]; exact R.ext0 n lo hn
        · refine ⟨fun n => ?_, fun n m b hne hl1 hl2 hb1 hb2 => ?_, fun n b hl hb => ?_, fun n b hl hb => ?_, R.mem.bound, R.mem.fr, R.mem.lay⟩
          · by_cases hl : (hout.getD n .dead).live
            · have := R.mem.heap (g n)
              rw [(hlv n hl).2] at this
              exact HR.ren_back hρo this
            · cases hx : hout.getD n .dead with
              | dead => trivial
              | oi _ _ _ => rw [hx] at hl; exact (hl trivial).elim
              | oo _ _ _ => rw [hx] at hl; exact (hl trivial).elim
          · exact R.mem.dis (g n) (g m) b (fun e => hne (hginj n m (hlv n hl1).1 (hlv m hl2).1 e)) (hlv' n hl1) (hlv' m hl2) hb1 hb2
          · exact R.mem.notF (g n) b (hlv' n hl) hb
          · exact R.mem.own (g n) b (hlv' n hl) hb
      rcases he with rfl | rfl
      · exact fin
      · exact fin
    · exact hK.elim
end
end Go.Ev
