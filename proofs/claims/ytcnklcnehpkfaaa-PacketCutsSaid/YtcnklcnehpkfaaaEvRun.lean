/-
  The executor as one run: a tree says what is to be shown; the kernel runs the code along it.
-/
import Derived.Test.YtcnklcnehpkfaaaEvRow
import Derived.Test.YtcnklcnehpkfaaaEvFz
namespace Go.Ev
open Go Go.RowKit
set_option linter.unusedVariables false
set_option linter.unusedSimpArgs false

/-- What stands behind a piece of code. -/
inductive Fr
  | seq (c : Code)
  | block (id : Nat)
  | rd (n : Nat) (c : Code)
  | sc

/-- What is to be shown of a run, and the hints for it. -/
inductive Ob
  | p (p : Prop) (t : Ob)
  | b (b : Bool) (x y : Ob)
  | t (x : Ob)
  | i (n : Nat) (x y : Int) (t : Ob)
  | o (n : Nat) (x y : Bool) (t : Ob)
  | w (n : Nat) (x y : AV) (t : Ob)
  | ci (m j : Nat) (x y : Int) (t : Ob)
  | cw (m j : Nat) (x y : AV) (t : Ob)
  | li (m : Nat) (x y : List Int) (t : Ob)
  | lr (m : Nat) (x y : List (List AV)) (t : Ob)
  | v (v : List (Nat × List AV)) (u : List (Nat × HObj)) (t : Ob)
  | k (l : List Nat) (t : Ob)
  | z (n : Nat) (t : Ob)
  | sa (n : Nat) (y : AV) (t : Ob)
  | sh (m : Nat) (y : HObj) (t : Ob)
  | nl (d : Nat) (o : HObj) (t : Ob)
  | nc (m j : Nat) (o : HObj) (t : Ob)
  | u (t : Ob)
  | l (c : Code) (fs : List Fr) (st : St)
  | e (x : Exit) (st : St)
  | r (x : AV)
  | no

inductive Md
  | c (c : Code)
  | x (e : Exit)

def wrapP : List Prop → Ob → (Ob → Option Ob) → Option Ob
  | [], T, f => f T
  | p :: ps, .p _ T, f => match wrapP ps T f with | some t => some (.p p t) | none => none
  | _, _, _ => none

/-- A region, all slots kept. -/
def evRg (P : Program) (L : Lay) (E : Env) (C : Tab) (N : Nat) (ops : Array Oper) (draw : Bool) (st : St) : Option (St × List Prop) :=
  match evOps P L E C N ops ops.toList st with
  | some (st', ps, sg) => if !draw || indep ops sg then some (st', ps) else none
  | none => none

def isEmptyRow : HObj → Bool
  | .oi _ _ [] => true
  | .oo _ _ [] => true
  | _ => false

structure RunC where
  P : Program
  L : Lay
  E : Env
  C : Tab
  k : Nat
  N : Nat
  rs : List ResultVar
  fin : Nat

/-- The end of the known frames. -/
def runE (R : RunC) (T : Ob) (e : Exit) (st : St) : Option Ob :=
  match T with
  | .e _ _ => some (.e e st)
  | T => match (match e with | .ret => R.fin == 1 || R.fin == 2 | .normal => R.fin == 2 | _ => false) with
    | true => match resAll R.L R.E st R.rs with
      | some (l, ps) => wrapP ps T fun t => match t with | .r _ => some (.r (oneOf l)) | _ => none
      | none => none
    | false => none

def runX (R : RunC) (rec : Ob → Md → St → List Fr → Option Ob) (T : Ob) (e : Exit) (st : St) (fs : List Fr) : Option Ob :=
  match fs with
  | [] => runE R T e st
  | .seq c :: fs => match e with
    | .normal => rec T (.c c) st fs
    | e => rec T (.x e) st fs
  | .block id :: fs => match e with
    | .exit j => match (j == id) with
      | true => rec T (.x .normal) st fs
      | false => rec T (.x (.exit j)) st fs
    | e => rec T (.x e) st fs
  | .rd n c :: fs => match e with
    | .normal => match n with
      | n + 1 => rec T (.c c) st (.rd n c :: fs)
      | 0 => none
    | e => rec T (.x e) st fs
  | .sc :: fs => match e with
    | .goto _ => none
    | e => rec T (.x e) st fs

def runC (R : RunC) (rec : Ob → Md → St → List Fr → Option Ob) (T : Ob) (c : Code) (st : St) (fs : List Fr) : Option Ob :=
  match c with
  | .skip => rec T (.x .normal) st fs
  | .exit id => rec T (.x (.exit id)) st fs
  | .ret => rec T (.x .ret) st fs
  | .seq x y => rec T (.c x) st (.seq y :: fs)
  | .block id b => rec T (.c b) st (.block id :: fs)
  | .scope b => rec T (.c b) st (.sc :: fs)
  | .label _ => rec T (.x .normal) st fs
  | .cond o x y => match evX st.t o with
    | some (.c (.bool b)) => match T with
      | .b _ tx ty => match rec tx (.c x) st fs, rec ty (.c y) st fs with
        | some tx', some ty' => some (.b b tx' ty')
        | _, _ => none
      | .t T' => match b with
        | true => match rec T' (.c x) st fs with | some t' => some (.t t') | none => none
        | false => match rec T' (.c y) st fs with | some t' => some (.t t') | none => none
      | T => match b with
        | true => rec T (.c x) st fs
        | false => rec T (.c y) st fs
    | _ => none
  | .region _ ops draw => match T with
    | .v vs us T' => match evRg R.P R.L R.E (R.C.hint vs us) R.N ops draw st with
      | some (st', ps) => match wrapP ps T' fun t => rec t (.x .normal) st' fs with | some t' => some (.v vs us t') | none => none
      | none => none
    | .t T' => match evRg R.P R.L R.E R.C R.N ops draw st with
      | some (st', ps) => match wrapP ps T' fun t => rec t (.x .normal) st' fs with | some t' => some (.t t') | none => none
      | none => none
    | T => match evRg R.P R.L R.E R.C R.N ops draw st with
      | some (st', ps) => wrapP ps T fun t => rec t (.x .normal) st' fs
      | none => none
  | .loop b => match T with
    | .u T' => match rec T' (.c b) st (.rd 1000 b :: fs) with | some t' => some (.u t') | none => none
    | .l _ _ _ => some (.l (.loop b) fs st)
    | _ => none
  | _ => none

def runH (R : RunC) (rec : Ob → Md → St → List Fr → Option Ob) (T : Ob) (m : Md) (st : St) (fs : List Fr) : Option Ob :=
  match T with
  | .no => some .no
  | .i n _ y t => match look1 st.t n with
    | some (.c (.int k x)) => match rec t m ⟨(n, .c (.int k y)) :: st.t, st.h⟩ fs with | some t' => some (.i n x y t') | none => none
    | _ => none
  | .o n _ y t => match look1 st.t n with
    | some (.c (.bool x)) => match rec t m ⟨(n, .c (.bool y)) :: st.t, st.h⟩ fs with | some t' => some (.o n x y t') | none => none
    | _ => none
  | .w n _ y t => match look1 st.t n with
    | some x => match rec t m ⟨(n, y) :: st.t, st.h⟩ fs with | some t' => some (.w n x y t') | none => none
    | none => none
  | .ci n j _ y t => match st.h.getD n .dead with
    | .oo e sz [c] => match c.getD j (.a []) with
      | .c (.int k x) => match rec t m ⟨st.t, st.h.set n (.oo e sz [c.set j (.c (.int k y))])⟩ fs with | some t' => some (.ci n j x y t') | none => none
      | _ => none
    | _ => none
  | .cw n j _ y t => match st.h.getD n .dead with
    | .oo e sz [c] => match rec t m ⟨st.t, st.h.set n (.oo e sz [c.set j y])⟩ fs with | some t' => some (.cw n j (c.getD j (.a [])) y t') | none => none
    | _ => none
  | .li n _ y t => match st.h.getD n .dead with
    | .oi e k x => match rec t m ⟨st.t, st.h.set n (.oi e k y)⟩ fs with | some t' => some (.li n x y t') | none => none
    | _ => none
  | .lr n _ y t => match st.h.getD n .dead with
    | .oo e sz x => match rec t m ⟨st.t, st.h.set n (.oo e sz y)⟩ fs with | some t' => some (.lr n x y t') | none => none
    | _ => none
  | .k l t => match rec t m ⟨keepS st.t l, st.h⟩ fs with | some t' => some (.k l t') | none => none
  | .z n t => match (R.k == 0) with
    | true => match wrapP ((st.h.getD n .dead).live :: freezeC n st) t fun t => rec t m (freezeSt n st) fs with | some t' => some (.z n t') | none => none
    | false => none
  | .sa n y t => match look1 st.t n with
    | some x => match wrapP [subA x y] t fun t => rec t m ⟨(n, y) :: st.t, st.h⟩ fs with | some t' => some (.sa n y t') | none => none
    | none => none
  | .sh n y t => match wrapP [subO (st.h.getD n .dead) y, n < st.h.length] t fun t => rec t m ⟨st.t, st.h.set n y⟩ fs with | some t' => some (.sh n y t') | none => none
  | .nl d o t => match look1 st.t d, isEmptyRow o with
    | some (.c (.slice none 0 0)), true => match rec t m ⟨(d, .s st.h.length 0 0 0) :: st.t, st.h ++ [o]⟩ fs with | some t' => some (.nl d o t') | none => none
    | _, _ => none
  | .nc n j o t => match st.h.getD n .dead, isEmptyRow o with
    | .oo e sz [c], true => match c.getD j (.a []) with
      | .c (.slice none 0 0) => match rec t m ⟨st.t, st.h.set n (.oo e sz [c.set j (.s st.h.length 0 0 0)]) ++ [o]⟩ fs with | some t' => some (.nc n j o t') | none => none
      | _ => none
    | _, _ => none
  | T => match m with
    | .c c => runC R rec T c st fs
    | .x e => runX R rec T e st fs

/-- The run. -/
def run (R : RunC) : Nat → Ob → Md → St → List Fr → Option Ob
  | 0, _, _, _, _ => none
  | f + 1, T, m, st, fs => runH R (run R f) T m st fs

/-- What is to be shown. K: what stands behind; res: what a function gives. -/
def KE (L : Lay) (k N : Nat) (K : Exit → St → Prop) (e : Exit) (st : St) : Prop := ∃ st', Ent L k N st st' ∧ K e st'

def denF (P : Program) (L : Lay) (k N : Nat) (K : Exit → St → Prop) : List Fr → Exit → St → Prop
  | [] => K
  | .seq c :: fs => seqK P L k N c (denF P L k N K fs)
  | .block id :: fs => blockK id (denF P L k N K fs)
  | .rd n c :: fs => roundK P L k N n c (denF P L k N K fs)
  | .sc :: fs => scopeK (denF P L k N K fs)

def D (P : Program) (L : Lay) (k N : Nat) (K : Exit → St → Prop) (res : AV) : Ob → Prop
  | .p p t => p ∧ D P L k N K res t
  | .b b x y => (b = true → D P L k N K res x) ∧ (b = false → D P L k N K res y)
  | .t t => D P L k N K res t
  | .i _ x y t => x = y ∧ D P L k N K res t
  | .o _ x y t => x = y ∧ D P L k N K res t
  | .w _ x y t => x = y ∧ D P L k N K res t
  | .ci _ _ x y t => x = y ∧ D P L k N K res t
  | .cw _ _ x y t => x = y ∧ D P L k N K res t
  | .li _ x y t => x = y ∧ D P L k N K res t
  | .lr _ x y t => x = y ∧ D P L k N K res t
  | .v _ _ t => D P L k N K res t
  | .k _ t => D P L k N K res t
  | .z _ t => D P L k N K res t
  | .sa _ _ t => D P L k N K res t
  | .sh _ _ t => D P L k N K res t
  | .nl _ _ t => D P L k N K res t
  | .nc _ _ _ t => D P L k N K res t
  | .u t => D P L k N K res t
  | .l c fs st => VC P L k N c st (denF P L k N K fs)
  | .e e st => KE L k N K e st
  | .r x => x = res
  | .no => False

section
variable {R : RunC} {K : Exit → St → Prop} {res : AV}

theorem wrapP_ok {f : Ob → Option Ob} : ∀ {ps : List Prop} {T : Ob}, wrapP ps T f = some T → ∃ t, f t = some t ∧ (D R.P R.L R.k R.N K res T → All ps ∧ D R.P R.L R.k R.N K res t)
  | [], T, h => ⟨T, h, fun d => ⟨trivial, d⟩⟩
  | p :: ps, T, h => by
    cases T with
    | p q t =>
      simp only [wrapP] at h
      split at h
      · rename_i t' ht
        simp only [Option.some.injEq, Ob.p.injEq] at h
        obtain ⟨rfl, rfl⟩ := h
        obtain ⟨t1, h1, h2⟩ := wrapP_ok ht
        exact ⟨t1, h1, fun d => ⟨⟨d.1, (h2 d.2).1⟩, (h2 d.2).2⟩⟩
      · cases h
    | _ => simp [wrapP] at h

def Goal (R : RunC) (K : Exit → St → Prop) (m : Md) (st : St) (fs : List Fr) : Prop :=
  match m with
  | .c c => VC R.P R.L R.k R.N c st (denF R.P R.L R.k R.N K fs)
  | .x e => KE R.L R.k R.N (denF R.P R.L R.k R.N K fs) e st

theorem VC.close {P : Program} {L : Lay} {k N : Nat} {c : Code} {st : St} {K : Exit → St → Prop} (h : VC P L k N c st (KE L k N K)) : VC P L k N c st K := fun B a w ρ F Q hk R hQ =>
  h B a w ρ F Q hk R fun e st' a' w' ρ' F' ⟨st'', he, hK⟩ R' => by
    obtain ⟨ρ2, F2, R2⟩ := he B a' w' ρ' F' hk R'
    exact hQ _ _ _ _ _ _ hK R2

theorem Goal.ent {m : Md} {st st' : St} {fs : List Fr} (he : Ent R.L R.k R.N st st') (h : Goal R K m st' fs) : Goal R K m st fs := by
  cases m with
  | c c => exact VC.ent he h
  | x e => obtain ⟨s, h1, h2⟩ := h; exact ⟨s, he.trans h1, h2⟩

theorem KE.of {L : Lay} {k N : Nat} {K : Exit → St → Prop} {e : Exit} {st : St} (h : K e st) : KE L k N K e st := ⟨st, Ent.refl, h⟩

/-- A slot in other words; a block in other words. -/
theorem Ent.slot {L : Lay} {k N : Nat} {t : List (Nat × AV)} {h : List HObj} {n : Nat} {x y : AV} (hx : look1 t n = some x) (hs : subA x y) : Ent L k N ⟨t, h⟩ ⟨(n, y) :: t, h⟩ := fun B a w ρ F hk R => by
  refine ⟨ρ, F, R.defers, R.size, fun m z hz => ?_, R.fresh, R.mem, R.ext0, R.f0, R.f1⟩
  simp only [look1] at hz
  split at hz
  · rename_i e; subst e
    simp only [Option.some.injEq] at hz; subst hz
    obtain ⟨v, hv, hr⟩ := R.slots _ _ hx
    exact ⟨v, hv, AR.sub _ _ _ hs hr⟩
  · exact R.slots m z hz
theorem Ent.keep {L : Lay} {k N : Nat} {t : List (Nat × AV)} {h : List HObj} (l : List Nat) : Ent L k N ⟨t, h⟩ ⟨keepS t l, h⟩ := fun B a w ρ F hk R => ⟨ρ, F, R.keep l⟩
theorem Ent.nilCell {L : Lay} {k N : Nat} {t : List (Nat × AV)} {h : List HObj} {m j : Nat} {e sz : Nat} {c : List AV} (o : HObj) (ho : isEmptyRow o = true) (hm : h.getD m .dead = .oo e sz [c]) (hj : c.getD j (.a []) = .c (.slice none 0 0)) :
    Ent L k N ⟨t, h⟩ ⟨t, h.set m (.oo e sz [c.set j (.s h.length 0 0 0)]) ++ [o]⟩ := fun B a w ρ F hk R => by
  have hml : m < h.length := by
    rcases Nat.lt_or_ge m h.length with h1 | h1
    · exact h1
    · simp only [List.getD, List.getElem?_eq_none h1] at hm; cases hm
  have hold : ∀ n lo, ρ n = some lo → upd ρ h.length (some ⟨none, 0⟩) n = some lo := fun n lo hn => by
    have : n ≠ h.length := fun e => by rw [e] at hn; rw [R.fresh _ (Nat.le_refl _)] at hn; cases hn
    rw [upd_other _ _ this]; exact hn
  have hF : ∀ b, F b → F b ∧ w.heap[b]? = w.heap[b]? := fun b hb => ⟨hb, rfl⟩
  have hget : ∀ n, (h.set m (.oo e sz [c.set j (.s h.length 0 0 0)]) ++ [o]).getD n .dead = if n = h.length then o else if n = m then .oo e sz [c.set j (.s h.length 0 0 0)] else h.getD n .dead := fun n => by
    simp only [List.getD]
    split
    · rename_i e; subst e; simp
    · rename_i e1
      rcases Nat.lt_or_ge n h.length with h1 | h1
      · rw [List.getElem?_append_left (by simpa using h1), List.getElem?_set]
        split
        · rename_i e2; subst e2; simp
        · rename_i e2; rw [if_neg (Ne.symm e2)]
      · rw [List.getElem?_eq_none (by simp; omega), List.getElem?_eq_none h1, if_neg (by omega)]
  have hblk : ∀ n b, blkOf (upd ρ h.length (some ⟨none, 0⟩)) n = some b → n ≠ h.length ∧ blkOf ρ n = some b := fun n b hb => by
    have : n ≠ h.length := fun e => by subst e; simp [blkOf, upd_same] at hb
    exact ⟨this, by rw [blkOf_upd_other _ this] at hb; exact hb⟩
  have hlive : ∀ n, n ≠ h.length → ((h.set m (.oo e sz [c.set j (.s h.length 0 0 0)]) ++ [o]).getD n .dead).live → (h.getD n .dead).live := fun n hn hl => by
    rw [hget, if_neg hn] at hl
    split at hl
    · rename_i e2; subst e2; rw [hm]; trivial
    · exact hl
  refine ⟨upd ρ h.length (some ⟨none, 0⟩), F, R.defers, R.size, fun n x hx => ?_, fun n hn => ?_, ⟨fun n => ?_, fun n q b hnm hl1 hl2 hb1 hb2 => ?_, fun n b hl hb => ?_, fun n b hl hb => ?_, R.mem.bound, R.mem.fr, R.mem.lay⟩, fun n lo hn => hold n lo (R.ext0 n lo hn), R.f0, R.f1⟩
  · obtain ⟨v, hv, hr⟩ := R.slots n x hx
    exact ⟨v, hv, hr.mono hF hold⟩
  · simp only [List.length_append, List.length_singleton, List.length_set] at hn
    rw [upd_other _ _ (by omega)]; exact R.fresh n (by show n ≥ h.length; omega)
  · show HR F w _ n ((h.set m (.oo e sz [c.set j (.s h.length 0 0 0)]) ++ [o]).getD n .dead)
    rw [hget]
    split
    · rename_i e; subst e
      cases o with
      | dead => trivial
      | oi e i l => cases l with
        | nil => exact ⟨⟨none, 0⟩, upd_same _ _ _, by simp, .inl ⟨rfl, rfl⟩⟩
        | cons a b => simp [isEmptyRow] at ho
      | oo e i l => cases l with
        | nil => exact ⟨⟨none, 0⟩, [], upd_same _ _ _, ⟨by simp, .inl ⟨rfl, rfl⟩⟩, by simp [ARL], by simp⟩
        | cons a b => simp [isEmptyRow] at ho
    · split
      · rename_i _ e2
        subst e2
        have hh := R.mem.heap n
        simp only [hm] at hh
        obtain ⟨lo, xs, h1, h2, h3, h4⟩ := hh
        refine ⟨lo, xs, hold _ _ h1, h2, ?_, fun d hd => ?_⟩
        · simp only [List.flatten_cons, List.flatten_nil, List.append_nil] at h3 ⊢
          refine ARL.of_get (by rw [h3.length, List.length_set]) fun i x hx => ?_
          rw [List.getElem?_set] at hx
          split at hx
          · rename_i e3
            subst e3
            split at hx
            · rename_i hlt
              simp only [Option.some.injEq] at hx; subst hx
              obtain ⟨v, hv, hr⟩ := h3.get j (.c (.slice none 0 0)) (by rw [← hj]; simp [List.getD, hlt])
              refine ⟨v, hv, ?_⟩
              simp only [AR] at hr; subst hr
              simp only [AR]
              exact ⟨⟨none, 0⟩, upd_same _ _ _, rfl⟩
            · cases hx
          · obtain ⟨v, hv, hr⟩ := h3.get i x hx
            exact ⟨v, hv, hr.mono hF hold⟩
        · rw [List.mem_singleton] at hd; subst hd
          obtain ⟨q1, q2⟩ := h4 c (by simp)
          refine ⟨by rw [List.length_set]; exact q1, fun x hx => ?_⟩
          rcases List.mem_or_eq_of_mem_set hx with hx | hx
          · exact q2 x hx
          · subst hx; rfl
      · exact (R.mem.heap n).mono hF hold fun _ _ _ => rfl
  · obtain ⟨h1, h1'⟩ := hblk n b hb1
    obtain ⟨h2, h2'⟩ := hblk q b hb2
    exact R.mem.dis n q b hnm (hlive n h1 hl1) (hlive q h2 hl2) h1' h2'
  · obtain ⟨h1, h1'⟩ := hblk n b hb
    exact R.mem.notF n b (hlive n h1 hl) h1'
  · obtain ⟨h1, h1'⟩ := hblk n b hb
    exact R.mem.own n b (hlive n h1 hl) h1'
theorem subO_refl (o : HObj) : subO o o := by
  cases o with
  | oo e sz l => exact ⟨rfl, rfl, subLL_same l⟩
  | _ => rfl
theorem subT_refl : ∀ t : List (Nat × AV), All (subT t t)
  | [] => trivial
  | (n, x) :: t => ⟨rfl, subA_refl x, subT_refl t⟩
theorem subH_set : ∀ {h : List HObj} {n : Nat} {y : HObj}, subO (h.getD n .dead) y → All (subH h (h.set n y))
  | [], n, y, _ => trivial
  | x :: h, 0, y, hs => ⟨hs, subH_refl h⟩
  | x :: h, n + 1, y, hs => ⟨subO_refl x, subH_set (h := h) (by simpa using hs)⟩
where subH_refl : ∀ h : List HObj, All (subH h h)
  | [] => trivial
  | x :: h => ⟨subO_refl x, subH_refl h⟩
theorem Ent.block {L : Lay} {k N : Nat} {t : List (Nat × AV)} {h : List HObj} {n : Nat} {y : HObj} (hs : subO (h.getD n .dead) y) : Ent L k N ⟨t, h⟩ ⟨t, h.set n y⟩ :=
  Ent.sub (by rw [All_append]; exact ⟨subT_refl t, subH_set hs⟩)
theorem set_getD {α : Type} {c : List α} {j : Nat} {d x : α} (h : c.getD j d = x) : c.set j x = c := by
  subst h
  rcases Nat.lt_or_ge j c.length with h | h
  · simp [List.getD, h]
  · exact List.set_eq_of_length_le h
theorem Goal.slot {m : Md} {st : St} {fs : List Fr} {n : Nat} {x y : AV} (hx : look1 st.t n = some x) (e : x = y) (h : Goal R K m ⟨(n, y) :: st.t, st.h⟩ fs) : Goal R K m st fs :=
  Goal.ent (Ent.slot hx (e ▸ subA_refl x)) h
theorem Goal.block {m : Md} {st : St} {fs : List Fr} {n : Nat} {x y : HObj} (hx : st.h.getD n .dead = x) (e : x = y) (h : Goal R K m ⟨st.t, st.h.set n y⟩ fs) : Goal R K m st fs :=
  Goal.ent (Ent.block (by rw [hx, e]; exact subO_refl y)) h

/-- A function's result read off a state. -/
def FinR (L : Lay) (E : Env) (rs : List ResultVar) (res : AV) (e : Exit) (st : St) : Prop := (e = .normal ∨ e = .ret) ∧ ∃ l ps, resAll L E st rs = some (l, ps) ∧ All ps ∧ oneOf l = res
/-- How a run may end: 0: nowhere; 1: by a return; 2: also at the end. -/
class EndK (n : Nat) (L : Lay) (E : Env) (rs : outParam (List ResultVar)) (res : outParam AV) (K : Exit → St → Prop) : Prop where
  ret : n ≠ 0 → ∀ st, FinR L E rs res .ret st → K .ret st
  nrm : n = 2 → ∀ st, FinR L E rs res .normal st → K .normal st

theorem runE_ok [hK : EndK R.fin R.L R.E R.rs res K] {T : Ob} {e : Exit} {st : St} (h : runE R T e st = some T) (d : D R.P R.L R.k R.N K res T) : KE R.L R.k R.N K e st := by
  by_cases hT : ∃ e' st', T = .e e' st'
  · obtain ⟨e', st', rfl⟩ := hT
    simp only [runE, Option.some.injEq, Ob.e.injEq] at h
    obtain ⟨rfl, rfl⟩ := h
    exact d
  · have h' : (match (match e with | .ret => R.fin == 1 || R.fin == 2 | .normal => R.fin == 2 | _ => false) with
      | true => match resAll R.L R.E st R.rs with
        | some (l, ps) => wrapP ps T fun t => match t with | .r _ => some (.r (oneOf l)) | _ => none
        | none => none
      | false => none) = some T := by
      cases T <;> first | exact h | exact (hT ⟨_, _, rfl⟩).elim
    clear h
    split at h'
    · rename_i hb
      split at h'
      · rename_i l ps hres
        obtain ⟨t, ht, hd⟩ := wrapP_ok (R := R) (K := K) (res := res) h'
        obtain ⟨hp, dt⟩ := hd d
        cases t <;> simp only [reduceCtorEq, Option.some.injEq, Ob.r.injEq] at ht
        subst ht
        have hres' : oneOf l = res := dt
        cases e with
        | normal =>
          simp only [beq_iff_eq] at hb
          exact KE.of (hK.nrm hb st ⟨.inl rfl, l, ps, hres, hp, hres'⟩)
        | ret =>
          have : R.fin ≠ 0 := fun h0 => by simp [h0] at hb
          exact KE.of (hK.ret this st ⟨.inr rfl, l, ps, hres, hp, hres'⟩)
        | _ => simp at hb
      · cases h'
    · cases h'

theorem KE.seq {c : Code} {fs : List Fr} {e : Exit} {st : St} (he : e ≠ .normal) (h : KE R.L R.k R.N (denF R.P R.L R.k R.N K fs) e st) : KE R.L R.k R.N (denF R.P R.L R.k R.N K (.seq c :: fs)) e st := by
  obtain ⟨s, h1, h2⟩ := h
  refine ⟨s, h1, ?_⟩
  cases e with
  | normal => exact (he rfl).elim
  | _ => exact h2

theorem runX_ok {rec : Ob → Md → St → List Fr → Option Ob} (ih : ∀ T m st fs, rec T m st fs = some T → D R.P R.L R.k R.N K res T → Goal R K m st fs)
    [hK : EndK R.fin R.L R.E R.rs res K] {T : Ob} {e : Exit} {st : St} {fs : List Fr} (h : runX R rec T e st fs = some T) (d : D R.P R.L R.k R.N K res T) : Goal R K (.x e) st fs := by
  match fs with
  | [] => exact (runE_ok (K := K) h d : KE R.L R.k R.N K e st)
  | .seq c :: fs =>
    cases e with
    | normal => exact KE.of (show VC _ _ _ _ _ _ _ from ih _ _ _ _ h d)
    | _ => exact KE.seq (by simp) (ih _ _ _ _ h d)
  | .block id :: fs =>
    cases e with
    | exit j =>
      simp only [runX] at h
      split at h
      · rename_i hj
        obtain ⟨s, h1, h2⟩ := ih _ _ _ _ h d
        refine ⟨s, h1, ?_⟩
        show blockK id (denF R.P R.L R.k R.N K fs) (.exit j) s
        simp only [blockK]; rw [if_pos (by simpa using hj)]; exact h2
      · rename_i hj
        obtain ⟨s, h1, h2⟩ := ih _ _ _ _ h d
        refine ⟨s, h1, ?_⟩
        show blockK id (denF R.P R.L R.k R.N K fs) (.exit j) s
        simp only [blockK]; rw [if_neg (by simpa using hj)]; exact h2
    | _ => obtain ⟨s, h1, h2⟩ := ih _ _ _ _ h d; exact ⟨s, h1, h2⟩
  | .rd n c :: fs =>
    cases e with
    | normal =>
      cases n with
      | zero => simp [runX] at h
      | succ n => exact KE.of (VCR.next (ih _ _ _ _ h d))
    | _ => obtain ⟨s, h1, h2⟩ := ih _ _ _ _ h d; exact ⟨s, h1, h2⟩
  | .sc :: fs =>
    cases e with
    | goto l => simp [runX] at h
    | _ => obtain ⟨s, h1, h2⟩ := ih _ _ _ _ h d; exact ⟨s, h1, h2⟩

theorem VC.region0 {P : Program} {L : Lay} {E : Env} {C : Tab} {k N : Nat} (hE : EnvOK P E) (hm : P.follows .mixedOrders = true) (hC0 : C.kill = true → k = 0) {ops : Array Oper} {draw : Bool} {st st' : St} {ps : List Prop} {id : Nat} {K : Exit → St → Prop} (h : evRg P L E C N ops draw st = some (st', ps)) (hp : All ps) (hK : KE L k N K .normal st') : VC P L k N (.region id ops draw) st K := by
  refine VC.close fun B a w ρ F Q hk R hQ => ?_
  have hC : C.kill = true → ∀ b, ¬ B.X b := fun hK b hb => by
    obtain ⟨n, hn, _⟩ := B.hX b hb
    have := hC0 hK
    omega
  simp only [evRg] at h
  split at h
  · rename_i st1 qs sg hev
    split at h
    · rename_i hd
      simp only [Option.some.injEq, Prod.mk.injEq] at h
      obtain ⟨rfl, rfl⟩ := h
      cases draw
      · exact wp_region_list (evOps_sound hE hC hev hp R fun a' w' ρ' F' R' => hQ _ _ _ _ _ _ hK R')
      · exact evDraw_sound hE hC hm hev (by simpa using hd) hp R fun a' w' ρ' F' R' => hQ _ _ _ _ _ _ hK R'
    · cases h
  · cases h

theorem runC_ok {rec : Ob → Md → St → List Fr → Option Ob} (ih : ∀ T m st fs, rec T m st fs = some T → D R.P R.L R.k R.N K res T → Goal R K m st fs)
    (hE : EnvOK R.P R.E) (hm : R.P.follows .mixedOrders = true) (hC0 : R.C.kill = true → R.k = 0) {T : Ob} {c : Code} {st : St} {fs : List Fr} (h : runC R rec T c st fs = some T) (d : D R.P R.L R.k R.N K res T) : Goal R K (.c c) st fs := by
  cases c with
  | skip => exact VC.close (VC.skip (ih _ _ _ _ h d))
  | exit id => exact VC.close (VC.exit (ih _ _ _ _ h d))
  | ret => exact VC.close (VC.ret (ih _ _ _ _ h d))
  | seq x y => exact VC.seq (ih _ _ _ _ h d)
  | block id b => exact VC.block (ih _ _ _ _ h d)
  | scope b => exact VC.scope (ih _ _ _ _ h d)
  | label l => exact VC.close (VC.label (ih _ _ _ _ h d))
  | cond o x y =>
    simp only [runC] at h
    split at h
    · rename_i b hev
      cases T with
      | b b0 tx ty =>
        simp only at h
        split at h
        · rename_i tx' ty' h1 h2
          simp only [Option.some.injEq, Ob.b.injEq] at h
          obtain ⟨rfl, rfl, rfl⟩ := h
          exact VC.cond hev (fun hb => ih _ _ _ _ h1 (d.1 hb)) (fun hb => ih _ _ _ _ h2 (d.2 hb))
        · cases h
      | t t =>
        cases b
        · simp only at h
          split at h
          · rename_i t' ht
            simp only [Option.some.injEq, Ob.t.injEq] at h
            subst h
            exact VC.cond_f hev (ih _ _ _ _ ht d)
          · cases h
        · simp only at h
          split at h
          · rename_i t' ht
            simp only [Option.some.injEq, Ob.t.injEq] at h
            subst h
            exact VC.cond_t hev (ih _ _ _ _ ht d)
          · cases h
      | _ =>
        cases b
        · exact VC.cond_f hev (ih _ _ _ _ h d)
        · exact VC.cond_t hev (ih _ _ _ _ h d)
    · cases h
  | region id ops draw =>
    simp only [runC] at h
    cases T with
    | v vs us t =>
      simp only at h
      split at h
      · rename_i st' ps hr
        split at h
        · rename_i t' ht
          simp only [Option.some.injEq, Ob.v.injEq, true_and] at h
          subst h
          obtain ⟨t1, h1, h2⟩ := wrapP_ok (R := R) (K := K) (res := res) ht
          obtain ⟨hp, dt⟩ := h2 d
          exact VC.region0 (C := R.C.hint vs us) hE hm hC0 hr hp (ih _ _ _ _ h1 dt)
        · cases h
      · cases h
    | t t =>
      simp only at h
      split at h
      · rename_i st' ps hr
        split at h
        · rename_i t' ht
          simp only [Option.some.injEq, Ob.t.injEq] at h
          subst h
          obtain ⟨t1, h1, h2⟩ := wrapP_ok (R := R) (K := K) (res := res) ht
          obtain ⟨hp, dt⟩ := h2 d
          exact VC.region0 hE hm hC0 hr hp (ih _ _ _ _ h1 dt)
        · cases h
      · cases h
    | _ =>
      simp only at h
      split at h
      · rename_i st' ps hr
        obtain ⟨t1, h1, h2⟩ := wrapP_ok (R := R) (K := K) (res := res) h
        obtain ⟨hp, dt⟩ := h2 d
        exact VC.region0 hE hm hC0 hr hp (ih _ _ _ _ h1 dt)
      · cases h
  | loop b =>
    simp only [runC] at h
    cases T with
    | u t =>
      simp only at h
      split at h
      · rename_i t' ht
        simp only [Option.some.injEq, Ob.u.injEq] at h
        subst h
        exact VC.rounds 1001 (VCR.next (ih _ _ _ _ ht d))
      · cases h
    | l c fs st =>
      simp only [Option.some.injEq, Ob.l.injEq] at h
      obtain ⟨rfl, rfl, rfl⟩ := h
      exact d
    | _ => simp at h
  | _ => simp [runC] at h

theorem runH_ok {rec : Ob → Md → St → List Fr → Option Ob} (ih : ∀ T m st fs, rec T m st fs = some T → D R.P R.L R.k R.N K res T → Goal R K m st fs)
    (hE : EnvOK R.P R.E) (hm : R.P.follows .mixedOrders = true) (hC0 : R.C.kill = true → R.k = 0)
    [hK : EndK R.fin R.L R.E R.rs res K] {T : Ob} {m : Md} {st : St} {fs : List Fr} (h : runH R rec T m st fs = some T) (d : D R.P R.L R.k R.N K res T) : Goal R K m st fs := by
  have go : ∀ {o : Option Ob}, o = some T → (o = match (generalizing := false) m with | .c c => runC R rec T c st fs | .x e => runX R rec T e st fs) → Goal R K m st fs := fun h e => by
    subst e
    cases m with
    | c c => exact runC_ok ih hE hm hC0 h d
    | x e => exact runX_ok ih h d
  cases T with
  | no => exact d.elim
  | i n x y t =>
    simp only [runH] at h
    split at h
    · rename_i k x' hx
      split at h
      · rename_i t' ht
        simp only [Option.some.injEq, Ob.i.injEq, true_and] at h
        obtain ⟨rfl, rfl⟩ := h
        exact Goal.slot hx (by rw [d.1]) (ih _ _ _ _ ht d.2)
      · cases h
    · cases h
  | o n x y t =>
    simp only [runH] at h
    split at h
    · rename_i x' hx
      split at h
      · rename_i t' ht
        simp only [Option.some.injEq, Ob.o.injEq, true_and] at h
        obtain ⟨rfl, rfl⟩ := h
        exact Goal.slot hx (by rw [d.1]) (ih _ _ _ _ ht d.2)
      · cases h
    · cases h
  | w n x y t =>
    simp only [runH] at h
    split at h
    · rename_i x' hx
      split at h
      · rename_i t' ht
        simp only [Option.some.injEq, Ob.w.injEq, true_and] at h
        obtain ⟨rfl, rfl⟩ := h
        exact Goal.slot hx d.1 (ih _ _ _ _ ht d.2)
      · cases h
    · cases h
  | ci n j x y t =>
    simp only [runH] at h
    split at h
    · rename_i e sz c hx
      split at h
      · rename_i k x' hc
        split at h
        · rename_i t' ht
          simp only [Option.some.injEq, Ob.ci.injEq, true_and] at h
          obtain ⟨rfl, rfl⟩ := h
          exact Goal.block hx (by rw [← d.1, set_getD hc]) (ih _ _ _ _ ht d.2)
        · cases h
      · cases h
    · cases h
  | cw n j x y t =>
    simp only [runH] at h
    split at h
    · rename_i e sz c hx
      split at h
      · rename_i t' ht
        simp only [Option.some.injEq, Ob.cw.injEq, true_and] at h
        obtain ⟨rfl, rfl⟩ := h
        exact Goal.block hx (by rw [set_getD d.1]) (ih _ _ _ _ ht d.2)
      · cases h
    · cases h
  | li n x y t =>
    simp only [runH] at h
    split at h
    · rename_i e k x' hx
      split at h
      · rename_i t' ht
        simp only [Option.some.injEq, Ob.li.injEq, true_and] at h
        obtain ⟨rfl, rfl⟩ := h
        exact Goal.block hx (by rw [d.1]) (ih _ _ _ _ ht d.2)
      · cases h
    · cases h
  | lr n x y t =>
    simp only [runH] at h
    split at h
    · rename_i e sz x' hx
      split at h
      · rename_i t' ht
        simp only [Option.some.injEq, Ob.lr.injEq, true_and] at h
        obtain ⟨rfl, rfl⟩ := h
        exact Goal.block hx (by rw [d.1]) (ih _ _ _ _ ht d.2)
      · cases h
    · cases h
  | k l t =>
    simp only [runH] at h
    split at h
    · rename_i t' ht
      simp only [Option.some.injEq, Ob.k.injEq, true_and] at h
      subst h
      exact Goal.ent (Ent.keep l) (ih _ _ _ _ ht d)
    · cases h
  | z n t =>
    simp only [runH] at h
    split at h
    · rename_i hk
      split at h
      · rename_i t' ht
        simp only [Option.some.injEq, Ob.z.injEq, true_and] at h
        subst h
        obtain ⟨t1, h1, h2⟩ := wrapP_ok (R := R) (K := K) (res := res) ht
        obtain ⟨hp, dt⟩ := h2 d
        have hk' : R.k = 0 := by simpa using hk
        refine Goal.ent ?_ (ih _ _ _ _ h1 dt)
        rw [hk']; exact Ent.freeze n hp.1 rfl hp.2
      · cases h
    · cases h
  | sa n y t =>
    simp only [runH] at h
    split at h
    · rename_i x hx
      split at h
      · rename_i t' ht
        simp only [Option.some.injEq, Ob.sa.injEq, true_and] at h
        subst h
        obtain ⟨t1, h1, h2⟩ := wrapP_ok (R := R) (K := K) (res := res) ht
        obtain ⟨hp, dt⟩ := h2 d
        exact Goal.ent (Ent.slot hx hp.1) (ih _ _ _ _ h1 dt)
      · cases h
    · cases h
  | sh n y t =>
    simp only [runH] at h
    split at h
    · rename_i t' ht
      simp only [Option.some.injEq, Ob.sh.injEq, true_and] at h
      subst h
      obtain ⟨t1, h1, h2⟩ := wrapP_ok (R := R) (K := K) (res := res) ht
      obtain ⟨hp, dt⟩ := h2 d
      exact Goal.ent (Ent.block hp.1) (ih _ _ _ _ h1 dt)
    · cases h
  | nl n o t =>
    simp only [runH] at h
    split at h
    · rename_i hx ho
      split at h
      · rename_i t' ht
        simp only [Option.some.injEq, Ob.nl.injEq, true_and] at h
        subst h
        refine Goal.ent (Ent.nil n o ?_ hx) (ih _ _ _ _ ht d)
        cases o with
        | dead => simp [isEmptyRow] at ho
        | oi e i l => cases l with
          | nil => exact .inl ⟨_, _, rfl⟩
          | cons a b => simp [isEmptyRow] at ho
        | oo e i l => cases l with
          | nil => exact .inr ⟨_, _, rfl⟩
          | cons a b => simp [isEmptyRow] at ho
      · cases h
    · cases h
  | nc n j o t =>
    simp only [runH] at h
    split at h
    · rename_i e sz c hx ho
      split at h
      · rename_i hc
        split at h
        · rename_i t' ht
          simp only [Option.some.injEq, Ob.nc.injEq, true_and] at h
          subst h
          exact Goal.ent (Ent.nilCell o ho hx hc) (ih _ _ _ _ ht d)
        · cases h
      · cases h
    · cases h
  | _ => exact go h rfl

/-- The run is right. -/
theorem run_ok (hE : EnvOK R.P R.E) (hm : R.P.follows .mixedOrders = true) (hC0 : R.C.kill = true → R.k = 0)
    [hK : EndK R.fin R.L R.E R.rs res K] : ∀ (f : Nat) (T : Ob) (m : Md) (st : St) (fs : List Fr), run R f T m st fs = some T → D R.P R.L R.k R.N K res T → Goal R K m st fs
  | 0, T, m, st, fs, h, _ => by simp [run] at h
  | f + 1, T, m, st, fs, h, d => runH_ok (run_ok hE hm hC0 f) hE hm hC0 h d
end

instance EndK.zero {L : Lay} {E : Env} {K : Exit → St → Prop} : EndK 0 L E [] (.a []) K := ⟨fun h => (h rfl).elim, fun h => by cases h⟩
instance EndK.fin2 {L : Lay} {E : Env} {rs : List ResultVar} {res : AV} : EndK 2 L E rs res (FinR L E rs res) := ⟨fun _ _ h => h, fun _ _ h => h⟩
instance EndK.fin1 {L : Lay} {E : Env} {rs : List ResultVar} {res : AV} : EndK 1 L E rs res (FinR L E rs res) := ⟨fun _ _ h => h, fun h => by cases h⟩
instance EndK.loop {L L' : Lay} {E : Env} {rs : List ResultVar} {res : AV} {K : Exit → St → Prop} {k N : Nat} {Y : Type} {inv : Y → St} {m : Y → Nat} {y : Y} [h : EndK 1 L E rs res K] : EndK 1 L E rs res (loopK L' k N inv m y K) := ⟨fun _ st hs => h.ret (by simp) st hs, fun h => by cases h⟩
theorem denF_ret {P : Program} {L : Lay} {k N : Nat} {K : Exit → St → Prop} {st : St} (h : K .ret st) : ∀ fs : List Fr, denF P L k N K fs .ret st
  | [] => h
  | .seq c :: fs => denF_ret (P := P) (L := L) (k := k) (N := N) h fs
  | .block id :: fs => denF_ret (P := P) (L := L) (k := k) (N := N) h fs
  | .rd n c :: fs => denF_ret (P := P) (L := L) (k := k) (N := N) h fs
  | .sc :: fs => denF_ret (P := P) (L := L) (k := k) (N := N) h fs
instance EndK.frames {P : Program} {L L' : Lay} {E : Env} {rs : List ResultVar} {res : AV} {K : Exit → St → Prop} {k N : Nat} {fs : List Fr} [h : EndK 1 L E rs res K] : EndK 1 L E rs res (denF P L' k N K fs) := ⟨fun _ st hs => denF_ret (h.ret (by simp) st hs) fs, fun h => by cases h⟩

section
variable {P : Program} {L : Lay} {E : Env} {C : Tab} {k N : Nat} {K : Exit → St → Prop} {res : AV} {rs : List ResultVar}

/-- A piece of code by its tree. -/
theorem VC.run (n : Nat) [hK : EndK n L E rs res K] (C : Tab) (T : Ob) (hE : EnvOK P E) (hm : P.follows .mixedOrders = true) {c : Code} {st : St} (h : run ⟨P, L, E, C, k, N, rs, n⟩ 1000000 T (.c c) st [] = some T)
    (d : D P L k N K res T) (hC0 : C.kill = true → k = 0 := by first | exact fun _ => rfl | exact fun h => by cases h) : VC P L k N c st K :=
  run_ok (R := ⟨P, L, E, C, k, N, rs, n⟩) hE hm hC0 _ _ _ _ _ h d
/-- What stands behind an exit, by its tree. -/
theorem KE.run (n : Nat) [hK : EndK n L E rs res K] (C : Tab) (T : Ob) (hE : EnvOK P E) (hm : P.follows .mixedOrders = true) {e : Exit} {st : St} {fs : List Fr} (h : run ⟨P, L, E, C, k, N, rs, n⟩ 1000000 T (.x e) st fs = some T)
    (d : D P L k N K res T) (hC0 : C.kill = true → k = 0 := by first | exact fun _ => rfl | exact fun h => by cases h) : KE L k N (denF P L k N K fs) e st :=
  run_ok (R := ⟨P, L, E, C, k, N, rs, n⟩) hE hm hC0 _ _ _ _ _ h d
theorem KE.next {Y : Type} {inv : Y → St} {m : Y → Nat} {y : Y} {st : St} (y' : Y) (hm : m y' < m y) (h : Ent L k N st (inv y')) : KE L k N (loopK L k N inv m y K) .normal st := KE.of ⟨y', hm, h⟩
theorem KE.out {Y : Type} {inv : Y → St} {m : Y → Nat} {y : Y} {st : St} {i : Nat} (h : KE L k N K (.exit i) st) : KE L k N (loopK L k N inv m y K) (.exit i) st := by
  obtain ⟨s, h1, h2⟩ := h; exact ⟨s, h1, h2⟩
theorem KE.back {Y : Type} {inv : Y → St} {m : Y → Nat} {y : Y} {st : St} (h : KE L k N K .ret st) : KE L k N (loopK L k N inv m y K) .ret st := by
  obtain ⟨s, h1, h2⟩ := h; exact ⟨s, h1, h2⟩
theorem VC.loopA {Y : Type} (inv : Y → St) (m : Y → Nat) (y0 : Y) {body c : Code} {st : St} (hc : c = .loop body) (h0 : Ent L k N st (inv y0)) (h : ∀ y, VC P L k N body (inv y) (loopK L k N inv m y K)) : VC P L k N c st K := by
  subst hc; exact VC.loop inv m y0 h0 h

/-- A function by its tree. -/
theorem con_of_run {f : FuncId} {fn : Func} {c : Code} {args : List AV} (C : Tab) (T : Ob) (hE : EnvOK P E) (hm : P.follows .mixedOrders = true) (hf : P.funcs[f]? = some fn) (hb : fn.body = some c)
    (hcall : ∀ (as : Array Value) (w : World), (callFunc f as).run P w = .ok (.enter f as) w) (hn : args.length ≤ fn.ntmps)
    (h : run ⟨P, L, E, C, 0, fn.ntmps, fn.results.toList, 2⟩ 1000000 T (.c c) ⟨slotsOf 0 args, []⟩ [] = some T)
    (d : D P L 0 fn.ntmps (FinR L E fn.results.toList res) res T) (hr : ∀ g, res.ren g = res := by exact fun _ => rfl) : Con P L f [] args [] res := by
  refine con_of_vc hE hm hf hb hcall hn (VC.mono (VC.run 2 C T hE hm h d (fun _ => rfl)) ?_)
  rintro e st ⟨he, l, ps, h1, h2, h3⟩
  refine ⟨[], he, ?_⟩
  rw [h1]
  exact ⟨h2, by simp, by simp, rfl, by simp, fun i hi => by simp at hi, by rw [hr]; exact h3⟩
/-- A function that is handed blocks. -/
theorem con_of_runO {f : FuncId} {fn : Func} {c : Code} {hin : List HObj} {args : List AV} {hout : List HObj} (C : Tab) (T : Ob) (hE : EnvOK P E) (hm : P.follows .mixedOrders = true) (hf : P.funcs[f]? = some fn) (hb : fn.body = some c)
    (hcall : ∀ (as : Array Value) (w : World), (callFunc f as).run P w = .ok (.enter f as) w) (hn : args.length ≤ fn.ntmps)
    (h : run ⟨P, L, E, C, hin.length, fn.ntmps, [], 0⟩ 1000000 T (.c c) ⟨slotsOf 0 args, hin⟩ [] = some T)
    (d : D P L hin.length fn.ntmps (Fins L E fn hin.length hout res) (.a []) T) (hC0 : C.kill = true → hin.length = 0 := by first | exact fun _ => rfl | exact fun h => by cases h) : Con P L f hin args hout res :=
  con_of_vc hE hm hf hb hcall hn (VC.run 0 C T hE hm h d hC0)
end

/-- Arguments that say more. -/
theorem Con.sub {P : Program} {L : Lay} {f : FuncId} {hin : List HObj} {args args' : List AV} {hout : List HObj} {res : AV} (h : Con P L f hin args hout res) (hs : subA.subL args' args) : Con P L f hin args' hout res :=
  ⟨h.1, fun w vs F0 ρ0 hρ M hv => h.2 w vs F0 ρ0 hρ M (ARL.sub _ _ _ hs hv)⟩

/-- Code by its place in a function; the frames there. -/
def cAt : Code → List Nat → Code
  | .seq x _, 0 :: p => cAt x p
  | .seq _ y, _ :: p => cAt y p
  | .cond _ x _, 0 :: p => cAt x p
  | .cond _ _ y, _ :: p => cAt y p
  | .block _ b, _ :: p => cAt b p
  | .scope b, _ :: p => cAt b p
  | .loop b, _ :: p => cAt b p
  | c, _ => c
def fAt : List Fr → Code → List Nat → List Fr
  | fs, .seq x y, 0 :: p => fAt (.seq y :: fs) x p
  | fs, .seq _ y, _ :: p => fAt fs y p
  | fs, .cond _ x _, 0 :: p => fAt fs x p
  | fs, .cond _ _ y, _ :: p => fAt fs y p
  | fs, .block id b, _ :: p => fAt (.block id :: fs) b p
  | fs, .scope b, _ :: p => fAt (.sc :: fs) b p
  | _, .loop b, 0 :: p => fAt [] b p
  | fs, .loop b, (n + 1) :: p => fAt (.rd n b :: fs) b p
  | fs, _, _ => fs
def cA (fn : Func) (p : List Nat) : Code := match fn.body with | some c => cAt c p | none => .skip
def fA (fn : Func) (p : List Nat) : List Fr := match fn.body with | some c => fAt [] c p | none => []

theorem nlL_of : ∀ {l : List AV}, (l.all fun x => match x with | .c _ | .gp _ _ | .ri _ _ | .rr _ _ => true | _ => false) = true → nlL l
  | [], _ => trivial
  | x :: l, h => by
    simp only [List.all_cons, Bool.and_eq_true] at h
    refine ⟨?_, nlL_of h.2⟩
    cases x <;> first | trivial | (simp at h)
theorem renL_nl (g : Nat → Nat) : ∀ l : List AV, nlL l → renL g l = l
  | [], _ => rfl
  | x :: l, h => by simp only [nlL] at h; simp only [renL]; rw [ren_nl g x h.1, renL_nl g l h.2]
where ren_nl (g : Nat → Nat) : ∀ x : AV, x.nl → x.ren g = x
  | .c _, _ => rfl
  | .gp _ _, _ => rfl
  | .ri _ _, _ => rfl
  | .rr _ _, _ => rfl
  | .p _ _, h => h.elim
  | .s _ _ _ _, h => h.elim
  | .x _ _ _ _, h => h.elim
  | .q x _, h => by simp only [AV.ren]; rw [ren_nl g x h]
  | .i _ x, h => by simp only [AV.ren]; rw [ren_nl g x h]
  | .g _ x, h => by simp only [AV.ren]; rw [ren_nl g x h]
  | .a l, h => by simp only [AV.ren]; rw [renL_nl g l h]
  | .t l, h => by simp only [AV.ren]; rw [renL_nl g l h]
  | .f _ l, h => by simp only [AV.ren]; rw [renL_nl g l h]
theorem renLL_nl (g : Nat → Nat) : ∀ l : List (List AV), nlLL l → renLL g l = l
  | [], _ => rfl
  | c :: l, h => by simp only [nlLL] at h; simp only [renLL]; rw [renL_nl g c h.1, renLL_nl g l h.2]
theorem HObj.ren_nl (g : Nat → Nat) {o : HObj} (h : o.nl) : o.ren g = o := by
  cases o with
  | oo e sz l => simp only [HObj.ren]; rw [renLL_nl g l h]
  | _ => rfl

/-- Names turned; all else is the same. fl: the blocks that bear no name. -/
theorem Ent.mapR {L : Lay} {k N : Nat} {st st' : St} (outs fl : List Nat) (hn : decide (k ≤ st.h.length) && outs.all (fun n => decide (k ≤ n) && decide (n < st.h.length)) && decide outs.Nodup && decide (st'.h.length = k + outs.length) = true)
    (hh : ((List.range st'.h.length).map fun i => match st'.h.getD i .dead with | .dead => HObj.dead | _ => st.h.getD (outName st k outs i) .dead) = (List.range st'.h.length).map fun i => match fl.contains i with | true => st'.h.getD i .dead | false => (st'.h.getD i .dead).ren (outName st k outs))
    (hs : (st'.t.map fun p => look1 st.t p.1) = st'.t.map fun p => some (p.2.ren (outName st k outs)))
    (hf : All (fl.map fun i => (st'.h.getD i .dead).nl) := by trivial) : Ent L k N st st' := by
  refine Ent.map outs hn (All_iff.2 fun q hq => ?_) (All_iff.2 fun q hq => ?_)
  · obtain ⟨i, hi, rfl⟩ := List.mem_map.1 hq
    have := List.map_inj_left.1 hh i hi
    cases ho : st'.h.getD i .dead with
    | dead => exact .inl rfl
    | oi e kk l =>
      right
      simp only [ho] at this
      rw [this]
      split <;> rfl
    | oo e sz l =>
      right
      simp only [ho] at this
      rw [this]
      split
      · rename_i hc
        have := All_iff.1 hf _ (List.mem_map.2 ⟨i, List.contains_iff_mem.1 hc, rfl⟩)
        rw [ho] at this
        rw [HObj.ren_nl _ this]
      · rfl
  · obtain ⟨p, hp, rfl⟩ := List.mem_map.1 hq
    exact List.map_inj_left.1 hs p hp

section
variable {P : Program} {L : Lay} {kk N : Nat} {K : Exit → St → Prop} {res : AV} {tt : Ob} {a : Prop}
theorem D.p (h2 : D P L kk N K res tt) (h : a := by trivial) : D P L kk N K res (.p a tt) := ⟨h, h2⟩
theorem D.o (h2 : D P L kk N K res tt) (h : a := by omega) : D P L kk N K res (.p a tt) := ⟨h, h2⟩
theorem D.h (h2 : D P L kk N K res tt) (h : a := by first | exact fun _ => trivial | exact fun h => ⟨h, trivial⟩ | exact fun h => ⟨by rw [h]; rfl, trivial⟩) : D P L kk N K res (.p a tt) := ⟨h, h2⟩
theorem D.q (h : a) (h2 : D P L kk N K res tt) : D P L kk N K res (.p a tt) := ⟨h, h2⟩
theorem D.b {b : Bool} {x y : Ob} (h1 : b = true → D P L kk N K res x) (h2 : b = false → D P L kk N K res y) : D P L kk N K res (.b b x y) := ⟨h1, h2⟩
theorem D.t (h : D P L kk N K res tt) : D P L kk N K res (.t tt) := h
theorem D.i {n : Nat} {x y : Int} (h : x = y) (h2 : D P L kk N K res tt) : D P L kk N K res (.i n x y tt) := ⟨h, h2⟩
theorem D.i' {n : Nat} {x y : Int} (h2 : D P L kk N K res tt) (h : x = y := by simp (disch := omega) only [wrap_i8, wrap_i16, wrap_i32, wrap_i64, wrap_u8, wrap_u16, wrap_u32, wrap_u64, Int.tdiv_eq_ediv_of_nonneg, Int.tmod_eq_emod_of_nonneg, Int.toNat_natCast, Int.reduceToNat, Nat.mul_one, Nat.zero_add, Nat.add_zero, Nat.one_mul, Int.one_mul, Int.zero_add, Int.add_zero, Int.mul_one, List.drop_zero, List.take_length, Int.zero_sub, List.length_map, List.length_set]) : D P L kk N K res (.i n x y tt) := ⟨h, h2⟩
theorem D.ob {n : Nat} {x y : Bool} (h : x = y) (h2 : D P L kk N K res tt) : D P L kk N K res (.o n x y tt) := ⟨h, h2⟩
theorem D.w {n : Nat} {x y : AV} (h : x = y) (h2 : D P L kk N K res tt) : D P L kk N K res (.w n x y tt) := ⟨h, h2⟩
theorem D.ci {m j : Nat} {x y : Int} (h : x = y) (h2 : D P L kk N K res tt) : D P L kk N K res (.ci m j x y tt) := ⟨h, h2⟩
theorem D.cw {m j : Nat} {x y : AV} (h : x = y) (h2 : D P L kk N K res tt) : D P L kk N K res (.cw m j x y tt) := ⟨h, h2⟩
theorem D.li {m : Nat} {x y : List Int} (h : x = y) (h2 : D P L kk N K res tt) : D P L kk N K res (.li m x y tt) := ⟨h, h2⟩
theorem D.lr {m : Nat} {x y : List (List AV)} (h : x = y) (h2 : D P L kk N K res tt) : D P L kk N K res (.lr m x y tt) := ⟨h, h2⟩
theorem D.v {vs : List (Nat × List AV)} {us : List (Nat × HObj)} (h : D P L kk N K res tt) : D P L kk N K res (.v vs us tt) := h
theorem D.k {l : List Nat} (h : D P L kk N K res tt) : D P L kk N K res (.k l tt) := h
theorem D.z {n : Nat} (h : D P L kk N K res tt) : D P L kk N K res (.z n tt) := h
theorem D.sa {n : Nat} {y : AV} (h : D P L kk N K res tt) : D P L kk N K res (.sa n y tt) := h
theorem D.sh {n : Nat} {y : HObj} (h : D P L kk N K res tt) : D P L kk N K res (.sh n y tt) := h
theorem D.nl {n : Nat} {o : HObj} (h : D P L kk N K res tt) : D P L kk N K res (.nl n o tt) := h
theorem D.nc {m j : Nat} {o : HObj} (h : D P L kk N K res tt) : D P L kk N K res (.nc m j o tt) := h
theorem D.u (h : D P L kk N K res tt) : D P L kk N K res (.u tt) := h
theorem D.l {c : Code} {fs : List Fr} {st : St} (h : VC P L kk N c st (denF P L kk N K fs)) : D P L kk N K res (.l c fs st) := h
theorem D.e {e : Exit} {st : St} (h : KE L kk N K e st) : D P L kk N K res (.e e st) := h
theorem D.r {x : AV} (h : x = res) : D P L kk N K res (.r x) := h
end
end Go.Ev
