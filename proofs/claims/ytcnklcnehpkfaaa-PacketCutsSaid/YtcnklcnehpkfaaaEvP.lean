/-
  The executor: states that say less; the rules as a walk uses them.
-/
import Derived.Test.YtcnklcnehpkfaaaEvO
namespace Go.Ev
open Go Go.RowKit
set_option linter.unusedVariables false
set_option linter.unusedSimpArgs false

section
variable {P : Program} {L : Lay} {E : Env} {C : Tab} {k : Nat} {N : Nat}

theorem Ent.refl {st : St} : Ent L k N st st := fun _ _ _ ρ F _ R => ⟨ρ, F, R⟩
theorem Ent.trans {s1 s2 s3 : St} (h : Ent L k N s1 s2) (h' : Ent L k N s2 s3) : Ent L k N s1 s3 := fun B a w ρ F hk R => by
  obtain ⟨ρ1, F1, R1⟩ := h B a w ρ F hk R
  exact h' B a w ρ1 F1 hk R1

/-- Some slots, the blocks as they are. -/
theorem Ent.slots {t t' : List (Nat × AV)} {h : List HObj} (hs : All (t'.map fun p => look1 t p.1 = some p.2)) : Ent L k N ⟨t, h⟩ ⟨t', h⟩ := fun B a w ρ F hk R => by
  refine ⟨ρ, F, R.defers, R.size, fun n x hx => R.slots n x ?_, R.fresh, R.mem, R.ext0, R.f0, R.f1⟩
  clear R
  induction t' with
  | nil => simp [look1] at hx
  | cons p t' ih =>
    obtain ⟨m, y⟩ := p
    simp only [List.map_cons, All] at hs
    simp only [look1] at hx
    split at hx
    · rename_i e; subst e; simp only [Option.some.injEq] at hx; subst hx; exact hs.1
    · exact ih hs.2 hx

/-- Some slots, some blocks: outs: the names behind the first k that stay, in their new order. -/
theorem Ent.map {st st' : St} (outs : List Nat) (hn : decide (k ≤ st.h.length) && outs.all (fun n => decide (k ≤ n) && decide (n < st.h.length)) && decide outs.Nodup && decide (st'.h.length = k + outs.length) = true)
    (hh : All ((List.range st'.h.length).map fun i => st'.h.getD i .dead = .dead ∨ st.h.getD (outName st k outs i) .dead = (st'.h.getD i .dead).ren (outName st k outs)))
    (hs : All (st'.t.map fun p => look1 st.t p.1 = some (p.2.ren (outName st k outs)))) : Ent L k N st st' := fun B a w ρ' F' hk R => by
  simp only [Bool.and_eq_true, decide_eq_true_eq, List.all_eq_true] at hn
  obtain ⟨⟨⟨hk', hmem⟩, hnd⟩, hlen⟩ := hn
  have hobj : ∀ i, i < st'.h.length → st'.h.getD i .dead = .dead ∨ st.h.getD (outName st k outs i) .dead = (st'.h.getD i .dead).ren (outName st k outs) := fun i hi =>
    All_iff.1 hh _ (List.mem_map.2 ⟨i, List.mem_range.2 hi, rfl⟩)
  have hsl : ∀ n x, look1 st'.t n = some x → look1 st.t n = some (x.ren (outName st k outs)) := by
    intro n x hx
    clear R hobj hlen hh
    revert hs hx
    generalize st'.t = t'
    intro hs hx
    induction t' with
    | nil => simp [look1] at hx
    | cons p t' ih =>
      obtain ⟨m, y⟩ := p
      simp only [List.map_cons, All] at hs
      simp only [look1] at hx
      split at hx
      · rename_i e; subst e; simp only [Option.some.injEq] at hx; subst hx; exact hs.1
      · exact ih hs.2 hx
  clear hh hs
  generalize hgd : outName st k outs = g at hobj hsl
  have hg1 : ∀ n, n < k → g n = n := fun n hn => by
    rw [← hgd]; simp only [outName, List.getD]; rw [List.getElem?_append_left (by simpa using hn)]; simp [hn]
  have hg2 : ∀ n, k ≤ n → (hn : n < st'.h.length) → ∃ m ∈ outs, g n = m ∧ outs[n - k]? = some m := fun n h1 h2 => by
    have hlt : n - k < outs.length := by omega
    refine ⟨outs[n - k], List.getElem_mem hlt, ?_, List.getElem?_eq_getElem hlt⟩
    rw [← hgd]; simp only [outName, List.getD]; rw [List.getElem?_append_right (by simpa using h1)]; simp [hlt]
  have hg3 : ∀ n, st'.h.length ≤ n → g n ≥ st.h.length := fun n h1 => by
    rw [← hgd]; simp only [outName, List.getD]; rw [List.getElem?_eq_none (by simp; omega)]; simp
  have hginj : ∀ i j, i < st'.h.length → j < st'.h.length → g i = g j → i = j := fun i j hi hj e => by
    by_cases h1 : i < k <;> by_cases h2 : j < k
    · rw [hg1 i h1, hg1 j h2] at e; exact e
    · obtain ⟨m, hm1, hm2, _⟩ := hg2 j (by omega) hj
      rw [hg1 i h1, hm2] at e
      have := (hmem m hm1).1; omega
    · obtain ⟨m, hm1, hm2, _⟩ := hg2 i (by omega) hi
      rw [hg1 j h2, hm2] at e
      have := (hmem m hm1).1; omega
    · obtain ⟨m1, _, hm2, hm3⟩ := hg2 i (by omega) hi
      obtain ⟨m2, _, hm5, hm6⟩ := hg2 j (by omega) hj
      rw [hm2, hm5] at e
      subst e
      have hi' : i - k < outs.length := by omega
      have hj' : j - k < outs.length := by omega
      rw [List.getElem?_eq_getElem hi'] at hm3
      rw [List.getElem?_eq_getElem hj'] at hm6
      have := (List.getElem_inj hnd).1 (Option.some.inj (hm3.trans hm6.symm))
      omega
  let ρo : Ren := fun n => ρ' (g n)
  have hρo : ∀ n lo, ρ' (g n) = some lo → ρo n = some lo := fun _ _ h => h
  have hlv : ∀ n, (st'.h.getD n .dead).live → n < st'.h.length ∧ st.h.getD (g n) .dead = (st'.h.getD n .dead).ren g := fun n hl => by
    have hn : n < st'.h.length := by
      rcases Nat.lt_or_ge n st'.h.length with h | h
      · exact h
      · simp only [List.getD, List.getElem?_eq_none h] at hl; exact hl.elim
    refine ⟨hn, (hobj n hn).resolve_left fun e => by rw [e] at hl; exact hl⟩
  have hlv' : ∀ n, (st'.h.getD n .dead).live → (st.h.getD (g n) .dead).live := fun n hl => by rw [(hlv n hl).2, HObj.live_ren]; exact hl
  refine ⟨ρo, F', R.defers, R.size, fun n x hx => ?_, fun n hn => R.fresh _ (hg3 n hn), ?_, fun n lo hn => ?_, R.f0, R.f1⟩
  · obtain ⟨v, hv, hr⟩ := R.slots n _ (hsl n x hx)
    exact ⟨v, hv, AR.ren_back hρo _ _ hr⟩
  · refine ⟨fun n => ?_, fun n m b hne hl1 hl2 hb1 hb2 => ?_, fun n b hl hb => ?_, fun n b hl hb => ?_, R.mem.bound, R.mem.fr, R.mem.lay⟩
    · by_cases hl : (st'.h.getD n .dead).live
      · have := R.mem.heap (g n)
        simp only [(hlv n hl).2] at this
        exact HR.ren_back hρo this
      · cases hx : st'.h.getD n .dead with
        | dead => trivial
        | oi _ _ _ => rw [hx] at hl; exact (hl trivial).elim
        | oo _ _ _ => rw [hx] at hl; exact (hl trivial).elim
    · exact R.mem.dis (g n) (g m) b (fun e => hne (hginj n m (hlv n hl1).1 (hlv m hl2).1 e)) (hlv' n hl1) (hlv' m hl2) hb1 hb2
    · exact R.mem.notF (g n) b (hlv' n hl) hb
    · exact R.mem.own (g n) b (hlv' n hl) hb
  · have hlt : n < k := by
      rcases Nat.lt_or_ge n k with h | h
      · exact h
      · rw [← hk] at h; rw [B.hk n h] at hn; cases hn
    show ρ' (g n) = some lo
    rw [hg1 n hlt]; exact R.ext0 n lo hn

/-- A nil slice in a slot is an empty row of the call's own. -/
theorem Ent.nil {t : List (Nat × AV)} {h : List HObj} (d : Nat) (o : HObj) (ho : (∃ e i, o = .oi e i []) ∨ ∃ e sz, o = .oo e sz []) (hd : look1 t d = some (.c (.slice none 0 0))) : Ent L k N ⟨t, h⟩ ⟨(d, .s h.length 0 0 0) :: t, h ++ [o]⟩ := fun B a w ρ F hk R => by
  have hold : ∀ n lo, ρ n = some lo → upd ρ h.length (some ⟨none, 0⟩) n = some lo := fun n lo hn => by
    have : n ≠ h.length := fun e => by rw [e] at hn; rw [R.fresh _ (Nat.le_refl _)] at hn; cases hn
    rw [upd_other _ _ this]; exact hn
  have hF : ∀ b, F b → F b ∧ w.heap[b]? = w.heap[b]? := fun b hb => ⟨hb, rfl⟩
  have hget : ∀ n, (h ++ [o]).getD n .dead = if n = h.length then o else h.getD n .dead := fun n => by
    simp only [List.getD]
    split
    · rename_i e; subst e; simp
    · rename_i e
      rcases Nat.lt_or_ge n h.length with h1 | h1
      · rw [List.getElem?_append_left h1]
      · rw [List.getElem?_eq_none (by simp; omega), List.getElem?_eq_none h1]
  have hblk : ∀ n b, blkOf (upd ρ h.length (some ⟨none, 0⟩)) n = some b → n ≠ h.length ∧ blkOf ρ n = some b := fun n b hb => by
    have : n ≠ h.length := fun e => by subst e; simp [blkOf, upd_same] at hb
    exact ⟨this, by rw [blkOf_upd_other _ this] at hb; exact hb⟩
  have hne : ∀ n, n ≠ h.length → (h ++ [o]).getD n .dead = h.getD n .dead := fun n e => by rw [hget, if_neg e]
  refine ⟨upd ρ h.length (some ⟨none, 0⟩), F, R.defers, R.size, fun n x hx => ?_, fun n hn => ?_, ⟨fun n => ?_, fun n m b hnm hl1 hl2 hb1 hb2 => ?_, fun n b hl hb => ?_, fun n b hl hb => ?_, R.mem.bound, R.mem.fr, R.mem.lay⟩, fun n lo hn => hold n lo (R.ext0 n lo hn), R.f0, R.f1⟩
  · simp only [look1] at hx
    split at hx
    · rename_i e; subst e
      simp only [Option.some.injEq] at hx; subst hx
      obtain ⟨v, hv, hr⟩ := R.slots _ _ hd
      simp only [AR] at hr; subst hr
      refine ⟨_, hv, ?_⟩
      simp only [AR]
      exact ⟨⟨none, 0⟩, upd_same _ _ _, rfl⟩
    · obtain ⟨v, hv, hr⟩ := R.slots n x hx
      exact ⟨v, hv, hr.mono hF hold⟩
  · simp only [List.length_append, List.length_singleton] at hn
    rw [upd_other _ _ (by omega)]; exact R.fresh n (by show n ≥ h.length; omega)
  · show HR F w _ n ((h ++ [o]).getD n .dead)
    rw [hget]
    split
    · rename_i e; subst e
      rcases ho with ⟨e, i, rfl⟩ | ⟨e, sz, rfl⟩
      · exact ⟨⟨none, 0⟩, upd_same _ _ _, by simp, .inl ⟨rfl, rfl⟩⟩
      · exact ⟨⟨none, 0⟩, [], upd_same _ _ _, ⟨by simp, .inl ⟨rfl, rfl⟩⟩, by simp [ARL], by simp⟩
    · exact (R.mem.heap n).mono hF hold fun _ _ _ => rfl
  · obtain ⟨h1, h1'⟩ := hblk n b hb1
    obtain ⟨h2, h2'⟩ := hblk m b hb2
    simp only [hne n h1] at hl1
    simp only [hne m h2] at hl2
    exact R.mem.dis n m b hnm hl1 hl2 h1' h2'
  · obtain ⟨h1, h1'⟩ := hblk n b hb
    simp only [hne n h1] at hl
    exact R.mem.notF n b hl h1'
  · obtain ⟨h1, h1'⟩ := hblk n b hb
    simp only [hne n h1] at hl
    exact R.mem.own n b hl h1'

theorem Ent.of_eq {st st' : St} (h : st = st') : Ent L k N st st' := h ▸ Ent.refl

/-- A region; what it leaves, in other words. -/
theorem VC.regionE (hE : EnvOK P E) (hm : P.follows .mixedOrders = true) (hC0 : C.kill = true → k = 0) (keep : List Nat) {ops : Array Oper} {draw : Bool} {st st' st'' : St} {ps : List Prop} {id : Nat} {K : Exit → St → Prop} (h : evR P L E C N ops draw keep st = some (st', ps)) (hp : All ps) (e : st' = st'') (hK : K .normal st'') : VC P L k N (.region id ops draw) st K :=
  VC.region hE hm hC0 keep h hp (e ▸ hK)

theorem VC.cond_t {c : Operand} {x y : Code} {st : St} {K : Exit → St → Prop} (hc : evX st.t c = some (.c (.bool true))) (hx : VC P L k N x st K) : VC P L k N (.cond c x y) st K := .cond hc (fun _ => hx) (fun h => by cases h)
theorem VC.cond_f {c : Operand} {x y : Code} {st : St} {K : Exit → St → Prop} (hc : evX st.t c = some (.c (.bool false))) (hy : VC P L k N y st K) : VC P L k N (.cond c x y) st K := .cond hc (fun h => by cases h) (fun _ => hy)

theorem seqK_n {b : Code} {K : Exit → St → Prop} {st : St} (h : VC P L k N b st K) : seqK P L k N b K .normal st := h
theorem seqK_x {b : Code} {K : Exit → St → Prop} {st : St} {i : Nat} (h : K (.exit i) st) : seqK P L k N b K (.exit i) st := h
theorem seqK_r {b : Code} {K : Exit → St → Prop} {st : St} (h : K .ret st) : seqK P L k N b K .ret st := h
theorem blockK_n {i : Nat} {K : Exit → St → Prop} {st : St} (h : K .normal st) : blockK i K .normal st := h
theorem blockK_r {i : Nat} {K : Exit → St → Prop} {st : St} (h : K .ret st) : blockK i K .ret st := h
theorem blockK_x {i : Nat} {K : Exit → St → Prop} {st : St} (h : K .normal st) : blockK i K (.exit i) st := by simp only [blockK, if_true]; exact h
theorem blockK_o {i j : Nat} {K : Exit → St → Prop} {st : St} (hne : (j == i) = false) (h : K (.exit j) st) : blockK i K (.exit j) st := by
  simp only [blockK]; rw [if_neg (by simpa using hne)]; exact h
theorem loopK_x {Y : Type} {inv : Y → St} {m : Y → Nat} {y : Y} {K : Exit → St → Prop} {st : St} {i : Nat} (h : K (.exit i) st) : loopK L k N inv m y K (.exit i) st := h
theorem loopK_r {Y : Type} {inv : Y → St} {m : Y → Nat} {y : Y} {K : Exit → St → Prop} {st : St} (h : K .ret st) : loopK L k N inv m y K .ret st := h
theorem loopK_n {Y : Type} {inv : Y → St} {m : Y → Nat} {y : Y} {K : Exit → St → Prop} {st : St} (y' : Y) (hm : m y' < m y) (h : Ent L k N st (inv y')) : loopK L k N inv m y K .normal st := ⟨y', hm, h⟩

theorem roundK_n {n : Nat} {c : Code} {K : Exit → St → Prop} {st : St} (h : VCR P L k N n c st K) : roundK P L k N n c K .normal st := h
theorem roundK_x {n : Nat} {c : Code} {K : Exit → St → Prop} {st : St} {i : Nat} (h : K (.exit i) st) : roundK P L k N n c K (.exit i) st := h
theorem roundK_r {n : Nat} {c : Code} {K : Exit → St → Prop} {st : St} (h : K .ret st) : roundK P L k N n c K .ret st := h

/-- The end of a function. -/
theorem Fin.all (outs : List Nat) {fn : Func} {hout : List HObj} {res : AV} {e : Exit} {st : St} {l : List AV} {ps : List Prop} (he : e = .normal ∨ e = .ret) (h : resAll L E st fn.results.toList = some (l, ps))
    (hn : decide (k ≤ st.h.length) && outs.all (fun n => decide (k ≤ n) && decide (n < st.h.length)) && decide outs.Nodup && decide (hout.length = k + outs.length) = true) (hp : All ps)
    (hh : All ((List.range hout.length).map fun i => hout.getD i .dead = .dead ∨ st.h.getD (outName st k outs i) .dead = (hout.getD i .dead).ren (outName st k outs)))
    (hres : oneOf l = res.ren (outName st k outs)) : Fins L E fn k hout res e st := by
  simp only [Bool.and_eq_true, decide_eq_true_eq, List.all_eq_true] at hn
  obtain ⟨⟨⟨hk', hmem⟩, hnd⟩, hlen⟩ := hn
  refine ⟨outs, he, ?_⟩
  rw [h]
  exact ⟨hp, hmem, hnd, hlen, hk', fun i hi => All_iff.1 hh _ (List.mem_map.2 ⟨i, List.mem_range.2 hi, rfl⟩), hres⟩

def plainV (P : Program) (t : TypeId) : TV → Bool
  | .struct _ => !(P.eqGuardType P.depth t) && !(P.stoodInHeld t)
  | _ => true

/-- What a program's tables say of a type. -/
def envOf (P : Program) : Env := fun t =>
  match P.underlying t, P.info? t with
  | some d, some i =>
    match i.zero with
    | some z =>
      if (z.cells.toList.length == i.size) && z.cells.toList.all Value.oneCell' && plainV P t (view d) then some ⟨view d, i.size, i.bytes, z.cells.toList⟩ else none
    | none => none
  | _, _ => none

theorem envOf_ok : EnvOK P (envOf P) := by
  intro t ti h
  unfold envOf at h
  split at h
  · rename_i d i hd hi
    split at h
    · rename_i z hz
      split at h
      · rename_i hc
        simp only [Bool.and_eq_true, beq_iff_eq, List.all_eq_true] at hc
        simp only [Option.some.injEq] at h; subst h
        refine ⟨⟨d, hd, rfl⟩, ⟨i, z, hi, rfl, rfl, hz, rfl⟩, hc.1.1, hc.1.2, fun fs hfs => ?_⟩
        have h3 : plainV P t (.struct fs) = true := by rw [← show view d = .struct fs from hfs]; exact hc.2
        simpa [plainV] using h3
      · cases h
    · cases h
  · cases h

def envL : List (Nat × TyI) → Env
  | [], _ => none
  | (m, x) :: l, n => if m = n then some x else envL l n

theorem EnvOK.list {l : List (Nat × TyI)} (h : All (l.map fun p => envOf P p.1 = some p.2)) : EnvOK P (envL l) := by
  intro t ti ht
  refine envOf_ok t ti ?_
  induction l with
  | nil => simp [envL] at ht
  | cons p l ih =>
    obtain ⟨m, x⟩ := p
    simp only [List.map_cons, All] at h
    simp only [envL] at ht
    split at ht
    · rename_i e; subst e; simp only [Option.some.injEq] at ht; subst ht; exact h.1
    · exact ih h.2 ht

theorem EnvOK.nil : EnvOK P (envL []) := fun t ti h => by simp [envL] at h
theorem EnvOK.cons {t : Nat} {ti : TyI} {l : List (Nat × TyI)} (h : envOf P t = some ti) (hl : EnvOK P (envL l)) : EnvOK P (envL ((t, ti) :: l)) := by
  intro t' ti' ht
  simp only [envL] at ht
  split at ht
  · rename_i e; subst e; simp only [Option.some.injEq] at ht; subst ht; exact envOf_ok _ _ h
  · exact hl _ _ ht

theorem All.nil : All [] := trivial
theorem All.cons {p : Prop} {l : List Prop} (h : p) (hl : All l) : All (p :: l) := ⟨h, hl⟩
theorem All.of {l l' : List Prop} (e : l = l') (h : All l') : All l := e ▸ h

theorem mod_u8 (x : Int) : IntKind.u8.wrap x = x % 256 := by
  show (if (false && decide (x % (2 ^ 8 : Int) ≥ (2 ^ 7 : Int))) = true then x % (2 ^ 8 : Int) - (2 ^ 8 : Int) else x % (2 ^ 8 : Int)) = x % 256
  simp only [Bool.false_and, Bool.false_eq_true, if_false]
  omega
theorem mod_u16 (x : Int) : IntKind.u16.wrap x = x % 65536 := by
  show (if (false && decide (x % (2 ^ 16 : Int) ≥ (2 ^ 15 : Int))) = true then x % (2 ^ 16 : Int) - (2 ^ 16 : Int) else x % (2 ^ 16 : Int)) = x % 65536
  simp only [Bool.false_and, Bool.false_eq_true, if_false]
  omega
theorem mod_u32 (x : Int) : IntKind.u32.wrap x = x % 4294967296 := by
  show (if (false && decide (x % (2 ^ 32 : Int) ≥ (2 ^ 31 : Int))) = true then x % (2 ^ 32 : Int) - (2 ^ 32 : Int) else x % (2 ^ 32 : Int)) = x % 4294967296
  simp only [Bool.false_and, Bool.false_eq_true, if_false]
  omega
theorem mod_u64 (x : Int) : IntKind.u64.wrap x = x % 18446744073709551616 := by
  show (if (false && decide (x % (2 ^ 64 : Int) ≥ (2 ^ 63 : Int))) = true then x % (2 ^ 64 : Int) - (2 ^ 64 : Int) else x % (2 ^ 64 : Int)) = x % 18446744073709551616
  simp only [Bool.false_and, Bool.false_eq_true, if_false]
  omega
theorem wrap_i8 {x : Int} (h1 : -128 ≤ x) (h2 : x ≤ 127) : IntKind.i8.wrap x = x := by
  show (if (true && decide (x % (2 ^ 8 : Int) ≥ (2 ^ 7 : Int))) = true then x % (2 ^ 8 : Int) - (2 ^ 8 : Int) else x % (2 ^ 8 : Int)) = x
  simp only [Bool.true_and, decide_eq_true_eq]
  split <;> omega
theorem wrap_u8 {x : Int} (h1 : 0 ≤ x) (h2 : x ≤ 255) : IntKind.u8.wrap x = x := by
  show (if (false && decide (x % (2 ^ 8 : Int) ≥ (2 ^ 7 : Int))) = true then x % (2 ^ 8 : Int) - (2 ^ 8 : Int) else x % (2 ^ 8 : Int)) = x
  simp only [Bool.false_and, Bool.false_eq_true, if_false]
  omega
theorem wrap_i16 {x : Int} (h1 : -32768 ≤ x) (h2 : x ≤ 32767) : IntKind.i16.wrap x = x := by
  show (if (true && decide (x % (2 ^ 16 : Int) ≥ (2 ^ 15 : Int))) = true then x % (2 ^ 16 : Int) - (2 ^ 16 : Int) else x % (2 ^ 16 : Int)) = x
  simp only [Bool.true_and, decide_eq_true_eq]
  split <;> omega
theorem wrap_u16 {x : Int} (h1 : 0 ≤ x) (h2 : x ≤ 65535) : IntKind.u16.wrap x = x := by
  show (if (false && decide (x % (2 ^ 16 : Int) ≥ (2 ^ 15 : Int))) = true then x % (2 ^ 16 : Int) - (2 ^ 16 : Int) else x % (2 ^ 16 : Int)) = x
  simp only [Bool.false_and, Bool.false_eq_true, if_false]
  omega
theorem wrap_i32 {x : Int} (h1 : -2147483648 ≤ x) (h2 : x ≤ 2147483647) : IntKind.i32.wrap x = x := by
  show (if (true && decide (x % (2 ^ 32 : Int) ≥ (2 ^ 31 : Int))) = true then x % (2 ^ 32 : Int) - (2 ^ 32 : Int) else x % (2 ^ 32 : Int)) = x
  simp only [Bool.true_and, decide_eq_true_eq]
  split <;> omega
theorem wrap_u32 {x : Int} (h1 : 0 ≤ x) (h2 : x ≤ 4294967295) : IntKind.u32.wrap x = x := by
  show (if (false && decide (x % (2 ^ 32 : Int) ≥ (2 ^ 31 : Int))) = true then x % (2 ^ 32 : Int) - (2 ^ 32 : Int) else x % (2 ^ 32 : Int)) = x
  simp only [Bool.false_and, Bool.false_eq_true, if_false]
  omega
theorem wrap_i64 {x : Int} (h1 : -9223372036854775808 ≤ x) (h2 : x ≤ 9223372036854775807) : IntKind.i64.wrap x = x := by
  show (if (true && decide (x % (2 ^ 64 : Int) ≥ (2 ^ 63 : Int))) = true then x % (2 ^ 64 : Int) - (2 ^ 64 : Int) else x % (2 ^ 64 : Int)) = x
  simp only [Bool.true_and, decide_eq_true_eq]
  split <;> omega
theorem wrap_u64 {x : Int} (h1 : 0 ≤ x) (h2 : x ≤ 18446744073709551615) : IntKind.u64.wrap x = x := by
  show (if (false && decide (x % (2 ^ 64 : Int) ≥ (2 ^ 63 : Int))) = true then x % (2 ^ 64 : Int) - (2 ^ 64 : Int) else x % (2 ^ 64 : Int)) = x
  simp only [Bool.false_and, Bool.false_eq_true, if_false]
  omega
end
end Go.Ev
