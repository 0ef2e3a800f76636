/-
  The executor is right, operation by operation (3): memory.
-/
import Derived.Test.YtcnklcnehpkfaaaEvE
import Derived.OwnWalk
namespace Go.Ev
open Go Go.RowKit
set_option linter.unusedVariables false
set_option linter.unusedSimpArgs false

section
variable {P : Program} {L : Lay} {E : Env} {C : Tab} {X : Nat → Prop} {w0 : World} {F : Nat → Prop} {w : World} {ρ : Ren} {h look : Nat → HObj} {fr : Nat} {a : Act} {ev : Operand → Option AV} {o : Oper} {out : Out}

theorem Mem.dead (M : Mem L X w0 F w ρ h) {n : Nat} (hn : ρ n = none) : ¬ (h n).live := fun hl => by
  obtain ⟨lo, h1, _⟩ := (M.heap n).loc hl
  rw [hn] at h1; cases h1

/-- One new block under a new name. -/
theorem Post.new (M : Mem L X w0 F w ρ h) (hfr : ρ fr = none) {w' : World} {lo : Loc} {o' : HObj} {x : AV} {v : Value} {os : List Prop} (hg : w.grownBy w' none) (hlo : ∀ b, lo.blk = some b → w.heap.size ≤ b)
    (ho : ∀ (ρ' : Ren), (∀ b, F b → F b ∧ w'.heap[b]? = w.heap[b]?) → (∀ n lo, ρ n = some lo → ρ' n = some lo) → ρ' fr = some lo → HR F w' ρ' fr o')
    (hx : ∀ (ρ' : Ren), ρ' fr = some lo → AR F w' ρ' x v) : Post L X w0 F w ρ h fr ⟨x, [], [o'], os⟩ v w' (upd ρ fr (some lo)) F := by
  have hF : ∀ b, F b → F b ∧ w'.heap[b]? = w.heap[b]? := fun b hb => ⟨hb, hg.block b (M.bound b hb) (by simp)⟩
  refine ⟨hF, fun n lo' hn => ?_, fun _ hb => .inl hb, fun n hn => ?_, ?_, hx _ (upd_same _ _ _)⟩
  · by_cases e : n = fr
    · subst e; rw [hfr] at hn; cases hn
    · rw [upd_other _ _ e]; exact hn
  · have e : n ≠ fr := fun e => hn (by subst e; simp)
    exact upd_other _ _ e
  · refine M.turn (d := fun _ => False) (.inl hfr) (fun hl => (M.dead hfr hl).elim) hg.os hg.tape hg.output hg.size (fun b hb _ => hg.block b hb (by simp)) (fun b hb => .inl (hlo b hb))
      (fun F' ρ' h1 h2 h3 => ?_) _ (o := o') ?_ (fun _ hd => hd.elim) (fun n _ hne => ?_)
    · exact (ho ρ' hF h2 h3).mono (F' := F') (w' := w') (fun b hb => ⟨(h1 b hb).1, rfl⟩) (fun _ _ h => h) (fun _ _ _ => rfl)
    · simp [eff, look2]
    · simp only [eff, look2, List.length_singleton]; rw [if_neg (by omega)]

/-- A live block is written. -/
theorem Post.set (M : Mem L X w0 F w ρ h) {n : Nat} {lo : Loc} (hl : (h n).live) (hn : ρ n = some lo) {w' : World} {o' : HObj} {x : AV} {v : Value} {os : List Prop} (hg : w.grownBy w' lo.blk)
    (ho : (∀ b, F b → F b ∧ w'.heap[b]? = w.heap[b]?) → HR F w' ρ n o') (hx : AR F w' ρ x v) : Post L X w0 F w ρ h fr ⟨x, [(n, o')], [], os⟩ v w' ρ F := by
  have hF : ∀ b, F b → F b ∧ w'.heap[b]? = w.heap[b]? := fun b hb => ⟨hb, hg.block b (M.bound b hb) fun e => M.notF n b hl (by simp [blkOf, hn, ← e]) hb⟩
  refine ⟨hF, fun _ _ h => h, fun _ hb => .inl hb, fun _ _ => rfl, ?_, hx⟩
  have hupd : upd ρ n (some lo) = ρ := by
    funext k
    by_cases e : k = n
    · subst e; rw [upd_same, hn]
    · rw [upd_other _ _ e]
  have T := M.turn (d := fun _ => False) (m := n) (lo := lo) (w' := w') (o := o') (.inr hn) (fun _ => hn) hg.os hg.tape hg.output hg.size
    (fun b hb hne => hg.block b hb fun e => hne n (.inr rfl) hl (by simp [blkOf, hn, ← e])) (fun b hb => .inr ⟨n, .inr rfl, hl, by simp [blkOf, hn, hb]⟩)
    (fun F' ρ' h1 h2 h3 => (ho hF).mono (F' := F') (w' := w') (fun b hb => ⟨(h1 b hb).1, rfl⟩) h2 (fun _ _ _ => rfl)) (eff h fr [(n, o')] [])
    (by simp [eff, look2]) (fun _ hd => hd.elim) (fun k _ hne => by simp only [eff, look2, if_neg (Ne.symm hne), List.length_nil, Nat.add_zero]; rw [if_neg (by omega)])
  rw [hupd] at T
  exact T

/-- A live block dies, and what it was goes on under a new name. -/
theorem Post.turn (M : Mem L X w0 F w ρ h) (hfr : ρ fr = none) {n : Nat} {lo lo' : Loc} (hl : (h n).live) (hn : ρ n = some lo) {w' : World} {o' : HObj} {x : AV} {v : Value} {os : List Prop} (hg : w.grownBy w' lo.blk)
    (hlo : ∀ b, lo'.blk = some b → w.heap.size ≤ b ∨ lo.blk = some b)
    (ho : ∀ (ρ' : Ren), (∀ b, F b → F b ∧ w'.heap[b]? = w.heap[b]?) → (∀ n lo, ρ n = some lo → ρ' n = some lo) → ρ' fr = some lo' → HR F w' ρ' fr o')
    (hx : ∀ (ρ' : Ren), ρ' fr = some lo' → AR F w' ρ' x v) : Post L X w0 F w ρ h fr ⟨x, [(n, .dead)], [o'], os⟩ v w' (upd ρ fr (some lo')) F := by
  have hne : n ≠ fr := fun e => by subst e; rw [hfr] at hn; cases hn
  have hF : ∀ b, F b → F b ∧ w'.heap[b]? = w.heap[b]? := fun b hb => ⟨hb, hg.block b (M.bound b hb) fun e => M.notF n b hl (by simp [blkOf, hn, ← e]) hb⟩
  refine ⟨hF, fun k lo' hk => ?_, fun _ hb => .inl hb, fun k hk => ?_, ?_, hx _ (upd_same _ _ _)⟩
  · by_cases e : k = fr
    · subst e; rw [hfr] at hk; cases hk
    · rw [upd_other _ _ e]; exact hk
  · have e : k ≠ fr := fun e => hk (by subst e; simp)
    exact upd_other _ _ e
  · refine M.turn (d := fun k => k = n) (.inl hfr) (fun hl => (M.dead hfr hl).elim) hg.os hg.tape hg.output hg.size
      (fun b hb hne' => hg.block b hb fun e => hne' n (.inl rfl) hl (by simp [blkOf, hn, ← e])) (fun b hb => (hlo b hb).imp id fun e => ⟨n, .inl rfl, hl, by simp [blkOf, hn, e]⟩)
      (fun F' ρ' h1 h2 h3 => ?_) _ (o := o') ?_ (fun k hd hk => ?_) (fun k hd hk => ?_)
    · exact (ho ρ' hF h2 h3).mono (F' := F') (w' := w') (fun b hb => ⟨(h1 b hb).1, rfl⟩) (fun _ _ h => h) (fun _ _ _ => rfl)
    · simp [eff, look2, hne]
    · subst hd; simp [eff, look2]
    · simp only [eff, look2, if_neg (Ne.symm hd), List.length_singleton]; rw [if_neg (by omega)]

theorem run_box {t : TypeId} {v : Value} : (Instr.box t v).run P w = .ok (.pointer (some ⟨w.heap.size, 0, none⟩)) (w.alloc (.cells v.cells t)) := by
  simp [Instr.box, newVar, newRow]

theorem HR.box {ρ' : Ren} {w : World} {t : TypeId} {cs : List AV} {vs : List Value} {fr : Nat} {w1 : World} (hρ : ρ' fr = some ⟨some w.heap.size, 0⟩) (hcs : ARL F w1 ρ' cs vs) (h1 : cs.all AV.one = true) (hw : w1 = w.alloc (.cells vs.toArray t)) :
    HR F w1 ρ' fr (.oo t cs.length [cs]) := by
  subst hw
  refine ⟨_, vs, hρ, ?_, by simpa using hcs, by simpa using List.all_eq_true.1 h1⟩
  have := World.ownsRow_lit (base := 0) (e := t) (size := cs.length) w vs.toArray 1 (Nat.zero_le _) (by unfold maxLen; omega) (by simp [hcs.length])
  simpa [sliceOf] using this

theorem sound_box {t : TypeId} {x : Operand} {v : AV} (G : Good P L E X w0 F w ρ h look fr a ev) (hfr : ρ fr = none) (hop : o.op = .box t x) (hv : ev x = some v) (h1 : (cellsOf v).all AV.one = true) :
    Sound P L X w0 F w ρ h fr a o ⟨.p fr 0, [], [.oo t (cellsOf v).length [cellsOf v]], []⟩ := by
  have hr : (execOp a.eval o).run P w = .ok (.value (.pointer (some ⟨w.heap.size, 0, none⟩))) (w.alloc (.cells (a.eval x).cells t)) := by
    simp only [execOp, hop]; exact run_v run_box
  have hc := (G.ev _ _ hv).cells h1
  refine .value hr (.new G.mem hfr (lo := ⟨some w.heap.size, 0⟩) (World.grownBy_alloc w _ none) (fun b hb => by simp at hb; omega) (fun ρ' hF hρ h3 => ?_) (fun ρ' h3 => ?_))
  · exact HR.box h3 (hc.mono (w := w) hF hρ) h1 (by simp)
  · simp only [AR]; exact ⟨_, _, h3, rfl⟩

theorem sound_alloc {t : TypeId} {ti : TyI} (G : Good P L E X w0 F w ρ h look fr a ev) (hfr : ρ fr = none) (hop : o.op = .alloc t) (ht : E t = some ti) :
    Sound P L X w0 F w ρ h fr a o ⟨.p fr 0, [], [.oo t ti.size [ti.zero.map .c]], []⟩ := by
  obtain ⟨z, hz, hzc⟩ := G.env.zero ht (w := w)
  have hr : (execOp a.eval o).run P w = .ok (.value (.pointer (some ⟨w.heap.size, 0, none⟩))) (w.alloc (.cells z.cells t)) := by
    simp only [execOp, hop]; refine run_v ?_
    simp [Instr.alloc, hz, newVar, newRow, Result.andThen]
  obtain ⟨_, _, hlen, hone, _⟩ := G.env t ti ht
  refine .value hr (.new G.mem hfr (lo := ⟨some w.heap.size, 0⟩) (World.grownBy_alloc w _ none) (fun b hb => by simp at hb; omega) (fun ρ' hF hρ h3 => ?_) (fun ρ' h3 => ?_))
  · have := HR.box (F := F) (t := t) (cs := ti.zero.map .c) (vs := ti.zero) h3 ARL.consts (by simpa [AV.one] using hone) (w := w) (w1 := w.alloc (.cells z.cells t)) (by rw [← hzc])
    simpa [hlen] using this
  · simp only [AR]; exact ⟨_, _, h3, rfl⟩

theorem viewP_cells {L : Lay} {look : Nat → HObj} {ad : AV} {n : Nat} {l : List AV} (h : viewP look ad n l) : ∃ ps, cellsAt L look ad n = some (l, ps) ∧ All ps := by
  cases ad <;> first | exact h | exact h.elim

theorem sound_load {t : TypeId} {x : Operand} {ad : AV} {ti : TyI} {l : List AV} {ps qs : List Prop} {y : AV} (G : Good P L E X w0 F w ρ h look fr a ev) (hop : o.op = .load t x) (ht : E t = some ti) (hx : ev x = some ad)
    (hc : (isAggV ti.v = true ∧ cellsAt L look ad ti.size = some (l, ps) ∧ y = .a l) ∨ (isAggV ti.v = false ∧ cellsAt L look ad 1 = some (l, ps) ∧ l = [y])) (hp : All ps) :
    Sound P L X w0 F w ρ h fr a o ⟨y, [], [], qs⟩ := by
  have ha := G.env.isAgg ht (w := w)
  have hs := G.env.sizeOf ht (w := w)
  rcases hc with ⟨hv, hc, rfl⟩ | ⟨hv, hc, rfl⟩
  · obtain ⟨hl, _, A, vs, e, hav, hcell⟩ := cellsAt_sound G.mem G.look (G.ev _ _ hx) hc hp
    have hr : (Instr.loadAt t (a.eval x)).run P w = .ok (.agg vs.toArray) w := by
      have r := run_loadCells_list (P := P) w A vs hcell
      rw [hav.length, hl] at r
      rw [e]
      simp [Instr.loadAt, Instr.sureAddr, loadVar, ha, hv, hs, r, Result.andThen]
    refine .pure G (by simp only [execOp, hop]; exact run_v hr) ?_
    simp only [AR]; exact ⟨_, rfl, by simpa using hav⟩
  · obtain ⟨hl, _, A, vs, e, hav, hcell⟩ := cellsAt_sound G.mem G.look (G.ev _ _ hx) hc hp
    simp only [ARL] at hav
    obtain ⟨v, _, rfl, hav, rfl⟩ := hav
    have hc0 := hcell 0 v (by simp)
    rw [Addr.add_zero'] at hc0
    have hr : (Instr.loadAt t (a.eval x)).run P w = .ok v w := by
      rw [e]
      simp [Instr.loadAt, Instr.sureAddr, loadVar, ha, hv, run_load, hc0, Result.andThen]
    exact .pure G (by simp only [execOp, hop]; exact run_v hr) hav
end
end Go.Ev
