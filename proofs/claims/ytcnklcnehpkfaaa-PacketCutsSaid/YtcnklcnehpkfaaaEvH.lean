/-
  The executor is right, operation by operation (5): literals, make, slices, conversions.
-/
import Derived.Test.YtcnklcnehpkfaaaEvG
namespace Go.Ev
open Go Go.RowKit
set_option linter.unusedVariables false
set_option linter.unusedSimpArgs false

theorem foldl_set_get (off : Nat) : ∀ (vs : List Value) (k : Nat) (cells : Array Value) (i : Nat), off + k + vs.length ≤ cells.size →
    ((vs.zipIdx k).foldl (fun cs (p : Value × Nat) => cs.setIfInBounds (off + p.2) p.1) cells).size = cells.size ∧
    ((vs.zipIdx k).foldl (fun cs (p : Value × Nat) => cs.setIfInBounds (off + p.2) p.1) cells)[i]? = if off + k ≤ i ∧ i < off + k + vs.length then vs[i - (off + k)]? else cells[i]?
  | [], k, cells, i, _ => by
    simp only [List.zipIdx_nil, List.foldl_nil, List.length_nil, Nat.add_zero, true_and]; rw [if_neg (by omega)]
  | v :: vs, k, cells, i, hl => by
    simp only [List.zipIdx_cons, List.foldl_cons, List.length_cons] at hl ⊢
    have ih := foldl_set_get off vs (k + 1) (cells.setIfInBounds (off + k) v) i (by rw [Array.size_setIfInBounds]; omega)
    refine ⟨by rw [ih.1, Array.size_setIfInBounds], ?_⟩
    rw [ih.2]
    by_cases h1 : off + (k + 1) ≤ i ∧ i < off + (k + 1) + vs.length
    · rw [if_pos h1, if_pos (by omega), show i - (off + k) = (i - (off + (k + 1))) + 1 from by omega]; simp
    · rw [if_neg h1]
      by_cases h2 : i = off + k
      · subst h2
        rw [if_pos (by omega), Array.getElem?_setIfInBounds, if_pos rfl, if_pos (by omega)]
        simp
      · rw [if_neg (by omega), Array.getElem?_setIfInBounds, if_neg (fun e => h2 e.symm)]

section
variable {P : Program} {L : Lay} {E : Env} {C : Tab} {X : Nat → Prop} {w0 : World} {F : Nat → Prop} {w : World} {ρ : Ren} {h look : Nat → HObj} {fr : Nat} {a : Act} {ev : Operand → Option AV} {o : Oper} {out : Out}

theorem cells_one {x : AV} {v : Value} (hv : AR F w ρ x v) (h1 : (cellsOf x).all AV.one = true) : ARL F w ρ (cellsOf x) v.cells.toList := hv.cells h1

/-- A literal's parts laid in. -/
theorem fill_sound {pl : Nat → Option (Nat × Nat)} : ∀ {parts : List (Nat × List AV)} {vals : List (Nat × Value)} {cs cs' : List AV} {cells : Array Value},
    parts.length = vals.length → (∀ (i : Nat) (p : Nat × List AV), parts[i]? = some p → ∃ v, vals[i]? = some (p.1, v) ∧ ARL F w ρ p.2 v.cells.toList) →
    ARL F w ρ cs cells.toList → fillA pl cs parts = some cs' → ∃ cells', Instr.fill pl cells vals = some cells' ∧ ARL F w ρ cs' cells'.toList
  | [], [], cs, cs', cells, _, _, hc, hf => by
    simp only [fillA, Option.some.injEq] at hf; subst hf
    exact ⟨cells, rfl, hc⟩
  | [], _ :: _, _, _, _, hl, _, _, _ => by simp at hl
  | _ :: _, [], _, _, _, hl, _, _, _ => by simp at hl
  | (i, l) :: parts, (i', v) :: vals, cs, cs', cells, hl, hp, hc, hf => by
    obtain ⟨v', hv', hav⟩ := hp 0 (i, l) (by simp)
    simp only [List.getElem?_cons_zero, Option.some.injEq, Prod.mk.injEq] at hv'
    obtain ⟨rfl, rfl⟩ := hv'
    simp only [fillA] at hf
    split at hf
    · cases hf
    · rename_i off size hpl
      split at hf
      · rename_i hcond
        have hsz : v.cells.size = size := by have := hav.length; simp at this; omega
        have hcl : cells.size = cs.length := by have := hc.length; simpa using this
        have hg := fun j => foldl_set_get off v.cells.toList 0 cells j (by simp; omega)
        have hfold : v.cells.zipIdx.foldl (fun cs (p : Value × Nat) => cs.setIfInBounds (off + p.2) p.1) cells = (v.cells.toList.zipIdx 0).foldl (fun cs (p : Value × Nat) => cs.setIfInBounds (off + p.2) p.1) cells := by
          rw [← Array.foldl_toList]; simp
        have hnew : ARL F w ρ (cs.take off ++ l ++ cs.drop (off + size)) (v.cells.zipIdx.foldl (fun cs (p : Value × Nat) => cs.setIfInBounds (off + p.2) p.1) cells).toList := by
          rw [hfold]
          refine ARL.of_get ?_ fun j x hj => ?_
          · rw [Array.length_toList, (hg 0).1]; simp; omega
          · rw [Array.getElem?_toList, (hg j).2]
            simp only [Nat.add_zero, Array.length_toList, hsz]
            by_cases h1 : j < off
            · rw [List.append_assoc, List.getElem?_append_left (by simp; omega), List.getElem?_take, if_pos h1] at hj
              rw [if_neg (by omega)]
              simpa using hc.get j x hj
            · by_cases h2 : j < off + size
              · rw [List.append_assoc, List.getElem?_append_right (by simp; omega), List.getElem?_append_left (by simp; omega)] at hj
                rw [if_pos (by omega)]
                have e : j - (cs.take off).length = j - off := by simp; omega
                rw [e] at hj
                exact hav.get _ x hj
              · rw [List.getElem?_append_right (by simp; omega), List.getElem?_drop] at hj
                have e : off + size + (j - (cs.take off ++ l).length) = j := by simp; omega
                rw [e] at hj
                rw [if_neg (by omega)]
                simpa using hc.get j x hj
        obtain ⟨cells', e1, e2⟩ := fill_sound (parts := parts) (vals := vals) (by simpa using hl) (fun j p hj => by simpa using hp (j + 1) p (by simpa using hj)) hnew hf
        refine ⟨cells', ?_, e2⟩
        simp only [Instr.fill, hpl]
        rw [if_neg (by simp; omega)]
        exact e1
      · cases hf

theorem parts_get {ps : List (Nat × Operand)} {parts : List (Nat × List AV)} (G : Good P L E X w0 F w ρ h look fr a ev) (hps : mapM' (fun (p : Nat × Operand) => (ev p.2).bind fun v => if (cellsOf v).all AV.one then some (p.1, cellsOf v) else none) ps = some parts) :
    parts.length = (ps.map fun p => (p.1, a.eval p.2)).length ∧ ∀ (i : Nat) (p : Nat × List AV), parts[i]? = some p → ∃ v, (ps.map fun p => (p.1, a.eval p.2))[i]? = some (p.1, v) ∧ ARL F w ρ p.2 v.cells.toList := by
  obtain ⟨h1, h2⟩ := mapM'_get hps
  refine ⟨by simp [h1], fun i p hi => ?_⟩
  have hlt : i < ps.length := by rw [← h1]; exact (List.getElem?_eq_some_iff.1 hi).1
  obtain ⟨y, hy, hf⟩ := h2 i ps[i] (List.getElem?_eq_getElem hlt)
  rw [hi] at hy
  obtain rfl := Option.some.inj hy
  obtain ⟨v, hv, hif⟩ := Option.bind_eq_some_iff.1 hf
  split at hif
  · rename_i hone
    simp only [Option.some.injEq] at hif
    subst hif
    exact ⟨a.eval ps[i].2, by simp [List.getElem?_eq_getElem hlt], (G.ev _ _ hv).cells hone⟩
  · cases hif

theorem mapM'_map {α β γ : Type} (f : α → Option β) (g : γ → α) : ∀ l : List γ, mapM' f (l.map g) = mapM' (fun x => f (g x)) l
  | [] => rfl
  | x :: l => by simp only [List.map_cons, mapM', mapM'_map f g l]

theorem build_places (hE : EnvOK P E) : ∀ {fs : List Field} {pl : List (Nat × Nat)}, mapM' (fun (f : Bool × Nat × Nat) => (E f.2.1).bind fun fi => some (f.2.2, fi.size)) (fs.map fun f => (f.name == "_", f.type, f.offset)) = some pl →
    (fs.mapM (fun f => do pure (f.offset, ← sizeOf f.type) : Field → Sem (Nat × Nat))).run P w = .ok pl w
  | [], pl, h => by
    simp only [List.map_nil, mapM', Option.some.injEq] at h; subst h; simp
  | f :: fs, pl, h => by
    simp only [List.map_cons, mapM', Option.bind_eq_bind, Option.bind_eq_some_iff, Option.some.injEq] at h
    obtain ⟨p, ⟨fi, hfi, rfl⟩, r, hr, rfl⟩ := h
    have ih := build_places hE hr
    simp only [List.mapM_cons, Sem.run_bind, hE.sizeOf hfi, Result.andThen_ok, Sem.run_pure, ih]

theorem sound_build {t : TypeId} {ps : Array (Nat × Operand)} {parts : List (Nat × List AV)} {ti : TyI} {cells : List AV} (G : Good P L E X w0 F w ρ h look fr a ev) (hop : o.op = .build t ps) (ht : E t = some ti)
    (hps : mapM' (fun (p : Nat × Operand) => (ev p.2).bind fun v => if (cellsOf v).all AV.one then some (p.1, cellsOf v) else none) ps.toList = some parts)
    (hz : (∃ fs pl, ti.v = .struct fs ∧ mapM' (fun (f : Bool × Nat × Nat) => (E f.2.1).bind fun fi => some (f.2.2, fi.size)) fs = some pl ∧ fillA (pl[·]?) (ti.zero.map .c) parts = some cells) ∨
      (∃ n e ei, ti.v = .arr n e ∧ E e = some ei ∧ fillA (fun i => some (i * ei.size, ei.size)) (ti.zero.map .c) parts = some cells)) :
    Sound P L X w0 F w ρ h fr a o ⟨.a cells, [], [], []⟩ := by
  obtain ⟨z, hz0, hzc⟩ := G.env.zero (w := w) ht
  obtain ⟨d, hu, hv⟩ := G.env.under ht
  obtain ⟨hpl, hpg⟩ := parts_get G hps
  have hzr : ARL F w ρ (ti.zero.map .c) z.cells.toList := by rw [hzc]; exact ARL.consts
  rcases hz with ⟨fs, pl, hti, hpls, hf⟩ | ⟨n, e, ei, hti, hei, hf⟩
  · rw [hti] at hv
    obtain ⟨af, rfl, rfl⟩ := view_struct hv
    obtain ⟨cells', e1, e2⟩ := fill_sound hpl hpg hzr hf
    have hb := build_places (w := w) G.env hpls
    have hb' : (af.mapM (fun f => do pure (f.offset, ← sizeOf f.type) : Field → Sem (Nat × Nat))).run P w = .ok pl.toArray w := by
      have : (af.mapM (fun f => do pure (f.offset, ← sizeOf f.type) : Field → Sem (Nat × Nat))) = (do pure (← af.toList.mapM (fun f => do pure (f.offset, ← sizeOf f.type) : Field → Sem (Nat × Nat))).toArray) := by
        rw [Array.mapM_eq_mapM_toList]; rfl
      rw [this]; simp only [Sem.run_bind, hb, Result.andThen_ok, Sem.run_pure]
    refine .pure G (v := .agg cells') (by
      simp only [execOp, hop]; refine run_v ?_
      simp only [Instr.build, Sem.run_bind, hz0, Result.andThen_ok, run_underlying hu, hb', List.getElem?_toArray]
      have e3 : (ps.map fun (i, x) => (i, a.eval x)).toList = ps.toList.map fun p => (p.1, a.eval p.2) := by simp
      simp only [e3, e1, Sem.run_pure]) ?_
    simp only [AR]; exact ⟨_, rfl, e2⟩
  · rw [hti] at hv
    obtain rfl := view_arr hv
    obtain ⟨cells', e1, e2⟩ := fill_sound hpl hpg hzr hf
    have hs := G.env.sizeOf (w := w) hei
    refine .pure G (v := .agg cells') (by
      simp only [execOp, hop]; refine run_v ?_
      simp only [Instr.build, Sem.run_bind, hz0, Result.andThen_ok, run_underlying hu, hs]
      have e3 : (ps.map fun (i, x) => (i, a.eval x)).toList = ps.toList.map fun p => (p.1, a.eval p.2) := by simp
      simp only [e3, e1, Sem.run_pure]) ?_
    simp only [AR]; exact ⟨_, rfl, e2⟩

theorem flatten_replicate_get {α : Type} (z : List α) : ∀ (n i : Nat), i < n * z.length → (List.replicate n z).flatten[i]? = z[i % z.length]?
  | 0, i, h => by simp at h
  | n + 1, i, h => by
    rw [Nat.add_mul, Nat.one_mul] at h
    simp only [List.replicate_succ, List.flatten_cons]
    by_cases hi : i < z.length
    · rw [List.getElem?_append_left hi, Nat.mod_eq_of_lt hi]
    · have hz : 0 < z.length := by
        rcases Nat.eq_zero_or_pos z.length with e | e
        · rw [e] at h; simp at h
        · exact e
      rw [List.getElem?_append_right (by omega), flatten_replicate_get z n _ (by omega), ← Nat.mod_eq_sub_mod (by omega)]

theorem madeCells_list (z : Array Value) (n : Nat) : (madeCells z (n * z.size)).toList = (List.replicate n z.toList).flatten := by
  apply List.ext_getElem?
  intro i
  by_cases hi : i < n * z.size
  · rw [flatten_replicate_get _ _ _ (by simpa using hi)]
    have hz : 0 < z.size := by
      rcases Nat.eq_zero_or_pos z.size with e | e
      · rw [e] at hi; simp at hi
      · exact e
    have hm : i % z.size < z.size := Nat.mod_lt _ hz
    simp [madeCells, hi, hm]
  · rw [List.getElem?_eq_none (by rw [Array.length_toList, size_madeCells]; omega), List.getElem?_eq_none (by simp [List.length_flatten]; omega)]

theorem chunks_flatten {sz : Nat} : ∀ (n : Nat) (l : List AV), l.length = n * sz → ((List.range n).map fun i => (l.drop (i * sz)).take sz).flatten = l
  | 0, l, h => by have : l = [] := List.eq_nil_of_length_eq_zero (by simpa using h); simp [this]
  | n + 1, l, h => by
    rw [List.range_succ_eq_map, List.map_cons, List.map_map, List.flatten_cons]
    have ih := chunks_flatten (sz := sz) n (l.drop sz) (by rw [List.length_drop, h, Nat.add_mul]; omega)
    have e : ((fun i => (l.drop (i * sz)).take sz) ∘ Nat.succ) = fun i => ((l.drop sz).drop (i * sz)).take sz := by
      funext i; simp only [Function.comp, List.drop_drop]; rw [show i.succ * sz = sz + i * sz from by rw [Nat.succ_mul]; omega]
    rw [e, ih]; simp

theorem run_buildSlice {t e : TypeId} {ei : TyI} {len : Nat} {ps : List (Nat × Value)} {cells' : Array Value} (hE : EnvOK P E) (hu : P.underlying t = some (.slice e)) (hei : E e = some ei) (h16 : len ≤ 1000) (h17 : ei.size ≤ 1000)
    (hf : ∀ cells : Array Value, cells.toList = (List.replicate len ei.zero).flatten → Instr.fill (fun i => some (i * ei.size, ei.size)) cells ps = some cells') :
    (Instr.buildSlice t len ps.toArray).run P w = .ok (.slice (some ⟨w.heap.size, 0, none⟩) len len) (w.alloc (.cells cells' e)) := by
  have hs := hE.sizeOf (w := w) hei
  obtain ⟨z, hz0, hzc⟩ := hE.zero (w := w) hei
  obtain ⟨_, _, hzl, _⟩ := hE e ei hei
  have hzs : z.cells.size = ei.size := by rw [← hzl, ← hzc]; simp
  have h24 : ¬ (16777216 < len * ei.size) := by
    have : len * ei.size ≤ 1000 * 1000 := Nat.mul_le_mul h16 h17
    omega
  by_cases h0 : len * ei.size = 0
  · have hf' := hf #[] (by
      rcases Nat.mul_eq_zero.1 h0 with e | e
      · subst e; simp
      · have : ei.zero = [] := List.eq_nil_of_length_eq_zero (by omega)
        rw [this]; simp)
    simp only [Instr.buildSlice, Sem.run_bind, run_underlying hu, Result.andThen_ok, hs]
    simp [h0, hf', newRow, Array.range_zero', Result.andThen]
  · have hf' := hf (madeCells z.cells (len * ei.size)) (by rw [← hzs, madeCells_list, hzc])
    unfold madeCells at hf'
    simp only [Instr.buildSlice, Sem.run_bind, run_underlying hu, Result.andThen_ok, hs]
    simp [h24, h0, hz0, hf', newRow, Result.andThen]

theorem sound_buildSlice {t e : TypeId} {len : Nat} {ps : Array (Nat × Operand)} {parts : List (Nat × List AV)} {ti ei : TyI} {cells : List AV} {ob : HObj} {os : List Prop} (G : Good P L E X w0 F w ρ h look fr a ev) (hfr : ρ fr = none) (hop : o.op = .buildSlice t len ps) (ht : E t = some ti) (hti : ti.v = .slice e) (hei : E e = some ei)
    (hps : mapM' (fun (p : Nat × Operand) => (ev p.2).bind fun v => if (cellsOf v).all AV.one then some (p.1, cellsOf v) else none) ps.toList = some parts)
    (hf : fillA (fun i => some (i * ei.size, ei.size)) (List.replicate len (ei.zero.map AV.c)).flatten parts = some cells) (h16 : len ≤ 1000) (h17 : ei.size ≤ 1000)
    (hob : (∃ k l, ob = .oi e k l ∧ ei.size = 1 ∧ cells = l.map (fun y => .c (.int k y)) ∧ l.length = len) ∨
      (ob = .oo e ei.size ((List.range len).map fun i => (cells.drop (i * ei.size)).take ei.size) ∧ cells.all AV.one = true ∧ cells.length = len * ei.size)) :
    Sound P L X w0 F w ρ h fr a o ⟨.s fr 0 len len, [], [ob], os⟩ := by
  obtain ⟨d, hu, hv⟩ := G.env.under ht
  rw [hti] at hv
  obtain rfl := view_slice hv
  obtain ⟨hpl, hpg⟩ := parts_get G hps
  have hrep : ∀ cs : Array Value, cs.toList = (List.replicate len ei.zero).flatten → ARL F w ρ (List.replicate len (ei.zero.map AV.c)).flatten cs.toList := by
    intro cs hcs
    rw [hcs]
    have : (List.replicate len (ei.zero.map AV.c)).flatten = ((List.replicate len ei.zero).flatten).map AV.c := by
      rw [List.map_flatten, List.map_replicate]
    rw [this]; exact ARL.consts
  obtain ⟨cells', hfl, hav⟩ := fill_sound hpl hpg (hrep ⟨(List.replicate len ei.zero).flatten⟩ rfl) hf
  have hfill : ∀ cs : Array Value, cs.toList = (List.replicate len ei.zero).flatten → Instr.fill (fun i => some (i * ei.size, ei.size)) cs (ps.toList.map fun p => (p.1, a.eval p.2)) = some cells' := by
    intro cs hcs
    obtain rfl : cs = ⟨(List.replicate len ei.zero).flatten⟩ := Array.ext' hcs
    exact hfl
  have hr : (execOp a.eval o).run P w = .ok (.value (.slice (some ⟨w.heap.size, 0, none⟩) len len)) (w.alloc (.cells cells' e)) := by
    simp only [execOp, hop]; refine run_v ?_
    have e3 : (ps.map fun (i, x) => (i, a.eval x)) = (ps.toList.map fun p => (p.1, a.eval p.2)).toArray := by apply Array.ext'; simp
    rw [e3]
    exact run_buildSlice G.env hu hei h16 h17 hfill
  refine .value hr (.new G.mem hfr (lo := ⟨some w.heap.size, 0⟩) (World.grownBy_alloc w _ none) (fun b hb => by simp at hb; omega) (fun ρ' hF hρ h3 => ?_) (fun ρ' h3 => ?_))
  · have hm := hav.mono hF hρ
    have hcl := hav.length
    simp only [Array.length_toList] at hcl
    rcases hob with ⟨k, l, rfl, hs1, rfl, hll⟩ | ⟨rfl, hone, hlen⟩
    · refine ⟨_, h3, ?_⟩
      have hcs : cells'.toList = l.map (Value.int k) := by
        apply List.ext_getElem?
        intro i
        cases hi : l[i]? with
        | none => rw [List.getElem?_eq_none, List.getElem?_eq_none] <;> have := List.getElem?_eq_none_iff.1 hi <;> simp <;> simp at hcl <;> omega
        | some y =>
          obtain ⟨u, hu', hr'⟩ := hav.get i (.c (.int k y)) (by simp [hi])
          simp only [AR] at hr'
          rw [hu', hr']; simp [hi]
      have := World.ownsRow_lit (base := 0) (e := e) (size := 1) w cells' len (Nat.zero_le _) (by unfold maxLen; omega) (by simp at hcl; omega)
      rw [hcs] at this
      simpa [sliceOf, hll] using this
    · have hsz : ∀ c ∈ (List.range len).map fun i => (cells.drop (i * ei.size)).take ei.size, c.length = ei.size := by
        intro c hc
        obtain ⟨i, hi, rfl⟩ := List.mem_map.1 hc
        have : (i + 1) * ei.size ≤ len * ei.size := Nat.mul_le_mul_right _ (List.mem_range.1 hi)
        rw [Nat.add_mul] at this
        simp; omega
      have hfl : ((List.range len).map fun i => (cells.drop (i * ei.size)).take ei.size).flatten = cells := chunks_flatten len cells hlen
      refine ⟨_, cells'.toList, h3, ?_, by rw [hfl]; exact hm, fun c hc => ⟨hsz c hc, fun x hx => ?_⟩⟩
      · have := World.ownsRow_lit (base := 0) (e := e) (size := ei.size) w cells' len (Nat.zero_le _) (by unfold maxLen; omega) (by omega)
        simpa [sliceOf] using this
      · have : x ∈ cells := by rw [← hfl]; exact List.mem_flatten.2 ⟨c, hc, hx⟩
        exact List.all_eq_true.1 hone x this
  · simp only [AR]; exact ⟨_, h3, rfl⟩
end
end Go.Ev
