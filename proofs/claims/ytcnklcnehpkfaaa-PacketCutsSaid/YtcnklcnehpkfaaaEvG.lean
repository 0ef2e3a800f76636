/-
  The executor is right, operation by operation (4): stores, addresses, parts.
-/
import Derived.Test.YtcnklcnehpkfaaaEvF
namespace Go.Ev
open Go Go.RowKit
set_option linter.unusedVariables false
set_option linter.unusedSimpArgs false

theorem ARL.set {F : Nat → Prop} {w : World} {ρ : Ren} {l : List AV} {xs : List Value} (hx : ARL F w ρ l xs) (i : Nat) {x : AV} {v : Value} (hv : AR F w ρ x v) : ARL F w ρ (l.set i x) (xs.set i v) :=
  ARL.of_get (by simp [hx.length]) fun j y hj => by
    rw [List.getElem?_set] at hj ⊢
    split at hj
    · rename_i e
      split at hj
      · rename_i h1
        cases hj
        exact ⟨v, by rw [if_pos e, if_pos (by rw [hx.length]; exact h1)], hv⟩
      · cases hj
    · rename_i e
      obtain ⟨u, hu, hr⟩ := hx.get j y hj
      exact ⟨u, by rw [if_neg e]; exact hu, hr⟩

theorem flatten_modify {sz : Nat} {x : AV} : ∀ {l : List (List AV)}, (∀ c ∈ l, c.length = sz) → ∀ {i j : Nat}, j < sz → (l.modify i (·.set j x)).flatten = l.flatten.set (i * sz + j) x
  | [], _, i, j, _ => by simp
  | c :: l, h, 0, j, hj => by
    have hc := h c (by simp)
    simp only [List.modify_zero_cons, List.flatten_cons, Nat.zero_mul, Nat.zero_add]
    rw [List.set_append_left _ _ (by omega)]
  | c :: l, h, i + 1, j, hj => by
    have hc := h c (by simp)
    simp only [List.modify_succ_cons, List.flatten_cons]
    rw [flatten_modify (fun d hd => h d (List.mem_cons_of_mem _ hd)) hj, List.set_append_right _ _ (by rw [Nat.add_mul, hc]; omega)]
    congr 2
    rw [hc, Nat.add_mul]; omega

section
variable {P : Program} {L : Lay} {E : Env} {C : Tab} {X : Nat → Prop} {w0 : World} {F : Nat → Prop} {w : World} {ρ : Ren} {h look : Nat → HObj} {fr : Nat} {a : Act} {ev : Operand → Option AV} {o : Oper} {out : Out}

theorem HObj.setCell_sound {n : Nat} {ob ob' : HObj} {b sl off : Nat} {x : AV} {v : Value} {ps : List Prop} (hF : ¬ F b) (hh : HR F w ρ n ob) (hn : ρ n = some ⟨some b, sl⟩) (hc : ob.setCell off x = some (ob', ps)) (hp : All ps) (h1 : x.one = true) (hv : AR F w ρ x v) :
    (w.cell? ⟨b, off, none⟩).isSome = true ∧ w.frozen? ⟨b, off, none⟩ = false ∧ HR F (w.setCell ⟨b, off, none⟩ v) ρ n ob' ∧ ob'.live := by
  have hmono : ∀ k, F k → F k ∧ (w.setCell ⟨b, off, none⟩ v).heap[k]? = w.heap[k]? := fun k hk => ⟨hk, Below.heap_setCell _ _ _ _ (fun e => hF (by simp only at e; rw [← e]; exact hk))⟩
  have oo : ∀ {e : TypeId} {sz : Nat} {l l' : List (List AV)} {i j : Nat}, ob = .oo e sz l → ob' = .oo e sz l' → off = i * sz + j → i < l.length → j < sz → l' = l.modify i (·.set j x) →
      (w.cell? ⟨b, off, none⟩).isSome = true ∧ w.frozen? ⟨b, off, none⟩ = false ∧ HR F (w.setCell ⟨b, off, none⟩ v) ρ n ob' ∧ ob'.live := by
    intro e sz l l' i j e1 e2 hoff hi hj hl'
    subst e1; subst e2; subst hl'
    obtain ⟨xs, h2, h3, h4⟩ := hh.oo_at hn
    have hlen := flatten_length fun c hc => (h4 c hc).1
    have hlt : off < l.length * sz := by
      rw [hoff]
      have : (i + 1) * sz ≤ l.length * sz := Nat.mul_le_mul_right _ hi
      rw [Nat.add_mul] at this; omega
    refine ⟨?_, h2.frozenAt off, ⟨_, xs.set off v, hn, ?_, ?_, ?_⟩, trivial⟩
    · rw [h2.cellAt off hlt]
      have := h3.length
      simp; omega
    · simpa [sliceOf] using (h2.stored off v).1
    · rw [flatten_modify (fun c hc => (h4 c hc).1) hj, ← hoff]
      exact ((h3.mono hmono (fun _ _ h => h)).set off (hv.mono hmono (fun _ _ h => h)))
    · intro c hc
      obtain ⟨m, hm, rfl⟩ := List.getElem_of_mem hc
      simp only [List.getElem_modify]
      split
      · have := h4 _ (List.getElem_mem (by simpa using hm))
        refine ⟨by simpa using this.1, fun y hy => ?_⟩
        rcases List.mem_or_eq_of_mem_set hy with hy | hy
        · exact this.2 y hy
        · rw [hy]; exact h1
      · exact h4 _ (List.getElem_mem (by simpa using hm))
  cases ob with
  | dead => simp [HObj.setCell] at hc
  | oi e k l =>
    cases x with
    | c vx =>
      cases vx with
      | int k' y =>
        simp only [HObj.setCell] at hc
        split at hc
        · rename_i hk
          subst hk
          simp only [Option.some.injEq, Prod.mk.injEq] at hc
          obtain ⟨rfl, rfl⟩ := hc
          have hlt : off < l.length := hp.1
          have ho := hh.oi_at hn
          simp only [AR] at hv
          subst hv
          refine ⟨?_, ho.frozenAt off, ⟨_, hn, ?_⟩, trivial⟩
          · rw [ho.cellAt off (by omega)]; simp [hlt]
          · have := (ho.stored off (.int k y)).1
            simpa [sliceOf, List.map_set] using this
        · cases hc
      | _ => simp [HObj.setCell] at hc
    | _ => simp [HObj.setCell] at hc
  | oo e sz l =>
    match l, hc with
    | [c], hc =>
      simp only [HObj.setCell, Option.some.injEq, Prod.mk.injEq] at hc
      obtain ⟨rfl, rfl⟩ := hc
      obtain ⟨xs, h2, h3, h4⟩ := hh.oo_at hn
      have hcl := (h4 c (by simp)).1
      exact oo (i := 0) (j := off) rfl rfl (by omega) (by simp) (by have : off < c.length := hp.1; omega) (by simp)
    | [], hc =>
      simp only [HObj.setCell, Option.some.injEq, Prod.mk.injEq] at hc
      obtain ⟨rfl, rfl⟩ := hc
      exact absurd hp.1 (by simp)
    | c1 :: c2 :: r, hc =>
      simp only [HObj.setCell, Option.some.injEq, Prod.mk.injEq] at hc
      obtain ⟨rfl, rfl⟩ := hc
      exact oo (i := off / sz) (j := off % sz) rfl rfl (by rw [Nat.mul_comm]; exact (Nat.div_add_mod off sz).symm) hp.1 hp.2.1 rfl

theorem grownBy_setCell (w : World) (b off : Nat) (v : Value) : w.grownBy (w.setCell ⟨b, off, none⟩ v) (some b) :=
  ⟨rfl, rfl, rfl, by simp [World.setCell], fun k _ hk => Below.heap_setCell _ _ _ _ (fun e => hk (by simp only at e; rw [e]))⟩

theorem grownBy_trans {w1 w2 w3 : World} {r : Option Nat} (h : w1.grownBy w2 r) (h' : w2.grownBy w3 r) : w1.grownBy w3 r :=
  ⟨h'.os.trans h.os, h'.tape.trans h.tape, h'.output.trans h.output, Nat.le_trans h.size h'.size, fun k hk hne => (h'.block k (Nat.lt_of_lt_of_le hk h.size) hne).trans (h.block k hk hne)⟩

theorem HObj.setCells_sound {n b sl : Nat} (hF : ¬ F b) (hn : ρ n = some ⟨some b, sl⟩) : ∀ {xs : List AV} {vs : List Value} {off i : Nat} {ob ob' : HObj} {ps : List Prop} {w : World}, HR F w ρ n ob → ob.setCells (off + i) xs = some (ob', ps) → All ps → xs.all AV.one = true → ARL F w ρ xs vs → ob.live →
    ∃ w', (storeCells ⟨b, off, none⟩ vs i).run P w = .ok () w' ∧ HR F w' ρ n ob' ∧ w.grownBy w' (some b) ∧ ob'.live
  | [], vs, off, i, ob, ob', ps, w, hh, hc, _, _, hv, hl => by
    simp only [HObj.setCells, Option.some.injEq, Prod.mk.injEq] at hc
    obtain ⟨rfl, rfl⟩ := hc
    simp only [ARL] at hv; subst hv
    exact ⟨w, rfl, hh, World.grownBy.refl _ _, hl⟩
  | x :: xs, vs, off, i, ob, ob', ps, w, hh, hc, hp, h1, hv, hl => by
    simp only [HObj.setCells, Option.bind_eq_bind, Option.bind_eq_some_iff, Option.some.injEq, Prod.mk.injEq, Prod.exists] at hc
    obtain ⟨o1, p, hx, o2, qs, hr, rfl, rfl⟩ := hc
    rw [All_append] at hp
    simp only [List.all_cons, Bool.and_eq_true] at h1
    simp only [ARL] at hv
    obtain ⟨v, r, rfl, hv1, hv2⟩ := hv
    obtain ⟨c1, c2, c3, c4⟩ := HObj.setCell_sound hF hh hn hx hp.1 h1.1 hv1
    have hmono : ∀ k, F k → F k ∧ (w.setCell ⟨b, off + i, none⟩ v).heap[k]? = w.heap[k]? := fun k hk => ⟨hk, Below.heap_setCell _ _ _ _ (fun e => hF (by simp only at e; rw [← e]; exact hk))⟩
    obtain ⟨w', e1, e2, e3, e4⟩ := HObj.setCells_sound hF hn (i := i + 1) c3 hr hp.2 h1.2 (hv2.mono hmono (fun _ _ h => h)) c4
    refine ⟨w', ?_, e2, grownBy_trans (grownBy_setCell _ _ _ _) e3, e4⟩
    obtain ⟨u, hu⟩ := Option.isSome_iff_exists.1 c1
    have hst : (store ((⟨b, off, none⟩ : Addr).add i) v).run P w = .ok () (w.setCell ⟨b, off + i, none⟩ v) := by
      rw [Addr.add_lit, run_store P w _ v _ (hv1.one h1.1)]
      simp [hu, c2]
    simp only [storeCells, Sem.run_bind, hst, Result.andThen_ok, e1]

theorem sound_store {t : TypeId} {x y : Operand} {v : AV} {n off : Nat} {ti : TyI} {ob : HObj} {ps qs : List Prop} (G : Good P L E X w0 F w ρ h look fr a ev) (hop : o.op = .store t x y) (ht : E t = some ti) (hy : ev y = some v) (hx : ev x = some (.p n off))
    (hlen : (cellsOf v).length = ti.size) (h1 : (cellsOf v).all AV.one = true) (hc : (look n).setCells off (cellsOf v) = some (ob, ps)) (hp : All ps) (hl : (look n).live) :
    Sound P L X w0 F w ρ h fr a o ⟨.c undef, [(n, ob)], [], qs⟩ := by
  have hxa := G.ev _ _ hx
  simp only [AR] at hxa
  obtain ⟨b, sl, hn, hxa⟩ := hxa
  have hlk := G.look n hl
  have hl' : (h n).live := by rw [← hlk]; exact hl
  have hF : ¬ F b := G.mem.notF n b hl' (by simp [blkOf, hn])
  have hcs := (G.ev _ _ hy).cells h1
  obtain ⟨w', e1, e2, e3, e4⟩ := HObj.setCells_sound (P := P) hF hn (i := 0) (off := off) (by have := G.mem.heap n; rw [← hlk] at this; exact this) (by simpa using hc) hp h1 hcs hl
  have hsz : (a.eval y).cells.size = ti.size := by
    have := hcs.length
    rw [hlen] at this
    simpa using this
  have hr : (Instr.storeAt t (a.eval x) (a.eval y)).run P w = .ok () w' := by
    rw [hxa]
    simp [Instr.storeAt, Instr.sureAddr, storeVar, G.env.sizeOf ht, hsz, e1, Result.andThen]
  refine .skip (by simp only [execOp, hop]; simp [hr, Result.andThen]) (.set G.mem hl' hn e3 (fun _ => e2) (by simp [AR]))

theorem sound_extract {x : Operand} {i : Nat} {l : List AV} {y : AV} (G : Good P L E X w0 F w ρ h look fr a ev) (hop : o.op = .extract x i) (hx : ev x = some (.t l)) (hy : l[i]? = some y) : Sound P L X w0 F w ρ h fr a o ⟨y, [], [], []⟩ := by
  have hxa := G.ev _ _ hx
  simp only [AR] at hxa
  obtain ⟨vs, e, hv⟩ := hxa
  obtain ⟨u, hu, hr⟩ := hv.get i y hy
  refine .pure G (by simp only [execOp, hop]; exact run_v (v := u) (by rw [e]; simp only [Instr.extract, show vs[i]? = some u from by simpa using hu]; simp)) hr

theorem sound_fieldAddr {t : TypeId} {x : Operand} {i : Nat} {ti fi : TyI} {fs : List (Bool × Nat × Nat)} {f : Bool × Nat × Nat} {y z : AV} (G : Good P L E X w0 F w ρ h look fr a ev) (hop : o.op = .fieldAddr t x i) (ht : E t = some ti) (hti : ti.v = .struct fs) (hf : fs[i]? = some f)
    (hfi : E f.2.1 = some fi) (hfz : fi.size ≠ 0)
    (hx : ev x = some y) (hz : (∃ n off, y = .p n off ∧ z = .p n (off + f.2.2)) ∨ (∃ u off, y = .q u off ∧ z = .q u (off + f.2.2))) : Sound P L X w0 F w ρ h fr a o ⟨z, [], [], []⟩ := by
  obtain ⟨d, hu, hv⟩ := G.env.under ht
  rw [hti] at hv
  obtain ⟨af, rfl, rfl⟩ := view_struct hv
  have hxa := G.ev _ _ hx
  simp only [List.getElem?_map, Option.map_eq_some_iff] at hf
  obtain ⟨fd, hfd, rfl⟩ := hf
  have hfd' : af[i]? = some fd := by simpa using hfd
  have hs := G.env.sizeOf (w := w) hfi
  have hrun : ∀ A : Addr, a.eval x = .pointer (some A) → (Instr.fieldAt t (a.eval x) i).run P w = .ok (.pointer (some (A.add fd.offset))) w := by
    intro A e
    rw [e]
    simp [Instr.fieldAt, run_underlying hu, Instr.sureAddr, hfd', Result.andThen, fieldPlace, hs, hfz]
  rcases hz with ⟨n, off, rfl, rfl⟩ | ⟨u, off, rfl, rfl⟩
  · simp only [AR] at hxa
    obtain ⟨b, sl, hn, e⟩ := hxa
    refine .pure G (by simp only [execOp, hop]; exact run_v (hrun _ e)) ?_
    simp only [AR]
    exact ⟨b, sl, hn, by rw [Addr.add_lit]⟩
  · simp only [AR] at hxa
    obtain ⟨ad, len, cap, h1, e⟩ := hxa
    refine .pure G (by simp only [execOp, hop]; exact run_v (hrun _ e)) ?_
    simp only [AR]
    exact ⟨ad, len, cap, h1, by rw [Addr.add_add]⟩

theorem sound_field {t : TypeId} {x : Operand} {i : Nat} {ti fi : TyI} {fs : List (Bool × Nat × Nat)} {f : Bool × Nat × Nat} {l : List AV} {y : AV} {ps : List Prop} (G : Good P L E X w0 F w ρ h look fr a ev) (hop : o.op = .field t x i) (ht : E t = some ti) (hti : ti.v = .struct fs) (hf : fs[i]? = some f)
    (hfi : E f.2.1 = some fi) (hx : ev x = some (.a l)) (hz : (isAggV fi.v = true ∧ y = .a ((l.drop f.2.2).take fi.size) ∧ f.2.2 + fi.size ≤ l.length) ∨ (isAggV fi.v = false ∧ l[f.2.2]? = some y)) : Sound P L X w0 F w ρ h fr a o ⟨y, [], [], ps⟩ := by
  obtain ⟨d, hu, hv⟩ := G.env.under ht
  rw [hti] at hv
  obtain ⟨af, rfl, rfl⟩ := view_struct hv
  have hxa := G.ev _ _ hx
  simp only [List.getElem?_map, Option.map_eq_some_iff] at hf
  obtain ⟨fd, hfd, rfl⟩ := hf
  have hfd' : af[i]? = some fd := by simpa using hfd
  have hs := G.env.sizeOf (w := w) hfi
  have ha := G.env.isAgg (w := w) hfi
  simp only [AR] at hxa
  obtain ⟨vs, e, hl⟩ := hxa
  rcases hz with ⟨hv', rfl, _⟩ | ⟨hv', hy⟩
  · refine .pure G (v := .agg (vs.extract fd.offset (fd.offset + fi.size))) (by simp only [execOp, hop]; refine run_v ?_; rw [e]; simp [Instr.field, run_underlying hu, hfd', asAgg, part, ha, hv', hs, Result.andThen]) ?_
    simp only [AR]
    refine ⟨_, rfl, ?_⟩
    have := (hl.drop fd.offset).take fi.size
    simpa [Array.toList_extract, List.extract] using this
  · obtain ⟨u, hu', hr⟩ := hl.get _ _ hy
    have hu2 : vs[fd.offset]? = some u := by simpa using hu'
    exact .pure G (v := u) (by simp only [execOp, hop]; refine run_v ?_; rw [e]; simp [Instr.field, run_underlying hu, hfd', asAgg, part, ha, hv', hu2, Result.andThen]) hr

theorem sound_indexAddr {t : TypeId} {x i : Operand} {ti ei : TyI} {e : Nat} {y z : AV} {k : IntKind} {j : Int} {ps : List Prop} (G : Good P L E X w0 F w ρ h look fr a ev) (hop : o.op = .indexAddr t x i) (ht : E t = some ti) (hti : ti.v = .slice e) (hei : E e = some ei) (hx : ev x = some y) (hi : ev i = some (.c (.int k j)))
    (hz : (∃ n off len cap, (y = .s n off len cap ∨ y = .x n off len cap) ∧ z = .p n (off + j.toNat * ei.size) ∧ 0 ≤ j ∧ j < len) ∨ (∃ kk l, y = .ri kk l ∧ z = .q y (j.toNat * ei.size) ∧ 0 ≤ j ∧ j < l.length) ∨ (∃ sz l, y = .rr sz l ∧ z = .q y (j.toNat * ei.size) ∧ 0 ≤ j ∧ j < l.length ∧ l ≠ [] ))
    (hblk : ∀ n off len cap, (y = .s n off len cap ∨ y = .x n off len cap) → (look n).live ∧ (∀ e k, look n ≠ .oi e k []) ∧ (∀ e sz, look n ≠ .oo e sz [])) : Sound P L X w0 F w ρ h fr a o ⟨z, [], [], ps⟩ := by
  obtain ⟨d, hu, hv⟩ := G.env.under ht
  rw [hti] at hv
  obtain rfl := view_slice hv
  have hs := G.env.sizeOf (w := w) hei
  have hxa := G.ev _ _ hx
  have hia := G.ev _ _ hi
  simp only [AR] at hia
  have hrun : ∀ (A : Addr) (len cap : Nat), a.eval x = .slice (some A) len cap → 0 ≤ j → j < len → (Instr.indexAt t (a.eval x) (a.eval i)).run P w = .ok (.pointer (some (A.add (j.toNat * ei.size)))) w := by
    intro A len cap e1 h0 h1
    rw [e1, hia]
    simp [Instr.indexAt, run_underlying hu, asIntOf, h0, h1, hs, Result.andThen]
  rcases hz with ⟨n, off, len, cap, hy, rfl, h0, h1⟩ | ⟨kk, l, rfl, rfl, h0, h1⟩ | ⟨sz, l, rfl, rfl, h0, h1, _⟩
  · obtain ⟨hl, hne1, hne2⟩ := hblk n off len cap hy
    have : ∃ lo cap', ρ n = some lo ∧ a.eval x = .slice (lo.blk.map fun b => ⟨b, off, none⟩) len cap' := by
      rcases hy with rfl | rfl
      · simp only [AR] at hxa; obtain ⟨lo, h2, h3⟩ := hxa; exact ⟨lo, _, h2, h3⟩
      · simp only [AR] at hxa; obtain ⟨lo, h2, h3⟩ := hxa; exact ⟨lo, _, h2, h3⟩
    obtain ⟨lo, cap', h2, h3⟩ := this
    have hlk := G.look n hl
    have hh := G.mem.heap n
    rw [← hlk] at hh
    have hb : ∃ b, lo.blk = some b := by
      cases hx : look n with
      | dead => rw [hx] at hl; exact hl.elim
      | oi e' k' l' =>
        rw [hx] at hh
        obtain ⟨lo', h4, h5⟩ := hh
        rw [h2] at h4; obtain rfl := Option.some.inj h4
        cases hbl : lo.blk with
        | some b => exact ⟨b, rfl⟩
        | none =>
          rcases h5.2 with ⟨_, h6⟩ | ⟨g, cp, cur, h6, _⟩
          · have : l' = [] := List.eq_nil_of_length_eq_zero h6
            subst this; exact absurd hx (hne1 _ _)
          · simp [sliceOf, hbl] at h6
      | oo e' sz' l' =>
        rw [hx] at hh
        obtain ⟨lo', xs, h4, h5, _⟩ := hh
        rw [h2] at h4; obtain rfl := Option.some.inj h4
        cases hbl : lo.blk with
        | some b => exact ⟨b, rfl⟩
        | none =>
          rcases h5.2 with ⟨_, h6⟩ | ⟨g, cp, cur, h6, _⟩
          · have : l' = [] := List.eq_nil_of_length_eq_zero h6
            subst this; exact absurd hx (hne2 _ _)
          · simp [sliceOf, hbl] at h6
    obtain ⟨b, hb⟩ := hb
    rw [hb] at h3
    refine .pure G (by simp only [execOp, hop]; exact run_v (hrun _ _ _ h3 h0 h1)) ?_
    simp only [AR]
    obtain ⟨lb, ls⟩ := lo
    simp only at hb; subst hb
    exact ⟨b, ls, h2, by rw [Addr.add_lit]⟩
  · simp only [AR] at hxa
    obtain ⟨ao, cap, e1, e2, e3, e4, e5⟩ := hxa
    have hne : j.toNat < l.length := by omega
    obtain ⟨ad, had, _⟩ := e5 j.toNat _ (List.getElem?_eq_getElem hne)
    subst had
    refine .pure G (by simp only [execOp, hop]; exact run_v (hrun _ _ _ e1 h0 h1)) ?_
    simp only [AR]
    exact ⟨ad, l.length, cap, ⟨some ad, cap, rfl, e2, e3, e4, e5⟩, rfl⟩
  · simp only [AR] at hxa
    obtain ⟨ao, cap, e1, e2, e3, e4, e5⟩ := hxa
    have hne : j.toNat < l.length := by omega
    obtain ⟨ad, had, _⟩ := e5.get j.toNat _ (List.getElem?_eq_getElem hne)
    subst had
    refine .pure G (by simp only [execOp, hop]; exact run_v (hrun _ _ _ e1 h0 h1)) ?_
    simp only [AR]
    exact ⟨ad, l.length, cap, ⟨some ad, cap, rfl, e2, e3, e4, e5⟩, rfl⟩
end
end Go.Ev
