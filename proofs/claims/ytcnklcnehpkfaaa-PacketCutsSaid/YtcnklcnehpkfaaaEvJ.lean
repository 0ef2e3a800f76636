/-
  The executor is right, operation by operation (7): append, make, x[lo:hi].
-/
import Derived.Test.YtcnklcnehpkfaaaEvI
namespace Go.Ev
open Go Go.RowKit
set_option linter.unusedVariables false
set_option linter.unusedSimpArgs false

section
variable {P : Program} {L : Lay} {E : Env} {C : Tab} {X : Nat → Prop} {w0 : World} {F : Nat → Prop} {w : World} {ρ : Ren} {h look : Nat → HObj} {fr : Nat} {a : Act} {ev : Operand → Option AV} {o : Oper} {out : Out}

/-- A row as the laws on append take it. -/
def RowIs (F : Nat → Prop) (w : World) (ρ : Ren) (e sz : Nat) (v : Value) (n : Nat) : HObj → Prop
  | .oi e' k l => e' = e ∧ sz = 1 ∧ n = l.length ∧ w.ownsRow 0 e sz v n (l.map (Value.int k))
  | .oo e' sz' l => e' = e ∧ sz' = sz ∧ n = l.length ∧ (∃ xs, w.ownsRow 0 e sz v n xs ∧ ARL F w ρ l.flatten xs) ∧ ∀ c ∈ l, c.length = sz ∧ ∀ x ∈ c, x.one = true
  | .dead => False

theorem RowIs.hr {e sz n m : Nat} {v : Value} {ob : HObj} (hr : RowIs F w ρ e sz v n ob) {lo : Loc} (hv : v = sliceOf lo n) (hn : ρ m = some lo) : HR F w ρ m ob := by
  cases ob with
  | dead => exact hr.elim
  | oi e' k l =>
    obtain ⟨rfl, rfl, rfl, h4⟩ := hr
    exact ⟨lo, hn, by rw [← hv]; exact h4⟩
  | oo e' sz' l =>
    obtain ⟨rfl, rfl, rfl, ⟨xs, h4, h5⟩, h6⟩ := hr
    exact ⟨lo, xs, hn, by rw [← hv]; exact h4, h5, h6⟩

theorem RowIs.own {e sz n : Nat} {v : Value} {ob : HObj} (hr : RowIs F w ρ e sz v n ob) : ∃ xs, w.ownsRow 0 e sz v n xs := by
  cases ob with
  | dead => exact hr.elim
  | oi e' k l => exact ⟨_, hr.2.2.2⟩
  | oo e' sz' l => obtain ⟨xs, h, _⟩ := hr.2.2.2.1; exact ⟨xs, h⟩

theorem ARL.ints {k : IntKind} (l : List Int) : ARL F w ρ (l.map fun y => .c (.int k y)) (l.map (Value.int k)) := by
  have : (l.map fun y => AV.c (.int k y)) = (l.map (Value.int k)).map .c := by simp
  rw [this]; exact ARL.consts

/-- The joint row: what is owned behind the append. -/
theorem join_sound {e : TypeId} {ei : TyI} {t ty : TypeId} {v : Value} {n len cap : Nat} {dst src ob : HObj} {ao : Option Addr} (hE : EnvOK P E) (hu : P.underlying t = some (.slice e)) (hei : E e = some ei)
    (hd : ∀ sz, (sz = ei.size) → RowIs F w ρ e sz v n dst) (hs : Elems F w ρ ao len src) (hnone : ao = none → len = 0) (hj : joinA e ei dst src = some ob)
    (hb : (n + len) * ei.bytes ≤ 140737488355328) (h63 : n + len ≤ 9223372036854775807) :
    len = src.len ∧ ∃ v' w', (Builtin.append_ #[t, t] ty #[v, .slice ao len cap]).run P w = .ok v' w' ∧ w.grownBy w' v.ownBlock ∧ (∀ g, v'.ownBlock = some g → w.heap.size ≤ g ∨ v.ownBlock = some g) ∧
      ∀ F' ρ', (∀ b, F b → F' b ∧ w'.heap[b]? = w.heap[b]?) → (∀ n lo, ρ n = some lo → ρ' n = some lo) → RowIs F' w' ρ' e ei.size v' (n + len) ob := by
  have hd := hd _ rfl
  have h63' : n + len ≤ maxLen := by unfold maxLen; omega
  have recs : ∀ {e' sz sz' e2 : Nat} {l0 l : List (List AV)}, dst = .oo e' sz l0 → src = .oo e2 sz' l → (sz' = sz ∨ l = []) → 0 < ei.size → ob = .oo e ei.size (l0 ++ l) →
      len = src.len ∧ ∃ v' w', (Builtin.append_ #[t, t] ty #[v, .slice ao len cap]).run P w = .ok v' w' ∧ w.grownBy w' v.ownBlock ∧ (∀ g, v'.ownBlock = some g → w.heap.size ≤ g ∨ v.ownBlock = some g) ∧
      ∀ F' ρ', (∀ b, F b → F' b ∧ w'.heap[b]? = w.heap[b]?) → (∀ n lo, ρ n = some lo → ρ' n = some lo) → RowIs F' w' ρ' e ei.size v' (n + len) ob := by
    intro e' sz sz' e2 l0 l e1 e3 hsz hpos hob
    subst e1; subst e3; subst hob
    obtain ⟨rfl, rfl, hn, ⟨xs, hown, hxs⟩, hl0⟩ := hd
    obtain ⟨hlen, hl, _, us, hus, hcell⟩ := hs
    have hl' : ∀ c ∈ l, c.length = ei.size ∧ ∀ x ∈ c, x.one = true := by
      rcases hsz with rfl | rfl
      · exact hl
      · simp
    have hul : us.length = len * ei.size := by rw [hus.length, flatten_length fun c hc => (hl' c hc).1, hlen]
    obtain ⟨v', w', r1, r2, r3, r4⟩ := append_run (P := P) (ty := ty) (cap := cap) (m := len) hE hu hei hpos hown hul (ao := ao) hcell
      (hus.one (List.all_eq_true.2 fun x hx => by obtain ⟨c, hc, hx⟩ := List.mem_flatten.1 hx; exact (hl' c hc).2 x hx)) hnone h63' hb
    refine ⟨hlen, v', w', r1, r3, r4, fun F' ρ' hF hρ => ⟨rfl, rfl, by simp; omega, ⟨xs ++ us, r2, ?_⟩, fun c hc => ?_⟩⟩
    · rw [List.flatten_append]; exact (hxs.mono hF hρ).append (hus.mono hF hρ)
    · rcases List.mem_append.1 hc with hc | hc
      · exact hl0 c hc
      · exact hl' c hc
  have ints : ∀ {e' k e2 : Nat} {kk : IntKind} {l0 l : List Int}, dst = .oi e' kk l0 → (src = .oi e2 kk l ∨ (src = .oo k 0 [] ∧ l = [])) → ei.size = 1 → ob = .oi e kk (l0 ++ l) →
      len = src.len ∧ ∃ v' w', (Builtin.append_ #[t, t] ty #[v, .slice ao len cap]).run P w = .ok v' w' ∧ w.grownBy w' v.ownBlock ∧ (∀ g, v'.ownBlock = some g → w.heap.size ≤ g ∨ v.ownBlock = some g) ∧
      ∀ F' ρ', (∀ b, F b → F' b ∧ w'.heap[b]? = w.heap[b]?) → (∀ n lo, ρ n = some lo → ρ' n = some lo) → RowIs F' w' ρ' e ei.size v' (n + len) ob := by
    intro e' k e2 kk l0 l e1 e3 hsz hob
    subst e1; subst hob
    obtain ⟨rfl, _, hn, hown⟩ := hd
    have hl : len = l.length ∧ len = src.len ∧ ∀ A, ao = some A → ∀ (j : Nat) (u : Value), (l.map (Value.int kk))[j]? = some u → w.cell? (A.add j) = some u := by
      rcases e3 with rfl | ⟨rfl, rfl⟩
      · exact ⟨hs.1, hs.1, hs.2⟩
      · exact ⟨hs.1, hs.1, by simp⟩
    obtain ⟨hlen, hlen', hcell⟩ := hl
    obtain ⟨v', w', r1, r2, r3, r4⟩ := append_run (P := P) (ty := ty) (cap := cap) (m := len) hE hu hei (by omega) hown (news := l.map (Value.int kk)) (by simp [hlen, hsz]) (ao := ao) hcell
      (by intro u hu; obtain ⟨x, _, rfl⟩ := List.mem_map.1 hu; rfl) hnone h63' hb
    exact ⟨hlen', v', w', r1, r3, r4, fun F' ρ' hF hρ => ⟨rfl, hsz, by simp; omega, by rw [List.map_append]; exact r2⟩⟩
  unfold joinA at hj
  split at hj
  · split at hj
    · rename_i hk
      simp only [Option.some.injEq] at hj
      obtain ⟨rfl, rfl, hs1⟩ := hk
      exact ints (k := 0) rfl (.inl rfl) hs1 hj.symm
    · cases hj
  · split at hj
    · rename_i hk
      simp only [Option.some.injEq] at hj
      exact ints (e2 := 0) (l := []) rfl (.inr ⟨rfl, rfl⟩) hk.2 (by rw [List.append_nil, ← hj])
    · cases hj
  · split at hj
    · rename_i hk
      simp only [Option.some.injEq] at hj
      exact recs rfl rfl (.inr rfl) (by omega) (by rw [List.append_nil, ← hj, hk.2.1])
    · cases hj
  · split at hj
    · rename_i hk
      simp only [Option.some.injEq] at hj
      exact recs rfl rfl (.inl hk.1.symm) (by omega) (by rw [← hj, hk.2.2.1])
    · cases hj
  · cases hj

theorem joinA_size {e e' : TypeId} {ei : TyI} {k : IntKind} {l : List Int} {src ob : HObj} (hj : joinA e ei (.oi e' k l) src = some ob) : ei.size = 1 := by
  unfold joinA at hj
  split at hj <;> first | contradiction | (split at hj <;> first | (simp_all; done) | (simp_all; omega))
theorem joinA_elem {e e' : TypeId} {ei : TyI} {k : IntKind} {l : List Int} {src ob : HObj} (hj : joinA e ei (.oi e' k l) src = some ob) : e' = e := by
  unfold joinA at hj
  split at hj <;> first | contradiction | (split at hj <;> first | (simp_all; done) | (simp_all; omega))
theorem joinA_elem' {e e' sz : Nat} {ei : TyI} {l : List (List AV)} {src ob : HObj} (hj : joinA e ei (.oo e' sz l) src = some ob) : e' = e ∧ sz = ei.size := by
  unfold joinA at hj
  split at hj <;> first | contradiction | (split at hj <;> first | (simp_all; done) | (simp_all; omega))

theorem live_HR (G : Good P L E X w0 F w ρ h look fr a ev) {n : Nat} (hl : (look n).live) : (h n).live ∧ HR F w ρ n (look n) := by
  have := G.look n hl
  exact ⟨by rw [← this]; exact hl, by rw [this]; exact G.mem.heap n⟩

theorem sound_append {t : TypeId} {s x : Operand} {sv xv : AV} {ob : Out} (G : Good P L E X w0 F w ρ h look fr a ev) (hfr : ρ fr = none) (hop : o.op = .call { callee := .builtin .append, args := #[s, x], argTypes := #[t, t] })
    (hs : ev s = some sv) (hx : ev x = some xv) (happ : appendA E look fr t sv xv = some ob) (hp : All ob.os) : Sound P L X w0 F w ρ h fr a o ob := by
  simp only [appendA, Option.bind_eq_bind, Option.bind_eq_some_iff] at happ
  obtain ⟨ti, ht, happ⟩ := happ
  split at happ
  · rename_i e hti
    simp only [Option.bind_eq_some_iff, Prod.exists, Option.some.injEq] at happ
    obtain ⟨ei, hei, src, ps, hsrc, dst, dead, len, qs, hdst, jo, hj, rfl⟩ := happ
    simp only [All, List.cons_append, All_append] at hp
    obtain ⟨hb, h63, hqs, hps⟩ := hp
    obtain ⟨d, hu, hv⟩ := G.env.under ht
    rw [hti] at hv
    obtain rfl := view_slice hv
    obtain ⟨ao, m, cap, ex, hnone, hel⟩ := elemsA_sound G (G.ev _ _ hx) hsrc hps
    have hsa := G.ev _ _ hs
    have hexec : ∀ {v' : Value} {w' : World}, (Builtin.append_ #[t, t] o.type #[a.eval s, .slice ao m cap]).run P w = .ok v' w' → (execOp a.eval o).run P w = .ok (.value v') w' := by
      intro v' w' hr
      simp [execOp, hop, resolve, invoke, builtin, ex, hr, Result.andThen]
    have hm : m = src.len := by cases src <;> first | exact hel.1 | exact hel.elim
    unfold destA at hdst
    split at hdst
    · simp only [Option.some.injEq, Prod.mk.injEq] at hdst
      obtain ⟨rfl, rfl, rfl, rfl⟩ := hdst
      simp only [AR] at hsa
      have hrow : RowIs F w ρ e ei.size (.slice none 0 0) 0 (match ei.v with | .int k => .oi e k [] | _ => .oo e ei.size []) := by
        split
        · rename_i k hk
          simp only [hk] at hj
          exact ⟨rfl, joinA_size hj, rfl, by simpa using World.ownsRow_nil w 0 e ei.size⟩
        · exact ⟨rfl, rfl, rfl, ⟨[], World.ownsRow_nil w 0 e ei.size, by simp [ARL]⟩, by simp⟩
      rw [← hm] at hb h63
      obtain ⟨_, v', w', r1, r2, r3, r4⟩ := join_sound (ty := o.type) (cap := cap) G.env hu hei (fun sz hsz => by rw [hsz]; exact hrow) hel hnone hj hb h63
      obtain ⟨xs, hown'⟩ := (r4 F ρ (fun b hb => ⟨hb, r2.block b (G.mem.bound b hb) (by simp [Value.ownBlock])⟩) (fun _ _ h => h)).own
      obtain ⟨lo, hlo, hblk⟩ := own_loc hown'
      refine .value (hexec (by rw [hsa]; exact r1)) (.new (lo := lo) G.mem hfr r2 (fun b hb => ?_) (fun ρ' hF hρ h3 => (r4 F ρ' hF hρ).hr hlo h3) (fun ρ' h3 => ?_))
      · rcases r3 b (by rw [hblk]; exact hb) with h | h
        · exact h
        · simp [Value.ownBlock] at h
      · rw [← hm, hlo]; exact AR.slice_of h3
    · rename_i n len0 cap0
      simp only [Option.some.injEq, Prod.mk.injEq] at hdst
      obtain ⟨rfl, rfl, rfl, rfl⟩ := hdst
      simp only [All, and_true] at hqs
      obtain ⟨hq1, hq2⟩ := hqs
      subst hq2
      simp only [AR] at hsa
      obtain ⟨lo0, hn, hsv⟩ := hsa
      have hl : (look n).live := by
        cases hx : look n with
        | dead => rw [hx] at hj; simp [joinA] at hj
        | oi _ _ _ => trivial
        | oo _ _ _ => trivial
      obtain ⟨hlh, hHR⟩ := live_HR G hl
      have hsv' : a.eval s = sliceOf lo0 cap0 := hsv
      have hrow : RowIs F w ρ e ei.size (sliceOf lo0 cap0) cap0 (look n) := by
        cases hx : look n with
        | dead => rw [hx] at hl; exact hl.elim
        | oi e' k l =>
          rw [hx] at hHR hj hq1
          obtain ⟨lo', h1, h2⟩ := hHR
          rw [hn] at h1; obtain rfl := Option.some.inj h1
          simp only [HObj.len] at hq1
          have hsz := joinA_size hj
          have he := joinA_elem hj
          subst he
          refine ⟨rfl, hsz, hq1, ?_⟩
          rw [hq1, hsz]; exact h2
        | oo e' sz l =>
          rw [hx] at hHR hj hq1
          obtain ⟨lo', xs, h1, h2, h3, h4⟩ := hHR
          rw [hn] at h1; obtain rfl := Option.some.inj h1
          simp only [HObj.len] at hq1
          obtain ⟨rfl, rfl⟩ := joinA_elem' hj
          refine ⟨rfl, rfl, hq1, ⟨xs, ?_, h3⟩, h4⟩
          rw [hq1]; exact h2
      rw [← hm] at hb h63
      obtain ⟨_, v', w', r1, r2, r3, r4⟩ := join_sound (ty := o.type) (cap := cap) G.env hu hei (fun sz hsz => by rw [hsz]; exact hrow) hel hnone hj hb h63
      rw [ownBlock_sliceOf] at r2 r3
      have hnF : ∀ b, F b → F b ∧ w'.heap[b]? = w.heap[b]? := fun b hb => ⟨hb, r2.block b (G.mem.bound b hb) fun e => G.mem.notF n b hlh (by simp [blkOf, hn, ← e]) hb⟩
      obtain ⟨xs, hown'⟩ := (r4 F ρ hnF (fun _ _ h => h)).own
      obtain ⟨lo, hlo, hblk⟩ := own_loc hown'
      refine .value (hexec (by rw [hsv']; exact r1)) (.turn (lo' := lo) G.mem hfr hlh hn r2 (fun b hb => r3 b (by rw [hblk]; exact hb)) (fun ρ' hF hρ h3 => (r4 F ρ' hF hρ).hr hlo h3) (fun ρ' h3 => ?_))
      rw [← hm, hlo]; exact AR.slice_of h3
    · cases hdst
  · cases happ

theorem zeros_ints {k : IntKind} {z : Array Value} (hz : z.toList = [.int k 0]) (m : Nat) : (Builtin.zeroCells z m).toList = (List.replicate m (0 : Int)).map (Value.int k) := by
  obtain rfl : z = #[.int k 0] := Array.ext' hz
  apply List.ext_getElem
  · simp [Builtin.zeroCells]
  · intro i h1 h2
    have : i % 1 = 0 := Nat.mod_one i
    simp [Builtin.zeroCells, this]

theorem append_runz (hE : EnvOK P E) {t tn e : TypeId} {ei : TyI} {n m : Nat} {k kn kv : IntKind} {v : Value} {xs : List Value} {ty : TypeId} (hu : P.underlying t = some (.slice e)) (hun : P.underlying tn = some (.int kn)) (hei : E e = some ei) (hsz : ei.size = 1) (hz0 : ei.zero = [.int k 0])
    (hown : w.ownsRow 0 e 1 v n xs) (h63 : n + m ≤ maxLen) (hb : (n + m) * ei.bytes ≤ 140737488355328) :
    ∃ v' w', (Builtin.append_ #[t, tn] ty #[v, .int kv m]).run P w = .ok v' w' ∧ w'.ownsRow 0 e 1 v' (n + m) (xs ++ (List.replicate m (0 : Int)).map (Value.int k)) ∧ w.grownBy w' v.ownBlock ∧ (∀ g, v'.ownBlock = some g → w.heap.size ≤ g ∨ v.ownBlock = some g) := by
  obtain ⟨i, z, hi, hs, hby, hz, hzc⟩ := (hE e ei hei).2.1
  have hzc' : z.cells.toList = [.int k 0] := by rw [hzc, hz0]
  have hzl : z.cells.size = 1 := by rw [← Array.length_toList, hzc']; rfl
  have hnews := zeros_ints hzc' m
  have hsmall : n + m ≤ 9223372036854775807 := by simp only [maxLen] at h63; omega
  have hw : IntKind.i64.wrap (m : Int) = m := by rw [IntKind.wrap_i64]; omega
  have hneg : ¬ ((m : Int) < 0) := by omega
  have hs1 : i.size = 1 := by rw [hs, hsz]
  have hmb : m * i.bytes ≤ (n + m) * ei.bytes := by rw [hby]; exact Nat.mul_le_mul_right _ (by omega)
  have h48i : ¬ (281474976710656 < (m : Int) * (i.bytes : Int)) := by rw [← Int.natCast_mul]; omega
  have hap : ∀ w : World, ((if m * i.size = 0 then pure #[] else pure (Builtin.zeroCells z.cells m)) : Sem (Array Value)).run P w = .ok ((List.replicate m (0 : Int)).map (Value.int k)).toArray w := by
    intro w
    split
    · rename_i h
      have : m = 0 := by rw [hs1] at h; omega
      subst this
      rfl
    · rw [Sem.run_pure]; congr 1; rw [← hnews]
  have hlen : (xs ++ (List.replicate m (0 : Int)).map (Value.int k)).length = (n + m) * 1 := by have := hown.1; simp; omega
  by_cases hm : m = 0
  · subst hm
    refine ⟨v, w, ?_, by simpa using hown, World.grownBy.refl _ _, fun g hg => .inr hg⟩
    rcases hown.2 with ⟨rfl, rfl⟩ | ⟨g, cp, cur, rfl, _, _, hnc, _⟩
    · simp [Builtin.append_, run_underlying hu, run_underlying hun, Go.sizeOf, typeInfo, hi, asInt, asIntOf, IntKind.wrap_i64]
    · simp [Builtin.append_, run_underlying hu, run_underlying hun, Go.sizeOf, typeInfo, hi, asInt, asIntOf, IntKind.wrap_i64, hnc, storeCells]
  · have hns : ¬ (m * i.size = 0) := by rw [hs1]; omega
    have hsz0 : i.size ≠ 0 := by omega
    rcases hown.2 with ⟨rfl, rfl⟩ | ⟨g, cp, cur, rfl, hg0, hg, hnc, hcm, hcs, htake⟩
    · have hx0 : xs = [] := List.eq_nil_of_length_eq_zero (by have := hown.1; simpa using this)
      subst hx0
      have h48' : ¬ (281474976710656 < Builtin.nextslicecap m 0 * i.bytes) := by rw [nextslicecap_zero (by omega)]; omega
      have h63' : ¬ (9223372036854775807 < (m : Int)) := by omega
      have hge := grownCap_ge w m 0 e
      have hcm := grownCap_le_maxLen w m 0 e (by omega)
      refine ⟨.slice (some ⟨w.heap.size, 0, none⟩) m (grownCap w m 0 e), w.drew.alloc (.cells (Builtin.zeroCells z.cells m ++ Builtin.zeroCells z.cells (grownCap w m 0 e - m)) e), ?_, ⟨hlen, .inr ⟨w.heap.size, grownCap w m 0 e, Builtin.zeroCells z.cells m ++ Builtin.zeroCells z.cells (grownCap w m 0 e - m), by rw [Nat.zero_add], Nat.zero_le _, heap_alloc_new w.drew _, by omega, hcm, ?_, ?_⟩⟩, ⟨rfl, rfl, rfl, by simp, fun k hk _ => (World.grownBy_alloc w.drew _ none).block k hk (by simp)⟩, fun g hg => .inl (by simp [Value.ownBlock] at hg; omega)⟩
      · simp [Builtin.append_, run_underlying hu, run_underlying hun, sizeOf, typeInfo, zeroValue, hi, hz, asInt, asIntOf, hw, hm, hneg, hns, hsz0, h63', h48', h48i, Question.forced, run_firstCells_none, newRow, grownCap]
      · simp only [Array.size_append, size_zeroCells, hzl]; omega
      · rw [Array.toList_append, hnews, List.nil_append, Nat.zero_add, Nat.mul_one, List.take_left' (by simp)]
    · by_cases hroom : n + m ≤ cp
      · have hone : ∀ u ∈ (Builtin.zeroCells z.cells m).toList, u.oneCell' = true := by
          rw [hnews]; intro u hu; obtain ⟨x, _, rfl⟩ := List.mem_map.1 hu; rfl
        have hst := run_storeCells_at P g (n * i.size) e (Builtin.zeroCells z.cells m).toList 0 cur w hg (by rw [hnews, hs1]; simp; omega) hone
        simp only [Nat.add_zero] at hst
        refine ⟨.slice (some ⟨g, 0, none⟩) (n + m) cp, w.setRow g (cur.toList.take (n * i.size) ++ (Builtin.zeroCells z.cells m).toList ++ cur.toList.drop (n * i.size + (Builtin.zeroCells z.cells m).toList.length)).toArray, ?_, ⟨hlen, .inr ⟨g, cp, _, rfl, hg0, setRow_heap w g cur _ e _ hg, hroom, hcm, ?_, ?_⟩⟩, ⟨rfl, rfl, rfl, by simp, fun k _ hk => setRow_other w g k _ (fun e => hk (by simp [Value.ownBlock, e]))⟩, fun g' hg' => .inr (by simpa [Value.ownBlock] using hg')⟩
        · simp [Builtin.append_, run_underlying hu, run_underlying hun, sizeOf, typeInfo, zeroValue, hi, hz, asInt, asIntOf, hw, hneg, hns, hsz0, hm, h48i, hroom, Addr.add_lit] at hst ⊢
          simp [hst]
        · rw [hnews, hs1]
          simp only [List.size_toArray, List.length_append, List.length_take, List.length_drop, Array.length_toList, List.length_map, List.length_replicate]
          omega
        · rw [hs1, htake, hnews, ← hlen]
          exact List.take_left
      · have holds : ∀ j u, xs[j]? = some u → w.drew.cell? ((⟨g, 0, none⟩ : Addr).add j) = some u := by simpa using hown.cells (g := g) rfl
        have hfo := run_firstCells_some (P := P) w.drew i.size n ⟨g, 0, none⟩ n cp xs (by rw [hs1]; exact hown.1) holds
        have h63' : ¬ (9223372036854775807 < ((n : Int) + (m : Int))) := by omega
        have h48' : ¬ (281474976710656 < Builtin.nextslicecap (n + m) cp * i.bytes) := by
          have := growslice_fits (bytes := i.bytes) (show cp < n + m by omega) (by rw [hby]; exact hb)
          omega
        have hge := grownCap_ge w (n + m) cp e
        have hcm' := grownCap_le_maxLen w (n + m) cp e h63
        refine ⟨.slice (some ⟨w.heap.size, 0, none⟩) (n + m) (grownCap w (n + m) cp e), w.drew.alloc (.cells (xs.toArray ++ Builtin.zeroCells z.cells m ++ Builtin.zeroCells z.cells (grownCap w (n + m) cp e - (n + m))) e), ?_, ⟨hlen, .inr ⟨w.heap.size, _, _, rfl, Nat.zero_le _, heap_alloc_new w.drew _, hge, hcm', ?_, ?_⟩⟩, ⟨rfl, rfl, rfl, by simp, fun k hk _ => (World.grownBy_alloc w.drew _ none).block k hk (by simp)⟩, fun g hg => .inl (by simp [Value.ownBlock] at hg; omega)⟩
        · simp [Builtin.append_, run_underlying hu, run_underlying hun, sizeOf, typeInfo, zeroValue, hi, hz, asInt, asIntOf, hw, hneg, hns, hsz0, hm, h48i, hroom, h63', h48', Question.forced, hfo, newRow, grownCap]
        · have := hown.1
          simp only [Array.size_append, List.size_toArray, size_zeroCells, hzl]; omega
        · rw [Array.toList_append, Array.toList_append, hnews, ← hlen]
          exact List.take_left

theorem sound_appendz {t tn : TypeId} {s x : Operand} {sv xv : AV} {ob : Out} (G : Good P L E X w0 F w ρ h look fr a ev) (hfr : ob.news.length = 1 → ρ fr = none) (hop : o.op = .call { callee := .builtin .append, args := #[s, x], argTypes := #[t, tn] })
    (hs : ev s = some sv) (hx : ev x = some xv) (happ : appendZ E look fr t tn sv xv = some ob) (hp : All ob.os) : Sound P L X w0 F w ρ h fr a o ob := by
  simp only [appendZ, Option.bind_eq_bind, Option.bind_eq_some_iff] at happ
  obtain ⟨ti, ht, ni, hni, happ⟩ := happ
  split at happ
  · rename_i e kn kv nn hti hniv
    simp only [Option.bind_eq_some_iff] at happ
    obtain ⟨ei, hei, happ⟩ := happ
    split at happ
    · rename_i k hk
      simp only [Option.bind_eq_some_iff, Prod.exists, Option.some.injEq] at happ
      obtain ⟨dst, dead, len, qs, hdst, jo, hj, rfl⟩ := happ
      have hfr' := hfr rfl
      simp only [All] at hp
      obtain ⟨h0, hsz, hz0, hb, h63, hqs⟩ := hp
      obtain ⟨m, rfl⟩ : ∃ m : Nat, nn = m := ⟨nn.toNat, by omega⟩
      simp only [Int.toNat_natCast] at hb h63 hj ⊢
      obtain ⟨d, hu, hv⟩ := G.env.under ht
      rw [hti] at hv
      obtain rfl := view_slice hv
      obtain ⟨dn, hun, hvn⟩ := G.env.under hni
      rw [hniv] at hvn
      obtain rfl := view_int hvn
      have hsa := G.ev _ _ hs
      have hxa := G.ev _ _ hx
      simp only [AR] at hxa
      have h63' : len + m ≤ maxLen := by unfold maxLen; omega
      have hexec : ∀ {v' : Value} {w' : World}, (Builtin.append_ #[t, tn] o.type #[a.eval s, .int kv m]).run P w = .ok v' w' → (execOp a.eval o).run P w = .ok (.value v') w' := by
        intro v' w' hr
        simp [execOp, hop, resolve, invoke, builtin, hxa, hr, Result.andThen]
      obtain ⟨e', l0, rfl⟩ : ∃ e' l0, dst = .oi e' k l0 := by
        cases dst with
        | dead => simp [joinA] at hj
        | oi e' k' l0 =>
          simp only [joinA] at hj
          split at hj
          · rename_i hk'; exact ⟨e', l0, by rw [hk'.1]⟩
          · cases hj
        | oo e' sz l0 => simp [joinA] at hj
      have he := joinA_elem hj
      subst he
      have hjo : jo = .oi e' k (l0 ++ List.replicate m 0) := by
        simp only [joinA] at hj
        split at hj
        · exact (Option.some.inj hj).symm
        · cases hj
      subst hjo
      unfold destA at hdst
      split at hdst
      · rw [hk] at hdst
        simp only [Option.some.injEq, Prod.mk.injEq, HObj.oi.injEq] at hdst
        obtain ⟨⟨_, _, rfl⟩, rfl, rfl, rfl⟩ := hdst
        simp only [AR] at hsa
        obtain ⟨v', w', r1, r2, r3, r4⟩ := append_runz (w := w) (m := m) (kv := kv) (ty := o.type) G.env hu hun hei hsz hz0 (World.ownsRow_nil w 0 e' 1) h63' hb
        obtain ⟨lo, hlo, hblk⟩ := own_loc r2
        refine .value (hexec (by rw [hsa]; exact r1)) (.new (lo := lo) G.mem hfr' r3 (fun b hb => ?_) (fun ρ' hF hρ h3 => ⟨lo, h3, ?_⟩) (fun ρ' h3 => ?_))
        · rcases r4 b (by rw [hblk]; exact hb) with h | h
          · exact h
          · simp [Value.ownBlock] at h
        · rw [show (([] : List Int) ++ List.replicate m (0 : Int)).length = 0 + m from by simp, ← hlo]; simpa using r2
        · rw [hlo]; exact AR.slice_of h3
      · rename_i n len0 cap0
        simp only [Option.some.injEq, Prod.mk.injEq] at hdst
        obtain ⟨hlook, rfl, rfl, rfl⟩ := hdst
        simp only [All, and_true] at hqs
        obtain ⟨hq1, hq2⟩ := hqs
        subst hq2
        simp only [AR] at hsa
        obtain ⟨lo0, hn, hsv⟩ := hsa
        have hl : (look n).live := by rw [hlook]; trivial
        obtain ⟨hlh, hHR⟩ := live_HR G hl
        have hsv' : a.eval s = sliceOf lo0 cap0 := hsv
        rw [hlook] at hHR hq1
        obtain ⟨lo', h1, h2⟩ := hHR
        rw [hn] at h1; obtain rfl := Option.some.inj h1
        simp only [HObj.len] at hq1
        have hown : w.ownsRow 0 e' 1 (sliceOf lo0 cap0) cap0 (l0.map (Value.int k)) := by rw [hq1]; exact h2
        obtain ⟨v', w', r1, r2, r3, r4⟩ := append_runz (w := w) (m := m) (kv := kv) (ty := o.type) G.env hu hun hei hsz hz0 hown h63' hb
        rw [ownBlock_sliceOf] at r3 r4
        obtain ⟨lo, hlo, hblk⟩ := own_loc r2
        refine .value (hexec (by rw [hsv']; exact r1)) (.turn (lo' := lo) G.mem hfr' hlh hn r3 (fun b hb => r4 b (by rw [hblk]; exact hb)) (fun ρ' hF hρ h3 => ⟨lo, h3, ?_⟩) (fun ρ' h3 => ?_))
        · rw [show (l0 ++ List.replicate m (0 : Int)).length = cap0 + m from by simp; omega, ← hlo, List.map_append]; exact r2
        · rw [hlo]; exact AR.slice_of h3
      · cases hdst
    · cases happ
  · cases happ

theorem run_makeSlice' {t e : TypeId} {ti ei : TyI} (hE : EnvOK P E) (ht : E t = some ti) (hti : ti.v = .slice e) (hei : E e = some ei) {kl kc : IntKind} {l c : Int} (h0 : 0 ≤ l) (h1 : l ≤ c) (hb : ei.bytes * c ≤ 281474976710656) (h63 : c ≤ 9223372036854775807) :
    ∃ cur : Array Value, (Instr.makeSlice t (.int kl l) (.int kc c)).run P w = .ok (.slice (some ⟨w.heap.size, 0, none⟩) l.toNat c.toNat) (w.alloc (.cells cur e)) ∧ cur.size = c.toNat * ei.size ∧ cur.toList.take (l.toNat * ei.size) = (List.replicate l.toNat ei.zero).flatten := by
  obtain ⟨d, hu, hv⟩ := hE.under ht
  rw [hti] at hv
  obtain rfl := view_slice hv
  obtain ⟨i, z, hi, hs, hby, hz, hzc⟩ := (hE e ei hei).2.1
  have hzl : z.cells.size = ei.size := by rw [← (hE e ei hei).2.2.1, ← hzc]; simp
  have r := run_make (P := P) w t e i z hu hi hz kl kc l c h0 h1 (by rw [hby]; exact hb) h63
  rw [hs] at r
  refine ⟨_, r, size_madeCells _ _, ?_⟩
  rw [← hzl, madeCells_list, hzc, ← List.take_append_drop l.toNat (List.replicate c.toNat ei.zero)]
  have hlc : l.toNat ≤ c.toNat := by omega
  rw [List.take_replicate, Nat.min_eq_left hlc, List.flatten_append, List.take_left' (by simp [List.length_flatten, ← hzc])]

theorem sound_makeSlice {t e : TypeId} {lo co : Operand} {kl kc : IntKind} {l c : Int} {ti ei : TyI} {ob : HObj} {os : List Prop} (G : Good P L E X w0 F w ρ h look fr a ev) (hfr : ρ fr = none) (hop : o.op = .makeSlice t lo co) (ht : E t = some ti) (hti : ti.v = .slice e) (hei : E e = some ei)
    (hl : ev lo = some (.c (.int kl l))) (hc : ev co = some (.c (.int kc c))) (h0 : 0 ≤ l) (h1 : l ≤ c) (hb : ei.bytes * c ≤ 281474976710656) (h63 : c ≤ 9223372036854775807)
    (hob : (∃ k, ob = .oi e k (List.replicate l.toNat 0) ∧ ei.size = 1 ∧ ei.zero = [.int k 0]) ∨ ob = .oo e ei.size (List.replicate l.toNat (ei.zero.map .c))) :
    Sound P L X w0 F w ρ h fr a o ⟨.s fr 0 l.toNat l.toNat, [], [ob], os⟩ := by
  have hla := G.ev _ _ hl
  have hca := G.ev _ _ hc
  simp only [AR] at hla hca
  obtain ⟨cur, hr, hcs, htake⟩ := run_makeSlice' (w := w) (kl := kl) (kc := kc) G.env ht hti hei h0 h1 hb h63
  obtain ⟨_, _, hzl, hone, _⟩ := G.env e ei hei
  have hex : (execOp a.eval o).run P w = .ok (.value (.slice (some ⟨w.heap.size, 0, none⟩) l.toNat c.toNat)) (w.alloc (.cells cur e)) := by
    simp only [execOp, hop]; refine run_v ?_; rw [hla, hca]; exact hr
  have hown : (w.alloc (.cells cur e)).ownsRow 0 e ei.size (sliceOf ⟨some w.heap.size, c.toNat - l.toNat⟩ l.toNat) l.toNat (List.replicate l.toNat ei.zero).flatten := by
    refine ⟨by simp [List.length_flatten, hzl], .inr ⟨w.heap.size, c.toNat, cur, ?_, Nat.zero_le _, heap_alloc_new w _, by omega, by unfold maxLen; omega, hcs, htake⟩⟩
    simp only [sliceOf, Option.map_some, Value.slice.injEq, true_and]; omega
  refine .value hex (.new (lo := ⟨some w.heap.size, c.toNat - l.toNat⟩) G.mem hfr (World.grownBy_alloc w _ none) (fun b hb => by simp at hb; omega) (fun ρ' hF hρ h3 => ?_) (fun ρ' h3 => ?_))
  · rcases hob with ⟨k, rfl, hs1, hz⟩ | rfl
    · refine ⟨_, h3, ?_⟩
      rw [hs1, hz] at hown
      have e1 : (List.replicate l.toNat [Value.int k 0]).flatten = (List.replicate l.toNat (0 : Int)).map (Value.int k) := by
        rw [List.map_replicate]
        induction l.toNat with
        | zero => rfl
        | succ n ih => simp [List.replicate_succ, ih]
      rw [e1] at hown
      simpa using hown
    · refine ⟨_, _, h3, by simpa using hown, ?_, fun c hc => ?_⟩
      · have : (List.replicate l.toNat (ei.zero.map AV.c)).flatten = ((List.replicate l.toNat ei.zero).flatten).map AV.c := by
          rw [List.map_flatten, List.map_replicate]
        rw [this]; exact ARL.consts
      · obtain ⟨_, rfl⟩ := List.mem_replicate.1 hc
        refine ⟨by simp [hzl], fun x hx => ?_⟩
        obtain ⟨v, hv, rfl⟩ := List.mem_map.1 hx
        exact hone v hv
  · simp only [AR]; refine ⟨_, h3, ?_⟩
    simp only [Option.map_some, Value.slice.injEq, true_and]; omega
end
end Go.Ev
