/-
  The executor is right, operation by operation (8): x[lo:hi], builtins, calls.
-/
import Derived.Test.YtcnklcnehpkfaaaEvJ
namespace Go.Ev
open Go Go.RowKit
set_option linter.unusedVariables false
set_option linter.unusedSimpArgs false

section
variable {P : Program} {L : Lay} {E : Env} {C : Tab} {X : Nat → Prop} {w0 : World} {F : Nat → Prop} {w : World} {ρ : Ren} {h look : Nat → HObj} {fr : Nat} {a : Act} {ev : Operand → Option AV} {o : Oper} {out : Out}

theorem run_bounds {len cap : Nat} {lo hi mx : Option Value} {l hh m : Int} (hl : (lo = none ∧ l = 0) ∨ ∃ k, lo = some (.int k l)) (hhi : (hi = none ∧ mx = none ∧ hh = len) ∨ ∃ k, hi = some (.int k hh)) (hm : (mx = none ∧ m = cap) ∨ ∃ k, mx = some (.int k m))
    (h0 : 0 ≤ l) (h1 : l ≤ hh) (h2 : hh ≤ m) (h3 : m ≤ cap) : (Instr.sliceBounds true len cap lo hi mx).run P w = .ok (l.toNat, hh.toNat, m.toNat) w := by
  have sb : ∀ (k : IntKind) (i : Int) (y : Nat) (c : BoundsCode), 0 ≤ i → i ≤ y → (Instr.sliceBound (.int k i) y c).run P w = .ok i.toNat w := by
    intro k i y c a1 a2
    simp [Instr.sliceBound, asIntOf, a1, a2]
  have e1 : (hh.toNat : Int) = hh := by omega
  have e2 : (m.toNat : Int) = m := by omega
  rcases hm with ⟨rfl, rfl⟩ | ⟨km, rfl⟩
  · rcases hhi with ⟨rfl, _, rfl⟩ | ⟨kh, rfl⟩
    · rcases hl with ⟨rfl, rfl⟩ | ⟨kl, rfl⟩
      · simp [Instr.sliceBounds]
      · simp only [Instr.sliceBounds, Sem.run_bind, Sem.run_pure, Result.andThen_ok, sb kl l len _ h0 h1]; simp
    · rcases hl with ⟨rfl, rfl⟩ | ⟨kl, rfl⟩
      · simp only [Instr.sliceBounds, Sem.run_bind, Sem.run_pure, Result.andThen_ok, sb kh hh cap _ (by omega) (by omega)]; simp
      · simp only [Instr.sliceBounds, Sem.run_bind, Sem.run_pure, Result.andThen_ok, sb kh hh cap _ (by omega) (by omega), sb kl l hh.toNat _ h0 (by omega)]; simp
  · rcases hhi with ⟨_, hx, _⟩ | ⟨kh, rfl⟩
    · cases hx
    · rcases hl with ⟨rfl, rfl⟩ | ⟨kl, rfl⟩
      · simp only [Instr.sliceBounds, Sem.run_bind, Sem.run_pure, Result.andThen_ok, sb km m cap _ (by omega) h3, sb kh hh m.toNat _ (by omega) (by omega)]; rfl
      · simp only [Instr.sliceBounds, Sem.run_bind, Sem.run_pure, Result.andThen_ok, sb km m cap _ (by omega) h3, sb kh hh m.toNat _ (by omega) (by omega), sb kl l hh.toNat _ h0 (by omega)]

theorem run_slice {t e : TypeId} {ei : TyI} {ao : Option Addr} {len cap : Nat} {lo hi mx : Option Value} {l hh m : Int} (hE : EnvOK P E) (hu : P.underlying t = some (.slice e)) (hei : E e = some ei) (hl : (lo = none ∧ l = 0) ∨ ∃ k, lo = some (.int k l)) (hhi : (hi = none ∧ mx = none ∧ hh = len) ∨ ∃ k, hi = some (.int k hh)) (hm : (mx = none ∧ m = cap) ∨ ∃ k, mx = some (.int k m))
    (h0 : 0 ≤ l) (h1 : l ≤ hh) (h2 : hh ≤ m) (h3 : m ≤ cap) : (Instr.sliceAt t (.slice ao len cap) lo hi mx).run P w = .ok (.slice (if m.toNat = l.toNat then ao else ao.map (·.add (l.toNat * ei.size))) (hh.toNat - l.toNat) (m.toNat - l.toNat)) w := by
  have hs := hE.sizeOf (w := w) hei
  simp only [Instr.sliceAt, Sem.run_bind, run_underlying hu, Result.andThen_ok, Instr.slice, run_bounds hl hhi hm h0 h1 h2 h3, hs, Sem.run_pure]

theorem sound_slice {t e : TypeId} {x : Operand} {lo hi mx : Option Operand} {xv y : AV} {li hi' mi : Option Int} {ti ei : TyI} {ps : List Prop} (G : Good P L E X w0 F w ρ h look fr a ev) (hop : o.op = .slice t x lo hi mx) (ht : E t = some ti) (hti : ti.v = .slice e) (hei : E e = some ei)
    (hx : ev x = some xv) (hlo : (lo = none ∧ li = none) ∨ ∃ z k i, lo = some z ∧ ev z = some (.c (.int k i)) ∧ li = some i) (hhi : (hi = none ∧ hi' = none) ∨ ∃ z k i, hi = some z ∧ ev z = some (.c (.int k i)) ∧ hi' = some i)
    (hmx : (mx = none ∧ mi = none) ∨ ∃ z k i, mx = some z ∧ ev z = some (.c (.int k i)) ∧ mi = some i) (hmh : hi' = none → mi = none)
    (hz : (∃ k r, xv = .ri k r ∧ y = .ri k ((r.take (hi'.getD r.length).toNat).drop (li.getD 0).toNat) ∧ ei.size = 1 ∧ 0 ≤ li.getD 0 ∧ li.getD 0 ≤ hi'.getD r.length ∧ hi'.getD r.length ≤ mi.getD r.length ∧ mi.getD r.length ≤ r.length) ∨
      (∃ sz r, xv = .rr sz r ∧ y = .rr sz ((r.take (hi'.getD r.length).toNat).drop (li.getD 0).toNat) ∧ ei.size = sz ∧ 0 ≤ li.getD 0 ∧ li.getD 0 ≤ hi'.getD r.length ∧ hi'.getD r.length ≤ mi.getD r.length ∧ mi.getD r.length ≤ r.length) ∨
      (∃ n off len cap, xv = .s n off len cap ∧ mi = none ∧ y = .s n (off + (li.getD 0).toNat * ei.size) ((hi'.getD len) - (li.getD 0)).toNat (cap - (li.getD 0).toNat) ∧ 0 ≤ li.getD 0 ∧ li.getD 0 ≤ hi'.getD len ∧ hi'.getD len ≤ cap ∧ (li.getD 0 = 0 ∨ li.getD 0 < cap)) ∨
      (∃ n off len cap m, (xv = .s n off len cap ∨ xv = .x n off len cap) ∧ (mi = some m ∨ (xv = .x n off len cap ∧ mi = none ∧ m = cap)) ∧ y = .x n (if m = li.getD 0 then off else off + (li.getD 0).toNat * ei.size) ((hi'.getD len) - (li.getD 0)).toNat (m - (li.getD 0)).toNat ∧ 0 ≤ li.getD 0 ∧ li.getD 0 ≤ hi'.getD len ∧ hi'.getD len ≤ m ∧ m ≤ cap)) :
    Sound P L X w0 F w ρ h fr a o ⟨y, [], [], ps⟩ := by
  obtain ⟨d, hu, hv⟩ := G.env.under ht
  rw [hti] at hv
  obtain rfl := view_slice hv
  have hxa := G.ev _ _ hx
  have blo : ((lo.map a.eval) = none ∧ li.getD 0 = 0) ∨ ∃ k, (lo.map a.eval) = some (.int k (li.getD 0)) := by
    rcases hlo with ⟨rfl, rfl⟩ | ⟨z, k, i, rfl, hez, rfl⟩
    · exact .inl ⟨rfl, rfl⟩
    · have := G.ev _ _ hez; simp only [AR] at this; exact .inr ⟨k, by simp [this]⟩
  have bhi : ∀ len : Nat, ((hi.map a.eval) = none ∧ (mx.map a.eval) = none ∧ hi'.getD len = len) ∨ ∃ k, (hi.map a.eval) = some (.int k (hi'.getD len)) := by
    intro len
    rcases hhi with ⟨rfl, rfl⟩ | ⟨z, k, i, rfl, hez, rfl⟩
    · have := hmh rfl
      rcases hmx with ⟨rfl, _⟩ | ⟨z, k, i, rfl, hez, rfl⟩
      · exact .inl ⟨rfl, rfl, rfl⟩
      · cases this
    · have := G.ev _ _ hez; simp only [AR] at this; exact .inr ⟨k, by simp [this]⟩
  have bmx : ∀ cap : Nat, ((mx.map a.eval) = none ∧ mi = none) ∨ ∃ k i, (mx.map a.eval) = some (.int k i) ∧ mi = some i := by
    intro cap
    rcases hmx with ⟨rfl, rfl⟩ | ⟨z, k, i, rfl, hez, rfl⟩
    · exact .inl ⟨rfl, rfl⟩
    · have := G.ev _ _ hez; simp only [AR] at this; exact .inr ⟨k, i, by simp [this], rfl⟩
  have hexec : ∀ {v : Value}, (Instr.sliceAt t (a.eval x) (lo.map a.eval) (hi.map a.eval) (mx.map a.eval)).run P w = .ok v w → (execOp a.eval o).run P w = .ok (.value v) w := by
    intro v hr; simp only [execOp, hop]; exact run_v hr
  rcases hz with ⟨k, r, rfl, rfl, hs1, g0, g1, g2, g3⟩ | ⟨sz, r, rfl, rfl, hs1, g0, g1, g2, g3⟩ | ⟨n, off, len, cap, rfl, rfl, rfl, g0, g1, g2, g3⟩ | ⟨n, off, len, cap, m, hxv, hmi, rfl, g0, g1, g2, g3⟩
  · simp only [AR] at hxa
    obtain ⟨ao, cap, e1, e2, e3, e4, e5⟩ := hxa
    have hm : ∃ m : Int, ((mx.map a.eval) = none ∧ m = cap ∨ ∃ k, (mx.map a.eval) = some (.int k m)) ∧ hi'.getD r.length ≤ m ∧ m ≤ cap := by
      rcases bmx cap with ⟨h1, h2⟩ | ⟨k, i, h1, h2⟩
      · exact ⟨cap, .inl ⟨h1, rfl⟩, by rw [h2] at g2; simp at g2; omega, by omega⟩
      · exact ⟨i, .inr ⟨k, h1⟩, by rw [h2] at g2; simpa using g2, by rw [h2] at g3; simp at g3; omega⟩
    obtain ⟨m, hm1, hm2, hm3⟩ := hm
    have hr := run_slice (w := w) (ao := ao) (cap := cap) G.env hu hei blo (bhi r.length) hm1 g0 g1 hm2 hm3
    rw [← e1] at hr
    refine .pure G (hexec hr) ?_
    simp only [AR]
    have hlen : ((r.take (hi'.getD r.length).toNat).drop (li.getD 0).toNat).length = (hi'.getD r.length).toNat - (li.getD 0).toNat := by simp; omega
    refine ⟨_, m.toNat - (li.getD 0).toNat, by rw [hlen], by rw [hlen]; omega, by omega, fun hn => ?_, fun j y hj => ?_⟩
    · split at hn
      · have := e4 hn; omega
      · simp only [Option.map_eq_none_iff] at hn; have := e4 hn; omega
    · rw [List.getElem?_drop, List.getElem?_take] at hj
      split at hj
      · rename_i hlt
        obtain ⟨ad, q1, q2, q3⟩ := e5 _ y hj
        subst q1
        rw [if_neg (by omega)]
        refine ⟨ad.add ((li.getD 0).toNat * ei.size), rfl, ?_, ?_⟩
        · have : (ad.add ((li.getD 0).toNat * ei.size)).block = ad.block := by unfold Addr.add; split <;> rfl
          rw [this]; exact q2
        · rw [Addr.add_add, hs1, Nat.mul_one]; exact q3
      · cases hj
  · simp only [AR] at hxa
    obtain ⟨ao, cap, e1, e2, e3, e4, e5⟩ := hxa
    have hm : ∃ m : Int, ((mx.map a.eval) = none ∧ m = cap ∨ ∃ k, (mx.map a.eval) = some (.int k m)) ∧ hi'.getD r.length ≤ m ∧ m ≤ cap := by
      rcases bmx cap with ⟨h1, h2⟩ | ⟨k, i, h1, h2⟩
      · exact ⟨cap, .inl ⟨h1, rfl⟩, by rw [h2] at g2; simp at g2; omega, by omega⟩
      · exact ⟨i, .inr ⟨k, h1⟩, by rw [h2] at g2; simpa using g2, by rw [h2] at g3; simp at g3; omega⟩
    obtain ⟨m, hm1, hm2, hm3⟩ := hm
    have hr := run_slice (w := w) (ao := ao) (cap := cap) G.env hu hei blo (bhi r.length) hm1 g0 g1 hm2 hm3
    rw [← e1] at hr
    refine .pure G (hexec hr) ?_
    simp only [AR]
    have hlen : ((r.take (hi'.getD r.length).toNat).drop (li.getD 0).toNat).length = (hi'.getD r.length).toNat - (li.getD 0).toNat := by simp; omega
    refine ⟨_, m.toNat - (li.getD 0).toNat, by rw [hlen], by rw [hlen]; omega, by omega, fun hn => ?_, ARR.of_get fun j c hj => ?_⟩
    · split at hn
      · have := e4 hn; omega
      · simp only [Option.map_eq_none_iff] at hn; have := e4 hn; omega
    · rw [List.getElem?_drop, List.getElem?_take] at hj
      split at hj
      · rename_i hlt
        obtain ⟨ad, q1, q2, q3, q4⟩ := e5.get _ c hj
        subst q1
        rw [if_neg (by omega)]
        refine ⟨ad.add ((li.getD 0).toNat * ei.size), rfl, ?_, q3, ARC.of_get fun i z hz => ?_⟩
        · have : (ad.add ((li.getD 0).toNat * ei.size)).block = ad.block := by unfold Addr.add; split <;> rfl
          rw [this]; exact q2
        · have := q4.get i z hz
          rw [Addr.add_add, hs1]
          rwa [show (li.getD 0).toNat * sz + ((0 + j) * sz + i) = (0 + ((li.getD 0).toNat + j)) * sz + i from by rw [Nat.zero_add, Nat.zero_add, Nat.add_mul]; omega]
      · cases hj
  · simp only [AR] at hxa
    obtain ⟨lo', hn, e1⟩ := hxa
    rcases bmx cap with ⟨h1, _⟩ | ⟨k, i, _, h2⟩
    · have hr := run_slice (w := w) (ao := lo'.blk.map fun b => ⟨b, off, none⟩) (cap := cap + lo'.slack) (m := ((cap + lo'.slack : Nat) : Int)) G.env hu hei blo (bhi len) (.inl ⟨h1, rfl⟩) g0 g1 (by omega) (by omega)
      rw [← e1] at hr
      refine .pure G (hexec hr) ?_
      simp only [AR]
      refine ⟨lo', hn, ?_⟩
      rw [Value.slice.injEq]
      refine ⟨?_, by omega, by omega⟩
      split
      · rename_i heq
        have : (li.getD 0).toNat = 0 ∨ cap + lo'.slack = (li.getD 0).toNat := by omega
        rcases g3 with g3 | g3
        · have : (li.getD 0).toNat = 0 := by omega
          rw [this]; simp
        · omega
      · rw [Option.map_map]; congr 1; funext b; simp [Addr.add_lit]
    · cases h2
  · have hxa' : ∃ lo' cap', ρ n = some lo' ∧ a.eval x = .slice (lo'.blk.map fun b => ⟨b, off, none⟩) len cap' ∧ cap ≤ cap' ∧ (xv = .x n off len cap → cap' = cap) := by
      rcases hxv with rfl | rfl
      · simp only [AR] at hxa; obtain ⟨lo', hn, e1⟩ := hxa; exact ⟨lo', _, hn, e1, by omega, fun e => by cases e⟩
      · simp only [AR] at hxa; obtain ⟨lo', hn, e1⟩ := hxa; exact ⟨lo', _, hn, e1, Nat.le_refl _, fun _ => rfl⟩
    obtain ⟨lo', cap', hn, e1, hcap, hexact⟩ := hxa'
    have hm1 : ((mx.map a.eval) = none ∧ m = cap') ∨ ∃ k, (mx.map a.eval) = some (.int k m) := by
      rcases bmx cap with ⟨h1, h2⟩ | ⟨k, i, h1, h2⟩
      · rcases hmi with hmi | ⟨q1, _, q3⟩
        · rw [h2] at hmi; cases hmi
        · exact .inl ⟨h1, by rw [q3, hexact q1]⟩
      · rcases hmi with hmi | ⟨_, q2, _⟩
        · rw [h2] at hmi; obtain rfl := Option.some.inj hmi; exact .inr ⟨k, h1⟩
        · rw [h2] at q2; cases q2
    have hr := run_slice (w := w) (ao := lo'.blk.map fun b => ⟨b, off, none⟩) (cap := cap') (m := m) G.env hu hei blo (bhi len) hm1 g0 g1 g2 (by omega)
    rw [← e1] at hr
    refine .pure G (hexec hr) ?_
    simp only [AR]
    refine ⟨lo', hn, ?_⟩
    rw [Value.slice.injEq]
    refine ⟨?_, by omega, by omega⟩
    by_cases heq : m = li.getD 0
    · rw [if_pos (by omega), if_pos heq]
    · rw [if_neg (by omega), if_neg heq, Option.map_map]; congr 1; funext b; simp [Addr.add_lit]

theorem foldInt_sound {g : Int → Int → Int} {k : IntKind} {f : Value → Value → Sem Value} (hf : ∀ x y, (f (.int k x) (.int k y)).run P w = .ok (.int k (g x y)) w) : ∀ {l : List AV} {vs : List Value} {x : Int} {z : AV}, foldInt g k x l = some z → ARL F w ρ l vs →
    ∃ v, (vs.foldlM f (.int k x)).run P w = .ok v w ∧ AR F w ρ z v
  | [], vs, x, z, hz, hv => by
    simp only [foldInt, Option.some.injEq] at hz; subst hz
    simp only [ARL] at hv; subst hv
    exact ⟨.int k x, by simp, by simp only [AR]⟩
  | y :: l, vs, x, z, hz, hv => by
    simp only [ARL] at hv
    obtain ⟨v, r, rfl, h1, h2⟩ := hv
    rcases y with ⟨vy⟩ | _ | _ | _ | _ | _ | _ | _ | _ | _ | _ | _ | _ <;> try (simp [foldInt] at hz; done)
    cases vy <;> simp only [foldInt, reduceCtorEq] at hz
    split at hz
    · rename_i hk
      subst hk
      simp only [AR] at h1; subst h1
      obtain ⟨v', h3, h4⟩ := foldInt_sound hf hz h2
      exact ⟨v', by simp only [List.foldlM_cons, Sem.run_bind, hf, Result.andThen_ok]; exact h3, h4⟩
    · cases hz

theorem lenOK_sound (hE : EnvOK P E) {ts : List TypeId} {str : Bool} (h : lenOK E ts str = true) : ∃ t d, ts = [t] ∧ P.underlying t = some d ∧ ((str = false ∧ ∃ e, d = .slice e) ∨ (str = true ∧ d = .string)) := by
  unfold lenOK at h
  split at h
  · split at h
    · rename_i t _ ti hti
      obtain ⟨d, hu, hv⟩ := hE.under hti
      split at h
      · rename_i e he
        rw [he] at hv
        exact ⟨t, d, rfl, hu, .inl ⟨by simpa using h, e, view_slice hv⟩⟩
      · rename_i he
        rw [he] at hv
        exact ⟨t, d, rfl, hu, .inr ⟨h, view_str hv⟩⟩
      · cases h
    · cases h
  · cases h

theorem sound_builtin {b : Builtin} {args : Array Operand} {ts : Array TypeId} {as : List AV} {ob : Out} (G : Good P L E X w0 F w ρ h look fr a ev) (hfr : ∀ n, fr ≤ n → n < fr + ob.news.length → ρ n = none) (hop : o.op = .call { callee := .builtin b, args, argTypes := ts }) (has : mapM' ev args.toList = some as)
    (hb : builtinA E look fr b ts.toList as = some ob) (hp : All ob.os) : Sound P L X w0 F w ρ h fr a o ob := by
  have hev := G.evs has
  have hargs : (args.map a.eval).toList = args.toList.map a.eval := by simp
  have hlen : ∀ {s : Value} {n : Int} {str : Bool}, b = .len → args.toList.map a.eval = [s] → lenOK E ts.toList str = true → (∀ t d, P.underlying t = some d → ((str = false ∧ ∃ e, d = .slice e) ∨ (str = true ∧ d = .string)) → (Builtin.len_ #[t] o.type #[s]).run P w = .ok (.int .i64 n) w) → (execOp a.eval o).run P w = .ok (.value (.int .i64 n)) w := by
    intro s n str hbl hs hok hrun
    subst hbl
    obtain ⟨t, d, ht, hu, hd⟩ := lenOK_sound G.env hok
    have hts : ts = #[t] := Array.ext' ht
    subst hts
    have harr : args.map a.eval = #[s] := Array.ext' (by rw [hargs, hs])
    simp [execOp, hop, resolve, invoke, builtin, harr, hrun t d hu hd, Result.andThen]
  unfold builtinA at hb
  split at hb
  · split at hb
    · rename_i hok
      simp only [Option.val, Option.some.injEq] at hb; subst hb
      simp only [ARL] at hev; obtain ⟨v, _, hv, h1, rfl⟩ := hev
      simp only [AR] at h1; obtain ⟨lo, _, rfl⟩ := h1
      refine .pure G (hlen rfl hv hok fun t d hu hd => ?_) (by simp only [AR]; rfl)
      rcases hd with ⟨_, e, rfl⟩ | ⟨h, _⟩
      · simp [Builtin.len_, run_underlying hu, goInt]
      · cases h
    · cases hb
  · split at hb
    · rename_i hok
      simp only [Option.val, Option.some.injEq] at hb; subst hb
      simp only [ARL] at hev; obtain ⟨v, _, hv, h1, rfl⟩ := hev
      simp only [AR] at h1; obtain ⟨lo, _, rfl⟩ := h1
      refine .pure G (hlen rfl hv hok fun t d hu hd => ?_) (by simp only [AR]; rfl)
      rcases hd with ⟨_, e, rfl⟩ | ⟨h, _⟩
      · simp [Builtin.len_, run_underlying hu, goInt]
      · cases h
    · cases hb
  · split at hb
    · rename_i hok
      simp only [Option.val, Option.some.injEq] at hb; subst hb
      simp only [ARL] at hev; obtain ⟨v, _, hv, h1, rfl⟩ := hev
      simp only [AR] at h1; obtain ⟨ao, cap, rfl, _⟩ := h1
      refine .pure G (hlen rfl hv hok fun t d hu hd => ?_) (by simp only [AR]; rfl)
      rcases hd with ⟨_, e, rfl⟩ | ⟨h, _⟩
      · simp [Builtin.len_, run_underlying hu, goInt]
      · cases h
    · cases hb
  · split at hb
    · rename_i hok
      simp only [Option.val, Option.some.injEq] at hb; subst hb
      simp only [ARL] at hev; obtain ⟨v, _, hv, h1, rfl⟩ := hev
      simp only [AR] at h1; obtain ⟨ao, cap, rfl, _⟩ := h1
      refine .pure G (hlen rfl hv hok fun t d hu hd => ?_) (by simp only [AR]; rfl)
      rcases hd with ⟨_, e, rfl⟩ | ⟨h, _⟩
      · simp [Builtin.len_, run_underlying hu, goInt]
      · cases h
    · cases hb
  · split at hb
    · rename_i hok
      simp only [Option.val, Option.some.injEq] at hb; subst hb
      simp only [ARL] at hev; obtain ⟨v, _, hv, h1, rfl⟩ := hev
      simp only [AR] at h1; subst h1
      refine .pure G (hlen rfl hv hok fun t d hu hd => ?_) (by simp only [AR]; rfl)
      rcases hd with ⟨_, e, rfl⟩ | ⟨h, _⟩
      · simp [Builtin.len_, run_underlying hu, goInt]
      · cases h
    · cases hb
  · split at hb
    · rename_i hok
      simp only [Option.val, Option.some.injEq] at hb; subst hb
      simp only [ARL] at hev; obtain ⟨v, _, hv, h1, rfl⟩ := hev
      simp only [AR] at h1; subst h1
      refine .pure G (hlen rfl hv hok fun t d hu hd => ?_) (by simp only [AR]; rfl)
      rcases hd with ⟨h, _⟩ | ⟨_, rfl⟩
      · cases h
      · simp [Builtin.len_, run_underlying hu, goInt]
    · cases hb
  · rename_i k x l
    obtain ⟨z, hz, rfl⟩ := Option.map_eq_some_iff.1 hb
    simp only [ARL] at hev; obtain ⟨v, r, hv, h1, h2⟩ := hev
    simp only [AR] at h1; subst h1
    obtain ⟨v', h3, h4⟩ := foldInt_sound (P := P) (w := w) (f := Builtin.min2) (g := imin) (k := k) (fun x y => by simp [Builtin.min2, imin]) hz h2
    refine .pure G (v := v') ?_ h4
    simp only [execOp, hop, resolve, invoke, builtin, Sem.run_bind, Sem.run_pure, Result.andThen_ok, Builtin.min_, hargs, hv]
    simp [h3, Result.andThen]
  · rename_i k x l
    obtain ⟨z, hz, rfl⟩ := Option.map_eq_some_iff.1 hb
    simp only [ARL] at hev; obtain ⟨v, r, hv, h1, h2⟩ := hev
    simp only [AR] at h1; subst h1
    obtain ⟨v', h3, h4⟩ := foldInt_sound (P := P) (w := w) (f := Builtin.max2) (g := imax) (k := k) (fun x y => by simp [Builtin.max2, imax]) hz h2
    refine .pure G (v := v') ?_ h4
    simp only [execOp, hop, resolve, invoke, builtin, Sem.run_bind, Sem.run_pure, Result.andThen_ok, Builtin.max_, hargs, hv]
    simp [h3, Result.andThen]
  · rename_i sv xv
    split at hb
    · rename_i t t' hts
      split at hb
      · rename_i e
        subst e
        have hts' : ts = #[t, t] := Array.ext' hts
        subst hts'
        obtain ⟨hl, hg⟩ := mapM'_get has
        obtain ⟨s, x, hargs2⟩ : ∃ s x, args.toList = [s, x] := by
          match args.toList, hl with
          | [s, x], _ => exact ⟨s, x, rfl⟩
        have hargs3 : args = #[s, x] := Array.ext' hargs2
        subst hargs3
        obtain ⟨y1, e1, hs⟩ := hg 0 s (by simp)
        obtain ⟨y2, e2, hx⟩ := hg 1 x (by simp)
        simp only [List.getElem?_cons_zero, List.getElem?_cons_succ, Option.some.injEq] at e1 e2
        subst e1; subst e2
        have hn1 : ob.news.length = 1 := by
          simp only [appendA, Option.bind_eq_bind, Option.bind_eq_some_iff] at hb
          obtain ⟨ti, ht, hb⟩ := hb
          split at hb
          · simp only [Option.bind_eq_some_iff, Prod.exists, Option.some.injEq] at hb
            obtain ⟨ei, hei, src, ps, hsrc, dst, dead, len, qs, hdst, jo, hj, rfl⟩ := hb
            rfl
          · cases hb
        exact sound_append G (hfr fr (Nat.le_refl _) (by omega)) hop hs hx hb hp
      · have hts' : ts = #[t, t'] := Array.ext' hts
        subst hts'
        obtain ⟨hl, hg⟩ := mapM'_get has
        obtain ⟨s, x, hargs2⟩ : ∃ s x, args.toList = [s, x] := by
          match args.toList, hl with
          | [s, x], _ => exact ⟨s, x, rfl⟩
        have hargs3 : args = #[s, x] := Array.ext' hargs2
        subst hargs3
        obtain ⟨y1, e1, hs⟩ := hg 0 s (by simp)
        obtain ⟨y2, e2, hx⟩ := hg 1 x (by simp)
        simp only [List.getElem?_cons_zero, List.getElem?_cons_succ, Option.some.injEq] at e1 e2
        subst e1; subst e2
        exact sound_appendz G (fun hn => hfr fr (Nat.le_refl _) (by omega)) hop hs hx hb hp
    · cases hb
  · cases hb
end
end Go.Ev
