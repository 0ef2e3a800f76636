/-
  The executor is right (10): calls; an operation; an operation with its guard.
-/
import Derived.Test.YtcnklcnehpkfaaaEvCopy
namespace Go.Ev
open Go Go.RowKit
set_option linter.unusedVariables false
set_option linter.unusedSimpArgs false

section
variable {P : Program} {L : Lay} {E : Env} {C : Tab} {X : Nat → Prop} {w0 : World} {F : Nat → Prop} {w : World} {ρ : Ren} {h look : Nat → HObj} {fr : Nat} {a : Act} {ev : Operand → Option AV} {o : Oper} {out : Out}

theorem nl_mem : ∀ {l : List (List AV)} {c : List AV} {x : AV}, nlLL l → c ∈ l → x ∈ c → x.nl
  | d :: l, c, x, hn, hc, hx => by
    simp only [nlLL] at hn
    rcases List.mem_cons.1 hc with rfl | hc
    · have : ∀ {c : List AV}, nlL c → x ∈ c → x.nl := by
        intro c
        induction c with
        | nil => intro _ h; cases h
        | cons y c ih => intro h hx; simp only [nlL] at h; rcases List.mem_cons.1 hx with rfl | hx; exact h.1; exact ih h.2 hx
      exact this hn.1 hx
    · exact nl_mem hn.2 hc hx
theorem nlL_consts : ∀ {l : List AV}, (l.all fun x => match x with | .c _ => true | _ => false) = true → nlL l
  | [], _ => by simp [nlL]
  | x :: l, h => by
    simp only [List.all_cons, Bool.and_eq_true] at h
    simp only [nlL]
    refine ⟨?_, nlL_consts h.2⟩
    cases x <;> first | (simp [AV.nl]; done) | (simp at h)

theorem ownsRow_cap {w : World} {e sz n : Nat} {lo : Loc} {xs : List Value} (hown : w.ownsRow 0 e sz (sliceOf lo n) n xs) : n + lo.slack ≤ maxLen ∧ (lo.blk = none → n = 0 ∧ lo.slack = 0) ∧ ∀ b, lo.blk = some b → b < w.heap.size := by
  refine ⟨?_, fun hn => ?_, fun b hb => (hown.lt b (by rw [ownBlock_sliceOf]; exact hb)).2⟩
  · rcases hown.2 with ⟨h1, h2⟩ | ⟨g, cp, cur, h1, _, _, _, h5, _⟩
    · simp only [sliceOf, Value.slice.injEq] at h1; unfold maxLen; omega
    · simp only [sliceOf, Value.slice.injEq] at h1; omega
  · rcases hown.2 with ⟨h1, h2⟩ | ⟨g, cp, cur, h1, _⟩
    · simp only [sliceOf, Value.slice.injEq] at h1; omega
    · simp [sliceOf, hn] at h1

theorem frz_own (G : Good P L E X w0 F w ρ h look fr a ev) {F0 : Nat → Prop} {ρ0 : Ren} (hF : ∀ b, F b → F0 b) {n off len cap cap' : Nat} {y : AV} {v : Value} {z : List Nat} {ps : List Prop}
    (hf : (match look n with
      | .oi _ k l => some (AV.ri k ((l.drop off).take len), [n], [len ≤ cap, off + cap ≤ l.length])
      | .oo _ sz l => some (.rr sz ((l.drop (off / sz)).take len), [n], [off % sz = 0, len ≤ cap, off / sz + cap ≤ l.length, nlLL l])
      | .dead => none) = some (y, z, ps)) (hp : All ps) (hz : ∀ n ∈ z, ∀ b, blkOf ρ n = some b → F0 b)
    (hv : ∃ lo, ρ n = some lo ∧ v = .slice (lo.blk.map fun b => ⟨b, off, none⟩) len cap' ∧ cap ≤ cap' ∧ cap' ≤ cap + lo.slack) : AR F0 w ρ0 y v ∧ ∀ n ∈ z, (look n).live := by
  obtain ⟨lo, hn, e, hc1, hc2⟩ := hv
  cases hx : look n with
  | dead => rw [hx] at hf; cases hf
  | oi e' k l =>
    rw [hx] at hf
    simp only [Option.some.injEq, Prod.mk.injEq] at hf
    obtain ⟨rfl, rfl, rfl⟩ := hf
    obtain ⟨hlc, hcl, _⟩ := hp
    have hl : (look n).live := by rw [hx]; trivial
    obtain ⟨hlh, hHR⟩ := live_HR G hl
    rw [hx] at hHR
    obtain ⟨lo', h1, h2⟩ := hHR
    rw [hn] at h1; obtain rfl := Option.some.inj h1
    obtain ⟨q1, q2, q3⟩ := ownsRow_cap h2
    refine ⟨?_, fun m hm => by rw [List.mem_singleton.1 hm]; exact hl⟩
    simp only [AR]
    have hlen : ((l.drop off).take len).length = len := by simp; omega
    refine ⟨_, cap', by rw [hlen]; exact e, by rw [hlen]; omega, by omega, fun hnone => ?_, fun j x hj => ?_⟩
    · simp only [Option.map_eq_none_iff] at hnone; have := q2 hnone; omega
    · rw [List.getElem?_take] at hj
      split at hj
      · rename_i hjl
        rw [List.getElem?_drop] at hj
        have hlt := (List.getElem?_eq_some_iff.1 hj).1
        cases hb : lo.blk with
        | none => have := q2 hb; omega
        | some b =>
          refine ⟨_, rfl, hz n (by simp) b (by simp [blkOf, hn, hb]), ?_⟩
          rw [Addr.add_lit]
          have h2' : w.ownsRow 0 e' 1 (.slice (some ⟨b, 0, none⟩) l.length (l.length + lo.slack)) l.length (l.map (Value.int k)) := by
            have := h2; simp only [sliceOf, hb, Option.map_some] at this; exact this
          rw [h2'.cellAt _ (by omega)]; simp [hj]
      · cases hj
  | oo e' sz l =>
    rw [hx] at hf
    simp only [Option.some.injEq, Prod.mk.injEq] at hf
    obtain ⟨rfl, rfl, rfl⟩ := hf
    obtain ⟨hmod, hlc, hcl, hnl, _⟩ := hp
    have hl : (look n).live := by rw [hx]; trivial
    obtain ⟨hlh, hHR⟩ := live_HR G hl
    rw [hx] at hHR
    obtain ⟨lo', xs, h1, h2, h3, h4⟩ := hHR
    rw [hn] at h1; obtain rfl := Option.some.inj h1
    obtain ⟨q1, q2, q3⟩ := ownsRow_cap h2
    refine ⟨?_, fun m hm => by rw [List.mem_singleton.1 hm]; exact hl⟩
    simp only [AR]
    have hoz := Nat.zero_le (off / sz)
    have hlen : ((l.drop (off / sz)).take len).length = len := by simp; omega
    have hoff : off = off / sz * sz := by rw [Nat.mul_comm]; have := Nat.div_add_mod off sz; omega
    refine ⟨_, cap', by rw [hlen]; exact e, by rw [hlen]; omega, by omega, fun hnone => ?_, ARR.of_get fun j c hj => ?_⟩
    · simp only [Option.map_eq_none_iff] at hnone; have := q2 hnone; omega
    · rw [List.getElem?_take] at hj
      split at hj
      · rename_i hjl
        rw [List.getElem?_drop] at hj
        have hlt := (List.getElem?_eq_some_iff.1 hj).1
        have hcm := List.mem_of_getElem? hj
        cases hb : lo.blk with
        | none => have := q2 hb; omega
        | some b =>
          have h2' : w.ownsRow 0 e' sz (.slice (some ⟨b, 0, none⟩) l.length (l.length + lo.slack)) l.length xs := by
            have := h2; simp only [sliceOf, hb, Option.map_some] at this; exact this
          refine ⟨_, rfl, hz n (by simp) b (by simp [blkOf, hn, hb]), (h4 c hcm).1, ARC.of_get fun i x hi => ?_⟩
          have hfl := flatten_at (fun c hc => (h4 c hc).1) hj hi
          obtain ⟨u, hu, hr⟩ := h3.get _ _ hfl
          have hltx : (off / sz + j) * sz + i < l.length * sz := by
            rw [← flatten_length fun c hc => (h4 c hc).1]; exact (List.getElem?_eq_some_iff.1 hfl).1
          refine ⟨(h4 c hcm).2 x (List.mem_of_getElem? hi), u, ?_, AR.nl' hF _ _ (nl_mem hnl hcm (List.mem_of_getElem? hi)) hr⟩
          rw [Addr.add_lit, show off + ((0 + j) * sz + i) = (off / sz + j) * sz + i from by rw [Nat.zero_add, Nat.add_mul]; omega, h2'.cellAt _ hltx]
          exact hu
      · cases hj

theorem frzE_sound (G : Good P L E X w0 F w ρ h look fr a ev) {F0 : Nat → Prop} {ρ0 : Ren} (hF : ∀ b, F b → F0 b) {x y : AV} {v : Value} {z : List Nat} {ps : List Prop} (hf : frzE look x = some (y, z, ps)) (hp : All ps) (hz : ∀ n ∈ z, ∀ b, blkOf ρ n = some b → F0 b) (hv : AR F w ρ x v) :
    AR F0 w ρ0 y v ∧ ∀ n ∈ z, (look n).live := by
  cases x with
  | c u => simp only [frzE, Option.some.injEq, Prod.mk.injEq] at hf; obtain ⟨rfl, rfl, rfl⟩ := hf; exact ⟨by simpa [AR] using hv, by simp⟩
  | gp g off => simp only [frzE, Option.some.injEq, Prod.mk.injEq] at hf; obtain ⟨rfl, rfl, rfl⟩ := hf; exact ⟨by simpa [AR] using hv, by simp⟩
  | ri k l => simp only [frzE, Option.some.injEq, Prod.mk.injEq] at hf; obtain ⟨rfl, rfl, rfl⟩ := hf; exact ⟨AR.nl' hF _ _ (by simp [AV.nl]) hv, by simp⟩
  | rr sz l => simp only [frzE, Option.some.injEq, Prod.mk.injEq] at hf; obtain ⟨rfl, rfl, rfl⟩ := hf; exact ⟨AR.nl' hF _ _ (by simp [AV.nl]) hv, by simp⟩
  | s n off len cap =>
    simp only [AR] at hv
    obtain ⟨lo, hn, e⟩ := hv
    exact frz_own G hF (cap := cap) (cap' := cap + lo.slack) hf hp hz ⟨lo, hn, e, by omega, by omega⟩
  | x n off len cap =>
    simp only [AR] at hv
    obtain ⟨lo, hn, e⟩ := hv
    exact frz_own G hF (cap := cap) (cap' := cap) hf hp hz ⟨lo, hn, e, by omega, by omega⟩
  | a l =>
    simp only [frzE] at hf
    split at hf
    · rename_i hall
      simp only [Option.some.injEq, Prod.mk.injEq] at hf; obtain ⟨rfl, rfl, rfl⟩ := hf
      exact ⟨AR.nl' hF _ _ (by simp only [AV.nl]; exact nlL_consts hall) hv, by simp⟩
    · simp only [Option.some.injEq, Prod.mk.injEq] at hf; obtain ⟨rfl, rfl, rfl⟩ := hf
      exact ⟨AR.nl' hF _ _ (by simpa [AV.nl, All] using hp) hv, by simp⟩
  | i ty x =>
    simp only [frzE, Option.some.injEq, Prod.mk.injEq] at hf; obtain ⟨rfl, rfl, rfl⟩ := hf
    exact ⟨AR.nl' hF _ _ (by simpa [AV.nl, All] using hp) hv, by simp⟩
  | f fn l =>
    simp only [frzE, Option.some.injEq, Prod.mk.injEq] at hf; obtain ⟨rfl, rfl, rfl⟩ := hf
    exact ⟨AR.nl' hF _ _ (by simpa [AV.nl, All] using hp) hv, by simp⟩
  | _ => simp [frzE] at hf

theorem frzEL_sound (G : Good P L E X w0 F w ρ h look fr a ev) {F0 : Nat → Prop} {ρ0 : Ren} (hF : ∀ b, F b → F0 b) : ∀ {l r : List AV} {vs : List Value} {z : List Nat} {ps : List Prop}, frzEL look l = some (r, z, ps) → All ps → (∀ n ∈ z, ∀ b, blkOf ρ n = some b → F0 b) → ARL F w ρ l vs →
    ARL F0 w ρ0 r vs ∧ ∀ n ∈ z, (look n).live
  | [], r, vs, z, ps, hf, _, _, hv => by
    simp only [frzEL, Option.some.injEq, Prod.mk.injEq] at hf; obtain ⟨rfl, rfl, rfl⟩ := hf
    exact ⟨by simpa [ARL] using hv, by simp⟩
  | x :: l, r, vs, z, ps, hf, hp, hz, hv => by
    simp only [frzEL, Option.bind_eq_bind, Option.bind_eq_some_iff, Option.some.injEq, Prod.mk.injEq, Prod.exists] at hf
    obtain ⟨y, z1, p1, h1, r', z2, p2, h2, rfl, rfl, rfl⟩ := hf
    rw [All_append] at hp
    simp only [ARL] at hv
    obtain ⟨v, vs', rfl, hv1, hv2⟩ := hv
    obtain ⟨g1, g2⟩ := frzE_sound G hF (ρ0 := ρ0) h1 hp.1 (fun n hn => hz n (by simp [hn])) hv1
    obtain ⟨g3, g4⟩ := frzEL_sound G hF (ρ0 := ρ0) h2 hp.2 (fun n hn => hz n (by simp [hn])) hv2
    exact ⟨by simp only [ARL]; exact ⟨v, vs', rfl, g1, g3⟩, fun n hn => (List.mem_append.1 hn).elim (g2 n) (g4 n)⟩

theorem frz_sound (G : Good P L E X w0 F w ρ h look fr a ev) {F0 : Nat → Prop} {ρ0 : Ren} (hF : ∀ b, F b → F0 b) {x y : AV} {v : Value} {z : List Nat} {ps : List Prop} (hf : frz look x = some (y, z, ps)) (hp : All ps) (hz : ∀ n ∈ z, ∀ b, blkOf ρ n = some b → F0 b) (hv : AR F w ρ x v) :
    AR F0 w ρ0 y v ∧ ∀ n ∈ z, (look n).live := by
  unfold frz at hf
  split at hf
  · simp only [Option.bind_eq_bind, Option.bind_eq_some_iff, Option.some.injEq, Prod.mk.injEq, Prod.exists] at hf
    obtain ⟨r, z', p', h1, rfl, rfl, rfl⟩ := hf
    simp only [AR] at hv ⊢
    obtain ⟨vs, h2, h3⟩ := hv
    obtain ⟨g1, g2⟩ := frzEL_sound G hF (ρ0 := ρ0) h1 hp hz h3
    exact ⟨⟨vs, h2, g1⟩, g2⟩
  · exact frzE_sound G hF hf hp hz hv

theorem frzL_sound (G : Good P L E X w0 F w ρ h look fr a ev) {F0 : Nat → Prop} {ρ0 : Ren} (hF : ∀ b, F b → F0 b) : ∀ {l r : List AV} {vs : List Value} {z : List Nat} {ps : List Prop}, frzL look l = some (r, z, ps) → All ps → (∀ n ∈ z, ∀ b, blkOf ρ n = some b → F0 b) → ARL F w ρ l vs →
    ARL F0 w ρ0 r vs ∧ ∀ n ∈ z, (look n).live
  | [], r, vs, z, ps, hf, _, _, hv => by
    simp only [frzL, Option.some.injEq, Prod.mk.injEq] at hf; obtain ⟨rfl, rfl, rfl⟩ := hf
    exact ⟨by simpa [ARL] using hv, by simp⟩
  | x :: l, r, vs, z, ps, hf, hp, hz, hv => by
    simp only [frzL, Option.bind_eq_bind, Option.bind_eq_some_iff, Option.some.injEq, Prod.mk.injEq, Prod.exists] at hf
    obtain ⟨y, z1, p1, h1, r', z2, p2, h2, rfl, rfl, rfl⟩ := hf
    rw [All_append] at hp
    simp only [ARL] at hv
    obtain ⟨v, vs', rfl, hv1, hv2⟩ := hv
    obtain ⟨g1, g2⟩ := frz_sound G hF (ρ0 := ρ0) h1 hp.1 (fun n hn => hz n (by simp [hn])) hv1
    obtain ⟨g3, g4⟩ := frzL_sound G hF (ρ0 := ρ0) h2 hp.2 (fun n hn => hz n (by simp [hn])) hv2
    exact ⟨by simp only [ARL]; exact ⟨v, vs', rfl, g1, g3⟩, fun n hn => (List.mem_append.1 hn).elim (g2 n) (g4 n)⟩

theorem ddp_mem {n : Nat} : ∀ {l : List Nat}, n ∈ ddp l ↔ n ∈ l
  | [] => by simp [ddp]
  | x :: l => by
    simp only [ddp]
    split
    · rename_i hc
      have : x ∈ l := ddp_mem.1 (by simpa using hc)
      rw [ddp_mem, List.mem_cons]
      exact ⟨.inr, fun h => h.elim (fun e => e ▸ this) id⟩
    · rw [List.mem_cons, List.mem_cons, ddp_mem]
theorem ddp_nodup : ∀ (l : List Nat), (ddp l).Nodup
  | [] => by simp [ddp]
  | x :: l => by
    simp only [ddp]
    split
    · exact ddp_nodup l
    · rename_i hc
      exact List.nodup_cons.2 ⟨by simpa using hc, ddp_nodup l⟩

theorem sound_enter {f : Operand} {fn : Nat} {cap as : List AV} {args : Array Operand} {ts : Array TypeId} (G : Good P L E X w0 F w ρ h look fr a ev) (hop : o.op = .call { callee := .value f, args, argTypes := ts }) (hf : ev f = some (.f fn cap)) (has : mapM' ev args.toList = some as)
    (hcall : ∀ (bs : Array Value) (w : World), (callFunc fn bs).run P w = .ok (.enter fn bs) w) : ∃ vs : List Value, ARL F w ρ (as ++ cap) vs ∧ (execOp a.eval o).run P w = .ok (.enter fn vs.toArray) w := by
  have hfa := G.ev _ _ hf
  simp only [AR] at hfa
  obtain ⟨cs, e, hcs⟩ := hfa
  refine ⟨args.toList.map a.eval ++ cs.toList, (G.evs has).append hcs, ?_⟩
  have e2 : (args.toList.map a.eval ++ cs.toList).toArray = args.map a.eval ++ cs := by apply Array.ext'; simp
  rw [e2]
  simp only [execOp, hop, resolve, e, Deferred.ofValue, Sem.run_bind, Sem.run_pure, Result.andThen_ok, invoke, Array.empty_append]
  exact hcall _ _

theorem sound_enterM {r : Operand} {name : String} {ty fn : Nat} {x : AV} {as : List AV} {args : Array Operand} {ts : Array TypeId} (G : Good P L E X w0 F w ρ h look fr a ev) (hop : o.op = .call { callee := .invoke r name, args, argTypes := ts }) (hr : ev r = some (.i ty x)) (has : mapM' ev args.toList = some as) (hm : MethOK P ty name fn)
    (hcall : ∀ (bs : Array Value) (w : World), (callFunc fn bs).run P w = .ok (.enter fn bs) w) : ∃ vs : List Value, ARL F w ρ (x :: as) vs ∧ (execOp a.eval o).run P w = .ok (.enter fn vs.toArray) w := by
  have hra := G.ev _ _ hr
  simp only [AR] at hra
  obtain ⟨u, e, hx⟩ := hra
  refine ⟨u :: args.toList.map a.eval, by simp only [ARL]; exact ⟨u, _, rfl, hx, G.evs has⟩, ?_⟩
  have e2 : (u :: args.toList.map a.eval).toArray = #[u] ++ args.map a.eval := by apply Array.ext'; simp
  have e3 : (#[Value.iface ty u] ++ args.map a.eval)[0]? = some (Value.iface ty u) := by rw [Array.getElem?_append_left (by simp)]; rfl
  have e4 : (#[Value.iface ty u] ++ args.map a.eval).extract 1 (#[Value.iface ty u] ++ args.map a.eval).size = args.map a.eval := by
    apply Array.ext'; simp [List.take_of_length_le]
  rw [e2]
  simp only [execOp, hop, resolve, e, Sem.run_bind, Sem.run_pure, Result.andThen_ok, invoke, e3, e4, callMethod]
  have hp : (program).run P w = .ok P w := rfl
  simp only [Sem.run_bind, hp, Result.andThen_ok, hm u w]
  exact hcall _ _

/-- Blocks that are never written any more die. -/
theorem Mem.kill (M : Mem L X w0 F w ρ h) {z : List Nat} (hz : ∀ n ∈ z, (h n).live) : Mem L X w0 (fun b => F b ∨ ∃ n ∈ z, blkOf ρ n = some b) w ρ (fun n => if n ∈ z then .dead else h n) := by
  have hlv : ∀ n, (if n ∈ z then HObj.dead else h n).live → n ∉ z ∧ (h n).live := fun n hl => by
    split at hl
    · exact hl.elim
    · rename_i e; exact ⟨e, hl⟩
  refine ⟨fun n => ?_, fun n m b hne h1 h2 => M.dis n m b hne (hlv n h1).2 (hlv m h2).2, fun n b hl hb => ?_, fun n b hl hb => M.own n b (hlv n hl).2 hb, fun b hb => ?_, M.fr, M.lay.mono fun b hb => ⟨.inl hb, rfl⟩⟩
  · show HR _ w ρ n (if n ∈ z then HObj.dead else h n)
    split
    · trivial
    · exact (M.heap n).mono (fun b hb => ⟨.inl hb, rfl⟩) (fun _ _ h => h) (fun _ _ _ => rfl)
  · obtain ⟨h1, h2⟩ := hlv n hl
    rintro (hf | ⟨m, hm, hbm⟩)
    · exact M.notF n b h2 hb hf
    · exact M.dis n m b (fun e => h1 (e ▸ hm)) h2 (hz m hm) hb hbm
  · rcases hb with hb | ⟨m, hm, hbm⟩
    · exact M.bound b hb
    · exact M.blk_lt (hz m hm) hbm

theorem look2_dead : ∀ {z : List Nat} {n : Nat}, look2 (z.map fun n => (n, HObj.dead)) n = if n ∈ z then some .dead else none
  | [], n => by simp [look2]
  | m :: z, n => by
    simp only [List.map_cons, look2, look2_dead (z := z), List.mem_cons]
    by_cases e : m = n
    · subst e; simp
    · simp [e, Ne.symm e]

theorem sound_call {fn : Nat} {all : List AV} {ob : Out} (hC : C.kill = true → ∀ b, ¬ X b) (G : Good P L E X w0 F w ρ h look fr a ev) (hfr : ∀ n, fr ≤ n → n < fr + ob.news.length → ρ n = none)
    (henter : (∀ (bs : Array Value) (w : World), (callFunc fn bs).run P w = .ok (.enter fn bs) w) → ∃ vs : List Value, ARL F w ρ all vs ∧ (execOp a.eval o).run P w = .ok (.enter fn vs.toArray) w)
    (hc : callA P L C look fr fn all = some ob) (hp : All ob.os) : Sound P L X w0 F w ρ h fr a o ob := by
  unfold callA at hc
  split at hc
  · simp only [Option.bind_eq_bind, Option.bind_eq_some_iff, Prod.exists, Option.some.injEq] at hc
    obtain ⟨hout, res, _, rfl⟩ := hc
    simp only [All] at hp
    obtain ⟨hcon, hlen, hps, hlv⟩ := hp
    generalize hσ : ddp (all.flatMap (deepA look 4)) = σ at *
    have hnd : σ.Nodup := hσ ▸ ddp_nodup _
    have hlv' : ∀ n ∈ σ, (look n).live ∧ (look n).ns σ := fun n hn => by
      have := All_iff.1 hlv _ (List.mem_map.2 ⟨n, hn, rfl⟩)
      exact this
    have hlk : ∀ n ∈ σ, look n = h n := fun n hn => G.look n (hlv' n hn).1
    obtain ⟨hcall, hcon⟩ := hcon
    obtain ⟨vs, hav, hrun⟩ := henter hcall
    let g : Nat → Nat := fun n => σ.idxOf n
    let ρ0 : Ren := fun i => if hi : i < σ.length then ρ σ[i] else none
    have hρ0 : ∀ i (hi : i < σ.length), ρ0 i = ρ σ[i] := fun i hi => dif_pos hi
    have hg : ∀ n lo, restr ρ σ n = some lo → ρ0 (g n) = some lo := fun n lo hn => by
      obtain ⟨h1, h2⟩ := restr_some hn
      have hlt := List.idxOf_lt_length_of_mem h1
      show ρ0 (σ.idxOf n) = _
      rw [hρ0 _ hlt, List.getElem_idxOf hlt]; exact h2
    have hgi : ∀ i (hi : i < σ.length), g σ[i] = i := fun i hi => by
      have hm := List.getElem_mem hi
      have hlt := List.idxOf_lt_length_of_mem hm
      exact (List.getElem_inj hnd).1 (List.getElem_idxOf hlt)
    have hin : ∀ i (hi : i < σ.length), (σ.map fun n => (look n).ren g).getD i .dead = (h σ[i]).ren g := fun i hi => by
      simp [List.getD, hi]; rw [hlk _ (List.getElem_mem hi)]
    have hin' : ∀ i, ¬ i < σ.length → (σ.map fun n => (look n).ren g).getD i .dead = .dead := fun i hi => by simp [List.getD]; rw [List.getElem?_eq_none (by omega)]; rfl
    have hX : (fun b => ∃ n, ((σ.map fun n => (look n).ren g).getD n .dead).live ∧ blkOf ρ0 n = some b) = fun b => ∃ n, n ∈ σ ∧ blkOf ρ n = some b := by
      funext b
      apply propext
      constructor
      · rintro ⟨i, hl, hb⟩
        by_cases hi : i < σ.length
        · exact ⟨σ[i], List.getElem_mem hi, by simpa [blkOf, hρ0 i hi] using hb⟩
        · rw [hin' i hi] at hl; exact hl.elim
      · rintro ⟨n, hn, hb⟩
        obtain ⟨i, hi, rfl⟩ := List.getElem_of_mem hn
        refine ⟨i, by rw [hin i hi, HObj.live_ren, ← hlk _ hn]; exact (hlv' _ hn).1, by simpa [blkOf, hρ0 i hi] using hb⟩
    have M0 : Mem L (fun b => ∃ n, n ∈ σ ∧ blkOf ρ n = some b) w F w ρ0 (fun n => (σ.map fun n => (look n).ren g).getD n .dead) := by
      refine ⟨fun i => ?_, fun i j b hne hl1 hl2 hb1 hb2 => ?_, fun i b hl hb => ?_, fun i b hl hb => ?_, G.mem.bound, ⟨rfl, rfl, rfl, Nat.le_refl _, fun _ _ _ => rfl⟩, G.mem.lay⟩
      · by_cases hi : i < σ.length
        · simp only [hin i hi]
          have hm := List.getElem_mem hi
          have hs := (hlv' _ hm).2
          rw [hlk _ hm] at hs
          have := HR.ren' (F' := F) hg (.inl fun _ h => h) (HR.restr hm hs (G.mem.heap σ[i]))
          rwa [hgi i hi] at this
        · simp only [hin' i hi]; trivial
      · by_cases hi : i < σ.length
        · by_cases hj : j < σ.length
          · simp only [hin i hi, HObj.live_ren] at hl1; simp only [hin j hj, HObj.live_ren] at hl2
            exact G.mem.dis σ[i] σ[j] b (fun e => hne ((List.getElem_inj hnd).1 e)) hl1 hl2 (by simpa [blkOf, hρ0 i hi] using hb1) (by simpa [blkOf, hρ0 j hj] using hb2)
          · simp only [hin' j hj] at hl2; exact hl2
        · simp only [hin' i hi] at hl1; exact hl1
      · by_cases hi : i < σ.length
        · simp only [hin i hi, HObj.live_ren] at hl
          exact G.mem.notF σ[i] b hl (by simpa [blkOf, hρ0 i hi] using hb)
        · simp only [hin' i hi] at hl; exact hl.elim
      · by_cases hi : i < σ.length
        · exact .inr ⟨σ[i], List.getElem_mem hi, by simpa [blkOf, hρ0 i hi] using hb⟩
        · simp only [hin' i hi] at hl; exact hl.elim
    have hcalls := hcon w vs F ρ0 (fun n hn => dif_neg (by simp at hn; omega)) (by rw [hX]; exact M0) (ARL.ren' hg _ _ (.inl fun _ h => h) (ARL.restr _ _ hps hav))
    intro next Q hnext
    unfold Oper.wp
    rw [hrun]
    refine hcalls.mono ?_
    rintro e w' ⟨v, F1, ρ1, rfl, c1, c2, c3, c4, c5, c6⟩
    rw [hX] at c5
    obtain ⟨ρ', F', hpost⟩ := call_post (fr := fr) (os := _) G.mem hnd (fun n hn => by rw [← hlk n hn]; exact (hlv' n hn).1) (fun _ h => h) hρ0 hlen (by simpa using hfr) (.inl fun _ h => h) c1 c2 c3 c4 c5 c6
    exact hnext _ _ _ _ hpost
  · simp only [Option.bind_eq_bind, Option.bind_eq_some_iff, Prod.exists] at hc
    obtain ⟨bs, z, ps, hb, hout, res, _, hc⟩ := hc
    have main : Con P L fn [] bs hout res → All ps → (∀ n, fr ≤ n → n < fr + hout.length → ρ n = none) →
        (∀ (v : Value) (F1 : Nat → Prop) (ρ1 : Ren) (w' : World), (∀ n ∈ z, (h n).live) → (∀ b, (F b ∨ ∃ n ∈ z, blkOf ρ n = some b) → F1 b) → (∀ b, F1 b → (F b ∨ ∃ n ∈ z, blkOf ρ n = some b) ∨ w.heap.size ≤ b) → (∀ n, n ≥ hout.length → ρ1 n = none) →
          Mem L (fun b => ∃ n, n ∈ ([] : List Nat) ∧ blkOf ρ n = some b) w F1 w' ρ1 (fun n => hout.getD n .dead) → AR F1 w' ρ1 res v → ∃ ρ' F', Post L X w0 F w ρ h fr ob v w' ρ' F') → Sound P L X w0 F w ρ h fr a o ob := by
      intro hcon hps hfr hfin
      obtain ⟨hcall, hcon⟩ := hcon
      obtain ⟨vs, hav, hrun⟩ := henter hcall
      let F0 : Nat → Prop := fun b => F b ∨ ∃ n ∈ z, blkOf ρ n = some b
      obtain ⟨hargs, hzl⟩ := frzL_sound G (F0 := F0) (ρ0 := fun _ => none) (fun b hb => .inl hb) hb hps (fun n hn b hbn => .inr ⟨n, hn, hbn⟩) hav
      have hX : (fun b => ∃ n, (([] : List HObj).getD n .dead).live ∧ blkOf (fun _ => none) n = some b) = fun b => ∃ n, n ∈ ([] : List Nat) ∧ blkOf ρ n = some b := by
        funext b; apply propext
        constructor
        · rintro ⟨i, hl, _⟩; simp [HObj.live] at hl
        · rintro ⟨i, hl, _⟩; cases hl
      have hbF0 : ∀ b, F0 b → b < w.heap.size := fun b hb => by
        rcases hb with hb | ⟨n, hn, hbn⟩
        · exact G.mem.bound b hb
        · exact G.mem.blk_lt (live_HR G (hzl n hn)).1 hbn
      have M0 : Mem L (fun b => ∃ n, n ∈ ([] : List Nat) ∧ blkOf ρ n = some b) w F0 w (fun _ => none) (fun n => ([] : List HObj).getD n .dead) := by
        refine ⟨fun i => ?_, fun i j b _ hl1 => ?_, fun i b hl => ?_, fun i b hl => ?_, hbF0, ⟨rfl, rfl, rfl, Nat.le_refl _, fun _ _ _ => rfl⟩, G.mem.lay.mono fun b hb => ⟨.inl hb, rfl⟩⟩
        · simp [HR]
        · simp [HObj.live] at hl1
        · simp [HObj.live] at hl
        · simp [HObj.live] at hl
      have hcalls := hcon w vs F0 (fun _ => none) (fun _ _ => rfl) (by rw [hX]; exact M0) hargs
      intro next Q hnext
      unfold Oper.wp
      rw [hrun]
      refine hcalls.mono ?_
      rintro e w' ⟨v, F1, ρ1, rfl, c1, c2, c3, c4, c5, c6⟩
      rw [hX] at c5
      obtain ⟨ρ', F', hpost⟩ := hfin v F1 ρ1 w' (fun n hn => (live_HR G (hzl n hn)).1) c1 c2 c4 c5 c6
      exact hnext _ _ ρ' F' hpost
    split at hc
    · rename_i hk
      simp only [Bool.and_eq_true] at hk
      simp only [Option.some.injEq] at hc; subst hc
      simp only [All] at hp
      refine main hp.1 hp.2 (by simpa using hfr) fun v F1 ρ1 w' hz c1 c2 c4 c5 c6 => ?_
      have M' := G.mem.kill hz
      obtain ⟨ρ', F', hpost⟩ := call_post (fr := fr) (σ := []) (ρ0 := fun _ => none) (os := Con P L fn [] bs hout res :: ps) M' List.nodup_nil (by simp) (fun b hb => hb) (by simp) (by simp) (by simpa using hfr)
        (.inl fun _ h => h) c1 c2 (fun n lo h => by cases h) c4 c5 c6
      have hp2 : Post L X w0 (fun b => F b ∨ ∃ n ∈ z, blkOf ρ n = some b) w ρ (fun n => if n ∈ z then .dead else h n) fr ⟨res.ren (fr + ·), [], hout.map (·.ren (fr + ·)), Con P L fn [] bs hout res :: ps⟩ v w' ρ' F' := by simpa using hpost
      refine ⟨ρ', F', fun b hb => hp2.stay b (.inl hb), hp2.ext, fun b hb => (hp2.fnew b hb).elim (fun h => h.elim .inl fun ⟨n, hn, hbn⟩ => (G.mem.own n b (hz n hn) hbn).elim .inr fun hx => (hC hk.1.1 b hx).elim) .inr, hp2.names, ?_, hp2.val⟩
      have e : eff h fr (z.map fun n => (n, HObj.dead)) (hout.map (·.ren (fr + ·))) = eff (fun n => if n ∈ z then .dead else h n) fr [] (hout.map (·.ren (fr + ·))) := by
        funext n
        simp only [eff, look2_dead, look2]
        by_cases hn : n ∈ z
        · simp only [if_pos hn]
          rw [if_neg (fun hr => G.mem.dead (hfr n hr.1 hr.2) (hz n hn))]
        · simp only [if_neg hn]
      have := hp2.mem
      rw [← e] at this
      exact this
    · simp only [Option.some.injEq] at hc; subst hc
      simp only [All] at hp
      obtain ⟨hcon, hz, hps⟩ := hp
      refine main hcon hps (by simpa using hfr) fun v F1 ρ1 w' hzl c1 c2 c4 c5 c6 => ?_
      obtain ⟨ρ', F', hpost⟩ := call_post (fr := fr) (σ := []) (ρ0 := fun _ => none) (os := Con P L fn [] bs hout res :: (z.isEmpty = true ∨ (res.nr ∧ ∀ o, o ∈ hout → o.nr)) :: ps) G.mem List.nodup_nil (by simp) (fun b hb => .inl hb) (by simp) (by simp) (by simpa using hfr)
        (hz.imp (fun e b hb => by have e := List.isEmpty_iff.1 e; subst e; rcases hb with hb | ⟨n, hn, _⟩; exact hb; cases hn) id) c1 c2 (fun n lo h => by cases h) c4 c5 c6
      exact ⟨ρ', F', by simpa using hpost⟩

theorem ints_of_cells {k : IntKind} : ∀ {cells : List AV} {l : List Int}, mapM' (fun x => match x with | .c (.int k' y) => if k = k' then some y else none | _ => none) cells = some l → cells = l.map fun y => .c (.int k y)
  | [], l, h => by simp only [mapM', Option.some.injEq] at h; subst h; rfl
  | x :: cells, l, h => by
    simp only [mapM', Option.bind_eq_bind, Option.bind_eq_some_iff, Option.some.injEq] at h
    obtain ⟨y, hy, r, hr, rfl⟩ := h
    rw [ints_of_cells hr]
    split at hy
    · split at hy
      · rename_i hk; simp only [Option.some.injEq] at hy; subst hy; subst hk; rfl
      · cases hy
    · cases hy

theorem bndA_cases {xo : Option Operand} {r : Option Int} (h : bndA ev xo = some r) : (xo = none ∧ r = none) ∨ ∃ z k i, xo = some z ∧ ev z = some (.c (.int k i)) ∧ r = some i := by
  unfold bndA at h
  split at h
  · simp only [Option.some.injEq] at h; exact .inl ⟨rfl, h.symm⟩
  · split at h
    · simp only [Option.some.injEq] at h
      rename_i hz
      exact .inr ⟨_, _, _, rfl, hz, h.symm⟩
    · cases h

theorem sound_indexArr {t : TypeId} {x i : Operand} {ti ei : TyI} {n e : Nat} {y z : AV} {k : IntKind} {j : Int} {ps : List Prop} (G : Good P L E X w0 F w ρ h look fr a ev) (hop : o.op = .indexAddr t x i) (ht : E t = some ti) (hti : ti.v = .arr n e) (hei : E e = some ei) (hx : ev x = some y) (hi : ev i = some (.c (.int k j)))
    (hz : (∃ m off, y = .p m off ∧ z = .p m (off + j.toNat * ei.size)) ∨ (∃ m off, y = .gp m off ∧ z = .gp m (off + j.toNat * ei.size))) (h0 : 0 ≤ j) (h1 : j < n) : Sound P L X w0 F w ρ h fr a o ⟨z, [], [], ps⟩ := by
  obtain ⟨d, hu, hv⟩ := G.env.under ht
  rw [hti] at hv
  obtain rfl := view_arr hv
  have hs := G.env.sizeOf (w := w) hei
  have hxa := G.ev _ _ hx
  have hia := G.ev _ _ hi
  simp only [AR] at hia
  have hrun : ∀ (A : Addr), a.eval x = .pointer (some A) → (Instr.indexAt t (a.eval x) (a.eval i)).run P w = .ok (.pointer (some (A.add (j.toNat * ei.size)))) w := by
    intro A e1
    rw [e1, hia]
    simp [Instr.indexAt, run_underlying hu, asIntOf, Instr.sureAddr, h0, h1, hs, Result.andThen]
  rcases hz with ⟨m, off, rfl, rfl⟩ | ⟨m, off, rfl, rfl⟩
  · simp only [AR] at hxa
    obtain ⟨b, sl, hn, e1⟩ := hxa
    refine .pure G (by simp only [execOp, hop]; exact run_v (hrun _ e1)) ?_
    simp only [AR]; exact ⟨b, sl, hn, by rw [Addr.add_lit]⟩
  · simp only [AR] at hxa
    refine .pure G (by simp only [execOp, hop]; exact run_v (hrun _ hxa)) ?_
    simp only [AR]; rw [Addr.add_lit]

/-- EVERY OPERATION: what the executor says of it is so. -/
theorem evOp_sound (hC : C.kill = true → ∀ b, ¬ X b) (G : Good P L E X w0 F w ρ h look fr a ev) (hout : evOp P L E C look fr ev o = some out) (hfr : ∀ n, fr ≤ n → n < fr + out.news.length → ρ n = none) (hp : All out.os) : Sound P L X w0 F w ρ h fr a o out := by
  unfold evOp at hout
  split at hout
  · rename_i x hop
    simp only [Option.bind_eq_bind, Option.bind_eq_some_iff, Option.val, Option.some.injEq] at hout
    obtain ⟨y, hy, rfl⟩ := hout
    exact sound_move G (.inl hop) hy
  · rename_i x hop
    simp only [Option.bind_eq_bind, Option.bind_eq_some_iff, Option.val, Option.some.injEq] at hout
    obtain ⟨y, hy, rfl⟩ := hout
    exact sound_move G (.inr hop) hy
  · rename_i t hop
    simp only [Option.bind_eq_bind, Option.bind_eq_some_iff, Option.some.injEq] at hout
    obtain ⟨ti, ht, rfl⟩ := hout
    exact sound_alloc G (hfr fr (Nat.le_refl _) (by simp)) hop ht
  · rename_i t x hop
    simp only [Option.bind_eq_bind, Option.bind_eq_some_iff] at hout
    obtain ⟨v, hv, hout⟩ := hout
    split at hout
    · rename_i h1
      simp only [Option.some.injEq] at hout; subst hout
      exact sound_box G (hfr fr (Nat.le_refl _) (by simp)) hop hv h1
    · cases hout
  · rename_i t ps hop
    simp only [Option.bind_eq_bind, Option.bind_eq_some_iff] at hout
    obtain ⟨ti, ht, parts, hps, hout⟩ := hout
    split at hout
    · rename_i fs hti
      simp only [Option.bind_eq_some_iff, Option.val, Option.some.injEq] at hout
      obtain ⟨pl, hpl, cells, hf, rfl⟩ := hout
      exact sound_build G hop ht hps (.inl ⟨fs, pl, hti, hpl, hf⟩)
    · rename_i n e hti
      simp only [Option.bind_eq_some_iff, Option.val, Option.some.injEq] at hout
      obtain ⟨ei, hei, cells, hf, rfl⟩ := hout
      exact sound_build G hop ht hps (.inr ⟨n, e, ei, hti, hei, hf⟩)
    · cases hout
  · rename_i t len ps hop
    simp only [Option.bind_eq_bind, Option.bind_eq_some_iff] at hout
    obtain ⟨ti, ht, parts, hps, hout⟩ := hout
    split at hout
    · rename_i e hti
      simp only [Option.bind_eq_some_iff] at hout
      obtain ⟨ei, hei, cells, hf, hout⟩ := hout
      split at hout
      · rename_i k hk
        simp only [Option.bind_eq_some_iff] at hout
        obtain ⟨l, hl, hout⟩ := hout
        split at hout
        · rename_i hc
          simp only [Option.some.injEq] at hout; subst hout
          exact sound_buildSlice G (hfr fr (Nat.le_refl _) (by simp)) hop ht hti hei hps hf hp.1 (by omega) (.inl ⟨k, l, rfl, hc.2, ints_of_cells hl, hc.1⟩)
        · cases hout
      · split at hout
        · rename_i hc
          simp only [Bool.and_eq_true, beq_iff_eq] at hc
          simp only [Option.some.injEq] at hout; subst hout
          exact sound_buildSlice G (hfr fr (Nat.le_refl _) (by simp)) hop ht hti hei hps hf hp.1 hp.2.1 (.inr ⟨rfl, hc.1, hc.2⟩)
        · cases hout
    · cases hout
  · rename_i t x hop
    simp only [Option.bind_eq_bind, Option.bind_eq_some_iff] at hout
    obtain ⟨ti, ht, ad, hx, hout⟩ := hout
    split at hout
    · rename_i l hh
      split at hout
      · rename_i hv
        simp only [Option.val, Option.some.injEq] at hout; subst hout
        obtain ⟨ps', hc, hp'⟩ := viewP_cells (L := L) hp.1
        exact sound_load G hop ht hx (.inl ⟨hv, hc, rfl⟩) hp'
      · rename_i hv
        split at hout
        · simp only [Option.val, Option.some.injEq] at hout; subst hout
          obtain ⟨ps', hc, hp'⟩ := viewP_cells (L := L) hp.1
          exact sound_load G hop ht hx (.inr ⟨by simpa using hv, hc, rfl⟩) hp'
        · cases hout
    rename_i hh
    split at hout
    · rename_i hv
      simp only [Option.bind_eq_some_iff, Prod.exists, Option.val, Option.some.injEq] at hout
      obtain ⟨l, ps, hc, rfl⟩ := hout
      exact sound_load G hop ht hx (.inl ⟨hv, hc, rfl⟩) hp
    · rename_i hv
      simp only [Option.bind_eq_some_iff, Prod.exists] at hout
      obtain ⟨l, ps, hc, hout⟩ := hout
      split at hout
      · simp only [Option.val, Option.some.injEq] at hout; subst hout
        exact sound_load G hop ht hx (.inr ⟨by simpa using hv, hc, rfl⟩) hp
      · cases hout
  · rename_i t x y hop
    simp only [Option.bind_eq_bind, Option.bind_eq_some_iff] at hout
    obtain ⟨ti, ht, v, hv, hout⟩ := hout
    split at hout
    · rename_i hc
      simp only [Bool.and_eq_true, decide_eq_true_eq] at hc
      simp only [Option.bind_eq_some_iff] at hout
      obtain ⟨ad, hx, hout⟩ := hout
      split at hout
      · rename_i n off
        split at hout
        · cases hout
        · rename_i hnd
          have hl : (look n).live := by cases hx : look n <;> first | trivial | (rw [hx] at hnd; exact absurd rfl hnd)
          split at hout
          · simp only [Option.some.injEq] at hout; subst hout
            obtain ⟨ps', hset, hp'⟩ := hp.1
            exact sound_store G hop ht hv hx hc.1 hc.2 hset hp' hl
          simp only [Option.bind_eq_some_iff, Prod.exists, Option.some.injEq] at hout
          obtain ⟨ob, ps, hset, rfl⟩ := hout
          exact sound_store G hop ht hv hx hc.1 hc.2 hset hp hl
      · cases hout
    · cases hout
  · rename_i x hop
    simp only [Option.bind_eq_bind, Option.bind_eq_some_iff] at hout
    obtain ⟨y, hx, hout⟩ := hout
    split at hout <;> simp only [Option.val, Option.some.injEq, reduceCtorEq] at hout <;> subst hout
    · exact sound_nilCheck G hop hx (.inl ⟨_, _, rfl⟩)
    · exact sound_nilCheck G hop hx (.inr (.inl ⟨_, _, rfl⟩))
    · exact sound_nilCheck G hop hx (.inr (.inr ⟨_, _, rfl⟩))
  · rename_i op t x y yt hop
    simp only [Option.bind_eq_bind, Option.bind_eq_some_iff, Prod.exists, Option.val, Option.some.injEq] at hout
    obtain ⟨xv, hx, yv, hy, v, ps, hb, rfl⟩ := hout
    obtain ⟨u, h1, h2⟩ := binA_sound G.env hop (G.ev _ _ hx) (G.ev _ _ hy) hb hp
    exact .pure G h1 h2
  · rename_i op t x hop
    simp only [Option.bind_eq_bind, Option.bind_eq_some_iff] at hout
    obtain ⟨y, hx, hout⟩ := hout
    split at hout <;> simp only [Option.val, Option.some.injEq, reduceCtorEq] at hout <;> subst hout
    · exact sound_unOp G hop hx (.inl ⟨_, _, rfl, rfl, rfl⟩)
    · exact sound_unOp G hop hx (.inr (.inl ⟨_, rfl, rfl, rfl⟩))
    · exact sound_unOp G hop hx (.inr (.inr ⟨_, _, rfl, rfl, rfl⟩))
  · rename_i s d x hop
    simp only [Option.bind_eq_bind, Option.bind_eq_some_iff] at hout
    obtain ⟨si, hs, di, hd, y, hx, hout⟩ := hout
    split at hout
    · rename_i hdi
      simp only [Option.val, Option.some.injEq] at hout; subst hout
      exact sound_convInt G hop hs hd hdi hx
    · rename_i hdi
      simp only [Option.val, Option.some.injEq] at hout; subst hout
      exact sound_convStr G hop hs hd hdi hx
    · rename_i hdi _
      split at hout
      · rename_i e hsi
        simp only [Option.bind_eq_some_iff] at hout
        obtain ⟨ei, hei, ⟨ob, ps⟩, hel, hout⟩ := hout
        split at hout
        · rename_i hev heq
          simp only [Prod.mk.injEq] at heq
          obtain ⟨rfl, rfl⟩ := heq
          simp only [Option.val, Option.some.injEq] at hout; subst hout
          exact sound_convBytes G hop hs hsi hd hdi hei hev hx hel (.inl rfl) hp
        · rename_i hev heq
          simp only [Prod.mk.injEq] at heq
          obtain ⟨rfl, rfl⟩ := heq
          simp only [Option.val, Option.some.injEq] at hout; subst hout
          exact sound_convBytes G hop hs hsi hd hdi hei hev hx hel (.inr ⟨rfl, rfl⟩) hp
        · cases hout
      · cases hout
    · cases hout
  · rename_i t x hop
    simp only [Option.bind_eq_bind, Option.bind_eq_some_iff] at hout
    obtain ⟨ti, ht, hout⟩ := hout
    split at hout
    · cases hout
    · rename_i hni
      simp only [Option.bind_eq_some_iff, Option.val, Option.some.injEq] at hout
      obtain ⟨y, hx, rfl⟩ := hout
      exact sound_makeInterface G hop ht hni hx
  · rename_i f first cap hop
    split at hout
    · rename_i hf
      simp only [Option.bind_eq_bind, Option.bind_eq_some_iff, Option.val, Option.some.injEq] at hout
      obtain ⟨l, hl, rfl⟩ := hout
      exact sound_makeFunc G hop hf hl
    · cases hout
  · rename_i t lo co hop
    simp only [Option.bind_eq_bind, Option.bind_eq_some_iff] at hout
    obtain ⟨ti, ht, l, hl, c, hc, hout⟩ := hout
    split at hout
    · rename_i hti
      simp only [Option.bind_eq_some_iff] at hout
      obtain ⟨ei, hei, hout⟩ := hout
      split at hout
      · rename_i k hk
        simp only [Option.some.injEq] at hout; subst hout
        obtain ⟨h0, h1, h2, h3, h4, h5, _⟩ := hp
        exact sound_makeSlice G (hfr fr (Nat.le_refl _) (by simp)) hop ht hti hei hl hc h0 h1 h2 h3 (.inl ⟨k, rfl, h4, h5⟩)
      · simp only [Option.some.injEq] at hout; subst hout
        obtain ⟨h0, h1, h2, h3, _⟩ := hp
        exact sound_makeSlice G (hfr fr (Nat.le_refl _) (by simp)) hop ht hti hei hl hc h0 h1 h2 h3 (.inr rfl)
    · cases hout
  · rename_i t x lo hi mx hop
    simp only [Option.bind_eq_bind, Option.bind_eq_some_iff] at hout
    obtain ⟨ti, ht, hout⟩ := hout
    split at hout
    · rename_i e hti
      simp only [Option.bind_eq_some_iff] at hout
      obtain ⟨ei, hei, li, hli, hi', hhi, mi, hmi, xv, hx, hout⟩ := hout
      split at hout
      · cases hout
      · rename_i hnm
        have hmh : hi' = none → mi = none := fun e => by subst e; simpa using hnm
        unfold sliceA at hout
        split at hout
        · split at hout
          · rename_i hs
            simp only [Option.val, Option.some.injEq] at hout; subst hout
            obtain ⟨h0, h1, h2, h3, _⟩ := hp
            exact sound_slice G hop ht hti hei hx (bndA_cases hli) (bndA_cases hhi) (bndA_cases hmi) hmh (.inl ⟨_, _, rfl, rfl, hs, h0, h1, h2, h3⟩)
          · cases hout
        · split at hout
          · rename_i hs
            simp only [Option.val, Option.some.injEq] at hout; subst hout
            obtain ⟨h0, h1, h2, h3, _⟩ := hp
            exact sound_slice G hop ht hti hei hx (bndA_cases hli) (bndA_cases hhi) (bndA_cases hmi) hmh (.inr (.inl ⟨_, _, rfl, rfl, hs, h0, h1, h2, h3⟩))
          · cases hout
        · split at hout
          · simp only [Option.val, Option.some.injEq] at hout; subst hout
            obtain ⟨h0, h1, h2, h3, _⟩ := hp
            exact sound_slice G hop ht hti hei hx (bndA_cases hli) (bndA_cases hhi) (bndA_cases hmi) hmh (.inr (.inr (.inl ⟨_, _, _, _, rfl, rfl, rfl, h0, h1, h2, h3⟩)))
          · simp only [Option.val, Option.some.injEq] at hout; subst hout
            obtain ⟨h0, h1, h2, h3, _⟩ := hp
            exact sound_slice G hop ht hti hei hx (bndA_cases hli) (bndA_cases hhi) (bndA_cases hmi) hmh (.inr (.inr (.inr ⟨_, _, _, _, _, .inl rfl, .inl rfl, rfl, h0, h1, h2, h3⟩)))
        · simp only [Option.val, Option.some.injEq] at hout; subst hout
          obtain ⟨h0, h1, h2, h3, _⟩ := hp
          refine sound_slice G hop ht hti hei hx (bndA_cases hli) (bndA_cases hhi) (bndA_cases hmi) hmh (.inr (.inr (.inr ⟨_, _, _, _, _, .inr rfl, ?_, rfl, h0, h1, h2, h3⟩)))
          cases mi with
          | none => exact .inr ⟨rfl, rfl, rfl⟩
          | some m => exact .inl rfl
        · cases hout
    · cases hout
  · rename_i t x i hop
    simp only [Option.bind_eq_bind, Option.bind_eq_some_iff] at hout
    obtain ⟨ti, ht, hout⟩ := hout
    split at hout
    · rename_i fs hti
      simp only [Option.bind_eq_some_iff] at hout
      obtain ⟨f, hf, fi, hfi, hout⟩ := hout
      split at hout
      · cases hout
      · rename_i hz
        simp only [Option.bind_eq_some_iff] at hout
        obtain ⟨y, hx, hout⟩ := hout
        split at hout <;> simp only [Option.val, Option.some.injEq, reduceCtorEq] at hout <;> subst hout
        · exact sound_fieldAddr G hop ht hti hf hfi hz hx (.inl ⟨_, _, rfl, rfl⟩)
        · exact sound_fieldAddr G hop ht hti hf hfi hz hx (.inr ⟨_, _, rfl, rfl⟩)
    · cases hout
  · rename_i t x i hop
    simp only [Option.bind_eq_bind, Option.bind_eq_some_iff] at hout
    obtain ⟨ti, ht, hout⟩ := hout
    split at hout
    · rename_i fs hti
      simp only [Option.bind_eq_some_iff] at hout
      obtain ⟨f, hf, fi, hfi, y, hx, hout⟩ := hout
      split at hout
      · split at hout
        · rename_i hv
          simp only [Option.val, Option.some.injEq] at hout; subst hout
          exact sound_field G hop ht hti hf hfi hx (.inl ⟨hv, rfl, hp.1⟩)
        · rename_i hv
          simp only [Option.bind_eq_some_iff, Option.val, Option.some.injEq] at hout
          obtain ⟨z, hz, rfl⟩ := hout
          exact sound_field G hop ht hti hf hfi hx (.inr ⟨by simpa using hv, hz⟩)
      · cases hout
    · cases hout
  · rename_i t x i hop
    simp only [Option.bind_eq_bind, Option.bind_eq_some_iff] at hout
    obtain ⟨ti, ht, y, hx, z, hi, hout⟩ := hout
    split at hout
    · rename_i hti
      simp only [Option.bind_eq_some_iff] at hout
      obtain ⟨ei, hei, hout⟩ := hout
      have live1 : ∀ {n : Nat} {e k l}, look n = HObj.oi e k l → 0 < l.length → (look n).live ∧ (∀ e k, look n ≠ .oi e k []) ∧ (∀ e sz, look n ≠ .oo e sz []) := fun hlk hl => by
        rw [hlk]; refine ⟨trivial, fun e k h => ?_, fun e k h => by cases h⟩
        injection h with _ _ h3; subst h3; simp at hl
      have live2 : ∀ {n : Nat} {e k l}, look n = HObj.oo e k l → 0 < l.length → (look n).live ∧ (∀ e k, look n ≠ .oi e k []) ∧ (∀ e sz, look n ≠ .oo e sz []) := fun hlk hl => by
        rw [hlk]; refine ⟨trivial, fun e k h => (by cases h), fun e k h => ?_⟩
        injection h with _ _ h3; subst h3; simp at hl
      split at hout
      · split at hout
        · rename_i hlk
          simp only [Option.val, Option.some.injEq] at hout; subst hout
          obtain ⟨h0, h1, h2, _⟩ := hp
          exact sound_indexAddr G hop ht hti hei hx hi (.inl ⟨_, _, _, _, .inl rfl, rfl, h0, h1⟩) (fun n off len cap h => by rcases h with h | h <;> cases h; exact live1 hlk h2)
        · rename_i hlk
          simp only [Option.val, Option.some.injEq] at hout; subst hout
          obtain ⟨h0, h1, h2, _⟩ := hp
          exact sound_indexAddr G hop ht hti hei hx hi (.inl ⟨_, _, _, _, .inl rfl, rfl, h0, h1⟩) (fun n off len cap h => by rcases h with h | h <;> cases h; exact live2 hlk h2)
        · cases hout
      · split at hout
        · rename_i hlk
          simp only [Option.val, Option.some.injEq] at hout; subst hout
          obtain ⟨h0, h1, h2, _⟩ := hp
          exact sound_indexAddr G hop ht hti hei hx hi (.inl ⟨_, _, _, _, .inr rfl, rfl, h0, h1⟩) (fun n off len cap h => by rcases h with h | h <;> cases h; exact live1 hlk h2)
        · rename_i hlk
          simp only [Option.val, Option.some.injEq] at hout; subst hout
          obtain ⟨h0, h1, h2, _⟩ := hp
          exact sound_indexAddr G hop ht hti hei hx hi (.inl ⟨_, _, _, _, .inr rfl, rfl, h0, h1⟩) (fun n off len cap h => by rcases h with h | h <;> cases h; exact live2 hlk h2)
        · cases hout
      · simp only [Option.val, Option.some.injEq] at hout; subst hout
        obtain ⟨h0, h1, _⟩ := hp
        exact sound_indexAddr G hop ht hti hei hx hi (.inr (.inl ⟨_, _, rfl, rfl, h0, h1⟩)) (fun n off len cap h => by rcases h with h | h <;> cases h)
      · simp only [Option.val, Option.some.injEq] at hout; subst hout
        obtain ⟨h0, h1, _⟩ := hp
        exact sound_indexAddr G hop ht hti hei hx hi (.inr (.inr ⟨_, _, rfl, rfl, h0, h1, by intro e; subst e; simp at h1; omega⟩)) (fun n off len cap h => by rcases h with h | h <;> cases h)
      · cases hout
    · rename_i hti
      simp only [Option.bind_eq_some_iff] at hout
      obtain ⟨ei, hei, hout⟩ := hout
      split at hout <;> simp only [Option.val, Option.some.injEq, reduceCtorEq] at hout <;> subst hout
      · exact sound_indexArr G hop ht hti hei hx hi (.inl ⟨_, _, rfl, rfl⟩) hp.1 hp.2.1
      · exact sound_indexArr G hop ht hti hei hx hi (.inr ⟨_, _, rfl, rfl⟩) hp.1 hp.2.1
    · cases hout
  · rename_i x i hop
    simp only [Option.bind_eq_bind, Option.bind_eq_some_iff] at hout
    obtain ⟨y, hx, hout⟩ := hout
    split at hout
    · simp only [Option.bind_eq_some_iff, Option.val, Option.some.injEq] at hout
      obtain ⟨z, hz, rfl⟩ := hout
      exact sound_extract G hop hx hz
    · cases hout
  · rename_i c hop
    obtain ⟨callee, args, ts⟩ := c
    simp only [Option.bind_eq_bind, Option.bind_eq_some_iff] at hout
    obtain ⟨as, has, hout⟩ := hout
    split at hout
    · split at hout
      · rename_i t t' d x hts
        obtain ⟨la⟩ := args
        obtain ⟨lt⟩ := ts
        subst hts
        match la, has with
        | [od, ox], has =>
          simp only [mapM', Option.bind_eq_bind, Option.bind_eq_some_iff, Option.some.injEq] at has
          obtain ⟨y1, h1, r1, ⟨y2, h2, r2, rfl, rfl⟩, e⟩ := has
          simp only [List.cons.injEq, and_true] at e
          obtain ⟨rfl, rfl⟩ := e
          exact sound_copy G hop h1 h2 hout hp
        | [], has => simp [mapM'] at has
        | [_], has => simp [mapM', Option.bind_eq_some_iff] at has
        | _ :: _ :: _ :: _, has => simp [mapM', Option.bind_eq_some_iff] at has
      · cases hout
    · exact sound_builtin G hfr hop has hout hp
    · rename_i f
      simp only [Option.bind_eq_some_iff] at hout
      obtain ⟨y, hf, hout⟩ := hout
      split at hout
      · exact sound_call hC G hfr (sound_enter G hop hf has) hout hp
      · cases hout
    · rename_i r name
      simp only [Option.bind_eq_some_iff] at hout
      obtain ⟨y, hf, hout⟩ := hout
      split at hout
      · simp only [Option.bind_eq_some_iff, Option.some.injEq] at hout
        obtain ⟨f, hf2, out', hc, rfl⟩ := hout
        simp only [All] at hp
        have := sound_call (ob := out') hC G hfr (sound_enterM G hop hf has hp.1) hc hp.2
        intro next Q hn
        exact this next Q fun v w' ρ' F' hP => hn v w' ρ' F' ⟨hP.stay, hP.ext, hP.fnew, hP.names, hP.mem, hP.val⟩
      · cases hout
  · rename_i t x i hop
    simp only [Option.bind_eq_bind, Option.bind_eq_some_iff] at hout
    obtain ⟨ti, ht, y, hx, z, hi, hout⟩ := hout
    split at hout
    · rename_i s k j hti
      simp only [Option.val, Option.some.injEq] at hout; subst hout
      simp only [All] at hp
      exact sound_index G hop ht hti hx hi hp.1 hp.2.1
    · cases hout
  · cases hout
end
end Go.Ev
