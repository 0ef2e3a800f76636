/-
  A part of the walk: contracts of functions, each proved once.
-/
import Derived.Test.YtcnklcnehpkfaaaEvRun
import Derived.Test.YtcnklcnehpkfaaaK25N
namespace Go.Proofs.Ytcnklcnehpkfaaa
open Go Go.Ev
set_option linter.unusedVariables false
set_option linter.unusedSimpArgs false
set_option maxRecDepth 20000
set_option maxHeartbeats 1000000
def rdI (k : IntKind) : AV → Option (List Int)
  | .ri k' l => if k' = k then some l else none
  | .c (.slice none 0 0) => some []
  | _ => none
theorem rdI_sub {k : IntKind} {x : AV} {l : List Int} (h : rdI k x = some l) : subA x (.ri k l) := by
  unfold rdI at h
  split at h
  · split at h
    · rename_i e; subst e; cases h; simp [subA]
    · cases h
  · cases h; simp [subA]
  · cases h
def C5 : Tab where
  own f := false
  run f h a := match f, h, a with
    | 13, [], [.a [.c (.bool mk), .c (.int .u8 ty), .c (.int .u16 sq), .c (.int .u32 tm), .c (.int .u32 sr), m, .c (.bool ex), .c (.int .u16 ek), x, l, .c (.int .i64 pad)]] => match rdI .u32 m, rdI .u8 x, rdI .u8 l with
      | some m, some x, some l => some ([], .t [.ri .u8 (Sp.enc ⟨mk, ty, sq, tm, sr, m, ex, ek, x, l, pad⟩), .c (.int .u8 (Sp.chk ⟨mk, ty, sq, tm, sr, m, ex, ek, x, l, pad⟩))])
      | _, _, _ => none
    | 15, [], [b] => match rdI .u8 b with
      | some b => some ([], .t [.a (aP (Sp.dT b).1), .c (.int .i64 (Sp.dT b).2.1), .c (.int .u8 (Sp.dT b).2.2)])
      | none => none
    | 17, [], [.a [.c (.bool mk), .c (.int .u8 ty), .c (.int .u16 sq), .c (.int .u32 tm), .c (.int .u32 sr), .ri .u32 mx, .c (.bool ex), .c (.int .u16 ek), .ri .u8 xt, .ri .u8 pl, .c (.int .i64 pad)], .a [.c (.bool mk'), .c (.int .u8 ty'), .c (.int .u16 sq'), .c (.int .u32 tm'), .c (.int .u32 sr'), m, .c (.bool ex'), .c (.int .u16 ek'), x, l, .c (.int .i64 pad')]] => match rdI .u32 m, rdI .u8 x, rdI .u8 l with
      | some m, some x, some l => some ([], .c (.bool (decide ((⟨mk, ty, sq, tm, sr, mx, ex, ek, xt, pl, pad⟩ : Sp.Pkt) = ⟨mk', ty', sq', tm', sr', m, ex', ek', x, l, pad'⟩))))
      | _, _, _ => none
    | f, h, a => C4.run f h a
theorem con_EncR (p : Sp.Pkt) {m x l : AV} (hr : Sp.pok p) (hm : rdI .u32 m = some p.mx) (hx : rdI .u8 x = some p.xt) (hl : rdI .u8 l = some p.pl) : Con Try.prog L0 13 [] [.a [.c (.bool p.mr), .c (.int .u8 p.ty), .c (.int .u16 p.sq), .c (.int .u32 p.tm), .c (.int .u32 p.sr), m, .c (.bool p.ex), .c (.int .u16 p.ek), x, l, .c (.int .i64 p.pad)]] [] (.t [.ri .u8 (Sp.enc p), .c (.int .u8 (Sp.chk p))]) :=
  (con_Enc p hr).sub (by simp [aP, subA, subA.subL, rdI_sub hm, rdI_sub hx, rdI_sub hl])
theorem con_DecR (b : List Int) {x : AV} (hx : rdI .u8 x = some b) (hb : ∀ x ∈ b, 0 ≤ x ∧ x ≤ 255) (hl : b.length ≤ 100000) : Con Try.prog L0 15 [] [x] [] (.t [.a (aP (Sp.dT b).1), .c (.int .i64 (Sp.dT b).2.1), .c (.int .u8 (Sp.dT b).2.2)]) :=
  (con_Dec b hb hl).sub (by simp [subA.subL, rdI_sub hx])
theorem con_SameR (p q : Sp.Pkt) {m x l : AV} (hp : Sp.pok p) (hq : Sp.pok q) (hl0 : p.mx.length ≤ 100000) (hm : rdI .u32 m = some q.mx) (hx : rdI .u8 x = some q.xt) (hl : rdI .u8 l = some q.pl) : Con Try.prog L0 17 [] [.a (aP p), .a [.c (.bool q.mr), .c (.int .u8 q.ty), .c (.int .u16 q.sq), .c (.int .u32 q.tm), .c (.int .u32 q.sr), m, .c (.bool q.ex), .c (.int .u16 q.ek), x, l, .c (.int .i64 q.pad)]] [] (.c (.bool (decide (p = q)))) :=
  (con_Same p q hp hq hl0).sub (by simp [aP, subA, subA.subL, rdI_sub hm, rdI_sub hx, rdI_sub hl])
namespace Sp
theorem mxl_in {b : List Int} (hb : ∀ x ∈ b, 0 ≤ x ∧ x ≤ 255) (n : Nat) : ∀ x ∈ mxl b n, 0 ≤ x ∧ x ≤ 4294967295 := fun x hx => by
  simp only [mxl, List.mem_map] at hx
  obtain ⟨i, _, rfl⟩ := hx
  exact v4_rng hb _
theorem p0_pok : pok p0 := by simp [pok, p0, r32]
theorem pk_pok {b : List Int} (hb : ∀ x ∈ b, 0 ≤ x ∧ x ≤ 255) : pok (pk b) := by
  have h1 := bt_range hb 1
  refine ⟨?_, v2_rng hb _, v4_rng hb _, v4_rng hb _, mxl_in hb _, ?_, sub_in hb, fun x hx => rest_in hb x (List.mem_of_mem_take hx)⟩
  · show 0 ≤ bt b 1 % 128 ∧ bt b 1 % 128 ≤ 255; omega
  · show 0 ≤ (if dX b = true then v2 b (12 + 4 * dM b) else 0) ∧ (if dX b = true then v2 b (12 + 4 * dM b) else 0) ≤ 65535
    have := v2_rng hb (12 + 4 * dM b)
    split <;> omega
theorem dT_or (b : List Int) : ((dT b).1 = p0 ∧ ¬ (dT b).2.2 = 0) ∨ ((dT b).1 = pk b ∧ (dT b).2.2 = 0 ∧ (dT b).2.1 = 0) := by
  simp only [dT]
  repeat' split
  all_goals first | exact .inl ⟨rfl, by simp⟩ | exact .inr ⟨rfl, rfl, rfl⟩
theorem dT_pok {b : List Int} (hb : ∀ x ∈ b, 0 ≤ x ∧ x ≤ 255) : pok (dT b).1 := by
  rcases dT_or b with h | h
  · rw [h.1]; exact p0_pok
  · rw [h.1]; exact pk_pok hb
theorem dM_le (b : List Int) : dM b ≤ 15 := by simp only [dM]; omega
theorem dT_mx (b : List Int) : (dT b).1.mx.length ≤ 15 := by
  rcases dT_or b with h | h
  · rw [h.1]; exact Nat.zero_le _
  · rw [h.1]; show (mxl b (dM b)).length ≤ 15; rw [mxl_len]; exact dM_le b
end Sp

end Go.Proofs.Ytcnklcnehpkfaaa
