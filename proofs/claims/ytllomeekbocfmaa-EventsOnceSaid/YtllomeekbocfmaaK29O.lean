/-
  A part of the walk: contracts of functions, each proved once.
-/
import Derived.Test.YtllomeekbocfmaaEvRun
import Derived.Test.YtllomeekbocfmaaK29N
namespace Go.Proofs.Ytllomeekbocfmaa
open Go Go.Ev
set_option linter.unusedVariables false
set_option linter.unusedSimpArgs false
set_option maxRecDepth 20000
namespace Sp
theorem cutL (l : List Stroke) : List.take (Int.toNat (imin (l.length : Int) 12)) (l.map aSt) = (l.take 12).map aSt := by
  rw [List.map_take]
  by_cases h : l.length ≤ 12
  · rw [List.take_of_length_le (by simp only [imin]; split <;> simp <;> omega), List.take_of_length_le (by simp; omega)]
  · simp only [imin]; rw [if_pos (by omega)]; rfl
def pkts (t : Int) (q : List Stroke) : List Sent := allp t q q.length
theorem pkts_def (t : Int) (q : List Stroke) : allp t q q.length = pkts t q := rfl
def pkt (ar : List Int) (p : List Sent) (j : Nat) : Sent := p.getD (Int.toNat (Int.tmod (ar.getD j 0) (p.length : Int))) default
theorem pkt_def (ar : List Int) (p : List Sent) (j : Nat) : p.getD (Int.toNat (Int.tmod (ar.getD j 0) (p.length : Int))) default = pkt ar p j := rfl
theorem emod_le (a : Int) {n : Nat} (h : 0 ≤ a) : a % (n : Int) ≤ a := by
  obtain ⟨m, rfl⟩ := Int.eq_ofNat_of_zero_le h
  have := Nat.mod_le m n
  rw [← Int.natCast_emod]; omega
theorem ix_rng {ar : List Int} (har : ∀ x ∈ ar, 0 ≤ x ∧ x ≤ 65535) {p : List Sent} (hp : ¬ p.length = 0) (j : Nat) : 0 ≤ Int.tmod (ar.getD j 0) (p.length : Int) ∧ Int.tmod (ar.getD j 0) (p.length : Int) < p.length ∧ Int.tmod (ar.getD j 0) (p.length : Int) ≤ 65535 := by
  have h := getD_in har (by omega) (d := 0) j
  rw [Int.tmod_eq_emod_of_nonneg h.1]
  have h1 := Int.emod_nonneg (ar.getD j 0) (show (p.length : Int) ≠ 0 by omega)
  have h2 := Int.emod_lt_of_pos (ar.getD j 0) (show 0 < (p.length : Int) by omega)
  have h3 := emod_le (ar.getD j 0) (n := p.length) h.1
  omega
theorem arw {ar : List Int} (har : ∀ x ∈ ar, 0 ≤ x ∧ x ≤ 65535) (j : Nat) : IntKind.i64.wrap (ar.getD j 0) = ar.getD j 0 := by
  have h := getD_in har (by omega) (d := 0) j
  exact wrap_i64 (by omega) (by omega)
theorem st_def (q : List Stroke) (n : Nat) : q.getD n default = st q n := rfl
theorem pkt_good {ar : List Int} (har : ∀ x ∈ ar, 0 ≤ x ∧ x ≤ 65535) {t : Int} {q : List Stroke} (hp : ¬ pkts t q = []) (j : Nat) : good t q q.length (pkt ar (pkts t q) j) := by
  have h := ix_rng har (p := pkts t q) (by simpa using hp) j
  exact getD_mem (allp_good t q q.length) (j := (Int.tmod (ar.getD j 0) ((pkts t q).length : Int)).toNat) (by show _ < (pkts t q).length; omega)
def inv (n : Nat) (m d : Int) (e : Bool) : Prop := -1 ≤ m ∧ m < n ∧ (m < 0 → e = true) ∧ 0 ≤ d ∧ d ≤ 65535
theorem imax0 {d : Int} (h : 0 ≤ d) : imax 0 d = d := by simp only [imax]; split <;> omega
theorem imax_rng {a b : Int} (h : 0 ≤ a ∧ a ≤ 65535) (h2 : 0 ≤ b ∧ b ≤ 65535) : 0 ≤ imax a b ∧ imax a b ≤ 65535 := by simp only [imax]; split <;> omega
def nx33 (s : Int × Int × Bool) (x : Sent) : Int × Int × Bool := if s.1 < x.key then (x.key, x.o.x.d, x.o.x.e) else if x.key = s.1 ∧ s.2.2 = false then (s.1, imax s.2.1 x.o.x.d, x.o.x.e) else s
def inv3 (n : Nat) (s : Int × Int × Bool) : Prop := inv n s.1 s.2.1 s.2.2
theorem inv_pos {n : Nat} {s : Int × Int × Bool} (h : inv3 n s) (he : s.2.2 = false) : 0 ≤ s.1 ∧ s.1 < n := by
  obtain ⟨a, b, c, d⟩ := h
  refine ⟨Classical.byContradiction fun hh => ?_, b⟩
  rw [c (by omega)] at he; cases he
theorem nx_new {s : Int × Int × Bool} {x : Sent} (h : s.1 < x.key) : nx33 s x = (x.key, x.o.x.d, x.o.x.e) := by simp only [nx33]; rw [if_pos h]
theorem nx_same {s : Int × Int × Bool} {x : Sent} (h : x.key = s.1) (he : s.2.2 = false) : nx33 s x = (s.1, imax s.2.1 x.o.x.d, x.o.x.e) := by simp only [nx33]; rw [if_neg (by omega), if_pos ⟨h, he⟩]
theorem nx_old {s : Int × Int × Bool} {x : Sent} (h : x.key = s.1 ∧ s.2.2 = true ∨ x.key < s.1) : nx33 s x = s := by
  simp only [nx33]; rw [if_neg (by omega), if_neg]
  rintro ⟨a, b⟩
  rcases h with h | h
  · rw [h.2] at b; cases b
  · omega
theorem inv_nx {t : Int} {q : List Stroke} {s : Int × Int × Bool} {x : Sent} (hx : good t q q.length x) (h : inv3 q.length s) : inv3 q.length (nx33 s x) := by
  obtain ⟨h1, h2, h3, h4, h5⟩ := hx
  simp only [nx33]; split
  · exact ⟨by show -1 ≤ x.key; omega, h2, fun h => by have h : x.key < 0 := h; omega, h5⟩
  · split
    · rename_i h0 h6
      obtain ⟨a, b, c, d⟩ := h
      exact ⟨a, b, fun h => by have h : s.1 < 0 := h; omega, imax_rng d h5⟩
    · exact h
theorem good_t {t : Int} {q : List Stroke} {n : Nat} {x : Sent} (hx : good t q n x) : (0 ≤ x.o.t ∧ x.o.t ≤ 4294967295) ∧ 0 ≤ x.o.x.d ∧ x.o.x.d ≤ 65535 := by
  refine ⟨?_, hx.2.2.2.2⟩; rw [hx.2.2.1]; exact ts_rng _ _ _
def rc (t : Int) (q : List Stroke) (s : Int × Int × Bool) : Rcv := rcv t q s.1 s.2.1 s.2.2
theorem start_w {t : Int} {q : List Stroke} {m : Int} (h : 0 ≤ m ∧ m < q.length) : startT (pkts t q) m = ts t q m.toNat := startT_all h.1 h.2
theorem decK_aK (k : Key) : decK (aK k) = k := rfl
theorem d_w {t : Int} {q : List Stroke} {n : Nat} {x : Sent} (hx : good t q n x) : IntKind.i64.wrap x.o.x.d = x.o.x.d := by
  have := hx.2.2.2.2; exact wrap_i64 (by omega) (by omega)
theorem decK_row (k k2 k3 : IntKind) (c t l : Int) (d : Bool) : decK [.c (.int k c), .c (.bool d), .c (.int k2 t), .c (.int k3 l)] = ⟨c, d, t, l⟩ := rfl
theorem old_of {s : Int × Int × Bool} {x : Sent} (h : x.key ≤ s.1) (h9 : x.key = s.1 → s.2.2 = true) : x.key = s.1 ∧ s.2.2 = true ∨ x.key < s.1 := by
  by_cases h0 : x.key = s.1
  · exact .inl ⟨h0, h9 h0⟩
  · exact .inr (by omega)
theorem rc_new {t : Int} {q : List Stroke} {s : Int × Int × Bool} {x : Sent} (hx : good t q q.length x) (hq : q.length ≤ 12) (h : s.1 < x.key) : hear (rc t q s) x.o.t x.o.x = rc t q (x.key, x.o.x.d, x.o.x.e) := (hear_new hx (by omega) h).1
theorem rc_same {t : Int} {q : List Stroke} {s : Int × Int × Bool} {x : Sent} (hx : good t q q.length x) (h : x.key = s.1) (he : s.2.2 = false) : hear (rc t q s) x.o.t x.o.x = rc t q (s.1, imax s.2.1 x.o.x.d, x.o.x.e) := by
  have := (hear_same (d := s.2.1) hx h).1
  simp only [rc, he]; exact this
theorem rc_old {t : Int} {q : List Stroke} {s : Int × Int × Bool} {x : Sent} (hx : good t q q.length x) (hq : q.length ≤ 12) (hi : inv3 q.length s) (h : x.key = s.1 ∧ s.2.2 = true ∨ x.key < s.1) : hear (rc t q s) x.o.t x.o.x = rc t q s := (hear_old hx (by have := hi.2.1; omega) h).1
theorem k_new {t : Int} {q : List Stroke} {s : Int × Int × Bool} {x : Sent} (hx : good t q q.length x) (hq : q.length ≤ 12) (h : s.1 < x.key) : hearK (rc t q s) x.o.t x.o.x = (if 0 ≤ s.1 ∧ s.2.2 = false then [⟨(st q s.1.toNat).c, false, ts t q s.1.toNat, s.2.1⟩] else []) ++ [⟨x.o.x.c, true, x.o.t, 0⟩] ++ (if x.o.x.e = true then [⟨x.o.x.c, false, x.o.t, x.o.x.d⟩] else []) := (hear_new hx (by omega) h).2
theorem k_00 {t : Int} {q : List Stroke} {s : Int × Int × Bool} {x : Sent} (hx : good t q q.length x) (hq : q.length ≤ 12) (h : s.1 < x.key) (he : s.2.2 = false) (hp : 0 ≤ s.1) (h2 : x.o.x.e = false) : hearK (rc t q s) x.o.t x.o.x = [⟨(st q s.1.toNat).c, false, ts t q s.1.toNat, s.2.1⟩, ⟨(st q x.key.toNat).c, true, x.o.t, 0⟩] := by
  rw [k_new hx hq h, if_pos ⟨hp, he⟩, if_neg (by simp [h2]), hx.2.2.2.1]; rfl
theorem k_01 {t : Int} {q : List Stroke} {s : Int × Int × Bool} {x : Sent} (hx : good t q q.length x) (hq : q.length ≤ 12) (h : s.1 < x.key) (he : s.2.2 = false) (hp : 0 ≤ s.1) (h2 : x.o.x.e = true) : hearK (rc t q s) x.o.t x.o.x = [⟨(st q s.1.toNat).c, false, ts t q s.1.toNat, s.2.1⟩, ⟨(st q x.key.toNat).c, true, x.o.t, 0⟩, ⟨(st q x.key.toNat).c, false, x.o.t, x.o.x.d⟩] := by
  rw [k_new hx hq h, if_pos ⟨hp, he⟩, if_pos h2, hx.2.2.2.1]; rfl
theorem k_10 {t : Int} {q : List Stroke} {s : Int × Int × Bool} {x : Sent} (hx : good t q q.length x) (hq : q.length ≤ 12) (h : s.1 < x.key) (he : s.2.2 = true) (h2 : x.o.x.e = false) : hearK (rc t q s) x.o.t x.o.x = [⟨(st q x.key.toNat).c, true, x.o.t, 0⟩] := by
  rw [k_new hx hq h, if_neg (by simp [he]), if_neg (by simp [h2]), hx.2.2.2.1]; rfl
theorem k_11 {t : Int} {q : List Stroke} {s : Int × Int × Bool} {x : Sent} (hx : good t q q.length x) (hq : q.length ≤ 12) (h : s.1 < x.key) (he : s.2.2 = true) (h2 : x.o.x.e = true) : hearK (rc t q s) x.o.t x.o.x = [⟨(st q x.key.toNat).c, true, x.o.t, 0⟩, ⟨(st q x.key.toNat).c, false, x.o.t, x.o.x.d⟩] := by
  rw [k_new hx hq h, if_neg (by simp [he]), if_pos h2, hx.2.2.2.1]; rfl
theorem k_same {t : Int} {q : List Stroke} {s : Int × Int × Bool} {x : Sent} (hx : good t q q.length x) (h : x.key = s.1) (he : s.2.2 = false) : hearK (rc t q s) x.o.t x.o.x = if x.o.x.e = true then [⟨x.o.x.c, false, x.o.t, imax s.2.1 x.o.x.d⟩] else [] := by
  have := (hear_same (d := s.2.1) hx h).2
  simp only [rc, he]; exact this
theorem k_s0 {t : Int} {q : List Stroke} {s : Int × Int × Bool} {x : Sent} (hx : good t q q.length x) (h : x.key = s.1) (he : s.2.2 = false) (h2 : x.o.x.e = false) : hearK (rc t q s) x.o.t x.o.x = [] := by
  rw [k_same hx h he, if_neg (by simp [h2])]
theorem k_s1 {t : Int} {q : List Stroke} {s : Int × Int × Bool} {x : Sent} (hx : good t q q.length x) (h : x.key = s.1) (he : s.2.2 = false) (h2 : x.o.x.e = true) : hearK (rc t q s) x.o.t x.o.x = [⟨(st q s.1.toNat).c, false, x.o.t, imax s.2.1 x.o.x.d⟩] := by
  rw [k_same hx h he, if_pos h2, hx.2.2.2.1, h]
theorem k_old {t : Int} {q : List Stroke} {s : Int × Int × Bool} {x : Sent} (hx : good t q q.length x) (hq : q.length ≤ 12) (hi : inv3 q.length s) (h : x.key = s.1 ∧ s.2.2 = true ∨ x.key < s.1) : hearK (rc t q s) x.o.t x.o.x = [] := (hear_old hx (by have := hi.2.1; omega) h).2
end Sp
theorem open_St : ∀ c, Fits [.int .u8, .int .u8, .int .u8] c → ∃ x, c = aSt x ∧ ((0 ≤ x.h ∧ x.h ≤ 255) ∧ 0 ≤ x.p ∧ x.p ≤ 255) := by
  intro c h
  simp only [Fits, Ev.Fit] at h
  obtain ⟨_, _, rfl, ⟨n0, rfl, h0⟩, _, _, rfl, ⟨n1, rfl, h1⟩, _, _, rfl, ⟨n2, rfl, h2⟩, rfl⟩ := h
  exact ⟨⟨n0, n1, n2⟩, rfl, inR_u8 h1, inR_u8 h2⟩

end Go.Proofs.Ytllomeekbocfmaa
