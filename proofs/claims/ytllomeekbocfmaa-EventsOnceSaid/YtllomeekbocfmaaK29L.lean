/-
  A part of the walk: contracts of functions, each proved once.
-/
import Derived.Test.YtllomeekbocfmaaEvRun
import Derived.Test.YtllomeekbocfmaaK29K
namespace Go.Proofs.Ytllomeekbocfmaa
open Go Go.Ev
set_option linter.unusedVariables false
set_option linter.unusedSimpArgs false
set_option maxRecDepth 20000
namespace Sp
def stp (x : Stroke) (t : Int) : Int := (t + 160 * (4 + x.p % 8)) % 4294967296
def hn (x : Stroke) : Nat := (1 + x.h % 10).toNat
def nd (x : Stroke) (t : Int) : Int := (stp x t + 160 * hn x) % 4294967296
def st (l : List Stroke) (j : Nat) : Stroke := l.getD j default
def tb (t : Int) (l : List Stroke) : Nat → Int
  | 0 => t
  | j + 1 => nd (st l j) (tb t l j)
def ts (t : Int) (l : List Stroke) (j : Nat) : Int := stp (st l j) (tb t l j)
def ld (x : Stroke) : Int := imin ((hn x : Int) * 160) 65535
def pk (t : Int) (l : List Stroke) (i k : Nat) : Sent :=
  if k < hn (st l i) then ⟨i, ⟨ts t l i, decide (k = 0), ⟨(st l i).c, false, 10, imin (((k + 1 : Nat) : Int) * 160) 65535⟩⟩⟩
  else ⟨i, ⟨ts t l i, false, ⟨(st l i).c, true, 10, ld (st l i)⟩⟩⟩
def sn (t : Int) (l : List Stroke) (i k : Nat) : Snd :=
  if k ≤ hn (st l i) then frm (st l i).c 10 (ts t l i) 160 k else fin (st l i).c 10 (ts t l i) (ld (st l i)) (hn (st l i) + 3 - k)
def pks (t : Int) (l : List Stroke) (i k : Nat) : List Sent := (List.range k).map (pk t l i)
def allp (t : Int) (l : List Stroke) (j : Nat) : List Sent := (List.range j).flatMap fun i => pks t l i (hn (st l i) + 3)
def cur (t : Int) (l : List Stroke) (i k : Nat) : List Sent := allp t l i ++ pks t l i k
theorem cur_0 (t : Int) (l : List Stroke) (i : Nat) : cur t l i 0 = allp t l i := by simp [cur, pks]
theorem cur_succ (t : Int) (l : List Stroke) (i k : Nat) : cur t l i (k + 1) = cur t l i k ++ [pk t l i k] := by simp [cur, pks, List.range_succ]
theorem cur_end (t : Int) (l : List Stroke) (i : Nat) : cur t l i (hn (st l i) + 3) = allp t l (i + 1) := by simp [cur, allp, List.range_succ]
theorem hn_rng {x : Stroke} : 1 ≤ hn x ∧ hn x ≤ 10 := by simp only [hn]; omega
theorem hn_int {x : Stroke} : (hn x : Int) = 1 + x.h % 10 := by simp only [hn]; omega
theorem stp_rng (x : Stroke) (t : Int) : 0 ≤ stp x t ∧ stp x t ≤ 4294967295 := by simp only [stp]; omega
theorem ts_rng (t : Int) (l : List Stroke) (j : Nat) : 0 ≤ ts t l j ∧ ts t l j ≤ 4294967295 := stp_rng _ _
theorem pks_len (t : Int) (l : List Stroke) (i k : Nat) : (pks t l i k).length = k := by simp [pks]
theorem allp_len (t : Int) (l : List Stroke) : ∀ j, j ≤ (allp t l j).length ∧ (allp t l j).length ≤ 13 * j
  | 0 => by simp [allp]
  | j + 1 => by
    have h := allp_len t l j
    have h2 := @hn_rng (st l j)
    rw [← cur_end]
    simp only [cur, List.length_append, pks_len]; omega
theorem cur_len (t : Int) (l : List Stroke) (i k : Nat) (hi : i ≤ 12) (hk : k ≤ 13) : (cur t l i k).length ≤ 200 := by
  have := allp_len t l i
  simp only [cur, List.length_append, pks_len]; omega
theorem sn_0 (t : Int) (l : List Stroke) (i : Nat) : (⟨true, (st l i).c, 10, ts t l i, 0, 0⟩ : Snd) = sn t l i 0 := by
  simp only [sn]; rw [if_pos (by omega)]; rfl
theorem sn_end (t : Int) (l : List Stroke) (i : Nat) : sn t l i (hn (st l i) + 3) = s0 := by
  simp only [sn]; rw [if_neg (by omega), show hn (st l i) + 3 - (hn (st l i) + 3) = 0 by omega]; rfl
theorem sn_lt {t : Int} {l : List Stroke} {i k : Nat} (h : k < hn (st l i)) :
    nxt (sn t l i k) 160 = sn t l i (k + 1) ∧ nxtE (sn t l i k) 160 = 0 ∧ nxtB (sn t l i k) 160 = true ∧ nxtO (sn t l i k) 160 = (pk t l i k).o := by
  have h2 := @hn_rng (st l i)
  obtain ⟨a, b, c, d⟩ := frm_next (c := (st l i).c) (v := 10) (t := ts t l i) (z := 160) (i := k) (by omega) (by omega) (by omega)
  have e : sn t l i k = frm (st l i).c 10 (ts t l i) 160 k := by simp only [sn]; rw [if_pos (by omega)]
  have e2 : sn t l i (k + 1) = frm (st l i).c 10 (ts t l i) 160 (k + 1) := by simp only [sn]; rw [if_pos (by omega)]
  rw [e, e2]
  exact ⟨a, b, c, by rw [d]; simp only [pk]; rw [if_pos h]⟩
theorem fin_lt {t : Int} {l : List Stroke} {i k : Nat} (h : hn (st l i) ≤ k) (h3 : k < hn (st l i) + 3) :
    nxt (fin (st l i).c 10 (ts t l i) (ld (st l i)) (hn (st l i) + 3 - k)) 160 = sn t l i (k + 1) ∧ nxtE (fin (st l i).c 10 (ts t l i) (ld (st l i)) (hn (st l i) + 3 - k)) 160 = 0 ∧ nxtB (fin (st l i).c 10 (ts t l i) (ld (st l i)) (hn (st l i) + 3 - k)) 160 = true ∧ nxtO (fin (st l i).c 10 (ts t l i) (ld (st l i)) (hn (st l i) + 3 - k)) 160 = (pk t l i k).o := by
  have h2 := @hn_rng (st l i)
  have hl := frm_rng (z := 160) (i := hn (st l i)) (by omega) (by omega)
  obtain ⟨a, b, c, d⟩ := fin_next (c := (st l i).c) (v := 10) (t := ts t l i) (z := 160) (l := ld (st l i)) (e := hn (st l i) + 3 - (k + 1)) (by omega) hl (by omega) (by omega)
  have e1 : hn (st l i) + 3 - (k + 1) + 1 = hn (st l i) + 3 - k := by omega
  rw [e1] at a b c d
  refine ⟨?_, b, c, ?_⟩
  · rw [a]; simp only [sn]; rw [if_neg (by omega)]
  · rw [d]; simp only [pk]; rw [if_neg (by omega)]
theorem sn_gt {t : Int} {l : List Stroke} {i k : Nat} (h : hn (st l i) < k) (h3 : k < hn (st l i) + 3) :
    nxt (sn t l i k) 160 = sn t l i (k + 1) ∧ nxtE (sn t l i k) 160 = 0 ∧ nxtB (sn t l i k) 160 = true ∧ nxtO (sn t l i k) 160 = (pk t l i k).o := by
  have e : sn t l i k = fin (st l i).c 10 (ts t l i) (ld (st l i)) (hn (st l i) + 3 - k) := by simp only [sn]; rw [if_neg (by omega)]
  rw [e]; exact fin_lt (by omega) h3
theorem sn_eq {t : Int} {l : List Stroke} {i k : Nat} (h : k = hn (st l i)) :
    relE (sn t l i k) = 0 ∧ nxt (rel (sn t l i k)) 160 = sn t l i (k + 1) ∧ nxtE (rel (sn t l i k)) 160 = 0 ∧ nxtB (rel (sn t l i k)) 160 = true ∧ nxtO (rel (sn t l i k)) 160 = (pk t l i k).o := by
  have h2 := @hn_rng (st l i)
  have e : sn t l i k = frm (st l i).c 10 (ts t l i) 160 k := by simp only [sn]; rw [if_pos (by omega)]
  obtain ⟨a, b⟩ := rel_frm (c := (st l i).c) (v := 10) (t := ts t l i) (z := 160) (i := k) (by omega) (by omega) (by omega)
  have e3 : rel (sn t l i k) = fin (st l i).c 10 (ts t l i) (ld (st l i)) (hn (st l i) + 3 - k) := by
    rw [e, b, h, show hn (st l i) + 3 - hn (st l i) = 3 by omega]; rfl
  rw [e3]
  exact ⟨by rw [e]; exact a, fin_lt (by omega) (by omega)⟩
theorem pk_key (t : Int) (l : List Stroke) (i k : Nat) : (pk t l i k).key = i ∧ (pk t l i k).o.t = ts t l i ∧ (pk t l i k).o.x.c = (st l i).c ∧ 0 ≤ (pk t l i k).o.x.d ∧ (pk t l i k).o.x.d ≤ 65535 := by
  have h2 := @hn_rng (st l i)
  simp only [pk]; split
  · refine ⟨rfl, rfl, rfl, ?_⟩
    exact frm_rng (z := 160) (i := k + 1) (by omega) (by omega)
  · refine ⟨rfl, rfl, rfl, ?_⟩
    exact frm_rng (z := 160) (i := hn (st l i)) (by omega) (by omega)
def good (t : Int) (l : List Stroke) (n : Nat) (x : Sent) : Prop := 0 ≤ x.key ∧ x.key < n ∧ x.o.t = ts t l x.key.toNat ∧ x.o.x.c = (st l x.key.toNat).c ∧ 0 ≤ x.o.x.d ∧ x.o.x.d ≤ 65535
theorem allp_good (t : Int) (l : List Stroke) (n : Nat) : ∀ x ∈ allp t l n, good t l n x := by
  intro x hx
  simp only [allp, List.mem_flatMap, List.mem_range, pks, List.mem_map] at hx
  obtain ⟨i, hi, k, hk, rfl⟩ := hx
  obtain ⟨a, b, c, d, e⟩ := pk_key t l i k
  refine ⟨by omega, by omega, ?_, ?_, d, e⟩
  · rw [b, a, Int.toNat_natCast]
  · rw [c, a, Int.toNat_natCast]
def startT (p : List Sent) (k : Int) : Int := ((p.find? fun x => decide (x.key = k)).map (·.o.t)).getD 0
theorem startT_all {t : Int} {l : List Stroke} {n : Nat} {k : Int} (h : 0 ≤ k) (h2 : k < n) : startT (allp t l n) k = ts t l k.toNat := by
  have hx : pk t l k.toNat 0 ∈ allp t l n := by
    simp only [allp, List.mem_flatMap, List.mem_range, pks, List.mem_map]
    exact ⟨k.toNat, by omega, 0, by omega, rfl⟩
  simp only [startT]
  cases hf : (allp t l n).find? fun x => decide (x.key = k) with
  | none =>
    have := List.find?_eq_none.1 hf _ hx
    simp [(pk_key t l k.toNat 0).1, Int.toNat_of_nonneg h] at this
  | some x =>
    have h3 := List.find?_some hf
    have h4 := allp_good t l n x (List.mem_of_find?_eq_some hf)
    simp only [decide_eq_true_eq] at h3
    rw [← h3]; exact h4.2.2.1
theorem find_take {p : List Sent} {k : Int} {j : Nat} (hj : j < p.length) (h : ∀ x ∈ p.take j, ¬ x.key = k) (h2 : (p.getD j default).key = k) : startT p k = (p.getD j default).o.t := by
  simp only [startT]
  have e : p = p.take j ++ p.getD j default :: p.drop (j + 1) := by
    rw [List.getD_eq_getElem?_getD, List.getElem?_eq_getElem hj, Option.getD_some, List.getElem_cons_drop, List.take_append_drop]
  have : p.find? (fun x => decide (x.key = k)) = some (p.getD j default) := by
    rw [e, List.find?_append, List.find?_eq_none.2 (by simpa using h), ← e]
    simp only [Option.none_or]
    rw [List.find?_cons, h2]; simp
  rw [this]; rfl
theorem find_no {p : List Sent} {k : Int} (h : ∀ x ∈ p, ¬ x.key = k) : startT p k = 0 := by
  simp only [startT]
  rw [List.find?_eq_none.2 (by simpa using h)]; rfl
theorem no_step {p : List Sent} {k : Int} {j : Nat} (hj : j < p.length) (h : ∀ x ∈ p.take j, ¬ x.key = k) (h2 : ¬ (p.getD j default).key = k) : ∀ x ∈ p.take (j + 1), ¬ x.key = k := by
  intro x hx
  rw [take_succ_getD (d := default) hj, List.mem_append] at hx
  rcases hx with hx | hx
  · exact h x hx
  · rw [List.mem_singleton] at hx; rw [hx]; exact h2
def ub (t : Int) (l : List Stroke) : Nat → Int
  | 0 => t
  | j + 1 => ub t l j + 160 * (4 + (st l j).p % 8) + 160 * hn (st l j)
def us (t : Int) (l : List Stroke) (j : Nat) : Int := ub t l j + 160 * (4 + (st l j).p % 8)
theorem tb_ub (t : Int) (l : List Stroke) : ∀ j, tb t l j % 4294967296 = ub t l j % 4294967296
  | 0 => rfl
  | j + 1 => by
    have := tb_ub t l j
    simp only [tb, ub, nd, stp]; omega
theorem ts_us (t : Int) (l : List Stroke) (j : Nat) : ts t l j = us t l j % 4294967296 := by
  have := tb_ub t l j
  simp only [ts, us, stp]; omega
theorem us_step (t : Int) (l : List Stroke) (i : Nat) : ∀ d, 640 * d ≤ us t l (i + d) - us t l i ∧ us t l (i + d) - us t l i ≤ 4000 * d
  | 0 => by simp
  | d + 1 => by
    have h := us_step t l i d
    have h1 := @hn_rng (st l (i + d))
    have e : us t l (i + (d + 1)) = us t l (i + d) + 160 * hn (st l (i + d)) + 160 * (4 + (st l (i + d + 1)).p % 8) := by
      show ub t l (i + d + 1) + _ = _
      rfl
    rw [e]; omega
theorem dif_us (t : Int) (l : List Stroke) (i j : Nat) : dif (ts t l j) (ts t l i) = (us t l j - us t l i) % 4294967296 := by
  rw [ts_us, ts_us]; simp only [dif]; rw [← Int.sub_emod]
theorem us_gap {t : Int} {l : List Stroke} {i j : Nat} (h : i < j) (hj : j ≤ 1000) : 640 ≤ us t l j - us t l i ∧ us t l j - us t l i ≤ 4000000 := by
  have h1 := us_step t l i (j - i)
  rw [show i + (j - i) = j by omega] at h1
  omega
theorem dif_fwd {t : Int} {l : List Stroke} {i j : Nat} (h : i < j) (hj : j ≤ 1000) : 0 < dif (ts t l j) (ts t l i) ∧ dif (ts t l j) (ts t l i) < 2147483648 := by
  have h1 := us_gap (t := t) (l := l) h hj
  rw [dif_us]; omega
theorem dif_bwd {t : Int} {l : List Stroke} {i j : Nat} (h : i < j) (hj : j ≤ 1000) : 2147483648 ≤ dif (ts t l i) (ts t l j) := by
  have h1 := us_gap (t := t) (l := l) h hj
  rw [dif_us]; omega
def rcv (t : Int) (l : List Stroke) (m d : Int) (e : Bool) : Rcv := if m < 0 then ⟨false, 0, 0, 0, false⟩ else ⟨true, ts t l m.toNat, (st l m.toNat).c, d, e⟩
theorem rcv_neg {t : Int} {l : List Stroke} {m d : Int} {e : Bool} (h : m < 0) : rcv t l m d e = ⟨false, 0, 0, 0, false⟩ := by simp only [rcv]; rw [if_pos h]
theorem rcv_pos {t : Int} {l : List Stroke} {m d : Int} {e : Bool} (h : 0 ≤ m) : rcv t l m d e = ⟨true, ts t l m.toNat, (st l m.toNat).c, d, e⟩ := by simp only [rcv]; rw [if_neg (by omega)]
theorem rcv_t (t : Int) (l : List Stroke) (m d : Int) (e : Bool) : 0 ≤ (rcv t l m d e).t ∧ (rcv t l m d e).t ≤ 4294967295 := by
  simp only [rcv]; split
  · exact ⟨Int.le_refl _, by show (0 : Int) ≤ _; omega⟩
  · exact ts_rng _ _ _
/-- A packet of a later key. -/
theorem hear_new {t : Int} {l : List Stroke} {n : Nat} {m d : Int} {e : Bool} {x : Sent} (hx : good t l n x) (hn : n ≤ 100) (h : m < x.key) :
    hear (rcv t l m d e) x.o.t x.o.x = rcv t l x.key x.o.x.d x.o.x.e ∧
    hearK (rcv t l m d e) x.o.t x.o.x = (if 0 ≤ m ∧ e = false then [⟨(st l m.toNat).c, false, ts t l m.toNat, d⟩] else []) ++ [⟨x.o.x.c, true, x.o.t, 0⟩] ++ (if x.o.x.e = true then [⟨x.o.x.c, false, x.o.t, x.o.x.d⟩] else []) := by
  obtain ⟨h1, h2, h3, h4, h5⟩ := hx
  have hf : fwd (rcv t l m d e) x.o.t = true := by
    by_cases hm : m < 0
    · rw [rcv_neg hm]; exact fwd_t (.inl rfl)
    · rw [rcv_pos (by omega)]; refine fwd_t (.inr ?_)
      rw [h3]; exact dif_fwd (by omega) (by omega)
  obtain ⟨a, b⟩ := he_fwd x.o.x hf
  rw [a, b]
  refine ⟨by rw [rcv_pos h1, h3, h4], ?_⟩
  by_cases hm : m < 0
  · rw [rcv_neg hm]; rw [if_neg (show ¬ ((false : Bool) = true ∧ false = false) by simp), if_neg (show ¬ (0 ≤ m ∧ e = false) by omega)]
  · rw [rcv_pos (by omega)]
    have : (0 ≤ m ∧ e = false) ↔ ((true : Bool) = true ∧ e = false) := by constructor <;> (intro h; exact ⟨by first | omega | rfl, h.2⟩)
    simp only [this]
theorem hear_same {t : Int} {l : List Stroke} {n : Nat} {m d : Int} {x : Sent} (hx : good t l n x) (h : x.key = m) :
    hear (rcv t l m d false) x.o.t x.o.x = rcv t l m (imax d x.o.x.d) x.o.x.e ∧
    hearK (rcv t l m d false) x.o.t x.o.x = if x.o.x.e = true then [⟨x.o.x.c, false, x.o.t, imax d x.o.x.d⟩] else [] := by
  obtain ⟨h1, h2, h3, h4, h5⟩ := hx
  rw [h] at h1 h2 h3 h4
  rw [rcv_pos h1, rcv_pos h1]
  have h0 : dif x.o.t (ts t l m.toNat) = 0 := by rw [h3]; simp [dif]
  have hf : fwd ⟨true, ts t l m.toNat, (st l m.toNat).c, d, false⟩ x.o.t = false := fwd_f rfl (fun h => by simp only at h; omega)
  obtain ⟨a, b⟩ := he_same hf (same_t h0 h4 rfl)
  rw [a, b, h3, h4]; exact ⟨rfl, rfl⟩
theorem hear_old {t : Int} {l : List Stroke} {n : Nat} {m d : Int} {e : Bool} {x : Sent} (hx : good t l n x) (hm : m < 100) (h : x.key = m ∧ e = true ∨ x.key < m) :
    hear (rcv t l m d e) x.o.t x.o.x = rcv t l m d e ∧ hearK (rcv t l m d e) x.o.t x.o.x = [] := by
  obtain ⟨h1, h2, h3, h4, h5⟩ := hx
  rw [rcv_pos (by omega)]
  have hk : ¬ (0 < dif x.o.t (ts t l m.toNat) ∧ dif x.o.t (ts t l m.toNat) < 2147483648) ∧ (x.key < m → 2147483648 ≤ dif x.o.t (ts t l m.toNat)) := by
    rcases h with h | h
    · have : dif x.o.t (ts t l m.toNat) = 0 := by rw [h3, h.1]; simp [dif]
      omega
    · have := dif_bwd (t := t) (l := l) (i := x.key.toNat) (j := m.toNat) (by omega) (by omega)
      rw [h3]; omega
  refine he_no (fwd_f rfl (fun h => ?_)) (same_f ?_)
  · simp only at h ⊢; omega
  · rintro ⟨a, b, c⟩
    simp only at a c
    rcases h with h | h
    · rw [h.2] at c; cases c
    · have := hk.2 h; omega
end Sp
def aSt (x : Sp.Stroke) : List AV := [.c (.int .u8 x.c), .c (.int .u8 x.h), .c (.int .u8 x.p)]
def aSent (x : Sp.Sent) : List AV := [.c (.int .i64 x.key), .c (.int .u32 x.o.t), .c (.bool x.o.m), .c (.int .u8 x.o.x.c), .c (.bool x.o.x.e), .c (.int .u8 x.o.x.v), .c (.int .u16 x.o.x.d)]
def Sp.decSt : List AV → Sp.Stroke
  | [.c (.int _ c), .c (.int _ h), .c (.int _ p)] => ⟨c, h, p⟩
  | _ => default
theorem Sp.decSt_map (l : List Sp.Stroke) : (l.map aSt).map Sp.decSt = l := by
  rw [List.map_map]; exact List.map_id'' (fun x => rfl) l
def Sp.decSent : List AV → Sp.Sent
  | [.c (.int _ k), .c (.int _ t), .c (.bool m), .c (.int _ c), .c (.bool e), .c (.int _ v), .c (.int _ d)] => ⟨k, ⟨t, m, ⟨c, e, v, d⟩⟩⟩
  | _ => default
theorem Sp.decSent_map (l : List Sp.Sent) : (l.map aSent).map Sp.decSent = l := by
  rw [List.map_map]; exact List.map_id'' (fun x => rfl) l
namespace Sp
theorem stp_w {t : Int} {l : List Stroke} {i : Nat} (h : 0 ≤ (l.getD i default).p ∧ (l.getD i default).p ≤ 255) : IntKind.u32.wrap (tb t l i + IntKind.u32.wrap (160 * IntKind.u32.wrap (4 + IntKind.u32.wrap (Int.tmod (l.getD i default).p 8)))) = ts t l i := by
  show _ = stp (l.getD i default) (tb t l i)
  rw [Int.tmod_eq_emod_of_nonneg h.1, wrap_u32 (x := _ % _) (by omega) (by omega), wrap_u32 (x := 4 + _) (by omega) (by omega), wrap_u32 (x := 160 * _) (by omega) (by omega), mod_u32]; rfl
theorem hn_w {l : List Stroke} {i : Nat} (h : 0 ≤ (l.getD i default).h ∧ (l.getD i default).h ≤ 255) : IntKind.i64.wrap (1 + Int.tmod (IntKind.i64.wrap (l.getD i default).h) 10) = (hn (st l i) : Int) := by
  rw [hn_int]; show _ = 1 + (l.getD i default).h % 10
  rw [wrap_i64 (x := (l.getD i default).h) (by omega) (by omega), Int.tmod_eq_emod_of_nonneg h.1, wrap_i64 (by omega) (by omega)]
theorem press_sn (t : Int) (l : List Stroke) (i : Nat) : press ⟨false, 0, 0, 0, 0, 0⟩ (l.getD i default).c 10 (ts t l i) = sn t l i 0 := by
  rw [← sn_0]; exact (press_s0 (v := 10) _ _ (by omega)).2
theorem press_e : pressE ⟨false, 0, 0, 0, 0, 0⟩ 10 = 0 := by decide
theorem sn_ne {t : Int} {l : List Stroke} {i k : Nat} (h : ¬ k = hn (st l i)) (h3 : k < hn (st l i) + 3) :
    nxt (sn t l i k) 160 = sn t l i (k + 1) ∧ nxtE (sn t l i k) 160 = 0 ∧ nxtB (sn t l i k) 160 = true ∧ nxtO (sn t l i k) 160 = (pk t l i k).o := by
  by_cases h4 : k < hn (st l i)
  · exact sn_lt h4
  · exact sn_gt (by omega) h3
theorem sn_e {t : Int} {l : List Stroke} {i k : Nat} (h : k = hn (st l i) + 3) : sn t l i k = s0 := by rw [h, sn_end]
theorem cur_e {t : Int} {l : List Stroke} {i k : Nat} (h : k = hn (st l i) + 3) : cur t l i k = allp t l (i + 1) := by rw [h, cur_end]
theorem nd_w (t : Int) (l : List Stroke) (i : Nat) : IntKind.u32.wrap (ts t l i + IntKind.u32.wrap (160 * IntKind.u32.wrap (hn (st l i) : Int))) = tb t l (i + 1) := by
  have := @hn_rng (st l i)
  rw [wrap_u32 (x := (hn (st l i) : Int)) (by omega) (by omega), wrap_u32 (x := 160 * _) (by omega) (by omega), mod_u32]; rfl
end Sp

end Go.Proofs.Ytllomeekbocfmaa
