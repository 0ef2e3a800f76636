/-
  A part of the walk: contracts of functions, each proved once.
-/
import Derived.Test.YtllomeekbocfmaaEvRun
import Derived.Test.YtllomeekbocfmaaK29A
namespace Go.Proofs.Ytllomeekbocfmaa
open Go Go.Ev
set_option linter.unusedVariables false
set_option linter.unusedSimpArgs false
set_option maxRecDepth 20000
namespace Sp
structure Snd where
  on : Bool
  c : Int
  v : Int
  t : Int
  l : Int
  e : Int
  deriving Inhabited
structure Tone where
  c : Int
  e : Bool
  v : Int
  d : Int
  deriving Inhabited
structure Out where
  t : Int
  m : Bool
  x : Tone
  deriving Inhabited
structure Rcv where
  on : Bool
  t : Int
  c : Int
  l : Int
  e : Bool
  deriving Inhabited
structure Key where
  c : Int
  d : Bool
  t : Int
  l : Int
  deriving Inhabited, DecidableEq
def Snd.ok (s : Snd) : Bool := valid s.on s.v s.l s.e
def s0 : Snd := ⟨false, 0, 0, 0, 0, 0⟩
def o0 : Out := ⟨0, false, ⟨0, false, 0, 0⟩⟩
def pressE (s : Snd) (v : Int) : Int := if s.ok = false then 2 else if s.on = true ∨ 0 < s.e then 9 else if 63 < v then 3 else 0
def press (s : Snd) (c v t : Int) : Snd := if pressE s v = 0 then ⟨true, c, v, t, 0, 0⟩ else s0
def relE (s : Snd) : Int := if s.ok = false then 2 else if s.on = false then 9 else 0
def rel (s : Snd) : Snd := if relE s = 0 then ⟨false, s.c, s.v, s.t, s.l, 3⟩ else s0
def nxtE (s : Snd) (n : Int) : Int := if s.ok = false then 2 else if n < 1 ∨ 8000 < n then 3 else 0
def nxtB (s : Snd) (n : Int) : Bool := decide (nxtE s n = 0) && (s.on || decide (0 < s.e))
def nxtL (s : Snd) (n : Int) : Int := if s.on = true then imin (s.l + n) 65535 else s.l
def nxt (s : Snd) (n : Int) : Snd := if nxtE s n = 0 then (if s.on = true then ⟨true, s.c, s.v, s.t, imin (s.l + n) 65535, s.e⟩ else if s.e = 0 then s else if s.e = 1 then s0 else ⟨false, s.c, s.v, s.t, s.l, s.e - 1⟩) else s0
def nxtO (s : Snd) (n : Int) : Out := if nxtB s n = true then ⟨s.t, s.on && decide (s.l = 0), ⟨s.c, !s.on, s.v, nxtL s n⟩⟩ else o0
def dif (t r : Int) : Int := (t - r) % 4294967296
def fwd (r : Rcv) (t : Int) : Bool := !r.on || (decide (0 < dif t r.t) && decide (dif t r.t < 2147483648))
def same1 (r : Rcv) (t : Int) (x : Tone) : Bool := decide (dif t r.t = 0) && (decide (x.c = r.c) && !r.e)
def hear (r : Rcv) (t : Int) (x : Tone) : Rcv := if fwd r t = true then ⟨true, t, x.c, x.d, x.e⟩ else if same1 r t x = true then ⟨r.on, r.t, r.c, imax r.l x.d, x.e⟩ else r
def hearK (r : Rcv) (t : Int) (x : Tone) : List Key :=
  if fwd r t = true then (if r.on = true ∧ r.e = false then [⟨r.c, false, r.t, r.l⟩] else []) ++ [⟨x.c, true, t, 0⟩] ++ (if x.e = true then [⟨x.c, false, t, x.d⟩] else [])
  else if same1 r t x = true then (if x.e = true then [⟨r.c, false, r.t, imax r.l x.d⟩] else []) else []
end Sp
def aS (s : Sp.Snd) : List AV := [.c (.bool s.on), .c (.int .u8 s.c), .c (.int .u8 s.v), .c (.int .u32 s.t), .c (.int .i64 s.l), .c (.int .i64 s.e)]
def aT (x : Sp.Tone) : List AV := [.c (.int .u8 x.c), .c (.bool x.e), .c (.int .u8 x.v), .c (.int .u16 x.d)]
def aO (x : Sp.Out) : List AV := [.c (.int .u32 x.t), .c (.bool x.m), .c (.int .u8 x.x.c), .c (.bool x.x.e), .c (.int .u8 x.x.v), .c (.int .u16 x.x.d)]
def aR (r : Sp.Rcv) : List AV := [.c (.bool r.on), .c (.int .u32 r.t), .c (.int .u8 r.c), .c (.int .i64 r.l), .c (.bool r.e)]
def aK (k : Sp.Key) : List AV := [.c (.int .u8 k.c), .c (.bool k.d), .c (.int .u32 k.t), .c (.int .i64 k.l)]
namespace Sp
theorem key_ext {a b : Key} (h1 : a.c = b.c) (h2 : a.d = b.d) (h3 : a.t = b.t) (h4 : a.l = b.l) : a = b := by cases a; cases b; simp_all
end Sp
def Sp.decK : List AV → Sp.Key
  | [.c (.int _ c), .c (.bool d), .c (.int _ t), .c (.int _ l)] => ⟨c, d, t, l⟩
  | _ => default
theorem Sp.decK_map (l : List Sp.Key) : (l.map aK).map Sp.decK = l := by
  rw [List.map_map]; exact List.map_id'' (fun x => rfl) l
def C1 : Tab where
  own f := f == 36
  run f h a := match f, h, a with
    | 14, [], [.rr 4 x, .rr 4 y] => none
    | f, h, a => C0.run f h a
theorem con_Same (x y : List Sp.Key) (hx : (x.length : Int) ≤ 9223372036854775807) : Con Try.prog L0 14 [] [.rr 4 (x.map aK), .rr 4 (y.map aK)] [] (.c (.bool (decide ((x.map aK).map Sp.decK = (y.map aK).map Sp.decK)))) := by
  rw [Sp.decK_map, Sp.decK_map]
  refine con_of_run C0 (.t (.t (.b ((↑(List.map aK x).length : Int) != (↑(List.map aK y).length : Int)) (.r (.c (.bool false))) (.t (.k [0, 1, 4, 5] (.l (cA Try.f14 [1, 1, 0, 1, 0]) (fA Try.f14 [1, 1, 0, 1, 0]) (.mk [(0, .rr 4 (List.map aK x)), (1, .rr 4 (List.map aK y)), (4, .c (.bool false)), (5, .c (.int .i64 0))] []))))))) E_ok mixed Try.func14 rfl Try.call14 (Nat.le_of_ble_eq_true rfl) (by kernel_rfl) ?_
  refine .t (.t (.b (fun h1 => ?_) (fun h1 => ?_)))
  · simp (disch := omega) only [List.length_map] at h1
    simp [-List.getD_eq_getElem?_getD] at h1
    exact .r (by rw [same_lenG h1])
  · simp (disch := omega) only [List.length_map] at h1
    simp [-List.getD_eq_getElem?_getD] at h1
    refine .t (.k (.l (VC.loopA (Y := {j : Nat // j ≤ x.length ∧ x.take j = y.take j}) (fun j => ⟨[(0, .rr 4 (x.map aK)), (1, .rr 4 (y.map aK)), (4, .c (.bool false)), (5, .c (.int .i64 (j.1 : Nat)))], []⟩) (fun j => (x.length - j.1)) ⟨0, by omega, by simp⟩ (body := cA Try.f14 [1, 1, 0, 1, 0, 0]) (by kernel_rfl) (.mapR [] [] (by kernel_rfl) (by kernel_rfl) (by kernel_rfl)) ?_)))
    intro ⟨j, hj, hs⟩
    refine VC.run 1 C0 (.t (.b (decide ((↑j : Int) < (↑(List.map aK x).length : Int))) (.v [(19, [.c (.int .u8 (x.getD j default).c), .c (.bool (x.getD j default).d), .c (.int .u32 (x.getD j default).t), .c (.int .i64 (x.getD j default).l)]), (23, [.c (.int .u8 (y.getD j default).c), .c (.bool (y.getD j default).d), .c (.int .u32 (y.getD j default).t), .c (.int .i64 (y.getD j default).l)])] [] (.p (0 ≤ (↑j : Int)) (.p ((↑j : Int) < (↑(List.map aK x).length : Int)) (.p (Sp.roAt (.rr 4 (List.map aK x)) ((↑j : Int).toNat * 4) 4 [.c (.int .u8 (x.getD j default).c), .c (.bool (x.getD j default).d), .c (.int .u32 (x.getD j default).t), .c (.int .i64 (x.getD j default).l)]) (.p (0 ≤ (↑j : Int)) (.p ((↑j : Int) < (↑(List.map aK y).length : Int)) (.p (Sp.roAt (.rr 4 (List.map aK y)) ((↑j : Int).toNat * 4) 4 [.c (.int .u8 (y.getD j default).c), .c (.bool (y.getD j default).d), .c (.int .u32 (y.getD j default).t), .c (.int .i64 (y.getD j default).l)]) (.b (!((x.getD j default).c == (y.getD j default).c && ((x.getD j default).d == (y.getD j default).d && ((x.getD j default).t == (y.getD j default).t && ((x.getD j default).l == (y.getD j default).l && true))))) (.r (.c (.bool false))) (.t (.i 5 (IntKind.wrap .i64 ((↑j : Int) + 1)) ((↑j : Int) + 1) (.k [0, 1, 4, 5] (.e .normal (.mk [(0, .rr 4 (List.map aK x)), (1, .rr 4 (List.map aK y)), (4, .c (.bool false)), (5, .c (.int .i64 ((↑j : Int) + 1)))] []))))))))))))) (.k [4] (.e (.exit 0) (.mk [(4, .c (.bool false))] []))))) E_ok mixed (by kernel_rfl) ?_
    refine .t (.b (fun h2 => ?_) (fun h2 => ?_))
    · simp (disch := omega) only [List.length_map] at h2
      simp [-List.getD_eq_getElem?_getD] at h2
      refine .v (.o (.q (by simp at *; omega) (.q (by exact Sp.ro_row default (j := j) (k := 0) (by first | omega | (simp; omega) | (simp at *; omega)) (by omega) (fun _ => rfl) (by decide) rfl) (.o (.q (by simp at *; omega) (.q (by exact Sp.ro_row default (j := j) (k := 0) (by first | omega | (simp; omega) | (simp at *; omega)) (by omega) (fun _ => rfl) (by decide) rfl) (.b (fun h3 => ?_) (fun h3 => ?_))))))))
      · simp [-List.getD_eq_getElem?_getD] at h3
        exact .r (by rw [same_neG (j := j) (fun h => by simp [-List.getD_eq_getElem?_getD, h] at h3)])
      · simp [-List.getD_eq_getElem?_getD] at h3
        exact .t (.i' (.k (.e (.next (⟨j + 1, by omega, take_stepG (by omega) h1 hs (Sp.key_ext (by simp_all) (by simp_all) (by simp_all) (by simp_all))⟩) (by dsimp only; omega) (.mapR [] [] (by kernel_rfl) (by kernel_rfl) (by kernel_rfl))))))
    · simp (disch := omega) only [List.length_map] at h2
      simp [-List.getD_eq_getElem?_getD] at h2
      refine .k (.e (.out ?_))
      refine KE.run 2 C0 (.r (.c (.bool true))) E_ok mixed (by kernel_rfl) ?_
      exact .r (by rw [same_endG hj h2 h1 hs])
namespace Sp
theorem valid_rng {s : Snd} (h : valid s.on s.v s.l s.e = true) : s.v ≤ 63 ∧ 0 ≤ s.l ∧ s.l ≤ 65535 ∧ 0 ≤ s.e ∧ s.e ≤ 3 ∧ ¬ (s.on = true ∧ 0 < s.e) := by
  simp only [valid, Bool.and_eq_true, decide_eq_true_eq, Bool.not_eq_true', Bool.and_eq_false_iff, decide_eq_false_iff_not] at h
  obtain ⟨⟨⟨⟨⟨a, b⟩, c⟩, d⟩, e⟩, x⟩ := h
  refine ⟨a, b, c, d, e, fun g => ?_⟩
  rcases x with x | x
  · rw [g.1] at x; cases x
  · exact x g.2
theorem re2 {s : Snd} (h : valid s.on s.v s.l s.e = false) : relE s = 2 ∧ rel s = s0 := by
  have : relE s = 2 := by simp [relE, Snd.ok, h]
  simp [rel, this]
theorem re9 {s : Snd} (h : valid s.on s.v s.l s.e = true) (h2 : s.on = false) : relE s = 9 ∧ rel s = s0 := by
  have : relE s = 9 := by simp only [relE, Snd.ok, h]; rw [if_neg (by simp), if_pos h2]
  simp [rel, this]
theorem re0 {s : Snd} (h : valid s.on s.v s.l s.e = true) (h2 : s.on = true) : relE s = 0 ∧ rel s = ⟨false, s.c, s.v, s.t, s.l, 3⟩ := by
  have : relE s = 0 := by simp only [relE, Snd.ok, h]; rw [if_neg (by simp), if_neg (by simp [h2])]
  simp [rel, this]
theorem pr_bad {s : Snd} {c v t : Int} (h : pressE s v ≠ 0) : press s c v t = s0 := by simp [press, h]
theorem pr2 {s : Snd} (v : Int) (h : valid s.on s.v s.l s.e = false) : pressE s v = 2 := by simp [pressE, Snd.ok, h]
theorem pr9 {s : Snd} (v : Int) (h : valid s.on s.v s.l s.e = true) (h2 : s.on = true ∨ ¬ s.e ≤ 0) : pressE s v = 9 := by
  simp only [pressE, Snd.ok, h]; rw [if_neg (by simp), if_pos]
  rcases h2 with h2 | h2
  · exact .inl h2
  · exact .inr (by omega)
theorem pr3 {s : Snd} {v : Int} (h : valid s.on s.v s.l s.e = true) (h2 : s.on = false) (h3 : s.e ≤ 0) (h4 : 63 < v) : pressE s v = 3 := by
  simp only [pressE, Snd.ok, h]; rw [if_neg (by simp), if_neg (by rw [h2]; simp; omega), if_pos h4]
theorem pr0 {s : Snd} {v : Int} (c t : Int) (h : valid s.on s.v s.l s.e = true) (h2 : s.on = false) (h3 : s.e ≤ 0) (h4 : v ≤ 63) : pressE s v = 0 ∧ press s c v t = ⟨true, c, v, t, 0, 0⟩ := by
  have : pressE s v = 0 := by simp only [pressE, Snd.ok, h]; rw [if_neg (by simp), if_neg (by rw [h2]; simp; omega), if_neg (by omega)]
  simp [press, this]
theorem nx_bad {s : Snd} {n : Int} (h : nxtE s n ≠ 0) : nxt s n = s0 ∧ nxtO s n = o0 ∧ nxtB s n = false := by
  have hb : nxtB s n = false := by simp [nxtB, h]
  simp [nxt, nxtO, h, hb]
theorem nx2 {s : Snd} (n : Int) (h : valid s.on s.v s.l s.e = false) : nxtE s n = 2 := by simp [nxtE, Snd.ok, h]
theorem nx3 {s : Snd} {n : Int} (h : valid s.on s.v s.l s.e = true) (h2 : n < 1 ∨ 8000 < n) : nxtE s n = 3 := by simp [nxtE, Snd.ok, h, h2]
theorem nx0 {s : Snd} {n : Int} (h : valid s.on s.v s.l s.e = true) (h2 : 1 ≤ n ∧ n ≤ 8000) : nxtE s n = 0 := by
  simp only [nxtE, Snd.ok, h]; rw [if_neg (by simp), if_neg (by omega)]
theorem min_rng {x : Int} (h : 0 ≤ x) : 0 ≤ imin x 65535 ∧ imin x 65535 ≤ 65535 := by simp only [imin]; split <;> omega
theorem nx_on {s : Snd} {n : Int} (h : valid s.on s.v s.l s.e = true) (h2 : 1 ≤ n ∧ n ≤ 8000) (h3 : s.on = true) : nxt s n = ⟨true, s.c, s.v, s.t, imin (s.l + n) 65535, s.e⟩ ∧ nxtO s n = ⟨s.t, decide (s.l = 0), ⟨s.c, false, s.v, imin (s.l + n) 65535⟩⟩ ∧ nxtB s n = true := by
  have h0 := nx0 h h2
  have hb : nxtB s n = true := by simp [nxtB, h0, h3]
  simp [nxt, nxtO, h0, hb, h3, nxtL]
theorem nx_off {s : Snd} {n : Int} (h : valid s.on s.v s.l s.e = true) (h2 : 1 ≤ n ∧ n ≤ 8000) (h3 : s.on = false) (h4 : s.e ≤ 0) : nxt s n = s ∧ nxtO s n = o0 ∧ nxtB s n = false := by
  have h0 := nx0 h h2
  have he : s.e = 0 := by have := valid_rng h; omega
  have hb : nxtB s n = false := by simp [nxtB, h3]; omega
  simp [nxt, nxtO, h0, hb, h3, he]
theorem nx_1 {s : Snd} {n : Int} (h : valid s.on s.v s.l s.e = true) (h2 : 1 ≤ n ∧ n ≤ 8000) (h3 : s.on = false) (h4 : s.e = 1) : nxt s n = s0 ∧ nxtO s n = ⟨s.t, false, ⟨s.c, true, s.v, s.l⟩⟩ ∧ nxtB s n = true := by
  have h0 := nx0 h h2
  have hb : nxtB s n = true := by simp [nxtB, h0, h3]; omega
  simp [nxt, nxtO, h0, hb, h3, h4, nxtL]
theorem nx_2 {s : Snd} {n : Int} (h : valid s.on s.v s.l s.e = true) (h2 : 1 ≤ n ∧ n ≤ 8000) (h3 : s.on = false) (h4 : 1 < s.e) : nxt s n = ⟨false, s.c, s.v, s.t, s.l, s.e - 1⟩ ∧ nxtO s n = ⟨s.t, false, ⟨s.c, true, s.v, s.l⟩⟩ ∧ nxtB s n = true := by
  have h0 := nx0 h h2
  have hb : nxtB s n = true := by simp [nxtB, h0, h3]; omega
  have e0 : ¬ s.e = 0 := by omega
  have e1 : ¬ s.e = 1 := by omega
  simp [nxt, nxtO, h0, hb, h3, e0, e1, nxtL]
end Sp
theorem con_Press (s : Sp.Snd) (c v t : Int) : Con Try.prog L0 24 [] [.a (aS s), .c (.int .u8 c), .c (.int .u8 v), .c (.int .u32 t)] [] (.t [.a (aS (Sp.press s c v t)), .c (.int .u8 (Sp.pressE s v))]) := by
  refine con_of_run C0 (.p (Con Try.prog L0 38 [] [.a [.c (.bool s.on), .c (.int .u8 s.c), .c (.int .u8 s.v), .c (.int .u32 s.t), .c (.int .i64 s.l), .c (.int .i64 s.e)]] [] (.c (.bool (Sp.valid s.on s.v s.l s.e)))) (.p (true = true ∨ True ∧ ∀ (o : HObj), o ∈ [] → o.nr) (.b (!Sp.valid s.on s.v s.l s.e) (.p (0 < 6) (.p (1 < 6) (.p (2 < 6) (.p (3 < 6) (.p (4 < 6) (.p (5 < 6) (.r (.t [.a [.c (.bool false), .c (.int .u8 0), .c (.int .u8 0), .c (.int .u32 0), .c (.int .i64 0), .c (.int .i64 0)], .c (.int .u8 2)])))))))) (.p ((!s.on) = true → (!s.on) = true ∧ True) (.p ((!s.on) = true → (!s.on) = true ∧ True) (.p (s.on = true → True) (.p (s.on = false → (!s.on) = true ∧ True) (.b (if s.on = true then true else decide (0 < s.e)) (.p (0 < 6) (.p (1 < 6) (.p (2 < 6) (.p (3 < 6) (.p (4 < 6) (.p (5 < 6) (.r (.t [.a [.c (.bool false), .c (.int .u8 0), .c (.int .u8 0), .c (.int .u32 0), .c (.int .i64 0), .c (.int .i64 0)], .c (.int .u8 9)])))))))) (.t (.b (decide (63 < v)) (.p (0 < 6) (.p (1 < 6) (.p (2 < 6) (.p (3 < 6) (.p (4 < 6) (.p (5 < 6) (.r (.t [.a [.c (.bool false), .c (.int .u8 0), .c (.int .u8 0), .c (.int .u32 0), .c (.int .i64 0), .c (.int .i64 0)], .c (.int .u8 3)])))))))) (.p (0 < 6) (.p (1 < 6) (.p (2 < 6) (.p (3 < 6) (.p (4 < 6) (.p (5 < 6) (.r (.t [.a [.c (.bool true), .c (.int .u8 c), .c (.int .u8 v), .c (.int .u32 t), .c (.int .i64 0), .c (.int .i64 0)], .c (.int .u8 0)])))))))))))))))))) E_ok mixed Try.func24 rfl Try.call24 (Nat.le_of_ble_eq_true rfl) (by kernel_rfl) ?_
  refine .q (by exact con_valid _ _ _ _ _ _) (.q (by simp) (.b (fun h1 => ?_) (fun h1 => ?_)))
  · simp [-List.getD_eq_getElem?_getD] at h1
    exact .p (.p (.p (.p (.p (.p (.r (by simp only [aS]; have hp := Sp.pr2 v h1; have hq := Sp.pr_bad (c := c) (t := t) (show Sp.pressE s v ≠ 0 by simp [hp]); simp [hp, hq, Sp.s0])))))))
  · simp [-List.getD_eq_getElem?_getD] at h1
    refine .h (.h (.h (.h (.b (fun h2 => ?_) (fun h2 => ?_)))))
    · simp [-List.getD_eq_getElem?_getD] at h2
      exact .p (.p (.p (.p (.p (.p (.r (by simp only [aS]; have hx := Sp.valid_rng h1; have hp := Sp.pr9 v h1 (h2.imp id (by omega)); have hq := Sp.pr_bad (c := c) (t := t) (show Sp.pressE s v ≠ 0 by simp [hp]); simp [hp, hq, Sp.s0])))))))
    · simp [-List.getD_eq_getElem?_getD] at h2
      refine .t (.b (fun h3 => ?_) (fun h3 => ?_))
      · simp [-List.getD_eq_getElem?_getD] at h3
        exact .p (.p (.p (.p (.p (.p (.r (by simp only [aS]; have hx := Sp.valid_rng h1; have hp := (Sp.pr3 h1 h2.1 (by omega) h3); have hq := Sp.pr_bad (c := c) (t := t) (show Sp.pressE s v ≠ 0 by simp [hp]); simp [hp, hq, Sp.s0])))))))
      · simp [-List.getD_eq_getElem?_getD] at h3
        exact .p (.p (.p (.p (.p (.p (.r (by simp only [aS]; have hx := Sp.valid_rng h1; simp [Sp.pr0 c t h1 h2.1 (by omega) h3])))))))
theorem con_rPress (s : Sp.Snd) (c v t : Int) : Con Try.prog L0 25 [] [.a (aS s), .c (.int .u8 c), .c (.int .u8 v), .c (.int .u32 t)] [] (.t [.a (aS (Sp.press s c v t)), .c (.int .u8 (Sp.pressE s v))]) := by
  refine con_of_run C0 (.p (Con Try.prog L0 39 [] [.a [.c (.bool s.on), .c (.int .u8 s.c), .c (.int .u8 s.v), .c (.int .u32 s.t), .c (.int .i64 s.l), .c (.int .i64 s.e)]] [] (.c (.bool (Sp.valid s.on s.v s.l s.e)))) (.p (true = true ∨ True ∧ ∀ (o : HObj), o ∈ [] → o.nr) (.b (!Sp.valid s.on s.v s.l s.e) (.p (0 < 6) (.p (1 < 6) (.p (2 < 6) (.p (3 < 6) (.p (4 < 6) (.p (5 < 6) (.r (.t [.a [.c (.bool false), .c (.int .u8 0), .c (.int .u8 0), .c (.int .u32 0), .c (.int .i64 0), .c (.int .i64 0)], .c (.int .u8 2)])))))))) (.p ((!s.on) = true → (!s.on) = true ∧ True) (.p ((!s.on) = true → (!s.on) = true ∧ True) (.p (s.on = true → True) (.p (s.on = false → (!s.on) = true ∧ True) (.b (if s.on = true then true else s.e != 0) (.p (0 < 6) (.p (1 < 6) (.p (2 < 6) (.p (3 < 6) (.p (4 < 6) (.p (5 < 6) (.r (.t [.a [.c (.bool false), .c (.int .u8 0), .c (.int .u8 0), .c (.int .u32 0), .c (.int .i64 0), .c (.int .i64 0)], .c (.int .u8 9)])))))))) (.t (.b (decide (63 < v)) (.p (0 < 6) (.p (1 < 6) (.p (2 < 6) (.p (3 < 6) (.p (4 < 6) (.p (5 < 6) (.r (.t [.a [.c (.bool false), .c (.int .u8 0), .c (.int .u8 0), .c (.int .u32 0), .c (.int .i64 0), .c (.int .i64 0)], .c (.int .u8 3)])))))))) (.p (0 < 6) (.p (1 < 6) (.p (2 < 6) (.p (3 < 6) (.p (4 < 6) (.p (5 < 6) (.r (.t [.a [.c (.bool true), .c (.int .u8 c), .c (.int .u8 v), .c (.int .u32 t), .c (.int .i64 0), .c (.int .i64 0)], .c (.int .u8 0)])))))))))))))))))) E_ok mixed Try.func25 rfl Try.call25 (Nat.le_of_ble_eq_true rfl) (by kernel_rfl) ?_
  refine .q (by exact con_Valid _ _ _ _ _ _) (.q (by simp) (.b (fun h1 => ?_) (fun h1 => ?_)))
  · simp [-List.getD_eq_getElem?_getD] at h1
    exact .p (.p (.p (.p (.p (.p (.r (by simp only [aS]; have hp := Sp.pr2 v h1; have hq := Sp.pr_bad (c := c) (t := t) (show Sp.pressE s v ≠ 0 by simp [hp]); simp [hp, hq, Sp.s0])))))))
  · simp [-List.getD_eq_getElem?_getD] at h1
    refine .h (.h (.h (.h (.b (fun h2 => ?_) (fun h2 => ?_)))))
    · simp [-List.getD_eq_getElem?_getD] at h2
      exact .p (.p (.p (.p (.p (.p (.r (by simp only [aS]; have hx := Sp.valid_rng h1; have hp := Sp.pr9 v h1 (h2.imp id (by omega)); have hq := Sp.pr_bad (c := c) (t := t) (show Sp.pressE s v ≠ 0 by simp [hp]); simp [hp, hq, Sp.s0])))))))
    · simp [-List.getD_eq_getElem?_getD] at h2
      refine .t (.b (fun h3 => ?_) (fun h3 => ?_))
      · simp [-List.getD_eq_getElem?_getD] at h3
        exact .p (.p (.p (.p (.p (.p (.r (by simp only [aS]; have hx := Sp.valid_rng h1; have hp := (Sp.pr3 h1 h2.1 (by omega) h3); have hq := Sp.pr_bad (c := c) (t := t) (show Sp.pressE s v ≠ 0 by simp [hp]); simp [hp, hq, Sp.s0])))))))
      · simp [-List.getD_eq_getElem?_getD] at h3
        exact .p (.p (.p (.p (.p (.p (.r (by simp only [aS]; have hx := Sp.valid_rng h1; simp [Sp.pr0 c t h1 h2.1 (by omega) h3])))))))
theorem con_Rel (s : Sp.Snd) : Con Try.prog L0 26 [] [.a (aS s)] [] (.t [.a (aS (Sp.rel s)), .c (.int .u8 (Sp.relE s))]) := by
  refine con_of_run C0 (.p (Con Try.prog L0 38 [] [.a [.c (.bool s.on), .c (.int .u8 s.c), .c (.int .u8 s.v), .c (.int .u32 s.t), .c (.int .i64 s.l), .c (.int .i64 s.e)]] [] (.c (.bool (Sp.valid s.on s.v s.l s.e)))) (.p (true = true ∨ True ∧ ∀ (o : HObj), o ∈ [] → o.nr) (.b (!Sp.valid s.on s.v s.l s.e) (.p (0 < 6) (.p (1 < 6) (.p (2 < 6) (.p (3 < 6) (.p (4 < 6) (.p (5 < 6) (.r (.t [.a [.c (.bool false), .c (.int .u8 0), .c (.int .u8 0), .c (.int .u32 0), .c (.int .i64 0), .c (.int .i64 0)], .c (.int .u8 2)])))))))) (.t (.b (!s.on) (.p (0 < 6) (.p (1 < 6) (.p (2 < 6) (.p (3 < 6) (.p (4 < 6) (.p (5 < 6) (.r (.t [.a [.c (.bool false), .c (.int .u8 0), .c (.int .u8 0), .c (.int .u32 0), .c (.int .i64 0), .c (.int .i64 0)], .c (.int .u8 9)])))))))) (.p (0 < 6) (.p (5 < 6) (.p (0 < 6) (.p (1 < 6) (.p (2 < 6) (.p (3 < 6) (.p (4 < 6) (.p (5 < 6) (.r (.t [.a [.c (.bool false), .c (.int .u8 s.c), .c (.int .u8 s.v), .c (.int .u32 s.t), .c (.int .i64 s.l), .c (.int .i64 3)], .c (.int .u8 0)]))))))))))))))) E_ok mixed Try.func26 rfl Try.call26 (Nat.le_of_ble_eq_true rfl) (by kernel_rfl) ?_
  refine .q (by exact con_valid _ _ _ _ _ _) (.q (by simp) (.b (fun h1 => ?_) (fun h1 => ?_)))
  · simp [-List.getD_eq_getElem?_getD] at h1
    exact .p (.p (.p (.p (.p (.p (.r (by simp only [aS]; simp [Sp.re2 h1, Sp.s0])))))))
  · simp [-List.getD_eq_getElem?_getD] at h1
    refine .t (.b (fun h2 => ?_) (fun h2 => ?_))
    · simp [-List.getD_eq_getElem?_getD] at h2
      exact .p (.p (.p (.p (.p (.p (.r (by simp only [aS]; simp [Sp.re9 h1 h2, Sp.s0])))))))
    · simp [-List.getD_eq_getElem?_getD] at h2
      exact .p (.p (.p (.p (.p (.p (.p (.p (.r (by simp only [aS]; simp [Sp.re0 h1 h2])))))))))
theorem con_rRel (s : Sp.Snd) : Con Try.prog L0 27 [] [.a (aS s)] [] (.t [.a (aS (Sp.rel s)), .c (.int .u8 (Sp.relE s))]) := by
  refine con_of_run C0 (.p (Con Try.prog L0 39 [] [.a [.c (.bool s.on), .c (.int .u8 s.c), .c (.int .u8 s.v), .c (.int .u32 s.t), .c (.int .i64 s.l), .c (.int .i64 s.e)]] [] (.c (.bool (Sp.valid s.on s.v s.l s.e)))) (.p (true = true ∨ True ∧ ∀ (o : HObj), o ∈ [] → o.nr) (.b (!Sp.valid s.on s.v s.l s.e) (.p (0 < 6) (.p (1 < 6) (.p (2 < 6) (.p (3 < 6) (.p (4 < 6) (.p (5 < 6) (.r (.t [.a [.c (.bool false), .c (.int .u8 0), .c (.int .u8 0), .c (.int .u32 0), .c (.int .i64 0), .c (.int .i64 0)], .c (.int .u8 2)])))))))) (.t (.b (!s.on) (.p (0 < 6) (.p (1 < 6) (.p (2 < 6) (.p (3 < 6) (.p (4 < 6) (.p (5 < 6) (.r (.t [.a [.c (.bool false), .c (.int .u8 0), .c (.int .u8 0), .c (.int .u32 0), .c (.int .i64 0), .c (.int .i64 0)], .c (.int .u8 9)])))))))) (.p (0 < 6) (.p (5 < 6) (.p (0 < 6) (.p (1 < 6) (.p (2 < 6) (.p (3 < 6) (.p (4 < 6) (.p (5 < 6) (.r (.t [.a [.c (.bool false), .c (.int .u8 s.c), .c (.int .u8 s.v), .c (.int .u32 s.t), .c (.int .i64 s.l), .c (.int .i64 3)], .c (.int .u8 0)]))))))))))))))) E_ok mixed Try.func27 rfl Try.call27 (Nat.le_of_ble_eq_true rfl) (by kernel_rfl) ?_
  refine .q (by exact con_Valid _ _ _ _ _ _) (.q (by simp) (.b (fun h1 => ?_) (fun h1 => ?_)))
  · simp [-List.getD_eq_getElem?_getD] at h1
    exact .p (.p (.p (.p (.p (.p (.r (by simp only [aS]; simp [Sp.re2 h1, Sp.s0])))))))
  · simp [-List.getD_eq_getElem?_getD] at h1
    refine .t (.b (fun h2 => ?_) (fun h2 => ?_))
    · simp [-List.getD_eq_getElem?_getD] at h2
      exact .p (.p (.p (.p (.p (.p (.r (by simp only [aS]; simp [Sp.re9 h1 h2, Sp.s0])))))))
    · simp [-List.getD_eq_getElem?_getD] at h2
      exact .p (.p (.p (.p (.p (.p (.p (.p (.r (by simp only [aS]; simp [Sp.re0 h1 h2])))))))))

theorem con_Next (s : Sp.Snd) (n : Int) : Con Try.prog L0 28 [] [.a (aS s), .c (.int .i64 n)] [] (.t [.a (aS (Sp.nxt s n)), .a (aO (Sp.nxtO s n)), .c (.bool (Sp.nxtB s n)), .c (.int .u8 (Sp.nxtE s n))]) := by
  refine con_of_run C0 (.p (Con Try.prog L0 38 [] [.a [.c (.bool s.on), .c (.int .u8 s.c), .c (.int .u8 s.v), .c (.int .u32 s.t), .c (.int .i64 s.l), .c (.int .i64 s.e)]] [] (.c (.bool (Sp.valid s.on s.v s.l s.e)))) (.p (true = true ∨ True ∧ ∀ (o : HObj), o ∈ [] → o.nr) (.b (!Sp.valid s.on s.v s.l s.e) (.p (0 < 6) (.p (1 < 6) (.p (2 < 6) (.p (3 < 6) (.p (4 < 6) (.p (5 < 6) (.p (0 < 6) (.p (1 < 6) (.p (2 < 6) (.p (3 < 6) (.p (4 < 6) (.p (5 < 6) (.r (.t [.a [.c (.bool false), .c (.int .u8 0), .c (.int .u8 0), .c (.int .u32 0), .c (.int .i64 0), .c (.int .i64 0)], .a [.c (.int .u32 0), .c (.bool false), .c (.int .u8 0), .c (.bool false), .c (.int .u8 0), .c (.int .u16 0)], .c (.bool false), .c (.int .u8 2)])))))))))))))) (.p ((!decide (n < 1)) = true → (!decide (n < 1)) = true ∧ True) (.p (decide (n < 1) = true → True) (.p (decide (n < 1) = false → (!decide (n < 1)) = true ∧ True) (.b (if decide (n < 1) = true then true else decide (8000 < n)) (.p (0 < 6) (.p (1 < 6) (.p (2 < 6) (.p (3 < 6) (.p (4 < 6) (.p (5 < 6) (.p (0 < 6) (.p (1 < 6) (.p (2 < 6) (.p (3 < 6) (.p (4 < 6) (.p (5 < 6) (.r (.t [.a [.c (.bool false), .c (.int .u8 0), .c (.int .u8 0), .c (.int .u32 0), .c (.int .i64 0), .c (.int .i64 0)], .a [.c (.int .u32 0), .c (.bool false), .c (.int .u8 0), .c (.bool false), .c (.int .u8 0), .c (.int .u16 0)], .c (.bool false), .c (.int .u8 3)])))))))))))))) (.p (s.on = true → s.on = true ∧ True) (.p (s.on = true → s.on = true ∧ True) (.p (s.on = true → s.on = true ∧ True) (.p (s.on = false → True) (.p (0 < 6) (.p (1 < 6) (.p (2 < 6) (.p (3 < 6) (.p (4 < 6) (.p (5 < 6) (.t (.b s.on (.p (4 < 6) (.p (2 < 6) (.p (3 < 6) (.p (4 < 6) (.p (5 < 6) (.k [2, 4, 5, 6, 7, 8] (.t (.b (!s.on) .no (.p (0 < 6) (.p (1 < 6) (.p (2 < 6) (.p (3 < 6) (.p (4 < 6) (.p (5 < 6) (.p (0 < 6) (.p (1 < 6) (.p (2 < 6) (.p (3 < 6) (.p (4 < 6) (.p (5 < 6) (.r (.t [.a [.c (.bool (Sp.Snd.on s)), .c (.int .u8 (Sp.Snd.c s)), .c (.int .u8 (Sp.Snd.v s)), .c (.int .u32 (Sp.Snd.t s)), .c (.int .i64 (imin (IntKind.wrap .i64 (Sp.Snd.l s + n)) 65535)), .c (.int .i64 (Sp.Snd.e s))], .a [.c (.int .u32 (Sp.Snd.t s)), .c (.bool (if Sp.Snd.on s = true then Sp.Snd.l s == 0 else false)), .c (.int .u8 (Sp.Snd.c s)), .c (.bool !Sp.Snd.on s), .c (.int .u8 (Sp.Snd.v s)), .c (.int .u16 (IntKind.wrap .u16 (imin (IntKind.wrap .i64 (Sp.Snd.l s + n)) 65535)))], .c (.bool true), .c (.int .u8 0)])))))))))))))))))))))) (.t (.b (decide (0 < s.e)) (.p (2 < 6) (.p (3 < 6) (.p (4 < 6) (.p (5 < 6) (.k [2, 4, 5, 6, 7, 8] (.t (.b (!s.on) (.p (5 < 6) (.t (.b (IntKind.wrap .i64 (Sp.Snd.e s - 1) == 0) (.p (0 < 6) (.p (1 < 6) (.p (2 < 6) (.p (3 < 6) (.p (4 < 6) (.p (5 < 6) (.p (0 < 6) (.p (1 < 6) (.p (2 < 6) (.p (3 < 6) (.p (4 < 6) (.p (5 < 6) (.p (0 < 6) (.p (1 < 6) (.p (2 < 6) (.p (3 < 6) (.p (4 < 6) (.p (5 < 6) (.r (.t [.a [.c (.bool false), .c (.int .u8 0), .c (.int .u8 0), .c (.int .u32 0), .c (.int .i64 0), .c (.int .i64 0)], .a [.c (.int .u32 (Sp.Snd.t s)), .c (.bool (if Sp.Snd.on s = true then Sp.Snd.l s == 0 else false)), .c (.int .u8 (Sp.Snd.c s)), .c (.bool !Sp.Snd.on s), .c (.int .u8 (Sp.Snd.v s)), .c (.int .u16 (IntKind.wrap .u16 (Sp.Snd.l s)))], .c (.bool true), .c (.int .u8 0)])))))))))))))))))))) (.p (0 < 6) (.p (1 < 6) (.p (2 < 6) (.p (3 < 6) (.p (4 < 6) (.p (5 < 6) (.p (0 < 6) (.p (1 < 6) (.p (2 < 6) (.p (3 < 6) (.p (4 < 6) (.p (5 < 6) (.r (.t [.a [.c (.bool (Sp.Snd.on s)), .c (.int .u8 (Sp.Snd.c s)), .c (.int .u8 (Sp.Snd.v s)), .c (.int .u32 (Sp.Snd.t s)), .c (.int .i64 (Sp.Snd.l s)), .c (.int .i64 (IntKind.wrap .i64 (Sp.Snd.e s - 1)))], .a [.c (.int .u32 (Sp.Snd.t s)), .c (.bool (if Sp.Snd.on s = true then Sp.Snd.l s == 0 else false)), .c (.int .u8 (Sp.Snd.c s)), .c (.bool !Sp.Snd.on s), .c (.int .u8 (Sp.Snd.v s)), .c (.int .u16 (IntKind.wrap .u16 (Sp.Snd.l s)))], .c (.bool true), .c (.int .u8 0)]))))))))))))))))) .no))))))) (.p (0 < 6) (.p (1 < 6) (.p (2 < 6) (.p (3 < 6) (.p (4 < 6) (.p (5 < 6) (.p (0 < 6) (.p (1 < 6) (.p (2 < 6) (.p (3 < 6) (.p (4 < 6) (.p (5 < 6) (.r (.t [.a [.c (.bool s.on), .c (.int .u8 s.c), .c (.int .u8 s.v), .c (.int .u32 s.t), .c (.int .i64 s.l), .c (.int .i64 s.e)], .a [.c (.int .u32 0), .c (.bool false), .c (.int .u8 0), .c (.bool false), .c (.int .u8 0), .c (.int .u16 0)], .c (.bool false), .c (.int .u8 0)]))))))))))))))))))))))))))))))))))) E_ok mixed Try.func28 rfl Try.call28 (Nat.le_of_ble_eq_true rfl) (by kernel_rfl) ?_
  refine .q (by exact con_valid _ _ _ _ _ _) (.q (by simp) (.b (fun h1 => ?_) (fun h1 => ?_)))
  · simp [-List.getD_eq_getElem?_getD] at h1
    exact .p (.p (.p (.p (.p (.p (.p (.p (.p (.p (.p (.p (.r (by simp only [aO, aS]; have hp := Sp.nx2 n h1; have hq := Sp.nx_bad (show Sp.nxtE s n ≠ 0 by simp [hp]); simp [hp, hq, Sp.s0, Sp.o0])))))))))))))
  · simp [-List.getD_eq_getElem?_getD] at h1
    refine .h (.h (.h (.b (fun h2 => ?_) (fun h2 => ?_))))
    · simp [-List.getD_eq_getElem?_getD] at h2
      exact .p (.p (.p (.p (.p (.p (.p (.p (.p (.p (.p (.p (.r (by simp only [aO, aS]; have hp := Sp.nx3 h1 h2; have hq := Sp.nx_bad (show Sp.nxtE s n ≠ 0 by simp [hp]); simp [hp, hq, Sp.s0, Sp.o0])))))))))))))
    · simp [-List.getD_eq_getElem?_getD] at h2
      refine .h (.h (.h (.h (.p (.p (.p (.p (.p (.p (.t (.b (fun h3 => ?_) (fun h3 => ?_))))))))))))
      · refine .p (.p (.p (.p (.p (.k (.t (.b (fun h4 => ?_) (fun h4 => ?_))))))))
        · simp [-List.getD_eq_getElem?_getD] at h4
          (exfalso; simp_all; done)
        · simp [-List.getD_eq_getElem?_getD] at h4
          exact .p (.p (.p (.p (.p (.p (.p (.p (.p (.p (.p (.p (.r (by simp only [aO, aS]; have hr := Sp.valid_rng h1; have hm := Sp.min_rng (x := s.l + n) (by omega); have hw := wrap_i64 (x := s.l + n) (by omega) (by omega); have hw2 := wrap_u16 hm.1 hm.2; simp [Sp.nx_on h1 h2 h3, Sp.nx0 h1 h2, h3, hw, hw2]; rfl)))))))))))))
      · refine .t (.b (fun h5 => ?_) (fun h5 => ?_))
        · simp [-List.getD_eq_getElem?_getD] at h5
          refine .p (.p (.p (.p (.k (.t (.b (fun h6 => ?_) (fun h6 => ?_)))))))
          · simp [-List.getD_eq_getElem?_getD] at h6
            refine .p (.t (.b (fun h7 => ?_) (fun h7 => ?_)))
            · simp [-List.getD_eq_getElem?_getD] at h7
              exact .p (.p (.p (.p (.p (.p (.p (.p (.p (.p (.p (.p (.p (.p (.p (.p (.p (.p (.r (by simp only [aO, aS]; have hr := Sp.valid_rng h1; have hw2 := wrap_u16 (x := s.l) (by omega) (by omega); have hw3 := wrap_i64 (x := s.e - 1) (by omega) (by omega); simp [Sp.nx_1 h1 h2 h3 (by omega), Sp.nx0 h1 h2, h3, hw2, Sp.s0])))))))))))))))))))
            · simp [-List.getD_eq_getElem?_getD] at h7
              exact .p (.p (.p (.p (.p (.p (.p (.p (.p (.p (.p (.p (.r (by simp only [aO, aS]; have hr := Sp.valid_rng h1; have hw2 := wrap_u16 (x := s.l) (by omega) (by omega); have hw3 := wrap_i64 (x := s.e - 1) (by omega) (by omega); simp [Sp.nx_2 h1 h2 h3 (by omega), Sp.nx0 h1 h2, h3, hw2, hw3, Sp.s0])))))))))))))
          · simp [-List.getD_eq_getElem?_getD] at h6
            (exfalso; simp_all; done)
        · simp [-List.getD_eq_getElem?_getD] at h5
          exact .p (.p (.p (.p (.p (.p (.p (.p (.p (.p (.p (.p (.r (by simp only [aO, aS]; simp [Sp.nx_off h1 h2 h3 (by omega), Sp.nx0 h1 h2, h3, Sp.o0])))))))))))))
theorem con_rNext (s : Sp.Snd) (n : Int) : Con Try.prog L0 29 [] [.a (aS s), .c (.int .i64 n)] [] (.t [.a (aS (Sp.nxt s n)), .a (aO (Sp.nxtO s n)), .c (.bool (Sp.nxtB s n)), .c (.int .u8 (Sp.nxtE s n))]) := by
  refine con_of_run C0 (.p (Con Try.prog L0 39 [] [.a [.c (.bool s.on), .c (.int .u8 s.c), .c (.int .u8 s.v), .c (.int .u32 s.t), .c (.int .i64 s.l), .c (.int .i64 s.e)]] [] (.c (.bool (Sp.valid s.on s.v s.l s.e)))) (.p (true = true ∨ True ∧ ∀ (o : HObj), o ∈ [] → o.nr) (.b (!Sp.valid s.on s.v s.l s.e) (.p (0 < 6) (.p (1 < 6) (.p (2 < 6) (.p (3 < 6) (.p (4 < 6) (.p (5 < 6) (.p (0 < 6) (.p (1 < 6) (.p (2 < 6) (.p (3 < 6) (.p (4 < 6) (.p (5 < 6) (.r (.t [.a [.c (.bool false), .c (.int .u8 0), .c (.int .u8 0), .c (.int .u32 0), .c (.int .i64 0), .c (.int .i64 0)], .a [.c (.int .u32 0), .c (.bool false), .c (.int .u8 0), .c (.bool false), .c (.int .u8 0), .c (.int .u16 0)], .c (.bool false), .c (.int .u8 2)])))))))))))))) (.p ((!decide (n < 1)) = true → (!decide (n < 1)) = true ∧ True) (.p (decide (n < 1) = true → True) (.p (decide (n < 1) = false → (!decide (n < 1)) = true ∧ True) (.b (if decide (n < 1) = true then true else decide (8000 < n)) (.p (0 < 6) (.p (1 < 6) (.p (2 < 6) (.p (3 < 6) (.p (4 < 6) (.p (5 < 6) (.p (0 < 6) (.p (1 < 6) (.p (2 < 6) (.p (3 < 6) (.p (4 < 6) (.p (5 < 6) (.r (.t [.a [.c (.bool false), .c (.int .u8 0), .c (.int .u8 0), .c (.int .u32 0), .c (.int .i64 0), .c (.int .i64 0)], .a [.c (.int .u32 0), .c (.bool false), .c (.int .u8 0), .c (.bool false), .c (.int .u8 0), .c (.int .u16 0)], .c (.bool false), .c (.int .u8 3)])))))))))))))) (.p (0 < 4) (.p (1 < 4) (.p (2 < 4) (.p (3 < 4) (.t (.b s.on (.p (4 < 6) (.p (3 < 4) (.p (0 < 6) (.p (1 < 6) (.p (2 < 6) (.p (3 < 6) (.p (4 < 6) (.p (5 < 6) (.p (0 < 6) (.p (1 < 6) (.p (2 < 6) (.p (3 < 6) (.p (4 < 6) (.p (5 < 6) (.k [2, 4, 5, 6, 7, 8] (.r (.t [.a [.c (.bool (Sp.Snd.on s)), .c (.int .u8 (Sp.Snd.c s)), .c (.int .u8 (Sp.Snd.v s)), .c (.int .u32 (Sp.Snd.t s)), .c (.int .i64 (imin (IntKind.wrap .i64 (Sp.Snd.l s + n)) 65535)), .c (.int .i64 (Sp.Snd.e s))], .a [.c (.int .u32 (Sp.Snd.t s)), .c (.bool (Sp.Snd.l s == 0)), .c (.int .u8 (Sp.Snd.c s)), .c (.bool false), .c (.int .u8 (Sp.Snd.v s)), .c (.int .u16 (IntKind.wrap .u16 (imin (IntKind.wrap .i64 (Sp.Snd.l s + n)) 65535)))], .c (.bool true), .c (.int .u8 0)]))))))))))))))))) (.t (.b (s.e == 0) (.p (0 < 6) (.p (1 < 6) (.p (2 < 6) (.p (3 < 6) (.p (4 < 6) (.p (5 < 6) (.p (0 < 6) (.p (1 < 6) (.p (2 < 6) (.p (3 < 6) (.p (4 < 6) (.p (5 < 6) (.r (.t [.a [.c (.bool s.on), .c (.int .u8 s.c), .c (.int .u8 s.v), .c (.int .u32 s.t), .c (.int .i64 s.l), .c (.int .i64 s.e)], .a [.c (.int .u32 0), .c (.bool false), .c (.int .u8 0), .c (.bool false), .c (.int .u8 0), .c (.int .u16 0)], .c (.bool false), .c (.int .u8 0)])))))))))))))) (.p (3 < 4) (.p (1 < 4) (.p (0 < 6) (.p (1 < 6) (.p (2 < 6) (.p (3 < 6) (.p (4 < 6) (.p (5 < 6) (.t (.b (s.e == 1) (.p (0 < 6) (.p (1 < 6) (.p (2 < 6) (.p (3 < 6) (.p (4 < 6) (.p (5 < 6) (.p (0 < 6) (.p (1 < 6) (.p (2 < 6) (.p (3 < 6) (.p (4 < 6) (.p (5 < 6) (.r (.t [.a [.c (.bool false), .c (.int .u8 0), .c (.int .u8 0), .c (.int .u32 0), .c (.int .i64 0), .c (.int .i64 0)], .a [.c (.int .u32 (Sp.Snd.t s)), .c (.bool false), .c (.int .u8 (Sp.Snd.c s)), .c (.bool true), .c (.int .u8 (Sp.Snd.v s)), .c (.int .u16 (IntKind.wrap .u16 (Sp.Snd.l s)))], .c (.bool true), .c (.int .u8 0)])))))))))))))) (.p (5 < 6) (.p (0 < 6) (.p (1 < 6) (.p (2 < 6) (.p (3 < 6) (.p (4 < 6) (.p (5 < 6) (.p (0 < 6) (.p (1 < 6) (.p (2 < 6) (.p (3 < 6) (.p (4 < 6) (.p (5 < 6) (.k [4, 5, 6, 7] (.r (.t [.a [.c (.bool (Sp.Snd.on s)), .c (.int .u8 (Sp.Snd.c s)), .c (.int .u8 (Sp.Snd.v s)), .c (.int .u32 (Sp.Snd.t s)), .c (.int .i64 (Sp.Snd.l s)), .c (.int .i64 (IntKind.wrap .i64 (Sp.Snd.e s - 1)))], .a [.c (.int .u32 (Sp.Snd.t s)), .c (.bool false), .c (.int .u8 (Sp.Snd.c s)), .c (.bool true), .c (.int .u8 (Sp.Snd.v s)), .c (.int .u16 (IntKind.wrap .u16 (Sp.Snd.l s)))], .c (.bool true), .c (.int .u8 0)]))))))))))))))))))))))))))))))))))))))))) E_ok mixed Try.func29 rfl Try.call29 (Nat.le_of_ble_eq_true rfl) (by kernel_rfl) ?_
  refine .q (by exact con_Valid _ _ _ _ _ _) (.q (by simp) (.b (fun h1 => ?_) (fun h1 => ?_)))
  · simp [-List.getD_eq_getElem?_getD] at h1
    exact .p (.p (.p (.p (.p (.p (.p (.p (.p (.p (.p (.p (.r (by simp only [aO, aS]; have hp := Sp.nx2 n h1; have hq := Sp.nx_bad (show Sp.nxtE s n ≠ 0 by simp [hp]); simp [hp, hq, Sp.s0, Sp.o0])))))))))))))
  · simp [-List.getD_eq_getElem?_getD] at h1
    refine .h (.h (.h (.b (fun h2 => ?_) (fun h2 => ?_))))
    · simp [-List.getD_eq_getElem?_getD] at h2
      exact .p (.p (.p (.p (.p (.p (.p (.p (.p (.p (.p (.p (.r (by simp only [aO, aS]; have hp := Sp.nx3 h1 h2; have hq := Sp.nx_bad (show Sp.nxtE s n ≠ 0 by simp [hp]); simp [hp, hq, Sp.s0, Sp.o0])))))))))))))
    · simp [-List.getD_eq_getElem?_getD] at h2
      refine .p (.p (.p (.p (.t (.b (fun h3 => ?_) (fun h3 => ?_))))))
      · exact .p (.p (.p (.p (.p (.p (.p (.p (.p (.p (.p (.p (.p (.p (.k (.r (by simp only [aO, aS]; have hr := Sp.valid_rng h1; have hm := Sp.min_rng (x := s.l + n) (by omega); have hw := wrap_i64 (x := s.l + n) (by omega) (by omega); have hw2 := wrap_u16 hm.1 hm.2; simp [Sp.nx_on h1 h2 h3, Sp.nx0 h1 h2, h3, hw, hw2]; rfl))))))))))))))))
      · refine .t (.b (fun h4 => ?_) (fun h4 => ?_))
        · simp [-List.getD_eq_getElem?_getD] at h4
          exact .p (.p (.p (.p (.p (.p (.p (.p (.p (.p (.p (.p (.r (by simp only [aO, aS]; simp [Sp.nx_off h1 h2 h3 (by omega), Sp.nx0 h1 h2, h3, Sp.o0])))))))))))))
        · simp [-List.getD_eq_getElem?_getD] at h4
          refine .p (.p (.p (.p (.p (.p (.p (.p (.t (.b (fun h5 => ?_) (fun h5 => ?_))))))))))
          · simp [-List.getD_eq_getElem?_getD] at h5
            exact .p (.p (.p (.p (.p (.p (.p (.p (.p (.p (.p (.p (.r (by simp only [aO, aS]; have hr := Sp.valid_rng h1; have hw2 := wrap_u16 (x := s.l) (by omega) (by omega); have hw3 := wrap_i64 (x := s.e - 1) (by omega) (by omega); simp [Sp.nx_1 h1 h2 h3 (by omega), Sp.nx0 h1 h2, h3, hw2, Sp.s0])))))))))))))
          · simp [-List.getD_eq_getElem?_getD] at h5
            exact .p (.p (.p (.p (.p (.p (.p (.p (.p (.p (.p (.p (.p (.k (.r (by simp only [aO, aS]; have hr := Sp.valid_rng h1; have hw2 := wrap_u16 (x := s.l) (by omega) (by omega); have hw3 := wrap_i64 (x := s.e - 1) (by omega) (by omega); simp [Sp.nx_2 h1 h2 h3 (by omega), Sp.nx0 h1 h2, h3, hw2, hw3, Sp.s0])))))))))))))))

namespace Sp
theorem dif_u (t r : Int) : IntKind.u32.wrap (t - r) = dif t r := mod_u32 _
end Sp

end Go.Proofs.Ytllomeekbocfmaa
