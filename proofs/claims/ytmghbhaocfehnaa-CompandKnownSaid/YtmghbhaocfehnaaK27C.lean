/-
  A part of the walk: contracts of functions, each proved once.
-/
import Derived.Test.YtmghbhaocfehnaaEvList
import Derived.Test.YtmghbhaocfehnaaK27B
namespace Go.Proofs.Ytmghbhaocfehnaa
open Go Go.Ev
set_option linter.unusedVariables false
set_option linter.unusedSimpArgs false
set_option maxRecDepth 20000
def fndV (n : Int) : AV := if n = 1 then .i 42 (.a []) else if n = 2 then .i 43 (.a []) else .c .nilIface
namespace Sp
def pkE (n : Int) (k : Nat) : Int := if n = 1 ∨ n = 2 then (if k ≤ 8000 then 0 else 4) else 2
def pk (n : Int) (l : List Int) : List Int := if n = 1 ∧ l.length ≤ 8000 then l.map mu else if n = 2 ∧ l.length ≤ 8000 then l.map a else []
def up (n : Int) (l : List Int) : List Int := if n = 1 ∧ l.length ≤ 8000 then l.map fmu else if n = 2 ∧ l.length ≤ 8000 then l.map fa else []
theorem pk1 {l : List Int} (h : (l.length : Int) ≤ 8000) : pk 1 l = l.map mu := by unfold pk; rw [if_pos (by omega)]
theorem pk2 {l : List Int} (h : (l.length : Int) ≤ 8000) : pk 2 l = l.map a := by unfold pk; rw [if_neg (by omega), if_pos (by omega)]
theorem pkn {n : Int} {l : List Int} (h : 8000 < (l.length : Int) ∨ (n ≠ 1 ∧ n ≠ 2)) : pk n l = [] := by simp only [pk]; rw [if_neg (by omega), if_neg (by omega)]
theorem up1 {l : List Int} (h : (l.length : Int) ≤ 8000) : up 1 l = l.map fmu := by unfold up; rw [if_pos (by omega)]
theorem up2 {l : List Int} (h : (l.length : Int) ≤ 8000) : up 2 l = l.map fa := by unfold up; rw [if_neg (by omega), if_pos (by omega)]
theorem upn {n : Int} {l : List Int} (h : 8000 < (l.length : Int) ∨ (n ≠ 1 ∧ n ≠ 2)) : up n l = [] := by simp only [up]; rw [if_neg (by omega), if_neg (by omega)]
theorem pkE_ok {n : Int} {k : Nat} (hn : n = 1 ∨ n = 2) (h : (k : Int) ≤ 8000) : pkE n k = 0 := by simp only [pkE]; rw [if_pos hn, if_pos (by omega)]
theorem pkE_big {n : Int} {k : Nat} (hn : n = 1 ∨ n = 2) (h : 8000 < (k : Int)) : pkE n k = 4 := by simp only [pkE]; rw [if_pos hn, if_neg (by omega)]
theorem pkE_arg {n : Int} {k : Nat} (hn : n ≠ 1 ∧ n ≠ 2) : pkE n k = 2 := by simp only [pkE]; rw [if_neg (by omega)]
theorem pk_err {n : Int} {l : List Int} {e : Int} (h : pk n l = []) (he : pkE n l.length = e) : AV.t [AV.ri .u8 [], .c (.int .u8 e)] = AV.t [AV.ri .u8 (pk n l), .c (.int .u8 (pkE n l.length))] := by rw [h, he]
theorem up_err {n : Int} {l : List Int} {e : Int} (h : up n l = []) (he : pkE n l.length = e) : AV.t [AV.ri .i16 [], .c (.int .u8 e)] = AV.t [AV.ri .i16 (up n l), .c (.int .u8 (pkE n l.length))] := by rw [h, he]
end Sp
def C1 : Tab where
  own f := false
  meth := C0.meth
  run f h a := match f, h, a with
    | 31, [], [.c (.int .u8 n)] => some ([], .t [fndV n, .c (.bool (decide (n = 1 ∨ n = 2)))])
    | 21, [], [.c (.int .u8 n), .ri .i16 l] => some ([], .t [.ri .u8 (Sp.pk n l), .c (.int .u8 (Sp.pkE n l.length))])
    | 22, [], [.c (.int .u8 n), .ri .i16 l] => some ([], .t [.ri .u8 (Sp.pk n l), .c (.int .u8 (Sp.pkE n l.length))])
    | 23, [], [.c (.int .u8 n), .ri .u8 l] => some ([], .t [.ri .i16 (Sp.up n l), .c (.int .u8 (Sp.pkE n l.length))])
    | 24, [], [.c (.int .u8 n), .ri .u8 l] => some ([], .t [.ri .i16 (Sp.up n l), .c (.int .u8 (Sp.pkE n l.length))])
    | 25, [], [.ri .i16 x, .ri .i16 y] => some ([], .c (.bool (x == y)))
    | f, h, a => C0.run f h a
theorem con_find (n : Int) : Con Try.prog L0 31 [] [.c (.int .u8 n)] [] (.t [fndV n, .c (.bool (decide (n = 1 ∨ n = 2)))]) := by
  refine con_of_vc E_ok mixed Try.func31 rfl Try.call31 (Nat.le_of_ble_eq_true rfl) ?_
  refine VC.seq ?_
  refine VC.region (E := E) (C := C0) E_ok mixed (by first | exact fun _ => rfl | exact fun h => by cases h) [0, 2, 3, 4, 5, 6, 7, 8, 9, 10, 11, 12] (st' := St.mk [(0, AV.c (Value.int IntKind.u8 n)), (2, AV.c Value.nilIface), (3, AV.c (Value.bool false))] []) (ps := []) (by kernel_rfl) (.nil) ?_
  refine seqK_n ?_
  refine VC.seq ?_
  refine VC.seq ?_
  refine VC.region (E := E) (C := C0) E_ok mixed (by first | exact fun _ => rfl | exact fun h => by cases h) [2, 3, 4, 5, 6, 7, 8, 9, 10, 11, 12] (st' := St.mk [(2, AV.c Value.nilIface), (3, AV.c (Value.bool false)), (4, AV.c (Value.int IntKind.u8 n))] []) (ps := []) (by kernel_rfl) (.nil) ?_
  refine seqK_n ?_
  refine VC.block ?_
  refine VC.seq ?_
  refine VC.region (E := E) (C := C0) E_ok mixed (by first | exact fun _ => rfl | exact fun h => by cases h) [2, 3, 4, 5, 7, 8, 9, 10, 11, 12] (st' := St.mk [(2, AV.c Value.nilIface), (3, AV.c (Value.bool false)), (4, AV.c (Value.int IntKind.u8 n)), (5, AV.c (Value.bool (n == 1)))] []) (ps := []) (by kernel_rfl) (.nil) ?_
  refine seqK_n ?_
  refine VC.cond (b := n == 1) (by kernel_rfl) (fun h1 => ?_) (fun h1 => ?_)
  ·
    simp at h1
    refine VC.seq ?_
    refine VC.region (E := E) (C := C0) E_ok mixed (by first | exact fun _ => rfl | exact fun h => by cases h) [2, 3] (st' := St.mk [(2, AV.i 42 (AV.a [])), (3, AV.c (Value.bool true))] []) (ps := []) (by kernel_rfl) (.nil) ?_
    refine seqK_n ?_
    refine VC.ret ?_
    refine blockK_r ?_
    refine seqK_r ?_
    exact Fin.all [] (.inr rfl) (l := [AV.i 42 (AV.a []), AV.c (Value.bool true)]) (ps := []) (by kernel_rfl) (by kernel_rfl) (.nil) (All.of (l' := []) (by kernel_rfl) (.nil)) (show AV.t [AV.i 42 (AV.a []), AV.c (Value.bool true)] = AV.t [AV.ren (outName (St.mk [(2, AV.i 42 (AV.a [])), (3, AV.c (Value.bool true))] []) (List.length []) []) (if n = 1 then AV.i 42 (AV.a []) else if n = 2 then AV.i 43 (AV.a []) else AV.c Value.nilIface), AV.c (Value.bool (decide (n = 1 ∨ n = 2)))] by simp [*, AV.ren, renL])
  ·
    simp at h1
    refine VC.seq ?_
    refine VC.region (E := E) (C := C0) E_ok mixed (by first | exact fun _ => rfl | exact fun h => by cases h) [2, 3, 9, 11, 12] (st' := St.mk [(2, AV.c Value.nilIface), (3, AV.c (Value.bool false)), (9, AV.c (Value.bool (n == 2)))] []) (ps := []) (by kernel_rfl) (.nil) ?_
    refine seqK_n ?_
    refine VC.cond (b := n == 2) (by kernel_rfl) (fun h2 => ?_) (fun h2 => ?_)
    ·
      simp at h2
      refine VC.seq ?_
      refine VC.region (E := E) (C := C0) E_ok mixed (by first | exact fun _ => rfl | exact fun h => by cases h) [2, 3] (st' := St.mk [(2, AV.i 43 (AV.a [])), (3, AV.c (Value.bool true))] []) (ps := []) (by kernel_rfl) (.nil) ?_
      refine seqK_n ?_
      refine VC.ret ?_
      refine blockK_r ?_
      refine seqK_r ?_
      exact Fin.all [] (.inr rfl) (l := [AV.i 43 (AV.a []), AV.c (Value.bool true)]) (ps := []) (by kernel_rfl) (by kernel_rfl) (.nil) (All.of (l' := []) (by kernel_rfl) (.nil)) (show AV.t [AV.i 43 (AV.a []), AV.c (Value.bool true)] = AV.t [AV.ren (outName (St.mk [(2, AV.i 43 (AV.a [])), (3, AV.c (Value.bool true))] []) (List.length []) []) (if n = 1 then AV.i 42 (AV.a []) else if n = 2 then AV.i 43 (AV.a []) else AV.c Value.nilIface), AV.c (Value.bool (decide (n = 1 ∨ n = 2)))] by simp [*, AV.ren, renL])
    ·
      simp at h2
      refine VC.skip ?_
      refine blockK_n ?_
      refine seqK_n ?_
      refine VC.seq ?_
      refine VC.region (E := E) (C := C0) E_ok mixed (by first | exact fun _ => rfl | exact fun h => by cases h) [2, 3] (st' := St.mk [(2, AV.c Value.nilIface), (3, AV.c (Value.bool false))] []) (ps := []) (by kernel_rfl) (.nil) ?_
      refine seqK_n ?_
      refine VC.ret ?_
      exact Fin.all [] (.inr rfl) (l := [AV.c Value.nilIface, AV.c (Value.bool false)]) (ps := []) (by kernel_rfl) (by kernel_rfl) (.nil) (All.of (l' := []) (by kernel_rfl) (.nil)) (show AV.t [AV.c Value.nilIface, AV.c (Value.bool false)] = AV.t [AV.ren (outName (St.mk [(2, AV.c Value.nilIface), (3, AV.c (Value.bool false))] []) (List.length []) []) (if n = 1 then AV.i 42 (AV.a []) else if n = 2 then AV.i 43 (AV.a []) else AV.c Value.nilIface), AV.c (Value.bool (decide (n = 1 ∨ n = 2)))] by simp [*, AV.ren, renL])
theorem con_find0 (n : Int) (h1 : ¬ n = 1) (h2 : ¬ n = 2) : Con Try.prog L0 31 [] [.c (.int .u8 n)] [] (.t [.c .nilIface, .c (.bool false)]) := by
  have := con_find n
  simpa only [fndV, h1, h2, or_self, decide_false, if_false] using this
def C1n : Tab where
  own f := false
  run f h a := match f, h, a with
    | 31, [], [.c (.int .u8 n)] => some ([], .t [.c .nilIface, .c (.bool false)])
    | _, _, _ => none
theorem con_Pack1 (l : List Int) (hl : ∀ x ∈ l, -32768 ≤ x ∧ x ≤ 32767) : Con Try.prog L0 21 [] [.c (.int .u8 1), .ri .i16 l] [] (.t [.ri .u8 (Sp.pk 1 l), .c (.int .u8 (Sp.pkE 1 l.length))]) := by
  refine con_of_vc E_ok mixed Try.func21 rfl Try.call21 (Nat.le_of_ble_eq_true rfl) ?_
  refine VC.seq ?_
  refine VC.region (E := E) (C := C1) E_ok mixed (by first | exact fun _ => rfl | exact fun h => by cases h) [0, 1, 4, 5, 6, 7, 8, 9, 10, 11, 12, 13, 14, 15, 16, 17, 18, 19, 20, 21, 22, 23, 24, 25, 26, 27, 28, 29, 30, 31, 32, 33, 34, 35, 36, 37, 38] (st' := St.mk [(0, AV.c (Value.int IntKind.u8 1)), (1, AV.ri IntKind.i16 l), (4, AV.c (Value.slice none 0 0)), (5, AV.c (Value.int IntKind.u8 0))] []) (ps := []) (by kernel_rfl) (.nil) ?_
  refine seqK_n ?_
  refine VC.seq ?_
  refine VC.region (E := E) (C := C1) E_ok mixed (by first | exact fun _ => rfl | exact fun h => by cases h) [1, 4, 5, 6, 7, 8, 9, 10, 16, 17, 18, 19, 20, 21, 22, 23, 24, 25, 26, 27, 28, 29, 30, 31, 32, 33, 34, 35, 36, 37, 38] (st' := St.mk [(1, AV.ri IntKind.i16 l), (4, AV.c (Value.slice none 0 0)), (5, AV.c (Value.int IntKind.u8 0)), (6, AV.i 42 (AV.a [])), (7, AV.c (Value.bool true))] []) (ps := [Con Try.prog L0 (31 : Nat) [] [AV.c (Value.int IntKind.u8 (1 : Int))] [] (AV.t [AV.i (42 : Nat) (AV.a []), AV.c (Value.bool true)]), true = true ∨ (True ∧ True ∧ True) ∧ ∀ (o : HObj), o ∈ [] → HObj.nr o]) (by kernel_rfl) (.cons (by exact con_find _) (.cons (by simp) (.nil))) ?_
  refine seqK_n ?_
  refine VC.seq ?_
  refine VC.seq ?_
  refine VC.region (E := E) (C := C1) E_ok mixed (by first | exact fun _ => rfl | exact fun h => by cases h) [1, 4, 5, 6, 8, 9, 10, 17, 18, 19, 20, 21, 22, 23, 24, 25, 26, 27, 28, 29, 30, 31, 32, 33, 34, 35, 36, 37, 38] (st' := St.mk [(1, AV.ri IntKind.i16 l), (4, AV.c (Value.slice none 0 0)), (5, AV.c (Value.int IntKind.u8 0)), (6, AV.i 42 (AV.a [])), (17, AV.c (Value.bool false))] []) (ps := []) (by kernel_rfl) (.nil) ?_
  refine seqK_n ?_
  refine VC.cond_f (by kernel_rfl) ?_
  refine VC.skip ?_
  refine seqK_n ?_
  refine VC.seq ?_
  refine VC.seq ?_
  refine VC.region (E := E) (C := C1) E_ok mixed (by first | exact fun _ => rfl | exact fun h => by cases h) [1, 4, 5, 6, 8, 9, 10, 20, 21, 22, 23, 24, 25, 26, 27, 28, 29, 30, 31, 32, 33, 34, 35, 36, 37, 38] (st' := St.mk [(1, AV.ri IntKind.i16 l), (4, AV.c (Value.slice none 0 0)), (5, AV.c (Value.int IntKind.u8 0)), (6, AV.i 42 (AV.a [])), (20, AV.c (Value.bool (decide (8000 < (↑(List.length l) : Int)))))] []) (ps := []) (by kernel_rfl) (.nil) ?_
  refine seqK_n ?_
  refine VC.cond (b := decide (8000 < (↑(List.length l) : Int))) (by kernel_rfl) (fun h1 => ?_) (fun h1 => ?_)
  ·
    simp at h1
    refine VC.seq ?_
    refine VC.region (E := E) (C := C1) E_ok mixed (by first | exact fun _ => rfl | exact fun h => by cases h) [1, 4, 5, 6, 8, 9, 10, 21, 22, 23, 24, 25, 26, 27, 28, 29, 30, 31, 32, 33, 34, 35, 36, 37, 38] (st' := St.mk [(1, AV.ri IntKind.i16 l), (4, AV.c (Value.slice none 0 0)), (5, AV.c (Value.int IntKind.u8 4)), (6, AV.i 42 (AV.a []))] []) (ps := []) (by kernel_rfl) (.nil) ?_
    refine seqK_n ?_
    refine VC.ent (Ent.sub (st' := St.mk [(1, AV.ri IntKind.i16 l), (4, AV.ri IntKind.u8 []), (5, AV.c (Value.int IntKind.u8 4)), (6, AV.i 42 (AV.a []))] []) (All.of (l' := [(1 : Nat) = (1 : Nat), AV.ri IntKind.i16 l = AV.ri IntKind.i16 l, (4 : Nat) = (4 : Nat), @Eq (List Int) ([]) ([]), (5 : Nat) = (5 : Nat), AV.c (Value.int IntKind.u8 (4 : Int)) = AV.c (Value.int IntKind.u8 (4 : Int)), (6 : Nat) = (6 : Nat), AV.i (42 : Nat) (AV.a []) = AV.i (42 : Nat) (AV.a [])]) (by kernel_rfl) (.cons (by rfl) (.cons (by rfl) (.cons (by rfl) (.cons (by rfl) (.cons (by rfl) (.cons (by rfl) (.cons (by rfl) (.cons (by rfl) (.nil))))))))))) ?_
    refine VC.ret ?_
    refine seqK_r ?_
    exact Fin.all [] (.inr rfl) (l := [AV.ri IntKind.u8 [], AV.c (Value.int IntKind.u8 4)]) (ps := []) (by kernel_rfl) (by kernel_rfl) (.nil) (All.of (l' := []) (by kernel_rfl) (.nil)) (show AV.t [AV.ri IntKind.u8 [], AV.c (Value.int IntKind.u8 4)] = AV.t [AV.ri IntKind.u8 (Sp.pk 1 l), AV.c (Value.int IntKind.u8 (Sp.pkE 1 (List.length l)))] by exact Sp.pk_err (Sp.pkn (.inl h1)) (Sp.pkE_big (.inl rfl) h1))
  ·
    simp at h1
    refine VC.skip ?_
    refine seqK_n ?_
    refine VC.seq ?_
    refine VC.region (E := E) (C := C1) E_ok mixed (by first | exact fun _ => rfl | exact fun h => by cases h) [1, 4, 5, 6, 8, 9, 10, 24, 25, 26, 27, 28, 29, 30, 31, 32, 33, 34, 35, 36, 37, 38] (st' := St.mk [(1, AV.ri IntKind.i16 l), (4, AV.c (Value.slice none 0 0)), (5, AV.c (Value.int IntKind.u8 0)), (6, AV.i 42 (AV.a [])), (8, AV.s 0 0 (Int.toNat (↑(List.length l) : Int)) (Int.toNat (↑(List.length l) : Int)))] [HObj.oi 5 IntKind.u8 (List.replicate (Int.toNat (↑(List.length l) : Int)) 0)]) (ps := [(0 : Int) ≤ (↑(List.length l) : Int), (↑(List.length l) : Int) ≤ (↑(List.length l) : Int), (1 : Int) * (↑(List.length l) : Int) ≤ (281474976710656 : Int), (↑(List.length l) : Int) ≤ (9223372036854775807 : Int), (1 : Nat) = (1 : Nat), @Eq (List Value) ([Value.int IntKind.u8 (0 : Int)]) ([Value.int IntKind.u8 (0 : Int)])]) (by kernel_rfl) (.cons (by omega) (.cons (by omega) (.cons (by omega) (.cons (by omega) (.cons (by trivial) (.cons (by trivial) (.nil))))))) ?_
    refine seqK_n ?_
    refine VC.seq ?_
    refine VC.seq ?_
    refine VC.region (E := E) (C := C1) E_ok mixed (by first | exact fun _ => rfl | exact fun h => by cases h) [4, 5, 6, 8, 9, 10, 24, 25, 26, 27, 28, 29, 30, 31, 32, 33, 34, 35, 36, 37, 38] (st' := St.mk [(4, AV.c (Value.slice none 0 0)), (5, AV.c (Value.int IntKind.u8 0)), (6, AV.i 42 (AV.a [])), (8, AV.s 0 0 (Int.toNat (↑(List.length l) : Int)) (Int.toNat (↑(List.length l) : Int))), (24, AV.ri IntKind.i16 l), (25, AV.c (Value.int IntKind.i64 (↑(List.length l) : Int))), (26, AV.c (Value.int IntKind.i64 0))] [HObj.oi 5 IntKind.u8 (List.replicate (Int.toNat (↑(List.length l) : Int)) 0)]) (ps := []) (by kernel_rfl) (.nil) ?_
    refine seqK_n ?_
    refine VC.block ?_
    refine VC.loop (Y := {j : Nat // j ≤ l.length}) (fun j => ⟨[(6, .i 42 (.a [])), (8, .s 0 0 l.length l.length), (24, .ri .i16 l), (25, .c (.int .i64 (l.length : Nat))), (26, .c (.int .i64 (j.1 : Nat)))], [.oi 5 .u8 (Sp.rowm Sp.mu l j.1)]⟩) (fun j => l.length - j.1) ⟨0, by omega⟩ ?_ ?_
    ·
      exact Ent.map [0] (by kernel_rfl) (All.of (l' := [HObj.oi (5 : TypeId) IntKind.u8 (Sp.rowm Sp.mu l (0 : Nat)) = HObj.dead ∨ HObj.oi (5 : TypeId) IntKind.u8 (List.replicate (Int.toNat (↑(List.length l) : Int)) (0 : Int)) = HObj.oi (5 : TypeId) IntKind.u8 (Sp.rowm Sp.mu l (0 : Nat))]) (by kernel_rfl) (.cons (by exact .inr rfl) (.nil))) (All.of (l' := [some (AV.i (42 : Nat) (AV.a [])) = some (AV.i (42 : Nat) (AV.a [])), some (AV.s (0 : Nat) (0 : Nat) (Int.toNat (↑(List.length l) : Int)) (Int.toNat (↑(List.length l) : Int))) = some (AV.s (0 : Nat) (0 : Nat) (List.length l) (List.length l)), some (AV.ri IntKind.i16 l) = some (AV.ri IntKind.i16 l), some (AV.c (Value.int IntKind.i64 (↑(List.length l) : Int))) = some (AV.c (Value.int IntKind.i64 (↑(List.length l) : Int))), some (AV.c (Value.int IntKind.i64 (0 : Int))) = some (AV.c (Value.int IntKind.i64 (0 : Int)))]) (by kernel_rfl) (.cons (by with_reducible rfl) (.cons (by trivial) (.cons (by with_reducible rfl) (.cons (by with_reducible rfl) (.cons (by with_reducible rfl) (.nil)))))))
    intro ⟨j, hj⟩
    refine VC.seq ?_
    refine VC.region (E := E) (C := C1) E_ok mixed (by first | exact fun _ => rfl | exact fun h => by cases h) [4, 5, 6, 8, 9, 10, 24, 25, 26, 27, 28, 29, 30, 31, 32, 33, 34, 35, 36, 37, 38] (st' := St.mk [(6, AV.i 42 (AV.a [])), (8, AV.s 0 0 (List.length l) (List.length l)), (24, AV.ri IntKind.i16 l), (25, AV.c (Value.int IntKind.i64 (↑(List.length l) : Int))), (26, AV.c (Value.int IntKind.i64 (↑j : Int))), (27, AV.c (Value.bool (decide ((↑j : Int) < (↑(List.length l) : Int)))))] [HObj.oi 5 IntKind.u8 (Sp.rowm Sp.mu l j)]) (ps := []) (by kernel_rfl) (.nil) ?_
    refine seqK_n ?_
    refine VC.seq ?_
    refine VC.cond (b := decide ((↑j : Int) < (↑(List.length l) : Int))) (by kernel_rfl) (fun h2 => ?_) (fun h2 => ?_)
    ·
      simp at h2
      refine VC.skip ?_
      refine seqK_n ?_
      refine VC.seq ?_
      refine VC.block ?_
      refine VC.seq ?_
      refine VC.region (E := E) (C := C1) E_ok mixed (by first | exact fun _ => rfl | exact fun h => by cases h) [4, 5, 6, 8, 9, 10, 24, 25, 26, 31, 32, 33, 34, 35, 36, 37, 38] (st' := St.mk [(6, AV.i 42 (AV.a [])), (8, AV.s 0 0 (List.length l) (List.length l)), (9, AV.c (Value.int IntKind.i64 (↑j : Int))), (10, AV.c (Value.int IntKind.i16 (List.getD l (Int.toNat (↑j : Int) * 1) 0))), (24, AV.ri IntKind.i16 l), (25, AV.c (Value.int IntKind.i64 (↑(List.length l) : Int))), (26, AV.c (Value.int IntKind.i64 (↑j : Int)))] [HObj.oi 5 IntKind.u8 (Sp.rowm Sp.mu l j)]) (ps := [(0 : Int) ≤ (↑j : Int), (↑j : Int) < (↑(List.length l) : Int), Int.toNat (↑j : Int) * (1 : Nat) < List.length l]) (by kernel_rfl) (.cons (by omega) (.cons (by omega) (.cons (by omega) (.nil)))) ?_
      refine seqK_n ?_
      refine VC.region (E := E) (C := C1) E_ok mixed (by first | exact fun _ => rfl | exact fun h => by cases h) [4, 5, 6, 8, 24, 25, 26, 37, 38] (st' := St.mk [(6, AV.i 42 (AV.a [])), (8, AV.s 0 0 (List.length l) (List.length l)), (24, AV.ri IntKind.i16 l), (25, AV.c (Value.int IntKind.i64 (↑(List.length l) : Int))), (26, AV.c (Value.int IntKind.i64 (↑j : Int)))] [HObj.oi 5 IntKind.u8 (List.set (Sp.rowm Sp.mu l j) (0 + Int.toNat (↑j : Int) * 1) (Sp.mu (List.getD l (Int.toNat (↑j : Int) * 1) 0)))]) (ps := [MethOK Try.prog (42 : Nat) "dialtone/compand.code" (27 : Nat), Con Try.prog L0 (27 : Nat) [] [AV.a [], AV.c (Value.int IntKind.i16 (List.getD l (Int.toNat (↑j : Int) * (1 : Nat)) (0 : Int)))] [] (AV.c (Value.int IntKind.u8 (Sp.mu (List.getD l (Int.toNat (↑j : Int) * (1 : Nat)) (0 : Int))))), true = true ∨ True ∧ ∀ (o : HObj), o ∈ [] → HObj.nr o, (0 : Int) ≤ (↑j : Int), (↑j : Int) < (↑(List.length l) : Int), (0 : Nat) < List.length (Sp.rowm Sp.mu l j), (0 : Nat) + Int.toNat (↑j : Int) * (1 : Nat) < List.length (Sp.rowm Sp.mu l j)]) (by kernel_rfl) (.cons (by exact fun v w => by kernel_rfl) (.cons (by exact con_first_code _ (getD_in hl (by omega) _)) (.cons (by simp) (.cons (by omega) (.cons (by omega) (.cons (by rw [Sp.rowm_len _ _ _ (by omega)]; omega) (.cons (by rw [Sp.rowm_len _ _ _ (by omega)]; omega) (.nil)))))))) ?_
      refine blockK_n ?_
      refine seqK_n ?_
      refine VC.regionE (E := E) (C := C1) E_ok mixed (by first | exact fun _ => rfl | exact fun h => by cases h) [4, 5, 6, 8, 24, 25, 26, 38] (st' := St.mk [(6, AV.i 42 (AV.a [])), (8, AV.s 0 0 (List.length l) (List.length l)), (24, AV.ri IntKind.i16 l), (25, AV.c (Value.int IntKind.i64 (↑(List.length l) : Int))), (26, AV.c (Value.int IntKind.i64 (IntKind.wrap IntKind.i64 ((↑j : Int) + 1))))] [HObj.oi 5 IntKind.u8 (List.set (Sp.rowm Sp.mu l j) (0 + Int.toNat (↑j : Int) * 1) (Sp.mu (List.getD l (Int.toNat (↑j : Int) * 1) 0)))]) (ps := []) (by kernel_rfl) (.nil) (st'' := St.mk [(6, AV.i 42 (AV.a [])), (8, AV.s 0 0 (List.length l) (List.length l)), (24, AV.ri IntKind.i16 l), (25, AV.c (Value.int IntKind.i64 (↑(List.length l) : Int))), (26, AV.c (Value.int IntKind.i64 ((↑j : Int) + 1)))] [HObj.oi 5 IntKind.u8 (List.set (Sp.rowm Sp.mu l j) j (Sp.mu (List.getD l j 0)))]) (by simp (disch := omega) only [wrap_i8, wrap_i16, wrap_i32, wrap_i64, wrap_u8, wrap_u16, wrap_u32, wrap_u64, Int.tdiv_eq_ediv_of_nonneg, Int.tmod_eq_emod_of_nonneg, Int.toNat_natCast, Int.reduceToNat, Nat.mul_one, Nat.zero_add, Nat.add_zero, Nat.one_mul, Int.one_mul, Int.zero_add, Int.add_zero, Int.mul_one, List.drop_zero, List.take_length, Int.zero_sub]) ?_
      refine loopK_n (⟨j + 1, by omega⟩) ?_ ?_
      ·
        exact (show List.length l - (j + 1) < List.length l - j by omega)
      ·
        exact Ent.map [0] (by kernel_rfl) (All.of (l' := [HObj.oi (5 : TypeId) IntKind.u8 (Sp.rowm Sp.mu l (j + (1 : Nat))) = HObj.dead ∨ HObj.oi (5 : TypeId) IntKind.u8 (List.set (Sp.rowm Sp.mu l j) j (Sp.mu (List.getD l j (0 : Int)))) = HObj.oi (5 : TypeId) IntKind.u8 (Sp.rowm Sp.mu l (j + (1 : Nat)))]) (by kernel_rfl) (.cons (by exact .inr (by rw [Sp.rowm_set Sp.mu h2])) (.nil))) (All.of (l' := [some (AV.i (42 : Nat) (AV.a [])) = some (AV.i (42 : Nat) (AV.a [])), some (AV.s (0 : Nat) (0 : Nat) (List.length l) (List.length l)) = some (AV.s (0 : Nat) (0 : Nat) (List.length l) (List.length l)), some (AV.ri IntKind.i16 l) = some (AV.ri IntKind.i16 l), some (AV.c (Value.int IntKind.i64 (↑(List.length l) : Int))) = some (AV.c (Value.int IntKind.i64 (↑(List.length l) : Int))), some (AV.c (Value.int IntKind.i64 ((↑j : Int) + (1 : Int)))) = some (AV.c (Value.int IntKind.i64 (↑(j + (1 : Nat)) : Int)))]) (by kernel_rfl) (.cons (by with_reducible rfl) (.cons (by with_reducible rfl) (.cons (by with_reducible rfl) (.cons (by with_reducible rfl) (.cons (by trivial) (.nil)))))))
    ·
      simp at h2
      refine VC.exit ?_
      refine seqK_x ?_
      refine loopK_x ?_
      refine blockK_x ?_
      refine seqK_n ?_
      refine VC.seq ?_
      refine VC.region (E := E) (C := C1) E_ok mixed (by first | exact fun _ => rfl | exact fun h => by cases h) [4, 5] (st' := St.mk [(4, AV.s 0 0 (List.length l) (List.length l)), (5, AV.c (Value.int IntKind.u8 0))] [HObj.oi 5 IntKind.u8 (Sp.rowm Sp.mu l j)]) (ps := []) (by kernel_rfl) (.nil) ?_
      refine seqK_n ?_
      refine VC.ent (Ent.freeze 0 (st' := St.mk [(4, AV.ri IntKind.u8 (List.take (List.length l) (List.drop 0 (Sp.rowm Sp.mu l j)))), (5, AV.c (Value.int IntKind.u8 0))] [HObj.dead]) trivial (by kernel_rfl) (All.of (l' := [List.length l ≤ List.length l, (0 : Nat) + List.length l ≤ List.length (Sp.rowm Sp.mu l j)]) (by kernel_rfl) (.cons (by omega) (.cons (by rw [Sp.rowm_len _ _ _ (by omega)]; omega) (.nil))))) ?_
      refine VC.ret ?_
      exact Fin.all [] (.inr rfl) (l := [AV.ri IntKind.u8 (List.take (List.length l) (List.drop 0 (Sp.rowm Sp.mu l j))), AV.c (Value.int IntKind.u8 0)]) (ps := []) (by kernel_rfl) (by kernel_rfl) (.nil) (All.of (l' := []) (by kernel_rfl) (.nil)) (show AV.t [AV.ri IntKind.u8 (List.take (List.length l) (List.drop 0 (Sp.rowm Sp.mu l j))), AV.c (Value.int IntKind.u8 0)] = AV.t [AV.ri IntKind.u8 (Sp.pk 1 l), AV.c (Value.int IntKind.u8 (Sp.pkE 1 (List.length l)))] by rw [Sp.rowm_end hj h2, Sp.pk1 h1, Sp.pkE_ok (.inl rfl) h1, List.take_of_length_le (by simp)]; rfl)
theorem con_Pack2 (l : List Int) (hl : ∀ x ∈ l, -32768 ≤ x ∧ x ≤ 32767) : Con Try.prog L0 21 [] [.c (.int .u8 2), .ri .i16 l] [] (.t [.ri .u8 (Sp.pk 2 l), .c (.int .u8 (Sp.pkE 2 l.length))]) := by
  refine con_of_vc E_ok mixed Try.func21 rfl Try.call21 (Nat.le_of_ble_eq_true rfl) ?_
  refine VC.seq ?_
  refine VC.region (E := E) (C := C1) E_ok mixed (by first | exact fun _ => rfl | exact fun h => by cases h) [0, 1, 4, 5, 6, 7, 8, 9, 10, 11, 12, 13, 14, 15, 16, 17, 18, 19, 20, 21, 22, 23, 24, 25, 26, 27, 28, 29, 30, 31, 32, 33, 34, 35, 36, 37, 38] (st' := St.mk [(0, AV.c (Value.int IntKind.u8 2)), (1, AV.ri IntKind.i16 l), (4, AV.c (Value.slice none 0 0)), (5, AV.c (Value.int IntKind.u8 0))] []) (ps := []) (by kernel_rfl) (.nil) ?_
  refine seqK_n ?_
  refine VC.seq ?_
  refine VC.region (E := E) (C := C1) E_ok mixed (by first | exact fun _ => rfl | exact fun h => by cases h) [1, 4, 5, 6, 7, 8, 9, 10, 16, 17, 18, 19, 20, 21, 22, 23, 24, 25, 26, 27, 28, 29, 30, 31, 32, 33, 34, 35, 36, 37, 38] (st' := St.mk [(1, AV.ri IntKind.i16 l), (4, AV.c (Value.slice none 0 0)), (5, AV.c (Value.int IntKind.u8 0)), (6, AV.i 43 (AV.a [])), (7, AV.c (Value.bool true))] []) (ps := [Con Try.prog L0 (31 : Nat) [] [AV.c (Value.int IntKind.u8 (2 : Int))] [] (AV.t [AV.i (43 : Nat) (AV.a []), AV.c (Value.bool true)]), true = true ∨ (True ∧ True ∧ True) ∧ ∀ (o : HObj), o ∈ [] → HObj.nr o]) (by kernel_rfl) (.cons (by exact con_find _) (.cons (by simp) (.nil))) ?_
  refine seqK_n ?_
  refine VC.seq ?_
  refine VC.seq ?_
  refine VC.region (E := E) (C := C1) E_ok mixed (by first | exact fun _ => rfl | exact fun h => by cases h) [1, 4, 5, 6, 8, 9, 10, 17, 18, 19, 20, 21, 22, 23, 24, 25, 26, 27, 28, 29, 30, 31, 32, 33, 34, 35, 36, 37, 38] (st' := St.mk [(1, AV.ri IntKind.i16 l), (4, AV.c (Value.slice none 0 0)), (5, AV.c (Value.int IntKind.u8 0)), (6, AV.i 43 (AV.a [])), (17, AV.c (Value.bool false))] []) (ps := []) (by kernel_rfl) (.nil) ?_
  refine seqK_n ?_
  refine VC.cond_f (by kernel_rfl) ?_
  refine VC.skip ?_
  refine seqK_n ?_
  refine VC.seq ?_
  refine VC.seq ?_
  refine VC.region (E := E) (C := C1) E_ok mixed (by first | exact fun _ => rfl | exact fun h => by cases h) [1, 4, 5, 6, 8, 9, 10, 20, 21, 22, 23, 24, 25, 26, 27, 28, 29, 30, 31, 32, 33, 34, 35, 36, 37, 38] (st' := St.mk [(1, AV.ri IntKind.i16 l), (4, AV.c (Value.slice none 0 0)), (5, AV.c (Value.int IntKind.u8 0)), (6, AV.i 43 (AV.a [])), (20, AV.c (Value.bool (decide (8000 < (↑(List.length l) : Int)))))] []) (ps := []) (by kernel_rfl) (.nil) ?_
  refine seqK_n ?_
  refine VC.cond (b := decide (8000 < (↑(List.length l) : Int))) (by kernel_rfl) (fun h1 => ?_) (fun h1 => ?_)
  ·
    simp at h1
    refine VC.seq ?_
    refine VC.region (E := E) (C := C1) E_ok mixed (by first | exact fun _ => rfl | exact fun h => by cases h) [1, 4, 5, 6, 8, 9, 10, 21, 22, 23, 24, 25, 26, 27, 28, 29, 30, 31, 32, 33, 34, 35, 36, 37, 38] (st' := St.mk [(1, AV.ri IntKind.i16 l), (4, AV.c (Value.slice none 0 0)), (5, AV.c (Value.int IntKind.u8 4)), (6, AV.i 43 (AV.a []))] []) (ps := []) (by kernel_rfl) (.nil) ?_
    refine seqK_n ?_
    refine VC.ent (Ent.sub (st' := St.mk [(1, AV.ri IntKind.i16 l), (4, AV.ri IntKind.u8 []), (5, AV.c (Value.int IntKind.u8 4)), (6, AV.i 43 (AV.a []))] []) (All.of (l' := [(1 : Nat) = (1 : Nat), AV.ri IntKind.i16 l = AV.ri IntKind.i16 l, (4 : Nat) = (4 : Nat), @Eq (List Int) ([]) ([]), (5 : Nat) = (5 : Nat), AV.c (Value.int IntKind.u8 (4 : Int)) = AV.c (Value.int IntKind.u8 (4 : Int)), (6 : Nat) = (6 : Nat), AV.i (43 : Nat) (AV.a []) = AV.i (43 : Nat) (AV.a [])]) (by kernel_rfl) (.cons (by rfl) (.cons (by rfl) (.cons (by rfl) (.cons (by rfl) (.cons (by rfl) (.cons (by rfl) (.cons (by rfl) (.cons (by rfl) (.nil))))))))))) ?_
    refine VC.ret ?_
    refine seqK_r ?_
    exact Fin.all [] (.inr rfl) (l := [AV.ri IntKind.u8 [], AV.c (Value.int IntKind.u8 4)]) (ps := []) (by kernel_rfl) (by kernel_rfl) (.nil) (All.of (l' := []) (by kernel_rfl) (.nil)) (show AV.t [AV.ri IntKind.u8 [], AV.c (Value.int IntKind.u8 4)] = AV.t [AV.ri IntKind.u8 (Sp.pk 2 l), AV.c (Value.int IntKind.u8 (Sp.pkE 2 (List.length l)))] by exact Sp.pk_err (Sp.pkn (.inl h1)) (Sp.pkE_big (.inr rfl) h1))
  ·
    simp at h1
    refine VC.skip ?_
    refine seqK_n ?_
    refine VC.seq ?_
    refine VC.region (E := E) (C := C1) E_ok mixed (by first | exact fun _ => rfl | exact fun h => by cases h) [1, 4, 5, 6, 8, 9, 10, 24, 25, 26, 27, 28, 29, 30, 31, 32, 33, 34, 35, 36, 37, 38] (st' := St.mk [(1, AV.ri IntKind.i16 l), (4, AV.c (Value.slice none 0 0)), (5, AV.c (Value.int IntKind.u8 0)), (6, AV.i 43 (AV.a [])), (8, AV.s 0 0 (Int.toNat (↑(List.length l) : Int)) (Int.toNat (↑(List.length l) : Int)))] [HObj.oi 5 IntKind.u8 (List.replicate (Int.toNat (↑(List.length l) : Int)) 0)]) (ps := [(0 : Int) ≤ (↑(List.length l) : Int), (↑(List.length l) : Int) ≤ (↑(List.length l) : Int), (1 : Int) * (↑(List.length l) : Int) ≤ (281474976710656 : Int), (↑(List.length l) : Int) ≤ (9223372036854775807 : Int), (1 : Nat) = (1 : Nat), @Eq (List Value) ([Value.int IntKind.u8 (0 : Int)]) ([Value.int IntKind.u8 (0 : Int)])]) (by kernel_rfl) (.cons (by omega) (.cons (by omega) (.cons (by omega) (.cons (by omega) (.cons (by trivial) (.cons (by trivial) (.nil))))))) ?_
    refine seqK_n ?_
    refine VC.seq ?_
    refine VC.seq ?_
    refine VC.region (E := E) (C := C1) E_ok mixed (by first | exact fun _ => rfl | exact fun h => by cases h) [4, 5, 6, 8, 9, 10, 24, 25, 26, 27, 28, 29, 30, 31, 32, 33, 34, 35, 36, 37, 38] (st' := St.mk [(4, AV.c (Value.slice none 0 0)), (5, AV.c (Value.int IntKind.u8 0)), (6, AV.i 43 (AV.a [])), (8, AV.s 0 0 (Int.toNat (↑(List.length l) : Int)) (Int.toNat (↑(List.length l) : Int))), (24, AV.ri IntKind.i16 l), (25, AV.c (Value.int IntKind.i64 (↑(List.length l) : Int))), (26, AV.c (Value.int IntKind.i64 0))] [HObj.oi 5 IntKind.u8 (List.replicate (Int.toNat (↑(List.length l) : Int)) 0)]) (ps := []) (by kernel_rfl) (.nil) ?_
    refine seqK_n ?_
    refine VC.block ?_
    refine VC.loop (Y := {j : Nat // j ≤ l.length}) (fun j => ⟨[(6, .i 43 (.a [])), (8, .s 0 0 l.length l.length), (24, .ri .i16 l), (25, .c (.int .i64 (l.length : Nat))), (26, .c (.int .i64 (j.1 : Nat)))], [.oi 5 .u8 (Sp.rowm Sp.a l j.1)]⟩) (fun j => l.length - j.1) ⟨0, by omega⟩ ?_ ?_
    ·
      exact Ent.map [0] (by kernel_rfl) (All.of (l' := [HObj.oi (5 : TypeId) IntKind.u8 (Sp.rowm Sp.a l (0 : Nat)) = HObj.dead ∨ HObj.oi (5 : TypeId) IntKind.u8 (List.replicate (Int.toNat (↑(List.length l) : Int)) (0 : Int)) = HObj.oi (5 : TypeId) IntKind.u8 (Sp.rowm Sp.a l (0 : Nat))]) (by kernel_rfl) (.cons (by exact .inr rfl) (.nil))) (All.of (l' := [some (AV.i (43 : Nat) (AV.a [])) = some (AV.i (43 : Nat) (AV.a [])), some (AV.s (0 : Nat) (0 : Nat) (Int.toNat (↑(List.length l) : Int)) (Int.toNat (↑(List.length l) : Int))) = some (AV.s (0 : Nat) (0 : Nat) (List.length l) (List.length l)), some (AV.ri IntKind.i16 l) = some (AV.ri IntKind.i16 l), some (AV.c (Value.int IntKind.i64 (↑(List.length l) : Int))) = some (AV.c (Value.int IntKind.i64 (↑(List.length l) : Int))), some (AV.c (Value.int IntKind.i64 (0 : Int))) = some (AV.c (Value.int IntKind.i64 (0 : Int)))]) (by kernel_rfl) (.cons (by with_reducible rfl) (.cons (by trivial) (.cons (by with_reducible rfl) (.cons (by with_reducible rfl) (.cons (by with_reducible rfl) (.nil)))))))
    intro ⟨j, hj⟩
    refine VC.seq ?_
    refine VC.region (E := E) (C := C1) E_ok mixed (by first | exact fun _ => rfl | exact fun h => by cases h) [4, 5, 6, 8, 9, 10, 24, 25, 26, 27, 28, 29, 30, 31, 32, 33, 34, 35, 36, 37, 38] (st' := St.mk [(6, AV.i 43 (AV.a [])), (8, AV.s 0 0 (List.length l) (List.length l)), (24, AV.ri IntKind.i16 l), (25, AV.c (Value.int IntKind.i64 (↑(List.length l) : Int))), (26, AV.c (Value.int IntKind.i64 (↑j : Int))), (27, AV.c (Value.bool (decide ((↑j : Int) < (↑(List.length l) : Int)))))] [HObj.oi 5 IntKind.u8 (Sp.rowm Sp.a l j)]) (ps := []) (by kernel_rfl) (.nil) ?_
    refine seqK_n ?_
    refine VC.seq ?_
    refine VC.cond (b := decide ((↑j : Int) < (↑(List.length l) : Int))) (by kernel_rfl) (fun h2 => ?_) (fun h2 => ?_)
    ·
      simp at h2
      refine VC.skip ?_
      refine seqK_n ?_
      refine VC.seq ?_
      refine VC.block ?_
      refine VC.seq ?_
      refine VC.region (E := E) (C := C1) E_ok mixed (by first | exact fun _ => rfl | exact fun h => by cases h) [4, 5, 6, 8, 9, 10, 24, 25, 26, 31, 32, 33, 34, 35, 36, 37, 38] (st' := St.mk [(6, AV.i 43 (AV.a [])), (8, AV.s 0 0 (List.length l) (List.length l)), (9, AV.c (Value.int IntKind.i64 (↑j : Int))), (10, AV.c (Value.int IntKind.i16 (List.getD l (Int.toNat (↑j : Int) * 1) 0))), (24, AV.ri IntKind.i16 l), (25, AV.c (Value.int IntKind.i64 (↑(List.length l) : Int))), (26, AV.c (Value.int IntKind.i64 (↑j : Int)))] [HObj.oi 5 IntKind.u8 (Sp.rowm Sp.a l j)]) (ps := [(0 : Int) ≤ (↑j : Int), (↑j : Int) < (↑(List.length l) : Int), Int.toNat (↑j : Int) * (1 : Nat) < List.length l]) (by kernel_rfl) (.cons (by omega) (.cons (by omega) (.cons (by omega) (.nil)))) ?_
      refine seqK_n ?_
      refine VC.region (E := E) (C := C1) E_ok mixed (by first | exact fun _ => rfl | exact fun h => by cases h) [4, 5, 6, 8, 24, 25, 26, 37, 38] (st' := St.mk [(6, AV.i 43 (AV.a [])), (8, AV.s 0 0 (List.length l) (List.length l)), (24, AV.ri IntKind.i16 l), (25, AV.c (Value.int IntKind.i64 (↑(List.length l) : Int))), (26, AV.c (Value.int IntKind.i64 (↑j : Int)))] [HObj.oi 5 IntKind.u8 (List.set (Sp.rowm Sp.a l j) (0 + Int.toNat (↑j : Int) * 1) (Sp.a (List.getD l (Int.toNat (↑j : Int) * 1) 0)))]) (ps := [MethOK Try.prog (43 : Nat) "dialtone/compand.code" (29 : Nat), Con Try.prog L0 (29 : Nat) [] [AV.a [], AV.c (Value.int IntKind.i16 (List.getD l (Int.toNat (↑j : Int) * (1 : Nat)) (0 : Int)))] [] (AV.c (Value.int IntKind.u8 (Sp.a (List.getD l (Int.toNat (↑j : Int) * (1 : Nat)) (0 : Int))))), true = true ∨ True ∧ ∀ (o : HObj), o ∈ [] → HObj.nr o, (0 : Int) ≤ (↑j : Int), (↑j : Int) < (↑(List.length l) : Int), (0 : Nat) < List.length (Sp.rowm Sp.a l j), (0 : Nat) + Int.toNat (↑j : Int) * (1 : Nat) < List.length (Sp.rowm Sp.a l j)]) (by kernel_rfl) (.cons (by exact fun v w => by kernel_rfl) (.cons (by exact con_second_code _ (getD_in hl (by omega) _)) (.cons (by simp) (.cons (by omega) (.cons (by omega) (.cons (by rw [Sp.rowm_len _ _ _ (by omega)]; omega) (.cons (by rw [Sp.rowm_len _ _ _ (by omega)]; omega) (.nil)))))))) ?_
      refine blockK_n ?_
      refine seqK_n ?_
      refine VC.regionE (E := E) (C := C1) E_ok mixed (by first | exact fun _ => rfl | exact fun h => by cases h) [4, 5, 6, 8, 24, 25, 26, 38] (st' := St.mk [(6, AV.i 43 (AV.a [])), (8, AV.s 0 0 (List.length l) (List.length l)), (24, AV.ri IntKind.i16 l), (25, AV.c (Value.int IntKind.i64 (↑(List.length l) : Int))), (26, AV.c (Value.int IntKind.i64 (IntKind.wrap IntKind.i64 ((↑j : Int) + 1))))] [HObj.oi 5 IntKind.u8 (List.set (Sp.rowm Sp.a l j) (0 + Int.toNat (↑j : Int) * 1) (Sp.a (List.getD l (Int.toNat (↑j : Int) * 1) 0)))]) (ps := []) (by kernel_rfl) (.nil) (st'' := St.mk [(6, AV.i 43 (AV.a [])), (8, AV.s 0 0 (List.length l) (List.length l)), (24, AV.ri IntKind.i16 l), (25, AV.c (Value.int IntKind.i64 (↑(List.length l) : Int))), (26, AV.c (Value.int IntKind.i64 ((↑j : Int) + 1)))] [HObj.oi 5 IntKind.u8 (List.set (Sp.rowm Sp.a l j) j (Sp.a (List.getD l j 0)))]) (by simp (disch := omega) only [wrap_i8, wrap_i16, wrap_i32, wrap_i64, wrap_u8, wrap_u16, wrap_u32, wrap_u64, Int.tdiv_eq_ediv_of_nonneg, Int.tmod_eq_emod_of_nonneg, Int.toNat_natCast, Int.reduceToNat, Nat.mul_one, Nat.zero_add, Nat.add_zero, Nat.one_mul, Int.one_mul, Int.zero_add, Int.add_zero, Int.mul_one, List.drop_zero, List.take_length, Int.zero_sub]) ?_
      refine loopK_n (⟨j + 1, by omega⟩) ?_ ?_
      ·
        exact (show List.length l - (j + 1) < List.length l - j by omega)
      ·
        exact Ent.map [0] (by kernel_rfl) (All.of (l' := [HObj.oi (5 : TypeId) IntKind.u8 (Sp.rowm Sp.a l (j + (1 : Nat))) = HObj.dead ∨ HObj.oi (5 : TypeId) IntKind.u8 (List.set (Sp.rowm Sp.a l j) j (Sp.a (List.getD l j (0 : Int)))) = HObj.oi (5 : TypeId) IntKind.u8 (Sp.rowm Sp.a l (j + (1 : Nat)))]) (by kernel_rfl) (.cons (by exact .inr (by rw [Sp.rowm_set Sp.a h2])) (.nil))) (All.of (l' := [some (AV.i (43 : Nat) (AV.a [])) = some (AV.i (43 : Nat) (AV.a [])), some (AV.s (0 : Nat) (0 : Nat) (List.length l) (List.length l)) = some (AV.s (0 : Nat) (0 : Nat) (List.length l) (List.length l)), some (AV.ri IntKind.i16 l) = some (AV.ri IntKind.i16 l), some (AV.c (Value.int IntKind.i64 (↑(List.length l) : Int))) = some (AV.c (Value.int IntKind.i64 (↑(List.length l) : Int))), some (AV.c (Value.int IntKind.i64 ((↑j : Int) + (1 : Int)))) = some (AV.c (Value.int IntKind.i64 (↑(j + (1 : Nat)) : Int)))]) (by kernel_rfl) (.cons (by with_reducible rfl) (.cons (by with_reducible rfl) (.cons (by with_reducible rfl) (.cons (by with_reducible rfl) (.cons (by trivial) (.nil)))))))
    ·
      simp at h2
      refine VC.exit ?_
      refine seqK_x ?_
      refine loopK_x ?_
      refine blockK_x ?_
      refine seqK_n ?_
      refine VC.seq ?_
      refine VC.region (E := E) (C := C1) E_ok mixed (by first | exact fun _ => rfl | exact fun h => by cases h) [4, 5] (st' := St.mk [(4, AV.s 0 0 (List.length l) (List.length l)), (5, AV.c (Value.int IntKind.u8 0))] [HObj.oi 5 IntKind.u8 (Sp.rowm Sp.a l j)]) (ps := []) (by kernel_rfl) (.nil) ?_
      refine seqK_n ?_
      refine VC.ent (Ent.freeze 0 (st' := St.mk [(4, AV.ri IntKind.u8 (List.take (List.length l) (List.drop 0 (Sp.rowm Sp.a l j)))), (5, AV.c (Value.int IntKind.u8 0))] [HObj.dead]) trivial (by kernel_rfl) (All.of (l' := [List.length l ≤ List.length l, (0 : Nat) + List.length l ≤ List.length (Sp.rowm Sp.a l j)]) (by kernel_rfl) (.cons (by omega) (.cons (by rw [Sp.rowm_len _ _ _ (by omega)]; omega) (.nil))))) ?_
      refine VC.ret ?_
      exact Fin.all [] (.inr rfl) (l := [AV.ri IntKind.u8 (List.take (List.length l) (List.drop 0 (Sp.rowm Sp.a l j))), AV.c (Value.int IntKind.u8 0)]) (ps := []) (by kernel_rfl) (by kernel_rfl) (.nil) (All.of (l' := []) (by kernel_rfl) (.nil)) (show AV.t [AV.ri IntKind.u8 (List.take (List.length l) (List.drop 0 (Sp.rowm Sp.a l j))), AV.c (Value.int IntKind.u8 0)] = AV.t [AV.ri IntKind.u8 (Sp.pk 2 l), AV.c (Value.int IntKind.u8 (Sp.pkE 2 (List.length l)))] by rw [Sp.rowm_end hj h2, Sp.pk2 h1, Sp.pkE_ok (.inr rfl) h1, List.take_of_length_le (by simp)]; rfl)
theorem con_Pack (n : Int) (l : List Int) (hl : ∀ x ∈ l, -32768 ≤ x ∧ x ≤ 32767) : Con Try.prog L0 21 [] [.c (.int .u8 n), .ri .i16 l] [] (.t [.ri .u8 (Sp.pk n l), .c (.int .u8 (Sp.pkE n l.length))]) := by
  by_cases h1 : n = 1
  · subst h1; exact con_Pack1 l hl
  by_cases h2 : n = 2
  · subst h2; exact con_Pack2 l hl
  refine con_of_vc E_ok mixed Try.func21 rfl Try.call21 (Nat.le_of_ble_eq_true rfl) ?_
  refine VC.seq ?_
  refine VC.region (E := E) (C := C1n) E_ok mixed (by first | exact fun _ => rfl | exact fun h => by cases h) [0, 1, 4, 5, 6, 7, 8, 9, 10, 11, 12, 13, 14, 15, 16, 17, 18, 19, 20, 21, 22, 23, 24, 25, 26, 27, 28, 29, 30, 31, 32, 33, 34, 35, 36, 37, 38] (st' := St.mk [(0, AV.c (Value.int IntKind.u8 n)), (1, AV.ri IntKind.i16 l), (4, AV.c (Value.slice none 0 0)), (5, AV.c (Value.int IntKind.u8 0))] []) (ps := []) (by kernel_rfl) (.nil) ?_
  refine seqK_n ?_
  refine VC.seq ?_
  refine VC.region (E := E) (C := C1n) E_ok mixed (by first | exact fun _ => rfl | exact fun h => by cases h) [1, 4, 5, 6, 7, 8, 9, 10, 16, 17, 18, 19, 20, 21, 22, 23, 24, 25, 26, 27, 28, 29, 30, 31, 32, 33, 34, 35, 36, 37, 38] (st' := St.mk [(1, AV.ri IntKind.i16 l), (4, AV.c (Value.slice none 0 0)), (5, AV.c (Value.int IntKind.u8 0)), (6, AV.c Value.nilIface), (7, AV.c (Value.bool false))] []) (ps := [Con Try.prog L0 (31 : Nat) [] [AV.c (Value.int IntKind.u8 n)] [] (AV.t [AV.c Value.nilIface, AV.c (Value.bool false)]), true = true ∨ (True ∧ True ∧ True) ∧ ∀ (o : HObj), o ∈ [] → HObj.nr o]) (by kernel_rfl) (.cons (by exact con_find0 _ h1 h2) (.cons (by simp) (.nil))) ?_
  refine seqK_n ?_
  refine VC.seq ?_
  refine VC.seq ?_
  refine VC.region (E := E) (C := C1n) E_ok mixed (by first | exact fun _ => rfl | exact fun h => by cases h) [1, 4, 5, 6, 8, 9, 10, 17, 18, 19, 20, 21, 22, 23, 24, 25, 26, 27, 28, 29, 30, 31, 32, 33, 34, 35, 36, 37, 38] (st' := St.mk [(1, AV.ri IntKind.i16 l), (4, AV.c (Value.slice none 0 0)), (5, AV.c (Value.int IntKind.u8 0)), (6, AV.c Value.nilIface), (17, AV.c (Value.bool true))] []) (ps := []) (by kernel_rfl) (.nil) ?_
  refine seqK_n ?_
  refine VC.cond_t (by kernel_rfl) ?_
  refine VC.seq ?_
  refine VC.region (E := E) (C := C1n) E_ok mixed (by first | exact fun _ => rfl | exact fun h => by cases h) [1, 4, 5, 6, 8, 9, 10, 18, 19, 20, 21, 22, 23, 24, 25, 26, 27, 28, 29, 30, 31, 32, 33, 34, 35, 36, 37, 38] (st' := St.mk [(1, AV.ri IntKind.i16 l), (4, AV.c (Value.slice none 0 0)), (5, AV.c (Value.int IntKind.u8 2)), (6, AV.c Value.nilIface)] []) (ps := []) (by kernel_rfl) (.nil) ?_
  refine seqK_n ?_
  refine VC.ent (Ent.sub (st' := St.mk [(1, AV.ri IntKind.i16 l), (4, AV.ri IntKind.u8 []), (5, AV.c (Value.int IntKind.u8 2)), (6, AV.c Value.nilIface)] []) (All.of (l' := [(1 : Nat) = (1 : Nat), AV.ri IntKind.i16 l = AV.ri IntKind.i16 l, (4 : Nat) = (4 : Nat), @Eq (List Int) ([]) ([]), (5 : Nat) = (5 : Nat), AV.c (Value.int IntKind.u8 (2 : Int)) = AV.c (Value.int IntKind.u8 (2 : Int)), (6 : Nat) = (6 : Nat), AV.c Value.nilIface = AV.c Value.nilIface]) (by kernel_rfl) (.cons (by rfl) (.cons (by rfl) (.cons (by rfl) (.cons (by rfl) (.cons (by rfl) (.cons (by rfl) (.cons (by rfl) (.cons (by rfl) (.nil))))))))))) ?_
  refine VC.ret ?_
  refine seqK_r ?_
  exact Fin.all [] (.inr rfl) (l := [AV.ri IntKind.u8 [], AV.c (Value.int IntKind.u8 2)]) (ps := []) (by kernel_rfl) (by kernel_rfl) (.nil) (All.of (l' := []) (by kernel_rfl) (.nil)) (show AV.t [AV.ri IntKind.u8 [], AV.c (Value.int IntKind.u8 2)] = AV.t [AV.ri IntKind.u8 (Sp.pk n l), AV.c (Value.int IntKind.u8 (Sp.pkE n (List.length l)))] by exact Sp.pk_err (Sp.pkn (.inr ⟨h1, h2⟩)) (Sp.pkE_arg ⟨h1, h2⟩))
theorem con_rPack (n : Int) (l : List Int) (hl : ∀ x ∈ l, -32768 ≤ x ∧ x ≤ 32767) : Con Try.prog L0 22 [] [.c (.int .u8 n), .ri .i16 l] [] (.t [.ri .u8 (Sp.pk n l), .c (.int .u8 (Sp.pkE n l.length))]) := by
  by_cases hn : n = 1
  ·
    subst hn
    refine con_of_vc E_ok mixed Try.func22 rfl Try.call22 (Nat.le_of_ble_eq_true rfl) ?_
    refine VC.seq ?_
    refine VC.region (E := E) (C := C1) E_ok mixed (by first | exact fun _ => rfl | exact fun h => by cases h) [0, 1, 4, 5, 6, 7, 8, 9, 10, 11, 12, 13, 14, 15, 16, 17, 18, 19, 20, 21, 22, 23, 24, 25, 26, 27, 28, 29, 30, 31, 32, 33, 34, 35, 36, 37, 38, 39, 40, 41] (st' := St.mk [(0, AV.c (Value.int IntKind.u8 1)), (1, AV.ri IntKind.i16 l), (4, AV.c (Value.slice none 0 0)), (5, AV.c (Value.int IntKind.u8 0))] []) (ps := []) (by kernel_rfl) (.nil) ?_
    refine seqK_n ?_
    refine VC.seq ?_
    refine VC.seq ?_
    refine VC.region (E := E) (C := C1) E_ok mixed (by first | exact fun _ => rfl | exact fun h => by cases h) [0, 1, 4, 5, 6, 7, 13, 14, 15, 16, 17, 18, 19, 20, 21, 22, 23, 24, 25, 26, 27, 28, 29, 30, 31, 32, 33, 34, 35, 36, 37, 38, 39, 40, 41] (st' := St.mk [(0, AV.c (Value.int IntKind.u8 1)), (1, AV.ri IntKind.i16 l), (4, AV.c (Value.slice none 0 0)), (5, AV.c (Value.int IntKind.u8 0)), (13, AV.c (Value.bool false))] []) (ps := [false = true → True, false = true → false = true ∧ True, false = true → false = true ∧ True, false = false → True]) (by kernel_rfl) (.cons (by exact fun _ => trivial) (.cons (by exact fun h => ⟨h, trivial⟩) (.cons (by exact fun h => ⟨h, trivial⟩) (.cons (by exact fun _ => trivial) (.nil))))) ?_
    refine seqK_n ?_
    refine VC.cond_f (by kernel_rfl) ?_
    refine VC.skip ?_
    refine seqK_n ?_
    refine VC.seq ?_
    refine VC.seq ?_
    refine VC.region (E := E) (C := C1) E_ok mixed (by first | exact fun _ => rfl | exact fun h => by cases h) [0, 1, 4, 5, 6, 7, 16, 17, 18, 19, 20, 21, 22, 23, 24, 25, 26, 27, 28, 29, 30, 31, 32, 33, 34, 35, 36, 37, 38, 39, 40, 41] (st' := St.mk [(0, AV.c (Value.int IntKind.u8 1)), (1, AV.ri IntKind.i16 l), (4, AV.c (Value.slice none 0 0)), (5, AV.c (Value.int IntKind.u8 0)), (16, AV.c (Value.bool (decide (8000 < (↑(List.length l) : Int)))))] []) (ps := []) (by kernel_rfl) (.nil) ?_
    refine seqK_n ?_
    refine VC.cond (b := decide (8000 < (↑(List.length l) : Int))) (by kernel_rfl) (fun h1 => ?_) (fun h1 => ?_)
    ·
      simp at h1
      refine VC.seq ?_
      refine VC.region (E := E) (C := C1) E_ok mixed (by first | exact fun _ => rfl | exact fun h => by cases h) [0, 1, 4, 5, 6, 7, 17, 18, 19, 20, 21, 22, 23, 24, 25, 26, 27, 28, 29, 30, 31, 32, 33, 34, 35, 36, 37, 38, 39, 40, 41] (st' := St.mk [(0, AV.c (Value.int IntKind.u8 1)), (1, AV.ri IntKind.i16 l), (4, AV.c (Value.slice none 0 0)), (5, AV.c (Value.int IntKind.u8 4))] []) (ps := []) (by kernel_rfl) (.nil) ?_
      refine seqK_n ?_
      refine VC.ent (Ent.sub (st' := St.mk [(0, AV.c (Value.int IntKind.u8 1)), (1, AV.ri IntKind.i16 l), (4, AV.ri IntKind.u8 []), (5, AV.c (Value.int IntKind.u8 4))] []) (All.of (l' := [(0 : Nat) = (0 : Nat), AV.c (Value.int IntKind.u8 (1 : Int)) = AV.c (Value.int IntKind.u8 (1 : Int)), (1 : Nat) = (1 : Nat), AV.ri IntKind.i16 l = AV.ri IntKind.i16 l, (4 : Nat) = (4 : Nat), @Eq (List Int) ([]) ([]), (5 : Nat) = (5 : Nat), AV.c (Value.int IntKind.u8 (4 : Int)) = AV.c (Value.int IntKind.u8 (4 : Int))]) (by kernel_rfl) (.cons (by rfl) (.cons (by rfl) (.cons (by rfl) (.cons (by rfl) (.cons (by rfl) (.cons (by rfl) (.cons (by rfl) (.cons (by rfl) (.nil))))))))))) ?_
      refine VC.ret ?_
      refine seqK_r ?_
      exact Fin.all [] (.inr rfl) (l := [AV.ri IntKind.u8 [], AV.c (Value.int IntKind.u8 4)]) (ps := []) (by kernel_rfl) (by kernel_rfl) (.nil) (All.of (l' := []) (by kernel_rfl) (.nil)) (show AV.t [AV.ri IntKind.u8 [], AV.c (Value.int IntKind.u8 4)] = AV.t [AV.ri IntKind.u8 (Sp.pk 1 l), AV.c (Value.int IntKind.u8 (Sp.pkE 1 (List.length l)))] by exact Sp.pk_err (Sp.pkn (.inl h1)) (Sp.pkE_big (.inl rfl) h1))
    ·
      simp at h1
      refine VC.skip ?_
      refine seqK_n ?_
      refine VC.seq ?_
      refine VC.region (E := E) (C := C1) E_ok mixed (by first | exact fun _ => rfl | exact fun h => by cases h) [0, 1, 4, 5, 6, 7, 17, 18, 19, 20, 21, 22, 23, 24, 25, 26, 27, 28, 29, 30, 31, 32, 33, 34, 35, 36, 37, 38, 39, 40, 41] (st' := St.mk [(0, AV.c (Value.int IntKind.u8 1)), (1, AV.ri IntKind.i16 l), (4, AV.c (Value.slice none 0 0)), (5, AV.c (Value.int IntKind.u8 0)), (6, AV.c (Value.slice none 0 0))] []) (ps := []) (by kernel_rfl) (.nil) ?_
      refine seqK_n ?_
      refine VC.seq ?_
      refine VC.seq ?_
      refine VC.region (E := E) (C := C1) E_ok mixed (by first | exact fun _ => rfl | exact fun h => by cases h) [0, 1, 4, 5, 6, 7, 17, 18, 19, 20, 21, 22, 23, 24, 25, 26, 27, 28, 29, 30, 31, 32, 33, 34, 35, 36, 37, 38, 39, 40, 41] (st' := St.mk [(0, AV.c (Value.int IntKind.u8 1)), (1, AV.ri IntKind.i16 l), (4, AV.c (Value.slice none 0 0)), (5, AV.c (Value.int IntKind.u8 0)), (6, AV.c (Value.slice none 0 0)), (7, AV.c (Value.int IntKind.i64 0))] []) (ps := []) (by kernel_rfl) (.nil) ?_
      refine seqK_n ?_
      refine VC.block ?_
      refine VC.ent (Ent.nil 6 (HObj.oi 5 .u8 []) (by first | exact .inl ⟨_, _, rfl⟩ | exact .inr ⟨_, _, rfl⟩) (by kernel_rfl)) ?_
      refine VC.loop (Y := {j : Nat // j ≤ l.length}) (fun j => ⟨[(0, .c (.int .u8 1)), (1, .ri .i16 l), (6, .s 0 0 j.1 j.1), (7, .c (.int .i64 (j.1 : Nat)))], [.oi 5 .u8 ((l.take j.1).map Sp.mu)]⟩) (fun j => l.length - j.1) ⟨0, by omega⟩ ?_ ?_
      ·
        exact Ent.map [0] (by kernel_rfl) (All.of (l' := [HObj.oi (5 : TypeId) IntKind.u8 [] = HObj.dead ∨ HObj.oi (5 : TypeId) IntKind.u8 [] = HObj.oi (5 : TypeId) IntKind.u8 []]) (by kernel_rfl) (.cons (by exact .inr rfl) (.nil))) (All.of (l' := [some (AV.c (Value.int IntKind.u8 (1 : Int))) = some (AV.c (Value.int IntKind.u8 (1 : Int))), some (AV.ri IntKind.i16 l) = some (AV.ri IntKind.i16 l), some (AV.s (0 : Nat) (0 : Nat) (0 : Nat) (0 : Nat)) = some (AV.s (0 : Nat) (0 : Nat) (0 : Nat) (0 : Nat)), some (AV.c (Value.int IntKind.i64 (0 : Int))) = some (AV.c (Value.int IntKind.i64 (0 : Int)))]) (by kernel_rfl) (.cons (by with_reducible rfl) (.cons (by with_reducible rfl) (.cons (by with_reducible rfl) (.cons (by with_reducible rfl) (.nil))))))
      intro ⟨j, hj⟩
      refine VC.seq ?_
      refine VC.seq ?_
      refine VC.region (E := E) (C := C1) E_ok mixed (by first | exact fun _ => rfl | exact fun h => by cases h) [0, 1, 4, 5, 6, 7, 20, 21, 22, 23, 24, 25, 26, 27, 28, 29, 30, 31, 32, 33, 34, 35, 36, 37, 38, 39, 40, 41] (st' := St.mk [(0, AV.c (Value.int IntKind.u8 1)), (1, AV.ri IntKind.i16 l), (6, AV.s 0 0 j j), (7, AV.c (Value.int IntKind.i64 (↑j : Int))), (20, AV.c (Value.bool (decide ((↑j : Int) < (↑(List.length l) : Int)))))] [HObj.oi 5 IntKind.u8 (List.map Sp.mu (List.take j l))]) (ps := []) (by kernel_rfl) (.nil) ?_
      refine seqK_n ?_
      refine VC.cond (b := decide ((↑j : Int) < (↑(List.length l) : Int))) (by kernel_rfl) (fun h2 => ?_) (fun h2 => ?_)
      ·
        simp at h2
        refine VC.skip ?_
        refine seqK_n ?_
        refine VC.seq ?_
        refine VC.block ?_
        refine VC.seq ?_
        refine VC.region (E := E) (C := C1) E_ok mixed (by first | exact fun _ => rfl | exact fun h => by cases h) [0, 1, 4, 5, 6, 7, 21, 22, 24, 25, 26, 27, 28, 29, 30, 31, 32, 33, 34, 35, 36, 37, 38, 39, 40, 41] (st' := St.mk [(0, AV.c (Value.int IntKind.u8 1)), (1, AV.ri IntKind.i16 l), (6, AV.s 0 0 j j), (7, AV.c (Value.int IntKind.i64 (↑j : Int))), (24, AV.c (Value.bool true))] [HObj.oi 5 IntKind.u8 (List.map Sp.mu (List.take j l))]) (ps := []) (by kernel_rfl) (.nil) ?_
        refine seqK_n ?_
        refine VC.cond_t (by kernel_rfl) ?_
        refine VC.regionE (E := E) (C := C1) E_ok mixed (by first | exact fun _ => rfl | exact fun h => by cases h) [0, 1, 4, 5, 6, 7, 21, 22, 41] (st' := St.mk [(0, AV.c (Value.int IntKind.u8 1)), (1, AV.ri IntKind.i16 l), (6, AV.s 2 0 (j + 1) (j + 1)), (7, AV.c (Value.int IntKind.i64 (↑j : Int)))] [HObj.dead, HObj.oi 5 IntKind.u8 [Sp.mu (List.getD l (Int.toNat (↑j : Int) * 1) 0)], HObj.oi 5 IntKind.u8 (List.map Sp.mu (List.take j l) ++ [Sp.mu (List.getD l (Int.toNat (↑j : Int) * 1) 0)])]) (ps := [(0 : Int) ≤ (↑j : Int), (↑j : Int) < (↑(List.length l) : Int), Int.toNat (↑j : Int) * (1 : Nat) < List.length l, Con Try.prog L0 (15 : Nat) [] [AV.c (Value.int IntKind.i16 (List.getD l (Int.toNat (↑j : Int) * (1 : Nat)) (0 : Int)))] [] (AV.c (Value.int IntKind.u8 (Sp.mu (List.getD l (Int.toNat (↑j : Int) * (1 : Nat)) (0 : Int))))), true = true ∨ True ∧ ∀ (o : HObj), o ∈ [] → HObj.nr o, (1 : Nat) ≤ (1000 : Nat), (j + (1 : Nat)) * (1 : Nat) ≤ (140737488355328 : Nat), j + (1 : Nat) ≤ (9223372036854775807 : Nat), j = List.length (List.map Sp.mu (List.take j l)), j = j, (1 : Nat) ≤ (1 : Nat)]) (by kernel_rfl) (.cons (by omega) (.cons (by omega) (.cons (by omega) (.cons (by exact con_rMu _ (getD_in hl (by omega) _)) (.cons (by simp) (.cons (by trivial) (.cons (by omega) (.cons (by omega) (.cons (by simp at *; omega) (.cons (by trivial) (.cons (by trivial) (.nil)))))))))))) (st'' := St.mk [(0, AV.c (Value.int IntKind.u8 1)), (1, AV.ri IntKind.i16 l), (6, AV.s 2 0 (j + 1) (j + 1)), (7, AV.c (Value.int IntKind.i64 (↑j : Int)))] [HObj.dead, HObj.oi 5 IntKind.u8 [Sp.mu (List.getD l j 0)], HObj.oi 5 IntKind.u8 (List.map Sp.mu (List.take j l) ++ [Sp.mu (List.getD l j 0)])]) (by simp (disch := omega) only [wrap_i8, wrap_i16, wrap_i32, wrap_i64, wrap_u8, wrap_u16, wrap_u32, wrap_u64, Int.tdiv_eq_ediv_of_nonneg, Int.tmod_eq_emod_of_nonneg, Int.toNat_natCast, Int.reduceToNat, Nat.mul_one, Nat.zero_add, Nat.add_zero, Nat.one_mul, Int.one_mul, Int.zero_add, Int.add_zero, Int.mul_one, List.drop_zero, List.take_length, Int.zero_sub]) ?_
        refine blockK_n ?_
        refine seqK_n ?_
        refine VC.regionE (E := E) (C := C1) E_ok mixed (by first | exact fun _ => rfl | exact fun h => by cases h) [0, 1, 4, 5, 6, 7, 41] (st' := St.mk [(0, AV.c (Value.int IntKind.u8 1)), (1, AV.ri IntKind.i16 l), (6, AV.s 2 0 (j + 1) (j + 1)), (7, AV.c (Value.int IntKind.i64 (IntKind.wrap IntKind.i64 ((↑j : Int) + 1))))] [HObj.dead, HObj.oi 5 IntKind.u8 [Sp.mu (List.getD l j 0)], HObj.oi 5 IntKind.u8 (List.map Sp.mu (List.take j l) ++ [Sp.mu (List.getD l j 0)])]) (ps := []) (by kernel_rfl) (.nil) (st'' := St.mk [(0, AV.c (Value.int IntKind.u8 1)), (1, AV.ri IntKind.i16 l), (6, AV.s 2 0 (j + 1) (j + 1)), (7, AV.c (Value.int IntKind.i64 ((↑j : Int) + 1)))] [HObj.dead, HObj.oi 5 IntKind.u8 [Sp.mu (List.getD l j 0)], HObj.oi 5 IntKind.u8 (List.map Sp.mu (List.take j l) ++ [Sp.mu (List.getD l j 0)])]) (by simp (disch := omega) only [wrap_i8, wrap_i16, wrap_i32, wrap_i64, wrap_u8, wrap_u16, wrap_u32, wrap_u64, Int.tdiv_eq_ediv_of_nonneg, Int.tmod_eq_emod_of_nonneg, Int.toNat_natCast, Int.reduceToNat, Nat.mul_one, Nat.zero_add, Nat.add_zero, Nat.one_mul, Int.one_mul, Int.zero_add, Int.add_zero, Int.mul_one, List.drop_zero, List.take_length, Int.zero_sub]) ?_
        refine loopK_n (⟨j + 1, by omega⟩) ?_ ?_
        ·
          exact (show List.length l - (j + 1) < List.length l - j by omega)
        ·
          exact Ent.map [2] (by kernel_rfl) (All.of (l' := [HObj.oi (5 : TypeId) IntKind.u8 (List.map Sp.mu (List.take (j + (1 : Nat)) l)) = HObj.dead ∨ HObj.oi (5 : TypeId) IntKind.u8 (List.map Sp.mu (List.take j l) ++ [Sp.mu (List.getD l j (0 : Int))]) = HObj.oi (5 : TypeId) IntKind.u8 (List.map Sp.mu (List.take (j + (1 : Nat)) l))]) (by kernel_rfl) (.cons (by exact .inr (by rw [map_take_succ h2])) (.nil))) (All.of (l' := [some (AV.c (Value.int IntKind.u8 (1 : Int))) = some (AV.c (Value.int IntKind.u8 (1 : Int))), some (AV.ri IntKind.i16 l) = some (AV.ri IntKind.i16 l), some (AV.s (2 : Nat) (0 : Nat) (j + (1 : Nat)) (j + (1 : Nat))) = some (AV.s (2 : Nat) (0 : Nat) (j + (1 : Nat)) (j + (1 : Nat))), some (AV.c (Value.int IntKind.i64 ((↑j : Int) + (1 : Int)))) = some (AV.c (Value.int IntKind.i64 (↑(j + (1 : Nat)) : Int)))]) (by kernel_rfl) (.cons (by with_reducible rfl) (.cons (by with_reducible rfl) (.cons (by with_reducible rfl) (.cons (by trivial) (.nil))))))
      ·
        simp at h2
        refine VC.exit ?_
        refine seqK_x ?_
        refine loopK_x ?_
        refine blockK_x ?_
        refine seqK_n ?_
        refine VC.seq ?_
        refine VC.region (E := E) (C := C1) E_ok mixed (by first | exact fun _ => rfl | exact fun h => by cases h) [4, 5] (st' := St.mk [(4, AV.s 0 0 j j), (5, AV.c (Value.int IntKind.u8 0))] [HObj.oi 5 IntKind.u8 (List.map Sp.mu (List.take j l))]) (ps := []) (by kernel_rfl) (.nil) ?_
        refine seqK_n ?_
        refine VC.ent (Ent.freeze 0 (st' := St.mk [(4, AV.ri IntKind.u8 (List.take j (List.drop 0 (List.map Sp.mu (List.take j l))))), (5, AV.c (Value.int IntKind.u8 0))] [HObj.dead]) trivial (by kernel_rfl) (All.of (l' := [j ≤ j, (0 : Nat) + j ≤ List.length (List.map Sp.mu (List.take j l))]) (by kernel_rfl) (.cons (by omega) (.cons (by simp at *; omega) (.nil))))) ?_
        refine VC.ret ?_
        exact Fin.all [] (.inr rfl) (l := [AV.ri IntKind.u8 (List.take j (List.drop 0 (List.map Sp.mu (List.take j l)))), AV.c (Value.int IntKind.u8 0)]) (ps := []) (by kernel_rfl) (by kernel_rfl) (.nil) (All.of (l' := []) (by kernel_rfl) (.nil)) (show AV.t [AV.ri IntKind.u8 (List.take j (List.drop 0 (List.map Sp.mu (List.take j l)))), AV.c (Value.int IntKind.u8 0)] = AV.t [AV.ri IntKind.u8 (Sp.pk 1 l), AV.c (Value.int IntKind.u8 (Sp.pkE 1 (List.length l)))] by rw [take_end hj h2, Sp.pk1 h1, Sp.pkE_ok (.inl rfl) h1, List.take_of_length_le (by simp; omega)]; rfl)
  by_cases hn2 : n = 2
  ·
    subst hn2
    refine con_of_vc E_ok mixed Try.func22 rfl Try.call22 (Nat.le_of_ble_eq_true rfl) ?_
    refine VC.seq ?_
    refine VC.region (E := E) (C := C1) E_ok mixed (by first | exact fun _ => rfl | exact fun h => by cases h) [0, 1, 4, 5, 6, 7, 8, 9, 10, 11, 12, 13, 14, 15, 16, 17, 18, 19, 20, 21, 22, 23, 24, 25, 26, 27, 28, 29, 30, 31, 32, 33, 34, 35, 36, 37, 38, 39, 40, 41] (st' := St.mk [(0, AV.c (Value.int IntKind.u8 2)), (1, AV.ri IntKind.i16 l), (4, AV.c (Value.slice none 0 0)), (5, AV.c (Value.int IntKind.u8 0))] []) (ps := []) (by kernel_rfl) (.nil) ?_
    refine seqK_n ?_
    refine VC.seq ?_
    refine VC.seq ?_
    refine VC.region (E := E) (C := C1) E_ok mixed (by first | exact fun _ => rfl | exact fun h => by cases h) [0, 1, 4, 5, 6, 7, 13, 14, 15, 16, 17, 18, 19, 20, 21, 22, 23, 24, 25, 26, 27, 28, 29, 30, 31, 32, 33, 34, 35, 36, 37, 38, 39, 40, 41] (st' := St.mk [(0, AV.c (Value.int IntKind.u8 2)), (1, AV.ri IntKind.i16 l), (4, AV.c (Value.slice none 0 0)), (5, AV.c (Value.int IntKind.u8 0)), (13, AV.c (Value.bool false))] []) (ps := [true = true → True, true = true → true = true ∧ True, true = true → true = true ∧ True, true = false → True]) (by kernel_rfl) (.cons (by exact fun _ => trivial) (.cons (by exact fun h => ⟨h, trivial⟩) (.cons (by exact fun h => ⟨h, trivial⟩) (.cons (by exact fun _ => trivial) (.nil))))) ?_
    refine seqK_n ?_
    refine VC.cond_f (by kernel_rfl) ?_
    refine VC.skip ?_
    refine seqK_n ?_
    refine VC.seq ?_
    refine VC.seq ?_
    refine VC.region (E := E) (C := C1) E_ok mixed (by first | exact fun _ => rfl | exact fun h => by cases h) [0, 1, 4, 5, 6, 7, 16, 17, 18, 19, 20, 21, 22, 23, 24, 25, 26, 27, 28, 29, 30, 31, 32, 33, 34, 35, 36, 37, 38, 39, 40, 41] (st' := St.mk [(0, AV.c (Value.int IntKind.u8 2)), (1, AV.ri IntKind.i16 l), (4, AV.c (Value.slice none 0 0)), (5, AV.c (Value.int IntKind.u8 0)), (16, AV.c (Value.bool (decide (8000 < (↑(List.length l) : Int)))))] []) (ps := []) (by kernel_rfl) (.nil) ?_
    refine seqK_n ?_
    refine VC.cond (b := decide (8000 < (↑(List.length l) : Int))) (by kernel_rfl) (fun h1 => ?_) (fun h1 => ?_)
    ·
      simp at h1
      refine VC.seq ?_
      refine VC.region (E := E) (C := C1) E_ok mixed (by first | exact fun _ => rfl | exact fun h => by cases h) [0, 1, 4, 5, 6, 7, 17, 18, 19, 20, 21, 22, 23, 24, 25, 26, 27, 28, 29, 30, 31, 32, 33, 34, 35, 36, 37, 38, 39, 40, 41] (st' := St.mk [(0, AV.c (Value.int IntKind.u8 2)), (1, AV.ri IntKind.i16 l), (4, AV.c (Value.slice none 0 0)), (5, AV.c (Value.int IntKind.u8 4))] []) (ps := []) (by kernel_rfl) (.nil) ?_
      refine seqK_n ?_
      refine VC.ent (Ent.sub (st' := St.mk [(0, AV.c (Value.int IntKind.u8 2)), (1, AV.ri IntKind.i16 l), (4, AV.ri IntKind.u8 []), (5, AV.c (Value.int IntKind.u8 4))] []) (All.of (l' := [(0 : Nat) = (0 : Nat), AV.c (Value.int IntKind.u8 (2 : Int)) = AV.c (Value.int IntKind.u8 (2 : Int)), (1 : Nat) = (1 : Nat), AV.ri IntKind.i16 l = AV.ri IntKind.i16 l, (4 : Nat) = (4 : Nat), @Eq (List Int) ([]) ([]), (5 : Nat) = (5 : Nat), AV.c (Value.int IntKind.u8 (4 : Int)) = AV.c (Value.int IntKind.u8 (4 : Int))]) (by kernel_rfl) (.cons (by rfl) (.cons (by rfl) (.cons (by rfl) (.cons (by rfl) (.cons (by rfl) (.cons (by rfl) (.cons (by rfl) (.cons (by rfl) (.nil))))))))))) ?_
      refine VC.ret ?_
      refine seqK_r ?_
      exact Fin.all [] (.inr rfl) (l := [AV.ri IntKind.u8 [], AV.c (Value.int IntKind.u8 4)]) (ps := []) (by kernel_rfl) (by kernel_rfl) (.nil) (All.of (l' := []) (by kernel_rfl) (.nil)) (show AV.t [AV.ri IntKind.u8 [], AV.c (Value.int IntKind.u8 4)] = AV.t [AV.ri IntKind.u8 (Sp.pk 2 l), AV.c (Value.int IntKind.u8 (Sp.pkE 2 (List.length l)))] by exact Sp.pk_err (Sp.pkn (.inl h1)) (Sp.pkE_big (.inr rfl) h1))
    ·
      simp at h1
      refine VC.skip ?_
      refine seqK_n ?_
      refine VC.seq ?_
      refine VC.region (E := E) (C := C1) E_ok mixed (by first | exact fun _ => rfl | exact fun h => by cases h) [0, 1, 4, 5, 6, 7, 17, 18, 19, 20, 21, 22, 23, 24, 25, 26, 27, 28, 29, 30, 31, 32, 33, 34, 35, 36, 37, 38, 39, 40, 41] (st' := St.mk [(0, AV.c (Value.int IntKind.u8 2)), (1, AV.ri IntKind.i16 l), (4, AV.c (Value.slice none 0 0)), (5, AV.c (Value.int IntKind.u8 0)), (6, AV.c (Value.slice none 0 0))] []) (ps := []) (by kernel_rfl) (.nil) ?_
      refine seqK_n ?_
      refine VC.seq ?_
      refine VC.seq ?_
      refine VC.region (E := E) (C := C1) E_ok mixed (by first | exact fun _ => rfl | exact fun h => by cases h) [0, 1, 4, 5, 6, 7, 17, 18, 19, 20, 21, 22, 23, 24, 25, 26, 27, 28, 29, 30, 31, 32, 33, 34, 35, 36, 37, 38, 39, 40, 41] (st' := St.mk [(0, AV.c (Value.int IntKind.u8 2)), (1, AV.ri IntKind.i16 l), (4, AV.c (Value.slice none 0 0)), (5, AV.c (Value.int IntKind.u8 0)), (6, AV.c (Value.slice none 0 0)), (7, AV.c (Value.int IntKind.i64 0))] []) (ps := []) (by kernel_rfl) (.nil) ?_
      refine seqK_n ?_
      refine VC.block ?_
      refine VC.ent (Ent.nil 6 (HObj.oi 5 .u8 []) (by first | exact .inl ⟨_, _, rfl⟩ | exact .inr ⟨_, _, rfl⟩) (by kernel_rfl)) ?_
      refine VC.loop (Y := {j : Nat // j ≤ l.length}) (fun j => ⟨[(0, .c (.int .u8 2)), (1, .ri .i16 l), (6, .s 0 0 j.1 j.1), (7, .c (.int .i64 (j.1 : Nat)))], [.oi 5 .u8 ((l.take j.1).map Sp.a)]⟩) (fun j => l.length - j.1) ⟨0, by omega⟩ ?_ ?_
      ·
        exact Ent.map [0] (by kernel_rfl) (All.of (l' := [HObj.oi (5 : TypeId) IntKind.u8 [] = HObj.dead ∨ HObj.oi (5 : TypeId) IntKind.u8 [] = HObj.oi (5 : TypeId) IntKind.u8 []]) (by kernel_rfl) (.cons (by exact .inr rfl) (.nil))) (All.of (l' := [some (AV.c (Value.int IntKind.u8 (2 : Int))) = some (AV.c (Value.int IntKind.u8 (2 : Int))), some (AV.ri IntKind.i16 l) = some (AV.ri IntKind.i16 l), some (AV.s (0 : Nat) (0 : Nat) (0 : Nat) (0 : Nat)) = some (AV.s (0 : Nat) (0 : Nat) (0 : Nat) (0 : Nat)), some (AV.c (Value.int IntKind.i64 (0 : Int))) = some (AV.c (Value.int IntKind.i64 (0 : Int)))]) (by kernel_rfl) (.cons (by with_reducible rfl) (.cons (by with_reducible rfl) (.cons (by with_reducible rfl) (.cons (by with_reducible rfl) (.nil))))))
      intro ⟨j, hj⟩
      refine VC.seq ?_
      refine VC.seq ?_
      refine VC.region (E := E) (C := C1) E_ok mixed (by first | exact fun _ => rfl | exact fun h => by cases h) [0, 1, 4, 5, 6, 7, 20, 21, 22, 23, 24, 25, 26, 27, 28, 29, 30, 31, 32, 33, 34, 35, 36, 37, 38, 39, 40, 41] (st' := St.mk [(0, AV.c (Value.int IntKind.u8 2)), (1, AV.ri IntKind.i16 l), (6, AV.s 0 0 j j), (7, AV.c (Value.int IntKind.i64 (↑j : Int))), (20, AV.c (Value.bool (decide ((↑j : Int) < (↑(List.length l) : Int)))))] [HObj.oi 5 IntKind.u8 (List.map Sp.a (List.take j l))]) (ps := []) (by kernel_rfl) (.nil) ?_
      refine seqK_n ?_
      refine VC.cond (b := decide ((↑j : Int) < (↑(List.length l) : Int))) (by kernel_rfl) (fun h2 => ?_) (fun h2 => ?_)
      ·
        simp at h2
        refine VC.skip ?_
        refine seqK_n ?_
        refine VC.seq ?_
        refine VC.block ?_
        refine VC.seq ?_
        refine VC.region (E := E) (C := C1) E_ok mixed (by first | exact fun _ => rfl | exact fun h => by cases h) [0, 1, 4, 5, 6, 7, 21, 22, 24, 25, 26, 27, 28, 29, 30, 31, 32, 33, 34, 35, 36, 37, 38, 39, 40, 41] (st' := St.mk [(0, AV.c (Value.int IntKind.u8 2)), (1, AV.ri IntKind.i16 l), (6, AV.s 0 0 j j), (7, AV.c (Value.int IntKind.i64 (↑j : Int))), (24, AV.c (Value.bool false))] [HObj.oi 5 IntKind.u8 (List.map Sp.a (List.take j l))]) (ps := []) (by kernel_rfl) (.nil) ?_
        refine seqK_n ?_
        refine VC.cond_f (by kernel_rfl) ?_
        refine VC.regionE (E := E) (C := C1) E_ok mixed (by first | exact fun _ => rfl | exact fun h => by cases h) [0, 1, 4, 5, 6, 7, 21, 22, 41] (st' := St.mk [(0, AV.c (Value.int IntKind.u8 2)), (1, AV.ri IntKind.i16 l), (6, AV.s 2 0 (j + 1) (j + 1)), (7, AV.c (Value.int IntKind.i64 (↑j : Int)))] [HObj.dead, HObj.oi 5 IntKind.u8 [Sp.a (List.getD l (Int.toNat (↑j : Int) * 1) 0)], HObj.oi 5 IntKind.u8 (List.map Sp.a (List.take j l) ++ [Sp.a (List.getD l (Int.toNat (↑j : Int) * 1) 0)])]) (ps := [(0 : Int) ≤ (↑j : Int), (↑j : Int) < (↑(List.length l) : Int), Int.toNat (↑j : Int) * (1 : Nat) < List.length l, Con Try.prog L0 (16 : Nat) [] [AV.c (Value.int IntKind.i16 (List.getD l (Int.toNat (↑j : Int) * (1 : Nat)) (0 : Int)))] [] (AV.c (Value.int IntKind.u8 (Sp.a (List.getD l (Int.toNat (↑j : Int) * (1 : Nat)) (0 : Int))))), true = true ∨ True ∧ ∀ (o : HObj), o ∈ [] → HObj.nr o, (1 : Nat) ≤ (1000 : Nat), (j + (1 : Nat)) * (1 : Nat) ≤ (140737488355328 : Nat), j + (1 : Nat) ≤ (9223372036854775807 : Nat), j = List.length (List.map Sp.a (List.take j l)), j = j, (1 : Nat) ≤ (1 : Nat)]) (by kernel_rfl) (.cons (by omega) (.cons (by omega) (.cons (by omega) (.cons (by exact con_rA _ (getD_in hl (by omega) _)) (.cons (by simp) (.cons (by trivial) (.cons (by omega) (.cons (by omega) (.cons (by simp at *; omega) (.cons (by trivial) (.cons (by trivial) (.nil)))))))))))) (st'' := St.mk [(0, AV.c (Value.int IntKind.u8 2)), (1, AV.ri IntKind.i16 l), (6, AV.s 2 0 (j + 1) (j + 1)), (7, AV.c (Value.int IntKind.i64 (↑j : Int)))] [HObj.dead, HObj.oi 5 IntKind.u8 [Sp.a (List.getD l j 0)], HObj.oi 5 IntKind.u8 (List.map Sp.a (List.take j l) ++ [Sp.a (List.getD l j 0)])]) (by simp (disch := omega) only [wrap_i8, wrap_i16, wrap_i32, wrap_i64, wrap_u8, wrap_u16, wrap_u32, wrap_u64, Int.tdiv_eq_ediv_of_nonneg, Int.tmod_eq_emod_of_nonneg, Int.toNat_natCast, Int.reduceToNat, Nat.mul_one, Nat.zero_add, Nat.add_zero, Nat.one_mul, Int.one_mul, Int.zero_add, Int.add_zero, Int.mul_one, List.drop_zero, List.take_length, Int.zero_sub]) ?_
        refine blockK_n ?_
        refine seqK_n ?_
        refine VC.regionE (E := E) (C := C1) E_ok mixed (by first | exact fun _ => rfl | exact fun h => by cases h) [0, 1, 4, 5, 6, 7, 41] (st' := St.mk [(0, AV.c (Value.int IntKind.u8 2)), (1, AV.ri IntKind.i16 l), (6, AV.s 2 0 (j + 1) (j + 1)), (7, AV.c (Value.int IntKind.i64 (IntKind.wrap IntKind.i64 ((↑j : Int) + 1))))] [HObj.dead, HObj.oi 5 IntKind.u8 [Sp.a (List.getD l j 0)], HObj.oi 5 IntKind.u8 (List.map Sp.a (List.take j l) ++ [Sp.a (List.getD l j 0)])]) (ps := []) (by kernel_rfl) (.nil) (st'' := St.mk [(0, AV.c (Value.int IntKind.u8 2)), (1, AV.ri IntKind.i16 l), (6, AV.s 2 0 (j + 1) (j + 1)), (7, AV.c (Value.int IntKind.i64 ((↑j : Int) + 1)))] [HObj.dead, HObj.oi 5 IntKind.u8 [Sp.a (List.getD l j 0)], HObj.oi 5 IntKind.u8 (List.map Sp.a (List.take j l) ++ [Sp.a (List.getD l j 0)])]) (by simp (disch := omega) only [wrap_i8, wrap_i16, wrap_i32, wrap_i64, wrap_u8, wrap_u16, wrap_u32, wrap_u64, Int.tdiv_eq_ediv_of_nonneg, Int.tmod_eq_emod_of_nonneg, Int.toNat_natCast, Int.reduceToNat, Nat.mul_one, Nat.zero_add, Nat.add_zero, Nat.one_mul, Int.one_mul, Int.zero_add, Int.add_zero, Int.mul_one, List.drop_zero, List.take_length, Int.zero_sub]) ?_
        refine loopK_n (⟨j + 1, by omega⟩) ?_ ?_
        ·
          exact (show List.length l - (j + 1) < List.length l - j by omega)
        ·
          exact Ent.map [2] (by kernel_rfl) (All.of (l' := [HObj.oi (5 : TypeId) IntKind.u8 (List.map Sp.a (List.take (j + (1 : Nat)) l)) = HObj.dead ∨ HObj.oi (5 : TypeId) IntKind.u8 (List.map Sp.a (List.take j l) ++ [Sp.a (List.getD l j (0 : Int))]) = HObj.oi (5 : TypeId) IntKind.u8 (List.map Sp.a (List.take (j + (1 : Nat)) l))]) (by kernel_rfl) (.cons (by exact .inr (by rw [map_take_succ h2])) (.nil))) (All.of (l' := [some (AV.c (Value.int IntKind.u8 (2 : Int))) = some (AV.c (Value.int IntKind.u8 (2 : Int))), some (AV.ri IntKind.i16 l) = some (AV.ri IntKind.i16 l), some (AV.s (2 : Nat) (0 : Nat) (j + (1 : Nat)) (j + (1 : Nat))) = some (AV.s (2 : Nat) (0 : Nat) (j + (1 : Nat)) (j + (1 : Nat))), some (AV.c (Value.int IntKind.i64 ((↑j : Int) + (1 : Int)))) = some (AV.c (Value.int IntKind.i64 (↑(j + (1 : Nat)) : Int)))]) (by kernel_rfl) (.cons (by with_reducible rfl) (.cons (by with_reducible rfl) (.cons (by with_reducible rfl) (.cons (by trivial) (.nil))))))
      ·
        simp at h2
        refine VC.exit ?_
        refine seqK_x ?_
        refine loopK_x ?_
        refine blockK_x ?_
        refine seqK_n ?_
        refine VC.seq ?_
        refine VC.region (E := E) (C := C1) E_ok mixed (by first | exact fun _ => rfl | exact fun h => by cases h) [4, 5] (st' := St.mk [(4, AV.s 0 0 j j), (5, AV.c (Value.int IntKind.u8 0))] [HObj.oi 5 IntKind.u8 (List.map Sp.a (List.take j l))]) (ps := []) (by kernel_rfl) (.nil) ?_
        refine seqK_n ?_
        refine VC.ent (Ent.freeze 0 (st' := St.mk [(4, AV.ri IntKind.u8 (List.take j (List.drop 0 (List.map Sp.a (List.take j l))))), (5, AV.c (Value.int IntKind.u8 0))] [HObj.dead]) trivial (by kernel_rfl) (All.of (l' := [j ≤ j, (0 : Nat) + j ≤ List.length (List.map Sp.a (List.take j l))]) (by kernel_rfl) (.cons (by omega) (.cons (by simp at *; omega) (.nil))))) ?_
        refine VC.ret ?_
        exact Fin.all [] (.inr rfl) (l := [AV.ri IntKind.u8 (List.take j (List.drop 0 (List.map Sp.a (List.take j l)))), AV.c (Value.int IntKind.u8 0)]) (ps := []) (by kernel_rfl) (by kernel_rfl) (.nil) (All.of (l' := []) (by kernel_rfl) (.nil)) (show AV.t [AV.ri IntKind.u8 (List.take j (List.drop 0 (List.map Sp.a (List.take j l)))), AV.c (Value.int IntKind.u8 0)] = AV.t [AV.ri IntKind.u8 (Sp.pk 2 l), AV.c (Value.int IntKind.u8 (Sp.pkE 2 (List.length l)))] by rw [take_end hj h2, Sp.pk2 h1, Sp.pkE_ok (.inr rfl) h1, List.take_of_length_le (by simp; omega)]; rfl)
  refine con_of_vc E_ok mixed Try.func22 rfl Try.call22 (Nat.le_of_ble_eq_true rfl) ?_
  refine VC.seq ?_
  refine VC.region (E := E) (C := C1) E_ok mixed (by first | exact fun _ => rfl | exact fun h => by cases h) [0, 1, 4, 5, 6, 7, 8, 9, 10, 11, 12, 13, 14, 15, 16, 17, 18, 19, 20, 21, 22, 23, 24, 25, 26, 27, 28, 29, 30, 31, 32, 33, 34, 35, 36, 37, 38, 39, 40, 41] (st' := St.mk [(0, AV.c (Value.int IntKind.u8 n)), (1, AV.ri IntKind.i16 l), (4, AV.c (Value.slice none 0 0)), (5, AV.c (Value.int IntKind.u8 0))] []) (ps := []) (by kernel_rfl) (.nil) ?_
  refine seqK_n ?_
  refine VC.seq ?_
  refine VC.seq ?_
  refine VC.region (E := E) (C := C1) E_ok mixed (by first | exact fun _ => rfl | exact fun h => by cases h) [0, 1, 4, 5, 6, 7, 13, 14, 15, 16, 17, 18, 19, 20, 21, 22, 23, 24, 25, 26, 27, 28, 29, 30, 31, 32, 33, 34, 35, 36, 37, 38, 39, 40, 41] (st' := St.mk [(0, AV.c (Value.int IntKind.u8 n)), (1, AV.ri IntKind.i16 l), (4, AV.c (Value.slice none 0 0)), (5, AV.c (Value.int IntKind.u8 0)), (13, AV.c (Value.bool (if (n != 1) = true then n != 2 else false)))] []) (ps := [(n != (1 : Int)) = true → True, (n != (1 : Int)) = true → (n != (1 : Int)) = true ∧ True, (n != (1 : Int)) = true → (n != (1 : Int)) = true ∧ True, (n != (1 : Int)) = false → True]) (by kernel_rfl) (.cons (by exact fun _ => trivial) (.cons (by exact fun h => ⟨h, trivial⟩) (.cons (by exact fun h => ⟨h, trivial⟩) (.cons (by exact fun _ => trivial) (.nil))))) ?_
  refine seqK_n ?_
  refine VC.cond (b := if (n != 1) = true then n != 2 else false) (by kernel_rfl) (fun h1 => ?_) (fun h1 => ?_)
  ·
    simp at h1
    refine VC.seq ?_
    refine VC.region (E := E) (C := C1) E_ok mixed (by first | exact fun _ => rfl | exact fun h => by cases h) [0, 1, 4, 5, 6, 7, 14, 15, 16, 17, 18, 19, 20, 21, 22, 23, 24, 25, 26, 27, 28, 29, 30, 31, 32, 33, 34, 35, 36, 37, 38, 39, 40, 41] (st' := St.mk [(0, AV.c (Value.int IntKind.u8 n)), (1, AV.ri IntKind.i16 l), (4, AV.c (Value.slice none 0 0)), (5, AV.c (Value.int IntKind.u8 2))] []) (ps := []) (by kernel_rfl) (.nil) ?_
    refine seqK_n ?_
    refine VC.ent (Ent.sub (st' := St.mk [(0, AV.c (Value.int IntKind.u8 n)), (1, AV.ri IntKind.i16 l), (4, AV.ri IntKind.u8 []), (5, AV.c (Value.int IntKind.u8 2))] []) (All.of (l' := [(0 : Nat) = (0 : Nat), AV.c (Value.int IntKind.u8 n) = AV.c (Value.int IntKind.u8 n), (1 : Nat) = (1 : Nat), AV.ri IntKind.i16 l = AV.ri IntKind.i16 l, (4 : Nat) = (4 : Nat), @Eq (List Int) ([]) ([]), (5 : Nat) = (5 : Nat), AV.c (Value.int IntKind.u8 (2 : Int)) = AV.c (Value.int IntKind.u8 (2 : Int))]) (by kernel_rfl) (.cons (by rfl) (.cons (by rfl) (.cons (by rfl) (.cons (by rfl) (.cons (by rfl) (.cons (by rfl) (.cons (by rfl) (.cons (by rfl) (.nil))))))))))) ?_
    refine VC.ret ?_
    refine seqK_r ?_
    exact Fin.all [] (.inr rfl) (l := [AV.ri IntKind.u8 [], AV.c (Value.int IntKind.u8 2)]) (ps := []) (by kernel_rfl) (by kernel_rfl) (.nil) (All.of (l' := []) (by kernel_rfl) (.nil)) (show AV.t [AV.ri IntKind.u8 [], AV.c (Value.int IntKind.u8 2)] = AV.t [AV.ri IntKind.u8 (Sp.pk n l), AV.c (Value.int IntKind.u8 (Sp.pkE n (List.length l)))] by exact Sp.pk_err (Sp.pkn (.inr ⟨hn, hn2⟩)) (Sp.pkE_arg ⟨hn, hn2⟩))
  ·
    simp at h1
    (exfalso; omega)
theorem con_Unpack1 (l : List Int) (hl : ∀ x ∈ l, 0 ≤ x ∧ x ≤ 255) : Con Try.prog L0 23 [] [.c (.int .u8 1), .ri .u8 l] [] (.t [.ri .i16 (Sp.up 1 l), .c (.int .u8 (Sp.pkE 1 l.length))]) := by
  refine con_of_vc E_ok mixed Try.func23 rfl Try.call23 (Nat.le_of_ble_eq_true rfl) ?_
  refine VC.seq ?_
  refine VC.region (E := E) (C := C1) E_ok mixed (by first | exact fun _ => rfl | exact fun h => by cases h) [0, 1, 4, 5, 6, 7, 8, 9, 10, 11, 12, 13, 14, 15, 16, 17, 18, 19, 20, 21, 22, 23, 24, 25, 26, 27, 28, 29, 30, 31, 32, 33, 34, 35, 36, 37, 38] (st' := St.mk [(0, AV.c (Value.int IntKind.u8 1)), (1, AV.ri IntKind.u8 l), (4, AV.c (Value.slice none 0 0)), (5, AV.c (Value.int IntKind.u8 0))] []) (ps := []) (by kernel_rfl) (.nil) ?_
  refine seqK_n ?_
  refine VC.seq ?_
  refine VC.region (E := E) (C := C1) E_ok mixed (by first | exact fun _ => rfl | exact fun h => by cases h) [1, 4, 5, 6, 7, 8, 9, 10, 16, 17, 18, 19, 20, 21, 22, 23, 24, 25, 26, 27, 28, 29, 30, 31, 32, 33, 34, 35, 36, 37, 38] (st' := St.mk [(1, AV.ri IntKind.u8 l), (4, AV.c (Value.slice none 0 0)), (5, AV.c (Value.int IntKind.u8 0)), (6, AV.i 42 (AV.a [])), (7, AV.c (Value.bool true))] []) (ps := [Con Try.prog L0 (31 : Nat) [] [AV.c (Value.int IntKind.u8 (1 : Int))] [] (AV.t [AV.i (42 : Nat) (AV.a []), AV.c (Value.bool true)]), true = true ∨ (True ∧ True ∧ True) ∧ ∀ (o : HObj), o ∈ [] → HObj.nr o]) (by kernel_rfl) (.cons (by exact con_find _) (.cons (by simp) (.nil))) ?_
  refine seqK_n ?_
  refine VC.seq ?_
  refine VC.seq ?_
  refine VC.region (E := E) (C := C1) E_ok mixed (by first | exact fun _ => rfl | exact fun h => by cases h) [1, 4, 5, 6, 8, 9, 10, 17, 18, 19, 20, 21, 22, 23, 24, 25, 26, 27, 28, 29, 30, 31, 32, 33, 34, 35, 36, 37, 38] (st' := St.mk [(1, AV.ri IntKind.u8 l), (4, AV.c (Value.slice none 0 0)), (5, AV.c (Value.int IntKind.u8 0)), (6, AV.i 42 (AV.a [])), (17, AV.c (Value.bool false))] []) (ps := []) (by kernel_rfl) (.nil) ?_
  refine seqK_n ?_
  refine VC.cond_f (by kernel_rfl) ?_
  refine VC.skip ?_
  refine seqK_n ?_
  refine VC.seq ?_
  refine VC.seq ?_
  refine VC.region (E := E) (C := C1) E_ok mixed (by first | exact fun _ => rfl | exact fun h => by cases h) [1, 4, 5, 6, 8, 9, 10, 20, 21, 22, 23, 24, 25, 26, 27, 28, 29, 30, 31, 32, 33, 34, 35, 36, 37, 38] (st' := St.mk [(1, AV.ri IntKind.u8 l), (4, AV.c (Value.slice none 0 0)), (5, AV.c (Value.int IntKind.u8 0)), (6, AV.i 42 (AV.a [])), (20, AV.c (Value.bool (decide (8000 < (↑(List.length l) : Int)))))] []) (ps := []) (by kernel_rfl) (.nil) ?_
  refine seqK_n ?_
  refine VC.cond (b := decide (8000 < (↑(List.length l) : Int))) (by kernel_rfl) (fun h1 => ?_) (fun h1 => ?_)
  ·
    simp at h1
    refine VC.seq ?_
    refine VC.region (E := E) (C := C1) E_ok mixed (by first | exact fun _ => rfl | exact fun h => by cases h) [1, 4, 5, 6, 8, 9, 10, 21, 22, 23, 24, 25, 26, 27, 28, 29, 30, 31, 32, 33, 34, 35, 36, 37, 38] (st' := St.mk [(1, AV.ri IntKind.u8 l), (4, AV.c (Value.slice none 0 0)), (5, AV.c (Value.int IntKind.u8 4)), (6, AV.i 42 (AV.a []))] []) (ps := []) (by kernel_rfl) (.nil) ?_
    refine seqK_n ?_
    refine VC.ent (Ent.sub (st' := St.mk [(1, AV.ri IntKind.u8 l), (4, AV.ri IntKind.i16 []), (5, AV.c (Value.int IntKind.u8 4)), (6, AV.i 42 (AV.a []))] []) (All.of (l' := [(1 : Nat) = (1 : Nat), AV.ri IntKind.u8 l = AV.ri IntKind.u8 l, (4 : Nat) = (4 : Nat), @Eq (List Int) ([]) ([]), (5 : Nat) = (5 : Nat), AV.c (Value.int IntKind.u8 (4 : Int)) = AV.c (Value.int IntKind.u8 (4 : Int)), (6 : Nat) = (6 : Nat), AV.i (42 : Nat) (AV.a []) = AV.i (42 : Nat) (AV.a [])]) (by kernel_rfl) (.cons (by rfl) (.cons (by rfl) (.cons (by rfl) (.cons (by rfl) (.cons (by rfl) (.cons (by rfl) (.cons (by rfl) (.cons (by rfl) (.nil))))))))))) ?_
    refine VC.ret ?_
    refine seqK_r ?_
    exact Fin.all [] (.inr rfl) (l := [AV.ri IntKind.i16 [], AV.c (Value.int IntKind.u8 4)]) (ps := []) (by kernel_rfl) (by kernel_rfl) (.nil) (All.of (l' := []) (by kernel_rfl) (.nil)) (show AV.t [AV.ri IntKind.i16 [], AV.c (Value.int IntKind.u8 4)] = AV.t [AV.ri IntKind.i16 (Sp.up 1 l), AV.c (Value.int IntKind.u8 (Sp.pkE 1 (List.length l)))] by exact Sp.up_err (Sp.upn (.inl h1)) (Sp.pkE_big (.inl rfl) h1))
  ·
    simp at h1
    refine VC.skip ?_
    refine seqK_n ?_
    refine VC.seq ?_
    refine VC.region (E := E) (C := C1) E_ok mixed (by first | exact fun _ => rfl | exact fun h => by cases h) [1, 4, 5, 6, 8, 9, 10, 24, 25, 26, 27, 28, 29, 30, 31, 32, 33, 34, 35, 36, 37, 38] (st' := St.mk [(1, AV.ri IntKind.u8 l), (4, AV.c (Value.slice none 0 0)), (5, AV.c (Value.int IntKind.u8 0)), (6, AV.i 42 (AV.a [])), (8, AV.s 0 0 (Int.toNat (↑(List.length l) : Int)) (Int.toNat (↑(List.length l) : Int)))] [HObj.oi 22 IntKind.i16 (List.replicate (Int.toNat (↑(List.length l) : Int)) 0)]) (ps := [(0 : Int) ≤ (↑(List.length l) : Int), (↑(List.length l) : Int) ≤ (↑(List.length l) : Int), (2 : Int) * (↑(List.length l) : Int) ≤ (281474976710656 : Int), (↑(List.length l) : Int) ≤ (9223372036854775807 : Int), (1 : Nat) = (1 : Nat), @Eq (List Value) ([Value.int IntKind.i16 (0 : Int)]) ([Value.int IntKind.i16 (0 : Int)])]) (by kernel_rfl) (.cons (by omega) (.cons (by omega) (.cons (by omega) (.cons (by omega) (.cons (by trivial) (.cons (by trivial) (.nil))))))) ?_
    refine seqK_n ?_
    refine VC.seq ?_
    refine VC.seq ?_
    refine VC.region (E := E) (C := C1) E_ok mixed (by first | exact fun _ => rfl | exact fun h => by cases h) [4, 5, 6, 8, 9, 10, 24, 25, 26, 27, 28, 29, 30, 31, 32, 33, 34, 35, 36, 37, 38] (st' := St.mk [(4, AV.c (Value.slice none 0 0)), (5, AV.c (Value.int IntKind.u8 0)), (6, AV.i 42 (AV.a [])), (8, AV.s 0 0 (Int.toNat (↑(List.length l) : Int)) (Int.toNat (↑(List.length l) : Int))), (24, AV.ri IntKind.u8 l), (25, AV.c (Value.int IntKind.i64 (↑(List.length l) : Int))), (26, AV.c (Value.int IntKind.i64 0))] [HObj.oi 22 IntKind.i16 (List.replicate (Int.toNat (↑(List.length l) : Int)) 0)]) (ps := []) (by kernel_rfl) (.nil) ?_
    refine seqK_n ?_
    refine VC.block ?_
    refine VC.loop (Y := {j : Nat // j ≤ l.length}) (fun j => ⟨[(6, .i 42 (.a [])), (8, .s 0 0 l.length l.length), (24, .ri .u8 l), (25, .c (.int .i64 (l.length : Nat))), (26, .c (.int .i64 (j.1 : Nat)))], [.oi 22 .i16 (Sp.rowm Sp.fmu l j.1)]⟩) (fun j => l.length - j.1) ⟨0, by omega⟩ ?_ ?_
    ·
      exact Ent.map [0] (by kernel_rfl) (All.of (l' := [HObj.oi (22 : TypeId) IntKind.i16 (Sp.rowm Sp.fmu l (0 : Nat)) = HObj.dead ∨ HObj.oi (22 : TypeId) IntKind.i16 (List.replicate (Int.toNat (↑(List.length l) : Int)) (0 : Int)) = HObj.oi (22 : TypeId) IntKind.i16 (Sp.rowm Sp.fmu l (0 : Nat))]) (by kernel_rfl) (.cons (by exact .inr rfl) (.nil))) (All.of (l' := [some (AV.i (42 : Nat) (AV.a [])) = some (AV.i (42 : Nat) (AV.a [])), some (AV.s (0 : Nat) (0 : Nat) (Int.toNat (↑(List.length l) : Int)) (Int.toNat (↑(List.length l) : Int))) = some (AV.s (0 : Nat) (0 : Nat) (List.length l) (List.length l)), some (AV.ri IntKind.u8 l) = some (AV.ri IntKind.u8 l), some (AV.c (Value.int IntKind.i64 (↑(List.length l) : Int))) = some (AV.c (Value.int IntKind.i64 (↑(List.length l) : Int))), some (AV.c (Value.int IntKind.i64 (0 : Int))) = some (AV.c (Value.int IntKind.i64 (0 : Int)))]) (by kernel_rfl) (.cons (by with_reducible rfl) (.cons (by trivial) (.cons (by with_reducible rfl) (.cons (by with_reducible rfl) (.cons (by with_reducible rfl) (.nil)))))))
    intro ⟨j, hj⟩
    refine VC.seq ?_
    refine VC.region (E := E) (C := C1) E_ok mixed (by first | exact fun _ => rfl | exact fun h => by cases h) [4, 5, 6, 8, 9, 10, 24, 25, 26, 27, 28, 29, 30, 31, 32, 33, 34, 35, 36, 37, 38] (st' := St.mk [(6, AV.i 42 (AV.a [])), (8, AV.s 0 0 (List.length l) (List.length l)), (24, AV.ri IntKind.u8 l), (25, AV.c (Value.int IntKind.i64 (↑(List.length l) : Int))), (26, AV.c (Value.int IntKind.i64 (↑j : Int))), (27, AV.c (Value.bool (decide ((↑j : Int) < (↑(List.length l) : Int)))))] [HObj.oi 22 IntKind.i16 (Sp.rowm Sp.fmu l j)]) (ps := []) (by kernel_rfl) (.nil) ?_
    refine seqK_n ?_
    refine VC.seq ?_
    refine VC.cond (b := decide ((↑j : Int) < (↑(List.length l) : Int))) (by kernel_rfl) (fun h2 => ?_) (fun h2 => ?_)
    ·
      simp at h2
      refine VC.skip ?_
      refine seqK_n ?_
      refine VC.seq ?_
      refine VC.block ?_
      refine VC.seq ?_
      refine VC.region (E := E) (C := C1) E_ok mixed (by first | exact fun _ => rfl | exact fun h => by cases h) [4, 5, 6, 8, 9, 10, 24, 25, 26, 31, 32, 33, 34, 35, 36, 37, 38] (st' := St.mk [(6, AV.i 42 (AV.a [])), (8, AV.s 0 0 (List.length l) (List.length l)), (9, AV.c (Value.int IntKind.i64 (↑j : Int))), (10, AV.c (Value.int IntKind.u8 (List.getD l (Int.toNat (↑j : Int) * 1) 0))), (24, AV.ri IntKind.u8 l), (25, AV.c (Value.int IntKind.i64 (↑(List.length l) : Int))), (26, AV.c (Value.int IntKind.i64 (↑j : Int)))] [HObj.oi 22 IntKind.i16 (Sp.rowm Sp.fmu l j)]) (ps := [(0 : Int) ≤ (↑j : Int), (↑j : Int) < (↑(List.length l) : Int), Int.toNat (↑j : Int) * (1 : Nat) < List.length l]) (by kernel_rfl) (.cons (by omega) (.cons (by omega) (.cons (by omega) (.nil)))) ?_
      refine seqK_n ?_
      refine VC.region (E := E) (C := C1) E_ok mixed (by first | exact fun _ => rfl | exact fun h => by cases h) [4, 5, 6, 8, 24, 25, 26, 37, 38] (st' := St.mk [(6, AV.i 42 (AV.a [])), (8, AV.s 0 0 (List.length l) (List.length l)), (24, AV.ri IntKind.u8 l), (25, AV.c (Value.int IntKind.i64 (↑(List.length l) : Int))), (26, AV.c (Value.int IntKind.i64 (↑j : Int)))] [HObj.oi 22 IntKind.i16 (List.set (Sp.rowm Sp.fmu l j) (0 + Int.toNat (↑j : Int) * 1) (Sp.fmu (List.getD l (Int.toNat (↑j : Int) * 1) 0)))]) (ps := [MethOK Try.prog (42 : Nat) "dialtone/compand.sample" (26 : Nat), Con Try.prog L0 (26 : Nat) [] [AV.a [], AV.c (Value.int IntKind.u8 (List.getD l (Int.toNat (↑j : Int) * (1 : Nat)) (0 : Int)))] [] (AV.c (Value.int IntKind.i16 (Sp.fmu (List.getD l (Int.toNat (↑j : Int) * (1 : Nat)) (0 : Int))))), true = true ∨ True ∧ ∀ (o : HObj), o ∈ [] → HObj.nr o, (0 : Int) ≤ (↑j : Int), (↑j : Int) < (↑(List.length l) : Int), (0 : Nat) < List.length (Sp.rowm Sp.fmu l j), (0 : Nat) + Int.toNat (↑j : Int) * (1 : Nat) < List.length (Sp.rowm Sp.fmu l j)]) (by kernel_rfl) (.cons (by exact fun v w => by kernel_rfl) (.cons (by exact con_first_sample _ (getD_in hl (by omega) _)) (.cons (by simp) (.cons (by omega) (.cons (by omega) (.cons (by rw [Sp.rowm_len _ _ _ (by omega)]; omega) (.cons (by rw [Sp.rowm_len _ _ _ (by omega)]; omega) (.nil)))))))) ?_
      refine blockK_n ?_
      refine seqK_n ?_
      refine VC.regionE (E := E) (C := C1) E_ok mixed (by first | exact fun _ => rfl | exact fun h => by cases h) [4, 5, 6, 8, 24, 25, 26, 38] (st' := St.mk [(6, AV.i 42 (AV.a [])), (8, AV.s 0 0 (List.length l) (List.length l)), (24, AV.ri IntKind.u8 l), (25, AV.c (Value.int IntKind.i64 (↑(List.length l) : Int))), (26, AV.c (Value.int IntKind.i64 (IntKind.wrap IntKind.i64 ((↑j : Int) + 1))))] [HObj.oi 22 IntKind.i16 (List.set (Sp.rowm Sp.fmu l j) (0 + Int.toNat (↑j : Int) * 1) (Sp.fmu (List.getD l (Int.toNat (↑j : Int) * 1) 0)))]) (ps := []) (by kernel_rfl) (.nil) (st'' := St.mk [(6, AV.i 42 (AV.a [])), (8, AV.s 0 0 (List.length l) (List.length l)), (24, AV.ri IntKind.u8 l), (25, AV.c (Value.int IntKind.i64 (↑(List.length l) : Int))), (26, AV.c (Value.int IntKind.i64 ((↑j : Int) + 1)))] [HObj.oi 22 IntKind.i16 (List.set (Sp.rowm Sp.fmu l j) j (Sp.fmu (List.getD l j 0)))]) (by simp (disch := omega) only [wrap_i8, wrap_i16, wrap_i32, wrap_i64, wrap_u8, wrap_u16, wrap_u32, wrap_u64, Int.tdiv_eq_ediv_of_nonneg, Int.tmod_eq_emod_of_nonneg, Int.toNat_natCast, Int.reduceToNat, Nat.mul_one, Nat.zero_add, Nat.add_zero, Nat.one_mul, Int.one_mul, Int.zero_add, Int.add_zero, Int.mul_one, List.drop_zero, List.take_length, Int.zero_sub]) ?_
      refine loopK_n (⟨j + 1, by omega⟩) ?_ ?_
      ·
        exact (show List.length l - (j + 1) < List.length l - j by omega)
      ·
        exact Ent.map [0] (by kernel_rfl) (All.of (l' := [HObj.oi (22 : TypeId) IntKind.i16 (Sp.rowm Sp.fmu l (j + (1 : Nat))) = HObj.dead ∨ HObj.oi (22 : TypeId) IntKind.i16 (List.set (Sp.rowm Sp.fmu l j) j (Sp.fmu (List.getD l j (0 : Int)))) = HObj.oi (22 : TypeId) IntKind.i16 (Sp.rowm Sp.fmu l (j + (1 : Nat)))]) (by kernel_rfl) (.cons (by exact .inr (by rw [Sp.rowm_set Sp.fmu h2])) (.nil))) (All.of (l' := [some (AV.i (42 : Nat) (AV.a [])) = some (AV.i (42 : Nat) (AV.a [])), some (AV.s (0 : Nat) (0 : Nat) (List.length l) (List.length l)) = some (AV.s (0 : Nat) (0 : Nat) (List.length l) (List.length l)), some (AV.ri IntKind.u8 l) = some (AV.ri IntKind.u8 l), some (AV.c (Value.int IntKind.i64 (↑(List.length l) : Int))) = some (AV.c (Value.int IntKind.i64 (↑(List.length l) : Int))), some (AV.c (Value.int IntKind.i64 ((↑j : Int) + (1 : Int)))) = some (AV.c (Value.int IntKind.i64 (↑(j + (1 : Nat)) : Int)))]) (by kernel_rfl) (.cons (by with_reducible rfl) (.cons (by with_reducible rfl) (.cons (by with_reducible rfl) (.cons (by with_reducible rfl) (.cons (by trivial) (.nil)))))))
    ·
      simp at h2
      refine VC.exit ?_
      refine seqK_x ?_
      refine loopK_x ?_
      refine blockK_x ?_
      refine seqK_n ?_
      refine VC.seq ?_
      refine VC.region (E := E) (C := C1) E_ok mixed (by first | exact fun _ => rfl | exact fun h => by cases h) [4, 5] (st' := St.mk [(4, AV.s 0 0 (List.length l) (List.length l)), (5, AV.c (Value.int IntKind.u8 0))] [HObj.oi 22 IntKind.i16 (Sp.rowm Sp.fmu l j)]) (ps := []) (by kernel_rfl) (.nil) ?_
      refine seqK_n ?_
      refine VC.ent (Ent.freeze 0 (st' := St.mk [(4, AV.ri IntKind.i16 (List.take (List.length l) (List.drop 0 (Sp.rowm Sp.fmu l j)))), (5, AV.c (Value.int IntKind.u8 0))] [HObj.dead]) trivial (by kernel_rfl) (All.of (l' := [List.length l ≤ List.length l, (0 : Nat) + List.length l ≤ List.length (Sp.rowm Sp.fmu l j)]) (by kernel_rfl) (.cons (by omega) (.cons (by rw [Sp.rowm_len _ _ _ (by omega)]; omega) (.nil))))) ?_
      refine VC.ret ?_
      exact Fin.all [] (.inr rfl) (l := [AV.ri IntKind.i16 (List.take (List.length l) (List.drop 0 (Sp.rowm Sp.fmu l j))), AV.c (Value.int IntKind.u8 0)]) (ps := []) (by kernel_rfl) (by kernel_rfl) (.nil) (All.of (l' := []) (by kernel_rfl) (.nil)) (show AV.t [AV.ri IntKind.i16 (List.take (List.length l) (List.drop 0 (Sp.rowm Sp.fmu l j))), AV.c (Value.int IntKind.u8 0)] = AV.t [AV.ri IntKind.i16 (Sp.up 1 l), AV.c (Value.int IntKind.u8 (Sp.pkE 1 (List.length l)))] by rw [Sp.rowm_end hj h2, Sp.up1 h1, Sp.pkE_ok (.inl rfl) h1, List.take_of_length_le (by simp)]; rfl)
theorem con_Unpack2 (l : List Int) (hl : ∀ x ∈ l, 0 ≤ x ∧ x ≤ 255) : Con Try.prog L0 23 [] [.c (.int .u8 2), .ri .u8 l] [] (.t [.ri .i16 (Sp.up 2 l), .c (.int .u8 (Sp.pkE 2 l.length))]) := by
  refine con_of_vc E_ok mixed Try.func23 rfl Try.call23 (Nat.le_of_ble_eq_true rfl) ?_
  refine VC.seq ?_
  refine VC.region (E := E) (C := C1) E_ok mixed (by first | exact fun _ => rfl | exact fun h => by cases h) [0, 1, 4, 5, 6, 7, 8, 9, 10, 11, 12, 13, 14, 15, 16, 17, 18, 19, 20, 21, 22, 23, 24, 25, 26, 27, 28, 29, 30, 31, 32, 33, 34, 35, 36, 37, 38] (st' := St.mk [(0, AV.c (Value.int IntKind.u8 2)), (1, AV.ri IntKind.u8 l), (4, AV.c (Value.slice none 0 0)), (5, AV.c (Value.int IntKind.u8 0))] []) (ps := []) (by kernel_rfl) (.nil) ?_
  refine seqK_n ?_
  refine VC.seq ?_
  refine VC.region (E := E) (C := C1) E_ok mixed (by first | exact fun _ => rfl | exact fun h => by cases h) [1, 4, 5, 6, 7, 8, 9, 10, 16, 17, 18, 19, 20, 21, 22, 23, 24, 25, 26, 27, 28, 29, 30, 31, 32, 33, 34, 35, 36, 37, 38] (st' := St.mk [(1, AV.ri IntKind.u8 l), (4, AV.c (Value.slice none 0 0)), (5, AV.c (Value.int IntKind.u8 0)), (6, AV.i 43 (AV.a [])), (7, AV.c (Value.bool true))] []) (ps := [Con Try.prog L0 (31 : Nat) [] [AV.c (Value.int IntKind.u8 (2 : Int))] [] (AV.t [AV.i (43 : Nat) (AV.a []), AV.c (Value.bool true)]), true = true ∨ (True ∧ True ∧ True) ∧ ∀ (o : HObj), o ∈ [] → HObj.nr o]) (by kernel_rfl) (.cons (by exact con_find _) (.cons (by simp) (.nil))) ?_
  refine seqK_n ?_
  refine VC.seq ?_
  refine VC.seq ?_
  refine VC.region (E := E) (C := C1) E_ok mixed (by first | exact fun _ => rfl | exact fun h => by cases h) [1, 4, 5, 6, 8, 9, 10, 17, 18, 19, 20, 21, 22, 23, 24, 25, 26, 27, 28, 29, 30, 31, 32, 33, 34, 35, 36, 37, 38] (st' := St.mk [(1, AV.ri IntKind.u8 l), (4, AV.c (Value.slice none 0 0)), (5, AV.c (Value.int IntKind.u8 0)), (6, AV.i 43 (AV.a [])), (17, AV.c (Value.bool false))] []) (ps := []) (by kernel_rfl) (.nil) ?_
  refine seqK_n ?_
  refine VC.cond_f (by kernel_rfl) ?_
  refine VC.skip ?_
  refine seqK_n ?_
  refine VC.seq ?_
  refine VC.seq ?_
  refine VC.region (E := E) (C := C1) E_ok mixed (by first | exact fun _ => rfl | exact fun h => by cases h) [1, 4, 5, 6, 8, 9, 10, 20, 21, 22, 23, 24, 25, 26, 27, 28, 29, 30, 31, 32, 33, 34, 35, 36, 37, 38] (st' := St.mk [(1, AV.ri IntKind.u8 l), (4, AV.c (Value.slice none 0 0)), (5, AV.c (Value.int IntKind.u8 0)), (6, AV.i 43 (AV.a [])), (20, AV.c (Value.bool (decide (8000 < (↑(List.length l) : Int)))))] []) (ps := []) (by kernel_rfl) (.nil) ?_
  refine seqK_n ?_
  refine VC.cond (b := decide (8000 < (↑(List.length l) : Int))) (by kernel_rfl) (fun h1 => ?_) (fun h1 => ?_)
  ·
    simp at h1
    refine VC.seq ?_
    refine VC.region (E := E) (C := C1) E_ok mixed (by first | exact fun _ => rfl | exact fun h => by cases h) [1, 4, 5, 6, 8, 9, 10, 21, 22, 23, 24, 25, 26, 27, 28, 29, 30, 31, 32, 33, 34, 35, 36, 37, 38] (st' := St.mk [(1, AV.ri IntKind.u8 l), (4, AV.c (Value.slice none 0 0)), (5, AV.c (Value.int IntKind.u8 4)), (6, AV.i 43 (AV.a []))] []) (ps := []) (by kernel_rfl) (.nil) ?_
    refine seqK_n ?_
    refine VC.ent (Ent.sub (st' := St.mk [(1, AV.ri IntKind.u8 l), (4, AV.ri IntKind.i16 []), (5, AV.c (Value.int IntKind.u8 4)), (6, AV.i 43 (AV.a []))] []) (All.of (l' := [(1 : Nat) = (1 : Nat), AV.ri IntKind.u8 l = AV.ri IntKind.u8 l, (4 : Nat) = (4 : Nat), @Eq (List Int) ([]) ([]), (5 : Nat) = (5 : Nat), AV.c (Value.int IntKind.u8 (4 : Int)) = AV.c (Value.int IntKind.u8 (4 : Int)), (6 : Nat) = (6 : Nat), AV.i (43 : Nat) (AV.a []) = AV.i (43 : Nat) (AV.a [])]) (by kernel_rfl) (.cons (by rfl) (.cons (by rfl) (.cons (by rfl) (.cons (by rfl) (.cons (by rfl) (.cons (by rfl) (.cons (by rfl) (.cons (by rfl) (.nil))))))))))) ?_
    refine VC.ret ?_
    refine seqK_r ?_
    exact Fin.all [] (.inr rfl) (l := [AV.ri IntKind.i16 [], AV.c (Value.int IntKind.u8 4)]) (ps := []) (by kernel_rfl) (by kernel_rfl) (.nil) (All.of (l' := []) (by kernel_rfl) (.nil)) (show AV.t [AV.ri IntKind.i16 [], AV.c (Value.int IntKind.u8 4)] = AV.t [AV.ri IntKind.i16 (Sp.up 2 l), AV.c (Value.int IntKind.u8 (Sp.pkE 2 (List.length l)))] by exact Sp.up_err (Sp.upn (.inl h1)) (Sp.pkE_big (.inr rfl) h1))
  ·
    simp at h1
    refine VC.skip ?_
    refine seqK_n ?_
    refine VC.seq ?_
    refine VC.region (E := E) (C := C1) E_ok mixed (by first | exact fun _ => rfl | exact fun h => by cases h) [1, 4, 5, 6, 8, 9, 10, 24, 25, 26, 27, 28, 29, 30, 31, 32, 33, 34, 35, 36, 37, 38] (st' := St.mk [(1, AV.ri IntKind.u8 l), (4, AV.c (Value.slice none 0 0)), (5, AV.c (Value.int IntKind.u8 0)), (6, AV.i 43 (AV.a [])), (8, AV.s 0 0 (Int.toNat (↑(List.length l) : Int)) (Int.toNat (↑(List.length l) : Int)))] [HObj.oi 22 IntKind.i16 (List.replicate (Int.toNat (↑(List.length l) : Int)) 0)]) (ps := [(0 : Int) ≤ (↑(List.length l) : Int), (↑(List.length l) : Int) ≤ (↑(List.length l) : Int), (2 : Int) * (↑(List.length l) : Int) ≤ (281474976710656 : Int), (↑(List.length l) : Int) ≤ (9223372036854775807 : Int), (1 : Nat) = (1 : Nat), @Eq (List Value) ([Value.int IntKind.i16 (0 : Int)]) ([Value.int IntKind.i16 (0 : Int)])]) (by kernel_rfl) (.cons (by omega) (.cons (by omega) (.cons (by omega) (.cons (by omega) (.cons (by trivial) (.cons (by trivial) (.nil))))))) ?_
    refine seqK_n ?_
    refine VC.seq ?_
    refine VC.seq ?_
    refine VC.region (E := E) (C := C1) E_ok mixed (by first | exact fun _ => rfl | exact fun h => by cases h) [4, 5, 6, 8, 9, 10, 24, 25, 26, 27, 28, 29, 30, 31, 32, 33, 34, 35, 36, 37, 38] (st' := St.mk [(4, AV.c (Value.slice none 0 0)), (5, AV.c (Value.int IntKind.u8 0)), (6, AV.i 43 (AV.a [])), (8, AV.s 0 0 (Int.toNat (↑(List.length l) : Int)) (Int.toNat (↑(List.length l) : Int))), (24, AV.ri IntKind.u8 l), (25, AV.c (Value.int IntKind.i64 (↑(List.length l) : Int))), (26, AV.c (Value.int IntKind.i64 0))] [HObj.oi 22 IntKind.i16 (List.replicate (Int.toNat (↑(List.length l) : Int)) 0)]) (ps := []) (by kernel_rfl) (.nil) ?_
    refine seqK_n ?_
    refine VC.block ?_
    refine VC.loop (Y := {j : Nat // j ≤ l.length}) (fun j => ⟨[(6, .i 43 (.a [])), (8, .s 0 0 l.length l.length), (24, .ri .u8 l), (25, .c (.int .i64 (l.length : Nat))), (26, .c (.int .i64 (j.1 : Nat)))], [.oi 22 .i16 (Sp.rowm Sp.fa l j.1)]⟩) (fun j => l.length - j.1) ⟨0, by omega⟩ ?_ ?_
    ·
      exact Ent.map [0] (by kernel_rfl) (All.of (l' := [HObj.oi (22 : TypeId) IntKind.i16 (Sp.rowm Sp.fa l (0 : Nat)) = HObj.dead ∨ HObj.oi (22 : TypeId) IntKind.i16 (List.replicate (Int.toNat (↑(List.length l) : Int)) (0 : Int)) = HObj.oi (22 : TypeId) IntKind.i16 (Sp.rowm Sp.fa l (0 : Nat))]) (by kernel_rfl) (.cons (by exact .inr rfl) (.nil))) (All.of (l' := [some (AV.i (43 : Nat) (AV.a [])) = some (AV.i (43 : Nat) (AV.a [])), some (AV.s (0 : Nat) (0 : Nat) (Int.toNat (↑(List.length l) : Int)) (Int.toNat (↑(List.length l) : Int))) = some (AV.s (0 : Nat) (0 : Nat) (List.length l) (List.length l)), some (AV.ri IntKind.u8 l) = some (AV.ri IntKind.u8 l), some (AV.c (Value.int IntKind.i64 (↑(List.length l) : Int))) = some (AV.c (Value.int IntKind.i64 (↑(List.length l) : Int))), some (AV.c (Value.int IntKind.i64 (0 : Int))) = some (AV.c (Value.int IntKind.i64 (0 : Int)))]) (by kernel_rfl) (.cons (by with_reducible rfl) (.cons (by trivial) (.cons (by with_reducible rfl) (.cons (by with_reducible rfl) (.cons (by with_reducible rfl) (.nil)))))))
    intro ⟨j, hj⟩
    refine VC.seq ?_
    refine VC.region (E := E) (C := C1) E_ok mixed (by first | exact fun _ => rfl | exact fun h => by cases h) [4, 5, 6, 8, 9, 10, 24, 25, 26, 27, 28, 29, 30, 31, 32, 33, 34, 35, 36, 37, 38] (st' := St.mk [(6, AV.i 43 (AV.a [])), (8, AV.s 0 0 (List.length l) (List.length l)), (24, AV.ri IntKind.u8 l), (25, AV.c (Value.int IntKind.i64 (↑(List.length l) : Int))), (26, AV.c (Value.int IntKind.i64 (↑j : Int))), (27, AV.c (Value.bool (decide ((↑j : Int) < (↑(List.length l) : Int)))))] [HObj.oi 22 IntKind.i16 (Sp.rowm Sp.fa l j)]) (ps := []) (by kernel_rfl) (.nil) ?_
    refine seqK_n ?_
    refine VC.seq ?_
    refine VC.cond (b := decide ((↑j : Int) < (↑(List.length l) : Int))) (by kernel_rfl) (fun h2 => ?_) (fun h2 => ?_)
    ·
      simp at h2
      refine VC.skip ?_
      refine seqK_n ?_
      refine VC.seq ?_
      refine VC.block ?_
      refine VC.seq ?_
      refine VC.region (E := E) (C := C1) E_ok mixed (by first | exact fun _ => rfl | exact fun h => by cases h) [4, 5, 6, 8, 9, 10, 24, 25, 26, 31, 32, 33, 34, 35, 36, 37, 38] (st' := St.mk [(6, AV.i 43 (AV.a [])), (8, AV.s 0 0 (List.length l) (List.length l)), (9, AV.c (Value.int IntKind.i64 (↑j : Int))), (10, AV.c (Value.int IntKind.u8 (List.getD l (Int.toNat (↑j : Int) * 1) 0))), (24, AV.ri IntKind.u8 l), (25, AV.c (Value.int IntKind.i64 (↑(List.length l) : Int))), (26, AV.c (Value.int IntKind.i64 (↑j : Int)))] [HObj.oi 22 IntKind.i16 (Sp.rowm Sp.fa l j)]) (ps := [(0 : Int) ≤ (↑j : Int), (↑j : Int) < (↑(List.length l) : Int), Int.toNat (↑j : Int) * (1 : Nat) < List.length l]) (by kernel_rfl) (.cons (by omega) (.cons (by omega) (.cons (by omega) (.nil)))) ?_
      refine seqK_n ?_
      refine VC.region (E := E) (C := C1) E_ok mixed (by first | exact fun _ => rfl | exact fun h => by cases h) [4, 5, 6, 8, 24, 25, 26, 37, 38] (st' := St.mk [(6, AV.i 43 (AV.a [])), (8, AV.s 0 0 (List.length l) (List.length l)), (24, AV.ri IntKind.u8 l), (25, AV.c (Value.int IntKind.i64 (↑(List.length l) : Int))), (26, AV.c (Value.int IntKind.i64 (↑j : Int)))] [HObj.oi 22 IntKind.i16 (List.set (Sp.rowm Sp.fa l j) (0 + Int.toNat (↑j : Int) * 1) (Sp.fa (List.getD l (Int.toNat (↑j : Int) * 1) 0)))]) (ps := [MethOK Try.prog (43 : Nat) "dialtone/compand.sample" (28 : Nat), Con Try.prog L0 (28 : Nat) [] [AV.a [], AV.c (Value.int IntKind.u8 (List.getD l (Int.toNat (↑j : Int) * (1 : Nat)) (0 : Int)))] [] (AV.c (Value.int IntKind.i16 (Sp.fa (List.getD l (Int.toNat (↑j : Int) * (1 : Nat)) (0 : Int))))), true = true ∨ True ∧ ∀ (o : HObj), o ∈ [] → HObj.nr o, (0 : Int) ≤ (↑j : Int), (↑j : Int) < (↑(List.length l) : Int), (0 : Nat) < List.length (Sp.rowm Sp.fa l j), (0 : Nat) + Int.toNat (↑j : Int) * (1 : Nat) < List.length (Sp.rowm Sp.fa l j)]) (by kernel_rfl) (.cons (by exact fun v w => by kernel_rfl) (.cons (by exact con_second_sample _ (getD_in hl (by omega) _)) (.cons (by simp) (.cons (by omega) (.cons (by omega) (.cons (by rw [Sp.rowm_len _ _ _ (by omega)]; omega) (.cons (by rw [Sp.rowm_len _ _ _ (by omega)]; omega) (.nil)))))))) ?_
      refine blockK_n ?_
      refine seqK_n ?_
      refine VC.regionE (E := E) (C := C1) E_ok mixed (by first | exact fun _ => rfl | exact fun h => by cases h) [4, 5, 6, 8, 24, 25, 26, 38] (st' := St.mk [(6, AV.i 43 (AV.a [])), (8, AV.s 0 0 (List.length l) (List.length l)), (24, AV.ri IntKind.u8 l), (25, AV.c (Value.int IntKind.i64 (↑(List.length l) : Int))), (26, AV.c (Value.int IntKind.i64 (IntKind.wrap IntKind.i64 ((↑j : Int) + 1))))] [HObj.oi 22 IntKind.i16 (List.set (Sp.rowm Sp.fa l j) (0 + Int.toNat (↑j : Int) * 1) (Sp.fa (List.getD l (Int.toNat (↑j : Int) * 1) 0)))]) (ps := []) (by kernel_rfl) (.nil) (st'' := St.mk [(6, AV.i 43 (AV.a [])), (8, AV.s 0 0 (List.length l) (List.length l)), (24, AV.ri IntKind.u8 l), (25, AV.c (Value.int IntKind.i64 (↑(List.length l) : Int))), (26, AV.c (Value.int IntKind.i64 ((↑j : Int) + 1)))] [HObj.oi 22 IntKind.i16 (List.set (Sp.rowm Sp.fa l j) j (Sp.fa (List.getD l j 0)))]) (by simp (disch := omega) only [wrap_i8, wrap_i16, wrap_i32, wrap_i64, wrap_u8, wrap_u16, wrap_u32, wrap_u64, Int.tdiv_eq_ediv_of_nonneg, Int.tmod_eq_emod_of_nonneg, Int.toNat_natCast, Int.reduceToNat, Nat.mul_one, Nat.zero_add, Nat.add_zero, Nat.one_mul, Int.one_mul, Int.zero_add, Int.add_zero, Int.mul_one, List.drop_zero, List.take_length, Int.zero_sub]) ?_
      refine loopK_n (⟨j + 1, by omega⟩) ?_ ?_
      ·
        exact (show List.length l - (j + 1) < List.length l - j by omega)
      ·
        exact Ent.map [0] (by kernel_rfl) (All.of (l' := [HObj.oi (22 : TypeId) IntKind.i16 (Sp.rowm Sp.fa l (j + (1 : Nat))) = HObj.dead ∨ HObj.oi (22 : TypeId) IntKind.i16 (List.set (Sp.rowm Sp.fa l j) j (Sp.fa (List.getD l j (0 : Int)))) = HObj.oi (22 : TypeId) IntKind.i16 (Sp.rowm Sp.fa l (j + (1 : Nat)))]) (by kernel_rfl) (.cons (by exact .inr (by rw [Sp.rowm_set Sp.fa h2])) (.nil))) (All.of (l' := [some (AV.i (43 : Nat) (AV.a [])) = some (AV.i (43 : Nat) (AV.a [])), some (AV.s (0 : Nat) (0 : Nat) (List.length l) (List.length l)) = some (AV.s (0 : Nat) (0 : Nat) (List.length l) (List.length l)), some (AV.ri IntKind.u8 l) = some (AV.ri IntKind.u8 l), some (AV.c (Value.int IntKind.i64 (↑(List.length l) : Int))) = some (AV.c (Value.int IntKind.i64 (↑(List.length l) : Int))), some (AV.c (Value.int IntKind.i64 ((↑j : Int) + (1 : Int)))) = some (AV.c (Value.int IntKind.i64 (↑(j + (1 : Nat)) : Int)))]) (by kernel_rfl) (.cons (by with_reducible rfl) (.cons (by with_reducible rfl) (.cons (by with_reducible rfl) (.cons (by with_reducible rfl) (.cons (by trivial) (.nil)))))))
    ·
      simp at h2
      refine VC.exit ?_
      refine seqK_x ?_
      refine loopK_x ?_
      refine blockK_x ?_
      refine seqK_n ?_
      refine VC.seq ?_
      refine VC.region (E := E) (C := C1) E_ok mixed (by first | exact fun _ => rfl | exact fun h => by cases h) [4, 5] (st' := St.mk [(4, AV.s 0 0 (List.length l) (List.length l)), (5, AV.c (Value.int IntKind.u8 0))] [HObj.oi 22 IntKind.i16 (Sp.rowm Sp.fa l j)]) (ps := []) (by kernel_rfl) (.nil) ?_
      refine seqK_n ?_
      refine VC.ent (Ent.freeze 0 (st' := St.mk [(4, AV.ri IntKind.i16 (List.take (List.length l) (List.drop 0 (Sp.rowm Sp.fa l j)))), (5, AV.c (Value.int IntKind.u8 0))] [HObj.dead]) trivial (by kernel_rfl) (All.of (l' := [List.length l ≤ List.length l, (0 : Nat) + List.length l ≤ List.length (Sp.rowm Sp.fa l j)]) (by kernel_rfl) (.cons (by omega) (.cons (by rw [Sp.rowm_len _ _ _ (by omega)]; omega) (.nil))))) ?_
      refine VC.ret ?_
      exact Fin.all [] (.inr rfl) (l := [AV.ri IntKind.i16 (List.take (List.length l) (List.drop 0 (Sp.rowm Sp.fa l j))), AV.c (Value.int IntKind.u8 0)]) (ps := []) (by kernel_rfl) (by kernel_rfl) (.nil) (All.of (l' := []) (by kernel_rfl) (.nil)) (show AV.t [AV.ri IntKind.i16 (List.take (List.length l) (List.drop 0 (Sp.rowm Sp.fa l j))), AV.c (Value.int IntKind.u8 0)] = AV.t [AV.ri IntKind.i16 (Sp.up 2 l), AV.c (Value.int IntKind.u8 (Sp.pkE 2 (List.length l)))] by rw [Sp.rowm_end hj h2, Sp.up2 h1, Sp.pkE_ok (.inr rfl) h1, List.take_of_length_le (by simp)]; rfl)
theorem con_Unpack (n : Int) (l : List Int) (hl : ∀ x ∈ l, 0 ≤ x ∧ x ≤ 255) : Con Try.prog L0 23 [] [.c (.int .u8 n), .ri .u8 l] [] (.t [.ri .i16 (Sp.up n l), .c (.int .u8 (Sp.pkE n l.length))]) := by
  by_cases h1 : n = 1
  · subst h1; exact con_Unpack1 l hl
  by_cases h2 : n = 2
  · subst h2; exact con_Unpack2 l hl
  refine con_of_vc E_ok mixed Try.func23 rfl Try.call23 (Nat.le_of_ble_eq_true rfl) ?_
  refine VC.seq ?_
  refine VC.region (E := E) (C := C1n) E_ok mixed (by first | exact fun _ => rfl | exact fun h => by cases h) [0, 1, 4, 5, 6, 7, 8, 9, 10, 11, 12, 13, 14, 15, 16, 17, 18, 19, 20, 21, 22, 23, 24, 25, 26, 27, 28, 29, 30, 31, 32, 33, 34, 35, 36, 37, 38] (st' := St.mk [(0, AV.c (Value.int IntKind.u8 n)), (1, AV.ri IntKind.u8 l), (4, AV.c (Value.slice none 0 0)), (5, AV.c (Value.int IntKind.u8 0))] []) (ps := []) (by kernel_rfl) (.nil) ?_
  refine seqK_n ?_
  refine VC.seq ?_
  refine VC.region (E := E) (C := C1n) E_ok mixed (by first | exact fun _ => rfl | exact fun h => by cases h) [1, 4, 5, 6, 7, 8, 9, 10, 16, 17, 18, 19, 20, 21, 22, 23, 24, 25, 26, 27, 28, 29, 30, 31, 32, 33, 34, 35, 36, 37, 38] (st' := St.mk [(1, AV.ri IntKind.u8 l), (4, AV.c (Value.slice none 0 0)), (5, AV.c (Value.int IntKind.u8 0)), (6, AV.c Value.nilIface), (7, AV.c (Value.bool false))] []) (ps := [Con Try.prog L0 (31 : Nat) [] [AV.c (Value.int IntKind.u8 n)] [] (AV.t [AV.c Value.nilIface, AV.c (Value.bool false)]), true = true ∨ (True ∧ True ∧ True) ∧ ∀ (o : HObj), o ∈ [] → HObj.nr o]) (by kernel_rfl) (.cons (by exact con_find0 _ h1 h2) (.cons (by simp) (.nil))) ?_
  refine seqK_n ?_
  refine VC.seq ?_
  refine VC.seq ?_
  refine VC.region (E := E) (C := C1n) E_ok mixed (by first | exact fun _ => rfl | exact fun h => by cases h) [1, 4, 5, 6, 8, 9, 10, 17, 18, 19, 20, 21, 22, 23, 24, 25, 26, 27, 28, 29, 30, 31, 32, 33, 34, 35, 36, 37, 38] (st' := St.mk [(1, AV.ri IntKind.u8 l), (4, AV.c (Value.slice none 0 0)), (5, AV.c (Value.int IntKind.u8 0)), (6, AV.c Value.nilIface), (17, AV.c (Value.bool true))] []) (ps := []) (by kernel_rfl) (.nil) ?_
  refine seqK_n ?_
  refine VC.cond_t (by kernel_rfl) ?_
  refine VC.seq ?_
  refine VC.region (E := E) (C := C1n) E_ok mixed (by first | exact fun _ => rfl | exact fun h => by cases h) [1, 4, 5, 6, 8, 9, 10, 18, 19, 20, 21, 22, 23, 24, 25, 26, 27, 28, 29, 30, 31, 32, 33, 34, 35, 36, 37, 38] (st' := St.mk [(1, AV.ri IntKind.u8 l), (4, AV.c (Value.slice none 0 0)), (5, AV.c (Value.int IntKind.u8 2)), (6, AV.c Value.nilIface)] []) (ps := []) (by kernel_rfl) (.nil) ?_
  refine seqK_n ?_
  refine VC.ent (Ent.sub (st' := St.mk [(1, AV.ri IntKind.u8 l), (4, AV.ri IntKind.i16 []), (5, AV.c (Value.int IntKind.u8 2)), (6, AV.c Value.nilIface)] []) (All.of (l' := [(1 : Nat) = (1 : Nat), AV.ri IntKind.u8 l = AV.ri IntKind.u8 l, (4 : Nat) = (4 : Nat), @Eq (List Int) ([]) ([]), (5 : Nat) = (5 : Nat), AV.c (Value.int IntKind.u8 (2 : Int)) = AV.c (Value.int IntKind.u8 (2 : Int)), (6 : Nat) = (6 : Nat), AV.c Value.nilIface = AV.c Value.nilIface]) (by kernel_rfl) (.cons (by rfl) (.cons (by rfl) (.cons (by rfl) (.cons (by rfl) (.cons (by rfl) (.cons (by rfl) (.cons (by rfl) (.cons (by rfl) (.nil))))))))))) ?_
  refine VC.ret ?_
  refine seqK_r ?_
  exact Fin.all [] (.inr rfl) (l := [AV.ri IntKind.i16 [], AV.c (Value.int IntKind.u8 2)]) (ps := []) (by kernel_rfl) (by kernel_rfl) (.nil) (All.of (l' := []) (by kernel_rfl) (.nil)) (show AV.t [AV.ri IntKind.i16 [], AV.c (Value.int IntKind.u8 2)] = AV.t [AV.ri IntKind.i16 (Sp.up n l), AV.c (Value.int IntKind.u8 (Sp.pkE n (List.length l)))] by exact Sp.up_err (Sp.upn (.inr ⟨h1, h2⟩)) (Sp.pkE_arg ⟨h1, h2⟩))
theorem con_rUnpack (n : Int) (l : List Int) (hl : ∀ x ∈ l, 0 ≤ x ∧ x ≤ 255) : Con Try.prog L0 24 [] [.c (.int .u8 n), .ri .u8 l] [] (.t [.ri .i16 (Sp.up n l), .c (.int .u8 (Sp.pkE n l.length))]) := by
  by_cases hn : n = 1
  ·
    subst hn
    refine con_of_vc E_ok mixed Try.func24 rfl Try.call24 (Nat.le_of_ble_eq_true rfl) ?_
    refine VC.seq ?_
    refine VC.region (E := E) (C := C1) E_ok mixed (by first | exact fun _ => rfl | exact fun h => by cases h) [0, 1, 4, 5, 6, 7, 8, 9, 10, 11, 12, 13, 14, 15, 16, 17, 18, 19, 20, 21, 22, 23, 24, 25, 26, 27, 28, 29, 30, 31, 32, 33, 34, 35, 36, 37, 38, 39, 40, 41] (st' := St.mk [(0, AV.c (Value.int IntKind.u8 1)), (1, AV.ri IntKind.u8 l), (4, AV.c (Value.slice none 0 0)), (5, AV.c (Value.int IntKind.u8 0))] []) (ps := []) (by kernel_rfl) (.nil) ?_
    refine seqK_n ?_
    refine VC.seq ?_
    refine VC.seq ?_
    refine VC.region (E := E) (C := C1) E_ok mixed (by first | exact fun _ => rfl | exact fun h => by cases h) [0, 1, 4, 5, 6, 7, 13, 14, 15, 16, 17, 18, 19, 20, 21, 22, 23, 24, 25, 26, 27, 28, 29, 30, 31, 32, 33, 34, 35, 36, 37, 38, 39, 40, 41] (st' := St.mk [(0, AV.c (Value.int IntKind.u8 1)), (1, AV.ri IntKind.u8 l), (4, AV.c (Value.slice none 0 0)), (5, AV.c (Value.int IntKind.u8 0)), (13, AV.c (Value.bool false))] []) (ps := [false = true → True, false = true → false = true ∧ True, false = true → false = true ∧ True, false = false → True]) (by kernel_rfl) (.cons (by exact fun _ => trivial) (.cons (by exact fun h => ⟨h, trivial⟩) (.cons (by exact fun h => ⟨h, trivial⟩) (.cons (by exact fun _ => trivial) (.nil))))) ?_
    refine seqK_n ?_
    refine VC.cond_f (by kernel_rfl) ?_
    refine VC.skip ?_
    refine seqK_n ?_
    refine VC.seq ?_
    refine VC.seq ?_
    refine VC.region (E := E) (C := C1) E_ok mixed (by first | exact fun _ => rfl | exact fun h => by cases h) [0, 1, 4, 5, 6, 7, 16, 17, 18, 19, 20, 21, 22, 23, 24, 25, 26, 27, 28, 29, 30, 31, 32, 33, 34, 35, 36, 37, 38, 39, 40, 41] (st' := St.mk [(0, AV.c (Value.int IntKind.u8 1)), (1, AV.ri IntKind.u8 l), (4, AV.c (Value.slice none 0 0)), (5, AV.c (Value.int IntKind.u8 0)), (16, AV.c (Value.bool (decide (8000 < (↑(List.length l) : Int)))))] []) (ps := []) (by kernel_rfl) (.nil) ?_
    refine seqK_n ?_
    refine VC.cond (b := decide (8000 < (↑(List.length l) : Int))) (by kernel_rfl) (fun h1 => ?_) (fun h1 => ?_)
    ·
      simp at h1
      refine VC.seq ?_
      refine VC.region (E := E) (C := C1) E_ok mixed (by first | exact fun _ => rfl | exact fun h => by cases h) [0, 1, 4, 5, 6, 7, 17, 18, 19, 20, 21, 22, 23, 24, 25, 26, 27, 28, 29, 30, 31, 32, 33, 34, 35, 36, 37, 38, 39, 40, 41] (st' := St.mk [(0, AV.c (Value.int IntKind.u8 1)), (1, AV.ri IntKind.u8 l), (4, AV.c (Value.slice none 0 0)), (5, AV.c (Value.int IntKind.u8 4))] []) (ps := []) (by kernel_rfl) (.nil) ?_
      refine seqK_n ?_
      refine VC.ent (Ent.sub (st' := St.mk [(0, AV.c (Value.int IntKind.u8 1)), (1, AV.ri IntKind.u8 l), (4, AV.ri IntKind.i16 []), (5, AV.c (Value.int IntKind.u8 4))] []) (All.of (l' := [(0 : Nat) = (0 : Nat), AV.c (Value.int IntKind.u8 (1 : Int)) = AV.c (Value.int IntKind.u8 (1 : Int)), (1 : Nat) = (1 : Nat), AV.ri IntKind.u8 l = AV.ri IntKind.u8 l, (4 : Nat) = (4 : Nat), @Eq (List Int) ([]) ([]), (5 : Nat) = (5 : Nat), AV.c (Value.int IntKind.u8 (4 : Int)) = AV.c (Value.int IntKind.u8 (4 : Int))]) (by kernel_rfl) (.cons (by rfl) (.cons (by rfl) (.cons (by rfl) (.cons (by rfl) (.cons (by rfl) (.cons (by rfl) (.cons (by rfl) (.cons (by rfl) (.nil))))))))))) ?_
      refine VC.ret ?_
      refine seqK_r ?_
      exact Fin.all [] (.inr rfl) (l := [AV.ri IntKind.i16 [], AV.c (Value.int IntKind.u8 4)]) (ps := []) (by kernel_rfl) (by kernel_rfl) (.nil) (All.of (l' := []) (by kernel_rfl) (.nil)) (show AV.t [AV.ri IntKind.i16 [], AV.c (Value.int IntKind.u8 4)] = AV.t [AV.ri IntKind.i16 (Sp.up 1 l), AV.c (Value.int IntKind.u8 (Sp.pkE 1 (List.length l)))] by exact Sp.up_err (Sp.upn (.inl h1)) (Sp.pkE_big (.inl rfl) h1))
    ·
      simp at h1
      refine VC.skip ?_
      refine seqK_n ?_
      refine VC.seq ?_
      refine VC.region (E := E) (C := C1) E_ok mixed (by first | exact fun _ => rfl | exact fun h => by cases h) [0, 1, 4, 5, 6, 7, 17, 18, 19, 20, 21, 22, 23, 24, 25, 26, 27, 28, 29, 30, 31, 32, 33, 34, 35, 36, 37, 38, 39, 40, 41] (st' := St.mk [(0, AV.c (Value.int IntKind.u8 1)), (1, AV.ri IntKind.u8 l), (4, AV.c (Value.slice none 0 0)), (5, AV.c (Value.int IntKind.u8 0)), (6, AV.c (Value.slice none 0 0))] []) (ps := []) (by kernel_rfl) (.nil) ?_
      refine seqK_n ?_
      refine VC.seq ?_
      refine VC.seq ?_
      refine VC.region (E := E) (C := C1) E_ok mixed (by first | exact fun _ => rfl | exact fun h => by cases h) [0, 1, 4, 5, 6, 7, 17, 18, 19, 20, 21, 22, 23, 24, 25, 26, 27, 28, 29, 30, 31, 32, 33, 34, 35, 36, 37, 38, 39, 40, 41] (st' := St.mk [(0, AV.c (Value.int IntKind.u8 1)), (1, AV.ri IntKind.u8 l), (4, AV.c (Value.slice none 0 0)), (5, AV.c (Value.int IntKind.u8 0)), (6, AV.c (Value.slice none 0 0)), (7, AV.c (Value.int IntKind.i64 0))] []) (ps := []) (by kernel_rfl) (.nil) ?_
      refine seqK_n ?_
      refine VC.block ?_
      refine VC.ent (Ent.nil 6 (HObj.oi 22 .i16 []) (by first | exact .inl ⟨_, _, rfl⟩ | exact .inr ⟨_, _, rfl⟩) (by kernel_rfl)) ?_
      refine VC.loop (Y := {j : Nat // j ≤ l.length}) (fun j => ⟨[(0, .c (.int .u8 1)), (1, .ri .u8 l), (6, .s 0 0 j.1 j.1), (7, .c (.int .i64 (j.1 : Nat)))], [.oi 22 .i16 ((l.take j.1).map Sp.fmu)]⟩) (fun j => l.length - j.1) ⟨0, by omega⟩ ?_ ?_
      ·
        exact Ent.map [0] (by kernel_rfl) (All.of (l' := [HObj.oi (22 : TypeId) IntKind.i16 [] = HObj.dead ∨ HObj.oi (22 : TypeId) IntKind.i16 [] = HObj.oi (22 : TypeId) IntKind.i16 []]) (by kernel_rfl) (.cons (by exact .inr rfl) (.nil))) (All.of (l' := [some (AV.c (Value.int IntKind.u8 (1 : Int))) = some (AV.c (Value.int IntKind.u8 (1 : Int))), some (AV.ri IntKind.u8 l) = some (AV.ri IntKind.u8 l), some (AV.s (0 : Nat) (0 : Nat) (0 : Nat) (0 : Nat)) = some (AV.s (0 : Nat) (0 : Nat) (0 : Nat) (0 : Nat)), some (AV.c (Value.int IntKind.i64 (0 : Int))) = some (AV.c (Value.int IntKind.i64 (0 : Int)))]) (by kernel_rfl) (.cons (by with_reducible rfl) (.cons (by with_reducible rfl) (.cons (by with_reducible rfl) (.cons (by with_reducible rfl) (.nil))))))
      intro ⟨j, hj⟩
      refine VC.seq ?_
      refine VC.seq ?_
      refine VC.region (E := E) (C := C1) E_ok mixed (by first | exact fun _ => rfl | exact fun h => by cases h) [0, 1, 4, 5, 6, 7, 20, 21, 22, 23, 24, 25, 26, 27, 28, 29, 30, 31, 32, 33, 34, 35, 36, 37, 38, 39, 40, 41] (st' := St.mk [(0, AV.c (Value.int IntKind.u8 1)), (1, AV.ri IntKind.u8 l), (6, AV.s 0 0 j j), (7, AV.c (Value.int IntKind.i64 (↑j : Int))), (20, AV.c (Value.bool (decide ((↑j : Int) < (↑(List.length l) : Int)))))] [HObj.oi 22 IntKind.i16 (List.map Sp.fmu (List.take j l))]) (ps := []) (by kernel_rfl) (.nil) ?_
      refine seqK_n ?_
      refine VC.cond (b := decide ((↑j : Int) < (↑(List.length l) : Int))) (by kernel_rfl) (fun h2 => ?_) (fun h2 => ?_)
      ·
        simp at h2
        refine VC.skip ?_
        refine seqK_n ?_
        refine VC.seq ?_
        refine VC.block ?_
        refine VC.seq ?_
        refine VC.region (E := E) (C := C1) E_ok mixed (by first | exact fun _ => rfl | exact fun h => by cases h) [0, 1, 4, 5, 6, 7, 21, 22, 24, 25, 26, 27, 28, 29, 30, 31, 32, 33, 34, 35, 36, 37, 38, 39, 40, 41] (st' := St.mk [(0, AV.c (Value.int IntKind.u8 1)), (1, AV.ri IntKind.u8 l), (6, AV.s 0 0 j j), (7, AV.c (Value.int IntKind.i64 (↑j : Int))), (24, AV.c (Value.bool true))] [HObj.oi 22 IntKind.i16 (List.map Sp.fmu (List.take j l))]) (ps := []) (by kernel_rfl) (.nil) ?_
        refine seqK_n ?_
        refine VC.cond_t (by kernel_rfl) ?_
        refine VC.regionE (E := E) (C := C1) E_ok mixed (by first | exact fun _ => rfl | exact fun h => by cases h) [0, 1, 4, 5, 6, 7, 21, 22, 41] (st' := St.mk [(0, AV.c (Value.int IntKind.u8 1)), (1, AV.ri IntKind.u8 l), (6, AV.s 2 0 (j + 1) (j + 1)), (7, AV.c (Value.int IntKind.i64 (↑j : Int)))] [HObj.dead, HObj.oi 22 IntKind.i16 [Sp.fmu (List.getD l (Int.toNat (↑j : Int) * 1) 0)], HObj.oi 22 IntKind.i16 (List.map Sp.fmu (List.take j l) ++ [Sp.fmu (List.getD l (Int.toNat (↑j : Int) * 1) 0)])]) (ps := [(0 : Int) ≤ (↑j : Int), (↑j : Int) < (↑(List.length l) : Int), Int.toNat (↑j : Int) * (1 : Nat) < List.length l, Con Try.prog L0 (17 : Nat) [] [AV.c (Value.int IntKind.u8 (List.getD l (Int.toNat (↑j : Int) * (1 : Nat)) (0 : Int)))] [] (AV.c (Value.int IntKind.i16 (Sp.fmu (List.getD l (Int.toNat (↑j : Int) * (1 : Nat)) (0 : Int))))), true = true ∨ True ∧ ∀ (o : HObj), o ∈ [] → HObj.nr o, (1 : Nat) ≤ (1000 : Nat), (j + (1 : Nat)) * (2 : Nat) ≤ (140737488355328 : Nat), j + (1 : Nat) ≤ (9223372036854775807 : Nat), j = List.length (List.map Sp.fmu (List.take j l)), j = j, (1 : Nat) ≤ (1 : Nat)]) (by kernel_rfl) (.cons (by omega) (.cons (by omega) (.cons (by omega) (.cons (by exact con_rFromMu _ (getD_in hl (by omega) _)) (.cons (by simp) (.cons (by trivial) (.cons (by omega) (.cons (by omega) (.cons (by simp at *; omega) (.cons (by trivial) (.cons (by trivial) (.nil)))))))))))) (st'' := St.mk [(0, AV.c (Value.int IntKind.u8 1)), (1, AV.ri IntKind.u8 l), (6, AV.s 2 0 (j + 1) (j + 1)), (7, AV.c (Value.int IntKind.i64 (↑j : Int)))] [HObj.dead, HObj.oi 22 IntKind.i16 [Sp.fmu (List.getD l j 0)], HObj.oi 22 IntKind.i16 (List.map Sp.fmu (List.take j l) ++ [Sp.fmu (List.getD l j 0)])]) (by simp (disch := omega) only [wrap_i8, wrap_i16, wrap_i32, wrap_i64, wrap_u8, wrap_u16, wrap_u32, wrap_u64, Int.tdiv_eq_ediv_of_nonneg, Int.tmod_eq_emod_of_nonneg, Int.toNat_natCast, Int.reduceToNat, Nat.mul_one, Nat.zero_add, Nat.add_zero, Nat.one_mul, Int.one_mul, Int.zero_add, Int.add_zero, Int.mul_one, List.drop_zero, List.take_length, Int.zero_sub]) ?_
        refine blockK_n ?_
        refine seqK_n ?_
        refine VC.regionE (E := E) (C := C1) E_ok mixed (by first | exact fun _ => rfl | exact fun h => by cases h) [0, 1, 4, 5, 6, 7, 41] (st' := St.mk [(0, AV.c (Value.int IntKind.u8 1)), (1, AV.ri IntKind.u8 l), (6, AV.s 2 0 (j + 1) (j + 1)), (7, AV.c (Value.int IntKind.i64 (IntKind.wrap IntKind.i64 ((↑j : Int) + 1))))] [HObj.dead, HObj.oi 22 IntKind.i16 [Sp.fmu (List.getD l j 0)], HObj.oi 22 IntKind.i16 (List.map Sp.fmu (List.take j l) ++ [Sp.fmu (List.getD l j 0)])]) (ps := []) (by kernel_rfl) (.nil) (st'' := St.mk [(0, AV.c (Value.int IntKind.u8 1)), (1, AV.ri IntKind.u8 l), (6, AV.s 2 0 (j + 1) (j + 1)), (7, AV.c (Value.int IntKind.i64 ((↑j : Int) + 1)))] [HObj.dead, HObj.oi 22 IntKind.i16 [Sp.fmu (List.getD l j 0)], HObj.oi 22 IntKind.i16 (List.map Sp.fmu (List.take j l) ++ [Sp.fmu (List.getD l j 0)])]) (by simp (disch := omega) only [wrap_i8, wrap_i16, wrap_i32, wrap_i64, wrap_u8, wrap_u16, wrap_u32, wrap_u64, Int.tdiv_eq_ediv_of_nonneg, Int.tmod_eq_emod_of_nonneg, Int.toNat_natCast, Int.reduceToNat, Nat.mul_one, Nat.zero_add, Nat.add_zero, Nat.one_mul, Int.one_mul, Int.zero_add, Int.add_zero, Int.mul_one, List.drop_zero, List.take_length, Int.zero_sub]) ?_
        refine loopK_n (⟨j + 1, by omega⟩) ?_ ?_
        ·
          exact (show List.length l - (j + 1) < List.length l - j by omega)
        ·
          exact Ent.map [2] (by kernel_rfl) (All.of (l' := [HObj.oi (22 : TypeId) IntKind.i16 (List.map Sp.fmu (List.take (j + (1 : Nat)) l)) = HObj.dead ∨ HObj.oi (22 : TypeId) IntKind.i16 (List.map Sp.fmu (List.take j l) ++ [Sp.fmu (List.getD l j (0 : Int))]) = HObj.oi (22 : TypeId) IntKind.i16 (List.map Sp.fmu (List.take (j + (1 : Nat)) l))]) (by kernel_rfl) (.cons (by exact .inr (by rw [map_take_succ h2])) (.nil))) (All.of (l' := [some (AV.c (Value.int IntKind.u8 (1 : Int))) = some (AV.c (Value.int IntKind.u8 (1 : Int))), some (AV.ri IntKind.u8 l) = some (AV.ri IntKind.u8 l), some (AV.s (2 : Nat) (0 : Nat) (j + (1 : Nat)) (j + (1 : Nat))) = some (AV.s (2 : Nat) (0 : Nat) (j + (1 : Nat)) (j + (1 : Nat))), some (AV.c (Value.int IntKind.i64 ((↑j : Int) + (1 : Int)))) = some (AV.c (Value.int IntKind.i64 (↑(j + (1 : Nat)) : Int)))]) (by kernel_rfl) (.cons (by with_reducible rfl) (.cons (by with_reducible rfl) (.cons (by with_reducible rfl) (.cons (by trivial) (.nil))))))
      ·
        simp at h2
        refine VC.exit ?_
        refine seqK_x ?_
        refine loopK_x ?_
        refine blockK_x ?_
        refine seqK_n ?_
        refine VC.seq ?_
        refine VC.region (E := E) (C := C1) E_ok mixed (by first | exact fun _ => rfl | exact fun h => by cases h) [4, 5] (st' := St.mk [(4, AV.s 0 0 j j), (5, AV.c (Value.int IntKind.u8 0))] [HObj.oi 22 IntKind.i16 (List.map Sp.fmu (List.take j l))]) (ps := []) (by kernel_rfl) (.nil) ?_
        refine seqK_n ?_
        refine VC.ent (Ent.freeze 0 (st' := St.mk [(4, AV.ri IntKind.i16 (List.take j (List.drop 0 (List.map Sp.fmu (List.take j l))))), (5, AV.c (Value.int IntKind.u8 0))] [HObj.dead]) trivial (by kernel_rfl) (All.of (l' := [j ≤ j, (0 : Nat) + j ≤ List.length (List.map Sp.fmu (List.take j l))]) (by kernel_rfl) (.cons (by omega) (.cons (by simp at *; omega) (.nil))))) ?_
        refine VC.ret ?_
        exact Fin.all [] (.inr rfl) (l := [AV.ri IntKind.i16 (List.take j (List.drop 0 (List.map Sp.fmu (List.take j l)))), AV.c (Value.int IntKind.u8 0)]) (ps := []) (by kernel_rfl) (by kernel_rfl) (.nil) (All.of (l' := []) (by kernel_rfl) (.nil)) (show AV.t [AV.ri IntKind.i16 (List.take j (List.drop 0 (List.map Sp.fmu (List.take j l)))), AV.c (Value.int IntKind.u8 0)] = AV.t [AV.ri IntKind.i16 (Sp.up 1 l), AV.c (Value.int IntKind.u8 (Sp.pkE 1 (List.length l)))] by rw [take_end hj h2, Sp.up1 h1, Sp.pkE_ok (.inl rfl) h1, List.take_of_length_le (by simp; omega)]; rfl)
  by_cases hn2 : n = 2
  ·
    subst hn2
    refine con_of_vc E_ok mixed Try.func24 rfl Try.call24 (Nat.le_of_ble_eq_true rfl) ?_
    refine VC.seq ?_
    refine VC.region (E := E) (C := C1) E_ok mixed (by first | exact fun _ => rfl | exact fun h => by cases h) [0, 1, 4, 5, 6, 7, 8, 9, 10, 11, 12, 13, 14, 15, 16, 17, 18, 19, 20, 21, 22, 23, 24, 25, 26, 27, 28, 29, 30, 31, 32, 33, 34, 35, 36, 37, 38, 39, 40, 41] (st' := St.mk [(0, AV.c (Value.int IntKind.u8 2)), (1, AV.ri IntKind.u8 l), (4, AV.c (Value.slice none 0 0)), (5, AV.c (Value.int IntKind.u8 0))] []) (ps := []) (by kernel_rfl) (.nil) ?_
    refine seqK_n ?_
    refine VC.seq ?_
    refine VC.seq ?_
    refine VC.region (E := E) (C := C1) E_ok mixed (by first | exact fun _ => rfl | exact fun h => by cases h) [0, 1, 4, 5, 6, 7, 13, 14, 15, 16, 17, 18, 19, 20, 21, 22, 23, 24, 25, 26, 27, 28, 29, 30, 31, 32, 33, 34, 35, 36, 37, 38, 39, 40, 41] (st' := St.mk [(0, AV.c (Value.int IntKind.u8 2)), (1, AV.ri IntKind.u8 l), (4, AV.c (Value.slice none 0 0)), (5, AV.c (Value.int IntKind.u8 0)), (13, AV.c (Value.bool false))] []) (ps := [true = true → True, true = true → true = true ∧ True, true = true → true = true ∧ True, true = false → True]) (by kernel_rfl) (.cons (by exact fun _ => trivial) (.cons (by exact fun h => ⟨h, trivial⟩) (.cons (by exact fun h => ⟨h, trivial⟩) (.cons (by exact fun _ => trivial) (.nil))))) ?_
    refine seqK_n ?_
    refine VC.cond_f (by kernel_rfl) ?_
    refine VC.skip ?_
    refine seqK_n ?_
    refine VC.seq ?_
    refine VC.seq ?_
    refine VC.region (E := E) (C := C1) E_ok mixed (by first | exact fun _ => rfl | exact fun h => by cases h) [0, 1, 4, 5, 6, 7, 16, 17, 18, 19, 20, 21, 22, 23, 24, 25, 26, 27, 28, 29, 30, 31, 32, 33, 34, 35, 36, 37, 38, 39, 40, 41] (st' := St.mk [(0, AV.c (Value.int IntKind.u8 2)), (1, AV.ri IntKind.u8 l), (4, AV.c (Value.slice none 0 0)), (5, AV.c (Value.int IntKind.u8 0)), (16, AV.c (Value.bool (decide (8000 < (↑(List.length l) : Int)))))] []) (ps := []) (by kernel_rfl) (.nil) ?_
    refine seqK_n ?_
    refine VC.cond (b := decide (8000 < (↑(List.length l) : Int))) (by kernel_rfl) (fun h1 => ?_) (fun h1 => ?_)
    ·
      simp at h1
      refine VC.seq ?_
      refine VC.region (E := E) (C := C1) E_ok mixed (by first | exact fun _ => rfl | exact fun h => by cases h) [0, 1, 4, 5, 6, 7, 17, 18, 19, 20, 21, 22, 23, 24, 25, 26, 27, 28, 29, 30, 31, 32, 33, 34, 35, 36, 37, 38, 39, 40, 41] (st' := St.mk [(0, AV.c (Value.int IntKind.u8 2)), (1, AV.ri IntKind.u8 l), (4, AV.c (Value.slice none 0 0)), (5, AV.c (Value.int IntKind.u8 4))] []) (ps := []) (by kernel_rfl) (.nil) ?_
      refine seqK_n ?_
      refine VC.ent (Ent.sub (st' := St.mk [(0, AV.c (Value.int IntKind.u8 2)), (1, AV.ri IntKind.u8 l), (4, AV.ri IntKind.i16 []), (5, AV.c (Value.int IntKind.u8 4))] []) (All.of (l' := [(0 : Nat) = (0 : Nat), AV.c (Value.int IntKind.u8 (2 : Int)) = AV.c (Value.int IntKind.u8 (2 : Int)), (1 : Nat) = (1 : Nat), AV.ri IntKind.u8 l = AV.ri IntKind.u8 l, (4 : Nat) = (4 : Nat), @Eq (List Int) ([]) ([]), (5 : Nat) = (5 : Nat), AV.c (Value.int IntKind.u8 (4 : Int)) = AV.c (Value.int IntKind.u8 (4 : Int))]) (by kernel_rfl) (.cons (by rfl) (.cons (by rfl) (.cons (by rfl) (.cons (by rfl) (.cons (by rfl) (.cons (by rfl) (.cons (by rfl) (.cons (by rfl) (.nil))))))))))) ?_
      refine VC.ret ?_
      refine seqK_r ?_
      exact Fin.all [] (.inr rfl) (l := [AV.ri IntKind.i16 [], AV.c (Value.int IntKind.u8 4)]) (ps := []) (by kernel_rfl) (by kernel_rfl) (.nil) (All.of (l' := []) (by kernel_rfl) (.nil)) (show AV.t [AV.ri IntKind.i16 [], AV.c (Value.int IntKind.u8 4)] = AV.t [AV.ri IntKind.i16 (Sp.up 2 l), AV.c (Value.int IntKind.u8 (Sp.pkE 2 (List.length l)))] by exact Sp.up_err (Sp.upn (.inl h1)) (Sp.pkE_big (.inr rfl) h1))
    ·
      simp at h1
      refine VC.skip ?_
      refine seqK_n ?_
      refine VC.seq ?_
      refine VC.region (E := E) (C := C1) E_ok mixed (by first | exact fun _ => rfl | exact fun h => by cases h) [0, 1, 4, 5, 6, 7, 17, 18, 19, 20, 21, 22, 23, 24, 25, 26, 27, 28, 29, 30, 31, 32, 33, 34, 35, 36, 37, 38, 39, 40, 41] (st' := St.mk [(0, AV.c (Value.int IntKind.u8 2)), (1, AV.ri IntKind.u8 l), (4, AV.c (Value.slice none 0 0)), (5, AV.c (Value.int IntKind.u8 0)), (6, AV.c (Value.slice none 0 0))] []) (ps := []) (by kernel_rfl) (.nil) ?_
      refine seqK_n ?_
      refine VC.seq ?_
      refine VC.seq ?_
      refine VC.region (E := E) (C := C1) E_ok mixed (by first | exact fun _ => rfl | exact fun h => by cases h) [0, 1, 4, 5, 6, 7, 17, 18, 19, 20, 21, 22, 23, 24, 25, 26, 27, 28, 29, 30, 31, 32, 33, 34, 35, 36, 37, 38, 39, 40, 41] (st' := St.mk [(0, AV.c (Value.int IntKind.u8 2)), (1, AV.ri IntKind.u8 l), (4, AV.c (Value.slice none 0 0)), (5, AV.c (Value.int IntKind.u8 0)), (6, AV.c (Value.slice none 0 0)), (7, AV.c (Value.int IntKind.i64 0))] []) (ps := []) (by kernel_rfl) (.nil) ?_
      refine seqK_n ?_
      refine VC.block ?_
      refine VC.ent (Ent.nil 6 (HObj.oi 22 .i16 []) (by first | exact .inl ⟨_, _, rfl⟩ | exact .inr ⟨_, _, rfl⟩) (by kernel_rfl)) ?_
      refine VC.loop (Y := {j : Nat // j ≤ l.length}) (fun j => ⟨[(0, .c (.int .u8 2)), (1, .ri .u8 l), (6, .s 0 0 j.1 j.1), (7, .c (.int .i64 (j.1 : Nat)))], [.oi 22 .i16 ((l.take j.1).map Sp.fa)]⟩) (fun j => l.length - j.1) ⟨0, by omega⟩ ?_ ?_
      ·
        exact Ent.map [0] (by kernel_rfl) (All.of (l' := [HObj.oi (22 : TypeId) IntKind.i16 [] = HObj.dead ∨ HObj.oi (22 : TypeId) IntKind.i16 [] = HObj.oi (22 : TypeId) IntKind.i16 []]) (by kernel_rfl) (.cons (by exact .inr rfl) (.nil))) (All.of (l' := [some (AV.c (Value.int IntKind.u8 (2 : Int))) = some (AV.c (Value.int IntKind.u8 (2 : Int))), some (AV.ri IntKind.u8 l) = some (AV.ri IntKind.u8 l), some (AV.s (0 : Nat) (0 : Nat) (0 : Nat) (0 : Nat)) = some (AV.s (0 : Nat) (0 : Nat) (0 : Nat) (0 : Nat)), some (AV.c (Value.int IntKind.i64 (0 : Int))) = some (AV.c (Value.int IntKind.i64 (0 : Int)))]) (by kernel_rfl) (.cons (by with_reducible rfl) (.cons (by with_reducible rfl) (.cons (by with_reducible rfl) (.cons (by with_reducible rfl) (.nil))))))
      intro ⟨j, hj⟩
      refine VC.seq ?_
      refine VC.seq ?_
      refine VC.region (E := E) (C := C1) E_ok mixed (by first | exact fun _ => rfl | exact fun h => by cases h) [0, 1, 4, 5, 6, 7, 20, 21, 22, 23, 24, 25, 26, 27, 28, 29, 30, 31, 32, 33, 34, 35, 36, 37, 38, 39, 40, 41] (st' := St.mk [(0, AV.c (Value.int IntKind.u8 2)), (1, AV.ri IntKind.u8 l), (6, AV.s 0 0 j j), (7, AV.c (Value.int IntKind.i64 (↑j : Int))), (20, AV.c (Value.bool (decide ((↑j : Int) < (↑(List.length l) : Int)))))] [HObj.oi 22 IntKind.i16 (List.map Sp.fa (List.take j l))]) (ps := []) (by kernel_rfl) (.nil) ?_
      refine seqK_n ?_
      refine VC.cond (b := decide ((↑j : Int) < (↑(List.length l) : Int))) (by kernel_rfl) (fun h2 => ?_) (fun h2 => ?_)
      ·
        simp at h2
        refine VC.skip ?_
        refine seqK_n ?_
        refine VC.seq ?_
        refine VC.block ?_
        refine VC.seq ?_
        refine VC.region (E := E) (C := C1) E_ok mixed (by first | exact fun _ => rfl | exact fun h => by cases h) [0, 1, 4, 5, 6, 7, 21, 22, 24, 25, 26, 27, 28, 29, 30, 31, 32, 33, 34, 35, 36, 37, 38, 39, 40, 41] (st' := St.mk [(0, AV.c (Value.int IntKind.u8 2)), (1, AV.ri IntKind.u8 l), (6, AV.s 0 0 j j), (7, AV.c (Value.int IntKind.i64 (↑j : Int))), (24, AV.c (Value.bool false))] [HObj.oi 22 IntKind.i16 (List.map Sp.fa (List.take j l))]) (ps := []) (by kernel_rfl) (.nil) ?_
        refine seqK_n ?_
        refine VC.cond_f (by kernel_rfl) ?_
        refine VC.regionE (E := E) (C := C1) E_ok mixed (by first | exact fun _ => rfl | exact fun h => by cases h) [0, 1, 4, 5, 6, 7, 21, 22, 41] (st' := St.mk [(0, AV.c (Value.int IntKind.u8 2)), (1, AV.ri IntKind.u8 l), (6, AV.s 2 0 (j + 1) (j + 1)), (7, AV.c (Value.int IntKind.i64 (↑j : Int)))] [HObj.dead, HObj.oi 22 IntKind.i16 [Sp.fa (List.getD l (Int.toNat (↑j : Int) * 1) 0)], HObj.oi 22 IntKind.i16 (List.map Sp.fa (List.take j l) ++ [Sp.fa (List.getD l (Int.toNat (↑j : Int) * 1) 0)])]) (ps := [(0 : Int) ≤ (↑j : Int), (↑j : Int) < (↑(List.length l) : Int), Int.toNat (↑j : Int) * (1 : Nat) < List.length l, Con Try.prog L0 (18 : Nat) [] [AV.c (Value.int IntKind.u8 (List.getD l (Int.toNat (↑j : Int) * (1 : Nat)) (0 : Int)))] [] (AV.c (Value.int IntKind.i16 (Sp.fa (List.getD l (Int.toNat (↑j : Int) * (1 : Nat)) (0 : Int))))), true = true ∨ True ∧ ∀ (o : HObj), o ∈ [] → HObj.nr o, (1 : Nat) ≤ (1000 : Nat), (j + (1 : Nat)) * (2 : Nat) ≤ (140737488355328 : Nat), j + (1 : Nat) ≤ (9223372036854775807 : Nat), j = List.length (List.map Sp.fa (List.take j l)), j = j, (1 : Nat) ≤ (1 : Nat)]) (by kernel_rfl) (.cons (by omega) (.cons (by omega) (.cons (by omega) (.cons (by exact con_rFromA _ (getD_in hl (by omega) _)) (.cons (by simp) (.cons (by trivial) (.cons (by omega) (.cons (by omega) (.cons (by simp at *; omega) (.cons (by trivial) (.cons (by trivial) (.nil)))))))))))) (st'' := St.mk [(0, AV.c (Value.int IntKind.u8 2)), (1, AV.ri IntKind.u8 l), (6, AV.s 2 0 (j + 1) (j + 1)), (7, AV.c (Value.int IntKind.i64 (↑j : Int)))] [HObj.dead, HObj.oi 22 IntKind.i16 [Sp.fa (List.getD l j 0)], HObj.oi 22 IntKind.i16 (List.map Sp.fa (List.take j l) ++ [Sp.fa (List.getD l j 0)])]) (by simp (disch := omega) only [wrap_i8, wrap_i16, wrap_i32, wrap_i64, wrap_u8, wrap_u16, wrap_u32, wrap_u64, Int.tdiv_eq_ediv_of_nonneg, Int.tmod_eq_emod_of_nonneg, Int.toNat_natCast, Int.reduceToNat, Nat.mul_one, Nat.zero_add, Nat.add_zero, Nat.one_mul, Int.one_mul, Int.zero_add, Int.add_zero, Int.mul_one, List.drop_zero, List.take_length, Int.zero_sub]) ?_
        refine blockK_n ?_
        refine seqK_n ?_
        refine VC.regionE (E := E) (C := C1) E_ok mixed (by first | exact fun _ => rfl | exact fun h => by cases h) [0, 1, 4, 5, 6, 7, 41] (st' := St.mk [(0, AV.c (Value.int IntKind.u8 2)), (1, AV.ri IntKind.u8 l), (6, AV.s 2 0 (j + 1) (j + 1)), (7, AV.c (Value.int IntKind.i64 (IntKind.wrap IntKind.i64 ((↑j : Int) + 1))))] [HObj.dead, HObj.oi 22 IntKind.i16 [Sp.fa (List.getD l j 0)], HObj.oi 22 IntKind.i16 (List.map Sp.fa (List.take j l) ++ [Sp.fa (List.getD l j 0)])]) (ps := []) (by kernel_rfl) (.nil) (st'' := St.mk [(0, AV.c (Value.int IntKind.u8 2)), (1, AV.ri IntKind.u8 l), (6, AV.s 2 0 (j + 1) (j + 1)), (7, AV.c (Value.int IntKind.i64 ((↑j : Int) + 1)))] [HObj.dead, HObj.oi 22 IntKind.i16 [Sp.fa (List.getD l j 0)], HObj.oi 22 IntKind.i16 (List.map Sp.fa (List.take j l) ++ [Sp.fa (List.getD l j 0)])]) (by simp (disch := omega) only [wrap_i8, wrap_i16, wrap_i32, wrap_i64, wrap_u8, wrap_u16, wrap_u32, wrap_u64, Int.tdiv_eq_ediv_of_nonneg, Int.tmod_eq_emod_of_nonneg, Int.toNat_natCast, Int.reduceToNat, Nat.mul_one, Nat.zero_add, Nat.add_zero, Nat.one_mul, Int.one_mul, Int.zero_add, Int.add_zero, Int.mul_one, List.drop_zero, List.take_length, Int.zero_sub]) ?_
        refine loopK_n (⟨j + 1, by omega⟩) ?_ ?_
        ·
          exact (show List.length l - (j + 1) < List.length l - j by omega)
        ·
          exact Ent.map [2] (by kernel_rfl) (All.of (l' := [HObj.oi (22 : TypeId) IntKind.i16 (List.map Sp.fa (List.take (j + (1 : Nat)) l)) = HObj.dead ∨ HObj.oi (22 : TypeId) IntKind.i16 (List.map Sp.fa (List.take j l) ++ [Sp.fa (List.getD l j (0 : Int))]) = HObj.oi (22 : TypeId) IntKind.i16 (List.map Sp.fa (List.take (j + (1 : Nat)) l))]) (by kernel_rfl) (.cons (by exact .inr (by rw [map_take_succ h2])) (.nil))) (All.of (l' := [some (AV.c (Value.int IntKind.u8 (2 : Int))) = some (AV.c (Value.int IntKind.u8 (2 : Int))), some (AV.ri IntKind.u8 l) = some (AV.ri IntKind.u8 l), some (AV.s (2 : Nat) (0 : Nat) (j + (1 : Nat)) (j + (1 : Nat))) = some (AV.s (2 : Nat) (0 : Nat) (j + (1 : Nat)) (j + (1 : Nat))), some (AV.c (Value.int IntKind.i64 ((↑j : Int) + (1 : Int)))) = some (AV.c (Value.int IntKind.i64 (↑(j + (1 : Nat)) : Int)))]) (by kernel_rfl) (.cons (by with_reducible rfl) (.cons (by with_reducible rfl) (.cons (by with_reducible rfl) (.cons (by trivial) (.nil))))))
      ·
        simp at h2
        refine VC.exit ?_
        refine seqK_x ?_
        refine loopK_x ?_
        refine blockK_x ?_
        refine seqK_n ?_
        refine VC.seq ?_
        refine VC.region (E := E) (C := C1) E_ok mixed (by first | exact fun _ => rfl | exact fun h => by cases h) [4, 5] (st' := St.mk [(4, AV.s 0 0 j j), (5, AV.c (Value.int IntKind.u8 0))] [HObj.oi 22 IntKind.i16 (List.map Sp.fa (List.take j l))]) (ps := []) (by kernel_rfl) (.nil) ?_
        refine seqK_n ?_
        refine VC.ent (Ent.freeze 0 (st' := St.mk [(4, AV.ri IntKind.i16 (List.take j (List.drop 0 (List.map Sp.fa (List.take j l))))), (5, AV.c (Value.int IntKind.u8 0))] [HObj.dead]) trivial (by kernel_rfl) (All.of (l' := [j ≤ j, (0 : Nat) + j ≤ List.length (List.map Sp.fa (List.take j l))]) (by kernel_rfl) (.cons (by omega) (.cons (by simp at *; omega) (.nil))))) ?_
        refine VC.ret ?_
        exact Fin.all [] (.inr rfl) (l := [AV.ri IntKind.i16 (List.take j (List.drop 0 (List.map Sp.fa (List.take j l)))), AV.c (Value.int IntKind.u8 0)]) (ps := []) (by kernel_rfl) (by kernel_rfl) (.nil) (All.of (l' := []) (by kernel_rfl) (.nil)) (show AV.t [AV.ri IntKind.i16 (List.take j (List.drop 0 (List.map Sp.fa (List.take j l)))), AV.c (Value.int IntKind.u8 0)] = AV.t [AV.ri IntKind.i16 (Sp.up 2 l), AV.c (Value.int IntKind.u8 (Sp.pkE 2 (List.length l)))] by rw [take_end hj h2, Sp.up2 h1, Sp.pkE_ok (.inr rfl) h1, List.take_of_length_le (by simp; omega)]; rfl)
  refine con_of_vc E_ok mixed Try.func24 rfl Try.call24 (Nat.le_of_ble_eq_true rfl) ?_
  refine VC.seq ?_
  refine VC.region (E := E) (C := C1) E_ok mixed (by first | exact fun _ => rfl | exact fun h => by cases h) [0, 1, 4, 5, 6, 7, 8, 9, 10, 11, 12, 13, 14, 15, 16, 17, 18, 19, 20, 21, 22, 23, 24, 25, 26, 27, 28, 29, 30, 31, 32, 33, 34, 35, 36, 37, 38, 39, 40, 41] (st' := St.mk [(0, AV.c (Value.int IntKind.u8 n)), (1, AV.ri IntKind.u8 l), (4, AV.c (Value.slice none 0 0)), (5, AV.c (Value.int IntKind.u8 0))] []) (ps := []) (by kernel_rfl) (.nil) ?_
  refine seqK_n ?_
  refine VC.seq ?_
  refine VC.seq ?_
  refine VC.region (E := E) (C := C1) E_ok mixed (by first | exact fun _ => rfl | exact fun h => by cases h) [0, 1, 4, 5, 6, 7, 13, 14, 15, 16, 17, 18, 19, 20, 21, 22, 23, 24, 25, 26, 27, 28, 29, 30, 31, 32, 33, 34, 35, 36, 37, 38, 39, 40, 41] (st' := St.mk [(0, AV.c (Value.int IntKind.u8 n)), (1, AV.ri IntKind.u8 l), (4, AV.c (Value.slice none 0 0)), (5, AV.c (Value.int IntKind.u8 0)), (13, AV.c (Value.bool (if (n != 1) = true then n != 2 else false)))] []) (ps := [(n != (1 : Int)) = true → True, (n != (1 : Int)) = true → (n != (1 : Int)) = true ∧ True, (n != (1 : Int)) = true → (n != (1 : Int)) = true ∧ True, (n != (1 : Int)) = false → True]) (by kernel_rfl) (.cons (by exact fun _ => trivial) (.cons (by exact fun h => ⟨h, trivial⟩) (.cons (by exact fun h => ⟨h, trivial⟩) (.cons (by exact fun _ => trivial) (.nil))))) ?_
  refine seqK_n ?_
  refine VC.cond (b := if (n != 1) = true then n != 2 else false) (by kernel_rfl) (fun h1 => ?_) (fun h1 => ?_)
  ·
    simp at h1
    refine VC.seq ?_
    refine VC.region (E := E) (C := C1) E_ok mixed (by first | exact fun _ => rfl | exact fun h => by cases h) [0, 1, 4, 5, 6, 7, 14, 15, 16, 17, 18, 19, 20, 21, 22, 23, 24, 25, 26, 27, 28, 29, 30, 31, 32, 33, 34, 35, 36, 37, 38, 39, 40, 41] (st' := St.mk [(0, AV.c (Value.int IntKind.u8 n)), (1, AV.ri IntKind.u8 l), (4, AV.c (Value.slice none 0 0)), (5, AV.c (Value.int IntKind.u8 2))] []) (ps := []) (by kernel_rfl) (.nil) ?_
    refine seqK_n ?_
    refine VC.ent (Ent.sub (st' := St.mk [(0, AV.c (Value.int IntKind.u8 n)), (1, AV.ri IntKind.u8 l), (4, AV.ri IntKind.i16 []), (5, AV.c (Value.int IntKind.u8 2))] []) (All.of (l' := [(0 : Nat) = (0 : Nat), AV.c (Value.int IntKind.u8 n) = AV.c (Value.int IntKind.u8 n), (1 : Nat) = (1 : Nat), AV.ri IntKind.u8 l = AV.ri IntKind.u8 l, (4 : Nat) = (4 : Nat), @Eq (List Int) ([]) ([]), (5 : Nat) = (5 : Nat), AV.c (Value.int IntKind.u8 (2 : Int)) = AV.c (Value.int IntKind.u8 (2 : Int))]) (by kernel_rfl) (.cons (by rfl) (.cons (by rfl) (.cons (by rfl) (.cons (by rfl) (.cons (by rfl) (.cons (by rfl) (.cons (by rfl) (.cons (by rfl) (.nil))))))))))) ?_
    refine VC.ret ?_
    refine seqK_r ?_
    exact Fin.all [] (.inr rfl) (l := [AV.ri IntKind.i16 [], AV.c (Value.int IntKind.u8 2)]) (ps := []) (by kernel_rfl) (by kernel_rfl) (.nil) (All.of (l' := []) (by kernel_rfl) (.nil)) (show AV.t [AV.ri IntKind.i16 [], AV.c (Value.int IntKind.u8 2)] = AV.t [AV.ri IntKind.i16 (Sp.up n l), AV.c (Value.int IntKind.u8 (Sp.pkE n (List.length l)))] by exact Sp.up_err (Sp.upn (.inr ⟨hn, hn2⟩)) (Sp.pkE_arg ⟨hn, hn2⟩))
  ·
    simp at h1
    (exfalso; omega)
theorem con_Same (x y : List Int) (hx : x.length ≤ 1000000000) : Con Try.prog L0 25 [] [.ri .i16 x, .ri .i16 y] [] (.c (.bool (x == y))) := by
  refine con_of_vc E_ok mixed Try.func25 rfl Try.call25 (Nat.le_of_ble_eq_true rfl) ?_
  refine VC.seq ?_
  refine VC.region (E := E) (C := C1) E_ok mixed (by first | exact fun _ => rfl | exact fun h => by cases h) [0, 1, 4, 5, 6, 7, 8, 9, 10, 11, 12, 13, 14, 15, 16, 17, 18, 19, 20, 21, 22, 23, 24, 25] (st' := St.mk [(0, AV.ri IntKind.i16 x), (1, AV.ri IntKind.i16 y), (4, AV.c (Value.bool false))] []) (ps := []) (by kernel_rfl) (.nil) ?_
  refine seqK_n ?_
  refine VC.seq ?_
  refine VC.seq ?_
  refine VC.region (E := E) (C := C1) E_ok mixed (by first | exact fun _ => rfl | exact fun h => by cases h) [0, 1, 4, 5, 10, 11, 12, 13, 14, 15, 16, 17, 18, 19, 20, 21, 22, 23, 24, 25] (st' := St.mk [(0, AV.ri IntKind.i16 x), (1, AV.ri IntKind.i16 y), (4, AV.c (Value.bool false)), (10, AV.c (Value.bool ((↑(List.length x) : Int) != (↑(List.length y) : Int))))] []) (ps := []) (by kernel_rfl) (.nil) ?_
  refine seqK_n ?_
  refine VC.cond (b := (↑(List.length x) : Int) != (↑(List.length y) : Int)) (by kernel_rfl) (fun h1 => ?_) (fun h1 => ?_)
  ·
    simp at h1
    refine VC.seq ?_
    refine VC.region (E := E) (C := C1) E_ok mixed (by first | exact fun _ => rfl | exact fun h => by cases h) [0, 1, 4, 5, 11, 12, 13, 14, 15, 16, 17, 18, 19, 20, 21, 22, 23, 24, 25] (st' := St.mk [(0, AV.ri IntKind.i16 x), (1, AV.ri IntKind.i16 y), (4, AV.c (Value.bool false))] []) (ps := []) (by kernel_rfl) (.nil) ?_
    refine seqK_n ?_
    refine VC.ret ?_
    refine seqK_r ?_
    exact Fin.all [] (.inr rfl) (l := [AV.c (Value.bool false)]) (ps := []) (by kernel_rfl) (by kernel_rfl) (.nil) (All.of (l' := []) (by kernel_rfl) (.nil)) (show AV.c (Value.bool false) = AV.c (Value.bool (x == y)) by exact same_len h1)
  ·
    simp at h1
    refine VC.skip ?_
    refine seqK_n ?_
    refine VC.seq ?_
    refine VC.seq ?_
    refine VC.region (E := E) (C := C1) E_ok mixed (by first | exact fun _ => rfl | exact fun h => by cases h) [0, 1, 4, 5, 11, 12, 13, 14, 15, 16, 17, 18, 19, 20, 21, 22, 23, 24, 25] (st' := St.mk [(0, AV.ri IntKind.i16 x), (1, AV.ri IntKind.i16 y), (4, AV.c (Value.bool false)), (5, AV.c (Value.int IntKind.i64 0))] []) (ps := []) (by kernel_rfl) (.nil) ?_
    refine seqK_n ?_
    refine VC.block ?_
    refine VC.loop (Y := {j : Nat // j ≤ x.length ∧ x.take j = y.take j}) (fun j => ⟨[(0, .ri .i16 x), (1, .ri .i16 y), (5, .c (.int .i64 (j.1 : Nat)))], []⟩) (fun j => x.length - j.1) ⟨0, by simp⟩ ?_ ?_
    ·
      exact Ent.map [] (by kernel_rfl) (All.of (l' := []) (by kernel_rfl) (.nil)) (All.of (l' := [some (AV.ri IntKind.i16 x) = some (AV.ri IntKind.i16 x), some (AV.ri IntKind.i16 y) = some (AV.ri IntKind.i16 y), some (AV.c (Value.int IntKind.i64 (0 : Int))) = some (AV.c (Value.int IntKind.i64 (0 : Int)))]) (by kernel_rfl) (.cons (by with_reducible rfl) (.cons (by with_reducible rfl) (.cons (by with_reducible rfl) (.nil)))))
    intro ⟨j, hj, hxy⟩
    refine VC.seq ?_
    refine VC.seq ?_
    refine VC.region (E := E) (C := C1) E_ok mixed (by first | exact fun _ => rfl | exact fun h => by cases h) [0, 1, 4, 5, 14, 15, 16, 17, 18, 19, 20, 21, 22, 23, 24, 25] (st' := St.mk [(0, AV.ri IntKind.i16 x), (1, AV.ri IntKind.i16 y), (5, AV.c (Value.int IntKind.i64 (↑j : Int))), (14, AV.c (Value.bool (decide ((↑j : Int) < (↑(List.length x) : Int)))))] []) (ps := []) (by kernel_rfl) (.nil) ?_
    refine seqK_n ?_
    refine VC.cond (b := decide ((↑j : Int) < (↑(List.length x) : Int))) (by kernel_rfl) (fun h2 => ?_) (fun h2 => ?_)
    ·
      simp at h2
      refine VC.skip ?_
      refine seqK_n ?_
      refine VC.seq ?_
      refine VC.block ?_
      refine VC.seq ?_
      refine VC.region (E := E) (C := C1) E_ok mixed (by first | exact fun _ => rfl | exact fun h => by cases h) [0, 1, 4, 5, 15, 16, 25] (st' := St.mk [(0, AV.ri IntKind.i16 x), (1, AV.ri IntKind.i16 y), (5, AV.c (Value.int IntKind.i64 (↑j : Int))), (25, AV.c (Value.bool (List.getD x (Int.toNat (↑j : Int) * 1) 0 != List.getD y (Int.toNat (↑j : Int) * 1) 0)))] []) (ps := [(0 : Int) ≤ (↑j : Int), (↑j : Int) < (↑(List.length x) : Int), Int.toNat (↑j : Int) * (1 : Nat) < List.length x, (0 : Int) ≤ (↑j : Int), (↑j : Int) < (↑(List.length y) : Int), Int.toNat (↑j : Int) * (1 : Nat) < List.length y]) (by kernel_rfl) (.cons (by omega) (.cons (by omega) (.cons (by omega) (.cons (by omega) (.cons (by omega) (.cons (by omega) (.nil))))))) ?_
      refine seqK_n ?_
      refine VC.cond (b := List.getD x (Int.toNat (↑j : Int) * 1) 0 != List.getD y (Int.toNat (↑j : Int) * 1) 0) (by kernel_rfl) (fun h3 => ?_) (fun h3 => ?_)
      ·
        simp at h3
        refine VC.seq ?_
        refine VC.region (E := E) (C := C1) E_ok mixed (by first | exact fun _ => rfl | exact fun h => by cases h) [0, 1, 4, 5, 15, 16] (st' := St.mk [(0, AV.ri IntKind.i16 x), (1, AV.ri IntKind.i16 y), (4, AV.c (Value.bool false)), (5, AV.c (Value.int IntKind.i64 (↑j : Int)))] []) (ps := []) (by kernel_rfl) (.nil) ?_
        refine seqK_n ?_
        refine VC.ret ?_
        refine blockK_r ?_
        refine seqK_r ?_
        refine loopK_r ?_
        refine blockK_r ?_
        refine seqK_r ?_
        exact Fin.all [] (.inr rfl) (l := [AV.c (Value.bool false)]) (ps := []) (by kernel_rfl) (by kernel_rfl) (.nil) (All.of (l' := []) (by kernel_rfl) (.nil)) (show AV.c (Value.bool false) = AV.c (Value.bool (x == y)) by exact same_ne h3)
      ·
        simp at h3
        refine VC.skip ?_
        refine blockK_n ?_
        refine seqK_n ?_
        refine VC.regionE (E := E) (C := C1) E_ok mixed (by first | exact fun _ => rfl | exact fun h => by cases h) [0, 1, 4, 5] (st' := St.mk [(0, AV.ri IntKind.i16 x), (1, AV.ri IntKind.i16 y), (5, AV.c (Value.int IntKind.i64 (IntKind.wrap IntKind.i64 ((↑j : Int) + 1))))] []) (ps := []) (by kernel_rfl) (.nil) (st'' := St.mk [(0, AV.ri IntKind.i16 x), (1, AV.ri IntKind.i16 y), (5, AV.c (Value.int IntKind.i64 ((↑j : Int) + 1)))] []) (by simp (disch := omega) only [wrap_i8, wrap_i16, wrap_i32, wrap_i64, wrap_u8, wrap_u16, wrap_u32, wrap_u64, Int.tdiv_eq_ediv_of_nonneg, Int.tmod_eq_emod_of_nonneg, Int.toNat_natCast, Int.reduceToNat, Nat.mul_one, Nat.zero_add, Nat.add_zero, Nat.one_mul, Int.one_mul, Int.zero_add, Int.add_zero, Int.mul_one, List.drop_zero, List.take_length, Int.zero_sub]) ?_
        refine loopK_n (⟨j + 1, by omega, take_step h2 h1 hxy h3⟩) ?_ ?_
        ·
          exact (show List.length x - (j + 1) < List.length x - j by omega)
        ·
          exact Ent.map [] (by kernel_rfl) (All.of (l' := []) (by kernel_rfl) (.nil)) (All.of (l' := [some (AV.ri IntKind.i16 x) = some (AV.ri IntKind.i16 x), some (AV.ri IntKind.i16 y) = some (AV.ri IntKind.i16 y), some (AV.c (Value.int IntKind.i64 ((↑j : Int) + (1 : Int)))) = some (AV.c (Value.int IntKind.i64 (↑(j + (1 : Nat)) : Int)))]) (by kernel_rfl) (.cons (by with_reducible rfl) (.cons (by with_reducible rfl) (.cons (by trivial) (.nil)))))
    ·
      simp at h2
      refine VC.exit ?_
      refine seqK_x ?_
      refine loopK_x ?_
      refine blockK_x ?_
      refine seqK_n ?_
      refine VC.seq ?_
      refine VC.region (E := E) (C := C1) E_ok mixed (by first | exact fun _ => rfl | exact fun h => by cases h) [4] (st' := St.mk [(4, AV.c (Value.bool true))] []) (ps := []) (by kernel_rfl) (.nil) ?_
      refine seqK_n ?_
      refine VC.ret ?_
      exact Fin.all [] (.inr rfl) (l := [AV.c (Value.bool true)]) (ps := []) (by kernel_rfl) (by kernel_rfl) (.nil) (All.of (l' := []) (by kernel_rfl) (.nil)) (show AV.c (Value.bool true) = AV.c (Value.bool (x == y)) by exact same_end hj h2 h1 hxy)

end Go.Proofs.Ytmghbhaocfehnaa
