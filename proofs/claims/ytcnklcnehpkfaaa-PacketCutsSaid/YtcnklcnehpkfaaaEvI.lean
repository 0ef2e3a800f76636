/-
  The executor is right, operation by operation (6): make, append, slices, conversions, builtins.
-/
import Derived.Test.YtcnklcnehpkfaaaEvH
namespace Go.Ev
open Go Go.RowKit
set_option linter.unusedVariables false
set_option linter.unusedSimpArgs false

/-- The elements behind an address. -/
def Elems (F : Nat → Prop) (w : World) (ρ : Ren) (ao : Option Addr) (len : Nat) : HObj → Prop
  | .oi _ k l => len = l.length ∧ ∀ A, ao = some A → ∀ (j : Nat) (u : Value), (l.map (Value.int k))[j]? = some u → w.cell? (A.add j) = some u
  | .oo _ sz l => len = l.length ∧ (∀ c ∈ l, c.length = sz ∧ ∀ x ∈ c, x.one = true) ∧ (ao = none → l = []) ∧ (∃ us, ARL F w ρ l.flatten us ∧ ∀ A, ao = some A → ∀ (j : Nat) (u : Value), us[j]? = some u → w.cell? (A.add j) = some u)
  | .dead => False

section
variable {P : Program} {L : Lay} {E : Env} {C : Tab} {X : Nat → Prop} {w0 : World} {F : Nat → Prop} {w : World} {ρ : Ren} {h look : Nat → HObj} {fr : Nat} {a : Act} {ev : Operand → Option AV} {o : Oper} {out : Out}

theorem sound_unOp {op : UnOp} {t : TypeId} {x : Operand} {y z : AV} (G : Good P L E X w0 F w ρ h look fr a ev) (hop : o.op = .unOp op t x) (hx : ev x = some y)
    (hz : (∃ k n, op = .neg ∧ y = .c (.int k n) ∧ z = .c (.int k (k.wrap (0 - n)))) ∨ (∃ b, op = .not ∧ y = .c (.bool b) ∧ z = .c (.bool (!b))) ∨ (∃ k n, op = .xor ∧ y = .c (.int k n) ∧ z = .c (.int k (ixor k (if k.signed then -1 else k.max) n)))) :
    Sound P L X w0 F w ρ h fr a o ⟨z, [], [], []⟩ := by
  have hxa := G.ev _ _ hx
  rcases hz with ⟨k, n, rfl, rfl, rfl⟩ | ⟨b, rfl, rfl, rfl⟩ | ⟨k, n, rfl, rfl, rfl⟩ <;> simp only [AR] at hxa
  · exact .pure G (by simp only [execOp, hop]; exact run_v (v := .int k (k.wrap (0 - n))) (by rw [hxa]; rfl)) (by simp only [AR])
  · exact .pure G (by simp only [execOp, hop]; exact run_v (v := .bool (!b)) (by rw [hxa]; rfl)) (by simp only [AR])
  · exact .pure G (by simp only [execOp, hop]; exact run_v (v := .int k (ixor k (if k.signed then -1 else k.max) n)) (by rw [hxa]; rfl)) (by simp only [AR])

theorem sound_makeInterface {t : TypeId} {x : Operand} {y : AV} {ti : TyI} (G : Good P L E X w0 F w ρ h look fr a ev) (hop : o.op = .makeInterface t x) (ht : E t = some ti) (hti : ti.v ≠ .iface) (hx : ev x = some y) :
    Sound P L X w0 F w ρ h fr a o ⟨.i t y, [], [], []⟩ := by
  obtain ⟨d, hu, hv⟩ := G.env.under ht
  refine .pure G (v := .iface t (a.eval x)) (by
    simp only [execOp, hop]; refine run_v ?_
    have hd : ∀ m, d ≠ .interface m := fun m e => by subst e; exact hti hv.symm
    simp only [Instr.makeInterface, Sem.run_bind, run_underlying hu, Result.andThen_ok, Sem.run_pure]) ?_
  simp only [AR]; exact ⟨_, rfl, G.ev _ _ hx⟩

theorem sound_makeFunc {f : FuncId} {cap : Array Operand} {l : List AV} {first : Array Operand} (G : Good P L E X w0 F w ρ h look fr a ev) (hop : o.op = .makeFunc (.func f) first cap) (hf : first.size = 0) (hl : mapM' ev cap.toList = some l) :
    Sound P L X w0 F w ρ h fr a o ⟨.f f l, [], [], []⟩ := by
  have hf' : first = #[] := Array.eq_empty_of_size_eq_zero hf
  subst hf'
  refine .pure G (v := .func (.func f) #[] (cap.map a.eval)) (by simp only [execOp, hop]; exact run_v (by simp [Instr.makeFunc])) ?_
  simp only [AR]; exact ⟨_, rfl, by simpa using G.evs hl⟩

theorem sound_nilCheck {x : Operand} {y : AV} (G : Good P L E X w0 F w ρ h look fr a ev) (hop : o.op = .nilCheck x) (hx : ev x = some y) (hy : (∃ n off, y = .p n off) ∨ (∃ f l, y = .f f l) ∨ (∃ t v, y = .i t v)) :
    Sound P L X w0 F w ρ h fr a o ⟨y, [], [], []⟩ := by
  have hxa := G.ev _ _ hx
  refine .pure G (v := a.eval x) ?_ hxa
  rcases hy with ⟨n, off, rfl⟩ | ⟨f, l, rfl⟩ | ⟨t, v, rfl⟩ <;> simp only [AR] at hxa
  · obtain ⟨b, sl, _, e⟩ := hxa; simp [execOp, hop, e]
  · obtain ⟨vs, e, _⟩ := hxa; simp [execOp, hop, e]
  · obtain ⟨u, e, _⟩ := hxa; simp [execOp, hop, e]

theorem sound_convInt {s d : TypeId} {x : Operand} {k k' : IntKind} {n : Int} {si di : TyI} (G : Good P L E X w0 F w ρ h look fr a ev) (hop : o.op = .convert s d x) (hs : E s = some si) (hd : E d = some di) (hdi : di.v = .int k) (hx : ev x = some (.c (.int k' n))) :
    Sound P L X w0 F w ρ h fr a o ⟨.c (.int k (k.wrap n)), [], [], []⟩ := by
  have hxa := G.ev _ _ hx
  simp only [AR] at hxa
  obtain ⟨sd, hsu, _⟩ := G.env.under hs
  obtain ⟨dd, hdu, hdv⟩ := G.env.under hd
  rw [hdi] at hdv
  obtain rfl := view_int hdv
  refine .pure G (v := .int k (k.wrap n)) (by simp only [execOp, hop]; refine run_v ?_; rw [hxa]; simp [convert, run_underlying hsu, run_underlying hdu, Conv.intToInt, Result.andThen]) (by simp only [AR])

theorem sound_convStr {s d : TypeId} {x : Operand} {b : ByteArray} {si di : TyI} (G : Good P L E X w0 F w ρ h look fr a ev) (hop : o.op = .convert s d x) (hs : E s = some si) (hd : E d = some di) (hdi : di.v = .str) (hx : ev x = some (.c (.string b))) :
    Sound P L X w0 F w ρ h fr a o ⟨.c (.string b), [], [], []⟩ := by
  have hxa := G.ev _ _ hx
  simp only [AR] at hxa
  obtain ⟨sd, hsu, _⟩ := G.env.under hs
  obtain ⟨dd, hdu, hdv⟩ := G.env.under hd
  rw [hdi] at hdv
  obtain rfl := view_str hdv
  refine .pure G (v := .string b) (by simp only [execOp, hop]; refine run_v ?_; rw [hxa]; simp [convert, run_underlying hsu, run_underlying hdu, Result.andThen]) (by simp only [AR])

theorem bstr_fold : ∀ (l : List Int) (r : ByteArray), l.foldl (fun r n => r.push (UInt8.ofNat n.toNat)) r = r ++ bstr l
  | [], r => by
    have : bstr [] = ByteArray.empty := rfl
    simp [this]
  | x :: l, r => by
    rw [List.foldl_cons, bstr_fold l]
    apply ByteArray.ext
    simp [bstr, ByteArray.push]

/-- The elements of a slice value as they lie in memory. -/
theorem own {n off len cap : Nat} {lo : Loc} {v : Value} {ob : HObj} {ps : List Prop} (hlive : ∀ n, (look n).live → HR F w ρ n (look n)) (hn : ρ n = some lo) (e : v = .slice (lo.blk.map fun b => ⟨b, off, none⟩) len cap)
    (he : (match look n with
      | .oi e k l => some (HObj.oi e k ((l.drop off).take len), [off + len ≤ l.length])
      | .oo e sz l => some (HObj.oo e sz ((l.drop (off / sz)).take len), [off % sz = 0, off / sz + len ≤ l.length, 0 < len])
      | .dead => none) = some (ob, ps)) (hp : All ps) :
    ∃ ao len cap, v = .slice ao len cap ∧ (ao = none → len = 0) ∧
      Elems F w ρ ao len ob := by
  cases hx : look n with
  | dead => rw [hx] at he; cases he
  | oi e' k l =>
    rw [hx] at he
    simp only [Option.some.injEq, Prod.mk.injEq] at he
    obtain ⟨rfl, rfl⟩ := he
    have hle : off + len ≤ l.length := hp.1
    have hh := hlive n (by rw [hx]; trivial)
    rw [hx] at hh
    obtain ⟨lb, ls⟩ := lo
    refine ⟨_, _, _, e, fun hnone => ?_, by simp; omega, fun A hA j u hu => ?_⟩
    · simp only [Option.map_eq_none_iff] at hnone
      subst hnone
      obtain ⟨lo', h1, h2⟩ := hh
      rw [hn] at h1; obtain rfl := Option.some.inj h1
      rcases h2.2 with ⟨_, h6⟩ | ⟨g, cp, cur, h6, _⟩
      · omega
      · simp [sliceOf] at h6
    · simp only [Option.map_eq_some_iff] at hA
      obtain ⟨b, rfl, rfl⟩ := hA
      have h2 := hh.oi_at hn
      simp only [List.getElem?_map, Option.map_eq_some_iff, List.getElem?_take] at hu
      obtain ⟨x, hx', rfl⟩ := hu
      split at hx'
      · rename_i hj
        rw [List.getElem?_drop] at hx'
        rw [Addr.add_lit, h2.cellAt _ (by omega)]; simp [hx']
      · cases hx'
  | oo e' sz l =>
    rw [hx] at he
    simp only [Option.some.injEq, Prod.mk.injEq] at he
    obtain ⟨rfl, rfl⟩ := he
    obtain ⟨hmod, hle, hpos, _⟩ := hp
    have hh := hlive n (by rw [hx]; trivial)
    rw [hx] at hh
    obtain ⟨lb, ls⟩ := lo
    have hlb : ∃ b, lb = some b := by
      cases lb with
      | some b => exact ⟨b, rfl⟩
      | none =>
        obtain ⟨lo', xs, h1, h2, _⟩ := hh
        rw [hn] at h1; obtain rfl := Option.some.inj h1
        rcases h2.2 with ⟨_, h6⟩ | ⟨g, cp, cur, h6, _⟩
        · have := Nat.zero_le (off / sz); omega
        · simp [sliceOf] at h6
    obtain ⟨b, rfl⟩ := hlb
    obtain ⟨xs, h2, h3, h4⟩ := hh.oo_at hn
    have hsub : ∀ c ∈ (l.drop (off / sz)).take len, c ∈ l := fun c hc => List.mem_of_mem_drop (List.mem_of_mem_take hc)
    have hoff : off = off / sz * sz := by rw [Nat.mul_comm]; have := Nat.div_add_mod off sz; omega
    refine ⟨_, _, _, e, fun hnone => by simp at hnone, by simp; omega, fun c hc => h4 c (hsub c hc), fun hnone => by simp at hnone, (xs.drop off).take (len * sz), ?_, fun A hA j u hu => ?_⟩
    · have hfl : ((l.drop (off / sz)).take len).flatten = (l.flatten.drop off).take (len * sz) := by
        have hd : ∀ (k : Nat) (l : List (List AV)), (∀ c ∈ l, c.length = sz) → (l.drop k).flatten = l.flatten.drop (k * sz) := by
          intro k
          induction k with
          | zero => simp
          | succ k ih =>
            intro l hl
            cases l with
            | nil => simp
            | cons c l =>
              rw [List.drop_succ_cons, ih l (fun d hd => hl d (List.mem_cons_of_mem _ hd)), List.flatten_cons, List.drop_append, Nat.add_mul, hl c (by simp)]
              have : c.drop (k * sz + 1 * sz) = [] := List.drop_of_length_le (by rw [hl c (by simp)]; omega)
              rw [this, List.nil_append]; congr 1; omega
        have ht : ∀ (k : Nat) (l : List (List AV)), (∀ c ∈ l, c.length = sz) → (l.take k).flatten = l.flatten.take (k * sz) := by
          intro k
          induction k with
          | zero => simp
          | succ k ih =>
            intro l hl
            cases l with
            | nil => simp
            | cons c l =>
              rw [List.take_succ_cons, List.flatten_cons, ih l (fun d hd => hl d (List.mem_cons_of_mem _ hd)), List.flatten_cons, List.take_append, Nat.add_mul, hl c (by simp)]
              have : c.take (k * sz + 1 * sz) = c := List.take_of_length_le (by rw [hl c (by simp)]; omega)
              rw [this]; congr 2; omega
        rw [ht _ _ (fun c hc => (h4 c (List.mem_of_mem_drop hc)).1), hd _ _ (fun c hc => (h4 c hc).1), ← hoff]
      rw [hfl]
      exact (h3.drop off).take _
    · simp only [Option.map_some, Option.some.injEq] at hA
      subst hA
      rw [List.getElem?_take] at hu
      split at hu
      · rename_i hj
        rw [List.getElem?_drop] at hu
        rw [Addr.add_lit, h2.cellAt _ (by
          have : (off / sz + len) * sz ≤ l.length * sz := Nat.mul_le_mul_right _ hle
          rw [Nat.add_mul] at this; omega)]
        exact hu
      · cases hu

theorem elemsA_sound (G : Good P L E X w0 F w ρ h look fr a ev) {y : AV} {v : Value} {ob : HObj} {ps : List Prop} (hy : AR F w ρ y v) (he : elemsA look y = some (ob, ps)) (hp : All ps) :
    ∃ ao len cap, v = .slice ao len cap ∧ (ao = none → len = 0) ∧
      Elems F w ρ ao len ob := by
  have hlive : ∀ n, (look n).live → HR F w ρ n (look n) := fun n hl => by rw [G.look n hl]; exact G.mem.heap n
  unfold elemsA at he
  split at he
  · simp only [Option.some.injEq, Prod.mk.injEq] at he
    obtain ⟨rfl, rfl⟩ := he
    simp only [AR] at hy
    exact ⟨none, 0, 0, hy, fun _ => rfl, rfl, (by simp), (fun _ => rfl), [], (by simp [ARL]), (by simp)⟩
  · rename_i k l
    simp only [Option.some.injEq, Prod.mk.injEq] at he
    obtain ⟨rfl, rfl⟩ := he
    simp only [AR] at hy
    obtain ⟨ao, cap, e1, e2, e3, e4, e5⟩ := hy
    refine ⟨ao, l.length, cap, e1, fun hn => ?_, rfl, fun A hA j u hu => ?_⟩
    · have := e4 hn; omega
    · simp only [List.getElem?_map, Option.map_eq_some_iff] at hu
      obtain ⟨x, hx, rfl⟩ := hu
      obtain ⟨ad, h1, _, h3⟩ := e5 j x hx
      rw [hA] at h1; obtain rfl := Option.some.inj h1
      exact h3
  · rename_i sz l
    simp only [Option.some.injEq, Prod.mk.injEq] at he
    obtain ⟨rfl, rfl⟩ := he
    simp only [AR] at hy
    obtain ⟨ao, cap, e1, e2, e3, e4, e5⟩ := hy
    have hl0 : ao = none → l = [] := fun hn => List.eq_nil_of_length_eq_zero (by have := e4 hn; omega)
    refine ⟨ao, l.length, cap, e1, fun hn => by simp [hl0 hn], rfl, fun c hc => ?_, hl0, ?_⟩
    · obtain ⟨i, hi, rfl⟩ := List.getElem_of_mem hc
      obtain ⟨ad, _, _, h3, h4⟩ := e5.get i _ (List.getElem?_eq_getElem hi)
      refine ⟨h3, fun x hx => ?_⟩
      obtain ⟨j, hj, rfl⟩ := List.getElem_of_mem hx
      exact (h4.get j _ (List.getElem?_eq_getElem hj)).1
    · cases ao with
      | none => rw [hl0 rfl]; exact ⟨[], by simp [ARL], by simp⟩
      | some A =>
        have : ∀ (i : Nat) (l : List (List AV)), ARR F w ρ (some A) sz i l → ∃ us, ARL F w ρ l.flatten us ∧ ∀ j u, us[j]? = some u → w.cell? (A.add (i * sz + j)) = some u := by
          intro i l
          induction l generalizing i with
          | nil => exact fun _ => ⟨[], by simp [ARL], by simp⟩
          | cons c l ih =>
            intro hr
            simp only [ARR] at hr
            obtain ⟨⟨ad, h1, _, h3, h4⟩, h5⟩ := hr
            obtain rfl := Option.some.inj h1
            obtain ⟨us, h6, h7⟩ := ih (i + 1) h5
            have hc : ∃ vs, ARL F w ρ c vs ∧ ∀ (j : Nat) (u : Value), vs[j]? = some u → w.cell? (A.add (i * sz + j)) = some u := by
              clear h3 h5 h6 h7 ih
              generalize i * sz = k at h4
              induction c generalizing k with
              | nil => exact ⟨[], by simp [ARL], by simp⟩
              | cons x c ih =>
                simp only [ARC] at h4
                obtain ⟨⟨_, v, hv, hav⟩, h4⟩ := h4
                obtain ⟨vs, g1, g2⟩ := ih (k + 1) h4
                refine ⟨v :: vs, by simp only [ARL]; exact ⟨v, vs, rfl, hav, g1⟩, fun j u hu => ?_⟩
                cases j with
                | zero => simp at hu; subst hu; exact hv
                | succ j => simp at hu; have := g2 j u hu; rwa [show k + 1 + j = k + (j + 1) from by omega] at this
            obtain ⟨vs, g1, g2⟩ := hc
            refine ⟨vs ++ us, by simpa using g1.append h6, fun j u hu => ?_⟩
            by_cases hj : j < vs.length
            · rw [List.getElem?_append_left hj] at hu; exact g2 j u hu
            · rw [List.getElem?_append_right (by omega)] at hu
              have hvl := g1.length
              have := h7 _ u hu
              rwa [show (i + 1) * sz + (j - vs.length) = i * sz + j from by rw [Nat.add_mul]; omega] at this
        obtain ⟨us, h1, h2⟩ := this 0 l (ARR.mono (fun b hb => ⟨hb, rfl⟩) (fun _ _ h => by cases h) _ _ _ _ e5)
        refine ⟨us, h1, fun A' hA => ?_⟩
        obtain rfl := Option.some.inj hA
        intro j u hu
        have := h2 j u hu
        simpa using this
  · rename_i n off len cap
    simp only [AR] at hy
    obtain ⟨lo, hn, e⟩ := hy
    exact own hlive hn e he hp
  · rename_i n off len cap
    simp only [AR] at hy
    obtain ⟨lo, hn, e⟩ := hy
    exact own hlive hn e he hp
  · cases he

theorem sound_convBytes {s d e : TypeId} {x : Operand} {y : AV} {e' : TypeId} {l : List Int} {ob : HObj} {ps : List Prop} {si di ei : TyI} (G : Good P L E X w0 F w ρ h look fr a ev) (hop : o.op = .convert s d x) (hs : E s = some si) (hsi : si.v = .slice e) (hd : E d = some di) (hdi : di.v = .str)
    (hei : E e = some ei) (hev : ei.v = .int .u8) (hx : ev x = some y) (he : elemsA look y = some (ob, ps)) (hob : ob = .oi e' .u8 l ∨ (ob = .oo e' 0 [] ∧ l = [])) (hp : All ps) :
    Sound P L X w0 F w ρ h fr a o ⟨.c (.string (bstr l)), [], [], ps⟩ := by
  obtain ⟨sd, hsu, hsv⟩ := G.env.under hs
  obtain ⟨dd, hdu, hdv⟩ := G.env.under hd
  obtain ⟨ed, heu, hevv⟩ := G.env.under hei
  rw [hdi] at hdv; rw [hsi] at hsv; rw [hev] at hevv
  obtain rfl := view_str hdv
  obtain rfl := view_slice hsv
  obtain rfl := view_int hevv
  obtain ⟨ao, len, cap, e1, e2, e3⟩ := elemsA_sound G (G.ev _ _ hx) he hp
  have hlen : len = l.length ∧ ∀ A, ao = some A → ∀ (j : Nat) (u : Value), (l.map (Value.int .u8))[j]? = some u → w.cell? (A.add j) = some u := by
    rcases hob with rfl | ⟨rfl, rfl⟩
    · exact e3
    · exact ⟨e3.1, by simp⟩
  obtain ⟨hlen, hcell⟩ := hlen
  have hr : (Conv.bytesToString (.slice ao len cap)).run P w = .ok (.string (bstr l)) w := by
    cases ao with
    | none =>
      have : l = [] := List.eq_nil_of_length_eq_zero (by have := e2 rfl; omega)
      subst this
      simp [Conv.bytesToString, bstr]; rfl
    | some A =>
      have r := run_loadCells_list (P := P) w A (l.map (Value.int .u8)) (hcell A rfl)
      rw [List.length_map, ← hlen] at r
      rw [run_bytesToString w A len cap l r, bstr_fold]
      congr 2
  refine .pure G (v := .string (bstr l)) (by
    simp only [execOp, hop]; refine run_v ?_; rw [e1]
    simp only [convert, Sem.run_bind, run_underlying hsu, run_underlying hdu, Result.andThen_ok, run_underlying heu]
    exact hr) (by simp only [AR])

theorem append_run (hE : EnvOK P E) {t e : TypeId} {ei : TyI} {n m cap : Nat} {v : Value} {xs news : List Value} {ao : Option Addr} {ty : TypeId} (hu : P.underlying t = some (.slice e)) (hei : E e = some ei) (hsz : 0 < ei.size)
    (hown : w.ownsRow 0 e ei.size v n xs) (hl : news.length = m * ei.size) (hnews : ∀ A, ao = some A → ∀ j u, news[j]? = some u → w.cell? (A.add j) = some u) (h1 : ∀ u ∈ news, u.oneCell' = true) (hnone : ao = none → m = 0)
    (h63 : n + m ≤ maxLen) (hb : (n + m) * ei.bytes ≤ 140737488355328) :
    ∃ v' w', (Builtin.append_ #[t, t] ty #[v, .slice ao m cap]).run P w = .ok v' w' ∧ w'.ownsRow 0 e ei.size v' (n + m) (xs ++ news) ∧ w.grownBy w' v.ownBlock ∧ (∀ g, v'.ownBlock = some g → w.heap.size ≤ g ∨ v.ownBlock = some g) := by
  obtain ⟨i, z, hi, hs, hby, hz, hzc⟩ := (hE e ei hei).2.1
  have hzl : z.cells.size = ei.size := by rw [← (hE e ei hei).2.2.1, ← hzc]; simp
  cases ao with
  | none =>
    have hm : m = 0 := hnone rfl
    subst hm
    have hn : news = [] := List.eq_nil_of_length_eq_zero (by simpa using hl)
    subst hn
    refine ⟨v, w, ?_, by simpa using hown, World.grownBy.refl _ _, fun g hg => .inr hg⟩
    rcases hown.2 with ⟨rfl, rfl⟩ | ⟨g, cp, cur, rfl, _, _, hnc, _⟩
    · simp [Builtin.append_, run_underlying hu, Go.sizeOf, typeInfo, hi, Builtin.lenOf, Builtin.firstCells]
    · simp [Builtin.append_, run_underlying hu, Go.sizeOf, typeInfo, hi, Builtin.lenOf, Builtin.firstCells, hnc, storeCells]
  | some A =>
    rcases hown.2 with ⟨rfl, rfl⟩ | ⟨g, cp, cur, rfl, hg0, hg, hnc, hcm, hcs, htake⟩
    · have hx0 : xs = [] := List.eq_nil_of_length_eq_zero (by have := hown.1; simpa using this)
      subst hx0
      obtain ⟨v', w', r1, r2, r3, _⟩ := run_append_own (P := P) w w.heap.size t ty e i z ei.size ei.bytes hu hi hz hs hby hzl hsz (.slice none 0 0) 0 [] (World.ownsRow_nil _ _ _ _) A m cap news hl (hnews A rfl) h1 h63 hb (Nat.le_refl _)
      refine ⟨v', w', r1, ⟨r2.1, r2.2.imp id fun ⟨g, cp, cur, h1, h2, h3⟩ => ⟨g, cp, cur, h1, Nat.zero_le _, h3⟩⟩, r3, fun g hg => .inl (r2.lt g hg).1⟩
    · by_cases hroom : n + m ≤ cp
      · obtain ⟨w', r1, r2, r3⟩ := run_append_fits (P := P) w 0 t ty e i ei.size hu hi hs g n cp xs ⟨hown.1, .inr ⟨g, cp, cur, rfl, hg0, hg, hnc, hcm, hcs, htake⟩⟩ A m cap news hl (hnews A rfl) h1 hroom
        exact ⟨_, w', r1, r2, r3, fun g' hg' => .inr hg'⟩
      · obtain ⟨v', w', r1, r2, r3⟩ := run_append_arg_grows (P := P) w t ty e i z ei.size ei.bytes hu hi hz hs hby hzl hsz ⟨g, 0, none⟩ n cp xs hown.1
          (fun j u hu' => by
            have hlt : j < n * ei.size := by rw [← hown.1]; exact (List.getElem?_eq_some_iff.1 hu').1
            have := World.ownsRow.cellAt (w := w) (base := 0) (e := e) (size := ei.size) (g := g) (n := n) (cap := cp) (xs := xs) ⟨hown.1, .inr ⟨g, cp, cur, rfl, hg0, hg, hnc, hcm, hcs, htake⟩⟩ j hlt
            rw [Addr.add_lit, Nat.zero_add, this]; exact hu') A m cap news hl (hnews A rfl) (by omega) h63 hb
        refine ⟨v', w', r1, ⟨r2.1, r2.2.imp id fun ⟨g, cp, cur, h1, h2, h3⟩ => ⟨g, cp, cur, h1, Nat.zero_le _, h3⟩⟩, ⟨r3.os, r3.tape, r3.output, r3.size, fun k hk _ => r3.block k hk (by simp)⟩, fun g' hg' => .inl (r2.lt g' hg').1⟩

/-- A row's place, out of its value. -/
theorem own_loc {w : World} {e : TypeId} {sz : Nat} {v : Value} {n : Nat} {xs : List Value} (hown : w.ownsRow 0 e sz v n xs) : ∃ lo : Loc, v = sliceOf lo n ∧ v.ownBlock = lo.blk := by
  rcases hown.2 with ⟨rfl, rfl⟩ | ⟨g, cp, cur, rfl, _, _, hnc, _⟩
  · exact ⟨⟨none, 0⟩, rfl, rfl⟩
  · exact ⟨⟨some g, cp - n⟩, by simp [sliceOf]; omega, rfl⟩

theorem AR.slice_of {ρ' : Ren} {lo : Loc} {n m : Nat} (hn : ρ' m = some lo) : AR F w ρ' (.s m 0 n n) (sliceOf lo n) := by
  simp only [AR]; exact ⟨lo, hn, rfl⟩
end
end Go.Ev
