/-
  The executor is right (9a): 'copy'; an index into a string; a method called on an interface value.
-/
import Derived.Test.YtcnklcnehpkfaaaEvL
import Derived.Laws.CopyRow
import Derived.Laws.IdiomCopy
namespace Go.Ev
open Go Go.RowKit
set_option linter.unusedVariables false
set_option linter.unusedSimpArgs false

theorem splice_take {α : Type} (xs rest cs : List α) (o : Nat) (h : o + cs.length ≤ xs.length) : ((xs ++ rest).take o ++ cs ++ (xs ++ rest).drop (o + cs.length)).take xs.length = xs.take o ++ cs ++ xs.drop (o + cs.length) := by
  rw [List.take_append_of_le_length (l₁ := xs) (by omega), List.drop_append_of_le_length (by omega)]
  have : (xs.take o ++ cs ++ (xs.drop (o + cs.length) ++ rest)) = (xs.take o ++ cs ++ xs.drop (o + cs.length)) ++ rest := by simp
  rw [this, List.take_append_of_le_length (by simp; omega), List.take_of_length_le (by simp; omega)]

theorem ownsRow.splice {w : World} {e : TypeId} {sz : Nat} {v : Value} {n g : Nat} {xs : List Value} (hown : w.ownsRow 0 e sz v n xs) (hg : v.ownBlock = some g) {o : Nat} {cs : List Value} (h : o + cs.length ≤ xs.length) :
    ∃ cur, w.heap[g]? = some (.cells cur e (0, 0)) ∧ o + cs.length ≤ cur.size ∧ (w.setRow g (cur.toList.take o ++ cs ++ cur.toList.drop (o + cs.length)).toArray).ownsRow 0 e sz v n (xs.take o ++ cs ++ xs.drop (o + cs.length)) := by
  obtain ⟨h1, ⟨rfl, rfl⟩ | ⟨g', cap, cur, rfl, hb, hh, hn, hc, hs, ht⟩⟩ := hown
  · cases hg
  obtain rfl : g' = g := by simpa [Value.ownBlock] using hg
  have hle : xs.length ≤ cur.size := by
    have := congrArg List.length ht
    simp only [List.length_take, Array.length_toList] at this
    omega
  refine ⟨cur, hh, by omega, by simp; omega, .inr ⟨g', cap, _, rfl, hb, setRow_heap w g' cur _ e _ hh, hn, hc, ?_, ?_⟩⟩
  · simp; omega
  · have e1 : cur.toList = xs ++ cur.toList.drop xs.length := by
      have : xs = cur.toList.take xs.length := by rw [h1]; exact ht.symm
      conv => lhs; rw [← List.take_append_drop xs.length cur.toList]
      rw [← this]
    have := splice_take xs (cur.toList.drop xs.length) cs o h
    rw [← e1] at this
    rw [← h1]
    exact this

theorem flatten_take {α : Type} {sz : Nat} : ∀ (i : Nat) (l : List (List α)), (∀ c ∈ l, c.length = sz) → (l.take i).flatten = l.flatten.take (i * sz)
  | 0, l, _ => by simp
  | i + 1, [], _ => by simp
  | i + 1, c :: l, h => by
    have hc := h c (by simp)
    rw [List.take_succ_cons, List.flatten_cons, flatten_take i l (fun d hd => h d (List.mem_cons_of_mem _ hd)), List.flatten_cons, List.take_append, hc, Nat.add_mul, Nat.one_mul, show i * sz + sz - sz = i * sz from by omega, List.take_of_length_le (l := c) (by omega)]
theorem flatten_drop {α : Type} {sz : Nat} : ∀ (i : Nat) (l : List (List α)), (∀ c ∈ l, c.length = sz) → (l.drop i).flatten = l.flatten.drop (i * sz)
  | 0, l, _ => by simp
  | i + 1, [], _ => by simp
  | i + 1, c :: l, h => by
    have hc := h c (by simp)
    rw [List.drop_succ_cons, flatten_drop i l (fun d hd => h d (List.mem_cons_of_mem _ hd)), List.flatten_cons, List.drop_append, hc, Nat.add_mul, Nat.one_mul, show i * sz + sz - sz = i * sz from by omega, List.drop_of_length_le (l := c) (by omega), List.nil_append]
theorem flatten_len {α : Type} {sz : Nat} : ∀ (l : List (List α)), (∀ c ∈ l, c.length = sz) → l.flatten.length = l.length * sz
  | [], _ => by simp
  | c :: l, h => by
    rw [List.flatten_cons, List.length_append, flatten_len l (fun d hd => h d (List.mem_cons_of_mem _ hd)), h c (by simp), List.length_cons, Nat.add_mul]; omega

section
variable {P : Program} {L : Lay} {E : Env} {C : Tab} {X : Nat → Prop} {w0 : World} {F : Nat → Prop} {w : World} {ρ : Ren} {h look : Nat → HObj} {fr : Nat} {a : Act} {ev : Operand → Option AV} {o : Oper} {out : Out}

theorem grownBy_setRow {w : World} {g : Nat} {cs : Array Value} : w.grownBy (w.setRow g cs) (some g) :=
  ⟨rfl, rfl, rfl, by simp [World.setRow], fun k _ hk => setRow_other w g k cs (fun e => hk (by rw [e]))⟩

theorem run_copy_gen (w : World) (dT sT ty elem : TypeId) (g o dLen dCap : Nat) (a : Addr) (sLen sCap sz : Nat) (cur : Array Value) (t : TypeId) (cs : List Value)
    (hu : P.underlying dT = some (.slice elem)) (hs : (P.info? elem).map (·.size) = some sz)
    (hg : w.heap[g]? = some (.cells cur t (0, 0))) (hn : cs.length = Nat.min sLen dLen * sz)
    (hsrc : ∀ j v, cs[j]? = some v → w.cell? (a.add j) = some v) (hfit : o + cs.length ≤ cur.size) (h1 : ∀ v ∈ cs, v.oneCell' = true) :
    (Builtin.copy_ #[dT, sT] ty #[.slice (some ⟨g, o, none⟩) dLen dCap, .slice (some a) sLen sCap]).run P w =
      .ok (goInt (Nat.min sLen dLen)) (w.setRow g (cur.toList.take o ++ cs ++ cur.toList.drop (o + cs.length)).toArray) := by
  have hl := run_loadCells_list (P := P) w a cs hsrc
  have hst := run_storeCells_at P g o t cs 0 cur w hg (by simpa using hfit) h1
  cases hq : P.info? elem with
  | none => simp [hq] at hs
  | some i =>
    have hi : i.size = sz := by simpa [hq] using hs
    simp [Builtin.copy_, run_underlying hu, Builtin.lenOf, Builtin.firstCells, sizeOf, typeInfo, hq, hi, ← hn, hl, hst]

theorem run_copy_zero (w : World) (dT sT ty elem : TypeId) (d a : Option Addr) (dLen dCap sLen sCap sz : Nat) (hu : P.underlying dT = some (.slice elem)) (hs : (P.info? elem).map (·.size) = some sz) (hn : Nat.min sLen dLen = 0) :
    (Builtin.copy_ #[dT, sT] ty #[.slice d dLen dCap, .slice a sLen sCap]).run P w = .ok (goInt 0) w := by
  cases hq : P.info? elem with
  | none => simp [hq] at hs
  | some i =>
    have hl : ∀ a : Addr, (loadCellsFrom a 0 0 #[]).run P w = .ok #[] w := fun a => by simp [loadCellsFrom]
    cases d <;> cases a <;> simp [hl, Builtin.copy_, run_underlying hu, Builtin.lenOf, Builtin.firstCells, sizeOf, typeInfo, hq, hn, storeCells, loadCells]

theorem AR.slice_dst {n off len cap : Nat} {d : AV} {v : Value} (hd : d = .s n off len cap ∨ d = .x n off len cap) (hv : AR F w ρ d v) : ∃ lo cap', ρ n = some lo ∧ v = .slice (lo.blk.map fun b => ⟨b, off, none⟩) len cap' := by
  rcases hd with rfl | rfl
  · simp only [AR] at hv; obtain ⟨lo, h1, h2⟩ := hv; exact ⟨lo, _, h1, h2⟩
  · simp only [AR] at hv; obtain ⟨lo, h1, h2⟩ := hv; exact ⟨lo, _, h1, h2⟩

theorem sound_copy {t t' : TypeId} {d x : Operand} {dv xv : AV} {ob : Out} (G : Good P L E X w0 F w ρ h look fr a ev) (hop : o.op = .call { callee := .builtin .copy, args := #[d, x], argTypes := #[t, t'] })
    (hd : ev d = some dv) (hx : ev x = some xv) (hc : copyA E look t dv xv = some ob) (hp : All ob.os) : Sound P L X w0 F w ρ h fr a o ob := by
  simp only [copyA, Option.bind_eq_bind, Option.bind_eq_some_iff] at hc
  obtain ⟨ti, ht, hc⟩ := hc
  split at hc
  rotate_left
  · cases hc
  rename_i e hti
  simp only [Option.bind_eq_some_iff, Prod.exists] at hc
  obtain ⟨ei, hei, src, ps, hsrc, hc⟩ := hc
  obtain ⟨ud, hu, hv⟩ := G.env.under ht
  rw [hti] at hv
  obtain rfl := view_slice hv
  have hsize : (P.info? e).map (·.size) = some ei.size := by
    obtain ⟨_, ⟨i, z, h1, h2, _⟩, _⟩ := G.env e ei hei
    simp [h1, h2]
  have hexec : ∀ {v' : Value} {w' : World}, (Builtin.copy_ #[t, t'] o.type #[a.eval d, a.eval x]).run P w = .ok v' w' → (execOp a.eval o).run P w = .ok (.value v') w' := by
    intro v' w' hr
    simp [execOp, hop, resolve, invoke, builtin, hr, Result.andThen]
  have body : ∀ {n off len cap : Nat} (src : HObj), elemsA look xv = some (src, ps) → (dv = .s n off len cap ∨ dv = .x n off len cap) →
      (match look n, src with
      | .oi e' k l, .oi _ k' ls => if k = k' ∧ ei.size = 1 then some (⟨.c (.int .i64 (min ls.length len : Nat)), [(n, .oi e' k (l.take off ++ ls.take (min ls.length len) ++ l.drop (off + min ls.length len)))], [], (off + len ≤ l.length) :: ps⟩ : Out) else none
      | .oo e' sz l, .oo _ sz' ls => if sz = sz' ∧ sz = ei.size ∧ 0 < sz then some ⟨.c (.int .i64 (min ls.length len : Nat)), [(n, .oo e' sz (l.take (off / sz) ++ ls.take (min ls.length len) ++ l.drop (off / sz + min ls.length len)))], [], (off % sz = 0) :: (off / sz + len ≤ l.length) :: ps⟩ else none
      | _, _ => none) = some ob → Sound P L X w0 F w ρ h fr a o ob := by
    intro n off len cap src hsrc hdv hc
    have hda := G.ev _ _ hd
    obtain ⟨lo, cap', hn, ed⟩ := AR.slice_dst hdv hda
    split at hc
    · rename_i e' k l e'' k' ls hlk
      split at hc
      rotate_left
      · cases hc
      rename_i hk
      obtain ⟨rfl, hsz1⟩ := hk
      simp only [Option.some.injEq] at hc; subst hc
      simp only [All] at hp
      obtain ⟨hle, hps⟩ := hp
      obtain ⟨ao, m, cp, ex, hnone, hel⟩ := elemsA_sound G (G.ev _ _ hx) hsrc hps
      simp only [Elems] at hel
      obtain ⟨rfl, hcell⟩ := hel
      have hl : (look n).live := by rw [hlk]; trivial
      have hl' : (h n).live := by rw [← G.look n hl]; exact hl
      have hh : HR F w ρ n (.oi e' k l) := by rw [← hlk, G.look n hl]; exact G.mem.heap n
      by_cases hz : min ls.length len = 0
      · have hr := run_copy_zero (P := P) w t t' o.type e (lo.blk.map fun b => ⟨b, off, none⟩) ao len cap' ls.length cp ei.size hu hsize hz
        refine .value (v := goInt 0) (hexec (by rw [ed, ex]; exact hr)) (.set G.mem hl' hn (World.grownBy.refl _ _) (fun _ => ?_) (by rw [hz]; simp only [AR]; rfl))
        rw [hz]; simpa using hh
      · obtain ⟨b, sl⟩ := lo
        obtain ⟨lo', h1, hown⟩ := hh
        rw [hn] at h1; obtain rfl := Option.some.inj h1
        have hb : ∃ g, b = some g := by
          cases b with
          | some g => exact ⟨g, rfl⟩
          | none =>
            obtain ⟨_, ⟨_, h0⟩ | ⟨g, _, _, hg, _⟩⟩ := hown
            · omega
            · simp [sliceOf] at hg
        obtain ⟨g, rfl⟩ := hb
        have hlen : ((ls.take (min ls.length len)).map (Value.int k)).length = min ls.length len := by simp
        obtain ⟨cur, hg, hfit, hown'⟩ := ownsRow.splice hown (g := g) rfl (o := off) (cs := (ls.take (min ls.length len)).map (Value.int k)) (by rw [hlen]; simp; omega)
        obtain ⟨A, rfl⟩ : ∃ A, ao = some A := by
          cases ao with
          | some A => exact ⟨A, rfl⟩
          | none => have := hnone rfl; omega
        have hr := run_copy_gen (P := P) w t t' o.type e g off len cap' A ls.length cp ei.size cur e' ((ls.take (min ls.length len)).map (Value.int k)) hu hsize hg (by rw [hlen, hsz1, Nat.mul_one])
          (fun j v hj => hcell A rfl j v (by
            rw [List.getElem?_map] at hj ⊢
            rw [List.getElem?_take] at hj
            split at hj
            · exact hj
            · cases hj)) hfit (fun v hv => by
            obtain ⟨y, _, rfl⟩ := List.mem_map.1 hv; rfl)
        refine .value (v := goInt (Nat.min ls.length len)) (hexec (by rw [ed, ex]; exact hr)) (.set G.mem hl' hn grownBy_setRow (fun _ => ⟨_, hn, ?_⟩) (by simp only [AR, goInt]))
        rw [hlen] at hown' ⊢
        have e1 : (l.take off ++ ls.take (min ls.length len) ++ l.drop (off + min ls.length len)).map (Value.int k) = (l.map (Value.int k)).take off ++ (ls.take (min ls.length len)).map (Value.int k) ++ (l.map (Value.int k)).drop (off + min ls.length len) := by
          simp [List.map_take, List.map_drop]
        have e2 : (l.take off ++ ls.take (min ls.length len) ++ l.drop (off + min ls.length len)).length = l.length := by simp; omega
        rw [e1, e2]; exact hown'
    · rename_i e' sz l e'' sz' ls hlk
      split at hc
      rotate_left
      · cases hc
      rename_i hk
      obtain ⟨rfl, hsz1, hpos⟩ := hk
      simp only [Option.some.injEq] at hc; subst hc
      simp only [All] at hp
      obtain ⟨hmod, hle, hps⟩ := hp
      obtain ⟨ao, m, cp, ex, hnone, hel⟩ := elemsA_sound G (G.ev _ _ hx) hsrc hps
      simp only [Elems] at hel
      obtain ⟨rfl, hlsz, hnil, us, hus, hcell⟩ := hel
      have hl : (look n).live := by rw [hlk]; trivial
      have hl' : (h n).live := by rw [← G.look n hl]; exact hl
      have hh : HR F w ρ n (.oo e' sz l) := by rw [← hlk, G.look n hl]; exact G.mem.heap n
      have hoff : off = off / sz * sz := by
        have := Nat.div_add_mod off sz
        rw [hmod, Nat.add_zero, Nat.mul_comm] at this; exact this.symm
      by_cases hz : min ls.length len = 0
      · have hr := run_copy_zero (P := P) w t t' o.type e (lo.blk.map fun b => ⟨b, off, none⟩) ao len cap' ls.length cp ei.size hu hsize hz
        refine .value (v := goInt 0) (hexec (by rw [ed, ex]; exact hr)) (.set G.mem hl' hn (World.grownBy.refl _ _) (fun _ => ?_) (by rw [hz]; simp only [AR]; rfl))
        rw [hz]; simpa using hh
      · obtain ⟨b, sl⟩ := lo
        obtain ⟨lo', xs, h1, hown, hxs, hcl⟩ := hh
        rw [hn] at h1; obtain rfl := Option.some.inj h1
        have hb : ∃ g, b = some g := by
          cases b with
          | some g => exact ⟨g, rfl⟩
          | none =>
            obtain ⟨_, ⟨_, h0⟩ | ⟨g, _, _, hg, _⟩⟩ := hown
            · generalize off / sz = q at hle; omega
            · simp [sliceOf] at hg
        obtain ⟨g, rfl⟩ := hb
        have hxl : xs.length = l.length * sz := by rw [hxs.length]; exact flatten_len l fun c hc => (hcl c hc).1
        have hul : us.length = ls.length * sz := by rw [hus.length]; exact flatten_len ls fun c hc => (hlsz c hc).1
        have hcs : (us.take (min ls.length len * sz)).length = min ls.length len * sz := by
          rw [List.length_take, hul]
          exact Nat.min_eq_left (Nat.mul_le_mul_right _ (Nat.min_le_left _ _))
        have hfit0 : off + (us.take (min ls.length len * sz)).length ≤ xs.length := by
          rw [hcs, hxl, hoff, ← Nat.add_mul]
          exact Nat.mul_le_mul_right _ (by omega)
        obtain ⟨cur, hg, hfit, hown'⟩ := ownsRow.splice hown (g := g) rfl (o := off) (cs := us.take (min ls.length len * sz)) hfit0
        obtain ⟨A, rfl⟩ : ∃ A, ao = some A := by
          cases ao with
          | some A => exact ⟨A, rfl⟩
          | none => have := hnone rfl; omega
        have hone : ∀ v ∈ us, v.oneCell' = true := hus.one (by
          rw [List.all_eq_true]
          intro y hy
          obtain ⟨c, hc, hy⟩ := List.mem_flatten.1 hy
          exact (hlsz c hc).2 y hy)
        have hr := run_copy_gen (P := P) w t t' o.type e g off len cap' A ls.length cp ei.size cur e' (us.take (min ls.length len * sz)) hu hsize hg (by rw [hcs, hsz1])
          (fun j v hj => hcell A rfl j v (by
            rw [List.getElem?_take] at hj
            split at hj
            · exact hj
            · cases hj)) hfit (fun v hv => hone v (List.mem_of_mem_take hv))
        have hmono : ∀ k, F k → F k ∧ (w.setRow g (cur.toList.take off ++ us.take (min ls.length len * sz) ++ cur.toList.drop (off + (us.take (min ls.length len * sz)).length)).toArray).heap[k]? = w.heap[k]? := fun k hk =>
          ⟨hk, setRow_other w g k _ fun e => G.mem.notF n g hl' (by simp [blkOf, hn]) (by rw [← e]; exact hk)⟩
        refine .value (v := goInt (Nat.min ls.length len)) (hexec (by rw [ed, ex]; exact hr)) (.set G.mem hl' hn grownBy_setRow (fun _ => ⟨_, xs.take off ++ us.take (min ls.length len * sz) ++ xs.drop (off + (us.take (min ls.length len * sz)).length), hn, ?_, ?_, fun c hc => ?_⟩) (by simp only [AR]; rfl))
        · have e2 : (l.take (off / sz) ++ ls.take (min ls.length len) ++ l.drop (off / sz + min ls.length len)).length = l.length := by simp; omega
          rw [e2]; exact hown'
        · simp only [hcs] at hmono ⊢
          have f1 := flatten_take (off / sz) l fun c hc => (hcl c hc).1
          have f2 := flatten_take (min ls.length len) ls fun c hc => (hlsz c hc).1
          have f3 := flatten_drop (off / sz + min ls.length len) l fun c hc => (hcl c hc).1
          rw [← hoff] at f1
          rw [Nat.add_mul, ← hoff] at f3
          rw [List.flatten_append, List.flatten_append, f1, f2, f3]
          have g1 : ∀ (l : List AV) (vs : List Value) (m : Nat), ARL F w ρ l vs → ARL F w ρ (l.take m) (vs.take m) := fun l vs m hx => ARL.of_get (by simp [hx.length]) fun i x hi => by
            rw [List.getElem?_take] at hi
            split at hi
            · rename_i h1; obtain ⟨v, hv, hr⟩ := hx.get i x hi; exact ⟨v, by rw [List.getElem?_take, if_pos h1]; exact hv, hr⟩
            · cases hi
          have g2 : ∀ (l : List AV) (vs : List Value) (m : Nat), ARL F w ρ l vs → ARL F w ρ (l.drop m) (vs.drop m) := fun l vs m hx => ARL.of_get (by simp [hx.length]) fun i x hi => by
            rw [List.getElem?_drop] at hi; obtain ⟨v, hv, hr⟩ := hx.get _ x hi; exact ⟨v, by rw [List.getElem?_drop]; exact hv, hr⟩
          exact (((g1 _ _ off hxs).append (g1 _ _ _ hus)).append (g2 _ _ _ hxs)).mono hmono (fun _ _ h => h)
        · simp only [List.mem_append] at hc
          rcases hc with (hc | hc) | hc
          · exact hcl c (List.mem_of_mem_take hc)
          · exact hlsz c (List.mem_of_mem_take hc)
          · exact hcl c (List.mem_of_mem_drop hc)
    · cases hc
  split at hc
  · exact body src hsrc (.inl rfl) hc
  · exact body src hsrc (.inr rfl) hc
  · cases hc

theorem sound_index {t : TypeId} {x i : Operand} {ti : TyI} {s : ByteArray} {k : IntKind} {j : Int} {os : List Prop} (G : Good P L E X w0 F w ρ h look fr a ev) (hop : o.op = .index t x i) (ht : E t = some ti) (hti : ti.v = .str) (hx : ev x = some (.c (.string s))) (hi : ev i = some (.c (.int k j)))
    (h0 : 0 ≤ j) (h1 : j < s.size) : Sound P L X w0 F w ρ h fr a o ⟨.c (.int .u8 (Sp.strAt s j)), [], [], os⟩ := by
  have hxa := G.ev _ _ hx
  have hia := G.ev _ _ hi
  simp only [AR] at hxa hia
  obtain ⟨d, hu, hv⟩ := G.env.under ht
  rw [hti] at hv
  obtain rfl := view_str hv
  refine .pure G (v := .int .u8 (Sp.strAt s j)) (by simp only [execOp, hop]; refine run_v ?_; rw [hxa, hia, run_index_string w t s k j hu, dif_pos ⟨h0, h1⟩]; have hlt : j.toNat < s.data.toList.length := (by have : s.size = s.data.toList.length := rfl; omega); simp only [Sp.strAt]; rw [List.getD_eq_getElem?_getD, List.getElem?_eq_getElem hlt]; rfl) (by simp only [AR])
end
end Go.Ev
