/-
  A part of the walk: contracts of functions, each proved once.
-/
import Derived.Test.YtgkeopjnfkgpbaaEvRun
import Derived.Test.YtgkeopjnfkgpbaaK26O
namespace Go.Proofs.Ytgkeopjnfkgpbaa
open Go Go.Ev
set_option linter.unusedVariables false
set_option linter.unusedSimpArgs false
set_option maxRecDepth 20000
namespace Sp
def sg (b : List Int) (i n : Nat) : List Int := (List.range n).map fun m => bt b (i + m)
theorem sg_add (b : List Int) (i m n : Nat) : sg b i (m + n) = sg b i m ++ sg b (i + m) n := by
  simp only [sg, List.range_add, List.map_append, List.map_map]
  congr 1
  apply List.map_congr_left
  intro x _
  show bt b (i + (m + x)) = bt b (i + m + x)
  rw [Nat.add_assoc]
theorem sg_take {b : List Int} {n : Nat} (h : n ≤ b.length) : sg b 0 n = b.take n := by
  have := seg b (i := 0) (k := n) (n := n) (by omega) h
  rw [List.drop_zero] at this
  exact this.symm
theorem b4_v4 {b : List Int} (hb : ∀ x ∈ b, 0 ≤ x ∧ x ≤ 255) (i : Nat) : b4 (v4 b i) = sg b i 4 := by
  have h0 := bt_range hb i
  have h1 := bt_range hb (i + 1)
  have h2 := bt_range hb (i + 2)
  have h3 := bt_range hb (i + 3)
  simp only [b4, v4, sg, List.range_succ, List.range_zero, List.nil_append, List.cons_append, List.map_cons, List.map_nil, Nat.add_zero, List.cons.injEq, and_true]
  omega
theorem b3_v3 {b : List Int} (hb : ∀ x ∈ b, 0 ≤ x ∧ x ≤ 255) (i : Nat) : b3 (sx (v3 b i) % 16777216) = sg b i 3 := by
  have h0 := bt_range hb i
  have h1 := bt_range hb (i + 1)
  have h2 := bt_range hb (i + 2)
  have e : sx (v3 b i) % 16777216 = v3 b i := by
    have := v3_rng hb i
    simp only [sx]; split <;> omega
  rw [e]
  simp only [b3, v3, sg, List.range_succ, List.range_zero, List.nil_append, List.cons_append, List.map_cons, List.map_nil, Nat.add_zero, List.cons.injEq, and_true]
  omega
theorem b8_v8 {b : List Int} (hb : ∀ x ∈ b, 0 ≤ x ∧ x ≤ 255) : b8 (v8 b 8) = sg b 8 8 := by
  have h1 := v4_rng hb 8
  have h2 := v4_rng hb 12
  have e1 : v8 b 8 / 4294967296 = v4 b 8 := by simp only [v8, show 8 + 4 = 12 from rfl]; omega
  have e2 : v8 b 8 % 4294967296 = v4 b 12 := by simp only [v8, show 8 + 4 = 12 from rfl]; omega
  rw [b8, e1, e2, b4_v4 hb, b4_v4 hb]
  exact (sg_add b 8 4 4).symm
theorem blkB_blk {b : List Int} (hb : ∀ x ∈ b, 0 ≤ x ∧ x ≤ 255) (p : Nat) : blkB (blk b p) = sg b p 24 := by
  simp only [blkB, blk]
  rw [b4_v4 hb, b3_v3 hb, b4_v4 hb, b4_v4 hb, b4_v4 hb, b4_v4 hb]
  rw [show (24 : Nat) = 4 + (1 + (3 + (4 + (4 + (4 + 4))))) from rfl, sg_add, sg_add, sg_add, sg_add, sg_add, sg_add]
  rfl
theorem blks_flat {b : List Int} (hb : ∀ x ∈ b, 0 ≤ x ∧ x ≤ 255) : ∀ n, (blks b n).flatMap blkB = sg b (base b) (24 * n)
  | 0 => by simp [blks, sg]
  | n + 1 => by
    rw [blks_succ, List.flatMap_append, blks_flat hb n, show 24 * (n + 1) = 24 * n + 24 by omega, sg_add]
    simp [blkB_blk hb]
theorem dE_facts {b : List Int} (h : dE b = 0) : 4 ≤ b.length ∧ bt b 0 / 32 = 4 ∧ (bt b 1 = 200 ∨ bt b 1 = 201) ∧ v2 b 2 = dZ b / 4 - 1 ∧ dZ b ≤ b.length := by
  simp only [dE] at h
  split at h
  · cases h
  · split at h
    · cases h
    · split at h
      · cases h
      · split at h
        · cases h
        · split at h
          · cases h
          · omega
theorem sx_rng {n : Int} (h : 0 ≤ n ∧ n ≤ 16777215) : -8388608 ≤ sx n ∧ sx n ≤ 8388607 := by simp only [sx]; split <;> omega
theorem blks_lost {b : List Int} (hb : ∀ x ∈ b, 0 ≤ x ∧ x ≤ 255) (n : Nat) : (blks b n).all lostB = true := by
  rw [List.all_eq_true]
  intro x hx
  simp only [blks, List.mem_map] at hx
  obtain ⟨i, _, rfl⟩ := hx
  have := sx_rng (v3_rng hb (base b + 24 * i + 5))
  exact lostB_t this.2 this.1
/-- What is decoded is encoded back. -/
theorem back2 {b : List Int} (hb : ∀ x ∈ b, 0 ≤ x ∧ x ≤ 255) (h : dE b = 0) : chk (dR b) = 0 ∧ bytes (dR b) = b.take (dN b).toNat := by
  obtain ⟨h1, h2, h3, h4, h5⟩ := dE_facts h
  have hN := (dN_pos h).1
  have hM := dM_rng hb
  have hZ := dZ_eq hb
  have h0 := bt_range hb 0
  have hb2 := bt_range hb 2
  have hb3 := bt_range hb 3
  have hv : v2 b 2 = bt b 2 * 256 + bt b 3 := rfl
  have ebl : (dR b).bl = blks b (dM b) := by rw [dR_ok h]
  have elen : (dR b).bl.length = dM b := by rw [ebl, blks_len]
  have esnd : (dR b).snd = dS b := by rw [dR_ok h]; simp only [dF]; split <;> simp_all
  refine ⟨chk0 (by omega) (by rw [ebl]; exact blks_lost hb _) ?_, ?_⟩
  · by_cases hs : dS b = true
    · exact .inl (by rw [esnd, hs])
    · right; rw [dR_ok h, dF_F (by simpa using hs)]; exact ⟨rfl, rfl, rfl, rfl⟩
  · have hz2 : size (dR b).snd ((dR b).bl.length : Int) = dZ b := by rw [esnd, elen]; rfl
    have hsrc : (dR b).src = v4 b 4 := by rw [dR_ok h]; simp only [dF]; split <;> rfl
    have ehead : head (dR b) = sg b 0 8 := by
      have e4 := b4_v4 hb 4
      have hz3 : size (dS b) (dM b : Int) = dZ b := rfl
      simp only [head, hsrc, e4, esnd, elen, hz3]
      have : sg b 0 8 = bt b 0 :: bt b 1 :: ([bt b 2, bt b 3] ++ sg b 4 4) := by rw [show (8 : Nat) = 4 + 4 from rfl, sg_add]; rfl
      rw [this]
      have k : (if dS b = true then (200 : Int) else 201) = bt b 1 := by
        by_cases hs : bt b 1 = 200
        · rw [dS_t hs, if_pos rfl, hs]
        · rw [dS_f hs, if_neg (by simp)]; omega
      rw [k]
      simp only [b2, List.cons.injEq, List.cons_append, List.nil_append, and_true]
      refine ⟨by omega, trivial, by omega, by omega⟩
    have etail : (if (dR b).snd = true then sndB (dR b) else []) = sg b 8 (base b - 8) := by
      rw [esnd]
      by_cases hs : dS b = true
      · rw [if_pos hs, base_T hs, dR_ok h, dF_T hs]
        simp only [sndB]
        rw [b8_v8 hb, b4_v4 hb, b4_v4 hb, b4_v4 hb]
        rw [show (28 - 8 : Nat) = 8 + (4 + (4 + 4)) from rfl, sg_add, sg_add, sg_add]
      · have hs : dS b = false := by simpa using hs
        rw [hs, base_F hs]; rfl
    have hbase : 8 ≤ base b := by simp only [base]; split <;> omega
    simp only [bytes]
    rw [ehead, etail, ebl, blks_flat hb, hN, ← sg_take (by omega)]
    have e8 : (dZ b).toNat = 8 + (base b - 8 + 24 * dM b) := by omega
    rw [e8, sg_add, sg_add, show 0 + 8 + (base b - 8) = base b by omega]
theorem bt_drop (b : List Int) (p k : Nat) : bt (b.drop p) k = bt b (p + k) := by simp [bt, List.getD]
theorem blk_drop (b : List Int) (p : Nat) : blk (b.drop p) 0 = blk b p := by
  simp only [blk, v4, v3, bt_drop, Nat.zero_add, Nat.add_assoc, Nat.reduceAdd, Nat.add_zero]
theorem v4_b4 {n : Int} (h : r32 n) : n / 16777216 % 256 * 16777216 + n / 65536 % 256 * 65536 + n / 256 % 256 * 256 + n % 256 = n := by simp only [r32] at h; omega
theorem blk_blkB {x : Blk} (h : bok x) (hl : lostB x = true) (rest : List Int) : blk (blkB x ++ rest) 0 = x := by
  obtain ⟨h1, h2, h3, h4, h5, h6⟩ := h
  simp only [lostB, Bool.and_eq_true, decide_eq_true_eq] at hl
  have e1 := v4_b4 h1
  have e3 := v4_b4 h3
  have e4 := v4_b4 h4
  have e5 := v4_b4 h5
  have e6 := v4_b4 h6
  refine blk_ext e1 rfl ?_ e3 e4 e5 e6
  show sx (x.l % 16777216 / 65536 % 256 * 65536 + x.l % 16777216 / 256 % 256 * 256 + x.l % 16777216 % 256) = x.l
  simp only [sx]; split <;> omega
theorem flat_drop : ∀ (l : List Blk) (i : Nat), (l.flatMap blkB).drop (24 * i) = (l.drop i).flatMap blkB
  | l, 0 => by simp
  | [], i + 1 => by simp
  | a :: l, i + 1 => by
    rw [List.flatMap_cons, show 24 * (i + 1) = (blkB a).length + 24 * i by rw [blkB_len]; omega, List.drop_append]
    simp [flat_drop l i]
theorem head_len (r : Rep) : (head r).length = 8 := rfl
def pre (r : Rep) : List Int := head r ++ (if r.snd = true then sndB r else [])
theorem bytes_pre (r : Rep) : bytes r = pre r ++ r.bl.flatMap blkB := by simp [bytes, pre]
theorem pre_len (r : Rep) : (pre r).length = if r.snd = true then 28 else 8 := by
  simp only [pre, List.length_append, head_len]; split <;> rfl
theorem bytes_size (r : Rep) : ((bytes r).length : Int) = size r.snd r.bl.length := by
  rw [bytes_pre, List.length_append, flat_len, pre_len]
  simp only [size]; split <;> omega
/-- What is encoded is decoded back, whatever follows. -/
theorem back1 {r : Rep} (hr : rok r) (h : chk r = 0) (rest : List Int) : dE (bytes r ++ rest) = 0 ∧ dN (bytes r ++ rest) = (bytes r).length ∧ dR (bytes r ++ rest) = r := by
  have hn := chk_le h
  have hz := size_rng (snd := r.snd) (n := r.bl.length) (by omega)
  have hlost : r.bl.all lostB = true := by
    cases hc : r.bl.all lostB
    · rw [chk3 (by omega) hc] at h; cases h
    · rfl
  have h00 : r.snd = false → r.clk = 0 ∧ r.t = 0 ∧ r.p = 0 ∧ r.o = 0 := fun hs => Classical.byContradiction fun hh => by
    rw [chk2 (by omega) hlost hs hh] at h; cases h
  obtain ⟨r1, r2, r3, r4, r5, r6⟩ := hr
  generalize hB : bytes r ++ rest = B
  have eB : B = (128 + (r.bl.length : Int)) :: (if r.snd = true then 200 else 201) :: (b2 (size r.snd r.bl.length / 4 - 1) ++ (b4 r.src ++ ((if r.snd = true then sndB r else []) ++ (r.bl.flatMap blkB ++ rest)))) := by
    rw [← hB]; simp [bytes, head]
  have hlen : (B.length : Int) = size r.snd r.bl.length + rest.length := by
    rw [← hB, List.length_append, Int.natCast_add, bytes_size]
  have b0 : bt B 0 = 128 + r.bl.length := by rw [eB]; rfl
  have b1 : bt B 1 = if r.snd = true then 200 else 201 := by rw [eB]; rfl
  have b2' : v2 B 2 = size r.snd r.bl.length / 4 - 1 := by
    rw [eB]
    show (size r.snd r.bl.length / 4 - 1) / 256 % 256 * 256 + (size r.snd r.bl.length / 4 - 1) % 256 = _
    omega
  have b4' : v4 B 4 = r.src := by rw [eB]; exact v4_b4 r1
  have eS : dS B = r.snd := by
    simp only [dS, b1]; cases r.snd <;> rfl
  have eM : dM B = r.bl.length := by simp only [dM, b0]; omega
  have eZ : dZ B = size r.snd r.bl.length := by simp only [dZ, eS, eM]
  have e0 := dE0 (b := B) (by omega) (by rw [b0]; omega) (by rw [b1]; split <;> simp) (by rw [b2', eZ]) (by rw [eZ, hlen]; omega)
  refine ⟨e0.1, by rw [e0.2, eZ, bytes_size], ?_⟩
  have ebase : base B = (pre r).length := by rw [pre_len]; simp only [base, eS]
  have ebl : blks B (dM B) = r.bl := by
    rw [eM]
    apply List.ext_getElem
    · rw [blks_len]
    · intro i h1 h2
      simp only [blks, List.getElem_map, List.getElem_range]
      rw [← blk_drop]
      have ed : B.drop (base B + 24 * i) = blkB r.bl[i] ++ ((r.bl.drop (i + 1)).flatMap blkB ++ rest) := by
        rw [ebase, ← hB, bytes_pre, List.append_assoc, ← List.drop_drop, List.drop_left, List.drop_append_of_le_length (by rw [flat_len]; omega), flat_drop, List.drop_eq_getElem_cons h2, List.flatMap_cons, List.append_assoc]
      rw [ed]
      exact blk_blkB (r6 _ (List.getElem_mem h2)) (List.all_eq_true.1 hlost _ (List.getElem_mem h2)) _
  rw [dR_ok e0.1, ebl]
  by_cases hs : r.snd = true
  · rw [dF_T (by rw [eS, hs])]
    have eB2 : B = (128 + (r.bl.length : Int)) :: 200 :: (b2 (size r.snd r.bl.length / 4 - 1) ++ (b4 r.src ++ (b4 (r.clk / 4294967296) ++ (b4 (r.clk % 4294967296) ++ (b4 r.t ++ (b4 r.p ++ (b4 r.o ++ (r.bl.flatMap blkB ++ rest)))))))) := by
      rw [eB]; simp [hs, sndB, b8]
    have c8 : v8 B 8 = r.clk := by
      have a : v4 B 8 = r.clk / 4294967296 := by rw [eB2]; exact v4_b4 (by simp only [r32]; omega)
      have c : v4 B 12 = r.clk % 4294967296 := by rw [eB2]; exact v4_b4 (by simp only [r32]; omega)
      simp only [v8, show 8 + 4 = 12 from rfl, a, c]; omega
    have c16 : v4 B 16 = r.t := by rw [eB2]; exact v4_b4 r3
    have c20 : v4 B 20 = r.p := by rw [eB2]; exact v4_b4 r4
    have c24 : v4 B 24 = r.o := by rw [eB2]; exact v4_b4 r5
    exact rep_ext hs.symm b4' c8 c16 c20 c24 rfl
  · have hs : r.snd = false := by simpa using hs
    rw [dF_F (by rw [eS, hs])]
    obtain ⟨z1, z2, z3, z4⟩ := h00 hs
    exact rep_ext hs.symm b4' z1.symm z2.symm z3.symm z4.symm rfl
theorem bytes_ge (r : Rep) : 8 ≤ (bytes r).length := by rw [bytes_pre, List.length_append, pre_len]; split <;> omega
theorem da_flat : ∀ {l : List Rep}, (∀ r ∈ l, rok r) → eaE l = 0 → da (flat l) = (l, 0, 0)
  | [], _, _ => by simp only [flat, List.flatMap_nil]; exact da_nil
  | r :: l, hl, h => by
    simp only [eaE] at h
    split at h
    · rename_i hc
      obtain ⟨a, b, c⟩ := back1 (hl r (by simp)) hc (flat l)
      have e : flat (r :: l) = bytes r ++ flat l := by simp [flat]
      have hne : bytes r ++ flat l ≠ [] := fun e => by
        have h9 := congrArg List.length e
        have h8 := bytes_ge r
        rw [List.length_append, List.length_nil] at h9
        omega
      have ih := da_flat (l := l) (fun x hx => hl x (by simp [hx])) h
      rw [e, da, if_neg hne, dif_neg (by simp [a]), b, Int.toNat_natCast, List.drop_left, ih, c]
      rfl
    · rename_i hc; exact (hc h).elim
theorem dN_le (b : List Int) (h : ¬ dE b = 0) : 0 ≤ dN b ∧ dN b ≤ b.length := by
  simp only [dE] at h
  simp only [dN]
  have hz := dZ_ge b
  split
  · omega
  · rename_i h1
    rw [if_neg h1] at h
    split
    · omega
    · rename_i h2
      rw [if_neg h2] at h
      split
      · omega
      · rename_i h3
        rw [if_neg h3] at h
        split
        · omega
        · rename_i h4
          rw [if_neg h4] at h
          split
          · omega
          · rename_i h5; rw [if_neg h5] at h; exact (h rfl).elim
theorem da_back : ∀ (n : Nat) (b : List Int), b.length < n → (∀ x ∈ b, 0 ≤ x ∧ x ≤ 255) → ((da b).2.2 = 0 → eaE (da b).1 = 0 ∧ flat (da b).1 = b) ∧ (¬ (da b).2.2 = 0 → (da b).1 = [] ∧ 0 ≤ (da b).2.1 ∧ (da b).2.1 ≤ b.length)
  | 0, _, h, _ => by omega
  | n + 1, b, h, hb => by
    by_cases h0 : b = []
    · subst h0; rw [da_nil]; exact ⟨fun _ => ⟨rfl, rfl⟩, fun h => (h rfl).elim⟩
    · by_cases h1 : dE b = 0
      · have hp := dN_pos h1
        have hz := dZ_ge b
        have hl : (b.drop (dN b).toNat).length = b.length - (dN b).toNat := List.length_drop
        obtain ⟨i1, i2⟩ := da_back n (b.drop (dN b).toNat) (by omega) (drop_in hb _)
        obtain ⟨k1, k2⟩ := back2 hb h1
        rw [da, if_neg h0, dif_neg (by simp [h1])]
        by_cases h2 : (da (b.drop (dN b).toNat)).2.2 = 0
        · rw [if_pos h2]
          obtain ⟨j1, j2⟩ := i1 h2
          refine ⟨fun _ => ⟨by simp only [eaE]; rw [if_pos k1]; exact j1, ?_⟩, fun h => (h rfl).elim⟩
          show (dR b :: (da (b.drop (dN b).toNat)).1).flatMap bytes = b
          rw [List.flatMap_cons, k2]
          have : (da (b.drop (dN b).toNat)).1.flatMap bytes = b.drop (dN b).toNat := j2
          rw [this, List.take_append_drop]
        · rw [if_neg h2]
          obtain ⟨j1, j2, j3⟩ := i2 h2
          exact ⟨fun h => (h2 h).elim, fun _ => ⟨rfl, by show 0 ≤ dN b + _; omega, by show dN b + _ ≤ _; omega⟩⟩
      · rw [da_bad h0 h1]
        have := dN_le b h1
        exact ⟨fun h => (h1 h).elim, fun _ => ⟨rfl, this⟩⟩
theorem b4_in (n : Int) : ∀ x ∈ b4 n, 0 ≤ x ∧ x ≤ 255 := by
  intro x hx; simp only [b4, List.mem_cons, List.not_mem_nil, or_false] at hx; omega
theorem b3_in (n : Int) : ∀ x ∈ b3 n, 0 ≤ x ∧ x ≤ 255 := by
  intro x hx; simp only [b3, List.mem_cons, List.not_mem_nil, or_false] at hx; omega
theorem b2_in (n : Int) : ∀ x ∈ b2 n, 0 ≤ x ∧ x ≤ 255 := by
  intro x hx; simp only [b2, List.mem_cons, List.not_mem_nil, or_false] at hx; omega
theorem app_in {a c : List Int} (h1 : ∀ x ∈ a, 0 ≤ x ∧ x ≤ 255) (h2 : ∀ x ∈ c, 0 ≤ x ∧ x ≤ 255) : ∀ x ∈ a ++ c, 0 ≤ x ∧ x ≤ 255 := fun x hx => (List.mem_append.1 hx).elim (h1 x) (h2 x)
theorem cons_in {a : Int} {c : List Int} (h1 : 0 ≤ a ∧ a ≤ 255) (h2 : ∀ x ∈ c, 0 ≤ x ∧ x ≤ 255) : ∀ x ∈ a :: c, 0 ≤ x ∧ x ≤ 255 := fun x hx => (List.mem_cons.1 hx).elim (fun e => e ▸ h1) (h2 x)
theorem blkB_in {x : Blk} (h : bok x) : ∀ y ∈ blkB x, 0 ≤ y ∧ y ≤ 255 :=
  app_in (b4_in _) (cons_in h.2.1 (app_in (b3_in _) (app_in (b4_in _) (app_in (b4_in _) (app_in (b4_in _) (b4_in _))))))
theorem bytes_in {r : Rep} (hr : rok r) (h : chk r = 0) : ∀ y ∈ bytes r, 0 ≤ y ∧ y ≤ 255 := by
  have hn := chk_le h
  refine app_in (cons_in (by omega) (cons_in (by split <;> omega) (app_in (b2_in _) (b4_in _)))) (app_in ?_ ?_)
  · split
    · exact app_in (app_in (b4_in _) (b4_in _)) (app_in (b4_in _) (app_in (b4_in _) (b4_in _)))
    · intro x hx; cases hx
  · intro y hy
    obtain ⟨x, hx, hy⟩ := List.mem_flatMap.1 hy
    exact blkB_in (hr.2.2.2.2.2 x hx) y hy
theorem flat_in : ∀ {l : List Rep}, (∀ r ∈ l, rok r) → eaE l = 0 → ∀ y ∈ flat l, 0 ≤ y ∧ y ≤ 255
  | [], _, _, y, hy => by simp [flat] at hy
  | r :: l, hl, h, y, hy => by
    simp only [eaE] at h
    split at h
    · rename_i hc
      rw [show flat (r :: l) = bytes r ++ flat l by simp [flat]] at hy
      exact app_in (bytes_in (hl r (by simp)) hc) (flat_in (fun x hx => hl x (by simp [hx])) h) y hy
    · rename_i hc; exact (hc h).elim
theorem eaB_ok {l : List Rep} (h : eaE l = 0) : eaB l = flat l := if_pos h
theorem da_eaB {l : List Rep} (hl : ∀ r ∈ l, rok r) (h : eaE l = 0) : da (eaB l) = (l, 0, 0) := by rw [eaB_ok h, da_flat hl h]
end Sp

end Go.Proofs.Ytgkeopjnfkgpbaa
