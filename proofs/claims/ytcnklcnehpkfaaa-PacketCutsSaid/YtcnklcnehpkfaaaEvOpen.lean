/-
  The arguments of a law: values that read as data are abstract values, of a shape that the type tells. Then a law's contract gives the row's claim.
-/
import Derived.Test.YtcnklcnehpkfaaaEvLaw
namespace Go.Ev
open Go Go.ChangeShapes Go.WideShapes Go.ChangeAt Go.WideMaps Go.WideElems Go.RowKit
set_option linter.unusedVariables false
set_option linter.unusedSimpArgs false

/-- The shape of one cell. b: the bytes of an element. -/
inductive CS where
  | int (k : IntKind)
  | bool
  | str
  | si (k : IntKind) (b : Nat)
  | sr (l : List CS) (b : Nat)

def inR (k : IntKind) (n : Int) : Prop := (Lit.int k n).wf = true

mutual
def Fit : CS → AV → Prop
  | .int k, x => ∃ n, x = .c (.int k n) ∧ inR k n
  | .bool, x => ∃ b, x = .c (.bool b)
  | .str, x => ∃ s : ByteArray, x = .c (.string s) ∧ s.size ≤ 140737488351232
  | .si k b, x => ∃ l, x = .ri k l ∧ l.length * b ≤ 140737488351232 ∧ l.length ≤ 9223372036854775807 ∧ ∀ n ∈ l, inR k n
  | .sr ss b, x => ∃ l, x = .rr ss.length l ∧ l.length * b ≤ 140737488351232 ∧ l.length ≤ 9223372036854775807 ∧ ∀ c ∈ l, Fits ss c
def Fits : List CS → List AV → Prop
  | [], l => l = []
  | s :: ss, l => ∃ x r, l = x :: r ∧ Fit s x ∧ Fits ss r
end

def shapeFs (P : Program) (sh : TypeId → Option (List CS)) (i : Nat) : List Field → Option (List CS)
  | [] => some []
  | f :: fs => if f.offset = i then (sh f.type).bind fun ss => if ss.length = P.cellsOf f.type then (shapeFs P sh (i + ss.length) fs).map (ss ++ ·) else none else none

def sliceCS (ss : List CS) (b : Nat) : CS :=
  match ss with
  | [.int k] => .si k b
  | ss => .sr ss b

def shapeT (P : Program) : Nat → TypeId → Option (List CS)
  | 0, _ => none
  | d + 1, t => match P.underlying t with
    | some .bool => some [.bool]
    | some (.int k) => some [.int k]
    | some .string => some [.str]
    | some (.slice e) => (shapeT P d e).bind fun ss => if ss.length = P.cellsOf e ∧ 0 < ss.length then some [sliceCS ss (P.bytesOf e)] else none
    | some (.struct fs) => (shapeFs P (shapeT P d) 0 fs.toList).bind fun ss => if ss.length = P.cellsOf t then some ss else none
    | _ => none

theorem Fit.one : ∀ {s : CS} {x : AV}, Fit s x → x.one = true
  | .int k, x, h => by simp only [Fit] at h; obtain ⟨n, rfl, _⟩ := h; rfl
  | .bool, x, h => by simp only [Fit] at h; obtain ⟨b, rfl⟩ := h; rfl
  | .str, x, h => by simp only [Fit] at h; obtain ⟨b, rfl, _⟩ := h; rfl
  | .si k b, x, h => by simp only [Fit] at h; obtain ⟨l, rfl, _⟩ := h; rfl
  | .sr ss b, x, h => by simp only [Fit] at h; obtain ⟨l, rfl, _⟩ := h; rfl
theorem Fit.nl : ∀ {s : CS} {x : AV}, Fit s x → x.nl
  | .int k, x, h => by simp only [Fit] at h; obtain ⟨n, rfl, _⟩ := h; trivial
  | .bool, x, h => by simp only [Fit] at h; obtain ⟨b, rfl⟩ := h; trivial
  | .str, x, h => by simp only [Fit] at h; obtain ⟨b, rfl, _⟩ := h; trivial
  | .si k b, x, h => by simp only [Fit] at h; obtain ⟨l, rfl, _⟩ := h; trivial
  | .sr ss b, x, h => by simp only [Fit] at h; obtain ⟨l, rfl, _⟩ := h; trivial
theorem Fits.nl : ∀ {ss : List CS} {l : List AV}, Fits ss l → ∀ x ∈ l, x.nl
  | [], l, h, x, hx => by simp only [Fits] at h; subst h; cases hx
  | s :: ss, l, h, x, hx => by
    simp only [Fits] at h; obtain ⟨y, r, rfl, h1, h2⟩ := h
    rcases List.mem_cons.1 hx with rfl | hx
    · exact h1.nl
    · exact h2.nl x hx
theorem Fits.one : ∀ {ss : List CS} {l : List AV}, Fits ss l → ∀ x ∈ l, x.one = true
  | [], l, h, x, hx => by simp only [Fits] at h; subst h; cases hx
  | s :: ss, l, h, x, hx => by
    simp only [Fits] at h; obtain ⟨y, r, rfl, h1, h2⟩ := h
    rcases List.mem_cons.1 hx with rfl | hx
    · exact h1.one
    · exact h2.one x hx
theorem Fits.length : ∀ {ss : List CS} {l : List AV}, Fits ss l → l.length = ss.length
  | [], l, h => by simp only [Fits] at h; subst h; rfl
  | s :: ss, l, h => by simp only [Fits] at h; obtain ⟨y, r, rfl, h1, h2⟩ := h; simp [h2.length]
theorem Fits.append : ∀ {ss ts : List CS} {l r : List AV}, Fits ss l → Fits ts r → Fits (ss ++ ts) (l ++ r)
  | [], ts, l, r, h, h' => by simp only [Fits] at h; subst h; simpa using h'
  | s :: ss, ts, l, r, h, h' => by
    simp only [Fits] at h; obtain ⟨y, z, rfl, h1, h2⟩ := h
    simp only [List.cons_append, Fits]; exact ⟨y, _, rfl, h1, h2.append h'⟩
theorem Fits.append_inv : ∀ {ss ts : List CS} {l : List AV}, Fits (ss ++ ts) l → ∃ a b, l = a ++ b ∧ Fits ss a ∧ Fits ts b
  | [], ts, l, h => ⟨[], l, rfl, by simp [Fits], h⟩
  | s :: ss, ts, l, h => by
    simp only [List.cons_append, Fits] at h
    obtain ⟨y, z, rfl, h1, h2⟩ := h
    obtain ⟨a, b, rfl, h3, h4⟩ := h2.append_inv
    exact ⟨y :: a, b, rfl, by simp only [Fits]; exact ⟨y, a, rfl, h1, h3⟩, h4⟩

section
variable {H : Type} {enc : TypeId × Value → H} {P : Program} {w : World} {F : Nat → Prop} {ρ : Ren}

theorem cell_lt {w : World} {a : Addr} {v : Value} (h : w.cell? a = some v) : a.block < w.heap.size := by
  rcases Nat.lt_or_ge a.block w.heap.size with h1 | h1
  · exact h1
  · have e : w.heap[a.block]? = none := Array.getElem?_eq_none h1
    simp [World.cell?, e] at h

theorem add_block (a : Addr) (i : Nat) : (a.add i).block = a.block := by unfold Addr.add; split <;> rfl

/-- A choice for every place of a list. -/
theorem choose_list {α : Type} {R : Nat → α → Prop} : ∀ (n : Nat), (∀ i, i < n → ∃ x, R i x) → ∃ l : List α, l.length = n ∧ ∀ i x, l[i]? = some x → R i x
  | 0, _ => ⟨[], rfl, by simp⟩
  | n + 1, h => by
    obtain ⟨l, hl, hr⟩ := choose_list n fun i hi => h i (by omega)
    obtain ⟨x, hx⟩ := h n (by omega)
    refine ⟨l ++ [x], by simp [hl], fun i y hy => ?_⟩
    rcases Nat.lt_or_ge i n with h1 | h1
    · rw [List.getElem?_append_left (by omega)] at hy; exact hr i y hy
    · rw [List.getElem?_append_right (by omega), hl] at hy
      have : i = n := by
        rcases Nat.lt_or_ge (i - n) 1 with h2 | h2
        · omega
        · rw [List.getElem?_eq_none (by simpa using h2)] at hy; cases hy
      subst this
      simp at hy; subst hy; exact hx

theorem weights_all {e : TypeId} {n : Nat} : ∀ {ds : List (DataW H)} {d : DataW H}, d ∈ ds → n ∈ d.weights P e → n ∈ DataW.weightsAll P e ds
  | x :: ds, d, hd, hn => by
    simp only [DataW.weightsAll, List.mem_append]
    rcases List.mem_cons.1 hd with rfl | hd
    · exact .inl hn
    · exact .inr (weights_all hd hn)

theorem open_cells (hF : ∀ b, b < w.heap.size → F b) : ∀ {d fuel : Nat} {t : TypeId} {ss : List CS} {cs : List Value} {x : DataW H × List MemPlace}, shapeT P d t = some ss → DataW.trod enc P w 0 (fun _ => true) true fuel t cs = some x →
    (∀ n ∈ x.1.weights P t, n ≤ reachBytes) → ∃ l, ARL F w ρ l cs ∧ Fits ss l
  | 0, fuel, t, ss, cs, x, hs, h, hw => by simp [shapeT] at hs
  | d + 1, fuel, t, ss, cs, x, hs, h, hw => by
    simp only [shapeT] at hs
    split at hs
    · rename_i hu
      simp only [Option.some.injEq] at hs; subst hs
      obtain ⟨b, rfl, rfl⟩ := DataW.trod_bool hu h
      exact ⟨[.c (.bool b)], by simp [ARL, AR], by simp only [Fits, Fit]; exact ⟨_, _, rfl, ⟨b, rfl⟩, rfl⟩⟩
    · rename_i k hu
      simp only [Option.some.injEq] at hs; subst hs
      obtain ⟨n, rfl, rfl, hwf⟩ := DataW.trod_int hu h
      exact ⟨[.c (.int k n)], by simp [ARL, AR], by simp only [Fits, Fit]; exact ⟨_, _, rfl, ⟨n, rfl, hwf⟩, rfl⟩⟩
    · rename_i hu
      simp only [Option.some.injEq] at hs; subst hs
      obtain ⟨s, rfl, rfl, hsz⟩ := DataW.trod_string hu h
      refine ⟨[.c (.string s)], by simp [ARL, AR], by simp only [Fits, Fit]; exact ⟨_, _, rfl, ⟨s, rfl, hw s.size (by simp [DataW.weights])⟩, rfl⟩⟩
    · rename_i e hu
      obtain ⟨es, hes, hs⟩ := Option.bind_eq_some_iff.1 hs
      split at hs
      · rename_i hlen'
        obtain ⟨hlen, hpos'⟩ := hlen'
        simp only [Option.some.injEq] at hs; subst hs
        have key : ∃ (ao : Option Addr) (len cap : Nat) (ls : List (List AV)), cs = [.slice ao len cap] ∧ ls.length = len ∧ len ≤ cap ∧ cap ≤ maxLen ∧ (ao = none → cap = 0) ∧ len * P.bytesOf e ≤ reachBytes ∧
            ∀ i c, ls[i]? = some c → ∃ ad, ao = some ad ∧ Fits es c ∧ ∃ us : List Value, us.length = es.length ∧ ARL F w ρ c us ∧ ∀ j u, us[j]? = some u → F ad.block ∧ w.cell? (ad.add (i * es.length + j)) = some u := by
          rcases DataW.trod_slice hu h with ⟨rfl, rfl⟩ | ⟨a, len, cap, elems, rest, n, _, rfl, rfl, hb, hl, hm, hel, he, hsp, _⟩
          · exact ⟨none, 0, 0, [], rfl, rfl, Nat.le_refl _, Nat.zero_le _, fun _ => rfl, by simp, by simp⟩
          · have hr := (hsp rfl).1
            have hwt : len * P.bytesOf e ≤ reachBytes := by
              have := hw ((elems.length + rest.length) * P.bytesOf e) (by simp [DataW.weights, hu])
              refine Nat.le_trans (Nat.mul_le_mul_right _ ?_) this
              omega
            obtain ⟨ls, hls, hall⟩ := choose_list (R := fun i c => Fits es c ∧ ∃ us : List Value, us.length = es.length ∧ ARL F w ρ c us ∧ ∀ j u, us[j]? = some u → F a.block ∧ w.cell? (a.add (i * es.length + j)) = some u) len fun i hi => by
              have h1 := he i hi
              have hil : i < elems.length := by omega
              rw [List.getElem?_eq_getElem hil] at h1
              obtain ⟨us, hus, htr⟩ := Option.bind_eq_some_iff.1 h1
              obtain ⟨_, hul, hcell⟩ := World.cells?_some hus
              obtain ⟨c, hc1, hc2⟩ := open_cells hF hes htr fun m hm => hw m (by
                simp only [DataW.weights, hu, List.mem_cons, List.mem_append]
                exact .inr (.inl (weights_all (d := elems[i].1) (List.mem_map.2 ⟨_, List.getElem_mem hil, rfl⟩) hm)))
              refine ⟨c, hc2, us, by rw [hul, hlen], hc1, fun j u hu' => ?_⟩
              have hj : j < P.cellsOf e := by rw [← hul]; exact (List.getElem?_eq_some_iff.1 hu').1
              have := hcell j hj
              rw [hu', Addr.add_add, ← hlen] at this
              have hlt := cell_lt this
              rw [add_block] at hlt
              exact ⟨hF _ hlt, this⟩
            exact ⟨some a, len, cap, ls, rfl, hls, hl, hm, (fun h => by cases h), hwt, fun i c hc => ⟨a, rfl, hall i c hc⟩⟩
        obtain ⟨ao, len, cap, ls, rfl, hls, hl, hm, h0, hwt, hall⟩ := key
        have hm' : len ≤ 9223372036854775807 := Nat.le_trans hl hm
        have rec' : sliceCS es (P.bytesOf e) = .sr es (P.bytesOf e) → ∃ l, ARL F w ρ l [Value.slice ao len cap] ∧ Fits [sliceCS es (P.bytesOf e)] l := by
          intro hcs
          refine ⟨[.rr es.length ls], ?_, ?_⟩
          · simp only [ARL, AR]
            refine ⟨_, _, rfl, ⟨ao, cap, by rw [hls], by rw [hls]; exact hl, hm, h0, ARR.of_get fun j c hc => ?_⟩, rfl⟩
            obtain ⟨ad, had, hfit, us, hul, har, hcell⟩ := hall j c hc
            rw [Nat.zero_add]
            have hpos : 0 < us.length := by omega
            refine ⟨ad, had, (hcell 0 us[0] (List.getElem?_eq_getElem hpos)).1, hfit.length, ARC.of_get fun i y hy => ⟨hfit.one y (List.mem_of_getElem? hy), ?_⟩⟩
            obtain ⟨u, hu1, hu2⟩ := har.get i y hy
            exact ⟨u, (hcell i u hu1).2, AR.nl' (fun _ h => h) _ _ (hfit.nl y (List.mem_of_getElem? hy)) hu2⟩
          · rw [hcs]
            simp only [Fits, Fit]
            refine ⟨_, _, rfl, ⟨ls, rfl, by rw [hls]; exact hwt, by rw [hls]; exact hm', fun c hc => ?_⟩, rfl⟩
            obtain ⟨i, hi⟩ := List.getElem?_of_mem hc
            obtain ⟨_, _, hfit, _⟩ := hall i c hi
            exact hfit
        match es, hall, rec' with
        | [.int k], hall, _ =>
          have each : ∀ i c, ls[i]? = some c → ∃ ad n, ao = some ad ∧ c = [.c (.int k n)] ∧ inR k n ∧ F ad.block ∧ w.cell? (ad.add i) = some (.int k n) := fun i c hc => by
            obtain ⟨ad, had, hfit, us, hul, har, hcell⟩ := hall i c hc
            simp only [Fits, Fit] at hfit
            obtain ⟨y, r, rfl, ⟨n, rfl, hn⟩, rfl⟩ := hfit
            simp only [ARL, AR] at har
            obtain ⟨v, r, rfl, rfl, rfl⟩ := har
            have := hcell 0 _ rfl
            simp only [List.length_singleton, Nat.mul_one, Nat.add_zero] at this
            exact ⟨ad, n, had, rfl, hn, this.1, this.2⟩
          obtain ⟨l, hl1, hl2⟩ := choose_list (R := fun i n => inR k n ∧ ∃ ad, ao = some ad ∧ F ad.block ∧ w.cell? (ad.add i) = some (.int k n)) len fun i hi => by
            obtain ⟨ad, n, h1, _, h3, h4, h5⟩ := each i ls[i] (List.getElem?_eq_getElem (by omega))
            exact ⟨n, h3, ad, h1, h4, h5⟩
          refine ⟨[.ri k l], ?_, ?_⟩
          · simp only [ARL, AR]
            exact ⟨_, _, rfl, ⟨ao, cap, by rw [hl1], by rw [hl1]; exact hl, hm, h0, fun j x hx => (hl2 j x hx).2⟩, rfl⟩
          · simp only [sliceCS, Fits, Fit]
            refine ⟨_, _, rfl, ⟨l, rfl, by rw [hl1]; exact hwt, by rw [hl1]; exact hm', fun n hn => ?_⟩, rfl⟩
            obtain ⟨i, hi⟩ := List.getElem?_of_mem hn
            exact (hl2 i n hi).1
        | [], _, rec' => exact rec' rfl
        | .bool :: _, _, rec' => exact rec' rfl
        | .str :: _, _, rec' => exact rec' rfl
        | .si _ _ :: _, _, rec' => exact rec' rfl
        | .sr _ _ :: _, _, rec' => exact rec' rfl
        | .int _ :: _ :: _, _, rec' => exact rec' rfl
      · cases hs
    · rename_i fs hu
      obtain ⟨ss', hfs, hs⟩ := Option.bind_eq_some_iff.1 hs
      split at hs
      · rename_i hlen
        simp only [Option.some.injEq] at hs; subst hs
        obtain ⟨xs, n, rfl, rfl, hcl, hxl, hel⟩ := DataW.trod_struct hu h
        have go : ∀ (l : List Field) (k i : Nat) (ts : List CS), (∀ j f, l[j]? = some f → fs[k + j]? = some f) → k + l.length = fs.size → shapeFs P (shapeT P d) i l = some ts → i + ts.length = cs.length → ∃ r, ARL F w ρ r (cs.drop i) ∧ Fits ts r := by
          intro l
          induction l with
          | nil =>
            intro k i ts _ _ hts hi
            simp only [shapeFs, Option.some.injEq] at hts; subst hts
            rw [List.drop_eq_nil_of_le (by simp at hi; omega)]
            exact ⟨[], by simp [ARL], by simp [Fits]⟩
          | cons f l ih =>
            intro k i ts hmem hk hts hi
            simp only [shapeFs] at hts
            split at hts
            · rename_i hoff
              obtain ⟨s1, h1, hts⟩ := Option.bind_eq_some_iff.1 hts
              split at hts
              · rename_i hl1
                obtain ⟨s2, h2, rfl⟩ := Option.map_eq_some_iff.1 hts
                rw [List.length_append] at hi
                obtain ⟨r2, hr2, hf2⟩ := ih (k + 1) (i + s1.length) s2 (fun j g hg => by have := hmem (j + 1) g (by simpa using hg); rwa [show k + (j + 1) = k + 1 + j from by omega] at this) (by simp at hk; omega) h2 (by omega)
                have hf := hmem 0 f rfl
                rw [Nat.add_zero] at hf
                have htr := hel k f hf
                have hkx : k < xs.length := by rw [hxl]; exact (Array.getElem?_eq_some_iff.1 hf).1
                rw [List.getElem?_eq_getElem hkx] at htr
                obtain ⟨r1, hr1, hf1⟩ := open_cells hF h1 htr fun m hm => hw m (by
                  simp only [DataW.weights, hu]
                  exact DataW.weights_mem_each (j := k) (t := f.type) (d := xs[k].1) (by rw [List.getElem?_map, Array.getElem?_toList, hf]; rfl) (by rw [List.getElem?_map, List.getElem?_eq_getElem hkx]; rfl) m hm)
                refine ⟨r1 ++ r2, ?_, hf1.append hf2⟩
                have := hr1.append hr2
                rw [hoff, ← hl1, ← List.drop_drop, List.take_append_drop] at this
                exact this
              · cases hts
            · cases hts
        obtain ⟨r, hr, hf⟩ := go fs.toList 0 0 ss' (fun j f hf => by rw [Nat.zero_add, ← Array.getElem?_toList]; exact hf) (by simp) hfs (by rw [hcl, ← hlen]; omega)
        exact ⟨r, by simpa using hr, hf⟩
      · cases hs
    · cases hs
end

/-- A whole value out of its cells. -/
def argA (P : Program) (t : TypeId) (l : List AV) : AV :=
  match P.underlying t with
  | some (.struct _) => .a l
  | _ => l.headD (.c undef)

def argsA (P : Program) : List TypeId → List (List AV) → List AV
  | t :: ts, l :: ls => argA P t l :: argsA P ts ls
  | _, _ => []

def FitsAll : List (List CS) → List (List AV) → Prop
  | [], ls => ls = []
  | s :: ss, ls => ∃ l r, ls = l :: r ∧ Fits s l ∧ FitsAll ss r

section
variable {H : Type} {enc : TypeId × Value → H} {P : Program} {w : World} {F : Nat → Prop} {ρ : Ren}

theorem open_arg (hF : ∀ b, b < w.heap.size → F b) {d b0 : Nat} {t : TypeId} {ss : List CS} {v : Value} {dd : DataW H} {p : List MemPlace} {r : Reach} (hs : shapeT P d t = some ss) (hval : Value.okWide P w r b0 t v) (h : DataW.Trod enc P w 0 (fun _ => true) true t v dd p)
    (hw : ∀ n ∈ dd.weights P t, n ≤ reachBytes) : ∃ l, AR F w ρ (argA P t l) v ∧ Fits ss l := by
  obtain ⟨fuel, hf⟩ := h
  obtain ⟨l, hl, hfit⟩ := open_cells (ρ := ρ) hF hs hf hw
  refine ⟨l, ?_, hfit⟩
  have one : v.cells = #[v] → (∀ fs, P.underlying t ≠ some (.struct fs)) → ∀ s, ss = [s] → AR F w ρ (argA P t l) v := by
    intro hc hns s hss
    subst hss
    simp only [Fits] at hfit
    obtain ⟨x, _, rfl, _, rfl⟩ := hfit
    rw [hc] at hl
    simp only [ARL] at hl
    obtain ⟨u, _, e, h1, rfl⟩ := hl
    simp only [List.cons.injEq] at e
    obtain ⟨rfl, _⟩ := e
    have : argA P t [x] = x := by
      unfold argA
      split
      · rename_i fs hu; exact absurd hu (hns fs)
      · rfl
    rw [this]; exact h1
  cases d with
  | zero => simp [shapeT] at hs
  | succ d =>
    simp only [shapeT] at hs
    split at hs
    · rename_i hu
      obtain ⟨b, rfl⟩ := okWide_bool hu hval
      exact one rfl (by simp [hu]) _ (Option.some.inj hs).symm
    · rename_i k hu
      obtain ⟨b, rfl⟩ := okWide_int hu hval
      exact one rfl (by simp [hu]) _ (Option.some.inj hs).symm
    · rename_i hu
      obtain ⟨b, rfl⟩ := okWide_string hu hval
      exact one rfl (by simp [hu]) _ (Option.some.inj hs).symm
    · rename_i e hu
      obtain ⟨a, len, cap, rfl⟩ := okWide_slice hu hval
      obtain ⟨es, _, hs⟩ := Option.bind_eq_some_iff.1 hs
      split at hs
      · exact one rfl (by simp [hu]) _ (Option.some.inj hs).symm
      · cases hs
    · rename_i fs hu
      have e : argA P t l = .a l := by unfold argA; rw [hu]
      unfold Value.okWide at hval
      rw [hu] at hval
      obtain ⟨cs, rfl, _⟩ := hval
      rw [e]; simp only [AR]; exact ⟨cs, rfl, hl⟩
    · cases hs

theorem open_args (hF : ∀ b, b < w.heap.size → F b) {d b0 : Nat} {r : Reach} : ∀ {ts : List TypeId} {sss : List (List CS)} {vs : List Value} {ds : List (DataW H)} {p : List MemPlace}, mapM' (shapeT P d) ts = some sss →
    (∀ (j : Nat) t v, ts[j]? = some t → vs[j]? = some v → Value.okWide P w r b0 t v) → DataW.TrodAll enc P w 0 (fun _ => true) true ts vs ds p → (∀ n ∈ DataW.weightsEach P ts ds, n ≤ reachBytes) → ∃ ls, ARL F w ρ (argsA P ts ls) vs ∧ FitsAll sss ls
  | [], sss, vs, ds, p, hs, _, h, _ => by
    simp only [mapM', Option.some.injEq] at hs; subst hs
    cases vs <;> cases ds <;> simp [DataW.TrodAll] at h
    exact ⟨[], by simp [argsA, ARL], by simp [FitsAll]⟩
  | t :: ts, sss, vs, ds, p, hs, hval, h, hw => by
    simp only [mapM', Option.bind_eq_bind, Option.bind_eq_some_iff, Option.some.injEq] at hs
    obtain ⟨s, h1, ss, h2, rfl⟩ := hs
    obtain ⟨v, vs', dd, ds', p1, p2, rfl, rfl, rfl, h3, h4⟩ := trodAll_cons h
    simp only [DataW.weightsEach, List.mem_append] at hw
    obtain ⟨l, hl1, hl2⟩ := open_arg (ρ := ρ) hF h1 (hval 0 t v rfl rfl) h3 fun n hn => hw n (.inl hn)
    obtain ⟨ls, hls1, hls2⟩ := open_args hF (ts := ts) h2 (fun j t v ht hv => hval (j + 1) t v (by simpa using ht) (by simpa using hv)) h4 fun n hn => hw n (.inr hn)
    exact ⟨l :: ls, by simp only [argsA, ARL]; exact ⟨v, vs', rfl, hl1, hls1⟩, by simp only [FitsAll]; exact ⟨l, ls, rfl, hl2, hls2⟩⟩

theorem trodAll_length : ∀ {ts : List TypeId} {vs : List Value} {ds : List (DataW H)} {p : List MemPlace} {base : Nat} {sp : Nat → Bool} {held : Bool}, DataW.TrodAll enc P w base sp held ts vs ds p → ds.length = ts.length
  | [], vs, ds, _, _, _, _, h => by cases vs <;> cases ds <;> simp [DataW.TrodAll] at h ⊢
  | t :: ts, vs, ds, p, _, _, _, h => by
    obtain ⟨v, vs', dd, ds', p1, p2, rfl, rfl, rfl, h3, h4⟩ := trodAll_cons h
    simp [trodAll_length h4]
end

/-- A LAW: its contract for all arguments of the shape gives what the row asks of every input. -/
theorem law_lifted {C : Checked} {os : Os} {H : Type} {enc : TypeId × Value → H} {f : FuncId} {fn : Func} {s : ChangeSpec} {L : Lay} {X : World → Prop} {sss : List (List CS)} {tb : TypeId} (w0 : World) (args0 : Array Value) (d : Nat)
    (hXh : ∀ w w' : World, w.heap = w'.heap → X w → X w')
    (own : ownKnob C.prog.godebug = none) (started : os.Started) (noInit : C.prog.inits.idxOf? f = none) (hfn : C.prog.funcs[f]? = some fn)
    (hl : laidOutB C.prog = true) (hr : fn.params.toList.all (fun t => C.prog.readableRec t && decide (t < C.prog.types.size)) = true) (hrt : fn.resultTypes = #[tb]) (htb : C.prog.underlying tb = some .bool) (hv : s.vars = [])
    (hsp : ∀ ds : List (DataW H), ds.length = fn.params.size → s.fn H ds = { results := [.lit (.bool true)], args := ds })
    (hos : w0.os = os)
    (hsh : (w0.forCall (fun _ _ => 0) ⟨#[], args0, []⟩).Shaped C.prog)
    (hok : Input.okWideB C.prog (w0.forCall (fun _ _ => 0) ⟨#[], args0, []⟩) f ⟨#[], args0, []⟩ = true)
    (hpre : s.preB enc C.prog fn [] false (w0.forCall (fun _ _ => 0) ⟨#[], args0, []⟩).memory args0 8 = true)
    (hsz : s.sizedB enc C.prog fn false (w0.forCall (fun _ _ => 0) ⟨#[], args0, []⟩).memory args0 8 = true)
    (hx : X (w0.forCall (fun _ _ => 0) ⟨#[], args0, []⟩).memory)
    (hX : ∀ W, X W → layMet L (fun b => b < W.heap.size) W)
    (hshape : mapM' (shapeT C.prog d) fn.params.toList = some sss)
    (hcon : ∀ ls, FitsAll sss ls → Con C.prog L f [] (argsA C.prog fn.params.toList ls) [] (.c (.bool true))) :
    ReturnsInHanded {} C os f .any (fun w args => (s.pre enc C.prog fn [] false w args ∧ X w) ∧ sizedMet enc C.prog fn (OpenSpec.ofChange s) false w args)
      (s.post enc C.prog fn false true false false) := by
  refine returnsInHanded_of_change_and (C := C) (X := fun w _ => X w) (fun _ _ _ hh h => hXh _ _ hh h) own started noInit hfn
    (ChangeSpec.witness_shaped (enc := enc) (C := C) (os := os) (X := fun w _ => X w) false w0 args0 8 hos hsh hok hpre hsz hx) ?_
  intro W base args ds gs before hval hW _ hwt hXW _
  have hW' := hW
  obtain ⟨p, q, hA, hV, rfl, hfz, hnd⟩ := hW
  rw [hv] at hV
  obtain ⟨rfl, rfl⟩ := trodVars_none hV
  have hall : ∀ n ∈ DataW.weightsEach C.prog fn.params.toList ds, n ≤ reachBytes := fun n hn => by
    have := List.all_eq_true.1 hwt n (by
      rw [List.append_nil]
      have e : ∀ (ts us : List TypeId) (ds : List (DataW H)) (n : Nat), n ∈ DataW.weightsEach C.prog ts ds → n ∈ DataW.weightsEach C.prog (ts ++ us) ds := by
        intro ts
        induction ts with
        | nil => intro us ds n hn; simp [DataW.weightsEach] at hn
        | cons t ts ih =>
          intro us ds n hn
          cases ds with
          | nil => simp [DataW.weightsEach] at hn
          | cons d ds =>
            simp only [DataW.weightsEach, List.cons_append, List.mem_append] at hn ⊢
            exact hn.imp id (ih us ds n)
      exact e _ _ _ _ hn)
    simpa using this
  obtain ⟨ls, hls, hfit⟩ := open_args (F := fun b => b < W.heap.size) (ρ := fun _ => none) (fun _ h => h) hshape (fun j t v ht hv => hval j t v (by rw [← Array.getElem?_toList]; exact ht) (by rw [← Array.getElem?_toList]; exact hv)) hA hall
  refine (law_calls (hcon ls hfit) (hX W hXW) (fun b hb => hb) hls).mono fun e W1 ⟨he, hb⟩ => ?_
  subst he
  exact ⟨_, rfl, law_post hl hr hrt htb hv (hsp ds (by rw [trodAll_length hA]; simp)) hW' hb⟩
end Go.Ev

namespace Go.Ev
open Go
theorem inR_i8 {n : Int} (h : inR .i8 n) : -128 ≤ n ∧ n ≤ 127 := by simpa [inR, Lit.wf, IntKind.min, IntKind.max, IntKind.signed, IntKind.bits] using h
theorem inR_i16 {n : Int} (h : inR .i16 n) : -32768 ≤ n ∧ n ≤ 32767 := by simpa [inR, Lit.wf, IntKind.min, IntKind.max, IntKind.signed, IntKind.bits] using h
theorem inR_i32 {n : Int} (h : inR .i32 n) : -2147483648 ≤ n ∧ n ≤ 2147483647 := by simpa [inR, Lit.wf, IntKind.min, IntKind.max, IntKind.signed, IntKind.bits] using h
theorem inR_i64 {n : Int} (h : inR .i64 n) : -9223372036854775808 ≤ n ∧ n ≤ 9223372036854775807 := by simpa [inR, Lit.wf, IntKind.min, IntKind.max, IntKind.signed, IntKind.bits] using h
theorem inR_u8 {n : Int} (h : inR .u8 n) : 0 ≤ n ∧ n ≤ 255 := by simpa [inR, Lit.wf, IntKind.min, IntKind.max, IntKind.signed, IntKind.bits] using h
theorem inR_u16 {n : Int} (h : inR .u16 n) : 0 ≤ n ∧ n ≤ 65535 := by simpa [inR, Lit.wf, IntKind.min, IntKind.max, IntKind.signed, IntKind.bits] using h
theorem inR_u32 {n : Int} (h : inR .u32 n) : 0 ≤ n ∧ n ≤ 4294967295 := by simpa [inR, Lit.wf, IntKind.min, IntKind.max, IntKind.signed, IntKind.bits] using h
theorem inR_u64 {n : Int} (h : inR .u64 n) : 0 ≤ n ∧ n ≤ 18446744073709551615 := by simpa [inR, Lit.wf, IntKind.min, IntKind.max, IntKind.signed, IntKind.bits] using h

/-- A row that lists no variable: its condition. -/
theorem pre_plain {H : Type} {enc : TypeId × Value → H} {P : Program} {fn : Func} {c : OpenClaim} {s : ChangeSpec} (hl : c.laid = []) : c.pre enc P fn (OpenSpec.ofChange s) = fun w args => (s.pre enc P fn c.domain c.apart w args ∧ True) ∧ sizedMet enc P fn (OpenSpec.ofChange s) c.apart w args := by
  funext w args
  unfold OpenClaim.pre OpenClaim.preLaid
  rw [hl, and_true]
  rfl
end Go.Ev
