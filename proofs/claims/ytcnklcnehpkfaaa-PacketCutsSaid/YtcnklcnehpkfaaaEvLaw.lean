/-
  A law's answer: the call returned true and has turned nothing that was there before it. Then the row's claim on the state behind it holds.
-/
import Derived.Test.YtcnklcnehpkfaaaEvFz
import Derived.ProofKit
import Derived.LaidMore
import Derived.OpenShut
import Derived.Stop.Joined
import Derived.Carry
import Derived.Lib.SmallJoins
namespace Go.Ev
open Go Go.ChangeShapes Go.WideShapes Go.ChangeAt Go.WideMaps Go.WideElems Go.RowKit
set_option linter.unusedVariables false
set_option linter.unusedSimpArgs false

theorem keptBut_of_below {W W' : World} (hb : Below W.heap.size W W') (may : MemPlace → Prop) : W.keptBut W' may := by
  refine ⟨hb.os, hb.output, fun i hi => ?_⟩
  rw [hb.block i hi]
  cases h : W.heap[i]? with
  | none => trivial
  | some o => cases o <;> simp

theorem trodAll_below {H : Type} {enc : TypeId × Value → H} {P : Program} (hl : laidOutB P = true) {W W' : World} (hb : Below W.heap.size W W') :
    ∀ {ts : List TypeId} {vs : List Value} {ds : List (DataW H)} {ps : List MemPlace}, ts.all (fun t => P.readableRec t && decide (t < P.types.size)) = true → DataW.TrodAll enc P W 0 (fun _ => true) true ts vs ds ps → (∀ x ∈ ps, x.block < W.heap.size) →
      DataW.TrodAll enc P W' 0 (fun b => decide (b < W.heap.size)) true ts vs ds ps
  | [], vs, ds, ps, _, h, _ => by
    cases vs <;> cases ds <;> simp [DataW.TrodAll] at h ⊢
    exact h
  | t :: ts, vs, ds, ps, hr, h, hlt => by
    obtain ⟨v, vs', d, ds', p, q, rfl, rfl, rfl, h1, h2⟩ := trodAll_cons h
    simp only [List.all_cons, Bool.and_eq_true, decide_eq_true_eq] at hr
    exact ⟨p, q, Below.trod hl hr.1.1 hr.1.2 h1 hb fun x hx => hlt x (List.mem_append.2 (.inl hx)), trodAll_below hl hb hr.2 h2 fun x hx => hlt x (List.mem_append.2 (.inr hx)), rfl⟩

theorem law_post {H : Type} {enc : TypeId × Value → H} {P : Program} {f : Func} {s : ChangeSpec} {apart fresh handsOn : Bool} {W W' : World} {args : Array Value} {ds : List (DataW H)} {before : List MemPlace} {tb : TypeId}
    (hl : laidOutB P = true) (hr : f.params.toList.all (fun t => P.readableRec t && decide (t < P.types.size)) = true) (hrt : f.resultTypes = #[tb]) (htb : P.underlying tb = some .bool) (hv : s.vars = [])
    (hfn : s.fn H ds = { results := [.lit (.bool true)], args := ds }) (hW : DataW.Whole enc P f.params.toList s.vars apart W args.toList ds [] before) (hb : Below W.heap.size W W') :
    s.post enc P f apart fresh handsOn false W args (.bool true) W' := by
  have hlt : ∀ p ∈ before, p.block < W.heap.size := fun p hp => hW.lt p hp
  have hW0 := hW
  obtain ⟨p, q, h1, h2, h3, _, _⟩ := hW
  rw [hv] at h2
  obtain ⟨_, rfl⟩ := trodVars_none h2
  rw [List.append_nil] at h3
  subst h3
  refine ⟨ds, [], before, [], before, [], hW0, ?_, ?_, ?_, keptBut_of_below hb _, fun h => by cases h⟩
  · rw [List.append_nil, hfn, hrt]
    exact trodAll_mk1 (shut_bool htb _)
  · rw [List.append_nil, hfn]
    exact trodAll_below hl hb hr h1 hlt
  · rw [List.append_nil, hfn, hv]
    exact rfl

/-- A frame that spares nothing is the kit's. -/
theorem Frame'.below {X : Nat → Prop} {w0 w : World} (h : Frame' X w0 w) (hX : ∀ b, ¬ X b) : Below w0.heap.size w0 w := ⟨h.os, h.tape, h.output, h.size, fun k hk => h.block k hk (hX k)⟩

/-- A LAW by its contract: it returns true, and nothing of the caller's has turned. -/
theorem law_calls {P : Program} {L : Lay} {f : FuncId} {args : List AV} (hc : Con P L f [] args [] (.c (.bool true))) {W : World} {vs : Array Value} {F0 : Nat → Prop} (hL : layMet L F0 W) (hF : ∀ b, F0 b → b < W.heap.size)
    (hv : ARL F0 W (fun _ => none) args vs.toList) : Calls P f vs W fun e w' => e = .returned (.bool true) ∧ Below W.heap.size W w' := by
  have hno : ∀ b, ¬ ∃ n, ((([] : List HObj).getD n .dead).live) ∧ blkOf (fun _ => none) n = some b := fun b ⟨n, h, _⟩ => by simp [HObj.live] at h
  have M : Mem L (fun b => ∃ n, ((([] : List HObj).getD n .dead).live) ∧ blkOf (fun _ => none) n = some b) W F0 W (fun _ => none) (fun n => ([] : List HObj).getD n .dead) :=
    ⟨fun n => by simp [HR], fun n m b _ h => by simp [HObj.live] at h, fun n b h => by simp [HObj.live] at h, fun n b h => by simp [HObj.live] at h, hF, ⟨rfl, rfl, rfl, Nat.le_refl _, fun _ _ _ => rfl⟩, hL⟩
  have := hc.2 W vs.toList F0 (fun _ => none) (fun _ _ => rfl) M hv
  simp only [Array.toArray_toList] at this
  refine this.mono fun e w' h => ?_
  obtain ⟨v, F, ρ, he, _, _, _, _, hM, hr⟩ := h
  simp only [AR] at hr
  subst hr
  exact ⟨he, hM.fr.below hno⟩

/-- A listed table of numbers: its cells. -/
theorem arr_ints {H : Type} {enc : TypeId × Value → H} {P : Program} {w : World} {base fuel n : Nat} {spare : Nat → Bool} {held : Bool} {t e : TypeId} {k : IntKind} {cs : List Value} {x : DataW H × List MemPlace} (ht : P.underlying t = some (.array n e)) (he : P.underlying e = some (.int k)) (hc : P.cellsOf e = 1)
    (h : DataW.trod enc P w base spare held fuel t cs = some x) {zs : List Int} (hx : x.1 = .agg (zs.map fun z => (DataW.lit (Lit.int k z) : DataW H))) : ∀ (i : Nat) (z : Int), zs[i]? = some z → cs[i]? = some (Value.int k z) := by
  obtain ⟨xs, m, _, rfl, _, hn, hel⟩ := DataW.trod_array ht h
  simp only [DataW.agg.injEq] at hx
  intro i z hz
  have hlt : i < zs.length := (List.getElem?_eq_some_iff.1 hz).1
  have hlen : xs.length = zs.length := by have := congrArg List.length hx; simpa using this
  have h1 := hel i (by omega)
  rw [hc, Nat.mul_one] at h1
  have hy : xs[i]? = some xs[i] := List.getElem?_eq_getElem (by omega)
  rw [hy] at h1
  obtain ⟨z', e1, e2, _⟩ := DataW.trod_int he h1
  have h2 : (xs.map (·.1))[i]? = some (.lit (.int k z)) := by rw [hx]; simp [hz]
  rw [List.getElem?_map, hy, e2] at h2
  simp only [Option.map_some, Option.some.injEq, DataW.lit.injEq, Lit.int.injEq, true_and] at h2
  subst h2
  have h3 : ((cs.drop i).take 1)[0]? = some (.int k z') := by rw [e1]; rfl
  simpa using h3
end Go.Ev
