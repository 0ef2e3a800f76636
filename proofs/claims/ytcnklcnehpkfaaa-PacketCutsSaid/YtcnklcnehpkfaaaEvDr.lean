/-
  The executor is right: a region that draws its order. First: what an operation looks at.
-/
import Derived.Test.YtcnklcnehpkfaaaEvN
namespace Go.Ev
open Go Go.RowKit
set_option linter.unusedVariables false
set_option linter.unusedSimpArgs false

section look
variable {L : Lay} {E : Env} {C : Tab} {P : Program} {look look' : Nat → HObj} {fr : Nat}

theorem cellsAt_look {ad : AV} {n : Nat} (h : ∀ m ∈ topNames ad, look m = look' m) : cellsAt L look ad n = cellsAt L look' ad n := by
  cases ad with
  | p m off => simp only [cellsAt, h m (by simp [topNames, names1])]
  | _ => rfl

theorem elemsA_look {x : AV} (h : ∀ m ∈ topNames x, look m = look' m) : elemsA look x = elemsA look' x := by
  cases x with
  | s n off len cap => simp only [elemsA, h n (by simp [topNames, names1])]
  | x n off len cap => simp only [elemsA, h n (by simp [topNames, names1])]
  | c v => unfold elemsA; split <;> simp_all
  | _ => rfl

theorem destA_look {e : TypeId} {ei : TyI} {x : AV} (h : ∀ m ∈ topNames x, look m = look' m) : destA look e ei x = destA look' e ei x := by
  cases x with
  | s n off len cap => cases off <;> simp only [destA, h n (by simp [topNames, names1])]
  | c v => unfold destA; split <;> simp_all
  | _ => rfl

theorem appendA_look {t : TypeId} {s x : AV} (h1 : ∀ m ∈ topNames s, look m = look' m) (h2 : ∀ m ∈ topNames x, look m = look' m) : appendA E look fr t s x = appendA E look' fr t s x := by
  simp only [appendA, elemsA_look h2, fun e ei => destA_look (e := e) (ei := ei) h1]

theorem appendZ_look {t t' : TypeId} {s x : AV} (h1 : ∀ m ∈ topNames s, look m = look' m) : appendZ E look fr t t' s x = appendZ E look' fr t t' s x := by
  simp only [appendZ, fun e ei => destA_look (e := e) (ei := ei) h1]

theorem builtinA_look {b : Builtin} {ts : List TypeId} {args : List AV} (h : ∀ x ∈ args, ∀ m ∈ topNames x, look m = look' m) : builtinA E look fr b ts args = builtinA E look' fr b ts args := by
  unfold builtinA
  split <;> try rfl
  rename_i s x
  split <;> try rfl
  rw [appendA_look (h s (by simp)) (h x (by simp)), appendZ_look (h s (by simp))]

theorem copyA_look {t : TypeId} {d x : AV} (h1 : ∀ m ∈ topNames d, look m = look' m) (h2 : ∀ m ∈ topNames x, look m = look' m) : copyA E look t d x = copyA E look' t d x := by
  simp only [copyA, elemsA_look h2]
  congr 1; funext ti
  split
  · congr 1; funext ei; congr 1; funext q
    cases d with
    | s n off len cap => simp only [h1 n (by simp [topNames, names1])]
    | x n off len cap => simp only [h1 n (by simp [topNames, names1])]
    | _ => rfl
  · rfl

theorem frzE_look {x : AV} (h : ∀ m ∈ namesOf [x], look m = look' m) : frzE look x = frzE look' x := by
  cases x with
  | s n off len cap => simp only [frzE, h n (by simp [namesOf])]
  | x n off len cap => simp only [frzE, h n (by simp [namesOf])]
  | _ => rfl

theorem namesOf_cons {x : AV} {l : List AV} {m : Nat} : m ∈ namesOf (x :: l) ↔ m ∈ namesOf [x] ∨ m ∈ namesOf l := by
  cases x <;> simp [namesOf]

theorem frzEL_look : ∀ {l : List AV}, (∀ m ∈ namesOf l, look m = look' m) → frzEL look l = frzEL look' l
  | [], _ => rfl
  | x :: l, h => by
    simp only [frzEL, frzE_look (fun m hm => h m (namesOf_cons.2 (.inl hm))), frzEL_look (l := l) fun m hm => h m (namesOf_cons.2 (.inr hm))]

theorem namesOf_one {x : AV} {m : Nat} (h : m ∈ namesOf [x]) : m ∈ names1 x := by
  cases x <;> simp [namesOf] at h <;> simp [names1, h]

theorem frz_look {x : AV} (h : ∀ m ∈ names1 x, look m = look' m) : frz look x = frz look' x := by
  cases x with
  | a l => simp only [frz, frzEL_look (l := l) h]
  | _ => exact frzE_look fun m hm => h m (namesOf_one hm)

theorem frzL_look : ∀ {l : List AV}, (∀ x ∈ l, ∀ m ∈ names1 x, look m = look' m) → frzL look l = frzL look' l
  | [], _ => rfl
  | x :: l, h => by
    simp only [frzL, frz_look (h x (by simp)), frzL_look (l := l) fun y hy => h y (by simp [hy])]

theorem mem_ddp : ∀ {l : List Nat} {m : Nat}, m ∈ ddp l → m ∈ l
  | [], _, h => by simp [ddp] at h
  | x :: l, m, h => by
    simp only [ddp] at h
    split at h
    · exact List.mem_cons_of_mem _ (mem_ddp h)
    · rcases List.mem_cons.1 h with rfl | h
      · simp
      · exact List.mem_cons_of_mem _ (mem_ddp h)

theorem namesOf_top : ∀ {l : List AV} {m : Nat}, m ∈ namesOf l → ∃ x ∈ l, m ∈ names1 x
  | [], _, h => by simp [namesOf] at h
  | x :: l, m, h => by
    rcases namesOf_cons.1 h with h | h
    · exact ⟨x, by simp, namesOf_one h⟩
    · obtain ⟨y, hy, hm⟩ := namesOf_top h
      exact ⟨y, by simp [hy], hm⟩

theorem flatMap_congr' {α β : Type} {f g : α → List β} : ∀ {l : List α}, (∀ x ∈ l, f x = g x) → l.flatMap f = l.flatMap g
  | [], _ => rfl
  | x :: l, h => by simp only [List.flatMap_cons, h x (by simp), flatMap_congr' (l := l) fun y hy => h y (by simp [hy])]

theorem deepA_look : ∀ {k : Nat} {x : AV}, (∀ m ∈ deepA look k x, look m = look' m) → deepA look k x = deepA look' k x
  | 0, _, _ => rfl
  | k + 1, .p n off, h => by
    simp only [deepA] at h ⊢
    have e := h n (by simp)
    rw [← e]
    split
    · rename_i c hc
      rw [hc] at h
      congr 1
      exact flatMap_congr' fun x hx => deepA_look fun m hm => h m (by simp only [List.mem_cons, List.mem_flatMap]; exact .inr ⟨x, hx, hm⟩)
    · rfl
  | _ + 1, .s .., _ => rfl
  | _ + 1, .x .., _ => rfl
  | k + 1, .f _ l, h => by
    simp only [deepA] at h ⊢
    exact flatMap_congr' fun x hx => deepA_look fun m hm => h m (List.mem_flatMap.2 ⟨x, hx, hm⟩)
  | k + 1, .i _ x, h => by
    simp only [deepA] at h ⊢; exact deepA_look h
  | k + 1, .a l, h => by
    simp only [deepA] at h ⊢
    exact flatMap_congr' fun x hx => deepA_look fun m hm => h m (List.mem_flatMap.2 ⟨x, hx, hm⟩)
  | _ + 1, .c _, _ => rfl
  | _ + 1, .gp .., _ => rfl
  | _ + 1, .q .., _ => rfl
  | _ + 1, .ri .., _ => rfl
  | _ + 1, .rr .., _ => rfl
  | _ + 1, .t _, _ => rfl
  | _ + 1, .g .., _ => rfl

theorem callA_look {f : FuncId} {args : List AV} (h : ∀ x ∈ args, ∀ m ∈ names1 x, look m = look' m) (hd : ∀ x ∈ args, ∀ m ∈ deepA look 4 x, look m = look' m) : callA P L C look fr f args = callA P L C look' fr f args := by
  have e0 : args.flatMap (deepA look 4) = args.flatMap (deepA look' 4) := flatMap_congr' fun x hx => deepA_look (hd x hx)
  have hm : ∀ m ∈ ddp (args.flatMap (deepA look' 4)), look m = look' m := fun m hm => by
    have := mem_ddp hm
    rw [← e0] at this
    obtain ⟨x, hx, hm⟩ := List.mem_flatMap.1 this
    exact hd x hx m hm
  have e : ((ddp (args.flatMap (deepA look' 4))).map fun n => (look n).ren fun n => (ddp (args.flatMap (deepA look' 4))).idxOf n) = (ddp (args.flatMap (deepA look' 4))).map fun n => (look' n).ren fun n => (ddp (args.flatMap (deepA look' 4))).idxOf n :=
    List.map_congr_left fun m hm' => by rw [hm m hm']
  have e2 : ((ddp (args.flatMap (deepA look' 4))).map fun n => (look n).live ∧ (look n).ns (ddp (args.flatMap (deepA look' 4)))) = (ddp (args.flatMap (deepA look' 4))).map fun n => (look' n).live ∧ (look' n).ns (ddp (args.flatMap (deepA look' 4))) :=
    List.map_congr_left fun m hm' => by rw [hm m hm']
  simp only [callA, e0, e, e2, frzL_look h]

theorem names1_top {x : AV} {m : Nat} (h : m ∈ names1 x) : m ∈ topNames x := by
  cases x <;> first | exact h | (simp [names1] at h)

theorem mapM'_mem {α β : Type} {f : α → Option β} {l : List α} {r : List β} (h : mapM' f l = some r) {y : β} (hy : y ∈ r) : ∃ x ∈ l, f x = some y := by
  obtain ⟨hl, hg⟩ := mapM'_get h
  obtain ⟨i, hi⟩ := List.getElem?_of_mem hy
  have hlt : i < l.length := by rw [← hl]; exact (List.getElem?_eq_some_iff.1 hi).1
  obtain ⟨y', h1, h2⟩ := hg i l[i] (List.getElem?_eq_getElem hlt)
  rw [hi] at h1
  exact ⟨l[i], List.getElem_mem hlt, by rw [h2]; exact h1.symm⟩

theorem viewP_look {ad : AV} {n : Nat} {l : List AV} (h : ∀ m ∈ topNames ad, look m = look' m) : viewP look ad n l = viewP look' ad n l := by
  cases ad with
  | p m off => simp only [viewP, h m (by simp [topNames, names1])]
  | _ => rfl

theorem evOp_look {ev : Operand → Option AV} {o : Oper} (h : readsMem o.op = true → ∀ x ∈ o.op.operands, ∀ y, ev x = some y → ∀ m ∈ topNames y ++ (deepA look 4 y ++ deepA look 5 y), look m = look' m) : evOp P L E C look fr ev o = evOp P L E C look' fr ev o := by
  have hdp := fun hr x hx y hy m hm => h hr x hx y hy m (List.mem_append_right _ (List.mem_append_left _ hm))
  have hdp5 := fun hr x hx y hy m hm => h hr x hx y hy m (List.mem_append_right _ (List.mem_append_right _ hm))
  have h := fun hr x hx y hy m hm => h hr x hx y hy m (List.mem_append_left _ hm)
  obtain ⟨dst, op, ty, pos, after, guard⟩ := o
  cases op with
  | load t x =>
    have h := h rfl
    simp only [evOp]
    cases hx : ev x with
    | none => simp
    | some ad =>
      have he : ∀ n, cellsAt L look ad n = cellsAt L look' ad n := fun n => cellsAt_look (h x (by simp [Op.operands]) ad hx)
      have hv : ∀ n l, viewP look ad n l = viewP look' ad n l := fun n l => viewP_look (h x (by simp [Op.operands]) ad hx)
      simp only [Option.bind_eq_bind, Option.bind_some, he, hv]
  | store t x y =>
    have h := h rfl
    simp only [evOp]
    cases hx : ev x with
    | none => simp
    | some ad =>
      cases ad with
      | p n off =>
        have he := h x (by simp [Op.operands]) _ hx n (by simp [topNames, names1])
        simp only [Option.bind_eq_bind, Option.bind_some, he]
      | _ => rfl
  | convert s d x =>
    have h := h rfl
    simp only [evOp]
    cases hx : ev x with
    | none => simp
    | some y =>
      have he := elemsA_look (h x (by simp [Op.operands]) y hx)
      simp only [Option.bind_eq_bind, Option.bind_some]
      congr 1; funext si; congr 1; funext di
      split <;> first | rfl | rw [he]
  | indexAddr t x i =>
    have h := h rfl
    simp only [evOp]
    cases hx : ev x with
    | none => simp
    | some y =>
      have hy := h x (by simp [Op.operands]) y hx
      cases y with
      | s n off len cap =>
        have he := hy n (by simp [topNames, names1])
        simp only [Option.bind_eq_bind, Option.bind_some]
        congr 1; funext ti; congr 1; funext di
        split <;> first | rfl | simp only [he]
      | x n off len cap =>
        have he := hy n (by simp [topNames, names1])
        simp only [Option.bind_eq_bind, Option.bind_some]
        congr 1; funext ti; congr 1; funext di
        split <;> first | rfl | simp only [he]
      | _ =>
        simp only [Option.bind_eq_bind, Option.bind_some]
        congr 1; funext ti; congr 1; funext di
        split <;> rfl
  | makeFunc fn first cap => cases fn <;> rfl
  | call c =>
    have h := h rfl
    obtain ⟨callee, args, ts⟩ := c
    simp only [evOp]
    cases ha : mapM' ev args.toList with
    | none => simp
    | some l =>
      have hl : ∀ y ∈ l, ∀ m ∈ topNames y, look m = look' m := fun y hy => by
        obtain ⟨x, hx, he⟩ := mapM'_mem ha hy
        exact h x (by simp only [Op.operands, Call.operands, Array.mem_append]; exact .inr (Array.mem_toList_iff.1 hx)) y he
      have hld : ∀ y ∈ l, ∀ m ∈ deepA look 4 y, look m = look' m := fun y hy => by
        obtain ⟨x, hx, he⟩ := mapM'_mem ha hy
        exact hdp rfl x (by simp only [Op.operands, Call.operands, Array.mem_append]; exact .inr (Array.mem_toList_iff.1 hx)) y he
      cases callee with
      | builtin b =>
        have hb : builtinA E look fr b ts.toList l = builtinA E look' fr b ts.toList l := builtinA_look hl
        cases b with
        | copy =>
          simp only [Option.bind_some, Option.bind_eq_bind]
          split
          · exact copyA_look (hl _ (by simp)) (hl _ (by simp))
          · rfl
        | _ => simp only [Option.bind_some, Option.bind_eq_bind, hb]
      | value f =>
        simp only [Option.bind_some, Option.bind_eq_bind]
        cases hf : ev f with
        | none => rfl
        | some y =>
          cases y with
          | f fn cap =>
            simp only [Option.bind_some]
            refine callA_look (fun x hx m hm => ?_) (fun x hx m hm => ?_)
            · rcases List.mem_append.1 hx with hx | hx
              · exact hl x hx m (names1_top hm)
              · exact h f (by simp [Op.operands, Call.operands]) _ hf m (by simp only [topNames, List.mem_flatMap]; exact ⟨x, hx, hm⟩)
            · rcases List.mem_append.1 hx with hx | hx
              · exact hld x hx m hm
              · exact hdp5 rfl f (by simp [Op.operands, Call.operands]) _ hf m (by simp only [deepA, List.mem_flatMap]; exact ⟨x, hx, hm⟩)
          | _ => rfl
      | invoke r m =>
        simp only [Option.bind_some, Option.bind_eq_bind]
        cases hr : ev r with
        | none => rfl
        | some y =>
          cases y with
          | i ty x =>
            simp only [Option.bind_some]
            have e : ∀ f, callA P L C look fr f (x :: l) = callA P L C look' fr f (x :: l) := fun f => by
              refine callA_look (fun z hz m hm => ?_) (fun z hz m hm => ?_)
              · rcases List.mem_cons.1 hz with rfl | hz
                · exact h r (by simp [Op.operands, Call.operands]) _ hr m (by simp only [topNames]; exact hm)
                · exact hl z hz m (names1_top hm)
              · rcases List.mem_cons.1 hz with rfl | hz
                · exact hdp5 rfl r (by simp [Op.operands, Call.operands]) _ hr m (by simp only [deepA]; exact hm)
                · exact hld z hz m hm
            simp only [e]
          | _ => rfl
  | _ => rfl

theorem rdN_self {y : AV} (hg : ∀ b z, y ≠ .g b z) : rdN look y = topNames y ++ (deepA look 4 y ++ deepA look 5 y) := by
  cases y <;> first | rfl | exact absurd rfl (hg _ _)
theorem topR : ∀ {z : AV} {m : Nat}, m ∈ topNames z → m ∈ rdN look z
  | .g b x, m, h => by simp only [rdN]; simp only [topNames] at h; exact topR h
  | .c _, _, h => by simp only [rdN, List.mem_append]; exact .inl h
  | .p .., _, h => by simp only [rdN, List.mem_append]; exact .inl h
  | .gp .., _, h => by simp only [rdN, List.mem_append]; exact .inl h
  | .s .., _, h => by simp only [rdN, List.mem_append]; exact .inl h
  | .x .., _, h => by simp only [rdN, List.mem_append]; exact .inl h
  | .q .., _, h => by simp only [rdN, List.mem_append]; exact .inl h
  | .ri .., _, h => by simp only [rdN, List.mem_append]; exact .inl h
  | .rr .., _, h => by simp only [rdN, List.mem_append]; exact .inl h
  | .a _, _, h => by simp only [rdN, List.mem_append]; exact .inl h
  | .t _, _, h => by simp only [rdN, List.mem_append]; exact .inl h
  | .f .., _, h => by simp only [rdN, List.mem_append]; exact .inl h
  | .i .., _, h => by simp only [rdN, List.mem_append]; exact .inl h
theorem rdN_unG {y : AV} {m : Nat} (h : m ∈ topNames (unG y) ++ (deepA look 4 (unG y) ++ deepA look 5 (unG y))) : m ∈ rdN look y := by
  cases y with
  | g b z =>
    simp only [unG, rdN] at h ⊢
    cases z with
    | g b' z' => simp only [deepA, List.append_nil, topNames] at h; simp only [rdN]; exact topR h
    | _ => exact h
  | _ => exact h

/-- Two tables of slots that agree where an operation looks. -/
theorem evX_agree {t t' : List (Nat × AV)} {o : Oper} {ops : Array Oper} (h : ∀ d ∈ o.looksAt ops, look1 t d = look1 t' d) {x : Operand} (hx : x ∈ o.op.operands) : evX t x = evX t' x := by
  cases x with
  | tmp d =>
    refine h d ?_
    simp only [Oper.looksAt, List.mem_append, List.mem_filterMap]
    exact .inl ⟨.tmp d, Array.mem_toList_iff.2 hx, rfl⟩
  | _ => rfl

theorem gsOf_agree {t t' : List (Nat × AV)} {l : List Operand} (h : ∀ x ∈ l, evX t x = evX t' x) : gsOf t l = gsOf t' l := by
  induction l with
  | nil => rfl
  | cons x l ih =>
    simp only [gsOf, List.flatMap_cons, h x (by simp)]
    rw [show List.flatMap _ l = gsOf t l from rfl, ih fun y hy => h y (by simp [hy])]
    rfl

theorem evStep_agree {t t' : List (Nat × AV)} {o : Oper} {ops : Array Oper} (h : ∀ d ∈ o.looksAt ops, look1 t d = look1 t' d)
    (hl : readsMem o.op = true → ∀ x ∈ o.op.operands, ∀ y, evX t x = some y → ∀ m ∈ rdN look y, look m = look' m) : evStep P L E C look fr t ops o = evStep P L E C look' fr t' ops o := by
  have hev : ∀ x ∈ o.op.operands, evX t x = evX t' x := fun x hx => evX_agree h hx
  have hb : evBare P L E C look fr t o = evBare P L E C look' fr t' o := by
    unfold evBare
    split
    · rename_i c x y hop
      simp only [hev c (by simp [hop, Op.operands]), hev x (by simp [hop, Op.operands]), hev y (by simp [hop, Op.operands])]
    · rename_i op hop
      rw [evOp_look (look' := look') fun hr x hx y hy m hm => by
          cases hx' : evX t x with
          | none => rw [hx'] at hy; cases hy
          | some z =>
            rw [hx'] at hy
            simp only [Option.map_some, Option.some.injEq] at hy
            subst hy
            exact hl hr x hx z hx' m (rdN_unG hm),
        evOp_congr (ev' := fun x => (evX t' x).map unG) fun x hx => by rw [hev x hx],
        gsOf_agree fun x hx => hev x (Array.mem_toList_iff.1 hx)]
  unfold evStep
  split
  · exact hb
  · rename_i j want hg
    have hga : guardA t ops j want = guardA t' ops j want := by
      simp only [guardA]
      cases hj : ops[j]? with
      | none => simp
      | some oj =>
        cases hd : oj.dst with
        | none => simp [hd]
        | some d =>
          have := h d (by simp [Oper.looksAt, hg, hj, hd])
          simp only [Option.bind_eq_bind, Option.bind_some, hd, this]
    rw [hga, hb]
end look
end Go.Ev
