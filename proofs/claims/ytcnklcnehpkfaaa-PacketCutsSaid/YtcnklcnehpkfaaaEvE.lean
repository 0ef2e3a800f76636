/-
  The executor is right, operation by operation (2): what a step leaves; the steps that write nothing.
-/
import Derived.Test.YtcnklcnehpkfaaaEvD
namespace Go.Ev
open Go Go.RowKit
set_option linter.unusedVariables false
set_option linter.unusedSimpArgs false

/-- What a step makes of the blocks. -/
def look2 {α : Type} : List (Nat × α) → Nat → Option α
  | [], _ => none
  | (m, x) :: l, n => if m = n then some x else look2 l n

def eff (h : Nat → HObj) (fr : Nat) (ws : List (Nat × HObj)) (news : List HObj) : Nat → HObj := fun n =>
  match look2 ws n with
  | some o => o
  | none => if fr ≤ n ∧ n < fr + news.length then news.getD (n - fr) .dead else h n

theorem eff_nil (h : Nat → HObj) (fr : Nat) : eff h fr [] [] = h := by
  funext n; simp only [eff, look2, List.length_nil, Nat.add_zero]; rw [if_neg (by omega)]

/-- What a step leaves. -/
structure Post (L : Lay) (X : Nat → Prop) (w0 : World) (F : Nat → Prop) (w : World) (ρ : Ren) (h : Nat → HObj) (fr : Nat) (out : Out) (v : Value) (w' : World) (ρ' : Ren) (F' : Nat → Prop) : Prop where
  stay : ∀ b, F b → F' b ∧ w'.heap[b]? = w.heap[b]?
  ext : ∀ n lo, ρ n = some lo → ρ' n = some lo
  fnew : ∀ b, F' b → F b ∨ w0.heap.size ≤ b
  names : ∀ n, ¬ (fr ≤ n ∧ n < fr + out.news.length) → ρ' n = ρ n
  mem : Mem L X w0 F' w' ρ' (eff h fr out.ws out.news)
  val : AR F' w' ρ' out.v v

/-- What the steps lean on. -/
structure Good (P : Program) (L : Lay) (E : Env) (X : Nat → Prop) (w0 : World) (F : Nat → Prop) (w : World) (ρ : Ren) (h look : Nat → HObj) (fr : Nat) (a : Act) (ev : Operand → Option AV) : Prop where
  env : EnvOK P E
  mem : Mem L X w0 F w ρ h
  look : ∀ n, (look n).live → look n = h n
  ev : ∀ x y, ev x = some y → AR F w ρ y (a.eval x)

def Sound (P : Program) (L : Lay) (X : Nat → Prop) (w0 : World) (F : Nat → Prop) (w : World) (ρ : Ren) (h : Nat → HObj) (fr : Nat) (a : Act) (o : Oper) (out : Out) : Prop :=
  ∀ (next : Act → World → Prop) (Q : Exit → Act → World → Prop), (∀ v w' ρ' F', Post L X w0 F w ρ h fr out v w' ρ' F' → next (a.put o.dst v) w') → o.wp P a w next Q

section
variable {P : Program} {L : Lay} {E : Env} {C : Tab} {X : Nat → Prop} {w0 : World} {F : Nat → Prop} {w : World} {ρ : Ren} {h look : Nat → HObj} {fr : Nat} {a : Act} {ev : Operand → Option AV} {o : Oper} {out : Out}

theorem Post.pure (M : Mem L X w0 F w ρ h) {x : AV} {v : Value} {os : List Prop} (hx : AR F w ρ x v) : Post L X w0 F w ρ h fr ⟨x, [], [], os⟩ v w ρ F :=
  ⟨fun _ hb => ⟨hb, rfl⟩, fun _ _ hn => hn, fun _ hb => .inl hb, fun _ _ => rfl, by simpa only [eff_nil] using M, hx⟩

theorem Sound.value {v : Value} {w' : World} (hrun : (execOp a.eval o).run P w = .ok (.value v) w') {ρ' : Ren} {F' : Nat → Prop} (hp : Post L X w0 F w ρ h fr out v w' ρ' F') : Sound P L X w0 F w ρ h fr a o out := by
  intro next Q hn
  unfold Oper.wp
  rw [hrun]
  exact hn _ _ _ _ hp

theorem Sound.skip {w' : World} (hrun : (execOp a.eval o).run P w = .ok .skip w') {ρ' : Ren} {F' : Nat → Prop} (hp : Post L X w0 F w ρ h fr out undef w' ρ' F') : Sound P L X w0 F w ρ h fr a o out := by
  intro next Q hn
  unfold Oper.wp
  rw [hrun]
  exact hn _ _ _ _ hp

theorem Sound.pure (G : Good P L E X w0 F w ρ h look fr a ev) {x : AV} {os : List Prop} {v : Value} (hrun : (execOp a.eval o).run P w = .ok (.value v) w) (hx : AR F w ρ x v) : Sound P L X w0 F w ρ h fr a o ⟨x, [], [], os⟩ :=
  .value hrun (.pure G.mem hx)

/-- A value's run, in the form that 'execOp' has it. -/
theorem run_v {s : Sem Value} {v : Value} {w' : World} (hs : s.run P w = .ok v w') : (do pure (Next.value (← s)) : Sem Next).run P w = .ok (.value v) w' := by
  simp [hs, Result.andThen]

theorem mapM'_get {α β : Type} {f : α → Option β} : ∀ {l : List α} {r : List β}, mapM' f l = some r → r.length = l.length ∧ ∀ (i : Nat) (x : α), l[i]? = some x → ∃ y, r[i]? = some y ∧ f x = some y
  | [], r, h => by simp only [mapM', Option.some.injEq] at h; subst h; simp
  | x :: l, r, h => by
    simp only [mapM', Option.bind_eq_bind, Option.bind_eq_some_iff, Option.some.injEq] at h
    obtain ⟨y, hy, s, hs, rfl⟩ := h
    obtain ⟨h1, h2⟩ := mapM'_get hs
    refine ⟨by simp [h1], fun i z hz => ?_⟩
    cases i with
    | zero => simp at hz; subst hz; exact ⟨y, by simp, hy⟩
    | succ i => simp at hz; simpa using h2 i z hz

theorem Good.evs (G : Good P L E X w0 F w ρ h look fr a ev) {xs : List Operand} {r : List AV} (hr : mapM' ev xs = some r) : ARL F w ρ r (xs.map a.eval) := by
  obtain ⟨h1, h2⟩ := mapM'_get hr
  refine ARL.of_get (by simp [h1]) fun i y hy => ?_
  have hlt : i < xs.length := by rw [← h1]; exact (List.getElem?_eq_some_iff.1 hy).1
  obtain ⟨y', hy', he⟩ := h2 i xs[i] (List.getElem?_eq_getElem hlt)
  rw [hy] at hy'
  obtain rfl := Option.some.inj hy'
  exact ⟨a.eval xs[i], by simp [List.getElem?_eq_getElem hlt], G.ev _ _ he⟩

/-! ### The operations on plain values -/

theorem sound_move {x : Operand} {y : AV} (G : Good P L E X w0 F w ρ h look fr a ev) (hop : o.op = .move x ∨ o.op = .assign x) (hy : ev x = some y) : Sound P L X w0 F w ρ h fr a o ⟨y, [], [], []⟩ :=
  .pure G (by rcases hop with hop | hop <;> simp [execOp, hop]) (G.ev _ _ hy)

theorem intOp_sound {op : BinOp} {k : IntKind} {x y : Int} {z : AV} {ps : List Prop} (hz : intOp op k x y = some (z, ps)) (hp : All ps) (t : TypeId) :
    ∃ v, (binOp op t (.int k x) (.int k y)).run P w = .ok v w ∧ AR F w ρ z v := by
  cases op <;> simp only [intOp, Option.some.injEq, Prod.mk.injEq, reduceCtorEq] at hz <;> obtain ⟨rfl, rfl⟩ := hz <;>
    simp only [All, and_true] at hp <;> refine ⟨_, ?_, by simp only [AR]; rfl⟩ <;>
    simp [binOp, Op.intArith, Op.intDiv, Op.intBits, Op.intCmp, iand, ior, ixor, iandNot, hp]

theorem strEq_def (x y : ByteArray) : (x.toList == y.toList) = strEq x y := rfl

theorem view_struct {d : TypeDesc} {fs : List (Bool × Nat × Nat)} (hd : view d = .struct fs) : ∃ a : Array Field, d = .struct a ∧ fs = a.toList.map fun f => (f.name == "_", f.type, f.offset) := by
  cases d <;> simp [view] at hd
  exact ⟨_, rfl, hd.symm⟩
theorem view_int {d : TypeDesc} {k : IntKind} (hd : view d = .int k) : d = .int k := by cases d <;> simp [view] at hd; rw [hd]
theorem view_bool {d : TypeDesc} (hd : view d = .bool) : d = .bool := by cases d <;> simp [view] at hd; rfl
theorem view_str {d : TypeDesc} (hd : view d = .str) : d = .string := by cases d <;> simp [view] at hd; rfl
theorem view_slice {d : TypeDesc} {e : Nat} (hd : view d = .slice e) : d = .slice e := by cases d <;> simp [view] at hd; rw [hd]
theorem view_arr {d : TypeDesc} {n e : Nat} (hd : view d = .arr n e) : d = .array n e := by cases d <;> simp [view] at hd; rw [hd.1, hd.2]

theorem EnvOK.under (hE : EnvOK P E) {t : TypeId} {ti : TyI} (ht : E t = some ti) : ∃ d, P.underlying t = some d ∧ view d = ti.v := (hE t ti ht).1
theorem EnvOK.sizeOf (hE : EnvOK P E) {t : TypeId} {ti : TyI} (ht : E t = some ti) : (sizeOf t).run P w = .ok ti.size w := by
  obtain ⟨i, z, h1, h2, _⟩ := (hE t ti ht).2.1
  simp [Go.sizeOf, typeInfo, h1, h2]
theorem EnvOK.zero (hE : EnvOK P E) {t : TypeId} {ti : TyI} (ht : E t = some ti) : ∃ z, (zeroValue t).run P w = .ok z w ∧ z.cells.toList = ti.zero := by
  obtain ⟨i, z, h1, h2, h3, h4, h5⟩ := (hE t ti ht).2.1
  exact ⟨z, by simp [zeroValue, typeInfo, h1, h4], h5⟩
theorem EnvOK.isAgg (hE : EnvOK P E) {t : TypeId} {ti : TyI} (ht : E t = some ti) : (isAgg t).run P w = .ok (isAggV ti.v) w := by
  obtain ⟨d, h1, h2⟩ := hE.under ht
  cases d <;> simp [view] at h2 <;> simp [Go.isAgg, run_underlying h1, ← h2, isAggV]

theorem run_binOp_plain {op : BinOp} {t yt : TypeId} {x y : Operand} {v : Value} (hop : o.op = .binOp op t x y yt) (hg : (eqGuard op t x y (a.eval x) (a.eval y)).run P w = .ok () w)
    (hb : (binOp op t (a.eval x) (a.eval y)).run P w = .ok v w) : (execOp a.eval o).run P w = .ok (.value v) w := by
  simp [execOp, hop, Sem.run_bind, hg, hb, Result.andThen]

theorem eqCells_length : ∀ {ts : List TV} {l r : List AV} {b : Bool}, eqCells ts l r = some b → l.length = ts.length ∧ r.length = ts.length
  | ts, l, r, b, h => by
    revert b
    fun_induction eqCells ts l r with
    | case1 => simp
    | case2 _ _ _ _ _ _ _ ih => intro b h; simp only [Option.map_eq_some_iff] at h; obtain ⟨c, hc, _⟩ := h; simpa using ih _ hc
    | case3 => intro b h; cases h
    | case4 _ _ _ _ _ ih => intro b h; simp only [Option.map_eq_some_iff] at h; obtain ⟨c, hc, _⟩ := h; simpa using ih _ hc
    | case5 _ _ _ _ _ ih => intro b h; simp only [Option.map_eq_some_iff] at h; obtain ⟨c, hc, _⟩ := h; simpa using ih _ hc
    | case6 => intro b h; cases h

theorem eqCells_split : ∀ {ts ts' : List TV} {l r : List AV} {b : Bool}, eqCells (ts ++ ts') l r = some b →
    ∃ b1 b2, eqCells ts (l.take ts.length) (r.take ts.length) = some b1 ∧ eqCells ts' (l.drop ts.length) (r.drop ts.length) = some b2 ∧ b = (b1 && b2)
  | [], ts', l, r, b, h => ⟨true, b, by simp [eqCells], by simpa using h, by simp⟩
  | t :: ts, ts', l, r, b, h => by
    have hl := eqCells_length h
    match l, r, hl with
    | [], _, hl => simp at hl
    | _ :: _, [], hl => simp at hl
    | x :: l, y :: r, hl =>
      simp only [List.length_cons, List.take_succ_cons, List.drop_succ_cons, List.cons_append] at h ⊢
      revert h
      rw [eqCells.eq_def (t :: (ts ++ ts')), eqCells.eq_def (t :: ts)]
      split
      · rename_i heq _ _; cases heq
      · rename_i heq e1 e2
        simp only [List.cons.injEq] at heq e1 e2
        obtain ⟨rfl, rfl⟩ := heq; obtain ⟨rfl, rfl⟩ := e1; obtain ⟨rfl, rfl⟩ := e2
        intro h
        split at h
        · rename_i hk
          obtain ⟨c, hc, rfl⟩ := Option.map_eq_some_iff.1 h
          obtain ⟨b1, b2, h1, h2, rfl⟩ := eqCells_split hc
          exact ⟨_, b2, by simp only [if_pos hk, h1]; rfl, h2, by simp [Bool.and_assoc]⟩
        · cases h
      · rename_i heq e1 e2
        simp only [List.cons.injEq] at heq e1 e2
        obtain ⟨rfl, rfl⟩ := heq; obtain ⟨rfl, rfl⟩ := e1; obtain ⟨rfl, rfl⟩ := e2
        intro h
        obtain ⟨c, hc, rfl⟩ := Option.map_eq_some_iff.1 h
        obtain ⟨b1, b2, h1, h2, rfl⟩ := eqCells_split hc
        exact ⟨_, b2, by simp only [h1]; rfl, h2, by simp [Bool.and_assoc]⟩
      · rename_i heq e1 e2
        simp only [List.cons.injEq] at heq e1 e2
        obtain ⟨rfl, rfl⟩ := heq; obtain ⟨rfl, rfl⟩ := e1; obtain ⟨rfl, rfl⟩ := e2
        intro h
        obtain ⟨c, hc, rfl⟩ := Option.map_eq_some_iff.1 h
        obtain ⟨b1, b2, h1, h2, rfl⟩ := eqCells_split hc
        exact ⟨_, b2, by simp only [h1]; rfl, h2, by simp [Bool.and_assoc]⟩
      · intro h; cases h

/-- A value out of a type's cells. -/
def valT (ti : TyI) (xs : List Value) : Value := if isAggV ti.v then .agg xs.toArray else xs.getD 0 undef

theorem part_run (hE : EnvOK P E) {t : TypeId} {ti : TyI} (ht : E t = some ti) (cs : Array Value) (off : Nat) (hl : off + ti.size ≤ cs.size) (h1 : isAggV ti.v = false → ti.size = 1) :
    (part t cs off).run P w = .ok (valT ti ((cs.toList.drop off).take ti.size)) w := by
  have ha := hE.isAgg ht (w := w)
  have hs := hE.sizeOf ht (w := w)
  cases hv : isAggV ti.v with
  | true =>
    simp only [part, Sem.run_bind, ha, hv, Result.andThen_ok, if_true, hs, valT]
    simp only [Sem.run_pure]
    congr 2
    apply Array.ext'
    simp [Array.toList_extract, List.extract]
  | false =>
    have e1 := h1 hv
    have hlt : off < cs.size := by omega
    simp only [part, Sem.run_bind, ha, hv, Result.andThen_ok, Bool.false_eq_true, if_false, valT]
    simp [hlt, e1, List.getD]

theorem ARL.take {l : List AV} {xs : List Value} (hx : ARL F w ρ l xs) (n : Nat) : ARL F w ρ (l.take n) (xs.take n) :=
  ARL.of_get (by simp [hx.length]) fun i x hi => by
    rw [List.getElem?_take] at hi
    split at hi
    · rename_i h1
      obtain ⟨v, hv, hr⟩ := hx.get i x hi
      exact ⟨v, by rw [List.getElem?_take, if_pos h1]; exact hv, hr⟩
    · cases hi

theorem ARL.drop {l : List AV} {xs : List Value} (hx : ARL F w ρ l xs) (n : Nat) : ARL F w ρ (l.drop n) (xs.drop n) :=
  ARL.of_get (by simp [hx.length]) fun i x hi => by
    rw [List.getElem?_drop] at hi
    obtain ⟨v, hv, hr⟩ := hx.get _ x hi
    exact ⟨v, by rw [List.getElem?_drop]; exact hv, hr⟩

theorem eqFields_plain {pk : TypeId → Option (List TV)} {n : Nat} {X Y : Array Value} {lx ly : List AV} (hX : ARL F w ρ lx X.toList) (hY : ARL F w ρ ly Y.toList)
    (hpk : ∀ t ks, pk t = some ks → ∃ ti, E t = some ti ∧ ks.length = ti.size ∧ (isAggV ti.v = false → ti.size = 1) ∧
      ∀ {l r : List AV} {xs ys : List Value} {b : Bool}, ARL F w ρ l xs → ARL F w ρ r ys → eqCells ks l r = some b → (Op.equalIn n t (valT ti xs) (valT ti ys)).run P w = .ok b w) (hE : EnvOK P E) :
    ∀ (fs : List Field) (i : Nat) (ks : List TV) (b : Bool), plainFs pk i (fs.map fun f => (f.name == "_", f.type, f.offset)) = some ks → eqCells ks (lx.drop i) (ly.drop i) = some b → i + ks.length ≤ lx.length → i + ks.length ≤ ly.length →
      (Op.eqFields n X Y fs).run P w = .ok b w
  | [], i, ks, b, hp, hb, _, _ => by
    simp only [List.map_nil, plainFs, Option.some.injEq] at hp
    subst hp
    have := eqCells_length hb
    have e : lx.drop i = [] := List.eq_nil_of_length_eq_zero (by simpa using this.1)
    have e' : ly.drop i = [] := List.eq_nil_of_length_eq_zero (by simpa using this.2)
    rw [e, e'] at hb
    simp [eqCells] at hb
    subst hb
    simp [Op.eqFields]
  | f :: fs, i, ks, b, hp, hb, hlx, hly => by
    simp only [List.map_cons, plainFs] at hp
    split at hp
    · rename_i hc
      simp only [Bool.and_eq_true, Bool.not_eq_true', beq_eq_false_iff_ne, ne_eq, beq_iff_eq] at hc
      obtain ⟨hname, hoff⟩ := hc
      obtain ⟨k1, hk1, hp⟩ := Option.bind_eq_some_iff.1 hp
      obtain ⟨k2, hk2, rfl⟩ := Option.map_eq_some_iff.1 hp
      obtain ⟨ti, hti, hsz, h1, heq⟩ := hpk _ _ hk1
      obtain ⟨b1, b2, hb1, hb2, rfl⟩ := eqCells_split hb
      rw [List.length_append] at hlx hly
      have lX : X.size = lx.length := by rw [← hX.length]; simp
      have lY : Y.size = ly.length := by rw [← hY.length]; simp
      have r1 := part_run (P := P) (w := w) hE hti X f.offset (by omega) h1
      have r2 := part_run (P := P) (w := w) hE hti Y f.offset (by omega) h1
      have r3 := heq ((hX.drop i).take ti.size) ((hY.drop i).take ti.size) (by rw [← hsz]; exact hb1)
      rw [hoff] at r1 r2
      have ih := eqFields_plain hX hY hpk hE fs (i + k1.length) k2 b2 hk2 (by rw [← List.drop_drop, ← List.drop_drop]; exact hb2) (by omega) (by omega)
      simp only [Op.eqFields, if_pos hname, Sem.run_bind, hoff, r1, r2, r3, Result.andThen_ok]
      cases b1
      · simp
      · simpa using ih
    · cases hp

theorem equalIn_plain (hE : EnvOK P E) : ∀ (d k : Nat) {t : TypeId} {ks : List TV}, plainT E d t = some ks → ∃ ti, E t = some ti ∧ ks.length = ti.size ∧ (isAggV ti.v = false → ti.size = 1) ∧
    ∀ {l r : List AV} {xs ys : List Value} {b : Bool}, ARL F w ρ l xs → ARL F w ρ r ys → eqCells ks l r = some b → (Op.equalIn (d + k) t (valT ti xs) (valT ti ys)).run P w = .ok b w
  | 0, k, t, ks, hp => by simp [plainT] at hp
  | d + 1, k, t, ks, hp => by
    simp only [plainT] at hp
    obtain ⟨ti, ht, hp⟩ := Option.bind_eq_some_iff.1 hp
    refine ⟨ti, ht, ?_⟩
    obtain ⟨dsc, hu, hv⟩ := hE.under ht
    rw [show d + 1 + k = (d + k) + 1 from by omega]
    have one : ∀ {tv : TV} {l r : List AV} {xs ys : List Value} {b : Bool}, isAggV ti.v = false → ARL F w ρ l xs → ARL F w ρ r ys → eqCells [tv] l r = some b →
        ∃ x y u v, eqCells [tv] [x] [y] = some b ∧ AR F w ρ x u ∧ AR F w ρ y v ∧ valT ti xs = u ∧ valT ti ys = v := by
      intro tv l r xs ys b ha hx hy hb
      have hl := eqCells_length hb
      match l, hl.1, r, hl.2 with
      | [x], _, [y], _ =>
        simp only [ARL] at hx hy
        obtain ⟨u, _, rfl, h2, rfl⟩ := hx
        obtain ⟨v, _, rfl, h3, rfl⟩ := hy
        exact ⟨x, y, u, v, hb, h2, h3, by simp [valT, ha], by simp [valT, ha]⟩
    cases hti : ti.v with
    | bool =>
      simp only [hti] at hp
      split at hp
      · rename_i hs
        simp only [Option.some.injEq] at hp; subst hp
        refine ⟨by simp [hs], fun _ => hs, fun hx hy hb => ?_⟩
        obtain ⟨x, y, u, v, hb, h2, h3, e1, e2⟩ := one (by rw [hti]; rfl) hx hy hb
        rw [e1, e2]
        rw [hti] at hv
        obtain rfl := view_bool hv
        rcases x with ⟨vx⟩ | _ | _ | _ | _ | _ | _ | _ | _ | _ | _ | _ | _ <;> try (simp [eqCells] at hb; done)
        rcases y with ⟨vy⟩ | _ | _ | _ | _ | _ | _ | _ | _ | _ | _ | _ | _ <;> try (simp [eqCells] at hb; done)
        simp only [AR] at h2 h3; subst h2; subst h3
        cases u <;> cases v <;> simp [eqCells] at hb
        subst hb
        simp [Op.equalIn, run_underlying hu]
      · cases hp
    | int kk =>
      simp only [hti] at hp
      split at hp
      · rename_i hs
        simp only [Option.some.injEq] at hp; subst hp
        refine ⟨by simp [hs], fun _ => hs, fun hx hy hb => ?_⟩
        obtain ⟨x, y, u, v, hb, h2, h3, e1, e2⟩ := one (by rw [hti]; rfl) hx hy hb
        rw [e1, e2]
        rw [hti] at hv
        obtain rfl := view_int hv
        rcases x with ⟨vx⟩ | _ | _ | _ | _ | _ | _ | _ | _ | _ | _ | _ | _ <;> try (simp [eqCells] at hb; done)
        rcases y with ⟨vy⟩ | _ | _ | _ | _ | _ | _ | _ | _ | _ | _ | _ | _ <;> try (simp [eqCells] at hb; done)
        simp only [AR] at h2 h3; subst h2; subst h3
        cases u <;> cases v <;> simp [eqCells] at hb
        obtain ⟨rfl, rfl⟩ := hb
        simp [Op.equalIn, run_underlying hu]
      · cases hp
    | str =>
      simp only [hti] at hp
      split at hp
      · rename_i hs
        simp only [Option.some.injEq] at hp; subst hp
        refine ⟨by simp [hs], fun _ => hs, fun hx hy hb => ?_⟩
        obtain ⟨x, y, u, v, hb, h2, h3, e1, e2⟩ := one (by rw [hti]; rfl) hx hy hb
        rw [e1, e2]
        rw [hti] at hv
        obtain rfl := view_str hv
        rcases x with ⟨vx⟩ | _ | _ | _ | _ | _ | _ | _ | _ | _ | _ | _ | _ <;> try (simp [eqCells] at hb; done)
        rcases y with ⟨vy⟩ | _ | _ | _ | _ | _ | _ | _ | _ | _ | _ | _ | _ <;> try (simp [eqCells] at hb; done)
        simp only [AR] at h2 h3; subst h2; subst h3
        cases u <;> cases v <;> simp [eqCells] at hb
        subst hb
        exact run_equalIn_string w _ t _ _ hu
      · cases hp
    | struct fs =>
      simp only [hti] at hp
      obtain ⟨ks', hk, hp⟩ := Option.bind_eq_some_iff.1 hp
      split at hp
      · rename_i hs
        simp only [Option.some.injEq] at hp; subst hp
        refine ⟨hs, fun h => by simp [isAggV] at h, fun {l r xs ys b} hx hy hb => ?_⟩
        rw [hti] at hv
        obtain ⟨af, rfl, rfl⟩ := view_struct hv
        have hst := (hE t ti ht).2.2.2.2 _ hti
        have hf : P.fieldsOf t = af := by simp [Program.fieldsOf, hu]
        have hagg : ∀ z : List Value, valT ti z = .agg z.toArray := fun z => by simp [valT, hti, isAggV]
        have hl := eqCells_length hb
        rw [hagg, hagg, run_equalIn_agg w _ t _ _ (by rw [hf]; exact hu) hst.2, hf]
        exact eqFields_plain (pk := plainT E d) (lx := l) (ly := r) (by simpa using hx) (by simpa using hy) (fun t ks hpk => equalIn_plain hE d k hpk) hE _ 0 ks' b hk (by simpa using hb) (by omega) (by omega)
      · cases hp
    | _ => simp [hti] at hp

theorem binA_sound (hE : EnvOK P E) {op : BinOp} {t yt : TypeId} {xo yo : Operand} {x y z : AV} {ps : List Prop} (hop : o.op = .binOp op t xo yo yt) (hx : AR F w ρ x (a.eval xo)) (hy : AR F w ρ y (a.eval yo))
    (hz : binA E op t x y = some (z, ps)) (hp : All ps) : ∃ v, (execOp a.eval o).run P w = .ok (.value v) w ∧ AR F w ρ z v := by
  have gInt : ∀ {k : IntKind} {n : Int} {u : Value}, (eqGuard op t xo yo (.int k n) u).run P w = .ok () w := fun {k n u} => by rw [eqGuard_at_int]; simp
  have gBool : ∀ {b : Bool} {u : Value}, (eqGuard op t xo yo (.bool b) u).run P w = .ok () w := fun {b u} => by rw [eqGuard_at_bool]; simp
  have gStr : ∀ {b : ByteArray} {u : Value}, (eqGuard op t xo yo (.string b) u).run P w = .ok () w := fun {b u} => by rw [eqGuard_at_string]; simp
  unfold binA at hz
  split at hz
  · simp only [AR] at hx hy
    simp only [Option.some.injEq, Prod.mk.injEq] at hz
    obtain ⟨rfl, rfl⟩ := hz
    refine ⟨_, run_binOp_plain hop (by rw [hx]; exact gInt) ?_, by simp only [AR]; rfl⟩
    have := Int.not_lt.2 hp.1
    rw [hx, hy]
    simp [binOp, Op.shift, ishl, this]
  · simp only [AR] at hx hy
    simp only [Option.some.injEq, Prod.mk.injEq] at hz
    obtain ⟨rfl, rfl⟩ := hz
    refine ⟨_, run_binOp_plain hop (by rw [hx]; exact gInt) ?_, by simp only [AR]; rfl⟩
    have := Int.not_lt.2 hp.1
    rw [hx, hy]
    simp [binOp, Op.shift, ishr, this]
  · simp only [AR] at hx hy
    split at hz
    · rename_i hk
      subst hk
      obtain ⟨v, h1, h2⟩ := intOp_sound hz hp t (P := P) (w := w) (F := F) (ρ := ρ)
      exact ⟨v, run_binOp_plain hop (by rw [hx]; exact gInt) (by rw [hx, hy]; exact h1), h2⟩
    · cases hz
  · split at hz
    · rename_i ht
      simp only [AR] at hx hy
      simp only [Option.some.injEq, Prod.mk.injEq] at hz
      obtain ⟨rfl, rfl⟩ := hz
      obtain ⟨d, hu, hv⟩ := hE.under ht
      obtain rfl := view_bool hv
      refine ⟨_, run_binOp_plain hop (by rw [hx]; exact gBool) ?_, by simp only [AR]; rfl⟩
      rw [hx, hy]
      have e := fun a b => run_equalIn_bool' (P := P) w 9999 t a b hu
      simp only [binOp]
      simp only [Op.equal, Op.maxDepth, Sem.run_bind, e, Result.andThen_ok, Sem.run_pure]
    · cases hz
  · split at hz
    · rename_i ht
      simp only [AR] at hx hy
      simp only [Option.some.injEq, Prod.mk.injEq] at hz
      obtain ⟨rfl, rfl⟩ := hz
      obtain ⟨d, hu, hv⟩ := hE.under ht
      obtain rfl := view_bool hv
      refine ⟨_, run_binOp_plain hop (by rw [hx]; exact gBool) ?_, by simp only [AR]; rfl⟩
      rw [hx, hy]
      have e := fun a b => run_equalIn_bool' (P := P) w 9999 t a b hu
      simp only [binOp]
      simp only [Op.equal, Op.maxDepth, Sem.run_bind, e, Result.andThen_ok, Sem.run_pure]
    · cases hz
  · simp only [AR] at hx hy
    simp only [Option.some.injEq, Prod.mk.injEq] at hz
    obtain ⟨rfl, rfl⟩ := hz
    refine ⟨_, run_binOp_plain hop (by rw [hx]; exact gStr) ?_, by simp only [AR]; rfl⟩
    rw [hx, hy]
    simp [binOp, Op.stringOp, strEq]
  · simp only [AR] at hx hy
    simp only [Option.some.injEq, Prod.mk.injEq] at hz
    obtain ⟨rfl, rfl⟩ := hz
    refine ⟨_, run_binOp_plain hop (by rw [hx]; exact gStr) ?_, by simp only [AR]; rfl⟩
    rw [hx, hy]
    simp [binOp, Op.stringOp, strEq]
  · split at hz
    · rename_i fs n by' ze ht
      obtain ⟨ks, hk, hz⟩ := Option.bind_eq_some_iff.1 hz
      obtain ⟨b, hb, hz⟩ := Option.map_eq_some_iff.1 hz
      simp only [Prod.mk.injEq] at hz
      obtain ⟨rfl, rfl⟩ := hz
      simp only [AR] at hx hy
      obtain ⟨xs, ex, hx⟩ := hx
      obtain ⟨ys, ey, hy⟩ := hy
      obtain ⟨ti, hti, _, _, heq⟩ := equalIn_plain (P := P) (w := w) (F := F) (ρ := ρ) hE 5 9995 hk
      rw [ht] at hti
      obtain rfl := Option.some.inj hti
      have r := heq hx hy hb
      simp only [valT, isAggV, if_true, Array.toArray_toList] at r
      have hg := (hE t _ ht).2.2.2.2 _ rfl
      refine ⟨_, run_binOp_plain hop (by rw [ex, ey]; exact run_eqGuard_agg w _ _ _ _ _ _ hg.1) (by rw [ex, ey, run_eql_struct, r]; rfl), by simp only [AR]⟩
    · cases hz
  · split at hz
    · rename_i fs n by' ze ht
      obtain ⟨ks, hk, hz⟩ := Option.bind_eq_some_iff.1 hz
      obtain ⟨b, hb, hz⟩ := Option.map_eq_some_iff.1 hz
      simp only [Prod.mk.injEq] at hz
      obtain ⟨rfl, rfl⟩ := hz
      simp only [AR] at hx hy
      obtain ⟨xs, ex, hx⟩ := hx
      obtain ⟨ys, ey, hy⟩ := hy
      obtain ⟨ti, hti, _, _, heq⟩ := equalIn_plain (P := P) (w := w) (F := F) (ρ := ρ) hE 5 9995 hk
      rw [ht] at hti
      obtain rfl := Option.some.inj hti
      have r := heq hx hy hb
      simp only [valT, isAggV, if_true, Array.toArray_toList] at r
      have hg := (hE t _ ht).2.2.2.2 _ rfl
      refine ⟨_, run_binOp_plain hop (by rw [ex, ey]; exact run_eqGuard_agg w _ _ _ _ _ _ hg.1) (by rw [ex, ey, run_neq_struct, r]; rfl), by simp only [AR]⟩
    · cases hz
  · cases hz
end
end Go.Ev
