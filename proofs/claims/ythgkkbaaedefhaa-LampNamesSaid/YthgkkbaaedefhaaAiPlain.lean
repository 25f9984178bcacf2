/- AiPlain -/
import Derived.Test.YthgkkbaaedefhaaAiMain
import Derived.ChangeKeysEq
set_option linter.unusedVariables false
set_option linter.unusedSimpArgs false
namespace Go.Ai
open Go

/-- The cells' kinds of a type of plain data ('none': a bool). -/
def fieldsK (P : Program) (r : Nat → Option (List (Option IntKind))) : List Field → Nat → Option (List (Option IntKind))
  | [], _ => some []
  | f :: fs, o => match r f.type with
    | some l => bif f.name != "_" && f.offset == o && P.cellsOf f.type == l.length && (P.info? f.type).isSome then (fieldsK P r fs (o + l.length)).map (l ++ ·) else none
    | none => none

def plainK (P : Program) : Nat → Nat → Option (List (Option IntKind))
  | 0, _ => none
  | d + 1, t => match P.underlying t with
    | some (.int q) => some [some q]
    | some .bool => some [none]
    | some (.struct fs) => bif P.stoodInHeld t then none else fieldsK P (plainK P d) fs.toList 0
    | some (.array n e) => match plainK P d e with
      | some l => bif P.cellsOf e == l.length && (P.info? e).isSome then some (List.replicate n l).flatten else none
      | none => none
    | _ => none

theorem eqCells_append : ∀ (k1 k2 : List (Option IntKind)) (xs ys : List AV) (b : Bool), eqCells (k1 ++ k2) xs ys = some b →
    (eqCells k1 (xs.take k1.length) (ys.take k1.length) = some true ∧ eqCells k2 (xs.drop k1.length) (ys.drop k1.length) = some b) ∨ (eqCells k1 (xs.take k1.length) (ys.take k1.length) = some false ∧ b = false)
  | [], k2, xs, ys, b, h => .inl ⟨by simp [eqCells], by simpa using h⟩
  | k :: k1, k2, [], ys, b, h => by simp [eqCells] at h
  | k :: k1, k2, x :: xs, [], b, h => by simp [eqCells] at h
  | k :: k1, k2, x :: xs, y :: ys, b, h => by
    simp only [List.cons_append, eqCells, List.length_cons, List.take_succ_cons, List.drop_succ_cons] at h ⊢
    cases he : eqCell k x y with
    | none => rw [he] at h; cases h
    | some c =>
      rw [he] at h
      cases c with
      | true => simp only at h ⊢; exact eqCells_append k1 k2 xs ys b h
      | false => simp only at h ⊢; injection h with h; exact .inr ⟨by first | rfl | trivial, h.symm⟩

section
variable {P : Program}

/-- '==' at two places of two rows of cells. -/
def EqK (P : Program) (d t : Nat) (ks : List (Option IntKind)) : Prop :=
  ∀ (β : Bm) (w : World) (off : Nat) (xs ys : List AV) (vs us : Array Value) (b : Bool), VRs β xs vs.toList → VRs β ys us.toList → eqCells ks ((xs.drop off).take ks.length) ((ys.drop off).take ks.length) = some b →
    ∃ x y, (Go.part t vs off).run P w = .ok x w ∧ (Go.part t us off).run P w = .ok y w ∧ (Op.equalIn d t x y).run P w = .ok b w

def EqW (P : Program) (d t : Nat) (ks : List (Option IntKind)) : Prop :=
  ∀ (β : Bm) (w : World) (xs ys : List AV) (vs us : Array Value) (b : Bool), VRs β xs vs.toList → VRs β ys us.toList → eqCells ks xs ys = some b → (Op.equalIn d t (.agg vs) (.agg us)).run P w = .ok b w

theorem extract_rel {β : Bm} {xs : List AV} {vs : Array Value} (h : VRs β xs vs.toList) (o n : Nat) : VRs β ((xs.drop o).take n) (vs.extract o (o + n)).toList := by
  have : (vs.extract o (o + n)).toList = (vs.toList.drop o).take n := by simp [List.extract]
  rw [this]
  exact (h.drop o).take n

theorem part_agg {t : Nat} {d : TypeDesc} {i : TypeInfo} {w : World} (hu : P.underlying t = some d) (hd : (∃ n e, d = .array n e) ∨ ∃ fs, d = .struct fs) (hi : P.info? t = some i) (vs : Array Value) (o : Nat) :
    (Go.part t vs o).run P w = .ok (.agg (vs.extract o (o + P.cellsOf t))) w := by
  rcases hd with ⟨n, e, rfl⟩ | ⟨fs, rfl⟩ <;> simp [Go.part, isAgg, run_underlying hu, run_sizeOf w hi]

theorem eqK_of_eqW {d t : Nat} {ks : List (Option IntKind)} {td : TypeDesc} {i : TypeInfo} (hu : P.underlying t = some td) (hd : (∃ n e, td = .array n e) ∨ ∃ fs, td = .struct fs) (hi : P.info? t = some i) (hc : P.cellsOf t = ks.length) (h : EqW P d t ks) : EqK P d t ks := by
  intro β w off xs ys vs us b hv hy he
  refine ⟨_, _, part_agg hu hd hi vs off, part_agg hu hd hi us off, ?_⟩
  rw [hc]
  exact h β w _ _ _ _ b (extract_rel hv off _) (extract_rel hy off _) he

theorem eqK_leaf {d t : Nat} {k : Option IntKind} {td : TypeDesc} (hu : P.underlying t = some td) (hd : match k with | some q => td = .int q | none => td = .bool) : EqK P (d + 1) t [k] := by
  intro β w off xs ys vs us b hv hy he
  simp only [List.length_cons, List.length_nil] at he
  have hx := hv.drop off
  have hy' := hy.drop off
  cases h1 : xs.drop off with
  | nil => rw [h1] at he; simp [eqCells] at he
  | cons x xs' =>
    cases h2 : ys.drop off with
    | nil => rw [h1, h2] at he; simp [eqCells] at he
    | cons y ys' =>
      rw [h1] at he hx; rw [h2] at he hy'
      obtain ⟨v, r, hv1, hv2, _⟩ := hx
      obtain ⟨u, r', hu1, hu2, _⟩ := hy'
      have hvs : vs[off]? = some v := by
        have : (vs.toList.drop off)[0]? = some v := by rw [hv1]; rfl
        rw [List.getElem?_drop] at this; simpa using this
      have hus : us[off]? = some u := by
        have : (us.toList.drop off)[0]? = some u := by rw [hu1]; rfl
        rw [List.getElem?_drop] at this; simpa using this
      have hp : P.plainKey t = true := by
        unfold Program.plainKey; rw [hu]
        cases k <;> simp only at hd <;> subst hd <;> rfl
      refine ⟨v, u, run_part_plain w hp hvs, run_part_plain w hp hus, ?_⟩
      simp only [List.take_succ_cons, List.take_zero, eqCells] at he
      have hc : eqCell k x y = some b := by
        cases hc : eqCell k x y with
        | none => rw [hc] at he; cases he
        | some c => rw [hc] at he; cases c <;> simp at he <;> rw [← he]
      cases k with
      | some q =>
        simp only at hd; subst hd
        cases x <;> cases y <;> simp only [eqCell] at hc <;> try (cases hc; done)
        rename_i k1 n1 k2 n2
        by_cases hq : k1 = q ∧ k2 = q
        · obtain ⟨rfl, rfl⟩ := hq
          simp at hc
          have e1 : v = .int k2 n1 := hv2
          have e2 : u = .int k2 n2 := hu2
          subst e1; subst e2
          rw [run_equalIn_int w d t k2 k2 n1 n2 hu, ← hc]
        · have : (decide (k1 = q) && decide (k2 = q)) = false := by
            simp only [Bool.and_eq_false_iff, decide_eq_false_iff_not]
            by_cases h : k1 = q
            · exact .inr (fun h2 => hq ⟨h, h2⟩)
            · exact .inl h
          rw [this] at hc; simp at hc
      | none =>
        simp only at hd; subst hd
        cases x <;> cases y <;> simp only [eqCell] at hc <;> try (cases hc; done)
        rename_i b1 b2
        have e1 : v = .bool b1 := hv2
        have e2 : u = .bool b2 := hu2
        subst e1; subst e2
        injection hc with hc
        rw [run_equalIn_bool' w d t b1 b2 hu, hc]

theorem eqFields_ok {d : Nat} {g : Nat → Option (List (Option IntKind))} (hg : ∀ t ks, g t = some ks → P.cellsOf t = ks.length → (P.info? t).isSome = true → EqK P d t ks) : ∀ (fs : List Field) (o : Nat) (ks : List (Option IntKind)), fieldsK P g fs o = some ks →
    ∀ (β : Bm) (w : World) (xs ys : List AV) (vs us : Array Value) (b : Bool), VRs β xs vs.toList → VRs β ys us.toList → eqCells ks (xs.drop o) (ys.drop o) = some b → (Op.eqFields d vs us fs).run P w = .ok b w
  | [], o, ks, h, β, w, xs, ys, vs, us, b, _, _, he => by
    simp only [fieldsK] at h; injection h with h; subst h
    cases hx : xs.drop o <;> cases hy : ys.drop o <;> rw [hx, hy] at he <;> simp [eqCells] at he
    subst he
    simp [Op.eqFields]
  | f :: fs, o, ks, h, β, w, xs, ys, vs, us, b, hv, hy, he => by
    simp only [fieldsK] at h
    split at h
    · rename_i l hl
      cases hc : (f.name != "_" && f.offset == o && P.cellsOf f.type == l.length && (P.info? f.type).isSome) with
      | false => rw [hc] at h; simp at h
      | true =>
        rw [hc] at h; simp only [cond_true] at h
        obtain ⟨ks', hks', rfl⟩ := Option.map_eq_some_iff.1 h
        simp only [Bool.and_eq_true, bne_iff_ne, ne_eq, beq_iff_eq] at hc
        obtain ⟨⟨⟨hn, ho⟩, hcc⟩, hii⟩ := hc
        subst ho
        have key : ∀ c, eqCells l ((xs.drop f.offset).take l.length) ((ys.drop f.offset).take l.length) = some c → ∃ x y, (Go.part f.type vs f.offset).run P w = .ok x w ∧ (Go.part f.type us f.offset).run P w = .ok y w ∧ (Op.equalIn d f.type x y).run P w = .ok c w :=
          fun c hc => hg f.type l hl hcc hii β w f.offset xs ys vs us c hv hy hc
        rcases eqCells_append l ks' _ _ b he with ⟨h1, h2⟩ | ⟨h1, rfl⟩
        · obtain ⟨x, y, p1, p2, p3⟩ := key true h1
          simp only [List.drop_drop] at h2
          have := eqFields_ok hg fs _ ks' hks' β w xs ys vs us b hv hy (by rw [Nat.add_comm] at h2; rw [Nat.add_comm]; exact h2)
          simp [Op.eqFields, hn, p1, p2, p3, this]
        · obtain ⟨x, y, p1, p2, p3⟩ := key false h1
          simp [Op.eqFields, hn, p1, p2, p3]
    · cases h

theorem eqItems_ok {d e : Nat} {l : List (Option IntKind)} (hl : EqK P d e l) : ∀ (n j : Nat),
    ∀ (β : Bm) (w : World) (xs ys : List AV) (vs us : Array Value) (b : Bool), VRs β xs vs.toList → VRs β ys us.toList → eqCells (List.replicate n l).flatten (xs.drop (j * l.length)) (ys.drop (j * l.length)) = some b →
      (Op.eqItems d e l.length vs us (List.range' j n)).run P w = .ok b w
  | 0, j, β, w, xs, ys, vs, us, b, _, _, he => by
    simp only [List.replicate_zero, List.flatten_nil] at he
    cases hx : xs.drop (j * l.length) <;> cases hy : ys.drop (j * l.length) <;> rw [hx, hy] at he <;> simp [eqCells] at he
    subst he
    simp [Op.eqItems]
  | n + 1, j, β, w, xs, ys, vs, us, b, hv, hy, he => by
    simp only [List.replicate_succ, List.flatten_cons] at he
    rw [List.range'_succ]
    rcases eqCells_append l _ _ _ b he with ⟨h1, h2⟩ | ⟨h1, rfl⟩
    · obtain ⟨x, y, p1, p2, p3⟩ := hl β w (j * l.length) xs ys vs us true hv hy h1
      simp only [List.drop_drop] at h2
      have := eqItems_ok hl n (j + 1) β w xs ys vs us b hv hy (by rw [Nat.succ_mul]; exact h2)
      simp [Op.eqItems, p1, p2, p3, this]
    · obtain ⟨x, y, p1, p2, p3⟩ := hl β w (j * l.length) xs ys vs us false hv hy h1
      simp [Op.eqItems, p1, p2, p3]

theorem eqW_of {d D t : Nat} {ks : List (Option IntKind)} {td : TypeDesc} (ih : ∀ t ks, plainK P d t = some ks → P.cellsOf t = ks.length → (P.info? t).isSome = true → EqK P D t ks) (h : plainK P (d + 1) t = some ks)
    (hu : P.underlying t = some td) (hd : (∃ n e, td = .array n e) ∨ ∃ fs, td = .struct fs) : EqW P (D + 1) t ks := by
  intro β w xs ys vs us b hv hy he
  rw [plainK, hu] at h
  rcases hd with ⟨n, e, rfl⟩ | ⟨fs, rfl⟩
  · simp only at h
    split at h
    · rename_i l hl
      cases hc : (P.cellsOf e == l.length && (P.info? e).isSome) with
      | false => rw [hc] at h; simp at h
      | true =>
        rw [hc] at h; simp only [cond_true] at h; injection h with h; subst h
        simp only [Bool.and_eq_true, beq_iff_eq] at hc
        obtain ⟨i, hi⟩ := Option.isSome_iff_exists.1 hc.2
        rw [run_equalIn_array w D vs us hu hi, hc.1, List.range_eq_range']
        exact eqItems_ok (ih e l hl hc.1 hc.2) n 0 β w xs ys vs us b hv hy (by simpa using he)
    · cases h
  · simp only at h
    cases hp : P.stoodInHeld t with
    | true => rw [hp] at h; simp at h
    | false =>
      rw [hp] at h; simp only [cond_false] at h
      have hf : P.fieldsOf t = fs := by unfold Program.fieldsOf; rw [hu]
      rw [run_equalIn_struct w D t vs us (by rw [hf]; exact hu) hp, hf]
      exact eqFields_ok ih fs.toList 0 ks h β w xs ys vs us b hv hy (by simpa using he)

theorem eqK_ok (D : Nat) : ∀ (d t : Nat) (ks : List (Option IntKind)), plainK P d t = some ks → P.cellsOf t = ks.length → (P.info? t).isSome = true → EqK P (D + d) t ks
  | 0, t, ks, h, _, _ => by simp [plainK] at h
  | d + 1, t, ks, h, hc, hi => by
    cases hu : P.underlying t with
    | none => rw [plainK, hu] at h; simp at h
    | some td =>
      have agg : ((∃ n e, td = .array n e) ∨ ∃ fs, td = .struct fs) → EqK P (D + (d + 1)) t ks := by
        intro hd
        obtain ⟨i, hi⟩ := Option.isSome_iff_exists.1 hi
        exact eqK_of_eqW hu hd hi hc (eqW_of (eqK_ok D d) h hu hd)
      have h0 := h
      rw [plainK, hu] at h
      cases td <;> simp only at h <;> try (cases h; done)
      case bool => injection h with h; subst h; exact eqK_leaf hu rfl
      case int q => injection h with h; subst h; exact eqK_leaf hu rfl
      case array n e => exact agg (.inl ⟨n, e, rfl⟩)
      case struct fs => exact agg (.inr ⟨fs, rfl⟩)

/-! ### Keys -/
theorem typed_append : ∀ (k1 k2 : List (Option IntKind)) (xs : List AV), typed (k1 ++ k2) xs = true → typed k1 (xs.take k1.length) = true ∧ typed k2 (xs.drop k1.length) = true
  | [], k2, xs, h => ⟨by simp [typed], by simpa using h⟩
  | k :: k1, k2, [], h => by cases k <;> simp [typed] at h
  | none :: k1, k2, x :: xs, h => by
    cases x <;> simp only [List.cons_append, typed] at h <;> try (cases h; done)
    simpa [typed] using typed_append k1 k2 xs h
  | some q :: k1, k2, x :: xs, h => by
    cases x <;> simp only [List.cons_append, typed, Bool.and_eq_true] at h <;> try (cases h; done)
    obtain ⟨h1, h2⟩ := h
    have := typed_append k1 k2 xs h2
    simp [typed, h1, this.1, this.2]

def CkK (P : Program) (em : Bool) (d t : Nat) (ks : List (Option IntKind)) : Prop :=
  ∀ (β : Bm) (w : World) (off : Nat) (xs : List AV) (vs : Array Value), VRs β xs vs.toList → typed ks ((xs.drop off).take ks.length) = true →
    ∃ x, (Go.part t vs off).run P w = .ok x w ∧ (Instr.checkKey em d t x).run P w = .ok () w
def CkW (P : Program) (em : Bool) (d t : Nat) (ks : List (Option IntKind)) : Prop :=
  ∀ (β : Bm) (w : World) (xs : List AV) (vs : Array Value), VRs β xs vs.toList → typed ks xs = true → (Instr.checkKey em d t (.agg vs)).run P w = .ok () w

theorem ckK_of_ckW {em : Bool} {d t : Nat} {ks : List (Option IntKind)} {td : TypeDesc} {i : TypeInfo} (hu : P.underlying t = some td) (hd : (∃ n e, td = .array n e) ∨ ∃ fs, td = .struct fs) (hi : P.info? t = some i) (hc : P.cellsOf t = ks.length) (h : CkW P em d t ks) : CkK P em d t ks := by
  intro β w off xs vs hv he
  refine ⟨_, part_agg hu hd hi vs off, ?_⟩
  rw [hc]
  exact h β w _ _ (extract_rel hv off _) he

theorem ckK_leaf {em : Bool} {d t : Nat} {k : Option IntKind} {td : TypeDesc} (hu : P.underlying t = some td) (hd : match k with | some q => td = .int q | none => td = .bool) : CkK P em (d + 1) t [k] := by
  intro β w off xs vs hv he
  simp only [List.length_cons, List.length_nil] at he
  have hx := hv.drop off
  cases h1 : xs.drop off with
  | nil => rw [h1] at he; cases k <;> simp [typed] at he
  | cons x xs' =>
    rw [h1] at hx
    obtain ⟨v, r, hv1, hv2, _⟩ := hx
    have hvs : vs[off]? = some v := by
      have : (vs.toList.drop off)[0]? = some v := by rw [hv1]; rfl
      rw [List.getElem?_drop] at this; simpa using this
    have hp : P.plainKey t = true := by
      unfold Program.plainKey; rw [hu]
      cases k <;> simp only at hd <;> subst hd <;> rfl
    refine ⟨v, run_part_plain w hp hvs, ?_⟩
    cases k <;> simp only at hd <;> subst hd <;> simp [Instr.checkKey, run_underlying hu]

theorem ckW_of {em : Bool} {d D t : Nat} {ks : List (Option IntKind)} {td : TypeDesc} (ih : ∀ t ks, plainK P d t = some ks → P.cellsOf t = ks.length → (P.info? t).isSome = true → CkK P em D t ks) (h : plainK P (d + 1) t = some ks)
    (hu : P.underlying t = some td) (hd : (∃ n e, td = .array n e) ∨ ∃ fs, td = .struct fs) : CkW P em (D + 1) t ks := by
  intro β w xs vs hv he
  rw [plainK, hu] at h
  rcases hd with ⟨n, e, rfl⟩ | ⟨fs, rfl⟩
  · simp only at h
    split at h
    · rename_i l hl
      cases hc : (P.cellsOf e == l.length && (P.info? e).isSome) with
      | false => rw [hc] at h; simp at h
      | true =>
        rw [hc] at h; simp only [cond_true] at h; injection h with h; subst h
        simp only [Bool.and_eq_true, beq_iff_eq] at hc
        obtain ⟨i, hi⟩ := Option.isSome_iff_exists.1 hc.2
        have hK := ih e l hl hc.1 hc.2
        rw [Instr.checkKey]
        simp only [Sem.run_bind, run_underlying hu, Result.andThen_ok]
        simp only [Std.Legacy.Range.forIn_eq_forIn_range', Std.Legacy.Range.size, Nat.sub_zero, Nat.add_one_sub_one, Nat.div_one]
        have key : ∀ (m j : Nat), typed (List.replicate m l).flatten (xs.drop (j * l.length)) = true → ∀ j' ∈ List.range' j m, ∃ x, (Go.part e vs (j' * P.cellsOf e)).run P w = .ok x w ∧ (Instr.checkKey em D e x).run P w = .ok () w := by
          intro m
          induction m with
          | zero => intro j _ j' hj; simp at hj
          | succ m ihm =>
            intro j ht j' hj
            simp only [List.replicate_succ, List.flatten_cons] at ht
            obtain ⟨h1, h2⟩ := typed_append _ _ _ ht
            rw [List.range'_succ] at hj
            rcases List.mem_cons.1 hj with rfl | hj
            · rw [hc.1]; exact hK β w _ xs vs hv h1
            · simp only [List.drop_drop] at h2
              exact ihm (j + 1) (by rw [Nat.succ_mul]; exact h2) j' hj
        have all := key n 0 (by simpa using he)
        generalize List.range' 0 n = is at all
        induction is with
        | nil => simp
        | cons j is ihh =>
          obtain ⟨a, p1, p2⟩ := all j (by simp)
          simp only [List.forIn_cons, Sem.run_bind, run_sizeOf w hi, Result.andThen_ok, p1, p2, Sem.run_pure]
          exact ihh (fun y hy => all y (by simp [hy]))
    · cases h
  · simp only at h
    cases hp : P.stoodInHeld t with
    | true => rw [hp] at h; simp at h
    | false =>
      rw [hp] at h; simp only [cond_false] at h
      rw [Instr.checkKey]
      simp only [Sem.run_bind, run_underlying hu, Result.andThen_ok]
      rw [← Array.forIn_toList]
      have key : ∀ (fs : List Field) (o : Nat) (ks : List (Option IntKind)), fieldsK P (plainK P d) fs o = some ks → typed ks (xs.drop o) = true → ∀ f ∈ fs, f.name ≠ "_" ∧ ∃ x, (Go.part f.type vs f.offset).run P w = .ok x w ∧ (Instr.checkKey em D f.type x).run P w = .ok () w := by
        intro fs
        induction fs with
        | nil => intro o ks _ _ f hf; simp at hf
        | cons f fs ihf =>
          intro o ks h ht f' hf'
          simp only [fieldsK] at h
          split at h
          · rename_i l hl
            cases hc : (f.name != "_" && f.offset == o && P.cellsOf f.type == l.length && (P.info? f.type).isSome) with
            | false => rw [hc] at h; simp at h
            | true =>
              rw [hc] at h; simp only [cond_true] at h
              obtain ⟨ks', hks', rfl⟩ := Option.map_eq_some_iff.1 h
              simp only [Bool.and_eq_true, bne_iff_ne, ne_eq, beq_iff_eq] at hc
              obtain ⟨⟨⟨hn, ho⟩, hcc⟩, hii⟩ := hc
              obtain ⟨h1, h2⟩ := typed_append _ _ _ ht
              rcases List.mem_cons.1 hf' with rfl | hf'
              · exact ⟨hn, by rw [ho]; exact ih f'.type l hl hcc hii β w o xs vs hv h1⟩
              · simp only [List.drop_drop] at h2
                exact ihf _ ks' hks' h2 f' hf'
          · cases h
      have all := key fs.toList 0 ks h (by simpa using he)
      generalize fs.toList = L at all
      induction L with
      | nil => simp
      | cons f L ihh =>
        obtain ⟨hn, a, p1, p2⟩ := all f (by simp)
        simp only [List.forIn_cons, Sem.run_bind, hn, ne_eq, not_false_eq_true, if_true, Result.andThen_ok, p1, p2, Sem.run_pure]
        exact ihh (fun y hy => all y (by simp [hy]))

theorem ckK_ok (em : Bool) (D : Nat) : ∀ (d t : Nat) (ks : List (Option IntKind)), plainK P d t = some ks → P.cellsOf t = ks.length → (P.info? t).isSome = true → CkK P em (D + d) t ks
  | 0, t, ks, h, _, _ => by simp [plainK] at h
  | d + 1, t, ks, h, hc, hi => by
    cases hu : P.underlying t with
    | none => rw [plainK, hu] at h; simp at h
    | some td =>
      have agg : ((∃ n e, td = .array n e) ∨ ∃ fs, td = .struct fs) → CkK P em (D + (d + 1)) t ks := by
        intro hd
        obtain ⟨i, hi⟩ := Option.isSome_iff_exists.1 hi
        exact ckK_of_ckW hu hd hi hc (ckW_of (ckK_ok em D d) h hu hd)
      have h0 := h
      rw [plainK, hu] at h
      cases td <;> simp only at h <;> try (cases h; done)
      case bool => injection h with h; subst h; exact ckK_leaf hu rfl
      case int q => injection h with h; subst h; exact ckK_leaf hu rfl
      case array n e => exact agg (.inl ⟨n, e, rfl⟩)
      case struct fs => exact agg (.inr ⟨fs, rfl⟩)

/-- What PlainP asks, of a struct or an array. -/
theorem plainP_ok {d t : Nat} {ks : List (Option IntKind)} {td : TypeDesc} (hd : d + 1 ≤ 10000) (h : plainK P (d + 1) t = some ks) (hu : P.underlying t = some td) (ha : (∃ n e, td = .array n e) ∨ ∃ fs, td = .struct fs) (hg : P.eqGuardType P.depth t = false) : PlainP P t ks := by
  refine ⟨?_, hg, ?_⟩
  · intro β xs ys vs us b w hv hy he
    have := eqW_of (D := 10000 - (d + 1) + d) (eqK_ok (10000 - (d + 1)) d) h hu ha β w xs ys vs us b hv hy he
    rw [show 10000 - (d + 1) + d + 1 = 10000 by omega] at this
    exact this
  · intro β xs vs em w hv he
    have := ckW_of (em := em) (D := 10000 - (d + 1) + d) (ckK_ok em (10000 - (d + 1)) d) h hu ha β w xs vs hv he
    rw [show 10000 - (d + 1) + d + 1 = 10000 by omega] at this
    exact this

end
end Go.Ai
