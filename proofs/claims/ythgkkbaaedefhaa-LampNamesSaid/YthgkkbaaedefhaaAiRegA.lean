/- AiRegA AiRegB AiRegC -/
import Derived.Test.YthgkkbaaedefhaaAiOps
set_option linter.unusedVariables false
set_option linter.unusedSimpArgs false
section
namespace Go.Ai
open Go

theorem binds_eq (x : Edge) : Region.binds .any x = binds x := by
  unfold Region.binds binds
  cases x.ground <;> rfl

theorem testBit_one (k j : Nat) : Nat.testBit (Nat.shiftLeft 1 k) j = decide (k = j) := by
  show Nat.testBit (1 <<< k) j = _
  rw [Nat.one_shiftLeft, Nat.testBit_two_pow]
theorem testBit_lor (a b j : Nat) : Nat.testBit (Nat.lor a b) j = (Nat.testBit a j || Nat.testBit b j) := by
  show Nat.testBit (a ||| b) j = _
  rw [Nat.testBit_or]

theorem beforeOf_ok {bs : List Nat} {n : Nat} : ∀ {es : List Edge} {m : Nat}, beforeOf bs n es = some m →
    (∀ x ∈ es, binds x = true → x.on < n ∧ Nat.testBit m x.on = true) ∧ ∀ j, Nat.testBit m j = true → ∃ x ∈ es, binds x = true ∧ x.on < n ∧ (j = x.on ∨ ∃ mx, bs[n - 1 - x.on]? = some mx ∧ Nat.testBit mx j = true)
  | [], m, h => by
    simp only [beforeOf] at h; injection h with h; subst h
    exact ⟨by simp, fun j hj => by simp at hj⟩
  | y :: es, m, h => by
    simp only [beforeOf] at h
    cases hb : binds y with
    | false =>
      rw [hb] at h; simp only [cond_false] at h
      obtain ⟨h1, h2⟩ := beforeOf_ok h
      refine ⟨fun x hx hxb => ?_, fun j hj => ?_⟩
      · rcases List.mem_cons.1 hx with rfl | hx
        · rw [hb] at hxb; cases hxb
        · exact h1 x hx hxb
      · obtain ⟨x, hx, r⟩ := h2 j hj
        exact ⟨x, by simp [hx], r⟩
    | true =>
      rw [hb] at h; simp only [cond_true] at h
      by_cases hlt : y.on < n
      · rw [bltT.2 hlt] at h; simp only [cond_true] at h
        split at h
        · rename_i my k hmy hk
          injection h with h; subst h
          obtain ⟨h1, h2⟩ := beforeOf_ok hk
          refine ⟨fun x hx hxb => ?_, fun j hj => ?_⟩
          · rcases List.mem_cons.1 hx with rfl | hx
            · exact ⟨hlt, by rw [testBit_lor, testBit_lor, testBit_one]; simp⟩
            · obtain ⟨a, b⟩ := h1 x hx hxb
              exact ⟨a, by rw [testBit_lor, b]; simp⟩
          · rw [testBit_lor, testBit_lor, testBit_one] at hj
            simp only [Bool.or_eq_true, decide_eq_true_eq] at hj
            rcases hj with (hj | hj) | hj
            · exact ⟨y, by simp, hb, hlt, .inr ⟨my, hmy, hj⟩⟩
            · exact ⟨y, by simp, hb, hlt, .inl hj.symm⟩
            · obtain ⟨x, hx, r⟩ := h2 j hj
              exact ⟨x, by simp [hx], r⟩
        · cases h
      · rw [bltF.2 (by omega)] at h; simp at h

theorem befores_ok : ∀ {l : List Oper} {n : Nat} {bs ms : List Nat}, befores l n bs = some ms → bs.length = n →
    ms.length = n + l.length ∧ ms.take n = bs.reverse ∧ ∀ i o, l[i]? = some o → ∃ m, ms[n + i]? = some m ∧ beforeOf (ms.take (n + i)).reverse (n + i) o.after.toList = some m
  | [], n, bs, ms, h, hl => by
    simp only [befores] at h; injection h with h; subst h
    refine ⟨by simp [hl], ?_, by simp⟩
    rw [List.take_of_length_le (by simp [hl])]
  | o :: l, n, bs, ms, h, hl => by
    simp only [befores] at h
    split at h
    · rename_i m hm
      obtain ⟨h1, h2, h3⟩ := befores_ok h (by simp [hl])
      have hn : ms.take n = bs.reverse := by
        have : (ms.take (n + 1)).take n = ((m :: bs).reverse).take n := by rw [h2]
        rw [List.take_take, Nat.min_eq_left (by omega)] at this
        rw [this, List.reverse_cons, List.take_left' (by simp [hl])]
      have hmn : ms[n]? = some m := by
        have : (ms.take (n + 1))[n]? = ((m :: bs).reverse)[n]? := by rw [h2]
        rw [List.getElem?_take, if_pos (by omega)] at this
        rw [this, List.reverse_cons, List.getElem?_append_right (by simp [hl])]
        simp [hl]
      refine ⟨by simp at h1 ⊢; omega, hn, fun i o' hi => ?_⟩
      cases i with
      | zero =>
        simp at hi; subst hi
        exact ⟨m, by simpa using hmn, by simpa [hn] using hm⟩
      | succ i =>
        simp at hi
        obtain ⟨m', k1, k2⟩ := h3 i o' hi
        refine ⟨m', ?_, ?_⟩
        · rw [← k1]; congr 1; omega
        · rw [show n + (i + 1) = n + 1 + i by omega]; exact k2
    · cases h

theorem freeOf_ok {ops : List Oper} {o : Oper} {m : Nat} : ∀ {l : List Oper} {i : Nat} {fr : List Nat}, freeOf ops o m l i = some fr →
    ∀ j x, l[j]? = some x → Nat.testBit m (i + j) = false → (i + j) ∈ fr ∧ apart ops x o = true
  | [], i, fr, _, j, x, hx, _ => by simp at hx
  | y :: l, i, fr, h, j, x, hx, hb => by
    simp only [freeOf] at h
    cases ht : Nat.testBit m i with
    | true =>
      rw [ht] at h; simp only [cond_true] at h
      cases j with
      | zero => simp at hb; rw [ht] at hb; cases hb
      | succ j =>
        simp at hx
        have := freeOf_ok h j x hx (by rw [← hb]; congr 1; omega)
        rw [show i + (j + 1) = i + 1 + j by omega]; exact this
    | false =>
      rw [ht] at h; simp only [cond_false] at h
      cases ha : apart ops y o with
      | false => rw [ha] at h; simp at h
      | true =>
        rw [ha] at h; simp only [cond_true] at h
        split at h
        · rename_i fr' hfr
          injection h with h; subst h
          cases j with
          | zero => simp at hx; subst hx; exact ⟨by simp, ha⟩
          | succ j =>
            simp at hx
            obtain ⟨k1, k2⟩ := freeOf_ok hfr j x hx (by rw [← hb]; congr 1; omega)
            exact ⟨by rw [show i + (j + 1) = i + 1 + j by omega]; simp [k1], k2⟩
        · cases h

theorem freesOf_ok {ops : List Oper} : ∀ {l : List Oper} {ms : List Nat} {n : Nat} {frs : List (List Nat)}, freesOf ops l ms n = some frs →
    ∀ i o m, l[i]? = some o → ms[i]? = some m → ∃ fr, frs[i]? = some fr ∧ freeOf ops o m (ops.take (n + i)) 0 = some fr
  | [], _, _, _, _, i, o, m, hi, _ => by simp at hi
  | x :: l, [], n, frs, h, i, o, m, _, hm => by simp at hm
  | x :: l, y :: ms, n, frs, h, i, o, m, hi, hm => by
    simp only [freesOf] at h
    split at h
    · rename_i fr frs' hfr hrest
      injection h with h; subst h
      cases i with
      | zero => simp at hi hm; subst hi; subst hm; exact ⟨fr, by simp, by simpa using hfr⟩
      | succ i =>
        simp at hi hm
        obtain ⟨fr', k1, k2⟩ := freesOf_ok hrest i o m hi hm
        exact ⟨fr', by simpa using k1, by rw [show n + (i + 1) = n + 1 + i by omega]; exact k2⟩
    · cases h

/-- The order of a region: 'bf j i': j comes before i. -/
def bf (ms : List Nat) (j i : Nat) : Prop := Nat.testBit (ms.getD i 0) j = true

structure Stat (ops : List Oper) (ms : List Nat) (frs : List (List Nat)) : Prop where
  len : ms.length = ops.length
  lt : ∀ i o, ops[i]? = some o → ∀ x ∈ o.after.toList, binds x = true → x.on < i ∧ bf ms x.on i
  src : ∀ i o, ops[i]? = some o → ∀ j, bf ms j i → ∃ x ∈ o.after.toList, binds x = true ∧ (j = x.on ∨ bf ms j x.on)
  free : ∀ i o, ops[i]? = some o → ∃ fr, frs[i]? = some fr ∧ ∀ j x, j < i → ops[j]? = some x → ¬ bf ms j i → j ∈ fr ∧ apart ops x o = true

theorem frees_ok {ops : List Oper} {ms : List Nat} {frs : List (List Nat)} (h : frees ops = some (ms, frs)) : Stat ops ms frs := by
  unfold frees at h
  split at h
  · rename_i ms' hms
    split at h
    · rename_i l hl
      injection h with h; cases h
      obtain ⟨h1, h2, h3⟩ := befores_ok hms rfl
      have hlen : ms.length = ops.length := by simpa using h1
      have hget : ∀ i o, ops[i]? = some o → ∃ m, ms[i]? = some m ∧ beforeOf (ms.take i).reverse i o.after.toList = some m := by
        intro i o hi
        obtain ⟨m, k1, k2⟩ := h3 i o hi
        simp only [Nat.zero_add] at k1 k2
        exact ⟨m, k1, k2⟩
      have hrev : ∀ i x, x < i → i ≤ ms.length → ((ms.take i).reverse)[i - 1 - x]? = ms[x]? := by
        intro i x hx hi
        have hlt : i - 1 - x < (ms.take i).length := by simp; omega
        rw [List.getElem?_reverse hlt]
        have : (ms.take i).length - 1 - (i - 1 - x) = x := by simp; omega
        rw [this, List.getElem?_take, if_pos hx]
      refine ⟨hlen, ?_, ?_, ?_⟩
      · intro i o hi x hx hb
        obtain ⟨m, k1, k2⟩ := hget i o hi
        obtain ⟨b1, b2⟩ := beforeOf_ok k2
        obtain ⟨c1, c2⟩ := b1 x hx hb
        exact ⟨c1, by simp only [bf, List.getD_eq_getElem?_getD, k1, Option.getD_some]; exact c2⟩
      · intro i o hi j hj
        obtain ⟨m, k1, k2⟩ := hget i o hi
        obtain ⟨b1, b2⟩ := beforeOf_ok k2
        simp only [bf, List.getD_eq_getElem?_getD, k1, Option.getD_some] at hj
        obtain ⟨x, hx, hb, hlt, hr⟩ := b2 j hj
        refine ⟨x, hx, hb, ?_⟩
        rcases hr with rfl | ⟨mx, hmx, ht⟩
        · exact .inl rfl
        · right
          have hi' : i < ms.length := (List.getElem?_eq_some_iff.1 k1).1
          rw [hrev i x.on hlt (by omega)] at hmx
          simp only [bf, List.getD_eq_getElem?_getD, hmx, Option.getD_some]; exact ht
      · intro i o hi
        obtain ⟨m, k1, _⟩ := hget i o hi
        obtain ⟨fr, f1, f2⟩ := freesOf_ok hl i o m hi k1
        refine ⟨fr, f1, fun j x hj hx hn => ?_⟩
        simp only [Nat.zero_add] at f2
        have := freeOf_ok f2 j x (by rw [List.getElem?_take, if_pos hj]; exact hx) (by
          simp only [bf, List.getD_eq_getElem?_getD, k1, Option.getD_some] at hn
          simpa using hn)
        simpa using this
    · cases h
  · cases h

theorem hits_iff {d : Option Nat} {l : List Nat} : hits d l = true ↔ ∃ x, d = some x ∧ x ∈ l := by
  unfold hits
  cases d with
  | none => simp
  | some d =>
    simp only [List.any_eq_true, Option.some.injEq, exists_eq_left']
    constructor
    · rintro ⟨x, hx, h⟩; rw [← beqT.1 h]; exact hx
    · intro h; exact ⟨d, h, beqT.2 rfl⟩

theorem apart_iff {ops : List Oper} {a b : Oper} (h : apart ops a b = true) : (∀ x, a.dst = some x → x ∉ usesOf ops b) ∧ (∀ x, b.dst = some x → x ∉ usesOf ops a) ∧ (∀ x, a.dst = some x → b.dst ≠ some x) := by
  unfold apart at h
  rw [bandT, bandT, bnotT, bnotT, bnotT] at h
  refine ⟨fun x hx hm => ?_, fun x hx hm => ?_, fun x hx hm => ?_⟩
  · have := hits_iff.2 ⟨x, hx, hm⟩; rw [this] at h; simp at h
  · have := hits_iff.2 ⟨x, hx, hm⟩; rw [this] at h; simp at h
  · have : hits a.dst b.dst.toList = true := hits_iff.2 ⟨x, hx, by rw [hm]; simp⟩
    rw [this] at h; simp at h

theorem meet_iff {a b : List Nat} : meet a b = true ↔ ∃ x, x ∈ a ∧ x ∈ b := by
  rw [meet_eq]
  simp only [List.any_eq_true]
  constructor
  · rintro ⟨x, hx, y, hy, h⟩; exact ⟨x, hx, by rw [beqT.1 h]; exact hy⟩
  · rintro ⟨x, hx, hy⟩; exact ⟨x, hx, x, hy, beqT.2 rfl⟩

/-- Two footprints that do not clash. -/
theorem clash_iff {a b : FP} (h : a.clash b = false) : (a.wrAll = true → b.any = false) ∧ (b.wrAll = true → a.any = false) ∧ (a.all = true → b.wr = []) ∧ (b.all = true → a.wr = []) ∧
    (∀ x, x ∈ a.wr → x ∉ b.rd) ∧ (∀ x, x ∈ a.wr → x ∉ b.wr) ∧ (∀ x, x ∈ a.rd → x ∉ b.wr) := by
  rw [FP.clash_eq] at h
  simp only [Bool.or_eq_false_iff] at h
  obtain ⟨⟨⟨⟨⟨⟨h1, h2⟩, h3⟩, h4⟩, h5⟩, h6⟩, h7⟩ := h
  refine ⟨fun k => ?_, fun k => ?_, fun k => ?_, fun k => ?_, fun x hx hy => ?_, fun x hx hy => ?_, fun x hx hy => ?_⟩
  · rw [k] at h1; simpa using h1
  · rw [k] at h2; simpa using h2
  · rw [k] at h3; simpa using h3
  · rw [k] at h4; simpa using h4
  · have := meet_iff.2 ⟨x, hx, hy⟩; rw [this] at h5; cases h5
  · have := meet_iff.2 ⟨x, hx, hy⟩; rw [this] at h6; cases h6
  · have := meet_iff.2 ⟨x, hx, hy⟩; rw [this] at h7; cases h7

theorem any_iff {a : FP} (h : a.any = false) : a.all = false ∧ a.wrAll = false ∧ a.rd = [] ∧ a.wr = [] ∧ a.al = false := by
  rw [FP.any_eq] at h
  simp only [Bool.or_eq_false_iff] at h
  obtain ⟨⟨⟨⟨h1, h2⟩, h3⟩, h4⟩, h5⟩ := h
  exact ⟨h1, h2, by simpa using h3, by simpa using h4, h5⟩

theorem clashes_ok {fs : List FP} {n : Nat} {f : FP} : ∀ {l : List Nat}, clashes fs n f l = false → ∀ i ∈ l, ∃ x, fs[n - 1 - i]? = some x ∧ x.clash f = false
  | [], _, i, hi => by cases hi
  | j :: l, h, i, hi => by
    simp only [clashes_cons, Bool.or_eq_false_iff] at h
    rcases List.mem_cons.1 hi with rfl | hi
    · have := h.1
      split at this
      · rename_i x hx; exact ⟨x, hx, this⟩
      · cases this
    · exact clashes_ok h.2 i hi

end Go.Ai
end

section
namespace Go.Ai
open Go

/-- The run of a region in the text's order. -/
structure Run where
  E : Nat → Env
  H : Nat → Heap
  V : Nat → AV
  f : Nat → FP
  ran : Nat → Bool

section
variable {P : Program} {T : Types} {F : Funcs} {K : Nat → Caller}

/-- The first n operations ran so. -/
structure Run.Ok (T : Types) (K : Nat → Caller) (all : List Oper) (frs : List (List Nat)) (R : Run) (n : Nat) : Prop where
  op : ∀ i, i < n → ∃ o, all[i]? = some o ∧ wantedA all (R.E i) o = some (R.ran i) ∧ (R.E i).put o.dst (R.V i) = some (R.E (i + 1)) ∧
    (R.ran i = true → xop T (K i) (R.E i) (R.H i) o = some (.ret (R.V i), R.H (i + 1), R.f i)) ∧
    (R.ran i = false → R.V i = .tup [] ∧ R.H (i + 1) = R.H i ∧ R.f i = FP.nil)
  cl : ∀ i, i < n → ∀ fr, frs[i]? = some fr → ∀ j ∈ fr, j < i → (R.f j).clash (R.f i) = false

def Run.upd (R : Run) (n : Nat) (v : AV) (f : FP) (ran : Bool) (e : Env) (h : Heap) : Run :=
  { E := fun i => if i = n + 1 then e else R.E i, H := fun i => if i = n + 1 then h else R.H i, V := fun i => if i = n then v else R.V i, f := fun i => if i = n then f else R.f i, ran := fun i => if i = n then ran else R.ran i }

theorem Run.Ok.upd {all : List Oper} {frs : List (List Nat)} {R : Run} {n : Nat} (hR : R.Ok T K all frs n) {o : Oper} (ho : all[n]? = some o) {v : AV} {f : FP} {ran : Bool} {e : Env} {h : Heap}
    (hw : wantedA all (R.E n) o = some ran) (hp : (R.E n).put o.dst v = some e) (h1 : ran = true → xop T (K n) (R.E n) (R.H n) o = some (.ret v, h, f)) (h2 : ran = false → v = .tup [] ∧ h = R.H n ∧ f = FP.nil)
    (hc : ∀ fr, frs[n]? = some fr → ∀ j ∈ fr, j < n → (R.f j).clash f = false) : (R.upd n v f ran e h).Ok T K all frs (n + 1) := by
  refine ⟨fun i hi => ?_, fun i hi fr hfr j hj hji => ?_⟩
  · by_cases hin : i = n
    · subst hin
      refine ⟨o, ho, ?_, ?_, ?_, ?_⟩
      · simp [Run.upd, hw]
      · simp [Run.upd, hp]
      · simpa [Run.upd] using h1
      · simpa [Run.upd] using h2
    · obtain ⟨o', k1, k2, k3, k4, k5⟩ := hR.op i (by omega)
      have a1 : i ≠ n + 1 := by omega
      have a2 : i + 1 ≠ n + 1 := by omega
      refine ⟨o', k1, ?_, ?_, ?_, ?_⟩
      · simp [Run.upd, hin, a1, k2]
      · simp [Run.upd, hin, a1, k3]
      · simpa [Run.upd, hin, a1] using k4
      · simpa [Run.upd, hin, a1] using k5
  · by_cases hin : i = n
    · subst hin
      have : j ≠ i := by omega
      simp only [Run.upd, if_pos, this, if_false]
      exact hc fr hfr j hj hji
    · have : j ≠ n := by omega
      simp only [Run.upd, hin, this, if_false]
      exact hR.cl i (by omega) fr hfr j hj hji

def RunEnd (T : Types) (K : Nat → Caller) (all : List Oper) (frs0 : List (List Nat)) (ms : List Nat) (e0 : Env) (R' : Run) (m : Nat) (e' : Env) (h' : Heap) : Option AV → Prop
  | none => m = all.length ∧ e' = R'.E m ∧ h' = R'.H m
  | some v => ∃ o f, all[m]? = some o ∧ wantedA all (R'.E m) o = some true ∧ xop T (K m) (R'.E m) (R'.H m) o = some (.pan v, h', f) ∧ e' = forget e0 all ∧
      (∀ fr, frs0[m]? = some fr → ∀ j ∈ fr, j < m → (R'.f j).clash f = false) ∧ (ms.drop (m + 1)).all (fun x => Nat.testBit x m) = true

/-- What 'xopsD' tells of the run. -/
theorem xopsD_run {K : Caller} {all : List Oper} {frs0 : List (List Nat)} {ms : List Nat} {e0 : Env} {p : Option AV} {e' : Env} {h' : Heap} :
    ∀ (l : List Oper) (n : Nat) (frs : List (List Nat)) (fs : List FP) (R : Run), l = all.drop n → frs = frs0.drop n → fs.length = n → (∀ i, i < n → fs[n - 1 - i]? = some (R.f i)) → R.Ok T (fun _ => K) all frs0 n → n ≤ all.length →
      xopsD T K all e0 l frs ms n fs (R.E n) (R.H n) = some (p, e', h') →
      ∃ (R' : Run) (m : Nat), R'.Ok T (fun _ => K) all frs0 m ∧ n ≤ m ∧ (∀ i, i ≤ n → R'.E i = R.E i ∧ R'.H i = R.H i) ∧ RunEnd T (fun _ => K) all frs0 ms e0 R' m e' h' p
  | [], n, frs, fs, R, hl, _, _, _, hR, hn, h1 => by
    simp only [xopsD] at h1
    injection h1 with h1; cases h1
    have : all.length ≤ n := by
      have := congrArg List.length hl
      simp at this; omega
    exact ⟨R, n, hR, Nat.le_refl _, fun i _ => ⟨rfl, rfl⟩, by omega, rfl, rfl⟩
  | o :: l, n, frs, fs, R, hl, hfrs, hfl, hfs, hR, hn, h1 => by
    have ho : all[n]? = some o := by
      have : (all.drop n)[0]? = some o := by rw [← hl]; rfl
      rw [List.getElem?_drop] at this
      simpa using this
    have hnl : n < all.length := (List.getElem?_eq_some_iff.1 ho).1
    have hl' : l = all.drop (n + 1) := by
      have : (o :: l).drop 1 = (all.drop n).drop 1 := by rw [hl]
      simpa [List.drop_drop] using this
    cases frs with
    | nil => simp [xopsD] at h1
    | cons fr frs =>
      have hfr : frs0[n]? = some fr := by
        have : (frs0.drop n)[0]? = some fr := by rw [← hfrs]; rfl
        rw [List.getElem?_drop] at this
        simpa using this
      have hfrs' : frs = frs0.drop (n + 1) := by
        have : (fr :: frs).drop 1 = (frs0.drop n).drop 1 := by rw [hfrs]
        simpa [List.drop_drop] using this
      -- one step further
      have next : ∀ {v : AV} {f : FP} {ran : Bool} {e1 : Env} {hh : Heap}, (R.upd n v f ran e1 hh).Ok T (fun _ => K) all frs0 (n + 1) →
          xopsD T K all e0 l frs ms (n + 1) (f :: fs) e1 hh = some (p, e', h') → ∃ (R' : Run) (m : Nat), R'.Ok T (fun _ => K) all frs0 m ∧ n ≤ m ∧ (∀ i, i ≤ n → R'.E i = R.E i ∧ R'.H i = R.H i) ∧ RunEnd T (fun _ => K) all frs0 ms e0 R' m e' h' p := by
        intro v f ran e1 hh hok hx
        have hE : (R.upd n v f ran e1 hh).E (n + 1) = e1 := by simp [Run.upd]
        have hH : (R.upd n v f ran e1 hh).H (n + 1) = hh := by simp [Run.upd]
        obtain ⟨R', m, q1, q2, q3, q4⟩ := xopsD_run l (n + 1) frs (f :: fs) (R.upd n v f ran e1 hh) hl' hfrs' (by simp [hfl]) (by
          intro i hi
          by_cases hin : i = n
          · subst hin; simp [Run.upd]
          · rw [show n + 1 - 1 - i = (n - 1 - i) + 1 by omega, List.getElem?_cons_succ, hfs i (by omega)]
            simp [Run.upd, hin]) hok (by omega) (by rw [hE, hH]; exact hx)
        refine ⟨R', m, q1, by omega, fun i hi => ?_, q4⟩
        obtain ⟨a1, a2⟩ := q3 i (by omega)
        have : i ≠ n + 1 := by omega
        rw [a1, a2]
        simp [Run.upd, this]
      simp only [xopsD] at h1
      split at h1
      · cases h1
      · rename_i hw
        split at h1
        · rename_i e1 hp
          refine next (hR.upd ho hw hp (by simp) (fun _ => ⟨rfl, rfl, rfl⟩) ?_) h1
          intro fr' hfr' j hj hjn
          cases hc : (R.f j).clash FP.nil with
          | false => rfl
          | true => exfalso; revert hc; simp [FP.clash_eq, FP.any_eq, FP.nil, meet_eq]
        · cases h1
      · rename_i hw
        split at h1
        · cases h1
        · rename_i x h2 f hx
          cases hcl : clashes fs n f fr with
          | true => rw [hcl] at h1; simp at h1
          | false =>
            rw [hcl] at h1; simp only [cond_false] at h1
            have hc : ∀ fr', frs0[n]? = some fr' → ∀ j ∈ fr', j < n → (R.f j).clash f = false := by
              intro fr' hfr' j hj hjn
              rw [hfr] at hfr'; injection hfr' with hfr'; subst hfr'
              obtain ⟨y, hy, hyc⟩ := clashes_ok hcl j hj
              rw [hfs j hjn] at hy
              injection hy with hy; subst hy; exact hyc
            split at h1
            · rename_i v
              cases ha : (ms.drop (n + 1)).all (fun m => Nat.testBit m n) with
              | false => rw [ha] at h1; simp at h1
              | true =>
                rw [ha] at h1; simp only [cond_true] at h1
                injection h1 with h1; cases h1
                exact ⟨R, n, hR, Nat.le_refl _, fun i _ => ⟨rfl, rfl⟩, o, f, ho, hw, hx, rfl, hc, ha⟩
            · split at h1
              · rename_i e1 hp
                exact next (hR.upd ho hw hp (fun _ => hx) (by simp) hc) h1
              · cases h1

end
end Go.Ai
end

section
namespace Go.Ai
open Go

section
variable {P : Program} {T : Types} {F : Funcs} {K : Nat → Caller} {all : List Oper} {frs : List (List Nat)} {ms : List Nat} {R : Run} {n : Nat}

def Wr (R : Run) (i b : Nat) : Prop := ((R.f i).wrAll = true ∧ b < (R.H i).nx) ∨ b ∈ (R.f i).wr
def Nw (R : Run) (i b : Nat) : Prop := (R.H i).nx ≤ b ∧ b < (R.H (i + 1)).nx

theorem xop_facts {K : Caller} (hKe : KExt K) {e : Env} {h h' : Heap} {o : Oper} {r : Res} {f : FP} (h1 : xop T K e h o = some (r, h', f)) :
    (∀ b, b ∈ f.wr → b < h.nx) ∧ (∀ b, ¬ (f.wrAll = true ∧ b < h.nx) → b ∉ f.wr → b < h.nx → h'.get b = h.get b) ∧ (h.nx < h'.nx → f.al = true) := by
  unfold xop at h1
  split at h1
  · split at h1
    · split at h1
      · rename_i req _ r' h2 hk
        injection h1 with h1; cases h1
        have hx := hKe _ _ _ _ hk
        refine ⟨by simp, fun b hb _ hlt => ?_, fun _ => rfl⟩
        have hnl : ¬ h2.lo < h.nx := by
          intro hh; exact hb ⟨bltT.2 hh, hlt⟩
        exact hx.2.2 b hlt (by omega)
      · cases h1
    · cases h1
  · split at h1
    · split at h1
      · injection h1 with h1; cases h1
        exact ⟨by simp, fun _ _ _ _ => rfl, fun hh => by omega⟩
      · cases h1
    · split at h1
      · rename_i out ho
        injection h1 with h1; cases h1
        have hlt := aop_lt ho
        refine ⟨fun b hb => ?_, fun b _ hb hbl => apply_other hlt hbl hb, fun hh => ?_⟩
        · obtain ⟨p, hp, rfl⟩ := List.mem_map.1 hb; exact hlt p hp
        · rw [apply_nx] at hh
          cases hn : out.nw with
          | nil => rw [hn] at hh; simp at hh
          | cons x l => rfl
      · cases h1

theorem Run.Ok.ext (hR : R.Ok T K all frs n) (hKe : ∀ i, KExt (K i)) : ∀ i, i < n → HExt (R.H i) (R.H (i + 1)) := by
  intro i hi
  obtain ⟨o, _, _, _, h4, h5⟩ := hR.op i hi
  cases hr : R.ran i with
  | true => exact xop_ext (hKe i) (h4 hr)
  | false => rw [(h5 hr).2.1]; exact HExt.refl _
theorem Run.Ok.mono (hR : R.Ok T K all frs n) (hKe : ∀ i, KExt (K i)) : ∀ i j, i ≤ j → j ≤ n → (R.H i).nx ≤ (R.H j).nx := by
  intro i j hij
  induction j with
  | zero => intro _; have : i = 0 := by omega
            subst this; exact Nat.le_refl _
  | succ j ih =>
    intro hj
    by_cases h : i = j + 1
    · subst h; exact Nat.le_refl _
    · exact Nat.le_trans (ih (by omega) (by omega)) (hR.ext hKe j (by omega)).1
theorem Run.Ok.en (hR : R.Ok T K all frs n) : ∀ i, i ≤ n → (R.E i).n = (R.E 0).n := by
  intro i
  induction i with
  | zero => intro _; rfl
  | succ i ih =>
    intro hi
    obtain ⟨o, _, _, h3, _⟩ := hR.op i (by omega)
    rw [put_n h3, ih (by omega)]
theorem Run.Ok.facts (hR : R.Ok T K all frs n) (hKe : ∀ i, KExt (K i)) (i : Nat) (hi : i < n) :
    (∀ b, b ∈ (R.f i).wr → b < (R.H i).nx) ∧ (∀ b, ¬ Wr R i b → b < (R.H i).nx → (R.H (i + 1)).get b = (R.H i).get b) ∧ (∀ b, Nw R i b → (R.f i).al = true) := by
  obtain ⟨o, _, _, _, h4, h5⟩ := hR.op i hi
  cases hr : R.ran i with
  | true =>
    obtain ⟨a, b, c⟩ := xop_facts (hKe i) (h4 hr)
    exact ⟨a, fun x hx hl => b x (fun y => hx (.inl y)) (fun y => hx (.inr y)) hl, fun x hx => c (by obtain ⟨p, q⟩ := hx; omega)⟩
  | false =>
    obtain ⟨_, e1, e2⟩ := h5 hr
    exact ⟨fun b hb => (by rw [e2] at hb; cases hb), fun b _ _ => (by rw [e1]), fun b hb => (by obtain ⟨p, q⟩ := hb; rw [e1] at q; omega)⟩
theorem Run.Ok.wr_lt (hR : R.Ok T K all frs n) (hKe : ∀ i, KExt (K i)) {i b : Nat} (hi : i < n) (h : Wr R i b) : b < (R.H i).nx := by
  rcases h with ⟨_, h⟩ | h
  · exact h
  · exact (hR.facts hKe i hi).1 b h

open Classical in
/-- What lies in a block when those of the first m operations that are in S have run. -/
noncomputable def hv (R : Run) (S : Nat → Prop) : Nat → Nat → Option AO
  | 0, b => (R.H 0).get b
  | m + 1, b => if S m ∧ (Wr R m b ∨ Nw R m b) then (R.H (m + 1)).get b else hv R S m b

open Classical in
/-- What lies in a slot then. -/
noncomputable def tv (all : List Oper) (R : Run) (S : Nat → Prop) : Nat → Nat → AV
  | 0, t => (R.E 0).get t
  | m + 1, t => if S m ∧ (∃ o, all[m]? = some o ∧ o.dst = some t) then R.V m else tv all R S m t

theorem Env.get_put {e e' : Env} {d : Option Nat} {v : AV} (h : e.put d v = some e') (t : Nat) : e'.get t = if d = some t then v else e.get t := by
  cases d with
  | none => simp only [Env.put_none, Env.put_some] at h; injection h with h; subst h; simp
  | some i =>
    simp only [Env.put_none, Env.put_some] at h
    generalize Nat.blt i e.n = c at h
    cases c with
    | false => simp at h
    | true =>
      simp only [cond_true] at h
      injection h with h; subst h
      simp only [Env.get, Tr.get_set]
      by_cases ht : t = i
      · subst ht; simp
      · have : ¬ (some i = some t) := by intro x; injection x with x; exact ht x.symm
        rw [if_neg ht, if_neg this]

theorem hv_before (hR : R.Ok T K all frs n) (hKe : ∀ i, KExt (K i)) {S : Nat → Prop} {b : Nat} : ∀ m, m ≤ n → (∀ j, j < m → (Wr R j b ∨ Nw R j b) → S j) → hv R S m b = (R.H m).get b := by
  intro m
  induction m with
  | zero => intro _ _; rfl
  | succ m ih =>
    intro hm hj
    simp only [hv]
    by_cases hw : Wr R m b ∨ Nw R m b
    · rw [if_pos ⟨hj m (by omega) hw, hw⟩]
    · rw [if_neg (fun x => hw x.2), ih (by omega) (fun j hjm => hj j (by omega))]
      by_cases hlt : b < (R.H m).nx
      · exact ((hR.facts hKe m (by omega)).2.1 b (fun x => hw (.inl x)) hlt).symm
      · have h2 : ¬ b < (R.H (m + 1)).nx := fun x => hw (.inr ⟨by omega, x⟩)
        rw [Heap.get_def, Heap.get_def, if_neg hlt, if_neg h2]

theorem hv_after {S : Nat → Prop} {b i : Nat} : ∀ m, i ≤ m → (∀ j, i ≤ j → j < m → S j → ¬ (Wr R j b ∨ Nw R j b)) → hv R S m b = hv R S i b := by
  intro m
  induction m with
  | zero => intro hi _; have : i = 0 := by omega
            subst this; rfl
  | succ m ih =>
    intro hi hj
    by_cases h : i = m + 1
    · subst h; rfl
    · simp only [hv]
      rw [if_neg (fun x => hj m (by omega) (by omega) x.1 x.2), ih (by omega) (fun j a b => hj j a (by omega))]

theorem hv_at (hR : R.Ok T K all frs n) (hKe : ∀ i, KExt (K i)) {S : Nat → Prop} {b i : Nat} (hi : i ≤ n) (h1 : ∀ j, j < i → (Wr R j b ∨ Nw R j b) → S j) (h2 : ∀ j, i ≤ j → j < n → S j → ¬ (Wr R j b ∨ Nw R j b)) :
    hv R S n b = (R.H i).get b := (hv_after n hi h2).trans (hv_before hR hKe i hi h1)

theorem hv_new {S : Nat → Prop} {b i : Nat} (hi : i < n) (hw : Wr R i b ∨ Nw R i b) (h2 : ∀ j, i < j → j < n → S j → ¬ (Wr R j b ∨ Nw R j b)) : hv R (fun j => S j ∨ j = i) n b = (R.H (i + 1)).get b := by
  rw [hv_after (i := i + 1) n (by omega) (fun j a c s => by
    rcases s with s | s
    · exact h2 j (by omega) c s
    · omega)]
  simp only [hv]
  rw [if_pos ⟨.inr rfl, hw⟩]
theorem hv_old {S : Nat → Prop} {b i : Nat} (hw : ¬ (Wr R i b ∨ Nw R i b)) : ∀ m, hv R (fun j => S j ∨ j = i) m b = hv R S m b := by
  intro m
  induction m with
  | zero => rfl
  | succ m ih =>
    simp only [hv]
    by_cases hm : m = i
    · subst hm
      rw [if_neg (fun x => hw x.2), if_neg (fun x => hw x.2), ih]
    · by_cases hc : S m ∧ (Wr R m b ∨ Nw R m b)
      · rw [if_pos hc, if_pos ⟨.inl hc.1, hc.2⟩]
      · rw [if_neg hc, if_neg (fun x => hc ⟨x.1.resolve_right hm, x.2⟩), ih]

theorem tv_before (hR : R.Ok T K all frs n) {S : Nat → Prop} {t : Nat} : ∀ m, m ≤ n → (∀ j, j < m → (∃ o, all[j]? = some o ∧ o.dst = some t) → S j) → tv all R S m t = (R.E m).get t := by
  intro m
  induction m with
  | zero => intro _ _; rfl
  | succ m ih =>
    intro hm hj
    obtain ⟨o, h1, _, h3, _⟩ := hR.op m (by omega)
    rw [Env.get_put h3]
    simp only [tv]
    by_cases hd : o.dst = some t
    · rw [if_pos ⟨hj m (by omega) ⟨o, h1, hd⟩, o, h1, hd⟩, if_pos hd]
    · rw [if_neg (by rintro ⟨_, o', h1', hd'⟩; rw [h1] at h1'; injection h1' with h1'; subst h1'; exact hd hd'), if_neg hd]
      exact ih (by omega) (fun j hjm => hj j (by omega))
theorem tv_after {S : Nat → Prop} {t i : Nat} : ∀ m, i ≤ m → (∀ j, i ≤ j → j < m → S j → ¬ (∃ o, all[j]? = some o ∧ o.dst = some t)) → tv all R S m t = tv all R S i t := by
  intro m
  induction m with
  | zero => intro hi _; have : i = 0 := by omega
            subst this; rfl
  | succ m ih =>
    intro hi hj
    by_cases h : i = m + 1
    · subst h; rfl
    · simp only [tv]
      rw [if_neg (fun x => hj m (by omega) (by omega) x.1 x.2), ih (by omega) (fun j a b => hj j a (by omega))]
theorem tv_at (hR : R.Ok T K all frs n) {S : Nat → Prop} {t i : Nat} (hi : i ≤ n) (h1 : ∀ j, j < i → (∃ o, all[j]? = some o ∧ o.dst = some t) → S j) (h2 : ∀ j, i ≤ j → j < n → S j → ¬ (∃ o, all[j]? = some o ∧ o.dst = some t)) :
    tv all R S n t = (R.E i).get t := (tv_after n hi h2).trans (tv_before hR i hi h1)
theorem tv_new {S : Nat → Prop} {t i : Nat} (hi : i < n) (hw : ∃ o, all[i]? = some o ∧ o.dst = some t) (h2 : ∀ j, i < j → j < n → S j → ¬ (∃ o, all[j]? = some o ∧ o.dst = some t)) : tv all R (fun j => S j ∨ j = i) n t = R.V i := by
  rw [tv_after (i := i + 1) n (by omega) (fun j a c s => by
    rcases s with s | s
    · exact h2 j (by omega) c s
    · omega)]
  simp only [tv]
  rw [if_pos ⟨.inr rfl, hw⟩]
theorem tv_old {S : Nat → Prop} {t i : Nat} (hw : ¬ (∃ o, all[i]? = some o ∧ o.dst = some t)) : ∀ m, tv all R (fun j => S j ∨ j = i) m t = tv all R S m t := by
  intro m
  induction m with
  | zero => rfl
  | succ m ih =>
    simp only [tv]
    by_cases hm : m = i
    · subst hm
      rw [if_neg (fun x => hw x.2), if_neg (fun x => hw x.2), ih]
    · by_cases hc : S m ∧ (∃ o, all[m]? = some o ∧ o.dst = some t)
      · rw [if_pos hc, if_pos ⟨.inl hc.1, hc.2⟩]
      · rw [if_neg hc, if_neg (fun x => hc ⟨x.1.resolve_right hm, x.2⟩), ih]

/-- A memory with given blocks. -/
theorem heap_of (g : Nat → Option AO) (lo : Nat) : ∀ nx, ∃ h : Heap, h.nx = nx ∧ h.lo = lo ∧ ∀ b, h.get b = if b < nx then g b else none := by
  intro nx
  have key : ∀ k, ∃ t : Tr AO, ∀ b, t.get b = if b < k then g b else none := by
    intro k
    induction k with
    | zero => exact ⟨.lf, fun b => by simp [Tr.get_lf]⟩
    | succ k ih =>
      obtain ⟨t, ht⟩ := ih
      cases hg : g k with
      | none =>
        refine ⟨t, fun b => ?_⟩
        rw [ht]
        by_cases hb : b < k
        · rw [if_pos hb, if_pos (by omega)]
        · rw [if_neg hb]
          by_cases hk : b = k
          · subst hk; rw [if_pos (by omega), hg]
          · rw [if_neg (by omega)]
      | some o =>
        refine ⟨t.set k o, fun b => ?_⟩
        rw [Tr.get_set, ht]
        by_cases hk : b = k
        · subst hk; rw [if_pos rfl, if_pos (by omega), hg]
        · rw [if_neg hk]
          by_cases hb : b < k
          · rw [if_pos hb, if_pos (by omega)]
          · rw [if_neg hb, if_neg (by omega)]
  obtain ⟨t, ht⟩ := key nx
  refine ⟨⟨nx, t, lo⟩, rfl, rfl, fun b => ?_⟩
  rw [Heap.get_def]
  by_cases hb : b < nx
  · rw [if_pos hb, if_pos hb, ht, if_pos hb]
  · rw [if_neg hb, if_neg hb]

end
end Go.Ai
end
