/- AiRel -/
import Derived.Test.YthgkkbaaedefhaaAiDefs
import Derived.RangeFuncLeaves
import Derived.RangeFuncRecord
import Derived.RecoverIn
import Derived.OrdersIn
set_option linter.unusedVariables false
set_option linter.unusedSimpArgs false
namespace Go.Ai
open Go

/-- Where a block of the abstract memory lies: the block, the first cell, how many cells the block has, how many an element; whether it is written. -/
structure BI where
  c : Nat
  base : Nat
  sz : Nat
  es : Nat
  own : Bool

abbrev Bm := Nat → Option BI

def FR (β : Bm) : AFn → Fn → Prop
  | .func f, g => g = .func f
  | .method s, g => g = .method s
  | .yield b, g => ∃ i, β b = some i ∧ g = .yield i.c

mutual
def VR (β : Bm) : AV → Value → Prop
  | .undef, _ => True
  | .bool b, v => v = .bool b
  | .int k n, v => v = .int k n
  | .nilp, v => v = .pointer none
  | .ptr b o, v => ∃ i, β b = some i ∧ v = .pointer (some ⟨i.c, i.base + o, none⟩)
  | .nils, v => v = .slice none 0 0
  | .slice b o l c x, v => ∃ i cc, β b = some i ∧ v = .slice (some ⟨i.c, i.base + o, none⟩) l cc ∧ l ≤ c ∧ c ≤ cc ∧ (x = true → cc = c) ∧ (i.own = true → i.base + o + cc * i.es ≤ i.sz)
  | .empt, v => ∃ a c, v = .slice (some a) 0 c
  | .nilm, v => v = .map none
  | .map b, v => ∃ i, β b = some i ∧ v = .map (some i.c)
  | .nilf, v => v = .nilFunc
  | .fn f p q, v => ∃ g p' q', v = .func g p' q' ∧ FR β f g ∧ VRs β p p'.toList ∧ VRs β q q'.toList
  | .nili, v => v = .nilIface
  | .iface t x, v => ∃ y, v = .iface t y ∧ VR β x y
  | .agg l, v => ∃ l', v = .agg l' ∧ VRs β l l'.toList
  | .tup l, v => ∃ l', v = .tuple l' ∧ VRs β l l'.toList
def VRs (β : Bm) : List AV → List Value → Prop
  | [], vs => vs = []
  | a :: l, vs => ∃ v r, vs = v :: r ∧ VR β a v ∧ VRs β l r
end

/-- β' knows all that β knows. -/
def Bm.le (β β' : Bm) : Prop := ∀ b i, β b = some i → β' b = some i

theorem Bm.le_refl (β : Bm) : β.le β := fun _ _ h => h
theorem Bm.le_trans {a b c : Bm} (h : a.le b) (k : b.le c) : a.le c := fun x i e => k x i (h x i e)

theorem FR.mono {β β' : Bm} (h : β.le β') {f : AFn} {g : Fn} (r : FR β f g) : FR β' f g := by
  cases f with
  | func f => exact r
  | method s => exact r
  | yield b => obtain ⟨i, e, rfl⟩ := r; exact ⟨i, h _ _ e, rfl⟩

mutual
theorem VR.mono {β β' : Bm} (h : β.le β') : ∀ (a : AV) (v : Value), VR β a v → VR β' a v
  | .undef, _, _ => trivial
  | .bool _, _, r => r
  | .int _ _, _, r => r
  | .nilp, _, r => r
  | .ptr _ _, _, ⟨i, e, r⟩ => ⟨i, h _ _ e, r⟩
  | .nils, _, r => r
  | .slice _ _ _ _ _, _, ⟨i, cc, e, r⟩ => ⟨i, cc, h _ _ e, r⟩
  | .empt, _, r => r
  | .nilm, _, r => r
  | .map _, _, ⟨i, e, r⟩ => ⟨i, h _ _ e, r⟩
  | .nilf, _, r => r
  | .fn _ p q, _, ⟨g, p', q', e, f, a, b⟩ => ⟨g, p', q', e, f.mono h, VRs.mono h p _ a, VRs.mono h q _ b⟩
  | .nili, _, r => r
  | .iface _ x, _, ⟨y, e, r⟩ => ⟨y, e, VR.mono h x y r⟩
  | .agg l, _, ⟨l', e, r⟩ => ⟨l', e, VRs.mono h l _ r⟩
  | .tup l, _, ⟨l', e, r⟩ => ⟨l', e, VRs.mono h l _ r⟩
theorem VRs.mono {β β' : Bm} (h : β.le β') : ∀ (l : List AV) (vs : List Value), VRs β l vs → VRs β' l vs
  | [], _, r => r
  | a :: l, _, ⟨v, r, e, x, y⟩ => ⟨v, r, e, VR.mono h a v x, VRs.mono h l r y⟩
end

theorem VRs.nil_iff {β : Bm} {vs : List Value} : VRs β [] vs ↔ vs = [] := by simp [VRs]
theorem VRs.cons_iff {β : Bm} {a : AV} {l : List AV} {v : Value} {vs : List Value} : VRs β (a :: l) (v :: vs) ↔ VR β a v ∧ VRs β l vs := by
  simp only [VRs]
  constructor
  · rintro ⟨v', r, e, h, k⟩; cases e; exact ⟨h, k⟩
  · rintro ⟨h, k⟩; exact ⟨v, vs, rfl, h, k⟩
theorem VRs.cons {β : Bm} {a : AV} {l : List AV} {v : Value} {vs : List Value} (h : VR β a v) (k : VRs β l vs) : VRs β (a :: l) (v :: vs) := VRs.cons_iff.2 ⟨h, k⟩
theorem VRs.nil {β : Bm} : VRs β [] [] := VRs.nil_iff.2 rfl

theorem VRs.length {β : Bm} : ∀ {l : List AV} {vs : List Value}, VRs β l vs → l.length = vs.length
  | [], _, h => by rw [VRs.nil_iff.1 h]; rfl
  | _ :: l, vs, h => by
    cases vs with
    | nil => simp [VRs] at h
    | cons v vs => simp [VRs.length (VRs.cons_iff.1 h).2]

theorem VRs.get {β : Bm} : ∀ {l : List AV} {vs : List Value}, VRs β l vs → ∀ (j : Nat) (a : AV), l[j]? = some a → ∃ v, vs[j]? = some v ∧ VR β a v
  | [], _, _, _, _, e => by simp at e
  | x :: l, vs, h, j, a, e => by
    cases vs with
    | nil => simp [VRs] at h
    | cons v vs =>
      obtain ⟨h1, h2⟩ := VRs.cons_iff.1 h
      cases j with
      | zero => simp at e; subst e; exact ⟨v, by simp, h1⟩
      | succ j => simp at e; obtain ⟨v', e', r⟩ := VRs.get h2 j a e; exact ⟨v', by simpa using e', r⟩

theorem VRs.of_get {β : Bm} : ∀ {l : List AV} {vs : List Value}, l.length = vs.length → (∀ (j : Nat) (a : AV) (v : Value), l[j]? = some a → vs[j]? = some v → VR β a v) → VRs β l vs
  | [], vs, h, _ => by
    cases vs with
    | nil => exact VRs.nil
    | cons v vs => simp at h
  | x :: l, vs, h, k => by
    cases vs with
    | nil => simp at h
    | cons v vs => exact VRs.cons (k 0 x v rfl rfl) (VRs.of_get (by simpa using h) fun j a v' e e' => k (j + 1) a v' (by simpa using e) (by simpa using e'))

theorem VRs.append {β : Bm} : ∀ {l l2 : List AV} {vs vs2 : List Value}, VRs β l vs → VRs β l2 vs2 → VRs β (l ++ l2) (vs ++ vs2)
  | [], _, vs, _, h, k => by rw [VRs.nil_iff.1 h]; exact k
  | a :: l, _, vs, _, h, k => by
    cases vs with
    | nil => simp [VRs] at h
    | cons v vs => obtain ⟨h1, h2⟩ := VRs.cons_iff.1 h; exact VRs.cons h1 (VRs.append h2 k)

theorem VRs.drop {β : Bm} : ∀ {l : List AV} {vs : List Value} (n : Nat), VRs β l vs → VRs β (l.drop n) (vs.drop n)
  | _, _, 0, h => h
  | [], vs, n + 1, h => by rw [VRs.nil_iff.1 h]; exact VRs.nil
  | a :: l, vs, n + 1, h => by
    cases vs with
    | nil => simp [VRs] at h
    | cons v vs => exact VRs.drop n (VRs.cons_iff.1 h).2

theorem VRs.take {β : Bm} : ∀ {l : List AV} {vs : List Value} (n : Nat), VRs β l vs → VRs β (l.take n) (vs.take n)
  | _, _, 0, _ => by simp [VRs]
  | [], vs, n + 1, h => by rw [VRs.nil_iff.1 h]; exact VRs.nil
  | a :: l, vs, n + 1, h => by
    cases vs with
    | nil => simp [VRs] at h
    | cons v vs => obtain ⟨h1, h2⟩ := VRs.cons_iff.1 h; exact VRs.cons h1 (VRs.take n h2)

/-! ### Tr -/
theorem beqT {a b : Nat} : Nat.beq a b = true ↔ a = b := by rw [Nat.beq_eq]
theorem beqF {a b : Nat} : Nat.beq a b = false ↔ a ≠ b := by rw [← Bool.not_eq_true, beqT]
theorem bleT {a b : Nat} : Nat.ble a b = true ↔ a ≤ b := by rw [Nat.ble_eq]
theorem bleF {a b : Nat} : Nat.ble a b = false ↔ b < a := by rw [← Bool.not_eq_true, bleT]; omega
theorem bltT {a b : Nat} : Nat.blt a b = true ↔ a < b := by unfold Nat.blt; rw [bleT]; omega
theorem bltF {a b : Nat} : Nat.blt a b = false ↔ b ≤ a := by rw [← Bool.not_eq_true, bltT]; omega

namespace Tr
variable {α : Type}
theorem get_nd (l r : Tr α) (v : Option α) (n : Nat) : (nd l v r).get n = if n = 0 then v else if n % 2 = 1 then l.get (n / 2) else r.get (n / 2 - 1) := by
  have h0 : (nd l v r).get n = bif Nat.beq n 0 then v else bif Nat.beq (n % 2) 1 then l.get (n / 2) else r.get (n / 2 - 1) := by
    show (Bool.rec (Bool.rec (r.get (n / 2 - 1)) (l.get (n / 2)) (Nat.beq (n % 2) 1)) v (Nat.beq n 0) : Option α) = _
    cases Nat.beq n 0 <;> cases Nat.beq (n % 2) 1 <;> rfl
  rw [h0]
  by_cases h : n = 0
  · rw [beqT.2 h, if_pos h]; rfl
  · rw [beqF.2 h, if_neg h]
    by_cases k : n % 2 = 1
    · rw [beqT.2 k, if_pos k]; rfl
    · rw [beqF.2 k, if_neg k]; rfl
theorem get_lf (n : Nat) : (lf : Tr α).get n = none := rfl
theorem one_zero (n : Nat) (v : α) : one 0 n v = nd lf (some v) lf := rfl
theorem one_succ (f n : Nat) (v : α) : one (f + 1) n v = bif Nat.beq n 0 then nd lf (some v) lf else bif Nat.beq (n % 2) 1 then nd (one f (n / 2) v) none lf else nd lf none (one f (n / 2 - 1) v) := by
  show (Bool.rec (Bool.rec (nd lf none (one f (n / 2 - 1) v)) (nd (one f (n / 2) v) none lf) (Nat.beq (n % 2) 1)) (nd lf (some v) lf) (Nat.beq n 0) : Tr α) = _
  cases Nat.beq n 0 <;> cases Nat.beq (n % 2) 1 <;> rfl
theorem set_lf (n : Nat) (v : α) : (lf : Tr α).set n v = one n n v := rfl
theorem set_nd (l r : Tr α) (w : Option α) (n : Nat) (v : α) : (nd l w r).set n v = bif Nat.beq n 0 then nd l (some v) r else bif Nat.beq (n % 2) 1 then nd (l.set (n / 2) v) w r else nd l w (r.set (n / 2 - 1) v) := by
  show (Bool.rec (Bool.rec (nd l w (r.set (n / 2 - 1) v)) (nd (l.set (n / 2) v) w r) (Nat.beq (n % 2) 1)) (nd l (some v) r) (Nat.beq n 0) : Tr α) = _
  cases Nat.beq n 0 <;> cases Nat.beq (n % 2) 1 <;> rfl
theorem get_one : ∀ (f n : Nat) (v : α) (m : Nat), n ≤ f → (one f n v).get m = if m = n then some v else none
  | 0, n, v, m, h => by
    obtain rfl : n = 0 := by omega
    simp only [one_zero, get_nd, get_lf]
    split <;> simp
  | f + 1, n, v, m, h => by
    simp only [one_succ]
    by_cases h0 : n = 0
    · subst h0
      simp only [beqT.2 rfl, cond_true, get_nd, get_lf]
      split <;> simp
    · simp only [beqF.2 h0, cond_false]
      by_cases h1 : n % 2 = 1
      · simp only [beqT.2 h1, cond_true, get_nd, get_lf]
        rw [get_one f _ v _ (by omega)]
        by_cases hm : m = n
        · subst hm; simp [h0, h1]
        · rw [if_neg hm]
          split
          · rfl
          · split
            · rw [if_neg (by omega)]
            · rfl
      · simp only [beqF.2 h1, cond_false, get_nd, get_lf]
        rw [get_one f _ v _ (by omega)]
        by_cases hm : m = n
        · subst hm; simp [h0, h1]
        · rw [if_neg hm]
          split
          · rfl
          · split
            · rfl
            · rw [if_neg (by omega)]

theorem get_set : ∀ (t : Tr α) (n : Nat) (v : α) (m : Nat), (t.set n v).get m = if m = n then some v else t.get m
  | lf, n, v, m => by simp only [set_lf, get_one n n v m (Nat.le_refl _), get_lf]
  | nd l w r, n, v, m => by
    simp only [set_nd]
    by_cases h0 : n = 0
    · subst h0
      simp only [beqT.2 rfl, cond_true, get_nd]
      split <;> simp [*]
    · simp only [beqF.2 h0, cond_false]
      by_cases h1 : n % 2 = 1
      · simp only [beqT.2 h1, cond_true, get_nd]
        rw [get_set l]
        by_cases hm : m = n
        · subst hm; simp [h0, h1]
        · rw [if_neg hm]
          split
          · rfl
          · split
            · rw [if_neg (by omega)]
            · rfl
      · simp only [beqF.2 h1, cond_false, get_nd]
        rw [get_set r]
        by_cases hm : m = n
        · subst hm; simp [h0, h1]
        · rw [if_neg hm]
          split
          · rfl
          · split
            · rfl
            · rw [if_neg (by omega)]
end Tr

/-! ### The abstract memory -/
theorem Heap.get_def (h : Heap) (b : Nat) : h.get b = if b < h.nx then h.t.get b else none := by
  simp only [Heap.get_eq]
  by_cases k : b < h.nx
  · rw [bltT.2 k, if_pos k]; rfl
  · rw [bltF.2 (by omega), if_neg k]; rfl
theorem Heap.get_set (h : Heap) (b : Nat) (o : AO) (b' : Nat) (hb : b < h.nx) : (h.set b o).get b' = if b' = b then some o else h.get b' := by
  simp only [Heap.get_def, Heap.set_eq, Tr.get_set]
  by_cases e : b' = b
  · subst e; simp [hb]
  · simp [e]
theorem Heap.get_push (h : Heap) (o : AO) (b' : Nat) : (h.push o).get b' = if b' = h.nx then some o else h.get b' := by
  simp only [Heap.get_def, Heap.push_eq, Tr.get_set]
  by_cases e : b' = h.nx
  · subst e; simp
  · simp only [e, if_false]
    by_cases k : b' < h.nx
    · rw [if_pos k, if_pos (by omega)]
    · rw [if_neg k, if_neg (by omega)]
theorem Heap.get_lt {h : Heap} {b : Nat} {o : AO} (e : h.get b = some o) : b < h.nx := by
  rw [Heap.get_def] at e
  split at e
  · assumption
  · cases e

@[simp] theorem Heap.nx_set (h : Heap) (b : Nat) (o : AO) : (h.set b o).nx = h.nx := by cases h; rfl
@[simp] theorem Heap.nx_push (h : Heap) (o : AO) : (h.push o).nx = h.nx + 1 := by cases h; rfl
theorem Heap.nx_sets (l : List (Nat × AO)) : ∀ (h : Heap), (h.sets l).nx = h.nx := by
  induction l with
  | nil => intro h; rfl
  | cons x r ih => intro h; obtain ⟨b, o⟩ := x; simp only [Heap.sets_cons]; rw [ih]; rfl
theorem Heap.nx_pushes (l : List AO) : ∀ (h : Heap), (h.pushes l).nx = h.nx + l.length := by
  induction l with
  | nil => intro h; rfl
  | cons x r ih => intro h; simp only [Heap.pushes_cons]; rw [ih]; simp; omega

/-- Nothing below 'lo' was turned. -/
def HExt (h h' : Heap) : Prop := h.nx ≤ h'.nx ∧ h'.lo ≤ h.lo ∧ ∀ b, b < h.nx → b < h'.lo → h'.get b = h.get b
theorem HExt.refl (h : Heap) : HExt h h := ⟨Nat.le_refl _, Nat.le_refl _, fun _ _ _ => rfl⟩
theorem HExt.trans {a b c : Heap} (h : HExt a b) (k : HExt b c) : HExt a c :=
  ⟨Nat.le_trans h.1 k.1, Nat.le_trans k.2.1 h.2.1, fun x hx hl => (k.2.2 x (Nat.lt_of_lt_of_le hx h.1) hl).trans (h.2.2 x hx (Nat.lt_of_lt_of_le hl k.2.1))⟩
theorem HExt.push (h : Heap) (o : AO) : HExt h (h.push o) := ⟨Nat.le_succ _, Nat.le_refl _, fun b hb _ => by rw [Heap.get_push, if_neg (by omega)]⟩
theorem Heap.lo_set (h : Heap) (b : Nat) (o : AO) : (h.set b o).lo = min h.lo b := by
  simp only [Heap.set_eq]
  by_cases k : h.lo ≤ b
  · rw [bleT.2 k]; simp; omega
  · rw [bleF.2 (by omega)]; simp; omega
theorem HExt.set {h : Heap} {b : Nat} (o : AO) (hb : b < h.nx) : HExt h (h.set b o) := by
  refine ⟨Nat.le_refl _, by rw [Heap.lo_set]; omega, fun x hx hl => ?_⟩
  rw [Heap.lo_set] at hl
  rw [Heap.get_set _ _ _ _ hb, if_neg (by omega)]

/-! ### Memory -/
def LSR : LState → LoopState → Prop
  | .ready, s => s = .ready
  | .busy, s => s = .busy
  | .done, s => s = .done
  | .exhausted, s => s = .exhausted

/-- A row of slots. -/
def ER (β : Bm) (e : Env) (a : Array Value) : Prop := a.size = e.n ∧ ∀ i, VR β (e.get i) (a.getD i undef)

def LR (β : Bm) (r : ALoop) (l : Loop) : Prop :=
  LSR r.state l.state ∧ l.pending = r.pending ∧ ER β r.env l.tmps ∧ l.params.toList = r.params ∧ l.assign = r.assign ∧ l.body = r.body ∧ ∃ i, β r.defers = some i ∧ l.defers = i.c

def MR (β : Bm) : List (AV × AV) → List MapEntry → Prop
  | [], l => l = []
  | (k, v) :: r, l => ∃ e l', l = e :: l' ∧ VR β k e.key ∧ VR β v e.val ∧ MR β r l'

def AO.own : AO → Bool
  | .cells o _ _ => o
  | .dead => false
  | _ => true
def AO.live : AO → Bool
  | .dead => false
  | _ => true

def OR (β : Bm) (w : World) (i : BI) : AO → Prop
  | .cells own es vs => i.own = own ∧ i.es = es ∧ ∃ arr el fr, w.heap[i.c]? = some (.cells arr el fr) ∧ (own = true → fr = (0, 0) ∧ arr.size = i.sz) ∧ ∀ j v, vs[j]? = some v → ∃ u, arr[i.base + j]? = some u ∧ VR β v u
  | .dead => True
  | .map es => ∃ ents clk, w.heap[i.c]? = some (.map ents clk) ∧ MR β es ents.toList
  | .loop r => ∃ l, w.heap[i.c]? = some (.loop l) ∧ LR β r l
  | .defr o => w.heap[i.c]? = some (.deferred (if o then some [] else none))

structure Rel (G : Nat) (β : Bm) (h : Heap) (w : World) : Prop where
  obj : ∀ b i o, β b = some i → h.get b = some o → OR β w i o
  lt : ∀ b i, β b = some i → i.c < w.heap.size
  apart : ∀ b b' i i' o o', b ≠ b' → β b = some i → β b' = some i' → h.get b = some o → h.get b' = some o' → o.own = true → o'.live = true → i.c ≠ i'.c
  glob : ∀ g, g < G → ∃ i, β g = some i ∧ i.c = g ∧ i.base = 0

/-- What is no block of the abstract memory's that is written stands as it stood. -/
structure Kept (β : Bm) (h : Heap) (w w' : World) : Prop where
  os : w'.os = w.os
  tape : w'.tape = w.tape
  output : w'.output = w.output
  size : w.heap.size ≤ w'.heap.size
  block : ∀ c, c < w.heap.size → (∀ b i o, β b = some i → h.get b = some o → o.own = true → i.c ≠ c) → w'.heap[c]? = w.heap[c]?

/-- From n to m new numbers are known, and no others. -/
def Bm.grow (β β' : Bm) (n m : Nat) : Prop := β.le β' ∧ ∀ b, (b < n ∨ m ≤ b) → β' b = β b
def Bm.free (β : Bm) (n m : Nat) : Prop := ∀ b, n ≤ b → b < m → β b = none

theorem Bm.grow_refl (β : Bm) (n : Nat) : β.grow β n n := ⟨Bm.le_refl β, fun _ _ => rfl⟩
theorem Bm.grow_trans {a b c : Bm} {n m k : Nat} (h : a.grow b n m) (h' : b.grow c m k) (nm : n ≤ m) (mk : m ≤ k) : a.grow c n k :=
  ⟨Bm.le_trans h.1 h'.1, fun x hx => (h'.2 x (by omega)).trans (h.2 x (by omega))⟩
theorem Bm.free_of {a b : Bm} {n m k : Nat} (h : a.grow b n m) (nm : n ≤ m) (f : a.free n k) : b.free m k :=
  fun x hx hk => by rw [h.2 x (by omega)]; exact f x (by omega) hk


theorem LSR.eq {s : LState} {t t' : LoopState} (h : LSR s t) (k : LSR s t') : t = t' := by
  cases s <;> simp only [LSR] at h k <;> rw [h, k]

theorem ER.mono {β β' : Bm} (h : β.le β') {e : Env} {a : Array Value} (r : ER β e a) : ER β' e a := ⟨r.1, fun i => VR.mono h _ _ (r.2 i)⟩
theorem LR.mono {β β' : Bm} (h : β.le β') {r : ALoop} {l : Loop} (x : LR β r l) : LR β' r l := by
  obtain ⟨a, b, d, e, f, g, i, k, m⟩ := x
  exact ⟨a, b, d.mono h, e, f, g, i, h _ _ k, m⟩
theorem MR.mono {β β' : Bm} (h : β.le β') : ∀ (l : List (AV × AV)) (m : List MapEntry), MR β l m → MR β' l m
  | [], _, r => r
  | (k, v) :: l, _, ⟨e, l', x, a, b, c⟩ => ⟨e, l', x, VR.mono h _ _ a, VR.mono h _ _ b, MR.mono h l l' c⟩
theorem OR.mono {β β' : Bm} (h : β.le β') {w w' : World} {i : BI} (hw : w'.heap[i.c]? = w.heap[i.c]?) : ∀ {o : AO}, OR β w i o → OR β' w' i o
  | .cells own es vs, ⟨a, b, arr, el, fr, c, d, e⟩ => ⟨a, b, arr, el, fr, hw.trans c, d, fun j v hv => let ⟨u, x, y⟩ := e j v hv; ⟨u, x, VR.mono h _ _ y⟩⟩
  | .dead, _ => trivial
  | .map es, ⟨ents, clk, a, b⟩ => ⟨ents, clk, hw.trans a, b.mono h⟩
  | .loop r, ⟨l, a, b⟩ => ⟨l, hw.trans a, b.mono h⟩
  | .defr o, a => hw.trans a

def Bm.upd (β : Bm) (n : Nat) (i : BI) : Bm := fun b => if b = n then some i else β b
theorem Bm.upd_same (β : Bm) (n : Nat) (i : BI) : (β.upd n i) n = some i := by simp [Bm.upd]
theorem Bm.upd_other (β : Bm) {n b : Nat} (i : BI) (h : b ≠ n) : (β.upd n i) b = β b := by simp [Bm.upd, h]
theorem Bm.grow_upd {β : Bm} {n : Nat} (i : BI) (h : β n = none) : β.grow (β.upd n i) n (n + 1) :=
  ⟨fun b j e => (Bm.upd_other β i (fun x => by subst x; rw [h] at e; cases e)).trans e, fun _ hb => Bm.upd_other β i (by omega)⟩

theorem Kept.refl (β : Bm) (h : Heap) (w : World) : Kept β h w w := ⟨rfl, rfl, rfl, Nat.le_refl _, fun _ _ _ => rfl⟩

/-- A draw. -/
def dr (w : World) (d : Nat) : World := { w with drawn := d }

theorem Rel.draw {G : Nat} {β : Bm} {h : Heap} {w : World} (r : Rel G β h w) (d : Nat) : Rel G β h (dr w d) :=
  ⟨fun b i o a c => OR.mono (Bm.le_refl β) rfl (r.obj b i o a c), r.lt, r.apart, r.glob⟩
theorem Kept.draw {β : Bm} {h : Heap} {w w' : World} (k : Kept β h w w') (d : Nat) : Kept β h w (dr w' d) := ⟨k.os, k.tape, k.output, k.size, k.block⟩

/-- A new block. -/
def pushed (w : World) (o : Obj) : World := { w with heap := w.heap.push o }
theorem pushed_old (w : World) (o : Obj) {c : Nat} (h : c < w.heap.size) : (pushed w o).heap[c]? = w.heap[c]? := by
  show (w.heap.push o)[c]? = _
  rw [Array.getElem?_push, if_neg (by omega)]
theorem pushed_new (w : World) (o : Obj) : (pushed w o).heap[w.heap.size]? = some o := by
  show (w.heap.push o)[w.heap.size]? = _
  rw [Array.getElem?_push, if_pos rfl]

theorem Kept.pushed (β : Bm) (h : Heap) (w : World) (o : Obj) : Kept β h w (Ai.pushed w o) :=
  ⟨rfl, rfl, rfl, by show _ ≤ (w.heap.push o).size; simp, fun c hc _ => pushed_old w o hc⟩

theorem Rel.push {G : Nat} {β : Bm} {h : Heap} {w : World} (r : Rel G β h w) (hf : β h.nx = none) {o : AO} {obj : Obj} {i : BI} (hi : i.c = w.heap.size)
    (ho : OR (β.upd h.nx i) (pushed w obj) i o) : Rel G (β.upd h.nx i) (h.push o) (pushed w obj) := by
  have hg : ∀ b j, (β.upd h.nx i) b = some j → (b = h.nx ∧ j = i) ∨ (b ≠ h.nx ∧ β b = some j) := by
    intro b j e
    by_cases hb : b = h.nx
    · subst hb; rw [Bm.upd_same] at e; injection e with e; exact .inl ⟨rfl, e.symm⟩
    · rw [Bm.upd_other _ _ hb] at e; exact .inr ⟨hb, e⟩
  refine ⟨?_, ?_, ?_, ?_⟩
  · intro b j o' e ho'
    rw [Heap.get_push] at ho'
    rcases hg b j e with ⟨hb, hj⟩ | ⟨hb, e2⟩
    · subst hj
      rw [if_pos hb] at ho'; injection ho' with ho'; subst ho'; exact ho
    · rw [if_neg hb] at ho'
      exact OR.mono (Bm.grow_upd i hf).1 (pushed_old w obj (r.lt b j e2)) (r.obj b j o' e2 ho')
  · intro b j e
    have : (pushed w obj).heap.size = w.heap.size + 1 := by show (w.heap.push obj).size = _; simp
    rcases hg b j e with ⟨hb, hj⟩ | ⟨hb, e2⟩
    · subst hj; omega
    · have := r.lt b j e2; omega
  · intro b b' j j' o1 o2 hne e e' h1 h2 hown hlive
    rw [Heap.get_push] at h1 h2
    rcases hg b j e with ⟨hb, hj⟩ | ⟨hb, e2⟩ <;> rcases hg b' j' e' with ⟨hb', hj'⟩ | ⟨hb', e2'⟩
    · exact absurd (hb.trans hb'.symm) hne
    · have := r.lt b' j' e2'; rw [hj]; omega
    · have := r.lt b j e2; rw [hj']; omega
    · rw [if_neg hb] at h1; rw [if_neg hb'] at h2
      exact r.apart b b' j j' o1 o2 hne e2 e2' h1 h2 hown hlive
  · intro g hg'
    obtain ⟨j, e, x⟩ := r.glob g hg'
    exact ⟨j, (Bm.grow_upd i hf).1 g j e, x⟩

theorem AO.live_of_own : ∀ {o : AO}, o.own = true → o.live = true
  | .cells .., _ => rfl
  | .dead, h => by cases h
  | .map .., _ => rfl
  | .loop .., _ => rfl
  | .defr .., _ => rfl

/-- One block that is written. -/
theorem Rel.set {G : Nat} {β : Bm} {h : Heap} {w w' : World} (r : Rel G β h w) {b : Nat} {i : BI} {o o' : AO} (hb : β b = some i) (ho : h.get b = some o) (hown : o.own = true)
    (hs : w'.heap.size = w.heap.size) (hw : ∀ c, c ≠ i.c → w'.heap[c]? = w.heap[c]?) (hn : OR β w' i o') : Rel G β (h.set b o') w' := by
  have hlt := Heap.get_lt ho
  refine ⟨?_, fun b j e => by rw [hs]; exact r.lt b j e, ?_, r.glob⟩
  · intro b1 j o1 e h1
    rw [Heap.get_set _ _ _ _ hlt] at h1
    by_cases hb1 : b1 = b
    · subst hb1
      rw [if_pos rfl] at h1; injection h1 with h1; subst h1
      rw [hb] at e; injection e with e; subst e; exact hn
    · rw [if_neg hb1] at h1
      by_cases hl : o1.live = true
      · exact OR.mono (Bm.le_refl β) (hw _ (fun x => r.apart b b1 i j o o1 (fun y => hb1 y.symm) hb e ho h1 hown hl x.symm)) (r.obj b1 j o1 e h1)
      · cases o1 with
        | dead => trivial
        | _ => exact absurd rfl hl
  · intro b1 b2 j1 j2 o1 o2 hne e1 e2 h1 h2 ho1 hl2
    rw [Heap.get_set _ _ _ _ hlt] at h1 h2
    by_cases x1 : b1 = b
    · subst x1
      rw [hb] at e1; injection e1 with e1; subst e1
      rw [if_neg (fun y => hne y.symm)] at h2
      exact r.apart b1 b2 i j2 o o2 hne hb e2 ho h2 hown hl2
    · rw [if_neg x1] at h1
      by_cases x2 : b2 = b
      · subst x2
        rw [hb] at e2; injection e2 with e2; subst e2
        exact r.apart b1 b2 j1 i o1 o hne e1 hb h1 ho ho1 (AO.live_of_own hown)
      · rw [if_neg x2] at h2
        exact r.apart b1 b2 j1 j2 o1 o2 hne e1 e2 h1 h2 ho1 hl2

theorem Kept.set {β : Bm} {h : Heap} {w w' : World} {b : Nat} {i : BI} {o : AO} (hb : β b = some i) (ho : h.get b = some o) (hown : o.own = true)
    (h1 : w'.os = w.os) (h2 : w'.tape = w.tape) (h3 : w'.output = w.output) (hs : w'.heap.size = w.heap.size) (hw : ∀ c, c ≠ i.c → w'.heap[c]? = w.heap[c]?) : Kept β h w w' :=
  ⟨h1, h2, h3, by omega, fun c _ k => hw c (fun x => k b i o hb ho hown x.symm)⟩

/-- Steps one behind the other. -/
theorem Kept.trans {β β' : Bm} {h h' : Heap} {w w1 w2 : World} (k : Kept β h w w1) (k' : Kept β' h' w1 w2) (r : ∀ b i, β b = some i → i.c < w.heap.size)
    (hb : ∀ b i o, β' b = some i → h'.get b = some o → o.own = true → i.c < w.heap.size → ∃ b' i' o', β b' = some i' ∧ h.get b' = some o' ∧ o'.own = true ∧ i'.c = i.c) : Kept β h w w2 :=
  ⟨k'.os.trans k.os, k'.tape.trans k.tape, k'.output.trans k.output, Nat.le_trans k.size k'.size, fun c hc hn => by
    rw [k'.block c (Nat.lt_of_lt_of_le hc k.size) ?_, k.block c hc hn]
    intro b i o e ho hown x
    obtain ⟨b', i', o', p, q, s, t⟩ := hb b i o e ho hown (by omega)
    exact hn b' i' o' p q s (by omega)⟩

/-- From one related pair of memories to another. -/
structure To (G : Nat) (β : Bm) (h : Heap) (w : World) (β' : Bm) (h' : Heap) (w' : World) : Prop where
  grow : β.grow β' h.nx h'.nx
  ext : HExt h h'
  rel : Rel G β' h' w'
  kept : Kept β h w w'
  lin : ∀ b i o, β' b = some i → h'.get b = some o → o.live = true → i.c < w.heap.size → ∃ b' i' o', β b' = some i' ∧ h.get b' = some o' ∧ o'.live = true ∧ (o.own = true → o'.own = true) ∧ i'.c = i.c

theorem To.refl {G : Nat} {β : Bm} {h : Heap} {w : World} (r : Rel G β h w) : To G β h w β h w :=
  ⟨Bm.grow_refl β _, HExt.refl h, r, Kept.refl β h w, fun b i o e ho hl _ => ⟨b, i, o, e, ho, hl, id, rfl⟩⟩

theorem To.trans {G : Nat} {β β1 β2 : Bm} {h h1 h2 : Heap} {w w1 w2 : World} (a : To G β h w β1 h1 w1) (b : To G β1 h1 w1 β2 h2 w2) (r : Rel G β h w) : To G β h w β2 h2 w2 :=
  ⟨Bm.grow_trans a.grow b.grow a.ext.1 b.ext.1, a.ext.trans b.ext, b.rel, Kept.trans a.kept b.kept r.lt (fun x i o e ho hown hc => by
      obtain ⟨b0, i0, o0, e0, ho0, _, hw0, hc0⟩ := a.lin x i o e ho (AO.live_of_own hown) hc
      exact ⟨b0, i0, o0, e0, ho0, hw0 hown, hc0⟩), fun x i o e ho hl hc => by
    obtain ⟨b1, i1, o1, e1, ho1, hl1, hw1, hc1⟩ := b.lin x i o e ho hl (Nat.lt_of_lt_of_le hc a.kept.size)
    obtain ⟨b0, i0, o0, e0, ho0, hl0, hw0, hc0⟩ := a.lin b1 i1 o1 e1 ho1 hl1 (by omega)
    exact ⟨b0, i0, o0, e0, ho0, hl0, fun x => hw0 (hw1 x), hc0.trans hc1⟩⟩

theorem To.draw {G : Nat} {β : Bm} {h : Heap} {w : World} (r : Rel G β h w) (d : Nat) : To G β h w β h (dr w d) :=
  ⟨Bm.grow_refl β _, HExt.refl h, r.draw d, (Kept.refl β h w).draw d, fun b i o e ho hl _ => ⟨b, i, o, e, ho, hl, id, rfl⟩⟩

theorem To.push {G : Nat} {β : Bm} {h : Heap} {w : World} (r : Rel G β h w) (hf : β h.nx = none) {o : AO} {obj : Obj} {i : BI} (hi : i.c = w.heap.size)
    (ho : OR (β.upd h.nx i) (pushed w obj) i o) : To G β h w (β.upd h.nx i) (h.push o) (pushed w obj) :=
  ⟨Bm.grow_upd i hf, HExt.push h o, r.push hf hi ho, Kept.pushed β h w obj, fun b j o' e ho' hl hc => by
    rw [Heap.get_push] at ho'
    by_cases hb : b = h.nx
    · subst hb
      rw [Bm.upd_same] at e; injection e with e; subst e
      omega
    · rw [if_neg hb] at ho'
      rw [Bm.upd_other _ _ hb] at e
      exact ⟨b, j, o', e, ho', hl, id, rfl⟩⟩

theorem To.set {G : Nat} {β : Bm} {h : Heap} {w w' : World} (r : Rel G β h w) {b : Nat} {i : BI} {o o' : AO} (hb : β b = some i) (ho : h.get b = some o) (hown : o.own = true)
    (h1 : w'.os = w.os) (h2 : w'.tape = w.tape) (h3 : w'.output = w.output) (hs : w'.heap.size = w.heap.size) (hw : ∀ c, c ≠ i.c → w'.heap[c]? = w.heap[c]?) (hn : OR β w' i o') :
    To G β h w β (h.set b o') w' :=
  ⟨Bm.grow_refl β _, HExt.set o' (Heap.get_lt ho), r.set hb ho hown hs hw hn, Kept.set hb ho hown h1 h2 h3 hs hw, fun x j o1 e ho1 hl1 _ => by
    rw [Heap.get_set _ _ _ _ (Heap.get_lt ho)] at ho1
    by_cases hx : x = b
    · subst hx
      exact ⟨x, i, o, hb, ho, AO.live_of_own hown, fun _ => hown, by rw [hb] at e; injection e with e; rw [e]⟩
    · rw [if_neg hx] at ho1
      exact ⟨x, j, o1, e, ho1, hl1, id, rfl⟩⟩

/-- A block that is given up, and lives on as a new one in its place. -/
theorem To.move {G : Nat} {β : Bm} {h : Heap} {w w' : World} (r : Rel G β h w) (hf : β h.nx = none) {b : Nat} {i i' : BI} {o o' : AO} (hb : β b = some i) (ho : h.get b = some o) (hown : o.own = true) (hc : i'.c = i.c)
    (h1 : w'.os = w.os) (h2 : w'.tape = w.tape) (h3 : w'.output = w.output) (hs : w'.heap.size = w.heap.size) (hw : ∀ c, c ≠ i.c → w'.heap[c]? = w.heap[c]?) (hn : OR (β.upd h.nx i') w' i' o') :
    To G β h w (β.upd h.nx i') ((h.set b .dead).push o') w' := by
  have hlt := Heap.get_lt ho
  have r1 : Rel G β (h.set b .dead) w' := r.set hb ho hown hs hw trivial
  have hgr : β.grow (β.upd h.nx i') h.nx (h.nx + 1) := Bm.grow_upd i' hf
  have hg : ∀ b j, (β.upd h.nx i') b = some j → (b = h.nx ∧ j = i') ∨ (b ≠ h.nx ∧ β b = some j) := by
    intro b j e
    by_cases hb : b = h.nx
    · subst hb; rw [Bm.upd_same] at e; injection e with e; exact .inl ⟨rfl, e.symm⟩
    · rw [Bm.upd_other _ _ hb] at e; exact .inr ⟨hb, e⟩
  have hd : ∀ x o1, (h.set b .dead).get x = some o1 → o1.live = true → x ≠ b ∧ h.get x = some o1 := by
    intro x o1 hx hl
    rw [Heap.get_set _ _ _ _ hlt] at hx
    by_cases hxb : x = b
    · rw [if_pos hxb] at hx; injection hx with hx; subst hx; cases hl
    · rw [if_neg hxb] at hx; exact ⟨hxb, hx⟩
  refine ⟨hgr, (HExt.set _ hlt).trans (HExt.push _ _), ⟨?_, ?_, ?_, ?_⟩, Kept.set hb ho hown h1 h2 h3 hs hw, ?_⟩
  · intro x j o1 e hx
    rw [Heap.get_push, Heap.nx_set] at hx
    rcases hg x j e with ⟨hxn, hj⟩ | ⟨hxn, e2⟩
    · subst hj; rw [if_pos hxn] at hx; injection hx with hx; subst hx; exact hn
    · rw [if_neg hxn] at hx
      exact OR.mono hgr.1 rfl (r1.obj x j o1 e2 hx)
  · intro x j e
    rcases hg x j e with ⟨hxn, hj⟩ | ⟨hxn, e2⟩
    · have := r1.lt b i hb; rw [hj, hc]; exact this
    · exact r1.lt x j e2
  · intro x y j k o1 o2 hne e1 e2 g1 g2 q1 q2
    rw [Heap.get_push, Heap.nx_set] at g1 g2
    rcases hg x j e1 with ⟨hx, hj⟩ | ⟨hx, e1'⟩ <;> rcases hg y k e2 with ⟨hy, hk⟩ | ⟨hy, e2'⟩
    · exact absurd (hx.trans hy.symm) hne
    · rw [if_neg hy] at g2
      obtain ⟨hyb, g2'⟩ := hd y o2 g2 q2
      rw [hj, hc]
      exact r.apart b y i k o o2 (fun z => hyb z.symm) hb e2' ho g2' hown q2
    · rw [if_neg hx] at g1
      obtain ⟨hxb, g1'⟩ := hd x o1 g1 (AO.live_of_own q1)
      rw [hk, hc]
      exact r.apart x b j i o1 o hxb e1' hb g1' ho q1 (AO.live_of_own hown)
    · rw [if_neg hx] at g1; rw [if_neg hy] at g2
      exact r1.apart x y j k o1 o2 hne e1' e2' g1 g2 q1 q2
  · intro g hg'
    obtain ⟨j, e, x⟩ := r.glob g hg'
    exact ⟨j, hgr.1 g j e, x⟩
  · intro x j o1 e hx q _
    rw [Heap.get_push, Heap.nx_set] at hx
    rcases hg x j e with ⟨hxn, hj⟩ | ⟨hxn, e2⟩
    · exact ⟨b, i, o, hb, ho, AO.live_of_own hown, fun _ => hown, by rw [hj, hc]⟩
    · rw [if_neg hxn] at hx
      obtain ⟨_, hx'⟩ := hd x o1 hx q
      exact ⟨x, j, o1, e2, hx', q, id, rfl⟩

end Go.Ai
