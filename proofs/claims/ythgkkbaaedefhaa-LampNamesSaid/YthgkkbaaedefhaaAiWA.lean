/- AiWA -/
import Derived.Test.YthgkkbaaedefhaaAiMain
set_option linter.unusedVariables false
set_option linter.unusedSimpArgs false
namespace Go.Ai
open Go

/-- A memory: how many blocks, and what each holds. -/
structure HV where
  nx : Nat
  get : Nat → Option AO

def lk {α : Type} : List (Nat × α) → Nat → Option α
  | [], _ => none
  | p :: r, i => bif Nat.beq i p.1 then some p.2 else lk r i

theorem lk_mem {α : Type} : ∀ {l : List (Nat × α)} {i : Nat} {v : α}, lk l i = some v → (i, v) ∈ l
  | [], _, _, h => by simp [lk] at h
  | (j, u) :: r, i, v, h => by
    simp only [lk] at h
    by_cases hij : i = j
    · subst hij; rw [beqT.2 rfl] at h; simp only [cond_true] at h; injection h with h; subst h; exact List.mem_cons_self
    · rw [beqF.2 hij] at h; exact List.mem_cons_of_mem _ (lk_mem h)
theorem lk_none {α : Type} : ∀ {l : List (Nat × α)} {i : Nat}, (∀ p ∈ l, p.1 ≠ i) → lk l i = none
  | [], _, _ => rfl
  | (j, u) :: r, i, h => by
    simp only [lk]
    have : i ≠ j := fun e => h _ List.mem_cons_self e.symm
    rw [beqF.2 this]; exact lk_none fun p hp => h p (List.mem_cons_of_mem _ hp)
theorem lk_map {α γ : Type} (f : α → γ) : ∀ (l : List (Nat × α)) (i : Nat), lk (l.map fun p => (p.1, f p.2)) i = (lk l i).map f
  | [], _ => rfl
  | (j, u) :: r, i => by
    simp only [List.map_cons, lk]
    cases Nat.beq i j with
    | true => rfl
    | false => exact lk_map f r i

/-- 'hb' with the blocks of 'us' turned, and those of 'ns' laid behind it. -/
def mkh (hb : HV) (us : List (Nat × AO)) (ns : List AO) : HV :=
  ⟨hb.nx + ns.length, fun b => if b < hb.nx then (lk us b).or (hb.get b) else ns[b - hb.nx]?⟩

def HV.at (hb : HV) (i : Nat) : Nat := hb.nx + i

theorem mk_at (hb : HV) (us : List (Nat × AO)) (ns : List AO) (i : Nat) : (mkh hb us ns).get (hb.at i) = ns[i]? := by
  simp only [mkh, HV.at]
  rw [if_neg (by omega), Nat.add_sub_cancel_left]
theorem mk_old {hb : HV} {us : List (Nat × AO)} {ns : List AO} {b : Nat} (h : b < hb.nx) : (mkh hb us ns).get b = (lk us b).or (hb.get b) := by
  simp only [mkh]; rw [if_pos h]
theorem mk_nx (hb : HV) (us : List (Nat × AO)) (ns : List AO) : (mkh hb us ns).nx = hb.nx + ns.length := rfl

/-! ### What speaks of blocks below a number alone -/
mutual
def AV.bel (N : Nat) : AV → Prop
  | .ptr b _ => b < N
  | .slice b _ _ _ _ => b < N
  | .map b => b < N
  | .fn f p q => (match f with | .yield b => b < N | _ => True) ∧ bels N p ∧ bels N q
  | .iface _ v => AV.bel N v
  | .agg l => bels N l
  | .tup l => bels N l
  | _ => True
def bels (N : Nat) : List AV → Prop
  | [] => True
  | a :: l => AV.bel N a ∧ bels N l
end

theorem bels_mem {N : Nat} : ∀ {l : List AV}, (∀ a ∈ l, AV.bel N a) → bels N l
  | [], _ => trivial
  | _ :: _, h => ⟨h _ List.mem_cons_self, bels_mem fun a ha => h a (List.mem_cons_of_mem _ ha)⟩

mutual
theorem VR_bel {β : Bm} {N : Nat} (hf : ∀ b, N ≤ b → β b = none) : ∀ (a : AV) (v : Value), VR β a v → a.bel N
  | .undef, _, _ => trivial
  | .bool _, _, _ => trivial
  | .int _ _, _, _ => trivial
  | .nilp, _, _ => trivial
  | .ptr b _, _, ⟨i, e, _⟩ => by
    simp only [AV.bel]; apply Classical.byContradiction; intro h; rw [hf b (by omega)] at e; cases e
  | .nils, _, _ => trivial
  | .slice b _ _ _ _, _, ⟨i, _, e, _⟩ => by
    simp only [AV.bel]; apply Classical.byContradiction; intro h; rw [hf b (by omega)] at e; cases e
  | .empt, _, _ => trivial
  | .nilm, _, _ => trivial
  | .map b, _, ⟨i, e, _⟩ => by
    simp only [AV.bel]; apply Classical.byContradiction; intro h; rw [hf b (by omega)] at e; cases e
  | .nilf, _, _ => trivial
  | .fn f p q, _, ⟨g, p', q', _, hfr, a, b⟩ => by
    refine ⟨?_, VRs_bel hf p _ a, VRs_bel hf q _ b⟩
    cases f with
    | func f => trivial
    | method s => trivial
    | yield b => obtain ⟨i, e, _⟩ := hfr; show b < N; apply Classical.byContradiction; intro h; rw [hf b (by omega)] at e; cases e
  | .nili, _, _ => trivial
  | .iface _ x, _, ⟨y, _, r⟩ => VR_bel hf x y r
  | .agg l, _, ⟨l', _, r⟩ => VRs_bel hf l _ r
  | .tup l, _, ⟨l', _, r⟩ => VRs_bel hf l _ r
theorem VRs_bel {β : Bm} {N : Nat} (hf : ∀ b, N ≤ b → β b = none) : ∀ (l : List AV) (vs : List Value), VRs β l vs → bels N l
  | [], _, _ => trivial
  | a :: l, _, ⟨v, r, _, x, y⟩ => ⟨VR_bel hf a v x, VRs_bel hf l r y⟩
end

mutual
theorem VR_same {β β2 : Bm} {N : Nat} (hs : ∀ b, b < N → β2 b = β b) : ∀ (a : AV) (v : Value), a.bel N → VR β a v → VR β2 a v
  | .undef, _, _, _ => trivial
  | .bool _, _, _, r => r
  | .int _ _, _, _, r => r
  | .nilp, _, _, r => r
  | .ptr b _, _, hb, ⟨i, e, r⟩ => ⟨i, by rw [hs b hb]; exact e, r⟩
  | .nils, _, _, r => r
  | .slice b _ _ _ _, _, hb, ⟨i, cc, e, r⟩ => ⟨i, cc, by rw [hs b hb]; exact e, r⟩
  | .empt, _, _, r => r
  | .nilm, _, _, r => r
  | .map b, _, hb, ⟨i, e, r⟩ => ⟨i, by rw [hs b hb]; exact e, r⟩
  | .nilf, _, _, r => r
  | .fn f p q, _, hb, ⟨g, p', q', e, hfr, a, b⟩ => by
    refine ⟨g, p', q', e, ?_, VRs_same hs p _ hb.2.1 a, VRs_same hs q _ hb.2.2 b⟩
    cases f with
    | func f => exact hfr
    | method s => exact hfr
    | yield b => obtain ⟨i, ei, rfl⟩ := hfr; exact ⟨i, by rw [hs b hb.1]; exact ei, rfl⟩
  | .nili, _, _, r => r
  | .iface _ x, _, hb, ⟨y, e, r⟩ => ⟨y, e, VR_same hs x y hb r⟩
  | .agg l, _, hb, ⟨l', e, r⟩ => ⟨l', e, VRs_same hs l _ hb r⟩
  | .tup l, _, hb, ⟨l', e, r⟩ => ⟨l', e, VRs_same hs l _ hb r⟩
theorem VRs_same {β β2 : Bm} {N : Nat} (hs : ∀ b, b < N → β2 b = β b) : ∀ (l : List AV) (vs : List Value), bels N l → VRs β l vs → VRs β2 l vs
  | [], _, _, r => r
  | a :: l, _, hb, ⟨v, r, e, x, y⟩ => ⟨v, r, e, VR_same hs a v hb.1 x, VRs_same hs l r hb.2 y⟩
end

def AO.bel (N : Nat) : AO → Prop
  | .cells _ _ vs => ∀ v ∈ vs, AV.bel N v
  | .dead => True
  | .map es => ∀ e ∈ es, AV.bel N e.1 ∧ AV.bel N e.2
  | .loop r => (∀ i, AV.bel N (r.env.get i)) ∧ r.defers < N
  | .defr _ => True

theorem MR_bel {β : Bm} {N : Nat} (hf : ∀ b, N ≤ b → β b = none) : ∀ (l : List (AV × AV)) (m : List MapEntry), MR β l m → ∀ e ∈ l, AV.bel N e.1 ∧ AV.bel N e.2
  | [], _, _, _, he => by cases he
  | (k, v) :: l, _, ⟨x, l', _, a, b, c⟩, e, he => by
    rcases List.mem_cons.1 he with rfl | he
    · exact ⟨VR_bel hf _ _ a, VR_bel hf _ _ b⟩
    · exact MR_bel hf l l' c e he
theorem MR_same {β β2 : Bm} {N : Nat} (hs : ∀ b, b < N → β2 b = β b) : ∀ (l : List (AV × AV)) (m : List MapEntry), (∀ e ∈ l, AV.bel N e.1 ∧ AV.bel N e.2) → MR β l m → MR β2 l m
  | [], _, _, r => r
  | (k, v) :: l, _, hb, ⟨x, l', e, a, b, c⟩ =>
    ⟨x, l', e, VR_same hs _ _ (hb (k, v) List.mem_cons_self).1 a, VR_same hs _ _ (hb (k, v) List.mem_cons_self).2 b, MR_same hs l l' (fun e he => hb e (List.mem_cons_of_mem _ he)) c⟩

theorem OR_bel {β : Bm} {N : Nat} {w : World} {i : BI} (hf : ∀ b, N ≤ b → β b = none) : ∀ {o : AO}, OR β w i o → o.bel N
  | .cells _ _ vs, ⟨_, _, arr, _, _, _, _, h⟩ => fun v hv => by
    obtain ⟨j, hj⟩ := List.mem_iff_getElem?.1 hv
    obtain ⟨u, _, hu⟩ := h j v hj
    exact VR_bel hf v u hu
  | .dead, _ => trivial
  | .map _, ⟨_, _, _, h⟩ => MR_bel hf _ _ h
  | .loop r, ⟨l, _, _, _, h3, _, _, _, j, h7, _⟩ => ⟨fun i => VR_bel hf _ _ (h3.2 i), by
      apply Classical.byContradiction; intro h; rw [hf _ (by omega)] at h7; cases h7⟩
  | .defr _, _ => trivial

theorem OR_same {β β2 : Bm} {N : Nat} {w : World} {i : BI} (hs : ∀ b, b < N → β2 b = β b) : ∀ {o : AO}, o.bel N → OR β w i o → OR β2 w i o
  | .cells _ _ vs, hb, ⟨a, b, arr, el, fr, c, d, h⟩ => ⟨a, b, arr, el, fr, c, d, fun j v hv => by
      obtain ⟨u, hu, hr⟩ := h j v hv
      exact ⟨u, hu, VR_same hs v u (hb v (List.mem_of_getElem? hv)) hr⟩⟩
  | .dead, _, _ => trivial
  | .map _, hb, ⟨ents, clk, a, h⟩ => ⟨ents, clk, a, MR_same hs _ _ hb h⟩
  | .loop r, hb, ⟨l, h0, h1, h2, h3, h4, h5, h6, j, h7, h8⟩ => ⟨l, h0, h1, h2, ⟨h3.1, fun i => VR_same hs _ _ (hb.1 i) (h3.2 i)⟩, h4, h5, h6, j, by rw [hs _ hb.2]; exact h7, h8⟩
  | .defr _, _, h => h

/-! ### Numbers anew -/
mutual
def gv (τ : Nat → Option Nat) : AV → AV
  | .ptr b o => match τ b with | some b' => .ptr b' o | none => .undef
  | .slice b o l c x => match τ b with | some b' => .slice b' o l c x | none => .undef
  | .map b => match τ b with | some b' => .map b' | none => .undef
  | .fn (.func f) p q => .fn (.func f) (gvs τ p) (gvs τ q)
  | .fn (.method s) p q => .fn (.method s) (gvs τ p) (gvs τ q)
  | .fn (.yield b) p q => match τ b with | some b' => .fn (.yield b') (gvs τ p) (gvs τ q) | none => .undef
  | .iface t v => .iface t (gv τ v)
  | .agg l => .agg (gvs τ l)
  | .tup l => .tup (gvs τ l)
  | .undef => .undef
  | .bool b => .bool b
  | .int k n => .int k n
  | .nilp => .nilp
  | .nils => .nils
  | .empt => .empt
  | .nilm => .nilm
  | .nilf => .nilf
  | .nili => .nili
def gvs (τ : Nat → Option Nat) : List AV → List AV
  | [] => []
  | a :: l => gv τ a :: gvs τ l
end

theorem gvs_map (τ : Nat → Option Nat) : ∀ l, gvs τ l = l.map (gv τ)
  | [] => rfl
  | a :: l => by simp only [gvs, List.map_cons, gvs_map τ l]

def Gd (τ : Nat → Option Nat) (β β2 : Bm) : Prop := ∀ b b', τ b = some b' → β2 b' = β b

mutual
theorem VR_gv {τ : Nat → Option Nat} {β β2 : Bm} (hg : Gd τ β β2) : ∀ (a : AV) (v : Value), VR β a v → VR β2 (gv τ a) v
  | .undef, _, _ => trivial
  | .bool _, _, r => r
  | .int _ _, _, r => r
  | .nilp, _, r => r
  | .ptr b _, _, ⟨i, e, r⟩ => by
    simp only [gv]
    cases h : τ b with
    | none => trivial
    | some b' => exact ⟨i, by rw [hg b b' h]; exact e, r⟩
  | .nils, _, r => r
  | .slice b _ _ _ _, _, ⟨i, cc, e, r⟩ => by
    simp only [gv]
    cases h : τ b with
    | none => trivial
    | some b' => exact ⟨i, cc, by rw [hg b b' h]; exact e, r⟩
  | .empt, _, r => r
  | .nilm, _, r => r
  | .map b, _, ⟨i, e, r⟩ => by
    simp only [gv]
    cases h : τ b with
    | none => trivial
    | some b' => exact ⟨i, by rw [hg b b' h]; exact e, r⟩
  | .nilf, _, r => r
  | .fn (.func f) p q, _, ⟨g, p', q', e, hfr, a, b⟩ => ⟨g, p', q', e, hfr, VRs_gv hg p _ a, VRs_gv hg q _ b⟩
  | .fn (.method f) p q, _, ⟨g, p', q', e, hfr, a, b⟩ => ⟨g, p', q', e, hfr, VRs_gv hg p _ a, VRs_gv hg q _ b⟩
  | .fn (.yield l) p q, _, ⟨g, p', q', e, ⟨i, ei, hgi⟩, a, b⟩ => by
    simp only [gv]
    cases h : τ l with
    | none => trivial
    | some b' => exact ⟨g, p', q', e, ⟨i, by rw [hg l b' h]; exact ei, hgi⟩, VRs_gv hg p _ a, VRs_gv hg q _ b⟩
  | .nili, _, r => r
  | .iface _ x, _, ⟨y, e, r⟩ => ⟨y, e, VR_gv hg x y r⟩
  | .agg l, _, ⟨l', e, r⟩ => ⟨l', e, VRs_gv hg l _ r⟩
  | .tup l, _, ⟨l', e, r⟩ => ⟨l', e, VRs_gv hg l _ r⟩
theorem VRs_gv {τ : Nat → Option Nat} {β β2 : Bm} (hg : Gd τ β β2) : ∀ (l : List AV) (vs : List Value), VRs β l vs → VRs β2 (gvs τ l) vs
  | [], _, r => r
  | a :: l, _, ⟨v, r, e, x, y⟩ => ⟨v, r, e, VR_gv hg a v x, VRs_gv hg l r y⟩
end

namespace Tr
variable {α γ : Type}
def map (f : α → γ) : Tr α → Tr γ
  | .lf => .lf
  | .nd l v r => .nd (map f l) (v.map f) (map f r)
theorem get_map (f : α → γ) : ∀ (t : Tr α) (i : Nat), (map f t).get i = (t.get i).map f
  | .lf, i => by simp only [map, get_lf, Option.map_none]
  | .nd l v r, i => by
    simp only [map, get_nd, get_map f l, get_map f r]
    split
    · rfl
    · split <;> rfl
theorem map_one (f : α → γ) : ∀ (k n : Nat) (v : α), map f (one k n v) = one k n (f v)
  | 0, n, v => rfl
  | k + 1, n, v => by
    simp only [one_succ]
    cases Nat.beq n 0 with
    | true => rfl
    | false => cases Nat.beq (n % 2) 1 with
      | true => simp only [cond_false, cond_true, map, map_one f k]; rfl
      | false => simp only [cond_false, map, map_one f k]; rfl
theorem map_set (f : α → γ) : ∀ (t : Tr α) (n : Nat) (v : α), map f (t.set n v) = (map f t).set n (f v)
  | .lf, n, v => by simp only [set_lf, map, map_one]
  | .nd l w r, n, v => by
    simp only [map, set_nd]
    cases Nat.beq n 0 with
    | true => rfl
    | false => cases Nat.beq (n % 2) 1 with
      | true => simp only [cond_false, cond_true, map, map_set f l]
      | false => simp only [cond_false, map, map_set f r]
end Tr
def Env.map (f : AV → AV) (e : Env) : Env := ⟨e.n, e.t.map f⟩
theorem Env.get_map (f : AV → AV) (hf : f (.tup []) = .tup []) (e : Env) (i : Nat) : (e.map f).get i = f (e.get i) := by
  unfold Env.map Env.get
  simp only [Tr.get_map]
  cases e.t.get i with
  | none => exact hf.symm
  | some v => rfl

def go (τ : Nat → Option Nat) : AO → AO
  | .cells own es vs => .cells own es (gvs τ vs)
  | .dead => .dead
  | .map es => .map (es.map fun e => (gv τ e.1, gv τ e.2))
  | .loop r => match τ r.defers with
    | some d => .loop { r with env := r.env.map (gv τ), defers := d }
    | none => .dead
  | .defr o => .defr o

theorem go_own {τ : Nat → Option Nat} : ∀ {o : AO}, (go τ o).own = true → o.own = true
  | .cells _ _ _, h => h
  | .dead, h => h
  | .map _, h => h
  | .loop _, _ => rfl
  | .defr _, h => h
theorem go_live {τ : Nat → Option Nat} : ∀ {o : AO}, (go τ o).live = true → o.live = true
  | .cells _ _ _, h => h
  | .dead, h => h
  | .map _, h => h
  | .loop _, _ => rfl
  | .defr _, h => h

theorem MR_gv {τ : Nat → Option Nat} {β β2 : Bm} (hg : Gd τ β β2) : ∀ (l : List (AV × AV)) (m : List MapEntry), MR β l m → MR β2 (l.map fun e => (gv τ e.1, gv τ e.2)) m
  | [], _, r => r
  | (k, v) :: l, _, ⟨x, l', e, a, b, c⟩ => ⟨x, l', e, VR_gv hg _ _ a, VR_gv hg _ _ b, MR_gv hg l l' c⟩

theorem OR_go {τ : Nat → Option Nat} {β β2 : Bm} {w : World} {i : BI} (hg : Gd τ β β2) : ∀ {o : AO}, OR β w i o → OR β2 w i (go τ o)
  | .cells _ _ vs, ⟨a, b, arr, el, fr, c, d, h⟩ => ⟨a, b, arr, el, fr, c, d, fun j v hv => by
      rw [gvs_map, List.getElem?_map] at hv
      obtain ⟨v0, h0, rfl⟩ := Option.map_eq_some_iff.1 hv
      obtain ⟨u, hu, hr⟩ := h j v0 h0
      exact ⟨u, hu, VR_gv hg _ _ hr⟩⟩
  | .dead, _ => trivial
  | .map _, ⟨ents, clk, a, h⟩ => ⟨ents, clk, a, MR_gv hg _ _ h⟩
  | .loop r, ⟨l, h0, h1, h2, h3, h4, h5, h6, j, h7, h8⟩ => by
    simp only [go]
    cases hd : τ r.defers with
    | none => trivial
    | some d => exact ⟨l, h0, h1, h2, ⟨h3.1, fun i => by rw [Env.get_map _ rfl]; exact VR_gv hg _ _ (h3.2 i)⟩, h4, h5, h6, j, by rw [hg _ _ hd]; exact h7, h8⟩
  | .defr _, h => h

/-- The place of a number in a list. -/
def plc : List Nat → Nat → Option Nat
  | [], _ => none
  | x :: r, j => bif Nat.beq x j then some 0 else (plc r j).map (· + 1)
theorem plc_get : ∀ {l : List Nat} {j k : Nat}, plc l j = some k → l[k]? = some j
  | [], _, _, h => by simp [plc] at h
  | x :: r, j, k, h => by
    simp only [plc] at h
    by_cases e : x = j
    · subst e; rw [beqT.2 rfl] at h; simp only [cond_true] at h; injection h with h; subst h; rfl
    · rw [beqF.2 e] at h; simp only [cond_false] at h
      obtain ⟨m, hm, rfl⟩ := Option.map_eq_some_iff.1 h
      simpa using plc_get hm

/-- The blocks from N on, but for those of 'sel', are forgotten; these are numbered as 'sel' has them. -/
def ta (hb : HV) (sel : List Nat) (b : Nat) : Option Nat := if b < hb.nx then some b else (plc sel (b - hb.nx)).map hb.at

theorem ta_at (hb : HV) (sel : List Nat) (i : Nat) : ta hb sel (hb.at i) = (plc sel i).map hb.at := by
  unfold ta HV.at; rw [if_neg (by omega), Nat.add_sub_cancel_left]
theorem ta_old {hb : HV} {sel : List Nat} {b : Nat} (h : b < hb.nx) : ta hb sel b = some b := by
  unfold ta; rw [if_pos h]

def gns (hb : HV) (sel : List Nat) (ns : List AO) : List AO := sel.map fun j => match ns[j]? with | some o => go (ta hb sel) o | none => .dead
def gus (hb : HV) (sel : List Nat) (us : List (Nat × AO)) : List (Nat × AO) := us.map fun p => (p.1, go (ta hb sel) p.2)

def ndp : List Nat → Bool
  | [] => true
  | x :: r => !(r.any fun y => Nat.beq y x) && ndp r
theorem ndp_nodup : ∀ {l : List Nat}, ndp l = true → l.Nodup
  | [], _ => List.nodup_nil
  | x :: r, h => by
    simp only [ndp, Bool.and_eq_true, Bool.not_eq_true', List.any_eq_false] at h
    refine List.nodup_cons.2 ⟨fun hx => ?_, ndp_nodup h.2⟩
    have := h.1 x hx
    rw [beqT.2 rfl] at this; exact this rfl

/-- All that is related at a moment. -/
structure Now (T : Types) (β : Bm) (h : Heap) (w : World) (H : HV) : Prop where
  nx : h.nx = H.nx
  get : h.get = H.get
  rel : Rel T.G β h w
  fresh : ∀ b, H.nx ≤ b → β b = none

/-- What lies below the first own block speaks of nothing above. -/
structure Base (T : Types) (hb : HV) (β : Bm) : Prop where
  glob : T.G ≤ hb.nx
  cl : ∀ b i o, b < hb.nx → β b = some i → hb.get b = some o → o.bel hb.nx

theorem Now.base {T : Types} {β : Bm} {h : Heap} {w : World} {H : HV} (n : Now T β h w H) : Base T H β := by
  refine ⟨?_, fun b i o _ hi ho => OR_bel n.fresh (n.rel.obj b i o hi (by rw [n.get]; exact ho))⟩
  apply Classical.byContradiction
  intro hlt
  obtain ⟨i, hi, _⟩ := n.rel.glob H.nx (by omega)
  rw [n.fresh _ (Nat.le_refl _)] at hi; cases hi

theorem Base.same {T : Types} {hb : HV} {β β' : Bm} (h : Base T hb β) (hs : ∀ b, b < hb.nx → β' b = β b) : Base T hb β' :=
  ⟨h.glob, fun b i o hb hi ho => h.cl b i o hb (by rw [← hs b hb]; exact hi) ho⟩

/-- From one moment to another: the blocks below N keep their numbers. -/
structure Tw (T : Types) (N : Nat) (β : Bm) (h : Heap) (w : World) (β' : Bm) (h' : Heap) (w' : World) (H' : HV) : Prop where
  now : Now T β' h' w' H'
  same : ∀ b, b < N → β' b = β b
  kept : Kept β h w w'
  lin : ∀ b i o, β' b = some i → h'.get b = some o → o.live = true → i.c < w.heap.size → ∃ b' i' o', β b' = some i' ∧ h.get b' = some o' ∧ o'.live = true ∧ (o.own = true → o'.own = true) ∧ i'.c = i.c

theorem Tw.refl {T : Types} {N : Nat} {β : Bm} {h : Heap} {w : World} {H : HV} (n : Now T β h w H) : Tw T N β h w β h w H :=
  ⟨n, fun _ _ => rfl, Kept.refl β h w, fun b i o e ho hl _ => ⟨b, i, o, e, ho, hl, id, rfl⟩⟩

theorem Tw.trans {T : Types} {N M : Nat} {β β1 β2 : Bm} {h h1 h2 : Heap} {w w1 w2 : World} {H H1 H2 : HV} (n : Now T β h w H) (a : Tw T N β h w β1 h1 w1 H1) (b : Tw T M β1 h1 w1 β2 h2 w2 H2) (hM : N ≤ M) : Tw T N β h w β2 h2 w2 H2 :=
  ⟨b.now, fun x hx => (b.same x (Nat.lt_of_lt_of_le hx hM)).trans (a.same x hx), Kept.trans a.kept b.kept n.rel.lt (fun x i o e ho hown hc => by
      obtain ⟨b0, i0, o0, e0, ho0, _, hw0, hc0⟩ := a.lin x i o e ho (AO.live_of_own hown) hc
      exact ⟨b0, i0, o0, e0, ho0, hw0 hown, hc0⟩), fun x i o e ho hl hc => by
    obtain ⟨b1, i1, o1, e1, ho1, hl1, hw1, hc1⟩ := b.lin x i o e ho hl (Nat.lt_of_lt_of_le hc a.kept.size)
    obtain ⟨b0, i0, o0, e0, ho0, hl0, hw0, hc0⟩ := a.lin b1 i1 o1 e1 ho1 hl1 (by omega)
    exact ⟨b0, i0, o0, e0, ho0, hl0, fun x => hw0 (hw1 x), hc0.trans hc1⟩⟩

theorem Tw.of_to {T : Types} {N : Nat} {β β' : Bm} {h h' : Heap} {w w' : World} {H H' : HV} (n : Now T β h w H) (t : To T.G β h w β' h' w') (hN : N ≤ H.nx) (h1 : h'.nx = H'.nx) (h2 : h'.get = H'.get) : Tw T N β h w β' h' w' H' :=
  ⟨⟨h1, h2, t.rel, fun b hb => by
      have h3 := t.ext.1
      rw [t.grow.2 b (.inr (by omega))]
      exact n.fresh b (by have := n.nx; omega)⟩, fun b hb => t.grow.2 b (.inl (by have := n.nx; omega)), t.kept, t.lin⟩

/-- Blocks are forgotten. -/
theorem Now.gc {T : Types} {β : Bm} {h : Heap} {w : World} {hb : HV} {us : List (Nat × AO)} {ns : List AO} (n : Now T β h w (mkh hb us ns)) (hB : Base T hb β) {sel : List Nat} (hd : ndp sel = true) :
    ∃ β2 h2, Gd (ta hb sel) β β2 ∧ (∀ b, b < hb.nx → β2 b = β b) ∧ Now T β2 h2 w (mkh hb (gus hb sel us) (gns hb sel ns)) ∧
      ∀ b i o, β2 b = some i → h2.get b = some o → ∃ b0, β b0 = some i ∧ (o.live = true → ∃ o0, h.get b0 = some o0 ∧ o0.live = true ∧ (o.own = true → o0.own = true)) := by
  let pre : Nat → Option Nat := fun b => if b < hb.nx then some b else (sel[b - hb.nx]?).map hb.at
  let β2 : Bm := fun b => match pre b with | some b0 => β b0 | none => none
  have hpre_inj : ∀ b b' c, pre b = some c → pre b' = some c → b = b' := by
    intro b b' c h1 h2
    simp only [pre] at h1 h2
    split at h1 <;> split at h2
    · injection h1 with h1; injection h2 with h2; omega
    · injection h1 with h1
      obtain ⟨j, _, hj⟩ := Option.map_eq_some_iff.1 h2
      simp only [HV.at] at hj; omega
    · injection h2 with h2
      obtain ⟨j, _, hj⟩ := Option.map_eq_some_iff.1 h1
      simp only [HV.at] at hj; omega
    · obtain ⟨j, hj, hj'⟩ := Option.map_eq_some_iff.1 h1
      obtain ⟨k, hk, hk'⟩ := Option.map_eq_some_iff.1 h2
      simp only [HV.at] at hj' hk'
      have hjk : j = k := by omega
      subst hjk
      have hnd := ndp_nodup hd
      obtain ⟨x1, e1⟩ := List.getElem?_eq_some_iff.1 hj
      obtain ⟨x2, e2⟩ := List.getElem?_eq_some_iff.1 hk
      have := (List.getElem_inj hnd).1 (e1.trans e2.symm)
      omega
  have hgood : Gd (ta hb sel) β β2 := by
    intro b b' hb'
    unfold ta at hb'
    split at hb'
    · rename_i hlt
      injection hb' with hb'; subst hb'
      simp only [β2, pre, if_pos hlt]
    · rename_i hlt
      obtain ⟨k, hk, rfl⟩ := Option.map_eq_some_iff.1 hb'
      have := plc_get hk
      have hn : ¬ hb.at k < hb.nx := by unfold HV.at; omega
      have hs : hb.at k - hb.nx = k := by unfold HV.at; omega
      simp only [β2, pre, if_neg hn, hs, this, Option.map_some]
      congr 1
      unfold HV.at; omega
  have hsame : ∀ b, b < hb.nx → β2 b = β b := by
    intro b hlt; simp only [β2, pre, if_pos hlt]
  obtain ⟨h2, hnx, _, hget⟩ := heap_of (mkh hb (gus hb sel us) (gns hb sel ns)).get 0 (mkh hb (gus hb sel us) (gns hb sel ns)).nx
  have hget2 : h2.get = (mkh hb (gus hb sel us) (gns hb sel ns)).get := by
    funext b
    rw [hget]
    split
    · rfl
    · rename_i hlt
      rw [mk_nx] at hlt
      simp only [mkh]
      rw [if_neg (by omega), List.getElem?_eq_none (by omega)]
  -- where a block comes from
  have orig : ∀ b i o, β2 b = some i → h2.get b = some o → ∃ b0, pre b = some b0 ∧ β b0 = some i ∧ OR β2 w i o ∧ (o.live = true → ∃ o0, h.get b0 = some o0 ∧ o0.live = true ∧ (o.own = true → o0.own = true)) := by
    intro b i o hi ho
    rw [hget2] at ho
    by_cases hlt : b < hb.nx
    · have hp : pre b = some b := by simp only [pre, if_pos hlt]
      rw [hsame b hlt] at hi
      refine ⟨b, hp, hi, ?_⟩
      rw [mk_old hlt, gus, lk_map] at ho
      have h0 := mk_old (us := us) (ns := ns) hlt
      cases hl : lk us b with
      | some o0 =>
        rw [hl] at ho h0
        simp only [Option.map_some, Option.some_or] at ho h0
        injection ho with ho; subst ho
        have hh : h.get b = some o0 := by rw [n.get]; exact h0
        exact ⟨OR_go hgood (n.rel.obj b i o0 hi hh), fun hv => ⟨o0, hh, go_live hv, go_own⟩⟩
      | none =>
        rw [hl] at ho h0
        simp only [Option.map_none, Option.none_or] at ho h0
        have hh : h.get b = some o := by rw [n.get]; exact h0.trans ho
        exact ⟨OR_same hsame (hB.cl b i o hlt hi ho) (n.rel.obj b i o hi hh), fun hv => ⟨o, hh, hv, id⟩⟩
    · have hb2 : b = hb.at (b - hb.nx) := by unfold HV.at; omega
      rw [hb2, mk_at] at ho
      simp only [gns, List.getElem?_map] at ho
      obtain ⟨j, hj, hjo⟩ := Option.map_eq_some_iff.1 ho
      have hp : pre b = some (hb.at j) := by simp only [pre, if_neg hlt, hj, Option.map_some]
      have hi' : β (hb.at j) = some i := by
        simp only [β2, hp] at hi; exact hi
      refine ⟨hb.at j, hp, hi', ?_⟩
      cases hnj : ns[j]? with
      | none => rw [hnj] at hjo; simp only at hjo; subst hjo; exact ⟨trivial, fun hv => by cases hv⟩
      | some o0 =>
        rw [hnj] at hjo; simp only at hjo; subst hjo
        have hh : h.get (hb.at j) = some o0 := by rw [n.get, mk_at]; exact hnj
        exact ⟨OR_go hgood (n.rel.obj _ i o0 hi' hh), fun hv => ⟨o0, hh, go_live hv, go_own⟩⟩
  refine ⟨β2, h2, hgood, hsame, ⟨hnx, hget2, ⟨?_, ?_, ?_, ?_⟩, ?_⟩, ?_⟩
  · intro b i o hi ho
    obtain ⟨_, _, _, h3, _⟩ := orig b i o hi ho
    exact h3
  · intro b i hi
    simp only [β2] at hi
    split at hi
    · exact n.rel.lt _ i hi
    · cases hi
  · intro b b' i i' o o' hne hi hi' ho ho' hown hlive
    obtain ⟨b0, hp, h1, _, h3⟩ := orig b i o hi ho
    obtain ⟨b0', hp', h1', _, h3'⟩ := orig b' i' o' hi' ho'
    obtain ⟨o0, k1, k2, k3⟩ := h3 (AO.live_of_own hown)
    obtain ⟨o0', k1', k2', _⟩ := h3' hlive
    exact n.rel.apart b0 b0' i i' o0 o0' (fun e => hne (hpre_inj b b' b0 hp (by rw [e]; exact hp'))) h1 h1' k1 k1' (k3 hown) k2'
  · intro g hg
    obtain ⟨i, hi, r⟩ := n.rel.glob g hg
    exact ⟨i, by rw [hsame g (Nat.lt_of_lt_of_le hg hB.glob)]; exact hi, r⟩
  · intro b hb'
    rw [mk_nx] at hb'
    have hlt : ¬ b < hb.nx := by omega
    simp only [β2, pre, if_neg hlt]
    rw [List.getElem?_eq_none (by simp only [gns, List.length_map] at hb'; omega)]
    rfl
  · intro b i o hi ho
    obtain ⟨b0, _, h1, _, h3⟩ := orig b i o hi ho
    exact ⟨b0, h1, h3⟩

/-- What follows the forgetting follows what was before it. -/
theorem Tw.ungc {T : Types} {N : Nat} {β β2 β' : Bm} {h h2 h' : Heap} {w w' : World} {H' : HV} (hs : ∀ b, b < N → β2 b = β b)
    (ho : ∀ b i o, β2 b = some i → h2.get b = some o → ∃ b0, β b0 = some i ∧ (o.live = true → ∃ o0, h.get b0 = some o0 ∧ o0.live = true ∧ (o.own = true → o0.own = true)))
    (t : Tw T N β2 h2 w β' h' w' H') : Tw T N β h w β' h' w' H' := by
  refine ⟨t.now, fun b hb => (t.same b hb).trans (hs b hb), ⟨t.kept.os, t.kept.tape, t.kept.output, t.kept.size, fun c hc hn => t.kept.block c hc ?_⟩, ?_⟩
  · intro b i o hi ho' hown
    obtain ⟨b0, h1, h3⟩ := ho b i o hi ho'
    obtain ⟨o0, k1, _, k3⟩ := h3 (AO.live_of_own hown)
    exact hn b0 i o0 h1 k1 (k3 hown)
  · intro b i o hi ho' hl hc
    obtain ⟨b1, i1, o1, h1, h3, h4, h5, h6⟩ := t.lin b i o hi ho' hl hc
    obtain ⟨b0, k1, k3⟩ := ho b1 i1 o1 h1 h3
    obtain ⟨o0, q1, q2, q3⟩ := k3 h4
    exact ⟨b0, i1, o0, k1, q1, q2, fun x => q3 (h5 x), h6⟩

/-- What comes before a forgetting. -/
theorem Tw.gc {T : Types} {N : Nat} {β β' β2 : Bm} {h h' h2 : Heap} {w w' : World} {H' H2 : HV} (t : Tw T N β h w β' h' w' H') (n2 : Now T β2 h2 w' H2) (hs : ∀ b, b < N → β2 b = β' b)
    (ho : ∀ b i o, β2 b = some i → h2.get b = some o → ∃ b0, β' b0 = some i ∧ (o.live = true → ∃ o0, h'.get b0 = some o0 ∧ o0.live = true ∧ (o.own = true → o0.own = true))) : Tw T N β h w β2 h2 w' H2 := by
  refine ⟨n2, fun b hb => (hs b hb).trans (t.same b hb), t.kept, ?_⟩
  intro b i o hi ho' hl hc
  obtain ⟨b0, k1, k3⟩ := ho b i o hi ho'
  obtain ⟨o0, q1, q2, q3⟩ := k3 hl
  obtain ⟨b1, i1, o1, h1, h3, h4, h5, h6⟩ := t.lin b0 i o0 k1 q1 q2 hc
  exact ⟨b1, i1, o1, h1, h3, h4, fun x => h5 (q3 x), h6⟩

end Go.Ai
