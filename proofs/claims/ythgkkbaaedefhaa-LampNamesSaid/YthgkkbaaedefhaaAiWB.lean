/- AiWB -/
import Derived.Test.YthgkkbaaedefhaaAiWA
set_option linter.unusedVariables false
set_option linter.unusedSimpArgs false
namespace Go.Ai
open Go

/-! ### Slots -/
noncomputable def un : Nat → Tr AV
  | 0 => .lf
  | n + 1 => (un n).set n .undef
theorem un_get : ∀ (n i : Nat), (un n).get i = if i < n then some .undef else none
  | 0, i => by simp [un, Tr.get_lf]
  | n + 1, i => by
    simp only [un, Tr.get_set, un_get n i]
    by_cases h : i = n
    · subst h; simp
    · simp only [h, if_false]
      by_cases k : i < n
      · rw [if_pos k, if_pos (by omega)]
      · rw [if_neg k, if_neg (by omega)]

/-- n slots, of which some are known. -/
noncomputable def E (n : Nat) (l : List (Nat × AV)) : Env := ⟨n, l.foldr (fun p t => t.set p.1 p.2) (un n)⟩

theorem E_get (n : Nat) : ∀ (l : List (Nat × AV)) (i : Nat), (E n l).get i = match lk l i with | some v => v | none => if i < n then .undef else .tup []
  | [], i => by
    simp only [E, Env.get, List.foldr_nil, un_get, lk]
    by_cases h : i < n
    · simp [h]
    · simp [h]
  | p :: l, i => by
    have ih := E_get n l i
    simp only [E, Env.get, List.foldr_cons, Tr.get_set, lk] at ih ⊢
    by_cases h : i = p.1
    · rw [if_pos h, beqT.2 h]; rfl
    · rw [if_neg h, beqF.2 h]; exact ih

theorem E_put (n d : Nat) (l : List (Nat × AV)) (v : AV) (h : d < n) : (E n l).put (some d) v = some (E n ((d, v) :: l)) := by
  rw [Env.put_some]
  simp only [E, bltT.2 h, cond_true, List.foldr_cons]

theorem un_map {f : AV → AV} (hf : f .undef = .undef) : ∀ n, (un n).map f = un n
  | 0 => rfl
  | n + 1 => by simp only [un, Tr.map_set, un_map hf n, hf]
theorem E_map {f : AV → AV} (hf : f .undef = .undef) (n : Nat) (l : List (Nat × AV)) : (E n l).map f = E n (l.map fun p => (p.1, f p.2)) := by
  unfold E Env.map
  congr 1
  induction l with
  | nil => exact un_map hf n
  | cons p l ih => simp only [List.foldr_cons, List.map_cons, Tr.map_set] at ih ⊢; rw [ih]

theorem ER_weak {β : Bm} {e : Env} {tmps : Array Value} (h : ER β e tmps) {l : List (Nat × AV)} (hl : ∀ p ∈ l, e.get p.1 = p.2) {n : Nat} (hn : e.n = n) : ER β (E n l) tmps := by
  refine ⟨h.1.trans hn, fun i => ?_⟩
  rw [E_get]
  cases hk : lk l i with
  | some v => have := h.2 i; rw [hl _ (lk_mem hk)] at this; exact this
  | none =>
    by_cases hi : i < n
    · simp only [if_pos hi]; trivial
    · simp only [if_neg hi]
      have hs := h.1
      rw [Array.getD_eq_getD_getElem?, Array.getElem?_eq_none (by omega)]
      exact ⟨#[], rfl, VRs.nil⟩

theorem ER_sub {β β2 : Bm} {n : Nat} {l l2 : List (Nat × AV)} {tmps : Array Value} (h : ER β (E n l) tmps) (hl : ∀ p ∈ l2, ∃ v, lk l p.1 = some v ∧ ∀ u, VR β v u → VR β2 p.2 u) : ER β2 (E n l2) tmps := by
  refine ⟨h.1, fun i => ?_⟩
  rw [E_get]
  cases hk : lk l2 i with
  | some v =>
    obtain ⟨v0, h0, h1⟩ := hl _ (lk_mem hk)
    have := h.2 i
    rw [E_get, h0] at this
    exact h1 _ this
  | none =>
    by_cases hi : i < n
    · simp only [if_pos hi]; trivial
    · simp only [if_neg hi]
      have hs := h.1
      have : tmps.size = n := hs
      rw [Array.getD_eq_getD_getElem?, Array.getElem?_eq_none (by omega)]
      exact ⟨#[], rfl, VRs.nil⟩

theorem ER_same {β β2 : Bm} {N : Nat} (hf : ∀ b, N ≤ b → β b = none) (hs : ∀ b, b < N → β2 b = β b) {e : Env} {tmps : Array Value} (h : ER β e tmps) : ER β2 e tmps :=
  ⟨h.1, fun i => VR_same hs _ _ (VR_bel hf _ _ (h.2 i)) (h.2 i)⟩

theorem DR_same {β β2 : Bm} {N : Nat} (hf : ∀ b, N ≤ b → β b = none) (hs : ∀ b, b < N → β2 b = β b) {d : ADef} {x : Deferred} (r : DR β d x) : DR β2 d x := by
  cases d with
  | mark b =>
    obtain ⟨i, hi, e⟩ := r
    refine ⟨i, ?_, e⟩
    rw [hs b (by apply Classical.byContradiction; intro h; rw [hf b (by omega)] at hi; cases hi)]; exact hi
  | call f args => obtain ⟨cap, e, hv⟩ := r; exact ⟨cap, e, VRs_same hs _ _ (VRs_bel hf _ _ hv) hv⟩
theorem DRs_same {β β2 : Bm} {N : Nat} (hf : ∀ b, N ≤ b → β b = none) (hs : ∀ b, b < N → β2 b = β b) : ∀ {ds : List ADef} {l : List Deferred}, DRs β ds l → DRs β2 ds l
  | [], _, r => r
  | _ :: _, _, ⟨x, l', e, r, rs⟩ => ⟨x, l', e, DR_same hf hs r, DRs_same hf hs rs⟩

/-! ### What holds within a call -/
/-- The slots that are known, what is put off, the older blocks that were turned, the new blocks. -/
structure St where
  l : List (Nat × AV)
  ds : List ADef
  us : List (Nat × AO)
  ns : List AO

def St.H (hb : HV) (s : St) : HV := mkh hb s.us s.ns

/-- One block is turned. -/
def up1 (hb : HV) (p : Nat × AO) (x : List (Nat × AO) × List AO) : List (Nat × AO) × List AO :=
  if p.1 < hb.nx then (p :: x.1, x.2) else (x.1, x.2.set (p.1 - hb.nx) p.2)
def ups (hb : HV) : List (Nat × AO) → List (Nat × AO) × List AO → List (Nat × AO) × List AO
  | [], x => x
  | p :: r, x => ups hb r (up1 hb p x)

theorem up1_old {hb : HV} {b : Nat} (h : b < hb.nx) (o : AO) (x : List (Nat × AO) × List AO) : up1 hb (b, o) x = ((b, o) :: x.1, x.2) := by
  unfold up1; rw [if_pos h]
theorem up1_at (hb : HV) (i : Nat) (o : AO) (x : List (Nat × AO) × List AO) : up1 hb (hb.at i, o) x = (x.1, x.2.set i o) := by
  unfold up1 HV.at; rw [if_neg (by simp), Nat.add_sub_cancel_left]

def St.upd (hb : HV) (s : St) (us : List (Nat × AO)) (ns : List AO) : St :=
  { s with us := (ups hb us (s.us, s.ns)).1, ns := (ups hb us (s.us, s.ns)).2 ++ ns }

theorem up1_len (hb : HV) (p : Nat × AO) (x : List (Nat × AO) × List AO) : (up1 hb p x).2.length = x.2.length := by
  unfold up1; split <;> simp
theorem ups_len (hb : HV) : ∀ (l : List (Nat × AO)) (x : List (Nat × AO) × List AO), (ups hb l x).2.length = x.2.length
  | [], _ => rfl
  | p :: r, x => (ups_len hb r _).trans (up1_len hb p x)

/-- 'get' with some blocks turned -/
def over1 (g : Getter) (p : Nat × AO) : Getter := fun b => if b = p.1 then some p.2 else g b
def overs (g : Getter) : List (Nat × AO) → Getter
  | [] => g
  | p :: r => overs (over1 g p) r

theorem up1_get (hb : HV) (p : Nat × AO) (x : List (Nat × AO) × List AO) (hp : p.1 < hb.nx + x.2.length) : (mkh hb (up1 hb p x).1 (up1 hb p x).2).get = over1 (mkh hb x.1 x.2).get p := by
  funext b
  obtain ⟨c, o⟩ := p
  unfold over1 up1
  simp only at hp ⊢
  by_cases hc : c < hb.nx
  · rw [if_pos hc]
    simp only [mkh]
    by_cases hb' : b < hb.nx
    · rw [if_pos hb', if_pos hb']
      simp only [lk]
      by_cases e : b = c
      · rw [if_pos e, beqT.2 e]; rfl
      · rw [if_neg e, beqF.2 e]; rfl
    · rw [if_neg hb', if_neg hb', if_neg (by omega)]
  · rw [if_neg hc]
    simp only [mkh]
    by_cases hb' : b < hb.nx
    · rw [if_pos hb', if_pos hb', if_neg (by omega)]
    · rw [if_neg hb', if_neg hb', List.getElem?_set]
      by_cases e : b = c
      · subst e; rw [if_pos rfl, if_pos rfl, if_pos (by omega)]
      · rw [if_neg e, if_neg (by omega)]

theorem ups_get (hb : HV) : ∀ (l : List (Nat × AO)) (x : List (Nat × AO) × List AO), (∀ p ∈ l, p.1 < hb.nx + x.2.length) → (mkh hb (ups hb l x).1 (ups hb l x).2).get = overs (mkh hb x.1 x.2).get l
  | [], _, _ => rfl
  | p :: r, x, h => by
    simp only [ups, overs]
    rw [ups_get hb r _ (fun q hq => by rw [up1_len]; exact h q (List.mem_cons_of_mem _ hq)), up1_get hb p x (h p List.mem_cons_self)]

theorem sets_get : ∀ (l : List (Nat × AO)) (h : Heap), (∀ p ∈ l, p.1 < h.nx) → (h.sets l).get = overs h.get l
  | [], _, _ => rfl
  | (b, o) :: r, h, hl => by
    rw [Heap.sets_cons, sets_get r _ (fun p hp => by rw [Heap.nx_set]; exact hl p (List.mem_cons_of_mem _ hp))]
    simp only [overs]
    congr 1
    funext c
    rw [Heap.get_set _ _ _ _ (hl _ List.mem_cons_self)]
    rfl

/-- 'get' with new blocks from n on -/
def more (g : Getter) (n : Nat) (l : List AO) : Getter := fun b => if b < n then g b else l[b - n]?

theorem pushes_get : ∀ (l : List AO) (h : Heap), (h.pushes l).get = more h.get h.nx l
  | [], h => by
    funext b
    simp only [Heap.pushes_nil, more]
    split
    · rfl
    · rename_i hlt; rw [Heap.get_def, if_neg hlt]; simp
  | o :: r, h => by
    funext b
    rw [Heap.pushes_cons, pushes_get r]
    simp only [more, Heap.nx_push, Heap.get_push]
    by_cases h1 : b < h.nx
    · rw [if_pos h1, if_pos (by omega), if_neg (by omega)]
    · rw [if_neg h1]
      by_cases h2 : b = h.nx
      · subst h2; rw [if_pos (by omega), if_pos rfl]; simp
      · rw [if_neg (by omega), show b - h.nx = (b - (h.nx + 1)) + 1 by omega, List.getElem?_cons_succ]

theorem mkh_more (hb : HV) (us : List (Nat × AO)) (ns l : List AO) : (mkh hb us (ns ++ l)).get = more (mkh hb us ns).get (hb.nx + ns.length) l := by
  funext b
  simp only [mkh, more]
  by_cases h1 : b < hb.nx
  · rw [if_pos h1, if_pos (by omega), if_pos h1]
  · rw [if_neg h1, if_neg h1]
    by_cases h2 : b < hb.nx + ns.length
    · rw [if_pos h2, List.getElem?_append_left (by omega)]
    · rw [if_neg h2, List.getElem?_append_right (by omega)]
      congr 1; omega

theorem St.upd_nx (hb : HV) (s : St) (us : List (Nat × AO)) (ns : List AO) : ((s.upd hb us ns).H hb).nx = (s.H hb).nx + ns.length := by
  simp only [St.upd, St.H, mk_nx, List.length_append, ups_len]; omega
theorem St.upd_get (hb : HV) (s : St) (us : List (Nat × AO)) (ns : List AO) (h : ∀ p ∈ us, p.1 < (s.H hb).nx) : ((s.upd hb us ns).H hb).get = more (overs (s.H hb).get us) (s.H hb).nx ns := by
  simp only [St.upd, St.H]
  rw [mkh_more, ups_len, ups_get hb us (s.us, s.ns) h]
  rfl
/-- A callee's memory is the caller's with as much turned and laid. -/
theorem St.upd_mkh (hb : HV) (s : St) (us : List (Nat × AO)) (ns : List AO) (h : ∀ p ∈ us, p.1 < (s.H hb).nx) : (mkh (s.H hb) us.reverse ns).nx = ((s.upd hb us ns).H hb).nx ∧ (mkh (s.H hb) us.reverse ns).get = ((s.upd hb us ns).H hb).get := by
  refine ⟨by rw [St.upd_nx]; rfl, ?_⟩
  rw [St.upd_get hb s us ns h]
  funext b
  simp only [mkh, more]
  have key : ∀ (us : List (Nat × AO)) (acc : List (Nat × AO)) (g : Getter), (lk (us.reverse ++ acc) b).or (g b) = overs (fun c => (lk acc c).or (g c)) us b := by
    intro us
    induction us with
    | nil => intro acc g; rfl
    | cons p r ih =>
      intro acc g
      simp only [List.reverse_cons, List.append_assoc, List.singleton_append, overs]
      rw [ih (p :: acc) g]
      congr 1
      funext c
      simp only [over1, lk]
      by_cases e : c = p.1
      · rw [if_pos e, beqT.2 e]; rfl
      · rw [if_neg e, beqF.2 e]; rfl
  have := key us [] (s.H hb).get
  simp only [List.append_nil, lk, Option.none_or] at this
  rw [this]

end Go.Ai
