/- AiRegD AiRegE AiRegF -/
import Derived.Test.YthgkkbaaedefhaaAiRegA
set_option linter.unusedVariables false
set_option linter.unusedSimpArgs false
section
namespace Go.Ai
open Go

section
variable {P : Program} {T : Types} {F : Funcs} {K : Nat → Caller} {all : List Oper} {frs : List (List Nat)} {ms : List Nat} {R : Run} {n : Nat}

/-- Where those in S have run. (β0, w0: at the region's begin.) -/
structure Inv (T : Types) (all : List Oper) (ms : List Nat) (R : Run) (n : Nat) (β0 : Bm) (w0 : World) (ds : List Deferred) (S : Nat → Prop) (e : Env) (a : Act) (w : World) (β : Bm) : Prop where
  sub : ∀ i, S i → i < n
  closed : ∀ i, S i → ∀ j, bf ms j i → S j
  en : e.n = (R.E 0).n
  eget : ∀ t, e.get t = tv all R S n t
  er : ER β e a.tmps
  dfs : a.defers = ds
  le : β0.le β
  out : ∀ b, (b < (R.H 0).nx ∨ (R.H n).nx ≤ b) → β b = β0 b
  dom : ∀ i, i < n → ¬ S i → ∀ b, Nw R i b → β b = none
  refs : ∀ i, S i → ∀ b, (b ∈ (R.f i).rd ∨ b ∈ (R.f i).wr) → ∃ j, β b = some j
  obj : ∀ b i o, β b = some i → hv R S n b = some o → OR β w i o
  lt : ∀ b i, β b = some i → i.c < w.heap.size
  apart : ∀ b b' i i' o o', b ≠ b' → β b = some i → β b' = some i' → hv R S n b = some o → hv R S n b' = some o' → o.own = true → o'.live = true → i.c ≠ i'.c
  glob : ∀ g, g < T.G → ∃ i, β g = some i ∧ i.c = g ∧ i.base = 0
  kept : Kept β0 (R.H 0) w0 w
  lin : ∀ b i o, β b = some i → hv R S n b = some o → o.live = true → i.c < w0.heap.size → ∃ b' i' o', β0 b' = some i' ∧ (R.H 0).get b' = some o' ∧ o'.live = true ∧ (o.own = true → o'.own = true) ∧ i'.c = i.c
  lt0 : ∀ b i, β0 b = some i → i.c < w0.heap.size

variable {β0 β : Bm} {w0 w : World} {ds : List Deferred} {S : Nat → Prop} {e : Env} {a : Act}

theorem noclash (hR : R.Ok T K all frs n) (hS : Stat all ms frs) {i j : Nat} (hj : j < n) (hij : i < j) (hb : ¬ bf ms i j) : (R.f i).clash (R.f j) = false ∧ ∃ oi oj, all[i]? = some oi ∧ all[j]? = some oj ∧ apart all oi oj = true := by
  obtain ⟨oj, h1, _⟩ := hR.op j hj
  obtain ⟨oi, h2, _⟩ := hR.op i (by omega)
  obtain ⟨fr, f1, f2⟩ := hS.free j oj h1
  obtain ⟨g1, g2⟩ := f2 i oi hij h2 hb
  exact ⟨hR.cl j hj fr f1 i g1 hij, oi, oj, h2, h1, g2⟩

theorem not_any {f : FP} {R : Run} {i b : Nat} (hf : R.f i = f) (h : f.any = false) : ¬ Wr R i b ∧ b ∉ f.rd ∧ b ∉ f.wr ∧ f.al = false := by
  obtain ⟨_, h2, h3, h4, h5⟩ := any_iff h
  subst hf
  refine ⟨fun x => ?_, by rw [h3]; simp, by rw [h4]; simp, h5⟩
  rcases x with ⟨x, _⟩ | x
  · rw [h2] at x; cases x
  · rw [h4] at x; cases x

/-- Two operations of which neither must come first, and which both write a block: there is none. -/
theorem ww (hR : R.Ok T K all frs n) (hS : Stat all ms frs) {i j b : Nat} (hj : j < n) (hij : i < j) (hb : ¬ bf ms i j) (h1 : Wr R i b) (h2 : Wr R j b) : False := by
  obtain ⟨hc, _⟩ := noclash hR hS hj hij hb
  obtain ⟨c1, c2, _, _, _, c6, _⟩ := clash_iff hc
  rcases h1 with ⟨h1, _⟩ | h1
  · exact (not_any rfl (c1 h1)).1 h2
  · rcases h2 with ⟨h2, _⟩ | h2
    · exact (not_any (b := b) rfl (c2 h2)).2.2.1 h1
    · exact c6 b h1 h2

/-- What one operation looks into lies as it did in the text's order, whatever ran before. -/
theorem seen_at (hR : R.Ok T K all frs n) (hKe : ∀ i, KExt (K i)) (hS : Stat all ms frs) (I : Inv T all ms R n β0 w0 ds S e a w β) {i b : Nat} (hi : i < n) (hni : ¬ S i) (hcl : ∀ j, bf ms j i → S j) {x : BI} (hb : β b = some x) (hbl : b < (R.H i).nx)
    (hs : (R.f i).all = true ∨ b ∈ (R.f i).rd ∨ b ∈ (R.f i).wr) : hv R S n b = (R.H i).get b := by
  refine hv_at hR hKe (by omega) ?_ ?_
  · intro j hj hw
    rcases hw with hw | hw
    · by_cases hbf : bf ms j i
      · exact hcl j hbf
      · exfalso
        obtain ⟨hc, _⟩ := noclash hR hS hi hj hbf
        obtain ⟨c1, c2, c3, c4, c5, c6, c7⟩ := clash_iff hc
        rcases hw with ⟨hw, _⟩ | hw
        · obtain ⟨k1, _, k3, k4, _⟩ := any_iff (c1 hw)
          rcases hs with hs | hs | hs
          · rw [k1] at hs; cases hs
          · rw [k3] at hs; cases hs
          · rw [k4] at hs; cases hs
        · rcases hs with hs | hs | hs
          · rw [c4 hs] at hw; cases hw
          · exact c5 b hw hs
          · exact c6 b hw hs
    · by_cases hsj : S j
      · exact hsj
      · have := I.dom j (by omega) hsj b hw
        rw [hb] at this; cases this
  · intro j hij hjn hsj hw
    have hne : j ≠ i := fun x => hni (x ▸ hsj)
    have hlt : i < j := by omega
    rcases hw with hw | hw
    · by_cases hbf : bf ms i j
      · exact hni (I.closed j hsj i hbf)
      · obtain ⟨hc, _⟩ := noclash hR hS hjn hlt hbf
        obtain ⟨c1, c2, c3, c4, c5, c6, c7⟩ := clash_iff hc
        rcases hw with ⟨hw, _⟩ | hw
        · obtain ⟨k1, _, k3, k4, _⟩ := any_iff (c2 hw)
          rcases hs with hs | hs | hs
          · rw [k1] at hs; cases hs
          · rw [k3] at hs; cases hs
          · rw [k4] at hs; cases hs
        · rcases hs with hs | hs | hs
          · rw [c3 hs] at hw; cases hw
          · exact c7 b hs hw
          · exact c6 b hs hw
    · have := hR.mono hKe i j (by omega) (by omega)
      obtain ⟨q, _⟩ := hw
      omega

/-- Slots that an operation looks at. -/
theorem slot_at (hR : R.Ok T K all frs n) (hS : Stat all ms frs) (I : Inv T all ms R n β0 w0 ds S e a w β) {i : Nat} {o : Oper} (ho : all[i]? = some o) (hi : i < n) (hni : ¬ S i) (hcl : ∀ j, bf ms j i → S j) {t : Nat} (ht : t ∈ usesOf all o) :
    e.get t = (R.E i).get t := by
  rw [I.eget]
  refine tv_at hR (by omega) ?_ ?_
  · rintro j hj ⟨oj, hoj, hd⟩
    by_cases hbf : bf ms j i
    · exact hcl j hbf
    · exfalso
      obtain ⟨_, o1, o2, k1, k2, hap⟩ := noclash hR hS hi hj hbf
      rw [hoj] at k1; injection k1 with k1; subst k1
      rw [ho] at k2; injection k2 with k2; subst k2
      exact (apart_iff hap).1 t hd ht
  · rintro j hij hjn hsj ⟨oj, hoj, hd⟩
    have hne : j ≠ i := fun x => hni (x ▸ hsj)
    by_cases hbf : bf ms i j
    · exact hni (I.closed j hsj i hbf)
    · obtain ⟨_, o1, o2, k1, k2, hap⟩ := noclash hR hS hjn (show i < j by omega) hbf
      rw [ho] at k1; injection k1 with k1; subst k1
      rw [hoj] at k2; injection k2 with k2; subst k2
      exact (apart_iff hap).2.1 t hd ht

theorem uses_operands {o : Oper} {t : Nat} (h : Operand.tmp t ∈ o.op.operands.toList) : t ∈ usesOf all o := by
  have key : ∀ (l : List Operand), Operand.tmp t ∈ l → t ∈ operandTmps l := by
    intro l
    induction l with
    | nil => intro h; cases h
    | cons x l ih =>
      intro h
      rcases List.mem_cons.1 h with h1 | h2
      · subst h1; simp [operandTmps]
      · have := ih h2
        cases x <;> simp [operandTmps, this]
  have hk := key _ h
  unfold usesOf
  simp only
  split
  · split
    · split
      · simp [hk]
      · exact hk
    · exact hk
  · exact hk

theorem wanted_agree {e' : Env} {o : Oper} (h : ∀ t, t ∈ usesOf all o → e.get t = e'.get t) : wantedA all e o = wantedA all e' o := by
  simp only [wantedA_eq]
  split
  · rfl
  · rename_i j want hg
    split
    · rfl
    · rename_i oj hj
      split
      · rfl
      · rename_i d hd
        have : d ∈ usesOf all o := by
          unfold usesOf
          simp [hg, hj, hd]
        rw [h d this]

theorem put_some {e1 e2 e : Env} {d : Option Nat} {v : AV} (h : e1.put d v = some e2) (hn : e.n = e1.n) (u : AV) : ∃ e', e.put d u = some e' := by
  cases d with
  | none => exact ⟨e, rfl⟩
  | some i =>
    simp only [Env.put_none, Env.put_some] at h ⊢
    rw [hn]
    generalize Nat.blt i e1.n = c at h ⊢
    cases c with
    | false => simp at h
    | true => exact ⟨_, rfl⟩

/-- One operation more has run. -/
theorem Inv.step (hR : R.Ok T K all frs n) (hKe : ∀ i, KExt (K i)) (hS : Stat all ms frs) (I : Inv T all ms R n β0 w0 ds S e a w β) {i : Nat} {o : Oper} (ho : all[i]? = some o) (hi : i < n) (hni : ¬ S i) (hcl : ∀ j, bf ms j i → S j)
    {hA hA' : Heap} {β' : Bm} {w' : World} {e' : Env} {a' : Act} (hto : To T.G β hA w β' hA' w') (hnx : hA.nx = (R.H i).nx) (hnx' : hA'.nx = (R.H (i + 1)).nx)
    (g1 : ∀ b x y, β b = some x → hA.get b = some y → y.live = true → hv R S n b = some y)
    (g2 : ∀ b, Wr R i b ∨ Nw R i b → hA'.get b = (R.H (i + 1)).get b)
    (g3 : ∀ b, b < (R.H i).nx → ¬ Wr R i b → hA'.get b = hA.get b)
    (g4 : ∀ b, (b ∈ (R.f i).rd ∨ b ∈ (R.f i).wr) → ∃ j, β b = some j)
    (hp : e.put o.dst (R.V i) = some e') (her : ER β' e' a'.tmps) (hdf : a'.defers = ds) : Inv T all ms R n β0 w0 ds (fun j => S j ∨ j = i) e' a' w' β' := by
  have hext := hR.ext hKe i hi
  have m0 : (R.H 0).nx ≤ (R.H i).nx := hR.mono hKe 0 i (by omega) (by omega)
  have mn : (R.H (i + 1)).nx ≤ (R.H n).nx := hR.mono hKe (i + 1) n (by omega) (Nat.le_refl _)
  have hout : ∀ b, ¬ Nw R i b → β' b = β b := by
    intro b hb
    refine hto.grow.2 b ?_
    rw [hnx, hnx']
    by_cases h : b < (R.H i).nx
    · exact .inl h
    · right
      by_cases h2 : (R.H (i + 1)).nx ≤ b
      · exact h2
      · exact absurd ⟨by omega, by omega⟩ hb
  -- no later one that has run writes what this one writes or lays
  have later : ∀ b, (Wr R i b ∨ Nw R i b) → ∀ j, i < j → j < n → S j → ¬ (Wr R j b ∨ Nw R j b) := by
    intro b hb j hij hjn hsj hw
    have hbf : ¬ bf ms i j := fun x => hni (I.closed j hsj i x)
    have hm := hR.mono hKe (i + 1) j (by omega) (by omega)
    rcases hb with hb | hb
    · have hbl := hR.wr_lt hKe hi hb
      rcases hw with hw | hw
      · exact ww hR hS hjn hij hbf hb hw
      · obtain ⟨q, _⟩ := hw
        have := hext.1
        omega
    · rcases hw with hw | hw
      · have hnone := I.dom i hi hni b hb
        rcases hw with ⟨hw, _⟩ | hw
        · obtain ⟨hc, _⟩ := noclash hR hS hjn hij hbf
          obtain ⟨_, c2, _⟩ := clash_iff hc
          have hal := (hR.facts hKe i hi).2.2 b hb
          rw [(any_iff (c2 hw)).2.2.2.2] at hal; cases hal
        · obtain ⟨x, hx⟩ := I.refs j hsj b (.inr hw)
          rw [hnone] at hx; cases hx
      · obtain ⟨_, p2⟩ := hb
        obtain ⟨q1, _⟩ := hw
        omega
  have hnewv : ∀ b, (Wr R i b ∨ Nw R i b) → hv R (fun j => S j ∨ j = i) n b = (R.H (i + 1)).get b := fun b hb => hv_new hi hb (later b hb)
  have holdv : ∀ b, ¬ (Wr R i b ∨ Nw R i b) → hv R (fun j => S j ∨ j = i) n b = hv R S n b := fun b hb => hv_old hb n
  -- what of it the operation had before it, or has made
  have vis : ∀ b x y, β' b = some x → hv R (fun j => S j ∨ j = i) n b = some y → y.live = true → hA'.get b = some y ∨
      (¬ (Wr R i b ∨ Nw R i b) ∧ β b = some x ∧ hv R S n b = some y ∧ ∀ z, hA.get b = some z → z.live = false) := by
    intro b x y hb hy hl
    by_cases hw : Wr R i b ∨ Nw R i b
    · left; rw [g2 b hw, ← hnewv b hw]; exact hy
    · rw [holdv b hw] at hy
      rw [hout b (fun z => hw (.inr z))] at hb
      by_cases hbl : b < (R.H i).nx
      · cases hz : hA.get b with
        | none => exact .inr ⟨hw, hb, hy, fun z h => (by cases h)⟩
        | some z =>
          cases hzl : z.live with
          | true =>
            left
            have := g1 b x z hb hz hzl
            rw [this] at hy; injection hy with hy; subst hy
            rw [g3 b hbl (fun z => hw (.inl z))]; exact hz
          | false => exact .inr ⟨hw, hb, hy, fun z' h => (by injection h with h; subst h; exact hzl)⟩
      · right
        refine ⟨hw, hb, hy, fun z h => ?_⟩
        have := Heap.get_lt h
        omega
  have hlin : ∀ b x y, β' b = some x → hA'.get b = some y → y.live = true → x.c < w.heap.size → ∃ b' x' y', β b' = some x' ∧ hv R S n b' = some y' ∧ y'.live = true ∧ (y.own = true → y'.own = true) ∧ x'.c = x.c ∧ ∃ z, hA.get b' = some z ∧ z.live = true := by
    intro b x y hb hy hl hc
    obtain ⟨b', x', y', k1, k2, k3, k4, k5⟩ := hto.lin b x y hb hy hl hc
    exact ⟨b', x', y', k1, g1 b' x' y' k1 k2 k3, k3, k4, k5, y', k2, k3⟩
  refine ⟨?_, ?_, ?_, ?_, her, hdf, Bm.le_trans I.le hto.grow.1, ?_, ?_, ?_, ?_, hto.rel.lt, ?_, hto.rel.glob, ?_, ?_, I.lt0⟩
  · intro j hj
    rcases hj with hj | rfl
    · exact I.sub j hj
    · exact hi
  · intro j hj k hk
    rcases hj with hj | rfl
    · exact .inl (I.closed j hj k hk)
    · exact .inl (hcl k hk)
  · rw [put_n hp, I.en]
  · intro t
    rw [Env.get_put hp]
    by_cases hd : o.dst = some t
    · rw [if_pos hd, tv_new hi ⟨o, ho, hd⟩]
      rintro j hij hjn hsj ⟨oj, hoj, hdj⟩
      have hbf : ¬ bf ms i j := fun x => hni (I.closed j hsj i x)
      obtain ⟨_, o1, o2, k1, k2, hap⟩ := noclash hR hS hjn hij hbf
      rw [ho] at k1; injection k1 with k1; subst k1
      rw [hoj] at k2; injection k2 with k2; subst k2
      exact (apart_iff hap).2.2 t hd hdj
    · rw [if_neg hd, tv_old (by rintro ⟨o', ho', hd'⟩; rw [ho] at ho'; injection ho' with ho'; subst ho'; exact hd hd')]
      exact I.eget t
  · intro b hb
    rw [hout b (fun z => by obtain ⟨p, q⟩ := z; omega)]
    exact I.out b hb
  · intro j hj hns b hb
    have hji : j ≠ i := fun x => hns (.inr x)
    rw [hout b ?_]
    · exact I.dom j hj (fun x => hns (.inl x)) b hb
    · intro hz
      obtain ⟨p, q⟩ := hz
      obtain ⟨p', q'⟩ := hb
      by_cases h : j < i
      · have := hR.mono hKe (j + 1) i (by omega) (by omega); omega
      · have := hR.mono hKe (i + 1) j (by omega) (by omega); omega
  · intro j hj b hb
    rcases hj with hj | rfl
    · obtain ⟨x, hx⟩ := I.refs j hj b hb; exact ⟨x, hto.grow.1 b x hx⟩
    · obtain ⟨x, hx⟩ := g4 b hb; exact ⟨x, hto.grow.1 b x hx⟩
  · -- the blocks
    intro b x y hb hy
    cases hl : y.live with
    | false => cases y <;> first | trivial | cases hl
    | true =>
      rcases vis b x y hb hy hl with hv' | ⟨hw, hb0, hy0, hdead⟩
      · exact hto.rel.obj b x y hb hv'
      · refine OR.mono hto.grow.1 (hto.kept.block x.c (I.lt b x hb0) ?_) (I.obj b x y hb0 hy0)
        intro b2 x2 y2 h1 h2 h3
        have hne : b2 ≠ b := by
          intro hh; subst hh
          have := hdead y2 h2
          rw [AO.live_of_own h3] at this; cases this
        exact I.apart b2 b x2 x y2 y hne h1 hb0 (g1 b2 x2 y2 h1 h2 (AO.live_of_own h3)) hy0 h3 hl
  · -- apart
    intro b c x z y u hne hb hc hy hu hown hlive
    have hyl := AO.live_of_own hown
    rcases vis b x y hb hy hyl with hvb | ⟨_, hb0, hy0, hdb⟩ <;> rcases vis c z u hc hu hlive with hvc | ⟨_, hc0, hu0, hdc⟩
    · exact hto.rel.apart b c x z y u hne hb hc hvb hvc hown hlive
    · by_cases hcl' : x.c < w.heap.size
      · obtain ⟨b', x', y', k1, k2, k3, k4, k5, zz, k6, k7⟩ := hlin b x y hb hvb hyl hcl'
        have hne' : b' ≠ c := by
          intro hh; subst hh
          have := hdc zz k6; rw [k7] at this; cases this
        rw [← k5]
        exact I.apart b' c x' z y' u hne' k1 hc0 k2 hu0 (k4 hown) hlive
      · have := I.lt c z hc0; omega
    · by_cases hcl' : z.c < w.heap.size
      · obtain ⟨c', z', u', k1, k2, k3, k4, k5, zz, k6, k7⟩ := hlin c z u hc hvc hlive hcl'
        have hne' : b ≠ c' := by
          intro hh; subst hh
          have := hdb zz k6; rw [k7] at this; cases this
        rw [← k5]
        exact I.apart b c' x z' y u' hne' hb0 k1 hy0 k2 hown k3
      · have := I.lt b x hb0; omega
    · exact I.apart b c x z y u hne hb0 hc0 hy0 hu0 hown hlive
  · -- kept
    refine Kept.trans I.kept hto.kept I.lt0 ?_
    intro b x y hb hy hown hc
    obtain ⟨b', x', y', k1, k2, k3, k4, k5⟩ := I.lin b x y hb (g1 b x y hb hy (AO.live_of_own hown)) (AO.live_of_own hown) hc
    exact ⟨b', x', y', k1, k2, k4 hown, k5⟩
  · -- lin
    intro b x y hb hy hl hc
    rcases vis b x y hb hy hl with hvb | ⟨_, hb0, hy0, _⟩
    · obtain ⟨b', x', y', k1, k2, k3, k4, k5, _⟩ := hlin b x y hb hvb hl (Nat.lt_of_lt_of_le hc I.kept.size)
      obtain ⟨b0, x0, y0, q1, q2, q3, q4, q5⟩ := I.lin b' x' y' k1 k2 k3 (by omega)
      exact ⟨b0, x0, y0, q1, q2, q3, fun z => q4 (k4 z), q5.trans k5⟩
    · exact I.lin b x y hb0 hy0 hl hc

end
end Go.Ai
end

section
namespace Go.Ai
open Go

section
variable {P : Program} {T : Types} {F : Funcs} {K : Nat → Caller} {all : List Oper} {frs : List (List Nat)} {ms : List Nat} {R : Run} {n : Nat}
variable {β0 β : Bm} {w0 w : World} {ds : List Deferred} {S : Nat → Prop} {e : Env} {a : Act}

theorem xop_nodefer {K : Caller} {e : Env} {h : Heap} {o : Oper} {x : Res × Heap × FP} (h1 : xop T K e h o = some x) : isDefer o.op = none := by
  unfold xop at h1
  cases ho : o.op <;> try rfl
  rw [ho] at h1
  simp [isCall, isPanic, aop_eq, aopM] at h1

theorem agree_of {o : Oper} {e' : Env} (h : ∀ t, t ∈ usesOf all o → e.get t = e'.get t) : agree e e' o.op.operands.toList :=
  fun t ht => h t (uses_operands ht)

theorem xop_agree {K : Caller} {e' : Env} {h : Heap} {o : Oper} (ha : agree e e' o.op.operands.toList) : xop T K e h o = xop T K e' h o := by
  unfold xop
  split
  · rename_i c hc
    obtain ⟨hop, _⟩ := isCall_some hc
    rw [acallee_agree (by rw [hop] at ha; simpa [Op.operands] using ha)]
  · split
    · rename_i x hx
      have hop := isPanic_some hx
      rw [ev_agree ha (x := x) (by rw [hop]; simp [Op.operands])]
    · rw [aop_agree ha]

/-- At the begin none has run. -/
theorem Inv.start (hR : R.Ok T K all frs n) (hKe : ∀ i, KExt (K i)) (r : Rel T.G β (R.H 0) w) (he : ER β (R.E 0) a.tmps) (hf : β.free (R.H 0).nx (R.H n).nx) :
    Inv T all ms R n β w a.defers (fun _ => False) (R.E 0) a w β := by
  have hh : ∀ b, hv R (fun _ => False) n b = (R.H 0).get b := fun b => hv_after (i := 0) n (Nat.zero_le _) (fun _ _ _ h => h.elim)
  have ht : ∀ t, tv all R (fun _ => False) n t = (R.E 0).get t := fun t => tv_after (i := 0) n (Nat.zero_le _) (fun _ _ _ h => h.elim)
  refine ⟨fun _ h => h.elim, fun _ h => h.elim, rfl, fun t => (ht t).symm, he, rfl, Bm.le_refl _, fun _ _ => rfl, ?_, fun _ h => h.elim, ?_, r.lt, ?_, r.glob, Kept.refl _ _ _, ?_, r.lt⟩
  · intro i hi _ b hb
    obtain ⟨p, q⟩ := hb
    have h1 := hR.mono hKe 0 i (by omega) (by omega)
    have h2 := hR.mono hKe (i + 1) n (by omega) (by omega)
    exact hf b (by omega) (by omega)
  · intro b i o hb ho; rw [hh] at ho; exact r.obj b i o hb ho
  · intro b b' i i' o o' hne h1 h2 h3 h4; rw [hh] at h3 h4; exact r.apart b b' i i' o o' hne h1 h2 h3 h4
  · intro b i o hb ho hl _; rw [hh] at ho; exact ⟨b, i, o, hb, ho, hl, id, rfl⟩

theorem Run.Ok.hext (hR : R.Ok T K all frs n) (hKe : ∀ i, KExt (K i)) : HExt (R.H 0) (R.H n) := by
  have : ∀ i, i ≤ n → HExt (R.H 0) (R.H i) := by
    intro i
    induction i with
    | zero => intro _; exact HExt.refl _
    | succ i ih => intro hi; exact (ih (by omega)).trans (hR.ext hKe i (by omega))
  exact this n (Nat.le_refl _)

/-- Where what lies in the known blocks is a memory's, it is related to that memory. -/
theorem Inv.to (I : Inv T all ms R n β0 w0 ds S e a w β) {h : Heap} (hx : HExt (R.H 0) h) (hn : (R.H n).nx ≤ h.nx) (hv' : ∀ b i, β b = some i → hv R S n b = h.get b) : To T.G β0 (R.H 0) w0 β h w := by
  refine ⟨⟨I.le, fun b hb => I.out b (by omega)⟩, hx, ⟨?_, I.lt, ?_, I.glob⟩, I.kept, ?_⟩
  · intro b i o hb ho; exact I.obj b i o hb (by rw [hv' b i hb]; exact ho)
  · intro b b' i i' o o' hne h1 h2 h3 h4
    exact I.apart b b' i i' o o' hne h1 h2 (by rw [hv' b i h1]; exact h3) (by rw [hv' b' i' h2]; exact h4)
  · intro b i o hb ho hl hc; exact I.lin b i o hb (by rw [hv' b i hb]; exact ho) hl hc

/-- All have run. -/
theorem Inv.fin (hR : R.Ok T K all frs n) (hKe : ∀ i, KExt (K i)) (I : Inv T all ms R n β0 w0 ds S e a w β) (hall : ∀ i, i < n → S i) : To T.G β0 (R.H 0) w0 β (R.H n) w ∧ ER β (R.E n) a.tmps := by
  refine ⟨I.to (hR.hext hKe) (Nat.le_refl _) (fun b _ _ => hv_at hR hKe (Nat.le_refl _) (fun j hj _ => hall j hj) (fun j h1 h2 => by omega)), ?_⟩
  have : ∀ t, e.get t = (R.E n).get t := fun t => (I.eget t).trans (tv_at hR (Nat.le_refl _) (fun j hj _ => hall j hj) (fun j h1 h2 => by omega))
  refine ⟨by rw [I.er.1, I.en, hR.en n (Nat.le_refl _)], fun t => ?_⟩
  rw [← this]; exact I.er.2 t

theorem forget_n : ∀ (l : List Oper) (e : Env), (forget e l).n = e.n
  | [], _ => rfl
  | o :: l, e => by
    simp only [forget]
    split
    · rw [forget_n l]
    · rw [forget_n l]
theorem forget_get : ∀ (l : List Oper) (e : Env) (t : Nat), (forget e l).get t = .undef ∨ ((forget e l).get t = e.get t ∧ ∀ o ∈ l, o.dst ≠ some t)
  | [], _, _ => .inr ⟨rfl, by simp⟩
  | o :: l, e, t => by
    simp only [forget]
    split
    · rename_i d hd
      rcases forget_get l { e with t := e.t.set d .undef } t with h | ⟨h1, h2⟩
      · exact .inl h
      · by_cases ht : t = d
        · left; rw [h1]; simp [Env.get, Tr.get_set, ht]
        · right
          refine ⟨?_, ?_⟩
          · rw [h1]; simp [Env.get, Tr.get_set, ht]
          · intro o' ho'
            rcases List.mem_cons.1 ho' with rfl | ho'
            · rw [hd]; intro x; injection x with x; exact ht x.symm
            · exact h2 o' ho'
    · rename_i hd
      rcases forget_get l e t with h | ⟨h1, h2⟩
      · exact .inl h
      · right
        refine ⟨h1, fun o' ho' => ?_⟩
        rcases List.mem_cons.1 ho' with rfl | ho'
        · rw [hd]; simp
        · exact h2 o' ho'

theorem Inv.forget (I : Inv T all ms R n β0 w0 ds S e a w β) : ER β (forget (R.E 0) all) a.tmps := by
  refine ⟨by rw [forget_n, I.er.1, I.en], fun t => ?_⟩
  rcases forget_get all (R.E 0) t with h | ⟨h1, h2⟩
  · rw [h]; trivial
  · rw [h1]
    have : e.get t = (R.E 0).get t := (I.eget t).trans (tv_after (i := 0) n (Nat.zero_le _) (fun j _ _ _ hd => by
      obtain ⟨o, ho, hd⟩ := hd
      exact h2 o (List.mem_of_getElem? ho) hd))
    rw [← this]; exact I.er.2 t

/-- One operation more: its memory, wherever it comes. -/
theorem Inv.run (hT : TOk P T F) (hR : R.Ok T K all frs n) (hKe : ∀ i, KExt (K i)) (hS : Stat all ms frs) (I : Inv T all ms R n β0 w0 ds S e a w β) {i : Nat} {o : Oper} (ho : all[i]? = some o) (hi : i < n) (hni : ¬ S i) (hcl : ∀ j, bf ms j i → S j)
    (hran : R.ran i = true) (hx : xop T (K i) (R.E i) (R.H i) o = some (.ret (R.V i), R.H (i + 1), R.f i)) :
    ∃ hA hA', Rel T.G β hA w ∧ xop T (K i) e hA o = some (.ret (R.V i), hA', R.f i) ∧ hA.nx = (R.H i).nx ∧ hA'.nx = (R.H (i + 1)).nx ∧
      (∀ b x y, β b = some x → hA.get b = some y → y.live = true → hv R S n b = some y) ∧
      (∀ b, Wr R i b ∨ Nw R i b → hA'.get b = (R.H (i + 1)).get b) ∧ (∀ b, b < (R.H i).nx → ¬ Wr R i b → hA'.get b = hA.get b) ∧
      (∀ b, (b ∈ (R.f i).rd ∨ b ∈ (R.f i).wr) → ∃ j, β b = some j) := by
  have hag : agree e (R.E i) o.op.operands.toList := agree_of (all := all) fun t ht => slot_at hR hS I ho hi hni hcl ht
  by_cases hall : (R.f i).all = true
  · have hsee : ∀ b x, β b = some x → b < (R.H i).nx → hv R S n b = (R.H i).get b := fun b x hb hl => seen_at hR hKe hS I hi hni hcl hb hl (.inl hall)
    refine ⟨R.H i, R.H (i + 1), ⟨?_, I.lt, ?_, I.glob⟩, by rw [xop_agree hag]; exact hx, rfl, rfl, ?_, fun _ _ => rfl, fun b hb hw => (hR.facts hKe i hi).2.1 b hw hb, ?_⟩
    · intro b x y hb hy; exact I.obj b x y hb (by rw [hsee b x hb (Heap.get_lt hy)]; exact hy)
    · intro b b' x x' y y' hne h1 h2 h3 h4
      exact I.apart b b' x x' y y' hne h1 h2 (by rw [hsee b x h1 (Heap.get_lt h3)]; exact h3) (by rw [hsee b' x' h2 (Heap.get_lt h4)]; exact h4)
    · intro b x y hb hy _; rw [hsee b x hb (Heap.get_lt hy)]; exact hy
    · intro b hb
      exfalso
      unfold xop at hx
      split at hx
      · split at hx
        · split at hx
          · injection hx with hx; injection hx with _ hx; injection hx with _ hx
            rw [← hx] at hb; simp at hb
          · cases hx
        · cases hx
      · split at hx
        · split at hx
          · injection hx with hx; cases hx
          · cases hx
        · split at hx
          · injection hx with hx; injection hx with _ hx; injection hx with _ hx
            rw [← hx] at hall; cases hall
          · cases hx
  · -- no call
    obtain ⟨hA, hnx, _, hget⟩ := heap_of (fun b => open Classical in if hv R S n b = (R.H i).get b then (R.H i).get b else some .dead) 0 (R.H i).nx
    have hkey : ∃ out, isCall o.op = none ∧ isPanic o.op = none ∧ aop T (R.H i).get (R.H i).nx (R.E i) o.op = some out ∧ out.v = R.V i ∧ (R.H i).apply out = R.H (i + 1) ∧ R.f i = ⟨false, out.rd, false, out.up.map (·.1), !out.nw.isEmpty⟩ := by
      unfold xop at hx
      split at hx
      · split at hx
        · split at hx
          · injection hx with hx; injection hx with _ hx; injection hx with _ hx
            rw [← hx] at hall; simp at hall
          · cases hx
        · cases hx
      · rename_i hc
        split at hx
        · split at hx
          · injection hx with hx; cases hx
          · cases hx
        · rename_i hp
          split at hx
          · rename_i out hout
            injection hx with hx; injection hx with h1 hx; injection hx with h2 h3
            injection h1 with h1
            exact ⟨out, hc, hp, hout, h1, h2, h3.symm⟩
          · cases hx
    obtain ⟨out, hc, hp, hout, hv1, hap, hfp⟩ := hkey
    have hrel : Rel T.G β hA w := by
      have hg : ∀ b y, hA.get b = some y → y = .dead ∨ hv R S n b = some y := by
        intro b y hy
        rw [hget] at hy
        split at hy
        · skip
          split at hy
          · rename_i h; exact .inr (h.trans hy)
          · injection hy with hy; exact .inl hy.symm
        · cases hy
      refine ⟨?_, I.lt, ?_, I.glob⟩
      · intro b x y hb hy
        rcases hg b y hy with rfl | h
        · trivial
        · exact I.obj b x y hb h
      · intro b b' x x' y y' hne h1 h2 h3 h4 h5 h6
        rcases hg b y h3 with rfl | h3'
        · cases h5
        · rcases hg b' y' h4 with rfl | h4'
          · cases h6
          · exact I.apart b b' x x' y y' hne h1 h2 h3' h4' h5 h6
    have hout' : aop T (R.H i).get (R.H i).nx e o.op = some out := by rw [aop_agree hag]; exact hout
    have hfine := aop_fine (β := β) hout' (fun x v hv => Refd.of (ev_ok hrel rfl I.er hv))
    have hrd : ∀ b, out.sees b → b ∈ (R.f i).rd ∨ b ∈ (R.f i).wr := by
      intro b hb
      rw [hfp]; exact hb
    have hseen : ∀ b, out.sees b → hA.get b = (R.H i).get b := by
      intro b hb
      obtain ⟨⟨x, hx⟩, y, hy⟩ := hfine.2 b hb
      have hl := Heap.get_lt hy
      rw [hget, if_pos hl]
      rw [if_pos (seen_at hR hKe hS I hi hni hcl hx hl (.inr (hrd b hb)))]
    have hloc := aop_local hout' hseen
    have hlt : ∀ p ∈ out.up, p.1 < (R.H i).nx := aop_lt hout
    refine ⟨hA, hA.apply out, hrel, ?_, hnx, ?_, ?_, ?_, ?_, ?_⟩
    · unfold xop
      rw [hc, hp, hnx, hloc, ← hv1, hfp]
    · rw [← hap, apply_nx, apply_nx, hnx]
    · intro b x y hb hy hl
      rw [hget] at hy
      split at hy
      · skip
        split at hy
        · rename_i h; exact h.trans hy
        · injection hy with hy; subst hy; cases hl
      · cases hy
    · intro b hb
      rw [← hap]
      refine apply_same hnx (fun p hp => by rw [hnx]; exact hlt p hp) ?_
      rcases hb with hb | ⟨hb, _⟩
      · rcases hb with ⟨hb, _⟩ | hb
        · rw [hfp] at hb; cases hb
        · rw [hfp] at hb; exact .inl hb
      · right; omega
    · intro b hb hw
      refine apply_other (fun p hp => by rw [hnx]; exact hlt p hp) (by omega) ?_
      intro h
      exact hw (.inr (by rw [hfp]; exact h))
    · intro b hb
      exact (hfine.2 b (by rw [hfp] at hb; exact hb)).1

/-- How many of the first m are not listed. -/
def left (listed : Array Bool) : Nat → Nat
  | 0 => 0
  | m + 1 => left listed m + if listed.getD m true = true then 0 else 1

theorem left_set {listed : Array Bool} {i : Nat} (hf : listed.getD i true = false) : ∀ m, left (listed.setIfInBounds i true) m + (if i < m then 1 else 0) = left listed m
  | 0 => by simp [left]
  | m + 1 => by
    have ih := left_set hf m
    simp only [left]
    have hlt : i < listed.size := by
      rcases Nat.lt_or_ge i listed.size with h | h
      · exact h
      · simp [Array.getElem?_eq_none h] at hf
    by_cases him : i = m
    · subst him
      have : (listed.setIfInBounds i true).getD i true = true := by simp [hlt]
      rw [this, hf]
      simp at ih ⊢
      omega
    · rw [getD_set_ne true him]
      have : (i < m + 1) ↔ (i < m) := by omega
      simp only [this]
      omega

theorem left_zero {listed : Array Bool} : ∀ m, left listed m = 0 → ∀ i, i < m → listed.getD i true = true
  | 0, _, i, hi => by omega
  | m + 1, h, i, hi => by
    simp only [left] at h
    by_cases him : i = m
    · subst him
      by_cases hc : listed.getD i true = true
      · exact hc
      · rw [if_neg hc] at h; omega
    · exact left_zero m (by omega) i (by omega)

end
end Go.Ai
end

section
namespace Go.Ai
open Go

section
variable {P : Program} {T : Types} {F : Funcs} {K : Nat → Caller} {ops : Array Oper} {frs : List (List Nat)} {ms : List Nat} {R : Run} {n : Nat}
variable {β0 β : Bm} {w0 w : World} {ds : List Deferred} {e : Env} {a : Act} {Q : Exit → Act → World → Prop}

def Ends (T : Types) (K : Nat → Caller) (ops : Array Oper) (ms : List Nat) (frs : List (List Nat)) (R : Run) (n : Nat) (β0 : Bm) (w0 : World) (ds : List Deferred) (Q : Exit → Act → World → Prop) : Prop :=
  (n = ops.size ∧ ∀ a w β, To T.G β0 (R.H 0) w0 β (R.H n) w → ER β (R.E n) a.tmps → a.defers = ds → Q .normal a w) ∨
  (n < ops.size ∧ ∃ o v h' f, ops[n]? = some o ∧ wantedA ops.toList (R.E n) o = some true ∧ xop T (K n) (R.E n) (R.H n) o = some (.pan v, h', f) ∧
    (∀ fr, frs[n]? = some fr → ∀ j ∈ fr, j < n → (R.f j).clash f = false) ∧ (∀ i, n < i → i < ops.size → bf ms n i) ∧ β0.free (R.H 0).nx h'.nx ∧
    ∀ a w β, To T.G β0 (R.H 0) w0 β h' w → ER β (forget (R.E 0) ops.toList) a.tmps → a.defers = ds → ∀ u, VR β v u → Q (.panic [{ v := u, recovered := false }]) a w)

theorem xop_pan_all {K : Caller} {e : Env} {h h' : Heap} {o : Oper} {v : AV} {f : FP} (h1 : xop T K e h o = some (.pan v, h', f)) : f.all = true := by
  unfold xop at h1
  split at h1
  · split at h1
    · split at h1
      · injection h1 with h1; injection h1 with _ h1; injection h1 with _ h1; rw [← h1]
      · cases h1
    · cases h1
  · split at h1
    · split at h1
      · injection h1 with h1; injection h1 with _ h1; injection h1 with _ h1; rw [← h1]
      · cases h1
    · split at h1
      · injection h1 with h1; cases h1
      · cases h1

theorem xop_call_all {K : Caller} {e : Env} {h h' : Heap} {o : Oper} {r : Res} {f : FP} {c : Call} (hc : isCall o.op = some c) (h1 : xop T K e h o = some (r, h', f)) : f.all = true := by
  unfold xop at h1
  rw [hc] at h1
  dsimp only at h1
  split at h1
  · split at h1
    · injection h1 with h1; injection h1 with _ h1; injection h1 with _ h1; rw [← h1]
    · cases h1
  · cases h1

/-- Before a call nothing is known that comes later. -/
theorem fresh_at (hKe : ∀ i, KExt (K i)) (hS : Stat ops.toList ms frs) (hR : R.Ok T K ops.toList frs n) {S : Nat → Prop} (I : Inv T ops.toList ms R n β0 w0 ds S e a w β) (hal : (∀ b, (R.H 0).nx ≤ b → β0 b = none) ∧ ∀ i j, i < j → j < n → ¬ bf ms i j → (R.f i).all = true → (R.f j).al = false)
    {i : Nat} (hi : i < n) (hni : ¬ S i) (hall : (R.f i).all = true) : ∀ b, (R.H i).nx ≤ b → β b = none := by
  intro b hb
  by_cases hbn : (R.H n).nx ≤ b
  · rw [I.out b (.inr hbn)]
    exact hal.1 b (Nat.le_trans ((hR.mono hKe 0 i (by omega) (by omega))) hb)
  · -- some operation laid it
    have key : ∀ m, i ≤ m → m ≤ n → b < (R.H m).nx → ∃ j, i ≤ j ∧ j < m ∧ Nw R j b := by
      intro m
      induction m with
      | zero => intro h1 _ h3; have : i = 0 := by omega
                subst this; omega
      | succ m ih =>
        intro h1 h2 h3
        by_cases hm : i = m + 1
        · subst hm; omega
        · by_cases hlt : b < (R.H m).nx
          · obtain ⟨j, a1, a2, a3⟩ := ih (by omega) (by omega) hlt
            exact ⟨j, a1, by omega, a3⟩
          · exact ⟨m, by omega, by omega, by omega, h3⟩
    obtain ⟨j, h1, h2, h3⟩ := key n (by omega) (Nat.le_refl _) (by omega)
    by_cases hSj : S j
    · have hij : i < j := by
        rcases Nat.lt_or_eq_of_le h1 with h | h
        · exact h
        · subst h; exact absurd hSj hni
      by_cases hbf : bf ms i j
      · exact absurd (I.closed j hSj i hbf) hni
      · have := hal.2 i j hij h2 hbf hall
        have h4 := (hR.facts hKe j h2).2.2 b h3
        rw [this] at h4; cases h4
    · exact I.dom j h2 hSj b h3

theorem all_listed {listed : Array Bool} (hsz : listed.size = ops.size) (hS : Stat ops.toList ms frs) (hr : Region.ready .any ops listed = []) : ∀ i, i < ops.size → listed.getD i false = true := by
  intro i
  induction i using Nat.strongRecOn with
  | ind i ih =>
    intro hi
    cases hc : listed.getD i true with
    | true =>
      have hl : i < listed.size := by omega
      rw [Array.getD_eq_getD_getElem?] at hc ⊢
      rw [Array.getElem?_eq_getElem hl] at hc ⊢
      exact hc
    | false =>
      exfalso
      have : i ∈ Region.ready .any ops listed := by
        rw [mem_ready]
        refine ⟨hc, ops[i], by simp [hi], fun x hx hb => ?_⟩
        have := hS.lt i ops[i] (by simp [hi]) x (by simpa using hx) (by rw [← binds_eq]; exact hb)
        exact ih x.on this.1 (by omega)
      rw [hr] at this; cases this

theorem any_end {listed : Array Bool} (hT : TOk P T F) {fb : Bool} (hK : ∀ i, KSoundB fb P T (K i)) (hR : R.Ok T K ops.toList frs n) (hE : Ends T K ops ms frs R n β0 w0 ds Q)
    (I : Inv T ops.toList ms R n β0 w0 ds (fun i => listed.getD i false = true) e a w β) (hall : ∀ i, i < ops.size → listed.getD i false = true) : Q .normal a w := by
  rcases hE with ⟨rfl, post⟩ | ⟨hn, _⟩
  · obtain ⟨h1, h2⟩ := I.fin hR (fun i => (hK i).ext) (fun i hi => hall i hi)
    exact post a w β h1 h2 I.dfs
  · have := I.sub n (hall n hn); omega

theorem dead_rel (hlt : ∀ b i, β b = some i → i.c < w.heap.size) (hg : ∀ g, g < T.G → ∃ i, β g = some i ∧ i.c = g ∧ i.base = 0) (nx : Nat) : ∃ h : Heap, h.nx = nx ∧ Rel T.G β h w ∧ ∀ b y, h.get b = some y → y.live = false := by
  obtain ⟨h, h1, _, h2⟩ := heap_of (fun _ => some AO.dead) 0 nx
  have hd : ∀ b y, h.get b = some y → y = .dead := by
    intro b y hy
    rw [h2] at hy
    split at hy
    · injection hy with hy; exact hy.symm
    · cases hy
  refine ⟨h, h1, ⟨?_, hlt, ?_, hg⟩, fun b y hy => by rw [hd b y hy]; rfl⟩
  · intro b i o _ ho; rw [hd b o ho]; trivial
  · intro b b' i i' o o' _ _ _ h3 _ h5; rw [hd b o h3] at h5; cases h5

theorem any_ok (hT : TOk P T F) {fb : Bool} (hK : ∀ i, KSoundB fb P T (K i)) (hal : fb = true → (∀ b, (R.H 0).nx ≤ b → β0 b = none) ∧ ∀ i j, i < j → j < n → ¬ bf ms i j → (R.f i).all = true → (R.f j).al = false) (hS : Stat ops.toList ms frs) (hR : R.Ok T K ops.toList frs n) (hE : Ends T K ops ms frs R n β0 w0 ds Q) (r0 : Rel T.G β0 (R.H 0) w0) {rnd : Option Nat} {nn : Nat} :
    ∀ (fuel : Nat) (listed : Array Bool) (e : Env) (a : Act) (w : World) (β : Bm), Inv T ops.toList ms R n β0 w0 ds (fun i => listed.getD i false = true) e a w β → listed.size = ops.size → left listed ops.size ≤ fuel →
      wpAnyIn (Fw rnd) nn P .any ops Q fuel listed a w
  | 0, listed, e, a, w, β, I, hsz, hl => by
    have hall : ∀ i, i < ops.size → listed.getD i false = true := by
      intro i hi
      have hc := left_zero (listed := listed) ops.size (by omega) i hi
      have hl : i < listed.size := by omega
      rw [Array.getD_eq_getD_getElem?, Array.getElem?_eq_getElem hl] at hc ⊢
      exact hc
    refine ⟨?_, any_end hT hK hR hE I hall⟩
    refine List.eq_nil_iff_forall_not_mem.2 fun i hi => ?_
    obtain ⟨h0, o, ho, _⟩ := mem_ready.1 hi
    have hio : i < ops.size := (Array.getElem?_eq_some_iff.1 ho).1
    have := left_zero (listed := listed) ops.size (by omega) i hio
    rw [this] at h0; cases h0
  | fuel + 1, listed, e, a, w, β, I, hsz, hl => by
    refine ⟨fun hr => any_end hT hK hR hE I (all_listed hsz hS hr), fun i hi => ?_⟩
    obtain ⟨h0, o, ho, hed⟩ := mem_ready.1 hi
    have hio : i < ops.size := (Array.getElem?_eq_some_iff.1 ho).1
    have hol : ops.toList[i]? = some o := by rw [Array.getElem?_toList]; exact ho
    have hni : ¬ listed.getD i false = true := by
      have hl : i < listed.size := by omega
      rw [Array.getD_eq_getD_getElem?, Array.getElem?_eq_getElem hl] at h0 ⊢
      simp only [Option.getD_some] at h0 ⊢
      rw [h0]; simp
    have hcl : ∀ j, bf ms j i → listed.getD j false = true := by
      intro j hj
      obtain ⟨x, hx, hb, hr⟩ := hS.src i o hol j hj
      have hxs := hed x (by simpa using hx) (by rw [binds_eq]; exact hb)
      rcases hr with rfl | hr
      · exact hxs
      · exact I.closed x.on hxs j hr
    unfold wpOpIn
    rw [ho]
    dsimp only
    by_cases hin : i < n
    · -- one operation more
      obtain ⟨o', ho', hw, hp, hx1, hx2⟩ := hR.op i hin
      rw [hol] at ho'; injection ho' with ho'; subst ho'
      have hw' : wantedA ops.toList e o = some (R.ran i) := by
        rw [wanted_agree (fun t ht => slot_at hR hS I hol hin hni hcl ht)]; exact hw
      rw [wanted_ok I.er hw']
      obtain ⟨e', hp'⟩ := put_some (e := e) (e1 := R.E i) hp (by rw [I.en, hR.en i (by omega)]) (R.V i)
      have hS' : (fun j => (listed.setIfInBounds i true).getD j false = true) = fun j => listed.getD j false = true ∨ j = i := by
        funext j
        apply propext
        by_cases hji : i = j
        · subst hji
          have hl : i < listed.size := by omega
          simp [hl]
        · rw [getD_set_ne false hji]
          constructor
          · exact .inl
          · rintro (h | h)
            · exact h
            · exact absurd h.symm hji
      have hleft : left (listed.setIfInBounds i true) ops.size ≤ fuel := by
        have := left_set h0 ops.size
        rw [if_pos hio] at this; omega
      cases hr : R.ran i with
      | false =>
        simp only [Bool.false_eq_true, if_false]
        obtain ⟨hv, hh, hfp⟩ := hx2 hr
        refine ⟨fun f _ => Fw_fn _ f, ?_⟩
        obtain ⟨hA, hnx, hrel, hdead⟩ := dead_rel (T := T) (β := β) (w := w) I.lt I.glob (R.H i).nx
        refine any_ok hT hK hal hS hR hE r0 fuel _ e' _ w β ?_ (by simpa using hsz) hleft
        rw [hS']
        refine I.step hR (fun i => (hK i).ext) hS hol hin hni hcl (To.refl hrel) hnx (by rw [hh]; exact hnx) ?_ ?_ (fun _ _ _ => rfl) ?_ hp' ?_ (by rw [put_defers]; exact I.dfs)
        · intro b x y _ hy hl; rw [hdead b y hy] at hl; cases hl
        · intro b hb
          exfalso
          rcases hb with (⟨hb, _⟩ | hb) | ⟨p, q⟩
          · rw [hfp] at hb; cases hb
          · rw [hfp] at hb; cases hb
          · rw [hh] at q; omega
        · intro b hb; rw [hfp] at hb; rcases hb with hb | hb <;> cases hb
        · exact put_ok I.er (by rw [hv]; exact undef_ok) hp'
      | true =>
        simp only [if_true]
        obtain ⟨hA, hA', hrel, hx, hnx, hnx', g1, g2, g3, g4⟩ := I.run hT hR (fun i => (hK i).ext) hS hol hin hni hcl hr (hx1 hr)
        refine xop_ok hT (hK i) hrel I.er hx ?_ (fun c hc hfb => by rw [hnx]; exact fresh_at (fun i => (hK i).ext) hS hR I (hal hfb) hin hni (xop_call_all hc hx)) (xop_nodefer hx) ?_ (fun v hv => by cases hv)
        · intro b b1 b2
          exact I.dom i hin hni b ⟨by omega, by omega⟩
        · intro v hv u w' β' hvu hto
          injection hv with hv; subst hv
          refine any_ok hT hK hal hS hR hE r0 fuel _ e' _ w' β' ?_ (by simpa using hsz) hleft
          rw [hS']
          exact I.step hR (fun i => (hK i).ext) hS hol hin hni hcl hto hnx hnx' g1 g2 g3 g4 hp' (put_ok (I.er.mono hto.grow.1) hvu hp') (by rw [put_defers]; exact I.dfs)
    · rcases hE with ⟨hE, _⟩ | ⟨hn, o', v, h', f, ho', hw, hx, hcla, hlater, hfree, post⟩
      · omega
      · by_cases hni' : n < i
        · have := I.sub n (hcl n (hlater i hni' hio)); omega
        · obtain rfl : i = n := by omega
          rw [ho] at ho'; injection ho' with ho'; subst ho'
          obtain ⟨fr, hfr, hfree'⟩ := hS.free i o hol
          have hall := xop_pan_all hx
          have hslot : ∀ t, t ∈ usesOf ops.toList o → e.get t = (R.E i).get t := by
            intro t ht
            rw [I.eget]
            refine tv_at hR (Nat.le_refl _) ?_ (fun j h1 h2 => by omega)
            rintro j hj ⟨oj, hoj, hd⟩
            by_cases hbf : bf ms j i
            · exact hcl j hbf
            · exact absurd ht ((apart_iff (hfree' j oj hj hoj hbf).2).1 t hd)
          have hmem : ∀ b x, β b = some x → hv R (fun j => listed.getD j false = true) i b = (R.H i).get b := by
            intro b x hb
            refine hv_at hR (fun i => (hK i).ext) (Nat.le_refl _) ?_ (fun j h1 h2 => by omega)
            intro j hj hwr
            apply Classical.byContradiction
            intro hsj
            have hbf : ¬ bf ms j i := fun h => hsj (hcl j h)
            obtain ⟨oj, hoj, _⟩ := hR.op j hj
            have hc := hcla fr hfr j (hfree' j oj hj hoj hbf).1 hj
            obtain ⟨c1, _, _, c4, _⟩ := clash_iff hc
            rcases hwr with (⟨hwr, _⟩ | hwr) | hwr
            · have := (any_iff (c1 hwr)).1; rw [hall] at this; cases this
            · rw [c4 hall] at hwr; cases hwr
            · have := I.dom j hj hsj b hwr; rw [hb] at this; cases this
          have hto := I.to (hR.hext (fun i => (hK i).ext)) (Nat.le_refl _) hmem
          have hw' : wantedA ops.toList e o = some true := by rw [wanted_agree hslot]; exact hw
          rw [wanted_ok I.er hw']
          simp only [if_true]
          have hxe : xop T (K i) e (R.H i) o = some (.pan v, h', f) := by rw [xop_agree (agree_of (all := ops.toList) hslot)]; exact hx
          have hh0 := (hR.hext (fun i => (hK i).ext)).1
          refine xop_ok hT (hK _) hto.rel I.er hxe ?_ (fun c hc hfb b hb => by rw [I.out b (.inr hb)]; exact (hal hfb).1 b (Nat.le_trans hh0 hb)) (xop_nodefer hxe) (fun v hv => by cases hv) ?_
          · intro b b1 b2
            rw [I.out b (.inr b1)]
            exact hfree b (by omega) b2
          · intro v' hv' u w' β' hvu hto'
            injection hv' with hv'; subst hv'
            refine post a w' β' (To.trans hto hto' r0) (I.forget.mono hto'.grow.1) I.dfs u hvu

/-- A region that draws its order. -/
theorem region_run {h h' : Heap} (hT : TOk P T F) {fb : Bool} (hK : ∀ i, KSoundB fb P T (K i)) (hal : fb = true → (∀ b, h.nx ≤ b → β b = none) ∧ ∀ i j, i < j → j < n → ¬ bf ms i j → (R.f i).all = true → (R.f j).al = false) {p : Option AV} {e' : Env} (hfr : frees ops.toList = some (ms, frs)) (hR : R.Ok T K ops.toList frs n) (hE0 : R.E 0 = e) (hH0 : R.H 0 = h) (hend : RunEnd T K ops.toList frs ms e R n e' h' p)
    (he : ER β e a.tmps) (r : Rel T.G β h w) (hf : β.free h.nx h'.nx) {rnd : Option Nat} {nn id : Nat}
    (post : ∀ a' w' β', To T.G β h w β' h' w' → ER β' e' a'.tmps → a'.defers = a.defers → match p with
      | none => Q .normal a' w'
      | some v => ∀ u, VR β' v u → Q (.panic [{ v := u, recovered := false }]) a' w') : (Code.region id ops true).wpIn (Fw rnd) nn P Q a w := by
  have hS := frees_ok hfr
  have hto0 := To.draw r (w.drawn + 1)
  have r1 : Rel T.G β (R.H 0) (dr w (w.drawn + 1)) := by rw [hH0]; exact hto0.rel
  have hmn : (R.H n).nx ≤ h'.nx := by
    cases p with
    | none => obtain ⟨_, _, rfl⟩ := hend; exact Nat.le_refl _
    | some v => obtain ⟨o, f, _, _, hx, _⟩ := hend; exact (xop_ext (hK n).ext hx).1
  refine wpIn_region_any hT.mixed ?_
  refine any_ok (R := R) (n := n) (β0 := β) (w0 := dr w (w.drawn + 1)) (ds := a.defers) (ms := ms) (frs := frs) hT hK (by rw [hH0]; exact hal) hS hR ?_ r1 ops.size _ (R.E 0) a (dr w (w.drawn + 1)) β ?_ (by simp) ?_
  · cases p with
    | none =>
      obtain ⟨hn, rfl, rfl⟩ := hend
      refine .inl ⟨by simpa using hn, fun a' w' β' hto he' hd' => ?_⟩
      rw [hH0] at hto
      exact post a' w' β' (To.trans hto0 hto r) he' hd'
    | some v =>
      obtain ⟨o, f, ho, hw, hx, rfl, hc, hl⟩ := hend
      have hno : n < ops.size := by
        have := (List.getElem?_eq_some_iff.1 ho).1
        simpa using this
      refine .inr ⟨hno, o, v, h', f, by rw [← Array.getElem?_toList]; exact ho, hw, hx, hc, ?_, by rw [hH0]; exact hf, fun a' w' β' hto he' hd' u hu => ?_⟩
      · intro i hi his
        rw [List.all_eq_true] at hl
        have hlen := hS.len
        have : ms.getD i 0 ∈ ms.drop (n + 1) := by
          have hil : i < ms.length := by rw [hlen]; simpa using his
          refine List.mem_of_getElem? (i := i - (n + 1)) ?_
          rw [List.getElem?_drop, show n + 1 + (i - (n + 1)) = i by omega, List.getElem?_eq_getElem hil, List.getD_eq_getElem?_getD, List.getElem?_eq_getElem hil]
          rfl
        exact hl _ this
      · rw [hH0] at hto; rw [hE0] at he'
        exact post a' w' β' (To.trans hto0 hto r) he' hd' u hu
  · have := Inv.start (ms := ms) hR (fun i => (hK i).ext) r1 (by rw [hE0]; exact he) (by rw [hH0]; exact fun b b1 b2 => hf b b1 (by omega)) (a := a)
    have heq : (fun i => (Array.replicate ops.size false).getD i false = true) = fun _ => False := by
      funext i
      simp only [eq_iff_iff, iff_false, Array.getD_eq_getD_getElem?, Array.getElem?_replicate]
      split <;> simp
    rw [heq]; exact this
  · have : ∀ m, left (Array.replicate ops.size false) m ≤ m := by
      intro m
      induction m with
      | zero => simp [left]
      | succ m ih => simp only [left]; split <;> omega
    exact this _

/-- The same, of one interpreter of calls. -/
theorem region_ok {K : Caller} (hT : TOk P T F) (hK : KSound P T K) {h h' : Heap} {p : Option AV} {e' : Env} (hfr : frees ops.toList = some (ms, frs)) (h1 : xopsD T K ops.toList e ops.toList frs ms 0 [] e h = some (p, e', h'))
    (he : ER β e a.tmps) (r : Rel T.G β h w) (hf : β.free h.nx h'.nx) {rnd : Option Nat} {nn id : Nat}
    (post : ∀ a' w' β', To T.G β h w β' h' w' → ER β' e' a'.tmps → a'.defers = a.defers → match p with
      | none => Q .normal a' w'
      | some v => ∀ u, VR β' v u → Q (.panic [{ v := u, recovered := false }]) a' w') : (Code.region id ops true).wpIn (Fw rnd) nn P Q a w := by
  let R0 : Run := ⟨fun _ => e, fun _ => h, fun _ => .undef, fun _ => FP.nil, fun _ => false⟩
  obtain ⟨R, n, hR, _, h00, hend⟩ := xopsD_run (T := T) (K := K) (all := ops.toList) (frs0 := frs) ops.toList 0 frs [] R0 rfl rfl rfl (fun i hi => by omega) ⟨fun i hi => by omega, fun i hi => by omega⟩ (Nat.zero_le _) h1
  obtain ⟨hE0, hH0⟩ := h00 0 (Nat.le_refl _)
  exact region_run hT (fun _ => hK) (fun h => by cases h) hfr hR hE0 hH0 hend he r hf post

end
end Go.Ai
end
