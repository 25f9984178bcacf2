/- AiWJ -/
import Derived.Test.YthgkkbaaedefhaaAiWI
set_option linter.unusedVariables false
set_option linter.unusedSimpArgs false
namespace Go.Ai
open Go
noncomputable section
set_option linter.unusedVariables false
variable {P : Program} {T : Types} {F : Funcs}

mutual
/-- What speaks of blocks that 'σ' knows alone. -/
def AV.bel0 (σ : Nat → Option Nat) : AV → Prop
  | .ptr b _ => ∃ b', σ b = some b'
  | .slice b _ _ _ _ => ∃ b', σ b = some b'
  | .map b => ∃ b', σ b = some b'
  | .fn (.func _) p q => bels0 σ p ∧ bels0 σ q
  | .fn (.method _) p q => bels0 σ p ∧ bels0 σ q
  | .fn (.yield _) _ _ => False
  | .iface _ v => AV.bel0 σ v
  | .agg l => bels0 σ l
  | .tup l => bels0 σ l
  | .undef => True
  | .bool _ => True
  | .int _ _ => True
  | .nilp => True
  | .nils => True
  | .empt => True
  | .nilm => True
  | .nilf => True
  | .nili => True
def bels0 (σ : Nat → Option Nat) : List AV → Prop
  | [] => True
  | a :: l => AV.bel0 σ a ∧ bels0 σ l
end
theorem bels0_mem {σ : Nat → Option Nat} : ∀ {l : List AV}, bels0 σ l → ∀ v ∈ l, AV.bel0 σ v
  | [], _, _, h => by cases h
  | a :: l, h, v, hv => by
    rcases List.mem_cons.1 hv with rfl | hv
    · exact h.1
    · exact bels0_mem h.2 v hv
def AO.bel0 (σ : Nat → Option Nat) : AO → Prop
  | .cells _ _ vs => bels0 σ vs
  | .map es => ∀ e ∈ es, AV.bel0 σ e.1 ∧ AV.bel0 σ e.2
  | _ => False

mutual
theorem VR_back {σ : Nat → Option Nat} {β β0 : Bm} (hg : ∀ c b, σ c = some b → β0 c = β b) : ∀ (a : AV) (v : Value), VR β (gv σ a) v → a.bel0 σ → VR β0 a v
  | .undef, _, _, _ => trivial
  | .bool _, _, r, _ => by simp only [gv] at r; exact r
  | .int _ _, _, r, _ => by simp only [gv] at r; exact r
  | .nilp, _, r, _ => by simp only [gv] at r; exact r
  | .ptr b o, _, r, hb => by
    obtain ⟨b', hb'⟩ := hb
    simp only [gv, hb'] at r
    obtain ⟨i, e, r⟩ := r
    exact ⟨i, by rw [hg b b' hb']; exact e, r⟩
  | .nils, _, r, _ => by simp only [gv] at r; exact r
  | .slice b o l c x, _, r, hb => by
    obtain ⟨b', hb'⟩ := hb
    simp only [gv, hb'] at r
    obtain ⟨i, cc, e, r⟩ := r
    exact ⟨i, cc, by rw [hg b b' hb']; exact e, r⟩
  | .empt, _, r, _ => by simp only [gv] at r; exact r
  | .nilm, _, r, _ => by simp only [gv] at r; exact r
  | .map b, _, r, hb => by
    obtain ⟨b', hb'⟩ := hb
    simp only [gv, hb'] at r
    obtain ⟨i, e, r⟩ := r
    exact ⟨i, by rw [hg b b' hb']; exact e, r⟩
  | .nilf, _, r, _ => by simp only [gv] at r; exact r
  | .fn (.func f) p q, _, r, hb => by
    simp only [gv] at r
    obtain ⟨g, p', q', e, hfr, a, b⟩ := r
    exact ⟨g, p', q', e, hfr, VRs_back hg p _ a hb.1, VRs_back hg q _ b hb.2⟩
  | .fn (.method f) p q, _, r, hb => by
    simp only [gv] at r
    obtain ⟨g, p', q', e, hfr, a, b⟩ := r
    exact ⟨g, p', q', e, hfr, VRs_back hg p _ a hb.1, VRs_back hg q _ b hb.2⟩
  | .fn (.yield l) p q, _, r, hb => hb.elim
  | .nili, _, r, _ => by simp only [gv] at r; exact r
  | .iface _ x, _, r, hb => by
    simp only [gv] at r
    obtain ⟨y, e, r⟩ := r
    exact ⟨y, e, VR_back hg x y r hb⟩
  | .agg l, _, r, hb => by
    simp only [gv] at r
    obtain ⟨l', e, r⟩ := r
    exact ⟨l', e, VRs_back hg l _ r hb⟩
  | .tup l, _, r, hb => by
    simp only [gv] at r
    obtain ⟨l', e, r⟩ := r
    exact ⟨l', e, VRs_back hg l _ r hb⟩
theorem VRs_back {σ : Nat → Option Nat} {β β0 : Bm} (hg : ∀ c b, σ c = some b → β0 c = β b) : ∀ (l : List AV) (vs : List Value), VRs β (gvs σ l) vs → bels0 σ l → VRs β0 l vs
  | [], _, r, _ => by simp only [gvs] at r; exact r
  | a :: l, _, r, hb => by
    simp only [gvs] at r
    obtain ⟨v, r, e, x, y⟩ := r
    exact ⟨v, r, e, VR_back hg a v x hb.1, VRs_back hg l r y hb.2⟩
end

theorem MR_back {σ : Nat → Option Nat} {β β0 : Bm} (hg : ∀ c b, σ c = some b → β0 c = β b) : ∀ (l : List (AV × AV)) (m : List MapEntry), MR β (l.map fun e => (gv σ e.1, gv σ e.2)) m → (∀ e ∈ l, AV.bel0 σ e.1 ∧ AV.bel0 σ e.2) → MR β0 l m
  | [], _, r, _ => r
  | (k, v) :: l, _, ⟨x, l', e, a, b, c⟩, hb =>
    ⟨x, l', e, VR_back hg _ _ a (hb (k, v) List.mem_cons_self).1, VR_back hg _ _ b (hb (k, v) List.mem_cons_self).2, MR_back hg l l' c fun e he => hb e (List.mem_cons_of_mem _ he)⟩
theorem OR_back {σ : Nat → Option Nat} {β β0 : Bm} {w : World} {i : BI} (hg : ∀ c b, σ c = some b → β0 c = β b) : ∀ {o : AO}, OR β w i (go σ o) → o.bel0 σ → OR β0 w i o
  | .cells _ _ vs, ⟨a, b, arr, el, fr, c, d, h⟩, hb => ⟨a, b, arr, el, fr, c, d, fun j v hv => by
      have : (gvs σ vs)[j]? = some (gv σ v) := by rw [gvs_map, List.getElem?_map, hv]; rfl
      obtain ⟨u, hu, hr⟩ := h j _ this
      exact ⟨u, hu, VR_back hg _ _ hr (bels0_mem hb v (List.mem_of_getElem? hv))⟩⟩
  | .map _, ⟨ents, clk, a, h⟩, hb => ⟨ents, clk, a, MR_back hg _ _ h hb⟩
  | .dead, _, hb => hb.elim
  | .loop _, _, hb => hb.elim
  | .defr _, _, hb => hb.elim

mutual
theorem gv_agree {σ τ : Nat → Option Nat} (h : ∀ c b, σ c = some b → τ c = some b) : ∀ (a : AV), a.bel0 σ → gv τ a = gv σ a
  | .undef, _ => by simp only [gv]
  | .bool _, _ => by simp only [gv]
  | .int _ _, _ => by simp only [gv]
  | .nilp, _ => by simp only [gv]
  | .ptr b _, ⟨b', hb⟩ => by simp only [gv, hb, h b b' hb]
  | .nils, _ => by simp only [gv]
  | .slice b _ _ _ _, ⟨b', hb⟩ => by simp only [gv, hb, h b b' hb]
  | .empt, _ => by simp only [gv]
  | .nilm, _ => by simp only [gv]
  | .map b, ⟨b', hb⟩ => by simp only [gv, hb, h b b' hb]
  | .nilf, _ => by simp only [gv]
  | .fn (.func f) p q, hb => by simp only [gv, gvs_agree h p hb.1, gvs_agree h q hb.2]
  | .fn (.method f) p q, hb => by simp only [gv, gvs_agree h p hb.1, gvs_agree h q hb.2]
  | .fn (.yield l) p q, hb => hb.elim
  | .nili, _ => by simp only [gv]
  | .iface _ x, hb => by simp only [gv, gv_agree h x hb]
  | .agg l, hb => by simp only [gv, gvs_agree h l hb]
  | .tup l, hb => by simp only [gv, gvs_agree h l hb]
theorem gvs_agree {σ τ : Nat → Option Nat} (h : ∀ c b, σ c = some b → τ c = some b) : ∀ (l : List AV), bels0 σ l → gvs τ l = gvs σ l
  | [], _ => by simp only [gvs]
  | a :: l, hb => by simp only [gvs, gv_agree h a hb.1, gvs_agree h l hb.2]
end
theorem go_agree {σ τ : Nat → Option Nat} (h : ∀ c b, σ c = some b → τ c = some b) : ∀ {o : AO}, o.bel0 σ → go τ o = go σ o
  | .cells _ _ vs, hb => by simp only [go, gvs_agree h vs hb]
  | .map es, hb => by
    simp only [go]
    congr 1
    exact List.map_congr_left fun e he => by rw [gv_agree h _ (hb e he).1, gv_agree h _ (hb e he).2]
  | .dead, hb => hb.elim
  | .loop _, hb => hb.elim
  | .defr _, hb => hb.elim
theorem go_own0 {σ : Nat → Option Nat} : ∀ {o : AO}, o.bel0 σ → (go σ o).own = o.own ∧ (go σ o).live = o.live
  | .cells _ _ vs, _ => ⟨rfl, rfl⟩
  | .map es, _ => ⟨rfl, rfl⟩
  | .dead, hb => hb.elim
  | .loop _, hb => hb.elim
  | .defr _, hb => hb.elim

/-- The numbers of the small memory in the great one: those of 'σ', and behind them those of 'sel' as new ones. -/
def frm (H : HV) (σ sel : List Nat) (c : Nat) : Option Nat := match σ[c]? with
  | some b => some b
  | none => (plc sel (c - σ.length)).map H.at

/-- The small memory lies in the great one. -/
structure Lies (T : Types) (H : HV) (σ : List Nat) (h0 : Heap) : Prop where
  nx : h0.nx = σ.length
  lt : ∀ b ∈ σ, b < H.nx
  nodup : σ.Nodup
  glob : ∀ g, g < T.G → σ[g]? = some g
  obj : ∀ c b, σ[c]? = some b → ∃ o, h0.get c = some o ∧ H.get b = some (go (fun c => σ[c]?) o) ∧ o.bel0 (fun c => σ[c]?)

theorem EvP_frame (hT : TOk P T F) {k f : Nat} {args0 : List AV} {h0 h1 : Heap} {r0 : AV} (hrun : acall T F k (.func f args0) h0 = some (.ret r0, h1)) {H : HV} {σ : List Nat} (hL : Lies T H σ h0) (ha : bels0 (fun c => σ[c]?) args0)
    (hold : ∀ c, c < σ.length → h1.get c = h0.get c) (sel : List Nat) (hd : ndp sel = true) (hown : ∀ j ∈ sel, ∃ o, h1.get (σ.length + j) = some o ∧ o.own = true) :
    Ev P T (.func f (gvs (fun c => σ[c]?) args0)) H (.ret (gv (frm H σ sel) r0)) [] (sel.map fun j => goo (frm H σ sel) (h1.get (σ.length + j))) := by
  refine ⟨no_ups, ?_⟩
  intro β h w cargs n now hv
  let β0 : Bm := fun c => match σ[c]? with | some b => β b | none => none
  have hb0 : ∀ c b, σ[c]? = some b → β0 c = β b := by intro c b hc; simp only [β0, hc]
  have hb0n : ∀ c, σ.length ≤ c → β0 c = none := by intro c hc; simp only [β0, List.getElem?_eq_none hc]
  have hget : ∀ b, h.get b = H.get b := fun b => by rw [now.get]
  have hlt0 : ∀ c i, β0 c = some i → ∃ b, σ[c]? = some b ∧ β b = some i := by
    intro c i hi
    simp only [β0] at hi
    split at hi
    · rename_i b hb; exact ⟨b, hb, hi⟩
    · cases hi
  have rel0 : Rel T.G β0 h0 w := by
    refine ⟨?_, ?_, ?_, ?_⟩
    · intro c i o hi ho
      obtain ⟨b, hb, hbi⟩ := hlt0 c i hi
      obtain ⟨o', e1, e2, e3⟩ := hL.obj c b hb
      rw [ho] at e1; injection e1 with e1; subst e1
      exact OR_back hb0 (now.rel.obj b i _ hbi (by rw [hget]; exact e2)) e3
    · intro c i hi
      obtain ⟨b, hb, hbi⟩ := hlt0 c i hi
      exact now.rel.lt b i hbi
    · intro c c' i i' o o' hne hi hi' ho ho' how hlv
      obtain ⟨b, hb, hbi⟩ := hlt0 c i hi
      obtain ⟨b', hb', hbi'⟩ := hlt0 c' i' hi'
      obtain ⟨x, e1, e2, e3⟩ := hL.obj c b hb
      obtain ⟨x', e1', e2', e3'⟩ := hL.obj c' b' hb'
      rw [ho] at e1; injection e1 with e1; subst e1
      rw [ho'] at e1'; injection e1' with e1'; subst e1'
      refine now.rel.apart b b' i i' _ _ ?_ hbi hbi' (by rw [hget]; exact e2) (by rw [hget]; exact e2') ((go_own0 e3).1.trans how) ((go_own0 e3').2.trans hlv)
      intro e; subst e
      obtain ⟨q1, q2⟩ := List.getElem?_eq_some_iff.1 hb
      obtain ⟨q1', q2'⟩ := List.getElem?_eq_some_iff.1 hb'
      exact hne ((List.getElem_inj hL.nodup).1 (q2.trans q2'.symm))
    · intro g hg
      obtain ⟨i, hi, x⟩ := now.rel.glob g hg
      exact ⟨i, by rw [hb0 g g (hL.glob g hg)]; exact hi, x⟩
  have hargs0 : VRs β0 args0 cargs.toList := VRs_back hb0 _ _ hv ha
  obtain ⟨e1, e2⟩ := (acall_ok hT k).func f args0 h0 (.ret r0) h1 hrun β0 w cargs n hargs0 rel0 (fun c c1 _ => hb0n c (by rw [← hL.nx]; exact c1)) (fun h => by cases h)
  refine ⟨e1, e2.mono ?_⟩
  rintro e w' ⟨β1, hres, to⟩
  have hgr : ∀ c, c < σ.length → β1 c = β0 c := fun c hc => to.grow.2 c (.inl (by rw [hL.nx]; exact hc))
  let β' : Bm := fun b => if b < H.nx then β b else match sel[b - H.nx]? with | some j => β1 (σ.length + j) | none => none
  have hsame : ∀ b, b < H.nx → β' b = β b := by intro b hb; simp only [β', if_pos hb]
  have hgd : Gd (frm H σ sel) β1 β' := by
    intro c b hc
    unfold frm at hc
    split at hc
    · rename_i b0 hb
      injection hc with hc; subst hc
      have hcl : c < σ.length := (List.getElem?_eq_some_iff.1 hb).1
      rw [hsame b0 (hL.lt b0 (List.mem_of_getElem? hb)), hgr c hcl, hb0 c b0 hb]
    · rename_i hn
      obtain ⟨m, hm, rfl⟩ := Option.map_eq_some_iff.1 hc
      have hge : σ.length ≤ c := by simpa using hn
      have h2 : ¬ H.at m < H.nx := by unfold HV.at; omega
      have h3 : H.at m - H.nx = m := by unfold HV.at; omega
      simp only [β', if_neg h2, h3, plc_get hm]
      congr 1; omega
  let ns := sel.map fun j => goo (frm H σ sel) (h1.get (σ.length + j))
  let H' := H.aft [] ns
  have hg' : ∀ b, H'.get b = if b < H.nx then H.get b else ns[b - H.nx]? := fun b => rfl
  -- what a block is
  have kind : ∀ b i o, β' b = some i → H'.get b = some o → (b < H.nx ∧ β b = some i ∧ H.get b = some o) ∨ ∃ j o1, H.nx ≤ b ∧ sel[b - H.nx]? = some j ∧ β1 (σ.length + j) = some i ∧ h1.get (σ.length + j) = some o1 ∧ o1.own = true ∧ o = go (frm H σ sel) o1 := by
    intro b i o hi ho
    rw [hg'] at ho
    by_cases hb : b < H.nx
    · rw [if_pos hb] at ho; rw [hsame b hb] at hi; exact .inl ⟨hb, hi, ho⟩
    · rw [if_neg hb] at ho
      simp only [ns, List.getElem?_map] at ho
      obtain ⟨j, hj, hjo⟩ := Option.map_eq_some_iff.1 ho
      obtain ⟨o1, ho1, how⟩ := hown j (List.mem_of_getElem? hj)
      rw [ho1] at hjo
      simp only [β', if_neg hb, hj] at hi
      exact .inr ⟨j, o1, by omega, hj, hi, ho1, how, hjo.symm⟩
  have hbel : ∀ b i o, β b = some i → H.get b = some o → OR β w i o := fun b i o hi ho => now.rel.obj b i o hi (by rw [hget]; exact ho)
  have hblt : ∀ b i, β b = some i → b < H.nx := by
    intro b i hi
    apply Classical.byContradiction; intro hc; rw [now.fresh b (by omega)] at hi; cases hi
  -- a new block is none of the old ones
  have key : ∀ j i1 o1 b i o, β1 (σ.length + j) = some i1 → h1.get (σ.length + j) = some o1 → o1.own = true → β b = some i → H.get b = some o → o.live = true → i.c ≠ i1.c := by
    intro j i1 o1 b i o h2 h3 h4 h5 h6 h7 heq
    have hltw : i1.c < w.heap.size := by rw [← heq]; exact now.rel.lt b i h5
    obtain ⟨c, i', o', q1, q2, q3, q4, q5⟩ := to.lin (σ.length + j) i1 o1 h2 h3 (AO.live_of_own h4) hltw
    obtain ⟨b0, hb, hbi⟩ := hlt0 c i' q1
    obtain ⟨x, x1, x2, x3⟩ := hL.obj c b0 hb
    rw [q2] at x1; injection x1 with x1; subst x1
    have hcl : c < σ.length := (List.getElem?_eq_some_iff.1 hb).1
    by_cases hbb : b0 = b
    · refine to.rel.apart (σ.length + j) c i1 i' o1 o' (by omega) h2 (by rw [hgr c hcl]; exact q1) h3 (by rw [hold c hcl]; exact q2) h4 q3 q5.symm
    · exact now.rel.apart b0 b i' i _ o hbb hbi h5 (by rw [hget]; exact x2) (by rw [hget]; exact h6) ((go_own0 x3).1.trans (q4 h4)) h7 (q5.trans heq.symm)
  obtain ⟨h', hn', _, hh'⟩ := heap_of H'.get 0 H'.nx
  have hh2 : h'.get = H'.get := by
    funext b
    rw [hh']
    split
    · rfl
    · rename_i hlt; exact (aft_none H [] ns b (Nat.le_of_not_lt hlt)).symm
  refine ⟨β', h', ?_, ⟨hn', hh2, ⟨?_, ?_, ?_, ?_⟩, ?_⟩, hsame, ⟨to.kept.os, to.kept.tape, to.kept.output, to.kept.size, ?_⟩, ?_⟩
  · cases e with
    | returned u => exact VR_gv hgd _ _ hres
    | panicked _ => exact hres.elim
    | outgrown => exact hres.elim
  · intro b i o hi ho
    rw [hh2] at ho
    rcases kind b i o hi ho with ⟨hb, k1, k2⟩ | ⟨j, o1, _, _, k2, k3, _, rfl⟩
    · by_cases hin : b ∈ σ
      · obtain ⟨c, hc⟩ := List.mem_iff_getElem?.1 hin
        obtain ⟨o0, x1, x2, x3⟩ := hL.obj c b hc
        have hcl : c < σ.length := (List.getElem?_eq_some_iff.1 hc).1
        rw [k2] at x2; injection x2 with x2; subst x2
        rw [← go_agree (τ := frm H σ sel) (fun c b hcb => by unfold frm; rw [hcb]) x3]
        refine OR_go hgd (to.rel.obj c i o0 ?_ (by rw [hold c hcl]; exact x1))
        rw [hgr c hcl, hb0 c b hc]; exact k1
      · have hor := hbel b i o k1 k2
        by_cases hlv : o.live = true
        · have hblk := to.kept.block i.c (now.rel.lt b i k1) (by
            intro c i' o' q1 q2 q3 heq
            obtain ⟨b0, hb0', hbi⟩ := hlt0 c i' q1
            obtain ⟨x, x1, x2, x3⟩ := hL.obj c b0 hb0'
            rw [q2] at x1; injection x1 with x1; subst x1
            exact now.rel.apart b0 b i' i _ o (fun e => hin (by rw [← e]; exact List.mem_of_getElem? hb0')) hbi k1 (by rw [hget]; exact x2) (by rw [hget]; exact k2) ((go_own0 x3).1.trans q3) hlv heq)
          exact OR_same hsame (OR_bel now.fresh hor) (OR.mono (Bm.le_refl β) hblk hor)
        · cases o with
          | dead => trivial
          | _ => exact absurd rfl hlv
    · exact OR_go hgd (to.rel.obj _ i o1 k2 k3)
  · intro b i hi
    by_cases hb : b < H.nx
    · rw [hsame b hb] at hi; exact Nat.lt_of_lt_of_le (now.rel.lt b i hi) to.kept.size
    · simp only [β', if_neg hb] at hi
      split at hi
      · exact to.rel.lt _ i hi
      · cases hi
  · intro b b' i i' o o' hne hi hi' ho ho' how hlv
    rw [hh2] at ho ho'
    rcases kind b i o hi ho with ⟨hb, k1, k2⟩ | ⟨j, o1, hge, hj, k2, k3, k4, rfl⟩ <;> rcases kind b' i' o' hi' ho' with ⟨hb', k1', k2'⟩ | ⟨j', o1', hge', hj', k2', k3', k4', rfl⟩
    · exact now.rel.apart b b' i i' o o' hne k1 k1' (by rw [hget]; exact k2) (by rw [hget]; exact k2') how hlv
    · exact key j' i' o1' b i o k2' k3' k4' k1 k2 (AO.live_of_own how)
    · exact fun x => key j i o1 b' i' o' k2 k3 k4 k1' k2' hlv x.symm
    · refine to.rel.apart (σ.length + j) (σ.length + j') i i' o1 o1' ?_ k2 k2' k3 k3' k4 (AO.live_of_own k4')
      intro e
      have hjj : j = j' := by omega
      subst hjj
      obtain ⟨q1, q2⟩ := List.getElem?_eq_some_iff.1 hj
      obtain ⟨q1', q2'⟩ := List.getElem?_eq_some_iff.1 hj'
      have := (List.getElem_inj (ndp_nodup hd)).1 (q2.trans q2'.symm)
      exact hne (by omega)
  · intro g hg
    obtain ⟨i, hi, x⟩ := now.rel.glob g hg
    exact ⟨i, by rw [hsame g (hblt g i hi)]; exact hi, x⟩
  · intro b hb
    have hb2 : H.nx + ns.length ≤ b := hb
    simp only [ns, List.length_map] at hb2
    have hlt : ¬ b < H.nx := by omega
    simp only [β', if_neg hlt]
    rw [List.getElem?_eq_none (by omega)]
  · intro c hc hn
    refine to.kept.block c hc fun c0 i o q1 q2 q3 => ?_
    obtain ⟨b0, hb, hbi⟩ := hlt0 c0 i q1
    obtain ⟨x, x1, x2, x3⟩ := hL.obj c0 b0 hb
    rw [q2] at x1; injection x1 with x1; subst x1
    exact hn b0 i _ hbi (by rw [hget]; exact x2) ((go_own0 x3).1.trans q3)
  · intro b i o hi ho hlv hc
    rw [hh2] at ho
    rcases kind b i o hi ho with ⟨hb, k1, k2⟩ | ⟨j, o1, _, _, k2, k3, k4, rfl⟩
    · exact ⟨b, i, o, k1, by rw [hget]; exact k2, hlv, id, rfl⟩
    · obtain ⟨c, i', o', q1, q2, q3, q4, q5⟩ := to.lin _ i o1 k2 k3 (AO.live_of_own k4) hc
      obtain ⟨b0, hb, hbi⟩ := hlt0 c i' q1
      obtain ⟨x, x1, x2, x3⟩ := hL.obj c b0 hb
      rw [q2] at x1; injection x1 with x1; subst x1
      exact ⟨b0, i', _, hbi, by rw [hget]; exact x2, (go_own0 x3).2.trans q3, fun _ => (go_own0 x3).1.trans (q4 k4), q5⟩

end
end Go.Ai
