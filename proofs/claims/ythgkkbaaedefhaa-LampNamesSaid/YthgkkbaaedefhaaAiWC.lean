/- AiWC -/
import Derived.Test.YthgkkbaaedefhaaAiWB
set_option linter.unusedVariables false
set_option linter.unusedSimpArgs false
namespace Go.Ai
open Go

/-- 'H' with some blocks turned, and some new ones. -/
def HV.aft (H : HV) (us : List (Nat × AO)) (ns : List AO) : HV := ⟨H.nx + ns.length, more (overs H.get us) H.nx ns⟩

/-- A call ends in 'r'; of the memory 'us' is turned, 'ns' is new. -/
def Ev (P : Program) (T : Types) (req : Req) (H : HV) (r : Res) (us : List (Nat × AO)) (ns : List AO) : Prop :=
  (∀ p ∈ us, p.1 < H.nx) ∧
  match req with
  | .func f args => ∀ β h w cargs n, Now T β h w H → VRs β args cargs.toList →
      (∃ fn, P.funcs[f]? = some fn ∧ fn.body.isSome = true ∧ fn.name ≠ "runtime.NumGoroutine") ∧ CallsIn Fence.wide n P f cargs w fun e w' => ∃ β' h', ResR β' r e ∧ Tw T H.nx β h w β' h' w' (H.aft us ns)
  | .round l args => ∀ β h w cargs n i, Now T β h w H → β l = some i → VRs β args cargs.toList →
      ∃ f tmps assign body, (Instr.yield i.c cargs).run P w = .ok (.round i.c f tmps assign body) w ∧ RoundIn Fence.wide n P i.c f tmps assign body w fun e w' => ∃ β' h', ResR β' r e ∧ Tw T H.nx β h w β' h' w' (H.aft us ns)

noncomputable def hp (H : HV) (lo : Nat) : Heap := Classical.choose (heap_of H.get lo H.nx)
theorem hp_nx (H : HV) (lo : Nat) : (hp H lo).nx = H.nx := (Classical.choose_spec (heap_of H.get lo H.nx)).1
theorem hp_lo (H : HV) (lo : Nat) : (hp H lo).lo = lo := (Classical.choose_spec (heap_of H.get lo H.nx)).2.1
theorem hp_get (H : HV) (lo : Nat) (hz : ∀ b, H.nx ≤ b → H.get b = none) : (hp H lo).get = H.get := by
  funext b
  have h1 : (hp H lo).get b = if b < H.nx then H.get b else none := (Classical.choose_spec (heap_of H.get lo H.nx)).2.2 b
  rw [h1]
  split
  · rfl
  · rename_i h; rw [hz b (by omega)]

theorem aft_none (H : HV) (us : List (Nat × AO)) (ns : List AO) : ∀ b, (H.aft us ns).nx ≤ b → (H.aft us ns).get b = none := by
  intro b hb
  simp only [HV.aft] at hb ⊢
  simp only [more]
  rw [if_neg (by omega), List.getElem?_eq_none (by omega)]

theorem overs_other : ∀ (us : List (Nat × AO)) (g : Getter) (b : Nat), (∀ p ∈ us, p.1 ≠ b) → overs g us b = g b
  | [], _, _, _ => rfl
  | p :: r, g, b, h => by
    simp only [overs]
    rw [overs_other r _ b (fun q hq => h q (List.mem_cons_of_mem _ hq))]
    simp only [over1]
    rw [if_neg (fun e => h p List.mem_cons_self e.symm)]

/-- The interpreter of one call. -/
noncomputable def K1 (req : Req) (H : HV) (r : Res) (us : List (Nat × AO)) (ns : List AO) : Caller := fun req' h =>
  open Classical in if req' = req ∧ h.nx = H.nx ∧ h.get = H.get then some (r, hp (H.aft us ns) (if us = [] then h.lo else 0)) else none

theorem K1_at {req : Req} {H : HV} {r : Res} {us : List (Nat × AO)} {ns : List AO} {h : Heap} (h1 : h.nx = H.nx) (h2 : h.get = H.get) : K1 req H r us ns req h = some (r, hp (H.aft us ns) (if us = [] then h.lo else 0)) := by
  unfold K1; rw [if_pos ⟨rfl, h1, h2⟩]

theorem K1_ext (req : Req) (H : HV) (r : Res) (us : List (Nat × AO)) (ns : List AO) : KExt (K1 req H r us ns) := by
  intro req' h r' h' hk
  unfold K1 at hk
  split at hk
  · rename_i hc
    obtain ⟨_, h1, h2⟩ := hc
    injection hk with hk; injection hk with _ hk; subst hk
    refine ⟨by rw [hp_nx, h1]; show H.nx ≤ H.nx + _; omega, by rw [hp_lo]; split <;> omega, fun b hb hl => ?_⟩
    rw [hp_lo] at hl
    by_cases hu : us = []
    · subst hu
      rw [hp_get _ _ (aft_none _ _ _), h2]
      simp only [HV.aft, more, overs]
      rw [if_pos (by omega)]
    · rw [if_neg hu] at hl; omega
  · cases hk

theorem Tw.to {T : Types} {β β' : Bm} {h h' h2 : Heap} {w w' : World} {H H' : HV} (n : Now T β h w H) (t : Tw T H.nx β h w β' h' w' H') (hx : HExt h h2) (h1 : h2.nx = H'.nx) (h3 : h2.get = H'.get) : To T.G β h w β' h2 w' := by
  have hg : h2.get = h'.get := h3.trans t.now.get.symm
  have hnx := n.nx
  have hle := hx.1
  have hfr := n.fresh
  have hfr' := t.now.fresh
  have hsame := t.same
  refine ⟨⟨fun b i hb => ?_, fun b hb => ?_⟩, hx, ?_, t.kept, fun b i o hi ho => t.lin b i o hi (by rw [← hg]; exact ho)⟩
  · have hlt : b < H.nx := by apply Classical.byContradiction; intro hc; rw [hfr b (by omega)] at hb; cases hb
    rw [hsame b hlt]; exact hb
  · rcases hb with hb | hb
    · exact hsame b (by omega)
    · rw [hfr' b (by omega), hfr b (by omega)]
  · have r := t.now.rel
    exact ⟨fun b i o hi ho => r.obj b i o hi (by rw [← hg]; exact ho), r.lt, fun b b' i i' o o' hne hi hi' ho ho' => r.apart b b' i i' o o' hne hi hi' (by rw [← hg]; exact ho) (by rw [← hg]; exact ho'), r.glob⟩

theorem K1_sound {P : Program} {T : Types} {req : Req} {H : HV} {r : Res} {us : List (Nat × AO)} {ns : List AO} (he : Ev P T req H r us ns) : KSoundB true P T (K1 req H r us ns) := by
  have hext := K1_ext req H r us ns
  refine ⟨?_, ?_, hext⟩
  · intro f args h r' h' hk β w cargs n hv hr hf hfb
    have hx := hext _ _ _ _ hk
    unfold K1 at hk
    split at hk
    · rename_i hc
      obtain ⟨hreq, h1, h2⟩ := hc
      injection hk with hk; injection hk with hk1 hk2; subst hk1
      subst hreq
      have now : Now T β h w H := ⟨h1, h2, hr, fun b hb => hfb rfl b (by omega)⟩
      obtain ⟨e1, e2⟩ := he.2 β h w cargs n now hv
      refine ⟨e1, e2.mono ?_⟩
      rintro e w' ⟨β', h3, q1, q2⟩
      exact ⟨β', q1, q2.to now hx (by rw [← hk2, hp_nx]) (by rw [← hk2, hp_get _ _ (aft_none _ _ _)])⟩
    · cases hk
  · intro l args h r' h' hk β w cargs n i hi hv hr hf hfb
    have hx := hext _ _ _ _ hk
    unfold K1 at hk
    split at hk
    · rename_i hc
      obtain ⟨hreq, h1, h2⟩ := hc
      injection hk with hk; injection hk with hk1 hk2; subst hk1
      subst hreq
      have now : Now T β h w H := ⟨h1, h2, hr, fun b hb => hfb rfl b (by omega)⟩
      obtain ⟨f, tmps, as, bd, e1, e2⟩ := he.2 β h w cargs n i now hi hv
      refine ⟨f, tmps, as, bd, e1, e2.mono ?_⟩
      rintro e w' ⟨β', h3, q1, q2⟩
      exact ⟨β', q1, q2.to now hx (by rw [← hk2, hp_nx]) (by rw [← hk2, hp_get _ _ (aft_none _ _ _)])⟩
    · cases hk

/-- The interpreter of no call. -/
def K0 : Caller := fun _ _ => none
theorem K0_sound {fb : Bool} {P : Program} {T : Types} : KSoundB fb P T K0 :=
  ⟨fun _ _ _ _ _ h => (by cases h), fun _ _ _ _ _ h => (by cases h), fun _ _ _ _ h => (by cases h)⟩

/-! ### Operations -/
/-- Of a value that may be none. -/
def wopt {α : Type} (x : Option α) (k : α → Prop) : Prop := match x with | some a => k a | none => False
@[congr] theorem wopt_congr {α : Type} {x y : Option α} {k : α → Prop} (h : x = y) : wopt x k = wopt y k := by rw [h]
theorem wopt_some {α : Type} (a : α) (k : α → Prop) : wopt (some a) k = k a := rfl
theorem wopt_get {α : Type} {x : Option α} {k : α → Prop} (h : wopt x k) : ∃ a, x = some a ∧ k a := by
  cases x with | none => exact h.elim | some a => exact ⟨a, rfl, h⟩

/-- What is wanted of an operation with a guard. -/
def wgd (g : Option Bool) (A B : Prop) : Prop := match g with | some b => (b = true → A) ∧ (b = false → B) | none => False
@[congr] theorem wgd_congr {x y : Option Bool} {A B : Prop} (h : x = y) : wgd x A B = wgd y A B := by rw [h]
theorem wgd_true (A B : Prop) : wgd (some true) A B = A := by simp [wgd]
theorem wgd_false (A B : Prop) : wgd (some false) A B = B := by simp [wgd]
theorem wgd_of {b : Bool} {A B : Prop} (h1 : b = true → A) (h2 : b = false → B) : wgd (some b) A B := ⟨h1, h2⟩

/-- A call's end. -/
def wcall (P : Program) (T : Types) (req : Req) (H : HV) (k : Res → List (Nat × AO) → List AO → Prop) : Prop := ∃ r us ns, Ev P T req H r us ns ∧ k r us ns
@[congr] theorem wcall_congr {P : Program} {T : Types} {req req' : Req} {H H' : HV} {k : Res → List (Nat × AO) → List AO → Prop} (h : req = req') (h2 : H = H') : wcall P T req H k = wcall P T req' H' k := by rw [h, h2]
theorem wcall_of {P : Program} {T : Types} {req : Req} {H : HV} {k : Res → List (Nat × AO) → List AO → Prop} {r : Res} {us : List (Nat × AO)} {ns : List AO} (h : Ev P T req H r us ns) (hk : k r us ns) : wcall P T req H k := ⟨r, us, ns, h, hk⟩

variable {P : Program} {T : Types} {F : Funcs}

/-- One operation, before its value is put. -/
def wop (P : Program) (T : Types) (hb : HV) (n : Nat) (s : St) (op : Op) (k : Res → St → Prop) : Prop :=
  match isCall op with
  | some c => wopt (acallee T (s.H hb).get (E n s.l) c) fun req => wcall P T req (s.H hb) fun r us ns => k r (s.upd hb us ns)
  | none => match isPanic op with
    | some x => ∃ t v, ev T (E n s.l) x = some (.iface t v) ∧ k (.pan (.iface t v)) s
    | none => wopt (aop T (s.H hb).get (hb.at s.ns.length) (E n s.l) op) fun out => k (.ret out.v) (s.upd hb out.up out.nw)

/-- All that is related within a call. -/
structure Here (T : Types) (hb : HV) (n : Nat) (s : St) (β : Bm) (h : Heap) (w : World) (tmps : Array Value) (ds : List Deferred) : Prop where
  now : Now T β h w (s.H hb)
  env : ER β (E n s.l) tmps
  dfs : DRs β s.ds ds
  base : Base T hb β

theorem HV.eq_of {H H' : HV} (h1 : H.nx = H'.nx) (h2 : H.get = H'.get) : H = H' := by cases H; cases H'; simp only at h1 h2; subst h1; subst h2; rfl

theorem St.aft (hb : HV) (s : St) (us : List (Nat × AO)) (ns : List AO) (h : ∀ p ∈ us, p.1 < (s.H hb).nx) : (s.H hb).aft us ns = (s.upd hb us ns).H hb :=
  HV.eq_of (s.upd_nx hb us ns).symm (s.upd_get hb us ns h).symm

/-- What is known goes on being known. -/
theorem Here.step {hb : HV} {n : Nat} {s : St} {β : Bm} {h : Heap} {w : World} {tmps : Array Value} {ds : List Deferred} (q : Here T hb n s β h w tmps ds) {us : List (Nat × AO)} {ns : List AO} (hu : ∀ p ∈ us, p.1 < (s.H hb).nx)
    {β' : Bm} {h' : Heap} {w' : World} (t : Tw T (s.H hb).nx β h w β' h' w' ((s.H hb).aft us ns)) : Here T hb n (s.upd hb us ns) β' h' w' tmps ds ∧ Tw T hb.nx β h w β' h' w' ((s.upd hb us ns).H hb) := by
  rw [St.aft hb s us ns hu] at t
  have hle : hb.nx ≤ (s.H hb).nx := by simp only [St.H, mk_nx]; omega
  exact ⟨⟨t.now, ER_same q.now.fresh t.same q.env, DRs_same q.now.fresh t.same q.dfs, q.base.same fun b hb' => t.same b (Nat.lt_of_lt_of_le hb' hle)⟩, ⟨t.now, fun b hb' => t.same b (Nat.lt_of_lt_of_le hb' hle), t.kept, t.lin⟩⟩

/-- An operation's end, of the model's. -/
theorem wop_ok (hT : TOk P T F) {hb : HV} {n : Nat} {s : St} {o : Oper} {k : Res → St → Prop} (hw : wop P T hb n s o.op k) (hnd : isDefer o.op = none) {β : Bm} {h : Heap} {w : World} {a : Act} (q : Here T hb n s β h w a.tmps a.defers) {rnd : Option Nat} {d : Nat}
    {next : Act → World → Prop} {Q : Exit → Act → World → Prop}
    (hret : ∀ v s1, k (.ret v) s1 → ∀ u w' β' h', VR β' v u → Here T hb n s1 β' h' w' a.tmps a.defers → Tw T hb.nx β h w β' h' w' (s1.H hb) → s1.l = s.l → next (a.put o.dst u) w')
    (hpan : ∀ v s1, k (.pan v) s1 → ∀ u w' β' h', VR β' v u → Here T hb n s1 β' h' w' a.tmps a.defers → Tw T hb.nx β h w β' h' w' (s1.H hb) → s1.l = s.l → Q (.panic [{ v := u, recovered := false }]) a w') : o.wpIn (Fw rnd) d P a w next Q := by
  have hnow := q.now
  unfold wop at hw
  split at hw
  · rename_i c hc
    obtain ⟨req, hreq, hw⟩ := wopt_get hw
    obtain ⟨r, us, ns, hev, hk⟩ := hw
    let h0 : Heap := { h with lo := h.nx }
    have hx : xop T (K1 req (s.H hb) r us ns) (E n s.l) h o = some (r, { hp ((s.H hb).aft us ns) (if us = [] then h.nx else 0) with lo := bif Nat.ble h.lo (if us = [] then h.nx else 0) then h.lo else (if us = [] then h.nx else 0) }, ⟨true, [], Nat.blt (if us = [] then h.nx else 0) h.nx, [], true⟩) := by
      unfold xop
      rw [hc]
      dsimp only
      rw [hnow.get, hreq]
      dsimp only
      rw [K1_at (h := h0) hnow.nx hnow.get]
      simp only [hp_lo, h0]
    refine xop_ok hT (K1_sound hev) hnow.rel q.env hx ?_ (fun _ _ _ b hb' => hnow.fresh b (by rw [← hnow.nx]; exact hb')) hnd ?_ ?_
    · intro b b1 _; exact hnow.fresh b (by rw [← hnow.nx]; exact b1)
    · intro v hv u w' β' hvu hto
      subst hv
      have tw : Tw T (s.H hb).nx β h w β' _ w' ((s.H hb).aft us ns) := Tw.of_to hnow hto (Nat.le_refl _) (hp_nx _ _) (hp_get _ _ (aft_none _ _ _))
      obtain ⟨q1, q2⟩ := q.step hev.1 tw
      exact hret v _ hk u w' β' _ hvu q1 q2 rfl
    · intro v hv u w' β' hvu hto
      subst hv
      have tw : Tw T (s.H hb).nx β h w β' _ w' ((s.H hb).aft us ns) := Tw.of_to hnow hto (Nat.le_refl _) (hp_nx _ _) (hp_get _ _ (aft_none _ _ _))
      obtain ⟨q1, q2⟩ := q.step hev.1 tw
      exact hpan v _ hk u w' β' _ hvu q1 q2 rfl
  · rename_i hc
    split at hw
    · rename_i x hx
      obtain ⟨t, v, hv, hk⟩ := hw
      have hx' : xop T K0 (E n s.l) h o = some (.pan (.iface t v), h, ⟨true, [], false, [], false⟩) := by
        unfold xop; rw [hc]; dsimp only; rw [hx]; dsimp only; rw [hv]
      refine xop_ok (fb := false) hT K0_sound hnow.rel q.env hx' (fun b b1 b2 => by omega) (fun _ _ h => by cases h) hnd (fun v hv => by cases hv) ?_
      intro v' hv' u w' β' hvu hto
      injection hv' with hv'; subst hv'
      have tw : Tw T (s.H hb).nx β h w β' h w' ((s.H hb).aft [] []) := Tw.of_to hnow hto (Nat.le_refl _) (by rw [hnow.nx]; rfl) (by
        rw [hnow.get]; funext b; simp only [HV.aft, more, overs]
        split
        · rfl
        · simp only [List.getElem?_nil, St.H, mkh]
          rename_i hlt
          simp only [St.H, mk_nx] at hlt
          rw [if_neg (by omega), List.getElem?_eq_none (by omega)])
      obtain ⟨q1, q2⟩ := q.step (us := []) (ns := []) (fun p hp => by cases hp) tw
      have hs : s.upd hb [] [] = s := by simp [St.upd, ups]
      rw [hs] at q1 q2
      exact hpan _ s hk u w' β' h hvu q1 q2 rfl
    · rename_i hx
      obtain ⟨out, ho, hk⟩ := wopt_get hw
      have hat : hb.at s.ns.length = h.nx := by rw [hnow.nx]; rfl
      rw [hat, ← hnow.get] at ho
      have hx' : xop T K0 (E n s.l) h o = some (.ret out.v, h.apply out, ⟨false, out.rd, false, out.up.map (·.1), !out.nw.isEmpty⟩) := by
        unfold xop; rw [hc]; dsimp only; rw [hx]; dsimp only; rw [ho]
      have hlt := aop_lt ho
      have hlt' : ∀ p ∈ out.up, p.1 < (s.H hb).nx := by rw [← hnow.nx]; exact hlt
      refine xop_ok (fb := false) hT K0_sound hnow.rel q.env hx' (fun b b1 _ => hnow.fresh b (by rw [← hnow.nx]; exact b1)) (fun _ _ h => by cases h) hnd ?_ (fun v hv => by cases hv)
      intro v hv u w' β' hvu hto
      injection hv with hv; subst hv
      have tw : Tw T (s.H hb).nx β h w β' (h.apply out) w' ((s.H hb).aft out.up out.nw) := Tw.of_to hnow hto (Nat.le_refl _) (by rw [apply_nx, hnow.nx]; rfl) (by
        unfold Heap.apply
        rw [pushes_get, sets_get _ _ hlt, Heap.nx_sets, hnow.get, hnow.nx]
        rfl)
      obtain ⟨q1, q2⟩ := q.step hlt' tw
      exact hret _ _ hk u w' β' _ hvu q1 q2 rfl

end Go.Ai
