/- AiWG -/
import Derived.Test.YthgkkbaaedefhaaAiWF
set_option linter.unusedVariables false
set_option linter.unusedSimpArgs false
namespace Go.Ai
open Go
noncomputable section
set_option linter.unusedVariables false
variable {P : Program} {T : Types} {F : Funcs} {rA : Option Nat} {hb : HV} {n : Nat} {s : St} {Q : AX → St → Prop}

def nbusy : LState → Bool
  | .busy => false
  | _ => true

def pdx : Option Code → Option AX
  | none => some .normal
  | some .ret => some .ret
  | some (.exit id) => some (.exit id)
  | _ => none

/-- Behind the call of a loop over a function. -/
def Left (hb : HV) (l : Nat) (Q : AX → St → Prop) (s : St) : Prop :=
  ∃ lp x, (s.H hb).get l = some (.loop lp) ∧ nbusy lp.state = true ∧ pdx lp.pending = some x ∧ Q x (s.upd hb [(l, .loop { lp with state := .exhausted })] [])

/-- The memory with the loop's record. -/
def St.enter (hb : HV) (rA : Option Nat) (n : Nat) (ps : List Nat) (a b : Code) (s : St) : Option (Nat × St) :=
  match rA with
  | none => some (hb.at (s.ns.length + 1), { s with ds := .mark (hb.at s.ns.length) :: s.ds, ns := s.ns ++ [.defr true, .loop ⟨.ready, none, 0, E n s.l, ps, a, b, hb.at s.ns.length⟩] })
  | some l => match (s.H hb).get l with
    | some (.loop r) => some (hb.at s.ns.length, { s with ns := s.ns ++ [.loop ⟨.ready, none, 0, E n s.l, ps, a, b, r.defers⟩] })
    | _ => none

theorem upd_push (hb : HV) (s : St) (l : List AO) : { s with ns := s.ns ++ l } = s.upd hb [] l := rfl

theorem enter_ok {ps : List Nat} {a b : Code} {l : Nat} {s2 : St} (h1 : s.enter hb rA n ps a b = some (l, s2)) {h : Heap} (hx : h.nx = (s.H hb).nx) (hg : h.get = (s.H hb).get) :
    ∃ mark h2, aenter rA 0 (E n s.l) ps a b h = some (l, mark, h2) ∧ s2.ds = mark ++ s.ds ∧ s2.l = s.l ∧ h2.nx = (s2.H hb).nx ∧ h2.get = (s2.H hb).get := by
  have hat : h.nx = hb.at s.ns.length := hx
  cases rA with
  | none =>
    simp only [St.enter] at h1
    injection h1 with h1; injection h1 with e1 e2; subst e1; subst e2
    refine ⟨[.mark h.nx], (h.push (.defr true)).push (.loop ⟨.ready, none, 0, E n s.l, ps, a, b, h.nx⟩), ?_, by rw [hat]; rfl, rfl, ?_, ?_⟩
    · rw [show hb.at (s.ns.length + 1) = h.nx + 1 by rw [hat]; rfl]; rfl
    · show _ = hb.nx + (s.ns ++ _).length
      simp only [Heap.nx_push, List.length_append, List.length_cons, List.length_nil]
      have : h.nx = hb.nx + s.ns.length := hx
      omega
    · have := pushes_get [.defr true, .loop ⟨.ready, none, 0, E n s.l, ps, a, b, h.nx⟩] h
      simp only [Heap.pushes_cons, Heap.pushes_nil] at this
      rw [this, hg, hx]
      have h3 := mkh_more hb s.us s.ns [.defr true, .loop ⟨.ready, none, 0, E n s.l, ps, a, b, (s.H hb).nx⟩]
      exact h3.symm
  | some l0 =>
    simp only [St.enter] at h1
    split at h1
    · rename_i r hr
      injection h1 with h1; injection h1 with e1 e2; subst e1; subst e2
      have hgl : getLoop h l0 = some r := by unfold getLoop; rw [hg, hr]
      refine ⟨[], h.push (.loop ⟨.ready, none, 0, E n s.l, ps, a, b, r.defers⟩), ?_, rfl, rfl, ?_, ?_⟩
      · simp only [aenter, hgl]; rw [hat]
      · show _ = hb.nx + (s.ns ++ _).length
        simp only [Heap.nx_push, List.length_append, List.length_cons, List.length_nil]
        have : h.nx = hb.nx + s.ns.length := hx
        omega
      · have := pushes_get [.loop ⟨.ready, none, 0, E n s.l, ps, a, b, r.defers⟩] h
        simp only [Heap.pushes_cons, Heap.pushes_nil] at this
        rw [this, hg, hx]
        have h3 := mkh_more hb s.us s.ns [.loop ⟨.ready, none, 0, E n s.l, ps, a, b, r.defers⟩]
        exact h3.symm
    · cases h1

theorem W_range (hT : TOk P T F) {g : Operand} {ps : Array Tmp} {a b : Code} {f : Nat} {first cap : List AV} (he : ev T (E n s.l) g = some (.fn (.func f) first cap)) {l : Nat} {s2 : St} (h2 : s.enter hb rA n ps.toList a b = some (l, s2))
    (hev : EvP P T (.func f (first ++ [.fn (.yield l) [] []] ++ cap)) (s2.H hb) fun r H' => ∃ s3, H' = s3.H hb ∧ s3.l = s.l ∧ s3.ds = s2.ds ∧ match r with
      | .ret _ => Left hb l Q s3
      | .pan v => Q (.panic v) s3) : W P T rA hb n (.rangeFunc g ps a b) s Q := by
  intro hl rnd d ac w β hh hr q Qm post
  refine wpIn_rangeFunc fun fn _ => ?_
  obtain ⟨gv, p, qq, hgv, hgf, hp, hq⟩ := ev_ok q.now.rel rfl q.env he
  simp only [FR] at hgf; subst hgf
  obtain ⟨mark, h2', hen, hds, hsl, hx2, hg2⟩ := enter_ok h2 q.now.nx q.now.get
  have hfree : ∀ b, hh.nx ≤ b → β b = none := fun b hb' => q.now.fresh b (by rw [← q.now.nx]; exact hb')
  obtain ⟨i, mk, w1, β1, hrun, hi, hmk, hto1⟩ := aenter_ok (P := P) (act := ac) hen hr q.env q.now.rel (fun b b1 _ => hfree b b1) fn
  have hle : hb.nx ≤ (s.H hb).nx := by simp only [St.H, mk_nx]; omega
  have tw1 : Tw T (s.H hb).nx β hh w β1 h2' w1 (s2.H hb) := Tw.of_to q.now hto1 (Nat.le_refl _) hx2 hg2
  have tw1n : Tw T hb.nx β hh w β1 h2' w1 (s2.H hb) := ⟨tw1.now, fun b hb' => tw1.same b (Nat.lt_of_lt_of_le hb' hle), tw1.kept, tw1.lin⟩
  have hargs : VRs β1 (first ++ [.fn (.yield l) [] []] ++ cap) (p ++ #[Value.func (.yield i.c) #[] #[]] ++ qq).toList := by
    simp only [Array.toList_append]
    refine VRs.append (VRs.append (VRs.mono hto1.grow.1 _ _ hp) ?_) (VRs.mono hto1.grow.1 _ _ hq)
    exact VRs.cons ⟨_, _, _, rfl, ⟨i, hi, rfl⟩, rfl, rfl⟩ VRs.nil
  obtain ⟨⟨fnn, k1, k2, k3⟩, hcalls⟩ := hev β1 h2' w1 (p ++ #[Value.func (.yield i.c) #[] #[]] ++ qq) (d - 1) tw1.now hargs
  have hres : (resolve ac.eval (rangeCall g i.c) 0).run P w1 = .ok { target := .fn (.func f) qq, args := p ++ #[Value.func (.yield i.c) #[] #[]] } w1 := by
    simp [resolve, hgv, Deferred.ofValue, show ∀ v, ac.eval (.const v) = v from fun _ => rfl]
  refine ⟨i.c, mk, w1, _, w1, f, p ++ #[Value.func (.yield i.c) #[] #[]] ++ qq, w1, by rw [Fw_round]; exact hrun, hres, fun f' _ => Fw_fn _ f', ?_, Fw_one _ _, ?_⟩
  · have := run_callFunc k1 k2 k3 (p ++ #[Value.func (.yield i.c) #[] #[]] ++ qq) w1
    simpa [invoke] using this
  · refine calls_Fw (hcalls.mono ?_)
    rintro e w3 ⟨β3, h3, rr, H3, ⟨s3, rfl, hs3l, hs3d, hpost⟩, hres3, tw3⟩
    have hle2 : hb.nx ≤ (s2.H hb).nx := by simp only [St.H, mk_nx]; omega
    have hlt : l < (s2.H hb).nx := by
      apply Classical.byContradiction; intro hc; rw [tw1.now.fresh l (by omega)] at hi; cases hi
    have tw13 := tw1n.trans q.now tw3 hle2
    have env1 : ER β1 (E n s.l) ac.tmps := q.env.mono hto1.grow.1
    have env3 : ER β3 (E n s3.l) ac.tmps := by rw [hs3l]; exact ER_same tw1.now.fresh tw3.same env1
    have dfs1 : DRs β1 s2.ds (mk ++ ac.defers) := by rw [hds]; exact hmk.append (q.dfs.mono hto1.grow.1)
    have dfs3 : DRs β3 s3.ds (mk ++ ac.defers) := by rw [hs3d]; exact DRs_same tw1.now.fresh tw3.same dfs1
    have base3 : Base T hb β3 := q.base.same tw13.same
    have hi3 : β3 l = some i := by rw [tw3.same l hlt]; exact hi
    cases rr with
    | ret v =>
      cases e with
      | returned u =>
        simp only at hpost
        obtain ⟨lp, x, hlp, hnb, hpx, hpend⟩ := hpost
        have hgl : getLoop h3 l = some lp := by unfold getLoop; rw [tw3.now.get, hlp]
        have hlt3 : l < h3.nx := Heap.get_lt (getLoop_some hgl)
        have hup : aleave ⟨E n s3.l, s3.ds, h3⟩ s3.ds l h3 = some (x, ⟨E n s3.l, s3.ds, h3.set l (.loop { lp with state := .exhausted })⟩) := by
          unfold aleave
          rw [hgl]
          dsimp only
          cases hst : lp.state with
          | busy => rw [hst] at hnb; cases hnb
          | _ =>
            dsimp only
            cases hpd : lp.pending with
            | none => rw [hpd] at hpx; injection hpx with hpx; subst hpx; rfl
            | some c => rw [hpd] at hpx; cases c <;> first | (injection hpx with hpx; subst hpx; rfl) | cases hpx
        have hset : ∀ x, Q x (s3.upd hb [(l, .loop { lp with state := .exhausted })] []) → ∀ w', To T.G β3 h3 w3 β3 (h3.set l (.loop { lp with state := .exhausted })) w' → ER β3 (E n s3.l) ac.tmps → DRs β3 s3.ds (mk ++ ac.defers) → XQ Qm β3 { ac with defers := mk ++ ac.defers } w' x := by
          intro x hq w' hto he' hd'
          have tw4 : Tw T (s3.H hb).nx β3 h3 w3 β3 (h3.set l (.loop { lp with state := .exhausted })) w' ((s3.H hb).aft [(l, .loop { lp with state := .exhausted })] []) :=
            Tw.of_to tw3.now hto (Nat.le_refl _) (by rw [Heap.nx_set, tw3.now.nx]; rfl) (by
              have h5 := sets_get [(l, .loop { lp with state := .exhausted })] h3 (fun p hp => by rw [List.mem_singleton] at hp; subst hp; exact hlt3)
              have h6 := pushes_get [] (h3.sets [(l, .loop { lp with state := .exhausted })])
              simp only [Heap.sets_cons, Heap.sets_nil, Heap.pushes_nil, Heap.nx_set] at h5 h6
              rw [h6, h5, tw3.now.get, tw3.now.nx]
              rfl)
          have q3 : Here T hb n s3 β3 h3 w3 ac.tmps (mk ++ ac.defers) := ⟨tw3.now, env3, dfs3, base3⟩
          obtain ⟨q4, t4⟩ := q3.step (us := [(l, .loop { lp with state := .exhausted })]) (ns := []) (fun p hp => by rw [List.mem_singleton] at hp; subst hp; rw [← tw3.now.nx]; exact hlt3) tw4
          exact post x _ { ac with defers := mk ++ ac.defers } w' β3 _ hq q4 (tw13.trans q.now t4 (Nat.le_refl _))
        exact aleave_ok (a := { ac with defers := mk ++ ac.defers }) hup tw3.now.rel hi3 env3 dfs3 (hset _ hpend)
      | panicked ch => exact hres3.elim
      | outgrown => exact hres3.elim
    | pan v =>
      cases e with
      | returned u => exact hres3.elim
      | panicked ch =>
        obtain ⟨u, rfl, hv⟩ := hres3
        exact post (.panic v) s3 { ac with defers := mk ++ ac.defers } w3 β3 h3 hpost ⟨tw3.now, env3, dfs3, base3⟩ tw13 u hv
      | outgrown => exact hres3.elim

/-- How a round ends. -/
def REnd (H : HV) (l : Nat) (Post : Res → HV → Prop) (s : St) (st : LState) (pd : Option Code) (v : AV) : Prop :=
  ∃ r, (s.H H).get l = some (.loop r) ∧ ∃ sel, ndp sel = true ∧ Post (.ret v) (mkh H (gus H sel (s.upd H [(l, .loop { r with state := st, pending := pd })] []).us) (gns H sel (s.upd H [(l, .loop { r with state := st, pending := pd })] []).ns))

theorem EvP_round (hT : TOk P T F) {l : Nat} {args : List AV} {H : HV} {Post : Res → HV → Prop} {r : ALoop} (hl : H.get l = some (.loop r)) (hlt : l < H.nx) {n : Nat} {l0 l1 : List (Nat × AV)} (henv : r.env = E n l0) (hps : setParams (E n l0) r.params args = some (E n l1))
    (h : W P T (some l) H n r.assign ⟨l1, [], [], []⟩ fun x s => x = .normal ∧ s.ds = [] ∧ ∃ r1, (s.H H).get l = some (.loop r1) ∧ r1.state = .ready ∧
      W P T (some l) H n r.body (s.upd H [(l, .loop { r1 with state := .busy })] []) fun x2 s2 => s2.ds = [] ∧ match x2 with
        | .normal => REnd H l Post s2 .ready none (.bool true)
        | .ret => REnd H l Post s2 .done (some .ret) (.bool false)
        | .exit id => REnd H l Post s2 .done (some (.exit id)) (.bool false)
        | .panic _ => False) : EvP P T (.round l args) H Post := by
  intro β hh w cargs d i hnow hi hv
  have hgl : getLoop hh l = some r := by unfold getLoop; rw [hnow.get, hl]
  obtain ⟨m, hm, b1, b2, b3, b4, b5, b6, jd, b7, b8⟩ := getLoop_rel hnow.rel hgl hi
  rw [henv] at b3
  obtain ⟨hlen, hE⟩ := setParams_ok _ _ _ _ m.tmps _ hps hv b3
  have hsz : cargs.size = m.params.size := by
    rw [← b4] at hlen; simpa using hlen.symm
  refine ⟨m.fn, _, m.assign, m.body, run_yield hm hsz, ?_⟩
  have htm : (m.params.zip cargs).foldl (fun tmps (t, a) => tmps.setIfInBounds t a) m.tmps = (r.params.zip cargs.toList).foldl (fun t x => t.setIfInBounds x.1 x.2) m.tmps := by
    rw [← b4, ← Array.toList_zip, Array.foldl_toList]
  rw [htm]
  refine roundIn_of_wpIn trivial ?_
  rw [b5, b6]
  have h00 : mkh H [] [] = H := by
    refine HV.eq_of rfl ?_
    funext b
    simp only [mkh, lk, Option.none_or, List.getElem?_nil]
    by_cases hlt : b < H.nx
    · rw [if_pos hlt]
    · rw [if_neg hlt, ← hnow.get, Heap.get_def, if_neg (by rw [hnow.nx]; exact hlt)]
  have q0 : Here T H n ⟨l1, [], [], []⟩ β hh w ((r.params.zip cargs.toList).foldl (fun t x => t.setIfInBounds x.1 x.2) m.tmps) [] := ⟨by show Now T β hh w (mkh H [] []); rw [h00]; exact hnow, hE, rfl, hnow.base⟩
  have hrl : ∀ l', some l = some l' → l' < H.nx := by intro l' e; injection e with e; subst e; exact hlt
  refine h hrl (some i.c) d { tmps := _, defers := [] } w β hh ⟨i, hi, rfl⟩ q0 _ ?_
  rintro x s1 a1 w1 β1 h1 ⟨rfl, hd1, r1, hr1, hst, hW⟩ q1 t1
  have hi1 : β1 l = some i := by rw [t1.same l hlt]; exact hi
  have hgl1 : getLoop h1 l = some r1 := by unfold getLoop; rw [q1.now.get, hr1]
  obtain ⟨m1, hm1, c1, c2, c3, c4, c5, c6, jd1, c7, c8⟩ := getLoop_rel q1.now.rel hgl1 hi1
  have hms : m1.state = .ready := by rw [hst] at c1; exact c1
  refine ⟨_, run_beginRound hm1 hms, ?_⟩
  have hto2 := loop_set q1.now.rel hi1 hgl1 (lp' := { r1 with state := .busy }) (m' := { m1 with state := .busy }) ⟨rfl, c2, c3, c4, c5, c6, jd1, c7, c8⟩
  -- a record is written
  have wr : ∀ {s1 : St} {h1 : Heap} {w1 : World} {β1 : Bm} {tmps : Array Value} {ds : List Deferred} {o : AO} {w2 : World}, Here T H n s1 β1 h1 w1 tmps ds → l < h1.nx → To T.G β1 h1 w1 β1 (h1.set l o) w2 →
      Here T H n (s1.upd H [(l, o)] []) β1 (h1.set l o) w2 tmps ds ∧ Tw T H.nx β1 h1 w1 β1 (h1.set l o) w2 ((s1.upd H [(l, o)] []).H H) := by
    intro s1 h1 w1 β1 tmps ds o w2 q hlt3 hto
    refine q.step (us := [(l, o)]) (ns := []) (fun p hp => by rw [List.mem_singleton] at hp; subst hp; rw [← q.now.nx]; exact hlt3) ?_
    refine Tw.of_to q.now hto (Nat.le_refl _) (by rw [Heap.nx_set, q.now.nx]; rfl) ?_
    have h5 := sets_get [(l, o)] h1 (fun p hp => by rw [List.mem_singleton] at hp; subst hp; exact hlt3)
    have h6 := pushes_get [] (h1.sets [(l, o)])
    simp only [Heap.sets_cons, Heap.sets_nil, Heap.pushes_nil, Heap.nx_set] at h5 h6
    rw [h6, h5, q.now.get, q.now.nx]
    rfl
  obtain ⟨q2, t2⟩ := wr q1 (Heap.get_lt (getLoop_some hgl1)) hto2
  have hn0 : Now T β hh w H := hnow
  have t12 := t1.trans hn0 t2 (Nat.le_refl _)
  refine hW hrl (some i.c) d a1 _ β1 _ ⟨i, hi1, rfl⟩ q2 _ ?_
  rintro x2 s2 a2 w2 β2 h2 ⟨hd2, hq2⟩ q3 t3
  have t13 := t12.trans hn0 t3 (Nat.le_refl _)
  have hi2 : β2 l = some i := by rw [t13.same l hlt]; exact hi
  have fin : ∀ {st : LState} {st' : LoopState} {pd : Option Code} {v : AV} {u : Value}, REnd H l Post s2 st pd v → LSR st st' → (∀ β, VR β v u) →
      ∀ (mm : Loop), w2.heap[i.c]? = some (.loop mm) → ∃ β' h' r H', Post r H' ∧ ResR β' r (.returned u) ∧ Tw T H.nx β hh w β' h' (w2.putObj i.c (.loop { mm with state := st', pending := pd })) H' := by
    rintro st st' pd v u ⟨r2, hr2, sel, hd, hp⟩ hls hvu mm hmm
    have hgl2 : getLoop h2 l = some r2 := by unfold getLoop; rw [q3.now.get, hr2]
    obtain ⟨m2, hm2, d1, d2, d3, d4, d5, d6, jd2, d7, d8⟩ := getLoop_rel q3.now.rel hgl2 hi2
    rw [hmm] at hm2; injection hm2 with hm2; injection hm2 with hm2; subst hm2
    have hto4 := loop_set q3.now.rel hi2 hgl2 (lp' := { r2 with state := st, pending := pd }) (m' := { mm with state := st', pending := pd }) ⟨hls, rfl, d3, d4, d5, d6, jd2, d7, d8⟩
    obtain ⟨q4, t4⟩ := wr q3 (Heap.get_lt (getLoop_some hgl2)) hto4
    obtain ⟨β3, h3, g1, g2, g3, g4⟩ := q4.now.gc q4.base hd
    have t14 := t13.trans hn0 t4 (Nat.le_refl _)
    exact ⟨β3, h3, _, _, hp, hvu β3, t14.gc g3 g2 g4⟩
  cases x2 with
  | normal =>
    simp only at hq2
    have hq3 := hq2
    obtain ⟨r2, hr2, _⟩ := hq3
    obtain ⟨m2, hm2, _⟩ := getLoop_rel q3.now.rel (by unfold getLoop; rw [q3.now.get, hr2] : getLoop h2 l = some r2) hi2
    exact ⟨_, _, run_endRound none hm2, fin (v := .bool true) (u := .bool true) hq2 rfl (fun _ => rfl) m2 hm2⟩
  | ret =>
    simp only at hq2
    have hq3 := hq2
    obtain ⟨r2, hr2, _⟩ := hq3
    obtain ⟨m2, hm2, _⟩ := getLoop_rel q3.now.rel (by unfold getLoop; rw [q3.now.get, hr2] : getLoop h2 l = some r2) hi2
    exact ⟨_, _, run_endRound (some .ret) hm2, fin (v := .bool false) (u := .bool false) hq2 rfl (fun _ => rfl) m2 hm2⟩
  | exit id =>
    simp only at hq2
    have hq3 := hq2
    obtain ⟨r2, hr2, _⟩ := hq3
    obtain ⟨m2, hm2, _⟩ := getLoop_rel q3.now.rel (by unfold getLoop; rw [q3.now.get, hr2] : getLoop h2 l = some r2) hi2
    exact ⟨_, _, run_endRound (some (.exit id)) hm2, fin (v := .bool false) (u := .bool false) hq2 rfl (fun _ => rfl) m2 hm2⟩
  | panic v => exact hq2.elim

end
end Go.Ai
