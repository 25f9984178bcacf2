/- AiWE -/
import Derived.Test.YthgkkbaaedefhaaAiWD
set_option linter.unusedVariables false
set_option linter.unusedSimpArgs false
namespace Go.Ai
open Go
noncomputable section
variable {P : Program} {T : Types} {F : Funcs}

theorem clash2_false {a f : FP} (h : clash2 a f = false) : a.clash f = false ∧ (a.all = true → f.al = false) := by
  unfold clash2 at h
  simp only [Bool.or_eq_false_iff, Bool.and_eq_false_iff] at h
  refine ⟨h.1, fun ha => ?_⟩
  rcases h.2 with x | x
  · rw [ha] at x; cases x
  · exact x
theorem clashes2_ok {fs : List FP} {n : Nat} {f : FP} : ∀ {l : List Nat}, clashes2 fs n f l = false → ∀ i ∈ l, ∀ x, fs[n - 1 - i]? = some x → clash2 x f = false
  | [], _, i, hi => by cases hi
  | j :: r, h, i, hi => by
    intro x hx
    simp only [clashes2, Bool.or_eq_false_iff] at h
    rcases List.mem_cons.1 hi with rfl | hi
    · rw [hx] at h; exact h.1
    · exact clashes2_ok h.2 i hi x hx

/-- One operation, as the interpreter has it. -/
theorem wopF_xop {hb : HV} {n : Nat} {s : St} {o : Oper} {k : Res → St → FP → Prop} (hw : wopF P T hb n s o.op k) {h : Heap} (h1 : h.nx = (s.H hb).nx) (h2 : h.get = (s.H hb).get) :
    ∃ K r s1 f h', KSoundB true P T K ∧ xop T K (E n s.l) h o = some (r, h', f) ∧ k r s1 f ∧ h'.nx = (s1.H hb).nx ∧ h'.get = (s1.H hb).get ∧ s1.l = s.l ∧ s1.ds = s.ds := by
  unfold wopF at hw
  split at hw
  · rename_i c hc
    obtain ⟨req, hreq, hw⟩ := wopt_get hw
    obtain ⟨r, us, ns, hev, hk⟩ := hw
    let h0 : Heap := { h with lo := h.nx }
    have haft := St.aft hb s us ns hev.1
    refine ⟨K1 req (s.H hb) r us ns, r, _, _, { hp ((s.H hb).aft us ns) (if us = [] then h.nx else 0) with lo := bif Nat.ble h.lo (if us = [] then h.nx else 0) then h.lo else (if us = [] then h.nx else 0) }, K1_sound hev, ?_, hk, ?_, ?_, rfl, rfl⟩
    · unfold xop
      rw [hc]
      dsimp only
      rw [h2, hreq]
      dsimp only
      rw [K1_at (h := h0) h1 h2]
      simp only [hp_lo, h0, FP.call]
      cases us with
      | nil => simp [bltF.2 (Nat.le_refl h.nx)]
      | cons p l =>
        have := hev.1 p List.mem_cons_self
        simp only [reduceCtorEq, if_false, List.isEmpty_cons, Bool.not_false]
        rw [bltT.2 (by omega)]
    · show (hp ((s.H hb).aft us ns) (if us = [] then h.nx else 0)).nx = _
      rw [hp_nx, haft]
    · show (hp ((s.H hb).aft us ns) (if us = [] then h.nx else 0)).get = _
      rw [hp_get _ _ (aft_none _ _ _), haft]
  · rename_i hc
    split at hw
    · rename_i x hx
      obtain ⟨t, v, hv, hk⟩ := hw
      exact ⟨K0, _, s, _, h, K0_sound, by unfold xop; rw [hc]; dsimp only; rw [hx]; dsimp only; rw [hv], hk, h1, h2, rfl, rfl⟩
    · rename_i hx
      obtain ⟨out, ho, hk⟩ := wopt_get hw
      have hat : hb.at s.ns.length = h.nx := by rw [h1]; rfl
      rw [hat, ← h2] at ho
      have hlt := aop_lt ho
      have haft := St.aft hb s out.up out.nw (by rw [← h1]; exact hlt)
      refine ⟨K0, _, _, _, h.apply out, K0_sound, by unfold xop; rw [hc]; dsimp only; rw [hx]; dsimp only; rw [ho], hk, ?_, ?_, rfl, rfl⟩
      · rw [apply_nx, ← haft, h1]; rfl
      · rw [← haft]
        unfold Heap.apply
        rw [pushes_get, sets_get _ _ hlt, Heap.nx_sets, h2, h1]
        rfl

theorem Run.Ok.K_upd {K K' : Nat → Caller} {all : List Oper} {frs : List (List Nat)} {R : Run} {n : Nat} (hR : R.Ok T K all frs n) (h : ∀ i, i < n → K' i = K i) : R.Ok T K' all frs n :=
  ⟨fun i hi => by rw [h i hi]; exact hR.op i hi, hR.cl⟩

def updK (K : Nat → Caller) (n : Nat) (Kn : Caller) : Nat → Caller := fun i => if i = n then Kn else K i
theorem updK_at (K : Nat → Caller) (n : Nat) (Kn : Caller) : updK K n Kn n = Kn := by simp [updK]
theorem updK_ne (K : Nat → Caller) {n i : Nat} (Kn : Caller) (h : i ≠ n) : updK K n Kn i = K i := by simp [updK, h]
theorem updK_sound {K : Nat → Caller} {n : Nat} {Kn : Caller} (h : ∀ i, KSoundB true P T (K i)) (hn : KSoundB true P T Kn) : ∀ i, KSoundB true P T (updK K n Kn i) := by
  intro i
  by_cases hi : i = n
  · subst hi; rw [updK_at]; exact hn
  · rw [updK_ne K Kn hi]; exact h i

/-- The run of a region. -/
theorem wopsD_run {all : List Oper} {frs0 : List (List Nat)} {ms : List Nat} {hb : HV} {nn : Nat} {e0 : Env} {Q : Option AV → St → Prop} {ds0 : List ADef} :
    ∀ (l : List Oper) (l1 : List SOp) (n : Nat) (frs : List (List Nat)) (fs : List FP) (R : Run) (K : Nat → Caller) (s : St), l = all.drop n → strip all l = some l1 → frs = frs0.drop n → fs.length = n → (∀ i, i < n → fs[n - 1 - i]? = some (R.f i)) →
      (∀ i, KSoundB true P T (K i)) → R.Ok T K all frs0 n → (∀ j, j < n → ∀ fr, frs0[j]? = some fr → ∀ i ∈ fr, i < j → (R.f i).all = true → (R.f j).al = false) → n ≤ all.length →
      R.E n = E nn s.l → (R.H n).nx = (s.H hb).nx → (R.H n).get = (s.H hb).get → s.ds = ds0 →
      wopsD P T hb nn ms l1 frs n fs s Q →
      ∃ (R' : Run) (K' : Nat → Caller) (m : Nat) (p : Option AV) (e' : Env) (h' : Heap) (s' : St), (∀ i, KSoundB true P T (K' i)) ∧ R'.Ok T K' all frs0 m ∧ (∀ i, i ≤ n → R'.E i = R.E i ∧ R'.H i = R.H i) ∧ n ≤ m ∧
        (∀ j, j < m → ∀ fr, frs0[j]? = some fr → ∀ i ∈ fr, i < j → (R'.f i).all = true → (R'.f j).al = false) ∧ RunEnd T K' all frs0 ms e0 R' m e' h' p ∧ Q p s' ∧ h'.nx = (s'.H hb).nx ∧ h'.get = (s'.H hb).get ∧ s'.ds = ds0 ∧
        (match p with | none => e' = E nn s'.l | some _ => s'.l = [])
  | [], l1, n, frs, fs, R, K, s, hl, hs, _, _, _, hK, hR, hal, hn, hE, hx, hg, hds, hw => by
    simp only [strip] at hs; injection hs with hs; subst hs
    simp only [wopsD] at hw
    have : all.length ≤ n := by
      have := congrArg List.length hl
      simp at this; omega
    exact ⟨R, K, n, none, R.E n, R.H n, s, hK, hR, fun i _ => ⟨rfl, rfl⟩, Nat.le_refl _, hal, ⟨by omega, rfl, rfl⟩, hw, hx, hg, hds, hE⟩
  | o :: l, l1, n, frs, fs, R, K, s, hl, hs, hfrs, hfl, hfs, hK, hR, hal, hn, hE, hx, hg, hds, hw => by
    have ho : all[n]? = some o := by
      have : (all.drop n)[0]? = some o := by rw [← hl]; rfl
      rw [List.getElem?_drop] at this
      simpa using this
    have hnl : n < all.length := (List.getElem?_eq_some_iff.1 ho).1
    have hl' : l = all.drop (n + 1) := by
      have : (o :: l).drop 1 = (all.drop n).drop 1 := by rw [hl]
      simpa [List.drop_drop] using this
    simp only [strip] at hs
    split at hs
    · rename_i x l2 hx1 hl2
      injection hs with hs; subst hs
      obtain ⟨g1, g2, g3⟩ := strip1_wanted hx1 nn s
      cases frs with
      | nil => simp only [wopsD] at hw
      | cons fr frs =>
        have hfr : frs0[n]? = some fr := by
          have : (frs0.drop n)[0]? = some fr := by rw [← hfrs]; rfl
          rw [List.getElem?_drop] at this
          simpa using this
        have hfrs' : frs = frs0.drop (n + 1) := by
          have : (fr :: frs).drop 1 = (frs0.drop n).drop 1 := by rw [hfrs]
          simpa [List.drop_drop] using this
        simp only [wopsD, ← g1, g2, g3] at hw
        -- one step further
        have next : ∀ {v : AV} {f : FP} {ran : Bool} {hh : Heap} {Kn : Caller} {s2 : St}, KSoundB true P T Kn → wantedA all (R.E n) o = some ran → (R.E n).put o.dst v = some (E nn s2.l) →
            (ran = true → xop T Kn (R.E n) (R.H n) o = some (.ret v, hh, f)) → (ran = false → v = .tup [] ∧ hh = R.H n ∧ f = FP.nil) → (∀ j ∈ fr, j < n → clash2 (R.f j) f = false) →
            hh.nx = (s2.H hb).nx → hh.get = (s2.H hb).get → s2.ds = ds0 → wopsD P T hb nn ms l2 frs (n + 1) (f :: fs) s2 Q →
            ∃ (R' : Run) (K' : Nat → Caller) (m : Nat) (p : Option AV) (e' : Env) (h' : Heap) (s' : St), (∀ i, KSoundB true P T (K' i)) ∧ R'.Ok T K' all frs0 m ∧ (∀ i, i ≤ n → R'.E i = R.E i ∧ R'.H i = R.H i) ∧ n ≤ m ∧
              (∀ j, j < m → ∀ fr, frs0[j]? = some fr → ∀ i ∈ fr, i < j → (R'.f i).all = true → (R'.f j).al = false) ∧ RunEnd T K' all frs0 ms e0 R' m e' h' p ∧ Q p s' ∧ h'.nx = (s'.H hb).nx ∧ h'.get = (s'.H hb).get ∧ s'.ds = ds0 ∧
              (match p with | none => e' = E nn s'.l | some _ => s'.l = []) := by
          intro v f ran hh Kn s2 hKn hwn hp hr1 hr2 hcl k1 k2 k3 k4
          have hok : (R.upd n v f ran (E nn s2.l) hh).Ok T (updK K n Kn) all frs0 (n + 1) := by
            refine (hR.K_upd (K' := updK K n Kn) (fun i hi => updK_ne K Kn (by omega))).upd ho hwn hp (fun h => by rw [updK_at]; exact hr1 h) hr2 ?_
            intro fr' hfr' j hj hjn
            rw [hfr] at hfr'; injection hfr' with hfr'; subst hfr'
            exact (clash2_false (hcl j hj hjn)).1
          have hf : ∀ i, i < n → (R.upd n v f ran (E nn s2.l) hh).f i = R.f i := by intro i hi; simp only [Run.upd]; rw [if_neg (by omega)]
          have hfn : (R.upd n v f ran (E nn s2.l) hh).f n = f := by simp [Run.upd]
          obtain ⟨R', K', m, p, e', h', s', q0, q1, q2, q3, q4, q5, q6⟩ := wopsD_run (e0 := e0) l l2 (n + 1) frs (f :: fs) (R.upd n v f ran (E nn s2.l) hh) (updK K n Kn) s2 hl' hl2 hfrs' (by simp [hfl]) (by
            intro i hi
            by_cases hin : i = n
            · subst hin; simp [Run.upd]
            · rw [show n + 1 - 1 - i = (n - 1 - i) + 1 by omega, List.getElem?_cons_succ, hfs i (by omega)]
              simp [Run.upd, hin]) (updK_sound hK hKn) hok (by
            intro j hj fr' hfr' i hi hij ha
            by_cases hjn : j = n
            · subst hjn
              rw [hfr] at hfr'; injection hfr' with hfr'; subst hfr'
              rw [hfn]
              rw [hf i hij] at ha
              exact (clash2_false (hcl i hi hij)).2 ha
            · rw [hf j (by omega)]
              rw [hf i (by omega)] at ha
              exact hal j (by omega) fr' hfr' i hi hij ha) (by omega) (by simp [Run.upd]) (by simp only [Run.upd, if_pos]; exact k1) (by simp only [Run.upd, if_pos]; exact k2) k3 k4
          refine ⟨R', K', m, p, e', h', s', q0, q1, fun i hi => ?_, by omega, q4, q5, q6⟩
          obtain ⟨a1, a2⟩ := q2 i (by omega)
          have : i ≠ n + 1 := by omega
          rw [a1, a2]
          simp [Run.upd, this]
        cases hb1 : wantedA all (E nn s.l) o with
        | none => rw [hb1] at hw; exact hw.elim
        | some b =>
          rw [hb1] at hw
          cases b with
          | false =>
            rw [wgd_false] at hw
            obtain ⟨s1, h1, h2, h3, h4, h5⟩ := wput_ok hw
            exact next (Kn := K0) K0_sound (by rw [hE]; exact hb1) (by rw [hE]; exact h2) (fun h => by cases h) (fun _ => ⟨rfl, rfl, rfl⟩) (by
              intro j _ _
              simp [clash2, FP.clash_eq, FP.any_eq, FP.nil, meet_eq]) (by rw [H_eq h4 h5]; exact hx) (by rw [H_eq h4 h5]; exact hg) (h3.trans hds) h1
          | true =>
            rw [wgd_true] at hw
            obtain ⟨Kn, r, s1, f, h', c1, c2, ⟨c3, c4⟩, c5, c6, c7, c8⟩ := wopF_xop hw hx hg
            have hcl : ∀ j ∈ fr, j < n → clash2 (R.f j) f = false := by
              intro j hj hjn
              exact clashes2_ok c3 j hj _ (hfs j hjn)
            cases r with
            | ret v =>
              simp only at c4
              obtain ⟨s2, h1, h2, h3, h4, h5⟩ := wput_ok c4
              exact next c1 (by rw [hE]; exact hb1) (by rw [hE, ← c7]; exact h2) (fun _ => by rw [hE]; exact c2) (fun h => by cases h) hcl (by rw [H_eq h4 h5]; exact c5) (by rw [H_eq h4 h5]; exact c6) (h3.trans (c8.trans hds)) h1
            | pan v =>
              simp only at c4
              refine ⟨R, updK K n Kn, n, some v, forget e0 all, h', { s1 with l := [] }, updK_sound hK c1, hR.K_upd (fun i hi => updK_ne K Kn (by omega)), fun i _ => ⟨rfl, rfl⟩, Nat.le_refl _, hal, ?_, c4.2, c5, c6, c8.trans hds, rfl⟩
              exact ⟨o, f, ho, by rw [hE]; exact hb1, by rw [updK_at, hE]; exact c2, rfl, fun fr' hfr' j hj hjn => by
                rw [hfr] at hfr'; injection hfr' with hfr'; subst hfr'
                exact (clash2_false (hcl j hj hjn)).1, c4.1⟩
    · cases hs

theorem E_nil_of {β : Bm} {e : Env} {tmps : Array Value} {n : Nat} (h : ER β e tmps) (hn : e.n = n) : ER β (E n []) tmps := ER_weak h (fun p hp => by cases hp) hn

theorem wopsD_ok (hT : TOk P T F) {ops : Array Oper} {rnd : Option Nat} {hb : HV} {n : Nat} {d id : Nat} {Q : Exit → Act → World → Prop} {Q0 : Option AV → St → Prop} {ms : List Nat} {frs : List (List Nat)} {l1 : List SOp}
    (hfr : frees ops.toList = some (ms, frs)) (hs : strip ops.toList ops.toList = some l1) {s : St} {a : Act} {w : World} {β : Bm} {h : Heap} (hw : wopsD P T hb n ms l1 frs 0 [] s Q0) (q : Here T hb n s β h w a.tmps a.defers)
    (post : ∀ p s' a' w' β' h', Q0 p s' → Here T hb n s' β' h' w' a'.tmps a'.defers → Tw T hb.nx β h w β' h' w' (s'.H hb) → match p with
        | none => Q .normal a' w'
        | some v => ∀ u, VR β' v u → Q (.panic [{ v := u, recovered := false }]) a' w') : (Code.region id ops true).wpIn (Fw rnd) d P Q a w := by
  let R0 : Run := ⟨fun _ => E n s.l, fun _ => h, fun _ => .undef, fun _ => FP.nil, fun _ => false⟩
  obtain ⟨R, K, m, p, e', h', s', c1, c2, c3, _, c5, c6, c7, c8, c9, c10, c11⟩ := wopsD_run (e0 := E n s.l) (ds0 := s.ds) ops.toList l1 0 frs [] R0 (fun _ => K0) s rfl hs rfl rfl (fun i hi => by omega) (fun _ => K0_sound) ⟨fun i hi => by omega, fun i hi => by omega⟩ (fun j hj => by omega) (Nat.zero_le _) rfl q.now.nx q.now.get rfl hw
  obtain ⟨hE0, hH0⟩ := c3 0 (Nat.le_refl _)
  have hS := frees_ok hfr
  have hfree : ∀ b, h.nx ≤ b → β b = none := fun b hb' => q.now.fresh b (by rw [← q.now.nx]; exact hb')
  refine region_run hT (h := h) (h' := h') (e := E n s.l) (e' := e') (p := p) (n := m) c1 (fun _ => ⟨hfree, ?_⟩) hfr c2 hE0 hH0 c6 q.env q.now.rel (fun b b1 _ => hfree b b1) ?_
  · intro i j hij hjm hbf hall
    obtain ⟨oj, ho1, _⟩ := c2.op j hjm
    obtain ⟨oi, ho2, _⟩ := c2.op i (by omega)
    obtain ⟨fr, f1, f2⟩ := hS.free j oj ho1
    exact c5 j hjm fr f1 i (f2 i oi hij ho2 hbf).1 hij hall
  · intro a' w' β' hto he hd'
    have hle : hb.nx ≤ (s.H hb).nx := by simp only [St.H, mk_nx]; omega
    have tw : Tw T (s.H hb).nx β h w β' h' w' (s'.H hb) := Tw.of_to q.now hto (Nat.le_refl _) c8 c9
    have tw' : Tw T hb.nx β h w β' h' w' (s'.H hb) := ⟨tw.now, fun b hb' => tw.same b (Nat.lt_of_lt_of_le hb' hle), tw.kept, tw.lin⟩
    have hdf : DRs β' s'.ds a'.defers := by rw [c10, hd']; exact DRs_same q.now.fresh tw.same q.dfs
    cases p with
    | none =>
      simp only at c11
      rw [c11] at he
      exact post none s' a' w' β' h' c7 ⟨tw.now, he, hdf, q.base.same tw'.same⟩ tw'
    | some v =>
      simp only at c11
      intro u hu
      have hen : ER β' (E n s'.l) a'.tmps := by rw [c11]; exact E_nil_of he (by obtain ⟨o, f, _, _, _, e1, _⟩ := c6; rw [e1, forget_n]; rfl)
      exact post (some v) s' a' w' β' h' c7 ⟨tw.now, hen, hdf, q.base.same tw'.same⟩ tw' u hu

end
end Go.Ai
