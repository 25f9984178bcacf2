/- AiWF -/
import Derived.Test.YthgkkbaaedefhaaAiWE
set_option linter.unusedVariables false
set_option linter.unusedSimpArgs false
namespace Go.Ai
open Go
noncomputable section
set_option linter.unusedVariables false
variable {P : Program} {T : Types} {F : Funcs}

/-- What code ends in: how it is left, and what holds then. 'rA': the loop over a function in whose round it runs. -/
def W (P : Program) (T : Types) (rA : Option Nat) (hb : HV) (n : Nat) (c : Code) (s : St) (Q : AX → St → Prop) : Prop :=
  (∀ l, rA = some l → l < hb.nx) → ∀ rnd d a w β h, RndOk β rA rnd → Here T hb n s β h w a.tmps a.defers →
    ∀ Qm : Exit → Act → World → Prop, (∀ x s' a' w' β' h', Q x s' → Here T hb n s' β' h' w' a'.tmps a'.defers → Tw T hb.nx β h w β' h' w' (s'.H hb) → XQ Qm β' a' w' x) → c.wpIn (Fw rnd) d P Qm a w

/-- The same of calls, with a memory that is told of alone. -/
def EvP (P : Program) (T : Types) (req : Req) (H : HV) (Post : Res → HV → Prop) : Prop :=
  match req with
  | .func f args => ∀ β h w cargs n, Now T β h w H → VRs β args cargs.toList →
      (∃ fn, P.funcs[f]? = some fn ∧ fn.body.isSome = true ∧ fn.name ≠ "runtime.NumGoroutine") ∧ CallsIn Fence.wide n P f cargs w fun e w' => ∃ β' h' r H', Post r H' ∧ ResR β' r e ∧ Tw T H.nx β h w β' h' w' H'
  | .round l args => ∀ β h w cargs n i, Now T β h w H → β l = some i → VRs β args cargs.toList →
      ∃ f tmps assign body, (Instr.yield i.c cargs).run P w = .ok (.round i.c f tmps assign body) w ∧ RoundIn Fence.wide n P i.c f tmps assign body w fun e w' => ∃ β' h' r H', Post r H' ∧ ResR β' r e ∧ Tw T H.nx β h w β' h' w' H'

theorem Ev.p {req : Req} {H : HV} {r : Res} {us : List (Nat × AO)} {ns : List AO} (h : Ev P T req H r us ns) : EvP P T req H (fun r' H' => r' = r ∧ H' = H.aft us ns) := by
  cases req with
  | func f args =>
    intro β hh w cargs n h1 h2
    obtain ⟨e1, e2⟩ := h.2 β hh w cargs n h1 h2
    refine ⟨e1, e2.mono ?_⟩
    rintro e w' ⟨β', h', q1, q2⟩
    exact ⟨β', h', r, H.aft us ns, ⟨rfl, rfl⟩, q1, q2⟩
  | round l args =>
    intro β hh w cargs n i h1 h2 h3
    obtain ⟨f, t, a, b, e1, e2⟩ := h.2 β hh w cargs n i h1 h2 h3
    refine ⟨f, t, a, b, e1, e2.mono ?_⟩
    rintro e w' ⟨β', h', q1, q2⟩
    exact ⟨β', h', r, H.aft us ns, ⟨rfl, rfl⟩, q1, q2⟩

theorem EvP.e {req : Req} {H : HV} {r : Res} {us : List (Nat × AO)} {ns : List AO} (h : EvP P T req H (fun r' H' => r' = r ∧ H' = H.aft us ns)) (hu : ∀ p ∈ us, p.1 < H.nx) : Ev P T req H r us ns := by
  refine ⟨hu, ?_⟩
  cases req with
  | func f args =>
    intro β hh w cargs n h1 h2
    obtain ⟨e1, e2⟩ := h β hh w cargs n h1 h2
    refine ⟨e1, e2.mono ?_⟩
    rintro e w' ⟨β', h', r', H', ⟨rfl, rfl⟩, q1, q2⟩
    exact ⟨β', h', q1, q2⟩
  | round l args =>
    intro β hh w cargs n i h1 h2 h3
    obtain ⟨f, t, a, b, e1, e2⟩ := h β hh w cargs n i h1 h2 h3
    refine ⟨f, t, a, b, e1, e2.mono ?_⟩
    rintro e w' ⟨β', h', r', H', ⟨rfl, rfl⟩, q1, q2⟩
    exact ⟨β', h', q1, q2⟩

theorem EvP.mono {req : Req} {H : HV} {Po Po' : Res → HV → Prop} (h : EvP P T req H Po) (hi : ∀ r H', Po r H' → Po' r H') : EvP P T req H Po' := by
  cases req with
  | func f args =>
    intro β hh w cargs n h1 h2
    obtain ⟨e1, e2⟩ := h β hh w cargs n h1 h2
    exact ⟨e1, e2.mono fun e w' ⟨β', h', r', H', p, q1, q2⟩ => ⟨β', h', r', H', hi _ _ p, q1, q2⟩⟩
  | round l args =>
    intro β hh w cargs n i h1 h2 h3
    obtain ⟨f, t, a, b, e1, e2⟩ := h β hh w cargs n i h1 h2 h3
    exact ⟨f, t, a, b, e1, e2.mono fun e w' ⟨β', h', r', H', p, q1, q2⟩ => ⟨β', h', r', H', hi _ _ p, q1, q2⟩⟩

variable {rA : Option Nat} {hb : HV} {n : Nat} {s : St} {Q : AX → St → Prop}

theorem W.mono {c : Code} {Q' : AX → St → Prop} (h : W P T rA hb n c s Q) (hi : ∀ x s', Q x s' → Q' x s') : W P T rA hb n c s Q' :=
  fun hl rnd d a w β hh hr q Qm post => h hl rnd d a w β hh hr q Qm fun x s' a' w' β' h' hq => post x s' a' w' β' h' (hi x s' hq)

theorem W_skip (h : Q .normal s) : W P T rA hb n .skip s Q :=
  fun _ rnd d a w β hh hr q Qm post => wpIn_skip (post .normal s a w β hh h q (Tw.refl q.now))
theorem W_label {l : Nat} (h : Q .normal s) : W P T rA hb n (.label l) s Q :=
  fun _ rnd d a w β hh hr q Qm post => wpIn_label (post .normal s a w β hh h q (Tw.refl q.now))
theorem W_exit {i : Nat} (h : Q (.exit i) s) : W P T rA hb n (.exit i) s Q :=
  fun _ rnd d a w β hh hr q Qm post => wpIn_exit (post (.exit i) s a w β hh h q (Tw.refl q.now))
theorem W_ret (h : Q .ret s) : W P T rA hb n .ret s Q :=
  fun _ rnd d a w β hh hr q Qm post => wpIn_ret (post .ret s a w β hh h q (Tw.refl q.now))
theorem W_scope {c : Code} (h : W P T rA hb n c s Q) : W P T rA hb n (.scope c) s Q := by
  intro hl rnd d a w β hh hr q Qm post
  refine wpIn_scope_straight (h hl rnd d a w β hh hr q _ fun x s' a' w' β' h' hq q' t => ?_)
  have := post x s' a' w' β' h' hq q' t
  cases x <;> exact this

theorem RndOk.same {β β' : Bm} {N : Nat} (hs : ∀ b, b < N → β' b = β b) : ∀ {a r : Option Nat}, (∀ l, a = some l → l < N) → RndOk β a r → RndOk β' a r
  | none, _, _, x => x
  | some l, _, hl, ⟨i, e, x⟩ => ⟨i, by rw [hs l (hl l rfl)]; exact e, x⟩

def axOf : Option AV → AX
  | none => .normal
  | some v => .panic v

theorem W_region {id : Nat} {ops : Array Oper} {l : List SOp} (hs : strip ops.toList ops.toList = some l) (hT : TOk P T F) (h : wops P T rA.isNone hb n l s fun p s' => Q (axOf p) s') : W P T rA hb n (.region id ops false) s Q := by
  intro hl rnd d a w β hh hr q Qm post
  refine wpIn_region ?_
  have hlen : List.range ops.size = List.range' 0 ops.toList.length := by rw [List.range_eq_range']; simp
  rw [hlen]
  refine wops_ok hT (rnd := rnd) (nd := rA.isNone) (fun hn => ?_) q.now (fun p s' a' w' β' h' hq q' t => ?_) ops.toList 0 l rfl hs s a w β hh h q (Tw.refl q.now)
  · cases rA with
    | none => exact hr
    | some l => cases hn
  · have := post _ s' a' w' β' h' hq q' t
    cases p <;> exact this

theorem W_regionD {id : Nat} {ops : Array Oper} {l : List SOp} {ms : List Nat} {frs : List (List Nat)} (hf : frees ops.toList = some (ms, frs)) (hs : strip ops.toList ops.toList = some l) (hT : TOk P T F) (h : wopsD P T hb n ms l frs 0 [] s fun p s' => Q (axOf p) s') : W P T rA hb n (.region id ops true) s Q := by
  intro hl rnd d a w β hh hr q Qm post
  refine wopsD_ok hT hf hs h q (fun p s' a' w' β' h' hq q' t => ?_)
  have := post _ s' a' w' β' h' hq q' t
  cases p <;> exact this

theorem W_seq {a b : Code} (h : W P T rA hb n a s fun x s' => match x with | .normal => W P T rA hb n b s' Q | x => Q x s') : W P T rA hb n (.seq a b) s Q := by
  intro hl rnd d ac w β hh hr q Qm post
  refine wpIn_seq (h hl rnd d ac w β hh hr q _ fun x s' a' w' β' h' hq q' t => ?_)
  cases x with
  | normal =>
    exact hq hl rnd d a' w' β' h' (hr.same t.same hl) q' Qm fun x2 s2 a2 w2 β2 h2 hq2 q2 t2 => post x2 s2 a2 w2 β2 h2 hq2 q2 (t.trans q.now t2 (Nat.le_refl _))
  | exit i => exact post (.exit i) s' a' w' β' h' hq q' t
  | ret => exact post .ret s' a' w' β' h' hq q' t
  | panic v => exact post (.panic v) s' a' w' β' h' hq q' t

theorem W_cond {c : Operand} {a b : Code} {t : Bool} (he : ev T (E n s.l) c = some (.bool t)) (h1 : t = true → W P T rA hb n a s Q) (h2 : t = false → W P T rA hb n b s Q) : W P T rA hb n (.cond c a b) s Q := by
  intro hl rnd d ac w β hh hr q Qm post
  have hev : ac.eval c = .bool t := ev_ok q.now.rel rfl q.env he
  refine wpIn_cond hev ?_
  cases t with
  | true => exact h1 rfl hl rnd d ac w β hh hr q Qm post
  | false => exact h2 rfl hl rnd d ac w β hh hr q Qm post

theorem W_block {id : Nat} {c : Code} (h : W P T rA hb n c s fun x s' => match x with | .exit i => bif Nat.beq i id then Q .normal s' else Q (.exit i) s' | x => Q x s') : W P T rA hb n (.block id c) s Q := by
  intro hl rnd d a w β hh hr q Qm post
  refine wpIn_block (h hl rnd d a w β hh hr q _ fun x s' a' w' β' h' hq q' t => ?_)
  cases x with
  | normal => exact post .normal s' a' w' β' h' hq q' t
  | exit i =>
    simp only at hq
    by_cases hid : i = id
    · subst hid
      rw [beqT.2 rfl] at hq
      have := post .normal s' a' w' β' h' hq q' t
      simp only [XQ, Exit.inBlock, if_true] at this ⊢
      exact this
    · rw [beqF.2 hid] at hq
      have := post (.exit i) s' a' w' β' h' hq q' t
      simp only [XQ, Exit.inBlock, hid, if_false] at this ⊢
      exact this
  | ret => exact post .ret s' a' w' β' h' hq q' t
  | panic v => exact post (.panic v) s' a' w' β' h' hq q' t

/-- A loop: 'I m s' holds ahead of each round, and m goes down. -/
theorem W_loop {c : Code} (I : Nat → St → Prop) {m : Nat} (h0 : I m s) (h : ∀ m s, I m s → W P T rA hb n c s fun x s' => match x with | .normal => ∃ m', m' < m ∧ I m' s' | x => Q x s') : W P T rA hb n (.loop c) s Q := by
  intro hl rnd d a w β hh hr q Qm post
  refine wpIn_loop_rounds (m + 1) ?_
  have key : ∀ (k m : Nat) (s1 : St) (a1 : Act) (w1 : World) (β1 : Bm) (h1 : Heap), m < k → I m s1 → RndOk β1 rA rnd → Here T hb n s1 β1 h1 w1 a1.tmps a1.defers → Tw T hb.nx β hh w β1 h1 w1 (s1.H hb) → Code.roundsIn (Fw rnd) d P c Qm k a1 w1 := by
    intro k
    induction k with
    | zero => intro m s1 a1 w1 β1 h1 hm; omega
    | succ k ih =>
      intro m s1 a1 w1 β1 h1 hm hI hr1 q1 t1
      rw [roundsIn_succ]
      refine h m s1 hI hl rnd d a1 w1 β1 h1 hr1 q1 _ fun x s' a' w' β' h' hq q' t => ?_
      cases x with
      | normal =>
        obtain ⟨m', hm', hI'⟩ := hq
        exact ih m' s' a' w' β' h' (by omega) hI' (hr1.same t.same hl) q' (t1.trans q.now t (Nat.le_refl _))
      | exit i => exact post (.exit i) s' a' w' β' h' hq q' (t1.trans q.now t (Nat.le_refl _))
      | ret => exact post .ret s' a' w' β' h' hq q' (t1.trans q.now t (Nat.le_refl _))
      | panic v => exact post (.panic v) s' a' w' β' h' hq q' (t1.trans q.now t (Nat.le_refl _))
  exact key (m + 1) m s a w β hh (by omega) h0 hr q (Tw.refl q.now)

/-! ### Forgetting -/
def gd (τ : Nat → Option Nat) : ADef → ADef
  | .mark b => .mark ((τ b).getD b)
  | .call f args => .call f (gvs τ args)
def gdOk (τ : Nat → Option Nat) : List ADef → Prop
  | [] => True
  | .mark b :: r => (τ b).isSome = true ∧ gdOk τ r
  | .call _ _ :: r => gdOk τ r

/-- Of the slots those of 'keep', of the new blocks those of 'sel'. -/
def gl (τ : Nat → Option Nat) (keep : List Nat) (l : List (Nat × AV)) : List (Nat × AV) := keep.filterMap fun i => (lk l i).map fun v => (i, gv τ v)
def St.gc (hb : HV) (keep sel : List Nat) (s : St) : St := ⟨gl (ta hb sel) keep s.l, s.ds.map (gd (ta hb sel)), gus hb sel s.us, gns hb sel s.ns⟩

theorem DRs_gc {τ : Nat → Option Nat} {β β2 : Bm} (hg : Gd τ β β2) : ∀ {ds : List ADef} {l : List Deferred}, gdOk τ ds → DRs β ds l → DRs β2 (ds.map (gd τ)) l
  | [], _, _, r => r
  | .mark b :: ds, _, hk, ⟨x, l', e, ⟨i, hi, hx⟩, rs⟩ => by
    obtain ⟨b', hb'⟩ := Option.isSome_iff_exists.1 hk.1
    refine ⟨x, l', e, ⟨i, ?_, hx⟩, DRs_gc hg hk.2 rs⟩
    rw [hb']; simp only [Option.getD_some]; rw [hg b b' hb']; exact hi
  | .call f args :: ds, _, hk, ⟨x, l', e, ⟨cap, hc, hv⟩, rs⟩ => ⟨x, l', e, ⟨cap, hc, VRs_gv hg _ _ hv⟩, DRs_gc hg hk rs⟩

theorem ER_gl {τ : Nat → Option Nat} {β β2 : Bm} (hg : Gd τ β β2) {l : List (Nat × AV)} {tmps : Array Value} (h : ER β (E n l) tmps) (keep : List Nat) : ER β2 (E n (gl τ keep l)) tmps := by
  refine ER_sub h fun p hp => ?_
  obtain ⟨i, _, hi⟩ := List.mem_filterMap.1 hp
  obtain ⟨v, hv, rfl⟩ := Option.map_eq_some_iff.1 hi
  exact ⟨v, hv, fun u hu => VR_gv hg v u hu⟩

theorem W_gc {c : Code} (keep sel : List Nat) (hd : ndp sel = true) (hk : gdOk (ta hb sel) s.ds) (h : W P T rA hb n c (s.gc hb keep sel) Q) : W P T rA hb n c s Q := by
  intro hl rnd d a w β hh hr q Qm post
  obtain ⟨β2, h2, g1, g2, g3, g4⟩ := q.now.gc q.base hd
  refine h hl rnd d a w β2 h2 (hr.same g2 hl) ⟨g3, ER_gl g1 q.env keep, DRs_gc g1 hk q.dfs, q.base.same g2⟩ Qm fun x s' a' w' β' h' hq q' t => ?_
  exact post x s' a' w' β' h' hq q' (Tw.ungc g2 g4 t)

/-- Behind the code. -/
theorem W_gcb {c : Code} (h : W P T rA hb n c s fun x s' => ∃ keep sel, ndp sel = true ∧ gdOk (ta hb sel) s'.ds ∧ (∀ v, x ≠ .panic v) ∧ Q x (s'.gc hb keep sel)) : W P T rA hb n c s Q := by
  intro hl rnd d a w β hh hr q Qm post
  refine h hl rnd d a w β hh hr q Qm fun x s' a' w' β' h' hq q' t => ?_
  obtain ⟨keep, sel, hd, hk, hx, hq⟩ := hq
  obtain ⟨β2, h2, g1, g2, g3, g4⟩ := q'.now.gc q'.base hd
  have := post x (s'.gc hb keep sel) a' w' β2 h2 hq ⟨g3, ER_gl g1 q'.env keep, DRs_gc g1 hk q'.dfs, q'.base.same g2⟩ (t.gc g3 g2 g4)
  cases x with
  | panic v => exact absurd rfl (hx v)
  | _ => exact this

/-! ### Functions -/
def par : Nat → List AV → List (Nat × AV)
  | _, [] => []
  | i, a :: r => (i, a) :: par (i + 1) r
theorem lk_par : ∀ (l : List AV) (i j : Nat), lk (par i l) j = if i ≤ j then l[j - i]? else none
  | [], i, j => by simp [par, lk]
  | a :: r, i, j => by
    simp only [par, lk, lk_par r]
    by_cases h : j = i
    · subst h; rw [beqT.2 rfl]; simp
    · rw [beqF.2 h]
      simp only [cond_false]
      by_cases h2 : i ≤ j
      · rw [if_pos h2, if_pos (by omega), show j - i = (j - (i + 1)) + 1 by omega, List.getElem?_cons_succ]
      · rw [if_neg h2, if_neg (by omega)]

theorem par_ok {β : Bm} {n : Nat} {args : List AV} {cargs : Array Value} (hv : VRs β args cargs.toList) (hn : args.length ≤ n) : ER β (E n (par 0 args)) (cargs ++ Array.replicate (n - cargs.size) undef) := by
  have hlen : args.length = cargs.size := by simpa using hv.length
  refine ⟨by show _ = n; simp; omega, fun j => ?_⟩
  rw [E_get, lk_par]
  simp only [Nat.zero_le, if_true, Nat.sub_zero]
  by_cases hj : j < args.length
  · obtain ⟨u, hu, hvu⟩ := hv.get j _ (by simp [hj] : args[j]? = some args[j])
    have hj' : j < cargs.size := by omega
    have : (cargs ++ Array.replicate (n - cargs.size) undef).getD j undef = u := by
      rw [Array.getD_eq_getD_getElem?, Array.getElem?_append_left hj']
      simp only [Array.getElem?_toList] at hu
      rw [hu]; rfl
    rw [this]
    have : args[j]? = some args[j] := by simp [hj]
    rw [this]; exact hvu
  · have : args[j]? = none := by simp; omega
    rw [this]
    by_cases hjn : j < n
    · simp only [if_pos hjn]; trivial
    · simp only [if_neg hjn]
      have hu : (cargs ++ Array.replicate (n - cargs.size) undef).getD j undef = undef := by
        rw [Array.getD_eq_getD_getElem?, Array.getElem?_append_right (by omega), Array.getElem?_replicate]
        split <;> rfl
      rw [hu]; exact undef_ok

def resv1 (T : Types) (e : Env) (g : Getter) : ResultVar → Option AV
  | .tmp t => some (e.get t)
  | .cell a t => match aload T g t (e.get a) with
    | some o => some o.v
    | none => none
def resvl (T : Types) (e : Env) (g : Getter) : List ResultVar → Option (List AV)
  | [] => some []
  | r :: l => match resv1 T e g r, resvl T e g l with
    | some v, some vs => some (v :: vs)
    | _, _ => none
def resv (T : Types) (e : Env) (g : Getter) (l : List ResultVar) : Option AV :=
  match resvl T e g l with
  | some [v] => some v
  | some vs => some (.tup vs)
  | none => none
theorem resv_eq (e : Env) (h : Heap) (l : List ResultVar) : ares T e h l = resv T e h.get l := by
  have h1 : ∀ r, ares1 T e h r = resv1 T e h.get r := by intro r; cases r <;> rfl
  have h2 : ∀ l, aresl T e h l = resvl T e h.get l := by
    intro l
    induction l with
    | nil => rfl
    | cons r l ih => simp only [aresl, resvl, h1, ih]; rfl
  unfold ares resv
  rw [h2]; rfl

/-- How a function's body is left: 'Post' of what is handed back, and of the memory. -/
def Leave (T : Types) (F : Funcs) (hb : HV) (fn : Func) (Post : Res → HV → Prop) (x : AX) (s : St) : Prop :=
  ∃ u, x.mode = some u ∧ ∀ h : Heap, h.nx = (s.H hb).nx → h.get = (s.H hb).get → ∃ u' h' s', closeDefs T F s.ds u h = some (u', h') ∧ h'.nx = (St.H hb s').nx ∧ h'.get = (St.H hb s').get ∧
    match u' with
    | .ret => ∃ v sel, resv T (E fn.ntmps s.l) (s'.H hb).get fn.results.toList = some v ∧ ndp sel = true ∧ Post (.ret (gv (ta hb sel) v)) (mkh hb (gus hb sel s'.us) (gns hb sel s'.ns))
    | .pan v => ∃ sel, ndp sel = true ∧ Post (.pan (gv (ta hb sel) v)) (mkh hb (gus hb sel s'.us) (gns hb sel s'.ns))
    | .rcv _ => False

theorem EvP_func (hT : TOk P T F) {f : Nat} {fn : Func} {c : Code} (hF : F.get f = some fn) (hc : fn.body = some c) {args : List AV} (hn : args.length ≤ fn.ntmps) {H : HV} {Post : Res → HV → Prop}
    (h : W P T none H fn.ntmps c ⟨par 0 args, [], [], []⟩ (Leave T F H fn Post)) : EvP P T (.func f args) H Post := by
  intro β hh w cargs d hnow hv
  obtain ⟨hf1, hname⟩ := hT.fn f fn hF
  refine ⟨⟨fn, hf1, by rw [hc]; rfl, hname⟩, ?_⟩
  refine callsIn_of_wp_marks hf1 hc trivial ?_
  have h00 : mkh H [] [] = H := by
    refine HV.eq_of rfl ?_
    funext b
    simp only [mkh, lk, Option.none_or, List.getElem?_nil]
    by_cases hlt : b < H.nx
    · rw [if_pos hlt]
    · rw [if_neg hlt, ← hnow.get, Heap.get_def, if_neg (by rw [hnow.nx]; exact hlt)]
  have q : Here T H fn.ntmps ⟨par 0 args, [], [], []⟩ β hh w (cargs ++ Array.replicate (fn.ntmps - cargs.size) undef) [] := ⟨by show Now T β hh w (mkh H [] []); rw [h00]; exact hnow, par_ok hv hn, rfl, hnow.base⟩
  refine h (fun l hl => by cases hl) none d { tmps := cargs ++ Array.replicate (fn.ntmps - cargs.size) undef, defers := [] } w β hh rfl q _ ?_
  intro x s' a' w' β' h' hq q' t
  obtain ⟨u, hu, hcl⟩ := hq
  obtain ⟨u', h2, s2, hcl, hx2, hg2, hpost⟩ := hcl h' q'.now.nx q'.now.get
  have hle : H.nx ≤ (s'.H H).nx := by simp only [St.H, mk_nx]; omega
  -- the way out
  have out : ∀ m, DMR β' u m → LeavesInM Fence.wide d P fn a'.tmps (fun e w' => ∃ β' h' r H', Post r H' ∧ ResR β' r e ∧ Tw T H.nx β hh w β' h' w' H') a'.defers m w' := by
    intro m hm
    refine closeDefs_ok hT _ _ _ hcl _ _ _ _ q'.dfs hm q'.now.rel (fun b b1 _ => q'.now.fresh b (by rw [← q'.now.nx]; exact b1)) ?_
    intro w'' β'' m'' t1 t2
    have tw : Tw T (s'.H H).nx β' h' w' β'' h2 w'' (s2.H H) := Tw.of_to q'.now t1 (Nat.le_refl _) hx2 hg2
    have twn : Tw T H.nx β hh w β'' h2 w'' (s2.H H) := t.trans q.now tw hle
    have base2 : Base T H β'' := q'.base.same fun b hb' => tw.same b (Nat.lt_of_lt_of_le hb' hle)
    have env2 : ER β'' (E fn.ntmps s'.l) a'.tmps := ER_same q'.now.fresh tw.same q'.env
    cases u' with
    | ret =>
      obtain ⟨v, sel, hres, hd, hp⟩ := hpost
      obtain ⟨β3, h3, g1, g2, g3, g4⟩ := tw.now.gc base2 hd
      obtain ⟨uv, hrun, hvu⟩ := ares_ok (P := P) hT t1.rel env2 (fn := fn) (v := v) (by rw [resv_eq, hg2]; exact hres)
      cases t2
      exact ⟨uv, hrun, β3, h3, _, _, hp, VR_gv g1 _ _ hvu, twn.gc g3 g2 g4⟩
    | pan v =>
      obtain ⟨sel, hd, hp⟩ := hpost
      obtain ⟨β3, h3, g1, g2, g3, g4⟩ := tw.now.gc base2 hd
      obtain ⟨y, rfl, hy⟩ := t2
      exact ⟨β3, h3, _, _, hp, ⟨y, rfl, VR_gv g1 _ _ hy⟩, twn.gc g3 g2 g4⟩
    | rcv v => exact hpost.elim
  cases x with
  | normal => simp only [AX.mode] at hu; injection hu with hu; subst hu; exact out _ rfl
  | ret => simp only [AX.mode] at hu; injection hu with hu; subst hu; exact out _ rfl
  | panic v => simp only [AX.mode] at hu; injection hu with hu; subst hu; intro y hy; exact out _ ⟨y, rfl, hy⟩
  | exit id => simp [AX.mode] at hu

end
end Go.Ai
