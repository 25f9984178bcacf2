/- AiCode -/
import Derived.Test.YthgkkbaaedefhaaAiRegD
import Derived.LoopNIn
import Derived.Scope
set_option linter.unusedVariables false
set_option linter.unusedSimpArgs false
namespace Go.Ai
open Go

theorem stepR_scope {P : Program} {b : Frame} {a : Act} {k : List Item} {cs : List Frame} {w : World} {c : Code} : step P (lone (b.atR a (.code (.scope c) :: k)) cs w) = .next (lone (b.atR a (.code c :: .inScope c :: k)) cs w) :=
  step_lone_go (by simp [stepG, stepG.exec, Frame.atR])
theorem stepR_inScope {P : Program} {b : Frame} {a : Act} {k : List Item} {cs : List Frame} {w : World} {c : Code} : step P (lone (b.atR a (.inScope c :: k)) cs w) = .next (lone (b.atR a k) cs w) :=
  step_lone_go (by simp [stepG, stepG.exec, Frame.atR])

theorem wpIn_scope_straight {F : Fence} {n : Nat} {P : Program} {Q : Exit → Act → World → Prop} {a : Act} {w : World} {c : Code} (h : c.wpIn F n P (Exit.noGoto Q) a w) : (Code.scope c).wpIn F n P Q a w := by
  intro b k cs hro hb hr
  have h0 : (lone (b.atR a (.code (.scope c) :: k)) cs w).fenced P F := fenced_calm hb hr rfl
  obtain ⟨e, a₁, w₁, hq, harr⟩ := h b (.inScope c :: k) cs hro hb hr
  cases e with
  | normal => exact ⟨.normal, a₁, w₁, hq, .head h0 stepR_scope (StepsIn.trans harr (.one (fenced_calm hb hr rfl) stepR_inScope))⟩
  | exit id =>
    have hx : exitTo id (.inScope c :: k) = exitTo id k := by simp [exitTo]
    exact ⟨.exit id, a₁, w₁, hq, fun k' hk => .head h0 stepR_scope (harr.1 k' (by rw [hx]; exact hk)),
      fun hr' hk => let ⟨k₁, h1, h2⟩ := harr.2 hr' (by rw [hx]; exact hk); ⟨k₁, h1, .head h0 stepR_scope h2⟩⟩
  | goto l => exact hq.elim
  | ret => exact ⟨_, a₁, w₁, hq, .of_steps (.one h0 stepR_scope) harr⟩
  | panic ch => exact ⟨_, a₁, w₁, hq, .of_steps (.one h0 stepR_scope) harr⟩
  | outgrown => exact ⟨_, a₁, w₁, hq, .of_steps (.one h0 stepR_scope) harr⟩

/-- How code is left. -/
def XQ (Q : Exit → Act → World → Prop) (β : Bm) (a : Act) (w : World) : AX → Prop
  | .normal => Q .normal a w
  | .exit i => Q (.exit i) a w
  | .ret => Q .ret a w
  | .panic v => ∀ u, VR β v u → Q (.panic [{ v := u, recovered := false }]) a w

def RndOk (β : Bm) : Option Nat → Option Nat → Prop
  | none, r => r = none
  | some l, r => ∃ i, β l = some i ∧ r = some i.c
theorem RndOk.mono {β β' : Bm} (h : β.le β') : ∀ {a r : Option Nat}, RndOk β a r → RndOk β' a r
  | none, _, x => x
  | some _, _, ⟨i, e, x⟩ => ⟨i, h _ _ e, x⟩

section
variable {P : Program} {T : Types} {F : Funcs} {K : Caller}

/-- What is shown of code. -/
def CodeOk (P : Program) (T : Types) (K : Caller) (rndA : Option Nat) (fid k : Nat) (c : Code) : Prop :=
  ∀ (s : S) (x : AX) (s' : S), xcode T K rndA fid k c s = some (x, s') → ∀ (rnd : Option Nat) (n : Nat) (a : Act) (w : World) (β : Bm), RndOk β rndA rnd → ER β s.env a.tmps → DRs β s.defs a.defers → Rel T.G β s.heap w → β.free s.heap.nx s'.heap.nx →
    ∀ (Q : Exit → Act → World → Prop), (∀ a' w' β', To T.G β s.heap w β' s'.heap w' → ER β' s'.env a'.tmps → DRs β' s'.defs a'.defers → XQ Q β' a' w' x) → c.wpIn (Fw rnd) n P Q a w

theorem run_enterLoop_inner {w : World} (fn : FuncId) (tmps : Array Value) (ps : Array Tmp) (assign body : Code) {l : Nat} {r : Loop} (h : w.heap[l]? = some (.loop r)) :
    (Instr.enterLoop fn tmps ps assign body (some l)).run P w = .ok (w.heap.size, []) (w.alloc (.loop { state := .ready, pending := none, fn, tmps, params := ps, assign, body, defers := r.defers })) := by
  unfold Instr.enterLoop
  simp only [Sem.run_bind, run_getLoop h, run_newObj_alloc, Result.andThen, Sem.run_pure]

theorem alloc_pushed (w : World) (o : Obj) : w.alloc o = pushed w o := rfl

theorem getLoop_rel {β : Bm} {h : Heap} {w : World} (r : Rel T.G β h w) {l : Nat} {lp : ALoop} (h1 : getLoop h l = some lp) {i : BI} (hi : β l = some i) : ∃ m, w.heap[i.c]? = some (.loop m) ∧ LR β lp m :=
  r.obj l i _ hi (getLoop_some h1)

/-- Into a loop over a function. -/
theorem aenter_ok {β : Bm} {rndA rnd : Option Nat} {fid : Nat} {e : Env} {ps : Array Tmp} {a b : Code} {h h' : Heap} {w : World} {l : Nat} {m : List ADef} {act : Act} (h1 : aenter rndA fid e ps.toList a b h = some (l, m, h'))
    (hr : RndOk β rndA rnd) (he : ER β e act.tmps) (r : Rel T.G β h w) (hf : β.free h.nx h'.nx) (fn : FuncId) :
    ∃ i mark w' β', (Instr.enterLoop fn act.tmps ps a b rnd).run P w = .ok (i.c, mark) w' ∧ β' l = some i ∧ DRs β' m mark ∧ To T.G β h w β' h' w' := by
  unfold aenter at h1
  split at h1
  · rename_i l0
    obtain ⟨i0, hi0, rfl⟩ := hr
    split at h1
    · rename_i lp hlp
      injection h1 with h1; cases h1
      obtain ⟨m0, hm0, hlr⟩ := getLoop_rel r hlp hi0
      have hb0 : β h.nx = none := hf h.nx (Nat.le_refl _) (by simp)
      let i : BI := ⟨w.heap.size, 0, 0, 0, false⟩
      obtain ⟨b1, b2, b3, b4, b5, b6, j, b8, b9⟩ := hlr
      refine ⟨i, [], _, β.upd h.nx i, run_enterLoop_inner fn act.tmps ps a b hm0, Bm.upd_same _ _ _, rfl, ?_⟩
      rw [alloc_pushed]
      refine To.push r hb0 rfl ?_
      have hg := (Bm.grow_upd i hb0).1
      exact ⟨_, pushed_new _ _, rfl, rfl, he.mono hg, rfl, rfl, rfl, j, hg _ _ b8, b9⟩
    · cases h1
  · have hr' : rnd = none := hr
    subst hr'
    injection h1 with h1; cases h1
    have hb0 : β h.nx = none := hf h.nx (Nat.le_refl _) (by simp; omega)
    let i0 : BI := ⟨w.heap.size, 0, 0, 0, false⟩
    have t0 : To T.G β h w (β.upd h.nx i0) (h.push (.defr true)) (pushed w (.deferred (some []))) :=
      To.push r hb0 rfl (show (pushed w _).heap[w.heap.size]? = _ by rw [pushed_new]; rfl)
    have hb1 : (β.upd h.nx i0) (h.push (.defr true)).nx = none := by
      rw [Heap.nx_push, Bm.upd_other _ _ (by omega)]
      exact hf (h.nx + 1) (by omega) (by simp)
    let i1 : BI := ⟨w.heap.size + 1, 0, 0, 0, false⟩
    have hg := (Bm.grow_upd i1 hb1).1
    have hsz : (pushed w (.deferred (some []))).heap.size = w.heap.size + 1 := by show (w.heap.push _).size = _; simp
    refine ⟨i1, _, _, (β.upd h.nx i0).upd (h.nx + 1) i1, run_enterLoop_outer fn act.tmps ps a b, Bm.upd_same _ _ _, ⟨_, [], rfl, ⟨i0, hg _ _ (Bm.upd_same _ _ _), rfl⟩, rfl⟩, ?_⟩
    rw [alloc_pushed, alloc_pushed]
    refine To.trans t0 (To.push t0.rel hb1 hsz.symm ?_) r
    have hnew : (pushed (pushed w (.deferred (some []))) (.loop { state := .ready, pending := none, fn, tmps := act.tmps, params := ps, assign := a, body := b, defers := w.heap.size })).heap[i1.c]? = some (.loop { state := .ready, pending := none, fn, tmps := act.tmps, params := ps, assign := a, body := b, defers := w.heap.size }) := by
      show (pushed (pushed w _) _).heap[w.heap.size + 1]? = _
      rw [← hsz]; exact pushed_new _ _
    exact ⟨_, hnew, rfl, rfl, (he.mono t0.grow.1).mono hg, rfl, rfl, rfl, i0, hg _ _ (Bm.upd_same _ _ _), rfl⟩

/-- The record of a loop is written. -/
theorem loop_set {β : Bm} {h : Heap} {w : World} (r : Rel T.G β h w) {l : Nat} {i : BI} (hi : β l = some i) {lp lp' : ALoop} (h1 : getLoop h l = some lp) {m' : Loop} (hm : LR β lp' m') : To T.G β h w β (h.set l (.loop lp')) (w.putObj i.c (.loop m')) := by
  have hl := r.lt l i hi
  exact To.set r hi (getLoop_some h1) rfl rfl rfl rfl World.putObj_size (fun c hc => World.putObj_heap_other hc) ⟨m', World.putObj_heap_same hl, hm⟩

theorem aleave_ok {β : Bm} {n : Nat} {rnd : Option Nat} {s s' : S} {ds : List ADef} {l : Nat} {h : Heap} {w : World} {x : AX} (h1 : aleave s ds l h = some (x, s')) (r : Rel T.G β h w) {i : BI} (hi : β l = some i) {a : Act} {Q : Exit → Act → World → Prop}
    (he : ER β s.env a.tmps) (hd : DRs β ds a.defers) (post : ∀ w' , To T.G β h w β s'.heap w' → ER β s'.env a.tmps → DRs β s'.defs a.defers → XQ Q β a w' x) :
    ∃ jump w₄, (Instr.endLoop i.c).run P w = .ok jump w₄ ∧ (match jump with
       | none => Q .normal a w₄
       | some c => c.wpIn (Fw rnd) n P Q a w₄) := by
  unfold aleave at h1
  split at h1
  · rename_i lp hlp
    obtain ⟨m, hm, b1, b2, b3, b4, b5, b6, j, b7, b8⟩ := getLoop_rel r hlp hi
    split at h1
    · cases h1
    · rename_i hst
      have hnb : m.state ≠ .busy := by
        intro hb
        rw [hb] at b1
        generalize lp.state = st at *
        cases st <;> simp only [LSR] at b1 <;> first | (cases b1; done) | exact hst rfl
      have hto := loop_set r hi hlp (lp' := { lp with state := .exhausted }) (m' := { m with state := .exhausted }) ⟨rfl, b2, b3, b4, b5, b6, j, b7, b8⟩
      refine ⟨m.pending, _, run_endLoop hm hnb, ?_⟩
      generalize (w.putObj i.c (.loop { m with state := .exhausted })) = w4 at hto ⊢
      rw [b2]
      split at h1
      · rename_i hp
        injection h1 with h1; cases h1
        rw [hp]
        exact post _ hto he hd
      · rename_i hp
        injection h1 with h1; cases h1
        rw [hp]
        exact wpIn_ret (post _ hto he hd)
      · rename_i id hp
        injection h1 with h1; cases h1
        rw [hp]
        exact wpIn_exit (post _ hto he hd)
      · cases h1
  · cases h1

theorem code_ok (hT : TOk P T F) (hK : KSound P T K) {rndA : Option Nat} {fid k : Nat} : ∀ c, CodeOk P T K rndA fid k c := by
  intro c
  induction c with
  | skip => intro s x s' h1 rnd n a w β hrn he hd r hf Q post; simp only [xcode_skip, xcode_label, xcode_goto, xcode_refuse, xcode_exit, xcode_ret, xcode_scope, xcode_regF, xcode_regT, xcode_seq, xcode_cond, xcode_block, xcode_loop, xcode_range] at h1; injection h1 with h1; cases h1; exact wpIn_skip (post a w β (To.refl r) he hd)
  | label l => intro s x s' h1 rnd n a w β hrn he hd r hf Q post; simp only [xcode_skip, xcode_label, xcode_goto, xcode_refuse, xcode_exit, xcode_ret, xcode_scope, xcode_regF, xcode_regT, xcode_seq, xcode_cond, xcode_block, xcode_loop, xcode_range] at h1; injection h1 with h1; cases h1; exact wpIn_label (post a w β (To.refl r) he hd)
  | goto l => intro s x s' h1; simp [xcode_skip, xcode_label, xcode_goto, xcode_refuse, xcode_exit, xcode_ret, xcode_scope, xcode_regF, xcode_regT, xcode_seq, xcode_cond, xcode_block, xcode_loop, xcode_range] at h1
  | refuse y => intro s x s' h1; simp [xcode_skip, xcode_label, xcode_goto, xcode_refuse, xcode_exit, xcode_ret, xcode_scope, xcode_regF, xcode_regT, xcode_seq, xcode_cond, xcode_block, xcode_loop, xcode_range] at h1
  | exit id => intro s x s' h1 rnd n a w β hrn he hd r hf Q post; simp only [xcode_skip, xcode_label, xcode_goto, xcode_refuse, xcode_exit, xcode_ret, xcode_scope, xcode_regF, xcode_regT, xcode_seq, xcode_cond, xcode_block, xcode_loop, xcode_range] at h1; injection h1 with h1; cases h1; exact wpIn_exit (post a w β (To.refl r) he hd)
  | ret => intro s x s' h1 rnd n a w β hrn he hd r hf Q post; simp only [xcode_skip, xcode_label, xcode_goto, xcode_refuse, xcode_exit, xcode_ret, xcode_scope, xcode_regF, xcode_regT, xcode_seq, xcode_cond, xcode_block, xcode_loop, xcode_range] at h1; injection h1 with h1; cases h1; exact wpIn_ret (post a w β (To.refl r) he hd)
  | scope c ih =>
    intro s x s' h1 rnd n a w β hrn he hd r hf Q post; simp only [xcode_skip, xcode_label, xcode_goto, xcode_refuse, xcode_exit, xcode_ret, xcode_scope, xcode_regF, xcode_regT, xcode_seq, xcode_cond, xcode_block, xcode_loop, xcode_range] at h1
    refine wpIn_scope_straight (ih s x s' h1 rnd n a w β hrn he hd r hf _ fun a' w' β' hto he' hd' => ?_)
    have := post a' w' β' hto he' hd'
    cases x <;> exact this
  | region id ops draw =>
    intro s x s' h1 rnd n a w β hrn he hd r hf Q post
    cases draw with
    | false =>
      simp only [xcode_skip, xcode_label, xcode_goto, xcode_refuse, xcode_exit, xcode_ret, xcode_scope, xcode_regF, xcode_regT, xcode_seq, xcode_cond, xcode_block, xcode_loop, xcode_range] at h1
      cases hx : xops T K rndA ops.toList ops.toList s.env s.defs s.heap with
      | none => rw [hx] at h1; simp [ofOps] at h1
      | some y =>
        obtain ⟨p, e', ds', h'⟩ := y
        rw [hx] at h1
        refine wpIn_region ?_
        have hlen : List.range ops.size = List.range' 0 ops.toList.length := by rw [List.range_eq_range']; simp
        rw [hlen]
        cases p <;> simp only [ofOps] at h1 <;> injection h1 with h1 <;> cases h1
        · exact xops_ok hT hK (fun hn => by subst hn; exact hrn) ops.toList 0 rfl s.env s.defs s.heap a w β he hd r hx hf fun a' w' β' hto he' hd' => post a' w' β' hto he' hd'
        · exact xops_ok hT hK (fun hn => by subst hn; exact hrn) ops.toList 0 rfl s.env s.defs s.heap a w β he hd r hx hf fun a' w' β' hto he' hd' => post a' w' β' hto he' hd'
    | true =>
      simp only [xcode_skip, xcode_label, xcode_goto, xcode_refuse, xcode_exit, xcode_ret, xcode_scope, xcode_regF, xcode_regT, xcode_seq, xcode_cond, xcode_block, xcode_loop, xcode_range] at h1
      split at h1
      · rename_i ms fr hfr
        generalize hx : xopsD T K ops.toList s.env ops.toList fr ms 0 [] s.env s.heap = y at h1
        cases y with
        | none => simp [ofOpsD] at h1
        | some y =>
          obtain ⟨p, e', h'⟩ := y
          cases p <;> simp only [ofOpsD] at h1 <;> injection h1 with h1 <;> cases h1
          · exact region_ok hT hK hfr hx he r hf fun a' w' β' hto he' hd' => post a' w' β' hto he' (by rw [hd']; exact hd.mono hto.grow.1)
          · exact region_ok hT hK hfr hx he r hf fun a' w' β' hto he' hd' => post a' w' β' hto he' (by rw [hd']; exact hd.mono hto.grow.1)
      · cases h1
  | seq a b iha ihb =>
    intro s x s' h1 rnd n ac w β hrn he hd r hf Q post
    simp only [xcode_skip, xcode_label, xcode_goto, xcode_refuse, xcode_exit, xcode_ret, xcode_scope, xcode_regF, xcode_regT, xcode_seq, xcode_cond, xcode_block, xcode_loop, xcode_range] at h1
    refine wpIn_seq ?_
    split at h1
    · rename_i s1 hs1
      have x1 := xcode_ext hK.ext a _ _ _ hs1
      have x2 := xcode_ext hK.ext b _ _ _ h1
      refine iha s _ s1 hs1 rnd n ac w β hrn he hd r (fun b b1 b2 => hf b b1 (Nat.lt_of_lt_of_le b2 x2.1)) _ fun a' w' β' hto he' hd' => ?_
      refine ihb s1 x s' h1 rnd n a' w' β' (hrn.mono hto.grow.1) he' hd' hto.rel (Bm.free_of hto.grow x1.1 hf) Q fun a'' w'' β'' hto' he'' hd'' => ?_
      exact post a'' w'' β'' (hto.trans hto' r) he'' hd''
    · rename_i hne
      refine iha s x s' h1 rnd n ac w β hrn he hd r hf _ fun a' w' β' hto he' hd' => ?_
      have := post a' w' β' hto he' hd'
      cases x with
      | normal => exact absurd h1 (hne s')
      | _ => exact this
  | cond c a b iha ihb =>
    intro s x s' h1 rnd n ac w β hrn he hd r hf Q post
    simp only [xcode_skip, xcode_label, xcode_goto, xcode_refuse, xcode_exit, xcode_ret, xcode_scope, xcode_regF, xcode_regT, xcode_seq, xcode_cond, xcode_block, xcode_loop, xcode_range] at h1
    split at h1
    · rename_i t ht
      have hev : ac.eval c = .bool t := ev_ok r rfl he ht
      refine wpIn_cond hev ?_
      cases t with
      | true => exact iha s x s' h1 rnd n ac w β hrn he hd r hf Q post
      | false => exact ihb s x s' h1 rnd n ac w β hrn he hd r hf Q post
    · cases h1
  | block id c ih =>
    intro s x s' h1 rnd n ac w β hrn he hd r hf Q post
    simp only [xcode_skip, xcode_label, xcode_goto, xcode_refuse, xcode_exit, xcode_ret, xcode_scope, xcode_regF, xcode_regT, xcode_seq, xcode_cond, xcode_block, xcode_loop, xcode_range] at h1
    refine wpIn_block ?_
    split at h1
    · rename_i i s1 hs1
      by_cases hid : i = id
      · subst hid
        rw [beqT.2 rfl] at h1
        simp only [cond_true] at h1; injection h1 with h1; cases h1
        refine ih s _ s' hs1 rnd n ac w β hrn he hd r hf _ fun a' w' β' hto he' hd' => ?_
        have := post a' w' β' hto he' hd'
        simp only [XQ, Exit.inBlock, if_true] at this ⊢
        exact this
      · rw [beqF.2 hid] at h1
        simp only [cond_false] at h1; injection h1 with h1; cases h1
        refine ih s _ s' hs1 rnd n ac w β hrn he hd r hf _ fun a' w' β' hto he' hd' => ?_
        have := post a' w' β' hto he' hd'
        simp only [XQ, Exit.inBlock, hid, if_false] at this ⊢
        exact this
    · rename_i hne
      refine ih s x s' h1 rnd n ac w β hrn he hd r hf _ fun a' w' β' hto he' hd' => ?_
      have := post a' w' β' hto he' hd'
      cases x with
      | exit i => exact absurd h1 (hne i s')
      | _ => exact this
  | loop c ih =>
    intro s x s' h1 rnd n ac w β hrn he hd r hf Q post
    simp only [xcode_skip, xcode_label, xcode_goto, xcode_refuse, xcode_exit, xcode_ret, xcode_scope, xcode_regF, xcode_regT, xcode_seq, xcode_cond, xcode_block, xcode_loop, xcode_range] at h1
    refine wpIn_loop_rounds k ?_
    have key : ∀ (m : Nat) (s : S) (ac : Act) (w : World) (β : Bm), iter (xcode T K rndA fid k c) m s = some (x, s') → RndOk β rndA rnd → ER β s.env ac.tmps → DRs β s.defs ac.defers → Rel T.G β s.heap w → β.free s.heap.nx s'.heap.nx →
        (∀ a' w' β', To T.G β s.heap w β' s'.heap w' → ER β' s'.env a'.tmps → DRs β' s'.defs a'.defers → XQ Q β' a' w' x) → Code.roundsIn (Fw rnd) n P c Q m ac w := by
      intro m
      induction m with
      | zero => intro s ac w β h1; simp [iter] at h1
      | succ m ihm =>
        intro s ac w β h1 hrn he hd r hf post
        simp only [iter] at h1
        rw [roundsIn_succ]
        split at h1
        · rename_i s1 hs1
          have x1 := xcode_ext hK.ext c _ _ _ hs1
          have x2 := iter_ext (xcode_ext hK.ext c) _ _ _ _ h1
          refine ih s _ s1 hs1 rnd n ac w β hrn he hd r (fun b b1 b2 => hf b b1 (Nat.lt_of_lt_of_le b2 x2.1)) _ fun a' w' β' hto he' hd' => ?_
          refine ihm s1 a' w' β' h1 (hrn.mono hto.grow.1) he' hd' hto.rel (Bm.free_of hto.grow x1.1 hf) fun a'' w'' β'' hto' he'' hd'' => ?_
          exact post a'' w'' β'' (hto.trans hto' r) he'' hd''
        · rename_i hne
          refine ih s x s' h1 rnd n ac w β hrn he hd r hf _ fun a' w' β' hto he' hd' => ?_
          have := post a' w' β' hto he' hd'
          cases x with
          | normal => exact absurd h1 (hne s')
          | _ => exact this
    exact key k s ac w β h1 hrn he hd r hf post
  | rangeFunc g ps a b iha ihb =>
    intro s x s' h1 rnd n ac w β hrn he hd r hf Q post
    simp only [xcode_skip, xcode_label, xcode_goto, xcode_refuse, xcode_exit, xcode_ret, xcode_scope, xcode_regF, xcode_regT, xcode_seq, xcode_cond, xcode_block, xcode_loop, xcode_range] at h1
    split at h1
    · rename_i f first cap hg
      split at h1
      · rename_i l mark h2 hen
        have x0 := aenter_ext hen
        refine wpIn_rangeFunc fun fn _ => ?_
        obtain ⟨gv, p, q, hgv, hgf, hp, hq⟩ := ev_ok r rfl he hg
        simp only [FR] at hgf; subst hgf
        -- the memory behind the call
        have hx3 : ∃ rr h3, K (.func f (first ++ [.fn (.yield l) [] []] ++ cap)) h2 = some (rr, h3) ∧ h3.nx ≤ s'.heap.nx := by
          split at h1
          · rename_i v h3 hk; exact ⟨_, h3, hk, (aleave_ext h1).1⟩
          · rename_i v h3 hk; injection h1 with h1; cases h1; exact ⟨_, h3, hk, Nat.le_refl _⟩
          · cases h1
        obtain ⟨rr, h3, hk, hle⟩ := hx3
        have x1 := hK.ext _ _ _ _ hk
        obtain ⟨i, mk, w1, β1, hrun, hi, hmk, hto1⟩ := aenter_ok (P := P) (act := ac) hen hrn he r (fun b b1 b2 => hf b b1 (by have := x1.1; omega)) fn
        have hargs : VRs β1 (first ++ [.fn (.yield l) [] []] ++ cap) (p ++ #[Value.func (.yield i.c) #[] #[]] ++ q).toList := by
          simp only [Array.toList_append]
          refine VRs.append (VRs.append (VRs.mono hto1.grow.1 _ _ hp) ?_) (VRs.mono hto1.grow.1 _ _ hq)
          exact VRs.cons ⟨_, _, _, rfl, ⟨i, hi, rfl⟩, rfl, rfl⟩ VRs.nil
        obtain ⟨⟨fnn, k1, k2, k3⟩, hcalls⟩ := hK.func _ _ _ _ _ hk β1 w1 (p ++ #[Value.func (.yield i.c) #[] #[]] ++ q) (n - 1) hargs hto1.rel (Bm.free_of hto1.grow x0.1 (fun b b1 b2 => hf b b1 (by omega))) (fun h => by cases h)
        have hres : (resolve ac.eval (rangeCall g i.c) 0).run P w1 = .ok { target := .fn (.func f) q, args := p ++ #[Value.func (.yield i.c) #[] #[]] } w1 := by
          simp [resolve, hgv, Deferred.ofValue, show ∀ v, ac.eval (.const v) = v from fun _ => rfl]
        refine ⟨i.c, mk, w1, _, w1, f, p ++ #[Value.func (.yield i.c) #[] #[]] ++ q, w1, by rw [Fw_round]; exact hrun, hres, fun f' _ => Fw_fn _ f', ?_, Fw_one _ _, ?_⟩
        · have := run_callFunc k1 k2 k3 (p ++ #[Value.func (.yield i.c) #[] #[]] ++ q) w1
          simpa [invoke] using this
        · refine calls_Fw (hcalls.mono ?_)
          rintro e w3 ⟨β3, hres3, hto3⟩
          have hto13 := hto1.trans hto3 r
          have he3 := he.mono hto13.grow.1
          have hd3 : DRs β3 (mark ++ s.defs) (mk ++ ac.defers) := (hmk.mono hto3.grow.1).append (hd.mono hto13.grow.1)
          rw [hk] at h1
          cases rr with
          | ret v =>
            cases e with
            | returned u =>
              simp only at h1
              exact aleave_ok (a := { ac with defers := mk ++ ac.defers }) h1 hto3.rel (hto3.grow.1 _ _ hi) he3 hd3 fun w' hto' he' hd' => post _ w' β3 (hto13.trans hto' r) he' hd'
            | panicked ch => exact hres3.elim
            | outgrown => exact hres3.elim
          | pan v =>
            cases e with
            | returned u => exact hres3.elim
            | panicked ch =>
              obtain ⟨u, rfl, hv⟩ := hres3
              simp only at h1
              injection h1 with h1; cases h1
              exact post { ac with defers := mk ++ ac.defers } w3 β3 hto13 he3 hd3 u hv
            | outgrown => exact hres3.elim
      · cases h1
    · cases h1

end
end Go.Ai
