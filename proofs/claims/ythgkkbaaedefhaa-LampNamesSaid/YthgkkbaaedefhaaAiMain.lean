/- AiMain -/
import Derived.Test.YthgkkbaaedefhaaAiCode
set_option linter.unusedVariables false
set_option linter.unusedSimpArgs false
namespace Go.Ai
open Go

section
variable {P : Program} {T : Types} {F : Funcs} {K : Caller}

theorem setParams_ok {β : Bm} : ∀ (ps : List Nat) (args : List AV) (e e' : Env) (tmps : Array Value) (cargs : List Value), setParams e ps args = some e' → VRs β args cargs → ER β e tmps →
    ps.length = cargs.length ∧ ER β e' ((ps.zip cargs).foldl (fun t x => t.setIfInBounds x.1 x.2) tmps)
  | [], [], e, e', tmps, cargs, h1, hv, he => by
    simp only [setParams] at h1; injection h1 with h1; subst h1
    rw [VRs.nil_iff.1 hv]; exact ⟨rfl, he⟩
  | [], _ :: _, _, _, _, _, h1, _, _ => by simp [setParams] at h1
  | _ :: _, [], _, _, _, _, h1, _, _ => by simp [setParams] at h1
  | t :: ts, v :: vs, e, e', tmps, cargs, h1, hv, he => by
    simp only [setParams] at h1
    obtain ⟨u, us, rfl, hu, hus⟩ := hv
    split at h1
    · rename_i e1 hp
      have := put_ok (a := { tmps := tmps, defers := [] }) he hu hp
      obtain ⟨k1, k2⟩ := setParams_ok ts vs e1 e' _ us h1 hus this
      exact ⟨by simp [k1], k2⟩
    · cases h1

theorem round_ok (hT : TOk P T F) (hK : KSound P T K) {k l : Nat} {args : List AV} {h h' : Heap} {r : Res} (h1 : around T K k l args h = some (r, h')) {β : Bm} {w : World} {cargs : Array Value} {n : Nat} {i : BI}
    (hi : β l = some i) (hv : VRs β args cargs.toList) (hr : Rel T.G β h w) (hf : β.free h.nx h'.nx) :
    ∃ f tmps assign body, (Instr.yield i.c cargs).run P w = .ok (.round i.c f tmps assign body) w ∧ RoundIn Fence.wide n P i.c f tmps assign body w fun e w' => ∃ β', ResR β' r e ∧ To T.G β h w β' h' w' := by
  unfold around at h1
  split at h1
  · cases h1
  · rename_i lp hlp
    obtain ⟨m, hm, b1, b2, b3, b4, b5, b6, jd, b7, b8⟩ := getLoop_rel hr hlp hi
    split at h1
    · cases h1
    · rename_i e hsp
      obtain ⟨hlen, hE⟩ := setParams_ok _ _ _ _ m.tmps _ hsp hv b3
      have hsz : cargs.size = m.params.size := by
        rw [← b4] at hlen; simpa using hlen.symm
      refine ⟨m.fn, _, m.assign, m.body, run_yield hm hsz, ?_⟩
      have htm : (m.params.zip cargs).foldl (fun tmps (t, a) => tmps.setIfInBounds t a) m.tmps = (lp.params.zip cargs.toList).foldl (fun t x => t.setIfInBounds x.1 x.2) m.tmps := by
        rw [← b4, ← Array.toList_zip, Array.foldl_toList]
      rw [htm]
      refine roundIn_of_wpIn trivial ?_
      rw [b5, b6]
      split at h1
      · rename_i e1 hh1 hx1
        have x1 := xcode_ext hK.ext _ _ _ _ hx1
        -- the memory behind the body
        split at h1
        · rename_i lp1 hlp1
          split at h1
          · rename_i hst
            have hl1 := Heap.get_lt (getLoop_some hlp1)
            have hset : HExt hh1 (hh1.set l (.loop { lp1 with state := .busy })) := HExt.set _ hl1
            have key : ∃ x2 e2 h2 st pd v, xcode T K (some l) lp.fn k lp.body ⟨e1, [], hh1.set l (.loop { lp1 with state := .busy })⟩ = some (x2, ⟨e2, [], h2⟩) ∧ aend l h2 st pd v = some (r, h') ∧
                ((x2 = .normal ∧ st = .ready ∧ pd = none ∧ v = .bool true) ∨ (x2 = .ret ∧ st = .done ∧ pd = some .ret ∧ v = .bool false) ∨ ∃ id, x2 = .exit id ∧ st = .done ∧ pd = some (.exit id) ∧ v = .bool false) := by
              split at h1
              · rename_i e2 h2 hx2; exact ⟨_, e2, h2, _, _, _, hx2, h1, .inl ⟨rfl, rfl, rfl, rfl⟩⟩
              · rename_i e2 h2 hx2; exact ⟨_, e2, h2, _, _, _, hx2, h1, .inr (.inl ⟨rfl, rfl, rfl, rfl⟩)⟩
              · rename_i id e2 h2 hx2; exact ⟨_, e2, h2, _, _, _, hx2, h1, .inr (.inr ⟨id, rfl, rfl, rfl, rfl⟩)⟩
              · cases h1
            obtain ⟨x2, e2, h2, st, pd, v, hx2, hend, hcase⟩ := key
            have y2 := xcode_ext hK.ext _ _ _ _ hx2
            have y3 := aend_ext hend
            have hm12 : hh1.nx ≤ h2.nx := Nat.le_trans hset.1 y2.1
            refine code_ok hT hK lp.assign _ _ _ hx1 (some i.c) n _ w β ⟨i, hi, rfl⟩ hE (show DRs β [] [] from rfl) hr (fun b p q => hf b p (Nat.lt_of_lt_of_le q (Nat.le_trans hm12 y3.1))) _ ?_
            intro a1 w1 β1 hto1 he1 hd1
            have hi1 := hto1.grow.1 _ _ hi
            obtain ⟨m1, hm1, c1, c2, c3, c4, c5, c6, jd1, c7, c8⟩ := getLoop_rel hto1.rel hlp1 hi1
            have hms : m1.state = .ready := by rw [hst] at c1; exact c1
            refine ⟨_, run_beginRound hm1 hms, ?_⟩
            have hto2 := loop_set hto1.rel hi1 hlp1 (lp' := { lp1 with state := .busy }) (m' := { m1 with state := .busy }) ⟨rfl, c2, c3, c4, c5, c6, jd1, c7, c8⟩
            have hto12 := hto1.trans hto2 hr
            have hf1 : β1.free hh1.nx h'.nx := Bm.free_of hto1.grow x1.1 hf
            refine code_ok hT hK lp.body _ _ _ hx2 (some i.c) n a1 _ β1 ⟨i, hi1, rfl⟩ he1 hd1 hto2.rel (fun b p q => hf1 b p (Nat.lt_of_lt_of_le q y3.1)) _ ?_
            intro a2 w2 β2 hto3 he2 _
            have hto13 := hto12.trans hto3 hr
            have hi2 := hto13.grow.1 _ _ hi
            unfold aend at hend
            split at hend
            · rename_i lp2 hlp2
              injection hend with hend; cases hend
              obtain ⟨m2, hm2, d1, d2, d3, d4, d5, d6, jd2, d7, d8⟩ := getLoop_rel hto3.rel hlp2 hi2
              rcases hcase with ⟨rfl, rfl, rfl, rfl⟩ | ⟨rfl, rfl, rfl, rfl⟩ | ⟨id, rfl, rfl, rfl, rfl⟩
              · have hto4 := loop_set hto3.rel hi2 hlp2 (lp' := { lp2 with state := .ready, pending := none }) (m' := { m2 with state := .ready, pending := none }) ⟨rfl, rfl, d3, d4, d5, d6, jd2, d7, d8⟩
                exact ⟨_, _, run_endRound none hm2, β2, rfl, hto13.trans hto4 hr⟩
              · have hto4 := loop_set hto3.rel hi2 hlp2 (lp' := { lp2 with state := .done, pending := some .ret }) (m' := { m2 with state := .done, pending := some .ret }) ⟨rfl, rfl, d3, d4, d5, d6, jd2, d7, d8⟩
                exact ⟨_, _, run_endRound (some .ret) hm2, β2, rfl, hto13.trans hto4 hr⟩
              · have hto4 := loop_set hto3.rel hi2 hlp2 (lp' := { lp2 with state := .done, pending := some (.exit id) }) (m' := { m2 with state := .done, pending := some (.exit id) }) ⟨rfl, rfl, d3, d4, d5, d6, jd2, d7, d8⟩
                exact ⟨_, _, run_endRound (some (.exit id)) hm2, β2, rfl, hto13.trans hto4 hr⟩
            · cases hend
          · cases h1
        · cases h1
      · cases h1

/-! ### A call that is put off -/
def DMR (β : Bm) : DM → FrameMode → Prop
  | .ret, u => u = .returning
  | .pan v, u => ∃ x, u = .panicking [{ v := x, recovered := false }] ∧ VR β v x
  | .rcv v, u => ∃ x, u = .panicking [{ v := x, recovered := true }] ∧ VR β v x
theorem DMR.mono {β β' : Bm} (h : β.le β') : ∀ {d : DM} {u : FrameMode}, DMR β d u → DMR β' d u
  | .ret, _, x => x
  | .pan _, _, ⟨x, e, y⟩ => ⟨x, e, VR.mono h _ _ y⟩
  | .rcv _, _, ⟨x, e, y⟩ => ⟨x, e, VR.mono h _ _ y⟩
theorem DMR.settle {β : Bm} : ∀ {d : DM} {u : FrameMode}, DMR β d u → DMR β d.settle (Go.settle u)
  | .ret, _, x => by cases x; rfl
  | .pan _, _, ⟨x, e, y⟩ => by subst e; exact ⟨x, rfl, y⟩
  | .rcv _, _, ⟨x, e, y⟩ => by subst e; rfl
theorem DMR.run {β : Bm} {d : DM} {u : FrameMode} (h : DMR β d u) : u ≠ .run := by
  cases d <;> simp only [DMR] at h
  · rw [h]; simp
  · obtain ⟨x, rfl, _⟩ := h; simp
  · obtain ⟨x, rfl, _⟩ := h; simp

theorem isRecover_run {o : Oper} (h : isRecover o.op = true) (ρ : Operand → Value) (w : World) : (execOp ρ o).run P w = .ok .recover w := by
  unfold isRecover at h
  split at h
  · rename_i c hc
    split at h
    · rename_i hcal
      unfold execOp
      rw [hc]
      simp [resolve, hcal, invoke, builtin]
    · cases h
  · cases h

theorem xopsS_ok (hT : TOk P T F) {ops : Array Oper} {Q : Exit → Act → List Frame → World → Prop} {c₀ : Frame} {cs : List Frame} {n : Nat} {s' : SD} :
    ∀ (l : List Oper) (k : Nat), l = ops.toList.drop k → ∀ (s : SD) (a : Act) (w : World) (β : Bm) (u : FrameMode), ER β s.env a.tmps → DMR β s.u u → Rel T.G β s.heap w → xopsS T ops.toList l s = some (none, s') → β.free s.heap.nx s'.heap.nx →
      (∀ a' w' β' u', To T.G β s.heap w β' s'.heap w' → ER β' s'.env a'.tmps → a'.defers = a.defers → DMR β' s'.u u' → Q .normal a' ({ c₀ with mode := u' } :: cs) w') →
      wpOpsSIn Fence.wide n P ops Q (List.range' k l.length) a ({ c₀ with mode := u } :: cs) w
  | [], k, _, s, a, w, β, u, he, hu, hr, h1, _, post => by
    simp only [xopsS] at h1
    injection h1 with h1; injection h1 with _ h1; subst h1
    exact post a w β u (To.refl hr) he rfl hu
  | o :: l, k, hl, s, a, w, β, u, he, hu, hr, h1, hf, post => by
    have hk : ops[k]? = some o := by
      have : (ops.toList.drop k)[0]? = some o := by rw [← hl]; rfl
      rw [List.getElem?_drop] at this
      simpa using this
    have hl' : l = ops.toList.drop (k + 1) := by
      have : (o :: l).drop 1 = (ops.toList.drop k).drop 1 := by rw [hl]
      simpa [List.drop_drop] using this
    simp only [List.length_cons, List.range'_succ, wpOpsSIn, hk]
    refine ⟨fun f _ => trivial, ?_⟩
    simp only [xopsS] at h1
    split at h1
    · cases h1
    · rename_i hw
      rw [wanted_ok he hw]
      simp only [Bool.false_eq_true, if_false]
      split at h1
      · rename_i e1 hp
        refine xopsS_ok hT l (k + 1) hl' { s with env := e1 } _ w β u (put_ok he undef_ok hp) hu hr h1 hf fun a' w' β' u' t1 t2 t3 t4 => post a' w' β' u' t1 t2 (by rw [t3, put_defers]) t4
      · cases h1
    · rename_i hw
      rw [wanted_ok he hw]
      simp only [if_true]
      cases hrec : isRecover o.op with
      | true =>
        rw [hrec] at h1; simp only [cond_true] at h1
        rw [isRecover_run hrec]
        dsimp only
        split at h1
        · rename_i v hsu
          split at h1
          · rename_i e1 hp
            rw [hsu] at hu
            obtain ⟨x, rfl, hx⟩ := hu
            have : recoverD ({ c₀ with mode := .panicking [{ v := x, recovered := false }] } :: cs) = some (x, { c₀ with mode := .panicking [{ v := x, recovered := true }] } :: cs) := rfl
            rw [this]
            dsimp only
            refine xopsS_ok hT l (k + 1) hl' { s with env := e1, u := .rcv v } _ w β _ (put_ok he hx hp) ⟨x, rfl, hx⟩ hr h1 hf fun a' w' β' u' t1 t2 t3 t4 => post a' w' β' u' t1 t2 (by rw [t3, put_defers]) t4
          · cases h1
        · rename_i hnp
          split at h1
          · rename_i e1 hp
            have : recoverD ({ c₀ with mode := u } :: cs) = none := by
              generalize hsu : s.u = d at hu hnp
              cases d with
              | ret => cases hu; rfl
              | pan v => exact absurd rfl (hnp v)
              | rcv v => obtain ⟨x, rfl, _⟩ := hu; rfl
            rw [this]
            dsimp only
            refine xopsS_ok hT l (k + 1) hl' { s with env := e1 } _ w β _ (put_ok he (v := .nili) rfl hp) hu hr h1 hf fun a' w' β' u' t1 t2 t3 t4 => post a' w' β' u' t1 t2 (by rw [t3, put_defers]) t4
          · cases h1
      | false =>
        rw [hrec] at h1; simp only [cond_false] at h1
        split at h1
        · rename_i out ho
          split at h1
          · rename_i e1 hp
            have x1 : HExt s.heap (s.heap.apply out) := HExt.apply (aop_lt ho)
            have x2 := xopsS_ext h1
            obtain ⟨v, w', β', hrun, hv, hto⟩ := aop_ok (P := P) hT hr rfl he ho (fun b p q => hf b p (Nat.lt_of_lt_of_le q x2.1))
            have hgo : wpOpsSIn Fence.wide n P ops Q (List.range' (k + 1) l.length) (a.put o.dst v) ({ c₀ with mode := u } :: cs) w' := by
              refine xopsS_ok hT l (k + 1) hl' { s with env := e1, heap := s.heap.apply out } _ w' β' u (put_ok (he.mono hto.grow.1) hv hp) (hu.mono hto.grow.1) hto.rel h1 (Bm.free_of hto.grow x1.1 hf) fun a' w'' β'' u' t1 t2 t3 t4 => post a' w'' β'' u' (hto.trans t1 hr) t2 (by rw [t3, put_defers]) t4
            rcases hrun with hrun | ⟨hrun, rfl⟩
            · rw [hrun]; exact hgo
            · rw [hrun]; exact hgo
          · cases h1
        · cases h1

theorem xcodeS_ok (hT : TOk P T F) {c₀ : Frame} {cs : List Frame} {n : Nat} : ∀ (c : Code) (s s' : SD), xcodeS T c s = some (.normal, s') → ∀ (Q : Exit → Act → List Frame → World → Prop) (a : Act) (w : World) (β : Bm) (u : FrameMode),
    ER β s.env a.tmps → DMR β s.u u → Rel T.G β s.heap w → β.free s.heap.nx s'.heap.nx →
      (∀ a' w' β' u', To T.G β s.heap w β' s'.heap w' → ER β' s'.env a'.tmps → a'.defers = a.defers → DMR β' s'.u u' → Q .normal a' ({ c₀ with mode := u' } :: cs) w') → c.wpSIn Fence.wide n P Q a ({ c₀ with mode := u } :: cs) w := by
  intro c
  induction c with
  | skip =>
    intro s s' h1 Q a w β u he hu hr hf post
    simp only [xcodeS] at h1; injection h1 with h1; injection h1 with _ h1; subst h1
    exact wpSIn_of_wpIn rfl (wpIn_skip (post a w β u (To.refl hr) he rfl hu))
  | region id ops draw =>
    intro s s' h1 Q a w β u he hu hr hf post
    cases draw with
    | true => simp [xcodeS] at h1
    | false =>
      simp only [xcodeS] at h1
      split at h1
      · rename_i s1 hx
        injection h1 with h1; injection h1 with _ h1; subst h1
        refine wpSIn_region ?_
        have hlen : List.range ops.size = List.range' 0 ops.toList.length := by rw [List.range_eq_range']; simp
        rw [hlen]
        exact xopsS_ok hT ops.toList 0 rfl s a w β u he hu hr hx hf post
      · cases h1
  | seq x y ihx ihy =>
    intro s s' h1 Q a w β u he hu hr hf post
    simp only [xcodeS] at h1
    split at h1
    · rename_i s1 hs1
      have x1 := xcodeS_ext _ _ _ _ hs1
      have x2 := xcodeS_ext _ _ _ _ h1
      refine wpSIn_seq (ihx s s1 hs1 _ a w β u he hu hr (fun b p q => hf b p (Nat.lt_of_lt_of_le q x2.1)) fun a' w' β' u' t1 t2 t3 t4 => ?_)
      exact ihy s1 s' h1 Q a' w' β' u' t2 t4 t1.rel (Bm.free_of t1.grow x1.1 hf) fun a'' w'' β'' u'' r1 r2 r3 r4 => post a'' w'' β'' u'' (t1.trans r1 hr) r2 (r3.trans t3) r4
    · rename_i hne
      exact absurd h1 (hne s')
  | cond c x y ihx ihy =>
    intro s s' h1 Q a w β u he hu hr hf post
    simp only [xcodeS] at h1
    split at h1
    · rename_i t ht
      refine wpSIn_cond (ev_ok hr rfl he ht) ?_
      cases t with
      | true => exact ihx s s' h1 Q a w β u he hu hr hf post
      | false => exact ihy s s' h1 Q a w β u he hu hr hf post
    · cases h1
  | _ => intro s s' h1; simp [xcodeS] at h1

theorem initEnv_ok {β : Bm} {n : Nat} {args : List AV} {cargs : Array Value} (hv : VRs β args cargs.toList) : ER β (initEnv n args) (cargs ++ Array.replicate (n - cargs.size) undef) := by
  have hlen : args.length = cargs.size := by simpa using hv.length
  have go : ∀ (l : List AV) (i : Nat) (t : Tr AV) (j : Nat), (initEnv.go l i t).get j = if i ≤ j ∧ j < i + l.length then l[j - i]? else t.get j := by
    intro l
    induction l with
    | nil => intro i t j; simp only [initEnv.go]; rw [if_neg]; simp
    | cons v l ih =>
      intro i t j
      simp only [initEnv.go]
      rw [ih, Tr.get_set]
      by_cases h0 : j = i
      · subst h0
        rw [if_neg (by omega), if_pos rfl, if_pos (by simp)]; simp
      · rw [if_neg h0]
        by_cases h1 : i + 1 ≤ j ∧ j < i + 1 + l.length
        · rw [if_pos h1, if_pos (by simp; omega), show j - i = (j - (i + 1)) + 1 by omega, List.getElem?_cons_succ]
        · rw [if_neg h1, if_neg (by simp; omega)]
  refine ⟨?_, fun j => ?_⟩
  · unfold initEnv
    by_cases h : args.length ≤ n
    · rw [bleT.2 h]; simp; omega
    · rw [bleF.2 (by omega)]; simp; omega
  · unfold initEnv Env.get
    simp only [go]
    by_cases hj : j < args.length
    · rw [if_pos ⟨Nat.zero_le _, by omega⟩]
      have : (args[j - 0]?) = some args[j] := by simp [hj]
      rw [this]
      obtain ⟨u, hu, hvu⟩ := hv.get j _ (by simp [hj] : args[j]? = some args[j])
      have hj' : j < cargs.size := by omega
      have : (cargs ++ Array.replicate (n - cargs.size) undef).getD j undef = u := by
        rw [Array.getD_eq_getD_getElem?, Array.getElem?_append_left hj']
        simp only [Array.getElem?_toList] at hu
        rw [hu]; rfl
      rw [this]; exact hvu
    · rw [if_neg (by omega)]
      have hu : (cargs ++ Array.replicate (n - cargs.size) undef).getD j undef = undef := by
        rw [Array.getD_eq_getD_getElem?, Array.getElem?_append_right (by omega), Array.getElem?_replicate]
        split <;> rfl
      rw [hu, Tr.get_lf]
      exact undef_ok

def resVar (tmps : Array Value) : ResultVar → Sem Value
  | .tmp t => pure (tmps.getD t undef)
  | .cell a t => do loadVar t (← asAddr (tmps.getD a undef))
theorem results_eq (fn : Func) (tmps : Array Value) : results fn tmps = (do let vs ← fn.results.mapM (resVar tmps); pure (if h : vs.size = 1 then vs[0] else .tuple vs)) := by
  unfold results
  congr 1

theorem aresl_ok (hT : TOk P T F) {β : Bm} {h : Heap} {w : World} {e : Env} {tmps : Array Value} (hr : Rel T.G β h w) (he : ER β e tmps) : ∀ (l : List ResultVar) (vs : List AV), aresl T e h l = some vs →
    ∃ us, (l.mapM (resVar tmps)).run P w = .ok us w ∧ VRs β vs us
  | [], vs, h1 => by simp only [aresl] at h1; injection h1 with h1; subst h1; exact ⟨[], by simp, VRs.nil⟩
  | x :: l, vs, h1 => by
    simp only [aresl] at h1
    split at h1
    · rename_i v vs' hv hvs
      injection h1 with h1; subst h1
      obtain ⟨us, hus, hrel⟩ := aresl_ok hT hr he l vs' hvs
      have hx : ∃ u, (resVar tmps x).run P w = .ok u w ∧ VR β v u := by
        cases x with
        | tmp t => simp only [ares1] at hv; injection hv with hv; subst hv; exact ⟨_, rfl, he.2 t⟩
        | cell a t =>
          simp only [ares1] at hv
          split at hv
          · rename_i o ho
            injection hv with hv; subst hv
            have hva := he.2 a
            unfold aload at ho
            split at ho
            · rename_i b off ti hea ht
              rw [hea] at hva
              split at ho
              · rename_i own es cs hb
                obtain ⟨v', hp, rfl⟩ := Option.map_eq_some_iff.1 ho
                obtain ⟨i, hi, hu⟩ := hva
                obtain ⟨x', hx', hv'⟩ := loadVar_ok (P := P) hT ht (hr.obj b i _ hi hb) hp
                refine ⟨x', ?_, hv'⟩
                simp only [resVar, hu, asAddr, Sem.run_bind, Sem.run_pure, Result.andThen_ok]
                exact hx'
              · cases ho
            · cases ho
          · cases hv
      obtain ⟨u, hu, hvu⟩ := hx
      refine ⟨u :: us, ?_, VRs.cons hvu hrel⟩
      simp only [List.mapM_cons, Sem.run_bind]
      rw [hu]
      simp only [Result.andThen_ok, Sem.run_bind]
      rw [hus]
      rfl
    · cases h1

theorem ares_ok (hT : TOk P T F) {β : Bm} {h : Heap} {w : World} {e : Env} {tmps : Array Value} (hr : Rel T.G β h w) (he : ER β e tmps) {fn : Func} {v : AV} (h1 : ares T e h fn.results.toList = some v) :
    ∃ u, (results fn tmps).run P w = .ok u w ∧ VR β v u := by
  unfold ares at h1
  have key : ∀ vs, aresl T e h fn.results.toList = some vs → ∃ us : List Value, VRs β vs us ∧ (results fn tmps).run P w = .ok (if h : us.toArray.size = 1 then us.toArray[0] else .tuple us.toArray) w := by
    intro vs hvs
    obtain ⟨us, hus, hrel⟩ := aresl_ok (P := P) hT hr he _ _ hvs
    refine ⟨us, hrel, ?_⟩
    rw [results_eq, Array.mapM_eq_mapM_toList]
    simp only [Sem.run_bind, bind_map_left]
    rw [hus]
    rfl
  split at h1
  · rename_i x hvs
    injection h1 with h1; subst h1
    obtain ⟨us, hrel, hrun⟩ := key _ hvs
    obtain ⟨u, us', rfl, hu, hn⟩ := hrel
    rw [VRs.nil_iff.1 hn] at hrun
    exact ⟨u, by rw [hrun]; simp, hu⟩
  · rename_i vs hne hvs
    injection h1 with h1; subst h1
    obtain ⟨us, hrel, hrun⟩ := key _ hvs
    have hl : us.length ≠ 1 := by
      rw [← hrel.length]
      intro hl
      match vs, hl with
      | [x], _ => exact hne x rfl
    refine ⟨.tuple us.toArray, ?_, us.toArray, rfl, by simpa using hrel⟩
    rw [hrun, dif_neg (by simpa using hl)]
  · cases h1

/-- The calls that were put off, and the marks. -/
theorem closeDefs_ok (hT : TOk P T F) {fn : Func} {tmps : Array Value} {R : Ending → World → Prop} {n : Nat} {u' : DM} {h' : Heap} : ∀ (ds : List ADef) (u : DM) (h : Heap), closeDefs T F ds u h = some (u', h') → ∀ (l : List Deferred) (m : FrameMode) (w : World) (β : Bm),
    DRs β ds l → DMR β u m → Rel T.G β h w → β.free h.nx h'.nx → (∀ w' β' m', To T.G β h w β' h' w' → DMR β' u' m' → LeavesIn Fence.wide n P fn tmps R [] m' w') → LeavesInM Fence.wide n P fn tmps R l m w
  | [], u, h, h1, l, m, w, β, hd, hm, hr, _, post => by
    simp only [closeDefs] at h1
    injection h1 with h1; cases h1
    have : l = [] := hd
    subst this
    exact post w β m (To.refl hr) hm
  | .mark b :: ds, u, h, h1, l, m, w, β, hd, hm, hr, hf, post => by
    simp only [closeDefs] at h1
    split at h1
    · rename_i hb
      obtain ⟨x, l', rfl, ⟨i, hi, rfl⟩, hds⟩ := hd
      have ho : w.heap[i.c]? = some (.deferred (some [])) := hr.obj b i _ hi hb
      have hl := hr.lt b i hi
      have hto : To T.G β h w β (h.set b (.defr false)) (w.putObj i.c (.deferred none)) :=
        To.set hr hi hb rfl rfl rfl rfl World.putObj_size (fun c hc => World.putObj_heap_other hc) (World.putObj_heap_same hl)
      refine ⟨hm.run, .inl ⟨i.c, _, rfl, run_takeDeferred ho, ?_⟩⟩
      exact closeDefs_ok hT ds u _ h1 l' m _ β hds hm hto.rel hf fun w' β' m' t1 t2 => post w' β' m' (hto.trans t1 hr) t2
    · cases h1
  | .call f args :: ds, u, h, h1, l, m, w, β, hd, hm, hr, hf, post => by
    simp only [closeDefs] at h1
    split at h1
    · rename_i fd hfd
      split at h1
      · rename_i c hc
        split at h1
        · rename_i s hs
          cases hres : fd.results.toList.isEmpty with
          | false => rw [hres] at h1; simp at h1
          | true =>
            rw [hres] at h1; simp only [cond_true] at h1
            obtain ⟨x, l', rfl, ⟨cap, htar, hargs⟩, hds⟩ := hd
            obtain ⟨hfn, hname⟩ := hT.fn f fd hfd
            have hinv : (invoke x.target x.args).run P w = .ok (.enter f (x.args ++ cap)) w := by
              rw [htar]; simp only [invoke]; exact run_callFunc hfn (by rw [hc]; rfl) hname _ _
            have x1 := xcodeS_ext _ _ _ _ hs
            have x2 := closeDefs_ext h1
            refine ⟨hm.run, .inr ⟨fun hh => (by cases hh), .func f, cap, f, x.args ++ cap, htar, hinv, fun _ _ => trivial, ?_⟩⟩
            refine callsDIn_of_wpSIn hfn hc trivial fun c₀ cs hc0 => ?_
            have hst : c₀ :: cs = { c₀ with mode := m } :: cs := by rw [← hc0]
            rw [hst]
            refine xcodeS_ok hT c _ _ hs _ _ w β m (initEnv_ok hargs) hm hr (fun b p q => hf b p (Nat.lt_of_lt_of_le q x2.1)) ?_
            intro a' w' β' m' t1 t2 t3 t4
            have hnil : fd.results = #[] := by
              have : fd.results.toList = [] := by simpa using hres
              exact Array.ext' (by simpa using this)
            refine ⟨t3, m', by rfl, _, results_none hnil _ _ _, ?_⟩
            exact closeDefs_ok hT ds _ _ h1 l' _ w' β' (hds.mono t1.grow.1) t4.settle t1.rel (Bm.free_of t1.grow x1.1 hf) fun w'' β'' m'' r1 r2 => post w'' β'' m'' (t1.trans r1 hr) r2
        · cases h1
      · cases h1
    · cases h1

theorem func_ok (hT : TOk P T F) (hK : KSound P T K) {k f : Nat} {args : List AV} {h h' : Heap} {r : Res} (h1 : afunc T F K k f args h = some (r, h')) {β : Bm} {w : World} {cargs : Array Value} {n : Nat}
    (hv : VRs β args cargs.toList) (hr : Rel T.G β h w) (hf : β.free h.nx h'.nx) :
    (∃ fn, P.funcs[f]? = some fn ∧ fn.body.isSome = true ∧ fn.name ≠ "runtime.NumGoroutine") ∧ CallsIn Fence.wide n P f cargs w fun e w' => ∃ β', ResR β' r e ∧ To T.G β h w β' h' w' := by
  unfold afunc at h1
  split at h1
  · rename_i fn hfn
    obtain ⟨hf1, hname⟩ := hT.fn f fn hfn
    split at h1
    · rename_i c hc
      refine ⟨⟨fn, hf1, by rw [hc]; rfl, hname⟩, ?_⟩
      split at h1
      · rename_i x s hx
        split at h1
        · rename_i u hu
          refine callsIn_of_wp_marks hf1 hc trivial ?_
          have hclose : ∃ u' h2, closeDefs T F s.defs u s.heap = some (u', h2) ∧ h2 = h' := by
            split at h1
            · rename_i h2 hcl
              obtain ⟨v, _, hh⟩ := Option.map_eq_some_iff.1 h1
              exact ⟨_, h2, hcl, by injection hh⟩
            · rename_i v h2 hcl
              injection h1 with h1; cases h1
              exact ⟨_, _, hcl, rfl⟩
            · cases h1
          obtain ⟨u', h2, hcl, rfl⟩ := hclose
          have x1 := xcode_ext hK.ext _ _ _ _ hx
          have x2 := closeDefs_ext hcl
          refine code_ok hT hK c _ _ _ hx none n _ w β rfl (initEnv_ok hv) (show DRs β [] [] from rfl) hr (fun b p q => hf b p (Nat.lt_of_lt_of_le q x2.1)) _ ?_
          intro a' w' β' hto he hd
          -- the way out
          have out : ∀ m, DMR β' u m → LeavesInM Fence.wide n P fn a'.tmps (fun e w' => ∃ β', ResR β' r e ∧ To T.G β h w β' h2 w') a'.defers m w' := by
            intro m hm
            refine closeDefs_ok hT _ _ _ hcl _ _ _ _ hd hm hto.rel (Bm.free_of hto.grow x1.1 hf) ?_
            intro w'' β'' m' t1 t2
            rw [hcl] at h1
            have hto2 := hto.trans t1 hr
            cases u' with
            | ret =>
              simp only at h1
              obtain ⟨v, hares, hh⟩ := Option.map_eq_some_iff.1 h1
              injection hh with hh _; subst hh
              obtain ⟨uv, hrun, hvu⟩ := ares_ok (P := P) hT t1.rel (he.mono t1.grow.1) hares
              cases t2
              exact ⟨uv, hrun, β'', hvu, hto2⟩
            | pan v =>
              simp only at h1
              injection h1 with h1; injection h1 with h1 _; subst h1
              obtain ⟨y, rfl, hy⟩ := t2
              exact ⟨β'', ⟨y, rfl, hy⟩, hto2⟩
            | rcv v => simp at h1
          cases x with
          | normal => simp only [AX.mode] at hu; injection hu with hu; subst hu; exact out _ rfl
          | ret => simp only [AX.mode] at hu; injection hu with hu; subst hu; exact out _ rfl
          | panic v => simp only [AX.mode] at hu; injection hu with hu; subst hu; intro y hy; exact out _ ⟨y, rfl, hy⟩
          | exit id => simp [AX.mode] at hu
        · cases h1
      · cases h1
    · cases h1
  · cases h1

theorem acall_ok (hT : TOk P T F) : ∀ k, KSound P T (acall T F k)
  | 0 => ⟨fun _ _ _ _ _ h1 => by simp [acall] at h1, fun _ _ _ _ _ h1 => by simp [acall] at h1, acall_ext 0⟩
  | k + 1 => ⟨fun f args h r h' h1 β w cargs n hv hr hf _ => func_ok hT (acall_ok hT k) (by simpa only [acall] using h1) hv hr hf,
      fun l args h r h' h1 β w cargs n i hi hv hr hf _ => round_ok hT (acall_ok hT k) (by simpa only [acall] using h1) hi hv hr hf, acall_ext (k + 1)⟩

end
end Go.Ai
