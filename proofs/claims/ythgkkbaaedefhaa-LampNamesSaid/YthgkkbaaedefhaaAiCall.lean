/- AiCall -/
import Derived.Test.YthgkkbaaedefhaaAiExt
set_option linter.unusedVariables false
set_option linter.unusedSimpArgs false
namespace Go.Ai
open Go

def Fw : Option Nat → Fence
  | none => Fence.wide
  | some l => Fence.wide.inRound l

theorem Fw_fn (r : Option Nat) (f : FuncId) : (Fw r).fn f := by cases r <;> trivial
theorem Fw_depth (r : Option Nat) : (Fw r).depth = none := by cases r <;> rfl
theorem Fw_round (r : Option Nat) : (Fw r).round = r := by cases r <;> rfl
theorem Fw_one (r : Option Nat) (n : Nat) : (Fw r).depth.isSome = true → 1 ≤ n := by rw [Fw_depth]; intro h; cases h

theorem calls_Fw {r : Option Nat} {n : Nat} {P : Program} {f : FuncId} {args : Array Value} {w : World} {R : Ending → World → Prop} (h : CallsIn Fence.wide n P f args w R) : CallsIn (Fw r) n P f args w R := by
  cases r with
  | none => exact h
  | some l => exact h
theorem round_Fw {r : Option Nat} {n : Nat} {P : Program} {l : Nat} {f : FuncId} {tmps : Array Value} {a b : Code} {w : World} {R : Ending → World → Prop} (h : RoundIn Fence.wide n P l f tmps a b w R) : RoundIn (Fw r) n P l f tmps a b w R := by
  cases r with
  | none => exact h
  | some l => exact h

def ResR (β : Bm) : Res → Ending → Prop
  | .ret v, .returned u => VR β v u
  | .pan v, .panicked ch => ∃ u, ch = [{ v := u, recovered := false }] ∧ VR β v u
  | _, _ => False

/-- 'fb': where no block above is known. -/
structure KSoundB (fb : Bool) (P : Program) (T : Types) (K : Caller) : Prop where
  func : ∀ f args h r h', K (.func f args) h = some (r, h') → ∀ β w cargs n, VRs β args cargs.toList → Rel T.G β h w → β.free h.nx h'.nx → (fb = true → ∀ x, h.nx ≤ x → β x = none) →
    (∃ fn, P.funcs[f]? = some fn ∧ fn.body.isSome = true ∧ fn.name ≠ "runtime.NumGoroutine") ∧ CallsIn Fence.wide n P f cargs w fun e w' => ∃ β', ResR β' r e ∧ To T.G β h w β' h' w'
  round : ∀ l args h r h', K (.round l args) h = some (r, h') → ∀ β w cargs n i, β l = some i → VRs β args cargs.toList → Rel T.G β h w → β.free h.nx h'.nx → (fb = true → ∀ x, h.nx ≤ x → β x = none) →
    ∃ f tmps assign body, (Instr.yield i.c cargs).run P w = .ok (.round i.c f tmps assign body) w ∧ RoundIn Fence.wide n P i.c f tmps assign body w fun e w' => ∃ β', ResR β' r e ∧ To T.G β h w β' h' w'
  ext : KExt K

abbrev KSound := KSoundB false

section
variable {P : Program} {T : Types} {F : Funcs} {K : Caller} {β : Bm} {h h' : Heap} {w : World} {e : Env} {a : Act}

theorem Rel.lo {G : Nat} (r : Rel G β h w) (x : Nat) : Rel G β { h with lo := x } w := ⟨r.obj, r.lt, r.apart, r.glob⟩
theorem To.lo {G : Nat} {β' : Bm} {h2 : Heap} {w' : World} (t : To G β { h with lo := h.nx } w β' h2 w') : To G β h w β' { h2 with lo := bif Nat.ble h.lo h2.lo then h.lo else h2.lo } w' :=
  ⟨t.grow, HExt.of_lo t.ext, t.rel.lo _, ⟨t.kept.os, t.kept.tape, t.kept.output, t.kept.size, t.kept.block⟩, t.lin⟩

theorem run_callFunc {f : FuncId} {fn : Func} (hf : P.funcs[f]? = some fn) (hb : fn.body.isSome = true) (hn : fn.name ≠ "runtime.NumGoroutine") (args : Array Value) (w : World) : (callFunc f args).run P w = .ok (.enter f args) w := by
  simp [callFunc, hf, hn]
  intro hx
  rw [hx] at hb
  cases hb

def ReqR (P : Program) (β : Bm) (w : World) (s : Sem Next) : Req → Prop
  | .func f args => ∃ cargs, VRs β args cargs.toList ∧ s.run P w = (callFunc f cargs).run P w
  | .round l args => ∃ i cargs, β l = some i ∧ VRs β args cargs.toList ∧ s.run P w = (Instr.yield i.c cargs).run P w

theorem acallMethod_ok (hT : TOk P T F) (r : Rel T.G β h w) {recv : AV} {u : Value} {name : String} {args : List AV} {cargs : Array Value} {req : Req} (h1 : acallMethod T h.get recv name args = some req) (hr : VR β recv u) (hx : VRs β args cargs.toList) :
    ReqR P β w (callMethod u name cargs) req := by
  unfold acallMethod at h1
  split at h1
  · rename_i t v
    obtain ⟨y, rfl, hy⟩ := hr
    split at h1
    · rename_i f rv hm
      injection h1 with h1; subst h1
      unfold amethod at hm
      split at hm
      · rename_i ti ht
        split at hm
        · rename_i nm f' hfind
          injection hm with hm; injection hm with e1 e2; subst e1; subst e2
          have hmem := List.mem_of_find?_eq_some hfind
          have hname : nm = name := by simpa using List.find?_some hfind
          subst hname
          have hmeth := (hT.row _ _ ht).meth _ hmem
          simp only at hmeth
          refine ⟨#[y] ++ cargs, by simpa using VRs.cons hy hx, ?_⟩
          simp [callMethod, hmeth]
        · rename_i nm f' u' hfind
          split at hm
          · rename_i o ho
            injection hm with hm; injection hm with e1 e2; subst e1; subst e2
            have hmem := List.mem_of_find?_eq_some hfind
            have hname : nm = name := by simpa using List.find?_some hfind
            subst hname
            have hmeth := (hT.row _ _ ht).meth _ hmem
            simp only at hmeth
            have hload := (aload_ok hT r ho hy).2
            obtain ⟨x, w', β', hrun, hvx, _⟩ := hload
            -- a load leaves all as it was
            unfold aload at ho
            split at ho
            · rename_i b off ti' ht'
              split at ho
              · rename_i own es vs hb
                obtain ⟨v', hp, rfl⟩ := Option.map_eq_some_iff.1 ho
                obtain ⟨i, hi, rfl⟩ := hy
                obtain ⟨x', hx', hv'⟩ := loadVar_ok (P := P) hT ht' (r.obj b i _ hi hb) hp
                have := hmeth _ _ _ hx'
                refine ⟨#[x'] ++ cargs, by simpa using VRs.cons hv' hx, ?_⟩
                simp [callMethod, this]
              · cases ho
            · cases ho
          · cases hm
        · cases hm
      · cases hm
    · cases h1
  · cases h1

theorem ainvoke_ok (hT : TOk P T F) (r : Rel T.G β h w) {f : AV} {u : Value} {args : List AV} {cargs : Array Value} {req : Req} (h1 : ainvoke T h.get f args = some req) (hr : VR β f u) (hx : VRs β args cargs.toList) :
    ReqR P β w (do let d ← Deferred.ofValue u cargs; invoke d.target d.args) req := by
  unfold ainvoke at h1
  split at h1
  · rename_i f first cap
    obtain ⟨g, p, q, rfl, hg, hp, hq⟩ := hr
    simp only [FR] at hg; subst hg
    injection h1 with h1; subst h1
    refine ⟨p ++ cargs ++ q, by simpa using (hp.append hx).append hq, ?_⟩
    simp [Deferred.ofValue, invoke]
  · rename_i l first cap
    obtain ⟨g, p, q, rfl, hg, hp, hq⟩ := hr
    obtain ⟨i, hi, rfl⟩ := hg
    injection h1 with h1; subst h1
    refine ⟨i, p ++ cargs, hi, by simpa using hp.append hx, ?_⟩
    simp [Deferred.ofValue, invoke]
  · rename_i name first cap
    obtain ⟨g, p, q, rfl, hg, hp, hq⟩ := hr
    simp only [FR] at hg; subst hg
    split at h1
    · rename_i recv rest hsplit
      have hall := hp.append hx
      rw [hsplit] at hall
      obtain ⟨v, vs, hvs, hv, hrest⟩ := hall
      have hpc : (p ++ cargs) = #[v] ++ vs.toArray := by
        apply Array.ext'
        simpa using hvs
      have h0 : (p ++ cargs)[0]? = some v := by rw [hpc]; simp
      have hex : (p ++ cargs).extract 1 (p ++ cargs).size = vs.toArray := by
        rw [hpc]; apply Array.ext'; simp
      have := acallMethod_ok (cargs := vs.toArray) hT r h1 hv (by simpa using hrest)
      have hrun : (do let d ← Deferred.ofValue (.func (.method name) p q) cargs; invoke d.target d.args : Sem Next).run P w = (callMethod v name vs.toArray).run P w := by
        simp only [Deferred.ofValue, Sem.run_bind, Sem.run_pure, Result.andThen_ok, invoke, h0, hex]
      cases req with
      | func f args => obtain ⟨cargs', x1, x2⟩ := this; exact ⟨cargs', x1, hrun.trans x2⟩
      | round l args => obtain ⟨i, cargs', x0, x1, x2⟩ := this; exact ⟨i, cargs', x0, x1, hrun.trans x2⟩
    · cases h1
  · cases h1

theorem acallee_ok (hT : TOk P T F) (r : Rel T.G β h w) (he : ER β e a.tmps) {c : Call} {req : Req} (h1 : acallee T h.get e c = some req) (ty : TypeId) :
    ReqR P β w (do let d ← resolve a.eval c ty; invoke d.target d.args) req := by
  unfold acallee at h1
  split at h1
  · cases h1
  · rename_i args hargs
    have hx := evs_arr r rfl he hargs
    split at h1
    · rename_i f hc
      split at h1
      · rename_i v hv
        have := ainvoke_ok hT r h1 (ev_ok r rfl he hv) hx
        have hrun : (do let d ← resolve a.eval c ty; invoke d.target d.args : Sem Next).run P w = (do let d ← Deferred.ofValue (a.eval f) (c.args.map a.eval); invoke d.target d.args : Sem Next).run P w := by
          simp [resolve, hc]
        cases req with
        | func f args => obtain ⟨cargs', x1, x2⟩ := this; exact ⟨cargs', x1, hrun.trans x2⟩
        | round l args => obtain ⟨i, cargs', x0, x1, x2⟩ := this; exact ⟨i, cargs', x0, x1, hrun.trans x2⟩
      · cases h1
    · rename_i rv name hc
      split at h1
      · rename_i v hv
        have := acallMethod_ok hT r h1 (ev_ok r rfl he hv) hx
        have hrun : (do let d ← resolve a.eval c ty; invoke d.target d.args : Sem Next).run P w = (callMethod (a.eval rv) name (c.args.map a.eval)).run P w := by
          have h0 : (#[a.eval rv] ++ c.args.map a.eval)[0]? = some (a.eval rv) := by rw [Array.getElem?_append_left (by simp)]; rfl
          have hex : (#[a.eval rv] ++ c.args.map a.eval).extract 1 (#[a.eval rv] ++ c.args.map a.eval).size = c.args.map a.eval := by
            apply Array.ext'; simp [List.take_of_length_le]
          simp only [resolve, hc, Sem.run_bind, Sem.run_pure, Result.andThen_ok, invoke, h0, hex]
        cases req with
        | func f args => obtain ⟨cargs', x1, x2⟩ := this; exact ⟨cargs', x1, hrun.trans x2⟩
        | round l args => obtain ⟨i, cargs', x0, x1, x2⟩ := this; exact ⟨i, cargs', x0, x1, hrun.trans x2⟩
      · cases h1
    · cases h1

theorem isCall_some {op : Op} {c : Call} (h1 : isCall op = some c) : op = .call c ∧ ∀ b, c.callee ≠ .builtin b := by
  cases op <;> simp only [isCall] at h1 <;> try (cases h1; done)
  rename_i c'
  unfold callOf at h1
  split at h1
  · cases h1
  · rename_i hb; injection h1 with h1; subst h1; exact ⟨rfl, hb⟩
theorem isPanic_some {op : Op} {x : Operand} (h1 : isPanic op = some x) : op = .panic x := by
  cases op <;> simp only [isPanic] at h1 <;> try (cases h1; done)
  injection h1 with h1; rw [h1]
theorem isDefer_none {op : Op} (h1 : isDefer op = none) : ∀ c, op ≠ .defer c := by
  rintro c rfl; cases h1

theorem xop_ok {fb : Bool} (hT : TOk P T F) (hK : KSoundB fb P T K) (r : Rel T.G β h w) (he : ER β e a.tmps) {o : Oper} {res : Res} {fp : FP} (h1 : xop T K e h o = some (res, h', fp)) (hf : β.free h.nx h'.nx) (hfb : ∀ c, isCall o.op = some c → fb = true → ∀ x, h.nx ≤ x → β x = none) (hnd : isDefer o.op = none)
    {rnd : Option Nat} {n : Nat} {next : Act → World → Prop} {Q : Exit → Act → World → Prop}
    (hret : ∀ v, res = .ret v → ∀ u w' β', VR β' v u → To T.G β h w β' h' w' → next (a.put o.dst u) w')
    (hpan : ∀ v, res = .pan v → ∀ u w' β', VR β' v u → To T.G β h w β' h' w' → Q (.panic [{ v := u, recovered := false }]) a w') : o.wpIn (Fw rnd) n P a w next Q := by
  refine ⟨fun f _ => Fw_fn _ f, ?_⟩
  rw [Fw_round, Oper.semAt_eq _ _ _ (isDefer_none hnd)]
  unfold xop at h1
  split at h1
  · rename_i c hc
    obtain ⟨hop, hnb⟩ := isCall_some hc
    split at h1
    · rename_i req hreq
      split at h1
      · rename_i r' h2 hk
        injection h1 with h1; cases h1
        have hrr := acallee_ok hT r he hreq o.type
        have hexec : (execOp a.eval o).run P w = (do let d ← resolve a.eval c o.type; invoke d.target d.args : Sem Next).run P w := by unfold execOp; rw [hop]
        rw [hexec]
        have fin : ∀ e' w', (∃ β', ResR β' res e' ∧ To T.G β { h with lo := h.nx } w β' h2 w') → (match e', w' with
            | .returned v, w'' => next (a.put o.dst v) w''
            | .panicked chain, w'' => Q (.panic chain) a w''
            | .outgrown, _ => LetsOut Q) := by
          rintro e' w' ⟨β', hres, hto⟩
          cases res with
          | ret v =>
            cases e' with
            | returned u => exact hret v rfl u w' β' hres hto.lo
            | panicked ch => exact hres.elim
            | outgrown => exact hres.elim
          | pan v =>
            cases e' with
            | returned u => exact hres.elim
            | panicked ch => obtain ⟨u, rfl, hv⟩ := hres; exact hpan v rfl u w' β' hv hto.lo
            | outgrown => exact hres.elim
        cases req with
        | func f args =>
          obtain ⟨cargs, hx, hrun⟩ := hrr
          obtain ⟨⟨fn, k1, k2, k3⟩, hcalls⟩ := hK.func f args _ res h2 hk β w cargs (n - 1) hx (r.lo _) hf (hfb c hc)
          rw [hrun, run_callFunc k1 k2 k3, Oper.uponIn_enter]
          refine ⟨Fw_one _ _, calls_Fw (hcalls.mono ?_)⟩
          intro e' w' hx'
          have := fin e' w' hx'
          cases e' <;> exact this
        | round l args =>
          obtain ⟨i, cargs, hi, hx, hrun⟩ := hrr
          obtain ⟨f, tmps, as, bd, hy, hround⟩ := hK.round l args _ res h2 hk β w cargs (n - 1) i hi hx (r.lo _) hf (hfb c hc)
          rw [hrun, hy, Oper.uponIn_round]
          refine ⟨Fw_one _ _, round_Fw (hround.mono ?_)⟩
          intro e' w' hx'
          have := fin e' w' hx'
          cases e' <;> exact this
      · cases h1
    · cases h1
  · split at h1
    · rename_i x hx
      have hop := isPanic_some hx
      split at h1
      · rename_i t v hv
        injection h1 with h1; cases h1
        obtain ⟨y, hy, hvy⟩ := ev_ok r rfl he hv
        have hexec : (execOp a.eval o).run P w = .halt (.panic (.iface t y)) w := by
          unfold execOp; rw [hop]; simp [hy, Instr.panic]
        rw [hexec, Oper.uponIn_panic]
        exact hpan _ rfl (.iface t y) w β ⟨y, rfl, hvy⟩ (To.refl r)
      · cases h1
    · split at h1
      · rename_i out ho
        injection h1 with h1; cases h1
        obtain ⟨u, w', β', hrun, hv, hto⟩ := aop_ok hT r rfl he ho hf
        have := hret out.v rfl u w' β' hv hto
        rcases hrun with hrun | ⟨hrun, rfl⟩
        · rw [hrun, Oper.uponIn_value]; exact this
        · rw [hrun, Oper.uponIn_skip]; exact this
      · cases h1

end
end Go.Ai
