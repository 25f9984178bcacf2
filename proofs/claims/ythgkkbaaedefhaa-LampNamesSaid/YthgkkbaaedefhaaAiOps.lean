/- AiOps -/
import Derived.Test.YthgkkbaaedefhaaAiCall
set_option linter.unusedVariables false
set_option linter.unusedSimpArgs false
namespace Go.Ai
open Go

def DR (β : Bm) : ADef → Deferred → Prop
  | .mark b, d => ∃ i, β b = some i ∧ d = { target := .collected i.c, args := #[] }
  | .call f args, d => ∃ cap, d.target = .fn (.func f) cap ∧ VRs β args (d.args ++ cap).toList

def DRs (β : Bm) : List ADef → List Deferred → Prop
  | [], l => l = []
  | d :: ds, l => ∃ x l', l = x :: l' ∧ DR β d x ∧ DRs β ds l'

theorem DR.mono {β β' : Bm} (h : β.le β') {d : ADef} {x : Deferred} (r : DR β d x) : DR β' d x := by
  cases d with
  | mark b => obtain ⟨i, hi, e⟩ := r; exact ⟨i, h _ _ hi, e⟩
  | call f args => obtain ⟨cap, e, hv⟩ := r; exact ⟨cap, e, VRs.mono h _ _ hv⟩
theorem DRs.mono {β β' : Bm} (h : β.le β') : ∀ {ds : List ADef} {l : List Deferred}, DRs β ds l → DRs β' ds l
  | [], _, r => r
  | _ :: _, _, ⟨x, l', e, r, rs⟩ => ⟨x, l', e, r.mono h, rs.mono h⟩
theorem DRs.append {β : Bm} : ∀ {ds ds' : List ADef} {l l' : List Deferred}, DRs β ds l → DRs β ds' l' → DRs β (ds ++ ds') (l ++ l')
  | [], _, _, _, h, k => by simp only [DRs] at h; subst h; exact k
  | _ :: _, _, _, _, ⟨x, l', e, r, rs⟩, k => by subst e; exact ⟨x, _, rfl, r, rs.append k⟩

section
variable {P : Program} {T : Types} {F : Funcs} {K : Caller} {β : Bm} {h h' : Heap} {w : World} {e : Env} {a : Act}

theorem put_ok {d : Option Nat} {v : AV} {u : Value} {e' : Env} (he : ER β e a.tmps) (hv : VR β v u) (h1 : e.put d v = some e') : ER β e' (a.put d u).tmps := by
  cases d with
  | none => simp only [Env.put_none, Env.put_some] at h1; injection h1 with h1; subst h1; exact he
  | some i =>
    simp only [Env.put_none, Env.put_some] at h1
    by_cases hi : i < e.n
    · rw [bltT.2 hi] at h1
      simp only [cond_true] at h1
      injection h1 with h1; subst h1
      refine ⟨by simp [Act.put, he.1], fun j => ?_⟩
      have hsz : i < a.tmps.size := by rw [he.1]; exact hi
      simp only [Act.put, Env.get, Tr.get_set, Array.getD_eq_getD_getElem?, Array.getElem?_setIfInBounds]
      by_cases hj : j = i
      · subst hj
        simpa [hsz] using hv
      · rw [if_neg hj, if_neg (fun x => hj x.symm)]
        have := he.2 j
        simp only [Env.get, Array.getD_eq_getD_getElem?] at this
        exact this
    · rw [bltF.2 (by omega)] at h1; simp at h1
theorem put_defers (a : Act) (d : Option Nat) (u : Value) : (a.put d u).defers = a.defers := by cases d <;> rfl
theorem put_n {d : Option Nat} {v : AV} {e' : Env} (h1 : e.put d v = some e') : e'.n = e.n := by
  cases d with
  | none => simp only [Env.put_none, Env.put_some] at h1; injection h1 with h1; rw [h1]
  | some i =>
    simp only [Env.put_none, Env.put_some] at h1
    generalize Nat.blt i e.n = c at h1
    cases c with
    | false => simp at h1
    | true => simp only [cond_true] at h1; injection h1 with h1; subst h1; rfl

theorem undef_ok : VR β (.tup []) undef := ⟨#[], rfl, VRs.nil⟩

theorem wanted_ok {ops : Array Oper} {o : Oper} {b : Bool} (he : ER β e a.tmps) (h1 : wantedA ops.toList e o = some b) : Region.wanted o (yielded ops a.tmps) = b := by
  rw [wantedA_eq] at h1
  unfold Region.wanted
  split at h1
  · rename_i hg; injection h1 with h1; subst h1; rw [hg]
  · rename_i j want hg
    rw [hg]
    simp only
    unfold yielded
    rw [Array.getElem?_toList] at h1
    cases hj : ops[j]? with
    | none => rw [hj] at h1; cases h1; rfl
    | some oj =>
      rw [hj] at h1
      simp only at h1
      cases hd : oj.dst with
      | none => rw [hd] at h1; simp only at h1; injection h1 with h1; subst h1; simp [hd]
      | some d =>
        rw [hd] at h1
        simp only at h1
        have hv := he.2 d
        simp only [Option.bind_some, hd]
        cases hx : e.get d <;> rw [hx] at h1 hv <;> simp only at h1 <;> try (cases h1; done)
        case bool b' =>
          injection h1 with h1; subst h1
          simp only [VR, Array.getD_eq_getD_getElem?] at hv
          cases ht : a.tmps[d]? with
          | none => rw [ht] at hv; simp [undef] at hv
          | some v => rw [ht] at hv; simp at hv; subst hv; simp
        all_goals
          injection h1 with h1; subst h1
          cases ht : a.tmps[d]? with
          | none => simp
          | some v =>
            simp only [Array.getD_eq_getD_getElem?, ht, Option.getD_some] at hv
            cases v <;> first
              | (simp; done)
              | (exfalso; simp only [VR] at hv; first | (cases hv; done) | (obtain ⟨_, _, hh⟩ := hv; cases hh; done) | (obtain ⟨_, hh, _⟩ := hv; cases hh; done) | (obtain ⟨_, _, _, hh, _⟩ := hv; cases hh; done) | (obtain ⟨_, _, hh, _⟩ := hv; cases hh; done))

theorem adefer_ok (hT : TOk P T F) (r : Rel T.G β h w) (he : ER β e a.tmps) {o : Oper} {c : Call} {d : ADef} (hop : o.op = .defer c) (h1 : adefer T e c = some d) : ∃ x, (execOp a.eval o).run P w = .ok (.defer x) w ∧ DR β d x := by
  unfold adefer at h1
  split at h1
  · rename_i f args hc hargs
    split at h1
    · rename_i g first cap hv
      injection h1 with h1; subst h1
      obtain ⟨g', p, q, hue, hg, hp, hq⟩ := ev_ok r rfl he hv
      simp only [FR] at hg; subst hg
      have hx := evs_arr r rfl he hargs
      refine ⟨{ target := .fn (.func g) q, args := p ++ c.args.map a.eval }, ?_, q, rfl, ?_⟩
      · unfold execOp; rw [hop]; simp [resolve, hc, hue, Deferred.ofValue]
      · simpa using (hp.append hx).append hq
    · cases h1
  · cases h1

theorem isDefer_some {op : Op} {c : Call} (h1 : isDefer op = some c) : op = .defer c := by
  cases op <;> simp only [isDefer] at h1 <;> try (cases h1; done)
  injection h1 with h1; rw [h1]

theorem xops_ok (hT : TOk P T F) (hK : KSound P T K) {ops : Array Oper} {rnd rndA : Option Nat} (hrnd : rndA = none → rnd = none) {n : Nat} {Q : Exit → Act → World → Prop} {p : Option AV} {e' : Env} {ds' : List ADef} {h' : Heap} :
    ∀ (l : List Oper) (k : Nat), l = ops.toList.drop k → ∀ (e : Env) (ds : List ADef) (h : Heap) (a : Act) (w : World) (β : Bm), ER β e a.tmps → DRs β ds a.defers → Rel T.G β h w →
      xops T K rndA ops.toList l e ds h = some (p, e', ds', h') → β.free h.nx h'.nx →
      (∀ a' w' β', To T.G β h w β' h' w' → ER β' e' a'.tmps → DRs β' ds' a'.defers → match p with
        | none => Q .normal a' w'
        | some v => ∀ u, VR β' v u → Q (.panic [{ v := u, recovered := false }]) a' w') →
      wpOpsIn (Fw rnd) n P ops Q (List.range' k l.length) a w
  | [], k, _, e, ds, h, a, w, β, he, hd, r, h1, _, post => by
    simp only [xops_nil, xops_cons] at h1
    injection h1 with h1; cases h1
    exact post a w β (To.refl r) he hd
  | o :: l, k, hl, e, ds, h, a, w, β, he, hd, r, h1, hf, post => by
    have hk : ops[k]? = some o := by
      have : (ops.toList.drop k)[0]? = some o := by rw [← hl]; rfl
      rw [List.getElem?_drop] at this
      simpa using this
    have hl' : l = ops.toList.drop (k + 1) := by
      have : (o :: l).drop 1 = (ops.toList.drop k).drop 1 := by rw [hl]
      simpa [List.drop_drop] using this
    simp only [List.length_cons, List.range'_succ, wpOpsIn, hk]
    simp only [xops_nil, xops_cons] at h1
    split at h1
    · cases h1
    · rename_i hw
      rw [wanted_ok he hw]
      simp only [Bool.false_eq_true, if_false]
      split at h1
      · rename_i e1 hp
        refine ⟨fun f _ => Fw_fn _ f, ?_⟩
        exact xops_ok hT hK hrnd l (k + 1) hl' e1 ds h _ w β (put_ok he undef_ok hp) (by rw [put_defers]; exact hd) r h1 hf post
      · cases h1
    · rename_i hw
      rw [wanted_ok he hw]
      simp only [if_true]
      split at h1
      · rename_i c hc
        split at h1
        · rename_i _ _ d e1 hda hp
          obtain ⟨x, hx, hdx⟩ := adefer_ok hT r he (isDefer_some hc) hda
          have hr0 : rnd = none := hrnd rfl
          refine ⟨fun f _ => Fw_fn _ f, ?_⟩
          rw [Fw_round, hr0, Oper.semAt_none, hx, Oper.uponIn_defer]
          subst hr0
          refine xops_ok hT hK (fun _ => rfl) l (k + 1) hl' e1 (d :: ds) h _ w β ?_ ?_ r h1 hf post
          · exact put_ok (a := { a with defers := x :: a.defers }) he undef_ok hp
          · rw [put_defers]; exact ⟨x, _, rfl, hdx, hd⟩
        · cases h1
      · rename_i hnd
        split at h1
        · cases h1
        · rename_i v h2 f hx
          injection h1 with h1; cases h1
          refine xop_ok hT hK r he hx hf (fun _ _ h => by cases h) hnd (fun v' hv' => by cases hv') ?_
          intro v' hv' u w' β' hvu hto
          injection hv' with hv'; subst hv'
          exact post a w' β' hto (he.mono hto.grow.1) (hd.mono hto.grow.1) u hvu
        · rename_i v h2 f hx
          split at h1
          · rename_i e1 hp
            have x1 := xop_ext hK.ext hx
            have x2 := xops_ext hK.ext h1
            refine xop_ok hT hK r he hx (fun b b1 b2 => hf b b1 (Nat.lt_of_lt_of_le b2 x2.1)) (fun _ _ h => by cases h) hnd ?_ (fun v' hv' => by cases hv')
            intro v' hv' u w' β' hvu hto
            injection hv' with hv'; subst hv'
            refine xops_ok hT hK hrnd l (k + 1) hl' e1 ds h2 _ w' β' (put_ok (he.mono hto.grow.1) hvu hp) (by rw [put_defers]; exact hd.mono hto.grow.1) hto.rel h1 (Bm.free_of hto.grow x1.1 hf) ?_
            intro a' w'' β'' hto' he' hd'
            exact post a' w'' β'' (hto.trans hto' r) he' hd'
          · cases h1

end
end Go.Ai
