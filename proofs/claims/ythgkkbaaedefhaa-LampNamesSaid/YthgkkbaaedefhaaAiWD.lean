/- AiWD -/
import Derived.Test.YthgkkbaaedefhaaAiWC
set_option linter.unusedVariables false
set_option linter.unusedSimpArgs false
namespace Go.Ai
open Go
noncomputable section

/-- An operation without what is behind it: its slot, the operation, the slot of its guard. -/
structure SOp where
  dst : Option Nat
  op : Op
  g : Option (Nat × Bool)

def strip1 (ops : List Oper) (o : Oper) : Option SOp :=
  match o.guard with
  | none => some ⟨o.dst, o.op, none⟩
  | some (j, want) => match nth ops j with
    | some oj => match oj.dst with
      | some d => some ⟨o.dst, o.op, some (d, want)⟩
      | none => none
    | none => none
def strip (ops : List Oper) : List Oper → Option (List SOp)
  | [] => some []
  | o :: r => match strip1 ops o, strip ops r with
    | some x, some l => some (x :: l)
    | _, _ => none

def wanted1 (n : Nat) (s : St) (g : Option (Nat × Bool)) : Option Bool :=
  match g with
  | none => some true
  | some (d, want) => wantedV want ((E n s.l).get d)

theorem strip1_wanted {ops : List Oper} {o : Oper} {x : SOp} (h : strip1 ops o = some x) (n : Nat) (s : St) : wantedA ops (E n s.l) o = wanted1 n s x.g ∧ x.dst = o.dst ∧ x.op = o.op := by
  unfold strip1 at h
  unfold wantedA wanted1
  cases hg : o.guard with
  | none => rw [hg] at h; injection h with h; subst h; exact ⟨rfl, rfl, rfl⟩
  | some p =>
    obtain ⟨j, want⟩ := p
    rw [hg] at h
    dsimp only at h ⊢
    cases hn : nth ops j with
    | none => rw [hn] at h; cases h
    | some oj =>
      rw [hn] at h
      dsimp only at h
      unfold wantedD
      dsimp only
      cases hd : oj.dst with
      | none => rw [hd] at h; cases h
      | some d => rw [hd] at h; injection h with h; subst h; exact ⟨rfl, rfl, rfl⟩

/-- A slot is put. -/
def wput (n : Nat) (dst : Option Nat) (v : AV) (s : St) (k : St → Prop) : Prop :=
  match dst with
  | none => k s
  | some d => d < n ∧ k { s with l := (d, v) :: s.l }

/-- Operations in the text's order. -/
def wops (P : Program) (T : Types) (nd : Bool) (hb : HV) (n : Nat) : List SOp → St → (Option AV → St → Prop) → Prop
  | [], s, Q => Q none s
  | o :: r, s, Q => wgd (wanted1 n s o.g)
      (match isDefer o.op with
      | some c => nd = true ∧ wopt (adefer T (E n s.l) c) fun d => wput n o.dst (.tup []) { s with ds := d :: s.ds } fun s1 => wops P T nd hb n r s1 Q
      | none => wop P T hb n s o.op fun res s1 => match res with
        | .ret v => wput n o.dst v s1 fun s2 => wops P T nd hb n r s2 Q
        | .pan v => Q (some v) s1)
      (wput n o.dst (.tup []) s fun s1 => wops P T nd hb n r s1 Q)

/-- Operations that draw their order, as they go in the text's order. -/
def FP.call (us : List (Nat × AO)) : FP := ⟨true, [], !us.isEmpty, [], true⟩

def wopF (P : Program) (T : Types) (hb : HV) (n : Nat) (s : St) (op : Op) (k : Res → St → FP → Prop) : Prop :=
  match isCall op with
  | some c => wopt (acallee T (s.H hb).get (E n s.l) c) fun req => wcall P T req (s.H hb) fun r us ns => k r (s.upd hb us ns) (FP.call us)
  | none => match isPanic op with
    | some x => ∃ t v, ev T (E n s.l) x = some (.iface t v) ∧ k (.pan (.iface t v)) s ⟨true, [], false, [], false⟩
    | none => wopt (aop T (s.H hb).get (hb.at s.ns.length) (E n s.l) op) fun out => k (.ret out.v) (s.upd hb out.up out.nw) ⟨false, out.rd, false, out.up.map (·.1), !out.nw.isEmpty⟩

def clash2 (a f : FP) : Bool := a.clash f || (a.all && f.al)
def clashes2 (fs : List FP) (n : Nat) (f : FP) : List Nat → Bool
  | [] => false
  | i :: r => (match fs[n - 1 - i]? with | some x => clash2 x f | none => false) || clashes2 fs n f r

def wopsD (P : Program) (T : Types) (hb : HV) (n : Nat) (ms : List Nat) : List SOp → List (List Nat) → Nat → List FP → St → (Option AV → St → Prop) → Prop
  | [], _, _, _, s, Q => Q none s
  | o :: r, fr :: frs, i, fs, s, Q => wgd (wanted1 n s o.g)
      (wopF P T hb n s o.op fun res s1 f => clashes2 fs i f fr = false ∧ match res with
        | .ret v => wput n o.dst v s1 fun s2 => wopsD P T hb n ms r frs (i + 1) (f :: fs) s2 Q
        | .pan v => (ms.drop (i + 1)).all (fun m => Nat.testBit m i) = true ∧ Q (some v) { s1 with l := [] })
      (wput n o.dst (.tup []) s fun s1 => wopsD P T hb n ms r frs (i + 1) (FP.nil :: fs) s1 Q)
  | _ :: _, [], _, _, _, _ => False


variable {P : Program} {T : Types} {F : Funcs}

theorem wput_ok {n : Nat} {dst : Option Nat} {v : AV} {s : St} {k : St → Prop} (hw : wput n dst v s k) : ∃ s1, k s1 ∧ (E n s.l).put dst v = some (E n s1.l) ∧ s1.ds = s.ds ∧ s1.us = s.us ∧ s1.ns = s.ns := by
  cases dst with
  | none => exact ⟨s, hw, by rw [Env.put_none], rfl, rfl, rfl⟩
  | some d => exact ⟨_, hw.2, E_put n d s.l v hw.1, rfl, rfl, rfl⟩

theorem Here.put {hb : HV} {n : Nat} {s s1 : St} {β : Bm} {h : Heap} {w : World} {a : Act} (q : Here T hb n s β h w a.tmps a.defers) {dst : Option Nat} {v : AV} {u : Value} (hv : VR β v u)
    (h1 : (E n s.l).put dst v = some (E n s1.l)) (h2 : s1.ds = s.ds) (h3 : s1.us = s.us) (h4 : s1.ns = s.ns) : Here T hb n s1 β h w (a.put dst u).tmps (a.put dst u).defers := by
  refine ⟨?_, put_ok q.env hv h1, by rw [put_defers, h2]; exact q.dfs, q.base⟩
  have := q.now
  unfold St.H at this ⊢
  rw [h3, h4]; exact this

theorem H_eq {hb : HV} {s s1 : St} (h3 : s1.us = s.us) (h4 : s1.ns = s.ns) : s1.H hb = s.H hb := by unfold St.H; rw [h3, h4]

theorem wops_ok (hT : TOk P T F) {ops : Array Oper} {rnd : Option Nat} {nd : Bool} (hnd : nd = true → rnd = none) {hb : HV} {n : Nat} {d : Nat} {Q : Exit → Act → World → Prop} {Q0 : Option AV → St → Prop} {β0 : Bm} {h0 : Heap} {w0 : World} {H0 : HV} (n0 : Now T β0 h0 w0 H0)
    (post : ∀ p s' a' w' β' h', Q0 p s' → Here T hb n s' β' h' w' a'.tmps a'.defers → Tw T hb.nx β0 h0 w0 β' h' w' (s'.H hb) → match p with
        | none => Q .normal a' w'
        | some v => ∀ u, VR β' v u → Q (.panic [{ v := u, recovered := false }]) a' w') :
    ∀ (l : List Oper) (k : Nat) (l1 : List SOp), l = ops.toList.drop k → strip ops.toList l = some l1 → ∀ (s : St) (a : Act) (w : World) (β : Bm) (h : Heap), wops P T nd hb n l1 s Q0 → Here T hb n s β h w a.tmps a.defers → Tw T hb.nx β0 h0 w0 β h w (s.H hb) →
      wpOpsIn (Fw rnd) d P ops Q (List.range' k l.length) a w
  | [], k, l1, _, hs, s, a, w, β, h, hw, q, tw => by
    simp only [strip] at hs; injection hs with hs; subst hs
    simp only [wops] at hw
    exact post none s a w β h hw q tw
  | o :: l, k, l1, hl, hs, s, a, w, β, h, hw, q, tw => by
    have hk : ops[k]? = some o := by
      have : (ops.toList.drop k)[0]? = some o := by rw [← hl]; rfl
      rw [List.getElem?_drop] at this
      simpa using this
    have hl' : l = ops.toList.drop (k + 1) := by
      have : (o :: l).drop 1 = (ops.toList.drop k).drop 1 := by rw [hl]
      simpa [List.drop_drop] using this
    simp only [strip] at hs
    split at hs
    · rename_i x l2 hx hl2
      injection hs with hs; subst hs
      obtain ⟨g1, g2, g3⟩ := strip1_wanted hx n s
      simp only [List.length_cons, List.range'_succ, wpOpsIn, hk]
      simp only [wops, ← g1, g2, g3] at hw
      cases hb1 : wantedA ops.toList (E n s.l) o with
      | none => rw [hb1] at hw; exact hw.elim
      | some b =>
        rw [wanted_ok q.env hb1]
        rw [hb1] at hw
        cases b with
        | false =>
          simp only [Bool.false_eq_true, if_false]
          rw [wgd_false] at hw
          refine ⟨fun f _ => Fw_fn _ f, ?_⟩
          obtain ⟨s1, h1, h2, h3, h4, h5⟩ := wput_ok hw
          exact wops_ok hT hnd n0 post l (k + 1) l2 hl' hl2 s1 _ w β h h1 (q.put undef_ok h2 h3 h4 h5) (by rw [H_eq h4 h5]; exact tw)
        | true =>
          simp only [if_true]
          rw [wgd_true] at hw
          split at hw
          · rename_i c hc
            obtain ⟨hn1, hw⟩ := hw
            obtain ⟨dd, hda, hw⟩ := wopt_get hw
            obtain ⟨s1, h1, h2, h3, h4, h5⟩ := wput_ok hw
            obtain ⟨x, hx, hdx⟩ := adefer_ok hT q.now.rel q.env (isDefer_some hc) hda
            have hr0 : rnd = none := hnd hn1
            refine ⟨fun f _ => Fw_fn _ f, ?_⟩
            subst hr0
            rw [Fw_round, Oper.semAt_none, hx, Oper.uponIn_defer]
            have q' : Here T hb n { s with ds := dd :: s.ds } β h w { a with defers := x :: a.defers }.tmps { a with defers := x :: a.defers }.defers := ⟨q.now, q.env, ⟨x, _, rfl, hdx, q.dfs⟩, q.base⟩
            exact wops_ok hT hnd n0 post l (k + 1) l2 hl' hl2 s1 _ w β h h1 (q'.put undef_ok h2 h3 h4 h5) (by rw [H_eq h4 h5]; exact tw)
          · rename_i hnd1
            refine wop_ok hT hw hnd1 q ?_ ?_
            · intro v s1 hk1 u w' β' h' hvu q1 t1 hl1
              simp only at hk1
              obtain ⟨s2, h1, h2, h3, h4, h5⟩ := wput_ok hk1
              exact wops_ok hT hnd n0 post l (k + 1) l2 hl' hl2 s2 _ w' β' h' h1 (q1.put hvu h2 h3 h4 h5) (by rw [H_eq h4 h5]; exact tw.trans n0 t1 (Nat.le_refl _))
            · intro v s1 hk1 u w' β' h' hvu q1 t1 hl1
              exact post (some v) s1 a w' β' h' hk1 q1 (tw.trans n0 t1 (Nat.le_refl _)) u hvu
    · cases hs

end
end Go.Ai
