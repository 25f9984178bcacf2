/- AiWH -/
import Derived.Test.YthgkkbaaedefhaaAiWG
set_option linter.unusedVariables false
set_option linter.unusedSimpArgs false
namespace Go.Ai
open Go
noncomputable section
set_option linter.unusedVariables false

theorem nth_zero {α : Type} (x : α) (l : List α) : nth (x :: l) 0 = some x := rfl
theorem nth_succ {α : Type} (x : α) (l : List α) (n : Nat) : nth (x :: l) (n + 1) = nth l n := rfl

/-! ### stripping, step by step -/
theorem strip_nil (ops : List Oper) : strip ops [] = some [] := rfl
def scons (x : SOp) : Option (List SOp) → Option (List SOp)
  | some l => some (x :: l)
  | none => none
theorem scons_some (x : SOp) (l : List SOp) : scons x (some l) = some (x :: l) := rfl
theorem strip_none (ops : List Oper) (dst : Option Nat) (op : Op) (ty : Nat) (pos : String) (after : Array Edge) (r : List Oper) : strip ops (⟨dst, op, ty, pos, after, none⟩ :: r) = scons ⟨dst, op, none⟩ (strip ops r) := by
  simp only [strip, strip1]
  cases strip ops r <;> rfl
def sg (d : Option Oper) (k : Nat → Option (List SOp)) : Option (List SOp) :=
  match d with
  | some o => match o.dst with
    | some d => k d
    | none => none
  | none => none
theorem strip_some (ops : List Oper) (dst : Option Nat) (op : Op) (ty : Nat) (pos : String) (after : Array Edge) (j : Nat) (want : Bool) (r : List Oper) :
    strip ops (⟨dst, op, ty, pos, after, some (j, want)⟩ :: r) = sg (nth ops j) fun d => scons ⟨dst, op, some (d, want)⟩ (strip ops r) := by
  simp only [strip, strip1, sg]
  cases nth ops j with
  | none => rfl
  | some o =>
    dsimp only
    cases o.dst with
    | none => rfl
    | some d => dsimp only; cases strip ops r <;> rfl
theorem sg_some (d : Nat) (op : Op) (ty : Nat) (pos : String) (after : Array Edge) (g : Option (Nat × Bool)) (k : Nat → Option (List SOp)) : sg (some ⟨some d, op, ty, pos, after, g⟩) k = k d := rfl

/-! ### slots -/
theorem E_cons (n i : Nat) (v : AV) (l : List (Nat × AV)) (t : Nat) : (E n ((i, v) :: l)).get t = if t = i then v else (E n l).get t := by
  rw [E_get, E_get]
  simp only [lk]
  by_cases h : t = i
  · rw [beqT.2 h, if_pos h]; rfl
  · rw [beqF.2 h, if_neg h]; rfl
theorem ev_tmp (T : Types) (n : Nat) (l : List (Nat × AV)) (t : Nat) : ev T (E n l) (.tmp t) = some ((E n l).get t) := rfl
theorem ev_const (T : Types) (e : Env) (v : Value) : ev T e (.const v) = cv v := rfl
theorem ev_func (T : Types) (e : Env) (f : Nat) : ev T e (.func f) = some (.fn (.func f) [] []) := rfl
theorem cv_int (k : IntKind) (n : Int) : cv (.int k n) = some (.int k n) := rfl
theorem cv_bool (b : Bool) : cv (.bool b) = some (.bool b) := rfl
theorem cv_nils : cv (.slice none 0 0) = some .nils := rfl
theorem cv_nilp : cv (.pointer none) = some .nilp := rfl
theorem cv_nilf : cv .nilFunc = some .nilf := rfl
theorem cv_nili : cv .nilIface = some .nili := rfl

/-! ### operations -/
/-- What is known of a region that draws its order: what must come before, which may come later, how many ran, what they looked into. -/
structure Trk where
  ms : List Nat
  frs : List (List Nat)
  i : Nat
  fs : List FP
def chk (tr : Option Trk) (f : FP) : Prop := match tr with
  | none => True
  | some t => match t.frs with
    | fr :: _ => clashes2 t.fs t.i f fr = false
    | [] => False
def nxt (tr : Option Trk) (f : FP) : Option Trk := match tr with
  | none => none
  | some t => some ⟨t.ms, t.frs.tail, t.i + 1, f :: t.fs⟩
def pck (tr : Option Trk) : Prop := match tr with
  | none => True
  | some t => (t.ms.drop (t.i + 1)).all (fun m => Nat.testBit m t.i) = true
def pst (tr : Option Trk) (s : St) : St := match tr with
  | none => s
  | some _ => { s with l := [] }

def wog (P : Program) (T : Types) (tr : Option Trk) (nd : Bool) (hb : HV) (n : Nat) : List SOp → St → (Option AV → St → Prop) → Prop
  | [], s, Q => Q none s
  | o :: r, s, Q => wgd (wanted1 n s o.g)
      (match isDefer o.op with
      | some c => tr.isNone = true ∧ nd = true ∧ wopt (adefer T (E n s.l) c) fun d => wput n o.dst (.tup []) { s with ds := d :: s.ds } fun s1 => wog P T tr nd hb n r s1 Q
      | none => wopF P T hb n s o.op fun res s1 f => chk tr f ∧ match res with
        | .ret v => wput n o.dst v s1 fun s2 => wog P T (nxt tr f) nd hb n r s2 Q
        | .pan v => pck tr ∧ Q (some v) (pst tr s1))
      (chk tr FP.nil ∧ wput n o.dst (.tup []) s fun s1 => wog P T (nxt tr FP.nil) nd hb n r s1 Q)

/-- the check, and what comes behind it -/
def wck (tr : Option Trk) (f : FP) (k : Option Trk → Prop) : Prop := chk tr f ∧ k (nxt tr f)

variable {P : Program} {T : Types} {tr : Option Trk} {nd : Bool} {hb : HV} {n : Nat} {r : List SOp} {s : St} {Q : Option AV → St → Prop}

theorem wgd_mono {g : Option Bool} {A B A' B' : Prop} (h : wgd g A B) (h1 : A → A') (h2 : B → B') : wgd g A' B' := by
  cases g with
  | none => exact h
  | some b => exact ⟨fun e => h1 (h.1 e), fun e => h2 (h.2 e)⟩
theorem wput_mono {d : Option Nat} {v : AV} {k k' : St → Prop} (h : wput n d v s k) (hi : ∀ s', k s' → k' s') : wput n d v s k' := by
  cases d with
  | none => exact hi _ h
  | some d => exact ⟨h.1, hi _ h.2⟩
theorem wopt_mono {α : Type} {x : Option α} {k k' : α → Prop} (h : wopt x k) (hi : ∀ a, k a → k' a) : wopt x k' := by
  cases x with
  | none => exact h
  | some a => exact hi a h
theorem wopF_mono {op : Op} {k k' : Res → St → FP → Prop} (h : wopF P T hb n s op k) (hi : ∀ r s f, k r s f → k' r s f) : wopF P T hb n s op k' := by
  unfold wopF at h ⊢
  split at h
  · exact wopt_mono h fun q ⟨r, us, ns, h1, h2⟩ => ⟨r, us, ns, h1, hi _ _ _ h2⟩
  · split at h
    · obtain ⟨t, v, h1, h2⟩ := h; exact ⟨t, v, h1, hi _ _ _ h2⟩
    · exact wopt_mono h fun o ho => hi _ _ _ ho
theorem wop_of_wopF {op : Op} {k : Res → St → Prop} (h : wopF P T hb n s op fun r s _ => k r s) : wop P T hb n s op k := by
  unfold wopF at h
  unfold wop
  cases hc : isCall op with
  | some c => rw [hc] at h; exact h
  | none =>
    rw [hc] at h
    cases hp : isPanic op with
    | some x => rw [hp] at h; exact h
    | none => rw [hp] at h; exact h

theorem wog_wops : ∀ {l : List SOp} {s : St}, wog P T none nd hb n l s Q → wops P T nd hb n l s Q
  | [], _, h => h
  | o :: r, s, h => by
    simp only [wog] at h
    simp only [wops]
    refine wgd_mono h (fun h => ?_) (fun h => wput_mono h.2 fun s' => wog_wops)
    cases hd : isDefer o.op with
    | some c => rw [hd] at h; exact ⟨h.2.1, wopt_mono h.2.2 fun d hd => wput_mono hd fun s' => wog_wops⟩
    | none =>
      rw [hd] at h
      refine wop_of_wopF (wopF_mono h fun r s f hk => ?_)
      cases r with
      | ret v => exact wput_mono hk.2 fun s' => wog_wops
      | pan v => exact hk.2.2

theorem wog_wopsD {ms : List Nat} : ∀ {l : List SOp} {frs : List (List Nat)} {i : Nat} {fs : List FP} {s : St}, l.length ≤ frs.length → wog P T (some ⟨ms, frs, i, fs⟩) nd hb n l s Q → wopsD P T hb n ms l frs i fs s Q
  | [], _, _, _, _, _, h => h
  | o :: r, [], _, _, _, hl, _ => by simp at hl
  | o :: r, fr :: frs, i, fs, s, hl, h => by
    have hl' : r.length ≤ frs.length := by simpa using hl
    simp only [wog] at h
    simp only [wopsD]
    refine wgd_mono h (fun h => ?_) (fun h => wput_mono h.2 fun s' => wog_wopsD hl')
    split at h
    · cases h.1
    · refine wopF_mono h fun r s f hk => ?_
      refine ⟨hk.1, ?_⟩
      cases r with
      | ret v => exact wput_mono hk.2 fun s' => wog_wopsD hl'
      | pan v => exact ⟨hk.2.1, hk.2.2⟩

@[congr] theorem wog_congr {l : List SOp} {s' : St} (h : s = s') : wog P T tr nd hb n l s Q = wog P T tr nd hb n l s' Q := by rw [h]
@[congr] theorem W_congr {rA : Option Nat} {c : Code} {Q : AX → St → Prop} {s' : St} (h : s = s') : W P T rA hb n c s Q = W P T rA hb n c s' Q := by rw [h]
@[congr] theorem wput_congr {d : Option Nat} {v v' : AV} {k : St → Prop} (h : v = v') : wput n d v s k = wput n d v' s k := by rw [h]

theorem wput_some (d : Nat) (v : AV) (k : St → Prop) : wput n (some d) v s k = (d < n ∧ k { s with l := (d, v) :: s.l }) := rfl
theorem wput_none (v : AV) (k : St → Prop) : wput n none v s k = k s := rfl

def wdo (P : Program) (T : Types) (tr : Option Trk) (nd : Bool) (hb : HV) (n : Nat) (dst : Option Nat) (op : Op) (r : List SOp) (s : St) (Q : Option AV → St → Prop) : Prop :=
  match isDefer op with
  | some c => tr.isNone = true ∧ nd = true ∧ wopt (adefer T (E n s.l) c) fun d => wput n dst (.tup []) { s with ds := d :: s.ds } fun s1 => wog P T tr nd hb n r s1 Q
  | none => wopF P T hb n s op fun res s1 f => chk tr f ∧ match res with
    | .ret v => wput n dst v s1 fun s2 => wog P T (nxt tr f) nd hb n r s2 Q
    | .pan v => pck tr ∧ Q (some v) (pst tr s1)
@[congr] theorem wdo_congr {dst : Option Nat} {op : Op} {s' : St} (h : s = s') : wdo P T tr nd hb n dst op r s Q = wdo P T tr nd hb n dst op r s' Q := by rw [h]

theorem wog_nil : wog P T tr nd hb n [] s Q = Q none s := rfl
theorem wog_none (dst : Option Nat) (op : Op) : wog P T tr nd hb n (⟨dst, op, none⟩ :: r) s Q = wdo P T tr nd hb n dst op r s Q := by
  simp only [wog, wanted1, wgd_true]; rfl
/-- An operation with a guard: what is wanted, what the guard's slot holds. -/
def wgd1 (P : Program) (T : Types) (tr : Option Trk) (nd : Bool) (hb : HV) (n : Nat) (w : Bool) (v : AV) (dst : Option Nat) (op : Op) (r : List SOp) (s : St) (Q : Option AV → St → Prop) : Prop :=
  wgd (wantedV w v) (wdo P T tr nd hb n dst op r s Q) (wck tr FP.nil fun tr' => wput n dst (.tup []) s fun s1 => wog P T tr' nd hb n r s1 Q)
theorem wog_guard (dst : Option Nat) (op : Op) (d : Nat) (w : Bool) : wog P T tr nd hb n (⟨dst, op, some (d, w)⟩ :: r) s Q = wgd1 P T tr nd hb n w ((E n s.l).get d) dst op r s Q := rfl
theorem wgd1_tt (dst : Option Nat) (op : Op) : wgd1 P T tr nd hb n true (.bool true) dst op r s Q = wdo P T tr nd hb n dst op r s Q := wgd_true _ _
theorem wgd1_ff (dst : Option Nat) (op : Op) : wgd1 P T tr nd hb n false (.bool false) dst op r s Q = wdo P T tr nd hb n dst op r s Q := wgd_true _ _
theorem wgd1_tf (dst : Option Nat) (op : Op) : wgd1 P T tr nd hb n true (.bool false) dst op r s Q = wck tr FP.nil fun tr' => wput n dst (.tup []) s fun s1 => wog P T tr' nd hb n r s1 Q := wgd_false _ _
theorem wgd1_ft (dst : Option Nat) (op : Op) : wgd1 P T tr nd hb n false (.bool true) dst op r s Q = wck tr FP.nil fun tr' => wput n dst (.tup []) s fun s1 => wog P T tr' nd hb n r s1 Q := wgd_false _ _
theorem wgd1_tup (w : Bool) (l : List AV) (dst : Option Nat) (op : Op) : wgd1 P T tr nd hb n w (.tup l) dst op r s Q = wck tr FP.nil fun tr' => wput n dst (.tup []) s fun s1 => wog P T tr' nd hb n r s1 Q := wgd_false _ _
theorem wgd1_of {w b : Bool} {dst : Option Nat} {op : Op} (h1 : b = true → wgd1 P T tr nd hb n w (.bool true) dst op r s Q) (h2 : b = false → wgd1 P T tr nd hb n w (.bool false) dst op r s Q) : wgd1 P T tr nd hb n w (.bool b) dst op r s Q := by
  cases b with
  | true => exact h1 rfl
  | false => exact h2 rfl
theorem wanted_true (b : Bool) : wantedV true (.bool b) = some b := by cases b <;> rfl
theorem wanted_false (b : Bool) : wantedV false (.bool b) = some (!b) := by cases b <;> rfl
theorem wanted_tup (w : Bool) (l : List AV) : wantedV w (.tup l) = some false := rfl

@[congr] theorem wck_congr {f f' : FP} {k : Option Trk → Prop} (h : f = f') : wck tr f k = wck tr f' k := by rw [h]
theorem wck_none (f : FP) (k : Option Trk → Prop) : wck none f k = k none := by simp [wck, chk, nxt]
theorem wck_some (ms : List Nat) (fr : List Nat) (frs : List (List Nat)) (i : Nat) (fs : List FP) (f : FP) (k : Option Trk → Prop) : wck (some ⟨ms, fr :: frs, i, fs⟩) f k = (clashes2 fs i f fr = false ∧ k (some ⟨ms, frs, i + 1, f :: fs⟩)) := rfl

def wout (P : Program) (T : Types) (tr : Option Trk) (nd : Bool) (hb : HV) (n : Nat) (dst : Option Nat) (o : Option Out) (r : List SOp) (s : St) (Q : Option AV → St → Prop) : Prop :=
  wopt o fun out => wck tr ⟨false, out.rd, false, out.up.map (·.1), !out.nw.isEmpty⟩ fun tr' => wput n dst out.v (s.upd hb out.up out.nw) fun s2 => wog P T tr' nd hb n r s2 Q
@[congr] theorem wout_congr {dst : Option Nat} {o o' : Option Out} (h : o = o') : wout P T tr nd hb n dst o r s Q = wout P T tr nd hb n dst o' r s Q := by rw [h]

theorem upd_nil (hb : HV) (s : St) : s.upd hb [] [] = s := by simp [St.upd, ups]
theorem wout_pure (dst : Option Nat) (v : AV) : wout P T tr nd hb n dst (some (.pure v)) r s Q = wck tr FP.nil fun tr' => wput n dst v s fun s2 => wog P T tr' nd hb n r s2 Q := by
  simp only [wout, wopt_some, Out.pure, upd_nil]; rfl
theorem wout_rd (dst : Option Nat) (v : AV) (rd : List Nat) : wout P T tr nd hb n dst (some ⟨v, rd, [], []⟩) r s Q = wck tr ⟨false, rd, false, [], false⟩ fun tr' => wput n dst v s fun s2 => wog P T tr' nd hb n r s2 Q := by
  simp only [wout, wopt_some, upd_nil]; rfl
theorem wout_nw (dst : Option Nat) (v : AV) (rd : List Nat) (o : AO) (nw : List AO) : wout P T tr nd hb n dst (some ⟨v, rd, [], o :: nw⟩) r s Q = wck tr ⟨false, rd, false, [], true⟩ fun tr' => wput n dst v { s with ns := s.ns ++ (o :: nw) } fun s2 => wog P T tr' nd hb n r s2 Q := rfl
theorem wout_up (dst : Option Nat) (v : AV) (rd : List Nat) (i : Nat) (o : AO) : wout P T tr nd hb n dst (some ⟨v, rd, [(hb.at i, o)], []⟩) r s Q = wck tr ⟨false, rd, false, [hb.at i], false⟩ fun tr' => wput n dst v { s with ns := s.ns.set i o } fun s2 => wog P T tr' nd hb n r s2 Q := by
  simp only [wout, wopt_some, St.upd, ups, up1_at, List.append_nil]; rfl
theorem wout_upn (dst : Option Nat) (v : AV) (rd : List Nat) (i : Nat) (o o2 : AO) (nw : List AO) : wout P T tr nd hb n dst (some ⟨v, rd, [(hb.at i, o)], o2 :: nw⟩) r s Q = wck tr ⟨false, rd, false, [hb.at i], true⟩ fun tr' => wput n dst v { s with ns := s.ns.set i o ++ (o2 :: nw) } fun s2 => wog P T tr' nd hb n r s2 Q := by
  simp only [wout, wopt_some, St.upd, ups, up1_at]; rfl

theorem wdo_aop {dst : Option Nat} {op : Op} (h1 : isDefer op = none) (h2 : isCall op = none) (h3 : isPanic op = none) : wdo P T tr nd hb n dst op r s Q = wout P T tr nd hb n dst (aop T (s.H hb).get (hb.at s.ns.length) (E n s.l) op) r s Q := by
  unfold wdo wopF
  rw [h1, h2, h3]
  rfl

def omap (x : Option AV) (k : AV → Option Out) : Option Out := match x with | some v => k v | none => none
theorem omap_some (v : AV) (k : AV → Option Out) : omap (some v) k = k v := rfl
def omap2 (x y : Option AV) (k : AV → AV → Option Out) : Option Out := match x with | some v => (match y with | some u => k v u | none => none) | none => none
theorem omap2_some (v u : AV) (k : AV → AV → Option Out) : omap2 (some v) (some u) k = k v u := rfl
def omap3 (x y z : Option AV) (k : AV → AV → AV → Option Out) : Option Out := match x with | some v => omap2 y z (k v) | none => none
theorem omap3_some (v u w : AV) (k : AV → AV → AV → Option Out) : omap3 (some v) (some u) (some w) k = k v u w := rfl
def opure (v : AV) : Option Out := some (.pure v)
theorem opure_eq (v : AV) : opure v = some (.pure v) := rfl

theorem wdo_move (dst : Option Nat) (x : Operand) : wdo P T tr nd hb n dst (.move x) r s Q = wout P T tr nd hb n dst (omap (ev T (E n s.l) x) opure) r s Q := by
  rw [wdo_aop rfl rfl rfl]; congr 1; show (ev T (E n s.l) x).map _ = _; cases ev T (E n s.l) x <;> rfl
theorem wdo_assign (dst : Option Nat) (x : Operand) : wdo P T tr nd hb n dst (.assign x) r s Q = wout P T tr nd hb n dst (omap (ev T (E n s.l) x) opure) r s Q := by
  rw [wdo_aop rfl rfl rfl]; congr 1; show (ev T (E n s.l) x).map _ = _; cases ev T (E n s.l) x <;> rfl
def opick (c a b : AV) : Option Out := match c with | .bool t => some (.pure (bif t then a else b)) | _ => none
theorem opick_bool (t : Bool) (a b : AV) : opick (.bool t) a b = some (.pure (bif t then a else b)) := rfl
theorem wdo_pick (dst : Option Nat) (c a b : Operand) : wdo P T tr nd hb n dst (.pick c a b) r s Q = wout P T tr nd hb n dst (omap3 (ev T (E n s.l) c) (ev T (E n s.l) a) (ev T (E n s.l) b) opick) r s Q := by
  rw [wdo_aop rfl rfl rfl]; congr 1; show oPick c a b T (s.H hb).get (hb.at s.ns.length) (E n s.l) = _; unfold oPick
  cases ev T (E n s.l) c with
  | none => rfl
  | some c => cases ev T (E n s.l) a with
    | none => cases c <;> rfl
    | some a => cases ev T (E n s.l) b <;> cases c <;> rfl
/-- A new block. -/
def obx (nx : Nat) (ti : Option TI) (cs : Option (List AV)) : Option Out := match ti, cs with
  | some ti, some cs => if cs.length = ti.size ∧ cs.all AV.isCell = true then some ⟨.ptr nx 0, [], [], [.cells true ti.size cs]⟩ else none
  | _, _ => none
theorem obx_some (nx : Nat) (ti : TI) (cs : List AV) : obx nx (some ti) (some cs) = if cs.length = ti.size ∧ cs.all AV.isCell = true then some ⟨.ptr nx 0, [], [], [.cells true ti.size cs]⟩ else none := rfl
theorem abox_eq (nx t : Nat) (v : AV) : abox T nx t v = obx nx (T.get t) v.cells? := by
  unfold abox obx
  cases T.get t with
  | none => rfl
  | some ti =>
    cases v.cells? with
    | none => rfl
    | some cs =>
      dsimp only
      by_cases h : cs.length = ti.size
      · rw [beqT.2 h]
        cases cs.all AV.isCell <;> simp [h]
      · rw [beqF.2 h]; simp [h]
def oalc (nx t : Nat) (T : Types) (x : Option TI) : Option Out := match x with | some ti => abox T nx t ti.zero | none => none
theorem oalc_some (nx t : Nat) (ti : TI) : oalc nx t T (some ti) = abox T nx t ti.zero := rfl
theorem wdo_alloc (dst : Option Nat) (t : Nat) : wdo P T tr nd hb n dst (.alloc t) r s Q = wout P T tr nd hb n dst (oalc (hb.at s.ns.length) t T (T.get t)) r s Q := by
  rw [wdo_aop rfl rfl rfl]; congr 1
theorem wdo_box (dst : Option Nat) (t : Nat) (x : Operand) : wdo P T tr nd hb n dst (.box t x) r s Q = wout P T tr nd hb n dst (omap (ev T (E n s.l) x) (abox T (hb.at s.ns.length) t)) r s Q := by
  rw [wdo_aop rfl rfl rfl]; congr 1
def opmap {α : Type} (x : Option α) (k : α → Option Out) : Option Out := match x with | some v => k v | none => none
theorem opmap_some {α : Type} (v : α) (k : α → Option Out) : opmap (some v) k = k v := rfl
theorem wdo_build (dst : Option Nat) (t : Nat) (ps : Array (Nat × Operand)) : wdo P T tr nd hb n dst (.build t ps) r s Q = wout P T tr nd hb n dst (opmap (evp T (E n s.l) ps.toList) (abuild T t)) r s Q := by
  rw [wdo_aop rfl rfl rfl]; congr 1; show oBuild t ps T (s.H hb).get (hb.at s.ns.length) (E n s.l) = _; unfold oBuild opmap; cases evp T (E n s.l) ps.toList <;> rfl
theorem wdo_buildSlice (dst : Option Nat) (t k : Nat) (ps : Array (Nat × Operand)) : wdo P T tr nd hb n dst (.buildSlice t k ps) r s Q = wout P T tr nd hb n dst (opmap (evp T (E n s.l) ps.toList) (abuildSlice T (hb.at s.ns.length) t k)) r s Q := by
  rw [wdo_aop rfl rfl rfl]; congr 1; show oBuildSlice t k ps T (s.H hb).get (hb.at s.ns.length) (E n s.l) = _; unfold oBuildSlice opmap; cases evp T (E n s.l) ps.toList <;> rfl
theorem wdo_load (dst : Option Nat) (t : Nat) (x : Operand) : wdo P T tr nd hb n dst (.load t x) r s Q = wout P T tr nd hb n dst (omap (ev T (E n s.l) x) (aload T (s.H hb).get t)) r s Q := by
  rw [wdo_aop rfl rfl rfl]; congr 1
theorem wdo_store (dst : Option Nat) (t : Nat) (a x : Operand) : wdo P T tr nd hb n dst (.store t a x) r s Q = wout P T tr nd hb n dst (omap2 (ev T (E n s.l) a) (ev T (E n s.l) x) (astore T (s.H hb).get t)) r s Q := by
  rw [wdo_aop rfl rfl rfl]; congr 1; show oStore t a x T (s.H hb).get (hb.at s.ns.length) (E n s.l) = _; unfold oStore; cases ev T (E n s.l) a <;> cases ev T (E n s.l) x <;> rfl
def onil (v : AV) : Option Out := match v with | .ptr b o => some (.pure (.ptr b o)) | .fn (.func f) x y => some (.pure (.fn (.func f) x y)) | _ => none
theorem onil_ptr (b o : Nat) : onil (.ptr b o) = some (.pure (.ptr b o)) := rfl
theorem onil_fn (f : Nat) (x y : List AV) : onil (.fn (.func f) x y) = some (.pure (.fn (.func f) x y)) := rfl
theorem wdo_nilCheck (dst : Option Nat) (x : Operand) : wdo P T tr nd hb n dst (.nilCheck x) r s Q = wout P T tr nd hb n dst (omap (ev T (E n s.l) x) onil) r s Q := by
  rw [wdo_aop rfl rfl rfl]; congr 1; show oNilCheck x T (s.H hb).get (hb.at s.ns.length) (E n s.l) = _; unfold oNilCheck
  cases ev T (E n s.l) x with
  | none => rfl
  | some v => cases v with
    | fn f _ _ => cases f <;> rfl
    | _ => rfl
def obin (T : Types) (op : BinOp) (t : Nat) (cx cy : Bool) (a b : AV) : Option Out := omap (abin T op t a b cx cy) opure
theorem obin_eq (op : BinOp) (t : Nat) (cx cy : Bool) (a b : AV) : obin T op t cx cy a b = omap (abin T op t a b cx cy) opure := rfl
theorem wdo_binOp (dst : Option Nat) (op : BinOp) (t : Nat) (x y : Operand) (u : Nat) : wdo P T tr nd hb n dst (.binOp op t x y u) r s Q = wout P T tr nd hb n dst (omap2 (ev T (E n s.l) x) (ev T (E n s.l) y) (obin T op t (isConst x) (isConst y))) r s Q := by
  rw [wdo_aop rfl rfl rfl]; congr 1; show oBinOp op t x y u T (s.H hb).get (hb.at s.ns.length) (E n s.l) = _; unfold oBinOp
  cases ev T (E n s.l) x with
  | none => rfl
  | some a => cases ev T (E n s.l) y with
    | none => rfl
    | some b => simp only [omap2_some, obin]; cases abin T op t a b (isConst x) (isConst y) <;> rfl
def ouno (op : UnOp) (a : AV) : Option Out := omap (aun op a) opure
theorem ouno_eq (op : UnOp) (a : AV) : ouno op a = omap (aun op a) opure := rfl
theorem wdo_unOp (dst : Option Nat) (op : UnOp) (t : Nat) (x : Operand) : wdo P T tr nd hb n dst (.unOp op t x) r s Q = wout P T tr nd hb n dst (omap (ev T (E n s.l) x) (ouno op)) r s Q := by
  rw [wdo_aop rfl rfl rfl]; congr 1; show oUnOp op t x T (s.H hb).get (hb.at s.ns.length) (E n s.l) = _; unfold oUnOp
  cases ev T (E n s.l) x with
  | none => rfl
  | some a => simp only [omap_some, ouno]; cases aun op a <;> rfl
def oconv (src : Option TI) (d : Option TI) (v : AV) : Option Out := match v, src, d with
  | .int _ n, some _, some ti => match ti.k with
    | .int k => some (.pure (.int k (k.wrap n)))
    | _ => none
  | _, _, _ => none
theorem oconv_int (k : IntKind) (a : Int) (src : TI) (q : IntKind) (x y : Nat) (z : AV) (m : List (String × Nat × Option Nat)) (p : Option (List (Option IntKind))) : oconv (some src) (some ⟨.int q, x, y, z, m, p⟩) (.int k a) = some (.pure (.int q (q.wrap a))) := rfl
theorem wdo_convert (dst : Option Nat) (a b : Nat) (x : Operand) : wdo P T tr nd hb n dst (.convert a b x) r s Q = wout P T tr nd hb n dst (omap (ev T (E n s.l) x) (oconv (T.get a) (T.get b))) r s Q := by
  rw [wdo_aop rfl rfl rfl]; congr 1; show oConvert a b x T (s.H hb).get (hb.at s.ns.length) (E n s.l) = _; unfold oConvert oconv
  cases ev T (E n s.l) x with
  | none => rfl
  | some v => cases v <;> cases T.get a <;> cases T.get b <;> rfl
def omkif (ti : Option TI) (t : Nat) (v : AV) : Option Out := match ti with
  | some ti => match ti.k with
    | .iface _ => none
    | _ => match v with
      | .undef => none
      | v => some (.pure (.iface t v))
  | none => none
theorem wdo_makeInterface (dst : Option Nat) (t : Nat) (x : Operand) : wdo P T tr nd hb n dst (.makeInterface t x) r s Q = wout P T tr nd hb n dst (omap (ev T (E n s.l) x) (omkif (T.get t) t)) r s Q := by
  rw [wdo_aop rfl rfl rfl]; congr 1; show oMakeInterface t x T (s.H hb).get (hb.at s.ns.length) (E n s.l) = _; unfold oMakeInterface omkif
  cases ev T (E n s.l) x with
  | none => rfl
  | some v => cases T.get t <;> rfl
def omkf (f : AFn) (a b : Option (List AV)) : Option Out := match a, b with
  | some a, some b => some (.pure (.fn f a b))
  | _, _ => none
theorem omkf_some (f : AFn) (a b : List AV) : omkf f (some a) (some b) = some (.pure (.fn f a b)) := rfl
theorem wdo_makeFunc (dst : Option Nat) (f : Nat) (xs ys : Array Operand) : wdo P T tr nd hb n dst (.makeFunc (.func f) xs ys) r s Q = wout P T tr nd hb n dst (omkf (.func f) (evs T (E n s.l) xs.toList) (evs T (E n s.l) ys.toList)) r s Q := by
  rw [wdo_aop rfl rfl rfl]; congr 1; show oMakeFunc (.func f) xs ys T (s.H hb).get (hb.at s.ns.length) (E n s.l) = _; unfold oMakeFunc
  cases evs T (E n s.l) xs.toList <;> cases evs T (E n s.l) ys.toList <;> rfl
theorem wdo_makeMethod (dst : Option Nat) (f : String) (xs ys : Array Operand) : wdo P T tr nd hb n dst (.makeFunc (.method f) xs ys) r s Q = wout P T tr nd hb n dst (omkf (.method f) (evs T (E n s.l) xs.toList) (evs T (E n s.l) ys.toList)) r s Q := by
  rw [wdo_aop rfl rfl rfl]; congr 1; show oMakeFunc (.method f) xs ys T (s.H hb).get (hb.at s.ns.length) (E n s.l) = _; unfold oMakeFunc
  cases evs T (E n s.l) xs.toList <;> cases evs T (E n s.l) ys.toList <;> rfl
theorem wdo_makeMap (dst : Option Nat) (t : Nat) : wdo P T tr nd hb n dst (.makeMap t none) r s Q = wout P T tr nd hb n dst (some ⟨.map (hb.at s.ns.length), [], [], [.map []]⟩) r s Q := by
  rw [wdo_aop rfl rfl rfl]; congr 1
theorem wdo_makeSlice (dst : Option Nat) (t : Nat) (l c : Operand) : wdo P T tr nd hb n dst (.makeSlice t l c) r s Q = wout P T tr nd hb n dst (omap2 (ev T (E n s.l) l) (ev T (E n s.l) c) (amakeSlice T (hb.at s.ns.length) t)) r s Q := by
  rw [wdo_aop rfl rfl rfl]; congr 1; show oMakeSlice t l c T (s.H hb).get (hb.at s.ns.length) (E n s.l) = _; unfold oMakeSlice; cases ev T (E n s.l) l <;> cases ev T (E n s.l) c <;> rfl
def oslc (T : Types) (g : Getter) (t : Nat) (x : Option AV) (lo hi mx : Option (Option AV)) : Option Out := match x, lo, hi, mx with
  | some v, some lo, some hi, some mx => aslice T g t v lo hi mx
  | _, _, _, _ => none
theorem oslc_some (g : Getter) (t : Nat) (v : AV) (lo hi mx : Option AV) : oslc T g t (some v) (some lo) (some hi) (some mx) = aslice T g t v lo hi mx := rfl
theorem wdo_slice (dst : Option Nat) (t : Nat) (x : Operand) (lo hi mx : Option Operand) : wdo P T tr nd hb n dst (.slice t x lo hi mx) r s Q = wout P T tr nd hb n dst (oslc T (s.H hb).get t (ev T (E n s.l) x) (evo T (E n s.l) lo) (evo T (E n s.l) hi) (evo T (E n s.l) mx)) r s Q := by
  rw [wdo_aop rfl rfl rfl]; congr 1
theorem wdo_fieldAddr (dst : Option Nat) (t : Nat) (x : Operand) (f : Nat) : wdo P T tr nd hb n dst (.fieldAddr t x f) r s Q = wout P T tr nd hb n dst (omap (ev T (E n s.l) x) (fun v => afieldAddr T t v f)) r s Q := by
  rw [wdo_aop rfl rfl rfl]; congr 1
theorem wdo_field (dst : Option Nat) (t : Nat) (x : Operand) (f : Nat) : wdo P T tr nd hb n dst (.field t x f) r s Q = wout P T tr nd hb n dst (omap (ev T (E n s.l) x) (fun v => afield T t v f)) r s Q := by
  rw [wdo_aop rfl rfl rfl]; congr 1
theorem wdo_indexAddr (dst : Option Nat) (t : Nat) (x i : Operand) : wdo P T tr nd hb n dst (.indexAddr t x i) r s Q = wout P T tr nd hb n dst (omap2 (ev T (E n s.l) x) (ev T (E n s.l) i) (aindexAddr T t)) r s Q := by
  rw [wdo_aop rfl rfl rfl]; congr 1; show oIndexAddr t x i T (s.H hb).get (hb.at s.ns.length) (E n s.l) = _; unfold oIndexAddr; cases ev T (E n s.l) x <;> cases ev T (E n s.l) i <;> rfl
theorem wdo_index (dst : Option Nat) (t : Nat) (x i : Operand) : wdo P T tr nd hb n dst (.index t x i) r s Q = wout P T tr nd hb n dst (omap2 (ev T (E n s.l) x) (ev T (E n s.l) i) (aindex T t)) r s Q := by
  rw [wdo_aop rfl rfl rfl]; congr 1; show oIndex t x i T (s.H hb).get (hb.at s.ns.length) (E n s.l) = _; unfold oIndex; cases ev T (E n s.l) x <;> cases ev T (E n s.l) i <;> rfl
def olkp (T : Types) (g : Getter) (t : Nat) (ok : Bool) (m k : AV) : Option Out := alookup T g t m k ok
theorem olkp_eq (g : Getter) (t : Nat) (ok : Bool) (m k : AV) : olkp T g t ok m k = alookup T g t m k ok := rfl
theorem wdo_lookup (dst : Option Nat) (t : Nat) (m k : Operand) (ok : Bool) : wdo P T tr nd hb n dst (.lookup t m k ok) r s Q = wout P T tr nd hb n dst (omap2 (ev T (E n s.l) m) (ev T (E n s.l) k) (olkp T (s.H hb).get t ok)) r s Q := by
  rw [wdo_aop rfl rfl rfl]; congr 1; show oLookup t m k ok T (s.H hb).get (hb.at s.ns.length) (E n s.l) = _; unfold oLookup; cases ev T (E n s.l) m <;> cases ev T (E n s.l) k <;> rfl
theorem wdo_mapUpdate (dst : Option Nat) (t : Nat) (m k v : Operand) : wdo P T tr nd hb n dst (.mapUpdate t m k v) r s Q = wout P T tr nd hb n dst (omap3 (ev T (E n s.l) m) (ev T (E n s.l) k) (ev T (E n s.l) v) (amapUpdate T (s.H hb).get t)) r s Q := by
  rw [wdo_aop rfl rfl rfl]; congr 1; show oMapUpdate t m k v T (s.H hb).get (hb.at s.ns.length) (E n s.l) = _; unfold oMapUpdate; cases ev T (E n s.l) m <;> cases ev T (E n s.l) k <;> cases ev T (E n s.l) v <;> rfl
theorem wdo_insert (dst : Option Nat) (t : Nat) (m k v : Operand) : wdo P T tr nd hb n dst (.insert t m k v) r s Q = wout P T tr nd hb n dst (omap3 (ev T (E n s.l) m) (ev T (E n s.l) k) (ev T (E n s.l) v) (amapUpdate T (s.H hb).get t)) r s Q := by
  rw [wdo_aop rfl rfl rfl]; congr 1; show oInsert t m k v T (s.H hb).get (hb.at s.ns.length) (E n s.l) = _; unfold oInsert; cases ev T (E n s.l) m <;> cases ev T (E n s.l) k <;> cases ev T (E n s.l) v <;> rfl
def oassert (ti : Option TI) (t : Nat) (ok : Bool) (v : AV) : Option Out := match v, ti with
    | .iface u v, some ti => match ti.k with
      | .iface _ => none
      | _ => bif Nat.beq u t then some (.pure (bif ok then .tup [v, .bool true] else v)) else bif ok then some (.pure (.tup [ti.zero, .bool false])) else none
    | .nili, some ti => match ti.k with
      | .iface _ => none
      | _ => bif ok then some (.pure (.tup [ti.zero, .bool false])) else none
    | _, _ => none
theorem wdo_typeAssert (dst : Option Nat) (x : Operand) (u t : Nat) (ok : Bool) : wdo P T tr nd hb n dst (.typeAssert x u t ok) r s Q = wout P T tr nd hb n dst (omap (ev T (E n s.l) x) (oassert (T.get t) t ok)) r s Q := by
  rw [wdo_aop rfl rfl rfl]; congr 1; show oTypeAssert x u t ok T (s.H hb).get (hb.at s.ns.length) (E n s.l) = _; unfold oTypeAssert oassert
  cases ev T (E n s.l) x with
  | none => rfl
  | some v => cases v <;> cases T.get t <;> rfl
def oext (i : Nat) (v : AV) : Option Out := match v with | .tup l => omap l[i]? opure | _ => none
theorem oext_tup (i : Nat) (l : List AV) : oext i (.tup l) = omap l[i]? opure := rfl
theorem wdo_extract (dst : Option Nat) (x : Operand) (i : Nat) : wdo P T tr nd hb n dst (.extract x i) r s Q = wout P T tr nd hb n dst (omap (ev T (E n s.l) x) (oext i)) r s Q := by
  rw [wdo_aop rfl rfl rfl]; congr 1; show oExtract x i T (s.H hb).get (hb.at s.ns.length) (E n s.l) = _; unfold oExtract
  cases ev T (E n s.l) x with
  | none => rfl
  | some v => cases v with
    | tup l => simp only [omap_some, oext]; cases l[i]? <;> rfl
    | _ => rfl
theorem wdo_builtin (dst : Option Nat) (b : Builtin) (args : Array Operand) (ts : Array Nat) : wdo P T tr nd hb n dst (.call ⟨.builtin b, args, ts⟩) r s Q = wout P T tr nd hb n dst (opmap (evs T (E n s.l) args.toList) (abuiltin T (s.H hb).get (hb.at s.ns.length) b ts.toList)) r s Q := by
  rw [wdo_aop rfl rfl rfl]; congr 1; show oCall ⟨.builtin b, args, ts⟩ T (s.H hb).get (hb.at s.ns.length) (E n s.l) = _; unfold oCall opmap; dsimp only; cases evs T (E n s.l) args.toList <;> rfl

/-- A call. -/
def wres (P : Program) (T : Types) (tr : Option Trk) (nd : Bool) (hb : HV) (n : Nat) (dst : Option Nat) (r : List SOp) (s : St) (Q : Option AV → St → Prop) (res : Res) (us : List (Nat × AO)) (ns : List AO) : Prop :=
  wck tr (FP.call us) fun tr' => match res with
  | .ret v => wput n dst v (s.upd hb us ns) fun s2 => wog P T tr' nd hb n r s2 Q
  | .pan v => pck tr ∧ Q (some v) (pst tr (s.upd hb us ns))
@[congr] theorem wres_congr {dst : Option Nat} {res : Res} {us : List (Nat × AO)} {ns : List AO} : wres P T tr nd hb n dst r s Q res us ns = wres P T tr nd hb n dst r s Q res us ns := rfl
theorem wres_ret (dst : Option Nat) (v : AV) : wres P T tr nd hb n dst r s Q (.ret v) [] [] = wck tr ⟨true, [], false, [], true⟩ fun tr' => wput n dst v s fun s2 => wog P T tr' nd hb n r s2 Q := by
  simp only [wres, upd_nil]; rfl
theorem wres_nw (dst : Option Nat) (v : AV) (o : AO) (ns : List AO) : wres P T tr nd hb n dst r s Q (.ret v) [] (o :: ns) = wck tr ⟨true, [], false, [], true⟩ fun tr' => wput n dst v { s with ns := s.ns ++ (o :: ns) } fun s2 => wog P T tr' nd hb n r s2 Q := rfl
theorem wres_up (dst : Option Nat) (v : AV) (p : Nat × AO) (us : List (Nat × AO)) (ns : List AO) : wres P T tr nd hb n dst r s Q (.ret v) (p :: us) ns = wck tr ⟨true, [], true, [], true⟩ fun tr' => wput n dst v (s.upd hb (p :: us) ns) fun s2 => wog P T tr' nd hb n r s2 Q := rfl
theorem wres_pan (dst : Option Nat) (v : AV) : wres P T none nd hb n dst r s Q (.pan v) [] [] = Q (some v) s := by
  simp [wres, wck_none, pck, pst, upd_nil]
def wcl (P : Program) (T : Types) (tr : Option Trk) (nd : Bool) (hb : HV) (n : Nat) (dst : Option Nat) (r : List SOp) (s : St) (Q : Option AV → St → Prop) (req : Req) : Prop :=
  wcall P T req (s.H hb) fun res us ns => wres P T tr nd hb n dst r s Q res us ns
theorem wcl_of {dst : Option Nat} {req : Req} {l : List (Nat × AV)} {ds : List ADef} {us0 : List (Nat × AO)} {ns0 : List AO} {res : Res} {us : List (Nat × AO)} {ns : List AO} (h : Ev P T req (mkh hb us0 ns0) res us ns) (hk : wres P T tr nd hb n dst r ⟨l, ds, us0, ns0⟩ Q res us ns) : wcl P T tr nd hb n dst r ⟨l, ds, us0, ns0⟩ Q req := ⟨res, us, ns, h, hk⟩
def wreq (P : Program) (T : Types) (tr : Option Trk) (nd : Bool) (hb : HV) (n : Nat) (dst : Option Nat) (r : List SOp) (s : St) (Q : Option AV → St → Prop) (req : Option Req) : Prop :=
  wopt req fun req => wcall P T req (s.H hb) fun res us ns => wres P T tr nd hb n dst r s Q res us ns
theorem wreq_some (dst : Option Nat) (q : Req) : wreq P T tr nd hb n dst r s Q (some q) = wcl P T tr nd hb n dst r s Q q := rfl
def oinv (T : Types) (g : Getter) (xs : Option (List AV)) (v : Option AV) : Option Req := match xs, v with
  | some xs, some v => ainvoke T g v xs
  | _, _ => none
theorem oinv_some (g : Getter) (xs : List AV) (v : AV) : oinv T g (some xs) (some v) = ainvoke T g v xs := rfl
def oivk (T : Types) (g : Getter) (m : String) (xs : Option (List AV)) (v : Option AV) : Option Req := match xs, v with
  | some xs, some v => acallMethod T g v m xs
  | _, _ => none
theorem oivk_some (g : Getter) (m : String) (xs : List AV) (v : AV) : oivk T g m (some xs) (some v) = acallMethod T g v m xs := rfl

theorem wdo_callee {dst : Option Nat} {c : Call} (h0 : isCall (Op.call c) = some c) : wdo P T tr nd hb n dst (.call c) r s Q = wreq P T tr nd hb n dst r s Q (acallee T (s.H hb).get (E n s.l) c) := by
  unfold wdo wopF wreq
  have hd : isDefer (Op.call c) = none := rfl
  rw [h0, hd]
  apply propext
  dsimp only
  constructor
  · intro h
    refine wopt_mono h fun q ⟨res, us, ns, h1, h2, h3⟩ => ⟨res, us, ns, h1, h2, ?_⟩
    cases res <;> exact h3
  · intro h
    refine wopt_mono h fun q ⟨res, us, ns, h1, h2, h3⟩ => ⟨res, us, ns, h1, h2, ?_⟩
    cases res <;> exact h3
theorem wdo_call (dst : Option Nat) (f : Operand) (args : Array Operand) (ts : Array Nat) : wdo P T tr nd hb n dst (.call ⟨.value f, args, ts⟩) r s Q = wreq P T tr nd hb n dst r s Q (oinv T (s.H hb).get (evs T (E n s.l) args.toList) (ev T (E n s.l) f)) := by
  rw [wdo_callee rfl]
  congr 1
  unfold acallee; dsimp only
  cases evs T (E n s.l) args.toList with
  | none => rfl
  | some xs => cases ev T (E n s.l) f <;> rfl
theorem wdo_invoke (dst : Option Nat) (f : Operand) (m : String) (args : Array Operand) (ts : Array Nat) : wdo P T tr nd hb n dst (.call ⟨.invoke f m, args, ts⟩) r s Q = wreq P T tr nd hb n dst r s Q (oivk T (s.H hb).get m (evs T (E n s.l) args.toList) (ev T (E n s.l) f)) := by
  rw [wdo_callee rfl]
  congr 1
  unfold acallee; dsimp only
  cases evs T (E n s.l) args.toList with
  | none => rfl
  | some xs => cases ev T (E n s.l) f <;> rfl
theorem wdo_panic (x : Operand) (dst : Option Nat) : wdo P T none nd hb n dst (.panic x) r s Q = ∃ t v, ev T (E n s.l) x = some (.iface t v) ∧ Q (some (.iface t v)) s := by
  unfold wdo wopF
  have hd : isDefer (Op.panic x) = none := rfl
  have h0 : isCall (Op.panic x) = none := rfl
  have h1 : isPanic (Op.panic x) = some x := rfl
  rw [h0, h1, hd]
  simp [chk, pck, pst]
theorem ainvoke_func (g : Getter) (f : Nat) (p q xs : List AV) : ainvoke T g (.fn (.func f) p q) xs = some (.func f (p ++ xs ++ q)) := rfl
theorem ainvoke_yield (g : Getter) (l : Nat) (p q xs : List AV) : ainvoke T g (.fn (.yield l) p q) xs = some (.round l (p ++ xs)) := rfl
theorem evs_nil (e : Env) : evs T e [] = some [] := rfl
def ocons (x : Option AV) (l : Option (List AV)) : Option (List AV) := match x, l with | some v, some l => some (v :: l) | _, _ => none
theorem ocons_some (v : AV) (l : List AV) : ocons (some v) (some l) = some (v :: l) := rfl
theorem evs_cons (e : Env) (o : Operand) (l : List Operand) : evs T e (o :: l) = ocons (ev T e o) (evs T e l) := by
  simp only [evs, ocons]; cases ev T e o <;> cases evs T e l <;> rfl
def oconp (i : Nat) (x : Option AV) (l : Option (List (Nat × AV))) : Option (List (Nat × AV)) := match x, l with | some v, some l => some ((i, v) :: l) | _, _ => none
theorem oconp_some (i : Nat) (v : AV) (l : List (Nat × AV)) : oconp i (some v) (some l) = some ((i, v) :: l) := rfl
theorem evp_nil (e : Env) : evp T e [] = some [] := rfl
theorem evp_cons (e : Env) (i : Nat) (o : Operand) (l : List (Nat × Operand)) : evp T e ((i, o) :: l) = oconp i (ev T e o) (evp T e l) := by
  simp only [evp, oconp]; cases ev T e o <;> cases evp T e l <;> rfl
theorem evo_none (e : Env) : evo T e none = some none := rfl
def osm (x : Option AV) : Option (Option AV) := match x with | some v => some (some v) | none => none
theorem osm_some (v : AV) : osm (some v) = some (some v) := rfl
theorem evo_some (e : Env) (o : Operand) : evo T e (some o) = osm (ev T e o) := by
  simp only [evo, osm]; cases ev T e o <;> rfl

/-! ### memory -/
def gcells : Option AO → Option (List AV)
  | some (.cells _ _ vs) => some vs
  | _ => none
theorem gcells_some (o : Bool) (e : Nat) (vs : List AV) : gcells (some (.cells o e vs)) = some vs := rfl
def oval (b : Nat) (x : Option AV) : Option Out := match x with | some v => some ⟨v, [b], [], []⟩ | none => none
theorem oval_some (b : Nat) (v : AV) : oval b (some v) = some ⟨v, [b], [], []⟩ := rfl
def oald (b o : Nat) (ti : Option TI) (vs : Option (List AV)) : Option Out := match ti, vs with | some ti, some vs => oval b (part ti vs o) | _, _ => none
theorem oald_some (b o : Nat) (ti : TI) (vs : List AV) : oald b o (some ti) (some vs) = oval b (part ti vs o) := rfl
theorem aload_ptr (g : Getter) (t b o : Nat) : aload T g t (.ptr b o) = oald b o (T.get t) (gcells (g b)) := by
  unfold aload oald oval
  cases T.get t with
  | none => rfl
  | some ti =>
    dsimp only
    generalize g b = y
    cases y with
    | none => rfl
    | some x => cases x with
      | cells own es vs => simp only [gcells]; cases part ti vs o <;> rfl
      | _ => rfl
def gown : Option AO → Option (Nat × List AV)
  | some (.cells true es vs) => some (es, vs)
  | _ => none
theorem gown_some (e : Nat) (vs : List AV) : gown (some (.cells true e vs)) = some (e, vs) := rfl
def ost2 (b : Nat) (ti : TI) (xs : List AV) (es : Nat) (r : Option (List AV)) : Option Out := match r with
  | some vs' => if xs.length = ti.size ∧ xs.all AV.isCell = true then some ⟨.tup [], [], [(b, .cells true es vs')], []⟩ else none
  | none => none
theorem ost2_some (b : Nat) (ti : TI) (xs : List AV) (es : Nat) (vs' : List AV) : ost2 b ti xs es (some vs') = if xs.length = ti.size ∧ xs.all AV.isCell = true then some ⟨.tup [], [], [(b, .cells true es vs')], []⟩ else none := rfl
def ost (b o : Nat) (ti : Option TI) (xs : Option (List AV)) (p : Option (Nat × List AV)) : Option Out := match ti, xs, p with
  | some ti, some xs, some p => ost2 b ti xs p.1 (over p.2 o xs)
  | _, _, _ => none
theorem ost_some (b o : Nat) (ti : TI) (xs : List AV) (p : Nat × List AV) : ost b o (some ti) (some xs) (some p) = ost2 b ti xs p.1 (over p.2 o xs) := rfl
theorem astore_ptr (g : Getter) (t b o : Nat) (x : AV) : astore T g t (.ptr b o) x = ost b o (T.get t) x.cells? (gown (g b)) := by
  unfold astore ost ost2
  cases T.get t with
  | none => rfl
  | some ti =>
    cases x.cells? with
    | none => rfl
    | some xs =>
      dsimp only
      generalize g b = y
      cases y with
      | none => rfl
      | some y => cases y with
        | cells own es vs =>
          cases own with
          | false => rfl
          | true =>
            simp only [gown]
            by_cases h : xs.length = ti.size
            · rw [beqT.2 h]
              cases xs.all AV.isCell
              · cases over vs o xs <;> simp
              · cases over vs o xs <;> simp [h]
            · rw [beqF.2 h]
              cases over vs o xs <;> simp [h]
        | _ => rfl
def ofa (b o : Nat) (p : Option (TI × Nat)) : Option Out := match p with
  | some p => if p.1.size = 0 then none else some (.pure (.ptr b (o + p.2)))
  | none => none
theorem ofa_some (b o : Nat) (p : TI × Nat) : ofa b o (some p) = if p.1.size = 0 then none else some (.pure (.ptr b (o + p.2))) := rfl
theorem afieldAddr_ptr (t b o f : Nat) : afieldAddr T t (.ptr b o) f = ofa b o (T.field t f) := by
  unfold afieldAddr ofa
  cases T.field t f with
  | none => rfl
  | some p =>
    dsimp only
    by_cases h : p.1.size = 0
    · rw [beqT.2 h, if_pos h]; rfl
    · rw [beqF.2 h, if_neg h]; rfl
def ofl (l : List AV) (p : Option (TI × Nat)) : Option Out := match p with | some p => omap (part p.1 l p.2) opure | none => none
theorem ofl_some (l : List AV) (p : TI × Nat) : ofl l (some p) = omap (part p.1 l p.2) opure := rfl
theorem afield_agg (t : Nat) (l : List AV) (f : Nat) : afield T t (.agg l) f = ofl l (T.field t f) := by
  unfold afield ofl
  cases T.field t f with
  | none => rfl
  | some p => dsimp only; cases part p.1 l p.2 <;> rfl
def oco (x : AV) (r : Option (List AV)) : Option (List AV) := match r with | some r => some (x :: r) | none => none
theorem oco_some (x : AV) (r : List AV) : oco x (some r) = some (x :: r) := rfl

theorem cut_succ (x : AV) (l : List AV) (o n : Nat) : cut (x :: l) (o + 1) n = cut l o n := by
  unfold cut
  rw [show o + 1 + n = (o + n) + 1 by omega]
  simp only [List.length_cons, List.drop_succ_cons]
  have : Nat.ble (o + n + 1) (l.length + 1) = Nat.ble (o + n) l.length := by
    cases h : Nat.ble (o + n) l.length
    · rw [bleF] at h ⊢; omega
    · rw [bleT] at h ⊢; omega
  rw [this]
theorem cut_zero_zero (l : List AV) : cut l 0 0 = some [] := by
  unfold cut; rw [bleT.2 (by omega)]; rfl
theorem cut_zero_succ (x : AV) (l : List AV) (n : Nat) : cut (x :: l) 0 (n + 1) = oco x (cut l 0 n) := by
  unfold cut
  simp only [Nat.zero_add, List.length_cons, List.drop_zero, List.take_succ_cons]
  have : Nat.ble (n + 1) (l.length + 1) = Nat.ble n l.length := by
    cases h : Nat.ble n l.length
    · rw [bleF] at h ⊢; omega
    · rw [bleT] at h ⊢; omega
  rw [this]
  cases Nat.ble n l.length <;> rfl
theorem over_nil (l : List AV) : over l 0 [] = some l := by cases l <;> rfl
theorem over_zero (y x : AV) (l xs : List AV) : over (y :: l) 0 (x :: xs) = oco x (over l 0 xs) := by
  simp only [over]; cases over l 0 xs <;> rfl
theorem over_succ (y : AV) (l : List AV) (o : Nat) (xs : List AV) : over (y :: l) (o + 1) xs = oco y (over l o xs) := by
  simp only [over]; cases over l o xs <;> rfl
theorem H_mk (l : List (Nat × AV)) (ds : List ADef) (us : List (Nat × AO)) (ns : List AO) : St.H hb ⟨l, ds, us, ns⟩ = mkh hb us ns := rfl

/-- What an older block holds. -/
def Has (hb : HV) (b : Nat) (o : AO) : Prop := b < hb.nx ∧ hb.get b = some o
theorem Has.get {hb : HV} {b : Nat} {o : AO} (h : Has hb b o) (ns : List AO) : (mkh hb [] ns).get b = some o := by
  rw [mk_old h.1]; simp only [lk, Option.none_or]; exact h.2
theorem Has.mk {hb : HV} {b : Nat} {o : AO} (h : Has hb b o) (ns : List AO) : Has (mkh hb [] ns) b o := ⟨by rw [mk_nx]; have := h.1; omega, h.get ns⟩
theorem Has.at {hb : HV} {ns : List AO} {i : Nat} {o : AO} (h : ns[i]? = some o) : Has (mkh hb [] ns) (hb.at i) o :=
  ⟨by rw [mk_nx]; have := (List.getElem?_eq_some_iff.1 h).1; unfold HV.at; omega, by rw [mk_at]; exact h⟩

/-! ### code -/
def thn (P : Program) (T : Types) (rA : Option Nat) (hb : HV) (n : Nat) (b : Code) (Q : AX → St → Prop) (x : AX) (s : St) : Prop :=
  match x with
  | .normal => W P T rA hb n b s Q
  | x => Q x s
theorem thn_normal {rA : Option Nat} {b : Code} {Q : AX → St → Prop} : thn P T rA hb n b Q .normal s = W P T rA hb n b s Q := rfl
theorem W_seq' {rA : Option Nat} {a b : Code} {Q : AX → St → Prop} (h : W P T rA hb n a s (thn P T rA hb n b Q)) : W P T rA hb n (.seq a b) s Q := by
  refine W_seq (h.mono fun x s' hx => ?_)
  cases x <;> exact hx
def blk (id : Nat) (Q : AX → St → Prop) (x : AX) (s : St) : Prop :=
  match x with
  | .exit i => bif Nat.beq i id then Q .normal s else Q (.exit i) s
  | x => Q x s
theorem blk_normal {id : Nat} {Q : AX → St → Prop} : blk id Q .normal s = Q .normal s := rfl
theorem blk_ret {id : Nat} {Q : AX → St → Prop} : blk id Q .ret s = Q .ret s := rfl
theorem blk_exit {id i : Nat} {Q : AX → St → Prop} : blk id Q (.exit i) s = if i = id then Q .normal s else Q (.exit i) s := by
  simp only [blk]
  by_cases h : i = id
  · rw [beqT.2 h, if_pos h]; rfl
  · rw [beqF.2 h, if_neg h]; rfl
theorem W_block' {rA : Option Nat} {id : Nat} {c : Code} {Q : AX → St → Prop} (h : W P T rA hb n c s (blk id Q)) : W P T rA hb n (.block id c) s Q := by
  refine W_block (h.mono fun x s' hx => ?_)
  cases x <;> exact hx

end
end Go.Ai
