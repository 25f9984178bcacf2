/- AiTok -/
import Derived.Test.YthgkkbaaedefhaaAiPlain
set_option linter.unusedVariables false
set_option linter.unusedSimpArgs false
namespace Go.Ai
open Go

theorem cv_ok {β : Bm} {c : Value} {v : AV} (h1 : cv c = some v) : VR β v c := by
  have hl : ∀ (vs : List Value) (l : List AV), cv.cvs vs = some l → VRs β l vs := by
    intro vs
    induction vs with
    | nil => intro l hl; simp only [cv.cvs] at hl; injection hl with hl; subst hl; exact VRs.nil
    | cons x vs ih =>
      intro l hl
      unfold cv.cvs at hl
      split at hl <;> first
        | (cases hl; done)
        | (rename_i hx; cases hx; done)
        | (rename_i heq; injection heq with e1 e2; subst e1; subst e2; obtain ⟨r, hr, rfl⟩ := Option.map_eq_some_iff.1 hl; exact VRs.cons rfl (ih r hr))
  unfold cv at h1
  split at h1 <;> first
    | (injection h1 with h1; subst h1; rfl)
    | (cases h1; done)
    | (obtain ⟨l, hl', rfl⟩ := Option.map_eq_some_iff.1 h1; exact ⟨_, rfl, hl _ l hl'⟩)

def kindOf (P : Program) : TypeDesc → Option TK
  | .int k => some (.int k)
  | .bool => some .bool
  | .pointer e => some (.ptr e)
  | .slice e => some (.slice e)
  | .array n e => some (.array n e)
  | .map k e => some (.map k e)
  | .struct fs => bif fs.toList.all (fun f => (P.info? f.type).isSome) then some (.struct (fs.toList.map fun f => (f.type, f.offset))) else none
  | .interface ms => some (.iface (!ms.isEmpty))
  | .func .. => some .func
  | _ => none

/-- A method that is called by its name. -/
def methOf (i : TypeInfo) (d : TypeDesc) (name : String) : Option (String × Nat × Option Nat) :=
  match i.methods.find? (·.name == name) with
  | some m => bif m.path.isEmpty then
      match m.func, d with
      | some (f, true), .pointer _ => some (name, f, none)
      | some (f, false), .pointer e => some (name, f, some e)
      | some (f, false), _ => some (name, f, none)
      | _, _ => none
    else none
  | none => none

def isAggD : TypeDesc → Bool
  | .struct _ => true
  | .array _ _ => true
  | _ => false

def rowOf (P : Program) (names : List String) (t : Nat) : Option TI :=
  match P.info? t, P.underlying t with
  | some i, some d => match kindOf P d, i.zero with
    | some k, some z => match cv z with
      | some zv => some { k := k, size := i.size, bytes := i.bytes, zero := zv, methods := names.filterMap (methOf i d), plain := bif isAggD d && !P.eqGuardType P.depth t then plainK P 12 t else none }
      | none => none
    | _, _ => none
  | _, _ => none

theorem kindOf_ok {P : Program} {d : TypeDesc} {k : TK} (h : kindOf P d = some k) : KR P k d := by
  unfold kindOf at h
  split at h <;> first
    | (injection h with h; subst h; rfl)
    | (injection h with h; subst h; exact ⟨_, rfl, rfl⟩)
    | (injection h with h; subst h; exact ⟨_, _, _, rfl⟩)
    | (cases h; done)
    | skip
  rename_i fs
  cases hc : fs.toList.all (fun f => (P.info? f.type).isSome) with
  | false => rw [hc] at h; simp at h
  | true =>
    rw [hc] at h; simp only [cond_true] at h; injection h with h; subst h
    rw [List.all_eq_true] at hc
    exact ⟨fs, rfl, rfl, fun f hf => Option.isSome_iff_exists.1 (hc f hf)⟩

theorem method_run {P : Program} {t n : Nat} {i : TypeInfo} {mm : Method} {name : String} {f : FuncId} {p : Bool} (hi : P.info? t = some i) (hfind : i.methods.find? (·.name == name) = some mm) (hpl : mm.path = #[]) (hfn : mm.func = some (f, p)) (v : Value) (w : World) :
    ∃ q, (method (n + 1) t v name).run P w = ((receiverAt t (.val v) p (some q)).run P w).andThen fun x w => .ok (f, x) w := by
  refine ⟨(name.splitOn ".").getLastD name, ?_⟩
  rw [method]
  simp only [Sem.run_bind, typeInfo]
  have h1 : (typeInfo t).run P w = .ok i w := by simp [typeInfo, hi]
  simp only [typeInfo, Sem.run_bind] at h1
  rw [h1]
  simp only [Result.andThen_ok, hfind, hpl, hfn, follow, Sem.run_bind, Sem.run_pure, Array.isEmpty, Array.size, List.length_nil, decide_true, if_true]

theorem rowOf_ok {P : Program} {names : List String} {t : Nat} {ti : TI} (h : rowOf P names t = some ti) : RowOk P t ti := by
  unfold rowOf at h
  split at h
  · rename_i i d hi hd
    split at h
    · rename_i k z hk hz
      split at h
      · rename_i zv hzv
        injection h with h; subst h
        refine ⟨⟨i, hi, rfl, rfl, z, hz, fun β => cv_ok hzv⟩, ⟨d, hd, kindOf_ok hk⟩, ?_, ?_⟩
        · intro ks hks
          simp only at hks
          cases hg : (isAggD d && !P.eqGuardType P.depth t) with
          | false => rw [hg] at hks; simp at hks
          | true =>
            rw [hg] at hks; simp only [cond_true] at hks
            simp only [Bool.and_eq_true, Bool.not_eq_true'] at hg
            refine plainP_ok (d := 11) (by omega) hks hd ?_ hg.2
            have h1 := hg.1
            unfold isAggD at h1
            split at h1
            · exact .inr ⟨_, rfl⟩
            · exact .inl ⟨_, _, rfl⟩
            · cases h1
        · intro m hm
          obtain ⟨name, _, hm⟩ := List.mem_filterMap.1 hm
          unfold methOf at hm
          split at hm
          · rename_i mm hfind
            cases hp : mm.path.isEmpty with
            | false => rw [hp] at hm; simp at hm
            | true =>
              rw [hp] at hm; simp only [cond_true] at hm
              have hpl : mm.path = #[] := by simpa using hp
              split at hm
              · -- a pointer's own
                rename_i f e hfn _
                injection hm with hm; subst hm
                intro v w
                obtain ⟨q, hq⟩ := method_run (n := P.types.size + 99) hi hfind hpl hfn v w
                refine (show (method (P.types.size + 99 + 1) t v name).run P w = _ from hq).trans ?_
                simp [receiverAt, run_underlying hd, Place.get]
              · rename_i f e hfn _
                injection hm with hm; subst hm
                intro a x w hload
                obtain ⟨q, hq⟩ := method_run (n := P.types.size + 99) hi hfind hpl hfn (.pointer (some a)) w
                refine (show (method (P.types.size + 99 + 1) t _ name).run P w = _ from hq).trans ?_
                have hw : (Builtin.ssaWrapNilChk_ #[t] t #[.pointer (some a), strVal "", strVal q]).run P w = .ok (.pointer (some a)) w := rfl
                simp only [receiverAt, Sem.run_bind, run_underlying hd, Result.andThen_ok, Place.get, Sem.run_pure, hw, asAddr, hload]
              · rename_i f hfn hnp _
                injection hm with hm; subst hm
                intro v w
                obtain ⟨q, hq⟩ := method_run (n := P.types.size + 99) hi hfind hpl hfn v w
                refine (show (method (P.types.size + 99 + 1) t v name).run P w = _ from hq).trans ?_
                simp only [receiverAt, Sem.run_bind, run_underlying hd, Result.andThen_ok, Place.get]
                simp
              · cases hm
          · cases hm
      · cases h
    · cases h
  · cases h

noncomputable def tabOf {α : Type} (l : List (Nat × α)) : Tr α := l.foldr (fun p t => t.set p.1 p.2) .lf
theorem tabOf_mem {α : Type} : ∀ {l : List (Nat × α)} {i : Nat} {v : α}, (tabOf l).get i = some v → (i, v) ∈ l
  | [], i, v, h => by simp [tabOf, Tr.get_lf] at h
  | (j, u) :: r, i, v, h => by
    simp only [tabOf, List.foldr_cons, Tr.get_set] at h
    by_cases hij : i = j
    · subst hij; rw [if_pos rfl] at h; injection h with h; subst h; exact List.mem_cons_self
    · rw [if_neg hij] at h; exact List.mem_cons_of_mem _ (tabOf_mem h)

theorem tok_of {P : Program} {names : List String} {rows : List (Nat × TI)} {fns : List (Nat × Func)} {G : Nat} (h1 : ∀ p ∈ rows, rowOf P names p.1 = some p.2) (h2 : ∀ p ∈ fns, P.funcs[p.1]? = some p.2 ∧ p.2.name ≠ "runtime.NumGoroutine")
    (h3 : P.follows .mixedOrders = true) : TOk P ⟨tabOf rows, G⟩ (tabOf fns) :=
  ⟨fun t ti h => rowOf_ok (h1 _ (tabOf_mem h)), h3, fun f fn h => h2 _ (tabOf_mem h)⟩

end Go.Ai
