/- AiExt AiExtB AiExtC -/
import Derived.Test.YthgkkbaaedefhaaAiOpE
set_option linter.unusedVariables false
set_option linter.unusedSimpArgs false
section
namespace Go.Ai
open Go

def agree (e e' : Env) (xs : List Operand) : Prop := ∀ t, Operand.tmp t ∈ xs → e.get t = e'.get t

section
variable {T : Types} {e e' : Env}

theorem ev_agree {xs : List Operand} (h : agree e e' xs) {x : Operand} (hx : x ∈ xs) : ev T e x = ev T e' x := by
  cases x <;> simp only [ev]
  rw [h _ hx]
theorem evs_agree {xs : List Operand} (h : agree e e' xs) : ∀ {ys : List Operand}, (∀ y ∈ ys, y ∈ xs) → evs T e ys = evs T e' ys
  | [], _ => rfl
  | y :: ys, hy => by
    simp only [evs]
    rw [ev_agree h (hy y (by simp)), evs_agree h (ys := ys) (fun z hz => hy z (by simp [hz]))]
theorem evo_agree {xs : List Operand} (h : agree e e' xs) {x : Option Operand} (hx : ∀ y, x = some y → y ∈ xs) : evo T e x = evo T e' x := by
  cases x with
  | none => rfl
  | some x => simp only [evo]; rw [ev_agree h (hx x rfl)]
theorem evp_agree {xs : List Operand} (h : agree e e' xs) : ∀ {ps : List (Nat × Operand)}, (∀ p ∈ ps, p.2 ∈ xs) → evp T e ps = evp T e' ps
  | [], _ => rfl
  | (i, y) :: ps, hy => by
    simp only [evp]
    rw [ev_agree h (hy (i, y) (by simp)), evp_agree h (ps := ps) (fun z hz => hy z (by simp [hz]))]

theorem aop_agree {g : Getter} {nx : Nat} {op : Op} (h : agree e e' op.operands.toList) : aop T g nx e op = aop T g nx e' op := by
  cases op <;> simp only [aop_eq, aopM]
  case move x => rw [ev_agree h (by simp [Op.operands])]
  case assign x => rw [ev_agree h (by simp [Op.operands])]
  case pick c a b => rw [ev_agree h (x := c) (by simp [Op.operands]), ev_agree h (x := a) (by simp [Op.operands]), ev_agree h (x := b) (by simp [Op.operands])]
  case box t x => rw [ev_agree h (by simp [Op.operands])]
  case build t ps => rw [evp_agree h (by intro p hp; simp [Op.operands]; exact ⟨p.1, by simpa using hp⟩)]
  case buildSlice t n ps => rw [evp_agree h (by intro p hp; simp [Op.operands]; exact ⟨p.1, by simpa using hp⟩)]
  case load t a => rw [ev_agree h (by simp [Op.operands])]
  case store t a x => rw [ev_agree h (x := a) (by simp [Op.operands]), ev_agree h (x := x) (by simp [Op.operands])]
  case nilCheck x => rw [ev_agree h (by simp [Op.operands])]
  case binOp op t x y yt => rw [ev_agree h (x := x) (by simp [Op.operands]), ev_agree h (x := y) (by simp [Op.operands])]
  case unOp op t x => rw [ev_agree h (by simp [Op.operands])]
  case convert s d x => rw [ev_agree h (by simp [Op.operands])]
  case makeInterface t x => rw [ev_agree h (by simp [Op.operands])]
  case makeFunc f xs ys => rw [evs_agree h (ys := xs.toList) (by intro y hy; simp [Op.operands]; left; simpa using hy), evs_agree h (ys := ys.toList) (by intro y hy; simp [Op.operands]; right; simpa using hy)]
  case makeSlice t l c => rw [ev_agree h (x := l) (by simp [Op.operands]), ev_agree h (x := c) (by simp [Op.operands])]
  case makeMap t r => cases r <;> rfl
  case slice t x lo hi mx =>
    rw [ev_agree h (x := x) (by simp [Op.operands]), evo_agree h (x := lo) (by rintro y rfl; simp [Op.operands]), evo_agree h (x := hi) (by rintro y rfl; simp [Op.operands]), evo_agree h (x := mx) (by rintro y rfl; simp [Op.operands])]
  case fieldAddr s x f => rw [ev_agree h (by simp [Op.operands])]
  case field s x f => rw [ev_agree h (by simp [Op.operands])]
  case indexAddr t x i => rw [ev_agree h (x := x) (by simp [Op.operands]), ev_agree h (x := i) (by simp [Op.operands])]
  case index t x i => rw [ev_agree h (x := x) (by simp [Op.operands]), ev_agree h (x := i) (by simp [Op.operands])]
  case lookup t m k ok => rw [ev_agree h (x := m) (by simp [Op.operands]), ev_agree h (x := k) (by simp [Op.operands])]
  case mapUpdate t m k v => rw [ev_agree h (x := m) (by simp [Op.operands]), ev_agree h (x := k) (by simp [Op.operands]), ev_agree h (x := v) (by simp [Op.operands])]
  case insert t m k v => rw [ev_agree h (x := m) (by simp [Op.operands]), ev_agree h (x := k) (by simp [Op.operands]), ev_agree h (x := v) (by simp [Op.operands])]
  case typeAssert x a b ok => rw [ev_agree h (by simp [Op.operands])]
  case extract x i => rw [ev_agree h (by simp [Op.operands])]
  case call c =>
    obtain ⟨callee, args, ts⟩ := c
    cases callee <;> simp only [aop_eq, aopM]
    rw [evs_agree h (by intro y hy; simp [Op.operands, Call.operands]; simpa using hy)]

theorem acallee_agree {g : Getter} {c : Call} (h : agree e e' c.operands.toList) : acallee T g e c = acallee T g e' c := by
  unfold acallee
  rw [evs_agree h (ys := c.args.toList) (by intro y hy; simp [Call.operands]; right; simpa using hy)]
  cases hc : c.callee with
  | value f => simp only; rw [ev_agree h (x := f) (by simp [Call.operands, hc])]
  | invoke r m => simp only; rw [ev_agree h (x := r) (by simp [Call.operands, hc])]
  | builtin b => rfl

/-! ### What an operation looks into -/
def Out.sees (o : Out) (b : Nat) : Prop := b ∈ o.rd ∨ b ∈ o.up.map (·.1)

theorem aload_local {g g' : Getter} {t : Nat} {a : AV} {o : Out} (h1 : aload T g t a = some o) (hg : ∀ b, o.sees b → g' b = g b) : aload T g' t a = some o := by
  unfold aload at h1 ⊢
  split at h1
  · rename_i b off ti ht
    split at h1
    · rename_i own es vs hb
      obtain ⟨v, hp, rfl⟩ := Option.map_eq_some_iff.1 h1
      simp only [ht, hg b (.inl (by simp)), hb, hp, Option.map_some]
    · cases h1
  · cases h1

theorem astore_local {g g' : Getter} {t : Nat} {a x : AV} {o : Out} (h1 : astore T g t a x = some o) (hg : ∀ b, o.sees b → g' b = g b) : astore T g' t a x = some o := by
  unfold astore at h1 ⊢
  split at h1
  · rename_i b off ti xs ht hxs
    split at h1
    · rename_i es vs hb
      cases hc : (Nat.beq xs.length ti.size && xs.all AV.isCell) with
      | false => rw [hc] at h1; simp at h1
      | true =>
        rw [hc] at h1; simp only [cond_true] at h1
        obtain ⟨v, hp, rfl⟩ := Option.map_eq_some_iff.1 h1
        simp only [ht, hxs, hg b (.inr (by simp)), hb, hc, cond_true, hp, Option.map_some]
    · cases h1
  · cases h1

theorem aslice_local {g g' : Getter} {t : Nat} {x : AV} {lo hi mx : Option AV} {o : Out} (h1 : aslice T g t x lo hi mx = some o) (hg : ∀ b, o.sees b → g' b = g b) : aslice T g' t x lo hi mx = some o := by
  unfold aslice at h1 ⊢
  split at h1
  · rename_i ei hel
    try simp only [hel]
    split at h1
    · rename_i b off l c ex
      split at h1
      · cases h1
      · rename_i m mex e1
        try simp only [e1]
        split at h1
        · cases h1
        · rename_i hh e2
          try simp only [e2]
          split at h1
          · cases h1
          · rename_i ll e3
            try simp only [e3]
            by_cases hl0 : ll = 0
            · subst hl0; exact h1
            · rw [beqF.2 hl0] at h1 ⊢
              simp only [cond_false] at h1 ⊢
              by_cases hlm : ll < m
              · rw [bltT.2 hlm] at h1 ⊢
                simp only [cond_true] at h1 ⊢
                split at h1
                · rename_i own es vs hb
                  cases hc : (!own || Nat.beq es ei.size) with
                  | false => rw [hc] at h1; simp at h1
                  | true =>
                    rw [hc] at h1; simp only [cond_true] at h1
                    injection h1 with h1; subst h1
                    simp only [hg b (.inl (by simp)), hb, hc, cond_true]
                · cases h1
              · rw [bltF.2 (by omega)] at h1 ⊢
                exact h1
    · split at h1
      · cases h1
      · rename_i m mex e1
        try simp only [e1]
        split at h1
        · cases h1
        · rename_i hh e2
          try simp only [e2]
          split at h1
          · cases h1
          · rename_i ll e3
            try simp only [e3]
            exact h1
    · cases h1
  · cases h1

theorem srcCells_local {g g' : Getter} {size : Nat} {s : AV} {n : Nat} {xs : List AV} {rd : List Nat} (h1 : srcCells g size s = some (n, xs, rd)) (hg : ∀ b ∈ rd, g' b = g b) : srcCells g' size s = some (n, xs, rd) := by
  unfold srcCells at h1 ⊢
  split at h1
  · exact h1
  · exact h1
  · rename_i b o l c ex
    by_cases hl0 : l = 0
    · subst hl0; exact h1
    · rw [beqF.2 hl0] at h1 ⊢
      simp only [cond_false] at h1 ⊢
      split at h1
      · rename_i own es vs hb
        obtain ⟨ys, hcut, he⟩ := Option.map_eq_some_iff.1 h1
        injection he with e1 e2; injection e2 with e2 e3
        subst e3
        subst e1; subst e2
        simp only [hg b (by simp), hb, hcut, Option.map_some]
      · cases h1
  · cases h1

theorem aappend_local {g g' : Getter} {nx ts tx : Nat} {d s : AV} {o : Out} (h1 : aappend T g nx ts tx d s = some o) (hg : ∀ b, o.sees b → g' b = g b) : aappend T g' nx ts tx d s = some o := by
  unfold aappend at h1 ⊢
  split at h1
  · rename_i ei e2 hel hel2
    try simp only [hel, hel2]
    cases hok : ei.okElem with
    | false => rw [hok] at h1; simp at h1
    | true =>
      rw [hok] at h1; simp only [Bool.not_true, cond_false] at h1 ⊢
      split at h1
      · cases h1
      · rename_i n xs rd hsrc
        cases hall : xs.all AV.isCell with
        | false => rw [hall] at h1; simp at h1
        | true =>
          rw [hall] at h1; simp only [Bool.not_true, cond_false] at h1
          -- where nothing is appended, nothing was read
          have hrd : n = 0 → rd = [] := by
            intro hn
            unfold srcCells at hsrc
            split at hsrc
            · injection hsrc with hsrc; cases hsrc; rfl
            · injection hsrc with hsrc; cases hsrc; rfl
            · rename_i b o' l c ex
              by_cases hl0 : l = 0
              · subst hl0; rw [beqT.2 rfl] at hsrc; simp only [cond_true] at hsrc; injection hsrc with hsrc; cases hsrc; rfl
              · rw [beqF.2 hl0] at hsrc
                simp only [cond_false] at hsrc
                split at hsrc
                · obtain ⟨ys, _, he⟩ := Option.map_eq_some_iff.1 hsrc
                  injection he with e1 _
                  omega
                · cases hsrc
            · cases hsrc
          have hsl : (∀ b ∈ rd, o.sees b) → srcCells g' ei.size s = some (n, xs, rd) := fun hs => srcCells_local hsrc (fun b hb => hg b (hs b hb))
          split at h1
          · by_cases hn : n = 0
            · rw [hsl (by rw [hrd hn]; simp)]
              simp only [hall, Bool.not_true, cond_false]
              exact h1
            · rw [beqF.2 hn] at h1; simp only [cond_false] at h1
              cases hsm : Nat.ble n small with
              | false => rw [hsm] at h1; simp at h1
              | true =>
                rw [hsm] at h1; simp only [cond_true] at h1
                injection h1 with h1; subst h1
                rw [hsl (fun b hb => .inl hb)]
                simp only [hall, Bool.not_true, cond_false, beqF.2 hn, hsm, cond_true]
          · rename_i b o' l c ex
            by_cases hn : n = 0
            · rw [hsl (by rw [hrd hn]; simp)]
              simp only [hall, Bool.not_true, cond_false]
              subst hn
              rw [beqT.2 rfl] at h1 ⊢
              exact h1
            · rw [beqF.2 hn] at h1; simp only [cond_false] at h1
              cases hsm : Nat.ble (l + n) small with
              | false => rw [hsm] at h1; simp at h1
              | true =>
                rw [hsm] at h1; simp only [Bool.not_true, cond_false] at h1
                split at h1
                · rename_i own es vs hblk
                  have fin : o.sees b → (bif ex && Nat.beq l 0 && Nat.blt c n then some (AO.cells false 0 []) else g' b) = some (.cells own es vs) := by
                    intro hb
                    rw [hg b hb]; exact hblk
                  by_cases hroom : l + n ≤ c
                  · rw [bleT.2 hroom] at h1; simp only [cond_true] at h1
                    cases own with
                    | false => simp at h1
                    | true =>
                      simp only [cond_true] at h1
                      obtain ⟨vs', hov, rfl⟩ := Option.map_eq_some_iff.1 h1
                      have f2 := fin (.inl (by simp))
                      rw [hsl (fun x hx => .inl (by simp [hx]))]
                      simp only [hall, Bool.not_true, cond_false, beqF.2 hn, hsm, f2, bleT.2 hroom, cond_true, hov, Option.map_some]
                  · rw [bleF.2 (by omega)] at h1; simp only [cond_false] at h1
                    split at h1
                    · rename_i old hold
                      cases hob : (old.all AV.isCell && Nat.beq old.length (l * ei.size)) with
                      | false => rw [hob] at h1; simp at h1
                      | true =>
                        rw [hob] at h1; simp only [cond_true] at h1
                        cases hex : ex with
                        | true =>
                          rw [hex] at h1; simp only [cond_true] at h1
                          injection h1 with h1; subst h1
                          by_cases hl0 : l = 0
                          · subst hl0
                            have f2 : (bif ex && Nat.beq 0 0 && Nat.blt c n then some (AO.cells false 0 []) else g' b) = some (.cells own es vs) := by
                              have hbt : Nat.blt c n = true := bltT.2 (by omega)
                              have hbe : Nat.beq 0 0 = true := rfl
                              rw [hex, hbt, hbe] at hblk ⊢
                              exact hblk
                            rw [hex] at f2
                            rw [hsl (fun x hx => .inl (by simpa [beqT.2 (rfl : (0 : Nat) = 0)] using hx))]
                            simp only [hall, Bool.not_true, cond_false, beqF.2 hn, hsm, f2, bleF.2 (show c < 0 + n by omega), hold, hob, cond_true]
                          · have f2 := fin (.inl (by simp [beqF.2 hl0]))
                            rw [hex] at f2
                            rw [hsl (fun x hx => .inl (by simp [beqF.2 hl0, hx]))]
                            simp only [hall, Bool.not_true, cond_false, beqF.2 hn, hsm, f2, bleF.2 (show c < l + n by omega), hold, hob, cond_true]
                        | false =>
                          rw [hex] at h1; simp only [cond_false] at h1
                          cases hoe : (own && Nat.beq es ei.size) with
                          | false => rw [hoe] at h1; simp at h1
                          | true =>
                            rw [hoe] at h1; simp only [cond_true] at h1
                            injection h1 with h1; subst h1
                            have f2 := fin (.inl (by simp))
                            rw [hex] at f2
                            rw [hsl (fun x hx => .inl (by simp [hx]))]
                            simp only [hall, Bool.not_true, cond_false, beqF.2 hn, hsm, f2, bleF.2 (show c < l + n by omega), hold, hob, hoe, cond_true]
                    · cases h1
                · cases h1
          · cases h1
  · cases h1

theorem alookup_local {g g' : Getter} {t : Nat} {m k : AV} {ok : Bool} {o : Out} (h1 : alookup T g t m k ok = some o) (hg : ∀ b, o.sees b → g' b = g b) : alookup T g' t m k ok = some o := by
  unfold alookup at h1 ⊢
  split at h1
  · rename_i kt ei hmp
    try simp only [hmp]
    split at h1
    · rename_i ks l hkc
      try simp only [hkc]
      split at h1
      · exact h1
      · rename_i b
        split at h1
        · rename_i es hb
          split at h1
          · rename_i j v hfk
            injection h1 with h1; subst h1
            simp only [hg b (.inl (by simp)), hb, hfk]
          · rename_i hfk
            injection h1 with h1; subst h1
            simp only [hg b (.inl (by simp)), hb, hfk]
          · cases h1
        · cases h1
      · cases h1
    · cases h1
  · cases h1

theorem amapUpdate_local {g g' : Getter} {t : Nat} {m k v : AV} {o : Out} (h1 : amapUpdate T g t m k v = some o) (hg : ∀ b, o.sees b → g' b = g b) : amapUpdate T g' t m k v = some o := by
  unfold amapUpdate at h1 ⊢
  split at h1
  · rename_i kt ei hmp
    try simp only [hmp]
    split at h1
    · rename_i b
      split at h1
      · rename_i ks l es hkc hb
        try simp only [hkc]
        split at h1
        · rename_i j x hfk
          injection h1 with h1; subst h1
          simp only [hg b (.inr (by simp)), hb, hfk]
        · rename_i hfk
          injection h1 with h1; subst h1
          simp only [hg b (.inr (by simp)), hb, hfk]
        · cases h1
      · cases h1
    · cases h1
  · cases h1

theorem alen_local {g g' : Getter} {t : Nat} {x : AV} {o : Out} (h1 : alen T g t x = some o) (hg : ∀ b, o.sees b → g' b = g b) : alen T g' t x = some o := by
  unfold alen at h1 ⊢
  split at h1
  · rename_i ti ht
    try simp only [ht]
    split at h1
    · rename_i e hk; try simp only [hk]
      exact h1
    · rename_i n e hk; try simp only [hk]
      exact h1
    · rename_i k e hk
      try simp only [hk]
      split at h1
      · exact h1
      · rename_i b
        split at h1
        · rename_i es hb
          injection h1 with h1; subst h1
          simp only [hg b (.inl (by simp)), hb]
        · cases h1
      · cases h1
    · cases h1
  · cases h1

theorem abuiltin_local {g g' : Getter} {nx : Nat} {b : Builtin} {ts : List Nat} {xs : List AV} {o : Out} (h1 : abuiltin T g nx b ts xs = some o) (hg : ∀ b, o.sees b → g' b = g b) : abuiltin T g' nx b ts xs = some o := by
  unfold abuiltin at h1 ⊢
  split at h1
  · exact alen_local h1 hg
  · exact h1
  · exact aappend_local h1 hg
  · exact h1
  · exact h1
  · cases h1

theorem aop_local {g g' : Getter} {nx : Nat} {op : Op} {o : Out} (h1 : aop T g nx e op = some o) (hg : ∀ b, o.sees b → g' b = g b) : aop T g' nx e op = some o := by
  rw [aop_eq] at h1 ⊢; unfold aopM at h1 ⊢
  split at h1
  all_goals first
    | exact h1
    | (split at h1
       · rename_i hx; (try simp only [hx]); first | exact aload_local h1 hg | exact abuiltin_local h1 hg
       · cases h1)
    | (split at h1
       · rename_i hx hy; (try simp only [hx, hy]); first | exact astore_local h1 hg | exact alookup_local h1 hg
       · cases h1)
    | (split at h1
       · rename_i hx hy hz; (try simp only [hx, hy, hz]); exact amapUpdate_local h1 hg
       · cases h1)
    | (split at h1
       · rename_i hx hy hz hq; (try simp only [hx, hy, hz, hq]); exact aslice_local h1 hg
       · cases h1)

end
end Go.Ai
end

section
namespace Go.Ai
open Go

section
variable {T : Types} {e : Env} {β : Bm}

/-- What is turned lies there and is written; what is seen is named by an operand. -/
def Fine (β : Bm) (g : Getter) (o : Out) : Prop := (∀ p ∈ o.up, ∃ x, g p.1 = some x ∧ x.own = true) ∧ ∀ b, o.sees b → (∃ i, β b = some i) ∧ ∃ x, g b = some x

theorem Fine.pure (g : Getter) (v : AV) : Fine β g (.pure v) := ⟨fun p hp => (by cases hp), fun b hb => (by rcases hb with hb | hb <;> cases hb)⟩
theorem Fine.mk0 (g : Getter) {o : Out} (h1 : o.rd = []) (h2 : o.up = []) : Fine β g o := by
  refine ⟨fun p hp => (by rw [h2] at hp; cases hp), fun b hb => ?_⟩
  rcases hb with hb | hb
  · rw [h1] at hb; cases hb
  · rw [h2] at hb; cases hb
theorem Fine.map {g : Getter} {x : Option AV} {o : Out} (h1 : x.map Out.pure = some o) : Fine β g o := by
  obtain ⟨v, _, rfl⟩ := Option.map_eq_some_iff.1 h1; exact Fine.pure g v

/-- A block that a value names outright is known. -/
def Refd (β : Bm) : AV → Prop
  | .ptr b _ => ∃ i, β b = some i
  | .slice b _ _ _ _ => ∃ i, β b = some i
  | .map b => ∃ i, β b = some i
  | _ => True

theorem Refd.of {v : AV} {u : Value} (h : VR β v u) : Refd β v := by
  cases v <;> try trivial
  · obtain ⟨i, hi, _⟩ := h; exact ⟨i, hi⟩
  · obtain ⟨i, _, hi, _⟩ := h; exact ⟨i, hi⟩
  · obtain ⟨i, hi, _⟩ := h; exact ⟨i, hi⟩
theorem Refd.any (v : AV) : Refd (fun _ => some ⟨0, 0, 0, 0, false⟩) v := by
  cases v <;> first | trivial | exact ⟨_, rfl⟩

theorem ptr_ref {b o : Nat} (h : Refd β (.ptr b o)) : ∃ i, β b = some i := h
theorem slice_ref {b o l c : Nat} {x : Bool} (h : Refd β (.slice b o l c x)) : ∃ i, β b = some i := h
theorem map_ref {b : Nat} (h : Refd β (.map b)) : ∃ i, β b = some i := h

theorem aload_fine {g : Getter} {t : Nat} {a : AV} {o : Out} (h1 : aload T g t a = some o) (ha : Refd β a) : Fine β g o := by
  unfold aload at h1
  split at h1
  · split at h1
    · rename_i hgb
      obtain ⟨v, _, rfl⟩ := Option.map_eq_some_iff.1 h1
      refine ⟨fun p hp => (by cases hp), fun b hb => ?_⟩
      rcases hb with hb | hb
      · simp at hb; subst hb; exact ⟨ptr_ref ha, _, hgb⟩
      · cases hb
    · cases h1
  · cases h1

theorem astore_fine {g : Getter} {t : Nat} {a x : AV} {o : Out} (h1 : astore T g t a x = some o) (ha : Refd β a) : Fine β g o := by
  unfold astore at h1
  split at h1
  · rename_i b off ti xs ht hxs
    split at h1
    · rename_i es vs hb
      cases hc : (Nat.beq xs.length ti.size && xs.all AV.isCell) with
      | false => rw [hc] at h1; simp at h1
      | true =>
        rw [hc] at h1; simp only [cond_true] at h1
        obtain ⟨v, _, rfl⟩ := Option.map_eq_some_iff.1 h1
        refine ⟨fun p hp => ?_, fun b' hb' => ?_⟩
        · simp at hp; subst hp; exact ⟨_, hb, rfl⟩
        · rcases hb' with hb' | hb'
          · cases hb'
          · simp at hb'; subst hb'; exact ⟨ptr_ref ha, _, hb⟩
    · cases h1
  · cases h1

theorem aslice_fine {g : Getter} {t : Nat} {x : AV} {lo hi mx : Option AV} {o : Out} (h1 : aslice T g t x lo hi mx = some o) (hx : Refd β x) : Fine β g o := by
  unfold aslice at h1
  split at h1
  · split at h1
    · split at h1
      · cases h1
      · split at h1
        · cases h1
        · split at h1
          · cases h1
          · rename_i ll _
            by_cases hl0 : ll = 0
            · rw [beqT.2 hl0] at h1; simp only [cond_true] at h1; injection h1 with h1; subst h1; exact Fine.pure _ _
            · rw [beqF.2 hl0] at h1
              simp only [cond_false] at h1
              rename_i m _ _ _ _ _ _
              generalize hb : Nat.blt ll _ = bb at h1
              cases bb with
              | true =>
                simp only [cond_true] at h1
                split at h1
                · rename_i hgb
                  generalize hc : (!_ || _) = cc at h1
                  cases cc with
                  | false => simp at h1
                  | true =>
                    simp only [cond_true] at h1
                    injection h1 with h1; subst h1
                    refine ⟨fun p hp => (by cases hp), fun b' hb' => ?_⟩
                    rcases hb' with hb' | hb'
                    · simp at hb'; subst hb'; exact ⟨slice_ref hx, _, hgb⟩
                    · cases hb'
                · cases h1
              | false => simp only [cond_false] at h1; injection h1 with h1; subst h1; exact Fine.pure _ _
    · split at h1
      · cases h1
      · split at h1
        · cases h1
        · split at h1
          · cases h1
          · injection h1 with h1; subst h1; exact Fine.pure _ _
    · cases h1
  · cases h1

theorem srcCells_ref {g : Getter} {size : Nat} {s : AV} {n : Nat} {xs : List AV} {rd : List Nat} (h1 : srcCells g size s = some (n, xs, rd)) (hs : Refd β s) : ∀ b ∈ rd, (∃ i, β b = some i) ∧ ∃ x, g b = some x := by
  unfold srcCells at h1
  split at h1
  · injection h1 with h1; cases h1; simp
  · injection h1 with h1; cases h1; simp
  · rename_i b o l c ex
    cases hb : Nat.beq l 0 with
    | true => rw [hb] at h1; simp only [cond_true] at h1; injection h1 with h1; cases h1; simp
    | false =>
      rw [hb] at h1; simp only [cond_false] at h1
      split at h1
      · obtain ⟨ys, _, he⟩ := Option.map_eq_some_iff.1 h1
        cases he
        intro b' hb'
        simp at hb'; subst hb'; exact ⟨slice_ref hs, _, ‹_›⟩
      · cases h1
  · cases h1

theorem aappend_fine {g : Getter} {nx ts tx : Nat} {d s : AV} {o : Out} (h1 : aappend T g nx ts tx d s = some o) (hd : Refd β d) (hs : Refd β s) : Fine β g o := by
  unfold aappend at h1
  split at h1
  · rename_i ei e2 hel hel2
    cases hok : ei.okElem with
    | false => rw [hok] at h1; simp at h1
    | true =>
      rw [hok] at h1; simp only [Bool.not_true, cond_false] at h1
      split at h1
      · cases h1
      · rename_i n xs rd hsrc
        have hrd := srcCells_ref hsrc hs
        cases hall : xs.all AV.isCell with
        | false => rw [hall] at h1; simp at h1
        | true =>
          rw [hall] at h1; simp only [Bool.not_true, cond_false] at h1
          split at h1
          · cases hn : Nat.beq n 0 with
            | true => rw [hn] at h1; simp only [cond_true] at h1; injection h1 with h1; subst h1; exact Fine.pure _ _
            | false =>
              rw [hn] at h1; simp only [cond_false] at h1
              cases hsm : Nat.ble n small with
              | false => rw [hsm] at h1; simp at h1
              | true =>
                rw [hsm] at h1; simp only [cond_true] at h1
                injection h1 with h1; subst h1
                refine ⟨fun p hp => (by cases hp), fun b' hb' => ?_⟩
                rcases hb' with hb' | hb'
                · exact hrd b' hb'
                · cases hb'
          · rename_i b o' l c ex
            have hrb : (∃ x, g b = some x) → ∀ b' ∈ b :: rd, (∃ i, β b' = some i) ∧ ∃ x, g b' = some x := by
              intro hgb b' hb'
              rcases List.mem_cons.1 hb' with rfl | hb'
              · exact ⟨slice_ref hd, hgb⟩
              · exact hrd b' hb'
            cases hn : Nat.beq n 0 with
            | true => rw [hn] at h1; simp only [cond_true] at h1; injection h1 with h1; subst h1; exact Fine.pure _ _
            | false =>
              rw [hn] at h1; simp only [cond_false] at h1
              cases hsm : Nat.ble (l + n) small with
              | false => rw [hsm] at h1; simp at h1
              | true =>
                rw [hsm] at h1; simp only [Bool.not_true, cond_false] at h1
                split at h1
                · rename_i own es vs hblk
                  cases hroom : Nat.ble (l + n) c with
                  | true =>
                    rw [hroom] at h1; simp only [cond_true] at h1
                    cases own with
                    | false => simp at h1
                    | true =>
                      simp only [cond_true] at h1
                      obtain ⟨vs', hov, rfl⟩ := Option.map_eq_some_iff.1 h1
                      have hg : g b = some (.cells true es vs) := by
                        have : Nat.blt c n = false := bltF.2 (by have := bleT.1 hroom; omega)
                        rw [this] at hblk; simpa using hblk
                      refine ⟨fun p hp => ?_, fun b' hb' => ?_⟩
                      · simp at hp; subst hp; exact ⟨_, hg, rfl⟩
                      · rcases hb' with hb' | hb'
                        · exact hrb ⟨_, hg⟩ b' hb'
                        · simp at hb'; subst hb'; exact ⟨slice_ref hd, _, hg⟩
                  | false =>
                    rw [hroom] at h1; simp only [cond_false] at h1
                    split at h1
                    · rename_i old hold
                      cases hob : (old.all AV.isCell && Nat.beq old.length (l * ei.size)) with
                      | false => rw [hob] at h1; simp at h1
                      | true =>
                        rw [hob] at h1; simp only [cond_true] at h1
                        cases hex : ex with
                        | true =>
                          rw [hex] at h1; simp only [cond_true] at h1
                          injection h1 with h1; subst h1
                          refine ⟨fun p hp => (by cases hp), fun b' hb' => ?_⟩
                          rcases hb' with hb' | hb'
                          · cases hl0 : Nat.beq l 0 with
                            | true => simp only [hl0, cond_true] at hb'; exact hrd b' hb'
                            | false =>
                              simp only [hl0, cond_false] at hb'
                              have hg : g b = some (.cells own es vs) := by rw [hl0] at hblk; simpa using hblk
                              exact hrb ⟨_, hg⟩ b' hb'
                          · cases hb'
                        | false =>
                          rw [hex] at h1; simp only [cond_false] at h1
                          cases hoe : (own && Nat.beq es ei.size) with
                          | false => rw [hoe] at h1; simp at h1
                          | true =>
                            rw [hoe] at h1; simp only [cond_true] at h1
                            injection h1 with h1; subst h1
                            rw [bandT] at hoe
                            have hg : g b = some (.cells own es vs) := by rw [hex] at hblk; simpa using hblk
                            refine ⟨fun p hp => ?_, fun b' hb' => ?_⟩
                            · simp at hp; subst hp; exact ⟨_, hg, hoe.1⟩
                            · rcases hb' with hb' | hb'
                              · exact hrb ⟨_, hg⟩ b' hb'
                              · simp at hb'; subst hb'; exact ⟨slice_ref hd, _, hg⟩
                    · cases h1
                · cases h1
          · cases h1
  · cases h1

theorem alookup_fine {g : Getter} {t : Nat} {m k : AV} {ok : Bool} {o : Out} (h1 : alookup T g t m k ok = some o) (hm : Refd β m) : Fine β g o := by
  unfold alookup at h1
  split at h1
  · split at h1
    · split at h1
      · injection h1 with h1; subst h1; exact Fine.mk0 _ rfl rfl
      · rename_i b
        have key : ∀ {o : Out}, (∃ x, g b = some x) → o.rd = [b] → o.up = [] → Fine β g o := by
          intro o hgb h1 h2
          refine ⟨fun p hp => (by rw [h2] at hp; cases hp), fun b' hb' => ?_⟩
          rcases hb' with hb' | hb'
          · rw [h1] at hb'; simp at hb'; subst hb'; exact ⟨map_ref hm, hgb⟩
          · rw [h2] at hb'; cases hb'
        split at h1
        · rename_i hgb
          split at h1
          · injection h1 with h1; subst h1; exact key ⟨_, hgb⟩ rfl rfl
          · injection h1 with h1; subst h1; exact key ⟨_, hgb⟩ rfl rfl
          · cases h1
        · cases h1
      · cases h1
    · cases h1
  · cases h1

theorem amapUpdate_fine {g : Getter} {t : Nat} {m k v : AV} {o : Out} (h1 : amapUpdate T g t m k v = some o) (hm : Refd β m) : Fine β g o := by
  unfold amapUpdate at h1
  split at h1
  · split at h1
    · rename_i b
      split at h1
      · rename_i ks l es hkc hb
        have key : ∀ {o : Out} {x : AO}, o.rd = [] → o.up = [(b, x)] → Fine β g o := by
          intro o x h1 h2
          refine ⟨fun p hp => (by rw [h2] at hp; simp at hp; subst hp; exact ⟨_, hb, rfl⟩), fun b' hb' => ?_⟩
          rcases hb' with hb' | hb'
          · rw [h1] at hb'; cases hb'
          · rw [h2] at hb'; simp at hb'; subst hb'; exact ⟨map_ref hm, _, hb⟩
        split at h1
        · injection h1 with h1; subst h1; exact key rfl rfl
        · injection h1 with h1; subst h1; exact key rfl rfl
        · cases h1
      · cases h1
    · cases h1
  · cases h1

theorem alen_fine {g : Getter} {t : Nat} {x : AV} {o : Out} (h1 : alen T g t x = some o) (hx : Refd β x) : Fine β g o := by
  unfold alen at h1
  split at h1
  · split at h1
    · split at h1
      · injection h1 with h1; subst h1; exact Fine.pure _ _
      · injection h1 with h1; subst h1; exact Fine.pure _ _
      · injection h1 with h1; subst h1; exact Fine.pure _ _
      · cases h1
    · injection h1 with h1; subst h1; exact Fine.pure _ _
    · split at h1
      · injection h1 with h1; subst h1; exact Fine.pure _ _
      · split at h1
        · injection h1 with h1; subst h1
          refine ⟨fun p hp => (by cases hp), fun b' hb' => ?_⟩
          rcases hb' with hb' | hb'
          · simp at hb'; subst hb'; exact ⟨map_ref hx, _, ‹_›⟩
          · cases hb'
        · cases h1
      · cases h1
    · cases h1
  · cases h1

theorem abuiltin_fine {g : Getter} {nx : Nat} {b : Builtin} {ts : List Nat} {xs : List AV} {o : Out} (h1 : abuiltin T g nx b ts xs = some o) (hx : ∀ x ∈ xs, Refd β x) : Fine β g o := by
  unfold abuiltin at h1
  split at h1
  · exact alen_fine h1 (hx _ (by simp))
  · unfold acap at h1
    split at h1
    · injection h1 with h1; subst h1; exact Fine.pure _ _
    · cases h1
  · exact aappend_fine h1 (hx _ (by simp)) (hx _ (by simp))
  · rename_i x r
    cases hi : isInt x with
    | false => rw [hi] at h1; simp at h1
    | true => rw [hi] at h1; exact Fine.map h1
  · rename_i x r
    cases hi : isInt x with
    | false => rw [hi] at h1; simp at h1
    | true => rw [hi] at h1; exact Fine.map h1
  · cases h1

theorem evs_refd (hr : ∀ x v, ev T e x = some v → Refd β v) : ∀ {xs : List Operand} {l : List AV}, evs T e xs = some l → ∀ v ∈ l, Refd β v
  | [], l, h1 => by simp only [evs] at h1; injection h1 with h1; subst h1; simp
  | x :: xs, l, h1 => by
    simp only [evs] at h1
    split at h1
    · rename_i v l' hv hl
      injection h1 with h1; subst h1
      intro y hy
      rcases List.mem_cons.1 hy with rfl | hy
      · exact hr _ _ hv
      · exact evs_refd hr hl y hy
    · cases h1

theorem abox_fine {g : Getter} {nx t : Nat} {v : AV} {o : Out} (h1 : abox T nx t v = some o) : Fine β g o := by
  unfold abox at h1
  split at h1
  · generalize (Nat.beq _ _ && _) = cc at h1
    cases cc with
    | false => simp at h1
    | true => simp only [cond_true] at h1; injection h1 with h1; subst h1; exact Fine.mk0 _ rfl rfl
  · cases h1

theorem aop_fine {g : Getter} {nx : Nat} {op : Op} {o : Out} (h1 : aop T g nx e op = some o) (hr : ∀ x v, ev T e x = some v → Refd β v) : Fine β g o := by
  rw [aop_eq] at h1; unfold aopM at h1
  split at h1
  · exact Fine.map h1
  · exact Fine.map h1
  · split at h1
    · injection h1 with h1; subst h1; exact Fine.pure _ _
    · cases h1
  · split at h1
    · exact abox_fine h1
    · cases h1
  · split at h1
    · exact abox_fine h1
    · cases h1
  · split at h1
    · unfold abuild at h1
      split at h1
      · split at h1
        · split at h1
          · split at h1
            · obtain ⟨v, _, rfl⟩ := Option.map_eq_some_iff.1 h1; exact Fine.pure _ _
            · cases h1
          · obtain ⟨v, _, rfl⟩ := Option.map_eq_some_iff.1 h1; exact Fine.pure _ _
          · cases h1
        · cases h1
      · cases h1
    · cases h1
  · split at h1
    · unfold abuildSlice at h1
      split at h1
      · split at h1
        · generalize (Nat.ble _ _ && _ && _) = cc at h1
          cases cc with
          | false => simp at h1
          | true =>
            simp only [cond_true] at h1
            split at h1
            · generalize List.all _ _ = cc at h1
              cases cc with
              | false => simp at h1
              | true => simp only [cond_true] at h1; injection h1 with h1; subst h1; exact Fine.mk0 _ rfl rfl
            · cases h1
        · cases h1
      · cases h1
    · cases h1
  · split at h1
    · rename_i hx; exact aload_fine h1 (hr _ _ hx)
    · cases h1
  · split at h1
    · rename_i hx _; exact astore_fine h1 (hr _ _ hx)
    · cases h1
  · split at h1
    · injection h1 with h1; subst h1; exact Fine.pure _ _
    · injection h1 with h1; subst h1; exact Fine.pure _ _
    · cases h1
  · split at h1
    · exact Fine.map h1
    · cases h1
  · split at h1
    · exact Fine.map h1
    · cases h1
  · split at h1
    · split at h1
      · injection h1 with h1; subst h1; exact Fine.pure _ _
      · cases h1
    · cases h1
  · split at h1
    · split at h1
      · cases h1
      · split at h1
        · cases h1
        · injection h1 with h1; subst h1; exact Fine.pure _ _
    · cases h1
  · split at h1
    · injection h1 with h1; subst h1; exact Fine.pure _ _
    · cases h1
  · injection h1 with h1; subst h1; exact Fine.mk0 _ rfl rfl
  · split at h1
    · unfold amakeSlice at h1
      split at h1
      · split at h1
        · split at h1
          · generalize (_ && _ && _ && _ && _ && _ && _) = cc at h1
            cases cc with
            | false => simp at h1
            | true => simp only [cond_true] at h1; injection h1 with h1; subst h1; exact Fine.mk0 _ rfl rfl
          · cases h1
        · cases h1
      · cases h1
    · cases h1
  · split at h1
    · rename_i hx _ _ _; exact aslice_fine h1 (hr _ _ hx)
    · cases h1
  · split at h1
    · unfold afieldAddr at h1
      split at h1
      · split at h1
        · generalize Nat.beq _ _ = cc at h1
          cases cc with
          | true => simp at h1
          | false => simp only [cond_false] at h1; injection h1 with h1; subst h1; exact Fine.pure _ _
        · cases h1
      · cases h1
    · cases h1
  · split at h1
    · unfold afield at h1
      split at h1
      · split at h1
        · exact Fine.map h1
        · cases h1
      · cases h1
    · cases h1
  · split at h1
    · unfold aindexAddr at h1
      split at h1
      · split at h1
        · split at h1
          · generalize inRange _ _ = cc at h1
            cases cc with
            | false => simp at h1
            | true => simp only [cond_true] at h1; injection h1 with h1; subst h1; exact Fine.pure _ _
          · cases h1
        · split at h1
          · generalize inRange _ _ = cc at h1
            cases cc with
            | false => simp at h1
            | true => simp only [cond_true] at h1; injection h1 with h1; subst h1; exact Fine.pure _ _
          · cases h1
        · cases h1
      · cases h1
    · cases h1
  · split at h1
    · unfold aindex at h1
      split at h1
      · split at h1
        · split at h1
          · generalize inRange _ _ = cc at h1
            cases cc with
            | false => simp at h1
            | true => simp only [cond_true] at h1; exact Fine.map h1
          · cases h1
        · cases h1
      · cases h1
    · cases h1
  · split at h1
    · rename_i hx _; exact alookup_fine h1 (hr _ _ hx)
    · cases h1
  · split at h1
    · rename_i hx _ _; exact amapUpdate_fine h1 (hr _ _ hx)
    · cases h1
  · split at h1
    · rename_i hx _ _; exact amapUpdate_fine h1 (hr _ _ hx)
    · cases h1
  · rename_i x xt t ok
    split at h1
    · split at h1
      · cases h1
      · generalize Nat.beq _ _ = cc at h1
        cases cc with
        | true => simp only [cond_true] at h1; injection h1 with h1; subst h1; exact Fine.pure _ _
        | false =>
          cases ok with
          | false => simp at h1
          | true => simp only [cond_false, cond_true] at h1; injection h1 with h1; subst h1; exact Fine.pure _ _
    · split at h1
      · cases h1
      · cases ok with
        | false => simp at h1
        | true => simp only [cond_true] at h1; injection h1 with h1; subst h1; exact Fine.pure _ _
    · cases h1
  · split at h1
    · exact Fine.map h1
    · cases h1
  · split at h1
    · rename_i hxs; exact abuiltin_fine h1 (evs_refd hr hxs)
    · cases h1
  · cases h1
end
end Go.Ai
end

section
namespace Go.Ai
open Go

theorem Heap.get_sets_other : ∀ (l : List (Nat × AO)) (h : Heap) (b : Nat), (∀ p ∈ l, p.1 < h.nx) → b ∉ l.map (·.1) → (h.sets l).get b = h.get b
  | [], _, _, _, _ => rfl
  | (x, o) :: l, h, b, hl, hb => by
    simp only [Heap.sets_cons]
    simp at hb
    rw [Heap.get_sets_other l (h.set x o) b (fun p hp => hl p (by simp [hp])) (by simpa using hb.2), Heap.get_set _ _ _ _ (hl (x, o) (by simp)), if_neg hb.1]

theorem Heap.get_sets_same : ∀ (l : List (Nat × AO)) (h h' : Heap) (b : Nat), h.nx = h'.nx → (∀ p ∈ l, p.1 < h.nx) → (b ∈ l.map (·.1) ∨ h.get b = h'.get b) → (h.sets l).get b = (h'.sets l).get b
  | [], _, _, _, _, _, hb => by
    rcases hb with hb | hb
    · cases hb
    · exact hb
  | (x, o) :: l, h, h', b, hn, hl, hb => by
    simp only [Heap.sets_cons]
    refine Heap.get_sets_same l (h.set x o) (h'.set x o) b hn (fun p hp => hl p (by simp [hp])) ?_
    have hx := hl (x, o) (by simp)
    rw [Heap.get_set _ _ _ _ hx, Heap.get_set _ _ _ _ (by omega)]
    by_cases e : b = x
    · rw [if_pos e, if_pos e]; exact .inr rfl
    · rw [if_neg e, if_neg e]
      rcases hb with hb | hb
      · simp at hb
        rcases hb with hb | hb
        · exact absurd hb e
        · exact .inl (by simpa using hb)
      · exact .inr hb

theorem Heap.get_pushes_old : ∀ (l : List AO) (h : Heap) (b : Nat), b < h.nx → (h.pushes l).get b = h.get b
  | [], _, _, _ => rfl
  | o :: l, h, b, hb => by
    simp only [Heap.pushes_cons]
    rw [Heap.get_pushes_old l _ b (by simp; omega), Heap.get_push, if_neg (by omega)]

theorem Heap.get_pushes_same : ∀ (l : List AO) (h h' : Heap) (b : Nat), h.nx = h'.nx → (b < h.nx → h.get b = h'.get b) → (h.pushes l).get b = (h'.pushes l).get b
  | [], h, h', b, hn, hb => by
    simp only [Heap.pushes_nil]
    by_cases k : b < h.nx
    · exact hb k
    · rw [Heap.get_def, Heap.get_def, if_neg k, if_neg (by omega)]
  | o :: l, h, h', b, hn, hb => by
    simp only [Heap.pushes_cons]
    refine Heap.get_pushes_same l _ _ b (by simp [hn]) (fun hk => ?_)
    rw [Heap.get_push, Heap.get_push, hn]
    by_cases e : b = h'.nx
    · rw [if_pos e, if_pos e]
    · rw [if_neg e, if_neg e]
      exact hb (by simp at hk; omega)

theorem apply_other {h : Heap} {o : Out} (hu : ∀ p ∈ o.up, p.1 < h.nx) {b : Nat} (hb : b < h.nx) (hn : b ∉ o.up.map (·.1)) : (h.apply o).get b = h.get b := by
  unfold Heap.apply
  rw [Heap.get_pushes_old _ _ _ (by rw [Heap.nx_sets]; exact hb), Heap.get_sets_other _ _ _ hu hn]
theorem apply_same {h h' : Heap} {o : Out} (hn : h.nx = h'.nx) (hu : ∀ p ∈ o.up, p.1 < h.nx) {b : Nat} (hb : b ∈ o.up.map (·.1) ∨ h.nx ≤ b) : (h.apply o).get b = (h'.apply o).get b := by
  unfold Heap.apply
  refine Heap.get_pushes_same _ _ _ _ (by rw [Heap.nx_sets, Heap.nx_sets, hn]) (fun hk => ?_)
  rw [Heap.nx_sets] at hk
  rcases hb with hb | hb
  · exact Heap.get_sets_same _ _ _ _ hn hu (.inl hb)
  · omega
theorem apply_nx (h : Heap) (o : Out) : (h.apply o).nx = h.nx + o.nw.length := by
  unfold Heap.apply; rw [Heap.nx_pushes, Heap.nx_sets]

theorem HExt.sets : ∀ (l : List (Nat × AO)) (h : Heap), (∀ p ∈ l, p.1 < h.nx) → HExt h (h.sets l)
  | [], h, _ => HExt.refl h
  | (x, o) :: l, h, hl => (HExt.set o (hl (x, o) (by simp))).trans (HExt.sets l _ (fun p hp => hl p (by simp [hp])))
theorem HExt.pushes : ∀ (l : List AO) (h : Heap), HExt h (h.pushes l)
  | [], h => HExt.refl h
  | o :: l, h => (HExt.push h o).trans (HExt.pushes l _)
theorem HExt.apply {h : Heap} {o : Out} (hu : ∀ p ∈ o.up, p.1 < h.nx) : HExt h (h.apply o) := (HExt.sets _ _ hu).trans (HExt.pushes _ _)

theorem HExt.of_lo {h h' : Heap} (x : HExt { h with lo := h.nx } h') : HExt h { h' with lo := bif Nat.ble h.lo h'.lo then h.lo else h'.lo } := by
  obtain ⟨a, b, c⟩ := x
  have hlo : (bif Nat.ble h.lo h'.lo then h.lo else h'.lo) = min h.lo h'.lo := by
    by_cases k : h.lo ≤ h'.lo
    · rw [bleT.2 k]; simp; omega
    · rw [bleF.2 (by omega)]; simp; omega
  refine ⟨a, by show (bif _ then _ else _) ≤ _; rw [hlo]; omega, fun y hy hl => ?_⟩
  have hl' : y < min h.lo h'.lo := by rw [← hlo]; exact hl
  exact c y hy (by omega)

def KExt (K : Caller) : Prop := ∀ req h r h', K req h = some (r, h') → HExt h h'

section
variable {T : Types} {F : Funcs} {K : Caller}

theorem aop_lt {e : Env} {h : Heap} {op : Op} {out : Out} (h1 : aop T h.get h.nx e op = some out) : ∀ p ∈ out.up, p.1 < h.nx := by
  intro p hp
  obtain ⟨x, hx, _⟩ := (aop_fine (β := fun _ => some ⟨0, 0, 0, 0, false⟩) h1 (fun x v _ => Refd.any v)).1 p hp
  exact Heap.get_lt hx

theorem xop_ext (hK : KExt K) {e : Env} {h h' : Heap} {o : Oper} {r : Res} {f : FP} (h1 : xop T K e h o = some (r, h', f)) : HExt h h' := by
  unfold xop at h1
  split at h1
  · split at h1
    · split at h1
      · rename_i r' h2 hk
        injection h1 with h1; cases h1
        exact HExt.of_lo (hK _ _ _ _ hk)
      · cases h1
    · cases h1
  · split at h1
    · split at h1
      · injection h1 with h1; cases h1; exact HExt.refl _
      · cases h1
    · split at h1
      · rename_i out ho
        injection h1 with h1; cases h1
        exact HExt.apply (aop_lt ho)
      · cases h1

theorem xops_ext (hK : KExt K) {rnd : Option Nat} {all : List Oper} : ∀ {l : List Oper} {e e' : Env} {ds ds' : List ADef} {h h' : Heap} {p : Option AV}, xops T K rnd all l e ds h = some (p, e', ds', h') → HExt h h'
  | [], e, e', ds, ds', h, h', p, h1 => by simp only [xops_nil, xops_cons] at h1; injection h1 with h1; cases h1; exact HExt.refl _
  | o :: l, e, e', ds, ds', h, h', p, h1 => by
    simp only [xops_nil, xops_cons] at h1
    split at h1
    · cases h1
    · split at h1
      · exact xops_ext hK h1
      · cases h1
    · split at h1
      · split at h1
        · exact xops_ext hK h1
        · cases h1
      · split at h1
        · cases h1
        · rename_i hx; injection h1 with h1; cases h1; exact xop_ext hK hx
        · rename_i hx
          split at h1
          · exact (xop_ext hK hx).trans (xops_ext hK h1)
          · cases h1

theorem xopsD_ext (hK : KExt K) {all : List Oper} {e0 : Env} : ∀ {l : List Oper} {frs : List (List Nat)} {ms : List Nat} {n : Nat} {fs : List FP} {e e' : Env} {h h' : Heap} {p : Option AV}, xopsD T K all e0 l frs ms n fs e h = some (p, e', h') → HExt h h'
  | [], frs, ms, n, fs, e, e', h, h', p, h1 => by simp only [xopsD] at h1; injection h1 with h1; cases h1; exact HExt.refl _
  | o :: l, [], ms, n, fs, e, e', h, h', p, h1 => by simp [xopsD] at h1
  | o :: l, fr :: frs, ms, n, fs, e, e', h, h', p, h1 => by
    simp only [xopsD] at h1
    split at h1
    · cases h1
    · split at h1
      · exact xopsD_ext hK h1
      · cases h1
    · split at h1
      · cases h1
      · rename_i x h2 f hx
        have hx' := xop_ext hK hx
        generalize clashes fs n f fr = cc at h1
        cases cc with
        | true => simp at h1
        | false =>
          simp only [cond_false] at h1
          split at h1
          · generalize List.all _ _ = cc at h1
            cases cc with
            | false => simp at h1
            | true => simp only [cond_true] at h1; injection h1 with h1; cases h1; exact hx'
          · split at h1
            · exact hx'.trans (xopsD_ext hK h1)
            · cases h1

theorem iter_ext {f : S → Option (AX × S)} (hf : ∀ s x s', f s = some (x, s') → HExt s.heap s'.heap) : ∀ (n : Nat) (s : S) (x : AX) (s' : S), iter f n s = some (x, s') → HExt s.heap s'.heap
  | 0, _, _, _, h1 => by simp [iter] at h1
  | n + 1, s, x, s', h1 => by
    simp only [iter] at h1
    split at h1
    · rename_i s1 hs1
      exact (hf _ _ _ hs1).trans (iter_ext hf n s1 x s' h1)
    · exact hf _ _ _ h1

theorem getLoop_some {h : Heap} {l : Nat} {r : ALoop} (h1 : getLoop h l = some r) : h.get l = some (.loop r) := by
  unfold getLoop at h1
  split at h1
  · rename_i r' hr; injection h1 with h1; subst h1; exact hr
  · cases h1

theorem aenter_ext {rnd : Option Nat} {fid : Nat} {e : Env} {ps : List Nat} {a b : Code} {h h' : Heap} {l : Nat} {m : List ADef} (h1 : aenter rnd fid e ps a b h = some (l, m, h')) : HExt h h' := by
  unfold aenter at h1
  split at h1
  · split at h1
    · injection h1 with h1; cases h1; exact HExt.push _ _
    · cases h1
  · injection h1 with h1; cases h1; exact (HExt.push _ _).trans (HExt.push _ _)

theorem aleave_ext {s s' : S} {ds : List ADef} {l : Nat} {h : Heap} {x : AX} (h1 : aleave s ds l h = some (x, s')) : HExt h s'.heap := by
  unfold aleave at h1
  split at h1
  · rename_i r hr
    have hl := Heap.get_lt (getLoop_some hr)
    split at h1
    · cases h1
    · split at h1 <;> first
        | (injection h1 with h1; cases h1; exact HExt.set _ hl)
        | (cases h1; done)
  · cases h1

theorem xcode_ext (hK : KExt K) {rnd : Option Nat} {fid k : Nat} : ∀ (c : Code) (s : S) (x : AX) (s' : S), xcode T K rnd fid k c s = some (x, s') → HExt s.heap s'.heap := by
  intro c
  induction c with
  | skip => intro s x s' h1; simp only [xcode_skip, xcode_label, xcode_goto, xcode_refuse, xcode_exit, xcode_ret, xcode_scope, xcode_regF, xcode_regT, xcode_seq, xcode_cond, xcode_block, xcode_loop, xcode_range] at h1; injection h1 with h1; cases h1; exact HExt.refl _
  | label l => intro s x s' h1; simp only [xcode_skip, xcode_label, xcode_goto, xcode_refuse, xcode_exit, xcode_ret, xcode_scope, xcode_regF, xcode_regT, xcode_seq, xcode_cond, xcode_block, xcode_loop, xcode_range] at h1; injection h1 with h1; cases h1; exact HExt.refl _
  | goto l => intro s x s' h1; simp [xcode_skip, xcode_label, xcode_goto, xcode_refuse, xcode_exit, xcode_ret, xcode_scope, xcode_regF, xcode_regT, xcode_seq, xcode_cond, xcode_block, xcode_loop, xcode_range] at h1
  | refuse y => intro s x s' h1; simp [xcode_skip, xcode_label, xcode_goto, xcode_refuse, xcode_exit, xcode_ret, xcode_scope, xcode_regF, xcode_regT, xcode_seq, xcode_cond, xcode_block, xcode_loop, xcode_range] at h1
  | exit id => intro s x s' h1; simp only [xcode_skip, xcode_label, xcode_goto, xcode_refuse, xcode_exit, xcode_ret, xcode_scope, xcode_regF, xcode_regT, xcode_seq, xcode_cond, xcode_block, xcode_loop, xcode_range] at h1; injection h1 with h1; cases h1; exact HExt.refl _
  | ret => intro s x s' h1; simp only [xcode_skip, xcode_label, xcode_goto, xcode_refuse, xcode_exit, xcode_ret, xcode_scope, xcode_regF, xcode_regT, xcode_seq, xcode_cond, xcode_block, xcode_loop, xcode_range] at h1; injection h1 with h1; cases h1; exact HExt.refl _
  | scope c ih => intro s x s' h1; simp only [xcode_skip, xcode_label, xcode_goto, xcode_refuse, xcode_exit, xcode_ret, xcode_scope, xcode_regF, xcode_regT, xcode_seq, xcode_cond, xcode_block, xcode_loop, xcode_range] at h1; exact ih _ _ _ h1
  | region id ops draw =>
    intro s x s' h1
    cases draw with
    | false =>
      simp only [xcode_skip, xcode_label, xcode_goto, xcode_refuse, xcode_exit, xcode_ret, xcode_scope, xcode_regF, xcode_regT, xcode_seq, xcode_cond, xcode_block, xcode_loop, xcode_range] at h1
      cases hx : xops T K rnd ops.toList ops.toList s.env s.defs s.heap with
      | none => rw [hx] at h1; simp [ofOps] at h1
      | some y =>
        obtain ⟨p, e', ds', h'⟩ := y
        rw [hx] at h1
        have := xops_ext hK hx
        cases p <;> simp only [ofOps] at h1 <;> (injection h1 with h1; cases h1; exact this)
    | true =>
      simp only [xcode_skip, xcode_label, xcode_goto, xcode_refuse, xcode_exit, xcode_ret, xcode_scope, xcode_regF, xcode_regT, xcode_seq, xcode_cond, xcode_block, xcode_loop, xcode_range] at h1
      split at h1
      · rename_i ms fr hfr
        generalize hx : xopsD T K ops.toList s.env ops.toList fr ms 0 [] s.env s.heap = y at h1
        cases y with
        | none => simp [ofOpsD] at h1
        | some y =>
          obtain ⟨p, e', h'⟩ := y
          have := xopsD_ext hK hx
          cases p <;> simp only [ofOpsD] at h1 <;> (injection h1 with h1; cases h1; exact this)
      · cases h1
  | seq a b iha ihb =>
    intro s x s' h1
    simp only [xcode_skip, xcode_label, xcode_goto, xcode_refuse, xcode_exit, xcode_ret, xcode_scope, xcode_regF, xcode_regT, xcode_seq, xcode_cond, xcode_block, xcode_loop, xcode_range] at h1
    split at h1
    · rename_i s1 hs1; exact (iha _ _ _ hs1).trans (ihb _ _ _ h1)
    · exact iha _ _ _ h1
  | cond c a b iha ihb =>
    intro s x s' h1
    simp only [xcode_skip, xcode_label, xcode_goto, xcode_refuse, xcode_exit, xcode_ret, xcode_scope, xcode_regF, xcode_regT, xcode_seq, xcode_cond, xcode_block, xcode_loop, xcode_range] at h1
    split at h1
    · rename_i t _
      cases t with
      | true => exact iha _ _ _ h1
      | false => exact ihb _ _ _ h1
    · cases h1
  | block id c ih =>
    intro s x s' h1
    simp only [xcode_skip, xcode_label, xcode_goto, xcode_refuse, xcode_exit, xcode_ret, xcode_scope, xcode_regF, xcode_regT, xcode_seq, xcode_cond, xcode_block, xcode_loop, xcode_range] at h1
    split at h1
    · rename_i i s1 hs1
      generalize Nat.beq i id = cc at h1
      cases cc <;> (simp at h1; obtain ⟨_, rfl⟩ := h1; exact ih _ _ _ hs1)
    · exact ih _ _ _ h1
  | loop c ih => intro s x s' h1; simp only [xcode_skip, xcode_label, xcode_goto, xcode_refuse, xcode_exit, xcode_ret, xcode_scope, xcode_regF, xcode_regT, xcode_seq, xcode_cond, xcode_block, xcode_loop, xcode_range] at h1; exact iter_ext ih k s x s' h1
  | rangeFunc g ps a b iha ihb =>
    intro s x s' h1
    simp only [xcode_skip, xcode_label, xcode_goto, xcode_refuse, xcode_exit, xcode_ret, xcode_scope, xcode_regF, xcode_regT, xcode_seq, xcode_cond, xcode_block, xcode_loop, xcode_range] at h1
    split at h1
    · split at h1
      · rename_i l mark h2 he
        have hx := aenter_ext he
        split at h1
        · rename_i v h3 hk; exact hx.trans ((hK _ _ _ _ hk).trans (aleave_ext h1))
        · rename_i v h3 hk; injection h1 with h1; cases h1; exact hx.trans (hK _ _ _ _ hk)
        · cases h1
      · cases h1
    · cases h1

theorem xopsS_ext {all : List Oper} : ∀ {l : List Oper} {s s' : SD} {p : Option AV}, xopsS T all l s = some (p, s') → HExt s.heap s'.heap
  | [], s, s', p, h1 => by simp only [xopsS] at h1; injection h1 with h1; cases h1; exact HExt.refl _
  | o :: l, s, s', p, h1 => by
    simp only [xopsS] at h1
    split at h1
    · cases h1
    · split at h1
      · have h2 := xopsS_ext h1; exact h2
      · cases h1
    · generalize isRecover o.op = cc at h1
      cases cc with
      | true =>
        simp only [cond_true] at h1
        split at h1
        · split at h1
          · have h2 := xopsS_ext h1; exact h2
          · cases h1
        · split at h1
          · have h2 := xopsS_ext h1; exact h2
          · cases h1
      | false =>
        simp only [cond_false] at h1
        split at h1
        · rename_i out ho
          split at h1
          · have h2 := xopsS_ext h1; exact (HExt.apply (aop_lt ho)).trans h2
          · cases h1
        · cases h1

theorem xcodeS_ext : ∀ (c : Code) (s : SD) (x : AX) (s' : SD), xcodeS T c s = some (x, s') → HExt s.heap s'.heap := by
  intro c
  induction c with
  | skip => intro s x s' h1; simp only [xcodeS] at h1; injection h1 with h1; cases h1; exact HExt.refl _
  | region id ops draw =>
    intro s x s' h1
    cases draw with
    | false =>
      simp only [xcodeS] at h1
      split at h1
      · rename_i s1 hs1; injection h1 with h1; cases h1; exact xopsS_ext hs1
      · cases h1
    | true => simp [xcodeS] at h1
  | seq a b iha ihb =>
    intro s x s' h1
    simp only [xcodeS] at h1
    split at h1
    · rename_i s1 hs1; exact (iha _ _ _ hs1).trans (ihb _ _ _ h1)
    · exact iha _ _ _ h1
  | cond c a b iha ihb =>
    intro s x s' h1
    simp only [xcodeS] at h1
    split at h1
    · rename_i t _
      cases t with
      | true => exact iha _ _ _ h1
      | false => exact ihb _ _ _ h1
    · cases h1
  | _ => intro s x s' h1; simp [xcodeS] at h1

theorem closeDefs_ext : ∀ {ds : List ADef} {u u' : DM} {h h' : Heap}, closeDefs T F ds u h = some (u', h') → HExt h h'
  | [], u, u', h, h', h1 => by simp only [closeDefs] at h1; injection h1 with h1; cases h1; exact HExt.refl _
  | .mark b :: ds, u, u', h, h', h1 => by
    simp only [closeDefs] at h1
    split at h1
    · rename_i hb; exact (HExt.set _ (Heap.get_lt hb)).trans (closeDefs_ext h1)
    · cases h1
  | .call f args :: ds, u, u', h, h', h1 => by
    simp only [closeDefs] at h1
    split at h1
    · split at h1
      · split at h1
        · rename_i s hs
          generalize List.isEmpty _ = cc at h1
          cases cc with
          | false => simp at h1
          | true => simp only [cond_true] at h1; exact (xcodeS_ext _ _ _ _ hs).trans (closeDefs_ext h1)
        · cases h1
      · cases h1
    · cases h1

theorem afunc_ext (hK : KExt K) {k f : Nat} {args : List AV} {h h' : Heap} {r : Res} (h1 : afunc T F K k f args h = some (r, h')) : HExt h h' := by
  unfold afunc at h1
  split at h1
  · split at h1
    · split at h1
      · rename_i x s hs
        have e1 := xcode_ext hK _ _ _ _ hs
        split at h1
        · split at h1
          · rename_i h2 hc
            obtain ⟨v, _, he⟩ := Option.map_eq_some_iff.1 h1
            cases he
            exact e1.trans (closeDefs_ext hc)
          · rename_i v h2 hc
            injection h1 with h1; cases h1
            exact e1.trans (closeDefs_ext hc)
          · cases h1
        · cases h1
      · cases h1
    · cases h1
  · cases h1

theorem aend_ext {l : Nat} {h h' : Heap} {st : LState} {pd : Option Code} {v : AV} {r : Res} (h1 : aend l h st pd v = some (r, h')) : HExt h h' := by
  unfold aend at h1
  split at h1
  · rename_i hl; injection h1 with h1; cases h1; exact HExt.set _ (Heap.get_lt (getLoop_some hl))
  · cases h1

theorem around_ext (hK : KExt K) {k l : Nat} {args : List AV} {h h' : Heap} {r : Res} (h1 : around T K k l args h = some (r, h')) : HExt h h' := by
  unfold around at h1
  split at h1
  · cases h1
  · split at h1
    · cases h1
    · split at h1
      · rename_i e1 hh1 hx
        have x1 := xcode_ext hK _ _ _ _ hx
        split at h1
        · rename_i r1 hr1
          have x2 := HExt.set (.loop { r1 with state := .busy }) (Heap.get_lt (getLoop_some hr1))
          split at h1
          · split at h1
            · rename_i hy; exact x1.trans (x2.trans ((xcode_ext hK _ _ _ _ hy).trans (aend_ext h1)))
            · rename_i hy; exact x1.trans (x2.trans ((xcode_ext hK _ _ _ _ hy).trans (aend_ext h1)))
            · rename_i hy; exact x1.trans (x2.trans ((xcode_ext hK _ _ _ _ hy).trans (aend_ext h1)))
            · cases h1
          · cases h1
        · cases h1
      · cases h1

theorem acall_ext : ∀ (k : Nat), KExt (acall T F k)
  | 0 => fun req h r h' h1 => by cases req <;> simp [acall] at h1
  | k + 1 => fun req h r h' h1 => by
    cases req with
    | func f args => simp only [acall] at h1; exact afunc_ext (acall_ext k) h1
    | round l args => simp only [acall] at h1; exact around_ext (acall_ext k) h1

end
end Go.Ai
end
