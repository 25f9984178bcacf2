/- AiOpE AiOpF AiOpG AiOpH -/
import Derived.Test.YthgkkbaaedefhaaAiOpA
import Derived.Laws.Build
set_option linter.unusedVariables false
set_option linter.unusedSimpArgs false
section
namespace Go.Ai
open Go

section
variable {P : Program} {T : Types} {F : Funcs} {G : Nat} {β : Bm} {h : Heap} {w : World}

theorem run_append_in {ts tx ty e e2 : TypeId} (ht : P.underlying ts = some (.slice e)) (hx : P.underlying tx = some (.slice e2)) {size : Nat} (hs : ∀ w, (sizeOf e).run P w = .ok size w)
    {base : Option Addr} {sLen sCap n : Nat} {v : Value} {news : List Value} (hlen : ∀ w, (Builtin.lenOf v).run P w = .ok n w) (hnew : (Builtin.firstCells size n v).run P w = .ok news.toArray w) (hle : sLen + n ≤ sCap) :
    (Builtin.append_ #[ts, tx] ty #[.slice base sLen sCap, v]).run P w =
      ((match base with | some a => storeCells (a.add (sLen * size)) news | none => pure ()).run P w).andThen fun _ w' => .ok (.slice base (sLen + n) sCap) w' := by
  cases base <;> simp [Builtin.append_, run_underlying ht, run_underlying hx, hs, hlen, hnew, hle]

theorem run_append_out {ts tx ty e e2 : TypeId} (ht : P.underlying ts = some (.slice e)) (hx : P.underlying tx = some (.slice e2)) {size : Nat} (hs : ∀ w, (sizeOf e).run P w = .ok size w)
    {i : TypeInfo} (hi : P.info? e = some i) {z : Value} (hz : ∀ w, (zeroValue e).run P w = .ok z w)
    {base : Option Addr} {sLen sCap n : Nat} {v : Value} {news olds : List Value} (hlen : ∀ w, (Builtin.lenOf v).run P w = .ok n w)
    (hnew : (Builtin.firstCells size n v).run P (dr w (w.drawn + 1)) = .ok news.toArray (dr w (w.drawn + 1)))
    (hold : (Builtin.firstCells size sLen (.slice base sLen sCap)).run P (dr w (w.drawn + 1)) = .ok olds.toArray (dr w (w.drawn + 1)))
    (hgt : sCap < sLen + n) (h63 : ((sLen + n : Nat) : Int) ≤ 9223372036854775807) (hfit : Builtin.nextslicecap (sLen + n) sCap * i.bytes ≤ 281474976710656) :
    ∃ cap, sLen + n ≤ cap ∧ (Builtin.append_ #[ts, tx] ty #[.slice base sLen sCap, v]).run P w =
      .ok (.slice (some ⟨w.heap.size, 0, none⟩) (sLen + n) cap) (pushed (dr w (w.drawn + 1)) (.cells (olds.toArray ++ news.toArray ++ Builtin.zeroCells z.cells (cap - (sLen + n))) e)) := by
  refine ⟨grownCap w (sLen + n) sCap e, grownCap_ge w _ _ _, ?_⟩
  have hn : ¬ (sLen + n ≤ sCap) := by omega
  have h63' : ¬ (9223372036854775807 < ((sLen : Int) + (n : Int))) := by omega
  have h48' : ¬ (281474976710656 < Builtin.nextslicecap (sLen + n) sCap * i.bytes) := by omega
  have hti : ∀ w, (typeInfo e).run P w = .ok i w := fun w => by simp [typeInfo, hi]
  have hdr : w.drew = dr w (w.drawn + 1) := rfl
  simp [Builtin.append_, run_underlying ht, run_underlying hx, hs, hlen, hn, h63', h48', hti, Question.forced, hdr, hnew, hold, hz, newRow, grownCap]
  refine ⟨rfl, ?_⟩
  show (dr w (w.drawn + 1)).alloc _ = _
  have hap : olds.toArray ++ news.toArray = (olds ++ news).toArray := by simp
  rw [← Array.append_assoc, hap]
  rfl

theorem srcCells_ok (r : Rel G β h w) {size n : Nat} {s : AV} {v : Value} {xs : List AV} {rd : List Nat} (h1 : srcCells h.get size s = some (n, xs, rd)) (hv : VR β s v) :
    ∃ news : List Value, VRs β xs news ∧ xs.length = n * size ∧ (∀ w, (Builtin.lenOf v).run P w = .ok n w) ∧ ∀ d, (Builtin.firstCells size n v).run P (dr w d) = .ok news.toArray (dr w d) := by
  unfold srcCells at h1
  split at h1
  · injection h1 with h1; cases h1; cases hv
    exact ⟨[], VRs.nil, by simp, fun w => rfl, fun d => rfl⟩
  · injection h1 with h1; cases h1
    obtain ⟨a, c, rfl⟩ := hv
    refine ⟨[], VRs.nil, by simp, fun w => rfl, fun d => ?_⟩
    simp [Builtin.firstCells, loadCells, loadCellsFrom]
  · rename_i b o l c ex
    obtain ⟨i, cc, hb, rfl, hlc, hcc, hex, hfit⟩ := hv
    by_cases hl0 : l = 0
    · subst hl0
      rw [beqT.2 rfl] at h1
      simp only [cond_true] at h1
      injection h1 with h1; cases h1
      refine ⟨[], VRs.nil, by simp, fun w => rfl, fun d => ?_⟩
      simp [Builtin.firstCells, loadCells, loadCellsFrom]
    · rw [beqF.2 hl0] at h1
      simp only [cond_false] at h1
      split at h1
      · rename_i own es vs hg
        obtain ⟨ys, hcut, he⟩ := Option.map_eq_some_iff.1 h1
        injection he with e1 e2
        injection e2 with e2 e3
        subst e1; subst e2; subst e3
        obtain ⟨hle, rfl⟩ := cut_some hcut
        obtain ⟨_, _, arr, el, fr, hc, _, hget⟩ := r.obj b i _ hb hg
        obtain ⟨l', e, x, hlen, hl'⟩ := load_cells (P := P) (w := w) hc hget (o := o) (n := l * size) hle
        refine ⟨l', x, by simp; omega, fun w => rfl, fun d => ?_⟩
        obtain ⟨l2, e', _, _, hl2⟩ := load_cells (P := P) (w := dr w d) hc hget (o := o) (n := l * size) hle
        simp only [Builtin.firstCells, e', hl', hl2]
      · cases h1
  · cases h1

theorem bnotF {a : Bool} : (!a) = false ↔ a = true := by cases a <;> simp
theorem bnotT {a : Bool} : (!a) = true ↔ a = false := by cases a <;> simp

/-- A slice that grows into a new block. -/
theorem grown_new (r : Rel G β h w) (hf : β h.nx = none) {es n cap : Nat} {vs : List AV} {cells rest : List Value} {arr : Array Value} {el : TypeId} (hl : VRs β vs cells) (harr : arr.toList = cells ++ rest)
    (hlen : cells.length = n * es) (hsz : arr.size = cap * es) (hcap : n ≤ cap) (d : Nat) :
    VR (β.upd h.nx ⟨w.heap.size, 0, arr.size, es, true⟩) (.slice h.nx 0 n n false) (.slice (some ⟨w.heap.size, 0, none⟩) n cap) ∧
    To G β h w (β.upd h.nx ⟨w.heap.size, 0, arr.size, es, true⟩) (h.push (.cells true es vs)) (pushed (dr w d) (.cells arr el)) := by
  have hvl := hl.length
  refine ⟨⟨_, cap, Bm.upd_same _ _ _, rfl, Nat.le_refl _, hcap, fun hh => (by cases hh), fun _ => ?_⟩, new_cells r hf ?_ d⟩
  · simp [hsz]
  · rw [harr, hvl, List.take_left]; exact hl

theorem aappend_ok (hT : TOk P T F) (r : Rel G β h w) {ts tx ty : Nat} {d s : AV} {u v : Value} {o : Out} (h1 : aappend T h.get h.nx ts tx d s = some o) (hd : VR β d u) (hs : VR β s v) (hf : o.nw ≠ [] → β h.nx = none) :
    GoodV P G β h w (h.apply o) o.v (Builtin.append_ #[ts, tx] ty #[u, v]) := by
  unfold aappend at h1
  split at h1
  · rename_i ei e2i hel hel2
    obtain ⟨e, hu, he⟩ := elem_row hT hel
    obtain ⟨e2, hu2, _⟩ := elem_row hT hel2
    obtain ⟨i, hi, his, hib, _⟩ := (hT.row _ _ he).info
    obtain ⟨z, hz, hzv⟩ := run_zero hT he
    have hsize := fun w => run_size hT he w
    cases hc : ei.okElem with
    | false => rw [hc] at h1; simp at h1
    | true =>
      rw [hc] at h1
      simp only [Bool.not_true, cond_false] at h1
      unfold TI.okElem at hc
      rw [bandT, bandT] at hc
      have c1 := bltT.1 hc.1.1
      have c2 := bleT.1 hc.1.2
      have hzs : z.cells.size = ei.size := by
        have := hc.2
        split at this
        · rename_i zl hzl
          have := beqT.1 this
          rw [← this, (cells_ok hzl (hzv β)).length]; simp
        · cases this
      split at h1
      · cases h1
      · rename_i n xs rd hsrc
        obtain ⟨news, hnews, hxl, hlen, hfirst⟩ := srcCells_ok (P := P) r hsrc hs
        have hnl : news.length = n * ei.size := by rw [← hnews.length, hxl]
        cases hall : xs.all AV.isCell with
        | false => rw [hall] at h1; simp at h1
        | true =>
          rw [hall] at h1
          simp only [Bool.not_true, cond_false] at h1
          have hfirst0 : (Builtin.firstCells ei.size n v).run P w = .ok news.toArray w := hfirst w.drawn
          have hbytes : ∀ m, m ≤ small → m * i.bytes ≤ 140737488355328 := by
            intro m hm
            rw [hib]
            have h2 : m * ei.bytes ≤ 2147483648 * 65536 := Nat.mul_le_mul (by unfold small at hm; omega) c2
            omega
          have hsm : small = 2147483648 := by decide
          split at h1
          · -- onto nil
            cases hd
            by_cases hn0 : n = 0
            · subst hn0
              rw [beqT.2 rfl] at h1
              simp only [cond_true] at h1
              injection h1 with h1; subst h1
              refine GoodV.same r (u := .slice none 0 0) ?_ rfl
              rw [run_append_in hu hu2 hsize hlen hfirst0 (by omega)]
              rfl
            · rw [beqF.2 hn0] at h1
              simp only [cond_false] at h1
              cases hsm2 : Nat.ble n small with
              | false => rw [hsm2] at h1; simp at h1
              | true =>
                rw [hsm2] at h1
                simp only [cond_true] at h1
                injection h1 with h1; subst h1
                have hf := hf (by simp)
                have hns := bleT.1 hsm2
                obtain ⟨cap, hcap, hrun⟩ := run_append_out (P := P) (w := w) (ty := ty) hu hu2 hsize hi hz (base := none) (sLen := 0) (sCap := 0) (news := news) (olds := []) hlen (hfirst _) rfl (by omega) (by omega) (by
                  have := growslice_fits (old := 0) (need := 0 + n) (bytes := i.bytes) (by omega) (hbytes _ (by omega))
                  exact this)
                simp only [Nat.zero_add] at hrun hcap
                obtain ⟨k1, k2⟩ := grown_new (G := G) (el := e) r hf (es := ei.size) (n := n) (cap := cap) (vs := xs) (cells := news) (rest := (Builtin.zeroCells z.cells (cap - n)).toList) (arr := (#[] ++ news.toArray ++ Builtin.zeroCells z.cells (cap - n))) hnews (by simp) hnl (by
                  simp [hnl, size_zeroCells, hzs, ← Nat.add_mul]; congr 1; omega) hcap (w.drawn + 1)
                exact ⟨_, _, _, hrun, k1, k2⟩
          · -- onto a slice
            rename_i b o' l c ex
            obtain ⟨bi, cc, hb, rfl, hlc, hcc, hex, hfit⟩ := hd
            by_cases hn0 : n = 0
            · subst hn0
              rw [beqT.2 rfl] at h1
              simp only [cond_true] at h1
              injection h1 with h1; subst h1
              have hnil : news = [] := List.length_eq_zero_iff.1 (by rw [hnl]; simp)
              subst hnil
              refine GoodV.same r ?_ ⟨bi, cc, hb, rfl, hlc, hcc, hex, hfit⟩
              rw [run_append_in hu hu2 hsize hlen hfirst0 (by omega)]
              rfl
            · rw [beqF.2 hn0] at h1
              simp only [cond_false] at h1
              cases hsm2 : Nat.ble (l + n) small with
              | false => rw [hsm2] at h1; simp at h1
              | true =>
                rw [hsm2] at h1
                simp only [Bool.not_true, cond_false] at h1
                have hns := bleT.1 hsm2
                split at h1
                · rename_i own es vs hblk
                  by_cases hroom : l + n ≤ c
                  · -- there is room
                    have hg : h.get b = some (.cells own es vs) := by
                      have : (ex && Nat.beq l 0 && Nat.blt c n) = false := by
                        have : Nat.blt c n = false := bltF.2 (by omega)
                        simp [this]
                      rw [this] at hblk; exact hblk
                    rw [bleT.2 hroom] at h1
                    simp only [cond_true] at h1
                    cases own with
                    | false => simp at h1
                    | true =>
                      simp only [cond_true] at h1
                      obtain ⟨vs', hov, rfl⟩ := Option.map_eq_some_iff.1 h1
                      obtain ⟨w', hw', hto⟩ := store_cells (P := P) r hb hg hnews hall hov
                      refine ⟨.slice (some ⟨bi.c, bi.base + o', none⟩) (l + n) cc, w', β, ?_, ⟨bi, cc, hb, rfl, hroom, hcc, hex, hfit⟩, hto⟩
                      rw [run_append_in hu hu2 hsize hlen hfirst0 (by omega)]
                      rw [← Nat.add_assoc] at hw'
                      simp only [add_none, hw', Result.andThen_ok]
                  · -- it grows
                    rw [bleF.2 (by omega)] at h1
                    simp only [cond_false] at h1
                    split at h1
                    · rename_i old hold
                      cases hob : (old.all AV.isCell && Nat.beq old.length (l * ei.size)) with
                      | false => rw [hob] at h1; simp at h1
                      | true =>
                        rw [hob] at h1
                        simp only [cond_true] at h1
                        rw [bandT] at hob
                        have hol := beqT.1 hob.2
                        -- the old cells
                        have holds : ∃ olds : List Value, VRs β old olds ∧ (∀ d, (Builtin.firstCells ei.size l (.slice (some ⟨bi.c, bi.base + o', none⟩) l cc)).run P (dr w d) = .ok olds.toArray (dr w d)) := by
                          by_cases hl0 : l = 0
                          · subst hl0
                            rw [beqT.2 rfl] at hold
                            simp only [cond_true] at hold
                            injection hold with hold; subst hold
                            exact ⟨[], VRs.nil, fun d => by simp [Builtin.firstCells, loadCells, loadCellsFrom]⟩
                          · have hg : h.get b = some (.cells own es vs) := by
                              have : (ex && Nat.beq l 0 && Nat.blt c n) = false := by
                                have : Nat.beq l 0 = false := beqF.2 hl0
                                simp [this]
                              rw [this] at hblk; exact hblk
                            rw [beqF.2 hl0] at hold
                            simp only [cond_false] at hold
                            have hsr : srcCells h.get ei.size (.slice b o' l c ex) = some (l, old, [b]) := by
                              simp [srcCells, beqF.2 hl0, hg, hold]
                            obtain ⟨olds, k1, _, _, k4⟩ := srcCells_ok (P := P) (v := .slice (some ⟨bi.c, bi.base + o', none⟩) l cc) r hsr ⟨bi, cc, hb, rfl, hlc, hcc, hex, hfit⟩
                            exact ⟨olds, k1, k4⟩
                        obtain ⟨olds, holds1, holds2⟩ := holds
                        have holl : olds.length = l * ei.size := by rw [← holds1.length, hol]
                        have hboth : VRs β (old ++ xs) (olds ++ news) := holds1.append hnews
                        have hbl : (olds ++ news).length = (l + n) * ei.size := by simp [holl, hnl, Nat.add_mul]
                        have grow : β h.nx = none → cc < l + n → ∃ cap u' w', (Builtin.append_ #[ts, tx] ty #[.slice (some ⟨bi.c, bi.base + o', none⟩) l cc, v]).run P w = .ok u' w' ∧
                            VR (β.upd h.nx ⟨w.heap.size, 0, cap, ei.size, true⟩) (.slice h.nx 0 (l + n) (l + n) false) u' ∧
                            To G β h w (β.upd h.nx ⟨w.heap.size, 0, cap, ei.size, true⟩) (h.push (.cells true ei.size (old ++ xs))) w' := by
                          intro hf hgt
                          obtain ⟨cap, hcap, hrun⟩ := run_append_out (P := P) (w := w) (ty := ty) hu hu2 hsize hi hz hlen (hfirst _) (holds2 _) hgt (by omega) (by
                            exact growslice_fits (old := cc) (need := l + n) (bytes := i.bytes) hgt (hbytes _ hns))
                          obtain ⟨k1, k2⟩ := grown_new (G := G) (el := e) r hf (es := ei.size) (n := l + n) (cap := cap) (vs := old ++ xs) (cells := olds ++ news) (rest := (Builtin.zeroCells z.cells (cap - (l + n))).toList) (arr := (olds.toArray ++ news.toArray ++ Builtin.zeroCells z.cells (cap - (l + n)))) hboth (by simp) hbl (by
                            simp [holl, hnl, size_zeroCells, hzs, ← Nat.add_mul]; congr 1; omega) hcap (w.drawn + 1)
                          exact ⟨_, _, _, hrun, k1, k2⟩
                        cases hexb : ex with
                        | true =>
                          rw [hexb] at h1
                          simp only [cond_true] at h1
                          injection h1 with h1; subst h1
                          have hf := hf (by simp)
                          obtain ⟨cap, u', w', g1, g2, g3⟩ := grow hf (by rw [hex hexb]; omega)
                          exact ⟨u', w', _, g1, g2, g3⟩
                        | false =>
                          rw [hexb] at h1
                          simp only [cond_false] at h1
                          cases hoe : (own && Nat.beq es ei.size) with
                          | false => rw [hoe] at h1; simp at h1
                          | true =>
                            rw [hoe] at h1
                            simp only [cond_true] at h1
                            injection h1 with h1; subst h1
                            have hf := hf (by simp)
                            rw [bandT] at hoe
                            have hown := hoe.1
                            subst hown
                            have hes := beqT.1 hoe.2
                            have hg : h.get b = some (.cells true es vs) := by rw [hexb] at hblk; exact hblk
                            obtain ⟨x1, x2, arr, el, fr, hc0, hfr, hvs⟩ := r.obj b bi _ hb hg
                            obtain ⟨rfl, hsz⟩ := hfr rfl
                            have hfit' := hfit x1
                            rw [x2, hes] at hfit'
                            have hbx : b ≠ h.nx := by have := Heap.get_lt hg; omega
                            -- the old block is given up
                            have hdead : To G β h w β (h.set b .dead) w := To.set r hb hg rfl rfl rfl rfl rfl (fun _ _ => rfl) trivial
                            have rdead := hdead.rel
                            by_cases hgt : cc < l + n
                            · obtain ⟨cap, hcap, hrun⟩ := run_append_out (P := P) (w := w) (ty := ty) hu hu2 hsize hi hz hlen (hfirst _) (holds2 _) hgt (by omega) (by
                                exact growslice_fits (old := cc) (need := l + n) (bytes := i.bytes) hgt (hbytes _ hns))
                              obtain ⟨k1, k2⟩ := grown_new (G := G) (el := e) rdead hf (es := ei.size) (n := l + n) (cap := cap) (vs := old ++ xs) (cells := olds ++ news) (rest := (Builtin.zeroCells z.cells (cap - (l + n))).toList) (arr := (olds.toArray ++ news.toArray ++ Builtin.zeroCells z.cells (cap - (l + n)))) hboth (by simp) hbl (by
                                simp [holl, hnl, size_zeroCells, hzs, ← Nat.add_mul]; congr 1; omega) hcap (w.drawn + 1)
                              exact ⟨_, _, _, hrun, k1, hdead.trans k2 r⟩
                            · -- in place
                              have hbig : bi.base + o' + (l + n) * ei.size ≤ arr.size := by
                                have : (l + n) * ei.size ≤ cc * ei.size := Nat.mul_le_mul_right _ (by omega)
                                omega
                              have hm : (l + n) * ei.size = l * ei.size + n * ei.size := Nat.add_mul _ _ _
                              have hst := run_storeCells_at (P := P) bi.c (bi.base + o' + l * ei.size) el news 0 arr w hc0 (by rw [hnl]; omega) (cells_one hall hnews)
                              have hrun : (Builtin.append_ #[ts, tx] ty #[.slice (some ⟨bi.c, bi.base + o', none⟩) l cc, v]).run P w =
                                  .ok (.slice (some ⟨bi.c, bi.base + o', none⟩) (l + n) cc) (w.setRow bi.c (arr.toList.take (bi.base + o' + l * ei.size + 0) ++ news ++ arr.toList.drop (bi.base + o' + l * ei.size + 0 + news.length)).toArray) := by
                                rw [run_append_in hu hu2 hsize hlen hfirst0 (by omega)]
                                simp only [add_none, hst, Result.andThen_ok]
                              -- what lies there now
                              have holdv : ∀ j u, olds[j]? = some u → arr[bi.base + o' + j]? = some u := by
                                have hf2 := holds2 w.drawn
                                by_cases hl0 : l = 0
                                · subst hl0
                                  have : olds = [] := List.length_eq_zero_iff.1 (by rw [holl]; simp)
                                  subst this; simp
                                · rw [beqF.2 hl0] at hold
                                  simp only [cond_false] at hold
                                  obtain ⟨hle, _⟩ := cut_some hold
                                  obtain ⟨l', e1, _, _, e4⟩ := load_cells (P := P) (w := dr w w.drawn) hc0 hvs (o := o') (n := l * ei.size) hle
                                  simp only [Builtin.firstCells, e1] at hf2
                                  injection hf2 with hf2
                                  have hf3 : l' = olds := by simpa using congrArg Array.toList hf2
                                  intro j u hj
                                  rw [← hf3, e4] at hj
                                  have hjl : j < l * ei.size := by
                                    have := (List.getElem?_eq_some_iff.1 hj).1
                                    simp at this; omega
                                  simpa [List.getElem?_take, hjl, List.getElem?_drop] using hj
                              have hget : ∀ j u, (olds ++ news)[j]? = some u → ((arr.toList.take (bi.base + o' + l * ei.size + 0) ++ news ++ arr.toList.drop (bi.base + o' + l * ei.size + 0 + news.length)).toArray)[bi.base + o' + j]? = some u := by
                                intro j u hj
                                rw [List.getElem?_toArray]
                                by_cases hjo : j < olds.length
                                · rw [List.getElem?_append_left hjo] at hj
                                  rw [List.getElem?_append_left (by simp; omega), List.getElem?_append_left (by simp; omega), List.getElem?_take, if_pos (by omega)]
                                  simpa using holdv j u hj
                                · rw [List.getElem?_append_right (by omega)] at hj
                                  have hjn := (List.getElem?_eq_some_iff.1 hj).1
                                  rw [List.getElem?_append_left (by simp; omega), List.getElem?_append_right (by simp; omega)]
                                  rw [← hj]; congr 1; simp; omega
                              have hmv := To.move (w' := w.setRow bi.c (arr.toList.take (bi.base + o' + l * ei.size + 0) ++ news ++ arr.toList.drop (bi.base + o' + l * ei.size + 0 + news.length)).toArray) (i' := ⟨bi.c, bi.base + o', arr.size, ei.size, true⟩) (o' := .cells true ei.size (old ++ xs)) r hf hb hg rfl rfl rfl rfl rfl (by simp) (fun c hne => setRow_other w bi.c c _ hne) (by
                                refine ⟨rfl, rfl, _, el, (0, 0), setRow_heap w bi.c arr _ el (0, 0) hc0, fun _ => ⟨rfl, ?_⟩, fun j a ha => ?_⟩
                                · simp; omega
                                · obtain ⟨u, hu', hv'⟩ := hboth.get j a ha
                                  exact ⟨u, hget j u hu', VR.mono (Bm.grow_upd _ hf).1 _ _ hv'⟩)
                              refine ⟨_, _, _, hrun, ⟨_, cc, Bm.upd_same _ _ _, by simp, Nat.le_refl _, by omega, fun hh => (by cases hh), fun _ => ?_⟩, hmv⟩
                              simp; omega
                    · cases h1
                · cases h1
          · cases h1
  · cases h1

end
end Go.Ai
end

section
namespace Go.Ai
open Go

section
variable {P : Program} {T : Types} {F : Funcs} {G : Nat} {β : Bm} {h : Heap} {w : World}

theorem keyCells_some (hT : TOk P T F) {t : Nat} {k : AV} {ks : List (Option IntKind)} {l : List AV} (h1 : keyCells T t k = some (ks, l)) : k = .agg l ∧ PlainP P t ks ∧ typed ks l = true ∧ ∃ d, P.underlying t = some d := by
  unfold keyCells at h1
  split at h1
  · rename_i l'
    split at h1
    · rename_i ti ht
      split at h1
      · rename_i ks' hk
        cases hty : typed ks' l' with
        | false => rw [hty] at h1; simp at h1
        | true =>
          rw [hty] at h1
          simp only [cond_true] at h1
          injection h1 with h1; injection h1 with h1 h2
          subst h1; subst h2
          obtain ⟨d, hd, _⟩ := (hT.row t ti ht).und
          exact ⟨rfl, (hT.row t ti ht).plain _ hk, hty, d, hd⟩
      · cases h1
    · cases h1
  · cases h1

theorem findAsking_ok {t : Nat} {ks : List (Option IntKind)} {l : List AV} {vs : Array Value} (hp : PlainP P t ks) (hk : VRs β l vs.toList) :
    ∀ {es : List (AV × AV)} {ms : List MapEntry} {i : Nat} {x : Option (Nat × AV)}, findKey ks l es i = some x → MR β es ms → ∀ w,
      ∃ y, (Instr.findAsking t (.agg vs) ms i).run P w = .ok y w ∧ (match x with
        | none => y = none
        | some (j, v) => ∃ u, y = some (j, u) ∧ VR β v u ∧ i ≤ j ∧ ∃ k e, es[j - i]? = some (.agg k, v) ∧ ms[j - i]? = some e ∧ VR β (.agg k) e.key ∧ eqCells ks l k = some true)
  | [], ms, i, x, h1, hm, w => by
    simp only [findKey] at h1; injection h1 with h1; subst h1
    simp only [MR] at hm; subst hm
    exact ⟨none, rfl, rfl⟩
  | (k, v) :: es, ms, i, x, h1, hm, w => by
    obtain ⟨e, ms', rfl, hke, hve, hrest⟩ := hm
    cases k <;> simp only [findKey] at h1 <;> try (cases h1; done)
    rename_i cs
    obtain ⟨us, hus, hcs⟩ := hke
    split at h1
    · rename_i he
      injection h1 with h1; subst h1
      have hrun := hp.eq β l cs vs us true w hk hcs he
      refine ⟨some (i, e.val), ?_, e.val, rfl, hve, Nat.le_refl _, cs, e, by simp, by simp, ⟨us, hus, hcs⟩, he⟩
      simp [Instr.findAsking, hus, hrun]
    · rename_i he
      have hrun := hp.eq β l cs vs us false w hk hcs he
      obtain ⟨y, hy, hx⟩ := findAsking_ok hp hk h1 hrest w
      refine ⟨y, by simp [Instr.findAsking, hus, hrun, hy], ?_⟩
      cases x with
      | none => exact hx
      | some p =>
        obtain ⟨j, v'⟩ := p
        obtain ⟨u, hu, hvu, hij, k', e', g1, g2, g3⟩ := hx
        refine ⟨u, hu, hvu, by omega, k', e', ?_, ?_, g3⟩
        · rw [show j - i = (j - (i + 1)) + 1 by omega, List.getElem?_cons_succ]; exact g1
        · rw [show j - i = (j - (i + 1)) + 1 by omega, List.getElem?_cons_succ]; exact g2
    · cases h1

theorem findNow_agg (d : TypeDesc) (vs : Array Value) : ∀ (ms : List MapEntry) (i : Nat), ms ≠ [] → Instr.findNow d (.agg vs) ms i = none
  | [], _, hne => absurd rfl hne
  | e :: ms, i, _ => by
    simp only [Instr.findNow]
    have : Instr.sameNow d (.agg vs) e.key = none := by cases d <;> rfl
    rw [this]

theorem run_findKey {t : Nat} {d : TypeDesc} (hd : P.underlying t = some d) {vs : Array Value} {ms : List MapEntry} {y : Option (Nat × Value)} {w : World} (hy : (Instr.findAsking t (.agg vs) ms 0).run P w = .ok y w) :
    (Instr.findKey t (.agg vs) ms).run P w = .ok y w := by
  simp only [Instr.findKey, Sem.run_bind, run_underlying hd, Result.andThen_ok]
  cases ms with
  | nil =>
    simp only [Instr.findNow]
    simp [Instr.findAsking] at hy
    simp [hy]
  | cons e ms => rw [findNow_agg d vs _ 0 (by simp)]; exact hy

theorem run_getObj_map {w : World} {c : Nat} {ents : Array MapEntry} {clk : Nat} (hc : w.heap[c]? = some (.map ents clk)) : (getObj c).run P w = .ok (.map ents clk) w := by
  simp [getObj, Sem.run, hc]

theorem alookup_ok (hT : TOk P T F) (r : Rel G β h w) {t : Nat} {m k : AV} {ok : Bool} {u v : Value} {o : Out} (h1 : alookup T h.get t m k ok = some o) (hm : VR β m u) (hk : VR β k v) :
    h.apply o = h ∧ GoodV P G β h w h o.v (Instr.lookup t u v ok) := by
  unfold alookup at h1
  split at h1
  · rename_i kt ei hmp
    obtain ⟨e, hu, he⟩ := map_row hT hmp
    split at h1
    · rename_i ks l hkc
      obtain ⟨rfl, hpl, hty, d, hd⟩ := keyCells_some hT hkc
      obtain ⟨vs, rfl, hl⟩ := hk
      obtain ⟨z, hz, hzv⟩ := run_zero hT he
      split at h1
      · cases hm
        injection h1 with h1; subst h1
        refine ⟨rfl, GoodV.same r (u := if ok then .tuple #[z, .bool false] else z) ?_ ?_⟩
        · have hfk := run_findKey (w := w) (ms := []) (y := none) hd (vs := vs) rfl
          simp [Instr.lookup, run_underlying hu, hpl.key β l vs _ w hl hty, hfk, hz]
        · cases ok
          · exact hzv β
          · exact ⟨_, rfl, VRs.cons (hzv β) (VRs.cons rfl VRs.nil)⟩
      · rename_i b
        obtain ⟨i, hb, rfl⟩ := hm
        split at h1
        · rename_i es hg
          obtain ⟨ents, clk, hc, hmr⟩ := r.obj b i _ hb hg
          split at h1
          · rename_i j x hfk
            injection h1 with h1; subst h1
            obtain ⟨y, hy, u, rfl, hvu, _⟩ := findAsking_ok hpl hl hfk hmr w
            have hfk' := run_findKey hd hy
            refine ⟨rfl, GoodV.same r (u := if ok then .tuple #[u, .bool true] else u) ?_ ?_⟩
            · simp [Instr.lookup, run_underlying hu, run_getObj_map hc, hpl.key β l vs _ w hl hty, hfk']
            · cases ok
              · exact hvu
              · exact ⟨_, rfl, VRs.cons hvu (VRs.cons rfl VRs.nil)⟩
          · rename_i hfk
            injection h1 with h1; subst h1
            obtain ⟨y, hy, hx⟩ := findAsking_ok hpl hl hfk hmr w
            simp only at hx; subst hx
            have hfk' := run_findKey hd hy
            refine ⟨rfl, GoodV.same r (u := if ok then .tuple #[z, .bool false] else z) ?_ ?_⟩
            · simp [Instr.lookup, run_underlying hu, run_getObj_map hc, hpl.key β l vs _ w hl hty, hfk', hz]
            · cases ok
              · exact hzv β
              · exact ⟨_, rfl, VRs.cons (hzv β) (VRs.cons rfl VRs.nil)⟩
          · cases h1
        · cases h1
      · cases h1
    · cases h1
  · cases h1

theorem sameBits_of_eq : ∀ {ks : List (Option IntKind)} {l k : List AV} {vs us : List Value}, eqCells ks l k = some true → VRs β l vs → VRs β k us → vs = us ∧ ∀ n, ∀ p ∈ vs.zip us, Instr.sameBits n p.1 p.2 = true
  | [], [], [], vs, us, _, h2, h3 => by rw [VRs.nil_iff.1 h2, VRs.nil_iff.1 h3]; simp
  | [], _ :: _, _, _, _, h1, _, _ => by simp [eqCells] at h1
  | [], [], _ :: _, _, _, h1, _, _ => by simp [eqCells] at h1
  | _ :: _, [], _, _, _, h1, _, _ => by simp [eqCells] at h1
  | _ :: _, _ :: _, [], _, _, h1, _, _ => by simp [eqCells] at h1
  | q :: ks, a :: l, b :: k, vs, us, h1, h2, h3 => by
    cases vs with
    | nil => simp [VRs] at h2
    | cons v vs =>
      cases us with
      | nil => simp [VRs] at h3
      | cons u us =>
        obtain ⟨a1, a2⟩ := VRs.cons_iff.1 h2
        obtain ⟨b1, b2⟩ := VRs.cons_iff.1 h3
        simp only [eqCells] at h1
        split at h1
        · rename_i hc
          obtain ⟨e1, e2⟩ := sameBits_of_eq h1 a2 b2
          have huv : v = u ∧ ∀ n, Instr.sameBits n v u = true := by
            unfold eqCell at hc
            split at hc
            · rename_i q' k1 x k2 y
              cases hd : (decide (k1 = q') && decide (k2 = q')) with
              | false => rw [hd] at hc; simp at hc
              | true =>
                rw [hd] at hc
                simp only [cond_true] at hc
                injection hc with hc
                rw [bandT, decide_eq_true_iff, decide_eq_true_iff] at hd
                obtain ⟨rfl, rfl⟩ := hd
                have : x = y := by simpa using hc
                subst this
                cases a1; cases b1
                exact ⟨rfl, fun n => by cases n <;> simp [Instr.sameBits]⟩
            · injection hc with hc
              cases a1; cases b1
              simp at hc; subst hc
              exact ⟨rfl, fun n => by cases n <;> simp [Instr.sameBits]⟩
            · cases hc
          refine ⟨by rw [huv.1, e1], fun n p hp => ?_⟩
          simp only [List.zip_cons_cons, List.mem_cons] at hp
          rcases hp with rfl | hp
          · exact huv.2 n
          · exact e2 n p hp
        · cases h1
        · cases h1

theorem MR_get : ∀ {es : List (AV × AV)} {ms : List MapEntry}, MR β es ms → es.length = ms.length
  | [], ms, hm => by simp only [MR] at hm; rw [hm]; rfl
  | (k, v) :: es, ms, hm => by obtain ⟨e, ms', rfl, _, _, hr⟩ := hm; simp [MR_get hr]

theorem MR_set {k v : AV} {key val : Value} (hk : VR β k key) (hv : VR β v val) : ∀ {es : List (AV × AV)} {ms : List MapEntry} (i : Nat), MR β es ms → MR β (setAt es i (k, v)) (ms.modify i fun e => { e with key := key, val := val })
  | [], ms, i, hm => by simp only [MR] at hm; subst hm; cases i <;> simp [setAt, MR]
  | (k', v') :: es, ms, 0, hm => by
    obtain ⟨e, ms', rfl, h1, h2, hr⟩ := hm
    exact ⟨{ e with key := key, val := val }, ms', by simp, hk, hv, hr⟩
  | (k', v') :: es, ms, i + 1, hm => by
    obtain ⟨e, ms', rfl, h1, h2, hr⟩ := hm
    exact ⟨e, ms'.modify i fun e => { e with key := key, val := val }, by simp, h1, h2, MR_set hk hv i hr⟩

theorem MR_push {k v : AV} {e : MapEntry} (hk : VR β k e.key) (hv : VR β v e.val) : ∀ {es : List (AV × AV)} {ms : List MapEntry}, MR β es ms → MR β (es ++ [(k, v)]) (ms ++ [e])
  | [], ms, hm => by simp only [MR] at hm; subst hm; exact ⟨e, [], rfl, hk, hv, rfl⟩
  | (k', v') :: es, ms, hm => by
    obtain ⟨e', ms', rfl, h1, h2, hr⟩ := hm
    exact ⟨e', ms' ++ [e], rfl, h1, h2, MR_push hk hv hr⟩

/-- An object that is no cells put in another's place. -/
def putObj (w : World) (c : Nat) (o : Obj) : World := { w with heap := w.heap.setIfInBounds c o }
theorem putObj_same {w : World} {c : Nat} {o : Obj} (hc : c < w.heap.size) : (putObj w c o).heap[c]? = some o := by simp [putObj, hc]
theorem putObj_other {w : World} {c : Nat} {o : Obj} {k : Nat} (hk : k ≠ c) : (putObj w c o).heap[k]? = w.heap[k]? := by
  simp only [putObj, Array.getElem?_setIfInBounds]
  rw [if_neg (fun x => hk x.symm)]
theorem putObj_size {w : World} {c : Nat} {o : Obj} : (putObj w c o).heap.size = w.heap.size := by simp [putObj]
theorem run_setObj_map {w : World} {c : Nat} {ents : Array MapEntry} {clk : Nat} (hc : w.heap[c]? = some (.map ents clk)) (o : Obj) : (setObj c o).run P w = .ok () (putObj w c o) := by
  simp [setObj, Sem.run, hc, putObj]

theorem amapUpdate_ok (hT : TOk P T F) (r : Rel G β h w) {t : Nat} {m k x : AV} {u v y : Value} {o : Out} (h1 : amapUpdate T h.get t m k x = some o) (hm : VR β m u) (hk : VR β k v) (hx : VR β x y) :
    o.v = .tup [] ∧ GoodU P G β h w (h.apply o) (Instr.mapUpdate t u v y) := by
  unfold amapUpdate at h1
  split at h1
  · rename_i kt ei hmp
    obtain ⟨e, hu, he⟩ := map_row hT hmp
    split at h1
    · rename_i b
      obtain ⟨i, hb, rfl⟩ := hm
      split at h1
      · rename_i ks l es hkc hg
        obtain ⟨rfl, hpl, hty, d, hd⟩ := keyCells_some hT hkc
        obtain ⟨vs, rfl, hl⟩ := hk
        have hkv : VR β (.agg l) (.agg vs) := ⟨vs, rfl, hl⟩
        obtain ⟨ents, clk, hc, hmr⟩ := r.obj b i _ hb hg
        have hlt := r.lt b i hb
        split at h1
        · rename_i j x' hfk
          injection h1 with h1; subst h1
          obtain ⟨y', hy', u', rfl, hvu, hij, k', e', g1, g2, ⟨us, gk, gks⟩, g4⟩ := findAsking_ok hpl hl hfk hmr w
          have hfk' := run_findKey hd hy'
          simp only [Nat.sub_zero] at g1 g2
          obtain ⟨hvu', hsb⟩ := sameBits_of_eq (β := β) g4 hl gks
          have hstay : (Instr.keyThatStays (((ents[j]?).map (·.key)).getD (.agg vs)) (.agg vs)).run P w = .ok (.agg vs) w := by
            have hej : ents[j]? = some e' := by simpa using g2
            rw [hej]
            simp only [Option.map_some, Option.getD_some, gk]
            have hvs : vs = us := Array.ext' hvu'
            subst hvs
            have : Instr.sameBits 10000 (.agg vs) (.agg vs) = true := by
              show ((vs.size == vs.size) && (vs.toList.zip vs.toList).all fun (x, y) => Instr.sameBits 9999 x y) = true
              simp only [beq_self_eq_true, Bool.true_and, List.all_eq_true]
              intro p hp
              exact hsb 9999 p hp
            simp [Instr.keyThatStays, this]
          refine ⟨rfl, putObj w i.c (.map (ents.modify j fun e => { e with key := .agg vs, val := y }) clk), β, ?_, ?_⟩
          · simp only [Instr.mapUpdate, Sem.run_bind, run_underlying hu, Result.andThen_ok, run_getObj_map hc, hpl.key β l vs _ w hl hty, hfk', hstay]
            exact run_setObj_map hc _
          · refine To.set r hb hg rfl rfl rfl rfl putObj_size (fun c hne => putObj_other hne) ?_
            refine ⟨_, clk, putObj_same hlt, ?_⟩
            rw [Array.toList_modify]
            exact MR_set hkv hx j hmr
        · rename_i hfk
          injection h1 with h1; subst h1
          obtain ⟨y', hy', hnone⟩ := findAsking_ok hpl hl hfk hmr w
          simp only at hnone; subst hnone
          have hfk' := run_findKey hd hy'
          refine ⟨rfl, putObj w i.c (.map (ents.push { key := .agg vs, val := y, born := clk }) (clk + 1)), β, ?_, ?_⟩
          · simp only [Instr.mapUpdate, Sem.run_bind, run_underlying hu, Result.andThen_ok, run_getObj_map hc, hpl.key β l vs _ w hl hty, hfk']
            exact run_setObj_map hc _
          · refine To.set r hb hg rfl rfl rfl rfl putObj_size (fun c hne => putObj_other hne) ?_
            refine ⟨_, _, putObj_same hlt, ?_⟩
            rw [Array.toList_push]
            exact MR_push (e := { key := .agg vs, val := y, born := clk }) hkv hx hmr
        · cases h1
      · cases h1
    · cases h1
  · cases h1

end
end Go.Ai
end

section
namespace Go.Ai
open Go

section
variable {P : Program} {T : Types} {F : Funcs} {G : Nat} {β : Bm} {h : Heap} {w : World}

theorem ifSame_some {k k' : IntKind} {v u : AV} (h1 : ifSame k k' v = some u) : k = k' ∧ v = u := by
  unfold ifSame at h1
  cases hk : decide (k = k') with
  | false => rw [hk] at h1; simp at h1
  | true => rw [hk] at h1; simp only [cond_true] at h1; injection h1 with h1; exact ⟨of_decide_eq_true hk, h1⟩

theorem iop_ok {op : BinOp} {t : TypeId} {k k' : IntKind} {a b : Int} {v : AV} (h1 : iop op k a k' b = some v) : ∃ u, (binOp op t (.int k a) (.int k' b)).run P w = .ok u w ∧ VR β v u := by
  cases op <;> simp only [iop] at h1
  case shl =>
    cases hb : decide (b < 0) with
    | true => rw [hb] at h1; simp at h1
    | false =>
      rw [hb] at h1; simp only [cond_false] at h1; injection h1 with h1; subst h1
      have : ¬ b < 0 := of_decide_eq_false hb
      exact ⟨_, by simp [binOp, Op.shift, this], rfl⟩
  case shr =>
    cases hb : decide (b < 0) with
    | true => rw [hb] at h1; simp at h1
    | false =>
      rw [hb] at h1; simp only [cond_false] at h1; injection h1 with h1; subst h1
      have : ¬ b < 0 := of_decide_eq_false hb
      exact ⟨_, by simp [binOp, Op.shift, this], rfl⟩
  case quo =>
    cases hb : decide (b = 0) with
    | true => rw [hb] at h1; simp at h1
    | false =>
      rw [hb] at h1; simp only [cond_false] at h1
      obtain ⟨rfl, rfl⟩ := ifSame_some h1
      have hb0 : ¬ b = 0 := of_decide_eq_false hb
      exact ⟨_, by simp [binOp, Op.intDiv, hb0], rfl⟩
  case rem =>
    cases hb : decide (b = 0) with
    | true => rw [hb] at h1; simp at h1
    | false =>
      rw [hb] at h1; simp only [cond_false] at h1
      obtain ⟨rfl, rfl⟩ := ifSame_some h1
      have hb0 : ¬ b = 0 := of_decide_eq_false hb
      exact ⟨_, by simp [binOp, Op.intDiv, hb0], rfl⟩
  all_goals
    obtain ⟨rfl, rfl⟩ := ifSame_some h1
    exact ⟨_, by simp [binOp, Op.intArith, Op.intBits, Op.intCmp], rfl⟩

theorem eqop_ok {op : BinOp} {b : Bool} {v : AV} (h1 : eqop op b = some v) : (op = .eql ∧ v = .bool b) ∨ (op = .neq ∧ v = .bool (!b)) := by
  cases op <;> simp only [eqop] at h1 <;> first
    | (cases h1; done)
    | (injection h1 with h1; exact .inl ⟨rfl, h1.symm⟩)
    | (injection h1 with h1; exact .inr ⟨rfl, h1.symm⟩)

/-- '==' and '!=' out of one comparison. -/
theorem run_eqop {op : BinOp} {t : TypeId} {x y : Value} {b : Bool} {v : AV} (h1 : eqop op b = some v) (he : (Op.equal t x y).run P w = .ok b w)
    (hx : ∀ op, op = .eql ∨ op = .neq → binOp op t x y = match op with | .eql => (do pure (.bool (← Op.equal t x y))) | _ => (do pure (.bool (!(← Op.equal t x y))))) : ∃ u, (binOp op t x y).run P w = .ok u w ∧ VR β v u := by
  rcases eqop_ok h1 with ⟨rfl, rfl⟩ | ⟨rfl, rfl⟩
  · exact ⟨.bool b, by rw [hx _ (.inl rfl)]; simp [he], rfl⟩
  · exact ⟨.bool (!b), by rw [hx _ (.inr rfl)]; simp [he], rfl⟩

theorem eq_bool (d : Nat) {t : TypeId} {a b : Bool} (hd : P.underlying t = some .bool) : (Op.equalIn (d + 1) t (.bool a) (.bool b)).run P w = .ok (a == b) w := by
  simp only [Op.equalIn, Sem.run_bind, run_underlying hd, Result.andThen_ok]; rfl
theorem eq_nili (d : Nat) {t : TypeId} {ms : Array (String × TypeId)} (hd : P.underlying t = some (.interface ms)) : (Op.equalIn (d + 1) t .nilIface .nilIface).run P w = .ok true w := by
  simp only [Op.equalIn, Sem.run_bind, run_underlying hd, Result.andThen_ok]; rfl
theorem eq_iface (d : Nat) {t : TypeId} {ms : Array (String × TypeId)} {u : TypeId} {v : Value} (hd : P.underlying t = some (.interface ms)) : (Op.equalIn (d + 1) t (.iface u v) .nilIface).run P w = .ok false w := by
  simp only [Op.equalIn, Sem.run_bind, run_underlying hd, Result.andThen_ok]; rfl
theorem eq_ptr (d : Nat) {t e : TypeId} {a : Addr} (hd : P.underlying t = some (.pointer e)) : (Op.equalIn (d + 1) t (.pointer (some a)) (.pointer none)).run P w = .ok false w := by
  simp only [Op.equalIn, Sem.run_bind, run_underlying hd, Result.andThen_ok]; rfl
theorem eq_nilp (d : Nat) {t e : TypeId} (hd : P.underlying t = some (.pointer e)) : (Op.equalIn (d + 1) t (.pointer none) (.pointer none)).run P w = .ok true w := by
  simp only [Op.equalIn, Sem.run_bind, run_underlying hd, Result.andThen_ok]; rfl
theorem eq_nils (d : Nat) {t e : TypeId} (hd : P.underlying t = some (.slice e)) : (Op.equalIn (d + 1) t (.slice none 0 0) (.slice none 0 0)).run P w = .ok true w := by
  simp only [Op.equalIn, Sem.run_bind, run_underlying hd, Result.andThen_ok]; rfl
theorem eq_slice (d : Nat) {t e : TypeId} {a : Addr} {l c : Nat} (hd : P.underlying t = some (.slice e)) : (Op.equalIn (d + 1) t (.slice (some a) l c) (.slice none 0 0)).run P w = .ok false w := by
  simp only [Op.equalIn, Sem.run_bind, run_underlying hd, Result.andThen_ok]; rfl

theorem abin_ok (hT : TOk P T F) {op : BinOp} {t : Nat} {x y : AV} {ox oy : Operand} {u v : Value} {a : AV} (h1 : abin T op t x y (isConst ox) (isConst oy) = some a) (hx : VR β x u) (hy : VR β y v) :
    ∃ z, ((do eqGuard op t ox oy u v; binOp op t u v) : Sem Value).run P w = .ok z w ∧ VR β a z := by
  have noG : ∀ {u v : Value}, (¬ (u = .nilIface ∧ v = .nilIface)) → (∀ p q, ¬ (u = .agg p ∧ v = .agg q)) → (eqGuard op t ox oy u v).run P w = .ok () w := by
    intro u v n1 n2
    unfold eqGuard
    cases op <;> cases u <;> cases v <;> first
      | rfl
      | (exfalso; exact n1 ⟨rfl, rfl⟩)
      | (exfalso; exact n2 _ _ ⟨rfl, rfl⟩)
  have hty : ∀ {ti : TI}, T.get t = some ti → ∃ d, P.underlying t = some d ∧ KR P ti.k d := fun ht => (hT.row _ _ ht).und
  unfold abin at h1
  split at h1
  · cases hx; cases hy
    obtain ⟨z, hz, hv⟩ := iop_ok (P := P) (β := β) (t := t) (w := w) h1
    exact ⟨z, (by rw [Sem.run_bind, noG]; exact hz; all_goals simp), hv⟩
  · cases hx; cases hy
    rename_i b1 b2
    split at h1
    · rename_i ti ht
      split at h1
      · rename_i hk
        obtain ⟨d, hd, hkr⟩ := hty ht
        rw [hk] at hkr; simp only [KR] at hkr; subst hkr
        obtain ⟨z, hz, hv⟩ := run_eqop (P := P) (β := β) (w := w) (t := t) (x := .bool b1) (y := .bool b2) h1 (eq_bool 9999 hd) (by rintro op (rfl | rfl) <;> rfl)
        exact ⟨z, (by rw [Sem.run_bind, noG]; exact hz; all_goals simp), hv⟩
      · cases h1
    · cases h1
  · rename_i xs ys
    obtain ⟨us, rfl, hus⟩ := hx
    obtain ⟨vs, rfl, hvs⟩ := hy
    split at h1
    · rename_i ti ht
      split at h1
      · rename_i ks hks
        split at h1
        · rename_i b hb
          have hp := (hT.row _ _ ht).plain _ hks
          obtain ⟨z, hz, hv⟩ := run_eqop (P := P) (β := β) (w := w) (t := t) (x := .agg us) (y := .agg vs) h1 (hp.eq β xs ys us vs b w hus hvs hb) (by rintro op (rfl | rfl) <;> rfl)
          refine ⟨z, ?_, hv⟩
          have hg : (eqGuard op t ox oy (.agg us) (.agg vs)).run P w = .ok () w := by
            unfold eqGuard
            rcases eqop_ok h1 with ⟨rfl, _⟩ | ⟨rfl, _⟩ <;> simp [hp.guard]
          simp [hg, hz]
        · cases h1
      · cases h1
    · cases h1
  · cases hx; cases hy
    split at h1
    · rename_i ti ht
      split at h1
      · rename_i hm hk
        obtain ⟨d, hd, hkr⟩ := hty ht
        rw [hk] at hkr; obtain ⟨ms, rfl, _⟩ := hkr
        cases hcc : (isConst ox || isConst oy) with
        | false => rw [hcc] at h1; simp at h1
        | true =>
          rw [hcc] at h1; simp only [cond_true] at h1
          obtain ⟨z, hz, hv⟩ := run_eqop (P := P) (β := β) (w := w) (t := t) (x := .nilIface) (y := .nilIface) h1 (eq_nili 9999 hd) (by rintro op (rfl | rfl) <;> rfl)
          refine ⟨z, ?_, hv⟩
          have hg : (eqGuard op t ox oy .nilIface .nilIface).run P w = .ok () w := by
            unfold eqGuard
            rcases eqop_ok h1 with ⟨rfl, _⟩ | ⟨rfl, _⟩ <;> cases ox <;> cases oy <;> simp_all [isConst]
          simp [hg, hz]
      · cases h1
    · cases h1
  · obtain ⟨y', rfl, _⟩ := hx; cases hy
    split at h1
    · rename_i ti ht
      split at h1
      · rename_i hm hk
        obtain ⟨d, hd, hkr⟩ := hty ht
        rw [hk] at hkr; obtain ⟨ms, rfl, _⟩ := hkr
        obtain ⟨z, hz, hv⟩ := run_eqop (P := P) (β := β) (w := w) (t := t) (x := .iface _ y') (y := .nilIface) h1 (eq_iface 9999 hd) (by rintro op (rfl | rfl) <;> rfl)
        exact ⟨z, (by rw [Sem.run_bind, noG]; exact hz; all_goals simp), hv⟩
      · cases h1
    · cases h1
  · obtain ⟨i, _, rfl⟩ := hx; cases hy
    split at h1
    · rename_i ti ht
      split at h1
      · rename_i e hk
        obtain ⟨d, hd, hkr⟩ := hty ht
        rw [hk] at hkr; simp only [KR] at hkr; subst hkr
        obtain ⟨z, hz, hv⟩ := run_eqop (P := P) (β := β) (w := w) (t := t) (y := .pointer none) h1 (eq_ptr 9999 hd) (by rintro op (rfl | rfl) <;> rfl)
        exact ⟨z, (by rw [Sem.run_bind, noG]; exact hz; all_goals simp), hv⟩
      · cases h1
    · cases h1
  · cases hx; cases hy
    split at h1
    · rename_i ti ht
      split at h1
      · rename_i e hk
        obtain ⟨d, hd, hkr⟩ := hty ht
        rw [hk] at hkr; simp only [KR] at hkr; subst hkr
        obtain ⟨z, hz, hv⟩ := run_eqop (P := P) (β := β) (w := w) (t := t) (x := .pointer none) (y := .pointer none) h1 (eq_nilp 9999 hd) (by rintro op (rfl | rfl) <;> rfl)
        exact ⟨z, (by rw [Sem.run_bind, noG]; exact hz; all_goals simp), hv⟩
      · cases h1
    · cases h1
  · cases hx; cases hy
    split at h1
    · rename_i ti ht
      split at h1
      · rename_i e hk
        obtain ⟨d, hd, hkr⟩ := hty ht
        rw [hk] at hkr; simp only [KR] at hkr; subst hkr
        obtain ⟨z, hz, hv⟩ := run_eqop (P := P) (β := β) (w := w) (t := t) (x := .slice none 0 0) (y := .slice none 0 0) h1 (eq_nils 9999 hd) (by rintro op (rfl | rfl) <;> rfl)
        exact ⟨z, (by rw [Sem.run_bind, noG]; exact hz; all_goals simp), hv⟩
      · cases h1
    · cases h1
  · obtain ⟨i, cc, _, rfl, _⟩ := hx; cases hy
    split at h1
    · rename_i ti ht
      split at h1
      · rename_i e hk
        obtain ⟨d, hd, hkr⟩ := hty ht
        rw [hk] at hkr; simp only [KR] at hkr; subst hkr
        obtain ⟨z, hz, hv⟩ := run_eqop (P := P) (β := β) (w := w) (t := t) (y := .slice none 0 0) h1 (eq_slice 9999 hd) (by rintro op (rfl | rfl) <;> rfl)
        exact ⟨z, (by rw [Sem.run_bind, noG]; exact hz; all_goals simp), hv⟩
      · cases h1
    · cases h1
  · cases h1

theorem aun_ok {op : UnOp} {x a : AV} {u : Value} (h1 : aun op x = some a) (hx : VR β x u) : ∃ z, (Op.unary op u).run P w = .ok z w ∧ VR β a z := by
  unfold aun at h1
  split at h1
  · cases hx; injection h1 with h1; subst h1; exact ⟨_, rfl, rfl⟩
  · cases hx; injection h1 with h1; subst h1; exact ⟨_, rfl, rfl⟩
  · cases h1

theorem mxl_ok : ∀ {xs : List AV} {x a : AV} {us : List Value} {u : Value}, mxl x xs = some a → isInt x = true → VR β x u → VRs β xs us → ∃ z, (us.foldlM Builtin.max2 u).run P w = .ok z w ∧ VR β a z
  | [], x, a, us, u, h1, hi, hx, hs => by
    rw [VRs.nil_iff.1 hs]
    have : a = x := by cases x <;> simp [mxl] at h1 <;> exact h1.symm
    subst this
    exact ⟨u, rfl, hx⟩
  | y :: xs, x, a, us, u, h1, hi, hx, hs => by
    cases us with
    | nil => simp [VRs] at hs
    | cons v us =>
      obtain ⟨s1, s2⟩ := VRs.cons_iff.1 hs
      cases x <;> simp only [isInt] at hi <;> try (cases hi; done)
      cases y <;> simp only [mxl] at h1 <;> try (cases h1; done)
      rename_i k n k' m
      cases hk : decide (k = k') with
      | false => rw [hk] at h1; simp at h1
      | true =>
        rw [hk] at h1; simp only [cond_true] at h1
        cases hx; cases s1
        have e : (bif decide (m > n) then m else n) = if m > n then m else n := by by_cases q : m > n <;> simp [q]
        rw [e] at h1
        obtain ⟨z, hz, hv⟩ := mxl_ok (u := .int k (if m > n then m else n)) h1 rfl rfl s2
        exact ⟨z, by simp [List.foldlM_cons, Builtin.max2, hz], hv⟩

theorem mnl_ok : ∀ {xs : List AV} {x a : AV} {us : List Value} {u : Value}, mnl x xs = some a → isInt x = true → VR β x u → VRs β xs us → ∃ z, (us.foldlM Builtin.min2 u).run P w = .ok z w ∧ VR β a z
  | [], x, a, us, u, h1, hi, hx, hs => by
    rw [VRs.nil_iff.1 hs]
    have : a = x := by cases x <;> simp [mnl] at h1 <;> exact h1.symm
    subst this
    exact ⟨u, rfl, hx⟩
  | y :: xs, x, a, us, u, h1, hi, hx, hs => by
    cases us with
    | nil => simp [VRs] at hs
    | cons v us =>
      obtain ⟨s1, s2⟩ := VRs.cons_iff.1 hs
      cases x <;> simp only [isInt] at hi <;> try (cases hi; done)
      cases y <;> simp only [mnl] at h1 <;> try (cases h1; done)
      rename_i k n k' m
      cases hk : decide (k = k') with
      | false => rw [hk] at h1; simp at h1
      | true =>
        rw [hk] at h1; simp only [cond_true] at h1
        cases hx; cases s1
        have e : (bif decide (m < n) then m else n) = if m < n then m else n := by by_cases q : m < n <;> simp [q]
        rw [e] at h1
        obtain ⟨z, hz, hv⟩ := mnl_ok (u := .int k (if m < n then m else n)) h1 rfl rfl s2
        exact ⟨z, by simp [List.foldlM_cons, Builtin.min2, hz], hv⟩

end
end Go.Ai
end

section
namespace Go.Ai
open Go

/-- What is said of an operation's run, where it calls nothing. -/
def Good (P : Program) (G : Nat) (β : Bm) (h : Heap) (w : World) (h' : Heap) (v : AV) (s : Sem Next) : Prop :=
  ∃ u w' β', (s.run P w = .ok (.value u) w' ∨ (s.run P w = .ok .skip w' ∧ u = undef)) ∧ VR β' v u ∧ To G β h w β' h' w'

section
variable {P : Program} {T : Types} {F : Funcs} {G : Nat} {β : Bm} {h : Heap} {w : World}

theorem alen_ok (hT : TOk P T F) (r : Rel G β h w) {t ty : Nat} {x : AV} {u : Value} {o : Out} (h1 : alen T h.get t x = some o) (hx : VR β x u) : h.apply o = h ∧ GoodV P G β h w h o.v (Builtin.len_ #[t] ty #[u]) := by
  unfold alen at h1
  split at h1
  · rename_i ti ht
    obtain ⟨d, hd, hkr⟩ := (hT.row _ _ ht).und
    split at h1
    · rename_i e hk
      rw [hk] at hkr; simp only [KR] at hkr; subst hkr
      split at h1
      · cases hx; injection h1 with h1; subst h1
        exact ⟨rfl, GoodV.same r (u := .int .i64 0) (by simp [Builtin.len_, run_underlying hd, goInt]) rfl⟩
      · obtain ⟨a, c, rfl⟩ := hx; injection h1 with h1; subst h1
        exact ⟨rfl, GoodV.same r (u := .int .i64 0) (by simp [Builtin.len_, run_underlying hd, goInt]) rfl⟩
      · obtain ⟨i, cc, _, rfl, _⟩ := hx; injection h1 with h1; subst h1
        exact ⟨rfl, GoodV.same r (by simp [Builtin.len_, run_underlying hd, goInt]) rfl⟩
      · cases h1
    · rename_i n e hk
      rw [hk] at hkr; simp only [KR] at hkr; subst hkr
      injection h1 with h1; subst h1
      exact ⟨rfl, GoodV.same r (u := .int .i64 n) (by simp [Builtin.len_, run_underlying hd, goInt]) rfl⟩
    · rename_i k e hk
      rw [hk] at hkr; simp only [KR] at hkr; subst hkr
      split at h1
      · cases hx; injection h1 with h1; subst h1
        exact ⟨rfl, GoodV.same r (u := .int .i64 0) (by simp [Builtin.len_, run_underlying hd, goInt]) rfl⟩
      · rename_i b
        obtain ⟨i, hb, rfl⟩ := hx
        split at h1
        · rename_i es hg
          injection h1 with h1; subst h1
          obtain ⟨ents, clk, hc, hmr⟩ := r.obj b i _ hb hg
          have hl := MR_get hmr
          exact ⟨rfl, GoodV.same r (u := .int .i64 es.length) (by rw [hl]; simp [Builtin.len_, run_underlying hd, goInt, run_getObj_map hc]) rfl⟩
        · cases h1
      · cases h1
    · cases h1
  · cases h1

theorem acap_ok (hT : TOk P T F) (r : Rel G β h w) {t ty : Nat} {x : AV} {u : Value} {o : Out} (h1 : acap T t x = some o) (hx : VR β x u) : h.apply o = h ∧ GoodV P G β h w h o.v (Builtin.cap_ #[t] ty #[u]) := by
  unfold acap at h1
  split at h1
  · rename_i ei hel
    obtain ⟨e, hd, _⟩ := elem_row hT hel
    obtain ⟨i, cc, _, rfl, _, _, hex, _⟩ := hx
    injection h1 with h1; subst h1
    have := hex rfl
    subst this
    exact ⟨rfl, GoodV.same r (u := .int .i64 _) (by simp [Builtin.cap_, run_underlying hd, goInt]) rfl⟩
  · cases h1

theorem GoodV.good {h' : Heap} {v : AV} {s : Sem Value} (x : GoodV P G β h w h' v s) : Good P G β h w h' v (do pure (.value (← s))) := by
  obtain ⟨u, w', β', e, k, t⟩ := x
  exact ⟨u, w', β', .inl (by simp [e]), k, t⟩
theorem GoodU.good {h' : Heap} {s : Sem Unit} (x : GoodU P G β h w h' s) : Good P G β h w h' (.tup []) (do s; pure .skip) := by
  obtain ⟨w', β', e, t⟩ := x
  exact ⟨undef, w', β', .inr ⟨by simp [e], rfl⟩, ⟨#[], rfl, VRs.nil⟩, t⟩
theorem Good.same (r : Rel G β h w) {v : AV} {u : Value} {s : Sem Next} (e : s.run P w = .ok (.value u) w) (k : VR β v u) : Good P G β h w h v s := ⟨u, w, β, .inl e, k, To.refl r⟩

theorem abuiltin_ok (hT : TOk P T F) (r : Rel G β h w) {b : Builtin} {ts : Array TypeId} {ty : TypeId} {cs : Array Bool} {xs : List AV} {us : Array Value} {o : Out} (h1 : abuiltin T h.get h.nx b ts.toList xs = some o) (hx : VRs β xs us.toList) (hf : o.nw ≠ [] → β h.nx = none) :
    Good P G β h w (h.apply o) o.v (builtin b ts ty cs us) := by
  have one : ∀ {x : AV}, xs = [x] → ∃ u, us = #[u] ∧ VR β x u := by
    rintro x rfl
    obtain ⟨u, l, e, hv, hl⟩ := hx
    cases hl
    exact ⟨u, Array.ext' e, hv⟩
  have two : ∀ {x y : AV}, xs = [x, y] → ∃ u v, us = #[u, v] ∧ VR β x u ∧ VR β y v := by
    rintro x y rfl
    obtain ⟨u, l, e, hv, v, l', e', hv', hl⟩ := hx
    cases hl; subst e'
    exact ⟨u, v, Array.ext' e, hv, hv'⟩
  have tys1 : ∀ {t : Nat}, ts.toList = [t] → ts = #[t] := fun e => Array.ext' e
  have tys2 : ∀ {t t' : Nat}, ts.toList = [t, t'] → ts = #[t, t'] := fun e => Array.ext' e
  unfold abuiltin at h1
  split at h1
  · rename_i t x hts
    rw [tys1 hts]
    obtain ⟨u, rfl, hv⟩ := one rfl
    obtain ⟨e, k⟩ := alen_ok hT r (ty := ty) h1 hv
    rw [e]; exact k.good
  · rename_i t x hts
    rw [tys1 hts]
    obtain ⟨u, rfl, hv⟩ := one rfl
    obtain ⟨e, k⟩ := acap_ok hT r (ty := ty) h1 hv
    rw [e]; exact k.good
  · rename_i ts' tx d s hts
    rw [tys2 hts]
    obtain ⟨u, v, rfl, hv1, hv2⟩ := two rfl
    exact (aappend_ok hT r (ty := ty) h1 hv1 hv2 hf).good
  · rename_i x rest
    obtain ⟨u, l, e, hv, hl⟩ := hx
    cases hi : isInt x with
    | false => rw [hi] at h1; simp at h1
    | true =>
      rw [hi] at h1; simp only [cond_true] at h1
      obtain ⟨a, ha, rfl⟩ := Option.map_eq_some_iff.1 h1
      obtain ⟨z, hz, hk⟩ := mxl_ok (P := P) (w := w) ha hi hv hl
      refine Good.same r (u := z) ?_ hk
      simp [builtin, Builtin.max_, e, hz]
  · rename_i x rest
    obtain ⟨u, l, e, hv, hl⟩ := hx
    cases hi : isInt x with
    | false => rw [hi] at h1; simp at h1
    | true =>
      rw [hi] at h1; simp only [cond_true] at h1
      obtain ⟨a, ha, rfl⟩ := Option.map_eq_some_iff.1 h1
      obtain ⟨z, hz, hk⟩ := mnl_ok (P := P) (w := w) ha hi hv hl
      refine Good.same r (u := z) ?_ hk
      simp [builtin, Builtin.min_, e, hz]
  · cases h1

theorem pure_some {x : Option AV} {o : Out} (h1 : x.map Out.pure = some o) : ∃ v, x = some v ∧ o = .pure v := by
  obtain ⟨v, hv, rfl⟩ := Option.map_eq_some_iff.1 h1; exact ⟨v, hv, rfl⟩

theorem evp_arr (r : Rel G β h w) (hG : T.G = G) {e : Env} {a : Act} (he : ER β e a.tmps) {ps : Array (Nat × Operand)} {l : List (Nat × AV)} (h1 : evp T e ps.toList = some l) : PR β l (ps.map fun (i, x) => (i, a.eval x)).toList := by
  have := evp_ok r hG he h1
  rw [Array.toList_map]
  exact this
theorem evs_arr (r : Rel G β h w) (hG : T.G = G) {e : Env} {a : Act} (he : ER β e a.tmps) {xs : Array Operand} {l : List AV} (h1 : evs T e xs.toList = some l) : VRs β l (xs.map a.eval).toList := by
  have := evs_ok r hG he h1
  rw [Array.toList_map]
  exact this
theorem evo_OV (r : Rel G β h w) (hG : T.G = G) {e : Env} {a : Act} (he : ER β e a.tmps) {x : Option Operand} {v : Option AV} (h1 : evo T e x = some v) : OV β v (x.map a.eval) := by
  have := evo_ok r hG he h1
  cases v with
  | none => exact this
  | some v => exact this

theorem aop_ok (hT : TOk P T F) (r : Rel G β h w) (hG : T.G = G) {e : Env} {a : Act} (he : ER β e a.tmps) {o : Oper} {out : Out} (h1 : aop T h.get h.nx e o.op = some out) (hf : β.free h.nx (h.apply out).nx) :
    Good P G β h w (h.apply out) out.v (execOp a.eval o) := by
  have hfn : out.nw ≠ [] → β h.nx = none := by
    intro hne
    refine hf h.nx (Nat.le_refl _) ?_
    simp only [Heap.apply, Heap.nx_pushes, Heap.nx_sets]
    have := List.length_pos_iff.2 hne
    omega
  have hev : ∀ {x : Operand} {v : AV}, ev T e x = some v → VR β v (a.eval x) := fun hx => ev_ok r hG he hx
  rw [aop_eq] at h1; unfold aopM at h1
  split at h1
  · -- move
    obtain ⟨v, hv, rfl⟩ := pure_some h1
    exact Good.same r (by simp [execOp, *]) (hev hv)
  · obtain ⟨v, hv, rfl⟩ := pure_some h1
    exact Good.same r (by simp [execOp, *]) (hev hv)
  · -- pick
    rename_i c x y hop
    split at h1
    · rename_i t u v hc hx hy
      injection h1 with h1; subst h1
      have hcv := hev hc
      simp only [VR] at hcv
      refine Good.same r (u := if t then a.eval x else a.eval y) ?_ (by cases t; exact hev hy; exact hev hx)
      simp [execOp, hop, hcv, asBool]
    · cases h1
  · -- alloc
    rename_i t hop
    split at h1
    · rename_i ti ht
      obtain ⟨z, hz, hzv⟩ := run_zero hT ht
      obtain ⟨u, w', β', e1, e2, e3⟩ := abox_ok hT r h1 (hzv β) hfn
      refine ⟨u, w', β', .inl ?_, e2, e3⟩
      simp only [Sem.run_bind, Sem.run_pure] at e1
      simp [execOp, hop, Instr.alloc, hz]
      cases hq : (newVar t z).run P w with
      | halt x w1 => rw [hq] at e1; cases e1
      | ok ad w1 => rw [hq] at e1; cases e1; rfl
    · cases h1
  · -- box
    rename_i t x hop
    split at h1
    · rename_i v hv
      obtain ⟨u, w', β', e1, e2, e3⟩ := abox_ok hT r h1 (hev hv) hfn
      refine ⟨u, w', β', .inl ?_, e2, e3⟩
      have : (Instr.box t (a.eval x)).run P w = .ok u w' := e1
      simp [execOp, hop, this]
    · cases h1
  · -- build
    rename_i t ps hop
    split at h1
    · rename_i l hl
      obtain ⟨e1, k⟩ := abuild_ok hT r h1 (evp_arr r hG he hl)
      rw [e1]
      have := k.good
      unfold execOp; rw [hop]; exact this
    · cases h1
  · -- buildSlice
    rename_i t n ps hop
    split at h1
    · rename_i l hl
      have k := abuildSlice_ok hT r h1 (evp_arr r hG he hl) hfn
      have := k.good
      unfold execOp; rw [hop]; exact this
    · cases h1
  · -- load
    rename_i t x hop
    split at h1
    · rename_i v hv
      obtain ⟨e1, k⟩ := aload_ok hT r h1 (hev hv)
      rw [e1]
      have := k.good
      unfold execOp; rw [hop]; exact this
    · cases h1
  · -- store
    rename_i t x y hop
    split at h1
    · rename_i v u hv hu
      obtain ⟨e1, k⟩ := astore_ok hT r h1 (hev hv) (hev hu)
      rw [e1]
      have := k.good
      unfold execOp; rw [hop]; exact this
    · cases h1
  · -- nilCheck
    rename_i x hop
    split at h1
    · rename_i b o hv
      injection h1 with h1; subst h1
      have hx := hev hv
      obtain ⟨i, hi, hxe⟩ := hx
      refine Good.same r (u := .pointer (some ⟨i.c, i.base + o, none⟩)) ?_ ⟨i, hi, rfl⟩
      simp [execOp, hop, hxe]
    · rename_i f p q hv
      injection h1 with h1; subst h1
      have hx := hev hv
      obtain ⟨g, p', q', hxe, hg, h2, h3⟩ := hx
      simp only [FR] at hg; subst hg
      refine Good.same r (u := .func (.func f) p' q') ?_ ⟨_, p', q', rfl, rfl, h2, h3⟩
      simp [execOp, hop, hxe]
    · cases h1
  · -- binOp
    rename_i op t x y yt hop
    split at h1
    · rename_i u v hu hv
      obtain ⟨c, hc, rfl⟩ := pure_some h1
      obtain ⟨z, hz, hk⟩ := abin_ok hT (w := w) hc (hev hu) (hev hv)
      refine Good.same r (u := z) ?_ hk
      simp only [execOp, hop]
      rw [Sem.run_bind, hz]; rfl
    · cases h1
  · -- unOp
    rename_i op t x hop
    split at h1
    · rename_i u hu
      obtain ⟨c, hc, rfl⟩ := pure_some h1
      obtain ⟨z, hz, hk⟩ := aun_ok (P := P) (w := w) hc (hev hu)
      refine Good.same r (u := z) ?_ hk
      simp [execOp, hop, hz]
    · cases h1
  · -- convert
    rename_i s d x hop
    split at h1
    · rename_i k n si ti hx hs hd
      split at h1
      · rename_i k' hk
        injection h1 with h1; subst h1
        have hxv := hev hx
        simp only [VR] at hxv
        obtain ⟨ds, hds, _⟩ := (hT.row _ _ hs).und
        obtain ⟨dd, hdd, hkr⟩ := (hT.row _ _ hd).und
        rw [hk] at hkr; simp only [KR] at hkr; subst hkr
        refine Good.same r (u := .int k' (k'.wrap n)) ?_ rfl
        simp only [execOp, hop, convert, hxv, Sem.run_bind, run_underlying hds, run_underlying hdd, Result.andThen_ok]
        cases ds <;> rfl
      · cases h1
    · cases h1
  · -- makeInterface
    rename_i t x hop
    split at h1
    · rename_i v ti hv ht
      obtain ⟨d, hd, hkr⟩ := (hT.row _ _ ht).und
      have key : (∀ hm, ti.k ≠ .iface hm) → v ≠ .undef → out = .pure (.iface t v) → Good P G β h w (h.apply out) out.v (execOp a.eval o) := by
        rintro hni _ rfl
        refine Good.same r (u := .iface t (a.eval x)) ?_ ⟨_, rfl, hev hv⟩
        simp only [execOp, hop, Instr.makeInterface, Sem.run_bind, run_underlying hd, Result.andThen_ok]
        cases hk : ti.k <;> rw [hk] at hkr <;> simp only [KR] at hkr
        case iface hm => exact absurd hk (hni hm)
        case struct fs => obtain ⟨fs', rfl, _⟩ := hkr; rfl
        case func => obtain ⟨_, _, _, rfl⟩ := hkr; rfl
        all_goals (subst hkr; rfl)
      split at h1
      · cases h1
      · rename_i hni
        split at h1
        · cases h1
        · rename_i hnu
          injection h1 with h1
          exact key (fun hm hh => hni hm hh) (fun hh => hnu hh) h1.symm
    · cases h1
  · -- makeFunc
    rename_i f xs ys hop
    split at h1
    · rename_i g p q hg hp hq
      injection h1 with h1; subst h1
      have hgr : FR β g f := by
        split at hg <;> first
          | (injection hg with hg; subst hg; rfl)
          | (cases hg; done)
      refine Good.same r (u := .func f (xs.map a.eval) (ys.map a.eval)) ?_ ⟨f, _, _, rfl, hgr, evs_arr r hG he hp, evs_arr r hG he hq⟩
      simp [execOp, hop, Instr.makeFunc]
    · cases h1
  · -- makeMap
    rename_i t hop
    injection h1 with h1; subst h1
    have hf0 := hfn (by simp)
    refine ⟨.map (some w.heap.size), _, _, .inl ?_, ⟨_, Bm.upd_same _ _ _, rfl⟩, To.push r hf0 (i := ⟨w.heap.size, 0, 0, 0, true⟩) (obj := .map #[] 0) rfl ?_⟩
    · simp [execOp, hop, Instr.makeMap]; rfl
    · exact ⟨#[], 0, pushed_new w _, rfl⟩
  · -- makeSlice
    rename_i t l c hop
    split at h1
    · rename_i u v hu hv
      have k := amakeSlice_ok hT r h1 (hev hu) (hev hv) hfn
      have := k.good
      unfold execOp; rw [hop]; exact this
    · cases h1
  · -- slice
    rename_i t x lo hi mx hop
    split at h1
    · rename_i v lo' hi' mx' hv hlo hhi hmx
      obtain ⟨e1, k⟩ := aslice_ok hT r h1 (hev hv) (evo_OV r hG he hlo) (evo_OV r hG he hhi) (evo_OV r hG he hmx)
      rw [e1]
      have := k.good
      unfold execOp; rw [hop]; exact this
    · cases h1
  · -- fieldAddr
    rename_i s x f hop
    split at h1
    · rename_i v hv
      obtain ⟨e1, k⟩ := afieldAddr_ok hT r h1 (hev hv)
      rw [e1]
      have := k.good
      unfold execOp; rw [hop]; exact this
    · cases h1
  · -- field
    rename_i s x f hop
    split at h1
    · rename_i v hv
      obtain ⟨e1, k⟩ := afield_ok hT r h1 (hev hv)
      rw [e1]
      have := k.good
      unfold execOp; rw [hop]; exact this
    · cases h1
  · -- indexAddr
    rename_i t x i hop
    split at h1
    · rename_i v u hv hu
      obtain ⟨e1, k⟩ := aindexAddr_ok hT r h1 (hev hv) (hev hu)
      rw [e1]
      have := k.good
      unfold execOp; rw [hop]; exact this
    · cases h1
  · -- index
    rename_i t x i hop
    split at h1
    · rename_i v u hv hu
      obtain ⟨e1, k⟩ := aindex_ok hT r h1 (hev hv) (hev hu)
      rw [e1]
      have := k.good
      unfold execOp; rw [hop]; exact this
    · cases h1
  · -- lookup
    rename_i t m k ok hop
    split at h1
    · rename_i v u hv hu
      obtain ⟨e1, k⟩ := alookup_ok hT r h1 (hev hv) (hev hu)
      rw [e1]
      have := k.good
      unfold execOp; rw [hop]; exact this
    · cases h1
  · -- mapUpdate
    rename_i t m k x hop
    split at h1
    · rename_i v u y hv hu hy
      obtain ⟨e1, k⟩ := amapUpdate_ok hT r h1 (hev hv) (hev hu) (hev hy)
      rw [e1]
      have := k.good
      unfold execOp; rw [hop]; exact this
    · cases h1
  · -- insert
    rename_i t m k x hop
    split at h1
    · rename_i v u y hv hu hy
      obtain ⟨e1, k⟩ := amapUpdate_ok hT r h1 (hev hv) (hev hu) (hev hy)
      rw [e1]
      have := k.good
      unfold execOp; rw [hop]; exact this
    · cases h1
  · -- typeAssert
    rename_i x xt t ok hop
    split at h1
    · rename_i u v ti hx ht
      obtain ⟨y, hxe, hy⟩ := hev hx
      obtain ⟨d, hd, hkr⟩ := (hT.row _ _ ht).und
      obtain ⟨z, hz, hzv⟩ := run_zero hT ht
      have key : (∀ hm, ti.k ≠ .iface hm) → ∀ w, (Instr.typeAssert (.iface u y) xt t ok).run P w = if u = t then .ok (if ok then .tuple #[y, .bool true] else y) w else (if ok then .ok (.tuple #[z, .bool false]) w else (Instr.typeAssert (.iface u y) xt t ok).run P w) := by
        intro hni w
        by_cases hut : u = t
        · rw [if_pos hut]
          simp only [Instr.typeAssert, Sem.run_bind, run_underlying hd, Result.andThen_ok]
          cases hk : ti.k <;> rw [hk] at hkr <;> simp only [KR] at hkr
          case iface hm => exact absurd hk (hni hm)
          case struct fs => obtain ⟨fs', rfl, _⟩ := hkr; simp [hut]
          case func => obtain ⟨_, _, _, rfl⟩ := hkr; simp [hut]
          all_goals (subst hkr; simp [hut])
        · rw [if_neg hut]
          cases ok with
          | false => rfl
          | true =>
            simp only [Instr.typeAssert, Sem.run_bind, run_underlying hd, Result.andThen_ok, if_true]
            cases hk : ti.k <;> rw [hk] at hkr <;> simp only [KR] at hkr
            case iface hm => exact absurd hk (hni hm)
            case struct fs => obtain ⟨fs', rfl, _⟩ := hkr; simp [hut, hz]
            case func => obtain ⟨_, _, _, rfl⟩ := hkr; simp [hut, hz]
            all_goals (subst hkr; simp [hut, hz])
      split at h1
      · cases h1
      · rename_i hni
        have hk := key (fun hm hh => hni hm hh) w
        by_cases hut : u = t
        · rw [beqT.2 hut] at h1
          simp only [cond_true] at h1
          injection h1 with h1; subst h1
          rw [if_pos hut] at hk
          refine Good.same r (u := if ok then .tuple #[y, .bool true] else y) ?_ (by cases ok; exact hy; exact ⟨_, rfl, VRs.cons hy (VRs.cons rfl VRs.nil)⟩)
          simp only [execOp, hop, hxe, Sem.run_bind, hk]
          cases ok <;> rfl
        · rw [beqF.2 hut] at h1
          simp only [cond_false] at h1
          cases ok with
          | false => simp at h1
          | true =>
            simp only [cond_true] at h1
            injection h1 with h1; subst h1
            rw [if_neg hut, if_pos rfl] at hk
            refine Good.same r (u := .tuple #[z, .bool false]) ?_ ⟨_, rfl, VRs.cons (hzv β) (VRs.cons rfl VRs.nil)⟩
            simp only [execOp, hop, hxe, Sem.run_bind, hk]
            rfl
    · rename_i ti hx ht
      have hxe := hev hx
      simp only [VR] at hxe
      obtain ⟨d, hd, hkr⟩ := (hT.row _ _ ht).und
      obtain ⟨z, hz, hzv⟩ := run_zero hT ht
      split at h1
      · cases h1
      · rename_i hni
        cases ok with
        | false => simp at h1
        | true =>
          simp only [cond_true] at h1
          injection h1 with h1; subst h1
          refine Good.same r (u := .tuple #[z, .bool false]) ?_ ⟨_, rfl, VRs.cons (hzv β) (VRs.cons rfl VRs.nil)⟩
          have : (Instr.typeAssert .nilIface xt t true).run P w = .ok (.tuple #[z, .bool false]) w := by
            simp only [Instr.typeAssert, Sem.run_bind, run_underlying hd, Result.andThen_ok, if_true]
            cases hk : ti.k <;> rw [hk] at hkr <;> simp only [KR] at hkr
            case iface hm => exact absurd hk (hni hm)
            case struct fs => obtain ⟨fs', rfl, _⟩ := hkr; simp [hz]
            case func => obtain ⟨_, _, _, rfl⟩ := hkr; simp [hz]
            all_goals (subst hkr; simp [hz])
          simp only [execOp, hop, hxe, Sem.run_bind, this]
          rfl
    · cases h1
  · -- extract
    rename_i x i hop
    split at h1
    · rename_i l hl
      obtain ⟨v, hv, rfl⟩ := pure_some h1
      obtain ⟨us, hue, hus⟩ := hev hl
      obtain ⟨u, hu, hk⟩ := hus.get i v hv
      refine Good.same r (u := u) ?_ hk
      rw [Array.getElem?_toList] at hu
      simp [execOp, hop, hue, Instr.extract, hu]
    · cases h1
  · -- a builtin
    rename_i b args ts hop
    split at h1
    · rename_i xs hxs
      have k := abuiltin_ok (cs := args.map fun | .const _ => true | _ => false) (ty := o.type) hT r h1 (evs_arr r hG he hxs) hfn
      unfold execOp; rw [hop]; exact k
    · cases h1
  · cases h1
end
end Go.Ai
end
