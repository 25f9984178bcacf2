/- AiDefs -/
import GoSem.Step
set_option linter.unusedVariables false
set_option linter.unusedSimpArgs false
namespace Go.Ai

noncomputable section

inductive AFn where
  | func (f : Nat)
  | method (s : String)
  | yield (b : Nat)

inductive AV where
  | undef
  | bool (b : Bool)
  | int (k : IntKind) (n : Int)
  | nilp
  | ptr (b o : Nat)
  | nils
  | slice (b o l c : Nat) (x : Bool)
  | empt
  | nilm
  | map (b : Nat)
  | nilf
  | fn (f : AFn) (first cap : List AV)
  | nili
  | iface (t : Nat) (v : AV)
  | agg (l : List AV)
  | tup (l : List AV)

inductive Tr (α : Type) where
  | lf
  | nd (l : Tr α) (v : Option α) (r : Tr α)

namespace Tr
variable {α : Type}
def get (t : Tr α) : Nat → Option α :=
  Tr.rec (fun _ => none) (fun _ v _ gl gr n => Bool.rec (Bool.rec (gr (Nat.sub (Nat.div n 2) 1)) (gl (Nat.div n 2)) (Nat.beq (Nat.mod n 2) 1)) v (Nat.beq n 0)) t
def one (f : Nat) : Nat → α → Tr α :=
  Nat.rec (fun _ v => nd lf (some v) lf) (fun _ ih n v => Bool.rec (Bool.rec (nd lf none (ih (Nat.sub (Nat.div n 2) 1) v)) (nd (ih (Nat.div n 2) v) none lf) (Nat.beq (Nat.mod n 2) 1)) (nd lf (some v) lf) (Nat.beq n 0)) f
def set (t : Tr α) : Nat → α → Tr α :=
  Tr.rec (fun n v => one n n v) (fun l w r sl sr n v => Bool.rec (Bool.rec (nd l w (sr (Nat.sub (Nat.div n 2) 1) v)) (nd (sl (Nat.div n 2) v) w r) (Nat.beq (Nat.mod n 2) 1)) (nd l (some v) r) (Nat.beq n 0)) t
end Tr

/-- A row of a function's slots: how many, and what they hold. -/
structure Env where
  n : Nat
  t : Tr AV

def Env.get (e : Env) (i : Nat) : AV := match e.t.get i with | some v => v | none => .tup []
def Env.put (e : Env) (d : Option Nat) (v : AV) : Option Env :=
  match d with
  | none => some e
  | some i => match e with
    | ⟨n, t⟩ => Bool.rec none (some ⟨n, t.set i v⟩) (Nat.blt i n)
theorem Env.put_none (e : Env) (v : AV) : e.put none v = some e := rfl
theorem Env.put_some (e : Env) (i : Nat) (v : AV) : e.put (some i) v = bif Nat.blt i e.n then some { e with t := e.t.set i v } else none := by
  obtain ⟨n, t⟩ := e
  show (Bool.rec none (some ⟨n, t.set i v⟩) (Nat.blt i n) : Option Env) = _
  cases Nat.blt i n <;> rfl

inductive LState where
  | ready | busy | done | exhausted

structure ALoop where
  state : LState
  pending : Option Code
  fn : Nat
  env : Env
  params : List Nat
  assign : Code
  body : Code
  defers : Nat

inductive AO where
  | cells (own : Bool) (es : Nat) (vs : List AV)
  | dead
  | map (es : List (AV × AV))
  | loop (r : ALoop)
  | defr (o : Bool)

/-- 'lo': no block below it was turned since it was last set. -/
structure Heap where
  nx : Nat
  t : Tr AO
  lo : Nat

def Heap.get (h : Heap) (b : Nat) : Option AO := Bool.rec none (h.t.get b) (Nat.blt b h.nx)
theorem Heap.get_eq (h : Heap) (b : Nat) : h.get b = bif Nat.blt b h.nx then h.t.get b else none := by unfold Heap.get; cases Nat.blt b h.nx <;> rfl
def Heap.set (h : Heap) (b : Nat) (o : AO) : Heap := match h with
  | ⟨nx, t, lo⟩ => ⟨nx, t.set b o, bif Nat.ble lo b then lo else b⟩
def Heap.push (h : Heap) (o : AO) : Heap := match h with
  | ⟨nx, t, lo⟩ => ⟨nx + 1, t.set nx o, lo⟩
theorem Heap.set_eq (h : Heap) (b : Nat) (o : AO) : h.set b o = { nx := h.nx, t := h.t.set b o, lo := bif Nat.ble h.lo b then h.lo else b } := by cases h; rfl
theorem Heap.push_eq (h : Heap) (o : AO) : h.push o = { nx := h.nx + 1, t := h.t.set h.nx o, lo := h.lo } := by cases h; rfl

/-! ### Types -/
inductive TK where
  | int (k : IntKind)
  | bool
  | ptr (e : Nat)
  | slice (e : Nat)
  | array (n e : Nat)
  | map (k e : Nat)
  | struct (fs : List (Nat × Nat))
  | iface (hasMethods : Bool)
  | func

structure TI where
  k : TK
  size : Nat
  bytes : Nat
  zero : AV
  methods : List (String × Nat × Option Nat)     -- of methods without a path: the function; where the receiver is what the pointer leads to: its type
  plain : Option (List (Option IntKind))         -- of a struct or array of whole numbers and bools alone, however deep: its cells' kinds ('none': a bool)

/-- The rows of the types that occur; of the package-level variables the first 'G' lie in the blocks of their own numbers. -/
structure Types where
  tr : Tr TI
  G : Nat

def Types.get (T : Types) (t : Nat) : Option TI := T.tr.get t

abbrev Funcs := Tr Func

def TK.isAgg : TK → Bool
  | .struct _ => true
  | .array _ _ => true
  | _ => false

def Types.fields (T : Types) (t : Nat) : Option (List (Nat × Nat)) :=
  match T.get t with
  | some ti => match ti.k with
    | .struct fs => some fs
    | _ => none
  | none => none
def Types.field (T : Types) (t f : Nat) : Option (TI × Nat) :=
  match T.fields t with
  | some fs => match fs[f]? with
    | some (u, off) => match T.get u with
      | some ui => some (ui, off)
      | none => none
    | none => none
  | none => none
/-- a slice's elements -/
def Types.elem (T : Types) (t : Nat) : Option TI :=
  match T.get t with
  | some ti => match ti.k with
    | .slice e => T.get e
    | _ => none
  | none => none
def Types.arr (T : Types) (t : Nat) : Option (Nat × TI) :=
  match T.get t with
  | some ti => match ti.k with
    | .array n e => match T.get e with
      | some ei => some (n, ei)
      | none => none
    | _ => none
  | none => none
/-- a map's keys' type, and its elements -/
def Types.mapOf (T : Types) (t : Nat) : Option (Nat × TI) :=
  match T.get t with
  | some ti => match ti.k with
    | .map k e => match T.get e with
      | some ei => some (k, ei)
      | none => none
    | _ => none
  | none => none

/-! ### Values -/
def AV.cells? : AV → Option (List AV)
  | .undef => none
  | .tup _ => none
  | .agg l => some l
  | v => some [v]

def AV.isCell : AV → Bool
  | .undef => false
  | .agg _ => false
  | .tup _ => false
  | _ => true

/-- A constant of the code's. -/
def cv : Value → Option AV
  | .bool b => some (.bool b)
  | .int k n => some (.int k n)
  | .pointer none => some .nilp
  | .slice none 0 0 => some .nils
  | .map none => some .nilm
  | .nilFunc => some .nilf
  | .nilIface => some .nili
  | .agg vs => (cvs vs.toList).map .agg
  | _ => none
where
  cvs : List Value → Option (List AV)
    | [] => some []
    | .bool b :: l => (cvs l).map (.bool b :: ·)
    | .int k n :: l => (cvs l).map (.int k n :: ·)
    | .pointer none :: l => (cvs l).map (.nilp :: ·)
    | .slice none 0 0 :: l => (cvs l).map (.nils :: ·)
    | .map none :: l => (cvs l).map (.nilm :: ·)
    | .nilFunc :: l => (cvs l).map (.nilf :: ·)
    | .nilIface :: l => (cvs l).map (.nili :: ·)
    | _ => none

def ev (T : Types) (e : Env) : Operand → Option AV
  | .tmp t => some (e.get t)
  | .const v => cv v
  | .global g => bif Nat.blt g T.G then some (.ptr g 0) else none
  | .func f => some (.fn (.func f) [] [])

def evs (T : Types) (e : Env) : List Operand → Option (List AV)
  | [] => some []
  | o :: r => match ev T e o, evs T e r with
    | some v, some l => some (v :: l)
    | _, _ => none

def evo (T : Types) (e : Env) : Option Operand → Option (Option AV)
  | none => some none
  | some o => match ev T e o with
    | some v => some (some v)
    | none => none

def evp (T : Types) (e : Env) : List (Nat × Operand) → Option (List (Nat × AV))
  | [] => some []
  | (i, o) :: r => match ev T e o, evp T e r with
    | some v, some l => some ((i, v) :: l)
    | _, _ => none

/-- 'l' with 'xs' written from 'o' on; 'none' where it does not fit -/
def over : List AV → Nat → List AV → Option (List AV)
  | l, 0, [] => some l
  | [], _, _ => none
  | _ :: l, 0, x :: xs => (over l 0 xs).map (x :: ·)
  | y :: l, o + 1, xs => (over l o xs).map (y :: ·)

/-- n cells from o on -/
def cut (l : List AV) (o n : Nat) : Option (List AV) := bif Nat.ble (o + n) l.length then some ((l.drop o).take n) else none

def part (t : TI) (l : List AV) (o : Nat) : Option AV :=
  match t.k with
  | .struct _ => (cut l o t.size).map .agg
  | .array _ _ => (cut l o t.size).map .agg
  | _ => l[o]?

def fill (place : Nat → Option (Nat × Nat)) (cs : List AV) : List (Nat × AV) → Option (List AV)
  | [] => some cs
  | (i, v) :: rest => match place i, v.cells? with
    | some (o, s), some xs => bif Nat.beq xs.length s then (match over cs o xs with | some cs' => fill place cs' rest | none => none) else none
    | _, _ => none

def ifSame (k k' : IntKind) (v : AV) : Option AV := bif decide (k = k') then some v else none

def iop (op : BinOp) (k : IntKind) (a : Int) (k' : IntKind) (b : Int) : Option AV :=
  match op with
  | .shl => bif decide (b < 0) then none else some (.int k (k.wrap (a * 2 ^ (min b.toNat k.bits))))
  | .shr => bif decide (b < 0) then none else some (.int k (a.fdiv (2 ^ (min b.toNat k.bits))))
  | .add => ifSame k k' (.int k (k.wrap (a + b)))
  | .sub => ifSame k k' (.int k (k.wrap (a - b)))
  | .mul => ifSame k k' (.int k (k.wrap (a * b)))
  | .quo => bif decide (b = 0) then none else ifSame k k' (.int k (k.wrap (a.tdiv b)))
  | .rem => bif decide (b = 0) then none else ifSame k k' (.int k (a.tmod b))
  | .and => ifSame k k' (.int k (k.wrap (BitVec.ofInt k.bits a &&& BitVec.ofInt k.bits b).toNat))
  | .or => ifSame k k' (.int k (k.wrap (BitVec.ofInt k.bits a ||| BitVec.ofInt k.bits b).toNat))
  | .xor => ifSame k k' (.int k (k.wrap (BitVec.ofInt k.bits a ^^^ BitVec.ofInt k.bits b).toNat))
  | .andNot => ifSame k k' (.int k (k.wrap (BitVec.ofInt k.bits a &&& ~~~ BitVec.ofInt k.bits b).toNat))
  | .eql => ifSame k k' (.bool (a == b))
  | .neq => ifSame k k' (.bool (a != b))
  | .lss => ifSame k k' (.bool (a < b))
  | .leq => ifSame k k' (.bool (a ≤ b))
  | .gtr => ifSame k k' (.bool (a > b))
  | .geq => ifSame k k' (.bool (a ≥ b))

/-- two cells of plain data, of some kind -/
def eqCell : Option IntKind → AV → AV → Option Bool
  | some q, .int k a, .int k' b => bif decide (k = q) && decide (k' = q) then some (a == b) else none
  | none, .bool a, .bool b => some (a == b)
  | _, _, _ => none

def eqCells : List (Option IntKind) → List AV → List AV → Option Bool
  | [], [], [] => some true
  | k :: ks, a :: l, b :: r => match eqCell k a b with
    | some true => eqCells ks l r
    | some false => some false
    | none => none
  | _, _, _ => none

def typed : List (Option IntKind) → List AV → Bool
  | [], [] => true
  | some q :: ks, .int k _ :: l => decide (k = q) && typed ks l
  | none :: ks, .bool _ :: l => typed ks l
  | _, _ => false

/-! ### One operation -/
/-- What an operation did: its value, the blocks that it looked into, those that it turned, those that it laid. -/
structure Out where
  v : AV
  rd : List Nat
  up : List (Nat × AO)
  nw : List AO

def Out.pure (v : AV) : Out := ⟨v, [], [], []⟩

def Heap.sets (h : Heap) (l : List (Nat × AO)) : Heap := (List.rec (motive := fun _ => Heap → Heap) (fun h => h) (fun p _ ih h => ih (h.set p.1 p.2)) l) h
def Heap.pushes (h : Heap) (l : List AO) : Heap := (List.rec (motive := fun _ => Heap → Heap) (fun h => h) (fun o _ ih h => ih (h.push o)) l) h
theorem Heap.sets_nil (h : Heap) : h.sets [] = h := rfl
theorem Heap.sets_cons (h : Heap) (b : Nat) (o : AO) (r : List (Nat × AO)) : h.sets ((b, o) :: r) = (h.set b o).sets r := rfl
theorem Heap.pushes_nil (h : Heap) : h.pushes [] = h := rfl
theorem Heap.pushes_cons (h : Heap) (o : AO) (r : List AO) : h.pushes (o :: r) = (h.push o).pushes r := rfl
def Heap.apply (h : Heap) (o : Out) : Heap := (h.sets o.up).pushes o.nw

/-- A bound that no slice of these programs comes near. -/
def small : Nat := 2 ^ 31

abbrev Getter := Nat → Option AO

def aload (T : Types) (g : Getter) (t : Nat) (a : AV) : Option Out :=
  match a, T.get t with
  | .ptr b o, some ti => match g b with
    | some (.cells _ _ vs) => (part ti vs o).map fun v => ⟨v, [b], [], []⟩
    | _ => none
  | _, _ => none

def astore (T : Types) (g : Getter) (t : Nat) (a x : AV) : Option Out :=
  match a, T.get t, x.cells? with
  | .ptr b o, some ti, some xs => match g b with
    | some (.cells true es vs) => bif Nat.beq xs.length ti.size && xs.all AV.isCell then (over vs o xs).map fun vs' => ⟨.tup [], [], [(b, .cells true es vs')], []⟩ else none
    | _ => none
  | _, _, _ => none

def afieldAddr (T : Types) (s : Nat) (x : AV) (f : Nat) : Option Out :=
  match x with
  | .ptr b o => match T.field s f with
    | some (ti, off) => bif Nat.beq ti.size 0 then none else some (.pure (.ptr b (o + off)))
    | none => none
  | _ => none

def afield (T : Types) (s : Nat) (x : AV) (f : Nat) : Option Out :=
  match x with
  | .agg l => match T.field s f with
    | some (ti, off) => (part ti l off).map .pure
    | none => none
  | _ => none

def inRange (n : Int) (l : Nat) : Bool := decide (0 ≤ n) && decide (n < l)

def aindexAddr (T : Types) (t : Nat) (x i : AV) : Option Out :=
  match i with
  | .int _ n => match x with
    | .slice b o l _ _ => match T.elem t with
      | some ei => bif inRange n l then some (.pure (.ptr b (o + n.toNat * ei.size))) else none
      | none => none
    | .ptr b o => match T.arr t with
      | some (l, ei) => bif inRange n l then some (.pure (.ptr b (o + n.toNat * ei.size))) else none
      | none => none
    | _ => none
  | _ => none

def aindex (T : Types) (t : Nat) (x i : AV) : Option Out :=
  match i with
  | .int _ n => match x with
    | .agg cs => match T.arr t with
      | some (l, ei) => bif inRange n l then (part ei cs (n.toNat * ei.size)).map .pure else none
      | none => none
    | _ => none
  | _ => none

def abuild (T : Types) (t : Nat) (ps : List (Nat × AV)) : Option Out :=
  match T.get t with
  | some ti => match ti.zero with
    | .agg z => match ti.k with
      | .array _ e => match T.get e with
        | some ei => (fill (fun i => some (i * ei.size, ei.size)) z ps).map fun l => .pure (.agg l)
        | none => none
      | .struct _ => (fill (fun i => match T.field t i with | some (ui, off) => some (off, ui.size) | none => none) z ps).map fun l => .pure (.agg l)
      | _ => none
    | _ => none
  | none => none

def reps (n : Nat) (z : List AV) : List AV := match n with | 0 => [] | n + 1 => z ++ reps n z

def abuildSlice (T : Types) (nx : Nat) (t n : Nat) (ps : List (Nat × AV)) : Option Out :=
  match T.elem t with
  | some ei => match ei.zero.cells? with
    | some z => bif Nat.ble (n * ei.size) (2 ^ 24) && Nat.blt 0 ei.size && Nat.beq z.length ei.size then
        (match fill (fun i => some (i * ei.size, ei.size)) (reps n z) ps with
        | some cs => bif cs.all AV.isCell then some ⟨.slice nx 0 n n true, [], [], [.cells true ei.size cs]⟩ else none
        | none => none) else none
    | none => none
  | none => none

def abox (T : Types) (nx : Nat) (t : Nat) (v : AV) : Option Out :=
  match T.get t, v.cells? with
  | some ti, some cs => bif Nat.beq cs.length ti.size && cs.all AV.isCell then some ⟨.ptr nx 0, [], [], [.cells true ti.size cs]⟩ else none
  | _, _ => none

def amakeSlice (T : Types) (nx : Nat) (t : Nat) (l c : AV) : Option Out :=
  match l, c with
  | .int _ l, .int _ c => match T.elem t with
    | some ei => match ei.zero.cells? with
      | some z => bif decide (0 ≤ l) && decide (l ≤ c) && decide (c ≤ small) && Nat.ble ei.bytes 65536 && Nat.blt 0 ei.size && Nat.beq z.length ei.size && z.all AV.isCell then
          some ⟨.slice nx 0 l.toNat c.toNat true, [], [], [.cells true ei.size (reps c.toNat z)]⟩ else none
      | none => none
    | none => none
  | _, _ => none

/-- A bound of a slice expression: from 0 to y. -/
def bound (y : Nat) : AV → Option Nat
  | .int _ n => bif decide (0 ≤ n) && decide (n ≤ y) then some n.toNat else none
  | _ => none

def mxOf (c : Nat) (ex : Bool) : Option AV → Option (Nat × Bool)
  | none => some (c, ex)
  | some v => (bound c v).map fun m => (m, true)
def hiOf (l m : Nat) (full : Bool) : Option AV → Option Nat
  | none => bif full then none else some l
  | some v => bound m v
def loOf (h : Nat) : Option AV → Option Nat
  | none => some 0
  | some v => bound h v

def aslice (T : Types) (g : Getter) (t : Nat) (x : AV) (lo hi mx : Option AV) : Option Out :=
  match T.elem t with
  | some ei =>
    match x with
    | .slice b o l c ex =>
      match mxOf c ex mx with
      | none => none
      | some (m, mex) =>
        match hiOf l m mx.isSome hi with
        | none => none
        | some h =>
          match loOf h lo with
          | none => none
          | some lo => bif Nat.beq lo 0 then some (.pure (.slice b o h m mex))
            else bif Nat.blt lo m then
              (match g b with
              | some (.cells own es _) => bif !own || Nat.beq es ei.size then some ⟨.slice b (o + lo * ei.size) (h - lo) (m - lo) mex, [b], [], []⟩ else none
              | _ => none)
            else some (.pure .empt)
    | .nils =>
      match mxOf 0 true mx with
      | none => none
      | some (m, _) => match hiOf 0 m mx.isSome hi with
        | none => none
        | some h => match loOf h lo with
          | none => none
          | some _ => some (.pure .nils)
    | _ => none
  | none => none

/-- The cells of a slice that is appended, and the block that they are read from. -/
def srcCells (g : Getter) (size : Nat) : AV → Option (Nat × List AV × List Nat)
  | .nils => some (0, [], [])
  | .empt => some (0, [], [])
  | .slice b o l _ _ => bif Nat.beq l 0 then some (0, [], []) else
    match g b with
    | some (.cells _ _ vs) => (cut vs o (l * size)).map fun xs => (l, xs, [b])
    | _ => none
  | _ => none

def TI.okElem (ti : TI) : Bool := Nat.blt 0 ti.size && Nat.ble ti.bytes 65536 && (match ti.zero.cells? with | some z => Nat.beq z.length ti.size | none => false)

def aappend (T : Types) (g : Getter) (nx : Nat) (ts tx : Nat) (d s : AV) : Option Out :=
  match T.elem ts, T.elem tx with
  | some ei, some _ => bif !ei.okElem then none else
    match srcCells g ei.size s with
    | none => none
    | some (n, xs, rd) =>
      bif !(xs.all AV.isCell) then none else
      match d with
      | .nils => bif Nat.beq n 0 then some (.pure .nils) else bif Nat.ble n small then some ⟨.slice nx 0 n n false, rd, [], [.cells true ei.size xs]⟩ else none
      | .slice b o l c ex =>
        bif Nat.beq n 0 then some (.pure (.slice b o l c ex)) else
        bif !(Nat.ble (l + n) small) then none else
        match (bif ex && Nat.beq l 0 && Nat.blt c n then some (AO.cells false 0 []) else g b) with
        | some (.cells own es vs) =>
          bif Nat.ble (l + n) c then
            (bif own then (over vs (o + l * ei.size) xs).map fun vs' => ⟨.slice b o (l + n) c ex, b :: rd, [(b, .cells true es vs')], []⟩ else none)
          else
            match (bif Nat.beq l 0 then some [] else cut vs o (l * ei.size)) with
            | some old => bif old.all AV.isCell && Nat.beq old.length (l * ei.size) then
                (bif ex then some ⟨.slice nx 0 (l + n) (l + n) false, bif Nat.beq l 0 then rd else b :: rd, [], [.cells true ei.size (old ++ xs)]⟩
                else bif own && Nat.beq es ei.size then some ⟨.slice nx 0 (l + n) (l + n) false, b :: rd, [(b, .dead)], [.cells true ei.size (old ++ xs)]⟩
                else none) else none
            | none => none
        | _ => none
      | _ => none
  | _, _ => none

/-- A key of a map: its cells, where it is plain. -/
def keyCells (T : Types) (t : Nat) (k : AV) : Option (List (Option IntKind) × List AV) :=
  match k with
  | .agg l => match T.get t with
    | some ti => match ti.plain with
      | some ks => bif typed ks l then some (ks, l) else none
      | none => none
    | none => none
  | _ => none

def findKey (ks : List (Option IntKind)) (l : List AV) : List (AV × AV) → Nat → Option (Option (Nat × AV))
  | [], _ => some none
  | (.agg cs, v) :: r, i => match eqCells ks l cs with
    | some true => some (some (i, v))
    | some false => findKey ks l r (i + 1)
    | none => none
  | _ :: _, _ => none

def alookup (T : Types) (g : Getter) (t : Nat) (m k : AV) (ok : Bool) : Option Out :=
  match T.mapOf t with
  | some (kt, ei) => match keyCells T kt k with
    | some (ks, l) =>
      let ans (v : AV) (is : Bool) (rd : List Nat) : Out := ⟨bif ok then .tup [v, .bool is] else v, rd, [], []⟩
      match m with
      | .nilm => some (ans ei.zero false [])
      | .map b => match g b with
        | some (.map es) => match findKey ks l es 0 with
          | some (some (_, v)) => some (ans v true [b])
          | some none => some (ans ei.zero false [b])
          | none => none
        | _ => none
      | _ => none
    | none => none
  | none => none

def setAt : List (AV × AV) → Nat → AV × AV → List (AV × AV)
  | [], _, _ => []
  | _ :: r, 0, e => e :: r
  | x :: r, i + 1, e => x :: setAt r i e

def amapUpdate (T : Types) (g : Getter) (t : Nat) (m k v : AV) : Option Out :=
  match T.mapOf t with
  | some (kt, _) => match m with
    | .map b => match keyCells T kt k, g b with
      | some (ks, l), some (.map es) => match findKey ks l es 0 with
        | some (some (i, _)) => some ⟨.tup [], [], [(b, .map (setAt es i (k, v)))], []⟩
        | some none => some ⟨.tup [], [], [(b, .map (es ++ [(k, v)]))], []⟩
        | none => none
      | _, _ => none
    | _ => none
  | none => none

/-- '==' and '!=' alone -/
def eqop (op : BinOp) (b : Bool) : Option AV :=
  match op with
  | .eql => some (.bool b)
  | .neq => some (.bool (!b))
  | _ => none

def abin (T : Types) (op : BinOp) (t : Nat) (x y : AV) (cx cy : Bool) : Option AV :=
  match x, y with
  | .int k a, .int k' b => iop op k a k' b
  | .bool a, .bool b => match T.get t with
    | some ti => match ti.k with
      | .bool => eqop op (a == b)
      | _ => none
    | none => none
  | .agg xs, .agg ys => match T.get t with
    | some ti => match ti.plain with
      | some ks => match eqCells ks xs ys with
        | some b => eqop op b
        | none => none
      | none => none
    | none => none
  | .nili, .nili => match T.get t with
    | some ti => match ti.k with
      | .iface _ => bif cx || cy then eqop op true else none
      | _ => none
    | none => none
  | .iface _ _, .nili => match T.get t with
    | some ti => match ti.k with
      | .iface _ => eqop op false
      | _ => none
    | none => none
  | .ptr _ _, .nilp => match T.get t with
    | some ti => match ti.k with
      | .ptr _ => eqop op false
      | _ => none
    | none => none
  | .nilp, .nilp => match T.get t with
    | some ti => match ti.k with
      | .ptr _ => eqop op true
      | _ => none
    | none => none
  | .nils, .nils => match T.get t with
    | some ti => match ti.k with
      | .slice _ => eqop op true
      | _ => none
    | none => none
  | .slice .., .nils => match T.get t with
    | some ti => match ti.k with
      | .slice _ => eqop op false
      | _ => none
    | none => none
  | _, _ => none

def aun (op : UnOp) (x : AV) : Option AV :=
  match op, x with
  | .not, .bool b => some (.bool !b)
  | .neg, .int k n => some (.int k (k.wrap (0 - n)))
  | _, _ => none

def alen (T : Types) (g : Getter) (t : Nat) (x : AV) : Option Out :=
  match T.get t with
  | some ti => match ti.k with
    | .slice _ => match x with
      | .nils => some (.pure (.int .i64 0))
      | .empt => some (.pure (.int .i64 0))
      | .slice _ _ l _ _ => some (.pure (.int .i64 l))
      | _ => none
    | .array n _ => some (.pure (.int .i64 n))
    | .map _ _ => match x with
      | .nilm => some (.pure (.int .i64 0))
      | .map b => match g b with
        | some (.map es) => some ⟨.int .i64 es.length, [b], [], []⟩
        | _ => none
      | _ => none
    | _ => none
  | none => none

def acap (T : Types) (t : Nat) (x : AV) : Option Out :=
  match T.elem t, x with
  | some _, .slice _ _ _ c true => some (.pure (.int .i64 c))
  | _, _ => none

def mxl : AV → List AV → Option AV
  | x, [] => some x
  | .int k x, .int k' y :: r => bif decide (k = k') then mxl (.int k (bif decide (y > x) then y else x)) r else none
  | _, _ => none
def mnl : AV → List AV → Option AV
  | x, [] => some x
  | .int k x, .int k' y :: r => bif decide (k = k') then mnl (.int k (bif decide (y < x) then y else x)) r else none
  | _, _ => none
def isInt : AV → Bool
  | .int _ _ => true
  | _ => false

def abuiltin (T : Types) (g : Getter) (nx : Nat) (b : Builtin) (ts : List Nat) (xs : List AV) : Option Out :=
  match b, ts, xs with
  | .len, [t], [x] => alen T g t x
  | .cap, [t], [x] => acap T t x
  | .append, [ts, tx], [d, s] => aappend T g nx ts tx d s
  | .max, _, x :: r => bif isInt x then (mxl x r).map .pure else none
  | .min, _, x :: r => bif isInt x then (mnl x r).map .pure else none
  | _, _, _ => none

def isConst : Operand → Bool
  | .const _ => true
  | _ => false

/-- An operation that calls nothing. -/
def oMove (x : Operand) (T : Types) (g : Getter) (nx : Nat) (e : Env) : Option Out :=
  (ev T e x).map .pure

def oAssign (x : Operand) (T : Types) (g : Getter) (nx : Nat) (e : Env) : Option Out :=
  (ev T e x).map .pure

def oPick (c a b : Operand) (T : Types) (g : Getter) (nx : Nat) (e : Env) : Option Out :=
  match ev T e c, ev T e a, ev T e b with
    | some (.bool t), some x, some y => some (.pure (bif t then x else y))
    | _, _, _ => none

def oAlloc (t : TypeId) (T : Types) (g : Getter) (nx : Nat) (e : Env) : Option Out :=
  match T.get t with
    | some ti => abox T nx t ti.zero
    | none => none

def oBox (t : TypeId) (x : Operand) (T : Types) (g : Getter) (nx : Nat) (e : Env) : Option Out :=
  match ev T e x with
    | some v => abox T nx t v
    | none => none

def oBuild (t : TypeId) (ps : Array (Nat × Operand)) (T : Types) (g : Getter) (nx : Nat) (e : Env) : Option Out :=
  match evp T e ps.toList with
    | some l => abuild T t l
    | none => none

def oBuildSlice (t : TypeId) (n : Nat) (ps : Array (Nat × Operand)) (T : Types) (g : Getter) (nx : Nat) (e : Env) : Option Out :=
  match evp T e ps.toList with
    | some l => abuildSlice T nx t n l
    | none => none

def oInsert (t : TypeId) (m k v : Operand) (T : Types) (g : Getter) (nx : Nat) (e : Env) : Option Out :=
  match ev T e m, ev T e k, ev T e v with
    | some m, some k, some v => amapUpdate T g t m k v
    | _, _, _ => none

def oLoad (t : TypeId) (a : Operand) (T : Types) (g : Getter) (nx : Nat) (e : Env) : Option Out :=
  match ev T e a with
    | some v => aload T g t v
    | none => none

def oStore (t : TypeId) (a x : Operand) (T : Types) (g : Getter) (nx : Nat) (e : Env) : Option Out :=
  match ev T e a, ev T e x with
    | some v, some u => astore T g t v u
    | _, _ => none

def oNilCheck (x : Operand) (T : Types) (g : Getter) (nx : Nat) (e : Env) : Option Out :=
  match ev T e x with
    | some (.ptr b o) => some (.pure (.ptr b o))
    | some (.fn (.func f) x y) => some (.pure (.fn (.func f) x y))
    | _ => none

def oBinOp (op : BinOp) (t : TypeId) (x y : Operand) (_ : TypeId) (T : Types) (g : Getter) (nx : Nat) (e : Env) : Option Out :=
  match ev T e x, ev T e y with
    | some a, some b => (abin T op t a b (isConst x) (isConst y)).map .pure
    | _, _ => none

def oUnOp (op : UnOp) (_ : TypeId) (x : Operand) (T : Types) (g : Getter) (nx : Nat) (e : Env) : Option Out :=
  match ev T e x with
    | some a => (aun op a).map .pure
    | none => none

def oConvert (s d : TypeId) (x : Operand) (T : Types) (g : Getter) (nx : Nat) (e : Env) : Option Out :=
  match ev T e x, T.get s, T.get d with
    | some (.int _ n), some _, some ti => match ti.k with
      | .int k => some (.pure (.int k (k.wrap n)))
      | _ => none
    | _, _, _ => none

def oMakeInterface (t : TypeId) (x : Operand) (T : Types) (g : Getter) (nx : Nat) (e : Env) : Option Out :=
  match ev T e x, T.get t with
    | some v, some ti => match ti.k with
      | .iface _ => none
      | _ => match v with
        | .undef => none
        | v => some (.pure (.iface t v))
    | _, _ => none

def oMakeFunc (f : Fn) (xs ys : Array Operand) (T : Types) (g : Getter) (nx : Nat) (e : Env) : Option Out :=
  match (match f with | .func n => some (AFn.func n) | .method s => some (AFn.method s) | _ => none), evs T e xs.toList, evs T e ys.toList with
    | some f, some a, some b => some (.pure (.fn f a b))
    | _, _, _ => none

def oMakeMap (t : TypeId) (r : Option Operand) (T : Types) (g : Getter) (nx : Nat) (e : Env) : Option Out :=
  match r with
    | none => some ⟨.map nx, [], [], [.map []]⟩
    | some _ => none

def oMakeSlice (t : TypeId) (l c : Operand) (T : Types) (g : Getter) (nx : Nat) (e : Env) : Option Out :=
  match ev T e l, ev T e c with
    | some l, some c => amakeSlice T nx t l c
    | _, _ => none

def oSlice (t : TypeId) (x : Operand) (lo hi mx : Option Operand) (T : Types) (g : Getter) (nx : Nat) (e : Env) : Option Out :=
  match ev T e x, evo T e lo, evo T e hi, evo T e mx with
    | some v, some lo, some hi, some mx => aslice T g t v lo hi mx
    | _, _, _, _ => none

def oFieldAddr (s : TypeId) (x : Operand) (f : Nat) (T : Types) (g : Getter) (nx : Nat) (e : Env) : Option Out :=
  match ev T e x with
    | some v => afieldAddr T s v f
    | none => none

def oField (s : TypeId) (x : Operand) (f : Nat) (T : Types) (g : Getter) (nx : Nat) (e : Env) : Option Out :=
  match ev T e x with
    | some v => afield T s v f
    | none => none

def oIndexAddr (t : TypeId) (x i : Operand) (T : Types) (g : Getter) (nx : Nat) (e : Env) : Option Out :=
  match ev T e x, ev T e i with
    | some v, some i => aindexAddr T t v i
    | _, _ => none

def oIndex (t : TypeId) (x i : Operand) (T : Types) (g : Getter) (nx : Nat) (e : Env) : Option Out :=
  match ev T e x, ev T e i with
    | some v, some i => aindex T t v i
    | _, _ => none

def oLookup (t : TypeId) (m k : Operand) (ok : Bool) (T : Types) (g : Getter) (nx : Nat) (e : Env) : Option Out :=
  match ev T e m, ev T e k with
    | some m, some k => alookup T g t m k ok
    | _, _ => none

def oMapUpdate (t : TypeId) (m k v : Operand) (T : Types) (g : Getter) (nx : Nat) (e : Env) : Option Out :=
  match ev T e m, ev T e k, ev T e v with
    | some m, some k, some v => amapUpdate T g t m k v
    | _, _, _ => none

def oTypeAssert (x : Operand) (_ t : TypeId) (ok : Bool) (T : Types) (g : Getter) (nx : Nat) (e : Env) : Option Out :=
  match ev T e x, T.get t with
    | some (.iface u v), some ti => match ti.k with
      | .iface _ => none
      | _ => bif Nat.beq u t then some (.pure (bif ok then .tup [v, .bool true] else v)) else bif ok then some (.pure (.tup [ti.zero, .bool false])) else none
    | some .nili, some ti => match ti.k with
      | .iface _ => none
      | _ => bif ok then some (.pure (.tup [ti.zero, .bool false])) else none
    | _, _ => none

def oExtract (x : Operand) (i : Nat) (T : Types) (g : Getter) (nx : Nat) (e : Env) : Option Out :=
  match ev T e x with
    | some (.tup l) => (l[i]?).map .pure
    | _ => none

def oCall (c : Call) (T : Types) (g : Getter) (nx : Nat) (e : Env) : Option Out :=
  match c with
    | { callee := .builtin b, args, argTypes } => match evs T e args.toList with
      | some xs => abuiltin T g nx b argTypes.toList xs
      | none => none
    | _ => none

def aop (T : Types) (g : Getter) (nx : Nat) (e : Env) (op : Op) : Option Out :=
  (Op.rec (motive := fun _ => Types → Getter → Nat → Env → Option Out) oMove oAssign oPick oAlloc oBox oBuild oBuildSlice oInsert oLoad oStore (fun _ _ _ _ _ => none) (fun _ _ _ _ _ => none) oNilCheck oBinOp oUnOp oConvert (fun _ _ _ _ _ _ => none) oMakeInterface oMakeFunc oMakeMap (fun _ _ _ _ _ _ => none) oMakeSlice oSlice oFieldAddr oField oIndexAddr oIndex oLookup oMapUpdate (fun _ _ _ _ _ _ _ => none) (fun _ _ _ _ _ _ _ _ => none) (fun _ _ _ _ _ _ => none) (fun _ _ _ _ _ _ => none) (fun _ _ _ _ _ => none) oTypeAssert oExtract oCall (fun _ _ _ _ _ => none) (fun _ _ _ _ _ => none) (fun _ _ _ _ _ => none) (fun _ _ _ _ _ _ => none) (fun _ _ _ _ _ _ _ => none) (fun _ _ _ _ _ _ => none) op) T g nx e

/-- The same, by a match. -/
def aopM (T : Types) (g : Getter) (nx : Nat) (e : Env) : Op → Option Out
  | .move x => (ev T e x).map .pure
  | .assign x => (ev T e x).map .pure
  | .pick c a b => match ev T e c, ev T e a, ev T e b with
    | some (.bool t), some x, some y => some (.pure (bif t then x else y))
    | _, _, _ => none
  | .alloc t => match T.get t with
    | some ti => abox T nx t ti.zero
    | none => none
  | .box t x => match ev T e x with
    | some v => abox T nx t v
    | none => none
  | .build t ps => match evp T e ps.toList with
    | some l => abuild T t l
    | none => none
  | .buildSlice t n ps => match evp T e ps.toList with
    | some l => abuildSlice T nx t n l
    | none => none
  | .load t a => match ev T e a with
    | some v => aload T g t v
    | none => none
  | .store t a x => match ev T e a, ev T e x with
    | some v, some u => astore T g t v u
    | _, _ => none
  | .nilCheck x => match ev T e x with
    | some (.ptr b o) => some (.pure (.ptr b o))
    | some (.fn (.func f) x y) => some (.pure (.fn (.func f) x y))
    | _ => none
  | .binOp op t x y _ => match ev T e x, ev T e y with
    | some a, some b => (abin T op t a b (isConst x) (isConst y)).map .pure
    | _, _ => none
  | .unOp op _ x => match ev T e x with
    | some a => (aun op a).map .pure
    | none => none
  | .convert s d x => match ev T e x, T.get s, T.get d with
    | some (.int _ n), some _, some ti => match ti.k with
      | .int k => some (.pure (.int k (k.wrap n)))
      | _ => none
    | _, _, _ => none
  | .makeInterface t x => match ev T e x, T.get t with
    | some v, some ti => match ti.k with
      | .iface _ => none
      | _ => match v with
        | .undef => none
        | v => some (.pure (.iface t v))
    | _, _ => none
  | .makeFunc f xs ys => match (match f with | .func n => some (AFn.func n) | .method s => some (AFn.method s) | _ => none), evs T e xs.toList, evs T e ys.toList with
    | some f, some a, some b => some (.pure (.fn f a b))
    | _, _, _ => none
  | .makeMap _ none => some ⟨.map nx, [], [], [.map []]⟩
  | .makeSlice t l c => match ev T e l, ev T e c with
    | some l, some c => amakeSlice T nx t l c
    | _, _ => none
  | .slice t x lo hi mx => match ev T e x, evo T e lo, evo T e hi, evo T e mx with
    | some v, some lo, some hi, some mx => aslice T g t v lo hi mx
    | _, _, _, _ => none
  | .fieldAddr s x f => match ev T e x with
    | some v => afieldAddr T s v f
    | none => none
  | .field s x f => match ev T e x with
    | some v => afield T s v f
    | none => none
  | .indexAddr t x i => match ev T e x, ev T e i with
    | some v, some i => aindexAddr T t v i
    | _, _ => none
  | .index t x i => match ev T e x, ev T e i with
    | some v, some i => aindex T t v i
    | _, _ => none
  | .lookup t m k ok => match ev T e m, ev T e k with
    | some m, some k => alookup T g t m k ok
    | _, _ => none
  | .mapUpdate t m k v => match ev T e m, ev T e k, ev T e v with
    | some m, some k, some v => amapUpdate T g t m k v
    | _, _, _ => none
  | .insert t m k v => match ev T e m, ev T e k, ev T e v with
    | some m, some k, some v => amapUpdate T g t m k v
    | _, _, _ => none
  | .typeAssert x _ t ok => match ev T e x, T.get t with
    | some (.iface u v), some ti => match ti.k with
      | .iface _ => none
      | _ => bif Nat.beq u t then some (.pure (bif ok then .tup [v, .bool true] else v)) else bif ok then some (.pure (.tup [ti.zero, .bool false])) else none
    | some .nili, some ti => match ti.k with
      | .iface _ => none
      | _ => bif ok then some (.pure (.tup [ti.zero, .bool false])) else none
    | _, _ => none
  | .extract x i => match ev T e x with
    | some (.tup l) => (l[i]?).map .pure
    | _ => none
  | .call { callee := .builtin b, args, argTypes } => match evs T e args.toList with
    | some xs => abuiltin T g nx b argTypes.toList xs
    | none => none
  | _ => none

theorem aop_eq (T : Types) (g : Getter) (nx : Nat) (e : Env) (op : Op) : aop T g nx e op = aopM T g nx e op := by
  cases op <;> first
    | rfl
    | (rename_i t r; cases r <;> rfl)
    | (rename_i c; obtain ⟨callee, args, ts⟩ := c; cases callee <;> rfl)


/-! ### Calls, regions, code -/
inductive Req where
  | func (f : Nat) (args : List AV)
  | round (l : Nat) (args : List AV)

inductive Res where
  | ret (v : AV)
  | pan (v : AV)

abbrev Caller := Req → Heap → Option (Res × Heap)

def amethod (T : Types) (g : Getter) (t : Nat) (v : AV) (name : String) : Option (Nat × AV) :=
  match T.get t with
  | some ti => match ti.methods.find? (fun m => m.1 == name) with
    | some (_, f, none) => some (f, v)
    | some (_, f, some u) => match aload T g u v with
      | some o => some (f, o.v)
      | none => none
    | none => none
  | none => none

def acallMethod (T : Types) (g : Getter) (recv : AV) (name : String) (args : List AV) : Option Req :=
  match recv with
  | .iface t v => match amethod T g t v name with
    | some (f, r) => some (.func f (r :: args))
    | none => none
  | _ => none

def ainvoke (T : Types) (g : Getter) (f : AV) (args : List AV) : Option Req :=
  match f with
  | .fn (.func f) first cap => some (.func f (first ++ args ++ cap))
  | .fn (.yield l) first _ => some (.round l (first ++ args))
  | .fn (.method name) first _ => match first ++ args with
    | recv :: r => acallMethod T g recv name r
    | [] => none
  | _ => none

def acallee (T : Types) (g : Getter) (e : Env) (c : Call) : Option Req :=
  match evs T e c.args.toList with
  | none => none
  | some args => match c.callee with
    | .value f => match ev T e f with
      | some v => ainvoke T g v args
      | none => none
    | .invoke r name => match ev T e r with
      | some v => acallMethod T g v name args
      | none => none
    | .builtin _ => none

/-- What an operation looks into and turns. -/
structure FP where
  all : Bool
  rd : List Nat
  wrAll : Bool
  wr : List Nat
  al : Bool

def FP.nil : FP := ⟨false, [], false, [], false⟩

def callOf (c : Call) : Option Call := match c.callee with
  | .builtin _ => none
  | _ => some c
def isCall (op : Op) : Option Call :=
  Op.rec (motive := fun _ => Option Call) (fun _ => none) (fun _ => none) (fun _ _ _ => none) (fun _ => none) (fun _ _ => none) (fun _ _ => none) (fun _ _ _ => none) (fun _ _ _ _ => none) (fun _ _ => none) (fun _ _ _ => none) (fun _ => none) (fun _ => none) (fun _ => none) (fun _ _ _ _ _ => none) (fun _ _ _ => none) (fun _ _ _ => none) (fun _ _ => none) (fun _ _ => none) (fun _ _ _ => none) (fun _ _ => none) (fun _ _ => none) (fun _ _ _ => none) (fun _ _ _ _ _ => none) (fun _ _ _ => none) (fun _ _ _ => none) (fun _ _ _ => none) (fun _ _ _ => none) (fun _ _ _ _ => none) (fun _ _ _ _ => none) (fun _ _ _ => none) (fun _ _ _ _ => none) (fun _ _ => none) (fun _ _ => none) (fun _ => none) (fun _ _ _ _ => none) (fun _ _ => none) callOf (fun _ => none) (fun _ => none) (fun _ => none) (fun _ _ => none) (fun _ _ _ => none) (fun _ _ => none) op

def isPanic (op : Op) : Option Operand :=
  Op.rec (motive := fun _ => Option Operand) (fun _ => none) (fun _ => none) (fun _ _ _ => none) (fun _ => none) (fun _ _ => none) (fun _ _ => none) (fun _ _ _ => none) (fun _ _ _ _ => none) (fun _ _ => none) (fun _ _ _ => none) (fun _ => none) (fun _ => none) (fun _ => none) (fun _ _ _ _ _ => none) (fun _ _ _ => none) (fun _ _ _ => none) (fun _ _ => none) (fun _ _ => none) (fun _ _ _ => none) (fun _ _ => none) (fun _ _ => none) (fun _ _ _ => none) (fun _ _ _ _ _ => none) (fun _ _ _ => none) (fun _ _ _ => none) (fun _ _ _ => none) (fun _ _ _ => none) (fun _ _ _ _ => none) (fun _ _ _ _ => none) (fun _ _ _ => none) (fun _ _ _ _ => none) (fun _ _ => none) (fun _ _ => none) (fun _ => none) (fun _ _ _ _ => none) (fun _ _ => none) (fun _ => none) (fun _ => none) (fun _ => none) some (fun _ _ => none) (fun _ _ _ => none) (fun _ _ => none) op

/-- An operation: what it hands back, or the panic that it ends in; the memory behind it; what it looked into and turned. -/
def xop (T : Types) (K : Caller) (e : Env) (h : Heap) (o : Oper) : Option (Res × Heap × FP) :=
  match isCall o.op with
  | some c => match acallee T h.get e c with
    | some req => match K req { h with lo := h.nx } with
      | some (r, h') => some (r, { h' with lo := bif Nat.ble h.lo h'.lo then h.lo else h'.lo }, ⟨true, [], Nat.blt h'.lo h.nx, [], true⟩)
      | none => none
    | none => none
  | none => match isPanic o.op with
    | some x => match ev T e x with
      | some (.iface t v) => some (.pan (.iface t v), h, ⟨true, [], false, [], false⟩)
      | _ => none
    | none => match aop T h.get h.nx e o.op with
      | some out => some (.ret out.v, h.apply out, ⟨false, out.rd, false, out.up.map (·.1), !out.nw.isEmpty⟩)
      | none => none

def nth {α : Type} (l : List α) : Nat → Option α :=
  List.rec (fun _ => none) (fun x _ ih n => Nat.rec (some x) (fun m _ => ih m) n) l
theorem nth_eq {α : Type} : ∀ (l : List α) (n : Nat), nth l n = l[n]?
  | [], _ => rfl
  | x :: l, 0 => rfl
  | x :: l, n + 1 => (nth_eq l n).trans (by simp)

def wantedV (want : Bool) : AV → Option Bool
  | .undef => none
  | .bool b => some (b == want)
  | _ => some false
def wantedD (e : Env) (want : Bool) : Option Oper → Option Bool
  | none => some false
  | some oj => match oj.dst with
    | none => some false
    | some d => wantedV want (e.get d)
def wantedA (ops : List Oper) (e : Env) (o : Oper) : Option Bool :=
  match o.guard with
  | none => some true
  | some (j, want) => wantedD e want (nth ops j)
theorem wantedA_eq (ops : List Oper) (e : Env) (o : Oper) : wantedA ops e o = (match o.guard with
  | none => some true
  | some (j, want) => match ops[j]? with
    | none => some false
    | some oj => match oj.dst with
      | none => some false
      | some d => match e.get d with
        | .undef => none
        | .bool b => some (b == want)
        | _ => some false) := by
  unfold wantedA
  cases o.guard with
  | none => rfl
  | some p =>
    obtain ⟨j, want⟩ := p
    dsimp only
    rw [nth_eq]
    generalize ops[j]? = x
    cases x with
    | none => rfl
    | some oj =>
      unfold wantedD
      dsimp only
      cases oj.dst with
      | none => rfl
      | some d => dsimp only; cases e.get d <;> rfl

/-- A deferred call: of a function; the mark of a loop over a function. -/
inductive ADef where
  | mark (b : Nat)
  | call (f : Nat) (args : List AV)

def isDefer (op : Op) : Option Call :=
  Op.rec (motive := fun _ => Option Call) (fun _ => none) (fun _ => none) (fun _ _ _ => none) (fun _ => none) (fun _ _ => none) (fun _ _ => none) (fun _ _ _ => none) (fun _ _ _ _ => none) (fun _ _ => none) (fun _ _ _ => none) (fun _ => none) (fun _ => none) (fun _ => none) (fun _ _ _ _ _ => none) (fun _ _ _ => none) (fun _ _ _ => none) (fun _ _ => none) (fun _ _ => none) (fun _ _ _ => none) (fun _ _ => none) (fun _ _ => none) (fun _ _ _ => none) (fun _ _ _ _ _ => none) (fun _ _ _ => none) (fun _ _ _ => none) (fun _ _ _ => none) (fun _ _ _ => none) (fun _ _ _ _ => none) (fun _ _ _ _ => none) (fun _ _ _ => none) (fun _ _ _ _ => none) (fun _ _ => none) (fun _ _ => none) (fun _ => none) (fun _ _ _ _ => none) (fun _ _ => none) (fun _ => none) (fun _ => none) some (fun _ => none) (fun _ _ => none) (fun _ _ _ => none) (fun _ _ => none) op

def adefer (T : Types) (e : Env) (c : Call) : Option ADef :=
  match c.callee, evs T e c.args.toList with
  | .value f, some args => match ev T e f with
    | some (.fn (.func f) first cap) => some (.call f (first ++ args ++ cap))
    | _ => none
  | _, _ => none

/-- The operations in the text's order. 'rnd': in a round of a loop over a function nothing is deferred. -/
abbrev XO := Env → List ADef → Heap → Option (Option AV × Env × List ADef × Heap)
def xopsGo (e' : Option Env) (ih : XO) (ds : List ADef) (h : Heap) : Option (Option AV × Env × List ADef × Heap) :=
  match e' with
  | some e' => ih e' ds h
  | none => none
def xopsRes (o : Oper) (ih : XO) (e : Env) (ds : List ADef) : Option (Res × Heap × FP) → Option (Option AV × Env × List ADef × Heap)
  | none => none
  | some (.pan v, h', _) => some (some v, e, ds, h')
  | some (.ret v, h', _) => match e.put o.dst v with
    | some e' => ih e' ds h'
    | none => none
def xopsDo (T : Types) (K : Caller) (rnd : Option Nat) (o : Oper) (ih : XO) (e : Env) (ds : List ADef) (h : Heap) : Option (Option AV × Env × List ADef × Heap) :=
  match isDefer o.op with
  | some c => match rnd, adefer T e c, e.put o.dst (.tup []) with
    | none, some d, some e' => ih e' (d :: ds) h
    | _, _, _ => none
  | none => xopsRes o ih e ds (xop T K e h o)
def xopsIf (T : Types) (K : Caller) (rnd : Option Nat) (o : Oper) (ih : XO) (e : Env) (ds : List ADef) (h : Heap) : Option Bool → Option (Option AV × Env × List ADef × Heap)
  | none => none
  | some b => Bool.rec (xopsGo (e.put o.dst (.tup [])) ih ds h) (xopsDo T K rnd o ih e ds h) b
def xops (T : Types) (K : Caller) (rnd : Option Nat) (ops : List Oper) (l : List Oper) : XO :=
  List.rec (fun e ds h => some (none, e, ds, h)) (fun o _ ih e ds h => xopsIf T K rnd o ih e ds h (wantedA ops e o)) l

theorem xops_nil (T : Types) (K : Caller) (rnd : Option Nat) (ops : List Oper) (e : Env) (ds : List ADef) (h : Heap) : xops T K rnd ops [] e ds h = some (none, e, ds, h) := rfl
theorem xops_cons (T : Types) (K : Caller) (rnd : Option Nat) (ops : List Oper) (o : Oper) (r : List Oper) (e : Env) (ds : List ADef) (h : Heap) : xops T K rnd ops (o :: r) e ds h = (match wantedA ops e o with
    | none => none
    | some false => match e.put o.dst (.tup []) with
      | some e' => xops T K rnd ops r e' ds h
      | none => none
    | some true => match isDefer o.op with
      | some c => match rnd, adefer T e c, e.put o.dst (.tup []) with
        | none, some d, some e' => xops T K rnd ops r e' (d :: ds) h
        | _, _, _ => none
      | none => match xop T K e h o with
        | none => none
        | some (.pan v, h', _) => some (some v, e, ds, h')
        | some (.ret v, h', _) => match e.put o.dst v with
          | some e' => xops T K rnd ops r e' ds h'
          | none => none) := by
  show xopsIf T K rnd o (xops T K rnd ops r) e ds h (wantedA ops e o) = _
  cases wantedA ops e o with
  | none => rfl
  | some b =>
    cases b with
    | false => show xopsGo _ _ _ _ = _; cases e.put o.dst (.tup []) <;> rfl
    | true =>
      show xopsDo _ _ _ _ _ _ _ _ = _
      unfold xopsDo
      cases isDefer o.op with
      | some c => rfl
      | none =>
        show xopsRes _ _ _ _ _ = _
        cases xop T K e h o with
        | none => rfl
        | some x => obtain ⟨y, h', f⟩ := x; cases y <;> rfl

/-! #### Regions that draw their order -/
def binds (e : Edge) : Bool :=
  match e.ground with
  | .textOnly _ => false
  | .gcOnly _ => false
  | _ => true

/-- What must come before an operation, by bits; 'bs' that of the operations before it, the last one first, 'n' how many they are. -/
def beforeOf (bs : List Nat) (n : Nat) : List Edge → Option Nat
  | [] => some 0
  | e :: r => bif binds e then
      (bif Nat.blt e.on n then
        match bs[n - 1 - e.on]?, beforeOf bs n r with
        | some m, some k => some (Nat.lor (Nat.lor m (Nat.shiftLeft 1 e.on)) k)
        | _, _ => none
      else none)
    else beforeOf bs n r

def befores : List Oper → Nat → List Nat → Option (List Nat)
  | [], _, bs => some bs.reverse
  | o :: r, n, bs => match beforeOf bs n o.after.toList with
    | some m => befores r (n + 1) (m :: bs)
    | none => none

def operandTmps : List Operand → List Nat
  | [] => []
  | .tmp t :: r => t :: operandTmps r
  | _ :: r => operandTmps r

def usesOf (ops : List Oper) (o : Oper) : List Nat :=
  let l := operandTmps o.op.operands.toList
  match o.guard with
  | some (j, _) => match ops[j]? with
    | some oj => match oj.dst with
      | some d => d :: l
      | none => l
    | none => l
  | none => l

def hits (d : Option Nat) (l : List Nat) : Bool :=
  match d with
  | some d => l.any fun x => Nat.beq x d
  | none => false

/-- May two operations change places, as far as their slots go? -/
def apart (ops : List Oper) (a b : Oper) : Bool :=
  !(hits a.dst (usesOf ops b)) && !(hits b.dst (usesOf ops a)) && !(hits a.dst b.dst.toList)

/-- The earlier operations that may as well come later than this one ('none': their slots forbid it). -/
def freeOf (ops : List Oper) (o : Oper) (m : Nat) : List Oper → Nat → Option (List Nat)
  | [], _ => some []
  | x :: r, i => bif Nat.testBit m i then freeOf ops o m r (i + 1) else
      bif apart ops x o then (match freeOf ops o m r (i + 1) with | some l => some (i :: l) | none => none) else none

def freesOf (ops : List Oper) : List Oper → List Nat → Nat → Option (List (List Nat))
  | [], _, _ => some []
  | o :: r, m :: ms, n => match freeOf ops o m (ops.take n) 0, freesOf ops r ms (n + 1) with
    | some l, some ls => some (l :: ls)
    | _, _ => none
  | _ :: _, [], _ => none

def frees (ops : List Oper) : Option (List Nat × List (List Nat)) :=
  match befores ops 0 [] with
  | some ms => match freesOf ops ops ms 0 with
    | some l => some (ms, l)
    | none => none
  | none => none

def has (x : Nat) (b : List Nat) : Bool := List.rec false (fun y _ ih => Bool.rec ih true (Nat.beq x y)) b
def meet (a b : List Nat) : Bool := List.rec false (fun x _ ih => Bool.rec ih true (has x b)) a
theorem has_eq (x : Nat) : ∀ b : List Nat, has x b = b.any fun y => Nat.beq x y
  | [] => rfl
  | y :: b => by
    show (Bool.rec (has x b) true (Nat.beq x y) : Bool) = _
    rw [List.any_cons, has_eq x b]
    cases Nat.beq x y <;> rfl
theorem meet_eq (b : List Nat) : ∀ a : List Nat, meet a b = a.any fun x => b.any fun y => Nat.beq x y
  | [] => rfl
  | x :: a => by
    show (Bool.rec (meet a b) true (has x b) : Bool) = _
    rw [List.any_cons, meet_eq b a, has_eq]
    cases (b.any fun y => Nat.beq x y) <;> rfl
def orR (x y : Bool) : Bool := Bool.rec y true x
def andR (x y : Bool) : Bool := Bool.rec false y x
theorem orR_eq (x y : Bool) : orR x y = (x || y) := by cases x <;> rfl
theorem andR_eq (x y : Bool) : andR x y = (x && y) := by cases x <;> rfl
def isCons {α : Type} (l : List α) : Bool := List.rec false (fun _ _ _ => true) l
theorem isCons_eq {α : Type} (l : List α) : isCons l = !l.isEmpty := by cases l <;> rfl

/-- May two operations change places, as far as memory goes? -/
def FP.any (a : FP) : Bool := orR (orR (orR (orR a.all a.wrAll) (isCons a.rd)) (isCons a.wr)) a.al
theorem FP.any_eq (a : FP) : a.any = (a.all || a.wrAll || !a.rd.isEmpty || !a.wr.isEmpty || a.al) := by simp only [FP.any, orR_eq, isCons_eq]

def FP.clash (a b : FP) : Bool :=
  orR (orR (orR (orR (orR (orR (andR a.wrAll b.any) (andR b.wrAll a.any)) (andR a.all (isCons b.wr))) (andR b.all (isCons a.wr))) (meet a.wr b.rd)) (meet a.wr b.wr)) (meet a.rd b.wr)
theorem FP.clash_eq (a b : FP) : a.clash b = ((a.wrAll && b.any) || (b.wrAll && a.any) || (a.all && !b.wr.isEmpty) || (b.all && !a.wr.isEmpty) || meet a.wr b.rd || meet a.wr b.wr || meet a.rd b.wr) := by simp only [FP.clash, orR_eq, andR_eq, isCons_eq]

/-- 'fs': of the operations before, the last one first; 'n': how many. -/
def clashO (f : FP) : Option FP → Bool
  | some x => x.clash f
  | none => true
def clashes (fs : List FP) (n : Nat) (f : FP) (l : List Nat) : Bool := List.rec false (fun i _ ih => orR (clashO f (nth fs (Nat.sub (Nat.sub n 1) i))) ih) l
theorem clashes_nil (fs : List FP) (n : Nat) (f : FP) : clashes fs n f [] = false := rfl
theorem clashes_cons (fs : List FP) (n : Nat) (f : FP) (i : Nat) (r : List Nat) : clashes fs n f (i :: r) = ((match fs[n - 1 - i]? with | some x => x.clash f | none => true) || clashes fs n f r) := by
  show orR (clashO f (nth fs (n - 1 - i))) (clashes fs n f r) = _
  rw [orR_eq, nth_eq]
  rfl

def forget (e : Env) : List Oper → Env
  | [] => e
  | o :: r => match o.dst with
    | some d => forget { e with t := e.t.set d .undef } r
    | none => forget e r

def xopsD (T : Types) (K : Caller) (ops : List Oper) (e0 : Env) : List Oper → List (List Nat) → List Nat → Nat → List FP → Env → Heap → Option (Option AV × Env × Heap)
  | [], _, _, _, _, e, h => some (none, e, h)
  | o :: r, fr :: frs, ms, n, fs, e, h => match wantedA ops e o with
    | none => none
    | some false => match e.put o.dst (.tup []) with
      | some e' => xopsD T K ops e0 r frs ms (n + 1) (.nil :: fs) e' h
      | none => none
    | some true => match xop T K e h o with
      | none => none
      | some (x, h', f) => bif clashes fs n f fr then none else
        match x with
        | .pan v => bif (ms.drop (n + 1)).all (fun m => Nat.testBit m n) then some (some v, forget e0 ops, h') else none
        | .ret v => match e.put o.dst v with
          | some e' => xopsD T K ops e0 r frs ms (n + 1) (f :: fs) e' h'
          | none => none
  | _ :: _, [], _, _, _, _, _ => none

inductive AX where
  | normal
  | exit (id : Nat)
  | ret
  | panic (v : AV)

structure S where
  env : Env
  defs : List ADef
  heap : Heap

def iter (f : S → Option (AX × S)) : Nat → S → Option (AX × S)
  | 0, _ => none
  | n + 1, s => match f s with
    | some (.normal, s') => iter f n s'
    | r => r

def ofOps : Option (Option AV × Env × List ADef × Heap) → Option (AX × S)
  | none => none
  | some (none, e, ds, h) => some (.normal, ⟨e, ds, h⟩)
  | some (some v, e, ds, h) => some (.panic v, ⟨e, ds, h⟩)

def ofOpsD (ds : List ADef) : Option (Option AV × Env × Heap) → Option (AX × S)
  | none => none
  | some (none, e, h) => some (.normal, ⟨e, ds, h⟩)
  | some (some v, e, h) => some (.panic v, ⟨e, ds, h⟩)

def getLoop (h : Heap) (l : Nat) : Option ALoop :=
  match h.get l with
  | some (.loop r) => some r
  | _ => none

/-- Entering a loop over a function: the record's number, the marks, the memory. -/
def aenter (rnd : Option Nat) (fid : Nat) (e : Env) (ps : List Nat) (a b : Code) (h : Heap) : Option (Nat × List ADef × Heap) :=
  match rnd with
  | some l => match getLoop h l with
    | some r => some (h.nx, [], h.push (.loop ⟨.ready, none, fid, e, ps, a, b, r.defers⟩))
    | none => none
  | none => some (h.nx + 1, [.mark h.nx], (h.push (.defr true)).push (.loop ⟨.ready, none, fid, e, ps, a, b, h.nx⟩))

def aleave (s : S) (ds : List ADef) (l : Nat) (h : Heap) : Option (AX × S) :=
  match getLoop h l with
  | some r => match r.state with
    | .busy => none
    | _ =>
      let s' : S := ⟨s.env, ds, h.set l (.loop { r with state := .exhausted })⟩
      match r.pending with
      | none => some (.normal, s')
      | some .ret => some (.ret, s')
      | some (.exit id) => some (.exit id, s')
      | _ => none
  | none => none

structure Ctx where
  T : Types
  K : Caller
  rnd : Option Nat
  fid : Nat
  k : Nat

abbrev XC := Ctx → S → Option (AX × S)
def cSkip : XC := fun _ s => some (.normal, s)
def cRegionD (c : Ctx) (ops : List Oper) (s : S) : Option (List Nat × List (List Nat)) → Option (AX × S)
  | some (ms, fr) => ofOpsD s.defs (xopsD c.T c.K ops s.env ops fr ms 0 [] s.env s.heap)
  | none => none
def cRegion (_ : Nat) (ops : Array Oper) (draw : Bool) : XC := fun c s =>
  Bool.rec (ofOps (xops c.T c.K c.rnd ops.toList ops.toList s.env s.defs s.heap)) (cRegionD c ops.toList s (frees ops.toList)) draw
def cThen (b : XC) (c : Ctx) : Option (AX × S) → Option (AX × S)
  | some (.normal, s') => b c s'
  | r => r
def cSeq (_ _ : Code) (a b : XC) : XC := fun c s => cThen b c (a c s)
def cIf (a b : XC) (c : Ctx) (s : S) : Option AV → Option (AX × S)
  | some (.bool t) => Bool.rec (b c s) (a c s) t
  | _ => none
def cCond (x : Operand) (_ _ : Code) (a b : XC) : XC := fun c s => cIf a b c s (ev c.T s.env x)
def cOut (id : Nat) : Option (AX × S) → Option (AX × S)
  | some (.exit i, s') => bif Nat.beq i id then some (.normal, s') else some (.exit i, s')
  | r => r
def cBlock (id : Nat) (_ : Code) (a : XC) : XC := fun c s => cOut id (a c s)
def cLoop (_ : Code) (a : XC) : XC := fun c s => iter (a c) c.k s
def cRangeIn (K : Caller) (s : S) (f : Nat) (first cap : List AV) : Option (Nat × List ADef × Heap) → Option (AX × S)
  | some (l, mark, h) => match K (.func f (first ++ [.fn (.yield l) [] []] ++ cap)) h with
    | some (.ret _, h') => aleave s (mark ++ s.defs) l h'
    | some (.pan v, h') => some (.panic v, ⟨s.env, mark ++ s.defs, h'⟩)
    | none => none
  | none => none
def cRange (g : Operand) (ps : Array Tmp) (a b : Code) (_ _ : XC) : XC := fun c s => match ev c.T s.env g with
  | some (.fn (.func f) first cap) => cRangeIn c.K s f first cap (aenter c.rnd c.fid s.env ps.toList a b s.heap)
  | _ => none
def cExit (id : Nat) : XC := fun _ s => some (.exit id, s)
def cScope (_ : Code) (a : XC) : XC := a
def cNo (_ : Nat) : XC := fun _ _ => none
def cRefuse (_ : String) : XC := fun _ _ => none
def cRet : XC := fun _ s => some (.ret, s)

def xc (c : Code) : XC :=
  Code.rec (motive := fun _ => XC) cSkip cRegion cSeq cCond cBlock cLoop cRange cExit cScope (fun _ => cSkip) cNo cRet cRefuse c
def xcode (T : Types) (K : Caller) (rnd : Option Nat) (fid k : Nat) (c : Code) (s : S) : Option (AX × S) := xc c ⟨T, K, rnd, fid, k⟩ s

section
variable (T : Types) (K : Caller) (rnd : Option Nat) (fid k : Nat) (s : S)
theorem xcode_skip : xcode T K rnd fid k .skip s = some (.normal, s) := rfl
theorem xcode_label (l : Nat) : xcode T K rnd fid k (.label l) s = some (.normal, s) := rfl
theorem xcode_goto (l : Nat) : xcode T K rnd fid k (.goto l) s = none := rfl
theorem xcode_refuse (w : String) : xcode T K rnd fid k (.refuse w) s = none := rfl
theorem xcode_exit (id : Nat) : xcode T K rnd fid k (.exit id) s = some (.exit id, s) := rfl
theorem xcode_ret : xcode T K rnd fid k .ret s = some (.ret, s) := rfl
theorem xcode_scope (c : Code) : xcode T K rnd fid k (.scope c) s = xcode T K rnd fid k c s := rfl
theorem xcode_regF (id : Nat) (ops : Array Oper) : xcode T K rnd fid k (.region id ops false) s = ofOps (xops T K rnd ops.toList ops.toList s.env s.defs s.heap) := rfl
theorem xcode_regT (id : Nat) (ops : Array Oper) : xcode T K rnd fid k (.region id ops true) s = (match frees ops.toList with
    | some (ms, fr) => ofOpsD s.defs (xopsD T K ops.toList s.env ops.toList fr ms 0 [] s.env s.heap)
    | none => none) := by
  show cRegionD _ _ _ _ = _
  cases frees ops.toList <;> rfl
theorem xcode_seq (a b : Code) : xcode T K rnd fid k (.seq a b) s = (match xcode T K rnd fid k a s with
    | some (.normal, s') => xcode T K rnd fid k b s'
    | r => r) := by
  show cThen _ _ (xcode T K rnd fid k a s) = _
  cases xcode T K rnd fid k a s with
  | none => rfl
  | some x => obtain ⟨x, s'⟩ := x; cases x <;> rfl
theorem xcode_cond (c : Operand) (a b : Code) : xcode T K rnd fid k (.cond c a b) s = (match ev T s.env c with
    | some (.bool t) => bif t then xcode T K rnd fid k a s else xcode T K rnd fid k b s
    | _ => none) := by
  show cIf _ _ _ _ (ev T s.env c) = _
  cases ev T s.env c with
  | none => rfl
  | some x => cases x <;> first | rfl | (rename_i t; cases t <;> rfl)
theorem xcode_block (id : Nat) (c : Code) : xcode T K rnd fid k (.block id c) s = (match xcode T K rnd fid k c s with
    | some (.exit i, s') => bif Nat.beq i id then some (.normal, s') else some (.exit i, s')
    | r => r) := by
  show cOut _ (xcode T K rnd fid k c s) = _
  cases xcode T K rnd fid k c s with
  | none => rfl
  | some x => obtain ⟨x, s'⟩ := x; cases x <;> rfl
theorem xcode_loop (c : Code) : xcode T K rnd fid k (.loop c) s = iter (xcode T K rnd fid k c) k s := rfl
theorem xcode_range (g : Operand) (ps : Array Tmp) (a b : Code) : xcode T K rnd fid k (.rangeFunc g ps a b) s = (match ev T s.env g with
    | some (.fn (.func f) first cap) => match aenter rnd fid s.env ps.toList a b s.heap with
      | some (l, mark, h) => match K (.func f (first ++ [.fn (.yield l) [] []] ++ cap)) h with
        | some (.ret _, h') => aleave s (mark ++ s.defs) l h'
        | some (.pan v, h') => some (.panic v, ⟨s.env, mark ++ s.defs, h'⟩)
        | none => none
      | none => none
    | _ => none) := by
  show cRange g ps a b (xc a) (xc b) ⟨T, K, rnd, fid, k⟩ s = _
  unfold cRange
  dsimp only
  cases ev T s.env g with
  | none => rfl
  | some x =>
    cases x <;> rfl
end

def initEnv (n : Nat) (args : List AV) : Env := ⟨bif Nat.ble args.length n then n else args.length, go args 0 .lf⟩
where
  go : List AV → Nat → Tr AV → Tr AV
    | [], _, t => t
    | v :: r, i, t => go r (i + 1) (t.set i v)

/-- How a frame is left: it returns; by a panic; by a panic that has been recovered. -/
inductive DM where
  | ret
  | pan (v : AV)
  | rcv (v : AV)

def DM.settle : DM → DM
  | .rcv _ => .ret
  | u => u

def isRecover : Op → Bool
  | .call c => match c.callee with
    | .builtin .recover => true
    | _ => false
  | _ => false

/-- The body of a function that is called as a deferred one; it calls nothing but recover. -/
structure SD where
  env : Env
  u : DM
  heap : Heap

def xopsS (T : Types) (ops : List Oper) : List Oper → SD → Option (Option AV × SD)
  | [], s => some (none, s)
  | o :: r, s => match wantedA ops s.env o with
    | none => none
    | some false => match s.env.put o.dst (.tup []) with
      | some e' => xopsS T ops r { s with env := e' }
      | none => none
    | some true => bif isRecover o.op then
        (match s.u with
        | .pan v => match s.env.put o.dst v with
          | some e' => xopsS T ops r { s with env := e', u := .rcv v }
          | none => none
        | _ => match s.env.put o.dst .nili with
          | some e' => xopsS T ops r { s with env := e' }
          | none => none)
      else match aop T s.heap.get s.heap.nx s.env o.op with
        | some out => match s.env.put o.dst out.v with
          | some e' => xopsS T ops r { s with env := e', heap := s.heap.apply out }
          | none => none
        | none => none

def xcodeS (T : Types) : Code → SD → Option (AX × SD)
  | .skip, s => some (.normal, s)
  | .region _ ops false, s => match xopsS T ops.toList ops.toList s with
    | some (none, s') => some (.normal, s')
    | _ => none
  | .seq a b, s => match xcodeS T a s with
    | some (.normal, s') => xcodeS T b s'
    | r => r
  | .cond c a b, s => match ev T s.env c with
    | some (.bool t) => bif t then xcodeS T a s else xcodeS T b s
    | _ => none
  | _, _ => none

def closeDefs (T : Types) (F : Funcs) : List ADef → DM → Heap → Option (DM × Heap)
  | [], u, h => some (u, h)
  | .mark b :: r, u, h => match h.get b with
    | some (.defr true) => closeDefs T F r u (h.set b (.defr false))
    | _ => none
  | .call f args :: r, u, h => match F.get f with
    | some fn => match fn.body with
      | some c => match xcodeS T c ⟨initEnv fn.ntmps args, u, h⟩ with
        | some (.normal, s) => bif fn.results.toList.isEmpty then closeDefs T F r s.u.settle s.heap else none
        | _ => none
      | none => none
    | none => none

def ares1 (T : Types) (e : Env) (h : Heap) : ResultVar → Option AV
  | .tmp t => some (e.get t)
  | .cell a t => match aload T h.get t (e.get a) with
    | some o => some o.v
    | none => none

def aresl (T : Types) (e : Env) (h : Heap) : List ResultVar → Option (List AV)
  | [] => some []
  | r :: l => match ares1 T e h r, aresl T e h l with
    | some v, some vs => some (v :: vs)
    | _, _ => none

def ares (T : Types) (e : Env) (h : Heap) (l : List ResultVar) : Option AV :=
  match aresl T e h l with
  | some [v] => some v
  | some vs => some (.tup vs)
  | none => none

def setParams (e : Env) : List Nat → List AV → Option Env
  | [], [] => some e
  | t :: ts, v :: vs => match e.put (some t) v with
    | some e' => setParams e' ts vs
    | none => none
  | _, _ => none

/-- The end of a round. -/
def aend (l : Nat) (h : Heap) (st : LState) (pd : Option Code) (v : AV) : Option (Res × Heap) :=
  match getLoop h l with
  | some r => some (.ret v, h.set l (.loop { r with state := st, pending := pd }))
  | none => none

def AX.mode : AX → Option DM
  | .normal => some .ret
  | .ret => some .ret
  | .panic v => some (.pan v)
  | .exit _ => none

def afunc (T : Types) (F : Funcs) (K : Caller) (k f : Nat) (args : List AV) (h : Heap) : Option (Res × Heap) :=
  match F.get f with
  | some fn => match fn.body with
    | some c => match xcode T K none f k c ⟨initEnv fn.ntmps args, [], h⟩ with
      | some (x, s) => match x.mode with
        | some u => match closeDefs T F s.defs u s.heap with
          | some (.ret, h') => (ares T s.env h' fn.results.toList).map fun v => (.ret v, h')
          | some (.pan v, h') => some (.pan v, h')
          | _ => none
        | none => none
      | none => none
    | none => none
  | none => none

def around (T : Types) (K : Caller) (k l : Nat) (args : List AV) (h : Heap) : Option (Res × Heap) :=
  match getLoop h l with
  | none => none
  | some r => match setParams r.env r.params args with
    | none => none
    | some e => match xcode T K (some l) r.fn k r.assign ⟨e, [], h⟩ with
      | some (.normal, ⟨e1, [], h1⟩) => match getLoop h1 l with
        | some r1 => match r1.state with
          | .ready => match xcode T K (some l) r.fn k r.body ⟨e1, [], h1.set l (.loop { r1 with state := .busy })⟩ with
            | some (.normal, ⟨_, [], h2⟩) => aend l h2 .ready none (.bool true)
            | some (.ret, ⟨_, [], h2⟩) => aend l h2 .done (some .ret) (.bool false)
            | some (.exit id, ⟨_, [], h2⟩) => aend l h2 .done (some (.exit id)) (.bool false)
            | _ => none
          | _ => none
        | none => none
      | _ => none

def acall (T : Types) (F : Funcs) : Nat → Caller
  | 0, _, _ => none
  | k + 1, .func f args, h => afunc T F (acall T F k) k f args h
  | k + 1, .round l args, h => around T (acall T F k) k l args h

end
end Go.Ai
