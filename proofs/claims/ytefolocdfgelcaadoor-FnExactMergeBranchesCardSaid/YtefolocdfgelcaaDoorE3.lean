/- An abstract machine: the operations that make no effect on what there is, and that each does what the abstract machine says; no condition. -/
import Derived.Test.YtefolocdfgelcaaDoorE2
import Derived.ChangeKeysEq
import Derived.Laws.Rows
import Derived.Laws.Cells
namespace Go.Proofs.YtefolocdfgelcaaDoor
open Go.RowKit Go.Deep

/-- Operands. -/
inductive Opd where
  | tmp (n : Nat)
  | cst (v : AV)
def AV.of1 : Value → AV
  | .int k n => .int k n
  | .bool b => .bool b
  | .string s => .str s
  | .slice none 0 0 => .nils
  | _ => .any
def AV.of : Value → AV
  | .agg cs => .agg (cs.toList.map AV.of1)
  | v => AV.of1 v
def Opd.of : Operand → Option Opd
  | .tmp t => some (.tmp t)
  | .const v => some (.cst (AV.of v))
  | .func f => some (.cst (.fn f []))
  | .global _ => none
def Opd.ofL : List Operand → Option (List Opd)
  | [] => some []
  | x :: xs => match Opd.of x, Opd.ofL xs with
    | some y, some ys => some (y :: ys)
    | _, _ => none
def Opd.ev (f : Nat → AV) : Opd → AV
  | .tmp n => f n
  | .cst v => v

section
variable {σ : Oid → Option Loc} {im : Nat → Prop} {w : World}
theorem AV.of1_rep (v : Value) : AV.Rep σ im w (AV.of1 v) v := by
  unfold AV.of1
  split <;> first | rfl | trivial
theorem AV.of1_repL : ∀ (l : List Value), AV.RepL σ im w (l.map AV.of1) l
  | [] => rfl
  | v :: l => ⟨v, l, rfl, AV.of1_rep v, AV.of1_repL l⟩
theorem AV.of_rep (v : Value) : AV.Rep σ im w (AV.of v) v := by
  unfold AV.of
  split
  · exact ⟨_, rfl, AV.of1_repL _⟩
  · exact AV.of1_rep v
/-- What is known of a frame's temporaries. -/
def TmRep (σ : Oid → Option Loc) (im : Nat → Prop) (w : World) (f : Nat → AV) (a : Act) : Prop := ∀ t, AV.Rep σ im w (f t) (a.tmps.getD t undef)
theorem Opd.rep {f : Nat → AV} {a : Act} {x : Operand} {y : Opd} (h : Opd.of x = some y) (hf : ∀ t, y = .tmp t → AV.Rep σ im w (f t) (a.tmps.getD t undef)) : AV.Rep σ im w (y.ev f) (a.eval x) := by
  cases x <;> simp [Opd.of] at h <;> subst h
  · exact hf _ rfl
  · exact AV.of_rep _
  · exact ⟨[], rfl, rfl⟩
end

/-- An operation runs to its end: what holds of the value that it yields and of the memory behind it. -/
def Oper.does (P : Program) (o : Oper) (a : Act) (w : World) (post : Value → World → Prop) : Prop :=
  ∀ (next : Act → World → Prop) (Q : Exit → Act → World → Prop), (∀ v w', post v w' → next (a.put o.dst v) w') → o.wp P a w next Q
section
variable {P : Program} {o : Oper} {a : Act} {w w' : World} {post : Value → World → Prop}
theorem Oper.does_value {v : Value} (h : (execOp a.eval o).run P w = .ok (.value v) w') (hp : post v w') : Oper.does P o a w post := fun next Q hn => by
  unfold Oper.wp; rw [h]; exact hn v w' hp
theorem Oper.does_skip (h : (execOp a.eval o).run P w = .ok .skip w') (hp : post undef w') : Oper.does P o a w post := fun next Q hn => by
  unfold Oper.wp; rw [h]; exact hn _ w' hp
theorem Oper.does_enter {f : FuncId} {args : Array Value} (h : (execOp a.eval o).run P w = .ok (.enter f args) w') (hp : Calls P f args w' fun e w'' => ∃ v, e = .returned v ∧ post v w'') : Oper.does P o a w post := fun next Q hn => by
  unfold Oper.wp; rw [h]
  refine Calls.mono hp ?_
  rintro e w'' ⟨v, rfl, h⟩
  exact hn v w'' h
end

/-- The operations of the abstract machine. -/
inductive I where
  | mov (x : Opd)
  | pick (c x y : Opd)
  | alloc (ty : TypeId) (z : List AV)
  | box (ty : TypeId) (x : Opd)
  | fld (k : Nat) (x : Opd)
  | idx (sz : Nat) (x i : Opd)
  | ld (one : Bool) (m : Nat) (x : Opd)
  | bin (op : BinOp) (x y : Opd)
  | cmp (neg : Bool) (k : Nat) (x y : Opd)
  | not (x : Opd)
  | neg (x : Opd)
  | conv (k : IntKind) (x : Opd)
  | len (x : Opd)
  | lenS (x : Opd)
  | extr (k : Nat) (x : Opd)
  | char (x i : Opd)
  | mkfn (f : FuncId) (caps : List Opd)
  | idxA (t : TypeId) (n : Nat) (x i : Opd)
  | idxV (n : Nat) (x i : Opd)
  | look (mt : TypeId) (ok : Bool) (x i : Opd)
  | lenM (mt : TypeId) (x : Opd)

def evBin (op : BinOp) (x y : AV) : Option AV :=
  match x, y with
  | .int k a, .int k' b => if k = k' then
      match op with
      | .add => some (.int k (k.wrap (a + b)))
      | .sub => some (.int k (k.wrap (a - b)))
      | .mul => some (.int k (k.wrap (a * b)))
      | .quo => if b = 0 then none else some (.int k (k.wrap (a.tdiv b)))
      | .rem => if b = 0 then none else some (.int k (a.tmod b))
      | .eql => some (.bool (a == b))
      | .neq => some (.bool (a != b))
      | .lss => some (.bool (decide (a < b)))
      | .leq => some (.bool (decide (a ≤ b)))
      | .gtr => some (.bool (decide (b < a)))
      | .geq => some (.bool (decide (b ≤ a)))
      | _ => none
    else none
  | .str a, .str b =>
      match op with
      | .add => if (a.size + b.size : Nat) ≤ 9223372036854775807 then some (.str (a ++ b)) else none
      | .eql => some (.bool (a.toList == b.toList))
      | .neq => some (.bool (!(a.toList == b.toList)))
      | _ => none
  | _, _ => none

/-- Comparisons: truth values (0), a slice with nil (1). -/
def evCmpB (neg : Bool) (x y : AV) : Option AV :=
  match x, y with
  | .bool a, .bool b => some (.bool (if neg then a != b else a == b))
  | _, _ => none
def evCmpN (neg : Bool) (x y : AV) : Option AV :=
  match x, y with
  | .nils, .nils => some (.bool (!neg))
  | .tree _ xs, .nils => some (.abool (!neg) xs.length)
  | .own _ _ _ len, .nils => some (.abool (!neg) len)
  | _, _ => none
/-- Structs of integers. -/
def intsAV : List AV → Option (List Int)
  | [] => some []
  | .int .i64 n :: r => match intsAV r with
    | some l => some (n :: l)
    | none => none
  | _ => none
def evCmpS (neg : Bool) (x y : AV) : Option AV :=
  match x, y with
  | .agg cs, .agg ds => match intsAV cs, intsAV ds with
    | some a, some b => if a.length = b.length then some (.bool (if neg then !(a == b) else a == b)) else none
    | _, _ => none
  | _, _ => none
def evCmp (neg : Bool) (k : Nat) (x y : AV) : Option AV :=
  match k with
  | 0 => evCmpB neg x y
  | 1 => evCmpN neg x y
  | 2 => none
  | n + 3 => match x with
    | .agg cs => if cs.length = n then evCmpS neg x y else none
    | _ => none
def intFields (P : Program) : Nat → List Field → Bool
  | _, [] => true
  | k, f :: fs => (f.name != "_") && ((f.offset == k) && ((match P.underlying f.type with | some (.int .i64) => true | _ => false) && intFields P (k + 1) fs))
def intStruct (P : Program) (t : TypeId) : Bool := intFields P 0 (P.fieldsOf t).toList && (!P.stoodInHeld t && !P.eqGuardType P.depth t)
def cmpOf (P : Program) (op : BinOp) (t : TypeId) : Option (Bool × Nat) :=
  match op, P.underlying t with
  | .eql, some .bool => some (false, 0)
  | .neq, some .bool => some (true, 0)
  | .eql, some (.slice _) => some (false, 1)
  | .neq, some (.slice _) => some (true, 1)
  | .eql, some (.struct fs) => if intStruct P t then some (false, fs.size + 3) else none
  | .neq, some (.struct fs) => if intStruct P t then some (true, fs.size + 3) else none
  | _, _ => none

/-- The cells of a datum, as abstract values. -/
def Ty.av : (t : Ty) → t.D → List AV
  | .int, n => [.int .i64 n]
  | .bool, b => [.bool b]
  | .str, s => [.str s]
  | .slice t, xs => [.tree t xs]
  | .pair a b, x => a.av x.1 ++ b.av x.2

def ldCells (one : Bool) (m k : Nat) (cs : List AV) : Option AV :=
  if one then cs[k]? else if k + m ≤ cs.length then some (.agg ((cs.drop k).take m)) else none

/-- A map's element as an abstract value; what a look-up yields. -/
def valA : (t : Ty) → t.D → AV
  | .int, n => .int .i64 n
  | .bool, b => .bool b
  | _, _ => .any
def lookAV (ok : Bool) (t : Ty) (es : List (Int × t.D)) (k : Int) : AV :=
  if ok then .tup [valA t ((mget es k).getD t.dflt), .bool (mget es k).isSome] else valA t ((mget es k).getD t.dflt)
/-- A map's key as a number. -/
def AV.n64 : AV → Option Int
  | .int .i64 n => some n
  | _ => none
noncomputable def keyN (mt : TypeId) (c : AV) : Option Int :=
  match c with
  | .int .i64 k => if i64R k ∧ k3 Tryd.prog mt = false then some k else none
  | .agg cs => match cs with
    | [x, y, z] => match x.n64, y.n64, z.n64 with
      | some a, some b, some c => if (i64R a ∧ i64R b ∧ i64R c) ∧ k3 Tryd.prog mt = true then some (encK a b c) else none
      | _, _, _ => none
    | _ => none
  | _ => none
theorem keyN_int {mt : TypeId} {k : Int} (h : i64R k) (h3 : k3 Tryd.prog mt = false) : keyN mt (.int .i64 k) = some k := if_pos ⟨h, h3⟩
theorem keyN_agg {mt : TypeId} {a b c : Int} (h : i64R a ∧ i64R b ∧ i64R c) (h3 : k3 Tryd.prog mt = true) : keyN mt (.agg [.int .i64 a, .int .i64 b, .int .i64 c]) = some (encK a b c) := if_pos ⟨h, h3⟩
theorem n64_rep {σ : Oid → Option Loc} {im : Nat → Prop} {w : World} {c : AV} {v : Value} {n : Int} (hr : AV.Rep σ im w c v) (h : c.n64 = some n) : v = .int .i64 n := by
  unfold AV.n64 at h
  split at h
  · obtain rfl := Option.some.inj h; exact hr
  · cases h
theorem keyN_rep {σ : Oid → Option Loc} {im : Nat → Prop} {w : World} {mt : TypeId} {c : AV} {v : Value} {k : Int} (hr : AV.Rep σ im w c v) (h : keyN mt c = some k) : KG (k3 Tryd.prog mt) k ∧ v = kv (k3 Tryd.prog mt) k := by
  unfold keyN at h
  split at h
  · split at h
    · rename_i k' hc
      obtain rfl := Option.some.inj h
      rw [hc.2]
      exact ⟨hc.1, by unfold kv; exact hr⟩
    · cases h
  · split at h
    · split at h
      · rename_i a b c' q1 q2 q3
        split at h
        · rename_i hc
          obtain rfl := Option.some.inj h
          rw [hc.2]
          obtain ⟨us, rfl, _, _, rfl, h1, _, _, rfl, h2, _, _, rfl, h3, rfl⟩ := hr
          refine ⟨⟨a, b, c', hc.1.1, hc.1.2.1, hc.1.2.2, rfl⟩, ?_⟩
          obtain rfl := n64_rep h1 q1
          obtain rfl := n64_rep h2 q2
          obtain rfl := n64_rep h3 q3
          simp [kv, decK_enc]
        · cases h
      · cases h
    · cases h
  · cases h
attribute [irreducible] keyN
/-- What an operation yields that looks at no object; what it makes bears the name i. -/
noncomputable def evN (f : Nat → AV) (i : Oid) : I → Option (AV × List (Oid × Option Ob))
  | .mov x => some (x.ev f, [])
  | .pick c x y => match c.ev f with
    | .bool b => some (if b then x.ev f else y.ev f, [])
    | _ => none
  | .alloc ty z => some (.box i 0, [(i, some (.cells ty z))])
  | .box ty x => match x.ev f with
    | .agg cs => if cs.all AV.one then some (.box i 0, [(i, some (.cells ty cs))]) else none
    | c => if c.one then some (.box i 0, [(i, some (.cells ty [c]))]) else none
  | .fld k x => match x.ev f with
    | .box j n => some (.box j (n + k), [])
    | .elt j e n => some (.elt j e (n + k), [])
    | .telt t y n => some (.telt t y (n + k), [])
    | .ref cs => some (.ref (cs.drop k), [])
    | _ => none
  | .idx sz x n => match (x.ev f).un, n.ev f with
    | .tree t xs, .int _ n => if sz = t.size then if 0 ≤ n then (xs[n.toNat]?).map fun y => (.telt t y 0, []) else none else none
    | .own j t off len, .int _ n => if sz = t.size then if 0 ≤ n ∧ n < len then some (.elt j (off + n.toNat) 0, []) else none else none
    | _, _ => none
  | .ld one m x => match x.ev f with
    | .telt t y k => (ldCells one m k (t.av y)).map fun v => (v, [])
    | .ref cs => (ldCells one m 0 cs).map fun v => (v, [])
    | _ => none
  | .bin op x y => (evBin op (x.ev f) (y.ev f)).map fun v => (v, [])
  | .cmp neg k x y => (evCmp neg k (x.ev f).un (y.ev f)).map fun v => (v, [])
  | .not x => match x.ev f with
    | .bool b => some (.bool (!b), [])
    | _ => none
  | .neg x => match x.ev f with
    | .int k n => some (.int k (k.wrap (0 - n)), [])
    | _ => none
  | .conv k x => match x.ev f with
    | .int _ n => some (.int k (k.wrap n), [])
    | _ => none
  | .len x => match (x.ev f).un with
    | .tree _ xs => some (.int .i64 xs.length, [])
    | .own _ _ _ n => some (.int .i64 n, [])
    | .nils => some (.int .i64 (0 : Nat), [])
    | _ => none
  | .lenS x => match x.ev f with
    | .str s => some (.int .i64 s.size, [])
    | _ => none
  | .extr k x => match x.ev f with
    | .tup vs => (vs[k]?).map fun v => (v, [])
    | _ => none
  | .char x n => match x.ev f, n.ev f with
    | .str s, .int _ n => if 0 ≤ n then (s[n.toNat]?).map fun b => (.int .u8 b.toNat, []) else none
    | _, _ => none
  | .mkfn g caps => some (.fn g (caps.map (Opd.ev f)), [])
  | .idxA _ m0 x n => match x.ev f, n.ev f with
    | .box j k, .int _ m => if 0 ≤ m ∧ m < (m0 : Int) then some (.box j (k + m.toNat), []) else none
    | .elt j e k, .int _ m => if 0 ≤ m ∧ m < (m0 : Int) then some (.elt j e (k + m.toNat), []) else none
    | _, _ => none
  | .look mt ok x n => match x.ev f, keyN mt (n.ev f) with
    | .mtree mt' t es, some k => if mt = mt' then some (lookAV ok t es k, []) else none
    | _, _ => none
  | .lenM mt x => match x.ev f with
    | .mtree mt' _ es => if mt = mt' then some (.int .i64 es.length, []) else none
    | _ => none
  | .idxV m0 x n => match x.ev f, n.ev f with
    | .agg cs, .int _ m => if 0 ≤ m ∧ m < (m0 : Int) then (cs[m.toNat]?).map fun v => (v, []) else none
    | _, _ => none

/-- What an operation yields that reads objects. -/
noncomputable def evR (f : Nat → AV) (ob : Oid → Option Ob) : I → Option AV
  | .ld one m x => match x.ev f with
    | .box j k => match ob j with
      | some (.cells _ cs) => ldCells one m k cs
      | _ => none
    | .elt j e k => match ob j with
      | some (.arr _ t xs) => match xs[e]? with
        | some y => ldCells one m k (t.av y)
        | none => none
      | some (.vec _ sz _ cs) => ldCells one m (e * sz + k) cs
      | _ => none
    | _ => none
  | .look mt ok x n => match x.ev f, keyN mt (n.ev f) with
    | .mp j, some k => match ob j with
      | some (.map mt' t es) => if mt = mt' then some (lookAV ok t es k) else none
      | _ => none
    | _, _ => none
  | .lenM mt x => match x.ev f with
    | .mp j => match ob j with
      | some (.map mt' _ es) => if mt = mt' then some (.int .i64 es.length) else none
      | _ => none
    | _ => none
  | _ => none

theorem valA_rep {σ : Oid → Option Loc} {im : Nat → Prop} {w : World} : ∀ (t : Ty) (x : t.D), AV.Rep σ im w (valA t x) (mval t x)
  | .int, _ => rfl
  | .bool, _ => rfl
  | .str, _ => trivial
  | .slice _, _ => trivial
  | .pair _ _, _ => trivial
theorem lookAV_rep {σ : Oid → Option Loc} {im : Nat → Prop} {w : World} (ok : Bool) (t : Ty) (es : List (Int × t.D)) (k : Int) : AV.Rep σ im w (lookAV ok t es k) (if ok then .tuple #[mval t ((mget es k).getD t.dflt), .bool (mget es k).isSome] else mval t ((mget es k).getD t.dflt)) := by
  cases ok
  · exact valA_rep _ _
  · exact ⟨[_, _], rfl, _, _, rfl, valA_rep _ _, _, _, rfl, rfl, rfl⟩
def isOne (P : Program) (t : TypeId) : Option (Bool × Nat) :=
  match P.underlying t, P.info? t with
  | some (.struct _), some i | some (.array _ _), some i => some (false, i.size)
  | some _, some i => if i.size = 1 then some (true, 1) else none
  | _, _ => none

def fldOff (P : Program) (s : TypeId) (k : Nat) : Option Nat :=
  match P.underlying s with
  | some (.struct fs) => match fs[k]? with
    | some g => match P.info? g.type with
      | some i => if i.size = 0 then none else some g.offset
      | none => none
    | none => none
  | _ => none
def elemSize (P : Program) (t : TypeId) : Option Nat :=
  match P.underlying t with
  | some (.slice e) => (P.info? e).map (·.size)
  | _ => none

/-- How many elements an array of one cell each has. -/
def arrLen (P : Program) (t : TypeId) : Option Nat :=
  match P.underlying t with
  | some (.array m0 e) => match (P.info? e).map (·.size), P.underlying e with
    | some 1, some (.int .i64) => some m0
    | _, _ => none
  | _ => none
/-- An operation of the program, in the abstract machine's words. -/
def I.of (P : Program) (o : Oper) : Option I :=
  match o.op with
  | .move x => (Opd.of x).map .mov
  | .assign x => (Opd.of x).map .mov
  | .pick c x y => match Opd.of c, Opd.of x, Opd.of y with
    | some c, some x, some y => some (.pick c x y)
    | _, _, _ => none
  | .alloc e => if (arrLen P e).isSome then none else match P.info? e with
    | some i => match i.zero with
      | some z => if z.cells.all (·.oneCell') then some (.alloc e (z.cells.toList.map AV.of1)) else none
      | none => none
    | none => none
  | .box e x => (Opd.of x).map (.box e)
  | .fieldAddr s x k => match fldOff P s k, Opd.of x with
    | some n, some x => some (.fld n x)
    | _, _ => none
  | .indexAddr t x n => match arrLen P t with
    | some m0 => match Opd.of x, Opd.of n with
      | some x, some n => some (.idxA t m0 x n)
      | _, _ => none
    | none => match elemSize P t, Opd.of x, Opd.of n with
      | some sz, some x, some n => some (.idx sz x n)
      | _, _, _ => none
  | .load t x => match isOne P t, Opd.of x with
    | some (one, m), some x => some (.ld one m x)
    | _, _ => none
  | .binOp op t x y _ => match Opd.of x, Opd.of y with
    | some x, some y => match cmpOf P op t with
      | some (ng, k) => some (.cmp ng k x y)
      | none => some (.bin op x y)
    | _, _ => none
  | .unOp .not _ x => (Opd.of x).map .not
  | .unOp .neg _ x => (Opd.of x).map .neg
  | .convert s d x => match P.underlying s, P.underlying d, Opd.of x with
    | some (.int _), some (.int k), some x => some (.conv k x)
    | _, _, _ => none
  | .call c => match c.callee, c.args.toList, c.argTypes.toList with
    | .builtin .len, [x], [t] => match P.underlying t, Opd.of x with
      | some (.slice _), some x => some (.len x)
      | some .string, some x => some (.lenS x)
      | some (.map _ _), some x => some (.lenM t x)
      | _, _ => none
    | _, _, _ => none
  | .extract x k => (Opd.of x).map (.extr k)
  | .lookup t x n ok => match P.underlying t, Opd.of x, Opd.of n with
    | some (.map _ _), some x, some n => some (.look t ok x n)
    | _, _, _ => none
  | .index t x n => match arrLen P t with
    | some m0 => match Opd.of x, Opd.of n with
      | some x, some n => some (.idxV m0 x n)
      | _, _ => none
    | none => match P.underlying t, Opd.of x, Opd.of n with
      | some .string, some x, some n => some (.char x n)
      | _, _, _ => none
  | .makeFunc (.func g) first caps => if first.toList.isEmpty then (Opd.ofL caps.toList).map (.mkfn g) else none
  | _ => none
end Go.Proofs.YtefolocdfgelcaaDoor
