/- An abstract machine: one operation; no condition. -/
import Derived.Test.YtefolocdfgelcaaDoorE11c
namespace Go.Proofs.YtefolocdfgelcaaDoor
open Go.RowKit Go.Deep

/-- An operation in the machine's words. -/
inductive Q where
  | i (q : I)
  | st (one : Bool) (m : Nat) (x y : Opd)
  | mkS (e : TypeId) (t : Ty) (xs : List Opd)
  | make (e : TypeId) (t : Ty) (bytes : Nat) (len cap : Opd)
  | append (e : TypeId) (t : Ty) (bytes : Nat) (x y : Opd)
  | slice (sz : Nat) (x : Opd) (lo hi mx : Option Opd)
  | sub (x : Opd) (lo hi : Option Opd)
  | call (fo : Opd) (xs : List Opd) (tys : List (List (Option Ty)))
  | build (z : List AV) (ps : List (Nat × Nat × Opd))
  | mm (mx : Bool) (x y : Opd)
  | mkV (e : TypeId) (t : Ty) (sz : Nat) (xs : List Opd)
  | makeV (e : TypeId) (t : Ty) (bytes : Nat) (zc : List AV) (len cap : Opd)
  | appV (e : TypeId) (t : Ty) (bytes : Nat) (x y : Opd)
  | makeA (e : TypeId) (t : Ty)
  | makeM (mt : TypeId) (t : Ty)
  | upd (mt : TypeId) (x i v : Opd)
  | del (mt : TypeId) (x i : Opd)

def Q.ofSlice (P : Program) (t : TypeId) (x : Operand) (lo hi mx : Option Operand) : Option Q :=
  match Opd.of x, optOf lo, optOf hi, optOf mx with
  | some x', some lo', some hi', some mx' => match elemSize P t with
    | some sz => if mx.isSome && hi.isNone then none else some (.slice sz x' lo' hi' mx')
    | none => match P.underlying t with
      | some .string => if mx.isSome then none else some (.sub x' lo' hi')
      | _ => none
  | _, _, _, _ => none
def bytesOf (P : Program) (e : TypeId) : Nat := ((P.info? e).map (·.bytes)).getD 0
def elemTy (P : Program) (t : TypeId) : Option (TypeId × Ty × Nat) :=
  match P.underlying t with
  | some (.slice e) => match Ty.ofP P 8 e with
    | some u => if elemB P e u (bytesOf P e) then some (e, u, bytesOf P e) else none
    | none => none
  | _ => none
def elemTyV (P : Program) (t : TypeId) : Option (TypeId × Ty × Nat × List AV) :=
  match elemV P t with
  | some (e, b, zc) => match Ty.ofP P 8 e with
    | some u => if u.size = zc.length then some (e, u, b, zc) else none
    | none => none
  | none => none
/-- The types of an argument's cells, as far as they are slices. -/
def tysOf (P : Program) : Nat → TypeId → List (Option Ty)
  | 0, _ => []
  | n + 1, t => match P.underlying t with
    | some (.slice e) => [Ty.ofP P 8 e]
    | some (.struct fs) => fs.toList.flatMap fun g => match tysOf P n g.type with
      | [] => [none]
      | l => l
    | _ => []
def mapKeyT (P : Program) (mt : TypeId) : Option TypeId :=
  match P.underlying mt with
  | some (.map kt _) => some kt
  | _ => none
def Q.ofCall (P : Program) (c : Call) : Option Q :=
  match c.callee with
  | .value fo => match Opd.of fo, Opd.ofL c.args.toList with
    | some fo', some xs => some (.call fo' xs (c.argTypes.toList.map (tysOf P 8)))
    | _, _ => none
  | .builtin .append => match c.args.toList, c.argTypes.toList with
    | [x, y], [t, t'] => if t = t' then match elemTy P t, Opd.of x, Opd.of y with
      | some (e, u, b), some x', some y' => some (.append e u b x' y')
      | none, some x', some y' => match elemTyV P t with
        | some (e, u, b, _) => some (.appV e u b x' y')
        | none => none
      | _, _, _ => none
      else none
    | _, _ => none
  | .builtin .delete => match c.args.toList, c.argTypes.toList with
    | [m, x], [t, k] => match Opd.of m, Opd.of x with
      | some m, some x => if mapKeyT P t = some k then some (.del t m x) else none
      | _, _ => none
    | _, _ => none
  | .builtin .max => match c.args.toList with
    | [x, y] => match Opd.of x, Opd.of y with
      | some x', some y' => some (.mm true x' y')
      | _, _ => none
    | _ => none
  | .builtin .min => match c.args.toList with
    | [x, y] => match Opd.of x, Opd.of y with
      | some x', some y' => some (.mm false x' y')
      | _, _ => none
    | _ => none
  | _ => none
def Q.ofBuild (P : Program) (t : TypeId) (parts : List (Nat × Operand)) : Option Q :=
  match P.info? t, partsOfOps P t parts with
  | some inf, some ps => match inf.zero with
    | some z => if placesOK P t then some (.build (z.cells.toList.map AV.of1) ps) else none
    | none => none
  | _, _ => none
def isI64K (P : Program) (kt : TypeId) : Bool :=
  match P.underlying kt with
  | some (.int .i64) => true
  | _ => false
/-- A map type's elements, if its keys are integers or structs of three. -/
def mapTy (P : Program) (mt : TypeId) : Option Ty :=
  match P.underlying mt with
  | some (.map kt et) => if isI64K P kt || st3 P kt then if mapElem P et .int then some .int else if mapElem P et .bool then some .bool else none else none
  | _ => none
/-- The type of an array of one cell each, as plain data. -/
def arrTy (P : Program) (t : TypeId) : Option Ty :=
  match Ty.ofP P 8 t with
  | some u => if elemB P t u (bytesOf P t) then some u else none
  | none => none
def Q.of (P : Program) (o : Oper) : Option Q :=
  match I.of P o with
  | some q => some (.i q)
  | none => match o.op with
    | .store t x y => match isOne P t, Opd.of x, Opd.of y with
      | some (one, m), some x', some y' => some (.st one m x' y')
      | _, _, _ => none
    | .buildSlice t n parts => match elemTy P t, Opd.ofL (parts.toList.map (·.2)) with
      | some (e, u, _), some zs => if parts.toList.map (·.1) = List.range n ∧ n * u.size ≤ 16777216 then some (.mkS e u zs) else none
      | none, some zs => match elemTyV P t with
        | some (e, u, _, zc) => if parts.toList.map (·.1) = List.range n ∧ n * zc.length ≤ 16777216 then some (.mkV e u zc.length zs) else none
        | none => none
      | _, _ => none
    | .makeSlice t x y => match elemTy P t, Opd.of x, Opd.of y with
      | some (e, u, b), some x', some y' => some (.make e u b x' y')
      | none, some x', some y' => match elemTyV P t with
        | some (e, u, b, zc) => some (.makeV e u b zc x' y')
        | none => none
      | _, _, _ => none
    | .slice t x lo hi mx => Q.ofSlice P t x lo hi mx
    | .call c => Q.ofCall P c
    | .build t parts => Q.ofBuild P t parts.toList
    | .alloc e => (arrTy P e).map (.makeA e)
    | .makeMap t none => (mapTy P t).map (.makeM t)
    | .mapUpdate t m x v => match Opd.of m, Opd.of x, Opd.of v with
      | some m, some x, some v => some (.upd t m x v)
      | _, _, _ => none
    | _ => none

abbrev Rec0 := Nat × AV × List (Oid × Option Ob)
/-- A store into a map; a deletion. -/
noncomputable def evUpd (f : Nat → AV) (ob : Oid → Option Ob) (mt : TypeId) (m x v : Opd) : Option (Nat × AV × List (Oid × Option Ob)) :=
  match m.ev f, keyN mt (x.ev f) with
  | .mp j, some k => match ob j with
    | some (.map mt' .int es) => match v.ev f with
      | .int .i64 n => if mt = mt' ∧ es.length < 1073741824 ∧ i64R n then some (2, .any, [(j, none), (j, some (.map mt .int (mput es k n)))]) else none
      | _ => none
    | some (.map mt' .bool es) => match v.ev f with
      | .bool b => if mt = mt' ∧ es.length < 1073741824 then some (2, .any, [(j, none), (j, some (.map mt .bool (mput es k b)))]) else none
      | _ => none
    | _ => none
  | _, _ => none
noncomputable def evDel (f : Nat → AV) (ob : Oid → Option Ob) (mt : TypeId) (m x : Opd) : Option (Nat × AV × List (Oid × Option Ob)) :=
  match m.ev f, keyN mt (x.ev f) with
  | .mp j, some k => match ob j with
    | some (.map mt' t es) => if mt = mt' then some (2, .any, [(j, none), (j, some (.map mt t (mdel es k)))]) else none
    | _ => none
  | _, _ => none
/-- What an operation yields: its kind (0: it looks at no object and makes none; 1: it changes none; 2: it changes one), its value, the objects that it makes or changes. -/
noncomputable def ev (f : Nat → AV) (ob : Oid → Option Ob) (i : Oid) : Q → Option (Nat × AV × List (Oid × Option Ob))
  | .i q => match evN f i q with
    | some (v, us) => some (if us.isEmpty then 0 else 1, v, us)
    | none => match evR f ob q with
      | some v => some (1, v, [])
      | none => none
  | .st one m x y => match evSt f ob one m x y with
    | some (v, us) => some (2, v, us)
    | none => none
  | .mkS e t xs => match evMkS f i e t xs with
    | some (v, us) => some (1, v, us)
    | none => none
  | .make e t b x y => match evMake f i e t b x y with
    | some (v, us) => some (1, v, us)
    | none => none
  | .append e t b x y => match evAppend f ob i e t b x y with
    | some (v, us) => some (match x.ev f with | .nils => 1 | _ => 2, v, us)
    | none => none
  | .slice sz x lo hi mx => match evSlice f sz x lo hi mx with
    | some v => some (0, v, [])
    | none => none
  | .sub x lo hi => match evSub f x lo hi with
    | some v => some (0, v, [])
    | none => none
  | .call _ _ _ => none
  | .build z ps => match evBuild f z ps with
    | some v => some (0, v, [])
    | none => none
  | .mm mx x y => match evMM f mx x y with
    | some v => some (0, v, [])
    | none => none
  | .mkV _ t sz xs => match t with
    | .slice u => if sz = 1 then match evMkT f ob u xs with
      | some (v, us) => some (2, v, us)
      | none => none
      else none
    | _ => none
  | .makeV e t b zc x y => match evMakeV f i e t b zc x y with
    | some (v, us) => some (1, v, us)
    | none => none
  | .appV e t b x y => evAppV f ob i e t b x y
  | .makeA e t => some (1, .elt i 0 0, [(i, some (.arr e t [t.dflt]))])
  | .makeM mt t => some (1, .mp i, [(i, some (.map mt t []))])
  | .upd mt m x v => evUpd f ob mt m x v
  | .del mt m x => evDel f ob mt m x
/-- What a literal of things yields besides: a row of the call's own. -/
def evL (f : Nat → AV) (i : Oid) : Q → Option Rec0
  | .mkV e t sz xs => match evMkV f i e t sz xs with
    | some (v, us) => some (1, v, us)
    | none => none
  | _ => none
/-- A row of rows is made: all its rows are nil. -/
def MakeM (f : Nat → AV) (i : Oid) (q : Q) (r : Nat × AV × List (Oid × Option Ob)) : Prop :=
  ∃ (e e' : TypeId) (u : Ty) (b : Nat) (x y : Opd) (k k' : IntKind) (n c : Int), q = .makeV e (.slice u) b [.nils] x y ∧ x.ev f = .int k n ∧ y.ev f = .int k' c ∧ (0 ≤ n ∧ n ≤ c ∧ c ≤ 1073741824 ∧ (b : Int) * c ≤ 140737488355328) ∧ u.flat = true ∧
    r = (1, RV.out ⟨false, [(false, [.newM e e' u (List.replicate n.toNat [])])]⟩ (mkId i) [])
/-- What an operation yields, calls among them; pure: no call that changes rows. -/
def EvR (P : Program) (G : World → Prop) (pure : Bool) (f : Nat → AV) (ob : Oid → Option Ob) (i : Oid) (q : Q) (r : Nat × AV × List (Oid × Option Ob)) : Prop :=
  ((ev f ob i q = some r ∨ evL f i q = some r) ∨ MakeM f i q r) ∨ ∃ fo xs tys g caps, q = .call fo xs tys ∧ fo.ev f = .fn g caps ∧ ((r.1 = 1 ∧ CallR P G f ob i tys g (xs ++ caps.map .cst) r.2) ∨ (pure = false ∧ r.1 = 2 ∧ CallN P G f ob i g (xs ++ caps.map .cst) r.2))

section
variable {P : Program} {G : World → Prop} {w0 w w' : World} {ob : Oid → Option Ob} {σ : Oid → Option Loc} {K K' : Nat → Prop} {im : Nat → Prop}

theorem elemTy_spec {t e : TypeId} {u : Ty} {b : Nat} (h : elemTy P t = some (e, u, b)) : P.underlying t = some (.slice e) ∧ elemB P e u b = true := by
  unfold elemTy at h
  split at h
  · rename_i e' he
    split at h
    · split at h
      · rename_i u' _ hb
        have := Option.some.inj h
        simp only [Prod.mk.injEq] at this
        obtain ⟨rfl, rfl, rfl⟩ := this
        exact ⟨he, hb⟩
      · cases h
    · cases h
  · cases h
theorem map_cst (f : Nat → AV) (cs : List AV) : (cs.map Opd.cst).map (Opd.ev f) = cs := by
  induction cs with
  | nil => rfl
  | cons c cs ih => simp only [List.map_cons, ih]; rfl

theorem srcOf_at {obL : Oid → Option Ob} (hag : ∀ id o l, obL id = some o → σ id = some l → ob id = some o) {t : Ty} {v : AV} {u : Value} {ys : List t.D} (hr : AV.Rep σ im w v u) (h : srcOf obL t v = some ys) : srcOf ob t v = some ys := by
  unfold srcOf at h ⊢
  split at h
  · exact h
  · exact h
  · exact h
  · rename_i i t0 off len
    split at h
    · rename_i e u0 xs hj
      have : ob i = some (.arr e u0 xs) := by
        rcases hr with ⟨g1, _⟩ | ⟨b, cap, g1, _⟩ | ⟨_, g1, _⟩
        · exact hag _ _ _ hj g1
        · exact hag _ _ _ hj g1
        · exact hag _ _ _ hj g1
      simp only [this]
      exact h
    · cases h
  · cases h
theorem evSt_at {obL : Oid → Option Ob} (hag : ∀ id o l, obL id = some o → σ id = some l → ob id = some o) {f : Nat → AV} {one : Bool} {m : Nat} {x y : Opd} {u : Value} {r : AV × List (Oid × Option Ob)} (hr : AV.Rep σ im w (x.ev f) u) (h : evSt f obL one m x y = some r) : evSt f ob one m x y = some r := by
  unfold evSt at h ⊢
  split at h
  · rename_i j k hx
    rw [hx] at hr
    obtain ⟨b, cap, sz, g1, _⟩ := hr
    split at h
    · rename_i ty cs hj
      simp only [hag _ _ _ hj g1]
      exact h
    · cases h
  · rename_i j e k hx
    rw [hx] at hr
    obtain ⟨b, cap, sz, g1, _⟩ := hr
    split at h
    · rename_i ty cs xs hj
      simp only [hag _ _ _ hj g1]
      exact h
    · rename_i et sz' n cs hj
      simp only [hag _ _ _ hj g1]
      exact h
    · cases h
  · cases h
theorem evAppend_at {obL : Oid → Option Ob} (hag : ∀ id o l, obL id = some o → σ id = some l → ob id = some o) {f : Nat → AV} {i : Oid} {e : TypeId} {t : Ty} {b : Nat} {x y : Opd} {u u' : Value} {r : AV × List (Oid × Option Ob)} (hr : AV.Rep σ im w (x.ev f) u) (hr' : AV.Rep σ im w (y.ev f) u') (h : evAppend f obL i e t b x y = some r) : evAppend f ob i e t b x y = some r := by
  unfold evAppend at h ⊢
  split at h
  · rename_i ys hys
    rw [srcOf_at hag hr' hys]
    dsimp only
    split at h
    · exact h
    · rename_i j t0 off len hx
      rw [hx] at hr
      split at h
      · rename_i e' u0 xs hj
        have : ob j = some (.arr e' u0 xs) := by
          rcases hr with ⟨g1, _⟩ | ⟨b, cap, g1, _⟩ | ⟨_, g1, _⟩
          · exact hag _ _ _ hj g1
          · exact hag _ _ _ hj g1
          · exact hag _ _ _ hj g1
        simp only [this]
        exact h
      · cases h
    · cases h
  · cases h
theorem srcL_at {obL : Oid → Option Ob} (hag : ∀ id o l, obL id = some o → σ id = some l → ob id = some o) {f : Nat → AV} {t : Ty} {a : Act} : ∀ {xs : List Operand} {zs : List Opd} {yss : List (List t.D)}, Opd.ofL xs = some zs → (∀ x ∈ xs, ∀ y, Opd.of x = some y → AV.Rep σ im w (y.ev f) (a.eval x)) → srcL f obL t zs = some yss → srcL f ob t zs = some yss
  | [], zs, yss, h, _, he => by
    obtain rfl : [] = zs := Option.some.inj h
    exact he
  | x :: xs, zs, yss, h, hf, he => by
    simp only [Opd.ofL] at h
    split at h
    · rename_i y ys' h1 h2
      obtain rfl := Option.some.inj h
      simp only [srcL] at he ⊢
      split at he
      · rename_i q qs h3 h4
        rw [srcOf_at hag (hf x (by simp) y h1) h3, srcL_at hag h2 (fun x hx => hf x (by simp [hx])) h4]
        exact he
      · cases he
    · cases h
theorem evMkT_at {obL : Oid → Option Ob} (hag : ∀ id o l, obL id = some o → σ id = some l → ob id = some o) {f : Nat → AV} {t : Ty} {a : Act} {xs : List Operand} {zs : List Opd} {r : AV × List (Oid × Option Ob)} (h : Opd.ofL xs = some zs) (hf : ∀ x ∈ xs, ∀ y, Opd.of x = some y → AV.Rep σ im w (y.ev f) (a.eval x)) (he : evMkT f obL t zs = some r) : evMkT f ob t zs = some r := by
  unfold evMkT at he ⊢
  split at he
  · rename_i yss hy
    rw [srcL_at hag h hf hy]
    exact he
  · cases he
theorem srcV_at {obL : Oid → Option Ob} (hag : ∀ id o l, obL id = some o → σ id = some l → ob id = some o) {t : Ty} {v : AV} {u : Value} {r : Nat × List AV} (hr : AV.Rep σ im w v u) (h : srcV obL t v = some r) : srcV ob t v = some r := by
  unfold srcV at h ⊢
  split at h
  · exact h
  · exact h
  · exact h
  · rename_i i t0 off len
    split at h
    · rename_i e sz n cs hj
      have : ob i = some (.vec e sz n cs) := by
        rcases hr with ⟨g1, _⟩ | ⟨b, cap, g1, _⟩ | ⟨_, g1, _⟩
        · exact hag _ _ _ hj g1
        · exact hag _ _ _ hj g1
        · exact hag _ _ _ hj g1
      simp only [this]
      exact h
    · cases h
  · cases h
theorem evAppV_at {obL : Oid → Option Ob} (hag : ∀ id o l, obL id = some o → σ id = some l → ob id = some o) {f : Nat → AV} {i : Oid} {e : TypeId} {t : Ty} {b : Nat} {x y : Opd} {u u' : Value} {r : Rec0} (hr : AV.Rep σ im w (x.ev f) u) (hr' : AV.Rep σ im w (y.ev f) u') (h : evAppV f obL i e t b x y = some r) : evAppV f ob i e t b x y = some r := by
  unfold evAppV at h ⊢
  split at h
  · rename_i m ds hys
    rw [srcV_at hag hr' hys]
    dsimp only
    split at h
    · exact h
    · rename_i j t0 off len hx
      rw [hx] at hr
      split at h
      · rename_i e' sz n cs hj
        have : ob j = some (.vec e' sz n cs) := by
          rcases hr with ⟨g1, _⟩ | ⟨b, cap, g1, _⟩ | ⟨_, g1, _⟩
          · exact hag _ _ _ hj g1
          · exact hag _ _ _ hj g1
          · exact hag _ _ _ hj g1
        simp only [this]
        exact h
      · cases h
    · cases h
  · cases h
theorem elemTyV_spec {t e : TypeId} {u : Ty} {b : Nat} {zc : List AV} (h : elemTyV P t = some (e, u, b, zc)) : elemV P t = some (e, b, zc) ∧ u.size = zc.length := by
  unfold elemTyV at h
  split at h
  · rename_i e' b' zc' he
    split at h
    · split at h
      · rename_i u' _ hb
        have := Option.some.inj h
        simp only [Prod.mk.injEq] at this
        obtain ⟨rfl, rfl, rfl, rfl⟩ := this
        exact ⟨he, hb⟩
      · cases h
    · cases h
  · cases h
theorem sliceElem_of {ty e : TypeId} {b : Nat} {zc : List AV} (h : elemV P ty = some (e, b, zc)) (h1 : zc.length = 1) : sliceElem P e = true := by
  obtain ⟨_, i, z, q1, q2, _, _, q3, _, q8, _⟩ := elemV_spec h
  unfold sliceElem
  simp [q1, q2, q3, q8, h1]
theorem evUpd_kind {f : Nat → AV} {obL : Oid → Option Ob} {mt : TypeId} {m x v : Opd} {k : Nat} {r : AV × List (Oid × Option Ob)} (h : evUpd f obL mt m x v = some (k, r)) : k = 2 := by
  unfold evUpd at h
  (repeat' split at h) <;> first | (cases h; done) | (simp only [Option.some.injEq, Prod.mk.injEq] at h; exact h.1.symm)
theorem evDel_kind {f : Nat → AV} {obL : Oid → Option Ob} {mt : TypeId} {m x : Opd} {k : Nat} {r : AV × List (Oid × Option Ob)} (h : evDel f obL mt m x = some (k, r)) : k = 2 := by
  unfold evDel at h
  (repeat' split at h) <;> first | (cases h; done) | (simp only [Option.some.injEq, Prod.mk.injEq] at h; exact h.1.symm)
theorem evUpd_at {obL : Oid → Option Ob} (hag : ∀ id o l, obL id = some o → σ id = some l → ob id = some o) {f : Nat → AV} {mt : TypeId} {m x v : Opd} {u : Value} (hr : AV.Rep σ (imm ob σ) w (m.ev f) u) {r : Nat × AV × List (Oid × Option Ob)} (h : evUpd f obL mt m x v = some r) : evUpd f ob mt m x v = some r := by
  unfold evUpd at h ⊢
  split at h
  · rename_i j k hm hx
    rw [hm] at hr
    obtain ⟨b, cap, sz, e1, _⟩ := hr
    cases hj : obL j with
    | none => rw [hj] at h; cases h
    | some o =>
      rw [hj] at h
      simp only [hm, hx, hag j o _ hj e1]
      exact h
  · cases h
theorem evDel_at {obL : Oid → Option Ob} (hag : ∀ id o l, obL id = some o → σ id = some l → ob id = some o) {f : Nat → AV} {mt : TypeId} {m x : Opd} {u : Value} (hr : AV.Rep σ (imm ob σ) w (m.ev f) u) {r : Nat × AV × List (Oid × Option Ob)} (h : evDel f obL mt m x = some r) : evDel f ob mt m x = some r := by
  unfold evDel at h ⊢
  split at h
  · rename_i j k hm hx
    rw [hm] at hr
    obtain ⟨b, cap, sz, e1, _⟩ := hr
    cases hj : obL j with
    | none => rw [hj] at h; cases h
    | some o =>
      rw [hj] at h
      simp only [hm, hx, hag j o _ hj e1]
      exact h
  · cases h
theorem makeA_does {o : Oper} {a : Act} {i : Oid} {e : TypeId} {t : Ty} (ho : o.op = .alloc e) (h : arrTy P e = some t) (hm : Mem0 G w0 ob σ K w) (hK : ∀ n, K n → K' n) (hi : ¬ K i.2) (hi' : K' i.2) :
    Oper.does P o a w (Goes G w0 (applyU [(i, some (.arr e t [t.dflt]))] ob) K' σ (imm ob σ) w (.elt i 0 0)) := by
  unfold arrTy at h
  split at h
  · rename_i u hu
    split at h
    · rename_i hel
      obtain rfl := Option.some.inj h
      obtain ⟨inf, z, q1, q2, q3, q4, q5, q6, q7, q8⟩ := elemB_spec hel
      have hz : z.cells.toList = u.cells [u.dflt] := by rw [q6]; simp [Ty.cells]
      have hg := Goes.row (w' := w.alloc (.cells z.cells e)) hm hK hi hi' (e := e) (xs := [u.dflt]) q5 ((Below.refl _ _).alloc (Nat.le_refl _) _) (l := .at_ w.heap.size 1 u.size) (fun b c s h => by cases h; rfl) (by
        refine ⟨by rw [Ty.cells_length q5], .inr ⟨w.heap.size, 1, z.cells, rfl, Nat.le_refl _, by show (w.heap.push _)[w.heap.size]? = _; simp, by simp, by simp [maxLen], by rw [q8]; simp, ?_⟩⟩
        rw [← hz, List.take_of_length_le]
        rw [Array.length_toList, q8]; simp)
      obtain ⟨σ', hL, hm', hr⟩ := hg
      refine Oper.does_value (v := .pointer (some ⟨w.heap.size, 0, none⟩)) (w' := w.alloc (.cells z.cells e)) ?_ ⟨σ', hL, hm', ?_⟩
      · simp [execOp, ho, Instr.alloc, zeroValue, typeInfo, q1, q2, newVar, newRow]
      · rcases hr with ⟨_, _, h0, _⟩ | ⟨b, cap, e1, _, e2⟩ | ⟨_, _, h0, _⟩
        · exact absurd h0 (by simp)
        · refine ⟨b, cap, u.size, e1, ?_⟩
          simp only [Loc.val, Nat.zero_mul, Value.slice.injEq, Option.some.injEq, Addr.mk.injEq] at e2
          rw [e2.1.1]; simp
        · exact absurd rfl h0
    · cases h
  · cases h
/-- A new map. -/
theorem laid : laidOutB Tryd.prog = true := by kernel_rfl
theorem makeM_does [IsP P] {o : Oper} {a : Act} {i : Oid} {mt : TypeId} {t : Ty} (ho : o.op = .makeMap mt none) (h : mapTy P mt = some t) (hm : Mem0 G w0 ob σ K w) (hK : ∀ n, K n → K' n) (hi : ¬ K i.2) (hi' : K' i.2) :
    Oper.does P o a w (Goes G w0 (applyU [(i, some (.map mt t []))] ob) K' σ (imm ob σ) w (.mp i)) := by
  have hP := IsP.eq (P := P)
  subst hP
  obtain ⟨kt, et, ht⟩ : ∃ kt et, MapTy Tryd.prog mt t kt et := by
    unfold mapTy at h
    split at h
    · rename_i kt et h1
      split at h
      · rename_i h2
        have hk : KeyTy Tryd.prog kt (k3 Tryd.prog mt) := by
          have h4 : k3 Tryd.prog mt = st3 Tryd.prog kt := by unfold k3; rw [h1]
          rw [h4]
          cases h5 : st3 Tryd.prog kt with
          | true => exact st3_key laid h5
          | false =>
            rw [h5, Bool.or_false] at h2
            unfold isI64K at h2
            split at h2
            · rename_i h6; exact int_key h6
            · cases h2
        split at h
        · rename_i h3
          obtain rfl := Option.some.inj h
          exact ⟨kt, et, h1, hk, h3⟩
        · split at h
          · rename_i h3
            obtain rfl := Option.some.inj h
            exact ⟨kt, et, h1, hk, h3⟩
          · cases h
      · cases h
    · cases h
  have hs := Goes.fresh hm hi
  have hb : Below w.heap.size w (w.alloc (.map #[] 0)) := (Below.refl _ _).alloc (Nat.le_refl _) _
  have hL := Later.new (ob := ob) (i := i) (l := .at_ w.heap.size 0 0) (o := .map mt t []) hs hb (fun b c s e => by cases e; exact Nat.le_refl _)
  refine Oper.does_value (v := .map (some w.heap.size)) (w' := w.alloc (.map #[] 0)) ?_ ⟨_, hL, hm.new hs hb (fun b c s e => by cases e; exact ⟨Nat.le_refl _, by simp, Nat.zero_le _⟩) hK hi' ?_, ⟨w.heap.size, 0, 0, upd_same _ _ _, rfl⟩⟩
  · simp [execOp, ho, run_makeMap, Result.andThen]
  · exact MapRep.made ht w
theorem Only.turned {b : Nat} (h : w.mapTurned w' b) : Only b w w' := by
  obtain ⟨h1, h2, h3, h4, h5⟩ := turned_block h
  exact ⟨h1, h2, h3, by omega, fun k _ hk => h5 k hk⟩
/-- An object in the same block, the block having turned. -/
theorem Goes.turned {j : Oid} {b cap sz : Nat} {mt : TypeId} {t : Ty} {es es' : List (Int × t.D)} (hm : Mem0 G w0 ob σ K w) (hK : ∀ n, K n → K' n) (hj : ob j = some (.map mt t es)) (e1 : σ j = some (.at_ b cap sz)) (hg : w.mapTurned w' b) (hr : MapRep Tryd.prog mt t es' w' b) (u : Value) :
    Goes G w0 (applyU [(j, none), (j, some (.map mt t es'))] ob) K' σ (imm ob σ) w .any u w' :=
  ⟨_, Later.swap (o' := .map mt t es') hj e1 (.inl ⟨rfl, rfl, rfl⟩) (Only.turned hg), hm.swap hj e1 (.inl ⟨rfl, rfl, rfl⟩) (Only.turned hg) hK (hK _ (hm.gen _ _ e1)) (hm.cap _ _ _ _ e1) hr, trivial⟩
theorem upd_does [IsP P] {o : Oper} {a : Act} {f : Nat → AV} {k : Nat} {v : AV} {us : List (Oid × Option Ob)} {mt : TypeId} {x y z : Operand} {x' y' z' : Opd} (ho : o.op = .mapUpdate mt x y z) (h1 : Opd.of x = some x') (h2 : Opd.of y = some y') (h3 : Opd.of z = some z')
    (he : evUpd f ob mt x' y' z' = some (k, v, us)) (hm : Mem0 G w0 ob σ K w) (hK : ∀ n, K n → K' n)
    (hf : ∀ x ∈ o.op.operands, ∀ y, Opd.of x = some y → AV.Rep σ (imm ob σ) w (y.ev f) (a.eval x)) : Oper.does P o a w (Goes G w0 (applyU us ob) K' σ (imm ob σ) w v) := by
  have r1 := hf x (by simp [ho, Op.operands]) x' h1
  have r2 := hf y (by simp [ho, Op.operands]) y' h2
  have r3 := hf z (by simp [ho, Op.operands]) z' h3
  have hP := IsP.eq (P := P)
  subst hP
  unfold evUpd at he
  split at he
  · rename_i j key hx hy
    rw [hx] at r1
    have c1 := (keyN_rep r2 hy).1
    have e3 := (keyN_rep r2 hy).2
    obtain ⟨b, cap, sz, e1, e2⟩ := r1
    split at he
    · rename_i mt' es hj
      split at he
      · rename_i n hz
        rw [hz] at r3
        have e4 : a.eval z = .int .i64 n := r3
        split at he
        · rename_i hc
          obtain ⟨rfl, c2, c3⟩ := hc
          simp only [Option.some.injEq, Prod.mk.injEq] at he
          obtain ⟨_, rfl, rfl⟩ := he
          have hr : MapRep Tryd.prog mt .int es w b := hm.obs j _ _ hj e1
          obtain ⟨w', hrun, hr', hg⟩ := hr.put c1 (x := (n : Ty.int.D)) (fun m hmn _ => by cases hmn; exact c3) (by unfold maxLen; omega)
          have hrun' : (Instr.mapUpdate mt (.map (some b)) (kv (k3 Tryd.prog mt) key) (.int .i64 n)).run Tryd.prog w = .ok () w' := hrun
          exact Oper.does_skip (by simp [execOp, ho, e2, e3, e4, hrun', Result.andThen]) (Goes.turned hm hK hj e1 hg hr' _)
        · cases he
      · cases he
    · rename_i mt' es hj
      split at he
      · rename_i n hz
        rw [hz] at r3
        have e4 : a.eval z = .bool n := r3
        split at he
        · rename_i hc
          obtain ⟨rfl, c2⟩ := hc
          simp only [Option.some.injEq, Prod.mk.injEq] at he
          obtain ⟨_, rfl, rfl⟩ := he
          have hr : MapRep Tryd.prog mt .bool es w b := hm.obs j _ _ hj e1
          obtain ⟨w', hrun, hr', hg⟩ := hr.put c1 (x := (n : Ty.bool.D)) (fun m _ ht => by cases ht) (by unfold maxLen; omega)
          have hrun' : (Instr.mapUpdate mt (.map (some b)) (kv (k3 Tryd.prog mt) key) (.bool n)).run Tryd.prog w = .ok () w' := hrun
          exact Oper.does_skip (by simp [execOp, ho, e2, e3, e4, hrun', Result.andThen]) (Goes.turned hm hK hj e1 hg hr' _)
        · cases he
      · cases he
    · cases he
  · cases he
theorem del_does [IsP P] {o : Oper} {a : Act} {f : Nat → AV} {k : Nat} {v : AV} {us : List (Oid × Option Ob)} {mt kt : TypeId} {x y : Operand} {x' y' : Opd} {c : Call} (ho : o.op = .call c) (hcb : c.callee = .builtin .delete) (hca : c.args.toList = [x, y]) (hct : c.argTypes.toList = [mt, kt]) (hkt : mapKeyT P mt = some kt) (h1 : Opd.of x = some x') (h2 : Opd.of y = some y')
    (he : evDel f ob mt x' y' = some (k, v, us)) (hm : Mem0 G w0 ob σ K w) (hK : ∀ n, K n → K' n)
    (hf : ∀ x ∈ o.op.operands, ∀ y, Opd.of x = some y → AV.Rep σ (imm ob σ) w (y.ev f) (a.eval x)) : Oper.does P o a w (Goes G w0 (applyU us ob) K' σ (imm ob σ) w v) := by
  have hargs : c.args = #[x, y] := by rw [← Array.toArray_toList (xs := c.args), hca]
  have htys : c.argTypes = #[mt, kt] := by rw [← Array.toArray_toList (xs := c.argTypes), hct]
  have r1 := hf x (by simp [ho, Op.operands, Call.operands, hcb, hargs]) x' h1
  have r2 := hf y (by simp [ho, Op.operands, Call.operands, hcb, hargs]) y' h2
  have hP := IsP.eq (P := P)
  subst hP
  unfold evDel at he
  split at he
  · rename_i j key hx hy
    rw [hx] at r1
    have c1 := (keyN_rep r2 hy).1
    have e3 := (keyN_rep r2 hy).2
    obtain ⟨b, cap, sz, e1, e2⟩ := r1
    split at he
    · rename_i mt' t es hj
      split at he
      · rename_i hc
        subst hc
        simp only [Option.some.injEq, Prod.mk.injEq] at he
        obtain ⟨_, rfl, rfl⟩ := he
        have hr : MapRep Tryd.prog mt t es w b := hm.obs j _ _ hj e1
        obtain ⟨w', hrun, hr', hg⟩ := hr.del c1 kt (fun k2 e2 hu => by unfold mapKeyT at hkt; rw [hu] at hkt; exact Option.some.inj hkt) o.type
        exact Oper.does_value (v := .tuple #[]) (by simp [execOp, ho, resolve, invoke, builtin, hcb, hargs, htys, e2, e3, hrun, Result.andThen]) (Goes.turned hm hK hj e1 hg hr' _)
      · cases he
    · cases he
  · cases he
theorem makeMM_does {o : Oper} {a : Act} {f : Nat → AV} {i : Oid} {q : Q} {k : Nat} {v : AV} {us : List (Oid × Option Ob)} (hc : Q.of P o = some q) (h : MakeM f i q (k, v, us)) (hm : Mem0 G w0 ob σ K w) (hK : ∀ n, K n → K' n) (hi : ¬ K i.2) (hi' : K' i.2)
    (hf : ∀ x ∈ o.op.operands, ∀ y, Opd.of x = some y → AV.Rep σ (imm ob σ) w (y.ev f) (a.eval x)) : Oper.does P o a w (Goes G w0 (applyU us ob) K' σ (imm ob σ) w v) := by
  obtain ⟨e, e', u, b, x', y', q1, q2, n, c, rfl, hx, hy, ⟨c1, c2, c3, c4⟩, hfl, hr⟩ := h
  have hop : ∃ ty x y, o.op = .makeSlice ty x y ∧ elemTyV P ty = some (e, .slice u, b, [.nils]) ∧ Opd.of x = some x' ∧ Opd.of y = some y' := by
    unfold Q.of at hc
    split at hc
    · cases hc
    · split at hc
      all_goals try (cases hc; done)
      all_goals try ((repeat' split at hc) <;> first | (cases hc; done) | (simp only [Option.some.injEq, reduceCtorEq] at hc; done))
      · rename_i t x y ho
        split at hc
        · cases hc
        · rename_i x1 y1 h1 h2 h3
          split at hc
          · rename_i e1 u1 b1 zc1 hte
            obtain ⟨rfl, rfl, rfl, rfl, rfl, rfl⟩ := Q.makeV.inj (Option.some.inj hc)
            exact ⟨t, x, y, ho, hte, h2, h3⟩
          · cases hc
        · cases hc
      · unfold Q.ofSlice at hc
        (repeat' split at hc) <;> first | (cases hc; done) | (simp only [Option.some.injEq, reduceCtorEq] at hc; done)
      · unfold Q.ofCall at hc
        (repeat' split at hc) <;> first | (cases hc; done) | (simp only [Option.some.injEq, reduceCtorEq] at hc; done)
      · unfold Q.ofBuild at hc
        (repeat' split at hc) <;> first | (cases hc; done) | (simp only [Option.some.injEq, reduceCtorEq] at hc; done)
      · obtain ⟨_, _, hh⟩ := Option.map_eq_some_iff.1 hc
        cases hh
      · obtain ⟨_, _, hh⟩ := Option.map_eq_some_iff.1 hc
        cases hh
  obtain ⟨ty, x, y, ho, hte, h2, h3⟩ := hop
  have r1 := hf x (by simp [ho, Op.operands]) x' h2
  have r2 := hf y (by simp [ho, Op.operands]) y' h3
  rw [hx] at r1
  rw [hy] at r2
  have e1 : a.eval x = .int q1 n := r1
  have e2 : a.eval y = .int q2 c := r2
  obtain ⟨ht, inf, z, p1, p2, p4, p5, p3, p7, p8, p9⟩ := elemV_spec (elemTyV_spec hte).1
  have hrun := run_make (P := P) w ty e inf z ht p1 p2 q1 q2 n c c1 c2 (by rw [p4]; omega) (by omega)
  have hz1 : z.cells.size = 1 := by rw [p8]; rfl
  have hs1 : inf.size = 1 := by rw [p3]; rfl
  have hz : z.cells.toList = [.slice none 0 0] := by
    have : AV.RepL σ (imm ob σ) w [.nils] z.cells.toList := by rw [← p5]; exact AV.of1_repL _
    obtain ⟨u0, us0, e0, h0, h0'⟩ := this
    obtain rfl : us0 = [] := h0'
    rw [e0, show u0 = .slice none 0 0 from h0]
  have hmade : (madeCells z.cells (c.toNat * inf.size)).toList = List.replicate c.toNat (.slice none 0 0) := by
    have := made_cells z.cells c.toNat
    rw [hz1] at this
    rw [hs1, this, hz]
    induction c.toNat with
    | zero => rfl
    | succ m ih => simp only [List.replicate_succ, List.flatten_cons, ih]; rfl
  obtain ⟨rfl, hr2⟩ := Prod.mk.inj hr
  have hb : Below w.heap.size w (w.alloc (.cells (madeCells z.cells (c.toNat * inf.size)) e)) := (Below.refl _ _).alloc (Nat.le_refl _) _
  have hg := RV.goes (r := ⟨false, [(false, [.newM e e' u (List.replicate n.toNat [])])]⟩) (im0 := fun _ => False) (az := []) (vs := []) (u := .slice (some ⟨w.heap.size, 0, none⟩) n.toNat c.toNat) hm hb hK hi hi' rfl
    ⟨[(Loc.at_ w.heap.size c.toNat 1).val n.toNat], .at_ w.heap.size c.toNat 1 :: (List.replicate n.toNat .nil ++ []), ⟨.at_ w.heap.size c.toNat 1, List.replicate n.toNat .nil, [], [], List.replicate n.toNat (.slice none 0 0), by simp, rfl, ⟨⟨by simp, hfl⟩, ⟨?_, fun b c s h => by cases h; rfl⟩, fun k xs l h1 h2 => ?_⟩, rfl, rfl⟩, ⟨⟨fun b c s _ c' s' hin => by simp at hin, ?_⟩, fun ⟨d, hd⟩ => by simp [RV.leaves] at hd⟩, rfl⟩
  · rw [← hr2] at hg
    exact Oper.does_value (by simp [execOp, ho, e1, e2, hrun]) hg
  · rw [List.length_replicate]
    refine ⟨by simp, .inr ⟨w.heap.size, c.toNat, madeCells z.cells (c.toNat * inf.size), rfl, Nat.le_refl _, by show (w.heap.push _)[w.heap.size]? = _; simp, by omega, by simp only [maxLen]; omega, by simp [madeCells, hs1], ?_⟩⟩
    rw [hmade, Nat.mul_one, List.take_replicate, Nat.min_eq_left (by omega)]
  · rw [List.getElem?_replicate] at h1 h2
    split at h1
    · rename_i hlt
      rw [if_pos hlt] at h2
      obtain rfl := Option.some.inj h1
      obtain rfl := Option.some.inj h2
      exact ⟨by rw [List.getElem?_replicate, if_pos hlt]; rfl, ownsV_nil _ _ _ _, fun b c s h => by cases h⟩
    · cases h1
  · rw [List.append_nil]
    have : ∀ m : Nat, apartL (List.replicate m Loc.nil) := by
      intro m
      induction m with
      | zero => trivial
      | succ m ih => exact ⟨fun b c s h => (by cases h), ih⟩
    exact this _
theorem ev_does [IsP P] {pure : Bool} {o : Oper} {a : Act} {q : Q} {f : Nat → AV} {obL : Oid → Option Ob} {i : Oid} {k : Nat} {v : AV} {us : List (Oid × Option Ob)} (hc : Q.of P o = some q) (he0 : EvR P G pure f obL i q (k, v, us)) (hm : Mem0 G w0 ob σ K w) (hK : ∀ n, K n → K' n) (hi : ¬ K i.2) (hi' : K' i.2)
    (hob : k ≠ 0 → ∀ i o l, obL i = some o → σ i = some l → o.Rep w0.heap.size σ (imm ob σ) w l) (hE : k = 2 → ∀ id o l, obL id = some o → σ id = some l → ob id = some o)
    (hf : ∀ x ∈ o.op.operands, ∀ y, Opd.of x = some y → AV.Rep σ (imm ob σ) w (y.ev f) (a.eval x)) : Oper.does P o a w (Goes G w0 (applyU us ob) K' σ (imm ob σ) w v) := by
  rcases he0 with ((he | hl) | hmk) | ⟨fo0, xs0, tys0, g0, caps0, rfl, hg, hcall⟩
  rotate_left
  rotate_left
  · exact makeMM_does hc hmk hm hK hi hi' hf
  · unfold Q.of at hc
    split at hc
    · cases hc
    · split at hc
      all_goals try (cases hc; done)
      all_goals try ((repeat' split at hc) <;> first | (cases hc; done) | (simp only [Option.some.injEq, reduceCtorEq] at hc; done))
      · unfold Q.ofSlice at hc
        (repeat' split at hc) <;> first | (cases hc; done) | (simp only [Option.some.injEq, reduceCtorEq] at hc; done)
      · rename_i c ho
        unfold Q.ofCall at hc
        split at hc
        · rename_i fo hcb
          split at hc
          · rename_i fo' xs h1 h2
            obtain ⟨rfl, rfl, rfl⟩ := Q.call.inj (Option.some.inj hc)
            rcases hcall with ⟨hk, hcall⟩ | ⟨_, hk, hcall⟩
            · exact evCall_does ho hcb h1 hg h2 (map_cst f caps0) hcall hm hK hi hi' (hob (by simp at hk; omega)) hf
            · exact callM_does ho hcb h1 hg h2 (map_cst f caps0) hcall hm hK hi hi' (hE hk) hf
          · cases hc
        all_goals ((repeat' split at hc) <;> first | (cases hc; done) | (simp only [Option.some.injEq, reduceCtorEq] at hc; done))
      · unfold Q.ofBuild at hc
        (repeat' split at hc) <;> first | (cases hc; done) | (simp only [Option.some.injEq, reduceCtorEq] at hc; done)
      · obtain ⟨_, _, hh⟩ := Option.map_eq_some_iff.1 hc
        cases hh
      · obtain ⟨_, _, hh⟩ := Option.map_eq_some_iff.1 hc
        cases hh
  unfold Q.of at hc
  split at hc
  · rename_i q' hq
    obtain rfl := Option.some.inj hc
    simp only [ev] at he
    split at he
    · rename_i v' us' h
      simp only [Option.some.injEq, Prod.mk.injEq] at he
      obtain ⟨_, rfl, rfl⟩ := he
      exact evN_does hq h hm hK hi hi' hf
    · split at he
      · rename_i v' h
        simp only [Option.some.injEq, Prod.mk.injEq] at he
        obtain ⟨rfl, rfl, rfl⟩ := he
        exact evR_does hq h hm hK (hob (by simp)) hf
      · cases he
  · split at hc
    · rename_i t x y ho
      split at hc
      · rename_i one m x' y' h1 h2 h3
        obtain rfl := Option.some.inj hc
        simp only [ev] at he
        split at he
        · rename_i v' us' h
          simp only [Option.some.injEq, Prod.mk.injEq] at he
          obtain ⟨rfl, rfl, rfl⟩ := he
          exact evSt_does ho h1 h2 h3 (evSt_at (hE rfl) (hf x (by simp [ho, Op.operands]) x' h2) h) hm hK hf
        · cases he
      · cases hc
    · rename_i t n parts ho
      split at hc
      · rename_i e u b zs h1 h2
        split at hc
        · rename_i hp
          obtain rfl := Option.some.inj hc
          obtain ⟨g1, g2⟩ := elemTy_spec h1
          simp only [ev] at he
          split at he
          · rename_i v' us' h
            simp only [Option.some.injEq, Prod.mk.injEq] at he
            obtain ⟨rfl, rfl, rfl⟩ := he
            exact evMkS_does ho g1 g2 hp.1 h2 hp.2 h hm hK hi hi' hf
          · cases he
        · cases hc
      · rename_i zs h1 h2
        split at hc
        · rename_i e u b zc hte
          obtain ⟨g1, g2⟩ := elemTyV_spec hte
          split at hc
          · rename_i hp
            obtain rfl := Option.some.inj hc
            simp only [ev] at he
            split at he
            · rename_i u'
              split at he
              · rename_i h1z
                split at he
                · rename_i v' us' h
                  simp only [Option.some.injEq, Prod.mk.injEq] at he
                  obtain ⟨rfl, rfl, rfl⟩ := he
                  have hops : o.op.operands = (parts.toList.map (·.2)).toArray := by rw [ho]; rfl
                  exact evMkT_does ho (elemV_spec g1).1 (sliceElem_of g1 h1z) hp.1 h2 (by have := hp.2; rw [h1z] at this; omega) (evMkT_at (hE rfl) h2 (fun x hx => hf x (by rw [hops]; simpa using hx)) h) hm hK hf
                · cases he
              · cases he
            · cases he
          · cases hc
        · cases hc
      · cases hc
    · rename_i t x y ho
      split at hc
      · rename_i e u b x' y' h1 h2 h3
        obtain rfl := Option.some.inj hc
        obtain ⟨g1, g2⟩ := elemTy_spec h1
        simp only [ev] at he
        split at he
        · rename_i v' us' h
          simp only [Option.some.injEq, Prod.mk.injEq] at he
          obtain ⟨rfl, rfl, rfl⟩ := he
          exact evMake_does ho g1 g2 h2 h3 h hm hK hi hi' hf
        · cases he
      · rename_i x' y' h1 h2 h3
        split at hc
        · rename_i e u b zc hte
          obtain rfl := Option.some.inj hc
          obtain ⟨g1, g2⟩ := elemTyV_spec hte
          simp only [ev] at he
          split at he
          · rename_i v' us' h
            simp only [Option.some.injEq, Prod.mk.injEq] at he
            obtain ⟨rfl, rfl, rfl⟩ := he
            exact makeV_does ho g1 h2 h3 h hm hK hi hi' hf
          · cases he
        · cases hc
      · cases hc
    · rename_i t x lo hi0 mx ho
      unfold Q.ofSlice at hc
      split at hc
      · rename_i x' lo' hi1 mx' h0 h1 h2 h3
        split at hc
        · rename_i sz hsz
          split at hc
          · cases hc
          · rename_i hmx
            obtain rfl := Option.some.inj hc
            simp only [ev] at he
            split at he
            · rename_i v' h
              simp only [Option.some.injEq, Prod.mk.injEq] at he
              obtain ⟨rfl, rfl, rfl⟩ := he
              refine evSlice_does ho hsz h0 h1 h2 h3 (fun hne e => hmx ?_) h hm hK hf
              cases mx with
              | none => exact absurd rfl hne
              | some z => simp [e]
            · cases he
        · split at hc
          · rename_i hu
            split at hc
            · cases hc
            · rename_i hmx
              obtain rfl := Option.some.inj hc
              simp only [ev] at he
              split at he
              · rename_i v' h
                simp only [Option.some.injEq, Prod.mk.injEq] at he
                obtain ⟨rfl, rfl, rfl⟩ := he
                have hmx' : mx = none := by cases mx <;> simp_all
                subst hmx'
                exact evSub_does ho hu h0 h1 h2 h hm hK hf
              · cases he
          · cases hc
      · cases hc
    · rename_i c ho
      unfold Q.ofCall at hc
      split at hc
      · rename_i fo hcb
        split at hc
        · rename_i fo' xs h1 h2
          obtain rfl := Option.some.inj hc
          simp only [ev] at he
          cases he
        · cases hc
      · rename_i hcb
        split at hc
        · rename_i x y t t' hca hct
          split at hc
          · rename_i htt
            subst htt
            split at hc
            · rename_i e u b x' y' h1 h2 h3
              obtain rfl := Option.some.inj hc
              obtain ⟨g1, g2⟩ := elemTy_spec h1
              have hargs : c.args = #[x, y] := by rw [← Array.toArray_toList (xs := c.args), hca]
              have htys : c.argTypes = #[t, t] := by rw [← Array.toArray_toList (xs := c.argTypes), hct]
              simp only [ev] at he
              split at he
              · rename_i v' us' h
                simp only [Option.some.injEq, Prod.mk.injEq] at he
                obtain ⟨hk, rfl, rfl⟩ := he
                by_cases hne : x'.ev f = .nils
                · exact evAppend_does ho hcb hargs htys g1 g2 h2 h3 h (hob (by rw [← hk]; split <;> simp)) (fun h => absurd hne h) hm hK hi hi' hf
                · have hk2 : k = 2 := by
                    rw [← hk]
                    split
                    · rename_i hx; exact absurd hx hne
                    · rfl
                  exact evAppend_does ho hcb hargs htys g1 g2 h2 h3 (evAppend_at (hE hk2) (hf x (by simp [ho, Op.operands, Call.operands, hargs]) x' h2) (hf y (by simp [ho, Op.operands, Call.operands, hargs]) y' h3) h) hm.obs (fun _ => rfl) hm hK hi hi' hf
              · cases he
            · rename_i x' y' h1 h2 h3
              split at hc
              · rename_i e u b zc hte
                obtain rfl := Option.some.inj hc
                obtain ⟨g1, g2⟩ := elemTyV_spec hte
                have hargs : c.args = #[x, y] := by rw [← Array.toArray_toList (xs := c.args), hca]
                have htys : c.argTypes = #[t, t] := by rw [← Array.toArray_toList (xs := c.argTypes), hct]
                simp only [ev] at he
                have hk : k = 1 ∨ k = 2 := by
                  unfold evAppV at he
                  (repeat' split at he) <;> first | (cases he; done) | (simp only [Option.some.injEq, Prod.mk.injEq] at he; omega)
                rcases hk with hk | hk
                · exact appV_does ho hcb hargs htys g1 g2.symm h2 h3 he (hob (by omega)) (fun h => by omega) hm hK hi hi' hf
                · exact appV_does ho hcb hargs htys g1 g2.symm h2 h3 (evAppV_at (hE hk) (hf x (by simp [ho, Op.operands, Call.operands, hargs]) x' h2) (hf y (by simp [ho, Op.operands, Call.operands, hargs]) y' h3) he) hm.obs (fun _ => rfl) hm hK hi hi' hf
              · cases hc
            · cases hc
          · cases hc
        · cases hc
      · rename_i hcb
        split at hc
        · rename_i x y t t' hca hct
          split at hc
          · rename_i x' y' h1 h2
            split at hc
            · rename_i hkt
              obtain rfl := Option.some.inj hc
              have hargs : c.args = #[x, y] := by rw [← Array.toArray_toList (xs := c.args), hca]
              simp only [ev] at he
              exact del_does ho hcb hca hct hkt h1 h2 (evDel_at (hE (evDel_kind he)) (hf x (by simp [ho, Op.operands, Call.operands, hcb, hargs]) x' h1) he) hm hK hf
            · cases hc
          · cases hc
        · cases hc
      · rename_i hcb
        split at hc
        · rename_i x y hca
          split at hc
          · rename_i x' y' h1 h2
            obtain rfl := Option.some.inj hc
            have hargs : c.args = #[x, y] := by rw [← Array.toArray_toList (xs := c.args), hca]
            simp only [ev] at he
            split at he
            · rename_i v' h
              simp only [Option.some.injEq, Prod.mk.injEq] at he
              obtain ⟨rfl, rfl, rfl⟩ := he
              exact evMM_does (mx := true) ho hcb hargs h1 h2 h hm hK hf
            · cases he
          · cases hc
        · cases hc
      · rename_i hcb
        split at hc
        · rename_i x y hca
          split at hc
          · rename_i x' y' h1 h2
            obtain rfl := Option.some.inj hc
            have hargs : c.args = #[x, y] := by rw [← Array.toArray_toList (xs := c.args), hca]
            simp only [ev] at he
            split at he
            · rename_i v' h
              simp only [Option.some.injEq, Prod.mk.injEq] at he
              obtain ⟨rfl, rfl, rfl⟩ := he
              exact evMM_does (mx := false) ho hcb hargs h1 h2 h hm hK hf
            · cases he
          · cases hc
        · cases hc
      · cases hc
    · rename_i t parts ho
      unfold Q.ofBuild at hc
      split at hc
      · rename_i inf ps h1 h2
        split at hc
        · rename_i z hz
          split at hc
          · rename_i hok
            obtain rfl := Option.some.inj hc
            simp only [ev] at he
            split at he
            · rename_i v' h
              simp only [Option.some.injEq, Prod.mk.injEq] at he
              obtain ⟨rfl, rfl, rfl⟩ := he
              exact evBuild_does ho h1 hz hok h2 h hm hK hf
            · cases he
          · cases hc
        · cases hc
      · cases hc
    · rename_i e ho
      obtain ⟨t, h1, rfl⟩ := Option.map_eq_some_iff.1 hc
      simp only [ev, Option.some.injEq, Prod.mk.injEq] at he
      obtain ⟨rfl, rfl, rfl⟩ := he
      exact makeA_does ho h1 hm hK hi hi'
    · rename_i mt ho
      obtain ⟨t, h1, rfl⟩ := Option.map_eq_some_iff.1 hc
      simp only [ev, Option.some.injEq, Prod.mk.injEq] at he
      obtain ⟨rfl, rfl, rfl⟩ := he
      exact makeM_does ho h1 hm hK hi hi'
    · rename_i t m x v ho
      split at hc
      · rename_i m' x' v' h1 h2 h3
        obtain rfl := Option.some.inj hc
        simp only [ev] at he
        exact upd_does ho h1 h2 h3 (evUpd_at (hE (evUpd_kind he)) (hf m (by simp [ho, Op.operands]) m' h1) he) hm hK hf
      · cases hc
    · cases hc
  unfold evL at hl
  split at hl
  · split at hl
    · rename_i v' us' h
      simp only [Option.some.injEq, Prod.mk.injEq] at hl
      obtain ⟨rfl, rfl, rfl⟩ := hl
      unfold Q.of at hc
      split at hc
      · cases hc
      · split at hc
        all_goals try (cases hc; done)
        · ((repeat' split at hc) <;> first | (cases hc; done) | (simp only [Option.some.injEq, reduceCtorEq] at hc; done))
        · rename_i ho
          split at hc
          · (repeat' split at hc) <;> first | (cases hc; done) | (simp only [Option.some.injEq, reduceCtorEq] at hc; done)
          · rename_i zs h1 h2
            split at hc
            · rename_i e u b zc hte
              obtain ⟨g1, g2⟩ := elemTyV_spec hte
              split at hc
              · rename_i hp
                obtain ⟨rfl, rfl, rfl, rfl⟩ := Q.mkV.inj (Option.some.inj hc)
                exact mkV_does ho g1 hp.1 h2 hp.2 h hm hK hi hi' hf
              · cases hc
            · cases hc
          · cases hc
        · ((repeat' split at hc) <;> first | (cases hc; done) | (simp only [Option.some.injEq, reduceCtorEq] at hc; done))
        · unfold Q.ofSlice at hc
          (repeat' split at hc) <;> first | (cases hc; done) | (simp only [Option.some.injEq, reduceCtorEq] at hc; done)
        · unfold Q.ofCall at hc
          ((repeat' split at hc) <;> first | (cases hc; done) | (simp only [Option.some.injEq, reduceCtorEq] at hc; done))
        · unfold Q.ofBuild at hc
          (repeat' split at hc) <;> first | (cases hc; done) | (simp only [Option.some.injEq, reduceCtorEq] at hc; done)
        · obtain ⟨_, _, hh⟩ := Option.map_eq_some_iff.1 hc
          cases hh
        · obtain ⟨_, _, hh⟩ := Option.map_eq_some_iff.1 hc
          cases hh
        · ((repeat' split at hc) <;> first | (cases hc; done) | (simp only [Option.some.injEq, reduceCtorEq] at hc; done))
    · cases hl
  · cases hl
end
end Go.Proofs.YtefolocdfgelcaaDoor
