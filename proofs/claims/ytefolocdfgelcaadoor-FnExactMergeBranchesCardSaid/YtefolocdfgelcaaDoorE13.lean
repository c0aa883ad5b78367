/- An abstract machine: lists of operations in the order of the text; no condition. -/
import Derived.Test.YtefolocdfgelcaaDoorE12
namespace Go.Proofs.YtefolocdfgelcaaDoor
open Go.RowKit Go.Deep

/-- An abstract state. -/
structure St where
  tm : Nat → AV
  ob : Oid → Option Ob
  gen : Nat

/-- A step: where the value goes, the temporary that guards it. -/
structure X where
  dst : Option Nat
  guard : Option (Nat × Bool)
  q : Q

abbrev Rec := Nat × AV × List (Oid × Option Ob)
def putT (d : Option Nat) (v : AV) (f : Nat → AV) : Nat → AV :=
  match d with
  | some d => upd f d v
  | none => f
/-- Does a guard let an operation by? A guard that has not been reckoned does not. -/
def gdv (c : AV) (b : Bool) : Option Bool :=
  match c with
  | .bool c => some (c == b)
  | .tup [] => some false
  | _ => none
noncomputable def stepX (n : Nat) (x : X) (f : Nat → AV) (ob : Oid → Option Ob) : Option Rec :=
  match x.guard with
  | none => ev f ob ((x.dst.getD 0, 0), n) x.q
  | some (s, b) => match gdv (f s) b with
    | some true => ev f ob ((x.dst.getD 0, 0), n) x.q
    | some false => some (0, .tup [], [])
    | none => none
/-- What a step comes to, calls among them. -/
def StepR (P : Program) (G : World → Prop) (pure : Bool) (n : Nat) (x : X) (f : Nat → AV) (ob : Oid → Option Ob) (r : Rec) : Prop :=
  match x.guard with
  | none => EvR P G pure f ob ((x.dst.getD 0, 0), n) x.q r
  | some (s, b) => ∃ c, gdv (f s) b = some c ∧ (if c = true then EvR P G pure f ob ((x.dst.getD 0, 0), n) x.q r else r = (0, .tup [], []))
def RunX (P : Program) (G : World → Prop) (g : Nat) : Nat → List X → (Nat → AV) → (Oid → Option Ob) → List Rec → (Nat → AV) → (Oid → Option Ob) → Prop
  | _, [], f, ob, rs, f', ob' => rs = [] ∧ f' = f ∧ ob' = ob
  | k, x :: xs, f, ob, rs, f', ob' => ∃ r rs', rs = r :: rs' ∧ StepR P G false (g + k) x f ob r ∧ RunX P G g (k + 1) xs (putT x.dst r.2.1 f) (applyU r.2.2 ob) rs' f' ob'

def flatT : AV → List Oid
  | .own i _ _ _ => [i]
  | .elt i _ _ => [i]
  | .box i _ => [i]
  | .mp i => [i]
  | _ => []
/-- The objects that an operation looks at. -/
def deepT (ob : Oid → Option Ob) : Nat → AV → List Oid
  | 0, _ => []
  | n + 1, c => match c with
    | .own i _ _ _ => match ob i with
      | some (.vec _ _ _ cs) => i :: cs.flatMap flatT
      | _ => [i]
    | .elt i _ _ => [i]
    | .mp i => [i]
    | .box i _ => match ob i with
      | some (.cells _ cs) => i :: cs.flatMap (deepT ob n)
      | _ => [i]
    | .agg cs => cs.flatMap (deepT ob n)
    | .tup cs => cs.flatMap (deepT ob n)
    | .fn _ cs => cs.flatMap (deepT ob n)
    | .ref cs => cs.flatMap (deepT ob n)
    | _ => []
def rdX (f : Nat → AV) (ob : Oid → Option Ob) (x : X) : List Oid :=
  match x.q with
  | .call fo xs _ => (fo :: xs).flatMap fun y => deepT ob 8 (y.ev f)
  | .i (.ld _ _ x) => flatT (x.ev f)
  | .i (.look _ _ x _) => flatT (x.ev f)
  | .i (.lenM _ x) => flatT (x.ev f)
  | .upd _ m _ _ => flatT (m.ev f)
  | .del _ m _ => flatT (m.ev f)
  | .st _ _ x _ => flatT (x.ev f)
  | .append _ _ _ x y => flatT (x.ev f) ++ flatT (y.ev f)
  | .mkV _ _ _ xs => xs.flatMap fun y => flatT (y.ev f)
  | .appV _ _ _ x y => flatT (x.ev f) ++ flatT (y.ev f)
  | _ => []
def only (L : List Oid) (ob : Oid → Option Ob) (i : Oid) : Option Ob := if i ∈ L then ob i else none
theorem only_some {L : List Oid} {ob : Oid → Option Ob} {i : Oid} {o : Ob} (h : only L ob i = some o) : i ∈ L ∧ ob i = some o := by
  unfold only at h
  split at h
  · rename_i hi; exact ⟨hi, h⟩
  · cases h
/-- The same with what each operation looks at. -/
def RunD (P : Program) (G : World → Prop) (g : Nat) : Nat → List X → (Nat → AV) → (Oid → Option Ob) → List Rec → List (List Oid) → (Nat → AV) → (Oid → Option Ob) → Prop
  | _, [], f, ob, rs, ds, f', ob' => rs = [] ∧ ds = [] ∧ f' = f ∧ ob' = ob
  | k, x :: xs, f, ob, rs, ds, f', ob' => ∃ r rs' ds', rs = r :: rs' ∧ ds = rdX f ob x :: ds' ∧ StepR P G false (g + k) x f (only (rdX f ob x) ob) r ∧ RunD P G g (k + 1) xs (putT x.dst r.2.1 f) (applyU r.2.2 ob) rs' ds' f' ob'

def dstB (N : Nat) (o : Oper) : Bool :=
  match o.dst with
  | some d => decide (d < N)
  | none => true
def X.of (P : Program) (N : Nat) (ops : Array Oper) (o : Oper) : Option X :=
  match Q.of P o with
  | some q => if dstB N o = true then
      match o.guard with
      | none => some ⟨o.dst, none, q⟩
      | some (j, b) => match (ops[j]?).bind (·.dst) with
        | some s => some ⟨o.dst, some (s, b), q⟩
        | none => none
    else none
  | none => none
def X.ofL (P : Program) (N : Nat) (ops : Array Oper) : List Oper → Option (List X)
  | [] => some []
  | o :: os => match X.of P N ops o, X.ofL P N ops os with
    | some x, some xs => some (x :: xs)
    | _, _ => none

section
variable {P : Program} {G : World → Prop} {w0 w w' : World} {N : Nat}

/-- Where a run of code began: where the objects lay, what nobody wrote, the memory. -/
structure Base where
  σ : Oid → Option Loc
  im : Nat → Prop
  w : World
  zero : ∀ i l, σ i = some l → i.2 = 0
/-- The frame's temporaries, and that all went on from where the run began. -/
def TmB (B : Base) (σ : Oid → Option Loc) (im : Nat → Prop) (w : World) (f : Nat → AV) (a : Act) : Prop := TmRep σ im w f a ∧ Later B.σ σ B.im im B.w w
/-- The frame and the memory represent the state. -/
structure Reps (G : World → Prop) (w0 : World) (B : Base) (N : Nat) (S : St) (a : Act) (w : World) : Prop where
  ex : ∃ σ, Mem0 G w0 S.ob σ (· < S.gen) w ∧ TmB B σ (imm S.ob σ) w S.tm a
  size : a.tmps.size = N
  defers : a.defers = []
  obg : ∀ i, S.ob i ≠ none → i.2 < S.gen

theorem TmRep.put {σ : Oid → Option Loc} {im : Nat → Prop} {f : Nat → AV} {a : Act} {d : Option Nat} {v : AV} {u : Value} (h : TmRep σ im w f a) (hv : AV.Rep σ im w v u) (hd : ∀ x, d = some x → x < a.tmps.size) : TmRep σ im w (putT d v f) (a.put d u) := by
  intro t
  cases d with
  | none => exact h t
  | some x =>
    simp only [putT, upd, Act.put]
    split
    · rename_i e
      subst e
      rw [Array.getD_eq_getD_getElem?, Array.getElem?_setIfInBounds_self_of_lt (hd _ rfl)]
      exact hv
    · rename_i e
      rw [Array.getD_eq_getD_getElem?, Array.getElem?_setIfInBounds_ne (fun h => e h.symm), ← Array.getD_eq_getD_getElem?]
      exact h t
theorem TmRep.later {σ σ' : Oid → Option Loc} {im im' : Nat → Prop} {f : Nat → AV} {a : Act} (h : TmRep σ im w f a) (hL : Later σ σ' im im' w w') : TmRep σ' im' w' f a := fun t => AV.Rep.later hL _ _ (h t)
theorem TmRep.opd {σ : Oid → Option Loc} {im : Nat → Prop} {f : Nat → AV} {a : Act} (h : TmRep σ im w f a) {x : Operand} {y : Opd} (hy : Opd.of x = some y) : AV.Rep σ im w (y.ev f) (a.eval x) := Opd.rep hy fun t _ => h t

theorem TmB.put {B : Base} {σ : Oid → Option Loc} {im : Nat → Prop} {f : Nat → AV} {a : Act} {d : Option Nat} {v : AV} {u : Value} (h : TmB B σ im w f a) (hv : AV.Rep σ im w v u) (hd : ∀ x, d = some x → x < a.tmps.size) : TmB B σ im w (putT d v f) (a.put d u) := ⟨h.1.put hv hd, h.2⟩
theorem TmB.later {B : Base} {σ σ' : Oid → Option Loc} {im im' : Nat → Prop} {f : Nat → AV} {a : Act} (h : TmB B σ im w f a) (hL : Later σ σ' im im' w w') : TmB B σ' im' w' f a := ⟨h.1.later hL, h.2.trans hL⟩
theorem TmB.opd {B : Base} {σ : Oid → Option Loc} {im : Nat → Prop} {f : Nat → AV} {a : Act} (h : TmB B σ im w f a) {x : Operand} {y : Opd} (hy : Opd.of x = some y) : AV.Rep σ im w (y.ev f) (a.eval x) := h.1.opd hy

/-- What is known of whether a guarded operation is wanted. -/
theorem guard_repB {σ : Oid → Option Loc} {im : Nat → Prop} {f : Nat → AV} {a : Act} {ops : Array Oper} {o : Oper} {j s : Nat} {b c : Bool} (hg : o.guard = some (j, b)) (hs : (ops[j]?).bind (·.dst) = some s) (hf : AV.Rep σ im w (f s) (a.tmps.getD s undef)) (hc : f s = .bool c) : Region.wanted o (yielded ops a.tmps) = (c == b) := by
  rw [hc] at hf
  have e : a.tmps.getD s undef = .bool c := hf
  have e2 : a.tmps[s]? = some (.bool c) := by
    rw [Array.getD_eq_getD_getElem?] at e
    cases hq : a.tmps[s]? with
    | none => rw [hq] at e; simp [undef] at e
    | some u => rw [hq] at e; simp at e; rw [e]
  simp [Region.wanted, hg, yielded, hs, e2]

theorem guard_rep {σ : Oid → Option Loc} {im : Nat → Prop} {f : Nat → AV} {a : Act} {ops : Array Oper} {o : Oper} {j s : Nat} {b c : Bool} (hg : o.guard = some (j, b)) (hs : (ops[j]?).bind (·.dst) = some s) (hf : AV.Rep σ im w (f s) (a.tmps.getD s undef)) (hc : gdv (f s) b = some c) : Region.wanted o (yielded ops a.tmps) = c := by
  unfold gdv at hc
  split at hc
  · rename_i c' h
    obtain rfl := Option.some.inj hc
    exact guard_repB hg hs hf h
  · rename_i h
    obtain rfl := Option.some.inj hc
    rw [h] at hf
    obtain ⟨vs, e, hl⟩ := hf
    obtain rfl : vs = [] := hl
    have : yielded ops a.tmps j = none := by
      unfold yielded
      rw [hs]
      simp only [Option.bind_some]
      rw [Array.getD_eq_getD_getElem?] at e
      cases hq : a.tmps[s]? with
      | none => rfl
      | some u => rw [hq] at e; simp at e; rw [e]
    simp [Region.wanted, hg, this]
  · cases hc

theorem ev_gen {f : Nat → AV} {ob : Oid → Option Ob} {i : Oid} {q : Q} {r : Rec} (h : ev f ob i q = some r) : ∀ u ∈ r.2.2, (r.1 = 2 ∧ (ob u.1 ≠ none ∨ u.1.2 = i.2)) ∨ (r.1 = 1 ∧ u.1.2 = i.2) := by
  intro u hu
  unfold ev at h
  split at h
  · split at h
    · rename_i v us he
      obtain rfl := Option.some.inj h
      have hN : us = [] ∨ u.1 = i := by
        unfold evN at he
        (repeat' split at he) <;> first
          | (cases he; done)
          | (obtain ⟨_, rfl⟩ := Prod.mk.inj (Option.some.inj he); first | exact .inl rfl | (refine .inr ?_; obtain rfl := List.mem_singleton.1 hu; rfl))
          | (obtain ⟨_, _, hh⟩ := Option.map_eq_some_iff.1 he; obtain ⟨_, rfl⟩ := Prod.mk.inj hh; exact .inl rfl)
      rcases hN with rfl | e
      · cases hu
      · refine .inr ⟨?_, by rw [e]⟩
        cases us with
        | nil => cases hu
        | cons _ _ => rfl
    · split at h
      · obtain rfl := Option.some.inj h; cases hu
      · cases h
  · split at h
    · rename_i v us he
      obtain rfl := Option.some.inj h
      refine .inl ⟨rfl, .inl ?_⟩
      unfold evSt at he
      split at he
      · split at he
        · rename_i hj
          obtain ⟨_, _, hh⟩ := Option.map_eq_some_iff.1 he
          obtain ⟨_, rfl⟩ := Prod.mk.inj hh
          rcases List.mem_cons.1 hu with rfl | hu
          · simp [hj]
          · obtain rfl := List.mem_singleton.1 hu; simp [hj]
        · cases he
      · split at he
        · rename_i hj
          split at he
          · split at he
            · split at he
              · obtain ⟨_, rfl⟩ := Prod.mk.inj (Option.some.inj he)
                rcases List.mem_cons.1 hu with rfl | hu
                · simp [hj]
                · obtain rfl := List.mem_singleton.1 hu; simp [hj]
              · cases he
            · cases he
          · cases he
        · rename_i hj
          obtain ⟨_, _, hh⟩ := Option.map_eq_some_iff.1 he
          obtain ⟨_, rfl⟩ := Prod.mk.inj hh
          rcases List.mem_cons.1 hu with rfl | hu
          · simp [hj]
          · obtain rfl := List.mem_singleton.1 hu; simp [hj]
        · cases he
      · cases he
    · cases h
  · split at h
    · rename_i v us he
      obtain rfl := Option.some.inj h
      unfold evMkS at he
      split at he
      · obtain ⟨_, rfl⟩ := Prod.mk.inj (Option.some.inj he)
        obtain rfl := List.mem_singleton.1 hu
        exact .inr ⟨rfl, rfl⟩
      · cases he
    · cases h
  · split at h
    · rename_i v us he
      obtain rfl := Option.some.inj h
      unfold evMake at he
      split at he
      · split at he
        · obtain ⟨_, rfl⟩ := Prod.mk.inj (Option.some.inj he)
          obtain rfl := List.mem_singleton.1 hu
          exact .inr ⟨rfl, rfl⟩
        · cases he
      · cases he
    · cases h
  · split at h
    · rename_i x y v us he
      obtain rfl := Option.some.inj h
      unfold evAppend at he
      split at he
      · split at he
        · rename_i hx
          split at he
          · obtain ⟨_, rfl⟩ := Prod.mk.inj (Option.some.inj he)
            obtain rfl := List.mem_singleton.1 hu
            refine .inr ⟨?_, rfl⟩
            simp only [hx]
          · cases he
        · rename_i hx
          split at he
          · rename_i hj
            split at he
            · split at he
              · obtain ⟨_, rfl⟩ := Prod.mk.inj (Option.some.inj he)
                refine .inl ⟨by simp only [hx], ?_⟩
                rcases List.mem_cons.1 hu with rfl | hu
                · exact .inl (by rw [hj]; simp)
                · obtain rfl := List.mem_singleton.1 hu; exact .inr rfl
              · cases he
            · cases he
          · cases he
        · cases he
      · cases he
    · cases h
  · split at h
    · obtain rfl := Option.some.inj h; cases hu
    · cases h
  · split at h
    · obtain rfl := Option.some.inj h; cases hu
    · cases h
  · cases h
  · split at h
    · obtain rfl := Option.some.inj h; cases hu
    · cases h
  · split at h
    · obtain rfl := Option.some.inj h; cases hu
    · cases h
  · split at h
    · split at h
      · split at h
        · rename_i v us he
          obtain rfl := Option.some.inj h
          exact .inl ⟨rfl, .inl (evMkT_free he u hu)⟩
        · cases h
      · cases h
    · cases h
  · split at h
    · rename_i v us he
      obtain rfl := Option.some.inj h
      unfold evMakeV at he
      split at he
      · split at he
        · obtain ⟨_, rfl⟩ := Prod.mk.inj (Option.some.inj he)
          obtain rfl := List.mem_singleton.1 hu
          exact .inr ⟨rfl, rfl⟩
        · cases he
      · cases he
    · cases h
  · unfold evAppV at h
    split at h
    · split at h
      · split at h
        · obtain rfl := Option.some.inj h
          obtain rfl := List.mem_singleton.1 hu
          exact .inr ⟨rfl, rfl⟩
        · cases h
      · split at h
        · rename_i hj
          split at h
          · obtain rfl := Option.some.inj h
            refine .inl ⟨rfl, ?_⟩
            rcases List.mem_cons.1 hu with rfl | hu
            · exact .inl (by rw [hj]; simp)
            · obtain rfl := List.mem_singleton.1 hu; exact .inr rfl
          · cases h
        · cases h
      · cases h
    · cases h
  · obtain rfl := Option.some.inj h
    obtain rfl := List.mem_singleton.1 hu
    exact .inr ⟨rfl, rfl⟩
  · obtain rfl := Option.some.inj h
    obtain rfl := List.mem_singleton.1 hu
    exact .inr ⟨rfl, rfl⟩
  · unfold evUpd at h
    split at h
    · split at h
      · rename_i hj
        split at h
        · split at h
          · obtain rfl := Option.some.inj h
            refine .inl ⟨rfl, .inl ?_⟩
            rcases List.mem_cons.1 hu with rfl | hu
            · simp [hj]
            · obtain rfl := List.mem_singleton.1 hu; simp [hj]
          · cases h
        · cases h
      · rename_i hj
        split at h
        · split at h
          · obtain rfl := Option.some.inj h
            refine .inl ⟨rfl, .inl ?_⟩
            rcases List.mem_cons.1 hu with rfl | hu
            · simp [hj]
            · obtain rfl := List.mem_singleton.1 hu; simp [hj]
          · cases h
        · cases h
      · cases h
    · cases h
  · unfold evDel at h
    split at h
    · split at h
      · rename_i hj
        split at h
        · obtain rfl := Option.some.inj h
          refine .inl ⟨rfl, .inl ?_⟩
          rcases List.mem_cons.1 hu with rfl | hu
          · simp [hj]
          · obtain rfl := List.mem_singleton.1 hu; simp [hj]
        · cases h
      · cases h
    · cases h
theorem evR_gen {pure : Bool} {f : Nat → AV} {ob : Oid → Option Ob} {i : Oid} {q : Q} {r : Rec} (h : EvR P G pure f ob i q r) : ∀ u ∈ r.2.2, (r.1 = 2 ∧ (ob u.1 ≠ none ∨ u.1.2 = i.2)) ∨ (r.1 = 1 ∧ u.1.2 = i.2) := by
  have key : ∀ (u : Oid × Option Ob) {az : List AV} (rs : List RL) (j : Nat), u ∈ (RL.out (mkId i) az j rs).2 → u.1.2 = i.2 := by
    intro u az rs
    induction rs with
    | nil => intro j h; cases h
    | cons l rs ih =>
      intro j h
      cases l with
      | sc c => exact ih j h
      | new e t xs =>
        rcases List.mem_cons.1 h with rfl | h
        · rfl
        · exact ih (j + 1) h
      | newM e e' t xss =>
        rcases List.mem_cons.1 h with rfl | h
        · rfl
        · rcases List.mem_append.1 h with h | h
          · obtain ⟨x, _, rfl⟩ := List.mem_map.1 h
            rfl
          · exact ih (j + 1) h
      | arg _ _ => exact ih j h
      | frz _ => exact ih j h
  rcases h with ((h | h) | ⟨_, _, _, _, _, _, _, _, _, _, _, _, _, _, _, hmk⟩) | ⟨_, _, _, _, _, _, _, ⟨hk, _, args, rv, _, _, hh⟩ | ⟨_, hk, _, θ, args, ol, us, v0, _, e2, _, _, _, e4, e5⟩⟩
  · exact ev_gen h
  · intro u hu
    unfold evL at h
    split at h
    · split at h
      · rename_i v us he
        obtain rfl := Option.some.inj h
        unfold evMkV at he
        split at he
        · obtain ⟨_, rfl⟩ := Prod.mk.inj (Option.some.inj he)
          obtain rfl := List.mem_singleton.1 hu
          exact .inr ⟨rfl, rfl⟩
        · cases he
      · cases h
    · cases h
  · subst hmk
    exact fun u hu => .inr ⟨rfl, key u _ _ hu⟩
  · intro u hu
    rw [← hh] at hu
    exact .inr ⟨hk, key u _ _ hu⟩
  · intro u hu
    rw [e5] at hu
    refine .inl ⟨hk, ?_⟩
    have hold : ∀ j, j ∈ nmL ol → ob (θ j) ≠ none := by
      intro j hj
      obtain ⟨q, hq, rfl⟩ := List.mem_map.1 hj
      rw [e2 q hq]; simp
    rcases List.mem_append.1 hu with hu | hu
    · obtain ⟨q, hq, rfl⟩ := List.mem_map.1 hu
      exact .inl (hold _ (List.mem_map.2 ⟨q, hq, rfl⟩))
    · obtain ⟨q, hq, rfl⟩ := List.mem_map.1 hu
      by_cases h0 : q.1.2 = 0
      · refine .inl ?_
        have hm := (e4 q.1 (List.mem_map.2 ⟨q, hq, rfl⟩)).resolve_left (fun h => h h0)
        simp only [newN, if_pos h0]
        exact hold _ hm
      · refine .inr ?_
        simp only [newN, if_neg h0]
theorem list_wp [IsP P] {B : Base} {ops : Array Oper} {Q' : Exit → Act → World → Prop} {S0 : St} : ∀ (os : List Oper) (xs : List X) (k : Nat) (f : Nat → AV) (ob : Oid → Option Ob) (rs : List Rec) (f' : Nat → AV) (ob' : Oid → Option Ob) (a : Act) (w : World),
    X.ofL P N ops os = some xs → RunX P G S0.gen k xs f ob rs f' ob' → (∃ σ, Mem0 G w0 ob σ (· < S0.gen + k) w ∧ TmB B σ (imm ob σ) w f a) → a.tmps.size = N → a.defers = [] → (∀ i, ob i ≠ none → i.2 < S0.gen + k) →
    (∀ a' w', Reps G w0 B N ⟨f', ob', S0.gen + k + os.length⟩ a' w' → Q' .normal a' w') → wpList P ops Q' os a w
  | [], xs, k, f, ob, rs, f', ob', a, w, hx, hr, hm, hsz, hd, hg, hQ => by
    obtain rfl : [] = xs := Option.some.inj hx
    obtain ⟨_, rfl, rfl⟩ := hr
    exact hQ a w ⟨hm, hsz, hd, hg⟩
  | o :: os, xs, k, f, ob, rs, f', ob', a, w, hx, hr, ⟨σ, hm, hf⟩, hsz, hd, hg, hQ => by
    simp only [X.ofL] at hx
    split at hx
    · rename_i x xs' h1 h2
      obtain rfl := Option.some.inj hx
      obtain ⟨r, rs', rfl, hst, hrun⟩ := hr
      · · skip
          have go : ∀ a' w', (∃ σ, Mem0 G w0 (applyU r.2.2 ob) σ (· < S0.gen + (k + 1)) w' ∧ TmB B σ (imm (applyU r.2.2 ob) σ) w' (putT x.dst r.2.1 f) a') → a'.tmps.size = N → a'.defers = [] → (∀ i, applyU r.2.2 ob i ≠ none → i.2 < S0.gen + (k + 1)) → wpList P ops Q' os a' w' := fun a' w' q1 q2 q3 q4 =>
            list_wp os xs' (k + 1) _ _ rs' f' ob' a' w' h2 hrun q1 q2 q3 q4 (fun a'' w'' hq => hQ a'' w'' (by
              have : S0.gen + (k + 1) + os.length = S0.gen + k + (o :: os).length := by simp only [List.length_cons]; omega
              rw [← this]; exact hq))
          have hput : ∀ (d : Option Nat) (u : Value), (a.put d u).tmps.size = N ∧ (a.put d u).defers = [] := by
            intro d u
            cases d <;> simp [Act.put, hsz, hd]
          have hobg : ∀ i, applyU r.2.2 ob i ≠ none → (∀ u ∈ r.2.2, (ob u.1 ≠ none ∨ u.1.2 = S0.gen + k)) → i.2 < S0.gen + (k + 1) := by
            intro i hi hu
            by_cases hex : ∃ u ∈ r.2.2, u.1 = i
            · obtain ⟨u, hu', rfl⟩ := hex
              rcases hu u hu' with h | h
              · have := hg _ h; omega
              · omega
            · rw [applyU_none (fun u hu e => hex ⟨u, hu, e⟩)] at hi
              have := hg i hi; omega
          unfold X.of at h1
          split at h1
          · rename_i q hq
            split at h1
            · rename_i hdst
              have hdb : ∀ d, o.dst = some d → d < a.tmps.size := by
                intro d e
                unfold dstB at hdst
                rw [e] at hdst
                rw [hsz]; exact of_decide_eq_true hdst
              have doit : ∀ (h : EvR P G false f ob ((o.dst.getD 0, 0), S0.gen + k) q r) (hxd : x.dst = o.dst), o.wp P a w (wpList P ops Q' os) Q' := by
                intro h hxd
                have := ev_does (a := a) (w := w) (K' := (· < S0.gen + (k + 1))) hq h hm (fun n hn => by omega) (by simp) (by simp) (fun _ i o l h1 h2 => hm.obs i o l h1 h2) (fun _ _ _ _ h _ => h) (fun z _ y hy => hf.opd hy)
                refine this _ _ (fun u w' hgo => ?_)
                obtain ⟨σ', hL, hM, hR⟩ := hgo
                refine go _ _ ⟨σ', hM, ?_⟩ (hput _ _).1 (hput _ _).2 (fun i hi => hobg i hi (fun u hu => ?_))
                · rw [hxd]; exact (hf.later hL).put hR hdb
                · rcases evR_gen h u hu with ⟨_, h⟩ | ⟨_, h⟩
                  · exact h
                  · exact .inr h
              split at h1
              · rename_i hgd
                obtain rfl := Option.some.inj h1
                unfold wpList
                rw [if_pos (by simp [Region.wanted, hgd])]
                exact .inl (doit hst rfl)
              · rename_i j b hgd
                split at h1
                · rename_i s hs
                  obtain rfl := Option.some.inj h1
                  obtain ⟨c, hc, hst⟩ := hst
                  · skip
                    have hw := guard_rep (ops := ops) hgd hs (hf.1 s) hc
                    unfold wpList
                    rw [hw]
                    split at hst
                    · rename_i hcb
                      rw [if_pos hcb]
                      exact .inl (doit hst rfl)
                    · rename_i hcb
                      rw [if_neg hcb]
                      subst hst
                      exact go _ _ ⟨σ, hm.wide (fun n hn => by omega), hf.put ⟨[], rfl, rfl⟩ hdb⟩ (hput _ _).1 (hput _ _).2 (fun i hi => by have := hg i hi; omega)
                · cases h1
            · cases h1
          · cases h1
    · cases hx
end
end Go.Proofs.YtefolocdfgelcaaDoor
