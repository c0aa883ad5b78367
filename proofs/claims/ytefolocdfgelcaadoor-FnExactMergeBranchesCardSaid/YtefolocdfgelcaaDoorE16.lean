/- An abstract machine: code; condition: the loops' invariants. -/
import Derived.Test.YtefolocdfgelcaaDoorE15
import Derived.ScopeJumps
import Derived.Deep.LoopGhost
namespace Go.Proofs.YtefolocdfgelcaaDoor
open Go.RowKit Go.Deep

/-- The greatest kind that an operation may be of. -/
def I.pot : I → Nat
  | .alloc .. | .box .. | .ld .. | .look .. | .lenM .. => 1
  | _ => 0
def Q.pot : Q → Nat
  | .i q => q.pot
  | .st .. | .append .. | .mkV .. | .appV .. | .call .. | .upd .. | .del .. => 2
  | .slice .. | .sub .. | .build .. | .mm .. => 0
  | _ => 1
/-- Do two kinds bar each other's order? -/
def barB (kj ki : Nat) : Bool := (ki == 2 && kj != 0) || (kj == 2 && ki != 0)
def drawS (ops : Array Oper) (ps : List Nat) : Option (List (Nat × Nat)) :=
  if (ps.length == ops.size) && ((ops.toList.zipIdx.all fun x => (depsOf x.1).all fun d => decide (d < x.2)) && (dstsB (ops.toList.map (·.dst)) &&
    ((List.range ops.size).all fun i => (List.range i).all fun j =>
      ((ancs (ops.toList.map depsOf) []).getD i 0).testBit j || (ops.getD j default).apart ops (ops.getD i default)))) then
    some ((List.range ops.size).flatMap fun i => ((List.range i).filter fun j => !((ancs (ops.toList.map depsOf) []).getD i 0).testBit j && barB (ps.getD j 0) (ps.getD i 0)).map fun j => (j, i))
  else none
def badP (rs : List Rec) (ds : List (List Oid)) : List (Nat × Nat) → Prop
  | [] => True
  | p :: ps => pairOK (rs.getD p.2 (0, .any, [])) (rs.getD p.1 (0, .any, [])) (ds.getD p.2 []) (ds.getD p.1 []) ∧ badP rs ds ps
theorem badP_mem {rs : List Rec} {ds : List (List Oid)} : ∀ {bad : List (Nat × Nat)}, badP rs ds bad → ∀ p ∈ bad, pairOK (rs.getD p.2 (0, .any, [])) (rs.getD p.1 (0, .any, [])) (ds.getD p.2 []) (ds.getD p.1 [])
  | [], _, p, hp => by cases hp
  | q :: ps, h, p, hp => by
    rcases List.mem_cons.1 hp with rfl | hp
    · exact h.1
    · exact badP_mem h.2 p hp

/-- Code of the abstract machine. -/
inductive AC where
  | skip
  | region (xs : List X) (draw : Bool) (bad : List (Nat × Nat))
  | seq (a b : AC)
  | cond (c : Opd) (a b : AC)
  | block (id : Nat) (a : AC)
  | loop (a : AC)
  | exit (id : Nat)
  | ret
/-- Labels lie above the numbers of blocks: a jump back to label l is the exit from the block jumpId l. -/
def jumpId (l : Nat) : Nat := 1000000 + 2 * l
def labelOf : Code → Option Nat
  | .label l => some l
  | _ => none
/-- The one label of a scope's body. -/
def spineL : Code → Option Nat
  | .seq a b => match labelOf a with
    | some l => some l
    | none => match spineL b with
      | some l => if (findLabel a l).isNone then some l else none
      | none => none
  | _ => none
/-- All exits lead to such blocks. -/
def AC.exB (p : Nat → Bool) : AC → Bool
  | .seq a b => AC.exB p a && AC.exB p b
  | .cond _ a b => AC.exB p a && AC.exB p b
  | .block _ a => AC.exB p a
  | .loop a => AC.exB p a
  | .exit id => p id
  | _ => true
/-- Compiled code; with true: the body of a scope, whose label heads a loop. -/
def AC.ofB (P : Program) (N : Nat) : Bool → Code → Option AC
  | false, .skip => some .skip
  | false, .region _ ops draw => match X.ofL P N ops ops.toList with
    | some xs => if draw then match drawS ops (xs.map (·.q.pot)) with
        | some bad => some (.region xs true bad)
        | none => none
      else some (.region xs false [])
    | none => none
  | s, .seq a b => match labelOf a with
    | some l => match s, AC.ofB P N false b with
      | true, some b => if AC.exB (fun i => decide (i < 1000000) || i == jumpId l) b then some (.block (jumpId l + 1) (.loop (.block (jumpId l) (.seq b (.exit (jumpId l + 1)))))) else none
      | _, _ => none
    | none => match AC.ofB P N false a, AC.ofB P N s b with
      | some a, some b => if !s || AC.exB (fun i => decide (i < 1000000)) a then some (.seq a b) else none
      | _, _ => none
  | false, .cond c a b => match Opd.of c, AC.ofB P N false a, AC.ofB P N false b with
    | some c, some a, some b => some (.cond c a b)
    | _, _, _ => none
  | false, .block id a => if id < 1000000 then (AC.ofB P N false a).map (.block id) else none
  | false, .loop a => (AC.ofB P N false a).map .loop
  | false, .exit id => if id < 1000000 then some (.exit id) else none
  | false, .goto l => some (.exit (jumpId l))
  | false, .scope c => match spineL c with
    | some _ => AC.ofB P N true c
    | none => none
  | false, .ret => some .ret
  | _, _ => none
def AC.of (P : Program) (N : Nat) (c : Code) : Option AC := AC.ofB P N false c

/-- How a piece of code ends. -/
inductive AE where
  | normal
  | exit (id : Nat)
  | ret
def AE.out : AE → Exit
  | .normal => .normal
  | .exit id => if id < 1000000 then .exit id else .goto ((id - 1000000) / 2)
  | .ret => .ret

/-- Less is known. -/
def Weak (S S' : St) : Prop := ∀ (G : World → Prop) (w0 : World) (B : Base) (N : Nat) (a : Act) (w : World), Reps G w0 B N S a w → Reps G w0 B N S' a w

def thenA (K : St → Prop) (R : AE → St → Prop) : AE → St → Prop
  | .normal, S => K S
  | e, S => R e S
def blockA (id : Nat) (R : AE → St → Prop) : AE → St → Prop
  | .exit i, S => if i = id then R .normal S else R (.exit i) S
  | e, S => R e S
/-- The weakest condition under which a piece of code, run from an abstract state, ends as R says. -/
def awp (P : Program) (G : World → Prop) : AC → (AE → St → Prop) → St → Prop
  | .skip, R, S => R .normal S
  | .region xs false _, R, S => ∃ rs f' ob', RunX P G S.gen 0 xs S.tm S.ob rs f' ob' ∧ R .normal ⟨f', ob', S.gen + xs.length⟩
  | .region xs true bad, R, S => ∃ rs ds f' ob', RunD P G S.gen 0 xs S.tm S.ob rs ds f' ob' ∧ badP rs ds bad ∧ R .normal ⟨f', ob', S.gen + xs.length⟩
  | .seq a b, R, S => awp P G a (thenA (fun S' => ∃ S'', Weak S' S'' ∧ awp P G b R S'') R) S
  | .cond c a b, R, S => (∃ t, c.ev S.tm = .bool t ∧ (t = true → awp P G a R S) ∧ (t = false → awp P G b R S)) ∨ (∃ pos n, c.ev S.tm = .abool pos n ∧ ((pos = true → n = 0) → awp P G a R S) ∧ ((pos = false → n = 0) → awp P G b R S))
  | .block id a, R, S => awp P G a (blockA id R) S
  | .loop a, R, S => ∃ (α : Type) (I : α → St → Prop) (μ : α → Nat), (∃ s S0, Weak S S0 ∧ I s S0) ∧ ∀ s S1, I s S1 → awp P G a (thenA (fun S2 => ∃ s' S3, Weak S2 S3 ∧ I s' S3 ∧ μ s' < μ s) R) S1
  | .exit id, R, S => R (.exit id) S
  | .ret, R, S => R .ret S

theorem awp_mono {P : Program} {G : World → Prop} : ∀ {c : AC} {R R' : AE → St → Prop} {S : St}, (∀ e S, R e S → R' e S) → awp P G c R S → awp P G c R' S
  | .skip, _, _, _, h, hh => h _ _ hh
  | .region _ false _, _, _, _, h, ⟨rs, f', ob', h1, h3⟩ => ⟨rs, f', ob', h1, h _ _ h3⟩
  | .region _ true _, _, _, _, h, ⟨rs, ds, f', ob', h1, h2, h3⟩ => ⟨rs, ds, f', ob', h1, h2, h _ _ h3⟩
  | .seq a b, _, _, _, h, hh => awp_mono (c := a) (fun e S hq => by
      cases e with
      | normal => obtain ⟨S', hw, hq⟩ := hq; exact ⟨S', hw, awp_mono (c := b) h hq⟩
      | exit id => exact h _ _ hq
      | ret => exact h _ _ hq) hh
  | .cond c a b, _, _, _, h, .inl ⟨t, h1, h2, h3⟩ => .inl ⟨t, h1, fun e => awp_mono (c := a) h (h2 e), fun e => awp_mono (c := b) h (h3 e)⟩
  | .cond c a b, _, _, _, h, .inr ⟨p, n, h1, h2, h3⟩ => .inr ⟨p, n, h1, fun e => awp_mono (c := a) h (h2 e), fun e => awp_mono (c := b) h (h3 e)⟩
  | .block id a, R, R', _, h, hh => awp_mono (c := a) (fun e S hq => by
      cases e with
      | normal => exact h _ _ hq
      | exit i => simp only [blockA] at hq ⊢; split <;> simp_all
      | ret => exact h _ _ hq) hh
  | .loop a, _, _, _, h, ⟨α, I, μ, h1, h2⟩ => ⟨α, I, μ, h1, fun s S1 hs => awp_mono (c := a) (fun e S hq => by
      cases e with
      | normal => exact hq
      | exit id => exact h _ _ hq
      | ret => exact h _ _ hq) (h2 s S1 hs)⟩
  | .exit _, _, _, _, h, hh => h _ _ hh
  | .ret, _, _, _, h, hh => h _ _ hh

section
variable {P : Program} {G : World → Prop} {w0 w w' : World} {N : Nat}

theorem wp_loop_g {c : Code} {Q : Exit → Act → World → Prop} {a : Act} {w : World} {α : Type} (I : α → Act → World → Prop) (μ : α → Nat) (s0 : α) (h₀ : I s0 a w)
    (round : ∀ s a w, I s a w → c.wp P (Exit.then (fun a' w' => ∃ s', I s' a' w' ∧ μ s' < μ s) Q) a w) : (Code.loop c).wp P Q a w := by
  intro b k cs
  have key : ∀ n s a w, μ s = n → I s a w →
      ∃ e a' w', Q e a' w' ∧ Arrives P (lone (b.at a (.code c :: .inLoop c :: k)) cs w) b k cs e a' w' := by
    intro n
    induction n using Nat.strongRecOn with
    | _ n ih =>
      intro s a w hn hI
      obtain ⟨e, a₁, w₁, hq, harr⟩ := round s a w hI b (.inLoop c :: k) cs
      cases e with
      | normal =>
        obtain ⟨s', hI₁, hlt⟩ := hq
        obtain ⟨e₂, a₂, w₂, hq₂, harr₂⟩ := ih (μ s') (hn ▸ hlt) s' a₁ w₁ rfl hI₁
        exact ⟨e₂, a₂, w₂, hq₂, .of_steps (Steps.trans harr (.one step_inLoop)) harr₂⟩
      | exit id => exact ⟨_, a₁, w₁, hq, .pass (x := .inLoop c) rfl (fun _ _ => .inl (by simp)) harr⟩
      | goto l => exact ⟨_, a₁, w₁, hq, .pass (x := .inLoop c) rfl (fun _ _ => .inl (by simp)) harr⟩
      | ret => exact ⟨_, a₁, w₁, hq, .pass (x := .inLoop c) rfl (fun _ _ => .inl (by simp)) harr⟩
      | panic ch => exact ⟨_, a₁, w₁, hq, .pass (x := .inLoop c) rfl (fun _ _ => .inl (by simp)) harr⟩
      | outgrown => exact ⟨_, a₁, w₁, hq, .pass (x := .inLoop c) rfl (fun _ _ => .inl (by simp)) harr⟩
  obtain ⟨e, a', w', hq, harr⟩ := key _ s0 a w rfl h₀
  exact ⟨e, a', w', hq, .of_steps (.one step_loop) harr⟩

theorem wp_scope_g {c rest : Code} {Q : Exit → Act → World → Prop} {a : Act} {w : World} (l : Nat) (J : Nat → Act → World → Prop) (hf : findLabel c l = some rest)
    (first : c.wp P (Exit.jump l (fun a w => ∃ n, J n a w) Q) a w)
    (pass : ∀ n a w, J n a w → rest.wp P (Exit.jump l (fun a' w' => ∃ m, m < n ∧ J m a' w') Q) a w) : (Code.scope c).wp P Q a w := by
  intro b k cs
  have hg : gotoIn l (.inScope c :: k) = some (.code rest :: .inScope c :: k) := by simp [gotoIn, hf]
  have key : ∀ n a w, J n a w → ∃ e a' w', Q e a' w' ∧ Arrives P (lone (b.at a (.code rest :: .inScope c :: k)) cs w) b k cs e a' w' := by
    intro n
    induction n using Nat.strongRecOn with
    | _ n ih =>
      intro a w hJ
      obtain ⟨e, a₁, w₁, hq, harr⟩ := pass n a w hJ b (.inScope c :: k) cs
      cases e with
      | normal => exact ⟨.normal, a₁, w₁, hq, Steps.trans harr (.one step_inScope)⟩
      | exit id => exact ⟨.exit id, a₁, w₁, hq, fun k' hk => harr k' (by simp [exitTo, hk])⟩
      | goto l' =>
        obtain ⟨rfl, m, hlt, hJ'⟩ := hq
        obtain ⟨e₂, a₂, w₂, hq₂, harr₂⟩ := ih m hlt a₁ w₁ hJ'
        exact ⟨e₂, a₂, w₂, hq₂, .of_steps (harr _ hg) harr₂⟩
      | ret => exact ⟨_, a₁, w₁, hq, harr⟩
      | panic ch => exact ⟨_, a₁, w₁, hq, harr⟩
      | outgrown => exact ⟨_, a₁, w₁, hq, harr⟩
  obtain ⟨e, a₁, w₁, hq, harr⟩ := first b (.inScope c :: k) cs
  cases e with
  | normal => exact ⟨.normal, a₁, w₁, hq, .head step_scope (Steps.trans harr (.one step_inScope))⟩
  | exit id => exact ⟨.exit id, a₁, w₁, hq, fun k' hk => .head step_scope (harr k' (by simp [exitTo, hk]))⟩
  | goto l' =>
    obtain ⟨rfl, n, hJ'⟩ := hq
    obtain ⟨e₂, a₂, w₂, hq₂, harr₂⟩ := key n a₁ w₁ hJ'
    exact ⟨e₂, a₂, w₂, hq₂, .of_steps (.head step_scope (harr _ hg)) harr₂⟩
  | ret => exact ⟨_, a₁, w₁, hq, .of_steps (.one step_scope) harr⟩
  | panic ch => exact ⟨_, a₁, w₁, hq, .of_steps (.one step_scope) harr⟩
  | outgrown => exact ⟨_, a₁, w₁, hq, .of_steps (.one step_scope) harr⟩
def okE (p : Nat → Bool) : AE → Prop
  | .exit i => p i = true
  | _ => True
theorem awp_exits {p : Nat → Bool} : ∀ {c : AC} {R : AE → St → Prop} {S : St}, c.exB p = true → awp P G c R S → awp P G c (fun e S => okE p e ∧ R e S) S
  | .skip, _, _, _, h => ⟨trivial, h⟩
  | .region _ false _, _, _, _, ⟨rs, f', ob', h1, h3⟩ => ⟨rs, f', ob', h1, trivial, h3⟩
  | .region _ true _, _, _, _, ⟨rs, ds, f', ob', h1, h2, h3⟩ => ⟨rs, ds, f', ob', h1, h2, trivial, h3⟩
  | .seq a b, _, _, hp, h => by
    rw [AC.exB, Bool.and_eq_true] at hp
    refine awp_mono (c := a) (fun e S hq => ?_) (awp_exits (c := a) hp.1 h)
    cases e with
    | normal => obtain ⟨_, S', hw, hq⟩ := hq; exact ⟨S', hw, awp_exits (c := b) hp.2 hq⟩
    | exit id => exact hq
    | ret => exact hq
  | .cond c a b, _, _, hp, .inl ⟨t, h1, h2, h3⟩ => by
    rw [AC.exB, Bool.and_eq_true] at hp
    exact .inl ⟨t, h1, fun e => awp_exits (c := a) hp.1 (h2 e), fun e => awp_exits (c := b) hp.2 (h3 e)⟩
  | .cond c a b, _, _, hp, .inr ⟨q, n, h1, h2, h3⟩ => by
    rw [AC.exB, Bool.and_eq_true] at hp
    exact .inr ⟨q, n, h1, fun e => awp_exits (c := a) hp.1 (h2 e), fun e => awp_exits (c := b) hp.2 (h3 e)⟩
  | .block id a, _, _, hp, h => by
    refine awp_mono (c := a) (fun e S hq => ?_) (awp_exits (c := a) hp h)
    cases e with
    | normal => exact hq
    | exit i =>
      obtain ⟨h1, h2⟩ := hq
      simp only [blockA] at h2 ⊢
      split
      · rename_i e; rw [if_pos e] at h2; exact ⟨trivial, h2⟩
      · rename_i e; rw [if_neg e] at h2; exact ⟨h1, h2⟩
    | ret => exact hq
  | .loop a, _, _, hp, ⟨α, I, μ, h1, h2⟩ => ⟨α, I, μ, h1, fun s S1 hs => awp_mono (c := a) (fun e S hq => by
      cases e with
      | normal => exact hq.2
      | exit id => exact hq
      | ret => exact hq) (awp_exits (c := a) hp (h2 s S1 hs))⟩
  | .exit _, _, _, hp, h => ⟨hp, h⟩
  | .ret, _, _, _, h => ⟨trivial, h⟩

theorem ev_pot {f : Nat → AV} {ob : Oid → Option Ob} {i : Oid} {q : Q} {r : Rec} (h : ev f ob i q = some r) : r.1 = 0 ∨ (r.1 = 1 ∧ 1 ≤ q.pot) ∨ (r.1 = 2 ∧ q.pot = 2) := by
  unfold ev at h
  split at h
  · rename_i q
    split at h
    · rename_i v us he
      obtain rfl := Option.some.inj h
      cases us with
      | nil => exact .inl rfl
      | cons u us =>
        refine .inr (.inl ⟨rfl, ?_⟩)
        cases q <;> simp only [evN] at he <;> first
          | exact Nat.le_refl _
          | (exfalso; (repeat' split at he) <;> simp_all; done)
    · split at h
      · rename_i v he
        obtain rfl := Option.some.inj h
        refine .inr (.inl ⟨rfl, ?_⟩)
        cases q <;> first | exact Nat.le_refl _ | cases he
      · cases h
  · skip
    split at h
    · obtain rfl := Option.some.inj h; exact .inr (.inr ⟨rfl, rfl⟩)
    · cases h
  · skip
    split at h
    · obtain rfl := Option.some.inj h; exact .inr (.inl ⟨rfl, Nat.le_refl _⟩)
    · cases h
  · skip
    split at h
    · obtain rfl := Option.some.inj h; exact .inr (.inl ⟨rfl, Nat.le_refl _⟩)
    · cases h
  · skip
    split at h
    · obtain rfl := Option.some.inj h
      dsimp only
      split
      · exact .inr (.inl ⟨rfl, by simp [Q.pot]⟩)
      · exact .inr (.inr ⟨rfl, rfl⟩)
    · cases h
  · split at h
    · obtain rfl := Option.some.inj h; exact .inl rfl
    · cases h
  · split at h
    · obtain rfl := Option.some.inj h; exact .inl rfl
    · cases h
  · cases h
  · split at h
    · obtain rfl := Option.some.inj h; exact .inl rfl
    · cases h
  · split at h
    · obtain rfl := Option.some.inj h; exact .inl rfl
    · cases h
  · split at h
    · split at h
      · split at h
        · obtain rfl := Option.some.inj h; exact .inr (.inr ⟨rfl, rfl⟩)
        · cases h
      · cases h
    · cases h
  · split at h
    · obtain rfl := Option.some.inj h; exact .inr (.inl ⟨rfl, Nat.le_refl _⟩)
    · cases h
  · unfold evAppV at h
    (repeat' split at h) <;> first | (cases h; done) | (obtain rfl := Option.some.inj h; exact .inr (.inl ⟨rfl, by simp [Q.pot]⟩)) | (obtain rfl := Option.some.inj h; exact .inr (.inr ⟨rfl, rfl⟩))
  · obtain rfl := Option.some.inj h; exact .inr (.inl ⟨rfl, Nat.le_refl _⟩)
  · obtain rfl := Option.some.inj h; exact .inr (.inl ⟨rfl, Nat.le_refl _⟩)
  · exact .inr (.inr ⟨evUpd_kind (r := r.2) h, rfl⟩)
  · exact .inr (.inr ⟨evDel_kind (r := r.2) h, rfl⟩)
theorem stepR_pot {p : Bool} {n : Nat} {x : X} {f : Nat → AV} {ob : Oid → Option Ob} {r : Rec} (h : StepR P G p n x f ob r) : r.1 = 0 ∨ (r.1 = 1 ∧ 1 ≤ x.q.pot) ∨ (r.1 = 2 ∧ x.q.pot = 2) := by
  have key : ∀ {i : Oid}, EvR P G p f ob i x.q r → r.1 = 0 ∨ (r.1 = 1 ∧ 1 ≤ x.q.pot) ∨ (r.1 = 2 ∧ x.q.pot = 2) := by
    rintro i (((h | h) | ⟨_, _, _, _, _, _, _, _, _, _, hq, _, _, _, _, hr⟩) | ⟨_, _, _, _, _, hq, _, ⟨hk, _⟩ | ⟨_, hk, _⟩⟩)
    · exact ev_pot h
    · unfold evL at h
      split at h
      · rename_i hq
        split at h
        · obtain rfl := Option.some.inj h
          rw [hq]; exact .inr (.inl ⟨rfl, by simp [Q.pot]⟩)
        · cases h
      · cases h
    · subst hr; rw [hq]; exact .inr (.inl ⟨rfl, by simp [Q.pot]⟩)
    · rw [hq]; exact .inr (.inl ⟨hk, by simp [Q.pot]⟩)
    · rw [hq]; exact .inr (.inr ⟨hk, rfl⟩)
  unfold StepR at h
  split at h
  · exact key h
  · obtain ⟨c, _, h⟩ := h
    split at h
    · exact key h
    · subst h; exact .inl rfl

theorem drawS_D {ops : Array Oper} {xs : List X} {rs : List Rec} {ds : List (List Oid)} {ps : List Nat} {bad : List (Nat × Nat)} (h : drawS ops ps = some bad) (hb : badP rs ds bad) (hx : X.ofL P N ops ops.toList = some xs) (hr : xs.length = rs.length) (hd : xs.length = ds.length)
    (hk : ∀ j, (rs.getD j (0, .any, [])).1 = 0 ∨ ((rs.getD j (0, .any, [])).1 = 1 ∧ 1 ≤ ps.getD j 0) ∨ ((rs.getD j (0, .any, [])).1 = 2 ∧ ps.getD j 0 = 2)) : Drawn ops xs rs ds := by
  unfold drawS at h
  split at h
  · rename_i hc
    obtain rfl := Option.some.inj h
    simp only [Bool.and_eq_true, beq_iff_eq] at hc
    obtain ⟨c1, c2, c3, c4⟩ := hc
    refine Drawn.of hx hr hd c2 c3 (fun i j hi hj => ?_)
    rw [List.all_eq_true] at c4
    have c5 := c4 i (by simpa using hi)
    rw [List.all_eq_true] at c5
    have c6 := c5 j (by simpa using hj)
    rw [Bool.or_eq_true] at c6
    by_cases hbit : ((ancs (ops.toList.map depsOf) []).getD i 0).testBit j = true
    · exact .inl hbit
    · refine .inr ⟨c6.resolve_left hbit, ?_⟩
      cases hq : barB (ps.getD j 0) (ps.getD i 0) with
      | true => exact badP_mem hb (j, i) (List.mem_flatMap.2 ⟨i, by simpa using hi, List.mem_map.2 ⟨j, List.mem_filter.2 ⟨by simpa using hj, by rw [Bool.and_eq_true]; exact ⟨by simpa using hbit, hq⟩⟩, rfl⟩⟩)
      | false =>
        refine .inl ?_
        have h1 := hk j
        have h2 := hk i
        simp only [barB, Bool.or_eq_false_iff, Bool.and_eq_false_iff, beq_eq_false_iff_ne, bne_eq_false_iff_eq] at hq
        omega
  · cases h

theorem then_out {K : Act → World → Prop} {Q : Exit → Act → World → Prop} {id : Nat} {a : Act} {w : World} (h : Q (AE.out (.exit id)) a w) : Exit.then K Q (AE.out (.exit id)) a w := by
  simp only [AE.out] at h ⊢
  split
  · rename_i e; rw [if_pos e] at h; exact h
  · rename_i e; rw [if_neg e] at h; exact h
/-- What a code's end comes to. -/
def QR (G : World → Prop) (w0 : World) (B : Base) (N : Nat) (R : AE → St → Prop) : Exit → Act → World → Prop := fun e a w => ∃ e' S', e = AE.out e' ∧ R e' S' ∧ Reps G w0 B N S' a w
/-- What holds at a label. -/
def JumpAt (P : Program) (G : World → Prop) (w0 : World) (B : Base) (N : Nat) (b : AC) (l : Nat) (R : AE → St → Prop) (n : Nat) (a : Act) (w : World) : Prop :=
  ∃ (α : Type) (I : α → St → Prop) (μ : α → Nat) (s : α) (S1 : St), μ s = n ∧ I s S1 ∧ Reps G w0 B N S1 a w ∧
    ∀ s S1, I s S1 → awp P G (.block (jumpId l) (.seq b (.exit (jumpId l + 1)))) (thenA (fun S2 => ∃ s' S3, Weak S2 S3 ∧ I s' S3 ∧ μ s' < μ s) (blockA (jumpId l + 1) R)) S1
theorem jump_pass {B : Base} {b : Code} {b' : AC} {l : Nat} {R : AE → St → Prop} (hex : b'.exB (fun i => decide (i < 1000000) || i == jumpId l) = true)
    (hb : ∀ R S a w, awp P G b' R S → Reps G w0 B N S a w → b.wp P (QR G w0 B N R) a w) (n : Nat) (a : Act) (w : World) (hJ : JumpAt P G w0 B N b' l R n a w) :
    b.wp P (Exit.jump l (fun a' w' => ∃ m, m < n ∧ JumpAt P G w0 B N b' l R m a' w') (QR G w0 B N R)) a w := by
  obtain ⟨α, I, μ, s, S1, hn, hI, hr, hround⟩ := hJ
  have h0 := hround s S1 hI
  simp only [awp] at h0
  have h1 := awp_exits hex h0
  refine Code.wp_mono (fun e a' w' hq => ?_) (hb _ S1 a w h1 hr)
  obtain ⟨e', S', rfl, ⟨ho, hq⟩, hr'⟩ := hq
  cases e' with
  | normal =>
    obtain ⟨S'', hw, hq⟩ := hq
    have hq : R .normal S'' := by simpa [blockA, thenA] using hq
    exact ⟨.normal, S'', rfl, hq, hw _ _ _ _ _ _ hr'⟩
  | exit i =>
    have ho : i < 1000000 ∨ i = jumpId l := by simpa [okE] using ho
    by_cases hi : i = jumpId l
    · subst hi
      have hq : ∃ s' S3, Weak S' S3 ∧ I s' S3 ∧ μ s' < μ s := by simpa [blockA, thenA] using hq
      obtain ⟨s', S3, g1, g2, g3⟩ := hq
      have ho : AE.out (.exit (jumpId l)) = .goto l := by
        have h1 : ¬ jumpId l < 1000000 := by unfold jumpId; omega
        have h2 : (jumpId l - 1000000) / 2 = l := by unfold jumpId; omega
        simp only [AE.out, if_neg h1, h2]
      rw [ho]
      exact ⟨rfl, μ s', hn ▸ g3, α, I, μ, s', S3, rfl, g2, g1 _ _ _ _ _ _ hr', hround⟩
    · have hlt : i < 1000000 := by omega
      have h2 : ¬ i = jumpId l + 1 := by unfold jumpId; omega
      have hq : R (.exit i) S' := by simpa [blockA, thenA, hi, h2] using hq
      have ho : AE.out (.exit i) = .exit i := by simp only [AE.out, if_pos hlt]
      rw [ho]
      exact ⟨.exit i, S', ho.symm, hq, hr'⟩
  | ret => exact ⟨.ret, S', rfl, hq, hr'⟩
/-- The abstract machine is true. -/
theorem awp_soundB [IsP P] {B : Base} (hfol : P.follows .mixedOrders = true) : ∀ (c : Code), (∀ (ac : AC) (R : AE → St → Prop) (S : St) (a : Act) (w : World), AC.ofB P N false c = some ac → awp P G ac R S → Reps G w0 B N S a w → c.wp P (QR G w0 B N R) a w) ∧
    ∀ (l : Nat) (ac : AC), AC.ofB P N true c = some ac → spineL c = some l → ∃ b b', findLabel c l = some (.seq .skip b) ∧ b'.exB (fun i => decide (i < 1000000) || i == jumpId l) = true ∧
      (∀ R S a w, awp P G b' R S → Reps G w0 B N S a w → b.wp P (QR G w0 B N R) a w) ∧
      ∀ R S a w, awp P G ac R S → Reps G w0 B N S a w → c.wp P (Exit.jump l (fun a w => ∃ n, JumpAt P G w0 B N b' l R n a w) (QR G w0 B N R)) a w
  | .skip => ⟨fun ac R S a w hc h hr => by
      obtain rfl := Option.some.inj hc
      exact wp_skip ⟨.normal, S, rfl, h, hr⟩, fun _ _ hc => (by cases hc)⟩
  | .region id ops draw => by
    refine ⟨fun ac R S a w hc h hr => ?_, fun _ _ hc => (by cases hc)⟩
    simp only [AC.ofB] at hc
    split at hc
    · rename_i xs hx
      have hlen := (ofL_get hx).1
      split at hc
      · rename_i hd
        subst hd
        split at hc
        · rename_i bad hbad
          obtain rfl := Option.some.inj hc
          obtain ⟨rs, ds, f', ob', h1, h2, h3⟩ := h
          have hsp := runX_spec xs 0 S.tm S.ob rs ds f' ob' h1
          have hB : Drawn ops xs rs ds := drawS_D hbad h2 hx hsp.1 hsp.2.1 (fun j => by
            rcases Nat.lt_or_ge j rs.length with hj | hj
            · have hxj : xs[j]? = some (xs[j]'(by have := hsp.1; omega)) := List.getElem?_eq_getElem _
              have hrj : rs[j]? = some rs[j] := List.getElem?_eq_getElem _
              obtain ⟨_, _, hst⟩ := hsp.2.2.2.2 j _ _ hxj hrj
              have := stepR_pot hst
              simpa [List.getD_eq_getElem?_getD, hxj, hrj] using this
            · exact .inl (by simp [List.getD_eq_getElem?_getD, List.getElem?_eq_none hj]))
          refine wp_region_any hfol ?_
          have hend : ∀ a' w', (∃ σ, Mem0 G w0 ob' σ (fun m => m < S.gen + ops.size) w' ∧ TmB B σ (imm ob' σ) w' f' a') → a'.tmps.size = N → a'.defers = [] → Reps G w0 B N ⟨f', ob', S.gen + xs.length⟩ a' w' := by
            intro a' w' hm hN hd
            refine ⟨?_, hN, hd, ?_⟩
            · have : xs.length = ops.size := by rw [← hlen]; simp
              rw [this]; exact hm
            · intro i hi
              have := runX_gen xs 0 S.tm S.ob rs ds f' ob' h1 (fun i hi => by have := hr.obg i hi; omega) xs.length i (by
                rw [hsp.2.2.2.1] at hi
                intro he
                apply hi
                rw [← he]
                refine selO_congr 0 rs S.ob S.ob rfl (fun j r hj hne => ?_)
                exfalso; apply hne
                have := (List.getElem?_eq_some_iff.1 hj).1
                have := hsp.1
                simp; omega)
              simpa using this
          refine draw_wp (N := N) (w0 := w0) hx h1 hB hr.obg (fun a' w' hm hN hd => ⟨.normal, ⟨f', ob', S.gen + xs.length⟩, rfl, h3, hend a' w' hm hN hd⟩) ops.size _ a _ (by simp) (by simp) ?_ ?_ hr.size hr.defers
          · intro k o _ hk
            simp [isIn, Array.getD_eq_getD_getElem?] at hk
            exfalso
            rcases Nat.lt_or_ge k ops.size with h | h
            · simp [h] at hk
            · simp [Nat.not_lt.2 h] at hk
          · obtain ⟨σ, q1, q2⟩ := hr.ex
            have hnone : ∀ i, isIn (Array.replicate ops.size false) i = false := by
              intro i
              simp only [isIn, Array.getD_eq_getD_getElem?]
              rcases Nat.lt_or_ge i ops.size with h | h
              · simp [h]
              · simp [Nat.not_lt.2 h]
            rw [selO_none 0 rs S.ob (fun i _ => hnone i), selT_none 0 xs rs S.tm (fun i _ => hnone i)]
            have hb : Below w.heap.size w { w with drawn := w.drawn + 1 } := ⟨rfl, rfl, rfl, Nat.le_refl _, fun _ _ => rfl⟩
            exact ⟨σ, q1.grow hb (fun n hn => .inl hn), q2.later (Later.below hb)⟩
        · cases hc
      · rename_i hd
        have hd' : draw = false := by simpa using hd
        subst hd'
        obtain rfl := Option.some.inj hc
        obtain ⟨rs, f', ob', h1, h3⟩ := h
        refine wp_region_list (list_wp (N := N) (w0 := w0) (S0 := S) ops.toList xs 0 S.tm S.ob rs f' ob' a w hx h1 (by simpa using hr.ex) hr.size hr.defers (by simpa using hr.obg) (fun a' w' hq => ⟨.normal, _, rfl, h3, ?_⟩))
        rw [Nat.add_zero, hlen] at hq
        exact hq
    · cases hc
  | .seq x y => by
    have ihx := awp_soundB (B := B) hfol x
    have ihy := awp_soundB (B := B) hfol y
    refine ⟨fun ac R S a w hc h hr => ?_, fun l ac hc hl => ?_⟩
    · simp only [AC.ofB] at hc
      cases hx : labelOf x with
      | some l => rw [hx] at hc; simp at hc
      | none =>
        rw [hx] at hc
        dsimp only at hc
        split at hc
        · rename_i x' y' h1 h2
          simp only [Bool.not_false, Bool.true_or, if_true] at hc
          obtain rfl := Option.some.inj hc
          refine wp_seq (Code.wp_mono (fun e a' w' hq => ?_) (ihx.1 x' _ S a w h1 h hr))
          obtain ⟨e', S', rfl, hq, hr'⟩ := hq
          cases e' with
          | normal =>
            obtain ⟨S'', hw, hq⟩ := hq
            exact ihy.1 y' R S'' a' w' h2 hq (hw G w0 B N a' w' hr')
          | exit id => exact then_out ⟨.exit id, S', rfl, hq, hr'⟩
          | ret => exact ⟨.ret, S', rfl, hq, hr'⟩
        · cases hc
    · simp only [AC.ofB] at hc
      cases hx : labelOf x with
      | some l' =>
        simp only [spineL, hx] at hl
        obtain rfl := Option.some.inj hl
        obtain rfl : x = .label l' := by
          cases x <;> simp [labelOf] at hx
          rw [hx]
        rw [hx] at hc
        dsimp only at hc
        split at hc
        · rename_i b' _ h1
          split at hc
          · rename_i hex
            obtain rfl := Option.some.inj hc
            have hy : ∀ R S a w, awp P G b' R S → Reps G w0 B N S a w → y.wp P (QR G w0 B N R) a w := fun R S a w => ihy.1 b' R S a w h1
            refine ⟨y, b', by simp [findLabel], hex, hy, fun R S a w h hr => ?_⟩
            obtain ⟨α, I, μ, ⟨s0, S0, hw, hI⟩, hround⟩ := h
            refine wp_seq (wp_label ?_)
            refine Code.wp_mono (fun e a' w' hq => ?_) (jump_pass hex hy (μ s0) a w ⟨α, I, μ, s0, S0, rfl, hI, hw _ _ _ _ _ _ hr, hround⟩)
            cases e with
            | goto l2 => exact ⟨hq.1, hq.2.imp fun _ h => h.2⟩
            | _ => exact hq
          · cases hc
        · cases hc
      | none =>
        rw [hx] at hc
        dsimp only at hc
        simp only [spineL, hx] at hl
        split at hl
        · rename_i l' hs
          split at hl
          · rename_i hfn
            obtain rfl := Option.some.inj hl
            split at hc
            · rename_i x' y' h1 h2
              split at hc
              · rename_i hex
                obtain rfl := Option.some.inj hc
                simp only [Bool.not_true, Bool.false_or] at hex
                obtain ⟨b, b', f1, f2, f3, f4⟩ := ihy.2 l' y' h2 hs
                refine ⟨b, b', by rw [findLabel, Option.isNone_iff_eq_none.1 hfn]; exact f1, f2, f3, fun R S a w h hr => ?_⟩
                refine wp_seq (Code.wp_mono (fun e a' w' hq => ?_) (ihx.1 x' _ S a w h1 (awp_exits hex h) hr))
                obtain ⟨e', S', rfl, ⟨ho, hq⟩, hr'⟩ := hq
                cases e' with
                | normal =>
                  obtain ⟨S'', hw, hq⟩ := hq
                  exact f4 R S'' a' w' hq (hw G w0 B N a' w' hr')
                | exit id =>
                  have hlt : id < 1000000 := by simpa [okE] using ho
                  have ho : AE.out (.exit id) = .exit id := by simp only [AE.out, if_pos hlt]
                  rw [ho]
                  exact ⟨.exit id, S', ho.symm, hq, hr'⟩
                | ret => exact ⟨.ret, S', rfl, hq, hr'⟩
              · cases hc
            · cases hc
          · cases hl
        · cases hl
  | .cond c x y => by
    have ihx := awp_soundB (B := B) hfol x
    have ihy := awp_soundB (B := B) hfol y
    refine ⟨fun ac R S a w hc h hr => ?_, fun _ _ hc => (by cases hc)⟩
    simp only [AC.ofB] at hc
    split at hc
    · rename_i c' x' y' h0 h1 h2
      obtain rfl := Option.some.inj hc
      obtain ⟨σ, m1, m2⟩ := hr.ex
      have hv := m2.opd h0
      rcases h with ⟨t, ht, q1, q2⟩ | ⟨pos, n, ht, q1, q2⟩
      rotate_left
      · rw [ht] at hv
        obtain ⟨t, hv, hn⟩ := hv
        refine wp_cond (t := t) hv ?_
        cases t with
        | true => exact ihx.1 x' R S a w h1 (q1 fun e => hn e.symm) hr
        | false => exact ihy.1 y' R S a w h2 (q2 fun e => hn e.symm) hr
      rw [ht] at hv
      refine wp_cond (t := t) hv ?_
      cases t with
      | true => exact ihx.1 x' R S a w h1 (q1 rfl) hr
      | false => exact ihy.1 y' R S a w h2 (q2 rfl) hr
    · cases hc
  | .block id x => by
    have ihx := awp_soundB (B := B) hfol x
    refine ⟨fun ac R S a w hc h hr => ?_, fun _ _ hc => (by cases hc)⟩
    simp only [AC.ofB] at hc
    split at hc
    · rename_i hid
      obtain ⟨x', h1, rfl⟩ := Option.map_eq_some_iff.1 hc
      refine wp_block (Code.wp_mono (fun e a' w' hq => ?_) (ihx.1 x' _ S a w h1 h hr))
      obtain ⟨e', S', rfl, hq, hr'⟩ := hq
      cases e' with
      | normal => exact ⟨.normal, S', rfl, hq, hr'⟩
      | exit i =>
        simp only [blockA] at hq
        by_cases hi : i < 1000000
        · have ho : AE.out (.exit i) = .exit i := by simp only [AE.out, if_pos hi]
          rw [ho]
          simp only [Exit.inBlock]
          split
          · rename_i e; rw [if_pos e] at hq; exact ⟨.normal, S', rfl, hq, hr'⟩
          · rename_i e; rw [if_neg e] at hq; exact ⟨.exit i, S', ho.symm, hq, hr'⟩
        · rw [if_neg (by omega)] at hq
          have ho : AE.out (.exit i) = .goto ((i - 1000000) / 2) := by simp only [AE.out, if_neg hi]
          rw [ho]
          exact ⟨.exit i, S', ho.symm, hq, hr'⟩
      | ret => exact ⟨.ret, S', rfl, hq, hr'⟩
    · cases hc
  | .loop x => by
    have ihx := awp_soundB (B := B) hfol x
    refine ⟨fun ac R S a w hc h hr => ?_, fun _ _ hc => (by cases hc)⟩
    simp only [AC.ofB] at hc
    obtain ⟨x', h1, rfl⟩ := Option.map_eq_some_iff.1 hc
    obtain ⟨α, I, μ, ⟨s0, S0, hw, hI⟩, hround⟩ := h
    refine wp_loop_g (fun s a w => ∃ S1, I s S1 ∧ Reps G w0 B N S1 a w) μ s0 ⟨S0, hI, hw G w0 B N a w hr⟩ (fun s a1 w1 ⟨S1, hI1, hr1⟩ => ?_)
    refine Code.wp_mono (fun e a' w' hq => ?_) (ihx.1 x' _ S1 a1 w1 h1 (hround s S1 hI1) hr1)
    obtain ⟨e', S', rfl, hq, hr'⟩ := hq
    cases e' with
    | normal =>
      obtain ⟨s', S3, g1, g2, g3⟩ := hq
      exact ⟨s', ⟨S3, g2, g1 G w0 B N a' w' hr'⟩, g3⟩
    | exit i => exact then_out ⟨.exit i, S', rfl, hq, hr'⟩
    | ret => exact ⟨.ret, S', rfl, hq, hr'⟩
  | .exit id => by
    refine ⟨fun ac R S a w hc h hr => ?_, fun _ _ hc => (by cases hc)⟩
    simp only [AC.ofB] at hc
    split at hc
    · rename_i hlt
      obtain rfl := Option.some.inj hc
      exact wp_exit ⟨.exit id, S, by simp only [AE.out, if_pos hlt], h, hr⟩
    · cases hc
  | .ret => ⟨fun ac R S a w hc h hr => by
      obtain rfl := Option.some.inj hc
      exact wp_ret ⟨.ret, S, rfl, h, hr⟩, fun _ _ hc => (by cases hc)⟩
  | .scope c => by
    have ih := awp_soundB (B := B) hfol c
    refine ⟨fun ac R S a w hc h hr => ?_, fun _ _ hc => (by cases hc)⟩
    simp only [AC.ofB] at hc
    split at hc
    · rename_i l hl
      obtain ⟨b, b', f1, f2, f3, f4⟩ := ih.2 l ac hc hl
      exact wp_scope_g l (JumpAt P G w0 B N b' l R) f1 (f4 R S a w h hr) (fun n a w hJ => wp_seq (wp_skip (jump_pass f2 f3 n a w hJ)))
    · cases hc
  | .goto l => by
    refine ⟨fun ac R S a w hc h hr => ?_, fun _ _ hc => (by cases hc)⟩
    obtain rfl := Option.some.inj hc
    have h1 : ¬ jumpId l < 1000000 := by unfold jumpId; omega
    have h2 : (jumpId l - 1000000) / 2 = l := by unfold jumpId; omega
    exact wp_goto ⟨.exit (jumpId l), S, by simp only [AE.out, if_neg h1, h2], h, hr⟩
  | .rangeFunc _ _ _ _ => ⟨fun _ _ _ _ _ hc => (by cases hc), fun _ _ hc => (by cases hc)⟩
  | .label _ => ⟨fun _ _ _ _ _ hc => (by cases hc), fun _ _ hc => (by cases hc)⟩
  | .refuse _ => ⟨fun _ _ _ _ _ hc => (by cases hc), fun _ _ hc => (by cases hc)⟩
theorem awp_sound [IsP P] {B : Base} (hfol : P.follows .mixedOrders = true) (c : Code) (ac : AC) (R : AE → St → Prop) (S : St) (a : Act) (w : World) (hc : AC.of P N c = some ac) (h : awp P G ac R S) (hr : Reps G w0 B N S a w) :
    c.wp P (fun e a w => ∃ e' S', e = AE.out e' ∧ R e' S' ∧ Reps G w0 B N S' a w) a w := (awp_soundB hfol c).1 ac R S a w hc h hr
end
end Go.Proofs.YtefolocdfgelcaaDoor
