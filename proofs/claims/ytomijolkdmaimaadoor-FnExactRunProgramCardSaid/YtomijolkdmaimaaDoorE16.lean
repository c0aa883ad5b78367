/- An abstract machine: code; condition: the loops' invariants. -/
import Derived.Test.YtomijolkdmaimaaDoorE15
import Derived.Deep.LoopGhost
namespace Go.Proofs.YtomijolkdmaimaaDoor
open Go.RowKit Go.Deep

/-- The greatest kind that an operation may be of. -/
def I.pot : I → Nat
  | .alloc .. | .box .. | .ld .. | .look .. | .lenM .. => 1
  | _ => 0
def Q.pot : Q → Nat
  | .i q => q.pot
  | .st .. | .append .. | .mkV .. | .appV .. | .call .. | .upd .. | .del .. => 2
  | .slice .. | .sub .. | .build .. | .mm .. => 0
  | _ => 1
/-- Do two kinds bar each other's order? -/
def barB (kj ki : Nat) : Bool := (ki == 2 && kj != 0) || (kj == 2 && ki != 0)
def drawS (ops : Array Oper) (ps : List Nat) : Option (List (Nat × Nat)) :=
  if (ps.length == ops.size) && ((ops.toList.zipIdx.all fun x => (depsOf x.1).all fun d => decide (d < x.2)) && (dstsB (ops.toList.map (·.dst)) &&
    ((List.range ops.size).all fun i => (List.range i).all fun j =>
      ((ancs (ops.toList.map depsOf) []).getD i 0).testBit j || (ops.getD j default).apart ops (ops.getD i default)))) then
    some ((List.range ops.size).flatMap fun i => ((List.range i).filter fun j => !((ancs (ops.toList.map depsOf) []).getD i 0).testBit j && barB (ps.getD j 0) (ps.getD i 0)).map fun j => (j, i))
  else none
def badP (rs : List Rec) (ds : List (List Oid)) : List (Nat × Nat) → Prop
  | [] => True
  | p :: ps => pairOK (rs.getD p.2 (0, .any, [])) (rs.getD p.1 (0, .any, [])) (ds.getD p.2 []) (ds.getD p.1 []) ∧ badP rs ds ps
theorem badP_mem {rs : List Rec} {ds : List (List Oid)} : ∀ {bad : List (Nat × Nat)}, badP rs ds bad → ∀ p ∈ bad, pairOK (rs.getD p.2 (0, .any, [])) (rs.getD p.1 (0, .any, [])) (ds.getD p.2 []) (ds.getD p.1 [])
  | [], _, p, hp => by cases hp
  | q :: ps, h, p, hp => by
    rcases List.mem_cons.1 hp with rfl | hp
    · exact h.1
    · exact badP_mem h.2 p hp

/-- Code of the abstract machine. -/
inductive AC where
  | skip
  | region (xs : List X) (draw : Bool) (bad : List (Nat × Nat))
  | seq (a b : AC)
  | cond (c : Opd) (a b : AC)
  | block (id : Nat) (a : AC)
  | loop (a : AC)
  | exit (id : Nat)
  | ret
def AC.of (P : Program) (N : Nat) : Code → Option AC
  | .skip => some .skip
  | .region _ ops draw => match X.ofL P N ops ops.toList with
    | some xs => if draw then match drawS ops (xs.map (·.q.pot)) with
        | some bad => some (.region xs true bad)
        | none => none
      else some (.region xs false [])
    | none => none
  | .seq a b => match AC.of P N a, AC.of P N b with
    | some a, some b => some (.seq a b)
    | _, _ => none
  | .cond c a b => match Opd.of c, AC.of P N a, AC.of P N b with
    | some c, some a, some b => some (.cond c a b)
    | _, _, _ => none
  | .block id a => (AC.of P N a).map (.block id)
  | .loop a => (AC.of P N a).map .loop
  | .exit id => some (.exit id)
  | .ret => some .ret
  | _ => none

/-- How a piece of code ends. -/
inductive AE where
  | normal
  | exit (id : Nat)
  | ret
def AE.out : AE → Exit
  | .normal => .normal
  | .exit id => .exit id
  | .ret => .ret

/-- Less is known. -/
def Weak (S S' : St) : Prop := ∀ (G : World → Prop) (w0 : World) (B : Base) (N : Nat) (a : Act) (w : World), Reps G w0 B N S a w → Reps G w0 B N S' a w

def thenA (K : St → Prop) (R : AE → St → Prop) : AE → St → Prop
  | .normal, S => K S
  | e, S => R e S
def blockA (id : Nat) (R : AE → St → Prop) : AE → St → Prop
  | .exit i, S => if i = id then R .normal S else R (.exit i) S
  | e, S => R e S
/-- The weakest condition under which a piece of code, run from an abstract state, ends as R says. -/
def awp (P : Program) (G : World → Prop) : AC → (AE → St → Prop) → St → Prop
  | .skip, R, S => R .normal S
  | .region xs false _, R, S => ∃ rs f' ob', RunX P G S.gen 0 xs S.tm S.ob rs f' ob' ∧ R .normal ⟨f', ob', S.gen + xs.length⟩
  | .region xs true bad, R, S => ∃ rs ds f' ob', RunD P G S.gen 0 xs S.tm S.ob rs ds f' ob' ∧ badP rs ds bad ∧ R .normal ⟨f', ob', S.gen + xs.length⟩
  | .seq a b, R, S => awp P G a (thenA (fun S' => ∃ S'', Weak S' S'' ∧ awp P G b R S'') R) S
  | .cond c a b, R, S => (∃ t, c.ev S.tm = .bool t ∧ (t = true → awp P G a R S) ∧ (t = false → awp P G b R S)) ∨ (∃ pos n, c.ev S.tm = .abool pos n ∧ ((pos = true → n = 0) → awp P G a R S) ∧ ((pos = false → n = 0) → awp P G b R S))
  | .block id a, R, S => awp P G a (blockA id R) S
  | .loop a, R, S => ∃ (α : Type) (I : α → St → Prop) (μ : α → Nat), (∃ s S0, Weak S S0 ∧ I s S0) ∧ ∀ s S1, I s S1 → awp P G a (thenA (fun S2 => ∃ s' S3, Weak S2 S3 ∧ I s' S3 ∧ μ s' < μ s) R) S1
  | .exit id, R, S => R (.exit id) S
  | .ret, R, S => R .ret S

theorem awp_mono {P : Program} {G : World → Prop} : ∀ {c : AC} {R R' : AE → St → Prop} {S : St}, (∀ e S, R e S → R' e S) → awp P G c R S → awp P G c R' S
  | .skip, _, _, _, h, hh => h _ _ hh
  | .region _ false _, _, _, _, h, ⟨rs, f', ob', h1, h3⟩ => ⟨rs, f', ob', h1, h _ _ h3⟩
  | .region _ true _, _, _, _, h, ⟨rs, ds, f', ob', h1, h2, h3⟩ => ⟨rs, ds, f', ob', h1, h2, h _ _ h3⟩
  | .seq a b, _, _, _, h, hh => awp_mono (c := a) (fun e S hq => by
      cases e with
      | normal => obtain ⟨S', hw, hq⟩ := hq; exact ⟨S', hw, awp_mono (c := b) h hq⟩
      | exit id => exact h _ _ hq
      | ret => exact h _ _ hq) hh
  | .cond c a b, _, _, _, h, .inl ⟨t, h1, h2, h3⟩ => .inl ⟨t, h1, fun e => awp_mono (c := a) h (h2 e), fun e => awp_mono (c := b) h (h3 e)⟩
  | .cond c a b, _, _, _, h, .inr ⟨p, n, h1, h2, h3⟩ => .inr ⟨p, n, h1, fun e => awp_mono (c := a) h (h2 e), fun e => awp_mono (c := b) h (h3 e)⟩
  | .block id a, R, R', _, h, hh => awp_mono (c := a) (fun e S hq => by
      cases e with
      | normal => exact h _ _ hq
      | exit i => simp only [blockA] at hq ⊢; split <;> simp_all
      | ret => exact h _ _ hq) hh
  | .loop a, _, _, _, h, ⟨α, I, μ, h1, h2⟩ => ⟨α, I, μ, h1, fun s S1 hs => awp_mono (c := a) (fun e S hq => by
      cases e with
      | normal => exact hq
      | exit id => exact h _ _ hq
      | ret => exact h _ _ hq) (h2 s S1 hs)⟩
  | .exit _, _, _, _, h, hh => h _ _ hh
  | .ret, _, _, _, h, hh => h _ _ hh

section
variable {P : Program} {G : World → Prop} {w0 w w' : World} {N : Nat}

theorem wp_loop_g {c : Code} {Q : Exit → Act → World → Prop} {a : Act} {w : World} {α : Type} (I : α → Act → World → Prop) (μ : α → Nat) (s0 : α) (h₀ : I s0 a w)
    (round : ∀ s a w, I s a w → c.wp P (Exit.then (fun a' w' => ∃ s', I s' a' w' ∧ μ s' < μ s) Q) a w) : (Code.loop c).wp P Q a w := by
  intro b k cs
  have key : ∀ n s a w, μ s = n → I s a w →
      ∃ e a' w', Q e a' w' ∧ Arrives P (lone (b.at a (.code c :: .inLoop c :: k)) cs w) b k cs e a' w' := by
    intro n
    induction n using Nat.strongRecOn with
    | _ n ih =>
      intro s a w hn hI
      obtain ⟨e, a₁, w₁, hq, harr⟩ := round s a w hI b (.inLoop c :: k) cs
      cases e with
      | normal =>
        obtain ⟨s', hI₁, hlt⟩ := hq
        obtain ⟨e₂, a₂, w₂, hq₂, harr₂⟩ := ih (μ s') (hn ▸ hlt) s' a₁ w₁ rfl hI₁
        exact ⟨e₂, a₂, w₂, hq₂, .of_steps (Steps.trans harr (.one step_inLoop)) harr₂⟩
      | exit id => exact ⟨_, a₁, w₁, hq, .pass (x := .inLoop c) rfl (fun _ _ => .inl (by simp)) harr⟩
      | goto l => exact ⟨_, a₁, w₁, hq, .pass (x := .inLoop c) rfl (fun _ _ => .inl (by simp)) harr⟩
      | ret => exact ⟨_, a₁, w₁, hq, .pass (x := .inLoop c) rfl (fun _ _ => .inl (by simp)) harr⟩
      | panic ch => exact ⟨_, a₁, w₁, hq, .pass (x := .inLoop c) rfl (fun _ _ => .inl (by simp)) harr⟩
      | outgrown => exact ⟨_, a₁, w₁, hq, .pass (x := .inLoop c) rfl (fun _ _ => .inl (by simp)) harr⟩
  obtain ⟨e, a', w', hq, harr⟩ := key _ s0 a w rfl h₀
  exact ⟨e, a', w', hq, .of_steps (.one step_loop) harr⟩

theorem ev_pot {f : Nat → AV} {ob : Oid → Option Ob} {i : Oid} {q : Q} {r : Rec} (h : ev f ob i q = some r) : r.1 = 0 ∨ (r.1 = 1 ∧ 1 ≤ q.pot) ∨ (r.1 = 2 ∧ q.pot = 2) := by
  unfold ev at h
  split at h
  · rename_i q
    split at h
    · rename_i v us he
      obtain rfl := Option.some.inj h
      cases us with
      | nil => exact .inl rfl
      | cons u us =>
        refine .inr (.inl ⟨rfl, ?_⟩)
        cases q <;> simp only [evN] at he <;> first
          | exact Nat.le_refl _
          | (exfalso; (repeat' split at he) <;> simp_all; done)
    · split at h
      · rename_i v he
        obtain rfl := Option.some.inj h
        refine .inr (.inl ⟨rfl, ?_⟩)
        cases q <;> first | exact Nat.le_refl _ | cases he
      · cases h
  · skip
    split at h
    · obtain rfl := Option.some.inj h; exact .inr (.inr ⟨rfl, rfl⟩)
    · cases h
  · skip
    split at h
    · obtain rfl := Option.some.inj h; exact .inr (.inl ⟨rfl, Nat.le_refl _⟩)
    · cases h
  · skip
    split at h
    · obtain rfl := Option.some.inj h; exact .inr (.inl ⟨rfl, Nat.le_refl _⟩)
    · cases h
  · skip
    split at h
    · obtain rfl := Option.some.inj h
      dsimp only
      split
      · exact .inr (.inl ⟨rfl, by simp [Q.pot]⟩)
      · exact .inr (.inr ⟨rfl, rfl⟩)
    · cases h
  · split at h
    · obtain rfl := Option.some.inj h; exact .inl rfl
    · cases h
  · split at h
    · obtain rfl := Option.some.inj h; exact .inl rfl
    · cases h
  · cases h
  · split at h
    · obtain rfl := Option.some.inj h; exact .inl rfl
    · cases h
  · split at h
    · obtain rfl := Option.some.inj h; exact .inl rfl
    · cases h
  · split at h
    · split at h
      · split at h
        · obtain rfl := Option.some.inj h; exact .inr (.inr ⟨rfl, rfl⟩)
        · cases h
      · cases h
    · cases h
  · split at h
    · obtain rfl := Option.some.inj h; exact .inr (.inl ⟨rfl, Nat.le_refl _⟩)
    · cases h
  · unfold evAppV at h
    (repeat' split at h) <;> first | (cases h; done) | (obtain rfl := Option.some.inj h; exact .inr (.inl ⟨rfl, by simp [Q.pot]⟩)) | (obtain rfl := Option.some.inj h; exact .inr (.inr ⟨rfl, rfl⟩))
  · obtain rfl := Option.some.inj h; exact .inr (.inl ⟨rfl, Nat.le_refl _⟩)
  · obtain rfl := Option.some.inj h; exact .inr (.inl ⟨rfl, Nat.le_refl _⟩)
  · exact .inr (.inr ⟨evUpd_kind (r := r.2) h, rfl⟩)
  · exact .inr (.inr ⟨evDel_kind (r := r.2) h, rfl⟩)
theorem stepR_pot {p : Bool} {n : Nat} {x : X} {f : Nat → AV} {ob : Oid → Option Ob} {r : Rec} (h : StepR P G p n x f ob r) : r.1 = 0 ∨ (r.1 = 1 ∧ 1 ≤ x.q.pot) ∨ (r.1 = 2 ∧ x.q.pot = 2) := by
  have key : ∀ {i : Oid}, EvR P G p f ob i x.q r → r.1 = 0 ∨ (r.1 = 1 ∧ 1 ≤ x.q.pot) ∨ (r.1 = 2 ∧ x.q.pot = 2) := by
    rintro i (((h | h) | ⟨_, _, _, _, _, _, _, _, _, _, hq, _, _, _, _, hr⟩) | ⟨_, _, _, _, _, hq, _, ⟨hk, _⟩ | ⟨_, hk, _⟩⟩)
    · exact ev_pot h
    · unfold evL at h
      split at h
      · rename_i hq
        split at h
        · obtain rfl := Option.some.inj h
          rw [hq]; exact .inr (.inl ⟨rfl, by simp [Q.pot]⟩)
        · cases h
      · cases h
    · subst hr; rw [hq]; exact .inr (.inl ⟨rfl, by simp [Q.pot]⟩)
    · rw [hq]; exact .inr (.inl ⟨hk, by simp [Q.pot]⟩)
    · rw [hq]; exact .inr (.inr ⟨hk, rfl⟩)
  unfold StepR at h
  split at h
  · exact key h
  · obtain ⟨c, _, h⟩ := h
    split at h
    · exact key h
    · subst h; exact .inl rfl

theorem drawS_D {ops : Array Oper} {xs : List X} {rs : List Rec} {ds : List (List Oid)} {ps : List Nat} {bad : List (Nat × Nat)} (h : drawS ops ps = some bad) (hb : badP rs ds bad) (hx : X.ofL P N ops ops.toList = some xs) (hr : xs.length = rs.length) (hd : xs.length = ds.length)
    (hk : ∀ j, (rs.getD j (0, .any, [])).1 = 0 ∨ ((rs.getD j (0, .any, [])).1 = 1 ∧ 1 ≤ ps.getD j 0) ∨ ((rs.getD j (0, .any, [])).1 = 2 ∧ ps.getD j 0 = 2)) : Drawn ops xs rs ds := by
  unfold drawS at h
  split at h
  · rename_i hc
    obtain rfl := Option.some.inj h
    simp only [Bool.and_eq_true, beq_iff_eq] at hc
    obtain ⟨c1, c2, c3, c4⟩ := hc
    refine Drawn.of hx hr hd c2 c3 (fun i j hi hj => ?_)
    rw [List.all_eq_true] at c4
    have c5 := c4 i (by simpa using hi)
    rw [List.all_eq_true] at c5
    have c6 := c5 j (by simpa using hj)
    rw [Bool.or_eq_true] at c6
    by_cases hbit : ((ancs (ops.toList.map depsOf) []).getD i 0).testBit j = true
    · exact .inl hbit
    · refine .inr ⟨c6.resolve_left hbit, ?_⟩
      cases hq : barB (ps.getD j 0) (ps.getD i 0) with
      | true => exact badP_mem hb (j, i) (List.mem_flatMap.2 ⟨i, by simpa using hi, List.mem_map.2 ⟨j, List.mem_filter.2 ⟨by simpa using hj, by rw [Bool.and_eq_true]; exact ⟨by simpa using hbit, hq⟩⟩, rfl⟩⟩)
      | false =>
        refine .inl ?_
        have h1 := hk j
        have h2 := hk i
        simp only [barB, Bool.or_eq_false_iff, Bool.and_eq_false_iff, beq_eq_false_iff_ne, bne_eq_false_iff_eq] at hq
        omega
  · cases h

/-- The abstract machine is true. -/
theorem awp_sound [IsP P] {B : Base} (hfol : P.follows .mixedOrders = true) : ∀ (c : Code) (ac : AC) (R : AE → St → Prop) (S : St) (a : Act) (w : World), AC.of P N c = some ac → awp P G ac R S → Reps G w0 B N S a w →
    c.wp P (fun e a w => ∃ e' S', e = AE.out e' ∧ R e' S' ∧ Reps G w0 B N S' a w) a w
  | .skip, ac, R, S, a, w, hc, h, hr => by
    obtain rfl := Option.some.inj hc
    exact wp_skip ⟨.normal, S, rfl, h, hr⟩
  | .region id ops draw, ac, R, S, a, w, hc, h, hr => by
    simp only [AC.of] at hc
    split at hc
    · rename_i xs hx
      have hlen := (ofL_get hx).1
      split at hc
      · rename_i hd
        subst hd
        split at hc
        · rename_i bad hbad
          obtain rfl := Option.some.inj hc
          obtain ⟨rs, ds, f', ob', h1, h2, h3⟩ := h
          have hsp := runX_spec xs 0 S.tm S.ob rs ds f' ob' h1
          have hB : Drawn ops xs rs ds := drawS_D hbad h2 hx hsp.1 hsp.2.1 (fun j => by
            rcases Nat.lt_or_ge j rs.length with hj | hj
            · have hxj : xs[j]? = some (xs[j]'(by have := hsp.1; omega)) := List.getElem?_eq_getElem _
              have hrj : rs[j]? = some rs[j] := List.getElem?_eq_getElem _
              obtain ⟨_, _, hst⟩ := hsp.2.2.2.2 j _ _ hxj hrj
              have := stepR_pot hst
              simpa [List.getD_eq_getElem?_getD, hxj, hrj] using this
            · exact .inl (by simp [List.getD_eq_getElem?_getD, List.getElem?_eq_none hj]))
          refine wp_region_any hfol ?_
          have hend : ∀ a' w', (∃ σ, Mem0 G w0 ob' σ (fun m => m < S.gen + ops.size) w' ∧ TmB B σ (imm ob' σ) w' f' a') → a'.tmps.size = N → a'.defers = [] → Reps G w0 B N ⟨f', ob', S.gen + xs.length⟩ a' w' := by
            intro a' w' hm hN hd
            refine ⟨?_, hN, hd, ?_⟩
            · have : xs.length = ops.size := by rw [← hlen]; simp
              rw [this]; exact hm
            · intro i hi
              have := runX_gen xs 0 S.tm S.ob rs ds f' ob' h1 (fun i hi => by have := hr.obg i hi; omega) xs.length i (by
                rw [hsp.2.2.2.1] at hi
                intro he
                apply hi
                rw [← he]
                refine selO_congr 0 rs S.ob S.ob rfl (fun j r hj hne => ?_)
                exfalso; apply hne
                have := (List.getElem?_eq_some_iff.1 hj).1
                have := hsp.1
                simp; omega)
              simpa using this
          refine draw_wp (N := N) (w0 := w0) hx h1 hB hr.obg (fun a' w' hm hN hd => ⟨.normal, ⟨f', ob', S.gen + xs.length⟩, rfl, h3, hend a' w' hm hN hd⟩) ops.size _ a _ (by simp) (by simp) ?_ ?_ hr.size hr.defers
          · intro k o _ hk
            simp [isIn, Array.getD_eq_getD_getElem?] at hk
            exfalso
            rcases Nat.lt_or_ge k ops.size with h | h
            · simp [h] at hk
            · simp [Nat.not_lt.2 h] at hk
          · obtain ⟨σ, q1, q2⟩ := hr.ex
            have hnone : ∀ i, isIn (Array.replicate ops.size false) i = false := by
              intro i
              simp only [isIn, Array.getD_eq_getD_getElem?]
              rcases Nat.lt_or_ge i ops.size with h | h
              · simp [h]
              · simp [Nat.not_lt.2 h]
            rw [selO_none 0 rs S.ob (fun i _ => hnone i), selT_none 0 xs rs S.tm (fun i _ => hnone i)]
            have hb : Below w.heap.size w { w with drawn := w.drawn + 1 } := ⟨rfl, rfl, rfl, Nat.le_refl _, fun _ _ => rfl⟩
            exact ⟨σ, q1.grow hb (fun n hn => .inl hn), q2.later (Later.below hb)⟩
        · cases hc
      · rename_i hd
        have hd' : draw = false := by simpa using hd
        subst hd'
        obtain rfl := Option.some.inj hc
        obtain ⟨rs, f', ob', h1, h3⟩ := h
        refine wp_region_list (list_wp (N := N) (w0 := w0) (S0 := S) ops.toList xs 0 S.tm S.ob rs f' ob' a w hx h1 (by simpa using hr.ex) hr.size hr.defers (by simpa using hr.obg) (fun a' w' hq => ⟨.normal, _, rfl, h3, ?_⟩))
        rw [Nat.add_zero, hlen] at hq
        exact hq
    · cases hc
  | .seq x y, ac, R, S, a, w, hc, h, hr => by
    simp only [AC.of] at hc
    split at hc
    · rename_i x' y' h1 h2
      obtain rfl := Option.some.inj hc
      refine wp_seq (Code.wp_mono (fun e a' w' hq => ?_) (awp_sound hfol x x' _ S a w h1 h hr))
      obtain ⟨e', S', rfl, hq, hr'⟩ := hq
      cases e' with
      | normal =>
        obtain ⟨S'', hw, hq⟩ := hq
        exact awp_sound hfol y y' R S'' a' w' h2 hq (hw G w0 B N a' w' hr')
      | exit id => exact ⟨.exit id, S', rfl, hq, hr'⟩
      | ret => exact ⟨.ret, S', rfl, hq, hr'⟩
    · cases hc
  | .cond c x y, ac, R, S, a, w, hc, h, hr => by
    simp only [AC.of] at hc
    split at hc
    · rename_i c' x' y' h0 h1 h2
      obtain rfl := Option.some.inj hc
      obtain ⟨σ, m1, m2⟩ := hr.ex
      have hv := m2.opd h0
      rcases h with ⟨t, ht, q1, q2⟩ | ⟨pos, n, ht, q1, q2⟩
      rotate_left
      · rw [ht] at hv
        obtain ⟨t, hv, hn⟩ := hv
        refine wp_cond (t := t) hv ?_
        cases t with
        | true => exact awp_sound hfol x x' R S a w h1 (q1 fun e => hn e.symm) hr
        | false => exact awp_sound hfol y y' R S a w h2 (q2 fun e => hn e.symm) hr
      rw [ht] at hv
      refine wp_cond (t := t) hv ?_
      cases t with
      | true => exact awp_sound hfol x x' R S a w h1 (q1 rfl) hr
      | false => exact awp_sound hfol y y' R S a w h2 (q2 rfl) hr
    · cases hc
  | .block id x, ac, R, S, a, w, hc, h, hr => by
    obtain ⟨x', h1, rfl⟩ := Option.map_eq_some_iff.1 (show (AC.of P N x).map (.block id) = some ac from hc)
    refine wp_block (Code.wp_mono (fun e a' w' hq => ?_) (awp_sound hfol x x' _ S a w h1 h hr))
    obtain ⟨e', S', rfl, hq, hr'⟩ := hq
    cases e' with
    | normal => exact ⟨.normal, S', rfl, hq, hr'⟩
    | exit i =>
      simp only [blockA] at hq
      simp only [AE.out, Exit.inBlock]
      split
      · rename_i e; rw [if_pos e] at hq; exact ⟨.normal, S', rfl, hq, hr'⟩
      · rename_i e; rw [if_neg e] at hq; exact ⟨.exit i, S', rfl, hq, hr'⟩
    | ret => exact ⟨.ret, S', rfl, hq, hr'⟩
  | .loop x, ac, R, S, a, w, hc, h, hr => by
    obtain ⟨x', h1, rfl⟩ := Option.map_eq_some_iff.1 (show (AC.of P N x).map .loop = some ac from hc)
    obtain ⟨α, I, μ, ⟨s0, S0, hw, hI⟩, hround⟩ := h
    refine wp_loop_g (fun s a w => ∃ S1, I s S1 ∧ Reps G w0 B N S1 a w) μ s0 ⟨S0, hI, hw G w0 B N a w hr⟩ (fun s a1 w1 ⟨S1, hI1, hr1⟩ => ?_)
    refine Code.wp_mono (fun e a' w' hq => ?_) (awp_sound hfol x x' _ S1 a1 w1 h1 (hround s S1 hI1) hr1)
    obtain ⟨e', S', rfl, hq, hr'⟩ := hq
    cases e' with
    | normal =>
      obtain ⟨s', S3, g1, g2, g3⟩ := hq
      exact ⟨s', ⟨S3, g2, g1 G w0 B N a' w' hr'⟩, g3⟩
    | exit i => exact ⟨.exit i, S', rfl, hq, hr'⟩
    | ret => exact ⟨.ret, S', rfl, hq, hr'⟩
  | .exit id, ac, R, S, a, w, hc, h, hr => by
    obtain rfl := Option.some.inj hc
    exact wp_exit ⟨.exit id, S, rfl, h, hr⟩
  | .ret, ac, R, S, a, w, hc, h, hr => by
    obtain rfl := Option.some.inj hc
    exact wp_ret ⟨.ret, S, rfl, h, hr⟩
  | .rangeFunc _ _ _ _, _, _, _, _, _, hc, _, _ => by cases hc
  | .scope _, _, _, _, _, _, hc, _, _ => by cases hc
  | .label _, _, _, _, _, _, hc, _, _ => by cases hc
  | .goto _, _, _, _, _, _, hc, _, _ => by cases hc
  | .refuse _, _, _, _, _, _, hc, _, _ => by cases hc
end
end Go.Proofs.YtomijolkdmaimaaDoor
