/- One step of a program: what the partial functions come to; no condition. -/
import Derived.Test.YtomijolkdmaimaaDoorCST
import Derived.Test.YtomijolkdmaimaaDoorPrgP
import Derived.Test.YtomijolkdmaimaaDoorTyP
namespace Go.Proofs.YtomijolkdmaimaaDoor

def gt (l : List Int) (x : Int) : Int := l.getD x.toNat 0
theorem getI_gt {l : List Int} {x : Int} (h : 0 ≤ x ∧ x < l.length) : getI l x = some (gt l x) := by
  have hx : x.toNat < l.length := by omega
  rw [getI_nat h.1, gt, List.getD_eq_getElem?_getD, List.getElem?_eq_getElem hx]; rfl
theorem getI_app {l z : List Int} {x : Int} (h : 0 ≤ x ∧ x < l.length) : getI (l ++ z) x = some (gt l x) := by
  have hx : x.toNat < l.length := by omega
  rw [getI_nat h.1, gt, List.getD_eq_getElem?_getD, List.getElem?_append_left hx, List.getElem?_eq_getElem hx]; rfl
theorem set_app {l z : List Int} {x v : Int} (h : 0 ≤ x ∧ x < l.length) : (l ++ z).set x.toNat v = l.set x.toNat v ++ z := by
  rw [List.set_append, if_pos (by omega)]
abbrev Reg3 := List Int × List Int × List Int
/-- Registers, outputs, cells behind an instruction. -/
def stepE (p : Int) (ins : List Int) (s : Reg3) (e : Int × Int × Int × Int × Int) : Reg3 :=
  if e.1 = 1 then (s.1.set e.2.1.toNat (gt ins e.2.2.1), s.2.1, s.2.2) else
  if e.1 = 2 then (s.1.set e.2.1.toNat 0, s.2.1, s.2.2) else
  if e.1 = 3 then (s.1.set e.2.1.toNat ((gt s.1 e.2.2.1 + gt s.1 e.2.2.2.1) % p), s.2.1, s.2.2) else
  if e.1 = 4 then (s.1.set e.2.1.toNat ((e.2.2.2.2 * gt s.1 e.2.2.1) % p), s.2.1, s.2.2) else
  if e.1 = 5 then (s.1.set e.2.1.toNat (gt s.2.2 e.2.2.1), s.2.1, s.2.2) else
  if e.1 = 6 then (s.1, s.2.1, s.2.2.set e.2.2.1.toNat (gt s.1 e.2.1)) else
  (s.1, s.2.1.set e.2.2.1.toNat (gt s.1 e.2.1), s.2.2)
def inP (p : Int) (l : List Int) : Prop := ∀ x ∈ l, 0 ≤ x ∧ x < p
theorem inP_gt {p : Int} {l : List Int} (h : inP p l) {x : Int} (hx : 0 ≤ x ∧ x < l.length) : 0 ≤ gt l x ∧ gt l x < p := by
  have hx' : x.toNat < l.length := by omega
  rw [gt, List.getD_eq_getElem?_getD, List.getElem?_eq_getElem hx']
  exact h _ (List.getElem_mem hx')
theorem inP_set {p : Int} {l : List Int} (h : inP p l) {x v : Int} (hv : 0 ≤ v ∧ v < p) : inP p (l.set x.toNat v) := fun y hy => by
  rcases List.mem_or_eq_of_mem_set hy with h1 | rfl
  · exact h y h1
  · exact hv
theorem inP_rep {p : Int} {n : Nat} (hp : 0 < p) : inP p (List.replicate n 0) := fun y hy => by
  obtain rfl := List.eq_of_mem_replicate hy; omega
structure StepInv (p o c g : Int) (s : Reg3) : Prop where
  r1 : s.1.length = g.toNat
  r2 : inP p s.1
  o1 : s.2.1.length = o.toNat
  c1 : s.2.2.length = c.toNat
  c2 : inP p s.2.2
section
variable {p i o c g : Int} {code : List (Int × Int × Int × Int × Int)} {ins cs : List Int}
theorem insB_facts {e : Int × Int × Int × Int × Int} (h : insB p i o c g e = true) : (0 ≤ e.2.1 ∧ e.2.1 < g) ∧ ((e.1 = 1 ∧ 0 ≤ e.2.2.1 ∧ e.2.2.1 < i) ∨ e.1 = 2 ∨ (e.1 = 3 ∧ (0 ≤ e.2.2.1 ∧ e.2.2.1 < g) ∧ 0 ≤ e.2.2.2.1 ∧ e.2.2.2.1 < g) ∨ (e.1 = 4 ∧ (0 ≤ e.2.2.1 ∧ e.2.2.1 < g) ∧ 0 ≤ e.2.2.2.2 ∧ e.2.2.2.2 < p) ∨ ((e.1 = 5 ∨ e.1 = 6) ∧ 0 ≤ e.2.2.1 ∧ e.2.2.1 < c) ∨ (e.1 = 7 ∧ 0 ≤ e.2.2.1 ∧ e.2.2.1 < o)) := by
  simp only [insB, Bool.and_eq_true, inR_true] at h
  obtain ⟨h1, h2⟩ := h
  refine ⟨by omega, ?_⟩
  by_cases e1 : e.1 = 1
  · rw [if_pos e1] at h2; simp only [Bool.and_eq_true, inR_true] at h2; omega
  rw [if_neg e1] at h2
  by_cases e2 : e.1 = 2
  · omega
  rw [if_neg e2] at h2
  by_cases e3 : e.1 = 3
  · rw [if_pos e3] at h2; simp only [Bool.and_eq_true, inR_true] at h2; omega
  rw [if_neg e3] at h2
  by_cases e4 : e.1 = 4
  · rw [if_pos e4] at h2; simp only [Bool.and_eq_true, inR_true] at h2; omega
  rw [if_neg e4] at h2
  by_cases e5 : e.1 = 5 ∨ e.1 = 6
  · rw [if_pos e5] at h2; simp only [Bool.and_eq_true, inR_true] at h2; omega
  rw [if_neg e5] at h2
  by_cases e7 : e.1 = 7
  · rw [if_pos e7] at h2; simp only [Bool.and_eq_true, inR_true] at h2; omega
  rw [if_neg e7] at h2
  cases h2
theorem step_inv (hp : 2 ≤ p ∧ p ≤ 97) (hi : ins.length = i.toNat) (hii : inP p ins) {s : Reg3} {e : Int × Int × Int × Int × Int} (h : StepInv p o c g s) (he : insB p i o c g e = true) : StepInv p o c g (stepE p ins s e) := by
  obtain ⟨f1, f2⟩ := insB_facts he
  have m1 : ∀ x : Int, 0 ≤ x % p ∧ x % p < p := fun x => ⟨Int.emod_nonneg x (by omega), Int.emod_lt_of_pos x (by omega)⟩
  have hr := h.r1; have hc := h.c1
  unfold stepE
  split
  · exact ⟨by simp [h.r1], inP_set h.r2 (inP_gt hii (by omega)), h.o1, h.c1, h.c2⟩
  split
  · exact ⟨by simp [h.r1], inP_set h.r2 (by omega), h.o1, h.c1, h.c2⟩
  split
  · exact ⟨by simp [h.r1], inP_set h.r2 (m1 _), h.o1, h.c1, h.c2⟩
  split
  · exact ⟨by simp [h.r1], inP_set h.r2 (m1 _), h.o1, h.c1, h.c2⟩
  split
  · exact ⟨by simp [h.r1], inP_set h.r2 (inP_gt h.c2 (by omega)), h.o1, h.c1, h.c2⟩
  split
  · exact ⟨h.r1, h.r2, h.o1, by simp [h.c1], inP_set h.c2 (inP_gt h.r2 (by omega))⟩
  · exact ⟨h.r1, h.r2, by simp [h.o1], h.c1, h.c2⟩
/-- The state behind the first instructions. -/
def stAt (p : Int) (ins : List Int) (code : List (Int × Int × Int × Int × Int)) (s : Reg3) (k : Nat) : Reg3 := (code.take k).foldl (stepE p ins) s
theorem stAt_succ {s : Reg3} {k : Nat} {e : Int × Int × Int × Int × Int} (h : code[k]? = some e) : stAt p ins code s (k + 1) = stepE p ins (stAt p ins code s k) e := by
  unfold stAt
  rw [List.take_add_one, h, List.foldl_append]; rfl
theorem stAt_inv (G : GoodPrg p i o c g code) (hi : ins.length = i.toNat) (hii : inP p ins) {s : Reg3} (h : StepInv p o c g s) : ∀ k, k ≤ code.length → StepInv p o c g (stAt p ins code s k)
  | 0, _ => h
  | k + 1, hk => by
    have hx := List.getElem?_eq_getElem (show k < code.length by omega)
    rw [stAt_succ hx]
    exact step_inv G.hp hi hii (stAt_inv G hi hii h k (by omega)) (G.all _ (List.getElem_mem _))
/-- The cells and the outputs behind a step. -/
def stepV (p o g : Int) (code : List (Int × Int × Int × Int × Int)) (cs ins : List Int) : List Int × List Int :=
  let s := stAt p ins code (List.replicate g.toNat 0, List.replicate o.toNat 0, cs) code.length
  (s.2.2, s.2.1)
theorem P_cmStep (G : GoodPrg p i o c g code) (hi : ins.length = i.toNat) (hii : inP p ins) (hc : cs.length = c.toNat) (hcc : inP p cs) : L_spec_cmStep p i o c g code cs ins = some (stepV p o g code cs ins) := by
  have b1 := G.hp; have b2 := G.hi; have b3 := G.ho; have b4 := G.hc; have b5 := G.hg; have b6 := G.hl
  unfold L_spec_cmStep
  rw [og_true (by omega), og_true (by omega), P_l1Own _ (by omega), Option.bind_some]
  have h0 : StepInv p o c g (List.replicate g.toNat 0, List.replicate o.toNat 0, cs) := ⟨by simp, inP_rep (by omega), by simp, hc, hcc⟩
  rw [loopM_det (s0 := (0, List.replicate g.toNat 0, List.replicate o.toNat 0, cs)) code.length (fun k => (k, stAt p ins code (List.replicate g.toNat 0, List.replicate o.toNat 0, cs) k)) (by omega) ((stAt p ins code (List.replicate g.toNat 0, List.replicate o.toNat 0, cs) code.length).2.1, (stAt p ins code (List.replicate g.toNat 0, List.replicate o.toNat 0, cs) code.length).2.2) rfl (fun k hk => ?_) ?_]
  · rfl
  · try dsimp only
    unfold L_spec_cmStep_l1
    rw [dec_f (by omega), cond_false]
  · have hx := List.getElem?_eq_getElem hk
    have hv := stAt_inv G hi hii h0 k (by omega)
    have hb := G.all _ (List.getElem_mem hk)
    rw [stAt_succ hx]
    generalize stAt p ins code (List.replicate g.toNat 0, List.replicate o.toNat 0, cs) k = s at hv
    generalize code[k] = e at hx hb
    obtain ⟨r, ou, cl⟩ := s
    obtain ⟨e1, e2, e3, e4, e5⟩ := e
    obtain ⟨f1, f2⟩ := insB_facts hb
    have v1 := hv.r1; have v2 := hv.o1; have v3 := hv.c1
    have v4 := hv.r2; have v5 := hv.c2
    dsimp only at f1 f2 v1 v2 v3 v4 v5 ⊢
    unfold L_spec_cmStep_l1 stepE
    rw [dec_t (by omega), cond_true, hx, Option.bind_some]
    dsimp only
    by_cases h1 : e1 = 1
    · subst h1
      rw [getI_gt (l := ins) (by omega), getI_gt (l := r) (by omega)]
      simp only [beq_self_eq_true, cond_true, Option.bind_some, if_true]
      rw [og_true (by omega)]
    by_cases h2 : e1 = 2
    · subst h2
      rw [getI_gt (l := r) (x := e2) (by omega)]
      simp [og_true (show k + 1 < 4611686018427387904 by omega)]
    by_cases h3 : e1 = 3
    · subst h3
      rw [getI_gt (l := r) (x := e2) (by omega), getI_gt (l := r) (x := e3) (by omega), getI_gt (l := r) (x := e4) (by omega)]
      have := P_fdAdd (p := p) b1 (inP_gt v4 (x := e3) (by omega)) (inP_gt v4 (x := e4) (by omega))
      simp [og_true (show k + 1 < 4611686018427387904 by omega), this]
    by_cases h4 : e1 = 4
    · subst h4
      rw [getI_gt (l := r) (x := e2) (by omega), getI_gt (l := r) (x := e3) (by omega)]
      have := P_fdMul (p := p) (x := e5) b1 (by omega) (inP_gt v4 (x := e3) (by omega))
      simp [og_true (show k + 1 < 4611686018427387904 by omega), this]
    by_cases h5 : e1 = 5
    · subst h5
      rw [getI_gt (l := r) (x := e2) (by omega), getI_gt (l := cl) (x := e3) (by omega)]
      simp [og_true (show k + 1 < 4611686018427387904 by omega)]
    by_cases h6 : e1 = 6
    · subst h6
      rw [getI_gt (l := r) (x := e2) (by omega), getI_gt (l := cl) (x := e3) (by omega)]
      simp [og_true (show k + 1 < 4611686018427387904 by omega)]
    have h7 : e1 = 7 := by omega
    subst h7
    rw [getI_gt (l := r) (x := e2) (by omega), getI_gt (l := ou) (x := e3) (by omega)]
    simp [og_true (show k + 1 < 4611686018427387904 by omega)]
theorem P_implStep (G : GoodPrg p i o c g code) (hi : ins.length = i.toNat) (hii : inP p ins) (hc : cs.length = c.toNat) (hcc : inP p cs) : L_impl_Program_step i o c g code p cs ins = some (stepV p o g code cs ins) := by
  have b1 := G.hp; have b2 := G.hi; have b3 := G.ho; have b4 := G.hc; have b5 := G.hg; have b6 := G.hl
  unfold L_impl_Program_step
  rw [P_clone _ (by omega), Option.bind_some, P_zeros (by omega), Option.bind_some]
  have h0 : StepInv p o c g (List.replicate g.toNat 0, List.replicate o.toNat 0, cs) := ⟨by simp, inP_rep (by omega), by simp, hc, hcc⟩
  let z : List Int := List.replicate (16 - g.toNat) 0
  have hz : List.replicate 16 (0 : Int) = List.replicate g.toNat 0 ++ z := by
    show _ = List.replicate g.toNat 0 ++ List.replicate (16 - g.toNat) 0
    rw [List.replicate_append_replicate]; congr 1; omega
  rw [hz]
  rw [loopM_det (s0 := (0, List.replicate g.toNat 0 ++ z, cs, List.replicate o.toNat 0)) code.length (fun k => (k, (stAt p ins code (List.replicate g.toNat 0, List.replicate o.toNat 0, cs) k).1 ++ z, (stAt p ins code (List.replicate g.toNat 0, List.replicate o.toNat 0, cs) k).2.2, (stAt p ins code (List.replicate g.toNat 0, List.replicate o.toNat 0, cs) k).2.1)) (by omega) ((stAt p ins code (List.replicate g.toNat 0, List.replicate o.toNat 0, cs) code.length).2.2, (stAt p ins code (List.replicate g.toNat 0, List.replicate o.toNat 0, cs) code.length).2.1) rfl (fun k hk => ?_) ?_]
  · rfl
  · try dsimp only
    unfold L_impl_Program_step_l1
    rw [dec_f (by omega), cond_false]
  · have hx := List.getElem?_eq_getElem hk
    have hv := stAt_inv G hi hii h0 k (by omega)
    have hb := G.all _ (List.getElem_mem hk)
    rw [stAt_succ hx]
    generalize stAt p ins code (List.replicate g.toNat 0, List.replicate o.toNat 0, cs) k = s at hv
    generalize code[k] = e at hx hb
    obtain ⟨r, ou, cl⟩ := s
    obtain ⟨e1, e2, e3, e4, e5⟩ := e
    obtain ⟨f1, f2⟩ := insB_facts hb
    have v1 := hv.r1; have v2 := hv.o1; have v3 := hv.c1
    have v4 := hv.r2; have v5 := hv.c2
    dsimp only at f1 f2 v1 v2 v3 v4 v5 ⊢
    unfold L_impl_Program_step_l1 stepE
    rw [dec_t (by omega), cond_true, hx, Option.bind_some]
    dsimp only
    have q2 : 0 ≤ e2 ∧ e2 < (16 : Int) := by omega
    have k1 : k + 1 < 4611686018427387904 := by omega
    have g2 := getI_app (l := r) (z := z) (x := e2) (by omega)
    have w2 : ∀ v, (r ++ z).set e2.toNat v = r.set e2.toNat v ++ z := fun v => set_app (by omega)
    by_cases h1 : e1 = 1
    · subst h1
      simp [og_true q2, og_true k1, g2, w2, getI_gt (l := ins) (x := e3) (by omega)]
    by_cases h2 : e1 = 2
    · subst h2
      simp [og_true q2, og_true k1, g2, w2]
    by_cases h3 : e1 = 3
    · subst h3
      have q3 : 0 ≤ e3 ∧ e3 < (16 : Int) := by omega
      have q4 : 0 ≤ e4 ∧ e4 < (16 : Int) := by omega
      have g3 := inP_gt v4 (x := e3) (by omega)
      have g4 := inP_gt v4 (x := e4) (by omega)
      have := P_mod (p := p) (x := gt r e3 + gt r e4) b1
      simp [og_true q2, og_true q3, og_true q4, og_true k1, g2, w2, getI_app (l := r) (z := z) (x := e3) (by omega), getI_app (l := r) (z := z) (x := e4) (by omega), this, i64_lt (n := gt r e3 + gt r e4) (by omega) (by omega)]
    by_cases h4 : e1 = 4
    · subst h4
      have q3 : 0 ≤ e3 ∧ e3 < (16 : Int) := by omega
      have g3 := inP_gt v4 (x := e3) (by omega)
      have hm := mul_bd (p := p) (x := e5) (y := gt r e3) b1 (by omega) g3
      simp [og_true q2, og_true q3, og_true k1, g2, w2, getI_app (l := r) (z := z) (x := e3) (by omega), i64_lt (n := e5 * gt r e3) (by omega) (by omega), P_mod (p := p) (x := e5 * gt r e3) b1]
    by_cases h5 : e1 = 5
    · subst h5
      simp [og_true q2, og_true k1, g2, w2, getI_gt (l := cl) (x := e3) (by omega)]
    by_cases h6 : e1 = 6
    · subst h6
      simp [og_true q2, og_true k1, g2, w2, getI_gt (l := cl) (x := e3) (by omega)]
    have h7 : e1 = 7 := by omega
    subst h7
    simp [og_true q2, og_true k1, g2, w2, getI_gt (l := ou) (x := e3) (by omega)]
theorem stepV_len (G : GoodPrg p i o c g code) (hi : ins.length = i.toNat) (hii : inP p ins) (hc : cs.length = c.toNat) (hcc : inP p cs) : (stepV p o g code cs ins).1.length = c.toNat ∧ (stepV p o g code cs ins).2.length = o.toNat ∧ inP p (stepV p o g code cs ins).1 := by
  have b1 := G.hp
  have h0 : StepInv p o c g (List.replicate g.toNat 0, List.replicate o.toNat 0, cs) := ⟨by simp, inP_rep (by omega), by simp, hc, hcc⟩
  have h := stAt_inv G hi hii h0 code.length (Nat.le_refl _)
  exact ⟨h.c1, h.o1, h.c2⟩
end
end Go.Proofs.YtomijolkdmaimaaDoor
