/- An abstract machine: functions that change rows of the caller's; conditions: the loops' invariants. -/
import Derived.Test.YtefolocdfgelcaaDoorE17
namespace Go.Proofs.YtefolocdfgelcaaDoor
open Go.RowKit Go.Deep

section
variable {P : Program} {G : World → Prop} {w0 w w' : World} {ob : Oid → Option Ob} {σ : Oid → Option Loc} {K : Nat → Prop} {im : Nat → Prop}
mutual
/-- Does a value speak of no objects but these? -/
def AV.clo (D : List Oid) : AV → Bool
  | .own i _ _ _ => D.contains i
  | .box i _ => D.contains i
  | .elt i _ _ => D.contains i
  | .mp i => D.contains i
  | .agg cs => AV.cloL D cs
  | .tup cs => AV.cloL D cs
  | .fn _ cs => AV.cloL D cs
  | .ref cs => AV.cloL D cs
  | _ => true
def AV.cloL (D : List Oid) : List AV → Bool
  | [] => true
  | c :: cs => AV.clo D c && AV.cloL D cs
end
def Ob.clo (D : List Oid) : Ob → Bool
  | .cells _ cs => AV.cloL D cs
  | .arr .. => true
  | .map .. => true
  | .vec _ _ _ cs => AV.cloL D cs
  | .pool .. => true
  | .mat _ p _ _ => D.contains p
mutual
/-- Does a value speak of no objects but these? -/
def AV.cloP (D : Oid → Prop) : AV → Prop
  | .own i _ _ _ => D i
  | .box i _ => D i
  | .elt i _ _ => D i
  | .mp i => D i
  | .agg cs => AV.cloPL D cs
  | .tup cs => AV.cloPL D cs
  | .fn _ cs => AV.cloPL D cs
  | .ref cs => AV.cloPL D cs
  | _ => True
def AV.cloPL (D : Oid → Prop) : List AV → Prop
  | [] => True
  | c :: cs => AV.cloP D c ∧ AV.cloPL D cs
end
mutual
theorem AV.cloP_of {D : List Oid} : ∀ (c : AV), c.clo D = true → c.cloP (· ∈ D)
  | .any, _ | .int _ _, _ | .bool _, _ | .str _, _ | .nils, _ | .abool _ _, _ | .tree _ _, _ | .giv _ _ _, _ | .mtree _ _ _, _ | .telt _ _ _, _ => trivial
  | .own _ _ _ _, h => List.contains_iff_mem.1 h
  | .box _ _, h => List.contains_iff_mem.1 h
  | .elt _ _ _, h => List.contains_iff_mem.1 h
  | .mp _, h => List.contains_iff_mem.1 h
  | .agg cs, h => AV.cloPL_of cs h
  | .tup cs, h => AV.cloPL_of cs h
  | .fn _ cs, h => AV.cloPL_of cs h
  | .ref cs, h => AV.cloPL_of cs h
theorem AV.cloPL_of {D : List Oid} : ∀ (cs : List AV), AV.cloL D cs = true → AV.cloPL (· ∈ D) cs
  | [], _ => trivial
  | c :: cs, h => by
    simp only [AV.cloL, Bool.and_eq_true] at h
    exact ⟨AV.cloP_of c h.1, AV.cloPL_of cs h.2⟩
end
mutual
theorem AV.cloP_mono {D E : Oid → Prop} (hd : ∀ i, D i → E i) : ∀ (c : AV), c.cloP D → c.cloP E
  | .any, _ | .int _ _, _ | .bool _, _ | .str _, _ | .nils, _ | .abool _ _, _ | .tree _ _, _ | .giv _ _ _, _ | .mtree _ _ _, _ | .telt _ _ _, _ => trivial
  | .own i _ _ _, h => hd i h
  | .box i _, h => hd i h
  | .elt i _ _, h => hd i h
  | .mp i, h => hd i h
  | .agg cs, h => AV.cloPL_mono hd cs h
  | .tup cs, h => AV.cloPL_mono hd cs h
  | .fn _ cs, h => AV.cloPL_mono hd cs h
  | .ref cs, h => AV.cloPL_mono hd cs h
theorem AV.cloPL_mono {D E : Oid → Prop} (hd : ∀ i, D i → E i) : ∀ (cs : List AV), AV.cloPL D cs → AV.cloPL E cs
  | [], _ => trivial
  | c :: cs, h => ⟨AV.cloP_mono hd c h.1, AV.cloPL_mono hd cs h.2⟩
end
def Ob.cloP (D : Oid → Prop) : Ob → Prop
  | .cells _ cs => AV.cloPL D cs
  | .vec _ _ _ cs => AV.cloPL D cs
  | .pool _ _ _ => False
  | .mat _ _ _ _ => False
  | _ => True
mutual
/-- Does a value speak of such objects, and of nothing else that lies in memory? -/
def AV.hp (D : Oid → Prop) : AV → Prop
  | .own i _ _ _ => D i
  | .box i _ => D i
  | .elt i _ _ => D i
  | .mp i => D i
  | .agg cs => AV.hpL D cs
  | .tup cs => AV.hpL D cs
  | .fn _ cs => AV.hpL D cs
  | .ref _ => False
  | .tree _ _ => False
  | .giv _ _ _ => False
  | .telt _ _ _ => False
  | .mtree _ _ _ => False
  | _ => True
def AV.hpL (D : Oid → Prop) : List AV → Prop
  | [] => True
  | c :: cs => AV.hp D c ∧ AV.hpL D cs
end
def Ob.hp (D : Oid → Prop) : Ob → Prop
  | .cells _ cs => AV.hpL D cs
  | .vec _ _ _ cs => AV.hpL D cs
  | .pool _ _ _ => False
  | .mat _ _ _ _ => False
  | _ => True
mutual
def AV.hpB (D : List Oid) : AV → Bool
  | .own i _ _ _ => D.contains i
  | .box i _ => D.contains i
  | .elt i _ _ => D.contains i
  | .mp i => D.contains i
  | .agg cs => AV.hpBL D cs
  | .tup cs => AV.hpBL D cs
  | .fn _ cs => AV.hpBL D cs
  | .ref _ => false
  | .tree _ _ => false
  | .giv _ _ _ => false
  | .telt _ _ _ => false
  | .mtree _ _ _ => false
  | _ => true
def AV.hpBL (D : List Oid) : List AV → Bool
  | [] => true
  | c :: cs => AV.hpB D c && AV.hpBL D cs
end
mutual
theorem AV.hpB_P {D : List Oid} : ∀ (c : AV), c.hpB D = true → c.hp (· ∈ D)
  | .any, _ | .int _ _, _ | .bool _, _ | .str _, _ | .nils, _ | .abool _ _, _ => trivial
  | .own _ _ _ _, h => List.contains_iff_mem.1 h
  | .box _ _, h => List.contains_iff_mem.1 h
  | .elt _ _ _, h => List.contains_iff_mem.1 h
  | .mp _, h => List.contains_iff_mem.1 h
  | .agg cs, h => AV.hpB_PL cs h
  | .tup cs, h => AV.hpB_PL cs h
  | .fn _ cs, h => AV.hpB_PL cs h
theorem AV.hpB_PL {D : List Oid} : ∀ (cs : List AV), AV.hpBL D cs = true → AV.hpL (· ∈ D) cs
  | [], _ => trivial
  | c :: cs, h => by
    simp only [AV.hpBL, Bool.and_eq_true] at h
    exact ⟨AV.hpB_P c h.1, AV.hpB_PL cs h.2⟩
end
mutual
theorem AV.hp_mono {D E : Oid → Prop} (hd : ∀ i, D i → E i) : ∀ (c : AV), c.hp D → c.hp E
  | .any, _ | .int _ _, _ | .bool _, _ | .str _, _ | .nils, _ | .abool _ _, _ => trivial
  | .own i _ _ _, h => hd i h
  | .box i _, h => hd i h
  | .elt i _ _, h => hd i h
  | .mp i, h => hd i h
  | .agg cs, h => AV.hpL_mono hd cs h
  | .tup cs, h => AV.hpL_mono hd cs h
  | .fn _ cs, h => AV.hpL_mono hd cs h
  | .ref _, h => h
  | .tree _ _, h => h
  | .giv _ _ _, h => h
  | .telt _ _ _, h => h
  | .mtree _ _ _, h => h
theorem AV.hpL_mono {D E : Oid → Prop} (hd : ∀ i, D i → E i) : ∀ (cs : List AV), AV.hpL D cs → AV.hpL E cs
  | [], _ => trivial
  | c :: cs, h => ⟨AV.hp_mono hd c h.1, AV.hpL_mono hd cs h.2⟩
end
def Ob.clo1 (D : List Oid) : Ob → Bool
  | .cells _ cs => AV.cloL D cs
  | .vec _ _ _ cs => AV.cloL D cs
  | _ => true
def Ob.hp1 (D : List Oid) : Ob → Bool
  | .cells _ cs => AV.hpBL D cs
  | .vec _ _ _ cs => AV.hpBL D cs
  | _ => true
mutual
theorem ren_fwd {D : Oid → Prop} {ν : Oid → Oid} {σ σ' : Oid → Option Loc} {im im' : Nat → Prop} (hσ : ∀ i, D i → σ' (ν i) = σ i) : ∀ (c : AV) (v : Value), c.hp D → AV.Rep σ im w c v → AV.Rep σ' im' w (c.ren ν) v
  | .any, _, _, _ => trivial
  | .int _ _, _, _, h => h
  | .bool _, _, _, h => h
  | .str _, _, _, h => h
  | .nils, _, _, h => h
  | .abool _ _, _, _, h => h
  | .own i t off len, _, hc, h => by
    have e := hσ i hc
    rcases h with ⟨g, q⟩ | ⟨b, cap, g, q⟩ | ⟨lc, g, q⟩
    · exact .inl ⟨e.trans g, q⟩
    · exact .inr (.inl ⟨b, cap, e.trans g, q⟩)
    · exact .inr (.inr ⟨lc, e.trans g, q⟩)
  | .box i k, _, hc, ⟨b, cap, sz, g, e⟩ => ⟨b, cap, sz, (hσ i hc).trans g, e⟩
  | .elt i _ _, _, hc, ⟨b, cap, sz, g, e⟩ => ⟨b, cap, sz, (hσ i hc).trans g, e⟩
  | .mp i, _, hc, ⟨b, cap, sz, g, e⟩ => ⟨b, cap, sz, (hσ i hc).trans g, e⟩
  | .agg cs, _, hc, ⟨vs, e, h⟩ => ⟨vs, e, ren_fwdL hσ cs vs hc h⟩
  | .tup cs, _, hc, ⟨vs, e, h⟩ => ⟨vs, e, ren_fwdL hσ cs vs hc h⟩
  | .fn _ cs, _, hc, ⟨vs, e, h⟩ => ⟨vs, e, ren_fwdL hσ cs vs hc h⟩
  | .ref _, _, hc, _ | .tree _ _, _, hc, _ | .giv _ _ _, _, hc, _ | .telt _ _ _, _, hc, _ | .mtree _ _ _, _, hc, _ => by cases hc
theorem ren_fwdL {D : Oid → Prop} {ν : Oid → Oid} {σ σ' : Oid → Option Loc} {im im' : Nat → Prop} (hσ : ∀ i, D i → σ' (ν i) = σ i) : ∀ (cs : List AV) (vs : List Value), AV.hpL D cs → AV.RepL σ im w cs vs → AV.RepL σ' im' w (AV.renL ν cs) vs
  | [], _, _, h => h
  | c :: cs, _, hc, ⟨u, us, e, h1, h2⟩ => ⟨u, us, e, ren_fwd hσ c u hc.1 h1, ren_fwdL hσ cs us hc.2 h2⟩
end
theorem ob_fwd {D : Oid → Prop} {ν : Oid → Oid} {σ σ' : Oid → Option Loc} {im im' : Nat → Prop} {lo : Nat} (hσ : ∀ i, D i → σ' (ν i) = σ i) {q : Ob} {l : Loc} (hq : q.hp D) (h : q.Rep lo σ im w l) : (q.ren ν).Rep lo σ' im' w l := by
  cases q with
  | arr e t xs => exact h
  | map mt t es => cases l <;> exact h
  | cells ty cs =>
    cases l with
    | nil => exact h
    | at_ b c s => obtain ⟨vs, h1, h2, h3⟩ := h; exact ⟨vs, h1, ren_fwdL hσ cs vs hq h2, h3⟩
  | vec e sz n cs => obtain ⟨vs, h1, h2, h3⟩ := h; exact ⟨vs, h1, ren_fwdL hσ cs vs hq h2, h3⟩
  | pool e t xss => cases hq
  | mat e p t xss => cases hq
mutual
/-- Names are given anew. -/
theorem ren_rep {D : Oid → Prop} {θ : Oid → Oid} {σ σ' : Oid → Option Loc} {im im' : Nat → Prop} (hσ : ∀ i, D i → σ' i = σ (θ i)) (hi : ∀ b, im b → im' b) : ∀ (c : AV) (v : Value), c.cloP D → AV.Rep σ im w (c.ren θ) v → AV.Rep σ' im' w c v
  | .any, _, _, _ => trivial
  | .int _ _, _, _, h => h
  | .bool _, _, _, h => h
  | .str _, _, _, h => h
  | .nils, _, _, h => h
  | .abool _ _, _, _, h => h
  | .tree _ _, _, _, ⟨A, c, l, e, hs⟩ => ⟨A, c, l, e, sl_mono (fun b _ hb => hi b hb) hs⟩
  | .giv _ _ _, _, _, ⟨h0, A, c, l, e, hs⟩ => ⟨h0, A, c, l, e, sl_mono (fun b _ hb => hi b hb) hs⟩
  | .own i t off len, _, hc, h => by
    have e := hσ i hc
    rcases h with ⟨g, q⟩ | ⟨b, cap, g, q⟩ | ⟨lc, g, q⟩
    · exact .inl ⟨e.trans g, q⟩
    · exact .inr (.inl ⟨b, cap, e.trans g, q⟩)
    · exact .inr (.inr ⟨lc, e.trans g, q⟩)
  | .box i k, _, hc, ⟨b, cap, sz, g, e⟩ => ⟨b, cap, sz, (hσ i hc).trans g, e⟩
  | .elt i _ _, _, hc, ⟨b, cap, sz, g, e⟩ => ⟨b, cap, sz, (hσ i hc).trans g, e⟩
  | .mp i, _, hc, ⟨b, cap, sz, g, e⟩ => ⟨b, cap, sz, (hσ i hc).trans g, e⟩
  | .mtree _ _ _, _, _, ⟨b, e, h1, h2⟩ => ⟨b, e, hi _ h1, h2⟩
  | .telt _ _ _, _, _, ⟨a, l, e, hm, hb⟩ => ⟨a, l, e, hm.mono fun b _ hb => hi b hb, hi _ hb⟩
  | .agg cs, _, hc, ⟨vs, e, h⟩ => ⟨vs, e, ren_repL hσ hi cs vs hc h⟩
  | .tup cs, _, hc, ⟨vs, e, h⟩ => ⟨vs, e, ren_repL hσ hi cs vs hc h⟩
  | .fn _ cs, _, hc, ⟨vs, e, h⟩ => ⟨vs, e, ren_repL hσ hi cs vs hc h⟩
  | .ref cs, _, hc, ⟨b, k, vs, e, hb, hcl, h⟩ => ⟨b, k, vs, e, ⟨hb.1, hi _ hb.2⟩, hcl, ren_repL hσ hi cs vs hc h⟩
theorem ren_repL {D : Oid → Prop} {θ : Oid → Oid} {σ σ' : Oid → Option Loc} {im im' : Nat → Prop} (hσ : ∀ i, D i → σ' i = σ (θ i)) (hi : ∀ b, im b → im' b) : ∀ (cs : List AV) (vs : List Value), AV.cloPL D cs → AV.RepL σ im w (AV.renL θ cs) vs → AV.RepL σ' im' w cs vs
  | [], _, _, h => h
  | c :: cs, _, hc, ⟨u, us, e, h1, h2⟩ => by
    exact ⟨u, us, e, ren_rep hσ hi c u hc.1 h1, ren_repL hσ hi cs us hc.2 h2⟩
end
theorem ob_bwd {D : Oid → Prop} {θ : Oid → Oid} {σ σ' : Oid → Option Loc} {im im' : Nat → Prop} {lo : Nat} (hσ : ∀ i, D i → σ' i = σ (θ i)) (hi : ∀ b, im b → im' b) {q : Ob} {l : Loc} (hq : q.cloP D) (h : (q.ren θ).Rep lo σ im w l) : q.Rep lo σ' im' w l := by
  cases q with
  | arr e t xs => exact h
  | map mt t es => cases l <;> exact h
  | cells ty cs =>
    cases l with
    | nil => exact h
    | at_ b c s => obtain ⟨vs, h1, h2, h3⟩ := h; exact ⟨vs, h1, ren_repL hσ hi cs vs hq h2, h3⟩
  | vec e sz n cs => obtain ⟨vs, h1, h2, h3⟩ := h; exact ⟨vs, h1, ren_repL hσ hi cs vs hq h2, h3⟩
  | pool e t xss => cases hq
  | mat e p t xss => cases hq
theorem mkOb_exL {i : Oid} {o : Ob} : ∀ {ol : List (Oid × Ob)}, mkOb (someL ol) i = some o → (i, o) ∈ exL ol
  | [], h => by cases h
  | (j, x) :: r, h => by
    simp only [someL, List.map_cons] at h
    cases x with
    | pool e u xss =>
      simp only [mkOb] at h
      simp only [exL, List.mem_append]
      split at h
      · rename_i hc
        obtain ⟨c1, c2, c3⟩ := hc
        obtain ⟨row, hrow, rfl⟩ := Option.map_eq_some_iff.1 h
        refine .inl (List.mem_map.2 ⟨(row, i.1.2 - 1), ?_, ?_⟩)
        · rw [List.mem_zipIdx_iff_getElem?]; exact hrow
        · obtain ⟨⟨i1, i2⟩, i3⟩ := i
          simp only [kid] at *
          subst c1 c2
          rw [show i2 - 1 + 1 = i2 by omega]
      · exact .inr (mkOb_exL (ol := r) h)
    | mat e p u xss =>
      simp only [mkOb] at h
      simp only [exL]
      split at h
      · rename_i e; subst e; obtain rfl := Option.some.inj h; exact List.mem_cons_self
      · exact List.mem_cons_of_mem _ (mkOb_exL (ol := r) h)
    | _ =>
      simp only [mkOb] at h
      simp only [exL]
      split at h
      · rename_i e; subst e; obtain rfl := Option.some.inj h; exact List.mem_cons_self
      · exact List.mem_cons_of_mem _ (mkOb_exL (ol := r) h)
theorem inj_of_nd {α β : Type} {f : α → β} : ∀ {l : List α}, (l.map f).Nodup → ∀ {x y : α}, x ∈ l → y ∈ l → f x = f y → x = y
  | [], _, _, _, h, _, _ => by cases h
  | a :: r, nd, x, y, hx, hy, e => by
    simp only [List.map_cons, List.nodup_cons] at nd
    rcases List.mem_cons.1 hx with h1 | h1
    · rcases List.mem_cons.1 hy with h2 | h2
      · rw [h1, h2]
      · exact absurd (List.mem_map.2 ⟨y, h2, by rw [← e, h1]⟩) nd.1
    · rcases List.mem_cons.1 hy with h2 | h2
      · exact absurd (List.mem_map.2 ⟨x, h1, by rw [e, h2]⟩) nd.1
      · exact inj_of_nd nd.2 h1 h2 e
theorem nd_map {α β : Type} {f : α → β} : ∀ {l : List α}, l.Nodup → (∀ x ∈ l, ∀ y ∈ l, f x = f y → x = y) → (l.map f).Nodup
  | [], _, _ => by simp
  | a :: r, nd, h => by
    obtain ⟨n1, n2⟩ := List.nodup_cons.1 nd
    refine List.nodup_cons.2 ⟨fun hm => ?_, nd_map n2 fun x hx y hy => h x (by simp [hx]) y (by simp [hy])⟩
    obtain ⟨y, hy, e⟩ := List.mem_map.1 hm
    exact n1 (h a (by simp) y (by simp [hy]) e.symm ▸ hy)
/-- The results of a function: one value or several. -/
def resA : List AV → AV
  | [x] => x
  | l => .tup l
theorem results_rep {S' : St} {a' : Act} {w' : World} (hM : Mem0 G w0 S'.ob σ K w') (hF : TmRep σ (imm S'.ob σ) w' S'.tm a') {fn : Func} {rs : List Res} {rvs : List AV} (hrs : Res.ofL P fn.results.toList = some rs) (h : Res.evL S'.tm S'.ob rs = some rvs) :
    ∃ u, (results fn a'.tmps).run P w' = .ok u w' ∧ AV.Rep σ (imm S'.ob σ) w' (resA rvs) u := by
  have key : ∀ (vars : List ResultVar) (rs : List Res) (avs : List AV), Res.ofL P vars = some rs → Res.evL S'.tm S'.ob rs = some avs → ∃ us, (vars.mapM (resV a'.tmps)).run P w' = .ok us w' ∧ AV.RepL σ (imm S'.ob σ) w' avs us := by
    intro vars
    induction vars with
    | nil =>
      intro rs avs h1 h2
      obtain rfl : [] = rs := Option.some.inj h1
      obtain rfl : [] = avs := Option.some.inj h2
      exact ⟨[], rfl, rfl⟩
    | cons z zs ih =>
      intro rs avs h1 h2
      simp only [Res.ofL] at h1
      split at h1
      · rename_i x xs p1 p2
        obtain rfl := Option.some.inj h1
        simp only [Res.evL] at h2
        split at h2
        · rename_i y ys p3 p4
          obtain rfl := Option.some.inj h2
          obtain ⟨u, r1, r2⟩ := Res.run hM hF p1 p3
          obtain ⟨us, s1, s2⟩ := ih xs ys p2 p4
          exact ⟨u :: us, by rw [List.mapM_cons, Sem.run_bind, r1]; simp [s1], u, us, rfl, r2, s2⟩
        · cases h2
      · cases h1
  obtain ⟨us, h1, h2⟩ := key _ _ _ hrs h
  have hl1 : ∀ (vars : List ResultVar) (rs : List Res), Res.ofL P vars = some rs → rs.length = vars.length := by
    intro vars
    induction vars with
    | nil => intro rs h; obtain rfl : [] = rs := Option.some.inj h; rfl
    | cons z zs ih =>
      intro rs h
      simp only [Res.ofL] at h
      split at h
      · rename_i x xs p1 p2
        obtain rfl := Option.some.inj h
        simp [ih xs p2]
      · cases h
  have hl2 : ∀ (rs : List Res) (avs : List AV), Res.evL S'.tm S'.ob rs = some avs → avs.length = rs.length := by
    intro rs
    induction rs with
    | nil => intro avs h; obtain rfl : [] = avs := Option.some.inj h; rfl
    | cons z zs ih =>
      intro avs h
      simp only [Res.evL] at h
      split at h
      · rename_i y ys p3 p4
        obtain rfl := Option.some.inj h
        simp [ih ys p4]
      · cases h
  have hlen : us.length = fn.results.size := by rw [h2.length, hl2 _ _ h, hl1 _ _ hrs, Array.length_toList]
  refine ⟨_, results_run h1 hlen, ?_⟩
  by_cases hs : fn.results.size = 1
  · rw [if_pos hs]
    have hlv : rvs.length = 1 := by rw [← h2.length, hlen, hs]
    match rvs, us, hlv, h2 with
    | [x], _, _, ⟨u, us', e, q1, q2⟩ =>
      rw [e]; exact q1
  · rw [if_neg hs]
    have hlv : rvs.length ≠ 1 := by rw [← h2.length, hlen]; exact hs
    have : resA rvs = .tup rvs := by
      unfold resA
      split
      · exact absurd rfl hlv
      · rfl
    rw [this]
    exact ⟨us, rfl, h2⟩
/-- A function's contract from its code: it changes objects of the caller's, and makes such. -/
theorem callM_ok [IsP P] (hfol : P.follows .mixedOrders = true) {g : FuncId} {fn : Func} {c : Code} {ac : AC} {rs : List Res} {args : List AV} {ol us : List (Oid × Ob)} {v : AV} (hf : P.funcs[g]? = some fn) (hb : fn.body = some c) (hc : AC.of P fn.ntmps c = some ac) (hrs : Res.ofL P fn.results.toList = some rs)
    (hn : args.length ≤ fn.ntmps) (hz : ∀ q ∈ exL ol, q.1.2 = 0 ∧ q.2.cloP (· ∈ nmL ol)) (hnd : (nmL us).Nodup) (hus : ∀ q ∈ exL us, (q.1.2 = 1 ∨ q.1 ∈ nmL ol) ∧ q.2.hp (· ∈ nmL us)) (hcl : AV.cloPL (· ∈ nmL ol) args) (hv : v.hp (· ∈ nmL us))
    (h : awp P G ac (fun e S => ∃ S', Weak S S' ∧ (e = .normal ∨ e = .ret) ∧ (∃ rvs, Res.evL S'.tm S'.ob rs = some rvs ∧ v = resA rvs) ∧ ∀ q ∈ exL us, S'.ob q.1 = some q.2) ⟨fun i => args.getD i .any, mkOb (someL ol), 1⟩) : CallM P G g args ol v us := by
  intro θ i w0 ob σ K w vs hM hi hol hθ hloc hargs
  have hnm : ∀ {l : List (Oid × Ob)} {q}, q ∈ exL l → q.1 ∈ nmL l := fun hq => List.mem_map.2 ⟨_, hq, rfl⟩
  have hnm' : ∀ {l : List (Oid × Ob)} {j}, j ∈ nmL l → ∃ q ∈ exL l, q.1 = j := fun hj => by
    obtain ⟨q, hq, e⟩ := List.mem_map.1 hj; exact ⟨q, hq, e⟩
  have hlen : vs.length = args.length := by
    rw [hargs.length]
    have : ∀ cs : List AV, (AV.renL θ cs).length = cs.length := by
      intro cs; induction cs with
      | nil => rfl
      | cons c cs ih => simp [AV.renL, ih]
    exact this args
  let σ0 : Oid → Option Loc := fun j => if j ∈ nmL ol then σ (θ j) else none
  have hσ0 : ∀ j, j ∈ nmL ol → σ0 j = σ (θ j) := fun j hj => if_pos hj
  have hσ1 : ∀ j l, σ0 j = some l → j ∈ nmL ol ∧ σ (θ j) = some l := by
    intro j l hj
    simp only [σ0] at hj
    split at hj
    · rename_i h; exact ⟨h, hj⟩
    · cases hj
  have h0 : ∀ j, j ∈ nmL ol → j.2 = 0 := fun j hj => by
    obtain ⟨q, hq, e⟩ := hnm' hj
    rw [← e]; exact (hz q hq).1
  have hold : ∀ j, j ∈ nmL ol → ∃ o, ob (θ j) = some o := fun j hj => by
    obtain ⟨q, hq, e⟩ := hnm' hj
    rw [← e]; exact ⟨_, hol q hq⟩
  have him0 : ∀ b, immO θ ol σ b → imm (mkOb (someL ol)) σ0 b := by
    intro b hb j o cp s ho hs
    exact hb (j, o) (mkOb_exL ho) cp s (hσ1 j _ hs).2
  have himO : ∀ b, imm ob σ b → immO θ ol σ b := fun b hb q hq cp s hs => hb (θ q.1) _ cp s (hol q hq) hs
  have him : ∀ b, imm ob σ b → imm (mkOb (someL ol)) σ0 b := fun b hb => him0 b (himO b hb)
  have hM0 : Mem0 G w0 (mkOb (someL ol)) σ0 (· < 1) w := by
    refine ⟨hM.below, hM.inv, fun j l hj => ?_, fun j b cp s hj => hM.lt _ b cp s (hσ1 j _ hj).2, fun j b cp s hj => hM.cap _ b cp s (hσ1 j _ hj).2, fun j k b cp s cp' s' o o' hj hk h1 h2 => ?_, fun j o l ho hl => ?_⟩
    · have := h0 j (hσ1 j l hj).1
      show j.2 < 1
      omega
    · obtain ⟨d1, h1⟩ := hσ1 j _ h1
      obtain ⟨d2, h2⟩ := hσ1 k _ h2
      obtain ⟨o1, r1⟩ := hold j d1
      obtain ⟨o2, r2⟩ := hold k d2
      exact hθ j k d1 d2 (hM.inj (θ j) (θ k) b cp s cp' s' _ _ r1 r2 h1 h2)
    · obtain ⟨d, hs⟩ := hσ1 j l hl
      have hq := mkOb_exL ho
      exact ob_bwd hσ0 him (hz _ hq).2 (hM.obs (θ j) _ l (hol _ hq) hs)
  have hreps : Reps G w0 ⟨σ0, imm (mkOb (someL ol)) σ0, w, fun j l hj => h0 j (hσ1 j l hj).1⟩ fn.ntmps ⟨fun i => args.getD i .any, mkOb (someL ol), 1⟩ { tmps := vs.toArray ++ Array.replicate (fn.ntmps - vs.toArray.size) undef, defers := [] } w := by
    refine ⟨⟨σ0, hM0, fun t => ?_, Later.refl _ _ _⟩, by simp; omega, rfl, fun j h => ?_⟩
    · simp only [List.getD_eq_getElem?_getD]
      cases ht : args[t]? with
      | none => trivial
      | some c =>
        have hrep := ren_repL hσ0 him0 args vs hcl hargs
        obtain ⟨v, hv, hr⟩ := hrep.get ht
        have hlt : t < vs.length := (List.getElem?_eq_some_iff.1 hv).1
        have e : (vs.toArray ++ Array.replicate (fn.ntmps - vs.toArray.size) undef).getD t undef = v := by
          rw [Array.getD_eq_getD_getElem?, Array.getElem?_append_left (by simpa using hlt)]
          simp [hv]
        rw [e]
        exact hr
    · show j.2 < 1
      have h : mkOb (someL ol) j ≠ none := h
      cases ho : mkOb (someL ol) j with
      | none => exact absurd ho h
      | some o => have : j.2 = 0 := (hz _ (mkOb_exL ho)).1; omega
  refine calls_of_wp hf hb (Code.wp_mono (fun e a' w' hq => ?_) (awp_sound hfol c ac _ _ _ w hc h hreps))
  obtain ⟨e', S0, rfl, ⟨S', hweak, hend, ⟨rvs, h1, hvr⟩, h2⟩, hr⟩ := hq
  replace hr := hweak _ _ _ _ _ _ hr
  obtain ⟨σ2, hM2, hF, hL⟩ := hr.ex
  obtain ⟨u, hrun, hu⟩ := results_rep hM2 hF hrs h1
  rw [← hvr] at hu
  let ν := newN θ i
  let un : Oid → Oid := fun k => ((k.1.1 - i.1.1 * 16, k.1.2), 1)
  have hKθ : ∀ j, j ∈ nmL ol → (θ j).2 ≠ i.2 := fun j hj e => by
    cases hs : σ (θ j) with
    | none => exact hloc j hj hs
    | some l => exact hi (e ▸ hM.gen _ _ hs)
  have hcase : ∀ j, j ∈ nmL us → (j.2 = 0 ∧ j ∈ nmL ol ∧ ν j = θ j) ∨ (j.2 = 1 ∧ ν j = ((i.1.1 * 16 + j.1.1, j.1.2), i.2) ∧ un (ν j) = j) := by
    intro j hj
    obtain ⟨q, hq, rfl⟩ := hnm' hj
    rcases (hus q hq).1 with hg | hg
    · refine .inr ⟨hg, by simp [ν, newN, hg], ?_⟩
      simp only [un, ν, newN, hg]
      obtain ⟨⟨⟨a, b⟩, c⟩, d⟩ := q
      simp at hg ⊢
      exact hg.symm
    · exact .inl ⟨h0 _ hg, hg, by simp [ν, newN, h0 _ hg]⟩
  have hνinj : ∀ j ∈ nmL us, ∀ k ∈ nmL us, ν j = ν k → j = k := by
    intro j hj k hk e
    rcases hcase j hj with ⟨a1, a2, a3⟩ | ⟨a1, a2, a3⟩ <;> rcases hcase k hk with ⟨b1, b2, b3⟩ | ⟨b1, b2, b3⟩
    · exact hθ j k a2 b2 (by rw [← a3, ← b3, e])
    · have := hKθ j a2
      rw [← a3, e, b2] at this
      exact absurd rfl this
    · have := hKθ k b2
      rw [← b3, ← e, a2] at this
      exact absurd rfl this
    · rw [← a3, ← b3, e]
  let σ' : Oid → Option Loc := fun k => if k.2 = i.2 then (if un k ∈ nmL us ∧ ν (un k) = k then σ2 (un k) else none) else σ k
  have hσ2 : ∀ j, j ∈ nmL ol → σ2 j = σ (θ j) := by
    intro j hj
    cases hs : σ (θ j) with
    | none => exact absurd hs (hloc j hj)
    | some l => exact hL.loc _ _ (show σ0 j = some l by rw [hσ0 _ hj]; exact hs)
  have hσν : ∀ j, j ∈ nmL us → σ' (ν j) = σ2 j := by
    intro j hj
    rcases hcase j hj with ⟨a1, a2, a3⟩ | ⟨a1, a2, a3⟩
    · simp only [σ']
      rw [a3, if_neg (hKθ j a2), hσ2 j a2]
    · simp only [σ']
      rw [if_pos (by rw [a2]), a3, if_pos ⟨hj, rfl⟩]
  have hσo : ∀ k l, σ k = some l → σ' k = some l := by
    intro k l hk
    have : k.2 ≠ i.2 := fun e => hi (e ▸ hM.gen _ _ hk)
    simp only [σ', if_neg this]
    exact hk
  -- the objects behind the call
  have hB1 : ∀ j q, (j, q) ∈ exL us → applyU (updM θ i ol us) ob (ν j) = some (q.ren ν) := by
    intro j q hq
    have hkeys : (((exL us).map fun q => (newN θ i q.1, some (q.2.ren (newN θ i)))).map (·.1)).Nodup := by
      rw [List.map_map]
      have : ((exL us).map ((·.1) ∘ fun q : Oid × Ob => (newN θ i q.1, some (q.2.ren (newN θ i))))) = (nmL us).map ν := by
        unfold nmL; rw [List.map_map]; rfl
      rw [this]
      exact nd_map hnd hνinj
    have := fold_mem (fun u : Oid × Option Ob => u.2) (fun u => u.1) ((exL us).map fun q => (newN θ i q.1, some (q.2.ren (newN θ i)))) (applyU ((exL ol).map fun q => (θ q.1, none)) ob) (newN θ i j, some (q.ren (newN θ i))) hkeys (List.mem_map.2 ⟨(j, q), hq, rfl⟩)
    unfold applyU updM
    rw [List.foldl_append]
    exact this
  have hB2 : ∀ k, (∀ j ∈ nmL us, ν j ≠ k) → applyU (updM θ i ol us) ob k = if k ∈ (nmL ol).map θ then none else ob k := by
    intro k hk
    have e1 : applyU (updM θ i ol us) ob k = applyU ((exL ol).map fun q => (θ q.1, none)) ob k := by
      have := applyU_none (us := (exL us).map fun q => (newN θ i q.1, some (q.2.ren (newN θ i)))) (ob := applyU ((exL ol).map fun q => (θ q.1, none)) ob) (j := k) fun u hu => by
        obtain ⟨q, hq, rfl⟩ := List.mem_map.1 hu
        exact hk q.1 (hnm hq)
      rw [← this]
      unfold applyU updM
      rw [List.foldl_append]
    rw [e1]
    split
    · rename_i hk'
      obtain ⟨j, hj, rfl⟩ := List.mem_map.1 hk'
      obtain ⟨q, hq, rfl⟩ := hnm' hj
      exact (applyU_free ((exL ol).map fun q => (θ q.1, none)) ob (fun u hu => by obtain ⟨_, _, rfl⟩ := List.mem_map.1 hu; rfl)).2 (θ q.1, none) (List.mem_map.2 ⟨q, hq, rfl⟩)
    · rename_i hk'
      exact applyU_none fun u hu e => hk' (by obtain ⟨q, hq, rfl⟩ := List.mem_map.1 hu; exact List.mem_map.2 ⟨q.1, hnm hq, e⟩)
  generalize applyU (updM θ i ol us) ob = ob' at hB1 hB2
  have hcaseO : ∀ k o, ob' k = some o → (∃ j q, (j, q) ∈ exL us ∧ k = ν j ∧ o = q.ren ν) ∨ ((∀ j ∈ nmL us, ν j ≠ k) ∧ k ∉ (nmL ol).map θ ∧ ob k = some o) := by
    intro k o ho
    by_cases hex : ∃ j ∈ nmL us, ν j = k
    · obtain ⟨j, hj, rfl⟩ := hex
      obtain ⟨q, hq, rfl⟩ := hnm' hj
      have := hB1 q.1 q.2 hq
      rw [ho] at this
      exact .inl ⟨q.1, q.2, hq, rfl, Option.some.inj this⟩
    · have hno : ∀ j ∈ nmL us, ν j ≠ k := fun j hj e => hex ⟨j, hj, e⟩
      rw [hB2 k hno] at ho
      split at ho
      · cases ho
      · rename_i hk'; exact .inr ⟨hno, hk', ho⟩
  have hσk : ∀ k l, (∀ j ∈ nmL us, ν j ≠ k) → σ' k = some l → σ k = some l := by
    intro k l hno hk
    simp only [σ'] at hk
    split at hk
    · split at hk
      · rename_i hc; exact absurd hc.2 (hno _ hc.1)
      · cases hk
    · exact hk
  have hσs : ∀ k l, σ' k = some l → (∃ j ∈ nmL us, k = ν j ∧ σ2 j = some l) ∨ σ k = some l := by
    intro k l hk
    by_cases hex : ∃ j ∈ nmL us, ν j = k
    · obtain ⟨j, hj, rfl⟩ := hex
      rw [hσν j hj] at hk
      exact .inl ⟨j, hj, rfl, hk⟩
    · exact .inr (hσk k l (fun j hj e => hex ⟨j, hj, e⟩) hk)
  have hS' : ∀ j q, (j, q) ∈ exL us → S'.ob j = some q := fun j q hq => h2 (j, q) hq
  have himL : ∀ b, b < w.heap.size → imm ob σ b → imm ob' σ' b := by
    intro b hlt hb k o cp s ho hs
    rcases hcaseO k o ho with ⟨j, q, hq, rfl, rfl⟩ | ⟨hno, hk', hk⟩
    · rw [hσν j (hnm hq)] at hs
      exact hL.im_ b hlt (him b hb) j q cp s (hS' j q hq) hs
    · exact hb k o cp s hk (hσk k _ hno hs)
  have hLL : Later σ σ' (imm ob σ) (imm ob' σ') w w' := ⟨hσo, himL, fun b hlt hb => hL.blk b hlt (him b hb), hL.size⟩
  -- blocks of the caller's other objects
  have hoth : ∀ k o b cp s, k ∉ (nmL ol).map θ → ob k = some o → σ k = some (.at_ b cp s) → imm (mkOb (someL ol)) σ0 b := by
    intro k o b cp s hk ho hs j o' cp' s' ho' hs'
    obtain ⟨d, hs'⟩ := hσ1 j _ hs'
    obtain ⟨o2, h⟩ := hold j d
    exact hk (List.mem_map.2 ⟨j, d, hM.inj (θ j) k b cp' s' cp s _ o h ho hs' hs⟩)
  have hback : ∀ j q, (j, q) ∈ exL us → ∀ l, σ' (ν j) = some l → q.Rep w0.heap.size σ2 (imm S'.ob σ2) w' l := fun j q hq l hl => hM2.obs j q l (hS' j q hq) (by rw [← hσν j (hnm hq)]; exact hl)
  have fin : Goes G w0 ob' (fun n => K n ∨ n = i.2) σ (imm ob σ) w (v.ren ν) u w' := by
    refine ⟨σ', hLL, ⟨hM2.below, hM.inv, fun k l hk => ?_, fun k b cp s hk => ?_, fun k b cp s hk => ?_, fun k1 k2 b cp s cp' s' o o' hk1 hk2 e1 e2 => ?_, fun k o l ho hl => ?_⟩, ren_fwd hσν v u hv hu⟩
    · by_cases e : k.2 = i.2
      · exact .inr e
      · simp only [σ', if_neg e] at hk
        exact .inl (hM.gen k l hk)
    · rcases hσs k _ hk with ⟨j, _, _, h⟩ | h
      · exact hM2.lt j b cp s h
      · exact ⟨(hM.lt k b cp s h).1, Nat.lt_of_lt_of_le (hM.lt k b cp s h).2 hL.size⟩
    · rcases hσs k _ hk with ⟨j, _, _, h⟩ | h
      · exact hM2.cap j b cp s h
      · exact hM.cap k b cp s h
    · rcases hcaseO k1 o hk1 with ⟨j1, q1, m1, rfl, rfl⟩ | ⟨n1, p1, r1⟩ <;> rcases hcaseO k2 o' hk2 with ⟨j2, q2, m2, rfl, rfl⟩ | ⟨n2, p2, r2⟩
      · rw [hσν j1 (hnm m1)] at e1
        rw [hσν j2 (hnm m2)] at e2
        rw [hM2.inj j1 j2 b cp s cp' s' q1 q2 (hS' _ _ m1) (hS' _ _ m2) e1 e2]
      · rw [hσν j1 (hnm m1)] at e1
        have e2 := hσk k2 _ n2 e2
        have hb := hoth k2 o' b cp' s' p2 r2 e2
        exact absurd e1 (hL.im_ b (hM.lt k2 b cp' s' e2).2 hb j1 q1 cp s (hS' _ _ m1))
      · rw [hσν j2 (hnm m2)] at e2
        have e1 := hσk k1 _ n1 e1
        have hb := hoth k1 o b cp s p1 r1 e1
        exact absurd e2 (hL.im_ b (hM.lt k1 b cp s e1).2 hb j2 q2 cp' s' (hS' _ _ m2))
      · exact hM.inj k1 k2 b cp s cp' s' o o' r1 r2 (hσk k1 _ n1 e1) (hσk k2 _ n2 e2)
    · rcases hcaseO k o ho with ⟨j, q, hq, rfl, rfl⟩ | ⟨hno, hk', hk⟩
      · exact ob_fwd hσν (hus _ hq).2 (hback j q hq l hl)
      · have hl' := hσk k l hno hl
        refine (hM.obs k o l hk hl').later hLL fun b cp s el => ?_
        subst el
        exact hL.blk b (hM.lt k b cp s hl').2 (hoth k o b cp s hk' hk hl')
  rcases hend with rfl | rfl
  · exact ⟨hr.defers, u, hrun, u, rfl, fin⟩
  · exact ⟨hr.defers, u, hrun, u, rfl, fin⟩
end
end Go.Proofs.YtefolocdfgelcaaDoor
