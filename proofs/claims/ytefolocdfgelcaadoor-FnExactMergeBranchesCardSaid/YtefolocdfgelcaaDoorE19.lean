/- An abstract machine: steps, each by its own law; no condition. -/
import Derived.Test.YtefolocdfgelcaaDoorE18n
import Derived.KernelRfl
import Derived.IntWalk
namespace Go.Proofs.YtefolocdfgelcaaDoor
open Go.RowKit Go.Deep

section
variable {P : Program} {G : World → Prop}
theorem awp_seq_ {x y : AC} {R : AE → St → Prop} {S : St} (h : awp P G x (thenA (fun S' => awp P G y R S') R) S) : awp P G (.seq x y) R S := by
  unfold awp
  exact awp_mono (fun e S hq => by
    cases e with
    | normal => exact ⟨S, Weak.refl S, hq⟩
    | exit id => exact hq
    | ret => exact hq) h
theorem awp_seqv_ {x y : AC} {R : AE → St → Prop} {S : St} (h : awp P G x (thenA (fun S' => ∃ S'', Weak S' S'' ∧ awp P G y R S'') R) S) : awp P G (.seq x y) R S := h
/-- A sequence, where less is known behind its first part. -/
theorem awp_seqw_ {x y : AC} {R : AE → St → Prop} {S : St} (K : St → Prop) (h : awp P G x (thenA (fun S' => ∃ S'', Weak S' S'' ∧ K S'') R) S) (k : ∀ S'', K S'' → awp P G y R S'') : awp P G (.seq x y) R S := by
  unfold awp
  exact awp_mono (fun e S hq => by
    cases e with
    | normal => obtain ⟨S'', hw, hk⟩ := hq; exact ⟨S'', hw, k S'' hk⟩
    | exit id => exact hq
    | ret => exact hq) h
/-- Pairs of operations that may come up in either order. -/
def badB (rs : List Rec) (ds : List (List Oid)) : List (Nat × Nat) → Bool
  | [] => true
  | p :: ps => (let ri := rs.getD p.2 (0, .any, []); let rj := rs.getD p.1 (0, .any, []); let di := ds.getD p.2 []; let dj := ds.getD p.1 []
      ((!(ri.1 == 2) || rj.1 == 0) && (!(rj.1 == 2) || ri.1 == 0)) || ((!(ri.1 == 2) || ri.2.2.all fun u => !dj.contains u.1) && ((!(rj.1 == 2) || rj.2.2.all fun u => !di.contains u.1) && ri.2.2.all fun u => rj.2.2.all fun v => !(u.1 == v.1)))) && badB rs ds ps
theorem badB_spec {rs : List Rec} {ds : List (List Oid)} : ∀ {bad : List (Nat × Nat)}, badB rs ds bad = true → badP rs ds bad
  | [], _ => trivial
  | p :: ps, h => by
    simp only [badB, Bool.and_eq_true] at h
    refine ⟨?_, badB_spec h.2⟩
    have h1 := h.1
    simp only [Bool.or_eq_true, Bool.and_eq_true, Bool.not_eq_true', beq_eq_false_iff_ne, beq_iff_eq, List.all_eq_true, List.contains_eq_mem, decide_eq_false_iff_not] at h1
    unfold pairOK
    rcases h1 with ⟨a, b⟩ | ⟨a, b, c⟩
    · refine .inl ⟨fun e => ?_, fun e => ?_⟩
      · rcases a with a | a
        · exact absurd e a
        · exact a
      · rcases b with b | b
        · exact absurd e b
        · exact b
    · refine .inr ⟨fun e => ?_, fun e => ?_, c⟩
      · rcases a with a | a
        · exact absurd e a
        · exact a
      · rcases b with b | b
        · exact absurd e b
        · exact b
/-- A region's operations run, and what is wanted holds behind them. -/
def XW (P : Program) (G : World → Prop) (g k : Nat) (xs : List X) (tl : List (Nat × AV)) (ol : List (Oid × Option Ob)) (Kf : List (Nat × AV) → List (Oid × Option Ob) → Prop) : Prop :=
  ∃ rs tl' ol', RunX P G g k xs (mkTm tl) (mkOb ol) rs (mkTm tl') (mkOb ol') ∧ Kf tl' ol'
/-- The same where the order is drawn. -/
def XD (P : Program) (G : World → Prop) (bad : List (Nat × Nat)) (g k : Nat) (xs : List X) (tl : List (Nat × AV)) (ol : List (Oid × Option Ob)) (ra : List Rec) (da : List (List Oid)) (Kf : List (Nat × AV) → List (Oid × Option Ob) → Prop) : Prop :=
  ∃ rs ds tl' ol', RunD P G g k xs (mkTm tl) (mkOb ol) rs ds (mkTm tl') (mkOb ol') ∧ badP (ra.reverse ++ rs) (da.reverse ++ ds) bad ∧ Kf tl' ol'
theorem awp_region_ {xs : List X} {bad : List (Nat × Nat)} {R : AE → St → Prop} {tl : List (Nat × AV)} {ol : List (Oid × Option Ob)} {g : Nat} (g' : Nat) (h : XW P G g 0 xs tl ol fun tl' ol' => R .normal ⟨mkTm tl', mkOb ol', g'⟩) (hn : g + xs.length = g' := by kernel_rfl) : awp P G (.region xs false bad) R ⟨mkTm tl, mkOb ol, g⟩ := by
  obtain ⟨rs, tl', ol', h, hr⟩ := h
  exact ⟨rs, _, _, h, by subst hn; exact hr⟩
theorem awp_regionD_ {xs : List X} {bad : List (Nat × Nat)} {R : AE → St → Prop} {tl : List (Nat × AV)} {ol : List (Oid × Option Ob)} {g : Nat} (g' : Nat) (h : XD P G bad g 0 xs tl ol [] [] fun tl' ol' => R .normal ⟨mkTm tl', mkOb ol', g'⟩) (hn : g + xs.length = g' := by kernel_rfl) : awp P G (.region xs true bad) R ⟨mkTm tl, mkOb ol, g⟩ := by
  obtain ⟨rs, ds, tl', ol', h, hb, hr⟩ := h
  exact ⟨rs, ds, _, _, h, hb, by subst hn; exact hr⟩
theorem upd_mkTm (tl : List (Nat × AV)) (d : Nat) (v : AV) : upd (mkTm tl) d v = mkTm ((d, v) :: tl) := by
  funext i
  rfl
def exactO : Option Ob → Bool
  | some (.pool ..) => false
  | some (.mat ..) => false
  | _ => true
def exactU (us : List (Oid × Option Ob)) : Bool := us.all fun u => exactO u.2
theorem upd_mkOb {ol : List (Oid × Option Ob)} {j : Oid} {o : Option Ob} (h : exactO o = true) : upd (mkOb ol) j o = mkOb ((j, o) :: ol) := by
  cases o with
  | none => funext i; rfl
  | some o => cases o <;> first | (funext i; rfl) | cases h
theorem applyU_mkOb : ∀ (us ol : List (Oid × Option Ob)), exactU us = true → applyU us (mkOb ol) = mkOb (us.reverseAux ol)
  | [], _, _ => rfl
  | (j, o) :: us, ol, h => by
    simp only [exactU, List.all_cons, Bool.and_eq_true] at h
    show applyU us (upd (mkOb ol) j o) = _
    rw [upd_mkOb h.1]
    exact applyU_mkOb us _ h.2
theorem stepX_R {p : Bool} {n : Nat} {x : X} {f : Nat → AV} {ob : Oid → Option Ob} {r : Rec} (h : stepX n x f ob = some r) : StepR P G p n x f ob r := by
  unfold stepX at h
  unfold StepR
  split at h
  · exact .inl (.inl (.inl h))
  · split at h
    · rename_i hc
      exact ⟨true, hc, by rw [if_pos rfl]; exact .inl (.inl (.inl h))⟩
    · rename_i hc
      exact ⟨false, hc, by rw [if_neg (by simp)]; exact (Option.some.inj h).symm⟩
    · cases h
/-- A call is wanted. -/
def gdOK (gd : Option (Nat × Bool)) (f : Nat → AV) : Prop :=
  match gd with
  | none => True
  | some (s, c) => f s = .bool c
theorem gdOK_v {s : Nat} {b : Bool} {f : Nat → AV} (h : gdOK (some (s, b)) f) : gdv (f s) b = some true := by
  rw [show f s = .bool b from h]; simp [gdv]
theorem gdOK_b {s : Nat} {b c : Bool} {f : Nat → AV} (h : f s = .bool c) (hc : c = b) : gdOK (some (s, b)) f := by subst hc; exact h
theorem callX_R {p : Bool} {n : Nat} {d : Option Nat} {gd : Option (Nat × Bool)} {fo : Opd} {xs : List Opd} {tys : List (List (Option Ty))} {f : Nat → AV} {ob : Oid → Option Ob} {F : FuncId} {caps args0 args : List AV} {rv : RV} {r : AV × List (Oid × Option Ob)}
    (hgd : gdOK gd f) (hfo : fo.ev f = .fn F caps) (h1 : mapO (gnd ob 8) ((xs ++ caps.map Opd.cst).map (Opd.ev f)) = some args0) (hn : nilTL tys args0 = args) (hb : hasBody P F = true) (hc : CallOK P G F args rv) (hr : rv.out (mkId ((d.getD 0, 0), n)) ((xs ++ caps.map Opd.cst).map (Opd.ev f)) = r) :
    StepR P G p n ⟨d, gd, .call fo xs tys⟩ f ob (1, r.1, r.2) := by
  subst hn
  have key : EvR P G p f ob ((d.getD 0, 0), n) (.call fo xs tys) (1, r.1, r.2) := .inr ⟨fo, xs, tys, F, caps, rfl, hfo, .inl ⟨rfl, hb, args0, rv, h1, hc, hr⟩⟩
  unfold StepR
  cases gd with
  | none => exact key
  | some sb => exact ⟨true, gdOK_v hgd, by rw [if_pos rfl]; exact key⟩
theorem callN_R {n : Nat} {d : Option Nat} {gd : Option (Nat × Bool)} {fo : Opd} {xs : List Opd} {tys : List (List (Option Ty))} {f : Nat → AV} {ob : Oid → Option Ob} {F : FuncId} {caps zs args : List AV} {v : AV} {ol us : List (Oid × Ob)} (θ : Oid → Oid)
    (hgd : gdOK gd f) (hfo : fo.ev f = .fn F caps) (hz : (xs ++ caps.map Opd.cst).map (Opd.ev f) = zs) (h1 : ArgRL θ (less ((nmL ol).map θ) ob) zs args) (h2 : ∀ q ∈ exL ol, ob (θ q.1) = some (q.2.ren θ)) (h3 : ∀ q ∈ exL ol, ∀ q' ∈ exL ol, θ q.1 = θ q'.1 → q.1 = q'.1) (h4 : ∀ j ∈ nmL ol, Reached zs ob (θ j))
    (h5 : ∀ q ∈ exL us, q.1.2 = 1 ∨ (q.1.2 = 0 ∧ q.1 ∈ nmL ol)) (hb : hasBody P F = true) (hc : CallM P G F args ol v us) :
    StepR P G false n ⟨d, gd, .call fo xs tys⟩ f ob (2, v.ren (newN θ ((d.getD 0, 0), n)), updM θ ((d.getD 0, 0), n) ol us) := by
  have hN : CallN P G f ob ((d.getD 0, 0), n) F (xs ++ caps.map Opd.cst) (v.ren (newN θ ((d.getD 0, 0), n)), updM θ ((d.getD 0, 0), n) ol us) := by
    rw [← hz] at h1 h4
    refine ⟨hb, θ, args, ol, us, v, h1, h2, fun j k hj hk e => ?_, h4, hc, fun j hj => ?_, rfl⟩
    · obtain ⟨q, hq, rfl⟩ := List.mem_map.1 hj
      obtain ⟨q', hq', rfl⟩ := List.mem_map.1 hk
      exact h3 q hq q' hq' e
    · obtain ⟨q, hq, rfl⟩ := List.mem_map.1 hj
      rcases h5 q hq with h | ⟨_, h⟩
      · exact .inl (by rw [h]; decide)
      · exact .inr h
  have key : EvR P G false f ob ((d.getD 0, 0), n) (.call fo xs tys) (2, v.ren (newN θ ((d.getD 0, 0), n)), updM θ ((d.getD 0, 0), n) ol us) := .inr ⟨fo, xs, tys, F, caps, rfl, hfo, .inr ⟨rfl, rfl, hN⟩⟩
  unfold StepR
  cases gd with
  | none => exact key
  | some sb => exact ⟨true, gdOK_v hgd, by rw [if_pos rfl]; exact key⟩
/-- A literal of things; a row of rows that is made. -/
theorem mkV_R {n : Nat} {d : Option Nat} {gd : Option (Nat × Bool)} {q : Q} {f : Nat → AV} {ob : Oid → Option Ob} {r : Rec} (hgd : gdOK gd f) (h : evL f ((d.getD 0, 0), n) q = some r) : StepR P G false n ⟨d, gd, q⟩ f ob r := by
  have key : EvR P G false f ob ((d.getD 0, 0), n) q r := .inl (.inl (.inr h))
  unfold StepR
  cases gd with
  | none => exact key
  | some sb => exact ⟨true, gdOK_v hgd, by rw [if_pos rfl]; exact key⟩
theorem makeM_R {n : Nat} {d : Option Nat} {gd : Option (Nat × Bool)} {q : Q} {f : Nat → AV} {ob : Oid → Option Ob} {r : Rec} (hgd : gdOK gd f) (h : MakeM f ((d.getD 0, 0), n) q r) : StepR P G false n ⟨d, gd, q⟩ f ob r := by
  have key : EvR P G false f ob ((d.getD 0, 0), n) q r := .inl (.inr h)
  unfold StepR
  cases gd with
  | none => exact key
  | some sb => exact ⟨true, gdOK_v hgd, by rw [if_pos rfl]; exact key⟩
theorem rnil {g k : Nat} {tl : List (Nat × AV)} {ol : List (Oid × Option Ob)} {Kf : List (Nat × AV) → List (Oid × Option Ob) → Prop} (h : Kf tl ol) : XW P G g k [] tl ol Kf := ⟨[], tl, ol, ⟨rfl, rfl, rfl⟩, h⟩
theorem dnil {bad : List (Nat × Nat)} {g k : Nat} {tl : List (Nat × AV)} {ol : List (Oid × Option Ob)} {ra : List Rec} {da : List (List Oid)} {Kf : List (Nat × AV) → List (Oid × Option Ob) → Prop} (hb : badP (ra.reverse ++ []) (da.reverse ++ []) bad) (h : Kf tl ol) : XD P G bad g k [] tl ol ra da Kf := ⟨[], [], tl, ol, ⟨rfl, rfl, rfl, rfl⟩, hb, h⟩
section
variable {g k d : Nat} {gd : Option (Nat × Bool)} {q : Q} {xs : List X} {tl : List (Nat × AV)} {ol : List (Oid × Option Ob)} {bad : List (Nat × Nat)} {ra : List Rec} {da : List (List Oid)} {Kf : List (Nat × AV) → List (Oid × Option Ob) → Prop}
theorem rstepE (c : Nat) (v : AV) (us ol' : List (Oid × Option Ob)) (h : StepR P G false (g + k) ⟨some d, gd, q⟩ (mkTm tl) (mkOb ol) (c, v, us)) (he : applyU us (mkOb ol) = mkOb ol') (h3 : XW P G g (k + 1) xs ((d, v) :: tl) ol' Kf) : XW P G g k (⟨some d, gd, q⟩ :: xs) tl ol Kf :=
  by
  obtain ⟨rs, tl', ol', h3, hk⟩ := h3
  exact ⟨_, tl', ol', ⟨_, _, rfl, h, by simp only [putT, upd_mkTm, he]; exact h3⟩, hk⟩
theorem rstepnE (c : Nat) (v : AV) (us ol' : List (Oid × Option Ob)) (h : StepR P G false (g + k) ⟨none, gd, q⟩ (mkTm tl) (mkOb ol) (c, v, us)) (he : applyU us (mkOb ol) = mkOb ol') (h3 : XW P G g (k + 1) xs tl ol' Kf) : XW P G g k (⟨none, gd, q⟩ :: xs) tl ol Kf :=
  by
  obtain ⟨rs, tl', ol', h3, hk⟩ := h3
  exact ⟨_, tl', ol', ⟨_, _, rfl, h, by simp only [putT, he]; exact h3⟩, hk⟩
theorem dstepE (c : Nat) (v : AV) (us ol' : List (Oid × Option Ob)) (h : StepR P G false (g + k) ⟨some d, gd, q⟩ (mkTm tl) (only (rdX (mkTm tl) (mkOb ol) ⟨some d, gd, q⟩) (mkOb ol)) (c, v, us)) (he : applyU us (mkOb ol) = mkOb ol') (h3 : XD P G bad g (k + 1) xs ((d, v) :: tl) ol' ((c, v, us) :: ra) ((rdX (mkTm tl) (mkOb ol) ⟨some d, gd, q⟩) :: da) Kf) : XD P G bad g k (⟨some d, gd, q⟩ :: xs) tl ol ra da Kf :=
  by
  obtain ⟨rs, ds, tl', ol', h3, hb, hk⟩ := h3
  refine ⟨_, _, tl', ol', ⟨_, rs, ds, rfl, rfl, h, by simp only [putT, upd_mkTm, he]; exact h3⟩, ?_, hk⟩
  simpa using hb
theorem dstepnE (c : Nat) (v : AV) (us ol' : List (Oid × Option Ob)) (h : StepR P G false (g + k) ⟨none, gd, q⟩ (mkTm tl) (only (rdX (mkTm tl) (mkOb ol) ⟨none, gd, q⟩) (mkOb ol)) (c, v, us)) (he : applyU us (mkOb ol) = mkOb ol') (h3 : XD P G bad g (k + 1) xs tl ol' ((c, v, us) :: ra) ((rdX (mkTm tl) (mkOb ol) ⟨none, gd, q⟩) :: da) Kf) : XD P G bad g k (⟨none, gd, q⟩ :: xs) tl ol ra da Kf :=
  by
  obtain ⟨rs, ds, tl', ol', h3, hb, hk⟩ := h3
  refine ⟨_, _, tl', ol', ⟨_, rs, ds, rfl, rfl, h, by simp only [putT, he]; exact h3⟩, ?_, hk⟩
  simpa using hb
theorem rstep (c : Nat) (v : AV) (us : List (Oid × Option Ob)) (h : StepR P G false (g + k) ⟨some d, gd, q⟩ (mkTm tl) (mkOb ol) (c, v, us)) (h3 : XW P G g (k + 1) xs ((d, v) :: tl) (us.reverseAux ol) Kf) (hx : exactU us = true) : XW P G g k (⟨some d, gd, q⟩ :: xs) tl ol Kf := rstepE c v us _ h (applyU_mkOb us ol hx) h3
theorem rstepn (c : Nat) (v : AV) (us : List (Oid × Option Ob)) (h : StepR P G false (g + k) ⟨none, gd, q⟩ (mkTm tl) (mkOb ol) (c, v, us)) (h3 : XW P G g (k + 1) xs tl (us.reverseAux ol) Kf) (hx : exactU us = true) : XW P G g k (⟨none, gd, q⟩ :: xs) tl ol Kf := rstepnE c v us _ h (applyU_mkOb us ol hx) h3
theorem dstep (c : Nat) (v : AV) (us : List (Oid × Option Ob)) (h : StepR P G false (g + k) ⟨some d, gd, q⟩ (mkTm tl) (only (rdX (mkTm tl) (mkOb ol) ⟨some d, gd, q⟩) (mkOb ol)) (c, v, us)) (h3 : XD P G bad g (k + 1) xs ((d, v) :: tl) (us.reverseAux ol) ((c, v, us) :: ra) ((rdX (mkTm tl) (mkOb ol) ⟨some d, gd, q⟩) :: da) Kf) (hx : exactU us = true) : XD P G bad g k (⟨some d, gd, q⟩ :: xs) tl ol ra da Kf := dstepE c v us _ h (applyU_mkOb us ol hx) h3
theorem dstepn (c : Nat) (v : AV) (us : List (Oid × Option Ob)) (h : StepR P G false (g + k) ⟨none, gd, q⟩ (mkTm tl) (only (rdX (mkTm tl) (mkOb ol) ⟨none, gd, q⟩) (mkOb ol)) (c, v, us)) (h3 : XD P G bad g (k + 1) xs tl (us.reverseAux ol) ((c, v, us) :: ra) ((rdX (mkTm tl) (mkOb ol) ⟨none, gd, q⟩) :: da) Kf) (hx : exactU us = true) : XD P G bad g k (⟨none, gd, q⟩ :: xs) tl ol ra da Kf := dstepnE c v us _ h (applyU_mkOb us ol hx) h3
/-- Lists that say the same. -/
theorem xw_ob {ol' : List (Oid × Option Ob)} (he : mkOb ol = mkOb ol') (h : XW P G g k xs tl ol' Kf) : XW P G g k xs tl ol Kf := by
  obtain ⟨rs, tl', ol2, h1, h2⟩ := h
  exact ⟨rs, tl', ol2, by rw [he]; exact h1, h2⟩
theorem xd_ob {ol' : List (Oid × Option Ob)} (he : mkOb ol = mkOb ol') (h : XD P G bad g k xs tl ol' ra da Kf) : XD P G bad g k xs tl ol ra da Kf := by
  obtain ⟨rs, ds, tl', ol2, h1, h2⟩ := h
  exact ⟨rs, ds, tl', ol2, by rw [he]; exact h1, h2⟩
-- the shape of most steps: what the machine says is found by reckoning
theorem rs0 (v : AV) (h : stepX (g + k) ⟨some d, gd, q⟩ (mkTm tl) (mkOb ol) = some (0, v, [])) (h3 : XW P G g (k + 1) xs ((d, v) :: tl) ol Kf) : XW P G g k (⟨some d, gd, q⟩ :: xs) tl ol Kf := rstep 0 v [] (stepX_R h) h3 rfl
theorem rsl (v : AV) (h : stepX (g + k) ⟨some d, gd, q⟩ (mkTm tl) (mkOb ol) = some (1, v, [])) (h3 : XW P G g (k + 1) xs ((d, v) :: tl) ol Kf) : XW P G g k (⟨some d, gd, q⟩ :: xs) tl ol Kf := rstep 1 v [] (stepX_R h) h3 rfl
theorem rs1 (v : AV) (i : Oid) (o : Ob) (h : stepX (g + k) ⟨some d, gd, q⟩ (mkTm tl) (mkOb ol) = some (1, v, [(i, some o)])) (h3 : XW P G g (k + 1) xs ((d, v) :: tl) ((i, some o) :: ol) Kf) (hx : exactO (some o) = true := by rfl) : XW P G g k (⟨some d, gd, q⟩ :: xs) tl ol Kf := rstep 1 v _ (stepX_R h) h3 (by simp only [exactU, List.all_cons, List.all_nil, hx]; rfl)
theorem rs2 (v : AV) (j i : Oid) (o : Ob) (h : stepX (g + k) ⟨some d, gd, q⟩ (mkTm tl) (mkOb ol) = some (2, v, [(j, none), (i, some o)])) (h3 : XW P G g (k + 1) xs ((d, v) :: tl) ((i, some o) :: (j, none) :: ol) Kf) (hx : exactO (some o) = true := by rfl) : XW P G g k (⟨some d, gd, q⟩ :: xs) tl ol Kf := rstep 2 v _ (stepX_R h) h3 (by simp only [exactU, List.all_cons, List.all_nil, hx]; rfl)
theorem rsn0 {v : AV} (h : stepX (g + k) ⟨none, gd, q⟩ (mkTm tl) (mkOb ol) = some (0, v, [])) (h3 : XW P G g (k + 1) xs tl ol Kf) : XW P G g k (⟨none, gd, q⟩ :: xs) tl ol Kf := rstepn 0 _ [] (stepX_R h) h3 rfl
theorem rsn2 (j i : Oid) (o : Ob) (h : stepX (g + k) ⟨none, gd, q⟩ (mkTm tl) (mkOb ol) = some (2, .any, [(j, none), (i, some o)])) (h3 : XW P G g (k + 1) xs tl ((i, some o) :: (j, none) :: ol) Kf) (hx : exactO (some o) = true := by rfl) : XW P G g k (⟨none, gd, q⟩ :: xs) tl ol Kf := rstepn 2 _ _ (stepX_R h) h3 (by simp only [exactU, List.all_cons, List.all_nil, hx]; rfl)
theorem ds0 (v : AV) (h : stepX (g + k) ⟨some d, gd, q⟩ (mkTm tl) (only (rdX (mkTm tl) (mkOb ol) ⟨some d, gd, q⟩) (mkOb ol)) = some (0, v, [])) (h3 : XD P G bad g (k + 1) xs ((d, v) :: tl) ol ((0, v, []) :: ra) ((rdX (mkTm tl) (mkOb ol) ⟨some d, gd, q⟩) :: da) Kf) : XD P G bad g k (⟨some d, gd, q⟩ :: xs) tl ol ra da Kf := dstep 0 v [] (stepX_R h) h3 rfl
theorem dsl (v : AV) (h : stepX (g + k) ⟨some d, gd, q⟩ (mkTm tl) (only (rdX (mkTm tl) (mkOb ol) ⟨some d, gd, q⟩) (mkOb ol)) = some (1, v, [])) (h3 : XD P G bad g (k + 1) xs ((d, v) :: tl) ol ((1, v, []) :: ra) ((rdX (mkTm tl) (mkOb ol) ⟨some d, gd, q⟩) :: da) Kf) : XD P G bad g k (⟨some d, gd, q⟩ :: xs) tl ol ra da Kf := dstep 1 v [] (stepX_R h) h3 rfl
theorem ds1 (v : AV) (i : Oid) (o : Ob) (h : stepX (g + k) ⟨some d, gd, q⟩ (mkTm tl) (only (rdX (mkTm tl) (mkOb ol) ⟨some d, gd, q⟩) (mkOb ol)) = some (1, v, [(i, some o)])) (h3 : XD P G bad g (k + 1) xs ((d, v) :: tl) ((i, some o) :: ol) ((1, v, [(i, some o)]) :: ra) ((rdX (mkTm tl) (mkOb ol) ⟨some d, gd, q⟩) :: da) Kf) (hx : exactO (some o) = true := by rfl) : XD P G bad g k (⟨some d, gd, q⟩ :: xs) tl ol ra da Kf := dstep 1 v _ (stepX_R h) h3 (by simp only [exactU, List.all_cons, List.all_nil, hx]; rfl)
theorem ds2 (v : AV) (j i : Oid) (o : Ob) (h : stepX (g + k) ⟨some d, gd, q⟩ (mkTm tl) (only (rdX (mkTm tl) (mkOb ol) ⟨some d, gd, q⟩) (mkOb ol)) = some (2, v, [(j, none), (i, some o)])) (h3 : XD P G bad g (k + 1) xs ((d, v) :: tl) ((i, some o) :: (j, none) :: ol) ((2, v, [(j, none), (i, some o)]) :: ra) ((rdX (mkTm tl) (mkOb ol) ⟨some d, gd, q⟩) :: da) Kf) (hx : exactO (some o) = true := by rfl) : XD P G bad g k (⟨some d, gd, q⟩ :: xs) tl ol ra da Kf := dstep 2 v _ (stepX_R h) h3 (by simp only [exactU, List.all_cons, List.all_nil, hx]; rfl)
theorem dsn0 {v : AV} (h : stepX (g + k) ⟨none, gd, q⟩ (mkTm tl) (only (rdX (mkTm tl) (mkOb ol) ⟨none, gd, q⟩) (mkOb ol)) = some (0, v, [])) (h3 : XD P G bad g (k + 1) xs tl ol ((0, v, []) :: ra) ((rdX (mkTm tl) (mkOb ol) ⟨none, gd, q⟩) :: da) Kf) : XD P G bad g k (⟨none, gd, q⟩ :: xs) tl ol ra da Kf := dstepn 0 _ [] (stepX_R h) h3 rfl
theorem dsn2 (j i : Oid) (o : Ob) (h : stepX (g + k) ⟨none, gd, q⟩ (mkTm tl) (only (rdX (mkTm tl) (mkOb ol) ⟨none, gd, q⟩) (mkOb ol)) = some (2, .any, [(j, none), (i, some o)])) (h3 : XD P G bad g (k + 1) xs tl ((i, some o) :: (j, none) :: ol) ((2, .any, [(j, none), (i, some o)]) :: ra) ((rdX (mkTm tl) (mkOb ol) ⟨none, gd, q⟩) :: da) Kf) (hx : exactO (some o) = true := by rfl) : XD P G bad g k (⟨none, gd, q⟩ :: xs) tl ol ra da Kf := dstepn 2 _ _ (stepX_R h) h3 (by simp only [exactU, List.all_cons, List.all_nil, hx]; rfl)
section
variable {fo : Opd} {ys : List Opd} {tys : List (List (Option Ty))} {F : FuncId} {caps : List AV} {rv : RV} {args0 : List AV}
theorem rcall (v : AV) (us : List (Oid × Option Ob)) (zs args : List AV) (hgd : gdOK gd (mkTm tl)) (h1 : mapO (gnd (mkOb ol) 8) zs = some args0) (hc : CallOK P G F args rv) (hb : hasBody P F = true) (h3 : XW P G g (k + 1) xs ((d, v) :: tl) (us.reverseAux ol) Kf) (hfo : fo.ev (mkTm tl) = .fn F caps := by kernel_rfl) (hz : (ys ++ caps.map Opd.cst).map (Opd.ev (mkTm tl)) = zs := by kernel_rfl) (hn : nilTL tys args0 = args := by kernel_rfl) (hr : rv.out (mkId ((d, 0), g + k)) zs = (v, us) := by kernel_rfl) (hx : exactU us = true := by rfl) : XW P G g k (⟨some d, gd, .call fo ys tys⟩ :: xs) tl ol Kf := by
  subst hz
  exact rstep 1 v us (callX_R (P := P) (G := G) (p := false) (n := g + k) (d := some d) hgd hfo h1 hn hb hc hr) h3 hx
theorem dcall (v : AV) (us : List (Oid × Option Ob)) (zs args : List AV) (hgd : gdOK gd (mkTm tl)) (h1 : mapO (gnd (only (rdX (mkTm tl) (mkOb ol) ⟨some d, gd, .call fo ys tys⟩) (mkOb ol)) 8) zs = some args0) (hc : CallOK P G F args rv) (hb : hasBody P F = true) (h3 : XD P G bad g (k + 1) xs ((d, v) :: tl) (us.reverseAux ol) ((1, v, us) :: ra) ((rdX (mkTm tl) (mkOb ol) ⟨some d, gd, .call fo ys tys⟩) :: da) Kf) (hfo : fo.ev (mkTm tl) = .fn F caps := by kernel_rfl) (hz : (ys ++ caps.map Opd.cst).map (Opd.ev (mkTm tl)) = zs := by kernel_rfl) (hn : nilTL tys args0 = args := by kernel_rfl) (hr : rv.out (mkId ((d, 0), g + k)) zs = (v, us) := by kernel_rfl) (hx : exactU us = true := by rfl) : XD P G bad g k (⟨some d, gd, .call fo ys tys⟩ :: xs) tl ol ra da Kf := by
  subst hz
  exact dstep 1 v us (callX_R (P := P) (G := G) (p := false) (n := g + k) (d := some d) hgd hfo h1 hn hb hc hr) h3 hx
/-- What a call that is given objects wants to be so. -/
def callB (l : List (Oid × Oid)) (ol us : List (Oid × Ob)) (n : Nat) (ol0 : List (Oid × Option Ob)) : Bool := keys0 l && (base0 ol && (inj0 (renF l) ol && (newB ol us && noGen n ol0)))
theorem callB_ex {l : List (Oid × Oid)} {ol us : List (Oid × Ob)} {n : Nat} {ol0 : List (Oid × Option Ob)} (h : callB l ol us n ol0 = true) (hR : ObsR ol0 (renF l) ol) :
    (∀ q ∈ exL ol, mkOb ol0 (renF l q.1) = some (q.2.ren (renF l))) ∧ (∀ q ∈ exL ol, ∀ q' ∈ exL ol, renF l q.1 = renF l q'.1 → q.1 = q'.1) ∧ (∀ q ∈ exL us, q.1.2 = 1 ∨ (q.1.2 = 0 ∧ q.1 ∈ nmL ol)) ∧ ∀ i : Oid, i.2 = n → applyU (updM (renF l) i ol us) (mkOb ol0) = mkOb (someL (renE (newN (renF l) i) us) ++ (killE (renF l) ol ++ ol0)) := by
  simp only [callB, Bool.and_eq_true] at h
  obtain ⟨c1, c2, c3, c4, c5⟩ := h
  refine ⟨obsR_ex c1 hR (base0_pl c2), ex_inj (fun p e u xss hm k => renF_kid c1 ?_ k) c3 c2, newB_ex c4, fun i hi => upd_list c1 c2 hR c4 (by rw [hi]; exact c5) c3⟩
  unfold base0 at c2
  rw [List.all_eq_true] at c2
  have := c2 _ hm
  simp only [Bool.and_eq_true, beq_iff_eq] at this
  exact this.1
theorem rcallM (v : AV) (ul : List (Oid × Option Ob)) (l : List (Oid × Oid)) (zs : List AV) {args : List AV} {ol0 us : List (Oid × Ob)} {v0 : AV} (hgd : gdOK gd (mkTm tl)) (hc : CallM P G F args ol0 v0 us) (hb : hasBody P F = true) (hR : ObsR ol (renF l) ol0) (h1 : ArgRL (renF l) (less ((nmL ol0).map (renF l)) (mkOb ol)) zs args) (h4 : ∀ j ∈ nmL ol0, Reached zs (mkOb ol) (renF l j)) (h3 : XW P G g (k + 1) xs ((d, v) :: tl) (ul ++ ol) Kf) (hfo : fo.ev (mkTm tl) = .fn F caps := by kernel_rfl) (hz : (ys ++ caps.map Opd.cst).map (Opd.ev (mkTm tl)) = zs := by kernel_rfl) (hB : callB l ol0 us (g + k) ol = true := by kernel_rfl) (hv : v0.ren (newN (renF l) ((d, 0), g + k)) = v := by kernel_rfl) (hu : someL (renE (newN (renF l) ((d, 0), g + k)) us) ++ killE (renF l) ol0 = ul := by kernel_rfl) : XW P G g k (⟨some d, gd, .call fo ys tys⟩ :: xs) tl ol Kf := by
  subst hv hu
  obtain ⟨q1, q2, q3, q4⟩ := callB_ex hB hR
  exact rstepE 2 _ _ _ (callN_R (n := g + k) (d := some d) (renF l) hgd hfo hz h1 q1 q2 h4 q3 hb hc) (q4 ((d, 0), g + k) rfl) (by rw [List.append_assoc] at h3; exact h3)
theorem rcallMn (v : AV) (ul : List (Oid × Option Ob)) (l : List (Oid × Oid)) (zs : List AV) {args : List AV} {ol0 us : List (Oid × Ob)} {v0 : AV} (hgd : gdOK gd (mkTm tl)) (hc : CallM P G F args ol0 v0 us) (hb : hasBody P F = true) (hR : ObsR ol (renF l) ol0) (h1 : ArgRL (renF l) (less ((nmL ol0).map (renF l)) (mkOb ol)) zs args) (h4 : ∀ j ∈ nmL ol0, Reached zs (mkOb ol) (renF l j)) (h3 : XW P G g (k + 1) xs tl (ul ++ ol) Kf) (hfo : fo.ev (mkTm tl) = .fn F caps := by kernel_rfl) (hz : (ys ++ caps.map Opd.cst).map (Opd.ev (mkTm tl)) = zs := by kernel_rfl) (hB : callB l ol0 us (g + k) ol = true := by kernel_rfl) (hv : v0.ren (newN (renF l) ((0, 0), g + k)) = v := by kernel_rfl) (hu : someL (renE (newN (renF l) ((0, 0), g + k)) us) ++ killE (renF l) ol0 = ul := by kernel_rfl) : XW P G g k (⟨none, gd, .call fo ys tys⟩ :: xs) tl ol Kf := by
  subst hv hu
  obtain ⟨q1, q2, q3, q4⟩ := callB_ex hB hR
  exact rstepnE 2 _ _ _ (callN_R (n := g + k) (d := none) (renF l) hgd hfo hz h1 q1 q2 h4 q3 hb hc) (q4 ((0, 0), g + k) rfl) (by rw [List.append_assoc] at h3; exact h3)
theorem dcallM (v : AV) (ul : List (Oid × Option Ob)) (l : List (Oid × Oid)) (zs : List AV) {args : List AV} {ol0 us : List (Oid × Ob)} {v0 : AV} (hgd : gdOK gd (mkTm tl)) (hc : CallM P G F args ol0 v0 us) (hb : hasBody P F = true) (hR : ObsR ol (renF l) ol0) (h1 : ArgRL (renF l) (less ((nmL ol0).map (renF l)) (only (rdX (mkTm tl) (mkOb ol) ⟨some d, gd, .call fo ys tys⟩) (mkOb ol))) zs args) (h4 : ∀ j ∈ nmL ol0, Reached zs (only (rdX (mkTm tl) (mkOb ol) ⟨some d, gd, .call fo ys tys⟩) (mkOb ol)) (renF l j)) (hd : ∀ q ∈ exL ol0, renF l q.1 ∈ rdX (mkTm tl) (mkOb ol) ⟨some d, gd, .call fo ys tys⟩) (h3 : XD P G bad g (k + 1) xs ((d, v) :: tl) (ul ++ ol) ((2, v, updM (renF l) ((d, 0), g + k) ol0 us) :: ra) ((rdX (mkTm tl) (mkOb ol) ⟨some d, gd, .call fo ys tys⟩) :: da) Kf) (hfo : fo.ev (mkTm tl) = .fn F caps := by kernel_rfl) (hz : (ys ++ caps.map Opd.cst).map (Opd.ev (mkTm tl)) = zs := by kernel_rfl) (hB : callB l ol0 us (g + k) ol = true := by kernel_rfl) (hv : v0.ren (newN (renF l) ((d, 0), g + k)) = v := by kernel_rfl) (hu : someL (renE (newN (renF l) ((d, 0), g + k)) us) ++ killE (renF l) ol0 = ul := by kernel_rfl) : XD P G bad g k (⟨some d, gd, .call fo ys tys⟩ :: xs) tl ol ra da Kf := by
  subst hv hu
  obtain ⟨q1, q2, q3, q4⟩ := callB_ex hB hR
  exact dstepE 2 _ _ _ (callN_R (n := g + k) (d := some d) (renF l) hgd hfo hz h1 (fun q hq => by unfold only; rw [if_pos (hd q hq)]; exact q1 q hq) q2 h4 q3 hb hc) (q4 ((d, 0), g + k) rfl) (by rw [List.append_assoc] at h3; exact h3)
theorem dcallMn (v : AV) (ul : List (Oid × Option Ob)) (l : List (Oid × Oid)) (zs : List AV) {args : List AV} {ol0 us : List (Oid × Ob)} {v0 : AV} (hgd : gdOK gd (mkTm tl)) (hc : CallM P G F args ol0 v0 us) (hb : hasBody P F = true) (hR : ObsR ol (renF l) ol0) (h1 : ArgRL (renF l) (less ((nmL ol0).map (renF l)) (only (rdX (mkTm tl) (mkOb ol) ⟨none, gd, .call fo ys tys⟩) (mkOb ol))) zs args) (h4 : ∀ j ∈ nmL ol0, Reached zs (only (rdX (mkTm tl) (mkOb ol) ⟨none, gd, .call fo ys tys⟩) (mkOb ol)) (renF l j)) (hd : ∀ q ∈ exL ol0, renF l q.1 ∈ rdX (mkTm tl) (mkOb ol) ⟨none, gd, .call fo ys tys⟩) (h3 : XD P G bad g (k + 1) xs tl (ul ++ ol) ((2, v, updM (renF l) ((0, 0), g + k) ol0 us) :: ra) ((rdX (mkTm tl) (mkOb ol) ⟨none, gd, .call fo ys tys⟩) :: da) Kf) (hfo : fo.ev (mkTm tl) = .fn F caps := by kernel_rfl) (hz : (ys ++ caps.map Opd.cst).map (Opd.ev (mkTm tl)) = zs := by kernel_rfl) (hB : callB l ol0 us (g + k) ol = true := by kernel_rfl) (hv : v0.ren (newN (renF l) ((0, 0), g + k)) = v := by kernel_rfl) (hu : someL (renE (newN (renF l) ((0, 0), g + k)) us) ++ killE (renF l) ol0 = ul := by kernel_rfl) : XD P G bad g k (⟨none, gd, .call fo ys tys⟩ :: xs) tl ol ra da Kf := by
  subst hv hu
  obtain ⟨q1, q2, q3, q4⟩ := callB_ex hB hR
  exact dstepnE 2 _ _ _ (callN_R (n := g + k) (d := none) (renF l) hgd hfo hz h1 (fun q hq => by unfold only; rw [if_pos (hd q hq)]; exact q1 q hq) q2 h4 q3 hb hc) (q4 ((0, 0), g + k) rfl) (by rw [List.append_assoc] at h3; exact h3)
theorem rsU (v : AV) (us : List (Oid × Option Ob)) (h : stepX (g + k) ⟨some d, gd, q⟩ (mkTm tl) (mkOb ol) = some (2, v, us)) (h3 : XW P G g (k + 1) xs ((d, v) :: tl) (us.reverseAux ol) Kf) (hx : exactU us = true := by rfl) : XW P G g k (⟨some d, gd, q⟩ :: xs) tl ol Kf := rstep 2 v us (stepX_R h) h3 hx
theorem dsU (v : AV) (us : List (Oid × Option Ob)) (h : stepX (g + k) ⟨some d, gd, q⟩ (mkTm tl) (only (rdX (mkTm tl) (mkOb ol) ⟨some d, gd, q⟩) (mkOb ol)) = some (2, v, us)) (h3 : XD P G bad g (k + 1) xs ((d, v) :: tl) (us.reverseAux ol) ((2, v, us) :: ra) ((rdX (mkTm tl) (mkOb ol) ⟨some d, gd, q⟩) :: da) Kf) (hx : exactU us = true := by rfl) : XD P G bad g k (⟨some d, gd, q⟩ :: xs) tl ol ra da Kf := dstep 2 v us (stepX_R h) h3 hx
end
end
-- what arguments read as
theorem gm_nil {g : AV → Option AV} : mapO g [] = some [] := rfl
theorem gm_cons {g : AV → Option AV} {c d : AV} {cs ds : List AV} (h : g c = some d) (hs : mapO g cs = some ds) : mapO g (c :: cs) = some (d :: ds) := by simp only [mapO, h, hs]
section
variable {ob : Oid → Option Ob} {n : Nat}
theorem gd_own {i : Oid} {t u : Ty} {e : TypeId} {xs : List u.D} {len : Nat} (h : ob i = some (.arr e u xs)) (hl : len = xs.length) : gnd ob (n + 1) (.own i t 0 len) = some (.tree u xs) := by
  subst hl
  simp only [gnd, h, Nat.zero_add, Nat.le_refl, if_true, List.drop_zero, List.take_length]
theorem gd_part {i : Oid} {t u : Ty} {e : TypeId} {xs : List u.D} {len : Nat} (h : ob i = some (.arr e u xs)) (hl : len ≤ xs.length) : gnd ob (n + 1) (.own i t 0 len) = some (.tree u (xs.take len)) := by
  simp only [gnd, h, Nat.zero_add, if_pos hl, List.drop_zero]
theorem gd_sub {i : Oid} {t u : Ty} {e : TypeId} {xs ys : List u.D} {off len : Nat} (h : ob i = some (.arr e u xs)) (hl : off + len ≤ xs.length) (hy : ys = (xs.drop off).take len) : gnd ob (n + 1) (.own i t off len) = some (.tree u ys) := by
  subst hy
  simp only [gnd, h, if_pos hl]
theorem gd_agg {cs ds : List AV} (h : mapO (gnd ob n) cs = some ds) : gnd ob (n + 1) (.agg cs) = some (.agg ds) := by simp only [gnd, h, Option.map_some]
theorem gd_fn {f : FuncId} {cs ds : List AV} (h : mapO (gnd ob n) cs = some ds) : gnd ob (n + 1) (.fn f cs) = some (.fn f ds) := by simp only [gnd, h, Option.map_some]
theorem gd_ref {cs ds : List AV} (h : mapO (gnd ob n) cs = some ds) : gnd ob (n + 1) (.ref cs) = some (.ref ds) := by simp only [gnd, h, Option.map_some]
theorem gd_box {i : Oid} {k : Nat} {ty : TypeId} {cs es ds : List AV} (h : ob i = some (.cells ty cs)) (he : cs.drop k = es) (hs : mapO (gnd ob n) es = some ds) : gnd ob (n + 1) (.box i k) = some (.ref ds) := by simp only [gnd, h, he, hs, Option.map_some]
end
-- steps that hang on something
section
variable {n : Nat} {d : Option Nat} {f : Nat → AV} {ob : Oid → Option Ob}
theorem s_gd {s : Nat} {b c : Bool} {q : Q} {r : Option Rec} (hs : f s = .bool c) (hc : c = b) (h : stepX n ⟨d, none, q⟩ f ob = r) : stepX n ⟨d, some (s, b), q⟩ f ob = r := by
  subst hc
  simp only [stepX, hs, gdv, beq_self_eq_true]; exact h
theorem s_skip {s : Nat} {b c : Bool} {q : Q} (hs : f s = .bool c) (hc : c = !b) : stepX n ⟨d, some (s, b), q⟩ f ob = some (0, .tup [], []) := by
  subst hc
  cases b <;> simp [stepX, hs, gdv]
theorem s_skipU {s : Nat} {b : Bool} {q : Q} (hs : f s = .tup []) : stepX n ⟨d, some (s, b), q⟩ f ob = some (0, .tup [], []) := by
  simp [stepX, hs, gdv]
theorem s_pickT {c x y : Opd} {b : Bool} (h : c.ev f = .bool b) (hb : b = true) : stepX n ⟨d, none, .i (.pick c x y)⟩ f ob = some (0, x.ev f, []) := by
  subst hb; simp [stepX, ev, evN, h]
theorem s_pickF {c x y : Opd} {b : Bool} (h : c.ev f = .bool b) (hb : b = false) : stepX n ⟨d, none, .i (.pick c x y)⟩ f ob = some (0, y.ev f, []) := by
  subst hb; simp [stepX, ev, evN, h]
theorem s_idxT {sz : Nat} {x i : Opd} {t : Ty} {xs : List t.D} {y : t.D} {k : IntKind} {m : Int} {j : Nat} (hx : (x.ev f).un = .tree t xs) (hi : i.ev f = .int k m) (hs : sz = t.size) (h0 : 0 ≤ m) (hj : m.toNat = j) (hy : xs[j]? = some y) : stepX n ⟨d, none, .i (.idx sz x i)⟩ f ob = some (0, .telt t y 0, []) := by
  subst hs hj
  simp [stepX, ev, evN, hx, hi, h0, hy]
theorem s_idxO {sz : Nat} {x i : Opd} {t : Ty} {o : Oid} {len : Nat} {k : IntKind} {m : Int} {j : Nat} (hx : x.ev f = .own o t 0 len) (hi : i.ev f = .int k m) (hs : sz = t.size) (h0 : 0 ≤ m) (hj : m.toNat = j) (hl : j < len) : stepX n ⟨d, none, .i (.idx sz x i)⟩ f ob = some (0, .elt o j 0, []) := by
  subst hs hj
  have : m < (len : Int) := by omega
  simp [stepX, ev, evN, hx, hi, h0, AV.un, this]
theorem s_idxP {sz : Nat} {x i : Opd} {t : Ty} {o : Oid} {off len : Nat} {k : IntKind} {m : Int} {j : Nat} (hx : x.ev f = .own o t off len) (hi : i.ev f = .int k m) (hs : sz = t.size) (h0 : 0 ≤ m) (hj : off + m.toNat = j) (hl : m.toNat < len) : stepX n ⟨d, none, .i (.idx sz x i)⟩ f ob = some (0, .elt o j 0, []) := by
  subst hs hj
  have : m < (len : Int) := by omega
  simp [stepX, ev, evN, hx, hi, h0, AV.un, this]
/-- The type of an array of n + 1 integers, as plain data, and the datum that a list of as many is. -/
def tyA : Nat → Ty
  | 0 => .int
  | n + 1 => .pair .int (tyA n)
def tupA : (n : Nat) → List Int → (tyA n).D
  | 0, l => l.getD 0 0
  | n + 1, l => (l.getD 0 0, tupA n l.tail)
theorem tupA_get : ∀ (n : Nat) (l : List Int) (k : Nat), k ≤ n → ((tyA n).av (tupA n l))[k]? = some (.int .i64 (l.getD k 0))
  | 0, l, k, h => by obtain rfl : k = 0 := by omega
                     rfl
  | n + 1, l, 0, _ => rfl
  | n + 1, l, k + 1, h => by
    have := tupA_get n l.tail k (by omega)
    simp only [tyA, tupA, Ty.av, List.cons_append, List.nil_append, List.getElem?_cons_succ, this]
    cases l <;> simp
theorem tupA_len : ∀ (n : Nat) (l : List Int), ((tyA n).av (tupA n l)).length = n + 1
  | 0, _ => rfl
  | n + 1, l => by simp [tyA, tupA, Ty.av, tupA_len n]
theorem tupA_ofAV : ∀ (n : Nat) (l : List Int), (tyA n).ofAV ((tyA n).av (tupA n l)) = some (tupA n l)
  | 0, _ => rfl
  | n + 1, l => by
    have := tupA_ofAV n l.tail
    simp only [tyA, tupA, Ty.av, List.cons_append, List.nil_append, Ty.ofAV, Ty.size, List.take_succ_cons, List.take_zero, List.drop_succ_cons, List.drop_zero, this, ofI, Option.bind_some, Option.map_some]
theorem tupA_set : ∀ (n : Nat) (l : List Int) (k : Nat) (v : Int), k ≤ n → k < l.length → ((tyA n).av (tupA n l)).set k (.int .i64 v) = (tyA n).av (tupA n (l.set k v))
  | 0, l, k, v, h, hl => by
    obtain rfl : k = 0 := by omega
    cases l with
    | nil => cases hl
    | cons x l => rfl
  | n + 1, l, 0, v, _, hl => by
    cases l with
    | nil => cases hl
    | cons x l => rfl
  | n + 1, l, k + 1, v, h, hl => by
    cases l with
    | nil => cases hl
    | cons x l =>
      have := tupA_set n l k v (by omega) (by simpa using hl)
      simp only [tyA, tupA, Ty.av, List.cons_append, List.nil_append, List.tail_cons, List.set_cons_succ, this, List.getD_cons_zero]
theorem idxA_le {m : Int} {n : Nat} (h : 0 ≤ m ∧ m < ((n + 1 : Nat) : Int)) : m.toNat ≤ n := by omega
theorem s_idxA {ty : TypeId} {len : Nat} {x i : Opd} {o : Oid} {k : IntKind} {m : Int} {e j : Nat} (hx : x.ev f = .elt o e 0) (hi : i.ev f = .int k m) (h : 0 ≤ m ∧ m < (len : Int)) (hj : m.toNat = j) : stepX n ⟨d, none, .i (.idxA ty len x i)⟩ f ob = some (0, .elt o e j, []) := by
  subst hj
  simp [stepX, ev, evN, hx, hi, h]
theorem s_ldA {m N : Nat} {x : Opd} {i : Oid} {e j : Nat} {ty : TypeId} {xs : List (tyA N).D} {l : List Int} {y : Int} (hx : x.ev f = .elt i e j) (hob : ob i = some (.arr ty (tyA N) xs)) (hl : xs[e]? = some (tupA N l)) (hj : j ≤ N) (hy : l[j]? = some y) : stepX n ⟨d, none, .i (.ld true m x)⟩ f ob = some (1, .int .i64 y, []) := by

  simp [stepX, ev, evN, evR, hx, hob, hl, ldCells, tupA_get N l j hj, hy]
theorem s_stA {m N : Nat} {x y : Opd} {i : Oid} {e j : Nat} {ty : TypeId} {xs ys : List (tyA N).D} {l : List Int} {u v : Int} (hx : x.ev f = .elt i e j) (hob : ob i = some (.arr ty (tyA N) xs)) (hl : xs[e]? = some (tupA N l)) (hj : j ≤ N) (hy : l[j]? = some u) (hv : y.ev f = .int .i64 v) (hs : xs.set e (tupA N (l.set j v)) = ys) :
    stepX n ⟨d, none, .st true m x y⟩ f ob = some (2, .any, [(i, none), (i, some (.arr ty (tyA N) ys))]) := by
  subst hs
  have hlt := (List.getElem?_eq_some_iff.1 hy).1
  have h1 : j < ((tyA N).av (tupA N l)).length := by rw [tupA_len]; omega
  simp [stepX, ev, evSt, hx, hob, hl, stCells, h1, hv, AV.one, tupA_set N l j v hj hlt, tupA_ofAV]
theorem tupA_dflt : ∀ n : Nat, tupA n (List.replicate (n + 1) 0) = (tyA n).dflt
  | 0 => rfl
  | n + 1 => by
    have := tupA_dflt n
    simp only [tupA, tyA, Ty.dflt, List.replicate_succ, List.tail_cons, List.getD_cons_zero] at this ⊢
    rw [← List.replicate_succ] at this ⊢
    rw [this]
theorem map_tup {N : Nat} {c : List (List Int)} {j : Nat} {r : List Int} (h : c[j]? = some r) : (c.map (tupA N))[j]? = some (tupA N r) := by rw [List.getElem?_map, h]; rfl
theorem s_ldW {m N : Nat} {x : Opd} {i : Oid} {e : Nat} {ty : TypeId} {xs : List (tyA N).D} {l : List Int} (hx : x.ev f = .elt i e 0) (hob : ob i = some (.arr ty (tyA N) xs)) (hl : xs[e]? = some (tupA N l)) (hm : m = N + 1) : stepX n ⟨d, none, .i (.ld false m x)⟩ f ob = some (1, .agg ((tyA N).av (tupA N l)), []) := by
  subst hm
  have h1 := tupA_len N l
  simp [stepX, ev, evN, evR, hx, hob, hl, ldCells, h1]
  rw [List.take_of_length_le (by omega)]
theorem tupA_all : ∀ (n : Nat) (l : List Int), ((tyA n).av (tupA n l)).all AV.one = true
  | 0, _ => rfl
  | n + 1, l => by simp [tyA, tupA, Ty.av, AV.one, tupA_all n, ← List.all_eq_true]
theorem s_stW {m N : Nat} {x y : Opd} {i : Oid} {e : Nat} {ty : TypeId} {xs ys : List (tyA N).D} {l l2 : List Int} (hx : x.ev f = .elt i e 0) (hob : ob i = some (.arr ty (tyA N) xs)) (hl : xs[e]? = some (tupA N l)) (hm : m = N + 1) (hv : y.ev f = .agg ((tyA N).av (tupA N l2))) (hs : xs.set e (tupA N l2) = ys) :
    stepX n ⟨d, none, .st false m x y⟩ f ob = some (2, .any, [(i, none), (i, some (.arr ty (tyA N) ys))]) := by
  subst hs hm
  have h1 := tupA_len N l
  have h2 := tupA_len N l2
  have h3 := tupA_all N l2
  have h4 : stCells false (N + 1) 0 ((tyA N).av (tupA N l)) (.agg ((tyA N).av (tupA N l2))) = some ((tyA N).av (tupA N l2)) := by
    simp only [stCells, h2, h1, h3, Nat.zero_add, Nat.le_refl, and_self, if_true, List.take_zero, List.nil_append, Bool.false_eq_true, if_false]
    rw [List.drop_of_length_le (by omega), List.append_nil]
  simp [stepX, ev, evSt, hx, hob, hl, hv, h4, tupA_ofAV]
theorem s_makeA {e : TypeId} {N by_ : Nat} {l c : Opd} {k k' : IntKind} {m m' : Int} {j : Nat} (hl : l.ev f = .int k m) (hc : c.ev f = .int k' m') (h : 0 ≤ m ∧ m ≤ m' ∧ m' ≤ 1073741824 ∧ (by_ : Int) * m' ≤ 140737488355328) (hj : m.toNat = j) : stepX n ⟨d, none, .make e (tyA N) by_ l c⟩ f ob = some (1, .own ((d.getD 0, 0), n) (tyA N) 0 j, [(((d.getD 0, 0), n), some (.arr e (tyA N) ((List.replicate j (List.replicate (N + 1) 0)).map (tupA N))))]) := by
  subst hj
  simp only [stepX, ev, evMake, hl, hc, if_pos h, List.map_replicate, tupA_dflt]
theorem s_idxV {len N : Nat} {x i : Opd} {l : List Int} {k : IntKind} {m : Int} {y : Int} (hx : x.ev f = .agg ((tyA N).av (tupA N l))) (hi : i.ev f = .int k m) (h : 0 ≤ m ∧ m < ((len : Nat) : Int)) (hN : len = N + 1) (hy : l[m.toNat]? = some y) : stepX n ⟨d, none, .i (.idxV len x i)⟩ f ob = some (0, .int .i64 y, []) := by
  subst hN
  have h1 : m < (N : Int) + 1 := by omega
  simp [stepX, ev, evN, hx, hi, h, tupA_get N l m.toNat (by omega), hy, h1]
theorem s_lookO (i : Oid) {mt : TypeId} {ok : Bool} {x y : Opd} {t : Ty} {es : List (Int × t.D)} {k : Int} (hob : ob i = some (.map mt t es)) (hx : x.ev f = .mp i) (hy : y.ev f = .int .i64 k) (h : i64R k) (h3 : k3 Tryd.prog mt = false := by kernel_rfl) : stepX n ⟨d, none, .i (.look mt ok x y)⟩ f ob = some (1, lookAV ok t es k, []) := by
  simp [stepX, ev, evN, evR, hx, hy, hob, keyN_int h h3]
theorem s_lookO3 (i : Oid) {mt : TypeId} {ok : Bool} {x y : Opd} {t : Ty} {es : List (Int × t.D)} {a b c : Int} (hob : ob i = some (.map mt t es)) (hx : x.ev f = .mp i) (hy : y.ev f = .agg [.int .i64 a, .int .i64 b, .int .i64 c]) (h : i64R a ∧ i64R b ∧ i64R c) (h3 : k3 Tryd.prog mt = true := by kernel_rfl) : stepX n ⟨d, none, .i (.look mt ok x y)⟩ f ob = some (1, lookAV ok t es (encK a b c), []) := by
  simp [stepX, ev, evN, evR, hx, hy, hob, keyN_agg h h3]
theorem s_lookT {mt : TypeId} {ok : Bool} {x y : Opd} {t : Ty} {es : List (Int × t.D)} {k : Int} (hx : x.ev f = .mtree mt t es) (hy : y.ev f = .int .i64 k) (h : i64R k) (h3 : k3 Tryd.prog mt = false := by kernel_rfl) : stepX n ⟨d, none, .i (.look mt ok x y)⟩ f ob = some (0, lookAV ok t es k, []) := by
  simp [stepX, ev, evN, hx, hy, keyN_int h h3]
theorem s_lookT3 {mt : TypeId} {ok : Bool} {x y : Opd} {t : Ty} {es : List (Int × t.D)} {a b c : Int} (hx : x.ev f = .mtree mt t es) (hy : y.ev f = .agg [.int .i64 a, .int .i64 b, .int .i64 c]) (h : i64R a ∧ i64R b ∧ i64R c) (h3 : k3 Tryd.prog mt = true := by kernel_rfl) : stepX n ⟨d, none, .i (.look mt ok x y)⟩ f ob = some (0, lookAV ok t es (encK a b c), []) := by
  simp [stepX, ev, evN, hx, hy, keyN_agg h h3]
theorem s_del {mt : TypeId} {x y : Opd} {i : Oid} {t : Ty} {es : List (Int × t.D)} {k : Int} (hx : x.ev f = .mp i) (hy : y.ev f = .int .i64 k) (hob : ob i = some (.map mt t es)) (h : i64R k) (h3 : k3 Tryd.prog mt = false := by kernel_rfl) : stepX n ⟨d, none, .del mt x y⟩ f ob = some (2, .any, [(i, none), (i, some (.map mt t (mdel es k)))]) := by
  simp [stepX, ev, evDel, hx, hy, hob, keyN_int h h3]
theorem s_updI {mt : TypeId} {x y z : Opd} {i : Oid} {es : List (Int × Int)} {k nv : Int} (hx : x.ev f = .mp i) (hy : y.ev f = .int .i64 k) (hz : z.ev f = .int .i64 nv) (hob : ob i = some (.map mt .int es)) (h : i64R k ∧ es.length < 1073741824 ∧ i64R nv) (h3 : k3 Tryd.prog mt = false := by kernel_rfl) : stepX n ⟨d, none, .upd mt x y z⟩ f ob = some (2, .any, [(i, none), (i, some (.map mt .int (mput es k nv)))]) := by
  simp [stepX, ev, evUpd, hx, hy, hz, hob, keyN_int h.1 h3, h.2]
theorem s_updI3 {mt : TypeId} {x y z : Opd} {i : Oid} {es : List (Int × Int)} {a b c nv : Int} (hx : x.ev f = .mp i) (hy : y.ev f = .agg [.int .i64 a, .int .i64 b, .int .i64 c]) (hz : z.ev f = .int .i64 nv) (hob : ob i = some (.map mt .int es)) (h : (i64R a ∧ i64R b ∧ i64R c) ∧ es.length < 1073741824 ∧ i64R nv) (h3 : k3 Tryd.prog mt = true := by kernel_rfl) : stepX n ⟨d, none, .upd mt x y z⟩ f ob = some (2, .any, [(i, none), (i, some (.map mt .int (mput es (encK a b c) nv)))]) := by
  simp [stepX, ev, evUpd, hx, hy, hz, hob, keyN_agg h.1 h3, h.2]
theorem s_updB {mt : TypeId} {x y z : Opd} {i : Oid} {es : List (Int × Bool)} {k : Int} {nv : Bool} (hx : x.ev f = .mp i) (hy : y.ev f = .int .i64 k) (hz : z.ev f = .bool nv) (hob : ob i = some (.map mt .bool es)) (h : i64R k ∧ es.length < 1073741824) (h3 : k3 Tryd.prog mt = false := by kernel_rfl) : stepX n ⟨d, none, .upd mt x y z⟩ f ob = some (2, .any, [(i, none), (i, some (.map mt .bool (mput es k nv)))]) := by
  simp [stepX, ev, evUpd, hx, hy, hz, hob, keyN_int h.1 h3, h.2]
theorem s_ldE {one : Bool} {m : Nat} {x : Opd} {i : Oid} {j k : Nat} {e : TypeId} {t : Ty} {xs : List t.D} {y : t.D} {c : AV} (hx : x.ev f = .elt i j k) (hob : ob i = some (.arr e t xs)) (hy : xs[j]? = some y) (hc : ldCells one m k (t.av y) = some c) : stepX n ⟨d, none, .i (.ld one m x)⟩ f ob = some (1, c, []) := by
  simp [stepX, ev, evN, evR, hx, hob, hy, hc]
theorem s_stE {one : Bool} {m : Nat} {x y : Opd} {i : Oid} {j k : Nat} {e : TypeId} {t : Ty} {xs : List t.D} {x0 x1 : t.D} {cs : List AV} (hx : x.ev f = .elt i j k) (hob : ob i = some (.arr e t xs)) (hy : xs[j]? = some x0) (hc : stCells one m k (t.av x0) (y.ev f) = some cs) (hd : t.ofAV cs = some x1) : stepX n ⟨d, none, .st one m x y⟩ f ob = some (2, .any, [(i, none), (i, some (.arr e t (xs.set j x1)))]) := by
  simp [stepX, ev, evSt, hx, hob, hy, hc, hd]
theorem s_make {e : TypeId} {t : Ty} {by_ : Nat} {l c : Opd} {k k' : IntKind} {m m' : Int} {j : Nat} (hl : l.ev f = .int k m) (hc : c.ev f = .int k' m') (h : 0 ≤ m ∧ m ≤ m' ∧ m' ≤ 1073741824 ∧ (by_ : Int) * m' ≤ 140737488355328) (hj : m.toNat = j) : stepX n ⟨d, none, .make e t by_ l c⟩ f ob = some (1, .own ((d.getD 0, 0), n) t 0 j, [(((d.getD 0, 0), n), some (.arr e t (List.replicate j t.dflt)))]) := by
  subst hj
  simp only [stepX, ev, evMake, hl, hc, if_pos h]
theorem sr_own {t t' : Ty} {i : Oid} {e : TypeId} {xs : List t.D} {len : Nat} (h : ob i = some (.arr e t xs)) (hl : len = xs.length) : srcOf ob t (.own i t' 0 len) = some xs := by
  subst hl
  simp only [srcOf, h, Nat.zero_add, Nat.le_refl, if_true, Ty.eq?_self, castL_self, List.drop_zero, List.take_length]
theorem sr_part {t t' : Ty} {i : Oid} {e : TypeId} {xs : List t.D} {len : Nat} (h : ob i = some (.arr e t xs)) (hl : len ≤ xs.length) : srcOf ob t (.own i t' 0 len) = some (xs.take len) := by
  simp only [srcOf, h, Nat.zero_add, if_pos hl, Ty.eq?_self, castL_self, List.drop_zero]
theorem sr_sub {t t' : Ty} {i : Oid} {e : TypeId} {xs ys : List t.D} {off len : Nat} (h : ob i = some (.arr e t xs)) (hl : off + len ≤ xs.length) (hy : ys = (xs.drop off).take len) : srcOf ob t (.own i t' off len) = some ys := by
  subst hy
  simp only [srcOf, h, if_pos hl, Ty.eq?_self, castL_self]
theorem sr_tree {t : Ty} {xs : List t.D} : srcOf ob t (.tree t xs) = some xs := by simp only [srcOf, Ty.eq?_self, castL_self]
theorem sr_giv {v : Value} {t : Ty} {xs : List t.D} : srcOf ob t (.giv v t xs) = some xs := by simp only [srcOf, Ty.eq?_self, castL_self]
theorem srl_nil {t : Ty} : srcL f ob t [] = some [] := rfl
theorem srl_cons {t : Ty} {x : Opd} {c : AV} {xs : List Opd} {ys : List t.D} {yss : List (List t.D)} (hx : x.ev f = c) (hs : srcOf ob t c = some ys) (h : srcL f ob t xs = some yss) : srcL f ob t (x :: xs) = some (ys :: yss) := by
  simp only [srcL, hx, hs, h]
theorem s_mkT {t : Ty} {xs : List Opd} {yss : List (List t.D)} {us : List (Oid × Option Ob)} (h : srcL f ob t xs = some yss) {e : TypeId} (hu : (xs.flatMap fun x => freeOf (x.ev f)) = us) : stepX n ⟨d, none, .mkV e (.slice t) 1 xs⟩ f ob = some (2, .tree (.slice t) yss, us) := by
  subst hu
  simp only [stepX, ev, evMkT, h, if_true]
theorem s_appN {e : TypeId} {t : Ty} {by_ : Nat} {x y : Opd} {c : AV} {ys : List t.D} (hx : x.ev f = .nils) (hy : y.ev f = c) (hs : srcOf ob t c = some ys) (h : ys.length ≤ 1073741824 ∧ ys.length * by_ ≤ 140737488355328) : stepX n ⟨d, none, .append e t by_ x y⟩ f ob = some (1, .own ((d.getD 0, 0), n) t 0 ys.length, [(((d.getD 0, 0), n), some (.arr e t ys))]) := by
  simp only [stepX, ev, evAppend, hx, hy, hs, if_pos h]
theorem s_appO {e : TypeId} {t t' : Ty} {by_ : Nat} {x y : Opd} {c : AV} {ys xs zs : List t.D} {j : Oid} {len : Nat} (hx : x.ev f = .own j t' 0 len) (hob : ob j = some (.arr e t xs)) (hl : len = xs.length) (hy : y.ev f = c) (hs : srcOf ob t c = some ys) (hz : zs = xs ++ ys) (h : xs.length + ys.length ≤ 1073741824 ∧ (xs.length + ys.length) * by_ ≤ 140737488355328) :
    stepX n ⟨d, none, .append e t by_ x y⟩ f ob = some (2, .own (j.1, n) t 0 zs.length, [(j, none), ((j.1, n), some (.arr e t zs))]) := by
  subst hl hz
  simp only [stepX, ev, evAppend, hx, hy, hs, hob, Ty.eq?_self, Nat.le_refl, true_and, h.1, h.2, and_self, if_true, castL_self, List.take_length, List.length_append]
theorem s_appP {e : TypeId} {t t' : Ty} {by_ : Nat} {x y : Opd} {c : AV} {ys xs zs : List t.D} {j : Oid} {len : Nat} (hx : x.ev f = .own j t' 0 len) (hob : ob j = some (.arr e t xs)) (hl : len ≤ xs.length) (hy : y.ev f = c) (hs : srcOf ob t c = some ys) (hz : zs = xs.take len ++ ys) (h : (xs.take len).length + ys.length ≤ 1073741824 ∧ ((xs.take len).length + ys.length) * by_ ≤ 140737488355328) :
    stepX n ⟨d, none, .append e t by_ x y⟩ f ob = some (2, .own (j.1, n) t 0 zs.length, [(j, none), ((j.1, n), some (.arr e t zs))]) := by
  subst hz
  have hl' : (xs.take len).length = len := by rw [List.length_take]; omega
  rw [hl'] at h
  simp only [stepX, ev, evAppend, hx, hy, hs, hob, Ty.eq?_self, hl, true_and, h.1, h.2, and_self, if_true, castL_self, List.length_append, hl']
theorem s_sliceT {sz : Nat} {x : Opd} {lo hi mx : Option Opd} {t : Ty} {xs zs : List t.D} {l h m : Int} (hx : (x.ev f).un = .tree t xs) (hl : optInt f 0 lo = some l) (hh : optInt f xs.length hi = some h) (hm : optInt f xs.length mx = some m) (hs : t.size = sz) (hb : 0 ≤ l ∧ l ≤ h ∧ h ≤ m ∧ m ≤ xs.length) (hz : (xs.take h.toNat).drop l.toNat = zs) :
    stepX n ⟨d, none, .slice sz x lo hi mx⟩ f ob = some (0, .tree t zs, []) := by
  subst hs hz
  simp only [stepX, ev, evSlice, hx, hl, hh, hm, true_and, hb.1, hb.2.1, hb.2.2.1, hb.2.2.2, and_self, if_true]
theorem s_sliceO {sz : Nat} {x : Opd} {lo hi : Option Opd} {t : Ty} {i : Oid} {off len o' j : Nat} {l h : Int} (hx : x.ev f = .own i t off len) (hl : optInt f 0 lo = some l) (hh : optInt f len hi = some h) (hs : t.size = sz) (hb : 0 ≤ l ∧ l ≤ h ∧ h ≤ len) (ho : off + l.toNat = o') (hj : (h - l).toNat = j) :
    stepX n ⟨d, none, .slice sz x lo hi none⟩ f ob = some (0, .own i t o' j, []) := by
  subst hs ho hj
  simp only [stepX, ev, evSlice, hx, AV.un, hl, hh, true_and, hb.1, hb.2.1, hb.2.2, and_self, if_true]
theorem s_add1 {x y : Opd} {j : Nat} (hx : x.ev f = .int .i64 j) (hy : y.ev f = .int .i64 1) (h : j + 1 < 4611686018427387904) : stepX n ⟨d, none, .i (.bin .add x y)⟩ f ob = some (0, .int .i64 ((j + 1 : Nat) : Int), []) := by
  have : IntKind.i64.wrap ((j : Int) + 1) = ((j + 1 : Nat) : Int) := by rw [Go.IntWalk.i64_in _ (by omega)]; rfl
  simp [stepX, ev, evN, evBin, hx, hy, this]
theorem s_quo {x y : Opd} {k : IntKind} {a b : Int} (hx : x.ev f = .int k a) (hy : y.ev f = .int k b) (h : b ≠ 0) : stepX n ⟨d, none, .i (.bin .quo x y)⟩ f ob = some (0, .int k (k.wrap (a.tdiv b)), []) := by
  simp [stepX, ev, evN, evBin, hx, hy, h]
theorem s_rem {x y : Opd} {k : IntKind} {a b : Int} (hx : x.ev f = .int k a) (hy : y.ev f = .int k b) (h : b ≠ 0) : stepX n ⟨d, none, .i (.bin .rem x y)⟩ f ob = some (0, .int k (a.tmod b), []) := by
  simp [stepX, ev, evN, evBin, hx, hy, h]
theorem s_sadd {x y : Opd} {a b : ByteArray} (hx : x.ev f = .str a) (hy : y.ev f = .str b) (h : (a.size + b.size : Nat) ≤ 9223372036854775807) : stepX n ⟨d, none, .i (.bin .add x y)⟩ f ob = some (0, .str (a ++ b), []) := by
  simp [stepX, ev, evN, evBin, hx, hy, h]
theorem s_char {x i : Opd} {s : ByteArray} {k : IntKind} {m : Int} {j : Nat} {b : UInt8} (hx : x.ev f = .str s) (hi : i.ev f = .int k m) (h0 : 0 ≤ m) (hj : m.toNat = j) (hy : s[j]? = some b) : stepX n ⟨d, none, .i (.char x i)⟩ f ob = some (0, .int .u8 b.toNat, []) := by
  subst hj
  simp [stepX, ev, evN, hx, hi, h0, hy]
theorem s_sub {x : Opd} {lo hi : Option Opd} {s : ByteArray} {l h : Int} (hx : x.ev f = .str s) (hl : optInt f 0 lo = some l) (hh : optInt f s.size hi = some h) (hb : 0 ≤ l ∧ l ≤ h ∧ h ≤ s.size) : stepX n ⟨d, none, .sub x lo hi⟩ f ob = some (0, .str (s.extract l.toNat h.toNat), []) := by
  simp [stepX, ev, evSub, hx, hl, hh, hb]
end
theorem awp_cond_ {c : Opd} {x y : AC} {R : AE → St → Prop} {S : St} {t : Bool} (h : c.ev S.tm = .bool t) (h1 : t = true → awp P G x R S) (h2 : t = false → awp P G y R S) : awp P G (.cond c x y) R S := .inl ⟨t, h, h1, h2⟩
theorem awp_condT_ {c : Opd} {x y : AC} {R : AE → St → Prop} {S : St} {t : Bool} (ht : t = true) (h1 : awp P G x R S) (h : c.ev S.tm = .bool t := by kernel_rfl) : awp P G (.cond c x y) R S := by
  subst ht; exact .inl ⟨true, h, fun _ => h1, fun h => (nomatch h)⟩
theorem awp_condF_ {c : Opd} {x y : AC} {R : AE → St → Prop} {S : St} {t : Bool} (ht : t = false) (h2 : awp P G y R S) (h : c.ev S.tm = .bool t := by kernel_rfl) : awp P G (.cond c x y) R S := by
  subst ht; exact .inl ⟨false, h, fun h => (nomatch h), fun _ => h2⟩
theorem awp_condA_ {c : Opd} {x y : AC} {R : AE → St → Prop} {S : St} {p : Bool} {n : Nat} (h : c.ev S.tm = .abool p n) (h1 : (p = true → n = 0) → awp P G x R S) (h2 : (p = false → n = 0) → awp P G y R S) : awp P G (.cond c x y) R S := .inr ⟨p, n, h, h1, h2⟩
theorem awp_block_ {i : Nat} {a : AC} {R : AE → St → Prop} {S : St} (h : awp P G a (blockA i R) S) : awp P G (.block i a) R S := h
theorem awp_loop_ {a : AC} {R : AE → St → Prop} {S : St} {α : Type} (I : α → St → Prop) (μ : α → Nat) (h0 : ∃ s S0, Weak S S0 ∧ I s S0) (h1 : ∀ s S1, I s S1 → awp P G a (thenA (fun S2 => ∃ s' S3, Weak S2 S3 ∧ I s' S3 ∧ μ s' < μ s) R) S1) : awp P G (.loop a) R S := ⟨α, I, μ, h0, h1⟩
theorem awp_exit_ {i : Nat} {R : AE → St → Prop} {S : St} (h : R (.exit i) S) : awp P G (.exit i) R S := h
theorem awp_skip_ {R : AE → St → Prop} {S : St} (h : R .normal S) : awp P G .skip R S := h
theorem awp_ret_ {R : AE → St → Prop} {S : St} (h : R .ret S) : awp P G .ret R S := h
end
section
variable {K : St → Prop} {R : AE → St → Prop} {S : St} {i j : Nat}
theorem tn_ (h : K S) : thenA K R .normal S := h
theorem te_ (h : R (.exit i) S) : thenA K R (.exit i) S := h
theorem tr_ (h : R .ret S) : thenA K R .ret S := h
theorem bn_ (h : R .normal S) : blockA i R .normal S := h
theorem be_ (h : R .normal S) : blockA i R (.exit i) S := by simpa [blockA] using h
theorem bf_ (hj : (j == i) = false) (h : R (.exit j) S) : blockA i R (.exit j) S := by
  have : ¬ j = i := by simpa using hj
  simpa [blockA, this] using h
theorem br_ (h : R .ret S) : blockA i R .ret S := h
end

def tmL : Nat → List AV → List (Nat × AV)
  | _, [] => []
  | k, v :: r => (k, v) :: tmL (k + 1) r
theorem mkTm_tmL : ∀ (l : List AV) (k i : Nat), mkTm (tmL k l) (k + i) = l.getD i .any
  | [], k, i => by simp [tmL, mkTm]
  | v :: r, k, i => by
    cases i with
    | zero => simp [tmL, mkTm]
    | succ i =>
      have := mkTm_tmL r (k + 1) i
      simp only [tmL, mkTm]
      rw [if_neg (by omega), show k + (i + 1) = k + 1 + i by omega, this]
      simp
theorem tm_init (args : List AV) : (fun i => args.getD i .any) = mkTm (tmL 0 args) := by
  funext i
  have := mkTm_tmL args 0 i
  rw [Nat.zero_add] at this
  exact this.symm
theorem St.init_eq (args : List AV) : St.init args = ⟨mkTm (tmL 0 args), mkOb [], 1⟩ := by
  unfold St.init
  rw [tm_init]
  rfl
theorem weak_nil_ {tl : List (Nat × AV)} {ol : List (Oid × Option Ob)} {g : Nat} (s : Nat) (e : TypeId) (t : Ty) (ht : t.flat = true) (hs : mkTm tl s = .nils) : Weak ⟨mkTm tl, mkOb ol, g⟩ ⟨mkTm ((s, .own ((s, 0), g) t 0 0) :: tl), mkOb ((((s, 0), g), some (.arr e t [])) :: ol), g + 1⟩ := by
  have := weak_nil (S := ⟨mkTm tl, mkOb ol, g⟩) s e t ht hs
  rw [upd_mkTm] at this
  have e2 : upd (mkOb ol) ((s, 0), g) (some (.arr e t [])) = mkOb ((((s, 0), g), some (.arr e t [])) :: ol) := upd_mkOb rfl
  rw [e2] at this
  exact this
theorem weak_tm_ {tl : List (Nat × AV)} {ol : List (Oid × Option Ob)} {g : Nat} (s : Nat) (v v' : AV) (h : mkTm tl s = v) (e : v = v') : Weak ⟨mkTm tl, mkOb ol, g⟩ ⟨mkTm ((s, v') :: tl), mkOb ol, g⟩ := by
  subst e
  have : mkTm ((s, v) :: tl) = mkTm tl := by
    funext i
    simp only [mkTm]
    split
    · rename_i e; rw [e]; exact h.symm
    · rfl
  rw [this]; exact Weak.refl _
theorem weak_ob_ {tl : List (Nat × AV)} {ol : List (Oid × Option Ob)} {g : Nat} (j : Oid) (o o' : Ob) (h : mkOb ol j = some o) (e : o = o') (hx : exactO (some o) = true := by rfl) : Weak ⟨mkTm tl, mkOb ol, g⟩ ⟨mkTm tl, mkOb ((j, some o') :: ol), g⟩ := by
  subst e
  have : mkOb ((j, some o) :: ol) = mkOb ol := by
    rw [← upd_mkOb hx, upd_self _ _ _ h]
  rw [this]; exact Weak.refl _
theorem weak_nilT_ {tl : List (Nat × AV)} {ol : List (Oid × Option Ob)} {g : Nat} (s : Nat) (t : Ty) (hs : mkTm tl s = .nils) : Weak ⟨mkTm tl, mkOb ol, g⟩ ⟨mkTm ((s, .tree t []) :: tl), mkOb ol, g⟩ := by
  have := weak_nilT (S := ⟨mkTm tl, mkOb ol, g⟩) s t hs
  rw [upd_mkTm] at this
  exact this
theorem weak_nil_cell_ {tl : List (Nat × AV)} {ol : List (Oid × Option Ob)} {g : Nat} (s : Nat) (c : Oid) (k : Nat) (ty : TypeId) (cs ds : List AV) (e : TypeId) (t : Ty) (ht : t.flat = true) (hb : mkOb ol c = some (.cells ty cs)) (hk : cs[k]? = some .nils) (hd : cs.set k (.own ((s, 0), g) t 0 0) = ds) :
    Weak ⟨mkTm tl, mkOb ol, g⟩ ⟨mkTm tl, mkOb ((c, some (.cells ty ds)) :: (((s, 0), g), some (.arr e t [])) :: ol), g + 1⟩ := by
  subst hd
  have := weak_nil_cell (S := ⟨mkTm tl, mkOb ol, g⟩) s c k ty cs e t ht hb hk
  have e2 : upd (upd (mkOb ol) ((s, 0), g) (some (.arr e t []))) c (some (.cells ty (cs.set k (.own ((s, 0), g) t 0 0)))) = mkOb ((c, some (.cells ty (cs.set k (.own ((s, 0), g) t 0 0)))) :: (((s, 0), g), some (.arr e t [])) :: ol) := by rw [upd_mkOb rfl, upd_mkOb rfl]
  rw [← e2]
  exact this
theorem weak_nilV_ {tl : List (Nat × AV)} {ol : List (Oid × Option Ob)} {g : Nat} (s : Nat) (e : TypeId) (t : Ty) (hs : mkTm tl s = .nils) : Weak ⟨mkTm tl, mkOb ol, g⟩ ⟨mkTm ((s, .own ((s, 0), g) t 0 0) :: tl), mkOb ((((s, 0), g), some (.vec e 1 0 [])) :: ol), g + 1⟩ := by
  have := weak_nilV (S := ⟨mkTm tl, mkOb ol, g⟩) s e t hs
  rw [upd_mkTm] at this
  have e2 : upd (mkOb ol) ((s, 0), g) (some (.vec e 1 0 [])) = mkOb ((((s, 0), g), some (.vec e 1 0 [])) :: ol) := upd_mkOb rfl
  rw [e2] at this
  exact this
theorem weak_nil_cellV_ {tl : List (Nat × AV)} {ol : List (Oid × Option Ob)} {g : Nat} (s : Nat) (c : Oid) (k : Nat) (ty : TypeId) (cs ds : List AV) (e : TypeId) (t : Ty) (hb : mkOb ol c = some (.cells ty cs)) (hk : cs[k]? = some .nils) (hd : cs.set k (.own ((s, 0), g) t 0 0) = ds) :
    Weak ⟨mkTm tl, mkOb ol, g⟩ ⟨mkTm tl, mkOb ((c, some (.cells ty ds)) :: (((s, 0), g), some (.vec e 1 0 [])) :: ol), g + 1⟩ := by
  subst hd
  have := weak_nil_cellV (S := ⟨mkTm tl, mkOb ol, g⟩) s c k ty cs e t hb hk
  have e2 : upd (upd (mkOb ol) ((s, 0), g) (some (.vec e 1 0 []))) c (some (.cells ty (cs.set k (.own ((s, 0), g) t 0 0)))) = mkOb ((c, some (.cells ty (cs.set k (.own ((s, 0), g) t 0 0)))) :: (((s, 0), g), some (.vec e 1 0 [])) :: ol) := by rw [upd_mkOb rfl, upd_mkOb rfl]
  rw [← e2]
  exact this
/-- What a function that is given objects wants of its names. -/
def formB (ol us : List (Oid × Ob)) (args : List AV) (v : AV) : Bool :=
  (base0 ol && (base0 us && ((ol.all fun q => q.1.2 == 0) && ((us.all fun q => q.1.2 == 1 || (!q.2.isPool && (namesN ol).contains q.1)) && (ndB (namesN us) && ndB (namesP us)))))) && ((ol.all fun q => q.2.clo1 (namesN ol)) && ((us.all fun q => q.2.hp1 (namesN us)) && (AV.cloL (namesN ol) args && AV.hpB (namesN us) v)))
/-- The rows that a row of rows leads to are given, or come, with it. -/
def MatsIn (ol : List (Oid × Ob)) : List (Oid × Ob) → Prop
  | [] => True
  | q :: r => (match q.2 with
    | .mat _ p u xss => ∃ e, (p, Ob.pool e u xss) ∈ ol
    | _ => True) ∧ MatsIn ol r
theorem matsIn_mem {ol : List (Oid × Ob)} : ∀ {l : List (Oid × Ob)}, MatsIn ol l → ∀ i e p u xss, (i, Ob.mat e p u xss) ∈ l → ∃ e, (p, Ob.pool e u xss) ∈ ol
  | _ :: _, h, i, e, p, u, xss, hm => by
    rcases List.mem_cons.1 hm with rfl | hm
    · exact h.1
    · exact matsIn_mem h.2 i e p u xss hm
theorem pool_nm {ol : List (Oid × Ob)} {p : Oid} {e : TypeId} {u : Ty} {xss : List (List u.D)} : (p, Ob.pool e u xss) ∈ ol → ∀ k, k < xss.length → kid p k ∈ nmL ol := by
  induction ol with
  | nil => intro h; cases h
  | cons x r ih =>
    obtain ⟨x1, x2⟩ := x
    intro h k hk
    rcases List.mem_cons.1 h with h | h
    · cases h
      simp only [nmL, exL, List.map_append, List.mem_append]
      refine .inl (List.mem_map.2 ⟨(kid p k, .arr e u xss[k]), List.mem_map.2 ⟨(xss[k], k), ?_, rfl⟩, rfl⟩)
      rw [List.mem_zipIdx_iff_getElem?]; exact List.getElem?_eq_getElem hk
    · have := ih h k hk
      cases x2 <;> simp only [nmL, exL, List.map_cons, List.map_append] at this ⊢ <;> first | exact List.mem_cons_of_mem _ this | exact List.mem_append_right _ this
theorem names_nm {ol : List (Oid × Ob)} {i : Oid} (h : i ∈ namesN ol) : i ∈ nmL ol := by
  obtain ⟨o, ho, hp⟩ := ofN0 h
  exact List.mem_map.2 ⟨_, exL_exp ho hp, rfl⟩
theorem hdL_hp {D : Oid → Prop} {p : Oid} {u : Ty} (xss : List (List u.D)) (h : ∀ k, k < xss.length → D (kid p k)) : AV.hpL D (hdL p u xss) := by
  have key : ∀ l : List (List u.D × Nat), (∀ x ∈ l, D (kid p x.2)) → AV.hpL D (l.map fun x => .own (kid p x.2) u 0 x.1.length) := by
    intro l
    induction l with
    | nil => intro _; trivial
    | cons x l ih => intro h; exact ⟨h x (by simp), ih fun y hy => h y (by simp [hy])⟩
  refine key _ fun x hx => h _ ?_
  obtain ⟨row, k⟩ := x
  rw [List.mem_zipIdx_iff_getElem?] at hx
  exact (List.getElem?_eq_some_iff.1 hx).1
theorem clo1_P {D : List Oid} (o : Ob) (h : o.clo1 D = true) (hp : o.isPool = false) (hm : ∀ e p u xss, o ≠ .mat e p u xss) : o.exp.cloP (· ∈ D) := by
  cases o with
  | cells _ cs => exact AV.cloPL_of cs h
  | vec _ _ _ cs => exact AV.cloPL_of cs h
  | mat e p u xss => exact absurd rfl (hm _ _ _ _)
  | arr _ _ _ => trivial
  | map _ _ _ => trivial
  | pool _ _ _ => cases hp
theorem hp1_P {D : List Oid} (o : Ob) (h : o.hp1 D = true) (hp : o.isPool = false) (hm : ∀ e p u xss, o ≠ .mat e p u xss) : o.exp.hp (· ∈ D) := by
  cases o with
  | cells _ cs => exact AV.hpB_PL cs h
  | vec _ _ _ cs => exact AV.hpB_PL cs h
  | mat e p u xss => exact absurd rfl (hm _ _ _ _)
  | arr _ _ _ => trivial
  | map _ _ _ => trivial
  | pool _ _ _ => cases hp
theorem cloP_mono {D E : Oid → Prop} (hd : ∀ i, D i → E i) (o : Ob) (h : o.cloP D) : o.cloP E := by
  cases o <;> first | exact AV.cloPL_mono hd _ h | exact h
theorem hp_mono {D E : Oid → Prop} (hd : ∀ i, D i → E i) (o : Ob) (h : o.hp D) : o.hp E := by
  cases o <;> first | exact AV.hpL_mono hd _ h | exact h
section
variable {P : Program} {G : World → Prop} (hfol : P.follows .mixedOrders = true) {g : FuncId} {fn : Func} (hf : P.funcs[g]? = some fn) {ac : AC} {rs : List Res} (hc : compiled P fn = some (ac, rs)) {args : List AV} {r : RV} {n : Nat} (hN : fn.ntmps = n) (hn : args.length ≤ n)
include hfol hf hc hN hn
theorem call_of_ [IsP P] {tl : List (Nat × AV)} (htl : tmL 0 args = tl) (h : awp P G ac (fun e S => ∃ S', Weak S S' ∧ (e = .normal ∨ e = .ret) ∧ RetOK [] rs S' r) ⟨mkTm tl, mkOb [], 1⟩) : CallOK P G g args r := by
  refine call_of hfol hf hc hN hn ?_
  rw [St.init_eq, htl]
  exact h
theorem call_of_g_ [IsP P] (h : ∀ (im : Nat → Prop) (w : World) (vs : List Value), AV.RepL (fun _ => none) im w args vs → awp P G ac (fun e S => ∃ S', Weak S S' ∧ (e = .normal ∨ e = .ret) ∧ RetOK vs rs S' r) ⟨mkTm (tmL 0 (tagL args vs)), mkOb [], 1⟩) : CallOK P G g args r := by
  refine call_of_g hfol hf hc hN hn fun im w vs hr => ?_
  rw [St.init_eq]
  exact h im w vs hr
omit hN hn in
theorem callM_of_ [IsP P] (hN : fn.ntmps = n) (hn : args.length ≤ n) {tl : List (Nat × AV)} (htl : tmL 0 args = tl) {ol us : List (Oid × Ob)} {v : AV} (hB : formB ol us args v = true) (hm1 : MatsIn ol ol) (hm2 : MatsIn us us)
    (h : awp P G ac (fun e S => ∃ S', Weak S S' ∧ (e = .normal ∨ e = .ret) ∧ (∃ rvs, Res.evL S'.tm S'.ob rs = some rvs ∧ v = resA rvs) ∧ ∀ q ∈ exL us, S'.ob q.1 = some q.2) ⟨mkTm tl, mkOb (someL ol), 1⟩) : CallM P G g args ol v us := by
  simp only [formB, Bool.and_eq_true] at hB
  obtain ⟨⟨a1, a2, a3, a4, a5, a6⟩, b1, b2, b3, b4⟩ := hB
  rw [List.all_eq_true] at a3 a4 b1 b2
  have h0 : ∀ {l : List (Oid × Ob)}, base0 l = true → ∀ q ∈ l, q.1.1.2 = 0 := fun h q hq => by
    unfold base0 at h
    rw [List.all_eq_true] at h
    have := h q hq
    simp only [Bool.and_eq_true, beq_iff_eq] at this
    exact this.1
  refine callM_of hfol hf hc hN hn (fun q hq => ?_) (ex_nd (ndB_spec a5) (ndB_spec a6) (h0 a2)) (fun q hq => ?_) (AV.cloPL_mono (fun i hi => names_nm hi) _ (AV.cloPL_of args b3)) (AV.hp_mono (fun i hi => names_nm hi) _ (AV.hpB_P v b4)) ?_
  · rcases exL_mem hq with ⟨p, e, u, xss, k, row, m1, m2, rfl⟩ | ⟨o, m1, m2, m3⟩
    · have := a3 _ m1
      rw [beq_iff_eq] at this
      exact ⟨this, trivial⟩
    · have := a3 _ m1
      refine ⟨by simpa using this, ?_⟩
      rw [m3]
      by_cases hmt : ∃ e p u xss, o = .mat e p u xss
      · obtain ⟨e, p, u, xss, rfl⟩ := hmt
        obtain ⟨e', hp⟩ := matsIn_mem hm1 _ _ _ _ _ m1
        exact hdL_cl xss fun k hk => pool_nm hp k hk
      · exact cloP_mono (fun i hi => names_nm hi) _ (clo1_P o (b1 _ m1) m2 fun e p u xss h => hmt ⟨e, p, u, xss, h⟩)
  · rcases exL_mem hq with ⟨p, e, u, xss, k, row, m1, m2, rfl⟩ | ⟨o, m1, m2, m3⟩
    · have := a4 _ m1
      simp only [Ob.isPool, Bool.not_true, Bool.false_and, Bool.or_false, beq_iff_eq] at this
      exact ⟨.inl this, trivial⟩
    · have := a4 _ m1
      simp only [Bool.or_eq_true, Bool.and_eq_true, beq_iff_eq] at this
      refine ⟨this.imp id fun h => names_nm (List.contains_iff_mem.1 h.2), ?_⟩
      rw [m3]
      by_cases hmt : ∃ e p u xss, o = .mat e p u xss
      · obtain ⟨e, p, u, xss, rfl⟩ := hmt
        obtain ⟨e', hp⟩ := matsIn_mem hm2 _ _ _ _ _ m1
        exact hdL_hp xss fun k hk => pool_nm hp k hk
      · exact hp_mono (fun i hi => names_nm hi) _ (hp1_P o (b2 _ m1) m2 fun e p u xss h => hmt ⟨e, p, u, xss, h⟩)
  · rw [tm_init, htl]
    exact h
end
theorem ret_ {rs : List Res} {f : Nat → AV} {ob : Oid → Option Ob} {g : Nat} {r : RV} (avs : List AV) {vs : List Value} {e : AE} (h2 : PartsR vs ob avs r.ps) (he : e = .normal ∨ e = .ret := by simp) (h1 : Res.evL f ob rs = some avs := by kernel_rfl) (h3 : ndB (idsR ob (flatA avs)) = true := by kernel_rfl) (h4 : r.tup = decide (rs.length ≠ 1) := by kernel_rfl) : ∃ S', Weak ⟨f, ob, g⟩ S' ∧ (e = .normal ∨ e = .ret) ∧ RetOK vs rs S' r :=
  ⟨_, Weak.refl _, he, avs, r.ps, h1, h2, ndB_spec h3, by cases r; cases h4; rfl⟩
theorem retM_ {rs : List Res} {S : St} {tl : List (Nat × AV)} {g : Nat} {v : AV} {us : List (Oid × Ob)} {e : AE} (rvs : List AV) (hw : Weak S ⟨mkTm tl, mkOb (someL us), g⟩) (he : e = .normal ∨ e = .ret := by simp) (h1 : Res.evL (mkTm tl) (mkOb (someL us)) rs = some rvs := by kernel_rfl) (hv : v = resA rvs := by kernel_rfl) (h2 : (base0 us && (ndB (namesN us) && ndB (namesP us))) = true := by kernel_rfl) :
    ∃ S', Weak S S' ∧ (e = .normal ∨ e = .ret) ∧ (∃ rvs, Res.evL S'.tm S'.ob rs = some rvs ∧ v = resA rvs) ∧ ∀ q ∈ exL us, S'.ob q.1 = some q.2 := by
  refine ⟨_, hw, he, ⟨rvs, h1, hv⟩, fun q hq => ?_⟩
  simp only [Bool.and_eq_true] at h2
  obtain ⟨a1, a2, a3⟩ := h2
  have h0 : ∀ q ∈ us, q.1.1.2 = 0 := fun q hq => by
    unfold base0 at a1
    rw [List.all_eq_true] at a1
    have := a1 q hq
    simp only [Bool.and_eq_true, beq_iff_eq] at this
    exact this.1
  have := mkOb_found (rest := []) (ndB_spec a2) (ndB_spec a3) (fun p hp => by obtain ⟨e, u, xss, hm⟩ := ofP0 hp; exact h0 _ hm) (fun i hi p hp k e => by
    obtain ⟨o, ho, _⟩ := ofN0 hi
    have := h0 _ ho
    rw [e] at this
    simp [kid] at this) q hq
  rwa [List.append_nil] at this
section
variable {vs : List Value} {ob : Oid → Option Ob}
theorem p_agg {cs r : List AV} {ls : List RL} {ps : List (Bool × List RL)} (h1 : LeavesR vs ob cs ls) (h2 : PartsR vs ob r ps) : PartsR vs ob (.agg cs :: r) ((true, ls) :: ps) := ⟨ls, ps, rfl, h1, h2⟩
theorem p_one {c : AV} {r : List AV} {l : RL} {ps : List (Bool × List RL)} (hc : c.one = true) (h1 : LeafR vs ob c l) (h2 : PartsR vs ob r ps) : PartsR vs ob (c :: r) ((false, [l]) :: ps) := by
  rw [PartsR_one (by rintro ⟨_, rfl⟩; cases hc)]
  exact ⟨l, ps, rfl, h1, h2⟩
theorem p_nil : PartsR vs ob [] [] := rfl
theorem l_cons {c : AV} {cs : List AV} {l : RL} {ls : List RL} (h1 : LeafR vs ob c l) (h2 : LeavesR vs ob cs ls) : LeavesR vs ob (c :: cs) (l :: ls) := ⟨l, ls, rfl, h1, h2⟩
theorem l_nil : LeavesR vs ob [] [] := rfl
theorem l_sc {c : AV} {l : RL} (h : leafOf ob c = some l) : LeafR vs ob c l := .inl (.inl h)
theorem l_own {i : Oid} {t u : Ty} {e : TypeId} {xs : List u.D} {len : Nat} (h : ob i = some (.arr e u xs)) (hl : len = xs.length) : LeafR vs ob (.own i t 0 len) (.new e u xs) := by
  subst hl
  exact .inl (.inl (by simp only [leafOf, h, Nat.le_refl, and_self, if_true, List.take_length]))
theorem l_part {i : Oid} {t u : Ty} {e : TypeId} {xs : List u.D} {len : Nat} (h : ob i = some (.arr e u xs)) (hl : len ≤ xs.length) : LeafR vs ob (.own i t 0 len) (.new e u (xs.take len)) :=
  .inl (.inl (by simp only [leafOf, h, hl, and_self, if_true]))
theorem l_arg {v : Value} {t : Ty} {xs : List t.D} {i : Nat} {k : Option Nat} (h : compV vs i k = some v) : LeafR vs ob (.giv v t xs) (.arg i k) := .inl (.inr (.inl ⟨v, t, xs, i, k, rfl, rfl, h⟩))
theorem l_nils {e : TypeId} {t : Ty} (h : t.flat = true) : LeafR vs ob .nils (.new e t []) := .inl (.inr (.inr ⟨e, t, rfl, rfl, h⟩))
end
end Go.Proofs.YtefolocdfgelcaaDoor
