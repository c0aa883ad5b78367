/- Programs without dead instructions: what the partial functions come to, and the law; no condition. -/
import Derived.Test.YtomijolkdmaimaaDoorDDA
import Derived.Test.YtomijolkdmaimaaDoorLivP
namespace Go.Proofs.YtomijolkdmaimaaDoor
/-- The instructions whose register is live behind them, or that write none. -/
def dropF : List Ins → List Ins
  | [] => []
  | e :: r => if (wrE e && !liveB r e.2.1) = true then dropF r else e :: dropF r
theorem dropF_len : ∀ c : List Ins, (dropF c).length ≤ c.length
  | [] => Nat.le_refl _
  | e :: r => by
    have := dropF_len r
    unfold dropF; split <;> simp <;> omega
theorem dropF_mem : ∀ {c : List Ins} {e : Ins}, e ∈ dropF c → e ∈ c
  | x :: r, e, h => by
    unfold dropF at h
    split at h
    · exact List.mem_cons_of_mem _ (dropF_mem h)
    · rcases List.mem_cons.1 h with rfl | h
      · exact List.mem_cons_self ..
      · exact List.mem_cons_of_mem _ (dropF_mem h)
theorem dropF_same : ∀ {c : List Ins}, (dropF c).length = c.length → dropF c = c
  | [], _ => rfl
  | e :: r, h => by
    have h1 := dropF_len r
    unfold dropF at h ⊢
    split at h
    · simp at h; omega
    · rename_i hn
      rw [if_neg hn, dropF_same (by simpa using h)]
def dropAll : Nat → List Ins → List Ins
  | 0, c => c
  | n + 1, c => if (dropF c).length = c.length then c else dropAll n (dropF c)
theorem dropAll_len : ∀ (n : Nat) (c : List Ins), (dropAll n c).length ≤ c.length
  | 0, _ => Nat.le_refl _
  | n + 1, c => by
    unfold dropAll; split
    · exact Nat.le_refl _
    · exact Nat.le_trans (dropAll_len n _) (dropF_len c)
theorem okR_drop {c : List Ins} (h : okR c) : okR (dropF c) := fun e he => h e (dropF_mem he)
section
variable {code : List Ins}
theorem P_dropSpec_l2 (hc : code.length ≤ 200) (hk : okR code) : loopM (fun s_ : Bool × Nat × List Ins => L_spec_DropDead_l2 code s_.1 s_.2.1 s_.2.2) 4611686018427387904 (false, 0, []) = some (decide ((dropF code).length < code.length), dropF code) := by
  refine loopM_eq code.length (fun (i : Nat) (s : Bool × Nat × List Ins) => s.2.1 = i ∧ s.2.2 ++ dropF (code.drop i) = dropF code ∧ s.2.2.length ≤ i ∧ s.1 = decide (s.2.2.length < i)) (by omega) _ ⟨rfl, by simp, by simp, by simp⟩ ?_ ?_
  · rintro i ⟨ag, k, nx⟩ hi ⟨h1, h2, h3, h4⟩
    dsimp only at h1 h2 h3 h4 ⊢
    subst k
    have hg := List.getElem?_eq_getElem hi
    have hd : code.drop i = code[i] :: code.drop (i + 1) := List.drop_eq_getElem_cons hi
    generalize code[i] = e at hg hd
    rw [hd] at h2
    have hk1 : i + 1 < 4611686018427387904 := by omega
    have ho : nx.length + 1 ≤ 1073741824 ∧ (nx.length + 1) * 40 ≤ 140737488355328 := by omega
    unfold L_spec_DropDead_l2
    rw [dec_t (by omega), cond_true, hg, Option.bind_some, P_cmWrites, Option.bind_some]
    refine .inl ?_
    cases hw : wrE e
    · rw [show dropF (e :: code.drop (i + 1)) = e :: dropF (code.drop (i + 1)) by rw [dropF, hw]; rfl] at h2
      refine ⟨(ag, i + 1, nx ++ [e]), ?_, rfl, by simpa using h2, by simp; omega, by dsimp only; rw [h4, List.length_append]; simp⟩
      simp only [cond_false, Option.bind_some]
      rw [og_true ho, Option.bind_some, og_true hk1]
    · have hlive := P_cmLive (code := code) (at_ := ((i + 1 : Nat) : Int)) hc (by omega) hk
      rw [Int.toNat_natCast] at hlive
      have hkd : okR (code.drop (i + 1)) := fun x hx => hk x (List.mem_of_mem_drop hx)
      have hany : (liveL (code.drop (i + 1)) 16).any (fun x => x == e.2.1) = liveB (code.drop (i + 1)) e.2.1 := by
        cases hb : liveB (code.drop (i + 1)) e.2.1
        · rw [List.any_eq_false]
          intro x hx he
          rw [beq_iff_eq] at he
          subst he
          rw [(liveL_mem hkd _).1 hx] at hb; cases hb
        · rw [List.any_eq_true]
          exact ⟨_, (liveL_mem hkd _).2 hb, by simp⟩
      have hll : (liveL (code.drop (i + 1)) 16).length ≤ 1099511627776 := by
        refine Nat.le_trans (List.length_filter_le _ _) ?_
        simp
      simp only [cond_true]
      rw [og_true hk1, hlive, Option.bind_some, P_l1Has _ _ hll, hany, Option.bind_some, Option.bind_some]
      cases hb : liveB (code.drop (i + 1)) e.2.1
      · rw [show dropF (e :: code.drop (i + 1)) = dropF (code.drop (i + 1)) by rw [dropF, hw, hb]; rfl] at h2
        refine ⟨(true, i + 1, nx), by simp [og_true hk1], rfl, h2, by dsimp only; omega, ?_⟩
        exact (decide_eq_true (show nx.length < i + 1 by omega)).symm
      · rw [show dropF (e :: code.drop (i + 1)) = e :: dropF (code.drop (i + 1)) by rw [dropF, hw, hb]; rfl] at h2
        refine ⟨(ag, i + 1, nx ++ [e]), ?_, rfl, by simpa using h2, by simp; omega, by dsimp only; rw [h4, List.length_append]; simp⟩
        simp only [Bool.not_true, cond_false]
        rw [og_true ho, Option.bind_some, og_true hk1]
  · rintro ⟨ag, k, nx⟩ ⟨h1, h2, h3, h4⟩
    dsimp only at h1 h2 h3 h4 ⊢
    subst k
    rw [List.drop_length] at h2
    have h2 : nx = dropF code := by simpa [dropF] using h2
    subst h2
    unfold L_spec_DropDead_l2
    rw [dec_f (by omega), cond_false, h4]
theorem P_dropImpl_l2 {m : List (List Int)} (hc : code.length ≤ 200) (hk : okR code) (hm : ∀ k, k ≤ code.length → m[k]? = some (liveV (code.drop k))) : loopM (fun s_ : Nat × List Ins => L_impl_DropDead_l2 code m s_.1 s_.2) 4611686018427387904 (0, []) = some (dropF code) := by
  refine loopM_eq code.length (fun (i : Nat) (s : Nat × List Ins) => s.1 = i ∧ s.2 ++ dropF (code.drop i) = dropF code ∧ s.2.length ≤ i) (by omega) _ ⟨rfl, by simp, by simp⟩ ?_ ?_
  · rintro i ⟨k, nx⟩ hi ⟨h1, h2, h3⟩
    dsimp only at h1 h2 h3 ⊢
    subst k
    have hg := List.getElem?_eq_getElem hi
    have hd : code.drop i = code[i] :: code.drop (i + 1) := List.drop_eq_getElem_cons hi
    have he := hk _ (List.getElem_mem hi)
    generalize code[i] = e at hg hd he
    rw [hd] at h2
    have hk1 : i + 1 < 4611686018427387904 := by omega
    have ho : nx.length + 1 ≤ 1073741824 ∧ (nx.length + 1) * 40 ≤ 140737488355328 := by omega
    unfold L_impl_DropDead_l2
    rw [dec_t (by omega), cond_true, hg, Option.bind_some, P_writes he.1, Option.bind_some]
    refine .inl ?_
    cases hw : wrE e
    · rw [show dropF (e :: code.drop (i + 1)) = e :: dropF (code.drop (i + 1)) by rw [dropF, hw]; rfl] at h2
      refine ⟨(i + 1, nx ++ [e]), ?_, rfl, by simpa using h2, by simp; omega⟩
      simp only [Bool.not_false, cond_true, Option.bind_some]
      rw [og_true ho, Option.bind_some, og_true hk1]
    · have hkd : okR (code.drop (i + 1)) := fun x hx => hk x (List.mem_of_mem_drop hx)
      have hr := liveV_get hkd e.2.1.toNat (by omega)
      rw [show ((e.2.1.toNat : Nat) : Int) = e.2.1 by omega] at hr
      simp only [Bool.not_true, cond_false]
      rw [og_true hk1, hm (i + 1) (by omega), Option.bind_some, og_true (by omega), getI_nat he.2.1.1, hr, Option.bind_some, Option.bind_some]
      cases hb : liveB (code.drop (i + 1)) e.2.1
      · rw [show dropF (e :: code.drop (i + 1)) = dropF (code.drop (i + 1)) by rw [dropF, hw, hb]; rfl] at h2
        refine ⟨(i + 1, nx), by simp [og_true hk1], rfl, h2, by dsimp only; omega⟩
      · rw [show dropF (e :: code.drop (i + 1)) = e :: dropF (code.drop (i + 1)) by rw [dropF, hw, hb]; rfl] at h2
        refine ⟨(i + 1, nx ++ [e]), ?_, rfl, by simpa using h2, by simp; omega⟩
        simp only [cond_true, beq_self_eq_true]
        rw [og_true ho, Option.bind_some, og_true hk1]
  · rintro ⟨k, nx⟩ ⟨h1, h2, h3⟩
    dsimp only at h1 h2 h3 ⊢
    subst k
    rw [List.drop_length] at h2
    have h2 : nx = dropF code := by simpa [dropF] using h2
    subst h2
    unfold L_impl_DropDead_l2
    rw [dec_f (by omega), cond_false]
end
theorem loopM_next {α β : Type} {body : α → Option (Ctl α β)} {F : Nat} {s s' : α} (h : body s = some (.next s')) : loopM body (F + 1) s = loopM body F s' := by simp only [loopM, h, Option.bind_some, Ctl.then]
theorem loopM_out {α β : Type} {body : α → Option (Ctl α β)} {F : Nat} {s : α} {r : β} (h : body s = some (.out r)) : loopM body (F + 1) s = some r := by simp only [loopM, h, Option.bind_some, Ctl.then]
theorem P_dropSpec : ∀ (m : Nat) (code : List Ins) (F : Nat), code.length ≤ m → code.length ≤ 200 → okR code → m + 2 ≤ F → loopM (fun s_ : Bool × List Ins => L_spec_DropDead_l1 s_.1 s_.2) F (true, code) = some (dropAll m code)
  | m, code, F, h1, h2, hk, hF => by
    obtain ⟨F, rfl⟩ : ∃ F', F = F' + 2 := ⟨F - 2, by omega⟩
    have hb : L_spec_DropDead_l1 true code = some (Ctl.next (decide ((dropF code).length < code.length), dropF code)) := by
      unfold L_spec_DropDead_l1
      rw [cond_true, P_dropSpec_l2 h2 hk]; rfl
    rw [loopM_next (s' := (decide ((dropF code).length < code.length), dropF code)) hb]
    have hle := dropF_len code
    by_cases he : (dropF code).length = code.length
    · have hs := dropF_same he
      rw [decide_eq_false (by omega), hs, loopM_out (r := code) (by rfl)]
      cases m with
      | zero => rfl
      | succ m => rw [dropAll, if_pos he]
    · rw [decide_eq_true (by omega)]
      cases m with
      | zero => omega
      | succ m =>
        rw [dropAll, if_neg he]
        exact P_dropSpec m (dropF code) (F + 1) (by omega) (by omega) (okR_drop hk) (by omega)
theorem P_dropImpl {i o c g : Int} : ∀ (m : Nat) (code : List Ins) (F : Nat), code.length ≤ m → code.length ≤ 200 → okR code → m + 2 ≤ F → loopM (fun s_ : List Ins => L_impl_DropDead_l1 i o c g s_) F code = some (i, o, c, g, dropAll m code, true)
  | m, code, F, h1, h2, hk, hF => by
    obtain ⟨F, rfl⟩ : ∃ F', F = F' + 2 := ⟨F - 2, by omega⟩
    obtain ⟨ro, m1, m2, m3⟩ := P_live (x1 := i) (x2 := o) (x3 := c) (x4 := g) h2 hk
    have hle := dropF_len code
    have hb : L_impl_DropDead_l1 i o c g code = cond (((dropF code).length : Int) == (code.length : Int)) (some (Ctl.out (i, o, c, g, code, true))) (some (Ctl.next (dropF code))) := by
      unfold L_impl_DropDead_l1
      rw [m1, Option.bind_some, P_dropImpl_l2 h2 hk m3]; rfl
    by_cases he : (dropF code).length = code.length
    · rw [loopM_out (r := (i, o, c, g, code, true)) (by rw [hb, he, beq_self_eq_true, cond_true])]
      cases m with
      | zero => rfl
      | succ m => rw [dropAll, if_pos he]
    · have hne : (((dropF code).length : Int) == (code.length : Int)) = false := beq_eq_false_iff_ne.2 (by omega)
      rw [loopM_next (s' := dropF code) (by rw [hb, hne, cond_false])]
      cases m with
      | zero => omega
      | succ m =>
        rw [dropAll, if_neg he]
        exact P_dropImpl m (dropF code) (F + 1) (by omega) (by omega) (okR_drop hk) (by omega)
section
variable {p i o c g : Int} {code : List Ins}
def drpV (p i o c g : Int) (code : List Ins) : Int × Int × Int × Int × List Ins × Bool :=
  if prgP p i o c g code = true then (i, o, c, g, dropAll 200 code, true) else (0, 0, 0, 0, [], false)
theorem P_specDrop (h1 : code.length ≤ 1073741824) : L_spec_DropDead p i o c g code = some (drpV p i o c g code) := by
  unfold L_spec_DropDead drpV
  rw [P_cmGood (by omega), Option.bind_some]
  cases hg : prgP p i o c g code
  · simp
  have G := prgP_iff.1 hg
  have hl := G.hl
  rw [Bool.not_true, cond_false, og_true (by omega), P_dropSpec 200 code _ (by omega) (by omega) (okR_of G) (by omega)]
  rfl
theorem P_implDrop (h1 : code.length ≤ 1073741824) : L_impl_DropDead p i o c g code = some (drpV p i o c g code) := by
  unfold L_impl_DropDead drpV L_slices_Clone_impl_Instr_impl_Instr
  rw [P_isProgram (by omega), Option.bind_some]
  cases hg : prgP p i o c g code
  · simp
  have G := prgP_iff.1 hg
  have hl := G.hl
  rw [Bool.not_true, cond_false, og_true (by omega), Option.bind_some, P_dropImpl 200 code _ (by omega) (by omega) (okR_of G) (by omega)]
  rfl
theorem drpV_bd (h1 : code.length ≤ 1073741824) : (drpV p i o c g code).2.2.2.2.1.length ≤ 1073741824 := by
  unfold drpV
  split
  · exact Nat.le_trans (dropAll_len _ _) h1
  · simp
end
/-- The law. -/
theorem P_lawDrop {p i o c g : Int} {code : List Ins} (h1 : code.length ≤ 9223372036854775807) : L_laws_FnExactDropDead p i o c g code = some true := by
  unfold L_laws_FnExactDropDead
  rw [P_szProgram i o c g code (by omega) h1, Option.bind_some]
  by_cases e0 : (1048576 : Int) < ((code.length : Nat) : Int)
  · rw [show szV 1048576 code.length = -1 from if_pos e0]; rfl
  rw [show szV 1048576 code.length = 1048576 - ((code.length : Nat) : Int) from if_neg e0, dec_f (by omega), cond_false]
  have h1 : code.length ≤ 1073741824 := by omega
  have hs := P_specDrop (p := p) (i := i) (o := o) (c := c) (g := g) h1
  have hi := P_implDrop (p := p) (i := i) (o := o) (c := c) (g := g) h1
  have hv := drpV_bd (p := p) (i := i) (o := o) (c := c) (g := g) h1
  generalize drpV p i o c g code = v at hs hi hv
  obtain ⟨v1, v2, v3, v4, va, vo⟩ := v
  dsimp only at hv
  obtain ⟨b1, u1, c1, d1, m1, x1, k1⟩ := P_markProgram i o c g code (v := 1) (by omega) h1
  obtain ⟨b4, u4, c4, d4, m4, x4, k4⟩ := P_markProgram v1 v2 v3 v4 va (v := 1) (by omega) hv
  simp only [P_toProgram i o c g code h1, hs, hi, Option.bind_some, P_eqProgram v1 v2 v3 v4 va hv, P_eqProgram i o c g code h1, m1, m4, k4, og_true x1, og_true x4, bne_self_eq_false, Bool.not_true, cond_false, dec_f (show ¬ u1 < 0 by omega), dec_f (show ¬ u4 < 0 by omega)]
end Go.Proofs.YtomijolkdmaimaaDoor
