/- One step of a circuit: what the partial functions come to, and the law; no condition. -/
import Derived.Test.YthjdknddcceigaaDoorSCA
import Derived.Test.YthjdknddcceigaaDoorCirG
namespace Go.Proofs.YthjdknddcceigaaDoor
def inP (p : Int) (l : List Int) : Prop := ∀ x ∈ l, 0 ≤ x ∧ x < p
theorem inP_gt {p : Int} {l : List Int} (h : inP p l) {x : Int} (hx : 0 ≤ x ∧ x < l.length) : 0 ≤ gtD l x ∧ gtD l x < p := by
  have hx' : x.toNat < l.length := by omega
  rw [gtD, List.getD_eq_getElem?_getD, List.getElem?_eq_getElem hx']
  exact h _ (List.getElem_mem hx')
theorem inP_set {p : Int} {l : List Int} (h : inP p l) {k : Nat} {v : Int} (hv : 0 ≤ v ∧ v < p) : inP p (l.set k v) := fun y hy => by
  rcases List.mem_or_eq_of_mem_set hy with h1 | rfl
  · exact h y h1
  · exact hv
def vecB (p : Int) (xs : List Int) (n : Int) : Bool := ((xs.length : Nat) : Int) == n && xs.all fun x => inR x 0 (p - 1)
theorem vecB_iff {p n : Int} {xs : List Int} : vecB p xs n = true ↔ ((xs.length : Nat) : Int) = n ∧ inP p xs := by
  simp only [vecB, Bool.and_eq_true, beq_iff_eq, List.all_eq_true, inR_true, inP]
  constructor
  · rintro ⟨h1, h2⟩; exact ⟨h1, fun x hx => by have := h2 x hx; omega⟩
  · rintro ⟨h1, h2⟩; exact ⟨h1, fun x hx => by have := h2 x hx; omega⟩
/-- Cells set one by one. -/
def foldS (ps : List (Nat × Int)) (v : List Int) : List Int := ps.foldl (fun v e => v.set e.1 e.2) v
theorem foldS_len : ∀ (ps : List (Nat × Int)) (v : List Int), (foldS ps v).length = v.length
  | [], _ => rfl
  | a :: ps, v => by
    show (foldS ps (v.set a.1 a.2)).length = _
    rw [foldS_len ps, List.length_set]
theorem foldS_one : ∀ (ps : List (Nat × Int)) (v : List Int) (i : Nat) (x : Int), (∀ a ∈ ps, a.1 ≠ i) → foldS ps (v.set i x) = (foldS ps v).set i x
  | [], _, _, _, _ => rfl
  | a :: ps, v, i, x, h => by
    show foldS ps ((v.set i x).set a.1 a.2) = (foldS ps (v.set a.1 a.2)).set i x
    rw [List.set_comm _ _ (fun e => h a (List.mem_cons_self ..) e.symm), foldS_one ps _ i x fun b hb => h b (List.mem_cons_of_mem _ hb)]
theorem foldS_comm : ∀ (qs ps : List (Nat × Int)) (v : List Int), (∀ a ∈ ps, ∀ b ∈ qs, a.1 ≠ b.1) → foldS ps (foldS qs v) = foldS qs (foldS ps v)
  | [], _, _, _ => rfl
  | b :: qs, ps, v, h => by
    show foldS ps (foldS qs (v.set b.1 b.2)) = foldS qs ((foldS ps v).set b.1 b.2)
    rw [foldS_comm qs ps _ fun a ha c hc => h a ha c (List.mem_cons_of_mem _ hc), foldS_one ps v b.1 b.2 fun a ha => h a ha b (List.mem_cons_self ..)]
theorem foldS_app (ps qs : List (Nat × Int)) (v : List Int) : foldS (ps ++ qs) v = foldS qs (foldS ps v) := List.foldl_append
theorem foldS_inP {p : Int} : ∀ (ps : List (Nat × Int)) (v : List Int), (∀ a ∈ ps, 0 ≤ a.2 ∧ a.2 < p) → inP p v → inP p (foldS ps v)
  | [], _, _, h => h
  | a :: ps, v, ha, h => foldS_inP ps _ (fun b hb => ha b (List.mem_cons_of_mem _ hb)) (inP_set h (ha a (List.mem_cons_self ..)))
section
variable {p i : Int} {gs : List Gt} {outs st ins : List Int}
theorem gtG_nat {k : Nat} {e : Gt} (h : gs[k]? = some e) : gtG gs (k : Int) = e := by
  rw [gtG, Int.toNat_natCast, List.getD_eq_getElem?_getD, h]; rfl
def dlL (gs : List Gt) (k : Nat) : List Int := ((List.range k).map fun t : Nat => (t : Int)).filter fun x => (gtG gs x).1 == 5
def dl (gs : List Gt) : List Int := dlL gs gs.length
theorem dlL_succ (k : Nat) : dlL gs (k + 1) = dlL gs k ++ (if (gtG gs (k : Int)).1 == 5 then [(k : Int)] else []) := by
  unfold dlL
  rw [List.range_succ, List.map_append, List.filter_append]
  congr 1
  simp only [List.map_cons, List.map_nil, List.filter_cons, List.filter_nil]
theorem dlL_len (k : Nat) : (dlL gs k).length ≤ k := by
  refine Nat.le_trans (List.length_filter_le _ _) ?_
  simp
theorem dl_mem {x : Int} (h : x ∈ dl gs) : (0 ≤ x ∧ x < gs.length) ∧ (gtG gs x).1 = 5 := by
  unfold dl dlL at h
  obtain ⟨h1, h2⟩ := List.mem_filter.1 h
  obtain ⟨t, ht, rfl⟩ := List.mem_map.1 h1
  have := List.mem_range.1 ht
  exact ⟨by omega, by simpa using h2⟩
theorem P_crDelays (hn : gs.length ≤ 40) : L_spec_crDelays i gs outs = some (dl gs) := by
  unfold L_spec_crDelays
  rw [loopM_det (s0 := (0, [])) gs.length (fun k => (k, dlL gs k)) (by omega) (dl gs) rfl (fun k hk => ?_) ?_]
  · rfl
  · try dsimp only
    unfold L_spec_crDelays_l1
    rw [dec_f (by omega), cond_false]; rfl
  · have hx := List.getElem?_eq_getElem hk
    have hg := gtG_nat hx
    have hl := dlL_len (gs := gs) k
    have ho : (dlL gs k).length + 1 ≤ 1073741824 ∧ ((dlL gs k).length + 1) * 8 ≤ 140737488355328 := by omega
    try dsimp only
    unfold L_spec_crDelays_l1
    rw [dec_t (by omega), cond_true, hx, Option.bind_some, dlL_succ, hg]
    cases hb : gs[k].1 == 5
    · simp [og_true (show k + 1 < 4611686018427387904 by omega)]
    · simp only [cond_true, if_true]
      rw [og_true ho, Option.bind_some, og_true (by omega)]
theorem P_delays (hn : gs.length ≤ 40) : L_impl_Circuit_delays i gs outs = some (dl gs) := P_crDelays (i := i) (outs := outs) hn
def psA (gs : List Gt) (ins : List Int) (k : Nat) : List (Nat × Int) := ((List.range k).filter fun j : Nat => (gtG gs (j : Int)).1 == 1).map fun j : Nat => (j, gtD ins (gtG gs (j : Int)).2.2.2)
theorem psA_succ (k : Nat) : psA gs ins (k + 1) = psA gs ins k ++ (if (gtG gs (k : Int)).1 == 1 then [(k, gtD ins (gtG gs (k : Int)).2.2.2)] else []) := by
  unfold psA
  rw [List.range_succ, List.filter_append, List.map_append]
  congr 1
  simp only [List.filter_cons, List.filter_nil]
  cases (gtG gs (k : Int)).1 == 1 <;> rfl
def psB (ds st : List Int) (k : Nat) : List (Nat × Int) := (List.range k).map fun t : Nat => ((gtD ds (t : Int)).toNat, gtD st (t : Int))
theorem psB_succ {ds : List Int} (k : Nat) : psB ds st (k + 1) = psB ds st k ++ [((gtD ds (k : Int)).toNat, gtD st (k : Int))] := by
  unfold psB
  rw [List.range_succ, List.map_append]; rfl
theorem P_loopA (G : GoodC p i gs outs) (hi : ((ins.length : Nat) : Int) = i) {v : List Int} (hv : v.length = gs.length) : loopM (fun s_ : Nat × List Int => L_spec_crStep_l1 gs ins s_.1 s_.2) 4611686018427387904 (0, v) = some (foldS (psA gs ins gs.length) v) := by
  have hn := G.hn
  refine loopM_det gs.length (fun k => (k, foldS (psA gs ins k) v)) (by omega) _ rfl (fun k hk => ?_) ?_
  · have hx := List.getElem?_eq_getElem hk
    have hg := gtG_nat hx
    have hb := List.all_eq_true.1 G.ga _ (List.getElem_mem hk)
    have hin := gateB_input hb
    generalize gs[k] = e at hx hg hin
    have hl : (foldS (psA gs ins k) v).length = gs.length := by rw [foldS_len, hv]
    try dsimp only
    unfold L_spec_crStep_l1
    rw [dec_t (by omega), cond_true, hx, Option.bind_some, psA_succ, hg, foldS_app]
    by_cases h1 : e.1 = 1
    · have hval := hin h1
      rw [getI_gtD (l := ins) (by omega), List.getElem?_eq_getElem (by omega)]
      simp only [h1, beq_self_eq_true, cond_true, Option.bind_some, if_true]
      rw [og_true (by omega)]
      rfl
    · have b1 := beq_eq_false_iff_ne.2 h1
      simp only [b1, cond_false, Option.bind_some]
      rw [og_true (by omega)]
      rfl
  · try dsimp only
    unfold L_spec_crStep_l1
    rw [dec_f (by omega), cond_false]
theorem P_loopB {ds : List Int} (hn : gs.length ≤ 40) (hd : ∀ x ∈ ds, 0 ≤ x ∧ x < gs.length) (hs : st.length = ds.length) (hdl : ds.length ≤ 40) {v : List Int} (hv : v.length = gs.length) : loopM (fun s_ : Nat × List Int => L_spec_crStep_l2 ds st s_.1 s_.2) 4611686018427387904 (0, v) = some (foldS (psB ds st ds.length) v) := by
  refine loopM_det ds.length (fun k => (k, foldS (psB ds st k) v)) (by omega) _ rfl (fun k hk => ?_) ?_
  · have h1 : ds[k]? = some (gtD ds (k : Int)) := by have := getN_gtD (l := ds) (x := (k : Int)) (by omega); rwa [Int.toNat_natCast] at this
    have h2 : st[k]? = some (gtD st (k : Int)) := by have := getN_gtD (l := st) (x := (k : Int)) (by omega); rwa [Int.toNat_natCast] at this
    have hr := hd _ (List.mem_of_getElem? h1)
    have hl : (foldS (psB ds st k) v).length = gs.length := by rw [foldS_len, hv]
    try dsimp only
    unfold L_spec_crStep_l2
    rw [dec_t (by omega), cond_true, h1, Option.bind_some, h2, Option.bind_some, getI_gtD (by omega), Option.bind_some, og_true (by omega), psB_succ, foldS_app]
    rfl
  · try dsimp only
    unfold L_spec_crStep_l2
    rw [dec_f (by omega), cond_false]
def stepO (p : Int) (gs : List Gt) (v : List Int) (x : Int) : List Int :=
  if (gtG gs x).1 = 3 then v.set x.toNat ((gtD v (gtG gs x).2.1 + gtD v (gtG gs x).2.2.1) % p) else v.set x.toNat (((gtG gs x).2.2.2 * gtD v (gtG gs x).2.1) % p)
theorem stepO_len (v : List Int) (x : Int) : (stepO p gs v x).length = v.length := by unfold stepO; split <;> simp
theorem stepO_inP (hp : 2 ≤ p) {v : List Int} (h : inP p v) (x : Int) : inP p (stepO p gs v x) := by
  have m1 : ∀ x : Int, 0 ≤ x % p ∧ x % p < p := fun x => ⟨Int.emod_nonneg x (by omega), Int.emod_lt_of_pos x (by omega)⟩
  unfold stepO; split <;> exact inP_set h (m1 _)
theorem foldO_len : ∀ (os v : List Int), (os.foldl (stepO p gs) v).length = v.length
  | [], _ => rfl
  | x :: os, v => by rw [List.foldl_cons, foldO_len os, stepO_len]
theorem foldO_inP (hp : 2 ≤ p) : ∀ (os v : List Int), inP p v → inP p (os.foldl (stepO p gs) v)
  | [], _, h => h
  | x :: os, v, h => by rw [List.foldl_cons]; exact foldO_inP hp os _ (stepO_inP hp h x)
/-- Where an order leads: gates that combine. -/
def okO (gs : List Gt) (os : List Int) : Prop := ∀ x ∈ os, (0 ≤ x ∧ x < gs.length) ∧ cmG (gtG gs x) = true
theorem run_ok : ∀ (m : Nat) (dn : List Bool), dn.length = gs.length → (∀ (k : Nat) (e : Gt), gs[k]? = some e → dn.getD k true = false → cmG e = true) → okO gs (run gs m dn).1
  | 0, _, _, _ => fun x hx => by cases hx
  | m + 1, dn, hl, hc => by
    unfold run
    cases hx : nxt gs dn with
    | none => exact fun x hx => by cases hx
    | some j =>
      obtain ⟨h1, h2⟩ := nxt_some hx
      have hd := rdy_dn h2 hl
      intro x hx
      rcases List.mem_cons.1 hx with rfl | hx
      · have he := List.getElem?_eq_getElem h1
        refine ⟨by omega, ?_⟩
        rw [gtG_nat he]
        exact hc j _ he (by rw [List.getD_eq_getElem?_getD, hd]; rfl)
      · refine run_ok m (dn.set j true) (by simp [hl]) (fun k e hk hdk => ?_) x hx
        rw [getD_set (by omega)] at hdk
        by_cases e' : k = j
        · rw [if_pos e'] at hdk; cases hdk
        · rw [if_neg e'] at hdk; exact hc k e hk hdk
theorem ord_ok : okO gs (ordR gs).1 := run_ok gs.length (dn0 gs) (by simp [dn0]) fun k e hk hd => by
  have : (dn0 gs).getD k true = !cmG e := by simp [dn0, List.getD_eq_getElem?_getD, hk]
  rw [this] at hd
  simpa using hd
theorem ord_len (hn : gs.length ≤ 40) : (ordR gs).1.length ≤ 40 := by
  have := run_len (gs := gs) (m := gs.length) (dn := dn0 gs) (by simp [dn0]) (Nat.le_trans List.count_le_length (by simp [dn0]))
  unfold ordR; omega
theorem gate_of (G : GoodC p i gs outs) {x : Int} (hx : 0 ≤ x ∧ x < gs.length) (hc : cmG (gtG gs x) = true) : ((gtG gs x).1 = 3 ∧ (0 ≤ (gtG gs x).2.1 ∧ (gtG gs x).2.1 < gs.length) ∧ 0 ≤ (gtG gs x).2.2.1 ∧ (gtG gs x).2.2.1 < gs.length) ∨ ((gtG gs x).1 = 4 ∧ (0 ≤ (gtG gs x).2.1 ∧ (gtG gs x).2.1 < gs.length) ∧ 0 ≤ (gtG gs x).2.2.2 ∧ (gtG gs x).2.2.2 < p) := by
  have hb := gateB_ops (List.all_eq_true.1 G.ga _ (gtG_mem hx))
  generalize gtG gs x = e at hb hc
  simp only [cmG, Bool.or_eq_true, beq_iff_eq] at hc
  rcases hc with h3 | h4
  · exact .inl ⟨h3, hb.1 _ (by simp [opG, h3]), hb.1 _ (by simp [opG, h3])⟩
  · exact .inr ⟨h4, hb.1 _ (by simp [opG, h4]), hb.2.2 h4⟩
theorem P_loopO (G : GoodC p i gs outs) {os v : List Int} (hok : okO gs os) (hol : os.length ≤ 40) (hv : v.length = gs.length) (hvP : inP p v) : loopM (fun s_ : Nat × List Int => L_spec_crStep_l3 os gs p s_.1 s_.2) 4611686018427387904 (0, v) = some (os.foldl (stepO p gs) v) := by
  have hn := G.hn; have hp := G.hp
  rw [loopM_det (s0 := (0, v)) os.length (fun k => (k, (os.take k).foldl (stepO p gs) v)) (by omega) (os.foldl (stepO p gs) v) (by simp) (fun k hk => ?_) ?_]
  · try dsimp only
    unfold L_spec_crStep_l3
    rw [dec_f (by omega), cond_false, List.take_length]
  · have hx := List.getElem?_eq_getElem hk
    obtain ⟨hr, hc⟩ := hok _ (List.getElem_mem hk)
    generalize os[k] = x at hx hr hc
    have hgo := gate_of G hr hc
    have hl := foldO_len (p := p) (gs := gs) (os.take k) v
    have hP := foldO_inP (gs := gs) hp.1 (os.take k) v hvP
    rw [List.take_add_one, hx, List.foldl_append]
    generalize (os.take k).foldl (stepO p gs) v = u at hl hP
    show L_spec_crStep_l3 os gs p k u = some (Ctl.next (k + 1, stepO p gs u x))
    unfold L_spec_crStep_l3 stepO
    rw [dec_t (by omega), cond_true, hx, Option.bind_some, getI_gtG hr, Option.bind_some, getI_gtD (l := u) (x := x) (by omega)]
    generalize gtG gs x = e at hgo
    rcases hgo with ⟨h3, hA, hB⟩ | ⟨h4, hA, hV⟩
    · rw [getI_gtD (l := u) (x := e.2.1) (by omega), getI_gtD (l := u) (x := e.2.2.1) (by omega), if_pos h3]
      simp only [h3, beq_self_eq_true, cond_true, Option.bind_some]
      rw [P_fdAdd hp (inP_gt hP (by omega)) (inP_gt hP (by omega)), Option.bind_some, Option.bind_some, og_true (by omega)]
    · have h3 : e.1 ≠ 3 := by omega
      have b3 := beq_eq_false_iff_ne.2 h3
      rw [getI_gtD (l := u) (x := e.2.1) (by omega), if_neg h3, b3, cond_false, Option.bind_some, P_fdMul hp hV (inP_gt hP (by omega)), Option.bind_some, Option.bind_some, Option.bind_some, og_true (by omega)]
theorem P_loopO' (G : GoodC p i gs outs) {os v : List Int} {b : Bool} (hok : okO gs os) (hol : os.length ≤ 40) (hv : v.length = gs.length) (hvP : inP p v) : loopM (fun s_ : Nat × List Int => L_impl_Circuit_step_l3 (os, b) gs p s_.1 s_.2) 4611686018427387904 (0, v) = some (os.foldl (stepO p gs) v) := by
  have hn := G.hn; have hp := G.hp
  rw [loopM_det (s0 := (0, v)) os.length (fun k => (k, (os.take k).foldl (stepO p gs) v)) (by omega) (os.foldl (stepO p gs) v) (by simp) (fun k hk => ?_) ?_]
  · unfold L_impl_Circuit_step_l3
    dsimp only
    rw [dec_f (by omega), cond_false, List.take_length]
  · have hx := List.getElem?_eq_getElem hk
    obtain ⟨hr, hc⟩ := hok _ (List.getElem_mem hk)
    generalize os[k] = x at hx hr hc
    have hgo := gate_of G hr hc
    have hl := foldO_len (p := p) (gs := gs) (os.take k) v
    have hP := foldO_inP (gs := gs) hp.1 (os.take k) v hvP
    rw [List.take_add_one, hx, List.foldl_append]
    generalize (os.take k).foldl (stepO p gs) v = u at hl hP
    show L_impl_Circuit_step_l3 (os, b) gs p k u = some (Ctl.next (k + 1, stepO p gs u x))
    unfold L_impl_Circuit_step_l3 stepO
    dsimp only
    rw [dec_t (by omega), cond_true, hx, Option.bind_some, getI_gtG hr, Option.bind_some, getI_gtD (l := u) (x := x) (by omega)]
    generalize gtG gs x = e at hgo
    rcases hgo with ⟨h3, hA, hB⟩ | ⟨h4, hA, hV⟩
    · have q1 := inP_gt hP (x := e.2.1) (by omega)
      have q2 := inP_gt hP (x := e.2.2.1) (by omega)
      rw [getI_gtD (l := u) (x := e.2.1) (by omega), getI_gtD (l := u) (x := e.2.2.1) (by omega), if_pos h3]
      simp only [h3, beq_self_eq_true, cond_true, Option.bind_some]
      rw [i64_lt (n := gtD u e.2.1 + gtD u e.2.2.1) (by omega) (by omega), P_mod hp, Option.bind_some, Option.bind_some, og_true (by omega)]
    · have h3 : e.1 ≠ 3 := by omega
      have b3 := beq_eq_false_iff_ne.2 h3
      have q1 := inP_gt hP (x := e.2.1) (by omega)
      have hm := mul_bd hp hV q1
      rw [getI_gtD (l := u) (x := e.2.1) (by omega), if_neg h3, b3, cond_false, Option.bind_some, i64_lt (n := e.2.2.2 * gtD u e.2.1) (by omega) (by omega), P_mod hp, Option.bind_some, Option.bind_some, Option.bind_some, og_true (by omega)]
def nextV (gs : List Gt) (v : List Int) : List Int := (dl gs).map fun d => gtD v (gtG gs d).2.1
theorem P_loopN (G : GoodC p i gs outs) {v : List Int} (hv : v.length = gs.length) : loopM (fun s_ : Nat × List Int => L_spec_crStep_l4 (dl gs) gs v s_.1 s_.2) 4611686018427387904 (0, []) = some ([] ++ nextV gs v) := by
  have hn := G.hn
  have hdl : (dl gs).length ≤ 40 := Nat.le_trans (dlL_len _) hn.2
  refine loopM_app (dl gs) (fun d => gtD v (gtG gs d).2.1) [] (by omega) _ (fun j d h => ?_) ?_
  · have hlt := getN_lt h
    obtain ⟨hr, h5⟩ := dl_mem (List.mem_of_getElem? h)
    have hb := gateB_ops (List.all_eq_true.1 G.ga _ (gtG_mem hr))
    have hA := hb.1 (gtG gs d).2.1 (by simp [opG, h5])
    try dsimp only
    unfold L_spec_crStep_l4
    rw [dec_t (by omega), cond_true, h, Option.bind_some, getI_gtG hr, Option.bind_some, getI_gtD (by omega), Option.bind_some, og_true (by simp; omega), og_true (by omega)]
  · try dsimp only
    unfold L_spec_crStep_l4
    rw [dec_f (by omega), cond_false]; rfl
theorem P_hgL {v : List Int} (ho : outs.length ≤ 8) (hi : ∀ x ∈ outs, 0 ≤ x ∧ x < v.length) : L_spec_hgList outs v = some (outs.map (gtD v)) := by
  unfold L_spec_hgList
  have key : loopM (fun s_ : Nat × List Int => L_spec_hgList_l1 outs v s_.1 s_.2) 4611686018427387904 (0, []) = some ([] ++ outs.map (gtD v)) := by
    refine loopM_app outs (gtD v) [] (by omega) _ (fun j x h => ?_) ?_
    · have hlt := getN_lt h
      have h1 := hi x (List.mem_of_getElem? h)
      try dsimp only
      unfold L_spec_hgList_l1
      rw [dec_t (by omega), cond_true, h, Option.bind_some, getI_gtD h1, Option.bind_some, og_true (by simp; omega), og_true (by omega)]
    · try dsimp only
      unfold L_spec_hgList_l1
      rw [dec_f (by omega), cond_false]
  rw [key]; rfl
theorem P_chosen {v : List Int} (ho : outs.length ≤ 8) (hi : ∀ x ∈ outs, 0 ≤ x ∧ x < v.length) : L_impl_chosen v outs = some (outs.map (gtD v)) := by
  unfold L_impl_chosen
  rw [og_true (by omega)]
  have key : loopM (fun s_ : Nat × List Int => L_impl_chosen_l1 outs v s_.1 s_.2) 4611686018427387904 (0, List.replicate 0 (0 : Int)) = some ([] ++ outs.map (gtD v)) := by
    refine loopM_app outs (gtD v) [] (by omega) _ (fun j x h => ?_) ?_
    · have hlt := getN_lt h
      have h1 := hi x (List.mem_of_getElem? h)
      try dsimp only
      unfold L_impl_chosen_l1
      rw [dec_t (by omega), cond_true, h, Option.bind_some, getI_gtD h1, Option.bind_some, og_true (by simp; omega), og_true (by omega)]
    · try dsimp only
      unfold L_impl_chosen_l1
      rw [dec_f (by omega), cond_false]
  rw [key]; rfl
/-- All values in a step. -/
def valV (p : Int) (gs : List Gt) (st ins : List Int) : List Int := (ordR gs).1.foldl (stepO p gs) (foldS (psB (dl gs) st (dl gs).length) (foldS (psA gs ins gs.length) (List.replicate gs.length 0)))
theorem psA_mem {a : Nat × Int} (h : a ∈ psA gs ins gs.length) : ∃ j : Nat, j < gs.length ∧ (gtG gs (j : Int)).1 = 1 ∧ a = (j, gtD ins (gtG gs (j : Int)).2.2.2) := by
  unfold psA at h
  obtain ⟨j, hj, rfl⟩ := List.mem_map.1 h
  obtain ⟨h1, h2⟩ := List.mem_filter.1 hj
  exact ⟨j, List.mem_range.1 h1, by simpa using h2, rfl⟩
theorem psB_mem {a : Nat × Int} (hs : st.length = (dl gs).length) (h : a ∈ psB (dl gs) st (dl gs).length) : ∃ d, d ∈ dl gs ∧ a.1 = d.toNat ∧ ∃ t : Nat, t < st.length ∧ a.2 = gtD st (t : Int) := by
  unfold psB at h
  obtain ⟨t, ht, rfl⟩ := List.mem_map.1 h
  have ht := List.mem_range.1 ht
  refine ⟨gtD (dl gs) (t : Int), ?_, rfl, t, by omega, rfl⟩
  have := getN_gtD (l := dl gs) (x := (t : Int)) (by omega)
  exact List.mem_of_getElem? this
theorem AB_comm (hs : st.length = (dl gs).length) (v : List Int) : foldS (psA gs ins gs.length) (foldS (psB (dl gs) st (dl gs).length) v) = foldS (psB (dl gs) st (dl gs).length) (foldS (psA gs ins gs.length) v) := by
  refine foldS_comm _ _ _ fun a ha b hb e => ?_
  obtain ⟨j, hj, h1, rfl⟩ := psA_mem ha
  obtain ⟨d, hd, hb1, _⟩ := psB_mem hs hb
  obtain ⟨hr, h5⟩ := dl_mem hd
  dsimp only at e
  have : (j : Int) = d := by omega
  rw [this, h5] at h1
  omega
theorem AB_inP (G : GoodC p i gs outs) (hs : st.length = (dl gs).length) (hsP : inP p st) (hi : ((ins.length : Nat) : Int) = i) (hiP : inP p ins) : inP p (foldS (psB (dl gs) st (dl gs).length) (foldS (psA gs ins gs.length) (List.replicate gs.length 0))) := by
  have hp := G.hp
  refine foldS_inP _ _ (fun a ha => ?_) (foldS_inP _ _ (fun a ha => ?_) fun x hx => ?_)
  · obtain ⟨_, _, _, t, ht, e⟩ := psB_mem hs ha
    rw [e]; exact inP_gt hsP (by omega)
  · obtain ⟨j, hj, h1, rfl⟩ := psA_mem ha
    have hb := List.all_eq_true.1 G.ga _ (gtG_mem (gs := gs) (x := (j : Int)) (by omega))
    have := gateB_input hb h1
    exact inP_gt hiP (by omega)
  · obtain rfl := List.eq_of_mem_replicate hx; omega
theorem valV_len : (valV p gs st ins).length = gs.length := by
  unfold valV
  rw [foldO_len, foldS_len, foldS_len, List.length_replicate]
theorem P_crStep (G : GoodC p i gs outs) (hs : st.length = (dl gs).length) (hsP : inP p st) (hi : ((ins.length : Nat) : Int) = i) (hiP : inP p ins) : L_spec_crStep p i gs outs st ins = some (nextV gs (valV p gs st ins), outs.map (gtD (valV p gs st ins))) := by
  have hn := G.hn
  have hdl : (dl gs).length ≤ 40 := Nat.le_trans (dlL_len _) hn.2
  unfold L_spec_crStep
  rw [og_true (by omega), P_loopA G hi (by simp), Option.bind_some, P_crDelays hn.2, Option.bind_some, P_loopB hn.2 (fun x hx => (dl_mem hx).1) hs hdl (by rw [foldS_len]; simp), Option.bind_some,
    P_crOrder (okG_of G.ga) hn.2, Option.bind_some, P_loopO G ord_ok (ord_len hn.2) (by rw [foldS_len, foldS_len]; simp) (AB_inP G hs hsP hi hiP), Option.bind_some]
  have hv : (List.foldl (stepO p gs) (foldS (psB (dl gs) st (dl gs).length) (foldS (psA gs ins gs.length) (List.replicate gs.length 0))) (ordR gs).1) = valV p gs st ins := rfl
  rw [hv, Option.bind_some, P_loopN G valV_len, Option.bind_some, P_hgL G.ho (by rw [valV_len]; exact G.io)]
  rfl
theorem P_implStepC (G : GoodC p i gs outs) (hs : st.length = (dl gs).length) (hsP : inP p st) (hi : ((ins.length : Nat) : Int) = i) (hiP : inP p ins) : L_impl_Circuit_step i gs outs p st ins = some (nextV gs (valV p gs st ins), outs.map (gtD (valV p gs st ins))) := by
  have hn := G.hn
  have hdl : (dl gs).length ≤ 40 := Nat.le_trans (dlL_len _) hn.2
  have hB : loopM (fun s_ : Nat × List Int => L_impl_Circuit_step_l1 (dl gs) st s_.1 s_.2) 4611686018427387904 (0, List.replicate gs.length 0) = some (foldS (psB (dl gs) st (dl gs).length) (List.replicate gs.length 0)) := P_loopB hn.2 (fun x hx => (dl_mem hx).1) hs hdl (by simp)
  have hA : loopM (fun s_ : Nat × List Int => L_impl_Circuit_step_l2 gs ins s_.1 s_.2) 4611686018427387904 (0, foldS (psB (dl gs) st (dl gs).length) (List.replicate gs.length 0)) = some (foldS (psA gs ins gs.length) (foldS (psB (dl gs) st (dl gs).length) (List.replicate gs.length 0))) := P_loopA G hi (by rw [foldS_len]; simp)
  have hN : loopM (fun s_ : Nat × List Int => L_impl_Circuit_step_l4 (dl gs) gs (valV p gs st ins) s_.1 s_.2) 4611686018427387904 (0, []) = some ([] ++ nextV gs (valV p gs st ins)) := P_loopN G valV_len
  unfold L_impl_Circuit_step
  rw [P_zeros (by omega), Option.bind_some, P_delays hn.2, Option.bind_some, Int.toNat_natCast, hB, Option.bind_some, hA, Option.bind_some, AB_comm hs, P_schedule (okG_of G.ga) hn.2, if_pos G.al, Option.bind_some,
    P_loopO' G ord_ok (ord_len hn.2) (by rw [foldS_len, foldS_len]; simp) (AB_inP G hs hsP hi hiP), Option.bind_some]
  have hv : (List.foldl (stepO p gs) (foldS (psB (dl gs) st (dl gs).length) (foldS (psA gs ins gs.length) (List.replicate gs.length 0))) (ordR gs).1) = valV p gs st ins := rfl
  rw [hv, hN, Option.bind_some, P_chosen G.ho (by rw [valV_len]; exact G.io)]
  rfl
def stcV (p i : Int) (gs : List Gt) (outs st ins : List Int) : List Int × List Int × Bool :=
  if circB p i gs outs = true ∧ vecB p st (dl gs).length = true ∧ vecB p ins i = true then (nextV gs (valV p gs st ins), outs.map (gtD (valV p gs st ins)), true) else ([], [], false)
theorem P_specStc (h1 : gs.length ≤ 1073741824) (h2 : outs.length ≤ 1073741824) (h3 : st.length ≤ 1073741824) (h4 : ins.length ≤ 1073741824) : L_spec_StepCircuit p i gs outs st ins = some (stcV p i gs outs st ins) := by
  unfold L_spec_StepCircuit stcV
  rw [P_crGood (by omega) (by omega), Option.bind_some]
  cases hc : circB p i gs outs
  · simp
  have G := circB_iff.1 hc
  have hn := G.hn
  rw [P_crDelays hn.2, P_fdIn p st G.hp (by omega), P_fdIn p ins G.hp (by omega)]
  simp only [Bool.not_true, cond_false, true_and, Option.bind_some]
  by_cases l1 : ((st.length : Nat) : Int) = (dl gs).length
  · by_cases l2 : ((ins.length : Nat) : Int) = i
    · cases a1 : st.all fun x => inR x 0 (p - 1)
      · simp [vecB, l1, l2, a1]
      cases a2 : ins.all fun x => inR x 0 (p - 1)
      · simp [vecB, l1, l2, a1, a2]
      have v1 : vecB p st (dl gs).length = true := by simp [vecB, l1, a1]
      have v2 : vecB p ins i = true := by simp [vecB, l2, a2]
      have := P_crStep (st := st) (ins := ins) G (by omega) (vecB_iff.1 v1).2 l2 (vecB_iff.1 v2).2
      rw [if_pos ⟨v1, v2⟩]
      simp [l1, l2, this]
    · have : (((ins.length : Nat) : Int) != i) = true := by simp [l2]
      simp [vecB, l1, l2, this]
  · have : (((st.length : Nat) : Int) != ((dl gs).length : Int)) = true := bne_iff_ne.2 l1
    simp [vecB, l1, this]
theorem P_implStc (h1 : gs.length ≤ 1073741824) (h2 : outs.length ≤ 1073741824) (h3 : st.length ≤ 1073741824) (h4 : ins.length ≤ 1073741824) : L_impl_StepCircuit p i gs outs st ins = some (stcV p i gs outs st ins) := by
  unfold L_impl_StepCircuit stcV
  rw [P_isCircuit (by omega) (by omega), Option.bind_some]
  cases hc : circB p i gs outs
  · simp
  have G := circB_iff.1 hc
  have hn := G.hn
  simp only [Bool.not_true, cond_false, true_and, P_delays hn.2, Option.bind_some]
  rw [show L_impl_isVector p st (dl gs).length = some (vecB p st (dl gs).length) from P_isVector p st _ (by omega), show L_impl_isVector p ins i = some (vecB p ins i) from P_isVector p ins i (by omega)]
  cases v1 : vecB p st (dl gs).length
  · simp [v1]
  cases v2 : vecB p ins i
  · simp [v1]
  have w1 := vecB_iff.1 v1
  have w2 := vecB_iff.1 v2
  have := P_implStepC (st := st) (ins := ins) G (by omega) w1.2 w2.1 w2.2
  simp [this, v1]
theorem stcV_bd : (stcV p i gs outs st ins).1.length ≤ 40 ∧ (stcV p i gs outs st ins).2.1.length ≤ 8 := by
  unfold stcV
  split
  · rename_i h
    have G := circB_iff.1 h.1
    have hn := G.hn; have ho := G.ho
    refine ⟨?_, by simp; omega⟩
    unfold nextV
    rw [List.length_map]
    exact Nat.le_trans (dlL_len _) hn.2
  · simp
end
/-- The law. -/
theorem P_lawStc {p i : Int} {gs : List Gt} {outs cs ins : List Int} (h1 : gs.length ≤ 9223372036854775807) (h4 : outs.length ≤ 9223372036854775807) (h2 : cs.length ≤ 9223372036854775807) (h3 : ins.length ≤ 9223372036854775807) : L_laws_FnExactStepCircuit p i gs outs cs ins = some true := by
  unfold L_laws_FnExactStepCircuit
  by_cases a1 : (1048576 : Int) < ((cs.length : Nat) : Int)
  · rw [dec_t a1]; rfl
  rw [dec_f a1, cond_false]
  by_cases a2 : (1048576 : Int) < ((ins.length : Nat) : Int)
  · rw [dec_t a2]; rfl
  rw [dec_f a2, cond_false]
  rw [P_szCircuit i gs outs (by omega) h1 h4, Option.bind_some]
  by_cases e0 : (1048576 : Int) < ((gs.length + outs.length : Nat) : Int)
  · rw [show szV 1048576 (gs.length + outs.length) = -1 from if_pos e0]; rfl
  rw [show szV 1048576 (gs.length + outs.length) = 1048576 - ((gs.length + outs.length : Nat) : Int) from if_neg e0, dec_f (by omega), cond_false]
  have h1 : gs.length ≤ 1073741824 := by omega
  have h2 : cs.length ≤ 1073741824 := by omega
  have h3 : ins.length ≤ 1073741824 := by omega
  have h4 : outs.length ≤ 1073741824 := by omega
  have hs := P_specStc (p := p) (i := i) h1 h4 h2 h3
  have hi := P_implStc (p := p) (i := i) h1 h4 h2 h3
  have hv := stcV_bd (p := p) (i := i) (gs := gs) (outs := outs) (st := cs) (ins := ins)
  generalize stcV p i gs outs cs ins = v at hs hi hv
  obtain ⟨va, vb, vo⟩ := v
  obtain ⟨v1, v2⟩ := hv
  dsimp only at v1 v2
  have v1 : va.length ≤ 1073741824 := by omega
  have v2 : vb.length ≤ 1073741824 := by omega
  obtain ⟨b1, b6, u1, c1, d1, m1, x1, y1, k1⟩ := P_markCircuit i gs outs (v := 1) (by omega) h1 h4
  obtain ⟨b2, m2, x2, k2⟩ := P_markIntS cs (v := u1) (by omega) h2
  obtain ⟨b3, m3, x3, k3⟩ := P_markIntS ins (v := u1 + cs.length) (by omega) h3
  obtain ⟨b4, m4, x4, k4⟩ := P_markIntS va (v := 1) (by omega) v1
  obtain ⟨b5, m5, x5, k5⟩ := P_markIntS vb (v := 1 + va.length) (by omega) v2
  simp only [P_toCircuit i gs outs h1 h4, P_toIntS cs h2, P_toIntS ins h3, hs, hi, Option.bind_some, P_eqIntS va v1, P_eqIntS vb v2, P_eqIntS cs h2, P_eqIntS ins h3, P_eqCircuit i gs outs h1 h4, m1, m2, m3, m4, m5, k4, k5, og_true x1, og_true y1, og_true x2, og_true x3, og_true x4, og_true x5, bne_self_eq_false, Bool.not_true, cond_false,
    dec_f (show ¬ u1 + cs.length + ins.length < 0 by omega), dec_f (show ¬ (1 : Int) + va.length < 0 by omega), dec_f (show ¬ (1 : Int) + va.length + vb.length < 0 by omega)]
end Go.Proofs.YthjdknddcceigaaDoor
