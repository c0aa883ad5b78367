/- Which registers are live: what the partial functions come to; no condition. -/
import Derived.Test.YtomijolkdmaimaaDoorLR0
import Derived.Test.YtomijolkdmaimaaDoorPrgP
import Derived.Test.YtomijolkdmaimaaDoorTyP
namespace Go.Proofs.YtomijolkdmaimaaDoor

abbrev Ins := Int × Int × Int × Int × Int
def Asc (xs : List Int) : Prop := xs.Pairwise (· < ·)
theorem asc_ext : ∀ (xs ys : List Int), Asc xs → Asc ys → (∀ z, z ∈ xs ↔ z ∈ ys) → xs = ys
  | [], [], _, _, _ => rfl
  | [], y :: ys, _, _, h => by have := (h y).2 (List.mem_cons_self ..); cases this
  | x :: xs, [], _, _, h => by have := (h x).1 (List.mem_cons_self ..); cases this
  | x :: xs, y :: ys, hx, hy, h => by
    obtain ⟨x1, x2⟩ := List.pairwise_cons.1 hx
    obtain ⟨y1, y2⟩ := List.pairwise_cons.1 hy
    have e : x = y := by
      rcases List.mem_cons.1 ((h x).1 (List.mem_cons_self ..)) with h1 | h1
      · exact h1
      rcases List.mem_cons.1 ((h y).2 (List.mem_cons_self ..)) with h2 | h2
      · exact h2.symm
      have := y1 x h1; have := x1 y h2; omega
    subst e
    rw [asc_ext xs ys x2 y2 fun z => ⟨fun hz => ?_, fun hz => ?_⟩]
    · rcases List.mem_cons.1 ((h z).1 (List.mem_cons_of_mem _ hz)) with h1 | h1
      · have := x1 z hz; omega
      · exact h1
    · rcases List.mem_cons.1 ((h z).2 (List.mem_cons_of_mem _ hz)) with h1 | h1
      · have := y1 z hz; omega
      · exact h1
/-- An element put into an ascending list. -/
theorem P_l1Put {xs : List Int} {n : Int} (hx : Asc xs) (hl : xs.length ≤ 1000) : ∃ ys, (L_spec_l1Put xs n = some (.inl ()) ∧ ys = xs ∨ L_spec_l1Put xs n = some (.inr ys)) ∧ Asc ys ∧ (∀ z, z ∈ ys ↔ z ∈ xs ∨ z = n) ∧ ys.length ≤ xs.length + 1 := by
  obtain ⟨k, hk, k1, k2, k3⟩ : ∃ k, loopM (fun s_ : Nat => L_spec_l1Put_l1 xs n s_) 4611686018427387904 0 = some k ∧ k ≤ xs.length ∧ (∀ j x, j < k → xs[j]? = some x → x < n) ∧ (∀ x, xs[k]? = some x → ¬ x < n) := by
    refine loopM_post (Post := fun k => k ≤ xs.length ∧ (∀ j x, j < k → xs[j]? = some x → x < n) ∧ (∀ x, xs[k]? = some x → ¬ x < n)) xs.length (fun i s => s = i ∧ ∀ j x, j < i → xs[j]? = some x → x < n) (by omega) ⟨rfl, fun j x h => by omega⟩ ?_ ?_
    · rintro i s hi ⟨hs, hq⟩
      subst s
      have hg := List.getElem?_eq_getElem hi
      unfold L_spec_l1Put_l1
      rw [dec_t (by omega), cond_true, hg]
      by_cases hlt : xs[i] < n
      · refine .inl ⟨i + 1, ?_, rfl, fun j x hj hx => ?_⟩
        · simp [hlt, og_true (show i + 1 < 4611686018427387904 by omega)]
        · rcases Nat.lt_or_ge j i with h | h
          · exact hq j x h hx
          · obtain rfl : j = i := by omega
            rw [hg] at hx; cases hx; exact hlt
      · refine .inr ⟨i, ?_, by omega, hq, fun x hx => ?_⟩
        · simp [hlt]
        · rw [hg] at hx; cases hx; exact hlt
    · rintro s ⟨hs, hq⟩
      subst s
      refine ⟨xs.length, ?_, Nat.le_refl _, hq, fun x hx => ?_⟩
      · unfold L_spec_l1Put_l1
        rw [dec_f (by omega), cond_false]; rfl
      · simp at hx
  unfold L_spec_l1Put
  rw [hk, Option.bind_some]
  have ht : ∀ x ∈ xs.take k, x < n := fun x hx => by
    obtain ⟨j, hj, e⟩ := List.mem_iff_getElem.1 hx
    rw [List.length_take] at hj
    refine k2 j x (by omega) ?_
    rw [List.getElem_take] at e
    rw [List.getElem?_eq_getElem (by omega), e]
  by_cases hlt : k < xs.length
  · have hg := List.getElem?_eq_getElem hlt
    have hn := k3 _ hg
    rw [dec_t (by omega), cond_true, hg, Option.bind_some]
    have hd : xs.drop k = xs[k] :: xs.drop (k + 1) := List.drop_eq_getElem_cons hlt
    have hp := hx
    rw [Asc, ← List.take_append_drop k xs, List.pairwise_append, hd, List.pairwise_cons] at hp
    obtain ⟨p1, ⟨p2, p3⟩, p4⟩ := hp
    by_cases he : xs[k] = n
    · refine ⟨xs, .inl ⟨by simp [he], rfl⟩, hx, fun z => ⟨.inl, fun h => ?_⟩, by omega⟩
      rcases h with h | rfl
      · exact h
      · rw [← he]; exact List.getElem_mem hlt
    · have hb : (xs[k] == n) = false := beq_eq_false_iff_ne.2 he
      have hgt : ∀ x ∈ xs.drop k, n < x := fun x hx => by
        rw [hd] at hx
        rcases List.mem_cons.1 hx with rfl | h
        · omega
        · have := p2 x h; omega
      refine ⟨(xs.take k ++ [n]) ++ xs.drop k, .inr ?_, ?_, fun z => ?_, by simp; omega⟩
      · simp only [Option.bind_some, hb, cond_false]
        rw [og_true (by omega), og_true (by simp; omega), og_true (by simp; omega), og_true (by omega), og_true (by simp; omega)]
      · rw [Asc, List.append_assoc, List.pairwise_append]
        refine ⟨p1, ?_, fun a ha b hb => ?_⟩
        · rw [List.singleton_append, List.pairwise_cons]
          exact ⟨hgt, by rw [hd]; exact List.pairwise_cons.2 ⟨p2, p3⟩⟩
        · have h1 := ht a ha
          rw [List.singleton_append] at hb
          rcases List.mem_cons.1 hb with rfl | h
          · exact h1
          · have := hgt b h; omega
      · have : z ∈ xs ↔ z ∈ xs.take k ∨ z ∈ xs.drop k := by rw [← List.mem_append, List.take_append_drop]
        rw [this]; simp only [List.mem_append, List.mem_singleton]
        constructor <;> intro h <;> rcases h with (h | h) | h <;> simp [h]
  · obtain rfl : k = xs.length := by omega
    rw [dec_f (by omega), cond_false]
    refine ⟨(xs.take xs.length ++ [n]) ++ xs.drop xs.length, .inr ?_, ?_, fun z => ?_, by simp⟩
    · simp only [Option.bind_some, cond_false]
      rw [og_true (by omega), og_true (by simp; omega), og_true (by simp; omega), og_true (by omega), og_true (by simp; omega)]
    · rw [List.take_length] at ht ⊢
      rw [List.drop_length, List.append_nil, Asc, List.pairwise_append]
      exact ⟨hx, by simp, fun a ha b hb => by rw [List.mem_singleton] at hb; subst hb; exact ht a ha⟩
    · simp
def rdE (e : Ins) : List Int := if e.1 = 3 then [e.2.2.1, e.2.2.2.1] else if e.1 = 4 then [e.2.2.1] else if e.1 = 6 ∨ e.1 = 7 then [e.2.1] else []
def wrE (e : Ins) : Bool := decide (e.1 ≤ 5)
theorem P_cmReads (e : Ins) : L_spec_cmReads e.1 e.2.1 e.2.2.1 e.2.2.2.1 e.2.2.2.2 = some (rdE e) := by
  unfold L_spec_cmReads rdE
  by_cases h3 : e.1 = 3
  · simp [h3]
  by_cases h4 : e.1 = 4
  · simp [h4]
  by_cases h6 : e.1 = 6
  · simp [h6]
  by_cases h7 : e.1 = 7
  · simp [h7]
  have b3 := beq_eq_false_iff_ne.2 h3
  have b4 := beq_eq_false_iff_ne.2 h4
  have b6 := beq_eq_false_iff_ne.2 h6
  have b7 := beq_eq_false_iff_ne.2 h7
  simp [b3, b4, b6, b7, h3, h4, h6, h7]
theorem P_reads (e : Ins) : L_impl_Instr_reads e.1 e.2.1 e.2.2.1 e.2.2.2.1 e.2.2.2.2 = some (rdE e) := P_cmReads e
theorem P_cmWrites (e : Ins) : L_spec_cmWrites e.1 e.2.1 e.2.2.1 e.2.2.2.1 e.2.2.2.2 = some (wrE e) := rfl
section
variable {p i o c g : Int} {code : List Ins}
theorem insB_reads {e : Ins} (hg : g ≤ 16) (h : insB p i o c g e = true) : 1 ≤ e.1 ∧ (0 ≤ e.2.1 ∧ e.2.1 < 16) ∧ ∀ x ∈ rdE e, 0 ≤ x ∧ x < 16 := by
  simp only [insB, Bool.and_eq_true, inR_true] at h
  obtain ⟨h1, h2⟩ := h
  unfold rdE
  by_cases e1 : e.1 = 1
  · rw [if_neg (by omega), if_neg (by omega), if_neg (by omega)]
    exact ⟨by omega, by omega, by simp⟩
  rw [if_neg e1] at h2
  by_cases e2 : e.1 = 2
  · rw [if_neg (by omega), if_neg (by omega), if_neg (by omega)]
    exact ⟨by omega, by omega, by simp⟩
  rw [if_neg e2] at h2
  by_cases e3 : e.1 = 3
  · rw [if_pos e3] at h2; simp only [Bool.and_eq_true, inR_true] at h2
    rw [if_pos e3]
    refine ⟨by omega, by omega, fun x hx => ?_⟩
    simp only [List.mem_cons, List.not_mem_nil, or_false] at hx
    rcases hx with rfl | rfl <;> omega
  rw [if_neg e3] at h2
  rw [if_neg e3]
  by_cases e4 : e.1 = 4
  · rw [if_pos e4] at h2; simp only [Bool.and_eq_true, inR_true] at h2
    rw [if_pos e4]
    refine ⟨by omega, by omega, fun x hx => ?_⟩
    simp only [List.mem_cons, List.not_mem_nil, or_false] at hx
    omega
  rw [if_neg e4] at h2
  rw [if_neg e4]
  by_cases e5 : e.1 = 5 ∨ e.1 = 6
  · refine ⟨by omega, by omega, fun x hx => ?_⟩
    split at hx
    · simp only [List.mem_cons, List.not_mem_nil, or_false] at hx; omega
    · cases hx
  rw [if_neg e5] at h2
  by_cases e7 : e.1 = 7
  · refine ⟨by omega, by omega, fun x hx => ?_⟩
    split at hx
    · simp only [List.mem_cons, List.not_mem_nil, or_false] at hx; omega
    · cases hx
  rw [if_neg e7] at h2
  cases h2
theorem P_writes {e : Ins} (h : 1 ≤ e.1) : L_impl_Instr_writes e.1 e.2.1 e.2.2.1 e.2.2.2.1 e.2.2.2.2 = some (wrE e) := by
  unfold L_impl_Instr_writes wrE
  rw [P_within, Option.bind_some, inR, dec_t h, Bool.true_and]
def liveB : List Ins → Int → Bool
  | [], _ => false
  | e :: r, z => (rdE e).any (· == z) || (!(wrE e && e.2.1 == z) && liveB r z)
def okR (code : List Ins) : Prop := ∀ e ∈ code, 1 ≤ e.1 ∧ (0 ≤ e.2.1 ∧ e.2.1 < 16) ∧ ∀ x ∈ rdE e, 0 ≤ x ∧ x < 16
theorem okR_of (G : GoodPrg p i o c g code) : okR code := fun e he => insB_reads (p := p) (i := i) (o := o) (c := c) (by have := G.hg; omega) (G.all e he)
theorem liveB_in : ∀ {ds : List Ins}, okR ds → ∀ {z : Int}, liveB ds z = true → 0 ≤ z ∧ z < 16
  | [], _, z, h => by cases h
  | e :: r, hk, z, h => by
    simp only [liveB, Bool.or_eq_true, Bool.and_eq_true, List.any_eq_true, beq_iff_eq] at h
    rcases h with ⟨x, hx, rfl⟩ | ⟨_, h⟩
    · exact (hk e (List.mem_cons_self ..)).2.2 x hx
    · exact liveB_in (fun e he => hk e (List.mem_cons_of_mem _ he)) h
/-- The live registers below k. -/
def liveL (ds : List Ins) (k : Nat) : List Int := ((List.range k).map fun t : Nat => (t : Int)).filter (liveB ds)
theorem liveL_asc (ds : List Ins) (k : Nat) : Asc (liveL ds k) := by
  unfold liveL Asc
  refine List.Pairwise.filter _ ?_
  rw [List.pairwise_map]
  exact List.Pairwise.imp (fun h => by omega) List.pairwise_lt_range
theorem liveL_mem {ds : List Ins} (h : okR ds) (z : Int) : z ∈ liveL ds 16 ↔ liveB ds z = true := by
  unfold liveL
  rw [List.mem_filter, List.mem_map]
  constructor
  · exact fun h => h.2
  · intro hz
    have := liveB_in h hz
    exact ⟨⟨z.toNat, by rw [List.mem_range]; omega, by omega⟩, hz⟩
theorem P_cmLive_l2 {rs o0 wr : List Int} (h1 : Asc o0) (h2 : Asc wr) (hl : o0.length ≤ 500) (hr : rs.length ≤ 2) (hw : wr.length ≤ 500) :
    ∃ o, loopM (fun s_ : Nat × List Int => L_spec_cmLive_l2 rs wr s_.1 s_.2) 4611686018427387904 (0, o0) = some o ∧ Asc o ∧ (∀ z, z ∈ o ↔ z ∈ o0 ∨ (z ∈ rs ∧ z ∉ wr)) ∧ o.length ≤ o0.length + rs.length := by
  refine loopM_post (Post := fun o => Asc o ∧ (∀ z, z ∈ o ↔ z ∈ o0 ∨ (z ∈ rs ∧ z ∉ wr)) ∧ o.length ≤ o0.length + rs.length) rs.length (fun i s => s.1 = i ∧ Asc s.2 ∧ (∀ z, z ∈ s.2 ↔ z ∈ o0 ∨ (z ∈ rs.take i ∧ z ∉ wr)) ∧ s.2.length ≤ o0.length + i) (by omega) ⟨rfl, h1, by simp, by simp⟩ ?_ ?_
  · rintro i ⟨k, q⟩ hi ⟨hk, a1, a2, a3⟩
    dsimp only at hk a1 a2 a3 ⊢
    subst k
    have hg := List.getElem?_eq_getElem hi
    have ht : ∀ z, z ∈ rs.take (i + 1) ↔ z ∈ rs.take i ∨ z = rs[i] := fun z => by rw [List.take_add_one, hg, List.mem_append]; simp only [Option.toList, List.mem_singleton]
    unfold L_spec_cmLive_l2
    rw [dec_t (by omega), cond_true, hg, Option.bind_some, P_l1Has _ _ (by omega), Option.bind_some]
    have hk1 : i + 1 < 4611686018427387904 := by omega
    by_cases hm : rs[i] ∈ wr
    · have : (wr.any fun x => x == rs[i]) = true := List.any_eq_true.2 ⟨_, hm, by simp⟩
      rw [this]
      refine .inl ⟨(i + 1, q), by simp [og_true hk1], rfl, a1, fun z => ?_, by dsimp only; omega⟩
      dsimp only
      rw [a2, ht]
      constructor
      · rintro (h | ⟨h, h'⟩)
        · exact .inl h
        · exact .inr ⟨.inl h, h'⟩
      · rintro (h | ⟨h | rfl, h'⟩)
        · exact .inl h
        · exact .inr ⟨h, h'⟩
        · exact absurd hm h'
    · have : (wr.any fun x => x == rs[i]) = false := by
        rw [List.any_eq_false]
        intro x hx he
        rw [beq_iff_eq] at he
        exact hm (he ▸ hx)
      rw [this]
      obtain ⟨ys, hp, b1, b2, b3⟩ := P_l1Put (n := rs[i]) a1 (by omega)
      have hm2 : ∀ z, z ∈ ys ↔ z ∈ o0 ∨ (z ∈ rs.take (i + 1) ∧ z ∉ wr) := fun z => by
        rw [b2, a2, ht]
        constructor
        · rintro ((h | ⟨h, h'⟩) | rfl)
          · exact .inl h
          · exact .inr ⟨.inl h, h'⟩
          · exact .inr ⟨.inr rfl, hm⟩
        · rintro (h | ⟨h | rfl, h'⟩)
          · exact .inl (.inl h)
          · exact .inl (.inr ⟨h, h'⟩)
          · exact .inr rfl
      refine .inl ⟨(i + 1, ys), ?_, rfl, b1, hm2, by dsimp only; omega⟩
      rcases hp with ⟨hp, rfl⟩ | hp
      · simp [hp, og_true hk1]
      · simp [hp, og_true hk1]
  · rintro ⟨k, q⟩ ⟨hk, a1, a2, a3⟩
    dsimp only at hk a1 a2 a3 ⊢
    subst k
    refine ⟨q, ?_, a1, by simpa using a2, a3⟩
    unfold L_spec_cmLive_l2
    rw [dec_f (by omega), cond_false]
theorem rdE_len (e : Ins) : (rdE e).length ≤ 2 := by
  unfold rdE; split
  · simp
  split
  · simp
  split <;> simp
theorem P_cmLive {at_ : Int} (hc : code.length ≤ 200) (ha : 0 ≤ at_ ∧ at_ ≤ code.length) (hk : okR code) : L_spec_cmLive code at_ = some (liveL (code.drop at_.toNat) 16) := by
  unfold L_spec_cmLive
  rw [og_true (by omega)]
  generalize hds : code.drop at_.toNat = ds
  have hdl : ds.length ≤ 200 := by rw [← hds, List.length_drop]; omega
  have hdk : okR ds := fun e he => hk e (List.mem_of_mem_drop (hds ▸ he))
  have key : ∃ q, loopM (fun s_ : Nat × List Int × List Int => L_spec_cmLive_l1 code at_ s_.1 s_.2.1 s_.2.2) 4611686018427387904 (0, [], []) = some q ∧ (Asc q ∧ ∀ z, z ∈ q ↔ liveB ds z = true) := by
    refine loopM_post (Post := fun q => Asc q ∧ ∀ z, z ∈ q ↔ liveB ds z = true) ds.length (fun i s => s.1 = i ∧ Asc s.2.1 ∧ Asc s.2.2 ∧ s.2.1.length ≤ 2 * i ∧ s.2.2.length ≤ i ∧ ∀ z, (z ∈ s.2.1 ∨ (liveB (ds.drop i) z = true ∧ z ∉ s.2.2)) ↔ liveB ds z = true) (by omega) ⟨rfl, by exact List.Pairwise.nil, by exact List.Pairwise.nil, by simp, by simp, by simp⟩ ?_ ?_
    · rintro i ⟨k, q, wr⟩ hi ⟨hk', a1, a2, a3, a4, a5⟩
      dsimp only at hk' a1 a2 a3 a4 a5 ⊢
      subst k
      have hg := List.getElem?_eq_getElem hi
      have hd : ds.drop i = ds[i] :: ds.drop (i + 1) := List.drop_eq_getElem_cons hi
      generalize ds[i] = e at hg hd
      unfold L_spec_cmLive_l1
      rw [hds, dec_t (by omega), cond_true, hg, Option.bind_some, P_cmReads, Option.bind_some]
      obtain ⟨q', hq, b1, b2, b3⟩ := P_cmLive_l2 (rs := rdE e) a1 a2 (by omega) (rdE_len e) (by omega)
      have b4 := rdE_len e
      rw [hq, Option.bind_some, P_cmWrites, Option.bind_some]
      have hk1 : i + 1 < 4611686018427387904 := by omega
      have a5' : ∀ z, (z ∈ q ∨ ((z ∈ rdE e ∨ (¬ (wrE e = true ∧ e.2.1 = z) ∧ liveB (ds.drop (i + 1)) z = true)) ∧ z ∉ wr)) ↔ liveB ds z = true := fun z => by
        rw [← a5 z, hd]
        simp only [liveB, Bool.or_eq_true, Bool.and_eq_true, List.any_eq_true, beq_iff_eq, Bool.not_eq_true', ← Bool.not_eq_true, exists_eq_right]
      cases hw : wrE e
      · refine .inl ⟨(i + 1, q', wr), by simp [og_true hk1], rfl, b1, a2, by dsimp only; omega, by dsimp only; omega, fun z => ?_⟩
        dsimp only
        rw [← a5' z, b2, hw]
        simp only [Bool.false_eq_true, false_and, not_false_iff, true_and]
        constructor
        · rintro ((h | ⟨h, h'⟩) | ⟨h, h'⟩)
          · exact .inl h
          · exact .inr ⟨.inl h, h'⟩
          · exact .inr ⟨.inr h, h'⟩
        · rintro (h | ⟨h | h, h'⟩)
          · exact .inl (.inl h)
          · exact .inl (.inr ⟨h, h'⟩)
          · exact .inr ⟨h, h'⟩
      · obtain ⟨ws, hp, c1, c2, c3⟩ := P_l1Put (n := e.2.1) a2 (by omega)
        refine .inl ⟨(i + 1, q', ws), ?_, rfl, b1, c1, by dsimp only; omega, by dsimp only; omega, fun z => ?_⟩
        · rcases hp with ⟨hp, rfl⟩ | hp
          · simp [hp, og_true hk1]
          · simp [hp, og_true hk1]
        · dsimp only
          rw [← a5' z, b2, c2, hw]
          simp only [true_and, not_or]
          constructor
          · rintro ((h | ⟨h, h'⟩) | ⟨h, h', h2⟩)
            · exact .inl h
            · exact .inr ⟨.inl h, h'⟩
            · exact .inr ⟨.inr ⟨fun e => h2 e.symm, h⟩, h'⟩
          · rintro (h | ⟨h | ⟨h2, h⟩, h'⟩)
            · exact .inl (.inl h)
            · exact .inl (.inr ⟨h, h'⟩)
            · exact .inr ⟨h, h', fun e => h2 e.symm⟩
    · rintro ⟨k, q, wr⟩ ⟨hk', a1, a2, a3, a4, a5⟩
      dsimp only at hk' a1 a2 a3 a4 a5 ⊢
      subst k
      refine ⟨q, ?_, a1, fun z => ?_⟩
      · unfold L_spec_cmLive_l1
        rw [hds, dec_f (by omega), cond_false]
      · rw [← a5 z, List.drop_length]
        simp [liveB]
  obtain ⟨q, h1, h2, h3⟩ := key
  rw [h1, Option.bind_some, asc_ext q (liveL ds 16) h2 (liveL_asc ds 16) fun z => by rw [h3, liveL_mem hdk]]
/-- The registers' marks before the first of some instructions. -/
def set1 (l : List Int) (x : Int) : List Int := l.set x.toNat 1
def rowE (e : Ins) (l : List Int) : List Int := (rdE e).foldl set1 (if wrE e then l.set e.2.1.toNat 0 else l)
def liveV : List Ins → List Int
  | [] => List.replicate 16 0
  | e :: r => rowE e (liveV r)
theorem fold1_len : ∀ (rs l : List Int), (rs.foldl set1 l).length = l.length
  | [], _ => rfl
  | x :: rs, l => by rw [List.foldl_cons, fold1_len rs, set1, List.length_set]
theorem rowE_len (e : Ins) (l : List Int) : (rowE e l).length = l.length := by
  rw [rowE, fold1_len]; split <;> simp
theorem liveV_len : ∀ ds : List Ins, (liveV ds).length = 16
  | [] => rfl
  | e :: r => by rw [liveV, rowE_len, liveV_len r]
theorem fold1_get : ∀ (rs l : List Int) (k : Nat), k < l.length → (∀ x ∈ rs, 0 ≤ x) → (rs.foldl set1 l)[k]? = if rs.any (· == (k : Int)) then some 1 else l[k]?
  | [], _, _, _, _ => rfl
  | x :: rs, l, k, hk, hx => by
    rw [List.foldl_cons, fold1_get rs _ k (by rw [set1, List.length_set]; exact hk) fun y hy => hx y (List.mem_cons_of_mem _ hy), List.any_cons, set1]
    have hx0 := hx x (List.mem_cons_self ..)
    cases hr : rs.any (· == (k : Int))
    · by_cases he : x = k
      · subst he; simp [hk]
      · have h1 : (x == (k : Int)) = false := beq_eq_false_iff_ne.2 he
        have h2 : x.toNat ≠ k := by omega
        rw [h1]; simp [List.getElem?_set, h2]
    · simp
theorem liveV_get : ∀ {ds : List Ins}, okR ds → ∀ k : Nat, k < 16 → (liveV ds)[k]? = some (cond (liveB ds k) 1 0)
  | [], _, k, hk => by
    show (List.replicate 16 (0 : Int))[k]? = some 0
    rw [List.getElem?_replicate, if_pos hk]
  | e :: r, hd, k, hk => by
    have ih := liveV_get (fun e he => hd e (List.mem_cons_of_mem _ he)) k hk
    obtain ⟨_, h2, h3⟩ := hd e (List.mem_cons_self ..)
    have hl := liveV_len r
    have hB : liveB (e :: r) k = ((rdE e).any (· == (k : Int)) || (!(wrE e && e.2.1 == (k : Int)) && liveB r k)) := rfl
    rw [hB, liveV, rowE, fold1_get _ _ k (by split <;> simp [hl, hk]) fun x hx => (h3 x hx).1]
    by_cases hr : (rdE e).any (· == (k : Int)) = true
    · rw [if_pos hr, hr]; rfl
    · rw [if_neg hr, Bool.eq_false_iff.2 hr, Bool.false_or]
      cases hw : wrE e
      · simp [ih]
      · simp only [if_true, Bool.true_and]
        by_cases he : e.2.1 = k
        · have h4 : e.2.1.toNat = k := by omega
          rw [h4, List.getElem?_set_self (by omega), he]; simp
        · have h1 : (e.2.1 == (k : Int)) = false := beq_eq_false_iff_ne.2 he
          have h4 : e.2.1.toNat ≠ k := by omega
          rw [List.getElem?_set_ne h4, ih, h1]; simp
theorem P_live_l2 {rs : List Int} {a : Int} {m : List (List Int)} {row : List Int} (ha : 0 ≤ a) (hm : m[a.toNat]? = some row) (hr : ∀ x ∈ rs, 0 ≤ x ∧ x < 16) (hl : row.length = 16) (hn : rs.length ≤ 2) :
    loopM (fun s_ : Nat × List (List Int) => L_impl_Program_live_l2 rs a s_.1 s_.2) 4611686018427387904 (0, m) = some (m.set a.toNat (rs.foldl set1 row)) := by
  have hlt := (List.getElem?_eq_some_iff.1 hm).1
  refine loopM_det rs.length (fun i => (i, m.set a.toNat ((rs.take i).foldl set1 row))) (by omega) _ ?_ (fun i hi => ?_) ?_
  · have : m.set a.toNat row = m := by
      obtain ⟨h, e⟩ := List.getElem?_eq_some_iff.1 hm
      rw [← e, List.set_getElem_self]
    simp [this]
  · have hg := List.getElem?_eq_getElem hi
    have hx := hr _ (List.getElem_mem hi)
    try dsimp only
    unfold L_impl_Program_live_l2
    have hl2 : ((rs.take i).foldl set1 row).length = 16 := by rw [fold1_len, hl]
    have hg2 : (m.set a.toNat ((rs.take i).foldl set1 row))[a.toNat]? = some ((rs.take i).foldl set1 row) := by simp [hlt]
    rw [dec_t (by omega), cond_true, hg, Option.bind_some, getI_nat ha, hg2, Option.bind_some, og_true (by omega), getI_nat hx.1, List.getElem?_eq_getElem (by omega), Option.bind_some, og_true (by omega), List.set_set, List.take_add_one, hg, List.foldl_append]
    rfl
  · try dsimp only
    unfold L_impl_Program_live_l2
    rw [dec_f (by omega), cond_false, List.take_length]
theorem P_live {x1 x2 x3 x4 : Int} (hc : code.length ≤ 200) (hk : okR code) : ∃ m, L_impl_Program_live x1 x2 x3 x4 code = some m ∧ m.length = code.length + 1 ∧ ∀ k, k ≤ code.length → m[k]? = some (liveV (code.drop k)) := by
  unfold L_impl_Program_live
  rw [og_true (by omega), og_true (by omega), i64_lt (by omega) (by omega)]
  have key : ∃ m, loopM (fun s_ : Int × List (List Int) => L_impl_Program_live_l1 code s_.1 s_.2) 4611686018427387904 (((code.length : Nat) : Int) - 1, List.replicate (code.length + 1) (List.replicate 16 0 : List Int)) = some m ∧ (m.length = code.length + 1 ∧ ∀ k, k ≤ code.length → m[k]? = some (liveV (code.drop k))) := by
    refine loopM_post (Post := fun m : List (List Int) => m.length = code.length + 1 ∧ ∀ k, k ≤ code.length → m[k]? = some (liveV (code.drop k))) code.length (fun (j : Nat) (s : Int × List (List Int)) => s.1 = ((code.length : Nat) : Int) - 1 - j ∧ s.2.length = code.length + 1 ∧ ∀ k, k ≤ code.length → code.length ≤ k + j → s.2[k]? = some (liveV (code.drop k))) (by omega) ⟨by omega, by simp, fun k h1 h2 => ?_⟩ ?_ ?_
    · obtain rfl : k = code.length := by omega
      simp [liveV, List.getElem?_replicate]
    · rintro j ⟨i, m⟩ hj ⟨h1, h2, h3⟩
      dsimp only at h1 h2 h3 ⊢
      obtain ⟨q, rfl⟩ : ∃ q : Nat, i = q := ⟨i.toNat, by omega⟩
      have hq : q < code.length := by omega
      have hg := List.getElem?_eq_getElem hq
      have hd : code.drop q = code[q] :: code.drop (q + 1) := List.drop_eq_getElem_cons hq
      have he := hk _ (List.getElem_mem hq)
      generalize code[q] = e at hg hd he
      have hr := h3 (q + 1) (by omega) (by omega)
      have hlr := liveV_len (code.drop (q + 1))
      generalize hrow : liveV (code.drop (q + 1)) = row at hr hlr
      have hmq := List.getElem?_eq_getElem (l := m) (i := q) (by omega)
      unfold L_impl_Program_live_l1
      have w1 : IntKind.i64.wrap ((q : Int) + 1) = ((q + 1 : Nat) : Int) := by rw [i64_lt (by omega) (by omega)]; omega
      have gq : getI code (q : Int) = some e := by rw [getI_nat (by omega)]; exact hg
      have gm : getI m ((q + 1 : Nat) : Int) = some row := by rw [getI_nat (by omega)]; exact hr
      have gm0 : getI m (q : Int) = some m[q] := by rw [getI_nat (by omega)]; exact hmq
      rw [dec_t (by omega), cond_true, w1, gm, Option.bind_some, Option.bind_some, gm0, Option.bind_some, gq, Option.bind_some, P_writes he.1, Option.bind_some]
      simp only [Int.toNat_natCast]
      have key2 : ∀ r2 : List Int, r2.length = 16 → (loopM (fun s_ : Nat × List (List Int) => L_impl_Program_live_l2 (rdE e) (q : Int) s_.1 s_.2) 4611686018427387904 (0, m.set q r2)) = some (m.set q ((rdE e).foldl set1 r2)) := fun r2 hr2 => by
        have hqm : (m.set q r2)[(q : Int).toNat]? = some r2 := by rw [Int.toNat_natCast, List.getElem?_set_self (by omega)]
        have := P_live_l2 (rs := rdE e) (a := (q : Int)) (by omega) hqm he.2.2 hr2 (rdE_len e)
        rw [this]; simp
      have fin : ∀ r2 : List Int, (rdE e).foldl set1 r2 = rowE e row → (∃ s', (some (Ctl.next (IntKind.i64.wrap ((q : Int) - 1), m.set q ((rdE e).foldl set1 r2))) : Option (Ctl (Int × List (List Int)) (List (List Int)))) = some (.next s') ∧ (s'.1 = ((code.length : Nat) : Int) - 1 - ((j + 1 : Nat) : Int) ∧ s'.2.length = code.length + 1 ∧ ∀ k, k ≤ code.length → code.length ≤ k + (j + 1) → s'.2[k]? = some (liveV (code.drop k)))) := fun r2 hr2 => by
        refine ⟨_, rfl, ?_, by simp [h2], fun k k1 k2 => ?_⟩
        · dsimp only; rw [i64_lt (by omega) (by omega)]; omega
        · dsimp only
          by_cases hkq : k = q
          · subst hkq
            rw [List.getElem?_set_self (by omega), hr2, hd, liveV, hrow]
          · rw [List.getElem?_set_ne (by omega)]
            exact h3 k k1 (by omega)
      refine .inl ?_
      cases hw : wrE e
      · rw [cond_false, Option.bind_some, Option.bind_some, P_reads, Option.bind_some, key2 row hlr, Option.bind_some]
        exact fin row (by rw [rowE, hw]; rfl)
      · have g2 : getI (m.set q row) (q : Int) = some row := by rw [getI_nat (by omega), Int.toNat_natCast, List.getElem?_set_self (by omega)]
        have g3 : getI row e.2.1 = some (row[e.2.1.toNat]'(by omega)) := by rw [getI_nat he.2.1.1, List.getElem?_eq_getElem (by omega)]
        rw [cond_true, g2, Option.bind_some, og_true (by omega), g3, Option.bind_some, Option.bind_some, Option.bind_some, P_reads, Option.bind_some, List.set_set, key2 _ (by simp [hlr]), Option.bind_some]
        exact fin _ (by rw [rowE, hw]; rfl)
    · rintro ⟨i, m⟩ ⟨h1, h2, h3⟩
      dsimp only at h1 h2 h3 ⊢
      refine ⟨m, ?_, h2, fun k k1 => h3 k k1 (by omega)⟩
      unfold L_impl_Program_live_l1
      rw [dec_f (by omega), cond_false]
  obtain ⟨m, h1, h2⟩ := key
  exact ⟨m, by rw [h1]; rfl, h2⟩
end
end Go.Proofs.YtomijolkdmaimaaDoor
