/- Merged branches: what the partial functions come to, and the law; no condition. -/
import Derived.Test.YtefolocdfgelcaaDoorMGA
import Derived.Test.YtefolocdfgelcaaDoorNetG
import Derived.Test.YtefolocdfgelcaaDoorMatP
namespace Go.Proofs.YtefolocdfgelcaaDoor
abbrev Br := Int × Int × Int
theorem P_fdAdd {p x y : Int} (hp : 2 ≤ p ∧ p ≤ 97) (hx : 0 ≤ x ∧ x < p) (hy : 0 ≤ y ∧ y < p) : L_spec_fdAdd p x y = some ((x + y) % p) := by
  unfold L_spec_fdAdd
  rw [og_true (by omega), i64_lt (by omega) (by omega), Int.tmod_eq_emod_of_nonneg (by omega)]
theorem P_mod {p x : Int} (hp : 2 ≤ p ∧ p ≤ 97) : L_impl_mod p x = some (x % p) := by
  unfold L_impl_mod
  rw [og_true (by omega)]
  have e1 : x.tmod p = if 0 ≤ x ∨ x % p = 0 then x % p else x % p - p := by
    simp only [Int.tmod_eq_emod, Int.dvd_iff_emod_eq_zero]
    split <;> simp <;> omega
  have h1 := Int.emod_nonneg x (show p ≠ 0 by omega)
  have h2 := Int.emod_lt_of_pos x (show 0 < p by omega)
  by_cases h : x.tmod p < 0
  · rw [dec_t h, cond_true, Option.bind_some, i64_lt (by omega) (by omega)]
    congr 1
    split at e1 <;> omega
  · rw [dec_f h, cond_false, Option.bind_some]
    congr 1
    split at e1 <;> omega
theorem P_l1Own (xs : List Int) (h : xs.length ≤ 1000000) : L_spec_l1Own xs = some xs := by
  unfold L_spec_l1Own
  rw [og_true (by omega)]
theorem P_clone (xs : List Int) (h : xs.length ≤ 1000000) : L_impl_clone xs = some xs := by
  unfold L_impl_clone
  rw [og_true (by omega)]
def lo (e : Br) : Int := if e.1 < e.2.1 then e.1 else e.2.1
def hi (e : Br) : Int := if e.2.1 < e.1 then e.1 else e.2.1
theorem P_least (e : Br) : L_spec_l1Least e.1 e.2.1 = some (lo e) := by
  unfold L_spec_l1Least lo
  by_cases h : e.1 < e.2.1
  · rw [dec_t h, if_pos h]; rfl
  · rw [dec_f h, if_neg h]; rfl
theorem P_most (e : Br) : L_spec_l1Most e.1 e.2.1 = some (hi e) := by
  unfold L_spec_l1Most hi
  by_cases h : e.2.1 < e.1
  · rw [dec_t h, if_pos h]; rfl
  · rw [dec_f h, if_neg h]; rfl
theorem P_ordered (e : Br) : L_impl_Branch_ordered e.1 e.2.1 e.2.2 = some (lo e, hi e, e.2.2) := by
  unfold L_impl_Branch_ordered lo hi
  congr 2
  · split <;> split <;> omega
  · congr 1
    split <;> split <;> omega
/-- The sum of the branches between two nodes. -/
def sumF (p a b : Int) (s : Int) (e : Br) : Int := if lo e = a ∧ hi e = b then (s + e.2.2) % p else s
def sumAt (p : Int) (bs : List Br) (a b : Int) : Int := bs.foldl (sumF p a b) 0
theorem sumAt_succ {p : Int} {bs : List Br} {k : Nat} {e : Br} (h : bs[k]? = some e) (a b : Int) : sumAt p (bs.take (k + 1)) a b = if lo e = a ∧ hi e = b then (sumAt p (bs.take k) a b + e.2.2) % p else sumAt p (bs.take k) a b := by
  unfold sumAt
  rw [List.take_add_one, h, List.foldl_append]; rfl
theorem fold_bd {p a b : Int} (hp : 0 < p) : ∀ (bs : List Br) (s : Int), (0 ≤ s ∧ s < p) → 0 ≤ bs.foldl (sumF p a b) s ∧ bs.foldl (sumF p a b) s < p
  | [], _, h => h
  | e :: r, s, h => by
    rw [List.foldl_cons]
    refine fold_bd hp r _ ?_
    unfold sumF
    split
    · exact ⟨Int.emod_nonneg _ (by omega), Int.emod_lt_of_pos _ hp⟩
    · exact h
theorem sumAt_bd {p a b : Int} (hp : 0 < p) (bs : List Br) : 0 ≤ sumAt p bs a b ∧ sumAt p bs a b < p := fold_bd hp bs 0 ⟨by omega, hp⟩
theorem fold_ne {p a b : Int} : ∀ (bs : List Br) (s : Int), bs.foldl (sumF p a b) s ≠ s → ∃ e ∈ bs, lo e = a ∧ hi e = b
  | [], _, h => absurd rfl h
  | e :: r, s, h => by
    by_cases hk : lo e = a ∧ hi e = b
    · exact ⟨e, by simp, hk⟩
    · rw [List.foldl_cons, show sumF p a b s e = s from if_neg hk] at h
      obtain ⟨e', h1, h2⟩ := fold_ne r s h
      exact ⟨e', by simp [h1], h2⟩
theorem sumAt_ne {p a b : Int} {bs : List Br} (h : sumAt p bs a b ≠ 0) : ∃ e ∈ bs, lo e = a ∧ hi e = b := fold_ne bs 0 h
/-- The branches of a row; of all rows. -/
def one3 (a b : Nat) (x : Int) : List Br := if x ≠ 0 then [((a : Int), (b : Int), x)] else []
theorem one3_len (a b : Nat) (x : Int) : (one3 a b x).length ≤ 1 := by unfold one3; split <;> simp
def rowO (g : Nat → Int) (a : Nat) : Nat → List Br
  | 0 => []
  | j + 1 => rowO g a j ++ one3 a j (g j)
def allO (f : Nat → Nat → Int) (n : Nat) : Nat → List Br
  | 0 => []
  | i + 1 => allO f n i ++ rowO (f i) i n
theorem rowO_len {g : Nat → Int} {a : Nat} : ∀ j, (rowO g a j).length ≤ j
  | 0 => by simp [rowO]
  | j + 1 => by
    have h1 := rowO_len (g := g) (a := a) j
    have h2 := one3_len a j (g j)
    simp only [rowO, List.length_append]; omega
theorem allO_len {f : Nat → Nat → Int} {n : Nat} : ∀ i, (allO f n i).length ≤ i * n
  | 0 => by simp [allO]
  | i + 1 => by
    have h1 := allO_len (f := f) (n := n) i
    have h2 := rowO_len (g := f i) (a := i) n
    simp only [allO, List.length_append, Nat.succ_mul]; omega
theorem rowO_zero {g : Nat → Int} {a : Nat} : ∀ j, (∀ b, b < j → g b = 0) → rowO g a j = []
  | 0, _ => rfl
  | j + 1, h => by rw [rowO, rowO_zero j (fun b hb => h b (by omega)), one3, h j (by omega)]; rfl
theorem rowO_one {g g' : Nat → Int} {a b0 : Nat} (h : ∀ b, b ≠ b0 → g' b = g b) : ∀ j, (rowO g' a j).length ≤ (rowO g a j).length + (if b0 < j then 1 else 0)
  | 0 => by simp [rowO]
  | j + 1 => by
    have ih := rowO_one (a := a) h j
    simp only [rowO, List.length_append]
    by_cases hj : j = b0
    · subst hj
      have := one3_len a j (g' j)
      rw [if_neg (by omega)] at ih
      rw [if_pos (by omega)]
      omega
    · rw [h j hj]
      by_cases h1 : b0 < j
      · rw [if_pos h1] at ih; rw [if_pos (by omega)]; omega
      · rw [if_neg h1] at ih; rw [if_neg (by omega)]; omega
theorem allO_one {f f' : Nat → Nat → Int} {n a0 b0 : Nat} (h : ∀ a b, ¬ (a = a0 ∧ b = b0) → f' a b = f a b) : ∀ i, (allO f' n i).length ≤ (allO f n i).length + (if a0 < i then 1 else 0)
  | 0 => by simp [allO]
  | i + 1 => by
    have ih := allO_one (n := n) h i
    simp only [allO, List.length_append]
    by_cases hi : i = a0
    · subst hi
      have := rowO_one (g := f i) (g' := f' i) (a := i) (b0 := b0) (fun b hb => h i b fun e => hb e.2) n
      rw [if_neg (by omega)] at ih
      rw [if_pos (by omega)]
      have : (if b0 < n then 1 else 0) ≤ 1 := by split <;> omega
      omega
    · have : f' i = f i := funext fun b => h i b fun e => hi e.1
      rw [this]
      by_cases h1 : a0 < i
      · rw [if_pos h1] at ih; rw [if_pos (by omega)]; omega
      · rw [if_neg h1] at ih; rw [if_neg (by omega)]; omega
theorem mem_rowO {g : Nat → Int} {a : Nat} {e : Br} : ∀ j, e ∈ rowO g a j → ∃ b, b < j ∧ g b ≠ 0 ∧ e = ((a : Int), (b : Int), g b)
  | 0, h => by cases h
  | j + 1, h => by
    rcases List.mem_append.1 h with h | h
    · obtain ⟨b, h1, h2⟩ := mem_rowO j h
      exact ⟨b, by omega, h2⟩
    · unfold one3 at h
      split at h
      · rename_i hx
        exact ⟨j, by omega, hx, List.mem_singleton.1 h⟩
      · cases h
theorem mem_allO {f : Nat → Nat → Int} {n : Nat} {e : Br} : ∀ i, e ∈ allO f n i → ∃ a b, a < i ∧ b < n ∧ f a b ≠ 0 ∧ e = ((a : Int), (b : Int), f a b)
  | 0, h => by cases h
  | i + 1, h => by
    rcases List.mem_append.1 h with h | h
    · obtain ⟨a, b, h1, h2⟩ := mem_allO i h
      exact ⟨a, b, by omega, h2⟩
    · obtain ⟨b, h1, h2, h3⟩ := mem_rowO n h
      exact ⟨i, b, by omega, h1, h2, h3⟩
def sumN (p : Int) (bs : List Br) (a b : Nat) : Int := sumAt p bs a b
def mrgO (p : Int) (n : Nat) (bs : List Br) : List Br := allO (sumN p bs) n n
theorem allO_nil {p : Int} {n : Nat} : ∀ i, allO (sumN p []) n i = []
  | 0 => rfl
  | i + 1 => by rw [allO, allO_nil i, rowO_zero (g := sumN p [] i) n (fun _ _ => rfl)]; rfl
theorem mrgO_len {p : Int} {n : Nat} (bs : List Br) : ∀ k, k ≤ bs.length → (mrgO p n (bs.take k)).length ≤ k
  | 0, _ => by simp [mrgO, allO_nil]
  | k + 1, hk => by
    have hx := List.getElem?_eq_getElem (show k < bs.length by omega)
    have ih := mrgO_len (p := p) (n := n) bs k (by omega)
    have := allO_one (f := sumN p (bs.take k)) (f' := sumN p (bs.take (k + 1))) (n := n) (a0 := (lo bs[k]).toNat) (b0 := (hi bs[k]).toNat) (fun a b hab => by
      unfold sumN
      rw [sumAt_succ hx, if_neg (fun h => hab ⟨by omega, by omega⟩)]) n
    have h2 : (if (lo bs[k]).toNat < n then 1 else 0) ≤ 1 := by split <;> omega
    unfold mrgO at ih ⊢
    omega
/-- A square as a list of rows. -/
def matF (n : Nat) (f : Nat → Nat → Int) : List (List Int) := (List.range n).map fun i => (List.range n).map fun j => f i j
theorem matF_set {n : Nat} {f : Nat → Nat → Int} {i0 j0 : Nat} {v : Int} : (matF n f).set i0 (((List.range n).map fun j => f i0 j).set j0 v) = matF n (fun i j => if i0 = i ∧ j0 = j then v else f i j) := by
  refine List.ext_getElem (by simp [matF]) fun i h1 h2 => ?_
  have hi : i < n := by simpa [matF] using h2
  simp only [matF, List.getElem_set, List.getElem_map, List.getElem_range]
  by_cases h : i0 = i
  · subst h
    rw [if_pos rfl]
    refine List.ext_getElem (by simp) fun j h3 h4 => ?_
    simp only [List.getElem_set, List.getElem_map, List.getElem_range]
    by_cases hj : j0 = j
    · simp [hj]
    · simp [hj]
  · rw [if_neg h]
    refine List.map_congr_left fun j _ => ?_
    rw [if_neg (fun e => h e.1)]
theorem matF_get {n : Nat} {f : Nat → Nat → Int} {i : Nat} (h : i < n) : (matF n f)[i]? = some ((List.range n).map fun j => f i j) := by simp [matF, h]
section
variable {p n : Int} {bs : List Br} {l r : List Int}
theorem lohi (G : GoodN p n bs l r) {e : Br} (he : e ∈ bs) : 0 ≤ lo e ∧ lo e < hi e ∧ hi e < n := by
  obtain ⟨h1, h2, h3, _⟩ := G.ib e he
  unfold lo hi
  split <;> split <;> omega
theorem P_sums (G : GoodN p n bs l r) : loopM (fun s_ : Nat × List (List Int) => L_spec_nwMerge_l1 bs p s_.1 s_.2) 4611686018427387904 (0, List.replicate n.toNat (List.replicate n.toNat 0)) = some (matF n.toNat (sumN p bs)) := by
  have hp := isF_bd G.fp
  have hb := G.lb
  refine loopM_det bs.length (fun k => (k, matF n.toNat (sumN p (bs.take k)))) (by omega) _ ?_ (fun k hk => ?_) ?_
  · have e1 : (List.range n.toNat).map (fun _ => (0 : Int)) = List.replicate n.toNat 0 := by rw [List.map_const', List.length_range]
    have e2 : matF n.toNat (sumN p (bs.take 0)) = List.replicate n.toNat (List.replicate n.toNat 0) := by
      show (List.range n.toNat).map (fun _ => (List.range n.toNat).map (fun _ => (0 : Int))) = _
      rw [e1, List.map_const', List.length_range]
    rw [e2]
  · have hx := List.getElem?_eq_getElem hk
    have hm := List.getElem_mem hk
    have hl := lohi G hm
    have hg := (G.ib _ hm).2.2.2
    have hs := sumAt_succ (p := p) hx
    generalize bs[k] = e at hx hm hl hg hs
    have hbd := sumAt_bd (p := p) (a := lo e) (b := hi e) (by omega) (bs.take k)
    have h1 : getI (matF n.toNat (sumN p (bs.take k))) (lo e) = some ((List.range n.toNat).map fun j => sumN p (bs.take k) (lo e).toNat j) := by
      rw [getI_nat (by omega), matF_get (by omega)]
    have h2 : getI ((List.range n.toNat).map fun j => sumN p (bs.take k) (lo e).toNat j) (hi e) = some (sumAt p (bs.take k) (lo e) (hi e)) := by
      rw [getI_nat (by omega), List.getElem?_map, List.getElem?_range (by omega)]
      simp only [Option.map_some, sumN]
      rw [Int.toNat_of_nonneg (by omega), Int.toNat_of_nonneg (by omega)]
    try dsimp only
    unfold L_spec_nwMerge_l1
    rw [dec_t (by omega), cond_true, hx, Option.bind_some, P_least, Option.bind_some, P_most, Option.bind_some, h1, Option.bind_some, h2, Option.bind_some, P_fdAdd hp hbd (by omega), Option.bind_some, og_true (by omega), matF_set]
    have : (fun i j => if (lo e).toNat = i ∧ (hi e).toNat = j then (sumAt p (bs.take k) (lo e) (hi e) + e.2.2) % p else sumN p (bs.take k) i j) = sumN p (bs.take (k + 1)) := by
      funext i j
      unfold sumN
      rw [hs]
      by_cases h : (lo e).toNat = i ∧ (hi e).toNat = j
      · have e1 : lo e = (i : Int) := by omega
        have e2 : hi e = (j : Int) := by omega
        rw [if_pos h, if_pos ⟨e1, e2⟩, e1, e2]
      · rw [if_neg h, if_neg (fun q => h ⟨by omega, by omega⟩)]
    rw [this]
  · try dsimp only
    unfold L_spec_nwMerge_l1
    rw [dec_f (by omega), cond_false, List.take_length]
theorem P_specRow {g : Nat → Int} {N a : Nat} (hN : N ≤ 20) {acc : List Br} (ha : acc.length ≤ 1000) : loopM (fun s_ : Nat × (List Br) => L_spec_nwMerge_l3 ((List.range N).map g) a s_.1 s_.2) 4611686018427387904 (0, acc) = some (acc ++ rowO g a N) := by
  refine loopM_det N (fun j => (j, acc ++ rowO g a j)) (by omega) _ (by simp [rowO]) (fun j hj => ?_) ?_
  · have hx : ((List.range N).map g)[j]? = some (g j) := by simp [hj]
    have hl := rowO_len (g := g) (a := a) j
    try dsimp only
    unfold L_spec_nwMerge_l3
    rw [dec_t (by simp; omega), cond_true, hx, Option.bind_some, rowO]
    by_cases h0 : g j = 0
    · rw [show (g j != 0) = false by simp [h0], cond_false, Option.bind_some, og_true (by omega), one3, if_neg (by simp [h0]), List.append_nil]
    · rw [show (g j != 0) = true by simp [h0], cond_true, og_true (by rw [List.length_append]; omega), Option.bind_some, og_true (by omega), one3, if_pos h0, List.append_assoc]
  · try dsimp only
    unfold L_spec_nwMerge_l3
    rw [dec_f (by simp), cond_false]
theorem P_specAll {f : Nat → Nat → Int} {N : Nat} (hN : N ≤ 20) : loopM (fun s_ : Nat × (List Br) => L_spec_nwMerge_l2 (matF N f) s_.1 s_.2) 4611686018427387904 (0, []) = some (allO f N N) := by
  refine loopM_det N (fun i => (i, allO f N i)) (by omega) _ rfl (fun i hi => ?_) ?_
  · have hl := allO_len (f := f) (n := N) i
    have : i * N ≤ 20 * 20 := Nat.mul_le_mul (by omega) hN
    try dsimp only
    unfold L_spec_nwMerge_l2
    rw [dec_t (by simp [matF]; omega), cond_true, matF_get hi, Option.bind_some, P_specRow hN (by omega), Option.bind_some, og_true (by omega)]; rfl
  · try dsimp only
    unfold L_spec_nwMerge_l2
    rw [dec_f (by simp [matF]), cond_false]
theorem P_specMerge (G : GoodN p n bs l r) : L_spec_nwMerge p n bs l r = some (n, mrgO p n.toNat bs, l, r) := by
  have h1 := G.n1; have h2 := G.n2; have h3 := G.ll; have h4 := G.lr
  unfold L_spec_nwMerge
  rw [P_mxZero (by omega) (by omega), Option.bind_some, P_sums G, Option.bind_some, P_l1Own l (by omega), Option.bind_some, P_l1Own r (by omega), Option.bind_some, P_specAll (by omega), Option.bind_some]; rfl
theorem mput_len (es : List (Int × Int)) (k v : Int) : (mput es k v).length ≤ es.length + 1 := by
  unfold mput mdel
  have := List.length_filter_le (fun e : Int × Int => !(e.1 == k)) es
  simp only [List.length_cons]; omega
theorem P_map (G : GoodN p n bs l r) : ∃ es, loopM (fun s_ : Nat × (List (Int × Int)) => L_impl_Network_merged_l1 bs p s_.1 s_.2) 4611686018427387904 (0, []) = some es ∧ ∀ a b : Int, (mget es (encK a b 0)).getD 0 = sumAt p bs a b := by
  have hp := isF_bd G.fp
  have hb := G.lb
  refine loopM_post (Post := fun es : List (Int × Int) => ∀ a b : Int, (mget es (encK a b 0)).getD 0 = sumAt p bs a b) bs.length (fun k s => s.1 = k ∧ s.2.length ≤ k ∧ ∀ a b : Int, (mget s.2 (encK a b 0)).getD 0 = sumAt p (bs.take k) a b) (by omega) ⟨rfl, Nat.le_refl _, fun a b => rfl⟩ ?_ ?_
  · rintro k ⟨k', es⟩ hk ⟨rfl, hlen, hI⟩
    dsimp only at hk hlen hI ⊢
    have hx := List.getElem?_eq_getElem hk
    have hm := List.getElem_mem hk
    have hl := lohi G hm
    have hg := (G.ib _ hm).2.2.2
    have hn := G.n2
    have hs := sumAt_succ (p := p) hx
    generalize bs[k'] = e at hx hm hl hg hs
    have hbd := sumAt_bd (p := p) (a := lo e) (b := hi e) (by omega) (bs.take k')
    have r1 : i64R (lo e) := by unfold i64R; omega
    have r2 : i64R (hi e) := by unfold i64R; omega
    have r0 : i64R 0 := by unfold i64R; omega
    have hmod : 0 ≤ (sumAt p (bs.take k') (lo e) (hi e) + e.2.2) % p ∧ (sumAt p (bs.take k') (lo e) (hi e) + e.2.2) % p < p := ⟨Int.emod_nonneg _ (by omega), Int.emod_lt_of_pos _ (by omega)⟩
    have r3 : i64R ((sumAt p (bs.take k') (lo e) (hi e) + e.2.2) % p) := by unfold i64R; omega
    refine .inl ⟨(k' + 1, mput es (encK (lo e) (hi e) 0) ((sumAt p (bs.take k') (lo e) (hi e) + e.2.2) % p)), ?_, rfl, by have := mput_len es (encK (lo e) (hi e) 0) ((sumAt p (bs.take k') (lo e) (hi e) + e.2.2) % p); dsimp only; omega, fun a b => ?_⟩
    · unfold L_impl_Network_merged_l1
      rw [dec_t (by omega), cond_true, hx, Option.bind_some, P_ordered, Option.bind_some]
      dsimp only
      rw [og_true ⟨r1, r2, r0⟩, hI, i64_lt (by omega) (by omega), P_mod hp, Option.bind_some, og_true ⟨⟨r1, r2, r0⟩, by omega, r3⟩, og_true (by omega)]
    · dsimp only
      rw [hs]
      by_cases h : lo e = a ∧ hi e = b
      · obtain ⟨rfl, rfl⟩ := h
        rw [mget_put_same, if_pos ⟨rfl, rfl⟩]; rfl
      · rw [if_neg h, mget_put_other (fun q => h ⟨(encK_inj q).1.symm, (encK_inj q).2.1.symm⟩), hI]
  · rintro ⟨k', es⟩ ⟨rfl, hlen, hI⟩
    dsimp only at hI ⊢
    unfold L_impl_Network_merged_l1
    rw [dec_f (by omega), cond_false]
    rw [List.take_length] at hI
    exact ⟨es, rfl, hI⟩
theorem P_implRow (G : GoodN p n bs l r) {es : List (Int × Int)} (hI : ∀ a b : Int, (mget es (encK a b 0)).getD 0 = sumAt p bs a b) {a : Nat} (ha : a < n.toNat) {acc : List Br} (hacc : acc.length ≤ 1000) :
    loopM (fun s_ : Nat × (List Br) => L_impl_Network_merged_l3 n a es s_.1 s_.2) 4611686018427387904 (a + 1, acc) = some (acc ++ rowO (sumN p bs a) a n.toNat) := by
  have hn := G.n2
  have h0 : rowO (sumN p bs a) a (a + 1) = [] := rowO_zero _ fun b hb => by
    unfold sumN
    by_cases h : sumAt p bs a b = 0
    · exact h
    · obtain ⟨e, he, h1, h2⟩ := sumAt_ne h
      have := lohi G he
      omega
  refine loopM_det (n.toNat - (a + 1)) (fun j => (a + 1 + j, acc ++ rowO (sumN p bs a) a (a + 1 + j))) (by omega) _ (by simp [h0]) (fun j hj => ?_) ?_
  · have hl := rowO_len (g := sumN p bs a) (a := a) (a + 1 + j)
    have r1 : i64R ((a : Nat) : Int) := by unfold i64R; omega
    have r2 : i64R ((a + 1 + j : Nat) : Int) := by unfold i64R; omega
    have r0 : i64R 0 := by unfold i64R; omega
    try dsimp only
    unfold L_impl_Network_merged_l3
    rw [dec_t (by omega), cond_true, og_true ⟨r1, r2, r0⟩, hI, show a + 1 + (j + 1) = (a + 1 + j) + 1 by omega, rowO, show sumAt p bs ((a : Nat) : Int) ((a + 1 + j : Nat) : Int) = sumN p bs a (a + 1 + j) from rfl]
    generalize sumN p bs a (a + 1 + j) = x
    by_cases hx : x = 0
    · rw [show (x != 0) = false by simp [hx], cond_false, Option.bind_some, og_true (by omega), one3, if_neg (by simp [hx]), List.append_nil]
    · rw [show (x != 0) = true by simp [hx], cond_true, og_true (by rw [List.length_append]; omega), Option.bind_some, og_true (by omega), one3, if_pos hx, List.append_assoc]
  · try dsimp only
    unfold L_impl_Network_merged_l3
    rw [dec_f (by omega), cond_false, show a + 1 + (n.toNat - (a + 1)) = n.toNat by omega]
theorem P_implMerged (G : GoodN p n bs l r) : L_impl_Network_merged n bs l r p = some (n, mrgO p n.toNat bs, l, r) := by
  have h1 := G.n1; have h2 := G.n2; have h3 := G.ll; have h4 := G.lr
  obtain ⟨es, q1, hI⟩ := P_map G
  unfold L_impl_Network_merged
  have q2 : loopM (fun s_ : Nat × (List Br) => L_impl_Network_merged_l2 n es s_.1 s_.2) 4611686018427387904 (0, []) = some (mrgO p n.toNat bs) := by
    refine loopM_det n.toNat (fun i => (i, allO (sumN p bs) n.toNat i)) (by omega) _ rfl (fun i hi => ?_) ?_
    · have hl := allO_len (f := sumN p bs) (n := n.toNat) i
      have : i * n.toNat ≤ 20 * 20 := Nat.mul_le_mul (by omega) (by omega)
      try dsimp only
      unfold L_impl_Network_merged_l2
      rw [dec_t (by omega), cond_true, og_true (by omega), P_implRow G hI hi (by omega), Option.bind_some, og_true (by omega)]; rfl
    · try dsimp only
      unfold L_impl_Network_merged_l2
      rw [dec_f (by omega), cond_false]; rfl
  rw [q1, Option.bind_some, P_clone l (by omega), Option.bind_some, P_clone r (by omega), Option.bind_some, q2, Option.bind_some]
theorem merged_good (G : GoodN p n bs l r) : GoodN p n (mrgO p n.toNat bs) l r := by
  have hp := isF_bd G.fp
  have hl := mrgO_len (p := p) (n := n.toNat) bs bs.length (Nat.le_refl _)
  rw [List.take_length] at hl
  refine ⟨G.fp, G.n1, G.n2, by have := G.lb; omega, G.ll, G.lr, G.il, G.ir, fun e he => ?_⟩
  obtain ⟨a, b, h1, h2, h3, rfl⟩ := mem_allO _ he
  obtain ⟨e0, q1, q2, q3⟩ := sumAt_ne h3
  have := lohi G q1
  have hb := sumAt_bd (p := p) (a := a) (b := b) (by omega) bs
  have h3 : sumAt p bs a b ≠ 0 := h3
  refine ⟨by dsimp only; omega, by dsimp only; omega, by dsimp only; omega, ?_⟩
  show 1 ≤ sumAt p bs a b ∧ sumAt p bs a b < p
  omega
end
theorem P_mrgBoth {p n : Int} {b : List Br} {l r : List Int} (h1 : b.length ≤ 1073741824) (h2 : l.length ≤ 1073741824) (h3 : r.length ≤ 1073741824) :
    ∃ v : Int × List Br × List Int × List Int × Bool, L_spec_MergeBranches p n b l r = some v ∧ L_impl_MergeBranches p n b l r = some v ∧ v.2.1.length ≤ 1073741824 ∧ v.2.2.1.length ≤ 1073741824 ∧ v.2.2.2.1.length ≤ 1073741824 := by
  unfold L_spec_MergeBranches L_impl_MergeBranches
  rw [P_nwGood p n b l r (by omega) (by omega) (by omega), P_isNetwork p n b l r (by omega) (by omega) (by omega), Option.bind_some, Option.bind_some]
  cases hg : goodP p n b l r
  · exact ⟨(0, [], [], [], false), rfl, rfl, by simp, by simp, by simp⟩
  have G := goodP_iff.1 hg
  have G' := merged_good G
  have hm := G'.lb
  refine ⟨(n, mrgO p n.toNat b, l, r, true), ?_, ?_, by dsimp only; omega, h2, h3⟩
  · rw [Bool.not_true, cond_false, P_specMerge G, Option.bind_some]
    dsimp only
    unfold L_spec_nwIf
    rw [P_nwGood p n _ l r (by omega) (by omega) (by omega), goodP_iff.2 G']
    rfl
  · rw [Bool.not_true, cond_false, P_implMerged G]; rfl
/-- The law. -/
theorem P_lawMrg {p n : Int} {b : List Br} {l r : List Int} (h1 : b.length ≤ 9223372036854775807) (h2 : l.length ≤ 9223372036854775807) (h3 : r.length ≤ 9223372036854775807) : L_laws_FnExactMergeBranches p n b l r = some true := by
  unfold L_laws_FnExactMergeBranches
  rw [P_szNetwork n b l r (by omega) (by omega) (by omega) (by omega), Option.bind_some]
  by_cases e0 : (1048576 : Int) < ((b.length + l.length + r.length : Nat) : Int)
  · rw [show szV 1048576 (b.length + l.length + r.length) = -1 from if_pos e0]; rfl
  rw [show szV 1048576 (b.length + l.length + r.length) = 1048576 - ((b.length + l.length + r.length : Nat) : Int) from if_neg e0, dec_f (by omega), cond_false]
  have h1 : b.length ≤ 1073741824 := by omega
  have h2 : l.length ≤ 1073741824 := by omega
  have h3 : r.length ≤ 1073741824 := by omega
  obtain ⟨⟨vn, vb, vl, vr, vo⟩, hs, hi, v1, v2, v3⟩ := P_mrgBoth (p := p) (n := n) h1 h2 h3
  dsimp only at v1 v2 v3
  obtain ⟨b1, l1, r1, u1, c1, d1, m1, x1, y1, z1, k1⟩ := P_markNetwork n b l r (v := 1) (by omega) h1 h2 h3
  obtain ⟨b2, l2, r2, u2, c2, d2, m2, x2, y2, z2, k2⟩ := P_markNetwork vn vb vl vr (v := 1) (by omega) v1 v2 v3
  simp only [P_toNetwork n b l r h1 h2 h3, hs, hi, Option.bind_some, P_eqNetwork vn vb vl vr v1 v2 v3, P_eqNetwork n b l r h1 h2 h3, m1, m2, k1, k2, og_true x1, og_true y1, og_true z1, og_true x2, og_true y2, og_true z2, bne_self_eq_false, Bool.not_true, cond_false, dec_f (show ¬ u1 < 0 by omega), dec_f (show ¬ u2 < 0 by omega)]
end Go.Proofs.YtefolocdfgelcaaDoor
