/- An abstract machine: regions that draw their order do what the lexical order does; conditions: what an operation changes is ordered with all that looks at objects. -/
import Derived.Test.YtefolocdfgelcaaDoorE14
namespace Go.Proofs.YtefolocdfgelcaaDoor
open Go.RowKit Go.Deep

def depsOf (o : Oper) : List Nat := (o.after.toList.filter (Region.binds .any)).map (·.on)
/-- Two operations may come up in either order. -/
def pairOK (ri rj : Rec) (di dj : List Oid) : Prop :=
  ((ri.1 = 2 → rj.1 = 0) ∧ (rj.1 = 2 → ri.1 = 0)) ∨ ((ri.1 = 2 → ∀ u ∈ ri.2.2, u.1 ∉ dj) ∧ (rj.1 = 2 → ∀ u ∈ rj.2.2, u.1 ∉ di) ∧ ∀ u ∈ ri.2.2, ∀ v ∈ rj.2.2, u.1 ≠ v.1)
def dstsB : List (Option Nat) → Bool
  | [] => true
  | none :: r => dstsB r
  | some d :: r => !r.contains (some d) && dstsB r
theorem dstsB_spec : ∀ {ds : List (Option Nat)}, dstsB ds = true → ∀ (i j s : Nat), i < j → ds[i]? = some (some s) → ds[j]? ≠ some (some s)
  | [], _, i, j, s, _, h => by simp at h
  | none :: r, hb, 0, j, s, _, h => by simp at h
  | none :: r, hb, i + 1, 0, s, hij, _ => by omega
  | none :: r, hb, i + 1, j + 1, s, hij, h => by
    have := dstsB_spec (ds := r) hb i j s (by omega) (by simpa using h)
    simpa using this
  | some d :: r, hb, 0, j, s, hij, h => by
    simp only [dstsB, Bool.and_eq_true] at hb
    simp at h
    subst h
    intro hj
    cases j with
    | zero => omega
    | succ j =>
      have h1 : (some d : Option Nat) ∈ r := List.mem_of_getElem? (by simpa using hj)
      have h2 := hb.1
      simp at h2
      exact h2 h1
  | some d :: r, hb, i + 1, 0, s, hij, _ => by omega
  | some d :: r, hb, i + 1, j + 1, s, hij, h => by
    simp only [dstsB, Bool.and_eq_true] at hb
    have := dstsB_spec (ds := r) hb.2 i j s (by omega) (by simpa using h)
    simpa using this

section
variable {P : Program} {G : World → Prop} {w0 w w' : World} {N : Nat}

theorem ofL_get : ∀ {os : List Oper} {xs : List X} {ops : Array Oper}, X.ofL P N ops os = some xs → os.length = xs.length ∧ ∀ (k : Nat) (o : Oper), os[k]? = some o → ∃ x : X, xs[k]? = some x ∧ X.of P N ops o = some x
  | [], xs, ops, h => by
    obtain rfl : [] = xs := Option.some.inj h
    exact ⟨rfl, fun k o h => by simp at h⟩
  | o :: os, xs, ops, h => by
    simp only [X.ofL] at h
    split at h
    · rename_i x xs' h1 h2
      obtain rfl := Option.some.inj h
      obtain ⟨q1, q2⟩ := ofL_get h2
      refine ⟨by simp [q1], fun k o' hk => ?_⟩
      cases k with
      | zero => simp at hk; subst hk; exact ⟨x, by simp, h1⟩
      | succ k => obtain ⟨y, r1, r2⟩ := q2 k o' (by simpa using hk); exact ⟨y, by simpa using r1, r2⟩
    · cases h
theorem X.of_dst {ops : Array Oper} {o : Oper} {x : X} (h : X.of P N ops o = some x) : x.dst = o.dst ∧ dstB N o = true := by
  unfold X.of at h
  split at h
  · split at h
    · rename_i hd
      split at h
      · obtain rfl := Option.some.inj h; exact ⟨rfl, hd⟩
      · split at h
        · obtain rfl := Option.some.inj h; exact ⟨rfl, hd⟩
        · cases h
    · cases h
  · cases h

/-- Facts of a region whose order may be drawn. -/
structure Drawn (ops : Array Oper) (xs : List X) (rs : List Rec) (ds : List (List Oid)) : Prop where
  lx : xs.length = ops.size
  lr : rs.length = ops.size
  ld : ds.length = ops.size
  dst : ∀ (k : Nat) (o : Oper) (x : X), ops[k]? = some o → xs[k]? = some x → x.dst = o.dst
  fwd : ∀ (k : Nat) (o : Oper), ops[k]? = some o → ∀ d ∈ depsOf o, d < k
  one : ∀ (i j : Nat) (x y : X) (s : Nat), i < j → xs[i]? = some x → xs[j]? = some y → x.dst = some s → y.dst ≠ some s
  pair : ∀ (i j : Nat) (oi oj : Oper) (ri rj : Rec) (di dj : List Oid), j < i → ops[i]? = some oi → ops[j]? = some oj → rs[i]? = some ri → rs[j]? = some rj → ds[i]? = some di → ds[j]? = some dj →
    ((ancs (ops.toList.map depsOf) []).getD i 0).testBit j = true ∨ (oj.apart ops oi = true ∧ pairOK ri rj di dj)
theorem Drawn.of {ops : Array Oper} {xs : List X} {rs : List Rec} {ds : List (List Oid)} (hx : X.ofL P N ops ops.toList = some xs) (hr : xs.length = rs.length) (hd : xs.length = ds.length)
    (b2 : (ops.toList.zipIdx.all fun x => (depsOf x.1).all fun d => decide (d < x.2)) = true) (b3 : dstsB (ops.toList.map (·.dst)) = true)
    (b4 : ∀ i j, i < ops.size → j < i → ((ancs (ops.toList.map depsOf) []).getD i 0).testBit j = true ∨ ((ops.getD j default).apart ops (ops.getD i default) = true ∧ pairOK (rs.getD i (0, .any, [])) (rs.getD j (0, .any, [])) (ds.getD i []) (ds.getD j []))) : Drawn ops xs rs ds := by
  obtain ⟨q1, q2⟩ := ofL_get hx
  have lx : xs.length = ops.size := by rw [← q1]; simp
  have hdst : ∀ (k : Nat) (o : Oper) (x : X), ops[k]? = some o → xs[k]? = some x → x.dst = o.dst := by
    intro k o x ho hx'
    obtain ⟨y, r1, r2⟩ := q2 k o (by simpa using ho)
    rw [hx'] at r1
    obtain rfl := Option.some.inj r1
    exact (X.of_dst r2).1
  refine ⟨lx, by omega, by omega, hdst, ?_, ?_, ?_⟩
  · intro k o ho d hd
    rw [List.all_eq_true] at b2
    have := b2 (o, k) (by rw [List.mem_zipIdx_iff_getElem?]; simpa using ho)
    rw [List.all_eq_true] at this
    exact of_decide_eq_true (this d hd)
  · intro i j x y s hij hxi hxj hs hs'
    have hi : i < ops.size := by rw [← lx]; exact (List.getElem?_eq_some_iff.1 hxi).1
    have hj : j < ops.size := by rw [← lx]; exact (List.getElem?_eq_some_iff.1 hxj).1
    refine dstsB_spec b3 i j s hij ?_ ?_
    · rw [List.getElem?_map]
      simp [hi, ← hdst i _ x (Array.getElem?_eq_getElem hi) hxi, hs]
    · rw [List.getElem?_map]
      simp [hj, ← hdst j _ y (Array.getElem?_eq_getElem hj) hxj, hs']
  · intro i j oi oj ri rj di dj hij hoi hoj hri hrj hdi hdj
    have hi : i < ops.size := (Array.getElem?_eq_some_iff.1 hoi).1
    have h2 := b4 i j hi hij
    have e1 : ops.getD i default = oi := by simp [Array.getD_eq_getD_getElem?, hoi]
    have e2 : ops.getD j default = oj := by simp [Array.getD_eq_getD_getElem?, hoj]
    rw [e1, e2] at h2
    simpa only [List.getD_eq_getElem?_getD, hri, hrj, hdi, hdj, Option.getD_some] using h2

def isIn (listed : Array Bool) (k : Nat) : Bool := listed.getD k false
/-- All that an operation waits for has come up. -/
theorem anc_in {ops : Array Oper} {xs : List X} {rs : List Rec} {ds : List (List Oid)} (hD : Drawn ops xs rs ds) {p : Nat → Bool} (hcl : ∀ (k : Nat) (o : Oper), ops[k]? = some o → p k = true → ∀ d ∈ depsOf o, p d = true) : ∀ (n k : Nat), k ≤ n → ∀ (o : Oper), ops[k]? = some o → (∀ d ∈ depsOf o, p d = true) → ∀ j, ((ancs (ops.toList.map depsOf) []).getD k 0).testBit j = true → p j = true
  | n, k, hk, o, ho, hd, j, hj => by
    obtain ⟨d, hdm, h⟩ := (ancs_spec (ops.toList.map depsOf) []).2 k (depsOf o) (by rw [List.getElem?_map]; simp [ho]) j (by simpa using hj)
    have hpd := hd d hdm
    rcases h with rfl | h
    · exact hpd
    · have hlt := hD.fwd k o ho d hdm
      have hko : k < ops.size := (Array.getElem?_eq_some_iff.1 ho).1
      cases n with
      | zero => omega
      | succ n =>
        exact anc_in hD hcl n d (by omega) _ (Array.getElem?_eq_getElem (by omega : d < ops.size)) (hcl d _ (Array.getElem?_eq_getElem (by omega : d < ops.size)) hpd) j h

theorem apart_facts {ops : Array Oper} {x y : Oper} (h : x.apart ops y = true) : (∀ d, x.dst = some d → d ∉ y.looksAt ops) ∧ (∀ d, x.dst = some d → y.dst ≠ some d) ∧ (∀ d, y.dst = some d → d ∉ x.looksAt ops) := Oper.apart_spec h

theorem selT_cong {p q : Nat → Bool} {s : Nat} : ∀ (k : Nat) (xs : List X) (rs : List Rec) (f f' : Nat → AV), f s = f' s → (∀ (j : Nat) (x : X), xs[j]? = some x → x.dst = some s → p (k + j) = q (k + j)) → selT p k xs rs f s = selT q k xs rs f' s
  | _, [], rs, f, f', h, _ => by cases rs <;> exact h
  | _, _ :: _, [], _, _, h, _ => h
  | k, x :: xs, r :: rs, f, f', h, hd => by
    simp only [selT]
    refine selT_cong (k + 1) xs rs _ _ ?_ (fun j y hy hs => by rw [show k + 1 + j = k + (j + 1) by omega]; exact hd (j + 1) y (by simpa using hy) hs)
    by_cases e : x.dst = some s
    · have := hd 0 x (by simp) e
      rw [Nat.add_zero] at this
      rw [this, e]
      split
      · simp only [putT, upd_same]
      · exact h
    · have hp : ∀ g : Nat → AV, putT x.dst r.2.1 g s = g s := by
        intro g
        cases hx : x.dst with
        | none => rfl
        | some d => simp only [putT]; rw [upd_other]; intro e'; subst e'; exact e hx
      split <;> split <;> simp [hp, h]
theorem least (p : Nat → Bool) : ∀ k, p k = false → ∃ m, m ≤ k ∧ p m = false ∧ ∀ l, l < m → p l = true := by
  intro k
  induction k using Nat.strongRecOn with
  | _ k ih =>
    intro hk
    by_cases h : ∃ l, l < k ∧ p l = false
    · obtain ⟨l, h1, h2⟩ := h
      obtain ⟨m, q1, q2, q3⟩ := ih l h1 h2
      exact ⟨m, by omega, q2, q3⟩
    · refine ⟨k, Nat.le_refl _, hk, fun l hl => ?_⟩
      cases hp : p l with
      | true => rfl
      | false => exact absurd ⟨l, hl, hp⟩ h
theorem filter_set (l : List Bool) (i : Nat) (h : l[i]? = some false) : ((l.set i true).filter (!·)).length + 1 = (l.filter (!·)).length := by
  induction l generalizing i with
  | nil => simp at h
  | cons b l ih =>
    cases i with
    | zero => simp at h; subst h; simp
    | succ i =>
      have := ih i (by simpa using h)
      cases b <;> simp [List.filter_cons] at * <;> omega

theorem draw_wp [IsP P] {B : Base} {ops : Array Oper} {Q' : Exit → Act → World → Prop} {g : Nat} {xs : List X} {f0 : Nat → AV} {ob0 : Oid → Option Ob} {rs : List Rec} {ds : List (List Oid)} {f' : Nat → AV} {ob' : Oid → Option Ob}
    (hx : X.ofL P N ops ops.toList = some xs) (hr : RunD P G g 0 xs f0 ob0 rs ds f' ob') (hD : Drawn ops xs rs ds) (hg : ∀ i, ob0 i ≠ none → i.2 < g)
    (hQ : ∀ a' w', (∃ σ, Mem0 G w0 ob' σ (fun m => m < g + ops.size) w' ∧ TmB B σ (imm ob' σ) w' f' a') → a'.tmps.size = N → a'.defers = [] → Q' .normal a' w') :
    ∀ (fuel : Nat) (listed : Array Bool) (a : Act) (w : World), listed.size = ops.size → (listed.toList.filter (!·)).length = fuel → (∀ (k : Nat) (o : Oper), ops[k]? = some o → isIn listed k = true → ∀ d ∈ depsOf o, isIn listed d = true) →
      (∃ σ, Mem0 G w0 (selO (isIn listed) 0 rs ob0) σ (fun m => m < g ∨ ∃ k, isIn listed k = true ∧ m = g + k) w ∧ TmB B σ (imm (selO (isIn listed) 0 rs ob0) σ) w (selT (isIn listed) 0 xs rs f0) a) → a.tmps.size = N → a.defers = [] →
      wpAny P .any ops Q' fuel listed a w := by
  obtain ⟨s1, _, s2, s3, s4⟩ := runX_spec xs 0 f0 ob0 rs ds f' ob' hr
  obtain ⟨_, hxo⟩ := ofL_get hx
  intro fuel
  induction fuel with
  | zero =>
    intro listed a w hsz hcnt hcl hm hN hd
    have hall : ∀ k, k < ops.size → isIn listed k = true := by
      intro k hk
      have h0 : listed.toList.filter (!·) = [] := List.length_eq_zero_iff.1 hcnt
      rw [List.filter_eq_nil_iff] at h0
      have := h0 (listed[k]'(by omega)) (by simp)
      simpa [isIn, Array.getD_eq_getD_getElem?, hsz, hk] using this
    have hready : Region.ready .any ops listed = [] := by
      unfold Region.ready
      rw [List.filter_eq_nil_iff]
      intro k hk
      have := hall k (by simpa using hk)
      have hk' : k < listed.size := by rw [hsz]; simpa using hk
      simp only [isIn, Array.getD_eq_getD_getElem?, Array.getElem?_eq_getElem hk', Option.getD_some] at this
      simp [hk', this]
    refine ⟨hready, hQ a w ?_ hN hd⟩
    obtain ⟨σ, h1, h2⟩ := hm
    have e1 : selO (isIn listed) 0 rs ob0 = ob' := by
      rw [s3]
      funext id
      exact selO_congr 0 rs ob0 ob0 rfl (fun j r hj hne => absurd (hall (0 + j) (by have := (List.getElem?_eq_some_iff.1 hj).1; have := hD.lr; omega)) hne)
    have e2 : selT (isIn listed) 0 xs rs f0 = f' := by
      rw [s2]
      funext t
      exact selT_cong 0 xs rs f0 f0 rfl (fun j x hj _ => hall (0 + j) (by have := (List.getElem?_eq_some_iff.1 hj).1; have := hD.lx; omega))
    rw [e1] at h1 h2
    rw [e2] at h2
    exact ⟨σ, h1.wide (fun n hn => by
      rcases hn with hn | ⟨k, hk, rfl⟩
      · omega
      · have : k < ops.size := by
          rcases Nat.lt_or_ge k ops.size with h | h
          · exact h
          · simp [isIn, Array.getD_eq_getD_getElem?, Array.getElem?_eq_none (show listed.size ≤ k by omega)] at hk
        omega), h2⟩
  | succ fuel ih =>
    intro listed a w hsz hcnt hcl hm hN hd
    have hbig : ∀ k, isIn listed k = true → k < ops.size := by
      intro k hk
      rcases Nat.lt_or_ge k ops.size with h | h
      · exact h
      · simp [isIn, Array.getD_eq_getD_getElem?, Array.getElem?_eq_none (show listed.size ≤ k by omega)] at hk
    refine ⟨fun hready => ?_, fun i hi => ?_⟩
    · have hne : listed.toList.filter (!·) ≠ [] := fun h => by rw [h] at hcnt; cases hcnt
      obtain ⟨b, hb'⟩ := List.exists_mem_of_ne_nil _ hne
      obtain ⟨hb1, hb2⟩ := List.mem_filter.1 hb'
      obtain ⟨k, hk, rfl⟩ := List.mem_iff_getElem.1 hb1
      have hk' : k < listed.size := by simpa using hk
      have hkf : isIn listed k = false := by
        simp only [isIn, Array.getD_eq_getD_getElem?, Array.getElem?_eq_getElem hk', Option.getD_some]
        simpa using hb2
      obtain ⟨m, q1, q2, q3⟩ := least (isIn listed) k hkf
      have hmo : m < ops.size := by omega
      have : m ∈ Region.ready .any ops listed := by
        unfold Region.ready
        rw [List.mem_filter]
        refine ⟨by simpa using hmo, ?_⟩
        have hml : m < listed.size := by omega
        simp only [isIn, Array.getD_eq_getD_getElem?, Array.getElem?_eq_getElem hml, Option.getD_some] at q2
        simp only [Array.getD_eq_getD_getElem?, Array.getElem?_eq_getElem hml, Option.getD_some, q2, Bool.not_false, Bool.true_and, Array.getElem?_eq_getElem hmo, Option.map_some]
        rw [Array.all_eq_true_iff_forall_mem]
        intro e he
        cases hbe : Region.binds .any e with
        | false => rfl
        | true =>
          have hlt := hD.fwd m _ (Array.getElem?_eq_getElem hmo) e.on (List.mem_map.2 ⟨e, List.mem_filter.2 ⟨by simpa using he, hbe⟩, rfl⟩)
          have := q3 e.on hlt
          simp only [isIn] at this
          rw [Array.getD_eq_getD_getElem?] at this
          simp [this]
      rw [hready] at this
      cases this
    · unfold Region.ready at hi
      rw [List.mem_filter] at hi
      obtain ⟨hir, hi2⟩ := hi
      have hio : i < ops.size := by simpa using hir
      have hil : i < listed.size := by omega
      simp only [Bool.and_eq_true, Array.getElem?_eq_getElem hio, Option.map_some, Option.getD_some] at hi2
      obtain ⟨hi3, hi4⟩ := hi2
      have hpi : isIn listed i = false := by
        simp only [Array.getD_eq_getD_getElem?, Array.getElem?_eq_getElem hil, Option.getD_some] at hi3
        simp only [isIn, Array.getD_eq_getD_getElem?, Array.getElem?_eq_getElem hil, Option.getD_some]
        simpa using hi3
      have hoi : ops[i]? = some ops[i] := Array.getElem?_eq_getElem hio
      generalize ops[i] = o at hoi hi4
      have hdeps : ∀ d ∈ depsOf o, isIn listed d = true := by
        intro d hd'
        obtain ⟨e, he, rfl⟩ := List.mem_map.1 hd'
        obtain ⟨he1, he2⟩ := List.mem_filter.1 he
        rw [Array.all_eq_true_iff_forall_mem] at hi4
        have := hi4 e (by simpa using he1)
        rw [he2] at this
        simpa [isIn] using this
      obtain ⟨x, hxi, hxof⟩ := hxo i o (by simpa using hoi)
      obtain ⟨hxd, hdb⟩ := X.of_dst hxof
      have hri : ∃ r, rs[i]? = some r := ⟨_, List.getElem?_eq_getElem (by have := hD.lr; omega)⟩
      obtain ⟨r, hri⟩ := hri
      obtain ⟨d0, hd0, hst⟩ := s4 i x r hxi hri
      rw [Nat.zero_add] at hst
      have before : ∀ j oj rj, j < i → isIn listed j = false → ops[j]? = some oj → rs[j]? = some rj → oj.apart ops o = true ∧ ∃ dj, ds[j]? = some dj ∧ pairOK r rj d0 dj := by
        intro j oj rj hj hpj hoj hrj
        have hdj : ds[j]? = some (ds[j]'(by have := hD.ld; have := (Array.getElem?_eq_some_iff.1 hoj).1; omega)) := List.getElem?_eq_getElem _
        rcases hD.pair i j o oj r rj _ _ hj hoi hoj hri hrj hd0 hdj with h | h
        · have := anc_in hD hcl i i (Nat.le_refl _) o hoi hdeps j h
          rw [hpj] at this; cases this
        · exact ⟨h.1, _, hdj, h.2⟩
      have after : ∀ k ok rk, i < k → isIn listed k = true → ops[k]? = some ok → rs[k]? = some rk → o.apart ops ok = true ∧ ∃ dk, ds[k]? = some dk ∧ pairOK rk r dk d0 := by
        intro k ok rk hk hpk hok hrk
        have hdk : ds[k]? = some (ds[k]'(by have := hD.ld; have := (Array.getElem?_eq_some_iff.1 hok).1; omega)) := List.getElem?_eq_getElem _
        rcases hD.pair k i ok o rk r _ _ hk hok hoi hrk hri hdk hd0 with h | h
        · have := anc_in hD hcl k k (Nat.le_refl _) ok hok (hcl k ok hok hpk) i h
          rw [hpi] at this; cases this
        · exact ⟨h.1, _, hdk, h.2⟩
      have rec0 : ∀ j rj, rs[j]? = some rj → ∀ u ∈ rj.2.2, (rj.1 = 2 ∧ (selO (fun m => decide (m < j)) 0 rs ob0 u.1 ≠ none ∨ u.1.2 = g + j)) ∨ (rj.1 = 1 ∧ u.1.2 = g + j) := by
        intro j rj hrj
        have hjx : ∃ y, xs[j]? = some y := ⟨_, List.getElem?_eq_getElem (by have := (List.getElem?_eq_some_iff.1 hrj).1; omega)⟩
        obtain ⟨y, hy⟩ := hjx
        obtain ⟨_, _, hsj⟩ := s4 j y rj hy hrj
        have := stepR_gen' hsj
        rwa [Nat.zero_add] at this
      obtain ⟨σ, hM, hF⟩ := hm
      -- the temporaries that the operation looks at
      have htm : ∀ t ∈ o.looksAt ops, selT (fun m => decide (m < i)) 0 xs rs f0 t = selT (isIn listed) 0 xs rs f0 t := by
        intro t ht
        refine selT_cong 0 xs rs f0 f0 rfl (fun j y hy hd' => ?_)
        rw [Nat.zero_add]
        have hjo : j < ops.size := by rw [← hD.lx]; exact (List.getElem?_eq_some_iff.1 hy).1
        have hoj : ops[j]? = some ops[j] := Array.getElem?_eq_getElem hjo
        have hrj : rs[j]? = some (rs[j]'(by have := hD.lr; omega)) := List.getElem?_eq_getElem _
        have hdj : (ops[j]).dst = some t := by rw [← hD.dst j _ y hoj hy]; exact hd'
        rcases Nat.lt_trichotomy j i with h | rfl | h
        · cases hp : isIn listed j with
          | true => simp [h]
          | false => exact absurd ht ((apart_facts (before j _ _ h hp hoj hrj).1).1 t hdj)
        · rw [hpi]; simp
        · cases hp : isIn listed j with
          | true => exact absurd ht ((apart_facts (after j _ _ h hp hoj hrj).1).2.2 t hdj)
          | false => simp; omega
      have hops : ∀ z ∈ o.op.operands, ∀ y, Opd.of z = some y → AV.Rep σ (imm (selO (isIn listed) 0 rs ob0) σ) w (y.ev (selT (fun m => decide (m < i)) 0 xs rs f0)) (a.eval z) := by
        intro z hz y hy
        refine Opd.rep hy (fun t e => ?_)
        have : t ∈ o.looksAt ops := by
          refine List.mem_append_left _ (List.mem_filterMap.2 ⟨z, by simpa using hz, ?_⟩)
          cases z <;> simp [Opd.of] at hy <;> subst hy <;> cases e
          rfl
        rw [htm t this]
        exact hF.1 t
      -- the objects
      have hagree : r.1 ≠ 0 → ∀ id ob l, only d0 (selO (fun m => decide (m < i)) 0 rs ob0) id = some ob → σ id = some l → selO (isIn listed) 0 rs ob0 id = some ob := by
        intro hk id ob l h0 h2
        obtain ⟨hid, h1⟩ := only_some h0
        rw [← h1]
        refine (selO_congr 0 rs ob0 ob0 rfl (fun j rj hrj hne u hu e => ?_)).symm
        rw [Nat.zero_add] at hne
        subst e
        have hjo : j < ops.size := by rw [← hD.lr]; exact (List.getElem?_eq_some_iff.1 hrj).1
        have hoj : ops[j]? = some ops[j] := Array.getElem?_eq_getElem hjo
        have hgen := hM.gen _ _ h2
        rcases Nat.lt_trichotomy j i with h | rfl | h
        · have hp : isIn listed j = false := by
            cases hp : isIn listed j with
            | false => rfl
            | true => rw [hp] at hne; simp [h] at hne
          have hk2 : rj.1 ≠ 2 := fun e => by
            obtain ⟨_, dj, _, h | h⟩ := before j _ _ h hp hoj hrj
            · exact hk (h.2 e)
            · exact h.2.1 e u hu hid
          rcases rec0 j rj hrj u hu with ⟨e, _⟩ | ⟨_, e⟩
          · exact hk2 e
          · rcases hgen with hg' | ⟨m, hm1, hm2⟩
            · omega
            · have : m = j := by omega
              subst this; rw [hp] at hm1; cases hm1
        · rw [hpi] at hne; simp at hne
        · have hp : isIn listed j = true := by
            cases hp : isIn listed j with
            | true => rfl
            | false => rw [hp] at hne; simp at hne; omega
          have hk2 : rj.1 ≠ 2 := fun e => by
            obtain ⟨_, dj, _, h | h⟩ := after j _ _ h hp hoj hrj
            · exact hk (h.1 e)
            · exact h.1 e u hu hid
          rcases rec0 j rj hrj u hu with ⟨e, _⟩ | ⟨_, e⟩
          · exact hk2 e
          · have := runX_gen xs 0 f0 ob0 rs ds f' ob' hr (fun i hi => by have := hg i hi; omega) i u.1 (by rw [Nat.zero_add, h1]; simp)
            omega
      -- behind it
      have hq : ∀ j, isIn (listed.setIfInBounds i true) j = (isIn listed j || decide (j = i)) := by
        intro j
        simp only [isIn, Array.getD_eq_getD_getElem?]
        by_cases e : j = i
        · subst e; simp [Array.getElem?_setIfInBounds_self_of_lt hil]
        · rw [Array.getElem?_setIfInBounds_ne (fun h => e h.symm)]; simp [e]
      have hO : selO (isIn (listed.setIfInBounds i true)) 0 rs ob0 = applyU r.2.2 (selO (isIn listed) 0 rs ob0) := by
        refine selO_add hq hpi 0 rs ob0 r (Nat.zero_le _) (by simpa using hri) (fun j s hs hij hp => ?_)
        rw [Nat.zero_add] at hij hp
        have hjo : j < ops.size := hbig j hp
        have hoj : ops[j]? = some ops[j] := Array.getElem?_eq_getElem hjo
        obtain ⟨_, dj, _, ⟨a1, a2⟩ | ⟨_, _, a3⟩⟩ := after j _ _ hij hp hoj hs
        · intro u hu v hv
          rcases rec0 i r hri u hu with ⟨e, _⟩ | ⟨e, e'⟩ <;> rcases rec0 j s hs v hv with ⟨k, _⟩ | ⟨k, k'⟩
          · have := a1 k; omega
          · have := a2 e; omega
          · have := a1 k; omega
          · intro he; rw [he] at e'; omega
        · exact fun u hu v hv e => a3 v hv u hu e.symm
      have hT' : selT (isIn (listed.setIfInBounds i true)) 0 xs rs f0 = putT x.dst r.2.1 (selT (isIn listed) 0 xs rs f0) := by
        funext t
        by_cases e : x.dst = some t
        · rw [selT_at 0 xs rs f0 i x r hxi hri e (by rw [Nat.zero_add, hq]; simp) (fun l y hy hl => hD.one i l x y t hl hxi hy e), e]
          simp only [putT, upd_same]
        · have hp : putT x.dst r.2.1 (selT (isIn listed) 0 xs rs f0) t = selT (isIn listed) 0 xs rs f0 t := by
            cases hx' : x.dst with
            | none => rfl
            | some d => simp only [putT]; rw [upd_other]; intro e'; subst e'; exact e hx'
          rw [hp]
          refine selT_cong 0 xs rs f0 f0 rfl (fun j y hy hd' => ?_)
          rw [hq]
          have : j ≠ i := by
            intro h; subst h
            rw [hxi] at hy; obtain rfl := Option.some.inj hy; exact e hd'
          rw [Nat.zero_add]
          simp [this]
      have hcl' : ∀ (k : Nat) (ok : Oper), ops[k]? = some ok → isIn (listed.setIfInBounds i true) k = true → ∀ d ∈ depsOf ok, isIn (listed.setIfInBounds i true) d = true := by
        intro k ok hok hk d hd'
        rw [hq] at hk ⊢
        by_cases e : k = i
        · subst e
          rw [hoi] at hok
          obtain rfl := Option.some.inj hok
          rw [hdeps d hd']; rfl
        · have : isIn listed k = true := by simpa [e] using hk
          rw [hcl k ok hok this d hd']; rfl
      have hcnt' : ((listed.setIfInBounds i true).toList.filter (!·)).length = fuel := by
        have : listed.toList[i]? = some false := by
          rw [Array.getElem?_toList, Array.getElem?_eq_getElem hil]
          simpa [isIn, Array.getD_eq_getD_getElem?, hil] using hpi
        have := filter_set listed.toList i this
        rw [Array.toList_setIfInBounds]
        omega
      have hputs : ∀ u, (a.put o.dst u).tmps.size = N ∧ (a.put o.dst u).defers = [] := by
        intro u
        cases o.dst <;> simp [Act.put, hN, hd]
      have hdlt : ∀ d, x.dst = some d → d < a.tmps.size := by
        intro d e
        rw [hxd] at e
        unfold dstB at hdb
        rw [e] at hdb
        rw [hN]; exact of_decide_eq_true hdb
      have go : ∀ u w', (∃ σ', Mem0 G w0 (applyU r.2.2 (selO (isIn listed) 0 rs ob0)) σ' (fun m => m < g ∨ ∃ k, isIn (listed.setIfInBounds i true) k = true ∧ m = g + k) w' ∧ TmB B σ' (imm (applyU r.2.2 (selO (isIn listed) 0 rs ob0)) σ') w' (putT x.dst r.2.1 (selT (isIn listed) 0 xs rs f0)) (a.put o.dst u)) →
          wpAny P .any ops Q' fuel (listed.setIfInBounds i true) (a.put o.dst u) w' := by
        intro u w' h
        refine ih _ _ _ (by simpa using hsz) hcnt' hcl' ?_ (hputs u).1 (hputs u).2
        rw [hO, hT']
        exact h
      have hKw : ∀ n, (n < g ∨ ∃ k, isIn listed k = true ∧ n = g + k) → (n < g ∨ ∃ k, isIn (listed.setIfInBounds i true) k = true ∧ n = g + k) := by
        rintro n (h | ⟨k, hk, h⟩)
        · exact .inl h
        · exact .inr ⟨k, by rw [hq, hk]; rfl, h⟩
      have doit : ∀ q, Q.of P o = some q → EvR P G false (selT (fun m => decide (m < i)) 0 xs rs f0) (only d0 (selO (fun m => decide (m < i)) 0 rs ob0)) ((x.dst.getD 0, 0), g + i) q r → o.wp P a w (wpAny P .any ops Q' fuel (listed.setIfInBounds i true)) Q' := by
        intro q hqo he
        have := ev_does (a := a) (w := w) (K' := fun m => m < g ∨ ∃ k, isIn (listed.setIfInBounds i true) k = true ∧ m = g + k) hqo he hM hKw
          (by
            rintro (h | ⟨k, hk, h⟩)
            · exact absurd (show g + i < g from h) (by omega)
            · have : k = i := by simp at h; omega
              subst this; rw [hpi] at hk; cases hk)
          (.inr ⟨i, by rw [hq]; simp, rfl⟩)
          (fun hk id o' l h1 h2 => hM.obs id o' l (hagree hk id o' l h1 h2) h2) (fun hk => hagree (by omega)) hops
        refine this _ _ (fun u w' hgo => ?_)
        obtain ⟨σ', hL, hM', hR⟩ := hgo
        refine go u w' ⟨σ', hM', ?_⟩
        rw [← hxd]
        exact (hF.later hL).put hR hdlt
      unfold wpOp
      rw [hoi]
      simp only
      unfold X.of at hxof
      split at hxof
      · rename_i q hqo
        rw [if_pos hdb] at hxof
        split at hxof
        · rename_i hgd
          obtain rfl := Option.some.inj hxof
          rw [if_pos (by simp [Region.wanted, hgd])]
          exact .inl (doit q hqo hst)
        · rename_i j b hgd
          split at hxof
          · rename_i s hs
            obtain rfl := Option.some.inj hxof
            have hsl : s ∈ o.looksAt ops := by
              refine List.mem_append_right _ ?_
              simp [hgd, hs]
            obtain ⟨c, hc, hst⟩ := hst
            · skip
              rw [htm s hsl] at hc
              have hw := guard_rep (ops := ops) hgd hs (hF.1 s) hc
              rw [hw]
              split at hst
              · rename_i hcb
                rw [if_pos hcb]
                exact .inl (doit q hqo hst)
              · rename_i hcb
                rw [if_neg hcb]
                subst hst
                refine go _ _ ⟨σ, hM.wide hKw, ?_⟩
                exact hF.put ⟨[], rfl, rfl⟩ hdlt
          · cases hxof
      · cases hxof
end
end Go.Proofs.YtefolocdfgelcaaDoor
