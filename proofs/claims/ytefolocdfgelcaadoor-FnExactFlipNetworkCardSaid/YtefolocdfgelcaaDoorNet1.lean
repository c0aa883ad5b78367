/- Networks: what it is that the program and the reference call a network; condition: the program's table of primes lies in memory. -/
import Derived.Test.YtefolocdfgelcaaDoorTyNetwork
import Derived.Test.YtefolocdfgelcaaDoorFld
namespace Go.Proofs.YtefolocdfgelcaaDoor
open Go.RowKit Go.Deep

theorem l1All_any {R : Nat → Prop} (xs : List Int) (A : Option Addr) (c : Nat) (l : List Addr) (lo hi : Int) (w : World) (h : Sl R w .int A c xs l) :
    Calls Tryd.prog 86 #[.slice A xs.length c, .int .i64 lo, .int .i64 hi] w fun e w' => e = .returned (.bool (xs.all fun x => inR x lo hi)) ∧ w = w' := by
  have hn := (sl_len h).2
  go_enter Tryd.func86, Tryd.ntmps86
  go_wp2_with fail
  go_loop [6, 8, 11] (fun r _ i => r = .bool false ∧ ∃ k : Nat, k ≤ xs.length ∧ i = .int .i64 k ∧ (xs.drop k).all (fun x => inR x lo hi) = xs.all fun x => inR x lo hi) (fun _ _ i => xs.length - (intOf i).toNat)
  case atStart => exact ⟨rfl, 0, by omega, rfl, rfl⟩
  case round =>
    obtain ⟨rfl, k, hk, rfl, hG⟩ := hrel
    by_cases hlt : k < xs.length
    · obtain ⟨b, o, rfl, _, hcell⟩ := sl_int_at h hlt
      rw [List.drop_eq_getElem_cons hlt, List.all_cons] at hG
      obtain ⟨x, hx⟩ : ∃ x, x = xs[k] := ⟨_, rfl⟩
      rw [← hx] at hcell hG
      clear hx
      have H := Lib.hid hG
      clear hG
      cases hb : inR x lo hi
      · go_wp2_with (go_at_call 85; refine (l1In_any _ _ _ _).mono ?_; rintro e w_ ⟨rfl, rfl⟩)
        go_ret
        have hG := H.out
        rw [hb, Bool.false_and] at hG
        exact ⟨ret_bool hG, rfl⟩
      · go_wp2_with (go_at_call 85; refine (l1In_any _ _ _ _).mono ?_; rintro e w_ ⟨rfl, rfl⟩)
        go_round
        have hG := H.out
        rw [hb, Bool.true_and] at hG
        case rel => exact ⟨rfl, k + 1, by omega, by go_num, hG⟩
        case measure => simp [intOf]; omega
    · rw [List.drop_of_length_le (by omega)] at hG
      have H := Lib.hid hG
      clear hG
      go_wp2_with fail
      go_ret
      exact ⟨ret_bool H.out, rfl⟩
theorem areBelow_any {R : Nat → Prop} (xs : List Int) (A : Option Addr) (c : Nat) (l : List Addr) (n : Int) (w : World) (h : Sl R w .int A c xs l) (hnn : -1000000000 ≤ n ∧ n ≤ 1000000000) :
    Calls Tryd.prog 90 #[.slice A xs.length c, .int .i64 n] w fun e w' => e = .returned (.bool (xs.all fun x => inR x 0 (n - 1))) ∧ w = w' := by
  have hn := (sl_len h).2
  go_enter Tryd.func90, Tryd.ntmps90
  go_wp2_with fail
  go_loop [4, 6, 9] (fun r _ i => r = .bool false ∧ ∃ k : Nat, k ≤ xs.length ∧ i = .int .i64 k ∧ (xs.drop k).all (fun x => inR x 0 (n - 1)) = xs.all fun x => inR x 0 (n - 1)) (fun _ _ i => xs.length - (intOf i).toNat)
  case atStart => exact ⟨rfl, 0, by omega, rfl, rfl⟩
  case round =>
    obtain ⟨rfl, k, hk, rfl, hG⟩ := hrel
    by_cases hlt : k < xs.length
    · obtain ⟨b, o, rfl, _, hcell⟩ := sl_int_at h hlt
      rw [List.drop_eq_getElem_cons hlt, List.all_cons] at hG
      obtain ⟨x, hx⟩ : ∃ x, x = xs[k] := ⟨_, rfl⟩
      rw [← hx] at hcell hG
      clear hx
      have H := Lib.hid hG
      clear hG
      cases hb : inR x 0 (n - 1)
      · go_wp2_with (go_at_call 89; refine (within_any _ _ _ _).mono ?_; rintro e w_ ⟨rfl, rfl⟩)
        go_ret
        have hG := H.out
        rw [hb, Bool.false_and] at hG
        exact ⟨ret_bool hG, rfl⟩
      · go_wp2_with (go_at_call 89; refine (within_any _ _ _ _).mono ?_; rintro e w_ ⟨rfl, rfl⟩)
        go_round
        have hG := H.out
        rw [hb, Bool.true_and] at hG
        case rel => exact ⟨rfl, k + 1, by omega, by go_num, hG⟩
        case measure => simp [intOf]; omega
    · rw [List.drop_of_length_le (by omega)] at hG
      have H := Lib.hid hG
      clear hG
      go_wp2_with fail
      go_ret
      exact ⟨ret_bool H.out, rfl⟩

/-- A branch of a network with so many nodes. -/
def isBr (p nodes a b g : Int) : Bool := inR a 0 (nodes - 1) && (inR b 0 (nodes - 1) && (a != b && inR g 1 (p - 1)))

theorem isBranch_any (p nodes a b g : Int) (w : World) (hp : 2 ≤ p ∧ p ≤ 97) (hn : 1 ≤ nodes ∧ nodes ≤ 20) :
    Calls Tryd.prog 93 #[.agg #[.int .i64 a, .int .i64 b, .int .i64 g], .int .i64 p, .int .i64 nodes] w fun e w' => e = .returned (.bool (isBr p nodes a b g)) ∧ Below w.heap.size w w' := by
  cases h1 : inR a 0 (nodes - 1)
  · skip
    go_enter Tryd.func93, Tryd.ntmps93
    go_wp2_with (go_at_call 89; refine (within_any _ _ _ _).mono ?_; rintro e w_ ⟨rfl, rfl⟩)
    go_ret
    exact ⟨ret_bool (by simp [isBr, *]), (by repeat (first | with_reducible exact Below.refl _ _ | ((with_reducible refine Below.setCell ?_ ?_ _); rotate_left; focus (first | (simp; done) | omega | (simp; omega))) | ((with_reducible refine Below.alloc ?_ ?_ _); rotate_left; focus (first | (simp; done) | omega | (simp; omega))) | (with_reducible refine Below.drew ?_) | (with_reducible refine below_draws_ ?_ _)))⟩
  · skip
    cases h2 : inR b 0 (nodes - 1)
    · skip
      go_enter Tryd.func93, Tryd.ntmps93
      go_wp2_with (go_at_call 89; refine (within_any _ _ _ _).mono ?_; rintro e w_ ⟨rfl, rfl⟩)
      go_ret
      exact ⟨ret_bool (by simp [isBr, *]), (by repeat (first | with_reducible exact Below.refl _ _ | ((with_reducible refine Below.setCell ?_ ?_ _); rotate_left; focus (first | (simp; done) | omega | (simp; omega))) | ((with_reducible refine Below.alloc ?_ ?_ _); rotate_left; focus (first | (simp; done) | omega | (simp; omega))) | (with_reducible refine Below.drew ?_) | (with_reducible refine below_draws_ ?_ _)))⟩
    · skip
      cases h3 : a != b
      · skip
        go_enter Tryd.func93, Tryd.ntmps93
        go_wp2_with (go_at_call 89; refine (within_any _ _ _ _).mono ?_; rintro e w_ ⟨rfl, rfl⟩)
        go_ret
        exact ⟨ret_bool (by simp [isBr, *]), (by repeat (first | with_reducible exact Below.refl _ _ | ((with_reducible refine Below.setCell ?_ ?_ _); rotate_left; focus (first | (simp; done) | omega | (simp; omega))) | ((with_reducible refine Below.alloc ?_ ?_ _); rotate_left; focus (first | (simp; done) | omega | (simp; omega))) | (with_reducible refine Below.drew ?_) | (with_reducible refine below_draws_ ?_ _)))⟩
      · skip
        cases h4 : inR g 1 (p - 1)
        · skip
          go_enter Tryd.func93, Tryd.ntmps93
          go_wp2_with (go_at_call 89; refine (within_any _ _ _ _).mono ?_; rintro e w_ ⟨rfl, rfl⟩)
          go_ret
          exact ⟨ret_bool (by simp [isBr, *]), (by repeat (first | with_reducible exact Below.refl _ _ | ((with_reducible refine Below.setCell ?_ ?_ _); rotate_left; focus (first | (simp; done) | omega | (simp; omega))) | ((with_reducible refine Below.alloc ?_ ?_ _); rotate_left; focus (first | (simp; done) | omega | (simp; omega))) | (with_reducible refine Below.drew ?_) | (with_reducible refine below_draws_ ?_ _)))⟩
        · skip
          go_enter Tryd.func93, Tryd.ntmps93
          go_wp2_with (go_at_call 89; refine (within_any _ _ _ _).mono ?_; rintro e w_ ⟨rfl, rfl⟩)
          go_ret
          exact ⟨ret_bool (by simp [isBr, *]), (by repeat (first | with_reducible exact Below.refl _ _ | ((with_reducible refine Below.setCell ?_ ?_ _); rotate_left; focus (first | (simp; done) | omega | (simp; omega))) | ((with_reducible refine Below.alloc ?_ ?_ _); rotate_left; focus (first | (simp; done) | omega | (simp; omega))) | (with_reducible refine Below.drew ?_) | (with_reducible refine below_draws_ ?_ _)))⟩

theorem isNetworkLit_any (p nodes a b g : Int) (b1 b2 : Nat) (w : World) (hp : 2 ≤ p ∧ p ≤ 97) (hn : 1 ≤ nodes ∧ nodes ≤ 20) (hc1 : w.cell? ⟨b1, 0, none⟩ = some (.int .i64 p)) (hc2 : w.cell? ⟨b2, 0, none⟩ = some (.int .i64 nodes)) :
    Calls Tryd.prog 92 #[.agg #[.int .i64 a, .int .i64 b, .int .i64 g], .pointer (some ⟨b1, 0, none⟩), .pointer (some ⟨b2, 0, none⟩)] w fun e w' => e = .returned (.bool (!isBr p nodes a b g)) ∧ Below w.heap.size w w' := by
  have l1 := World.block_lt_of_cell? w _ hc1
  have l2 := World.block_lt_of_cell? w _ hc2
  dsimp only at l1 l2
  go_enter Tryd.func92, Tryd.ntmps92
  go_wp2_with (go_at_call 93; refine (isBranch_any p nodes a b g _ hp hn).mono ?_; rintro e w1 ⟨rfl, hb_w1⟩; obtain ⟨hc_w1, hf_w1⟩ := bcell hb_w1; have hz_w1 := hb_w1.size; (try simp at hz_w1); have hl_w1_0 : w.heap.size < w1.heap.size := (by omega))
  go_ret
  exact ⟨rfl, (by repeat (first | with_reducible exact Below.refl _ _ | ((with_reducible refine Below.setCell ?_ ?_ _); rotate_left; focus (first | (simp; done) | omega | (simp; omega))) | ((with_reducible refine Below.alloc ?_ ?_ _); rotate_left; focus (first | (simp; done) | omega | (simp; omega))) | (with_reducible refine Below.drew ?_) | (with_reducible refine below_draws_ ?_ _) | ((with_reducible refine Below.trans ?_ (Below.mono hb_w1 ?_)); rotate_left; focus (first | (simp; done) | omega | (simp; omega)))))⟩

/-- The index of the first element that passes, counted from k; -1 if there is none. -/
def idxFrom {α : Type} (q : α → Bool) : Int → List α → Int
  | _, [] => -1
  | k, x :: r => if q x then k else idxFrom q (k + 1) r
theorem idxFrom_any {α : Type} (q : α → Bool) : ∀ (l : List α) (k : Int), 0 ≤ k → (decide (0 ≤ idxFrom q k l)) = l.any q
  | [], k, _ => by simp [idxFrom]
  | x :: r, k, hk => by
    unfold idxFrom
    cases h : q x
    · simp only [Bool.false_eq_true, if_false, List.any_cons, h, Bool.false_or]
      exact idxFrom_any q r (k + 1) (by omega)
    · simp [h, hk]

set_option maxRecDepth 10000 in
theorem idxBranch_any {R : Nat → Prop} (xs : List DBranch) (A : Option Addr) (c : Nat) (l : List Addr) (f : FuncId) (caps : Array Value) (q : DBranch → Bool) (w : World) (h : Sl R w tyBranch A c xs l)
    (hcf : ∀ (args : Array Value) (w' : World), (callFunc f args).run Tryd.prog w' = .ok (.enter f args) w')
    (hF : Hid (∀ (x : DBranch) (w' : World), x ∈ xs → Below w.heap.size w w' → Calls Tryd.prog f (#[.agg #[.int .i64 x.1, .int .i64 x.2.1, .int .i64 x.2.2]] ++ caps) w' fun e w'' => e = .returned (.bool (q x)) ∧ Below w'.heap.size w' w'')) :
    Calls Tryd.prog 110 #[.slice A xs.length c, .func (.func f) #[] caps] w fun e w' => e = .returned (.int .i64 (idxFrom q 0 xs)) ∧ Below w.heap.size w w' := by
  have hn := (sl_len h).2
  go_enter Tryd.func110, Tryd.ntmps110
  go_wp2_with fail
  go_loopw [4, 5, 8] (fun r _ i wr => r = .int .i64 0 ∧ ∃ k : Nat, k ≤ xs.length ∧ i = .int .i64 k ∧ idxFrom q k (xs.drop k) = idxFrom q 0 xs ∧ Below w.heap.size w wr) (fun _ _ i _ => xs.length - (intOf i).toNat)
  case atStart => exact ⟨rfl, 0, by omega, rfl, rfl, (by repeat (first | with_reducible exact Below.refl _ _ | ((with_reducible refine Below.setCell ?_ ?_ _); rotate_left; focus (first | (simp; done) | omega | (simp; omega))) | ((with_reducible refine Below.alloc ?_ ?_ _); rotate_left; focus (first | (simp; done) | omega | (simp; omega))) | (with_reducible refine Below.drew ?_) | (with_reducible refine below_draws_ ?_ _)))⟩
  case round =>
    obtain ⟨rfl, k, hk, rfl, hG, hbl⟩ := hrel
    by_cases hlt : k < xs.length
    · obtain ⟨b, o, rfl, _, hcell⟩ := sl_flat_at rfl h hlt
      rw [List.drop_eq_getElem_cons hlt] at hG
      have hF1 := hF.out xs[k] wr (List.getElem_mem hlt) hbl
      obtain ⟨⟨x0, x1, x2⟩, hx⟩ : ∃ x, x = xs[k] := ⟨_, rfl⟩
      rw [← hx] at hcell hG hF1
      have e0 := below_has hbl (show w.cell? ⟨b, o + k * 3, none⟩ = some (.int .i64 x0) from hcell 0 (by decide))
      have e1 := below_has hbl (show w.cell? ⟨b, o + k * 3 + 1, none⟩ = some (.int .i64 x1) from hcell 1 (by decide))
      have e2 := below_has hbl (show w.cell? ⟨b, o + k * 3 + 2, none⟩ = some (.int .i64 x2) from hcell 2 (by decide))
      clear hx hcell
      have H := Lib.hid hG
      have F := Lib.hid hF1
      clear hG hF1
      go_wp2_with fail
      refine Calls.mono F.out ?_
      rintro e w1 ⟨rfl, hb1⟩
      cases hq : q (x0, x1, x2)
      · go_wp2_with fail
        go_roundw
        have hG := H.out
        rw [idxFrom, if_neg (by rw [hq]; simp)] at hG
        case rel => exact ⟨rfl, k + 1, by omega, by go_num, by rw [← hG]; congr 1, hbl.trans (hb1.mono hbl.size)⟩
        case measure => simp [intOf]; omega
      · go_wp2_with fail
        go_ret
        have hG := H.out
        rw [idxFrom, if_pos hq] at hG
        exact ⟨ret_int hG, hbl.trans (hb1.mono hbl.size)⟩
    · rw [List.drop_of_length_le (by omega)] at hG
      have H := Lib.hid hG
      clear hG
      go_wp2_with fail
      go_ret
      exact ⟨ret_int H.out, hbl⟩

theorem anyBranch_any {R : Nat → Prop} (xs : List DBranch) (A : Option Addr) (c : Nat) (l : List Addr) (f : FuncId) (caps : Array Value) (q : DBranch → Bool) (w : World) (h : Sl R w tyBranch A c xs l)
    (hcf : ∀ (args : Array Value) (w' : World), (callFunc f args).run Tryd.prog w' = .ok (.enter f args) w')
    (hF : Hid (∀ (x : DBranch) (w' : World), x ∈ xs → Below w.heap.size w w' → Calls Tryd.prog f (#[.agg #[.int .i64 x.1, .int .i64 x.2.1, .int .i64 x.2.2]] ++ caps) w' fun e w'' => e = .returned (.bool (q x)) ∧ Below w'.heap.size w' w'')) :
    Calls Tryd.prog 91 #[.slice A xs.length c, .func (.func f) #[] caps] w fun e w' => e = .returned (.bool (xs.any q)) ∧ Below w.heap.size w w' := by
  have hE := Lib.hid (idxFrom_any q xs 0 (by omega))
  go_enter Tryd.func91, Tryd.ntmps91
  go_wp2_with (go_at_call 110; refine (idxBranch_any xs _ _ l f caps q _ h hcf hF).mono ?_; rintro e w1 ⟨rfl, hb_w1⟩; obtain ⟨hc_w1, hf_w1⟩ := bcell hb_w1; have hz_w1 := hb_w1.size; (try simp at hz_w1))
  go_ret
  exact ⟨ret_bool hE.out, (by repeat (first | with_reducible exact Below.refl _ _ | ((with_reducible refine Below.setCell ?_ ?_ _); rotate_left; focus (first | (simp; done) | omega | (simp; omega))) | ((with_reducible refine Below.alloc ?_ ?_ _); rotate_left; focus (first | (simp; done) | omega | (simp; omega))) | (with_reducible refine Below.drew ?_) | (with_reducible refine below_draws_ ?_ _) | ((with_reducible refine Below.trans ?_ (Below.mono hb_w1 ?_)); rotate_left; focus (first | (simp; done) | omega | (simp; omega)))))⟩
end Go.Proofs.YtefolocdfgelcaaDoor
