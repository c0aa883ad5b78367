/- Powers of networks: the program and the reference return one number; conditions: the arguments read as data, the table of primes lies in memory. -/
import Derived.Test.YtefolocdfgelcaaDoorNet3
import Derived.Test.YtefolocdfgelcaaDoorVec
namespace Go.Proofs.YtefolocdfgelcaaDoor
open Go.RowKit Go.Deep

/-- The power of the branches that are left, added to s. -/
def powM (p : Int) (v : List Int) : List DBranch → Int → Int
  | [], s => s
  | b :: r, s => powM p v r ((s + b.2.2 * ((v.getD b.1.toNat 0 - v.getD b.2.1.toNat 0) % p * ((v.getD b.1.toNat 0 - v.getD b.2.1.toNat 0) % p) % p)) % p)

set_option maxRecDepth 100000 in
set_option maxHeartbeats 2000000 in
theorem implPower_yes {R1 R4 : Nat → Prop} (p nodes : Int) (bs : List DBranch) (A1 : Option Addr) (c1 : Nat) (l1 : List Addr) (left : List Int) (A2 : Option Addr) (c2 : Nat) (l2 : List Addr) (right : List Int) (A3 : Option Addr) (c3 : Nat) (l3 : List Addr) (v : List Int) (A4 : Option Addr) (c4 : Nat) (l4 : List Addr) (w : World)
    {R2 R3 : Nat → Prop} (s1 : Sl R1 w tyBranch A1 c1 bs l1) (s2 : Sl R2 w .int A2 c2 left l2) (s3 : Sl R3 w .int A3 c3 right l3) (s4 : Sl R4 w .int A4 c4 v l4) (tab : Tab w) (hg : goodNet p nodes bs left right = true) (hv : isVec p v nodes = true) :
    Calls Tryd.prog 19 #[.int .i64 p, .agg #[.int .i64 nodes, .slice A1 bs.length c1, .slice A2 left.length c2, .slice A3 right.length c3], .slice A4 v.length c4] w fun e w' => e = .returned (.tuple #[.int .i64 (powM p v bs 0), .bool true]) ∧ Below w.heap.size w w' := by
  have hn1 := (sl_len s1).2
  obtain ⟨hF, hnd, _, _, _, _, _, hbs⟩ := goodNet_bd hg
  obtain ⟨hvl, hve⟩ := isVec_bd hv
  have hp := isF_bd hF
  have Hvl := Lib.hid hvl
  have Hbs := Lib.hid hbs
  have Hve := Lib.hid hve
  clear hF hvl hbs hve
  go_enter Tryd.func19, Tryd.ntmps19
  go_wp2_with (first | (go_at_call 44; refine (isNetwork_any p nodes bs A1 c1 l1 left A2 c2 l2 right A3 c3 l3 _ (by exact sl_below s1 (by repeat (first | with_reducible exact Below.refl _ _ | ((with_reducible refine Below.setCell ?_ ?_ _); rotate_left; focus (first | (simp; done) | omega | (simp; omega))) | ((with_reducible refine Below.alloc ?_ ?_ _); rotate_left; focus (first | (simp; done) | omega | (simp; omega))) | (with_reducible refine Below.drew ?_) | (with_reducible refine below_draws_ ?_ _)))) (by exact sl_below s2 (by repeat (first | with_reducible exact Below.refl _ _ | ((with_reducible refine Below.setCell ?_ ?_ _); rotate_left; focus (first | (simp; done) | omega | (simp; omega))) | ((with_reducible refine Below.alloc ?_ ?_ _); rotate_left; focus (first | (simp; done) | omega | (simp; omega))) | (with_reducible refine Below.drew ?_) | (with_reducible refine below_draws_ ?_ _)))) (by exact sl_below s3 (by repeat (first | with_reducible exact Below.refl _ _ | ((with_reducible refine Below.setCell ?_ ?_ _); rotate_left; focus (first | (simp; done) | omega | (simp; omega))) | ((with_reducible refine Below.alloc ?_ ?_ _); rotate_left; focus (first | (simp; done) | omega | (simp; omega))) | (with_reducible refine Below.drew ?_) | (with_reducible refine below_draws_ ?_ _)))) (by exact tab.below (by repeat (first | with_reducible exact Below.refl _ _ | ((with_reducible refine Below.setCell ?_ ?_ _); rotate_left; focus (first | (simp; done) | omega | (simp; omega))) | ((with_reducible refine Below.alloc ?_ ?_ _); rotate_left; focus (first | (simp; done) | omega | (simp; omega))) | (with_reducible refine Below.drew ?_) | (with_reducible refine below_draws_ ?_ _))))).mono ?_; rintro e w1 ⟨rfl, hb_w1⟩; obtain ⟨hc_w1, hf_w1⟩ := bcell hb_w1; have hz_w1 := hb_w1.size; (try simp at hz_w1); have hl_w1_0 : w.heap.size < w1.heap.size := (by omega)) | (go_at_call 50; refine (isVector_any p v _ _ l4 _ _ (by exact sl_below s4 (by repeat (first | with_reducible exact Below.refl _ _ | ((with_reducible refine Below.setCell ?_ ?_ _); rotate_left; focus (first | (simp; done) | omega | (simp; omega))) | ((with_reducible refine Below.alloc ?_ ?_ _); rotate_left; focus (first | (simp; done) | omega | (simp; omega))) | (with_reducible refine Below.drew ?_) | (with_reducible refine below_draws_ ?_ _) | ((with_reducible refine Below.trans ?_ (Below.mono hb_w1 ?_)); rotate_left; focus (first | (simp; done) | omega | (simp; omega))))))).mono ?_; rintro e w_ ⟨rfl, rfl⟩))
  go_loopw [8, 10, 11, 27] (fun s _ _ i wr => ∃ (k : Nat) (sm : Int), k ≤ bs.length ∧ i = .int .i64 k ∧ s = .int .i64 sm ∧ (0 ≤ sm ∧ sm < p) ∧ Hid (powM p v (bs.drop k) sm = powM p v bs 0) ∧ Below w1.heap.size w1 wr) (fun _ _ _ i _ => bs.length - (intOf i).toNat)
  case atStart => exact ⟨0, 0, by omega, rfl, rfl, by omega, rfl, (by repeat (first | with_reducible exact Below.refl _ _ | ((with_reducible refine Below.setCell ?_ ?_ _); rotate_left; focus (first | (simp; done) | omega | (simp; omega))) | ((with_reducible refine Below.alloc ?_ ?_ _); rotate_left; focus (first | (simp; done) | omega | (simp; omega))) | (with_reducible refine Below.drew ?_) | (with_reducible refine below_draws_ ?_ _)))⟩
  case round =>
    obtain ⟨k, sm, hk, rfl, rfl, hsm, hG, hbl⟩ := hrel
    have hzr := hbl.size
    have hb_wr : Below w.heap.size w wr := by exact Below.trans (by repeat (first | with_reducible exact Below.refl _ _ | ((with_reducible refine Below.setCell ?_ ?_ _); rotate_left; focus (first | (simp; done) | omega | (simp; omega))) | ((with_reducible refine Below.alloc ?_ ?_ _); rotate_left; focus (first | (simp; done) | omega | (simp; omega))) | (with_reducible refine Below.drew ?_) | (with_reducible refine below_draws_ ?_ _) | ((with_reducible refine Below.trans ?_ (Below.mono hb_w1 ?_)); rotate_left; focus (first | (simp; done) | omega | (simp; omega))))) (hbl.mono (by omega))
    by_cases hlt : k < bs.length
    · obtain ⟨b, o, rfl, _, hcell⟩ := sl_flat_at rfl s1 hlt
      have hB := Hbs.out bs[k] (List.getElem_mem hlt)
      have hG' := hG.out
      rw [List.drop_eq_getElem_cons hlt] at hG'
      obtain ⟨⟨x0, x1, x2⟩, hx⟩ : ∃ x, x = bs[k] := ⟨_, rfl⟩
      rw [← hx] at hcell hG' hB
      have e0 := below_has hb_wr (show w.cell? ⟨b, o + k * 3, none⟩ = some (.int .i64 x0) from hcell 0 (by decide))
      have e1 := below_has hb_wr (show w.cell? ⟨b, o + k * 3 + 1, none⟩ = some (.int .i64 x1) from hcell 1 (by decide))
      have e2 := below_has hb_wr (show w.cell? ⟨b, o + k * 3 + 2, none⟩ = some (.int .i64 x2) from hcell 2 (by decide))
      dsimp only at hB
      obtain ⟨⟨a0, a1⟩, ⟨b0, b1⟩, _, g0, g1⟩ := hB
      obtain ⟨i0, rfl⟩ := Int.eq_ofNat_of_zero_le a0
      obtain ⟨i1, rfl⟩ := Int.eq_ofNat_of_zero_le b0
      have hvl := Hvl.out
      have l0 : i0 < v.length := by omega
      have l1' : i1 < v.length := by omega
      obtain ⟨b', o', hA4, _, hc0⟩ := sl_int_at s4 l0
      obtain ⟨b2, o2, hA4', _, hc1⟩ := sl_int_at s4 l1'
      obtain ⟨rfl, rfl⟩ : b' = b2 ∧ o' = o2 := by rw [hA4] at hA4'; simpa using hA4'
      subst hA4
      have m0 := Hve.out _ (List.getElem_mem l0)
      have m1 := Hve.out _ (List.getElem_mem l1')
      have hc0' := below_has hb_wr hc0
      have hc1' := below_has hb_wr hc1
      have hlt' := World.block_lt_of_cell? wr _ hc0'
      dsimp only at hlt'
      have eg0 : v.getD i0 0 = v[i0] := by rw [List.getD_eq_getElem?_getD, List.getElem?_eq_getElem l0, Option.getD_some]
      have eg1 : v.getD i1 0 = v[i1] := by rw [List.getD_eq_getElem?_getD, List.getElem?_eq_getElem l1', Option.getD_some]
      simp only [powM, Int.toNat_natCast, eg0, eg1] at hG'
      obtain ⟨y0, hy0⟩ : ∃ y, y = v[i0] := ⟨_, rfl⟩
      obtain ⟨y1, hy1⟩ : ∃ y, y = v[i1] := ⟨_, rfl⟩
      rw [← hy0, ← hy1] at hG'
      rw [← hy0] at hc0' m0
      rw [← hy1] at hc1' m1
      obtain ⟨d, hd⟩ : ∃ d, d = (y0 - y1) % p := ⟨_, rfl⟩
      obtain ⟨q, hq⟩ : ∃ q, q = d * d % p := ⟨_, rfl⟩
      rw [← hd, ← hq] at hG'
      have bd : 0 ≤ d ∧ d ≤ 96 := ⟨by rw [hd]; exact Int.emod_nonneg _ (by omega), by have := Int.emod_lt_of_pos (y0 - y1) (show 0 < p by omega); omega⟩
      have bdd : 0 ≤ d * d ∧ d * d ≤ 96 * 96 := ⟨Int.mul_nonneg bd.1 bd.1, Int.mul_le_mul bd.2 bd.2 bd.1 (by omega)⟩
      have bq : 0 ≤ q ∧ q ≤ 96 := ⟨by rw [hq]; exact Int.emod_nonneg _ (by omega), by have := Int.emod_lt_of_pos (d * d) (show 0 < p by omega); omega⟩
      have bgq : 0 ≤ x2 * q ∧ x2 * q ≤ 97 * 96 := ⟨Int.mul_nonneg (by omega) bq.1, Int.mul_le_mul (by omega) bq.2 bq.1 (by omega)⟩
      obtain ⟨t, ht⟩ : ∃ t, t = (sm + x2 * q) % p := ⟨_, rfl⟩
      rw [← ht] at hG'
      have bt : 0 ≤ t ∧ t < p := ⟨by rw [ht]; exact Int.emod_nonneg _ (by omega), by rw [ht]; exact Int.emod_lt_of_pos _ (by omega)⟩
      have hm1 := Lib.hid (fun W => show Calls Tryd.prog 51 #[.int .i64 p, .int .i64 (y0 - y1)] W fun e w' => e = .returned (.int .i64 d) ∧ W = w' from by rw [hd]; exact mod_any p (y0 - y1) W hp (by omega))
      have hm2 := Lib.hid (fun W => show Calls Tryd.prog 51 #[.int .i64 p, .int .i64 (d * d)] W fun e w' => e = .returned (.int .i64 q) ∧ W = w' from by rw [hq]; exact mod_any p (d * d) W hp (by omega))
      have hm3 := Lib.hid (fun W => show Calls Tryd.prog 51 #[.int .i64 p, .int .i64 (sm + x2 * q)] W fun e w' => e = .returned (.int .i64 t) ∧ W = w' from by rw [ht]; exact mod_any p (sm + x2 * q) W hp (by omega))
      clear hcell hc0 hc1 eg0 eg1 hy0 hy1 hx hA4' hG hd hq ht
      have H := Lib.hid hG'
      clear hG'
      have u0 : (i0 : Int) < (v.length : Int) := by omega
      have u1 : (i1 : Int) < (v.length : Int) := by omega
      have u2 : (0 : Int) ≤ (i0 : Int) := by omega
      have u3 : (0 : Int) ≤ (i1 : Int) := by omega
      clear hvl
      have hsub : IntKind.i64.wrap (y0 - y1) = y0 - y1 := IntWalk.i64_in _ (by omega)
      have hw2 : IntKind.i64.wrap (d * d) = d * d := IntWalk.i64_in _ (by omega)
      have hw3 : IntKind.i64.wrap (x2 * q) = x2 * q := IntWalk.i64_in _ (by omega)
      have hw4 : IntKind.i64.wrap (sm + x2 * q) = sm + x2 * q := IntWalk.i64_in _ (by omega)
      have hlr : w1.heap.size ≤ wr.heap.size := hbl.size
      go_wp2_with fail
      go_quiet ((go_at_call 51; exact quiet_left (hm1.out _)))
      go_wp2_with fail
      go_quiet (first | (go_at_call 51; with_reducible exact quiet_add_left (hm2.out _)) | (go_at_call 51; with_reducible exact quiet_add_left (hm3.out _)))
      go_wp2_with fail
      go_roundw
      case rel => exact ⟨k + 1, t, by omega, by go_num, rfl, bt, H, by exact below_draws_ (hbl.alloc hlr _) _⟩
      case measure => simp [intOf]; omega
    · have hG' := hG.out
      rw [List.drop_of_length_le (by omega)] at hG'
      have H := Lib.hid hG'
      clear hG' hG
      go_wp2_with fail
      go_ret2
      have hH : sm = powM p v bs 0 := H.out
      exact ⟨by rw [← hH]; rfl, hb_wr⟩
set_option maxRecDepth 100000 in
set_option maxHeartbeats 2000000 in
theorem specPower_yes {R1 R4 : Nat → Prop} (p nodes : Int) (bs : List DBranch) (A1 : Option Addr) (c1 : Nat) (l1 : List Addr) (left : List Int) (A2 : Option Addr) (c2 : Nat) (l2 : List Addr) (right : List Int) (A3 : Option Addr) (c3 : Nat) (l3 : List Addr) (v : List Int) (A4 : Option Addr) (c4 : Nat) (l4 : List Addr) (w : World)
    {R2 R3 : Nat → Prop} (s1 : Sl R1 w tyBranch A1 c1 bs l1) (s2 : Sl R2 w .int A2 c2 left l2) (s3 : Sl R3 w .int A3 c3 right l3) (s4 : Sl R4 w .int A4 c4 v l4) (hg : goodNet p nodes bs left right = true) (hv : isVec p v nodes = true) :
    Calls Tryd.prog 17 #[.int .i64 p, .agg #[.int .i64 nodes, .slice A1 bs.length c1, .slice A2 left.length c2, .slice A3 right.length c3], .slice A4 v.length c4] w fun e w' => e = .returned (.tuple #[.int .i64 (powM p v bs 0), .bool true]) ∧ Below w.heap.size w w' := by
  have hn1 := (sl_len s1).2
  obtain ⟨hF, hnd, _, _, _, _, _, hbs⟩ := goodNet_bd hg
  obtain ⟨hvl, hve⟩ := isVec_bd hv
  have hp := isF_bd hF
  have Hvl := Lib.hid hvl
  have Hbs := Lib.hid hbs
  have Hve := Lib.hid hve
  clear hF hvl hbs hve
  have hvq : (((v.length : Int)) != nodes) = false := by have := Hvl.out; simp [bne]; omega
  have hva : (v.all fun x => inR x 0 (p - 1)) = true := by simp only [isVec, Bool.and_eq_true] at hv; exact hv.2
  go_enter Tryd.func17, Tryd.ntmps17
  go_wp2_with (first | (go_at_call 42; refine (nwGood_any p nodes bs A1 c1 l1 left A2 c2 l2 right A3 c3 l3 _ (by exact sl_below s1 (by repeat (first | with_reducible exact Below.refl _ _ | ((with_reducible refine Below.setCell ?_ ?_ _); rotate_left; focus (first | (simp; done) | omega | (simp; omega))) | ((with_reducible refine Below.alloc ?_ ?_ _); rotate_left; focus (first | (simp; done) | omega | (simp; omega))) | (with_reducible refine Below.drew ?_) | (with_reducible refine below_draws_ ?_ _)))) (by exact sl_below s2 (by repeat (first | with_reducible exact Below.refl _ _ | ((with_reducible refine Below.setCell ?_ ?_ _); rotate_left; focus (first | (simp; done) | omega | (simp; omega))) | ((with_reducible refine Below.alloc ?_ ?_ _); rotate_left; focus (first | (simp; done) | omega | (simp; omega))) | (with_reducible refine Below.drew ?_) | (with_reducible refine below_draws_ ?_ _)))) (by exact sl_below s3 (by repeat (first | with_reducible exact Below.refl _ _ | ((with_reducible refine Below.setCell ?_ ?_ _); rotate_left; focus (first | (simp; done) | omega | (simp; omega))) | ((with_reducible refine Below.alloc ?_ ?_ _); rotate_left; focus (first | (simp; done) | omega | (simp; omega))) | (with_reducible refine Below.drew ?_) | (with_reducible refine below_draws_ ?_ _))))).mono ?_; rintro e w1 ⟨rfl, hb_w1⟩; obtain ⟨hc_w1, hf_w1⟩ := bcell hb_w1; have hz_w1 := hb_w1.size; (try simp at hz_w1); have hl_w1_0 : w.heap.size < w1.heap.size := (by omega)) | (go_at_call 46; refine (fdIn_any p v _ _ l4 _ (by exact sl_below s4 (by repeat (first | with_reducible exact Below.refl _ _ | ((with_reducible refine Below.setCell ?_ ?_ _); rotate_left; focus (first | (simp; done) | omega | (simp; omega))) | ((with_reducible refine Below.alloc ?_ ?_ _); rotate_left; focus (first | (simp; done) | omega | (simp; omega))) | (with_reducible refine Below.drew ?_) | (with_reducible refine below_draws_ ?_ _) | ((with_reducible refine Below.trans ?_ (Below.mono hb_w1 ?_)); rotate_left; focus (first | (simp; done) | omega | (simp; omega)))))) hp).mono ?_; rintro e w_ ⟨rfl, rfl⟩))
  go_loopw [8, 10, 11, 32] (fun s _ _ i wr => ∃ (k : Nat) (sm : Int), k ≤ bs.length ∧ i = .int .i64 k ∧ s = .int .i64 sm ∧ (0 ≤ sm ∧ sm < p) ∧ Hid (powM p v (bs.drop k) sm = powM p v bs 0) ∧ Below w1.heap.size w1 wr) (fun _ _ _ i _ => bs.length - (intOf i).toNat)
  case atStart => exact ⟨0, 0, by omega, rfl, rfl, by omega, rfl, (by repeat (first | with_reducible exact Below.refl _ _ | ((with_reducible refine Below.setCell ?_ ?_ _); rotate_left; focus (first | (simp; done) | omega | (simp; omega))) | ((with_reducible refine Below.alloc ?_ ?_ _); rotate_left; focus (first | (simp; done) | omega | (simp; omega))) | (with_reducible refine Below.drew ?_) | (with_reducible refine below_draws_ ?_ _)))⟩
  case round =>
    obtain ⟨k, sm, hk, rfl, rfl, hsm, hG, hbl⟩ := hrel
    have hzr := hbl.size
    have hb_wr : Below w.heap.size w wr := by exact Below.trans (by repeat (first | with_reducible exact Below.refl _ _ | ((with_reducible refine Below.setCell ?_ ?_ _); rotate_left; focus (first | (simp; done) | omega | (simp; omega))) | ((with_reducible refine Below.alloc ?_ ?_ _); rotate_left; focus (first | (simp; done) | omega | (simp; omega))) | (with_reducible refine Below.drew ?_) | (with_reducible refine below_draws_ ?_ _) | ((with_reducible refine Below.trans ?_ (Below.mono hb_w1 ?_)); rotate_left; focus (first | (simp; done) | omega | (simp; omega))))) (hbl.mono (by omega))
    by_cases hlt : k < bs.length
    · obtain ⟨b, o, rfl, _, hcell⟩ := sl_flat_at rfl s1 hlt
      have hB := Hbs.out bs[k] (List.getElem_mem hlt)
      have hG' := hG.out
      rw [List.drop_eq_getElem_cons hlt] at hG'
      obtain ⟨⟨x0, x1, x2⟩, hx⟩ : ∃ x, x = bs[k] := ⟨_, rfl⟩
      rw [← hx] at hcell hG' hB
      have e0 := below_has hb_wr (show w.cell? ⟨b, o + k * 3, none⟩ = some (.int .i64 x0) from hcell 0 (by decide))
      have e1 := below_has hb_wr (show w.cell? ⟨b, o + k * 3 + 1, none⟩ = some (.int .i64 x1) from hcell 1 (by decide))
      have e2 := below_has hb_wr (show w.cell? ⟨b, o + k * 3 + 2, none⟩ = some (.int .i64 x2) from hcell 2 (by decide))
      dsimp only at hB
      obtain ⟨⟨a0, a1⟩, ⟨b0, b1⟩, _, g0, g1⟩ := hB
      obtain ⟨i0, rfl⟩ := Int.eq_ofNat_of_zero_le a0
      obtain ⟨i1, rfl⟩ := Int.eq_ofNat_of_zero_le b0
      have hvl := Hvl.out
      have l0 : i0 < v.length := by omega
      have l1' : i1 < v.length := by omega
      obtain ⟨b', o', hA4, _, hc0⟩ := sl_int_at s4 l0
      obtain ⟨b2, o2, hA4', _, hc1⟩ := sl_int_at s4 l1'
      obtain ⟨rfl, rfl⟩ : b' = b2 ∧ o' = o2 := by rw [hA4] at hA4'; simpa using hA4'
      subst hA4
      have m0 := Hve.out _ (List.getElem_mem l0)
      have m1 := Hve.out _ (List.getElem_mem l1')
      have hc0' := below_has hb_wr hc0
      have hc1' := below_has hb_wr hc1
      have hlt' := World.block_lt_of_cell? wr _ hc0'
      dsimp only at hlt'
      have eg0 : v.getD i0 0 = v[i0] := by rw [List.getD_eq_getElem?_getD, List.getElem?_eq_getElem l0, Option.getD_some]
      have eg1 : v.getD i1 0 = v[i1] := by rw [List.getD_eq_getElem?_getD, List.getElem?_eq_getElem l1', Option.getD_some]
      simp only [powM, Int.toNat_natCast, eg0, eg1] at hG'
      obtain ⟨y0, hy0⟩ : ∃ y, y = v[i0] := ⟨_, rfl⟩
      obtain ⟨y1, hy1⟩ : ∃ y, y = v[i1] := ⟨_, rfl⟩
      rw [← hy0, ← hy1] at hG'
      rw [← hy0] at hc0' m0
      rw [← hy1] at hc1' m1
      obtain ⟨d, hd⟩ : ∃ d, d = (y0 - y1) % p := ⟨_, rfl⟩
      obtain ⟨q, hq⟩ : ∃ q, q = d * d % p := ⟨_, rfl⟩
      rw [← hd, ← hq] at hG'
      have bd : 0 ≤ d ∧ d ≤ 96 := ⟨by rw [hd]; exact Int.emod_nonneg _ (by omega), by have := Int.emod_lt_of_pos (y0 - y1) (show 0 < p by omega); omega⟩
      have bdd : 0 ≤ d * d ∧ d * d ≤ 96 * 96 := ⟨Int.mul_nonneg bd.1 bd.1, Int.mul_le_mul bd.2 bd.2 bd.1 (by omega)⟩
      have bq : 0 ≤ q ∧ q ≤ 96 := ⟨by rw [hq]; exact Int.emod_nonneg _ (by omega), by have := Int.emod_lt_of_pos (d * d) (show 0 < p by omega); omega⟩
      have bgq : 0 ≤ x2 * q ∧ x2 * q ≤ 97 * 96 := ⟨Int.mul_nonneg (by omega) bq.1, Int.mul_le_mul (by omega) bq.2 bq.1 (by omega)⟩
      obtain ⟨t, ht⟩ : ∃ t, t = (sm + x2 * q) % p := ⟨_, rfl⟩
      rw [← ht] at hG'
      have bt : 0 ≤ t ∧ t < p := ⟨by rw [ht]; exact Int.emod_nonneg _ (by omega), by rw [ht]; exact Int.emod_lt_of_pos _ (by omega)⟩
      have hm1 := Lib.hid (fun W => show Calls Tryd.prog 47 #[.int .i64 p, .int .i64 y0, .int .i64 y1] W fun e w' => e = .returned (.int .i64 d) ∧ W = w' from by rw [hd]; exact fdSub_any p y0 y1 W hp (by omega) (by omega))
      have hm2 := Lib.hid (fun W => show Calls Tryd.prog 49 #[.int .i64 p, .int .i64 d, .int .i64 d] W fun e w' => e = .returned (.int .i64 q) ∧ W = w' from by rw [hq]; exact fdMul_any p d d W hp (by omega) (by omega))
      obtain ⟨r, hr⟩ : ∃ r, r = x2 * q % p := ⟨_, rfl⟩
      have br : 0 ≤ r ∧ r ≤ 96 := ⟨by rw [hr]; exact Int.emod_nonneg _ (by omega), by have := Int.emod_lt_of_pos (x2 * q) (show 0 < p by omega); omega⟩
      have ht' : t = (sm + r) % p := by rw [ht, hr]; simp [Int.add_emod]
      have hm4 := Lib.hid (fun W => show Calls Tryd.prog 49 #[.int .i64 p, .int .i64 x2, .int .i64 q] W fun e w' => e = .returned (.int .i64 r) ∧ W = w' from by rw [hr]; exact fdMul_any p x2 q W hp (by omega) (by omega))
      have hm3 := Lib.hid (fun W => show Calls Tryd.prog 48 #[.int .i64 p, .int .i64 sm, .int .i64 r] W fun e w' => e = .returned (.int .i64 t) ∧ W = w' from by rw [ht']; exact fdAdd_any p sm r W hp (by omega) (by omega))
      clear hcell hc0 hc1 eg0 eg1 hy0 hy1 hx hA4' hG hd hq ht hr ht'
      have H := Lib.hid hG'
      clear hG'
      have u0 : (i0 : Int) < (v.length : Int) := by omega
      have u1 : (i1 : Int) < (v.length : Int) := by omega
      have u2 : (0 : Int) ≤ (i0 : Int) := by omega
      have u3 : (0 : Int) ≤ (i1 : Int) := by omega
      clear hvl
      have hlr : w1.heap.size ≤ wr.heap.size := hbl.size
      go_wp2_with fail
      go_quiet ((go_at_call 47; exact quiet_left (hm1.out _)))
      go_wp2_with fail
      go_quiet (first | (go_at_call 49; with_reducible exact quiet_add_left (hm2.out _)) | (go_at_call 49; with_reducible exact quiet_add_left (hm4.out _)) | (go_at_call 48; with_reducible exact quiet_add_left (hm3.out _)))
      go_wp2_with fail
      go_roundw
      case rel => exact ⟨k + 1, t, by omega, by go_num, rfl, bt, H, by exact below_draws_ (hbl.alloc hlr _) _⟩
      case measure => simp [intOf]; omega
    · have hG' := hG.out
      rw [List.drop_of_length_le (by omega)] at hG'
      have H := Lib.hid hG'
      clear hG' hG
      go_wp2_with fail
      go_ret2
      have hH : sm = powM p v bs 0 := H.out
      exact ⟨by rw [← hH]; rfl, hb_wr⟩
end Go.Proofs.YtefolocdfgelcaaDoor
