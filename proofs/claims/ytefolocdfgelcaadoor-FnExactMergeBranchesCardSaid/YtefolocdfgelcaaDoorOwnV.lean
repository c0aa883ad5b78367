/- Rows that a call owns, of whose block only a part need be in reach; no condition. -/
import Derived.Test.YtefolocdfgelcaaDoorOwn
namespace Go.Proofs.YtefolocdfgelcaaDoor
open Go.RowKit Go.Deep

def ownsV (w : World) (lo : Nat) (e : TypeId) (sz : Nat) (v : Value) (n : Nat) (xs : List Value) : Prop :=
  xs.length = n * sz ∧
  ((v = .slice none 0 0 ∧ n = 0) ∨
   ∃ g cap cur, v = .slice (some ⟨g, 0, none⟩) n cap ∧ lo ≤ g ∧ w.heap[g]? = some (.cells cur e (0, 0)) ∧ n ≤ cap ∧ cap ≤ maxLen ∧ cap * sz ≤ cur.size ∧ cur.toList.take (n * sz) = xs)
section
variable {w w' : World} {lo lo' : Nat} {e : TypeId} {sz : Nat} {v : Value} {n : Nat} {xs : List Value}
theorem ownsV_nil (w : World) (lo : Nat) (e : TypeId) (sz : Nat) : ownsV w lo e sz (.slice none 0 0) 0 [] := ⟨by simp, .inl ⟨rfl, rfl⟩⟩
theorem ownsV.lt (h : ownsV w lo e sz v n xs) : ∀ k, v.ownBlock = some k → lo ≤ k ∧ k < w.heap.size := by
  intro k hk
  rcases h.2 with ⟨rfl, _⟩ | ⟨g, cap, cur, rfl, hb, hg, _⟩
  · cases hk
  · cases hk
    exact ⟨hb, (Array.getElem?_eq_some_iff.1 hg).1⟩
theorem ownsV.low (h : ownsV w lo e sz v n xs) (hl : lo' ≤ lo) : ownsV w lo' e sz v n xs := by
  refine ⟨h.1, ?_⟩
  rcases h.2 with hn | ⟨g, cap, cur, e1, hb, rest⟩
  · exact .inl hn
  · exact .inr ⟨g, cap, cur, e1, Nat.le_trans hl hb, rest⟩
theorem ownsV.block (h : ownsV w lo e sz v n xs) (hb : ∀ k, v.ownBlock = some k → w'.heap[k]? = w.heap[k]?) : ownsV w' lo e sz v n xs := by
  refine ⟨h.1, ?_⟩
  rcases h.2 with hn | ⟨g, cap, cur, e1, hb', hg, rest⟩
  · exact .inl hn
  · subst e1
    exact .inr ⟨g, cap, cur, rfl, hb', (hb g rfl).trans hg, rest⟩
theorem ownsV.cells (h : ownsV w lo e sz v n xs) {g : Nat} (hg : v.ownBlock = some g) : ∀ j u, xs[j]? = some u → w.cell? ((⟨g, 0, none⟩ : Addr).add j) = some u := by
  intro j u hj
  rcases h.2 with ⟨rfl, _⟩ | ⟨g', cap, cur, rfl, hb, hgg, _, _, _, ht⟩
  · cases hg
  · cases hg
    rw [← ht, List.getElem?_take] at hj
    split at hj
    · have e1 : (⟨g', 0, none⟩ : Addr).add j = ⟨g', j, none⟩ := by
        unfold Addr.add; split <;> simp_all
      rw [e1]
      simp only [World.cell?, hgg]
      simpa using hj
    · cases hj
theorem ownsV.take {k : Nat} (h : ownsV w lo e sz v n xs) (hk : k ≤ n) {v' : Value} (hv : ∀ g cap, v = .slice (some ⟨g, 0, none⟩) n cap → v' = .slice (some ⟨g, 0, none⟩) k cap) (hn : v = .slice none 0 0 → v' = .slice none 0 0) : ownsV w lo e sz v' k (xs.take (k * sz)) := by
  have hkn : k * sz ≤ n * sz := Nat.mul_le_mul_right _ hk
  refine ⟨by rw [List.length_take, h.1]; omega, ?_⟩
  rcases h.2 with ⟨e1, rfl⟩ | ⟨g, cap, cur, e1, hb, hg, h1, h2, h3, ht⟩
  · exact .inl ⟨hn e1, by omega⟩
  · refine .inr ⟨g, cap, cur, hv g cap e1, hb, hg, by omega, h2, h3, ?_⟩
    rw [← ht, List.take_take, Nat.min_eq_left hkn]
end
end Go.Proofs.YtefolocdfgelcaaDoor
