/- Partial functions in place of code: guards, look-ups, sequences and loops with ways out; no condition. -/
import Derived.Test.YtefolocdfgelcaaDoorE19m
namespace Go.Proofs.YtefolocdfgelcaaDoor
open Go.RowKit Go.Deep

inductive Ctl (σ ρ : Type) where
  | next (s : σ)
  | out (r : ρ)
def Ctl.then {σ β : Type} (k : σ → Option β) : Ctl σ β → Option β
  | .next t => k t
  | .out r => some r
section
variable {α β σ τ ρ : Type}
def og (c : Prop) [Decidable c] (k : Option α) : Option α := if c then k else none
theorem og_some {c : Prop} [Decidable c] {k : Option α} {r : α} (h : og c k = some r) : c ∧ k = some r := by
  unfold og at h
  split at h
  · rename_i hc; exact ⟨hc, h⟩
  · cases h
theorem og_true {c : Prop} [Decidable c] (h : c) (k : Option α) : og c k = k := if_pos h
theorem ob_some {o : Option α} {f : α → Option β} {b : β} (h : o.bind f = some b) : ∃ a, o = some a ∧ f a = some b := Option.bind_eq_some_iff.1 h
theorem om_some {o : Option α} {f : α → β} {b : β} (h : o.map f = some b) : ∃ a, o = some a ∧ f a = b := Option.map_eq_some_iff.1 h
theorem cond_some {c : Bool} {a b : Option α} {r : α} (h : cond c a b = some r) : (c = true ∧ a = some r) ∨ (c = false ∧ b = some r) := by
  cases c
  · exact .inr ⟨rfl, h⟩
  · exact .inl ⟨rfl, h⟩
def seqC (a : Option (Ctl τ β)) (k : τ → Option β) : Option β :=
  a.bind (Ctl.then k)
theorem seqC_some {a : Option (Ctl τ β)} {k : τ → Option β} {r : β} (h : seqC a k = some r) : ∃ v, a = some v ∧ Ctl.then k v = some r := ob_some h
def loopM (body : σ → Option (Ctl σ ρ)) : Nat → σ → Option ρ
  | 0, _ => none
  | n + 1, s => (body s).bind (Ctl.then (loopM body n))
theorem loopM_some {body : σ → Option (Ctl σ ρ)} {n : Nat} {s : σ} {v : ρ} (h : loopM body (n + 1) s = some v) : ∃ c, body s = some c ∧ Ctl.then (loopM body n) c = some v := ob_some h
theorem loopM_zero {body : σ → Option (Ctl σ ρ)} {s : σ} {v : ρ} (h : loopM body 0 s = some v) : False := by cases h
def getI (xs : List α) (n : Int) : Option α := if 0 ≤ n then xs[n.toNat]? else none
theorem getN_lt {xs : List α} {k : Nat} {x : α} (h : xs[k]? = some x) : k < xs.length := (List.getElem?_eq_some_iff.1 h).1
theorem getI_some {xs : List α} {n : Int} {x : α} (h : getI xs n = some x) : 0 ≤ n ∧ n < xs.length ∧ xs[n.toNat]? = some x := by
  unfold getI at h
  split at h
  · rename_i h0
    have := getN_lt h
    exact ⟨h0, by omega, h⟩
  · cases h
theorem getI_nat {xs : List α} {n : Int} (h : 0 ≤ n) : getI xs n = xs[n.toNat]? := if_pos h
end
section
variable {P : Program} {G : World → Prop} {σ τ β ρ : Type}
theorem awp_seqB {x y : AC} {R : AE → St → Prop} {S : St} {A : Option τ} {k : τ → Option β} {r : β} (h : A.bind k = some r) (J : τ → St → Prop) (h1 : ∀ t, A = some t → awp P G x (thenA (fun S' => ∃ S'', Weak S' S'' ∧ J t S'') R) S) (h2 : ∀ t S'', J t S'' → k t = some r → awp P G y R S'') : awp P G (.seq x y) R S := by
  obtain ⟨t, ha, hk⟩ := ob_some h
  exact awp_seqw_ (J t) (h1 t ha) fun S'' hj => h2 t S'' hj hk
theorem awp_seqC {x y : AC} {R : AE → St → Prop} {S : St} {A : Option (Ctl τ β)} {k : τ → Option β} {r : β} (h : seqC A k = some r) (J : τ → St → Prop)
    (h1 : ∀ v, A = some v → Ctl.then k v = some r → awp P G x (thenA (fun S' => ∃ t S'', v = .next t ∧ Weak S' S'' ∧ J t S'') R) S) (h2 : ∀ t S'', J t S'' → k t = some r → awp P G y R S'') : awp P G (.seq x y) R S := by
  obtain ⟨v, ha, hk⟩ := seqC_some h
  refine awp_seqw_ (fun S'' => ∃ t, v = .next t ∧ J t S'') (awp_mono (fun e S' hq => ?_) (h1 v ha hk)) fun S'' ⟨t, hv, hj⟩ => ?_
  · cases e with
    | normal => obtain ⟨t, S'', hv, hw, hj⟩ := hq; exact ⟨S'', hw, t, hv, hj⟩
    | exit id => exact hq
    | ret => exact hq
  · subst hv; exact h2 t S'' hj hk
theorem awp_loopL {a : AC} {R : AE → St → Prop} {S : St} {body : σ → Option (Ctl σ ρ)} {fuel : Nat} {s0 : σ} {v : ρ} (h : loopM body fuel s0 = some v) (J : σ → St → Prop) (h0 : ∃ S0, Weak S S0 ∧ J s0 S0)
    (h1 : ∀ n s S1 c, J s S1 → body s = some c → Ctl.then (loopM body n) c = some v → awp P G a (thenA (fun S2 => ∃ s' S3, Weak S2 S3 ∧ J s' S3 ∧ loopM body n s' = some v) R) S1) : awp P G (.loop a) R S := by
  obtain ⟨S0, hw, hj⟩ := h0
  refine awp_loop_ (fun (p : Nat × σ) S => loopM body p.1 p.2 = some v ∧ J p.2 S) (·.1) ⟨(fuel, s0), S0, hw, h, hj⟩ ?_
  rintro ⟨n, s⟩ S1 ⟨hl, hj⟩
  cases n with
  | zero => exact (loopM_zero hl).elim
  | succ n =>
    obtain ⟨c, hc, hn⟩ := loopM_some hl
    refine awp_mono (fun e S2 hq => ?_) (h1 n s S1 c hj hc hn)
    cases e with
    | normal => obtain ⟨s', S3, hw, hj, hl⟩ := hq; exact ⟨(n, s'), S3, hw, ⟨hl, hj⟩, Nat.lt_succ_self n⟩
    | exit id => exact hq
    | ret => exact hq
end
theorem nat_nn (n : Nat) : 0 ≤ (n : Int) := by omega
theorem wrap_k1 {k : Nat} (h : k + 1 < 4611686018427387904) : IntKind.i64.wrap ((k : Int) + 1) = ((k + 1 : Nat) : Int) := by
  rw [Go.IntWalk.i64_in _ (by omega)]; rfl
theorem ite_optN {α : Type} {c : Prop} [Decidable c] (h : ¬ c) (x : Option α) : (if c then none else x) = x := if_neg h
theorem weak_r {S S1 S2 : St} (h : S1 = S2) (k : Weak S S1) : Weak S S2 := h ▸ k
theorem swapL {α : Type} (e : α) {a b : α} (h : a = b) (he : a = e) : e = b := he ▸ h
end Go.Proofs.YtefolocdfgelcaaDoor
