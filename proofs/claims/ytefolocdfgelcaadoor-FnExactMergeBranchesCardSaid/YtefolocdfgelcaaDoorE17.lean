/- An abstract machine: whole functions; conditions: the loops' invariants. -/
import Derived.Test.YtefolocdfgelcaaDoorE16
namespace Go.Proofs.YtefolocdfgelcaaDoor
open Go.RowKit Go.Deep

inductive Res where
  | tmp (t : Nat)
  | cell (t : Nat) (one : Bool) (m : Nat)
def Res.of (P : Program) : ResultVar → Option Res
  | .tmp t => some (.tmp t)
  | .cell t ty => (isOne P ty).map fun x => .cell t x.1 x.2
def Res.ofL (P : Program) : List ResultVar → Option (List Res)
  | [] => some []
  | r :: rs => match Res.of P r, Res.ofL P rs with
    | some x, some xs => some (x :: xs)
    | _, _ => none
def Res.ev (f : Nat → AV) (ob : Oid → Option Ob) : Res → Option AV
  | .tmp t => some (f t)
  | .cell t one m => match f t with
    | .box i k => match ob i with
      | some (.cells _ cs) => ldCells one m k cs
      | _ => none
    | _ => none
def Res.evL (f : Nat → AV) (ob : Oid → Option Ob) : List Res → Option (List AV)
  | [] => some []
  | r :: rs => match r.ev f ob, Res.evL f ob rs with
    | some x, some xs => some (x :: xs)
    | _, _ => none

/-- A leaf of a result. -/
def leafOf (ob : Oid → Option Ob) : AV → Option RL
  | .int k n => some (.sc (.int k n))
  | .bool b => some (.sc (.bool b))
  | .str s => some (.sc (.str s))
  | .nils => some (.sc .nils)
  | .own i _ off len => match ob i with
    | some (.arr e u xs) => if off = 0 ∧ len ≤ xs.length then some (.new e u (xs.take len)) else none
    | _ => none
  | _ => none
/-- A leaf of a result: a row of rows that the call has made. -/
def LeafM (ob : Oid → Option Ob) (c : AV) (l : RL) : Prop :=
  ∃ (i : Oid) (t : Ty) (len : Nat) (e e' : TypeId) (u : Ty) (n : Nat) (cs : List AV) (xss : List (List u.D)), c = .own i t 0 len ∧ ob i = some (.vec e 1 n cs) ∧ len ≤ n ∧ l = .newM e e' u xss ∧ u.flat = true ∧ xss.length = len ∧
    ∀ (k : Nat) (xs : List u.D), xss[k]? = some xs → ∃ (i' : Oid) (t' : Ty) (len' : Nat) (ys : List u.D), cs[k]? = some (.own i' t' 0 len') ∧ ob i' = some (.arr e' u ys) ∧ len' ≤ ys.length ∧ xs = ys.take len'
/-- A leaf of a result: made by the call, or given to it. -/
def LeafR (vs : List Value) (ob : Oid → Option Ob) (c : AV) (l : RL) : Prop :=
  (leafOf ob c = some l ∨ (∃ v t xs i k, c = .giv v t xs ∧ l = .arg i k ∧ compV vs i k = some v) ∨ ∃ e t, c = .nils ∧ l = .new e t [] ∧ t.flat = true) ∨ (LeafM ob c l ∨ ∃ e e' u, c = .nils ∧ l = .newM e e' u [] ∧ u.flat = true)
def LeavesR (vs : List Value) (ob : Oid → Option Ob) : List AV → List RL → Prop
  | [], ls => ls = []
  | c :: cs, ls => ∃ l ls', ls = l :: ls' ∧ LeafR vs ob c l ∧ LeavesR vs ob cs ls'
def PartsR (vs : List Value) (ob : Oid → Option Ob) : List AV → List (Bool × List RL) → Prop
  | [], ps => ps = []
  | .agg cs :: r, ps => ∃ ls ps', ps = (true, ls) :: ps' ∧ LeavesR vs ob cs ls ∧ PartsR vs ob r ps'
  | c :: r, ps => ∃ l ps', ps = (false, [l]) :: ps' ∧ LeafR vs ob c l ∧ PartsR vs ob r ps'
def idsOf : List AV → List Oid
  | [] => []
  | .own i _ _ _ :: r => i :: idsOf r
  | _ :: r => idsOf r
/-- The names that a result speaks of. -/
def idsR (ob : Oid → Option Ob) : List AV → List Oid
  | [] => []
  | .own i _ _ len :: r => (match ob i with
    | some (.vec _ _ _ cs) => i :: idsOf (cs.take len)
    | _ => [i]) ++ idsR ob r
  | _ :: r => idsR ob r
def flatA : List AV → List AV
  | [] => []
  | .agg cs :: r => cs ++ flatA r
  | c :: r => c :: flatA r
/-- The state ends in such a result. -/
def RetOK (vs : List Value) (rs : List Res) (S : St) (r : RV) : Prop :=
  ∃ avs ps, Res.evL S.tm S.ob rs = some avs ∧ PartsR vs S.ob avs ps ∧ (idsR S.ob (flatA avs)).Nodup ∧ r = ⟨decide (rs.length ≠ 1), ps⟩
/-- The arguments, each slice with the mark of its value. -/
def tag1 : AV → Value → AV
  | .tree t xs, v => .giv v t xs
  | c, _ => c
def tagC : List AV → List Value → List AV
  | c :: cs, v :: vs => tag1 c v :: tagC cs vs
  | cs, _ => cs
def tagA : AV → Value → AV
  | .agg cs, .agg a => .agg (tagC cs a.toList)
  | c, v => tag1 c v
def tagL : List AV → List Value → List AV
  | c :: cs, v :: vs => tagA c v :: tagL cs vs
  | cs, _ => cs

def St.init (args : List AV) : St := ⟨fun i => args.getD i .any, fun _ => none, 1⟩
def mkTm : List (Nat × AV) → Nat → AV
  | [], _ => .any
  | (j, v) :: r, i => if i = j then v else mkTm r i
theorem leafOf_frz {ob : Oid → Option Ob} {c : AV} {l : RL} (h : leafOf ob c = some l) (d : AV) : l ≠ .frz d := by
  unfold leafOf at h
  (repeat' split at h) <;> first | (cases h; done) | (obtain rfl := Option.some.inj h; intro e; cases e)
theorem LeafR_frz {vs : List Value} {ob : Oid → Option Ob} {c : AV} {l : RL} (h : LeafR vs ob c l) (d : AV) : l ≠ .frz d := by
  rcases h with (h | ⟨_, _, _, _, _, _, rfl, _⟩ | ⟨_, _, _, rfl, _⟩) | ⟨_, _, _, _, _, _, _, _, _, _, _, _, rfl, _⟩ | ⟨_, _, _, _, rfl, _⟩
  · exact leafOf_frz h d
  · intro e; cases e
  · intro e; cases e
  · intro e; cases e
  · intro e; cases e
theorem LeavesR_frz {vs : List Value} {ob : Oid → Option Ob} (d : AV) : ∀ {cs : List AV} {ls : List RL}, LeavesR vs ob cs ls → RL.frz d ∉ ls
  | [], ls, h => by
    obtain rfl : ls = [] := h
    simp
  | c :: cs, ls, h => by
    obtain ⟨l, ls', rfl, h1, h2⟩ := h
    intro hm
    rcases List.mem_cons.1 hm with e | hm
    · exact LeafR_frz h1 d e.symm
    · exact LeavesR_frz d h2 hm
theorem PartsR_one {vs : List Value} {ob : Oid → Option Ob} {c : AV} (hc : ¬ ∃ cs, c = .agg cs) (r : List AV) (ps : List (Bool × List RL)) : PartsR vs ob (c :: r) ps = ∃ l ps', ps = (false, [l]) :: ps' ∧ LeafR vs ob c l ∧ PartsR vs ob r ps' := by
  cases c <;> first | rfl | exact absurd ⟨_, rfl⟩ hc
theorem PartsR_frz {vs : List Value} {ob : Oid → Option Ob} : ∀ {cs : List AV} {ps : List (Bool × List RL)}, PartsR vs ob cs ps → ∀ d, RL.frz d ∉ ps.flatMap (·.2)
  | [], ps, h, d => by
    obtain rfl : ps = [] := h
    simp
  | c :: cs, ps, h, d => by
    by_cases hagg : ∃ ds, c = .agg ds
    · obtain ⟨ds, rfl⟩ := hagg
      obtain ⟨ls, qs, rfl, h1, h2⟩ := h
      rw [List.flatMap_cons, List.mem_append]
      rintro (hm | hm)
      · exact LeavesR_frz d h1 hm
      · exact PartsR_frz h2 d hm
    · rw [PartsR_one hagg] at h
      obtain ⟨l, qs, rfl, h1, h2⟩ := h
      rw [List.flatMap_cons, List.mem_append]
      rintro (hm | hm)
      · exact LeafR_frz h1 d (List.mem_singleton.1 hm).symm
      · exact PartsR_frz h2 d hm

section
variable {P : Program} {G : World → Prop} {w0 w w' : World} {ob : Oid → Option Ob} {σ : Oid → Option Loc} {K : Nat → Prop} {im : Nat → Prop}

/-- Rows under different names lie apart. -/
theorem apart_ids (hM : Mem0 G w0 ob σ K w) : ∀ {idl : List (Option Oid × Loc)}, (∀ x ∈ idl, (x.1 = none → x.2 = .nil) ∧ ∀ i, x.1 = some i → ∃ o, ob i = some o ∧ σ i = some x.2) → (idl.filterMap (·.1)).Nodup → apartL (idl.map (·.2))
  | [], _, _ => trivial
  | x :: idl, h, nd => by
    obtain ⟨q1, q2⟩ := h x (by simp)
    cases hx : x.1 with
    | none =>
      rw [List.filterMap_cons_none hx] at nd
      refine ⟨fun b c s e => ?_, apart_ids hM (fun y hy => h y (by simp [hy])) nd⟩
      have e : x.2 = .at_ b c s := e
      rw [q1 hx] at e; cases e
    | some i =>
      rw [List.filterMap_cons_some hx] at nd
      obtain ⟨n1, n2⟩ := List.nodup_cons.1 nd
      refine ⟨fun b c s e c' s' hin => ?_, apart_ids hM (fun y hy => h y (by simp [hy])) n2⟩
      obtain ⟨y, hy, ey⟩ := List.mem_map.1 hin
      have e : x.2 = .at_ b c s := e
      have ey : y.2 = .at_ b c' s' := ey
      obtain ⟨o, g1, g2⟩ := q2 i hx
      obtain ⟨r1, r2⟩ := h y (by simp [hy])
      cases hy1 : y.1 with
      | none => rw [r1 hy1] at ey; cases ey
      | some j =>
        obtain ⟨o', g3, g4⟩ := r2 j hy1
        rw [e] at g2
        rw [ey] at g4
        have := hM.inj i j b c s c' s' o o' g1 g3 g2 g4
        subst this
        exact n1 (List.mem_filterMap.2 ⟨y, hy, hy1⟩)
theorem own_loc {i : Oid} {t : Ty} {len : Nat} {u : Value} {im' : Nat → Prop} (h1 : AV.Rep σ im' w (.own i t 0 len) u) : ∃ l, σ i = some l ∧ u = l.val len ∧ (l = .nil → len = 0) := by
  rcases h1 with ⟨g1, _, g3, g4⟩ | ⟨b, cap, g1, _, g4⟩ | ⟨_, _, g, _⟩
  rotate_left
  rotate_left
  · exact absurd rfl g
  · exact ⟨.nil, g1, g4, fun _ => g3⟩
  · exact ⟨.at_ b cap t.size, g1, by simpa [Loc.val] using g4, fun h => by cases h⟩
theorem leafOf_rep {vs0 : List Value} (hM : Mem0 G w0 ob σ K w) : ∀ {cs : List AV} {ls : List RL} {us : List Value}, LeavesR vs0 ob cs ls → AV.RepL σ (imm ob σ) w cs us →
    ∃ idl : List (Option Oid × Loc), RL.RepL w0.heap.size im vs0 w ls us (idl.map (·.2)) ∧ idl.filterMap (·.1) = idsR ob cs ∧ ∀ x ∈ idl, (x.1 = none → x.2 = .nil) ∧ ∀ i, x.1 = some i → ∃ o, ob i = some o ∧ σ i = some x.2
  | [], ls, us, h, hr => by
    obtain rfl : ls = [] := h
    exact ⟨[], ⟨hr, rfl⟩, rfl, fun _ h => by cases h⟩
  | c :: cs, ls, us, h, ⟨u, us', e, h1, h2⟩ => by
    subst e
    obtain ⟨l, ls', rfl, q0, q2⟩ := h
    obtain ⟨idl, r1, r3, r2⟩ := leafOf_rep hM q2 h2
    have sc : ∀ {d : AV}, d.scal = true → l = .sc d → AV.Rep (fun _ => none) im w d u → idsR ob (c :: cs) = idsR ob cs → ∃ idl : List (Option Oid × Loc), RL.RepL w0.heap.size im vs0 w (l :: ls') (u :: us') (idl.map (·.2)) ∧ idl.filterMap (·.1) = idsR ob (c :: cs) ∧ ∀ x ∈ idl, (x.1 = none → x.2 = .nil) ∧ ∀ i, x.1 = some i → ∃ o, ob i = some o ∧ σ i = some x.2 := by
      intro d hd hl hr he
      subst hl
      exact ⟨idl, ⟨u, us', rfl, hr, hd, r1⟩, by rw [he]; exact r3, r2⟩
    rcases q0 with (q1 | ⟨v, t, xs, i, k, rfl, rfl, hv⟩ | ⟨e, t, rfl, rfl, hfl⟩) | ⟨i, t, len, e, e', u0, n, cs0, xss, rfl, hj, hle, rfl, hfl, hxl, hrow⟩ | ⟨e, e', u0, rfl, rfl, hfl⟩
    · unfold leafOf at q1
      split at q1
      · exact sc rfl (Option.some.inj q1).symm h1 rfl
      · exact sc rfl (Option.some.inj q1).symm h1 rfl
      · exact sc rfl (Option.some.inj q1).symm h1 rfl
      · exact sc rfl (Option.some.inj q1).symm h1 rfl
      · rename_i i u0 off len
        split at q1
        · rename_i e v xs hj
          split at q1
          · rename_i hc
            obtain ⟨rfl, hle⟩ := hc
            obtain rfl := Option.some.inj q1
            have hlen : (xs.take len).length = len := by rw [List.length_take]; omega
            obtain ⟨l, g1, g2, g3⟩ := own_loc h1
            obtain ⟨hfl, hown, hs⟩ := hM.obs i _ _ hj g1
            have hown' := own_take hfl hown hle g3
            refine ⟨(some i, l) :: idl, ⟨l, idl.map (·.2), us', by rw [hlen, g2], rfl, hfl, by rw [hlen]; exact hown', hs, r1⟩, ?_, fun x hx => ?_⟩
            · rw [show ((some i, l) :: idl).filterMap (·.1) = i :: idl.filterMap (·.1) from rfl, r3]
              simp only [idsR, hj, List.singleton_append]
            · rcases List.mem_cons.1 hx with rfl | hx
              · exact ⟨fun h => (by cases h), fun i' e => (by cases e; exact ⟨_, hj, g1⟩)⟩
              · exact r2 x hx
          · cases q1
        · cases q1
      · cases q1
    · obtain ⟨rfl, _⟩ := h1
      exact ⟨idl, ⟨_, us', rfl, hv, r1⟩, r3, r2⟩
    · obtain rfl : u = .slice none 0 0 := h1
      refine ⟨(none, .nil) :: idl, ⟨.nil, idl.map (·.2), us', rfl, rfl, hfl, ownsV_nil w w0.heap.size e t.size, fun _ _ _ h => (nomatch h), r1⟩, by rw [show ((none, Loc.nil) :: idl).filterMap (·.1) = idl.filterMap (·.1) from rfl, r3]; rfl, fun x hx => ?_⟩
      rcases List.mem_cons.1 hx with rfl | hx
      · exact ⟨fun _ => rfl, fun _ e => (by cases e)⟩
      · exact r2 x hx
    · obtain ⟨l, g1, g2, g3⟩ := own_loc h1
      obtain ⟨vs, hown, p2, p3, hs⟩ := hM.obs i _ _ hj g1
      have hvn : vs.length = n := by have := hown.1; omega
      have hcn : cs0.length = n := by rw [← p2.length]; exact hvn
      have hown' : ownsV w w0.heap.size e 1 (l.val len) len (vs.take (len * 1)) := hown.take hle (fun g cap e => by
        cases l with
        | nil => cases e
        | at_ b c s => cases e; rfl) (fun e => by
        cases l with
        | nil => rfl
        | at_ b c s => cases e)
      subst hxl
      have hkid : ∀ k, k < xss.length → ∃ x : Oid × Loc, ∃ (t' : Ty) (len' : Nat) (ys : List u0.D), cs0[k]? = some (.own x.1 t' 0 len') ∧ ob x.1 = some (.arr e' u0 ys) ∧ len' ≤ ys.length ∧ xss[k]? = some (ys.take len') ∧ σ x.1 = some x.2 ∧ vs[k]? = some (x.2.val len') ∧ (x.2 = .nil → len' = 0) := by
        intro k hk
        obtain ⟨i', t', len', ys, a1, a2, a3, a4⟩ := hrow k _ (List.getElem?_eq_getElem hk)
        obtain ⟨v, hv, hr⟩ := p2.get a1
        obtain ⟨l', b1, b2, b3⟩ := own_loc hr
        exact ⟨(i', l'), t', len', ys, a1, a2, a3, by rw [List.getElem?_eq_getElem hk, a4], b1, by rw [hv, b2], b3⟩
      have hkid' : ∃ g : Nat → Oid × Loc, ∀ k, k < xss.length → ∃ (t' : Ty) (len' : Nat) (ys : List u0.D), cs0[k]? = some (.own (g k).1 t' 0 len') ∧ ob (g k).1 = some (.arr e' u0 ys) ∧ len' ≤ ys.length ∧ xss[k]? = some (ys.take len') ∧ σ (g k).1 = some (g k).2 ∧ vs[k]? = some ((g k).2.val len') ∧ ((g k).2 = .nil → len' = 0) := by
        rcases Nat.eq_zero_or_pos xss.length with h0 | h0
        · exact ⟨fun _ => (((0, 0), 0), .nil), fun k hk => by omega⟩
        · have : Inhabited (Oid × Loc) := ⟨(((0, 0), 0), .nil)⟩
          exact Deep.choose_lt hkid
      obtain ⟨g, hg⟩ := hkid'
      have hids : idsOf (cs0.take xss.length) = (List.range xss.length).map fun k => (g k).1 := by
        have key : ∀ (m : Nat) (cs : List AV) (h : Nat → Oid), cs.length = m → (∀ k, k < m → ∃ t' len', cs[k]? = some (.own (h k) t' 0 len')) → idsOf cs = (List.range m).map h := by
          intro m
          induction m with
          | zero => intro cs h hl _; obtain rfl := List.length_eq_zero_iff.1 hl; rfl
          | succ m ih =>
            intro cs h hl hk
            cases cs with
            | nil => simp at hl
            | cons c cs =>
              obtain ⟨t', len', h0⟩ := hk 0 (by omega)
              obtain rfl := Option.some.inj h0
              rw [List.range_succ_eq_map, List.map_cons, List.map_map]
              simp only [idsOf]
              rw [ih cs (fun k => h (k + 1)) (by simpa using hl) (fun k hk' => by simpa using hk (k + 1) (by omega))]
              rfl
        refine key _ _ _ (by rw [List.length_take]; omega) fun k hk => ?_
        obtain ⟨t', len', _, a1, _⟩ := hg k hk
        exact ⟨t', len', by rw [List.getElem?_take, if_pos hk]; exact a1⟩
      refine ⟨(some i, l) :: (((List.range xss.length).map fun k => (some (g k).1, (g k).2)) ++ idl), ⟨l, (List.range xss.length).map fun k => (g k).2, idl.map (·.2), us', vs.take (xss.length * 1), by rw [g2], by simp, ⟨⟨by simp, hfl⟩, ⟨hown', hs⟩, fun k xs l' hk hl' => ?_⟩, r1⟩, ?_, fun x hx => ?_⟩
      · have hlt := (List.getElem?_eq_some_iff.1 hk).1
        obtain ⟨t', len', ys, a1, a2, a3, a4, a5, a6, a7⟩ := hg k hlt
        rw [List.getElem?_map, List.getElem?_range hlt] at hl'
        obtain rfl := Option.some.inj hl'
        rw [hk] at a4
        obtain rfl := Option.some.inj a4
        have hlen : (ys.take len').length = len' := by rw [List.length_take]; omega
        obtain ⟨_, hown2, hs2⟩ := hM.obs _ _ _ a2 a5
        rw [hlen]
        exact ⟨by rw [List.getElem?_take, if_pos (by omega)]; exact a6, own_take hfl hown2 a3 a7, hs2⟩
      · rw [show ((some i, l) :: (((List.range xss.length).map fun k => (some (g k).1, (g k).2)) ++ idl)).filterMap (·.1) = i :: (((List.range xss.length).map fun k => (some (g k).1, (g k).2)) ++ idl).filterMap (·.1) from rfl, List.filterMap_append, r3]
        simp only [idsR, hj, hids, List.filterMap_map, List.cons_append]
        congr 2
        rw [← List.filterMap_eq_map]
        rfl
      · rcases List.mem_cons.1 hx with rfl | hx
        · exact ⟨fun h => (by cases h), fun i' e => (by cases e; exact ⟨_, hj, g1⟩)⟩
        · rcases List.mem_append.1 hx with hx | hx
          · obtain ⟨k, hk, rfl⟩ := List.mem_map.1 hx
            obtain ⟨t', len', ys, a1, a2, a3, a4, a5, a6, a7⟩ := hg k (by simpa using hk)
            exact ⟨fun h => (by cases h), fun i' e => (by cases e; exact ⟨_, a2, a5⟩)⟩
          · exact r2 x hx
    · obtain rfl : u = .slice none 0 0 := h1
      refine ⟨(none, .nil) :: idl, ⟨.nil, [], idl.map (·.2), us', [], rfl, rfl, ⟨⟨rfl, hfl⟩, ⟨ownsV_nil w w0.heap.size e 1, fun _ _ _ h => (nomatch h)⟩, fun k xs l h => by simp at h⟩, r1⟩, by rw [show ((none, Loc.nil) :: idl).filterMap (·.1) = idl.filterMap (·.1) from rfl, r3]; rfl, fun x hx => ?_⟩
      rcases List.mem_cons.1 hx with rfl | hx
      · exact ⟨fun _ => rfl, fun _ e => (by cases e)⟩
      · exact r2 x hx

theorem parts_flat {vs0 : List Value} : ∀ {avs : List AV} {ps : List (Bool × List RL)} {us : List Value}, PartsR vs0 ob avs ps → AV.RepL σ im w avs us →
    ∃ vs, LeavesR vs0 ob (flatA avs) (ps.flatMap (·.2)) ∧ AV.RepL σ im w (flatA avs) vs ∧ partsV ps vs = us
  | [], ps, us, h, hr => by
    obtain rfl : ps = [] := h
    exact ⟨[], rfl, rfl, hr.symm⟩
  | c :: r, ps, us, h, ⟨u, us', e, h1, h2⟩ => by
    subst e
    have app : ∀ (xs ys : List AV) (l m : List RL), LeavesR vs0 ob xs l → LeavesR vs0 ob ys m → LeavesR vs0 ob (xs ++ ys) (l ++ m) := by
      intro xs
      induction xs with
      | nil => intro ys l m hl hm; obtain rfl : l = [] := hl; simpa using hm
      | cons x xs ih =>
        rintro ys l m ⟨a, b, rfl, q1, q2⟩ hm
        exact ⟨a, b ++ m, rfl, q1, ih ys _ _ q2 hm⟩
    have len : ∀ (xs : List AV) (l : List RL), LeavesR vs0 ob xs l → l.length = xs.length := by
      intro xs
      induction xs with
      | nil => intro l hl; obtain rfl : l = [] := hl; rfl
      | cons x xs ih =>
        rintro l ⟨a, b, rfl, q1, q2⟩
        simp [ih _ q2]
    by_cases hagg : ∃ cs, c = .agg cs
    · obtain ⟨cs, rfl⟩ := hagg
      obtain ⟨ls, ps', rfl, q1, q2⟩ := h
      obtain ⟨vs, r1, r2, r3⟩ := parts_flat q2 h2
      obtain ⟨ws, e1, e2⟩ := h1
      have hwl : ls.length = ws.length := by rw [len _ _ q1, e2.length]
      refine ⟨ws ++ vs, ?_, e2.append r2, ?_⟩
      · simp only [flatA, List.flatMap_cons]
        exact app _ _ _ _ q1 r1
      · simp only [partsV, if_true]
        rw [List.take_left' hwl.symm, List.drop_left' hwl.symm, r3, e1]
    · rw [PartsR_one hagg] at h
      obtain ⟨l, ps', rfl, q1, q2⟩ := h
      have hf : flatA (c :: r) = c :: flatA r := by
        cases c <;> first | rfl | exact absurd ⟨_, rfl⟩ hagg
      obtain ⟨vs, r1, r2, r3⟩ := parts_flat q2 h2
      refine ⟨u :: vs, ?_, ?_, ?_⟩
      · rw [hf]; exact ⟨l, _, rfl, q1, r1⟩
      · rw [hf]; exact ⟨u, vs, rfl, h1, r2⟩
      · simp [partsV, r3]

theorem tag1_rep {c : AV} {v : Value} (h : AV.Rep σ im w c v) : AV.Rep σ im w (tag1 c v) v := by
  unfold tag1
  split
  · exact ⟨rfl, h⟩
  · exact h
theorem tagC_rep : ∀ {cs : List AV} {vs : List Value}, AV.RepL σ im w cs vs → AV.RepL σ im w (tagC cs vs) vs
  | [], _, h => by simpa [tagC] using h
  | c :: cs, _, ⟨u, us, e, h1, h2⟩ => by subst e; exact ⟨u, us, rfl, tag1_rep h1, tagC_rep h2⟩
theorem tagA_rep {c : AV} {v : Value} (h : AV.Rep σ im w c v) : AV.Rep σ im w (tagA c v) v := by
  unfold tagA
  split
  · obtain ⟨vs, e, hl⟩ := h
    cases e
    exact ⟨vs, rfl, by simpa using tagC_rep hl⟩
  · exact tag1_rep h
theorem tagL_rep : ∀ {cs : List AV} {vs : List Value}, AV.RepL σ im w cs vs → AV.RepL σ im w (tagL cs vs) vs
  | [], _, h => by simpa [tagL] using h
  | c :: cs, _, ⟨u, us, e, h1, h2⟩ => by subst e; exact ⟨u, us, rfl, tagA_rep h1, tagL_rep h2⟩

def resV (tmps : Array Value) : ResultVar → Sem Value
  | .tmp t => pure (tmps.getD t undef)
  | .cell a t => do loadVar t (← asAddr (tmps.getD a undef))
theorem results_run {fn : Func} {tmps : Array Value} {us : List Value} (h : (fn.results.toList.mapM (resV tmps)).run P w = .ok us w) (hl : us.length = fn.results.size) :
    (results fn tmps).run P w = .ok (if fn.results.size = 1 then us.headD undef else .tuple us.toArray) w := by
  have e : results fn tmps = (do let vs ← fn.results.mapM (resV tmps); pure (if h : vs.size = 1 then vs[0] else .tuple vs)) := rfl
  rw [e, Array.mapM_eq_mapM_toList]
  simp only [Sem.run_bind, Sem.run_map, h, Result.andThen_ok, Sem.run_pure]
  by_cases h1 : fn.results.size = 1
  · have : us.toArray.size = 1 := by simp [hl, h1]
    rw [dif_pos this, if_pos h1]
    cases us with
    | nil => simp at this
    | cons u us => rfl
  · rw [dif_neg (by simp [hl, h1]), if_neg h1]

theorem Res.run {f : Nat → AV} {a : Act} (hM : Mem0 G w0 ob σ K w) (hF : TmRep σ (imm ob σ) w f a) {r : ResultVar} {x : Res} {c : AV} (h : Res.of P r = some x) (he : x.ev f ob = some c) :
    ∃ u, (resV a.tmps r).run P w = .ok u w ∧ AV.Rep σ (imm ob σ) w c u := by
  cases r with
  | tmp t =>
    obtain rfl := Option.some.inj h
    obtain rfl := Option.some.inj he
    exact ⟨_, rfl, hF t⟩
  | cell t ty =>
    obtain ⟨⟨one, m⟩, h1, rfl⟩ := Option.map_eq_some_iff.1 h
    simp only [Res.ev] at he
    split at he
    · rename_i i k hb
      have hv := hF t
      rw [hb] at hv
      obtain ⟨b, cap, sz, e1, e2⟩ := hv
      split at he
      · rename_i ty' cs hj
        obtain ⟨vs, g1, g2, _⟩ := hM.obs i _ _ hj e1
        obtain ⟨u, hu, hr⟩ := ld_rep (P := P) (w := w) (σ := σ) (im := imm ob σ) (ad := ⟨b, k, none⟩) h1 he (fun j d hd => by
          obtain ⟨u, hu, hr⟩ := g2.get hd
          refine ⟨u, ?_, hr⟩
          rw [add_mk]
          simp only [World.cell?, g1]
          simpa using hu)
        refine ⟨u, ?_, hr⟩
        simp only [Instr.loadAt, Instr.sureAddr, Sem.run_bind, Sem.run_pure, Result.andThen_ok] at hu
        simp [resV, e2, asAddr, hu]
      · cases he
    · cases he

theorem LeafR.wide {vs : List Value} {ob : Oid → Option Ob} {c : AV} {l : RL} (h : LeafR [] ob c l) : LeafR vs ob c l := by
  rcases h with (h | ⟨_, _, _, i, k, _, _, hv⟩ | h) | h
  · exact .inl (.inl h)
  · cases k <;> simp [compV] at hv
  · exact .inl (.inr (.inr h))
  · exact .inr h
theorem LeavesR.wide {vs : List Value} {ob : Oid → Option Ob} : ∀ {cs : List AV} {ls : List RL}, LeavesR [] ob cs ls → LeavesR vs ob cs ls
  | [], _, h => h
  | _ :: _, _, ⟨l, ls', e, h1, h2⟩ => ⟨l, ls', e, h1.wide, h2.wide⟩
theorem PartsR.wide {vs : List Value} {ob : Oid → Option Ob} : ∀ {cs : List AV} {ps : List (Bool × List RL)}, PartsR [] ob cs ps → PartsR vs ob cs ps
  | [], _, h => h
  | c :: cs, ps, h => by
    by_cases hagg : ∃ ds, c = .agg ds
    · obtain ⟨ds, rfl⟩ := hagg
      obtain ⟨ls, qs, e, h1, h2⟩ := h
      exact ⟨ls, qs, e, h1.wide, h2.wide⟩
    · rw [PartsR_one hagg] at h ⊢
      obtain ⟨l, qs, e, h1, h2⟩ := h
      exact ⟨l, qs, e, h1.wide, h2.wide⟩
theorem RetOK.wide {vs : List Value} {rs : List Res} {S : St} {r : RV} (h : RetOK [] rs S r) : RetOK vs rs S r := by
  obtain ⟨avs, ps, h1, h2, h3, h4⟩ := h
  exact ⟨avs, ps, h1, h2.wide, h3, h4⟩
theorem tagL_length : ∀ (cs : List AV) (vs : List Value), (tagL cs vs).length = cs.length
  | [], _ => by simp [tagL]
  | _ :: _, [] => by simp [tagL]
  | _ :: cs, _ :: vs => by simp [tagL, tagL_length cs vs]

/-- A function's contract from its code. -/
theorem call_ok [IsP P] (hfol : P.follows .mixedOrders = true) {g : FuncId} {fn : Func} {c : Code} {ac : AC} {rs : List Res} {args : List AV} {r : RV} (hf : P.funcs[g]? = some fn) (hb : fn.body = some c) (hc : AC.of P fn.ntmps c = some ac) (hrs : Res.ofL P fn.results.toList = some rs)
    (hn : args.length ≤ fn.ntmps) (h : ∀ (im : Nat → Prop) (w : World) (vs : List Value), AV.RepL (fun _ => none) im w args vs → ∃ args', args'.length = args.length ∧ AV.RepL (fun _ => none) im w args' vs ∧ awp P G ac (fun e S => ∃ S', Weak S S' ∧ (e = .normal ∨ e = .ret) ∧ RetOK vs rs S' r) (St.init args')) : CallOK P G g args r := by
  intro w im vs hG hargs0
  obtain ⟨args', hlen', hargs, h⟩ := h im w vs hargs0
  rw [← hlen'] at hn
  clear hargs0
  revert hn hargs h
  generalize args' = args
  intro hn hargs h
  have hlen : vs.length = args.length := hargs.length
  have hany : ∀ (cs : List AV) (us : List Value), AV.RepL (fun _ => none) im w cs us → AV.RepL (fun _ => none) (imm (fun _ => none) (fun _ => none)) w cs us := fun cs us h' =>
    AV.RepL.later ⟨fun _ _ h => h, (fun _ _ _ _ _ _ _ h => by cases h), fun _ _ _ => rfl, Nat.le_refl _⟩ cs us h'
  have hreps : Reps G w ⟨fun _ => none, fun _ => False, w, fun _ _ h => (nomatch h)⟩ fn.ntmps (St.init args) { tmps := vs.toArray ++ Array.replicate (fn.ntmps - vs.toArray.size) undef, defers := [] } w := by
    refine ⟨⟨fun _ => none, ⟨Below.refl _ _, hG, (fun _ _ h => by cases h), (fun _ _ _ _ h => by cases h), (fun _ _ _ _ h => by cases h), (fun _ _ _ _ _ _ _ _ _ h => by cases h), (fun _ _ _ h => by cases h)⟩, fun t => ?_, ⟨fun _ _ h => h, fun _ _ h => h.elim, fun _ _ h => h.elim, Nat.le_refl _⟩⟩, by simp; omega, rfl, fun i h => absurd rfl h⟩
    simp only [St.init, List.getD_eq_getElem?_getD]
    cases ht : args[t]? with
    | none => trivial
    | some c =>
      obtain ⟨v, hv, hr⟩ := (hany _ _ hargs).get ht
      have hlt : t < vs.length := (List.getElem?_eq_some_iff.1 hv).1
      have e : (vs.toArray ++ Array.replicate (fn.ntmps - vs.toArray.size) undef).getD t undef = v := by
        rw [Array.getD_eq_getD_getElem?, Array.getElem?_append_left (by simpa using hlt)]
        simp [hv]
      rw [e]
      exact hr
  refine calls_of_wp hf hb (Code.wp_mono (fun e a' w' hq => ?_) (awp_sound hfol c ac _ _ _ w hc h hreps))
  obtain ⟨e', S0, rfl, ⟨S', hweak, hend, avs, ps, h1, h2, h3, h4⟩, hr⟩ := hq
  replace hr := hweak _ _ _ _ _ _ hr
  obtain ⟨σ, hM, hF, _⟩ := hr.ex
  have hrun : ∀ (vars : List ResultVar) (rs : List Res) (avs : List AV), Res.ofL P vars = some rs → Res.evL S'.tm S'.ob rs = some avs →
      ∃ us, (vars.mapM (resV a'.tmps)).run P w' = .ok us w' ∧ AV.RepL σ (imm S'.ob σ) w' avs us ∧ us.length = vars.length ∧ rs.length = vars.length := by
    intro vars
    induction vars with
    | nil =>
      intro rs avs q1 q2
      obtain rfl : [] = rs := Option.some.inj q1
      obtain rfl : [] = avs := Option.some.inj q2
      exact ⟨[], rfl, rfl, rfl, rfl⟩
    | cons v vars ih =>
      intro rs avs q1 q2
      simp only [Res.ofL] at q1
      split at q1
      · rename_i x xs p1 p2
        obtain rfl := Option.some.inj q1
        simp only [Res.evL] at q2
        split at q2
        · rename_i y ys p3 p4
          obtain rfl := Option.some.inj q2
          obtain ⟨u, r1, r2⟩ := Res.run hM hF p1 p3
          obtain ⟨us, r3, r4, r5, r6⟩ := ih _ _ p2 p4
          refine ⟨u :: us, ?_, ⟨u, us, rfl, r2, r4⟩, by simp [r5], by simp [r6]⟩
          rw [List.mapM_cons, Sem.run_bind, r1]
          simp only [Result.andThen_ok, Sem.run_bind, r3, Sem.run_pure]
        · cases q2
      · cases q1
  obtain ⟨us, u1, u2, u3, u4⟩ := hrun fn.results.toList rs avs hrs h1
  obtain ⟨vs', f1, f2, f3⟩ := parts_flat h2 u2
  obtain ⟨idl, l1, l3, l4⟩ := leafOf_rep (im := im) hM f1 f2
  have l2 := apart_ids hM l4 (by rw [l3]; exact h3)
  have hres : (results fn a'.tmps).run P w' = .ok (if fn.results.size = 1 then us.headD undef else .tuple us.toArray) w' := by
    exact results_run u1 (by rw [u3]; simp)
  have hrv : r.Rep w.heap.size im vs w' (if fn.results.size = 1 then us.headD undef else .tuple us.toArray) := by
    subst h4
    refine ⟨vs', _, l1, ⟨l2, fun ⟨c, hc⟩ => absurd hc (PartsR_frz h2 c)⟩, ?_⟩
    simp only [f3]
    have : rs.length = fn.results.size := by rw [u4]; simp
    rw [this]
    by_cases h1 : fn.results.size = 1 <;> simp [h1]
  have fin : ∃ u, (results fn a'.tmps).run P w' = .ok u w' ∧ ∃ v, Ending.returned u = .returned v ∧ Below w.heap.size w w' ∧ r.Rep w.heap.size im vs w' v := ⟨_, hres, _, rfl, hM.below, hrv⟩
  rcases hend with rfl | rfl
  · exact ⟨hr.defers, fin⟩
  · exact ⟨hr.defers, fin⟩
end
end Go.Proofs.YtefolocdfgelcaaDoor
