/- An abstract machine: whole functions; conditions: the loops' invariants. -/
import Derived.Test.YthjdknddcceigaaDoorE16
namespace Go.Proofs.YthjdknddcceigaaDoor
open Go.RowKit Go.Deep

inductive Res where
  | tmp (t : Nat)
  | cell (t : Nat) (one : Bool) (m : Nat)
def Res.of (P : Program) : ResultVar → Option Res
  | .tmp t => some (.tmp t)
  | .cell t ty => (isOne P ty).map fun x => .cell t x.1 x.2
def Res.ofL (P : Program) : List ResultVar → Option (List Res)
  | [] => some []
  | r :: rs => match Res.of P r, Res.ofL P rs with
    | some x, some xs => some (x :: xs)
    | _, _ => none
def Res.ev (f : Nat → AV) (ob : Oid → Option Ob) : Res → Option AV
  | .tmp t => some (f t)
  | .cell t one m => match f t with
    | .box i k => match ob i with
      | some (.cells _ cs) => ldCells one m k cs
      | _ => none
    | _ => none
def Res.evL (f : Nat → AV) (ob : Oid → Option Ob) : List Res → Option (List AV)
  | [] => some []
  | r :: rs => match r.ev f ob, Res.evL f ob rs with
    | some x, some xs => some (x :: xs)
    | _, _ => none

/-- A leaf of a result. -/
def leafOf (ob : Oid → Option Ob) : AV → Option RL
  | .int k n => some (.sc (.int k n))
  | .bool b => some (.sc (.bool b))
  | .str s => some (.sc (.str s))
  | .nils => some (.sc .nils)
  | .own i _ off len => match ob i with
    | some (.arr e u xs) => if off = 0 ∧ len ≤ xs.length then some (.new e u (xs.take len)) else none
    | _ => none
  | _ => none
/-- A leaf of a result: made by the call, or given to it. -/
def LeafR (vs : List Value) (ob : Oid → Option Ob) (c : AV) (l : RL) : Prop :=
  leafOf ob c = some l ∨ (∃ v t xs i k, c = .giv v t xs ∧ l = .arg i k ∧ compV vs i k = some v) ∨ ∃ e t, c = .nils ∧ l = .new e t [] ∧ t.flat = true
def LeavesR (vs : List Value) (ob : Oid → Option Ob) : List AV → List RL → Prop
  | [], ls => ls = []
  | c :: cs, ls => ∃ l ls', ls = l :: ls' ∧ LeafR vs ob c l ∧ LeavesR vs ob cs ls'
def PartsR (vs : List Value) (ob : Oid → Option Ob) : List AV → List (Bool × List RL) → Prop
  | [], ps => ps = []
  | .agg cs :: r, ps => ∃ ls ps', ps = (true, ls) :: ps' ∧ LeavesR vs ob cs ls ∧ PartsR vs ob r ps'
  | c :: r, ps => ∃ l ps', ps = (false, [l]) :: ps' ∧ LeafR vs ob c l ∧ PartsR vs ob r ps'
def idsOf : List AV → List Oid
  | [] => []
  | .own i _ _ _ :: r => i :: idsOf r
  | _ :: r => idsOf r
def flatA : List AV → List AV
  | [] => []
  | .agg cs :: r => cs ++ flatA r
  | c :: r => c :: flatA r
/-- The state ends in such a result. -/
def RetOK (vs : List Value) (rs : List Res) (S : St) (r : RV) : Prop :=
  ∃ avs ps, Res.evL S.tm S.ob rs = some avs ∧ PartsR vs S.ob avs ps ∧ (idsOf (flatA avs)).Nodup ∧ r = ⟨decide (rs.length ≠ 1), ps⟩
/-- The arguments, each slice with the mark of its value. -/
def tag1 : AV → Value → AV
  | .tree t xs, v => .giv v t xs
  | c, _ => c
def tagC : List AV → List Value → List AV
  | c :: cs, v :: vs => tag1 c v :: tagC cs vs
  | cs, _ => cs
def tagA : AV → Value → AV
  | .agg cs, .agg a => .agg (tagC cs a.toList)
  | c, v => tag1 c v
def tagL : List AV → List Value → List AV
  | c :: cs, v :: vs => tagA c v :: tagL cs vs
  | cs, _ => cs

def St.init (args : List AV) : St := ⟨fun i => args.getD i .any, fun _ => none, 1⟩
def mkTm : List (Nat × AV) → Nat → AV
  | [], _ => .any
  | (j, v) :: r, i => if i = j then v else mkTm r i
def mkOb : List (Oid × Option Ob) → Oid → Option Ob
  | [], _ => none
  | (j, o) :: r, i => if i = j then o else mkOb r i
def someL (l : List (Oid × Ob)) : List (Oid × Option Ob) := l.map fun q => (q.1, some q.2)

theorem leafOf_frz {ob : Oid → Option Ob} {c : AV} {l : RL} (h : leafOf ob c = some l) (d : AV) : l ≠ .frz d := by
  unfold leafOf at h
  (repeat' split at h) <;> first | (cases h; done) | (obtain rfl := Option.some.inj h; intro e; cases e)
theorem LeafR_frz {vs : List Value} {ob : Oid → Option Ob} {c : AV} {l : RL} (h : LeafR vs ob c l) (d : AV) : l ≠ .frz d := by
  rcases h with h | ⟨_, _, _, _, _, _, rfl, _⟩ | ⟨_, _, _, rfl, _⟩
  · exact leafOf_frz h d
  · intro e; cases e
  · intro e; cases e
theorem LeavesR_frz {vs : List Value} {ob : Oid → Option Ob} (d : AV) : ∀ {cs : List AV} {ls : List RL}, LeavesR vs ob cs ls → RL.frz d ∉ ls
  | [], ls, h => by
    obtain rfl : ls = [] := h
    simp
  | c :: cs, ls, h => by
    obtain ⟨l, ls', rfl, h1, h2⟩ := h
    intro hm
    rcases List.mem_cons.1 hm with e | hm
    · exact LeafR_frz h1 d e.symm
    · exact LeavesR_frz d h2 hm
theorem PartsR_one {vs : List Value} {ob : Oid → Option Ob} {c : AV} (hc : ¬ ∃ cs, c = .agg cs) (r : List AV) (ps : List (Bool × List RL)) : PartsR vs ob (c :: r) ps = ∃ l ps', ps = (false, [l]) :: ps' ∧ LeafR vs ob c l ∧ PartsR vs ob r ps' := by
  cases c <;> first | rfl | exact absurd ⟨_, rfl⟩ hc
theorem PartsR_frz {vs : List Value} {ob : Oid → Option Ob} : ∀ {cs : List AV} {ps : List (Bool × List RL)}, PartsR vs ob cs ps → ∀ d, RL.frz d ∉ ps.flatMap (·.2)
  | [], ps, h, d => by
    obtain rfl : ps = [] := h
    simp
  | c :: cs, ps, h, d => by
    by_cases hagg : ∃ ds, c = .agg ds
    · obtain ⟨ds, rfl⟩ := hagg
      obtain ⟨ls, qs, rfl, h1, h2⟩ := h
      rw [List.flatMap_cons, List.mem_append]
      rintro (hm | hm)
      · exact LeavesR_frz d h1 hm
      · exact PartsR_frz h2 d hm
    · rw [PartsR_one hagg] at h
      obtain ⟨l, qs, rfl, h1, h2⟩ := h
      rw [List.flatMap_cons, List.mem_append]
      rintro (hm | hm)
      · exact LeafR_frz h1 d (List.mem_singleton.1 hm).symm
      · exact PartsR_frz h2 d hm

section
variable {P : Program} {G : World → Prop} {w0 w w' : World} {ob : Oid → Option Ob} {σ : Oid → Option Loc} {K : Nat → Prop} {im : Nat → Prop}

theorem leafOf_rep {vs0 : List Value} (hM : Mem0 G w0 ob σ K w) : ∀ {cs : List AV} {ls : List RL} {us : List Value}, LeavesR vs0 ob cs ls → AV.RepL σ (imm ob σ) w cs us →
    (idsOf cs).Nodup → ∃ locs, RL.RepL w0.heap.size im vs0 w ls us locs ∧ apartL locs ∧ ∀ b c s, .at_ b c s ∈ locs → ∃ i ∈ idsOf cs, ∃ o, ob i = some o ∧ σ i = some (.at_ b c s)
  | [], ls, us, h, hr, _ => by
    obtain rfl : ls = [] := h
    exact ⟨[], ⟨hr, rfl⟩, trivial, fun b c s h => by cases h⟩
  | c :: cs, ls, us, h, ⟨u, us', e, h1, h2⟩, nd => by
    subst e
    obtain ⟨l, ls', rfl, q0, q2⟩ := h
    · have nd' : (idsOf cs).Nodup := by
        cases c <;> simp only [idsOf] at nd <;> first | exact nd | exact (List.nodup_cons.1 nd).2
      obtain ⟨locs, r1, r3, r2⟩ := leafOf_rep hM q2 h2 nd'
      have sc : ∀ {d : AV}, d.scal = true → l = .sc d → AV.Rep (fun _ => none) im w d u → (∀ i, i ∈ idsOf cs → i ∈ idsOf (c :: cs)) → ∃ locs, RL.RepL w0.heap.size im vs0 w (l :: ls') (u :: us') locs ∧ apartL locs ∧ ∀ b c' s, .at_ b c' s ∈ locs → ∃ i ∈ idsOf (c :: cs), ∃ o, ob i = some o ∧ σ i = some (.at_ b c' s) := by
        intro d hd hl hr hsub
        subst hl
        exact ⟨locs, ⟨u, us', rfl, hr, hd, r1⟩, r3, fun b c' s h => by obtain ⟨i, hi, hh⟩ := r2 b c' s h; exact ⟨i, hsub i hi, hh⟩⟩
      rcases q0 with q1 | ⟨v, t, xs, i, k, rfl, rfl, hv⟩ | ⟨e, t, rfl, rfl, hfl⟩
      rotate_left
      rotate_left
      · obtain rfl : u = .slice none 0 0 := h1
        exact ⟨.nil :: locs, ⟨.nil, locs, us', rfl, rfl, hfl, World.ownsRow_nil w w0.heap.size e t.size, fun _ _ _ h => (nomatch h), r1⟩, ⟨fun _ _ _ h => (nomatch h), r3⟩, fun b c' s h => by
          rcases List.mem_cons.1 h with h | h
          · cases h
          · obtain ⟨i, hi, hh⟩ := r2 b c' s h; exact ⟨i, by simpa [idsOf] using hi, hh⟩⟩
      rotate_left
      · obtain ⟨rfl, _⟩ := h1
        exact ⟨locs, ⟨_, us', rfl, hv, r1⟩, r3, fun b c' s h => by obtain ⟨i, hi, hh⟩ := r2 b c' s h; exact ⟨i, by simpa [idsOf] using hi, hh⟩⟩
      unfold leafOf at q1
      split at q1
      · exact sc rfl (Option.some.inj q1).symm h1 (fun i hi => by simpa [idsOf] using hi)
      · exact sc rfl (Option.some.inj q1).symm h1 (fun i hi => by simpa [idsOf] using hi)
      · exact sc rfl (Option.some.inj q1).symm h1 (fun i hi => by simpa [idsOf] using hi)
      · exact sc rfl (Option.some.inj q1).symm h1 (fun i hi => by simpa [idsOf] using hi)
      · rename_i i u0 off len
        split at q1
        · rename_i e v xs hj
          split at q1
          · rename_i hc
            obtain ⟨rfl, hle⟩ := hc
            obtain rfl := Option.some.inj q1
            have hlen : (xs.take len).length = len := by rw [List.length_take]; omega
            have hsl : ∃ l, σ i = some l ∧ u = l.val len ∧ (l = .nil → len = 0) := by
              rcases h1 with ⟨g1, _, g3, g4⟩ | ⟨b, cap, g1, _, g4⟩ | ⟨_, _, g, _⟩
              rotate_left
              rotate_left
              · exact absurd rfl g
              · exact ⟨.nil, g1, g4, fun _ => g3⟩
              · exact ⟨.at_ b cap u0.size, g1, by simpa [Loc.val] using g4, fun h => by cases h⟩
            obtain ⟨l, g1, g2, g3⟩ := hsl
            obtain ⟨hfl, hown, hs⟩ := hM.obs i _ _ hj g1
            have hown' := own_take hfl hown hle g3
            refine ⟨l :: locs, ⟨l, locs, us', by rw [hlen, g2], rfl, hfl, by rw [hlen]; exact hown', hs, r1⟩, ⟨fun b c' s e c2 s2 hin => ?_, r3⟩, fun b c' s h => ?_⟩
            · obtain ⟨j, hj1, o, hj2, hj3⟩ := r2 b c2 s2 hin
              subst e
              have := hM.inj i j b c' s c2 s2 _ o hj hj2 g1 hj3
              subst this
              simp only [idsOf, List.nodup_cons] at nd
              exact nd.1 hj1
            rcases List.mem_cons.1 h with rfl | h
            · exact ⟨i, by simp [idsOf], _, hj, g1⟩
            · obtain ⟨j, hj', hh⟩ := r2 b c' s h
              exact ⟨j, by simp [idsOf, hj'], hh⟩
          · cases q1
        · cases q1
      · cases q1

theorem parts_flat {vs0 : List Value} : ∀ {avs : List AV} {ps : List (Bool × List RL)} {us : List Value}, PartsR vs0 ob avs ps → AV.RepL σ im w avs us →
    ∃ vs, LeavesR vs0 ob (flatA avs) (ps.flatMap (·.2)) ∧ AV.RepL σ im w (flatA avs) vs ∧ partsV ps vs = us
  | [], ps, us, h, hr => by
    obtain rfl : ps = [] := h
    exact ⟨[], rfl, rfl, hr.symm⟩
  | c :: r, ps, us, h, ⟨u, us', e, h1, h2⟩ => by
    subst e
    have app : ∀ (xs ys : List AV) (l m : List RL), LeavesR vs0 ob xs l → LeavesR vs0 ob ys m → LeavesR vs0 ob (xs ++ ys) (l ++ m) := by
      intro xs
      induction xs with
      | nil => intro ys l m hl hm; obtain rfl : l = [] := hl; simpa using hm
      | cons x xs ih =>
        rintro ys l m ⟨a, b, rfl, q1, q2⟩ hm
        exact ⟨a, b ++ m, rfl, q1, ih ys _ _ q2 hm⟩
    have len : ∀ (xs : List AV) (l : List RL), LeavesR vs0 ob xs l → l.length = xs.length := by
      intro xs
      induction xs with
      | nil => intro l hl; obtain rfl : l = [] := hl; rfl
      | cons x xs ih =>
        rintro l ⟨a, b, rfl, q1, q2⟩
        simp [ih _ q2]
    by_cases hagg : ∃ cs, c = .agg cs
    · obtain ⟨cs, rfl⟩ := hagg
      obtain ⟨ls, ps', rfl, q1, q2⟩ := h
      obtain ⟨vs, r1, r2, r3⟩ := parts_flat q2 h2
      obtain ⟨ws, e1, e2⟩ := h1
      have hwl : ls.length = ws.length := by rw [len _ _ q1, e2.length]
      refine ⟨ws ++ vs, ?_, e2.append r2, ?_⟩
      · simp only [flatA, List.flatMap_cons]
        exact app _ _ _ _ q1 r1
      · simp only [partsV, if_true]
        rw [List.take_left' hwl.symm, List.drop_left' hwl.symm, r3, e1]
    · rw [PartsR_one hagg] at h
      obtain ⟨l, ps', rfl, q1, q2⟩ := h
      have hf : flatA (c :: r) = c :: flatA r := by
        cases c <;> first | rfl | exact absurd ⟨_, rfl⟩ hagg
      obtain ⟨vs, r1, r2, r3⟩ := parts_flat q2 h2
      refine ⟨u :: vs, ?_, ?_, ?_⟩
      · rw [hf]; exact ⟨l, _, rfl, q1, r1⟩
      · rw [hf]; exact ⟨u, vs, rfl, h1, r2⟩
      · simp [partsV, r3]

theorem tag1_rep {c : AV} {v : Value} (h : AV.Rep σ im w c v) : AV.Rep σ im w (tag1 c v) v := by
  unfold tag1
  split
  · exact ⟨rfl, h⟩
  · exact h
theorem tagC_rep : ∀ {cs : List AV} {vs : List Value}, AV.RepL σ im w cs vs → AV.RepL σ im w (tagC cs vs) vs
  | [], _, h => by simpa [tagC] using h
  | c :: cs, _, ⟨u, us, e, h1, h2⟩ => by subst e; exact ⟨u, us, rfl, tag1_rep h1, tagC_rep h2⟩
theorem tagA_rep {c : AV} {v : Value} (h : AV.Rep σ im w c v) : AV.Rep σ im w (tagA c v) v := by
  unfold tagA
  split
  · obtain ⟨vs, e, hl⟩ := h
    cases e
    exact ⟨vs, rfl, by simpa using tagC_rep hl⟩
  · exact tag1_rep h
theorem tagL_rep : ∀ {cs : List AV} {vs : List Value}, AV.RepL σ im w cs vs → AV.RepL σ im w (tagL cs vs) vs
  | [], _, h => by simpa [tagL] using h
  | c :: cs, _, ⟨u, us, e, h1, h2⟩ => by subst e; exact ⟨u, us, rfl, tagA_rep h1, tagL_rep h2⟩

def resV (tmps : Array Value) : ResultVar → Sem Value
  | .tmp t => pure (tmps.getD t undef)
  | .cell a t => do loadVar t (← asAddr (tmps.getD a undef))
theorem results_run {fn : Func} {tmps : Array Value} {us : List Value} (h : (fn.results.toList.mapM (resV tmps)).run P w = .ok us w) (hl : us.length = fn.results.size) :
    (results fn tmps).run P w = .ok (if fn.results.size = 1 then us.headD undef else .tuple us.toArray) w := by
  have e : results fn tmps = (do let vs ← fn.results.mapM (resV tmps); pure (if h : vs.size = 1 then vs[0] else .tuple vs)) := rfl
  rw [e, Array.mapM_eq_mapM_toList]
  simp only [Sem.run_bind, Sem.run_map, h, Result.andThen_ok, Sem.run_pure]
  by_cases h1 : fn.results.size = 1
  · have : us.toArray.size = 1 := by simp [hl, h1]
    rw [dif_pos this, if_pos h1]
    cases us with
    | nil => simp at this
    | cons u us => rfl
  · rw [dif_neg (by simp [hl, h1]), if_neg h1]

theorem Res.run {f : Nat → AV} {a : Act} (hM : Mem0 G w0 ob σ K w) (hF : TmRep σ (imm ob σ) w f a) {r : ResultVar} {x : Res} {c : AV} (h : Res.of P r = some x) (he : x.ev f ob = some c) :
    ∃ u, (resV a.tmps r).run P w = .ok u w ∧ AV.Rep σ (imm ob σ) w c u := by
  cases r with
  | tmp t =>
    obtain rfl := Option.some.inj h
    obtain rfl := Option.some.inj he
    exact ⟨_, rfl, hF t⟩
  | cell t ty =>
    obtain ⟨⟨one, m⟩, h1, rfl⟩ := Option.map_eq_some_iff.1 h
    simp only [Res.ev] at he
    split at he
    · rename_i i k hb
      have hv := hF t
      rw [hb] at hv
      obtain ⟨b, cap, sz, e1, e2⟩ := hv
      split at he
      · rename_i ty' cs hj
        obtain ⟨vs, g1, g2, _⟩ := hM.obs i _ _ hj e1
        obtain ⟨u, hu, hr⟩ := ld_rep (P := P) (w := w) (σ := σ) (im := imm ob σ) (ad := ⟨b, k, none⟩) h1 he (fun j d hd => by
          obtain ⟨u, hu, hr⟩ := g2.get hd
          refine ⟨u, ?_, hr⟩
          rw [add_mk]
          simp only [World.cell?, g1]
          simpa using hu)
        refine ⟨u, ?_, hr⟩
        simp only [Instr.loadAt, Instr.sureAddr, Sem.run_bind, Sem.run_pure, Result.andThen_ok] at hu
        simp [resV, e2, asAddr, hu]
      · cases he
    · cases he

theorem LeafR.wide {vs : List Value} {ob : Oid → Option Ob} {c : AV} {l : RL} (h : LeafR [] ob c l) : LeafR vs ob c l := by
  rcases h with h | ⟨_, _, _, i, k, _, _, hv⟩ | h
  · exact .inl h
  · cases k <;> simp [compV] at hv
  · exact .inr (.inr h)
theorem LeavesR.wide {vs : List Value} {ob : Oid → Option Ob} : ∀ {cs : List AV} {ls : List RL}, LeavesR [] ob cs ls → LeavesR vs ob cs ls
  | [], _, h => h
  | _ :: _, _, ⟨l, ls', e, h1, h2⟩ => ⟨l, ls', e, h1.wide, h2.wide⟩
theorem PartsR.wide {vs : List Value} {ob : Oid → Option Ob} : ∀ {cs : List AV} {ps : List (Bool × List RL)}, PartsR [] ob cs ps → PartsR vs ob cs ps
  | [], _, h => h
  | c :: cs, ps, h => by
    by_cases hagg : ∃ ds, c = .agg ds
    · obtain ⟨ds, rfl⟩ := hagg
      obtain ⟨ls, qs, e, h1, h2⟩ := h
      exact ⟨ls, qs, e, h1.wide, h2.wide⟩
    · rw [PartsR_one hagg] at h ⊢
      obtain ⟨l, qs, e, h1, h2⟩ := h
      exact ⟨l, qs, e, h1.wide, h2.wide⟩
theorem RetOK.wide {vs : List Value} {rs : List Res} {S : St} {r : RV} (h : RetOK [] rs S r) : RetOK vs rs S r := by
  obtain ⟨avs, ps, h1, h2, h3, h4⟩ := h
  exact ⟨avs, ps, h1, h2.wide, h3, h4⟩
theorem tagL_length : ∀ (cs : List AV) (vs : List Value), (tagL cs vs).length = cs.length
  | [], _ => by simp [tagL]
  | _ :: _, [] => by simp [tagL]
  | _ :: cs, _ :: vs => by simp [tagL, tagL_length cs vs]

/-- A function's contract from its code. -/
theorem call_ok [IsP P] (hfol : P.follows .mixedOrders = true) {g : FuncId} {fn : Func} {c : Code} {ac : AC} {rs : List Res} {args : List AV} {r : RV} (hf : P.funcs[g]? = some fn) (hb : fn.body = some c) (hc : AC.of P fn.ntmps c = some ac) (hrs : Res.ofL P fn.results.toList = some rs)
    (hn : args.length ≤ fn.ntmps) (h : ∀ (im : Nat → Prop) (w : World) (vs : List Value), AV.RepL (fun _ => none) im w args vs → ∃ args', args'.length = args.length ∧ AV.RepL (fun _ => none) im w args' vs ∧ awp P G ac (fun e S => ∃ S', Weak S S' ∧ (e = .normal ∨ e = .ret) ∧ RetOK vs rs S' r) (St.init args')) : CallOK P G g args r := by
  intro w im vs hG hargs0
  obtain ⟨args', hlen', hargs, h⟩ := h im w vs hargs0
  rw [← hlen'] at hn
  clear hargs0
  revert hn hargs h
  generalize args' = args
  intro hn hargs h
  have hlen : vs.length = args.length := hargs.length
  have hany : ∀ (cs : List AV) (us : List Value), AV.RepL (fun _ => none) im w cs us → AV.RepL (fun _ => none) (imm (fun _ => none) (fun _ => none)) w cs us := fun cs us h' =>
    AV.RepL.later ⟨fun _ _ h => h, (fun _ _ _ _ _ _ _ h => by cases h), fun _ _ _ => rfl, Nat.le_refl _⟩ cs us h'
  have hreps : Reps G w ⟨fun _ => none, fun _ => False, w, fun _ _ h => (nomatch h)⟩ fn.ntmps (St.init args) { tmps := vs.toArray ++ Array.replicate (fn.ntmps - vs.toArray.size) undef, defers := [] } w := by
    refine ⟨⟨fun _ => none, ⟨Below.refl _ _, hG, (fun _ _ h => by cases h), (fun _ _ _ _ h => by cases h), (fun _ _ _ _ h => by cases h), (fun _ _ _ _ _ _ _ _ _ h => by cases h), (fun _ _ _ h => by cases h)⟩, fun t => ?_, ⟨fun _ _ h => h, fun _ _ h => h.elim, fun _ _ h => h.elim, Nat.le_refl _⟩⟩, by simp; omega, rfl, fun i h => absurd rfl h⟩
    simp only [St.init, List.getD_eq_getElem?_getD]
    cases ht : args[t]? with
    | none => trivial
    | some c =>
      obtain ⟨v, hv, hr⟩ := (hany _ _ hargs).get ht
      have hlt : t < vs.length := (List.getElem?_eq_some_iff.1 hv).1
      have e : (vs.toArray ++ Array.replicate (fn.ntmps - vs.toArray.size) undef).getD t undef = v := by
        rw [Array.getD_eq_getD_getElem?, Array.getElem?_append_left (by simpa using hlt)]
        simp [hv]
      rw [e]
      exact hr
  refine calls_of_wp hf hb (Code.wp_mono (fun e a' w' hq => ?_) (awp_sound hfol c ac _ _ _ w hc h hreps))
  obtain ⟨e', S0, rfl, ⟨S', hweak, hend, avs, ps, h1, h2, h3, h4⟩, hr⟩ := hq
  replace hr := hweak _ _ _ _ _ _ hr
  obtain ⟨σ, hM, hF, _⟩ := hr.ex
  have hrun : ∀ (vars : List ResultVar) (rs : List Res) (avs : List AV), Res.ofL P vars = some rs → Res.evL S'.tm S'.ob rs = some avs →
      ∃ us, (vars.mapM (resV a'.tmps)).run P w' = .ok us w' ∧ AV.RepL σ (imm S'.ob σ) w' avs us ∧ us.length = vars.length ∧ rs.length = vars.length := by
    intro vars
    induction vars with
    | nil =>
      intro rs avs q1 q2
      obtain rfl : [] = rs := Option.some.inj q1
      obtain rfl : [] = avs := Option.some.inj q2
      exact ⟨[], rfl, rfl, rfl, rfl⟩
    | cons v vars ih =>
      intro rs avs q1 q2
      simp only [Res.ofL] at q1
      split at q1
      · rename_i x xs p1 p2
        obtain rfl := Option.some.inj q1
        simp only [Res.evL] at q2
        split at q2
        · rename_i y ys p3 p4
          obtain rfl := Option.some.inj q2
          obtain ⟨u, r1, r2⟩ := Res.run hM hF p1 p3
          obtain ⟨us, r3, r4, r5, r6⟩ := ih _ _ p2 p4
          refine ⟨u :: us, ?_, ⟨u, us, rfl, r2, r4⟩, by simp [r5], by simp [r6]⟩
          rw [List.mapM_cons, Sem.run_bind, r1]
          simp only [Result.andThen_ok, Sem.run_bind, r3, Sem.run_pure]
        · cases q2
      · cases q1
  obtain ⟨us, u1, u2, u3, u4⟩ := hrun fn.results.toList rs avs hrs h1
  obtain ⟨vs', f1, f2, f3⟩ := parts_flat h2 u2
  obtain ⟨locs, l1, l2, _⟩ := leafOf_rep (im := im) hM f1 f2 h3
  have hres : (results fn a'.tmps).run P w' = .ok (if fn.results.size = 1 then us.headD undef else .tuple us.toArray) w' := by
    exact results_run u1 (by rw [u3]; simp)
  have hrv : r.Rep w.heap.size im vs w' (if fn.results.size = 1 then us.headD undef else .tuple us.toArray) := by
    subst h4
    refine ⟨vs', locs, l1, ⟨l2, fun ⟨c, hc⟩ => absurd hc (PartsR_frz h2 c)⟩, ?_⟩
    simp only [f3]
    have : rs.length = fn.results.size := by rw [u4]; simp
    rw [this]
    by_cases h1 : fn.results.size = 1 <;> simp [h1]
  have fin : ∃ u, (results fn a'.tmps).run P w' = .ok u w' ∧ ∃ v, Ending.returned u = .returned v ∧ Below w.heap.size w w' ∧ r.Rep w.heap.size im vs w' v := ⟨_, hres, _, rfl, hM.below, hrv⟩
  rcases hend with rfl | rfl
  · exact ⟨hr.defers, fin⟩
  · exact ⟨hr.defers, fin⟩
mutual
/-- Does a value speak of no objects but these? -/
def AV.clo (D : List Oid) : AV → Bool
  | .own i _ _ _ => D.contains i
  | .box i _ => D.contains i
  | .elt i _ _ => D.contains i
  | .mp i => D.contains i
  | .agg cs => AV.cloL D cs
  | .tup cs => AV.cloL D cs
  | .fn _ cs => AV.cloL D cs
  | .ref cs => AV.cloL D cs
  | _ => true
def AV.cloL (D : List Oid) : List AV → Bool
  | [] => true
  | c :: cs => AV.clo D c && AV.cloL D cs
end
def Ob.clo (D : List Oid) : Ob → Bool
  | .cells _ cs => AV.cloL D cs
  | .arr .. => true
  | .map .. => true
mutual
/-- Names are given anew. -/
theorem ren_rep {D : List Oid} {θ : Oid → Oid} {σ σ' : Oid → Option Loc} {im im' : Nat → Prop} (hσ : ∀ i ∈ D, σ' i = σ (θ i)) (hi : ∀ b, im b → im' b) : ∀ (c : AV) (v : Value), c.clo D = true → AV.Rep σ im w (c.ren θ) v → AV.Rep σ' im' w c v
  | .any, _, _, _ => trivial
  | .int _ _, _, _, h => h
  | .bool _, _, _, h => h
  | .str _, _, _, h => h
  | .nils, _, _, h => h
  | .abool _ _, _, _, h => h
  | .tree _ _, _, _, ⟨A, c, l, e, hs⟩ => ⟨A, c, l, e, sl_mono (fun b _ hb => hi b hb) hs⟩
  | .giv _ _ _, _, _, ⟨h0, A, c, l, e, hs⟩ => ⟨h0, A, c, l, e, sl_mono (fun b _ hb => hi b hb) hs⟩
  | .own i t off len, _, hc, h => by
    have e := hσ i (List.contains_iff_mem.1 hc)
    rcases h with ⟨g, q⟩ | ⟨b, cap, g, q⟩ | ⟨lc, g, q⟩
    · exact .inl ⟨e.trans g, q⟩
    · exact .inr (.inl ⟨b, cap, e.trans g, q⟩)
    · exact .inr (.inr ⟨lc, e.trans g, q⟩)
  | .box i k, _, hc, ⟨b, cap, sz, g, e⟩ => ⟨b, cap, sz, (hσ i (List.contains_iff_mem.1 hc)).trans g, e⟩
  | .elt i _ _, _, hc, ⟨b, cap, sz, g, e⟩ => ⟨b, cap, sz, (hσ i (List.contains_iff_mem.1 hc)).trans g, e⟩
  | .mp i, _, hc, ⟨b, cap, sz, g, e⟩ => ⟨b, cap, sz, (hσ i (List.contains_iff_mem.1 hc)).trans g, e⟩
  | .mtree _ _ _, _, _, ⟨b, e, h1, h2⟩ => ⟨b, e, hi _ h1, h2⟩
  | .telt _ _ _, _, _, ⟨a, l, e, hm, hb⟩ => ⟨a, l, e, hm.mono fun b _ hb => hi b hb, hi _ hb⟩
  | .agg cs, _, hc, ⟨vs, e, h⟩ => ⟨vs, e, ren_repL hσ hi cs vs hc h⟩
  | .tup cs, _, hc, ⟨vs, e, h⟩ => ⟨vs, e, ren_repL hσ hi cs vs hc h⟩
  | .fn _ cs, _, hc, ⟨vs, e, h⟩ => ⟨vs, e, ren_repL hσ hi cs vs hc h⟩
  | .ref cs, _, hc, ⟨b, k, vs, e, hb, hcl, h⟩ => ⟨b, k, vs, e, ⟨hb.1, hi _ hb.2⟩, hcl, ren_repL hσ hi cs vs hc h⟩
theorem ren_repL {D : List Oid} {θ : Oid → Oid} {σ σ' : Oid → Option Loc} {im im' : Nat → Prop} (hσ : ∀ i ∈ D, σ' i = σ (θ i)) (hi : ∀ b, im b → im' b) : ∀ (cs : List AV) (vs : List Value), AV.cloL D cs = true → AV.RepL σ im w (AV.renL θ cs) vs → AV.RepL σ' im' w cs vs
  | [], _, _, h => h
  | c :: cs, _, hc, ⟨u, us, e, h1, h2⟩ => by
    simp only [AV.cloL, Bool.and_eq_true] at hc
    exact ⟨u, us, e, ren_rep hσ hi c u hc.1 h1, ren_repL hσ hi cs us hc.2 h2⟩
end
theorem mkOb_mem {i : Oid} {o : Ob} : ∀ {ol : List (Oid × Ob)}, mkOb (someL ol) i = some o → (i, o) ∈ ol
  | [], h => by cases h
  | (j, x) :: r, h => by
    simp only [someL, List.map_cons, mkOb] at h
    split at h
    · rename_i e; subst e; obtain rfl := Option.some.inj h; simp
    · exact List.mem_cons_of_mem _ (mkOb_mem h)
theorem mkOb_get {i : Oid} {o : Ob} : ∀ {ol : List (Oid × Ob)}, (ol.map (·.1)).Nodup → (i, o) ∈ ol → mkOb (someL ol) i = some o
  | [], _, h => by cases h
  | (j, x) :: r, nd, h => by
    simp only [List.map_cons, List.nodup_cons] at nd
    simp only [someL, List.map_cons, mkOb]
    rcases List.mem_cons.1 h with e | h
    · cases e; rw [if_pos rfl]
    · rw [if_neg (fun e => nd.1 (List.mem_map.2 ⟨(i, o), h, e⟩))]
      exact mkOb_get nd.2 h
theorem inj_of_nd {α β : Type} {f : α → β} : ∀ {l : List α}, (l.map f).Nodup → ∀ {x y : α}, x ∈ l → y ∈ l → f x = f y → x = y
  | [], _, _, _, h, _, _ => by cases h
  | a :: r, nd, x, y, hx, hy, e => by
    simp only [List.map_cons, List.nodup_cons] at nd
    rcases List.mem_cons.1 hx with h1 | h1
    · rcases List.mem_cons.1 hy with h2 | h2
      · rw [h1, h2]
      · exact absurd (List.mem_map.2 ⟨y, h2, by rw [← e, h1]⟩) nd.1
    · rcases List.mem_cons.1 hy with h2 | h2
      · exact absurd (List.mem_map.2 ⟨x, h1, by rw [e, h2]⟩) nd.1
      · exact inj_of_nd nd.2 h1 h2 e
/-- A function's contract from its code: it changes rows of the caller's. -/
theorem callM_ok [IsP P] (hfol : P.follows .mixedOrders = true) {g : FuncId} {fn : Func} {c : Code} {ac : AC} {rs : List Res} {args : List AV} {ol us : List (Oid × Ob)} {v : AV} (hf : P.funcs[g]? = some fn) (hb : fn.body = some c) (hc : AC.of P fn.ntmps c = some ac) (hrs : Res.ofL P fn.results.toList = some rs)
    (hn : args.length ≤ fn.ntmps) (hz : ∀ q ∈ ol, q.1.2 = 0 ∧ q.2.isArr = true) (hnd : (ol.map (·.1)).Nodup) (hus : us.map (·.1) = ol.map (·.1)) (hua : ∀ q ∈ us, q.2.isArr = true) (hcl : AV.cloL (ol.map (·.1)) args = true) (hv : v.scal = true ∨ v = .tup [])
    (h : awp P G ac (fun e S => ∃ S', Weak S S' ∧ (e = .normal ∨ e = .ret) ∧ Res.evL S'.tm S'.ob rs = some (if v.scal then [v] else []) ∧ ∀ q ∈ us, S'.ob q.1 = some q.2) ⟨fun i => args.getD i .any, mkOb (someL ol), 1⟩) : CallM P G g args ol v us := by
  intro θ w0 ob σ K w vs hM hol hθ hargs
  have hlen : vs.length = args.length := by
    rw [hargs.length]
    have : ∀ cs : List AV, (AV.renL θ cs).length = cs.length := by
      intro cs; induction cs with
      | nil => rfl
      | cons c cs ih => simp [AV.renL, ih]
    exact this args
  let D := ol.map (·.1)
  let σ0 : Oid → Option Loc := fun i => if i ∈ D then σ (θ i) else none
  have hσ0 : ∀ i ∈ D, σ0 i = σ (θ i) := fun i hi => if_pos hi
  have hσ1 : ∀ i l, σ0 i = some l → i ∈ D ∧ σ (θ i) = some l := by
    intro i l hi
    simp only [σ0] at hi
    split at hi
    · exact ⟨by assumption, hi⟩
    · cases hi
  have hmem : ∀ i ∈ D, ∃ o, (i, o) ∈ ol ∧ mkOb (someL ol) i = some o ∧ ob (θ i) = some o ∧ i.2 = 0 ∧ o.isArr = true := by
    intro i hi
    obtain ⟨q, hq, rfl⟩ := List.mem_map.1 hi
    exact ⟨q.2, hq, mkOb_get hnd hq, hol q hq, (hz q hq).1, (hz q hq).2⟩
  have him : ∀ b, imm ob σ b → imm (mkOb (someL ol)) σ0 b := by
    intro b hb i o cp s ho hs
    obtain ⟨hi, hs⟩ := hσ1 i _ hs
    obtain ⟨o', _, _, h2, _⟩ := hmem i hi
    exact hb (θ i) o' cp s h2 hs
  have hM0 : Mem0 G w0 (mkOb (someL ol)) σ0 (· < 1) w := by
    refine ⟨hM.below, hM.inv, fun i l hi => ?_, fun i b cp s hi => hM.lt _ b cp s (hσ1 i _ hi).2, fun i b cp s hi => hM.cap _ b cp s (hσ1 i _ hi).2, fun i j b cp s cp' s' o o' hi hj h1 h2 => ?_, fun i o l ho hl => ?_⟩
    · obtain ⟨_, _, _, _, h0, _⟩ := hmem i (hσ1 i l hi).1
      show i.2 < 1
      omega
    · obtain ⟨d1, h1⟩ := hσ1 i _ h1
      obtain ⟨d2, h2⟩ := hσ1 j _ h2
      obtain ⟨x1, q1, _, r1, _⟩ := hmem i d1
      obtain ⟨x2, q2, _, r2, _⟩ := hmem j d2
      have := hM.inj (θ i) (θ j) b cp s cp' s' x1 x2 r1 r2 h1 h2
      exact congrArg Prod.fst (inj_of_nd (f := fun q : Oid × Ob => θ q.1) hθ q1 q2 this)
    · obtain ⟨d, hs⟩ := hσ1 i l hl
      obtain ⟨x, _, q, r, _, ha⟩ := hmem i d
      rw [ho] at q
      obtain rfl := Option.some.inj q
      have := hM.obs (θ i) o l r hs
      cases o with
      | arr e t xs => exact this
      | cells _ _ => cases ha
      | map _ _ _ => cases ha
  have hreps : Reps G w0 ⟨σ0, imm (mkOb (someL ol)) σ0, w, fun i l hi => by obtain ⟨_, _, _, _, h0, _⟩ := hmem i (hσ1 i l hi).1; exact h0⟩ fn.ntmps ⟨fun i => args.getD i .any, mkOb (someL ol), 1⟩ { tmps := vs.toArray ++ Array.replicate (fn.ntmps - vs.toArray.size) undef, defers := [] } w := by
    refine ⟨⟨σ0, hM0, fun t => ?_, Later.refl _ _ _⟩, by simp; omega, rfl, fun i h => ?_⟩
    · simp only [List.getD_eq_getElem?_getD]
      cases ht : args[t]? with
      | none => trivial
      | some c =>
        have hrep := ren_repL hσ0 him args vs hcl hargs
        obtain ⟨v, hv, hr⟩ := hrep.get ht
        have hlt : t < vs.length := (List.getElem?_eq_some_iff.1 hv).1
        have e : (vs.toArray ++ Array.replicate (fn.ntmps - vs.toArray.size) undef).getD t undef = v := by
          rw [Array.getD_eq_getD_getElem?, Array.getElem?_append_left (by simpa using hlt)]
          simp [hv]
        rw [e]
        exact hr
    · cases ho : mkOb (someL ol) i with
      | none => exact absurd ho h
      | some o =>
        have := (hz _ (mkOb_mem ho)).1
        show i.2 < 1
        simp only at this; omega
  refine calls_of_wp hf hb (Code.wp_mono (fun e a' w' hq => ?_) (awp_sound hfol c ac _ _ _ w hc h hreps))
  obtain ⟨e', S0, rfl, ⟨S', hweak, hend, h1, h2⟩, hr⟩ := hq
  replace hr := hweak _ _ _ _ _ _ hr
  obtain ⟨σ2, hM2, hF, hL⟩ := hr.ex
  have hrl : ∃ u, (results fn a'.tmps).run P w' = .ok u w' ∧ AV.Rep σ2 (imm S'.ob σ2) w' v u := by
    rcases hv with hv | hv
    rotate_left
    · subst hv
      have h1' : Res.evL S'.tm S'.ob rs = some [] := h1
      cases rs with
      | cons x xs =>
        simp only [Res.evL] at h1'
        split at h1' <;> cases h1'
      | nil =>
        have hz : fn.results.toList = [] := by
          cases hl : fn.results.toList with
          | nil => rfl
          | cons z zs =>
            rw [hl] at hrs
            simp only [Res.ofL] at hrs
            split at hrs <;> cases hrs
        have hs0 : fn.results.size = 0 := by rw [← Array.length_toList, hz]; rfl
        refine ⟨.tuple #[], ?_, [], rfl, rfl⟩
        have hrun : (fn.results.toList.mapM (resV a'.tmps)).run P w' = .ok [] w' := by rw [hz]; rfl
        have := results_run (us := []) hrun (by simp [hs0])
        rw [this, if_neg (by omega)]
    rw [if_pos hv] at h1
    cases rs with
    | nil => simp [Res.evL] at h1
    | cons x xs =>
      cases hl : fn.results.toList with
      | nil => rw [hl] at hrs; cases hrs
      | cons z zs =>
        rw [hl] at hrs
        simp only [Res.ofL] at hrs
        split at hrs
        · rename_i x' xs' p1 p2
          obtain ⟨rfl, rfl⟩ := List.cons.inj (Option.some.inj hrs)
          simp only [Res.evL] at h1
          split at h1
          · rename_i y ys p3 p4
            obtain ⟨rfl, rfl⟩ := List.cons.inj (Option.some.inj h1)
            have hz : zs = [] := by
              cases zs with
              | nil => rfl
              | cons z2 zs =>
                simp only [Res.ofL] at p2
                split at p2
                · obtain rfl := Option.some.inj p2
                  simp only [Res.evL] at p4
                  split at p4 <;> cases p4
                · cases p2
            subst hz
            obtain ⟨u, r1, r2⟩ := Res.run hM2 hF p1 p3
            have hs1 : fn.results.size = 1 := by rw [← Array.length_toList, hl]; rfl
            refine ⟨u, ?_, r2⟩
            have hrun : (fn.results.toList.mapM (resV a'.tmps)).run P w' = .ok [u] w' := by
              rw [hl, List.mapM_cons, Sem.run_bind, r1]
              simp
            have := results_run (us := [u]) hrun (by simp [hs1])
            rw [this, if_pos hs1]; rfl
          · cases h1
        · cases hrs
  obtain ⟨u, hrun, hu⟩ := hrl
  -- what stays of the caller's
  have hap : ∀ i, (∃ j ∈ D, θ j = i) ∨ (applyU (us.map fun q => (θ q.1, some q.2)) ob i = ob i ∧ ∀ j ∈ D, θ j ≠ i) := by
    intro i
    by_cases hex : ∃ j ∈ D, θ j = i
    · exact .inl hex
    · refine .inr ⟨applyU_none fun x hx e => ?_, fun j hj e => hex ⟨j, hj, e⟩⟩
      obtain ⟨q, hq, rfl⟩ := List.mem_map.1 hx
      exact hex ⟨q.1, by show q.1 ∈ ol.map (·.1); rw [← hus]; exact List.mem_map.2 ⟨q, hq, rfl⟩, e⟩
  have hnu : (us.map fun q => θ q.1).Nodup := by
    have e1 : (us.map fun q => θ q.1) = (us.map (·.1)).map θ := by rw [List.map_map]; rfl
    have e2 : (ol.map fun q => θ q.1) = (ol.map (·.1)).map θ := by rw [List.map_map]; rfl
    rw [e1, hus, ← e2]; exact hθ
  have hat : ∀ q ∈ us, applyU (us.map fun q => (θ q.1, some q.2)) ob (θ q.1) = some q.2 := by
    intro q hq
    have := fold_mem (fun x : Oid × Ob => some x.2) (fun x => θ x.1) us ob q (by exact hnu) hq
    rw [← this]
    clear this
    unfold applyU
    rw [List.foldl_map]
  have hapD : ∀ j ∈ D, ∃ q ∈ us, q.1 = j ∧ applyU (us.map fun q => (θ q.1, some q.2)) ob (θ j) = some q.2 := by
    intro j hj
    have : j ∈ us.map (·.1) := by rw [hus]; exact hj
    obtain ⟨q, hq, rfl⟩ := List.mem_map.1 this
    exact ⟨q, hq, rfl, hat q hq⟩
  have hsome : ∀ i o, applyU (us.map fun q => (θ q.1, some q.2)) ob i = some o → ∃ o', ob i = some o' := by
    intro i o ho
    rcases hap i with ⟨j, hj, rfl⟩ | ⟨e, _⟩
    · obtain ⟨o', _, _, h, _⟩ := hmem j hj
      exact ⟨o', h⟩
    · rw [e] at ho; exact ⟨o, ho⟩
  have him1 : ∀ b, imm ob σ b → imm (applyU (us.map fun q => (θ q.1, some q.2)) ob) σ b := by
    intro b hb i o cp s ho hs
    obtain ⟨o', ho'⟩ := hsome i o ho
    exact hb i o' cp s ho' hs
  have hLL : Later σ σ (imm ob σ) (imm (applyU (us.map fun q => (θ q.1, some q.2)) ob) σ) w w' := ⟨fun _ _ h => h, fun b _ hb => him1 b hb, fun b hlt hb => hL.blk b hlt (him b hb), hL.size⟩
  have fin : Goes G w0 (applyU (us.map fun q => (θ q.1, some q.2)) ob) K σ (imm ob σ) w v u w' := by
    refine ⟨σ, hLL, ⟨hM2.below, hM.inv, hM.gen, fun i b cp s hi => ⟨(hM.lt i b cp s hi).1, Nat.lt_of_lt_of_le (hM.lt i b cp s hi).2 hL.size⟩, hM.cap, fun i j b cp s cp' s' o o' hi hj h1 h2 => ?_, fun i o l ho hl => ?_⟩, ?_⟩
    · obtain ⟨o1, k1⟩ := hsome i o hi
      obtain ⟨o2, k2⟩ := hsome j o' hj
      exact hM.inj i j b cp s cp' s' o1 o2 k1 k2 h1 h2
    · rcases hap i with ⟨j, hj, rfl⟩ | ⟨e, hne⟩
      · obtain ⟨q, hq, rfl, e⟩ := hapD j hj
        rw [e] at ho
        obtain rfl := Option.some.inj ho
        have := hM2.obs q.1 q.2 l (h2 q hq) (hL.loc _ _ (show σ0 q.1 = some l by rw [hσ0 _ hj]; exact hl))
        have ha := hua q hq
        cases hq2 : q.2 with
        | arr e t xs => rw [hq2] at this; exact this
        | cells _ _ => rw [hq2] at ha; cases ha
        | map _ _ _ => rw [hq2] at ha; cases ha
      · rw [e] at ho
        refine (hM.obs i o l ho hl).later hLL fun b cp s el => ?_
        subst el
        refine hL.blk b (hM.lt i b cp s hl).2 fun j o' cp' s' ho' hs' => ?_
        obtain ⟨d, hs'⟩ := hσ1 j _ hs'
        obtain ⟨o2, _, _, h, _⟩ := hmem j d
        exact hne j d (hM.inj (θ j) i b cp' s' cp s o2 o h ho hs' hl)
    · rcases hv with hv | hv
      · cases v <;> first | exact hu | cases hv
      · subst hv; exact hu
  rcases hend with rfl | rfl
  · exact ⟨hr.defers, u, hrun, u, rfl, fin⟩
  · exact ⟨hr.defers, u, hrun, u, rfl, fin⟩
end
end Go.Proofs.YthjdknddcceigaaDoor
