/- An abstract machine: states by lists, and how knowledge is given up at a loop's head; no condition. -/
import Derived.Test.YthjdknddcceigaaDoorE17
namespace Go.Proofs.YthjdknddcceigaaDoor
open Go.RowKit Go.Deep

theorem Weak.refl (S : St) : Weak S S := fun _ _ _ _ _ _ h => h
theorem Weak.trans {S S' S'' : St} (h : Weak S S') (k : Weak S' S'') : Weak S S'' := fun G w0 B N a w hr => k G w0 B N a w (h G w0 B N a w hr)
/-- A nil slice is a slice without elements that nobody changes. -/
theorem weak_nilT {S : St} (s : Nat) (t : Ty) (hs : S.tm s = .nils) : Weak S ⟨upd S.tm s (.tree t []), S.ob, S.gen⟩ := by
  intro G w0 B N a w hr
  obtain ⟨σ, hm, hf, hB⟩ := hr.ex
  refine ⟨⟨σ, hm, fun u => ?_, hB⟩, hr.size, hr.defers, hr.obg⟩
  simp only [upd]
  split
  · rename_i eu
    subst eu
    have := hf u
    rw [hs] at this
    exact ⟨none, 0, [], this, by simp, by simp [maxLen], fun _ => [], by simp, fun h => absurd h (by simp)⟩
  · exact hf u
theorem nil_new {G : World → Prop} {w0 w : World} {ob : Oid → Option Ob} {σ : Oid → Option Loc} {g : Nat} {e : TypeId} {t : Ty} {i : Oid} (hm : Mem0 G w0 ob σ (· < g) w) (hi : i.2 = g) (ht : t.flat = true) :
    Later σ (upd σ i (some .nil)) (imm ob σ) (imm (upd ob i (some (.arr e t []))) (upd σ i (some .nil))) w w ∧ Mem0 G w0 (upd ob i (some (.arr e t []))) (upd σ i (some .nil)) (· < g + 1) w := by
  have hfr : σ i = none := Goes.fresh hm (by rw [hi]; exact Nat.lt_irrefl _)
  refine ⟨Later.new (l := .nil) hfr (Below.refl _ _) (fun _ _ _ h => by cases h), hm.new (l := .nil) hfr (Below.refl _ _) (fun _ _ _ h => by cases h) (fun n hn => by omega) (by show i.2 < g + 1; omega) ⟨ht, World.ownsRow_nil w w0.heap.size e t.size, fun _ _ _ h => by cases h⟩⟩
/-- A nil slice in a slot becomes an owned row without elements. -/
theorem weak_nil {S : St} (s : Nat) (e : TypeId) (t : Ty) (ht : t.flat = true) (hs : S.tm s = .nils) : Weak S ⟨upd S.tm s (.own (s, S.gen) t 0 0), upd S.ob (s, S.gen) (some (.arr e t [])), S.gen + 1⟩ := by
  intro G w0 B N a w hr
  obtain ⟨σ, hm, hf, hB⟩ := hr.ex
  obtain ⟨hL, hM⟩ := nil_new (e := e) (i := (s, S.gen)) hm rfl ht
  refine ⟨⟨_, hM, fun u => ?_, hB.trans hL⟩, hr.size, hr.defers, fun i hi => ?_⟩
  · simp only [upd]
    split
    · rename_i eu
      subst eu
      have := hf u
      rw [hs] at this
      exact .inl ⟨upd_same _ _ _, rfl, rfl, this⟩
    · exact AV.Rep.later hL _ _ (hf u)
  · show i.2 < S.gen + 1
    by_cases h : i = (s, S.gen)
    · subst h; show S.gen < S.gen + 1; omega
    · simp only [upd_other _ _ _ _ h] at hi
      have := hr.obg i hi
      omega
/-- A nil slice in a variable's cell becomes an owned row without elements. -/
theorem weak_nil_cell {S : St} (s : Nat) (b : Oid) (k : Nat) (ty : TypeId) (cs : List AV) (e : TypeId) (t : Ty) (ht : t.flat = true) (hb : S.ob b = some (.cells ty cs)) (hk : cs[k]? = some .nils) :
    Weak S ⟨S.tm, upd (upd S.ob (s, S.gen) (some (.arr e t []))) b (some (.cells ty (cs.set k (.own (s, S.gen) t 0 0)))), S.gen + 1⟩ := by
  intro G w0 B N a w hr
  obtain ⟨σ, hm, hf, hB⟩ := hr.ex
  obtain ⟨hL, hM⟩ := nil_new (e := e) (i := (s, S.gen)) hm rfl ht
  have hbn : b ≠ (s, S.gen) := fun h => by
    have := hr.obg b (by rw [hb]; simp)
    rw [h] at this
    exact absurd this (Nat.lt_irrefl _)
  have him : ∀ c, imm (upd S.ob (s, S.gen) (some (.arr e t []))) (upd σ (s, S.gen) (some .nil)) c → imm (upd (upd S.ob (s, S.gen) (some (.arr e t []))) b (some (.cells ty (cs.set k (.own (s, S.gen) t 0 0))))) (upd σ (s, S.gen) (some .nil)) c := by
    intro c hc i o c' s' ho
    by_cases h : i = b
    · subst h
      exact hc i (.cells ty cs) c' s' (by rw [upd_other _ _ _ _ hbn]; exact hb)
    · rw [upd_other _ _ _ _ h] at ho
      exact hc i o c' s' ho
  have hL2 : Later (upd σ (s, S.gen) (some .nil)) (upd σ (s, S.gen) (some .nil)) (imm (upd S.ob (s, S.gen) (some (.arr e t []))) (upd σ (s, S.gen) (some .nil))) (imm (upd (upd S.ob (s, S.gen) (some (.arr e t []))) b (some (.cells ty (cs.set k (.own (s, S.gen) t 0 0))))) (upd σ (s, S.gen) (some .nil))) w w :=
    ⟨fun _ _ h => h, fun c _ hc => him c hc, fun _ _ _ => rfl, Nat.le_refl _⟩
  refine ⟨⟨upd σ (s, S.gen) (some .nil), ⟨hM.below, hM.inv, hM.gen, hM.lt, hM.cap, fun i j b' c' s' c2 s2 o o' hi hj h1 h2 => ?_, fun i o l hi hl => ?_⟩, fun u => AV.Rep.later hL2 _ _ (AV.Rep.later hL _ _ (hf u)), (hB.trans hL).trans hL2⟩, hr.size, hr.defers, fun i hi => ?_⟩
  · have key : ∀ i o, upd (upd S.ob (s, S.gen) (some (.arr e t []))) b (some (.cells ty (cs.set k (.own (s, S.gen) t 0 0)))) i = some o → ∃ o', upd S.ob (s, S.gen) (some (.arr e t [])) i = some o' := by
      intro i o ho
      by_cases h : i = b
      · subst h; exact ⟨_, by rw [upd_other _ _ _ _ hbn]; exact hb⟩
      · rw [upd_other _ _ _ _ h] at ho; exact ⟨o, ho⟩
    obtain ⟨o1, k1⟩ := key i o hi
    obtain ⟨o2, k2⟩ := key j o' hj
    exact hM.inj i j b' c' s' c2 s2 o1 o2 k1 k2 h1 h2
  · by_cases h : i = b
    · subst h
      have hi' : some (Ob.cells ty (cs.set k (.own (s, S.gen) t 0 0))) = some o := by rw [← hi]; exact (upd_same _ _ _).symm
      obtain rfl := Option.some.inj hi'
      have := hM.obs i (.cells ty cs) l (by rw [upd_other _ _ _ _ hbn]; exact hb) hl
      cases l with
      | nil => exact this
      | at_ b' c' s' =>
        obtain ⟨vs, g1, g2, g3⟩ := this
        refine ⟨vs, g1, ?_, g3⟩
        refine AV.RepL.later hL2 _ _ ?_
        obtain ⟨v, hv, hrv⟩ := g2.get hk
        have hset := g2.set (k := k) (c := .own (s, S.gen) t 0 0) (v := v) (.inl ⟨upd_same _ _ _, rfl, rfl, hrv⟩)
        have hvs : vs.set k v = vs := by
          apply List.ext_getElem?
          intro j
          rw [List.getElem?_set]
          split
          · rename_i e'; subst e'
            split
            · exact hv.symm
            · rw [List.getElem?_eq_none (by omega)]
          · rfl
        rw [hvs] at hset
        exact hset
    · have hi' : upd S.ob (s, S.gen) (some (.arr e t [])) i = some o := by rw [← hi]; exact (upd_other _ _ _ _ h).symm
      exact (hM.obs i o l hi' hl).later hL2 fun _ _ _ _ => rfl
  · show i.2 < S.gen + 1
    by_cases h : i = b
    · subst h
      have := hr.obg i (by rw [hb]; simp)
      omega
    · have hi' : upd S.ob (s, S.gen) (some (.arr e t [])) i ≠ none := by
        intro hq; apply hi; rw [← hq]; exact upd_other _ _ _ _ h
      by_cases h' : i = (s, S.gen)
      · subst h'; show S.gen < S.gen + 1; omega
      · rw [upd_other _ _ _ _ h'] at hi'
        have := hr.obg i hi'
        omega

def renF : List (Oid × Oid) → Oid → Oid
  | [], i => i
  | (a, b) :: r, i => if i = a then b else renF r i
def ndB : List Oid → Bool
  | [] => true
  | i :: r => !r.contains i && ndB r
theorem ndB_spec : ∀ {l : List Oid}, ndB l = true → l.Nodup
  | [], _ => List.nodup_nil
  | i :: r, h => by
    simp only [ndB, Bool.and_eq_true, Bool.not_eq_true', List.contains_eq_mem, decide_eq_false_iff_not] at h
    exact List.nodup_cons.2 ⟨h.1, ndB_spec h.2⟩
/-- What must hold where objects get other names. -/
def renB (θ : Oid → Oid) (tl : List (Nat × AV)) (ol : List (Oid × Ob)) (g : Nat) : Bool :=
  (tl.all fun p => p.2.clo (ol.map (·.1))) && ((ol.all fun q => q.2.clo (ol.map (·.1))) && (ndB (ol.map (·.1)) && (ndB (ol.map fun q => θ q.1) &&
    ((ol.all fun q => decide (q.1.2 < g)) && ((ol.all fun q => !(q.1.2 == 0 || (θ q.1).2 == 0) || (θ q.1 == q.1)) && decide (0 < g))))))
/-- Slots and objects are forgotten, and the others get other names. -/
theorem weak_ren {f : Nat → AV} {ob : Oid → Option Ob} {g0 : Nat} (θ : Oid → Oid) {tl : List (Nat × AV)} {ol : List (Oid × Ob)} {g : Nat} (h1 : (tl.map fun p => f p.1) = tl.map fun p => p.2.ren θ) (h2 : (ol.map fun q => ob (θ q.1)) = ol.map fun q => some (q.2.ren θ)) (h3 : renB θ tl ol g = true) : Weak ⟨f, ob, g0⟩ ⟨mkTm tl, mkOb (someL ol), g⟩ := by
  intro G w0 B N a w hr
  obtain ⟨σ, hm, hf, hB⟩ := hr.ex
  simp only [renB, Bool.and_eq_true, decide_eq_true_eq] at h3
  obtain ⟨c1, c2, c3, c4, c5, c6, c7⟩ := h3
  rw [List.all_eq_true] at c1 c2 c5 c6
  have nd := ndB_spec c3
  have ndθ := ndB_spec c4
  let D := ol.map (·.1)
  let σ' : Oid → Option Loc := fun i => if i.2 = 0 then σ i else if i ∈ D then σ (θ i) else none
  have hzero : ∀ q ∈ ol, q.1.2 = 0 ∨ (θ q.1).2 = 0 → θ q.1 = q.1 := by
    intro q hq h
    have := c6 q hq
    simp only [Bool.or_eq_true, Bool.not_eq_true', Bool.or_eq_false_iff, beq_eq_false_iff_ne, beq_iff_eq] at this
    rcases this with ⟨h1, h2⟩ | h'
    · rcases h with h | h
      · exact absurd h h1
      · exact absurd h h2
    · exact h'
  have hσ : ∀ i ∈ D, σ' i = σ (θ i) := by
    intro i hi
    obtain ⟨q, hq, rfl⟩ := List.mem_map.1 hi
    by_cases h0 : q.1.2 = 0
    · simp only [σ', if_pos h0]; rw [hzero q hq (.inl h0)]
    · simp only [σ', if_neg h0, if_pos hi]
  have hget : ∀ q ∈ ol, ob (θ q.1) = some (q.2.ren θ) := by
    intro q hq
    have := List.map_inj_left.1 h2 q hq
    exact this
  have htget : ∀ p ∈ tl, f p.1 = p.2.ren θ := fun p hp => List.map_inj_left.1 h1 p hp
  have him : ∀ b, imm ob σ b → imm (mkOb (someL ol)) σ' b := by
    intro b hb i o cp s ho hs
    have hq := mkOb_mem ho
    rw [hσ i (List.mem_map.2 ⟨_, hq, rfl⟩)] at hs
    exact hb (θ i) _ cp s (hget _ hq) hs
  have hσ0 : ∀ i l, σ' i = some l → (i.2 = 0 ∧ σ i = some l) ∨ (i ∈ D ∧ σ (θ i) = some l) := by
    intro i l hi
    simp only [σ'] at hi
    split at hi
    · exact .inl ⟨by assumption, hi⟩
    · split at hi
      · exact .inr ⟨by assumption, hi⟩
      · cases hi
  refine ⟨⟨σ', ⟨hm.below, hm.inv, fun i l hi => ?_, fun i b cp s hi => ?_, fun i b cp s hi => ?_, fun i j b cp s cp' s' o o' hi hj e1 e2 => ?_, fun i o l ho hl => ?_⟩, fun t => ?_, ?_⟩, hr.size, hr.defers, fun i hi => ?_⟩
  · rcases hσ0 i l hi with ⟨h, _⟩ | ⟨h, _⟩
    · show i.2 < g; omega
    · obtain ⟨q, hq, rfl⟩ := List.mem_map.1 h
      exact of_decide_eq_true (c5 q hq)
  · rcases hσ0 i _ hi with ⟨_, h⟩ | ⟨_, h⟩ <;> exact hm.lt _ b cp s h
  · rcases hσ0 i _ hi with ⟨_, h⟩ | ⟨_, h⟩ <;> exact hm.cap _ b cp s h
  · have q1 := mkOb_mem hi
    have q2 := mkOb_mem hj
    rw [hσ i (List.mem_map.2 ⟨_, q1, rfl⟩)] at e1
    rw [hσ j (List.mem_map.2 ⟨_, q2, rfl⟩)] at e2
    have := hm.inj (θ i) (θ j) b cp s cp' s' _ _ (hget _ q1) (hget _ q2) e1 e2
    exact congrArg Prod.fst (inj_of_nd (f := fun q : Oid × Ob => θ q.1) ndθ q1 q2 this)
  · have hq := mkOb_mem ho
    rw [hσ i (List.mem_map.2 ⟨_, hq, rfl⟩)] at hl
    have := hm.obs (θ i) _ l (hget _ hq) hl
    cases o with
    | arr e t xs => exact this
    | map mt t es =>
      cases l with
      | nil => exact this
      | at_ b cp s => exact this
    | cells ty cs =>
      cases l with
      | nil => exact this
      | at_ b cp s =>
        obtain ⟨vs, g1, g2, g3⟩ := this
        exact ⟨vs, g1, ren_repL hσ him cs vs (c2 _ hq) g2, g3⟩
  · have key : ∀ l : List (Nat × AV), (∀ p ∈ l, p ∈ tl) → AV.Rep σ' (imm (mkOb (someL ol)) σ') w (mkTm l t) (a.tmps.getD t undef) := by
      intro l
      induction l with
      | nil => intro _; trivial
      | cons p r ih =>
        obtain ⟨j, v⟩ := p
        intro h
        simp only [mkTm]
        split
        · rename_i e; subst e
          have hp := h (t, v) (by simp)
          have : AV.Rep σ (imm ob σ) w (f t) (a.tmps.getD t undef) := hf t
          rw [show f t = v.ren θ from htget _ hp] at this
          exact ren_rep hσ him v _ (c1 _ hp) this
        · exact ih fun p hp => h p (by simp [hp])
    exact key tl fun _ h => h
  · refine ⟨fun i l hi => ?_, fun b hb hi => him b (hB.im_ b hb hi), hB.blk, hB.size⟩
    have := hB.loc i l hi
    have h0 := B.zero i l hi
    simp only [σ', if_pos h0]
    exact this
  · cases ho : mkOb (someL ol) i with
    | none => exact absurd ho hi
    | some o => exact of_decide_eq_true (c5 _ (mkOb_mem ho))

/-- Code that is given as compiled. -/
def compiled (P : Program) (fn : Func) : Option (AC × List Res) :=
  match fn.body with
  | some c => match AC.of P fn.ntmps c, Res.ofL P fn.results.toList with
    | some ac, some rs => some (ac, rs)
    | _, _ => none
  | none => none
theorem call_of {P : Program} [IsP P] {G : World → Prop} (hfol : P.follows .mixedOrders = true) {g : FuncId} {fn : Func} (hf : P.funcs[g]? = some fn) {ac : AC} {rs : List Res} (hc : compiled P fn = some (ac, rs)) {args : List AV} {r : RV} {n : Nat} (hN : fn.ntmps = n) (hn : args.length ≤ n)
    (h : awp P G ac (fun e S => ∃ S', Weak S S' ∧ (e = .normal ∨ e = .ret) ∧ RetOK [] rs S' r) (St.init args)) : CallOK P G g args r := by
  unfold compiled at hc
  split at hc
  · rename_i c hb
    split at hc
    · rename_i ac' rs' h1 h2
      obtain ⟨rfl, rfl⟩ := Prod.mk.inj (Option.some.inj hc)
      exact call_ok hfol hf hb h1 h2 (by omega) fun im w vs hr => ⟨args, rfl, hr, awp_mono (fun e S ⟨S', hw, he, hq⟩ => ⟨S', hw, he, hq.wide⟩) h⟩
    · cases hc
  · cases hc
/-- The same, where parts of what was given may be handed back. -/
theorem call_of_g {P : Program} [IsP P] {G : World → Prop} (hfol : P.follows .mixedOrders = true) {g : FuncId} {fn : Func} (hf : P.funcs[g]? = some fn) {ac : AC} {rs : List Res} (hc : compiled P fn = some (ac, rs)) {args : List AV} {r : RV} {n : Nat} (hN : fn.ntmps = n) (hn : args.length ≤ n)
    (h : ∀ (im : Nat → Prop) (w : World) (vs : List Value), AV.RepL (fun _ => none) im w args vs → awp P G ac (fun e S => ∃ S', Weak S S' ∧ (e = .normal ∨ e = .ret) ∧ RetOK vs rs S' r) (St.init (tagL args vs))) : CallOK P G g args r := by
  unfold compiled at hc
  split at hc
  · rename_i c hb
    split at hc
    · rename_i ac' rs' h1 h2
      obtain ⟨rfl, rfl⟩ := Prod.mk.inj (Option.some.inj hc)
      exact call_ok hfol hf hb h1 h2 (by omega) fun im w vs hr => ⟨tagL args vs, tagL_length args vs, tagL_rep hr, h im w vs hr⟩
    · cases hc
  · cases hc
/-- The same for a function that changes rows of the caller's. -/
theorem callM_of {P : Program} [IsP P] {G : World → Prop} (hfol : P.follows .mixedOrders = true) {g : FuncId} {fn : Func} (hf : P.funcs[g]? = some fn) {ac : AC} {rs : List Res} (hc : compiled P fn = some (ac, rs)) {args : List AV} {n : Nat} (hN : fn.ntmps = n) (hn : args.length ≤ n)
    {ol us : List (Oid × Ob)} {v : AV} (hz : (ol.all fun q => q.1.2 == 0 && q.2.isArr) = true) (hnd : ndB (ol.map (·.1)) = true) (hus : us.map (·.1) = ol.map (·.1)) (hua : (us.all fun q => q.2.isArr) = true) (hcl : AV.cloL (ol.map (·.1)) args = true) (hv : v.scal = true ∨ v = .tup [])
    (h : awp P G ac (fun e S => ∃ S', Weak S S' ∧ (e = .normal ∨ e = .ret) ∧ Res.evL S'.tm S'.ob rs = some (if v.scal then [v] else []) ∧ ∀ q ∈ us, S'.ob q.1 = some q.2) ⟨fun i => args.getD i .any, mkOb (someL ol), 1⟩) : CallM P G g args ol v us := by
  unfold compiled at hc
  split at hc
  · rename_i c hb
    split at hc
    · rename_i ac' rs' h1 h2
      obtain ⟨rfl, rfl⟩ := Prod.mk.inj (Option.some.inj hc)
      refine callM_ok hfol hf hb h1 h2 (by omega) (fun q hq => ?_) (ndB_spec hnd) hus (fun q hq => ?_) hcl hv h
      · rw [List.all_eq_true] at hz
        have := hz q hq
        simpa using this
      · rw [List.all_eq_true] at hua
        exact hua q hq
    · cases hc
  · cases hc
end Go.Proofs.YthjdknddcceigaaDoor
