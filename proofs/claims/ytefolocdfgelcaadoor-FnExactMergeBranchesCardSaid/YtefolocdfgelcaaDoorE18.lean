/- An abstract machine: states by lists, and how knowledge is given up at a loop's head; no condition. -/
import Derived.Test.YtefolocdfgelcaaDoorE17m
import Derived.KernelRfl
namespace Go.Proofs.YtefolocdfgelcaaDoor
open Go.RowKit Go.Deep

theorem Weak.refl (S : St) : Weak S S := fun _ _ _ _ _ _ h => h
theorem Weak.trans {S S' S'' : St} (h : Weak S S') (k : Weak S' S'') : Weak S S'' := fun G w0 B N a w hr => k G w0 B N a w (h G w0 B N a w hr)
/-- A nil slice is a slice without elements that nobody changes. -/
theorem weak_nilT {S : St} (s : Nat) (t : Ty) (hs : S.tm s = .nils) : Weak S ⟨upd S.tm s (.tree t []), S.ob, S.gen⟩ := by
  intro G w0 B N a w hr
  obtain ⟨σ, hm, hf, hB⟩ := hr.ex
  refine ⟨⟨σ, hm, fun u => ?_, hB⟩, hr.size, hr.defers, hr.obg⟩
  simp only [upd]
  split
  · rename_i eu
    subst eu
    have := hf u
    rw [hs] at this
    exact ⟨none, 0, [], this, by simp, by simp [maxLen], fun _ => [], by simp, fun h => absurd h (by simp)⟩
  · exact hf u
theorem nil_new {G : World → Prop} {w0 w : World} {ob : Oid → Option Ob} {σ : Oid → Option Loc} {g : Nat} {e : TypeId} {t : Ty} {i : Oid} (hm : Mem0 G w0 ob σ (· < g) w) (hi : i.2 = g) (ht : t.flat = true) :
    Later σ (upd σ i (some .nil)) (imm ob σ) (imm (upd ob i (some (.arr e t []))) (upd σ i (some .nil))) w w ∧ Mem0 G w0 (upd ob i (some (.arr e t []))) (upd σ i (some .nil)) (· < g + 1) w := by
  have hfr : σ i = none := Goes.fresh hm (by rw [hi]; exact Nat.lt_irrefl _)
  refine ⟨Later.new (l := .nil) hfr (Below.refl _ _) (fun _ _ _ h => by cases h), hm.new (l := .nil) hfr (Below.refl _ _) (fun _ _ _ h => by cases h) (fun n hn => by omega) (by show i.2 < g + 1; omega) ⟨ht, ownsV_nil w w0.heap.size e t.size, fun _ _ _ h => by cases h⟩⟩
/-- A nil slice in a slot becomes an owned row without elements. -/
theorem weak_nil {S : St} (s : Nat) (e : TypeId) (t : Ty) (ht : t.flat = true) (hs : S.tm s = .nils) : Weak S ⟨upd S.tm s (.own ((s, 0), S.gen) t 0 0), upd S.ob ((s, 0), S.gen) (some (.arr e t [])), S.gen + 1⟩ := by
  intro G w0 B N a w hr
  obtain ⟨σ, hm, hf, hB⟩ := hr.ex
  obtain ⟨hL, hM⟩ := nil_new (e := e) (i := ((s, 0), S.gen)) hm rfl ht
  refine ⟨⟨_, hM, fun u => ?_, hB.trans hL⟩, hr.size, hr.defers, fun i hi => ?_⟩
  · simp only [upd]
    split
    · rename_i eu
      subst eu
      have := hf u
      rw [hs] at this
      exact .inl ⟨upd_same _ _ _, rfl, rfl, this⟩
    · exact AV.Rep.later hL _ _ (hf u)
  · show i.2 < S.gen + 1
    by_cases h : i = ((s, 0), S.gen)
    · subst h; show S.gen < S.gen + 1; omega
    · simp only [upd_other _ _ _ _ h] at hi
      have := hr.obg i hi
      omega
/-- The same for a row of things. -/
theorem nil_newV {G : World → Prop} {w0 w : World} {ob : Oid → Option Ob} {σ : Oid → Option Loc} {g : Nat} {e : TypeId} {sz : Nat} {i : Oid} (hm : Mem0 G w0 ob σ (· < g) w) (hi : i.2 = g) :
    Later σ (upd σ i (some .nil)) (imm ob σ) (imm (upd ob i (some (.vec e sz 0 []))) (upd σ i (some .nil))) w w ∧ Mem0 G w0 (upd ob i (some (.vec e sz 0 []))) (upd σ i (some .nil)) (· < g + 1) w := by
  have hfr : σ i = none := Goes.fresh hm (by rw [hi]; exact Nat.lt_irrefl _)
  refine ⟨Later.new (l := .nil) hfr (Below.refl _ _) (fun _ _ _ h => by cases h), hm.new (l := .nil) hfr (Below.refl _ _) (fun _ _ _ h => by cases h) (fun n hn => by omega) (by show i.2 < g + 1; omega) ⟨[], ownsV_nil w w0.heap.size e sz, rfl, fun _ h => (by cases h), fun _ _ _ h => (by cases h)⟩⟩
theorem weak_nilV {S : St} (s : Nat) (e : TypeId) (t : Ty) (hs : S.tm s = .nils) : Weak S ⟨upd S.tm s (.own ((s, 0), S.gen) t 0 0), upd S.ob ((s, 0), S.gen) (some (.vec e 1 0 [])), S.gen + 1⟩ := by
  intro G w0 B N a w hr
  obtain ⟨σ, hm, hf, hB⟩ := hr.ex
  obtain ⟨hL, hM⟩ := nil_newV (e := e) (sz := 1) (i := ((s, 0), S.gen)) hm rfl
  refine ⟨⟨_, hM, fun u => ?_, hB.trans hL⟩, hr.size, hr.defers, fun i hi => ?_⟩
  · simp only [upd]
    split
    · rename_i eu
      subst eu
      have := hf u
      rw [hs] at this
      exact .inl ⟨upd_same _ _ _, rfl, rfl, this⟩
    · exact AV.Rep.later hL _ _ (hf u)
  · show i.2 < S.gen + 1
    by_cases h : i = ((s, 0), S.gen)
    · subst h; show S.gen < S.gen + 1; omega
    · simp only [upd_other _ _ _ _ h] at hi
      have := hr.obg i hi
      omega
/-- A nil slice in a variable's cell becomes an owned row without elements. -/
theorem weak_nil_cell {S : St} (s : Nat) (b : Oid) (k : Nat) (ty : TypeId) (cs : List AV) (e : TypeId) (t : Ty) (ht : t.flat = true) (hb : S.ob b = some (.cells ty cs)) (hk : cs[k]? = some .nils) :
    Weak S ⟨S.tm, upd (upd S.ob ((s, 0), S.gen) (some (.arr e t []))) b (some (.cells ty (cs.set k (.own ((s, 0), S.gen) t 0 0)))), S.gen + 1⟩ := by
  intro G w0 B N a w hr
  obtain ⟨σ, hm, hf, hB⟩ := hr.ex
  obtain ⟨hL, hM⟩ := nil_new (e := e) (i := ((s, 0), S.gen)) hm rfl ht
  have hbn : b ≠ ((s, 0), S.gen) := fun h => by
    have := hr.obg b (by rw [hb]; simp)
    rw [h] at this
    exact absurd this (Nat.lt_irrefl _)
  have him : ∀ c, imm (upd S.ob ((s, 0), S.gen) (some (.arr e t []))) (upd σ ((s, 0), S.gen) (some .nil)) c → imm (upd (upd S.ob ((s, 0), S.gen) (some (.arr e t []))) b (some (.cells ty (cs.set k (.own ((s, 0), S.gen) t 0 0))))) (upd σ ((s, 0), S.gen) (some .nil)) c := by
    intro c hc i o c' s' ho
    by_cases h : i = b
    · subst h
      exact hc i (.cells ty cs) c' s' (by rw [upd_other _ _ _ _ hbn]; exact hb)
    · rw [upd_other _ _ _ _ h] at ho
      exact hc i o c' s' ho
  have hL2 : Later (upd σ ((s, 0), S.gen) (some .nil)) (upd σ ((s, 0), S.gen) (some .nil)) (imm (upd S.ob ((s, 0), S.gen) (some (.arr e t []))) (upd σ ((s, 0), S.gen) (some .nil))) (imm (upd (upd S.ob ((s, 0), S.gen) (some (.arr e t []))) b (some (.cells ty (cs.set k (.own ((s, 0), S.gen) t 0 0))))) (upd σ ((s, 0), S.gen) (some .nil))) w w :=
    ⟨fun _ _ h => h, fun c _ hc => him c hc, fun _ _ _ => rfl, Nat.le_refl _⟩
  refine ⟨⟨upd σ ((s, 0), S.gen) (some .nil), ⟨hM.below, hM.inv, hM.gen, hM.lt, hM.cap, fun i j b' c' s' c2 s2 o o' hi hj h1 h2 => ?_, fun i o l hi hl => ?_⟩, fun u => AV.Rep.later hL2 _ _ (AV.Rep.later hL _ _ (hf u)), (hB.trans hL).trans hL2⟩, hr.size, hr.defers, fun i hi => ?_⟩
  · have key : ∀ i o, upd (upd S.ob ((s, 0), S.gen) (some (.arr e t []))) b (some (.cells ty (cs.set k (.own ((s, 0), S.gen) t 0 0)))) i = some o → ∃ o', upd S.ob ((s, 0), S.gen) (some (.arr e t [])) i = some o' := by
      intro i o ho
      by_cases h : i = b
      · subst h; exact ⟨_, by rw [upd_other _ _ _ _ hbn]; exact hb⟩
      · rw [upd_other _ _ _ _ h] at ho; exact ⟨o, ho⟩
    obtain ⟨o1, k1⟩ := key i o hi
    obtain ⟨o2, k2⟩ := key j o' hj
    exact hM.inj i j b' c' s' c2 s2 o1 o2 k1 k2 h1 h2
  · by_cases h : i = b
    · subst h
      have hi' : some (Ob.cells ty (cs.set k (.own ((s, 0), S.gen) t 0 0))) = some o := by rw [← hi]; exact (upd_same _ _ _).symm
      obtain rfl := Option.some.inj hi'
      have := hM.obs i (.cells ty cs) l (by rw [upd_other _ _ _ _ hbn]; exact hb) hl
      cases l with
      | nil => exact this
      | at_ b' c' s' =>
        obtain ⟨vs, g1, g2, g3⟩ := this
        refine ⟨vs, g1, ?_, g3⟩
        refine AV.RepL.later hL2 _ _ ?_
        obtain ⟨v, hv, hrv⟩ := g2.get hk
        have hset := g2.set (k := k) (c := .own ((s, 0), S.gen) t 0 0) (v := v) (.inl ⟨upd_same _ _ _, rfl, rfl, hrv⟩)
        have hvs : vs.set k v = vs := by
          apply List.ext_getElem?
          intro j
          rw [List.getElem?_set]
          split
          · rename_i e'; subst e'
            split
            · exact hv.symm
            · rw [List.getElem?_eq_none (by omega)]
          · rfl
        rw [hvs] at hset
        exact hset
    · have hi' : upd S.ob ((s, 0), S.gen) (some (.arr e t [])) i = some o := by rw [← hi]; exact (upd_other _ _ _ _ h).symm
      exact (hM.obs i o l hi' hl).later hL2 fun _ _ _ _ => rfl
  · show i.2 < S.gen + 1
    by_cases h : i = b
    · subst h
      have := hr.obg i (by rw [hb]; simp)
      omega
    · have hi' : upd S.ob ((s, 0), S.gen) (some (.arr e t [])) i ≠ none := by
        intro hq; apply hi; rw [← hq]; exact upd_other _ _ _ _ h
      by_cases h' : i = ((s, 0), S.gen)
      · subst h'; show S.gen < S.gen + 1; omega
      · rw [upd_other _ _ _ _ h'] at hi'
        have := hr.obg i hi'
        omega

theorem weak_nil_cellV {S : St} (s : Nat) (b : Oid) (k : Nat) (ty : TypeId) (cs : List AV) (e : TypeId) (t : Ty) (hb : S.ob b = some (.cells ty cs)) (hk : cs[k]? = some .nils) :
    Weak S ⟨S.tm, upd (upd S.ob ((s, 0), S.gen) (some (.vec e 1 0 []))) b (some (.cells ty (cs.set k (.own ((s, 0), S.gen) t 0 0)))), S.gen + 1⟩ := by
  intro G w0 B N a w hr
  obtain ⟨σ, hm, hf, hB⟩ := hr.ex
  obtain ⟨hL, hM⟩ := nil_newV (e := e) (sz := 1) (i := ((s, 0), S.gen)) hm rfl
  have hbn : b ≠ ((s, 0), S.gen) := fun h => by
    have := hr.obg b (by rw [hb]; simp)
    rw [h] at this
    exact absurd this (Nat.lt_irrefl _)
  have him : ∀ c, imm (upd S.ob ((s, 0), S.gen) (some (.vec e 1 0 []))) (upd σ ((s, 0), S.gen) (some .nil)) c → imm (upd (upd S.ob ((s, 0), S.gen) (some (.vec e 1 0 []))) b (some (.cells ty (cs.set k (.own ((s, 0), S.gen) t 0 0))))) (upd σ ((s, 0), S.gen) (some .nil)) c := by
    intro c hc i o c' s' ho
    by_cases h : i = b
    · subst h
      exact hc i (.cells ty cs) c' s' (by rw [upd_other _ _ _ _ hbn]; exact hb)
    · rw [upd_other _ _ _ _ h] at ho
      exact hc i o c' s' ho
  have hL2 : Later (upd σ ((s, 0), S.gen) (some .nil)) (upd σ ((s, 0), S.gen) (some .nil)) (imm (upd S.ob ((s, 0), S.gen) (some (.vec e 1 0 []))) (upd σ ((s, 0), S.gen) (some .nil))) (imm (upd (upd S.ob ((s, 0), S.gen) (some (.vec e 1 0 []))) b (some (.cells ty (cs.set k (.own ((s, 0), S.gen) t 0 0))))) (upd σ ((s, 0), S.gen) (some .nil))) w w :=
    ⟨fun _ _ h => h, fun c _ hc => him c hc, fun _ _ _ => rfl, Nat.le_refl _⟩
  refine ⟨⟨upd σ ((s, 0), S.gen) (some .nil), ⟨hM.below, hM.inv, hM.gen, hM.lt, hM.cap, fun i j b' c' s' c2 s2 o o' hi hj h1 h2 => ?_, fun i o l hi hl => ?_⟩, fun u => AV.Rep.later hL2 _ _ (AV.Rep.later hL _ _ (hf u)), (hB.trans hL).trans hL2⟩, hr.size, hr.defers, fun i hi => ?_⟩
  · have key : ∀ i o, upd (upd S.ob ((s, 0), S.gen) (some (.vec e 1 0 []))) b (some (.cells ty (cs.set k (.own ((s, 0), S.gen) t 0 0)))) i = some o → ∃ o', upd S.ob ((s, 0), S.gen) (some (.vec e 1 0 [])) i = some o' := by
      intro i o ho
      by_cases h : i = b
      · subst h; exact ⟨_, by rw [upd_other _ _ _ _ hbn]; exact hb⟩
      · rw [upd_other _ _ _ _ h] at ho; exact ⟨o, ho⟩
    obtain ⟨o1, k1⟩ := key i o hi
    obtain ⟨o2, k2⟩ := key j o' hj
    exact hM.inj i j b' c' s' c2 s2 o1 o2 k1 k2 h1 h2
  · by_cases h : i = b
    · subst h
      have hi' : some (Ob.cells ty (cs.set k (.own ((s, 0), S.gen) t 0 0))) = some o := by rw [← hi]; exact (upd_same _ _ _).symm
      obtain rfl := Option.some.inj hi'
      have := hM.obs i (.cells ty cs) l (by rw [upd_other _ _ _ _ hbn]; exact hb) hl
      cases l with
      | nil => exact this
      | at_ b' c' s' =>
        obtain ⟨vs, g1, g2, g3⟩ := this
        refine ⟨vs, g1, ?_, g3⟩
        refine AV.RepL.later hL2 _ _ ?_
        obtain ⟨v, hv, hrv⟩ := g2.get hk
        have hset := g2.set (k := k) (c := .own ((s, 0), S.gen) t 0 0) (v := v) (.inl ⟨upd_same _ _ _, rfl, rfl, hrv⟩)
        have hvs : vs.set k v = vs := by
          apply List.ext_getElem?
          intro j
          rw [List.getElem?_set]
          split
          · rename_i e'; subst e'
            split
            · exact hv.symm
            · rw [List.getElem?_eq_none (by omega)]
          · rfl
        rw [hvs] at hset
        exact hset
    · have hi' : upd S.ob ((s, 0), S.gen) (some (.vec e 1 0 [])) i = some o := by rw [← hi]; exact (upd_other _ _ _ _ h).symm
      exact (hM.obs i o l hi' hl).later hL2 fun _ _ _ _ => rfl
  · show i.2 < S.gen + 1
    by_cases h : i = b
    · subst h
      have := hr.obg i (by rw [hb]; simp)
      omega
    · have hi' : upd S.ob ((s, 0), S.gen) (some (.vec e 1 0 [])) i ≠ none := by
        intro hq; apply hi; rw [← hq]; exact upd_other _ _ _ _ h
      by_cases h' : i = ((s, 0), S.gen)
      · subst h'; show S.gen < S.gen + 1; omega
      · rw [upd_other _ _ _ _ h'] at hi'
        have := hr.obg i hi'
        omega

/-- Other names; the rows that a row of rows leads to follow it. -/
def renF : List (Oid × Oid) → Oid → Oid
  | [], i => i
  | (a, b) :: r, i => if i = a then b else if i.1.1 = a.1.1 ∧ i.2 = a.2 ∧ i.1.2 ≠ 0 then ((b.1.1, i.1.2), b.2) else renF r i
def keys0 (l : List (Oid × Oid)) : Bool := l.all fun x => x.1.1.2 == 0
theorem renF_kid : ∀ {l : List (Oid × Oid)}, keys0 l = true → ∀ {p : Oid}, p.1.2 = 0 → ∀ k, renF l (kid p k) = kid (renF l p) k
  | [], _, _, _, _ => rfl
  | (a, b) :: r, h, p, hp, k => by
    simp only [keys0, List.all_cons, Bool.and_eq_true, beq_iff_eq] at h
    obtain ⟨h1, h2⟩ := h
    have hne : kid p k ≠ a := fun e => by
      rw [← e] at h1
      simp [kid] at h1
    simp only [renF, if_neg hne]
    by_cases hpa : p = a
    · subst hpa
      rw [if_pos ⟨rfl, rfl, by simp [kid]⟩, if_pos rfl]
      rfl
    · have : ¬ ((kid p k).1.1 = a.1.1 ∧ (kid p k).2 = a.2 ∧ (kid p k).1.2 ≠ 0) := by
        rintro ⟨e1, e2, _⟩
        apply hpa
        obtain ⟨⟨p1, p2⟩, p3⟩ := p
        obtain ⟨⟨a1, a2⟩, a3⟩ := a
        simp only [kid] at *
        subst hp h1 e1 e2
        rfl
      rw [if_neg this, if_neg hpa, if_neg (fun h => h.2.2 hp)]
      exact renF_kid h2 hp k
def ndB : List Oid → Bool
  | [] => true
  | i :: r => !r.contains i && ndB r
theorem ndB_spec : ∀ {l : List Oid}, ndB l = true → l.Nodup
  | [], _ => List.nodup_nil
  | i :: r, h => by
    simp only [ndB, Bool.and_eq_true, Bool.not_eq_true', List.contains_eq_mem, decide_eq_false_iff_not] at h
    exact List.nodup_cons.2 ⟨h.1, ndB_spec h.2⟩
def Ob.isPool : Ob → Bool
  | .pool .. => true
  | _ => false
/-- The name of the row of rows that leads to a row. -/
def baseO (i : Oid) : Oid := ((i.1.1, 0), i.2)
theorem baseO_kid {p : Oid} (h : p.1.2 = 0) (k : Nat) : baseO (kid p k) = p := by
  obtain ⟨⟨p1, p2⟩, p3⟩ := p
  simp only at h
  subst h; rfl
theorem kid_of {i : Oid} (h : i.1.2 ≠ 0) : i = kid (baseO i) (i.1.2 - 1) := by
  obtain ⟨⟨a, b⟩, c⟩ := i
  simp only [kid, baseO] at *
  rw [show b - 1 + 1 = b by omega]
/-- What a list says of a name, as it is written there. -/
def entAt : List (Oid × Option Ob) → Oid → Option Ob
  | [], _ => none
  | (j, o) :: r, i => match o with
    | some (.pool e u xss) => if i.1.1 = j.1.1 ∧ i.2 = j.2 ∧ i.1.2 ≠ 0 then (xss[i.1.2 - 1]?).map (.arr e u) else entAt r i
    | o => if i = j then o else entAt r i
def Ob.exp : Ob → Ob
  | .mat e p u xss => .vec e 1 xss.length (hdL p u xss)
  | o => o
theorem entAt_mk : ∀ (ol : List (Oid × Option Ob)) (i : Oid), mkOb ol i = (entAt ol i).map Ob.exp
  | [], _ => rfl
  | (j, o) :: r, i => by
    have ih := entAt_mk r i
    cases o with
    | none =>
      simp only [mkOb, entAt]
      split
      · rfl
      · exact ih
    | some o =>
      cases o with
      | pool e u xss =>
        simp only [mkOb, entAt]
        split
        · cases xss[i.1.2 - 1]? <;> rfl
        · exact ih
      | _ =>
        simp only [mkOb, entAt]
        split
        · rfl
        · exact ih
/-- The rows under a name. -/
def poolAt : List (Oid × Option Ob) → Oid → Option Ob
  | [], _ => none
  | (j, o) :: r, p => match o with
    | some (.pool e u xss) => if p.1.1 = j.1.1 ∧ p.2 = j.2 then some (.pool e u xss) else poolAt r p
    | _ => if p.1.1 = j.1.1 ∧ p.2 = j.2 ∧ j.1.2 ≠ 0 then none else poolAt r p
theorem poolAt_ent {e : TypeId} {u : Ty} {xss : List (List u.D)} {p : Oid} : ∀ {ol : List (Oid × Option Ob)}, poolAt ol p = some (.pool e u xss) → ∀ k, entAt ol (kid p k) = (xss[k]?).map (.arr e u)
  | [], h, _ => by cases h
  | (j, o) :: r, h, k => by
    have hk : ¬ (p.1.1 = j.1.1 ∧ p.2 = j.2 ∧ j.1.2 ≠ 0) → kid p k ≠ j := fun hn ej => hn (by subst ej; exact ⟨rfl, rfl, by simp [kid]⟩)
    cases o with
    | none =>
      simp only [poolAt] at h
      simp only [entAt]
      split at h
      · cases h
      · rename_i hn
        rw [if_neg (hk hn)]
        exact poolAt_ent h k
    | some o =>
      cases o with
      | pool e' u' xss' =>
        simp only [poolAt] at h
        simp only [entAt]
        split at h
        · rename_i hc
          obtain ⟨rfl, rfl, he⟩ := Ob.pool.inj (Option.some.inj h)
          obtain rfl := eq_of_heq he
          rw [if_pos ⟨by simpa [kid] using hc.1, by simpa [kid] using hc.2, by simp [kid]⟩]
          simp [kid]
        · rename_i hc
          rw [if_neg (fun h' => hc ⟨h'.1, h'.2.1⟩)]
          exact poolAt_ent h k
      | _ =>
        simp only [poolAt] at h
        simp only [entAt]
        split at h
        · cases h
        · rename_i hn
          rw [if_neg (hk hn)]
          exact poolAt_ent h k
theorem poolAt_mk {e : TypeId} {u : Ty} {xss : List (List u.D)} {p : Oid} {ol : List (Oid × Option Ob)} (h : poolAt ol p = some (.pool e u xss)) (k : Nat) : mkOb ol (kid p k) = (xss[k]?).map (.arr e u) := by
  rw [entAt_mk, poolAt_ent h]
  cases xss[k]? <;> rfl
theorem mkOb_kid {e : TypeId} {u : Ty} {xss : List (List u.D)} {row : List u.D} {p : Oid} {k : Nat} {ol : List (Oid × Option Ob)} (h : poolAt ol p = some (.pool e u xss)) (hx : xss[k]? = some row) : mkOb ol (kid p k) = some (.arr e u row) := by
  rw [poolAt_mk h, hx]; rfl
theorem entAt_kid {e : TypeId} {u : Ty} {xss : List (List u.D)} {row : List u.D} {p : Oid} {k : Nat} {ol : List (Oid × Option Ob)} (h : poolAt ol p = some (.pool e u xss)) (hx : xss[k]? = some row) : entAt ol (kid p k) = some (.arr e u row) := by
  rw [poolAt_ent h, hx]; rfl
theorem exp_ren (θ : Oid → Oid) (o : Ob) (hk : ∀ e p u xss, o = .mat e p u xss → ∀ k, θ (kid p k) = kid (θ p) k) : (o.ren θ).exp = o.exp.ren θ := by
  cases o with
  | mat e p u xss =>
    have : AV.renL θ (hdL p u xss) = hdL (θ p) u xss := by
      have key : ∀ l : List (List u.D × Nat), AV.renL θ (l.map fun x => .own (kid p x.2) u 0 x.1.length) = l.map fun x => .own (kid (θ p) x.2) u 0 x.1.length := by
        intro l
        induction l with
        | nil => rfl
        | cons x l ih => simp only [List.map_cons, AV.renL, ih, AV.ren, hk _ _ _ _ rfl]
      exact key _
    simp only [Ob.ren, Ob.exp, this]
  | _ => rfl
def getE (ol0 : List (Oid × Option Ob)) (θ : Oid → Oid) (q : Oid × Ob) : Option Ob := if q.2.isPool then poolAt ol0 (θ q.1) else entAt ol0 (θ q.1)
/-- Objects read, under their other names, as they should. -/
def ObsR (ol0 : List (Oid × Option Ob)) (θ : Oid → Oid) : List (Oid × Ob) → Prop
  | [] => True
  | q :: r => getE ol0 θ q = some (q.2.ren θ) ∧ ObsR ol0 θ r
theorem obsR_of {ol0 : List (Oid × Option Ob)} {θ : Oid → Oid} : ∀ {ol : List (Oid × Ob)}, (ol.map fun q => getE ol0 θ q) = (ol.map fun q => some (q.2.ren θ)) → ObsR ol0 θ ol
  | [], _ => trivial
  | q :: r, h => by
    simp only [List.map_cons, List.cons.injEq] at h
    exact ⟨h.1, obsR_of h.2⟩
theorem obsR_mem {ol0 : List (Oid × Option Ob)} {θ : Oid → Oid} : ∀ {ol : List (Oid × Ob)}, ObsR ol0 θ ol → ∀ q ∈ ol, getE ol0 θ q = some (q.2.ren θ)
  | _ :: _, h, q, hq => by
    rcases List.mem_cons.1 hq with rfl | hq
    · exact h.1
    · exact obsR_mem h.2 q hq
theorem exL_mem {q : Oid × Ob} : ∀ {ol : List (Oid × Ob)}, q ∈ exL ol → (∃ p e u xss k row, (p, Ob.pool e u xss) ∈ ol ∧ xss[k]? = some row ∧ q = (kid p k, .arr e u row)) ∨ ∃ o, (q.1, o) ∈ ol ∧ o.isPool = false ∧ q.2 = o.exp
  | [], h => by cases h
  | (p, o) :: r, h => by
    have rest : q ∈ exL r → _ := fun h => exL_mem (ol := r) h
    have lift : ((∃ p e u xss k row, (p, Ob.pool e u xss) ∈ r ∧ xss[k]? = some row ∧ q = (kid p k, .arr e u row)) ∨ ∃ o, (q.1, o) ∈ r ∧ o.isPool = false ∧ q.2 = o.exp) → ((∃ p' e u xss k row, (p', Ob.pool e u xss) ∈ (p, o) :: r ∧ xss[k]? = some row ∧ q = (kid p' k, .arr e u row)) ∨ ∃ o', (q.1, o') ∈ (p, o) :: r ∧ o'.isPool = false ∧ q.2 = o'.exp) := by
      rintro (⟨p', e, u, xss, k, row, h1, h2⟩ | ⟨o', h1, h2⟩)
      · exact .inl ⟨p', e, u, xss, k, row, List.mem_cons_of_mem _ h1, h2⟩
      · exact .inr ⟨o', List.mem_cons_of_mem _ h1, h2⟩
    cases o with
    | pool e u xss =>
      simp only [exL, List.mem_append] at h
      rcases h with h | h
      · obtain ⟨⟨row, k⟩, hx, rfl⟩ := List.mem_map.1 h
        rw [List.mem_zipIdx_iff_getElem?] at hx
        exact .inl ⟨p, e, u, xss, k, row, by simp, hx, rfl⟩
      · exact lift (rest h)
    | _ =>
      simp only [exL] at h
      rcases List.mem_cons.1 h with rfl | h
      · exact .inr ⟨_, List.mem_cons_self, rfl, rfl⟩
      · exact lift (rest h)
/-- All objects, one by one. -/
theorem obsR_ex {ol0 : List (Oid × Option Ob)} {l : List (Oid × Oid)} {ol : List (Oid × Ob)} (hl : keys0 l = true) (h : ObsR ol0 (renF l) ol) (hp : (ol.all fun q => match q.2 with | .pool .. => q.1.1.2 == 0 | .mat _ p _ _ => p.1.2 == 0 | _ => true) = true) : ∀ q ∈ exL ol, mkOb ol0 (renF l q.1) = some (q.2.ren (renF l)) := by
  intro q hq
  rw [List.all_eq_true] at hp
  rcases exL_mem hq with ⟨p, e, u, xss, k, row, h1, h2, rfl⟩ | ⟨o, h1, h2, h3⟩
  · have g := obsR_mem h _ h1
    simp only [getE, Ob.isPool, if_true, Ob.ren] at g
    have hp0 := hp _ h1
    simp only [beq_iff_eq] at hp0
    rw [renF_kid hl hp0, mkOb_kid g h2]
    rfl
  · have g := obsR_mem h _ h1
    simp only [getE, h2, Bool.false_eq_true, if_false] at g
    rw [h3, entAt_mk, g]
    simp only [Option.map_some]
    rw [exp_ren]
    intro e p u xss e' k
    subst e'
    have hp0 := hp _ h1
    simp only [beq_iff_eq] at hp0
    exact renF_kid hl hp0 k
/-- Names that a list speaks of: its own, and the rows' under its pools. -/
def domB (DN DP : List Oid) (i : Oid) : Bool := if i.1.2 = 0 then DN.contains i else DP.contains (baseO i)
mutual
def AV.cl (DN DP : List Oid) : AV → Bool
  | .own i _ _ _ => domB DN DP i
  | .box i _ => domB DN DP i
  | .elt i _ _ => domB DN DP i
  | .mp i => domB DN DP i
  | .agg cs => AV.clL DN DP cs
  | .tup cs => AV.clL DN DP cs
  | .fn _ cs => AV.clL DN DP cs
  | .ref cs => AV.clL DN DP cs
  | _ => true
def AV.clL (DN DP : List Oid) : List AV → Bool
  | [] => true
  | c :: cs => AV.cl DN DP c && AV.clL DN DP cs
end
def Ob.cl (DN DP : List Oid) : Ob → Bool
  | .cells _ cs => AV.clL DN DP cs
  | .vec _ _ _ cs => AV.clL DN DP cs
  | .mat _ p _ _ => DP.contains p && p.1.2 == 0
  | _ => true
mutual
theorem AV.cl_P {DN DP : List Oid} : ∀ (c : AV), c.cl DN DP = true → c.cloP (fun i => domB DN DP i = true)
  | .any, _ | .int _ _, _ | .bool _, _ | .str _, _ | .nils, _ | .abool _ _, _ | .tree _ _, _ | .giv _ _ _, _ | .mtree _ _ _, _ | .telt _ _ _, _ => trivial
  | .own _ _ _ _, h => h
  | .box _ _, h => h
  | .elt _ _ _, h => h
  | .mp _, h => h
  | .agg cs, h => AV.clL_P cs h
  | .tup cs, h => AV.clL_P cs h
  | .fn _ cs, h => AV.clL_P cs h
  | .ref cs, h => AV.clL_P cs h
theorem AV.clL_P {DN DP : List Oid} : ∀ (cs : List AV), AV.clL DN DP cs = true → AV.cloPL (fun i => domB DN DP i = true) cs
  | [], _ => trivial
  | c :: cs, h => by
    simp only [AV.clL, Bool.and_eq_true] at h
    exact ⟨AV.cl_P c h.1, AV.clL_P cs h.2⟩
end
theorem hdL_cl {D : Oid → Prop} {p : Oid} {u : Ty} (xss : List (List u.D)) (h : ∀ k, k < xss.length → D (kid p k)) : AV.cloPL D (hdL p u xss) := by
  have key : ∀ l : List (List u.D × Nat), (∀ x ∈ l, D (kid p x.2)) → AV.cloPL D (l.map fun x => .own (kid p x.2) u 0 x.1.length) := by
    intro l
    induction l with
    | nil => intro _; trivial
    | cons x l ih => intro h; exact ⟨h x (by simp), ih fun y hy => h y (by simp [hy])⟩
  refine key _ fun x hx => h _ ?_
  obtain ⟨row, k⟩ := x
  rw [List.mem_zipIdx_iff_getElem?] at hx
  exact (List.getElem?_eq_some_iff.1 hx).1
theorem Ob.cl_P {DN DP : List Oid} (o : Ob) (hp : o.isPool = false) (h : o.cl DN DP = true) : o.exp.cloP (fun i => domB DN DP i = true) := by
  cases o with
  | cells _ cs => exact AV.clL_P cs h
  | vec _ _ _ cs => exact AV.clL_P cs h
  | mat e p u xss =>
    simp only [Ob.cl, Bool.and_eq_true, beq_iff_eq] at h
    refine hdL_cl xss fun k _ => ?_
    simp only [domB]
    rw [if_neg (by simp [kid]), baseO_kid h.2]
    exact h.1
  | arr _ _ _ => trivial
  | map _ _ _ => trivial
  | pool _ _ _ => cases hp
def namesN (ol : List (Oid × Ob)) : List Oid := (ol.filter fun q => !q.2.isPool).map (·.1)
def namesP (ol : List (Oid × Ob)) : List Oid := (ol.filter fun q => q.2.isPool).map (·.1)
/-- What must hold where objects get other names. -/
def renB (l : List (Oid × Oid)) (tl : List (Nat × AV)) (ol : List (Oid × Ob)) (g : Nat) : Bool :=
  keys0 l && ((tl.all fun p => p.2.cl (namesN ol) (namesP ol)) && ((ol.all fun q => q.2.cl (namesN ol) (namesP ol)) && (ndB ((namesN ol).map (renF l)) && (ndB ((namesP ol).map (renF l)) &&
    ((ol.all fun q => decide (q.1.2 < g) && (q.1.1.2 == 0)) && ((ol.all fun q => !(q.1.2 == 0) || (renF l q.1 == q.1)) &&
      (((namesP ol).all fun i => (renF l i).1.2 == 0) && (((namesN ol).all fun i => (renF l i).1.2 == 0 || !((namesP ol).map (renF l)).contains (baseO (renF l i))) && decide (0 < g)))))))))
/-- Slots and objects are forgotten, and the others get other names. -/
theorem weak_ren {tl0 : List (Nat × AV)} {ol0 : List (Oid × Option Ob)} {g0 : Nat} (l : List (Oid × Oid)) {tl : List (Nat × AV)} {ol : List (Oid × Ob)} {g : Nat} (h1 : (tl.map fun p => mkTm tl0 p.1) = tl.map fun p => p.2.ren (renF l) := by kernel_rfl) (h2 : ObsR ol0 (renF l) ol := by exact obsR_of (by kernel_rfl)) (h3 : renB l tl ol g = true := by kernel_rfl) : Weak ⟨mkTm tl0, mkOb ol0, g0⟩ ⟨mkTm tl, mkOb (someL ol), g⟩ := by
  intro G w0 B N a w hr
  obtain ⟨σ, hm, hf, hB⟩ := hr.ex
  simp only [renB, Bool.and_eq_true, decide_eq_true_eq] at h3
  obtain ⟨c0, c1, c2, c3, c4, c5, c6, c7, c8, c9⟩ := h3
  rw [List.all_eq_true] at c1 c2 c5 c6 c7 c8
  have memN : ∀ {q}, q ∈ ol → q.2.isPool = false → q.1 ∈ namesN ol := fun hq hp => List.mem_map.2 ⟨_, List.mem_filter.2 ⟨hq, by simp [hp]⟩, rfl⟩
  have memP : ∀ {q}, q ∈ ol → q.2.isPool = true → q.1 ∈ namesP ol := fun hq hp => List.mem_map.2 ⟨_, List.mem_filter.2 ⟨hq, by simp [hp]⟩, rfl⟩
  have ofN : ∀ {i}, i ∈ namesN ol → ∃ q ∈ ol, q.1 = i := fun hi => by
    obtain ⟨q, hq, e⟩ := List.mem_map.1 hi; exact ⟨q, (List.mem_filter.1 hq).1, e⟩
  have ofP : ∀ {i}, i ∈ namesP ol → ∃ q ∈ ol, q.1 = i := fun hi => by
    obtain ⟨q, hq, e⟩ := List.mem_map.1 hi; exact ⟨q, (List.mem_filter.1 hq).1, e⟩
  have c5' : ∀ q ∈ ol, q.1.2 < g ∧ q.1.1.2 = 0 := fun q hq => by
    have := c5 q hq
    simpa only [Bool.and_eq_true, decide_eq_true_eq, beq_iff_eq] using this
  have ndN := ndB_spec c3
  have ndP := ndB_spec c4
  let D : Oid → Prop := fun i => domB (namesN ol) (namesP ol) i = true
  let σ' : Oid → Option Loc := fun i => if i.2 = 0 then σ i else if domB (namesN ol) (namesP ol) i = true then σ (renF l i) else none
  have hzero : ∀ q ∈ ol, q.1.2 = 0 → renF l q.1 = q.1 := by
    intro q hq h
    have := c6 q hq
    simp only [Bool.or_eq_true, Bool.not_eq_true', beq_eq_false_iff_ne, beq_iff_eq] at this
    exact this.resolve_left fun h' => h' h
  have hDc : ∀ i, D i → (i.1.2 = 0 ∧ i ∈ namesN ol) ∨ (i.1.2 ≠ 0 ∧ baseO i ∈ namesP ol) := by
    intro i hi
    have hi : domB (namesN ol) (namesP ol) i = true := hi
    unfold domB at hi
    split at hi
    · exact .inl ⟨by assumption, List.contains_iff_mem.1 hi⟩
    · exact .inr ⟨by assumption, List.contains_iff_mem.1 hi⟩
  have hkid : ∀ i, i.1.2 ≠ 0 → renF l i = kid (renF l (baseO i)) (i.1.2 - 1) := by
    intro i hi
    have := renF_kid c0 (p := baseO i) rfl (i.1.2 - 1)
    rwa [← kid_of hi] at this
  have hσ : ∀ i, D i → σ' i = σ (renF l i) := by
    intro i hi
    by_cases h0 : i.2 = 0
    · simp only [σ', if_pos h0]
      rcases hDc i hi with ⟨_, hm⟩ | ⟨hk, hm⟩
      · obtain ⟨q, hq, rfl⟩ := ofN hm
        rw [hzero q hq h0]
      · obtain ⟨q, hq, e⟩ := ofP hm
        have : renF l (baseO i) = baseO i := by rw [← e]; exact hzero q hq (by rw [e]; exact h0)
        rw [hkid i hk, this, ← kid_of hk]
    · simp only [σ', if_neg h0]; exact if_pos hi
  have hpl : (ol.all fun q => match q.2 with | .pool .. => q.1.1.2 == 0 | .mat _ p _ _ => p.1.2 == 0 | _ => true) = true := by
    rw [List.all_eq_true]
    rintro ⟨i, o⟩ hq
    cases o with
    | pool e u xss => simpa using (c5' _ hq).2
    | mat e p u xss =>
      have := c2 _ hq
      simp only [Ob.cl, Bool.and_eq_true] at this
      exact this.2
    | _ => rfl
  have hget := obsR_ex c0 h2 hpl
  have htget : ∀ p ∈ tl, mkTm tl0 p.1 = p.2.ren (renF l) := fun p hp => List.map_inj_left.1 h1 p hp
  have hex : ∀ q ∈ exL ol, D q.1 ∧ q.2.cloP D := by
    intro q hq
    rcases exL_mem hq with ⟨p, e, u, xss, k, row, m1, m2, rfl⟩ | ⟨o, m1, m2, m3⟩
    · refine ⟨?_, trivial⟩
      show domB _ _ _ = true
      unfold domB
      rw [if_neg (by simp [kid]), baseO_kid (c5' _ m1).2]
      exact List.contains_iff_mem.2 (memP m1 rfl)
    · refine ⟨?_, by rw [m3]; exact Ob.cl_P o m2 (c2 _ m1)⟩
      show domB _ _ _ = true
      unfold domB
      rw [if_pos (c5' (q.1, o) m1).2]
      exact List.contains_iff_mem.2 (memN (q := (q.1, o)) m1 m2)
  have hinj : ∀ q ∈ exL ol, ∀ q' ∈ exL ol, renF l q.1 = renF l q'.1 → q.1 = q'.1 := by
    intro q hq q' hq' e
    rcases hDc _ (hex q hq).1 with ⟨a1, a2⟩ | ⟨a1, a2⟩ <;> rcases hDc _ (hex q' hq').1 with ⟨b1, b2⟩ | ⟨b1, b2⟩
    · exact inj_of_nd ndN a2 b2 e
    · exfalso
      rw [hkid _ b1] at e
      have hz := c7 _ b2
      rw [beq_iff_eq] at hz
      have := c8 _ a2
      rw [e] at this
      simp only [Bool.or_eq_true, beq_iff_eq, Bool.not_eq_true', baseO_kid hz] at this
      rcases this with h | h
      · simp [kid] at h
      · rw [List.contains_iff_mem.2 (List.mem_map.2 ⟨_, b2, rfl⟩)] at h
        cases h
    · exfalso
      rw [hkid _ a1] at e
      have hz := c7 _ a2
      rw [beq_iff_eq] at hz
      have := c8 _ b2
      rw [← e] at this
      simp only [Bool.or_eq_true, beq_iff_eq, Bool.not_eq_true', baseO_kid hz] at this
      rcases this with h | h
      · simp [kid] at h
      · rw [List.contains_iff_mem.2 (List.mem_map.2 ⟨_, a2, rfl⟩)] at h
        cases h
    · rw [hkid _ a1, hkid _ b1] at e
      have z1 := c7 _ a2
      have z2 := c7 _ b2
      rw [beq_iff_eq] at z1 z2
      have e1 : renF l (baseO q.1) = renF l (baseO q'.1) := by
        rw [← baseO_kid z1 (q.1.1.2 - 1), e, baseO_kid z2]
      have e2 := inj_of_nd ndP a2 b2 e1
      rw [e1] at e
      have e3 := kid_inj e
      rw [kid_of a1, kid_of b1, e2, e3]
  have him : ∀ b, imm (mkOb ol0) σ b → imm (mkOb (someL ol)) σ' b := by
    intro b hb i o cp s ho hs
    have hq := mkOb_exL ho
    rw [hσ i (hex _ hq).1] at hs
    exact hb (renF l i) _ cp s (hget _ hq) hs
  have hσ0 : ∀ i l', σ' i = some l' → (i.2 = 0 ∧ σ i = some l') ∨ (D i ∧ σ (renF l i) = some l') := by
    intro i l' hi
    simp only [σ'] at hi
    split at hi
    · exact .inl ⟨by assumption, hi⟩
    · split at hi
      · exact .inr ⟨by assumption, hi⟩
      · cases hi
  refine ⟨⟨σ', ⟨hm.below, hm.inv, fun i l' hi => ?_, fun i b cp s hi => ?_, fun i b cp s hi => ?_, fun i j b cp s cp' s' o o' hi hj e1 e2 => ?_, fun i o l' ho hl => ?_⟩, fun t => ?_, ?_⟩, hr.size, hr.defers, fun i hi => ?_⟩
  · rcases hσ0 i l' hi with ⟨h, _⟩ | ⟨h, _⟩
    · show i.2 < g; omega
    · show i.2 < g
      rcases hDc i h with ⟨_, hm⟩ | ⟨_, hm⟩
      · obtain ⟨q, hq, rfl⟩ := ofN hm
        exact (c5' q hq).1
      · obtain ⟨q, hq, e⟩ := ofP hm
        have := (c5' q hq).1
        rw [e] at this
        exact this
  · rcases hσ0 i _ hi with ⟨_, h⟩ | ⟨_, h⟩ <;> exact hm.lt _ b cp s h
  · rcases hσ0 i _ hi with ⟨_, h⟩ | ⟨_, h⟩ <;> exact hm.cap _ b cp s h
  · have q1 := mkOb_exL hi
    have q2 := mkOb_exL hj
    rw [hσ i (hex _ q1).1] at e1
    rw [hσ j (hex _ q2).1] at e2
    have := hm.inj (renF l i) (renF l j) b cp s cp' s' _ _ (hget _ q1) (hget _ q2) e1 e2
    exact hinj _ q1 _ q2 this
  · have hq := mkOb_exL ho
    rw [hσ i (hex _ hq).1] at hl
    exact ob_bwd hσ him (hex _ hq).2 (hm.obs (renF l i) _ l' (hget _ hq) hl)
  · have key : ∀ l' : List (Nat × AV), (∀ p ∈ l', p ∈ tl) → AV.Rep σ' (imm (mkOb (someL ol)) σ') w (mkTm l' t) (a.tmps.getD t undef) := by
      intro l'
      induction l' with
      | nil => intro _; trivial
      | cons p r ih =>
        obtain ⟨j, v⟩ := p
        intro h
        simp only [mkTm]
        split
        · rename_i e; subst e
          have hp := h (t, v) (by simp)
          have : AV.Rep σ (imm (mkOb ol0) σ) w (mkTm tl0 t) (a.tmps.getD t undef) := hf t
          rw [show mkTm tl0 t = v.ren (renF l) from htget _ hp] at this
          exact ren_rep hσ him v _ (AV.cl_P v (c1 _ hp)) this
        · exact ih fun p hp => h p (by simp [hp])
    exact key tl fun _ h => h
  · refine ⟨fun i l' hi => ?_, fun b hb hi => him b (hB.im_ b hb hi), hB.blk, hB.size⟩
    have := hB.loc i l' hi
    have h0 := B.zero i l' hi
    simp only [σ', if_pos h0]
    exact this
  · cases ho : mkOb (someL ol) i with
    | none => exact absurd ho hi
    | some o =>
      show i.2 < g
      rcases hDc i (hex _ (mkOb_exL ho)).1 with ⟨_, hm⟩ | ⟨_, hm⟩
      · obtain ⟨q, hq, rfl⟩ := ofN hm
        exact (c5' q hq).1
      · obtain ⟨q, hq, e⟩ := ofP hm
        have := (c5' q hq).1
        rw [e] at this
        exact this

/-- Code that is given as compiled. -/
def compiled (P : Program) (fn : Func) : Option (AC × List Res) :=
  match fn.body with
  | some c => match AC.of P fn.ntmps c, Res.ofL P fn.results.toList with
    | some ac, some rs => some (ac, rs)
    | _, _ => none
  | none => none
theorem call_of {P : Program} [IsP P] {G : World → Prop} (hfol : P.follows .mixedOrders = true) {g : FuncId} {fn : Func} (hf : P.funcs[g]? = some fn) {ac : AC} {rs : List Res} (hc : compiled P fn = some (ac, rs)) {args : List AV} {r : RV} {n : Nat} (hN : fn.ntmps = n) (hn : args.length ≤ n)
    (h : awp P G ac (fun e S => ∃ S', Weak S S' ∧ (e = .normal ∨ e = .ret) ∧ RetOK [] rs S' r) (St.init args)) : CallOK P G g args r := by
  unfold compiled at hc
  split at hc
  · rename_i c hb
    split at hc
    · rename_i ac' rs' h1 h2
      obtain ⟨rfl, rfl⟩ := Prod.mk.inj (Option.some.inj hc)
      exact call_ok hfol hf hb h1 h2 (by omega) fun im w vs hr => ⟨args, rfl, hr, awp_mono (fun e S ⟨S', hw, he, hq⟩ => ⟨S', hw, he, hq.wide⟩) h⟩
    · cases hc
  · cases hc
/-- The same, where parts of what was given may be handed back. -/
theorem call_of_g {P : Program} [IsP P] {G : World → Prop} (hfol : P.follows .mixedOrders = true) {g : FuncId} {fn : Func} (hf : P.funcs[g]? = some fn) {ac : AC} {rs : List Res} (hc : compiled P fn = some (ac, rs)) {args : List AV} {r : RV} {n : Nat} (hN : fn.ntmps = n) (hn : args.length ≤ n)
    (h : ∀ (im : Nat → Prop) (w : World) (vs : List Value), AV.RepL (fun _ => none) im w args vs → awp P G ac (fun e S => ∃ S', Weak S S' ∧ (e = .normal ∨ e = .ret) ∧ RetOK vs rs S' r) (St.init (tagL args vs))) : CallOK P G g args r := by
  unfold compiled at hc
  split at hc
  · rename_i c hb
    split at hc
    · rename_i ac' rs' h1 h2
      obtain ⟨rfl, rfl⟩ := Prod.mk.inj (Option.some.inj hc)
      exact call_ok hfol hf hb h1 h2 (by omega) fun im w vs hr => ⟨tagL args vs, tagL_length args vs, tagL_rep hr, h im w vs hr⟩
    · cases hc
  · cases hc
/-- The same for a function that is given objects, or makes such. -/
theorem callM_of {P : Program} [IsP P] {G : World → Prop} (hfol : P.follows .mixedOrders = true) {g : FuncId} {fn : Func} (hf : P.funcs[g]? = some fn) {ac : AC} {rs : List Res} (hc : compiled P fn = some (ac, rs)) {args : List AV} {n : Nat} (hN : fn.ntmps = n) (hn : args.length ≤ n)
    {ol us : List (Oid × Ob)} {v : AV} (hz : ∀ q ∈ exL ol, q.1.2 = 0 ∧ q.2.cloP (· ∈ nmL ol)) (hnd : (nmL us).Nodup) (hus : ∀ q ∈ exL us, (q.1.2 = 1 ∨ q.1 ∈ nmL ol) ∧ q.2.hp (· ∈ nmL us)) (hcl : AV.cloPL (· ∈ nmL ol) args) (hv : v.hp (· ∈ nmL us))
    (h : awp P G ac (fun e S => ∃ S', Weak S S' ∧ (e = .normal ∨ e = .ret) ∧ (∃ rvs, Res.evL S'.tm S'.ob rs = some rvs ∧ v = resA rvs) ∧ ∀ q ∈ exL us, S'.ob q.1 = some q.2) ⟨fun i => args.getD i .any, mkOb (someL ol), 1⟩) : CallM P G g args ol v us := by
  unfold compiled at hc
  split at hc
  · rename_i c hb
    split at hc
    · rename_i ac' rs' h1 h2
      obtain ⟨rfl, rfl⟩ := Prod.mk.inj (Option.some.inj hc)
      exact callM_ok hfol hf hb h1 h2 (by omega) hz hnd hus hcl hv h
    · cases hc
  · cases hc
end Go.Proofs.YtefolocdfgelcaaDoor
