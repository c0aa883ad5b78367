/- An abstract machine: steps on rows of rows, each by its own law; no condition. -/
import Derived.Test.YtefolocdfgelcaaDoorE19
namespace Go.Proofs.YtefolocdfgelcaaDoor
open Go.RowKit Go.Deep

/-- Short spellings of compiled code and of values. -/
abbrev tm (n : Nat) : Opd := .tmp n
abbrev cb (b : Bool) : Opd := .cst (.bool b)
abbrev ci (n : Int) : Opd := .cst (.int .i64 n)
abbrev xo (d : Nat) (q : Q) : X := ⟨some d, none, q⟩
abbrev xg (d s : Nat) (b : Bool) (q : Q) : X := ⟨some d, some (s, b), q⟩
abbrev xn (q : Q) : X := ⟨none, none, q⟩
abbrev qm (x : Opd) : Q := .i (.mov x)
abbrev ql (x : Opd) : Q := .i (.ld true 1 x)
abbrev qs (x y : Opd) : Q := .st true 1 x y
abbrev qf (k : Nat) (x : Opd) : Q := .i (.fld k x)
abbrev qb (o : BinOp) (x y : Opd) : Q := .i (.bin o x y)
abbrev qx (sz : Nat) (x y : Opd) : Q := .i (.idx sz x y)
abbrev qc (f : FuncId) (xs : List Opd) (tys : List (List (Option Ty))) : Q := .call (.cst (.fn f [])) xs tys
abbrev rg (xs : List X) : AC := .region xs false []
abbrev ai (n : Int) : AV := .int .i64 n
abbrev oi (a b : Nat) : Oid := ((a, 0), b)
def putL (d : Option Nat) (v : AV) (tl : List (Nat × AV)) : List (Nat × AV) :=
  match d with
  | some d => (d, v) :: tl
  | none => tl
theorem putT_L (d : Option Nat) (v : AV) (tl : List (Nat × AV)) : putT d v (mkTm tl) = mkTm (putL d v tl) := by
  cases d with
  | none => rfl
  | some d => simp only [putT, putL, upd_mkTm]
/-- So many steps that need nothing besides. -/
noncomputable def runW (g : Nat) : Nat → Nat → List X → List (Nat × AV) → List (Oid × Option Ob) → Option (List (Nat × AV) × List (Oid × Option Ob))
  | 0, _, _, tl, ol => some (tl, ol)
  | _ + 1, _, [], _, _ => none
  | n + 1, k, x :: xs, tl, ol => match stepX (g + k) x (mkTm tl) (mkOb ol) with
    | some (_, v, us) => if exactU us then runW g n (k + 1) xs (putL x.dst v tl) (us.reverseAux ol) else none
    | none => none
noncomputable def runD (g : Nat) : Nat → Nat → List X → List (Nat × AV) → List (Oid × Option Ob) → List Rec → List (List Oid) → Option (List (Nat × AV) × List (Oid × Option Ob) × List Rec × List (List Oid))
  | 0, _, _, tl, ol, ra, da => some (tl, ol, ra, da)
  | _ + 1, _, [], _, _, _, _ => none
  | n + 1, k, x :: xs, tl, ol, ra, da => match stepX (g + k) x (mkTm tl) (only (rdX (mkTm tl) (mkOb ol) x) (mkOb ol)) with
    | some (c, v, us) => if exactU us then runD g n (k + 1) xs (putL x.dst v tl) (us.reverseAux ol) ((c, v, us) :: ra) (rdX (mkTm tl) (mkOb ol) x :: da) else none
    | none => none
theorem rsB_ {P : Program} {G : World → Prop} {g : Nat} {Kf : List (Nat × AV) → List (Oid × Option Ob) → Prop} : ∀ (n k : Nat) (xs : List X) (tl : List (Nat × AV)) (ol : List (Oid × Option Ob)) (r : List (Nat × AV) × List (Oid × Option Ob)), runW g n k xs tl ol = some r → XW P G g (k + n) (xs.drop n) r.1 r.2 Kf → XW P G g k xs tl ol Kf
  | 0, k, xs, tl, ol, r, h, hk => by
    obtain rfl := Option.some.inj h
    exact hk
  | n + 1, k, [], tl, ol, r, h, hk => by cases h
  | n + 1, k, x :: xs, tl, ol, r, h, hk => by
    simp only [runW] at h
    split at h
    · rename_i c v us hst
      split at h
      · rename_i hx
        obtain ⟨rs, tl', ol', h1, h2⟩ := rsB_ (P := P) (G := G) n (k + 1) xs _ _ r h (by rw [show k + 1 + n = k + (n + 1) by omega]; exact hk)
        exact ⟨(c, v, us) :: rs, tl', ol', ⟨_, _, rfl, stepX_R hst, by rw [putT_L, applyU_mkOb _ _ hx]; exact h1⟩, h2⟩
      · cases h
    · cases h
theorem rsB {P : Program} {G : World → Prop} {g k : Nat} {xs : List X} {tl : List (Nat × AV)} {ol : List (Oid × Option Ob)} {Kf : List (Nat × AV) → List (Oid × Option Ob) → Prop} (n : Nat) (hk : XW P G g (k + n) (xs.drop n) ((runW g n k xs tl ol).getD ([], [])).1 ((runW g n k xs tl ol).getD ([], [])).2 Kf) (h : (runW g n k xs tl ol).isSome = true := by kernel_rfl) : XW P G g k xs tl ol Kf := by
  obtain ⟨r, hr⟩ := Option.isSome_iff_exists.1 h
  rw [hr] at hk
  exact rsB_ n k xs tl ol r hr hk
theorem dsB_ {P : Program} {G : World → Prop} {g : Nat} {bad : List (Nat × Nat)} {Kf : List (Nat × AV) → List (Oid × Option Ob) → Prop} : ∀ (n k : Nat) (xs : List X) (tl : List (Nat × AV)) (ol : List (Oid × Option Ob)) (ra : List Rec) (da : List (List Oid)) (r : List (Nat × AV) × List (Oid × Option Ob) × List Rec × List (List Oid)), runD g n k xs tl ol ra da = some r → XD P G bad g (k + n) (xs.drop n) r.1 r.2.1 r.2.2.1 r.2.2.2 Kf → XD P G bad g k xs tl ol ra da Kf
  | 0, k, xs, tl, ol, ra, da, r, h, hk => by
    obtain rfl := Option.some.inj h
    exact hk
  | n + 1, k, [], tl, ol, ra, da, r, h, hk => by cases h
  | n + 1, k, x :: xs, tl, ol, ra, da, r, h, hk => by
    simp only [runD] at h
    split at h
    · rename_i c v us hst
      split at h
      · rename_i hx
        obtain ⟨rs, ds, tl', ol', h1, hb, h2⟩ := dsB_ (P := P) (G := G) n (k + 1) xs _ _ _ _ r h (by rw [show k + 1 + n = k + (n + 1) by omega]; exact hk)
        refine ⟨(c, v, us) :: rs, rdX (mkTm tl) (mkOb ol) x :: ds, tl', ol', ⟨_, _, _, rfl, rfl, stepX_R hst, by rw [putT_L, applyU_mkOb _ _ hx]; exact h1⟩, ?_, h2⟩
        simpa using hb
      · cases h
    · cases h
theorem dsB {P : Program} {G : World → Prop} {g k : Nat} {xs : List X} {tl : List (Nat × AV)} {ol : List (Oid × Option Ob)} {bad : List (Nat × Nat)} {ra : List Rec} {da : List (List Oid)} {Kf : List (Nat × AV) → List (Oid × Option Ob) → Prop} (n : Nat) (hk : XD P G bad g (k + n) (xs.drop n) ((runD g n k xs tl ol ra da).getD ([], [], [], [])).1 ((runD g n k xs tl ol ra da).getD ([], [], [], [])).2.1 ((runD g n k xs tl ol ra da).getD ([], [], [], [])).2.2.1 ((runD g n k xs tl ol ra da).getD ([], [], [], [])).2.2.2 Kf) (h : (runD g n k xs tl ol ra da).isSome = true := by kernel_rfl) : XD P G bad g k xs tl ol ra da Kf := by
  obtain ⟨r, hr⟩ := Option.isSome_iff_exists.1 h
  rw [hr] at hk
  exact dsB_ n k xs tl ol ra da r hr hk
/-- A region of which all steps need nothing besides, and what comes behind it. -/
theorem seqR {P : Program} {G : World → Prop} {g : Nat} {xs : List X} {bad : List (Nat × Nat)} {y : AC} {R : AE → St → Prop} {tl : List (Nat × AV)} {ol : List (Oid × Option Ob)} (h : awp P G y R ⟨mkTm ((runW g xs.length 0 xs tl ol).getD ([], [])).1, mkOb ((runW g xs.length 0 xs tl ol).getD ([], [])).2, g + xs.length⟩) (hs : (runW g xs.length 0 xs tl ol).isSome = true := by kernel_rfl) : awp P G (.seq (.region xs false bad) y) R ⟨mkTm tl, mkOb ol, g⟩ := by
  refine awp_seqv_ (awp_region_ (g + xs.length) (rsB xs.length (by rw [List.drop_length]; exact rnil (tn_ ⟨_, Weak.refl _, h⟩)) hs) rfl)
theorem only1 {i : Oid} {ob : Oid → Option Ob} : only [i] ob i = ob i := if_pos (List.mem_singleton.2 rfl)
section
variable {n : Nat} {d : Option Nat} {f : Nat → AV} {ob : Oid → Option Ob} {ol : List (Oid × Option Ob)}
theorem mat_mk {o p : Oid} {e1 : TypeId} {u : Ty} {xss : List (List u.D)} (h : entAt ol o = some (.mat e1 p u xss)) : mkOb ol o = some (.vec e1 1 xss.length (hdL p u xss)) := by
  rw [entAt_mk, h]; rfl
/-- A row of a row of rows. -/
theorem s_ldM {x : Opd} {o p : Oid} {e1 : TypeId} {u : Ty} {xss : List (List u.D)} {row : List u.D} {j : Nat} (hx : x.ev f = .elt o j 0) (hob : ob o = some (.vec e1 1 xss.length (hdL p u xss))) (hr : xss[j]? = some row) : stepX n ⟨d, none, .i (.ld true 1 x)⟩ f ob = some (1, .own (kid p j) u 0 row.length, []) := by
  have h : (hdL p u xss)[j * 1 + 0]? = some (.own (kid p j) u 0 row.length) := by rw [hdL_get]; simp [hr]
  simp only [Nat.mul_one, Nat.add_zero] at h
  simp [stepX, ev, evN, evR, hx, hob, ldCells, h]
/-- A row is put in the place of another. -/
theorem s_stV {x y : Opd} {o : Oid} {e1 : TypeId} {m : Nat} {cs : List AV} {v : AV} {j : Nat} (hx : x.ev f = .elt o j 0) (hob : ob o = some (.vec e1 1 m cs)) (hy : y.ev f = v) (hv : v.one = true) (hj : j < cs.length) : stepX n ⟨d, none, .st true 1 x y⟩ f ob = some (2, .any, [(o, none), (o, some (.vec e1 1 m (cs.set j v)))]) := by
  simp [stepX, ev, evSt, hx, hob, hy, stCells, hv, hj]
/-- A row is appended. -/
theorem s_appVO {x y : Opd} {o q : Oid} {e1 e2 : TypeId} {u : Ty} {t' : Ty} {b : Nat} {p : Oid} {xss : List (List u.D)} {cs : List AV} {len : Nat} (hx : x.ev f = .own o t' 0 len) (hob : ob o = some (.vec e1 1 xss.length (hdL p u xss))) (hl : len = xss.length) {t2 : Ty} (hy : y.ev f = .own q t2 0 1) (hq : ob q = some (.vec e2 1 1 cs)) (hc : cs.length = 1) (h : xss.length + 1 ≤ 1073741824 ∧ (xss.length + 1) * b ≤ 140737488355328) :
    stepX n ⟨d, none, .appV e1 (.slice u) b x y⟩ f ob = some (2, .own (o.1, n) (.slice u) 0 (xss.length + 1), [(o, none), ((o.1, n), some (.vec e1 1 (xss.length + 1) (hdL p u xss ++ cs)))]) := by
  subst hl
  have h1 : List.take (xss.length * 1) (hdL p u xss) = hdL p u xss := by rw [Nat.mul_one]; exact List.take_of_length_le (by rw [hdL_len]; exact Nat.le_refl _)
  have h2 : List.take (1 * 1) (List.drop (0 * 1) cs) = cs := by simp only [Nat.zero_mul, List.drop_zero, Nat.mul_one]; exact List.take_of_length_le (by omega)
  simp only [stepX, ev, evAppV, hx, hy, srcV, hq, hob, Ty.size, true_and, Nat.zero_add, Nat.le_refl, if_true, h1, h2, h.1, h.2, and_self]
theorem s_appVN {x y : Opd} {q : Oid} {e1 e2 : TypeId} {u : Ty} {b : Nat} {cs : List AV} (hx : x.ev f = .nils) {t2 : Ty} (hy : y.ev f = .own q t2 0 1) (hq : ob q = some (.vec e2 1 1 cs)) (hc : cs.length = 1) (h : 1 ≤ 1073741824 ∧ 1 * b ≤ 140737488355328) :
    stepX n ⟨d, none, .appV e1 (.slice u) b x y⟩ f ob = some (1, .own ((d.getD 0, 0), n) (.slice u) 0 1, [(((d.getD 0, 0), n), some (.vec e1 1 1 cs))]) := by
  have h2 : List.take (1 * 1) (List.drop (0 * 1) cs) = cs := by simp only [Nat.zero_mul, List.drop_zero, Nat.mul_one]; exact List.take_of_length_le (by omega)
  simp only [stepX, ev, evAppV, hx, hy, srcV, hq, Ty.size, true_and, Nat.zero_add, Nat.le_refl, if_true, h2, h.1, h.2, and_self]
/-- A literal of things. -/
theorem s_mkV {i : Oid} {e : TypeId} {t : Ty} {sz : Nat} {xs : List Opd} {r : Rec} (h : (evMkV f i e t sz xs).map (fun r => ((1 : Nat), r.1, r.2)) = some r) : evL f i (.mkV e t sz xs) = some r := by
  simp only [evL]
  cases hq : evMkV f i e t sz xs with
  | none => rw [hq] at h; cases h
  | some q => rw [hq] at h; obtain ⟨v, us⟩ := q; exact h
theorem s_makeM {i : Oid} {e : TypeId} (e' : TypeId) {u : Ty} {b : Nat} {x y : Opd} {k k' : IntKind} {m c : Int} {j : Nat} (hx : x.ev f = .int k m) (hy : y.ev f = .int k' c) (h : 0 ≤ m ∧ m ≤ c ∧ c ≤ 1073741824 ∧ (b : Int) * c ≤ 140737488355328) (hfl : u.flat = true) (hj : m.toNat = j) :
    MakeM f i (.makeV e (.slice u) b [.nils] x y) (1, RV.out ⟨false, [(false, [.newM e e' u (List.replicate j [])])]⟩ (mkId i) []) := by
  subst hj
  exact ⟨e, e', u, b, x, y, k, k', m, c, rfl, hx, hy, h, hfl, rfl⟩
/-- What a new row of rows makes of a list of objects. -/
theorem mat_new {i : Oid} {e e' : TypeId} {u : Ty} {xss : List (List u.D)} (h : noGen i.2 ol = true) : applyU (RV.out ⟨false, [(false, [.newM e e' u xss])]⟩ (mkId i) []).2 (mkOb ol) = mkOb ((mkId i 0, some (.mat e (mkId i 0) u xss)) :: (mkId i 0, some (.pool e' u xss)) :: ol) := by
  have e0 : (RV.out ⟨false, [(false, [.newM e e' u xss])]⟩ (mkId i) []).2 = (mkId i 0, some (.vec e 1 xss.length (hdL (mkId i 0) u xss))) :: (kidsL (mkId i 0) e' u xss ++ []) := rfl
  rw [e0, List.append_nil]
  show applyU (kidsL (mkId i 0) e' u xss) (upd (mkOb ol) (mkId i 0) (some (.vec e 1 xss.length (hdL (mkId i 0) u xss)))) = _
  rw [upd_mkOb rfl, applyU_kids (fun k => by
    have : mkOb ((mkId i 0, some (.vec e 1 xss.length (hdL (mkId i 0) u xss))) :: ol) (kid (mkId i 0) k) = if kid (mkId i 0) k = mkId i 0 then some (.vec e 1 xss.length (hdL (mkId i 0) u xss)) else mkOb ol (kid (mkId i 0) k) := by simp only [mkOb]
    rw [this, if_neg (fun e => by have := congrArg (fun i : Oid => i.1.2) e; simp [kid, mkId] at this)]
    exact noGen_none h _ rfl)]
  funext j
  have h2 : ∀ j, mkOb ((mkId i 0, some (.vec e 1 xss.length (hdL (mkId i 0) u xss))) :: ol) j = if j = mkId i 0 then some (.vec e 1 xss.length (hdL (mkId i 0) u xss)) else mkOb ol j := fun j => by simp only [mkOb]
  rw [mkOb_mat, mkOb_pool, mkOb_pool, h2]
  by_cases hj : j = mkId i 0
  · subst hj
    rw [if_pos rfl, if_neg (fun h => h.2.2 rfl), if_pos rfl]
  · rw [if_neg hj, if_neg hj]
end
section
variable {P : Program} {G : World → Prop} {g k d : Nat} {gd : Option (Nat × Bool)} {q : Q} {xs : List X} {tl : List (Nat × AV)} {ol : List (Oid × Option Ob)} {bad : List (Nat × Nat)} {ra : List Rec} {da : List (List Oid)} {Kf : List (Nat × AV) → List (Oid × Option Ob) → Prop}
theorem rmkV (v : AV) (i : Oid) (o : Ob) (hgd : gdOK gd (mkTm tl)) (h : evL (mkTm tl) ((d, 0), g + k) q = some (1, v, [(i, some o)])) (h3 : XW P G g (k + 1) xs ((d, v) :: tl) ((i, some o) :: ol) Kf) (hx : exactO (some o) = true := by rfl) : XW P G g k (⟨some d, gd, q⟩ :: xs) tl ol Kf := rstep 1 v _ (mkV_R (d := some d) hgd h) h3 (by simp only [exactU, List.all_cons, List.all_nil, hx]; rfl)
theorem dmkV (v : AV) (i : Oid) (o : Ob) (hgd : gdOK gd (mkTm tl)) (h : evL (mkTm tl) ((d, 0), g + k) q = some (1, v, [(i, some o)])) (h3 : XD P G bad g (k + 1) xs ((d, v) :: tl) ((i, some o) :: ol) ((1, v, [(i, some o)]) :: ra) ((rdX (mkTm tl) (mkOb ol) ⟨some d, gd, q⟩) :: da) Kf) (hx : exactO (some o) = true := by rfl) : XD P G bad g k (⟨some d, gd, q⟩ :: xs) tl ol ra da Kf := dstep 1 v _ (mkV_R (d := some d) hgd h) h3 (by simp only [exactU, List.all_cons, List.all_nil, hx]; rfl)
theorem rmakeM (v : AV) (i : Oid) (e e' : TypeId) (u : Ty) (xss : List (List u.D)) (hgd : gdOK gd (mkTm tl)) (h : MakeM (mkTm tl) ((d, 0), g + k) q (1, RV.out ⟨false, [(false, [.newM e e' u xss])]⟩ (mkId ((d, 0), g + k)) [])) (hi : mkId ((d, 0), g + k) 0 = i) (hv : AV.own i (.slice u) 0 xss.length = v) (hn : noGen (g + k) ol = true) (h3 : XW P G g (k + 1) xs ((d, v) :: tl) ((i, some (.mat e i u xss)) :: (i, some (.pool e' u xss)) :: ol) Kf) : XW P G g k (⟨some d, gd, q⟩ :: xs) tl ol Kf := by
  subst hi hv
  exact rstepE 1 _ _ _ (makeM_R (d := some d) hgd h) (mat_new hn) h3
theorem dmakeM (v : AV) (i : Oid) (e e' : TypeId) (u : Ty) (xss : List (List u.D)) (hgd : gdOK gd (mkTm tl)) (h : MakeM (mkTm tl) ((d, 0), g + k) q (1, RV.out ⟨false, [(false, [.newM e e' u xss])]⟩ (mkId ((d, 0), g + k)) [])) (hi : mkId ((d, 0), g + k) 0 = i) (hv : AV.own i (.slice u) 0 xss.length = v) (hn : noGen (g + k) ol = true) (h3 : XD P G bad g (k + 1) xs ((d, v) :: tl) ((i, some (.mat e i u xss)) :: (i, some (.pool e' u xss)) :: ol) ((1, v, (RV.out ⟨false, [(false, [.newM e e' u xss])]⟩ (mkId ((d, 0), g + k)) []).2) :: ra) ((rdX (mkTm tl) (mkOb ol) ⟨some d, gd, q⟩) :: da) Kf) : XD P G bad g k (⟨some d, gd, q⟩ :: xs) tl ol ra da Kf := by
  subst hi hv
  exact dstepE 1 _ _ _ (makeM_R (d := some d) hgd h) (mat_new hn) h3
end
-- what arguments read as
section
variable {ol : List (Oid × Option Ob)} {n : Nat}
theorem chunks_one {α : Type} {g : List AV → Option α} : ∀ {cs : List AV} {xs : List α}, cs.length = xs.length → (∀ (k : Nat) (c : AV) (x : α), cs[k]? = some c → xs[k]? = some x → g [c] = some x) → chunks g 1 xs.length cs = some xs
  | [], [], _, _ => rfl
  | c :: cs, x :: xs, hl, h => by
    have h0 := h 0 c x rfl rfl
    have ih := chunks_one (g := g) (cs := cs) (xs := xs) (by simpa using hl) (fun k c x h1 h2 => h (k + 1) c x h1 h2)
    simp only [List.length_cons, chunks, List.take_succ_cons, List.take_zero, List.drop_succ_cons, List.drop_zero, h0, ih]
  | [], _ :: _, hl, _ => by simp at hl
  | _ :: _, [], hl, _ => by simp at hl
theorem vecD_mat {ob : Oid → Option Ob} {o p : Oid} {e1 e : TypeId} {u : Ty} {xss : List (List u.D)} {m len : Nat} (ho : ob o = some (.vec e1 1 m (hdL p u xss))) (hm : m = xss.length) (hk : ∀ k row, xss[k]? = some row → ob (kid p k) = some (.arr e u row)) {t' : Ty} (hl : len ≤ xss.length) : vecD ob 1 (rdC ob (.slice u)) (.own o t' 0 len) = some (xss.take len) := by
  have h1 : (((hdL p u xss).drop (0 * 1)).take (len * 1)) = hdL p u (xss.take len) := by
    simp only [Nat.zero_mul, List.drop_zero, Nat.mul_one]
    apply List.ext_getElem?
    intro j
    rw [List.getElem?_take, hdL_get, hdL_get, List.getElem?_take]
    split <;> rfl
  have hlen : (xss.take len).length = len := by rw [List.length_take]; omega
  simp only [vecD, ho]
  rw [if_pos ⟨trivial, by omega⟩, h1]
  have := chunks_one (g := rdC ob (.slice u)) (cs := hdL p u (xss.take len)) (xs := xss.take len) hdL_len (fun k c x hc hx => by
    rw [hdL_get, hx] at hc
    obtain rfl := Option.some.inj hc
    rw [List.getElem?_take] at hx
    split at hx
    · have := hk k x hx
      simp only [rdC, srcOf, this, Nat.zero_add, Nat.le_refl, if_true, Ty.eq?_self, castL_self, List.drop_zero, List.take_length]
    · cases hx)
  rw [hlen] at this
  exact this
theorem gd_mat {ob : Oid → Option Ob} {o p : Oid} {e1 e : TypeId} {u : Ty} {xss : List (List u.D)} {len : Nat} (ho : ob o = some (.vec e1 1 xss.length (hdL p u xss))) (hk : ∀ k row, xss[k]? = some row → ob (kid p k) = some (.arr e u row)) (hl : len = xss.length) : gnd ob (n + 1) (.own o (.slice u) 0 len) = some (.tree (.slice u) xss) := by
  subst hl
  have := vecD_mat (t' := .slice u) ho rfl hk (Nat.le_refl _)
  rw [List.take_length] at this
  simp only [gnd, ho, Ty.size, this, Option.map_some]
theorem gd_matP {ob : Oid → Option Ob} {o p : Oid} {e1 e : TypeId} {u : Ty} {xss : List (List u.D)} {len : Nat} (ho : ob o = some (.vec e1 1 xss.length (hdL p u xss))) (hk : ∀ k row, xss[k]? = some row → ob (kid p k) = some (.arr e u row)) (hl : len ≤ xss.length) : gnd ob (n + 1) (.own o (.slice u) 0 len) = some (.tree (.slice u) (xss.take len)) := by
  have := vecD_mat (t' := .slice u) ho rfl hk hl
  simp only [gnd, ho, Ty.size, this, Option.map_some]
theorem pool_rows {p : Oid} {e : TypeId} {u : Ty} {xss : List (List u.D)} (h : poolAt ol p = some (.pool e u xss)) : ∀ k row, xss[k]? = some row → mkOb ol (kid p k) = some (.arr e u row) := fun _ _ hx => mkOb_kid h hx
/-- The objects but those that are given. -/
def notIn (θ : Oid → Oid) (ol0 : List (Oid × Ob)) (i : Oid) : Bool := ol0.all fun q => if q.2.isPool then !(i.1.1 == (θ q.1).1.1 && (i.2 == (θ q.1).2 && i.1.2 != 0)) else i != θ q.1
theorem less_at {l : List (Oid × Oid)} {ob : Oid → Option Ob} {ol0 : List (Oid × Ob)} {i : Oid} (hl : keys0 l = true) (h0 : base0 ol0 = true) (h : notIn (renF l) ol0 i = true) : less ((nmL ol0).map (renF l)) ob i = ob i := by
  unfold less
  rw [if_neg]
  intro hm
  obtain ⟨j, hj, rfl⟩ := List.mem_map.1 hm
  obtain ⟨q, hq, rfl⟩ := List.mem_map.1 hj
  unfold notIn at h
  rw [List.all_eq_true] at h
  unfold base0 at h0
  rw [List.all_eq_true] at h0
  rcases exL_mem hq with ⟨p, e, u, xss, k, row, m1, m2, rfl⟩ | ⟨o, m1, m2, m3⟩
  · have := h _ m1
    have hz := h0 _ m1
    simp only [Bool.and_eq_true, beq_iff_eq] at hz
    rw [renF_kid hl hz.1] at this
    simp [Ob.isPool, kid] at this
  · have := h _ m1
    simp [m2] at this
theorem less_pool {l : List (Oid × Oid)} {ob : Oid → Option Ob} {ol0 : List (Oid × Ob)} {p : Oid} {e : TypeId} {u : Ty} {xss : List (List u.D)} (hl : keys0 l = true) (h0 : base0 ol0 = true) (hk : ∀ k row, xss[k]? = some row → ob (kid p k) = some (.arr e u row)) (hn : (ol0.all fun q => !((renF l q.1).1.1 == p.1.1 && ((renF l q.1).2 == p.2))) = true) : ∀ k row, xss[k]? = some row → less ((nmL ol0).map (renF l)) ob (kid p k) = some (.arr e u row) := by
  intro k row hx
  rw [less_at hl h0, hk k row hx]
  unfold notIn
  rw [List.all_eq_true] at hn ⊢
  intro q hq
  have := hn q hq
  simp only [Bool.not_eq_true', Bool.and_eq_false_iff, beq_eq_false_iff_ne, ne_eq] at this
  split
  · simp only [Bool.not_eq_true', Bool.and_eq_false_iff, beq_eq_false_iff_ne, ne_eq, kid]
    rcases this with h | h
    · exact .inl fun e => h e.symm
    · exact .inr (.inl fun e => h e.symm)
  · simp only [bne_iff_ne, ne_eq]
    intro e
    rw [← e] at this
    rcases this with h | h <;> exact h rfl
/-- Pairs of operations, one by one. -/
theorem pairB {ri rj : Rec} {di dj : List Oid} (h : badB [rj, ri] [dj, di] [(0, 1)] = true) : pairOK ri rj di dj := (badB_spec h).1
theorem updM_nm {l : List (Oid × Oid)} {i : Oid} {ol us : List (Oid × Ob)} (hB : newB ol us = true) : ∀ u ∈ updM (renF l) i ol us, u.1.2 = i.2 ∨ u.1 ∈ (nmL ol).map (renF l) := by
  intro u hu
  rcases List.mem_append.1 hu with hu | hu
  · obtain ⟨q, hq, rfl⟩ := List.mem_map.1 hu
    exact .inr (List.mem_map.2 ⟨q.1, List.mem_map.2 ⟨q, hq, rfl⟩, rfl⟩)
  · obtain ⟨q, hq, rfl⟩ := List.mem_map.1 hu
    rcases newB_ex hB q hq with h | ⟨h, h'⟩
    · exact .inl (by simp [newN, h])
    · exact .inr (List.mem_map.2 ⟨q.1, h', by simp [newN, h]⟩)
def pairN (l : List (Oid × Oid)) (i : Oid) (ol us : List (Oid × Ob)) (r : Rec) (d : List Oid) : Bool := keys0 l && (base0 ol && (newB ol us && ((d.all fun x => x.2 != i.2 && notIn (renF l) ol x) && ((r.2.2.all fun u => u.1.2 != i.2 && notIn (renF l) ol u.1) && r.1 != 2))))
theorem notIn_nm {l : List (Oid × Oid)} {ol : List (Oid × Ob)} {i : Oid} (hl : keys0 l = true) (h0 : base0 ol = true) (h : notIn (renF l) ol i = true) : i ∉ (nmL ol).map (renF l) := by
  intro hm
  have := less_at (ob := fun _ => some (.map 0 .int [])) hl h0 h
  unfold less at this
  rw [if_pos hm] at this
  cases this
theorem pair_facts {l : List (Oid × Oid)} {i : Oid} {ol us : List (Oid × Ob)} {r : Rec} {d : List Oid} (h : pairN l i ol us r d = true) : (∀ u ∈ updM (renF l) i ol us, u.1 ∉ d) ∧ (∀ u ∈ updM (renF l) i ol us, ∀ v ∈ r.2.2, u.1 ≠ v.1) ∧ r.1 ≠ 2 := by
  simp only [pairN, Bool.and_eq_true, bne_iff_ne, ne_eq] at h
  obtain ⟨h1, h2, h3, h4, h5, h6⟩ := h
  rw [List.all_eq_true] at h4 h5
  refine ⟨fun u hu hd => ?_, fun u hu v hv e => ?_, h6⟩
  · have := h4 _ hd
    simp only [Bool.and_eq_true, bne_iff_ne, ne_eq] at this
    rcases updM_nm h3 u hu with h | h
    · exact this.1 h
    · exact notIn_nm h1 h2 this.2 h
  · have := h5 _ hv
    simp only [Bool.and_eq_true, bne_iff_ne, ne_eq] at this
    rcases updM_nm h3 u hu with h | h
    · exact this.1 (by rw [← e]; exact h)
    · exact notIn_nm h1 h2 this.2 (by rw [← e]; exact h)
theorem pair_i {l : List (Oid × Oid)} {i : Oid} {ol us : List (Oid × Ob)} {v : AV} {rj : Rec} {di dj : List Oid} (h : pairN l i ol us rj dj = true) : pairOK (2, v, updM (renF l) i ol us) rj di dj := by
  obtain ⟨h1, h2, h3⟩ := pair_facts h
  exact .inr ⟨fun _ => h1, fun e => absurd e h3, h2⟩
theorem pair_j {l : List (Oid × Oid)} {i : Oid} {ol us : List (Oid × Ob)} {v : AV} {ri : Rec} {di dj : List Oid} (h : pairN l i ol us ri di = true) : pairOK ri (2, v, updM (renF l) i ol us) di dj := by
  obtain ⟨h1, h2, h3⟩ := pair_facts h
  exact .inr ⟨fun e => absurd e h3, fun _ => h1, fun u hu v hv e => h2 v hv u hu e.symm⟩
/-- What the arguments lead to. -/
def ReachL (zs : List AV) (ob : Oid → Option Ob) (θ : Oid → Oid) : List (Oid × Ob) → Prop
  | [] => True
  | q :: r => (match q.2 with
    | .pool _ _ xss => ∀ k, k < xss.length → Reached zs ob (kid (θ q.1) k)
    | _ => Reached zs ob (θ q.1)) ∧ ReachL zs ob θ r
theorem reachL_mem {zs : List AV} {ob : Oid → Option Ob} {l : List (Oid × Oid)} (hl : keys0 l = true) : ∀ {ol : List (Oid × Ob)}, base0 ol = true → ReachL zs ob (renF l) ol → ∀ j ∈ nmL ol, Reached zs ob (renF l j)
  | [], _, _, j, hj => by cases hj
  | (p, o) :: r, h0, h, j, hj => by
    simp only [base0, List.all_cons, Bool.and_eq_true, beq_iff_eq] at h0
    obtain ⟨⟨h1, _⟩, h2⟩ := h0
    have ih : j ∈ nmL r → Reached zs ob (renF l j) := fun hm => reachL_mem hl (ol := r) (by simpa [base0] using h2) h.2 j hm
    cases o with
    | pool e u xss =>
      simp only [nmL, exL, List.map_append, List.mem_append] at hj
      rcases hj with hj | hj
      · obtain ⟨q, hq, rfl⟩ := List.mem_map.1 hj
        obtain ⟨⟨row, k⟩, hx, rfl⟩ := List.mem_map.1 hq
        rw [List.mem_zipIdx_iff_getElem?] at hx
        show Reached zs ob (renF l (kid p k))
        rw [renF_kid hl h1]
        exact h.1 k (List.getElem?_eq_some_iff.1 hx).1
      · exact ih hj
    | _ =>
      simp only [nmL, exL, List.map_cons, List.mem_cons] at hj
      rcases hj with rfl | hj
      · exact h.1
      · exact ih hj
theorem re_arg {zs : List AV} {ob : Oid → Option Ob} {i : Oid} (h : (AV.nmsL zs).contains i = true) : Reached zs ob i := .arg (List.contains_iff_mem.1 h)
theorem re_cells {zs : List AV} {ob : Oid → Option Ob} {k i : Oid} {ty : TypeId} {cs : List AV} (h1 : Reached zs ob k) (h2 : ob k = some (.cells ty cs)) (h : (AV.nmsL cs).contains i = true) : Reached zs ob i := .cells h1 h2 (List.contains_iff_mem.1 h)
theorem hdL_nms {p : Oid} {u : Ty} {xss : List (List u.D)} {k : Nat} (h : k < xss.length) : kid p k ∈ AV.nmsL (hdL p u xss) := by
  have key : ∀ cs : List AV, ∀ c ∈ cs, ∀ i ∈ c.nms, i ∈ AV.nmsL cs := by
    intro cs
    induction cs with
    | nil => intro c h; cases h
    | cons x r ih =>
      intro c hc i hi
      rcases List.mem_cons.1 hc with rfl | hc
      · exact List.mem_append_left _ hi
      · exact List.mem_append_right _ (ih c hc i hi)
  refine key _ (.own (kid p k) u 0 xss[k].length) ?_ _ (List.mem_singleton.2 rfl)
  apply List.mem_iff_getElem?.2
  exact ⟨k, by rw [hdL_get, List.getElem?_eq_getElem h]; rfl⟩
theorem re_rows {zs : List AV} {ob : Oid → Option Ob} {o p : Oid} {e1 : TypeId} {m : Nat} {u : Ty} {xss : List (List u.D)} (h1 : Reached zs ob o) (h2 : ob o = some (.vec e1 1 m (hdL p u xss))) : ∀ k, k < xss.length → Reached zs ob (kid p k) := fun _ hk => .vec h1 h2 (hdL_nms hk)
end
/-- What is given is looked at. -/
theorem rd_all {L : List Oid} {l : List (Oid × Oid)} {xs : List (Oid × Ob)} (h : (xs.all fun q => L.contains (renF l q.1)) = true) : ∀ q ∈ xs, renF l q.1 ∈ L := fun q hq => by
  have := List.all_eq_true.1 h q hq
  simpa using this
end Go.Proofs.YtefolocdfgelcaaDoor
