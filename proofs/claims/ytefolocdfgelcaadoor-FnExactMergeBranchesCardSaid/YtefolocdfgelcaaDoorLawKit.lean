/- The last step of a law's row: a call that answers true and changes only new memory leaves its arguments, and the listed variables, reading as they did; conditions: their types can be read. -/
import Derived.Test.YtefolocdfgelcaaDoorKeep
import Derived.ChangeSame
import Derived.ChangeOld
namespace Go.Proofs.YtefolocdfgelcaaDoor
open Go.ChangeShapes Go.WideShapes Go.ChangeAt Go.RowKit

section
variable {H : Type} {enc : TypeId × Value → H} {P : Program} {W W' : World}

theorem args_below (hl : laidOutB P = true) (hb : Below W.heap.size W W') {sp : Nat → Bool} : ∀ {ts : List TypeId} {vs : List Value} {ds : List (DataW H)} {ps : List MemPlace},
    (∀ t ∈ ts, P.readableRec t = true ∧ t < P.types.size) → DataW.TrodAll enc P W 0 (fun _ => true) true ts vs ds ps → (∀ x ∈ ps, x.block < W.heap.size) → (∀ x ∈ ps, sp x.block = true) → DataW.TrodAll enc P W' 0 sp true ts vs ds ps
  | [], vs, ds, ps, _, h, _, _ => by
    obtain ⟨rfl, rfl, rfl⟩ := trodAll_nil h
    exact trodAll_mk0
  | t :: ts, vs, ds, ps, hr, h, hlt, hsp => by
    cases vs with
    | nil => cases ds <;> simp [DataW.TrodAll] at h
    | cons v vs =>
      cases ds with
      | nil => simp [DataW.TrodAll] at h
      | cons d ds =>
        obtain ⟨p, q, h1, h2, rfl⟩ := h
        obtain ⟨hrt, htt⟩ := hr t (by simp)
        exact ⟨p, q, WideElems.Trod_stays hl hrt htt h1 (fun x hx => hb.same (hlt x (List.mem_append_left _ hx))) (fun x hx => hsp x (List.mem_append_left _ hx)),
          args_below hl hb (fun t ht => hr t (List.mem_cons_of_mem _ ht)) h2 (fun x hx => hlt x (List.mem_append_right _ hx)) (fun x hx => hsp x (List.mem_append_right _ hx)), rfl⟩

theorem vars_below (hl : laidOutB P = true) (hb : Below W.heap.size W W') {sp : Nat → Bool} : ∀ {ns : List String} {ds : List (DataW H)} {ps : List MemPlace},
    (∀ n ∈ ns, ∀ g t, P.globalNamed n = some g → (P.globals[g]?).map (·.type) = some t → P.readableRec t = true ∧ t < P.types.size) → DataW.TrodVars enc P W (fun _ => true) ns ds ps → (∀ x ∈ ps, x.block < W.heap.size) → (∀ x ∈ ps, sp x.block = true) → DataW.TrodVars enc P W' sp ns ds ps
  | [], ds, ps, _, h, _, _ => by
    obtain ⟨rfl, rfl⟩ := trodVars_none h
    rfl
  | n :: ns, ds, ps, hr, h, hlt, hsp => by
    cases ds with
    | nil => simp [DataW.TrodVars] at h
    | cons d ds =>
      obtain ⟨g, t, cs, fuel, p, q, h1, h2, h3, h4, h5, rfl⟩ := h
      obtain ⟨hrt, htt⟩ := hr n (by simp) g t h1 h2
      have hg : g < W.heap.size := by
        unfold World.var? at h3
        simp only [h1, Option.bind_some] at h3
        rcases Nat.lt_or_ge g W.heap.size with h | h
        · exact h
        · rw [Array.getElem?_eq_none h] at h3
          simp at h3
      have h3' : W'.var? P n = some cs := by
        unfold World.var? at h3 ⊢
        simp only [h1, Option.bind_some] at h3 ⊢
        rw [hb.block g hg]
        exact h3
      have hlt' : ∀ x ∈ p, x.block < W.heap.size := fun x hx => hlt x (by simp [hx])
      have hsp' : ∀ x ∈ p, sp x.block = true := fun x hx => hsp x (by simp [hx])
      have h4' := DataW.trod_stays (kids_book hl hrt) (book_sized hrt) (fun h => by cases h) ⟨htt, book_self t⟩ h4 (fun x hx => hb.same (hlt' x hx)) hsp'
      exact ⟨g, t, cs, fuel, p, q, h1, h2, h3', h4', vars_below hl hb (fun n hn => hr n (List.mem_cons_of_mem _ hn)) h5 (fun x hx => hlt x (by simp [hx])) (fun x hx => hsp x (by simp [hx])), rfl⟩

theorem law_post {f : Func} {s : ChangeSpec} {args : Array Value} {ds gs : List (DataW H)} {before : List MemPlace} {tb : TypeId} (hl : laidOutB P = true)
    (hW : DataW.Whole enc P f.params.toList s.vars false W args.toList ds gs before) (hb : Below W.heap.size W W')
    (hs : s.fn H (ds ++ gs) = { results := [.lit (.bool true)], args := ds, vars := gs }) (hrt : f.resultTypes = #[tb]) (htb : P.underlying tb = some .bool)
    (hp : ∀ t ∈ f.params.toList, P.readableRec t = true ∧ t < P.types.size)
    (hv : ∀ n ∈ s.vars, ∀ g t, P.globalNamed n = some g → (P.globals[g]?).map (·.type) = some t → P.readableRec t = true ∧ t < P.types.size) :
    s.post enc P f false true false false W args (.bool true) W' := by
  have hlt : ∀ p ∈ before, p.block < W.heap.size := fun p hp => hW.lt p hp
  have hold : ∀ p ∈ before, (fun b => decide (b < W.heap.size)) p.block = true := fun p hp => by simpa using hlt p hp
  have hW' := hW
  obtain ⟨p, q, hA, hV, rfl, _, _⟩ := hW'
  refine ⟨ds, gs, p ++ q, [], p, q, hW, ?_, ?_, ?_, World.keptBut_mono (fun x hx => ⟨hx, ?_⟩) (hb.frame (· ∈ p ++ q)), fun h => by cases h⟩
  · rw [hs, hrt]
    exact trodAll_mk1 (shut_bool htb _)
  · rw [hs]
    exact args_below hl hb hp hA (fun x hx => hlt x (List.mem_append_left _ hx)) (fun x hx => hold x (List.mem_append_left _ hx))
  · rw [hs]
    exact vars_below hl hb hv hV (fun x hx => hlt x (List.mem_append_right _ hx)) (fun x hx => hold x (List.mem_append_right _ hx))
  · exact Or.inr (List.mem_append.1 hx)

/-- An argument that is a struct of plain data. -/
theorem open_struct {r : Reach} {b0 base : Nat} {spare : Nat → Bool} {held : Bool} {t : TypeId} {fs : Array Field} {ty : Ty} {v : Value} {d : DataW H} {p : List MemPlace} (hs : P.underlying t = some (.struct fs)) (hf : ∃ n, Ty.fits P n ty t = true)
    (hv : Value.okWide P W r b0 t v) (h : DataW.Trod enc P W base spare held t v d p) : ∃ (cs : List Value) (x : ty.D) (l : List Addr), v = .agg cs.toArray ∧ Ty.Val (fun _ => True) W ty cs x l ∧ Ty.In ty x := by
  obtain ⟨cs, rfl, _⟩ := okWide_struct hs hv
  obtain ⟨fuel, h⟩ := h
  obtain ⟨n, hf⟩ := hf
  obtain ⟨x, l, hx, hi⟩ := Ty.open_ n ty t _ _ fuel hf h
  exact ⟨cs.toList, x, l, by simp, by simpa [Value.cells] using hx, hi⟩
/-- An argument that is a slice of plain data. -/
theorem open_sl {r : Reach} {b0 base : Nat} {spare : Nat → Bool} {held : Bool} {t e : TypeId} {ty : Ty} {v : Value} {d : DataW H} {p : List MemPlace} (hs : P.underlying t = some (.slice e)) (hf : ∃ n, Ty.fits P n (.slice ty) t = true)
    (hv : Value.okWide P W r b0 t v) (h : DataW.Trod enc P W base spare held t v d p) : ∃ (A : Option Addr) (c : Nat) (xs : List ty.D) (l : List Addr), v = .slice A xs.length c ∧ Sl (fun _ => True) W ty A c xs l ∧ Ty.In (.slice ty) xs := by
  obtain ⟨A, n', c, rfl⟩ := okWide_slice hs hv
  obtain ⟨fuel, h⟩ := h
  obtain ⟨n, hf⟩ := hf
  obtain ⟨x, l, ⟨A', c', e', hx⟩, hi⟩ := Ty.open_ n (.slice ty) t _ _ fuel hf h
  simp [Value.cells] at e'
  obtain ⟨rfl, rfl, rfl⟩ := e'
  exact ⟨A, c, x, l, rfl, hx, hi⟩
end
end Go.Proofs.YtefolocdfgelcaaDoor
