/- Lemmas on the program and on partial functions that stand in place of its code (part 6); no condition beyond those that each one states. -/
import Derived.Test.YtodopnonpadpfaaDoorZ5
namespace Go.Proofs.YtodopnonpadpfaaDoor
section
open Go.RowKit Go.Deep
theorem gw3 (w:World):Calls Tryd.prog 79 #[.int .i64 3] w fun e w'=>e=.returned (.agg #[.int .i64 1,.int .i64 2])∧Below w.heap.size w w':=by
 go_enter Tryd.func79,Tryd.ntmps79
 go_wp2
 refine bodyPost_ret (v:=.agg #[.int .i64 1,.int .i64 2]) (by simp [results,Tryd.results79,go_sem]) rfl ⟨rfl,?_⟩;exact (by repeat (first | with_reducible exact Below.refl _ _ | ((with_reducible refine Below.setCell ?_ ?_ _); rotate_left; focus (first | (simp; done) | omega | (simp; omega))) | ((with_reducible refine Below.alloc ?_ ?_ _); rotate_left; focus (first | (simp; done) | omega | (simp; omega))) | (with_reducible refine Below.drew ?_) | (with_reducible refine Bx ?_ _)))
theorem gw4 (w:World):Calls Tryd.prog 79 #[.int .i64 4] w fun e w'=>e=.returned (.agg #[.int .i64 1,.int .i64 0])∧Below w.heap.size w w':=by
 go_enter Tryd.func79,Tryd.ntmps79
 go_wp2
 refine bodyPost_ret (v:=.agg #[.int .i64 1,.int .i64 0]) (by simp [results,Tryd.results79,go_sem]) rfl ⟨rfl,?_⟩;exact (by repeat (first | with_reducible exact Below.refl _ _ | ((with_reducible refine Below.setCell ?_ ?_ _); rotate_left; focus (first | (simp; done) | omega | (simp; omega))) | ((with_reducible refine Below.alloc ?_ ?_ _); rotate_left; focus (first | (simp; done) | omega | (simp; omega))) | (with_reducible refine Below.drew ?_) | (with_reducible refine Bx ?_ _)))
theorem gw5 (w:World):Calls Tryd.prog 79 #[.int .i64 5] w fun e w'=>e=.returned (.agg #[.int .i64 2,.int .i64 1])∧Below w.heap.size w w':=by
 go_enter Tryd.func79,Tryd.ntmps79
 go_wp2
 refine bodyPost_ret (v:=.agg #[.int .i64 2,.int .i64 1]) (by simp [results,Tryd.results79,go_sem]) rfl ⟨rfl,?_⟩;exact (by repeat (first | with_reducible exact Below.refl _ _ | ((with_reducible refine Below.setCell ?_ ?_ _); rotate_left; focus (first | (simp; done) | omega | (simp; omega))) | ((with_reducible refine Below.alloc ?_ ?_ _); rotate_left; focus (first | (simp; done) | omega | (simp; omega))) | (with_reducible refine Below.drew ?_) | (with_reducible refine Bx ?_ _)))
theorem gw6 (w:World):Calls Tryd.prog 79 #[.int .i64 6] w fun e w'=>e=.returned (.agg #[.int .i64 0,.int .i64 1])∧Below w.heap.size w w':=by
 go_enter Tryd.func79,Tryd.ntmps79
 go_wp2
 refine bodyPost_ret (v:=.agg #[.int .i64 0,.int .i64 1]) (by simp [results,Tryd.results79,go_sem]) rfl ⟨rfl,?_⟩;exact (by repeat (first | with_reducible exact Below.refl _ _ | ((with_reducible refine Below.setCell ?_ ?_ _); rotate_left; focus (first | (simp; done) | omega | (simp; omega))) | ((with_reducible refine Below.alloc ?_ ?_ _); rotate_left; focus (first | (simp; done) | omega | (simp; omega))) | (with_reducible refine Below.drew ?_) | (with_reducible refine Bx ?_ _)))
theorem gw7 (w:World):Calls Tryd.prog 79 #[.int .i64 7] w fun e w'=>e=.returned (.agg #[.int .i64 1,.int .i64 1])∧Below w.heap.size w w':=by
 go_enter Tryd.func79,Tryd.ntmps79
 go_wp2
 refine bodyPost_ret (v:=.agg #[.int .i64 1,.int .i64 1]) (by simp [results,Tryd.results79,go_sem]) rfl ⟨rfl,?_⟩;exact (by repeat (first | with_reducible exact Below.refl _ _ | ((with_reducible refine Below.setCell ?_ ?_ _); rotate_left; focus (first | (simp; done) | omega | (simp; omega))) | ((with_reducible refine Below.alloc ?_ ?_ _); rotate_left; focus (first | (simp; done) | omega | (simp; omega))) | (with_reducible refine Below.drew ?_) | (with_reducible refine Bx ?_ _)))
theorem gw8 (w:World):Calls Tryd.prog 79 #[.int .i64 8] w fun e w'=>e=.returned (.agg #[.int .i64 1,.int .i64 1])∧Below w.heap.size w w':=by
 go_enter Tryd.func79,Tryd.ntmps79
 go_wp2
 refine bodyPost_ret (v:=.agg #[.int .i64 1,.int .i64 1]) (by simp [results,Tryd.results79,go_sem]) rfl ⟨rfl,?_⟩;exact (by repeat (first | with_reducible exact Below.refl _ _ | ((with_reducible refine Below.setCell ?_ ?_ _); rotate_left; focus (first | (simp; done) | omega | (simp; omega))) | ((with_reducible refine Below.alloc ?_ ?_ _); rotate_left; focus (first | (simp; done) | omega | (simp; omega))) | (with_reducible refine Below.drew ?_) | (with_reducible refine Bx ?_ _)))
theorem gw9 (w:World):Calls Tryd.prog 79 #[.int .i64 9] w fun e w'=>e=.returned (.agg #[.int .i64 2,.int .i64 1])∧Below w.heap.size w w':=by
 go_enter Tryd.func79,Tryd.ntmps79
 go_wp2
 refine bodyPost_ret (v:=.agg #[.int .i64 2,.int .i64 1]) (by simp [results,Tryd.results79,go_sem]) rfl ⟨rfl,?_⟩;exact (by repeat (first | with_reducible exact Below.refl _ _ | ((with_reducible refine Below.setCell ?_ ?_ _); rotate_left; focus (first | (simp; done) | omega | (simp; omega))) | ((with_reducible refine Below.alloc ?_ ?_ _); rotate_left; focus (first | (simp; done) | omega | (simp; omega))) | (with_reducible refine Below.drew ?_) | (with_reducible refine Bx ?_ _)))
theorem Ar2 (w:World):Calls Tryd.prog 79 #[.int .i64 10] w fun e w'=>e=.returned (.agg #[.int .i64 0,.int .i64 1])∧Below w.heap.size w w':=by
 go_enter Tryd.func79,Tryd.ntmps79
 go_wp2
 refine bodyPost_ret (v:=.agg #[.int .i64 0,.int .i64 1]) (by simp [results,Tryd.results79,go_sem]) rfl ⟨rfl,?_⟩;exact (by repeat (first | with_reducible exact Below.refl _ _ | ((with_reducible refine Below.setCell ?_ ?_ _); rotate_left; focus (first | (simp; done) | omega | (simp; omega))) | ((with_reducible refine Below.alloc ?_ ?_ _); rotate_left; focus (first | (simp; done) | omega | (simp; omega))) | (with_reducible refine Below.drew ?_) | (with_reducible refine Bx ?_ _)))
theorem Ar0 (w:World):Calls Tryd.prog 79 #[.int .i64 11] w fun e w'=>e=.returned (.agg #[.int .i64 1,.int .i64 2])∧Below w.heap.size w w':=by
 go_enter Tryd.func79,Tryd.ntmps79
 go_wp2
 refine bodyPost_ret (v:=.agg #[.int .i64 1,.int .i64 2]) (by simp [results,Tryd.results79,go_sem]) rfl ⟨rfl,?_⟩;exact (by repeat (first | with_reducible exact Below.refl _ _ | ((with_reducible refine Below.setCell ?_ ?_ _); rotate_left; focus (first | (simp; done) | omega | (simp; omega))) | ((with_reducible refine Below.alloc ?_ ?_ _); rotate_left; focus (first | (simp; done) | omega | (simp; omega))) | (with_reducible refine Below.drew ?_) | (with_reducible refine Bx ?_ _)))
theorem Ar3 (w:World):Calls Tryd.prog 79 #[.int .i64 12] w fun e w'=>e=.returned (.agg #[.int .i64 1,.int .i64 0])∧Below w.heap.size w w':=by
 go_enter Tryd.func79,Tryd.ntmps79
 go_wp2
 refine bodyPost_ret (v:=.agg #[.int .i64 1,.int .i64 0]) (by simp [results,Tryd.results79,go_sem]) rfl ⟨rfl,?_⟩;exact (by repeat (first | with_reducible exact Below.refl _ _ | ((with_reducible refine Below.setCell ?_ ?_ _); rotate_left; focus (first | (simp; done) | omega | (simp; omega))) | ((with_reducible refine Below.alloc ?_ ?_ _); rotate_left; focus (first | (simp; done) | omega | (simp; omega))) | (with_reducible refine Below.drew ?_) | (with_reducible refine Bx ?_ _)))
theorem Ar1 (w:World):Calls Tryd.prog 79 #[.int .i64 13] w fun e w'=>e=.returned (.agg #[.int .i64 1,.int .i64 1])∧Below w.heap.size w w':=by
 go_enter Tryd.func79,Tryd.ntmps79
 go_wp2
 refine bodyPost_ret (v:=.agg #[.int .i64 1,.int .i64 1]) (by simp [results,Tryd.results79,go_sem]) rfl ⟨rfl,?_⟩;exact (by repeat (first | with_reducible exact Below.refl _ _ | ((with_reducible refine Below.setCell ?_ ?_ _); rotate_left; focus (first | (simp; done) | omega | (simp; omega))) | ((with_reducible refine Below.alloc ?_ ?_ _); rotate_left; focus (first | (simp; done) | omega | (simp; omega))) | (with_reducible refine Below.drew ?_) | (with_reducible refine Bx ?_ _)))
theorem Ar6 (w:World):Calls Tryd.prog 79 #[.int .i64 14] w fun e w'=>e=.returned (.agg #[.int .i64 1,.int .i64 1])∧Below w.heap.size w w':=by
 go_enter Tryd.func79,Tryd.ntmps79
 go_wp2
 refine bodyPost_ret (v:=.agg #[.int .i64 1,.int .i64 1]) (by simp [results,Tryd.results79,go_sem]) rfl ⟨rfl,?_⟩;exact (by repeat (first | with_reducible exact Below.refl _ _ | ((with_reducible refine Below.setCell ?_ ?_ _); rotate_left; focus (first | (simp; done) | omega | (simp; omega))) | ((with_reducible refine Below.alloc ?_ ?_ _); rotate_left; focus (first | (simp; done) | omega | (simp; omega))) | (with_reducible refine Below.drew ?_) | (with_reducible refine Bx ?_ _)))
def gwV (k:Int):Int×Int:=if k=3 then (1,2) else if k=4 then (1,0) else if k=5 then (2,1) else if k=6 then (0,1) else if k=9 then (2,1) else if k=10 then (0,1) else if k=11 then (1,2) else if k=12 then (1,0) else (1,1)
def E9 (a0:Int):Option (Int×Int):=og (3<=a0∧a0<=14) (some (gwV a0))
def Mu (r:Int×Int):RV:=⟨false,[(true,[.sc (.int .i64 r.1),.sc (.int .i64 r.2)])]⟩
theorem Ms:A6 Tryd.prog 79=true:=by kernel_rfl
theorem Aqr (k:Int) (h:3<=k∧k<=14) (w:World):Calls Tryd.prog 79 #[.int .i64 k] w fun e w'=>e=.returned (.agg #[.int .i64 (gwV k).1,.int .i64 (gwV k).2])∧Below w.heap.size w w':=by
 have hk:k=3∨k=4∨k=5∨k=6∨k=7∨k=8∨k=9∨k=10∨k=11∨k=12∨k=13∨k=14:=by omega
 rcases hk with rfl | rfl | rfl | rfl | rfl | rfl | rfl | rfl | rfl | rfl | rfl | rfl
 ·exact gw3 w
 ·exact gw4 w
 ·exact gw5 w
 ·exact gw6 w
 ·exact gw7 w
 ·exact gw8 w
 ·exact gw9 w
 ·exact Ar2 w
 ·exact Ar0 w
 ·exact Ar3 w
 ·exact Ar1 w
 ·exact Ar6 w
theorem Mi {a0:Int} {r:Int×Int} (h:E9 a0=some r):Ax Tryd.prog Tab 79 [.int .i64 a0] (Mu r):=by
 obtain ⟨hb,h⟩:=Av h;obtain rfl:=osj h;intro w im vs hG hr;obtain ⟨u1,_,rfl,h1,h2⟩:=hr;obtain rfl:_=[]:=h2;obtain rfl:u1=.int .i64 a0:=h1;refine (Aqr a0 hb w).mono ?_;rintro e w' ⟨rfl,hw⟩;exact ⟨_,rfl,hw,[_,_],[],⟨_,_,rfl,rfl,rfl,_,_,rfl,rfl,rfl,rfl,rfl⟩,⟨trivial,fun _=>rfl⟩,rfl⟩
end
section
open Go.RowKit Go.Deep
end
section
open Go.RowKit Go.Deep
def GN (G:World->Prop) (n:Nat) (w:World):Prop:=G w∧n<=w.heap.size
section
variable {P:Program} {G:World->Prop} {f:FuncId} {args:List AV} {r:RV} {n:Nat}
theorem Ard (h:Ax P G f args r):Ax P (GN G n) f args r:=fun w im vs hG hr=>h w im vs (fun w' hb=>(hG w' hb).1) hr
theorem Aq1 {ol us:List (Oid×Ob)} {v:AV} (h:Hr P G f args ol v us):Hr P (GN G n) f args ol v us:=by
 intro θ i w0 ob σ K w vs hM h1 h2 h3 h4 h5;refine (h θ i w0 ob σ K w vs ⟨hM.below,fun w' hb=>(hM.inv w' hb).1,hM.gen,hM.lt,hM.cap,hM.inj,hM.obs⟩ h1 h2 h3 h4 h5).mono ?_;rintro e w' ⟨u,rfl,σ',q1,q2,q3⟩;exact ⟨u,rfl,σ',q1,⟨q2.below,hM.inv,q2.gen,q2.lt,q2.cap,q2.inj,q2.obs⟩,q3⟩
end
-- rows of things that nobody writes
theorem He (m:Option Nat):∀ (t:Ty) (x:t.D),(t.avM m x).length=t.size
 | .int,_ | .bool,_ | .str,_ | .slice _,_=>rfl
 | .pair a b,x=>by simp only [Ty.avM,List.length_append,He m a,He m b,Ty.size]
theorem Ao9 {m:Option Nat} {t:Ty} (xs:List t.D):(tvC m t xs).length=xs.length*t.size:=by
 unfold tvC
 induction xs with
 | nil=>simp
 | cons x xs ih=>rw [List.flatMap_cons,List.length_append,ih,He,List.length_cons,Nat.succ_mul]; omega
theorem Ajj {ob:Oid->Option Ob} (m:Option Nat):∀ (t:Ty) (x:t.D),rdC ob t (t.avM m x)=some x
 | .int,_=>rfl
 | .bool,_=>rfl
 | .str,_=>rfl
 | .slice t,xs=>by
  have:D9 ob t (trM m t xs)=some xs:=by cases m <;> simp only [trM,D9,Ty.eq?_self,Cq]
  simp only [Ty.avM,rdC,this]
 | .pair a b,x=>by
  have h1:(a.avM m x.1++b.avM m x.2).take a.size=a.avM m x.1:=List.take_left' (He m a x.1);have h2:(a.avM m x.1++b.avM m x.2).drop a.size=b.avM m x.2:=List.drop_left' (He m a x.1);simp only [Ty.avM,rdC,h1,h2,Ajj m a,Ajj m b]
theorem Adh {ob:Oid->Option Ob} {m:Option Nat} {t:Ty}:∀ (xs:List t.D),N0 (rdC ob t) t.size xs.length (tvC m t xs)=some xs
 | []=>rfl
 | x :: xs=>by
  have h1:(tvC m t (x :: xs)).take t.size=t.avM m x:=List.take_left' (He m t x);have h2:(tvC m t (x :: xs)).drop t.size=tvC m t xs:=List.drop_left' (He m t x);simp only [List.length_cons,N0,h1,h2,Ajj,Adh xs]
section
variable {ob:Oid->Option Ob}
theorem Arm {n len:Nat} {o:Oid} {e:TypeId} {m:Option Nat} {t:Ty} {xs:List t.D} (ho:ob o=some (.vec e t.size xs.length (tvC m t xs))) (hl:len=xs.length):gnd ob (n+1) (.own o t 0 len)=some (.tree t xs):=by
 subst hl
 have:Agm ob t.size (rdC ob t) (.own o t 0 xs.length)=some xs:=by
  simp only [Agm,ho];rw [if_pos ⟨trivial,by omega⟩,Nat.zero_mul,List.drop_zero,List.take_of_length_le (by rw [Ao9]; exact Nat.le_refl _)];exact Adh xs
 simp only [gnd,ho,this,Option.map_some]
end
section
variable {n:Nat} {d:Option Nat} {f:Nat->AV} {ob:Oid->Option Ob}
end
-- results
inductive Ahe (n:Nat) (ob:Oid->Option Ob):AV->AV->Prop
 | ftr {t:Ty} {xs:List t.D}:Ahe n ob (.ftr n t xs) (.tree t xs)
 | nil {t:Ty}:Ahe n ob .nils (.tree t [])
 | arr {i:Oid} {t u:Ty} {e:TypeId} {xs:List u.D} {len:Nat}:ob i=some (.arr e u xs)->len=xs.length->Ahe n ob (.own i t 0 len) (.tree u xs)
 | mat {o p:Oid} {e1 e:TypeId} {u:Ty} {xss:List (List u.D)} {len:Nat}:ob o=some (.vec e1 1 xss.length (hdL p u xss))->(∀ k row,xss[k]? =some row->ob (kid p k)=some (.arr e u row))->len=xss.length->Ahe n ob (.own o (.slice u) 0 len) (.tree (.slice u) xss)
 | tv {o:Oid} {e:TypeId} {t:Ty} {xs:List t.D} {len:Nat}:ob o=some (.vec e t.size xs.length (tvC (some n) t xs))->len=xs.length->Ahe n ob (.own o t 0 len) (.tree t xs)
section
variable {G:World->Prop} {w0 w:World} {ob:Oid->Option Ob} {σ:Oid->Option Loc} {K:Nat->Prop}
theorem Ae4 {im im':Nat->Prop} {i:Oid} {t:Ty} {off len:Nat} {v:Value} (h:AV.Rep σ im w (.own i t off len) v):AV.Rep σ im' w (.own i t off len) v:=h
theorem Aqz {im im':Nat->Prop} {p:Oid} {u:Ty} {xss:List (List u.D)} {vs:List Value} (h:AV.RepL σ im w (hdL p u xss) vs):AV.RepL σ im' w (hdL p u xss) vs:=by
 have key:∀ (l:List (List u.D×Nat)) (vs:List Value),AV.RepL σ im w (l.map fun x=>.own (kid p x.2) u 0 x.1.length) vs->AV.RepL σ im' w (l.map fun x=>.own (kid p x.2) u 0 x.1.length) vs:=by
  intro l
  induction l with
  | nil=>intro vs h; exact h
  | cons x l ih=>rintro vs ⟨v,vs',e,h1,h2⟩; exact ⟨v,vs',e,Ae4 h1,ih vs' h2⟩
 exact key _ _ h
theorem Ah4 {im:Nat->Prop} {n:Nat}:∀ (t:Ty) (x:t.D) (vs:List Value),AV.RepL σ im w (t.avM (some n) x) vs->AV.RepL σ (fun b=>n<=b) w (t.av x) vs
 | .int,_,_,⟨v,vs',e,h1,h2⟩=>⟨v,vs',e,h1,h2⟩
 | .bool,_,_,⟨v,vs',e,h1,h2⟩=>⟨v,vs',e,h1,h2⟩
 | .str,_,_,⟨v,vs',e,h1,h2⟩=>⟨v,vs',e,h1,h2⟩
 | .slice t,xs,_,⟨v,vs',e,⟨A,c,l,e1,hs⟩,h2⟩=>⟨v,vs',e,⟨A,c,l,e1,B9 (fun b _ hb=>hb.2) hs⟩,h2⟩
 | .pair a b,x,vs,h=>by
  have hl:=h.length;have h1:=h.take a.size;have h2:=h.drop a.size;have e1:((Ty.pair a b).avM (some n) x).take a.size=a.avM (some n) x.1:=List.take_left' (He _ a x.1);have e2:((Ty.pair a b).avM (some n) x).drop a.size=b.avM (some n) x.2:=List.drop_left' (He _ a x.1);rw [e1] at h1;rw [e2] at h2;have:=(Ah4 a x.1 _ h1).append (Ah4 b x.2 _ h2);rw [List.take_append_drop] at this;exact this
theorem Am0 {im:Nat->Prop} {n:Nat} {t:Ty}:∀ (xs:List t.D) (vs:List Value),AV.RepL σ im w (tvC (some n) t xs) vs->AV.RepL σ (fun b=>n<=b) w (tvC none t xs) vs
 | [],_,h=>h
 | x :: xs,vs,h=>by
  have h1:=h.take t.size;have h2:=h.drop t.size;have e1:(tvC (some n) t (x :: xs)).take t.size=t.avM (some n) x:=List.take_left' (He _ t x);have e2:(tvC (some n) t (x :: xs)).drop t.size=tvC (some n) t xs:=List.drop_left' (He _ t x);rw [e1] at h1;rw [e2] at h2
  have hav:∀ (t:Ty) (x:t.D),t.avM none x=t.av x:=by
   intro t
   induction t with
   | pair a b ha hb=>intro x; simp only [Ty.avM,Ty.av,ha,hb]
   | _=>intro x; rfl
  have h1':=Ah4 t x _ h1;rw [← hav] at h1';have:=h1'.append (Am0 xs _ h2);rw [List.take_append_drop] at this;exact this
theorem Ant (hM:Mem0 G w0 ob σ K w) {c d:AV} {v:Value} (h:Ahe w0.heap.size ob c d) (hr:AV.Rep σ (imm ob σ) w c v):AV.Rep (fun _=>none) (fun b=>w0.heap.size<=b) w d v:=by
 cases h with
 | ftr=>obtain ⟨A,c,l,e,hs⟩:=hr; exact ⟨A,c,l,e,B9 (fun b _ hb=>hb.2) hs⟩
 | nil=>exact ⟨none,0,[],hr,by simp,by simp [maxLen],fun _=>[],by simp,fun h=>absurd h (by simp)⟩
 | @arr i t u e xs len h1 h2 =>
  refine Lz (ob:=fun j=>if j=i then some (.arr e u xs) else none) (σ:=σ) (im:=fun b=>w0.heap.size<=b) (lo:=w0.heap.size) (fun j o l hj hl=>?_) (fun _ hb=>hb) (fun j o b c s _ hs=>(hM.lt j b c s hs).1) 1 _ _ _ (Adu (e:=e) (if_pos rfl) h2) (Ae4 hr);split at hj
  ·rename_i e'; subst e';obtain rfl:=osj hj;exact hM.obs j _ l h1 hl
  ·cases hj
 | @mat o p e1 e u xss len h1 h2 h3 =>
  refine Lz (ob:=fun j=>match ob j with | some (.arr e u xs)=>some (.arr e u xs) | _=>if j=o then some (.vec e1 1 xss.length (hdL p u xss)) else none) (σ:=σ) (im:=fun b=>w0.heap.size<=b) (lo:=w0.heap.size) (fun j q l hj hl=>?_) (fun _ hb=>hb) (fun j o b c s _ hs=>(hM.lt j b c s hs).1) 1 _ _ _ (An1 (p:=p) (e1:=e1) (e:=e) (by simp only [h1]; rw [if_pos trivial]) (fun k row hk=>by simp only [h2 k row hk]) h3) (Ae4 hr);split at hj
  ·rename_i e' u' xs' hj';obtain rfl:=osj hj;exact hM.obs j _ l hj' hl
  ·split at hj
   ·rename_i e'; subst e';obtain rfl:=osj hj;obtain ⟨vs,g1,g2,g3⟩:=hM.obs j _ l h1 hl;exact ⟨vs,g1,Aqz g2,g3⟩
   ·cases hj
 | @tv o e t xs len h1 h2 =>
  refine Lz (ob:=fun j=>if j=o then some (.vec e t.size xs.length (tvC none t xs)) else none) (σ:=σ) (im:=fun b=>w0.heap.size<=b) (lo:=w0.heap.size) (fun j q l hj hl=>?_) (fun _ hb=>hb) (fun j o b c s _ hs=>(hM.lt j b c s hs).1) 1 _ _ _ (Arm (m:=none) (e:=e) (if_pos rfl) h2) (Ae4 hr);split at hj
  ·rename_i e'; subst e';obtain rfl:=osj hj;obtain ⟨vs,g1,g2,g3⟩:=hM.obs j _ l h1 hl;exact ⟨vs,g1,Am0 xs vs g2,g3⟩
  ·cases hj
def Aj0 (n:Nat) (ob:Oid->Option Ob) (c:AV) (l:RL):Prop:=(c.scal=true∧l=.sc c)∨∃ d,l=.frz d∧d.gndB=true∧Ahe n ob c d
def Kr (n:Nat) (ob:Oid->Option Ob):List AV->List RL->Prop
 | [],ls=>ls=[]
 | c :: cs,ls=>∃ l ls',ls=l :: ls'∧Aj0 n ob c l∧Kr n ob cs ls'
def Rq (n:Nat) (ob:Oid->Option Ob):List (Bool×List AV)->List (Bool×List RL)->Prop
 | [],ps=>ps=[]
 | (b,cs) :: r,ps=>∃ ls ps',ps=(b,ls) :: ps'∧Kr n ob cs ls∧(b=false->cs.length=1)∧Rq n ob r ps'
def Aod:List (Bool×List AV)->List AV
 | []=>[]
 | (b,cs) :: r=>(if b then .agg cs else cs.headD .any) :: Aod r
def Ari (n:Nat) (rs:List Res) (S:St) (r:RV):Prop :=
 ∃ gs ps,Res.evL S.tm S.ob rs=some (Aod gs)∧Rq n S.ob gs ps∧r=⟨decide (rs.length≠1),ps⟩
theorem Vg (hM:Mem0 G w0 ob σ K w) {im:Nat->Prop} {vs0:List Value}:∀ {cs:List AV} {ls:List RL} {us:List Value},Kr w0.heap.size ob cs ls->AV.RepL σ (imm ob σ) w cs us->RL.RepL w0.heap.size im vs0 w ls us []∧ls.length=us.length
 | [],ls,us,h,hr=>by obtain rfl:ls=[]:=h; exact ⟨⟨hr,rfl⟩,by rw [show us=[] from hr]; rfl⟩
 | c :: cs,ls,us,⟨l,ls',e,h1,h2⟩,⟨u,us',e',r1,r2⟩=>by
  subst e e';obtain ⟨q1,q2⟩:=Vg hM (im:=im) (vs0:=vs0) h2 r2;refine ⟨?_,by simp [q2]⟩;rcases h1 with ⟨a1,rfl⟩ | ⟨d,rfl,a1,a2⟩
  ·exact ⟨u,us',rfl,(by cases c <;> first | exact r1 | cases a1),a1,q1⟩
  ·exact ⟨u,us',rfl,Ant hM a2 r1,a1,q1⟩
theorem Ag2 {lo:Nat} {im:Nat->Prop} {vs:List Value} {w:World}:∀ {rs:List RL} {us:List Value} {rs':List RL} {us':List Value},(∀ l∈rs,(∃ c,l=.sc c)∨∃ d,l=.frz d)->RL.RepL lo im vs w rs us []->RL.RepL lo im vs w rs' us' []->RL.RepL lo im vs w (rs++rs') (us++us') []
 | [],_,_,_,_,⟨e,_⟩,h=>by subst e; exact h
 | l :: rs,us,rs',us',hk,h,h'=>by
  have hk':=fun l hl=>hk l (List.mem_cons_of_mem _ hl)
  rcases hk l List.mem_cons_self with ⟨c,rfl⟩ | ⟨d,rfl⟩ <;> obtain ⟨u,us1,rfl,q1,q2,q3⟩:=h <;> exact ⟨u,us1++us',rfl,q1,q2,Ag2 hk' q3 h'⟩
theorem S7 {n:Nat}:∀ {cs:List AV} {ls:List RL},Kr n ob cs ls->∀ l∈ls,(∃ c,l=.sc c)∨∃ d,l=.frz d
 | [],ls,h,l,hl=>by rw [show ls=[] from h] at hl; cases hl
 | c :: cs,ls,⟨l0,ls',e,h1,h2⟩,l,hl=>by
  subst e;rcases List.mem_cons.1 hl with rfl | hl
  ·rcases h1 with ⟨_,rfl⟩ | ⟨d,rfl,_⟩
   ·exact .inl ⟨_,rfl⟩
   ·exact .inr ⟨_,rfl⟩
  ·exact S7 h2 l hl
theorem Xa (hM:Mem0 G w0 ob σ K w) {im:Nat->Prop} {vs0:List Value}:∀ {gs:List (Bool×List AV)} {ps:List (Bool×List RL)} {us:List Value},Rq w0.heap.size ob gs ps->AV.RepL σ (imm ob σ) w (Aod gs) us->∃ vs,RL.RepL w0.heap.size im vs0 w (ps.flatMap (·.2)) vs []∧Im ps vs=us
 | [],ps,us,h,hr=>by
  obtain rfl:ps=[]:=h;exact ⟨[],⟨rfl,rfl⟩,hr.symm⟩
 | (b,cs) :: gs,ps,us,⟨ls,ps',e,h1,h2,h3⟩,⟨u,us',e',r1,r2⟩=>by
  subst e e';obtain ⟨vs,q1,q2⟩:=Xa hM (im:=im) (vs0:=vs0) h3 r2
  have key:∀ ws:List Value,AV.RepL σ (imm ob σ) w cs ws->(if b then Value.agg ws.toArray else ws.headD undef)=u->∃ vs,RL.RepL w0.heap.size im vs0 w (((b,ls) :: ps').flatMap (·.2)) vs []∧Im ((b,ls) :: ps') vs=u :: us':=fun ws hw hu=>by
   obtain ⟨a1,a2⟩:=Vg hM (im:=im) (vs0:=vs0) h1 hw;refine ⟨ws++vs,Ag2 (S7 h1) a1 q1,?_⟩;simp only [Im];rw [List.drop_left' a2.symm,q2,List.take_left' a2.symm];congr 1;cases b with
   | true=>exact hu
   | false =>
    have hl:=h2 rfl;rw [← hw.length] at hl;cases ws with
    | nil=>simp at hl
    | cons w0 ws=>exact hu
  cases b with
  | true =>
   obtain ⟨ws,e1,e2⟩:=r1;exact key ws e2 (by rw [e1]; rfl)
  | false =>
   have hl:=h2 rfl;obtain ⟨c,rfl⟩:=List.length_eq_one_iff.1 hl;exact key [u] ⟨u,[],rfl,r1,rfl⟩ rfl
end
theorem Al6 {P:Program} [IsP P] {G:World->Prop} (hfol:P.follows .mixedOrders=true) {g:FuncId} {fn:Func} (hf:P.funcs[g]? =some fn) {ac:AC} {rs:List Res} (hc0:Am P fn=some (ac,rs)) {args:List AV} {r:RV} {n:Nat} (hN:fn.ntmps=n) (hn:args.length<=n) {tl:List (Nat×AV)} (htl:tmL 0 args=tl)
  (h:∀ n,awp P (GN G n) ac (fun e S=>∃ S',Weak S S'∧(e=.normal∨e=.ret)∧Ari n rs S' r) ⟨An tl,Aj [],1⟩):Ax P G g args r:=by
 subst hN
 have h0:∃ c,fn.body=some c∧AC.of P fn.ntmps c=some ac∧Res.ofL P fn.results.toList=some rs:=by
  unfold Am at hc0;split at hc0
  ·rename_i c hb;split at hc0
   ·rename_i ac' rs' h1 h2;obtain ⟨rfl,rfl⟩:=Prod.mk.inj (osj hc0);exact ⟨c,hb,h1,h2⟩
   ·cases hc0
  ·cases hc0
 obtain ⟨c,hb,hc,hrs⟩:=h0;intro w im vs hG hargs
 replace h:=h w.heap.size
 rw [← htl,← St.init_eq] at h;have hlen:vs.length=args.length:=hargs.length
 have hany:∀ (cs:List AV) (us:List Value),AV.RepL (fun _=>none) im w cs us->AV.RepL (fun _=>none) (imm (fun _=>none) (fun _=>none)) w cs us:=fun cs us h' =>
  AV.RepL.later ⟨fun _ _ h=>h,(fun _ _ _ _ _ _ _ h=>by cases h),fun _ _ _=>rfl,Nat.le_refl _⟩ cs us h'
 have hreps:Nj (GN G w.heap.size) w ⟨fun _=>none,fun _=>False,w,fun _ _ h=>(nomatch h)⟩ fn.ntmps (St.init args) { tmps:=vs.toArray++Array.replicate (fn.ntmps - vs.toArray.size) undef,defers:=[] } w:=by
  refine ⟨⟨fun _=>none,⟨Below.refl _ _,fun w' hb=>⟨hG w' hb,hb.size⟩,(fun _ _ h=>by cases h),(fun _ _ _ _ h=>by cases h),(fun _ _ _ _ h=>by cases h),(fun _ _ _ _ _ _ _ _ _ h=>by cases h),(fun _ _ _ h=>by cases h)⟩,fun t=>?_,⟨fun _ _ h=>h,fun _ _ h=>h.elim,fun _ _ h=>h.elim,Nat.le_refl _⟩⟩,by simp; omega,rfl,fun i h=>absurd rfl h⟩;simp only [St.init,gDg];cases ht:args[t]? with
  | none=>trivial
  | some c =>
   obtain ⟨v,hv,hr⟩:=(hany _ _ hargs).get ht;have hlt:t<vs.length:=(gSi.1 hv).1
   have e:(vs.toArray++Array.replicate (fn.ntmps - vs.toArray.size) undef).getD t undef=v:=by
    rw [Array.getD_eq_getD_getElem?,Array.getElem?_append_left (by simpa using hlt)];simp [hv]
   rw [e];exact hr
 refine calls_of_wp hf hb (Code.wp_mono (fun e a' w' hq=>?_) (Uf hfol c ac _ _ _ w hc h hreps));obtain ⟨e',S0,rfl,⟨S',hweak,hend,gs,ps,h1,h2,h4⟩,hr⟩:=hq
 replace hr:=hweak _ _ _ _ _ _ hr
 obtain ⟨σ,hM,hF,_⟩:=hr.ex
 have hrun:∀ (vars:List ResultVar) (rs:List Res) (avs:List AV),Res.ofL P vars=some rs->Res.evL S'.tm S'.ob rs=some avs ->
   ∃ us,(vars.mapM (Af1 a'.tmps)).run P w'=.ok us w'∧AV.RepL σ (imm S'.ob σ) w' avs us∧us.length=vars.length∧rs.length=vars.length:=by
  intro vars
  induction vars with
  | nil =>
   intro rs avs q1 q2;obtain rfl:[]=rs:=osj q1;obtain rfl:[]=avs:=osj q2;exact ⟨[],rfl,rfl,rfl,rfl⟩
  | cons v vars ih =>
   intro rs avs q1 q2;simp only [Res.ofL] at q1;split at q1
   ·rename_i x xs p1 p2;obtain rfl:=osj q1;simp only [Res.evL] at q2;split at q2
    ·rename_i y ys p3 p4;obtain rfl:=osj q2;obtain ⟨u,r1,r2⟩:=Res.run hM hF p1 p3;obtain ⟨us,r3,r4,r5,r6⟩:=ih _ _ p2 p4;refine ⟨u :: us,?_,⟨u,us,rfl,r2,r4⟩,by simp [r5],by simp [r6]⟩;rw [List.mapM_cons,Sem.run_bind,r1];simp only [Result.andThen_ok,Sem.run_bind,r3,Sem.run_pure]
    ·cases q2
   ·cases q1
 obtain ⟨us,u1,u2,u3,u4⟩:=hrun fn.results.toList rs _ hrs h1;obtain ⟨vs',f1,f3⟩:=Xa (im:=im) (vs0:=vs) hM h2 u2;have hres:(results fn a'.tmps).run P w'=.ok (if fn.results.size=1 then us.headD undef else .tuple us.toArray) w':=Nc u1 (by rw [u3]; simp)
 have hrv:r.Rep w.heap.size im vs w' (if fn.results.size=1 then us.headD undef else .tuple us.toArray):=by
  subst h4;refine ⟨vs',[],f1,⟨trivial,fun _=>rfl⟩,?_⟩;simp only [f3];have:rs.length=fn.results.size:=by rw [u4]; simp
  rw [this];by_cases h1:fn.results.size=1 <;> simp [h1]
 have fin:∃ u,(results fn a'.tmps).run P w'=.ok u w'∧∃ v,Ending.returned u=.returned v∧Below w.heap.size w w'∧r.Rep w.heap.size im vs w' v:=⟨_,hres,_,rfl,hM.below,hrv⟩
 rcases hend with rfl | rfl
 ·exact ⟨hr.defers,fin⟩
 ·exact ⟨hr.defers,fin⟩
theorem Arr {n:Nat} {rs:List Res} {tm:Nat->AV} {ob:Oid->Option Ob} {g:Nat} {r:RV} (gs:List (Bool×List AV)) {e:AE} (h2:Rq n ob gs r.ps) (he:e=.normal∨e=.ret:=by simp) (h1:Res.evL tm ob rs=some (Aod gs):=by kernel_rfl) (h4:r.tup=decide (rs.length≠1):=by kernel_rfl):∃ S',Weak ⟨tm,ob,g⟩ S'∧(e=.normal∨e=.ret)∧Ari n rs S' r :=
 ⟨_,Weak.refl _,he,gs,r.ps,h1,h2,by cases r; cases h4; rfl⟩
section
variable {n:Nat} {ob:Oid->Option Ob}
theorem Aq4:Rq n ob [] []:=rfl
theorem Aqf {cs:List AV} {r:List (Bool×List AV)} {ls:List RL} {ps:List (Bool×List RL)} (h1:Kr n ob cs ls) (h2:Rq n ob r ps):Rq n ob ((true,cs) :: r) ((true,ls) :: ps):=⟨ls,ps,rfl,h1,(fun h=>by cases h),h2⟩
theorem Aqj:Kr n ob [] []:=rfl
theorem Sm {c:AV} {cs:List AV} {l:RL} {ls:List RL} (h1:Aj0 n ob c l) (h2:Kr n ob cs ls):Kr n ob (c :: cs) (l :: ls):=⟨l,ls,rfl,h1,h2⟩
theorem Alq {c:AV} (h:c.scal=true:=by kernel_rfl):Aj0 n ob c (.sc c):=.inl ⟨h,rfl⟩
theorem Anl {c:AV} {t:Ty} {xs:List t.D} (h:Ahe n ob c (.tree t xs)):Aj0 n ob c (.frz (.tree t xs)):=.inr ⟨_,rfl,rfl,h⟩
end
end
section
open Go.RowKit Go.Deep
section
variable {σ:Oid->Option Loc} {im:Nat->Prop} {w:World}
end
section
variable {n:Nat} {d:Option Nat} {f:Nat->AV} {ob:Oid->Option Ob}
end
end
section
open Go.RowKit Go.Deep
set_option maxRecDepth 4000
def Pp:AC :=
 (.seq (rg [xo 2 (.i (.box 77 (tm 0))),xo 4 (qm (ci 0))])
 (.seq (rg [xo 5 (qm (tm 1)),xo 6 (qf 2 (tm 2)),xo 7 (ql (tm 6)),xo 8 (.i (.lenS (tm 7))),xo 9 (qb .sub (tm 5) (tm 8)),xo 1 (qm (tm 9))])
 (.seq (.seq (rg [xo 10 (qm (tm 1)),xo 11 (qb .lss (tm 10) (ci 0))])
 (.cond (tm 11)
  (.seq (rg [xo 4 (qm (ci (-1)))])
  .ret)
  .skip))
 (.seq (rg [xo 12 (qm (tm 1)),xo 4 (qm (tm 12))])
 .ret))))
def Abm:List Res:=[.tmp 4]
theorem Abv:Am Tryd.prog Tryd.f44=some (Pp,Abm):=by kernel_rfl
def H5 (a0_0:Int) (a0_1:Int) (a0_2:ByteArray) (a1:Int):Option Int :=
 cond (decide (wI (a1 - ((a0_2.size:Nat):Int))<0))
 (some (-1))
 (some (wI (a1 - ((a0_2.size:Nat):Int))))
def Zv (r:Int):RV:=⟨false,[(false,[.sc (.int .i64 r)])]⟩
theorem Yv {a0_0:Int} {a0_1:Int} {a0_2:ByteArray} {a1:Int} {r:Int} (h:H5 a0_0 a0_1 a0_2 a1=some r):Ax Tryd.prog Tab 44 [.agg [ai a0_0,ai a0_1,.str a0_2],ai a1] (Zv r):=by
 refine As (by kernel_rfl) Tryd.func44 Abv (n:=13) (by kernel_rfl) (by simp) (tl:=[(0,.agg [ai a0_0,ai a0_1,.str a0_2]),(1,ai a1)]) rfl ?_;unfold Pp;unfold H5 at h;refine Ak ?_;refine Ak ?_;refine Ab ?_;refine Ak ?_;rcases Ad h with ⟨q5,h⟩ | ⟨q5,h⟩
 ·have q5_:=of_decide_eq_true q5;refine Af q5 ?_;refine Ak ?_;refine Ah (tr_ ?_);obtain rfl:=zj h;exact A0 [ai (-1)] (Ap rfl zl Ar)
 have q5_:=of_decide_eq_false q5;refine Ae q5 ?_;refine Ai (tn_ ?_);refine wr_ ?_;refine Ak ?_;refine Ah ?_;obtain rfl:=zj h;exact A0 [ai (wI (a1 - ((a0_2.size:Nat):Int)))] (Ap rfl zl Ar)
def K3:AC :=
 (.seq (.seq (rg [xo 12 (qm (tm 5)),xo 13 (qm (tm 0)),xo 14 (.i (.len (tm 13))),xo 15 (qb .lss (tm 12) (tm 14))])
 (.cond (tm 15)
  .skip
  (.exit 0)))
 (.seq (.block 1 (.seq (rg [xo 18 (qm (tm 0)),xo 19 (qm (tm 5)),xo 20 (qx 3 (tm 18) (tm 19)),xo 21 (.i (.ld false 3 (tm 20))),xo 22 (qm (tm 1)),xo 23 (qc 44 [tm 21,tm 22] [[none,none,none],[]]),xo 1 (qm (tm 23))])
 (.seq (rg [xo 24 (qm (tm 1)),xo 25 (qb .lss (tm 24) (ci 0))])
 (.cond (tm 25)
  (.seq (rg [xo 4 (qm (ci (-1)))])
  .ret)
  .skip))))
 (rg [xo 16 (qm (tm 5)),xo 17 (qb .add (tm 16) (ci 1)),xo 5 (qm (tm 17))])))
def Nz:AC :=
 (.seq (rg [xo 4 (qm (ci 0))])
 (.seq (rg [xo 6 (qm (tm 1)),xo 7 (qm (tm 0)),xo 8 (.i (.len (tm 7))),xo 9 (qb .sub (tm 6) (tm 8)),xo 1 (qm (tm 9))])
 (.seq (.seq (rg [xo 10 (qm (tm 1)),xo 11 (qb .lss (tm 10) (ci 0))])
 (.cond (tm 11)
  (.seq (rg [xo 4 (qm (ci (-1)))])
  .ret)
  .skip))
 (.seq (.seq (rg [xo 5 (qm (ci 0))])
 (.block 0 (.loop K3)))
 (.seq (rg [xo 26 (qm (tm 1)),xo 4 (qm (tm 26))])
 .ret)))))
def Z8:List Res:=[.tmp 4]
theorem Yc:Am Tryd.prog Tryd.f25=some (Nz,Z8):=by kernel_rfl
def Dr (a0:List (Int×Int×ByteArray)) (l9_m1:Int) (l9_m5:Nat):Option (Ctl (Int×Nat) (Ctl Int Int)) :=
 cond (decide (((l9_m5:Nat):Int)<((a0.length:Nat):Int)))
 (Option.bind (a0[l9_m5]?) fun x15 =>
 Option.bind (H5 x15.1 x15.2.1 x15.2.2 l9_m1) fun y16 =>
 cond (decide (y16<0))
  (some (Ctl.out (Ctl.out (-1))))
  (og (l9_m5+1<4611686018427387904) <|
  some (Ctl.next (y16,l9_m5+1))))
 (some (Ctl.out (Ctl.next l9_m1)))
def Fi (a0:List (Int×Int×ByteArray)) (a1:Int):Option Int :=
 cond (decide (wI (a1 - ((a0.length:Nat):Int))<0))
 (some (-1))
 (Dt (A4 (fun s_:Int×Nat=>Dr a0 s_.1 s_.2) 4611686018427387904 (wI (a1 - ((a0.length:Nat):Int)),0)) fun l7_m1 =>
 some l7_m1)
def We (r:Int):RV:=⟨false,[(false,[.sc (.int .i64 r)])]⟩
theorem V9 {a0:List (Int×Int×ByteArray)} {a1:Int} {r:Int} (h:Fi a0 a1=some r):Ax Tryd.prog Tab 25 [.tree (.pair .int (.pair .int .str)) a0,ai a1] (We r):=by
 refine As (by kernel_rfl) Tryd.func25 Yc (n:=27) (by kernel_rfl) (by simp) (tl:=[(0,.tree (.pair .int (.pair .int .str)) a0),(1,ai a1)]) rfl ?_;unfold Nz;unfold Fi at h;refine Ak ?_;refine Ak ?_;refine Ab ?_;refine Ak ?_;rcases Ad h with ⟨q5,h⟩ | ⟨q5,h⟩
 ·have q5_:=of_decide_eq_true q5;refine Af q5 ?_;refine Ak ?_;refine Ah (tr_ ?_);obtain rfl:=zj h;exact A0 [ai (-1)] (Ap rfl zl Ar)
 have q5_:=of_decide_eq_false q5;refine Ae q5 ?_;refine Ai (tn_ ?_);refine wr_ ?_;refine Bl h (fun (l7_m1:Int) S_=>S_=⟨An [(1,ai l7_m1)],Aj (Aq []),2⟩) ?_ ?_
 ·intro v_ h hk7;refine Ak ?_;refine Al ?_;refine A5 h (fun t_ S_=>∃ (l9_m1:Int),∃ (l9_m5:Nat),t_=(l9_m1,l9_m5)∧S_=⟨An [(0,.tree (.pair .int (.pair .int .str)) a0),(1,ai l9_m1),(5,ai ((l9_m5:Nat):Int))],Aj (Aq []),2⟩) ⟨_,Ac [],⟨wI (a1 - ((a0.length:Nat):Int)),0,rfl,rfl⟩⟩ ?_;rintro n_ _ _ c_ ⟨l9_m1,l9_m5,rfl,rfl⟩ h hn9
  (try dsimp only at h);unfold Dr at h;unfold K3;refine Ab ?_;refine Ak ?_;rcases Ad h with ⟨q12,h⟩ | ⟨q12,h⟩
  ·have q12_:=of_decide_eq_true q12;refine Af q12 ?_;refine Ai (tn_ ?_);refine wr_ ?_;refine Ab ?_;refine Al ?_;refine Ab ?_;obtain ⟨x15,e15,h⟩:=Ag h;obtain ⟨y16,h16,h⟩:=Ag h;refine Aa 13 ?_;refine rz0 (.tree (.pair .int (.pair .int .str)) a0) ?_;refine rz0 (ai ((l9_m5:Nat):Int)) ?_;refine rs0 (.telt (.pair .int (.pair .int .str)) x15 0) (zi (t:=.pair .int (.pair .int .str)) (xs:=a0) (k:=.i64) (m:=((l9_m5:Nat):Int)) (Ay _) e15) ?_;refine rz0 (.agg [ai x15.1,ai x15.2.1,.str x15.2.2]) ?_;refine rz0 (ai l9_m1) ?_;refine zc (ai y16) [] [.agg [ai x15.1,ai x15.2.1,.str x15.2.2],ai l9_m1] (Yv h16) ?_;refine rsB 1 ?_;refine Ao (tn_ ?_);refine wr_ ?_;refine Ak ?_;rcases Ad h with ⟨q18,h⟩ | ⟨q18,h⟩
   ·have q18_:=of_decide_eq_true q18;refine Af q18 ?_;refine Ak ?_;refine Ah (br_ (tr_ (tr_ (br_ (tr_ ?_)))));obtain rfl:=zj h;have h:=hn9
    (try dsimp only at h);obtain rfl:=zj h;have h:=hk7
    (try dsimp only at h);obtain rfl:=zj h;exact A0 [ai (-1)] (Ap rfl zl Ar)
   have q18_:=of_decide_eq_false q18;refine Ae q18 ?_;refine Ai (bn_ (tn_ ?_));refine wr_ ?_;obtain ⟨g20,h⟩:=Av h;refine Aa 18 ?_;refine rz0 (ai ((l9_m5:Nat):Int)) ?_;refine rs0 (ai ((l9_m5+1:Nat):Int)) (za g20) ?_;refine rsB 1 ?_;refine Ao (tn_ ?_);obtain rfl:=zj h;exact ⟨(y16,l9_m5+1),_,Ac [],⟨y16,l9_m5+1,rfl,rfl⟩,hn9⟩
  have q12_:=of_decide_eq_false q12;refine Ae q12 ?_;refine A2 (te_ (te_ (be_ (tn_ ?_))));obtain rfl:=zj h;have h:=hn9
  (try dsimp only at h);obtain rfl:=zj h;exact ⟨l9_m1,_,rfl,Ac [],rfl⟩
 rintro l7_m1 _ rfl h
 (try dsimp only at h);refine Ak ?_;refine Ah ?_;obtain rfl:=zj h;exact A0 [ai l7_m1] (Ap rfl zl Ar)
def Qf:AC :=
 (.seq (rg [xo 1 (.i (.box 77 (tm 0))),⟨some 2,none,.i (.alloc 87 [.int .i64 0,.int .i64 0,.str ⟨#[]⟩])⟩])
 (.seq (rg [⟨some 3,none,.i (.alloc 87 [.int .i64 0,.int .i64 0,.str ⟨#[]⟩])⟩])
 (.seq (rg [xo 4 (qf 0 (tm 1)),xo 5 (ql (tm 4)),xo 6 (qf 0 (tm 3)),xn (qs (tm 6) (tm 5))])
 (.seq (rg [xo 7 (qf 1 (tm 1)),xo 8 (ql (tm 7)),xo 9 (qf 1 (tm 3)),xn (qs (tm 9) (tm 8))])
 (.seq (rg [xo 10 (qf 2 (tm 1)),xo 11 (ql (tm 10)),xo 12 (qf 2 (tm 3)),xn (qs (tm 12) (tm 11))])
 (.seq (rg [xo 13 (.i (.ld false 3 (tm 3))),xn (.st false 3 (tm 2) (tm 13))])
 .ret))))))
def Aa3:List Res:=[.cell 2 false 3]
theorem Aax:Am Tryd.prog Tryd.f53=some (Qf,Aa3):=by kernel_rfl
def H0 (a0_0:Int) (a0_1:Int) (a0_2:ByteArray):Option (Int×Int×ByteArray) :=
 some (a0_0,a0_1,a0_2)
def Aaa (r:Int×Int×ByteArray):RV:=⟨false,[(true,[.sc (.int .i64 r.1),.sc (.int .i64 r.2.1),.sc (.str r.2.2)])]⟩
theorem Z9 {a0_0:Int} {a0_1:Int} {a0_2:ByteArray} {r:Int×Int×ByteArray} (h:H0 a0_0 a0_1 a0_2=some r):Ax Tryd.prog Tab 53 [.agg [ai a0_0,ai a0_1,.str a0_2]] (Aaa r):=by
 refine As (by kernel_rfl) Tryd.func53 Aax (n:=14) (by kernel_rfl) (by simp) (tl:=[(0,.agg [ai a0_0,ai a0_1,.str a0_2])]) rfl ?_;unfold Qf;unfold H0 at h;refine Ak ?_;refine Ak ?_;refine Ak ?_;refine Ak ?_;refine Ak ?_;refine Ak ?_;refine Ah ?_;obtain rfl:=zj h;exact A0 [.agg [ai a0_0,ai a0_1,.str a0_2]] (Fq (Bf zl (Bf zl (Bf zl Fp))) Ar)
def Kv:AC :=
 (.seq (.seq (rg [xo 8 (qm (tm 4)),xo 9 (qm (tm 0)),xo 10 (.i (.len (tm 9))),xo 11 (qb .lss (tm 8) (tm 10))])
 (.cond (tm 11)
  .skip
  (.exit 0)))
 (.seq (.block 1 (rg [xo 14 (qm (tm 3)),xo 15 (qm (tm 4)),xo 16 (qm (tm 0)),xo 17 (qm (tm 4)),xo 18 (qx 3 (tm 16) (tm 17)),xo 19 (.i (.ld false 3 (tm 18))),xo 20 (qc 53 [tm 19] [[none,none,none]]),xo 21 (qx 3 (tm 14) (tm 15)),xn (.st false 3 (tm 21) (tm 20))]))
 (rg [xo 12 (qm (tm 4)),xo 13 (qb .add (tm 12) (ci 1)),xo 4 (qm (tm 13))])))
def N4:AC :=
 (.seq (rg [xo 2 (qm (.cst .nils))])
 (.seq (rg [xo 5 (qm (tm 0)),xo 6 (.i (.len (tm 5))),xo 7 (.make 87 (.pair .int (.pair .int .str)) 32 (tm 6) (tm 6)),xo 3 (qm (tm 7))])
 (.seq (.seq (rg [xo 4 (qm (ci 0))])
 (.block 0 (.loop Kv)))
 (.seq (rg [xo 22 (qm (tm 3)),xo 2 (qm (tm 22))])
 .ret))))
def Ye:List Res:=[.tmp 2]
theorem X6:Am Tryd.prog Tryd.f32=some (N4,Ye):=by kernel_rfl
def Dg (a0:List (Int×Int×ByteArray)) (l6_m4:Nat) (l6_m3:List (Int×Int×ByteArray)):Option (Ctl (Nat×(List (Int×Int×ByteArray))) (List (Int×Int×ByteArray))) :=
 cond (decide (((l6_m4:Nat):Int)<((a0.length:Nat):Int)))
 (Option.bind (a0[l6_m4]?) fun x11 =>
 Option.bind (H0 x11.1 x11.2.1 x11.2.2) fun y12 =>
 Option.bind (l6_m3[l6_m4]?) fun x13 =>
 og (l6_m4+1<4611686018427387904) <|
 some (Ctl.next (l6_m4+1,l6_m3.set l6_m4 y12)))
 (some (Ctl.out l6_m3))
def Fn (a0:List (Int×Int×ByteArray)):Option (List (Int×Int×ByteArray)) :=
 og (0<=((a0.length:Nat):Int)∧((a0.length:Nat):Int)<=((a0.length:Nat):Int)∧((a0.length:Nat):Int)<=1073741824∧(32:Int)*((a0.length:Nat):Int)<=140737488355328) <|
Option.bind (A4 (fun s_:Nat×(List (Int×Int×ByteArray))=>Dg a0 s_.1 s_.2) 4611686018427387904 (0,List.replicate a0.length ((0,0,(⟨#[]⟩:ByteArray)):Int×Int×ByteArray))) fun l4_m3 =>
some l4_m3
def Vt (r:List (Int×Int×ByteArray)):RV:=⟨false,[(false,[.new 87 (.pair .int (.pair .int .str)) r])]⟩
theorem Vu {a0:List (Int×Int×ByteArray)} {r:List (Int×Int×ByteArray)} (h:Fn a0=some r):Ax Tryd.prog Tab 32 [.tree (.pair .int (.pair .int .str)) a0] (Vt r):=by
 refine As (by kernel_rfl) Tryd.func32 X6 (n:=23) (by kernel_rfl) (by simp) (tl:=[(0,.tree (.pair .int (.pair .int .str)) a0)]) rfl ?_;unfold N4;unfold Fn at h;refine Ak ?_;refine Ab ?_;obtain ⟨g3,h⟩:=Av h;refine Aa 6 ?_;refine rz0 (.tree (.pair .int (.pair .int .str)) a0) ?_;refine rz0 (ai ((a0.length:Nat):Int)) ?_;refine rs1 (.own (oi 7 4) (.pair .int (.pair .int .str)) 0 a0.length) (oi 7 4) (.arr 87 (.pair .int (.pair .int .str)) (List.replicate a0.length ((0,0,(⟨#[]⟩:ByteArray)):Int×Int×ByteArray))) (Ami (t:=.pair .int (.pair .int .str)) (k:=.i64) (k':=.i64) (m:=((a0.length:Nat):Int)) (m':=((a0.length:Nat):Int)) (by kernel_rfl) (by kernel_rfl) g3 rfl) ?_;refine rsB 1 ?_;refine Ao (tn_ ?_);refine wr_ ?_;refine Aw h (fun (l4_m3:List (Int×Int×ByteArray)) S_=>S_=⟨An [(3,.own (oi 0 1) (.pair .int (.pair .int .str)) 0 l4_m3.length)],Aj (Aq [(oi 0 1,.arr 87 (.pair .int (.pair .int .str)) l4_m3)]),2⟩) ?_ ?_
 ·intro v_ h;refine Ak ?_;refine Al ?_;refine A5 h (fun t_ S_=>∃ (l6_m4:Nat),∃ (l6_m3:List (Int×Int×ByteArray)),t_=(l6_m4,l6_m3)∧S_=⟨An [(0,.tree (.pair .int (.pair .int .str)) a0),(3,.own (oi 0 1) (.pair .int (.pair .int .str)) 0 l6_m3.length),(4,ai ((l6_m4:Nat):Int))],Aj (Aq [(oi 0 1,.arr 87 (.pair .int (.pair .int .str)) l6_m3)]),2⟩) ⟨_,(Ca 3 (.own (oi 7 4) (.pair .int (.pair .int .str)) 0 a0.length) (.own (oi 7 4) (.pair .int (.pair .int .str)) 0 ((List.replicate a0.length ((0,0,(⟨#[]⟩:ByteArray)):Int×Int×ByteArray)).length)) (by kernel_rfl) (congrArg (fun z_=>((.own (oi 7 4) (.pair .int (.pair .int .str)) 0 z_):AV)) (List.length_replicate.symm:a0.length=(List.replicate a0.length ((0,0,(⟨#[]⟩:ByteArray)):Int×Int×ByteArray)).length))).trans (Ac [(oi 0 1,oi 7 4)]),⟨0,List.replicate a0.length ((0,0,(⟨#[]⟩:ByteArray)):Int×Int×ByteArray),rfl,rfl⟩⟩ ?_;rintro n_ _ _ c_ ⟨l6_m4,l6_m3,rfl,rfl⟩ h hn6
  (try dsimp only at h);unfold Dg at h;unfold Kv;refine Ab ?_;refine Ak ?_;rcases Ad h with ⟨q9,h⟩ | ⟨q9,h⟩
  ·have q9_:=of_decide_eq_true q9;refine Af q9 ?_;refine Ai (tn_ ?_);refine wr_ ?_;refine Ab ?_;refine Al ?_;obtain ⟨x11,e11,h⟩:=Ag h;obtain ⟨y12,h12,h⟩:=Ag h;obtain ⟨x13,e13,h⟩:=Ag h;refine Aa 15 ?_;refine rz0 (.own (oi 0 1) (.pair .int (.pair .int .str)) 0 l6_m3.length) ?_;refine rz0 (ai ((l6_m4:Nat):Int)) ?_;refine rz0 (.tree (.pair .int (.pair .int .str)) a0) ?_;refine rz0 (ai ((l6_m4:Nat):Int)) ?_;refine rs0 (.telt (.pair .int (.pair .int .str)) x11 0) (zi (t:=.pair .int (.pair .int .str)) (xs:=a0) (k:=.i64) (m:=((l6_m4:Nat):Int)) (Ay _) e11) ?_;refine rz0 (.agg [ai x11.1,ai x11.2.1,.str x11.2.2]) ?_;refine zc (.agg [ai y12.1,ai y12.2.1,.str y12.2.2]) [] [.agg [ai x11.1,ai x11.2.1,.str x11.2.2]] (Z9 h12) ?_;refine rs0 (.elt (oi 0 1) l6_m4 0) (zo (t:=.pair .int (.pair .int .str)) (o:=oi 0 1) (len:=l6_m3.length) (k:=.i64) (m:=((l6_m4:Nat):Int)) (Ay _) (Au e13)) ?_;refine Ah7 (oi 0 1) (oi 0 1) (.arr 87 (.pair .int (.pair .int .str)) (l6_m3.set l6_m4 y12)) (Adj (i:=oi 0 1) (j:=l6_m4) (k:=0) (e:=87) (t:=.pair .int (.pair .int .str)) (xs:=l6_m3) (cs:=[ai y12.1,ai y12.2.1,.str y12.2.2]) (x1:=y12) (by kernel_rfl) (by kernel_rfl) e13 (by kernel_rfl) (by kernel_rfl)) ?_;refine Ao (bn_ (tn_ ?_));refine wr_ ?_;obtain ⟨g14,h⟩:=Av h;refine Aa 18 ?_;refine rz0 (ai ((l6_m4:Nat):Int)) ?_;refine rs0 (ai ((l6_m4+1:Nat):Int)) (za g14) ?_;refine rsB 1 ?_;refine Ao (tn_ ?_);obtain rfl:=zj h;exact ⟨(l6_m4+1,l6_m3.set l6_m4 y12),_,(Ca 3 (.own (oi 0 1) (.pair .int (.pair .int .str)) 0 l6_m3.length) (.own (oi 0 1) (.pair .int (.pair .int .str)) 0 ((l6_m3.set l6_m4 y12).length)) (by kernel_rfl) (congrArg (fun z_=>((.own (oi 0 1) (.pair .int (.pair .int .str)) 0 z_):AV)) (((rfl:l6_m3.length=l6_m3.length).trans List.length_set.symm):l6_m3.length=(l6_m3.set l6_m4 y12).length))).trans (Ac []),⟨l6_m4+1,l6_m3.set l6_m4 y12,rfl,rfl⟩,hn6⟩
  have q9_:=of_decide_eq_false q9;refine Ae q9 ?_;refine A2 (te_ (te_ (be_ (tn_ ?_))));obtain rfl:=zj h;have h:=hn6
  (try dsimp only at h);obtain rfl:=zj h;exact ⟨_,Ac [],rfl⟩
 rintro l4_m3 _ rfl h
 (try dsimp only at h);refine Ak ?_;refine Ah ?_;obtain rfl:=zj h;exact A0 [.own (oi 0 1) (.pair .int (.pair .int .str)) 0 l4_m3.length] (Ap rfl (Ez (by kernel_rfl) rfl) Ar)
def Pv:AC :=
 (.seq (rg [xo 2 (.i (.box 87 (tm 0))),xo 3 (.i (.box 87 (tm 1))),xo 4 (qm (cb false))])
 (.seq (.seq (rg [xo 5 (qf 0 (tm 2)),xo 6 (ql (tm 5)),xo 7 (qf 0 (tm 3)),xo 8 (ql (tm 7)),xo 9 (qb .neq (tm 6) (tm 8))])
 (.cond (tm 9)
  (.seq (rg [xo 4 (qm (cb false))])
  .ret)
  .skip))
 (.seq (.seq (rg [xo 10 (qf 1 (tm 2)),xo 11 (ql (tm 10)),xo 12 (qf 1 (tm 3)),xo 13 (ql (tm 12)),xo 14 (qb .neq (tm 11) (tm 13))])
 (.cond (tm 14)
  (.seq (rg [xo 4 (qm (cb false))])
  .ret)
  .skip))
 (.seq (.seq (rg [xo 15 (qf 2 (tm 2)),xo 16 (ql (tm 15)),xo 17 (qf 2 (tm 3)),xo 18 (ql (tm 17)),xo 19 (qb .neq (tm 16) (tm 18))])
 (.cond (tm 19)
  (.seq (rg [xo 4 (qm (cb false))])
  .ret)
  .skip))
 (.seq (rg [xo 4 (qm (cb true))])
 .ret)))))
def Ab4:List Res:=[.tmp 4]
theorem Abo:Am Tryd.prog Tryd.f65=some (Pv,Ab4):=by kernel_rfl
theorem Z3:A6 Tryd.prog 65=true:=by kernel_rfl
def H1 (a0_0:Int) (a0_1:Int) (a0_2:ByteArray) (a1_0:Int) (a1_1:Int) (a1_2:ByteArray):Option Bool :=
 cond (a0_0 !=a1_0)
 (some false)
 (cond (a0_1 !=a1_1)
  (some false)
  (cond (!(a0_2.toList==a1_2.toList))
   (some false)
   (some true)))
def Zp (r:Bool):RV:=⟨false,[(false,[.sc (.bool r)])]⟩
theorem Xm {a0_0:Int} {a0_1:Int} {a0_2:ByteArray} {a1_0:Int} {a1_1:Int} {a1_2:ByteArray} {r:Bool} (h:H1 a0_0 a0_1 a0_2 a1_0 a1_1 a1_2=some r):Ax Tryd.prog Tab 65 [.agg [ai a0_0,ai a0_1,.str a0_2],.agg [ai a1_0,ai a1_1,.str a1_2]] (Zp r):=by
 refine As (by kernel_rfl) Tryd.func65 Abo (n:=20) (by kernel_rfl) (by simp) (tl:=[(0,.agg [ai a0_0,ai a0_1,.str a0_2]),(1,.agg [ai a1_0,ai a1_1,.str a1_2])]) rfl ?_;unfold Pv;unfold H1 at h;refine Ak ?_;refine Ab ?_;refine Ak ?_;rcases Ad h with ⟨q4,h⟩ | ⟨q4,h⟩
 ·refine Af q4 ?_;refine Ak ?_;refine Ah (tr_ ?_);obtain rfl:=zj h;exact A0 [.bool false] (Ap rfl zl Ar)
 refine Ae q4 ?_;refine Ai (tn_ ?_);refine wr_ ?_;refine Ab ?_;refine Ak ?_;rcases Ad h with ⟨q8,h⟩ | ⟨q8,h⟩
 ·refine Af q8 ?_;refine Ak ?_;refine Ah (tr_ ?_);obtain rfl:=zj h;exact A0 [.bool false] (Ap rfl zl Ar)
 refine Ae q8 ?_;refine Ai (tn_ ?_);refine wr_ ?_;refine Ab ?_;refine Ak ?_;rcases Ad h with ⟨q12,h⟩ | ⟨q12,h⟩
 ·refine Af q12 ?_;refine Ak ?_;refine Ah (tr_ ?_);obtain rfl:=zj h;exact A0 [.bool false] (Ap rfl zl Ar)
 refine Ae q12 ?_;refine Ai (tn_ ?_);refine wr_ ?_;refine Ak ?_;refine Ah ?_;obtain rfl:=zj h;exact A0 [.bool true] (Ap rfl zl Ar)
def Ko:AC :=
 (.seq (.seq (rg [xo 11 (qm (tm 5)),xo 12 (qm (tm 0)),xo 13 (.i (.len (tm 12))),xo 14 (qb .lss (tm 11) (tm 13))])
 (.cond (tm 14)
  .skip
  (.exit 0)))
 (.seq (.block 1 (.seq (.region [xo 17 (qm (tm 0)),xo 18 (qm (tm 5)),xo 19 (qx 3 (tm 17) (tm 18)),xo 20 (.i (.ld false 3 (tm 19))),xo 21 (qm (tm 1)),xo 22 (qm (tm 5)),xo 23 (qx 3 (tm 21) (tm 22)),xo 24 (.i (.ld false 3 (tm 23))),xo 25 (qc 65 [tm 20,tm 24] [[none,none,none],[none,none,none]]),xo 26 (.i (.not (tm 25)))] true [])
 (.cond (tm 26)
  (.seq (rg [xo 4 (qm (cb false))])
  .ret)
  .skip)))
 (rg [xo 15 (qm (tm 5)),xo 16 (qb .add (tm 15) (ci 1)),xo 5 (qm (tm 16))])))
def Od:AC :=
 (.seq (rg [xo 4 (qm (cb false))])
 (.seq (.seq (rg [xo 6 (qm (tm 0)),xo 7 (.i (.len (tm 6))),xo 8 (qm (tm 1)),xo 9 (.i (.len (tm 8))),xo 10 (qb .neq (tm 7) (tm 9))])
 (.cond (tm 10)
  (.seq (rg [xo 4 (qm (cb false))])
  .ret)
  .skip))
 (.seq (.seq (rg [xo 5 (qm (ci 0))])
 (.block 0 (.loop Ko)))
 (.seq (rg [xo 4 (qm (cb true))])
 .ret))))
def Xl:List Res:=[.tmp 4]
theorem Yn:Am Tryd.prog Tryd.f38=some (Od,Xl):=by kernel_rfl
def Dq (a0:List (Int×Int×ByteArray)) (a1:List (Int×Int×ByteArray)) (l8_m5:Nat):Option (Ctl Nat (Ctl Unit Bool)) :=
 cond (decide (((l8_m5:Nat):Int)<((a0.length:Nat):Int)))
 (Option.bind (a0[l8_m5]?) fun x14 =>
 Option.bind (a1[l8_m5]?) fun x15 =>
 Option.bind (H1 x14.1 x14.2.1 x14.2.2 x15.1 x15.2.1 x15.2.2) fun y16 =>
 cond (!y16)
  (some (Ctl.out (Ctl.out false)))
  (og (l8_m5+1<4611686018427387904) <|
  some (Ctl.next (l8_m5+1))))
 (some (Ctl.out (Ctl.next ())))
def Fo (a0:List (Int×Int×ByteArray)) (a1:List (Int×Int×ByteArray)):Option Bool :=
 cond (((a0.length:Nat):Int) !=((a1.length:Nat):Int))
 (some false)
 (Dt (A4 (fun s_:Nat=>Dq a0 a1 s_) 4611686018427387904 0) fun _ =>
 some true)
def Vx (r:Bool):RV:=⟨false,[(false,[.sc (.bool r)])]⟩
theorem V8 {a0:List (Int×Int×ByteArray)} {a1:List (Int×Int×ByteArray)} {r:Bool} (h:Fo a0 a1=some r):Ax Tryd.prog Tab 38 [.tree (.pair .int (.pair .int .str)) a0,.tree (.pair .int (.pair .int .str)) a1] (Vx r):=by
 refine As (by kernel_rfl) Tryd.func38 Yn (n:=27) (by kernel_rfl) (by simp) (tl:=[(0,.tree (.pair .int (.pair .int .str)) a0),(1,.tree (.pair .int (.pair .int .str)) a1)]) rfl ?_;unfold Od;unfold Fo at h;refine Ak ?_;refine Ab ?_;refine Ak ?_;rcases Ad h with ⟨q4,h⟩ | ⟨q4,h⟩
 ·refine Af q4 ?_;refine Ak ?_;refine Ah (tr_ ?_);obtain rfl:=zj h;exact A0 [.bool false] (Ap rfl zl Ar)
 refine Ae q4 ?_;refine Ai (tn_ ?_);refine wr_ ?_;refine Bl h (fun (_:Unit) S_=>S_=⟨An [],Aj (Aq []),2⟩) ?_ ?_
 ·intro v_ h hk6;refine Ak ?_;refine Al ?_;refine A5 h (fun (l8_m5:Nat) S_=>S_=⟨An [(0,.tree (.pair .int (.pair .int .str)) a0),(1,.tree (.pair .int (.pair .int .str)) a1),(5,ai ((l8_m5:Nat):Int))],Aj (Aq []),2⟩) ⟨_,Ac [],rfl⟩ ?_;rintro n_ l8_m5 _ c_ rfl h hn8
  (try dsimp only at h);unfold Dq at h;unfold Ko;refine Ab ?_;refine Ak ?_;rcases Ad h with ⟨q11,h⟩ | ⟨q11,h⟩
  ·have q11_:=of_decide_eq_true q11;refine Af q11 ?_;refine Ai (tn_ ?_);refine wr_ ?_;refine Ab ?_;refine Al ?_;refine Ab ?_;obtain ⟨x14,e14,h⟩:=Ag h;obtain ⟨x15,e15,h⟩:=Ag h;obtain ⟨y16,h16,h⟩:=Ag h;refine A1 16 ?_;refine dz0 (.tree (.pair .int (.pair .int .str)) a0) ?_;refine dz0 (ai ((l8_m5:Nat):Int)) ?_;refine ds0 (.telt (.pair .int (.pair .int .str)) x14 0) (zi (t:=.pair .int (.pair .int .str)) (xs:=a0) (k:=.i64) (m:=((l8_m5:Nat):Int)) (Ay _) e14) ?_;refine dz0 (.agg [ai x14.1,ai x14.2.1,.str x14.2.2]) ?_;refine dz0 (.tree (.pair .int (.pair .int .str)) a1) ?_;refine dz0 (ai ((l8_m5:Nat):Int)) ?_;refine ds0 (.telt (.pair .int (.pair .int .str)) x15 0) (zi (t:=.pair .int (.pair .int .str)) (xs:=a1) (k:=.i64) (m:=((l8_m5:Nat):Int)) (Ay _) e15) ?_;refine dz0 (.agg [ai x15.1,ai x15.2.1,.str x15.2.2]) ?_;refine Eg (.bool y16) [] [.agg [ai x14.1,ai x14.2.1,.str x14.2.2],.agg [ai x15.1,ai x15.2.1,.str x15.2.2]] _ (caps:=[]) (args0:=[.agg [ai x14.1,ai x14.2.1,.str x14.2.2],.agg [ai x15.1,ai x15.2.1,.str x15.2.2]]) trivial (by kernel_rfl) (Xm h16) Z3 ?_;refine dz0 (.bool (!y16)) ?_;refine G0 (Be (by kernel_rfl)) (tn_ ?_);refine wr_ ?_;rcases Ad h with ⟨q17,h⟩ | ⟨q17,h⟩
   ·refine Af q17 ?_;refine Ak ?_;refine Ah (br_ (tr_ (tr_ (br_ (tr_ ?_)))));obtain rfl:=zj h;have h:=hn8
    (try dsimp only at h);obtain rfl:=zj h;have h:=hk6
    (try dsimp only at h);obtain rfl:=zj h;exact A0 [.bool false] (Ap rfl zl Ar)
   refine Ae q17 ?_;refine Ai (bn_ (tn_ ?_));refine wr_ ?_;obtain ⟨g19,h⟩:=Av h;refine Aa 19 ?_;refine rz0 (ai ((l8_m5:Nat):Int)) ?_;refine rs0 (ai ((l8_m5+1:Nat):Int)) (za g19) ?_;refine rsB 1 ?_;refine Ao (tn_ ?_);obtain rfl:=zj h;exact ⟨l8_m5+1,_,Ac [],rfl,hn8⟩
  have q11_:=of_decide_eq_false q11;refine Ae q11 ?_;refine A2 (te_ (te_ (be_ (tn_ ?_))));obtain rfl:=zj h;have h:=hn8
  (try dsimp only at h);obtain rfl:=zj h;exact ⟨(),_,rfl,Ac [],rfl⟩
 rintro _ _ rfl h
 (try dsimp only at h);refine Ak ?_;refine Ah ?_;obtain rfl:=zj h;exact A0 [.bool true] (Ap rfl zl Ar)
def P3:AC :=
 (.seq (rg [xo 2 (.i (.box 24 (tm 0))),xo 4 (qm (ci 0))])
 (.seq (rg [xo 5 (qf 0 (tm 2)),xo 6 (ql (tm 5)),xo 7 (qm (tm 1)),⟨some 8,none,qc 25 [tm 6,tm 7] [[some (.pair .int (.pair .int .str))],[]]⟩,xo 1 (qm (tm 8))])
 (.seq (.seq (rg [xo 9 (qm (tm 1)),xo 10 (qb .lss (tm 9) (ci 0))])
 (.cond (tm 10)
  (.seq (rg [xo 4 (qm (ci (-1)))])
  .ret)
  .skip))
 (.seq (rg [xo 11 (qm (tm 1)),xo 4 (qm (tm 11))])
 .ret))))
def Aa2:List Res:=[.tmp 4]
theorem Ace:Am Tryd.prog Tryd.f15=some (P3,Aa2):=by kernel_rfl
def H9 (a0_0:List (Int×Int×ByteArray)) (a1:Int):Option Int :=
 Option.bind (Fi a0_0 a1) fun y3 =>
cond (decide (y3<0))
 (some (-1))
 (some y3)
def W9 (r:Int):RV:=⟨false,[(false,[.sc (.int .i64 r)])]⟩
theorem Yb {a0_0:List (Int×Int×ByteArray)} {a1:Int} {r:Int} (h:H9 a0_0 a1=some r):Ax Tryd.prog Tab 15 [.agg [.tree (.pair .int (.pair .int .str)) a0_0],ai a1] (W9 r):=by
 refine As (by kernel_rfl) Tryd.func15 Ace (n:=12) (by kernel_rfl) (by simp) (tl:=[(0,.agg [.tree (.pair .int (.pair .int .str)) a0_0]),(1,ai a1)]) rfl ?_;unfold P3;unfold H9 at h;refine Ak ?_;refine Ab ?_;obtain ⟨y3,h3,h⟩:=Ag h;refine Aa 8 ?_;refine rz0 (.box (oi 2 1) 0) ?_;refine rzl (.tree (.pair .int (.pair .int .str)) a0_0) ?_;refine rz0 (ai a1) ?_;refine zc (ai y3) [] [.tree (.pair .int (.pair .int .str)) a0_0,ai a1] (V9 h3) ?_;refine rsB 1 ?_;refine Ao (tn_ ?_);refine wr_ ?_;refine Ab ?_;refine Ak ?_;rcases Ad h with ⟨q6,h⟩ | ⟨q6,h⟩
 ·have q6_:=of_decide_eq_true q6;refine Af q6 ?_;refine Ak ?_;refine Ah (tr_ ?_);obtain rfl:=zj h;exact A0 [ai (-1)] (Ap rfl zl Ar)
 have q6_:=of_decide_eq_false q6;refine Ae q6 ?_;refine Ai (tn_ ?_);refine wr_ ?_;refine Ak ?_;refine Ah ?_;obtain rfl:=zj h;exact A0 [ai y3] (Ap rfl zl Ar)
def Qh:AC :=
 (.seq (rg [xo 1 (.i (.box 24 (tm 0))),xo 2 (.i (.alloc 34 [.nils]))])
 (.seq (rg [xo 3 (.i (.alloc 34 [.nils]))])
 (.seq (rg [xo 4 (qf 0 (tm 1)),xo 5 (ql (tm 4)),⟨some 6,none,qc 32 [tm 5] [[some (.pair .int (.pair .int .str))]]⟩,xo 7 (qf 0 (tm 3)),xn (qs (tm 7) (tm 6))])
 (.seq (rg [xo 8 (.i (.ld false 1 (tm 3))),xn (.st false 1 (tm 2) (tm 8))])
 .ret))))
def Aat:List Res:=[.cell 2 false 1]
theorem Acr:Am Tryd.prog Tryd.f18=some (Qh,Aat):=by kernel_rfl
theorem Xg:A6 Tryd.prog 18=true:=by kernel_rfl
def H8 (a0_0:List (Int×Int×ByteArray)):Option (List (Int×Int×ByteArray)) :=
 Option.bind (Fn a0_0) fun y4 =>
some y4
def Ys (r:List (Int×Int×ByteArray)):RV:=⟨false,[(true,[.new 87 (.pair .int (.pair .int .str)) r])]⟩
theorem Yk {a0_0:List (Int×Int×ByteArray)} {r:List (Int×Int×ByteArray)} (h:H8 a0_0=some r):Ax Tryd.prog Tab 18 [.agg [.tree (.pair .int (.pair .int .str)) a0_0]] (Ys r):=by
 refine As (by kernel_rfl) Tryd.func18 Acr (n:=9) (by kernel_rfl) (by simp) (tl:=[(0,.agg [.tree (.pair .int (.pair .int .str)) a0_0])]) rfl ?_;unfold Qh;unfold H8 at h;refine Ak ?_;refine Ak ?_;refine Ab ?_;obtain ⟨y4,h4,h⟩:=Ag h;refine Aa 9 ?_;refine rz0 (.box (oi 1 1) 0) ?_;refine rzl (.tree (.pair .int (.pair .int .str)) a0_0) ?_;refine zc (.own (oi 96 6) (.pair .int (.pair .int .str)) 0 y4.length) [(oi 96 6,some (.arr 87 (.pair .int (.pair .int .str)) y4))] [.tree (.pair .int (.pair .int .str)) a0_0] (Vu h4) ?_;refine rsB 2 ?_;refine Ao (tn_ ?_);refine wr_ ?_;refine Ak ?_;refine Ah ?_;obtain rfl:=zj h;exact A0 [.agg [.own (oi 96 6) (.pair .int (.pair .int .str)) 0 y4.length]] (Fq (Bf (Ez (by kernel_rfl) rfl) Fp) Ar)
def Pj:AC :=
 (.seq (rg [xo 2 (.i (.box 34 (tm 0))),xo 3 (.i (.box 34 (tm 1))),xo 4 (qm (cb false))])
 (.seq (.seq (rg [xo 5 (qf 0 (tm 2)),xo 6 (ql (tm 5)),xo 7 (qf 0 (tm 3)),xo 8 (ql (tm 7)),⟨some 9,none,qc 38 [tm 6,tm 8] [[some (.pair .int (.pair .int .str))],[some (.pair .int (.pair .int .str))]]⟩,xo 10 (.i (.not (tm 9)))])
 (.cond (tm 10)
  (.seq (rg [xo 4 (qm (cb false))])
  .ret)
  .skip))
 (.seq (rg [xo 4 (qm (cb true))])
 .ret)))
def Ab3:List Res:=[.tmp 4]
theorem Abr:Am Tryd.prog Tryd.f21=some (Pj,Ab3):=by kernel_rfl
def H7 (a0_0:List (Int×Int×ByteArray)) (a1_0:List (Int×Int×ByteArray)):Option Bool :=
 Option.bind (Fo a0_0 a1_0) fun y4 =>
cond (!y4)
 (some false)
 (some true)
def W8 (r:Bool):RV:=⟨false,[(false,[.sc (.bool r)])]⟩
theorem X7 {a0_0:List (Int×Int×ByteArray)} {a1_0:List (Int×Int×ByteArray)} {r:Bool} (h:H7 a0_0 a1_0=some r):Ax Tryd.prog Tab 21 [.agg [.tree (.pair .int (.pair .int .str)) a0_0],.agg [.tree (.pair .int (.pair .int .str)) a1_0]] (W8 r):=by
 refine As (by kernel_rfl) Tryd.func21 Abr (n:=11) (by kernel_rfl) (by simp) (tl:=[(0,.agg [.tree (.pair .int (.pair .int .str)) a0_0]),(1,.agg [.tree (.pair .int (.pair .int .str)) a1_0])]) rfl ?_;unfold Pj;unfold H7 at h;refine Ak ?_;refine Ab ?_;refine Ab ?_;obtain ⟨y4,h4,h⟩:=Ag h;refine Aa 10 ?_;refine rz0 (.box (oi 2 1) 0) ?_;refine rzl (.tree (.pair .int (.pair .int .str)) a0_0) ?_;refine rz0 (.box (oi 3 2) 0) ?_;refine rzl (.tree (.pair .int (.pair .int .str)) a1_0) ?_;refine zc (.bool y4) [] [.tree (.pair .int (.pair .int .str)) a0_0,.tree (.pair .int (.pair .int .str)) a1_0] (V8 h4) ?_;refine rsB 1 ?_;refine Ao (tn_ ?_);refine wr_ ?_;rcases Ad h with ⟨q5,h⟩ | ⟨q5,h⟩
 ·refine Af q5 ?_;refine Ak ?_;refine Ah (tr_ ?_);obtain rfl:=zj h;exact A0 [.bool false] (Ap rfl zl Ar)
 refine Ae q5 ?_;refine Ai (tn_ ?_);refine wr_ ?_;refine Ak ?_;refine Ah ?_;obtain rfl:=zj h;exact A0 [.bool true] (Ap rfl zl Ar)
def Ka:AC :=
 (.seq (rg [xo 2 (.i (.box 29 (tm 0))),xo 4 (qm (ci 0))])
 (.seq (rg [xo 5 (qm (tm 1)),xo 6 (qf 0 (tm 2)),xo 7 (ql (tm 6)),xo 8 (.i (.lenS (tm 7))),xo 9 (qb .sub (tm 5) (tm 8)),xo 1 (qm (tm 9))])
 (.seq (.seq (rg [xo 10 (qm (tm 1)),xo 11 (qb .lss (tm 10) (ci 0))])
 (.cond (tm 11)
  (.seq (rg [xo 4 (qm (ci (-1)))])
  .ret)
  .skip))
 (.seq (rg [xo 12 (qf 1 (tm 2)),xo 13 (.i (.ld false 1 (tm 12))),xo 14 (qm (tm 1)),⟨some 15,none,qc 15 [tm 13,tm 14] [[some (.pair .int (.pair .int .str))],[]]⟩,xo 1 (qm (tm 15))])
 (.seq (.seq (rg [xo 16 (qm (tm 1)),xo 17 (qb .lss (tm 16) (ci 0))])
 (.cond (tm 17)
  (.seq (rg [xo 4 (qm (ci (-1)))])
  .ret)
  .skip))
 (.seq (rg [xo 18 (qf 2 (tm 2)),xo 19 (.i (.ld false 3 (tm 18))),xo 20 (qm (tm 1)),xo 21 (qc 16 [tm 19,tm 20] [[none,none,some (.slice .int)],[]]),xo 1 (qm (tm 21))])
 (.seq (.seq (rg [xo 22 (qm (tm 1)),xo 23 (qb .lss (tm 22) (ci 0))])
 (.cond (tm 23)
  (.seq (rg [xo 4 (qm (ci (-1)))])
  .ret)
  .skip))
 (.seq (rg [xo 24 (qm (tm 1)),xo 4 (qm (tm 24))])
 .ret))))))))
def Rt:List Res:=[.tmp 4]
theorem Q7:Am Tryd.prog Tryd.f5=some (Ka,Rt):=by kernel_rfl
def C1 (a0_0:ByteArray) (a0_1:List (Int×Int×ByteArray)) (a0_2:Int) (a0_3:Int) (a0_4:List (List Int)) (a1:Int):Option Int :=
 cond (decide (wI (a1 - ((a0_0.size:Nat):Int))<0))
 (some (-1))
 (Option.bind (H9 a0_1 (wI (a1 - ((a0_0.size:Nat):Int)))) fun y8 =>
 cond (decide (y8<0))
  (some (-1))
  (Option.bind (Di a0_2 a0_3 a0_4 y8) fun y14 =>
  cond (decide (y14<0))
   (some (-1))
   (some y14)))
def Pd (r:Int):RV:=⟨false,[(false,[.sc (.int .i64 r)])]⟩
theorem Pg {a0_0:ByteArray} {a0_1:List (Int×Int×ByteArray)} {a0_2:Int} {a0_3:Int} {a0_4:List (List Int)} {a1:Int} {r:Int} (h:C1 a0_0 a0_1 a0_2 a0_3 a0_4 a1=some r):Ax Tryd.prog Tab 5 [.agg [.str a0_0,.tree (.pair .int (.pair .int .str)) a0_1,ai a0_2,ai a0_3,.tree (.slice .int) a0_4],ai a1] (Pd r):=by
 refine As (by kernel_rfl) Tryd.func5 Q7 (n:=25) (by kernel_rfl) (by simp) (tl:=[(0,.agg [.str a0_0,.tree (.pair .int (.pair .int .str)) a0_1,ai a0_2,ai a0_3,.tree (.slice .int) a0_4]),(1,ai a1)]) rfl ?_;unfold Ka;unfold C1 at h;refine Ak ?_;refine Ak ?_;refine Ab ?_;refine Ak ?_;rcases Ad h with ⟨q5,h⟩ | ⟨q5,h⟩
 ·have q5_:=of_decide_eq_true q5;refine Af q5 ?_;refine Ak ?_;refine Ah (tr_ ?_);obtain rfl:=zj h;exact A0 [ai (-1)] (Ap rfl zl Ar)
 have q5_:=of_decide_eq_false q5;refine Ae q5 ?_;refine Ai (tn_ ?_);refine wr_ ?_;refine Ab ?_;obtain ⟨y8,h8,h⟩:=Ag h;refine Aa 16 ?_;refine rz0 (.box (oi 2 1) 1) ?_;refine rzl (.agg [.tree (.pair .int (.pair .int .str)) a0_1]) ?_;refine rz0 (ai (wI (a1 - ((a0_0.size:Nat):Int)))) ?_;refine zc (ai y8) [] [.agg [.tree (.pair .int (.pair .int .str)) a0_1],ai (wI (a1 - ((a0_0.size:Nat):Int)))] (Yb h8) ?_;refine rsB 1 ?_;refine Ao (tn_ ?_);refine wr_ ?_;refine Ab ?_;refine Ak ?_;rcases Ad h with ⟨q11,h⟩ | ⟨q11,h⟩
 ·have q11_:=of_decide_eq_true q11;refine Af q11 ?_;refine Ak ?_;refine Ah (tr_ ?_);obtain rfl:=zj h;exact A0 [ai (-1)] (Ap rfl zl Ar)
 have q11_:=of_decide_eq_false q11;refine Ae q11 ?_;refine Ai (tn_ ?_);refine wr_ ?_;refine Ab ?_;obtain ⟨y14,h14,h⟩:=Ag h;refine Aa 23 ?_;refine rz0 (.box (oi 2 1) 2) ?_;refine rzl (.agg [ai a0_2,ai a0_3,.tree (.slice .int) a0_4]) ?_;refine rz0 (ai y8) ?_;refine zc (ai y14) [] [.agg [ai a0_2,ai a0_3,.tree (.slice .int) a0_4],ai y8] (Rl h14) ?_;refine rsB 1 ?_;refine Ao (tn_ ?_);refine wr_ ?_;refine Ab ?_;refine Ak ?_;rcases Ad h with ⟨q17,h⟩ | ⟨q17,h⟩
 ·have q17_:=of_decide_eq_true q17;refine Af q17 ?_;refine Ak ?_;refine Ah (tr_ ?_);obtain rfl:=zj h;exact A0 [ai (-1)] (Ap rfl zl Ar)
 have q17_:=of_decide_eq_false q17;refine Ae q17 ?_;refine Ai (tn_ ?_);refine wr_ ?_;refine Ak ?_;refine Ah ?_;obtain rfl:=zj h;exact A0 [ai y14] (Ap rfl zl Ar)
def Jh:AC :=
 (.seq (rg [xo 1 (.i (.box 29 (tm 0))),⟨some 2,none,.i (.alloc 37 [.str ⟨#[]⟩,.nils,.int .i64 0,.int .i64 0,.nils])⟩])
 (.seq (rg [⟨some 3,none,.i (.alloc 37 [.str ⟨#[]⟩,.nils,.int .i64 0,.int .i64 0,.nils])⟩])
 (.seq (rg [xo 4 (qf 0 (tm 1)),xo 5 (ql (tm 4)),xo 6 (qf 0 (tm 3)),xn (qs (tm 6) (tm 5))])
 (.seq (rg [xo 7 (qf 1 (tm 1)),xo 8 (.i (.ld false 1 (tm 7))),⟨some 9,none,qc 18 [tm 8] [[some (.pair .int (.pair .int .str))]]⟩,xo 10 (qf 1 (tm 3)),xn (.st false 1 (tm 10) (tm 9))])
 (.seq (rg [xo 11 (qf 2 (tm 1)),xo 12 (.i (.ld false 3 (tm 11))),xo 13 (qc 19 [tm 12] [[none,none,some (.slice .int)]]),xo 14 (qf 2 (tm 3)),xn (.st false 3 (tm 14) (tm 13))])
 (.seq (rg [xo 15 (.i (.ld false 5 (tm 3))),xn (.st false 5 (tm 2) (tm 15))])
 .ret))))))
def Q3:List Res:=[.cell 2 false 5]
theorem Rv:Am Tryd.prog Tryd.f7=some (Jh,Q3):=by kernel_rfl
theorem O2:A6 Tryd.prog 7=true:=by kernel_rfl
def B0 (a0_0:ByteArray) (a0_1:List (Int×Int×ByteArray)) (a0_2:Int) (a0_3:Int) (a0_4:List (List Int)):Option (ByteArray×(List (Int×Int×ByteArray))×Int×Int×List (List Int)) :=
 Option.bind (H8 a0_1) fun y5 =>
Option.bind (Dm a0_2 a0_3 a0_4) fun y7 =>
some (a0_0,y5,a0_2,a0_3,y7)
def Ow (r:ByteArray×(List (Int×Int×ByteArray))×Int×Int×List (List Int)):RV:=⟨false,[(true,[.sc (.str r.1),.frz (.tree (.pair .int (.pair .int .str)) r.2.1),.sc (.int .i64 r.2.2.1),.sc (.int .i64 r.2.2.2.1),.frz (.tree (.slice .int) r.2.2.2.2)])]⟩
theorem Ge {a0_0:ByteArray} {a0_1:List (Int×Int×ByteArray)} {a0_2:Int} {a0_3:Int} {a0_4:List (List Int)} {r:ByteArray×(List (Int×Int×ByteArray))×Int×Int×List (List Int)} (h:B0 a0_0 a0_1 a0_2 a0_3 a0_4=some r):Ax Tryd.prog Tab 7 [.agg [.str a0_0,.tree (.pair .int (.pair .int .str)) a0_1,ai a0_2,ai a0_3,.tree (.slice .int) a0_4]] (Ow r):=by
 refine Al6 (by kernel_rfl) Tryd.func7 Rv (n:=16) (by kernel_rfl) (by simp) (tl:=[(0,.agg [.str a0_0,.tree (.pair .int (.pair .int .str)) a0_1,ai a0_2,ai a0_3,.tree (.slice .int) a0_4])]) rfl fun nz_=>?_
 unfold Jh;unfold B0 at h;refine Ak ?_;refine Ak ?_;refine Ak ?_;refine Ab ?_;obtain ⟨y5,h5,h⟩:=Ag h;refine Aa 13 ?_;refine rz0 (.box (oi 1 1) 1) ?_;refine rzl (.agg [.tree (.pair .int (.pair .int .str)) a0_1]) ?_;refine Bz (.agg [.own (oi 144 10) (.pair .int (.pair .int .str)) 0 y5.length]) [(oi 144 10,some (.arr 87 (.pair .int (.pair .int .str)) y5))] [.agg [.tree (.pair .int (.pair .int .str)) a0_1]] _ (caps:=[]) (args0:=[.agg [.tree (.pair .int (.pair .int .str)) a0_1]]) trivial (by kernel_rfl) (Ard (Yk h5)) Xg ?_;refine rsB 2 ?_;refine Ao (tn_ ?_);refine wr_ ?_;refine Ab ?_;obtain ⟨y7,h7,h⟩:=Ag h;refine Aa 18 ?_;refine rz0 (.box (oi 1 1) 2) ?_;refine rzl (.agg [ai a0_2,ai a0_3,.tree (.slice .int) a0_4]) ?_;refine J5 (.agg [ai a0_2,ai a0_3,.own (oi 209 15) (.slice .int) 0 y7.length]) [(oi 208 15,some (.cells 35 [ai a0_2,ai a0_3,.own (oi 209 15) (.slice .int) 0 y7.length])),(oi 209 15,some (.mat 79 (oi 210 15) .int y7)),(oi 210 15,some (.pool 3 .int y7))] [] [.agg [ai a0_2,ai a0_3,.tree (.slice .int) a0_4]] (caps:=[]) trivial (Aq1 (Ry h7)) Rw trivial (.cons (.ren (by kernel_rfl)) .nil) (B4 (by kernel_rfl) (by kernel_rfl) trivial) ?_;refine rsB 2 ?_;refine Ao (tn_ ?_);refine wr_ ?_;refine Ak ?_;refine Ah ?_;obtain rfl:=zj h;exact Arr [(true,[.str a0_0,.own (oi 144 10) (.pair .int (.pair .int .str)) 0 y5.length,ai a0_2,ai a0_3,.own (oi 209 15) (.slice .int) 0 y7.length])] (Aqf (Sm Alq (Sm (Anl (.arr (e:=87) (by kernel_rfl) rfl)) (Sm Alq (Sm Alq (Sm (Anl (.mat (p:=oi 210 15) (e1:=79) (e:=3) (by kernel_rfl) (Ac2 (by kernel_rfl)) rfl)) Aqj))))) Aq4)
def J2:AC :=
 (.seq (rg [xo 2 (.i (.box 37 (tm 0))),xo 3 (.i (.box 37 (tm 1))),xo 4 (qm (cb false))])
 (.seq (.seq (rg [xo 5 (qf 0 (tm 2)),xo 6 (ql (tm 5)),xo 7 (qf 0 (tm 3)),xo 8 (ql (tm 7)),xo 9 (qb .neq (tm 6) (tm 8))])
 (.cond (tm 9)
  (.seq (rg [xo 4 (qm (cb false))])
  .ret)
  .skip))
 (.seq (.seq (rg [xo 10 (qf 1 (tm 2)),xo 11 (.i (.ld false 1 (tm 10))),xo 12 (qf 1 (tm 3)),xo 13 (.i (.ld false 1 (tm 12))),⟨some 14,none,qc 21 [tm 11,tm 13] [[some (.pair .int (.pair .int .str))],[some (.pair .int (.pair .int .str))]]⟩,xo 15 (.i (.not (tm 14)))])
 (.cond (tm 15)
  (.seq (rg [xo 4 (qm (cb false))])
  .ret)
  .skip))
 (.seq (.seq (rg [xo 16 (qf 2 (tm 2)),xo 17 (.i (.ld false 3 (tm 16))),xo 18 (qf 2 (tm 3)),xo 19 (.i (.ld false 3 (tm 18))),xo 20 (qc 22 [tm 17,tm 19] [[none,none,some (.slice .int)],[none,none,some (.slice .int)]]),xo 21 (.i (.not (tm 20)))])
 (.cond (tm 21)
  (.seq (rg [xo 4 (qm (cb false))])
  .ret)
  .skip))
 (.seq (rg [xo 4 (qm (cb true))])
 .ret)))))
def Rk:List Res:=[.tmp 4]
theorem Rx:Am Tryd.prog Tryd.f9=some (J2,Rk):=by kernel_rfl
theorem O9:A6 Tryd.prog 9=true:=by kernel_rfl
def C9 (a0_0:ByteArray) (a0_1:List (Int×Int×ByteArray)) (a0_2:Int) (a0_3:Int) (a0_4:List (List Int)) (a1_0:ByteArray) (a1_1:List (Int×Int×ByteArray)) (a1_2:Int) (a1_3:Int) (a1_4:List (List Int)):Option Bool :=
 cond (!(a0_0.toList==a1_0.toList))
 (some false)
 (Option.bind (H7 a0_1 a1_1) fun y8 =>
 cond (!y8)
  (some false)
  (Option.bind (Df a0_2 a0_3 a0_4 a1_2 a1_3 a1_4) fun y13 =>
  cond (!y13)
   (some false)
   (some true)))
def O5 (r:Bool):RV:=⟨false,[(false,[.sc (.bool r)])]⟩
theorem Pf {a0_0:ByteArray} {a0_1:List (Int×Int×ByteArray)} {a0_2:Int} {a0_3:Int} {a0_4:List (List Int)} {a1_0:ByteArray} {a1_1:List (Int×Int×ByteArray)} {a1_2:Int} {a1_3:Int} {a1_4:List (List Int)} {r:Bool} (h:C9 a0_0 a0_1 a0_2 a0_3 a0_4 a1_0 a1_1 a1_2 a1_3 a1_4=some r):Ax Tryd.prog Tab 9 [.agg [.str a0_0,.tree (.pair .int (.pair .int .str)) a0_1,ai a0_2,ai a0_3,.tree (.slice .int) a0_4],.agg [.str a1_0,.tree (.pair .int (.pair .int .str)) a1_1,ai a1_2,ai a1_3,.tree (.slice .int) a1_4]] (O5 r):=by
 refine As (by kernel_rfl) Tryd.func9 Rx (n:=22) (by kernel_rfl) (by simp) (tl:=[(0,.agg [.str a0_0,.tree (.pair .int (.pair .int .str)) a0_1,ai a0_2,ai a0_3,.tree (.slice .int) a0_4]),(1,.agg [.str a1_0,.tree (.pair .int (.pair .int .str)) a1_1,ai a1_2,ai a1_3,.tree (.slice .int) a1_4])]) rfl ?_;unfold J2;unfold C9 at h;refine Ak ?_;refine Ab ?_;refine Ak ?_;rcases Ad h with ⟨q4,h⟩ | ⟨q4,h⟩
 ·refine Af q4 ?_;refine Ak ?_;refine Ah (tr_ ?_);obtain rfl:=zj h;exact A0 [.bool false] (Ap rfl zl Ar)
 refine Ae q4 ?_;refine Ai (tn_ ?_);refine wr_ ?_;refine Ab ?_;refine Ab ?_;obtain ⟨y8,h8,h⟩:=Ag h;refine Aa 15 ?_;refine rz0 (.box (oi 2 1) 1) ?_;refine rzl (.agg [.tree (.pair .int (.pair .int .str)) a0_1]) ?_;refine rz0 (.box (oi 3 2) 1) ?_;refine rzl (.agg [.tree (.pair .int (.pair .int .str)) a1_1]) ?_;refine zc (.bool y8) [] [.agg [.tree (.pair .int (.pair .int .str)) a0_1],.agg [.tree (.pair .int (.pair .int .str)) a1_1]] (X7 h8) ?_;refine rsB 1 ?_;refine Ao (tn_ ?_);refine wr_ ?_;rcases Ad h with ⟨q9,h⟩ | ⟨q9,h⟩
 ·refine Af q9 ?_;refine Ak ?_;refine Ah (tr_ ?_);obtain rfl:=zj h;exact A0 [.bool false] (Ap rfl zl Ar)
 refine Ae q9 ?_;refine Ai (tn_ ?_);refine wr_ ?_;refine Ab ?_;refine Ab ?_;obtain ⟨y13,h13,h⟩:=Ag h;refine Aa 21 ?_;refine rz0 (.box (oi 2 1) 2) ?_;refine rzl (.agg [ai a0_2,ai a0_3,.tree (.slice .int) a0_4]) ?_;refine rz0 (.box (oi 3 2) 2) ?_;refine rzl (.agg [ai a1_2,ai a1_3,.tree (.slice .int) a1_4]) ?_;refine zc (.bool y13) [] [.agg [ai a0_2,ai a0_3,.tree (.slice .int) a0_4],.agg [ai a1_2,ai a1_3,.tree (.slice .int) a1_4]] (Rb h13) ?_;refine rsB 1 ?_;refine Ao (tn_ ?_);refine wr_ ?_;rcases Ad h with ⟨q14,h⟩ | ⟨q14,h⟩
 ·refine Af q14 ?_;refine Ak ?_;refine Ah (tr_ ?_);obtain rfl:=zj h;exact A0 [.bool false] (Ap rfl zl Ar)
 refine Ae q14 ?_;refine Ai (tn_ ?_);refine wr_ ?_;refine Ak ?_;refine Ah ?_;obtain rfl:=zj h;exact A0 [.bool true] (Ap rfl zl Ar)
def Nn:AC :=
 (.seq (rg [xo 2 (qm (cb false))])
 (.seq (rg [xo 3 (qm (tm 0)),⟨some 4,none,.i (.bin .geq (tm 3) (.cst (.int .u8 97)))⟩,xo 5 (qm (tm 4)),⟨some 6,some (5,true),qm (tm 0)⟩,⟨some 7,some (5,true),.i (.bin .leq (tm 6) (.cst (.int .u8 122)))⟩,xo 8 (.i (.pick (tm 5) (tm 7) (cb false))),xo 2 (qm (tm 8))])
 .ret))
def Zy:List Res:=[.tmp 2]
theorem Aag:Am Tryd.prog Tryd.f56=some (Nn,Zy):=by kernel_rfl
theorem Mx:A6 Tryd.prog 56=true:=by kernel_rfl
def D4 (a0:Int):Option Bool :=
 Option.bind (cond (decide (97<=a0))
  (some (decide (a0<=122)))
  (some false)) fun l2_m2 =>
some l2_m2
def Wa (r:Bool):RV:=⟨false,[(false,[.sc (.bool r)])]⟩
theorem G4 {a0:Int} {r:Bool} (h:D4 a0=some r):Ax Tryd.prog Tab 56 [.int .u8 a0] (Wa r):=by
 refine As (by kernel_rfl) Tryd.func56 Aag (n:=9) (by kernel_rfl) (by simp) (tl:=[(0,.int .u8 a0)]) rfl ?_;unfold Nn;unfold D4 at h;refine Ak ?_;refine Aw h (fun (l2_m2:Bool) S_=>S_=⟨An [(2,.bool l2_m2)],Aj (Aq []),2⟩) ?_ ?_
 ·intro v_ h;rcases Ad h with ⟨q3,h⟩ | ⟨q3,h⟩
  ·have q3_:=of_decide_eq_true q3;refine Aa 9 ?_;refine rz0 (.int .u8 a0) ?_;refine rz0 (.bool (decide (97<=a0))) ?_;refine rz0 (.bool (decide (97<=a0))) ?_;refine rs0 (.int .u8 a0) (zg q3) ?_;refine rs0 (.bool (decide (a0<=122))) (zg q3) ?_;refine rs0 (.bool (decide (a0<=122))) (zT q3) ?_;refine rsB 1 ?_;refine Ao (tn_ ?_);obtain rfl:=zj h;exact ⟨_,Ac [],rfl⟩
  have q3_:=of_decide_eq_false q3;refine Aa 9 ?_;refine rz0 (.int .u8 a0) ?_;refine rz0 (.bool (decide (97<=a0))) ?_;refine rz0 (.bool (decide (97<=a0))) ?_;refine zs q3 ?_;refine zs q3 ?_;refine rs0 (.bool false) (zF q3) ?_;refine rsB 1 ?_;refine Ao (tn_ ?_);obtain rfl:=zj h;exact ⟨_,Ac [],rfl⟩
 rintro l2_m2 _ rfl h
 (try dsimp only at h);refine Ah ?_;obtain rfl:=zj h;exact A0 [.bool l2_m2] (Ap rfl zl Ar)
def Ly:AC :=
 (.seq (rg [xo 0 (qm (.cst .nils))])
 (.seq (rg [⟨some 1,none,.mkS 9 .str [.cst (.str ⟨#[]⟩),.cst (.str ⟨#[105,100]⟩),.cst (.str ⟨#[115,119,97,112]⟩),.cst (.str ⟨#[99,111,112,121]⟩),.cst (.str ⟨#[100,105,115,99,97,114,100]⟩),.cst (.str ⟨#[97,100,100]⟩),.cst (.str ⟨#[122,101,114,111]⟩),.cst (.str ⟨#[115,99,97,108,101]⟩),.cst (.str ⟨#[100,101,108,97,121]⟩),.cst (.str ⟨#[99,111,99,111,112,121]⟩),.cst (.str ⟨#[99,111,100,105,115,99,97,114,100]⟩),.cst (.str ⟨#[99,111,97,100,100]⟩),.cst (.str ⟨#[99,111,122,101,114,111]⟩),.cst (.str ⟨#[99,111,115,99,97,108,101]⟩),.cst (.str ⟨#[99,111,100,101,108,97,121]⟩)]⟩,xo 0 (qm (tm 1))])
 .ret))
def Us:List Res:=[.tmp 0]
theorem T9:Am Tryd.prog Tryd.f71=some (Ly,Us):=by kernel_rfl
def F2  : Option (List ByteArray) :=
 some ([(⟨#[]⟩:ByteArray),(⟨#[105,100]⟩:ByteArray),(⟨#[115,119,97,112]⟩:ByteArray),(⟨#[99,111,112,121]⟩:ByteArray),(⟨#[100,105,115,99,97,114,100]⟩:ByteArray),(⟨#[97,100,100]⟩:ByteArray),(⟨#[122,101,114,111]⟩:ByteArray),(⟨#[115,99,97,108,101]⟩:ByteArray),(⟨#[100,101,108,97,121]⟩:ByteArray),(⟨#[99,111,99,111,112,121]⟩:ByteArray),(⟨#[99,111,100,105,115,99,97,114,100]⟩:ByteArray),(⟨#[99,111,97,100,100]⟩:ByteArray),(⟨#[99,111,122,101,114,111]⟩:ByteArray),(⟨#[99,111,115,99,97,108,101]⟩:ByteArray),(⟨#[99,111,100,101,108,97,121]⟩:ByteArray)])
def Si (r:List ByteArray):RV:=⟨false,[(false,[.new 9 .str r])]⟩
theorem Sa {r:List ByteArray} (h:F2=some r):Ax Tryd.prog Tab 71 [] (Si r):=by
 refine As (by kernel_rfl) Tryd.func71 T9 (n:=2) (by kernel_rfl) (by simp) (tl:=[]) rfl ?_;unfold Ly;unfold F2 at h;refine Ak ?_;refine Ak ?_;refine Ah ?_;obtain rfl:=zj h;exact A0 [.own (oi 1 2) .str 0 15] (Ap rfl (Ez (by kernel_rfl) rfl) Ar)
def Ln:AC :=
 (.seq (rg [xo 8 (qb .lss (tm 7) (tm 6))])
 (.seq (.cond (tm 8)
  .skip
  (.exit 0))
 (.seq (.block 1 (.seq (rg [xo 9 (qm (tm 7)),xo 10 (qx 1 (tm 5) (tm 7)),xo 11 (ql (tm 10)),xo 3 (qm (tm 9)),xo 4 (qm (tm 11))])
 (.seq (rg [xo 12 (qm (tm 4)),xo 13 (qm (tm 0)),xo 14 (qb .eql (tm 12) (tm 13))])
 (.cond (tm 14)
  (.seq (rg [xo 15 (qm (tm 3)),xo 2 (qm (tm 15))])
  .ret)
  .skip))))
 (rg [xo 16 (qb .add (tm 7) (ci 1)),xo 7 (qm (tm 16))]))))
def Qa:AC :=
 (.seq (rg [xo 2 (qm (ci 0))])
 (.seq (.seq (rg [xo 5 (qc 71 [] []),xo 6 (.i (.len (tm 5))),xo 7 (qm (ci 0))])
 (.block 0 (.loop Ln)))
 (.seq (rg [xo 2 (qm (ci 17))])
 .ret)))
def Aba:List Res:=[.tmp 2]
theorem Ach:Am Tryd.prog Tryd.f57=some (Qa,Aba):=by kernel_rfl
theorem Yz:A6 Tryd.prog 57=true:=by kernel_rfl
def Cd (y4:List ByteArray) (a0:ByteArray) (l5_m7:Nat):Option (Ctl Nat (Ctl Unit Int)) :=
 cond (decide (((l5_m7:Nat):Int)<((y4.length:Nat):Int)))
 (Option.bind (y4[l5_m7]?) fun x11 =>
 cond (x11.toList==a0.toList)
  (some (Ctl.out (Ctl.out ((l5_m7:Nat):Int))))
  (og (l5_m7+1<4611686018427387904) <|
  some (Ctl.next (l5_m7+1))))
 (some (Ctl.out (Ctl.next ())))
def Gn (a0:ByteArray):Option Int :=
 Dt (Option.bind (F2) fun y4 =>
 A4 (fun s_:Nat=>Cd y4 a0 s_) 4611686018427387904 0) fun _ =>
some 17
def Xi (r:Int):RV:=⟨false,[(false,[.sc (.int .i64 r)])]⟩
theorem Z0 {a0:ByteArray} {r:Int} (h:Gn a0=some r):Ax Tryd.prog Tab 57 [.str a0] (Xi r):=by
 refine As (by kernel_rfl) Tryd.func57 Ach (n:=17) (by kernel_rfl) (by simp) (tl:=[(0,.str a0)]) rfl ?_;unfold Qa;unfold Gn at h;refine Ak ?_;refine Bl h (fun (_:Unit) S_=>S_=⟨An [],Aj (Aq []),2⟩) ?_ ?_
 ·intro v_ h hk2;refine Ab ?_;obtain ⟨y4,h4,h⟩:=Ag h;refine Aa 5 ?_;refine zc (.own (oi 80 2) .str 0 y4.length) [(oi 80 2,some (.arr 9 .str y4))] [] (Sa h4) ?_;refine rsB 2 ?_;refine Ao (tn_ ?_);refine wr_ ?_;refine Al ?_;refine A5 h (fun (l5_m7:Nat) S_=>S_=⟨An [(0,.str a0),(5,.own (oi 0 1) .str 0 y4.length),(6,ai ((y4.length:Nat):Int)),(7,ai ((l5_m7:Nat):Int))],Aj (Aq [(oi 0 1,.arr 9 .str y4)]),2⟩) ⟨_,Ac [(oi 0 1,oi 80 2)],rfl⟩ ?_;rintro n_ l5_m7 _ c_ rfl h hn5
  (try dsimp only at h);unfold Cd at h;unfold Ln;refine Ak ?_;refine Ab ?_;rcases Ad h with ⟨q8,h⟩ | ⟨q8,h⟩
  ·have q8_:=of_decide_eq_true q8;refine Af q8 ?_;refine Ai (tn_ ?_);refine wr_ ?_;refine Ab ?_;refine Al ?_;refine Ab ?_;obtain ⟨x11,e11,h⟩:=Ag h;refine Aa 8 ?_;refine rz0 (ai ((l5_m7:Nat):Int)) ?_;refine rs0 (.elt (oi 0 1) l5_m7 0) (zo (t:=.str) (o:=oi 0 1) (len:=y4.length) (k:=.i64) (m:=((l5_m7:Nat):Int)) (Ay _) (Au e11)) ?_;refine rsl (.str x11) (Cw (i:=oi 0 1) (j:=l5_m7) (k:=0) (e:=9) (t:=.str) (xs:=y4) (by kernel_rfl) (by kernel_rfl) e11 (by kernel_rfl)) ?_;refine rsB 2 ?_;refine Ao (tn_ ?_);refine wr_ ?_;refine Ak ?_;rcases Ad h with ⟨q13,h⟩ | ⟨q13,h⟩
   ·refine Af q13 ?_;refine Ak ?_;refine Ah (br_ (tr_ (tr_ (br_ (tr_ ?_)))));obtain rfl:=zj h;have h:=hn5
    (try dsimp only at h);obtain rfl:=zj h;have h:=hk2
    (try dsimp only at h);obtain rfl:=zj h;exact A0 [ai ((l5_m7:Nat):Int)] (Ap rfl zl Ar)
   refine Ae q13 ?_;refine Ai (bn_ (tn_ ?_));refine wr_ ?_;obtain ⟨g15,h⟩:=Av h;refine Aa 13 ?_;refine rs0 (ai ((l5_m7+1:Nat):Int)) (za g15) ?_;refine rsB 1 ?_;refine Ao (tn_ ?_);obtain rfl:=zj h;exact ⟨l5_m7+1,_,Ac [],rfl,hn5⟩
  have q8_:=of_decide_eq_false q8;refine Ae q8 ?_;refine A2 (te_ (te_ (be_ (tn_ ?_))));obtain rfl:=zj h;have h:=hn5
  (try dsimp only at h);obtain rfl:=zj h;exact ⟨(),_,rfl,Ac [],rfl⟩
 rintro _ _ rfl h
 (try dsimp only at h);refine Ak ?_;refine Ah ?_;obtain rfl:=zj h;exact A0 [ai 17] (Ap rfl zl Ar)
def Nh:AC :=
 (.seq (rg [xo 2 (qm (cb false))])
 (.seq (rg [xo 3 (qm (tm 0)),⟨some 4,none,.i (.bin .geq (tm 3) (.cst (.int .u8 48)))⟩,xo 5 (qm (tm 4)),⟨some 6,some (5,true),qm (tm 0)⟩,⟨some 7,some (5,true),.i (.bin .leq (tm 6) (.cst (.int .u8 57)))⟩,xo 8 (.i (.pick (tm 5) (tm 7) (cb false))),xo 2 (qm (tm 8))])
 .ret))
def X5:List Res:=[.tmp 2]
theorem Zk:Am Tryd.prog Tryd.f58=some (Nh,X5):=by kernel_rfl
theorem Vw:A6 Tryd.prog 58=true:=by kernel_rfl
def Fm (a0:Int):Option Bool :=
 Option.bind (cond (decide (48<=a0))
  (some (decide (a0<=57)))
  (some false)) fun l2_m2 =>
some l2_m2
def Wo (r:Bool):RV:=⟨false,[(false,[.sc (.bool r)])]⟩
theorem Wi {a0:Int} {r:Bool} (h:Fm a0=some r):Ax Tryd.prog Tab 58 [.int .u8 a0] (Wo r):=by
 refine As (by kernel_rfl) Tryd.func58 Zk (n:=9) (by kernel_rfl) (by simp) (tl:=[(0,.int .u8 a0)]) rfl ?_;unfold Nh;unfold Fm at h;refine Ak ?_;refine Aw h (fun (l2_m2:Bool) S_=>S_=⟨An [(2,.bool l2_m2)],Aj (Aq []),2⟩) ?_ ?_
 ·intro v_ h;rcases Ad h with ⟨q3,h⟩ | ⟨q3,h⟩
  ·have q3_:=of_decide_eq_true q3;refine Aa 9 ?_;refine rz0 (.int .u8 a0) ?_;refine rz0 (.bool (decide (48<=a0))) ?_;refine rz0 (.bool (decide (48<=a0))) ?_;refine rs0 (.int .u8 a0) (zg q3) ?_;refine rs0 (.bool (decide (a0<=57))) (zg q3) ?_;refine rs0 (.bool (decide (a0<=57))) (zT q3) ?_;refine rsB 1 ?_;refine Ao (tn_ ?_);obtain rfl:=zj h;exact ⟨_,Ac [],rfl⟩
  have q3_:=of_decide_eq_false q3;refine Aa 9 ?_;refine rz0 (.int .u8 a0) ?_;refine rz0 (.bool (decide (48<=a0))) ?_;refine rz0 (.bool (decide (48<=a0))) ?_;refine zs q3 ?_;refine zs q3 ?_;refine rs0 (.bool false) (zF q3) ?_;refine rsB 1 ?_;refine Ao (tn_ ?_);obtain rfl:=zj h;exact ⟨_,Ac [],rfl⟩
 rintro l2_m2 _ rfl h
 (try dsimp only at h);refine Ah ?_;obtain rfl:=zj h;exact A0 [.bool l2_m2] (Ap rfl zl Ar)
def L5:AC :=
 (.seq (rg [xo 22 (qb .lss (tm 21) (tm 20))])
 (.seq (.cond (tm 22)
  .skip
  (.exit 0))
 (.seq (.block 1 (.seq (rg [xo 23 (qm (tm 21)),xo 3 (qm (tm 23))])
 (.seq (rg [xo 24 (qm (tm 0)),xo 25 (qm (tm 3)),xo 26 (.i (.char (tm 24) (tm 25))),xo 27 (qc 56 [tm 26] [[]]),xo 28 (.i (.not (tm 27))),xo 29 (qm (tm 28)),⟨some 30,some (29,true),qm (tm 0)⟩,⟨some 31,some (29,true),qm (tm 3)⟩,⟨some 32,some (29,true),.i (.char (tm 30) (tm 31))⟩,⟨some 33,some (29,true),qc 58 [tm 32] [[]]⟩,⟨some 34,some (29,true),.i (.not (tm 33))⟩,xo 35 (.i (.pick (tm 29) (tm 34) (cb false)))])
 (.cond (tm 35)
  (.seq (rg [xo 2 (qm (cb false))])
  .ret)
  .skip))))
 (rg [xo 36 (qb .add (tm 21) (ci 1)),xo 21 (qm (tm 36))]))))
def P1:AC :=
 (.seq (rg [xo 2 (qm (cb false))])
 (.seq (.seq (rg [xo 4 (qm (tm 0)),xo 5 (.i (.lenS (tm 4))),xo 6 (qc 55 [tm 5,ci 1,ci 8] [[],[],[]]),xo 7 (.i (.not (tm 6))),xo 8 (qm (tm 7)),⟨some 9,some (8,false),qm (tm 0)⟩,⟨some 10,some (8,false),.i (.char (tm 9) (ci 0))⟩,⟨some 11,some (8,false),qc 56 [tm 10] [[]]⟩,⟨some 12,some (8,false),.i (.not (tm 11))⟩,xo 13 (.i (.pick (tm 8) (cb true) (tm 12))),xo 14 (qm (tm 13)),⟨some 15,some (14,false),qm (tm 0)⟩,⟨some 16,some (14,false),qc 57 [tm 15] [[]]⟩,⟨some 17,some (14,false),qb .neq (tm 16) (ci 17)⟩,xo 18 (.i (.pick (tm 14) (cb true) (tm 17)))])
 (.cond (tm 18)
  (.seq (rg [xo 2 (qm (cb false))])
  .ret)
  .skip))
 (.seq (.seq (rg [xo 19 (qm (tm 0)),xo 20 (.i (.lenS (tm 19))),xo 21 (qm (ci 0))])
 (.block 0 (.loop L5)))
 (.seq (rg [xo 2 (qm (cb true))])
 .ret))))
def Acl:List Res:=[.tmp 2]
theorem Acp:Am Tryd.prog Tryd.f34=some (P1,Acl):=by kernel_rfl
def Dx (a0:ByteArray) (l14_m21:Nat):Option (Ctl Nat (Ctl Unit Bool)) :=
 cond (decide (((l14_m21:Nat):Int)<((a0.size:Nat):Int)))
 (Option.bind (Option.bind (a0[l14_m21]?) fun x21 =>
  Option.bind (D4 ((x21.toNat:Nat):Int)) fun y22 =>
  cond (!y22)
   (Option.bind (a0[l14_m21]?) fun x24 =>
   Option.bind (Fm ((x24.toNat:Nat):Int)) fun y25 =>
   some (!y25))
   (some false)) fun l20_m35 =>
 cond l20_m35
  (some (Ctl.out (Ctl.out false)))
  (og (l14_m21+1<4611686018427387904) <|
  some (Ctl.next (l14_m21+1))))
 (some (Ctl.out (Ctl.next ())))
def Gz (a0:ByteArray):Option Bool :=
 Option.bind (Option.bind (Bv ((a0.size:Nat):Int) 1 8) fun y4 =>
 cond (!y4)
  (some true)
  (Option.bind (a0[0]?) fun x6 =>
  Option.bind (D4 ((x6.toNat:Nat):Int)) fun y7 =>
  cond (!y7)
   (some true)
   (Option.bind (Gn a0) fun y9 =>
   some (y9 !=17)))) fun l3_m18 =>
cond l3_m18
 (some false)
 (Dt (A4 (fun s_:Nat=>Dx a0 s_) 4611686018427387904 0) fun _ =>
 some true)
def W5 (r:Bool):RV:=⟨false,[(false,[.sc (.bool r)])]⟩
theorem Jy {a0:ByteArray} {r:Bool} (h:Gz a0=some r):Ax Tryd.prog Tab 34 [.str a0] (W5 r):=by
 refine As (by kernel_rfl) Tryd.func34 Acp (n:=37) (by kernel_rfl) (by simp) (tl:=[(0,.str a0)]) rfl ?_;unfold P1;unfold Gz at h;refine Ak ?_;refine Ab ?_;refine Aw h (fun (l3_m18:Bool) S_=>S_=⟨An [(0,.str a0),(18,.bool l3_m18)],Aj (Aq []),2⟩) ?_ ?_
 ·intro v_ h;obtain ⟨y4,h4,h⟩:=Ag h;rcases Ad h with ⟨q5,h⟩ | ⟨q5,h⟩
  ·refine Aa 17 ?_;refine rz0 (.str a0) ?_;refine rz0 (ai ((a0.size:Nat):Int)) ?_;refine zc (.bool y4) [] [ai ((a0.size:Nat):Int),ai 1,ai 8] (Bo h4) ?_;refine rz0 (.bool (!y4)) ?_;refine rz0 (.bool (!y4)) ?_;refine zs q5 ?_;refine zs q5 ?_;refine zs q5 ?_;refine zs q5 ?_;refine rs0 (.bool true) (zT q5) ?_;refine rsB 5 ?_;refine Ao (tn_ ?_);obtain rfl:=zj h;exact ⟨_,Ac [],rfl⟩
  obtain ⟨x6,e6,h⟩:=Ag h;obtain ⟨y7,h7,h⟩:=Ag h;rcases Ad h with ⟨q8,h⟩ | ⟨q8,h⟩
  ·refine Aa 17 ?_;refine rz0 (.str a0) ?_;refine rz0 (ai ((a0.size:Nat):Int)) ?_;refine zc (.bool y4) [] [ai ((a0.size:Nat):Int),ai 1,ai 8] (Bo h4) ?_;refine rz0 (.bool (!y4)) ?_;refine rz0 (.bool (!y4)) ?_;refine rs0 (.str a0) (zg q5) ?_;refine rs0 (.int .u8 ((x6.toNat:Nat):Int)) (Fg (by kernel_rfl) q5 (Dd (s:=a0) (k:=.i64) (m:=0) (by kernel_rfl) (by kernel_rfl) (by decide) rfl e6)) ?_;refine Bz (.bool y7) [] [.int .u8 ((x6.toNat:Nat):Int)] _ (caps:=[]) (args0:=[.int .u8 ((x6.toNat:Nat):Int)]) (Bg (by kernel_rfl) q5) (by kernel_rfl) (G4 h7) Mx ?_;refine rs0 (.bool (!y7)) (zg q5) ?_;refine rs0 (.bool (!y7)) (zF q5) ?_;refine rz0 (.bool (!y7)) ?_;refine zs q8 ?_;refine zs q8 ?_;refine zs q8 ?_;refine rs0 (.bool true) (zT q8) ?_;refine Ao (tn_ ?_);obtain rfl:=zj h;exact ⟨_,Ac [],rfl⟩
  obtain ⟨y9,h9,h⟩:=Ag h;refine Aa 17 ?_;refine rz0 (.str a0) ?_;refine rz0 (ai ((a0.size:Nat):Int)) ?_;refine zc (.bool y4) [] [ai ((a0.size:Nat):Int),ai 1,ai 8] (Bo h4) ?_;refine rz0 (.bool (!y4)) ?_;refine rz0 (.bool (!y4)) ?_;refine rs0 (.str a0) (zg q5) ?_;refine rs0 (.int .u8 ((x6.toNat:Nat):Int)) (Fg (by kernel_rfl) q5 (Dd (s:=a0) (k:=.i64) (m:=0) (by kernel_rfl) (by kernel_rfl) (by decide) rfl e6)) ?_;refine Bz (.bool y7) [] [.int .u8 ((x6.toNat:Nat):Int)] _ (caps:=[]) (args0:=[.int .u8 ((x6.toNat:Nat):Int)]) (Bg (by kernel_rfl) q5) (by kernel_rfl) (G4 h7) Mx ?_;refine rs0 (.bool (!y7)) (zg q5) ?_;refine rs0 (.bool (!y7)) (zF q5) ?_;refine rz0 (.bool (!y7)) ?_;refine rs0 (.str a0) (zg q8) ?_;refine Bz (ai y9) [] [.str a0] _ (caps:=[]) (args0:=[.str a0]) (Bg (by kernel_rfl) q8) (by kernel_rfl) (Z0 h9) Yz ?_;refine rs0 (.bool (y9 !=17)) (zg q8) ?_;refine rs0 (.bool (y9 !=17)) (zF q8) ?_;refine Ao (tn_ ?_);obtain rfl:=zj h;exact ⟨_,Ac [],rfl⟩
 rintro l3_m18 _ rfl h
 (try dsimp only at h);rcases Ad h with ⟨q10,h⟩ | ⟨q10,h⟩
 ·refine Af q10 ?_;refine Ak ?_;refine Ah (tr_ ?_);obtain rfl:=zj h;exact A0 [.bool false] (Ap rfl zl Ar)
 refine Ae q10 ?_;refine Ai (tn_ ?_);refine wr_ ?_;refine Bl h (fun (_:Unit) S_=>S_=⟨An [],Aj (Aq []),2⟩) ?_ ?_
 ·intro v_ h hk12;refine Ak ?_;refine Al ?_;refine A5 h (fun (l14_m21:Nat) S_=>S_=⟨An [(0,.str a0),(20,ai ((a0.size:Nat):Int)),(21,ai ((l14_m21:Nat):Int))],Aj (Aq []),2⟩) ⟨_,Ac [],rfl⟩ ?_;rintro n_ l14_m21 _ c_ rfl h hn14
  (try dsimp only at h);unfold Dx at h;unfold L5;refine Ak ?_;refine Ab ?_;rcases Ad h with ⟨q17,h⟩ | ⟨q17,h⟩
  ·have q17_:=of_decide_eq_true q17;refine Af q17 ?_;refine Ai (tn_ ?_);refine wr_ ?_;refine Ab ?_;refine Al ?_;refine Ak ?_;refine Aw h (fun (l20_m35:Bool) S_=>S_=⟨An [(0,.str a0),(20,ai ((a0.size:Nat):Int)),(21,ai ((l14_m21:Nat):Int)),(35,.bool l20_m35)],Aj (Aq []),2⟩) ?_ ?_
   ·intro v_ h;obtain ⟨x21,e21,h⟩:=Ag h;obtain ⟨y22,h22,h⟩:=Ag h;rcases Ad h with ⟨q23,h⟩ | ⟨q23,h⟩
    ·obtain ⟨x24,e24,h⟩:=Ag h;obtain ⟨y25,h25,h⟩:=Ag h;refine Aa 17 ?_;refine rz0 (.str a0) ?_;refine rz0 (ai ((l14_m21:Nat):Int)) ?_;refine rs0 (.int .u8 ((x21.toNat:Nat):Int)) (Dd (s:=a0) (k:=.i64) (m:=((l14_m21:Nat):Int)) (by kernel_rfl) (by kernel_rfl) (Ay _) rfl e21) ?_;refine zc (.bool y22) [] [.int .u8 ((x21.toNat:Nat):Int)] (G4 h22) ?_;refine rz0 (.bool (!y22)) ?_;refine rz0 (.bool (!y22)) ?_;refine rs0 (.str a0) (zg q23) ?_;refine rs0 (ai ((l14_m21:Nat):Int)) (zg q23) ?_;refine rs0 (.int .u8 ((x24.toNat:Nat):Int)) (Fg (by kernel_rfl) q23 (Dd (s:=a0) (k:=.i64) (m:=((l14_m21:Nat):Int)) (by kernel_rfl) (by kernel_rfl) (Ay _) rfl e24)) ?_;refine Bz (.bool y25) [] [.int .u8 ((x24.toNat:Nat):Int)] _ (caps:=[]) (args0:=[.int .u8 ((x24.toNat:Nat):Int)]) (Bg (by kernel_rfl) q23) (by kernel_rfl) (Wi h25) Vw ?_;refine rs0 (.bool (!y25)) (zg q23) ?_;refine rs0 (.bool (!y25)) (zT q23) ?_;refine Ao (tn_ ?_);obtain rfl:=zj h;exact ⟨_,Ac [],rfl⟩
    refine Aa 17 ?_;refine rz0 (.str a0) ?_;refine rz0 (ai ((l14_m21:Nat):Int)) ?_;refine rs0 (.int .u8 ((x21.toNat:Nat):Int)) (Dd (s:=a0) (k:=.i64) (m:=((l14_m21:Nat):Int)) (by kernel_rfl) (by kernel_rfl) (Ay _) rfl e21) ?_;refine zc (.bool y22) [] [.int .u8 ((x21.toNat:Nat):Int)] (G4 h22) ?_;refine rz0 (.bool (!y22)) ?_;refine rz0 (.bool (!y22)) ?_;refine zs q23 ?_;refine zs q23 ?_;refine zs q23 ?_;refine zs q23 ?_;refine zs q23 ?_;refine rs0 (.bool false) (zF q23) ?_;refine Ao (tn_ ?_);obtain rfl:=zj h;exact ⟨_,Ac [],rfl⟩
   rintro l20_m35 _ rfl h
   (try dsimp only at h);rcases Ad h with ⟨q26,h⟩ | ⟨q26,h⟩
   ·refine Af q26 ?_;refine Ak ?_;refine Ah (br_ (tr_ (tr_ (br_ (tr_ ?_)))));obtain rfl:=zj h;have h:=hn14
    (try dsimp only at h);obtain rfl:=zj h;have h:=hk12
    (try dsimp only at h);obtain rfl:=zj h;exact A0 [.bool false] (Ap rfl zl Ar)
   refine Ae q26 ?_;refine Ai (bn_ (tn_ ?_));refine wr_ ?_;obtain ⟨g28,h⟩:=Av h;refine Aa 4 ?_;refine rs0 (ai ((l14_m21+1:Nat):Int)) (za g28) ?_;refine rsB 1 ?_;refine Ao (tn_ ?_);obtain rfl:=zj h;exact ⟨l14_m21+1,_,Ac [],rfl,hn14⟩
  have q17_:=of_decide_eq_false q17;refine Ae q17 ?_;refine A2 (te_ (te_ (be_ (tn_ ?_))));obtain rfl:=zj h;have h:=hn14
  (try dsimp only at h);obtain rfl:=zj h;exact ⟨(),_,rfl,Ac [],rfl⟩
 rintro _ _ rfl h
 (try dsimp only at h);refine Ak ?_;refine Ah ?_;obtain rfl:=zj h;exact A0 [.bool true] (Ap rfl zl Ar)
def Jr:AC :=
 (.seq (rg [xo 2 (qm (cb false))])
 (.seq (rg [xo 3 (qm (tm 0)),xo 4 (qc 55 [tm 3,ci 3,ci 14] [[],[],[]]),xo 2 (qm (tm 4))])
 .ret))
def Q6:List Res:=[.tmp 2]
theorem Qn:Am Tryd.prog Tryd.f78=some (Jr,Q6):=by kernel_rfl
def En (a0:Int):Option Bool :=
 Option.bind (Bv a0 3 14) fun y3 =>
some y3
def O8 (r:Bool):RV:=⟨false,[(false,[.sc (.bool r)])]⟩
theorem Oy {a0:Int} {r:Bool} (h:En a0=some r):Ax Tryd.prog Tab 78 [ai a0] (O8 r):=by
 refine As (by kernel_rfl) Tryd.func78 Qn (n:=5) (by kernel_rfl) (by simp) (tl:=[(0,ai a0)]) rfl ?_;unfold Jr;unfold En at h;refine Ak ?_;refine Ab ?_;obtain ⟨y3,h3,h⟩:=Ag h;refine Aa 5 ?_;refine rz0 (ai a0) ?_;refine zc (.bool y3) [] [ai a0,ai 3,ai 14] (Bo h3) ?_;refine rsB 1 ?_;refine Ao (tn_ ?_);refine wr_ ?_;refine Ah ?_;obtain rfl:=zj h;exact A0 [.bool y3] (Ap rfl zl Ar)
def M1:AC :=
 (.seq (rg [xo 2 (qm (cb false))])
 (.seq (rg [xo 3 (qm (tm 0)),xo 4 (qb .eql (tm 3) (ci 7)),xo 5 (qm (tm 4)),⟨some 6,some (5,false),qm (tm 0)⟩,⟨some 7,some (5,false),qb .eql (tm 6) (ci 13)⟩,xo 8 (.i (.pick (tm 5) (cb true) (tm 7))),xo 2 (qm (tm 8))])
 .ret))
def V4:List Res:=[.tmp 2]
theorem V2:Am Tryd.prog Tryd.f73=some (M1,V4):=by kernel_rfl
def De (a0:Int):Option Bool :=
 Option.bind (cond (a0==7)
  (some true)
  (some (a0==13))) fun l2_m2 =>
some l2_m2
def Uk (r:Bool):RV:=⟨false,[(false,[.sc (.bool r)])]⟩
theorem Hu {a0:Int} {r:Bool} (h:De a0=some r):Ax Tryd.prog Tab 73 [ai a0] (Uk r):=by
 refine As (by kernel_rfl) Tryd.func73 V2 (n:=9) (by kernel_rfl) (by simp) (tl:=[(0,ai a0)]) rfl ?_;unfold M1;unfold De at h;refine Ak ?_;refine Aw h (fun (l2_m2:Bool) S_=>S_=⟨An [(2,.bool l2_m2)],Aj (Aq []),2⟩) ?_ ?_
 ·intro v_ h;rcases Ad h with ⟨q3,h⟩ | ⟨q3,h⟩
  ·refine Aa 9 ?_;refine rz0 (ai a0) ?_;refine rz0 (.bool (a0==7)) ?_;refine rz0 (.bool (a0==7)) ?_;refine zs q3 ?_;refine zs q3 ?_;refine rs0 (.bool true) (zT q3) ?_;refine rsB 1 ?_;refine Ao (tn_ ?_);obtain rfl:=zj h;exact ⟨_,Ac [],rfl⟩
  refine Aa 9 ?_;refine rz0 (ai a0) ?_;refine rz0 (.bool (a0==7)) ?_;refine rz0 (.bool (a0==7)) ?_;refine rs0 (ai a0) (zg q3) ?_;refine rs0 (.bool (a0==13)) (zg q3) ?_;refine rs0 (.bool (a0==13)) (zF q3) ?_;refine rsB 1 ?_;refine Ao (tn_ ?_);obtain rfl:=zj h;exact ⟨_,Ac [],rfl⟩
 rintro l2_m2 _ rfl h
 (try dsimp only at h);refine Ah ?_;obtain rfl:=zj h;exact A0 [.bool l2_m2] (Ap rfl zl Ar)
def G8:AC :=
 (.seq (rg [xo 4 (qm (cb false))])
 (.seq (.seq (rg [xo 5 (qm (tm 0)),xo 6 (qc 73 [tm 5] [[]])])
 (.cond (tm 6)
  (.seq (rg [xo 7 (qm (tm 1)),xo 8 (qc 55 [tm 7,ci 0,ci 96] [[],[],[]]),xo 4 (qm (tm 8))])
  .ret)
  .skip))
 (.seq (rg [xo 9 (qm (tm 1)),xo 10 (qb .eql (tm 9) (ci 0)),xo 4 (qm (tm 10))])
 .ret)))
def Lj:List Res:=[.tmp 4]
theorem Lv:Am Tryd.prog Tryd.f80=some (G8,Lj):=by kernel_rfl
theorem K6:A6 Tryd.prog 80=true:=by kernel_rfl
def Cm (a0:Int) (a1:Int):Option Bool :=
 Option.bind (De a0) fun y4 =>
cond y4
 (Option.bind (Bv a1 0 96) fun y7 =>
 some y7)
 (some (a1==0))
def K5 (r:Bool):RV:=⟨false,[(false,[.sc (.bool r)])]⟩
theorem K8 {a0:Int} {a1:Int} {r:Bool} (h:Cm a0 a1=some r):Ax Tryd.prog Tab 80 [ai a0,ai a1] (K5 r):=by
 refine As (by kernel_rfl) Tryd.func80 Lv (n:=11) (by kernel_rfl) (by simp) (tl:=[(0,ai a0),(1,ai a1)]) rfl ?_;unfold G8;unfold Cm at h;refine Ak ?_;refine Ab ?_;refine Ab ?_;obtain ⟨y4,h4,h⟩:=Ag h;refine Aa 4 ?_;refine rz0 (ai a0) ?_;refine zc (.bool y4) [] [ai a0] (Hu h4) ?_;refine Ao (tn_ ?_);refine wr_ ?_;rcases Ad h with ⟨q5,h⟩ | ⟨q5,h⟩
 ·refine Af q5 ?_;refine Ab ?_;obtain ⟨y7,h7,h⟩:=Ag h;refine Aa 7 ?_;refine rz0 (ai a1) ?_;refine zc (.bool y7) [] [ai a1,ai 0,ai 96] (Bo h7) ?_;refine rsB 1 ?_;refine Ao (tn_ ?_);refine wr_ ?_;refine Ah (tr_ ?_);obtain rfl:=zj h;exact A0 [.bool y7] (Ap rfl zl Ar)
 refine Ae q5 ?_;refine Ai (tn_ ?_);refine wr_ ?_;refine Ak ?_;refine Ah ?_;obtain rfl:=zj h;exact A0 [.bool (a1==0)] (Ap rfl zl Ar)
def L8:AC :=
 (.seq (rg [xo 1 (.i (.box 87 (tm 0))),xo 2 (.i (.alloc 66 [.int .i64 0,.int .i64 0])),xo 3 (qm (cb false))])
 (.seq (.block 0 (.seq (rg [xo 5 (qf 2 (tm 1)),xo 6 (ql (tm 5)),⟨some 7,none,.i (.bin .neq (tm 6) (.cst (.str ⟨#[]⟩)))⟩,xo 4 (qm (tm 7))])
 (.cond (tm 4)
  (.seq (rg [xo 8 (.build [.int .i64 0,.int .i64 0] []),xn (.st false 2 (tm 2) (tm 8)),xo 3 (qm (cb false))])
  .ret)
  (.seq (rg [xo 10 (qf 0 (tm 1)),xo 11 (ql (tm 10)),xo 12 (qb .eql (tm 11) (ci 1)),xo 9 (qm (tm 12))])
  (.cond (tm 9)
   (.seq (.region [xo 13 (qf 1 (tm 1)),xo 14 (ql (tm 13)),xo 15 (qf 1 (tm 1)),xo 16 (ql (tm 15)),xo 17 (.build [.int .i64 0,.int .i64 0] [(0,1,tm 14),(1,1,tm 16)]),xo 18 (qf 1 (tm 1)),xo 19 (ql (tm 18)),xo 20 (qc 55 [tm 19,ci 0,ci 12] [[],[],[]]),xn (.st false 2 (tm 2) (tm 17)),xo 3 (qm (tm 20))] true [(1,7),(3,7)])
   .ret)
   (.seq (rg [xo 22 (qf 0 (tm 1)),xo 23 (ql (tm 22)),xo 24 (qb .eql (tm 23) (ci 2)),xo 21 (qm (tm 24))])
   (.cond (tm 21)
    (.seq (.region [xo 25 (.build [.int .i64 0,.int .i64 0] [(0,1,ci 2),(1,1,ci 2)]),xo 26 (qf 1 (tm 1)),xo 27 (ql (tm 26)),xo 28 (qb .eql (tm 27) (ci 0)),xn (.st false 2 (tm 2) (tm 25)),xo 3 (qm (tm 28))] true [(2,4)])
    .ret)
    (.seq (rg [xo 30 (qf 0 (tm 1)),xo 31 (ql (tm 30)),xo 32 (qc 78 [tm 31] [[]]),xo 29 (qm (tm 32))])
    (.cond (tm 29)
     (.seq (.region [xo 33 (qf 0 (tm 1)),xo 34 (ql (tm 33)),xo 35 (qc 79 [tm 34] [[]]),xo 36 (qf 0 (tm 1)),xo 37 (ql (tm 36)),xo 38 (qf 1 (tm 1)),xo 39 (ql (tm 38)),xo 40 (qc 80 [tm 37,tm 39] [[],[]]),xn (.st false 2 (tm 2) (tm 35)),xo 3 (qm (tm 40))] true [(2,4),(2,6)])
     .ret)
     .skip)))))))))
 (.seq (rg [xo 41 (.build [.int .i64 0,.int .i64 0] []),xn (.st false 2 (tm 2) (tm 41)),xo 3 (qm (cb false))])
 .ret)))
def Ue:List Res:=[.cell 2 false 2,.tmp 3]
theorem U1:Am Tryd.prog Tryd.f64=some (L8,Ue):=by kernel_rfl
def D7 (a0_0:Int) (a0_1:Int) (a0_2:ByteArray):Option (Int×Int×Bool) :=
 cond (!(a0_2.toList==(⟨#[]⟩:ByteArray).toList))
 (some (0,0,false))
 (cond (a0_0==1)
  (Option.bind (Bv a0_1 0 12) fun y9 =>
  some (a0_1,a0_1,y9))
  (cond (a0_0==2)
   (some (2,2,a0_1==0))
   (Option.bind (En a0_0) fun y14 =>
   cond y14
    (Option.bind (E9 a0_0) fun y17 =>
    Option.bind (Cm a0_0 a0_1) fun y18 =>
    some (y17.1,y17.2,y18))
    (some (0,0,false)))))
def Te (r:Int×Int×Bool):RV:=⟨true,[(true,[.sc (.int .i64 r.1),.sc (.int .i64 r.2.1)]),(false,[.sc (.bool r.2.2)])]⟩
theorem S4 {a0_0:Int} {a0_1:Int} {a0_2:ByteArray} {r:Int×Int×Bool} (h:D7 a0_0 a0_1 a0_2=some r):Ax Tryd.prog Tab 64 [.agg [ai a0_0,ai a0_1,.str a0_2]] (Te r):=by
 refine As (by kernel_rfl) Tryd.func64 U1 (n:=42) (by kernel_rfl) (by simp) (tl:=[(0,.agg [ai a0_0,ai a0_1,.str a0_2])]) rfl ?_;unfold L8;unfold D7 at h;refine Ak ?_;refine Ab ?_;refine Al ?_;refine Ak ?_;rcases Ad h with ⟨q4,h⟩ | ⟨q4,h⟩
 ·refine Af q4 ?_;refine Ak ?_;refine Ah (br_ (tr_ ?_));obtain rfl:=zj h;exact A0 [.agg [ai 0,ai 0],.bool false] (Fq (Bf zl (Bf zl Fp)) (Ap rfl zl Ar))
 refine Ae q4 ?_;refine Ak ?_;rcases Ad h with ⟨q7,h⟩ | ⟨q7,h⟩
 ·refine Af q7 ?_;refine Ab ?_;obtain ⟨y9,h9,h⟩:=Ag h;refine A1 22 ?_;refine dz0 (.box (oi 1 1) 1) ?_;refine dzl (ai a0_1) ?_;refine dz0 (.box (oi 1 1) 1) ?_;refine dzl (ai a0_1) ?_;refine dz0 (.agg [ai a0_1,ai a0_1]) ?_;refine dz0 (.box (oi 1 1) 1) ?_;refine dzl (ai a0_1) ?_;refine Eg (.bool y9) [] [ai a0_1,ai 0,ai 12] _ (caps:=[]) (args0:=[ai a0_1,ai 0,ai 12]) trivial (by kernel_rfl) (Bo h9) Jt ?_;refine Zw (oi 2 2) (oi 2 2) (.cells 66 [ai a0_1,ai a0_1]) (by kernel_rfl) ?_;refine dz0 (.bool y9) ?_;refine G0 (Be (by kernel_rfl)) (tn_ ?_);refine wr_ ?_;refine Ah (br_ (tr_ ?_));obtain rfl:=zj h;exact A0 [.agg [ai a0_1,ai a0_1],.bool y9] (Fq (Bf zl (Bf zl Fp)) (Ap rfl zl Ar))
 refine Ae q7 ?_;refine Ak ?_;rcases Ad h with ⟨q11,h⟩ | ⟨q11,h⟩
 ·refine Af q11 ?_;refine Ab ?_;refine A1 22 ?_;refine dsB 6 ?_;refine G0 (Be (by kernel_rfl)) (tn_ ?_);refine wr_ ?_;refine Ah (br_ (tr_ ?_));obtain rfl:=zj h;exact A0 [.agg [ai 2,ai 2],.bool (a0_1==0)] (Fq (Bf zl (Bf zl Fp)) (Ap rfl zl Ar))
 refine Ae q11 ?_;refine Ab ?_;obtain ⟨y14,h14,h⟩:=Ag h;refine Aa 20 ?_;refine rz0 (.box (oi 1 1) 0) ?_;refine rzl (ai a0_0) ?_;refine zc (.bool y14) [] [ai a0_0] (Oy h14) ?_;refine rsB 1 ?_;refine Ao (tn_ ?_);refine wr_ ?_;rcases Ad h with ⟨q15,h⟩ | ⟨q15,h⟩
 ·refine Af q15 ?_;refine Ab ?_;obtain ⟨y17,h17,h⟩:=Ag h;obtain ⟨y18,h18,h⟩:=Ag h;refine A1 30 ?_;refine dz0 (.box (oi 1 1) 0) ?_;refine dzl (ai a0_0) ?_;refine Eg (.agg [ai y17.1,ai y17.2]) [] [ai a0_0] _ (caps:=[]) (args0:=[ai a0_0]) trivial (by kernel_rfl) (Mi h17) Ms ?_;refine dz0 (.box (oi 1 1) 0) ?_;refine dzl (ai a0_0) ?_;refine dz0 (.box (oi 1 1) 1) ?_;refine dzl (ai a0_1) ?_;refine Eg (.bool y18) [] [ai a0_0,ai a0_1] _ (caps:=[]) (args0:=[ai a0_0,ai a0_1]) trivial (by kernel_rfl) (K8 h18) K6 ?_;refine Zw (oi 2 2) (oi 2 2) (.cells 66 [ai y17.1,ai y17.2]) (by kernel_rfl) ?_;refine dz0 (.bool y18) ?_;refine G0 (Be (by kernel_rfl)) (tn_ ?_);refine wr_ ?_;refine Ah (br_ (tr_ ?_));obtain rfl:=zj h;exact A0 [.agg [ai y17.1,ai y17.2],.bool y18] (Fq (Bf zl (Bf zl Fp)) (Ap rfl zl Ar))
 refine Ae q15 ?_;refine Ai (bn_ (tn_ ?_));refine wr_ ?_;refine Ak ?_;refine Ah ?_;obtain rfl:=zj h;exact A0 [.agg [ai 0,ai 0],.bool false] (Fq (Bf zl (Bf zl Fp)) (Ap rfl zl Ar))
def Lp:AC :=
 (.seq (.seq (rg [xo 18 (qm (tm 3)),xo 19 (qm (tm 0)),xo 20 (.i (.lenS (tm 19))),xo 21 (qb .lss (tm 18) (tm 20))])
 (.cond (tm 21)
  .skip
  (.exit 0)))
 (.seq (.block 1 (.seq (rg [xo 24 (qm (tm 0)),xo 25 (qm (tm 3)),xo 26 (.i (.char (tm 24) (tm 25))),⟨some 27,none,.i (.bin .lss (tm 26) (.cst (.int .u8 97)))⟩,xo 28 (qm (tm 27)),⟨some 29,some (28,false),qm (tm 0)⟩,⟨some 30,some (28,false),qm (tm 3)⟩,⟨some 31,some (28,false),.i (.char (tm 29) (tm 30))⟩,⟨some 32,some (28,false),.i (.bin .gtr (tm 31) (.cst (.int .u8 122)))⟩,xo 33 (.i (.pick (tm 28) (cb true) (tm 32))),xo 34 (qm (tm 33)),⟨some 35,some (34,true),qm (tm 0)⟩,⟨some 36,some (34,true),qm (tm 3)⟩,⟨some 37,some (34,true),.i (.char (tm 35) (tm 36))⟩,⟨some 38,some (34,true),.i (.bin .lss (tm 37) (.cst (.int .u8 48)))⟩,⟨some 39,some (34,true),qm (tm 38)⟩,⟨some 40,some (39,false),qm (tm 0)⟩,⟨some 41,some (39,false),qm (tm 3)⟩,⟨some 42,some (39,false),.i (.char (tm 40) (tm 41))⟩,⟨some 43,some (39,false),.i (.bin .gtr (tm 42) (.cst (.int .u8 57)))⟩,⟨some 44,some (34,true),.i (.pick (tm 39) (cb true) (tm 43))⟩,xo 45 (.i (.pick (tm 34) (tm 44) (cb false)))])
 (.cond (tm 45)
  (.seq (rg [xo 2 (qm (cb false))])
  .ret)
  .skip)))
 (rg [xo 22 (qm (tm 3)),xo 23 (qb .add (tm 22) (ci 1)),xo 3 (qm (tm 23))])))
def P9:AC :=
 (.seq (rg [xo 2 (qm (cb false))])
 (.seq (.seq (rg [xo 4 (qm (tm 0)),xo 5 (.i (.lenS (tm 4))),xo 6 (qc 51 [tm 5,ci 1,ci 8] [[],[],[]]),xo 7 (.i (.not (tm 6))),xo 8 (qm (tm 7)),⟨some 9,some (8,false),qm (tm 0)⟩,⟨some 10,some (8,false),.i (.char (tm 9) (ci 0))⟩,⟨some 11,some (8,false),.i (.bin .lss (tm 10) (.cst (.int .u8 97)))⟩,xo 12 (.i (.pick (tm 8) (cb true) (tm 11))),xo 13 (qm (tm 12)),⟨some 14,some (13,false),qm (tm 0)⟩,⟨some 15,some (13,false),.i (.char (tm 14) (ci 0))⟩,⟨some 16,some (13,false),.i (.bin .gtr (tm 15) (.cst (.int .u8 122)))⟩,xo 17 (.i (.pick (tm 13) (cb true) (tm 16)))])
 (.cond (tm 17)
  (.seq (rg [xo 2 (qm (cb false))])
  .ret)
  .skip))
 (.seq (.seq (rg [xo 3 (qm (ci 1))])
 (.block 0 (.loop Lp)))
 (.seq (rg [xo 2 (qm (cb true))])
 .ret))))
def Ab5:List Res:=[.tmp 2]
theorem Aal:Am Tryd.prog Tryd.f47=some (P9,Ab5):=by kernel_rfl
def Bm (a0:ByteArray) (l13_m3:Nat):Option (Ctl Nat (Ctl Unit Bool)) :=
 cond (decide (((l13_m3:Nat):Int)<((a0.size:Nat):Int)))
 (Option.bind (Option.bind (a0[l13_m3]?) fun x19 =>
  cond (decide (((x19.toNat:Nat):Int)<97))
   (Option.bind (a0[l13_m3]?) fun x21 =>
   cond (decide (((x21.toNat:Nat):Int)<48))
    (some true)
    (Option.bind (a0[l13_m3]?) fun x23 =>
    some (decide (57<((x23.toNat:Nat):Int)))))
   (Option.bind (a0[l13_m3]?) fun x24 =>
   cond (decide (122<((x24.toNat:Nat):Int)))
    (Option.bind (a0[l13_m3]?) fun x26 =>
    cond (decide (((x26.toNat:Nat):Int)<48))
     (some true)
     (Option.bind (a0[l13_m3]?) fun x28 =>
     some (decide (57<((x28.toNat:Nat):Int)))))
    (some false))) fun l18_m45 =>
 cond l18_m45
  (some (Ctl.out (Ctl.out false)))
  (og (l13_m3+1<4611686018427387904) <|
  some (Ctl.next (l13_m3+1))))
 (some (Ctl.out (Ctl.next ())))
def H3 (a0:ByteArray):Option Bool :=
 Option.bind (Option.bind (Bu ((a0.size:Nat):Int) 1 8) fun y4 =>
 cond (!y4)
  (some true)
  (Option.bind (a0[0]?) fun x6 =>
  cond (decide (((x6.toNat:Nat):Int)<97))
   (some true)
   (Option.bind (a0[0]?) fun x8 =>
   some (decide (122<((x8.toNat:Nat):Int)))))) fun l3_m17 =>
cond l3_m17
 (some false)
 (Dt (A4 (fun s_:Nat=>Bm a0 s_) 4611686018427387904 1) fun _ =>
 some true)
def Xp (r:Bool):RV:=⟨false,[(false,[.sc (.bool r)])]⟩
set_option maxHeartbeats 1600000 in
theorem Oi {a0:ByteArray} {r:Bool} (h:H3 a0=some r):Ax Tryd.prog Tab 47 [.str a0] (Xp r):=by
 refine As (by kernel_rfl) Tryd.func47 Aal (n:=46) (by kernel_rfl) (by simp) (tl:=[(0,.str a0)]) rfl ?_;unfold P9;unfold H3 at h;refine Ak ?_;refine Ab ?_;refine Aw h (fun (l3_m17:Bool) S_=>S_=⟨An [(0,.str a0),(17,.bool l3_m17)],Aj (Aq []),2⟩) ?_ ?_
 ·intro v_ h;obtain ⟨y4,h4,h⟩:=Ag h;rcases Ad h with ⟨q5,h⟩ | ⟨q5,h⟩
  ·refine Aa 16 ?_;refine rz0 (.str a0) ?_;refine rz0 (ai ((a0.size:Nat):Int)) ?_;refine zc (.bool y4) [] [ai ((a0.size:Nat):Int),ai 1,ai 8] (Bj h4) ?_;refine rz0 (.bool (!y4)) ?_;refine rz0 (.bool (!y4)) ?_;refine zs q5 ?_;refine zs q5 ?_;refine zs q5 ?_;refine rs0 (.bool true) (zT q5) ?_;refine rsB 5 ?_;refine Ao (tn_ ?_);obtain rfl:=zj h;exact ⟨_,Ac [],rfl⟩
  obtain ⟨x6,e6,h⟩:=Ag h;rcases Ad h with ⟨q7,h⟩ | ⟨q7,h⟩
  ·have q7_:=of_decide_eq_true q7;refine Aa 16 ?_;refine rz0 (.str a0) ?_;refine rz0 (ai ((a0.size:Nat):Int)) ?_;refine zc (.bool y4) [] [ai ((a0.size:Nat):Int),ai 1,ai 8] (Bj h4) ?_;refine rz0 (.bool (!y4)) ?_;refine rz0 (.bool (!y4)) ?_;refine rs0 (.str a0) (zg q5) ?_;refine rs0 (.int .u8 ((x6.toNat:Nat):Int)) (Fg (by kernel_rfl) q5 (Dd (s:=a0) (k:=.i64) (m:=0) (by kernel_rfl) (by kernel_rfl) (by decide) rfl e6)) ?_;refine rs0 (.bool (decide (((x6.toNat:Nat):Int)<97))) (zg q5) ?_;refine rs0 (.bool (decide (((x6.toNat:Nat):Int)<97))) (zF q5) ?_;refine rz0 (.bool (decide (((x6.toNat:Nat):Int)<97))) ?_;refine zs q7 ?_;refine zs q7 ?_;refine zs q7 ?_;refine rs0 (.bool true) (zT q7) ?_;refine Ao (tn_ ?_);obtain rfl:=zj h;exact ⟨_,Ac [],rfl⟩
  have q7_:=of_decide_eq_false q7;obtain ⟨x8,e8,h⟩:=Ag h;refine Aa 16 ?_;refine rz0 (.str a0) ?_;refine rz0 (ai ((a0.size:Nat):Int)) ?_;refine zc (.bool y4) [] [ai ((a0.size:Nat):Int),ai 1,ai 8] (Bj h4) ?_;refine rz0 (.bool (!y4)) ?_;refine rz0 (.bool (!y4)) ?_;refine rs0 (.str a0) (zg q5) ?_;refine rs0 (.int .u8 ((x6.toNat:Nat):Int)) (Fg (by kernel_rfl) q5 (Dd (s:=a0) (k:=.i64) (m:=0) (by kernel_rfl) (by kernel_rfl) (by decide) rfl e6)) ?_;refine rs0 (.bool (decide (((x6.toNat:Nat):Int)<97))) (zg q5) ?_;refine rs0 (.bool (decide (((x6.toNat:Nat):Int)<97))) (zF q5) ?_;refine rz0 (.bool (decide (((x6.toNat:Nat):Int)<97))) ?_;refine rs0 (.str a0) (zg q7) ?_;refine rs0 (.int .u8 ((x8.toNat:Nat):Int)) (Fg (by kernel_rfl) q7 (Dd (s:=a0) (k:=.i64) (m:=0) (by kernel_rfl) (by kernel_rfl) (by decide) rfl e8)) ?_;refine rs0 (.bool (decide (122<((x8.toNat:Nat):Int)))) (zg q7) ?_;refine rs0 (.bool (decide (122<((x8.toNat:Nat):Int)))) (zF q7) ?_;refine Ao (tn_ ?_);obtain rfl:=zj h;exact ⟨_,Ac [],rfl⟩
 rintro l3_m17 _ rfl h
 (try dsimp only at h);rcases Ad h with ⟨q9,h⟩ | ⟨q9,h⟩
 ·refine Af q9 ?_;refine Ak ?_;refine Ah (tr_ ?_);obtain rfl:=zj h;exact A0 [.bool false] (Ap rfl zl Ar)
 refine Ae q9 ?_;refine Ai (tn_ ?_);refine wr_ ?_;refine Bl h (fun (_:Unit) S_=>S_=⟨An [],Aj (Aq []),2⟩) ?_ ?_
 ·intro v_ h hk11;refine Ak ?_;refine Al ?_;refine A5 h (fun (l13_m3:Nat) S_=>S_=⟨An [(0,.str a0),(3,ai ((l13_m3:Nat):Int))],Aj (Aq []),2⟩) ⟨_,Ac [],rfl⟩ ?_;rintro n_ l13_m3 _ c_ rfl h hn13
  (try dsimp only at h);unfold Bm at h;unfold Lp;refine Ab ?_;refine Ak ?_;rcases Ad h with ⟨q16,h⟩ | ⟨q16,h⟩
  ·have q16_:=of_decide_eq_true q16;refine Af q16 ?_;refine Ai (tn_ ?_);refine wr_ ?_;refine Ab ?_;refine Al ?_;refine Aw h (fun (l18_m45:Bool) S_=>S_=⟨An [(0,.str a0),(3,ai ((l13_m3:Nat):Int)),(45,.bool l18_m45)],Aj (Aq []),2⟩) ?_ ?_
   ·intro v_ h;obtain ⟨x19,e19,h⟩:=Ag h;rcases Ad h with ⟨q20,h⟩ | ⟨q20,h⟩
    ·have q20_:=of_decide_eq_true q20;obtain ⟨x21,e21,h⟩:=Ag h;rcases Ad h with ⟨q22,h⟩ | ⟨q22,h⟩
     ·have q22_:=of_decide_eq_true q22;refine Aa 28 ?_;refine rz0 (.str a0) ?_;refine rz0 (ai ((l13_m3:Nat):Int)) ?_;refine rs0 (.int .u8 ((x19.toNat:Nat):Int)) (Dd (s:=a0) (k:=.i64) (m:=((l13_m3:Nat):Int)) (by kernel_rfl) (by kernel_rfl) (Ay _) rfl e19) ?_;refine rz0 (.bool (decide (((x19.toNat:Nat):Int)<97))) ?_;refine rz0 (.bool (decide (((x19.toNat:Nat):Int)<97))) ?_;refine zs q20 ?_;refine zs q20 ?_;refine zs q20 ?_;refine zs q20 ?_;refine rs0 (.bool true) (zT q20) ?_;refine rz0 (.bool true) ?_;refine rz0 (.str a0) ?_;refine rz0 (ai ((l13_m3:Nat):Int)) ?_;refine rs0 (.int .u8 ((x21.toNat:Nat):Int)) (Dd (s:=a0) (k:=.i64) (m:=((l13_m3:Nat):Int)) (by kernel_rfl) (by kernel_rfl) (Ay _) rfl e21) ?_;refine rz0 (.bool (decide (((x21.toNat:Nat):Int)<48))) ?_;refine rz0 (.bool (decide (((x21.toNat:Nat):Int)<48))) ?_;refine zs q22 ?_;refine zs q22 ?_;refine zs q22 ?_;refine zs q22 ?_;refine rs0 (.bool true) (zT q22) ?_;refine rsB 1 ?_;refine Ao (tn_ ?_);obtain rfl:=zj h;exact ⟨_,Ac [],rfl⟩
     have q22_:=of_decide_eq_false q22;obtain ⟨x23,e23,h⟩:=Ag h;refine Aa 28 ?_;refine rz0 (.str a0) ?_;refine rz0 (ai ((l13_m3:Nat):Int)) ?_;refine rs0 (.int .u8 ((x19.toNat:Nat):Int)) (Dd (s:=a0) (k:=.i64) (m:=((l13_m3:Nat):Int)) (by kernel_rfl) (by kernel_rfl) (Ay _) rfl e19) ?_;refine rz0 (.bool (decide (((x19.toNat:Nat):Int)<97))) ?_;refine rz0 (.bool (decide (((x19.toNat:Nat):Int)<97))) ?_;refine zs q20 ?_;refine zs q20 ?_;refine zs q20 ?_;refine zs q20 ?_;refine rs0 (.bool true) (zT q20) ?_;refine rz0 (.bool true) ?_;refine rz0 (.str a0) ?_;refine rz0 (ai ((l13_m3:Nat):Int)) ?_;refine rs0 (.int .u8 ((x21.toNat:Nat):Int)) (Dd (s:=a0) (k:=.i64) (m:=((l13_m3:Nat):Int)) (by kernel_rfl) (by kernel_rfl) (Ay _) rfl e21) ?_;refine rz0 (.bool (decide (((x21.toNat:Nat):Int)<48))) ?_;refine rz0 (.bool (decide (((x21.toNat:Nat):Int)<48))) ?_;refine rs0 (.str a0) (zg q22) ?_;refine rs0 (ai ((l13_m3:Nat):Int)) (zg q22) ?_;refine rs0 (.int .u8 ((x23.toNat:Nat):Int)) (Fg (by kernel_rfl) q22 (Dd (s:=a0) (k:=.i64) (m:=((l13_m3:Nat):Int)) (by kernel_rfl) (by kernel_rfl) (Ay _) rfl e23)) ?_;refine rs0 (.bool (decide (57<((x23.toNat:Nat):Int)))) (zg q22) ?_;refine rs0 (.bool (decide (57<((x23.toNat:Nat):Int)))) (zF q22) ?_;refine rsB 1 ?_;refine Ao (tn_ ?_);obtain rfl:=zj h;exact ⟨_,Ac [],rfl⟩
    have q20_:=of_decide_eq_false q20;obtain ⟨x24,e24,h⟩:=Ag h;rcases Ad h with ⟨q25,h⟩ | ⟨q25,h⟩
    ·have q25_:=of_decide_eq_true q25;obtain ⟨x26,e26,h⟩:=Ag h;rcases Ad h with ⟨q27,h⟩ | ⟨q27,h⟩
     ·have q27_:=of_decide_eq_true q27;refine Aa 28 ?_;refine rz0 (.str a0) ?_;refine rz0 (ai ((l13_m3:Nat):Int)) ?_;refine rs0 (.int .u8 ((x19.toNat:Nat):Int)) (Dd (s:=a0) (k:=.i64) (m:=((l13_m3:Nat):Int)) (by kernel_rfl) (by kernel_rfl) (Ay _) rfl e19) ?_;refine rz0 (.bool (decide (((x19.toNat:Nat):Int)<97))) ?_;refine rz0 (.bool (decide (((x19.toNat:Nat):Int)<97))) ?_;refine rs0 (.str a0) (zg q20) ?_;refine rs0 (ai ((l13_m3:Nat):Int)) (zg q20) ?_;refine rs0 (.int .u8 ((x24.toNat:Nat):Int)) (Fg (by kernel_rfl) q20 (Dd (s:=a0) (k:=.i64) (m:=((l13_m3:Nat):Int)) (by kernel_rfl) (by kernel_rfl) (Ay _) rfl e24)) ?_;refine rs0 (.bool (decide (122<((x24.toNat:Nat):Int)))) (zg q20) ?_;refine rs0 (.bool (decide (122<((x24.toNat:Nat):Int)))) (zF q20) ?_;refine rz0 (.bool (decide (122<((x24.toNat:Nat):Int)))) ?_;refine rs0 (.str a0) (zg q25) ?_;refine rs0 (ai ((l13_m3:Nat):Int)) (zg q25) ?_;refine rs0 (.int .u8 ((x26.toNat:Nat):Int)) (Fg (by kernel_rfl) q25 (Dd (s:=a0) (k:=.i64) (m:=((l13_m3:Nat):Int)) (by kernel_rfl) (by kernel_rfl) (Ay _) rfl e26)) ?_;refine rs0 (.bool (decide (((x26.toNat:Nat):Int)<48))) (zg q25) ?_;refine rs0 (.bool (decide (((x26.toNat:Nat):Int)<48))) (zg q25) ?_;refine zs q27 ?_;refine zs q27 ?_;refine zs q27 ?_;refine zs q27 ?_;refine rs0 (.bool true) (Fg (by kernel_rfl) q25 (zT q27)) ?_;refine rs0 (.bool true) (zT q25) ?_;refine Ao (tn_ ?_);obtain rfl:=zj h;exact ⟨_,Ac [],rfl⟩
     have q27_:=of_decide_eq_false q27;obtain ⟨x28,e28,h⟩:=Ag h;refine Aa 28 ?_;refine rz0 (.str a0) ?_;refine rz0 (ai ((l13_m3:Nat):Int)) ?_;refine rs0 (.int .u8 ((x19.toNat:Nat):Int)) (Dd (s:=a0) (k:=.i64) (m:=((l13_m3:Nat):Int)) (by kernel_rfl) (by kernel_rfl) (Ay _) rfl e19) ?_;refine rz0 (.bool (decide (((x19.toNat:Nat):Int)<97))) ?_;refine rz0 (.bool (decide (((x19.toNat:Nat):Int)<97))) ?_;refine rs0 (.str a0) (zg q20) ?_;refine rs0 (ai ((l13_m3:Nat):Int)) (zg q20) ?_;refine rs0 (.int .u8 ((x24.toNat:Nat):Int)) (Fg (by kernel_rfl) q20 (Dd (s:=a0) (k:=.i64) (m:=((l13_m3:Nat):Int)) (by kernel_rfl) (by kernel_rfl) (Ay _) rfl e24)) ?_;refine rs0 (.bool (decide (122<((x24.toNat:Nat):Int)))) (zg q20) ?_;refine rs0 (.bool (decide (122<((x24.toNat:Nat):Int)))) (zF q20) ?_;refine rz0 (.bool (decide (122<((x24.toNat:Nat):Int)))) ?_;refine rs0 (.str a0) (zg q25) ?_;refine rs0 (ai ((l13_m3:Nat):Int)) (zg q25) ?_;refine rs0 (.int .u8 ((x26.toNat:Nat):Int)) (Fg (by kernel_rfl) q25 (Dd (s:=a0) (k:=.i64) (m:=((l13_m3:Nat):Int)) (by kernel_rfl) (by kernel_rfl) (Ay _) rfl e26)) ?_;refine rs0 (.bool (decide (((x26.toNat:Nat):Int)<48))) (zg q25) ?_;refine rs0 (.bool (decide (((x26.toNat:Nat):Int)<48))) (zg q25) ?_;refine rs0 (.str a0) (zg q27) ?_;refine rs0 (ai ((l13_m3:Nat):Int)) (zg q27) ?_;refine rs0 (.int .u8 ((x28.toNat:Nat):Int)) (Fg (by kernel_rfl) q27 (Dd (s:=a0) (k:=.i64) (m:=((l13_m3:Nat):Int)) (by kernel_rfl) (by kernel_rfl) (Ay _) rfl e28)) ?_;refine rs0 (.bool (decide (57<((x28.toNat:Nat):Int)))) (zg q27) ?_;refine rs0 (.bool (decide (57<((x28.toNat:Nat):Int)))) (Fg (by kernel_rfl) q25 (zF q27)) ?_;refine rs0 (.bool (decide (57<((x28.toNat:Nat):Int)))) (zT q25) ?_;refine Ao (tn_ ?_);obtain rfl:=zj h;exact ⟨_,Ac [],rfl⟩
    have q25_:=of_decide_eq_false q25;refine Aa 28 ?_;refine rz0 (.str a0) ?_;refine rz0 (ai ((l13_m3:Nat):Int)) ?_;refine rs0 (.int .u8 ((x19.toNat:Nat):Int)) (Dd (s:=a0) (k:=.i64) (m:=((l13_m3:Nat):Int)) (by kernel_rfl) (by kernel_rfl) (Ay _) rfl e19) ?_;refine rz0 (.bool (decide (((x19.toNat:Nat):Int)<97))) ?_;refine rz0 (.bool (decide (((x19.toNat:Nat):Int)<97))) ?_;refine rs0 (.str a0) (zg q20) ?_;refine rs0 (ai ((l13_m3:Nat):Int)) (zg q20) ?_;refine rs0 (.int .u8 ((x24.toNat:Nat):Int)) (Fg (by kernel_rfl) q20 (Dd (s:=a0) (k:=.i64) (m:=((l13_m3:Nat):Int)) (by kernel_rfl) (by kernel_rfl) (Ay _) rfl e24)) ?_;refine rs0 (.bool (decide (122<((x24.toNat:Nat):Int)))) (zg q20) ?_;refine rs0 (.bool (decide (122<((x24.toNat:Nat):Int)))) (zF q20) ?_;refine rz0 (.bool (decide (122<((x24.toNat:Nat):Int)))) ?_;refine zs q25 ?_;refine zs q25 ?_;refine zs q25 ?_;refine zs q25 ?_;refine zs q25 ?_;refine rs0 (.tup []) (Wr (by kernel_rfl)) ?_;refine rs0 (.tup []) (Wr (by kernel_rfl)) ?_;refine rs0 (.tup []) (Wr (by kernel_rfl)) ?_;refine rs0 (.tup []) (Wr (by kernel_rfl)) ?_;refine zs q25 ?_;refine rs0 (.bool false) (zF q25) ?_;refine Ao (tn_ ?_);obtain rfl:=zj h;exact ⟨_,Ac [],rfl⟩
   rintro l18_m45 _ rfl h
   (try dsimp only at h);rcases Ad h with ⟨q29,h⟩ | ⟨q29,h⟩
   ·refine Af q29 ?_;refine Ak ?_;refine Ah (br_ (tr_ (tr_ (br_ (tr_ ?_)))));obtain rfl:=zj h;have h:=hn13
    (try dsimp only at h);obtain rfl:=zj h;have h:=hk11
    (try dsimp only at h);obtain rfl:=zj h;exact A0 [.bool false] (Ap rfl zl Ar)
   refine Ae q29 ?_;refine Ai (bn_ (tn_ ?_));refine wr_ ?_;obtain ⟨g31,h⟩:=Av h;refine Aa 5 ?_;refine rz0 (ai ((l13_m3:Nat):Int)) ?_;refine rs0 (ai ((l13_m3+1:Nat):Int)) (za g31) ?_;refine rsB 1 ?_;refine Ao (tn_ ?_);obtain rfl:=zj h;exact ⟨l13_m3+1,_,Ac [],rfl,hn13⟩
  have q16_:=of_decide_eq_false q16;refine Ae q16 ?_;refine A2 (te_ (te_ (be_ (tn_ ?_))));obtain rfl:=zj h;have h:=hn13
  (try dsimp only at h);obtain rfl:=zj h;exact ⟨(),_,rfl,Ac [],rfl⟩
 rintro _ _ rfl h
 (try dsimp only at h);refine Ak ?_;refine Ah ?_;obtain rfl:=zj h;exact A0 [.bool true] (Ap rfl zl Ar)
def Km:AC :=
 (.seq (rg [xo 0 (qm (.cst .nils))])
 (.seq (rg [⟨some 1,none,.mkS 9 .str [.cst (.str ⟨#[105,100]⟩),.cst (.str ⟨#[115,119,97,112]⟩),.cst (.str ⟨#[99,111,112,121]⟩),.cst (.str ⟨#[100,105,115,99,97,114,100]⟩),.cst (.str ⟨#[97,100,100]⟩),.cst (.str ⟨#[122,101,114,111]⟩),.cst (.str ⟨#[115,99,97,108,101]⟩),.cst (.str ⟨#[100,101,108,97,121]⟩),.cst (.str ⟨#[99,111,99,111,112,121]⟩),.cst (.str ⟨#[99,111,100,105,115,99,97,114,100]⟩),.cst (.str ⟨#[99,111,97,100,100]⟩),.cst (.str ⟨#[99,111,122,101,114,111]⟩),.cst (.str ⟨#[99,111,115,99,97,108,101]⟩),.cst (.str ⟨#[99,111,100,101,108,97,121]⟩)]⟩,xo 0 (qm (tm 1))])
 .ret))
def T6:List Res:=[.tmp 0]
theorem Tr:Am Tryd.prog Tryd.f49=some (Km,T6):=by kernel_rfl
theorem Q0:A6 Tryd.prog 49=true:=by kernel_rfl
def Fe  : Option (List ByteArray) :=
 some ([(⟨#[105,100]⟩:ByteArray),(⟨#[115,119,97,112]⟩:ByteArray),(⟨#[99,111,112,121]⟩:ByteArray),(⟨#[100,105,115,99,97,114,100]⟩:ByteArray),(⟨#[97,100,100]⟩:ByteArray),(⟨#[122,101,114,111]⟩:ByteArray),(⟨#[115,99,97,108,101]⟩:ByteArray),(⟨#[100,101,108,97,121]⟩:ByteArray),(⟨#[99,111,99,111,112,121]⟩:ByteArray),(⟨#[99,111,100,105,115,99,97,114,100]⟩:ByteArray),(⟨#[99,111,97,100,100]⟩:ByteArray),(⟨#[99,111,122,101,114,111]⟩:ByteArray),(⟨#[99,111,115,99,97,108,101]⟩:ByteArray),(⟨#[99,111,100,101,108,97,121]⟩:ByteArray)])
def Rp (r:List ByteArray):RV:=⟨false,[(false,[.new 9 .str r])]⟩
theorem Q2 {r:List ByteArray} (h:Fe=some r):Ax Tryd.prog Tab 49 [] (Rp r):=by
 refine As (by kernel_rfl) Tryd.func49 Tr (n:=2) (by kernel_rfl) (by simp) (tl:=[]) rfl ?_;unfold Km;unfold Fe at h;refine Ak ?_;refine Ak ?_;refine Ah ?_;obtain rfl:=zj h;exact A0 [.own (oi 1 2) .str 0 14] (Ap rfl (Ez (by kernel_rfl) rfl) Ar)
def L4:AC :=
 (.seq (rg [xo 10 (qb .lss (tm 9) (tm 8))])
 (.seq (.cond (tm 10)
  .skip
  (.exit 0))
 (.seq (.block 1 (.seq (rg [xo 11 (qx 1 (tm 7) (tm 9)),xo 12 (ql (tm 11)),xo 6 (qm (tm 12))])
 (.seq (rg [xo 13 (qm (tm 6)),xo 14 (qm (tm 1)),xo 15 (qb .eql (tm 13) (tm 14))])
 (.cond (tm 15)
  (.seq (rg [xo 4 (qm (cb true))])
  .ret)
  .skip))))
 (rg [xo 16 (qb .add (tm 9) (ci 1)),xo 9 (qm (tm 16))]))))
def P6:AC :=
 (.seq (rg [xo 4 (qm (cb false))])
 (.seq (.seq (rg [xo 7 (qm (tm 0)),xo 8 (.i (.len (tm 7))),xo 9 (qm (ci 0))])
 (.block 0 (.loop L4)))
 (.seq (rg [xo 4 (qm (cb false))])
 .ret)))
def Aao:List Res:=[.tmp 4]
theorem Aa5:Am Tryd.prog Tryd.f48=some (P6,Aao):=by kernel_rfl
theorem Yu:A6 Tryd.prog 48=true:=by kernel_rfl
def Cc (a0:List ByteArray) (a1:ByteArray) (l4_m9:Nat):Option (Ctl Nat (Ctl Unit Bool)) :=
 cond (decide (((l4_m9:Nat):Int)<((a0.length:Nat):Int)))
 (Option.bind (a0[l4_m9]?) fun x10 =>
 cond (x10.toList==a1.toList)
  (some (Ctl.out (Ctl.out true)))
  (og (l4_m9+1<4611686018427387904) <|
  some (Ctl.next (l4_m9+1))))
 (some (Ctl.out (Ctl.next ())))
def Gu (a0:List ByteArray) (a1:ByteArray):Option Bool :=
 Dt (A4 (fun s_:Nat=>Cc a0 a1 s_) 4611686018427387904 0) fun _ =>
some false
def Za (r:Bool):RV:=⟨false,[(false,[.sc (.bool r)])]⟩
theorem Xn {a0:List ByteArray} {a1:ByteArray} {r:Bool} (h:Gu a0 a1=some r):Ax Tryd.prog Tab 48 [.tree .str a0,.str a1] (Za r):=by
 refine As (by kernel_rfl) Tryd.func48 Aa5 (n:=17) (by kernel_rfl) (by simp) (tl:=[(0,.tree .str a0),(1,.str a1)]) rfl ?_;unfold P6;unfold Gu at h;refine Ak ?_;refine Bl h (fun (_:Unit) S_=>S_=⟨An [],Aj (Aq []),2⟩) ?_ ?_
 ·intro v_ h hk2;refine Ak ?_;refine Al ?_;refine A5 h (fun (l4_m9:Nat) S_=>S_=⟨An [(1,.str a1),(7,.tree .str a0),(8,ai ((a0.length:Nat):Int)),(9,ai ((l4_m9:Nat):Int))],Aj (Aq []),2⟩) ⟨_,Ac [],rfl⟩ ?_;rintro n_ l4_m9 _ c_ rfl h hn4
  (try dsimp only at h);unfold Cc at h;unfold L4;refine Ak ?_;refine Ab ?_;rcases Ad h with ⟨q7,h⟩ | ⟨q7,h⟩
  ·have q7_:=of_decide_eq_true q7;refine Af q7 ?_;refine Ai (tn_ ?_);refine wr_ ?_;refine Ab ?_;refine Al ?_;refine Ab ?_;obtain ⟨x10,e10,h⟩:=Ag h;refine Aa 6 ?_;refine rs0 (.telt .str x10 0) (zi (t:=.str) (xs:=a0) (k:=.i64) (m:=((l4_m9:Nat):Int)) (Ay _) e10) ?_;refine rsB 2 ?_;refine Ao (tn_ ?_);refine wr_ ?_;refine Ak ?_;rcases Ad h with ⟨q12,h⟩ | ⟨q12,h⟩
   ·refine Af q12 ?_;refine Ak ?_;refine Ah (br_ (tr_ (tr_ (br_ (tr_ ?_)))));obtain rfl:=zj h;have h:=hn4
    (try dsimp only at h);obtain rfl:=zj h;have h:=hk2
    (try dsimp only at h);obtain rfl:=zj h;exact A0 [.bool true] (Ap rfl zl Ar)
   refine Ae q12 ?_;refine Ai (bn_ (tn_ ?_));refine wr_ ?_;obtain ⟨g14,h⟩:=Av h;refine Aa 11 ?_;refine rs0 (ai ((l4_m9+1:Nat):Int)) (za g14) ?_;refine rsB 1 ?_;refine Ao (tn_ ?_);obtain rfl:=zj h;exact ⟨l4_m9+1,_,Ac [],rfl,hn4⟩
  have q7_:=of_decide_eq_false q7;refine Ae q7 ?_;refine A2 (te_ (te_ (be_ (tn_ ?_))));obtain rfl:=zj h;have h:=hn4
  (try dsimp only at h);obtain rfl:=zj h;exact ⟨(),_,rfl,Ac [],rfl⟩
 rintro _ _ rfl h
 (try dsimp only at h);refine Ak ?_;refine Ah ?_;obtain rfl:=zj h;exact A0 [.bool false] (Ap rfl zl Ar)
def Qd:AC :=
 (.seq (rg [xo 2 (qm (cb false))])
 (.seq (rg [xo 3 (qm (tm 0)),xo 4 (qc 47 [tm 3] [[]]),xo 5 (qm (tm 4)),⟨some 6,some (5,true),qc 49 [] []⟩,⟨some 7,some (5,true),qm (tm 0)⟩,⟨some 8,some (5,true),qc 48 [tm 6,tm 7] [[some .str],[]]⟩,⟨some 9,some (5,true),.i (.not (tm 8))⟩,xo 10 (.i (.pick (tm 5) (tm 9) (cb false))),xo 2 (qm (tm 10))])
 .ret))
def Ab8:List Res:=[.tmp 2]
theorem Aco:Am Tryd.prog Tryd.f28=some (Qd,Ab8):=by kernel_rfl
theorem D1:A6 Tryd.prog 28=true:=by kernel_rfl
def Gp (a0:ByteArray):Option Bool :=
 Option.bind (Option.bind (H3 a0) fun y3 =>
 cond y3
  (Option.bind (Fe) fun y5 =>
  Option.bind (Gu y5 a0) fun y6 =>
  some (!y6))
  (some false)) fun l2_m2 =>
some l2_m2
def Zu (r:Bool):RV:=⟨false,[(false,[.sc (.bool r)])]⟩
theorem D0 {a0:ByteArray} {r:Bool} (h:Gp a0=some r):Ax Tryd.prog Tab 28 [.str a0] (Zu r):=by
 refine As (by kernel_rfl) Tryd.func28 Aco (n:=11) (by kernel_rfl) (by simp) (tl:=[(0,.str a0)]) rfl ?_;unfold Qd;unfold Gp at h;refine Ak ?_;refine Aw h (fun (l2_m2:Bool) S_=>S_=⟨An [(2,.bool l2_m2)],Aj (Aq []),2⟩) ?_ ?_
 ·intro v_ h;obtain ⟨y3,h3,h⟩:=Ag h;rcases Ad h with ⟨q4,h⟩ | ⟨q4,h⟩
  ·obtain ⟨y5,h5,h⟩:=Ag h;obtain ⟨y6,h6,h⟩:=Ag h;refine Aa 11 ?_;refine rz0 (.str a0) ?_;refine zc (.bool y3) [] [.str a0] (Oi h3) ?_;refine rz0 (.bool y3) ?_;refine Bz (.own (oi 96 5) .str 0 y5.length) [(oi 96 5,some (.arr 9 .str y5))] [] _ (caps:=[]) (args0:=[]) (Bg (by kernel_rfl) q4) (by kernel_rfl) (Q2 h5) Q0 ?_;refine rs0 (.str a0) (zg q4) ?_;refine Bz (.bool y6) [] [.own (oi 96 5) .str 0 y5.length,.str a0] _ (caps:=[]) (args0:=[.tree .str y5,.str a0]) (Bg (by kernel_rfl) q4) (Sb (Adu (e:=9) (by kernel_rfl) rfl) (Sb (by kernel_rfl) Ahr)) (Xn h6) Yu ?_;refine rs0 (.bool (!y6)) (zg q4) ?_;refine rs0 (.bool (!y6)) (zT q4) ?_;refine rsB 1 ?_;refine Ao (tn_ ?_);obtain rfl:=zj h;exact ⟨_,Ac [],rfl⟩
  refine Aa 11 ?_;refine rz0 (.str a0) ?_;refine zc (.bool y3) [] [.str a0] (Oi h3) ?_;refine rz0 (.bool y3) ?_;refine zs q4 ?_;refine zs q4 ?_;refine zs q4 ?_;refine zs q4 ?_;refine rs0 (.bool false) (zF q4) ?_;refine rsB 1 ?_;refine Ao (tn_ ?_);obtain rfl:=zj h;exact ⟨_,Ac [],rfl⟩
 rintro l2_m2 _ rfl h
 (try dsimp only at h);refine Ah ?_;obtain rfl:=zj h;exact A0 [.bool l2_m2] (Ap rfl zl Ar)
end
section
open Go.RowKit Go.Deep
set_option maxRecDepth 4000
def Me:AC :=
 (.seq (rg [xo 1 (.i (.box 66 (tm 0))),xo 2 (qm (cb false))])
 (.seq (rg [xo 3 (qf 0 (tm 1)),xo 4 (ql (tm 3)),xo 5 (qb .leq (tm 4) (ci 12)),xo 6 (qm (tm 5)),⟨some 7,some (6,true),qf 1 (tm 1)⟩,⟨some 8,some (6,true),ql (tm 7)⟩,⟨some 9,some (6,true),qb .leq (tm 8) (ci 12)⟩,xo 10 (.i (.pick (tm 6) (tm 9) (cb false))),xo 2 (qm (tm 10))])
 .ret))
def U3:List Res:=[.tmp 2]
theorem Uq:Am Tryd.prog Tryd.f92=some (Me,U3):=by kernel_rfl
theorem So:A6 Tryd.prog 92=true:=by kernel_rfl
def F7 (a0_0:Int) (a0_1:Int):Option Bool :=
 Option.bind (cond (decide (a0_0<=12))
  (some (decide (a0_1<=12)))
  (some false)) fun l2_m2 =>
some l2_m2
def T7 (r:Bool):RV:=⟨false,[(false,[.sc (.bool r)])]⟩
theorem Ti {a0_0:Int} {a0_1:Int} {r:Bool} (h:F7 a0_0 a0_1=some r):Ax Tryd.prog Tab 92 [.agg [ai a0_0,ai a0_1]] (T7 r):=by
 refine As (by kernel_rfl) Tryd.func92 Uq (n:=11) (by kernel_rfl) (by simp) (tl:=[(0,.agg [ai a0_0,ai a0_1])]) rfl ?_;unfold Me;unfold F7 at h;refine Ak ?_;refine Aw h (fun (l2_m2:Bool) S_=>S_=⟨An [(2,.bool l2_m2)],Aj (Aq []),2⟩) ?_ ?_
 ·intro v_ h;rcases Ad h with ⟨q3,h⟩ | ⟨q3,h⟩
  ·have q3_:=of_decide_eq_true q3;refine Aa 12 ?_;refine rz0 (.box (oi 1 1) 0) ?_;refine rzl (ai a0_0) ?_;refine rz0 (.bool (decide (a0_0<=12))) ?_;refine rz0 (.bool (decide (a0_0<=12))) ?_;refine rs0 (.box (oi 1 1) 1) (zg q3) ?_;refine rsl (ai a0_1) (zg q3) ?_;refine rs0 (.bool (decide (a0_1<=12))) (zg q3) ?_;refine rs0 (.bool (decide (a0_1<=12))) (zT q3) ?_;refine rsB 1 ?_;refine Ao (tn_ ?_);obtain rfl:=zj h;exact ⟨_,Ac [],rfl⟩
  have q3_:=of_decide_eq_false q3;refine Aa 12 ?_;refine rz0 (.box (oi 1 1) 0) ?_;refine rzl (ai a0_0) ?_;refine rz0 (.bool (decide (a0_0<=12))) ?_;refine rz0 (.bool (decide (a0_0<=12))) ?_;refine zs q3 ?_;refine zs q3 ?_;refine zs q3 ?_;refine rs0 (.bool false) (zF q3) ?_;refine rsB 1 ?_;refine Ao (tn_ ?_);obtain rfl:=zj h;exact ⟨_,Ac [],rfl⟩
 rintro l2_m2 _ rfl h
 (try dsimp only at h);refine Ah ?_;obtain rfl:=zj h;exact A0 [.bool l2_m2] (Ap rfl zl Ar)
def Mb:AC :=
 (.seq (rg [xo 4 (.i (.box 66 (tm 1))),xo 5 (.i (.box 66 (tm 2))),xo 6 (.i (.alloc 66 [.int .i64 0,.int .i64 0])),xo 7 (qm (cb false))])
 (.seq (.seq (rg [xo 9 (qm (tm 0)),xo 10 (qb .eql (tm 9) (ci 15))])
 (.cond (tm 10)
  (.seq (.region [xo 11 (qf 0 (tm 4)),xo 12 (ql (tm 11)),xo 13 (qf 1 (tm 5)),xo 14 (ql (tm 13)),xo 15 (.build [.int .i64 0,.int .i64 0] [(0,1,tm 12),(1,1,tm 14)]),xo 16 (qf 1 (tm 4)),xo 17 (ql (tm 16)),xo 18 (qf 0 (tm 5)),xo 19 (ql (tm 18)),xo 20 (qb .eql (tm 17) (tm 19)),xn (.st false 2 (tm 6) (tm 15)),xo 7 (qm (tm 20))] true [(6,10),(8,10)])
  .ret)
  .skip))
 (.seq (rg [xo 21 (qf 0 (tm 4)),xo 22 (ql (tm 21)),xo 23 (qf 0 (tm 5)),xo 24 (ql (tm 23)),xo 25 (qb .add (tm 22) (tm 24)),xo 26 (qf 1 (tm 4)),xo 27 (ql (tm 26)),xo 28 (qf 1 (tm 5)),xo 29 (ql (tm 28)),xo 30 (qb .add (tm 27) (tm 29)),xo 31 (.build [.int .i64 0,.int .i64 0] [(0,1,tm 25),(1,1,tm 30)]),xo 8 (.i (.alloc 66 [.int .i64 0,.int .i64 0])),xn (.st false 2 (tm 8) (tm 31))])
 (.seq (.region [xo 32 (.i (.ld false 2 (tm 8))),xo 33 (.i (.ld false 2 (tm 8))),xo 34 (qc 92 [tm 33] [[none,none]]),xn (.st false 2 (tm 6) (tm 32)),xo 7 (qm (tm 34))] true [(0,2)])
 .ret))))
def Um:List Res:=[.cell 6 false 2,.tmp 7]
theorem U5:Am Tryd.prog Tryd.f77=some (Mb,Um):=by kernel_rfl
theorem S6:A6 Tryd.prog 77=true:=by kernel_rfl
def Dz (a0:Int) (a1_0:Int) (a1_1:Int) (a2_0:Int) (a2_1:Int):Option (Int×Int×Bool) :=
 cond (a0==15)
 (some (a1_0,a2_1,a1_1==a2_0))
 (Option.bind (F7 (wI (a1_0+a2_0)) (wI (a1_1+a2_1))) fun y8 =>
 some (wI (a1_0+a2_0),wI (a1_1+a2_1),y8))
def R9 (r:Int×Int×Bool):RV:=⟨true,[(true,[.sc (.int .i64 r.1),.sc (.int .i64 r.2.1)]),(false,[.sc (.bool r.2.2)])]⟩
theorem Sx {a0:Int} {a1_0:Int} {a1_1:Int} {a2_0:Int} {a2_1:Int} {r:Int×Int×Bool} (h:Dz a0 a1_0 a1_1 a2_0 a2_1=some r):Ax Tryd.prog Tab 77 [ai a0,.agg [ai a1_0,ai a1_1],.agg [ai a2_0,ai a2_1]] (R9 r):=by
 refine As (by kernel_rfl) Tryd.func77 U5 (n:=35) (by kernel_rfl) (by simp) (tl:=[(0,ai a0),(1,.agg [ai a1_0,ai a1_1]),(2,.agg [ai a2_0,ai a2_1])]) rfl ?_;unfold Mb;unfold Dz at h;refine Ak ?_;refine Ab ?_;refine Ak ?_;rcases Ad h with ⟨q4,h⟩ | ⟨q4,h⟩
 ·refine Af q4 ?_;refine Ab ?_;refine A1 19 ?_;refine dsB 12 ?_;refine G0 (Be (by kernel_rfl)) (tn_ ?_);refine wr_ ?_;refine Ah (tr_ ?_);obtain rfl:=zj h;exact A0 [.agg [ai a1_0,ai a2_1],.bool (a1_1==a2_0)] (Fq (Bf zl (Bf zl Fp)) (Ap rfl zl Ar))
 refine Ae q4 ?_;refine Ai (tn_ ?_);refine wr_ ?_;refine Ak ?_;refine Ab ?_;obtain ⟨y8,h8,h⟩:=Ag h;refine A1 25 ?_;refine dzl (.agg [ai (wI (a1_0+a2_0)),ai (wI (a1_1+a2_1))]) ?_;refine dzl (.agg [ai (wI (a1_0+a2_0)),ai (wI (a1_1+a2_1))]) ?_;refine Eg (.bool y8) [] [.agg [ai (wI (a1_0+a2_0)),ai (wI (a1_1+a2_1))]] _ (caps:=[]) (args0:=[.agg [ai (wI (a1_0+a2_0)),ai (wI (a1_1+a2_1))]]) trivial (by kernel_rfl) (Ti h8) So ?_;refine Zw (oi 6 3) (oi 6 3) (.cells 66 [ai (wI (a1_0+a2_0)),ai (wI (a1_1+a2_1))]) (by kernel_rfl) ?_;refine dz0 (.bool y8) ?_;refine G0 (Be (by kernel_rfl)) (tn_ ?_);refine wr_ ?_;refine Ah ?_;obtain rfl:=zj h;exact A0 [.agg [ai (wI (a1_0+a2_0)),ai (wI (a1_1+a2_1))],.bool y8] (Fq (Bf zl (Bf zl Fp)) (Ap rfl zl Ar))
def My:AC :=
 (.seq (rg [xo 23 (qb .lss (tm 22) (tm 21))])
 (.seq (.cond (tm 23)
  .skip
  (.exit 0))
 (.seq (.block 1 (.seq (rg [xo 24 (qx 3 (tm 20) (tm 22)),xo 25 (.i (.ld false 3 (tm 24))),⟨some 8,none,.i (.alloc 87 [.int .i64 0,.int .i64 0,.str ⟨#[]⟩])⟩,xn (.st false 3 (tm 8) (tm 25))])
 (.seq (.seq (rg [xo 26 (qf 0 (tm 8)),xo 27 (ql (tm 26)),xo 28 (qb .neq (tm 27) (ci 15)),xo 29 (qm (tm 28)),⟨some 30,some (29,true),qf 0 (tm 8)⟩,⟨some 31,some (29,true),ql (tm 30)⟩,⟨some 32,some (29,true),qb .neq (tm 31) (ci 16)⟩,xo 33 (.i (.pick (tm 29) (tm 32) (cb false)))])
 (.cond (tm 33)
  (.seq (rg [xo 35 (qm (tm 1)),xo 36 (.i (.ld false 3 (tm 8))),xo 37 (.call (tm 35) [tm 36] [[none,none,none]]),xo 34 (qm (tm 37)),xo 38 (.i (.extr 0 (tm 34))),xo 39 (.i (.extr 1 (tm 34))),xo 9 (.i (.alloc 66 [.int .i64 0,.int .i64 0])),xn (.st false 2 (tm 9) (tm 38)),xo 10 (qm (tm 39))])
  (.seq (.seq (rg [xo 40 (qm (tm 10)),xo 41 (.i (.not (tm 40)))])
  (.cond (tm 41)
   (.seq (rg [xo 42 (.build [.int .i64 0,.int .i64 0] []),xn (.st false 2 (tm 4) (tm 42)),xo 5 (qm (cb false))])
   .ret)
   .skip))
  (.seq (rg [xo 43 (qm (tm 6)),xo 44 (.i (.ld false 2 (tm 9))),xo 45 (.mkS 66 (.pair .int .int) [tm 44]),xo 46 (.append 66 (.pair .int .int) 16 (tm 43) (tm 45)),xo 6 (qm (tm 46))])
  (.exit 1))))
  .skip))
 (.seq (.seq (rg [xo 47 (qf 1 (tm 8)),xo 48 (ql (tm 47)),xo 49 (qb .neq (tm 48) (ci 0)),xo 50 (qm (tm 49)),⟨some 51,some (50,false),qf 2 (tm 8)⟩,⟨some 52,some (50,false),ql (tm 51)⟩,⟨some 53,some (50,false),.i (.bin .neq (tm 52) (.cst (.str ⟨#[]⟩)))⟩,xo 54 (.i (.pick (tm 50) (cb true) (tm 53))),xo 55 (qm (tm 54)),⟨some 56,some (55,false),qm (tm 6)⟩,⟨some 57,some (55,false),.i (.len (tm 56))⟩,⟨some 58,some (55,false),qb .lss (tm 57) (ci 2)⟩,xo 59 (.i (.pick (tm 55) (cb true) (tm 58)))])
 (.cond (tm 59)
  (.seq (rg [xo 60 (.build [.int .i64 0,.int .i64 0] []),xn (.st false 2 (tm 4) (tm 60)),xo 5 (qm (cb false))])
  .ret)
  .skip))
 (.seq (rg [xo 61 (qm (tm 6)),xo 62 (.i (.len (tm 61))),xo 63 (qb .sub (tm 62) (ci 1)),xo 11 (qm (tm 63))])
 (.seq (.region [xo 65 (qf 0 (tm 8)),xo 66 (ql (tm 65)),xo 67 (qm (tm 6)),xo 68 (qm (tm 11)),xo 69 (qb .sub (tm 68) (ci 1)),xo 70 (qx 2 (tm 67) (tm 69)),xo 71 (.i (.ld false 2 (tm 70))),xo 72 (qm (tm 6)),xo 73 (qm (tm 11)),xo 74 (qx 2 (tm 72) (tm 73)),xo 75 (.i (.ld false 2 (tm 74))),xo 76 (qc 77 [tm 66,tm 71,tm 75] [[],[none,none],[none,none]]),xo 64 (qm (tm 76)),xo 77 (.i (.extr 0 (tm 64))),xo 78 (.i (.extr 1 (tm 64))),xo 12 (.i (.alloc 66 [.int .i64 0,.int .i64 0])),xn (.st false 2 (tm 12) (tm 77)),xo 13 (qm (tm 78))] true [(11,15)])
 (.seq (.seq (rg [xo 79 (qm (tm 13)),xo 80 (.i (.not (tm 79)))])
 (.cond (tm 80)
  (.seq (rg [xo 81 (.build [.int .i64 0,.int .i64 0] []),xn (.st false 2 (tm 4) (tm 81)),xo 5 (qm (cb false))])
  .ret)
  .skip))
 (.region [xo 82 (qm (tm 6)),xo 83 (qm (tm 11)),xo 84 (qb .sub (tm 83) (ci 1)),xo 85 (.slice 2 (tm 82) none (some (tm 84)) none),xo 86 (.i (.ld false 2 (tm 12))),xo 87 (.mkS 66 (.pair .int .int) [tm 86]),xo 88 (.append 66 (.pair .int .int) 16 (tm 85) (tm 87)),xo 6 (qm (tm 88))] true []))))))))
 (rg [xo 89 (qb .add (tm 22) (ci 1)),xo 22 (qm (tm 89))]))))
def Tx:AC :=
 (.seq (rg [xo 4 (.i (.alloc 66 [.int .i64 0,.int .i64 0])),xo 5 (qm (cb false))])
 (.seq (.seq (rg [xo 14 (qm (tm 0)),xo 15 (.i (.len (tm 14))),xo 16 (qc 55 [tm 15,ci 1,ci 400] [[],[],[]]),xo 17 (.i (.not (tm 16)))])
 (.cond (tm 17)
  (.seq (rg [xo 18 (.build [.int .i64 0,.int .i64 0] []),xn (.st false 2 (tm 4) (tm 18)),xo 5 (qm (cb false))])
  .ret)
  .skip))
 (.seq (rg [xo 19 (.mkS 66 (.pair .int .int) []),xo 6 (qm (tm 19))])
 (.seq (.seq (rg [xo 20 (qm (tm 0)),xo 21 (.i (.len (tm 20))),xo 22 (qm (ci 0))])
 (.block 0 (.loop My)))
 (.seq (rg [xo 90 (qm (tm 6)),xo 91 (qx 2 (tm 90) (ci 0)),xo 92 (.i (.ld false 2 (tm 91))),xo 93 (qm (tm 6)),xo 94 (.i (.len (tm 93))),xo 95 (qb .eql (tm 94) (ci 1)),xn (.st false 2 (tm 4) (tm 92)),xo 5 (qm (tm 95))])
 .ret)))))
def Aeh:List Res:=[.cell 4 false 2,.tmp 5]
theorem Ad1:Am Tryd.prog Tryd.f63=some (Tx,Aeh):=by kernel_rfl
def Bi (a0:List (Int×Int×ByteArray)) (l10_m22:Nat) (l10_m6:List (Int×Int)):Option (Ctl (Nat×(List (Int×Int))) (Ctl (List (Int×Int)) (Int×Int×Bool))) :=
 cond (decide (((l10_m22:Nat):Int)<((a0.length:Nat):Int)))
 (Dt (Option.bind (a0[l10_m22]?) fun x16 =>
  Option.bind (cond (x16.1 !=15)
    (some (x16.1 !=16))
    (some false)) fun l18_m33 =>
  cond l18_m33
   (Option.bind (D7 x16.1 x16.2.1 x16.2.2) fun y22 =>
   cond (!y22.2.2)
    (some (Ctl.out (Ctl.out (Ctl.out (0,0,false)))))
    (og (l10_m6.length+1<=1073741824∧(l10_m6.length+1)*16<=140737488355328) <|
    some (Ctl.next (l10_m6++([(y22.1,y22.2.1)])))))
   (Option.bind (cond (x16.2.1 !=0)
     (some true)
     (cond (!(x16.2.2.toList==(⟨#[]⟩:ByteArray).toList))
      (some true)
      (some (decide (((l10_m6.length:Nat):Int)<2))))) fun l30_m59 =>
   cond l30_m59
    (some (Ctl.out (Ctl.out (Ctl.out (0,0,false)))))
    (Option.bind (Fa l10_m6 (wI ((wI (((l10_m6.length:Nat):Int) - 1)) - 1))) fun x37 =>
    Option.bind (Fa l10_m6 (wI ((wI (((l10_m6.length:Nat):Int) - 1)) - 1))) fun x38 =>
    Option.bind (Fa l10_m6 (wI (((l10_m6.length:Nat):Int) - 1))) fun x39 =>
    Option.bind (Fa l10_m6 (wI (((l10_m6.length:Nat):Int) - 1))) fun x40 =>
    Option.bind (Dz x16.1 x38.1 x38.2 x40.1 x40.2) fun y41 =>
    cond (!y41.2.2)
     (some (Ctl.out (Ctl.out (Ctl.out (0,0,false)))))
     (og ((0:Int)<=0∧0<=wI ((wI (((l10_m6.length:Nat):Int) - 1)) - 1)∧wI ((wI (((l10_m6.length:Nat):Int) - 1)) - 1)<=((l10_m6.length:Nat):Int)) <|
     og (((l10_m6.take ((wI ((wI (((l10_m6.length:Nat):Int) - 1)) - 1)).toNat)).length)+1<=1073741824∧(((l10_m6.take ((wI ((wI (((l10_m6.length:Nat):Int) - 1)) - 1)).toNat)).length)+1)*16<=140737488355328) <|
     some (Ctl.next ((l10_m6.take ((wI ((wI (((l10_m6.length:Nat):Int) - 1)) - 1)).toNat))++([(y41.1,y41.2.1)]))))))) fun l14_m6 =>
 og (l10_m22+1<4611686018427387904) <|
 some (Ctl.next (l10_m22+1,l14_m6)))
 (some (Ctl.out (Ctl.next l10_m6)))
def Br (a0:List (Int×Int×ByteArray)):Option (Int×Int×Bool) :=
 Option.bind (Bv ((a0.length:Nat):Int) 1 400) fun y4 =>
cond (!y4)
 (some (0,0,false))
 (Dt (A4 (fun s_:Nat×(List (Int×Int))=>Bi a0 s_.1 s_.2) 4611686018427387904 (0,[])) fun l8_m6 =>
 Option.bind (l8_m6[0]?) fun x50 =>
 some (x50.1,x50.2,((l8_m6.length:Nat):Int)==1))
def Ho (r:Int×Int×Bool):RV:=⟨true,[(true,[.sc (.int .i64 r.1),.sc (.int .i64 r.2.1)]),(false,[.sc (.bool r.2.2)])]⟩
set_option maxHeartbeats 1600000 in
theorem Hn {a0:List (Int×Int×ByteArray)} {r:Int×Int×Bool} (h:Br a0=some r):Ax Tryd.prog Tab 63 [.tree (.pair .int (.pair .int .str)) a0,.fn 64 []] (Ho r):=by
 refine As (by kernel_rfl) Tryd.func63 Ad1 (n:=96) (by kernel_rfl) (by simp) (tl:=[(0,.tree (.pair .int (.pair .int .str)) a0),(1,.fn 64 [])]) rfl ?_;unfold Tx;unfold Br at h;refine Ak ?_;refine Ab ?_;refine Ab ?_;obtain ⟨y4,h4,h⟩:=Ag h;refine Aa 7 ?_;refine rz0 (.tree (.pair .int (.pair .int .str)) a0) ?_;refine rz0 (ai ((a0.length:Nat):Int)) ?_;refine zc (.bool y4) [] [ai ((a0.length:Nat):Int),ai 1,ai 400] (Bo h4) ?_;refine rsB 1 ?_;refine Ao (tn_ ?_);refine wr_ ?_;rcases Ad h with ⟨q5,h⟩ | ⟨q5,h⟩
 ·refine Af q5 ?_;refine Ak ?_;refine Ah (tr_ ?_);obtain rfl:=zj h;exact A0 [.agg [ai 0,ai 0],.bool false] (Fq (Bf zl (Bf zl Fp)) (Ap rfl zl Ar))
 refine Ae q5 ?_;refine Ai (tn_ ?_);refine wr_ ?_;refine Ak ?_;refine Bl h (fun (l8_m6:List (Int×Int)) S_=>S_=⟨An [(4,.box (oi 0 1) 0),(6,.own (oi 1 1) (.pair .int .int) 0 l8_m6.length)],Aj (Aq [(oi 0 1,.cells 66 [ai 0,ai 0]),(oi 1 1,.arr 66 (.pair .int .int) l8_m6)]),2⟩) ?_ ?_
 ·intro v_ h hk8;refine Ak ?_;refine Al ?_;refine A5 h (fun t_ S_=>∃ (l10_m22:Nat),∃ (l10_m6:List (Int×Int)),t_=(l10_m22,l10_m6)∧S_=⟨An [(1,.fn 64 []),(4,.box (oi 0 1) 0),(6,.own (oi 1 1) (.pair .int .int) 0 l10_m6.length),(20,.tree (.pair .int (.pair .int .str)) a0),(21,ai ((a0.length:Nat):Int)),(22,ai ((l10_m22:Nat):Int))],Aj (Aq [(oi 0 1,.cells 66 [ai 0,ai 0]),(oi 1 1,.arr 66 (.pair .int .int) l10_m6)]),2⟩) ⟨_,Ac [(oi 0 1,oi 4 1),(oi 1 1,oi 19 7)],⟨0,[],rfl,rfl⟩⟩ ?_;rintro n_ _ _ c_ ⟨l10_m22,l10_m6,rfl,rfl⟩ h hn10
  (try dsimp only at h);unfold Bi at h;unfold My;refine Ak ?_;refine Ab ?_;rcases Ad h with ⟨q13,h⟩ | ⟨q13,h⟩
  ·have q13_:=of_decide_eq_true q13;refine Af q13 ?_;refine Ai (tn_ ?_);refine wr_ ?_;refine Bl h (fun (l14_m6:List (Int×Int)) S_=>S_=⟨An [(1,.fn 64 []),(4,.box (oi 0 1) 0),(6,.own (oi 1 1) (.pair .int .int) 0 l14_m6.length),(20,.tree (.pair .int (.pair .int .str)) a0),(21,ai ((a0.length:Nat):Int)),(22,ai ((l10_m22:Nat):Int))],Aj (Aq [(oi 0 1,.cells 66 [ai 0,ai 0]),(oi 1 1,.arr 66 (.pair .int .int) l14_m6)]),2⟩) ?_ ?_
   ·intro v_ h hk14;refine Al ?_;refine Ab ?_;obtain ⟨x16,e16,h⟩:=Ag h;refine Aa 7 ?_;refine rs0 (.telt (.pair .int (.pair .int .str)) x16 0) (zi (t:=.pair .int (.pair .int .str)) (xs:=a0) (k:=.i64) (m:=((l10_m22:Nat):Int)) (Ay _) e16) ?_;refine rsB 3 ?_;refine Ao (tn_ ?_);refine wr_ ?_;refine Ab ?_;refine Aw h (fun (l18_m33:Bool) S_=>S_=⟨An [(1,.fn 64 []),(4,.box (oi 0 1) 0),(6,.own (oi 1 1) (.pair .int .int) 0 l10_m6.length),(8,.box (oi 2 1) 0),(20,.tree (.pair .int (.pair .int .str)) a0),(21,ai ((a0.length:Nat):Int)),(22,ai ((l10_m22:Nat):Int)),(33,.bool l18_m33)],Aj (Aq [(oi 0 1,.cells 66 [ai 0,ai 0]),(oi 1 1,.arr 66 (.pair .int .int) l10_m6),(oi 2 1,.cells 87 [ai x16.1,ai x16.2.1,.str x16.2.2])]),2⟩) ?_ ?_
    ·intro v_ h;rcases Ad h with ⟨q19,h⟩ | ⟨q19,h⟩
     ·refine Aa 15 ?_;refine rz0 (.box (oi 8 5) 0) ?_;refine rzl (ai x16.1) ?_;refine rz0 (.bool (x16.1 !=15)) ?_;refine rz0 (.bool (x16.1 !=15)) ?_;refine rs0 (.box (oi 8 5) 0) (zg q19) ?_;refine rsl (ai x16.1) (zg q19) ?_;refine rs0 (.bool (x16.1 !=16)) (zg q19) ?_;refine rs0 (.bool (x16.1 !=16)) (zT q19) ?_;refine Ao (tn_ ?_);obtain rfl:=zj h;exact ⟨_,Ac [(oi 2 1,oi 8 5)],rfl⟩
     refine Aa 15 ?_;refine rz0 (.box (oi 8 5) 0) ?_;refine rzl (ai x16.1) ?_;refine rz0 (.bool (x16.1 !=15)) ?_;refine rz0 (.bool (x16.1 !=15)) ?_;refine zs q19 ?_;refine zs q19 ?_;refine zs q19 ?_;refine rs0 (.bool false) (zF q19) ?_;refine Ao (tn_ ?_);obtain rfl:=zj h;exact ⟨_,Ac [(oi 2 1,oi 8 5)],rfl⟩
    rintro l18_m33 _ rfl h
    (try dsimp only at h);rcases Ad h with ⟨q20,h⟩ | ⟨q20,h⟩
    ·refine Af q20 ?_;refine Ab ?_;obtain ⟨y22,h22,h⟩:=Ag h;refine Aa 11 ?_;refine rz0 (.fn 64 []) ?_;refine rzl (.agg [ai x16.1,ai x16.2.1,.str x16.2.2]) ?_;refine zc (.tup [.agg [ai y22.1,ai y22.2.1],.bool y22.2.2]) [] [.agg [ai x16.1,ai x16.2.1,.str x16.2.2]] (S4 h22) ?_;refine rsB 6 ?_;refine Ao (tn_ ?_);refine wr_ ?_;refine Ab ?_;refine Ak ?_;rcases Ad h with ⟨q25,h⟩ | ⟨q25,h⟩
     ·refine Af q25 ?_;refine Ak ?_;refine Ah (tr_ (tr_ (br_ (tr_ (tr_ (br_ (tr_ ?_)))))));obtain rfl:=zj h;have h:=hk14
      (try dsimp only at h);obtain rfl:=zj h;have h:=hn10
      (try dsimp only at h);obtain rfl:=zj h;have h:=hk8
      (try dsimp only at h);obtain rfl:=zj h;exact A0 [.agg [ai 0,ai 0],.bool false] (Fq (Bf zl (Bf zl Fp)) (Ap rfl zl Ar))
     refine Ae q25 ?_;refine Ai (tn_ ?_);refine wr_ ?_;refine Ab ?_;obtain ⟨g28,h⟩:=Av h;refine Aa 18 ?_;refine rz0 (.own (oi 1 1) (.pair .int .int) 0 l10_m6.length) ?_;refine rzl (.agg [ai y22.1,ai y22.2.1]) ?_;refine rs1 (.own (oi 45 15) (.pair .int .int) 0 1) (oi 45 15) (.arr 66 (.pair .int .int) ([(y22.1,y22.2.1)])) (by kernel_rfl) ?_;refine rs2 (.own (oi 1 16) (.pair .int .int) 0 ((l10_m6++([(y22.1,y22.2.1)])).length)) (oi 1 1) (oi 1 16) (.arr 66 (.pair .int .int) (l10_m6++([(y22.1,y22.2.1)]))) (Mm (t:=.pair .int .int) (t':=.pair .int .int) (xs:=l10_m6) (ys:=[(y22.1,y22.2.1)]) (zs:=l10_m6++([(y22.1,y22.2.1)])) (j:=oi 1 1) (len:=l10_m6.length) (c:=.own (oi 45 15) (.pair .int .int) 0 1) (by kernel_rfl) (by kernel_rfl) rfl (by kernel_rfl) (Of (e:=66) (by kernel_rfl) rfl) rfl g28) ?_;refine rsB 1 ?_;refine Ao (tn_ ?_);refine wr_ ?_;refine A2 (te_ (be_ (tn_ ?_)));obtain rfl:=zj h;exact ⟨l10_m6++([(y22.1,y22.2.1)]),_,rfl,Ac [(oi 1 1,oi 1 16)],rfl⟩
    refine Ae q20 ?_;refine Ai (tn_ ?_);refine wr_ ?_;refine Ab ?_;refine Aw h (fun (l30_m59:Bool) S_=>S_=⟨An [(1,.fn 64 []),(4,.box (oi 0 1) 0),(6,.own (oi 1 1) (.pair .int .int) 0 l10_m6.length),(8,.box (oi 2 1) 0),(20,.tree (.pair .int (.pair .int .str)) a0),(21,ai ((a0.length:Nat):Int)),(22,ai ((l10_m22:Nat):Int)),(59,.bool l30_m59)],Aj (Aq [(oi 0 1,.cells 66 [ai 0,ai 0]),(oi 1 1,.arr 66 (.pair .int .int) l10_m6),(oi 2 1,.cells 87 [ai x16.1,ai x16.2.1,.str x16.2.2])]),2⟩) ?_ ?_
    ·intro v_ h;rcases Ad h with ⟨q31,h⟩ | ⟨q31,h⟩
     ·refine Aa 15 ?_;refine rz0 (.box (oi 2 1) 1) ?_;refine rzl (ai x16.2.1) ?_;refine rz0 (.bool (x16.2.1 !=0)) ?_;refine rz0 (.bool (x16.2.1 !=0)) ?_;refine zs q31 ?_;refine zs q31 ?_;refine zs q31 ?_;refine rs0 (.bool true) (zT q31) ?_;refine rsB 5 ?_;refine Ao (tn_ ?_);obtain rfl:=zj h;exact ⟨_,Ac [],rfl⟩
     rcases Ad h with ⟨q32,h⟩ | ⟨q32,h⟩
     ·refine Aa 15 ?_;refine rz0 (.box (oi 2 1) 1) ?_;refine rzl (ai x16.2.1) ?_;refine rz0 (.bool (x16.2.1 !=0)) ?_;refine rz0 (.bool (x16.2.1 !=0)) ?_;refine rs0 (.box (oi 2 1) 2) (zg q31) ?_;refine rsl (.str x16.2.2) (zg q31) ?_;refine rs0 (.bool (!(x16.2.2.toList==(⟨#[]⟩:ByteArray).toList))) (zg q31) ?_;refine rs0 (.bool (!(x16.2.2.toList==(⟨#[]⟩:ByteArray).toList))) (zF q31) ?_;refine rz0 (.bool (!(x16.2.2.toList==(⟨#[]⟩:ByteArray).toList))) ?_;refine zs q32 ?_;refine zs q32 ?_;refine zs q32 ?_;refine rs0 (.bool true) (zT q32) ?_;refine Ao (tn_ ?_);obtain rfl:=zj h;exact ⟨_,Ac [],rfl⟩
     refine Aa 15 ?_;refine rz0 (.box (oi 2 1) 1) ?_;refine rzl (ai x16.2.1) ?_;refine rz0 (.bool (x16.2.1 !=0)) ?_;refine rz0 (.bool (x16.2.1 !=0)) ?_;refine rs0 (.box (oi 2 1) 2) (zg q31) ?_;refine rsl (.str x16.2.2) (zg q31) ?_;refine rs0 (.bool (!(x16.2.2.toList==(⟨#[]⟩:ByteArray).toList))) (zg q31) ?_;refine rs0 (.bool (!(x16.2.2.toList==(⟨#[]⟩:ByteArray).toList))) (zF q31) ?_;refine rz0 (.bool (!(x16.2.2.toList==(⟨#[]⟩:ByteArray).toList))) ?_;refine rs0 (.own (oi 1 1) (.pair .int .int) 0 l10_m6.length) (zg q32) ?_;refine rs0 (ai ((l10_m6.length:Nat):Int)) (zg q32) ?_;refine rs0 (.bool (decide (((l10_m6.length:Nat):Int)<2))) (zg q32) ?_;refine rs0 (.bool (decide (((l10_m6.length:Nat):Int)<2))) (zF q32) ?_;refine Ao (tn_ ?_);obtain rfl:=zj h;exact ⟨_,Ac [],rfl⟩
    rintro l30_m59 _ rfl h
    (try dsimp only at h);rcases Ad h with ⟨q33,h⟩ | ⟨q33,h⟩
    ·refine Af q33 ?_;refine Ak ?_;refine Ah (tr_ (br_ (tr_ (tr_ (br_ (tr_ ?_))))));obtain rfl:=zj h;have h:=hk14
     (try dsimp only at h);obtain rfl:=zj h;have h:=hn10
     (try dsimp only at h);obtain rfl:=zj h;have h:=hk8
     (try dsimp only at h);obtain rfl:=zj h;exact A0 [.agg [ai 0,ai 0],.bool false] (Fq (Bf zl (Bf zl Fp)) (Ap rfl zl Ar))
    refine Ae q33 ?_;refine Ai (tn_ ?_);refine wr_ ?_;refine Ak ?_;refine Ab ?_;obtain ⟨x37,f37,h⟩:=Ag h;obtain ⟨p37,b37,e37⟩:=Bc f37;obtain ⟨x38,f38,h⟩:=Ag h;obtain ⟨p38,b38,e38⟩:=Bc f38;obtain ⟨x39,f39,h⟩:=Ag h;obtain ⟨p39,b39,e39⟩:=Bc f39;obtain ⟨x40,f40,h⟩:=Ag h;obtain ⟨p40,b40,e40⟩:=Bc f40;obtain ⟨y41,h41,h⟩:=Ag h;refine A1 24 ?_;refine dz0 (.box (oi 2 1) 0) ?_;refine dzl (ai x16.1) ?_;refine dz0 (.own (oi 1 1) (.pair .int .int) 0 l10_m6.length) ?_;refine dz0 (ai (wI (((l10_m6.length:Nat):Int) - 1))) ?_;refine dz0 (ai (wI ((wI (((l10_m6.length:Nat):Int) - 1)) - 1))) ?_;refine ds0 (.elt (oi 1 1) ((wI ((wI (((l10_m6.length:Nat):Int) - 1)) - 1)).toNat) 0) (zo (t:=.pair .int .int) (o:=oi 1 1) (len:=l10_m6.length) (k:=.i64) (m:=wI ((wI (((l10_m6.length:Nat):Int) - 1)) - 1)) p37 (Au e37)) ?_;refine dsl (.agg [ai x38.1,ai x38.2]) (Cw (i:=oi 1 1) (j:=(wI ((wI (((l10_m6.length:Nat):Int) - 1)) - 1)).toNat) (k:=0) (e:=66) (t:=.pair .int .int) (xs:=l10_m6) (by kernel_rfl) (by kernel_rfl) e38 (by kernel_rfl)) ?_;refine dz0 (.own (oi 1 1) (.pair .int .int) 0 l10_m6.length) ?_;refine dz0 (ai (wI (((l10_m6.length:Nat):Int) - 1))) ?_;refine ds0 (.elt (oi 1 1) ((wI (((l10_m6.length:Nat):Int) - 1)).toNat) 0) (zo (t:=.pair .int .int) (o:=oi 1 1) (len:=l10_m6.length) (k:=.i64) (m:=wI (((l10_m6.length:Nat):Int) - 1)) p39 (Au e39)) ?_;refine dsl (.agg [ai x40.1,ai x40.2]) (Cw (i:=oi 1 1) (j:=(wI (((l10_m6.length:Nat):Int) - 1)).toNat) (k:=0) (e:=66) (t:=.pair .int .int) (xs:=l10_m6) (by kernel_rfl) (by kernel_rfl) e40 (by kernel_rfl)) ?_;refine Eg (.tup [.agg [ai y41.1,ai y41.2.1],.bool y41.2.2]) [] [ai x16.1,.agg [ai x38.1,ai x38.2],.agg [ai x40.1,ai x40.2]] _ (caps:=[]) (args0:=[ai x16.1,.agg [ai x38.1,ai x38.2],.agg [ai x40.1,ai x40.2]]) trivial (by kernel_rfl) (Sx h41) S6 ?_;refine dz0 (.tup [.agg [ai y41.1,ai y41.2.1],.bool y41.2.2]) ?_;refine dz0 (.agg [ai y41.1,ai y41.2.1]) ?_;refine dz0 (.bool y41.2.2) ?_;refine ds1 (.box (oi 12 21) 0) (oi 12 21) (.cells 66 [ai 0,ai 0]) (by kernel_rfl) ?_;refine Zw (oi 12 21) (oi 12 21) (.cells 66 [ai y41.1,ai y41.2.1]) (by kernel_rfl) ?_;refine dz0 (.bool y41.2.2) ?_;refine G0 (Be (by kernel_rfl)) (tn_ ?_);refine wr_ ?_;refine Ab ?_;refine Ak ?_;rcases Ad h with ⟨q44,h⟩ | ⟨q44,h⟩
    ·refine Af q44 ?_;refine Ak ?_;refine Ah (tr_ (br_ (tr_ (tr_ (br_ (tr_ ?_))))));obtain rfl:=zj h;have h:=hk14
     (try dsimp only at h);obtain rfl:=zj h;have h:=hn10
     (try dsimp only at h);obtain rfl:=zj h;have h:=hk8
     (try dsimp only at h);obtain rfl:=zj h;exact A0 [.agg [ai 0,ai 0],.bool false] (Fq (Bf zl (Bf zl Fp)) (Ap rfl zl Ar))
    refine Ae q44 ?_;refine Ai (tn_ ?_);refine wr_ ?_;obtain ⟨g46,h⟩:=Av h;obtain ⟨g47,h⟩:=Av h;refine A1 34 ?_;refine dz0 (.own (oi 1 1) (.pair .int .int) 0 l10_m6.length) ?_;refine dz0 (ai (wI (((l10_m6.length:Nat):Int) - 1))) ?_;refine dz0 (ai (wI ((wI (((l10_m6.length:Nat):Int) - 1)) - 1))) ?_;refine ds0 (.own (oi 1 1) (.pair .int .int) 0 ((wI ((wI (((l10_m6.length:Nat):Int) - 1)) - 1)).toNat)) (Agd (t:=.pair .int .int) (i:=oi 1 1) (off:=0) (len:=l10_m6.length) (l:=0) (h:=wI ((wI (((l10_m6.length:Nat):Int) - 1)) - 1)) (by kernel_rfl) (by kernel_rfl) (by kernel_rfl) rfl g46 rfl (by omega)) ?_;refine dzl (.agg [ai y41.1,ai y41.2.1]) ?_;refine ds1 (.own (oi 87 31) (.pair .int .int) 0 1) (oi 87 31) (.arr 66 (.pair .int .int) ([(y41.1,y41.2.1)])) (by kernel_rfl) ?_;refine ds2 (.own (oi 1 32) (.pair .int .int) 0 (((l10_m6.take ((wI ((wI (((l10_m6.length:Nat):Int) - 1)) - 1)).toNat))++([(y41.1,y41.2.1)])).length)) (oi 1 1) (oi 1 32) (.arr 66 (.pair .int .int) ((l10_m6.take ((wI ((wI (((l10_m6.length:Nat):Int) - 1)) - 1)).toNat))++([(y41.1,y41.2.1)]))) (Aqh (t:=.pair .int .int) (t':=.pair .int .int) (xs:=l10_m6) (ys:=[(y41.1,y41.2.1)]) (zs:=(l10_m6.take ((wI ((wI (((l10_m6.length:Nat):Int) - 1)) - 1)).toNat))++([(y41.1,y41.2.1)])) (j:=oi 1 1) (len:=(wI ((wI (((l10_m6.length:Nat):Int) - 1)) - 1)).toNat) (c:=.own (oi 87 31) (.pair .int .int) 0 1) (by kernel_rfl) (by kernel_rfl) (by omega) (by kernel_rfl) (Of (e:=66) (by kernel_rfl) rfl) rfl g47) ?_;refine dz0 (.own (oi 1 32) (.pair .int .int) 0 (((l10_m6.take ((wI ((wI (((l10_m6.length:Nat):Int) - 1)) - 1)).toNat))++([(y41.1,y41.2.1)])).length)) ?_;refine G0 (Be (by kernel_rfl)) (bn_ (tn_ ?_));obtain rfl:=zj h;exact ⟨(l10_m6.take ((wI ((wI (((l10_m6.length:Nat):Int) - 1)) - 1)).toNat))++([(y41.1,y41.2.1)]),_,rfl,Ac [(oi 1 1,oi 1 32)],rfl⟩
   rintro l14_m6 _ rfl h
   (try dsimp only at h);obtain ⟨g48,h⟩:=Av h;refine Aa 4 ?_;refine rs0 (ai ((l10_m22+1:Nat):Int)) (za g48) ?_;refine rsB 1 ?_;refine Ao (tn_ ?_);obtain rfl:=zj h;exact ⟨(l10_m22+1,l14_m6),_,Ac [],⟨l10_m22+1,l14_m6,rfl,rfl⟩,hn10⟩
  have q13_:=of_decide_eq_false q13;refine Ae q13 ?_;refine A2 (te_ (te_ (be_ (tn_ ?_))));obtain rfl:=zj h;have h:=hn10
  (try dsimp only at h);obtain rfl:=zj h;exact ⟨l10_m6,_,rfl,Ac [],rfl⟩
 rintro l8_m6 _ rfl h
 (try dsimp only at h);refine Ab ?_;obtain ⟨x50,e50,h⟩:=Ag h;refine Aa 10 ?_;refine rz0 (.own (oi 1 1) (.pair .int .int) 0 l8_m6.length) ?_;refine rs0 (.elt (oi 1 1) 0 0) (Am4 (t:=.pair .int .int) (o:=oi 1 1) (len:=l8_m6.length) (k:=.i64) (m:=0) (by kernel_rfl) (by kernel_rfl) rfl (by decide) rfl (Au e50)) ?_;refine rsl (.agg [ai x50.1,ai x50.2]) (Cw (i:=oi 1 1) (j:=0) (k:=0) (e:=66) (t:=.pair .int .int) (xs:=l8_m6) (by kernel_rfl) (by kernel_rfl) e50 (by kernel_rfl)) ?_;refine rsB 5 ?_;refine Ao (tn_ ?_);refine wr_ ?_;refine Ah ?_;obtain rfl:=zj h;exact A0 [.agg [ai x50.1,ai x50.2],.bool (((l8_m6.length:Nat):Int)==1)] (Fq (Bf zl (Bf zl Fp)) (Ap rfl zl Ar))
def K0:AC :=
 (.seq (rg [xo 1 (.i (.box 34 (tm 0))),xo 2 (.i (.alloc 66 [.int .i64 0,.int .i64 0])),xo 3 (qm (cb false))])
 (.seq (rg [xo 4 (qf 0 (tm 1)),xo 5 (ql (tm 4)),⟨some 6,none,qc 63 [tm 5,.cst (.fn 64 [])] [[some (.pair .int (.pair .int .str))],[]]⟩,xo 7 (.i (.extr 0 (tm 6))),xo 8 (.i (.extr 1 (tm 6))),xn (.st false 2 (tm 2) (tm 7)),xo 3 (qm (tm 8))])
 .ret))
def Sv:List Res:=[.cell 2 false 2,.tmp 3]
theorem Tq:Am Tryd.prog Tryd.f37=some (K0,Sv):=by kernel_rfl
def Cn (a0_0:List (Int×Int×ByteArray)):Option (Int×Int×Bool) :=
 Option.bind (Br a0_0) fun y3 =>
some (y3.1,y3.2.1,y3.2.2)
def Qt (r:Int×Int×Bool):RV:=⟨true,[(true,[.sc (.int .i64 r.1),.sc (.int .i64 r.2.1)]),(false,[.sc (.bool r.2.2)])]⟩
theorem J4 {a0_0:List (Int×Int×ByteArray)} {r:Int×Int×Bool} (h:Cn a0_0=some r):Ax Tryd.prog Tab 37 [.agg [.tree (.pair .int (.pair .int .str)) a0_0]] (Qt r):=by
 refine As (by kernel_rfl) Tryd.func37 Tq (n:=9) (by kernel_rfl) (by simp) (tl:=[(0,.agg [.tree (.pair .int (.pair .int .str)) a0_0])]) rfl ?_;unfold K0;unfold Cn at h;refine Ak ?_;refine Ab ?_;obtain ⟨y3,h3,h⟩:=Ag h;refine Aa 11 ?_;refine rz0 (.box (oi 1 1) 0) ?_;refine rzl (.tree (.pair .int (.pair .int .str)) a0_0) ?_;refine zc (.tup [.agg [ai y3.1,ai y3.2.1],.bool y3.2.2]) [] [.tree (.pair .int (.pair .int .str)) a0_0,.fn 64 []] (Hn h3) ?_;refine rsB 4 ?_;refine Ao (tn_ ?_);refine wr_ ?_;refine Ah ?_;obtain rfl:=zj h;exact A0 [.agg [ai y3.1,ai y3.2.1],.bool y3.2.2] (Fq (Bf zl (Bf zl Fp)) (Ap rfl zl Ar))
def It:AC :=
 (.seq (rg [xo 1 (.i (.box 34 (tm 0))),xo 2 (qm (cb false))])
 (.seq (rg [xo 6 (.i (.ld false 1 (tm 1))),⟨some 7,none,qc 37 [tm 6] [[some (.pair .int (.pair .int .str))]]⟩,xo 5 (qm (tm 7)),xo 8 (.i (.extr 0 (tm 5))),xo 9 (.i (.extr 1 (tm 5))),xo 3 (.i (.alloc 66 [.int .i64 0,.int .i64 0])),xn (.st false 2 (tm 3) (tm 8)),xo 4 (qm (tm 9))])
 (.seq (rg [xo 10 (qm (tm 4)),xo 2 (qm (tm 10))])
 .ret)))
def Pb:List Res:=[.tmp 2]
theorem O1:Am Tryd.prog Tryd.f72=some (It,Pb):=by kernel_rfl
theorem Oh:A6 Tryd.prog 72=true:=by kernel_rfl
def Du (a0_0:List (Int×Int×ByteArray)):Option Bool :=
 Option.bind (Cn a0_0) fun y3 =>
some y3.2.2
def Nv (r:Bool):RV:=⟨false,[(false,[.sc (.bool r)])]⟩
theorem Og {a0_0:List (Int×Int×ByteArray)} {r:Bool} (h:Du a0_0=some r):Ax Tryd.prog Tab 72 [.agg [.tree (.pair .int (.pair .int .str)) a0_0]] (Nv r):=by
 refine As (by kernel_rfl) Tryd.func72 O1 (n:=11) (by kernel_rfl) (by simp) (tl:=[(0,.agg [.tree (.pair .int (.pair .int .str)) a0_0])]) rfl ?_;unfold It;unfold Du at h;refine Ak ?_;refine Ab ?_;obtain ⟨y3,h3,h⟩:=Ag h;refine Aa 11 ?_;refine rzl (.agg [.tree (.pair .int (.pair .int .str)) a0_0]) ?_;refine zc (.tup [.agg [ai y3.1,ai y3.2.1],.bool y3.2.2]) [] [.agg [.tree (.pair .int (.pair .int .str)) a0_0]] (J4 h3) ?_;refine rsB 6 ?_;refine Ao (tn_ ?_);refine wr_ ?_;refine Ak ?_;refine Ah ?_;obtain rfl:=zj h;exact A0 [.bool y3.2.2] (Ap rfl zl Ar)
def Ht:AC :=
 (.seq (rg [xo 19 (qb .lss (tm 18) (tm 17))])
 (.seq (.cond (tm 19)
  .skip
  (.exit 0))
 (.seq (.block 1 (.seq (rg [xo 20 (qx 3 (tm 16) (tm 18)),xo 21 (.i (.ld false 3 (tm 20))),⟨some 6,none,.i (.alloc 87 [.int .i64 0,.int .i64 0,.str ⟨#[]⟩])⟩,xn (.st false 3 (tm 6) (tm 21))])
 (.seq (rg [xo 22 (qf 0 (tm 6)),xo 23 (ql (tm 22)),xo 24 (qc 73 [tm 23] [[]]),xo 25 (qm (tm 24)),⟨some 26,some (25,true),qf 1 (tm 6)⟩,⟨some 27,some (25,true),ql (tm 26)⟩,⟨some 28,some (25,true),qm (tm 1)⟩,⟨some 29,some (25,true),qb .geq (tm 27) (tm 28)⟩,xo 30 (.i (.pick (tm 25) (tm 29) (cb false)))])
 (.cond (tm 30)
  (.seq (rg [xo 4 (qm (cb false))])
  .ret)
  .skip))))
 (rg [xo 31 (qb .add (tm 18) (ci 1)),xo 18 (qm (tm 31))]))))
def Kc:AC :=
 (.seq (rg [xo 2 (.i (.box 34 (tm 0))),xo 4 (qm (cb false))])
 (.seq (.seq (rg [xo 7 (qm (tm 1)),xo 8 (qc 43 [tm 7] [[]]),xo 9 (.i (.not (tm 8))),xo 10 (qm (tm 9)),⟨some 11,some (10,false),.i (.ld false 1 (tm 2))⟩,⟨some 12,some (10,false),qc 72 [tm 11] [[some (.pair .int (.pair .int .str))]]⟩,⟨some 13,some (10,false),.i (.not (tm 12))⟩,xo 14 (.i (.pick (tm 10) (cb true) (tm 13)))])
 (.cond (tm 14)
  (.seq (rg [xo 4 (qm (cb false))])
  .ret)
  .skip))
 (.seq (.seq (rg [xo 15 (qf 0 (tm 2)),xo 16 (ql (tm 15)),xo 17 (.i (.len (tm 16))),xo 18 (qm (ci 0))])
 (.block 0 (.loop Ht)))
 (.seq (rg [xo 4 (qm (cb true))])
 .ret))))
def Qs:List Res:=[.tmp 4]
theorem Qq:Am Tryd.prog Tryd.f59=some (Kc,Qs):=by kernel_rfl
def Cb (a0_0:List (Int×Int×ByteArray)) (a1:Int) (l11_m18:Nat):Option (Ctl Nat (Ctl Unit Bool)) :=
 cond (decide (((l11_m18:Nat):Int)<((a0_0.length:Nat):Int)))
 (Option.bind (a0_0[l11_m18]?) fun x17 =>
 Option.bind (Option.bind (De x17.1) fun y19 =>
  cond y19
   (some (decide (a1<=x17.2.1)))
   (some false)) fun l18_m30 =>
 cond l18_m30
  (some (Ctl.out (Ctl.out false)))
  (og (l11_m18+1<4611686018427387904) <|
  some (Ctl.next (l11_m18+1))))
 (some (Ctl.out (Ctl.next ())))
def C5 (a0_0:List (Int×Int×ByteArray)) (a1:Int):Option Bool :=
 Option.bind (Option.bind (Fh a1) fun y4 =>
 cond (!y4)
  (some true)
  (Option.bind (Du a0_0) fun y6 =>
  some (!y6))) fun l3_m14 =>
cond l3_m14
 (some false)
 (Dt (A4 (fun s_:Nat=>Cb a0_0 a1 s_) 4611686018427387904 0) fun _ =>
 some true)
def Pa (r:Bool):RV:=⟨false,[(false,[.sc (.bool r)])]⟩
theorem Pc {a0_0:List (Int×Int×ByteArray)} {a1:Int} {r:Bool} (h:C5 a0_0 a1=some r):Ax Tryd.prog Tab 59 [.agg [.tree (.pair .int (.pair .int .str)) a0_0],ai a1] (Pa r):=by
 refine As (by kernel_rfl) Tryd.func59 Qq (n:=32) (by kernel_rfl) (by simp) (tl:=[(0,.agg [.tree (.pair .int (.pair .int .str)) a0_0]),(1,ai a1)]) rfl ?_;unfold Kc;unfold C5 at h;refine Ak ?_;refine Ab ?_;refine Aw h (fun (l3_m14:Bool) S_=>S_=⟨An [(1,ai a1),(2,.box (oi 0 1) 0),(14,.bool l3_m14)],Aj (Aq [(oi 0 1,.cells 34 [.tree (.pair .int (.pair .int .str)) a0_0])]),2⟩) ?_ ?_
 ·intro v_ h;obtain ⟨y4,h4,h⟩:=Ag h;rcases Ad h with ⟨q5,h⟩ | ⟨q5,h⟩
  ·refine Aa 11 ?_;refine rz0 (ai a1) ?_;refine zc (.bool y4) [] [ai a1] (Ey h4) ?_;refine rz0 (.bool (!y4)) ?_;refine rz0 (.bool (!y4)) ?_;refine zs q5 ?_;refine zs q5 ?_;refine zs q5 ?_;refine rs0 (.bool true) (zT q5) ?_;refine Ao (tn_ ?_);obtain rfl:=zj h;exact ⟨_,Ac [(oi 0 1,oi 2 1)],rfl⟩
  obtain ⟨y6,h6,h⟩:=Ag h;refine Aa 11 ?_;refine rz0 (ai a1) ?_;refine zc (.bool y4) [] [ai a1] (Ey h4) ?_;refine rz0 (.bool (!y4)) ?_;refine rz0 (.bool (!y4)) ?_;refine rsl (.agg [.tree (.pair .int (.pair .int .str)) a0_0]) (zg q5) ?_;refine Bz (.bool y6) [] [.agg [.tree (.pair .int (.pair .int .str)) a0_0]] _ (caps:=[]) (args0:=[.agg [.tree (.pair .int (.pair .int .str)) a0_0]]) (Bg (by kernel_rfl) q5) (by kernel_rfl) (Og h6) Oh ?_;refine rs0 (.bool (!y6)) (zg q5) ?_;refine rs0 (.bool (!y6)) (zF q5) ?_;refine Ao (tn_ ?_);obtain rfl:=zj h;exact ⟨_,Ac [(oi 0 1,oi 2 1)],rfl⟩
 rintro l3_m14 _ rfl h
 (try dsimp only at h);rcases Ad h with ⟨q7,h⟩ | ⟨q7,h⟩
 ·refine Af q7 ?_;refine Ak ?_;refine Ah (tr_ ?_);obtain rfl:=zj h;exact A0 [.bool false] (Ap rfl zl Ar)
 refine Ae q7 ?_;refine Ai (tn_ ?_);refine wr_ ?_;refine Bl h (fun (_:Unit) S_=>S_=⟨An [],Aj (Aq []),2⟩) ?_ ?_
 ·intro v_ h hk9;refine Ak ?_;refine Al ?_;refine A5 h (fun (l11_m18:Nat) S_=>S_=⟨An [(1,ai a1),(16,.tree (.pair .int (.pair .int .str)) a0_0),(17,ai ((a0_0.length:Nat):Int)),(18,ai ((l11_m18:Nat):Int))],Aj (Aq []),2⟩) ⟨_,Ac [],rfl⟩ ?_;rintro n_ l11_m18 _ c_ rfl h hn11
  (try dsimp only at h);unfold Cb at h;unfold Ht;refine Ak ?_;refine Ab ?_;rcases Ad h with ⟨q14,h⟩ | ⟨q14,h⟩
  ·have q14_:=of_decide_eq_true q14;refine Af q14 ?_;refine Ai (tn_ ?_);refine wr_ ?_;refine Ab ?_;refine Al ?_;refine Ab ?_;obtain ⟨x17,e17,h⟩:=Ag h;refine Aa 7 ?_;refine rs0 (.telt (.pair .int (.pair .int .str)) x17 0) (zi (t:=.pair .int (.pair .int .str)) (xs:=a0_0) (k:=.i64) (m:=((l11_m18:Nat):Int)) (Ay _) e17) ?_;refine rsB 3 ?_;refine Ao (tn_ ?_);refine wr_ ?_;refine Aw h (fun (l18_m30:Bool) S_=>S_=⟨An [(1,ai a1),(16,.tree (.pair .int (.pair .int .str)) a0_0),(17,ai ((a0_0.length:Nat):Int)),(18,ai ((l11_m18:Nat):Int)),(30,.bool l18_m30)],Aj (Aq []),2⟩) ?_ ?_
   ·intro v_ h;obtain ⟨y19,h19,h⟩:=Ag h;rcases Ad h with ⟨q20,h⟩ | ⟨q20,h⟩
    ·refine Aa 16 ?_;refine rz0 (.box (oi 6 5) 0) ?_;refine rzl (ai x17.1) ?_;refine zc (.bool y19) [] [ai x17.1] (Hu h19) ?_;refine rz0 (.bool y19) ?_;refine rs0 (.box (oi 6 5) 1) (zg q20) ?_;refine rsl (ai x17.2.1) (zg q20) ?_;refine rs0 (ai a1) (zg q20) ?_;refine rs0 (.bool (decide (a1<=x17.2.1))) (zg q20) ?_;refine rs0 (.bool (decide (a1<=x17.2.1))) (zT q20) ?_;refine Ao (tn_ ?_);obtain rfl:=zj h;exact ⟨_,Ac [],rfl⟩
    refine Aa 16 ?_;refine rz0 (.box (oi 6 5) 0) ?_;refine rzl (ai x17.1) ?_;refine zc (.bool y19) [] [ai x17.1] (Hu h19) ?_;refine rz0 (.bool y19) ?_;refine zs q20 ?_;refine zs q20 ?_;refine zs q20 ?_;refine zs q20 ?_;refine rs0 (.bool false) (zF q20) ?_;refine Ao (tn_ ?_);obtain rfl:=zj h;exact ⟨_,Ac [],rfl⟩
   rintro l18_m30 _ rfl h
   (try dsimp only at h);rcases Ad h with ⟨q21,h⟩ | ⟨q21,h⟩
   ·refine Af q21 ?_;refine Ak ?_;refine Ah (br_ (tr_ (tr_ (br_ (tr_ ?_)))));obtain rfl:=zj h;have h:=hn11
    (try dsimp only at h);obtain rfl:=zj h;have h:=hk9
    (try dsimp only at h);obtain rfl:=zj h;exact A0 [.bool false] (Ap rfl zl Ar)
   refine Ae q21 ?_;refine Ai (bn_ (tn_ ?_));refine wr_ ?_;obtain ⟨g23,h⟩:=Av h;refine Aa 4 ?_;refine rs0 (ai ((l11_m18+1:Nat):Int)) (za g23) ?_;refine rsB 1 ?_;refine Ao (tn_ ?_);obtain rfl:=zj h;exact ⟨l11_m18+1,_,Ac [],rfl,hn11⟩
  have q14_:=of_decide_eq_false q14;refine Ae q14 ?_;refine A2 (te_ (te_ (be_ (tn_ ?_))));obtain rfl:=zj h;have h:=hn11
  (try dsimp only at h);obtain rfl:=zj h;exact ⟨(),_,rfl,Ac [],rfl⟩
 rintro _ _ rfl h
 (try dsimp only at h);refine Ak ?_;refine Ah ?_;obtain rfl:=zj h;exact A0 [.bool true] (Ap rfl zl Ar)
def N1:AC :=
 (.seq (rg [xo 2 (qm (cb false))])
 (.seq (rg [xo 3 (qm (tm 0)),xo 4 (qb .eql (tm 3) (ci 8)),xo 5 (qm (tm 4)),⟨some 6,some (5,false),qm (tm 0)⟩,⟨some 7,some (5,false),qb .eql (tm 6) (ci 14)⟩,xo 8 (.i (.pick (tm 5) (cb true) (tm 7))),xo 2 (qm (tm 8))])
 .ret))
def Aak:List Res:=[.tmp 2]
theorem Yo:Am Tryd.prog Tryd.f60=some (N1,Aak):=by kernel_rfl
def Hd (a0:Int):Option Bool :=
 Option.bind (cond (a0==8)
  (some true)
  (some (a0==14))) fun l2_m2 =>
some l2_m2
def V0 (r:Bool):RV:=⟨false,[(false,[.sc (.bool r)])]⟩
theorem Wj {a0:Int} {r:Bool} (h:Hd a0=some r):Ax Tryd.prog Tab 60 [ai a0] (V0 r):=by
 refine As (by kernel_rfl) Tryd.func60 Yo (n:=9) (by kernel_rfl) (by simp) (tl:=[(0,ai a0)]) rfl ?_;unfold N1;unfold Hd at h;refine Ak ?_;refine Aw h (fun (l2_m2:Bool) S_=>S_=⟨An [(2,.bool l2_m2)],Aj (Aq []),2⟩) ?_ ?_
 ·intro v_ h;rcases Ad h with ⟨q3,h⟩ | ⟨q3,h⟩
  ·refine Aa 9 ?_;refine rz0 (ai a0) ?_;refine rz0 (.bool (a0==8)) ?_;refine rz0 (.bool (a0==8)) ?_;refine zs q3 ?_;refine zs q3 ?_;refine rs0 (.bool true) (zT q3) ?_;refine rsB 1 ?_;refine Ao (tn_ ?_);obtain rfl:=zj h;exact ⟨_,Ac [],rfl⟩
  refine Aa 9 ?_;refine rz0 (ai a0) ?_;refine rz0 (.bool (a0==8)) ?_;refine rz0 (.bool (a0==8)) ?_;refine rs0 (ai a0) (zg q3) ?_;refine rs0 (.bool (a0==14)) (zg q3) ?_;refine rs0 (.bool (a0==14)) (zF q3) ?_;refine rsB 1 ?_;refine Ao (tn_ ?_);obtain rfl:=zj h;exact ⟨_,Ac [],rfl⟩
 rintro l2_m2 _ rfl h
 (try dsimp only at h);refine Ah ?_;obtain rfl:=zj h;exact A0 [.bool l2_m2] (Ap rfl zl Ar)
def G9:AC :=
 (.seq (rg [xo 15 (qb .lss (tm 14) (tm 13))])
 (.seq (.cond (tm 15)
  .skip
  (.exit 0))
 (.seq (.block 1 (.seq (rg [xo 16 (qx 3 (tm 12) (tm 14)),xo 17 (.i (.ld false 3 (tm 16))),⟨some 6,none,.i (.alloc 87 [.int .i64 0,.int .i64 0,.str ⟨#[]⟩])⟩,xn (.st false 3 (tm 6) (tm 17))])
 (.seq (rg [xo 18 (qf 0 (tm 6)),xo 19 (ql (tm 18)),xo 20 (qc 60 [tm 19] [[]])])
 (.cond (tm 20)
  (.seq (rg [xo 4 (qm (cb false))])
  .ret)
  .skip))))
 (rg [xo 21 (qb .add (tm 14) (ci 1)),xo 14 (qm (tm 21))]))))
def Ik:AC :=
 (.seq (rg [xo 2 (.i (.box 34 (tm 0))),xo 4 (qm (cb false))])
 (.seq (.seq (rg [xo 7 (.i (.ld false 1 (tm 2))),xo 8 (qm (tm 1)),⟨some 9,none,qc 59 [tm 7,tm 8] [[some (.pair .int (.pair .int .str))],[]]⟩,xo 10 (.i (.not (tm 9)))])
 (.cond (tm 10)
  (.seq (rg [xo 4 (qm (cb false))])
  .ret)
  .skip))
 (.seq (.seq (rg [xo 11 (qf 0 (tm 2)),xo 12 (ql (tm 11)),xo 13 (.i (.len (tm 12))),xo 14 (qm (ci 0))])
 (.block 0 (.loop G9)))
 (.seq (rg [xo 4 (qm (cb true))])
 .ret))))
def Ng:List Res:=[.tmp 4]
theorem N8:Am Tryd.prog Tryd.f35=some (Ik,Ng):=by kernel_rfl
theorem Hq:A6 Tryd.prog 35=true:=by kernel_rfl
def B3 (a0_0:List (Int×Int×ByteArray)) (l9_m14:Nat):Option (Ctl Nat (Ctl Unit Bool)) :=
 cond (decide (((l9_m14:Nat):Int)<((a0_0.length:Nat):Int)))
 (Option.bind (a0_0[l9_m14]?) fun x15 =>
 Option.bind (Hd x15.1) fun y17 =>
 cond y17
  (some (Ctl.out (Ctl.out false)))
  (og (l9_m14+1<4611686018427387904) <|
  some (Ctl.next (l9_m14+1))))
 (some (Ctl.out (Ctl.next ())))
def Cj (a0_0:List (Int×Int×ByteArray)) (a1:Int):Option Bool :=
 Option.bind (C5 a0_0 a1) fun y4 =>
cond (!y4)
 (some false)
 (Dt (A4 (fun s_:Nat=>B3 a0_0 s_) 4611686018427387904 0) fun _ =>
 some true)
def Nb (r:Bool):RV:=⟨false,[(false,[.sc (.bool r)])]⟩
theorem Hs {a0_0:List (Int×Int×ByteArray)} {a1:Int} {r:Bool} (h:Cj a0_0 a1=some r):Ax Tryd.prog Tab 35 [.agg [.tree (.pair .int (.pair .int .str)) a0_0],ai a1] (Nb r):=by
 refine As (by kernel_rfl) Tryd.func35 N8 (n:=22) (by kernel_rfl) (by simp) (tl:=[(0,.agg [.tree (.pair .int (.pair .int .str)) a0_0]),(1,ai a1)]) rfl ?_;unfold Ik;unfold Cj at h;refine Ak ?_;refine Ab ?_;refine Ab ?_;obtain ⟨y4,h4,h⟩:=Ag h;refine Aa 7 ?_;refine rzl (.agg [.tree (.pair .int (.pair .int .str)) a0_0]) ?_;refine rz0 (ai a1) ?_;refine zc (.bool y4) [] [.agg [.tree (.pair .int (.pair .int .str)) a0_0],ai a1] (Pc h4) ?_;refine rsB 1 ?_;refine Ao (tn_ ?_);refine wr_ ?_;rcases Ad h with ⟨q5,h⟩ | ⟨q5,h⟩
 ·refine Af q5 ?_;refine Ak ?_;refine Ah (tr_ ?_);obtain rfl:=zj h;exact A0 [.bool false] (Ap rfl zl Ar)
 refine Ae q5 ?_;refine Ai (tn_ ?_);refine wr_ ?_;refine Bl h (fun (_:Unit) S_=>S_=⟨An [],Aj (Aq []),2⟩) ?_ ?_
 ·intro v_ h hk7;refine Ak ?_;refine Al ?_;refine A5 h (fun (l9_m14:Nat) S_=>S_=⟨An [(12,.tree (.pair .int (.pair .int .str)) a0_0),(13,ai ((a0_0.length:Nat):Int)),(14,ai ((l9_m14:Nat):Int))],Aj (Aq []),2⟩) ⟨_,Ac [],rfl⟩ ?_;rintro n_ l9_m14 _ c_ rfl h hn9
  (try dsimp only at h);unfold B3 at h;unfold G9;refine Ak ?_;refine Ab ?_;rcases Ad h with ⟨q12,h⟩ | ⟨q12,h⟩
  ·have q12_:=of_decide_eq_true q12;refine Af q12 ?_;refine Ai (tn_ ?_);refine wr_ ?_;refine Ab ?_;refine Al ?_;refine Ab ?_;obtain ⟨x15,e15,h⟩:=Ag h;refine Aa 7 ?_;refine rs0 (.telt (.pair .int (.pair .int .str)) x15 0) (zi (t:=.pair .int (.pair .int .str)) (xs:=a0_0) (k:=.i64) (m:=((l9_m14:Nat):Int)) (Ay _) e15) ?_;refine rsB 3 ?_;refine Ao (tn_ ?_);refine wr_ ?_;refine Ab ?_;obtain ⟨y17,h17,h⟩:=Ag h;refine Aa 10 ?_;refine rz0 (.box (oi 6 5) 0) ?_;refine rzl (ai x15.1) ?_;refine zc (.bool y17) [] [ai x15.1] (Wj h17) ?_;refine Ao (tn_ ?_);refine wr_ ?_;rcases Ad h with ⟨q18,h⟩ | ⟨q18,h⟩
   ·refine Af q18 ?_;refine Ak ?_;refine Ah (br_ (tr_ (tr_ (br_ (tr_ ?_)))));obtain rfl:=zj h;have h:=hn9
    (try dsimp only at h);obtain rfl:=zj h;have h:=hk7
    (try dsimp only at h);obtain rfl:=zj h;exact A0 [.bool false] (Ap rfl zl Ar)
   refine Ae q18 ?_;refine Ai (bn_ (tn_ ?_));refine wr_ ?_;obtain ⟨g20,h⟩:=Av h;refine Aa 12 ?_;refine rs0 (ai ((l9_m14+1:Nat):Int)) (za g20) ?_;refine rsB 1 ?_;refine Ao (tn_ ?_);obtain rfl:=zj h;exact ⟨l9_m14+1,_,Ac [],rfl,hn9⟩
  have q12_:=of_decide_eq_false q12;refine Ae q12 ?_;refine A2 (te_ (te_ (be_ (tn_ ?_))));obtain rfl:=zj h;have h:=hn9
  (try dsimp only at h);obtain rfl:=zj h;exact ⟨(),_,rfl,Ac [],rfl⟩
 rintro _ _ rfl h
 (try dsimp only at h);refine Ak ?_;refine Ah ?_;obtain rfl:=zj h;exact A0 [.bool true] (Ap rfl zl Ar)
def Jg:AC :=
 (.seq (rg [xo 3 (.i (.box 37 (tm 1))),xo 4 (qm (cb false))])
 (.seq (.seq (rg [xo 7 (qf 0 (tm 3)),xo 8 (ql (tm 7)),xo 9 (qc 34 [tm 8] [[]]),xo 10 (.i (.not (tm 9))),xo 11 (qm (tm 10)),⟨some 12,some (11,false),qf 1 (tm 3)⟩,⟨some 13,some (11,false),.i (.ld false 1 (tm 12))⟩,⟨some 14,some (11,false),qm (tm 0)⟩,⟨some 15,some (11,false),qc 35 [tm 13,tm 14] [[some (.pair .int (.pair .int .str))],[]]⟩,⟨some 16,some (11,false),.i (.not (tm 15))⟩,xo 17 (.i (.pick (tm 11) (cb true) (tm 16))),xo 18 (qm (tm 17)),⟨some 19,some (18,false),qm (tm 0)⟩,⟨some 20,some (18,false),qf 2 (tm 3)⟩,⟨some 21,some (18,false),.i (.ld false 3 (tm 20))⟩,⟨some 22,some (18,false),qc 36 [tm 19,tm 21] [[],[none,none,some (.slice .int)]]⟩,⟨some 23,some (18,false),.i (.not (tm 22))⟩,xo 24 (.i (.pick (tm 18) (cb true) (tm 23)))])
 (.cond (tm 24)
  (.seq (rg [xo 4 (qm (cb false))])
  .ret)
  .skip))
 (.seq (rg [xo 26 (qf 1 (tm 3)),xo 27 (.i (.ld false 1 (tm 26))),⟨some 28,none,qc 37 [tm 27] [[some (.pair .int (.pair .int .str))]]⟩,xo 25 (qm (tm 28)),xo 29 (.i (.extr 0 (tm 25))),xo 30 (.i (.extr 1 (tm 25))),xo 5 (.i (.alloc 66 [.int .i64 0,.int .i64 0])),xn (.st false 2 (tm 5) (tm 29)),xo 6 (qm (tm 30))])
 (.seq (rg [xo 31 (.i (.ld false 2 (tm 5))),xo 32 (qf 2 (tm 3)),xo 33 (qf 0 (tm 32)),xo 34 (ql (tm 33)),xo 35 (qf 2 (tm 3)),xo 36 (qf 1 (tm 35)),xo 37 (ql (tm 36)),xo 38 (.build [.int .i64 0,.int .i64 0] [(0,1,tm 34),(1,1,tm 37)]),xo 39 (.i (.cmp false 5 (tm 31) (tm 38))),xo 4 (qm (tm 39))])
 .ret))))
def Rh:List Res:=[.tmp 4]
theorem Rj:Am Tryd.prog Tryd.f20=some (Jg,Rh):=by kernel_rfl
def C6 (a0:Int) (a1_0:ByteArray) (a1_1:List (Int×Int×ByteArray)) (a1_2:Int) (a1_3:Int) (a1_4:List (List Int)):Option Bool :=
 Option.bind (Option.bind (Gz a1_0) fun y4 =>
 cond (!y4)
  (some true)
  (Option.bind (Cj a1_1 a0) fun y6 =>
  cond (!y6)
   (some true)
   (Option.bind (Dn a0 a1_2 a1_3 a1_4) fun y8 =>
   some (!y8)))) fun l3_m24 =>
cond l3_m24
 (some false)
 (Option.bind (Cn a1_1) fun y12 =>
 some ([y12.1,y12.2.1]==[a1_2,a1_3]))
def O3 (r:Bool):RV:=⟨false,[(false,[.sc (.bool r)])]⟩
theorem O4 {a0:Int} {a1_0:ByteArray} {a1_1:List (Int×Int×ByteArray)} {a1_2:Int} {a1_3:Int} {a1_4:List (List Int)} {r:Bool} (h:C6 a0 a1_0 a1_1 a1_2 a1_3 a1_4=some r):Ax Tryd.prog Tab 20 [ai a0,.agg [.str a1_0,.tree (.pair .int (.pair .int .str)) a1_1,ai a1_2,ai a1_3,.tree (.slice .int) a1_4]] (O3 r):=by
 refine As (by kernel_rfl) Tryd.func20 Rj (n:=40) (by kernel_rfl) (by simp) (tl:=[(0,ai a0),(1,.agg [.str a1_0,.tree (.pair .int (.pair .int .str)) a1_1,ai a1_2,ai a1_3,.tree (.slice .int) a1_4])]) rfl ?_;unfold Jg;unfold C6 at h;refine Ak ?_;refine Ab ?_;refine Aw h (fun (l3_m24:Bool) S_=>S_=⟨An [(3,.box (oi 0 1) 0),(24,.bool l3_m24)],Aj (Aq [(oi 0 1,.cells 37 [.str a1_0,.tree (.pair .int (.pair .int .str)) a1_1,ai a1_2,ai a1_3,.tree (.slice .int) a1_4])]),2⟩) ?_ ?_
 ·intro v_ h;obtain ⟨y4,h4,h⟩:=Ag h;rcases Ad h with ⟨q5,h⟩ | ⟨q5,h⟩
  ·refine Aa 21 ?_;refine rz0 (.box (oi 3 1) 0) ?_;refine rzl (.str a1_0) ?_;refine zc (.bool y4) [] [.str a1_0] (Jy h4) ?_;refine rz0 (.bool (!y4)) ?_;refine rz0 (.bool (!y4)) ?_;refine zs q5 ?_;refine zs q5 ?_;refine zs q5 ?_;refine zs q5 ?_;refine zs q5 ?_;refine rs0 (.bool true) (zT q5) ?_;refine rsB 7 ?_;refine Ao (tn_ ?_);obtain rfl:=zj h;exact ⟨_,Ac [(oi 0 1,oi 3 1)],rfl⟩
  obtain ⟨y6,h6,h⟩:=Ag h;rcases Ad h with ⟨q7,h⟩ | ⟨q7,h⟩
  ·refine Aa 21 ?_;refine rz0 (.box (oi 3 1) 0) ?_;refine rzl (.str a1_0) ?_;refine zc (.bool y4) [] [.str a1_0] (Jy h4) ?_;refine rz0 (.bool (!y4)) ?_;refine rz0 (.bool (!y4)) ?_;refine rs0 (.box (oi 3 1) 1) (zg q5) ?_;refine rsl (.agg [.tree (.pair .int (.pair .int .str)) a1_1]) (zg q5) ?_;refine rs0 (ai a0) (zg q5) ?_;refine Bz (.bool y6) [] [.agg [.tree (.pair .int (.pair .int .str)) a1_1],ai a0] _ (caps:=[]) (args0:=[.agg [.tree (.pair .int (.pair .int .str)) a1_1],ai a0]) (Bg (by kernel_rfl) q5) (by kernel_rfl) (Hs h6) Hq ?_;refine rs0 (.bool (!y6)) (zg q5) ?_;refine rs0 (.bool (!y6)) (zF q5) ?_;refine rz0 (.bool (!y6)) ?_;refine zs q7 ?_;refine zs q7 ?_;refine zs q7 ?_;refine zs q7 ?_;refine zs q7 ?_;refine rs0 (.bool true) (zT q7) ?_;refine Ao (tn_ ?_);obtain rfl:=zj h;exact ⟨_,Ac [(oi 0 1,oi 3 1)],rfl⟩
  obtain ⟨y8,h8,h⟩:=Ag h;refine Aa 21 ?_;refine rz0 (.box (oi 3 1) 0) ?_;refine rzl (.str a1_0) ?_;refine zc (.bool y4) [] [.str a1_0] (Jy h4) ?_;refine rz0 (.bool (!y4)) ?_;refine rz0 (.bool (!y4)) ?_;refine rs0 (.box (oi 3 1) 1) (zg q5) ?_;refine rsl (.agg [.tree (.pair .int (.pair .int .str)) a1_1]) (zg q5) ?_;refine rs0 (ai a0) (zg q5) ?_;refine Bz (.bool y6) [] [.agg [.tree (.pair .int (.pair .int .str)) a1_1],ai a0] _ (caps:=[]) (args0:=[.agg [.tree (.pair .int (.pair .int .str)) a1_1],ai a0]) (Bg (by kernel_rfl) q5) (by kernel_rfl) (Hs h6) Hq ?_;refine rs0 (.bool (!y6)) (zg q5) ?_;refine rs0 (.bool (!y6)) (zF q5) ?_;refine rz0 (.bool (!y6)) ?_;refine rs0 (ai a0) (zg q7) ?_;refine rs0 (.box (oi 3 1) 2) (zg q7) ?_;refine rsl (.agg [ai a1_2,ai a1_3,.tree (.slice .int) a1_4]) (zg q7) ?_;refine Bz (.bool y8) [] [ai a0,.agg [ai a1_2,ai a1_3,.tree (.slice .int) a1_4]] _ (caps:=[]) (args0:=[ai a0,.agg [ai a1_2,ai a1_3,.tree (.slice .int) a1_4]]) (Bg (by kernel_rfl) q7) (by kernel_rfl) (Qw h8) Ru ?_;refine rs0 (.bool (!y8)) (zg q7) ?_;refine rs0 (.bool (!y8)) (zF q7) ?_;refine Ao (tn_ ?_);obtain rfl:=zj h;exact ⟨_,Ac [(oi 0 1,oi 3 1)],rfl⟩
 rintro l3_m24 _ rfl h
 (try dsimp only at h);rcases Ad h with ⟨q9,h⟩ | ⟨q9,h⟩
 ·refine Af q9 ?_;refine Ak ?_;refine Ah (tr_ ?_);obtain rfl:=zj h;exact A0 [.bool false] (Ap rfl zl Ar)
 refine Ae q9 ?_;refine Ai (tn_ ?_);refine wr_ ?_;refine Ab ?_;obtain ⟨y12,h12,h⟩:=Ag h;refine Aa 11 ?_;refine rz0 (.box (oi 0 1) 1) ?_;refine rzl (.agg [.tree (.pair .int (.pair .int .str)) a1_1]) ?_;refine zc (.tup [.agg [ai y12.1,ai y12.2.1],.bool y12.2.2]) [] [.agg [.tree (.pair .int (.pair .int .str)) a1_1]] (J4 h12) ?_;refine rsB 6 ?_;refine Ao (tn_ ?_);refine wr_ ?_;refine Ak ?_;refine Ah ?_;obtain rfl:=zj h;exact A0 [.bool ([y12.1,y12.2.1]==[a1_2,a1_3])] (Ap rfl zl Ar)
end
end Go.Proofs.YtodopnonpadpfaaDoor
