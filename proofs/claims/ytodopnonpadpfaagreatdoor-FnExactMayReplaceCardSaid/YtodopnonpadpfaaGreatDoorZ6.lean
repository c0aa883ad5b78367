/- Lemmas on the program and on partial functions that stand in place of its code (part 6); no condition beyond those that each one states. -/
import Derived.Test.YtodopnonpadpfaaGreatDoorZ5
namespace Go.Proofs.YtodopnonpadpfaaGreatDoor
section
open Go.RowKit Go.Deep
theorem gw3 (w:World):Calls Tryz.prog 78 #[.int .i64 3] w fun e w'=>e=.returned (.agg #[.int .i64 1,.int .i64 2])∧Below w.heap.size w w':=by
 go_enter Tryz.func78,Tryz.ntmps78
 go_wp2
 refine bodyPost_ret (v:=.agg #[.int .i64 1,.int .i64 2]) (by simp [results,Tryz.results78,go_sem]) rfl ⟨rfl,?_⟩;exact (by repeat (first | with_reducible exact Below.refl _ _ | ((with_reducible refine Below.setCell ?_ ?_ _); rotate_left; focus (first | (simp; done) | omega | (simp; omega))) | ((with_reducible refine Below.alloc ?_ ?_ _); rotate_left; focus (first | (simp; done) | omega | (simp; omega))) | (with_reducible refine Below.drew ?_) | (with_reducible refine B6 ?_ _)))
theorem gw4 (w:World):Calls Tryz.prog 78 #[.int .i64 4] w fun e w'=>e=.returned (.agg #[.int .i64 1,.int .i64 0])∧Below w.heap.size w w':=by
 go_enter Tryz.func78,Tryz.ntmps78
 go_wp2
 refine bodyPost_ret (v:=.agg #[.int .i64 1,.int .i64 0]) (by simp [results,Tryz.results78,go_sem]) rfl ⟨rfl,?_⟩;exact (by repeat (first | with_reducible exact Below.refl _ _ | ((with_reducible refine Below.setCell ?_ ?_ _); rotate_left; focus (first | (simp; done) | omega | (simp; omega))) | ((with_reducible refine Below.alloc ?_ ?_ _); rotate_left; focus (first | (simp; done) | omega | (simp; omega))) | (with_reducible refine Below.drew ?_) | (with_reducible refine B6 ?_ _)))
theorem gw5 (w:World):Calls Tryz.prog 78 #[.int .i64 5] w fun e w'=>e=.returned (.agg #[.int .i64 2,.int .i64 1])∧Below w.heap.size w w':=by
 go_enter Tryz.func78,Tryz.ntmps78
 go_wp2
 refine bodyPost_ret (v:=.agg #[.int .i64 2,.int .i64 1]) (by simp [results,Tryz.results78,go_sem]) rfl ⟨rfl,?_⟩;exact (by repeat (first | with_reducible exact Below.refl _ _ | ((with_reducible refine Below.setCell ?_ ?_ _); rotate_left; focus (first | (simp; done) | omega | (simp; omega))) | ((with_reducible refine Below.alloc ?_ ?_ _); rotate_left; focus (first | (simp; done) | omega | (simp; omega))) | (with_reducible refine Below.drew ?_) | (with_reducible refine B6 ?_ _)))
theorem gw6 (w:World):Calls Tryz.prog 78 #[.int .i64 6] w fun e w'=>e=.returned (.agg #[.int .i64 0,.int .i64 1])∧Below w.heap.size w w':=by
 go_enter Tryz.func78,Tryz.ntmps78
 go_wp2
 refine bodyPost_ret (v:=.agg #[.int .i64 0,.int .i64 1]) (by simp [results,Tryz.results78,go_sem]) rfl ⟨rfl,?_⟩;exact (by repeat (first | with_reducible exact Below.refl _ _ | ((with_reducible refine Below.setCell ?_ ?_ _); rotate_left; focus (first | (simp; done) | omega | (simp; omega))) | ((with_reducible refine Below.alloc ?_ ?_ _); rotate_left; focus (first | (simp; done) | omega | (simp; omega))) | (with_reducible refine Below.drew ?_) | (with_reducible refine B6 ?_ _)))
theorem gw7 (w:World):Calls Tryz.prog 78 #[.int .i64 7] w fun e w'=>e=.returned (.agg #[.int .i64 1,.int .i64 1])∧Below w.heap.size w w':=by
 go_enter Tryz.func78,Tryz.ntmps78
 go_wp2
 refine bodyPost_ret (v:=.agg #[.int .i64 1,.int .i64 1]) (by simp [results,Tryz.results78,go_sem]) rfl ⟨rfl,?_⟩;exact (by repeat (first | with_reducible exact Below.refl _ _ | ((with_reducible refine Below.setCell ?_ ?_ _); rotate_left; focus (first | (simp; done) | omega | (simp; omega))) | ((with_reducible refine Below.alloc ?_ ?_ _); rotate_left; focus (first | (simp; done) | omega | (simp; omega))) | (with_reducible refine Below.drew ?_) | (with_reducible refine B6 ?_ _)))
theorem gw8 (w:World):Calls Tryz.prog 78 #[.int .i64 8] w fun e w'=>e=.returned (.agg #[.int .i64 1,.int .i64 1])∧Below w.heap.size w w':=by
 go_enter Tryz.func78,Tryz.ntmps78
 go_wp2
 refine bodyPost_ret (v:=.agg #[.int .i64 1,.int .i64 1]) (by simp [results,Tryz.results78,go_sem]) rfl ⟨rfl,?_⟩;exact (by repeat (first | with_reducible exact Below.refl _ _ | ((with_reducible refine Below.setCell ?_ ?_ _); rotate_left; focus (first | (simp; done) | omega | (simp; omega))) | ((with_reducible refine Below.alloc ?_ ?_ _); rotate_left; focus (first | (simp; done) | omega | (simp; omega))) | (with_reducible refine Below.drew ?_) | (with_reducible refine B6 ?_ _)))
theorem gw9 (w:World):Calls Tryz.prog 78 #[.int .i64 9] w fun e w'=>e=.returned (.agg #[.int .i64 2,.int .i64 1])∧Below w.heap.size w w':=by
 go_enter Tryz.func78,Tryz.ntmps78
 go_wp2
 refine bodyPost_ret (v:=.agg #[.int .i64 2,.int .i64 1]) (by simp [results,Tryz.results78,go_sem]) rfl ⟨rfl,?_⟩;exact (by repeat (first | with_reducible exact Below.refl _ _ | ((with_reducible refine Below.setCell ?_ ?_ _); rotate_left; focus (first | (simp; done) | omega | (simp; omega))) | ((with_reducible refine Below.alloc ?_ ?_ _); rotate_left; focus (first | (simp; done) | omega | (simp; omega))) | (with_reducible refine Below.drew ?_) | (with_reducible refine B6 ?_ _)))
theorem Aw2 (w:World):Calls Tryz.prog 78 #[.int .i64 10] w fun e w'=>e=.returned (.agg #[.int .i64 0,.int .i64 1])∧Below w.heap.size w w':=by
 go_enter Tryz.func78,Tryz.ntmps78
 go_wp2
 refine bodyPost_ret (v:=.agg #[.int .i64 0,.int .i64 1]) (by simp [results,Tryz.results78,go_sem]) rfl ⟨rfl,?_⟩;exact (by repeat (first | with_reducible exact Below.refl _ _ | ((with_reducible refine Below.setCell ?_ ?_ _); rotate_left; focus (first | (simp; done) | omega | (simp; omega))) | ((with_reducible refine Below.alloc ?_ ?_ _); rotate_left; focus (first | (simp; done) | omega | (simp; omega))) | (with_reducible refine Below.drew ?_) | (with_reducible refine B6 ?_ _)))
theorem Aw6 (w:World):Calls Tryz.prog 78 #[.int .i64 11] w fun e w'=>e=.returned (.agg #[.int .i64 1,.int .i64 2])∧Below w.heap.size w w':=by
 go_enter Tryz.func78,Tryz.ntmps78
 go_wp2
 refine bodyPost_ret (v:=.agg #[.int .i64 1,.int .i64 2]) (by simp [results,Tryz.results78,go_sem]) rfl ⟨rfl,?_⟩;exact (by repeat (first | with_reducible exact Below.refl _ _ | ((with_reducible refine Below.setCell ?_ ?_ _); rotate_left; focus (first | (simp; done) | omega | (simp; omega))) | ((with_reducible refine Below.alloc ?_ ?_ _); rotate_left; focus (first | (simp; done) | omega | (simp; omega))) | (with_reducible refine Below.drew ?_) | (with_reducible refine B6 ?_ _)))
theorem Aw4 (w:World):Calls Tryz.prog 78 #[.int .i64 12] w fun e w'=>e=.returned (.agg #[.int .i64 1,.int .i64 0])∧Below w.heap.size w w':=by
 go_enter Tryz.func78,Tryz.ntmps78
 go_wp2
 refine bodyPost_ret (v:=.agg #[.int .i64 1,.int .i64 0]) (by simp [results,Tryz.results78,go_sem]) rfl ⟨rfl,?_⟩;exact (by repeat (first | with_reducible exact Below.refl _ _ | ((with_reducible refine Below.setCell ?_ ?_ _); rotate_left; focus (first | (simp; done) | omega | (simp; omega))) | ((with_reducible refine Below.alloc ?_ ?_ _); rotate_left; focus (first | (simp; done) | omega | (simp; omega))) | (with_reducible refine Below.drew ?_) | (with_reducible refine B6 ?_ _)))
theorem Aw5 (w:World):Calls Tryz.prog 78 #[.int .i64 13] w fun e w'=>e=.returned (.agg #[.int .i64 1,.int .i64 1])∧Below w.heap.size w w':=by
 go_enter Tryz.func78,Tryz.ntmps78
 go_wp2
 refine bodyPost_ret (v:=.agg #[.int .i64 1,.int .i64 1]) (by simp [results,Tryz.results78,go_sem]) rfl ⟨rfl,?_⟩;exact (by repeat (first | with_reducible exact Below.refl _ _ | ((with_reducible refine Below.setCell ?_ ?_ _); rotate_left; focus (first | (simp; done) | omega | (simp; omega))) | ((with_reducible refine Below.alloc ?_ ?_ _); rotate_left; focus (first | (simp; done) | omega | (simp; omega))) | (with_reducible refine Below.drew ?_) | (with_reducible refine B6 ?_ _)))
theorem Aw3 (w:World):Calls Tryz.prog 78 #[.int .i64 14] w fun e w'=>e=.returned (.agg #[.int .i64 1,.int .i64 1])∧Below w.heap.size w w':=by
 go_enter Tryz.func78,Tryz.ntmps78
 go_wp2
 refine bodyPost_ret (v:=.agg #[.int .i64 1,.int .i64 1]) (by simp [results,Tryz.results78,go_sem]) rfl ⟨rfl,?_⟩;exact (by repeat (first | with_reducible exact Below.refl _ _ | ((with_reducible refine Below.setCell ?_ ?_ _); rotate_left; focus (first | (simp; done) | omega | (simp; omega))) | ((with_reducible refine Below.alloc ?_ ?_ _); rotate_left; focus (first | (simp; done) | omega | (simp; omega))) | (with_reducible refine Below.drew ?_) | (with_reducible refine B6 ?_ _)))
def gwV (k:Int):Int×Int:=if k=3 then (1,2) else if k=4 then (1,0) else if k=5 then (2,1) else if k=6 then (0,1) else if k=9 then (2,1) else if k=10 then (0,1) else if k=11 then (1,2) else if k=12 then (1,0) else (1,1)
def Fx (a0:Int):Option (Int×Int):=og (3<=a0∧a0<=14) (some (gwV a0))
def N4 (r:Int×Int):RV:=⟨false,[(true,[.sc (.int .i64 r.1),.sc (.int .i64 r.2)])]⟩
theorem N8:A5 Tryz.prog 78=true:=by kernel_rfl
theorem Au5 (k:Int) (h:3<=k∧k<=14) (w:World):Calls Tryz.prog 78 #[.int .i64 k] w fun e w'=>e=.returned (.agg #[.int .i64 (gwV k).1,.int .i64 (gwV k).2])∧Below w.heap.size w w':=by
 have hk:k=3∨k=4∨k=5∨k=6∨k=7∨k=8∨k=9∨k=10∨k=11∨k=12∨k=13∨k=14:=by omega
 rcases hk with rfl | rfl | rfl | rfl | rfl | rfl | rfl | rfl | rfl | rfl | rfl | rfl
 ·exact gw3 w
 ·exact gw4 w
 ·exact gw5 w
 ·exact gw6 w
 ·exact gw7 w
 ·exact gw8 w
 ·exact gw9 w
 ·exact Aw2 w
 ·exact Aw6 w
 ·exact Aw4 w
 ·exact Aw5 w
 ·exact Aw3 w
theorem N5 {a0:Int} {r:Int×Int} (h:Fx a0=some r):Ax Tryz.prog Tab 78 [.int .i64 a0] (N4 r):=by
 obtain ⟨hb,h⟩:=Au h;obtain rfl:=osj h;intro w im vs hG hr;obtain ⟨u1,_,rfl,h1,h2⟩:=hr;obtain rfl:_=[]:=h2;obtain rfl:u1=.int .i64 a0:=h1;refine (Au5 a0 hb w).mono ?_;rintro e w' ⟨rfl,hw⟩;exact ⟨_,rfl,hw,[_,_],[],⟨_,_,rfl,rfl,rfl,_,_,rfl,rfl,rfl,rfl,rfl⟩,⟨trivial,fun _=>rfl⟩,rfl⟩
end
section
open Go.RowKit Go.Deep
end
section
open Go.RowKit Go.Deep
def GN (G:World->Prop) (n:Nat) (w:World):Prop:=G w∧n<=w.heap.size
section
variable {P:Program} {G:World->Prop} {f:FuncId} {args:List AV} {r:RV} {n:Nat} {R:Nat->Prop}
theorem Auu (h:Ax P G f args r):Ax P (GN G n) f args r:=fun w im vs hG hr=>h w im vs (fun w' hb=>(hG w' hb).1) hr
theorem Avl {ol us:List (Oid×Ob)} {v:AV} (h:Ir P G f args ol v us):Ir P (GN G n) f args ol v us:=by
 intro θ i w0 ob σ K w vs hM h1 h2 h3 h4 h5;refine (h θ i w0 ob σ K w vs ⟨hM.below,fun w' hb=>(hM.inv w' hb).1,hM.gen,hM.lt,hM.cap,hM.inj,hM.obs⟩ h1 h2 h3 h4 h5).mono ?_;rintro e w' ⟨u,rfl,σ',q1,q2,q3⟩;exact ⟨u,rfl,σ',q1,⟨q2.below,hM.inv,q2.gen,q2.lt,q2.cap,q2.inj,q2.obs⟩,q3⟩
mutual
def AV.unR (R:Nat->Prop):AV->AV->Prop
 | .tree t xs,d=>d=.ftr R t xs
 | .agg cs,d=>∃ ds,d=.agg ds∧AV.unRL R cs ds
 | c,d=>c.scal=true∧d=c
def AV.unRL (R:Nat->Prop):List AV->List AV->Prop
 | [],ds=>ds=[]
 | c :: cs,ds=>∃ d ds',ds=d :: ds'∧AV.unR R c d∧AV.unRL R cs ds'
end
mutual
theorem Atr {im:Nat->Prop} {w:World}:∀ (c d:AV) (u:Value),AV.unR R c d->AV.Rep (fun _=>none) im w d u->AV.Rep (fun _=>none) (fun b=>im b∧R b) w c u
 | .tree t xs,d,u,h,hr=>by
  have h:d=.ftr R t xs:=h;subst h;exact hr
 | .agg cs,d,u,⟨ds,e,h⟩,hr=>by
  subst e;obtain ⟨us,e,hr⟩:=hr;exact ⟨us,e,Akb cs ds us h hr⟩
 | .int ..,d,u,⟨_,e⟩,hr=>by subst e; exact hr
 | .bool ..,d,u,⟨_,e⟩,hr=>by subst e; exact hr
 | .str ..,d,u,⟨_,e⟩,hr=>by subst e; exact hr
 | .nils,d,u,⟨_,e⟩,hr=>by subst e; exact hr
 | .any,d,u,⟨h,_⟩,_=>by cases h
 | .mtree ..,d,u,⟨h,_⟩,_=>by cases h
 | .ftr ..,d,u,⟨h,_⟩,_=>by cases h
 | .mp _,d,u,⟨h,_⟩,_=>by cases h
 | .tup _,d,u,⟨h,_⟩,_=>by cases h
 | .fn ..,d,u,⟨h,_⟩,_=>by cases h
 | .ref _,d,u,⟨h,_⟩,_=>by cases h
 | .own ..,d,u,⟨h,_⟩,_=>by cases h
 | .box ..,d,u,⟨h,_⟩,_=>by cases h
 | .elt ..,d,u,⟨h,_⟩,_=>by cases h
 | .sla ..,d,u,⟨h,_⟩,_=>by cases h
 | .telt ..,d,u,⟨h,_⟩,_=>by cases h
 | .giv ..,d,u,⟨h,_⟩,_=>by cases h
 | .abool ..,d,u,⟨h,_⟩,_=>by cases h
theorem Akb {im:Nat->Prop} {w:World}:∀ (cs ds:List AV) (us:List Value),AV.unRL R cs ds->AV.RepL (fun _=>none) im w ds us->AV.RepL (fun _=>none) (fun b=>im b∧R b) w cs us
 | [],ds,us,h,hr=>by obtain rfl:ds=[]:=h; exact hr
 | c :: cs,ds,us,⟨d,ds',e,h1,h2⟩,hr=>by
  subst e;obtain ⟨u,us',e,r1,r2⟩:=hr;exact ⟨u,us',e,Atr c d u h1 r1,Akb cs ds' us' h2 r2⟩
end
theorem At0 {p:Bool} {n:Nat} {d:Option Nat} {gd:Option (Nat×Bool)} {fo:Opd} {xs:List Opd} {tys:List (List (Option Ty))} {f:Nat->AV} {ob:Oid->Option Ob} {F:FuncId} {caps args:List AV} {rv:RV} {r:AV×List (Oid×Option Ob)}
  (hgd:Wl gd f) (hfo:fo.ev f=.fn F caps) (hg:AV.gndBL ((xs++caps.map Opd.cst).map (Opd.ev f))=true) (hn:O4 tys ((xs++caps.map Opd.cst).map (Opd.ev f))=args) (hb:A5 P F=true) (hc:Ax P G F args rv) (hr:rv.out (C5 ((d.getD 0,0),n)) ((xs++caps.map Opd.cst).map (Opd.ev f))=r) :
  Ea P G p n ⟨d,gd,.call fo xs tys⟩ f ob (1,r.1,r.2):=by
 subst hn;have key:EvR P G p f ob ((d.getD 0,0),n) (.call fo xs tys) (1,r.1,r.2):=.inr ⟨fo,xs,tys,F,caps,rfl,hfo,.inl ⟨rfl,hb,_,rv,.inr ⟨rfl,hg⟩,hc,hr⟩⟩;unfold Ea;cases gd with
 | none=>exact key
 | some sb=>exact ⟨true,Abg hgd,by rw [if_pos rfl]; exact key⟩
end
-- rows of things that nobody writes
theorem H7 (m:Option (Nat->Prop)):∀ (t:Ty) (x:t.D),(t.avM m x).length=t.size
 | .int,_ | .bool,_ | .str,_ | .slice _,_=>rfl
 | .pair a b,x=>by simp only [Ty.avM,List.length_append,H7 m a,H7 m b,Ty.size]
theorem Ast {m:Option (Nat->Prop)} {t:Ty} (xs:List t.D):(tvC m t xs).length=xs.length*t.size:=by
 unfold tvC
 induction xs with
 | nil=>simp
 | cons x xs ih=>rw [List.flatMap_cons,List.length_append,ih,H7,List.length_cons,Nat.succ_mul]; omega
theorem Am6 {ob:Oid->Option Ob} (m:Option (Nat->Prop)):∀ (t:Ty) (x:t.D),rdC ob t (t.avM m x)=some x
 | .int,_=>rfl
 | .bool,_=>rfl
 | .str,_=>rfl
 | .slice t,xs=>by
  have:E1 ob t (trM m t xs)=some xs:=by cases m <;> simp only [trM,E1,Ty.eq?_self,C2]
  simp only [Ty.avM,rdC,this]
 | .pair a b,x=>by
  have h1:(a.avM m x.1++b.avM m x.2).take a.size=a.avM m x.1:=List.take_left' (H7 m a x.1);have h2:(a.avM m x.1++b.avM m x.2).drop a.size=b.avM m x.2:=List.drop_left' (H7 m a x.1);simp only [Ty.avM,rdC,h1,h2,Am6 m a,Am6 m b]
theorem Agz {ob:Oid->Option Ob} {m:Option (Nat->Prop)} {t:Ty}:∀ (xs:List t.D),P9 (rdC ob t) t.size xs.length (tvC m t xs)=some xs
 | []=>rfl
 | x :: xs=>by
  have h1:(tvC m t (x :: xs)).take t.size=t.avM m x:=List.take_left' (H7 m t x);have h2:(tvC m t (x :: xs)).drop t.size=tvC m t xs:=List.drop_left' (H7 m t x);simp only [List.length_cons,P9,h1,h2,Am6,Agz xs]
section
variable {ob:Oid->Option Ob}
theorem Awj {n len:Nat} {o:Oid} {e:TypeId} {m:Option (Nat->Prop)} {t:Ty} {xs:List t.D} (ho:ob o=some (.vec e t.size xs.length (tvC m t xs))) (hl:len=xs.length):gnd ob (n+1) (.own o t 0 len)=some (.tree t xs):=by
 subst hl
 have:Akn ob t.size (rdC ob t) (.own o t 0 xs.length)=some xs:=by
  simp only [Akn,ho];rw [if_pos ⟨trivial,by omega⟩,Nat.zero_mul,List.drop_zero,List.take_of_length_le (by rw [Ast]; exact Nat.le_refl _)];exact Agz xs
 simp only [gnd,ho,this,Option.map_some]
end
section
variable {n:Nat} {d:Option Nat} {f:Nat->AV} {ob:Oid->Option Ob}
end
-- results
inductive Aju (R:Nat->Prop) (ob:Oid->Option Ob):AV->AV->Prop
 | ftr {t:Ty} {xs:List t.D}:Aju R ob (.ftr R t xs) (.tree t xs)
 | nil {t:Ty}:Aju R ob .nils (.tree t [])
 | arr {i:Oid} {t u:Ty} {e:TypeId} {xs:List u.D} {len:Nat}:ob i=some (.arr e u xs)->len=xs.length->Aju R ob (.own i t 0 len) (.tree u xs)
 | mat {o p:Oid} {e1 e:TypeId} {u:Ty} {xss:List (List u.D)} {len:Nat}:ob o=some (.vec e1 1 xss.length (hdL p u xss))->(∀ k row,xss[k]? =some row->ob (kid p k)=some (.arr e u row))->len=xss.length->Aju R ob (.own o (.slice u) 0 len) (.tree (.slice u) xss)
 | tv {o:Oid} {e:TypeId} {t:Ty} {xs:List t.D} {len:Nat}:ob o=some (.vec e t.size xs.length (tvC (some R) t xs))->len=xs.length->Aju R ob (.own o t 0 len) (.tree t xs)
section
variable {G:World->Prop} {w0 w:World} {ob:Oid->Option Ob} {σ:Oid->Option Loc} {K:Nat->Prop}
theorem Aih {im im':Nat->Prop} {i:Oid} {t:Ty} {off len:Nat} {v:Value} (h:AV.Rep σ im w (.own i t off len) v):AV.Rep σ im' w (.own i t off len) v:=h
theorem Ave {im im':Nat->Prop} {p:Oid} {u:Ty} {xss:List (List u.D)} {vs:List Value} (h:AV.RepL σ im w (hdL p u xss) vs):AV.RepL σ im' w (hdL p u xss) vs:=by
 have key:∀ (l:List (List u.D×Nat)) (vs:List Value),AV.RepL σ im w (l.map fun x=>.own (kid p x.2) u 0 x.1.length) vs->AV.RepL σ im' w (l.map fun x=>.own (kid p x.2) u 0 x.1.length) vs:=by
  intro l
  induction l with
  | nil=>intro vs h; exact h
  | cons x l ih=>rintro vs ⟨v,vs',e,h1,h2⟩; exact ⟨v,vs',e,Aih h1,ih vs' h2⟩
 exact key _ _ h
theorem Alt {im R:Nat->Prop}:∀ (t:Ty) (x:t.D) (vs:List Value),AV.RepL σ im w (t.avM (some R) x) vs->AV.RepL σ R w (t.av x) vs
 | .int,_,_,⟨v,vs',e,h1,h2⟩=>⟨v,vs',e,h1,h2⟩
 | .bool,_,_,⟨v,vs',e,h1,h2⟩=>⟨v,vs',e,h1,h2⟩
 | .str,_,_,⟨v,vs',e,h1,h2⟩=>⟨v,vs',e,h1,h2⟩
 | .slice t,xs,_,⟨v,vs',e,⟨A,c,l,e1,hs⟩,h2⟩=>⟨v,vs',e,⟨A,c,l,e1,B5 (fun b _ hb=>hb.2) hs⟩,h2⟩
 | .pair a b,x,vs,h=>by
  have hl:=h.length;have h1:=h.take a.size;have h2:=h.drop a.size;have e1:((Ty.pair a b).avM (some R) x).take a.size=a.avM (some R) x.1:=List.take_left' (H7 _ a x.1);have e2:((Ty.pair a b).avM (some R) x).drop a.size=b.avM (some R) x.2:=List.drop_left' (H7 _ a x.1);rw [e1] at h1;rw [e2] at h2;have:=(Alt a x.1 _ h1).append (Alt b x.2 _ h2);rw [List.take_append_drop] at this;exact this
theorem Arx {im R:Nat->Prop} {t:Ty}:∀ (xs:List t.D) (vs:List Value),AV.RepL σ im w (tvC (some R) t xs) vs->AV.RepL σ R w (tvC none t xs) vs
 | [],_,h=>h
 | x :: xs,vs,h=>by
  have h1:=h.take t.size;have h2:=h.drop t.size;have e1:(tvC (some R) t (x :: xs)).take t.size=t.avM (some R) x:=List.take_left' (H7 _ t x);have e2:(tvC (some R) t (x :: xs)).drop t.size=tvC (some R) t xs:=List.drop_left' (H7 _ t x);rw [e1] at h1;rw [e2] at h2
  have hav:∀ (t:Ty) (x:t.D),t.avM none x=t.av x:=by
   intro t
   induction t with
   | pair a b ha hb=>intro x; simp only [Ty.avM,Ty.av,ha,hb]
   | _=>intro x; rfl
  have h1':=Alt t x _ h1;rw [← hav] at h1';have:=h1'.append (Arx xs _ h2);rw [List.take_append_drop] at this;exact this
theorem Arw {R:Nat->Prop} (hM:Mem0 G w0 ob σ K w) (hR:∀ b,w0.heap.size<=b->R b) {c d:AV} {v:Value} (h:Aju R ob c d) (hr:AV.Rep σ (imm ob σ) w c v):AV.Rep (fun _=>none) R w d v:=by
 cases h with
 | ftr=>obtain ⟨A,c,l,e,hs⟩:=hr; exact ⟨A,c,l,e,B5 (fun b _ hb=>hb.2) hs⟩
 | nil=>exact ⟨none,0,[],hr,by simp,by simp [maxLen],fun _=>[],by simp,fun h=>absurd h (by simp)⟩
 | @arr i t u e xs len h1 h2 =>
  refine Nc (ob:=fun j=>if j=i then some (.arr e u xs) else none) (σ:=σ) (im:=R) (lo:=w0.heap.size) (fun j o l hj hl=>?_) (fun _ hb=>hb) (fun j o b c s _ hs=>hR b (hM.lt j b c s hs).1) 1 _ _ _ (Th (e:=e) (if_pos rfl) h2) (Aih hr);split at hj
  ·rename_i e'; subst e';obtain rfl:=osj hj;exact hM.obs j _ l h1 hl
  ·cases hj
 | @mat o p e1 e u xss len h1 h2 h3 =>
  refine Nc (ob:=fun j=>match ob j with | some (.arr e u xs)=>some (.arr e u xs) | _=>if j=o then some (.vec e1 1 xss.length (hdL p u xss)) else none) (σ:=σ) (im:=R) (lo:=w0.heap.size) (fun j q l hj hl=>?_) (fun _ hb=>hb) (fun j o b c s _ hs=>hR b (hM.lt j b c s hs).1) 1 _ _ _ (Aqy (p:=p) (e1:=e1) (e:=e) (by simp only [h1]; rw [if_pos trivial]) (fun k row hk=>by simp only [h2 k row hk]) h3) (Aih hr);split at hj
  ·rename_i e' u' xs' hj';obtain rfl:=osj hj;exact hM.obs j _ l hj' hl
  ·split at hj
   ·rename_i e'; subst e';obtain rfl:=osj hj;obtain ⟨vs,g1,g2,g3⟩:=hM.obs j _ l h1 hl;exact ⟨vs,g1,Ave g2,g3⟩
   ·cases hj
 | @tv o e t xs len h1 h2 =>
  refine Nc (ob:=fun j=>if j=o then some (.vec e t.size xs.length (tvC none t xs)) else none) (σ:=σ) (im:=R) (lo:=w0.heap.size) (fun j q l hj hl=>?_) (fun _ hb=>hb) (fun j o b c s _ hs=>hR b (hM.lt j b c s hs).1) 1 _ _ _ (Awj (m:=none) (e:=e) (if_pos rfl) h2) (Aih hr);split at hj
  ·rename_i e'; subst e';obtain rfl:=osj hj;obtain ⟨vs,g1,g2,g3⟩:=hM.obs j _ l h1 hl;exact ⟨vs,g1,Arx xs vs g2,g3⟩
  ·cases hj
def RL.zl:Bool->AV->RL
 | true,d=>.frz d
 | false,d=>.imm d
def zR (z:Bool) (im:Nat->Prop) (n:Nat) (b:Nat):Prop:=if z then n<=b else im b∨n<=b
theorem Aun {z:Bool} {im:Nat->Prop} {n b:Nat} (h:n<=b):zR z im n b:=by cases z; exact .inr h; exact h
def Aj5 (R:Nat->Prop) (z:Bool) (ob:Oid->Option Ob) (c:AV) (l:RL):Prop:=(c.scal=true∧l=.sc c)∨∃ d,l=.zl z d∧d.gndB=true∧Aju R ob c d
def L9 (R:Nat->Prop) (z:Bool) (ob:Oid->Option Ob):List AV->List RL->Prop
 | [],ls=>ls=[]
 | c :: cs,ls=>∃ l ls',ls=l :: ls'∧Aj5 R z ob c l∧L9 R z ob cs ls'
def N3 (R:Nat->Prop) (z:Bool) (ob:Oid->Option Ob):List (Bool×List AV)->List (Bool×List RL)->Prop
 | [],ps=>ps=[]
 | (b,cs) :: r,ps=>∃ ls ps',ps=(b,ls) :: ps'∧L9 R z ob cs ls∧(b=false->cs.length=1)∧N3 R z ob r ps'
def Atb:List (Bool×List AV)->List AV
 | []=>[]
 | (b,cs) :: r=>(if b then .agg cs else cs.headD .any) :: Atb r
def Atg (R:Nat->Prop) (z:Bool) (rs:List Res) (S:St) (r:RV):Prop :=
 ∃ gs ps,Res.evL S.tm S.ob rs=some (Atb gs)∧N3 R z S.ob gs ps∧r=⟨decide (rs.length≠1),ps⟩
theorem Xy {z:Bool} (hM:Mem0 G w0 ob σ K w) {im:Nat->Prop} {vs0:List Value}:∀ {cs:List AV} {ls:List RL} {us:List Value},L9 (zR z im w0.heap.size) z ob cs ls->AV.RepL σ (imm ob σ) w cs us->RL.RepL w0.heap.size im vs0 w ls us []∧ls.length=us.length
 | [],ls,us,h,hr=>by obtain rfl:ls=[]:=h; exact ⟨⟨hr,rfl⟩,by rw [show us=[] from hr]; rfl⟩
 | c :: cs,ls,us,⟨l,ls',e,h1,h2⟩,⟨u,us',e',r1,r2⟩=>by
  subst e e';obtain ⟨q1,q2⟩:=Xy hM (im:=im) (vs0:=vs0) h2 r2;refine ⟨?_,by simp [q2]⟩;rcases h1 with ⟨a1,rfl⟩ | ⟨d,rfl,a1,a2⟩
  ·exact ⟨u,us',rfl,(by cases c <;> first | exact r1 | cases a1),a1,q1⟩
  ·have hr:=Arw hM (fun _ h=>Aun h) a2 r1;cases z with
   | true=>exact ⟨u,us',rfl,Nh (fun b h=>h) _ a1 _ hr,a1,q1⟩
   | false=>exact ⟨u,us',rfl,Nh (fun b h=>h) _ a1 _ hr,a1,q1⟩
theorem Ajy {lo:Nat} {im:Nat->Prop} {vs:List Value} {w:World}:∀ {rs:List RL} {us:List Value} {rs':List RL} {us':List Value},(∀ l∈rs,(∃ c,l=.sc c)∨(∃ d,l=.frz d)∨∃ d,l=.imm d)->RL.RepL lo im vs w rs us []->RL.RepL lo im vs w rs' us' []->RL.RepL lo im vs w (rs++rs') (us++us') []
 | [],_,_,_,_,⟨e,_⟩,h=>by subst e; exact h
 | l :: rs,us,rs',us',hk,h,h'=>by
  have hk':=fun l hl=>hk l (List.mem_cons_of_mem _ hl)
  rcases hk l List.mem_cons_self with ⟨c,rfl⟩ | ⟨d,rfl⟩ | ⟨d,rfl⟩ <;> obtain ⟨u,us1,rfl,q1,q2,q3⟩:=h <;> exact ⟨u,us1++us',rfl,q1,q2,Ajy hk' q3 h'⟩
theorem Ue {R:Nat->Prop} {z:Bool}:∀ {cs:List AV} {ls:List RL},L9 R z ob cs ls->∀ l∈ls,(∃ c,l=.sc c)∨(∃ d,l=.frz d)∨∃ d,l=.imm d
 | [],ls,h,l,hl=>by rw [show ls=[] from h] at hl; cases hl
 | c :: cs,ls,⟨l0,ls',e,h1,h2⟩,l,hl=>by
  subst e;rcases List.mem_cons.1 hl with rfl | hl
  ·rcases h1 with ⟨_,rfl⟩ | ⟨d,rfl,_⟩
   ·exact .inl ⟨_,rfl⟩
   ·cases z with
    | true=>exact .inr (.inl ⟨_,rfl⟩)
    | false=>exact .inr (.inr ⟨_,rfl⟩)
  ·exact Ue h2 l hl
theorem Acz {z:Bool} (hM:Mem0 G w0 ob σ K w) {im:Nat->Prop} {vs0:List Value}:∀ {gs:List (Bool×List AV)} {ps:List (Bool×List RL)} {us:List Value},N3 (zR z im w0.heap.size) z ob gs ps->AV.RepL σ (imm ob σ) w (Atb gs) us->∃ vs,RL.RepL w0.heap.size im vs0 w (ps.flatMap (·.2)) vs []∧Jo ps vs=us
 | [],ps,us,h,hr=>by
  obtain rfl:ps=[]:=h;exact ⟨[],⟨rfl,rfl⟩,hr.symm⟩
 | (b,cs) :: gs,ps,us,⟨ls,ps',e,h1,h2,h3⟩,⟨u,us',e',r1,r2⟩=>by
  subst e e';obtain ⟨vs,q1,q2⟩:=Acz hM (im:=im) (vs0:=vs0) h3 r2
  have key:∀ ws:List Value,AV.RepL σ (imm ob σ) w cs ws->(if b then Value.agg ws.toArray else ws.headD undef)=u->∃ vs,RL.RepL w0.heap.size im vs0 w (((b,ls) :: ps').flatMap (·.2)) vs []∧Jo ((b,ls) :: ps') vs=u :: us':=fun ws hw hu=>by
   obtain ⟨a1,a2⟩:=Xy hM (im:=im) (vs0:=vs0) h1 hw;refine ⟨ws++vs,Ajy (Ue h1) a1 q1,?_⟩;simp only [Jo];rw [List.drop_left' a2.symm,q2,List.take_left' a2.symm];congr 1;cases b with
   | true=>exact hu
   | false =>
    have hl:=h2 rfl;rw [← hw.length] at hl;cases ws with
    | nil=>simp at hl
    | cons w0 ws=>exact hu
  cases b with
  | true =>
   obtain ⟨ws,e1,e2⟩:=r1;exact key ws e2 (by rw [e1]; rfl)
  | false =>
   have hl:=h2 rfl;obtain ⟨c,rfl⟩:=List.length_eq_one_iff.1 hl;exact key [u] ⟨u,[],rfl,r1,rfl⟩ rfl
end
theorem Alb {P:Program} [IsP P] {G:World->Prop} (hfol:P.follows .mixedOrders=true) {g:FuncId} {fn:Func} (hf:P.funcs[g]? =some fn) {ac:AC} {rs:List Res} (hc0:Am P fn=some (ac,rs)) {args:List AV} {args':(Nat->Prop)->List AV} {r:RV} {n:Nat} (z:Bool) (hN:fn.ntmps=n) (hn:∀ R,(args' R).length<=n) {tl:(Nat->Prop)->List (Nat×AV)} (htl:∀ R,tmL 0 (args' R)=tl R) (ha:∀ (R im:Nat->Prop) (w:World) (us:List Value),(∀ b,im b->z=false->R b)->AV.RepL (fun _=>none) im w args us->AV.RepL (fun _=>none) im w (args' R) us)
  (h:∀ (n:Nat) (R:Nat->Prop),(∀ b,n<=b->R b)->awp P (GN G n) ac (fun e S=>∃ S',Weak S S'∧(e=.normal∨e=.ret)∧Atg R z rs S' r) ⟨Ao (tl R),Ak [],1⟩):Ax P G g args r:=by
 subst hN
 have h0:∃ c,fn.body=some c∧AC.of P fn.ntmps c=some ac∧Res.ofL P fn.results.toList=some rs:=by
  unfold Am at hc0;split at hc0
  ·rename_i c hb;split at hc0
   ·rename_i ac' rs' h1 h2;obtain ⟨rfl,rfl⟩:=Prod.mk.inj (osj hc0);exact ⟨c,hb,h1,h2⟩
   ·cases hc0
  ·cases hc0
 obtain ⟨c,hb,hc,hrs⟩:=h0;intro w im vs hG hargs
 replace h:=h w.heap.size (zR z im w.heap.size) fun _ h=>Aun h
 replace hn:=hn (zR z im w.heap.size)
 rw [← htl,← St.init_eq] at h
 replace hargs:=ha (zR z im w.heap.size) im w vs (fun b hb e=>by subst e; exact .inl hb) hargs
 generalize args' (zR z im w.heap.size)=args at h hn hargs;have hlen:vs.length=args.length:=hargs.length
 have hany:∀ (cs:List AV) (us:List Value),AV.RepL (fun _=>none) im w cs us->AV.RepL (fun _=>none) (imm (fun _=>none) (fun _=>none)) w cs us:=fun cs us h' =>
  AV.RepL.later ⟨fun _ _ h=>h,(fun _ _ _ _ _ _ _ h=>by cases h),fun _ _ _=>rfl,Nat.le_refl _⟩ cs us h'
 have hreps:O1 (GN G w.heap.size) w ⟨fun _=>none,fun _=>False,w,fun _ _ h=>(nomatch h)⟩ fn.ntmps (St.init args) { tmps:=vs.toArray++Array.replicate (fn.ntmps - vs.toArray.size) undef,defers:=[] } w:=by
  refine ⟨⟨fun _=>none,⟨Below.refl _ _,fun w' hb=>⟨hG w' hb,hb.size⟩,(fun _ _ h=>by cases h),(fun _ _ _ _ h=>by cases h),(fun _ _ _ _ h=>by cases h),(fun _ _ _ _ _ _ _ _ _ h=>by cases h),(fun _ _ _ h=>by cases h)⟩,fun t=>?_,⟨fun _ _ h=>h,fun _ _ h=>h.elim,fun _ _ h=>h.elim,Nat.le_refl _⟩⟩,by simp; omega,rfl,fun i h=>absurd rfl h⟩;simp only [St.init,gDg];cases ht:args[t]? with
  | none=>trivial
  | some c =>
   obtain ⟨v,hv,hr⟩:=(hany _ _ hargs).get ht;have hlt:t<vs.length:=(gSi.1 hv).1
   have e:(vs.toArray++Array.replicate (fn.ntmps - vs.toArray.size) undef).getD t undef=v:=by
    rw [Array.getD_eq_getD_getElem?,Array.getElem?_append_left (by simpa using hlt)];simp [hv]
   rw [e];exact hr
 refine calls_of_wp hf hb (Code.wp_mono (fun e a' w' hq=>?_) (Xh hfol c ac _ _ _ w hc h hreps));obtain ⟨e',S0,rfl,⟨S',hweak,hend,gs,ps,h1,h2,h4⟩,hr⟩:=hq
 replace hr:=hweak _ _ _ _ _ _ hr
 obtain ⟨σ,hM,hF,_⟩:=hr.ex
 have hrun:∀ (vars:List ResultVar) (rs:List Res) (avs:List AV),Res.ofL P vars=some rs->Res.evL S'.tm S'.ob rs=some avs ->
   ∃ us,(vars.mapM (Aj9 a'.tmps)).run P w'=.ok us w'∧AV.RepL σ (imm S'.ob σ) w' avs us∧us.length=vars.length∧rs.length=vars.length:=by
  intro vars
  induction vars with
  | nil =>
   intro rs avs q1 q2;obtain rfl:[]=rs:=osj q1;obtain rfl:[]=avs:=osj q2;exact ⟨[],rfl,rfl,rfl,rfl⟩
  | cons v vars ih =>
   intro rs avs q1 q2;simp only [Res.ofL] at q1;split at q1
   ·rename_i x xs p1 p2;obtain rfl:=osj q1;simp only [Res.evL] at q2;split at q2
    ·rename_i y ys p3 p4;obtain rfl:=osj q2;obtain ⟨u,r1,r2⟩:=Res.run hM hF p1 p3;obtain ⟨us,r3,r4,r5,r6⟩:=ih _ _ p2 p4;refine ⟨u :: us,?_,⟨u,us,rfl,r2,r4⟩,by simp [r5],by simp [r6]⟩;rw [List.mapM_cons,Sem.run_bind,r1];simp only [Result.andThen_ok,Sem.run_bind,r3,Sem.run_pure]
    ·cases q2
   ·cases q1
 obtain ⟨us,u1,u2,u3,u4⟩:=hrun fn.results.toList rs _ hrs h1;obtain ⟨vs',f1,f3⟩:=Acz (im:=im) (vs0:=vs) hM h2 u2;have hres:(results fn a'.tmps).run P w'=.ok (if fn.results.size=1 then us.headD undef else .tuple us.toArray) w':=Pk u1 (by rw [u3]; simp)
 have hrv:r.Rep w.heap.size im vs w' (if fn.results.size=1 then us.headD undef else .tuple us.toArray):=by
  subst h4;refine ⟨vs',[],f1,⟨trivial,fun _=>rfl⟩,?_⟩;simp only [f3];have:rs.length=fn.results.size:=by rw [u4]; simp
  rw [this];by_cases h1:fn.results.size=1 <;> simp [h1]
 have fin:∃ u,(results fn a'.tmps).run P w'=.ok u w'∧∃ v,Ending.returned u=.returned v∧Below w.heap.size w w'∧r.Rep w.heap.size im vs w' v:=⟨_,hres,_,rfl,hM.below,hrv⟩
 rcases hend with rfl | rfl
 ·exact ⟨hr.defers,fin⟩
 ·exact ⟨hr.defers,fin⟩
theorem Aq4 {P:Program} [IsP P] {G:World->Prop} (hfol:P.follows .mixedOrders=true) {g:FuncId} {fn:Func} (hf:P.funcs[g]? =some fn) {ac:AC} {rs:List Res} (hc0:Am P fn=some (ac,rs)) {args:List AV} {r:RV} {n:Nat} (hN:fn.ntmps=n) (hn:args.length<=n) {tl:List (Nat×AV)} (htl:tmL 0 args=tl)
  (h:∀ (n:Nat) (R:Nat->Prop),(∀ b,n<=b->R b)->awp P (GN G n) ac (fun e S=>∃ S',Weak S S'∧(e=.normal∨e=.ret)∧Atg R true rs S' r) ⟨Ao tl,Ak [],1⟩):Ax P G g args r :=
 Alb hfol hf hc0 (args':=fun _=>args) true hN (fun _=>hn) (tl:=fun _=>tl) (fun _=>htl) (fun _ _ _ _ _ h=>h) h
mutual
theorem Aq2 {R im:Nat->Prop} {w:World} (hR:∀ b,im b->R b):∀ (c d:AV) (u:Value),AV.unR R c d->AV.Rep (fun _=>none) im w c u->AV.Rep (fun _=>none) im w d u
 | .tree t xs,d,u,h,⟨A,c,l,e,hs⟩=>by
  have h:d=.ftr R t xs:=h;subst h;exact ⟨A,c,l,e,B5 (fun b _ hb=>⟨hb,hR b hb⟩) hs⟩
 | .agg cs,d,u,⟨ds,e,h⟩,hr=>by
  subst e;obtain ⟨us,e,hr⟩:=hr;exact ⟨us,e,Wv hR cs ds us h hr⟩
 | .int ..,d,u,⟨_,e⟩,hr=>by subst e; exact hr
 | .bool ..,d,u,⟨_,e⟩,hr=>by subst e; exact hr
 | .str ..,d,u,⟨_,e⟩,hr=>by subst e; exact hr
 | .nils,d,u,⟨_,e⟩,hr=>by subst e; exact hr
 | .any,d,u,⟨h,_⟩,_=>by cases h
 | .mtree ..,d,u,⟨h,_⟩,_=>by cases h
 | .ftr ..,d,u,⟨h,_⟩,_=>by cases h
 | .mp _,d,u,⟨h,_⟩,_=>by cases h
 | .tup _,d,u,⟨h,_⟩,_=>by cases h
 | .fn ..,d,u,⟨h,_⟩,_=>by cases h
 | .ref _,d,u,⟨h,_⟩,_=>by cases h
 | .own ..,d,u,⟨h,_⟩,_=>by cases h
 | .box ..,d,u,⟨h,_⟩,_=>by cases h
 | .elt ..,d,u,⟨h,_⟩,_=>by cases h
 | .sla ..,d,u,⟨h,_⟩,_=>by cases h
 | .telt ..,d,u,⟨h,_⟩,_=>by cases h
 | .giv ..,d,u,⟨h,_⟩,_=>by cases h
 | .abool ..,d,u,⟨h,_⟩,_=>by cases h
theorem Wv {R im:Nat->Prop} {w:World} (hR:∀ b,im b->R b):∀ (cs ds:List AV) (us:List Value),AV.unRL R cs ds->AV.RepL (fun _=>none) im w cs us->AV.RepL (fun _=>none) im w ds us
 | [],ds,us,h,hr=>by obtain rfl:ds=[]:=h; exact hr
 | c :: cs,ds,us,⟨d,ds',e,h1,h2⟩,hr=>by
  subst e;obtain ⟨u,us',e,r1,r2⟩:=hr;exact ⟨u,us',e,Aq2 hR c d u h1 r1,Wv hR cs ds' us' h2 r2⟩
end
theorem Aqs {P:Program} [IsP P] {G:World->Prop} (hfol:P.follows .mixedOrders=true) {g:FuncId} {fn:Func} (hf:P.funcs[g]? =some fn) {ac:AC} {rs:List Res} (hc0:Am P fn=some (ac,rs)) {args:List AV} (args':(Nat->Prop)->List AV) {r:RV} {n:Nat} (hN:fn.ntmps=n) (hn:∀ R,(args' R).length<=n) (hu:∀ R,AV.unRL R args (args' R)) {tl:(Nat->Prop)->List (Nat×AV)} (htl:∀ R,tmL 0 (args' R)=tl R)
  (h:∀ (n:Nat) (R:Nat->Prop),(∀ b,n<=b->R b)->awp P (GN G n) ac (fun e S=>∃ S',Weak S S'∧(e=.normal∨e=.ret)∧Atg R false rs S' r) ⟨Ao (tl R),Ak [],1⟩):Ax P G g args r :=
 Alb hfol hf hc0 false hN hn htl (fun R im w us hR hr=>Wv (fun b hb=>hR b hb rfl) _ _ _ (hu R) hr) h
theorem Arh {R:Nat->Prop} {z:Bool} {rs:List Res} {tm:Nat->AV} {ob:Oid->Option Ob} {g:Nat} {r:RV} (gs:List (Bool×List AV)) {e:AE} (h2:N3 R z ob gs r.ps) (he:e=.normal∨e=.ret:=by simp) (h1:Res.evL tm ob rs=some (Atb gs):=by kernel_rfl) (h4:r.tup=decide (rs.length≠1):=by kernel_rfl):∃ S',Weak ⟨tm,ob,g⟩ S'∧(e=.normal∨e=.ret)∧Atg R z rs S' r :=
 ⟨_,Weak.refl _,he,gs,r.ps,h1,h2,by cases r; cases h4; rfl⟩
theorem Am4 {tl:List (Nat×AV)} {ol:List (Oid×Option Ob)} {g:Nat} (s:Nat) (c:AV) (h:∀ (σ:Oid->Option Loc) (im:Nat->Prop) (w:World) (v:Value),AV.Rep σ im w (Ao tl s) v->AV.Rep σ im w c v):Weak ⟨Ao tl,Ak ol,g⟩ ⟨Ao ((s,c) :: tl),Ak ol,g⟩:=by
 intro G w0 B N a w hr;obtain ⟨σ,hm,hf,hB⟩:=hr.ex;refine ⟨⟨σ,hm,fun u=>?_,hB⟩,hr.size,hr.defers,hr.obg⟩;show AV.Rep σ _ w (if u=s then c else Ao tl u) _;by_cases hu:u=s
 ·subst hu; rw [if_pos rfl]; exact h _ _ _ _ (hf u)
 ·rw [if_neg hu]; exact hf u
section
variable {R:Nat->Prop} {z:Bool} {ob:Oid->Option Ob}
theorem Amm:N3 R z ob [] []:=rfl
theorem Avo {cs:List AV} {r:List (Bool×List AV)} {ls:List RL} {ps:List (Bool×List RL)} (h1:L9 R z ob cs ls) (h2:N3 R z ob r ps):N3 R z ob ((true,cs) :: r) ((true,ls) :: ps):=⟨ls,ps,rfl,h1,(fun h=>by cases h),h2⟩
theorem Ar8 {c:AV} {r:List (Bool×List AV)} {l:RL} {ps:List (Bool×List RL)} (h1:Aj5 R z ob c l) (h2:N3 R z ob r ps):N3 R z ob ((false,[c]) :: r) ((false,[l]) :: ps):=⟨[l],ps,rfl,⟨l,[],rfl,h1,rfl⟩,fun _=>rfl,h2⟩
theorem Avd:L9 R z ob [] []:=rfl
theorem V7 {c:AV} {cs:List AV} {l:RL} {ls:List RL} (h1:Aj5 R z ob c l) (h2:L9 R z ob cs ls):L9 R z ob (c :: cs) (l :: ls):=⟨l,ls,rfl,h1,h2⟩
theorem An2 {c:AV} (h:c.scal=true:=by kernel_rfl):Aj5 R z ob c (.sc c):=.inl ⟨h,rfl⟩
theorem Am2 {c:AV} {t:Ty} {xs:List t.D} (h:Aju R ob c (.tree t xs)):Aj5 R z ob c (.zl z (.tree t xs)):=.inr ⟨_,rfl,rfl,h⟩
end
section
variable {P:Program} {G:World->Prop} {g k d:Nat} {gd:Option (Nat×Bool)} {xs:List X} {tl:List (Nat×AV)} {ol:List (Oid×Option Ob)} {bad:List (Nat×Nat)} {ra:List Rec} {da:List (List Oid)} {Kf:List (Nat×AV)->List (Oid×Option Ob)->Prop}
variable {fo:Opd} {ys:List Opd} {tys:List (List (Option Ty))} {F:FuncId} {caps:List AV} {rv:RV}
theorem Arc (v:AV) (us:List (Oid×Option Ob)) (zs args:List AV) (hgd:Wl gd (Ao tl)) (hc:Ax P G F args rv) (hb:A5 P F=true) (h3:XW P G g (k+1) xs ((d,v) :: tl) (us.reverseAux ol) Kf) (hg:AV.gndBL zs=true:=by kernel_rfl) (hfo:fo.ev (Ao tl)=.fn F caps:=by kernel_rfl) (hz:(ys++caps.map Opd.cst).map (Opd.ev (Ao tl))=zs:=by kernel_rfl) (hn:O4 tys zs=args:=by kernel_rfl) (hr:rv.out (C5 ((d,0),g+k)) zs=(v,us):=by kernel_rfl) (hx:E9 us=true:=by rfl):XW P G g k (⟨some d,gd,.call fo ys tys⟩ :: xs) tl ol Kf:=by
 subst hz;exact Aab 1 v us (At0 (P:=P) (G:=G) (p:=false) (n:=g+k) (d:=some d) hgd hfo hg hn hb hc hr) h3 hx
end
end
section
open Go.RowKit Go.Deep
section
variable {σ:Oid->Option Loc} {im:Nat->Prop} {w:World}
end
section
variable {n:Nat} {d:Option Nat} {f:Nat->AV} {ob:Oid->Option Ob}
end
end
section
open Go.RowKit Go.Deep
set_option maxRecDepth 4000
def Rn:AC :=
 (.seq (rg [xo 2 (.i (.box 72 (tm 0))),xo 4 (qm (ci 0))])
 (.seq (rg [xo 5 (qm (tm 1)),xo 6 (qf 2 (tm 2)),xo 7 (ql (tm 6)),xo 8 (.i (.lenS (tm 7))),xo 9 (qb .sub (tm 5) (tm 8)),xo 1 (qm (tm 9))])
 (.seq (.seq (rg [xo 10 (qm (tm 1)),xo 11 (qb .lss (tm 10) (ci 0))])
 (.cond (tm 11)
  (.seq (rg [xo 4 (qm (ci (-1)))])
  .ret)
  .skip))
 (.seq (rg [xo 12 (qm (tm 1)),xo 4 (qm (tm 12))])
 .ret))))
def Aev:List Res:=[.tmp 4]
theorem Ad5:Am Tryz.prog Tryz.f36=some (Rn,Aev):=by kernel_rfl
def I8 (a0_0:Int) (a0_1:Int) (a0_2:ByteArray) (a1:Int):Option Int :=
 cond (decide (wI (a1 - ((a0_2.size:Nat):Int))<0))
 (some (-1))
 (some (wI (a1 - ((a0_2.size:Nat):Int))))
def Acg (r:Int):RV:=⟨false,[(false,[.sc (.int .i64 r)])]⟩
theorem Abz {a0_0:Int} {a0_1:Int} {a0_2:ByteArray} {a1:Int} {r:Int} (h:I8 a0_0 a0_1 a0_2 a1=some r):Ax Tryz.prog Tab 36 [.agg [ai a0_0,ai a0_1,.str a0_2],ai a1] (Acg r):=by
 refine Ar (by kernel_rfl) Tryz.func36 Ad5 (n:=13) (by kernel_rfl) (by simp) (tl:=[(0,.agg [ai a0_0,ai a0_1,.str a0_2]),(1,ai a1)]) rfl ?_;unfold Rn;unfold I8 at h;refine Aj ?_;refine Aj ?_;refine Ab ?_;refine Aj ?_;rcases Ad h with ⟨q5,h⟩ | ⟨q5,h⟩
 ·have q5_:=of_decide_eq_true q5;refine Af q5 ?_;refine Aj ?_;refine Ah (tr_ ?_);obtain rfl:=zj h;exact A0 [ai (-1)] (Ap rfl zl As)
 have q5_:=of_decide_eq_false q5;refine Ag q5 ?_;refine Ai (tn_ ?_);refine wr_ ?_;refine Aj ?_;refine Ah ?_;obtain rfl:=zj h;exact A0 [ai (wI (a1 - ((a0_2.size:Nat):Int)))] (Ap rfl zl As)
def Lt:AC :=
 (.seq (.seq (rg [xo 12 (qm (tm 5)),xo 13 (qm (tm 0)),xo 14 (.i (.len (tm 13))),xo 15 (qb .lss (tm 12) (tm 14))])
 (.cond (tm 15)
  .skip
  (.exit 0)))
 (.seq (.block 1 (.seq (rg [xo 18 (qm (tm 0)),xo 19 (qm (tm 5)),xo 20 (qx 3 (tm 18) (tm 19)),xo 21 (.i (.ld false 3 (tm 20))),xo 22 (qm (tm 1)),xo 23 (qc 36 [tm 21,tm 22] [[none,none,none],[]]),xo 1 (qm (tm 23))])
 (.seq (rg [xo 24 (qm (tm 1)),xo 25 (qb .lss (tm 24) (ci 0))])
 (.cond (tm 25)
  (.seq (rg [xo 4 (qm (ci (-1)))])
  .ret)
  .skip))))
 (rg [xo 16 (qm (tm 5)),xo 17 (qb .add (tm 16) (ci 1)),xo 5 (qm (tm 17))])))
def P3:AC :=
 (.seq (rg [xo 4 (qm (ci 0))])
 (.seq (rg [xo 6 (qm (tm 1)),xo 7 (qm (tm 0)),xo 8 (.i (.len (tm 7))),xo 9 (qb .sub (tm 6) (tm 8)),xo 1 (qm (tm 9))])
 (.seq (.seq (rg [xo 10 (qm (tm 1)),xo 11 (qb .lss (tm 10) (ci 0))])
 (.cond (tm 11)
  (.seq (rg [xo 4 (qm (ci (-1)))])
  .ret)
  .skip))
 (.seq (.seq (rg [xo 5 (qm (ci 0))])
 (.block 0 (.loop Lt)))
 (.seq (rg [xo 26 (qm (tm 1)),xo 4 (qm (tm 26))])
 .ret)))))
def Z5:List Res:=[.tmp 4]
theorem Zw:Am Tryz.prog Tryz.f19=some (P3,Z5):=by kernel_rfl
def D3 (a0:List (Int×Int×ByteArray)) (l9_m1:Int) (l9_m5:Nat):Option (Ctl (Int×Nat) (Ctl Int Int)) :=
 cond (decide (((l9_m5:Nat):Int)<((a0.length:Nat):Int)))
 (Option.bind (a0[l9_m5]?) fun x15 =>
 Option.bind (I8 x15.1 x15.2.1 x15.2.2 l9_m1) fun y16 =>
 cond (decide (y16<0))
  (some (Ctl.out (Ctl.out (-1))))
  (og (l9_m5+1<4611686018427387904) <|
  some (Ctl.next (y16,l9_m5+1))))
 (some (Ctl.out (Ctl.next l9_m1)))
def F4 (a0:List (Int×Int×ByteArray)) (a1:Int):Option Int :=
 cond (decide (wI (a1 - ((a0.length:Nat):Int))<0))
 (some (-1))
 (Do (A4 (fun s_:Int×Nat=>D3 a0 s_.1 s_.2) 4611686018427387904 (wI (a1 - ((a0.length:Nat):Int)),0)) fun l7_m1 =>
 some l7_m1)
def Y7 (r:Int):RV:=⟨false,[(false,[.sc (.int .i64 r)])]⟩
theorem Yk {a0:List (Int×Int×ByteArray)} {a1:Int} {r:Int} (h:F4 a0 a1=some r):Ax Tryz.prog Tab 19 [.tree (.pair .int (.pair .int .str)) a0,ai a1] (Y7 r):=by
 refine Ar (by kernel_rfl) Tryz.func19 Zw (n:=27) (by kernel_rfl) (by simp) (tl:=[(0,.tree (.pair .int (.pair .int .str)) a0),(1,ai a1)]) rfl ?_;unfold P3;unfold F4 at h;refine Aj ?_;refine Aj ?_;refine Ab ?_;refine Aj ?_;rcases Ad h with ⟨q5,h⟩ | ⟨q5,h⟩
 ·have q5_:=of_decide_eq_true q5;refine Af q5 ?_;refine Aj ?_;refine Ah (tr_ ?_);obtain rfl:=zj h;exact A0 [ai (-1)] (Ap rfl zl As)
 have q5_:=of_decide_eq_false q5;refine Ag q5 ?_;refine Ai (tn_ ?_);refine wr_ ?_;refine Bh h (fun (l7_m1:Int) S_=>S_=⟨Ao [(1,ai l7_m1)],Ak (Aq []),2⟩) ?_ ?_
 ·intro v_ h hk7;refine Aj ?_;refine Al ?_;refine A3 h (fun t_ S_=>∃ (l9_m1:Int),∃ (l9_m5:Nat),t_=(l9_m1,l9_m5)∧S_=⟨Ao [(0,.tree (.pair .int (.pair .int .str)) a0),(1,ai l9_m1),(5,ai ((l9_m5:Nat):Int))],Ak (Aq []),2⟩) ⟨_,Ac [],⟨wI (a1 - ((a0.length:Nat):Int)),0,rfl,rfl⟩⟩ ?_;rintro n_ _ _ c_ ⟨l9_m1,l9_m5,rfl,rfl⟩ h hn9
  (try dsimp only at h);unfold D3 at h;unfold Lt;refine Ab ?_;refine Aj ?_;rcases Ad h with ⟨q12,h⟩ | ⟨q12,h⟩
  ·have q12_:=of_decide_eq_true q12;refine Af q12 ?_;refine Ai (tn_ ?_);refine wr_ ?_;refine Ab ?_;refine Al ?_;refine Ab ?_;obtain ⟨x15,e15,h⟩:=Ae h;obtain ⟨y16,h16,h⟩:=Ae h;refine Aa 13 ?_;refine rz0 (.tree (.pair .int (.pair .int .str)) a0) ?_;refine rz0 (ai ((l9_m5:Nat):Int)) ?_;refine rs0 (.telt none (.pair .int (.pair .int .str)) x15 0) (zi (t:=.pair .int (.pair .int .str)) (xs:=a0) (k:=.i64) (m:=((l9_m5:Nat):Int)) (Ay _) e15) ?_;refine rz0 (.agg [ai x15.1,ai x15.2.1,.str x15.2.2]) ?_;refine rz0 (ai l9_m1) ?_;refine zc (ai y16) [] [.agg [ai x15.1,ai x15.2.1,.str x15.2.2],ai l9_m1] (Abz h16) ?_;refine rsB 1 ?_;refine An (tn_ ?_);refine wr_ ?_;refine Aj ?_;rcases Ad h with ⟨q18,h⟩ | ⟨q18,h⟩
   ·have q18_:=of_decide_eq_true q18;refine Af q18 ?_;refine Aj ?_;refine Ah (br_ (tr_ (tr_ (br_ (tr_ ?_)))));obtain rfl:=zj h;have h:=hn9
    (try dsimp only at h);obtain rfl:=zj h;have h:=hk7
    (try dsimp only at h);obtain rfl:=zj h;exact A0 [ai (-1)] (Ap rfl zl As)
   have q18_:=of_decide_eq_false q18;refine Ag q18 ?_;refine Ai (bn_ (tn_ ?_));refine wr_ ?_;obtain ⟨g20,h⟩:=Au h;refine Aa 18 ?_;refine rz0 (ai ((l9_m5:Nat):Int)) ?_;refine rs0 (ai ((l9_m5+1:Nat):Int)) (za g20) ?_;refine rsB 1 ?_;refine An (tn_ ?_);obtain rfl:=zj h;exact ⟨(y16,l9_m5+1),_,Ac [],⟨y16,l9_m5+1,rfl,rfl⟩,hn9⟩
  have q12_:=of_decide_eq_false q12;refine Ag q12 ?_;refine Az (te_ (te_ (be_ (tn_ ?_))));obtain rfl:=zj h;have h:=hn9
  (try dsimp only at h);obtain rfl:=zj h;exact ⟨l9_m1,_,rfl,Ac [],rfl⟩
 rintro l7_m1 _ rfl h
 (try dsimp only at h);refine Aj ?_;refine Ah ?_;obtain rfl:=zj h;exact A0 [ai l7_m1] (Ap rfl zl As)
def R9:AC :=
 (.seq (rg [xo 1 (.i (.box 72 (tm 0))),⟨some 2,none,.i (.alloc 81 [.int .i64 0,.int .i64 0,.str ⟨#[]⟩])⟩])
 (.seq (rg [⟨some 3,none,.i (.alloc 81 [.int .i64 0,.int .i64 0,.str ⟨#[]⟩])⟩])
 (.seq (rg [xo 4 (qf 0 (tm 1)),xo 5 (ql (tm 4)),xo 6 (qf 0 (tm 3)),xn (qs (tm 6) (tm 5))])
 (.seq (rg [xo 7 (qf 1 (tm 1)),xo 8 (ql (tm 7)),xo 9 (qf 1 (tm 3)),xn (qs (tm 9) (tm 8))])
 (.seq (rg [xo 10 (qf 2 (tm 1)),xo 11 (ql (tm 10)),xo 12 (qf 2 (tm 3)),xn (qs (tm 12) (tm 11))])
 (.seq (rg [xo 13 (.i (.ld false 3 (tm 3))),xn (.st false 3 (tm 2) (tm 13))])
 .ret))))))
def Afb:List Res:=[.cell 2 false 3]
theorem Af6:Am Tryz.prog Tryz.f47=some (R9,Afb):=by kernel_rfl
def Iy (a0_0:Int) (a0_1:Int) (a0_2:ByteArray):Option (Int×Int×ByteArray) :=
 some (a0_0,a0_1,a0_2)
def Aa3 (r:Int×Int×ByteArray):RV:=⟨false,[(true,[.sc (.int .i64 r.1),.sc (.int .i64 r.2.1),.sc (.str r.2.2)])]⟩
theorem Ac8 {a0_0:Int} {a0_1:Int} {a0_2:ByteArray} {r:Int×Int×ByteArray} (h:Iy a0_0 a0_1 a0_2=some r):Ax Tryz.prog Tab 47 [.agg [ai a0_0,ai a0_1,.str a0_2]] (Aa3 r):=by
 refine Ar (by kernel_rfl) Tryz.func47 Af6 (n:=14) (by kernel_rfl) (by simp) (tl:=[(0,.agg [ai a0_0,ai a0_1,.str a0_2])]) rfl ?_;unfold R9;unfold Iy at h;refine Aj ?_;refine Aj ?_;refine Aj ?_;refine Aj ?_;refine Aj ?_;refine Aj ?_;refine Ah ?_;obtain rfl:=zj h;exact A0 [.agg [ai a0_0,ai a0_1,.str a0_2]] (Gm (Bg zl (Bg zl (Bg zl Gd))) As)
def Lr:AC :=
 (.seq (.seq (rg [xo 8 (qm (tm 4)),xo 9 (qm (tm 0)),xo 10 (.i (.len (tm 9))),xo 11 (qb .lss (tm 8) (tm 10))])
 (.cond (tm 11)
  .skip
  (.exit 0)))
 (.seq (.block 1 (rg [xo 14 (qm (tm 3)),xo 15 (qm (tm 4)),xo 16 (qm (tm 0)),xo 17 (qm (tm 4)),xo 18 (qx 3 (tm 16) (tm 17)),xo 19 (.i (.ld false 3 (tm 18))),xo 20 (qc 47 [tm 19] [[none,none,none]]),xo 21 (qx 3 (tm 14) (tm 15)),xn (.st false 3 (tm 21) (tm 20))]))
 (rg [xo 12 (qm (tm 4)),xo 13 (qb .add (tm 12) (ci 1)),xo 4 (qm (tm 13))])))
def Qc:AC :=
 (.seq (rg [xo 2 (qm (.cst .nils))])
 (.seq (rg [xo 5 (qm (tm 0)),xo 6 (.i (.len (tm 5))),xo 7 (.make 81 (.pair .int (.pair .int .str)) 32 (tm 6) (tm 6)),xo 3 (qm (tm 7))])
 (.seq (.seq (rg [xo 4 (qm (ci 0))])
 (.block 0 (.loop Lr)))
 (.seq (rg [xo 22 (qm (tm 3)),xo 2 (qm (tm 22))])
 .ret))))
def Z1:List Res:=[.tmp 2]
theorem Abu:Am Tryz.prog Tryz.f27=some (Qc,Z1):=by kernel_rfl
def D7 (a0:List (Int×Int×ByteArray)) (l6_m4:Nat) (l6_m3:List (Int×Int×ByteArray)):Option (Ctl (Nat×(List (Int×Int×ByteArray))) (List (Int×Int×ByteArray))) :=
 cond (decide (((l6_m4:Nat):Int)<((a0.length:Nat):Int)))
 (Option.bind (a0[l6_m4]?) fun x11 =>
 Option.bind (Iy x11.1 x11.2.1 x11.2.2) fun y12 =>
 Option.bind (l6_m3[l6_m4]?) fun x13 =>
 og (l6_m4+1<4611686018427387904) <|
 some (Ctl.next (l6_m4+1,l6_m3.set l6_m4 y12)))
 (some (Ctl.out l6_m3))
def Gq (a0:List (Int×Int×ByteArray)):Option (List (Int×Int×ByteArray)) :=
 og (0<=((a0.length:Nat):Int)∧((a0.length:Nat):Int)<=((a0.length:Nat):Int)∧((a0.length:Nat):Int)<=1073741824∧(32:Int)*((a0.length:Nat):Int)<=140737488355328) <|
Option.bind (A4 (fun s_:Nat×(List (Int×Int×ByteArray))=>D7 a0 s_.1 s_.2) 4611686018427387904 (0,List.replicate a0.length ((0,0,(⟨#[]⟩:ByteArray)):Int×Int×ByteArray))) fun l4_m3 =>
some l4_m3
def Yt (r:List (Int×Int×ByteArray)):RV:=⟨false,[(false,[.new 81 (.pair .int (.pair .int .str)) r])]⟩
theorem Yf {a0:List (Int×Int×ByteArray)} {r:List (Int×Int×ByteArray)} (h:Gq a0=some r):Ax Tryz.prog Tab 27 [.tree (.pair .int (.pair .int .str)) a0] (Yt r):=by
 refine Ar (by kernel_rfl) Tryz.func27 Abu (n:=23) (by kernel_rfl) (by simp) (tl:=[(0,.tree (.pair .int (.pair .int .str)) a0)]) rfl ?_;unfold Qc;unfold Gq at h;refine Aj ?_;refine Ab ?_;obtain ⟨g3,h⟩:=Au h;refine Aa 6 ?_;refine rz0 (.tree (.pair .int (.pair .int .str)) a0) ?_;refine rz0 (ai ((a0.length:Nat):Int)) ?_;refine rs1 (.own (oi 7 4) (.pair .int (.pair .int .str)) 0 a0.length) (oi 7 4) (.arr 81 (.pair .int (.pair .int .str)) (List.replicate a0.length ((0,0,(⟨#[]⟩:ByteArray)):Int×Int×ByteArray))) (Alx (t:=.pair .int (.pair .int .str)) (k:=.i64) (k':=.i64) (m:=((a0.length:Nat):Int)) (m':=((a0.length:Nat):Int)) (by kernel_rfl) (by kernel_rfl) g3 rfl) ?_;refine rsB 1 ?_;refine An (tn_ ?_);refine wr_ ?_;refine Aw h (fun (l4_m3:List (Int×Int×ByteArray)) S_=>S_=⟨Ao [(3,.own (oi 0 1) (.pair .int (.pair .int .str)) 0 l4_m3.length)],Ak (Aq [(oi 0 1,.arr 81 (.pair .int (.pair .int .str)) l4_m3)]),2⟩) ?_ ?_
 ·intro v_ h;refine Aj ?_;refine Al ?_;refine A3 h (fun t_ S_=>∃ (l6_m4:Nat),∃ (l6_m3:List (Int×Int×ByteArray)),t_=(l6_m4,l6_m3)∧S_=⟨Ao [(0,.tree (.pair .int (.pair .int .str)) a0),(3,.own (oi 0 1) (.pair .int (.pair .int .str)) 0 l6_m3.length),(4,ai ((l6_m4:Nat):Int))],Ak (Aq [(oi 0 1,.arr 81 (.pair .int (.pair .int .str)) l6_m3)]),2⟩) ⟨_,(B2 3 (.own (oi 7 4) (.pair .int (.pair .int .str)) 0 a0.length) (.own (oi 7 4) (.pair .int (.pair .int .str)) 0 ((List.replicate a0.length ((0,0,(⟨#[]⟩:ByteArray)):Int×Int×ByteArray)).length)) (by kernel_rfl) (congrArg (fun z_=>((.own (oi 7 4) (.pair .int (.pair .int .str)) 0 z_):AV)) (List.length_replicate.symm:a0.length=(List.replicate a0.length ((0,0,(⟨#[]⟩:ByteArray)):Int×Int×ByteArray)).length))).trans (Ac [(oi 0 1,oi 7 4)]),⟨0,List.replicate a0.length ((0,0,(⟨#[]⟩:ByteArray)):Int×Int×ByteArray),rfl,rfl⟩⟩ ?_;rintro n_ _ _ c_ ⟨l6_m4,l6_m3,rfl,rfl⟩ h hn6
  (try dsimp only at h);unfold D7 at h;unfold Lr;refine Ab ?_;refine Aj ?_;rcases Ad h with ⟨q9,h⟩ | ⟨q9,h⟩
  ·have q9_:=of_decide_eq_true q9;refine Af q9 ?_;refine Ai (tn_ ?_);refine wr_ ?_;refine Ab ?_;refine Al ?_;obtain ⟨x11,e11,h⟩:=Ae h;obtain ⟨y12,h12,h⟩:=Ae h;obtain ⟨x13,e13,h⟩:=Ae h;refine Aa 15 ?_;refine rz0 (.own (oi 0 1) (.pair .int (.pair .int .str)) 0 l6_m3.length) ?_;refine rz0 (ai ((l6_m4:Nat):Int)) ?_;refine rz0 (.tree (.pair .int (.pair .int .str)) a0) ?_;refine rz0 (ai ((l6_m4:Nat):Int)) ?_;refine rs0 (.telt none (.pair .int (.pair .int .str)) x11 0) (zi (t:=.pair .int (.pair .int .str)) (xs:=a0) (k:=.i64) (m:=((l6_m4:Nat):Int)) (Ay _) e11) ?_;refine rz0 (.agg [ai x11.1,ai x11.2.1,.str x11.2.2]) ?_;refine zc (.agg [ai y12.1,ai y12.2.1,.str y12.2.2]) [] [.agg [ai x11.1,ai x11.2.1,.str x11.2.2]] (Ac8 h12) ?_;refine rs0 (.elt (oi 0 1) l6_m4 0) (zo (t:=.pair .int (.pair .int .str)) (o:=oi 0 1) (len:=l6_m3.length) (k:=.i64) (m:=((l6_m4:Nat):Int)) (Ay _) (Av e13)) ?_;refine Al5 (oi 0 1) (oi 0 1) (.arr 81 (.pair .int (.pair .int .str)) (l6_m3.set l6_m4 y12)) (Adb (i:=oi 0 1) (j:=l6_m4) (k:=0) (e:=81) (t:=.pair .int (.pair .int .str)) (xs:=l6_m3) (cs:=[ai y12.1,ai y12.2.1,.str y12.2.2]) (x1:=y12) (by kernel_rfl) (by kernel_rfl) e13 (by kernel_rfl) (by kernel_rfl)) ?_;refine An (bn_ (tn_ ?_));refine wr_ ?_;obtain ⟨g14,h⟩:=Au h;refine Aa 18 ?_;refine rz0 (ai ((l6_m4:Nat):Int)) ?_;refine rs0 (ai ((l6_m4+1:Nat):Int)) (za g14) ?_;refine rsB 1 ?_;refine An (tn_ ?_);obtain rfl:=zj h;exact ⟨(l6_m4+1,l6_m3.set l6_m4 y12),_,(B2 3 (.own (oi 0 1) (.pair .int (.pair .int .str)) 0 l6_m3.length) (.own (oi 0 1) (.pair .int (.pair .int .str)) 0 ((l6_m3.set l6_m4 y12).length)) (by kernel_rfl) (congrArg (fun z_=>((.own (oi 0 1) (.pair .int (.pair .int .str)) 0 z_):AV)) (((rfl:l6_m3.length=l6_m3.length).trans List.length_set.symm):l6_m3.length=(l6_m3.set l6_m4 y12).length))).trans (Ac []),⟨l6_m4+1,l6_m3.set l6_m4 y12,rfl,rfl⟩,hn6⟩
  have q9_:=of_decide_eq_false q9;refine Ag q9 ?_;refine Az (te_ (te_ (be_ (tn_ ?_))));obtain rfl:=zj h;have h:=hn6
  (try dsimp only at h);obtain rfl:=zj h;exact ⟨_,Ac [],rfl⟩
 rintro l4_m3 _ rfl h
 (try dsimp only at h);refine Aj ?_;refine Ah ?_;obtain rfl:=zj h;exact A0 [.own (oi 0 1) (.pair .int (.pair .int .str)) 0 l4_m3.length] (Ap rfl (Eb (by kernel_rfl) rfl) As)
def Rz:AC :=
 (.seq (rg [xo 2 (.i (.box 81 (tm 0))),xo 3 (.i (.box 81 (tm 1))),xo 4 (qm (cb false))])
 (.seq (.seq (rg [xo 5 (qf 0 (tm 2)),xo 6 (ql (tm 5)),xo 7 (qf 0 (tm 3)),xo 8 (ql (tm 7)),xo 9 (qb .neq (tm 6) (tm 8))])
 (.cond (tm 9)
  (.seq (rg [xo 4 (qm (cb false))])
  .ret)
  .skip))
 (.seq (.seq (rg [xo 10 (qf 1 (tm 2)),xo 11 (ql (tm 10)),xo 12 (qf 1 (tm 3)),xo 13 (ql (tm 12)),xo 14 (qb .neq (tm 11) (tm 13))])
 (.cond (tm 14)
  (.seq (rg [xo 4 (qm (cb false))])
  .ret)
  .skip))
 (.seq (.seq (rg [xo 15 (qf 2 (tm 2)),xo 16 (ql (tm 15)),xo 17 (qf 2 (tm 3)),xo 18 (ql (tm 17)),xo 19 (qb .neq (tm 16) (tm 18))])
 (.cond (tm 19)
  (.seq (rg [xo 4 (qm (cb false))])
  .ret)
  .skip))
 (.seq (rg [xo 4 (qm (cb true))])
 .ret)))))
def Afc:List Res:=[.tmp 4]
theorem Af5:Am Tryz.prog Tryz.f61=some (Rz,Afc):=by kernel_rfl
theorem Acl:A5 Tryz.prog 61=true:=by kernel_rfl
def I6 (a0_0:Int) (a0_1:Int) (a0_2:ByteArray) (a1_0:Int) (a1_1:Int) (a1_2:ByteArray):Option Bool :=
 cond (a0_0 !=a1_0)
 (some false)
 (cond (a0_1 !=a1_1)
  (some false)
  (cond (!(a0_2.toList==a1_2.toList))
   (some false)
   (some true)))
def Acj (r:Bool):RV:=⟨false,[(false,[.sc (.bool r)])]⟩
theorem Aa7 {a0_0:Int} {a0_1:Int} {a0_2:ByteArray} {a1_0:Int} {a1_1:Int} {a1_2:ByteArray} {r:Bool} (h:I6 a0_0 a0_1 a0_2 a1_0 a1_1 a1_2=some r):Ax Tryz.prog Tab 61 [.agg [ai a0_0,ai a0_1,.str a0_2],.agg [ai a1_0,ai a1_1,.str a1_2]] (Acj r):=by
 refine Ar (by kernel_rfl) Tryz.func61 Af5 (n:=20) (by kernel_rfl) (by simp) (tl:=[(0,.agg [ai a0_0,ai a0_1,.str a0_2]),(1,.agg [ai a1_0,ai a1_1,.str a1_2])]) rfl ?_;unfold Rz;unfold I6 at h;refine Aj ?_;refine Ab ?_;refine Aj ?_;rcases Ad h with ⟨q4,h⟩ | ⟨q4,h⟩
 ·refine Af q4 ?_;refine Aj ?_;refine Ah (tr_ ?_);obtain rfl:=zj h;exact A0 [.bool false] (Ap rfl zl As)
 refine Ag q4 ?_;refine Ai (tn_ ?_);refine wr_ ?_;refine Ab ?_;refine Aj ?_;rcases Ad h with ⟨q8,h⟩ | ⟨q8,h⟩
 ·refine Af q8 ?_;refine Aj ?_;refine Ah (tr_ ?_);obtain rfl:=zj h;exact A0 [.bool false] (Ap rfl zl As)
 refine Ag q8 ?_;refine Ai (tn_ ?_);refine wr_ ?_;refine Ab ?_;refine Aj ?_;rcases Ad h with ⟨q12,h⟩ | ⟨q12,h⟩
 ·refine Af q12 ?_;refine Aj ?_;refine Ah (tr_ ?_);obtain rfl:=zj h;exact A0 [.bool false] (Ap rfl zl As)
 refine Ag q12 ?_;refine Ai (tn_ ?_);refine wr_ ?_;refine Aj ?_;refine Ah ?_;obtain rfl:=zj h;exact A0 [.bool true] (Ap rfl zl As)
def Lk:AC :=
 (.seq (.seq (rg [xo 11 (qm (tm 5)),xo 12 (qm (tm 0)),xo 13 (.i (.len (tm 12))),xo 14 (qb .lss (tm 11) (tm 13))])
 (.cond (tm 14)
  .skip
  (.exit 0)))
 (.seq (.block 1 (.seq (.region [xo 17 (qm (tm 0)),xo 18 (qm (tm 5)),xo 19 (qx 3 (tm 17) (tm 18)),xo 20 (.i (.ld false 3 (tm 19))),xo 21 (qm (tm 1)),xo 22 (qm (tm 5)),xo 23 (qx 3 (tm 21) (tm 22)),xo 24 (.i (.ld false 3 (tm 23))),xo 25 (qc 61 [tm 20,tm 24] [[none,none,none],[none,none,none]]),xo 26 (.i (.not (tm 25)))] true [])
 (.cond (tm 26)
  (.seq (rg [xo 4 (qm (cb false))])
  .ret)
  .skip)))
 (rg [xo 15 (qm (tm 5)),xo 16 (qb .add (tm 15) (ci 1)),xo 5 (qm (tm 16))])))
def O3:AC :=
 (.seq (rg [xo 4 (qm (cb false))])
 (.seq (.seq (rg [xo 6 (qm (tm 0)),xo 7 (.i (.len (tm 6))),xo 8 (qm (tm 1)),xo 9 (.i (.len (tm 8))),xo 10 (qb .neq (tm 7) (tm 9))])
 (.cond (tm 10)
  (.seq (rg [xo 4 (qm (cb false))])
  .ret)
  .skip))
 (.seq (.seq (rg [xo 5 (qm (ci 0))])
 (.block 0 (.loop Lk)))
 (.seq (rg [xo 4 (qm (cb true))])
 .ret))))
def Z4:List Res:=[.tmp 4]
theorem Aav:Am Tryz.prog Tryz.f34=some (O3,Z4):=by kernel_rfl
def Du (a0:List (Int×Int×ByteArray)) (a1:List (Int×Int×ByteArray)) (l8_m5:Nat):Option (Ctl Nat (Ctl Unit Bool)) :=
 cond (decide (((l8_m5:Nat):Int)<((a0.length:Nat):Int)))
 (Option.bind (a0[l8_m5]?) fun x14 =>
 Option.bind (a1[l8_m5]?) fun x15 =>
 Option.bind (I6 x14.1 x14.2.1 x14.2.2 x15.1 x15.2.1 x15.2.2) fun y16 =>
 cond (!y16)
  (some (Ctl.out (Ctl.out false)))
  (og (l8_m5+1<4611686018427387904) <|
  some (Ctl.next (l8_m5+1))))
 (some (Ctl.out (Ctl.next ())))
def F7 (a0:List (Int×Int×ByteArray)) (a1:List (Int×Int×ByteArray)):Option Bool :=
 cond (((a0.length:Nat):Int) !=((a1.length:Nat):Int))
 (some false)
 (Do (A4 (fun s_:Nat=>Du a0 a1 s_) 4611686018427387904 0) fun _ =>
 some true)
def Y8 (r:Bool):RV:=⟨false,[(false,[.sc (.bool r)])]⟩
theorem Za {a0:List (Int×Int×ByteArray)} {a1:List (Int×Int×ByteArray)} {r:Bool} (h:F7 a0 a1=some r):Ax Tryz.prog Tab 34 [.tree (.pair .int (.pair .int .str)) a0,.tree (.pair .int (.pair .int .str)) a1] (Y8 r):=by
 refine Ar (by kernel_rfl) Tryz.func34 Aav (n:=27) (by kernel_rfl) (by simp) (tl:=[(0,.tree (.pair .int (.pair .int .str)) a0),(1,.tree (.pair .int (.pair .int .str)) a1)]) rfl ?_;unfold O3;unfold F7 at h;refine Aj ?_;refine Ab ?_;refine Aj ?_;rcases Ad h with ⟨q4,h⟩ | ⟨q4,h⟩
 ·refine Af q4 ?_;refine Aj ?_;refine Ah (tr_ ?_);obtain rfl:=zj h;exact A0 [.bool false] (Ap rfl zl As)
 refine Ag q4 ?_;refine Ai (tn_ ?_);refine wr_ ?_;refine Bh h (fun (_:Unit) S_=>S_=⟨Ao [],Ak (Aq []),2⟩) ?_ ?_
 ·intro v_ h hk6;refine Aj ?_;refine Al ?_;refine A3 h (fun (l8_m5:Nat) S_=>S_=⟨Ao [(0,.tree (.pair .int (.pair .int .str)) a0),(1,.tree (.pair .int (.pair .int .str)) a1),(5,ai ((l8_m5:Nat):Int))],Ak (Aq []),2⟩) ⟨_,Ac [],rfl⟩ ?_;rintro n_ l8_m5 _ c_ rfl h hn8
  (try dsimp only at h);unfold Du at h;unfold Lk;refine Ab ?_;refine Aj ?_;rcases Ad h with ⟨q11,h⟩ | ⟨q11,h⟩
  ·have q11_:=of_decide_eq_true q11;refine Af q11 ?_;refine Ai (tn_ ?_);refine wr_ ?_;refine Ab ?_;refine Al ?_;refine Ab ?_;obtain ⟨x14,e14,h⟩:=Ae h;obtain ⟨x15,e15,h⟩:=Ae h;obtain ⟨y16,h16,h⟩:=Ae h;refine A1 16 ?_;refine dz0 (.tree (.pair .int (.pair .int .str)) a0) ?_;refine dz0 (ai ((l8_m5:Nat):Int)) ?_;refine ds0 (.telt none (.pair .int (.pair .int .str)) x14 0) (zi (t:=.pair .int (.pair .int .str)) (xs:=a0) (k:=.i64) (m:=((l8_m5:Nat):Int)) (Ay _) e14) ?_;refine dz0 (.agg [ai x14.1,ai x14.2.1,.str x14.2.2]) ?_;refine dz0 (.tree (.pair .int (.pair .int .str)) a1) ?_;refine dz0 (ai ((l8_m5:Nat):Int)) ?_;refine ds0 (.telt none (.pair .int (.pair .int .str)) x15 0) (zi (t:=.pair .int (.pair .int .str)) (xs:=a1) (k:=.i64) (m:=((l8_m5:Nat):Int)) (Ay _) e15) ?_;refine dz0 (.agg [ai x15.1,ai x15.2.1,.str x15.2.2]) ?_;refine Da (.bool y16) [] [.agg [ai x14.1,ai x14.2.1,.str x14.2.2],.agg [ai x15.1,ai x15.2.1,.str x15.2.2]] _ (caps:=[]) (args0:=[.agg [ai x14.1,ai x14.2.1,.str x14.2.2],.agg [ai x15.1,ai x15.2.1,.str x15.2.2]]) trivial (by kernel_rfl) (Aa7 h16) Acl ?_;refine dz0 (.bool (!y16)) ?_;refine F2 (Bc (by kernel_rfl)) (tn_ ?_);refine wr_ ?_;rcases Ad h with ⟨q17,h⟩ | ⟨q17,h⟩
   ·refine Af q17 ?_;refine Aj ?_;refine Ah (br_ (tr_ (tr_ (br_ (tr_ ?_)))));obtain rfl:=zj h;have h:=hn8
    (try dsimp only at h);obtain rfl:=zj h;have h:=hk6
    (try dsimp only at h);obtain rfl:=zj h;exact A0 [.bool false] (Ap rfl zl As)
   refine Ag q17 ?_;refine Ai (bn_ (tn_ ?_));refine wr_ ?_;obtain ⟨g19,h⟩:=Au h;refine Aa 19 ?_;refine rz0 (ai ((l8_m5:Nat):Int)) ?_;refine rs0 (ai ((l8_m5+1:Nat):Int)) (za g19) ?_;refine rsB 1 ?_;refine An (tn_ ?_);obtain rfl:=zj h;exact ⟨l8_m5+1,_,Ac [],rfl,hn8⟩
  have q11_:=of_decide_eq_false q11;refine Ag q11 ?_;refine Az (te_ (te_ (be_ (tn_ ?_))));obtain rfl:=zj h;have h:=hn8
  (try dsimp only at h);obtain rfl:=zj h;exact ⟨(),_,rfl,Ac [],rfl⟩
 rintro _ _ rfl h
 (try dsimp only at h);refine Aj ?_;refine Ah ?_;obtain rfl:=zj h;exact A0 [.bool true] (Ap rfl zl As)
def Rp:AC :=
 (.seq (rg [xo 2 (.i (.box 24 (tm 0))),xo 4 (qm (ci 0))])
 (.seq (rg [xo 5 (qf 0 (tm 2)),xo 6 (ql (tm 5)),xo 7 (qm (tm 1)),⟨some 8,none,qc 19 [tm 6,tm 7] [[some (.pair .int (.pair .int .str))],[]]⟩,xo 1 (qm (tm 8))])
 (.seq (.seq (rg [xo 9 (qm (tm 1)),xo 10 (qb .lss (tm 9) (ci 0))])
 (.cond (tm 10)
  (.seq (rg [xo 4 (qm (ci (-1)))])
  .ret)
  .skip))
 (.seq (rg [xo 11 (qm (tm 1)),xo 4 (qm (tm 11))])
 .ret))))
def Adv:List Res:=[.tmp 4]
theorem Aea:Am Tryz.prog Tryz.f9=some (Rp,Adv):=by kernel_rfl
def I0 (a0_0:List (Int×Int×ByteArray)) (a1:Int):Option Int :=
 Option.bind (F4 a0_0 a1) fun y3 =>
cond (decide (y3<0))
 (some (-1))
 (some y3)
def Aai (r:Int):RV:=⟨false,[(false,[.sc (.int .i64 r)])]⟩
theorem Ac7 {a0_0:List (Int×Int×ByteArray)} {a1:Int} {r:Int} (h:I0 a0_0 a1=some r):Ax Tryz.prog Tab 9 [.agg [.tree (.pair .int (.pair .int .str)) a0_0],ai a1] (Aai r):=by
 refine Ar (by kernel_rfl) Tryz.func9 Aea (n:=12) (by kernel_rfl) (by simp) (tl:=[(0,.agg [.tree (.pair .int (.pair .int .str)) a0_0]),(1,ai a1)]) rfl ?_;unfold Rp;unfold I0 at h;refine Aj ?_;refine Ab ?_;obtain ⟨y3,h3,h⟩:=Ae h;refine Aa 8 ?_;refine rz0 (.box (oi 2 1) 0) ?_;refine rzl (.tree (.pair .int (.pair .int .str)) a0_0) ?_;refine rz0 (ai a1) ?_;refine zc (ai y3) [] [.tree (.pair .int (.pair .int .str)) a0_0,ai a1] (Yk h3) ?_;refine rsB 1 ?_;refine An (tn_ ?_);refine wr_ ?_;refine Ab ?_;refine Aj ?_;rcases Ad h with ⟨q6,h⟩ | ⟨q6,h⟩
 ·have q6_:=of_decide_eq_true q6;refine Af q6 ?_;refine Aj ?_;refine Ah (tr_ ?_);obtain rfl:=zj h;exact A0 [ai (-1)] (Ap rfl zl As)
 have q6_:=of_decide_eq_false q6;refine Ag q6 ?_;refine Ai (tn_ ?_);refine wr_ ?_;refine Aj ?_;refine Ah ?_;obtain rfl:=zj h;exact A0 [ai y3] (Ap rfl zl As)
def Rq:AC :=
 (.seq (rg [xo 1 (.i (.box 24 (tm 0))),xo 2 (.i (.alloc 35 [.nils]))])
 (.seq (rg [xo 3 (.i (.alloc 35 [.nils]))])
 (.seq (rg [xo 4 (qf 0 (tm 1)),xo 5 (ql (tm 4)),⟨some 6,none,qc 27 [tm 5] [[some (.pair .int (.pair .int .str))]]⟩,xo 7 (qf 0 (tm 3)),xn (qs (tm 7) (tm 6))])
 (.seq (rg [xo 8 (.i (.ld false 1 (tm 3))),xn (.st false 1 (tm 2) (tm 8))])
 .ret))))
def Af4:List Res:=[.cell 2 false 1]
theorem Af1:Am Tryz.prog Tryz.f13=some (Rq,Af4):=by kernel_rfl
theorem Ado:A5 Tryz.prog 13=true:=by kernel_rfl
def I4 (a0_0:List (Int×Int×ByteArray)):Option (List (Int×Int×ByteArray)) :=
 Option.bind (Gq a0_0) fun y4 =>
some y4
def Abc (r:List (Int×Int×ByteArray)):RV:=⟨false,[(true,[.new 81 (.pair .int (.pair .int .str)) r])]⟩
theorem Ab9 {a0_0:List (Int×Int×ByteArray)} {r:List (Int×Int×ByteArray)} (h:I4 a0_0=some r):Ax Tryz.prog Tab 13 [.agg [.tree (.pair .int (.pair .int .str)) a0_0]] (Abc r):=by
 refine Ar (by kernel_rfl) Tryz.func13 Af1 (n:=9) (by kernel_rfl) (by simp) (tl:=[(0,.agg [.tree (.pair .int (.pair .int .str)) a0_0])]) rfl ?_;unfold Rq;unfold I4 at h;refine Aj ?_;refine Aj ?_;refine Ab ?_;obtain ⟨y4,h4,h⟩:=Ae h;refine Aa 9 ?_;refine rz0 (.box (oi 1 1) 0) ?_;refine rzl (.tree (.pair .int (.pair .int .str)) a0_0) ?_;refine zc (.own (oi 96 6) (.pair .int (.pair .int .str)) 0 y4.length) [(oi 96 6,some (.arr 81 (.pair .int (.pair .int .str)) y4))] [.tree (.pair .int (.pair .int .str)) a0_0] (Yf h4) ?_;refine rsB 2 ?_;refine An (tn_ ?_);refine wr_ ?_;refine Aj ?_;refine Ah ?_;obtain rfl:=zj h;exact A0 [.agg [.own (oi 96 6) (.pair .int (.pair .int .str)) 0 y4.length]] (Gm (Bg (Eb (by kernel_rfl) rfl) Gd) As)
def Rm:AC :=
 (.seq (rg [xo 2 (.i (.box 35 (tm 0))),xo 3 (.i (.box 35 (tm 1))),xo 4 (qm (cb false))])
 (.seq (.seq (rg [xo 5 (qf 0 (tm 2)),xo 6 (ql (tm 5)),xo 7 (qf 0 (tm 3)),xo 8 (ql (tm 7)),⟨some 9,none,qc 34 [tm 6,tm 8] [[some (.pair .int (.pair .int .str))],[some (.pair .int (.pair .int .str))]]⟩,xo 10 (.i (.not (tm 9)))])
 (.cond (tm 10)
  (.seq (rg [xo 4 (qm (cb false))])
  .ret)
  .skip))
 (.seq (rg [xo 4 (qm (cb true))])
 .ret)))
def Aft:List Res:=[.tmp 4]
theorem Afd:Am Tryz.prog Tryz.f17=some (Rm,Aft):=by kernel_rfl
def I1 (a0_0:List (Int×Int×ByteArray)) (a1_0:List (Int×Int×ByteArray)):Option Bool :=
 Option.bind (F7 a0_0 a1_0) fun y4 =>
cond (!y4)
 (some false)
 (some true)
def Adc (r:Bool):RV:=⟨false,[(false,[.sc (.bool r)])]⟩
theorem Aat {a0_0:List (Int×Int×ByteArray)} {a1_0:List (Int×Int×ByteArray)} {r:Bool} (h:I1 a0_0 a1_0=some r):Ax Tryz.prog Tab 17 [.agg [.tree (.pair .int (.pair .int .str)) a0_0],.agg [.tree (.pair .int (.pair .int .str)) a1_0]] (Adc r):=by
 refine Ar (by kernel_rfl) Tryz.func17 Afd (n:=11) (by kernel_rfl) (by simp) (tl:=[(0,.agg [.tree (.pair .int (.pair .int .str)) a0_0]),(1,.agg [.tree (.pair .int (.pair .int .str)) a1_0])]) rfl ?_;unfold Rm;unfold I1 at h;refine Aj ?_;refine Ab ?_;refine Ab ?_;obtain ⟨y4,h4,h⟩:=Ae h;refine Aa 10 ?_;refine rz0 (.box (oi 2 1) 0) ?_;refine rzl (.tree (.pair .int (.pair .int .str)) a0_0) ?_;refine rz0 (.box (oi 3 2) 0) ?_;refine rzl (.tree (.pair .int (.pair .int .str)) a1_0) ?_;refine zc (.bool y4) [] [.tree (.pair .int (.pair .int .str)) a0_0,.tree (.pair .int (.pair .int .str)) a1_0] (Za h4) ?_;refine rsB 1 ?_;refine An (tn_ ?_);refine wr_ ?_;rcases Ad h with ⟨q5,h⟩ | ⟨q5,h⟩
 ·refine Af q5 ?_;refine Aj ?_;refine Ah (tr_ ?_);obtain rfl:=zj h;exact A0 [.bool false] (Ap rfl zl As)
 refine Ag q5 ?_;refine Ai (tn_ ?_);refine wr_ ?_;refine Aj ?_;refine Ah ?_;obtain rfl:=zj h;exact A0 [.bool true] (Ap rfl zl As)
def J7:AC :=
 (.seq (rg [xo 2 (.i (.box 29 (tm 0))),xo 4 (qm (ci 0))])
 (.seq (rg [xo 5 (qm (tm 1)),xo 6 (qf 0 (tm 2)),xo 7 (ql (tm 6)),xo 8 (.i (.lenS (tm 7))),xo 9 (qb .sub (tm 5) (tm 8)),xo 1 (qm (tm 9))])
 (.seq (.seq (rg [xo 10 (qm (tm 1)),xo 11 (qb .lss (tm 10) (ci 0))])
 (.cond (tm 11)
  (.seq (rg [xo 4 (qm (ci (-1)))])
  .ret)
  .skip))
 (.seq (rg [xo 12 (qf 1 (tm 2)),xo 13 (.i (.ld false 1 (tm 12))),xo 14 (qm (tm 1)),⟨some 15,none,qc 9 [tm 13,tm 14] [[some (.pair .int (.pair .int .str))],[]]⟩,xo 1 (qm (tm 15))])
 (.seq (.seq (rg [xo 16 (qm (tm 1)),xo 17 (qb .lss (tm 16) (ci 0))])
 (.cond (tm 17)
  (.seq (rg [xo 4 (qm (ci (-1)))])
  .ret)
  .skip))
 (.seq (rg [xo 18 (qf 2 (tm 2)),xo 19 (.i (.ld false 3 (tm 18))),xo 20 (qm (tm 1)),xo 21 (qc 10 [tm 19,tm 20] [[none,none,some (.slice .int)],[]]),xo 1 (qm (tm 21))])
 (.seq (.seq (rg [xo 22 (qm (tm 1)),xo 23 (qb .lss (tm 22) (ci 0))])
 (.cond (tm 23)
  (.seq (rg [xo 4 (qm (ci (-1)))])
  .ret)
  .skip))
 (.seq (rg [xo 24 (qm (tm 1)),xo 4 (qm (tm 24))])
 .ret))))))))
def Sr:List Res:=[.tmp 4]
theorem T8:Am Tryz.prog Tryz.f4=some (J7,Sr):=by kernel_rfl
def Cj (a0_0:ByteArray) (a0_1:List (Int×Int×ByteArray)) (a0_2:Int) (a0_3:Int) (a0_4:List (List Int)) (a1:Int):Option Int :=
 cond (decide (wI (a1 - ((a0_0.size:Nat):Int))<0))
 (some (-1))
 (Option.bind (I0 a0_1 (wI (a1 - ((a0_0.size:Nat):Int)))) fun y8 =>
 cond (decide (y8<0))
  (some (-1))
  (Option.bind (Dv a0_2 a0_3 a0_4 y8) fun y14 =>
  cond (decide (y14<0))
   (some (-1))
   (some y14)))
def Q1 (r:Int):RV:=⟨false,[(false,[.sc (.int .i64 r)])]⟩
theorem Jr {a0_0:ByteArray} {a0_1:List (Int×Int×ByteArray)} {a0_2:Int} {a0_3:Int} {a0_4:List (List Int)} {a1:Int} {r:Int} (h:Cj a0_0 a0_1 a0_2 a0_3 a0_4 a1=some r):Ax Tryz.prog Tab 4 [.agg [.str a0_0,.tree (.pair .int (.pair .int .str)) a0_1,ai a0_2,ai a0_3,.tree (.slice .int) a0_4],ai a1] (Q1 r):=by
 refine Ar (by kernel_rfl) Tryz.func4 T8 (n:=25) (by kernel_rfl) (by simp) (tl:=[(0,.agg [.str a0_0,.tree (.pair .int (.pair .int .str)) a0_1,ai a0_2,ai a0_3,.tree (.slice .int) a0_4]),(1,ai a1)]) rfl ?_;unfold J7;unfold Cj at h;refine Aj ?_;refine Aj ?_;refine Ab ?_;refine Aj ?_;rcases Ad h with ⟨q5,h⟩ | ⟨q5,h⟩
 ·have q5_:=of_decide_eq_true q5;refine Af q5 ?_;refine Aj ?_;refine Ah (tr_ ?_);obtain rfl:=zj h;exact A0 [ai (-1)] (Ap rfl zl As)
 have q5_:=of_decide_eq_false q5;refine Ag q5 ?_;refine Ai (tn_ ?_);refine wr_ ?_;refine Ab ?_;obtain ⟨y8,h8,h⟩:=Ae h;refine Aa 16 ?_;refine rz0 (.box (oi 2 1) 1) ?_;refine rzl (.agg [.tree (.pair .int (.pair .int .str)) a0_1]) ?_;refine rz0 (ai (wI (a1 - ((a0_0.size:Nat):Int)))) ?_;refine zc (ai y8) [] [.agg [.tree (.pair .int (.pair .int .str)) a0_1],ai (wI (a1 - ((a0_0.size:Nat):Int)))] (Ac7 h8) ?_;refine rsB 1 ?_;refine An (tn_ ?_);refine wr_ ?_;refine Ab ?_;refine Aj ?_;rcases Ad h with ⟨q11,h⟩ | ⟨q11,h⟩
 ·have q11_:=of_decide_eq_true q11;refine Af q11 ?_;refine Aj ?_;refine Ah (tr_ ?_);obtain rfl:=zj h;exact A0 [ai (-1)] (Ap rfl zl As)
 have q11_:=of_decide_eq_false q11;refine Ag q11 ?_;refine Ai (tn_ ?_);refine wr_ ?_;refine Ab ?_;obtain ⟨y14,h14,h⟩:=Ae h;refine Aa 23 ?_;refine rz0 (.box (oi 2 1) 2) ?_;refine rzl (.agg [ai a0_2,ai a0_3,.tree (.slice .int) a0_4]) ?_;refine rz0 (ai y8) ?_;refine zc (ai y14) [] [.agg [ai a0_2,ai a0_3,.tree (.slice .int) a0_4],ai y8] (Sw h14) ?_;refine rsB 1 ?_;refine An (tn_ ?_);refine wr_ ?_;refine Ab ?_;refine Aj ?_;rcases Ad h with ⟨q17,h⟩ | ⟨q17,h⟩
 ·have q17_:=of_decide_eq_true q17;refine Af q17 ?_;refine Aj ?_;refine Ah (tr_ ?_);obtain rfl:=zj h;exact A0 [ai (-1)] (Ap rfl zl As)
 have q17_:=of_decide_eq_false q17;refine Ag q17 ?_;refine Ai (tn_ ?_);refine wr_ ?_;refine Aj ?_;refine Ah ?_;obtain rfl:=zj h;exact A0 [ai y14] (Ap rfl zl As)
def Kk:AC :=
 (.seq (rg [xo 1 (.i (.box 29 (tm 0))),⟨some 2,none,.i (.alloc 38 [.str ⟨#[]⟩,.nils,.int .i64 0,.int .i64 0,.nils])⟩])
 (.seq (rg [⟨some 3,none,.i (.alloc 38 [.str ⟨#[]⟩,.nils,.int .i64 0,.int .i64 0,.nils])⟩])
 (.seq (rg [xo 4 (qf 0 (tm 1)),xo 5 (ql (tm 4)),xo 6 (qf 0 (tm 3)),xn (qs (tm 6) (tm 5))])
 (.seq (rg [xo 7 (qf 1 (tm 1)),xo 8 (.i (.ld false 1 (tm 7))),⟨some 9,none,qc 13 [tm 8] [[some (.pair .int (.pair .int .str))]]⟩,xo 10 (qf 1 (tm 3)),xn (.st false 1 (tm 10) (tm 9))])
 (.seq (rg [xo 11 (qf 2 (tm 1)),xo 12 (.i (.ld false 3 (tm 11))),xo 13 (qc 14 [tm 12] [[none,none,some (.slice .int)]]),xo 14 (qf 2 (tm 3)),xn (.st false 3 (tm 14) (tm 13))])
 (.seq (rg [xo 15 (.i (.ld false 5 (tm 3))),xn (.st false 5 (tm 2) (tm 15))])
 .ret))))))
def T4:List Res:=[.cell 2 false 5]
theorem S7:Am Tryz.prog Tryz.f6=some (Kk,T4):=by kernel_rfl
theorem Ed:A5 Tryz.prog 6=true:=by kernel_rfl
def Bm (a0_0:ByteArray) (a0_1:List (Int×Int×ByteArray)) (a0_2:Int) (a0_3:Int) (a0_4:List (List Int)):Option (ByteArray×(List (Int×Int×ByteArray))×Int×Int×List (List Int)) :=
 Option.bind (I4 a0_1) fun y5 =>
Option.bind (Dz a0_2 a0_3 a0_4) fun y7 =>
some (a0_0,y5,a0_2,a0_3,y7)
def Qx (r:ByteArray×(List (Int×Int×ByteArray))×Int×Int×List (List Int)):RV:=⟨false,[(true,[.sc (.str r.1),.frz (.tree (.pair .int (.pair .int .str)) r.2.1),.sc (.int .i64 r.2.2.1),.sc (.int .i64 r.2.2.2.1),.frz (.tree (.slice .int) r.2.2.2.2)])]⟩
theorem Cc {a0_0:ByteArray} {a0_1:List (Int×Int×ByteArray)} {a0_2:Int} {a0_3:Int} {a0_4:List (List Int)} {r:ByteArray×(List (Int×Int×ByteArray))×Int×Int×List (List Int)} (h:Bm a0_0 a0_1 a0_2 a0_3 a0_4=some r):Ax Tryz.prog Tab 6 [.agg [.str a0_0,.tree (.pair .int (.pair .int .str)) a0_1,ai a0_2,ai a0_3,.tree (.slice .int) a0_4]] (Qx r):=by
 refine Aq4 (by kernel_rfl) Tryz.func6 S7 (n:=16) (by kernel_rfl) (by simp) (tl:=[(0,.agg [.str a0_0,.tree (.pair .int (.pair .int .str)) a0_1,ai a0_2,ai a0_3,.tree (.slice .int) a0_4])]) rfl fun zn_ nz_ hz_=>?_
 unfold Kk;unfold Bm at h;refine Aj ?_;refine Aj ?_;refine Aj ?_;refine Ab ?_;obtain ⟨y5,h5,h⟩:=Ae h;refine Aa 13 ?_;refine rz0 (.box (oi 1 1) 1) ?_;refine rzl (.agg [.tree (.pair .int (.pair .int .str)) a0_1]) ?_;refine Bs (.agg [.own (oi 144 10) (.pair .int (.pair .int .str)) 0 y5.length]) [(oi 144 10,some (.arr 81 (.pair .int (.pair .int .str)) y5))] [.agg [.tree (.pair .int (.pair .int .str)) a0_1]] _ (caps:=[]) (args0:=[.agg [.tree (.pair .int (.pair .int .str)) a0_1]]) trivial (by kernel_rfl) (Auu (Ab9 h5)) Ado ?_;refine rsB 2 ?_;refine An (tn_ ?_);refine wr_ ?_;refine Ab ?_;obtain ⟨y7,h7,h⟩:=Ae h;refine Aa 18 ?_;refine rz0 (.box (oi 1 1) 2) ?_;refine rzl (.agg [ai a0_2,ai a0_3,.tree (.slice .int) a0_4]) ?_;refine Jq (.agg [ai a0_2,ai a0_3,.own (oi 209 15) (.slice .int) 0 y7.length]) [(oi 208 15,some (.cells 36 [ai a0_2,ai a0_3,.own (oi 209 15) (.slice .int) 0 y7.length])),(oi 209 15,some (.mat 66 (oi 210 15) .int y7)),(oi 210 15,some (.pool 3 .int y7))] [] [.agg [ai a0_2,ai a0_3,.tree (.slice .int) a0_4]] (caps:=[]) trivial (Avl (Tw h7)) Tq trivial (.cons (.ren (by kernel_rfl)) .nil) (B8 (by kernel_rfl) (by kernel_rfl) trivial) ?_;refine rsB 2 ?_;refine An (tn_ ?_);refine wr_ ?_;refine Aj ?_;refine Ah ?_;obtain rfl:=zj h;exact Arh [(true,[.str a0_0,.own (oi 144 10) (.pair .int (.pair .int .str)) 0 y5.length,ai a0_2,ai a0_3,.own (oi 209 15) (.slice .int) 0 y7.length])] (Avo (V7 An2 (V7 (Am2 (.arr (e:=81) (by kernel_rfl) rfl)) (V7 An2 (V7 An2 (V7 (Am2 (.mat (p:=oi 210 15) (e1:=66) (e:=3) (by kernel_rfl) (Agj (by kernel_rfl)) rfl)) Avd))))) Amm)
def J8:AC :=
 (.seq (rg [xo 2 (.i (.box 38 (tm 0))),xo 3 (.i (.box 38 (tm 1))),xo 4 (qm (cb false))])
 (.seq (.seq (rg [xo 5 (qf 0 (tm 2)),xo 6 (ql (tm 5)),xo 7 (qf 0 (tm 3)),xo 8 (ql (tm 7)),xo 9 (qb .neq (tm 6) (tm 8))])
 (.cond (tm 9)
  (.seq (rg [xo 4 (qm (cb false))])
  .ret)
  .skip))
 (.seq (.seq (rg [xo 10 (qf 1 (tm 2)),xo 11 (.i (.ld false 1 (tm 10))),xo 12 (qf 1 (tm 3)),xo 13 (.i (.ld false 1 (tm 12))),⟨some 14,none,qc 17 [tm 11,tm 13] [[some (.pair .int (.pair .int .str))],[some (.pair .int (.pair .int .str))]]⟩,xo 15 (.i (.not (tm 14)))])
 (.cond (tm 15)
  (.seq (rg [xo 4 (qm (cb false))])
  .ret)
  .skip))
 (.seq (.seq (rg [xo 16 (qf 2 (tm 2)),xo 17 (.i (.ld false 3 (tm 16))),xo 18 (qf 2 (tm 3)),xo 19 (.i (.ld false 3 (tm 18))),xo 20 (qc 18 [tm 17,tm 19] [[none,none,some (.slice .int)],[none,none,some (.slice .int)]]),xo 21 (.i (.not (tm 20)))])
 (.cond (tm 21)
  (.seq (rg [xo 4 (qm (cb false))])
  .ret)
  .skip))
 (.seq (rg [xo 4 (qm (cb true))])
 .ret)))))
def Tv:List Res:=[.tmp 4]
theorem Tb:Am Tryz.prog Tryz.f8=some (J8,Tv):=by kernel_rfl
theorem Jx:A5 Tryz.prog 8=true:=by kernel_rfl
def Ck (a0_0:ByteArray) (a0_1:List (Int×Int×ByteArray)) (a0_2:Int) (a0_3:Int) (a0_4:List (List Int)) (a1_0:ByteArray) (a1_1:List (Int×Int×ByteArray)) (a1_2:Int) (a1_3:Int) (a1_4:List (List Int)):Option Bool :=
 cond (!(a0_0.toList==a1_0.toList))
 (some false)
 (Option.bind (I1 a0_1 a1_1) fun y8 =>
 cond (!y8)
  (some false)
  (Option.bind (Dt a0_2 a0_3 a0_4 a1_2 a1_3 a1_4) fun y13 =>
  cond (!y13)
   (some false)
   (some true)))
def Q4 (r:Bool):RV:=⟨false,[(false,[.sc (.bool r)])]⟩
theorem Jz {a0_0:ByteArray} {a0_1:List (Int×Int×ByteArray)} {a0_2:Int} {a0_3:Int} {a0_4:List (List Int)} {a1_0:ByteArray} {a1_1:List (Int×Int×ByteArray)} {a1_2:Int} {a1_3:Int} {a1_4:List (List Int)} {r:Bool} (h:Ck a0_0 a0_1 a0_2 a0_3 a0_4 a1_0 a1_1 a1_2 a1_3 a1_4=some r):Ax Tryz.prog Tab 8 [.agg [.str a0_0,.tree (.pair .int (.pair .int .str)) a0_1,ai a0_2,ai a0_3,.tree (.slice .int) a0_4],.agg [.str a1_0,.tree (.pair .int (.pair .int .str)) a1_1,ai a1_2,ai a1_3,.tree (.slice .int) a1_4]] (Q4 r):=by
 refine Ar (by kernel_rfl) Tryz.func8 Tb (n:=22) (by kernel_rfl) (by simp) (tl:=[(0,.agg [.str a0_0,.tree (.pair .int (.pair .int .str)) a0_1,ai a0_2,ai a0_3,.tree (.slice .int) a0_4]),(1,.agg [.str a1_0,.tree (.pair .int (.pair .int .str)) a1_1,ai a1_2,ai a1_3,.tree (.slice .int) a1_4])]) rfl ?_;unfold J8;unfold Ck at h;refine Aj ?_;refine Ab ?_;refine Aj ?_;rcases Ad h with ⟨q4,h⟩ | ⟨q4,h⟩
 ·refine Af q4 ?_;refine Aj ?_;refine Ah (tr_ ?_);obtain rfl:=zj h;exact A0 [.bool false] (Ap rfl zl As)
 refine Ag q4 ?_;refine Ai (tn_ ?_);refine wr_ ?_;refine Ab ?_;refine Ab ?_;obtain ⟨y8,h8,h⟩:=Ae h;refine Aa 15 ?_;refine rz0 (.box (oi 2 1) 1) ?_;refine rzl (.agg [.tree (.pair .int (.pair .int .str)) a0_1]) ?_;refine rz0 (.box (oi 3 2) 1) ?_;refine rzl (.agg [.tree (.pair .int (.pair .int .str)) a1_1]) ?_;refine zc (.bool y8) [] [.agg [.tree (.pair .int (.pair .int .str)) a0_1],.agg [.tree (.pair .int (.pair .int .str)) a1_1]] (Aat h8) ?_;refine rsB 1 ?_;refine An (tn_ ?_);refine wr_ ?_;rcases Ad h with ⟨q9,h⟩ | ⟨q9,h⟩
 ·refine Af q9 ?_;refine Aj ?_;refine Ah (tr_ ?_);obtain rfl:=zj h;exact A0 [.bool false] (Ap rfl zl As)
 refine Ag q9 ?_;refine Ai (tn_ ?_);refine wr_ ?_;refine Ab ?_;refine Ab ?_;obtain ⟨y13,h13,h⟩:=Ae h;refine Aa 21 ?_;refine rz0 (.box (oi 2 1) 2) ?_;refine rzl (.agg [ai a0_2,ai a0_3,.tree (.slice .int) a0_4]) ?_;refine rz0 (.box (oi 3 2) 2) ?_;refine rzl (.agg [ai a1_2,ai a1_3,.tree (.slice .int) a1_4]) ?_;refine zc (.bool y13) [] [.agg [ai a0_2,ai a0_3,.tree (.slice .int) a0_4],.agg [ai a1_2,ai a1_3,.tree (.slice .int) a1_4]] (S9 h13) ?_;refine rsB 1 ?_;refine An (tn_ ?_);refine wr_ ?_;rcases Ad h with ⟨q14,h⟩ | ⟨q14,h⟩
 ·refine Af q14 ?_;refine Aj ?_;refine Ah (tr_ ?_);obtain rfl:=zj h;exact A0 [.bool false] (Ap rfl zl As)
 refine Ag q14 ?_;refine Ai (tn_ ?_);refine wr_ ?_;refine Aj ?_;refine Ah ?_;obtain rfl:=zj h;exact A0 [.bool true] (Ap rfl zl As)
def Pq:AC :=
 (.seq (rg [xo 2 (qm (cb false))])
 (.seq (rg [xo 3 (qm (tm 0)),⟨some 4,none,.i (.bin .geq (tm 3) (.cst (.int .u8 97)))⟩,xo 5 (qm (tm 4)),⟨some 6,some (5,true),qm (tm 0)⟩,⟨some 7,some (5,true),.i (.bin .leq (tm 6) (.cst (.int .u8 122)))⟩,xo 8 (.i (.pick (tm 5) (tm 7) (cb false))),xo 2 (qm (tm 8))])
 .ret))
def Aaf:List Res:=[.tmp 2]
theorem Aa0:Am Tryz.prog Tryz.f50=some (Pq,Aaf):=by kernel_rfl
theorem Oj:A5 Tryz.prog 50=true:=by kernel_rfl
def Ek (a0:Int):Option Bool :=
 Option.bind (cond (decide (97<=a0))
  (some (decide (a0<=122)))
  (some false)) fun l2_m2 =>
some l2_m2
def Yg (r:Bool):RV:=⟨false,[(false,[.sc (.bool r)])]⟩
theorem Hv {a0:Int} {r:Bool} (h:Ek a0=some r):Ax Tryz.prog Tab 50 [.int .u8 a0] (Yg r):=by
 refine Ar (by kernel_rfl) Tryz.func50 Aa0 (n:=9) (by kernel_rfl) (by simp) (tl:=[(0,.int .u8 a0)]) rfl ?_;unfold Pq;unfold Ek at h;refine Aj ?_;refine Aw h (fun (l2_m2:Bool) S_=>S_=⟨Ao [(2,.bool l2_m2)],Ak (Aq []),2⟩) ?_ ?_
 ·intro v_ h;rcases Ad h with ⟨q3,h⟩ | ⟨q3,h⟩
  ·have q3_:=of_decide_eq_true q3;refine Aa 9 ?_;refine rz0 (.int .u8 a0) ?_;refine rz0 (.bool (decide (97<=a0))) ?_;refine rz0 (.bool (decide (97<=a0))) ?_;refine rs0 (.int .u8 a0) (zg q3) ?_;refine rs0 (.bool (decide (a0<=122))) (zg q3) ?_;refine rs0 (.bool (decide (a0<=122))) (zT q3) ?_;refine rsB 1 ?_;refine An (tn_ ?_);obtain rfl:=zj h;exact ⟨_,Ac [],rfl⟩
  have q3_:=of_decide_eq_false q3;refine Aa 9 ?_;refine rz0 (.int .u8 a0) ?_;refine rz0 (.bool (decide (97<=a0))) ?_;refine rz0 (.bool (decide (97<=a0))) ?_;refine zs q3 ?_;refine zs q3 ?_;refine rs0 (.bool false) (zF q3) ?_;refine rsB 1 ?_;refine An (tn_ ?_);obtain rfl:=zj h;exact ⟨_,Ac [],rfl⟩
 rintro l2_m2 _ rfl h
 (try dsimp only at h);refine Ah ?_;obtain rfl:=zj h;exact A0 [.bool l2_m2] (Ap rfl zl As)
def My:AC :=
 (.seq (rg [xo 0 (qm (.cst .nils))])
 (.seq (rg [⟨some 1,none,.mkS 9 .str [.cst (.str ⟨#[]⟩),.cst (.str ⟨#[105,100]⟩),.cst (.str ⟨#[115,119,97,112]⟩),.cst (.str ⟨#[99,111,112,121]⟩),.cst (.str ⟨#[100,105,115,99,97,114,100]⟩),.cst (.str ⟨#[97,100,100]⟩),.cst (.str ⟨#[122,101,114,111]⟩),.cst (.str ⟨#[115,99,97,108,101]⟩),.cst (.str ⟨#[100,101,108,97,121]⟩),.cst (.str ⟨#[99,111,99,111,112,121]⟩),.cst (.str ⟨#[99,111,100,105,115,99,97,114,100]⟩),.cst (.str ⟨#[99,111,97,100,100]⟩),.cst (.str ⟨#[99,111,122,101,114,111]⟩),.cst (.str ⟨#[99,111,115,99,97,108,101]⟩),.cst (.str ⟨#[99,111,100,101,108,97,121]⟩)]⟩,xo 0 (qm (tm 1))])
 .ret))
def Xf:List Res:=[.tmp 0]
theorem Xk:Am Tryz.prog Tryz.f70=some (My,Xf):=by kernel_rfl
def G1  : Option (List ByteArray) :=
 some ([(⟨#[]⟩:ByteArray),(⟨#[105,100]⟩:ByteArray),(⟨#[115,119,97,112]⟩:ByteArray),(⟨#[99,111,112,121]⟩:ByteArray),(⟨#[100,105,115,99,97,114,100]⟩:ByteArray),(⟨#[97,100,100]⟩:ByteArray),(⟨#[122,101,114,111]⟩:ByteArray),(⟨#[115,99,97,108,101]⟩:ByteArray),(⟨#[100,101,108,97,121]⟩:ByteArray),(⟨#[99,111,99,111,112,121]⟩:ByteArray),(⟨#[99,111,100,105,115,99,97,114,100]⟩:ByteArray),(⟨#[99,111,97,100,100]⟩:ByteArray),(⟨#[99,111,122,101,114,111]⟩:ByteArray),(⟨#[99,111,115,99,97,108,101]⟩:ByteArray),(⟨#[99,111,100,101,108,97,121]⟩:ByteArray)])
def Vv (r:List ByteArray):RV:=⟨false,[(false,[.new 9 .str r])]⟩
theorem Ur {r:List ByteArray} (h:G1=some r):Ax Tryz.prog Tab 70 [] (Vv r):=by
 refine Ar (by kernel_rfl) Tryz.func70 Xk (n:=2) (by kernel_rfl) (by simp) (tl:=[]) rfl ?_;unfold My;unfold G1 at h;refine Aj ?_;refine Aj ?_;refine Ah ?_;obtain rfl:=zj h;exact A0 [.own (oi 1 2) .str 0 15] (Ap rfl (Eb (by kernel_rfl) rfl) As)
def Nm:AC :=
 (.seq (rg [xo 8 (qb .lss (tm 7) (tm 6))])
 (.seq (.cond (tm 8)
  .skip
  (.exit 0))
 (.seq (.block 1 (.seq (rg [xo 9 (qm (tm 7)),xo 10 (qx 1 (tm 5) (tm 7)),xo 11 (ql (tm 10)),xo 3 (qm (tm 9)),xo 4 (qm (tm 11))])
 (.seq (rg [xo 12 (qm (tm 4)),xo 13 (qm (tm 0)),xo 14 (qb .eql (tm 12) (tm 13))])
 (.cond (tm 14)
  (.seq (rg [xo 15 (qm (tm 3)),xo 2 (qm (tm 15))])
  .ret)
  .skip))))
 (rg [xo 16 (qb .add (tm 7) (ci 1)),xo 7 (qm (tm 16))]))))
def Ru:AC :=
 (.seq (rg [xo 2 (qm (ci 0))])
 (.seq (.seq (rg [xo 5 (qc 70 [] []),xo 6 (.i (.len (tm 5))),xo 7 (qm (ci 0))])
 (.block 0 (.loop Nm)))
 (.seq (rg [xo 2 (qm (ci 17))])
 .ret)))
def Afz:List Res:=[.tmp 2]
theorem Ad0:Am Tryz.prog Tryz.f51=some (Ru,Afz):=by kernel_rfl
theorem Z3:A5 Tryz.prog 51=true:=by kernel_rfl
def Cm (y4:List ByteArray) (a0:ByteArray) (l5_m7:Nat):Option (Ctl Nat (Ctl Unit Int)) :=
 cond (decide (((l5_m7:Nat):Int)<((y4.length:Nat):Int)))
 (Option.bind (y4[l5_m7]?) fun x11 =>
 cond (x11.toList==a0.toList)
  (some (Ctl.out (Ctl.out ((l5_m7:Nat):Int))))
  (og (l5_m7+1<4611686018427387904) <|
  some (Ctl.next (l5_m7+1))))
 (some (Ctl.out (Ctl.next ())))
def Hc (a0:ByteArray):Option Int :=
 Do (Option.bind (G1) fun y4 =>
 A4 (fun s_:Nat=>Cm y4 a0 s_) 4611686018427387904 0) fun _ =>
some 17
def Zu (r:Int):RV:=⟨false,[(false,[.sc (.int .i64 r)])]⟩
theorem Ab6 {a0:ByteArray} {r:Int} (h:Hc a0=some r):Ax Tryz.prog Tab 51 [.str a0] (Zu r):=by
 refine Ar (by kernel_rfl) Tryz.func51 Ad0 (n:=17) (by kernel_rfl) (by simp) (tl:=[(0,.str a0)]) rfl ?_;unfold Ru;unfold Hc at h;refine Aj ?_;refine Bh h (fun (_:Unit) S_=>S_=⟨Ao [],Ak (Aq []),2⟩) ?_ ?_
 ·intro v_ h hk2;refine Ab ?_;obtain ⟨y4,h4,h⟩:=Ae h;refine Aa 5 ?_;refine zc (.own (oi 80 2) .str 0 y4.length) [(oi 80 2,some (.arr 9 .str y4))] [] (Ur h4) ?_;refine rsB 2 ?_;refine An (tn_ ?_);refine wr_ ?_;refine Al ?_;refine A3 h (fun (l5_m7:Nat) S_=>S_=⟨Ao [(0,.str a0),(5,.own (oi 0 1) .str 0 y4.length),(6,ai ((y4.length:Nat):Int)),(7,ai ((l5_m7:Nat):Int))],Ak (Aq [(oi 0 1,.arr 9 .str y4)]),2⟩) ⟨_,Ac [(oi 0 1,oi 80 2)],rfl⟩ ?_;rintro n_ l5_m7 _ c_ rfl h hn5
  (try dsimp only at h);unfold Cm at h;unfold Nm;refine Aj ?_;refine Ab ?_;rcases Ad h with ⟨q8,h⟩ | ⟨q8,h⟩
  ·have q8_:=of_decide_eq_true q8;refine Af q8 ?_;refine Ai (tn_ ?_);refine wr_ ?_;refine Ab ?_;refine Al ?_;refine Ab ?_;obtain ⟨x11,e11,h⟩:=Ae h;refine Aa 8 ?_;refine rz0 (ai ((l5_m7:Nat):Int)) ?_;refine rs0 (.elt (oi 0 1) l5_m7 0) (zo (t:=.str) (o:=oi 0 1) (len:=y4.length) (k:=.i64) (m:=((l5_m7:Nat):Int)) (Ay _) (Av e11)) ?_;refine rsl (.str x11) (C0 (i:=oi 0 1) (j:=l5_m7) (k:=0) (e:=9) (t:=.str) (xs:=y4) (by kernel_rfl) (by kernel_rfl) e11 (by kernel_rfl)) ?_;refine rsB 2 ?_;refine An (tn_ ?_);refine wr_ ?_;refine Aj ?_;rcases Ad h with ⟨q13,h⟩ | ⟨q13,h⟩
   ·refine Af q13 ?_;refine Aj ?_;refine Ah (br_ (tr_ (tr_ (br_ (tr_ ?_)))));obtain rfl:=zj h;have h:=hn5
    (try dsimp only at h);obtain rfl:=zj h;have h:=hk2
    (try dsimp only at h);obtain rfl:=zj h;exact A0 [ai ((l5_m7:Nat):Int)] (Ap rfl zl As)
   refine Ag q13 ?_;refine Ai (bn_ (tn_ ?_));refine wr_ ?_;obtain ⟨g15,h⟩:=Au h;refine Aa 13 ?_;refine rs0 (ai ((l5_m7+1:Nat):Int)) (za g15) ?_;refine rsB 1 ?_;refine An (tn_ ?_);obtain rfl:=zj h;exact ⟨l5_m7+1,_,Ac [],rfl,hn5⟩
  have q8_:=of_decide_eq_false q8;refine Ag q8 ?_;refine Az (te_ (te_ (be_ (tn_ ?_))));obtain rfl:=zj h;have h:=hn5
  (try dsimp only at h);obtain rfl:=zj h;exact ⟨(),_,rfl,Ac [],rfl⟩
 rintro _ _ rfl h
 (try dsimp only at h);refine Aj ?_;refine Ah ?_;obtain rfl:=zj h;exact A0 [ai 17] (Ap rfl zl As)
def Pt:AC :=
 (.seq (rg [xo 2 (qm (cb false))])
 (.seq (rg [xo 3 (qm (tm 0)),⟨some 4,none,.i (.bin .geq (tm 3) (.cst (.int .u8 48)))⟩,xo 5 (qm (tm 4)),⟨some 6,some (5,true),qm (tm 0)⟩,⟨some 7,some (5,true),.i (.bin .leq (tm 6) (.cst (.int .u8 57)))⟩,xo 8 (.i (.pick (tm 5) (tm 7) (cb false))),xo 2 (qm (tm 8))])
 .ret))
def Abs:List Res:=[.tmp 2]
theorem Adg:Am Tryz.prog Tryz.f52=some (Pt,Abs):=by kernel_rfl
theorem Zf:A5 Tryz.prog 52=true:=by kernel_rfl
def Gg (a0:Int):Option Bool :=
 Option.bind (cond (decide (48<=a0))
  (some (decide (a0<=57)))
  (some false)) fun l2_m2 =>
some l2_m2
def Zc (r:Bool):RV:=⟨false,[(false,[.sc (.bool r)])]⟩
theorem Yw {a0:Int} {r:Bool} (h:Gg a0=some r):Ax Tryz.prog Tab 52 [.int .u8 a0] (Zc r):=by
 refine Ar (by kernel_rfl) Tryz.func52 Adg (n:=9) (by kernel_rfl) (by simp) (tl:=[(0,.int .u8 a0)]) rfl ?_;unfold Pt;unfold Gg at h;refine Aj ?_;refine Aw h (fun (l2_m2:Bool) S_=>S_=⟨Ao [(2,.bool l2_m2)],Ak (Aq []),2⟩) ?_ ?_
 ·intro v_ h;rcases Ad h with ⟨q3,h⟩ | ⟨q3,h⟩
  ·have q3_:=of_decide_eq_true q3;refine Aa 9 ?_;refine rz0 (.int .u8 a0) ?_;refine rz0 (.bool (decide (48<=a0))) ?_;refine rz0 (.bool (decide (48<=a0))) ?_;refine rs0 (.int .u8 a0) (zg q3) ?_;refine rs0 (.bool (decide (a0<=57))) (zg q3) ?_;refine rs0 (.bool (decide (a0<=57))) (zT q3) ?_;refine rsB 1 ?_;refine An (tn_ ?_);obtain rfl:=zj h;exact ⟨_,Ac [],rfl⟩
  have q3_:=of_decide_eq_false q3;refine Aa 9 ?_;refine rz0 (.int .u8 a0) ?_;refine rz0 (.bool (decide (48<=a0))) ?_;refine rz0 (.bool (decide (48<=a0))) ?_;refine zs q3 ?_;refine zs q3 ?_;refine rs0 (.bool false) (zF q3) ?_;refine rsB 1 ?_;refine An (tn_ ?_);obtain rfl:=zj h;exact ⟨_,Ac [],rfl⟩
 rintro l2_m2 _ rfl h
 (try dsimp only at h);refine Ah ?_;obtain rfl:=zj h;exact A0 [.bool l2_m2] (Ap rfl zl As)
def Mr:AC :=
 (.seq (rg [xo 22 (qb .lss (tm 21) (tm 20))])
 (.seq (.cond (tm 22)
  .skip
  (.exit 0))
 (.seq (.block 1 (.seq (rg [xo 23 (qm (tm 21)),xo 3 (qm (tm 23))])
 (.seq (rg [xo 24 (qm (tm 0)),xo 25 (qm (tm 3)),xo 26 (.i (.char (tm 24) (tm 25))),xo 27 (qc 50 [tm 26] [[]]),xo 28 (.i (.not (tm 27))),xo 29 (qm (tm 28)),⟨some 30,some (29,true),qm (tm 0)⟩,⟨some 31,some (29,true),qm (tm 3)⟩,⟨some 32,some (29,true),.i (.char (tm 30) (tm 31))⟩,⟨some 33,some (29,true),qc 52 [tm 32] [[]]⟩,⟨some 34,some (29,true),.i (.not (tm 33))⟩,xo 35 (.i (.pick (tm 29) (tm 34) (cb false)))])
 (.cond (tm 35)
  (.seq (rg [xo 2 (qm (cb false))])
  .ret)
  .skip))))
 (rg [xo 36 (qb .add (tm 21) (ci 1)),xo 21 (qm (tm 36))]))))
def Rj:AC :=
 (.seq (rg [xo 2 (qm (cb false))])
 (.seq (.seq (rg [xo 4 (qm (tm 0)),xo 5 (.i (.lenS (tm 4))),xo 6 (qc 49 [tm 5,ci 1,ci 8] [[],[],[]]),xo 7 (.i (.not (tm 6))),xo 8 (qm (tm 7)),⟨some 9,some (8,false),qm (tm 0)⟩,⟨some 10,some (8,false),.i (.char (tm 9) (ci 0))⟩,⟨some 11,some (8,false),qc 50 [tm 10] [[]]⟩,⟨some 12,some (8,false),.i (.not (tm 11))⟩,xo 13 (.i (.pick (tm 8) (cb true) (tm 12))),xo 14 (qm (tm 13)),⟨some 15,some (14,false),qm (tm 0)⟩,⟨some 16,some (14,false),qc 51 [tm 15] [[]]⟩,⟨some 17,some (14,false),qb .neq (tm 16) (ci 17)⟩,xo 18 (.i (.pick (tm 14) (cb true) (tm 17)))])
 (.cond (tm 18)
  (.seq (rg [xo 2 (qm (cb false))])
  .ret)
  .skip))
 (.seq (.seq (rg [xo 19 (qm (tm 0)),xo 20 (.i (.lenS (tm 19))),xo 21 (qm (ci 0))])
 (.block 0 (.loop Mr)))
 (.seq (rg [xo 2 (qm (cb true))])
 .ret))))
def Aeo:List Res:=[.tmp 2]
theorem Afq:Am Tryz.prog Tryz.f29=some (Rj,Aeo):=by kernel_rfl
def Eu (a0:ByteArray) (l14_m21:Nat):Option (Ctl Nat (Ctl Unit Bool)) :=
 cond (decide (((l14_m21:Nat):Int)<((a0.size:Nat):Int)))
 (Option.bind (Option.bind (a0[l14_m21]?) fun x21 =>
  Option.bind (Ek ((x21.toNat:Nat):Int)) fun y22 =>
  cond (!y22)
   (Option.bind (a0[l14_m21]?) fun x24 =>
   Option.bind (Gg ((x24.toNat:Nat):Int)) fun y25 =>
   some (!y25))
   (some false)) fun l20_m35 =>
 cond l20_m35
  (some (Ctl.out (Ctl.out false)))
  (og (l14_m21+1<4611686018427387904) <|
  some (Ctl.next (l14_m21+1))))
 (some (Ctl.out (Ctl.next ())))
def Hr (a0:ByteArray):Option Bool :=
 Option.bind (Option.bind (B3 ((a0.size:Nat):Int) 1 8) fun y4 =>
 cond (!y4)
  (some true)
  (Option.bind (a0[0]?) fun x6 =>
  Option.bind (Ek ((x6.toNat:Nat):Int)) fun y7 =>
  cond (!y7)
   (some true)
   (Option.bind (Hc a0) fun y9 =>
   some (y9 !=17)))) fun l3_m18 =>
cond l3_m18
 (some false)
 (Do (A4 (fun s_:Nat=>Eu a0 s_) 4611686018427387904 0) fun _ =>
 some true)
def Aa6 (r:Bool):RV:=⟨false,[(false,[.sc (.bool r)])]⟩
theorem Le {a0:ByteArray} {r:Bool} (h:Hr a0=some r):Ax Tryz.prog Tab 29 [.str a0] (Aa6 r):=by
 refine Ar (by kernel_rfl) Tryz.func29 Afq (n:=37) (by kernel_rfl) (by simp) (tl:=[(0,.str a0)]) rfl ?_;unfold Rj;unfold Hr at h;refine Aj ?_;refine Ab ?_;refine Aw h (fun (l3_m18:Bool) S_=>S_=⟨Ao [(0,.str a0),(18,.bool l3_m18)],Ak (Aq []),2⟩) ?_ ?_
 ·intro v_ h;obtain ⟨y4,h4,h⟩:=Ae h;rcases Ad h with ⟨q5,h⟩ | ⟨q5,h⟩
  ·refine Aa 17 ?_;refine rz0 (.str a0) ?_;refine rz0 (ai ((a0.size:Nat):Int)) ?_;refine zc (.bool y4) [] [ai ((a0.size:Nat):Int),ai 1,ai 8] (Bp h4) ?_;refine rz0 (.bool (!y4)) ?_;refine rz0 (.bool (!y4)) ?_;refine zs q5 ?_;refine zs q5 ?_;refine zs q5 ?_;refine zs q5 ?_;refine rs0 (.bool true) (zT q5) ?_;refine rsB 5 ?_;refine An (tn_ ?_);obtain rfl:=zj h;exact ⟨_,Ac [],rfl⟩
  obtain ⟨x6,e6,h⟩:=Ae h;obtain ⟨y7,h7,h⟩:=Ae h;rcases Ad h with ⟨q8,h⟩ | ⟨q8,h⟩
  ·refine Aa 17 ?_;refine rz0 (.str a0) ?_;refine rz0 (ai ((a0.size:Nat):Int)) ?_;refine zc (.bool y4) [] [ai ((a0.size:Nat):Int),ai 1,ai 8] (Bp h4) ?_;refine rz0 (.bool (!y4)) ?_;refine rz0 (.bool (!y4)) ?_;refine rs0 (.str a0) (zg q5) ?_;refine rs0 (.int .u8 ((x6.toNat:Nat):Int)) (Fv (by kernel_rfl) q5 (Dn (s:=a0) (k:=.i64) (m:=0) (by kernel_rfl) (by kernel_rfl) (by decide) rfl e6)) ?_;refine Bs (.bool y7) [] [.int .u8 ((x6.toNat:Nat):Int)] _ (caps:=[]) (args0:=[.int .u8 ((x6.toNat:Nat):Int)]) (Bf (by kernel_rfl) q5) (by kernel_rfl) (Hv h7) Oj ?_;refine rs0 (.bool (!y7)) (zg q5) ?_;refine rs0 (.bool (!y7)) (zF q5) ?_;refine rz0 (.bool (!y7)) ?_;refine zs q8 ?_;refine zs q8 ?_;refine zs q8 ?_;refine rs0 (.bool true) (zT q8) ?_;refine An (tn_ ?_);obtain rfl:=zj h;exact ⟨_,Ac [],rfl⟩
  obtain ⟨y9,h9,h⟩:=Ae h;refine Aa 17 ?_;refine rz0 (.str a0) ?_;refine rz0 (ai ((a0.size:Nat):Int)) ?_;refine zc (.bool y4) [] [ai ((a0.size:Nat):Int),ai 1,ai 8] (Bp h4) ?_;refine rz0 (.bool (!y4)) ?_;refine rz0 (.bool (!y4)) ?_;refine rs0 (.str a0) (zg q5) ?_;refine rs0 (.int .u8 ((x6.toNat:Nat):Int)) (Fv (by kernel_rfl) q5 (Dn (s:=a0) (k:=.i64) (m:=0) (by kernel_rfl) (by kernel_rfl) (by decide) rfl e6)) ?_;refine Bs (.bool y7) [] [.int .u8 ((x6.toNat:Nat):Int)] _ (caps:=[]) (args0:=[.int .u8 ((x6.toNat:Nat):Int)]) (Bf (by kernel_rfl) q5) (by kernel_rfl) (Hv h7) Oj ?_;refine rs0 (.bool (!y7)) (zg q5) ?_;refine rs0 (.bool (!y7)) (zF q5) ?_;refine rz0 (.bool (!y7)) ?_;refine rs0 (.str a0) (zg q8) ?_;refine Bs (ai y9) [] [.str a0] _ (caps:=[]) (args0:=[.str a0]) (Bf (by kernel_rfl) q8) (by kernel_rfl) (Ab6 h9) Z3 ?_;refine rs0 (.bool (y9 !=17)) (zg q8) ?_;refine rs0 (.bool (y9 !=17)) (zF q8) ?_;refine An (tn_ ?_);obtain rfl:=zj h;exact ⟨_,Ac [],rfl⟩
 rintro l3_m18 _ rfl h
 (try dsimp only at h);rcases Ad h with ⟨q10,h⟩ | ⟨q10,h⟩
 ·refine Af q10 ?_;refine Aj ?_;refine Ah (tr_ ?_);obtain rfl:=zj h;exact A0 [.bool false] (Ap rfl zl As)
 refine Ag q10 ?_;refine Ai (tn_ ?_);refine wr_ ?_;refine Bh h (fun (_:Unit) S_=>S_=⟨Ao [],Ak (Aq []),2⟩) ?_ ?_
 ·intro v_ h hk12;refine Aj ?_;refine Al ?_;refine A3 h (fun (l14_m21:Nat) S_=>S_=⟨Ao [(0,.str a0),(20,ai ((a0.size:Nat):Int)),(21,ai ((l14_m21:Nat):Int))],Ak (Aq []),2⟩) ⟨_,Ac [],rfl⟩ ?_;rintro n_ l14_m21 _ c_ rfl h hn14
  (try dsimp only at h);unfold Eu at h;unfold Mr;refine Aj ?_;refine Ab ?_;rcases Ad h with ⟨q17,h⟩ | ⟨q17,h⟩
  ·have q17_:=of_decide_eq_true q17;refine Af q17 ?_;refine Ai (tn_ ?_);refine wr_ ?_;refine Ab ?_;refine Al ?_;refine Aj ?_;refine Aw h (fun (l20_m35:Bool) S_=>S_=⟨Ao [(0,.str a0),(20,ai ((a0.size:Nat):Int)),(21,ai ((l14_m21:Nat):Int)),(35,.bool l20_m35)],Ak (Aq []),2⟩) ?_ ?_
   ·intro v_ h;obtain ⟨x21,e21,h⟩:=Ae h;obtain ⟨y22,h22,h⟩:=Ae h;rcases Ad h with ⟨q23,h⟩ | ⟨q23,h⟩
    ·obtain ⟨x24,e24,h⟩:=Ae h;obtain ⟨y25,h25,h⟩:=Ae h;refine Aa 17 ?_;refine rz0 (.str a0) ?_;refine rz0 (ai ((l14_m21:Nat):Int)) ?_;refine rs0 (.int .u8 ((x21.toNat:Nat):Int)) (Dn (s:=a0) (k:=.i64) (m:=((l14_m21:Nat):Int)) (by kernel_rfl) (by kernel_rfl) (Ay _) rfl e21) ?_;refine zc (.bool y22) [] [.int .u8 ((x21.toNat:Nat):Int)] (Hv h22) ?_;refine rz0 (.bool (!y22)) ?_;refine rz0 (.bool (!y22)) ?_;refine rs0 (.str a0) (zg q23) ?_;refine rs0 (ai ((l14_m21:Nat):Int)) (zg q23) ?_;refine rs0 (.int .u8 ((x24.toNat:Nat):Int)) (Fv (by kernel_rfl) q23 (Dn (s:=a0) (k:=.i64) (m:=((l14_m21:Nat):Int)) (by kernel_rfl) (by kernel_rfl) (Ay _) rfl e24)) ?_;refine Bs (.bool y25) [] [.int .u8 ((x24.toNat:Nat):Int)] _ (caps:=[]) (args0:=[.int .u8 ((x24.toNat:Nat):Int)]) (Bf (by kernel_rfl) q23) (by kernel_rfl) (Yw h25) Zf ?_;refine rs0 (.bool (!y25)) (zg q23) ?_;refine rs0 (.bool (!y25)) (zT q23) ?_;refine An (tn_ ?_);obtain rfl:=zj h;exact ⟨_,Ac [],rfl⟩
    refine Aa 17 ?_;refine rz0 (.str a0) ?_;refine rz0 (ai ((l14_m21:Nat):Int)) ?_;refine rs0 (.int .u8 ((x21.toNat:Nat):Int)) (Dn (s:=a0) (k:=.i64) (m:=((l14_m21:Nat):Int)) (by kernel_rfl) (by kernel_rfl) (Ay _) rfl e21) ?_;refine zc (.bool y22) [] [.int .u8 ((x21.toNat:Nat):Int)] (Hv h22) ?_;refine rz0 (.bool (!y22)) ?_;refine rz0 (.bool (!y22)) ?_;refine zs q23 ?_;refine zs q23 ?_;refine zs q23 ?_;refine zs q23 ?_;refine zs q23 ?_;refine rs0 (.bool false) (zF q23) ?_;refine An (tn_ ?_);obtain rfl:=zj h;exact ⟨_,Ac [],rfl⟩
   rintro l20_m35 _ rfl h
   (try dsimp only at h);rcases Ad h with ⟨q26,h⟩ | ⟨q26,h⟩
   ·refine Af q26 ?_;refine Aj ?_;refine Ah (br_ (tr_ (tr_ (br_ (tr_ ?_)))));obtain rfl:=zj h;have h:=hn14
    (try dsimp only at h);obtain rfl:=zj h;have h:=hk12
    (try dsimp only at h);obtain rfl:=zj h;exact A0 [.bool false] (Ap rfl zl As)
   refine Ag q26 ?_;refine Ai (bn_ (tn_ ?_));refine wr_ ?_;obtain ⟨g28,h⟩:=Au h;refine Aa 4 ?_;refine rs0 (ai ((l14_m21+1:Nat):Int)) (za g28) ?_;refine rsB 1 ?_;refine An (tn_ ?_);obtain rfl:=zj h;exact ⟨l14_m21+1,_,Ac [],rfl,hn14⟩
  have q17_:=of_decide_eq_false q17;refine Ag q17 ?_;refine Az (te_ (te_ (be_ (tn_ ?_))));obtain rfl:=zj h;have h:=hn14
  (try dsimp only at h);obtain rfl:=zj h;exact ⟨(),_,rfl,Ac [],rfl⟩
 rintro _ _ rfl h
 (try dsimp only at h);refine Aj ?_;refine Ah ?_;obtain rfl:=zj h;exact A0 [.bool true] (Ap rfl zl As)
def Kq:AC :=
 (.seq (rg [xo 2 (qm (cb false))])
 (.seq (rg [xo 3 (qm (tm 0)),xo 4 (qc 49 [tm 3,ci 3,ci 14] [[],[],[]]),xo 2 (qm (tm 4))])
 .ret))
def Tn:List Res:=[.tmp 2]
theorem Sp:Am Tryz.prog Tryz.f77=some (Kq,Tn):=by kernel_rfl
def Fc (a0:Int):Option Bool :=
 Option.bind (B3 a0 3 14) fun y3 =>
some y3
def Q0 (r:Bool):RV:=⟨false,[(false,[.sc (.bool r)])]⟩
theorem Q6 {a0:Int} {r:Bool} (h:Fc a0=some r):Ax Tryz.prog Tab 77 [ai a0] (Q0 r):=by
 refine Ar (by kernel_rfl) Tryz.func77 Sp (n:=5) (by kernel_rfl) (by simp) (tl:=[(0,ai a0)]) rfl ?_;unfold Kq;unfold Fc at h;refine Aj ?_;refine Ab ?_;obtain ⟨y3,h3,h⟩:=Ae h;refine Aa 5 ?_;refine rz0 (ai a0) ?_;refine zc (.bool y3) [] [ai a0,ai 3,ai 14] (Bp h3) ?_;refine rsB 1 ?_;refine An (tn_ ?_);refine wr_ ?_;refine Ah ?_;obtain rfl:=zj h;exact A0 [.bool y3] (Ap rfl zl As)
def Ok:AC :=
 (.seq (rg [xo 2 (qm (cb false))])
 (.seq (rg [xo 3 (qm (tm 0)),xo 4 (qb .eql (tm 3) (ci 7)),xo 5 (qm (tm 4)),⟨some 6,some (5,false),qm (tm 0)⟩,⟨some 7,some (5,false),qb .eql (tm 6) (ci 13)⟩,xo 8 (.i (.pick (tm 5) (cb true) (tm 7))),xo 2 (qm (tm 8))])
 .ret))
def Y5:List Res:=[.tmp 2]
theorem Yj:Am Tryz.prog Tryz.f72=some (Ok,Y5):=by kernel_rfl
def Dq (a0:Int):Option Bool :=
 Option.bind (cond (a0==7)
  (some true)
  (some (a0==13))) fun l2_m2 =>
some l2_m2
def Xj (r:Bool):RV:=⟨false,[(false,[.sc (.bool r)])]⟩
theorem Ix {a0:Int} {r:Bool} (h:Dq a0=some r):Ax Tryz.prog Tab 72 [ai a0] (Xj r):=by
 refine Ar (by kernel_rfl) Tryz.func72 Yj (n:=9) (by kernel_rfl) (by simp) (tl:=[(0,ai a0)]) rfl ?_;unfold Ok;unfold Dq at h;refine Aj ?_;refine Aw h (fun (l2_m2:Bool) S_=>S_=⟨Ao [(2,.bool l2_m2)],Ak (Aq []),2⟩) ?_ ?_
 ·intro v_ h;rcases Ad h with ⟨q3,h⟩ | ⟨q3,h⟩
  ·refine Aa 9 ?_;refine rz0 (ai a0) ?_;refine rz0 (.bool (a0==7)) ?_;refine rz0 (.bool (a0==7)) ?_;refine zs q3 ?_;refine zs q3 ?_;refine rs0 (.bool true) (zT q3) ?_;refine rsB 1 ?_;refine An (tn_ ?_);obtain rfl:=zj h;exact ⟨_,Ac [],rfl⟩
  refine Aa 9 ?_;refine rz0 (ai a0) ?_;refine rz0 (.bool (a0==7)) ?_;refine rz0 (.bool (a0==7)) ?_;refine rs0 (ai a0) (zg q3) ?_;refine rs0 (.bool (a0==13)) (zg q3) ?_;refine rs0 (.bool (a0==13)) (zF q3) ?_;refine rsB 1 ?_;refine An (tn_ ?_);obtain rfl:=zj h;exact ⟨_,Ac [],rfl⟩
 rintro l2_m2 _ rfl h
 (try dsimp only at h);refine Ah ?_;obtain rfl:=zj h;exact A0 [.bool l2_m2] (Ap rfl zl As)
def H2:AC :=
 (.seq (rg [xo 4 (qm (cb false))])
 (.seq (.seq (rg [xo 5 (qm (tm 0)),xo 6 (qc 72 [tm 5] [[]])])
 (.cond (tm 6)
  (.seq (rg [xo 7 (qm (tm 1)),xo 8 (qc 49 [tm 7,ci 0,ci 96] [[],[],[]]),xo 4 (qm (tm 8))])
  .ret)
  .skip))
 (.seq (rg [xo 9 (qm (tm 1)),xo 10 (qb .eql (tm 9) (ci 0)),xo 4 (qm (tm 10))])
 .ret)))
def Mu:List Res:=[.tmp 4]
theorem Mp:Am Tryz.prog Tryz.f79=some (H2,Mu):=by kernel_rfl
theorem Mk:A5 Tryz.prog 79=true:=by kernel_rfl
def Cz (a0:Int) (a1:Int):Option Bool :=
 Option.bind (Dq a0) fun y4 =>
cond y4
 (Option.bind (B3 a1 0 96) fun y7 =>
 some y7)
 (some (a1==0))
def Mi (r:Bool):RV:=⟨false,[(false,[.sc (.bool r)])]⟩
theorem Md {a0:Int} {a1:Int} {r:Bool} (h:Cz a0 a1=some r):Ax Tryz.prog Tab 79 [ai a0,ai a1] (Mi r):=by
 refine Ar (by kernel_rfl) Tryz.func79 Mp (n:=11) (by kernel_rfl) (by simp) (tl:=[(0,ai a0),(1,ai a1)]) rfl ?_;unfold H2;unfold Cz at h;refine Aj ?_;refine Ab ?_;refine Ab ?_;obtain ⟨y4,h4,h⟩:=Ae h;refine Aa 4 ?_;refine rz0 (ai a0) ?_;refine zc (.bool y4) [] [ai a0] (Ix h4) ?_;refine An (tn_ ?_);refine wr_ ?_;rcases Ad h with ⟨q5,h⟩ | ⟨q5,h⟩
 ·refine Af q5 ?_;refine Ab ?_;obtain ⟨y7,h7,h⟩:=Ae h;refine Aa 7 ?_;refine rz0 (ai a1) ?_;refine zc (.bool y7) [] [ai a1,ai 0,ai 96] (Bp h7) ?_;refine rsB 1 ?_;refine An (tn_ ?_);refine wr_ ?_;refine Ah (tr_ ?_);obtain rfl:=zj h;exact A0 [.bool y7] (Ap rfl zl As)
 refine Ag q5 ?_;refine Ai (tn_ ?_);refine wr_ ?_;refine Aj ?_;refine Ah ?_;obtain rfl:=zj h;exact A0 [.bool (a1==0)] (Ap rfl zl As)
def Na:AC :=
 (.seq (rg [xo 1 (.i (.box 81 (tm 0))),xo 2 (.i (.alloc 63 [.int .i64 0,.int .i64 0])),xo 3 (qm (cb false))])
 (.seq (.block 0 (.seq (rg [xo 5 (qf 2 (tm 1)),xo 6 (ql (tm 5)),⟨some 7,none,.i (.bin .neq (tm 6) (.cst (.str ⟨#[]⟩)))⟩,xo 4 (qm (tm 7))])
 (.cond (tm 4)
  (.seq (rg [xo 8 (.build [.int .i64 0,.int .i64 0] []),xn (.st false 2 (tm 2) (tm 8)),xo 3 (qm (cb false))])
  .ret)
  (.seq (rg [xo 10 (qf 0 (tm 1)),xo 11 (ql (tm 10)),xo 12 (qb .eql (tm 11) (ci 1)),xo 9 (qm (tm 12))])
  (.cond (tm 9)
   (.seq (.region [xo 13 (qf 1 (tm 1)),xo 14 (ql (tm 13)),xo 15 (qf 1 (tm 1)),xo 16 (ql (tm 15)),xo 17 (.build [.int .i64 0,.int .i64 0] [(0,1,tm 14),(1,1,tm 16)]),xo 18 (qf 1 (tm 1)),xo 19 (ql (tm 18)),xo 20 (qc 49 [tm 19,ci 0,ci 12] [[],[],[]]),xn (.st false 2 (tm 2) (tm 17)),xo 3 (qm (tm 20))] true [(1,7),(3,7)])
   .ret)
   (.seq (rg [xo 22 (qf 0 (tm 1)),xo 23 (ql (tm 22)),xo 24 (qb .eql (tm 23) (ci 2)),xo 21 (qm (tm 24))])
   (.cond (tm 21)
    (.seq (.region [xo 25 (.build [.int .i64 0,.int .i64 0] [(0,1,ci 2),(1,1,ci 2)]),xo 26 (qf 1 (tm 1)),xo 27 (ql (tm 26)),xo 28 (qb .eql (tm 27) (ci 0)),xn (.st false 2 (tm 2) (tm 25)),xo 3 (qm (tm 28))] true [(2,4)])
    .ret)
    (.seq (rg [xo 30 (qf 0 (tm 1)),xo 31 (ql (tm 30)),xo 32 (qc 77 [tm 31] [[]]),xo 29 (qm (tm 32))])
    (.cond (tm 29)
     (.seq (.region [xo 33 (qf 0 (tm 1)),xo 34 (ql (tm 33)),xo 35 (qc 78 [tm 34] [[]]),xo 36 (qf 0 (tm 1)),xo 37 (ql (tm 36)),xo 38 (qf 1 (tm 1)),xo 39 (ql (tm 38)),xo 40 (qc 79 [tm 37,tm 39] [[],[]]),xn (.st false 2 (tm 2) (tm 35)),xo 3 (qm (tm 40))] true [(2,4),(2,6)])
     .ret)
     .skip)))))))))
 (.seq (rg [xo 41 (.build [.int .i64 0,.int .i64 0] []),xn (.st false 2 (tm 2) (tm 41)),xo 3 (qm (cb false))])
 .ret)))
def Xb:List Res:=[.cell 2 false 2,.tmp 3]
theorem Wy:Am Tryz.prog Tryz.f59=some (Na,Xb):=by kernel_rfl
def Ee (a0_0:Int) (a0_1:Int) (a0_2:ByteArray):Option (Int×Int×Bool) :=
 cond (!(a0_2.toList==(⟨#[]⟩:ByteArray).toList))
 (some (0,0,false))
 (cond (a0_0==1)
  (Option.bind (B3 a0_1 0 12) fun y9 =>
  some (a0_1,a0_1,y9))
  (cond (a0_0==2)
   (some (2,2,a0_1==0))
   (Option.bind (Fc a0_0) fun y14 =>
   cond y14
    (Option.bind (Fx a0_0) fun y17 =>
    Option.bind (Cz a0_0 a0_1) fun y18 =>
    some (y17.1,y17.2,y18))
    (some (0,0,false)))))
def V4 (r:Int×Int×Bool):RV:=⟨true,[(true,[.sc (.int .i64 r.1),.sc (.int .i64 r.2.1)]),(false,[.sc (.bool r.2.2)])]⟩
theorem Vx {a0_0:Int} {a0_1:Int} {a0_2:ByteArray} {r:Int×Int×Bool} (h:Ee a0_0 a0_1 a0_2=some r):Ax Tryz.prog Tab 59 [.agg [ai a0_0,ai a0_1,.str a0_2]] (V4 r):=by
 refine Ar (by kernel_rfl) Tryz.func59 Wy (n:=42) (by kernel_rfl) (by simp) (tl:=[(0,.agg [ai a0_0,ai a0_1,.str a0_2])]) rfl ?_;unfold Na;unfold Ee at h;refine Aj ?_;refine Ab ?_;refine Al ?_;refine Aj ?_;rcases Ad h with ⟨q4,h⟩ | ⟨q4,h⟩
 ·refine Af q4 ?_;refine Aj ?_;refine Ah (br_ (tr_ ?_));obtain rfl:=zj h;exact A0 [.agg [ai 0,ai 0],.bool false] (Gm (Bg zl (Bg zl Gd)) (Ap rfl zl As))
 refine Ag q4 ?_;refine Aj ?_;rcases Ad h with ⟨q7,h⟩ | ⟨q7,h⟩
 ·refine Af q7 ?_;refine Ab ?_;obtain ⟨y9,h9,h⟩:=Ae h;refine A1 22 ?_;refine dz0 (.box (oi 1 1) 1) ?_;refine dzl (ai a0_1) ?_;refine dz0 (.box (oi 1 1) 1) ?_;refine dzl (ai a0_1) ?_;refine dz0 (.agg [ai a0_1,ai a0_1]) ?_;refine dz0 (.box (oi 1 1) 1) ?_;refine dzl (ai a0_1) ?_;refine Da (.bool y9) [] [ai a0_1,ai 0,ai 12] _ (caps:=[]) (args0:=[ai a0_1,ai 0,ai 12]) trivial (by kernel_rfl) (Bp h9) Kp ?_;refine Y0 (oi 2 2) (oi 2 2) (.cells 63 [ai a0_1,ai a0_1]) (by kernel_rfl) ?_;refine dz0 (.bool y9) ?_;refine F2 (Bc (by kernel_rfl)) (tn_ ?_);refine wr_ ?_;refine Ah (br_ (tr_ ?_));obtain rfl:=zj h;exact A0 [.agg [ai a0_1,ai a0_1],.bool y9] (Gm (Bg zl (Bg zl Gd)) (Ap rfl zl As))
 refine Ag q7 ?_;refine Aj ?_;rcases Ad h with ⟨q11,h⟩ | ⟨q11,h⟩
 ·refine Af q11 ?_;refine Ab ?_;refine A1 22 ?_;refine dsB 6 ?_;refine F2 (Bc (by kernel_rfl)) (tn_ ?_);refine wr_ ?_;refine Ah (br_ (tr_ ?_));obtain rfl:=zj h;exact A0 [.agg [ai 2,ai 2],.bool (a0_1==0)] (Gm (Bg zl (Bg zl Gd)) (Ap rfl zl As))
 refine Ag q11 ?_;refine Ab ?_;obtain ⟨y14,h14,h⟩:=Ae h;refine Aa 20 ?_;refine rz0 (.box (oi 1 1) 0) ?_;refine rzl (ai a0_0) ?_;refine zc (.bool y14) [] [ai a0_0] (Q6 h14) ?_;refine rsB 1 ?_;refine An (tn_ ?_);refine wr_ ?_;rcases Ad h with ⟨q15,h⟩ | ⟨q15,h⟩
 ·refine Af q15 ?_;refine Ab ?_;obtain ⟨y17,h17,h⟩:=Ae h;obtain ⟨y18,h18,h⟩:=Ae h;refine A1 30 ?_;refine dz0 (.box (oi 1 1) 0) ?_;refine dzl (ai a0_0) ?_;refine Da (.agg [ai y17.1,ai y17.2]) [] [ai a0_0] _ (caps:=[]) (args0:=[ai a0_0]) trivial (by kernel_rfl) (N5 h17) N8 ?_;refine dz0 (.box (oi 1 1) 0) ?_;refine dzl (ai a0_0) ?_;refine dz0 (.box (oi 1 1) 1) ?_;refine dzl (ai a0_1) ?_;refine Da (.bool y18) [] [ai a0_0,ai a0_1] _ (caps:=[]) (args0:=[ai a0_0,ai a0_1]) trivial (by kernel_rfl) (Md h18) Mk ?_;refine Y0 (oi 2 2) (oi 2 2) (.cells 63 [ai y17.1,ai y17.2]) (by kernel_rfl) ?_;refine dz0 (.bool y18) ?_;refine F2 (Bc (by kernel_rfl)) (tn_ ?_);refine wr_ ?_;refine Ah (br_ (tr_ ?_));obtain rfl:=zj h;exact A0 [.agg [ai y17.1,ai y17.2],.bool y18] (Gm (Bg zl (Bg zl Gd)) (Ap rfl zl As))
 refine Ag q15 ?_;refine Ai (bn_ (tn_ ?_));refine wr_ ?_;refine Aj ?_;refine Ah ?_;obtain rfl:=zj h;exact A0 [.agg [ai 0,ai 0],.bool false] (Gm (Bg zl (Bg zl Gd)) (Ap rfl zl As))
def Nw:AC :=
 (.seq (.seq (rg [xo 18 (qm (tm 3)),xo 19 (qm (tm 0)),xo 20 (.i (.lenS (tm 19))),xo 21 (qb .lss (tm 18) (tm 20))])
 (.cond (tm 21)
  .skip
  (.exit 0)))
 (.seq (.block 1 (.seq (rg [xo 24 (qm (tm 0)),xo 25 (qm (tm 3)),xo 26 (.i (.char (tm 24) (tm 25))),⟨some 27,none,.i (.bin .lss (tm 26) (.cst (.int .u8 97)))⟩,xo 28 (qm (tm 27)),⟨some 29,some (28,false),qm (tm 0)⟩,⟨some 30,some (28,false),qm (tm 3)⟩,⟨some 31,some (28,false),.i (.char (tm 29) (tm 30))⟩,⟨some 32,some (28,false),.i (.bin .gtr (tm 31) (.cst (.int .u8 122)))⟩,xo 33 (.i (.pick (tm 28) (cb true) (tm 32))),xo 34 (qm (tm 33)),⟨some 35,some (34,true),qm (tm 0)⟩,⟨some 36,some (34,true),qm (tm 3)⟩,⟨some 37,some (34,true),.i (.char (tm 35) (tm 36))⟩,⟨some 38,some (34,true),.i (.bin .lss (tm 37) (.cst (.int .u8 48)))⟩,⟨some 39,some (34,true),qm (tm 38)⟩,⟨some 40,some (39,false),qm (tm 0)⟩,⟨some 41,some (39,false),qm (tm 3)⟩,⟨some 42,some (39,false),.i (.char (tm 40) (tm 41))⟩,⟨some 43,some (39,false),.i (.bin .gtr (tm 42) (.cst (.int .u8 57)))⟩,⟨some 44,some (34,true),.i (.pick (tm 39) (cb true) (tm 43))⟩,xo 45 (.i (.pick (tm 34) (tm 44) (cb false)))])
 (.cond (tm 45)
  (.seq (rg [xo 2 (qm (cb false))])
  .ret)
  .skip)))
 (rg [xo 22 (qm (tm 3)),xo 23 (qb .add (tm 22) (ci 1)),xo 3 (qm (tm 23))])))
def Rc:AC :=
 (.seq (rg [xo 2 (qm (cb false))])
 (.seq (.seq (rg [xo 4 (qm (tm 0)),xo 5 (.i (.lenS (tm 4))),xo 6 (qc 44 [tm 5,ci 1,ci 8] [[],[],[]]),xo 7 (.i (.not (tm 6))),xo 8 (qm (tm 7)),⟨some 9,some (8,false),qm (tm 0)⟩,⟨some 10,some (8,false),.i (.char (tm 9) (ci 0))⟩,⟨some 11,some (8,false),.i (.bin .lss (tm 10) (.cst (.int .u8 97)))⟩,xo 12 (.i (.pick (tm 8) (cb true) (tm 11))),xo 13 (qm (tm 12)),⟨some 14,some (13,false),qm (tm 0)⟩,⟨some 15,some (13,false),.i (.char (tm 14) (ci 0))⟩,⟨some 16,some (13,false),.i (.bin .gtr (tm 15) (.cst (.int .u8 122)))⟩,xo 17 (.i (.pick (tm 13) (cb true) (tm 16)))])
 (.cond (tm 17)
  (.seq (rg [xo 2 (qm (cb false))])
  .ret)
  .skip))
 (.seq (.seq (rg [xo 3 (qm (ci 1))])
 (.block 0 (.loop Nw)))
 (.seq (rg [xo 2 (qm (cb true))])
 .ret))))
def Aez:List Res:=[.tmp 2]
theorem Adu:Am Tryz.prog Tryz.f39=some (Rc,Aez):=by kernel_rfl
def Bn (a0:ByteArray) (l13_m3:Nat):Option (Ctl Nat (Ctl Unit Bool)) :=
 cond (decide (((l13_m3:Nat):Int)<((a0.size:Nat):Int)))
 (Option.bind (Option.bind (a0[l13_m3]?) fun x19 =>
  cond (decide (((x19.toNat:Nat):Int)<97))
   (Option.bind (a0[l13_m3]?) fun x21 =>
   cond (decide (((x21.toNat:Nat):Int)<48))
    (some true)
    (Option.bind (a0[l13_m3]?) fun x23 =>
    some (decide (57<((x23.toNat:Nat):Int)))))
   (Option.bind (a0[l13_m3]?) fun x24 =>
   cond (decide (122<((x24.toNat:Nat):Int)))
    (Option.bind (a0[l13_m3]?) fun x26 =>
    cond (decide (((x26.toNat:Nat):Int)<48))
     (some true)
     (Option.bind (a0[l13_m3]?) fun x28 =>
     some (decide (57<((x28.toNat:Nat):Int)))))
    (some false))) fun l18_m45 =>
 cond l18_m45
  (some (Ctl.out (Ctl.out false)))
  (og (l13_m3+1<4611686018427387904) <|
  some (Ctl.next (l13_m3+1))))
 (some (Ctl.out (Ctl.next ())))
def I3 (a0:ByteArray):Option Bool :=
 Option.bind (Option.bind (Bz ((a0.size:Nat):Int) 1 8) fun y4 =>
 cond (!y4)
  (some true)
  (Option.bind (a0[0]?) fun x6 =>
  cond (decide (((x6.toNat:Nat):Int)<97))
   (some true)
   (Option.bind (a0[0]?) fun x8 =>
   some (decide (122<((x8.toNat:Nat):Int)))))) fun l3_m17 =>
cond l3_m17
 (some false)
 (Do (A4 (fun s_:Nat=>Bn a0 s_) 4611686018427387904 1) fun _ =>
 some true)
def Abf (r:Bool):RV:=⟨false,[(false,[.sc (.bool r)])]⟩
set_option maxHeartbeats 1600000 in
theorem Qe {a0:ByteArray} {r:Bool} (h:I3 a0=some r):Ax Tryz.prog Tab 39 [.str a0] (Abf r):=by
 refine Ar (by kernel_rfl) Tryz.func39 Adu (n:=46) (by kernel_rfl) (by simp) (tl:=[(0,.str a0)]) rfl ?_;unfold Rc;unfold I3 at h;refine Aj ?_;refine Ab ?_;refine Aw h (fun (l3_m17:Bool) S_=>S_=⟨Ao [(0,.str a0),(17,.bool l3_m17)],Ak (Aq []),2⟩) ?_ ?_
 ·intro v_ h;obtain ⟨y4,h4,h⟩:=Ae h;rcases Ad h with ⟨q5,h⟩ | ⟨q5,h⟩
  ·refine Aa 16 ?_;refine rz0 (.str a0) ?_;refine rz0 (ai ((a0.size:Nat):Int)) ?_;refine zc (.bool y4) [] [ai ((a0.size:Nat):Int),ai 1,ai 8] (Bk h4) ?_;refine rz0 (.bool (!y4)) ?_;refine rz0 (.bool (!y4)) ?_;refine zs q5 ?_;refine zs q5 ?_;refine zs q5 ?_;refine rs0 (.bool true) (zT q5) ?_;refine rsB 5 ?_;refine An (tn_ ?_);obtain rfl:=zj h;exact ⟨_,Ac [],rfl⟩
  obtain ⟨x6,e6,h⟩:=Ae h;rcases Ad h with ⟨q7,h⟩ | ⟨q7,h⟩
  ·have q7_:=of_decide_eq_true q7;refine Aa 16 ?_;refine rz0 (.str a0) ?_;refine rz0 (ai ((a0.size:Nat):Int)) ?_;refine zc (.bool y4) [] [ai ((a0.size:Nat):Int),ai 1,ai 8] (Bk h4) ?_;refine rz0 (.bool (!y4)) ?_;refine rz0 (.bool (!y4)) ?_;refine rs0 (.str a0) (zg q5) ?_;refine rs0 (.int .u8 ((x6.toNat:Nat):Int)) (Fv (by kernel_rfl) q5 (Dn (s:=a0) (k:=.i64) (m:=0) (by kernel_rfl) (by kernel_rfl) (by decide) rfl e6)) ?_;refine rs0 (.bool (decide (((x6.toNat:Nat):Int)<97))) (zg q5) ?_;refine rs0 (.bool (decide (((x6.toNat:Nat):Int)<97))) (zF q5) ?_;refine rz0 (.bool (decide (((x6.toNat:Nat):Int)<97))) ?_;refine zs q7 ?_;refine zs q7 ?_;refine zs q7 ?_;refine rs0 (.bool true) (zT q7) ?_;refine An (tn_ ?_);obtain rfl:=zj h;exact ⟨_,Ac [],rfl⟩
  have q7_:=of_decide_eq_false q7;obtain ⟨x8,e8,h⟩:=Ae h;refine Aa 16 ?_;refine rz0 (.str a0) ?_;refine rz0 (ai ((a0.size:Nat):Int)) ?_;refine zc (.bool y4) [] [ai ((a0.size:Nat):Int),ai 1,ai 8] (Bk h4) ?_;refine rz0 (.bool (!y4)) ?_;refine rz0 (.bool (!y4)) ?_;refine rs0 (.str a0) (zg q5) ?_;refine rs0 (.int .u8 ((x6.toNat:Nat):Int)) (Fv (by kernel_rfl) q5 (Dn (s:=a0) (k:=.i64) (m:=0) (by kernel_rfl) (by kernel_rfl) (by decide) rfl e6)) ?_;refine rs0 (.bool (decide (((x6.toNat:Nat):Int)<97))) (zg q5) ?_;refine rs0 (.bool (decide (((x6.toNat:Nat):Int)<97))) (zF q5) ?_;refine rz0 (.bool (decide (((x6.toNat:Nat):Int)<97))) ?_;refine rs0 (.str a0) (zg q7) ?_;refine rs0 (.int .u8 ((x8.toNat:Nat):Int)) (Fv (by kernel_rfl) q7 (Dn (s:=a0) (k:=.i64) (m:=0) (by kernel_rfl) (by kernel_rfl) (by decide) rfl e8)) ?_;refine rs0 (.bool (decide (122<((x8.toNat:Nat):Int)))) (zg q7) ?_;refine rs0 (.bool (decide (122<((x8.toNat:Nat):Int)))) (zF q7) ?_;refine An (tn_ ?_);obtain rfl:=zj h;exact ⟨_,Ac [],rfl⟩
 rintro l3_m17 _ rfl h
 (try dsimp only at h);rcases Ad h with ⟨q9,h⟩ | ⟨q9,h⟩
 ·refine Af q9 ?_;refine Aj ?_;refine Ah (tr_ ?_);obtain rfl:=zj h;exact A0 [.bool false] (Ap rfl zl As)
 refine Ag q9 ?_;refine Ai (tn_ ?_);refine wr_ ?_;refine Bh h (fun (_:Unit) S_=>S_=⟨Ao [],Ak (Aq []),2⟩) ?_ ?_
 ·intro v_ h hk11;refine Aj ?_;refine Al ?_;refine A3 h (fun (l13_m3:Nat) S_=>S_=⟨Ao [(0,.str a0),(3,ai ((l13_m3:Nat):Int))],Ak (Aq []),2⟩) ⟨_,Ac [],rfl⟩ ?_;rintro n_ l13_m3 _ c_ rfl h hn13
  (try dsimp only at h);unfold Bn at h;unfold Nw;refine Ab ?_;refine Aj ?_;rcases Ad h with ⟨q16,h⟩ | ⟨q16,h⟩
  ·have q16_:=of_decide_eq_true q16;refine Af q16 ?_;refine Ai (tn_ ?_);refine wr_ ?_;refine Ab ?_;refine Al ?_;refine Aw h (fun (l18_m45:Bool) S_=>S_=⟨Ao [(0,.str a0),(3,ai ((l13_m3:Nat):Int)),(45,.bool l18_m45)],Ak (Aq []),2⟩) ?_ ?_
   ·intro v_ h;obtain ⟨x19,e19,h⟩:=Ae h;rcases Ad h with ⟨q20,h⟩ | ⟨q20,h⟩
    ·have q20_:=of_decide_eq_true q20;obtain ⟨x21,e21,h⟩:=Ae h;rcases Ad h with ⟨q22,h⟩ | ⟨q22,h⟩
     ·have q22_:=of_decide_eq_true q22;refine Aa 28 ?_;refine rz0 (.str a0) ?_;refine rz0 (ai ((l13_m3:Nat):Int)) ?_;refine rs0 (.int .u8 ((x19.toNat:Nat):Int)) (Dn (s:=a0) (k:=.i64) (m:=((l13_m3:Nat):Int)) (by kernel_rfl) (by kernel_rfl) (Ay _) rfl e19) ?_;refine rz0 (.bool (decide (((x19.toNat:Nat):Int)<97))) ?_;refine rz0 (.bool (decide (((x19.toNat:Nat):Int)<97))) ?_;refine zs q20 ?_;refine zs q20 ?_;refine zs q20 ?_;refine zs q20 ?_;refine rs0 (.bool true) (zT q20) ?_;refine rz0 (.bool true) ?_;refine rz0 (.str a0) ?_;refine rz0 (ai ((l13_m3:Nat):Int)) ?_;refine rs0 (.int .u8 ((x21.toNat:Nat):Int)) (Dn (s:=a0) (k:=.i64) (m:=((l13_m3:Nat):Int)) (by kernel_rfl) (by kernel_rfl) (Ay _) rfl e21) ?_;refine rz0 (.bool (decide (((x21.toNat:Nat):Int)<48))) ?_;refine rz0 (.bool (decide (((x21.toNat:Nat):Int)<48))) ?_;refine zs q22 ?_;refine zs q22 ?_;refine zs q22 ?_;refine zs q22 ?_;refine rs0 (.bool true) (zT q22) ?_;refine rsB 1 ?_;refine An (tn_ ?_);obtain rfl:=zj h;exact ⟨_,Ac [],rfl⟩
     have q22_:=of_decide_eq_false q22;obtain ⟨x23,e23,h⟩:=Ae h;refine Aa 28 ?_;refine rz0 (.str a0) ?_;refine rz0 (ai ((l13_m3:Nat):Int)) ?_;refine rs0 (.int .u8 ((x19.toNat:Nat):Int)) (Dn (s:=a0) (k:=.i64) (m:=((l13_m3:Nat):Int)) (by kernel_rfl) (by kernel_rfl) (Ay _) rfl e19) ?_;refine rz0 (.bool (decide (((x19.toNat:Nat):Int)<97))) ?_;refine rz0 (.bool (decide (((x19.toNat:Nat):Int)<97))) ?_;refine zs q20 ?_;refine zs q20 ?_;refine zs q20 ?_;refine zs q20 ?_;refine rs0 (.bool true) (zT q20) ?_;refine rz0 (.bool true) ?_;refine rz0 (.str a0) ?_;refine rz0 (ai ((l13_m3:Nat):Int)) ?_;refine rs0 (.int .u8 ((x21.toNat:Nat):Int)) (Dn (s:=a0) (k:=.i64) (m:=((l13_m3:Nat):Int)) (by kernel_rfl) (by kernel_rfl) (Ay _) rfl e21) ?_;refine rz0 (.bool (decide (((x21.toNat:Nat):Int)<48))) ?_;refine rz0 (.bool (decide (((x21.toNat:Nat):Int)<48))) ?_;refine rs0 (.str a0) (zg q22) ?_;refine rs0 (ai ((l13_m3:Nat):Int)) (zg q22) ?_;refine rs0 (.int .u8 ((x23.toNat:Nat):Int)) (Fv (by kernel_rfl) q22 (Dn (s:=a0) (k:=.i64) (m:=((l13_m3:Nat):Int)) (by kernel_rfl) (by kernel_rfl) (Ay _) rfl e23)) ?_;refine rs0 (.bool (decide (57<((x23.toNat:Nat):Int)))) (zg q22) ?_;refine rs0 (.bool (decide (57<((x23.toNat:Nat):Int)))) (zF q22) ?_;refine rsB 1 ?_;refine An (tn_ ?_);obtain rfl:=zj h;exact ⟨_,Ac [],rfl⟩
    have q20_:=of_decide_eq_false q20;obtain ⟨x24,e24,h⟩:=Ae h;rcases Ad h with ⟨q25,h⟩ | ⟨q25,h⟩
    ·have q25_:=of_decide_eq_true q25;obtain ⟨x26,e26,h⟩:=Ae h;rcases Ad h with ⟨q27,h⟩ | ⟨q27,h⟩
     ·have q27_:=of_decide_eq_true q27;refine Aa 28 ?_;refine rz0 (.str a0) ?_;refine rz0 (ai ((l13_m3:Nat):Int)) ?_;refine rs0 (.int .u8 ((x19.toNat:Nat):Int)) (Dn (s:=a0) (k:=.i64) (m:=((l13_m3:Nat):Int)) (by kernel_rfl) (by kernel_rfl) (Ay _) rfl e19) ?_;refine rz0 (.bool (decide (((x19.toNat:Nat):Int)<97))) ?_;refine rz0 (.bool (decide (((x19.toNat:Nat):Int)<97))) ?_;refine rs0 (.str a0) (zg q20) ?_;refine rs0 (ai ((l13_m3:Nat):Int)) (zg q20) ?_;refine rs0 (.int .u8 ((x24.toNat:Nat):Int)) (Fv (by kernel_rfl) q20 (Dn (s:=a0) (k:=.i64) (m:=((l13_m3:Nat):Int)) (by kernel_rfl) (by kernel_rfl) (Ay _) rfl e24)) ?_;refine rs0 (.bool (decide (122<((x24.toNat:Nat):Int)))) (zg q20) ?_;refine rs0 (.bool (decide (122<((x24.toNat:Nat):Int)))) (zF q20) ?_;refine rz0 (.bool (decide (122<((x24.toNat:Nat):Int)))) ?_;refine rs0 (.str a0) (zg q25) ?_;refine rs0 (ai ((l13_m3:Nat):Int)) (zg q25) ?_;refine rs0 (.int .u8 ((x26.toNat:Nat):Int)) (Fv (by kernel_rfl) q25 (Dn (s:=a0) (k:=.i64) (m:=((l13_m3:Nat):Int)) (by kernel_rfl) (by kernel_rfl) (Ay _) rfl e26)) ?_;refine rs0 (.bool (decide (((x26.toNat:Nat):Int)<48))) (zg q25) ?_;refine rs0 (.bool (decide (((x26.toNat:Nat):Int)<48))) (zg q25) ?_;refine zs q27 ?_;refine zs q27 ?_;refine zs q27 ?_;refine zs q27 ?_;refine rs0 (.bool true) (Fv (by kernel_rfl) q25 (zT q27)) ?_;refine rs0 (.bool true) (zT q25) ?_;refine An (tn_ ?_);obtain rfl:=zj h;exact ⟨_,Ac [],rfl⟩
     have q27_:=of_decide_eq_false q27;obtain ⟨x28,e28,h⟩:=Ae h;refine Aa 28 ?_;refine rz0 (.str a0) ?_;refine rz0 (ai ((l13_m3:Nat):Int)) ?_;refine rs0 (.int .u8 ((x19.toNat:Nat):Int)) (Dn (s:=a0) (k:=.i64) (m:=((l13_m3:Nat):Int)) (by kernel_rfl) (by kernel_rfl) (Ay _) rfl e19) ?_;refine rz0 (.bool (decide (((x19.toNat:Nat):Int)<97))) ?_;refine rz0 (.bool (decide (((x19.toNat:Nat):Int)<97))) ?_;refine rs0 (.str a0) (zg q20) ?_;refine rs0 (ai ((l13_m3:Nat):Int)) (zg q20) ?_;refine rs0 (.int .u8 ((x24.toNat:Nat):Int)) (Fv (by kernel_rfl) q20 (Dn (s:=a0) (k:=.i64) (m:=((l13_m3:Nat):Int)) (by kernel_rfl) (by kernel_rfl) (Ay _) rfl e24)) ?_;refine rs0 (.bool (decide (122<((x24.toNat:Nat):Int)))) (zg q20) ?_;refine rs0 (.bool (decide (122<((x24.toNat:Nat):Int)))) (zF q20) ?_;refine rz0 (.bool (decide (122<((x24.toNat:Nat):Int)))) ?_;refine rs0 (.str a0) (zg q25) ?_;refine rs0 (ai ((l13_m3:Nat):Int)) (zg q25) ?_;refine rs0 (.int .u8 ((x26.toNat:Nat):Int)) (Fv (by kernel_rfl) q25 (Dn (s:=a0) (k:=.i64) (m:=((l13_m3:Nat):Int)) (by kernel_rfl) (by kernel_rfl) (Ay _) rfl e26)) ?_;refine rs0 (.bool (decide (((x26.toNat:Nat):Int)<48))) (zg q25) ?_;refine rs0 (.bool (decide (((x26.toNat:Nat):Int)<48))) (zg q25) ?_;refine rs0 (.str a0) (zg q27) ?_;refine rs0 (ai ((l13_m3:Nat):Int)) (zg q27) ?_;refine rs0 (.int .u8 ((x28.toNat:Nat):Int)) (Fv (by kernel_rfl) q27 (Dn (s:=a0) (k:=.i64) (m:=((l13_m3:Nat):Int)) (by kernel_rfl) (by kernel_rfl) (Ay _) rfl e28)) ?_;refine rs0 (.bool (decide (57<((x28.toNat:Nat):Int)))) (zg q27) ?_;refine rs0 (.bool (decide (57<((x28.toNat:Nat):Int)))) (Fv (by kernel_rfl) q25 (zF q27)) ?_;refine rs0 (.bool (decide (57<((x28.toNat:Nat):Int)))) (zT q25) ?_;refine An (tn_ ?_);obtain rfl:=zj h;exact ⟨_,Ac [],rfl⟩
    have q25_:=of_decide_eq_false q25;refine Aa 28 ?_;refine rz0 (.str a0) ?_;refine rz0 (ai ((l13_m3:Nat):Int)) ?_;refine rs0 (.int .u8 ((x19.toNat:Nat):Int)) (Dn (s:=a0) (k:=.i64) (m:=((l13_m3:Nat):Int)) (by kernel_rfl) (by kernel_rfl) (Ay _) rfl e19) ?_;refine rz0 (.bool (decide (((x19.toNat:Nat):Int)<97))) ?_;refine rz0 (.bool (decide (((x19.toNat:Nat):Int)<97))) ?_;refine rs0 (.str a0) (zg q20) ?_;refine rs0 (ai ((l13_m3:Nat):Int)) (zg q20) ?_;refine rs0 (.int .u8 ((x24.toNat:Nat):Int)) (Fv (by kernel_rfl) q20 (Dn (s:=a0) (k:=.i64) (m:=((l13_m3:Nat):Int)) (by kernel_rfl) (by kernel_rfl) (Ay _) rfl e24)) ?_;refine rs0 (.bool (decide (122<((x24.toNat:Nat):Int)))) (zg q20) ?_;refine rs0 (.bool (decide (122<((x24.toNat:Nat):Int)))) (zF q20) ?_;refine rz0 (.bool (decide (122<((x24.toNat:Nat):Int)))) ?_;refine zs q25 ?_;refine zs q25 ?_;refine zs q25 ?_;refine zs q25 ?_;refine zs q25 ?_;refine rs0 (.tup []) (Zn (by kernel_rfl)) ?_;refine rs0 (.tup []) (Zn (by kernel_rfl)) ?_;refine rs0 (.tup []) (Zn (by kernel_rfl)) ?_;refine rs0 (.tup []) (Zn (by kernel_rfl)) ?_;refine zs q25 ?_;refine rs0 (.bool false) (zF q25) ?_;refine An (tn_ ?_);obtain rfl:=zj h;exact ⟨_,Ac [],rfl⟩
   rintro l18_m45 _ rfl h
   (try dsimp only at h);rcases Ad h with ⟨q29,h⟩ | ⟨q29,h⟩
   ·refine Af q29 ?_;refine Aj ?_;refine Ah (br_ (tr_ (tr_ (br_ (tr_ ?_)))));obtain rfl:=zj h;have h:=hn13
    (try dsimp only at h);obtain rfl:=zj h;have h:=hk11
    (try dsimp only at h);obtain rfl:=zj h;exact A0 [.bool false] (Ap rfl zl As)
   refine Ag q29 ?_;refine Ai (bn_ (tn_ ?_));refine wr_ ?_;obtain ⟨g31,h⟩:=Au h;refine Aa 5 ?_;refine rz0 (ai ((l13_m3:Nat):Int)) ?_;refine rs0 (ai ((l13_m3+1:Nat):Int)) (za g31) ?_;refine rsB 1 ?_;refine An (tn_ ?_);obtain rfl:=zj h;exact ⟨l13_m3+1,_,Ac [],rfl,hn13⟩
  have q16_:=of_decide_eq_false q16;refine Ag q16 ?_;refine Az (te_ (te_ (be_ (tn_ ?_))));obtain rfl:=zj h;have h:=hn13
  (try dsimp only at h);obtain rfl:=zj h;exact ⟨(),_,rfl,Ac [],rfl⟩
 rintro _ _ rfl h
 (try dsimp only at h);refine Aj ?_;refine Ah ?_;obtain rfl:=zj h;exact A0 [.bool true] (Ap rfl zl As)
def Ls:AC :=
 (.seq (rg [xo 0 (qm (.cst .nils))])
 (.seq (rg [⟨some 1,none,.mkS 9 .str [.cst (.str ⟨#[105,100]⟩),.cst (.str ⟨#[115,119,97,112]⟩),.cst (.str ⟨#[99,111,112,121]⟩),.cst (.str ⟨#[100,105,115,99,97,114,100]⟩),.cst (.str ⟨#[97,100,100]⟩),.cst (.str ⟨#[122,101,114,111]⟩),.cst (.str ⟨#[115,99,97,108,101]⟩),.cst (.str ⟨#[100,101,108,97,121]⟩),.cst (.str ⟨#[99,111,99,111,112,121]⟩),.cst (.str ⟨#[99,111,100,105,115,99,97,114,100]⟩),.cst (.str ⟨#[99,111,97,100,100]⟩),.cst (.str ⟨#[99,111,122,101,114,111]⟩),.cst (.str ⟨#[99,111,115,99,97,108,101]⟩),.cst (.str ⟨#[99,111,100,101,108,97,121]⟩)]⟩,xo 0 (qm (tm 1))])
 .ret))
def V3:List Res:=[.tmp 0]
theorem Vu:Am Tryz.prog Tryz.f41=some (Ls,V3):=by kernel_rfl
theorem T2:A5 Tryz.prog 41=true:=by kernel_rfl
def F1  : Option (List ByteArray) :=
 some ([(⟨#[105,100]⟩:ByteArray),(⟨#[115,119,97,112]⟩:ByteArray),(⟨#[99,111,112,121]⟩:ByteArray),(⟨#[100,105,115,99,97,114,100]⟩:ByteArray),(⟨#[97,100,100]⟩:ByteArray),(⟨#[122,101,114,111]⟩:ByteArray),(⟨#[115,99,97,108,101]⟩:ByteArray),(⟨#[100,101,108,97,121]⟩:ByteArray),(⟨#[99,111,99,111,112,121]⟩:ByteArray),(⟨#[99,111,100,105,115,99,97,114,100]⟩:ByteArray),(⟨#[99,111,97,100,100]⟩:ByteArray),(⟨#[99,111,122,101,114,111]⟩:ByteArray),(⟨#[99,111,115,99,97,108,101]⟩:ByteArray),(⟨#[99,111,100,101,108,97,121]⟩:ByteArray)])
def S6 (r:List ByteArray):RV:=⟨false,[(false,[.new 9 .str r])]⟩
theorem T3 {r:List ByteArray} (h:F1=some r):Ax Tryz.prog Tab 41 [] (S6 r):=by
 refine Ar (by kernel_rfl) Tryz.func41 Vu (n:=2) (by kernel_rfl) (by simp) (tl:=[]) rfl ?_;unfold Ls;unfold F1 at h;refine Aj ?_;refine Aj ?_;refine Ah ?_;obtain rfl:=zj h;exact A0 [.own (oi 1 2) .str 0 14] (Ap rfl (Eb (by kernel_rfl) rfl) As)
def Mt:AC :=
 (.seq (rg [xo 10 (qb .lss (tm 9) (tm 8))])
 (.seq (.cond (tm 10)
  .skip
  (.exit 0))
 (.seq (.block 1 (.seq (rg [xo 11 (qx 1 (tm 7) (tm 9)),xo 12 (ql (tm 11)),xo 6 (qm (tm 12))])
 (.seq (rg [xo 13 (qm (tm 6)),xo 14 (qm (tm 1)),xo 15 (qb .eql (tm 13) (tm 14))])
 (.cond (tm 15)
  (.seq (rg [xo 4 (qm (cb true))])
  .ret)
  .skip))))
 (rg [xo 16 (qb .add (tm 9) (ci 1)),xo 9 (qm (tm 16))]))))
def R0:AC :=
 (.seq (rg [xo 4 (qm (cb false))])
 (.seq (.seq (rg [xo 7 (qm (tm 0)),xo 8 (.i (.len (tm 7))),xo 9 (qm (ci 0))])
 (.block 0 (.loop Mt)))
 (.seq (rg [xo 4 (qm (cb false))])
 .ret)))
def Agb:List Res:=[.tmp 4]
theorem Aef:Am Tryz.prog Tryz.f40=some (R0,Agb):=by kernel_rfl
theorem Z0:A5 Tryz.prog 40=true:=by kernel_rfl
def Cr (a0:List ByteArray) (a1:ByteArray) (l4_m9:Nat):Option (Ctl Nat (Ctl Unit Bool)) :=
 cond (decide (((l4_m9:Nat):Int)<((a0.length:Nat):Int)))
 (Option.bind (a0[l4_m9]?) fun x10 =>
 cond (x10.toList==a1.toList)
  (some (Ctl.out (Ctl.out true)))
  (og (l4_m9+1<4611686018427387904) <|
  some (Ctl.next (l4_m9+1))))
 (some (Ctl.out (Ctl.next ())))
def Hp (a0:List ByteArray) (a1:ByteArray):Option Bool :=
 Do (A4 (fun s_:Nat=>Cr a0 a1 s_) 4611686018427387904 0) fun _ =>
some false
def Ads (r:Bool):RV:=⟨false,[(false,[.sc (.bool r)])]⟩
theorem Aaj {a0:List ByteArray} {a1:ByteArray} {r:Bool} (h:Hp a0 a1=some r):Ax Tryz.prog Tab 40 [.tree .str a0,.str a1] (Ads r):=by
 refine Ar (by kernel_rfl) Tryz.func40 Aef (n:=17) (by kernel_rfl) (by simp) (tl:=[(0,.tree .str a0),(1,.str a1)]) rfl ?_;unfold R0;unfold Hp at h;refine Aj ?_;refine Bh h (fun (_:Unit) S_=>S_=⟨Ao [],Ak (Aq []),2⟩) ?_ ?_
 ·intro v_ h hk2;refine Aj ?_;refine Al ?_;refine A3 h (fun (l4_m9:Nat) S_=>S_=⟨Ao [(1,.str a1),(7,.tree .str a0),(8,ai ((a0.length:Nat):Int)),(9,ai ((l4_m9:Nat):Int))],Ak (Aq []),2⟩) ⟨_,Ac [],rfl⟩ ?_;rintro n_ l4_m9 _ c_ rfl h hn4
  (try dsimp only at h);unfold Cr at h;unfold Mt;refine Aj ?_;refine Ab ?_;rcases Ad h with ⟨q7,h⟩ | ⟨q7,h⟩
  ·have q7_:=of_decide_eq_true q7;refine Af q7 ?_;refine Ai (tn_ ?_);refine wr_ ?_;refine Ab ?_;refine Al ?_;refine Ab ?_;obtain ⟨x10,e10,h⟩:=Ae h;refine Aa 6 ?_;refine rs0 (.telt none .str x10 0) (zi (t:=.str) (xs:=a0) (k:=.i64) (m:=((l4_m9:Nat):Int)) (Ay _) e10) ?_;refine rsB 2 ?_;refine An (tn_ ?_);refine wr_ ?_;refine Aj ?_;rcases Ad h with ⟨q12,h⟩ | ⟨q12,h⟩
   ·refine Af q12 ?_;refine Aj ?_;refine Ah (br_ (tr_ (tr_ (br_ (tr_ ?_)))));obtain rfl:=zj h;have h:=hn4
    (try dsimp only at h);obtain rfl:=zj h;have h:=hk2
    (try dsimp only at h);obtain rfl:=zj h;exact A0 [.bool true] (Ap rfl zl As)
   refine Ag q12 ?_;refine Ai (bn_ (tn_ ?_));refine wr_ ?_;obtain ⟨g14,h⟩:=Au h;refine Aa 11 ?_;refine rs0 (ai ((l4_m9+1:Nat):Int)) (za g14) ?_;refine rsB 1 ?_;refine An (tn_ ?_);obtain rfl:=zj h;exact ⟨l4_m9+1,_,Ac [],rfl,hn4⟩
  have q7_:=of_decide_eq_false q7;refine Ag q7 ?_;refine Az (te_ (te_ (be_ (tn_ ?_))));obtain rfl:=zj h;have h:=hn4
  (try dsimp only at h);obtain rfl:=zj h;exact ⟨(),_,rfl,Ac [],rfl⟩
 rintro _ _ rfl h
 (try dsimp only at h);refine Aj ?_;refine Ah ?_;obtain rfl:=zj h;exact A0 [.bool false] (Ap rfl zl As)
def Rv:AC :=
 (.seq (rg [xo 2 (qm (cb false))])
 (.seq (rg [xo 3 (qm (tm 0)),xo 4 (qc 39 [tm 3] [[]]),xo 5 (qm (tm 4)),⟨some 6,some (5,true),qc 41 [] []⟩,⟨some 7,some (5,true),qm (tm 0)⟩,⟨some 8,some (5,true),qc 40 [tm 6,tm 7] [[some .str],[]]⟩,⟨some 9,some (5,true),.i (.not (tm 8))⟩,xo 10 (.i (.pick (tm 5) (tm 9) (cb false))),xo 2 (qm (tm 10))])
 .ret))
def Ad4:List Res:=[.tmp 2]
theorem Aet:Am Tryz.prog Tryz.f22=some (Rv,Ad4):=by kernel_rfl
theorem Et:A5 Tryz.prog 22=true:=by kernel_rfl
def He (a0:ByteArray):Option Bool :=
 Option.bind (Option.bind (I3 a0) fun y3 =>
 cond y3
  (Option.bind (F1) fun y5 =>
  Option.bind (Hp y5 a0) fun y6 =>
  some (!y6))
  (some false)) fun l2_m2 =>
some l2_m2
def Adf (r:Bool):RV:=⟨false,[(false,[.sc (.bool r)])]⟩
theorem Ey {a0:ByteArray} {r:Bool} (h:He a0=some r):Ax Tryz.prog Tab 22 [.str a0] (Adf r):=by
 refine Ar (by kernel_rfl) Tryz.func22 Aet (n:=11) (by kernel_rfl) (by simp) (tl:=[(0,.str a0)]) rfl ?_;unfold Rv;unfold He at h;refine Aj ?_;refine Aw h (fun (l2_m2:Bool) S_=>S_=⟨Ao [(2,.bool l2_m2)],Ak (Aq []),2⟩) ?_ ?_
 ·intro v_ h;obtain ⟨y3,h3,h⟩:=Ae h;rcases Ad h with ⟨q4,h⟩ | ⟨q4,h⟩
  ·obtain ⟨y5,h5,h⟩:=Ae h;obtain ⟨y6,h6,h⟩:=Ae h;refine Aa 11 ?_;refine rz0 (.str a0) ?_;refine zc (.bool y3) [] [.str a0] (Qe h3) ?_;refine rz0 (.bool y3) ?_;refine Bs (.own (oi 96 5) .str 0 y5.length) [(oi 96 5,some (.arr 9 .str y5))] [] _ (caps:=[]) (args0:=[]) (Bf (by kernel_rfl) q4) (by kernel_rfl) (T3 h5) T2 ?_;refine rs0 (.str a0) (zg q4) ?_;refine Bs (.bool y6) [] [.own (oi 96 5) .str 0 y5.length,.str a0] _ (caps:=[]) (args0:=[.tree .str y5,.str a0]) (Bf (by kernel_rfl) q4) (Hy (Th (e:=9) (by kernel_rfl) rfl) (Hy (by kernel_rfl) Xi)) (Aaj h6) Z0 ?_;refine rs0 (.bool (!y6)) (zg q4) ?_;refine rs0 (.bool (!y6)) (zT q4) ?_;refine rsB 1 ?_;refine An (tn_ ?_);obtain rfl:=zj h;exact ⟨_,Ac [],rfl⟩
  refine Aa 11 ?_;refine rz0 (.str a0) ?_;refine zc (.bool y3) [] [.str a0] (Qe h3) ?_;refine rz0 (.bool y3) ?_;refine zs q4 ?_;refine zs q4 ?_;refine zs q4 ?_;refine zs q4 ?_;refine rs0 (.bool false) (zF q4) ?_;refine rsB 1 ?_;refine An (tn_ ?_);obtain rfl:=zj h;exact ⟨_,Ac [],rfl⟩
 rintro l2_m2 _ rfl h
 (try dsimp only at h);refine Ah ?_;obtain rfl:=zj h;exact A0 [.bool l2_m2] (Ap rfl zl As)
end
section
open Go.RowKit Go.Deep
set_option maxRecDepth 4000
def Nl:AC :=
 (.seq (rg [xo 1 (.i (.box 63 (tm 0))),xo 2 (qm (cb false))])
 (.seq (rg [xo 3 (qf 0 (tm 1)),xo 4 (ql (tm 3)),xo 5 (qb .leq (tm 4) (ci 12)),xo 6 (qm (tm 5)),⟨some 7,some (6,true),qf 1 (tm 1)⟩,⟨some 8,some (6,true),ql (tm 7)⟩,⟨some 9,some (6,true),qb .leq (tm 8) (ci 12)⟩,xo 10 (.i (.pick (tm 6) (tm 9) (cb false))),xo 2 (qm (tm 10))])
 .ret))
def Xa:List Res:=[.tmp 2]
theorem W9:Am Tryz.prog Tryz.f93=some (Nl,Xa):=by kernel_rfl
theorem Vg:A5 Tryz.prog 93=true:=by kernel_rfl
def Gz (a0_0:Int) (a0_1:Int):Option Bool :=
 Option.bind (cond (decide (a0_0<=12))
  (some (decide (a0_1<=12)))
  (some false)) fun l2_m2 =>
some l2_m2
def Uo (r:Bool):RV:=⟨false,[(false,[.sc (.bool r)])]⟩
theorem Vo {a0_0:Int} {a0_1:Int} {r:Bool} (h:Gz a0_0 a0_1=some r):Ax Tryz.prog Tab 93 [.agg [ai a0_0,ai a0_1]] (Uo r):=by
 refine Ar (by kernel_rfl) Tryz.func93 W9 (n:=11) (by kernel_rfl) (by simp) (tl:=[(0,.agg [ai a0_0,ai a0_1])]) rfl ?_;unfold Nl;unfold Gz at h;refine Aj ?_;refine Aw h (fun (l2_m2:Bool) S_=>S_=⟨Ao [(2,.bool l2_m2)],Ak (Aq []),2⟩) ?_ ?_
 ·intro v_ h;rcases Ad h with ⟨q3,h⟩ | ⟨q3,h⟩
  ·have q3_:=of_decide_eq_true q3;refine Aa 12 ?_;refine rz0 (.box (oi 1 1) 0) ?_;refine rzl (ai a0_0) ?_;refine rz0 (.bool (decide (a0_0<=12))) ?_;refine rz0 (.bool (decide (a0_0<=12))) ?_;refine rs0 (.box (oi 1 1) 1) (zg q3) ?_;refine rsl (ai a0_1) (zg q3) ?_;refine rs0 (.bool (decide (a0_1<=12))) (zg q3) ?_;refine rs0 (.bool (decide (a0_1<=12))) (zT q3) ?_;refine rsB 1 ?_;refine An (tn_ ?_);obtain rfl:=zj h;exact ⟨_,Ac [],rfl⟩
  have q3_:=of_decide_eq_false q3;refine Aa 12 ?_;refine rz0 (.box (oi 1 1) 0) ?_;refine rzl (ai a0_0) ?_;refine rz0 (.bool (decide (a0_0<=12))) ?_;refine rz0 (.bool (decide (a0_0<=12))) ?_;refine zs q3 ?_;refine zs q3 ?_;refine zs q3 ?_;refine rs0 (.bool false) (zF q3) ?_;refine rsB 1 ?_;refine An (tn_ ?_);obtain rfl:=zj h;exact ⟨_,Ac [],rfl⟩
 rintro l2_m2 _ rfl h
 (try dsimp only at h);refine Ah ?_;obtain rfl:=zj h;exact A0 [.bool l2_m2] (Ap rfl zl As)
def M5:AC :=
 (.seq (rg [xo 4 (.i (.box 63 (tm 1))),xo 5 (.i (.box 63 (tm 2))),xo 6 (.i (.alloc 63 [.int .i64 0,.int .i64 0])),xo 7 (qm (cb false))])
 (.seq (.seq (rg [xo 9 (qm (tm 0)),xo 10 (qb .eql (tm 9) (ci 15))])
 (.cond (tm 10)
  (.seq (.region [xo 11 (qf 0 (tm 4)),xo 12 (ql (tm 11)),xo 13 (qf 1 (tm 5)),xo 14 (ql (tm 13)),xo 15 (.build [.int .i64 0,.int .i64 0] [(0,1,tm 12),(1,1,tm 14)]),xo 16 (qf 1 (tm 4)),xo 17 (ql (tm 16)),xo 18 (qf 0 (tm 5)),xo 19 (ql (tm 18)),xo 20 (qb .eql (tm 17) (tm 19)),xn (.st false 2 (tm 6) (tm 15)),xo 7 (qm (tm 20))] true [(6,10),(8,10)])
  .ret)
  .skip))
 (.seq (rg [xo 21 (qf 0 (tm 4)),xo 22 (ql (tm 21)),xo 23 (qf 0 (tm 5)),xo 24 (ql (tm 23)),xo 25 (qb .add (tm 22) (tm 24)),xo 26 (qf 1 (tm 4)),xo 27 (ql (tm 26)),xo 28 (qf 1 (tm 5)),xo 29 (ql (tm 28)),xo 30 (qb .add (tm 27) (tm 29)),xo 31 (.build [.int .i64 0,.int .i64 0] [(0,1,tm 25),(1,1,tm 30)]),xo 8 (.i (.alloc 63 [.int .i64 0,.int .i64 0])),xn (.st false 2 (tm 8) (tm 31))])
 (.seq (.region [xo 32 (.i (.ld false 2 (tm 8))),xo 33 (.i (.ld false 2 (tm 8))),xo 34 (qc 93 [tm 33] [[none,none]]),xn (.st false 2 (tm 6) (tm 32)),xo 7 (qm (tm 34))] true [(0,2)])
 .ret))))
def Xo:List Res:=[.cell 6 false 2,.tmp 7]
theorem Wr:Am Tryz.prog Tryz.f76=some (M5,Xo):=by kernel_rfl
theorem Vk:A5 Tryz.prog 76=true:=by kernel_rfl
def Ep (a0:Int) (a1_0:Int) (a1_1:Int) (a2_0:Int) (a2_1:Int):Option (Int×Int×Bool) :=
 cond (a0==15)
 (some (a1_0,a2_1,a1_1==a2_0))
 (Option.bind (Gz (wI (a1_0+a2_0)) (wI (a1_1+a2_1))) fun y8 =>
 some (wI (a1_0+a2_0),wI (a1_1+a2_1),y8))
def Wa (r:Int×Int×Bool):RV:=⟨true,[(true,[.sc (.int .i64 r.1),.sc (.int .i64 r.2.1)]),(false,[.sc (.bool r.2.2)])]⟩
theorem Wh {a0:Int} {a1_0:Int} {a1_1:Int} {a2_0:Int} {a2_1:Int} {r:Int×Int×Bool} (h:Ep a0 a1_0 a1_1 a2_0 a2_1=some r):Ax Tryz.prog Tab 76 [ai a0,.agg [ai a1_0,ai a1_1],.agg [ai a2_0,ai a2_1]] (Wa r):=by
 refine Ar (by kernel_rfl) Tryz.func76 Wr (n:=35) (by kernel_rfl) (by simp) (tl:=[(0,ai a0),(1,.agg [ai a1_0,ai a1_1]),(2,.agg [ai a2_0,ai a2_1])]) rfl ?_;unfold M5;unfold Ep at h;refine Aj ?_;refine Ab ?_;refine Aj ?_;rcases Ad h with ⟨q4,h⟩ | ⟨q4,h⟩
 ·refine Af q4 ?_;refine Ab ?_;refine A1 19 ?_;refine dsB 12 ?_;refine F2 (Bc (by kernel_rfl)) (tn_ ?_);refine wr_ ?_;refine Ah (tr_ ?_);obtain rfl:=zj h;exact A0 [.agg [ai a1_0,ai a2_1],.bool (a1_1==a2_0)] (Gm (Bg zl (Bg zl Gd)) (Ap rfl zl As))
 refine Ag q4 ?_;refine Ai (tn_ ?_);refine wr_ ?_;refine Aj ?_;refine Ab ?_;obtain ⟨y8,h8,h⟩:=Ae h;refine A1 25 ?_;refine dzl (.agg [ai (wI (a1_0+a2_0)),ai (wI (a1_1+a2_1))]) ?_;refine dzl (.agg [ai (wI (a1_0+a2_0)),ai (wI (a1_1+a2_1))]) ?_;refine Da (.bool y8) [] [.agg [ai (wI (a1_0+a2_0)),ai (wI (a1_1+a2_1))]] _ (caps:=[]) (args0:=[.agg [ai (wI (a1_0+a2_0)),ai (wI (a1_1+a2_1))]]) trivial (by kernel_rfl) (Vo h8) Vg ?_;refine Y0 (oi 6 3) (oi 6 3) (.cells 63 [ai (wI (a1_0+a2_0)),ai (wI (a1_1+a2_1))]) (by kernel_rfl) ?_;refine dz0 (.bool y8) ?_;refine F2 (Bc (by kernel_rfl)) (tn_ ?_);refine wr_ ?_;refine Ah ?_;obtain rfl:=zj h;exact A0 [.agg [ai (wI (a1_0+a2_0)),ai (wI (a1_1+a2_1))],.bool y8] (Gm (Bg zl (Bg zl Gd)) (Ap rfl zl As))
def Oh:AC :=
 (.seq (rg [xo 23 (qb .lss (tm 22) (tm 21))])
 (.seq (.cond (tm 23)
  .skip
  (.exit 0))
 (.seq (.block 1 (.seq (rg [xo 24 (qx 3 (tm 20) (tm 22)),xo 25 (.i (.ld false 3 (tm 24))),⟨some 8,none,.i (.alloc 81 [.int .i64 0,.int .i64 0,.str ⟨#[]⟩])⟩,xn (.st false 3 (tm 8) (tm 25))])
 (.seq (.seq (rg [xo 26 (qf 0 (tm 8)),xo 27 (ql (tm 26)),xo 28 (qb .neq (tm 27) (ci 15)),xo 29 (qm (tm 28)),⟨some 30,some (29,true),qf 0 (tm 8)⟩,⟨some 31,some (29,true),ql (tm 30)⟩,⟨some 32,some (29,true),qb .neq (tm 31) (ci 16)⟩,xo 33 (.i (.pick (tm 29) (tm 32) (cb false)))])
 (.cond (tm 33)
  (.seq (rg [xo 35 (qm (tm 1)),xo 36 (.i (.ld false 3 (tm 8))),xo 37 (.call (tm 35) [tm 36] [[none,none,none]]),xo 34 (qm (tm 37)),xo 38 (.i (.extr 0 (tm 34))),xo 39 (.i (.extr 1 (tm 34))),xo 9 (.i (.alloc 63 [.int .i64 0,.int .i64 0])),xn (.st false 2 (tm 9) (tm 38)),xo 10 (qm (tm 39))])
  (.seq (.seq (rg [xo 40 (qm (tm 10)),xo 41 (.i (.not (tm 40)))])
  (.cond (tm 41)
   (.seq (rg [xo 42 (.build [.int .i64 0,.int .i64 0] []),xn (.st false 2 (tm 4) (tm 42)),xo 5 (qm (cb false))])
   .ret)
   .skip))
  (.seq (rg [xo 43 (qm (tm 6)),xo 44 (.i (.ld false 2 (tm 9))),xo 45 (.mkS 63 (.pair .int .int) [tm 44]),xo 46 (.append 63 (.pair .int .int) 16 (tm 43) (tm 45)),xo 6 (qm (tm 46))])
  (.exit 1))))
  .skip))
 (.seq (.seq (rg [xo 47 (qf 1 (tm 8)),xo 48 (ql (tm 47)),xo 49 (qb .neq (tm 48) (ci 0)),xo 50 (qm (tm 49)),⟨some 51,some (50,false),qf 2 (tm 8)⟩,⟨some 52,some (50,false),ql (tm 51)⟩,⟨some 53,some (50,false),.i (.bin .neq (tm 52) (.cst (.str ⟨#[]⟩)))⟩,xo 54 (.i (.pick (tm 50) (cb true) (tm 53))),xo 55 (qm (tm 54)),⟨some 56,some (55,false),qm (tm 6)⟩,⟨some 57,some (55,false),.i (.len (tm 56))⟩,⟨some 58,some (55,false),qb .lss (tm 57) (ci 2)⟩,xo 59 (.i (.pick (tm 55) (cb true) (tm 58)))])
 (.cond (tm 59)
  (.seq (rg [xo 60 (.build [.int .i64 0,.int .i64 0] []),xn (.st false 2 (tm 4) (tm 60)),xo 5 (qm (cb false))])
  .ret)
  .skip))
 (.seq (rg [xo 61 (qm (tm 6)),xo 62 (.i (.len (tm 61))),xo 63 (qb .sub (tm 62) (ci 1)),xo 11 (qm (tm 63))])
 (.seq (.region [xo 65 (qf 0 (tm 8)),xo 66 (ql (tm 65)),xo 67 (qm (tm 6)),xo 68 (qm (tm 11)),xo 69 (qb .sub (tm 68) (ci 1)),xo 70 (qx 2 (tm 67) (tm 69)),xo 71 (.i (.ld false 2 (tm 70))),xo 72 (qm (tm 6)),xo 73 (qm (tm 11)),xo 74 (qx 2 (tm 72) (tm 73)),xo 75 (.i (.ld false 2 (tm 74))),xo 76 (qc 76 [tm 66,tm 71,tm 75] [[],[none,none],[none,none]]),xo 64 (qm (tm 76)),xo 77 (.i (.extr 0 (tm 64))),xo 78 (.i (.extr 1 (tm 64))),xo 12 (.i (.alloc 63 [.int .i64 0,.int .i64 0])),xn (.st false 2 (tm 12) (tm 77)),xo 13 (qm (tm 78))] true [(11,15)])
 (.seq (.seq (rg [xo 79 (qm (tm 13)),xo 80 (.i (.not (tm 79)))])
 (.cond (tm 80)
  (.seq (rg [xo 81 (.build [.int .i64 0,.int .i64 0] []),xn (.st false 2 (tm 4) (tm 81)),xo 5 (qm (cb false))])
  .ret)
  .skip))
 (.region [xo 82 (qm (tm 6)),xo 83 (qm (tm 11)),xo 84 (qb .sub (tm 83) (ci 1)),xo 85 (.slice 2 (tm 82) none (some (tm 84)) none),xo 86 (.i (.ld false 2 (tm 12))),xo 87 (.mkS 63 (.pair .int .int) [tm 86]),xo 88 (.append 63 (.pair .int .int) 16 (tm 85) (tm 87)),xo 6 (qm (tm 88))] true []))))))))
 (rg [xo 89 (qb .add (tm 22) (ci 1)),xo 22 (qm (tm 89))]))))
def U2:AC :=
 (.seq (rg [xo 4 (.i (.alloc 63 [.int .i64 0,.int .i64 0])),xo 5 (qm (cb false))])
 (.seq (.seq (rg [xo 14 (qm (tm 0)),xo 15 (.i (.len (tm 14))),xo 16 (qc 49 [tm 15,ci 1,ci 400] [[],[],[]]),xo 17 (.i (.not (tm 16)))])
 (.cond (tm 17)
  (.seq (rg [xo 18 (.build [.int .i64 0,.int .i64 0] []),xn (.st false 2 (tm 4) (tm 18)),xo 5 (qm (cb false))])
  .ret)
  .skip))
 (.seq (rg [xo 19 (.mkS 63 (.pair .int .int) []),xo 6 (qm (tm 19))])
 (.seq (.seq (rg [xo 20 (qm (tm 0)),xo 21 (.i (.len (tm 20))),xo 22 (qm (ci 0))])
 (.block 0 (.loop Oh)))
 (.seq (rg [xo 90 (qm (tm 6)),xo 91 (qx 2 (tm 90) (ci 0)),xo 92 (.i (.ld false 2 (tm 91))),xo 93 (qm (tm 6)),xo 94 (.i (.len (tm 93))),xo 95 (qb .eql (tm 94) (ci 1)),xn (.st false 2 (tm 4) (tm 92)),xo 5 (qm (tm 95))])
 .ret)))))
def Aij:List Res:=[.cell 4 false 2,.tmp 5]
theorem Ah5:Am Tryz.prog Tryz.f58=some (U2,Aij):=by kernel_rfl
def Bj (a0:List (Int×Int×ByteArray)) (l10_m22:Nat) (l10_m6:List (Int×Int)):Option (Ctl (Nat×(List (Int×Int))) (Ctl (List (Int×Int)) (Int×Int×Bool))) :=
 cond (decide (((l10_m22:Nat):Int)<((a0.length:Nat):Int)))
 (Do (Option.bind (a0[l10_m22]?) fun x16 =>
  Option.bind (cond (x16.1 !=15)
    (some (x16.1 !=16))
    (some false)) fun l18_m33 =>
  cond l18_m33
   (Option.bind (Ee x16.1 x16.2.1 x16.2.2) fun y22 =>
   cond (!y22.2.2)
    (some (Ctl.out (Ctl.out (Ctl.out (0,0,false)))))
    (og (l10_m6.length+1<=1073741824∧(l10_m6.length+1)*16<=140737488355328) <|
    some (Ctl.next (l10_m6++([(y22.1,y22.2.1)])))))
   (Option.bind (cond (x16.2.1 !=0)
     (some true)
     (cond (!(x16.2.2.toList==(⟨#[]⟩:ByteArray).toList))
      (some true)
      (some (decide (((l10_m6.length:Nat):Int)<2))))) fun l30_m59 =>
   cond l30_m59
    (some (Ctl.out (Ctl.out (Ctl.out (0,0,false)))))
    (Option.bind (Fe l10_m6 (wI ((wI (((l10_m6.length:Nat):Int) - 1)) - 1))) fun x37 =>
    Option.bind (Fe l10_m6 (wI ((wI (((l10_m6.length:Nat):Int) - 1)) - 1))) fun x38 =>
    Option.bind (Fe l10_m6 (wI (((l10_m6.length:Nat):Int) - 1))) fun x39 =>
    Option.bind (Fe l10_m6 (wI (((l10_m6.length:Nat):Int) - 1))) fun x40 =>
    Option.bind (Ep x16.1 x38.1 x38.2 x40.1 x40.2) fun y41 =>
    cond (!y41.2.2)
     (some (Ctl.out (Ctl.out (Ctl.out (0,0,false)))))
     (og ((0:Int)<=0∧0<=wI ((wI (((l10_m6.length:Nat):Int) - 1)) - 1)∧wI ((wI (((l10_m6.length:Nat):Int) - 1)) - 1)<=((l10_m6.length:Nat):Int)) <|
     og (((l10_m6.take ((wI ((wI (((l10_m6.length:Nat):Int) - 1)) - 1)).toNat)).length)+1<=1073741824∧(((l10_m6.take ((wI ((wI (((l10_m6.length:Nat):Int) - 1)) - 1)).toNat)).length)+1)*16<=140737488355328) <|
     some (Ctl.next ((l10_m6.take ((wI ((wI (((l10_m6.length:Nat):Int) - 1)) - 1)).toNat))++([(y41.1,y41.2.1)]))))))) fun l14_m6 =>
 og (l10_m22+1<4611686018427387904) <|
 some (Ctl.next (l10_m22+1,l14_m6)))
 (some (Ctl.out (Ctl.next l10_m6)))
def Bu (a0:List (Int×Int×ByteArray)):Option (Int×Int×Bool) :=
 Option.bind (B3 ((a0.length:Nat):Int) 1 400) fun y4 =>
cond (!y4)
 (some (0,0,false))
 (Do (A4 (fun s_:Nat×(List (Int×Int))=>Bj a0 s_.1 s_.2) 4611686018427387904 (0,[])) fun l8_m6 =>
 Option.bind (l8_m6[0]?) fun x50 =>
 some (x50.1,x50.2,((l8_m6.length:Nat):Int)==1))
def H3 (r:Int×Int×Bool):RV:=⟨true,[(true,[.sc (.int .i64 r.1),.sc (.int .i64 r.2.1)]),(false,[.sc (.bool r.2.2)])]⟩
set_option maxHeartbeats 1600000 in
theorem Ic {a0:List (Int×Int×ByteArray)} {r:Int×Int×Bool} (h:Bu a0=some r):Ax Tryz.prog Tab 58 [.tree (.pair .int (.pair .int .str)) a0,.fn 59 []] (H3 r):=by
 refine Ar (by kernel_rfl) Tryz.func58 Ah5 (n:=96) (by kernel_rfl) (by simp) (tl:=[(0,.tree (.pair .int (.pair .int .str)) a0),(1,.fn 59 [])]) rfl ?_;unfold U2;unfold Bu at h;refine Aj ?_;refine Ab ?_;refine Ab ?_;obtain ⟨y4,h4,h⟩:=Ae h;refine Aa 7 ?_;refine rz0 (.tree (.pair .int (.pair .int .str)) a0) ?_;refine rz0 (ai ((a0.length:Nat):Int)) ?_;refine zc (.bool y4) [] [ai ((a0.length:Nat):Int),ai 1,ai 400] (Bp h4) ?_;refine rsB 1 ?_;refine An (tn_ ?_);refine wr_ ?_;rcases Ad h with ⟨q5,h⟩ | ⟨q5,h⟩
 ·refine Af q5 ?_;refine Aj ?_;refine Ah (tr_ ?_);obtain rfl:=zj h;exact A0 [.agg [ai 0,ai 0],.bool false] (Gm (Bg zl (Bg zl Gd)) (Ap rfl zl As))
 refine Ag q5 ?_;refine Ai (tn_ ?_);refine wr_ ?_;refine Aj ?_;refine Bh h (fun (l8_m6:List (Int×Int)) S_=>S_=⟨Ao [(4,.box (oi 0 1) 0),(6,.own (oi 1 1) (.pair .int .int) 0 l8_m6.length)],Ak (Aq [(oi 0 1,.cells 63 [ai 0,ai 0]),(oi 1 1,.arr 63 (.pair .int .int) l8_m6)]),2⟩) ?_ ?_
 ·intro v_ h hk8;refine Aj ?_;refine Al ?_;refine A3 h (fun t_ S_=>∃ (l10_m22:Nat),∃ (l10_m6:List (Int×Int)),t_=(l10_m22,l10_m6)∧S_=⟨Ao [(1,.fn 59 []),(4,.box (oi 0 1) 0),(6,.own (oi 1 1) (.pair .int .int) 0 l10_m6.length),(20,.tree (.pair .int (.pair .int .str)) a0),(21,ai ((a0.length:Nat):Int)),(22,ai ((l10_m22:Nat):Int))],Ak (Aq [(oi 0 1,.cells 63 [ai 0,ai 0]),(oi 1 1,.arr 63 (.pair .int .int) l10_m6)]),2⟩) ⟨_,Ac [(oi 0 1,oi 4 1),(oi 1 1,oi 19 7)],⟨0,[],rfl,rfl⟩⟩ ?_;rintro n_ _ _ c_ ⟨l10_m22,l10_m6,rfl,rfl⟩ h hn10
  (try dsimp only at h);unfold Bj at h;unfold Oh;refine Aj ?_;refine Ab ?_;rcases Ad h with ⟨q13,h⟩ | ⟨q13,h⟩
  ·have q13_:=of_decide_eq_true q13;refine Af q13 ?_;refine Ai (tn_ ?_);refine wr_ ?_;refine Bh h (fun (l14_m6:List (Int×Int)) S_=>S_=⟨Ao [(1,.fn 59 []),(4,.box (oi 0 1) 0),(6,.own (oi 1 1) (.pair .int .int) 0 l14_m6.length),(20,.tree (.pair .int (.pair .int .str)) a0),(21,ai ((a0.length:Nat):Int)),(22,ai ((l10_m22:Nat):Int))],Ak (Aq [(oi 0 1,.cells 63 [ai 0,ai 0]),(oi 1 1,.arr 63 (.pair .int .int) l14_m6)]),2⟩) ?_ ?_
   ·intro v_ h hk14;refine Al ?_;refine Ab ?_;obtain ⟨x16,e16,h⟩:=Ae h;refine Aa 7 ?_;refine rs0 (.telt none (.pair .int (.pair .int .str)) x16 0) (zi (t:=.pair .int (.pair .int .str)) (xs:=a0) (k:=.i64) (m:=((l10_m22:Nat):Int)) (Ay _) e16) ?_;refine rsB 3 ?_;refine An (tn_ ?_);refine wr_ ?_;refine Ab ?_;refine Aw h (fun (l18_m33:Bool) S_=>S_=⟨Ao [(1,.fn 59 []),(4,.box (oi 0 1) 0),(6,.own (oi 1 1) (.pair .int .int) 0 l10_m6.length),(8,.box (oi 2 1) 0),(20,.tree (.pair .int (.pair .int .str)) a0),(21,ai ((a0.length:Nat):Int)),(22,ai ((l10_m22:Nat):Int)),(33,.bool l18_m33)],Ak (Aq [(oi 0 1,.cells 63 [ai 0,ai 0]),(oi 1 1,.arr 63 (.pair .int .int) l10_m6),(oi 2 1,.cells 81 [ai x16.1,ai x16.2.1,.str x16.2.2])]),2⟩) ?_ ?_
    ·intro v_ h;rcases Ad h with ⟨q19,h⟩ | ⟨q19,h⟩
     ·refine Aa 15 ?_;refine rz0 (.box (oi 8 5) 0) ?_;refine rzl (ai x16.1) ?_;refine rz0 (.bool (x16.1 !=15)) ?_;refine rz0 (.bool (x16.1 !=15)) ?_;refine rs0 (.box (oi 8 5) 0) (zg q19) ?_;refine rsl (ai x16.1) (zg q19) ?_;refine rs0 (.bool (x16.1 !=16)) (zg q19) ?_;refine rs0 (.bool (x16.1 !=16)) (zT q19) ?_;refine An (tn_ ?_);obtain rfl:=zj h;exact ⟨_,Ac [(oi 2 1,oi 8 5)],rfl⟩
     refine Aa 15 ?_;refine rz0 (.box (oi 8 5) 0) ?_;refine rzl (ai x16.1) ?_;refine rz0 (.bool (x16.1 !=15)) ?_;refine rz0 (.bool (x16.1 !=15)) ?_;refine zs q19 ?_;refine zs q19 ?_;refine zs q19 ?_;refine rs0 (.bool false) (zF q19) ?_;refine An (tn_ ?_);obtain rfl:=zj h;exact ⟨_,Ac [(oi 2 1,oi 8 5)],rfl⟩
    rintro l18_m33 _ rfl h
    (try dsimp only at h);rcases Ad h with ⟨q20,h⟩ | ⟨q20,h⟩
    ·refine Af q20 ?_;refine Ab ?_;obtain ⟨y22,h22,h⟩:=Ae h;refine Aa 11 ?_;refine rz0 (.fn 59 []) ?_;refine rzl (.agg [ai x16.1,ai x16.2.1,.str x16.2.2]) ?_;refine zc (.tup [.agg [ai y22.1,ai y22.2.1],.bool y22.2.2]) [] [.agg [ai x16.1,ai x16.2.1,.str x16.2.2]] (Vx h22) ?_;refine rsB 6 ?_;refine An (tn_ ?_);refine wr_ ?_;refine Ab ?_;refine Aj ?_;rcases Ad h with ⟨q25,h⟩ | ⟨q25,h⟩
     ·refine Af q25 ?_;refine Aj ?_;refine Ah (tr_ (tr_ (br_ (tr_ (tr_ (br_ (tr_ ?_)))))));obtain rfl:=zj h;have h:=hk14
      (try dsimp only at h);obtain rfl:=zj h;have h:=hn10
      (try dsimp only at h);obtain rfl:=zj h;have h:=hk8
      (try dsimp only at h);obtain rfl:=zj h;exact A0 [.agg [ai 0,ai 0],.bool false] (Gm (Bg zl (Bg zl Gd)) (Ap rfl zl As))
     refine Ag q25 ?_;refine Ai (tn_ ?_);refine wr_ ?_;refine Ab ?_;obtain ⟨g28,h⟩:=Au h;refine Aa 18 ?_;refine rz0 (.own (oi 1 1) (.pair .int .int) 0 l10_m6.length) ?_;refine rzl (.agg [ai y22.1,ai y22.2.1]) ?_;refine rs1 (.own (oi 45 15) (.pair .int .int) 0 1) (oi 45 15) (.arr 63 (.pair .int .int) ([(y22.1,y22.2.1)])) (by kernel_rfl) ?_;refine rs2 (.own (oi 1 16) (.pair .int .int) 0 ((l10_m6++([(y22.1,y22.2.1)])).length)) (oi 1 1) (oi 1 16) (.arr 63 (.pair .int .int) (l10_m6++([(y22.1,y22.2.1)]))) (K8 (t:=.pair .int .int) (t':=.pair .int .int) (xs:=l10_m6) (ys:=[(y22.1,y22.2.1)]) (zs:=l10_m6++([(y22.1,y22.2.1)])) (j:=oi 1 1) (len:=l10_m6.length) (c:=.own (oi 45 15) (.pair .int .int) 0 1) (by kernel_rfl) (by kernel_rfl) rfl (by kernel_rfl) (Mj (e:=63) (by kernel_rfl) rfl) rfl g28) ?_;refine rsB 1 ?_;refine An (tn_ ?_);refine wr_ ?_;refine Az (te_ (be_ (tn_ ?_)));obtain rfl:=zj h;exact ⟨l10_m6++([(y22.1,y22.2.1)]),_,rfl,Ac [(oi 1 1,oi 1 16)],rfl⟩
    refine Ag q20 ?_;refine Ai (tn_ ?_);refine wr_ ?_;refine Ab ?_;refine Aw h (fun (l30_m59:Bool) S_=>S_=⟨Ao [(1,.fn 59 []),(4,.box (oi 0 1) 0),(6,.own (oi 1 1) (.pair .int .int) 0 l10_m6.length),(8,.box (oi 2 1) 0),(20,.tree (.pair .int (.pair .int .str)) a0),(21,ai ((a0.length:Nat):Int)),(22,ai ((l10_m22:Nat):Int)),(59,.bool l30_m59)],Ak (Aq [(oi 0 1,.cells 63 [ai 0,ai 0]),(oi 1 1,.arr 63 (.pair .int .int) l10_m6),(oi 2 1,.cells 81 [ai x16.1,ai x16.2.1,.str x16.2.2])]),2⟩) ?_ ?_
    ·intro v_ h;rcases Ad h with ⟨q31,h⟩ | ⟨q31,h⟩
     ·refine Aa 15 ?_;refine rz0 (.box (oi 2 1) 1) ?_;refine rzl (ai x16.2.1) ?_;refine rz0 (.bool (x16.2.1 !=0)) ?_;refine rz0 (.bool (x16.2.1 !=0)) ?_;refine zs q31 ?_;refine zs q31 ?_;refine zs q31 ?_;refine rs0 (.bool true) (zT q31) ?_;refine rsB 5 ?_;refine An (tn_ ?_);obtain rfl:=zj h;exact ⟨_,Ac [],rfl⟩
     rcases Ad h with ⟨q32,h⟩ | ⟨q32,h⟩
     ·refine Aa 15 ?_;refine rz0 (.box (oi 2 1) 1) ?_;refine rzl (ai x16.2.1) ?_;refine rz0 (.bool (x16.2.1 !=0)) ?_;refine rz0 (.bool (x16.2.1 !=0)) ?_;refine rs0 (.box (oi 2 1) 2) (zg q31) ?_;refine rsl (.str x16.2.2) (zg q31) ?_;refine rs0 (.bool (!(x16.2.2.toList==(⟨#[]⟩:ByteArray).toList))) (zg q31) ?_;refine rs0 (.bool (!(x16.2.2.toList==(⟨#[]⟩:ByteArray).toList))) (zF q31) ?_;refine rz0 (.bool (!(x16.2.2.toList==(⟨#[]⟩:ByteArray).toList))) ?_;refine zs q32 ?_;refine zs q32 ?_;refine zs q32 ?_;refine rs0 (.bool true) (zT q32) ?_;refine An (tn_ ?_);obtain rfl:=zj h;exact ⟨_,Ac [],rfl⟩
     refine Aa 15 ?_;refine rz0 (.box (oi 2 1) 1) ?_;refine rzl (ai x16.2.1) ?_;refine rz0 (.bool (x16.2.1 !=0)) ?_;refine rz0 (.bool (x16.2.1 !=0)) ?_;refine rs0 (.box (oi 2 1) 2) (zg q31) ?_;refine rsl (.str x16.2.2) (zg q31) ?_;refine rs0 (.bool (!(x16.2.2.toList==(⟨#[]⟩:ByteArray).toList))) (zg q31) ?_;refine rs0 (.bool (!(x16.2.2.toList==(⟨#[]⟩:ByteArray).toList))) (zF q31) ?_;refine rz0 (.bool (!(x16.2.2.toList==(⟨#[]⟩:ByteArray).toList))) ?_;refine rs0 (.own (oi 1 1) (.pair .int .int) 0 l10_m6.length) (zg q32) ?_;refine rs0 (ai ((l10_m6.length:Nat):Int)) (zg q32) ?_;refine rs0 (.bool (decide (((l10_m6.length:Nat):Int)<2))) (zg q32) ?_;refine rs0 (.bool (decide (((l10_m6.length:Nat):Int)<2))) (zF q32) ?_;refine An (tn_ ?_);obtain rfl:=zj h;exact ⟨_,Ac [],rfl⟩
    rintro l30_m59 _ rfl h
    (try dsimp only at h);rcases Ad h with ⟨q33,h⟩ | ⟨q33,h⟩
    ·refine Af q33 ?_;refine Aj ?_;refine Ah (tr_ (br_ (tr_ (tr_ (br_ (tr_ ?_))))));obtain rfl:=zj h;have h:=hk14
     (try dsimp only at h);obtain rfl:=zj h;have h:=hn10
     (try dsimp only at h);obtain rfl:=zj h;have h:=hk8
     (try dsimp only at h);obtain rfl:=zj h;exact A0 [.agg [ai 0,ai 0],.bool false] (Gm (Bg zl (Bg zl Gd)) (Ap rfl zl As))
    refine Ag q33 ?_;refine Ai (tn_ ?_);refine wr_ ?_;refine Aj ?_;refine Ab ?_;obtain ⟨x37,f37,h⟩:=Ae h;obtain ⟨p37,b37,e37⟩:=Bd f37;obtain ⟨x38,f38,h⟩:=Ae h;obtain ⟨p38,b38,e38⟩:=Bd f38;obtain ⟨x39,f39,h⟩:=Ae h;obtain ⟨p39,b39,e39⟩:=Bd f39;obtain ⟨x40,f40,h⟩:=Ae h;obtain ⟨p40,b40,e40⟩:=Bd f40;obtain ⟨y41,h41,h⟩:=Ae h;refine A1 24 ?_;refine dz0 (.box (oi 2 1) 0) ?_;refine dzl (ai x16.1) ?_;refine dz0 (.own (oi 1 1) (.pair .int .int) 0 l10_m6.length) ?_;refine dz0 (ai (wI (((l10_m6.length:Nat):Int) - 1))) ?_;refine dz0 (ai (wI ((wI (((l10_m6.length:Nat):Int) - 1)) - 1))) ?_;refine ds0 (.elt (oi 1 1) ((wI ((wI (((l10_m6.length:Nat):Int) - 1)) - 1)).toNat) 0) (zo (t:=.pair .int .int) (o:=oi 1 1) (len:=l10_m6.length) (k:=.i64) (m:=wI ((wI (((l10_m6.length:Nat):Int) - 1)) - 1)) p37 (Av e37)) ?_;refine dsl (.agg [ai x38.1,ai x38.2]) (C0 (i:=oi 1 1) (j:=(wI ((wI (((l10_m6.length:Nat):Int) - 1)) - 1)).toNat) (k:=0) (e:=63) (t:=.pair .int .int) (xs:=l10_m6) (by kernel_rfl) (by kernel_rfl) e38 (by kernel_rfl)) ?_;refine dz0 (.own (oi 1 1) (.pair .int .int) 0 l10_m6.length) ?_;refine dz0 (ai (wI (((l10_m6.length:Nat):Int) - 1))) ?_;refine ds0 (.elt (oi 1 1) ((wI (((l10_m6.length:Nat):Int) - 1)).toNat) 0) (zo (t:=.pair .int .int) (o:=oi 1 1) (len:=l10_m6.length) (k:=.i64) (m:=wI (((l10_m6.length:Nat):Int) - 1)) p39 (Av e39)) ?_;refine dsl (.agg [ai x40.1,ai x40.2]) (C0 (i:=oi 1 1) (j:=(wI (((l10_m6.length:Nat):Int) - 1)).toNat) (k:=0) (e:=63) (t:=.pair .int .int) (xs:=l10_m6) (by kernel_rfl) (by kernel_rfl) e40 (by kernel_rfl)) ?_;refine Da (.tup [.agg [ai y41.1,ai y41.2.1],.bool y41.2.2]) [] [ai x16.1,.agg [ai x38.1,ai x38.2],.agg [ai x40.1,ai x40.2]] _ (caps:=[]) (args0:=[ai x16.1,.agg [ai x38.1,ai x38.2],.agg [ai x40.1,ai x40.2]]) trivial (by kernel_rfl) (Wh h41) Vk ?_;refine dz0 (.tup [.agg [ai y41.1,ai y41.2.1],.bool y41.2.2]) ?_;refine dz0 (.agg [ai y41.1,ai y41.2.1]) ?_;refine dz0 (.bool y41.2.2) ?_;refine ds1 (.box (oi 12 21) 0) (oi 12 21) (.cells 63 [ai 0,ai 0]) (by kernel_rfl) ?_;refine Y0 (oi 12 21) (oi 12 21) (.cells 63 [ai y41.1,ai y41.2.1]) (by kernel_rfl) ?_;refine dz0 (.bool y41.2.2) ?_;refine F2 (Bc (by kernel_rfl)) (tn_ ?_);refine wr_ ?_;refine Ab ?_;refine Aj ?_;rcases Ad h with ⟨q44,h⟩ | ⟨q44,h⟩
    ·refine Af q44 ?_;refine Aj ?_;refine Ah (tr_ (br_ (tr_ (tr_ (br_ (tr_ ?_))))));obtain rfl:=zj h;have h:=hk14
     (try dsimp only at h);obtain rfl:=zj h;have h:=hn10
     (try dsimp only at h);obtain rfl:=zj h;have h:=hk8
     (try dsimp only at h);obtain rfl:=zj h;exact A0 [.agg [ai 0,ai 0],.bool false] (Gm (Bg zl (Bg zl Gd)) (Ap rfl zl As))
    refine Ag q44 ?_;refine Ai (tn_ ?_);refine wr_ ?_;obtain ⟨g46,h⟩:=Au h;obtain ⟨g47,h⟩:=Au h;refine A1 34 ?_;refine dz0 (.own (oi 1 1) (.pair .int .int) 0 l10_m6.length) ?_;refine dz0 (ai (wI (((l10_m6.length:Nat):Int) - 1))) ?_;refine dz0 (ai (wI ((wI (((l10_m6.length:Nat):Int) - 1)) - 1))) ?_;refine ds0 (.own (oi 1 1) (.pair .int .int) 0 ((wI ((wI (((l10_m6.length:Nat):Int) - 1)) - 1)).toNat)) (Ajg (t:=.pair .int .int) (i:=oi 1 1) (off:=0) (len:=l10_m6.length) (l:=0) (h:=wI ((wI (((l10_m6.length:Nat):Int) - 1)) - 1)) (by kernel_rfl) (by kernel_rfl) (by kernel_rfl) rfl g46 rfl (by omega)) ?_;refine dzl (.agg [ai y41.1,ai y41.2.1]) ?_;refine ds1 (.own (oi 87 31) (.pair .int .int) 0 1) (oi 87 31) (.arr 63 (.pair .int .int) ([(y41.1,y41.2.1)])) (by kernel_rfl) ?_;refine ds2 (.own (oi 1 32) (.pair .int .int) 0 (((l10_m6.take ((wI ((wI (((l10_m6.length:Nat):Int) - 1)) - 1)).toNat))++([(y41.1,y41.2.1)])).length)) (oi 1 1) (oi 1 32) (.arr 63 (.pair .int .int) ((l10_m6.take ((wI ((wI (((l10_m6.length:Nat):Int) - 1)) - 1)).toNat))++([(y41.1,y41.2.1)]))) (Av0 (t:=.pair .int .int) (t':=.pair .int .int) (xs:=l10_m6) (ys:=[(y41.1,y41.2.1)]) (zs:=(l10_m6.take ((wI ((wI (((l10_m6.length:Nat):Int) - 1)) - 1)).toNat))++([(y41.1,y41.2.1)])) (j:=oi 1 1) (len:=(wI ((wI (((l10_m6.length:Nat):Int) - 1)) - 1)).toNat) (c:=.own (oi 87 31) (.pair .int .int) 0 1) (by kernel_rfl) (by kernel_rfl) (by omega) (by kernel_rfl) (Mj (e:=63) (by kernel_rfl) rfl) rfl g47) ?_;refine dz0 (.own (oi 1 32) (.pair .int .int) 0 (((l10_m6.take ((wI ((wI (((l10_m6.length:Nat):Int) - 1)) - 1)).toNat))++([(y41.1,y41.2.1)])).length)) ?_;refine F2 (Bc (by kernel_rfl)) (bn_ (tn_ ?_));obtain rfl:=zj h;exact ⟨(l10_m6.take ((wI ((wI (((l10_m6.length:Nat):Int) - 1)) - 1)).toNat))++([(y41.1,y41.2.1)]),_,rfl,Ac [(oi 1 1,oi 1 32)],rfl⟩
   rintro l14_m6 _ rfl h
   (try dsimp only at h);obtain ⟨g48,h⟩:=Au h;refine Aa 4 ?_;refine rs0 (ai ((l10_m22+1:Nat):Int)) (za g48) ?_;refine rsB 1 ?_;refine An (tn_ ?_);obtain rfl:=zj h;exact ⟨(l10_m22+1,l14_m6),_,Ac [],⟨l10_m22+1,l14_m6,rfl,rfl⟩,hn10⟩
  have q13_:=of_decide_eq_false q13;refine Ag q13 ?_;refine Az (te_ (te_ (be_ (tn_ ?_))));obtain rfl:=zj h;have h:=hn10
  (try dsimp only at h);obtain rfl:=zj h;exact ⟨l10_m6,_,rfl,Ac [],rfl⟩
 rintro l8_m6 _ rfl h
 (try dsimp only at h);refine Ab ?_;obtain ⟨x50,e50,h⟩:=Ae h;refine Aa 10 ?_;refine rz0 (.own (oi 1 1) (.pair .int .int) 0 l8_m6.length) ?_;refine rs0 (.elt (oi 1 1) 0 0) (Aqx (t:=.pair .int .int) (o:=oi 1 1) (len:=l8_m6.length) (k:=.i64) (m:=0) (by kernel_rfl) (by kernel_rfl) rfl (by decide) rfl (Av e50)) ?_;refine rsl (.agg [ai x50.1,ai x50.2]) (C0 (i:=oi 1 1) (j:=0) (k:=0) (e:=63) (t:=.pair .int .int) (xs:=l8_m6) (by kernel_rfl) (by kernel_rfl) e50 (by kernel_rfl)) ?_;refine rsB 5 ?_;refine An (tn_ ?_);refine wr_ ?_;refine Ah ?_;obtain rfl:=zj h;exact A0 [.agg [ai x50.1,ai x50.2],.bool (((l8_m6.length:Nat):Int)==1)] (Gm (Bg zl (Bg zl Gd)) (Ap rfl zl As))
def L0:AC :=
 (.seq (rg [xo 1 (.i (.box 35 (tm 0))),xo 2 (.i (.alloc 63 [.int .i64 0,.int .i64 0])),xo 3 (qm (cb false))])
 (.seq (rg [xo 4 (qf 0 (tm 1)),xo 5 (ql (tm 4)),⟨some 6,none,qc 58 [tm 5,.cst (.fn 59 [])] [[some (.pair .int (.pair .int .str))],[]]⟩,xo 7 (.i (.extr 0 (tm 6))),xo 8 (.i (.extr 1 (tm 6))),xn (.st false 2 (tm 2) (tm 7)),xo 3 (qm (tm 8))])
 .ret))
def Vw:List Res:=[.cell 2 false 2,.tmp 3]
theorem V5:Am Tryz.prog Tryz.f32=some (L0,Vw):=by kernel_rfl
def Cy (a0_0:List (Int×Int×ByteArray)):Option (Int×Int×Bool) :=
 Option.bind (Bu a0_0) fun y3 =>
some (y3.1,y3.2.1,y3.2.2)
def Ta (r:Int×Int×Bool):RV:=⟨true,[(true,[.sc (.int .i64 r.1),.sc (.int .i64 r.2.1)]),(false,[.sc (.bool r.2.2)])]⟩
theorem Kj {a0_0:List (Int×Int×ByteArray)} {r:Int×Int×Bool} (h:Cy a0_0=some r):Ax Tryz.prog Tab 32 [.agg [.tree (.pair .int (.pair .int .str)) a0_0]] (Ta r):=by
 refine Ar (by kernel_rfl) Tryz.func32 V5 (n:=9) (by kernel_rfl) (by simp) (tl:=[(0,.agg [.tree (.pair .int (.pair .int .str)) a0_0])]) rfl ?_;unfold L0;unfold Cy at h;refine Aj ?_;refine Ab ?_;obtain ⟨y3,h3,h⟩:=Ae h;refine Aa 11 ?_;refine rz0 (.box (oi 1 1) 0) ?_;refine rzl (.tree (.pair .int (.pair .int .str)) a0_0) ?_;refine zc (.tup [.agg [ai y3.1,ai y3.2.1],.bool y3.2.2]) [] [.tree (.pair .int (.pair .int .str)) a0_0,.fn 59 []] (Ic h3) ?_;refine rsB 4 ?_;refine An (tn_ ?_);refine wr_ ?_;refine Ah ?_;obtain rfl:=zj h;exact A0 [.agg [ai y3.1,ai y3.2.1],.bool y3.2.2] (Gm (Bg zl (Bg zl Gd)) (Ap rfl zl As))
def Jt:AC :=
 (.seq (rg [xo 1 (.i (.box 35 (tm 0))),xo 2 (qm (cb false))])
 (.seq (rg [xo 6 (.i (.ld false 1 (tm 1))),⟨some 7,none,qc 32 [tm 6] [[some (.pair .int (.pair .int .str))]]⟩,xo 5 (qm (tm 7)),xo 8 (.i (.extr 0 (tm 5))),xo 9 (.i (.extr 1 (tm 5))),xo 3 (.i (.alloc 63 [.int .i64 0,.int .i64 0])),xn (.st false 2 (tm 3) (tm 8)),xo 4 (qm (tm 9))])
 (.seq (rg [xo 10 (qm (tm 4)),xo 2 (qm (tm 10))])
 .ret)))
def Qu:List Res:=[.tmp 2]
theorem Q2:Am Tryz.prog Tryz.f71=some (Jt,Qu):=by kernel_rfl
theorem Py:A5 Tryz.prog 71=true:=by kernel_rfl
def Ec (a0_0:List (Int×Int×ByteArray)):Option Bool :=
 Option.bind (Cy a0_0) fun y3 =>
some y3.2.2
def Pd (r:Bool):RV:=⟨false,[(false,[.sc (.bool r)])]⟩
theorem O9 {a0_0:List (Int×Int×ByteArray)} {r:Bool} (h:Ec a0_0=some r):Ax Tryz.prog Tab 71 [.agg [.tree (.pair .int (.pair .int .str)) a0_0]] (Pd r):=by
 refine Ar (by kernel_rfl) Tryz.func71 Q2 (n:=11) (by kernel_rfl) (by simp) (tl:=[(0,.agg [.tree (.pair .int (.pair .int .str)) a0_0])]) rfl ?_;unfold Jt;unfold Ec at h;refine Aj ?_;refine Ab ?_;obtain ⟨y3,h3,h⟩:=Ae h;refine Aa 11 ?_;refine rzl (.agg [.tree (.pair .int (.pair .int .str)) a0_0]) ?_;refine zc (.tup [.agg [ai y3.1,ai y3.2.1],.bool y3.2.2]) [] [.agg [.tree (.pair .int (.pair .int .str)) a0_0]] (Kj h3) ?_;refine rsB 6 ?_;refine An (tn_ ?_);refine wr_ ?_;refine Aj ?_;refine Ah ?_;obtain rfl:=zj h;exact A0 [.bool y3.2.2] (Ap rfl zl As)
def Im:AC :=
 (.seq (rg [xo 19 (qb .lss (tm 18) (tm 17))])
 (.seq (.cond (tm 19)
  .skip
  (.exit 0))
 (.seq (.block 1 (.seq (rg [xo 20 (qx 3 (tm 16) (tm 18)),xo 21 (.i (.ld false 3 (tm 20))),⟨some 6,none,.i (.alloc 81 [.int .i64 0,.int .i64 0,.str ⟨#[]⟩])⟩,xn (.st false 3 (tm 6) (tm 21))])
 (.seq (rg [xo 22 (qf 0 (tm 6)),xo 23 (ql (tm 22)),xo 24 (qc 72 [tm 23] [[]]),xo 25 (qm (tm 24)),⟨some 26,some (25,true),qf 1 (tm 6)⟩,⟨some 27,some (25,true),ql (tm 26)⟩,⟨some 28,some (25,true),qm (tm 1)⟩,⟨some 29,some (25,true),qb .geq (tm 27) (tm 28)⟩,xo 30 (.i (.pick (tm 25) (tm 29) (cb false)))])
 (.cond (tm 30)
  (.seq (rg [xo 4 (qm (cb false))])
  .ret)
  .skip))))
 (rg [xo 31 (qb .add (tm 18) (ci 1)),xo 18 (qm (tm 31))]))))
def Kg:AC :=
 (.seq (rg [xo 2 (.i (.box 35 (tm 0))),xo 4 (qm (cb false))])
 (.seq (.seq (rg [xo 7 (qm (tm 1)),xo 8 (qc 55 [tm 7] [[]]),xo 9 (.i (.not (tm 8))),xo 10 (qm (tm 9)),⟨some 11,some (10,false),.i (.ld false 1 (tm 2))⟩,⟨some 12,some (10,false),qc 71 [tm 11] [[some (.pair .int (.pair .int .str))]]⟩,⟨some 13,some (10,false),.i (.not (tm 12))⟩,xo 14 (.i (.pick (tm 10) (cb true) (tm 13)))])
 (.cond (tm 14)
  (.seq (rg [xo 4 (qm (cb false))])
  .ret)
  .skip))
 (.seq (.seq (rg [xo 15 (qf 0 (tm 2)),xo 16 (ql (tm 15)),xo 17 (.i (.len (tm 16))),xo 18 (qm (ci 0))])
 (.block 0 (.loop Im)))
 (.seq (rg [xo 4 (qm (cb true))])
 .ret))))
def Sg:List Res:=[.tmp 4]
theorem Sy:Am Tryz.prog Tryz.f53=some (Kg,Sg):=by kernel_rfl
def Ci (a0_0:List (Int×Int×ByteArray)) (a1:Int) (l11_m18:Nat):Option (Ctl Nat (Ctl Unit Bool)) :=
 cond (decide (((l11_m18:Nat):Int)<((a0_0.length:Nat):Int)))
 (Option.bind (a0_0[l11_m18]?) fun x17 =>
 Option.bind (Option.bind (Dq x17.1) fun y19 =>
  cond y19
   (some (decide (a1<=x17.2.1)))
   (some false)) fun l18_m30 =>
 cond l18_m30
  (some (Ctl.out (Ctl.out false)))
  (og (l11_m18+1<4611686018427387904) <|
  some (Ctl.next (l11_m18+1))))
 (some (Ctl.out (Ctl.next ())))
def Dj (a0_0:List (Int×Int×ByteArray)) (a1:Int):Option Bool :=
 Option.bind (Option.bind (F9 a1) fun y4 =>
 cond (!y4)
  (some true)
  (Option.bind (Ec a0_0) fun y6 =>
  some (!y6))) fun l3_m14 =>
cond l3_m14
 (some false)
 (Do (A4 (fun s_:Nat=>Ci a0_0 a1 s_) 4611686018427387904 0) fun _ =>
 some true)
def Qt (r:Bool):RV:=⟨false,[(false,[.sc (.bool r)])]⟩
theorem Qv {a0_0:List (Int×Int×ByteArray)} {a1:Int} {r:Bool} (h:Dj a0_0 a1=some r):Ax Tryz.prog Tab 53 [.agg [.tree (.pair .int (.pair .int .str)) a0_0],ai a1] (Qt r):=by
 refine Ar (by kernel_rfl) Tryz.func53 Sy (n:=32) (by kernel_rfl) (by simp) (tl:=[(0,.agg [.tree (.pair .int (.pair .int .str)) a0_0]),(1,ai a1)]) rfl ?_;unfold Kg;unfold Dj at h;refine Aj ?_;refine Ab ?_;refine Aw h (fun (l3_m14:Bool) S_=>S_=⟨Ao [(1,ai a1),(2,.box (oi 0 1) 0),(14,.bool l3_m14)],Ak (Aq [(oi 0 1,.cells 35 [.tree (.pair .int (.pair .int .str)) a0_0])]),2⟩) ?_ ?_
 ·intro v_ h;obtain ⟨y4,h4,h⟩:=Ae h;rcases Ad h with ⟨q5,h⟩ | ⟨q5,h⟩
  ·refine Aa 11 ?_;refine rz0 (ai a1) ?_;refine zc (.bool y4) [] [ai a1] (Fl h4) ?_;refine rz0 (.bool (!y4)) ?_;refine rz0 (.bool (!y4)) ?_;refine zs q5 ?_;refine zs q5 ?_;refine zs q5 ?_;refine rs0 (.bool true) (zT q5) ?_;refine An (tn_ ?_);obtain rfl:=zj h;exact ⟨_,Ac [(oi 0 1,oi 2 1)],rfl⟩
  obtain ⟨y6,h6,h⟩:=Ae h;refine Aa 11 ?_;refine rz0 (ai a1) ?_;refine zc (.bool y4) [] [ai a1] (Fl h4) ?_;refine rz0 (.bool (!y4)) ?_;refine rz0 (.bool (!y4)) ?_;refine rsl (.agg [.tree (.pair .int (.pair .int .str)) a0_0]) (zg q5) ?_;refine Bs (.bool y6) [] [.agg [.tree (.pair .int (.pair .int .str)) a0_0]] _ (caps:=[]) (args0:=[.agg [.tree (.pair .int (.pair .int .str)) a0_0]]) (Bf (by kernel_rfl) q5) (by kernel_rfl) (O9 h6) Py ?_;refine rs0 (.bool (!y6)) (zg q5) ?_;refine rs0 (.bool (!y6)) (zF q5) ?_;refine An (tn_ ?_);obtain rfl:=zj h;exact ⟨_,Ac [(oi 0 1,oi 2 1)],rfl⟩
 rintro l3_m14 _ rfl h
 (try dsimp only at h);rcases Ad h with ⟨q7,h⟩ | ⟨q7,h⟩
 ·refine Af q7 ?_;refine Aj ?_;refine Ah (tr_ ?_);obtain rfl:=zj h;exact A0 [.bool false] (Ap rfl zl As)
 refine Ag q7 ?_;refine Ai (tn_ ?_);refine wr_ ?_;refine Bh h (fun (_:Unit) S_=>S_=⟨Ao [],Ak (Aq []),2⟩) ?_ ?_
 ·intro v_ h hk9;refine Aj ?_;refine Al ?_;refine A3 h (fun (l11_m18:Nat) S_=>S_=⟨Ao [(1,ai a1),(16,.tree (.pair .int (.pair .int .str)) a0_0),(17,ai ((a0_0.length:Nat):Int)),(18,ai ((l11_m18:Nat):Int))],Ak (Aq []),2⟩) ⟨_,Ac [],rfl⟩ ?_;rintro n_ l11_m18 _ c_ rfl h hn11
  (try dsimp only at h);unfold Ci at h;unfold Im;refine Aj ?_;refine Ab ?_;rcases Ad h with ⟨q14,h⟩ | ⟨q14,h⟩
  ·have q14_:=of_decide_eq_true q14;refine Af q14 ?_;refine Ai (tn_ ?_);refine wr_ ?_;refine Ab ?_;refine Al ?_;refine Ab ?_;obtain ⟨x17,e17,h⟩:=Ae h;refine Aa 7 ?_;refine rs0 (.telt none (.pair .int (.pair .int .str)) x17 0) (zi (t:=.pair .int (.pair .int .str)) (xs:=a0_0) (k:=.i64) (m:=((l11_m18:Nat):Int)) (Ay _) e17) ?_;refine rsB 3 ?_;refine An (tn_ ?_);refine wr_ ?_;refine Aw h (fun (l18_m30:Bool) S_=>S_=⟨Ao [(1,ai a1),(16,.tree (.pair .int (.pair .int .str)) a0_0),(17,ai ((a0_0.length:Nat):Int)),(18,ai ((l11_m18:Nat):Int)),(30,.bool l18_m30)],Ak (Aq []),2⟩) ?_ ?_
   ·intro v_ h;obtain ⟨y19,h19,h⟩:=Ae h;rcases Ad h with ⟨q20,h⟩ | ⟨q20,h⟩
    ·refine Aa 16 ?_;refine rz0 (.box (oi 6 5) 0) ?_;refine rzl (ai x17.1) ?_;refine zc (.bool y19) [] [ai x17.1] (Ix h19) ?_;refine rz0 (.bool y19) ?_;refine rs0 (.box (oi 6 5) 1) (zg q20) ?_;refine rsl (ai x17.2.1) (zg q20) ?_;refine rs0 (ai a1) (zg q20) ?_;refine rs0 (.bool (decide (a1<=x17.2.1))) (zg q20) ?_;refine rs0 (.bool (decide (a1<=x17.2.1))) (zT q20) ?_;refine An (tn_ ?_);obtain rfl:=zj h;exact ⟨_,Ac [],rfl⟩
    refine Aa 16 ?_;refine rz0 (.box (oi 6 5) 0) ?_;refine rzl (ai x17.1) ?_;refine zc (.bool y19) [] [ai x17.1] (Ix h19) ?_;refine rz0 (.bool y19) ?_;refine zs q20 ?_;refine zs q20 ?_;refine zs q20 ?_;refine zs q20 ?_;refine rs0 (.bool false) (zF q20) ?_;refine An (tn_ ?_);obtain rfl:=zj h;exact ⟨_,Ac [],rfl⟩
   rintro l18_m30 _ rfl h
   (try dsimp only at h);rcases Ad h with ⟨q21,h⟩ | ⟨q21,h⟩
   ·refine Af q21 ?_;refine Aj ?_;refine Ah (br_ (tr_ (tr_ (br_ (tr_ ?_)))));obtain rfl:=zj h;have h:=hn11
    (try dsimp only at h);obtain rfl:=zj h;have h:=hk9
    (try dsimp only at h);obtain rfl:=zj h;exact A0 [.bool false] (Ap rfl zl As)
   refine Ag q21 ?_;refine Ai (bn_ (tn_ ?_));refine wr_ ?_;obtain ⟨g23,h⟩:=Au h;refine Aa 4 ?_;refine rs0 (ai ((l11_m18+1:Nat):Int)) (za g23) ?_;refine rsB 1 ?_;refine An (tn_ ?_);obtain rfl:=zj h;exact ⟨l11_m18+1,_,Ac [],rfl,hn11⟩
  have q14_:=of_decide_eq_false q14;refine Ag q14 ?_;refine Az (te_ (te_ (be_ (tn_ ?_))));obtain rfl:=zj h;have h:=hn11
  (try dsimp only at h);obtain rfl:=zj h;exact ⟨(),_,rfl,Ac [],rfl⟩
 rintro _ _ rfl h
 (try dsimp only at h);refine Aj ?_;refine Ah ?_;obtain rfl:=zj h;exact A0 [.bool true] (Ap rfl zl As)
def P6:AC :=
 (.seq (rg [xo 2 (qm (cb false))])
 (.seq (rg [xo 3 (qm (tm 0)),xo 4 (qb .eql (tm 3) (ci 8)),xo 5 (qm (tm 4)),⟨some 6,some (5,false),qm (tm 0)⟩,⟨some 7,some (5,false),qb .eql (tm 6) (ci 14)⟩,xo 8 (.i (.pick (tm 5) (cb true) (tm 7))),xo 2 (qm (tm 8))])
 .ret))
def Aag:List Res:=[.tmp 2]
theorem Aay:Am Tryz.prog Tryz.f54=some (P6,Aag):=by kernel_rfl
def Id (a0:Int):Option Bool :=
 Option.bind (cond (a0==8)
  (some true)
  (some (a0==14))) fun l2_m2 =>
some l2_m2
def Yq (r:Bool):RV:=⟨false,[(false,[.sc (.bool r)])]⟩
theorem Yp {a0:Int} {r:Bool} (h:Id a0=some r):Ax Tryz.prog Tab 54 [ai a0] (Yq r):=by
 refine Ar (by kernel_rfl) Tryz.func54 Aay (n:=9) (by kernel_rfl) (by simp) (tl:=[(0,ai a0)]) rfl ?_;unfold P6;unfold Id at h;refine Aj ?_;refine Aw h (fun (l2_m2:Bool) S_=>S_=⟨Ao [(2,.bool l2_m2)],Ak (Aq []),2⟩) ?_ ?_
 ·intro v_ h;rcases Ad h with ⟨q3,h⟩ | ⟨q3,h⟩
  ·refine Aa 9 ?_;refine rz0 (ai a0) ?_;refine rz0 (.bool (a0==8)) ?_;refine rz0 (.bool (a0==8)) ?_;refine zs q3 ?_;refine zs q3 ?_;refine rs0 (.bool true) (zT q3) ?_;refine rsB 1 ?_;refine An (tn_ ?_);obtain rfl:=zj h;exact ⟨_,Ac [],rfl⟩
  refine Aa 9 ?_;refine rz0 (ai a0) ?_;refine rz0 (.bool (a0==8)) ?_;refine rz0 (.bool (a0==8)) ?_;refine rs0 (ai a0) (zg q3) ?_;refine rs0 (.bool (a0==14)) (zg q3) ?_;refine rs0 (.bool (a0==14)) (zF q3) ?_;refine rsB 1 ?_;refine An (tn_ ?_);obtain rfl:=zj h;exact ⟨_,Ac [],rfl⟩
 rintro l2_m2 _ rfl h
 (try dsimp only at h);refine Ah ?_;obtain rfl:=zj h;exact A0 [.bool l2_m2] (Ap rfl zl As)
def H1:AC :=
 (.seq (rg [xo 15 (qb .lss (tm 14) (tm 13))])
 (.seq (.cond (tm 15)
  .skip
  (.exit 0))
 (.seq (.block 1 (.seq (rg [xo 16 (qx 3 (tm 12) (tm 14)),xo 17 (.i (.ld false 3 (tm 16))),⟨some 6,none,.i (.alloc 81 [.int .i64 0,.int .i64 0,.str ⟨#[]⟩])⟩,xn (.st false 3 (tm 6) (tm 17))])
 (.seq (rg [xo 18 (qf 0 (tm 6)),xo 19 (ql (tm 18)),xo 20 (qc 54 [tm 19] [[]])])
 (.cond (tm 20)
  (.seq (rg [xo 4 (qm (cb false))])
  .ret)
  .skip))))
 (rg [xo 21 (qb .add (tm 14) (ci 1)),xo 14 (qm (tm 21))]))))
def Jn:AC :=
 (.seq (rg [xo 2 (.i (.box 35 (tm 0))),xo 4 (qm (cb false))])
 (.seq (.seq (rg [xo 7 (.i (.ld false 1 (tm 2))),xo 8 (qm (tm 1)),⟨some 9,none,qc 53 [tm 7,tm 8] [[some (.pair .int (.pair .int .str))],[]]⟩,xo 10 (.i (.not (tm 9)))])
 (.cond (tm 10)
  (.seq (rg [xo 4 (qm (cb false))])
  .ret)
  .skip))
 (.seq (.seq (rg [xo 11 (qf 0 (tm 2)),xo 12 (ql (tm 11)),xo 13 (.i (.len (tm 12))),xo 14 (qm (ci 0))])
 (.block 0 (.loop H1)))
 (.seq (rg [xo 4 (qm (cb true))])
 .ret))))
def O8:List Res:=[.tmp 4]
theorem Ps:Am Tryz.prog Tryz.f30=some (Jn,O8):=by kernel_rfl
theorem Io:A5 Tryz.prog 30=true:=by kernel_rfl
def B9 (a0_0:List (Int×Int×ByteArray)) (l9_m14:Nat):Option (Ctl Nat (Ctl Unit Bool)) :=
 cond (decide (((l9_m14:Nat):Int)<((a0_0.length:Nat):Int)))
 (Option.bind (a0_0[l9_m14]?) fun x15 =>
 Option.bind (Id x15.1) fun y17 =>
 cond y17
  (some (Ctl.out (Ctl.out false)))
  (og (l9_m14+1<4611686018427387904) <|
  some (Ctl.next (l9_m14+1))))
 (some (Ctl.out (Ctl.next ())))
def Cv (a0_0:List (Int×Int×ByteArray)) (a1:Int):Option Bool :=
 Option.bind (Dj a0_0 a1) fun y4 =>
cond (!y4)
 (some false)
 (Do (A4 (fun s_:Nat=>B9 a0_0 s_) 4611686018427387904 0) fun _ =>
 some true)
def Oz (r:Bool):RV:=⟨false,[(false,[.sc (.bool r)])]⟩
theorem Ip {a0_0:List (Int×Int×ByteArray)} {a1:Int} {r:Bool} (h:Cv a0_0 a1=some r):Ax Tryz.prog Tab 30 [.agg [.tree (.pair .int (.pair .int .str)) a0_0],ai a1] (Oz r):=by
 refine Ar (by kernel_rfl) Tryz.func30 Ps (n:=22) (by kernel_rfl) (by simp) (tl:=[(0,.agg [.tree (.pair .int (.pair .int .str)) a0_0]),(1,ai a1)]) rfl ?_;unfold Jn;unfold Cv at h;refine Aj ?_;refine Ab ?_;refine Ab ?_;obtain ⟨y4,h4,h⟩:=Ae h;refine Aa 7 ?_;refine rzl (.agg [.tree (.pair .int (.pair .int .str)) a0_0]) ?_;refine rz0 (ai a1) ?_;refine zc (.bool y4) [] [.agg [.tree (.pair .int (.pair .int .str)) a0_0],ai a1] (Qv h4) ?_;refine rsB 1 ?_;refine An (tn_ ?_);refine wr_ ?_;rcases Ad h with ⟨q5,h⟩ | ⟨q5,h⟩
 ·refine Af q5 ?_;refine Aj ?_;refine Ah (tr_ ?_);obtain rfl:=zj h;exact A0 [.bool false] (Ap rfl zl As)
 refine Ag q5 ?_;refine Ai (tn_ ?_);refine wr_ ?_;refine Bh h (fun (_:Unit) S_=>S_=⟨Ao [],Ak (Aq []),2⟩) ?_ ?_
 ·intro v_ h hk7;refine Aj ?_;refine Al ?_;refine A3 h (fun (l9_m14:Nat) S_=>S_=⟨Ao [(12,.tree (.pair .int (.pair .int .str)) a0_0),(13,ai ((a0_0.length:Nat):Int)),(14,ai ((l9_m14:Nat):Int))],Ak (Aq []),2⟩) ⟨_,Ac [],rfl⟩ ?_;rintro n_ l9_m14 _ c_ rfl h hn9
  (try dsimp only at h);unfold B9 at h;unfold H1;refine Aj ?_;refine Ab ?_;rcases Ad h with ⟨q12,h⟩ | ⟨q12,h⟩
  ·have q12_:=of_decide_eq_true q12;refine Af q12 ?_;refine Ai (tn_ ?_);refine wr_ ?_;refine Ab ?_;refine Al ?_;refine Ab ?_;obtain ⟨x15,e15,h⟩:=Ae h;refine Aa 7 ?_;refine rs0 (.telt none (.pair .int (.pair .int .str)) x15 0) (zi (t:=.pair .int (.pair .int .str)) (xs:=a0_0) (k:=.i64) (m:=((l9_m14:Nat):Int)) (Ay _) e15) ?_;refine rsB 3 ?_;refine An (tn_ ?_);refine wr_ ?_;refine Ab ?_;obtain ⟨y17,h17,h⟩:=Ae h;refine Aa 10 ?_;refine rz0 (.box (oi 6 5) 0) ?_;refine rzl (ai x15.1) ?_;refine zc (.bool y17) [] [ai x15.1] (Yp h17) ?_;refine An (tn_ ?_);refine wr_ ?_;rcases Ad h with ⟨q18,h⟩ | ⟨q18,h⟩
   ·refine Af q18 ?_;refine Aj ?_;refine Ah (br_ (tr_ (tr_ (br_ (tr_ ?_)))));obtain rfl:=zj h;have h:=hn9
    (try dsimp only at h);obtain rfl:=zj h;have h:=hk7
    (try dsimp only at h);obtain rfl:=zj h;exact A0 [.bool false] (Ap rfl zl As)
   refine Ag q18 ?_;refine Ai (bn_ (tn_ ?_));refine wr_ ?_;obtain ⟨g20,h⟩:=Au h;refine Aa 12 ?_;refine rs0 (ai ((l9_m14+1:Nat):Int)) (za g20) ?_;refine rsB 1 ?_;refine An (tn_ ?_);obtain rfl:=zj h;exact ⟨l9_m14+1,_,Ac [],rfl,hn9⟩
  have q12_:=of_decide_eq_false q12;refine Ag q12 ?_;refine Az (te_ (te_ (be_ (tn_ ?_))));obtain rfl:=zj h;have h:=hn9
  (try dsimp only at h);obtain rfl:=zj h;exact ⟨(),_,rfl,Ac [],rfl⟩
 rintro _ _ rfl h
 (try dsimp only at h);refine Aj ?_;refine Ah ?_;obtain rfl:=zj h;exact A0 [.bool true] (Ap rfl zl As)
def Kd:AC :=
 (.seq (rg [xo 3 (.i (.box 38 (tm 1))),xo 4 (qm (cb false))])
 (.seq (.seq (rg [xo 7 (qf 0 (tm 3)),xo 8 (ql (tm 7)),xo 9 (qc 29 [tm 8] [[]]),xo 10 (.i (.not (tm 9))),xo 11 (qm (tm 10)),⟨some 12,some (11,false),qf 1 (tm 3)⟩,⟨some 13,some (11,false),.i (.ld false 1 (tm 12))⟩,⟨some 14,some (11,false),qm (tm 0)⟩,⟨some 15,some (11,false),qc 30 [tm 13,tm 14] [[some (.pair .int (.pair .int .str))],[]]⟩,⟨some 16,some (11,false),.i (.not (tm 15))⟩,xo 17 (.i (.pick (tm 11) (cb true) (tm 16))),xo 18 (qm (tm 17)),⟨some 19,some (18,false),qm (tm 0)⟩,⟨some 20,some (18,false),qf 2 (tm 3)⟩,⟨some 21,some (18,false),.i (.ld false 3 (tm 20))⟩,⟨some 22,some (18,false),qc 31 [tm 19,tm 21] [[],[none,none,some (.slice .int)]]⟩,⟨some 23,some (18,false),.i (.not (tm 22))⟩,xo 24 (.i (.pick (tm 18) (cb true) (tm 23)))])
 (.cond (tm 24)
  (.seq (rg [xo 4 (qm (cb false))])
  .ret)
  .skip))
 (.seq (rg [xo 26 (qf 1 (tm 3)),xo 27 (.i (.ld false 1 (tm 26))),⟨some 28,none,qc 32 [tm 27] [[some (.pair .int (.pair .int .str))]]⟩,xo 25 (qm (tm 28)),xo 29 (.i (.extr 0 (tm 25))),xo 30 (.i (.extr 1 (tm 25))),xo 5 (.i (.alloc 63 [.int .i64 0,.int .i64 0])),xn (.st false 2 (tm 5) (tm 29)),xo 6 (qm (tm 30))])
 (.seq (rg [xo 31 (.i (.ld false 2 (tm 5))),xo 32 (qf 2 (tm 3)),xo 33 (qf 0 (tm 32)),xo 34 (ql (tm 33)),xo 35 (qf 2 (tm 3)),xo 36 (qf 1 (tm 35)),xo 37 (ql (tm 36)),xo 38 (.build [.int .i64 0,.int .i64 0] [(0,1,tm 34),(1,1,tm 37)]),xo 39 (.i (.cmp false 5 (tm 31) (tm 38))),xo 4 (qm (tm 39))])
 .ret))))
def Sv:List Res:=[.tmp 4]
theorem S8:Am Tryz.prog Tryz.f15=some (Kd,Sv):=by kernel_rfl
theorem Qs:A5 Tryz.prog 15=true:=by kernel_rfl
def Cp (a0:Int) (a1_0:ByteArray) (a1_1:List (Int×Int×ByteArray)) (a1_2:Int) (a1_3:Int) (a1_4:List (List Int)):Option Bool :=
 Option.bind (Option.bind (Hr a1_0) fun y4 =>
 cond (!y4)
  (some true)
  (Option.bind (Cv a1_1 a0) fun y6 =>
  cond (!y6)
   (some true)
   (Option.bind (D5 a0 a1_2 a1_3 a1_4) fun y8 =>
   some (!y8)))) fun l3_m24 =>
cond l3_m24
 (some false)
 (Option.bind (Cy a1_1) fun y12 =>
 some ([y12.1,y12.2.1]==[a1_2,a1_3]))
def Q5 (r:Bool):RV:=⟨false,[(false,[.sc (.bool r)])]⟩
theorem G7 {a0:Int} {a1_0:ByteArray} {a1_1:List (Int×Int×ByteArray)} {a1_2:Int} {a1_3:Int} {a1_4:List (List Int)} {r:Bool} (h:Cp a0 a1_0 a1_1 a1_2 a1_3 a1_4=some r):Ax Tryz.prog Tab 15 [ai a0,.agg [.str a1_0,.tree (.pair .int (.pair .int .str)) a1_1,ai a1_2,ai a1_3,.tree (.slice .int) a1_4]] (Q5 r):=by
 refine Ar (by kernel_rfl) Tryz.func15 S8 (n:=40) (by kernel_rfl) (by simp) (tl:=[(0,ai a0),(1,.agg [.str a1_0,.tree (.pair .int (.pair .int .str)) a1_1,ai a1_2,ai a1_3,.tree (.slice .int) a1_4])]) rfl ?_;unfold Kd;unfold Cp at h;refine Aj ?_;refine Ab ?_;refine Aw h (fun (l3_m24:Bool) S_=>S_=⟨Ao [(3,.box (oi 0 1) 0),(24,.bool l3_m24)],Ak (Aq [(oi 0 1,.cells 38 [.str a1_0,.tree (.pair .int (.pair .int .str)) a1_1,ai a1_2,ai a1_3,.tree (.slice .int) a1_4])]),2⟩) ?_ ?_
 ·intro v_ h;obtain ⟨y4,h4,h⟩:=Ae h;rcases Ad h with ⟨q5,h⟩ | ⟨q5,h⟩
  ·refine Aa 21 ?_;refine rz0 (.box (oi 3 1) 0) ?_;refine rzl (.str a1_0) ?_;refine zc (.bool y4) [] [.str a1_0] (Le h4) ?_;refine rz0 (.bool (!y4)) ?_;refine rz0 (.bool (!y4)) ?_;refine zs q5 ?_;refine zs q5 ?_;refine zs q5 ?_;refine zs q5 ?_;refine zs q5 ?_;refine rs0 (.bool true) (zT q5) ?_;refine rsB 7 ?_;refine An (tn_ ?_);obtain rfl:=zj h;exact ⟨_,Ac [(oi 0 1,oi 3 1)],rfl⟩
  obtain ⟨y6,h6,h⟩:=Ae h;rcases Ad h with ⟨q7,h⟩ | ⟨q7,h⟩
  ·refine Aa 21 ?_;refine rz0 (.box (oi 3 1) 0) ?_;refine rzl (.str a1_0) ?_;refine zc (.bool y4) [] [.str a1_0] (Le h4) ?_;refine rz0 (.bool (!y4)) ?_;refine rz0 (.bool (!y4)) ?_;refine rs0 (.box (oi 3 1) 1) (zg q5) ?_;refine rsl (.agg [.tree (.pair .int (.pair .int .str)) a1_1]) (zg q5) ?_;refine rs0 (ai a0) (zg q5) ?_;refine Bs (.bool y6) [] [.agg [.tree (.pair .int (.pair .int .str)) a1_1],ai a0] _ (caps:=[]) (args0:=[.agg [.tree (.pair .int (.pair .int .str)) a1_1],ai a0]) (Bf (by kernel_rfl) q5) (by kernel_rfl) (Ip h6) Io ?_;refine rs0 (.bool (!y6)) (zg q5) ?_;refine rs0 (.bool (!y6)) (zF q5) ?_;refine rz0 (.bool (!y6)) ?_;refine zs q7 ?_;refine zs q7 ?_;refine zs q7 ?_;refine zs q7 ?_;refine zs q7 ?_;refine rs0 (.bool true) (zT q7) ?_;refine An (tn_ ?_);obtain rfl:=zj h;exact ⟨_,Ac [(oi 0 1,oi 3 1)],rfl⟩
  obtain ⟨y8,h8,h⟩:=Ae h;refine Aa 21 ?_;refine rz0 (.box (oi 3 1) 0) ?_;refine rzl (.str a1_0) ?_;refine zc (.bool y4) [] [.str a1_0] (Le h4) ?_;refine rz0 (.bool (!y4)) ?_;refine rz0 (.bool (!y4)) ?_;refine rs0 (.box (oi 3 1) 1) (zg q5) ?_;refine rsl (.agg [.tree (.pair .int (.pair .int .str)) a1_1]) (zg q5) ?_;refine rs0 (ai a0) (zg q5) ?_;refine Bs (.bool y6) [] [.agg [.tree (.pair .int (.pair .int .str)) a1_1],ai a0] _ (caps:=[]) (args0:=[.agg [.tree (.pair .int (.pair .int .str)) a1_1],ai a0]) (Bf (by kernel_rfl) q5) (by kernel_rfl) (Ip h6) Io ?_;refine rs0 (.bool (!y6)) (zg q5) ?_;refine rs0 (.bool (!y6)) (zF q5) ?_;refine rz0 (.bool (!y6)) ?_;refine rs0 (ai a0) (zg q7) ?_;refine rs0 (.box (oi 3 1) 2) (zg q7) ?_;refine rsl (.agg [ai a1_2,ai a1_3,.tree (.slice .int) a1_4]) (zg q7) ?_;refine Bs (.bool y8) [] [ai a0,.agg [ai a1_2,ai a1_3,.tree (.slice .int) a1_4]] _ (caps:=[]) (args0:=[ai a0,.agg [ai a1_2,ai a1_3,.tree (.slice .int) a1_4]]) (Bf (by kernel_rfl) q7) (by kernel_rfl) (Sh h8) Ua ?_;refine rs0 (.bool (!y8)) (zg q7) ?_;refine rs0 (.bool (!y8)) (zF q7) ?_;refine An (tn_ ?_);obtain rfl:=zj h;exact ⟨_,Ac [(oi 0 1,oi 3 1)],rfl⟩
 rintro l3_m24 _ rfl h
 (try dsimp only at h);rcases Ad h with ⟨q9,h⟩ | ⟨q9,h⟩
 ·refine Af q9 ?_;refine Aj ?_;refine Ah (tr_ ?_);obtain rfl:=zj h;exact A0 [.bool false] (Ap rfl zl As)
 refine Ag q9 ?_;refine Ai (tn_ ?_);refine wr_ ?_;refine Ab ?_;obtain ⟨y12,h12,h⟩:=Ae h;refine Aa 11 ?_;refine rz0 (.box (oi 0 1) 1) ?_;refine rzl (.agg [.tree (.pair .int (.pair .int .str)) a1_1]) ?_;refine zc (.tup [.agg [ai y12.1,ai y12.2.1],.bool y12.2.2]) [] [.agg [.tree (.pair .int (.pair .int .str)) a1_1]] (Kj h12) ?_;refine rsB 6 ?_;refine An (tn_ ?_);refine wr_ ?_;refine Aj ?_;refine Ah ?_;obtain rfl:=zj h;exact A0 [.bool ([y12.1,y12.2.1]==[a1_2,a1_3])] (Ap rfl zl As)
end
end Go.Proofs.YtodopnonpadpfaaGreatDoor
