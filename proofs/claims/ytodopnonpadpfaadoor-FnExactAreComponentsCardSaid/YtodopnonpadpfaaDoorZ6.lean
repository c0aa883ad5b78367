/- Lemmas on the program and on partial functions that stand in place of its code (part 6); no condition beyond those that each one states. -/
import Derived.Test.YtodopnonpadpfaaDoorZ5
namespace Go.Proofs.YtodopnonpadpfaaDoor
section
open Go.RowKit Go.Deep
theorem gw3 (w:World):Calls Tryd.prog 79 #[.int .i64 3] w fun e w'=>e=.returned (.agg #[.int .i64 1,.int .i64 2])∧Below w.heap.size w w':=by
 go_enter Tryd.func79,Tryd.ntmps79
 go_wp2
 refine bodyPost_ret (v:=.agg #[.int .i64 1,.int .i64 2]) (by simp [results,Tryd.results79,go_sem]) rfl ⟨rfl,?_⟩;exact (by repeat (first | with_reducible exact Below.refl _ _ | ((with_reducible refine Below.setCell ?_ ?_ _); rotate_left; focus (first | (simp; done) | omega | (simp; omega))) | ((with_reducible refine Below.alloc ?_ ?_ _); rotate_left; focus (first | (simp; done) | omega | (simp; omega))) | (with_reducible refine Below.drew ?_) | (with_reducible refine B6 ?_ _)))
theorem gw4 (w:World):Calls Tryd.prog 79 #[.int .i64 4] w fun e w'=>e=.returned (.agg #[.int .i64 1,.int .i64 0])∧Below w.heap.size w w':=by
 go_enter Tryd.func79,Tryd.ntmps79
 go_wp2
 refine bodyPost_ret (v:=.agg #[.int .i64 1,.int .i64 0]) (by simp [results,Tryd.results79,go_sem]) rfl ⟨rfl,?_⟩;exact (by repeat (first | with_reducible exact Below.refl _ _ | ((with_reducible refine Below.setCell ?_ ?_ _); rotate_left; focus (first | (simp; done) | omega | (simp; omega))) | ((with_reducible refine Below.alloc ?_ ?_ _); rotate_left; focus (first | (simp; done) | omega | (simp; omega))) | (with_reducible refine Below.drew ?_) | (with_reducible refine B6 ?_ _)))
theorem gw5 (w:World):Calls Tryd.prog 79 #[.int .i64 5] w fun e w'=>e=.returned (.agg #[.int .i64 2,.int .i64 1])∧Below w.heap.size w w':=by
 go_enter Tryd.func79,Tryd.ntmps79
 go_wp2
 refine bodyPost_ret (v:=.agg #[.int .i64 2,.int .i64 1]) (by simp [results,Tryd.results79,go_sem]) rfl ⟨rfl,?_⟩;exact (by repeat (first | with_reducible exact Below.refl _ _ | ((with_reducible refine Below.setCell ?_ ?_ _); rotate_left; focus (first | (simp; done) | omega | (simp; omega))) | ((with_reducible refine Below.alloc ?_ ?_ _); rotate_left; focus (first | (simp; done) | omega | (simp; omega))) | (with_reducible refine Below.drew ?_) | (with_reducible refine B6 ?_ _)))
theorem gw6 (w:World):Calls Tryd.prog 79 #[.int .i64 6] w fun e w'=>e=.returned (.agg #[.int .i64 0,.int .i64 1])∧Below w.heap.size w w':=by
 go_enter Tryd.func79,Tryd.ntmps79
 go_wp2
 refine bodyPost_ret (v:=.agg #[.int .i64 0,.int .i64 1]) (by simp [results,Tryd.results79,go_sem]) rfl ⟨rfl,?_⟩;exact (by repeat (first | with_reducible exact Below.refl _ _ | ((with_reducible refine Below.setCell ?_ ?_ _); rotate_left; focus (first | (simp; done) | omega | (simp; omega))) | ((with_reducible refine Below.alloc ?_ ?_ _); rotate_left; focus (first | (simp; done) | omega | (simp; omega))) | (with_reducible refine Below.drew ?_) | (with_reducible refine B6 ?_ _)))
theorem gw7 (w:World):Calls Tryd.prog 79 #[.int .i64 7] w fun e w'=>e=.returned (.agg #[.int .i64 1,.int .i64 1])∧Below w.heap.size w w':=by
 go_enter Tryd.func79,Tryd.ntmps79
 go_wp2
 refine bodyPost_ret (v:=.agg #[.int .i64 1,.int .i64 1]) (by simp [results,Tryd.results79,go_sem]) rfl ⟨rfl,?_⟩;exact (by repeat (first | with_reducible exact Below.refl _ _ | ((with_reducible refine Below.setCell ?_ ?_ _); rotate_left; focus (first | (simp; done) | omega | (simp; omega))) | ((with_reducible refine Below.alloc ?_ ?_ _); rotate_left; focus (first | (simp; done) | omega | (simp; omega))) | (with_reducible refine Below.drew ?_) | (with_reducible refine B6 ?_ _)))
theorem gw8 (w:World):Calls Tryd.prog 79 #[.int .i64 8] w fun e w'=>e=.returned (.agg #[.int .i64 1,.int .i64 1])∧Below w.heap.size w w':=by
 go_enter Tryd.func79,Tryd.ntmps79
 go_wp2
 refine bodyPost_ret (v:=.agg #[.int .i64 1,.int .i64 1]) (by simp [results,Tryd.results79,go_sem]) rfl ⟨rfl,?_⟩;exact (by repeat (first | with_reducible exact Below.refl _ _ | ((with_reducible refine Below.setCell ?_ ?_ _); rotate_left; focus (first | (simp; done) | omega | (simp; omega))) | ((with_reducible refine Below.alloc ?_ ?_ _); rotate_left; focus (first | (simp; done) | omega | (simp; omega))) | (with_reducible refine Below.drew ?_) | (with_reducible refine B6 ?_ _)))
theorem gw9 (w:World):Calls Tryd.prog 79 #[.int .i64 9] w fun e w'=>e=.returned (.agg #[.int .i64 2,.int .i64 1])∧Below w.heap.size w w':=by
 go_enter Tryd.func79,Tryd.ntmps79
 go_wp2
 refine bodyPost_ret (v:=.agg #[.int .i64 2,.int .i64 1]) (by simp [results,Tryd.results79,go_sem]) rfl ⟨rfl,?_⟩;exact (by repeat (first | with_reducible exact Below.refl _ _ | ((with_reducible refine Below.setCell ?_ ?_ _); rotate_left; focus (first | (simp; done) | omega | (simp; omega))) | ((with_reducible refine Below.alloc ?_ ?_ _); rotate_left; focus (first | (simp; done) | omega | (simp; omega))) | (with_reducible refine Below.drew ?_) | (with_reducible refine B6 ?_ _)))
theorem Avh (w:World):Calls Tryd.prog 79 #[.int .i64 10] w fun e w'=>e=.returned (.agg #[.int .i64 0,.int .i64 1])∧Below w.heap.size w w':=by
 go_enter Tryd.func79,Tryd.ntmps79
 go_wp2
 refine bodyPost_ret (v:=.agg #[.int .i64 0,.int .i64 1]) (by simp [results,Tryd.results79,go_sem]) rfl ⟨rfl,?_⟩;exact (by repeat (first | with_reducible exact Below.refl _ _ | ((with_reducible refine Below.setCell ?_ ?_ _); rotate_left; focus (first | (simp; done) | omega | (simp; omega))) | ((with_reducible refine Below.alloc ?_ ?_ _); rotate_left; focus (first | (simp; done) | omega | (simp; omega))) | (with_reducible refine Below.drew ?_) | (with_reducible refine B6 ?_ _)))
theorem Avd (w:World):Calls Tryd.prog 79 #[.int .i64 11] w fun e w'=>e=.returned (.agg #[.int .i64 1,.int .i64 2])∧Below w.heap.size w w':=by
 go_enter Tryd.func79,Tryd.ntmps79
 go_wp2
 refine bodyPost_ret (v:=.agg #[.int .i64 1,.int .i64 2]) (by simp [results,Tryd.results79,go_sem]) rfl ⟨rfl,?_⟩;exact (by repeat (first | with_reducible exact Below.refl _ _ | ((with_reducible refine Below.setCell ?_ ?_ _); rotate_left; focus (first | (simp; done) | omega | (simp; omega))) | ((with_reducible refine Below.alloc ?_ ?_ _); rotate_left; focus (first | (simp; done) | omega | (simp; omega))) | (with_reducible refine Below.drew ?_) | (with_reducible refine B6 ?_ _)))
theorem Ave (w:World):Calls Tryd.prog 79 #[.int .i64 12] w fun e w'=>e=.returned (.agg #[.int .i64 1,.int .i64 0])∧Below w.heap.size w w':=by
 go_enter Tryd.func79,Tryd.ntmps79
 go_wp2
 refine bodyPost_ret (v:=.agg #[.int .i64 1,.int .i64 0]) (by simp [results,Tryd.results79,go_sem]) rfl ⟨rfl,?_⟩;exact (by repeat (first | with_reducible exact Below.refl _ _ | ((with_reducible refine Below.setCell ?_ ?_ _); rotate_left; focus (first | (simp; done) | omega | (simp; omega))) | ((with_reducible refine Below.alloc ?_ ?_ _); rotate_left; focus (first | (simp; done) | omega | (simp; omega))) | (with_reducible refine Below.drew ?_) | (with_reducible refine B6 ?_ _)))
theorem Avf (w:World):Calls Tryd.prog 79 #[.int .i64 13] w fun e w'=>e=.returned (.agg #[.int .i64 1,.int .i64 1])∧Below w.heap.size w w':=by
 go_enter Tryd.func79,Tryd.ntmps79
 go_wp2
 refine bodyPost_ret (v:=.agg #[.int .i64 1,.int .i64 1]) (by simp [results,Tryd.results79,go_sem]) rfl ⟨rfl,?_⟩;exact (by repeat (first | with_reducible exact Below.refl _ _ | ((with_reducible refine Below.setCell ?_ ?_ _); rotate_left; focus (first | (simp; done) | omega | (simp; omega))) | ((with_reducible refine Below.alloc ?_ ?_ _); rotate_left; focus (first | (simp; done) | omega | (simp; omega))) | (with_reducible refine Below.drew ?_) | (with_reducible refine B6 ?_ _)))
theorem Avc (w:World):Calls Tryd.prog 79 #[.int .i64 14] w fun e w'=>e=.returned (.agg #[.int .i64 1,.int .i64 1])∧Below w.heap.size w w':=by
 go_enter Tryd.func79,Tryd.ntmps79
 go_wp2
 refine bodyPost_ret (v:=.agg #[.int .i64 1,.int .i64 1]) (by simp [results,Tryd.results79,go_sem]) rfl ⟨rfl,?_⟩;exact (by repeat (first | with_reducible exact Below.refl _ _ | ((with_reducible refine Below.setCell ?_ ?_ _); rotate_left; focus (first | (simp; done) | omega | (simp; omega))) | ((with_reducible refine Below.alloc ?_ ?_ _); rotate_left; focus (first | (simp; done) | omega | (simp; omega))) | (with_reducible refine Below.drew ?_) | (with_reducible refine B6 ?_ _)))
def gwV (k:Int):Int×Int:=if k=3 then (1,2) else if k=4 then (1,0) else if k=5 then (2,1) else if k=6 then (0,1) else if k=9 then (2,1) else if k=10 then (0,1) else if k=11 then (1,2) else if k=12 then (1,0) else (1,1)
def Fy (a0:Int):Option (Int×Int):=og (3<=a0∧a0<=14) (some (gwV a0))
def Np (r:Int×Int):RV:=⟨false,[(true,[.sc (.int .i64 r.1),.sc (.int .i64 r.2)])]⟩
theorem Nn:A8 Tryd.prog 79=true:=by kernel_rfl
theorem Atx (k:Int) (h:3<=k∧k<=14) (w:World):Calls Tryd.prog 79 #[.int .i64 k] w fun e w'=>e=.returned (.agg #[.int .i64 (gwV k).1,.int .i64 (gwV k).2])∧Below w.heap.size w w':=by
 have hk:k=3∨k=4∨k=5∨k=6∨k=7∨k=8∨k=9∨k=10∨k=11∨k=12∨k=13∨k=14:=by omega
 rcases hk with rfl | rfl | rfl | rfl | rfl | rfl | rfl | rfl | rfl | rfl | rfl | rfl
 ·exact gw3 w
 ·exact gw4 w
 ·exact gw5 w
 ·exact gw6 w
 ·exact gw7 w
 ·exact gw8 w
 ·exact gw9 w
 ·exact Avh w
 ·exact Avd w
 ·exact Ave w
 ·exact Avf w
 ·exact Avc w
theorem Nq {a0:Int} {r:Int×Int} (h:Fy a0=some r):Aw Tryd.prog Tab 79 [.int .i64 a0] (Np r):=by
 obtain ⟨hb,h⟩:=Av h;obtain rfl:=osj h;intro w im vs hG hr;obtain ⟨u1,_,rfl,h1,h2⟩:=hr;obtain rfl:_=[]:=h2;obtain rfl:u1=.int .i64 a0:=h1;refine (Atx a0 hb w).mono ?_;rintro e w' ⟨rfl,hw⟩;exact ⟨_,rfl,hw,[_,_],[],⟨_,_,rfl,rfl,rfl,_,_,rfl,rfl,rfl,rfl,rfl⟩,⟨trivial,fun _=>rfl⟩,rfl⟩
end
section
open Go.RowKit Go.Deep
end
section
open Go.RowKit Go.Deep
def GN (G:World->Prop) (n:Nat) (w:World):Prop:=G w∧n<=w.heap.size
def AV.toR (R:Nat->Prop):AV->AV
 | .tree t xs=>.ftr R t xs
 | c=>c
def RL.toR (R:Nat->Prop):RL->RL
 | .frz c=>.frz (c.toR R)
 | .imm c=>.imm (c.toR R)
 | l=>l
def RV.toR (R:Nat->Prop) (r:RV):RV:=⟨r.tup,r.ps.map fun p=>(p.1,p.2.map (RL.toR R))⟩
section
variable {P:Program} {G:World->Prop} {f:FuncId} {args:List AV} {r:RV} {n:Nat} {R:Nat->Prop}
theorem Au4 (h:Aw P G f args r):Aw P (GN G n) f args r:=fun w im vs hG hr=>h w im vs (fun w' hb=>(hG w' hb).1) hr
theorem Aup {ol us:List (Oid×Ob)} {v:AV} (h:Id P G f args ol v us):Id P (GN G n) f args ol v us:=by
 intro θ i w0 ob σ K w vs hM h1 h2 h3 h4 h5;refine (h θ i w0 ob σ K w vs ⟨hM.below,fun w' hb=>(hM.inv w' hb).1,hM.gen,hM.lt,hM.cap,hM.inj,hM.obs⟩ h1 h2 h3 h4 h5).mono ?_;rintro e w' ⟨u,rfl,σ',q1,q2,q3⟩;exact ⟨u,rfl,σ',q1,⟨q2.below,hM.inv,q2.gen,q2.lt,q2.cap,q2.inj,q2.obs⟩,q3⟩
theorem Amm {c:AV} (h:c.gndB=true):(c.toR R).gndB=true:=by
 cases c <;> first | exact h | rfl
theorem Ams {c:AV} {im im':Nat->Prop} {w:World} {u:Value} (hg:c.gndB=true) (h1:∀ b,im b->im' b) (h2:∀ b,im b->R b) (h:AV.Rep (fun _=>none) im w c u):AV.Rep (fun _=>none) im' w (c.toR R) u:=by
 cases c <;> first | exact Kp h1 _ hg _ h | skip
 obtain ⟨A,c,l,e,hs⟩:=h;exact ⟨A,c,l,e,B0 (fun b _ hb=>⟨h1 b hb,h2 b hb⟩) hs⟩
theorem I7 {lo:Nat} {im im':Nat->Prop} {vs:List Value} {w:World} (hR:∀ b,lo<=b->R b) (him:∀ b,im' b->im b):∀ {rs:List RL} {us:List Value} {ls:List Loc},(∀ l∈rs,l.isI=true->∀ b,im' b->R b)->RL.RepL lo im' vs w rs us ls->RL.RepL lo im vs w (rs.map (RL.toR R)) us ls
 | [],_,_,_,h=>h
 | .sc c :: _,_,_,hI,⟨u,us',e,q1,q2,q3⟩=>⟨u,us',e,(by cases c <;> first | exact q1 | cases q2),q2,I7 hR him (fun l hl=>hI l (List.mem_cons_of_mem _ hl)) q3⟩
 | .new _ _ _ :: _,_,_,hI,⟨l,ls',us',e1,e2,q1,q2,q3,q4⟩=>⟨l,ls',us',e1,e2,q1,q2,q3,I7 hR him (fun l hl=>hI l (List.mem_cons_of_mem _ hl)) q4⟩
 | .newM _ _ _ _ :: _,_,_,hI,⟨l,kl,ls',us',ks,e1,e2,q,q4⟩=>⟨l,kl,ls',us',ks,e1,e2,q,I7 hR him (fun l hl=>hI l (List.mem_cons_of_mem _ hl)) q4⟩
 | .arg _ _ :: _,_,_,hI,⟨u,us',e,q1,q3⟩=>⟨u,us',e,q1,I7 hR him (fun l hl=>hI l (List.mem_cons_of_mem _ hl)) q3⟩
 | .argS _ _ _ _ _ :: _,_,_,hI,⟨A,m,c,us',e,q1,q3⟩=>⟨A,m,c,us',e,q1,I7 hR him (fun l hl=>hI l (List.mem_cons_of_mem _ hl)) q3⟩
 | .frz c :: _,_,_,hI,⟨u,us',e,q1,q2,q3⟩=>⟨u,us',e,Ams q2 (fun _ h=>h) (fun b hb=>hR b hb) q1,Amm q2,I7 hR him (fun l hl=>hI l (List.mem_cons_of_mem _ hl)) q3⟩
 | .imm c :: _,_,_,hI,⟨u,us',e,q1,q2,q3⟩=>⟨u,us',e,Ams q2 (fun b hb=>hb.imp (him b) id) (fun b hb=>hb.elim (hI _ List.mem_cons_self rfl b) (hR b)) q1,Amm q2,I7 hR him (fun l hl=>hI l (List.mem_cons_of_mem _ hl)) q3⟩
theorem Zi:∀ (ps:List (Bool×List RL)) (us:List Value),Hq (ps.map fun p=>(p.1,p.2.map (RL.toR R))) us=Hq ps us
 | [],_=>rfl
 | (b,rs) :: ps,us=>by simp only [List.map_cons,Hq,List.length_map,Zi ps]
theorem Abt (r:RV):(r.toR R).leaves=r.leaves.map (RL.toR R):=by
 simp only [RV.leaves,RV.toR,List.flatMap_map,List.map_flatMap]
theorem Atb (l:RL):(l.toR R).fi=l.fi:=by cases l <;> rfl
theorem Aq7 {lo:Nat} {im im':Nat->Prop} {vs:List Value} {w:World} {u:Value} (hR:∀ b,lo<=b->R b) (him:∀ b,im' b->im b) (hI:(∃ l∈r.leaves,l.isI=true)->∀ b,im' b->R b) (h:r.Rep lo im' vs w u):(r.toR R).Rep lo im vs w u:=by
 obtain ⟨us,ls,q1,⟨q2,q3⟩,q4⟩:=h;refine ⟨us,ls,by rw [Abt]; exact I7 hR him (fun l hl hi=>hI ⟨l,hl,hi⟩) q1,⟨q2,fun ⟨c,hc,hd⟩=>q3 ?_⟩,?_⟩
 ·rw [Abt] at hc;obtain ⟨l,hl,e⟩:=List.mem_map.1 hc;subst e;rw [Atb] at hd;exact ⟨l,hl,hd⟩
 ·rw [q4]; simp only [RV.toR,Zi]
theorem Au5 (hR:∀ b,n<=b->R b) (h:Aw P G f args r) (hni:r.noI=true:=by kernel_rfl):Aw P (GN G n) f args (r.toR R):=by
 intro w im vs hG hr;have hn:n<=w.heap.size:=(hG w (Below.refl _ _)).2;refine (h w im vs (fun w' hb=>(hG w' hb).1) hr).mono ?_;rintro e w' ⟨u,rfl,hb,hrv⟩;refine ⟨u,rfl,hb,Aq7 (fun b hb=>hR b (Nat.le_trans hn hb)) (fun _ h=>h) (fun ⟨l,hl,hi⟩=>?_) hrv⟩;have:=List.all_eq_true.1 hni l hl;rw [hi] at this; cases this
mutual
def AV.unR (R:Nat->Prop):AV->AV->Prop
 | .tree t xs,d=>d=.ftr R t xs
 | .agg cs,d=>∃ ds,d=.agg ds∧AV.unRL R cs ds
 | c,d=>c.scal=true∧d=c
def AV.unRL (R:Nat->Prop):List AV->List AV->Prop
 | [],ds=>ds=[]
 | c :: cs,ds=>∃ d ds',ds=d :: ds'∧AV.unR R c d∧AV.unRL R cs ds'
end
mutual
theorem Ase {im:Nat->Prop} {w:World}:∀ (c d:AV) (u:Value),AV.unR R c d->AV.Rep (fun _=>none) im w d u->AV.Rep (fun _=>none) (fun b=>im b∧R b) w c u
 | .tree t xs,d,u,h,hr=>by
  have h:d=.ftr R t xs:=h;subst h;exact hr
 | .agg cs,d,u,⟨ds,e,h⟩,hr=>by
  subst e;obtain ⟨us,e,hr⟩:=hr;exact ⟨us,e,Ajb cs ds us h hr⟩
 | .int ..,d,u,⟨_,e⟩,hr=>by subst e; exact hr
 | .bool ..,d,u,⟨_,e⟩,hr=>by subst e; exact hr
 | .str ..,d,u,⟨_,e⟩,hr=>by subst e; exact hr
 | .nils,d,u,⟨_,e⟩,hr=>by subst e; exact hr
 | .any,d,u,⟨h,_⟩,_=>by cases h
 | .mtree ..,d,u,⟨h,_⟩,_=>by cases h
 | .ftr ..,d,u,⟨h,_⟩,_=>by cases h
 | .mp _,d,u,⟨h,_⟩,_=>by cases h
 | .tup _,d,u,⟨h,_⟩,_=>by cases h
 | .fn ..,d,u,⟨h,_⟩,_=>by cases h
 | .ref _,d,u,⟨h,_⟩,_=>by cases h
 | .own ..,d,u,⟨h,_⟩,_=>by cases h
 | .box ..,d,u,⟨h,_⟩,_=>by cases h
 | .elt ..,d,u,⟨h,_⟩,_=>by cases h
 | .sla ..,d,u,⟨h,_⟩,_=>by cases h
 | .telt ..,d,u,⟨h,_⟩,_=>by cases h
 | .giv ..,d,u,⟨h,_⟩,_=>by cases h
 | .abool ..,d,u,⟨h,_⟩,_=>by cases h
theorem Ajb {im:Nat->Prop} {w:World}:∀ (cs ds:List AV) (us:List Value),AV.unRL R cs ds->AV.RepL (fun _=>none) im w ds us->AV.RepL (fun _=>none) (fun b=>im b∧R b) w cs us
 | [],ds,us,h,hr=>by obtain rfl:ds=[]:=h; exact hr
 | c :: cs,ds,us,⟨d,ds',e,h1,h2⟩,hr=>by
  subst e;obtain ⟨u,us',e,r1,r2⟩:=hr;exact ⟨u,us',e,Ase c d u h1 r1,Ajb cs ds' us' h2 r2⟩
end
theorem Asa {p:Bool} {n:Nat} {d:Option Nat} {gd:Option (Nat×Bool)} {fo:Opd} {xs:List Opd} {tys:List (List (Option Ty))} {f:Nat->AV} {ob:Oid->Option Ob} {F:FuncId} {caps args:List AV} {rv:RV} {r:AV×List (Oid×Option Ob)}
  (hgd:Vg gd f) (hfo:fo.ev f=.fn F caps) (hg:AV.gndBL ((xs++caps.map Opd.cst).map (Opd.ev f))=true) (hn:Ov tys ((xs++caps.map Opd.cst).map (Opd.ev f))=args) (hb:A8 P F=true) (hc:Aw P G F args rv) (hr:rv.out (C8 ((d.getD 0,0),n)) ((xs++caps.map Opd.cst).map (Opd.ev f))=r) :
  Ei P G p n ⟨d,gd,.call fo xs tys⟩ f ob (1,r.1,r.2):=by
 subst hn;have key:EvR P G p f ob ((d.getD 0,0),n) (.call fo xs tys) (1,r.1,r.2):=.inr ⟨fo,xs,tys,F,caps,rfl,hfo,.inl ⟨rfl,hb,_,rv,.inr ⟨rfl,hg⟩,hc,hr⟩⟩;unfold Ei;cases gd with
 | none=>exact key
 | some sb=>exact ⟨true,Zl hgd,by rw [if_pos rfl]; exact key⟩
end
-- rows of things that nobody writes
theorem Hm (m:Option (Nat->Prop)):∀ (t:Ty) (x:t.D),(t.avM m x).length=t.size
 | .int,_ | .bool,_ | .str,_ | .slice _,_=>rfl
 | .pair a b,x=>by simp only [Ty.avM,List.length_append,Hm m a,Hm m b,Ty.size]
theorem Yk {m:Option (Nat->Prop)} {t:Ty} (xs:List t.D):(tvC m t xs).length=xs.length*t.size:=by
 unfold tvC
 induction xs with
 | nil=>simp
 | cons x xs ih=>rw [List.flatMap_cons,List.length_append,ih,Hm,List.length_cons,Nat.succ_mul]; omega
theorem Arq {m:Option (Nat->Prop)} {t:Ty} (xs ys:List t.D):tvC m t (xs++ys)=tvC m t xs++tvC m t ys:=by simp [tvC]
theorem Alm {ob:Oid->Option Ob} (m:Option (Nat->Prop)):∀ (t:Ty) (x:t.D),rdC ob t (t.avM m x)=some x
 | .int,_=>rfl
 | .bool,_=>rfl
 | .str,_=>rfl
 | .slice t,xs=>by
  have:E4 ob t (trM m t xs)=some xs:=by cases m <;> simp only [trM,E4,Ty.eq?_self,C3]
  simp only [Ty.avM,rdC,this]
 | .pair a b,x=>by
  have h1:(a.avM m x.1++b.avM m x.2).take a.size=a.avM m x.1:=List.take_left' (Hm m a x.1);have h2:(a.avM m x.1++b.avM m x.2).drop a.size=b.avM m x.2:=List.drop_left' (Hm m a x.1);simp only [Ty.avM,rdC,h1,h2,Alm m a,Alm m b]
theorem Afn {ob:Oid->Option Ob} {m:Option (Nat->Prop)} {t:Ty}:∀ (xs:List t.D),O4 (rdC ob t) t.size xs.length (tvC m t xs)=some xs
 | []=>rfl
 | x :: xs=>by
  have h1:(tvC m t (x :: xs)).take t.size=t.avM m x:=List.take_left' (Hm m t x);have h2:(tvC m t (x :: xs)).drop t.size=tvC m t xs:=List.drop_left' (Hm m t x);simp only [List.length_cons,O4,h1,h2,Alm,Afn xs]
section
variable {ob:Oid->Option Ob}
theorem Au6 {n len:Nat} {o:Oid} {e:TypeId} {m:Option (Nat->Prop)} {t:Ty} {xs:List t.D} (ho:ob o=some (.vec e t.size xs.length (tvC m t xs))) (hl:len=xs.length):gnd ob (n+1) (.own o t 0 len)=some (.tree t xs):=by
 subst hl
 have:Ah4 ob t.size (rdC ob t) (.own o t 0 xs.length)=some xs:=by
  simp only [Ah4,ho];rw [if_pos ⟨trivial,by omega⟩,Nat.zero_mul,List.drop_zero,List.take_of_length_le (by rw [Yk]; exact Nat.le_refl _)];exact Afn xs
 simp only [gnd,ho,this,Option.map_some]
end
theorem Aid {tl:List (Nat×AV)} {ol:List (Oid×Option Ob)} {g:Nat} (o:Oid) (e:TypeId) (m:Option (Nat->Prop)) (t:Ty) (xs:List t.D) {N:Nat} (h:Aj ol o=some (.vec e t.size N (tvC m t xs))) (hN:N=xs.length):Weak ⟨An tl,Aj ol,g⟩ ⟨An tl,Aj ((o,some (.tv e m t xs)) :: ol),g⟩:=by
 subst hN
 have:Aj ((o,some (.tv e m t xs)) :: ol)=Aj ol:=by
  funext i;show (if i=o then some (.vec e t.size xs.length (tvC m t xs)) else Aj ol i)=Aj ol i;by_cases hi:i=o
  ·rw [if_pos hi,hi,h]
  ·rw [if_neg hi]
 rw [this]; exact Weak.refl _
theorem Aj2 {tl:List (Nat×AV)} {ol:List (Oid×Option Ob)} {g:Nat} (s:Nat) (e:TypeId) (m:Option (Nat->Prop)) (t:Ty) (hs:An tl s=.nils):Weak ⟨An tl,Aj ol,g⟩ ⟨An ((s,.own ((s,0),g) t 0 0) :: tl),Aj ((((s,0),g),some (.tv e m t [])) :: ol),g+1⟩:=by
 have key:Weak ⟨An tl,Aj ol,g⟩ ⟨upd (An tl) s (.own ((s,0),g) t 0 0),upd (Aj ol) ((s,0),g) (some (.vec e t.size 0 [])),g+1⟩:=by
  intro G w0 B N a w hr;obtain ⟨σ,hm,hf,hB⟩:=hr.ex;obtain ⟨hL,hM⟩:=Aiq (e:=e) (sz:=t.size) (i:=((s,0),g)) hm rfl;refine ⟨⟨_,hM,fun u=>?_,hB.trans hL⟩,hr.size,hr.defers,fun i hi=>?_⟩
  ·simp only [upd];split
   ·rename_i eu;subst eu;have:=hf u;rw [show (St.tm ⟨An tl,Aj ol,g⟩) u=.nils from hs] at this;exact .inl ⟨Bc _ _ _,rfl,rfl,this⟩
   ·exact AV.Rep.later hL _ _ (hf u)
  ·show i.2<g+1;by_cases h:i=((s,0),g)
   ·subst h; show g<g+1; omega
   ·simp only [A5 _ _ _ _ h] at hi;have:i.2<g:=hr.obg i hi;omega
 rw [P7] at key;have e2:upd (Aj ol) ((s,0),g) (some (.vec e t.size 0 []))=Aj ((((s,0),g),some (.tv e m t [])) :: ol):=by rw [Jc rfl]; rfl
 rw [e2] at key;exact key
section
variable {n:Nat} {d:Option Nat} {f:Nat->AV} {ob:Oid->Option Ob}
theorem Aqz {x y:Opd} {o q:Oid} {e1 e2:TypeId} {t t' t2:Ty} {b len:Nat} {m:Option (Nat->Prop)} {xs:List t.D} {z:t.D} (hx:x.ev f=.own o t' 0 len) (hob:ob o=some (.vec e1 t.size xs.length (tvC m t xs))) (hl:len=xs.length) (hy:y.ev f=.own q t2 0 1) (hq:ob q=some (.vec e2 t.size 1 (tvC m t [z]))) (h:xs.length+1<=1073741824∧(xs.length+1)*b<=140737488355328) :
  Bb n ⟨d,none,.appV e1 t b x y⟩ f ob=some (2,.own (o.1,n) t 0 (xs.length+1),[(o,none),((o.1,n),some (.vec e1 t.size (xs.length+1) (tvC m t (xs++[z]))))]):=by
 subst hl;have h1:List.take (xs.length*t.size) (tvC m t xs)=tvC m t xs:=List.take_of_length_le (by rw [Yk]; exact Nat.le_refl _);have h2:List.take (1*t.size) (List.drop (0*t.size) (tvC m t [z]))=tvC m t [z]:=by rw [Nat.zero_mul,List.drop_zero]; exact List.take_of_length_le (by rw [Yk]; exact Nat.le_refl _)
 simp only [Bb,ev,Kj,hx,hy,Aiv,hq,hob,true_and,Nat.zero_add,Nat.le_refl,if_true,h1,h2,h.1,h.2,and_self,Arq]
end
-- results
inductive Aie (R:Nat->Prop) (ob:Oid->Option Ob):AV->AV->Prop
 | ftr {t:Ty} {xs:List t.D}:Aie R ob (.ftr R t xs) (.tree t xs)
 | nil {t:Ty}:Aie R ob .nils (.tree t [])
 | arr {i:Oid} {t u:Ty} {e:TypeId} {xs:List u.D} {len:Nat}:ob i=some (.arr e u xs)->len=xs.length->Aie R ob (.own i t 0 len) (.tree u xs)
 | mat {o p:Oid} {e1 e:TypeId} {u:Ty} {xss:List (List u.D)} {len:Nat}:ob o=some (.vec e1 1 xss.length (hdL p u xss))->(∀ k row,xss[k]? =some row->ob (kid p k)=some (.arr e u row))->len=xss.length->Aie R ob (.own o (.slice u) 0 len) (.tree (.slice u) xss)
 | tv {o:Oid} {e:TypeId} {t:Ty} {xs:List t.D} {len:Nat}:ob o=some (.vec e t.size xs.length (tvC (some R) t xs))->len=xs.length->Aie R ob (.own o t 0 len) (.tree t xs)
section
variable {G:World->Prop} {w0 w:World} {ob:Oid->Option Ob} {σ:Oid->Option Loc} {K:Nat->Prop}
theorem Ag2 {im im':Nat->Prop} {i:Oid} {t:Ty} {off len:Nat} {v:Value} (h:AV.Rep σ im w (.own i t off len) v):AV.Rep σ im' w (.own i t off len) v:=h
theorem Atr {im im':Nat->Prop} {p:Oid} {u:Ty} {xss:List (List u.D)} {vs:List Value} (h:AV.RepL σ im w (hdL p u xss) vs):AV.RepL σ im' w (hdL p u xss) vs:=by
 have key:∀ (l:List (List u.D×Nat)) (vs:List Value),AV.RepL σ im w (l.map fun x=>.own (kid p x.2) u 0 x.1.length) vs->AV.RepL σ im' w (l.map fun x=>.own (kid p x.2) u 0 x.1.length) vs:=by
  intro l
  induction l with
  | nil=>intro vs h; exact h
  | cons x l ih=>rintro vs ⟨v,vs',e,h1,h2⟩; exact ⟨v,vs',e,Ag2 h1,ih vs' h2⟩
 exact key _ _ h
theorem Alp {im R:Nat->Prop}:∀ (t:Ty) (x:t.D) (vs:List Value),AV.RepL σ im w (t.avM (some R) x) vs->AV.RepL σ R w (t.av x) vs
 | .int,_,_,⟨v,vs',e,h1,h2⟩=>⟨v,vs',e,h1,h2⟩
 | .bool,_,_,⟨v,vs',e,h1,h2⟩=>⟨v,vs',e,h1,h2⟩
 | .str,_,_,⟨v,vs',e,h1,h2⟩=>⟨v,vs',e,h1,h2⟩
 | .slice t,xs,_,⟨v,vs',e,⟨A,c,l,e1,hs⟩,h2⟩=>⟨v,vs',e,⟨A,c,l,e1,B0 (fun b _ hb=>hb.2) hs⟩,h2⟩
 | .pair a b,x,vs,h=>by
  have hl:=h.length;have h1:=h.take a.size;have h2:=h.drop a.size;have e1:((Ty.pair a b).avM (some R) x).take a.size=a.avM (some R) x.1:=List.take_left' (Hm _ a x.1);have e2:((Ty.pair a b).avM (some R) x).drop a.size=b.avM (some R) x.2:=List.drop_left' (Hm _ a x.1);rw [e1] at h1;rw [e2] at h2;have:=(Alp a x.1 _ h1).append (Alp b x.2 _ h2);rw [List.take_append_drop] at this;exact this
theorem Aox {im R:Nat->Prop} {t:Ty}:∀ (xs:List t.D) (vs:List Value),AV.RepL σ im w (tvC (some R) t xs) vs->AV.RepL σ R w (tvC none t xs) vs
 | [],_,h=>h
 | x :: xs,vs,h=>by
  have h1:=h.take t.size;have h2:=h.drop t.size;have e1:(tvC (some R) t (x :: xs)).take t.size=t.avM (some R) x:=List.take_left' (Hm _ t x);have e2:(tvC (some R) t (x :: xs)).drop t.size=tvC (some R) t xs:=List.drop_left' (Hm _ t x);rw [e1] at h1;rw [e2] at h2
  have hav:∀ (t:Ty) (x:t.D),t.avM none x=t.av x:=by
   intro t
   induction t with
   | pair a b ha hb=>intro x; simp only [Ty.avM,Ty.av,ha,hb]
   | _=>intro x; rfl
  have h1':=Alp t x _ h1;rw [← hav] at h1';have:=h1'.append (Aox xs _ h2);rw [List.take_append_drop] at this;exact this
theorem Api {R:Nat->Prop} (hM:Mem0 G w0 ob σ K w) (hR:∀ b,w0.heap.size<=b->R b) {c d:AV} {v:Value} (h:Aie R ob c d) (hr:AV.Rep σ (imm ob σ) w c v):AV.Rep (fun _=>none) R w d v:=by
 cases h with
 | ftr=>obtain ⟨A,c,l,e,hs⟩:=hr; exact ⟨A,c,l,e,B0 (fun b _ hb=>hb.2) hs⟩
 | nil=>exact ⟨none,0,[],hr,by simp,by simp [maxLen],fun _=>[],by simp,fun h=>absurd h (by simp)⟩
 | @arr i t u e xs len h1 h2 =>
  refine Ml (ob:=fun j=>if j=i then some (.arr e u xs) else none) (σ:=σ) (im:=R) (lo:=w0.heap.size) (fun j o l hj hl=>?_) (fun _ hb=>hb) (fun j o b c s _ hs=>hR b (hM.lt j b c s hs).1) 1 _ _ _ (Agx (e:=e) (if_pos rfl) h2) (Ag2 hr);split at hj
  ·rename_i e'; subst e';obtain rfl:=osj hj;exact hM.obs j _ l h1 hl
  ·cases hj
 | @mat o p e1 e u xss len h1 h2 h3 =>
  refine Ml (ob:=fun j=>match ob j with | some (.arr e u xs)=>some (.arr e u xs) | _=>if j=o then some (.vec e1 1 xss.length (hdL p u xss)) else none) (σ:=σ) (im:=R) (lo:=w0.heap.size) (fun j q l hj hl=>?_) (fun _ hb=>hb) (fun j o b c s _ hs=>hR b (hM.lt j b c s hs).1) 1 _ _ _ (Aqr (p:=p) (e1:=e1) (e:=e) (by simp only [h1]; rw [if_pos trivial]) (fun k row hk=>by simp only [h2 k row hk]) h3) (Ag2 hr);split at hj
  ·rename_i e' u' xs' hj';obtain rfl:=osj hj;exact hM.obs j _ l hj' hl
  ·split at hj
   ·rename_i e'; subst e';obtain rfl:=osj hj;obtain ⟨vs,g1,g2,g3⟩:=hM.obs j _ l h1 hl;exact ⟨vs,g1,Atr g2,g3⟩
   ·cases hj
 | @tv o e t xs len h1 h2 =>
  refine Ml (ob:=fun j=>if j=o then some (.vec e t.size xs.length (tvC none t xs)) else none) (σ:=σ) (im:=R) (lo:=w0.heap.size) (fun j q l hj hl=>?_) (fun _ hb=>hb) (fun j o b c s _ hs=>hR b (hM.lt j b c s hs).1) 1 _ _ _ (Au6 (m:=none) (e:=e) (if_pos rfl) h2) (Ag2 hr);split at hj
  ·rename_i e'; subst e';obtain rfl:=osj hj;obtain ⟨vs,g1,g2,g3⟩:=hM.obs j _ l h1 hl;exact ⟨vs,g1,Aox xs vs g2,g3⟩
  ·cases hj
def RL.zl:Bool->AV->RL
 | true,d=>.frz d
 | false,d=>.imm d
def zR (z:Bool) (im:Nat->Prop) (n:Nat) (b:Nat):Prop:=if z then n<=b else im b∨n<=b
theorem As0 {z:Bool} {im:Nat->Prop} {n b:Nat} (h:n<=b):zR z im n b:=by cases z; exact .inr h; exact h
def Ai4 (R:Nat->Prop) (z:Bool) (ob:Oid->Option Ob) (c:AV) (l:RL):Prop:=(c.scal=true∧l=.sc c)∨∃ d,l=.zl z d∧d.gndB=true∧Aie R ob c d
def Li (R:Nat->Prop) (z:Bool) (ob:Oid->Option Ob):List AV->List RL->Prop
 | [],ls=>ls=[]
 | c :: cs,ls=>∃ l ls',ls=l :: ls'∧Ai4 R z ob c l∧Li R z ob cs ls'
def Nz (R:Nat->Prop) (z:Bool) (ob:Oid->Option Ob):List (Bool×List AV)->List (Bool×List RL)->Prop
 | [],ps=>ps=[]
 | (b,cs) :: r,ps=>∃ ls ps',ps=(b,ls) :: ps'∧Li R z ob cs ls∧(b=false->cs.length=1)∧Nz R z ob r ps'
def Asm:List (Bool×List AV)->List AV
 | []=>[]
 | (b,cs) :: r=>(if b then .agg cs else cs.headD .any) :: Asm r
def Arg (R:Nat->Prop) (z:Bool) (rs:List Res) (S:St) (r:RV):Prop :=
 ∃ gs ps,Res.evL S.tm S.ob rs=some (Asm gs)∧Nz R z S.ob gs ps∧r=⟨decide (rs.length≠1),ps⟩
theorem Xe {z:Bool} (hM:Mem0 G w0 ob σ K w) {im:Nat->Prop} {vs0:List Value}:∀ {cs:List AV} {ls:List RL} {us:List Value},Li (zR z im w0.heap.size) z ob cs ls->AV.RepL σ (imm ob σ) w cs us->RL.RepL w0.heap.size im vs0 w ls us []∧ls.length=us.length
 | [],ls,us,h,hr=>by obtain rfl:ls=[]:=h; exact ⟨⟨hr,rfl⟩,by rw [show us=[] from hr]; rfl⟩
 | c :: cs,ls,us,⟨l,ls',e,h1,h2⟩,⟨u,us',e',r1,r2⟩=>by
  subst e e';obtain ⟨q1,q2⟩:=Xe hM (im:=im) (vs0:=vs0) h2 r2;refine ⟨?_,by simp [q2]⟩;rcases h1 with ⟨a1,rfl⟩ | ⟨d,rfl,a1,a2⟩
  ·exact ⟨u,us',rfl,(by cases c <;> first | exact r1 | cases a1),a1,q1⟩
  ·have hr:=Api hM (fun _ h=>As0 h) a2 r1;cases z with
   | true=>exact ⟨u,us',rfl,Kp (fun b h=>h) _ a1 _ hr,a1,q1⟩
   | false=>exact ⟨u,us',rfl,Kp (fun b h=>h) _ a1 _ hr,a1,q1⟩
theorem Ajk {lo:Nat} {im:Nat->Prop} {vs:List Value} {w:World}:∀ {rs:List RL} {us:List Value} {rs':List RL} {us':List Value},(∀ l∈rs,(∃ c,l=.sc c)∨(∃ d,l=.frz d)∨∃ d,l=.imm d)->RL.RepL lo im vs w rs us []->RL.RepL lo im vs w rs' us' []->RL.RepL lo im vs w (rs++rs') (us++us') []
 | [],_,_,_,_,⟨e,_⟩,h=>by subst e; exact h
 | l :: rs,us,rs',us',hk,h,h'=>by
  have hk':=fun l hl=>hk l (List.mem_cons_of_mem _ hl)
  rcases hk l List.mem_cons_self with ⟨c,rfl⟩ | ⟨d,rfl⟩ | ⟨d,rfl⟩ <;> obtain ⟨u,us1,rfl,q1,q2,q3⟩:=h <;> exact ⟨u,us1++us',rfl,q1,q2,Ajk hk' q3 h'⟩
theorem Vm {R:Nat->Prop} {z:Bool}:∀ {cs:List AV} {ls:List RL},Li R z ob cs ls->∀ l∈ls,(∃ c,l=.sc c)∨(∃ d,l=.frz d)∨∃ d,l=.imm d
 | [],ls,h,l,hl=>by rw [show ls=[] from h] at hl; cases hl
 | c :: cs,ls,⟨l0,ls',e,h1,h2⟩,l,hl=>by
  subst e;rcases List.mem_cons.1 hl with rfl | hl
  ·rcases h1 with ⟨_,rfl⟩ | ⟨d,rfl,_⟩
   ·exact .inl ⟨_,rfl⟩
   ·cases z with
    | true=>exact .inr (.inl ⟨_,rfl⟩)
    | false=>exact .inr (.inr ⟨_,rfl⟩)
  ·exact Vm h2 l hl
theorem Ys {z:Bool} (hM:Mem0 G w0 ob σ K w) {im:Nat->Prop} {vs0:List Value}:∀ {gs:List (Bool×List AV)} {ps:List (Bool×List RL)} {us:List Value},Nz (zR z im w0.heap.size) z ob gs ps->AV.RepL σ (imm ob σ) w (Asm gs) us->∃ vs,RL.RepL w0.heap.size im vs0 w (ps.flatMap (·.2)) vs []∧Hq ps vs=us
 | [],ps,us,h,hr=>by
  obtain rfl:ps=[]:=h;exact ⟨[],⟨rfl,rfl⟩,hr.symm⟩
 | (b,cs) :: gs,ps,us,⟨ls,ps',e,h1,h2,h3⟩,⟨u,us',e',r1,r2⟩=>by
  subst e e';obtain ⟨vs,q1,q2⟩:=Ys hM (im:=im) (vs0:=vs0) h3 r2
  have key:∀ ws:List Value,AV.RepL σ (imm ob σ) w cs ws->(if b then Value.agg ws.toArray else ws.headD undef)=u->∃ vs,RL.RepL w0.heap.size im vs0 w (((b,ls) :: ps').flatMap (·.2)) vs []∧Hq ((b,ls) :: ps') vs=u :: us':=fun ws hw hu=>by
   obtain ⟨a1,a2⟩:=Xe hM (im:=im) (vs0:=vs0) h1 hw;refine ⟨ws++vs,Ajk (Vm h1) a1 q1,?_⟩;simp only [Hq];rw [List.drop_left' a2.symm,q2,List.take_left' a2.symm];congr 1;cases b with
   | true=>exact hu
   | false =>
    have hl:=h2 rfl;rw [← hw.length] at hl;cases ws with
    | nil=>simp at hl
    | cons w0 ws=>exact hu
  cases b with
  | true =>
   obtain ⟨ws,e1,e2⟩:=r1;exact key ws e2 (by rw [e1]; rfl)
  | false =>
   have hl:=h2 rfl;obtain ⟨c,rfl⟩:=List.length_eq_one_iff.1 hl;exact key [u] ⟨u,[],rfl,r1,rfl⟩ rfl
end
theorem Ai5 {P:Program} [IsP P] {G:World->Prop} (hfol:P.follows .mixedOrders=true) {g:FuncId} {fn:Func} (hf:P.funcs[g]? =some fn) {ac:AC} {rs:List Res} (hc0:Am P fn=some (ac,rs)) {args:List AV} {args':(Nat->Prop)->List AV} {r:RV} {n:Nat} (z:Bool) (hN:fn.ntmps=n) (hn:∀ R,(args' R).length<=n) {tl:(Nat->Prop)->List (Nat×AV)} (htl:∀ R,tmL 0 (args' R)=tl R) (ha:∀ (R im:Nat->Prop) (w:World) (us:List Value),(∀ b,im b->z=false->R b)->AV.RepL (fun _=>none) im w args us->AV.RepL (fun _=>none) im w (args' R) us)
  (h:∀ (n:Nat) (R:Nat->Prop),(∀ b,n<=b->R b)->awp P (GN G n) ac (fun e S=>∃ S',Weak S S'∧(e=.normal∨e=.ret)∧Arg R z rs S' r) ⟨An (tl R),Aj [],1⟩):Aw P G g args r:=by
 subst hN
 have h0:∃ c,fn.body=some c∧AC.of P fn.ntmps c=some ac∧Res.ofL P fn.results.toList=some rs:=by
  unfold Am at hc0;split at hc0
  ·rename_i c hb;split at hc0
   ·rename_i ac' rs' h1 h2;obtain ⟨rfl,rfl⟩:=Prod.mk.inj (osj hc0);exact ⟨c,hb,h1,h2⟩
   ·cases hc0
  ·cases hc0
 obtain ⟨c,hb,hc,hrs⟩:=h0;intro w im vs hG hargs
 replace h:=h w.heap.size (zR z im w.heap.size) fun _ h=>As0 h
 replace hn:=hn (zR z im w.heap.size)
 rw [← htl,← St.init_eq] at h
 replace hargs:=ha (zR z im w.heap.size) im w vs (fun b hb e=>by subst e; exact .inl hb) hargs
 generalize args' (zR z im w.heap.size)=args at h hn hargs;have hlen:vs.length=args.length:=hargs.length
 have hany:∀ (cs:List AV) (us:List Value),AV.RepL (fun _=>none) im w cs us->AV.RepL (fun _=>none) (imm (fun _=>none) (fun _=>none)) w cs us:=fun cs us h' =>
  AV.RepL.later ⟨fun _ _ h=>h,(fun _ _ _ _ _ _ _ h=>by cases h),fun _ _ _=>rfl,Nat.le_refl _⟩ cs us h'
 have hreps:Oq (GN G w.heap.size) w ⟨fun _=>none,fun _=>False,w,fun _ _ h=>(nomatch h)⟩ fn.ntmps (St.init args) { tmps:=vs.toArray++Array.replicate (fn.ntmps - vs.toArray.size) undef,defers:=[] } w:=by
  refine ⟨⟨fun _=>none,⟨Below.refl _ _,fun w' hb=>⟨hG w' hb,hb.size⟩,(fun _ _ h=>by cases h),(fun _ _ _ _ h=>by cases h),(fun _ _ _ _ h=>by cases h),(fun _ _ _ _ _ _ _ _ _ h=>by cases h),(fun _ _ _ h=>by cases h)⟩,fun t=>?_,⟨fun _ _ h=>h,fun _ _ h=>h.elim,fun _ _ h=>h.elim,Nat.le_refl _⟩⟩,by simp; omega,rfl,fun i h=>absurd rfl h⟩;simp only [St.init,gDg];cases ht:args[t]? with
  | none=>trivial
  | some c =>
   obtain ⟨v,hv,hr⟩:=(hany _ _ hargs).get ht;have hlt:t<vs.length:=(gSi.1 hv).1
   have e:(vs.toArray++Array.replicate (fn.ntmps - vs.toArray.size) undef).getD t undef=v:=by
    rw [Array.getD_eq_getD_getElem?,Array.getElem?_append_left (by simpa using hlt)];simp [hv]
   rw [e];exact hr
 refine calls_of_wp hf hb (Code.wp_mono (fun e a' w' hq=>?_) (Wh hfol c ac _ _ _ w hc h hreps));obtain ⟨e',S0,rfl,⟨S',hweak,hend,gs,ps,h1,h2,h4⟩,hr⟩:=hq
 replace hr:=hweak _ _ _ _ _ _ hr
 obtain ⟨σ,hM,hF,_⟩:=hr.ex
 have hrun:∀ (vars:List ResultVar) (rs:List Res) (avs:List AV),Res.ofL P vars=some rs->Res.evL S'.tm S'.ob rs=some avs ->
   ∃ us,(vars.mapM (Ah1 a'.tmps)).run P w'=.ok us w'∧AV.RepL σ (imm S'.ob σ) w' avs us∧us.length=vars.length∧rs.length=vars.length:=by
  intro vars
  induction vars with
  | nil =>
   intro rs avs q1 q2;obtain rfl:[]=rs:=osj q1;obtain rfl:[]=avs:=osj q2;exact ⟨[],rfl,rfl,rfl,rfl⟩
  | cons v vars ih =>
   intro rs avs q1 q2;simp only [Res.ofL] at q1;split at q1
   ·rename_i x xs p1 p2;obtain rfl:=osj q1;simp only [Res.evL] at q2;split at q2
    ·rename_i y ys p3 p4;obtain rfl:=osj q2;obtain ⟨u,r1,r2⟩:=Res.run hM hF p1 p3;obtain ⟨us,r3,r4,r5,r6⟩:=ih _ _ p2 p4;refine ⟨u :: us,?_,⟨u,us,rfl,r2,r4⟩,by simp [r5],by simp [r6]⟩;rw [List.mapM_cons,Sem.run_bind,r1];simp only [Result.andThen_ok,Sem.run_bind,r3,Sem.run_pure]
    ·cases q2
   ·cases q1
 obtain ⟨us,u1,u2,u3,u4⟩:=hrun fn.results.toList rs _ hrs h1;obtain ⟨vs',f1,f3⟩:=Ys (im:=im) (vs0:=vs) hM h2 u2;have hres:(results fn a'.tmps).run P w'=.ok (if fn.results.size=1 then us.headD undef else .tuple us.toArray) w':=Ot u1 (by rw [u3]; simp)
 have hrv:r.Rep w.heap.size im vs w' (if fn.results.size=1 then us.headD undef else .tuple us.toArray):=by
  subst h4;refine ⟨vs',[],f1,⟨trivial,fun _=>rfl⟩,?_⟩;simp only [f3];have:rs.length=fn.results.size:=by rw [u4]; simp
  rw [this];by_cases h1:fn.results.size=1 <;> simp [h1]
 have fin:∃ u,(results fn a'.tmps).run P w'=.ok u w'∧∃ v,Ending.returned u=.returned v∧Below w.heap.size w w'∧r.Rep w.heap.size im vs w' v:=⟨_,hres,_,rfl,hM.below,hrv⟩
 rcases hend with rfl | rfl
 ·exact ⟨hr.defers,fin⟩
 ·exact ⟨hr.defers,fin⟩
theorem Ajx {P:Program} [IsP P] {G:World->Prop} (hfol:P.follows .mixedOrders=true) {g:FuncId} {fn:Func} (hf:P.funcs[g]? =some fn) {ac:AC} {rs:List Res} (hc0:Am P fn=some (ac,rs)) {args:List AV} {r:RV} {n:Nat} (hN:fn.ntmps=n) (hn:args.length<=n) {tl:List (Nat×AV)} (htl:tmL 0 args=tl)
  (h:∀ (n:Nat) (R:Nat->Prop),(∀ b,n<=b->R b)->awp P (GN G n) ac (fun e S=>∃ S',Weak S S'∧(e=.normal∨e=.ret)∧Arg R true rs S' r) ⟨An tl,Aj [],1⟩):Aw P G g args r :=
 Ai5 hfol hf hc0 (args':=fun _=>args) true hN (fun _=>hn) (tl:=fun _=>tl) (fun _=>htl) (fun _ _ _ _ _ h=>h) h
mutual
theorem Apm {R im:Nat->Prop} {w:World} (hR:∀ b,im b->R b):∀ (c d:AV) (u:Value),AV.unR R c d->AV.Rep (fun _=>none) im w c u->AV.Rep (fun _=>none) im w d u
 | .tree t xs,d,u,h,⟨A,c,l,e,hs⟩=>by
  have h:d=.ftr R t xs:=h;subst h;exact ⟨A,c,l,e,B0 (fun b _ hb=>⟨hb,hR b hb⟩) hs⟩
 | .agg cs,d,u,⟨ds,e,h⟩,hr=>by
  subst e;obtain ⟨us,e,hr⟩:=hr;exact ⟨us,e,V3 hR cs ds us h hr⟩
 | .int ..,d,u,⟨_,e⟩,hr=>by subst e; exact hr
 | .bool ..,d,u,⟨_,e⟩,hr=>by subst e; exact hr
 | .str ..,d,u,⟨_,e⟩,hr=>by subst e; exact hr
 | .nils,d,u,⟨_,e⟩,hr=>by subst e; exact hr
 | .any,d,u,⟨h,_⟩,_=>by cases h
 | .mtree ..,d,u,⟨h,_⟩,_=>by cases h
 | .ftr ..,d,u,⟨h,_⟩,_=>by cases h
 | .mp _,d,u,⟨h,_⟩,_=>by cases h
 | .tup _,d,u,⟨h,_⟩,_=>by cases h
 | .fn ..,d,u,⟨h,_⟩,_=>by cases h
 | .ref _,d,u,⟨h,_⟩,_=>by cases h
 | .own ..,d,u,⟨h,_⟩,_=>by cases h
 | .box ..,d,u,⟨h,_⟩,_=>by cases h
 | .elt ..,d,u,⟨h,_⟩,_=>by cases h
 | .sla ..,d,u,⟨h,_⟩,_=>by cases h
 | .telt ..,d,u,⟨h,_⟩,_=>by cases h
 | .giv ..,d,u,⟨h,_⟩,_=>by cases h
 | .abool ..,d,u,⟨h,_⟩,_=>by cases h
theorem V3 {R im:Nat->Prop} {w:World} (hR:∀ b,im b->R b):∀ (cs ds:List AV) (us:List Value),AV.unRL R cs ds->AV.RepL (fun _=>none) im w cs us->AV.RepL (fun _=>none) im w ds us
 | [],ds,us,h,hr=>by obtain rfl:ds=[]:=h; exact hr
 | c :: cs,ds,us,⟨d,ds',e,h1,h2⟩,hr=>by
  subst e;obtain ⟨u,us',e,r1,r2⟩:=hr;exact ⟨u,us',e,Apm hR c d u h1 r1,V3 hR cs ds' us' h2 r2⟩
end
theorem Ap3 {P:Program} [IsP P] {G:World->Prop} (hfol:P.follows .mixedOrders=true) {g:FuncId} {fn:Func} (hf:P.funcs[g]? =some fn) {ac:AC} {rs:List Res} (hc0:Am P fn=some (ac,rs)) {args:List AV} (args':(Nat->Prop)->List AV) {r:RV} {n:Nat} (hN:fn.ntmps=n) (hn:∀ R,(args' R).length<=n) (hu:∀ R,AV.unRL R args (args' R)) {tl:(Nat->Prop)->List (Nat×AV)} (htl:∀ R,tmL 0 (args' R)=tl R)
  (h:∀ (n:Nat) (R:Nat->Prop),(∀ b,n<=b->R b)->awp P (GN G n) ac (fun e S=>∃ S',Weak S S'∧(e=.normal∨e=.ret)∧Arg R false rs S' r) ⟨An (tl R),Aj [],1⟩):Aw P G g args r :=
 Ai5 hfol hf hc0 false hN hn htl (fun R im w us hR hr=>V3 (fun b hb=>hR b hb rfl) _ _ _ (hu R) hr) h
theorem Aog {R:Nat->Prop} {z:Bool} {rs:List Res} {tm:Nat->AV} {ob:Oid->Option Ob} {g:Nat} {r:RV} (gs:List (Bool×List AV)) {e:AE} (h2:Nz R z ob gs r.ps) (he:e=.normal∨e=.ret:=by simp) (h1:Res.evL tm ob rs=some (Asm gs):=by kernel_rfl) (h4:r.tup=decide (rs.length≠1):=by kernel_rfl):∃ S',Weak ⟨tm,ob,g⟩ S'∧(e=.normal∨e=.ret)∧Arg R z rs S' r :=
 ⟨_,Weak.refl _,he,gs,r.ps,h1,h2,by cases r; cases h4; rfl⟩
section
variable {R:Nat->Prop} {z:Bool} {ob:Oid->Option Ob}
theorem Ak6:Nz R z ob [] []:=rfl
theorem At6 {cs:List AV} {r:List (Bool×List AV)} {ls:List RL} {ps:List (Bool×List RL)} (h1:Li R z ob cs ls) (h2:Nz R z ob r ps):Nz R z ob ((true,cs) :: r) ((true,ls) :: ps):=⟨ls,ps,rfl,h1,(fun h=>by cases h),h2⟩
theorem Aqs {c:AV} {r:List (Bool×List AV)} {l:RL} {ps:List (Bool×List RL)} (h1:Ai4 R z ob c l) (h2:Nz R z ob r ps):Nz R z ob ((false,[c]) :: r) ((false,[l]) :: ps):=⟨[l],ps,rfl,⟨l,[],rfl,h1,rfl⟩,fun _=>rfl,h2⟩
theorem Aun:Li R z ob [] []:=rfl
theorem Ud {c:AV} {cs:List AV} {l:RL} {ls:List RL} (h1:Ai4 R z ob c l) (h2:Li R z ob cs ls):Li R z ob (c :: cs) (l :: ls):=⟨l,ls,rfl,h1,h2⟩
theorem Aqh {c:AV} (h:c.scal=true:=by kernel_rfl):Ai4 R z ob c (.sc c):=.inl ⟨h,rfl⟩
theorem Ahj {c:AV} {t:Ty} {xs:List t.D} (h:Aie R ob c (.tree t xs)):Ai4 R z ob c (.zl z (.tree t xs)):=.inr ⟨_,rfl,rfl,h⟩
end
section
variable {P:Program} {G:World->Prop} {g k d:Nat} {gd:Option (Nat×Bool)} {xs:List X} {tl:List (Nat×AV)} {ol:List (Oid×Option Ob)} {bad:List (Nat×Nat)} {ra:List Rec} {da:List (List Oid)} {Kf:List (Nat×AV)->List (Oid×Option Ob)->Prop}
variable {fo:Opd} {ys:List Opd} {tys:List (List (Option Ty))} {F:FuncId} {caps:List AV} {rv:RV}
theorem Ata (v:AV) (us:List (Oid×Option Ob)) (zs args:List AV) (hgd:Vg gd (An tl)) (hc:Aw P G F args rv) (hb:A8 P F=true) (h3:XD P G bad g (k+1) xs ((d,v) :: tl) (us.reverseAux ol) ((1,v,us) :: ra) ((rdX (An tl) (Aj ol) ⟨some d,gd,.call fo ys tys⟩) :: da) Kf) (hg:AV.gndBL zs=true:=by kernel_rfl) (hfo:fo.ev (An tl)=.fn F caps:=by kernel_rfl) (hz:(ys++caps.map Opd.cst).map (Opd.ev (An tl))=zs:=by kernel_rfl) (hn:Ov tys zs=args:=by kernel_rfl) (hr:rv.out (C8 ((d,0),g+k)) zs=(v,us):=by kernel_rfl) (hx:E9 us=true:=by rfl):XD P G bad g k (⟨some d,gd,.call fo ys tys⟩ :: xs) tl ol ra da Kf:=by
 subst hz;exact Ae5 1 v us (Asa (P:=P) (G:=G) (p:=false) (n:=g+k) (d:=some d) hgd hfo hg hn hb hc hr) h3 hx
end
end
section
open Go.RowKit Go.Deep
def Ty.zav:Ty->List AV
 | .int=>[.int .i64 0]
 | .bool=>[.bool false]
 | .str=>[.str ByteArray.empty]
 | .slice _=>[.nils]
 | .pair a b=>a.zav++b.zav
theorem Qd:∀ t:Ty,t.zav.length=t.size
 | .int | .bool | .str | .slice _=>rfl
 | .pair a b=>by simp only [Ty.zav,List.length_append,Qd a,Qd b,Ty.size]
section
variable {σ:Oid->Option Loc} {im:Nat->Prop} {w:World}
theorem Xd {R:Nat->Prop} {t:Ty} {v:Value} (h1:v=.slice none 0 0):∃ A c l,v=.slice A ([]:List t.D).length c∧Sl R w t A c ([]:List t.D) l :=
 ⟨none,0,[],h1,by simp,by simp [maxLen],fun _=>[],by simp,fun h=>absurd h (by simp)⟩
theorem Aga (m:Option (Nat->Prop)):∀ (t:Ty) (vs:List Value),AV.RepL σ im w t.zav vs->AV.RepL σ im w (t.avM m t.dflt) vs
 | .int,_,h | .bool,_,h | .str,_,h=>h
 | .slice t,_,⟨v,vs',e,h1,h2⟩=>by
  refine ⟨v,vs',e,?_,h2⟩;have h1:v=.slice none 0 0:=h1;cases m with
  | none=>exact Xd h1
  | some n=>exact Xd h1
 | .pair a b,vs,h=>by
  have h1:=h.take a.size;have h2:=h.drop a.size;have e1:(Ty.pair a b).zav.take a.size=a.zav:=List.take_left' (Qd a);have e2:(Ty.pair a b).zav.drop a.size=b.zav:=List.drop_left' (Qd a);rw [e1] at h1;rw [e2] at h2;have:=(Aga m a _ h1).append (Aga m b _ h2);rw [List.take_append_drop] at this;exact this
theorem Ai2 (m:Option (Nat->Prop)) (t:Ty):∀ (n:Nat) (vs:List Value),AV.RepL σ im w (Aac n t.zav) vs->AV.RepL σ im w (tvC m t (List.replicate n t.dflt)) vs
 | 0,_,h=>h
 | n+1,vs,h=>by
  have e:Aac (n+1) t.zav=t.zav++Aac n t.zav:=by simp only [Aac,List.replicate_succ,List.flatten_cons]
  rw [e] at h;have h1:=h.take t.size;have h2:=h.drop t.size;rw [List.take_left' (Qd t)] at h1;rw [List.drop_left' (Qd t)] at h2;have:=(Aga m t _ h1).append (Ai2 m t n _ h2);rw [List.take_append_drop] at this;exact this
end
theorem Any {tl:List (Nat×AV)} {ol:List (Oid×Option Ob)} {g:Nat} (o:Oid) {e:TypeId} {sz n:Nat} {cs ds:List AV} (h:Aj ol o=some (.vec e sz n cs)) (hr:∀ (σ:Oid->Option Loc) (im:Nat->Prop) (w:World) (vs:List Value),AV.RepL σ im w cs vs->AV.RepL σ im w ds vs) :
  Weak ⟨An tl,Aj ol,g⟩ ⟨An tl,upd (Aj ol) o (some (.vec e sz n ds)),g⟩:=by
 intro G w0 B N a w hR;obtain ⟨σ,hm,hf,hB⟩:=hR.ex
 have hwas:∀ i x,upd (Aj ol) o (some (.vec e sz n ds)) i=some x->∃ y,Aj ol i=some y:=fun i x hx=>by
  by_cases hi:i=o
  ·subst hi; exact ⟨_,h⟩
  ·rw [A5 _ _ _ _ hi] at hx; exact ⟨x,hx⟩
 have him:∀ b,imm (Aj ol) σ b->imm (upd (Aj ol) o (some (.vec e sz n ds))) σ b:=fun b hb i x c s hx hs=>by
  obtain ⟨y,hy⟩:=hwas i x hx;exact hb i y c s hy hs
 have hL:Later σ σ (imm (Aj ol) σ) (imm (upd (Aj ol) o (some (.vec e sz n ds))) σ) w w:=⟨fun _ _ h=>h,fun b _ hb=>him b hb,fun _ _ _=>rfl,Nat.le_refl _⟩
 refine ⟨⟨σ,⟨hm.below,hm.inv,hm.gen,hm.lt,hm.cap,fun i j b c s c' s' x y hi hj=>?_,fun i x l hx hl=>?_⟩,fun t=>AV.Rep.later hL _ _ (hf t),hB.trans hL⟩,hR.size,hR.defers,fun i hi=>?_⟩
 ·obtain ⟨x',hx'⟩:=hwas i x hi;obtain ⟨y',hy'⟩:=hwas j y hj;exact hm.inj i j b c s c' s' x' y' hx' hy'
 ·have hx:upd (Aj ol) o (some (.vec e sz n ds)) i=some x:=hx;by_cases hi:i=o
  ·subst hi;rw [Bc] at hx;obtain rfl:=osj hx;obtain ⟨vs,p1,p2,p3,p4⟩:=hm.obs i _ l h hl;exact ⟨vs,p1,hr _ _ _ _ (AV.RepL.later hL _ _ p2),p3,p4⟩
  ·rw [A5 _ _ _ _ hi] at hx;exact (hm.obs i x l hx hl).later hL fun _ _ _ _=>rfl
 ·refine hR.obg i fun hn=>hi ?_
  show upd (Aj ol) o (some (.vec e sz n ds)) i=none;by_cases hio:i=o
  ·subst hio;have hn:Aj ol i=none:=hn;rw [h] at hn; cases hn
  ·rw [A5 _ _ _ _ hio]; exact hn
theorem Auh {ol:List (Oid×Option Ob)} {o:Oid} {e:TypeId} {m:Option (Nat->Prop)} {t:Ty} {xs:List t.D} {N:Nat} (hN:N=xs.length):upd (Aj ol) o (some (.vec e t.size N (tvC m t xs)))=Aj ((o,some (.tv e m t xs)) :: ol):=by
 subst hN;funext i;show _=if i=o then some (Ob.vec e t.size xs.length (tvC m t xs)) else Aj ol i
 by_cases hi:i=o
 ·subst hi; rw [Bc,if_pos rfl]
 ·rw [A5 _ _ _ _ hi,if_neg hi]
theorem An7 {tl:List (Nat×AV)} {ol:List (Oid×Option Ob)} {g:Nat} (o:Oid) (e:TypeId) (m:Option (Nat->Prop)) (t:Ty) {n sz:Nat} {zc:List AV} (h:Aj ol o=some (.vec e sz n (Aac n zc))) (hz:t.zav=zc) (hs:t.size=sz):Weak ⟨An tl,Aj ol,g⟩ ⟨An tl,Aj ((o,some (.tv e m t (List.replicate n t.dflt))) :: ol),g⟩:=by
 subst hz hs;rw [← Auh (N:=n) (by simp)];exact Any o h fun σ im w vs hv=>Ai2 m t n vs hv
theorem Wy {m:Option (Nat->Prop)} {t:Ty}:∀ {xs:List t.D} {j:Nat} {z:t.D},xs[j]? =some z->tvC m t xs=tvC m t (xs.take j)++(t.avM m z++tvC m t (xs.drop (j+1)))
 | [],_,_,h=>by simp at h
 | y :: r,0,z,h=>by obtain rfl:=osj h; rfl
 | y :: r,j+1,z,h=>by
  have ih:=Wy (m:=m) (xs:=r) (j:=j) (z:=z) (by simpa using h);have e:tvC m t (y :: r)=t.avM m y++tvC m t r:=rfl;have e2:tvC m t ((y :: r).take (j+1))=t.avM m y++tvC m t (r.take j):=rfl;rw [e,e2,ih,List.append_assoc]; rfl
theorem Arr {m:Option (Nat->Prop)} {t:Ty} {xs:List t.D} {j:Nat} {z:t.D} (h:j<xs.length):tvC m t (xs.set j z)=tvC m t (xs.take j)++(t.avM m z++tvC m t (xs.drop (j+1))):=by
 rw [Wy (xs:=xs.set j z) (j:=j) (z:=z) (by rw [List.getElem?_set_self h]),List.take_set_of_le (Nat.le_refl _),List.drop_set_of_lt (by omega)]
section
variable {n:Nat} {d:Option Nat} {f:Nat->AV} {ob:Oid->Option Ob}
theorem Ao5 {e:TypeId} {t:Ty} {b:Nat} {zc:List AV} {x y:Opd} {k k':IntKind} {m c:Int} {j:Nat} (hx:x.ev f=.int k m) (hy:y.ev f=.int k' c) (hz:t.size=zc.length) (h:0<=m∧m<=c∧c<=1073741824∧(b:Int)*c<=140737488355328) (hj:m.toNat=j) :
  Bb n ⟨d,none,.makeV e t b zc x y⟩ f ob=some (1,.own ((d.getD 0,0),n) t 0 j,[(((d.getD 0,0),n),some (.vec e zc.length j (Aac j zc)))]):=by
 subst hj;simp only [Bb,ev,Vd,hx,hy];rw [if_pos ⟨hz,h⟩]
theorem Ava {one:Bool} {k m1:Nat} {x y:Opd} {o:Oid} {e1:TypeId} {t:Ty} {N j:Nat} {m:Option (Nat->Prop)} {xs:List t.D} {z z1:t.D} (hx:x.ev f=.elt o j k) (hob:ob o=some (.vec e1 t.size N (tvC m t xs))) (hz:xs[j]? =some z) (hc:Ff one m1 k (t.avM m z) (y.ev f)=some (t.avM m z1)) :
  Bb n ⟨d,none,.st one m1 x y⟩ f ob=some (2,.any,[(o,none),(o,some (.vec e1 t.size N (tvC m t (xs.set j z1))))]):=by
 have hj:=(gSi.1 hz).1;have hl:(tvC m t (xs.take j)).length=j*t.size:=by rw [Yk,List.length_take,Nat.min_eq_left (by omega)]
 have e:Ff one m1 (j*t.size+k) (tvC m t xs) (y.ev f)=some (tvC m t (xs.set j z1)):=by
  rw [Arr hj,Wy hz];have hz0:=Hm m t z;generalize tvC m t (xs.take j)=A at hl ⊢;generalize tvC m t (xs.drop (j+1))=B;generalize t.avM m z=C at hc hz0 ⊢;generalize t.avM m z1=D at hc ⊢;generalize y.ev f=v at hc ⊢;rw [← hl];unfold Ff at hc ⊢;cases one with
  | true =>
   rw [if_pos rfl] at hc ⊢;split at hc
   ·rename_i hk;obtain rfl:=osj hc;rw [if_pos ⟨by simp; omega,hk.2⟩,List.set_append,if_neg (by omega),Nat.add_sub_cancel_left,List.set_append,if_pos hk.1]
   ·cases hc
  | false =>
   rw [if_neg (by simp)] at hc ⊢;split at hc
   ·rename_i ds;split at hc
    ·rename_i hk;obtain rfl:=osj hc;rw [if_pos ⟨hk.1,by simp; omega,hk.2.2⟩];congr 1;rw [List.take_append,List.take_of_length_le (by omega),Nat.add_sub_cancel_left,List.take_append_of_le_length (by omega),Nat.add_assoc,← List.drop_drop,List.drop_left' rfl,List.drop_append_of_le_length (by omega)];simp only [List.append_assoc]
    ·cases hc
   ·cases hc
 simp only [Bb,ev,Abu,hx,hob,e,Option.map_some]
end
end
section
open Go.RowKit Go.Deep
set_option maxRecDepth 4000
def Rq:AC :=
 (.seq (rg [xo 2 (.i (.box 77 (tm 0))),xo 4 (qm (ci 0))])
 (.seq (rg [xo 5 (qm (tm 1)),xo 6 (qf 2 (tm 2)),xo 7 (ql (tm 6)),xo 8 (.i (.lenS (tm 7))),xo 9 (qb .sub (tm 5) (tm 8)),xo 1 (qm (tm 9))])
 (.seq (.seq (rg [xo 10 (qm (tm 1)),xo 11 (qb .lss (tm 10) (ci 0))])
 (.cond (tm 11)
  (.seq (rg [xo 4 (qm (ci (-1)))])
  .ret)
  .skip))
 (.seq (rg [xo 12 (qm (tm 1)),xo 4 (qm (tm 12))])
 .ret))))
def Ael:List Res:=[.tmp 4]
theorem Ad1:Am Tryd.prog Tryd.f44=some (Rq,Ael):=by kernel_rfl
def Is (a0_0:Int) (a0_1:Int) (a0_2:ByteArray) (a1:Int):Option Int :=
 cond (decide (wI (a1 - ((a0_2.size:Nat):Int))<0))
 (some (-1))
 (some (wI (a1 - ((a0_2.size:Nat):Int))))
def Z2 (r:Int):RV:=⟨false,[(false,[.sc (.int .i64 r)])]⟩
theorem Zj {a0_0:Int} {a0_1:Int} {a0_2:ByteArray} {a1:Int} {r:Int} (h:Is a0_0 a0_1 a0_2 a1=some r):Aw Tryd.prog Tab 44 [.agg [ai a0_0,ai a0_1,.str a0_2],ai a1] (Z2 r):=by
 refine At (by kernel_rfl) Tryd.func44 Ad1 (n:=13) (by kernel_rfl) (by simp) (tl:=[(0,.agg [ai a0_0,ai a0_1,.str a0_2]),(1,ai a1)]) rfl ?_;unfold Rq;unfold Is at h;refine Ak ?_;refine Ak ?_;refine Ab ?_;refine Ak ?_;rcases Ad h with ⟨q5,h⟩ | ⟨q5,h⟩
 ·have q5_:=of_decide_eq_true q5;refine Af q5 ?_;refine Ak ?_;refine Ah (tr_ ?_);obtain rfl:=zj h;exact A3 [ai (-1)] (Aq rfl zl Ar)
 have q5_:=of_decide_eq_false q5;refine Ae q5 ?_;refine Ai (tn_ ?_);refine wr_ ?_;refine Ak ?_;refine Ah ?_;obtain rfl:=zj h;exact A3 [ai (wI (a1 - ((a0_2.size:Nat):Int)))] (Aq rfl zl Ar)
def L0:AC :=
 (.seq (.seq (rg [xo 12 (qm (tm 5)),xo 13 (qm (tm 0)),xo 14 (.i (.len (tm 13))),xo 15 (qb .lss (tm 12) (tm 14))])
 (.cond (tm 15)
  .skip
  (.exit 0)))
 (.seq (.block 1 (.seq (rg [xo 18 (qm (tm 0)),xo 19 (qm (tm 5)),xo 20 (qx 3 (tm 18) (tm 19)),xo 21 (.i (.ld false 3 (tm 20))),xo 22 (qm (tm 1)),xo 23 (qc 44 [tm 21,tm 22] [[none,none,none],[]]),xo 1 (qm (tm 23))])
 (.seq (rg [xo 24 (qm (tm 1)),xo 25 (qb .lss (tm 24) (ci 0))])
 (.cond (tm 25)
  (.seq (rg [xo 4 (qm (ci (-1)))])
  .ret)
  .skip))))
 (rg [xo 16 (qm (tm 5)),xo 17 (qb .add (tm 16) (ci 1)),xo 5 (qm (tm 17))])))
def Pr:AC :=
 (.seq (rg [xo 4 (qm (ci 0))])
 (.seq (rg [xo 6 (qm (tm 1)),xo 7 (qm (tm 0)),xo 8 (.i (.len (tm 7))),xo 9 (qb .sub (tm 6) (tm 8)),xo 1 (qm (tm 9))])
 (.seq (.seq (rg [xo 10 (qm (tm 1)),xo 11 (qb .lss (tm 10) (ci 0))])
 (.cond (tm 11)
  (.seq (rg [xo 4 (qm (ci (-1)))])
  .ret)
  .skip))
 (.seq (.seq (rg [xo 5 (qm (ci 0))])
 (.block 0 (.loop L0)))
 (.seq (rg [xo 26 (qm (tm 1)),xo 4 (qm (tm 26))])
 .ret)))))
def Aa3:List Res:=[.tmp 4]
theorem Zk:Am Tryd.prog Tryd.f25=some (Pr,Aa3):=by kernel_rfl
def Ec (a0:List (Int×Int×ByteArray)) (l9_m1:Int) (l9_m5:Nat):Option (Ctl (Int×Nat) (Ctl Int Int)) :=
 cond (decide (((l9_m5:Nat):Int)<((a0.length:Nat):Int)))
 (Option.bind (a0[l9_m5]?) fun x15 =>
 Option.bind (Is x15.1 x15.2.1 x15.2.2 l9_m1) fun y16 =>
 cond (decide (y16<0))
  (some (Ctl.out (Ctl.out (-1))))
  (og (l9_m5+1<4611686018427387904) <|
  some (Ctl.next (y16,l9_m5+1))))
 (some (Ctl.out (Ctl.next l9_m1)))
def Gd (a0:List (Int×Int×ByteArray)) (a1:Int):Option Int :=
 cond (decide (wI (a1 - ((a0.length:Nat):Int))<0))
 (some (-1))
 (Du (A7 (fun s_:Int×Nat=>Ec a0 s_.1 s_.2) 4611686018427387904 (wI (a1 - ((a0.length:Nat):Int)),0)) fun l7_m1 =>
 some l7_m1)
def Yc (r:Int):RV:=⟨false,[(false,[.sc (.int .i64 r)])]⟩
theorem Yh {a0:List (Int×Int×ByteArray)} {a1:Int} {r:Int} (h:Gd a0 a1=some r):Aw Tryd.prog Tab 25 [.tree (.pair .int (.pair .int .str)) a0,ai a1] (Yc r):=by
 refine At (by kernel_rfl) Tryd.func25 Zk (n:=27) (by kernel_rfl) (by simp) (tl:=[(0,.tree (.pair .int (.pair .int .str)) a0),(1,ai a1)]) rfl ?_;unfold Pr;unfold Gd at h;refine Ak ?_;refine Ak ?_;refine Ab ?_;refine Ak ?_;rcases Ad h with ⟨q5,h⟩ | ⟨q5,h⟩
 ·have q5_:=of_decide_eq_true q5;refine Af q5 ?_;refine Ak ?_;refine Ah (tr_ ?_);obtain rfl:=zj h;exact A3 [ai (-1)] (Aq rfl zl Ar)
 have q5_:=of_decide_eq_false q5;refine Ae q5 ?_;refine Ai (tn_ ?_);refine wr_ ?_;refine Bj h (fun (l7_m1:Int) S_=>S_=⟨An [(1,ai l7_m1)],Aj (Ap []),2⟩) ?_ ?_
 ·intro v_ h hk7;refine Ak ?_;refine Al ?_;refine A6 h (fun t_ S_=>∃ (l9_m1:Int),∃ (l9_m5:Nat),t_=(l9_m1,l9_m5)∧S_=⟨An [(0,.tree (.pair .int (.pair .int .str)) a0),(1,ai l9_m1),(5,ai ((l9_m5:Nat):Int))],Aj (Ap []),2⟩) ⟨_,Ac [],⟨wI (a1 - ((a0.length:Nat):Int)),0,rfl,rfl⟩⟩ ?_;rintro n_ _ _ c_ ⟨l9_m1,l9_m5,rfl,rfl⟩ h hn9
  (try dsimp only at h);unfold Ec at h;unfold L0;refine Ab ?_;refine Ak ?_;rcases Ad h with ⟨q12,h⟩ | ⟨q12,h⟩
  ·have q12_:=of_decide_eq_true q12;refine Af q12 ?_;refine Ai (tn_ ?_);refine wr_ ?_;refine Ab ?_;refine Al ?_;refine Ab ?_;obtain ⟨x15,e15,h⟩:=Ag h;obtain ⟨y16,h16,h⟩:=Ag h;refine Aa 13 ?_;refine rz0 (.tree (.pair .int (.pair .int .str)) a0) ?_;refine rz0 (ai ((l9_m5:Nat):Int)) ?_;refine rs0 (.telt none (.pair .int (.pair .int .str)) x15 0) (zi (t:=.pair .int (.pair .int .str)) (xs:=a0) (k:=.i64) (m:=((l9_m5:Nat):Int)) (Ay _) e15) ?_;refine rz0 (.agg [ai x15.1,ai x15.2.1,.str x15.2.2]) ?_;refine rz0 (ai l9_m1) ?_;refine zc (ai y16) [] [.agg [ai x15.1,ai x15.2.1,.str x15.2.2],ai l9_m1] (Zj h16) ?_;refine rsB 1 ?_;refine Ao (tn_ ?_);refine wr_ ?_;refine Ak ?_;rcases Ad h with ⟨q18,h⟩ | ⟨q18,h⟩
   ·have q18_:=of_decide_eq_true q18;refine Af q18 ?_;refine Ak ?_;refine Ah (br_ (tr_ (tr_ (br_ (tr_ ?_)))));obtain rfl:=zj h;have h:=hn9
    (try dsimp only at h);obtain rfl:=zj h;have h:=hk7
    (try dsimp only at h);obtain rfl:=zj h;exact A3 [ai (-1)] (Aq rfl zl Ar)
   have q18_:=of_decide_eq_false q18;refine Ae q18 ?_;refine Ai (bn_ (tn_ ?_));refine wr_ ?_;obtain ⟨g20,h⟩:=Av h;refine Aa 18 ?_;refine rz0 (ai ((l9_m5:Nat):Int)) ?_;refine rs0 (ai ((l9_m5+1:Nat):Int)) (za g20) ?_;refine rsB 1 ?_;refine Ao (tn_ ?_);obtain rfl:=zj h;exact ⟨(y16,l9_m5+1),_,Ac [],⟨y16,l9_m5+1,rfl,rfl⟩,hn9⟩
  have q12_:=of_decide_eq_false q12;refine Ae q12 ?_;refine Az (te_ (te_ (be_ (tn_ ?_))));obtain rfl:=zj h;have h:=hn9
  (try dsimp only at h);obtain rfl:=zj h;exact ⟨l9_m1,_,rfl,Ac [],rfl⟩
 rintro l7_m1 _ rfl h
 (try dsimp only at h);refine Ak ?_;refine Ah ?_;obtain rfl:=zj h;exact A3 [ai l7_m1] (Aq rfl zl Ar)
def Rx:AC :=
 (.seq (rg [xo 1 (.i (.box 77 (tm 0))),⟨some 2,none,.i (.alloc 87 [.int .i64 0,.int .i64 0,.str ⟨#[]⟩])⟩])
 (.seq (rg [⟨some 3,none,.i (.alloc 87 [.int .i64 0,.int .i64 0,.str ⟨#[]⟩])⟩])
 (.seq (rg [xo 4 (qf 0 (tm 1)),xo 5 (ql (tm 4)),xo 6 (qf 0 (tm 3)),xn (qs (tm 6) (tm 5))])
 (.seq (rg [xo 7 (qf 1 (tm 1)),xo 8 (ql (tm 7)),xo 9 (qf 1 (tm 3)),xn (qs (tm 9) (tm 8))])
 (.seq (rg [xo 10 (qf 2 (tm 1)),xo 11 (ql (tm 10)),xo 12 (qf 2 (tm 3)),xn (qs (tm 12) (tm 11))])
 (.seq (rg [xo 13 (.i (.ld false 3 (tm 3))),xn (.st false 3 (tm 2) (tm 13))])
 .ret))))))
def Aek:List Res:=[.cell 2 false 3]
theorem Adz:Am Tryd.prog Tryd.f53=some (Rx,Aek):=by kernel_rfl
def Ix (a0_0:Int) (a0_1:Int) (a0_2:ByteArray):Option (Int×Int×ByteArray) :=
 some (a0_0,a0_1,a0_2)
def Z0 (r:Int×Int×ByteArray):RV:=⟨false,[(true,[.sc (.int .i64 r.1),.sc (.int .i64 r.2.1),.sc (.str r.2.2)])]⟩
theorem Aal {a0_0:Int} {a0_1:Int} {a0_2:ByteArray} {r:Int×Int×ByteArray} (h:Ix a0_0 a0_1 a0_2=some r):Aw Tryd.prog Tab 53 [.agg [ai a0_0,ai a0_1,.str a0_2]] (Z0 r):=by
 refine At (by kernel_rfl) Tryd.func53 Adz (n:=14) (by kernel_rfl) (by simp) (tl:=[(0,.agg [ai a0_0,ai a0_1,.str a0_2])]) rfl ?_;unfold Rx;unfold Ix at h;refine Ak ?_;refine Ak ?_;refine Ak ?_;refine Ak ?_;refine Ak ?_;refine Ak ?_;refine Ah ?_;obtain rfl:=zj h;exact A3 [.agg [ai a0_0,ai a0_1,.str a0_2]] (Gh (Bh zl (Bh zl (Bh zl Gb))) Ar)
def Lv:AC :=
 (.seq (.seq (rg [xo 8 (qm (tm 4)),xo 9 (qm (tm 0)),xo 10 (.i (.len (tm 9))),xo 11 (qb .lss (tm 8) (tm 10))])
 (.cond (tm 11)
  .skip
  (.exit 0)))
 (.seq (.block 1 (rg [xo 14 (qm (tm 3)),xo 15 (qm (tm 4)),xo 16 (qm (tm 0)),xo 17 (qm (tm 4)),xo 18 (qx 3 (tm 16) (tm 17)),xo 19 (.i (.ld false 3 (tm 18))),xo 20 (qc 53 [tm 19] [[none,none,none]]),xo 21 (qx 3 (tm 14) (tm 15)),xn (.st false 3 (tm 21) (tm 20))]))
 (rg [xo 12 (qm (tm 4)),xo 13 (qb .add (tm 12) (ci 1)),xo 4 (qm (tm 13))])))
def Pz:AC :=
 (.seq (rg [xo 2 (qm (.cst .nils))])
 (.seq (rg [xo 5 (qm (tm 0)),xo 6 (.i (.len (tm 5))),xo 7 (.make 87 (.pair .int (.pair .int .str)) 32 (tm 6) (tm 6)),xo 3 (qm (tm 7))])
 (.seq (.seq (rg [xo 4 (qm (ci 0))])
 (.block 0 (.loop Lv)))
 (.seq (rg [xo 22 (qm (tm 3)),xo 2 (qm (tm 22))])
 .ret))))
def Aau:List Res:=[.tmp 2]
theorem Ab4:Am Tryd.prog Tryd.f32=some (Pz,Aau):=by kernel_rfl
def Ea (a0:List (Int×Int×ByteArray)) (l6_m4:Nat) (l6_m3:List (Int×Int×ByteArray)):Option (Ctl (Nat×(List (Int×Int×ByteArray))) (List (Int×Int×ByteArray))) :=
 cond (decide (((l6_m4:Nat):Int)<((a0.length:Nat):Int)))
 (Option.bind (a0[l6_m4]?) fun x11 =>
 Option.bind (Ix x11.1 x11.2.1 x11.2.2) fun y12 =>
 Option.bind (l6_m3[l6_m4]?) fun x13 =>
 og (l6_m4+1<4611686018427387904) <|
 some (Ctl.next (l6_m4+1,l6_m3.set l6_m4 y12)))
 (some (Ctl.out l6_m3))
def F7 (a0:List (Int×Int×ByteArray)):Option (List (Int×Int×ByteArray)) :=
 og (0<=((a0.length:Nat):Int)∧((a0.length:Nat):Int)<=((a0.length:Nat):Int)∧((a0.length:Nat):Int)<=1073741824∧(32:Int)*((a0.length:Nat):Int)<=140737488355328) <|
Option.bind (A7 (fun s_:Nat×(List (Int×Int×ByteArray))=>Ea a0 s_.1 s_.2) 4611686018427387904 (0,List.replicate a0.length ((0,0,(⟨#[]⟩:ByteArray)):Int×Int×ByteArray))) fun l4_m3 =>
some l4_m3
def Yd (r:List (Int×Int×ByteArray)):RV:=⟨false,[(false,[.new 87 (.pair .int (.pair .int .str)) r])]⟩
theorem Xw {a0:List (Int×Int×ByteArray)} {r:List (Int×Int×ByteArray)} (h:F7 a0=some r):Aw Tryd.prog Tab 32 [.tree (.pair .int (.pair .int .str)) a0] (Yd r):=by
 refine At (by kernel_rfl) Tryd.func32 Ab4 (n:=23) (by kernel_rfl) (by simp) (tl:=[(0,.tree (.pair .int (.pair .int .str)) a0)]) rfl ?_;unfold Pz;unfold F7 at h;refine Ak ?_;refine Ab ?_;obtain ⟨g3,h⟩:=Av h;refine Aa 6 ?_;refine rz0 (.tree (.pair .int (.pair .int .str)) a0) ?_;refine rz0 (ai ((a0.length:Nat):Int)) ?_;refine rs1 (.own (oi 7 4) (.pair .int (.pair .int .str)) 0 a0.length) (oi 7 4) (.arr 87 (.pair .int (.pair .int .str)) (List.replicate a0.length ((0,0,(⟨#[]⟩:ByteArray)):Int×Int×ByteArray))) (Ao8 (t:=.pair .int (.pair .int .str)) (k:=.i64) (k':=.i64) (m:=((a0.length:Nat):Int)) (m':=((a0.length:Nat):Int)) (by kernel_rfl) (by kernel_rfl) g3 rfl) ?_;refine rsB 1 ?_;refine Ao (tn_ ?_);refine wr_ ?_;refine Ax h (fun (l4_m3:List (Int×Int×ByteArray)) S_=>S_=⟨An [(3,.own (oi 0 1) (.pair .int (.pair .int .str)) 0 l4_m3.length)],Aj (Ap [(oi 0 1,.arr 87 (.pair .int (.pair .int .str)) l4_m3)]),2⟩) ?_ ?_
 ·intro v_ h;refine Ak ?_;refine Al ?_;refine A6 h (fun t_ S_=>∃ (l6_m4:Nat),∃ (l6_m3:List (Int×Int×ByteArray)),t_=(l6_m4,l6_m3)∧S_=⟨An [(0,.tree (.pair .int (.pair .int .str)) a0),(3,.own (oi 0 1) (.pair .int (.pair .int .str)) 0 l6_m3.length),(4,ai ((l6_m4:Nat):Int))],Aj (Ap [(oi 0 1,.arr 87 (.pair .int (.pair .int .str)) l6_m3)]),2⟩) ⟨_,(B1 3 (.own (oi 7 4) (.pair .int (.pair .int .str)) 0 a0.length) (.own (oi 7 4) (.pair .int (.pair .int .str)) 0 ((List.replicate a0.length ((0,0,(⟨#[]⟩:ByteArray)):Int×Int×ByteArray)).length)) (by kernel_rfl) (congrArg (fun z_=>((.own (oi 7 4) (.pair .int (.pair .int .str)) 0 z_):AV)) (List.length_replicate.symm:a0.length=(List.replicate a0.length ((0,0,(⟨#[]⟩:ByteArray)):Int×Int×ByteArray)).length))).trans (Ac [(oi 0 1,oi 7 4)]),⟨0,List.replicate a0.length ((0,0,(⟨#[]⟩:ByteArray)):Int×Int×ByteArray),rfl,rfl⟩⟩ ?_;rintro n_ _ _ c_ ⟨l6_m4,l6_m3,rfl,rfl⟩ h hn6
  (try dsimp only at h);unfold Ea at h;unfold Lv;refine Ab ?_;refine Ak ?_;rcases Ad h with ⟨q9,h⟩ | ⟨q9,h⟩
  ·have q9_:=of_decide_eq_true q9;refine Af q9 ?_;refine Ai (tn_ ?_);refine wr_ ?_;refine Ab ?_;refine Al ?_;obtain ⟨x11,e11,h⟩:=Ag h;obtain ⟨y12,h12,h⟩:=Ag h;obtain ⟨x13,e13,h⟩:=Ag h;refine Aa 15 ?_;refine rz0 (.own (oi 0 1) (.pair .int (.pair .int .str)) 0 l6_m3.length) ?_;refine rz0 (ai ((l6_m4:Nat):Int)) ?_;refine rz0 (.tree (.pair .int (.pair .int .str)) a0) ?_;refine rz0 (ai ((l6_m4:Nat):Int)) ?_;refine rs0 (.telt none (.pair .int (.pair .int .str)) x11 0) (zi (t:=.pair .int (.pair .int .str)) (xs:=a0) (k:=.i64) (m:=((l6_m4:Nat):Int)) (Ay _) e11) ?_;refine rz0 (.agg [ai x11.1,ai x11.2.1,.str x11.2.2]) ?_;refine zc (.agg [ai y12.1,ai y12.2.1,.str y12.2.2]) [] [.agg [ai x11.1,ai x11.2.1,.str x11.2.2]] (Aal h12) ?_;refine rs0 (.elt (oi 0 1) l6_m4 0) (zo (t:=.pair .int (.pair .int .str)) (o:=oi 0 1) (len:=l6_m3.length) (k:=.i64) (m:=((l6_m4:Nat):Int)) (Ay _) (Au e13)) ?_;refine Ahf (oi 0 1) (oi 0 1) (.arr 87 (.pair .int (.pair .int .str)) (l6_m3.set l6_m4 y12)) (Afo (i:=oi 0 1) (j:=l6_m4) (k:=0) (e:=87) (t:=.pair .int (.pair .int .str)) (xs:=l6_m3) (cs:=[ai y12.1,ai y12.2.1,.str y12.2.2]) (x1:=y12) (by kernel_rfl) (by kernel_rfl) e13 (by kernel_rfl) (by kernel_rfl)) ?_;refine Ao (bn_ (tn_ ?_));refine wr_ ?_;obtain ⟨g14,h⟩:=Av h;refine Aa 18 ?_;refine rz0 (ai ((l6_m4:Nat):Int)) ?_;refine rs0 (ai ((l6_m4+1:Nat):Int)) (za g14) ?_;refine rsB 1 ?_;refine Ao (tn_ ?_);obtain rfl:=zj h;exact ⟨(l6_m4+1,l6_m3.set l6_m4 y12),_,(B1 3 (.own (oi 0 1) (.pair .int (.pair .int .str)) 0 l6_m3.length) (.own (oi 0 1) (.pair .int (.pair .int .str)) 0 ((l6_m3.set l6_m4 y12).length)) (by kernel_rfl) (congrArg (fun z_=>((.own (oi 0 1) (.pair .int (.pair .int .str)) 0 z_):AV)) (((rfl:l6_m3.length=l6_m3.length).trans List.length_set.symm):l6_m3.length=(l6_m3.set l6_m4 y12).length))).trans (Ac []),⟨l6_m4+1,l6_m3.set l6_m4 y12,rfl,rfl⟩,hn6⟩
  have q9_:=of_decide_eq_false q9;refine Ae q9 ?_;refine Az (te_ (te_ (be_ (tn_ ?_))));obtain rfl:=zj h;have h:=hn6
  (try dsimp only at h);obtain rfl:=zj h;exact ⟨_,Ac [],rfl⟩
 rintro l4_m3 _ rfl h
 (try dsimp only at h);refine Ak ?_;refine Ah ?_;obtain rfl:=zj h;exact A3 [.own (oi 0 1) (.pair .int (.pair .int .str)) 0 l4_m3.length] (Aq rfl (Fm (by kernel_rfl) rfl) Ar)
def Rm:AC :=
 (.seq (rg [xo 2 (.i (.box 87 (tm 0))),xo 3 (.i (.box 87 (tm 1))),xo 4 (qm (cb false))])
 (.seq (.seq (rg [xo 5 (qf 0 (tm 2)),xo 6 (ql (tm 5)),xo 7 (qf 0 (tm 3)),xo 8 (ql (tm 7)),xo 9 (qb .neq (tm 6) (tm 8))])
 (.cond (tm 9)
  (.seq (rg [xo 4 (qm (cb false))])
  .ret)
  .skip))
 (.seq (.seq (rg [xo 10 (qf 1 (tm 2)),xo 11 (ql (tm 10)),xo 12 (qf 1 (tm 3)),xo 13 (ql (tm 12)),xo 14 (qb .neq (tm 11) (tm 13))])
 (.cond (tm 14)
  (.seq (rg [xo 4 (qm (cb false))])
  .ret)
  .skip))
 (.seq (.seq (rg [xo 15 (qf 2 (tm 2)),xo 16 (ql (tm 15)),xo 17 (qf 2 (tm 3)),xo 18 (ql (tm 17)),xo 19 (qb .neq (tm 16) (tm 18))])
 (.cond (tm 19)
  (.seq (rg [xo 4 (qm (cb false))])
  .ret)
  .skip))
 (.seq (rg [xo 4 (qm (cb true))])
 .ret)))))
def Aet:List Res:=[.tmp 4]
theorem Aen:Am Tryd.prog Tryd.f65=some (Rm,Aet):=by kernel_rfl
theorem Aae:A8 Tryd.prog 65=true:=by kernel_rfl
def Ir (a0_0:Int) (a0_1:Int) (a0_2:ByteArray) (a1_0:Int) (a1_1:Int) (a1_2:ByteArray):Option Bool :=
 cond (a0_0 !=a1_0)
 (some false)
 (cond (a0_1 !=a1_1)
  (some false)
  (cond (!(a0_2.toList==a1_2.toList))
   (some false)
   (some true)))
def Ab2 (r:Bool):RV:=⟨false,[(false,[.sc (.bool r)])]⟩
theorem Z7 {a0_0:Int} {a0_1:Int} {a0_2:ByteArray} {a1_0:Int} {a1_1:Int} {a1_2:ByteArray} {r:Bool} (h:Ir a0_0 a0_1 a0_2 a1_0 a1_1 a1_2=some r):Aw Tryd.prog Tab 65 [.agg [ai a0_0,ai a0_1,.str a0_2],.agg [ai a1_0,ai a1_1,.str a1_2]] (Ab2 r):=by
 refine At (by kernel_rfl) Tryd.func65 Aen (n:=20) (by kernel_rfl) (by simp) (tl:=[(0,.agg [ai a0_0,ai a0_1,.str a0_2]),(1,.agg [ai a1_0,ai a1_1,.str a1_2])]) rfl ?_;unfold Rm;unfold Ir at h;refine Ak ?_;refine Ab ?_;refine Ak ?_;rcases Ad h with ⟨q4,h⟩ | ⟨q4,h⟩
 ·refine Af q4 ?_;refine Ak ?_;refine Ah (tr_ ?_);obtain rfl:=zj h;exact A3 [.bool false] (Aq rfl zl Ar)
 refine Ae q4 ?_;refine Ai (tn_ ?_);refine wr_ ?_;refine Ab ?_;refine Ak ?_;rcases Ad h with ⟨q8,h⟩ | ⟨q8,h⟩
 ·refine Af q8 ?_;refine Ak ?_;refine Ah (tr_ ?_);obtain rfl:=zj h;exact A3 [.bool false] (Aq rfl zl Ar)
 refine Ae q8 ?_;refine Ai (tn_ ?_);refine wr_ ?_;refine Ab ?_;refine Ak ?_;rcases Ad h with ⟨q12,h⟩ | ⟨q12,h⟩
 ·refine Af q12 ?_;refine Ak ?_;refine Ah (tr_ ?_);obtain rfl:=zj h;exact A3 [.bool false] (Aq rfl zl Ar)
 refine Ae q12 ?_;refine Ai (tn_ ?_);refine wr_ ?_;refine Ak ?_;refine Ah ?_;obtain rfl:=zj h;exact A3 [.bool true] (Aq rfl zl Ar)
def Ll:AC :=
 (.seq (.seq (rg [xo 11 (qm (tm 5)),xo 12 (qm (tm 0)),xo 13 (.i (.len (tm 12))),xo 14 (qb .lss (tm 11) (tm 13))])
 (.cond (tm 14)
  .skip
  (.exit 0)))
 (.seq (.block 1 (.seq (.region [xo 17 (qm (tm 0)),xo 18 (qm (tm 5)),xo 19 (qx 3 (tm 17) (tm 18)),xo 20 (.i (.ld false 3 (tm 19))),xo 21 (qm (tm 1)),xo 22 (qm (tm 5)),xo 23 (qx 3 (tm 21) (tm 22)),xo 24 (.i (.ld false 3 (tm 23))),xo 25 (qc 65 [tm 20,tm 24] [[none,none,none],[none,none,none]]),xo 26 (.i (.not (tm 25)))] true [])
 (.cond (tm 26)
  (.seq (rg [xo 4 (qm (cb false))])
  .ret)
  .skip)))
 (rg [xo 15 (qm (tm 5)),xo 16 (qb .add (tm 15) (ci 1)),xo 5 (qm (tm 16))])))
def Py:AC :=
 (.seq (rg [xo 4 (qm (cb false))])
 (.seq (.seq (rg [xo 6 (qm (tm 0)),xo 7 (.i (.len (tm 6))),xo 8 (qm (tm 1)),xo 9 (.i (.len (tm 8))),xo 10 (qb .neq (tm 7) (tm 9))])
 (.cond (tm 10)
  (.seq (rg [xo 4 (qm (cb false))])
  .ret)
  .skip))
 (.seq (.seq (rg [xo 5 (qm (ci 0))])
 (.block 0 (.loop Ll)))
 (.seq (rg [xo 4 (qm (cb true))])
 .ret))))
def Zs:List Res:=[.tmp 4]
theorem Aah:Am Tryd.prog Tryd.f38=some (Py,Zs):=by kernel_rfl
def D6 (a0:List (Int×Int×ByteArray)) (a1:List (Int×Int×ByteArray)) (l8_m5:Nat):Option (Ctl Nat (Ctl Unit Bool)) :=
 cond (decide (((l8_m5:Nat):Int)<((a0.length:Nat):Int)))
 (Option.bind (a0[l8_m5]?) fun x14 =>
 Option.bind (a1[l8_m5]?) fun x15 =>
 Option.bind (Ir x14.1 x14.2.1 x14.2.2 x15.1 x15.2.1 x15.2.2) fun y16 =>
 cond (!y16)
  (some (Ctl.out (Ctl.out false)))
  (og (l8_m5+1<4611686018427387904) <|
  some (Ctl.next (l8_m5+1))))
 (some (Ctl.out (Ctl.next ())))
def Gc (a0:List (Int×Int×ByteArray)) (a1:List (Int×Int×ByteArray)):Option Bool :=
 cond (((a0.length:Nat):Int) !=((a1.length:Nat):Int))
 (some false)
 (Du (A7 (fun s_:Nat=>D6 a0 a1 s_) 4611686018427387904 0) fun _ =>
 some true)
def X0 (r:Bool):RV:=⟨false,[(false,[.sc (.bool r)])]⟩
theorem Ye {a0:List (Int×Int×ByteArray)} {a1:List (Int×Int×ByteArray)} {r:Bool} (h:Gc a0 a1=some r):Aw Tryd.prog Tab 38 [.tree (.pair .int (.pair .int .str)) a0,.tree (.pair .int (.pair .int .str)) a1] (X0 r):=by
 refine At (by kernel_rfl) Tryd.func38 Aah (n:=27) (by kernel_rfl) (by simp) (tl:=[(0,.tree (.pair .int (.pair .int .str)) a0),(1,.tree (.pair .int (.pair .int .str)) a1)]) rfl ?_;unfold Py;unfold Gc at h;refine Ak ?_;refine Ab ?_;refine Ak ?_;rcases Ad h with ⟨q4,h⟩ | ⟨q4,h⟩
 ·refine Af q4 ?_;refine Ak ?_;refine Ah (tr_ ?_);obtain rfl:=zj h;exact A3 [.bool false] (Aq rfl zl Ar)
 refine Ae q4 ?_;refine Ai (tn_ ?_);refine wr_ ?_;refine Bj h (fun (_:Unit) S_=>S_=⟨An [],Aj (Ap []),2⟩) ?_ ?_
 ·intro v_ h hk6;refine Ak ?_;refine Al ?_;refine A6 h (fun (l8_m5:Nat) S_=>S_=⟨An [(0,.tree (.pair .int (.pair .int .str)) a0),(1,.tree (.pair .int (.pair .int .str)) a1),(5,ai ((l8_m5:Nat):Int))],Aj (Ap []),2⟩) ⟨_,Ac [],rfl⟩ ?_;rintro n_ l8_m5 _ c_ rfl h hn8
  (try dsimp only at h);unfold D6 at h;unfold Ll;refine Ab ?_;refine Ak ?_;rcases Ad h with ⟨q11,h⟩ | ⟨q11,h⟩
  ·have q11_:=of_decide_eq_true q11;refine Af q11 ?_;refine Ai (tn_ ?_);refine wr_ ?_;refine Ab ?_;refine Al ?_;refine Ab ?_;obtain ⟨x14,e14,h⟩:=Ag h;obtain ⟨x15,e15,h⟩:=Ag h;obtain ⟨y16,h16,h⟩:=Ag h;refine A4 16 ?_;refine dz0 (.tree (.pair .int (.pair .int .str)) a0) ?_;refine dz0 (ai ((l8_m5:Nat):Int)) ?_;refine ds0 (.telt none (.pair .int (.pair .int .str)) x14 0) (zi (t:=.pair .int (.pair .int .str)) (xs:=a0) (k:=.i64) (m:=((l8_m5:Nat):Int)) (Ay _) e14) ?_;refine dz0 (.agg [ai x14.1,ai x14.2.1,.str x14.2.2]) ?_;refine dz0 (.tree (.pair .int (.pair .int .str)) a1) ?_;refine dz0 (ai ((l8_m5:Nat):Int)) ?_;refine ds0 (.telt none (.pair .int (.pair .int .str)) x15 0) (zi (t:=.pair .int (.pair .int .str)) (xs:=a1) (k:=.i64) (m:=((l8_m5:Nat):Int)) (Ay _) e15) ?_;refine dz0 (.agg [ai x15.1,ai x15.2.1,.str x15.2.2]) ?_;refine D3 (.bool y16) [] [.agg [ai x14.1,ai x14.2.1,.str x14.2.2],.agg [ai x15.1,ai x15.2.1,.str x15.2.2]] _ (caps:=[]) (args0:=[.agg [ai x14.1,ai x14.2.1,.str x14.2.2],.agg [ai x15.1,ai x15.2.1,.str x15.2.2]]) trivial (by kernel_rfl) (Z7 h16) Aae ?_;refine dz0 (.bool (!y16)) ?_;refine Gw (Bf (by kernel_rfl)) (tn_ ?_);refine wr_ ?_;rcases Ad h with ⟨q17,h⟩ | ⟨q17,h⟩
   ·refine Af q17 ?_;refine Ak ?_;refine Ah (br_ (tr_ (tr_ (br_ (tr_ ?_)))));obtain rfl:=zj h;have h:=hn8
    (try dsimp only at h);obtain rfl:=zj h;have h:=hk6
    (try dsimp only at h);obtain rfl:=zj h;exact A3 [.bool false] (Aq rfl zl Ar)
   refine Ae q17 ?_;refine Ai (bn_ (tn_ ?_));refine wr_ ?_;obtain ⟨g19,h⟩:=Av h;refine Aa 19 ?_;refine rz0 (ai ((l8_m5:Nat):Int)) ?_;refine rs0 (ai ((l8_m5+1:Nat):Int)) (za g19) ?_;refine rsB 1 ?_;refine Ao (tn_ ?_);obtain rfl:=zj h;exact ⟨l8_m5+1,_,Ac [],rfl,hn8⟩
  have q11_:=of_decide_eq_false q11;refine Ae q11 ?_;refine Az (te_ (te_ (be_ (tn_ ?_))));obtain rfl:=zj h;have h:=hn8
  (try dsimp only at h);obtain rfl:=zj h;exact ⟨(),_,rfl,Ac [],rfl⟩
 rintro _ _ rfl h
 (try dsimp only at h);refine Ak ?_;refine Ah ?_;obtain rfl:=zj h;exact A3 [.bool true] (Aq rfl zl Ar)
def R6:AC :=
 (.seq (rg [xo 2 (.i (.box 24 (tm 0))),xo 4 (qm (ci 0))])
 (.seq (rg [xo 5 (qf 0 (tm 2)),xo 6 (ql (tm 5)),xo 7 (qm (tm 1)),⟨some 8,none,qc 25 [tm 6,tm 7] [[some (.pair .int (.pair .int .str))],[]]⟩,xo 1 (qm (tm 8))])
 (.seq (.seq (rg [xo 9 (qm (tm 1)),xo 10 (qb .lss (tm 9) (ci 0))])
 (.cond (tm 10)
  (.seq (rg [xo 4 (qm (ci (-1)))])
  .ret)
  .skip))
 (.seq (rg [xo 11 (qm (tm 1)),xo 4 (qm (tm 11))])
 .ret))))
def Aeh:List Res:=[.tmp 4]
theorem Acw:Am Tryd.prog Tryd.f15=some (R6,Aeh):=by kernel_rfl
def It (a0_0:List (Int×Int×ByteArray)) (a1:Int):Option Int :=
 Option.bind (Gd a0_0 a1) fun y3 =>
cond (decide (y3<0))
 (some (-1))
 (some y3)
def Aay (r:Int):RV:=⟨false,[(false,[.sc (.int .i64 r)])]⟩
theorem Aba {a0_0:List (Int×Int×ByteArray)} {a1:Int} {r:Int} (h:It a0_0 a1=some r):Aw Tryd.prog Tab 15 [.agg [.tree (.pair .int (.pair .int .str)) a0_0],ai a1] (Aay r):=by
 refine At (by kernel_rfl) Tryd.func15 Acw (n:=12) (by kernel_rfl) (by simp) (tl:=[(0,.agg [.tree (.pair .int (.pair .int .str)) a0_0]),(1,ai a1)]) rfl ?_;unfold R6;unfold It at h;refine Ak ?_;refine Ab ?_;obtain ⟨y3,h3,h⟩:=Ag h;refine Aa 8 ?_;refine rz0 (.box (oi 2 1) 0) ?_;refine rzl (.tree (.pair .int (.pair .int .str)) a0_0) ?_;refine rz0 (ai a1) ?_;refine zc (ai y3) [] [.tree (.pair .int (.pair .int .str)) a0_0,ai a1] (Yh h3) ?_;refine rsB 1 ?_;refine Ao (tn_ ?_);refine wr_ ?_;refine Ab ?_;refine Ak ?_;rcases Ad h with ⟨q6,h⟩ | ⟨q6,h⟩
 ·have q6_:=of_decide_eq_true q6;refine Af q6 ?_;refine Ak ?_;refine Ah (tr_ ?_);obtain rfl:=zj h;exact A3 [ai (-1)] (Aq rfl zl Ar)
 have q6_:=of_decide_eq_false q6;refine Ae q6 ?_;refine Ai (tn_ ?_);refine wr_ ?_;refine Ak ?_;refine Ah ?_;obtain rfl:=zj h;exact A3 [ai y3] (Aq rfl zl Ar)
def Q9:AC :=
 (.seq (rg [xo 1 (.i (.box 24 (tm 0))),xo 2 (.i (.alloc 34 [.nils]))])
 (.seq (rg [xo 3 (.i (.alloc 34 [.nils]))])
 (.seq (rg [xo 4 (qf 0 (tm 1)),xo 5 (ql (tm 4)),⟨some 6,none,qc 32 [tm 5] [[some (.pair .int (.pair .int .str))]]⟩,xo 7 (qf 0 (tm 3)),xn (qs (tm 7) (tm 6))])
 (.seq (rg [xo 8 (.i (.ld false 1 (tm 3))),xn (.st false 1 (tm 2) (tm 8))])
 .ret))))
def Ad8:List Res:=[.cell 2 false 1]
theorem Aej:Am Tryd.prog Tryd.f18=some (Q9,Ad8):=by kernel_rfl
theorem Acd:A8 Tryd.prog 18=true:=by kernel_rfl
def Iy (a0_0:List (Int×Int×ByteArray)):Option (List (Int×Int×ByteArray)) :=
 Option.bind (F7 a0_0) fun y4 =>
some y4
def Zx (r:List (Int×Int×ByteArray)):RV:=⟨false,[(true,[.new 87 (.pair .int (.pair .int .str)) r])]⟩
theorem Aaw {a0_0:List (Int×Int×ByteArray)} {r:List (Int×Int×ByteArray)} (h:Iy a0_0=some r):Aw Tryd.prog Tab 18 [.agg [.tree (.pair .int (.pair .int .str)) a0_0]] (Zx r):=by
 refine At (by kernel_rfl) Tryd.func18 Aej (n:=9) (by kernel_rfl) (by simp) (tl:=[(0,.agg [.tree (.pair .int (.pair .int .str)) a0_0])]) rfl ?_;unfold Q9;unfold Iy at h;refine Ak ?_;refine Ak ?_;refine Ab ?_;obtain ⟨y4,h4,h⟩:=Ag h;refine Aa 9 ?_;refine rz0 (.box (oi 1 1) 0) ?_;refine rzl (.tree (.pair .int (.pair .int .str)) a0_0) ?_;refine zc (.own (oi 96 6) (.pair .int (.pair .int .str)) 0 y4.length) [(oi 96 6,some (.arr 87 (.pair .int (.pair .int .str)) y4))] [.tree (.pair .int (.pair .int .str)) a0_0] (Xw h4) ?_;refine rsB 2 ?_;refine Ao (tn_ ?_);refine wr_ ?_;refine Ak ?_;refine Ah ?_;obtain rfl:=zj h;exact A3 [.agg [.own (oi 96 6) (.pair .int (.pair .int .str)) 0 y4.length]] (Gh (Bh (Fm (by kernel_rfl) rfl) Gb) Ar)
def Sa:AC :=
 (.seq (rg [xo 2 (.i (.box 34 (tm 0))),xo 3 (.i (.box 34 (tm 1))),xo 4 (qm (cb false))])
 (.seq (.seq (rg [xo 5 (qf 0 (tm 2)),xo 6 (ql (tm 5)),xo 7 (qf 0 (tm 3)),xo 8 (ql (tm 7)),⟨some 9,none,qc 38 [tm 6,tm 8] [[some (.pair .int (.pair .int .str))],[some (.pair .int (.pair .int .str))]]⟩,xo 10 (.i (.not (tm 9)))])
 (.cond (tm 10)
  (.seq (rg [xo 4 (qm (cb false))])
  .ret)
  .skip))
 (.seq (rg [xo 4 (qm (cb true))])
 .ret)))
def Aei:List Res:=[.tmp 4]
theorem Acr:Am Tryd.prog Tryd.f21=some (Sa,Aei):=by kernel_rfl
def Iv (a0_0:List (Int×Int×ByteArray)) (a1_0:List (Int×Int×ByteArray)):Option Bool :=
 Option.bind (Gc a0_0 a1_0) fun y4 =>
cond (!y4)
 (some false)
 (some true)
def Abk (r:Bool):RV:=⟨false,[(false,[.sc (.bool r)])]⟩
theorem Ab0 {a0_0:List (Int×Int×ByteArray)} {a1_0:List (Int×Int×ByteArray)} {r:Bool} (h:Iv a0_0 a1_0=some r):Aw Tryd.prog Tab 21 [.agg [.tree (.pair .int (.pair .int .str)) a0_0],.agg [.tree (.pair .int (.pair .int .str)) a1_0]] (Abk r):=by
 refine At (by kernel_rfl) Tryd.func21 Acr (n:=11) (by kernel_rfl) (by simp) (tl:=[(0,.agg [.tree (.pair .int (.pair .int .str)) a0_0]),(1,.agg [.tree (.pair .int (.pair .int .str)) a1_0])]) rfl ?_;unfold Sa;unfold Iv at h;refine Ak ?_;refine Ab ?_;refine Ab ?_;obtain ⟨y4,h4,h⟩:=Ag h;refine Aa 10 ?_;refine rz0 (.box (oi 2 1) 0) ?_;refine rzl (.tree (.pair .int (.pair .int .str)) a0_0) ?_;refine rz0 (.box (oi 3 2) 0) ?_;refine rzl (.tree (.pair .int (.pair .int .str)) a1_0) ?_;refine zc (.bool y4) [] [.tree (.pair .int (.pair .int .str)) a0_0,.tree (.pair .int (.pair .int .str)) a1_0] (Ye h4) ?_;refine rsB 1 ?_;refine Ao (tn_ ?_);refine wr_ ?_;rcases Ad h with ⟨q5,h⟩ | ⟨q5,h⟩
 ·refine Af q5 ?_;refine Ak ?_;refine Ah (tr_ ?_);obtain rfl:=zj h;exact A3 [.bool false] (Aq rfl zl Ar)
 refine Ae q5 ?_;refine Ai (tn_ ?_);refine wr_ ?_;refine Ak ?_;refine Ah ?_;obtain rfl:=zj h;exact A3 [.bool true] (Aq rfl zl Ar)
def Kq:AC :=
 (.seq (rg [xo 2 (.i (.box 29 (tm 0))),xo 4 (qm (ci 0))])
 (.seq (rg [xo 5 (qm (tm 1)),xo 6 (qf 0 (tm 2)),xo 7 (ql (tm 6)),xo 8 (.i (.lenS (tm 7))),xo 9 (qb .sub (tm 5) (tm 8)),xo 1 (qm (tm 9))])
 (.seq (.seq (rg [xo 10 (qm (tm 1)),xo 11 (qb .lss (tm 10) (ci 0))])
 (.cond (tm 11)
  (.seq (rg [xo 4 (qm (ci (-1)))])
  .ret)
  .skip))
 (.seq (rg [xo 12 (qf 1 (tm 2)),xo 13 (.i (.ld false 1 (tm 12))),xo 14 (qm (tm 1)),⟨some 15,none,qc 15 [tm 13,tm 14] [[some (.pair .int (.pair .int .str))],[]]⟩,xo 1 (qm (tm 15))])
 (.seq (.seq (rg [xo 16 (qm (tm 1)),xo 17 (qb .lss (tm 16) (ci 0))])
 (.cond (tm 17)
  (.seq (rg [xo 4 (qm (ci (-1)))])
  .ret)
  .skip))
 (.seq (rg [xo 18 (qf 2 (tm 2)),xo 19 (.i (.ld false 3 (tm 18))),xo 20 (qm (tm 1)),xo 21 (qc 16 [tm 19,tm 20] [[none,none,some (.slice .int)],[]]),xo 1 (qm (tm 21))])
 (.seq (.seq (rg [xo 22 (qm (tm 1)),xo 23 (qb .lss (tm 22) (ci 0))])
 (.cond (tm 23)
  (.seq (rg [xo 4 (qm (ci (-1)))])
  .ret)
  .skip))
 (.seq (rg [xo 24 (qm (tm 1)),xo 4 (qm (tm 24))])
 .ret))))))))
def Ti:List Res:=[.tmp 4]
theorem S7:Am Tryd.prog Tryd.f5=some (Kq,Ti):=by kernel_rfl
def Dh (a0_0:ByteArray) (a0_1:List (Int×Int×ByteArray)) (a0_2:Int) (a0_3:Int) (a0_4:List (List Int)) (a1:Int):Option Int :=
 cond (decide (wI (a1 - ((a0_0.size:Nat):Int))<0))
 (some (-1))
 (Option.bind (It a0_1 (wI (a1 - ((a0_0.size:Nat):Int)))) fun y8 =>
 cond (decide (y8<0))
  (some (-1))
  (Option.bind (Ef a0_2 a0_3 a0_4 y8) fun y14 =>
  cond (decide (y14<0))
   (some (-1))
   (some y14)))
def Q7 (r:Int):RV:=⟨false,[(false,[.sc (.int .i64 r)])]⟩
theorem Qn {a0_0:ByteArray} {a0_1:List (Int×Int×ByteArray)} {a0_2:Int} {a0_3:Int} {a0_4:List (List Int)} {a1:Int} {r:Int} (h:Dh a0_0 a0_1 a0_2 a0_3 a0_4 a1=some r):Aw Tryd.prog Tab 5 [.agg [.str a0_0,.tree (.pair .int (.pair .int .str)) a0_1,ai a0_2,ai a0_3,.tree (.slice .int) a0_4],ai a1] (Q7 r):=by
 refine At (by kernel_rfl) Tryd.func5 S7 (n:=25) (by kernel_rfl) (by simp) (tl:=[(0,.agg [.str a0_0,.tree (.pair .int (.pair .int .str)) a0_1,ai a0_2,ai a0_3,.tree (.slice .int) a0_4]),(1,ai a1)]) rfl ?_;unfold Kq;unfold Dh at h;refine Ak ?_;refine Ak ?_;refine Ab ?_;refine Ak ?_;rcases Ad h with ⟨q5,h⟩ | ⟨q5,h⟩
 ·have q5_:=of_decide_eq_true q5;refine Af q5 ?_;refine Ak ?_;refine Ah (tr_ ?_);obtain rfl:=zj h;exact A3 [ai (-1)] (Aq rfl zl Ar)
 have q5_:=of_decide_eq_false q5;refine Ae q5 ?_;refine Ai (tn_ ?_);refine wr_ ?_;refine Ab ?_;obtain ⟨y8,h8,h⟩:=Ag h;refine Aa 16 ?_;refine rz0 (.box (oi 2 1) 1) ?_;refine rzl (.agg [.tree (.pair .int (.pair .int .str)) a0_1]) ?_;refine rz0 (ai (wI (a1 - ((a0_0.size:Nat):Int)))) ?_;refine zc (ai y8) [] [.agg [.tree (.pair .int (.pair .int .str)) a0_1],ai (wI (a1 - ((a0_0.size:Nat):Int)))] (Aba h8) ?_;refine rsB 1 ?_;refine Ao (tn_ ?_);refine wr_ ?_;refine Ab ?_;refine Ak ?_;rcases Ad h with ⟨q11,h⟩ | ⟨q11,h⟩
 ·have q11_:=of_decide_eq_true q11;refine Af q11 ?_;refine Ak ?_;refine Ah (tr_ ?_);obtain rfl:=zj h;exact A3 [ai (-1)] (Aq rfl zl Ar)
 have q11_:=of_decide_eq_false q11;refine Ae q11 ?_;refine Ai (tn_ ?_);refine wr_ ?_;refine Ab ?_;obtain ⟨y14,h14,h⟩:=Ag h;refine Aa 23 ?_;refine rz0 (.box (oi 2 1) 2) ?_;refine rzl (.agg [ai a0_2,ai a0_3,.tree (.slice .int) a0_4]) ?_;refine rz0 (ai y8) ?_;refine zc (ai y14) [] [.agg [ai a0_2,ai a0_3,.tree (.slice .int) a0_4],ai y8] (Ta h14) ?_;refine rsB 1 ?_;refine Ao (tn_ ?_);refine wr_ ?_;refine Ab ?_;refine Ak ?_;rcases Ad h with ⟨q17,h⟩ | ⟨q17,h⟩
 ·have q17_:=of_decide_eq_true q17;refine Af q17 ?_;refine Ak ?_;refine Ah (tr_ ?_);obtain rfl:=zj h;exact A3 [ai (-1)] (Aq rfl zl Ar)
 have q17_:=of_decide_eq_false q17;refine Ae q17 ?_;refine Ai (tn_ ?_);refine wr_ ?_;refine Ak ?_;refine Ah ?_;obtain rfl:=zj h;exact A3 [ai y14] (Aq rfl zl Ar)
def Lb:AC :=
 (.seq (rg [xo 1 (.i (.box 29 (tm 0))),⟨some 2,none,.i (.alloc 37 [.str ⟨#[]⟩,.nils,.int .i64 0,.int .i64 0,.nils])⟩])
 (.seq (rg [⟨some 3,none,.i (.alloc 37 [.str ⟨#[]⟩,.nils,.int .i64 0,.int .i64 0,.nils])⟩])
 (.seq (rg [xo 4 (qf 0 (tm 1)),xo 5 (ql (tm 4)),xo 6 (qf 0 (tm 3)),xn (qs (tm 6) (tm 5))])
 (.seq (rg [xo 7 (qf 1 (tm 1)),xo 8 (.i (.ld false 1 (tm 7))),⟨some 9,none,qc 18 [tm 8] [[some (.pair .int (.pair .int .str))]]⟩,xo 10 (qf 1 (tm 3)),xn (.st false 1 (tm 10) (tm 9))])
 (.seq (rg [xo 11 (qf 2 (tm 1)),xo 12 (.i (.ld false 3 (tm 11))),xo 13 (qc 19 [tm 12] [[none,none,some (.slice .int)]]),xo 14 (qf 2 (tm 3)),xn (.st false 3 (tm 14) (tm 13))])
 (.seq (rg [xo 15 (.i (.ld false 5 (tm 3))),xn (.st false 5 (tm 2) (tm 15))])
 .ret))))))
def Ss:List Res:=[.cell 2 false 5]
theorem Se:Am Tryd.prog Tryd.f7=some (Lb,Ss):=by kernel_rfl
theorem Q2:A8 Tryd.prog 7=true:=by kernel_rfl
def Dj (a0_0:ByteArray) (a0_1:List (Int×Int×ByteArray)) (a0_2:Int) (a0_3:Int) (a0_4:List (List Int)):Option (ByteArray×(List (Int×Int×ByteArray))×Int×Int×List (List Int)) :=
 Option.bind (Iy a0_1) fun y5 =>
Option.bind (Eb a0_2 a0_3 a0_4) fun y7 =>
some (a0_0,y5,a0_2,a0_3,y7)
def Qy (r:ByteArray×(List (Int×Int×ByteArray))×Int×Int×List (List Int)):RV:=⟨false,[(true,[.sc (.str r.1),.frz (.tree (.pair .int (.pair .int .str)) r.2.1),.sc (.int .i64 r.2.2.1),.sc (.int .i64 r.2.2.2.1),.frz (.tree (.slice .int) r.2.2.2.2)])]⟩
theorem Qu {a0_0:ByteArray} {a0_1:List (Int×Int×ByteArray)} {a0_2:Int} {a0_3:Int} {a0_4:List (List Int)} {r:ByteArray×(List (Int×Int×ByteArray))×Int×Int×List (List Int)} (h:Dj a0_0 a0_1 a0_2 a0_3 a0_4=some r):Aw Tryd.prog Tab 7 [.agg [.str a0_0,.tree (.pair .int (.pair .int .str)) a0_1,ai a0_2,ai a0_3,.tree (.slice .int) a0_4]] (Qy r):=by
 refine Ajx (by kernel_rfl) Tryd.func7 Se (n:=16) (by kernel_rfl) (by simp) (tl:=[(0,.agg [.str a0_0,.tree (.pair .int (.pair .int .str)) a0_1,ai a0_2,ai a0_3,.tree (.slice .int) a0_4])]) rfl fun zn_ nz_ hz_=>?_
 unfold Lb;unfold Dj at h;refine Ak ?_;refine Ak ?_;refine Ak ?_;refine Ab ?_;obtain ⟨y5,h5,h⟩:=Ag h;refine Aa 13 ?_;refine rz0 (.box (oi 1 1) 1) ?_;refine rzl (.agg [.tree (.pair .int (.pair .int .str)) a0_1]) ?_;refine B3 (.agg [.own (oi 144 10) (.pair .int (.pair .int .str)) 0 y5.length]) [(oi 144 10,some (.arr 87 (.pair .int (.pair .int .str)) y5))] [.agg [.tree (.pair .int (.pair .int .str)) a0_1]] _ (caps:=[]) (args0:=[.agg [.tree (.pair .int (.pair .int .str)) a0_1]]) trivial (by kernel_rfl) (Au4 (Aaw h5)) Acd ?_;refine rsB 2 ?_;refine Ao (tn_ ?_);refine wr_ ?_;refine Ab ?_;obtain ⟨y7,h7,h⟩:=Ag h;refine Aa 18 ?_;refine rz0 (.box (oi 1 1) 2) ?_;refine rzl (.agg [ai a0_2,ai a0_3,.tree (.slice .int) a0_4]) ?_;refine Ks (.agg [ai a0_2,ai a0_3,.own (oi 209 15) (.slice .int) 0 y7.length]) [(oi 208 15,some (.cells 35 [ai a0_2,ai a0_3,.own (oi 209 15) (.slice .int) 0 y7.length])),(oi 209 15,some (.mat 79 (oi 210 15) .int y7)),(oi 210 15,some (.pool 3 .int y7))] [] [.agg [ai a0_2,ai a0_3,.tree (.slice .int) a0_4]] (caps:=[]) trivial (Aup (S8 h7)) Tj trivial (.cons (.ren (by kernel_rfl)) .nil) (Ca (by kernel_rfl) (by kernel_rfl) trivial) ?_;refine rsB 2 ?_;refine Ao (tn_ ?_);refine wr_ ?_;refine Ak ?_;refine Ah ?_;obtain rfl:=zj h;exact Aog [(true,[.str a0_0,.own (oi 144 10) (.pair .int (.pair .int .str)) 0 y5.length,ai a0_2,ai a0_3,.own (oi 209 15) (.slice .int) 0 y7.length])] (At6 (Ud Aqh (Ud (Ahj (.arr (e:=87) (by kernel_rfl) rfl)) (Ud Aqh (Ud Aqh (Ud (Ahj (.mat (p:=oi 210 15) (e1:=79) (e:=3) (by kernel_rfl) (Afi (by kernel_rfl)) rfl)) Aun))))) Ak6)
def Kd:AC :=
 (.seq (rg [xo 2 (.i (.box 37 (tm 0))),xo 3 (.i (.box 37 (tm 1))),xo 4 (qm (cb false))])
 (.seq (.seq (rg [xo 5 (qf 0 (tm 2)),xo 6 (ql (tm 5)),xo 7 (qf 0 (tm 3)),xo 8 (ql (tm 7)),xo 9 (qb .neq (tm 6) (tm 8))])
 (.cond (tm 9)
  (.seq (rg [xo 4 (qm (cb false))])
  .ret)
  .skip))
 (.seq (.seq (rg [xo 10 (qf 1 (tm 2)),xo 11 (.i (.ld false 1 (tm 10))),xo 12 (qf 1 (tm 3)),xo 13 (.i (.ld false 1 (tm 12))),⟨some 14,none,qc 21 [tm 11,tm 13] [[some (.pair .int (.pair .int .str))],[some (.pair .int (.pair .int .str))]]⟩,xo 15 (.i (.not (tm 14)))])
 (.cond (tm 15)
  (.seq (rg [xo 4 (qm (cb false))])
  .ret)
  .skip))
 (.seq (.seq (rg [xo 16 (qf 2 (tm 2)),xo 17 (.i (.ld false 3 (tm 16))),xo 18 (qf 2 (tm 3)),xo 19 (.i (.ld false 3 (tm 18))),xo 20 (qc 22 [tm 17,tm 19] [[none,none,some (.slice .int)],[none,none,some (.slice .int)]]),xo 21 (.i (.not (tm 20)))])
 (.cond (tm 21)
  (.seq (rg [xo 4 (qm (cb false))])
  .ret)
  .skip))
 (.seq (rg [xo 4 (qm (cb true))])
 .ret)))))
def Tg:List Res:=[.tmp 4]
theorem Tn:Am Tryd.prog Tryd.f9=some (Kd,Tg):=by kernel_rfl
theorem Qz:A8 Tryd.prog 9=true:=by kernel_rfl
def Dp (a0_0:ByteArray) (a0_1:List (Int×Int×ByteArray)) (a0_2:Int) (a0_3:Int) (a0_4:List (List Int)) (a1_0:ByteArray) (a1_1:List (Int×Int×ByteArray)) (a1_2:Int) (a1_3:Int) (a1_4:List (List Int)):Option Bool :=
 cond (!(a0_0.toList==a1_0.toList))
 (some false)
 (Option.bind (Iv a0_1 a1_1) fun y8 =>
 cond (!y8)
  (some false)
  (Option.bind (D9 a0_2 a0_3 a0_4 a1_2 a1_3 a1_4) fun y13 =>
  cond (!y13)
   (some false)
   (some true)))
def Q4 (r:Bool):RV:=⟨false,[(false,[.sc (.bool r)])]⟩
theorem Qq {a0_0:ByteArray} {a0_1:List (Int×Int×ByteArray)} {a0_2:Int} {a0_3:Int} {a0_4:List (List Int)} {a1_0:ByteArray} {a1_1:List (Int×Int×ByteArray)} {a1_2:Int} {a1_3:Int} {a1_4:List (List Int)} {r:Bool} (h:Dp a0_0 a0_1 a0_2 a0_3 a0_4 a1_0 a1_1 a1_2 a1_3 a1_4=some r):Aw Tryd.prog Tab 9 [.agg [.str a0_0,.tree (.pair .int (.pair .int .str)) a0_1,ai a0_2,ai a0_3,.tree (.slice .int) a0_4],.agg [.str a1_0,.tree (.pair .int (.pair .int .str)) a1_1,ai a1_2,ai a1_3,.tree (.slice .int) a1_4]] (Q4 r):=by
 refine At (by kernel_rfl) Tryd.func9 Tn (n:=22) (by kernel_rfl) (by simp) (tl:=[(0,.agg [.str a0_0,.tree (.pair .int (.pair .int .str)) a0_1,ai a0_2,ai a0_3,.tree (.slice .int) a0_4]),(1,.agg [.str a1_0,.tree (.pair .int (.pair .int .str)) a1_1,ai a1_2,ai a1_3,.tree (.slice .int) a1_4])]) rfl ?_;unfold Kd;unfold Dp at h;refine Ak ?_;refine Ab ?_;refine Ak ?_;rcases Ad h with ⟨q4,h⟩ | ⟨q4,h⟩
 ·refine Af q4 ?_;refine Ak ?_;refine Ah (tr_ ?_);obtain rfl:=zj h;exact A3 [.bool false] (Aq rfl zl Ar)
 refine Ae q4 ?_;refine Ai (tn_ ?_);refine wr_ ?_;refine Ab ?_;refine Ab ?_;obtain ⟨y8,h8,h⟩:=Ag h;refine Aa 15 ?_;refine rz0 (.box (oi 2 1) 1) ?_;refine rzl (.agg [.tree (.pair .int (.pair .int .str)) a0_1]) ?_;refine rz0 (.box (oi 3 2) 1) ?_;refine rzl (.agg [.tree (.pair .int (.pair .int .str)) a1_1]) ?_;refine zc (.bool y8) [] [.agg [.tree (.pair .int (.pair .int .str)) a0_1],.agg [.tree (.pair .int (.pair .int .str)) a1_1]] (Ab0 h8) ?_;refine rsB 1 ?_;refine Ao (tn_ ?_);refine wr_ ?_;rcases Ad h with ⟨q9,h⟩ | ⟨q9,h⟩
 ·refine Af q9 ?_;refine Ak ?_;refine Ah (tr_ ?_);obtain rfl:=zj h;exact A3 [.bool false] (Aq rfl zl Ar)
 refine Ae q9 ?_;refine Ai (tn_ ?_);refine wr_ ?_;refine Ab ?_;refine Ab ?_;obtain ⟨y13,h13,h⟩:=Ag h;refine Aa 21 ?_;refine rz0 (.box (oi 2 1) 2) ?_;refine rzl (.agg [ai a0_2,ai a0_3,.tree (.slice .int) a0_4]) ?_;refine rz0 (.box (oi 3 2) 2) ?_;refine rzl (.agg [ai a1_2,ai a1_3,.tree (.slice .int) a1_4]) ?_;refine zc (.bool y13) [] [.agg [ai a0_2,ai a0_3,.tree (.slice .int) a0_4],.agg [ai a1_2,ai a1_3,.tree (.slice .int) a1_4]] (Sm h13) ?_;refine rsB 1 ?_;refine Ao (tn_ ?_);refine wr_ ?_;rcases Ad h with ⟨q14,h⟩ | ⟨q14,h⟩
 ·refine Af q14 ?_;refine Ak ?_;refine Ah (tr_ ?_);obtain rfl:=zj h;exact A3 [.bool false] (Aq rfl zl Ar)
 refine Ae q14 ?_;refine Ai (tn_ ?_);refine wr_ ?_;refine Ak ?_;refine Ah ?_;obtain rfl:=zj h;exact A3 [.bool true] (Aq rfl zl Ar)
def O7:AC :=
 (.seq (rg [xo 2 (qm (cb false))])
 (.seq (rg [xo 3 (qm (tm 0)),⟨some 4,none,.i (.bin .geq (tm 3) (.cst (.int .u8 97)))⟩,xo 5 (qm (tm 4)),⟨some 6,some (5,true),qm (tm 0)⟩,⟨some 7,some (5,true),.i (.bin .leq (tm 6) (.cst (.int .u8 122)))⟩,xo 8 (.i (.pick (tm 5) (tm 7) (cb false))),xo 2 (qm (tm 8))])
 .ret))
def Aaz:List Res:=[.tmp 2]
theorem Aan:Am Tryd.prog Tryd.f56=some (O7,Aaz):=by kernel_rfl
theorem N2:A8 Tryd.prog 56=true:=by kernel_rfl
def Es (a0:Int):Option Bool :=
 Option.bind (cond (decide (97<=a0))
  (some (decide (a0<=122)))
  (some false)) fun l2_m2 =>
some l2_m2
def Yb (r:Bool):RV:=⟨false,[(false,[.sc (.bool r)])]⟩
theorem Hp {a0:Int} {r:Bool} (h:Es a0=some r):Aw Tryd.prog Tab 56 [.int .u8 a0] (Yb r):=by
 refine At (by kernel_rfl) Tryd.func56 Aan (n:=9) (by kernel_rfl) (by simp) (tl:=[(0,.int .u8 a0)]) rfl ?_;unfold O7;unfold Es at h;refine Ak ?_;refine Ax h (fun (l2_m2:Bool) S_=>S_=⟨An [(2,.bool l2_m2)],Aj (Ap []),2⟩) ?_ ?_
 ·intro v_ h;rcases Ad h with ⟨q3,h⟩ | ⟨q3,h⟩
  ·have q3_:=of_decide_eq_true q3;refine Aa 9 ?_;refine rz0 (.int .u8 a0) ?_;refine rz0 (.bool (decide (97<=a0))) ?_;refine rz0 (.bool (decide (97<=a0))) ?_;refine rs0 (.int .u8 a0) (zg q3) ?_;refine rs0 (.bool (decide (a0<=122))) (zg q3) ?_;refine rs0 (.bool (decide (a0<=122))) (zT q3) ?_;refine rsB 1 ?_;refine Ao (tn_ ?_);obtain rfl:=zj h;exact ⟨_,Ac [],rfl⟩
  have q3_:=of_decide_eq_false q3;refine Aa 9 ?_;refine rz0 (.int .u8 a0) ?_;refine rz0 (.bool (decide (97<=a0))) ?_;refine rz0 (.bool (decide (97<=a0))) ?_;refine zs q3 ?_;refine zs q3 ?_;refine rs0 (.bool false) (zF q3) ?_;refine rsB 1 ?_;refine Ao (tn_ ?_);obtain rfl:=zj h;exact ⟨_,Ac [],rfl⟩
 rintro l2_m2 _ rfl h
 (try dsimp only at h);refine Ah ?_;obtain rfl:=zj h;exact A3 [.bool l2_m2] (Aq rfl zl Ar)
def Mk:AC :=
 (.seq (rg [xo 0 (qm (.cst .nils))])
 (.seq (rg [⟨some 1,none,.mkS 9 .str [.cst (.str ⟨#[]⟩),.cst (.str ⟨#[105,100]⟩),.cst (.str ⟨#[115,119,97,112]⟩),.cst (.str ⟨#[99,111,112,121]⟩),.cst (.str ⟨#[100,105,115,99,97,114,100]⟩),.cst (.str ⟨#[97,100,100]⟩),.cst (.str ⟨#[122,101,114,111]⟩),.cst (.str ⟨#[115,99,97,108,101]⟩),.cst (.str ⟨#[100,101,108,97,121]⟩),.cst (.str ⟨#[99,111,99,111,112,121]⟩),.cst (.str ⟨#[99,111,100,105,115,99,97,114,100]⟩),.cst (.str ⟨#[99,111,97,100,100]⟩),.cst (.str ⟨#[99,111,122,101,114,111]⟩),.cst (.str ⟨#[99,111,115,99,97,108,101]⟩),.cst (.str ⟨#[99,111,100,101,108,97,121]⟩)]⟩,xo 0 (qm (tm 1))])
 .ret))
def Ww:List Res:=[.tmp 0]
theorem Wg:Am Tryd.prog Tryd.f71=some (Mk,Ww):=by kernel_rfl
def Gu  : Option (List ByteArray) :=
 some ([(⟨#[]⟩:ByteArray),(⟨#[105,100]⟩:ByteArray),(⟨#[115,119,97,112]⟩:ByteArray),(⟨#[99,111,112,121]⟩:ByteArray),(⟨#[100,105,115,99,97,114,100]⟩:ByteArray),(⟨#[97,100,100]⟩:ByteArray),(⟨#[122,101,114,111]⟩:ByteArray),(⟨#[115,99,97,108,101]⟩:ByteArray),(⟨#[100,101,108,97,121]⟩:ByteArray),(⟨#[99,111,99,111,112,121]⟩:ByteArray),(⟨#[99,111,100,105,115,99,97,114,100]⟩:ByteArray),(⟨#[99,111,97,100,100]⟩:ByteArray),(⟨#[99,111,122,101,114,111]⟩:ByteArray),(⟨#[99,111,115,99,97,108,101]⟩:ByteArray),(⟨#[99,111,100,101,108,97,121]⟩:ByteArray)])
def Ut (r:List ByteArray):RV:=⟨false,[(false,[.new 9 .str r])]⟩
theorem Vr {r:List ByteArray} (h:Gu=some r):Aw Tryd.prog Tab 71 [] (Ut r):=by
 refine At (by kernel_rfl) Tryd.func71 Wg (n:=2) (by kernel_rfl) (by simp) (tl:=[]) rfl ?_;unfold Mk;unfold Gu at h;refine Ak ?_;refine Ak ?_;refine Ah ?_;obtain rfl:=zj h;exact A3 [.own (oi 1 2) .str 0 15] (Aq rfl (Fm (by kernel_rfl) rfl) Ar)
def Na:AC :=
 (.seq (rg [xo 8 (qb .lss (tm 7) (tm 6))])
 (.seq (.cond (tm 8)
  .skip
  (.exit 0))
 (.seq (.block 1 (.seq (rg [xo 9 (qm (tm 7)),xo 10 (qx 1 (tm 5) (tm 7)),xo 11 (ql (tm 10)),xo 3 (qm (tm 9)),xo 4 (qm (tm 11))])
 (.seq (rg [xo 12 (qm (tm 4)),xo 13 (qm (tm 0)),xo 14 (qb .eql (tm 12) (tm 13))])
 (.cond (tm 14)
  (.seq (rg [xo 15 (qm (tm 3)),xo 2 (qm (tm 15))])
  .ret)
  .skip))))
 (rg [xo 16 (qb .add (tm 7) (ci 1)),xo 7 (qm (tm 16))]))))
def Rw:AC :=
 (.seq (rg [xo 2 (qm (ci 0))])
 (.seq (.seq (rg [xo 5 (qc 71 [] []),xo 6 (.i (.len (tm 5))),xo 7 (qm (ci 0))])
 (.block 0 (.loop Na)))
 (.seq (rg [xo 2 (qm (ci 17))])
 .ret)))
def Ac2:List Res:=[.tmp 2]
theorem Ac6:Am Tryd.prog Tryd.f57=some (Rw,Ac2):=by kernel_rfl
theorem Aai:A8 Tryd.prog 57=true:=by kernel_rfl
def Cl (y4:List ByteArray) (a0:ByteArray) (l5_m7:Nat):Option (Ctl Nat (Ctl Unit Int)) :=
 cond (decide (((l5_m7:Nat):Int)<((y4.length:Nat):Int)))
 (Option.bind (y4[l5_m7]?) fun x11 =>
 cond (x11.toList==a0.toList)
  (some (Ctl.out (Ctl.out ((l5_m7:Nat):Int))))
  (og (l5_m7+1<4611686018427387904) <|
  some (Ctl.next (l5_m7+1))))
 (some (Ctl.out (Ctl.next ())))
def G6 (a0:ByteArray):Option Int :=
 Du (Option.bind (Gu) fun y4 =>
 A7 (fun s_:Nat=>Cl y4 a0 s_) 4611686018427387904 0) fun _ =>
some 17
def Abq (r:Int):RV:=⟨false,[(false,[.sc (.int .i64 r)])]⟩
theorem Y8 {a0:ByteArray} {r:Int} (h:G6 a0=some r):Aw Tryd.prog Tab 57 [.str a0] (Abq r):=by
 refine At (by kernel_rfl) Tryd.func57 Ac6 (n:=17) (by kernel_rfl) (by simp) (tl:=[(0,.str a0)]) rfl ?_;unfold Rw;unfold G6 at h;refine Ak ?_;refine Bj h (fun (_:Unit) S_=>S_=⟨An [],Aj (Ap []),2⟩) ?_ ?_
 ·intro v_ h hk2;refine Ab ?_;obtain ⟨y4,h4,h⟩:=Ag h;refine Aa 5 ?_;refine zc (.own (oi 80 2) .str 0 y4.length) [(oi 80 2,some (.arr 9 .str y4))] [] (Vr h4) ?_;refine rsB 2 ?_;refine Ao (tn_ ?_);refine wr_ ?_;refine Al ?_;refine A6 h (fun (l5_m7:Nat) S_=>S_=⟨An [(0,.str a0),(5,.own (oi 0 1) .str 0 y4.length),(6,ai ((y4.length:Nat):Int)),(7,ai ((l5_m7:Nat):Int))],Aj (Ap [(oi 0 1,.arr 9 .str y4)]),2⟩) ⟨_,Ac [(oi 0 1,oi 80 2)],rfl⟩ ?_;rintro n_ l5_m7 _ c_ rfl h hn5
  (try dsimp only at h);unfold Cl at h;unfold Na;refine Ak ?_;refine Ab ?_;rcases Ad h with ⟨q8,h⟩ | ⟨q8,h⟩
  ·have q8_:=of_decide_eq_true q8;refine Af q8 ?_;refine Ai (tn_ ?_);refine wr_ ?_;refine Ab ?_;refine Al ?_;refine Ab ?_;obtain ⟨x11,e11,h⟩:=Ag h;refine Aa 8 ?_;refine rz0 (ai ((l5_m7:Nat):Int)) ?_;refine rs0 (.elt (oi 0 1) l5_m7 0) (zo (t:=.str) (o:=oi 0 1) (len:=y4.length) (k:=.i64) (m:=((l5_m7:Nat):Int)) (Ay _) (Au e11)) ?_;refine rsl (.str x11) (Dd (i:=oi 0 1) (j:=l5_m7) (k:=0) (e:=9) (t:=.str) (xs:=y4) (by kernel_rfl) (by kernel_rfl) e11 (by kernel_rfl)) ?_;refine rsB 2 ?_;refine Ao (tn_ ?_);refine wr_ ?_;refine Ak ?_;rcases Ad h with ⟨q13,h⟩ | ⟨q13,h⟩
   ·refine Af q13 ?_;refine Ak ?_;refine Ah (br_ (tr_ (tr_ (br_ (tr_ ?_)))));obtain rfl:=zj h;have h:=hn5
    (try dsimp only at h);obtain rfl:=zj h;have h:=hk2
    (try dsimp only at h);obtain rfl:=zj h;exact A3 [ai ((l5_m7:Nat):Int)] (Aq rfl zl Ar)
   refine Ae q13 ?_;refine Ai (bn_ (tn_ ?_));refine wr_ ?_;obtain ⟨g15,h⟩:=Av h;refine Aa 13 ?_;refine rs0 (ai ((l5_m7+1:Nat):Int)) (za g15) ?_;refine rsB 1 ?_;refine Ao (tn_ ?_);obtain rfl:=zj h;exact ⟨l5_m7+1,_,Ac [],rfl,hn5⟩
  have q8_:=of_decide_eq_false q8;refine Ae q8 ?_;refine Az (te_ (te_ (be_ (tn_ ?_))));obtain rfl:=zj h;have h:=hn5
  (try dsimp only at h);obtain rfl:=zj h;exact ⟨(),_,rfl,Ac [],rfl⟩
 rintro _ _ rfl h
 (try dsimp only at h);refine Ak ?_;refine Ah ?_;obtain rfl:=zj h;exact A3 [ai 17] (Aq rfl zl Ar)
def O8:AC :=
 (.seq (rg [xo 2 (qm (cb false))])
 (.seq (rg [xo 3 (qm (tm 0)),⟨some 4,none,.i (.bin .geq (tm 3) (.cst (.int .u8 48)))⟩,xo 5 (qm (tm 4)),⟨some 6,some (5,true),qm (tm 0)⟩,⟨some 7,some (5,true),.i (.bin .leq (tm 6) (.cst (.int .u8 57)))⟩,xo 8 (.i (.pick (tm 5) (tm 7) (cb false))),xo 2 (qm (tm 8))])
 .ret))
def Ace:List Res:=[.tmp 2]
theorem Y5:Am Tryd.prog Tryd.f58=some (O8,Ace):=by kernel_rfl
theorem Xp:A8 Tryd.prog 58=true:=by kernel_rfl
def Gm (a0:Int):Option Bool :=
 Option.bind (cond (decide (48<=a0))
  (some (decide (a0<=57)))
  (some false)) fun l2_m2 =>
some l2_m2
def Xu (r:Bool):RV:=⟨false,[(false,[.sc (.bool r)])]⟩
theorem Ya {a0:Int} {r:Bool} (h:Gm a0=some r):Aw Tryd.prog Tab 58 [.int .u8 a0] (Xu r):=by
 refine At (by kernel_rfl) Tryd.func58 Y5 (n:=9) (by kernel_rfl) (by simp) (tl:=[(0,.int .u8 a0)]) rfl ?_;unfold O8;unfold Gm at h;refine Ak ?_;refine Ax h (fun (l2_m2:Bool) S_=>S_=⟨An [(2,.bool l2_m2)],Aj (Ap []),2⟩) ?_ ?_
 ·intro v_ h;rcases Ad h with ⟨q3,h⟩ | ⟨q3,h⟩
  ·have q3_:=of_decide_eq_true q3;refine Aa 9 ?_;refine rz0 (.int .u8 a0) ?_;refine rz0 (.bool (decide (48<=a0))) ?_;refine rz0 (.bool (decide (48<=a0))) ?_;refine rs0 (.int .u8 a0) (zg q3) ?_;refine rs0 (.bool (decide (a0<=57))) (zg q3) ?_;refine rs0 (.bool (decide (a0<=57))) (zT q3) ?_;refine rsB 1 ?_;refine Ao (tn_ ?_);obtain rfl:=zj h;exact ⟨_,Ac [],rfl⟩
  have q3_:=of_decide_eq_false q3;refine Aa 9 ?_;refine rz0 (.int .u8 a0) ?_;refine rz0 (.bool (decide (48<=a0))) ?_;refine rz0 (.bool (decide (48<=a0))) ?_;refine zs q3 ?_;refine zs q3 ?_;refine rs0 (.bool false) (zF q3) ?_;refine rsB 1 ?_;refine Ao (tn_ ?_);obtain rfl:=zj h;exact ⟨_,Ac [],rfl⟩
 rintro l2_m2 _ rfl h
 (try dsimp only at h);refine Ah ?_;obtain rfl:=zj h;exact A3 [.bool l2_m2] (Aq rfl zl Ar)
def Mp:AC :=
 (.seq (rg [xo 22 (qb .lss (tm 21) (tm 20))])
 (.seq (.cond (tm 22)
  .skip
  (.exit 0))
 (.seq (.block 1 (.seq (rg [xo 23 (qm (tm 21)),xo 3 (qm (tm 23))])
 (.seq (rg [xo 24 (qm (tm 0)),xo 25 (qm (tm 3)),xo 26 (.i (.char (tm 24) (tm 25))),xo 27 (qc 56 [tm 26] [[]]),xo 28 (.i (.not (tm 27))),xo 29 (qm (tm 28)),⟨some 30,some (29,true),qm (tm 0)⟩,⟨some 31,some (29,true),qm (tm 3)⟩,⟨some 32,some (29,true),.i (.char (tm 30) (tm 31))⟩,⟨some 33,some (29,true),qc 58 [tm 32] [[]]⟩,⟨some 34,some (29,true),.i (.not (tm 33))⟩,xo 35 (.i (.pick (tm 29) (tm 34) (cb false)))])
 (.cond (tm 35)
  (.seq (rg [xo 2 (qm (cb false))])
  .ret)
  .skip))))
 (rg [xo 36 (qb .add (tm 21) (ci 1)),xo 21 (qm (tm 36))]))))
def R0:AC :=
 (.seq (rg [xo 2 (qm (cb false))])
 (.seq (.seq (rg [xo 4 (qm (tm 0)),xo 5 (.i (.lenS (tm 4))),xo 6 (qc 55 [tm 5,ci 1,ci 8] [[],[],[]]),xo 7 (.i (.not (tm 6))),xo 8 (qm (tm 7)),⟨some 9,some (8,false),qm (tm 0)⟩,⟨some 10,some (8,false),.i (.char (tm 9) (ci 0))⟩,⟨some 11,some (8,false),qc 56 [tm 10] [[]]⟩,⟨some 12,some (8,false),.i (.not (tm 11))⟩,xo 13 (.i (.pick (tm 8) (cb true) (tm 12))),xo 14 (qm (tm 13)),⟨some 15,some (14,false),qm (tm 0)⟩,⟨some 16,some (14,false),qc 57 [tm 15] [[]]⟩,⟨some 17,some (14,false),qb .neq (tm 16) (ci 17)⟩,xo 18 (.i (.pick (tm 14) (cb true) (tm 17)))])
 (.cond (tm 18)
  (.seq (rg [xo 2 (qm (cb false))])
  .ret)
  .skip))
 (.seq (.seq (rg [xo 19 (qm (tm 0)),xo 20 (.i (.lenS (tm 19))),xo 21 (qm (ci 0))])
 (.block 0 (.loop Mp)))
 (.seq (rg [xo 2 (qm (cb true))])
 .ret))))
def Adc:List Res:=[.tmp 2]
theorem Acz:Am Tryd.prog Tryd.f34=some (R0,Adc):=by kernel_rfl
def En (a0:ByteArray) (l14_m21:Nat):Option (Ctl Nat (Ctl Unit Bool)) :=
 cond (decide (((l14_m21:Nat):Int)<((a0.size:Nat):Int)))
 (Option.bind (Option.bind (a0[l14_m21]?) fun x21 =>
  Option.bind (Es ((x21.toNat:Nat):Int)) fun y22 =>
  cond (!y22)
   (Option.bind (a0[l14_m21]?) fun x24 =>
   Option.bind (Gm ((x24.toNat:Nat):Int)) fun y25 =>
   some (!y25))
   (some false)) fun l20_m35 =>
 cond l20_m35
  (some (Ctl.out (Ctl.out false)))
  (og (l14_m21+1<4611686018427387904) <|
  some (Ctl.next (l14_m21+1))))
 (some (Ctl.out (Ctl.next ())))
def Hb (a0:ByteArray):Option Bool :=
 Option.bind (Option.bind (B2 ((a0.size:Nat):Int) 1 8) fun y4 =>
 cond (!y4)
  (some true)
  (Option.bind (a0[0]?) fun x6 =>
  Option.bind (Es ((x6.toNat:Nat):Int)) fun y7 =>
  cond (!y7)
   (some true)
   (Option.bind (G6 a0) fun y9 =>
   some (y9 !=17)))) fun l3_m18 =>
cond l3_m18
 (some false)
 (Du (A7 (fun s_:Nat=>En a0 s_) 4611686018427387904 0) fun _ =>
 some true)
def Abw (r:Bool):RV:=⟨false,[(false,[.sc (.bool r)])]⟩
theorem K0 {a0:ByteArray} {r:Bool} (h:Hb a0=some r):Aw Tryd.prog Tab 34 [.str a0] (Abw r):=by
 refine At (by kernel_rfl) Tryd.func34 Acz (n:=37) (by kernel_rfl) (by simp) (tl:=[(0,.str a0)]) rfl ?_;unfold R0;unfold Hb at h;refine Ak ?_;refine Ab ?_;refine Ax h (fun (l3_m18:Bool) S_=>S_=⟨An [(0,.str a0),(18,.bool l3_m18)],Aj (Ap []),2⟩) ?_ ?_
 ·intro v_ h;obtain ⟨y4,h4,h⟩:=Ag h;rcases Ad h with ⟨q5,h⟩ | ⟨q5,h⟩
  ·refine Aa 17 ?_;refine rz0 (.str a0) ?_;refine rz0 (ai ((a0.size:Nat):Int)) ?_;refine zc (.bool y4) [] [ai ((a0.size:Nat):Int),ai 1,ai 8] (Bq h4) ?_;refine rz0 (.bool (!y4)) ?_;refine rz0 (.bool (!y4)) ?_;refine zs q5 ?_;refine zs q5 ?_;refine zs q5 ?_;refine zs q5 ?_;refine rs0 (.bool true) (zT q5) ?_;refine rsB 5 ?_;refine Ao (tn_ ?_);obtain rfl:=zj h;exact ⟨_,Ac [],rfl⟩
  obtain ⟨x6,e6,h⟩:=Ag h;obtain ⟨y7,h7,h⟩:=Ag h;rcases Ad h with ⟨q8,h⟩ | ⟨q8,h⟩
  ·refine Aa 17 ?_;refine rz0 (.str a0) ?_;refine rz0 (ai ((a0.size:Nat):Int)) ?_;refine zc (.bool y4) [] [ai ((a0.size:Nat):Int),ai 1,ai 8] (Bq h4) ?_;refine rz0 (.bool (!y4)) ?_;refine rz0 (.bool (!y4)) ?_;refine rs0 (.str a0) (zg q5) ?_;refine rs0 (.int .u8 ((x6.toNat:Nat):Int)) (Fl (by kernel_rfl) q5 (Dx (s:=a0) (k:=.i64) (m:=0) (by kernel_rfl) (by kernel_rfl) (by decide) rfl e6)) ?_;refine B3 (.bool y7) [] [.int .u8 ((x6.toNat:Nat):Int)] _ (caps:=[]) (args0:=[.int .u8 ((x6.toNat:Nat):Int)]) (Bi (by kernel_rfl) q5) (by kernel_rfl) (Hp h7) N2 ?_;refine rs0 (.bool (!y7)) (zg q5) ?_;refine rs0 (.bool (!y7)) (zF q5) ?_;refine rz0 (.bool (!y7)) ?_;refine zs q8 ?_;refine zs q8 ?_;refine zs q8 ?_;refine rs0 (.bool true) (zT q8) ?_;refine Ao (tn_ ?_);obtain rfl:=zj h;exact ⟨_,Ac [],rfl⟩
  obtain ⟨y9,h9,h⟩:=Ag h;refine Aa 17 ?_;refine rz0 (.str a0) ?_;refine rz0 (ai ((a0.size:Nat):Int)) ?_;refine zc (.bool y4) [] [ai ((a0.size:Nat):Int),ai 1,ai 8] (Bq h4) ?_;refine rz0 (.bool (!y4)) ?_;refine rz0 (.bool (!y4)) ?_;refine rs0 (.str a0) (zg q5) ?_;refine rs0 (.int .u8 ((x6.toNat:Nat):Int)) (Fl (by kernel_rfl) q5 (Dx (s:=a0) (k:=.i64) (m:=0) (by kernel_rfl) (by kernel_rfl) (by decide) rfl e6)) ?_;refine B3 (.bool y7) [] [.int .u8 ((x6.toNat:Nat):Int)] _ (caps:=[]) (args0:=[.int .u8 ((x6.toNat:Nat):Int)]) (Bi (by kernel_rfl) q5) (by kernel_rfl) (Hp h7) N2 ?_;refine rs0 (.bool (!y7)) (zg q5) ?_;refine rs0 (.bool (!y7)) (zF q5) ?_;refine rz0 (.bool (!y7)) ?_;refine rs0 (.str a0) (zg q8) ?_;refine B3 (ai y9) [] [.str a0] _ (caps:=[]) (args0:=[.str a0]) (Bi (by kernel_rfl) q8) (by kernel_rfl) (Y8 h9) Aai ?_;refine rs0 (.bool (y9 !=17)) (zg q8) ?_;refine rs0 (.bool (y9 !=17)) (zF q8) ?_;refine Ao (tn_ ?_);obtain rfl:=zj h;exact ⟨_,Ac [],rfl⟩
 rintro l3_m18 _ rfl h
 (try dsimp only at h);rcases Ad h with ⟨q10,h⟩ | ⟨q10,h⟩
 ·refine Af q10 ?_;refine Ak ?_;refine Ah (tr_ ?_);obtain rfl:=zj h;exact A3 [.bool false] (Aq rfl zl Ar)
 refine Ae q10 ?_;refine Ai (tn_ ?_);refine wr_ ?_;refine Bj h (fun (_:Unit) S_=>S_=⟨An [],Aj (Ap []),2⟩) ?_ ?_
 ·intro v_ h hk12;refine Ak ?_;refine Al ?_;refine A6 h (fun (l14_m21:Nat) S_=>S_=⟨An [(0,.str a0),(20,ai ((a0.size:Nat):Int)),(21,ai ((l14_m21:Nat):Int))],Aj (Ap []),2⟩) ⟨_,Ac [],rfl⟩ ?_;rintro n_ l14_m21 _ c_ rfl h hn14
  (try dsimp only at h);unfold En at h;unfold Mp;refine Ak ?_;refine Ab ?_;rcases Ad h with ⟨q17,h⟩ | ⟨q17,h⟩
  ·have q17_:=of_decide_eq_true q17;refine Af q17 ?_;refine Ai (tn_ ?_);refine wr_ ?_;refine Ab ?_;refine Al ?_;refine Ak ?_;refine Ax h (fun (l20_m35:Bool) S_=>S_=⟨An [(0,.str a0),(20,ai ((a0.size:Nat):Int)),(21,ai ((l14_m21:Nat):Int)),(35,.bool l20_m35)],Aj (Ap []),2⟩) ?_ ?_
   ·intro v_ h;obtain ⟨x21,e21,h⟩:=Ag h;obtain ⟨y22,h22,h⟩:=Ag h;rcases Ad h with ⟨q23,h⟩ | ⟨q23,h⟩
    ·obtain ⟨x24,e24,h⟩:=Ag h;obtain ⟨y25,h25,h⟩:=Ag h;refine Aa 17 ?_;refine rz0 (.str a0) ?_;refine rz0 (ai ((l14_m21:Nat):Int)) ?_;refine rs0 (.int .u8 ((x21.toNat:Nat):Int)) (Dx (s:=a0) (k:=.i64) (m:=((l14_m21:Nat):Int)) (by kernel_rfl) (by kernel_rfl) (Ay _) rfl e21) ?_;refine zc (.bool y22) [] [.int .u8 ((x21.toNat:Nat):Int)] (Hp h22) ?_;refine rz0 (.bool (!y22)) ?_;refine rz0 (.bool (!y22)) ?_;refine rs0 (.str a0) (zg q23) ?_;refine rs0 (ai ((l14_m21:Nat):Int)) (zg q23) ?_;refine rs0 (.int .u8 ((x24.toNat:Nat):Int)) (Fl (by kernel_rfl) q23 (Dx (s:=a0) (k:=.i64) (m:=((l14_m21:Nat):Int)) (by kernel_rfl) (by kernel_rfl) (Ay _) rfl e24)) ?_;refine B3 (.bool y25) [] [.int .u8 ((x24.toNat:Nat):Int)] _ (caps:=[]) (args0:=[.int .u8 ((x24.toNat:Nat):Int)]) (Bi (by kernel_rfl) q23) (by kernel_rfl) (Ya h25) Xp ?_;refine rs0 (.bool (!y25)) (zg q23) ?_;refine rs0 (.bool (!y25)) (zT q23) ?_;refine Ao (tn_ ?_);obtain rfl:=zj h;exact ⟨_,Ac [],rfl⟩
    refine Aa 17 ?_;refine rz0 (.str a0) ?_;refine rz0 (ai ((l14_m21:Nat):Int)) ?_;refine rs0 (.int .u8 ((x21.toNat:Nat):Int)) (Dx (s:=a0) (k:=.i64) (m:=((l14_m21:Nat):Int)) (by kernel_rfl) (by kernel_rfl) (Ay _) rfl e21) ?_;refine zc (.bool y22) [] [.int .u8 ((x21.toNat:Nat):Int)] (Hp h22) ?_;refine rz0 (.bool (!y22)) ?_;refine rz0 (.bool (!y22)) ?_;refine zs q23 ?_;refine zs q23 ?_;refine zs q23 ?_;refine zs q23 ?_;refine zs q23 ?_;refine rs0 (.bool false) (zF q23) ?_;refine Ao (tn_ ?_);obtain rfl:=zj h;exact ⟨_,Ac [],rfl⟩
   rintro l20_m35 _ rfl h
   (try dsimp only at h);rcases Ad h with ⟨q26,h⟩ | ⟨q26,h⟩
   ·refine Af q26 ?_;refine Ak ?_;refine Ah (br_ (tr_ (tr_ (br_ (tr_ ?_)))));obtain rfl:=zj h;have h:=hn14
    (try dsimp only at h);obtain rfl:=zj h;have h:=hk12
    (try dsimp only at h);obtain rfl:=zj h;exact A3 [.bool false] (Aq rfl zl Ar)
   refine Ae q26 ?_;refine Ai (bn_ (tn_ ?_));refine wr_ ?_;obtain ⟨g28,h⟩:=Av h;refine Aa 4 ?_;refine rs0 (ai ((l14_m21+1:Nat):Int)) (za g28) ?_;refine rsB 1 ?_;refine Ao (tn_ ?_);obtain rfl:=zj h;exact ⟨l14_m21+1,_,Ac [],rfl,hn14⟩
  have q17_:=of_decide_eq_false q17;refine Ae q17 ?_;refine Az (te_ (te_ (be_ (tn_ ?_))));obtain rfl:=zj h;have h:=hn14
  (try dsimp only at h);obtain rfl:=zj h;exact ⟨(),_,rfl,Ac [],rfl⟩
 rintro _ _ rfl h
 (try dsimp only at h);refine Ak ?_;refine Ah ?_;obtain rfl:=zj h;exact A3 [.bool true] (Aq rfl zl Ar)
def Ko:AC :=
 (.seq (rg [xo 2 (qm (cb false))])
 (.seq (rg [xo 3 (qm (tm 0)),xo 4 (qc 55 [tm 3,ci 3,ci 14] [[],[],[]]),xo 2 (qm (tm 4))])
 .ret))
def Tl:List Res:=[.tmp 2]
theorem Tf:Am Tryd.prog Tryd.f78=some (Ko,Tl):=by kernel_rfl
def Fc (a0:Int):Option Bool :=
 Option.bind (B2 a0 3 14) fun y3 =>
some y3
def Q5 (r:Bool):RV:=⟨false,[(false,[.sc (.bool r)])]⟩
theorem Qw {a0:Int} {r:Bool} (h:Fc a0=some r):Aw Tryd.prog Tab 78 [ai a0] (Q5 r):=by
 refine At (by kernel_rfl) Tryd.func78 Tf (n:=5) (by kernel_rfl) (by simp) (tl:=[(0,ai a0)]) rfl ?_;unfold Ko;unfold Fc at h;refine Ak ?_;refine Ab ?_;obtain ⟨y3,h3,h⟩:=Ag h;refine Aa 5 ?_;refine rz0 (ai a0) ?_;refine zc (.bool y3) [] [ai a0,ai 3,ai 14] (Bq h3) ?_;refine rsB 1 ?_;refine Ao (tn_ ?_);refine wr_ ?_;refine Ah ?_;obtain rfl:=zj h;exact A3 [.bool y3] (Aq rfl zl Ar)
def N5:AC :=
 (.seq (rg [xo 2 (qm (cb false))])
 (.seq (rg [xo 3 (qm (tm 0)),xo 4 (qb .eql (tm 3) (ci 7)),xo 5 (qm (tm 4)),⟨some 6,some (5,false),qm (tm 0)⟩,⟨some 7,some (5,false),qb .eql (tm 6) (ci 13)⟩,xo 8 (.i (.pick (tm 5) (cb true) (tm 7))),xo 2 (qm (tm 8))])
 .ret))
def Yg:List Res:=[.tmp 2]
theorem X2:Am Tryd.prog Tryd.f73=some (N5,Yg):=by kernel_rfl
def Dy (a0:Int):Option Bool :=
 Option.bind (cond (a0==7)
  (some true)
  (some (a0==13))) fun l2_m2 =>
some l2_m2
def Wb (r:Bool):RV:=⟨false,[(false,[.sc (.bool r)])]⟩
theorem Im {a0:Int} {r:Bool} (h:Dy a0=some r):Aw Tryd.prog Tab 73 [ai a0] (Wb r):=by
 refine At (by kernel_rfl) Tryd.func73 X2 (n:=9) (by kernel_rfl) (by simp) (tl:=[(0,ai a0)]) rfl ?_;unfold N5;unfold Dy at h;refine Ak ?_;refine Ax h (fun (l2_m2:Bool) S_=>S_=⟨An [(2,.bool l2_m2)],Aj (Ap []),2⟩) ?_ ?_
 ·intro v_ h;rcases Ad h with ⟨q3,h⟩ | ⟨q3,h⟩
  ·refine Aa 9 ?_;refine rz0 (ai a0) ?_;refine rz0 (.bool (a0==7)) ?_;refine rz0 (.bool (a0==7)) ?_;refine zs q3 ?_;refine zs q3 ?_;refine rs0 (.bool true) (zT q3) ?_;refine rsB 1 ?_;refine Ao (tn_ ?_);obtain rfl:=zj h;exact ⟨_,Ac [],rfl⟩
  refine Aa 9 ?_;refine rz0 (ai a0) ?_;refine rz0 (.bool (a0==7)) ?_;refine rz0 (.bool (a0==7)) ?_;refine rs0 (ai a0) (zg q3) ?_;refine rs0 (.bool (a0==13)) (zg q3) ?_;refine rs0 (.bool (a0==13)) (zF q3) ?_;refine rsB 1 ?_;refine Ao (tn_ ?_);obtain rfl:=zj h;exact ⟨_,Ac [],rfl⟩
 rintro l2_m2 _ rfl h
 (try dsimp only at h);refine Ah ?_;obtain rfl:=zj h;exact A3 [.bool l2_m2] (Aq rfl zl Ar)
def Hr:AC :=
 (.seq (rg [xo 4 (qm (cb false))])
 (.seq (.seq (rg [xo 5 (qm (tm 0)),xo 6 (qc 73 [tm 5] [[]])])
 (.cond (tm 6)
  (.seq (rg [xo 7 (qm (tm 1)),xo 8 (qc 55 [tm 7,ci 0,ci 96] [[],[],[]]),xo 4 (qm (tm 8))])
  .ret)
  .skip))
 (.seq (rg [xo 9 (qm (tm 1)),xo 10 (qb .eql (tm 9) (ci 0)),xo 4 (qm (tm 10))])
 .ret)))
def M3:List Res:=[.tmp 4]
theorem Mw:Am Tryd.prog Tryd.f80=some (Hr,M3):=by kernel_rfl
theorem L8:A8 Tryd.prog 80=true:=by kernel_rfl
def Cz (a0:Int) (a1:Int):Option Bool :=
 Option.bind (Dy a0) fun y4 =>
cond y4
 (Option.bind (B2 a1 0 96) fun y7 =>
 some y7)
 (some (a1==0))
def L7 (r:Bool):RV:=⟨false,[(false,[.sc (.bool r)])]⟩
theorem L5 {a0:Int} {a1:Int} {r:Bool} (h:Cz a0 a1=some r):Aw Tryd.prog Tab 80 [ai a0,ai a1] (L7 r):=by
 refine At (by kernel_rfl) Tryd.func80 Mw (n:=11) (by kernel_rfl) (by simp) (tl:=[(0,ai a0),(1,ai a1)]) rfl ?_;unfold Hr;unfold Cz at h;refine Ak ?_;refine Ab ?_;refine Ab ?_;obtain ⟨y4,h4,h⟩:=Ag h;refine Aa 4 ?_;refine rz0 (ai a0) ?_;refine zc (.bool y4) [] [ai a0] (Im h4) ?_;refine Ao (tn_ ?_);refine wr_ ?_;rcases Ad h with ⟨q5,h⟩ | ⟨q5,h⟩
 ·refine Af q5 ?_;refine Ab ?_;obtain ⟨y7,h7,h⟩:=Ag h;refine Aa 7 ?_;refine rz0 (ai a1) ?_;refine zc (.bool y7) [] [ai a1,ai 0,ai 96] (Bq h7) ?_;refine rsB 1 ?_;refine Ao (tn_ ?_);refine wr_ ?_;refine Ah (tr_ ?_);obtain rfl:=zj h;exact A3 [.bool y7] (Aq rfl zl Ar)
 refine Ae q5 ?_;refine Ai (tn_ ?_);refine wr_ ?_;refine Ak ?_;refine Ah ?_;obtain rfl:=zj h;exact A3 [.bool (a1==0)] (Aq rfl zl Ar)
def Mt:AC :=
 (.seq (rg [xo 1 (.i (.box 87 (tm 0))),xo 2 (.i (.alloc 66 [.int .i64 0,.int .i64 0])),xo 3 (qm (cb false))])
 (.seq (.block 0 (.seq (rg [xo 5 (qf 2 (tm 1)),xo 6 (ql (tm 5)),⟨some 7,none,.i (.bin .neq (tm 6) (.cst (.str ⟨#[]⟩)))⟩,xo 4 (qm (tm 7))])
 (.cond (tm 4)
  (.seq (rg [xo 8 (.build [.int .i64 0,.int .i64 0] []),xn (.st false 2 (tm 2) (tm 8)),xo 3 (qm (cb false))])
  .ret)
  (.seq (rg [xo 10 (qf 0 (tm 1)),xo 11 (ql (tm 10)),xo 12 (qb .eql (tm 11) (ci 1)),xo 9 (qm (tm 12))])
  (.cond (tm 9)
   (.seq (.region [xo 13 (qf 1 (tm 1)),xo 14 (ql (tm 13)),xo 15 (qf 1 (tm 1)),xo 16 (ql (tm 15)),xo 17 (.build [.int .i64 0,.int .i64 0] [(0,1,tm 14),(1,1,tm 16)]),xo 18 (qf 1 (tm 1)),xo 19 (ql (tm 18)),xo 20 (qc 55 [tm 19,ci 0,ci 12] [[],[],[]]),xn (.st false 2 (tm 2) (tm 17)),xo 3 (qm (tm 20))] true [(1,7),(3,7)])
   .ret)
   (.seq (rg [xo 22 (qf 0 (tm 1)),xo 23 (ql (tm 22)),xo 24 (qb .eql (tm 23) (ci 2)),xo 21 (qm (tm 24))])
   (.cond (tm 21)
    (.seq (.region [xo 25 (.build [.int .i64 0,.int .i64 0] [(0,1,ci 2),(1,1,ci 2)]),xo 26 (qf 1 (tm 1)),xo 27 (ql (tm 26)),xo 28 (qb .eql (tm 27) (ci 0)),xn (.st false 2 (tm 2) (tm 25)),xo 3 (qm (tm 28))] true [(2,4)])
    .ret)
    (.seq (rg [xo 30 (qf 0 (tm 1)),xo 31 (ql (tm 30)),xo 32 (qc 78 [tm 31] [[]]),xo 29 (qm (tm 32))])
    (.cond (tm 29)
     (.seq (.region [xo 33 (qf 0 (tm 1)),xo 34 (ql (tm 33)),xo 35 (qc 79 [tm 34] [[]]),xo 36 (qf 0 (tm 1)),xo 37 (ql (tm 36)),xo 38 (qf 1 (tm 1)),xo 39 (ql (tm 38)),xo 40 (qc 80 [tm 37,tm 39] [[],[]]),xn (.st false 2 (tm 2) (tm 35)),xo 3 (qm (tm 40))] true [(2,4),(2,6)])
     .ret)
     .skip)))))))))
 (.seq (rg [xo 41 (.build [.int .i64 0,.int .i64 0] []),xn (.st false 2 (tm 2) (tm 41)),xo 3 (qm (cb false))])
 .ret)))
def Wd:List Res:=[.cell 2 false 2,.tmp 3]
theorem Wu:Am Tryd.prog Tryd.f64=some (Mt,Wd):=by kernel_rfl
def Ey (a0_0:Int) (a0_1:Int) (a0_2:ByteArray):Option (Int×Int×Bool) :=
 cond (!(a0_2.toList==(⟨#[]⟩:ByteArray).toList))
 (some (0,0,false))
 (cond (a0_0==1)
  (Option.bind (B2 a0_1 0 12) fun y9 =>
  some (a0_1,a0_1,y9))
  (cond (a0_0==2)
   (some (2,2,a0_1==0))
   (Option.bind (Fc a0_0) fun y14 =>
   cond y14
    (Option.bind (Fy a0_0) fun y17 =>
    Option.bind (Cz a0_0 a0_1) fun y18 =>
    some (y17.1,y17.2,y18))
    (some (0,0,false)))))
def Ur (r:Int×Int×Bool):RV:=⟨true,[(true,[.sc (.int .i64 r.1),.sc (.int .i64 r.2.1)]),(false,[.sc (.bool r.2.2)])]⟩
theorem Uz {a0_0:Int} {a0_1:Int} {a0_2:ByteArray} {r:Int×Int×Bool} (h:Ey a0_0 a0_1 a0_2=some r):Aw Tryd.prog Tab 64 [.agg [ai a0_0,ai a0_1,.str a0_2]] (Ur r):=by
 refine At (by kernel_rfl) Tryd.func64 Wu (n:=42) (by kernel_rfl) (by simp) (tl:=[(0,.agg [ai a0_0,ai a0_1,.str a0_2])]) rfl ?_;unfold Mt;unfold Ey at h;refine Ak ?_;refine Ab ?_;refine Al ?_;refine Ak ?_;rcases Ad h with ⟨q4,h⟩ | ⟨q4,h⟩
 ·refine Af q4 ?_;refine Ak ?_;refine Ah (br_ (tr_ ?_));obtain rfl:=zj h;exact A3 [.agg [ai 0,ai 0],.bool false] (Gh (Bh zl (Bh zl Gb)) (Aq rfl zl Ar))
 refine Ae q4 ?_;refine Ak ?_;rcases Ad h with ⟨q7,h⟩ | ⟨q7,h⟩
 ·refine Af q7 ?_;refine Ab ?_;obtain ⟨y9,h9,h⟩:=Ag h;refine A4 22 ?_;refine dz0 (.box (oi 1 1) 1) ?_;refine dzl (ai a0_1) ?_;refine dz0 (.box (oi 1 1) 1) ?_;refine dzl (ai a0_1) ?_;refine dz0 (.agg [ai a0_1,ai a0_1]) ?_;refine dz0 (.box (oi 1 1) 1) ?_;refine dzl (ai a0_1) ?_;refine D3 (.bool y9) [] [ai a0_1,ai 0,ai 12] _ (caps:=[]) (args0:=[ai a0_1,ai 0,ai 12]) trivial (by kernel_rfl) (Bq h9) Kt ?_;refine Yw (oi 2 2) (oi 2 2) (.cells 66 [ai a0_1,ai a0_1]) (by kernel_rfl) ?_;refine dz0 (.bool y9) ?_;refine Gw (Bf (by kernel_rfl)) (tn_ ?_);refine wr_ ?_;refine Ah (br_ (tr_ ?_));obtain rfl:=zj h;exact A3 [.agg [ai a0_1,ai a0_1],.bool y9] (Gh (Bh zl (Bh zl Gb)) (Aq rfl zl Ar))
 refine Ae q7 ?_;refine Ak ?_;rcases Ad h with ⟨q11,h⟩ | ⟨q11,h⟩
 ·refine Af q11 ?_;refine Ab ?_;refine A4 22 ?_;refine dsB 6 ?_;refine Gw (Bf (by kernel_rfl)) (tn_ ?_);refine wr_ ?_;refine Ah (br_ (tr_ ?_));obtain rfl:=zj h;exact A3 [.agg [ai 2,ai 2],.bool (a0_1==0)] (Gh (Bh zl (Bh zl Gb)) (Aq rfl zl Ar))
 refine Ae q11 ?_;refine Ab ?_;obtain ⟨y14,h14,h⟩:=Ag h;refine Aa 20 ?_;refine rz0 (.box (oi 1 1) 0) ?_;refine rzl (ai a0_0) ?_;refine zc (.bool y14) [] [ai a0_0] (Qw h14) ?_;refine rsB 1 ?_;refine Ao (tn_ ?_);refine wr_ ?_;rcases Ad h with ⟨q15,h⟩ | ⟨q15,h⟩
 ·refine Af q15 ?_;refine Ab ?_;obtain ⟨y17,h17,h⟩:=Ag h;obtain ⟨y18,h18,h⟩:=Ag h;refine A4 30 ?_;refine dz0 (.box (oi 1 1) 0) ?_;refine dzl (ai a0_0) ?_;refine D3 (.agg [ai y17.1,ai y17.2]) [] [ai a0_0] _ (caps:=[]) (args0:=[ai a0_0]) trivial (by kernel_rfl) (Nq h17) Nn ?_;refine dz0 (.box (oi 1 1) 0) ?_;refine dzl (ai a0_0) ?_;refine dz0 (.box (oi 1 1) 1) ?_;refine dzl (ai a0_1) ?_;refine D3 (.bool y18) [] [ai a0_0,ai a0_1] _ (caps:=[]) (args0:=[ai a0_0,ai a0_1]) trivial (by kernel_rfl) (L5 h18) L8 ?_;refine Yw (oi 2 2) (oi 2 2) (.cells 66 [ai y17.1,ai y17.2]) (by kernel_rfl) ?_;refine dz0 (.bool y18) ?_;refine Gw (Bf (by kernel_rfl)) (tn_ ?_);refine wr_ ?_;refine Ah (br_ (tr_ ?_));obtain rfl:=zj h;exact A3 [.agg [ai y17.1,ai y17.2],.bool y18] (Gh (Bh zl (Bh zl Gb)) (Aq rfl zl Ar))
 refine Ae q15 ?_;refine Ai (bn_ (tn_ ?_));refine wr_ ?_;refine Ak ?_;refine Ah ?_;obtain rfl:=zj h;exact A3 [.agg [ai 0,ai 0],.bool false] (Gh (Bh zl (Bh zl Gb)) (Aq rfl zl Ar))
def M1:AC :=
 (.seq (.seq (rg [xo 18 (qm (tm 3)),xo 19 (qm (tm 0)),xo 20 (.i (.lenS (tm 19))),xo 21 (qb .lss (tm 18) (tm 20))])
 (.cond (tm 21)
  .skip
  (.exit 0)))
 (.seq (.block 1 (.seq (rg [xo 24 (qm (tm 0)),xo 25 (qm (tm 3)),xo 26 (.i (.char (tm 24) (tm 25))),⟨some 27,none,.i (.bin .lss (tm 26) (.cst (.int .u8 97)))⟩,xo 28 (qm (tm 27)),⟨some 29,some (28,false),qm (tm 0)⟩,⟨some 30,some (28,false),qm (tm 3)⟩,⟨some 31,some (28,false),.i (.char (tm 29) (tm 30))⟩,⟨some 32,some (28,false),.i (.bin .gtr (tm 31) (.cst (.int .u8 122)))⟩,xo 33 (.i (.pick (tm 28) (cb true) (tm 32))),xo 34 (qm (tm 33)),⟨some 35,some (34,true),qm (tm 0)⟩,⟨some 36,some (34,true),qm (tm 3)⟩,⟨some 37,some (34,true),.i (.char (tm 35) (tm 36))⟩,⟨some 38,some (34,true),.i (.bin .lss (tm 37) (.cst (.int .u8 48)))⟩,⟨some 39,some (34,true),qm (tm 38)⟩,⟨some 40,some (39,false),qm (tm 0)⟩,⟨some 41,some (39,false),qm (tm 3)⟩,⟨some 42,some (39,false),.i (.char (tm 40) (tm 41))⟩,⟨some 43,some (39,false),.i (.bin .gtr (tm 42) (.cst (.int .u8 57)))⟩,⟨some 44,some (34,true),.i (.pick (tm 39) (cb true) (tm 43))⟩,xo 45 (.i (.pick (tm 34) (tm 44) (cb false)))])
 (.cond (tm 45)
  (.seq (rg [xo 2 (qm (cb false))])
  .ret)
  .skip)))
 (rg [xo 22 (qm (tm 3)),xo 23 (qb .add (tm 22) (ci 1)),xo 3 (qm (tm 23))])))
def Rz:AC :=
 (.seq (rg [xo 2 (qm (cb false))])
 (.seq (.seq (rg [xo 4 (qm (tm 0)),xo 5 (.i (.lenS (tm 4))),xo 6 (qc 51 [tm 5,ci 1,ci 8] [[],[],[]]),xo 7 (.i (.not (tm 6))),xo 8 (qm (tm 7)),⟨some 9,some (8,false),qm (tm 0)⟩,⟨some 10,some (8,false),.i (.char (tm 9) (ci 0))⟩,⟨some 11,some (8,false),.i (.bin .lss (tm 10) (.cst (.int .u8 97)))⟩,xo 12 (.i (.pick (tm 8) (cb true) (tm 11))),xo 13 (qm (tm 12)),⟨some 14,some (13,false),qm (tm 0)⟩,⟨some 15,some (13,false),.i (.char (tm 14) (ci 0))⟩,⟨some 16,some (13,false),.i (.bin .gtr (tm 15) (.cst (.int .u8 122)))⟩,xo 17 (.i (.pick (tm 13) (cb true) (tm 16)))])
 (.cond (tm 17)
  (.seq (rg [xo 2 (qm (cb false))])
  .ret)
  .skip))
 (.seq (.seq (rg [xo 3 (qm (ci 1))])
 (.block 0 (.loop M1)))
 (.seq (rg [xo 2 (qm (cb true))])
 .ret))))
def Adi:List Res:=[.tmp 2]
theorem Adg:Am Tryd.prog Tryd.f47=some (Rz,Adi):=by kernel_rfl
def Bo (a0:ByteArray) (l13_m3:Nat):Option (Ctl Nat (Ctl Unit Bool)) :=
 cond (decide (((l13_m3:Nat):Int)<((a0.size:Nat):Int)))
 (Option.bind (Option.bind (a0[l13_m3]?) fun x19 =>
  cond (decide (((x19.toNat:Nat):Int)<97))
   (Option.bind (a0[l13_m3]?) fun x21 =>
   cond (decide (((x21.toNat:Nat):Int)<48))
    (some true)
    (Option.bind (a0[l13_m3]?) fun x23 =>
    some (decide (57<((x23.toNat:Nat):Int)))))
   (Option.bind (a0[l13_m3]?) fun x24 =>
   cond (decide (122<((x24.toNat:Nat):Int)))
    (Option.bind (a0[l13_m3]?) fun x26 =>
    cond (decide (((x26.toNat:Nat):Int)<48))
     (some true)
     (Option.bind (a0[l13_m3]?) fun x28 =>
     some (decide (57<((x28.toNat:Nat):Int)))))
    (some false))) fun l18_m45 =>
 cond l18_m45
  (some (Ctl.out (Ctl.out false)))
  (og (l13_m3+1<4611686018427387904) <|
  some (Ctl.next (l13_m3+1))))
 (some (Ctl.out (Ctl.next ())))
def Iu (a0:ByteArray):Option Bool :=
 Option.bind (Option.bind (Bz ((a0.size:Nat):Int) 1 8) fun y4 =>
 cond (!y4)
  (some true)
  (Option.bind (a0[0]?) fun x6 =>
  cond (decide (((x6.toNat:Nat):Int)<97))
   (some true)
   (Option.bind (a0[0]?) fun x8 =>
   some (decide (122<((x8.toNat:Nat):Int)))))) fun l3_m17 =>
cond l3_m17
 (some false)
 (Du (A7 (fun s_:Nat=>Bo a0 s_) 4611686018427387904 1) fun _ =>
 some true)
def Aap (r:Bool):RV:=⟨false,[(false,[.sc (.bool r)])]⟩
set_option maxHeartbeats 1600000 in
theorem Oy {a0:ByteArray} {r:Bool} (h:Iu a0=some r):Aw Tryd.prog Tab 47 [.str a0] (Aap r):=by
 refine At (by kernel_rfl) Tryd.func47 Adg (n:=46) (by kernel_rfl) (by simp) (tl:=[(0,.str a0)]) rfl ?_;unfold Rz;unfold Iu at h;refine Ak ?_;refine Ab ?_;refine Ax h (fun (l3_m17:Bool) S_=>S_=⟨An [(0,.str a0),(17,.bool l3_m17)],Aj (Ap []),2⟩) ?_ ?_
 ·intro v_ h;obtain ⟨y4,h4,h⟩:=Ag h;rcases Ad h with ⟨q5,h⟩ | ⟨q5,h⟩
  ·refine Aa 16 ?_;refine rz0 (.str a0) ?_;refine rz0 (ai ((a0.size:Nat):Int)) ?_;refine zc (.bool y4) [] [ai ((a0.size:Nat):Int),ai 1,ai 8] (Bm h4) ?_;refine rz0 (.bool (!y4)) ?_;refine rz0 (.bool (!y4)) ?_;refine zs q5 ?_;refine zs q5 ?_;refine zs q5 ?_;refine rs0 (.bool true) (zT q5) ?_;refine rsB 5 ?_;refine Ao (tn_ ?_);obtain rfl:=zj h;exact ⟨_,Ac [],rfl⟩
  obtain ⟨x6,e6,h⟩:=Ag h;rcases Ad h with ⟨q7,h⟩ | ⟨q7,h⟩
  ·have q7_:=of_decide_eq_true q7;refine Aa 16 ?_;refine rz0 (.str a0) ?_;refine rz0 (ai ((a0.size:Nat):Int)) ?_;refine zc (.bool y4) [] [ai ((a0.size:Nat):Int),ai 1,ai 8] (Bm h4) ?_;refine rz0 (.bool (!y4)) ?_;refine rz0 (.bool (!y4)) ?_;refine rs0 (.str a0) (zg q5) ?_;refine rs0 (.int .u8 ((x6.toNat:Nat):Int)) (Fl (by kernel_rfl) q5 (Dx (s:=a0) (k:=.i64) (m:=0) (by kernel_rfl) (by kernel_rfl) (by decide) rfl e6)) ?_;refine rs0 (.bool (decide (((x6.toNat:Nat):Int)<97))) (zg q5) ?_;refine rs0 (.bool (decide (((x6.toNat:Nat):Int)<97))) (zF q5) ?_;refine rz0 (.bool (decide (((x6.toNat:Nat):Int)<97))) ?_;refine zs q7 ?_;refine zs q7 ?_;refine zs q7 ?_;refine rs0 (.bool true) (zT q7) ?_;refine Ao (tn_ ?_);obtain rfl:=zj h;exact ⟨_,Ac [],rfl⟩
  have q7_:=of_decide_eq_false q7;obtain ⟨x8,e8,h⟩:=Ag h;refine Aa 16 ?_;refine rz0 (.str a0) ?_;refine rz0 (ai ((a0.size:Nat):Int)) ?_;refine zc (.bool y4) [] [ai ((a0.size:Nat):Int),ai 1,ai 8] (Bm h4) ?_;refine rz0 (.bool (!y4)) ?_;refine rz0 (.bool (!y4)) ?_;refine rs0 (.str a0) (zg q5) ?_;refine rs0 (.int .u8 ((x6.toNat:Nat):Int)) (Fl (by kernel_rfl) q5 (Dx (s:=a0) (k:=.i64) (m:=0) (by kernel_rfl) (by kernel_rfl) (by decide) rfl e6)) ?_;refine rs0 (.bool (decide (((x6.toNat:Nat):Int)<97))) (zg q5) ?_;refine rs0 (.bool (decide (((x6.toNat:Nat):Int)<97))) (zF q5) ?_;refine rz0 (.bool (decide (((x6.toNat:Nat):Int)<97))) ?_;refine rs0 (.str a0) (zg q7) ?_;refine rs0 (.int .u8 ((x8.toNat:Nat):Int)) (Fl (by kernel_rfl) q7 (Dx (s:=a0) (k:=.i64) (m:=0) (by kernel_rfl) (by kernel_rfl) (by decide) rfl e8)) ?_;refine rs0 (.bool (decide (122<((x8.toNat:Nat):Int)))) (zg q7) ?_;refine rs0 (.bool (decide (122<((x8.toNat:Nat):Int)))) (zF q7) ?_;refine Ao (tn_ ?_);obtain rfl:=zj h;exact ⟨_,Ac [],rfl⟩
 rintro l3_m17 _ rfl h
 (try dsimp only at h);rcases Ad h with ⟨q9,h⟩ | ⟨q9,h⟩
 ·refine Af q9 ?_;refine Ak ?_;refine Ah (tr_ ?_);obtain rfl:=zj h;exact A3 [.bool false] (Aq rfl zl Ar)
 refine Ae q9 ?_;refine Ai (tn_ ?_);refine wr_ ?_;refine Bj h (fun (_:Unit) S_=>S_=⟨An [],Aj (Ap []),2⟩) ?_ ?_
 ·intro v_ h hk11;refine Ak ?_;refine Al ?_;refine A6 h (fun (l13_m3:Nat) S_=>S_=⟨An [(0,.str a0),(3,ai ((l13_m3:Nat):Int))],Aj (Ap []),2⟩) ⟨_,Ac [],rfl⟩ ?_;rintro n_ l13_m3 _ c_ rfl h hn13
  (try dsimp only at h);unfold Bo at h;unfold M1;refine Ab ?_;refine Ak ?_;rcases Ad h with ⟨q16,h⟩ | ⟨q16,h⟩
  ·have q16_:=of_decide_eq_true q16;refine Af q16 ?_;refine Ai (tn_ ?_);refine wr_ ?_;refine Ab ?_;refine Al ?_;refine Ax h (fun (l18_m45:Bool) S_=>S_=⟨An [(0,.str a0),(3,ai ((l13_m3:Nat):Int)),(45,.bool l18_m45)],Aj (Ap []),2⟩) ?_ ?_
   ·intro v_ h;obtain ⟨x19,e19,h⟩:=Ag h;rcases Ad h with ⟨q20,h⟩ | ⟨q20,h⟩
    ·have q20_:=of_decide_eq_true q20;obtain ⟨x21,e21,h⟩:=Ag h;rcases Ad h with ⟨q22,h⟩ | ⟨q22,h⟩
     ·have q22_:=of_decide_eq_true q22;refine Aa 28 ?_;refine rz0 (.str a0) ?_;refine rz0 (ai ((l13_m3:Nat):Int)) ?_;refine rs0 (.int .u8 ((x19.toNat:Nat):Int)) (Dx (s:=a0) (k:=.i64) (m:=((l13_m3:Nat):Int)) (by kernel_rfl) (by kernel_rfl) (Ay _) rfl e19) ?_;refine rz0 (.bool (decide (((x19.toNat:Nat):Int)<97))) ?_;refine rz0 (.bool (decide (((x19.toNat:Nat):Int)<97))) ?_;refine zs q20 ?_;refine zs q20 ?_;refine zs q20 ?_;refine zs q20 ?_;refine rs0 (.bool true) (zT q20) ?_;refine rz0 (.bool true) ?_;refine rz0 (.str a0) ?_;refine rz0 (ai ((l13_m3:Nat):Int)) ?_;refine rs0 (.int .u8 ((x21.toNat:Nat):Int)) (Dx (s:=a0) (k:=.i64) (m:=((l13_m3:Nat):Int)) (by kernel_rfl) (by kernel_rfl) (Ay _) rfl e21) ?_;refine rz0 (.bool (decide (((x21.toNat:Nat):Int)<48))) ?_;refine rz0 (.bool (decide (((x21.toNat:Nat):Int)<48))) ?_;refine zs q22 ?_;refine zs q22 ?_;refine zs q22 ?_;refine zs q22 ?_;refine rs0 (.bool true) (zT q22) ?_;refine rsB 1 ?_;refine Ao (tn_ ?_);obtain rfl:=zj h;exact ⟨_,Ac [],rfl⟩
     have q22_:=of_decide_eq_false q22;obtain ⟨x23,e23,h⟩:=Ag h;refine Aa 28 ?_;refine rz0 (.str a0) ?_;refine rz0 (ai ((l13_m3:Nat):Int)) ?_;refine rs0 (.int .u8 ((x19.toNat:Nat):Int)) (Dx (s:=a0) (k:=.i64) (m:=((l13_m3:Nat):Int)) (by kernel_rfl) (by kernel_rfl) (Ay _) rfl e19) ?_;refine rz0 (.bool (decide (((x19.toNat:Nat):Int)<97))) ?_;refine rz0 (.bool (decide (((x19.toNat:Nat):Int)<97))) ?_;refine zs q20 ?_;refine zs q20 ?_;refine zs q20 ?_;refine zs q20 ?_;refine rs0 (.bool true) (zT q20) ?_;refine rz0 (.bool true) ?_;refine rz0 (.str a0) ?_;refine rz0 (ai ((l13_m3:Nat):Int)) ?_;refine rs0 (.int .u8 ((x21.toNat:Nat):Int)) (Dx (s:=a0) (k:=.i64) (m:=((l13_m3:Nat):Int)) (by kernel_rfl) (by kernel_rfl) (Ay _) rfl e21) ?_;refine rz0 (.bool (decide (((x21.toNat:Nat):Int)<48))) ?_;refine rz0 (.bool (decide (((x21.toNat:Nat):Int)<48))) ?_;refine rs0 (.str a0) (zg q22) ?_;refine rs0 (ai ((l13_m3:Nat):Int)) (zg q22) ?_;refine rs0 (.int .u8 ((x23.toNat:Nat):Int)) (Fl (by kernel_rfl) q22 (Dx (s:=a0) (k:=.i64) (m:=((l13_m3:Nat):Int)) (by kernel_rfl) (by kernel_rfl) (Ay _) rfl e23)) ?_;refine rs0 (.bool (decide (57<((x23.toNat:Nat):Int)))) (zg q22) ?_;refine rs0 (.bool (decide (57<((x23.toNat:Nat):Int)))) (zF q22) ?_;refine rsB 1 ?_;refine Ao (tn_ ?_);obtain rfl:=zj h;exact ⟨_,Ac [],rfl⟩
    have q20_:=of_decide_eq_false q20;obtain ⟨x24,e24,h⟩:=Ag h;rcases Ad h with ⟨q25,h⟩ | ⟨q25,h⟩
    ·have q25_:=of_decide_eq_true q25;obtain ⟨x26,e26,h⟩:=Ag h;rcases Ad h with ⟨q27,h⟩ | ⟨q27,h⟩
     ·have q27_:=of_decide_eq_true q27;refine Aa 28 ?_;refine rz0 (.str a0) ?_;refine rz0 (ai ((l13_m3:Nat):Int)) ?_;refine rs0 (.int .u8 ((x19.toNat:Nat):Int)) (Dx (s:=a0) (k:=.i64) (m:=((l13_m3:Nat):Int)) (by kernel_rfl) (by kernel_rfl) (Ay _) rfl e19) ?_;refine rz0 (.bool (decide (((x19.toNat:Nat):Int)<97))) ?_;refine rz0 (.bool (decide (((x19.toNat:Nat):Int)<97))) ?_;refine rs0 (.str a0) (zg q20) ?_;refine rs0 (ai ((l13_m3:Nat):Int)) (zg q20) ?_;refine rs0 (.int .u8 ((x24.toNat:Nat):Int)) (Fl (by kernel_rfl) q20 (Dx (s:=a0) (k:=.i64) (m:=((l13_m3:Nat):Int)) (by kernel_rfl) (by kernel_rfl) (Ay _) rfl e24)) ?_;refine rs0 (.bool (decide (122<((x24.toNat:Nat):Int)))) (zg q20) ?_;refine rs0 (.bool (decide (122<((x24.toNat:Nat):Int)))) (zF q20) ?_;refine rz0 (.bool (decide (122<((x24.toNat:Nat):Int)))) ?_;refine rs0 (.str a0) (zg q25) ?_;refine rs0 (ai ((l13_m3:Nat):Int)) (zg q25) ?_;refine rs0 (.int .u8 ((x26.toNat:Nat):Int)) (Fl (by kernel_rfl) q25 (Dx (s:=a0) (k:=.i64) (m:=((l13_m3:Nat):Int)) (by kernel_rfl) (by kernel_rfl) (Ay _) rfl e26)) ?_;refine rs0 (.bool (decide (((x26.toNat:Nat):Int)<48))) (zg q25) ?_;refine rs0 (.bool (decide (((x26.toNat:Nat):Int)<48))) (zg q25) ?_;refine zs q27 ?_;refine zs q27 ?_;refine zs q27 ?_;refine zs q27 ?_;refine rs0 (.bool true) (Fl (by kernel_rfl) q25 (zT q27)) ?_;refine rs0 (.bool true) (zT q25) ?_;refine Ao (tn_ ?_);obtain rfl:=zj h;exact ⟨_,Ac [],rfl⟩
     have q27_:=of_decide_eq_false q27;obtain ⟨x28,e28,h⟩:=Ag h;refine Aa 28 ?_;refine rz0 (.str a0) ?_;refine rz0 (ai ((l13_m3:Nat):Int)) ?_;refine rs0 (.int .u8 ((x19.toNat:Nat):Int)) (Dx (s:=a0) (k:=.i64) (m:=((l13_m3:Nat):Int)) (by kernel_rfl) (by kernel_rfl) (Ay _) rfl e19) ?_;refine rz0 (.bool (decide (((x19.toNat:Nat):Int)<97))) ?_;refine rz0 (.bool (decide (((x19.toNat:Nat):Int)<97))) ?_;refine rs0 (.str a0) (zg q20) ?_;refine rs0 (ai ((l13_m3:Nat):Int)) (zg q20) ?_;refine rs0 (.int .u8 ((x24.toNat:Nat):Int)) (Fl (by kernel_rfl) q20 (Dx (s:=a0) (k:=.i64) (m:=((l13_m3:Nat):Int)) (by kernel_rfl) (by kernel_rfl) (Ay _) rfl e24)) ?_;refine rs0 (.bool (decide (122<((x24.toNat:Nat):Int)))) (zg q20) ?_;refine rs0 (.bool (decide (122<((x24.toNat:Nat):Int)))) (zF q20) ?_;refine rz0 (.bool (decide (122<((x24.toNat:Nat):Int)))) ?_;refine rs0 (.str a0) (zg q25) ?_;refine rs0 (ai ((l13_m3:Nat):Int)) (zg q25) ?_;refine rs0 (.int .u8 ((x26.toNat:Nat):Int)) (Fl (by kernel_rfl) q25 (Dx (s:=a0) (k:=.i64) (m:=((l13_m3:Nat):Int)) (by kernel_rfl) (by kernel_rfl) (Ay _) rfl e26)) ?_;refine rs0 (.bool (decide (((x26.toNat:Nat):Int)<48))) (zg q25) ?_;refine rs0 (.bool (decide (((x26.toNat:Nat):Int)<48))) (zg q25) ?_;refine rs0 (.str a0) (zg q27) ?_;refine rs0 (ai ((l13_m3:Nat):Int)) (zg q27) ?_;refine rs0 (.int .u8 ((x28.toNat:Nat):Int)) (Fl (by kernel_rfl) q27 (Dx (s:=a0) (k:=.i64) (m:=((l13_m3:Nat):Int)) (by kernel_rfl) (by kernel_rfl) (Ay _) rfl e28)) ?_;refine rs0 (.bool (decide (57<((x28.toNat:Nat):Int)))) (zg q27) ?_;refine rs0 (.bool (decide (57<((x28.toNat:Nat):Int)))) (Fl (by kernel_rfl) q25 (zF q27)) ?_;refine rs0 (.bool (decide (57<((x28.toNat:Nat):Int)))) (zT q25) ?_;refine Ao (tn_ ?_);obtain rfl:=zj h;exact ⟨_,Ac [],rfl⟩
    have q25_:=of_decide_eq_false q25;refine Aa 28 ?_;refine rz0 (.str a0) ?_;refine rz0 (ai ((l13_m3:Nat):Int)) ?_;refine rs0 (.int .u8 ((x19.toNat:Nat):Int)) (Dx (s:=a0) (k:=.i64) (m:=((l13_m3:Nat):Int)) (by kernel_rfl) (by kernel_rfl) (Ay _) rfl e19) ?_;refine rz0 (.bool (decide (((x19.toNat:Nat):Int)<97))) ?_;refine rz0 (.bool (decide (((x19.toNat:Nat):Int)<97))) ?_;refine rs0 (.str a0) (zg q20) ?_;refine rs0 (ai ((l13_m3:Nat):Int)) (zg q20) ?_;refine rs0 (.int .u8 ((x24.toNat:Nat):Int)) (Fl (by kernel_rfl) q20 (Dx (s:=a0) (k:=.i64) (m:=((l13_m3:Nat):Int)) (by kernel_rfl) (by kernel_rfl) (Ay _) rfl e24)) ?_;refine rs0 (.bool (decide (122<((x24.toNat:Nat):Int)))) (zg q20) ?_;refine rs0 (.bool (decide (122<((x24.toNat:Nat):Int)))) (zF q20) ?_;refine rz0 (.bool (decide (122<((x24.toNat:Nat):Int)))) ?_;refine zs q25 ?_;refine zs q25 ?_;refine zs q25 ?_;refine zs q25 ?_;refine zs q25 ?_;refine rs0 (.tup []) (Yr (by kernel_rfl)) ?_;refine rs0 (.tup []) (Yr (by kernel_rfl)) ?_;refine rs0 (.tup []) (Yr (by kernel_rfl)) ?_;refine rs0 (.tup []) (Yr (by kernel_rfl)) ?_;refine zs q25 ?_;refine rs0 (.bool false) (zF q25) ?_;refine Ao (tn_ ?_);obtain rfl:=zj h;exact ⟨_,Ac [],rfl⟩
   rintro l18_m45 _ rfl h
   (try dsimp only at h);rcases Ad h with ⟨q29,h⟩ | ⟨q29,h⟩
   ·refine Af q29 ?_;refine Ak ?_;refine Ah (br_ (tr_ (tr_ (br_ (tr_ ?_)))));obtain rfl:=zj h;have h:=hn13
    (try dsimp only at h);obtain rfl:=zj h;have h:=hk11
    (try dsimp only at h);obtain rfl:=zj h;exact A3 [.bool false] (Aq rfl zl Ar)
   refine Ae q29 ?_;refine Ai (bn_ (tn_ ?_));refine wr_ ?_;obtain ⟨g31,h⟩:=Av h;refine Aa 5 ?_;refine rz0 (ai ((l13_m3:Nat):Int)) ?_;refine rs0 (ai ((l13_m3+1:Nat):Int)) (za g31) ?_;refine rsB 1 ?_;refine Ao (tn_ ?_);obtain rfl:=zj h;exact ⟨l13_m3+1,_,Ac [],rfl,hn13⟩
  have q16_:=of_decide_eq_false q16;refine Ae q16 ?_;refine Az (te_ (te_ (be_ (tn_ ?_))));obtain rfl:=zj h;have h:=hn13
  (try dsimp only at h);obtain rfl:=zj h;exact ⟨(),_,rfl,Ac [],rfl⟩
 rintro _ _ rfl h
 (try dsimp only at h);refine Ak ?_;refine Ah ?_;obtain rfl:=zj h;exact A3 [.bool true] (Aq rfl zl Ar)
def Ls:AC :=
 (.seq (rg [xo 0 (qm (.cst .nils))])
 (.seq (rg [⟨some 1,none,.mkS 9 .str [.cst (.str ⟨#[105,100]⟩),.cst (.str ⟨#[115,119,97,112]⟩),.cst (.str ⟨#[99,111,112,121]⟩),.cst (.str ⟨#[100,105,115,99,97,114,100]⟩),.cst (.str ⟨#[97,100,100]⟩),.cst (.str ⟨#[122,101,114,111]⟩),.cst (.str ⟨#[115,99,97,108,101]⟩),.cst (.str ⟨#[100,101,108,97,121]⟩),.cst (.str ⟨#[99,111,99,111,112,121]⟩),.cst (.str ⟨#[99,111,100,105,115,99,97,114,100]⟩),.cst (.str ⟨#[99,111,97,100,100]⟩),.cst (.str ⟨#[99,111,122,101,114,111]⟩),.cst (.str ⟨#[99,111,115,99,97,108,101]⟩),.cst (.str ⟨#[99,111,100,101,108,97,121]⟩)]⟩,xo 0 (qm (tm 1))])
 .ret))
def Uq:List Res:=[.tmp 0]
theorem T6:Am Tryd.prog Tryd.f49=some (Ls,Uq):=by kernel_rfl
theorem Sz:A8 Tryd.prog 49=true:=by kernel_rfl
def F1  : Option (List ByteArray) :=
 some ([(⟨#[105,100]⟩:ByteArray),(⟨#[115,119,97,112]⟩:ByteArray),(⟨#[99,111,112,121]⟩:ByteArray),(⟨#[100,105,115,99,97,114,100]⟩:ByteArray),(⟨#[97,100,100]⟩:ByteArray),(⟨#[122,101,114,111]⟩:ByteArray),(⟨#[115,99,97,108,101]⟩:ByteArray),(⟨#[100,101,108,97,121]⟩:ByteArray),(⟨#[99,111,99,111,112,121]⟩:ByteArray),(⟨#[99,111,100,105,115,99,97,114,100]⟩:ByteArray),(⟨#[99,111,97,100,100]⟩:ByteArray),(⟨#[99,111,122,101,114,111]⟩:ByteArray),(⟨#[99,111,115,99,97,108,101]⟩:ByteArray),(⟨#[99,111,100,101,108,97,121]⟩:ByteArray)])
def Tq (r:List ByteArray):RV:=⟨false,[(false,[.new 9 .str r])]⟩
theorem Sn {r:List ByteArray} (h:F1=some r):Aw Tryd.prog Tab 49 [] (Tq r):=by
 refine At (by kernel_rfl) Tryd.func49 T6 (n:=2) (by kernel_rfl) (by simp) (tl:=[]) rfl ?_;unfold Ls;unfold F1 at h;refine Ak ?_;refine Ak ?_;refine Ah ?_;obtain rfl:=zj h;exact A3 [.own (oi 1 2) .str 0 14] (Aq rfl (Fm (by kernel_rfl) rfl) Ar)
def M8:AC :=
 (.seq (rg [xo 10 (qb .lss (tm 9) (tm 8))])
 (.seq (.cond (tm 10)
  .skip
  (.exit 0))
 (.seq (.block 1 (.seq (rg [xo 11 (qx 1 (tm 7) (tm 9)),xo 12 (ql (tm 11)),xo 6 (qm (tm 12))])
 (.seq (rg [xo 13 (qm (tm 6)),xo 14 (qm (tm 1)),xo 15 (qb .eql (tm 13) (tm 14))])
 (.cond (tm 15)
  (.seq (rg [xo 4 (qm (cb true))])
  .ret)
  .skip))))
 (rg [xo 16 (qb .add (tm 9) (ci 1)),xo 9 (qm (tm 16))]))))
def R4:AC :=
 (.seq (rg [xo 4 (qm (cb false))])
 (.seq (.seq (rg [xo 7 (qm (tm 0)),xo 8 (.i (.len (tm 7))),xo 9 (qm (ci 0))])
 (.block 0 (.loop M8)))
 (.seq (rg [xo 4 (qm (cb false))])
 .ret)))
def Ada:List Res:=[.tmp 4]
theorem Ady:Am Tryd.prog Tryd.f48=some (R4,Ada):=by kernel_rfl
theorem Abs:A8 Tryd.prog 48=true:=by kernel_rfl
def Cq (a0:List ByteArray) (a1:ByteArray) (l4_m9:Nat):Option (Ctl Nat (Ctl Unit Bool)) :=
 cond (decide (((l4_m9:Nat):Int)<((a0.length:Nat):Int)))
 (Option.bind (a0[l4_m9]?) fun x10 =>
 cond (x10.toList==a1.toList)
  (some (Ctl.out (Ctl.out true)))
  (og (l4_m9+1<4611686018427387904) <|
  some (Ctl.next (l4_m9+1))))
 (some (Ctl.out (Ctl.next ())))
def G5 (a0:List ByteArray) (a1:ByteArray):Option Bool :=
 Du (A7 (fun s_:Nat=>Cq a0 a1 s_) 4611686018427387904 0) fun _ =>
some false
def Abf (r:Bool):RV:=⟨false,[(false,[.sc (.bool r)])]⟩
theorem Y4 {a0:List ByteArray} {a1:ByteArray} {r:Bool} (h:G5 a0 a1=some r):Aw Tryd.prog Tab 48 [.tree .str a0,.str a1] (Abf r):=by
 refine At (by kernel_rfl) Tryd.func48 Ady (n:=17) (by kernel_rfl) (by simp) (tl:=[(0,.tree .str a0),(1,.str a1)]) rfl ?_;unfold R4;unfold G5 at h;refine Ak ?_;refine Bj h (fun (_:Unit) S_=>S_=⟨An [],Aj (Ap []),2⟩) ?_ ?_
 ·intro v_ h hk2;refine Ak ?_;refine Al ?_;refine A6 h (fun (l4_m9:Nat) S_=>S_=⟨An [(1,.str a1),(7,.tree .str a0),(8,ai ((a0.length:Nat):Int)),(9,ai ((l4_m9:Nat):Int))],Aj (Ap []),2⟩) ⟨_,Ac [],rfl⟩ ?_;rintro n_ l4_m9 _ c_ rfl h hn4
  (try dsimp only at h);unfold Cq at h;unfold M8;refine Ak ?_;refine Ab ?_;rcases Ad h with ⟨q7,h⟩ | ⟨q7,h⟩
  ·have q7_:=of_decide_eq_true q7;refine Af q7 ?_;refine Ai (tn_ ?_);refine wr_ ?_;refine Ab ?_;refine Al ?_;refine Ab ?_;obtain ⟨x10,e10,h⟩:=Ag h;refine Aa 6 ?_;refine rs0 (.telt none .str x10 0) (zi (t:=.str) (xs:=a0) (k:=.i64) (m:=((l4_m9:Nat):Int)) (Ay _) e10) ?_;refine rsB 2 ?_;refine Ao (tn_ ?_);refine wr_ ?_;refine Ak ?_;rcases Ad h with ⟨q12,h⟩ | ⟨q12,h⟩
   ·refine Af q12 ?_;refine Ak ?_;refine Ah (br_ (tr_ (tr_ (br_ (tr_ ?_)))));obtain rfl:=zj h;have h:=hn4
    (try dsimp only at h);obtain rfl:=zj h;have h:=hk2
    (try dsimp only at h);obtain rfl:=zj h;exact A3 [.bool true] (Aq rfl zl Ar)
   refine Ae q12 ?_;refine Ai (bn_ (tn_ ?_));refine wr_ ?_;obtain ⟨g14,h⟩:=Av h;refine Aa 11 ?_;refine rs0 (ai ((l4_m9+1:Nat):Int)) (za g14) ?_;refine rsB 1 ?_;refine Ao (tn_ ?_);obtain rfl:=zj h;exact ⟨l4_m9+1,_,Ac [],rfl,hn4⟩
  have q7_:=of_decide_eq_false q7;refine Ae q7 ?_;refine Az (te_ (te_ (be_ (tn_ ?_))));obtain rfl:=zj h;have h:=hn4
  (try dsimp only at h);obtain rfl:=zj h;exact ⟨(),_,rfl,Ac [],rfl⟩
 rintro _ _ rfl h
 (try dsimp only at h);refine Ak ?_;refine Ah ?_;obtain rfl:=zj h;exact A3 [.bool false] (Aq rfl zl Ar)
def Rp:AC :=
 (.seq (rg [xo 2 (qm (cb false))])
 (.seq (rg [xo 3 (qm (tm 0)),xo 4 (qc 47 [tm 3] [[]]),xo 5 (qm (tm 4)),⟨some 6,some (5,true),qc 49 [] []⟩,⟨some 7,some (5,true),qm (tm 0)⟩,⟨some 8,some (5,true),qc 48 [tm 6,tm 7] [[some .str],[]]⟩,⟨some 9,some (5,true),.i (.not (tm 8))⟩,xo 10 (.i (.pick (tm 5) (tm 9) (cb false))),xo 2 (qm (tm 10))])
 .ret))
def Aea:List Res:=[.tmp 2]
theorem Ad2:Am Tryd.prog Tryd.f28=some (Rp,Aea):=by kernel_rfl
theorem Ex:A8 Tryd.prog 28=true:=by kernel_rfl
def Hl (a0:ByteArray):Option Bool :=
 Option.bind (Option.bind (Iu a0) fun y3 =>
 cond y3
  (Option.bind (F1) fun y5 =>
  Option.bind (G5 y5 a0) fun y6 =>
  some (!y6))
  (some false)) fun l2_m2 =>
some l2_m2
def Ab5 (r:Bool):RV:=⟨false,[(false,[.sc (.bool r)])]⟩
theorem Ez {a0:ByteArray} {r:Bool} (h:Hl a0=some r):Aw Tryd.prog Tab 28 [.str a0] (Ab5 r):=by
 refine At (by kernel_rfl) Tryd.func28 Ad2 (n:=11) (by kernel_rfl) (by simp) (tl:=[(0,.str a0)]) rfl ?_;unfold Rp;unfold Hl at h;refine Ak ?_;refine Ax h (fun (l2_m2:Bool) S_=>S_=⟨An [(2,.bool l2_m2)],Aj (Ap []),2⟩) ?_ ?_
 ·intro v_ h;obtain ⟨y3,h3,h⟩:=Ag h;rcases Ad h with ⟨q4,h⟩ | ⟨q4,h⟩
  ·obtain ⟨y5,h5,h⟩:=Ag h;obtain ⟨y6,h6,h⟩:=Ag h;refine Aa 11 ?_;refine rz0 (.str a0) ?_;refine zc (.bool y3) [] [.str a0] (Oy h3) ?_;refine rz0 (.bool y3) ?_;refine B3 (.own (oi 96 5) .str 0 y5.length) [(oi 96 5,some (.arr 9 .str y5))] [] _ (caps:=[]) (args0:=[]) (Bi (by kernel_rfl) q4) (by kernel_rfl) (Sn h5) Sz ?_;refine rs0 (.str a0) (zg q4) ?_;refine B3 (.bool y6) [] [.own (oi 96 5) .str 0 y5.length,.str a0] _ (caps:=[]) (args0:=[.tree .str y5,.str a0]) (Bi (by kernel_rfl) q4) (U1 (Agx (e:=9) (by kernel_rfl) rfl) (U1 (by kernel_rfl) Akx)) (Y4 h6) Abs ?_;refine rs0 (.bool (!y6)) (zg q4) ?_;refine rs0 (.bool (!y6)) (zT q4) ?_;refine rsB 1 ?_;refine Ao (tn_ ?_);obtain rfl:=zj h;exact ⟨_,Ac [],rfl⟩
  refine Aa 11 ?_;refine rz0 (.str a0) ?_;refine zc (.bool y3) [] [.str a0] (Oy h3) ?_;refine rz0 (.bool y3) ?_;refine zs q4 ?_;refine zs q4 ?_;refine zs q4 ?_;refine zs q4 ?_;refine rs0 (.bool false) (zF q4) ?_;refine rsB 1 ?_;refine Ao (tn_ ?_);obtain rfl:=zj h;exact ⟨_,Ac [],rfl⟩
 rintro l2_m2 _ rfl h
 (try dsimp only at h);refine Ah ?_;obtain rfl:=zj h;exact A3 [.bool l2_m2] (Aq rfl zl Ar)
end
section
open Go.RowKit Go.Deep
set_option maxRecDepth 4000
def Me:AC :=
 (.seq (rg [xo 1 (.i (.box 66 (tm 0))),xo 2 (qm (cb false))])
 (.seq (rg [xo 3 (qf 0 (tm 1)),xo 4 (ql (tm 3)),xo 5 (qb .leq (tm 4) (ci 12)),xo 6 (qm (tm 5)),⟨some 7,some (6,true),qf 1 (tm 1)⟩,⟨some 8,some (6,true),ql (tm 7)⟩,⟨some 9,some (6,true),qb .leq (tm 8) (ci 12)⟩,xo 10 (.i (.pick (tm 6) (tm 9) (cb false))),xo 2 (qm (tm 10))])
 .ret))
def W2:List Res:=[.tmp 2]
theorem V9:Am Tryd.prog Tryd.f92=some (Me,W2):=by kernel_rfl
theorem Uh:A8 Tryd.prog 92=true:=by kernel_rfl
def Gs (a0_0:Int) (a0_1:Int):Option Bool :=
 Option.bind (cond (decide (a0_0<=12))
  (some (decide (a0_1<=12)))
  (some false)) fun l2_m2 =>
some l2_m2
def U4 (r:Bool):RV:=⟨false,[(false,[.sc (.bool r)])]⟩
theorem U7 {a0_0:Int} {a0_1:Int} {r:Bool} (h:Gs a0_0 a0_1=some r):Aw Tryd.prog Tab 92 [.agg [ai a0_0,ai a0_1]] (U4 r):=by
 refine At (by kernel_rfl) Tryd.func92 V9 (n:=11) (by kernel_rfl) (by simp) (tl:=[(0,.agg [ai a0_0,ai a0_1])]) rfl ?_;unfold Me;unfold Gs at h;refine Ak ?_;refine Ax h (fun (l2_m2:Bool) S_=>S_=⟨An [(2,.bool l2_m2)],Aj (Ap []),2⟩) ?_ ?_
 ·intro v_ h;rcases Ad h with ⟨q3,h⟩ | ⟨q3,h⟩
  ·have q3_:=of_decide_eq_true q3;refine Aa 12 ?_;refine rz0 (.box (oi 1 1) 0) ?_;refine rzl (ai a0_0) ?_;refine rz0 (.bool (decide (a0_0<=12))) ?_;refine rz0 (.bool (decide (a0_0<=12))) ?_;refine rs0 (.box (oi 1 1) 1) (zg q3) ?_;refine rsl (ai a0_1) (zg q3) ?_;refine rs0 (.bool (decide (a0_1<=12))) (zg q3) ?_;refine rs0 (.bool (decide (a0_1<=12))) (zT q3) ?_;refine rsB 1 ?_;refine Ao (tn_ ?_);obtain rfl:=zj h;exact ⟨_,Ac [],rfl⟩
  have q3_:=of_decide_eq_false q3;refine Aa 12 ?_;refine rz0 (.box (oi 1 1) 0) ?_;refine rzl (ai a0_0) ?_;refine rz0 (.bool (decide (a0_0<=12))) ?_;refine rz0 (.bool (decide (a0_0<=12))) ?_;refine zs q3 ?_;refine zs q3 ?_;refine zs q3 ?_;refine rs0 (.bool false) (zF q3) ?_;refine rsB 1 ?_;refine Ao (tn_ ?_);obtain rfl:=zj h;exact ⟨_,Ac [],rfl⟩
 rintro l2_m2 _ rfl h
 (try dsimp only at h);refine Ah ?_;obtain rfl:=zj h;exact A3 [.bool l2_m2] (Aq rfl zl Ar)
def Mn:AC :=
 (.seq (rg [xo 4 (.i (.box 66 (tm 1))),xo 5 (.i (.box 66 (tm 2))),xo 6 (.i (.alloc 66 [.int .i64 0,.int .i64 0])),xo 7 (qm (cb false))])
 (.seq (.seq (rg [xo 9 (qm (tm 0)),xo 10 (qb .eql (tm 9) (ci 15))])
 (.cond (tm 10)
  (.seq (.region [xo 11 (qf 0 (tm 4)),xo 12 (ql (tm 11)),xo 13 (qf 1 (tm 5)),xo 14 (ql (tm 13)),xo 15 (.build [.int .i64 0,.int .i64 0] [(0,1,tm 12),(1,1,tm 14)]),xo 16 (qf 1 (tm 4)),xo 17 (ql (tm 16)),xo 18 (qf 0 (tm 5)),xo 19 (ql (tm 18)),xo 20 (qb .eql (tm 17) (tm 19)),xn (.st false 2 (tm 6) (tm 15)),xo 7 (qm (tm 20))] true [(6,10),(8,10)])
  .ret)
  .skip))
 (.seq (rg [xo 21 (qf 0 (tm 4)),xo 22 (ql (tm 21)),xo 23 (qf 0 (tm 5)),xo 24 (ql (tm 23)),xo 25 (qb .add (tm 22) (tm 24)),xo 26 (qf 1 (tm 4)),xo 27 (ql (tm 26)),xo 28 (qf 1 (tm 5)),xo 29 (ql (tm 28)),xo 30 (qb .add (tm 27) (tm 29)),xo 31 (.build [.int .i64 0,.int .i64 0] [(0,1,tm 25),(1,1,tm 30)]),xo 8 (.i (.alloc 66 [.int .i64 0,.int .i64 0])),xn (.st false 2 (tm 8) (tm 31))])
 (.seq (.region [xo 32 (.i (.ld false 2 (tm 8))),xo 33 (.i (.ld false 2 (tm 8))),xo 34 (qc 92 [tm 33] [[none,none]]),xn (.st false 2 (tm 6) (tm 32)),xo 7 (qm (tm 34))] true [(0,2)])
 .ret))))
def Wr:List Res:=[.cell 6 false 2,.tmp 7]
theorem V0:Am Tryd.prog Tryd.f77=some (Mn,Wr):=by kernel_rfl
theorem Vc:A8 Tryd.prog 77=true:=by kernel_rfl
def Ek (a0:Int) (a1_0:Int) (a1_1:Int) (a2_0:Int) (a2_1:Int):Option (Int×Int×Bool) :=
 cond (a0==15)
 (some (a1_0,a2_1,a1_1==a2_0))
 (Option.bind (Gs (wI (a1_0+a2_0)) (wI (a1_1+a2_1))) fun y8 =>
 some (wI (a1_0+a2_0),wI (a1_1+a2_1),y8))
def Uw (r:Int×Int×Bool):RV:=⟨true,[(true,[.sc (.int .i64 r.1),.sc (.int .i64 r.2.1)]),(false,[.sc (.bool r.2.2)])]⟩
theorem U9 {a0:Int} {a1_0:Int} {a1_1:Int} {a2_0:Int} {a2_1:Int} {r:Int×Int×Bool} (h:Ek a0 a1_0 a1_1 a2_0 a2_1=some r):Aw Tryd.prog Tab 77 [ai a0,.agg [ai a1_0,ai a1_1],.agg [ai a2_0,ai a2_1]] (Uw r):=by
 refine At (by kernel_rfl) Tryd.func77 V0 (n:=35) (by kernel_rfl) (by simp) (tl:=[(0,ai a0),(1,.agg [ai a1_0,ai a1_1]),(2,.agg [ai a2_0,ai a2_1])]) rfl ?_;unfold Mn;unfold Ek at h;refine Ak ?_;refine Ab ?_;refine Ak ?_;rcases Ad h with ⟨q4,h⟩ | ⟨q4,h⟩
 ·refine Af q4 ?_;refine Ab ?_;refine A4 19 ?_;refine dsB 12 ?_;refine Gw (Bf (by kernel_rfl)) (tn_ ?_);refine wr_ ?_;refine Ah (tr_ ?_);obtain rfl:=zj h;exact A3 [.agg [ai a1_0,ai a2_1],.bool (a1_1==a2_0)] (Gh (Bh zl (Bh zl Gb)) (Aq rfl zl Ar))
 refine Ae q4 ?_;refine Ai (tn_ ?_);refine wr_ ?_;refine Ak ?_;refine Ab ?_;obtain ⟨y8,h8,h⟩:=Ag h;refine A4 25 ?_;refine dzl (.agg [ai (wI (a1_0+a2_0)),ai (wI (a1_1+a2_1))]) ?_;refine dzl (.agg [ai (wI (a1_0+a2_0)),ai (wI (a1_1+a2_1))]) ?_;refine D3 (.bool y8) [] [.agg [ai (wI (a1_0+a2_0)),ai (wI (a1_1+a2_1))]] _ (caps:=[]) (args0:=[.agg [ai (wI (a1_0+a2_0)),ai (wI (a1_1+a2_1))]]) trivial (by kernel_rfl) (U7 h8) Uh ?_;refine Yw (oi 6 3) (oi 6 3) (.cells 66 [ai (wI (a1_0+a2_0)),ai (wI (a1_1+a2_1))]) (by kernel_rfl) ?_;refine dz0 (.bool y8) ?_;refine Gw (Bf (by kernel_rfl)) (tn_ ?_);refine wr_ ?_;refine Ah ?_;obtain rfl:=zj h;exact A3 [.agg [ai (wI (a1_0+a2_0)),ai (wI (a1_1+a2_1))],.bool y8] (Gh (Bh zl (Bh zl Gb)) (Aq rfl zl Ar))
def N9:AC :=
 (.seq (rg [xo 23 (qb .lss (tm 22) (tm 21))])
 (.seq (.cond (tm 23)
  .skip
  (.exit 0))
 (.seq (.block 1 (.seq (rg [xo 24 (qx 3 (tm 20) (tm 22)),xo 25 (.i (.ld false 3 (tm 24))),⟨some 8,none,.i (.alloc 87 [.int .i64 0,.int .i64 0,.str ⟨#[]⟩])⟩,xn (.st false 3 (tm 8) (tm 25))])
 (.seq (.seq (rg [xo 26 (qf 0 (tm 8)),xo 27 (ql (tm 26)),xo 28 (qb .neq (tm 27) (ci 15)),xo 29 (qm (tm 28)),⟨some 30,some (29,true),qf 0 (tm 8)⟩,⟨some 31,some (29,true),ql (tm 30)⟩,⟨some 32,some (29,true),qb .neq (tm 31) (ci 16)⟩,xo 33 (.i (.pick (tm 29) (tm 32) (cb false)))])
 (.cond (tm 33)
  (.seq (rg [xo 35 (qm (tm 1)),xo 36 (.i (.ld false 3 (tm 8))),xo 37 (.call (tm 35) [tm 36] [[none,none,none]]),xo 34 (qm (tm 37)),xo 38 (.i (.extr 0 (tm 34))),xo 39 (.i (.extr 1 (tm 34))),xo 9 (.i (.alloc 66 [.int .i64 0,.int .i64 0])),xn (.st false 2 (tm 9) (tm 38)),xo 10 (qm (tm 39))])
  (.seq (.seq (rg [xo 40 (qm (tm 10)),xo 41 (.i (.not (tm 40)))])
  (.cond (tm 41)
   (.seq (rg [xo 42 (.build [.int .i64 0,.int .i64 0] []),xn (.st false 2 (tm 4) (tm 42)),xo 5 (qm (cb false))])
   .ret)
   .skip))
  (.seq (rg [xo 43 (qm (tm 6)),xo 44 (.i (.ld false 2 (tm 9))),xo 45 (.mkS 66 (.pair .int .int) [tm 44]),xo 46 (.append 66 (.pair .int .int) 16 (tm 43) (tm 45)),xo 6 (qm (tm 46))])
  (.exit 1))))
  .skip))
 (.seq (.seq (rg [xo 47 (qf 1 (tm 8)),xo 48 (ql (tm 47)),xo 49 (qb .neq (tm 48) (ci 0)),xo 50 (qm (tm 49)),⟨some 51,some (50,false),qf 2 (tm 8)⟩,⟨some 52,some (50,false),ql (tm 51)⟩,⟨some 53,some (50,false),.i (.bin .neq (tm 52) (.cst (.str ⟨#[]⟩)))⟩,xo 54 (.i (.pick (tm 50) (cb true) (tm 53))),xo 55 (qm (tm 54)),⟨some 56,some (55,false),qm (tm 6)⟩,⟨some 57,some (55,false),.i (.len (tm 56))⟩,⟨some 58,some (55,false),qb .lss (tm 57) (ci 2)⟩,xo 59 (.i (.pick (tm 55) (cb true) (tm 58)))])
 (.cond (tm 59)
  (.seq (rg [xo 60 (.build [.int .i64 0,.int .i64 0] []),xn (.st false 2 (tm 4) (tm 60)),xo 5 (qm (cb false))])
  .ret)
  .skip))
 (.seq (rg [xo 61 (qm (tm 6)),xo 62 (.i (.len (tm 61))),xo 63 (qb .sub (tm 62) (ci 1)),xo 11 (qm (tm 63))])
 (.seq (.region [xo 65 (qf 0 (tm 8)),xo 66 (ql (tm 65)),xo 67 (qm (tm 6)),xo 68 (qm (tm 11)),xo 69 (qb .sub (tm 68) (ci 1)),xo 70 (qx 2 (tm 67) (tm 69)),xo 71 (.i (.ld false 2 (tm 70))),xo 72 (qm (tm 6)),xo 73 (qm (tm 11)),xo 74 (qx 2 (tm 72) (tm 73)),xo 75 (.i (.ld false 2 (tm 74))),xo 76 (qc 77 [tm 66,tm 71,tm 75] [[],[none,none],[none,none]]),xo 64 (qm (tm 76)),xo 77 (.i (.extr 0 (tm 64))),xo 78 (.i (.extr 1 (tm 64))),xo 12 (.i (.alloc 66 [.int .i64 0,.int .i64 0])),xn (.st false 2 (tm 12) (tm 77)),xo 13 (qm (tm 78))] true [(11,15)])
 (.seq (.seq (rg [xo 79 (qm (tm 13)),xo 80 (.i (.not (tm 79)))])
 (.cond (tm 80)
  (.seq (rg [xo 81 (.build [.int .i64 0,.int .i64 0] []),xn (.st false 2 (tm 4) (tm 81)),xo 5 (qm (cb false))])
  .ret)
  .skip))
 (.region [xo 82 (qm (tm 6)),xo 83 (qm (tm 11)),xo 84 (qb .sub (tm 83) (ci 1)),xo 85 (.slice 2 (tm 82) none (some (tm 84)) none),xo 86 (.i (.ld false 2 (tm 12))),xo 87 (.mkS 66 (.pair .int .int) [tm 86]),xo 88 (.append 66 (.pair .int .int) 16 (tm 85) (tm 87)),xo 6 (qm (tm 88))] true []))))))))
 (rg [xo 89 (qb .add (tm 22) (ci 1)),xo 22 (qm (tm 89))]))))
def Ve:AC :=
 (.seq (rg [xo 4 (.i (.alloc 66 [.int .i64 0,.int .i64 0])),xo 5 (qm (cb false))])
 (.seq (.seq (rg [xo 14 (qm (tm 0)),xo 15 (.i (.len (tm 14))),xo 16 (qc 55 [tm 15,ci 1,ci 400] [[],[],[]]),xo 17 (.i (.not (tm 16)))])
 (.cond (tm 17)
  (.seq (rg [xo 18 (.build [.int .i64 0,.int .i64 0] []),xn (.st false 2 (tm 4) (tm 18)),xo 5 (qm (cb false))])
  .ret)
  .skip))
 (.seq (rg [xo 19 (.mkS 66 (.pair .int .int) []),xo 6 (qm (tm 19))])
 (.seq (.seq (rg [xo 20 (qm (tm 0)),xo 21 (.i (.len (tm 20))),xo 22 (qm (ci 0))])
 (.block 0 (.loop N9)))
 (.seq (rg [xo 90 (qm (tm 6)),xo 91 (qx 2 (tm 90) (ci 0)),xo 92 (.i (.ld false 2 (tm 91))),xo 93 (qm (tm 6)),xo 94 (.i (.len (tm 93))),xo 95 (qb .eql (tm 94) (ci 1)),xn (.st false 2 (tm 4) (tm 92)),xo 5 (qm (tm 95))])
 .ret)))))
def Af5:List Res:=[.cell 4 false 2,.tmp 5]
theorem Agy:Am Tryd.prog Tryd.f63=some (Ve,Af5):=by kernel_rfl
def Bk (a0:List (Int×Int×ByteArray)) (l10_m22:Nat) (l10_m6:List (Int×Int)):Option (Ctl (Nat×(List (Int×Int))) (Ctl (List (Int×Int)) (Int×Int×Bool))) :=
 cond (decide (((l10_m22:Nat):Int)<((a0.length:Nat):Int)))
 (Du (Option.bind (a0[l10_m22]?) fun x16 =>
  Option.bind (cond (x16.1 !=15)
    (some (x16.1 !=16))
    (some false)) fun l18_m33 =>
  cond l18_m33
   (Option.bind (Ey x16.1 x16.2.1 x16.2.2) fun y22 =>
   cond (!y22.2.2)
    (some (Ctl.out (Ctl.out (Ctl.out (0,0,false)))))
    (og (l10_m6.length+1<=1073741824∧(l10_m6.length+1)*16<=140737488355328) <|
    some (Ctl.next (l10_m6++([(y22.1,y22.2.1)])))))
   (Option.bind (cond (x16.2.1 !=0)
     (some true)
     (cond (!(x16.2.2.toList==(⟨#[]⟩:ByteArray).toList))
      (some true)
      (some (decide (((l10_m6.length:Nat):Int)<2))))) fun l30_m59 =>
   cond l30_m59
    (some (Ctl.out (Ctl.out (Ctl.out (0,0,false)))))
    (Option.bind (Fz l10_m6 (wI ((wI (((l10_m6.length:Nat):Int) - 1)) - 1))) fun x37 =>
    Option.bind (Fz l10_m6 (wI ((wI (((l10_m6.length:Nat):Int) - 1)) - 1))) fun x38 =>
    Option.bind (Fz l10_m6 (wI (((l10_m6.length:Nat):Int) - 1))) fun x39 =>
    Option.bind (Fz l10_m6 (wI (((l10_m6.length:Nat):Int) - 1))) fun x40 =>
    Option.bind (Ek x16.1 x38.1 x38.2 x40.1 x40.2) fun y41 =>
    cond (!y41.2.2)
     (some (Ctl.out (Ctl.out (Ctl.out (0,0,false)))))
     (og ((0:Int)<=0∧0<=wI ((wI (((l10_m6.length:Nat):Int) - 1)) - 1)∧wI ((wI (((l10_m6.length:Nat):Int) - 1)) - 1)<=((l10_m6.length:Nat):Int)) <|
     og (((l10_m6.take ((wI ((wI (((l10_m6.length:Nat):Int) - 1)) - 1)).toNat)).length)+1<=1073741824∧(((l10_m6.take ((wI ((wI (((l10_m6.length:Nat):Int) - 1)) - 1)).toNat)).length)+1)*16<=140737488355328) <|
     some (Ctl.next ((l10_m6.take ((wI ((wI (((l10_m6.length:Nat):Int) - 1)) - 1)).toNat))++([(y41.1,y41.2.1)]))))))) fun l14_m6 =>
 og (l10_m22+1<4611686018427387904) <|
 some (Ctl.next (l10_m22+1,l14_m6)))
 (some (Ctl.out (Ctl.next l10_m6)))
def Bu (a0:List (Int×Int×ByteArray)):Option (Int×Int×Bool) :=
 Option.bind (B2 ((a0.length:Nat):Int) 1 400) fun y4 =>
cond (!y4)
 (some (0,0,false))
 (Du (A7 (fun s_:Nat×(List (Int×Int))=>Bk a0 s_.1 s_.2) 4611686018427387904 (0,[])) fun l8_m6 =>
 Option.bind (l8_m6[0]?) fun x50 =>
 some (x50.1,x50.2,((l8_m6.length:Nat):Int)==1))
def H4 (r:Int×Int×Bool):RV:=⟨true,[(true,[.sc (.int .i64 r.1),.sc (.int .i64 r.2.1)]),(false,[.sc (.bool r.2.2)])]⟩
set_option maxHeartbeats 1600000 in
theorem H6 {a0:List (Int×Int×ByteArray)} {r:Int×Int×Bool} (h:Bu a0=some r):Aw Tryd.prog Tab 63 [.tree (.pair .int (.pair .int .str)) a0,.fn 64 []] (H4 r):=by
 refine At (by kernel_rfl) Tryd.func63 Agy (n:=96) (by kernel_rfl) (by simp) (tl:=[(0,.tree (.pair .int (.pair .int .str)) a0),(1,.fn 64 [])]) rfl ?_;unfold Ve;unfold Bu at h;refine Ak ?_;refine Ab ?_;refine Ab ?_;obtain ⟨y4,h4,h⟩:=Ag h;refine Aa 7 ?_;refine rz0 (.tree (.pair .int (.pair .int .str)) a0) ?_;refine rz0 (ai ((a0.length:Nat):Int)) ?_;refine zc (.bool y4) [] [ai ((a0.length:Nat):Int),ai 1,ai 400] (Bq h4) ?_;refine rsB 1 ?_;refine Ao (tn_ ?_);refine wr_ ?_;rcases Ad h with ⟨q5,h⟩ | ⟨q5,h⟩
 ·refine Af q5 ?_;refine Ak ?_;refine Ah (tr_ ?_);obtain rfl:=zj h;exact A3 [.agg [ai 0,ai 0],.bool false] (Gh (Bh zl (Bh zl Gb)) (Aq rfl zl Ar))
 refine Ae q5 ?_;refine Ai (tn_ ?_);refine wr_ ?_;refine Ak ?_;refine Bj h (fun (l8_m6:List (Int×Int)) S_=>S_=⟨An [(4,.box (oi 0 1) 0),(6,.own (oi 1 1) (.pair .int .int) 0 l8_m6.length)],Aj (Ap [(oi 0 1,.cells 66 [ai 0,ai 0]),(oi 1 1,.arr 66 (.pair .int .int) l8_m6)]),2⟩) ?_ ?_
 ·intro v_ h hk8;refine Ak ?_;refine Al ?_;refine A6 h (fun t_ S_=>∃ (l10_m22:Nat),∃ (l10_m6:List (Int×Int)),t_=(l10_m22,l10_m6)∧S_=⟨An [(1,.fn 64 []),(4,.box (oi 0 1) 0),(6,.own (oi 1 1) (.pair .int .int) 0 l10_m6.length),(20,.tree (.pair .int (.pair .int .str)) a0),(21,ai ((a0.length:Nat):Int)),(22,ai ((l10_m22:Nat):Int))],Aj (Ap [(oi 0 1,.cells 66 [ai 0,ai 0]),(oi 1 1,.arr 66 (.pair .int .int) l10_m6)]),2⟩) ⟨_,Ac [(oi 0 1,oi 4 1),(oi 1 1,oi 19 7)],⟨0,[],rfl,rfl⟩⟩ ?_;rintro n_ _ _ c_ ⟨l10_m22,l10_m6,rfl,rfl⟩ h hn10
  (try dsimp only at h);unfold Bk at h;unfold N9;refine Ak ?_;refine Ab ?_;rcases Ad h with ⟨q13,h⟩ | ⟨q13,h⟩
  ·have q13_:=of_decide_eq_true q13;refine Af q13 ?_;refine Ai (tn_ ?_);refine wr_ ?_;refine Bj h (fun (l14_m6:List (Int×Int)) S_=>S_=⟨An [(1,.fn 64 []),(4,.box (oi 0 1) 0),(6,.own (oi 1 1) (.pair .int .int) 0 l14_m6.length),(20,.tree (.pair .int (.pair .int .str)) a0),(21,ai ((a0.length:Nat):Int)),(22,ai ((l10_m22:Nat):Int))],Aj (Ap [(oi 0 1,.cells 66 [ai 0,ai 0]),(oi 1 1,.arr 66 (.pair .int .int) l14_m6)]),2⟩) ?_ ?_
   ·intro v_ h hk14;refine Al ?_;refine Ab ?_;obtain ⟨x16,e16,h⟩:=Ag h;refine Aa 7 ?_;refine rs0 (.telt none (.pair .int (.pair .int .str)) x16 0) (zi (t:=.pair .int (.pair .int .str)) (xs:=a0) (k:=.i64) (m:=((l10_m22:Nat):Int)) (Ay _) e16) ?_;refine rsB 3 ?_;refine Ao (tn_ ?_);refine wr_ ?_;refine Ab ?_;refine Ax h (fun (l18_m33:Bool) S_=>S_=⟨An [(1,.fn 64 []),(4,.box (oi 0 1) 0),(6,.own (oi 1 1) (.pair .int .int) 0 l10_m6.length),(8,.box (oi 2 1) 0),(20,.tree (.pair .int (.pair .int .str)) a0),(21,ai ((a0.length:Nat):Int)),(22,ai ((l10_m22:Nat):Int)),(33,.bool l18_m33)],Aj (Ap [(oi 0 1,.cells 66 [ai 0,ai 0]),(oi 1 1,.arr 66 (.pair .int .int) l10_m6),(oi 2 1,.cells 87 [ai x16.1,ai x16.2.1,.str x16.2.2])]),2⟩) ?_ ?_
    ·intro v_ h;rcases Ad h with ⟨q19,h⟩ | ⟨q19,h⟩
     ·refine Aa 15 ?_;refine rz0 (.box (oi 8 5) 0) ?_;refine rzl (ai x16.1) ?_;refine rz0 (.bool (x16.1 !=15)) ?_;refine rz0 (.bool (x16.1 !=15)) ?_;refine rs0 (.box (oi 8 5) 0) (zg q19) ?_;refine rsl (ai x16.1) (zg q19) ?_;refine rs0 (.bool (x16.1 !=16)) (zg q19) ?_;refine rs0 (.bool (x16.1 !=16)) (zT q19) ?_;refine Ao (tn_ ?_);obtain rfl:=zj h;exact ⟨_,Ac [(oi 2 1,oi 8 5)],rfl⟩
     refine Aa 15 ?_;refine rz0 (.box (oi 8 5) 0) ?_;refine rzl (ai x16.1) ?_;refine rz0 (.bool (x16.1 !=15)) ?_;refine rz0 (.bool (x16.1 !=15)) ?_;refine zs q19 ?_;refine zs q19 ?_;refine zs q19 ?_;refine rs0 (.bool false) (zF q19) ?_;refine Ao (tn_ ?_);obtain rfl:=zj h;exact ⟨_,Ac [(oi 2 1,oi 8 5)],rfl⟩
    rintro l18_m33 _ rfl h
    (try dsimp only at h);rcases Ad h with ⟨q20,h⟩ | ⟨q20,h⟩
    ·refine Af q20 ?_;refine Ab ?_;obtain ⟨y22,h22,h⟩:=Ag h;refine Aa 11 ?_;refine rz0 (.fn 64 []) ?_;refine rzl (.agg [ai x16.1,ai x16.2.1,.str x16.2.2]) ?_;refine zc (.tup [.agg [ai y22.1,ai y22.2.1],.bool y22.2.2]) [] [.agg [ai x16.1,ai x16.2.1,.str x16.2.2]] (Uz h22) ?_;refine rsB 6 ?_;refine Ao (tn_ ?_);refine wr_ ?_;refine Ab ?_;refine Ak ?_;rcases Ad h with ⟨q25,h⟩ | ⟨q25,h⟩
     ·refine Af q25 ?_;refine Ak ?_;refine Ah (tr_ (tr_ (br_ (tr_ (tr_ (br_ (tr_ ?_)))))));obtain rfl:=zj h;have h:=hk14
      (try dsimp only at h);obtain rfl:=zj h;have h:=hn10
      (try dsimp only at h);obtain rfl:=zj h;have h:=hk8
      (try dsimp only at h);obtain rfl:=zj h;exact A3 [.agg [ai 0,ai 0],.bool false] (Gh (Bh zl (Bh zl Gb)) (Aq rfl zl Ar))
     refine Ae q25 ?_;refine Ai (tn_ ?_);refine wr_ ?_;refine Ab ?_;obtain ⟨g28,h⟩:=Av h;refine Aa 18 ?_;refine rz0 (.own (oi 1 1) (.pair .int .int) 0 l10_m6.length) ?_;refine rzl (.agg [ai y22.1,ai y22.2.1]) ?_;refine rs1 (.own (oi 45 15) (.pair .int .int) 0 1) (oi 45 15) (.arr 66 (.pair .int .int) ([(y22.1,y22.2.1)])) (by kernel_rfl) ?_;refine rs2 (.own (oi 1 16) (.pair .int .int) 0 ((l10_m6++([(y22.1,y22.2.1)])).length)) (oi 1 1) (oi 1 16) (.arr 66 (.pair .int .int) (l10_m6++([(y22.1,y22.2.1)]))) (Ns (t:=.pair .int .int) (t':=.pair .int .int) (xs:=l10_m6) (ys:=[(y22.1,y22.2.1)]) (zs:=l10_m6++([(y22.1,y22.2.1)])) (j:=oi 1 1) (len:=l10_m6.length) (c:=.own (oi 45 15) (.pair .int .int) 0 1) (by kernel_rfl) (by kernel_rfl) rfl (by kernel_rfl) (Oo (e:=66) (by kernel_rfl) rfl) rfl g28) ?_;refine rsB 1 ?_;refine Ao (tn_ ?_);refine wr_ ?_;refine Az (te_ (be_ (tn_ ?_)));obtain rfl:=zj h;exact ⟨l10_m6++([(y22.1,y22.2.1)]),_,rfl,Ac [(oi 1 1,oi 1 16)],rfl⟩
    refine Ae q20 ?_;refine Ai (tn_ ?_);refine wr_ ?_;refine Ab ?_;refine Ax h (fun (l30_m59:Bool) S_=>S_=⟨An [(1,.fn 64 []),(4,.box (oi 0 1) 0),(6,.own (oi 1 1) (.pair .int .int) 0 l10_m6.length),(8,.box (oi 2 1) 0),(20,.tree (.pair .int (.pair .int .str)) a0),(21,ai ((a0.length:Nat):Int)),(22,ai ((l10_m22:Nat):Int)),(59,.bool l30_m59)],Aj (Ap [(oi 0 1,.cells 66 [ai 0,ai 0]),(oi 1 1,.arr 66 (.pair .int .int) l10_m6),(oi 2 1,.cells 87 [ai x16.1,ai x16.2.1,.str x16.2.2])]),2⟩) ?_ ?_
    ·intro v_ h;rcases Ad h with ⟨q31,h⟩ | ⟨q31,h⟩
     ·refine Aa 15 ?_;refine rz0 (.box (oi 2 1) 1) ?_;refine rzl (ai x16.2.1) ?_;refine rz0 (.bool (x16.2.1 !=0)) ?_;refine rz0 (.bool (x16.2.1 !=0)) ?_;refine zs q31 ?_;refine zs q31 ?_;refine zs q31 ?_;refine rs0 (.bool true) (zT q31) ?_;refine rsB 5 ?_;refine Ao (tn_ ?_);obtain rfl:=zj h;exact ⟨_,Ac [],rfl⟩
     rcases Ad h with ⟨q32,h⟩ | ⟨q32,h⟩
     ·refine Aa 15 ?_;refine rz0 (.box (oi 2 1) 1) ?_;refine rzl (ai x16.2.1) ?_;refine rz0 (.bool (x16.2.1 !=0)) ?_;refine rz0 (.bool (x16.2.1 !=0)) ?_;refine rs0 (.box (oi 2 1) 2) (zg q31) ?_;refine rsl (.str x16.2.2) (zg q31) ?_;refine rs0 (.bool (!(x16.2.2.toList==(⟨#[]⟩:ByteArray).toList))) (zg q31) ?_;refine rs0 (.bool (!(x16.2.2.toList==(⟨#[]⟩:ByteArray).toList))) (zF q31) ?_;refine rz0 (.bool (!(x16.2.2.toList==(⟨#[]⟩:ByteArray).toList))) ?_;refine zs q32 ?_;refine zs q32 ?_;refine zs q32 ?_;refine rs0 (.bool true) (zT q32) ?_;refine Ao (tn_ ?_);obtain rfl:=zj h;exact ⟨_,Ac [],rfl⟩
     refine Aa 15 ?_;refine rz0 (.box (oi 2 1) 1) ?_;refine rzl (ai x16.2.1) ?_;refine rz0 (.bool (x16.2.1 !=0)) ?_;refine rz0 (.bool (x16.2.1 !=0)) ?_;refine rs0 (.box (oi 2 1) 2) (zg q31) ?_;refine rsl (.str x16.2.2) (zg q31) ?_;refine rs0 (.bool (!(x16.2.2.toList==(⟨#[]⟩:ByteArray).toList))) (zg q31) ?_;refine rs0 (.bool (!(x16.2.2.toList==(⟨#[]⟩:ByteArray).toList))) (zF q31) ?_;refine rz0 (.bool (!(x16.2.2.toList==(⟨#[]⟩:ByteArray).toList))) ?_;refine rs0 (.own (oi 1 1) (.pair .int .int) 0 l10_m6.length) (zg q32) ?_;refine rs0 (ai ((l10_m6.length:Nat):Int)) (zg q32) ?_;refine rs0 (.bool (decide (((l10_m6.length:Nat):Int)<2))) (zg q32) ?_;refine rs0 (.bool (decide (((l10_m6.length:Nat):Int)<2))) (zF q32) ?_;refine Ao (tn_ ?_);obtain rfl:=zj h;exact ⟨_,Ac [],rfl⟩
    rintro l30_m59 _ rfl h
    (try dsimp only at h);rcases Ad h with ⟨q33,h⟩ | ⟨q33,h⟩
    ·refine Af q33 ?_;refine Ak ?_;refine Ah (tr_ (br_ (tr_ (tr_ (br_ (tr_ ?_))))));obtain rfl:=zj h;have h:=hk14
     (try dsimp only at h);obtain rfl:=zj h;have h:=hn10
     (try dsimp only at h);obtain rfl:=zj h;have h:=hk8
     (try dsimp only at h);obtain rfl:=zj h;exact A3 [.agg [ai 0,ai 0],.bool false] (Gh (Bh zl (Bh zl Gb)) (Aq rfl zl Ar))
    refine Ae q33 ?_;refine Ai (tn_ ?_);refine wr_ ?_;refine Ak ?_;refine Ab ?_;obtain ⟨x37,f37,h⟩:=Ag h;obtain ⟨p37,b37,e37⟩:=Bg f37;obtain ⟨x38,f38,h⟩:=Ag h;obtain ⟨p38,b38,e38⟩:=Bg f38;obtain ⟨x39,f39,h⟩:=Ag h;obtain ⟨p39,b39,e39⟩:=Bg f39;obtain ⟨x40,f40,h⟩:=Ag h;obtain ⟨p40,b40,e40⟩:=Bg f40;obtain ⟨y41,h41,h⟩:=Ag h;refine A4 24 ?_;refine dz0 (.box (oi 2 1) 0) ?_;refine dzl (ai x16.1) ?_;refine dz0 (.own (oi 1 1) (.pair .int .int) 0 l10_m6.length) ?_;refine dz0 (ai (wI (((l10_m6.length:Nat):Int) - 1))) ?_;refine dz0 (ai (wI ((wI (((l10_m6.length:Nat):Int) - 1)) - 1))) ?_;refine ds0 (.elt (oi 1 1) ((wI ((wI (((l10_m6.length:Nat):Int) - 1)) - 1)).toNat) 0) (zo (t:=.pair .int .int) (o:=oi 1 1) (len:=l10_m6.length) (k:=.i64) (m:=wI ((wI (((l10_m6.length:Nat):Int) - 1)) - 1)) p37 (Au e37)) ?_;refine dsl (.agg [ai x38.1,ai x38.2]) (Dd (i:=oi 1 1) (j:=(wI ((wI (((l10_m6.length:Nat):Int) - 1)) - 1)).toNat) (k:=0) (e:=66) (t:=.pair .int .int) (xs:=l10_m6) (by kernel_rfl) (by kernel_rfl) e38 (by kernel_rfl)) ?_;refine dz0 (.own (oi 1 1) (.pair .int .int) 0 l10_m6.length) ?_;refine dz0 (ai (wI (((l10_m6.length:Nat):Int) - 1))) ?_;refine ds0 (.elt (oi 1 1) ((wI (((l10_m6.length:Nat):Int) - 1)).toNat) 0) (zo (t:=.pair .int .int) (o:=oi 1 1) (len:=l10_m6.length) (k:=.i64) (m:=wI (((l10_m6.length:Nat):Int) - 1)) p39 (Au e39)) ?_;refine dsl (.agg [ai x40.1,ai x40.2]) (Dd (i:=oi 1 1) (j:=(wI (((l10_m6.length:Nat):Int) - 1)).toNat) (k:=0) (e:=66) (t:=.pair .int .int) (xs:=l10_m6) (by kernel_rfl) (by kernel_rfl) e40 (by kernel_rfl)) ?_;refine D3 (.tup [.agg [ai y41.1,ai y41.2.1],.bool y41.2.2]) [] [ai x16.1,.agg [ai x38.1,ai x38.2],.agg [ai x40.1,ai x40.2]] _ (caps:=[]) (args0:=[ai x16.1,.agg [ai x38.1,ai x38.2],.agg [ai x40.1,ai x40.2]]) trivial (by kernel_rfl) (U9 h41) Vc ?_;refine dz0 (.tup [.agg [ai y41.1,ai y41.2.1],.bool y41.2.2]) ?_;refine dz0 (.agg [ai y41.1,ai y41.2.1]) ?_;refine dz0 (.bool y41.2.2) ?_;refine ds1 (.box (oi 12 21) 0) (oi 12 21) (.cells 66 [ai 0,ai 0]) (by kernel_rfl) ?_;refine Yw (oi 12 21) (oi 12 21) (.cells 66 [ai y41.1,ai y41.2.1]) (by kernel_rfl) ?_;refine dz0 (.bool y41.2.2) ?_;refine Gw (Bf (by kernel_rfl)) (tn_ ?_);refine wr_ ?_;refine Ab ?_;refine Ak ?_;rcases Ad h with ⟨q44,h⟩ | ⟨q44,h⟩
    ·refine Af q44 ?_;refine Ak ?_;refine Ah (tr_ (br_ (tr_ (tr_ (br_ (tr_ ?_))))));obtain rfl:=zj h;have h:=hk14
     (try dsimp only at h);obtain rfl:=zj h;have h:=hn10
     (try dsimp only at h);obtain rfl:=zj h;have h:=hk8
     (try dsimp only at h);obtain rfl:=zj h;exact A3 [.agg [ai 0,ai 0],.bool false] (Gh (Bh zl (Bh zl Gb)) (Aq rfl zl Ar))
    refine Ae q44 ?_;refine Ai (tn_ ?_);refine wr_ ?_;obtain ⟨g46,h⟩:=Av h;obtain ⟨g47,h⟩:=Av h;refine A4 34 ?_;refine dz0 (.own (oi 1 1) (.pair .int .int) 0 l10_m6.length) ?_;refine dz0 (ai (wI (((l10_m6.length:Nat):Int) - 1))) ?_;refine dz0 (ai (wI ((wI (((l10_m6.length:Nat):Int) - 1)) - 1))) ?_;refine ds0 (.own (oi 1 1) (.pair .int .int) 0 ((wI ((wI (((l10_m6.length:Nat):Int) - 1)) - 1)).toNat)) (Ajf (t:=.pair .int .int) (i:=oi 1 1) (off:=0) (len:=l10_m6.length) (l:=0) (h:=wI ((wI (((l10_m6.length:Nat):Int) - 1)) - 1)) (by kernel_rfl) (by kernel_rfl) (by kernel_rfl) rfl g46 rfl (by omega)) ?_;refine dzl (.agg [ai y41.1,ai y41.2.1]) ?_;refine ds1 (.own (oi 87 31) (.pair .int .int) 0 1) (oi 87 31) (.arr 66 (.pair .int .int) ([(y41.1,y41.2.1)])) (by kernel_rfl) ?_;refine ds2 (.own (oi 1 32) (.pair .int .int) 0 (((l10_m6.take ((wI ((wI (((l10_m6.length:Nat):Int) - 1)) - 1)).toNat))++([(y41.1,y41.2.1)])).length)) (oi 1 1) (oi 1 32) (.arr 66 (.pair .int .int) ((l10_m6.take ((wI ((wI (((l10_m6.length:Nat):Int) - 1)) - 1)).toNat))++([(y41.1,y41.2.1)]))) (Atj (t:=.pair .int .int) (t':=.pair .int .int) (xs:=l10_m6) (ys:=[(y41.1,y41.2.1)]) (zs:=(l10_m6.take ((wI ((wI (((l10_m6.length:Nat):Int) - 1)) - 1)).toNat))++([(y41.1,y41.2.1)])) (j:=oi 1 1) (len:=(wI ((wI (((l10_m6.length:Nat):Int) - 1)) - 1)).toNat) (c:=.own (oi 87 31) (.pair .int .int) 0 1) (by kernel_rfl) (by kernel_rfl) (by omega) (by kernel_rfl) (Oo (e:=66) (by kernel_rfl) rfl) rfl g47) ?_;refine dz0 (.own (oi 1 32) (.pair .int .int) 0 (((l10_m6.take ((wI ((wI (((l10_m6.length:Nat):Int) - 1)) - 1)).toNat))++([(y41.1,y41.2.1)])).length)) ?_;refine Gw (Bf (by kernel_rfl)) (bn_ (tn_ ?_));obtain rfl:=zj h;exact ⟨(l10_m6.take ((wI ((wI (((l10_m6.length:Nat):Int) - 1)) - 1)).toNat))++([(y41.1,y41.2.1)]),_,rfl,Ac [(oi 1 1,oi 1 32)],rfl⟩
   rintro l14_m6 _ rfl h
   (try dsimp only at h);obtain ⟨g48,h⟩:=Av h;refine Aa 4 ?_;refine rs0 (ai ((l10_m22+1:Nat):Int)) (za g48) ?_;refine rsB 1 ?_;refine Ao (tn_ ?_);obtain rfl:=zj h;exact ⟨(l10_m22+1,l14_m6),_,Ac [],⟨l10_m22+1,l14_m6,rfl,rfl⟩,hn10⟩
  have q13_:=of_decide_eq_false q13;refine Ae q13 ?_;refine Az (te_ (te_ (be_ (tn_ ?_))));obtain rfl:=zj h;have h:=hn10
  (try dsimp only at h);obtain rfl:=zj h;exact ⟨l10_m6,_,rfl,Ac [],rfl⟩
 rintro l8_m6 _ rfl h
 (try dsimp only at h);refine Ab ?_;obtain ⟨x50,e50,h⟩:=Ag h;refine Aa 10 ?_;refine rz0 (.own (oi 1 1) (.pair .int .int) 0 l8_m6.length) ?_;refine rs0 (.elt (oi 1 1) 0 0) (Aqj (t:=.pair .int .int) (o:=oi 1 1) (len:=l8_m6.length) (k:=.i64) (m:=0) (by kernel_rfl) (by kernel_rfl) rfl (by decide) rfl (Au e50)) ?_;refine rsl (.agg [ai x50.1,ai x50.2]) (Dd (i:=oi 1 1) (j:=0) (k:=0) (e:=66) (t:=.pair .int .int) (xs:=l8_m6) (by kernel_rfl) (by kernel_rfl) e50 (by kernel_rfl)) ?_;refine rsB 5 ?_;refine Ao (tn_ ?_);refine wr_ ?_;refine Ah ?_;obtain rfl:=zj h;exact A3 [.agg [ai x50.1,ai x50.2],.bool (((l8_m6.length:Nat):Int)==1)] (Gh (Bh zl (Bh zl Gb)) (Aq rfl zl Ar))
def Ln:AC :=
 (.seq (rg [xo 1 (.i (.box 34 (tm 0))),xo 2 (.i (.alloc 66 [.int .i64 0,.int .i64 0])),xo 3 (qm (cb false))])
 (.seq (rg [xo 4 (qf 0 (tm 1)),xo 5 (ql (tm 4)),⟨some 6,none,qc 63 [tm 5,.cst (.fn 64 [])] [[some (.pair .int (.pair .int .str))],[]]⟩,xo 7 (.i (.extr 0 (tm 6))),xo 8 (.i (.extr 1 (tm 6))),xn (.st false 2 (tm 2) (tm 7)),xo 3 (qm (tm 8))])
 .ret))
def Vk:List Res:=[.cell 2 false 2,.tmp 3]
theorem Ub:Am Tryd.prog Tryd.f37=some (Ln,Vk):=by kernel_rfl
def C1 (a0_0:List (Int×Int×ByteArray)):Option (Int×Int×Bool) :=
 Option.bind (Bu a0_0) fun y3 =>
some (y3.1,y3.2.1,y3.2.2)
def Sd (r:Int×Int×Bool):RV:=⟨true,[(true,[.sc (.int .i64 r.1),.sc (.int .i64 r.2.1)]),(false,[.sc (.bool r.2.2)])]⟩
theorem Ky {a0_0:List (Int×Int×ByteArray)} {r:Int×Int×Bool} (h:C1 a0_0=some r):Aw Tryd.prog Tab 37 [.agg [.tree (.pair .int (.pair .int .str)) a0_0]] (Sd r):=by
 refine At (by kernel_rfl) Tryd.func37 Ub (n:=9) (by kernel_rfl) (by simp) (tl:=[(0,.agg [.tree (.pair .int (.pair .int .str)) a0_0])]) rfl ?_;unfold Ln;unfold C1 at h;refine Ak ?_;refine Ab ?_;obtain ⟨y3,h3,h⟩:=Ag h;refine Aa 11 ?_;refine rz0 (.box (oi 1 1) 0) ?_;refine rzl (.tree (.pair .int (.pair .int .str)) a0_0) ?_;refine zc (.tup [.agg [ai y3.1,ai y3.2.1],.bool y3.2.2]) [] [.tree (.pair .int (.pair .int .str)) a0_0,.fn 64 []] (H6 h3) ?_;refine rsB 4 ?_;refine Ao (tn_ ?_);refine wr_ ?_;refine Ah ?_;obtain rfl:=zj h;exact A3 [.agg [ai y3.1,ai y3.2.1],.bool y3.2.2] (Gh (Bh zl (Bh zl Gb)) (Aq rfl zl Ar))
def Jr:AC :=
 (.seq (rg [xo 1 (.i (.box 34 (tm 0))),xo 2 (qm (cb false))])
 (.seq (rg [xo 6 (.i (.ld false 1 (tm 1))),⟨some 7,none,qc 37 [tm 6] [[some (.pair .int (.pair .int .str))]]⟩,xo 5 (qm (tm 7)),xo 8 (.i (.extr 0 (tm 5))),xo 9 (.i (.extr 1 (tm 5))),xo 3 (.i (.alloc 66 [.int .i64 0,.int .i64 0])),xn (.st false 2 (tm 3) (tm 8)),xo 4 (qm (tm 9))])
 (.seq (rg [xo 10 (qm (tm 4)),xo 2 (qm (tm 10))])
 .ret)))
def Q0:List Res:=[.tmp 2]
theorem Q1:Am Tryd.prog Tryd.f72=some (Jr,Q0):=by kernel_rfl
theorem Pd:A8 Tryd.prog 72=true:=by kernel_rfl
def Ej (a0_0:List (Int×Int×ByteArray)):Option Bool :=
 Option.bind (C1 a0_0) fun y3 =>
some y3.2.2
def Ps (r:Bool):RV:=⟨false,[(false,[.sc (.bool r)])]⟩
theorem Pe {a0_0:List (Int×Int×ByteArray)} {r:Bool} (h:Ej a0_0=some r):Aw Tryd.prog Tab 72 [.agg [.tree (.pair .int (.pair .int .str)) a0_0]] (Ps r):=by
 refine At (by kernel_rfl) Tryd.func72 Q1 (n:=11) (by kernel_rfl) (by simp) (tl:=[(0,.agg [.tree (.pair .int (.pair .int .str)) a0_0])]) rfl ?_;unfold Jr;unfold Ej at h;refine Ak ?_;refine Ab ?_;obtain ⟨y3,h3,h⟩:=Ag h;refine Aa 11 ?_;refine rzl (.agg [.tree (.pair .int (.pair .int .str)) a0_0]) ?_;refine zc (.tup [.agg [ai y3.1,ai y3.2.1],.bool y3.2.2]) [] [.agg [.tree (.pair .int (.pair .int .str)) a0_0]] (Ky h3) ?_;refine rsB 6 ?_;refine Ao (tn_ ?_);refine wr_ ?_;refine Ak ?_;refine Ah ?_;obtain rfl:=zj h;exact A3 [.bool y3.2.2] (Aq rfl zl Ar)
def Ie:AC :=
 (.seq (rg [xo 19 (qb .lss (tm 18) (tm 17))])
 (.seq (.cond (tm 19)
  .skip
  (.exit 0))
 (.seq (.block 1 (.seq (rg [xo 20 (qx 3 (tm 16) (tm 18)),xo 21 (.i (.ld false 3 (tm 20))),⟨some 6,none,.i (.alloc 87 [.int .i64 0,.int .i64 0,.str ⟨#[]⟩])⟩,xn (.st false 3 (tm 6) (tm 21))])
 (.seq (rg [xo 22 (qf 0 (tm 6)),xo 23 (ql (tm 22)),xo 24 (qc 73 [tm 23] [[]]),xo 25 (qm (tm 24)),⟨some 26,some (25,true),qf 1 (tm 6)⟩,⟨some 27,some (25,true),ql (tm 26)⟩,⟨some 28,some (25,true),qm (tm 1)⟩,⟨some 29,some (25,true),qb .geq (tm 27) (tm 28)⟩,xo 30 (.i (.pick (tm 25) (tm 29) (cb false)))])
 (.cond (tm 30)
  (.seq (rg [xo 4 (qm (cb false))])
  .ret)
  .skip))))
 (rg [xo 31 (qb .add (tm 18) (ci 1)),xo 18 (qm (tm 31))]))))
def Kr:AC :=
 (.seq (rg [xo 2 (.i (.box 34 (tm 0))),xo 4 (qm (cb false))])
 (.seq (.seq (rg [xo 7 (qm (tm 1)),xo 8 (qc 43 [tm 7] [[]]),xo 9 (.i (.not (tm 8))),xo 10 (qm (tm 9)),⟨some 11,some (10,false),.i (.ld false 1 (tm 2))⟩,⟨some 12,some (10,false),qc 72 [tm 11] [[some (.pair .int (.pair .int .str))]]⟩,⟨some 13,some (10,false),.i (.not (tm 12))⟩,xo 14 (.i (.pick (tm 10) (cb true) (tm 13)))])
 (.cond (tm 14)
  (.seq (rg [xo 4 (qm (cb false))])
  .ret)
  .skip))
 (.seq (.seq (rg [xo 15 (qf 0 (tm 2)),xo 16 (ql (tm 15)),xo 17 (.i (.len (tm 16))),xo 18 (qm (ci 0))])
 (.block 0 (.loop Ie)))
 (.seq (rg [xo 4 (qm (cb true))])
 .ret))))
def To:List Res:=[.tmp 4]
theorem Tr:Am Tryd.prog Tryd.f59=some (Kr,To):=by kernel_rfl
def Ci (a0_0:List (Int×Int×ByteArray)) (a1:Int) (l11_m18:Nat):Option (Ctl Nat (Ctl Unit Bool)) :=
 cond (decide (((l11_m18:Nat):Int)<((a0_0.length:Nat):Int)))
 (Option.bind (a0_0[l11_m18]?) fun x17 =>
 Option.bind (Option.bind (Dy x17.1) fun y19 =>
  cond y19
   (some (decide (a1<=x17.2.1)))
   (some false)) fun l18_m30 =>
 cond l18_m30
  (some (Ctl.out (Ctl.out false)))
  (og (l11_m18+1<4611686018427387904) <|
  some (Ctl.next (l11_m18+1))))
 (some (Ctl.out (Ctl.next ())))
def Dm (a0_0:List (Int×Int×ByteArray)) (a1:Int):Option Bool :=
 Option.bind (Option.bind (Dr a1) fun y4 =>
 cond (!y4)
  (some true)
  (Option.bind (Ej a0_0) fun y6 =>
  some (!y6))) fun l3_m14 =>
cond l3_m14
 (some false)
 (Du (A7 (fun s_:Nat=>Ci a0_0 a1 s_) 4611686018427387904 0) fun _ =>
 some true)
def Qm (r:Bool):RV:=⟨false,[(false,[.sc (.bool r)])]⟩
theorem Q8 {a0_0:List (Int×Int×ByteArray)} {a1:Int} {r:Bool} (h:Dm a0_0 a1=some r):Aw Tryd.prog Tab 59 [.agg [.tree (.pair .int (.pair .int .str)) a0_0],ai a1] (Qm r):=by
 refine At (by kernel_rfl) Tryd.func59 Tr (n:=32) (by kernel_rfl) (by simp) (tl:=[(0,.agg [.tree (.pair .int (.pair .int .str)) a0_0]),(1,ai a1)]) rfl ?_;unfold Kr;unfold Dm at h;refine Ak ?_;refine Ab ?_;refine Ax h (fun (l3_m14:Bool) S_=>S_=⟨An [(1,ai a1),(2,.box (oi 0 1) 0),(14,.bool l3_m14)],Aj (Ap [(oi 0 1,.cells 34 [.tree (.pair .int (.pair .int .str)) a0_0])]),2⟩) ?_ ?_
 ·intro v_ h;obtain ⟨y4,h4,h⟩:=Ag h;rcases Ad h with ⟨q5,h⟩ | ⟨q5,h⟩
  ·refine Aa 11 ?_;refine rz0 (ai a1) ?_;refine zc (.bool y4) [] [ai a1] (C2 h4) ?_;refine rz0 (.bool (!y4)) ?_;refine rz0 (.bool (!y4)) ?_;refine zs q5 ?_;refine zs q5 ?_;refine zs q5 ?_;refine rs0 (.bool true) (zT q5) ?_;refine Ao (tn_ ?_);obtain rfl:=zj h;exact ⟨_,Ac [(oi 0 1,oi 2 1)],rfl⟩
  obtain ⟨y6,h6,h⟩:=Ag h;refine Aa 11 ?_;refine rz0 (ai a1) ?_;refine zc (.bool y4) [] [ai a1] (C2 h4) ?_;refine rz0 (.bool (!y4)) ?_;refine rz0 (.bool (!y4)) ?_;refine rsl (.agg [.tree (.pair .int (.pair .int .str)) a0_0]) (zg q5) ?_;refine B3 (.bool y6) [] [.agg [.tree (.pair .int (.pair .int .str)) a0_0]] _ (caps:=[]) (args0:=[.agg [.tree (.pair .int (.pair .int .str)) a0_0]]) (Bi (by kernel_rfl) q5) (by kernel_rfl) (Pe h6) Pd ?_;refine rs0 (.bool (!y6)) (zg q5) ?_;refine rs0 (.bool (!y6)) (zF q5) ?_;refine Ao (tn_ ?_);obtain rfl:=zj h;exact ⟨_,Ac [(oi 0 1,oi 2 1)],rfl⟩
 rintro l3_m14 _ rfl h
 (try dsimp only at h);rcases Ad h with ⟨q7,h⟩ | ⟨q7,h⟩
 ·refine Af q7 ?_;refine Ak ?_;refine Ah (tr_ ?_);obtain rfl:=zj h;exact A3 [.bool false] (Aq rfl zl Ar)
 refine Ae q7 ?_;refine Ai (tn_ ?_);refine wr_ ?_;refine Bj h (fun (_:Unit) S_=>S_=⟨An [],Aj (Ap []),2⟩) ?_ ?_
 ·intro v_ h hk9;refine Ak ?_;refine Al ?_;refine A6 h (fun (l11_m18:Nat) S_=>S_=⟨An [(1,ai a1),(16,.tree (.pair .int (.pair .int .str)) a0_0),(17,ai ((a0_0.length:Nat):Int)),(18,ai ((l11_m18:Nat):Int))],Aj (Ap []),2⟩) ⟨_,Ac [],rfl⟩ ?_;rintro n_ l11_m18 _ c_ rfl h hn11
  (try dsimp only at h);unfold Ci at h;unfold Ie;refine Ak ?_;refine Ab ?_;rcases Ad h with ⟨q14,h⟩ | ⟨q14,h⟩
  ·have q14_:=of_decide_eq_true q14;refine Af q14 ?_;refine Ai (tn_ ?_);refine wr_ ?_;refine Ab ?_;refine Al ?_;refine Ab ?_;obtain ⟨x17,e17,h⟩:=Ag h;refine Aa 7 ?_;refine rs0 (.telt none (.pair .int (.pair .int .str)) x17 0) (zi (t:=.pair .int (.pair .int .str)) (xs:=a0_0) (k:=.i64) (m:=((l11_m18:Nat):Int)) (Ay _) e17) ?_;refine rsB 3 ?_;refine Ao (tn_ ?_);refine wr_ ?_;refine Ax h (fun (l18_m30:Bool) S_=>S_=⟨An [(1,ai a1),(16,.tree (.pair .int (.pair .int .str)) a0_0),(17,ai ((a0_0.length:Nat):Int)),(18,ai ((l11_m18:Nat):Int)),(30,.bool l18_m30)],Aj (Ap []),2⟩) ?_ ?_
   ·intro v_ h;obtain ⟨y19,h19,h⟩:=Ag h;rcases Ad h with ⟨q20,h⟩ | ⟨q20,h⟩
    ·refine Aa 16 ?_;refine rz0 (.box (oi 6 5) 0) ?_;refine rzl (ai x17.1) ?_;refine zc (.bool y19) [] [ai x17.1] (Im h19) ?_;refine rz0 (.bool y19) ?_;refine rs0 (.box (oi 6 5) 1) (zg q20) ?_;refine rsl (ai x17.2.1) (zg q20) ?_;refine rs0 (ai a1) (zg q20) ?_;refine rs0 (.bool (decide (a1<=x17.2.1))) (zg q20) ?_;refine rs0 (.bool (decide (a1<=x17.2.1))) (zT q20) ?_;refine Ao (tn_ ?_);obtain rfl:=zj h;exact ⟨_,Ac [],rfl⟩
    refine Aa 16 ?_;refine rz0 (.box (oi 6 5) 0) ?_;refine rzl (ai x17.1) ?_;refine zc (.bool y19) [] [ai x17.1] (Im h19) ?_;refine rz0 (.bool y19) ?_;refine zs q20 ?_;refine zs q20 ?_;refine zs q20 ?_;refine zs q20 ?_;refine rs0 (.bool false) (zF q20) ?_;refine Ao (tn_ ?_);obtain rfl:=zj h;exact ⟨_,Ac [],rfl⟩
   rintro l18_m30 _ rfl h
   (try dsimp only at h);rcases Ad h with ⟨q21,h⟩ | ⟨q21,h⟩
   ·refine Af q21 ?_;refine Ak ?_;refine Ah (br_ (tr_ (tr_ (br_ (tr_ ?_)))));obtain rfl:=zj h;have h:=hn11
    (try dsimp only at h);obtain rfl:=zj h;have h:=hk9
    (try dsimp only at h);obtain rfl:=zj h;exact A3 [.bool false] (Aq rfl zl Ar)
   refine Ae q21 ?_;refine Ai (bn_ (tn_ ?_));refine wr_ ?_;obtain ⟨g23,h⟩:=Av h;refine Aa 4 ?_;refine rs0 (ai ((l11_m18+1:Nat):Int)) (za g23) ?_;refine rsB 1 ?_;refine Ao (tn_ ?_);obtain rfl:=zj h;exact ⟨l11_m18+1,_,Ac [],rfl,hn11⟩
  have q14_:=of_decide_eq_false q14;refine Ae q14 ?_;refine Az (te_ (te_ (be_ (tn_ ?_))));obtain rfl:=zj h;have h:=hn11
  (try dsimp only at h);obtain rfl:=zj h;exact ⟨(),_,rfl,Ac [],rfl⟩
 rintro _ _ rfl h
 (try dsimp only at h);refine Ak ?_;refine Ah ?_;obtain rfl:=zj h;exact A3 [.bool true] (Aq rfl zl Ar)
def Pa:AC :=
 (.seq (rg [xo 2 (qm (cb false))])
 (.seq (rg [xo 3 (qm (tm 0)),xo 4 (qb .eql (tm 3) (ci 8)),xo 5 (qm (tm 4)),⟨some 6,some (5,false),qm (tm 0)⟩,⟨some 7,some (5,false),qb .eql (tm 6) (ci 14)⟩,xo 8 (.i (.pick (tm 5) (cb true) (tm 7))),xo 2 (qm (tm 8))])
 .ret))
def Acl:List Res:=[.tmp 2]
theorem Aao:Am Tryd.prog Tryd.f60=some (Pa,Acl):=by kernel_rfl
def Hy (a0:Int):Option Bool :=
 Option.bind (cond (a0==8)
  (some true)
  (some (a0==14))) fun l2_m2 =>
some l2_m2
def Yf (r:Bool):RV:=⟨false,[(false,[.sc (.bool r)])]⟩
theorem Xt {a0:Int} {r:Bool} (h:Hy a0=some r):Aw Tryd.prog Tab 60 [ai a0] (Yf r):=by
 refine At (by kernel_rfl) Tryd.func60 Aao (n:=9) (by kernel_rfl) (by simp) (tl:=[(0,ai a0)]) rfl ?_;unfold Pa;unfold Hy at h;refine Ak ?_;refine Ax h (fun (l2_m2:Bool) S_=>S_=⟨An [(2,.bool l2_m2)],Aj (Ap []),2⟩) ?_ ?_
 ·intro v_ h;rcases Ad h with ⟨q3,h⟩ | ⟨q3,h⟩
  ·refine Aa 9 ?_;refine rz0 (ai a0) ?_;refine rz0 (.bool (a0==8)) ?_;refine rz0 (.bool (a0==8)) ?_;refine zs q3 ?_;refine zs q3 ?_;refine rs0 (.bool true) (zT q3) ?_;refine rsB 1 ?_;refine Ao (tn_ ?_);obtain rfl:=zj h;exact ⟨_,Ac [],rfl⟩
  refine Aa 9 ?_;refine rz0 (ai a0) ?_;refine rz0 (.bool (a0==8)) ?_;refine rz0 (.bool (a0==8)) ?_;refine rs0 (ai a0) (zg q3) ?_;refine rs0 (.bool (a0==14)) (zg q3) ?_;refine rs0 (.bool (a0==14)) (zF q3) ?_;refine rsB 1 ?_;refine Ao (tn_ ?_);obtain rfl:=zj h;exact ⟨_,Ac [],rfl⟩
 rintro l2_m2 _ rfl h
 (try dsimp only at h);refine Ah ?_;obtain rfl:=zj h;exact A3 [.bool l2_m2] (Aq rfl zl Ar)
def Hs:AC :=
 (.seq (rg [xo 15 (qb .lss (tm 14) (tm 13))])
 (.seq (.cond (tm 15)
  .skip
  (.exit 0))
 (.seq (.block 1 (.seq (rg [xo 16 (qx 3 (tm 12) (tm 14)),xo 17 (.i (.ld false 3 (tm 16))),⟨some 6,none,.i (.alloc 87 [.int .i64 0,.int .i64 0,.str ⟨#[]⟩])⟩,xn (.st false 3 (tm 6) (tm 17))])
 (.seq (rg [xo 18 (qf 0 (tm 6)),xo 19 (ql (tm 18)),xo 20 (qc 60 [tm 19] [[]])])
 (.cond (tm 20)
  (.seq (rg [xo 4 (qm (cb false))])
  .ret)
  .skip))))
 (rg [xo 21 (qb .add (tm 14) (ci 1)),xo 14 (qm (tm 21))]))))
def I5:AC :=
 (.seq (rg [xo 2 (.i (.box 34 (tm 0))),xo 4 (qm (cb false))])
 (.seq (.seq (rg [xo 7 (.i (.ld false 1 (tm 2))),xo 8 (qm (tm 1)),⟨some 9,none,qc 59 [tm 7,tm 8] [[some (.pair .int (.pair .int .str))],[]]⟩,xo 10 (.i (.not (tm 9)))])
 (.cond (tm 10)
  (.seq (rg [xo 4 (qm (cb false))])
  .ret)
  .skip))
 (.seq (.seq (rg [xo 11 (qf 0 (tm 2)),xo 12 (ql (tm 11)),xo 13 (.i (.len (tm 12))),xo 14 (qm (ci 0))])
 (.block 0 (.loop Hs)))
 (.seq (rg [xo 4 (qm (cb true))])
 .ret))))
def Pv:List Res:=[.tmp 4]
theorem O2:Am Tryd.prog Tryd.f35=some (I5,Pv):=by kernel_rfl
theorem Ih:A8 Tryd.prog 35=true:=by kernel_rfl
def B8 (a0_0:List (Int×Int×ByteArray)) (l9_m14:Nat):Option (Ctl Nat (Ctl Unit Bool)) :=
 cond (decide (((l9_m14:Nat):Int)<((a0_0.length:Nat):Int)))
 (Option.bind (a0_0[l9_m14]?) fun x15 =>
 Option.bind (Hy x15.1) fun y17 =>
 cond y17
  (some (Ctl.out (Ctl.out false)))
  (og (l9_m14+1<4611686018427387904) <|
  some (Ctl.next (l9_m14+1))))
 (some (Ctl.out (Ctl.next ())))
def Cw (a0_0:List (Int×Int×ByteArray)) (a1:Int):Option Bool :=
 Option.bind (Dm a0_0 a1) fun y4 =>
cond (!y4)
 (some false)
 (Du (A7 (fun s_:Nat=>B8 a0_0 s_) 4611686018427387904 0) fun _ =>
 some true)
def Ol (r:Bool):RV:=⟨false,[(false,[.sc (.bool r)])]⟩
theorem Ig {a0_0:List (Int×Int×ByteArray)} {a1:Int} {r:Bool} (h:Cw a0_0 a1=some r):Aw Tryd.prog Tab 35 [.agg [.tree (.pair .int (.pair .int .str)) a0_0],ai a1] (Ol r):=by
 refine At (by kernel_rfl) Tryd.func35 O2 (n:=22) (by kernel_rfl) (by simp) (tl:=[(0,.agg [.tree (.pair .int (.pair .int .str)) a0_0]),(1,ai a1)]) rfl ?_;unfold I5;unfold Cw at h;refine Ak ?_;refine Ab ?_;refine Ab ?_;obtain ⟨y4,h4,h⟩:=Ag h;refine Aa 7 ?_;refine rzl (.agg [.tree (.pair .int (.pair .int .str)) a0_0]) ?_;refine rz0 (ai a1) ?_;refine zc (.bool y4) [] [.agg [.tree (.pair .int (.pair .int .str)) a0_0],ai a1] (Q8 h4) ?_;refine rsB 1 ?_;refine Ao (tn_ ?_);refine wr_ ?_;rcases Ad h with ⟨q5,h⟩ | ⟨q5,h⟩
 ·refine Af q5 ?_;refine Ak ?_;refine Ah (tr_ ?_);obtain rfl:=zj h;exact A3 [.bool false] (Aq rfl zl Ar)
 refine Ae q5 ?_;refine Ai (tn_ ?_);refine wr_ ?_;refine Bj h (fun (_:Unit) S_=>S_=⟨An [],Aj (Ap []),2⟩) ?_ ?_
 ·intro v_ h hk7;refine Ak ?_;refine Al ?_;refine A6 h (fun (l9_m14:Nat) S_=>S_=⟨An [(12,.tree (.pair .int (.pair .int .str)) a0_0),(13,ai ((a0_0.length:Nat):Int)),(14,ai ((l9_m14:Nat):Int))],Aj (Ap []),2⟩) ⟨_,Ac [],rfl⟩ ?_;rintro n_ l9_m14 _ c_ rfl h hn9
  (try dsimp only at h);unfold B8 at h;unfold Hs;refine Ak ?_;refine Ab ?_;rcases Ad h with ⟨q12,h⟩ | ⟨q12,h⟩
  ·have q12_:=of_decide_eq_true q12;refine Af q12 ?_;refine Ai (tn_ ?_);refine wr_ ?_;refine Ab ?_;refine Al ?_;refine Ab ?_;obtain ⟨x15,e15,h⟩:=Ag h;refine Aa 7 ?_;refine rs0 (.telt none (.pair .int (.pair .int .str)) x15 0) (zi (t:=.pair .int (.pair .int .str)) (xs:=a0_0) (k:=.i64) (m:=((l9_m14:Nat):Int)) (Ay _) e15) ?_;refine rsB 3 ?_;refine Ao (tn_ ?_);refine wr_ ?_;refine Ab ?_;obtain ⟨y17,h17,h⟩:=Ag h;refine Aa 10 ?_;refine rz0 (.box (oi 6 5) 0) ?_;refine rzl (ai x15.1) ?_;refine zc (.bool y17) [] [ai x15.1] (Xt h17) ?_;refine Ao (tn_ ?_);refine wr_ ?_;rcases Ad h with ⟨q18,h⟩ | ⟨q18,h⟩
   ·refine Af q18 ?_;refine Ak ?_;refine Ah (br_ (tr_ (tr_ (br_ (tr_ ?_)))));obtain rfl:=zj h;have h:=hn9
    (try dsimp only at h);obtain rfl:=zj h;have h:=hk7
    (try dsimp only at h);obtain rfl:=zj h;exact A3 [.bool false] (Aq rfl zl Ar)
   refine Ae q18 ?_;refine Ai (bn_ (tn_ ?_));refine wr_ ?_;obtain ⟨g20,h⟩:=Av h;refine Aa 12 ?_;refine rs0 (ai ((l9_m14+1:Nat):Int)) (za g20) ?_;refine rsB 1 ?_;refine Ao (tn_ ?_);obtain rfl:=zj h;exact ⟨l9_m14+1,_,Ac [],rfl,hn9⟩
  have q12_:=of_decide_eq_false q12;refine Ae q12 ?_;refine Az (te_ (te_ (be_ (tn_ ?_))));obtain rfl:=zj h;have h:=hn9
  (try dsimp only at h);obtain rfl:=zj h;exact ⟨(),_,rfl,Ac [],rfl⟩
 rintro _ _ rfl h
 (try dsimp only at h);refine Ak ?_;refine Ah ?_;obtain rfl:=zj h;exact A3 [.bool true] (Aq rfl zl Ar)
def K2:AC :=
 (.seq (rg [xo 3 (.i (.box 37 (tm 1))),xo 4 (qm (cb false))])
 (.seq (.seq (rg [xo 7 (qf 0 (tm 3)),xo 8 (ql (tm 7)),xo 9 (qc 34 [tm 8] [[]]),xo 10 (.i (.not (tm 9))),xo 11 (qm (tm 10)),⟨some 12,some (11,false),qf 1 (tm 3)⟩,⟨some 13,some (11,false),.i (.ld false 1 (tm 12))⟩,⟨some 14,some (11,false),qm (tm 0)⟩,⟨some 15,some (11,false),qc 35 [tm 13,tm 14] [[some (.pair .int (.pair .int .str))],[]]⟩,⟨some 16,some (11,false),.i (.not (tm 15))⟩,xo 17 (.i (.pick (tm 11) (cb true) (tm 16))),xo 18 (qm (tm 17)),⟨some 19,some (18,false),qm (tm 0)⟩,⟨some 20,some (18,false),qf 2 (tm 3)⟩,⟨some 21,some (18,false),.i (.ld false 3 (tm 20))⟩,⟨some 22,some (18,false),qc 36 [tm 19,tm 21] [[],[none,none,some (.slice .int)]]⟩,⟨some 23,some (18,false),.i (.not (tm 22))⟩,xo 24 (.i (.pick (tm 18) (cb true) (tm 23)))])
 (.cond (tm 24)
  (.seq (rg [xo 4 (qm (cb false))])
  .ret)
  .skip))
 (.seq (rg [xo 26 (qf 1 (tm 3)),xo 27 (.i (.ld false 1 (tm 26))),⟨some 28,none,qc 37 [tm 27] [[some (.pair .int (.pair .int .str))]]⟩,xo 25 (qm (tm 28)),xo 29 (.i (.extr 0 (tm 25))),xo 30 (.i (.extr 1 (tm 25))),xo 5 (.i (.alloc 66 [.int .i64 0,.int .i64 0])),xn (.st false 2 (tm 5) (tm 29)),xo 6 (qm (tm 30))])
 (.seq (rg [xo 31 (.i (.ld false 2 (tm 5))),xo 32 (qf 2 (tm 3)),xo 33 (qf 0 (tm 32)),xo 34 (ql (tm 33)),xo 35 (qf 2 (tm 3)),xo 36 (qf 1 (tm 35)),xo 37 (ql (tm 36)),xo 38 (.build [.int .i64 0,.int .i64 0] [(0,1,tm 34),(1,1,tm 37)]),xo 39 (.i (.cmp false 5 (tm 31) (tm 38))),xo 4 (qm (tm 39))])
 .ret))))
def Sg:List Res:=[.tmp 4]
theorem Sj:Am Tryd.prog Tryd.f20=some (K2,Sg):=by kernel_rfl
def Co (a0:Int) (a1_0:ByteArray) (a1_1:List (Int×Int×ByteArray)) (a1_2:Int) (a1_3:Int) (a1_4:List (List Int)):Option Bool :=
 Option.bind (Option.bind (Hb a1_0) fun y4 =>
 cond (!y4)
  (some true)
  (Option.bind (Cw a1_1 a0) fun y6 =>
  cond (!y6)
   (some true)
   (Option.bind (D8 a0 a1_2 a1_3 a1_4) fun y8 =>
   some (!y8)))) fun l3_m24 =>
cond l3_m24
 (some false)
 (Option.bind (C1 a1_1) fun y12 =>
 some ([y12.1,y12.2.1]==[a1_2,a1_3]))
def Qx (r:Bool):RV:=⟨false,[(false,[.sc (.bool r)])]⟩
theorem Ju {a0:Int} {a1_0:ByteArray} {a1_1:List (Int×Int×ByteArray)} {a1_2:Int} {a1_3:Int} {a1_4:List (List Int)} {r:Bool} (h:Co a0 a1_0 a1_1 a1_2 a1_3 a1_4=some r):Aw Tryd.prog Tab 20 [ai a0,.agg [.str a1_0,.tree (.pair .int (.pair .int .str)) a1_1,ai a1_2,ai a1_3,.tree (.slice .int) a1_4]] (Qx r):=by
 refine At (by kernel_rfl) Tryd.func20 Sj (n:=40) (by kernel_rfl) (by simp) (tl:=[(0,ai a0),(1,.agg [.str a1_0,.tree (.pair .int (.pair .int .str)) a1_1,ai a1_2,ai a1_3,.tree (.slice .int) a1_4])]) rfl ?_;unfold K2;unfold Co at h;refine Ak ?_;refine Ab ?_;refine Ax h (fun (l3_m24:Bool) S_=>S_=⟨An [(3,.box (oi 0 1) 0),(24,.bool l3_m24)],Aj (Ap [(oi 0 1,.cells 37 [.str a1_0,.tree (.pair .int (.pair .int .str)) a1_1,ai a1_2,ai a1_3,.tree (.slice .int) a1_4])]),2⟩) ?_ ?_
 ·intro v_ h;obtain ⟨y4,h4,h⟩:=Ag h;rcases Ad h with ⟨q5,h⟩ | ⟨q5,h⟩
  ·refine Aa 21 ?_;refine rz0 (.box (oi 3 1) 0) ?_;refine rzl (.str a1_0) ?_;refine zc (.bool y4) [] [.str a1_0] (K0 h4) ?_;refine rz0 (.bool (!y4)) ?_;refine rz0 (.bool (!y4)) ?_;refine zs q5 ?_;refine zs q5 ?_;refine zs q5 ?_;refine zs q5 ?_;refine zs q5 ?_;refine rs0 (.bool true) (zT q5) ?_;refine rsB 7 ?_;refine Ao (tn_ ?_);obtain rfl:=zj h;exact ⟨_,Ac [(oi 0 1,oi 3 1)],rfl⟩
  obtain ⟨y6,h6,h⟩:=Ag h;rcases Ad h with ⟨q7,h⟩ | ⟨q7,h⟩
  ·refine Aa 21 ?_;refine rz0 (.box (oi 3 1) 0) ?_;refine rzl (.str a1_0) ?_;refine zc (.bool y4) [] [.str a1_0] (K0 h4) ?_;refine rz0 (.bool (!y4)) ?_;refine rz0 (.bool (!y4)) ?_;refine rs0 (.box (oi 3 1) 1) (zg q5) ?_;refine rsl (.agg [.tree (.pair .int (.pair .int .str)) a1_1]) (zg q5) ?_;refine rs0 (ai a0) (zg q5) ?_;refine B3 (.bool y6) [] [.agg [.tree (.pair .int (.pair .int .str)) a1_1],ai a0] _ (caps:=[]) (args0:=[.agg [.tree (.pair .int (.pair .int .str)) a1_1],ai a0]) (Bi (by kernel_rfl) q5) (by kernel_rfl) (Ig h6) Ih ?_;refine rs0 (.bool (!y6)) (zg q5) ?_;refine rs0 (.bool (!y6)) (zF q5) ?_;refine rz0 (.bool (!y6)) ?_;refine zs q7 ?_;refine zs q7 ?_;refine zs q7 ?_;refine zs q7 ?_;refine zs q7 ?_;refine rs0 (.bool true) (zT q7) ?_;refine Ao (tn_ ?_);obtain rfl:=zj h;exact ⟨_,Ac [(oi 0 1,oi 3 1)],rfl⟩
  obtain ⟨y8,h8,h⟩:=Ag h;refine Aa 21 ?_;refine rz0 (.box (oi 3 1) 0) ?_;refine rzl (.str a1_0) ?_;refine zc (.bool y4) [] [.str a1_0] (K0 h4) ?_;refine rz0 (.bool (!y4)) ?_;refine rz0 (.bool (!y4)) ?_;refine rs0 (.box (oi 3 1) 1) (zg q5) ?_;refine rsl (.agg [.tree (.pair .int (.pair .int .str)) a1_1]) (zg q5) ?_;refine rs0 (ai a0) (zg q5) ?_;refine B3 (.bool y6) [] [.agg [.tree (.pair .int (.pair .int .str)) a1_1],ai a0] _ (caps:=[]) (args0:=[.agg [.tree (.pair .int (.pair .int .str)) a1_1],ai a0]) (Bi (by kernel_rfl) q5) (by kernel_rfl) (Ig h6) Ih ?_;refine rs0 (.bool (!y6)) (zg q5) ?_;refine rs0 (.bool (!y6)) (zF q5) ?_;refine rz0 (.bool (!y6)) ?_;refine rs0 (ai a0) (zg q7) ?_;refine rs0 (.box (oi 3 1) 2) (zg q7) ?_;refine rsl (.agg [ai a1_2,ai a1_3,.tree (.slice .int) a1_4]) (zg q7) ?_;refine B3 (.bool y8) [] [ai a0,.agg [ai a1_2,ai a1_3,.tree (.slice .int) a1_4]] _ (caps:=[]) (args0:=[ai a0,.agg [ai a1_2,ai a1_3,.tree (.slice .int) a1_4]]) (Bi (by kernel_rfl) q7) (by kernel_rfl) (Th h8) Tm ?_;refine rs0 (.bool (!y8)) (zg q7) ?_;refine rs0 (.bool (!y8)) (zF q7) ?_;refine Ao (tn_ ?_);obtain rfl:=zj h;exact ⟨_,Ac [(oi 0 1,oi 3 1)],rfl⟩
 rintro l3_m24 _ rfl h
 (try dsimp only at h);rcases Ad h with ⟨q9,h⟩ | ⟨q9,h⟩
 ·refine Af q9 ?_;refine Ak ?_;refine Ah (tr_ ?_);obtain rfl:=zj h;exact A3 [.bool false] (Aq rfl zl Ar)
 refine Ae q9 ?_;refine Ai (tn_ ?_);refine wr_ ?_;refine Ab ?_;obtain ⟨y12,h12,h⟩:=Ag h;refine Aa 11 ?_;refine rz0 (.box (oi 0 1) 1) ?_;refine rzl (.agg [.tree (.pair .int (.pair .int .str)) a1_1]) ?_;refine zc (.tup [.agg [ai y12.1,ai y12.2.1],.bool y12.2.2]) [] [.agg [.tree (.pair .int (.pair .int .str)) a1_1]] (Ky h12) ?_;refine rsB 6 ?_;refine Ao (tn_ ?_);refine wr_ ?_;refine Ak ?_;refine Ah ?_;obtain rfl:=zj h;exact A3 [.bool ([y12.1,y12.2.1]==[a1_2,a1_3])] (Aq rfl zl Ar)
end
end Go.Proofs.YtodopnonpadpfaaDoor
