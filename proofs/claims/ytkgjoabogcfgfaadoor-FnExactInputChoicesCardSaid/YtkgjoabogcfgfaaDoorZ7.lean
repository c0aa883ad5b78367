/- Lemmas on the program and on partial functions that stand in place of its code (part 7); no condition beyond those that each one states. -/
import Derived.Test.YtkgjoabogcfgfaaDoorZ6
import Derived.Deep.RegionHeld3
namespace Go.Proofs.YtkgjoabogcfgfaaDoor
section
def szV (v:Int) (n:Nat):Int:=if v<n then -1 else v - n
theorem Amo (xs:List Int) {v:Int} (hv:0<=v∧v<=1048576) (hx:xs.length<=9223372036854775807):Gp xs v=some (szV v xs.length):=by
 unfold Gp szV;rw [C9 (by omega) (by omega)];by_cases h:v<xs.length
 ·rw [Bh (by omega),if_pos h]; rfl
 ·rw [Bl (by omega),if_neg h]; rfl
theorem Ald (xs:List Int) (hx:xs.length<=1073741824):Gy xs=some xs:=by
 unfold Gy;rw [An (by omega)]
 have h:Ay (fun s_:Nat×List Int=>El xs s_.1 s_.2) 4611686018427387904 (0,List.replicate xs.length (0:Int))=some xs:=by
  refine Br xs.length (fun i=>(i,xs.take i++List.replicate (xs.length - i) 0)) (by omega) xs (by simp) (fun i hi=>?_) ?_
  ·have hx:=gEg hi
   try dsimp only
   unfold El;rw [Bh (by omega),cond_true,hx,obs,Aak hi,obs,An (by omega),Aap hx]
  ·try dsimp only
   unfold El;rw [Bl (by omega),cond_false];simp
 rw [h]; rfl
theorem Amb (xs:List Int) (hx:xs.length<=1073741824):Gm xs xs=some true:=by
 unfold Gm
 have h:Ay (fun s_:Nat=>Es xs xs s_) 4611686018427387904 0=some (.next ()):=by
  refine Br xs.length (fun i=>i) (by omega) _ rfl (fun i hi=>?_) ?_
  ·have hx:=gEg hi
   try dsimp only
   unfold Es;rw [Bh (by omega),cond_true,hx,obs,obs,bne_self_eq_false,cond_false,An (by omega)]
  ·try dsimp only
   unfold Es;rw [Bl (by omega),cond_false]
 rw [h,bne_self_eq_false,cond_false]; rfl
end
section
section
variable {σ ρ:Type}
end
def mkL (v:Int) (n:Nat):List Int:=(List.range n).map fun j:Nat=>v+(j:Int)
theorem Afs (xs:List Int) {v:Int} (hv:0<=v∧v<=1152921504606846976) (hx:xs.length<=1073741824):Fa xs v=some (mkL v xs.length,v+xs.length):=by
 unfold Fa
 have h:Ay (fun s_:Int×Nat×List Int=>Dm s_.1 s_.2.1 s_.2.2) 4611686018427387904 (v,0,xs)=some (v+xs.length,mkL v xs.length):=by
  refine Br xs.length (fun i=>(v+i,i,mkL v i++xs.drop i)) (by omega) _ (by simp [mkL]) (fun i hi=>?_) ?_
  ·have hl:(mkL v i).length=i:=by simp [mkL]
   try dsimp only
   unfold Dm;rw [Bh (by rw [List.length_append,hl,List.length_drop]; omega),cond_true,Hw hi hl,obs,An (by omega),Hu hi hl,C9 (by omega) (by omega)];unfold mkL;rw [List.range_succ,List.map_append];simp [Int.add_assoc]
  ·try dsimp only
   unfold Dm;rw [Bl (by simp [mkL]),cond_false];simp [mkL]
 rw [h]; rfl
theorem Aeg (n:Nat) {v:Int} (hv:0<=v∧v<=1152921504606846976) (hx:n<=1073741824):E9 (mkL v n) v=some (v+n):=by
 unfold E9
 have h:Ay (fun s_:Int×Nat=>Ds (mkL v n) s_.1 s_.2) 4611686018427387904 (v,0)=some (.next (v+n)):=by
  refine Br n (fun i=>(v+i,i)) (by omega) _ (by simp) (fun i hi=>?_) ?_
  ·have hg:(mkL v n)[i]? =some (v+i):=by simp [mkL,hi]
   try dsimp only
   unfold Ds;rw [Bh (by simp [mkL]; omega),cond_true,hg,obs,bne_self_eq_false,cond_false,An (by omega),C9 (by omega) (by omega)];simp [Int.add_assoc]
  ·try dsimp only
   unfold Ds;rw [Bl (by simp [mkL]),cond_false]
 rw [h]; rfl
def G9 (b:Nat) (xss:List (List Int)):Prop:=∀ x∈xss,x.length<=b
def Ej (xss:List (List Int)):Nat:=(xss.map List.length).sum
def Is (v:Int):List (List Int)->List (List Int)
 | []=>[]
 | x :: r=>mkL v x.length :: Is (v+x.length) r
theorem G5:∀ (v:Int) (xss:List (List Int)),(Is v xss).length=xss.length
 | _,[]=>rfl
 | v,x :: r=>by simp [Is,G5]
theorem Q4:∀ (v:Int) (xss:List (List Int)) (i:Nat) (h:i<xss.length),(Is v xss)[i]? =some (mkL (v+Ej (xss.take i)) xss[i].length)
 | v,x :: r,0,h=>by simp [Is,Ej]
 | v,x :: r,i+1,h=>by
  have:=Q4 (v+x.length) r i (by simpa using h);simp only [Is,List.getElem?_cons_succ,this,List.take_succ_cons,List.getElem_cons_succ,Ej,List.map_cons,List.sum_cons];congr 2;simp [Int.add_assoc]
theorem Ts {xss:List (List Int)} {i:Nat} (h:i<xss.length):Ej (xss.take (i+1))=Ej (xss.take i)+xss[i].length:=by
 unfold Ej;rw [List.take_add_one,gEg h];simp only [Option.toList,List.map_append,List.map_cons,List.map_nil,List.sum_append,List.sum_cons,List.sum_nil,Nat.add_zero]
theorem Abo {b:Nat}:∀ {xss:List (List Int)},G9 b xss->Ej xss<=xss.length*b
 | [],_=>by simp [Ej]
 | x :: r,h=>by
  have h1:=h x (by simp);have h2:=Abo (xss:=r) fun y hy=>h y (by simp [hy])
  simp only [Ej,List.map_cons,List.sum_cons,List.length_cons,Nat.succ_mul] at h2 ⊢;omega
theorem Aj8 {b:Nat} {xss:List (List Int)} (h:G9 b xss) (i:Nat):Ej (xss.take i)<=xss.length*b:=by
 refine Nat.le_trans (Abo fun x hx=>h x (List.mem_of_mem_take hx)) (Nat.mul_le_mul_right _ ?_);rw [List.length_take]; omega
theorem Abg (xss:List (List Int)) (hn:xss.length<=1048576) (hb:G9 1048576 xss):Cs xss xss=some true:=by
 unfold Cs
 have h:Ay (fun s_:Nat=>D0 xss xss s_) 4611686018427387904 0=some (.next ()):=by
  refine Br xss.length (fun i=>i) (by omega) _ rfl (fun i hi=>?_) ?_
  ·have hx:=gEg hi;have:=hb _ (List.getElem_mem hi)
   try dsimp only
   unfold D0;rw [Bh (by omega),cond_true,hx,obs,obs,Amb _ (by omega),obs,Bool.not_true,cond_false,An (by omega)]
  ·try dsimp only
   unfold D0;rw [Bl (by omega),cond_false]
 rw [h,bne_self_eq_false,cond_false]; rfl
theorem Ub (xss:List (List Int)) {v:Int} (hv:0<=v∧v<=576460752303423488) (hn:xss.length<=1048576) (hb:G9 1048576 xss) :
  ∃ yss,∃ u:Int,v<=u∧u<=v+1099511627776∧Dg xss v=some (yss,u)∧yss.length=xss.length∧Cm yss v=some u:=by
 have hm:xss.length*1048576<=1048576*1048576:=Nat.mul_le_mul_right _ hn;have ht:=fun i=>Aj8 hb i
 have htt:Ej xss<=xss.length*1048576:=Abo hb;refine ⟨Is v xss,v+Ej xss,by omega,by omega,?_,G5 _ _,?_⟩
 ·unfold Dg
  have h:Ay (fun s_:Int×Nat×List (List Int)=>C1 s_.1 s_.2.1 s_.2.2) 4611686018427387904 (v,0,xss)=some (v+Ej xss,Is v xss):=by
   refine Br xss.length (fun i=>(v+Ej (xss.take i),i,(Is v xss).take i++xss.drop i)) (by omega) _ (by simp [Ej]) (fun i hi=>?_) ?_
   ·have hl:((Is v xss).take i).length=i:=by rw [List.length_take,G5]; omega
    have h1:=hb _ (List.getElem_mem hi);have h2:=ht i;have hg:=Q4 v xss i hi
    try dsimp only
    unfold C1;rw [Bh (by rw [List.length_append,hl,List.length_drop]; omega),cond_true,Hw hi hl,obs,Afs _ (by omega) (by omega),obs,An (by simp [mkL]),An (by omega),Hu hi hl,Ts hi,List.take_add_one,hg];simp [Int.add_assoc]
   ·try dsimp only
    unfold C1;have hl:((Is v xss).take xss.length).length=xss.length:=by rw [List.length_take,G5]; omega
    rw [Bl (by rw [List.length_append,hl]; simp),cond_false];simp [List.take_of_length_le,G5]
  rw [h]; rfl
 ·unfold Cm
  have h:Ay (fun s_:Int×Nat=>C3 (Is v xss) s_.1 s_.2) 4611686018427387904 (v,0)=some (.next (v+Ej xss)):=by
   refine Br xss.length (fun i=>(v+Ej (xss.take i),i)) (by omega) _ (by simp [Ej]) (fun i hi=>?_) ?_
   ·have h1:=hb _ (List.getElem_mem hi);have h2:=ht i
    try dsimp only
    unfold C3;rw [Bh (by rw [G5]; omega),cond_true,Q4 v xss i hi,obs,Aeg _ (by omega) (by omega),obs,Bl (by omega),cond_false,An (by omega),Ts hi];simp [Int.add_assoc]
   ·try dsimp only
    unfold C3;rw [Bl (by rw [G5]; omega),cond_false,List.take_length]
  rw [h]; rfl
def szW (v:Int) (xss:List (List Int)):Int:=if v<xss.length+Ej xss then -1 else v - (xss.length+Ej xss)
theorem Apt {v:Int} {xss:List (List Int)} (hv:v<=1048576) (h:¬ szW v xss<0):xss.length+Ej xss<=1048576∧G9 1048576 xss∧szW v xss=v - (xss.length+Ej xss):=by
 unfold szW at h ⊢;split at h
 ·omega
 rename_i h1;have h2:xss.length+Ej xss<=1048576:=by omega
 refine ⟨h2,fun x hx=>?_,if_neg h1⟩
 have:∀ {l:List (List Int)},x∈l->x.length<=Ej l:=by
  intro l
  induction l with
  | nil=>intro h; cases h
  | cons y r ih =>
   intro h;simp only [Ej,List.map_cons,List.sum_cons] at ih ⊢;rcases List.mem_cons.1 h with rfl | h
   ·omega
   ·have:=ih h; omega
 have:=this hx;omega
theorem Ajq (xss:List (List Int)) {v:Int} (hv:0<=v∧v<=1048576) (hn:xss.length<=9223372036854775807) (hb:G9 9223372036854775807 xss):Fo xss v=some (szW v xss):=by
 unfold Fo;rw [C9 (by omega) (by omega)];by_cases h0:v<xss.length
 ·rw [Bh (by omega),szW,if_pos (by omega)]; rfl
 rw [Bl (by omega),cond_false]
 have h:Ay (fun s_:Int×Nat=>D1 xss s_.1 s_.2) 4611686018427387904 (v - xss.length,0)=some (if v<xss.length+Ej xss then .out (-1) else .next (v - (xss.length+Ej xss))):=by
  have hm:∀ i,Ej (xss.take i)<=Ej xss:=fun i=>by
   have:Ej xss=Ej (xss.take i)+Ej (xss.drop i):=by
    conv=>lhs; rw [← List.take_append_drop i xss]
    rw [Ej,List.map_append,List.sum_append]; rfl
   omega
  refine Gx xss.length (fun i s=>s=(v - xss.length - Ej (xss.take i),i)∧(xss.length:Int)+Ej (xss.take i)<=v) (by omega) _ ⟨by simp [Ej],by simp [Ej]; omega⟩ ?_ ?_
  ·rintro i s hi ⟨rfl,h1⟩;have hx:=gEg hi;have hr:=hb _ (List.getElem_mem hi);have hs:=Ts hi;have hm1:=hm (i+1)
   try dsimp only
   unfold D1;rw [Bh (by omega),cond_true,hx,obs,Amo _ (by omega) hr,obs,szV];by_cases h2:v - xss.length - Ej (xss.take i)<xss[i].length
   ·refine .inr ?_;rw [if_pos h2,if_pos (by omega)]; rfl
   ·refine .inl ⟨(v - xss.length - Ej (xss.take (i+1)),i+1),?_,rfl,by omega⟩;rw [if_neg h2,Bl (by omega),cond_false,An (by omega),hs,show v - ↑xss.length - ↑(Ej (List.take i xss)) - ↑xss[i].length=v - ↑xss.length - ↑(Ej (List.take i xss)+xss[i].length) by omega]
  ·rintro s ⟨rfl,h1⟩;rw [List.take_length] at h1 ⊢
   try dsimp only
   unfold D1;rw [Bl (by omega),cond_false,if_neg (by omega)];simp [Int.sub_sub]
 rw [h,szW];split <;> rfl
theorem Ajj (xss:List (List Int)) (hn:xss.length<=1048576) (hb:G9 1048576 xss):Fx xss=some xss:=by
 unfold Fx;rw [An (by omega)]
 have h:Ay (fun s_:Nat×List (List Int)=>D2 xss s_.1 s_.2) 4611686018427387904 (0,List.replicate xss.length ([]:List Int))=some xss:=by
  refine Br xss.length (fun i=>(i,xss.take i++List.replicate (xss.length - i) [])) (by omega) xss (by simp) (fun i hi=>?_) ?_
  ·have hx:=gEg hi;have hr:=hb _ (List.getElem_mem hi)
   try dsimp only
   unfold D2;rw [Bh (by omega),cond_true,hx,obs,Ald _ (by omega),obs,Aak hi,obs,An (by omega),Aap hx]
  ·try dsimp only
   unfold D2;rw [Bl (by omega),cond_false];simp
 rw [h]; rfl
theorem An7 {R:Nat->Prop} {w:World} {t:Ty} {A:Option Addr} {c:Nat} {xss:List (List t.D)} {l:List Addr} (h:Sl R w (.slice t) A c xss l):∀ x∈xss,x.length<=9223372036854775807:=by
 obtain ⟨_,_,f,_,h4⟩:=h;intro x hx;obtain ⟨i,hi,rfl⟩:=List.getElem_of_mem hx;obtain ⟨_,_,_,h5⟩:=h4 (by omega);obtain ⟨A',c',_,h6⟩:=h5 i hi;exact (Akt (xs:=xss[i]) h6).2
end
section
def Wt (p n:Int) (b:List (List Int)):Bool:=b.all fun x=>((x.length:Nat):Int)==n&&x.all fun a=>inR a 0 (p - 1)
theorem G2 {a lo hi:Int}:inR a lo hi=true↔lo<=a∧a<=hi:=by simp [inR]
theorem S9 {p:Int} {n:Nat} {b:List (List Int)} (h:Wt p n b=true):MatW p n b:=by
 intro x hx;have h1:=List.all_eq_true.1 h x hx;simp only [Bool.and_eq_true,beq_iff_eq,List.all_eq_true,G2] at h1;exact ⟨by omega,fun a ha=>by have:=h1.2 a ha; omega⟩
theorem Anc (p n:Int) (b:List (List Int)) (hp:2<=p∧p<=97) (hb:b.length<=1048576) (hr:G9 1048576 b):Gt p n b=some (Wt p n b):=by
 unfold Gt;rw [Pb b (fun x=>((x.length:Nat):Int)==n&&x.all fun a=>inR a 0 (p - 1)) (.next ()) (.out false) (by omega) (fun i x h=>?_) ?_,R0]; rfl
 ·unfold F9;rw [Bl (by omega),cond_false]
 ·have:=Au h;have hx:=hr x (List.mem_of_getElem? h);unfold F9;rw [Bh (by omega),cond_true,h,obs];cases hc:((x.length:Nat):Int)==n
  ·rw [show (((x.length:Nat):Int) !=n)=true by simp only [bne,hc,Bool.not_false],cond_true,obs,cond_true,Bool.false_and]; rfl
  ·rw [show (((x.length:Nat):Int) !=n)=false by simp only [bne,hc,Bool.not_true],cond_false,Apq p x hp (by omega),obs,obs,Bool.true_and,An (by omega)];cases x.all fun a=>inR a 0 (p - 1) <;> rfl
theorem Ab4 (p n:Int) (b:List (List Int)) (hb:b.length<=1048576) (hr:G9 1048576 b):Dz p b n=some (Wt p n b):=by
 unfold Dz;rw [Pb b (fun x=>((x.length:Nat):Int)==n&&x.all fun a=>inR a 0 (p - 1)) (.next ()) (.out false) (by omega) (fun i x h=>?_) ?_,R0]; rfl
 ·unfold D3;rw [Bl (by omega),cond_false]
 ·have:=Au h;have hx:=hr x (List.mem_of_getElem? h);unfold D3;rw [Bh (by omega),cond_true,h,obs,Agu p x n (by omega),obs,An (by omega)];cases ((x.length:Nat):Int)==n&&x.all fun a=>inR a 0 (p - 1) <;> rfl
theorem Amd (x y:List Int) (hx:x.length<=1048576):Gu x y=some (x==y):=by
 unfold Gu;by_cases h:x.length=y.length
 ·rw [show (((x.length:Nat):Int) !=((y.length:Nat):Int))=false by rw [h]; exact bne_self_eq_false _,cond_false]
  have key:Ay (fun s_:Nat=>Eu x y s_) 4611686018427387904 0=some (if x==y then .next () else .out false):=by
   refine Gx x.length (fun i s=>s=i∧x.take i=y.take i) (by omega) _ ⟨rfl,by simp⟩ ?_ ?_
   ·rintro i s hi ⟨hsi,ht⟩;subst hsi;unfold Eu;rw [Bh (by omega),cond_true,gEg hi,obs,gEg (show s<y.length by omega),obs];by_cases he:x[s]=y[s]'(by omega)
    ·refine .inl ⟨s+1,?_,rfl,?_⟩
     ·rw [show (x[s] !=y[s]'(by omega))=false by rw [he]; exact bne_self_eq_false _,cond_false,An (by omega)]
     ·rw [List.take_add_one,List.take_add_one,ht,gEg hi,gEg (show s<y.length by omega),he]
    ·refine .inr ?_;rw [bne_iff_ne.2 he,cond_true,show (x==y)=false from by rw [beq_eq_false_iff_ne]; intro e; subst e; exact he rfl]; rfl
   ·rintro s ⟨hs,ht⟩;subst hs;rw [List.take_length,h,List.take_length] at ht;subst ht;unfold Eu;rw [Bl (by omega),cond_false,beq_self_eq_true]; rfl
  rw [key];cases x==y <;> rfl
 ·rw [show (((x.length:Nat):Int) !=((y.length:Nat):Int))=true by rw [bne_iff_ne]; omega,cond_true,show (x==y)=false from by rw [beq_eq_false_iff_ne]; intro e; subst e; exact h rfl]
theorem Ame (x y:List (List Int)) (hx:x.length<=1048576) (hr:G9 1048576 x):Gw x y=some (x==y):=by
 unfold Gw;by_cases h:x.length=y.length
 ·rw [show (((x.length:Nat):Int) !=((y.length:Nat):Int))=false by rw [h]; exact bne_self_eq_false _,cond_false]
  have key:Ay (fun s_:Nat=>Ew x y s_) 4611686018427387904 0=some (if x==y then .next () else .out false):=by
   refine Gx x.length (fun i s=>s=i∧x.take i=y.take i) (by omega) _ ⟨rfl,by simp⟩ ?_ ?_
   ·rintro i s hi ⟨hsi,ht⟩;subst hsi;unfold Ew;rw [Bh (by omega),cond_true,gEg hi,obs,gEg (show s<y.length by omega),obs,Amd _ _ (hr _ (List.getElem_mem hi)),obs];by_cases he:x[s]=y[s]'(by omega)
    ·refine .inl ⟨s+1,?_,rfl,?_⟩
     ·rw [show (x[s]==y[s]'(by omega))=true by rw [he]; exact beq_self_eq_true _,Bool.not_true,cond_false,An (by omega)]
     ·rw [List.take_add_one,List.take_add_one,ht,gEg hi,gEg (show s<y.length by omega),he]
    ·refine .inr ?_;rw [beq_eq_false_iff_ne.2 he,Bool.not_false,cond_true,show (x==y)=false from by rw [beq_eq_false_iff_ne]; intro e; subst e; exact he rfl]; rfl
   ·rintro s ⟨hs,ht⟩;subst hs;rw [List.take_length,h,List.take_length] at ht;subst ht;unfold Ew;rw [Bl (by omega),cond_false,beq_self_eq_true]; rfl
  rw [key];cases x==y <;> rfl
 ·rw [show (((x.length:Nat):Int) !=((y.length:Nat):Int))=true by rw [bne_iff_ne]; omega,cond_true,show (x==y)=false from by rw [beq_eq_false_iff_ne]; intro e; subst e; exact h rfl]
theorem Ajw {p:Int} {w:Nat} {m:List (List Int)} (hp:isF p=true) (hm:MatW p w m) (hw:w<=100000) (hl:m.length<=100000):Em p m (w:Int)=some (gj p w m):=by
 have hb:=Hr hp;obtain ⟨k1,h2,h3⟩:=Fw hb.1 hm w
 have e1:∀ {m:List (List Int)},MatW p w m->rdW w m=m:=fun {m} hm=>by
  unfold rdW;exact (List.map_congr_left (g:=id) (fun x hx=>List.take_of_length_le (Nat.le_of_eq (hm x hx).1))).trans (List.map_id _)
 have e2:alW w m=List.replicate m.length []:=by
  unfold alW;rw [List.eq_replicate_iff];refine ⟨List.length_map ..,fun b hb=>?_⟩;obtain ⟨x,hx,rfl⟩:=List.mem_map.1 hb;exact List.drop_of_length_le (Nat.le_of_eq (hm x hx).1)
 have e3:(alW w (gjT p m w).2).length=m.length:=by rw [← h3]; exact List.length_map ..
 have hR:=Ug hp hm (Nat.le_refl w) (Nat.le_refl w) hw hl;rw [e1 hm,e2] at hR;unfold Em;rw [Amx hm hw hl,obs,An (by omega),hR,obs];rw [e1 k1];rw [An h3,An e3];exact An (by dsimp only; omega) _
theorem Apc (x:List Int):Jq x=some (x.take 48++(List.replicate 48 0).drop (x.take 48).length):=rfl
theorem Aik (x:List Int):(x.take 48++(List.replicate 48 (0:Int)).drop (x.take 48).length).length=48:=by simp; omega
theorem Aot {x y:List Int} {n:Nat} (hx:x.length=n) (hy:y.length=n) (hn:n<=48) (h:x.take 48++(List.replicate 48 (0:Int)).drop (x.take 48).length=y.take 48++(List.replicate 48 (0:Int)).drop (y.take 48).length):x=y:=by
 rw [List.take_of_length_le (by omega),List.take_of_length_le (show y.length<=48 by omega)] at h;exact (List.append_inj h (by omega)).1
theorem Ad4 {p:Int} {n:Nat} (b:List (List Int)) (hp:isF p=true) (hn:n<=48) (hb:b.length<=1048576) (hr:G9 1048576 b) :
  Ex p b (n:Int)=some (decide (((b.length:Nat):Int)<=n)&&(Wt p n b&&gj p n b==b)):=by
 unfold Ex;by_cases h1:(n:Int)<b.length
 ·rw [Bh h1,cond_true,obs,cond_true,Bl (by omega),Bool.false_and]
 rw [Bl h1,cond_false,Bh (show ((b.length:Nat):Int)<=n by omega),Bool.true_and,Ab4 p n b hb hr,obs,obs];cases hv:Wt p n b
 ·rw [Bool.not_false,cond_true,Bool.false_and]
 have hm:=S9 hv;have hp2:=Hr hp;have hl:=(Fw hp2.1 hm n).2;have hgl:=Tf (n:=n) hp2.1 hm;have hgm:=S4 (n:=n) hp2.1 hm;rw [Bool.not_true,cond_false,Ajw hp hm (by omega) (by omega),obs,obs,Bool.true_and]
 have key:Ay (fun s_:Nat=>C2 (gj p n b) b s_) 4611686018427387904 0=some (if gj p n b==b.take (gj p n b).length then .next () else .out false):=by
  generalize gj p n b=x at *;refine Gx x.length (fun i s=>s=i∧x.take i=b.take i) (by omega) _ ⟨rfl,by simp⟩ ?_ ?_
  ·rintro i s hi ⟨hsi,ht⟩;subst hsi;have hs:s<b.length:=by omega
   unfold C2;rw [Bh (by omega),cond_true,gEg hi,obs,Apc,obs,gEg hs,obs,Apc,obs,An ⟨Aik _,Aik _⟩];by_cases he:x[s]=b[s]
   ·refine .inl ⟨s+1,?_,rfl,?_⟩
    ·rw [he,beq_self_eq_true,Bool.not_true,cond_false,An (by omega)]
    ·rw [List.take_add_one,List.take_add_one,ht,gEg hi,gEg hs,he]
   ·refine .inr ?_;rw [beq_eq_false_iff_ne.2 (fun e=>he (Aot (hgm _ (List.getElem_mem hi)).1 (hm _ (List.getElem_mem hs)).1 hn e)),Bool.not_false,cond_true,show (x==b.take x.length)=false from ?_]
    ·rfl
    ·rw [beq_eq_false_iff_ne];intro e;refine he ?_;have e2:=congrArg (fun l=>l[s]?) e;simp only [List.getElem?_take,if_pos hi,gEg hi,gEg hs,Option.some.injEq] at e2;exact e2
  ·rintro s ⟨hs,ht⟩;subst hs;rw [List.take_length] at ht;unfold C2;rw [Bl (by omega),cond_false,← ht,beq_self_eq_true]; rfl
 rw [key];by_cases he:gj p n b=b.take (gj p n b).length
 ·rw [show (gj p n b==b.take (gj p n b).length)=true from beq_iff_eq.2 he];show some _=_;congr 1;by_cases hll:(gj p n b).length=b.length
  ·rw [hll,List.take_length] at he;rw [he,beq_self_eq_true,beq_self_eq_true]
  ·rw [show (gj p n b==b)=false from by rw [beq_eq_false_iff_ne]; exact fun e=>hll (congrArg List.length e),beq_eq_false_iff_ne]; omega
 ·rw [beq_eq_false_iff_ne.2 he,show (gj p n b==b)=false from ?_]
  ·rfl
  ·rw [beq_eq_false_iff_ne];intro e;exact he (by rw [e,List.take_length])
def X2 (p l r:Int) (b:List (List Int)):Bool:=isF p&&(inR l 0 24&&(inR r 0 (24 - l)&&(decide (((b.length:Nat):Int)<=l+r)&&(Wt p (l+r) b&&gj p (l+r).toNat b==b))))
theorem Ak3 (p l r:Int) (b:List (List Int)) (hb:b.length<=1048576) (hr:G9 1048576 b):Gq p l r b=some (X2 p l r b):=by
 unfold Gq X2;rw [Wi,obs];cases h1:inR l 0 24
 ·rw [Bool.false_and,Bool.and_false]; rfl
 have h1':=G2.1 h1;rw [cond_true,C9 (n:=24 - l) (by omega) (by omega),Wi,obs];cases h2:inR r 0 (24 - l)
 ·rw [Bool.false_and,Bool.and_false,Bool.and_false]; rfl
 have h2':=G2.1 h2;rw [cond_true,C9 (by omega) (by omega)];unfold H2;rw [Al3,obs];cases hp:isF p
 ·rfl
 rw [cond_true,Wi,obs,G2.2 (show 0<=l+r∧l+r<=24 by omega),cond_true];by_cases h3:((b.length:Nat):Int)<=l+r
 ·obtain ⟨n,hn⟩:=Int.eq_ofNat_of_zero_le (show 0<=l+r by omega);rw [Bh h3,cond_true,hn,Anc p n b (Hr hp) hb hr,obs];cases hv:Wt p (n:Int) b
  ·rfl
  have hm:=S9 hv;have hgl:=Tf (n:=n) (Hr hp).1 hm;have hgm:=S4 (n:=n) (Hr hp).1 hm;have hl:=(Fw (Hr hp).1 hm n).2;rw [cond_true,Xr hp hm (Nat.le_refl n) (by omega) (by omega),obs,Ame _ _ (by omega) (fun x hx=>by rw [(hgm x hx).1]; omega),obs];rfl
 ·rw [Bl h3]; rfl
theorem Acw (p l r:Int) (b:List (List Int)) (hb:b.length<=1048576) (hr:G9 1048576 b):D9 p l r b=some (X2 p l r b):=by
 unfold D9 X2;rw [show Kh p=some (isF p) from rfl,obs];cases hp:isF p
 ·rfl
 rw [cond_true,Bool.true_and]
 have hf:Id l r=some (inR l 0 24&&inR r 0 (24 - l)):=by
  unfold Id;rw [Af3,obs];cases h1:inR l 0 24
  ·rfl
  have h1':=G2.1 h1;rw [cond_true,Af3,obs,Bool.true_and];by_cases h2:0<=r∧r<=24
  ·rw [G2.2 h2,cond_true,obs,C9 (by omega) (by omega)];congr 1;rw [Bool.eq_iff_iff,G2];simp only [decide_eq_true_eq];omega
  ·rw [show inR r 0 24=false from by rw [Bool.eq_false_iff]; exact fun h=>h2 (G2.1 h),cond_false,obs];congr 1;symm;rw [Bool.eq_false_iff];intro h;have:=G2.1 h;exact h2 (by omega)
 rw [hf,obs];cases h1:inR l 0 24
 ·rfl
 have h1':=G2.1 h1;cases h2:inR r 0 (24 - l)
 ·rfl
 have h2':=G2.1 h2;obtain ⟨n,hn⟩:=Int.eq_ofNat_of_zero_le (show 0<=l+r by omega);rw [Bool.true_and,cond_true,C9 (by omega) (by omega),hn,Ad4 b hp (by omega) hb hr];rfl
structure Aqu (p l r:Int) (b:List (List Int)):Prop where
 fp:isF p=true
 hl:0<=l
 hr:0<=r
 hs:l+r<=24
 lb:((b.length:Nat):Int)<=l+r
 mb:MatW p (l+r).toNat b
 rb:gj p (l+r).toNat b=b
theorem Aj9 {p l r:Int} {b:List (List Int)} (h:X2 p l r b=true):Aqu p l r b:=by
 unfold X2 at h;simp only [Bool.and_eq_true,G2,decide_eq_true_eq,beq_iff_eq] at h;obtain ⟨h1,h2,h3,h4,h5,h6⟩:=h;refine ⟨h1,h2.1,h3.1,by omega,h4,?_,h6⟩;obtain ⟨n,hn⟩:=Int.eq_ofNat_of_zero_le (show 0<=l+r by omega);rw [hn] at h5 ⊢;exact S9 h5
theorem Adi (l r:Int) (b:List (List Int)) {v:Int} (hv:0<=v∧v<=1048576) (hn:b.length<=9223372036854775807) (hb:G9 9223372036854775807 b):D8 l r b v=some (szW v b):=by
 unfold D8;rw [Ajq b hv hn hb,obs];by_cases h:szW v b<0
 ·rw [Bh h,cond_true];congr 1;unfold szW at h ⊢;split at h <;> rename_i h'
  ·rw [if_pos h']
  ·omega
 ·rw [Bl h,cond_false]
theorem Abx (l r:Int) (b:List (List Int)) (hn:b.length<=1048576) (hb:G9 1048576 b):B0 l r b=some b:=by
 unfold B0;rw [Ajj b hn hb,obs]
theorem Abr (l r:Int) (b:List (List Int)) (hn:b.length<=1048576) (hb:G9 1048576 b):Eb l r b l r b=some true:=by
 unfold Eb;rw [bne_self_eq_false,cond_false,bne_self_eq_false,cond_false,Abg b hn hb,obs,Bool.not_true,cond_false]
end
section
def Bs (n:Nat) (ports:List Int):List Int:=(upV n).filter fun q=> !ports.any fun x=>x==q
theorem Ag9 (xs:List Int) (n:Int) (hx:xs.length<=1099511627776):Bw xs n=some (xs.any fun x=>x==n):=by
 unfold Bw C7
 have hs:∀ i x,xs[i]? =some x->Bp xs n i=some (if x==n then Ctl.out (Ctl.out ((i:Nat):Int)) else .next (i+1)):=fun i x h=>by
  have:=Au h;unfold Bp;rw [Bh (by omega),cond_true,h,obs,An (by omega),show (n==x)=(x==n) from by rw [Bool.eq_iff_iff]; simp only [beq_iff_eq]; exact eq_comm];cases x==n <;> rfl
 have he:Bp xs n xs.length=some (.out (.next ())):=by
  unfold Bp;rw [Bl (by omega),cond_false]
 rcases Aaq xs (fun x=>x==n) (Ctl.next ()) (fun i=>Ctl.out ((i:Nat):Int)) (F:=4611686018427387904) (by omega) hs he with ⟨h1,i,_,h2⟩ | ⟨h1,h2⟩
 ·rw [h2,h1];show (some ((i:Nat):Int)).bind _=_;rw [obs,Bh (by omega)]
 ·rw [h2,h1]; rfl
theorem Uu {α:Type} (q:α->Bool) (xs:List α) (x:α):(xs++[x]).filter q=if q x then xs.filter q++[x] else xs.filter q:=by
 rw [List.filter_append];cases h:q x <;> simp [h]
theorem Ak5 (xs ports:List Int) (hx:xs.length<=1000) (hp:ports.length<=1099511627776):Gv xs ports=some (xs.filter fun q=> !ports.any fun x=>x==q):=by
 unfold Gv
 have h:Ay (fun s_:Nat×List Int=>Et xs ports s_.1 s_.2) 4611686018427387904 (0,[])=some (xs.filter fun q=> !ports.any fun x=>x==q):=by
  refine Br xs.length (fun i=>(i,(xs.take i).filter fun q=> !ports.any fun x=>x==q)) (by omega) _ (by simp) (fun i hi=>?_) ?_
  ·have hx:=gEg hi;have hl:((xs.take i).filter fun q=> !ports.any fun x=>x==q).length<=1000:=Nat.le_trans (List.length_filter_le ..) (by rw [List.length_take]; omega)
   try dsimp only
   unfold Et;rw [Bh (by omega),cond_true,hx,obs,Ag9 ports _ hp,obs,List.take_add_one,hx,Option.toList,Uu];cases ports.any fun x=>x==xs[i]
   ·rw [Bool.not_false,cond_true,An (by omega),obs,if_pos rfl,An (by omega)]
   ·rw [Bool.not_true,cond_false,obs,if_neg (by decide),An (by omega)]
  ·try dsimp only
   unfold Et;rw [Bl (by omega),cond_false,List.take_length]
 rw [h,obs]
theorem Alz (n:Nat) (ports:List Int) (hn:n<=1000) (hp:ports.length<=1099511627776):Gi ports (n:Int)=some (Bs n ports):=by
 unfold Gi
 have h:Ay (fun s_:Nat×List Int=>Ek (n:Int) ports s_.1 s_.2) 4611686018427387904 (0,[])=some (Bs n ports):=by
  refine Br n (fun i=>(i,Bs i ports)) (by omega) _ rfl (fun i hi=>?_) ?_
  ·have hl:(Bs i ports).length<=i:=Nat.le_trans (List.length_filter_le ..) (by simp [upV])
   try dsimp only
   unfold Ek;rw [Bh (by omega),cond_true,Ani _ _ hp,obs]
   have e:Bs (i+1) ports=if (!ports.any fun x=>x==(i:Int)) then Bs i ports++[(i:Int)] else Bs i ports:=by
    unfold Bs;rw [Al0,Uu]
   rw [e];cases ports.any fun x=>x==(i:Int)
   ·rw [Bool.not_false,cond_true,An (by omega),obs,if_pos rfl,An (by omega)]
   ·rw [Bool.not_true,cond_false,obs,if_neg (by decide),An (by omega)]
  ·try dsimp only
   unfold Ek;rw [Bl (by omega),cond_false]
 rw [h,obs]
section
variable {p:Int} {n:Nat} {B:List (List Int)} {ports:List Int}
structure Aed (n:Nat) (ports:List Int):Prop where
 nd:ports.Nodup
 io:InO n ports
theorem Wb {q:Int}:q∈Bs n ports↔(0<=q∧q<(n:Int))∧q∉ports:=by
 unfold Bs upV;rw [List.mem_filter,List.mem_map];constructor
 ·rintro ⟨⟨k,hk,rfl⟩,h⟩;have:=List.mem_range.1 hk;refine ⟨by omega,fun hm=>?_⟩;rw [Bool.not_eq_true',List.any_eq_false] at h;exact h _ hm (by simp)
 ·rintro ⟨h,hn⟩;refine ⟨⟨q.toNat,List.mem_range.2 (by omega),by omega⟩,?_⟩;rw [Bool.not_eq_true',List.any_eq_false];intro x hx he;exact hn (by rwa [← (beq_iff_eq.1 he)])
theorem Ak8 (h:Aed n ports):OrdV n (ports++Bs n ports):=by
 refine ⟨?_,fun q=>?_⟩
 ·rw [List.nodup_append];refine ⟨h.nd,?_,fun a ha b hb e=>(Wb.1 hb).2 (e▸ha)⟩;unfold Bs upV;refine List.Pairwise.filter _ ?_;rw [List.pairwise_map];exact List.Pairwise.imp (fun hne e=>hne (by omega)) (List.nodup_range (n:=n))
 ·rw [List.mem_append,Wb];by_cases hq:q∈ports
  ·simp only [hq,true_or,true_iff];exact h.io q hq
  ·simp [hq]
def Agv (p:Int) (n:Nat) (B:List (List Int)) (ports:List Int):Bool×Nat×List (List Int) :=
 if ports.length=B.length∧(gjT p (B.map (Bn (ports++Bs n ports))) B.length).1=B.length then
  (true,n - ports.length,(gjT p (B.map (Bn (ports++Bs n ports))) B.length).2.map (·.drop ports.length))
 else (false,0,[])
theorem Ako (hp:isF p=true) (hn:n<=100) (hB:MatW p n B) (hb:B.length<=n) (P:Aed n ports) :
  Ci p B (n:Int) ports=some ((Agv p n B ports).1,(Agv p n B ports).2.2):=by
 have hb2:=Hr hp;have O:=Ak8 P;have hl:=O.len;have hpl:ports.length<=n:=by rw [List.length_append] at hl; omega
 have hio:InO n (Bs n ports):=fun q hq=>(Wb.1 hq).1
 have hW:MatW p n (B.map (Bn (ports++Bs n ports))):=by have:=Sj (o:=ports++Bs n ports) hb2.1 hB; rwa [hl] at this
 unfold Ci Agv;by_cases hk:ports.length=B.length
 ·have e1:B.map (Bn ports)=rdW ports.length (B.map (Bn (ports++Bs n ports))):=by
   unfold rdW;rw [List.map_map];refine List.map_congr_left fun b _=>?_
   show _=(Bn (ports++Bs n ports) b).take ports.length;rw [Afd,List.take_left' (by simp [Bn])]
  have e2:B.map (Bn (Bs n ports))=alW ports.length (B.map (Bn (ports++Bs n ports))):=by
   unfold alW;rw [List.map_map];refine List.map_congr_left fun b _=>?_
   show _=(Bn (ports++Bs n ports) b).drop ports.length;rw [Afd,List.drop_left' (by simp [Bn])]
  have h:=Fw hb2.1 hW B.length;have hrl:(Bs n ports).length<=n:=by rw [List.length_append] at hl; omega
  rw [show (((ports.length:Nat):Int) !=((B.length:Nat):Int))=false by rw [hk]; exact bne_self_eq_false _,cond_false,Ul hB P.io (by omega) (by omega),obs,Apk (by omega),obs,
   Ak5 _ _ (by simp [upV]; omega) (by omega),obs]
  rw [show (upV n).filter (fun q=> !ports.any fun x=>x==q)=Bs n ports from rfl,Ul hB hio (by omega) (by omega),obs,e1,e2,Ug hp hW (Nat.le_refl _) hpl (by omega) (by simp; omega),obs];rw [hk]
  rw [An (show (rdW B.length (gjT p (B.map (Bn (ports++Bs n ports))) B.length).2).length=(rdW B.length (B.map (Bn (ports++Bs n ports)))).length by simp only [rdW,List.length_map,h.2.2]),
   An (show (alW B.length (gjT p (B.map (Bn (ports++Bs n ports))) B.length).2).length=(alW B.length (B.map (Bn (ports++Bs n ports)))).length by simp only [alW,List.length_map,h.2.2])]
  have h2:=h.2.1;rw [h.2.2,List.length_map] at h2;by_cases hr:(gjT p (B.map (Bn (ports++Bs n ports))) B.length).1=B.length
  ·rw [if_pos ⟨rfl,hr⟩];dsimp only;rw [hr,Bl (by omega),cond_false]; rfl
  ·rw [if_neg fun c=>hr c.2];dsimp only;rw [Bh (by omega),cond_true]
 ·rw [show (((ports.length:Nat):Int) !=((B.length:Nat):Int))=true by rw [bne_iff_ne]; omega,cond_true,if_neg fun c=>hk c.1]
theorem Akd (hp:isF p=true) (hn:n<=100) (hB:MatW p n B) (hb:B.length<=n) (hr:gj p n B=B) (P:Aed n ports) :
  D6 p (n:Int) B ports=some (Agv p n B ports):=by
 have hb2:=Hr hp;have O:=Ak8 P;have hl:=O.len;have hl':=hl;rw [List.length_append] at hl';have hpl:ports.length<=n:=by omega
 have hrl:(Bs n ports).length<=n:=by omega
 have hW:MatW p n (B.map (Bn (ports++Bs n ports))):=by have:=Sj (o:=ports++Bs n ports) hb2.1 hB; rwa [hl] at this
 unfold D6 Agv;by_cases hk:ports.length=B.length
 ·rw [show (((ports.length:Nat):Int) !=((B.length:Nat):Int))=false by rw [hk]; exact bne_self_eq_false _,cond_false,Alz n ports (by omega) (by omega),obs]
  have h1:Ay (fun s_:Nat×List (List Int)=>B5 B ports (Bs n ports) s_.1 s_.2) 4611686018427387904 (0,[])=some (B.map (Bn (ports++Bs n ports))):=by
   have h:=H0 (body:=fun s_:Nat×List (List Int)=>B5 B ports (Bs n ports) s_.1 s_.2) B (Bn (ports++Bs n ports)) [] (F:=4611686018427387904) (by omega) (B.map (Bn (ports++Bs n ports))) (fun i x h=>?_) ?_
   ·simpa using h
   ·have:=Au h;have hx:=(hB x (List.mem_of_getElem? h)).1
    have hin:Ay (fun s_:Nat×List Int=>B7 ports (Bs n ports) x s_.1 s_.2) 4611686018427387904 (0,[])=some (Bn (ports++Bs n ports) x):=by
     have h:=H0 (body:=fun s_:Nat×List Int=>B7 ports (Bs n ports) x s_.1 s_.2) (ports++Bs n ports) (fun q=>x.getD q.toNat 0) [] (F:=4611686018427387904) (by omega) (Bn (ports++Bs n ports) x) (fun i q h=>?_) ?_
     ·simpa using h
     ·have:=Au h
      try dsimp only
      unfold B7;rw [Bh (by omega),cond_true,h,obs,Af0 hx ((O.mem q).1 (List.mem_of_getElem? h)),obs,An (by simp; omega),An (by omega)]
     ·try dsimp only
      unfold B7;rw [Bl (by omega),cond_false,List.nil_append]; rfl
    try dsimp only
    unfold B5;rw [Bh (by omega),cond_true,h,obs,Vn _ (by omega),obs,An (by omega),hin,obs,An (by simp; omega),obs,An (by omega)]
   ·try dsimp only
    unfold B5;rw [Bl (by omega),cond_false,List.nil_append]
  have hWl:(B.map (Bn (ports++Bs n ports))).length=B.length:=List.length_map ..;have hrk:(gj p n (B.map (Bn (ports++Bs n ports)))).length=(B.map (Bn (ports++Bs n ports))).length:=by rw [hWl]; exact Aj0 hb2.1 (Apa hp) hB hr O
  obtain ⟨k1,k2⟩:=Akr hb2.1 (Apa hp) hW (by omega) hrk;have hgm:=S4 (n:=n) hb2.1 hW;rw [h1,obs,Xr hp hW (Nat.le_refl n) (by omega) (by omega),obs,hk];rw [hWl] at k1 k2 hrk;generalize gj p n (B.map (Bn (ports++Bs n ports)))=R at *;by_cases hr:(gjT p (B.map (Bn (ports++Bs n ports))) B.length).1=B.length
  ·rw [if_pos ⟨rfl,hr⟩,← k2 hr]
   have hin:Ay (fun s_:Nat×List (List Int)=>Bo R ports s_.1 s_.2) 4611686018427387904 (0,[])=some (Ctl.next (R.map (·.drop B.length))):=by
    have h:=H0 (body:=fun s_:Nat×List (List Int)=>Bo R ports s_.1 s_.2) R (·.drop B.length) [] (F:=4611686018427387904) (by omega) (Ctl.next (R.map (·.drop B.length))) (fun i x h=>?_) ?_
    ·simpa using h
    ·have:=Au h;have hx:=(hgm x (List.mem_of_getElem? h)).1;have hld:=k1.2 hr i (by omega);rw [Bj h] at hld
     try dsimp only
     unfold Bo;rw [Bh (by omega),cond_true,h,obs,Afq x (by omega),obs,hld,bne_self_eq_false,cond_false,An (by omega),Vn _ (by simp; omega),obs,An (by simp; omega),An (by omega),hk]
    ·try dsimp only
     unfold Bo;rw [Bl (by omega),cond_false,List.nil_append]
   rw [hin];show some _=some _;rw [show (Bs n ports).length=n - B.length by omega]
  ·rw [if_neg fun c=>hr c.2];have hex:∃ i,i<R.length∧Kn (R.getD i [])≠i:=Classical.byContradiction fun hn=>hr (k1.1 fun i hi=>Classical.byContradiction fun hne=>hn ⟨i,by omega,hne⟩)
   have hin:Ay (fun s_:Nat×List (List Int)=>Bo R ports s_.1 s_.2) 4611686018427387904 (0,[])=some (Ctl.out (false,0,[])):=by
    refine Gx R.length (fun i s=>s.1=i∧s.2.length=i∧∀ j,j<i->Kn (R.getD j [])=j) (by omega) _ ⟨rfl,rfl,fun j hj=>by omega⟩ ?_ ?_
    ·rintro i ⟨s1,s2⟩ hi ⟨h1,h2,h3⟩;obtain rfl:s1=i:=h1;have hx:=(hgm _ (List.getElem_mem hi)).1;have hg:=gEg hi
     try dsimp only at h2 ⊢
     unfold Bo;rw [Bh (by omega),cond_true,hg,obs,Afq _ (by omega),obs];by_cases hld:Kn R[s1]=s1
     ·refine .inl ⟨_,by rw [hld,bne_self_eq_false,cond_false,An (by omega),Vn _ (by simp; omega),obs,An (by omega),An (by omega)],rfl,by simp [h2],fun j hj=>?_⟩;by_cases e:j=s1
      ·subst e; rw [Bj hg]; exact hld
      ·exact h3 j (by omega)
     ·exact .inr (by rw [show ((((Kn R[s1]):Nat):Int) !=((s1:Nat):Int))=true from by rw [bne_iff_ne]; omega,cond_true])
    ·rintro ⟨s1,s2⟩ ⟨h1,h2,h3⟩;obtain ⟨i,hi,hne⟩:=hex;exact (hne (h3 i hi)).elim
   rw [hin]; rfl
 ·rw [show (((ports.length:Nat):Int) !=((B.length:Nat):Int))=true by rw [bne_iff_ne]; omega,cond_true,if_neg fun c=>hk c.1]
end
end
section
theorem Wp (l r:Int) (xss:List (List Int)) {v:Int} (hv:0<=v∧v<=576460752303423488) (hn:xss.length<=1048576) (hb:G9 1048576 xss) :
  ∃ yss,∃ u:Int,v<=u∧u<=v+1099511627776∧C0 l r xss v=some (yss,u)∧yss.length=xss.length∧Cm yss v=some u:=by
 obtain ⟨yss,u,h1,h2,h3,h4,h5⟩:=Ub xss hv hn hb;refine ⟨yss,u,h1,h2,?_,h4,h5⟩;unfold C0;rw [h3,obs,An h4]
end
section
def Pg (n:Nat):Nat->Nat->List Int->List (List Int)
 | 0,_,l=>[l]
 | j+1,f,l=>(List.range (n - f)).flatMap fun i=>Pg n j (f+i+1) (l++[((f+i:Nat):Int)])
theorem Aof:((List.range 11).all fun n=>(List.range (n+1)).all fun k=>(Ep (n:Int) (k:Int)==some (Pg n k 0 []))&&decide ((Pg n k 0 []).length<=1024))=true:=by kernel_rfl
theorem Aew {n k:Nat} (hn:n<=10) (hk:k<=n):Ep (n:Int) (k:Int)=some (Pg n k 0 [])∧(Pg n k 0 []).length<=1024:=by
 have h:=List.all_eq_true.1 (List.all_eq_true.1 Aof n (List.mem_range.2 (by omega))) k (List.mem_range.2 (by omega));rw [Bool.and_eq_true,beq_iff_eq,decide_eq_true_eq] at h;exact h
def Ajl (f:Nat) (l:List Int):Prop:=l.Pairwise (·<·)∧∀ q∈l,0<=q∧q<(f:Int)
theorem Aei {f q:Nat} {l:List Int} (h:Ajl f l) (hq:f<=q):Ajl (q+1) (l++[(q:Int)]):=by
 refine ⟨List.pairwise_append.2 ⟨h.1,List.pairwise_singleton ..,fun a ha b hb=>?_⟩,fun x hx=>?_⟩
 ·obtain rfl:=List.mem_singleton.1 hb;have:=h.2 a ha;omega
 ·rcases List.mem_append.1 hx with hx | hx
  ·have:=h.2 x hx;omega
  ·obtain rfl:=List.mem_singleton.1 hx;omega
theorem Amf {n:Nat} {l:List Int} (h:Ajl n l):Aed n l:=⟨h.1.imp fun h e=>by omega,h.2⟩
theorem Aix {n:Nat}:∀ j f l,Ajl f l->f<=n->∀ x∈Pg n j f l,Ajl n x∧x.length=l.length+j
 | 0,f,l,h,hf,x,hx=>by
  obtain rfl:=List.mem_singleton.1 hx;exact ⟨⟨h.1,fun q hq=>by have:=h.2 q hq; omega⟩,rfl⟩
 | j+1,f,l,h,hf,x,hx=>by
  obtain ⟨i,hi,hx⟩:=List.mem_flatMap.1 hx;have:=List.mem_range.1 hi;obtain ⟨a,b⟩:=Aix j _ _ (Aei h (Nat.le_add_right f i)) (by omega) x hx;refine ⟨a,?_⟩;rw [b,List.length_append,List.length_singleton];omega
theorem Aqy {α:Type} (g:Nat->List α) {i m:Nat} (h:i<=m):((List.range i).flatMap g).length<=((List.range m).flatMap g).length:=by
 obtain ⟨d,rfl⟩:=Nat.exists_eq_add_of_le h
 clear h
 induction d with
 | zero=>exact Nat.le_refl _
 | succ d ih=>rw [← Nat.add_assoc,List.range_succ,List.flatMap_append,List.length_append]; omega
def Qk (p:Int) (n:Nat) (B:List (List Int)) (x:List Int):Bool:=(Agv p n B x).1
section
variable {p l r:Int} {n:Nat} {B:List (List Int)} (hp:isF p=true) (hn:n<=10) (hlr:l+r=(n:Int)) (hB:MatW p n B) (hb:B.length<=n)
include hp hn hlr hB hb
theorem Apw:∀ (j F f:Nat) (ls:List Int) (res:List (List Int)),j<F->ls.length+j=B.length->Ajl f ls->f<=n->res.length+(Pg n j f ls).length<=1024 ->
  B2 F (f:Int) ls ((B.length:Nat):Int) p l r B res (n:Int)=some (ls,res++(Pg n j f ls).filter (Qk p n B)):=by
 intro j
 induction j with
 | zero =>
  intro F f ls res hF hl hi hf hr;obtain ⟨F,rfl⟩:=Nat.exists_eq_add_of_le hF;rw [show 0+1+F=F+1 by omega];unfold B2 B6;have hk:ls.length=B.length:=by omega
  simp only [Pg,List.length_singleton] at hr;rw [hk,beq_self_eq_true,cond_true,An (by omega),An (by simp),An (by omega),Int.toNat_natCast,← hk,List.take_length];unfold Dv Bu;rw [obs,hlr,C9 (by omega) (by omega),Ako hp (by omega) hB hb ⟨hi.1.imp fun h e=>by omega,fun q hq=>by have:=hi.2 q hq; omega⟩,obs];show _=some (ls,res++[ls].filter (Qk p n B));by_cases hc:(Agv p n B ls).1=true
  ·rw [hc,cond_true,An (by omega),show [ls].filter (Qk p n B)=[ls] from by simp [Qk,hc]]; rfl
  ·rw [Bool.not_eq_true] at hc;rw [hc,cond_false,show [ls].filter (Qk p n B)=[] from by simp [Qk,hc],List.append_nil]; rfl
 | succ j ih =>
  intro F f ls res hF hl hi hf hr;obtain ⟨F,rfl⟩:=Nat.exists_eq_add_of_le hF;rw [show j+1+1+F=(j+1+F)+1 by omega];unfold B2 B6;rw [show ((((ls.length:Nat):Int))==((B.length:Nat):Int))=false by rw [beq_eq_false_iff_ne]; omega,cond_false];simp only [Pg] at hr ⊢;refine Br (n - f) (fun i=>(((f+i:Nat):Int),ls,res++((List.range i).flatMap fun i=>Pg n j (f+i+1) (ls++[((f+i:Nat):Int)])).filter (Qk p n B))) (by omega) _ (by simp) (fun i hi'=>?_) ?_
  ·try dsimp only
   unfold Cn;have hle:=Aqy (fun i=>Pg n j (f+i+1) (ls++[((f+i:Nat):Int)])) (show i+1<=n - f by omega);rw [List.range_succ,List.flatMap_append,List.length_append] at hle;simp only [List.flatMap_cons,List.flatMap_nil,List.append_nil] at hle;have hfl:=List.length_filter_le (Qk p n B) ((List.range i).flatMap fun i=>Pg n j (f+i+1) (ls++[((f+i:Nat):Int)]))
   rw [Bh (by omega),cond_true,An (by omega),C9 (by omega) (by omega),show (((f+i:Nat):Int)+1)=((f+i+1:Nat):Int) by omega,
    ih (j+1+F) (f+i+1) (ls++[((f+i:Nat):Int)]) _ (by omega) (by rw [List.length_append,List.length_singleton]; omega) (Aei hi (Nat.le_add_right f i)) (by omega) (by rw [List.length_append]; omega),obs]
   try dsimp only
   rw [List.length_append,List.length_singleton,C9 (by omega) (by omega),An (by omega),show ((((ls.length+1:Nat):Int)) - 1).toNat=ls.length by omega,List.take_left' rfl,List.range_succ,List.flatMap_append,List.filter_append,List.append_assoc];simp only [List.flatMap_cons,List.flatMap_nil,List.append_nil];rfl
  ·try dsimp only
   unfold Cn;rw [Bl (by omega),cond_false]
theorem Ajh (hl:(Pg n B.length 0 []).length<=1024):A2 (n:Int) ((B.length:Nat):Int) p l r B []=some ((Pg n B.length 0 []).filter (Qk p n B)):=by
 unfold A2;have h:=Apw hp hn hlr hB hb B.length 4096 0 [] [] (by omega) (by simp) ⟨List.Pairwise.nil,fun q hq=>by cases hq⟩ (by omega) (by simpa using hl);rw [An (by omega),show (0:Int)=((0:Nat):Int) from rfl,h,obs,List.nil_append]
theorem Ajv (hr:gj p n B=B) {ys:List (List Int)} (hl:ys.length<=1024) (hy:∀ x∈ys,Aed n x):Ay (fun s_:Nat×List (List Int)=>B9 ys p l r B s_.1 s_.2) 4611686018427387904 (0,[])=some (ys.filter (Qk p n B)):=by
 refine Br ys.length (fun i=>(i,(ys.take i).filter (Qk p n B))) (by omega) _ rfl (fun i hi=>?_) ?_
 ·have hg:=gEg hi;have hfl:=List.length_filter_le (Qk p n B) (ys.take i);rw [List.length_take] at hfl
  try dsimp only
  unfold B9 Lf;rw [Bh (by omega),cond_true,hg,obs,hlr,C9 (by omega) (by omega),Akd hp (by omega) hB hb hr (hy _ (List.getElem_mem hi)),obs,obs,List.take_add_one,hg,List.filter_append];simp only [Option.toList,List.filter_cons,List.filter_nil];show Option.bind (cond (Qk p n B ys[i]) _ _) _=_;cases Qk p n B ys[i]
  ·rw [cond_false,obs,An (by omega)]; simp
  ·rw [cond_true,An (by omega),obs,An (by omega)]; simp
 ·try dsimp only
  unfold B9;rw [Bl (by omega),cond_false,List.take_length]
end
theorem Akq (p l r:Int) (b:List (List Int)) (hb:b.length<=1048576) (hr:G9 1048576 b) :
  ∃ ok v,C5 p l r b=some (v,ok)∧Cc p l r b=some (ok,v)∧v.length<=1048576∧G9 1048576 v:=by
 unfold C5 Cc;rw [Ak3 p l r b hb hr,Acw p l r b hb hr];cases hg:X2 p l r b
 ·exact ⟨false,[],rfl,rfl,by simp,fun x hx=>by cases hx⟩
 have G:=Aj9 hg;have h1:=G.hl;have h2:=G.hr;have h3:=G.hs;have h4:=G.lb;obtain ⟨n,hn⟩:=Int.eq_ofNat_of_zero_le (show 0<=l+r by omega);have hm:=G.mb;have hrb:=G.rb;rw [hn] at hm hrb;rw [Int.toNat_natCast] at hm hrb;unfold Bu;simp only [obs,Bool.not_true,cond_false];rw [C9 (n:=l+r) (by omega) (by omega),hn];by_cases h10:10<(n:Int)
 ·rw [Bh h10];exact ⟨false,[],rfl,rfl,by simp,fun x hx=>by cases hx⟩
 rw [Bl h10];simp only [obs,cond_false];obtain ⟨q1,q2⟩:=Aew (n:=n) (k:=b.length) (by omega) (by omega);have hi:=Aix (n:=n) b.length 0 [] ⟨List.Pairwise.nil,fun q hq=>by cases hq⟩ (by omega);have hfl:=List.length_filter_le (Qk p n b) (Pg n b.length 0 []);rw [q1,obs,Ajv G.fp (by omega) hn hm (by omega) hrb q2 fun x hx=>Amf (hi x hx).1,Ajh G.fp (by omega) hn hm (by omega) q2];refine ⟨true,_,rfl,rfl,by omega,fun x hx=>?_⟩;have:=(hi x (List.mem_filter.1 hx).1).2;simp only [List.length_nil] at this;omega
theorem Am6 {p l r:Int} {b:List (List Int)} (h1:b.length<=9223372036854775807) (h2:G9 9223372036854775807 b):Bt p l r b=some true:=by
 unfold Bt;rw [Adi l r b (by omega) h1 h2,obs];by_cases hz:szW 1048576 b<0
 ·rw [Bh hz,cond_true]
 rw [Bl hz,cond_false];obtain ⟨z1,z2,_⟩:=Apt (by omega) hz;obtain ⟨ok,v,hs,hi,v1,v2⟩:=Akq p l r b (by omega) z2;obtain ⟨ys,u,a1,a2,a3,a4,a5⟩:=Wp l r b (v:=1) (by omega) (by omega) z2;obtain ⟨w,u2,c2,d2,m2,x2,k2⟩:=Ub v (v:=1) (by omega) v1 v2
 simp only [Abx l r b (by omega) z2,hs,hi,obs,Abr l r b (by omega) z2,Abg v v1 v2,bne_self_eq_false,Bool.not_true,cond_false,a3,An a4,m2,An x2,k2,
  Bl (show ¬ (u<0) by omega),Bl (show ¬ (u2<0) by omega)]
end
section
open Go.RowKit Go.Deep
theorem inputChoices_walk (p:Int) (rLeft:Int) (rRight:Int) (rBasis:List (List Int)) (A_rBasis:Option Addr) (c_rBasis:Nat) (l_rBasis:List Addr) (w:World) (_i_p: -9223372036854775808<=p∧p<=9223372036854775807) (_i_rLeft: -9223372036854775808<=rLeft∧rLeft<=9223372036854775807) (_i_rRight: -9223372036854775808<=rRight∧rRight<=9223372036854775807) (s_rBasis:Sl (fun _=>True) w (.slice .int) A_rBasis c_rBasis rBasis l_rBasis) (_i_rBasis:Ty.In (.slice (.slice .int)) rBasis) (tab:Tab w) :
  Calls Tryd.prog 3 #[.int .i64 p,.agg #[.int .i64 rLeft,.int .i64 rRight,.slice A_rBasis rBasis.length c_rBasis]] w fun e w'=>e=.returned (.bool true)∧Below w.heap.size w w':=by
 have hl:Bt p rLeft rRight rBasis=some true:=Am6 (Akt s_rBasis).2 (An7 s_rBasis);refine (Jg hl w (fun _=>True) [.int .i64 p,.agg #[.int .i64 rLeft,.int .i64 rRight,.slice A_rBasis rBasis.length c_rBasis]] (fun w' hb=>tab.below hb) ⟨_,_,rfl,rfl,⟨_,_,rfl,⟨_,rfl,⟨_,_,rfl,rfl,⟨_,_,rfl,rfl,⟨_,_,rfl,⟨A_rBasis,c_rBasis,l_rBasis,rfl,s_rBasis⟩,rfl⟩⟩⟩⟩,rfl⟩⟩).mono ?_;rintro e w' ⟨u,rfl,hb,us,ls,h1,_,rfl⟩;obtain ⟨u1,us1,rfl,h2,_,rfl,rfl⟩:=h1;obtain rfl:u1=.bool true:=h2;exact ⟨rfl,hb⟩
end
end Go.Proofs.YtkgjoabogcfgfaaDoor
