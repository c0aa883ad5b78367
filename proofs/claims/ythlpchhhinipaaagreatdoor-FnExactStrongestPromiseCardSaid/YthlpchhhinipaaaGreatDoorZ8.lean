/- Lemmas on the program and on partial functions that stand in place of its code (part 8); no condition beyond those that each one states. -/
import Derived.Test.YthlpchhhinipaaaGreatDoorZ7
import Derived.Deep.RegionHeld3
namespace Go.Proofs.YthlpchhhinipaaaGreatDoor
section
theorem Aqi {ρ:Type} {body:Nat×List (List Int)×List (List Int)->Option (Ctl (Nat×List (List Int)×List (List Int)) ρ)} {M E A B:List (List Int)} {r:Nat} {pr pa:List Int} {o:ρ}
  (hl:E.length=M.length) (hA:A.length=M.length) (hB:B.length=M.length) (hM:M[r]? =some pr) (hE:E[r]? =some pr) (hM':A[r]? =some pa) (hE':B[r]? =some pa) (hb:M.length<4611686018427387904)
  (hs:∀ i (h:i<M.length) (s t:List (List Int)),s.length=M.length->t.length=M.length->s[i]? =some M[i]->t[i]? =some (A[i]'oM)->s[r]? =some pr->t[r]? =some pa ->
   body (i,s,t)=some (.next (i+1,s.set i (E[i]'oM),t.set i (B[i]'oM)))) (he:body (M.length,E,B)=some (.out o)) :
  Aq body 4611686018427387904 (0,M,A)=some o:=by
 have hr:∀ {M E:List (List Int)} {pr:List Int} {j:Nat},(E.take j).length=j->M[r]? =some pr->E[r]? =some pr->(E.take j++M.drop j)[r]? =some pr:=by
  intro M E pr j h1 hM hE;by_cases h2:r<j
  ·rw [List.getElem?_append_left oM,List.getElem?_take,if_pos h2];exact hE
  ·rw [List.getElem?_append_right oM,h1,List.getElem?_drop,show j+(r - j)=r by omega];exact hM
 refine A7 M.length (fun j=>(j,E.take j++M.drop j,B.take j++A.drop j)) hb _ rfl (fun j hj=>?_) ?_
 ·have h1:(E.take j).length=j:=by rw [List.length_take];omega
  have h2:(B.take j).length=j:=by rw [List.length_take];omega
  rw [hs j hj _ _ (by simp;omega) (by simp;omega) (Kk hj h1) (Kk oM h2) (hr h1 hM hE) (hr h2 hM' hE'),Kn hj h1,Kn oM h2,List.take_add_one,gEg oM,List.take_add_one,gEg oM];rfl
 ·rw [List.drop_length,List.append_nil,← hl,List.take_length,hl,← hA,List.drop_length,List.append_nil,hA,← hB,List.take_length,hB];exact he
theorem VecW.tk {p:Int} {w u:Nat} {x:List Int} (h:VecW p w x) (hu:u<=w):VecW p u (x.take u):=⟨by rw [List.length_take,h.1];omega,fun a ha=>h.2 a (List.mem_of_mem_take ha)⟩
theorem VecW.dr {p:Int} {w u:Nat} {x:List Int} (h:VecW p w x):VecW p (w - u) (x.drop u):=⟨by rw [List.length_drop,h.1],fun a ha=>h.2 a (List.mem_of_mem_drop ha)⟩
theorem MatW.tk {p:Int} {w u:Nat} {m:List (List Int)} (h:MatW p w m) (hu:u<=w):MatW p u (m.map (·.take u)):=fun x hx=>by
 obtain ⟨y,hy,rfl⟩:=List.mem_map.1 hx;exact (h y hy).tk hu
theorem MatW.dr {p:Int} {w u:Nat} {m:List (List Int)} (h:MatW p w m):MatW p (w - u) (m.map (·.drop u)):=fun x hx=>by
 obtain ⟨y,hy,rfl⟩:=List.mem_map.1 hx;exact (h y hy).dr
section
variable {p:Int} {w:Nat} {m:List (List Int)}
theorem Ajt {x v:List Int} {f:Int} (hp:2<=p/\p<=97) (hx:VecW p w x) (hv:VecW p w v) (hw:w<=100000) (hf:0<=f/\f<p) :
  Cc p x (wI (0 - f)) v=some (D8 p f x v):=by
 have hl:=hx.1;have hl':=hv.1;unfold Cc;refine Wn (y:=D8 p f x v) (by simp [D8];omega) oM (fun j hj z hz=>?_) ?_
 ·have h1:=Ox hx hj;have h2:=Ox hv (j:=j) oM;have h3:=Abp hp hf h2;have e:(0 - f)*v[j]= -(f*v[j]):=by rw [Int.zero_sub,Int.neg_mul]
  try dsimp only
  unfold Cs;rw [Au oM,cond_true,gEg (show j<v.length by omega),obs,hz,obs,A4 (n:=0 - f) oM oM,e,A4 (n:= -(f*v[j])) oM oM,A4 oM oM,Aqe hp,obs,Af oM,Aiw];rfl
 ·try dsimp only
  unfold Cs;rw [At oM,cond_false]
theorem Ah0 {r k:Nat} {x y:List Int} {b:Int} (hr:m[r]? =some x) (hk:m[k]? =some y):Bd 0 (r:Int) (k:Int) b p m=some (Lk m r k):=by
 unfold Bd Lk;rw [show ((0:Int)==0)=true from rfl,cond_true,Bs oM,Int.toNat_natCast,hk,obs,Bs oM,Int.toNat_natCast,hr,obs,Bj hr,Bj hk]
theorem Ahd {r:Nat} {x:List Int} {a b:Int} (hp:isF p=true) (hx:VecW p w x) (hw:w<=100000) (hr:m[r]? =some x) (ha:1<=a/\a<p) :
  Bd 1 (r:Int) b a p m=some (m.set r (Em p (Om p a) x)):=by
 obtain ⟨_,i1,i2,i3,_⟩:=Aj9 hp ha;have hb:=Cu hp;have hl:=hx.1;unfold Bd;rw [show ((1:Int)==0)=false from rfl,cond_false,show ((1:Int)==1)=true from rfl,cond_true,i1,obs,Bs oM,Int.toNat_natCast,hr,obs];refine Ag0 hr (y:=Em p (Om p a) x) (by simp [Em]) oM (fun j hj z hz=>?_) ?_
 ·have hv:=Ox hx hj;have h3:=Abp hb hv ⟨i2,i3⟩
  try dsimp only
  unfold D6;rw [Au oM,cond_true,Bs oM,Int.toNat_natCast,Tg hr,obs,Af oM,hz,obs,Af oM,Af oM,List.set_set,Ahm,A4 oM oM,Int.tmod_eq_emod_of_nonneg oM]
 ·try dsimp only
  unfold D6;rw [At oM,cond_false]
theorem Ai0 {i r:Nat} {x v:List Int} {f:Int} (hp:2<=p/\p<=97) (hx:VecW p w x) (hv:VecW p w v) (hw:w<=100000) (hi:m[i]? =some x) (hr:m[r]? =some v) (hn:i≠r) (hf:0<=f/\f<p) :
  Bd 2 (i:Int) (r:Int) f p m=some (m.set i (D8 p f x v)):=by
 have hl:=hx.1;have hl':=hv.1;unfold Bd
 rw [show ((2:Int)==0)=false from rfl,cond_false,show ((2:Int)==1)=false from rfl,cond_false,show ((2:Int)==2)=true from rfl,cond_true,Bs oM,Int.toNat_natCast,hi,obs,Bs oM,Int.toNat_natCast,hr,obs,
  Af hn,Ajt hp hx hv hw hf,obs,Af (by simp [D8];omega)]
theorem Aha {r:Nat} (hr:r<m.length):Lk m r r=m:=by
 obtain ⟨x,hx⟩:=Ke hr;unfold Lk;rw [Bj hx,List.set_set,Oo hx]
theorem As9 {A:List (List Int)} {r k:Nat} (hA:A.length=m.length) (hr:r<m.length) (hk:k<m.length):Bq 0 (r:Int) (k:Int) 0 p m A=some (Lk m r k,Lk A r k):=by
 unfold Bq;by_cases h:r=k
 ·subst h;rw [beq_self_eq_true,cond_true,Aha hr,Aha oM]
 ·obtain ⟨x,hx⟩:=Ke hr;obtain ⟨y,hy⟩:=Ke hk;obtain ⟨x',hx'⟩:=Ke (show r<A.length by omega);obtain ⟨y',hy'⟩:=Ke (show k<A.length by omega);rw [show ([(0:Int),(r:Int),(k:Int),0]==[0,(r:Int),(r:Int),0])=false from by rw [beq_eq_false_iff_ne];intro e;simp at e;omega,cond_false,Ah0 hx hy,obs,Af (Qr ..),Ah0 hx' hy',obs,Af (Qr ..)]
theorem Atx {A:List (List Int)} {w' r:Nat} {x y:List Int} {a:Int} (hp:isF p=true) (hx:VecW p w x) (hy:VecW p w' y) (hw:w<=100000) (hw':w'<=100000) (hr:m[r]? =some x) (hA:A[r]? =some y) (ha:1<=a/\a<p) :
  Bq 1 (r:Int) 0 a p m A=some (m.set r (Em p (Om p a) x),A.set r (Em p (Om p a) y)):=by
 unfold Bq;rw [show ([(1:Int),(r:Int),0,a]==[0,(r:Int),(r:Int),0])=false from by rw [beq_eq_false_iff_ne];intro e;simp at e,cond_false,Ahd hp hx hw hr ha,obs,Af (List.length_set ..),Ahd hp hy hw' hA ha,obs,Af (List.length_set ..)]
theorem As1 {A:List (List Int)} {w' i r:Nat} {x v y u:List Int} {f:Int} (hp:2<=p/\p<=97) (hx:VecW p w x) (hv:VecW p w v) (hy:VecW p w' y) (hu:VecW p w' u) (hw:w<=100000) (hw':w'<=100000)
  (hi:m[i]? =some x) (hr:m[r]? =some v) (hi':A[i]? =some y) (hr':A[r]? =some u) (hn:i≠r) (hf:0<=f/\f<p) :
  Bq 2 (i:Int) (r:Int) f p m A=some (m.set i (D8 p f x v),A.set i (D8 p f y u)):=by
 unfold Bq;rw [show ([(2:Int),(i:Int),(r:Int),f]==[0,(i:Int),(i:Int),0])=false from by rw [beq_eq_false_iff_ne];intro e;simp at e,cond_false,Ai0 hp hx hv hw hi hr hn hf,obs,Af (List.length_set ..),Ai0 hp hy hu hw' hi' hr' hn hf,obs,Af (List.length_set ..)]
def V2 (p:Int) (c r:Nat) (pa:List Int) (M A:List (List Int)):List (List Int):=A.mapIdx fun i x=>if i=r then pa else D8 p ((M.getD i []).getD c 0) x pa
theorem S4 {c r:Nat} {pa:List Int} {M A:List (List Int)} {i:Nat} (h:i<(V2 p c r pa M A).length) :
  (V2 p c r pa M A)[i]=if i=r then pa else D8 p ((M.getD i []).getD c 0) (A[i]'(by simpa [V2] using h)) pa:=by simp [V2]
theorem Apb {M0:List (List Int)×List (List Int)} {A:List (List Int)} {w' c r:Nat} {pr pa:List Int} (hp:2<=p/\p<=97) (hm:MatW p w m) (hA:MatW p w' A) (hlA:A.length=m.length) (hw:w<=100000) (hw':w'<=100000) (hl:m.length<=100000)
  (hr:m[r]? =some pr) (hr':A[r]? =some pa) (hc:c<w) (h0:M0.1.length=m.length) :
  Aq (fun s_:Nat×List (List Int)×List (List Int)=>Fh M0 r c p s_.1 s_.2.1 s_.2.2) 4611686018427387904 (0,m,A)=some (G6 p c r pr m,V2 p c r pa m A):=by
 have hla:(V2 p c r pa m A).length=m.length:=by simp [V2,hlA]
 have hr2:=Ai hr;refine Aqi (E:=G6 p c r pr m) (B:=V2 p c r pa m A) (O7 ..) hlA hla hr (Ai4 hr2) hr' ?_ oM (fun i hi s t hs ht h1 k1 h2 k2=>?_) ?_
 ·rw [gEg oM,S4,if_pos rfl]
 ·have hx:=hm _ (List.getElem_mem hi);have hy:=hA _ (List.getElem_mem (show i<A.length by omega));have hv:=hm _ (List.mem_of_getElem? hr);have hu:=hA _ (List.mem_of_getElem? hr');obtain ⟨g1,g2,g3⟩:=Gl hx hc;have hD:m.getD i []=m[i]:=Bj (gEg hi)
  try dsimp only
  unfold Fh;rw [Au oM,cond_true,Pa,S4,hD];generalize m[i]=x at *;generalize A[i]=y at *;by_cases hir:i=r
  ·subst hir;rw [if_pos rfl,if_pos rfl,show (((i:Nat):Int) !=((i:Nat):Int))=false from bne_self_eq_false _,cond_false,obs,cond_false,obs,Oo h2,Oo k2];exact Af oM _
  ·rw [if_neg hir,if_neg hir,show (((i:Nat):Int) !=((r:Nat):Int))=true from by rw [bne_iff_ne];omega,cond_true,h1,obs,g3,obs,obs];by_cases h0:x.getD c 0=0
   ·rw [h0,show ((0:Int) !=0)=false from rfl,cond_false,obs,W9 hx.2 (by rw [hx.1,hv.1];exact Nat.le_refl _),W9 hy.2 (by rw [hy.1,hu.1];exact Nat.le_refl _),Oo h1,Oo k1];exact Af oM _
   ·rw [show (x.getD c 0 !=0)=true from bne_iff_ne.2 h0,cond_true,obs,g3,obs,As1 hp hx hv hy hu hw hw' h1 h2 k1 k2 hir ⟨g1,g2⟩,obs,obs];exact Af oM _
 ·try dsimp only
  unfold Fh;rw [At oM,cond_false]
theorem Atj {c r:Nat} (hm:MatW p w m) (hc:c<w) (hl:m.length<=100000) (hr:r<=m.length) :
  Aq (fun s_:Nat=>Eb m c s_) 4611686018427387904 r=some (Du m c r):=by
 have hle:=Ss (c:=c) hr;refine A7 ((m.drop r).findIdx fun x=>x.getD c 0 !=0) (fun t=>r+t) (by unfold Du at hle;omega) _ rfl (fun t ht=>?_) ?_
 ·have h1:r+t<Du m c r:=by unfold Du;omega
  have h0:=Z9 (i:=r+t) oM h1 hr;obtain ⟨x,hx⟩:=Ke (show r+t<m.length by omega);obtain ⟨g1,g2,g3⟩:=Gl (hm _ (List.mem_of_getElem? hx)) hc;rw [Bj hx] at h0
  try dsimp only
  unfold Eb;rw [Au oM,cond_true,hx,obs,g3,obs,obs,h0,show ((0:Int)==0)=true from rfl,cond_true,Af oM,Nat.add_assoc]
 ·show Eb m c (Du m c r)=_;unfold Eb;by_cases h:Du m c r=m.length
  ·rw [At oM,cond_false,obs,cond_false]
  ·have h0:=Acv h hr;obtain ⟨x,hx⟩:=Ke (show Du m c r<m.length by omega);obtain ⟨g1,g2,g3⟩:=Gl (hm _ (List.mem_of_getElem? hx)) hc;rw [Bj hx] at h0;rw [Au oM,cond_true,hx,obs,g3,obs,obs,beq_eq_false_iff_ne.2 h0,cond_false]
theorem Td {x:List Int} {u c:Nat} (h:c<u):(x.take u).getD c 0=x.getD c 0:=by
 rw [gDg,List.getElem?_take,if_pos h,gDg]
theorem Arv {u c r:Nat} (h:c<u):Du (m.map (·.take u)) c r=Du m c r:=by
 unfold Du;rw [← List.map_drop,List.findIdx_map];congr 2;funext x;exact congrArg (· !=0) (Td h)
theorem R4 {f:List Int->List Int} (hf:f []=[]) {i:Nat}:(m.map f).getD i []=f (m.getD i []):=by
 rw [gDg,List.getElem?_map,gDg];cases m[i]? with
 | none=>exact hf.symm
 | some x=>rfl
theorem Ali {f:List Int->List Int} (hf:f []=[]) {r k:Nat}:(Lk m r k).map f=Lk (m.map f) r k:=by
 unfold Lk;rw [List.map_set,List.map_set,R4 hf,R4 hf]
theorem Aop {k:Int} {x:List Int} {u:Nat}:(Em p k x).take u=Em p k (x.take u):=by simp [Em,List.map_take]
theorem An2 {k:Int} {x:List Int} {u:Nat}:(Em p k x).drop u=Em p k (x.drop u):=by simp [Em,List.map_drop]
theorem Ane {k:Int} {x v:List Int} {u:Nat}:(D8 p k x v).take u=D8 p k (x.take u) (v.take u):=by simp [D8,List.take_zipWith]
theorem Anh {k:Int} {x v:List Int} {u:Nat}:(D8 p k x v).drop u=D8 p k (x.drop u) (v.drop u):=by simp [D8,List.drop_zipWith]
theorem Arc {c r u:Nat} {pr:List Int} (h:c<u):(G6 p c r pr m).map (·.take u)=G6 p c r (pr.take u) (m.map (·.take u)):=by
 apply List.ext_getElem
 ·simp [G6]
 ·intro i h1 h2;rw [List.getElem_map,Pa,Pa,List.getElem_map,Td h];split
  ·rfl
  ·exact Ane
theorem Ao0 {c r u:Nat} {pr:List Int} (h:c<u):(G6 p c r pr m).map (·.drop u)=V2 p c r (pr.drop u) (m.map (·.take u)) (m.map (·.drop u)):=by
 apply List.ext_getElem
 ·simp [G6,V2]
 ·intro i h1 h2;rw [List.getElem_map,Pa,S4,List.getElem_map,R4 (f:=(·.take u)) List.take_nil,Td h,show m.getD i []=m[i]'(by simpa [G6] using h1) from Bj (gEg (by simpa [G6] using h1))];split
  ·rfl
  ·exact Anh
theorem Ase {c r:Nat} {pa y z:List Int} {M A:List (List Int)}:V2 p c r pa (M.set r z) (A.set r y)=V2 p c r pa M A:=by
 apply List.ext_getElem
 ·simp [V2]
 ·intro i h1 h2;rw [S4,S4];by_cases h:i=r
  ·rw [if_pos h,if_pos h]
  ·rw [if_neg h,if_neg h];simp only [List.getElem_set,if_neg (fun e=>h (Eq.symm e)),gDg,List.getElem?_set_ne (Ne.symm h)]
def rdW (u:Nat) (W:List (List Int)):List (List Int):=W.map (·.take u)
def alW (u:Nat) (W:List (List Int)):List (List Int):=W.map (·.drop u)
theorem Ard {n u:Nat} (hp:isF p=true) (hm:MatW p w m) (hn:n<=u) (hu:u<=w) (hw:w<=100000) (hl:m.length<=100000) :
  Aq (fun s_:Nat×Nat×List (List Int)×List (List Int)=>Db (n:Int) p s_.1 s_.2.1 s_.2.2.1 s_.2.2.2) 4611686018427387904 (0,0,rdW u m,alW u m)=some ((gjT p m n).1,rdW u (gjT p m n).2,alW u (gjT p m n).2):=by
 have hb:=Cu hp;refine Ji n (fun c s=>s=((gjT p m c).1,c,rdW u (gjT p m c).2,alW u (gjT p m c).2)) oM _ rfl (fun c s hc hI=>?_) (fun s hI=>?_)
 ·subst hI;obtain ⟨hm',hr,hl'⟩:=Ls hb.1 hm c;have hlr:(rdW u (gjT p m c).2).length=(gjT p m c).2.length:=List.length_map ..;have hla:(alW u (gjT p m c).2).length=(gjT p m c).2.length:=List.length_map ..;by_cases hlt:(gjT p m c).1<(gjT p m c).2.length
  ·refine .inl ?_;refine ⟨_,?_,rfl⟩;show Db _ _ _ _ _ _=some (Ctl.next ((gjS p c (gjT p m c)).1,c+1,rdW u (gjS p c (gjT p m c)).2,alW u (gjS p c (gjT p m c)).2));generalize gjT p m c=s at *;obtain ⟨r,M⟩:=s
   try dsimp only at *
   have hR:MatW p u (rdW u M):=hm'.tk hu;have hA:MatW p (w - u) (alW u M):=hm'.dr;have hpv:Du (rdW u M) c r=Du M c r:=Arv oM;unfold Db gjS;rw [Au oM,cond_true,obs,Au oM,cond_true,Atj hR oM oM oM,obs,if_pos hlt,hlr,hpv];by_cases hk:Du M c r=M.length
   ·rw [hk,beq_self_eq_true,cond_true,obs,if_pos rfl];exact Af oM _
   ·have hle:=Ss (c:=c) hr;have hkl:Du M c r<M.length:=by omega
    rw [show (((Du M c r:Nat):Int)==((M.length:Nat):Int))=false from by rw [beq_eq_false_iff_ne];omega,cond_false,if_neg hk];have hnz:=Acv hk hr;obtain ⟨y,hy⟩:=Ke hkl;have hyM:=hm' _ (List.mem_of_getElem? hy);obtain ⟨g1,g2,_⟩:=Gl hyM (show c<w by omega);rw [Bj hy] at hnz;have hs:=Apz hlt hkl;rw [Bj hy] at hs;have hpm:=Zi hm' hlt hkl;have hsl:=Qr M r (Du M c r);have e1:Lk (rdW u M) r (Du M c r)=rdW u (Lk M r (Du M c r)):=(Ali List.take_nil).symm;have e2:Lk (alW u M) r (Du M c r)=alW u (Lk M r (Du M c r)):=(Ali List.drop_nil).symm;rw [As9 oM oM oM,obs,e1,e2,Bj hy];generalize Lk M r (Du M c r)=W at *;have hs1:(rdW u W)[r]? =some (y.take u):=by simp [rdW,hs]
    have hs2:(alW u W)[r]? =some (y.drop u):=by simp [alW,hs]
    have g4:(y.take u)[c]? =some (y.getD c 0):=by rw [(Gl (hyM.tk hu) (show c<u by omega)).2.2,Td oM]
    have q1:VecW p u (Em p (Om p (y.getD c 0)) (y.take u)):=Ry hb.1 (hyM.tk hu).1;have q2:VecW p (w - u) (Em p (Om p (y.getD c 0)) (y.drop u)):=Ry hb.1 hyM.dr.1;have l1:(rdW u W).length=W.length:=List.length_map ..;have l2:(alW u W).length=W.length:=List.length_map ..
    try dsimp only
    rw [hs1,obs,g4,obs,Atx hp (hyM.tk hu) hyM.dr oM oM hs1 hs2 oM,obs]
    try dsimp only
    rw [Apb hb (w:=u) (w':=w - u) (pr:=Em p (Om p (y.getD c 0)) (y.take u)) (pa:=Em p (Om p (y.getD c 0)) (y.drop u)) (fun z hz=>?_) (fun z hz=>?_) (by simp only [List.length_set];omega) oM oM (by simp only [List.length_set];omega) (Tg hs1) (Tg hs2) oM rfl,obs]
    ·have e3:rdW u (G6 p c r (prV p c y) W)=G6 p c r (Em p (Om p (y.getD c 0)) (y.take u)) (rdW u W):=by
      unfold rdW prV;rw [Arc oM,Aop]
     have e4:alW u (G6 p c r (prV p c y) W)=V2 p c r (Em p (Om p (y.getD c 0)) (y.drop u)) (rdW u W) (alW u W):=by
      unfold rdW alW prV;rw [Ao0 oM,An2]
     try dsimp only
     rw [Af oM,obs,Alu,Ase,e3,e4];exact Af oM _
    ·rcases List.mem_or_eq_of_mem_set hz with hz|rfl
     ·exact hpm.tk hu _ hz
     ·exact q1
    ·rcases List.mem_or_eq_of_mem_set hz with hz|rfl
     ·exact hpm.dr _ hz
     ·exact q2
  ·refine .inr ?_;rw [Aa9 hlt n oM];generalize gjT p m c=s at *
   try dsimp only
   unfold Db;rw [Au oM,cond_true,obs,hlr,At oM,cond_false]
 ·subst hI
  try dsimp only
  unfold Db;rw [At oM,cond_false,obs,cond_false]
theorem Yi {n u:Nat} (hp:isF p=true) (hm:MatW p w m) (hn:n<=u) (hu:u<=w) (hw:w<=100000) (hl:m.length<=100000):Fs p (rdW u m) (n:Int) (alW u m)=some (rdW u (gjT p m n).2,alW u (gjT p m n).2,(gjT p m n).1):=by
 unfold Fs;rw [Ard hp hm hn hu hw hl,obs]
theorem Aif (hm:MatW p w m) (hw:w<=100000) (hl:m.length<=100000):Jd m=some m:=by
 unfold Jd;have h:=Dj (body:=fun s_:Nat×List (List Int)=>Fv m s_.1 s_.2) m id [] (F:=4611686018427387904) oM m (fun i x h=>?_) ?_
 ·rw [Af oM,show List.replicate 0 ([]:List Int)=[] from rfl,show Aq (fun s_:Nat×List (List Int)=>Fv m s_.1 s_.2) 4611686018427387904 (0,[])=some m by simpa using h];rfl
 ·have:=Ai h;have hx:=(hm x (List.mem_of_getElem? h)).1
  try dsimp only
  unfold Fv;rw [Au oM,cond_true,h,obs,Atb _ oM,obs,Af (by simp;omega),Af oM];rfl
 ·try dsimp only
  unfold Fv;rw [At oM,cond_false,List.map_id,List.nil_append]
end
end
section
def Vq (p n:Int) (b:List (List Int)):Bool:=b.all fun x=>((x.length:Nat):Int)==n&&x.all fun a=>inR a 0 (p - 1)
theorem Gm {a lo hi:Int}:inR a lo hi=true↔lo<=a/\a<=hi:=by simp [inR]
theorem Xv {p:Int} {n:Nat} {b:List (List Int)} (h:Vq p n b=true):MatW p n b:=by
 intro x hx;have h1:=List.all_eq_true.1 h x hx;simp only [Bool.and_eq_true,beq_iff_eq,List.all_eq_true,Gm] at h1;exact ⟨by omega,fun a ha=>by have:=h1.2 a ha;omega⟩
theorem Aqg (p n:Int) (b:List (List Int)) (hp:2<=p/\p<=97) (hb:b.length<=1048576) (hr:Fx 1048576 b):Ml p n b=some (Vq p n b):=by
 unfold Ml;rw [G3 b (fun x=>((x.length:Nat):Int)==n&&x.all fun a=>inR a 0 (p - 1)) (.next ()) (.out false) oM (fun i x h=>?_) ?_,Ny];rfl
 ·unfold L0;rw [At oM,cond_false]
 ·have:=Ai h;have hx:=hr x (List.mem_of_getElem? h);unfold L0;rw [Au oM,cond_true,h,obs];cases hc:((x.length:Nat):Int)==n
  ·rw [show (((x.length:Nat):Int) !=n)=true by simp only [bne,hc,Bool.not_false],cond_true,obs,cond_true,Bool.false_and];rfl
  ·rw [show (((x.length:Nat):Int) !=n)=false by simp only [bne,hc,Bool.not_true],cond_false,Au9 p x hp oM,obs,obs,Bool.true_and,Af oM];cases x.all fun a=>inR a 0 (p - 1) <;> rfl
theorem Ag4 (p n:Int) (b:List (List Int)) (hb:b.length<=1048576) (hr:Fx 1048576 b):G7 p b n=some (Vq p n b):=by
 unfold G7;rw [G3 b (fun x=>((x.length:Nat):Int)==n&&x.all fun a=>inR a 0 (p - 1)) (.next ()) (.out false) oM (fun i x h=>?_) ?_,Ny];rfl
 ·unfold Hy;rw [At oM,cond_false]
 ·have:=Ai h;have hx:=hr x (List.mem_of_getElem? h);unfold Hy;rw [Au oM,cond_true,h,obs,Ajr p x n oM,obs,Af oM];cases ((x.length:Nat):Int)==n&&x.all fun a=>inR a 0 (p - 1) <;> rfl
theorem Arm (x y:List Int) (hx:x.length<=1048576):Mf x y=some (x==y):=by
 unfold Mf;by_cases h:x.length=y.length
 ·rw [show (((x.length:Nat):Int) !=((y.length:Nat):Int))=false by rw [h];exact bne_self_eq_false _,cond_false]
  have key:Aq (fun s_:Nat=>Ir x y s_) 4611686018427387904 0=some (if x==y then .next () else .out false):=by
   refine Ji x.length (fun i s=>s=i/\x.take i=y.take i) oM _ ⟨rfl,by simp⟩ ?_ ?_
   ·rintro i s hi ⟨hsi,ht⟩;subst hsi;unfold Ir;rw [Au oM,cond_true,gEg hi,obs,gEg (show s<y.length by omega),obs];by_cases he:x[s]=y[s]'oM
    ·refine .inl ⟨s+1,?_,rfl,?_⟩
     ·rw [show (x[s] !=y[s]'oM)=false by rw [he];exact bne_self_eq_false _,cond_false,Af oM]
     ·rw [List.take_add_one,List.take_add_one,ht,gEg hi,gEg (show s<y.length by omega),he]
    ·refine .inr ?_;rw [bne_iff_ne.2 he,cond_true,show (x==y)=false from by rw [beq_eq_false_iff_ne];intro e;subst e;exact he rfl];rfl
   ·rintro s ⟨hs,ht⟩;subst hs;rw [List.take_length,h,List.take_length] at ht;subst ht;unfold Ir;rw [At oM,cond_false,beq_self_eq_true];rfl
  rw [key];cases x==y <;> rfl
 ·rw [show (((x.length:Nat):Int) !=((y.length:Nat):Int))=true by rw [bne_iff_ne];omega,cond_true,show (x==y)=false from by rw [beq_eq_false_iff_ne];intro e;subst e;exact h rfl]
theorem Aql (x y:List (List Int)) (hx:x.length<=1048576) (hr:Fx 1048576 x):Mt x y=some (x==y):=by
 unfold Mt;by_cases h:x.length=y.length
 ·rw [show (((x.length:Nat):Int) !=((y.length:Nat):Int))=false by rw [h];exact bne_self_eq_false _,cond_false]
  have key:Aq (fun s_:Nat=>Iu x y s_) 4611686018427387904 0=some (if x==y then .next () else .out false):=by
   refine Ji x.length (fun i s=>s=i/\x.take i=y.take i) oM _ ⟨rfl,by simp⟩ ?_ ?_
   ·rintro i s hi ⟨hsi,ht⟩;subst hsi;unfold Iu;rw [Au oM,cond_true,gEg hi,obs,gEg (show s<y.length by omega),obs,Arm _ _ (hr _ (List.getElem_mem hi)),obs];by_cases he:x[s]=y[s]'oM
    ·refine .inl ⟨s+1,?_,rfl,?_⟩
     ·rw [show (x[s]==y[s]'oM)=true by rw [he];exact beq_self_eq_true _,Bool.not_true,cond_false,Af oM]
     ·rw [List.take_add_one,List.take_add_one,ht,gEg hi,gEg (show s<y.length by omega),he]
    ·refine .inr ?_;rw [beq_eq_false_iff_ne.2 he,Bool.not_false,cond_true,show (x==y)=false from by rw [beq_eq_false_iff_ne];intro e;subst e;exact he rfl];rfl
   ·rintro s ⟨hs,ht⟩;subst hs;rw [List.take_length,h,List.take_length] at ht;subst ht;unfold Iu;rw [At oM,cond_false,beq_self_eq_true];rfl
  rw [key];cases x==y <;> rfl
 ·rw [show (((x.length:Nat):Int) !=((y.length:Nat):Int))=true by rw [bne_iff_ne];omega,cond_true,show (x==y)=false from by rw [beq_eq_false_iff_ne];intro e;subst e;exact h rfl]
theorem W8 {p:Int} {w:Nat} {m:List (List Int)} (hp:isF p=true) (hm:MatW p w m) (hw:w<=100000) (hl:m.length<=100000):Er p m (w:Int)=some (gj p w m):=by
 have hb:=Cu hp;obtain ⟨k1,h2,h3⟩:=Ls hb.1 hm w
 have e1:∀ {m:List (List Int)},MatW p w m->rdW w m=m:=fun {m} hm=>by
  unfold rdW;exact (List.map_congr_left (g:=id) (fun x hx=>List.take_of_length_le (Nat.le_of_eq (hm x hx).1))).trans (List.map_id _)
 have e2:alW w m=List.replicate m.length []:=by
  unfold alW;rw [List.eq_replicate_iff];refine ⟨List.length_map ..,fun b hb=>?_⟩;obtain ⟨x,hx,rfl⟩:=List.mem_map.1 hb;exact List.drop_of_length_le (Nat.le_of_eq (hm x hx).1)
 have e3:(alW w (gjT p m w).2).length=m.length:=by rw [← h3];exact List.length_map ..
 have hR:=Yi hp hm (Nat.le_refl w) (Nat.le_refl w) hw hl;rw [e1 hm,e2] at hR;unfold Er;rw [Aif hm hw hl,obs,Af oM,hR,obs];rw [e1 k1];rw [Af h3,Af e3];exact Af (by dsimp only;omega) _
theorem Aut (x:List Int):Q6 x=some (x.take 48++(List.replicate 48 0).drop (x.take 48).length):=rfl
theorem Alw (x:List Int):(x.take 48++(List.replicate 48 (0:Int)).drop (x.take 48).length).length=48:=by simp;omega
theorem Atr {x y:List Int} {n:Nat} (hx:x.length=n) (hy:y.length=n) (hn:n<=48) (h:x.take 48++(List.replicate 48 (0:Int)).drop (x.take 48).length=y.take 48++(List.replicate 48 (0:Int)).drop (y.take 48).length):x=y:=by
 rw [List.take_of_length_le oM,List.take_of_length_le (show y.length<=48 by omega)] at h;exact (List.append_inj h oM).1
theorem Ahe {p:Int} {n:Nat} (b:List (List Int)) (hp:isF p=true) (hn:n<=48) (hb:b.length<=1048576) (hr:Fx 1048576 b) :
  Iq p b (n:Int)=some (decide (((b.length:Nat):Int)<=n)&&(Vq p n b&&gj p n b==b)):=by
 unfold Iq;by_cases h1:(n:Int)<b.length
 ·rw [Au h1,cond_true,obs,cond_true,At oM,Bool.false_and]
 rw [At h1,cond_false,Au (show ((b.length:Nat):Int)<=n by omega),Bool.true_and,Ag4 p n b hb hr,obs,obs];cases hv:Vq p n b
 ·rw [Bool.not_false,cond_true,Bool.false_and]
 have hm:=Xv hv;have hp2:=Cu hp;have hl:=(Ls hp2.1 hm n).2;have hgl:=Agp (n:=n) hp2.1 hm;have hgm:=S8 (n:=n) hp2.1 hm;rw [Bool.not_true,cond_false,W8 hp hm oM oM,obs,obs,Bool.true_and]
 have key:Aq (fun s_:Nat=>Ff (gj p n b) b s_) 4611686018427387904 0=some (if gj p n b==b.take (gj p n b).length then .next () else .out false):=by
  generalize gj p n b=x at *;refine Ji x.length (fun i s=>s=i/\x.take i=b.take i) oM _ ⟨rfl,by simp⟩ ?_ ?_
  ·rintro i s hi ⟨hsi,ht⟩;subst hsi;have hs:s<b.length:=by omega
   unfold Ff;rw [Au oM,cond_true,gEg hi,obs,Aut,obs,gEg hs,obs,Aut,obs,Af ⟨Alw _,Alw _⟩];by_cases he:x[s]=b[s]
   ·refine .inl ⟨s+1,?_,rfl,?_⟩
    ·rw [he,beq_self_eq_true,Bool.not_true,cond_false,Af oM]
    ·rw [List.take_add_one,List.take_add_one,ht,gEg hi,gEg hs,he]
   ·refine .inr ?_;rw [beq_eq_false_iff_ne.2 (fun e=>he (Atr (hgm _ (List.getElem_mem hi)).1 (hm _ (List.getElem_mem hs)).1 hn e)),Bool.not_false,cond_true,show (x==b.take x.length)=false from ?_]
    ·rfl
    ·rw [beq_eq_false_iff_ne];intro e;refine he ?_;have e2:=congrArg (fun l=>l[s]?) e;simp only [List.getElem?_take,if_pos hi,gEg hi,gEg hs,Option.some.injEq] at e2;exact e2
  ·rintro s ⟨hs,ht⟩;subst hs;rw [List.take_length] at ht;unfold Ff;rw [At oM,cond_false,← ht,beq_self_eq_true];rfl
 rw [key];by_cases he:gj p n b=b.take (gj p n b).length
 ·rw [show (gj p n b==b.take (gj p n b).length)=true from beq_iff_eq.2 he];show some _=_;congr 1;by_cases hll:(gj p n b).length=b.length
  ·rw [hll,List.take_length] at he;rw [he,beq_self_eq_true,beq_self_eq_true]
  ·rw [show (gj p n b==b)=false from by rw [beq_eq_false_iff_ne];exact fun e=>hll (congrArg List.length e),beq_eq_false_iff_ne];omega
 ·rw [beq_eq_false_iff_ne.2 he,show (gj p n b==b)=false from ?_]
  ·rfl
  ·rw [beq_eq_false_iff_ne];intro e;exact he (by rw [e,List.take_length])
def My (p l r:Int) (b:List (List Int)):Bool:=isF p&&(inR l 0 24&&(inR r 0 (24 - l)&&(decide (((b.length:Nat):Int)<=l+r)&&(Vq p (l+r) b&&gj p (l+r).toNat b==b))))
theorem Aa4 (p l r:Int) (b:List (List Int)) (hb:b.length<=1048576) (hr:Fx 1048576 b):Ma p l r b=some (My p l r b):=by
 unfold Ma My;rw [P0,obs];cases h1:inR l 0 24
 ·rw [Bool.false_and,Bool.and_false];rfl
 have h1':=Gm.1 h1;rw [cond_true,A4 (n:=24 - l) oM oM,P0,obs];cases h2:inR r 0 (24 - l)
 ·rw [Bool.false_and,Bool.and_false,Bool.and_false];rfl
 have h2':=Gm.1 h2;rw [cond_true,A4 oM oM];unfold Pj;rw [Vy,obs];cases hp:isF p
 ·rfl
 rw [cond_true,P0,obs,Gm.2 (show 0<=l+r/\l+r<=24 by omega),cond_true];by_cases h3:((b.length:Nat):Int)<=l+r
 ·obtain ⟨n,hn⟩:=Int.eq_ofNat_of_zero_le (show 0<=l+r by omega);rw [Au h3,cond_true,hn,Aqg p n b (Cu hp) hb hr,obs];cases hv:Vq p (n:Int) b
  ·rfl
  have hm:=Xv hv;have hgl:=Agp (n:=n) (Cu hp).1 hm;have hgm:=S8 (n:=n) (Cu hp).1 hm;have hl:=(Ls (Cu hp).1 hm n).2;rw [cond_true,Qw hp hm (Nat.le_refl n) oM oM,obs,Aql _ _ oM (fun x hx=>by rw [(hgm x hx).1];omega),obs];rfl
 ·rw [At h3];rfl
theorem Afd (p l r:Int) (b:List (List Int)) (hb:b.length<=1048576) (hr:Fx 1048576 b):Hk p l r b=some (My p l r b):=by
 unfold Hk My;rw [show H2 p=some (isF p) from rfl,obs];cases hp:isF p
 ·rfl
 rw [cond_true,Bool.true_and]
 have hf:O2 l r=some (inR l 0 24&&inR r 0 (24 - l)):=by
  unfold O2;rw [Ot,obs];cases h1:inR l 0 24
  ·rfl
  have h1':=Gm.1 h1;rw [cond_true,Ot,obs,Bool.true_and];by_cases h2:0<=r/\r<=24
  ·rw [Gm.2 h2,cond_true,obs,A4 oM oM];congr 1;rw [Bool.eq_iff_iff,Gm];simp only [decide_eq_true_eq];omega
  ·rw [show inR r 0 24=false from by rw [Bool.eq_false_iff];exact fun h=>h2 (Gm.1 h),cond_false,obs];congr 1;symm;rw [Bool.eq_false_iff];intro h;have:=Gm.1 h;exact h2 oM
 rw [hf,obs];cases h1:inR l 0 24
 ·rfl
 have h1':=Gm.1 h1;cases h2:inR r 0 (24 - l)
 ·rfl
 have h2':=Gm.1 h2;obtain ⟨n,hn⟩:=Int.eq_ofNat_of_zero_le (show 0<=l+r by omega);rw [Bool.true_and,cond_true,A4 oM oM,hn,Ahe b hp oM hb hr];rfl
structure Axb (p l r:Int) (b:List (List Int)):Prop where
 fp:isF p=true
 hl:0<=l
 hr:0<=r
 hs:l+r<=24
 lb:((b.length:Nat):Int)<=l+r
 mb:MatW p (l+r).toNat b
 rb:gj p (l+r).toNat b=b
theorem Aeh {p l r:Int} {b:List (List Int)} (h:My p l r b=true):Axb p l r b:=by
 unfold My at h;simp only [Bool.and_eq_true,Gm,decide_eq_true_eq,beq_iff_eq] at h;obtain ⟨h1,h2,h3,h4,h5,h6⟩:=h;refine ⟨h1,h2.1,h3.1,by omega,h4,?_,h6⟩;obtain ⟨n,hn⟩:=Int.eq_ofNat_of_zero_le (show 0<=l+r by omega);rw [hn] at h5 ⊢;exact Xv h5
theorem Age (l r:Int) (b:List (List Int)) {v:Int} (hv:0<=v/\v<=1048576) (hn:b.length<=9223372036854775807) (hb:Fx 9223372036854775807 b):He l r b v=some (szW v b):=by
 unfold He;rw [Aoe b hv hn hb,obs];by_cases h:szW v b<0
 ·rw [Au h,cond_true];congr 1;unfold szW at h ⊢;split at h <;> rename_i h'
  ·rw [if_pos h']
  ·omega
 ·rw [At h,cond_false]
theorem Agw (l r:Int) (b:List (List Int)) (hn:b.length<=1048576) (hb:Fx 1048576 b):Ha l r b=some b:=by
 unfold Ha;rw [Ana b hn hb,obs]
theorem Af7 (l r:Int) (b:List (List Int)) (hn:b.length<=1048576) (hb:Fx 1048576 b):Hj l r b l r b=some true:=by
 unfold Hj;rw [bne_self_eq_false,cond_false,bne_self_eq_false,cond_false,Anb b hn hb,obs,Bool.not_true,cond_false]
end
section
def O5 (p:Int) (xs:List Nd):Bool:=xs.all fun n=> !((n.1==7||n.1==13)&&decide (p<=n.2.1))
def Yo (xs:List Nd):Bool:=xs.all fun n=> !(n.1==8||n.1==14)
theorem Arn (xs:List Nd) (p:Int) (hx:xs.length<=1073741824):Gs xs p=some (isF p&&((tyV xs).isSome&&O5 p xs)):=by
 unfold Gs I9;obtain ⟨r,hr,hm⟩:=All xs;rw [show H2 p=some (isF p) from rfl,obs,hr];cases hp:isF p
 ·rfl
 have e:r.2.2=(tyV xs).isSome:=by
  cases ht:tyV xs with
  | none=>rw [ht] at hm;exact hm
  | some w=>rw [ht] at hm;dsimp only at hm;rw [hm];rfl
 rw [Bool.not_true,cond_false,obs,obs,obs,e,Bool.true_and];cases (tyV xs).isSome
 ·rfl
 rw [Bool.not_true,cond_false,Bool.true_and]
 have key:Aq (fun s_:Nat=>Ey xs p s_) 4611686018427387904 0=some (if O5 p xs then Ctl.next () else Ctl.out false):=by
  refine G3 xs (fun n=> !((n.1==7||n.1==13)&&decide (p<=n.2.1))) (Ctl.next ()) (Ctl.out false) oM (fun i n h=>?_) ?_
  ·have:=Ai h;unfold Ey Gt;rw [Au oM,cond_true,h,obs,Af oM];cases n.1==7 <;> cases n.1==13 <;> cases decide (p<=n.2.1) <;> rfl
  ·unfold Ey;rw [At oM,cond_false]
 rw [key,Ny]
theorem Akb (xs:List Nd) (p:Int) (hx:xs.length<=1073741824):E5 xs p=some ((isF p&&((tyV xs).isSome&&O5 p xs))&&Yo xs):=by
 unfold E5;rw [Arn xs p hx,obs];cases isF p&&((tyV xs).isSome&&O5 p xs)
 ·rfl
 rw [Bool.not_true,cond_false,Bool.true_and]
 have key:Aq (fun s_:Nat=>Dy xs s_) 4611686018427387904 0=some (if Yo xs then Ctl.next () else Ctl.out false):=by
  refine G3 xs (fun n=> !(n.1==8||n.1==14)) (Ctl.next ()) (Ctl.out false) oM (fun i n h=>?_) ?_
  ·have:=Ai h;unfold Dy N8;rw [Au oM,cond_true,h,obs,Af oM];cases n.1==8 <;> cases n.1==14 <;> rfl
  ·unfold Dy;rw [At oM,cond_false]
 rw [key,Ny]
theorem Wi (xs:List Nd) (p:Int) (hx:xs.length<=1073741824):Jr p xs=some ((tyV xs).isSome&&(isF p&&O5 p xs)):=by
 unfold Jr;obtain ⟨F,I,O,b,h,hm⟩:=Ajc xs
 have e:b=(tyV xs).isSome:=by
  cases ht:tyV xs with
  | none=>rw [ht] at hm;exact hm
  | some w=>rw [ht] at hm;exact hm.1
 rw [h,obs,Vy,e];cases (tyV xs).isSome
 ·rfl
 rw [Bool.not_true,cond_false,obs,obs];cases hp:isF p
 ·rfl
 rw [Bool.not_true,cond_false,Bool.true_and,Bool.true_and]
 have key:Aq (fun s_:Nat=>Ii xs p s_) 4611686018427387904 0=some (if O5 p xs then Ctl.next () else Ctl.out false):=by
  refine G3 xs (fun n=> !((n.1==7||n.1==13)&&decide (p<=n.2.1))) (Ctl.next ()) (Ctl.out false) oM (fun i n h=>?_) ?_
  ·have:=Ai h;unfold Ii;rw [Au oM,cond_true,h,obs,Af oM];cases n.1==7 <;> cases n.1==13 <;> cases decide (p<=n.2.1) <;> rfl
  ·unfold Ii;rw [At oM,cond_false]
 rw [key,Ny]
theorem Uo (xs:List Nd) (hx:xs.length<=1073741824):Hg xs=some (Yo xs):=by
 unfold Hg
 have key:Aq (fun s_:Nat=>E8 xs s_) 4611686018427387904 0=some (if Yo xs then Ctl.next () else Ctl.out false):=by
  refine G3 xs (fun n=> !(n.1==8||n.1==14)) (Ctl.next ()) (Ctl.out false) oM (fun i n h=>?_) ?_
  ·have:=Ai h;unfold E8 Ci;rw [Au oM,cond_true,h,obs,Af oM];rw [show (n.1 !=8)= !(n.1==8) from rfl,show (n.1 !=14)= !(n.1==14) from rfl];cases n.1==8 <;> cases n.1==14 <;> rfl
  ·unfold E8;rw [At oM,cond_false]
 rw [key,Ny]
theorem Axg (p:Int) (s:ByteArray) (xs:List Nd) (l r:Int) (b:List (List Int)) (hx:xs.length<=1073741824) (hb:b.length<=1048576) (hr:Fx 1048576 b):∃ v,El p s xs l r b=some v/\Gb p s xs l r b=some v:=by
 unfold El Gb;obtain ⟨nm,n1,n2⟩:=Akm s;obtain ⟨q,hq,hm⟩:=All xs;rw [Ab7,obs,n1,n2,obs,Akb xs p hx,Wi xs p hx,Uo xs hx,Aa4 p l r b hb hr,Afd p l r b hb hr,hq];cases ht:tyV xs with
 | none =>
  refine ⟨false,rfl,?_⟩;cases nm
  ·rfl
  rw [Option.isSome_none,Bool.false_and,Bool.and_false,Bool.false_and];rfl
 | some w =>
  rw [ht] at hm;dsimp only at hm;subst hm;rw [Option.isSome_some,Bool.true_and];dsimp only;cases nm
  ·exact ⟨false,rfl,rfl⟩
  generalize isF p=a1;generalize O5 p xs=a2;generalize Yo xs=a3;generalize My p l r b=a4
  have e:([w.1,w.2]==[l,r])=cond (l==w.1) (r==w.2) false:=by
   have c1:(w.1==l)=(l==w.1):=Bool.beq_comm;have c2:(w.2==r)=(r==w.2):=Bool.beq_comm;show (w.1==l&&(w.2==r&&(([]:List Int)==[])))=_;rw [c1,c2];cases l==w.1 <;> cases r==w.2 <;> rfl
  simp only [obs,e];cases a1 <;> cases a2 <;> cases a3 <;> cases a4 <;> cases l==w.1 <;> cases r==w.2 <;> exact ⟨_,rfl,rfl⟩
-- copies and comparisons
theorem Anm (xs:List Nd) (hx:xs.length<=1073741824):Lf xs=some xs:=by
 unfold Lf;rw [Af oM]
 have h:Aq (fun s_:Nat×List Nd=>Hl xs s_.1 s_.2) 4611686018427387904 (0,List.replicate xs.length ((0,0,(⟨#[]⟩:ByteArray)):Nd))=some xs:=by
  refine A7 xs.length (fun i=>(i,xs.take i++List.replicate (xs.length - i) ((0,0,(⟨#[]⟩:ByteArray)):Nd))) oM xs (by simp) (fun i hi=>?_) ?_
  ·have hx:=gEg hi
   try dsimp only
   unfold Hl Pk;rw [Au oM,cond_true,hx,obs,obs,Ws hi,obs,Af oM,Xr hx]
  ·try dsimp only
   unfold Hl;rw [At oM,cond_false];simp
 rw [h];rfl
theorem An3 (xs:List Nd) (hx:xs.length<=1073741824):K7 xs xs=some true:=by
 unfold K7;rw [bne_self_eq_false,cond_false]
 have h:Aq (fun s_:Nat=>G8 xs xs s_) 4611686018427387904 0=some (Ctl.next ()):=by
  refine A7 xs.length (fun i=>i) oM _ rfl (fun i hi=>?_) ?_
  ·have hx:=gEg hi
   try dsimp only
   unfold G8 Pv;rw [Au oM,cond_true,hx,obs,obs,bne_self_eq_false,cond_false,bne_self_eq_false,cond_false,beq_self_eq_true,Bool.not_true,cond_false,obs,Bool.not_true,cond_false,Af oM]
  ·try dsimp only
   unfold G8;rw [At oM,cond_false]
 rw [h];rfl
theorem Anr (xs:List Nd) {v:Int} (hv:0<=v/\v<=1048576) (hx:xs.length<=9223372036854775807) (hs:∀ n∈xs,n.2.2.size<=9223372036854775807):∃ y,K8 xs v=some y/\(y<0∨(0<=y/\y<=v/\((xs.length:Nat):Int)<=v)):=by
 unfold K8;rw [A4 (n:=v - ((xs.length:Nat):Int)) oM oM];by_cases h:v - ((xs.length:Nat):Int)<0
 ·rw [Au h];exact ⟨_,rfl,.inl oM⟩
 rw [At h,cond_false]
 have key:∃ c,Aq (fun s_:Int×Nat=>G9 xs s_.1 s_.2) 4611686018427387904 (v - ((xs.length:Nat):Int),0)=some c/\((∃ y,c=Ctl.next y/\0<=y/\y<=v)∨∃ y,c=Ctl.out y/\y<0):=by
  refine L6 (Post:=fun c=>(∃ y,c=Ctl.next y/\0<=y/\y<=v)∨∃ y,c=Ctl.out y/\y<0) xs.length (fun k s=>s.2=k/\0<=s.1/\s.1<=v) oM ⟨rfl,by dsimp only;omega,by dsimp only;omega⟩ ?_ ?_
  ·rintro k ⟨y,k'⟩ hk ⟨h1,h2,h3⟩;dsimp only at h1 h2 h3;subst h1;have hn:=gEg hk;have hz:=hs _ (List.getElem_mem hk)
   try dsimp only
   unfold G9 Ps;rw [Au oM,cond_true,hn,obs,A4 (n:=y - ((xs[k'].2.2.size:Nat):Int)) oM oM];by_cases h4:y - ((xs[k'].2.2.size:Nat):Int)<0
   ·rw [Au h4];exact .inr ⟨_,rfl,.inr ⟨_,rfl,by omega⟩⟩
   ·rw [At h4,cond_false,obs,At h4,cond_false,Af oM];exact .inl ⟨_,rfl,rfl,by dsimp only;omega,by dsimp only;omega⟩
  ·rintro ⟨y,k'⟩ ⟨h1,h2,h3⟩;dsimp only at h1 h2 h3;subst h1
   try dsimp only
   unfold G9;rw [At oM,cond_false];exact ⟨_,rfl,.inl ⟨_,rfl,h2,h3⟩⟩
 obtain ⟨c,hc,⟨y,rfl,h1,h2⟩|⟨y,rfl,h1⟩⟩:=key
 ·rw [hc];exact ⟨_,rfl,.inr ⟨h1,h2,by omega⟩⟩
 ·rw [hc];exact ⟨_,rfl,.inl h1⟩
theorem Adn (s:ByteArray) (xs:List Nd) (l r:Int) (b:List (List Int)) {v:Int} (hv:0<=v/\v<=1048576) (h0:s.size<=9223372036854775807) (hx:xs.length<=9223372036854775807) (hs:∀ n∈xs,n.2.2.size<=9223372036854775807) (hb:b.length<=9223372036854775807) (hr:Fx 9223372036854775807 b) :
  ∃ y,Gh s xs l r b v=some y/\(y<0∨(0<=y/\y<=v/\xs.length<=1048576/\b.length<=1048576/\Fx 1048576 b)):=by
 unfold Gh P3;rw [A4 (n:=v - ((s.size:Nat):Int)) oM oM];by_cases h:v - ((s.size:Nat):Int)<0
 ·rw [Au h];exact ⟨_,rfl,.inl oM⟩
 rw [At h,cond_false];obtain ⟨y,hy,h1|⟨h1,h2,h3⟩⟩:=Anr xs (v:=v - ((s.size:Nat):Int)) oM hx hs
 ·rw [hy,obs,Au h1];exact ⟨_,rfl,.inl oM⟩
 ·rw [hy,obs,At oM,cond_false,obs,At oM,cond_false,Age l r b oM hb hr,obs];by_cases h4:szW y b<0
  ·rw [Au h4];exact ⟨_,rfl,.inl oM⟩
  ·obtain ⟨g1,g2,g3⟩:=Awi oM h4;rw [At h4];exact ⟨_,rfl,.inr ⟨by omega,by omega,by omega,by omega,g2⟩⟩
theorem Adk (s:ByteArray) (xs:List Nd) (l r:Int) (b:List (List Int)) (hx:xs.length<=1048576) (hb:b.length<=1048576) (hr:Fx 1048576 b):Cr s xs l r b=some (xs,b):=by
 unfold Cr Pu;rw [Anm xs oM,Agw l r b hb hr];rfl
theorem T4 (s:ByteArray) (xs:List Nd) (l r:Int) (b:List (List Int)) (hx:xs.length<=1048576) (hb:b.length<=1048576) (hr:Fx 1048576 b):Cw s xs l r b s xs l r b=some true:=by
 unfold Cw Pp;rw [An3 xs oM,Af7 l r b hb hr,beq_self_eq_true];rfl
end
section
def Cg (p a b:Int):Prop:=∃ q,a=b+p*q
section
variable {p a b c d:Int}
theorem Cg.rf:Cg p a a:=⟨0,by simp⟩
theorem Cg.of (h:a=b):Cg p a b:=h▸Cg.rf
theorem Cg.symm (h:Cg p a b):Cg p b a:=by obtain ⟨q,rfl⟩:=h;exact ⟨-q,by grind⟩
theorem Cg.trans (h1:Cg p a b) (h2:Cg p b c):Cg p a c:=by obtain ⟨q,rfl⟩:=h1;obtain ⟨r,rfl⟩:=h2;exact ⟨q+r,by grind⟩
theorem Cg.add (h1:Cg p a b) (h2:Cg p c d):Cg p (a+c) (b+d):=by obtain ⟨q,rfl⟩:=h1;obtain ⟨r,rfl⟩:=h2;exact ⟨q+r,by grind⟩
theorem Cg.mul (h1:Cg p a b) (h2:Cg p c d):Cg p (a*c) (b*d):=by obtain ⟨q,rfl⟩:=h1;obtain ⟨r,rfl⟩:=h2;exact ⟨q*d+b*r+p*q*r,by grind⟩
theorem Cg.md:Cg p (a % p) a:=⟨-(a / p),by have:=Int.emod_add_mul_ediv a p;grind⟩
theorem Cg.to (h:Cg p a b):a % p=b % p:=by obtain ⟨q,rfl⟩:=h;rw [Int.add_mul_emod_self_left]
theorem Cg.fr (h:a % p=b % p):Cg p a b:=(Cg.md.symm.trans (Cg.of h)).trans Cg.md
theorem Cg.eq (h:Cg p a b) (h1:0<=a/\a<p) (h2:0<=b/\b<p):a=b:=by
 have:=h.to
 rwa [Int.emod_eq_of_lt h1.1 h1.2,Int.emod_eq_of_lt h2.1 h2.2] at this
end
def sm:Nat->(Nat->Int)->Int
 | 0,_=>0
 | k+1,f=>sm k f+f k
section
variable {p:Int} {f g:Nat->Int}
theorem Nl:∀ {k:Nat},(∀ i,i<k->Cg p (f i) (g i))->Cg p (sm k f) (sm k g)
 | 0,_=>Cg.rf
 | k+1,h=>(Nl fun i hi=>h i oM).add (h k oM)
theorem Vt:∀ {k:Nat},(∀ i,i<k->f i=g i)->sm k f=sm k g
 | 0,_=>rfl
 | k+1,h=>by unfold sm;rw [Vt fun i hi=>h i oM,h k oM]
theorem Tb:∀ {k:Nat},sm k (fun i=>f i+g i)=sm k f+sm k g
 | 0=>rfl
 | k+1=>by unfold sm;rw [Tb];dsimp only;omega
theorem Up {a:Int}:∀ {k:Nat},sm k (fun i=>a*f i)=a*sm k f
 | 0=>by simp [sm]
 | k+1=>by unfold sm;rw [Up];grind
theorem Mo:∀ {k:Nat},(∀ i,i<k->f i=0)->sm k f=0
 | 0,_=>rfl
 | k+1,h=>by unfold sm;rw [Mo fun i hi=>h i oM,h k oM];rfl
theorem Pt {t:Nat}:∀ {k:Nat},t<k->(∀ i,i<k->i≠t->f i=0)->sm k f=f t
 | 0,h,_=>by omega
 | k+1,h,h0=>by
  unfold sm;by_cases e:t=k
  ·subst e;rw [Mo fun i hi=>h0 i oM oM];omega
  ·rw [Pt (t:=t) oM fun i hi=>h0 i oM,h0 k oM oM];omega
end
def en (m:List (List Int)) (i j:Nat):Int:=(m.getD i []).getD j 0
inductive Df (p:Int) (n:Nat) (m:List (List Int)):(Nat->Int)->Prop
 | zero {f:Nat->Int}:(∀ j,j<n->Cg p (f j) 0)->Df p n m f
 | add {f g:Nat->Int} (i:Nat) (k:Int):i<m.length->Df p n m g->(∀ j,j<n->Cg p (f j) (g j+k*en m i j))->Df p n m f
section
variable {p:Int} {n:Nat} {m m':List (List Int)} {f g:Nat->Int}
theorem Cx {i:Nat} (h:i<m.length):Df p n m (en m i):=.add i 1 h (.zero (f:=fun _=>0) fun _ _=>Cg.rf) fun _ _=>Cg.of oM
theorem Ez (h:Df p n m f) (hf:∀ j,j<n->Cg p (g j) (f j)):Df p n m g:=by
 cases h with
 | zero h=>exact .zero fun j hj=>(hf j hj).trans (h j hj)
 | add i k hi h hs=>exact .add i k hi h fun j hj=>(hf j hj).trans (hs j hj)
theorem Sg (h:Df p n m f) (hg:Df p n m g):Df p n m (fun j=>f j+g j):=by
 induction hg with
 | zero h0=>exact Ez h fun j hj=>(Cg.rf.add (h0 j hj)).trans (Cg.of oM)
 | add i k hi _ hs ih=>exact .add i k hi ih fun j hj=>(Cg.rf.add (hs j hj)).trans (Cg.of oM)
theorem Mu (a:Int) (h:Df p n m f):Df p n m (fun j=>a*f j):=by
 induction h with
 | zero h0=>exact .zero fun j hj=>(Cg.rf.mul (h0 j hj)).trans (Cg.of oM)
 | add i k hi _ hs ih=>exact .add i (a*k) hi ih fun j hj=>(Cg.rf.mul (hs j hj)).trans (Cg.of (by grind))
theorem Tl (h:∀ i,i<m.length->Df p n m' (en m i)) (hf:Df p n m f):Df p n m' f:=by
 induction hf with
 | zero h0=>exact .zero h0
 | add i k hi _ hs ih=>exact Ez (Sg ih (Mu k (h i hi))) hs
theorem Ag2 {F:Nat->Nat->Int}:∀ {k:Nat},(∀ i,i<k->Df p n m (F i))->Df p n m (fun j=>sm k fun i=>F i j)
 | 0,_=>.zero fun _ _=>Cg.rf
 | k+1,h=>Sg (Ag2 fun i hi=>h i oM) (h k oM)
structure Pq (c r:Nat) (m:List (List Int)) (pv:Nat->Nat):Prop where
 rl:r<=m.length
 lt:∀ i,i<r->pv i<c
 mono:∀ i k,i<k->k<r->pv i<pv k
 low:∀ i,i<r->∀ j,j<pv i->en m i j=0
 one:∀ i,i<r->en m i (pv i)=1
 zero:∀ i,i<r->∀ k,k≠i->en m k (pv i)=0
 tail:∀ i,r<=i->∀ j,j<c->en m i j=0
theorem Ra {i j:Nat} (h:m.length<=i):en m i j=0:=by
 unfold en;rw [gDg (l:=m),List.getElem?_eq_none h];rfl
theorem Aqp {pv:Nat->Nat} (h:Pq n m.length m pv) (hs:Df p n m f):∀ j,j<n->Cg p (f j) (sm m.length fun i=>f (pv i)*en m i j):=by
 induction hs with
 | zero h0 =>
  intro j hj;refine (h0 j hj).trans ?_;refine Cg.symm ((Nl (g:=fun _=>0) fun i hi=>?_).trans (Cg.of (Mo fun _ _=>rfl)));exact ((h0 _ (h.lt i hi)).mul Cg.rf).trans (Cg.of oM)
 | @add f g t k ht _ hs ih =>
  intro j hj;refine (hs j hj).trans (((ih j hj).add Cg.rf).trans ?_)
  have e:sm m.length (fun i=>(g (pv i)+k*en m t (pv i))*en m i j)=sm m.length (fun i=>g (pv i)*en m i j)+k*en m t j:=by
   rw [Vt (g:=fun i=>g (pv i)*en m i j+k*(en m t (pv i)*en m i j)) fun i _=>by grind,Tb (f:=fun i=>g (pv i)*en m i j),Up (f:=fun i=>en m t (pv i)*en m i j),Pt (f:=fun i=>en m t (pv i)*en m i j) ht fun i hi hne=>by rw [h.zero i hi t (Ne.symm hne)];omega,h.one t ht,Int.one_mul]
  rw [← e];exact (Nl fun i hi=>(hs _ (h.lt i hi)).mul Cg.rf).symm
theorem Amj {pv:Nat->Nat} (h:Pq n m.length m pv) (hs:Df p n m f) {q:Nat} (hq:q<n) (h0:∀ j,j<q->Cg p (f j) 0) (h1:¬ Cg p (f q) 0):∃ i,i<m.length/\pv i=q:=by
 refine Classical.byContradiction fun hn=>h1 ?_
 refine (Aqp h hs q hq).trans ((Nl (g:=fun _=>0) fun i hi=>?_).trans (Cg.of (Mo fun _ _=>rfl)));rcases Nat.lt_trichotomy (pv i) q with hlt|he|hgt
 ·exact ((h0 _ hlt).mul Cg.rf).trans (Cg.of oM)
 ·exact (hn ⟨i,hi,he⟩).elim
 ·exact Cg.of (by rw [h.low i hi q hgt];omega)
theorem Al5 {u v:Nat->Nat} {k l:Nat} (hu:∀ i j,i<j->j<k->u i<u j) (hv:∀ i j,i<j->j<l->v i<v j) (h1:∀ i,i<k->∃ t,t<l/\v t=u i) (h2:∀ i,i<l->∃ t,t<k/\u t=v i) :
  ∀ i,i<k->i<l->u i=v i:=by
 intro i
 induction i using Nat.strongRecOn with
 | _ i ih =>
  intro hk hl;obtain ⟨t,ht,e⟩:=h1 i hk;obtain ⟨s,hs,e'⟩:=h2 i hl
  have a1:v i<=u i:=by
   rcases Nat.lt_trichotomy t i with hlt|he|hgt
   ·have:=ih t hlt oM ht;have:=hu t i hlt hk;omega
   ·subst he;omega
   ·have:=hv i t hgt ht;omega
  have a2:u i<=v i:=by
   rcases Nat.lt_trichotomy s i with hlt|he|hgt
   ·have:=ih s hlt hs oM;have:=hv s i hlt hl;omega
   ·subst he;omega
   ·have:=hu i s hgt hs;omega
  omega
theorem Abs {u v:Nat->Nat} {k l:Nat} (hu:∀ i j,i<j->j<k->u i<u j) (hv:∀ i j,i<j->j<l->v i<v j) (h1:∀ i,i<k->∃ t,t<l/\v t=u i) (h2:∀ i,i<l->∃ t,t<k/\u t=v i):l<=k:=by
 refine Nat.le_of_not_lt fun hlt=>?_
 obtain ⟨t,ht,e⟩:=h2 k hlt;have:=Al5 hu hv h1 h2 t ht oM;have:=hv t k ht hlt;omega
theorem Apu (hp:2<=p):¬ Cg p 1 0:=fun h=>by
 have:=h.eq ⟨by omega,by omega⟩ ⟨by omega,by omega⟩;omega
theorem Alf {i j:Nat} (hp:2<=p) (hm:MatW p n m):0<=en m i j/\en m i j<p:=by
 unfold en;by_cases h:i<m.length
 ·have hx:=hm _ (M4 h);generalize m.getD i []=x at hx;by_cases hj:j<x.length
  ·rw [Bj (gEg hj)];exact hx.2 _ (List.getElem_mem hj)
  ·rw [gDg,List.getElem?_eq_none oM];exact ⟨by simp,by simp;omega⟩
 ·rw [gDg (l:=m),List.getElem?_eq_none oM];simp;omega
theorem Atu (hm:MatW p n m) (hm':MatW p n m') (hl:m.length=m'.length) (h:∀ i,i<m.length->∀ j,j<n->en m i j=en m' i j):m=m':=by
 refine List.ext_getElem hl fun i h1 h2=>?_
 have e1:=hm _ (List.getElem_mem h1);have e2:=hm' _ (List.getElem_mem h2);refine List.ext_getElem (e1.1.trans e2.1.symm) fun j k1 k2=>?_
 have:=h i h1 j (by have:=e1.1;omega);unfold en at this;rw [Bj (gEg h1),Bj (gEg h2),Bj (gEg k1),Bj (gEg k2)] at this;exact this
theorem Ant {pv pv':Nat->Nat} (hp:2<=p) (h:Pq n m.length m pv) (h':Pq n m'.length m' pv') (hm:MatW p n m) (hm':MatW p n m') (h1:∀ f,Df p n m f->Df p n m' f) (h2:∀ f,Df p n m' f->Df p n m f):m=m':=by
 have k1:∀ i,i<m.length->∃ t,t<m'.length/\pv' t=pv i:=fun i hi =>
  Amj h' (h1 _ (Cx hi)) (h.lt i hi) (fun j hj=>Cg.of (h.low i hi j hj)) (by rw [h.one i hi];exact Apu hp)
 have k2:∀ i,i<m'.length->∃ t,t<m.length/\pv t=pv' i:=fun i hi =>
  Amj h (h2 _ (Cx hi)) (h'.lt i hi) (fun j hj=>Cg.of (h'.low i hi j hj)) (by rw [h'.one i hi];exact Apu hp)
 have hl:m.length=m'.length:=Nat.le_antisymm (Abs h'.mono h.mono k2 k1) (Abs h.mono h'.mono k1 k2);have hpv:=Al5 h.mono h'.mono k1 k2;refine Atu hm hm' hl fun i hi j hj=>?_
 refine Cg.eq (Cg.symm ((Aqp h (h2 _ (Cx (i:=i) oM)) j hj).trans (Cg.of ?_))) (Alf hp hm) (Alf hp hm');rw [Pt hi fun t ht hne=>?_,hpv i hi oM,h'.one i oM]
 ·omega
 ·rw [hpv t ht oM,h'.zero t oM i (Ne.symm hne)];omega
theorem Avb {r k i j:Nat} (hr:r<m.length) (hk:k<m.length):en (Lk m r k) i j=if i=k then en m r j else if i=r then en m k j else en m i j:=by
 unfold en Lk;by_cases h1:i=k
 ·subst h1;rw [if_pos rfl,gDg (l:=List.set _ _ _),List.getElem?_set_self (by rw [List.length_set];exact hk)];rfl
 ·rw [if_neg h1,gDg (l:=List.set _ _ _),List.getElem?_set_ne (Ne.symm h1)];by_cases h2:i=r
  ·subst h2;rw [if_pos rfl,List.getElem?_set_self hr];rfl
  ·rw [if_neg h2,List.getElem?_set_ne (Ne.symm h2),← gDg]
theorem Anp {k:Int} {x:List Int} {j:Nat}:(Em p k x).getD j 0=x.getD j 0*k % p:=by
 unfold Em;rw [gDg,List.getElem?_map,gDg];cases x[j]? with
 | none=>simp
 | some a=>rfl
theorem Aob {k:Int} {x v:List Int} {j:Nat} (h:x.length=v.length):(D8 p k x v).getD j 0=(x.getD j 0 - k*v.getD j 0) % p:=by
 unfold D8;rw [gDg,List.getElem?_zipWith,gDg,gDg];by_cases hj:j<x.length
 ·rw [gEg hj,gEg (show j<v.length by omega)];rfl
 ·rw [List.getElem?_eq_none (show x.length<=j by omega),List.getElem?_eq_none (show v.length<=j by omega)];simp
theorem Avg {c r i j:Nat} {pr:List Int} (hm:MatW p n m) (hpr:pr.length=n) (hi:i<m.length):en (G6 p c r pr m) i j=if i=r then pr.getD j 0 else (en m i j - en m i c*pr.getD j 0) % p:=by
 have hx:=hm _ (List.getElem_mem hi);unfold en G6;rw [gDg (l:=List.mapIdx _ _),List.getElem?_mapIdx,gEg hi,Bj (gEg hi)];show (if i=r then pr else D8 p (m[i].getD c 0) m[i] pr).getD j 0=_;split
 ·rfl
 ·rw [Aob (by rw [hx.1,hpr])]
def X8 (p:Int):Prop:=∀ a,1<=a->a<p->a*Om p a % p=1
theorem Atg {c:Nat} {s:Nat×List (List Int)} {pv:Nat->Nat} (hp:2<=p) (hI:X8 p) (hm:MatW p n s.2) (h:Pq c s.1 s.2 pv) :
  (∃ pv',Pq (c+1) (gjS p c s).1 (gjS p c s).2 pv')/\(∀ f,Df p n (gjS p c s).2 f↔Df p n s.2 f):=by
 obtain ⟨r,m⟩:=s;dsimp only at hm h;unfold gjS;dsimp only;by_cases h1:r<m.length
 ·rw [if_pos h1];by_cases h2:Du m c r=m.length
  ·rw [if_pos h2];refine ⟨⟨pv,h.rl,fun i hi=>Nat.lt_succ_of_lt (h.lt i hi),h.mono,h.low,h.one,h.zero,fun i hi j hj=>?_⟩,fun f=>Iff.rfl⟩;dsimp only at hi ⊢;by_cases hjc:j<c
   ·exact h.tail i hi j hjc
   ·obtain rfl:j=c:=by omega
    by_cases hil:i<m.length
    ·exact Z9 hi oM h.rl
    ·exact Ra oM
  ·rw [if_neg h2];have hk1:=Ss (c:=c) h.rl;have hk2:=Avo m c r;have hnz:=Acv h2 h.rl;have hkl:Du m c r<m.length:=by omega
   have hx:=hm _ (M4 hkl);have ha:en m (Du m c r) c≠0:=hnz;generalize hk:Du m c r=k at *;have hab:=Alf (i:=k) (j:=c) hp hm;have hinv:=hI (en m k c) oM hab.2;generalize hv:Om p (en m k c)=v at hinv
   have hpr:∀ j,(prV p c (m.getD k [])).getD j 0=en m k j*v % p:=fun j=>by
    unfold prV;rw [Anp];show _*Om p (en m k c) % p=_;rw [hv];rfl
   have hprl:(prV p c (m.getD k [])).length=n:=(Ry hp hx.1).1;generalize prV p c (m.getD k [])=pr at *;have hW:=Zi hm h1 hkl;have hWl:=Qr m r k;have hWe:∀ i j,en (Lk m r k) i j=if i=k then en m r j else if i=r then en m k j else en m i j:=fun i j=>Avb h1 hkl
   generalize Lk m r k=W at *
   have hE:∀ i j,i<m.length->en (G6 p c r pr W) i j=if i=r then en m k j*v % p else (en W i j - en W i c*(en m k j*v % p)) % p:=fun i j hi=>by
    rw [Avg hW hprl oM,hpr]
   have hEl:=O7 p c r pr W
   have h0:∀ i j,i<m.length->i≠r->en m k j=0->en (G6 p c r pr W) i j=en W i j:=fun i j hi hne h0=>by
    have hb:=Alf (i:=i) (j:=j) hp hW;rw [hE i j hi,if_neg hne,h0,Int.zero_mul,Int.zero_emod,Int.mul_zero,Int.sub_zero,Int.emod_eq_of_lt hb.1 hb.2]
   have hkj:∀ j,j<c->en m k j=0:=fun j hj=>h.tail k oM j hj
   have hkp:∀ i,i<r->en m k (pv i)=0:=fun i hi=>h.zero i hi k oM
   have hcc:en m k c*v % p=1:=hinv
   have hsp:∀ i j,i<m.length->i≠r->Cg p (en (G6 p c r pr W) i j) (en W i j+ -en W i c*en (G6 p c r pr W) r j):=fun i j hi hne=>by
    rw [hE i j hi,if_neg hne,hE r j h1,if_pos rfl];exact Cg.md.trans (Cg.of (by grind))
   have hWr:∀ j,Cg p (en W r j) (en m k c*en (G6 p c r pr W) r j):=fun j=>by
    have e:en W r j=en m k j:=by
     rw [hWe];by_cases e:r=k
     ·rw [if_pos e,e]
     ·rw [if_neg e,if_pos rfl]
    rw [e,hE r j h1,if_pos rfl];obtain ⟨q,hq⟩:=Cg.fr (p:=p) (a:=en m k c*v) (b:=1) (by rw [hcc];exact (Int.emod_eq_of_lt oM oM).symm);refine Cg.trans ⟨-q*en m k j,?_⟩ (Cg.rf.mul Cg.md.symm)
    grind
   refine ⟨⟨fun i=>if i=r then c else pv i,?_,?_,?_,?_,?_,?_,?_⟩,fun f=>⟨Tl fun i hi=>?_,Tl fun i hi=>?_⟩⟩
   ·show r+1<=(G6 p c r pr W).length;omega
   ·intro i hi
    try dsimp only
    split
    ·omega
    ·have:=h.lt i oM;omega
   ·intro i l hil hl
    try dsimp only
    rw [if_neg (by omega:i≠r)];split
    ·exact h.lt i oM
    ·exact h.mono i l hil oM
   ·intro i hi j hj;dsimp only at hj ⊢;by_cases e:i=r
    ·subst e;rw [if_pos rfl] at hj;rw [hE i j h1,if_pos rfl,hkj j hj,Int.zero_mul,Int.zero_emod]
    ·rw [if_neg e] at hj;have:=h.lt i oM;rw [h0 i j oM e (hkj j oM),hWe,if_neg oM,if_neg e];exact h.low i oM j hj
   ·intro i hi;dsimp only;by_cases e:i=r
    ·subst e;rw [if_pos rfl,hE i c h1,if_pos rfl,hcc]
    ·rw [if_neg e,h0 i (pv i) oM e (hkp i oM),hWe,if_neg oM,if_neg e];exact h.one i oM
   ·intro i hi l hl;dsimp only;by_cases hll:l<m.length
    ·by_cases e:i=r
     ·subst e;rw [if_pos rfl,hE l c hll,if_neg hl,hcc,Int.mul_one,Int.sub_self,Int.zero_emod]
     ·rw [if_neg e];by_cases e2:l=r
      ·subst e2;rw [hE l (pv i) hll,if_pos rfl,hkp i oM,Int.zero_mul,Int.zero_emod]
      ·rw [h0 l (pv i) hll e2 (hkp i oM),hWe];by_cases e3:l=k
       ·rw [if_pos e3];exact h.zero i oM r oM
       ·rw [if_neg e3,if_neg e2];exact h.zero i oM l hl
    ·exact Ra oM
   ·intro i hi j hj;dsimp only at hi ⊢;by_cases hil:i<m.length
    ·by_cases e:j=c
     ·subst e;rw [hE i j hil,if_neg oM,hcc,Int.mul_one,Int.sub_self,Int.zero_emod]
     ·rw [h0 i j hil oM (hkj j oM),hWe];by_cases e3:i=k
      ·rw [if_pos e3];exact h.tail r (Nat.le_refl r) j oM
      ·rw [if_neg e3,if_neg oM];exact h.tail i oM j oM
    ·exact Ra oM
   ·have hi:i<m.length:=by dsimp only at hi;omega
    have hrow:∀ t,t<m.length->Df p n m (en W t):=fun t ht=>by
     by_cases e1:t=k
     ·exact Ez (Cx h1) fun j hj=>Cg.of (by rw [hWe,if_pos e1])
     ·by_cases e2:t=r
      ·exact Ez (Cx hkl) fun j hj=>Cg.of (by rw [hWe,if_neg e1,if_pos e2])
      ·exact Ez (Cx ht) fun j hj=>Cg.of (by rw [hWe,if_neg e1,if_neg e2])
    have hr':Df p n m (en (G6 p c r pr W) r):=Ez (Mu v (Cx hkl)) fun j hj=>by
     rw [hE r j h1,if_pos rfl];exact Cg.md.trans (Cg.of (by grind))
    by_cases e:i=r
    ·subst e;exact hr'
    ·exact Ez (Sg (hrow i hi) (Mu (-en W i c) hr')) fun j hj=>hsp i j hi e
   ·have hE':∀ t,t<m.length->Df p n (G6 p c r pr W) (en W t):=fun t ht=>by
     by_cases e:t=r
     ·subst e;exact Ez (Mu (en m k c) (Cx (i:=t) oM)) fun j hj=>hWr j
     ·refine Ez (Sg (Cx (i:=t) oM) (Mu (en W t c) (Cx (i:=r) oM))) fun j hj=>?_
      exact Cg.symm (((hsp t j ht e).add Cg.rf).trans (Cg.of (by grind)))
    by_cases e1:i=r
    ·subst e1;exact Ez (hE' k hkl) fun j hj=>Cg.of (by rw [hWe,if_pos rfl])
    ·by_cases e2:i=k
     ·subst e2;exact Ez (hE' r h1) fun j hj=>Cg.of (by rw [hWe,if_neg oM,if_pos rfl])
     ·exact Ez (hE' i hi) fun j hj=>Cg.of (by rw [hWe,if_neg e2,if_neg e1])
 ·rw [if_neg h1];have:=h.rl;refine ⟨⟨pv,h.rl,fun i hi=>Nat.lt_succ_of_lt (h.lt i hi),h.mono,h.low,h.one,h.zero,fun i hi j hj=>Ra (m:=m) (by dsimp only at hi;omega)⟩,fun f=>Iff.rfl⟩
theorem Afs {m:List (List Int)} (hp:2<=p) (hI:X8 p) (hm:MatW p n m):∀ c,(∃ pv,Pq c (gjT p m c).1 (gjT p m c).2 pv)/\∀ f,Df p n (gjT p m c).2 f↔Df p n m f
 | 0=>⟨⟨fun _=>0,Nat.zero_le _,by intro i hi;simp [gjT] at hi,by intro i k _ hk;simp [gjT] at hk,by intro i hi;simp [gjT] at hi,by intro i hi;simp [gjT] at hi,by intro i hi;simp [gjT] at hi,fun _ _ j hj=>by omega⟩,fun _=>Iff.rfl⟩
 | c+1=>by
  obtain ⟨⟨pv,h1⟩,h2⟩:=Afs hp hI hm c;obtain ⟨h3,h4⟩:=Atg hp hI (Ls hp hm c).1 h1;exact ⟨h3,fun f=>(h4 f).trans (h2 f)⟩
theorem Vc {r i j:Nat} (h:i<r):en (m.take r) i j=en m i j:=by
 unfold en;rw [gDg (l:=m.take r),List.getElem?_take,if_pos h,← gDg]
theorem Ag9 {k:Nat} (hk:k<=n) (h:Df p n m f):Df p k m f:=by
 induction h with
 | zero h0=>exact .zero fun j hj=>h0 j oM
 | add i k hi _ hs ih=>exact .add i k hi ih fun j hj=>hs j oM
theorem Apw {c:Nat} (hp:2<=p) (hI:X8 p) (hm:MatW p n m) (hc:c<=n):(∃ pv,Pq c (gj p c m).length (gj p c m) pv)/\∀ f,Df p c (gj p c m) f↔Df p c m f:=by
 obtain ⟨⟨pv,h⟩,h2⟩:=Afs hp hI hm c;have hl:=Agp (n:=c) hp hm;have hrl:=h.rl;refine ⟨⟨pv,Nat.le_refl _,?_,?_,?_,?_,?_,?_⟩,fun f=>Iff.trans (b:=Df p c (gjT p m c).2 f) ⟨Tl fun i hi=>?_,Tl fun i hi=>?_⟩ ⟨Tl fun i hi=>Ag9 hc ((h2 _).1 (Cx hi)),Tl fun i hi=>Ag9 hc ((h2 _).2 (Cx hi))⟩⟩
 ·rw [hl];exact h.lt
 ·rw [hl];exact h.mono
 ·rw [hl];intro i hi j hj;unfold gj;rw [Vc hi];exact h.low i hi j hj
 ·rw [hl];intro i hi;unfold gj;rw [Vc hi];exact h.one i hi
 ·rw [hl];intro i hi k hk;by_cases hkl:k<(gjT p m c).1
  ·unfold gj;rw [Vc hkl];exact h.zero i hi k hk
  ·exact Ra oM
 ·intro i hi j _;exact Ra hi
 ·rw [hl] at hi;exact Ez (Cx (i:=i) oM) fun j hj=>Cg.of (by unfold gj;rw [Vc hi])
 ·by_cases hir:i<(gjT p m c).1
  ·exact Ez (Cx (i:=i) oM) fun j hj=>Cg.of (by unfold gj;rw [Vc hir])
  ·exact .zero fun j hj=>Cg.of (h.tail i oM j hj)
theorem Vx (hp:2<=p) (hI:X8 p) (hm:MatW p n m):(∃ pv,Pq n (gj p n m).length (gj p n m) pv)/\∀ f,Df p n (gj p n m) f↔Df p n m f:=Apw hp hI hm (Nat.le_refl n)
theorem Agy {pv:Nat->Nat} (hp:2<=p) (hI:X8 p) (hm:MatW p n m) (hm':MatW p n m') (h:Pq n m'.length m' pv) (hs:∀ f,Df p n m f↔Df p n m' f):gj p n m=m':=by
 obtain ⟨⟨pv',h1⟩,h2⟩:=Vx hp hI hm;exact Ant hp h1 h (S8 hp hm) hm' (fun f hf=>(hs f).1 ((h2 f).1 hf)) fun f hf=>(h2 f).2 ((hs f).2 hf)
theorem As7 (hp:2<=p) (hI:X8 p) (hm:MatW p n m) (hm':MatW p n m') (hs:∀ f,Df p n m f↔Df p n m' f):gj p n m=gj p n m':=by
 obtain ⟨⟨pv',h1⟩,h2⟩:=Vx hp hI hm';exact Agy hp hI hm (S8 hp hm') h1 fun f=>(hs f).trans (h2 f).symm
end
end
section
def Ql (x:List Int):Nat:=x.findIdx fun a=>a !=0
section
variable {p:Int} {n:Nat} {m m' B:List (List Int)} {o:List Int}
theorem Aqn {c r i:Nat} {pv:Nat->Nat} (h:Pq c r m pv) (hm:MatW p n m) (hc:c<=n) (hi:i<r):Ql (m.getD i [])=pv i:=by
 have hl:=h.rl;have hx:=(hm _ (M4 (show i<m.length by omega))).1;have hlt:=h.lt i hi;have e:∀ (j:Nat) (hj:j<(m.getD i []).length),(m.getD i [])[j]=en m i j:=fun j hj=>(Bj (gEg hj)).symm
 unfold Ql;refine (List.findIdx_eq (show pv i<(m.getD i []).length by omega)).2 ⟨?_,fun j hj=>?_⟩
 ·rw [e,h.one i hi];rfl
 ·rw [e,h.low i hi j hj];rfl
theorem Anc {n':Nat} {f:Nat->Int} {σ:Nat->Nat} (hl:m'.length=m.length) (hσ:∀ j,j<n'->σ j<n) (he:∀ i,i<m.length->∀ j,j<n'->en m' i j=en m i (σ j)) (h:Df p n m f):Df p n' m' (fun j=>f (σ j)):=by
 induction h with
 | zero h0=>exact .zero fun j hj=>h0 _ (hσ j hj)
 | add i k hi _ hs ih=>exact .add i k oM ih fun j hj=>(hs _ (hσ j hj)).trans (Cg.of (by rw [he i hi j hj]))
end
end
section
def N6 (p:Int) (n:Nat) (m:List (List Int)) (f:Nat->Int):Prop:=∀ i,i<m.length->Cg p (sm n fun j=>en m i j*f j) 0
section
variable {p:Int} {n:Nat} {m m':List (List Int)} {f g:Nat->Int}
theorem Anf (hf:N6 p n m f) (hs:Df p n m g):Cg p (sm n fun j=>g j*f j) 0:=by
 induction hs with
 | zero h0=>exact (Nl (g:=fun _=>0) fun j hj=>((h0 j hj).mul Cg.rf).trans (Cg.of oM)).trans (Cg.of (Mo fun _ _=>rfl))
 | @add f' g' i k hi _ hs ih =>
  have e:sm n (fun j=>(g' j+k*en m i j)*f j)=sm n (fun j=>g' j*f j)+k*sm n (fun j=>en m i j*f j):=by
   rw [Vt (g:=fun j=>g' j*f j+k*(en m i j*f j)) fun j _=>by grind,Tb (f:=fun j=>g' j*f j),Up (f:=fun j=>en m i j*f j)]
  refine (Nl fun j hj=>(hs j hj).mul Cg.rf).trans ((Cg.of e).trans ?_);exact (ih.add (Cg.rf.mul (hf i hi))).trans (Cg.of oM)
theorem Alz (h:∀ i,i<m'.length->Df p n m (en m' i)) (hf:N6 p n m f):N6 p n m' f:=fun i hi=>Anf hf (h i hi)
theorem Ap7 (hf:N6 p n m f) (hg:N6 p n m g):N6 p n m (fun j=>f j+g j):=fun i hi=>by
 refine (Cg.of ?_).trans (((hf i hi).add (hg i hi)).trans (Cg.of oM));rw [Vt (g:=fun j=>en m i j*f j+en m i j*g j) fun j _=>by grind,Tb]
theorem Ap3 (a:Int) (hf:N6 p n m f):N6 p n m (fun j=>a*f j):=fun i hi=>by
 refine (Cg.of ?_).trans ((Cg.rf.mul (hf i hi)).trans (Cg.of (show a*0=0 by omega)));rw [Vt (g:=fun j=>a*(en m i j*f j)) fun j _=>by grind,Up]
theorem Atm (hf:N6 p n m f) (h:∀ j,j<n->Cg p (g j) (f j)):N6 p n m g:=fun i hi=>(Nl fun j hj=>Cg.rf.mul (h j hj)).trans (hf i hi)
theorem Aei (h:∀ i,i<m'.length->N6 p n m (en m' i)) (hs:Df p n m' f):N6 p n m f:=by
 induction hs with
 | zero h0=>exact fun i hi=>(Nl (g:=fun _=>0) fun j hj=>(Cg.rf.mul (h0 j hj)).trans (Cg.of oM)).trans (Cg.of (Mo fun _ _=>rfl))
 | add i k hi _ hs ih=>exact Atm (Ap7 ih (Ap3 k (h i hi))) hs
def pvs (r:Nat) (pv:Nat->Nat) (j:Nat):Bool:=(List.range r).any fun i=>pv i==j
theorem Apt {r j:Nat} {pv:Nat->Nat} (h:pvs r pv j=true):∃ i,i<r/\pv i=j:=by
 obtain ⟨i,hi,he⟩:=List.any_eq_true.1 h;exact ⟨i,List.mem_range.1 hi,beq_iff_eq.1 he⟩
theorem Al6 {r j i:Nat} {pv:Nat->Nat} (h:pvs r pv j=false) (hi:i<r):pv i≠j:=fun e=>by
 have:=List.any_eq_false.1 h i (List.mem_range.2 hi);exact this (beq_iff_eq.2 e)
structure Aw1 (p:Int) (n:Nat) (R:List (List Int)) (pv:Nat->Nat) (N:List (List Int)):Prop where
 ex:∀ j,j<n->pvs R.length pv j=false->∃ t,t<N.length/\Cg p (en N t j) 1/\(∀ i,i<R.length->Cg p (en N t (pv i)) (-en R i j))/\∀ q,q<n->q≠j->pvs R.length pv q=false->Cg p (en N t q) 0
 all:∀ t,t<N.length->∃ j,j<n/\pvs R.length pv j=false/\Cg p (en N t j) 1/\(∀ i,i<R.length->Cg p (en N t (pv i)) (-en R i j))/\∀ q,q<n->q≠j->pvs R.length pv q=false->Cg p (en N t q) 0
theorem Ang {R N:List (List Int)} {pv:Nat->Nat} (h:Pq n R.length R pv) (hN:Aw1 p n R pv N):Df p n N f↔N6 p n R f:=by
 have hd:∀ i k,i<R.length->k<R.length->en R i (pv k)=if k=i then 1 else 0:=fun i k hi hk=>by
  by_cases e:k=i
  ·subst e;rw [if_pos rfl,h.one k hk]
  ·rw [if_neg e,h.zero k hk i (Ne.symm e)]
 have hpi:∀ i k,i<R.length->k<R.length->pv i=pv k->i=k:=fun i k hi hk e=>by
  rcases Nat.lt_trichotomy i k with h1|h1|h1
  ·have:=h.mono i k h1 hk;omega
  ·exact h1
  ·have:=h.mono k i h1 hi;omega
 constructor
 ·refine Aei fun t ht i hi=>?_
  obtain ⟨j,hj,hfr,h1,h2,h3⟩:=hN.all t ht;have hne:pv i≠j:=Al6 hfr hi
  have e:Cg p (sm n fun q=>en R i q*en N t q) (sm n fun q=>(if q=j then en R i j else 0)+(if q=pv i then -en R i j else 0)):=by
   refine Nl fun q hq=>?_
   by_cases e1:q=j
   ·subst e1;rw [if_pos rfl,if_neg (Ne.symm hne)];exact (Cg.rf.mul h1).trans (Cg.of oM)
   ·rw [if_neg e1];by_cases e2:q=pv i
    ·subst e2;rw [if_pos rfl,h.one i hi];exact (Cg.rf.mul (h2 i hi)).trans (Cg.of oM)
    ·rw [if_neg e2];cases hf:pvs R.length pv q
     ·exact (Cg.rf.mul (h3 q hq e1 hf)).trans (Cg.of oM)
     ·obtain ⟨k,hk,rfl⟩:=Apt hf;rw [hd i k hi hk,if_neg fun e=>e2 (by rw [e])];exact Cg.of oM
  refine e.trans (Cg.of ?_);rw [Tb,Pt hj fun q _ hq=>if_neg hq,Pt (h.lt i hi) fun q _ hq=>if_neg hq,if_pos rfl,if_pos rfl];omega
 ·intro hf
  have hrow:∀ j,∃ b:Nat->Int,Df p n N b/\(j<n->pvs R.length pv j=false->Cg p (b j) 1/\(∀ i,i<R.length->Cg p (b (pv i)) (-en R i j))/\∀ q,q<n->q≠j->pvs R.length pv q=false->Cg p (b q) 0):=fun j=>by
   by_cases hj:j<n/\pvs R.length pv j=false
   ·obtain ⟨t,ht,h1⟩:=hN.ex j hj.1 hj.2;exact ⟨en N t,Cx ht,fun _ _=>h1⟩
   ·exact ⟨fun _=>0,.zero fun _ _=>Cg.rf,fun h1 h2=>(hj ⟨h1,h2⟩).elim⟩
  obtain ⟨b,hb⟩:∃ b:Nat->Nat->Int,∀ j,Df p n N (b j)/\(j<n->pvs R.length pv j=false->Cg p (b j j) 1/\(∀ i,i<R.length->Cg p (b j (pv i)) (-en R i j))/\∀ q,q<n->q≠j->pvs R.length pv q=false->Cg p (b j q) 0) :=
   ⟨fun j=>Classical.choose (hrow j),fun j=>Classical.choose_spec (hrow j)⟩
  have hS:Df p n N (fun q=>sm n fun j=>(if pvs R.length pv j then 0 else f j)*b j q):=Ag2 (F:=fun j q=>(if pvs R.length pv j then 0 else f j)*b j q) fun j _=>Mu _ (hb j).1
  refine Ez hS fun q hq=>Cg.symm ?_
  cases hf':pvs R.length pv q
  ·refine (Nl (g:=fun j=>if j=q then f q else 0) fun j hj=>?_).trans (Cg.of ?_)
   ·by_cases e:j=q
    ·subst e;rw [if_pos rfl,hf',if_neg (by decide)];exact (Cg.rf.mul ((hb j).2 hj hf').1).trans (Cg.of oM)
    ·rw [if_neg e];cases hfj:pvs R.length pv j
     ·exact (Cg.rf.mul (((hb j).2 hj hfj).2.2 q hq (Ne.symm e) hf')).trans (Cg.of oM)
     ·rw [if_pos rfl];exact Cg.of oM
   ·rw [Pt hq fun j _ hj=>if_neg hj,if_pos rfl]
  ·obtain ⟨i,hi,rfl⟩:=Apt hf';refine (Nl (g:=fun j=> -1*(en R i j*f j)+(if j=pv i then f j else 0)) fun j hj=>?_).trans ?_
   ·cases hfj:pvs R.length pv j
    ·have hne:j≠pv i:=fun e=>Al6 hfj hi e.symm
     rw [if_neg (by decide),if_neg hne];exact (Cg.rf.mul (((hb j).2 hj hfj).2.1 i hi)).trans (Cg.of (by grind))
    ·obtain ⟨k,hk,rfl⟩:=Apt hfj;rw [if_pos rfl,hd i k hi hk];by_cases e:k=i
     ·subst e;rw [if_pos rfl,if_pos rfl];exact Cg.of oM
     ·rw [if_neg e,if_neg fun e'=>e (hpi k i hk hi e')];exact Cg.of oM
   ·rw [Tb (f:=fun j=> -1*(en R i j*f j)),Up (f:=fun j=>en R i j*f j),Pt (f:=fun j=>if j=pv i then f j else 0) hq fun j _ hj=>if_neg hj,if_pos rfl];exact ((Cg.rf.mul (hf i hi)).add Cg.rf).trans (Cg.of oM)
theorem Ak9 {c r w:Nat} {pv:Nat->Nat} (h:Pq c r m pv) (hc:c<=w) (hs:Df p w m f):∃ g,Df p w (m.drop r) g/\∀ j,j<w->Cg p (f j) ((sm r fun i=>f (pv i)*en m i j)+g j):=by
 have hd:∀ t j,en (m.drop r) t j=en m (r+t) j:=fun t j=>by
  unfold en;rw [gDg (l:=m.drop r),List.getElem?_drop,← gDg]
 induction hs with
 | zero h0 =>
  refine ⟨fun _=>0,.zero fun _ _=>Cg.rf,fun j hj=>(h0 j hj).trans (Cg.symm ?_)⟩;refine (((Nl (g:=fun _=>0) fun i hi=>?_).trans (Cg.of (Mo fun _ _=>rfl))).add Cg.rf).trans (Cg.of (by dsimp only;omega));exact ((h0 _ (by have:=h.lt i hi;omega)).mul Cg.rf).trans (Cg.of oM)
 | @add f' g' t k ht _ hs ih =>
  obtain ⟨q,hq,he⟩:=ih;have hpw:∀ i,i<r->pv i<w:=fun i hi=>by have:=h.lt i hi;omega
  have e1:∀ j,Cg p (sm r fun i=>f' (pv i)*en m i j) ((sm r fun i=>g' (pv i)*en m i j)+k*sm r fun i=>en m t (pv i)*en m i j):=fun j=>by
   refine (Nl fun i hi=>(hs _ (hpw i hi)).mul Cg.rf).trans (Cg.of ?_);rw [Vt (g:=fun i=>g' (pv i)*en m i j+k*(en m t (pv i)*en m i j)) fun i _=>by grind,Tb (f:=fun i=>g' (pv i)*en m i j),Up (f:=fun i=>en m t (pv i)*en m i j)]
  by_cases htr:t<r
  ·refine ⟨q,hq,fun j hj=>(hs j hj).trans (((he j hj).add Cg.rf).trans (Cg.symm (((e1 j).add Cg.rf).trans (Cg.of ?_))))⟩;rw [Pt (f:=fun i=>en m t (pv i)*en m i j) htr fun i hi hne=>by rw [h.zero i hi t (Ne.symm hne)];omega,h.one t htr,Int.one_mul];omega
  ·refine ⟨fun j=>q j+k*en m t j,?_,fun j hj=>(hs j hj).trans (((he j hj).add Cg.rf).trans (Cg.symm (((e1 j).add Cg.rf).trans (Cg.of ?_))))⟩
   ·refine Ez (Sg hq (Mu k (Cx (i:=t - r) (by rw [List.length_drop];omega)))) fun j _=>Cg.of ?_
    rw [hd,show r+(t - r)=t by omega]
   ·rw [Mo (f:=fun i=>en m t (pv i)*en m i j) fun i hi=>by rw [h.zero i hi t oM];omega];dsimp only;omega
theorem Anw {R:Nat} {A W:List (List Int)} (hp:2<=p) (hI:X8 p) (hW:MatW p (R+n) W) (hl:W.length=n) (hA:A.length=R) (h1:∀ t,t<n->∀ i,i<R->en W t i=en A i t) (h2:∀ t,t<n->∀ j,j<n->en W t (R+j)=if j=t then 1 else 0) :
  Df p n (((gjT p W R).2.drop (gjT p W R).1).map (·.drop R)) f↔N6 p n A f:=by
 obtain ⟨⟨pv,hv⟩,hs⟩:=Afs hp hI hW R
 have hlin:∀ g,Df p (R+n) W g->∀ i,i<R->Cg p (g i) (sm n fun t=>en A i t*g (R+t)):=fun g hg=>by
  induction hg with
  | zero h0 =>
   intro i hi;refine (h0 i oM).trans (Cg.symm ((Nl (g:=fun _=>0) fun t ht=>?_).trans (Cg.of (Mo fun _ _=>rfl))));exact (Cg.rf.mul (h0 _ oM)).trans (Cg.of oM)
  | @add f' g' t k ht _ hs ih =>
   intro i hi;refine (hs i oM).trans (((ih i hi).add Cg.rf).trans (Cg.symm ?_));refine (Nl fun u hu=>Cg.rf.mul (hs (R+u) oM)).trans (Cg.of ?_)
   rw [Vt (g:=fun u=>en A i u*g' (R+u)+k*(en A i u*en W t (R+u))) fun u _=>by grind,Tb (f:=fun u=>en A i u*g' (R+u)),Up (f:=fun u=>en A i u*en W t (R+u)),
    Pt (f:=fun u=>en A i u*en W t (R+u)) (t:=t) oM fun u hu hne=>by rw [h2 t oM u hu,if_neg hne];omega,h2 t oM t oM,if_pos rfl,h1 t oM i hi,Int.mul_one]
 have hen:∀ t j,t<((gjT p W R).2.drop (gjT p W R).1).length->en (((gjT p W R).2.drop (gjT p W R).1).map (·.drop R)) t j=en (gjT p W R).2 ((gjT p W R).1+t) (R+j):=fun t j ht=>by
  unfold en
  have e1:(((gjT p W R).2.drop (gjT p W R).1).map (·.drop R)).getD t []=((gjT p W R).2.getD ((gjT p W R).1+t) []).drop R:=by
   rw [gDg,List.getElem?_map,List.getElem?_drop,gDg];cases (gjT p W R).2[(gjT p W R).1+t]? with
   | none=>exact (List.drop_nil).symm
   | some x=>rfl
  rw [e1,gDg,List.getElem?_drop,← gDg]
 generalize gjT p W R=G at *;obtain ⟨r,M⟩:=G;dsimp only at *;constructor
 ·refine Aei fun t ht i hi=>?_
  have ht':t<(M.drop r).length:=by simpa using ht
  have h3:=hlin _ ((hs _).1 (Cx (i:=r+t) (by rw [List.length_drop] at ht';omega))) i oM;rw [hv.tail (r+t) oM i oM] at h3;refine Cg.trans (Cg.of (Vt fun j hj=>?_)) h3.symm;rw [hen t j ht']
 ·intro hf;have hg:Df p (R+n) W (fun q=>sm n fun t=>f t*en W t q):=Ag2 (F:=fun t q=>f t*en W t q) fun t ht=>Mu _ (Cx oM)
  have hq1:∀ i,i<R->Cg p (sm n fun t=>f t*en W t i) 0:=fun i hi=>by
   refine Cg.trans (Cg.of (Vt fun t ht=>?_)) (hf i oM);rw [h1 t ht i hi];exact Int.mul_comm _ _
  have hq2:∀ j,j<n->(sm n fun t=>f t*en W t (R+j))=f j:=fun j hj=>by
   rw [Pt (f:=fun t=>f t*en W t (R+j)) hj fun t ht hne=>by rw [h2 t ht j hj,if_neg (Ne.symm hne)];omega,h2 j hj j hj,if_pos rfl,Int.mul_one]
  obtain ⟨g,hgs,hge⟩:=Ak9 hv (Nat.le_add_right R n) ((hs _).2 hg)
  have hG:Df p (R+n) (M.drop r) (fun q=>sm n fun t=>f t*en W t q):=by
   refine Ez hgs fun q hq=>(hge q hq).trans ?_
   refine ((Nl (g:=fun _=>0) fun i hi=>?_).add Cg.rf).trans (Cg.of ?_)
   ·exact ((hq1 _ (hv.lt i hi)).mul Cg.rf).trans (Cg.of oM)
   ·rw [Mo fun _ _=>rfl];omega
  have hC:=Anc (m':=(M.drop r).map (·.drop R)) (n':=n) (σ:=fun j=>R+j) (List.length_map ..) (fun j hj=>by omega) (fun t ht j hj=>by
   rw [hen t j ht];unfold en;rw [gDg (l:=M.drop r),List.getElem?_drop,← gDg]) hG
  exact Ez hC fun j hj=>Cg.of (hq2 j hj).symm
end
def lv (R:List (List Int)) (i:Nat):Nat:=Ql (R.getD i [])
section
variable {p:Int} {n:Nat} {R:List (List Int)}
theorem Ael {pv:Nat->Nat} (h:Pq n R.length R pv) {w:Nat} (hm:MatW p w R) (hw:n<=w):Pq n R.length R (lv R):=by
 have e:∀ i,i<R.length->lv R i=pv i:=fun i hi=>Aqn h hm hw hi
 refine ⟨Nat.le_refl _,fun i hi=>?_,fun i k hik hk=>?_,fun i hi j hj=>?_,fun i hi=>?_,fun i hi k hk=>?_,fun i hi j _=>Ra hi⟩
 ·rw [e i hi];exact h.lt i hi
 ·rw [e i oM,e k hk];exact h.mono i k hik hk
 ·rw [e i hi] at hj;exact h.low i hi j hj
 ·rw [e i hi];exact h.one i hi
 ·rw [e i hi];exact h.zero i hi k hk
end
end
section
section
variable {p:Int} {n:Nat} {m E R F:List (List Int)} {f g u v:Nat->Int}
-- the equations from behind
end
end
section
section
variable {p:Int} {n:Nat} {m:List (List Int)}
theorem Aid (x:List Int) (hx:x.length<=1000):Jq x=some ((Ql x:Nat):Int):=by
 unfold Jq;have hle:Ql x<=x.length:=List.findIdx_le_length
 have h:Aq (fun s_:Nat=>H9 x s_) 4611686018427387904 0=some (Ql x):=by
  refine A7 (Ql x) (fun i=>i) oM _ rfl (fun i hi=>?_) ?_
  ·have h0:=List.not_of_lt_findIdx hi;have h1:x[i]'oM=0:=by simpa using h0
   try dsimp only
   unfold H9;rw [Au oM,cond_true,gEg (show i<x.length by omega),obs,obs,h1,show ((0:Int)==0)=true from rfl,cond_true,Af oM]
  ·unfold H9;by_cases h:Ql x=x.length
   ·rw [At oM,cond_false,obs,cond_false]
   ·have h0:=List.findIdx_getElem (w:=show Ql x<x.length by omega);rw [Au oM,cond_true,gEg (show Ql x<x.length by omega),obs,obs,show ((x[Ql x]'oM)==0)=false from Bool.eq_false_iff.2 (fun e=>bne_iff_ne.1 h0 (beq_iff_eq.1 e)),cond_false]
 rw [h,obs]
def spV (p:Int) (n:Nat) (m:List (List Int)) (c:List Int):Nat->List Int
 | 0=>List.replicate n 0
 | i+1=>List.zipWith (fun a x=>(a+c.getD i 0*x) % p) (spV p n m c i) (m.getD i [])
theorem Og {c:List Int} (hp:2<=p) (hm:MatW p n m):∀ i,i<=m.length->VecW p n (spV p n m c i)
 | 0,_=>⟨by simp [spV],fun a ha=>by obtain rfl:=(List.mem_replicate.1 ha).2;omega⟩
 | i+1,hi=>by
  have h1:=Og (c:=c) hp hm i oM;have h2:=hm _ (M4 (show i<m.length by omega));refine ⟨by unfold spV;rw [List.length_zipWith,h1.1,h2.1];omega,fun a ha=>?_⟩;obtain ⟨b,d,rfl⟩:=Ald ha;exact Se hp
theorem Ami {c:List Int} (hp:2<=p/\p<=97) (hm:MatW p n m) (hc:VecW p m.length c) (hn:n<=1000) (hl:m.length<=1000):Kt p (n:Int) m c=some (spV p n m c m.length):=by
 unfold Kt;rw [Af oM,Int.toNat_natCast]
 have key:Aq (fun s_:Nat×List Int=>Js m c p s_.1 s_.2) 4611686018427387904 (0,List.replicate n 0)=some (spV p n m c m.length):=by
  refine A7 m.length (fun i=>(i,spV p n m c i)) oM _ rfl (fun i hi=>?_) ?_
  ·have h1:=Og (c:=c) hp.1 hm i oM;have h2:=hm _ (List.getElem_mem hi);have hl1:=h1.1;have hl2:=h2.1;have hcc:=hc.1;have hci:=Ox hc (j:=i) oM
   have hin:Aq (fun s_:Nat×List Int=>Ju m[i] c i p s_.1 s_.2) 4611686018427387904 (0,spV p n m c i)=some (spV p n m c (i+1)):=by
    have hv:=Og (c:=c) hp.1 hm (i+1) oM;have hvl:=hv.1;refine Wn (y:=spV p n m c (i+1)) oM oM (fun j hj z hz=>?_) ?_
    ·have a1:=Ox h1 hj;have a2:=Ox h2 (j:=j) oM;have a3:=Abp hp hci a2
     try dsimp only
     unfold Ju;rw [Au oM,cond_true,gEg (show j<m[i].length by omega),obs,hz,obs,gEg (show i<c.length by omega),obs,Af oM,Af oM,A4 (n:=c[i]'oM*m[i][j]'oM) oM oM,A4 oM oM,Int.tmod_eq_emod_of_nonneg oM];congr 4;simp only [spV,List.getElem_zipWith,Bj (gEg (show i<c.length by omega)),Bj (m:=m) (gEg hi)]
    ·try dsimp only
     unfold Ju;rw [At oM,cond_false]
   try dsimp only
   unfold Js;rw [Au oM,cond_true,gEg hi,obs,hin,obs,Af oM]
  ·try dsimp only
   unfold Js;rw [At oM,cond_false]
 rw [key,obs]
theorem Arw {s:ByteArray} {xs:List Nd} {l r:Int} {b:List (List Int)} (hx:xs.length<=1073741824) (hb:b.length<=1048576) (hr:Fx 1048576 b) (h:El p s xs l r b=some true):My p l r b=true:=by
 unfold El at h;obtain ⟨nm,n1,n2⟩:=Akm s;rw [Ab7,obs,n2,obs,Wi xs p hx,Uo xs hx,Aa4 p l r b hb hr] at h;cases ht:tyV xs with
 | none=>rw [ht] at h;exact absurd h (by simp)
 | some w =>
  rw [ht,Option.isSome_some,Bool.true_and] at h;dsimp only at h;generalize isF p=a1 at h;generalize O5 p xs=a2 at h;generalize Yo xs=a3 at h;cases hg:My p l r b
  ·rw [hg] at h;cases nm <;> cases a1 <;> cases a2 <;> cases a3 <;> exact absurd h (by simp)
  ·rfl
theorem Aoc {s:ByteArray} {xs:List Nd} {l r:Int} {b:List (List Int)} (hx:xs.length<=1073741824) (hb:b.length<=1048576) (hr:Fx 1048576 b) (h:El p s xs l r b=some true):isF p=true/\O5 p xs=true/\Yo xs=true/\My p l r b=true/\tyV xs=some (l,r):=by
 have hg:=Arw hx hb hr h;unfold El at h;obtain ⟨nm,n1,n2⟩:=Akm s;rw [Ab7,obs,n2,obs,Wi xs p hx,Uo xs hx,Aa4 p l r b hb hr,hg] at h;cases ht:tyV xs with
 | none=>rw [ht] at h;exact absurd h (by simp)
 | some w =>
  rw [ht,Option.isSome_some,Bool.true_and] at h;dsimp only at h;cases h1:l==w.1
  ·rw [h1] at h;generalize isF p=a1 at h;generalize O5 p xs=a2 at h;generalize Yo xs=a3 at h;cases nm <;> cases a1 <;> cases a2 <;> cases a3 <;> exact absurd h (by simp)
  cases h2:r==w.2
  ·rw [h1,h2] at h;generalize isF p=a1 at h;generalize O5 p xs=a2 at h;generalize Yo xs=a3 at h;cases nm <;> cases a1 <;> cases a2 <;> cases a3 <;> exact absurd h (by simp)
  obtain rfl:=beq_iff_eq.1 h1;obtain rfl:=beq_iff_eq.1 h2;rw [h1,h2] at h;generalize isF p=a1 at *;generalize O5 p xs=a2 at *;generalize Yo xs=a3 at *;cases nm <;> cases a1 <;> cases a2 <;> cases a3 <;> first|exact ⟨rfl,rfl,rfl,hg,rfl⟩|exact absurd h (by simp)
end
end
section
theorem Abu {p:Int} (hp:isF p=true):X8 p:=fun _ h1 h2=>(Aj9 hp ⟨h1,h2⟩).2.2.2.2
theorem Re {n:Int} (h:0<=n/\n<=1000000):Dp n=some (List.replicate n.toNat 0):=by
 unfold Dp;rw [Af oM]
def bvT (p:Int) (n:Nat) (R:List (List Int)) (j:Nat):Nat->List Int
 | 0=>(List.replicate n 0).set j 1
 | i+1=>(bvT p n R j i).set (lv R i) ((p - en R i j) % p)
def ldT (n:Nat) (R:List (List Int)):Nat->List Int
 | 0=>List.replicate n (-1)
 | i+1=>(ldT n R i).set (lv R i) (i:Int)
def X9 (n:Nat) (R:List (List Int)):List Nat:=(List.range n).filter fun j=> !pvs R.length (lv R) j
def Rj (p:Int) (n:Nat) (R:List (List Int)):List (List Int):=(X9 n R).map fun j=>bvT p n R j R.length
def Nf (p:Int) (n:Nat) (m:List (List Int)):List (List Int):=gj p n (Rj p n (gj p n m))
section
variable {p:Int} {n:Nat} {R m:List (List Int)}
theorem Ag7 {pv:Nat->Nat} {i j:Nat}:pvs (i+1) pv j=(pvs i pv j||(pv i==j)):=by simp [pvs,List.range_succ]
theorem Ae6:∀ i,(ldT n R i).length=n
 | 0=>by simp [ldT]
 | i+1=>by unfold ldT;rw [List.length_set,Ae6 i]
theorem Aqt (hlt:∀ i,i<R.length->lv R i<n) {j:Nat} (hj:j<n):∀ i,i<=R.length->∃ v,(ldT n R i)[j]? =some v/\(decide (0<=v)=pvs i (lv R) j)
 | 0,_=>⟨-1,by simp [ldT,hj],rfl⟩
 | i+1,hi=>by
  obtain ⟨v,h1,h2⟩:=Aqt hlt hj i oM;have hl:=Ae6 (n:=n) (R:=R) i;by_cases e:lv R i=j
  ·refine ⟨(i:Int),?_,?_⟩
   ·unfold ldT;rw [e,List.getElem?_set_self oM]
   ·rw [Ag7,beq_iff_eq.2 e,Bool.or_true,Au oM]
  ·refine ⟨v,?_,?_⟩
   ·unfold ldT;rw [List.getElem?_set_ne e];exact h1
   ·rw [Ag7,beq_eq_false_iff_ne.2 e,Bool.or_false];exact h2
theorem V3 {j:Nat}:∀ i,(bvT p n R j i).length=n
 | 0=>by simp [bvT]
 | i+1=>by unfold bvT;rw [List.length_set,V3 i]
theorem Apd {j:Nat} (hp:2<=p):∀ i,inV p (bvT p n R j i)
 | 0=>fun a ha=>by
  rcases List.mem_or_eq_of_mem_set ha with ha|rfl
  ·obtain rfl:=(List.mem_replicate.1 ha).2;omega
  ·omega
 | i+1=>fun a ha=>by
  rcases List.mem_or_eq_of_mem_set ha with ha|rfl
  ·exact Apd hp i a ha
  ·exact Se hp
theorem Tj {x:List Int} {i j:Nat} {a:Int} (hi:i<x.length):(x.set i a).getD j 0=if i=j then a else x.getD j 0:=by
 rw [gDg];by_cases e:i=j
 ·subst e;rw [if_pos rfl,List.getElem?_set_self hi];rfl
 ·rw [if_neg e,List.getElem?_set_ne e,← gDg]
theorem Amz {j:Nat} (h:Pq n R.length R (lv R)):∀ i,i<=R.length->∀ t,t<i->(bvT p n R j i).getD (lv R t) 0=(p - en R t j) % p
 | 0,_,t,ht=>by omega
 | i+1,hi,t,ht=>by
  unfold bvT;rw [Tj (by rw [V3];exact h.lt i oM)];by_cases e:i=t
  ·subst e;rw [if_pos rfl]
  ·have:=h.mono t i oM oM;rw [if_neg oM];exact Amz h i oM t oM
theorem Aa3 {j q:Nat} (h:Pq n R.length R (lv R)) (hj:j<n):∀ i,i<=R.length->(∀ t,t<i->lv R t≠q)->(bvT p n R j i).getD q 0=if j=q then 1 else 0
 | 0,_,_=>by
  unfold bvT;rw [Tj (by simpa using hj)];by_cases e:j=q
  ·rw [if_pos e,if_pos e]
  ·rw [if_neg e,if_neg e,gDg,List.getElem?_replicate];split <;> rfl
 | i+1,hi,hq=>by
  unfold bvT;rw [Tj (by rw [V3];exact h.lt i oM),if_neg (hq i oM)];exact Aa3 h hj i oM fun t ht=>hq t oM
theorem Sx (hp:2<=p):MatW p n (Rj p n R):=fun x hx=>by
 obtain ⟨j,_,rfl⟩:=List.mem_map.1 hx;exact ⟨V3 _,Apd hp _⟩
theorem Aik:(Rj p n R).length<=n:=by
 unfold Rj X9;rw [List.length_map];exact Nat.le_trans (List.length_filter_le ..) (by simp)
theorem Asr (hp:2<=p) (h:Pq n R.length R (lv R)):Aw1 p n R (lv R) (Rj p n R):=by
 have hb:∀ j,j<n->pvs R.length (lv R) j=false->Cg p ((bvT p n R j R.length).getD j 0) 1/\(∀ i,i<R.length->Cg p ((bvT p n R j R.length).getD (lv R i) 0) (-en R i j))/\∀ q,q<n->q≠j->pvs R.length (lv R) q=false->Cg p ((bvT p n R j R.length).getD q 0) 0:=fun j hj hf=>by
  refine ⟨?_,fun i hi=>?_,fun q _ hne hfq=>?_⟩
  ·rw [Aa3 h hj _ (Nat.le_refl _) fun t ht=>Al6 hf ht,if_pos rfl];exact Cg.rf
  ·rw [Amz h _ (Nat.le_refl _) i hi];exact Cg.md.trans ⟨1,by omega⟩
  ·rw [Aa3 h hj _ (Nat.le_refl _) fun t ht=>Al6 hfq ht,if_neg (Ne.symm hne)];exact Cg.rf
 have he:∀ t j,(X9 n R)[t]? =some j->∀ q,en (Rj p n R) t q=(bvT p n R j R.length).getD q 0:=fun t j ht q=>by
  unfold en Rj;rw [Bj (x:=bvT p n R j R.length) (by rw [List.getElem?_map,ht];rfl)]
 have hl:(Rj p n R).length=(X9 n R).length:=List.length_map ..;refine ⟨fun j hj hf=>?_,fun t ht=>?_⟩
 ·have hm:j∈X9 n R:=List.mem_filter.2 ⟨List.mem_range.2 hj,by rw [hf];rfl⟩;obtain ⟨t,ht,e⟩:=List.getElem_of_mem hm;have h1:(X9 n R)[t]? =some j:=by rw [gEg ht,e]
  refine ⟨t,by omega,?_⟩;simp only [he t j h1];exact hb j hj hf
 ·obtain ⟨j,hj⟩:=Ke (show t<(X9 n R).length by omega);have hm:=List.mem_filter.1 (List.mem_of_getElem? hj);have hjn:=List.mem_range.1 hm.1;have hf:pvs R.length (lv R) j=false:=by simpa using hm.2
  refine ⟨j,hjn,hf,?_⟩;simp only [he t j hj];exact hb j hjn hf
theorem Aru {f:Nat->Int} (hp:isF p=true) (hm:MatW p n m):Df p n (Rj p n (gj p n m)) f↔N6 p n m f:=by
 have hb:=Cu hp;obtain ⟨⟨pv,h1⟩,h2⟩:=Vx hb.1 (Abu hp) hm;have h3:=Ael h1 (S8 hb.1 hm) (Nat.le_refl n);refine (Ang h3 (Asr hb.1 h3)).trans ⟨Alz fun i hi=>(h2 _).2 (Cx hi),Alz fun i hi=>(h2 _).1 (Cx hi)⟩
theorem Zm {x:Int} (hp:2<=p/\p<=97) (hx:0<=x/\x<p):E7 p x=some ((p - x) % p):=by
 unfold E7;rw [Af oM,A4 oM oM,Int.tmod_eq_emod_of_nonneg oM]
theorem Abx (hp:isF p=true) (hm:MatW p n m) (hn:n<=1000) (hl:m.length<=100000):Jm p (n:Int) m=some (Nf p n m):=by
 have hb:=Cu hp;obtain ⟨⟨pv,h1⟩,_⟩:=Vx hb.1 (Abu hp) hm;have hRm:=S8 (n:=n) hb.1 hm;have h:=Ael h1 hRm (Nat.le_refl n)
 have hRl:(gj p n m).length<=n:=by
  have:=Abs (k:=n) (u:=id) (fun i j h _=>h) h.mono;refine Nat.le_of_not_lt fun hlt=>?_
  have hge:∀ i,i<(gj p n m).length->i<=lv (gj p n m) i:=by
   intro i
   induction i with
   | zero=>intro _;omega
   | succ i ih=>intro hi;have:=ih oM;have:=h.mono i (i+1) oM hi;omega
  have:=hge n hlt;have:=h.lt n hlt;omega
 unfold Jm Nf;rw [Qw hp hm (Nat.le_refl n) oM hl,obs,Af oM,Int.toNat_natCast];generalize gj p n m=R at *
 have l1:Aq (fun s_:Nat×List Int=>Im (n:Int) s_.1 s_.2) 4611686018427387904 (0,List.replicate n 0)=some (ldT n R 0):=by
  refine Wn (y:=ldT n R 0) (by simp [ldT]) (by simp;omega) (fun j hj z hz=>?_) ?_
  ·simp at hj
   try dsimp only
   unfold Im;rw [Int.toNat_natCast,Au oM,cond_true,hz,obs,Af oM];simp [ldT]
  ·try dsimp only
   unfold Im;rw [Int.toNat_natCast,At (by simp),cond_false]
 have hrow:∀ i,i<R.length->R[i]? =some (R.getD i [])/\VecW p n (R.getD i []):=fun i hi=>⟨by rw [gEg hi,Bj (gEg hi)],hRm _ (M4 hi)⟩
 have l2:Aq (fun s_:Nat×List Int=>Il R s_.1 s_.2) 4611686018427387904 (0,ldT n R 0)=some (ldT n R R.length):=by
  refine A7 R.length (fun i=>(i,ldT n R i)) oM _ rfl (fun i hi=>?_) ?_
  ·obtain ⟨g1,g2⟩:=hrow i hi;have hlt:=h.lt i hi;obtain ⟨x,hx⟩:=Ke (m:=ldT n R i) (i:=lv R i) (by rw [Ae6];exact hlt)
   try dsimp only
   unfold Il;rw [Au oM,cond_true,g1,obs,Aid _ (by rw [g2.1];exact hn),obs,Bs oM,Int.toNat_natCast,show (ldT n R i)[Ql (R.getD i [])]? =some x from hx,obs,Af oM];rfl
  ·try dsimp only
   unfold Il;rw [At oM,cond_false]
 have l4:∀ j,j<n->Aq (fun s_:Nat×List Int=>Ix R j p s_.1 s_.2) 4611686018427387904 (0,(List.replicate n 0).set j 1)=some (bvT p n R j R.length):=fun j hj=>by
  refine A7 R.length (fun i=>(i,bvT p n R j i)) oM _ rfl (fun i hi=>?_) ?_
  ·obtain ⟨g1,g2⟩:=hrow i hi;have hlt:=h.lt i hi;obtain ⟨q1,q2,q3⟩:=Gl g2 hj;obtain ⟨x,hx⟩:=Ke (m:=bvT p n R j i) (i:=lv R i) (by rw [V3];exact hlt)
   try dsimp only
   unfold Ix;rw [Au oM,cond_true,g1,obs,Aid _ (by rw [g2.1];exact hn),obs,q3,obs,Zm hb ⟨q1,q2⟩,obs,Bs oM,Int.toNat_natCast,show (bvT p n R j i)[Ql (R.getD i [])]? =some x from hx,obs,Af oM];rfl
  ·try dsimp only
   unfold Ix;rw [At oM,cond_false]
 have l3:Aq (fun s_:Nat×List (List Int)=>Ij (n:Int) (ldT n R R.length) R p s_.1 s_.2) 4611686018427387904 (0,[])=some (Rj p n R):=by
  refine A7 n (fun k=>(k,((List.range k).filter fun j=> !pvs R.length (lv R) j).map fun j=>bvT p n R j R.length)) oM _ rfl (fun k hk=>?_) ?_
  ·obtain ⟨v,v1,v2⟩:=Aqt h.lt hk R.length (Nat.le_refl _)
   have hle:(((List.range k).filter fun j=> !pvs R.length (lv R) j).map fun j=>bvT p n R j R.length).length<=k:=by
    rw [List.length_map];exact Nat.le_trans (List.length_filter_le ..) (by simp)
   try dsimp only
   unfold Ij;rw [Au oM,cond_true,v1,obs,v2,List.range_succ,List.filter_append];cases hc:pvs R.length (lv R) k
   ·rw [cond_false,Af oM,Int.toNat_natCast,List.getElem?_replicate,if_pos hk,obs,l4 k hk,obs,Af oM,obs,Af oM];simp [hc]
   ·rw [cond_true,obs,Af oM];simp [hc]
  ·try dsimp only
   unfold Ij;rw [At oM,cond_false];rfl
 rw [l1,obs,l2,obs,l3,obs,Qw hp (Sx hb.1) (Nat.le_refl n) oM (Nat.le_trans Aik oM),obs]
def trV (m:List (List Int)) (n:Nat):List (List Int):=(List.range n).map fun j=>m.map fun x=>x.getD j 0
def unV (n k:Nat):List Int:=(List.replicate n 0).set k 1
def idV (n:Nat):List (List Int):=(List.range n).map (unV n)
theorem Am3 {k:Nat} (hk:k<n) (hn:n<=1000):Ki (n:Int) (k:Int)=some (unV n k):=by
 unfold Ki;rw [Re oM,obs,Bs oM,Int.toNat_natCast,Int.toNat_natCast,List.getElem?_replicate,if_pos hk,obs];rfl
theorem Ab6 (hn:n<=1000):Fl (n:Int)=some (idV n):=by
 unfold Fl
 have key:Aq (fun s_:Nat×List (List Int)=>Ee (n:Int) s_.1 s_.2) 4611686018427387904 (0,[])=some (idV n):=by
  refine A7 n (fun k=>(k,(List.range k).map (unV n))) oM _ rfl (fun k hk=>?_) ?_
  ·try dsimp only
   unfold Ee;rw [Au oM,cond_true,Am3 hk hn,obs,Af (by simp;omega),Af oM,List.range_succ,List.map_append];rfl
  ·try dsimp only
   unfold Ee;rw [At oM,cond_false];rfl
 rw [key,obs]
theorem Zn {k:Nat} (hp:2<=p):VecW p n (unV n k):=⟨by simp [unV],fun a ha=>by
 rcases List.mem_or_eq_of_mem_set ha with ha|rfl
 ·obtain rfl:=(List.mem_replicate.1 ha).2;omega
 ·omega⟩
theorem Aka {k j:Nat} (hk:k<n):(unV n k).getD j 0=if j=k then 1 else 0:=by
 unfold unV;rw [Tj (by simpa using hk)];by_cases e:k=j
 ·rw [if_pos e,if_pos e.symm]
 ·rw [if_neg e,if_neg (Ne.symm e),gDg,List.getElem?_replicate];split <;> rfl
def wiV (m:List (List Int)) (n:Nat):List (List Int):=(List.range n).map fun j=>(m.map fun x=>x.getD j 0)++unV n j
theorem And (hp:isF p=true) (hm:MatW p n m) (hn:n<=1000) (hl:m.length<=1000):Jg p (trV m n) (m.length:Int)=some (Nf p n m):=by
 have hb:=Cu hp;have hwl:(wiV m n).length=n:=by simp [wiV]
 have hcol:∀ j,VecW p m.length (m.map fun x=>x.getD j 0):=fun j=>⟨by simp,fun a ha=>by
  obtain ⟨x,hx,rfl⟩:=List.mem_map.1 ha;by_cases hj:j<n
  ·obtain ⟨q1,q2,_⟩:=Gl (hm x hx) hj;exact ⟨q1,q2⟩
  ·have:=(hm x hx).1;rw [gDg,List.getElem?_eq_none oM];simp;omega⟩
 have hW:MatW p (m.length+n) (wiV m n):=fun x hx=>by
  obtain ⟨j,_,rfl⟩:=List.mem_map.1 hx;refine ⟨by rw [List.length_append,(hcol j).1,(Zn (k:=j) (n:=n) hb.1).1],fun a ha=>?_⟩;rcases List.mem_append.1 ha with ha|ha
  ·exact (hcol j).2 a ha
  ·exact (Zn hb.1).2 a ha
 have e1:rdW m.length (wiV m n)=trV m n:=by
  unfold rdW wiV trV;rw [List.map_map];exact List.map_congr_left fun j _=>List.take_left' (by simp)
 have e2:alW m.length (wiV m n)=idV n:=by
  unfold alW wiV idV;rw [List.map_map];exact List.map_congr_left fun j _=>List.drop_left' (by simp)
 obtain ⟨g1,g2,g3⟩:=Ls hb.1 hW m.length;have hred:=Yi hp hW (Nat.le_refl m.length) (show m.length<=m.length+n by omega) oM oM;rw [e1,e2] at hred
 have hmat:MatW p n (((gjT p (wiV m n) m.length).2.drop (gjT p (wiV m n) m.length).1).map (·.drop m.length)):=fun x hx=>by
  obtain ⟨y,hy,rfl⟩:=List.mem_map.1 hx;have:=(g1 y (List.mem_of_mem_drop hy)).dr (u:=m.length)
  rwa [Nat.add_sub_cancel_left] at this
 have hdr:(alW m.length (gjT p (wiV m n) m.length).2).drop (gjT p (wiV m n) m.length).1=((gjT p (wiV m n) m.length).2.drop (gjT p (wiV m n) m.length).1).map (·.drop m.length):=by
  unfold alW;rw [List.map_drop]
 have htm:MatW p m.length (trV m n):=fun x hx=>by
  obtain ⟨j,_,rfl⟩:=List.mem_map.1 hx;exact hcol j
 have htl:(trV m n).length=n:=by simp [trV]
 have hil:(idV n).length=n:=by simp [idV]
 have key:gj p n (((gjT p (wiV m n) m.length).2.drop (gjT p (wiV m n) m.length).1).map (·.drop m.length))=Nf p n m:=by
  refine As7 hb.1 (Abu hp) hmat (Sx hb.1) fun f=>?_
  refine (Anw (A:=m) hb.1 (Abu hp) hW hwl rfl (fun t ht i hi=>?_) fun t ht j hj=>?_).trans (Aru hp hm).symm
  ·unfold en;have h1:(wiV m n)[t]? =some ((m.map fun x=>x.getD t 0)++unV n t):=by simp [wiV,ht]
   rw [Bj h1,gDg,List.getElem?_append_left (by simpa using hi),List.getElem?_map,gEg hi,Bj (m:=m) (gEg hi)];rfl
  ·unfold en;have h1:(wiV m n)[t]? =some ((m.map fun x=>x.getD t 0)++unV n t):=by simp [wiV,ht]
   rw [Bj h1,gDg,List.getElem?_append_right (by simp),List.length_map,Nat.add_sub_cancel_left,← gDg,Aka ht]
 unfold Jg;rw [Aif htm oM oM,obs,htl,Ab6 hn,obs,hred,obs];have a1:(rdW m.length (gjT p (wiV m n) m.length).2).length=n:=by simp only [rdW,List.length_map];omega
 have a2:(alW m.length (gjT p (wiV m n) m.length).2).length=(idV n).length:=by simp only [alW,List.length_map];omega
 dsimp only;rw [Af a1,Af a2,Af oM,hdr,W8 hp hmat oM (by simp;omega),obs,key]
theorem Axd (hm:MatW p n m):trV (trV m n) m.length=m:=by
 refine List.ext_getElem (by simp [trV]) fun i h1 h2=>?_
 have hx:=hm _ (List.getElem_mem h2);simp only [trV,List.getElem_map,List.getElem_range,List.map_map];refine List.ext_getElem (by simp [hx.1]) fun j h3 h4=>?_
 simp only [List.length_map,List.length_range] at h3;simp only [List.getElem_map,List.getElem_range,Function.comp_apply,gDg,List.getElem?_map,gEg h2,gEg h4,Option.map_some,Option.getD_some]
theorem Awr (hm:MatW p n m):MatW p m.length (trV m n):=fun x hx=>by
 obtain ⟨j,hj,rfl⟩:=List.mem_map.1 hx;refine ⟨by simp,fun a ha=>?_⟩;obtain ⟨y,hy,rfl⟩:=List.mem_map.1 ha;have:=Gl (hm y hy) (List.mem_range.1 hj);exact ⟨this.1,this.2.1⟩
theorem Arq:(trV m n).length=n:=by simp [trV]
theorem Aqw (hp:isF p=true) (hm:MatW p n m) (hn:n<=1000) (hl:m.length<=1000):Jg p m (n:Int)=some (Nf p m.length (trV m n)):=by
 have:=And (m:=trV m n) (n:=m.length) hp (Awr hm) hl (by rw [Arq];exact hn)
 rwa [Axd hm,Arq] at this
end
end
section
section
variable {p:Int} {la mi rb:Nat} {A B:List (List Int)}
theorem Alv {l r l' r':Int} {m m':List (List Int)} {n la:Nat} (hm:MatW p n m) (hl:m.length<=1000) (hla:(la:Int)=l') (hn:la<=n):Ba l r m l' r' m'=some (m.map (·.drop la)):=by
 subst hla;unfold Ba;rw [Dj m (·.drop la) [] oM (m.map (·.drop la)) (fun i x hx=>?_) ?_,obs]
 rotate_left
 ·have hi:=Ai hx;have hxl:=(hm x (List.mem_of_getElem? hx)).1
  try dsimp only
  unfold Bk Bf;rw [Au oM,cond_true,hx,obs,Af oM,obs];simp only [Int.toNat_natCast];rw [Af (by simp;omega),Af oM]
 ·try dsimp only
  unfold Bk;rw [At oM,cond_false,List.nil_append]
theorem Als {l r l' r':Int} {m m':List (List Int)} {n la:Nat} (hm:MatW p n m) (hl:m.length<=1000) (hla:(la:Int)=l') (hn:la<=n):Bb l r m l' r' m'=some (m.map (·.take la)):=by
 subst hla;unfold Bb;rw [Dj m (·.take la) [] oM (m.map (·.take la)) (fun i x hx=>?_) ?_,obs]
 rotate_left
 ·have hi:=Ai hx;have hxl:=(hm x (List.mem_of_getElem? hx)).1
  try dsimp only
  unfold Bn Bh;rw [Au oM,cond_true,hx,obs,Af oM,obs];simp only [Int.toNat_natCast];rw [Af (by simp;omega),Af oM]
 ·try dsimp only
  unfold Bn;rw [At oM,cond_false,List.nil_append]
def R1 (p:Int) (x:List Int):List Int:=x.map fun a=>(p - a) % p
theorem Amq {x:List Int} {n:Nat} (hp:2<=p) (h:x.length=n):VecW p n (R1 p x):=⟨by simp [R1,h],fun a ha=>by obtain ⟨b,_,rfl⟩:=List.mem_map.1 ha;exact Se hp⟩
theorem Ap6 {x:List Int} {n:Nat} (hp:2<=p/\p<=97) (hx:VecW p n x) (hn:n<=1000):Cc p (List.replicate n 0) (-1) x=some (R1 p x):=by
 have hl:=hx.1;unfold Cc;refine Wn (x:=List.replicate n 0) (y:=R1 p x) (by simp [R1];omega) (by simp;omega) (fun j hj z hz=>?_) ?_
 ·rw [List.length_replicate] at hj;have h1:=Ox hx (j:=j) oM
  try dsimp only
  unfold Cs;rw [Au oM,cond_true,gEg (show j<x.length by omega),obs,hz,obs];simp only [List.getElem_replicate];rw [A4 (n:= -1*x[j]) oM oM,A4 oM oM,Aqe hp,obs,Af oM]
  have e:(0+ -1*x[j]) % p=(R1 p x)[j]'(by simp [R1];omega):=by
   simp only [R1,List.getElem_map];rw [show (0+ -1*x[j])= -x[j] by omega,show p - x[j]= -x[j]+p by omega,Int.add_emod_right]
  rw [e]
 ·try dsimp only
  unfold Cs;rw [List.length_replicate] at *;rw [At oM,cond_false]
theorem Ari {x v:List Int} {f:Int} {n:Nat} (hp:2<=p/\p<=97) (hx:VecW p n x) (hv:VecW p n v) (hn:n<=1000) (hf:0<=f/\f<p):Cc p x f v=some (List.zipWith (fun a b=>(a+f*b) % p) x v):=by
 have hl:=hx.1;have hl':=hv.1;unfold Cc;refine Wn (y:=List.zipWith (fun a b=>(a+f*b) % p) x v) (by simp;omega) oM (fun j hj z hz=>?_) ?_
 ·have h1:=Ox hx hj;have h2:=Ox hv (j:=j) oM;have h3:=Abp hp hf h2
  try dsimp only
  unfold Cs;rw [Au oM,cond_true,gEg (show j<v.length by omega),obs,hz,obs,A4 (n:=f*v[j]) oM oM,A4 oM oM,Aqe hp,obs,Af oM,List.getElem_zipWith]
 ·try dsimp only
  unfold Cs;rw [At oM,cond_false]
theorem Aeq {m:List (List Int)} {c:List Int} {n:Nat} (hp:2<=p/\p<=97) (hm:MatW p n m) (hc:VecW p m.length c) (hn:n<=1000) (hl:m.length<=1000):H1 p c m (n:Int)=some (spV p n m c m.length):=by
 unfold H1;rw [Re oM,obs,Int.toNat_natCast];rw [A7 (s0:=(0,List.replicate n 0)) m.length (fun i=>(i,spV p n m c i)) oM (spV p n m c m.length) rfl (fun i hi=>?_) ?_,obs]
 rotate_left
 ·have h1:=Og (c:=c) hp.1 hm i oM;have h3:=Og (c:=c) hp.1 hm (i+1) oM;have h2:=hm _ (List.getElem_mem hi);have hcc:=hc.1;have hci:=Ox hc (j:=i) oM
  try dsimp only
  unfold K4;rw [Au oM,cond_true,gEg hi,obs,gEg (show i<c.length by omega),obs,Ari hp h1 h2 hn hci,obs]
  have e:List.zipWith (fun a b=>(a+c[i]'oM*b) % p) (spV p n m c i) m[i]=spV p n m c (i+1):=by
   simp only [spV,Bj (gEg (show i<c.length by omega)),Bj (m:=m) (gEg hi)]
  rw [e,Af (by rw [h1.1,h3.1]),Af oM]
 ·try dsimp only
  unfold K4;rw [At oM,cond_false]
theorem Al9 {m:List (List Int)} {c:List Int} {n k:Nat} (hk:k<=n):∀ i,(spV p n m c i).take k=spV p k (m.map (·.take k)) c i
 | 0=>by simp [spV,List.take_replicate,Nat.min_eq_left hk]
 | i+1=>by simp only [spV,List.take_zipWith,Al9 hk i,R4 (f:=fun x:List Int=>x.take k) (by simp)]
theorem Ame {m:List (List Int)} {c:List Int} {n k:Nat}:∀ i,(spV p n m c i).drop k=spV p (n - k) (m.map (·.drop k)) c i
 | 0=>by simp [spV]
 | i+1=>by simp only [spV,List.drop_zipWith,Ame i,R4 (f:=fun x:List Int=>x.drop k) (by simp)]
theorem Aio (xs:List (List Int)) (h:xs.length<=100) (hl:∀ k,((xs.take k).flatten).length<=100000):C3 xs=some xs.flatten:=by
 unfold C3;rw [A7 (s0:=(0,[])) xs.length (fun i=>(i,(xs.take i).flatten)) oM xs.flatten rfl (fun i hi=>?_) ?_,obs]
 rotate_left
 ·have hx:=gEg hi;have h2:=hl (i+1);rw [List.take_add_one,hx,List.flatten_append,List.length_append] at h2;simp only [Option.toList,List.flatten_cons,List.flatten_nil,List.append_nil] at h2
  try dsimp only
  unfold Lx;rw [Au oM,cond_true,hx,obs,Af oM,Af oM,List.take_add_one,hx,List.flatten_append];simp
 ·try dsimp only
  unfold Lx;rw [At oM,cond_false,List.take_length]
theorem Ad6 (x y:List Int) (h:x.length+y.length<=100000):C3 [x,y]=some (x++y):=by
 rw [Aio _ (by simp) (fun k=>?_)]
 ·simp
 ·have h1:((([x,y].take k).flatten).length)<=(([x,y]:List (List Int)).flatten).length:=by
   conv=>rhs;rw [← List.take_append_drop k [x,y],List.flatten_append,List.length_append]
   omega
  simp only [List.flatten_cons,List.flatten_nil,List.length_append,List.length_nil] at h1;omega
def Xx (p:Int) (la mi:Nat) (A B:List (List Int)):List (List Int):=trV (A.map (·.drop la)++B.map fun x=>R1 p (x.take mi)) mi
def Agg (p:Int) (la mi rb:Nat) (A B:List (List Int)) (c:List Int):List Int:=spV p la (A.map (·.take la)) (c.take A.length) A.length++spV p rb (B.map (·.drop mi)) (c.drop A.length) B.length
def Avj (p:Int) (la mi rb:Nat) (A B:List (List Int)):List (List Int):=gj p (la+rb) ((Nf p (A.length+B.length) (Xx p la mi A B)).map (Agg p la mi rb A B))
theorem At2 (hp:2<=p) (hA:MatW p (la+mi) A) (hB:MatW p (mi+rb) B):MatW p mi (A.map (·.drop la)++B.map fun x=>R1 p (x.take mi)):=by
 intro x hx;rcases List.mem_append.1 hx with h|h
 ·have:=(MatW.dr (u:=la) hA) x h
  rwa [Nat.add_sub_cancel_left] at this
 ·obtain ⟨y,hy,rfl⟩:=List.mem_map.1 h;exact Amq hp (by rw [List.length_take,(hB y hy).1];omega)
theorem Afa {n:Nat} {m:List (List Int)} (hp:2<=p):MatW p n (Nf p n m):=S8 hp (Sx hp)
theorem Afh {n:Nat} {m:List (List Int)} (hp:2<=p):(Nf p n m).length<=n:=by
 unfold Nf;have h:=Ls (p:=p) hp (Sx (n:=n) (R:=gj p n m) hp) n;rw [Agp hp (Sx hp)];exact Nat.le_trans h.2.1 (by rw [h.2.2];exact Aik)
theorem N9 {l r:Nat} {m:List (List Int)} (hp:isF p=true) (hm:MatW p (l+r) m) (hw:l+r<=1000) (hl:m.length<=100000):Bu p (l:Int) (r:Int) m=some (gj p (l+r) m):=by
 unfold Bu;rw [A4 oM oM,show ((l:Int)+(r:Int))=((l+r:Nat):Int) by omega,W8 hp hm oM hl,obs]
theorem Agn {l r:Nat} {m:List (List Int)} (hp:isF p=true) (hm:MatW p (l+r) m) (hw:l+r<=1000) (hl:m.length<=100000):Km p (l:Int) (r:Int) m=some ((l:Int),(r:Int),gj p (l+r) m):=by
 unfold Km;rw [A4 oM oM,show ((l:Int)+(r:Int))=((l+r:Nat):Int) by omega,Qw hp hm (Nat.le_refl _) oM hl,obs]
theorem Ajk {c:List Int} (hp:2<=p) (hA:MatW p (la+mi) A) (hB:MatW p (mi+rb) B):VecW p (la+rb) (Agg p la mi rb A B c):=by
 have h1:=Og (c:=c.take A.length) hp (MatW.tk hA (Nat.le_add_right la mi)) (A.map (·.take la)).length (Nat.le_refl _);have h2:=Og (c:=c.drop A.length) hp (MatW.dr (u:=mi) hB) (B.map (·.drop mi)).length (Nat.le_refl _);rw [Nat.add_sub_cancel_left] at h2;rw [List.length_map] at h1 h2;refine ⟨by unfold Agg;rw [List.length_append,h1.1,h2.1],fun a ha=>?_⟩;rcases List.mem_append.1 ha with h|h
 ·exact h1.2 a h
 ·exact h2.2 a h
theorem Akn (hp:isF p=true) (hA:MatW p (la+mi) A) (hB:MatW p (mi+rb) B) (hla:la+mi<=100) (hrb:mi+rb<=100) (lA:A.length<=100) (lB:B.length<=100) :
  Jx p (la:Int) (mi:Int) A (mi:Int) (rb:Int) B=some (Avj p la mi rb A B):=by
 have hb:=Cu hp;have hM:=At2 hb.1 hA hB;unfold Jx;rw [Alv hA oM rfl oM,obs,Als hB oM rfl oM,obs];rw [Dj (B.map (·.take mi)) (R1 p) (A.map (·.drop la)) (by rw [List.length_map];omega) (A.map (·.drop la)++B.map fun x=>R1 p (x.take mi)) (fun i x hx=>?_) ?_,obs]
 ·rw [Als hA oM rfl oM,obs,Alv hB oM rfl oM,obs,Aqw hp hM oM (by simp;omega),obs];have hN:=Afa (p:=p) (n:=A.length+B.length) (m:=Xx p la mi A B) hb.1;have hNl:=Afh (p:=p) (n:=A.length+B.length) (m:=Xx p la mi A B) hb.1
  have e0:Nf p (A.map (·.drop la)++B.map fun x=>R1 p (x.take mi)).length (trV (A.map (·.drop la)++B.map fun x=>R1 p (x.take mi)) mi)=Nf p (A.length+B.length) (Xx p la mi A B):=by
   rw [List.length_append,List.length_map,List.length_map];rfl
  rw [e0];rw [Dj (Nf p (A.length+B.length) (Xx p la mi A B)) (Agg p la mi rb A B) [] oM ((Nf p (A.length+B.length) (Xx p la mi A B)).map (Agg p la mi rb A B)) (fun i x hx=>?_) ?_,obs,N9 hp (fun y hy=>by obtain ⟨c,_,rfl⟩:=List.mem_map.1 hy;exact Ajk hb.1 hA hB) oM (by rw [List.length_map];omega),obs]
  ·rfl
  rotate_left
  ·have hi:=Ai hx;have hxv:=hN x (List.mem_of_getElem? hx);have hxl:=hxv.1;have hF:=MatW.tk hA (Nat.le_add_right la mi);have hS:=MatW.dr (u:=mi) hB;rw [Nat.add_sub_cancel_left] at hS;have h1:=Og (c:=x.take A.length) hb.1 hF (A.map (·.take la)).length (Nat.le_refl _);have h2:=Og (c:=x.drop A.length) hb.1 hS (B.map (·.drop mi)).length (Nat.le_refl _)
   try dsimp only
   unfold J3;rw [Au oM,cond_true,hx,obs,List.length_map,Af oM];rw [Aeq hb hF (by rw [List.length_map];exact hxv.tk oM) oM (by rw [List.length_map];omega),obs,Af oM];rw [Aeq hb hS (by rw [List.length_map];have:=hxv.dr (u:=A.length);rwa [Nat.add_sub_cancel_left] at this) oM (by rw [List.length_map];omega),obs];rw [Ad6 _ _ (by rw [h1.1,h2.1];omega),obs,Af (by simp;omega),Af oM];simp only [List.length_map,Agg]
  ·try dsimp only
   unfold J3;rw [At oM,cond_false,List.nil_append]
 rotate_left
 ·have hi:=Ai hx;rw [List.length_map] at hi;have hxv:=(MatW.tk hB (Nat.le_add_right mi rb)) x (List.mem_of_getElem? hx);have hn:=(Amq (p:=p) hb.1 hxv.1).1
  try dsimp only
  unfold Kb;rw [List.length_map,Au oM,cond_true,hx,obs,hxv.1,Re oM,obs,Int.toNat_natCast,Ap6 hb hxv oM,obs,Af (by rw [List.length_replicate,hn]),Af (by simp;omega),Af oM]
 ·try dsimp only
  unfold Kb;rw [List.length_map,At oM,cond_false,List.map_map];rfl
end
end
section
section
variable {p:Int} {la mi rb:Nat} {A B:List (List Int)}
def Ac7 (p:Int) (la:Nat) (A B:List (List Int)) (j:Nat):List Int:=(A.map fun x=>x.getD (la+j) 0)++B.map fun x=>(p - x.getD j 0) % p
theorem Apn {x:List Int} {j:Nat} (h:j<x.length):(R1 p x).getD j 0=(p - x.getD j 0) % p:=by
 unfold R1;rw [gDg,List.getElem?_map,gDg,gEg h];rfl
theorem Ao9 (hA:MatW p (la+mi) A) (hB:MatW p (mi+rb) B):Xx p la mi A B=(List.range mi).map (Ac7 p la A B):=by
 unfold Xx trV;refine List.map_congr_left fun j hj=>?_
 have hj:=List.mem_range.1 hj;unfold Ac7;rw [List.map_append,List.map_map,List.map_map];congr 1
 ·refine List.map_congr_left fun x _=>?_
  show (x.drop la).getD j 0=_;rw [gDg,gDg,List.getElem?_drop]
 ·refine List.map_congr_left fun x hx=>?_
  have hxl:=(hB x hx).1;show (R1 p (x.take mi)).getD j 0=_;rw [Apn (by rw [List.length_take];omega),gDg,List.getElem?_take,if_pos hj,← gDg]
theorem Wv {α:Type} {R:List α} {j:Nat} {x y:α}:(R.set j x).set j y=R.set j y:=List.set_set ..
theorem Awf {R:List (List Int)} {j:Nat} (hA:MatW p (la+mi) A) (hj:j<mi) (hR:R[j]? =some []) (hla:la+mi<=100) (lA:A.length<=100) :
  Aq (fun s_:Nat×List (List Int)=>Fo A j (la:Int) s_.1 s_.2) 4611686018427387904 (0,R)=some (R.set j (A.map fun x=>x.getD (la+j) 0)):=by
 have hjl:j<R.length:=Ai hR;refine A7 A.length (fun i=>(i,R.set j ((A.take i).map fun x=>x.getD (la+j) 0))) oM _ ?_ (fun i hi=>?_) ?_
 ·have:R.set j []=R:=by
   have e:=(gSi.1 hR)
   obtain ⟨h1,h2⟩:=e
   conv=>lhs;rw [← h2]
   exact List.set_getElem_self h1
  simp [this]
 ·have hx:=gEg hi;have hxv:=hA _ (List.getElem_mem hi);have hg:=Gl hxv (j:=la+j) oM
  try dsimp only
  unfold Fo;rw [Au oM,cond_true,hx,obs,List.getElem?_set_self hjl,obs,A4 oM oM,Bs oM,show ((la:Int)+(j:Int)).toNat=la+j by omega,hg.2.2,obs,Af (by simp;omega),Af oM,Wv,List.take_add_one,hx,List.map_append];rfl
 ·try dsimp only
  unfold Fo;rw [At oM,cond_false,List.take_length]
theorem Avz {R:List (List Int)} {j:Nat} {x0:List Int} (hp:2<=p/\p<=97) (hB:MatW p (mi+rb) B) (hj:j<mi) (hR:R[j]? =some x0) (h0:x0.length<=1000) (lB:B.length<=100) :
  Aq (fun s_:Nat×List (List Int)=>Fk B j p s_.1 s_.2) 4611686018427387904 (0,R)=some (R.set j (x0++B.map fun x=>(p - x.getD j 0) % p)):=by
 have hjl:j<R.length:=Ai hR;refine A7 B.length (fun i=>(i,R.set j (x0++(B.take i).map fun x=>(p - x.getD j 0) % p))) oM _ ?_ (fun i hi=>?_) ?_
 ·have:R.set j x0=R:=by
   obtain ⟨h1,h2⟩:=(gSi.1 hR)
   conv=>lhs;rw [← h2]
   exact List.set_getElem_self h1
  simp [this]
 ·have hx:=gEg hi;have hxv:=hB _ (List.getElem_mem hi);have hg:=Gl hxv (j:=j) oM
  try dsimp only
  unfold Fk;rw [Au oM,cond_true,hx,obs,List.getElem?_set_self hjl,obs,hg.2.2,obs,Zm hp ⟨hg.1,hg.2.1⟩,obs,Af (by simp;omega),Af oM,Wv,List.take_add_one,hx,List.map_append,← List.append_assoc];rfl
 ·try dsimp only
  unfold Fk;rw [At oM,cond_false,List.take_length]
theorem Ahc (hp:isF p=true) (hA:MatW p (la+mi) A) (hB:MatW p (mi+rb) B) (hla:la+mi<=100) (hrb:mi+rb<=100) (lA:A.length<=100) (lB:B.length<=100) {x:Int} :
  F7 p (la:Int) (mi:Int) A x (rb:Int) B=some ((la:Int),(rb:Int),Avj p la mi rb A B):=by
 have hb:=Cu hp;unfold F7;rw [Af oM,Int.toNat_natCast];rw [A7 (s0:=(0,List.replicate mi [])) mi (fun j=>(j,((List.range mi).map (Ac7 p la A B)).take j++List.replicate (mi - j) [])) oM ((List.range mi).map (Ac7 p la A B)) (by simp) (fun j hj=>?_) ?_,obs]
 ·rw [A4 oM oM,show ((A.length:Nat):Int)+((B.length:Nat):Int)=((A.length+B.length:Nat):Int) by omega]
  have hmm:MatW p (A.length+B.length) ((List.range mi).map (Ac7 p la A B)):=fun y hy=>by
   obtain ⟨j,hj,rfl⟩:=List.mem_map.1 hy;have hj:=List.mem_range.1 hj;refine ⟨by simp [Ac7],fun a ha=>?_⟩;rcases List.mem_append.1 ha with h|h
   ·obtain ⟨x,hx,rfl⟩:=List.mem_map.1 h;have:=Gl (hA x hx) (j:=la+j) oM;exact ⟨this.1,this.2.1⟩
   ·obtain ⟨x,hx,rfl⟩:=List.mem_map.1 h;exact Se hb.1
  rw [Abx hp hmm oM (by simp;omega),obs,← Ao9 hA hB];have hN:=Afa (p:=p) (n:=A.length+B.length) (m:=Xx p la mi A B) hb.1;have hNl:=Afh (p:=p) (n:=A.length+B.length) (m:=Xx p la mi A B) hb.1;rw [Dj (Nf p (A.length+B.length) (Xx p la mi A B)) (Agg p la mi rb A B) [] oM ((Nf p (A.length+B.length) (Xx p la mi A B)).map (Agg p la mi rb A B)) (fun i x hx=>?_) ?_,obs,Agn hp (fun y hy=>by obtain ⟨c,_,rfl⟩:=List.mem_map.1 hy;exact Ajk hb.1 hA hB) oM (by rw [List.length_map];omega),obs]
  ·rfl
  rotate_left
  ·have hi:=Ai hx;have hxv:=hN x (List.mem_of_getElem? hx);have hxl:=hxv.1;have h1:=Og (c:=x.take A.length) hb.1 hA A.length (Nat.le_refl _);have h2:=Og (c:=x.drop A.length) hb.1 hB B.length (Nat.le_refl _)
   try dsimp only
   unfold I4;rw [Au oM,cond_true,hx,obs,Af oM,A4 (n:=(la:Int)+(mi:Int)) oM oM,show ((la:Int)+(mi:Int))=((la+mi:Nat):Int) by omega];rw [Ami hb hA (hxv.tk oM) oM oM,obs,Af oM,A4 (n:=(mi:Int)+(rb:Int)) oM oM,show ((mi:Int)+(rb:Int))=((mi+rb:Nat):Int) by omega];rw [Ami hb hB (by have:=hxv.dr (u:=A.length);rwa [Nat.add_sub_cancel_left] at this) oM oM,obs,h1.1,h2.1,Af oM,Int.toNat_natCast,Int.toNat_natCast,Vh _ (by rw [List.length_take,h1.1];omega),obs,Af oM];have e1:(spV p (la+mi) A (x.take A.length) A.length).take la=spV p la (A.map (·.take la)) (x.take A.length) A.length:=Al9 oM _
   have e2:((spV p (mi+rb) B (x.drop A.length) B.length).drop mi).take ((((mi+rb:Nat):Int) - (mi:Int)).toNat)=spV p rb (B.map (·.drop mi)) (x.drop A.length) B.length:=by
    rw [List.take_of_length_le (by rw [List.length_drop,h2.1];omega),Ame,Nat.add_sub_cancel_left]
   have l1:(spV p la (A.map (·.take la)) (x.take A.length) A.length).length=la:=by rw [← e1,List.length_take,h1.1];omega
   have l2:(spV p rb (B.map (·.drop mi)) (x.drop A.length) B.length).length=rb:=by rw [← e2,List.length_take,List.length_drop,h2.1];omega
   rw [e1,e2,l1,l2,Af oM,Af (by simp;omega),Af oM];rfl
  ·try dsimp only
   unfold I4;rw [At oM,cond_false,List.nil_append]
 rotate_left
 ·have hr:((List.range mi).map (Ac7 p la A B)).length=mi:=by simp
  have hg:(((List.range mi).map (Ac7 p la A B)).take j++List.replicate (mi - j) [])[j]? =some []:=by
   rw [List.getElem?_append_right (by rw [List.length_take,hr];omega),List.length_take,hr,Nat.min_eq_left oM,Nat.sub_self,List.getElem?_replicate,if_pos oM]
  have hjl:=Ai hg
  try dsimp only
  unfold I7;rw [Int.toNat_natCast,Au oM,cond_true,Awf hA hj hg hla lA,obs,Avz (x0:=A.map fun x=>x.getD (la+j) 0) hb hB hj (List.getElem?_set_self hjl) (by rw [List.length_map];omega) lB,obs,Af oM,Wv]
  have e:(((List.range mi).map (Ac7 p la A B)).take j++List.replicate (mi - j) []).set j (Ac7 p la A B j)=((List.range mi).map (Ac7 p la A B)).take (j+1)++List.replicate (mi - (j+1)) []:=by
   rw [List.set_append_right _ _ (by rw [List.length_take,hr];omega),List.length_take,hr,Nat.min_eq_left oM,Nat.sub_self,show mi - j=(mi - (j+1))+1 by omega,List.replicate_succ,List.set_cons_zero,List.take_add_one,List.getElem?_map,List.getElem?_range hj];simp
  rw [← e];rfl
 ·try dsimp only
  unfold I7;rw [Int.toNat_natCast,At oM,cond_false,Nat.sub_self,List.replicate_zero,List.append_nil,List.take_of_length_le (by simp)]
end
end
section
theorem Aeo (a b c d:List Int) (h:a.length+b.length+c.length+d.length<=100000):C3 [a,b,c,d]=some (a++(b++(c++d))):=by
 rw [Aio _ (by simp) (fun k=>?_)]
 ·simp
 ·have h1:((([a,b,c,d].take k).flatten).length)<=(([a,b,c,d]:List (List Int)).flatten).length:=by
   conv=>rhs;rw [← List.take_append_drop k [a,b,c,d],List.flatten_append,List.length_append]
   omega
  simp only [List.flatten_cons,List.flatten_nil,List.length_append,List.length_nil] at h1;omega
section
variable {p:Int} {la ra lb rb:Nat} {A B:List (List Int)}
def Sd (la lb rb:Nat) (x:List Int):List Int:=x.take la++(List.replicate lb 0++(x.drop la++List.replicate rb 0))
def Ue (la ra lb:Nat) (x:List Int):List Int:=List.replicate la 0++(x.take lb++(List.replicate ra 0++x.drop lb))
def Awm (p:Int) (la ra lb rb:Nat) (A B:List (List Int)):List (List Int):=gj p ((la+lb)+(ra+rb)) (A.map (Sd la lb rb)++B.map (Ue la ra lb))
theorem Zy {n:Nat} (hp:2<=p):inV p (List.replicate n 0):=fun a ha=>by obtain rfl:=(List.mem_replicate.1 ha).2;omega
theorem Aoz {x:List Int} (hp:2<=p) (hx:VecW p (la+ra) x):VecW p ((la+lb)+(ra+rb)) (Sd la lb rb x):=by
 refine ⟨by simp [Sd,hx.1];omega,fun a ha=>?_⟩;simp only [Sd,List.mem_append] at ha;rcases ha with h|h|h|h
 ·exact hx.2 a (List.mem_of_mem_take h)
 ·exact Zy hp a h
 ·exact hx.2 a (List.mem_of_mem_drop h)
 ·exact Zy hp a h
theorem Aq3 {x:List Int} (hp:2<=p) (hx:VecW p (lb+rb) x):VecW p ((la+lb)+(ra+rb)) (Ue la ra lb x):=by
 refine ⟨by simp [Ue,hx.1];omega,fun a ha=>?_⟩;simp only [Ue,List.mem_append] at ha;rcases ha with h|h|h|h
 ·exact Zy hp a h
 ·exact hx.2 a (List.mem_of_mem_take h)
 ·exact Zy hp a h
 ·exact hx.2 a (List.mem_of_mem_drop h)
theorem Afi (hp:2<=p) (hA:MatW p (la+ra) A) (hB:MatW p (lb+rb) B):MatW p ((la+lb)+(ra+rb)) (A.map (Sd la lb rb)++B.map (Ue la ra lb)):=by
 intro x hx;rcases List.mem_append.1 hx with h|h
 ·obtain ⟨y,hy,rfl⟩:=List.mem_map.1 h;exact Aoz hp (hA y hy)
 ·obtain ⟨y,hy,rfl⟩:=List.mem_map.1 h;exact Aq3 hp (hB y hy)
theorem Asg (hp:isF p=true) (hA:MatW p (la+ra) A) (hB:MatW p (lb+rb) B) (hla:la+ra<=100) (hlb:lb+rb<=100) (lA:A.length<=100) (lB:B.length<=100) :
  Mn p (la:Int) (ra:Int) A (lb:Int) (rb:Int) B=some (Awm p la ra lb rb A B):=by
 have hb:=Cu hp
 have e1:Bm (la:Int) (ra:Int) A (la:Int) (ra:Int) A (lb:Int) (rb:Int) B=some (A.map (Sd la lb rb)):=by
  unfold Bm;rw [Dj A (Sd la lb rb) [] oM (A.map (Sd la lb rb)) (fun i x hx=>?_) ?_,obs]
  rotate_left
  ·have hi:=Ai hx;have hxv:=hA x (List.mem_of_getElem? hx);have hxl:=hxv.1
   try dsimp only
   unfold B0 Nj Bh Bf;rw [Au oM,cond_true,hx,obs,Af oM,obs,Re oM,obs,Af oM,obs,Re oM,obs];simp only [Int.toNat_natCast];rw [Aeo _ _ _ _ (by simp;omega),obs,obs,Af (by simp;omega),Af oM];rfl
  ·try dsimp only
   unfold B0;rw [At oM,cond_false,List.nil_append]
 have e2:Bl (lb:Int) (rb:Int) B (la:Int) (ra:Int) A (lb:Int) (rb:Int) B=some (B.map (Ue la ra lb)):=by
  unfold Bl;rw [Dj B (Ue la ra lb) [] oM (B.map (Ue la ra lb)) (fun i x hx=>?_) ?_,obs]
  rotate_left
  ·have hi:=Ai hx;have hxv:=hB x (List.mem_of_getElem? hx);have hxl:=hxv.1
   try dsimp only
   unfold B3 M8 Bh Bf;rw [Au oM,cond_true,hx,obs,Re oM,obs,Af oM,obs,Re oM,obs,Af oM,obs];simp only [Int.toNat_natCast];rw [Aeo _ _ _ _ (by simp;omega),obs,obs,Af (by simp;omega),Af oM];rfl
  ·try dsimp only
   unfold B3;rw [At oM,cond_false,List.nil_append]
 unfold Mn;rw [e1,obs,e2,obs,Af (by simp;omega),A4 oM oM,A4 oM oM,show ((la:Int)+(lb:Int))=((la+lb:Nat):Int) by omega,show ((ra:Int)+(rb:Int))=((ra+rb:Nat):Int) by omega];rw [N9 hp (Afi hb.1 hA hB) oM (by simp;omega),obs];rfl
def plc (pos:Nat->Nat) (x:List Int) (n:Nat):Nat->List Int
 | 0=>List.replicate n 0
 | i+1=>(plc pos x n i).set (pos i) (x.getD i 0)
theorem V0 {pos:Nat->Nat} {x:List Int} {n:Nat}:∀ i,(plc pos x n i).length=n
 | 0=>by simp [plc]
 | i+1=>by rw [plc,List.length_set];exact V0 i
theorem Amk {pos:Nat->Nat} {x:List Int} {n k:Nat} (hn:∀ j,j<k->pos j<n) (hi:∀ i j,i<k->j<k->pos i=pos j->i=j):∀ i,i<=k->∀ j,j<i->(plc pos x n i)[pos j]? =some (x.getD j 0)
 | 0,_,j,h=>absurd h oM
 | i+1,hk,j,h=>by
  rw [plc];by_cases e:j=i
  ·subst e;exact List.getElem?_set_self (by rw [V0];exact hn j oM)
  ·rw [List.getElem?_set_ne (fun h2=>e (hi j i oM oM h2.symm))];exact Amk hn hi i oM j oM
theorem Ai3 {pos:Nat->Nat} {x:List Int} {n q:Nat} (hq:q<n):∀ i,(∀ j,j<i->pos j≠q)->(plc pos x n i)[q]? =some 0
 | 0,_=>by rw [plc,List.getElem?_replicate,if_pos hq]
 | i+1,h=>by
  rw [plc,List.getElem?_set_ne (h i oM)];exact Ai3 hq i fun j hj=>h j oM
theorem Amd {pos:Nat->Nat} {x T:List Int} {n k:Nat} (hn:∀ j,j<k->pos j<n) (hi:∀ i j,i<k->j<k->pos i=pos j->i=j) (hT:T.length=n) (h1:∀ j,j<k->T[pos j]? =some (x.getD j 0)) (h0:∀ q,q<n->(∀ j,j<k->pos j≠q)->T[q]? =some 0):plc pos x n k=T:=by
 refine List.ext_getElem? fun q=>?_
 by_cases hq:q<n
 ·by_cases he:∃ j,j<k/\pos j=q
  ·obtain ⟨j,hj,rfl⟩:=he;rw [Amk hn hi k (Nat.le_refl _) j hj,h1 j hj]
  ·have hm:∀ j,j<k->pos j≠q:=fun j hj e=>he ⟨j,hj,e⟩
   rw [Ai3 hq k hm,h0 q hq hm]
 ·rw [List.getElem?_eq_none (by rw [V0];omega),List.getElem?_eq_none oM]
theorem Zr {x:List Int} {j:Nat} (h:j<x.length):x[j]? =some (x.getD j 0):=by rw [gDg,gEg h];rfl
theorem Axo {x:List Int} (hx:x.length=la+ra):plc (fun j=>if j<la then j else lb+j) x ((la+lb)+(ra+rb)) (la+ra)=Sd la lb rb x:=by
 refine Amd (fun j hj=>?_) (fun i j hi hj h=>?_) (by simp [Sd,hx];omega) (fun j hj=>?_) (fun q hq hm=>?_)
 ·split <;> omega
 ·try dsimp only at h
  split at h <;> split at h <;> omega
 ·try dsimp only
  rw [← Zr oM];unfold Sd;split
  ·rw [List.getElem?_append_left (by rw [List.length_take];omega),List.getElem?_take,if_pos oM]
  ·rw [List.getElem?_append_right (by rw [List.length_take];omega),List.length_take,List.getElem?_append_right (by rw [List.length_replicate];omega),List.length_replicate,List.getElem?_append_left (by rw [List.length_drop];omega),List.getElem?_drop];congr 1;omega
 ·unfold Sd;by_cases h1:q<la
  ·exact absurd (if_pos h1) (hm q oM)
  by_cases h2:q<la+lb
  ·rw [List.getElem?_append_right (by rw [List.length_take];omega),List.length_take,List.getElem?_append_left (by rw [List.length_replicate];omega),List.getElem?_replicate,if_pos oM]
  by_cases h3:q<la+lb+ra
  ·refine absurd ?_ (hm (q - lb) oM)
   try dsimp only
   rw [if_neg oM];omega
  ·rw [List.getElem?_append_right (by rw [List.length_take];omega),List.length_take,List.getElem?_append_right (by rw [List.length_replicate];omega),List.length_replicate,List.getElem?_append_right (by rw [List.length_drop];omega),List.length_drop,List.getElem?_replicate,if_pos oM]
theorem Axp {x:List Int} (hx:x.length=lb+rb):plc (fun j=>if j<lb then la+j else la+ra+j) x ((la+lb)+(ra+rb)) (lb+rb)=Ue la ra lb x:=by
 refine Amd (fun j hj=>?_) (fun i j hi hj h=>?_) (by simp [Ue,hx];omega) (fun j hj=>?_) (fun q hq hm=>?_)
 ·split <;> omega
 ·try dsimp only at h
  split at h <;> split at h <;> omega
 ·try dsimp only
  rw [← Zr oM];unfold Ue;split
  ·rw [List.getElem?_append_right (by rw [List.length_replicate];omega),List.length_replicate,List.getElem?_append_left (by rw [List.length_take];omega),List.getElem?_take,if_pos oM];congr 1;omega
  ·rw [List.getElem?_append_right (by rw [List.length_replicate];omega),List.length_replicate,List.getElem?_append_right (by rw [List.length_take];omega),List.length_take,List.getElem?_append_right (by rw [List.length_replicate];omega),List.length_replicate,List.getElem?_drop];congr 1;omega
 ·unfold Ue;by_cases h1:q<la
  ·rw [List.getElem?_append_left (by rw [List.length_replicate];omega),List.getElem?_replicate,if_pos h1]
  by_cases h2:q<la+lb
  ·refine absurd ?_ (hm (q - la) oM)
   try dsimp only
   rw [if_pos oM];omega
  by_cases h3:q<la+lb+ra
  ·rw [List.getElem?_append_right (by rw [List.length_replicate];omega),List.length_replicate,List.getElem?_append_right (by rw [List.length_take];omega),List.length_take,List.getElem?_append_left (by rw [List.length_replicate];omega),List.getElem?_replicate,if_pos oM]
  ·refine absurd ?_ (hm (q - la - ra) oM)
   try dsimp only
   rw [if_neg oM];omega
theorem Ak1 (hp:isF p=true) (hA:MatW p (la+ra) A) (hB:MatW p (lb+rb) B) (hla:la+ra<=100) (hlb:lb+rb<=100) (lA:A.length<=100) (lB:B.length<=100) :
  Gw p (la:Int) (ra:Int) A (lb:Int) (rb:Int) B=some (((la+lb:Nat):Int),((ra+rb:Nat):Int),Awm p la ra lb rb A B):=by
 have hb:=Cu hp;have w1:wI ((la:Int)+(lb:Int))=((la+lb:Nat):Int):=by rw [A4 oM oM];omega
 have w2:wI ((ra:Int)+(rb:Int))=((ra+rb:Nat):Int):=by rw [A4 oM oM];omega
 have w3:wI (((la+lb:Nat):Int)+((ra+rb:Nat):Int))=(((la+lb)+(ra+rb):Nat):Int):=by rw [A4 oM oM];omega
 unfold Gw;rw [Dj A (Sd la lb rb) [] oM (A.map (Sd la lb rb)) (fun i x hx=>?_) ?_,obs]
 ·rw [Dj B (Ue la ra lb) (A.map (Sd la lb rb)) oM (A.map (Sd la lb rb)++B.map (Ue la ra lb)) (fun i x hx=>?_) ?_,obs,w1,w2,Agn hp (Afi hb.1 hA hB) oM (by simp;omega),obs]
  ·rfl
  rotate_left
  ·have hi:=Ai hx;have hxl:=(hB x (List.mem_of_getElem? hx)).1
   try dsimp only
   unfold J8;rw [Au oM,cond_true,hx,obs,w1,w2,w3,Af oM,Int.toNat_natCast];rw [A7 (s0:=(0,List.replicate ((la+lb)+(ra+rb)) 0)) x.length (fun j=>(j,plc (fun j=>if j<lb then la+j else la+ra+j) x ((la+lb)+(ra+rb)) j)) oM (Ue la ra lb x) rfl (fun j hj=>?_) ?_,obs,Af (by simp;omega),obs,Af oM]
   rotate_left
   ·have hlen:=V0 (pos:=fun j=>if j<lb then la+j else la+ra+j) (x:=x) (n:=(la+lb)+(ra+rb)) j
    try dsimp only
    unfold Kg;rw [Au oM,cond_true,Zr hj,obs,w1];by_cases h1:j<lb
    ·rw [Au oM,cond_true,A4 (n:=(la:Int)+(j:Int)) oM oM,Bs oM,show ((la:Int)+(j:Int)).toNat=la+j by omega,gEg oM,obs,obs,obs,Af oM,plc,if_pos h1]
    ·rw [At oM,cond_false,A4 (n:=((la+lb:Nat):Int)+(ra:Int)) oM oM,A4 (n:=((la+lb:Nat):Int)+(ra:Int)+(j:Int)) oM oM,A4 oM oM,Bs oM,show (((la+lb:Nat):Int)+(ra:Int)+(j:Int) - (lb:Int)).toNat=la+ra+j by omega,gEg oM,obs,obs,obs,Af oM,plc,if_neg h1]
   ·try dsimp only
    unfold Kg;rw [At oM,cond_false,hxl,Axp hxl]
  ·try dsimp only
   unfold J8;rw [At oM,cond_false]
 rotate_left
 ·have hi:=Ai hx;have hxl:=(hA x (List.mem_of_getElem? hx)).1
  try dsimp only
  unfold J6;rw [Au oM,cond_true,hx,obs,w1,w2,w3,Af oM,Int.toNat_natCast];rw [A7 (s0:=(0,List.replicate ((la+lb)+(ra+rb)) 0)) x.length (fun j=>(j,plc (fun j=>if j<la then j else lb+j) x ((la+lb)+(ra+rb)) j)) oM (Sd la lb rb x) rfl (fun j hj=>?_) ?_,obs,Af (by simp;omega),obs,Af oM]
  rotate_left
  ·have hlen:=V0 (pos:=fun j=>if j<la then j else lb+j) (x:=x) (n:=(la+lb)+(ra+rb)) j
   try dsimp only
   unfold Kh;rw [Au oM,cond_true,Zr hj,obs,w1];by_cases h1:j<la
   ·rw [Au oM,cond_true,gEg oM,obs,obs,Af oM,plc,if_pos h1]
   ·rw [At oM,cond_false,A4 (n:=((la+lb:Nat):Int)+(j:Int)) oM oM,A4 oM oM,Bs oM,show (((la+lb:Nat):Int)+(j:Int) - (la:Int)).toNat=lb+j by omega,gEg oM,obs,obs,obs,Af oM,plc,if_neg h1]
  ·try dsimp only
   unfold Kh;rw [At oM,cond_false,hxl,Axo hxl]
 ·try dsimp only
  unfold J6;rw [At oM,cond_false,List.nil_append]
end
end
section
-- the other leaves, one by one
def Asy:List Int:=[2,3,5,7,11,13,17,19,23,29,31,37,41,43,47,53,59,61,67,71,73,79,83,89,97]
theorem Ams {p:Int} (h:isF p=true):p∈Asy:=by
 have hb:=Cu h;obtain ⟨k,rfl⟩:∃ k:Nat,p=(k:Int):=⟨p.toNat,by omega⟩
 have hk:k<98:=by omega
 have key:(List.range 98).all (fun k=> !isF (k:Int)||Asy.contains (k:Int))=true:=by kernel_rfl
 have:=List.all_eq_true.1 key k (List.mem_range.2 hk);rw [h,Bool.not_true,Bool.false_or] at this;exact List.contains_iff_mem.1 this
def Agl (p k v:Int):Bool:=match Bp p k v ⟨#[]⟩,A5 p k v ⟨#[]⟩ with
 | some a,some b=>a==b&&(My p a.1 a.2.1 a.2.2&&lfW (k,v,⟨#[]⟩)==some (a.1,a.2.1))
 | _,_=>false
theorem Art:(Asy.all fun p=>[2,3,4,5,6,9,10,11,12].all fun k=>Agl p k 0)=true:=by kernel_rfl
def scV (p v:Int):Int:=(p - v) % p
theorem Am7:((List.range 97).all fun v=>(C5 2 [(7,(v:Int),[0],[1])] [0] [1]==some true)&&(C5 2 [(13,(v:Int),[0],[1])] [0] [1]==some true))=true:=by kernel_rfl
theorem Aw9:(Asy.all fun p=>(List.range p.toNat).all fun v=>(gj p 2 (Nf p 2 [[scV p (v:Int),1]])==[[1,(v:Int)]])&&((gj p 2 [[1,(v:Int)]]==[[1,(v:Int)]])&&(gj p 2 (Nf p 2 [[1,scV p (v:Int)]])==gj p 2 [[(v:Int),1]])))=true:=by kernel_rfl
theorem Asz {p k v:Int} (h:Agl p k v=true) (s:ByteArray):∃ a,Bp p k v s=some a/\A5 p k v s=some a/\My p a.1 a.2.1 a.2.2=true/\lfW (k,v,⟨#[]⟩)=some (a.1,a.2.1):=by
 have e1:Bp p k v s=Bp p k v ⟨#[]⟩:=by unfold Bp Mq;rfl
 have e2:A5 p k v s=A5 p k v ⟨#[]⟩:=by unfold A5;rfl
 rw [e1,e2];unfold Agl at h;split at h
 ·rename_i a b h1 h2;simp only [Bool.and_eq_true,beq_iff_eq] at h;obtain ⟨rfl,h3,h4⟩:=h;exact ⟨a,h1,h2,h3,h4⟩
 ·cases h
end
section
section
variable {p:Int} {n:Nat} {m:List (List Int)}
theorem Atk {u:Nat->Nat} {k:Nat} (h:∀ i j,i<j->j<k->u i<u j):∀ i,i<k->i<=u i:=by
 intro i
 induction i with
 | zero=>intro _;omega
 | succ i ih=>intro hi;have:=ih oM;have:=h i (i+1) oM hi;omega
theorem Aqv {pv:Nat->Nat} (h:Pq n m.length m pv):m.length<=n:=by
 refine Nat.le_of_not_lt fun hlt=>?_
 have h1:=Atk (fun i j a b=>h.mono i j a b) n hlt;have h2:=h.lt n hlt;omega
theorem Ak5 (hp:isF p=true) (hm:MatW p n m):MatW p n (gj p n m)/\(gj p n m).length<=n/\gj p n (gj p n m)=gj p n m:=by
 have hb:=Cu hp;obtain ⟨⟨pv,h1⟩,_⟩:=Vx hb.1 (Abu hp) hm;have h2:=S8 (n:=n) hb.1 hm;exact ⟨h2,Aqv h1,Agy hb.1 (Abu hp) h2 h2 h1 fun _=>Iff.rfl⟩
theorem Aiu {pv:Nat->Nat} (hp:isF p=true) (hm:MatW p n m) (h:Pq n m.length m pv):gj p n m=m :=
 Agy (Cu hp).1 (Abu hp) hm hm h fun _=>Iff.rfl
-- the identity
def idB (n:Nat):List (List Int):=(List.range n).map fun k=>unV n k++unV n k
theorem Ati {i:Nat} (hi:i<n):(idB n)[i]? =some (unV n i++unV n i):=by
 unfold idB;rw [List.getElem?_map,List.getElem?_range hi];rfl
theorem Af4 (hp:2<=p):MatW p (n+n) (idB n):=fun x hx=>by
 obtain ⟨k,_,rfl⟩:=List.mem_map.1 hx;have h:=Zn (n:=n) (k:=k) hp;exact ⟨by rw [List.length_append,h.1],fun a ha=>(List.mem_append.1 ha).elim (h.2 a) (h.2 a)⟩
theorem Awo {i j:Nat} (hi:i<n) (hj:j<n):en (idB n) i j=if j=i then 1 else 0:=by
 unfold en;rw [Bj (Ati hi),gDg,List.getElem?_append_left (by simp [unV];omega),← gDg,Aka hi]
theorem As3 {i:Nat} (hi:i<n):(idV n)[i]? =some (unV n i):=by
 unfold idV;rw [List.getElem?_map,List.getElem?_range hi];rfl
theorem Awq {i j:Nat} (hi:i<n):en (idV n) i j=if j=i then 1 else 0:=by
 unfold en;rw [Bj (As3 hi),Aka hi]
theorem Aug (hp:2<=p):MatW p n (idV n):=fun x hx=>by
 obtain ⟨k,_,rfl⟩:=List.mem_map.1 hx;exact Zn hp
theorem Ama {R:List (List Int)} {c:Nat} (hl:R.length=n) (hc:n<=c) (he:∀ i j,i<n->j<n->en R i j=if j=i then 1 else 0):Pq c R.length R id where
 rl:=Nat.le_refl _
 lt i hi:=by show i<c;omega
 mono i k h _:=h
 low i hi j hj:=by
  have hj:j<i:=hj;rw [he i j oM oM,if_neg oM]
 one i hi:=by show en R i i=1;rw [he i i oM oM,if_pos rfl]
 zero i hi k hk:=by
  show en R k i=0;by_cases h:k<n
  ·rw [he k i h oM,if_neg oM]
  ·exact Ra oM
 tail i hi j _:=Ra hi
theorem Am0 (hp:isF p=true):gj p (n+n) (idB n)=idB n :=
 Aiu hp (Af4 (Cu hp).1) (Ama (n:=n) (by simp [idB]) oM fun i j hi hj=>Awo hi hj)
theorem Asi (hp:isF p=true):gj p n (idV n)=idV n :=
 Aiu hp (Aug (Cu hp).1) (Ama (n:=n) (by simp [idV]) (Nat.le_refl _) fun i j hi _=>Awq hi)
theorem Uy (hn:n<=1000):D1 (n:Int)=some (idB n):=by
 unfold D1
 have key:Aq (fun s_:Nat×List (List Int)=>C6 (n:Int) s_.1 s_.2) 4611686018427387904 (0,([]:List (List Int)))=some (idB n):=by
  refine A7 n (fun k=>(k,(List.range k).map fun k=>unV n k++unV n k)) oM _ rfl (fun k hk=>?_) ?_
  ·try dsimp only
   unfold C6;rw [Au oM,cond_true,Am3 hk hn,obs,obs,Ad6 _ _ (by simp [unV];omega),obs,Af (by simp;omega),Af oM,List.range_succ,List.map_append];rfl
  ·try dsimp only
   unfold C6;rw [At oM,cond_false];rfl
 rw [key];rfl
theorem As5 (hp:2<=p):gj p n []=[]:=by
 have h2:(gj p n []).length<=0:=by
  unfold gj;rw [List.length_take,(Ls hp (w:=0) (m:=[]) (fun x hx=>by cases hx) n).2.2];exact Nat.min_le_right _ _
 exact List.length_eq_zero_iff.1 oM
theorem Avu (hp:isF p=true):Nf p n []=idV n:=by
 unfold Nf;rw [As5 (Cu hp).1]
 have:Rj p n []=idV n:=by
  unfold Rj X9 idV;rw [List.filter_eq_self.2 (fun j _=>by simp [pvs])];rfl
 rw [this,Asi hp]
def rgI (n:Nat):List Int:=(List.range n).map fun k=>((k:Nat):Int)
theorem Awk (hn:n<=1000):O9 (n:Int)=some ((n:Int),[],rgI n,rgI n):=by
 unfold O9
 have key:Aq (fun s_:Nat×List Int=>Li (n:Int) s_.1 s_.2) 4611686018427387904 (0,[])=some (rgI n):=by
  refine A7 n (fun k=>(k,rgI k)) oM _ rfl (fun k hk=>?_) ?_
  ·have hl:(rgI k).length=k:=by simp [rgI]
   try dsimp only
   unfold Li;rw [Au oM,cond_true,Af oM,Af oM,Af oM];unfold rgI;rw [List.range_succ,List.map_append];rfl
  ·try dsimp only
   unfold Li;rw [At oM,cond_false]
 rw [key];rfl
theorem Ahw (ends x:List Int) (hl:ends.length<=1000) (he:∀ e∈ends,0<=e/\e.toNat<x.length):Jp ends x=some (ends.map fun e=>x.getD e.toNat 0):=by
 unfold Jp
 have key:Aq (fun s_:Nat×List Int=>Iw ends x s_.1 s_.2) 4611686018427387904 (0,[])=some ([]++ends.map fun e=>x.getD e.toNat 0):=by
  refine Dj ends (fun e=>x.getD e.toNat 0) [] oM _ (fun j e h=>?_) ?_
  ·have:=Ai h;have hb:=he e (List.mem_of_getElem? h)
   try dsimp only
   unfold Iw;rw [Au oM,cond_true,h,obs,Bs hb.1,gEg hb.2,obs,Af (by simp;omega),Af oM,gDg,gEg hb.2];rfl
  ·try dsimp only
   unfold Iw;rw [At oM,cond_false]
 rw [key];rfl
theorem Auc (k:Nat):(rgI n).map (fun e=>(unV n k).getD e.toNat 0)=unV n k:=by
 unfold rgI;rw [List.map_map];refine List.ext_getElem? fun i=>?_
 by_cases h:i<n
 ·rw [List.getElem?_map,List.getElem?_range h];show some ((unV n k).getD i 0)=_;rw [gDg,gEg (show i<(unV n k).length by simp [unV];omega)];rfl
 ·rw [List.getElem?_eq_none (by simp;omega),List.getElem?_eq_none (by simp [unV];omega)]
theorem Aqq (hp:isF p=true) (hn:n<=12):Fw p (n:Int) [] (rgI n) (rgI n)=some true:=by
 have hv:C5 (n:Int) [] (rgI n) (rgI n)=some true:=by
  rcases (show n=0∨n=1∨n=2∨n=3∨n=4∨n=5∨n=6∨n=7∨n=8∨n=9∨n=10∨n=11∨n=12 by omega) with rfl|rfl|rfl|rfl|rfl|rfl|rfl|rfl|rfl|rfl|rfl|rfl|rfl <;> kernel_rfl
 unfold Fw Mh;rw [Vy,hp,obs,Bool.not_true,cond_false,hv];rfl
theorem Awb (hp:isF p=true) (hn:n<=12) (s:ByteArray):Bp p 1 (n:Int) s=some ((n:Int),(n:Int),idB n):=by
 have hb:=Cu hp;have hl:(rgI n).length=n:=by simp [rgI]
 unfold Bp Mq;rw [show ((1:Int)==1)=true from rfl,cond_true,Awk oM,obs,obs];unfold Ev;dsimp only;rw [Aqq hp hn,obs,Bool.not_true,cond_false,Vh _ oM,obs,Af oM]
 have hvs:E1 p (n:Int) [] (rgI n) (rgI n)=some (idV n):=by
  unfold E1;rw [show Aq (fun s_:Nat×List (List Int)=>Et [] p (n:Int) s_.1 s_.2) 4611686018427387904 (0,[])=some [] from rfl,obs,Abx hp (fun x hx=>by cases hx) oM (by simp),Avu hp];rfl
 rw [hvs,obs]
 have key:Aq (fun s_:Nat×List (List Int)=>C7 (idV n) (rgI n) (rgI n) s_.1 s_.2) 4611686018427387904 (0,([]:List (List Int)))=some ([]++(idV n).map fun x=>x++x):=by
  refine Dj (idV n) (fun x=>x++x) [] (by simp [idV];omega) _ (fun j x h=>?_) ?_
  ·have:=Ai h;have hil:(idV n).length=n:=by simp [idV]
   obtain ⟨k,_,rfl⟩:=List.mem_map.1 (List.mem_of_getElem? h)
   try dsimp only
   unfold C7;rw [Au oM,cond_true,h,obs,Ahw _ _ (by rw [List.length_append];omega) (fun e he=>?_),obs,Af (by simp;omega),Af oM,List.map_append,Auc];rw [List.mem_append,or_self] at he;obtain ⟨i,hi,rfl⟩:=List.mem_map.1 he;have:=List.mem_range.1 hi;exact ⟨by omega,by simp [unV];omega⟩
  ·try dsimp only
   unfold C7;rw [At oM,cond_false]
 rw [key,obs,List.nil_append,show (idV n).map (fun x=>x++x)=idB n by unfold idV idB;rw [List.map_map];rfl,hl,Agn hp (Af4 hb.1) oM (by simp [idB];omega),Am0 hp];rfl
end
section
variable {p v:Int}
theorem Ah5 {i j:Int} (hp:2<=p/\p<=97) (hv:0<=v/\v<p) (hi:i=0/\j=1∨i=1/\j=0):Cn p 2 [i,j] [1,v]=some (if i=0 then [1,v] else [v,1]):=by
 have e1:Dq p 0 1=some 1:=by rw [Am1 hp oM oM,Int.emod_eq_of_lt oM oM];rfl
 have e2:Dq p 0 v=some v:=by rw [Am1 hp oM hv,Int.zero_add,Int.emod_eq_of_lt hv.1 hv.2]
 unfold Cn;rw [Af oM];rcases hi with ⟨rfl,rfl⟩|⟨rfl,rfl⟩
 ·have h:Aq (fun s_:Nat×List Int=>Nc [0,1] [1,v] p s_.1 s_.2) 4611686018427387904 (0,List.replicate (2:Int).toNat (0:Int))=some [1,v]:=by
   refine A7 2 (fun i=>(i,if i=0 then [0,0] else if i=1 then [1,0] else [1,v])) oM _ rfl (fun i hi=>?_) rfl;rcases (show i=0∨i=1 by omega) with rfl|rfl
   ·show Option.bind (Dq p 0 1) (fun y15=>og (0+1<4611686018427387904) (some (Ctl.next (0+1,[0,0].set 0 y15))))=_;rw [e1,obs,Af oM];rfl
   ·show Option.bind (Dq p 0 v) (fun y15=>og (1+1<4611686018427387904) (some (Ctl.next (1+1,[1,0].set 1 y15))))=_;rw [e2,obs,Af oM];rfl
  rw [h];rfl
 ·have h:Aq (fun s_:Nat×List Int=>Nc [1,0] [1,v] p s_.1 s_.2) 4611686018427387904 (0,List.replicate (2:Int).toNat (0:Int))=some [v,1]:=by
   refine A7 2 (fun i=>(i,if i=0 then [0,0] else if i=1 then [0,1] else [v,1])) oM _ rfl (fun i hi=>?_) rfl;rcases (show i=0∨i=1 by omega) with rfl|rfl
   ·show Option.bind (Dq p 0 1) (fun y15=>og (0+1<4611686018427387904) (some (Ctl.next (0+1,[0,0].set 1 y15))))=_;rw [e1,obs,Af oM];rfl
   ·show Option.bind (Dq p 0 v) (fun y15=>og (1+1<4611686018427387904) (some (Ctl.next (1+1,[0,1].set 0 y15))))=_;rw [e2,obs,Af oM];rfl
  rw [h];rfl
theorem Ae5 (hp:2<=p):0<=scV p v/\scV p v<p:=Se hp
theorem Aqr {k:Int} (hp:isF p=true) (hv:0<=v/\v<p) (hva:C5 2 [(k,v,[0],[1])] [0] [1]=some true) (hk:Ci k=some true):Fw p 2 [(k,v,[0],[1])] [0] [1]=some true:=by
 unfold Fw Mh
 have h1:Aq (fun s_:Nat=>Iz [(k,v,[0],[1])] p s_) 4611686018427387904 0=some (Ctl.next ()):=by
  refine A7 1 (fun i=>i) oM _ rfl (fun i hi=>?_) ?_
  ·obtain rfl:i=0:=by omega
   unfold Iz;simp only [List.length_singleton,List.getElem?_cons_zero,obs];rw [Au oM,cond_true,At oM,cond_false,Af oM]
  ·unfold Iz;simp only [List.length_singleton];rw [At oM,cond_false]
 have h2:Aq (fun s_:Nat=>Hd [(k,v,[0],[1])] s_) 4611686018427387904 0=some (Ctl.next ()):=by
  refine A7 1 (fun i=>i) oM _ rfl (fun i hi=>?_) ?_
  ·obtain rfl:i=0:=by omega
   unfold Hd;simp only [List.length_singleton,List.getElem?_cons_zero,obs,hk];rw [Au oM,cond_true,Bool.not_true,cond_false,Af oM]
  ·unfold Hd;simp only [List.length_singleton];rw [At oM,cond_false]
 rw [Vy,hp,obs,Bool.not_true,cond_false,hva,obs,obs,Bool.not_true,cond_false,h1,h2];rfl
theorem Arz {k:Int} {row:List Int} (hp:isF p=true) (hr:G0 p 2 k v [0] [1]=some [row]) (hm:MatW p 2 [row]):E1 p 2 [(k,v,[0],[1])] [0] [1]=some (Nf p 2 [row]):=by
 unfold E1
 have h1:Aq (fun s_:Nat×List (List Int)=>Et [(k,v,[0],[1])] p 2 s_.1 s_.2) 4611686018427387904 (0,[])=some [row]:=by
  refine A7 1 (fun i=>(i,if i=0 then [] else [row])) oM _ rfl (fun i hi=>?_) ?_
  ·obtain rfl:i=0:=by omega
   try dsimp only
   unfold Et;simp only [List.length_singleton,List.getElem?_cons_zero,obs,hr];rw [Au oM,cond_true,Af (by simp),Af oM];rfl
  ·try dsimp only
   unfold Et;simp only [List.length_singleton];rw [At oM,cond_false];rfl
 have h2:=Abx (n:=2) hp hm oM (by simp);rw [h1,obs,show (2:Int)=((2:Nat):Int) from rfl,h2,obs]
theorem Amv {k:Int} {row:List Int} (hp:isF p=true) (hv:0<=v/\v<p) (hva:C5 2 [(k,v,[0],[1])] [0] [1]=some true) (hk:Ci k=some true) (hr:G0 p 2 k v [0] [1]=some [row]) (hm:MatW p 2 [row]) :
  Ev p 2 [(k,v,[0],[1])] [0] [1]=some (1,1,gj p 2 (Nf p 2 [row]),true):=by
 have hb:=Cu hp;have hN:=Afa (p:=p) (n:=2) (m:=[row]) hb.1;have hNl:=Afh (p:=p) (n:=2) (m:=[row]) hb.1;unfold Ev;rw [Aqr hp hv hva hk,obs,Bool.not_true,cond_false,Vh _ (by simp),obs,Af (by simp),Arz hp hr hm,obs];generalize Nf p 2 [row]=M at *
 have key:Aq (fun s_:Nat×List (List Int)=>C7 M [0] [1] s_.1 s_.2) 4611686018427387904 (0,([]:List (List Int)))=some ([]++M.map fun x=>x):=by
  refine Dj M (fun x=>x) [] oM _ (fun j x h=>?_) ?_
  ·have:=Ai h;have hxl:=(hN x (List.mem_of_getElem? h)).1
   have hgl:Jp ([0]++[1]) x=some x:=by
    rw [Ahw _ _ (by simp) (fun e he=>?_)]
    ·match x,hxl with
     | [a,b],_=>rfl
    ·rcases List.mem_cons.1 he with rfl|he
     ·exact ⟨by omega,by rw [hxl];decide⟩
     ·obtain rfl:=List.mem_singleton.1 he;exact ⟨by omega,by rw [hxl];decide⟩
   try dsimp only
   unfold C7;rw [Au oM,cond_true,h,obs,hgl,obs,Af (by simp;omega),Af oM]
  ·try dsimp only
   unfold C7;rw [At oM,cond_false]
 rw [key,obs,List.nil_append,List.map_id'];have hR:=Agn (l:=1) (r:=1) hp hN oM oM;rw [show ((([0]:List Int).length:Nat):Int)=((1:Nat):Int) from rfl,show ((([1]:List Int).length:Nat):Int)=((1:Nat):Int) from rfl,hR,obs];rfl
theorem Q3 {a b:Int} (ha:0<=a/\a<p) (hb:0<=b/\b<p):MatW p 2 [[a,b]]:=fun x hx=>by
 obtain rfl:=List.mem_singleton.1 hx;refine ⟨rfl,fun c hc=>?_⟩;rcases List.mem_cons.1 hc with rfl|hc
 ·exact ha
 ·obtain rfl:=List.mem_singleton.1 hc;exact hb
theorem Ac0 (hp:isF p=true) (hv:0<=v/\v<p):gj p 2 (Nf p 2 [[scV p v,1]])=[[1,v]]/\gj p 2 [[1,v]]=[[1,v]]/\gj p 2 (Nf p 2 [[1,scV p v]])=gj p 2 [[v,1]]:=by
 obtain ⟨u,rfl⟩:∃ u:Nat,v=(u:Int):=⟨v.toNat,by omega⟩
 have h:=List.all_eq_true.1 (List.all_eq_true.1 Aw9 p (Ams hp)) u (List.mem_range.2 oM);simp only [Bool.and_eq_true,beq_iff_eq] at h;exact h
theorem Ash (hp:isF p=true) (hv:0<=v/\v<p) (s:ByteArray):Bp p 7 v s=some (1,1,[[1,v]])/\A5 p 7 v s=some (1,1,[[1,v]]):=by
 have hb:=Cu hp;obtain ⟨f1,f2,f3⟩:=Ac0 hp hv
 have hva:C5 2 [(7,v,[0],[1])] [0] [1]=some true:=by
  obtain ⟨u,rfl⟩:∃ u:Nat,v=(u:Int):=⟨v.toNat,by omega⟩
  have h:=List.all_eq_true.1 Am7 u (List.mem_range.2 oM);simp only [Bool.and_eq_true,beq_iff_eq] at h;exact h.1
 have hr:G0 p 2 7 v [0] [1]=some [[scV p v,1]]:=by
  show Option.bind (E7 p v) (fun y34=>Option.bind (Cn p 2 [1,0] [1,y34]) fun y35=>some [y35])=_;rw [Zm hb hv,obs];show Option.bind (Cn p 2 [1,0] [1,scV p v]) _=_;rw [Ah5 hb (Ae5 hb.1) (.inr ⟨rfl,rfl⟩)];rfl
 constructor
 ·show Option.bind (Ev p 2 [(7,v,[0],[1])] [0] [1]) (fun y4=>some (y4.1,y4.2.1,y4.2.2.1))=_;rw [Amv hp hv hva rfl hr (Q3 (Ae5 hb.1) ⟨by omega,by omega⟩),f1];rfl
 ·show Option.bind (Bu p ((1:Nat):Int) ((1:Nat):Int) [[1,v]]) (fun y25=>some (((1:Nat):Int),((1:Nat):Int),y25))=_;rw [N9 hp (Q3 ⟨by omega,by omega⟩ hv) oM (by simp),f2];rfl
theorem Anu (hp:isF p=true) (hv:0<=v/\v<p) (s:ByteArray):Bp p 13 v s=some (1,1,gj p 2 [[v,1]])/\A5 p 13 v s=some (1,1,gj p 2 [[v,1]]):=by
 have hb:=Cu hp;obtain ⟨f1,f2,f3⟩:=Ac0 hp hv
 have hva:C5 2 [(13,v,[0],[1])] [0] [1]=some true:=by
  obtain ⟨u,rfl⟩:∃ u:Nat,v=(u:Int):=⟨v.toNat,by omega⟩
  have h:=List.all_eq_true.1 Am7 u (List.mem_range.2 oM);simp only [Bool.and_eq_true,beq_iff_eq] at h;exact h.2
 have hr:G0 p 2 13 v [0] [1]=some [[1,scV p v]]:=by
  show Option.bind (E7 p v) (fun y34=>Option.bind (Cn p 2 [0,1] [1,y34]) fun y35=>some [y35])=_;rw [Zm hb hv,obs];show Option.bind (Cn p 2 [0,1] [1,scV p v]) _=_;rw [Ah5 hb (Ae5 hb.1) (.inl ⟨rfl,rfl⟩)];rfl
 constructor
 ·show Option.bind (Ev p 2 [(13,v,[0],[1])] [0] [1]) (fun y4=>some (y4.1,y4.2.1,y4.2.2.1))=_;rw [Amv hp hv hva rfl hr (Q3 ⟨by omega,by omega⟩ (Ae5 hb.1)),f3];rfl
 ·show Option.bind (Bu p ((1:Nat):Int) ((1:Nat):Int) [[1,v]]) (fun y19=>Option.bind (Ni p ((1:Nat):Int) ((1:Nat):Int) y19) fun y20=>some (((1:Nat):Int),((1:Nat):Int),y20))=_;rw [N9 hp (Q3 ⟨by omega,by omega⟩ hv) oM (by simp),f2];show Option.bind (Option.bind (Bu p ((1:Nat):Int) ((1:Nat):Int) [[v,1]]) fun y4=>some y4) (fun y20=>some (((1:Nat):Int),((1:Nat):Int),y20))=_;rw [N9 hp (Q3 hv ⟨by omega,by omega⟩) oM (by simp)];rfl
end
theorem An7 {p n:Int} {b:List (List Int)} (hn:0<=n) (h:MatW p n.toNat b):Vq p n b=true:=by
 unfold Vq;rw [List.all_eq_true];intro x hx;have hx:=h x hx;rw [Bool.and_eq_true,beq_iff_eq,List.all_eq_true];refine ⟨by have:=hx.1;omega,fun a ha=>?_⟩;have:=hx.2 a ha;rw [Gm];omega
theorem Adb {p:Int} {l r:Nat} {b:List (List Int)} (hp:isF p=true) (hs:l+r<=24) (hb:b.length<=l+r) (hm:MatW p (l+r) b) (hg:gj p (l+r) b=b):My p (l:Int) (r:Int) b=true:=by
 have e:((l:Int)+(r:Int)).toNat=l+r:=by omega
 unfold My;simp only [Bool.and_eq_true,Gm,decide_eq_true_eq,beq_iff_eq];exact ⟨hp,⟨by omega,by omega⟩,⟨by omega,by omega⟩,by omega,An7 oM (by rw [e];exact hm),by rw [e];exact hg⟩
theorem Awc {v:Int} (h:inR v 0 96=true):lfW (7,v,⟨#[]⟩)=some (1,1):=by
 unfold lfW;dsimp only;rw [if_pos (show L4 ⟨#[]⟩=true from beq_self_eq_true _),if_neg (by decide),if_neg (by decide),if_pos (by decide),if_pos (show Ze 7 v=true by unfold Ze;rw [if_pos (.inl rfl)];exact h)];rfl
theorem Aul {v:Int} (h:inR v 0 96=true):lfW (13,v,⟨#[]⟩)=some (1,1):=by
 unfold lfW;dsimp only;rw [if_pos (show L4 ⟨#[]⟩=true from beq_self_eq_true _),if_neg (by decide),if_neg (by decide),if_pos (by decide),if_pos (show Ze 13 v=true by unfold Ze;rw [if_pos (.inr rfl)];exact h)];rfl
theorem Ao7 {p:Int} (hp:isF p=true) {n:Nd} {w:Int×Int} (hw:lfW n=some w) (hs:n.1≠8/\n.1≠14) (hv:n.1=7∨n.1=13->n.2.1<p) :
  ∃ a,Bp p n.1 n.2.1 n.2.2=some a/\A5 p n.1 n.2.1 n.2.2=some a/\My p a.1 a.2.1 a.2.2=true/\w=(a.1,a.2.1):=by
 have hb:=Cu hp;obtain ⟨k,v,s⟩:=n;have hk:=R3 hw;have hm:=Ams hp
 have h0:lfW (k,v,⟨#[]⟩)=some w:=by
  unfold lfW at hw ⊢;dsimp only at hw ⊢;split at hw
  ·rw [if_pos (show L4 ⟨#[]⟩=true from beq_self_eq_true _)];exact hw
  ·cases hw
 have fin:Agl p k v=true->∃ a,Bp p k v s=some a/\A5 p k v s=some a/\My p a.1 a.2.1 a.2.2=true/\w=(a.1,a.2.1):=fun h=>by
  obtain ⟨a,h1,h2,h3,h4⟩:=Asz h s;exact ⟨a,h1,h2,h3,osj (h0.symm.trans h4)⟩
 dsimp only at *;by_cases h1:k=1
 ·subst h1;have h0':=h0;unfold lfW at h0';dsimp only at h0';rw [if_pos (show L4 ⟨#[]⟩=true from beq_self_eq_true _),if_pos rfl] at h0';split at h0'
  ·rename_i hvb;obtain rfl:=osj h0';obtain ⟨m,rfl⟩:∃ m:Nat,v=(m:Int):=⟨v.toNat,by omega⟩
   have hm12:m<=12:=by omega
   refine ⟨((m:Int),(m:Int),idB m),Awb hp hm12 s,?_,Adb hp oM (by simp [idB]) (Af4 hb.1) (Am0 hp),rfl⟩;unfold A5;rw [show ((1:Int)==1)=true from rfl,cond_true,Uy oM,obs]
  ·cases h0'
 ·have hval:k=2/\v=0∨(3<=k/\k<=14/\Ze k v=true):=by
   have h0':=h0;unfold lfW at h0';dsimp only at h0';rw [if_pos (show L4 ⟨#[]⟩=true from beq_self_eq_true _)] at h0';rw [if_neg h1] at h0';split at h0'
   ·split at h0'
    ·rename_i h2 h3;exact .inl ⟨h2,h3⟩
    ·cases h0'
   ·split at h0'
    ·split at h0'
     ·rename_i h2 h3;exact .inr ⟨h2.1,h2.2,h3⟩
     ·cases h0'
    ·cases h0'
  by_cases hsc:k=7∨k=13
  ·have hvp:=hv hsc;rcases hval with ⟨rfl,_⟩|⟨_,_,hvb⟩
   ·omega
   unfold Ze at hvb;rw [if_pos hsc] at hvb;have hvi:=Gm.1 hvb;obtain ⟨u,rfl⟩:∃ u:Nat,v=(u:Int):=⟨v.toNat,by omega⟩
   have hvb':(0:Int)<=(u:Int)/\(u:Int)<p:=⟨by omega,hvp⟩
   have hw1:w=(1,1):=by
    refine osj (h0.symm.trans ?_);rcases hsc with rfl|rfl
    ·exact Awc hvb
    ·exact Aul hvb
   subst hw1;rcases hsc with rfl|rfl
   ·obtain ⟨g1,g2⟩:=Ash hp hvb' s;exact ⟨_,g1,g2,Adb (l:=1) (r:=1) hp oM (by simp) (Q3 ⟨by omega,by omega⟩ hvb') (Ac0 hp hvb').2.1,rfl⟩
   ·obtain ⟨g1,g2⟩:=Anu hp hvb' s;obtain ⟨q1,q2,q3⟩:=Ak5 hp (n:=2) (m:=[[(u:Int),1]]) (Q3 (p:=p) hvb' ⟨by omega,by omega⟩);exact ⟨_,g1,g2,Adb (l:=1) (r:=1) hp oM q2 q1 q3,rfl⟩
  ·have hv0:v=0:=by
    rcases hval with ⟨_,h⟩|⟨_,_,hvb⟩
    ·exact h
    ·unfold Ze at hvb;rw [if_neg hsc,beq_iff_eq] at hvb;exact hvb
   subst hv0;refine fin (List.all_eq_true.1 (List.all_eq_true.1 Art p hm) k ?_);have:k=2∨k=3∨k=4∨k=5∨k=6∨k=9∨k=10∨k=11∨k=12:=by omega
   rcases this with rfl|rfl|rfl|rfl|rfl|rfl|rfl|rfl|rfl <;> simp
end
section
abbrev Rn:=Nat×Nat×List (List Int)
abbrev Rl:=Int×Int×List (List Int)
def Cd (x:Rn):Rl:=((x.1:Int),(x.2.1:Int),x.2.2)
structure Nm (p:Int) (x:Rn):Prop where
 mb:MatW p (x.1+x.2.1) x.2.2
 lb:x.2.2.length<=x.1+x.2.1
 rb:gj p (x.1+x.2.1) x.2.2=x.2.2
def Ai5 (p:Int):List (Int×Int)->List Rn->Prop
 | [],[]=>True
 | w :: T,x :: R=>(w=((x.1:Int),(x.2.1:Int))/\Nm p x)/\Ai5 p T R
 | _,_=>False
def Ajv (p:Int) (a b:Rn):Rn:=(a.1,b.2.1,Avj p a.1 a.2.1 b.2.1 a.2.2 b.2.2)
def Ahy (p:Int) (a b:Rn):Rn:=(a.1+b.1,a.2.1+b.2.1,Awm p a.1 a.2.1 b.1 b.2.1 a.2.2 b.2.2)
def Pc (p:Int) (lf:Nd->Rn) (n:Nd):List Rn->List Rn
 | b :: a :: r=>if n.1=15 then Ajv p a b :: r else if n.1=16 then Ahy p a b :: r else lf n :: b :: a :: r
 | R=>lf n :: R
def K9 (p:Int) (lf:Nd->Rn):List Nd->List Rn->List Rn
 | [],R=>R
 | n :: r,R=>K9 p lf r (Pc p lf n R)
section
variable {p:Int} {lf:Nd->Rn}
theorem Qu {n:Nd} (h:¬ (n.1=15∨n.1=16)) (R:List Rn):Pc p lf n R=lf n :: R:=by
 match R with
 | []=>rfl
 | [_]=>rfl
 | b :: a :: r =>
  show (if n.1=15 then _ else if n.1=16 then _ else _)=_;rw [if_neg (fun e=>h (.inl e)),if_neg (fun e=>h (.inr e))]
theorem Aav:∀ (xs ys:List Nd) (R:List Rn),K9 p lf (xs++ys) R=K9 p lf ys (K9 p lf xs R)
 | [],_,_=>rfl
 | _ :: r,ys,_=>Aav r ys _
theorem Sm {xs:List Nd} {k:Nat} {n:Nd} (h:xs[k]? =some n):K9 p lf (xs.take (k+1)) []=Pc p lf n (K9 p lf (xs.take k) []):=by
 rw [List.take_add_one,h,Aav];rfl
theorem Aq1 (hp:isF p=true) {a b:Rn} (ha:Nm p a) (hb:Nm p b) (h:b.1=a.2.1):Nm p (Ajv p a b):=by
 have hb1:=hb.mb;rw [h] at hb1
 have hm:MatW p (a.1+b.2.1) ((Nf p (a.2.2.length+b.2.2.length) (Xx p a.1 a.2.1 a.2.2 b.2.2)).map (Agg p a.1 a.2.1 b.2.1 a.2.2 b.2.2)):=fun x hx=>by
  obtain ⟨c,_,rfl⟩:=List.mem_map.1 hx;exact Ajk (Cu hp).1 ha.mb hb1
 obtain ⟨h1,h2,h3⟩:=Ak5 hp hm;exact ⟨h1,h2,h3⟩
theorem Aqh (hp:isF p=true) {a b:Rn} (ha:Nm p a) (hb:Nm p b):Nm p (Ahy p a b):=by
 obtain ⟨h1,h2,h3⟩:=Ak5 hp (Afi (Cu hp).1 ha.mb hb.mb);exact ⟨h1,h2,h3⟩
theorem Aq2 (hp:isF p=true) {lt:Nd->Option (Int×Int)} {n:Nd} (hleaf:∀ w,¬ (n.1=15∨n.1=16)->lt n=some w->w=(((lf n).1:Int),((lf n).2.1:Int))/\Nm p (lf n)) {T T':List (Int×Int)} {R:List Rn} (hT:Ek lt n T=some T') (hR:Ai5 p T R):Ai5 p T' (Pc p lf n R):=by
 unfold Ek at hT;by_cases hc:n.1=15∨n.1=16
 ·rw [if_pos hc] at hT;split at hT
  ·match T,R,hT,hR with
   | w2 :: w1 :: T,y :: x :: R,hT,⟨⟨ey,gy⟩,⟨ex,gx⟩,hR⟩ =>
    subst ey ex;dsimp only at hT;show Ai5 p T' (if n.1=15 then Ajv p x y :: R else if n.1=16 then Ahy p x y :: R else lf n :: y :: x :: R);by_cases h15:n.1=15
    ·rw [if_pos h15] at hT ⊢;split at hT
     ·rename_i he;obtain rfl:=osj hT;exact ⟨⟨rfl,Aq1 hp gx gy oM⟩,hR⟩
     ·cases hT
    ·rw [if_neg h15] at hT ⊢;rw [if_pos (hc.resolve_left h15)];split at hT
     ·obtain rfl:=osj hT;refine ⟨⟨?_,Aqh hp gx gy⟩,hR⟩;unfold Ahy;simp
     ·cases hT
  ·cases hT
 ·rw [if_neg hc] at hT;obtain ⟨w,hw,rfl⟩:=oms.1 hT;rw [Qu hc];exact ⟨hleaf w hc hw,hR⟩
-- one step on each side
theorem Ars {S:List Rl} {a b:Rl} {k:Nat} (h:S.length=k):(S++[a,b])[k]? =some a/\(S++[a,b])[k+1]? =some b/\(S++[a,b]).take k=S:=by
 subst h;refine ⟨by simp,by simp,by simp⟩
theorem Am4 {x y:Rn} {R:List Rn}:((y :: x :: R).map Cd).reverse=(R.map Cd).reverse++[Cd x,Cd y]:=by simp
theorem Qa {x:Rn} {R:List Rn}:((x :: R).map Cd).reverse=(R.map Cd).reverse++[Cd x]:=by simp
theorem Ail (hp:isF p=true) {x y:Rn} (gx:Nm p x) (gy:Nm p y) (h:y.1=x.2.1) (b1:x.1+x.2.1<=100) (b2:y.1+y.2.1<=100) :
  Mz p (Cd x) (Cd y)=some (Cd (Ajv p x y))/\F7 p (Cd x).1 (Cd x).2.1 (Cd x).2.2 (Cd y).1 (Cd y).2.1 (Cd y).2.2=some (Cd (Ajv p x y)):=by
 have gy1:=gy.mb;have l1:=gx.lb;have l2:=gy.lb;rw [h] at gy1 b2 l2;unfold Cd;dsimp only;rw [h];exact ⟨by unfold Mz;rw [Akn hp gx.mb gy1 b1 b2 oM oM];rfl,Ahc hp gx.mb gy1 b1 b2 oM oM⟩
theorem Ahh (hp:isF p=true) {x y:Rn} (gx:Nm p x) (gy:Nm p y) (b1:x.1+x.2.1<=100) (b2:y.1+y.2.1<=100) :
  Qk p (Cd x) (Cd y)=some (Cd (Ahy p x y))/\Gw p (Cd x).1 (Cd x).2.1 (Cd x).2.2 (Cd y).1 (Cd y).2.1 (Cd y).2.2=some (Cd (Ahy p x y)):=by
 have l1:=gx.lb;have l2:=gy.lb;unfold Cd;dsimp only;exact ⟨by unfold Qk;rw [Asg hp gx.mb gy.mb b1 b2 oM oM];show some (wI ((x.1:Int)+(y.1:Int)),wI ((x.2.1:Int)+(y.2.1:Int)),_)=_;rw [A4 oM oM,A4 oM oM];rfl,Ak1 hp gx.mb gy.mb b1 b2 oM oM⟩
-- what leaves stand for
def Ai1 (x:Rl):Rn:=(x.1.toNat,x.2.1.toNat,x.2.2)
theorem Auo {x:Rl} (h1:0<=x.1) (h2:0<=x.2.1):Cd (Ai1 x)=x:=by
 obtain ⟨a,b,c⟩:=x;unfold Cd Ai1;dsimp only at *;rw [Int.toNat_of_nonneg h1,Int.toNat_of_nonneg h2]
theorem Aph {x:Rl} (h:My p x.1 x.2.1 x.2.2=true):Nm p (Ai1 x)/\Cd (Ai1 x)=x:=by
 have G:=Aeh h;have h1:=G.hl;have h2:=G.hr;have e:x.1.toNat+x.2.1.toNat=(x.1+x.2.1).toNat:=by omega
 refine ⟨⟨?_,?_,?_⟩,Auo h1 h2⟩
 ·show MatW p (x.1.toNat+x.2.1.toNat) x.2.2;rw [e];exact G.mb
 ·show x.2.2.length<=x.1.toNat+x.2.1.toNat;have:=G.lb;omega
 ·show gj p (x.1.toNat+x.2.1.toNat) x.2.2=x.2.2;rw [e];exact G.rb
end
end
section
section
variable {p:Int}
def lfD (p:Int) (n:Nd):Rn:=match A5 p n.1 n.2.1 n.2.2 with|some a=>Ai1 a|none=>(0,0,[])
theorem Z6 (hp:isF p=true) {n:Nd} {w:Int×Int} (hw:lfW n=some w) (hs:n.1≠8/\n.1≠14) (hv:n.1=7∨n.1=13->n.2.1<p) :
  Bp p n.1 n.2.1 n.2.2=some (Cd (lfD p n))/\A5 p n.1 n.2.1 n.2.2=some (Cd (lfD p n))/\w=(((lfD p n).1:Int),((lfD p n).2.1:Int))/\Nm p (lfD p n):=by
 obtain ⟨a,h1,h2,h3,rfl⟩:=Ao7 hp hw hs hv;obtain ⟨g1,g2⟩:=Aph (x:=a) h3
 have e:lfD p n=Ai1 a:=by
  unfold lfD;rw [h2]
 rw [e,g2];refine ⟨h1,h2,?_,g1⟩;have e1:(Cd (Ai1 a)).1=a.1:=by rw [g2]
 have e2:(Cd (Ai1 a)).2.1=a.2.1:=by rw [g2]
 exact Prod.ext e1.symm e2.symm
theorem Apa (hp:isF p=true) {xs:List Nd} {k:Nat} {n:Nd} (hx:xs[k]? =some n) (hl:xs.length<=1000) {T T':List (Int×Int)} {R:List Rn} (hT:Ek lfW n T=some T') (hok:okT T) (hR:Ai5 p T R) (hlen:R.length<=1000)
  (hI:∀ w,¬ (n.1=15∨n.1=16)->lfW n=some w->A5 p n.1 n.2.1 n.2.2=some (Cd (lfD p n))) :
  Bw xs p k (R.map Cd).reverse=some (.next (k+1,((Pc p (lfD p) n R).map Cd).reverse)):=by
 have hk:=Ai hx;unfold Bw;rw [Au oM,cond_true,hx,obs];by_cases hc:n.1=15∨n.1=16
 ·unfold Ek at hT;rw [if_pos hc] at hT;split at hT
  ·match T,R,hT,hR with
   | w2 :: w1 :: T,y :: x :: R,hT,⟨⟨ey,gy⟩,⟨ex,gx⟩,hR⟩ =>
    subst ey ex;have o1:=hok _ (List.mem_cons_of_mem _ List.mem_cons_self);have o2:=hok _ List.mem_cons_self;obtain ⟨⟨_,o11⟩,_,o12⟩:=o1;obtain ⟨⟨_,o21⟩,_,o22⟩:=o2;dsimp only at o11 o12 o21 o22 hT;rw [List.length_cons,List.length_cons] at hlen;rw [Am4];have hSl:((R.map Cd).reverse).length=R.length:=by simp
    generalize hS:(R.map Cd).reverse=S at *;obtain ⟨s1,s2,s3⟩:=Ars (a:=Cd x) (b:=Cd y) hSl;have w1:wI (((R.length+2:Nat):Int) - 1)=((R.length+1:Nat):Int):=by rw [A4 oM oM];omega
    have w2:wI (((R.length+1:Nat):Int) - 1)=((R.length:Nat):Int):=by rw [A4 oM oM];omega
    have hl2:(S++[Cd x,Cd y]).length=R.length+2:=by simp [hSl]
    simp only [w1,w2,hl2,Bs (Int.natCast_nonneg _),Int.toNat_natCast,s1,s2,s3,obs];show _=some (Ctl.next (k+1,((if n.1=15 then Ajv p x y :: R else if n.1=16 then Ahy p x y :: R else lfD p n :: y :: x :: R).map Cd).reverse));by_cases h15:n.1=15
    ·rw [if_pos h15] at hT ⊢;split at hT
     ·rename_i he;rw [show (n.1==15)=true from beq_iff_eq.2 h15,cond_true,Af oM,(Ail hp gx gy oM oM oM).1,obs,Af oM,obs,Af oM,Qa,hS]
     ·cases hT
    ·rw [if_neg h15] at hT ⊢;have h16:=hc.resolve_left h15;rw [if_pos h16,show (n.1==15)=false from beq_eq_false_iff_ne.2 h15,cond_false,show (n.1==16)=true from beq_iff_eq.2 h16,cond_true,Af oM,(Ahh hp gx gy oM oM).1,obs,Af oM,obs,Af oM,Qa,hS]
  ·cases hT
 ·unfold Ek at hT;rw [if_neg hc] at hT;obtain ⟨w,hw,_⟩:=oms.1 hT;rw [Qu hc,Qa,show (n.1==15)=false from beq_eq_false_iff_ne.2 (fun e=>hc (.inl e)),cond_false,show (n.1==16)=false from beq_eq_false_iff_ne.2 (fun e=>hc (.inr e)),cond_false];have hSl:((R.map Cd).reverse).length=R.length:=by simp
  rw [hI w hc hw,obs,Af oM,obs,Af oM]
theorem Asc (hp:isF p=true) {xs:List Nd} {k:Nat} {n:Nd} (hx:xs[k]? =some n) (hl:xs.length<=1000) (hst:(n.1==8||n.1==14)=false) {T T':List (Int×Int)} {R:List Rn} (hT:Ek lfW n T=some T') (hok:okT T) (hR:Ai5 p T R) (hlen:R.length<=1000)
  (hI:∀ w,¬ (n.1=15∨n.1=16)->lfW n=some w->Bp p n.1 n.2.1 n.2.2=some (Cd (lfD p n))) :
  Fy xs p k (R.map Cd).reverse=some (.next (k+1,((Pc p (lfD p) n R).map Cd).reverse)):=by
 have hk:=Ai hx;unfold Fy Ci;rw [Au oM,cond_true,hx,obs,show (n.1 !=8)= !(n.1==8) from rfl,show (n.1 !=14)= !(n.1==14) from rfl];obtain ⟨t1,t2⟩:=Bool.or_eq_false_iff.1 hst;rw [t1,t2];by_cases hc:n.1=15∨n.1=16
 ·unfold Ek at hT;rw [if_pos hc] at hT;split at hT
  ·match T,R,hT,hR with
   | w2 :: w1 :: T,y :: x :: R,hT,⟨⟨ey,gy⟩,⟨ex,gx⟩,hR⟩ =>
    subst ey ex;have o1:=hok _ (List.mem_cons_of_mem _ List.mem_cons_self);have o2:=hok _ List.mem_cons_self;obtain ⟨⟨_,o11⟩,_,o12⟩:=o1;obtain ⟨⟨_,o21⟩,_,o22⟩:=o2;dsimp only at o11 o12 o21 o22 hT;rw [List.length_cons,List.length_cons] at hlen;rw [Am4];have hSl:((R.map Cd).reverse).length=R.length:=by simp
    generalize hS:(R.map Cd).reverse=S at *;obtain ⟨s1,s2,s3⟩:=Ars (a:=Cd x) (b:=Cd y) hSl;have hl2:(S++[Cd x,Cd y]).length=R.length+2:=by simp [hSl]
    have w1:wI (((R.length+2:Nat):Int) - 1)=((R.length+1:Nat):Int):=by rw [A4 oM oM];omega
    have w2:wI (((R.length+2:Nat):Int) - 2)=((R.length:Nat):Int):=by rw [A4 oM oM];omega
    simp only [hl2,w1,w2,Bs (Int.natCast_nonneg _),Int.toNat_natCast,s1,s2,s3,obs,Bool.not_false,cond_true,Bool.not_true,cond_false];show _=some (Ctl.next (k+1,((if n.1=15 then Ajv p x y :: R else if n.1=16 then Ahy p x y :: R else lfD p n :: y :: x :: R).map Cd).reverse));by_cases h15:n.1=15
    ·rw [if_pos h15] at hT ⊢;split at hT
     ·rename_i he;have n15:(n.1 !=15)=false:=by rw [h15];rfl
      have b15:(n.1==15)=true:=beq_iff_eq.2 h15;simp only [n15,b15,cond_true,cond_false,obs];rw [Af oM,(Ail hp gx gy oM oM oM).2,obs,Af oM,Qa,hS];exact Af oM _
     ·cases hT
    ·rw [if_neg h15] at hT ⊢;have h16:=hc.resolve_left h15;have n15:(n.1 !=15)=true:=bne_iff_ne.2 h15;have n16:(n.1 !=16)=false:=by rw [h16];rfl
     have b15:(n.1==15)=false:=beq_eq_false_iff_ne.2 h15;rw [if_pos h16];simp only [n15,n16,b15,cond_true,cond_false,obs];rw [Af oM,(Ahh hp gx gy oM oM).2,obs,Af oM,Qa,hS];exact Af oM _
  ·cases hT
 ·unfold Ek at hT;rw [if_neg hc] at hT;obtain ⟨w,hw,_⟩:=oms.1 hT;have n15:(n.1 !=15)=true:=bne_iff_ne.2 fun e=>hc (.inl e)
  have n16:(n.1 !=16)=true:=bne_iff_ne.2 fun e=>hc (.inr e)
  have hSl:((R.map Cd).reverse).length=R.length:=by simp
  rw [Qu hc,Qa];simp only [n15,n16,cond_true,cond_false,obs,Bool.not_false,Bool.not_true];rw [hI w hc hw,obs,Af oM];show og (k+1<4611686018427387904) (some (Ctl.next (k+1,_)))=_;rw [Af oM]
theorem Ato (hp:isF p=true) {xs:List Nd} (hx:xs.length<=400) {T:List (Int×Int)} (hT:Kc lfW xs []=some T) (hs:Yo xs=true) (hv:O5 p xs=true) :
  Ai5 p T (K9 p (lfD p) xs [])/\Aq (fun s_:Nat×(List (Int×Int×List (List Int)))=>Bw xs p s_.1 s_.2) 4611686018427387904 (0,[])=some ((K9 p (lfD p) xs []).map Cd).reverse
   /\ Aq (fun s_:Nat×(List (Int×Int×List (List Int)))=>Fy xs p s_.1 s_.2) 4611686018427387904 (0,[])=some (.next ((K9 p (lfD p) xs []).map Cd).reverse):=by
 have hnode:∀ n∈xs,(n.1≠8/\n.1≠14)/\(n.1=7∨n.1=13->n.2.1<p):=fun n hn=>by
  have h1:=List.all_eq_true.1 hs n hn;have h2:=List.all_eq_true.1 hv n hn;simp only [Bool.not_eq_true',Bool.or_eq_false_iff,beq_eq_false_iff_ne,Bool.and_eq_false_iff,decide_eq_false_iff_not] at h1 h2;exact ⟨h1,fun h=>by rcases h2 with ⟨a,b⟩|h2 <;> omega⟩
 have hleaf:∀ n∈xs,∀ w,¬ (n.1=15∨n.1=16)->lfW n=some w->w=(((lfD p n).1:Int),((lfD p n).2.1:Int))/\Nm p (lfD p n):=fun n hn w _ hw=>by
  obtain ⟨_,_,h3,h4⟩:=Z6 hp hw (hnode n hn).1 (hnode n hn).2;exact ⟨h3,h4⟩
 have hpre:∀ k,k<=xs.length->∃ Tk,Kc lfW (xs.take k) []=some Tk/\okT Tk/\Ai5 p Tk (K9 p (lfD p) (xs.take k) [])/\(K9 p (lfD p) (xs.take k) []).length<=k:=by
  intro k
  induction k with
  | zero=>exact fun _=>⟨[],rfl,(fun _ h=>by cases h),trivial,Nat.le_refl _⟩
  | succ k ih =>
   intro hk;obtain ⟨Tk,h1,h2,h3,h4⟩:=ih oM;have hg:=gEg (show k<xs.length by omega);have hm:=List.getElem_mem (show k<xs.length by omega);have hn:=N1 hg h1;rw [Sm hg];cases hst:Ek lfW xs[k] Tk with
   | none=>rw [hst] at hn;rw [Th hn] at hT;cases hT
   | some T' =>
    rw [hst] at hn;refine ⟨T',hn,Of (fun n w h=>Afl h) hst h2,Aq2 hp (hleaf _ hm) hst h3,?_⟩
    have hlen:∀ (n:Nd) (R:List Rn),(Pc p (lfD p) n R).length<=R.length+1:=fun n R=>by
     unfold Pc;split
     ·split
      ·simp only [List.length_cons];omega
      ·split <;> simp only [List.length_cons] <;> omega
     ·simp
    exact Nat.le_trans (hlen _ _) oM
 refine ⟨?_,?_,?_⟩
 ·obtain ⟨Tk,h1,_,h3,_⟩:=hpre xs.length (Nat.le_refl _);rw [List.take_length] at h1 h3;rw [hT] at h1;obtain rfl:=osj h1;exact h3
 ·refine A7 xs.length (fun k=>(k,((K9 p (lfD p) (xs.take k) []).map Cd).reverse)) oM _ rfl (fun k hk=>?_) ?_
  ·obtain ⟨Tk,h1,h2,h3,h4⟩:=hpre k oM;obtain ⟨Tn,g1,_⟩:=hpre (k+1) oM;have hg:=gEg hk;have hm:=List.getElem_mem hk;have hn:=N1 hg h1;rw [g1] at hn;rw [Sm hg];exact Apa hp hg oM hn.symm h2 h3 oM (fun w hc hw=>(Z6 hp hw (hnode _ hm).1 (hnode _ hm).2).2.1)
  ·try dsimp only
   unfold Bw;rw [At oM,cond_false,List.take_length]
 ·refine A7 xs.length (fun k=>(k,((K9 p (lfD p) (xs.take k) []).map Cd).reverse)) oM _ rfl (fun k hk=>?_) ?_
  ·obtain ⟨Tk,h1,h2,h3,h4⟩:=hpre k oM;obtain ⟨Tn,g1,_⟩:=hpre (k+1) oM;have hg:=gEg hk;have hm:=List.getElem_mem hk;have hn:=N1 hg h1;rw [g1] at hn;rw [Sm hg];refine Asc hp hg oM ?_ hn.symm h2 h3 oM (fun w hc hw=>(Z6 hp hw (hnode _ hm).1 (hnode _ hm).2).1);rw [Bool.or_eq_false_iff,beq_eq_false_iff_ne,beq_eq_false_iff_ne];exact (hnode _ hm).1
  ·try dsimp only
   unfold Fy;rw [At oM,cond_false,List.take_length]
theorem Avh {xs:List Nd} {s:ByteArray} {l r:Int} {b:List (List Int)} (hp:isF p=true) {w:Int×Int} (hT:tyV xs=some w) (hs:Yo xs=true) (hv:O5 p xs=true) :
  ∃ x:Rn,Nm p x/\w=((x.1:Int),(x.2.1:Int))/\okW w/\Jc p xs=some (Cd x)/\L7 p s xs l r b=some (Cd x):=by
 have hw:=hT;unfold tyV tyG at hw;split at hw
 ·rename_i hx;cases hr:Kc lfW xs [] with
  | none=>rw [hr] at hw;cases hw
  | some T =>
   rw [hr] at hw;have hok:=Al4 (fun n w h=>Afl h) hr (fun _ h=>by cases h);obtain ⟨h1,h2,h3⟩:=Ato hp hx.2 hr hs hv
   match T,hw with
   | [v],hw =>
    obtain rfl:=osj hw;generalize K9 p (lfD p) xs []=R at *
    match R,h1 with
    | [x],⟨⟨e,gx⟩,_⟩ =>
     subst e;have ow:=hok _ (List.mem_singleton.2 rfl);refine ⟨x,gx,rfl,ow,?_,?_⟩
     ·unfold Jc;rw [h2];rfl
     ·unfold L7 P4;rw [Wi xs p oM,hT,hp,hv,h3];rfl
 ·cases hw
end
end
section
open Go.RowKit Go.Deep
theorem Aw0:∀ d:Fin 10,strOfNums [IntKind.u8.wrap (wI (48+((d.val:Nat):Int)))]=⟨#[UInt8.ofNat (48+d.val)]⟩:=by
 intro d;apply ByteArray.ext
 revert d
 decide +kernel
theorem Ack {k:Int} (h:0<=k/\k<=9223372036854775807):Gy k=some (At0 k):=by
 unfold Gy At0;by_cases h0:k<=0
 ·rw [Au h0,if_pos h0];rfl
 rw [At h0,cond_false,if_neg h0]
 obtain ⟨r,hr,rfl,hs⟩:=L6 (F:=4611686018427387904) (body:=fun s_:Int×ByteArray=>Gc s_.1 s_.2) (s0:=((k,(⟨#[]⟩:ByteArray)):Int×ByteArray)) (Post:=fun r:ByteArray=>r=⟨(Air k.toNat []).toArray⟩/\r.size<=64) 63 (fun (i:Nat) (s:Int×ByteArray)=>0<=s.1/\s.1.toNat*2 ^ i<=k.toNat/\s.2.size<=i/\∃ l:List UInt8,s.2=⟨l.toArray⟩/\Air s.1.toNat l=Air k.toNat []) oM ⟨h.1,by simp,Nat.le_refl _,[],rfl,rfl⟩ (by
  rintro i ⟨v,t⟩ hi ⟨h1,h2,h3,l,h4,h5⟩;dsimp only at h1 h2 h3 h4 h5
  try dsimp only
  unfold Gc;by_cases hv:0<v
  ·obtain ⟨n,rfl⟩:∃ n:Nat,v=n:=⟨v.toNat,by omega⟩
   have hd:Int.tdiv (n:Int) 10=((n / 10:Nat):Int):=by rw [Int.tdiv_eq_ediv_of_nonneg h1];omega
   have hm:Int.tmod (n:Int) 10=((n % 10:Nat):Int):=by rw [Int.tmod_eq_emod_of_nonneg h1];omega
   have hF:=Aw0 ⟨n % 10,Nat.mod_lt _ oM⟩;simp only at hF
   have hn:n<=9223372036854775807:=by
    have:n*1<=n*2 ^ i:=Nat.mul_le_mul_left _ (Nat.one_le_two_pow);simp only [Int.toNat_natCast] at h2;omega
   rw [Au hv,cond_true,hm,hF,Af (by show 1+t.size<=_;omega),hd,A4 (n:=((n / 10:Nat):Int)) oM oM];refine .inl ⟨_,rfl,by dsimp only;omega,?_,?_,UInt8.ofNat (48+n % 10) :: l,?_,?_⟩
   ·dsimp only;simp only [Int.toNat_natCast] at h2 ⊢;rw [Nat.pow_succ]
    have:(n / 10)*(2 ^ i*2)<=n*2 ^ i:=by
     rw [Nat.mul_comm (2 ^ i) 2,← Nat.mul_assoc];exact Nat.mul_le_mul_right _ oM
    omega
   ·dsimp only;rw [ByteArray.size_append];show 1+t.size<=i+1;omega
   ·dsimp only;rw [h4];apply ByteArray.ext;simp
   ·dsimp only;rw [← h5];simp only [Int.toNat_natCast];rw [Air.eq_def n l,dif_neg oM]
  ·obtain rfl:v=0:=by omega
   rw [At hv];refine .inr ⟨_,rfl,?_,by omega⟩;rw [h4,← h5,Air.eq_def];rfl) (by
  rintro ⟨v,t⟩ ⟨h1,h2,h3,l,h4,h5⟩;dsimp only at h1 h2 h3 h4 h5
  try dsimp only
  unfold Gc;obtain rfl:v=0:=by omega
  rw [At oM];refine ⟨_,rfl,?_,by omega⟩;rw [h4,← h5,Air.eq_def];rfl)
 rw [hr,obs,Af (by show 1+ByteArray.size _<=_;omega)];rfl
end
section
theorem Ah8 (xs:List Int) {v:Int} (hv:0<=v/\v<=1152921504606846976) (hx:xs.length<=1073741824):Jw xs v=some (mkL v xs.length,v+xs.length):=by
 unfold Jw
 have h:Aq (fun s_:Int×Nat×List Int=>Ga s_.1 s_.2.1 s_.2.2) 4611686018427387904 (v,0,xs)=some (v+xs.length,mkL v xs.length):=by
  refine A7 xs.length (fun i=>(v+i,i,mkL v i++xs.drop i)) oM _ (by simp [mkL]) (fun i hi=>?_) ?_
  ·have hl:(mkL v i).length=i:=by simp [mkL]
   try dsimp only
   unfold Ga;rw [Au (by rw [List.length_append,hl,List.length_drop];omega),cond_true,Kk hi hl,obs,Af oM,Kn hi hl,A4 oM oM];unfold mkL;rw [List.range_succ,List.map_append];simp [Int.add_assoc]
  ·try dsimp only
   unfold Ga;rw [At (by simp [mkL]),cond_false];simp [mkL]
 rw [h];rfl
theorem Ain (n:Nat) {v:Int} (hv:0<=v/\v<=1152921504606846976) (hx:n<=1073741824):Jz (mkL v n) v=some (v+n):=by
 unfold Jz
 have h:Aq (fun s_:Int×Nat=>Gd (mkL v n) s_.1 s_.2) 4611686018427387904 (v,0)=some (.next (v+n)):=by
  refine A7 n (fun i=>(v+i,i)) oM _ (by simp) (fun i hi=>?_) ?_
  ·have hg:(mkL v n)[i]? =some (v+i):=by simp [mkL,hi]
   try dsimp only
   unfold Gd;rw [Au (by simp [mkL];omega),cond_true,hg,obs,bne_self_eq_false,cond_false,Af oM,A4 oM oM];simp [Int.add_assoc]
  ·try dsimp only
   unfold Gd;rw [At (by simp [mkL]),cond_false]
 rw [h];rfl
theorem Aie (xss:List (List Int)) {v:Int} (hv:0<=v/\v<=576460752303423488) (hn:xss.length<=1048576) (hb:Fx 1048576 xss) :
  ∃ yss,∃ u:Int,v<=u/\u<=v+1099511627776/\Ig xss v=some (yss,u)/\yss.length=xss.length/\Ia yss v=some u:=by
 have hm:xss.length*1048576<=1048576*1048576:=Nat.mul_le_mul_right _ hn;have ht:=fun i=>Anq hb i
 have htt:Fr xss<=xss.length*1048576:=Ago hb;refine ⟨Ng v xss,v+Fr xss,by omega,by omega,?_,J4 _ _,?_⟩
 ·unfold Ig
  have h:Aq (fun s_:Int×Nat×List (List Int)=>Fp s_.1 s_.2.1 s_.2.2) 4611686018427387904 (v,0,xss)=some (v+Fr xss,Ng v xss):=by
   refine A7 xss.length (fun i=>(v+Fr (xss.take i),i,(Ng v xss).take i++xss.drop i)) oM _ (by simp [Fr]) (fun i hi=>?_) ?_
   ·have hl:((Ng v xss).take i).length=i:=by rw [List.length_take,J4];omega
    have h1:=hb _ (List.getElem_mem hi);have h2:=ht i;have hg:=Ur v xss i hi
    try dsimp only
    unfold Fp;rw [Au (by rw [List.length_append,hl,List.length_drop];omega),cond_true,Kk hi hl,obs,Ah8 _ oM oM,obs,Af (by simp [mkL]),Af oM,Kn hi hl,W6 hi,List.take_add_one,hg];simp [Int.add_assoc]
   ·try dsimp only
    unfold Fp;have hl:((Ng v xss).take xss.length).length=xss.length:=by rw [List.length_take,J4];omega
    rw [At (by rw [List.length_append,hl];simp),cond_false];simp [List.take_of_length_le,J4]
  rw [h];rfl
 ·unfold Ia
  have h:Aq (fun s_:Int×Nat=>Fj (Ng v xss) s_.1 s_.2) 4611686018427387904 (v,0)=some (.next (v+Fr xss)):=by
   refine A7 xss.length (fun i=>(v+Fr (xss.take i),i)) oM _ (by simp [Fr]) (fun i hi=>?_) ?_
   ·have h1:=hb _ (List.getElem_mem hi);have h2:=ht i
    try dsimp only
    unfold Fj;rw [Au (by rw [J4];omega),cond_true,Ur v xss i hi,obs,Ain _ oM oM,obs,At oM,cond_false,Af oM,W6 hi];simp [Int.add_assoc]
   ·try dsimp only
    unfold Fj;rw [At (by rw [J4];omega),cond_false,List.take_length]
  rw [h];rfl
def Aom (v:Int) (i:Nat):Nd:=(v+3*(i:Int),v+3*(i:Int)+1,At0 (v+3*(i:Int)+2))
def Np (v:Int) (n:Nat):List Nd:=(List.range n).map (Aom v)
theorem Ko (v:Int) (n:Nat):(Np v n).length=n:=by simp [Np]
theorem Akp (v:Int) (n:Nat):Np v (n+1)=Np v n++[Aom v n]:=by simp [Np,List.range_succ]
theorem Aog (xs:List Nd) {v:Int} (hv:0<=v/\v<=576460752303423488) (hx:xs.length<=1048576):Ik xs v=some (Np v xs.length,v+3*xs.length):=by
 unfold Ik
 suffices hL:Aq (fun s_:Int×Nat×List Nd=>Fg s_.1 s_.2.1 s_.2.2) 4611686018427387904 (v,0,xs)=some (v+3*xs.length,Np v xs.length) by
  rw [hL];rfl
 refine A7 xs.length (fun i=>(v+3*(i:Int),i,Np v i++xs.drop i)) oM _ (by simp [Np]) (fun i hi=>?_) ?_
 ·have hp:=Kk (ys:=Np v i) hi (Ko v i);have hl:i<(Np v i++xs.drop i).length:=(Ai hp)
  try dsimp only
  unfold Fg;rw [Au oM,cond_true,hp,obs,List.getElem?_set_self hl,obs,A4 (n:=v+3*(i:Int)+1) oM oM,A4 (n:=v+3*(i:Int)+1+1) oM oM,Ack oM,obs,List.set_set,List.getElem?_set_self hl,obs,List.set_set,Af oM,A4 oM oM,Kn hi (Ko v i),Akp];have e1:v+3*(i:Int)+1+1=v+3*(i:Int)+2:=by omega
  have e2:v+3*(i:Int)+1+1+1=v+3*((i+1:Nat):Int):=by omega
  rw [e2,e1];rfl
 ·try dsimp only
  unfold Fg;rw [List.drop_length,List.append_nil,Ko,At oM,cond_false]
theorem Aoq (n:Nat) {v:Int} (hv:0<=v/\v<=576460752303423488) (hx:n<=1048576):I0 (Np v n) v=some (v+3*n):=by
 unfold I0
 suffices hL:Aq (fun s_:Int×Nat=>Fe (Np v n) s_.1 s_.2) 4611686018427387904 (v,0)=some (.next (v+3*n)) by
  rw [hL];rfl
 refine A7 n (fun i=>(v+3*(i:Int),i)) oM _ (by simp) (fun i hi=>?_) ?_
 ·have hx:(Np v n)[i]? =some (Aom v i):=by unfold Np;rw [List.getElem?_map,List.getElem?_range hi];rfl
  have e1:v+3*(i:Int)+1+1=v+3*(i:Int)+2:=by omega
  have e2:v+3*(i:Int)+2+1=v+3*((i+1:Nat):Int):=by omega
  try dsimp only
  unfold Fe;rw [Ko,Au oM,cond_true,hx,obs,show (Aom v i).1=v+3*(i:Int) from rfl,bne_self_eq_false,cond_false,A4 (n:=v+3*(i:Int)+1) oM oM,show (Aom v i).2.1=v+3*(i:Int)+1 from rfl,bne_self_eq_false,cond_false,A4 (n:=v+3*(i:Int)+1+1) oM oM,e1,Ack oM,obs,show (Aom v i).2.2=At0 (v+3*(i:Int)+2) from rfl,beq_self_eq_true,Bool.not_true,cond_false,Af oM,A4 oM oM,e2]
 ·try dsimp only
  unfold Fe;rw [Ko,At oM,cond_false]
theorem Aec (s:ByteArray) (xs:List Nd) (l r:Int) (b:List (List Int)) (hx:xs.length<=1048576) (hb:b.length<=1048576) (hr:Fx 1048576 b):∃ ys bs,∃ u:Int,0<=u/\Dw s xs l r b 1=some (ys,bs,u)/\ys.length=xs.length/\bs.length=b.length/\Ds s ys l r bs 1=some u:=by
 have h1:=Aog xs (v:=1) oM hx;have h2:=Aoq xs.length (v:=1) oM hx;obtain ⟨bs,u,h3,_,h4,h5,h6⟩:=Aie b (v:=1+3*xs.length) oM hb hr;refine ⟨Np 1 xs.length,bs,u,by omega,?_,Ko _ _,h5,?_⟩
 ·unfold Dw Nk I5;rw [h1,obs,Af (Ko _ _),obs,Af (Ko _ _),h4,obs,Af h5]
  first
   | rfl
   | rw [obs,Af h5]
 ·unfold Ds Na I1;rw [h2,obs,At oM,cond_false,obs,At oM,cond_false,h6,obs,At oM,cond_false,obs,At oM,cond_false]
section
variable {p:Int}
theorem Aip {n:Nat} (m:List (List Int)) (hl:m.length<=1000) (hm:MatW p n m) (hn:n<=1000):Mm m=some m:=by
 unfold Mm
 have key:Aq (fun s_:Nat×List (List Int)=>Is m s_.1 s_.2) 4611686018427387904 (0,([]:List (List Int)))=some ([]++m.map fun x=>x):=by
  refine Dj m (fun x=>x) [] oM _ (fun j x h=>?_) ?_
  ·have:=Ai h;have hxl:=(hm x (List.mem_of_getElem? h)).1
   try dsimp only
   unfold Is;rw [Au oM,cond_true,h,obs,Vh _ oM,obs,Af (by simp;omega),Af oM]
  ·try dsimp only
   unfold Is;rw [At oM,cond_false]
 rw [key];simp
theorem Aw3 {s:ByteArray} {xs:List Nd} {l r:Int} {b:List (List Int)} (hx:xs.length<=1048576) (hb:b.length<=1048576) (hr:Fx 1048576 b) :
  ∃ (s':ByteArray) (xs':List Nd) (l' r':Int) (b':List (List Int)) (o:Bool),D0 p s xs l r b=some (s',xs',l',r',b',o)/\Cy p s xs l r b=some (o,s',l',r',xs',b')/\xs'.length<=1048576/\b'.length<=1048576/\Fx 1048576 b':=by
 have hx':xs.length<=1073741824:=by omega
 unfold D0 Cy;obtain ⟨v,g1,g2⟩:=Axg p s xs l r b hx' hb hr;rw [g1,g2,obs,obs];cases v
 ·exact ⟨_,_,_,_,_,_,rfl,rfl,by simp,by simp,fun x h=>by cases h⟩
 obtain ⟨hp,hv,hs,hg,hT⟩:=Aoc hx' hb hr g1;have GG:=Aeh hg;have gm:=GG.mb;have glb:=GG.lb;have ghs:=GG.hs;have ghl:=GG.hl;have ghr:=GG.hr;obtain ⟨x,gx,hw,ow,d1,d2⟩:=Avh (s:=s) (l:=l) (r:=r) (b:=b) hp hT hs hv;obtain ⟨e1,e2⟩:=Prod.mk.inj hw;have xl:=gx.lb;have xm:=gx.mb
 have hd:K3 p xs=some (Cd x):=by
  unfold K3;rw [Af hx,d1]
 have hc:Ms s xs l r b=some (s,xs,l,r,b):=by
  unfold Ms Q1 Ib;rw [Af oM,Aip _ oM gm oM];rfl
 have ho:Ib (Cd x).1 (Cd x).2.1 (Cd x).2.2=some (Cd x):=by
  unfold Ib;rw [show (Cd x).2.2=x.2.2 from rfl,Aip _ oM xm oM];rfl
 have ht:Jt xs=some xs:=by
  unfold Jt Bx;rw [Af oM];rfl
 rw [d2,hc,hd,ht];simp only [Bool.not_true,cond_false,obs,ho];refine ⟨_,_,_,_,_,_,rfl,rfl,hx,?_,?_⟩
 ·show x.2.2.length<=1048576;omega
 ·intro y hy;have:=(xm y hy).1;omega
theorem Ao3 {s:ByteArray} {xs:List Nd} {l r:Int} {b:List (List Int)} (h0:s.size<=9223372036854775807) (hx:xs.length<=9223372036854775807) (hs:∀ n∈xs,n.2.2.size<=9223372036854775807) (hb:b.length<=9223372036854775807) (hr:Fx 9223372036854775807 b):Ce p s xs l r b=some true:=by
 unfold Ce;obtain ⟨y,hy,h1|⟨h1,h2,h3,h4,h5⟩⟩:=Adn s xs l r b (v:=1048576) oM h0 hx hs hb hr
 ·rw [hy,obs,Au h1];rfl
 obtain ⟨s',xs',l',r',b',o,g1,g2,v1,v2,v3⟩:=Aw3 (p:=p) (s:=s) (l:=l) (r:=r) h3 h4 h5;obtain ⟨ys,bs,u,k0,k1,k2,k3,_⟩:=Aec s xs l r b h3 h4 h5;obtain ⟨zs,cs,w,q0,q1,q2,q3,q4⟩:=Aec s' xs' l' r' b' v1 v2 v3;rw [hy,obs,At oM,cond_false];have d1:decide (u<0)=false:=decide_eq_false oM;have d2:decide (w<0)=false:=decide_eq_false oM;simp only [Adk s xs l r b h3 h4 h5,obs,g1,g2,T4 s xs l r b h3 h4 h5,T4 s' xs' l' r' b' v1 v2 v3,k1,Af k2,Af k3,q1,Af q2,Af q3,q4,d1,d2,bne_self_eq_false,cond_false,Bool.not_true]
end
end
section
open Go.RowKit Go.Deep
theorem strongestPromise_walk (p:Int) (xName:ByteArray) (xBodyNodes:List (Int×Int×ByteArray)) (A_xBodyNodes:Option Addr) (c_xBodyNodes:Nat) (l_xBodyNodes:List Addr) (xPromiseLeft:Int) (xPromiseRight:Int) (xPromiseBasis:List (List Int)) (A_xPromiseBasis:Option Addr) (c_xPromiseBasis:Nat) (l_xPromiseBasis:List Addr) (w:World) (_i_p: -9223372036854775808<=p/\p<=9223372036854775807) (i_xName:xName.size<=maxLen) (s_xBodyNodes:Sl (fun _=>True) w (.pair .int (.pair .int .str)) A_xBodyNodes c_xBodyNodes xBodyNodes l_xBodyNodes) (i_xBodyNodes:Ty.In (.slice (.pair .int (.pair .int .str))) xBodyNodes) (_i_xPromiseLeft: -9223372036854775808<=xPromiseLeft/\xPromiseLeft<=9223372036854775807) (_i_xPromiseRight: -9223372036854775808<=xPromiseRight/\xPromiseRight<=9223372036854775807) (s_xPromiseBasis:Sl (fun _=>True) w (.slice .int) A_xPromiseBasis c_xPromiseBasis xPromiseBasis l_xPromiseBasis) (_i_xPromiseBasis:Ty.In (.slice (.slice .int)) xPromiseBasis) (tab:Tab w) :
  Calls Tryz.prog 5 #[.int .i64 p,.agg #[.string xName,.slice A_xBodyNodes xBodyNodes.length c_xBodyNodes,.int .i64 xPromiseLeft,.int .i64 xPromiseRight,.slice A_xPromiseBasis xPromiseBasis.length c_xPromiseBasis]] w fun e w'=>e=.returned (.bool true)/\Below w.heap.size w w':=by
 have hl:Ce p xName xBodyNodes xPromiseLeft xPromiseRight xPromiseBasis=some true:=Ao3 (Nat.le_trans i_xName (by decide)) (Afz s_xBodyNodes).2 (fun n hn=>Nat.le_trans (i_xBodyNodes n hn).2.2 (by decide)) (Afz s_xPromiseBasis).2 (Ata s_xPromiseBasis);refine (Ll hl w (fun _=>True) [.int .i64 p,.agg #[.string xName,.slice A_xBodyNodes xBodyNodes.length c_xBodyNodes,.int .i64 xPromiseLeft,.int .i64 xPromiseRight,.slice A_xPromiseBasis xPromiseBasis.length c_xPromiseBasis]] (fun w' hb=>tab.below hb) ⟨_,_,rfl,rfl,⟨_,_,rfl,⟨_,rfl,⟨_,_,rfl,rfl,⟨_,_,rfl,⟨A_xBodyNodes,c_xBodyNodes,l_xBodyNodes,rfl,s_xBodyNodes⟩,⟨_,_,rfl,rfl,⟨_,_,rfl,rfl,⟨_,_,rfl,⟨A_xPromiseBasis,c_xPromiseBasis,l_xPromiseBasis,rfl,s_xPromiseBasis⟩,rfl⟩⟩⟩⟩⟩⟩,rfl⟩⟩).mono ?_;rintro e w' ⟨u,rfl,hb,us,ls,h1,_,rfl⟩;obtain ⟨u1,us1,rfl,h2,_,rfl,rfl⟩:=h1;obtain rfl:u1=.bool true:=h2;exact ⟨rfl,hb⟩
end
end Go.Proofs.YthlpchhhinipaaaGreatDoor
