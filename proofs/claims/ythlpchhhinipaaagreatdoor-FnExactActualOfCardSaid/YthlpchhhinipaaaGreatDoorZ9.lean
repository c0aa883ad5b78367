/- Lemmas on the program and on partial functions that stand in place of its code (part 9); no condition beyond those that each one states. -/
import Derived.Test.YthlpchhhinipaaaGreatDoorZ8
import Derived.Deep.RegionHeld3
import Derived.Deep.DeepCutAuto
namespace Go.Proofs.YthlpchhhinipaaaGreatDoor
open Go.RowKit Go.Deep List
section
section
variable{p:Int}{n:Nat}{m:ZA}
theorem Aw9{u:Nat->Nat}{k:Nat}(h:∀ i j,i<j->j<k->u i<u j):∀ i,i<k->i<=u i:=by
 intro i
 induction i with
 | zero=>intro _;omega
 | succ i ih=>intro hi;have:=ih oM;have:=h i (i+1) oM hi;omega
theorem Auv{pv:Nat->Nat}(h:Ru n m.length m pv):m.length<=n:=by
 refine Nat.le_of_not_lt fun hlt=>?_
 have h1:=Aw9 (fun i j a b=>h.mono i j a b) n hlt;have h2:=h.lt n hlt;omega
theorem Anj(hp:isF p=true)(hm:MatW p n m):MatW p n (gj p n m)/\(gj p n m).length<=n/\gj p n (gj p n m)=gj p n m:=by
 have hb:=Dh hp;have ⟨⟨pv,h1⟩,_⟩:=Xl hb.1 (Aea hp) hm;have h2:=U5 (n:=n) hb.1 hm;exact ⟨h2,Auv h1,Aih hb.1 (Aea hp) h2 h2 h1 fun _=>Iff.rfl⟩
theorem Akp{pv:Nat->Nat}(hp:isF p=true)(hm:MatW p n m)(h:Ru n m.length m pv):gj p n m=m:=
 Aih (Dh hp).1 (Aea hp) hm hm h fun _=>Iff.rfl
def idB(n:Nat):ZA:=(List.range n).map fun k=>unV n k++unV n k
theorem Awy{i:Nat}(hi:i<n):(idB n)[i]? =some (unV n i++unV n i):=by
 unfold idB;rw[List.getElem?_map,List.getElem?_range hi];rfl
theorem Aj3(hp:2<=p):MatW p (n+n) (idB n):=fun x hx=>by
 obtain ⟨k,_,rfl⟩:=List.mem_map.1 hx;have h:=Aco (n:=n) (k:=k) hp;exact ⟨by rw[List.length_append,h.1],fun a ha=>(List.mem_append.1 ha).elim (h.2 a) (h.2 a)⟩
theorem Azo{i j:Nat}(hi:i<n)(hj:j<n):en (idB n) i j=if j=i then 1 else 0:=by
 unfold en;rw[Bw<|Awy hi,gDg,List.getElem?_append_left (by simp[unV];omega),← gDg,Ani hi]
theorem Awt{i:Nat}(hi:i<n):(idV n)[i]? =some (unV n i):=by
 unfold idV;rw[List.getElem?_map,List.getElem?_range hi];rfl
theorem Ay6{i j:Nat}(hi:i<n):en (idV n) i j=if j=i then 1 else 0:=by
 unfold en;rw[Bw<|Awt hi,Ani hi]
theorem Axa(hp:2<=p):MatW p n (idV n):=fun x hx=>by
 obtain ⟨k,_,rfl⟩:=List.mem_map.1 hx;exact Aco hp
theorem Ap0{R:ZA}{c:Nat}(hl:R.length=n)(hc:n<=c)(he:∀ i j,i<n->j<n->en R i j=if j=i then 1 else 0):Ru c R.length R id where
 rl:=fQ _
 lt i hi:=by show i<c;omega
 mono i k h _:=h
 low i hi j hj:=by
  have hj:j<i:=hj;rw[he i j oM oM,fB oM]
 one i hi:=by show en R i i=1;rw[he i i oM oM,fW rfl]
 zero i hi k hk:=by
  show en R k i=0;by_cases h:k<n
  ·rw[he k i h oM,fB oM]
  ·exact Ss oM
 tail i hi j _:=Ss hi
theorem Aoo(hp:isF p=true):gj p (n+n) (idB n)=idB n:=
 Akp hp (Aj3 (Dh hp).1) (Ap0 (n:=n) (by simp[idB]) oM fun i j hi hj=>Azo hi hj)
theorem Ax8(hp:isF p=true):gj p n (idV n)=idV n:=
 Akp hp (Axa (Dh hp).1) (Ap0 (n:=n) (by simp[idV]) (fQ _) fun i j hi _=>Ay6 hi)
theorem Xg(hn:n<=1000):Ex (n:Int)=some ((n:Int),(n:Int),idB n):=by
 unfold Ex
 have key:Aq (fun s_:Nat×ZA=>Ds (n:Int) s_.1 s_.2) 4611686018427387904 (0,([]:ZA))=some (idB n):=by
  refine Bg n (fun k=>(k,(List.range k).map fun k=>unV n k++unV n k)) oM _ rfl (fun k hk=>?_) ?_
  ·try dsimp only
   unfold Ds;rw[fH oM,Apt hk hn,obs,obs,Agz _ _ (by simp[unV];omega),obs,Af sO,Af oM,List.range_succ,List.map_append];rfl
  ·try dsimp only
   unfold Ds;rw[fJ oM];rfl
 rw[key];rfl
theorem Awx(hp:2<=p):gj p n []=[]:=by
 have h2:(gj p n []).length<=0:=by
  unfold gj;rw[List.length_take,(Nn hp (w:=0) (m:=[]) (fun x hx=>by cases hx) n).2.2];exact Nat.min_le_right _ _
 exact List.length_eq_zero_iff.1 oM
theorem Azv(hp:isF p=true):O0 p n []=idV n:=by
 unfold O0;rw[Awx (Dh hp).1]
 have:Ts p n []=idV n:=by
  unfold Ts Abg idV;rw[List.filter_eq_self.2 (fun j _=>by simp[pvs])];rfl
 rw[this,Ax8 hp]
def rgI(n:Nat):List Int:=(List.range n).map fun k=>((k:Nat):Int)
theorem Azg(hn:n<=1000):Qp (n:Int)=some ((n:Int),[],rgI n,rgI n):=by
 unfold Qp
 have key:Aq (fun s_:Nat×List Int=>Mz (n:Int) s_.1 s_.2) 4611686018427387904 (0,[])=some (rgI n):=by
  refine Bg n (fun k=>(k,rgI k)) oM _ rfl (fun k hk=>?_) ?_
  ·have hl:(rgI k).length=k:=by simp[rgI]
   try dsimp only
   unfold Mz;rw[fH oM,Af oM,Af oM,Af oM];unfold rgI;rw[List.range_succ,List.map_append];rfl
  ·try dsimp only
   unfold Mz;rw[fJ oM]
 rw[key];rfl
theorem Ak3(ends x:List Int)(hl:ends.length<=1000)(he:∀ e∈ends,0<=e/\e.toNat<x.length):Ks ends x=some (ends.map fun e=>x.getD e.toNat 0):=by
 unfold Ks
 have key:Aq (fun s_:Nat×List Int=>Kd ends x s_.1 s_.2) 4611686018427387904 (0,[])=some ([]++ends.map fun e=>x.getD e.toNat 0):=by
  refine Dl ends (fun e=>x.getD e.toNat 0) [] oM _ (fun j e h=>?_) ?_
  ·have:=Ai h;have hb:=he e<|List.mem_of_getElem? h
   try dsimp only
   unfold Kd;rw[fH oM,h,obs,B9 hb.1,gEg hb.2,obs,Af sO,Af oM,gDg,gEg hb.2];rfl
  ·try dsimp only
   unfold Kd;rw[fJ oM]
 rw[key];rfl
theorem Aw2(k:Nat):(rgI n).map (fun e=>(unV n k).getD e.toNat 0)=unV n k:=by
 unfold rgI;rw[List.map_map];refine List.ext_getElem? fun i=>?_
 by_cases h:i<n
 ·rw[List.getElem?_map,List.getElem?_range h];show some ((unV n k).getD i 0)=_;rw[gDg,gEg (show i<(unV n k).length by simp[unV];omega)];rfl
 ·rw[List.getElem?_eq_none sO,List.getElem?_eq_none (by simp[unV];omega)]
theorem Avs(hp:isF p=true)(hn:n<=12):G7 p (n:Int) [] (rgI n) (rgI n)=some true:=by
 have hv:Dr (n:Int) [] (rgI n) (rgI n)=some true:=by
  rcases (show n=0∨n=1∨n=2∨n=3∨n=4∨n=5∨n=6∨n=7∨n=8∨n=9∨n=10∨n=11∨n=12 by omega) with rfl|rfl|rfl|rfl|rfl|rfl|rfl|rfl|rfl|rfl|rfl|rfl|rfl <;> kernel_rfl
 unfold G7 Nt;rw[Uh,hp,obs,fD,fY,hv];rfl
theorem A0i(hp:isF p=true)(hn:n<=12)(s:ByteArray):Bt p 1 (n:Int) s=some ((n:Int),(n:Int),idB n):=by
 have hb:=Dh hp;have hl:(rgI n).length=n:=by simp[rgI]
 unfold Bt N5;rw[show ((1:Int)==1)=true from rfl,fZ,Azg oM,obs,obs];unfold Ft;dsimp only;rw[Avs hp hn,obs,fD,fY,Yv _ oM,obs,Af oM]
 have hvs:F5 p (n:Int) [] (rgI n) (rgI n)=some (idV n):=by
  unfold F5;rw[show Aq (fun s_:Nat×ZA=>Fv [] p (n:Int) s_.1 s_.2) 4611686018427387904 (0,[])=some [] from rfl,obs,Aff hp (fun x hx=>by cases hx) oM fS,Azv hp];rfl
 rw[hvs,obs]
 have key:Aq (fun s_:Nat×ZA=>Dx (idV n) (rgI n) (rgI n) s_.1 s_.2) 4611686018427387904 (0,([]:ZA))=some ([]++(idV n).map fun x=>x++x):=by
  refine Dl (idV n) (fun x=>x++x) [] (by simp[idV];omega) _ (fun j x h=>?_) ?_
  ·have:=Ai h;have hil:(idV n).length=n:=by simp[idV]
   obtain ⟨k,_,rfl⟩:=List.mem_map.1<|List.mem_of_getElem? h
   try dsimp only
   unfold Dx;rw[fH oM,h,obs,Ak3 _ _ (by rw[List.length_append];omega) (fun e he=>?_),obs,Af sO,Af oM,List.map_append,Aw2];rw[List.mem_append,or_self]at he;obtain ⟨i,hi,rfl⟩:=List.mem_map.1 he;have:=List.mem_range.1 hi;exact ⟨by omega,by simp[unV];omega⟩
  ·try dsimp only
   unfold Dx;rw[fJ oM]
 rw[key,obs,List.nil_append,show (idV n).map (fun x=>x++x)=idB n by unfold idV idB;rw[List.map_map];rfl,hl,Aje hp (Aj3 hb.1) oM (by simp[idB];omega),Aoo hp];rfl
end
section
variable{p v:Int}
theorem Aj9{i j:Int}(hp:2<=p/\p<=97)(hv:0<=v/\v<p)(hi:i=0/\j=1∨i=1/\j=0):Dc p 2 [i,j] [1,v]=some (if i=0 then [1,v] else [v,1]):=by
 have e1:Ee p 0 1=some 1:=by rw[Apj hp oM oM,Int.emod_eq_of_lt oM oM];rfl
 have e2:Ee p 0 v=some v:=by rw[Apj hp oM hv,Int.zero_add,Int.emod_eq_of_lt hv.1 hv.2]
 unfold Dc;rw[Af oM];rcases hi with ⟨rfl,rfl⟩|⟨rfl,rfl⟩
 ·have h:Aq (fun s_:Nat×List Int=>O3 [0,1] [1,v] p s_.1 s_.2) 4611686018427387904 (0,List.replicate (2:Int).toNat (0:Int))=some [1,v]:=by
   refine Bg 2 (fun i=>(i,if i=0 then [0,0] else if i=1 then [1,0] else [1,v])) oM _ rfl (fun i hi=>?_) rfl;rcases (show i=0∨i=1 by omega) with rfl|rfl
   ·show Option.bind (Ee p 0 1) (fun y15=>og (0+1<4611686018427387904)<|some<|Ctl.next (0+1,[0,0].set 0 y15))=_;rw[e1,obs,Af oM];rfl
   ·show Option.bind (Ee p 0 v) (fun y15=>og (1+1<4611686018427387904)<|some<|Ctl.next (1+1,[1,0].set 1 y15))=_;rw[e2,obs,Af oM];rfl
  rw[h];rfl
 ·have h:Aq (fun s_:Nat×List Int=>O3 [1,0] [1,v] p s_.1 s_.2) 4611686018427387904 (0,List.replicate (2:Int).toNat (0:Int))=some [v,1]:=by
   refine Bg 2 (fun i=>(i,if i=0 then [0,0] else if i=1 then [0,1] else [v,1])) oM _ rfl (fun i hi=>?_) rfl;rcases (show i=0∨i=1 by omega) with rfl|rfl
   ·show Option.bind (Ee p 0 1) (fun y15=>og (0+1<4611686018427387904)<|some<|Ctl.next (0+1,[0,0].set 1 y15))=_;rw[e1,obs,Af oM];rfl
   ·show Option.bind (Ee p 0 v) (fun y15=>og (1+1<4611686018427387904)<|some<|Ctl.next (1+1,[0,1].set 0 y15))=_;rw[e2,obs,Af oM];rfl
  rw[h];rfl
theorem Ajv(hp:2<=p):0<=scV p v/\scV p v<p:=Ut hp
theorem Aub{k:Int}(hp:isF p=true)(hv:0<=v/\v<p)(hva:Dr 2 [(k,v,[0],[1])] [0] [1]=some true)(hk:C5 k=some true):G7 p 2 [(k,v,[0],[1])] [0] [1]=some true:=by
 unfold G7 Nt
 have h1:Aq (fun s_:Nat=>J9 [(k,v,[0],[1])] p s_) 4611686018427387904 0=some (Ctl.next ()):=by
  refine Bg 1 (fun i=>i) oM _ rfl (fun i hi=>?_) ?_
  ·obtain rfl:i=0:=by omega
   unfold J9;simp only[List.length_singleton,List.getElem?_cons_zero,obs];rw[fH oM,fJ oM,Af oM]
  ·unfold J9;simp only[List.length_singleton];rw[fJ oM]
 have h2:Aq (fun s_:Nat=>Iy [(k,v,[0],[1])] s_) 4611686018427387904 0=some (Ctl.next ()):=by
  refine Bg 1 (fun i=>i) oM _ rfl (fun i hi=>?_) ?_
  ·obtain rfl:i=0:=by omega
   unfold Iy;simp only[List.length_singleton,List.getElem?_cons_zero,obs,hk];rw[fH oM,fD,fY,Af oM]
  ·unfold Iy;simp only[List.length_singleton];rw[fJ oM]
 rw[Uh,hp,obs,fD,fY,hva,obs,obs,fD,fY,h1,h2];rfl
theorem Ask{k:Int}{row:List Int}(hp:isF p=true)(hr:Ig p 2 k v [0] [1]=some [row])(hm:MatW p 2 [row]):F5 p 2 [(k,v,[0],[1])] [0] [1]=some (O0 p 2 [row]):=by
 unfold F5
 have h1:Aq (fun s_:Nat×ZA=>Fv [(k,v,[0],[1])] p 2 s_.1 s_.2) 4611686018427387904 (0,[])=some [row]:=by
  refine Bg 1 (fun i=>(i,if i=0 then [] else [row])) oM _ rfl (fun i hi=>?_) ?_
  ·obtain rfl:i=0:=by omega
   try dsimp only
   unfold Fv;simp only[List.length_singleton,List.getElem?_cons_zero,obs,hr];rw[fH oM,Af fS,Af oM];rfl
  ·try dsimp only
   unfold Fv;simp only[List.length_singleton];rw[fJ oM];rfl
 have h2:=Aff (n:=2) hp hm oM fS;rw[h1,obs,show (2:Int)=((2:Nat):Int) from rfl,h2,obs]
theorem Ap5{k:Int}{row:List Int}(hp:isF p=true)(hv:0<=v/\v<p)(hva:Dr 2 [(k,v,[0],[1])] [0] [1]=some true)(hk:C5 k=some true)(hr:Ig p 2 k v [0] [1]=some [row])(hm:MatW p 2 [row]):
  Ft p 2 [(k,v,[0],[1])] [0] [1]=some (1,1,gj p 2 (O0 p 2 [row]),true):=by
 have hb:=Dh hp;have hN:=Aip (p:=p) (n:=2) (m:=[row]) hb.1;have hNl:=Aif (p:=p) (n:=2) (m:=[row]) hb.1;unfold Ft;rw[Aub hp hv hva hk,obs,fD,fY,Yv _ fS,obs,Af fS,Ask hp hr hm,obs];generalize O0 p 2 [row]=M at *
 have key:Aq (fun s_:Nat×ZA=>Dx M [0] [1] s_.1 s_.2) 4611686018427387904 (0,([]:ZA))=some ([]++M.map fun x=>x):=by
  refine Dl M (fun x=>x) [] oM _ (fun j x h=>?_) ?_
  ·have:=Ai h;have hxl:=(hN x<|List.mem_of_getElem? h).1
   have hgl:Ks ([0]++[1]) x=some x:=by
    rw[Ak3 _ _ fS (fun e he=>?_)]
    ·match x,hxl with
     | [a,b],_=>rfl
    ·rcases List.mem_cons.1 he with rfl|he
     ·exact ⟨by omega,by rw[hxl];decide⟩
     ·obtain rfl:=List.mem_singleton.1 he;exact ⟨by omega,by rw[hxl];decide⟩
   try dsimp only
   unfold Dx;rw[fH oM,h,obs,hgl,obs,Af sO,Af oM]
  ·try dsimp only
   unfold Dx;rw[fJ oM]
 rw[key,obs,List.nil_append,List.map_id'];have hR:=Aje (l:=1) (r:=1) hp hN oM oM;rw[show ((([0]:List Int).length:Nat):Int)=((1:Nat):Int) from rfl,show ((([1]:List Int).length:Nat):Int)=((1:Nat):Int) from rfl,hR,obs];rfl
theorem To{a b:Int}(ha:0<=a/\a<p)(hb:0<=b/\b<p):MatW p 2 [[a,b]]:=fun x hx=>by
 obtain rfl:=List.mem_singleton.1 hx;refine ⟨rfl,fun c hc=>?_⟩;rcases List.mem_cons.1 hc with rfl|hc
 ·exact ha
 ·obtain rfl:=List.mem_singleton.1 hc;exact hb
theorem Acx(hp:isF p=true)(hv:0<=v/\v<p):gj p 2 (O0 p 2 [[scV p v,1]])=[[1,v]]/\gj p 2 [[1,v]]=[[1,v]]/\gj p 2 (O0 p 2 [[1,scV p v]])=gj p 2 [[v,1]]:=by
 obtain ⟨u,rfl⟩:∃ u:Nat,v=(u:Int):=⟨v.toNat,by omega⟩
 have h:=List.all_eq_true.1 (List.all_eq_true.1 A0q p<|Ao0 hp) u<|List.mem_range.2 oM;simp only[fT,fF]at h;exact h
theorem Ax1(hp:isF p=true)(hv:0<=v/\v<p)(s:ByteArray):Bt p 7 v s=some (1,1,[[1,v]])/\A6 p 7 v s=some (1,1,[[1,v]]):=by
 have hb:=Dh hp;have ⟨f1,f2,f3⟩:=Acx hp hv
 have hva:Dr 2 [(7,v,[0],[1])] [0] [1]=some true:=by
  obtain ⟨u,rfl⟩:∃ u:Nat,v=(u:Int):=⟨v.toNat,by omega⟩
  have h:=List.all_eq_true.1 Aps u<|List.mem_range.2 oM;simp only[fT,fF]at h;exact h.1
 have hr:Ig p 2 7 v [0] [1]=some [[scV p v,1]]:=by
  show Option.bind (Ge p v) (fun y34=>Option.bind (Dc p 2 [1,0] [1,y34]) fun y35=>some [y35])=_;rw[Acf hb hv,obs];show Option.bind (Dc p 2 [1,0] [1,scV p v]) _=_;rw[Aj9 hb (Ajv hb.1) (.inr ⟨rfl,rfl⟩)];rfl
 constructor
 ·show Option.bind (Ft p 2 [(7,v,[0],[1])] [0] [1]) (fun y4=>some (y4.1,y4.2.1,y4.2.2.1))=_;rw[Ap5 hp hv hva rfl hr<|To (Ajv hb.1) ⟨by omega,by omega⟩,f1];rfl
 ·show Option.bind (Ca p ((1:Nat):Int) ((1:Nat):Int) [[1,v]]) (fun y25=>some (y25.1,y25.2.1,y25.2.2))=_;rw[P3 hp (To ⟨by omega,by omega⟩ hv) oM fS,f2];rfl
theorem Aqm(hp:isF p=true)(hv:0<=v/\v<p)(s:ByteArray):Bt p 13 v s=some (1,1,gj p 2 [[v,1]])/\A6 p 13 v s=some (1,1,gj p 2 [[v,1]]):=by
 have hb:=Dh hp;have ⟨f1,f2,f3⟩:=Acx hp hv
 have hva:Dr 2 [(13,v,[0],[1])] [0] [1]=some true:=by
  obtain ⟨u,rfl⟩:∃ u:Nat,v=(u:Int):=⟨v.toNat,by omega⟩
  have h:=List.all_eq_true.1 Aps u<|List.mem_range.2 oM;simp only[fT,fF]at h;exact h.2
 have hr:Ig p 2 13 v [0] [1]=some [[1,scV p v]]:=by
  show Option.bind (Ge p v) (fun y34=>Option.bind (Dc p 2 [0,1] [1,y34]) fun y35=>some [y35])=_;rw[Acf hb hv,obs];show Option.bind (Dc p 2 [0,1] [1,scV p v]) _=_;rw[Aj9 hb (Ajv hb.1) (.inl ⟨rfl,rfl⟩)];rfl
 constructor
 ·show Option.bind (Ft p 2 [(13,v,[0],[1])] [0] [1]) (fun y4=>some (y4.1,y4.2.1,y4.2.2.1))=_;rw[Ap5 hp hv hva rfl hr<|To ⟨by omega,by omega⟩<|Ajv hb.1,f3];rfl
 ·show Option.bind (Ca p ((1:Nat):Int) ((1:Nat):Int) [[1,v]]) (fun y19=>Option.bind (O5 p y19.1 y19.2.1 y19.2.2) fun y20=>some (y20.1,y20.2.1,y20.2.2))=_;rw[P3 hp (To ⟨by omega,by omega⟩ hv) oM fS,f2];show Option.bind (Option.bind (Ca p ((1:Nat):Int) ((1:Nat):Int) [[v,1]]) fun y4=>some (y4.1,y4.2.1,y4.2.2)) (fun y20=>some (y20.1,y20.2.1,y20.2.2))=_;rw[P3 hp (To hv ⟨by omega,by omega⟩) oM fS];rfl
end
theorem Aq5{p n:Int}{b:ZA}(hn:0<=n)(h:MatW p n.toNat b):Xz p n b=true:=by
 unfold Xz;rw[List.all_eq_true];intro x hx;have hx:=h x hx;rw[fT,fF,List.all_eq_true];refine ⟨by have:=hx.1;omega,fun a ha=>?_⟩;have:=hx.2 a ha;rw[Hr];omega
theorem Af2{p:Int}{l r:Nat}{b:ZA}(hp:isF p=true)(hs:l+r<=24)(hb:b.length<=l+r)(hm:MatW p (l+r) b)(hg:gj p (l+r) b=b):On p (l:Int) (r:Int) b=true:=by
 have e:((l:Int)+(r:Int)).toNat=l+r:=by omega
 unfold On;simp only[fT,Hr,decide_eq_true_eq,fF];exact ⟨hp,⟨by omega,by omega⟩,⟨by omega,by omega⟩,by omega,Aq5 oM (by rw[e];exact hm),by rw[e];exact hg⟩
theorem Az0{v:Int}(h:inR v 0 96=true):lfW (7,v,⟨#[]⟩)=some (1,1):=by
 unfold lfW;dsimp only;rw[fW<|show Nj ⟨#[]⟩=true from beq_self_eq_true _,fB (by decide),fB (by decide),fW (by decide),fW (show Aby 7 v=true by unfold Aby;rw[fW (.inl rfl)];exact h)];rfl
theorem Awh{v:Int}(h:inR v 0 96=true):lfW (13,v,⟨#[]⟩)=some (1,1):=by
 unfold lfW;dsimp only;rw[fW<|show Nj ⟨#[]⟩=true from beq_self_eq_true _,fB (by decide),fB (by decide),fW (by decide),fW (show Aby 13 v=true by unfold Aby;rw[fW (.inr rfl)];exact h)];rfl
theorem Alh{p:Int}(hp:isF p=true){n:Nd}{w:Int×Int}(hw:lfW n=some w)(hs:n.1≠8/\n.1≠14)(hv:n.1=7∨n.1=13->n.2.1<p):
  ∃ a,Bt p n.1 n.2.1 n.2.2=some a/\A6 p n.1 n.2.1 n.2.2=some a/\On p a.1 a.2.1 a.2.2=true/\w=(a.1,a.2.1):=by
 have hb:=Dh hp;have ⟨k,v,s⟩:=n;have hk:=Sc hw;have hm:=Ao0 hp
 have h0:lfW (k,v,⟨#[]⟩)=some w:=by
  unfold lfW at hw ⊢;dsimp only at hw ⊢;split at hw
  ·rw[fW (show Nj ⟨#[]⟩=true from beq_self_eq_true _)];exact hw
  ·cases hw
 have fin:Aiq p k v=true->∃ a,Bt p k v s=some a/\A6 p k v s=some a/\On p a.1 a.2.1 a.2.2=true/\w=(a.1,a.2.1):=fun h=>by
  have ⟨a,h1,h2,h3,h4⟩:=Awo h s;exact ⟨a,h1,h2,h3,osj<|h0.symm.trans h4⟩
 dsimp only at *;by_cases h1:k=1
 ·subst h1;have h0':=h0;unfold lfW at h0';dsimp only at h0';rw[fW<|show Nj ⟨#[]⟩=true from beq_self_eq_true _,fW rfl]at h0';split at h0'
  ·rename_i hvb;cases h0';obtain ⟨m,rfl⟩:∃ m:Nat,v=(m:Int):=⟨v.toNat,by omega⟩
   have hm12:m<=12:=by omega
   refine ⟨((m:Int),(m:Int),idB m),A0i hp hm12 s,?_,Af2 hp oM (by simp[idB]) (Aj3 hb.1)<|Aoo hp,rfl⟩;unfold A6;rw[show ((1:Int)==1)=true from rfl,fZ,Xg oM,obs]
  ·cases h0'
 ·have hval:k=2/\v=0∨(3<=k/\k<=14/\Aby k v=true):=by
   have h0':=h0;unfold lfW at h0';dsimp only at h0';rw[fW (show Nj ⟨#[]⟩=true from beq_self_eq_true _)]at h0';rw[fB h1]at h0';split at h0'
   ·split at h0'
    next h2 h3=>exact .inl ⟨h2,h3⟩
    ·cases h0'
   ·split at h0'
    ·split at h0'
     next h2 h3=>exact .inr ⟨h2.1,h2.2,h3⟩
     ·cases h0'
    ·cases h0'
  by_cases hsc:k=7∨k=13
  ·have hvp:=hv hsc;rcases hval with ⟨rfl,_⟩|⟨_,_,hvb⟩
   ·omega
   unfold Aby at hvb;rw[fW hsc]at hvb;have hvi:=Hr.1 hvb;obtain ⟨u,rfl⟩:∃ u:Nat,v=(u:Int):=⟨v.toNat,by omega⟩
   have hvb':(0:Int)<=(u:Int)/\(u:Int)<p:=⟨by omega,hvp⟩
   have hw1:w=(1,1):=by
    refine osj<|h0.symm.trans ?_;rcases hsc with rfl|rfl
    ·exact Az0 hvb
    ·exact Awh hvb
   subst hw1;rcases hsc with rfl|rfl
   ·have ⟨g1,g2⟩:=Ax1 hp hvb' s;exact ⟨_,g1,g2,Af2 (l:=1) (r:=1) hp oM fS (To ⟨by omega,by omega⟩ hvb') (Acx hp hvb').2.1,rfl⟩
   ·have ⟨g1,g2⟩:=Aqm hp hvb' s;have ⟨q1,q2,q3⟩:=Anj hp (n:=2) (m:=[[(u:Int),1]]) (To (p:=p) hvb' ⟨by omega,by omega⟩);exact ⟨_,g1,g2,Af2 (l:=1) (r:=1) hp oM q2 q1 q3,rfl⟩
  ·have hv0:v=0:=by
    rcases hval with ⟨_,h⟩|⟨_,_,hvb⟩
    ·exact h
    ·unfold Aby at hvb;rw[fB hsc,fF]at hvb;exact hvb
   subst hv0;refine fin<|List.all_eq_true.1 (List.all_eq_true.1 Auw p hm) k ?_;have:k=2∨k=3∨k=4∨k=5∨k=6∨k=9∨k=10∨k=11∨k=12:=by omega
   rcases this with rfl|rfl|rfl|rfl|rfl|rfl|rfl|rfl|rfl <;> simp
end
section
abbrev Rn:=Nat×Nat×ZA
abbrev Rl:=Int×Int×ZA
def Bn(x:Rn):Rl:=((x.1:Int),(x.2.1:Int),x.2.2)
structure L0(p:Int)(x:Rn):Prop where
 mb:MatW p (x.1+x.2.1) x.2.2
 lb:x.2.2.length<=x.1+x.2.1
 rb:gj p (x.1+x.2.1) x.2.2=x.2.2
def Ab9(p:Int):List (Int×Int)->List Rn->Prop
 | [],[]=>True
 | w :: T,x :: R=>(w=((x.1:Int),(x.2.1:Int))/\L0 p x)/\Ab9 p T R
 | _,_=>False
def Ajz(p:Int)(a b:Rn):Rn:=(a.1,b.2.1,Az7 p a.1 a.2.1 b.2.1 a.2.2 b.2.2)
def Age(p:Int)(a b:Rn):Rn:=(a.1+b.1,a.2.1+b.2.1,Ayy p a.1 a.2.1 b.1 b.2.1 a.2.2 b.2.2)
def Le(p:Int)(lf:Nd->Rn)(n:Nd):List Rn->List Rn
 | b :: a :: r=>if n.1=15 then Ajz p a b :: r else if n.1=16 then Age p a b :: r else lf n :: b :: a :: r
 | R=>lf n :: R
def F3(p:Int)(lf:Nd->Rn):List Nd->List Rn->List Rn
 | [],R=>R
 | n :: r,R=>F3 p lf r (Le p lf n R)
section
variable{p:Int}{lf:Nd->Rn}
theorem Mf{n:Nd}(h:¬ (n.1=15∨n.1=16))(R:List Rn):Le p lf n R=lf n :: R:=by
 match R with
 | []=>rfl
 | [_]=>rfl
 | b :: a :: r=>
  show (if n.1=15 then _ else if n.1=16 then _ else _)=_;rw[fB (fun e=>h<|.inl e),fB (fun e=>h<|.inr e)]
theorem Ae5:∀(xs ys:List Nd) (R:List Rn),F3 p lf (xs++ys) R=F3 p lf ys (F3 p lf xs R)
 | [],_,_=>rfl
 | _ :: r,ys,_=>Ae5 r ys _
theorem L2{xs:List Nd}{k:Nat}{n:Nd}(h:xs[k]? =some n):F3 p lf (xs.take (k+1)) []=Le p lf n (F3 p lf (xs.take k) []):=by
 rw[List.take_add_one,h,Ae5];rfl
theorem Asr(hp:isF p=true){a b:Rn}(ha:L0 p a)(hb:L0 p b)(h:b.1=a.2.1):L0 p (Ajz p a b):=by
 have hb1:=hb.mb;rw[h]at hb1
 have hm:MatW p (a.1+b.2.1) ((O0 p (a.2.2.length+b.2.2.length)<|Z7 p a.1 a.2.1 a.2.2 b.2.2).map<|Ajd p a.1 a.2.1 b.2.1 a.2.2 b.2.2):=fun x hx=>by
  obtain ⟨c,_,rfl⟩:=List.mem_map.1 hx;exact Aob (Dh hp).1 ha.mb hb1
 have ⟨h1,h2,h3⟩:=Anj hp hm;exact ⟨h1,h2,h3⟩
theorem Atq(hp:isF p=true){a b:Rn}(ha:L0 p a)(hb:L0 p b):L0 p (Age p a b):=by
 have ⟨h1,h2,h3⟩:=Anj hp<|Aii (Dh hp).1 ha.mb hb.mb;exact ⟨h1,h2,h3⟩
theorem Akg(hp:isF p=true){lt:Nd->Option (Int×Int)}{n:Nd}(hleaf:∀ w,¬ (n.1=15∨n.1=16)->lt n=some w->w=(((lf n).1:Int),((lf n).2.1:Int))/\L0 p (lf n)){T T':List (Int×Int)}{R:List Rn}(hT:Cz lt n T=some T')(hR:Ab9 p T R):Ab9 p T' (Le p lf n R):=by
 unfold Cz at hT;by_cases hc:n.1=15∨n.1=16
 ·rw[fW hc]at hT;split at hT
  ·match T,R,hT,hR with
   | w2 :: w1 :: T,y :: x :: R,hT,⟨⟨ey,gy⟩,⟨ex,gx⟩,hR⟩=>
    subst ey ex;dsimp only at hT;show Ab9 p T' (if n.1=15 then Ajz p x y :: R else if n.1=16 then Age p x y :: R else lf n :: y :: x :: R);by_cases h15:n.1=15
    ·rw[fW h15]at hT ⊢;split at hT
     next he=>cases hT;exact ⟨⟨rfl,Asr hp gx gy oM⟩,hR⟩
     ·cases hT
    ·rw[fB h15]at hT ⊢;rw[fW (hc.resolve_left h15)];split at hT
     ·cases hT;refine ⟨⟨?_,Atq hp gx gy⟩,hR⟩;unfold Age;simp
     ·cases hT
  ·cases hT
 ·rw[fB hc]at hT;obtain ⟨w,hw,rfl⟩:=oms.1 hT;rw[Mf hc];exact ⟨hleaf w hc hw,hR⟩
theorem Ai7{S:List Rl}{a b:Rl}{k:Nat}(h:S.length=k):(S++[a,b])[k]? =some a/\(S++[a,b])[k+1]? =some b/\(S++[a,b]).take k=S:=by
 subst h;refine ⟨by simp,by simp,by simp⟩
theorem Acu{x y:Rn}{R:List Rn}:((y :: x :: R).map Bn).reverse=(R.map Bn).reverse++[Bn x,Bn y]:=by simp
theorem H4{x:Rn}{R:List Rn}:((x :: R).map Bn).reverse=(R.map Bn).reverse++[Bn x]:=by simp
theorem Xn(hp:isF p=true){x y:Rn}(gx:L0 p x)(gy:L0 p y)(h:y.1=x.2.1)(b1:x.1+x.2.1<=100)(b2:y.1+y.2.1<=100):
  F4 p (Bn x).1 (Bn x).2.1 (Bn x).2.2 (Bn y).1 (Bn y).2.1 (Bn y).2.2=some (Bn (Ajz p x y))/\Fi p (Bn x).1 (Bn x).2.1 (Bn x).2.2 (Bn y).1 (Bn y).2.1 (Bn y).2.2=some (Bn (Ajz p x y)):=by
 have gy1:=gy.mb;have l1:=gx.lb;have l2:=gy.lb;rw[h]at gy1 b2 l2;unfold Bn;dsimp only;rw[h];exact ⟨An6 hp gx.mb gy1 b1 b2 oM oM,Akl hp gx.mb gy1 b1 b2 oM oM⟩
theorem Yh(hp:isF p=true){x y:Rn}(gx:L0 p x)(gy:L0 p y)(b1:x.1+x.2.1<=100)(b2:y.1+y.2.1<=100):
  H8 p (Bn x).1 (Bn x).2.1 (Bn x).2.2 (Bn y).1 (Bn y).2.1 (Bn y).2.2=some (Bn (Age p x y))/\F6 p (Bn x).1 (Bn x).2.1 (Bn x).2.2 (Bn y).1 (Bn y).2.1 (Bn y).2.2=some (Bn (Age p x y)):=by
 have l1:=gx.lb;have l2:=gy.lb;unfold Bn;dsimp only;exact ⟨Asw hp gx.mb gy.mb b1 b2 oM oM,Anq hp gx.mb gy.mb b1 b2 oM oM⟩
def W8(x:Rl):Rn:=(x.1.toNat,x.2.1.toNat,x.2.2)
theorem Awb{x:Rl}(h1:0<=x.1)(h2:0<=x.2.1):Bn (W8 x)=x:=by
 have ⟨a,b,c⟩:=x;unfold Bn W8;dsimp only at *;rw[Int.toNat_of_nonneg h1,Int.toNat_of_nonneg h2]
theorem Al2{x:Rl}(h:On p x.1 x.2.1 x.2.2=true):L0 p (W8 x)/\Bn (W8 x)=x:=by
 have G:=Aq9 h;have h1:=G.hl;have h2:=G.hr;have e:x.1.toNat+x.2.1.toNat=(x.1+x.2.1).toNat:=by omega
 refine ⟨⟨?_,?_,?_⟩,Awb h1 h2⟩
 ·show MatW p (x.1.toNat+x.2.1.toNat) x.2.2;rw[e];exact G.mb
 ·show x.2.2.length<=x.1.toNat+x.2.1.toNat;have:=G.lb;omega
 ·show gj p (x.1.toNat+x.2.1.toNat) x.2.2=x.2.2;rw[e];exact G.rb
end
end
section
theorem Azp(a b:ByteArray):(a.toList==b.toList)=decide (a=b):=by
 by_cases e:a=b
 ·subst e;rw[decide_eq_true rfl];exact beq_self_eq_true _
 ·rw[decide_eq_false e,Au9,fU];intro h;have:=Array.toList_inj.1 h;cases a;cases b;exact e<|congrArg ByteArray.mk this
theorem Arc{V:Type}{es:List (Int×V)}{k:Int}{v:V}:(Og es k v).length<=es.length+1:=by
 unfold Og Sa;rw[List.length_cons];have:=List.length_filter_le (fun e:Int×V=> !(e.1==k)) es;omega
def tyM(L:List Df):List (Int×(Int×Int)):=L.foldl (fun m d=>Og m (G6 d.1) (d.2.1,d.2.2.1)) []
def fdD(L:List Df)(s:ByteArray):Option (Int×Int):=(L.find? fun d=>d.1.toList==s.toList).map fun d=>(d.2.1,d.2.2.1)
def ndD(L:List Df):Prop:=∀ k x,L[k]? =some x->((L.take k).any fun d=>d.1.toList==x.1.toList)=false
theorem Aw7(L:List Df)(d:Df):tyM (L++[d])=Og (tyM L) (G6 d.1) (d.2.1,d.2.2.1):=by unfold tyM;rw[List.foldl_append];rfl
theorem Afz{L:List Df}{k:Nat}{d:Df}(h:L[k]? =some d):tyM (L.take (k+1))=Og (tyM (L.take k)) (G6 d.1) (d.2.1,d.2.2.1):=by
 rw[List.take_add_one,h];exact Aw7 _ _
theorem Aqb(L:List Df):∀ k,k<=L.length->(tyM (L.take k)).length<=k
 | 0,_=>by simp[tyM]
 | k+1,hk=>by
  rw[Afz (gEg (show k<L.length by omega))];exact Nat.le_trans Arc (by have:=Aqb L k oM;omega)
theorem Ass{L:List Df}{s:ByteArray}(h:(L.any fun d=>d.1.toList==s.toList)=false):fdD L s=none:=by
 unfold fdD;rw[List.find?_eq_none.2 fun d hd=>by have:=List.any_eq_false.1 h d hd;exact this];rfl
theorem Apo{L:List Df}(hn:ndD L)(s:ByteArray):∀ k,k<=L.length->D8 (tyM (L.take k)) (G6 s)=fdD (L.take k) s
 | 0,_=>rfl
 | k+1,hk=>by
  have hx:=gEg (show k<L.length by omega);have ih:=Apo hn s k oM;have hd:=hn k _ hx;rw[Afz hx,List.take_add_one,hx];generalize L[k]=d at *;by_cases e:s=d.1
  ·subst e;rw[Nv];have h0:=Ass hd;unfold fdD at h0 ⊢;rw[List.find?_append];have h1:=Option.map_eq_none_iff.1 h0;rw[h1];simp
  ·rw[Mm (fun h=>e (Acw h)),ih];unfold fdD;rw[List.find?_append]
   have:[d].find? (fun d=>d.1.toList==s.toList)=none:=by
    rw[List.find?_eq_none];intro x hx;obtain rfl:=List.mem_singleton.1 hx;rw[Azp,decide_eq_false (fun h=>e h.symm)];simp
   rw[show (some d).toList=[d] from rfl,this,Option.or_none]
theorem Awk{L:List Df}(hn:ndD L)(s:ByteArray):D8 (tyM L) (G6 s)=fdD L s:=by
 have:=Apo hn s L.length<|fQ _
 rwa [List.take_length]at this
theorem Auy{L:List Df}(h:ndD L)(k:Nat):ndD (L.take k):=fun i x hx=>by
 have hi:=Ai hx;rw[List.length_take]at hi;rw[List.getElem?_take,fW oM]at hx;have:=h i x hx
 rwa [List.take_take,Nat.min_eq_left oM]
theorem Al8{L:List Df}(hl:L.length<=1000)(hs:∀ d∈L,d.1.size<=maxLen/\L6 d.2.1/\L6 d.2.2.1):H2 L=some (tyM L):=by
 unfold H2
 have h:Aq (fun s_:Nat×(List<|Int×(Int×Int))=>Hs L s_.1 s_.2) 4611686018427387904 (0,[])=some (tyM L):=by
  refine Bg L.length (fun i=>(i,tyM<|L.take i)) oM _ rfl (fun i hi=>?_) ?_
  ·have hx:=gEg hi;have hm:=hs _<|List.getElem_mem hi;have hle:=Aqb L i oM;rw[Afz hx];generalize L[i]=d at *
   try dsimp only
   unfold Hs;rw[fH oM,hx,obs,Af ⟨hm.1,by omega,hm.2⟩,Af oM]
  ·try dsimp only
   unfold Hs;rw[fJ oM,List.take_length]
 rw[h];rfl
theorem Ary{L:List Df}(hn:ndD L)(n:Nd)(hs:n.2.2.size<=maxLen):∃ r:Int×Int×Bool,F9 n.1 n.2.1 n.2.2 (tyM L)=some r/\match lfL L n with|some w=>r=(w.1,w.2,true)|none=>r.2.2=false:=by
 unfold F9 lfL;by_cases h17:n.1=17
 ·rw[fW h17,show (n.1 !=17)=false by rw[h17];rfl,fY,Af hs,Awk hn];show ∃ r:Int×Int×Bool,_=some r/\match (if n.2.1=0 then fdD L n.2.2 else none) with|some w=>r=(w.1,w.2,true)|none=>r.2.2=false
  cases fdD L n.2.2 with
  | none=>exact ⟨_,rfl,by split <;> rename_i h <;> first|(split at h <;> cases h;done)|rfl⟩
  | some w=>
   by_cases h0:n.2.1=0
   ·rw[fW h0,h0];exact ⟨_,rfl,rfl⟩
   ·rw[fB h0];refine ⟨_,rfl,?_⟩;exact fU.2 h0
 ·rw[fB h17,bne_iff_ne.2 h17,fZ];have ⟨r,h1,h2⟩:=Asu n;rw[h1];exact ⟨_,rfl,h2⟩
theorem Ag3{L:List Df}(hn:ndD L)(hL:∀ d∈L,okW (d.2.1,d.2.2.1)){xs:List Nd}(hs:∀ n∈xs,n.2.2.size<=maxLen):∃ r:Int×Int×Bool,Cr xs (tyM L)=some r/\match tyG (lfL L) xs with|some w=>r=(w.1,w.2,true)|none=>r.2.2=false:=by
 have ⟨r,h,hm⟩:=Ayv (lf:=lfL L) (leaf:=fun a b c=>F9 a b c<|tyM L) (xs:=xs) (fun n w h=>Aa4 hL n w h) fun n hn' _ _=>Ary hn n<|hs n hn'
 exact ⟨r,h,hm⟩
theorem An4{lf lf':Nd->Option (Int×Int)}(h:∀ n w,lf n=some w->lf' n=some w){n:Nd}{T T':List (Int×Int)}(hT:Cz lf n T=some T'):Cz lf' n T=some T':=by
 unfold Cz at hT ⊢;by_cases hc:n.1=15∨n.1=16
 ·rw[fW hc]at hT ⊢;exact hT
 ·rw[fB hc]at hT ⊢;obtain ⟨w,hw,rfl⟩:=oms.1 hT;rw[h n w hw];rfl
theorem Ahl{lf lf':Nd->Option (Int×Int)}(h:∀ n w,lf n=some w->lf' n=some w):∀(xs:List Nd) (T T':List (Int×Int)),Hc lf xs T=some T'->Hc lf' xs T=some T'
 | [],_,_,hT=>hT
 | n :: r,T,T',hT=>by
  have hT:(Cz lf n T).bind (Hc lf r)=some T':=hT;have ⟨T1,h1,h2⟩:=Option.bind_eq_some_iff.1 hT;show (Cz lf' n T).bind (Hc lf' r)=some T';rw[An4 h h1];exact Ahl h r T1 T' h2
theorem Avb{lf lf':Nd->Option (Int×Int)}(h:∀ n w,lf n=some w->lf' n=some w){xs:List Nd}{w:Int×Int}(hT:tyG lf xs=some w):tyG lf' xs=some w:=by
 unfold tyG at hT ⊢;by_cases hx:1<=xs.length/\xs.length<=400
 ·rw[fW hx]at hT ⊢;cases hr:Hc lf xs [] with
  | none=>rw[hr]at hT;cases hT
  | some T=>rw[Ahl h _ _ _ hr];rw[hr]at hT;exact hT
 ·rw[fB hx]at hT;cases hT
theorem Aye{L:List Df}(n:Nd)(w:Int×Int)(h:lfW n=some w):lfL L n=some w:=by
 have:=Sc h;unfold lfL;rw[fB oM];exact h
def Ii(l:List Cp):List Df:=l.map fun x=>(x.1,x.2.2.1,x.2.2.2.1,x.2.1)
structure CpG(p:Int)(x:Cp):Prop where
 name:Ie x.1=some true
 ty:tyV x.2.1=some (x.2.2.1,x.2.2.2.1)
 fld:isF p=true
 vals:Is p x.2.1=true
 sta:U1 x.2.1=true
 rel:On p x.2.2.1 x.2.2.2.1 x.2.2.2.2=true
theorem Alv{p:Int}{x:Cp}(hc:V5 x)(hg:Wc p x=true):CpG p x:=by
 have h:=(Aoj (p:=p) hc).1;rw[hg]at h;have hr:=Aty (by have:=hc.1;omega) hc.2.1 hc.2.2 h;unfold Eg at h;have ⟨nm,n1,n2⟩:=Amz x.1;rw[Ad7,obs,n2,obs,X7 _ p (by have:=hc.1;omega),S8 _ (by have:=hc.1;omega),Ae7 p _ _ _ hc.2.1 hc.2.2]at h;cases ht:tyV x.2.1 with
 | none=>rw[ht]at h;exact absurd h fS
 | some w=>
  rw[ht,Option.isSome_some,Bool.true_and]at h;dsimp only at h;cases hv:Is p x.2.1 <;> cases hs:U1 x.2.1 <;> cases hf:isF p <;> cases nm <;> rw[hv,hs,hf,hr]at h <;> first|(exfalso;simp at h;done)|skip
  refine ⟨n1,?_,hf,hv,hs,hr⟩;rw[ht];simp only[Bool.and_true,Bool.true_and,fZ,obs]at h;by_cases e1:x.2.2.1=w.1
  ·by_cases e2:x.2.2.2.1=w.2
   ·rw[e1,e2]
   ·exact absurd h (by simp[e1,e2])
  ·rw[fU.2 e1,fY]at h;exact absurd h fS
theorem Atk{p:Int}{l:List Cp}(h:okL p [] l=true):∀ k,k<=l.length->okL p ((l.take k).map (·.1)) (l.drop k)=true
 | 0,_=>h
 | k+1,hk=>by
  have ih:=Atk h k oM;rw[Xp (gEg (show k<l.length by omega)),fT]at ih;exact ih.2
theorem Aau{p:Int}{l:List Cp}(h:okL p [] l=true){k:Nat}{x:Cp}(hx:l[k]? =some x):Wc p x=true/\(((l.take k).map (·.1)).any fun n=>n.toList==x.1.toList)=false:=by
 have:=Atk h k (by have:=Ai hx;omega);rw[Xp hx,fT,fT,Bool.not_eq_true']at this;exact this.1
theorem Ae8{l:List Cp}{k:Nat}{d:Df}(h:(Ii l)[k]? =some d):∃ x,l[k]? =some x/\d=(x.1,x.2.2.1,x.2.2.2.1,x.2.1):=by
 unfold Ii at h;rw[List.getElem?_map]at h;have ⟨x,hx,e⟩:=oms.1 h;exact ⟨x,hx,e.symm⟩
theorem Alo{l:List Cp}{d:Df}(h:d∈Ii l):∃ x∈l,d=(x.1,x.2.2.1,x.2.2.2.1,x.2.1):=by
 have ⟨x,hx,e⟩:=List.mem_map.1 h;exact ⟨x,hx,e.symm⟩
theorem Ai1{p:Int}{l:List Cp}(h:okL p [] l=true):ndD (Ii l):=fun k d hd=>by
 obtain ⟨x,hx,rfl⟩:=Ae8 hd;have:=(Aau h hx).2;unfold Ii;rw[← List.map_take,List.any_map];rw[List.any_map]at this;exact this
structure Cps(p:Int)(l:List Cp):Prop where
 len:l.length<=12
 cok:∀ x∈l,V5 x
 nm:∀ x∈l,x.1.size<=maxLen
 bnm:∀ x∈l,∀ n∈x.2.1,n.2.2.size<=maxLen
 ok:okL p [] l=true
section
variable{p:Int}{l:List Cp}
theorem Cps.good(G:Cps p l){x:Cp}(hx:x∈l):CpG p x:=by
 have ⟨k,hk,e⟩:=List.getElem_of_mem hx;exact Alv (G.cok x hx) (Aau G.ok (by rw[gEg hk,e])).1
theorem Asv {xs:List Nd} {w:Int×Int} (h:tyV xs=some w):okW w:=by
 unfold tyV tyG at h;split at h
 ·cases hr:Hc lfW xs [] with
  | none=>rw [hr] at h;cases h
  | some T =>
   rw [hr] at h;have:=Acm (fun _ _ h=>Ad9 h) hr (fun _ h=>by cases h)
   match T,h with
   | [v],h=>obtain rfl:=osj h;exact this v (by simp)
 ·cases h
theorem Cps.okw(G:Cps p l):∀ d∈Ii l,okW (d.2.1,d.2.2.1):=fun d hd=>by
 obtain ⟨x,hx,rfl⟩:=Alo hd;exact Asv (G.good hx).ty
theorem Cps.szs(G:Cps p l):∀ d∈Ii l,d.1.size<=maxLen/\L6 d.2.1/\L6 d.2.2.1:=fun d hd=>by
 obtain ⟨x,hx,rfl⟩:=Alo hd;have h:=Asv (G.good hx).ty;refine ⟨G.nm x hx,?_,?_⟩
 ·have:=h.1;unfold L6;dsimp only at *;omega
 ·have:=h.2;unfold L6;dsimp only at *;omega
theorem Arl(L:List Df)(hl:L.length<=1048576)(s:ByteArray):∃ k:Int,Mj L s=some k/\decide (0<=k)=L.any fun d=>d.1.toList==s.toList:=by
 unfold Mj Br
 have hs:∀ i x,L[i]? =some x->Az L s i=some (if x.1.toList==s.toList then Ctl.out (Ctl.out (i:Int)) else Ctl.next (i+1)):=fun i x h=>by
  have:=Ai h;unfold Az Np;rw[fH oM,h,obs,obs,Af oM];cases x.1.toList==s.toList <;> rfl
 have he:Az L s L.length=some (Ctl.out<|Ctl.next ()):=by
  unfold Az;rw[fJ oM]
 rcases Pq (body:=fun s_:Nat=>Az L s s_) L (fun x=>x.1.toList==s.toList) (Ctl.next ()) (fun i=>Ctl.out (i:Int)) (F:=4611686018427387904) oM hs he with ⟨h1,i,hi,h2⟩|⟨h1,h2⟩
 ·rw[h2,h1];exact ⟨_,rfl,Av oM⟩
 ·rw[h2,h1];exact ⟨_,rfl,rfl⟩
theorem Alg(G:Cps p l):Jn (Ii l)=some true:=by
 have hll:(Ii l).length=l.length:=List.length_map ..;have h12:=G.len;unfold Jn;rw[fJ oM]
 have h:Aq (fun s_:Nat=>Gt (Ii l) s_) 4611686018427387904 0=some (Ctl.next ()):=by
  refine Bg (Ii l).length (fun i=>i) oM _ rfl (fun i hi=>?_) ?_
  ·have hx:=gEg hi;have ⟨x,hxl,e⟩:=Ae8 hx;have hmem:=List.mem_of_getElem? hxl;have g:=G.good hmem;have ht:tyG (lfL<|(Ii l).take i) x.2.1=some (x.2.2.1,x.2.2.2.1):=Avb Aye g.ty;have ⟨r,r1,r2⟩:=Ag3 (Auy (Ai1 G.ok) i) (fun d hd=>G.okw d<|List.mem_of_mem_take hd)<|G.bnm x hmem;rw[ht]at r2;dsimp only at r2;subst r2;have ⟨j,j1,j2⟩:=Arl ((Ii l).take i) (by rw[List.length_take];omega) x.1;have hd:=Ai1 G.ok i _ hx;rw[e]at hx hd;rw[hd]at j2
   try dsimp only
   unfold Gt;rw[fH oM,hx,obs,Af oM,Al8 (by rw[List.length_take];omega) (fun d hd=>G.szs d<|List.mem_of_mem_take hd),obs,r1,obs];simp only[fD,fY,beq_self_eq_true,g.name,obs,j1,j2];rw[Af oM,obs,fY,Af oM]
  ·try dsimp only
   unfold Gt;rw[fJ oM]
 rw[h];rfl
theorem Ak9(l:List Cp)(hl:l.length<=1000):Jo l=some (Ii l):=by
 unfold Jo
 have key:Aq (fun s_:Nat×(List<|ByteArray×Int×Int×List ZB)=>Gl l s_.1 s_.2) 4611686018427387904 (0,[])=some ([]++l.map fun x=>((x.1,x.2.2.1,x.2.2.2.1,x.2.1):Df)):=by
  refine Dl l (fun x=>((x.1,x.2.2.1,x.2.2.2.1,x.2.1):Df)) [] oM _ (fun j x h=>?_) ?_
  ·have:=Ai h
   try dsimp only
   unfold Gl;rw[fH oM,h,obs,Af sO,Af oM]
  ·try dsimp only
   unfold Gl;rw[fJ oM]
 rw[key];rfl
theorem Am9(G:Cps p l){xs:List Nd}(hs:∀ n∈xs,n.2.2.size<=maxLen):Lf (Ii l) xs=some (tyG (lfL (Ii l)) xs).isSome:=by
 have hll:(Ii l).length=l.length:=List.length_map ..;have h12:=G.len;unfold Lf;have ⟨r,r1,r2⟩:=Ag3 (Ai1 G.ok) G.okw hs;rw[Alg G,obs,fD,fY,Al8 oM G.szs,obs,r1,obs];cases hm:tyG (lfL<|Ii l) xs with
 | none=>rw[hm]at r2;exact congrArg some r2
 | some w=>rw[hm]at r2;dsimp only at r2;subst r2;rfl
end
theorem Ahs(p:Int):∀ xs:List Nd,(xs.any fun x=>(x.1==8||x.1==14)||((x.1==7||x.1==13)&&decide (p<=x.2.1)))= !(U1 xs&&Is p xs)
 | []=>rfl
 | x :: xs=>by
  have ih:=Ahs p xs;unfold U1 Is at ih ⊢;rw[List.any_cons,List.all_cons,List.all_cons,ih];cases (x.1==8||x.1==14) <;> cases ((x.1==7||x.1==13)&&decide (p<=x.2.1)) <;> cases (xs.all fun n=> !(n.1==8||n.1==14)) <;> rfl
theorem Ax3(p:Int)(xs:List Nd)(hx:xs.length<=1073741824):Bc xs p=some (!(U1 xs&&Is p xs)):=by
 unfold Bc Bo
 have h1:∀ n:Nd,I1 n.1 n.2.1 n.2.2 p=some ((n.1==8||n.1==14)||((n.1==7||n.1==13)&&decide (p<=n.2.1))):=fun n=>by
  unfold I1 Jf E0;cases n.1==8 <;> cases n.1==14 <;> cases n.1==7 <;> cases n.1==13 <;> rfl
 have hs:∀ i x,xs[i]? =some x->Ax xs p i=some (if ((x.1==8||x.1==14)||((x.1==7||x.1==13)&&decide (p<=x.2.1))) then Ctl.out (Ctl.out (i:Int)) else Ctl.next (i+1)):=fun i x h=>by
  have:=Ai h;unfold Ax;rw[fH oM,h,obs,h1,obs,Af oM];cases (x.1==8||x.1==14)||((x.1==7||x.1==13)&&decide (p<=x.2.1)) <;> rfl
 have he:Ax xs p xs.length=some (Ctl.out<|Ctl.next ()):=by
  unfold Ax;rw[fJ oM]
 have hv:=Ahs p xs;rw[← hv];rcases Pq (body:=fun s_:Nat=>Ax xs p s_) xs (fun x=>(x.1==8||x.1==14)||((x.1==7||x.1==13)&&decide (p<=x.2.1))) (Ctl.next ()) (fun i=>Ctl.out (i:Int)) (F:=4611686018427387904) oM hs he with ⟨h1,i,hi,h2⟩|⟨h1,h2⟩
 ·rw[h2,h1];show some (decide (0<=(i:Int)))=some true;rw[Av oM]
 ·rw[h2,h1];rfl
noncomputable def Art(p:Int)(l:List Cp)(xs:List Nd):Bool:=(okL p [] l&&(isF p&&decide (((l.length:Nat):Int)<=12)))&&((tyG (lfL (Ii l)) xs).isSome&&(U1 xs&&Is p xs))
section
variable{p:Int}{l:List Cp}{xs:List Nd}(hl:l.length<=1048576)(hc:∀ x∈l,V5 x)(hn:∀ x∈l,x.1.size<=maxLen)(hb:∀ x∈l,∀ n∈x.2.1,n.2.2.size<=maxLen)(hx:xs.length<=1073741824)
include hl hc hn hb
theorem Ajn(h:(okL p [] l&&(isF p&&decide (((l.length:Nat):Int)<=12)))=true):Cps p l:=by
 simp only[fT,decide_eq_true_eq]at h;exact ⟨by omega,hc,hn,hb,h.1⟩
include hx
theorem Anu(hs:∀ n∈xs,n.2.2.size<=maxLen):La p l xs=some (Art p l xs):=by
 unfold La Art;rw[Atb hl hc hn,obs];cases hk:(okL p [] l&&(isF p&&decide (((l.length:Nat):Int)<=12)))
 ·rfl
 have G:=Ajn hl hc hn hb hk;have h12:=G.len;rw[fD,fY,Ak9 l oM,obs,Am9 G hs,obs,obs,Bool.true_and];cases (tyG (lfL<|Ii l) xs).isSome
 ·rfl
 rw[fD,fY,Ax3 p xs hx,obs,Bool.not_not,Bool.true_and]
theorem Ann:Lb p l xs=some (Art p l xs):=by
 unfold Lb Art;rw[Awq hl hc,obs];cases hk:(okL p [] l&&(isF p&&decide (((l.length:Nat):Int)<=12)))
 ·rfl
 have G:=Ajn hl hc hn hb hk;have h12:=G.len;rw[fD,fY,S8 xs hx,obs,obs,Bool.true_and];cases U1 xs
 ·rw[Bool.false_and,Bool.and_false];rfl
 rw[fD,fY,Zv l hl,obs];have ⟨F,I,O,b,h1,h2⟩:=Akj (lib:=Ii l) (by rw[show (Ii l).length=l.length from List.length_map ..];omega) G.okw xs;rw[show H9 (l.map fun x=>((x.1,x.2.2.1,x.2.2.2.1,x.2.1):Df)) xs=some (F,I,O,b) from h1,obs];cases ht:tyG (lfL<|Ii l) xs with
 | none=>
  rw[ht]at h2;dsimp only at h2;subst h2;rfl
 | some w=>
  rw[ht]at h2;obtain ⟨rfl,_,_⟩:=h2;rw[fD,fY,Option.isSome_some,Bool.true_and,Bool.true_and]
  have hst:∀ i x,xs[i]? =some x->Eb xs p i=some (if ((x.1==7||x.1==13)&&decide (p<=x.2.1)) then Ctl.out (Ctl.out false) else Ctl.next (i+1)):=fun i x h=>by
   have:=Ai h;unfold Eb;rw[fH oM,h,obs,Af oM];cases x.1==7 <;> cases x.1==13 <;> cases decide (p<=x.2.1) <;> rfl
  have he:Eb xs p xs.length=some (Ctl.out<|Ctl.next ()):=by
   unfold Eb;rw[fJ oM]
  have hv:(xs.any fun x=>(x.1==7||x.1==13)&&decide (p<=x.2.1))= !Is p xs:=by
   unfold Is;rw[← Bool.not_not (xs.any _),List.not_any_eq_all_not]
  rcases Pq (body:=fun s_:Nat=>Eb xs p s_) xs (fun x=>(x.1==7||x.1==13)&&decide (p<=x.2.1)) (Ctl.next ()) (fun _=>Ctl.out false) (F:=4611686018427387904) oM hst he with ⟨h1,i,hi,h2⟩|⟨h1,h2⟩
  ·rw[hv]at h1;rw[h2,show Is p xs=false by cases hvv:Is p xs <;> rw[hvv]at h1 <;> first|rfl|cases h1];rfl
  ·rw[hv]at h1;rw[h2,show Is p xs=true by cases hvv:Is p xs <;> rw[hvv]at h1 <;> first|rfl|cases h1];rfl
end
end
section
section
variable{p:Int}{lf:Nd->Rn}
theorem Aqq(hp:isF p=true){l:List Cp}{xs:List Nd}{k:Nat}{n:Nd}{pr:Bool}(hx:xs[k]? =some n)(hl:xs.length<=1000){lt:Nd->Option (Int×Int)}{T T':List (Int×Int)}{R:List Rn}(hT:Cz lt n T=some T')(hok:okT T)(hR:Ab9 p T R)(hlen:R.length<=1000)
  (hI:n.1=17->∃(j:Int) (x:Cp),(Option.bind (Dj l) fun y34=>C7 y34 n.2.2)=some j/\Bz l j=some x/\(if pr then some x.2.2 else Gi p x.1 x.2.1 x.2.2.1 x.2.2.2.1 x.2.2.2.2)=some (Bn (lf n))) (hI':∀ w,¬ (n.1=15∨n.1=16)->n.1≠17->lt n=some w->Bt p n.1 n.2.1 n.2.2=some (Bn (lf n))):
  Ej xs p l pr k (R.map Bn).reverse=some (.next (k+1,((Le p lf n R).map Bn).reverse)):=by
 have hk:=Ai hx;unfold Ej;rw[fH oM,hx,obs];by_cases hc:n.1=15∨n.1=16
 ·unfold Cz at hT;rw[fW hc]at hT;split at hT
  ·match T,R,hT,hR with
   | w2 :: w1 :: T,y :: x :: R,hT,⟨⟨ey,gy⟩,⟨ex,gx⟩,hR⟩=>
    subst ey ex;have o1:=hok _<|List.mem_cons_of_mem _ List.mem_cons_self;have o2:=hok _ List.mem_cons_self;have ⟨⟨_,o11⟩,_,o12⟩:=o1;have ⟨⟨_,o21⟩,_,o22⟩:=o2;dsimp only at o11 o12 o21 o22 hT;rw[List.length_cons,List.length_cons]at hlen;rw[Acu];have hSl:((R.map Bn).reverse).length=R.length:=by simp
    generalize hS:(R.map Bn).reverse=S at *;have ⟨s1,s2,s3⟩:=Ai7 (a:=Bn x) (b:=Bn y) hSl;have hl2:(S++[Bn x,Bn y]).length=R.length+2:=by simp[hSl]
    have w1:wI (((R.length+2:Nat):Int) - 1)=((R.length+1:Nat):Int):=by rw[Bi oM oM];omega
    have w2:wI (((R.length+2:Nat):Int) - 2)=((R.length:Nat):Int):=by rw[Bi oM oM];omega
    simp only[hl2,w1,w2,B9<|Int.natCast_nonneg _,fX,s1,s2,s3,obs];show _=some (Ctl.next (k+1,((if n.1=15 then Ajz p x y :: R else if n.1=16 then Age p x y :: R else lf n :: y :: x :: R).map Bn).reverse));by_cases h15:n.1=15
    ·rw[fW h15]at hT ⊢;split at hT
     next he=>rw[show (n.1==15)=true from fF.2 h15];simp only[fZ,obs];rw[Af oM,(Xn hp gx gy oM oM oM).2,obs,Af oM,obs,Af oM,H4,hS]
     ·cases hT
    ·rw[fB h15]at hT ⊢;have h16:=hc.resolve_left h15;rw[fW h16,show (n.1==15)=false from fU.2 h15,show (n.1==16)=true from fF.2 h16];simp only[fZ,fY,obs];rw[Af oM,(Yh hp gx gy oM oM).2,obs,Af oM,obs,Af oM,H4,hS]
  ·cases hT
 ·have hT0:=hT;unfold Cz at hT;rw[fB hc]at hT;have ⟨w,hw,_⟩:=oms.1 hT;rw[Mf hc,H4,show (n.1==15)=false from fU.2 (fun e=>hc<|.inl e),show (n.1==16)=false from fU.2 (fun e=>hc<|.inr e)];simp only[fY,obs];have hSl:((R.map Bn).reverse).length=R.length:=by simp
  by_cases h17:n.1=17
  ·have ⟨j,x,j1,j2,j3⟩:=hI h17;have ⟨L,hL,hj⟩:=Option.bind_eq_some_iff.1 j1;rw[show (n.1==17)=true from fF.2 h17,fZ,hL,obs,hj,obs,j2,obs];cases pr
   ·have j3:Gi p x.1 x.2.1 x.2.2.1 x.2.2.2.1 x.2.2.2.2=some (Bn<|lf n):=j3;rw[fY,j3,obs,Af oM,obs,Af oM]
   ·have j3:some x.2.2=some (Bn<|lf n):=j3;rw[fZ,Af oM,obs,Af oM,osj j3]
  ·rw[show (n.1==17)=false from fU.2 h17,fY,hI' w hc h17 hw,obs,Af oM,obs,Af oM]
theorem Aqf{l:List Cp}{n:Nd}{w:Int×Int}(h17:n.1=17)(h:lfL (Ii l) n=some w):∃ x,l.find? (fun x=>x.1.toList==n.2.2.toList)=some x/\w=(x.2.2.1,x.2.2.2.1):=by
 unfold lfL Ii at h;rw[fW h17]at h;split at h
 ·rw[List.find?_map]at h;obtain ⟨d,hd,rfl⟩:=oms.1 h;obtain ⟨x,hx,rfl⟩:=oms.1 hd;exact ⟨x,hx,rfl⟩
 ·cases h
theorem Ahf{l:List Cp}(G:Cps p l){i k:Nat}{x y:Cp}(hy:l[i]? =some y)(hk:l[k]? =some x)(hn:y.1=x.1)(c:i<k):False:=by
 have h:=(Aau G.ok hk).2;refine List.any_eq_false.1 h y.1 (List.mem_map.2 ⟨y,List.mem_iff_getElem?.2 ⟨i,by rw[List.getElem?_take,fW c];exact hy⟩,rfl⟩) ?_;rw[hn];exact beq_self_eq_true _
theorem Aw4{l:List Cp}(G:Cps p l){s:ByteArray}{x:Cp}(h:l.find? (fun x=>x.1.toList==s.toList)=some x):∃ j,(Option.bind (Dj l) fun y34=>C7 y34 s)=some j/\Bz l j=some x:=by
 have hl:=G.len;rw[Zv l oM,obs]
 have hm:(Ii l).find? (fun d=>d.1.toList==s.toList)=some (x.1,x.2.2.1,x.2.2.2.1,x.2.1):=by
  unfold Ii;rw[List.find?_map];exact congrArg (Option.map _) h
 rcases Alt (Ii l) (by unfold Ii;rw[List.length_map];omega) s with ⟨i,d,h1,h2,h3⟩|⟨_,h2⟩
 ·refine ⟨(i:Int),h1,?_⟩;rw[B9 oM,fX];have ⟨k,hk⟩:=List.mem_iff_getElem?.1<|List.mem_of_find?_eq_some h;have ⟨y,hy,e⟩:=Ae8 h2;have ed:=osj<|h3.symm.trans hm;rw[e]at ed;have hn:y.1=x.1:=congrArg (·.1) ed;rcases Nat.lt_trichotomy i k with c|c|c
  ·exact (Ahf G hy hk hn c).elim
  ·subst c;exact hk
  ·exact (Ahf G hk hy hn.symm c).elim
 ·rw[hm]at h2;cases h2
theorem Au8{n:Nat}(m:ZA)(hl:m.length<=1000)(hm:MatW p n m)(hn:n<=1000):Nu m=some m:=by
 unfold Nu
 have key:Aq (fun s_:Nat×ZA=>J8 m s_.1 s_.2) 4611686018427387904 (0,([]:ZA))=some ([]++m.map fun x=>x):=by
  refine Dl m (fun x=>x) [] oM _ (fun j x h=>?_) ?_
  ·have:=Ai h;have hxl:=(hm x<|List.mem_of_getElem? h).1
   try dsimp only
   unfold J8;rw[fH oM,h,obs,Yv _ oM,obs,Af sO,Af oM]
  ·try dsimp only
   unfold J8;rw[fJ oM]
 rw[key];simp
end
end
section
section
variable{p:Int}
def lfD(p:Int)(n:Nd):Rn:=match A6 p n.1 n.2.1 n.2.2 with|some a=>W8 a|none=>(0,0,[])
theorem Adp(hp:isF p=true){n:Nd}{w:Int×Int}(hw:lfW n=some w)(hs:n.1≠8/\n.1≠14)(hv:n.1=7∨n.1=13->n.2.1<p):
  Bt p n.1 n.2.1 n.2.2=some (Bn (lfD p n))/\A6 p n.1 n.2.1 n.2.2=some (Bn (lfD p n))/\w=(((lfD p n).1:Int),((lfD p n).2.1:Int))/\L0 p (lfD p n):=by
 obtain ⟨a,h1,h2,h3,rfl⟩:=Alh hp hw hs hv;have ⟨g1,g2⟩:=Al2 (x:=a) h3
 have e:lfD p n=W8 a:=by
  unfold lfD;rw[h2]
 rw[e,g2];refine ⟨h1,h2,?_,g1⟩;have e1:(Bn<|W8 a).1=a.1:=by rw[g2]
 have e2:(Bn<|W8 a).2.1=a.2.1:=by rw[g2]
 exact Prod.ext e1.symm e2.symm
theorem Asz(hp:isF p=true){xs:List Nd}{k:Nat}{n:Nd}(hx:xs[k]? =some n)(hl:xs.length<=1000){T T':List (Int×Int)}{R:List Rn}(hT:Cz lfW n T=some T')(hok:okT T)(hR:Ab9 p T R)(hlen:R.length<=1000)
  (hI:∀ w,¬ (n.1=15∨n.1=16)->lfW n=some w->A6 p n.1 n.2.1 n.2.2=some (Bn (lfD p n))):
  Gz xs p k (R.map Bn).reverse=some (.next (k+1,((Le p (lfD p) n R).map Bn).reverse)):=by
 have hk:=Ai hx;unfold Gz;rw[fH oM,hx,obs];by_cases hc:n.1=15∨n.1=16
 ·unfold Cz at hT;rw[fW hc]at hT;split at hT
  ·match T,R,hT,hR with
   | w2 :: w1 :: T,y :: x :: R,hT,⟨⟨ey,gy⟩,⟨ex,gx⟩,hR⟩=>
    subst ey ex;have o1:=hok _<|List.mem_cons_of_mem _ List.mem_cons_self;have o2:=hok _ List.mem_cons_self;have ⟨⟨_,o11⟩,_,o12⟩:=o1;have ⟨⟨_,o21⟩,_,o22⟩:=o2;dsimp only at o11 o12 o21 o22 hT;rw[List.length_cons,List.length_cons]at hlen;rw[Acu];have hSl:((R.map Bn).reverse).length=R.length:=by simp
    generalize hS:(R.map Bn).reverse=S at *;have ⟨s1,s2,s3⟩:=Ai7 (a:=Bn x) (b:=Bn y) hSl;have w1:wI (((R.length+2:Nat):Int) - 1)=((R.length+1:Nat):Int):=by rw[Bi oM oM];omega
    have w2:wI (((R.length+1:Nat):Int) - 1)=((R.length:Nat):Int):=by rw[Bi oM oM];omega
    have hl2:(S++[Bn x,Bn y]).length=R.length+2:=by simp[hSl]
    simp only[w1,w2,hl2,B9<|Int.natCast_nonneg _,fX,s1,s2,s3,obs];show _=some (Ctl.next (k+1,((if n.1=15 then Ajz p x y :: R else if n.1=16 then Age p x y :: R else lfD p n :: y :: x :: R).map Bn).reverse));by_cases h15:n.1=15
    ·rw[fW h15]at hT ⊢;split at hT
     next he=>rw[show (n.1==15)=true from fF.2 h15,fZ,Af oM,(Xn hp gx gy oM oM oM).1,obs,Af oM,obs,Af oM,H4,hS]
     ·cases hT
    ·rw[fB h15]at hT ⊢;have h16:=hc.resolve_left h15;rw[fW h16,show (n.1==15)=false from fU.2 h15,fY,show (n.1==16)=true from fF.2 h16,fZ,Af oM,(Yh hp gx gy oM oM).1,obs,Af oM,obs,Af oM,H4,hS]
  ·cases hT
 ·unfold Cz at hT;rw[fB hc]at hT;have ⟨w,hw,_⟩:=oms.1 hT;rw[Mf hc,H4,show (n.1==15)=false from fU.2 (fun e=>hc<|.inl e),fY,show (n.1==16)=false from fU.2 (fun e=>hc<|.inr e),fY];have hSl:((R.map Bn).reverse).length=R.length:=by simp
  rw[hI w hc hw,obs,Af oM,obs,Af oM]
theorem Atz(hp:isF p=true){xs:List Nd}{k:Nat}{n:Nd}(hx:xs[k]? =some n)(hl:xs.length<=1000)(hst:(n.1==8||n.1==14)=false){T T':List (Int×Int)}{R:List Rn}(hT:Cz lfW n T=some T')(hok:okT T)(hR:Ab9 p T R)(hlen:R.length<=1000)
  (hI:∀ w,¬ (n.1=15∨n.1=16)->lfW n=some w->Bt p n.1 n.2.1 n.2.2=some (Bn (lfD p n))):
  G5 xs p k (R.map Bn).reverse=some (.next (k+1,((Le p (lfD p) n R).map Bn).reverse)):=by
 have hk:=Ai hx;unfold G5 C5;rw[fH oM,hx,obs,show (n.1 !=8)= !(n.1==8) from rfl,show (n.1 !=14)= !(n.1==14) from rfl];have ⟨t1,t2⟩:=Bool.or_eq_false_iff.1 hst;rw[t1,t2];by_cases hc:n.1=15∨n.1=16
 ·unfold Cz at hT;rw[fW hc]at hT;split at hT
  ·match T,R,hT,hR with
   | w2 :: w1 :: T,y :: x :: R,hT,⟨⟨ey,gy⟩,⟨ex,gx⟩,hR⟩=>
    subst ey ex;have o1:=hok _<|List.mem_cons_of_mem _ List.mem_cons_self;have o2:=hok _ List.mem_cons_self;have ⟨⟨_,o11⟩,_,o12⟩:=o1;have ⟨⟨_,o21⟩,_,o22⟩:=o2;dsimp only at o11 o12 o21 o22 hT;rw[List.length_cons,List.length_cons]at hlen;rw[Acu];have hSl:((R.map Bn).reverse).length=R.length:=by simp
    generalize hS:(R.map Bn).reverse=S at *;have ⟨s1,s2,s3⟩:=Ai7 (a:=Bn x) (b:=Bn y) hSl;have hl2:(S++[Bn x,Bn y]).length=R.length+2:=by simp[hSl]
    have w1:wI (((R.length+2:Nat):Int) - 1)=((R.length+1:Nat):Int):=by rw[Bi oM oM];omega
    have w2:wI (((R.length+2:Nat):Int) - 2)=((R.length:Nat):Int):=by rw[Bi oM oM];omega
    simp only[hl2,w1,w2,B9<|Int.natCast_nonneg _,fX,s1,s2,s3,obs,Bool.not_false,fZ,fD,fY];show _=some (Ctl.next (k+1,((if n.1=15 then Ajz p x y :: R else if n.1=16 then Age p x y :: R else lfD p n :: y :: x :: R).map Bn).reverse));by_cases h15:n.1=15
    ·rw[fW h15]at hT ⊢;split at hT
     ·rename_i he;have n15:(n.1 !=15)=false:=by rw[h15];rfl
      have b15:(n.1==15)=true:=fF.2 h15;simp only[n15,b15,fZ,fY,obs];rw[Af oM,(Xn hp gx gy oM oM oM).2,obs,Af oM,H4,hS];exact Af oM _
     ·cases hT
    ·rw[fB h15]at hT ⊢;have h16:=hc.resolve_left h15;have n15:(n.1 !=15)=true:=bne_iff_ne.2 h15;have n16:(n.1 !=16)=false:=by rw[h16];rfl
     have b15:(n.1==15)=false:=fU.2 h15;rw[fW h16];simp only[n15,n16,b15,fZ,fY,obs];rw[Af oM,(Yh hp gx gy oM oM).2,obs,Af oM,H4,hS];exact Af oM _
  ·cases hT
 ·unfold Cz at hT;rw[fB hc]at hT;have ⟨w,hw,_⟩:=oms.1 hT;have n15:(n.1 !=15)=true:=bne_iff_ne.2 fun e=>hc<|.inl e
  have n16:(n.1 !=16)=true:=bne_iff_ne.2 fun e=>hc<|.inr e
  have hSl:((R.map Bn).reverse).length=R.length:=by simp
  rw[Mf hc,H4];simp only[n15,n16,fZ,fY,obs,Bool.not_false,fD];rw[hI w hc hw,obs,Af oM];show og (k+1<4611686018427387904) (some<|Ctl.next (k+1,_))=_;rw[Af oM]
theorem Awl(hp:isF p=true){xs:List Nd}(hx:xs.length<=400){T:List (Int×Int)}(hT:Hc lfW xs []=some T)(hs:U1 xs=true)(hv:Is p xs=true):
  Ab9 p T (F3 p (lfD p) xs [])/\Aq (fun s_:Nat×(List (Int×Int×ZA))=>Gz xs p s_.1 s_.2) 4611686018427387904 (0,[])=some ((F3 p (lfD p) xs []).map Bn).reverse
   /\ Aq (fun s_:Nat×(List (Int×Int×ZA))=>G5 xs p s_.1 s_.2) 4611686018427387904 (0,[])=some (.next ((F3 p (lfD p) xs []).map Bn).reverse):=by
 have hnode:∀ n∈xs,(n.1≠8/\n.1≠14)/\(n.1=7∨n.1=13->n.2.1<p):=fun n hn=>by
  have h1:=List.all_eq_true.1 hs n hn;have h2:=List.all_eq_true.1 hv n hn;simp only[Bool.not_eq_true',Bool.or_eq_false_iff,fU,Bool.and_eq_false_iff,decide_eq_false_iff_not]at h1 h2;exact ⟨h1,fun h=>by rcases h2 with ⟨a,b⟩|h2 <;> omega⟩
 have hleaf:∀ n∈xs,∀ w,¬ (n.1=15∨n.1=16)->lfW n=some w->w=(((lfD p n).1:Int),((lfD p n).2.1:Int))/\L0 p (lfD p n):=fun n hn w _ hw=>by
  have ⟨_,_,h3,h4⟩:=Adp hp hw (hnode n hn).1 (hnode n hn).2;exact ⟨h3,h4⟩
 have hpre:∀ k,k<=xs.length->∃ Tk,Hc lfW (xs.take k) []=some Tk/\okT Tk/\Ab9 p Tk (F3 p (lfD p) (xs.take k) [])/\(F3 p (lfD p) (xs.take k) []).length<=k:=by
  intro k
  induction k with
  | zero=>exact fun _=>⟨[],rfl,(fun _ h=>by cases h),trivial,fQ _⟩
  | succ k ih=>
   intro hk;have ⟨Tk,h1,h2,h3,h4⟩:=ih oM;have hg:=gEg (show k<xs.length by omega);have hm:=List.getElem_mem (show k<xs.length by omega);have hn:=J1 hg h1;rw[L2 hg];cases hst:Cz lfW xs[k] Tk with
   | none=>rw[hst]at hn;rw[R7 hn]at hT;cases hT
   | some T' =>
    rw[hst]at hn;refine ⟨T',hn,Oi (fun n w h=>Ad9 h) hst h2,Akg hp (hleaf _ hm) hst h3,?_⟩
    have hlen:∀(n:Nd) (R:List Rn),(Le p (lfD p) n R).length<=R.length+1:=fun n R=>by
     unfold Le;split
     ·split
      ·simp only[List.length_cons];omega
      ·split <;> simp only[List.length_cons] <;> omega
     ·simp
    exact Nat.le_trans (hlen _ _) oM
 refine ⟨?_,?_,?_⟩
 ·have ⟨Tk,h1,_,h3,_⟩:=hpre xs.length<|fQ _;rw[List.take_length]at h1 h3;rw[hT]at h1;cases h1;exact h3
 ·refine Bg xs.length (fun k=>(k,((F3 p (lfD p) (xs.take k) []).map Bn).reverse)) oM _ rfl (fun k hk=>?_) ?_
  ·have ⟨Tk,h1,h2,h3,h4⟩:=hpre k oM;have ⟨Tn,g1,_⟩:=hpre (k+1) oM;have hg:=gEg hk;have hm:=List.getElem_mem hk;have hn:=J1 hg h1;rw[g1]at hn;rw[L2 hg];exact Asz hp hg oM hn.symm h2 h3 oM fun w hc hw=>(Adp hp hw (hnode _ hm).1 (hnode _ hm).2).2.1
  ·try dsimp only
   unfold Gz;rw[fJ oM,List.take_length]
 ·refine Bg xs.length (fun k=>(k,((F3 p (lfD p) (xs.take k) []).map Bn).reverse)) oM _ rfl (fun k hk=>?_) ?_
  ·have ⟨Tk,h1,h2,h3,h4⟩:=hpre k oM;have ⟨Tn,g1,_⟩:=hpre (k+1) oM;have hg:=gEg hk;have hm:=List.getElem_mem hk;have hn:=J1 hg h1;rw[g1]at hn;rw[L2 hg];refine Atz hp hg oM ?_ hn.symm h2 h3 oM fun w hc hw=>(Adp hp hw (hnode _ hm).1 (hnode _ hm).2).1;rw[Bool.or_eq_false_iff,fU,fU];exact (hnode _ hm).1
  ·try dsimp only
   unfold G5;rw[fJ oM,List.take_length]
theorem Azz{xs:List Nd}{s:ByteArray}{l r:Int}{b:ZA}(hp:isF p=true){w:Int×Int}(hT:tyV xs=some w)(hs:U1 xs=true)(hv:Is p xs=true):
  ∃ x:Rn,L0 p x/\w=((x.1:Int),(x.2.1:Int))/\okW w/\Do p xs=some (Bn x)/\Gi p s xs l r b=some (Bn x):=by
 have hw:=hT;unfold tyV tyG at hw;split at hw
 ·rename_i hx;cases hr:Hc lfW xs [] with
  | none=>rw[hr]at hw;cases hw
  | some T=>
   rw[hr]at hw;have hok:=Acm (fun n w h=>Ad9 h) hr (fun _ h=>by cases h);have ⟨h1,h2,h3⟩:=Awl hp hx.2 hr hs hv
   match T,hw with
   | [v],hw=>
    cases hw;generalize F3 p (lfD p) xs []=R at *
    match R,h1 with
    | [x],⟨⟨e,gx⟩,_⟩=>
     subst e;have ow:=hok _<|List.mem_singleton.2 rfl;refine ⟨x,gx,rfl,ow,?_,?_⟩
     ·unfold Do;rw[h2];rfl
     ·unfold Gi Rq;rw[X7 xs p oM,hT,hp,hv,h3];rfl
 ·cases hw
end
end
section
section
variable{p:Int}{lf:Nd->Rn}
theorem Aof(hp:isF p=true){l:List Cp}{xs:List Nd}{k:Nat}{n:Nd}(hx:xs[k]? =some n)(hl:xs.length<=1000){lt:Nd->Option (Int×Int)}{T T':List (Int×Int)}{R:List Rn}(hT:Cz lt n T=some T')(hok:okT T)(hR:Ab9 p T R)(hlen:R.length<=1000)
  (hI:n.1=17->Hz n.2.2 p l=some (Bn (lf n))) (hI':∀ w,¬ (n.1=15∨n.1=16)->n.1≠17->lt n=some w->A6 p n.1 n.2.1 n.2.2=some (Bn (lf n))):
  Bu xs p p l k (R.map Bn).reverse=some (.next (k+1,((Le p lf n R).map Bn).reverse)):=by
 have hk:=Ai hx;unfold Bu;rw[fH oM,hx,obs];by_cases hc:n.1=15∨n.1=16
 ·unfold Cz at hT;rw[fW hc]at hT;split at hT
  ·match T,R,hT,hR with
   | w2 :: w1 :: T,y :: x :: R,hT,⟨⟨ey,gy⟩,⟨ex,gx⟩,hR⟩=>
    subst ey ex;have o1:=hok _<|List.mem_cons_of_mem _ List.mem_cons_self;have o2:=hok _ List.mem_cons_self;have ⟨⟨_,o11⟩,_,o12⟩:=o1;have ⟨⟨_,o21⟩,_,o22⟩:=o2;dsimp only at o11 o12 o21 o22 hT;rw[List.length_cons,List.length_cons]at hlen;rw[Acu];have hSl:((R.map Bn).reverse).length=R.length:=by simp
    generalize hS:(R.map Bn).reverse=S at *;have ⟨s1,s2,s3⟩:=Ai7 (a:=Bn x) (b:=Bn y) hSl;have w1:wI (((R.length+2:Nat):Int) - 1)=((R.length+1:Nat):Int):=by rw[Bi oM oM];omega
    have w2:wI (((R.length+1:Nat):Int) - 1)=((R.length:Nat):Int):=by rw[Bi oM oM];omega
    have hl2:(S++[Bn x,Bn y]).length=R.length+2:=by simp[hSl]
    simp only[w1,w2,hl2,B9<|Int.natCast_nonneg _,fX,s1,s2,s3,obs];show _=some (Ctl.next (k+1,((if n.1=15 then Ajz p x y :: R else if n.1=16 then Age p x y :: R else lf n :: y :: x :: R).map Bn).reverse));by_cases h15:n.1=15
    ·rw[fW h15]at hT ⊢;split at hT
     next he=>rw[show (n.1==15)=true from fF.2 h15,fZ,Af oM,(Xn hp gx gy oM oM oM).1,obs,Af oM,obs,Af oM,H4,hS]
     ·cases hT
    ·rw[fB h15]at hT ⊢;have h16:=hc.resolve_left h15;rw[fW h16,show (n.1==15)=false from fU.2 h15,fY,show (n.1==16)=true from fF.2 h16,fZ,Af oM,(Yh hp gx gy oM oM).1,obs,Af oM,obs,Af oM,H4,hS]
  ·cases hT
 ·have hT0:=hT;unfold Cz at hT;rw[fB hc]at hT;have ⟨w,hw,_⟩:=oms.1 hT;rw[Mf hc,H4,show (n.1==15)=false from fU.2 (fun e=>hc<|.inl e),fY,show (n.1==16)=false from fU.2 (fun e=>hc<|.inr e),fY];have hSl:((R.map Bn).reverse).length=R.length:=by simp
  by_cases h17:n.1=17
  ·rw[show (n.1==17)=true from fF.2 h17,fZ,hI h17,obs,Af oM,obs,Af oM]
  ·rw[show (n.1==17)=false from fU.2 h17,fY,hI' w hc h17 hw,obs,Af oM,obs,Af oM]
def lfA(p:Int)(l:List Cp)(n:Nd):Rn:=
 if n.1=17 then (match l.find? fun x=>x.1.toList==n.2.2.toList with|some x=>(match Do p x.2.1 with|some a=>W8 a|none=>(0,0,[]))|none=>(0,0,[]))
 else (match A6 p n.1 n.2.1 n.2.2 with|some a=>W8 a|none=>(0,0,[]))
theorem Adn{l:List Cp}(G:Cps p l){n:Nd}{w:Int×Int}(h17:n.1=17)(h:lfL (Ii l) n=some w):∃ x,l.find? (fun x=>x.1.toList==n.2.2.toList)=some x/\Do p x.2.1=some (Bn (lfA p l n))/\Gi p x.1 x.2.1 x.2.2.1 x.2.2.2.1 x.2.2.2.2=some (Bn (lfA p l n))/\w=(((lfA p l n).1:Int),((lfA p l n).2.1:Int))/\L0 p (lfA p l n):=by
 obtain ⟨x,hx,rfl⟩:=Aqf h17 h;have g:=G.good<|List.mem_of_find?_eq_some hx;have ⟨y,gy,ew,_,d1,d2⟩:=Azz (s:=x.1) (l:=x.2.2.1) (r:=x.2.2.2.1) (b:=x.2.2.2.2) g.fld g.ty g.sta g.vals
 have e:lfA p l n=y:=by
  unfold lfA;rw[fW h17,hx];show (match Do p x.2.1 with|some a=>W8 a|none=>(0,0,[]))=y;rw[d1];simp[W8,Bn]
 rw[e];exact ⟨x,hx,d1,d2,ew,gy⟩
theorem Ac0{l:List Cp}(hp:isF p=true){n:Nd}{w:Int×Int}(h17:n.1≠17)(hw:lfL (Ii l) n=some w)(hs:n.1≠8/\n.1≠14)(hv:n.1=7∨n.1=13->n.2.1<p):
  Bt p n.1 n.2.1 n.2.2=some (Bn (lfA p l n))/\A6 p n.1 n.2.1 n.2.2=some (Bn (lfA p l n))/\w=(((lfA p l n).1:Int),((lfA p l n).2.1:Int))/\L0 p (lfA p l n):=by
 unfold lfL at hw;rw[fB h17]at hw;obtain ⟨a,h1,h2,h3,rfl⟩:=Alh hp hw hs hv;have ⟨g1,g2⟩:=Al2 (x:=a) h3
 have e:lfA p l n=W8 a:=by
  unfold lfA;rw[fB h17,h2]
 rw[e,g2];refine ⟨h1,h2,?_,g1⟩;have e1:(Bn<|W8 a).1=a.1:=by rw[g2]
 have e2:(Bn<|W8 a).2.1=a.2.1:=by rw[g2]
 exact Prod.ext e1.symm e2.symm
theorem At1{l:List Cp}(hl:l.length<=1048576){s:ByteArray}{x:Cp}(h:l.find? (fun x=>x.1.toList==s.toList)=some x):Hz s p l=Do p x.2.1:=by
 unfold Hz Il
 have hP:∃ r,Aq (fun s_:Nat=>Ba l s s_) 4611686018427387904 0=some r/\(∃(i:Nat) (d:Cp),r=Ctl.out (i:Int)/\l[i]? =some d/\l.find? (fun d=>d.1.toList==s.toList)=some d):=by
  refine Jd (Post:=fun r=>(∃(i:Nat) (d:Cp),r=Ctl.out (i:Int)/\l[i]? =some d/\l.find? (fun d=>d.1.toList==s.toList)=some d)) l.length (fun i st=>st=i/\(l.take i).find? (fun d=>d.1.toList==s.toList)=none) oM ⟨rfl,by simp⟩ ?_ ?_
  ·rintro i st hi ⟨rfl,hI⟩;have hx:=gEg hi;unfold Ba G8;rw[fH oM,hx,obs,obs];have e:l.take (st+1)=l.take st++[l[st]]:=by rw[List.take_add_one,hx];rfl
   cases hb:(l[st].1.toList==s.toList)
   ·rw[fY,Af oM];exact .inl ⟨_,rfl,rfl,by rw[e,List.find?_append,hI];simp[hb]⟩
   ·refine .inr ⟨_,rfl,st,l[st],rfl,hx,?_⟩;have e2:l=l.take (st+1)++l.drop (st+1):=(List.take_append_drop _ _).symm
    conv=>lhs;rw[e2,e]
    rw[List.find?_append,List.find?_append,hI];simp[hb]
  ·rintro st ⟨rfl,hI⟩;rw[List.take_length,h]at hI;cases hI
 obtain ⟨r,hr,i,d,rfl,h1,h2⟩:=hP;unfold Bf;rw[hr];rw[h]at h2;cases h2;show (Option.bind (Option.bind (Bz l (i:Int)) _) _)=_;rw[B9 oM,fX,h1];show Option.bind (Do p x.2.1) _=_;cases Do p x.2.1 <;> rfl
theorem Aq0{l:List Cp}(G:Cps p l)(hp:isF p=true){xs:List Nd}(hx:xs.length<=400){T:List (Int×Int)}(hT:Hc (lfL (Ii l)) xs []=some T)(hs:U1 xs=true)(hv:Is p xs=true):
  Ab9 p T (F3 p (lfA p l) xs [])/\Aq (fun s_:Nat×(List (Int×Int×ZA))=>Bu xs p p l s_.1 s_.2) 4611686018427387904 (0,[])=some ((F3 p (lfA p l) xs []).map Bn).reverse
   /\ Aq (fun s_:Nat×(List (Int×Int×ZA))=>Ej xs p l false s_.1 s_.2) 4611686018427387904 (0,[])=some ((F3 p (lfA p l) xs []).map Bn).reverse:=by
 have hnode:∀ n∈xs,(n.1≠8/\n.1≠14)/\(n.1=7∨n.1=13->n.2.1<p):=fun n hn=>by
  have h1:=List.all_eq_true.1 hs n hn;have h2:=List.all_eq_true.1 hv n hn;simp only[Bool.not_eq_true',Bool.or_eq_false_iff,fU,Bool.and_eq_false_iff,decide_eq_false_iff_not]at h1 h2;exact ⟨h1,fun h=>by rcases h2 with ⟨a,b⟩|h2 <;> omega⟩
 have hleaf:∀ n∈xs,∀ w,¬ (n.1=15∨n.1=16)->lfL (Ii l) n=some w->w=(((lfA p l n).1:Int),((lfA p l n).2.1:Int))/\L0 p (lfA p l n):=fun n hn w _ hw=>by
  by_cases h17:n.1=17
  ·have ⟨_,_,_,_,h3,h4⟩:=Adn G h17 hw;exact ⟨h3,h4⟩
  ·have ⟨_,_,h3,h4⟩:=Ac0 hp h17 hw (hnode n hn).1 (hnode n hn).2;exact ⟨h3,h4⟩
 have hpre:∀ k,k<=xs.length->∃ Tk,Hc (lfL<|Ii l) (xs.take k) []=some Tk/\okT Tk/\Ab9 p Tk (F3 p (lfA p l) (xs.take k) [])/\(F3 p (lfA p l) (xs.take k) []).length<=k:=by
  intro k
  induction k with
  | zero=>exact fun _=>⟨[],rfl,(fun _ h=>by cases h),trivial,fQ _⟩
  | succ k ih=>
   intro hk;have ⟨Tk,h1,h2,h3,h4⟩:=ih oM;have hg:=gEg (show k<xs.length by omega);have hm:=List.getElem_mem (show k<xs.length by omega);have hn:=J1 hg h1;rw[L2 hg];cases hst:Cz (lfL<|Ii l) xs[k] Tk with
   | none=>rw[hst]at hn;rw[R7 hn]at hT;cases hT
   | some T' =>
    rw[hst]at hn;refine ⟨T',hn,Oi (fun n w h=>Aa4 G.okw n w h) hst h2,Akg hp (hleaf _ hm) hst h3,?_⟩
    have hlen:∀(n:Nd) (R:List Rn),(Le p (lfA p l) n R).length<=R.length+1:=fun n R=>by
     unfold Le;split
     ·split
      ·simp only[List.length_cons];omega
      ·split <;> simp only[List.length_cons] <;> omega
     ·simp
    exact Nat.le_trans (hlen _ _) oM
 refine ⟨?_,?_,?_⟩
 ·have ⟨Tk,h1,_,h3,_⟩:=hpre xs.length<|fQ _;rw[List.take_length]at h1 h3;rw[hT]at h1;cases h1;exact h3
 ·refine Bg xs.length (fun k=>(k,((F3 p (lfA p l) (xs.take k) []).map Bn).reverse)) oM _ rfl (fun k hk=>?_) ?_
  ·have ⟨Tk,h1,h2,h3,h4⟩:=hpre k oM;have ⟨Tn,g1,_⟩:=hpre (k+1) oM;have hg:=gEg hk;have hm:=List.getElem_mem hk;have hn:=J1 hg h1;rw[g1]at hn;rw[L2 hg];refine Aof hp hg oM hn.symm h2 h3 oM (fun h17=>?_) fun w hc h17 hw=>?_
   ·have hst:=hn.symm;unfold Cz at hst;rw[fB oM]at hst;have ⟨w,hw,_⟩:=oms.1 hst;have ⟨x,q1,q2,_,_,_⟩:=Adn G h17 hw;rw[At1 (by have:=G.len;omega) q1,q2]
   ·exact (Ac0 hp h17 hw (hnode _ hm).1 (hnode _ hm).2).2.1
  ·try dsimp only
   unfold Bu;rw[fJ oM,List.take_length]
 ·refine Bg xs.length (fun k=>(k,((F3 p (lfA p l) (xs.take k) []).map Bn).reverse)) oM _ rfl (fun k hk=>?_) ?_
  ·have ⟨Tk,h1,h2,h3,h4⟩:=hpre k oM;have ⟨Tn,g1,_⟩:=hpre (k+1) oM;have hg:=gEg hk;have hm:=List.getElem_mem hk;have hn:=J1 hg h1;rw[g1]at hn;rw[L2 hg];refine Aqq hp hg oM hn.symm h2 h3 oM (fun h17=>?_) fun w hc h17 hw=>?_
   ·have hst:=hn.symm;unfold Cz at hst;rw[fB oM]at hst;have ⟨w,hw,_⟩:=oms.1 hst;have ⟨x,q1,_,q2,_,_⟩:=Adn G h17 hw;have ⟨j,j1,j2⟩:=Aw4 G q1;exact ⟨j,x,j1,j2,by rw[fB (by decide),q2]⟩
   ·exact (Ac0 hp h17 hw (hnode _ hm).1 (hnode _ hm).2).1
  ·try dsimp only
   unfold Ej;rw[fJ oM,List.take_length]
theorem Au7{l:List Cp}{xs:List Nd}(G:Cps p l)(hp:isF p=true)(hT:(tyG (lfL (Ii l)) xs).isSome=true)(hs:U1 xs=true)(hv:Is p xs=true):
  ∃ x:Rn,L0 p x/\okW ((x.1:Int),(x.2.1:Int))/\Oc p l xs=some (Bn x)/\Iq p l xs false=some (Bn x):=by
 have ⟨w,hw⟩:=Option.isSome_iff_exists.1 hT;unfold tyG at hw;split at hw
 ·rename_i hx;cases hr:Hc (lfL<|Ii l) xs [] with
  | none=>rw[hr]at hw;cases hw
  | some T=>
   rw[hr]at hw;have hok:=Acm (fun n w h=>Aa4 G.okw n w h) hr (fun _ h=>by cases h);have ⟨h1,h2,h3⟩:=Aq0 G hp hx.2 hr hs hv
   match T,hw with
   | [v],hw=>
    cases hw;generalize F3 p (lfA p l) xs []=R at *
    match R,h1 with
    | [x],⟨⟨e,gx⟩,_⟩=>
     subst e;have ow:=hok _<|List.mem_singleton.2 rfl;have hlb:=gx.lb;have o1:x.1<=12:=by have:=ow.1.2;dsimp only at this;omega
     have o2:x.2.1<=12:=by have:=ow.2.2;dsimp only at this;omega
     refine ⟨x,gx,ow,?_,?_⟩
     ·unfold Oc Dp;rw[h2];show (Option.bind (Option.bind (Gj x.2.2) fun y43=>some ((x.1:Int),(x.2.1:Int),y43)) fun y4=>some (y4.1,y4.2.1,y4.2.2))=_;rw[Acv gx.mb oM oM];rfl
     ·unfold Iq;rw[h3];show (Option.bind (Ph (x.1:Int) (x.2.1:Int) x.2.2) fun y47=>some ((x.1:Int),(x.2.1:Int),y47))=_;unfold Ph;rw[Au8 _ oM gx.mb oM];rfl
 ·cases hw
end
end
section
section
variable{p:Int}{l:List Cp}{xs:List Nd}
theorem Anc(hl:l.length<=1048576)(hc:∀ x∈l,V5 x)(hn:∀ x∈l,x.1.size<=maxLen)(hb:∀ x∈l,∀ n∈x.2.1,n.2.2.size<=maxLen)(hs:∀ n∈xs,n.2.2.size<=maxLen)(hx:xs.length<=1073741824):
  ∃ V:Bool×Int×Int×ZA,Lc p l xs=some V/\Ld p l xs=some V/\V.2.2.2.length<=1000/\I4 1000 V.2.2.2:=by
 unfold Lc Ld;rw[Ann hl hc hn hb hx,Anu hl hc hn hb hx hs,obs,obs];cases hd:Art p l xs
 ·exact ⟨_,rfl,rfl,Nat.zero_le _,fun x h=>by cases h⟩
 simp only[fD,fY];unfold Art at hd;rw[fT]at hd;have ⟨h1,h2⟩:=hd;have G:=Ajn hl hc hn hb h1;simp only[fT]at h1 h2;have ⟨x,gx,ow,i1,s1⟩:=Au7 G h1.2.1 h2.1 h2.2.1 h2.2.2;simp only[i1,s1,obs];have hlb:=gx.lb;have ⟨⟨_,o1⟩,_,o2⟩:=ow;dsimp only at o1 o2;exact ⟨_,rfl,rfl,(show x.2.2.length<=1000 by omega),fun y hy=>by have:=(gx.mb y hy).1;omega⟩
end
end
section
open Go.RowKit Go.Deep
set_option maxRecDepth 100000 in
set_option maxHeartbeats 60000000 in
theorem actualOf_walk(p:Int)(l:List (ByteArray×(List ZB)×(Int×Int×ZA)))(A_l:Option Addr)(c_l:Nat)(l_l:List Addr)(tNodes:List ZB)(A_tNodes:Option Addr)(c_tNodes:Nat)(l_tNodes:List Addr)(w:World)(i_p: -9223372036854775808<=p/\p<=9223372036854775807)(s_l:Sl (fun _=>True) w (.pair .str (.pair (.slice (.pair .int (.pair .int .str))) (.pair .int (.pair .int (.slice (.slice .int)))))) A_l c_l l l_l)(i_l:Ty.In (.slice (.pair .str (.pair (.slice (.pair .int (.pair .int .str))) (.pair .int (.pair .int (.slice (.slice .int))))))) l)(s_tNodes:Sl (fun _=>True) w (.pair .int (.pair .int .str)) A_tNodes c_tNodes tNodes l_tNodes)(i_tNodes:Ty.In (.slice (.pair .int (.pair .int .str))) tNodes)(tab:Tab w):
  Calls Tryz.prog 4 #[.int .i64 p,.slice A_l l.length c_l,.agg #[.slice A_tNodes tNodes.length c_tNodes]] w fun e w'=>e=.returned (.bool true)/\Below w.heap.size w w':=by
 obtain ⟨y0,hy0,e0|⟨p0,q0,hn_l,hok_l⟩⟩:=Av0 l (v:=1048576) oM (Qi s_l).2<|Awr s_l i_l
 ·skip
  go_enter Tryz.func4,Tryz.ntmps4
  go_wp2_with fail
  (refine (M9 l A_l c_l l_l hy0 _ (Be s_l bw)<|tab.below bw).mono ?_;rintro e w1 ⟨rfl,hb_w1⟩;have ⟨hc_w1,hf_w1⟩:=Hg hb_w1;have hz_w1:=hb_w1.size;(try simp at hz_w1);have hl_w1_0:w.heap.size<w1.heap.size:=oM);go_wp2_with fail
  go_ret
  exact ⟨rfl,bw⟩
 obtain ⟨y1,hy1,e1|⟨p1,q1,hn_t⟩⟩:=As2 tNodes (v:=y0) oM (Qi s_tNodes).2 fun n hn=>Nat.le_trans (i_tNodes n hn).2.2 (by decide)
 ·skip
  go_enter Tryz.func4,Tryz.ntmps4
  go_wp2_with fail
  (refine (M9 l A_l c_l l_l hy0 _ (Be s_l bw)<|tab.below bw).mono ?_;rintro e w1 ⟨rfl,hb_w1⟩;have ⟨hc_w1,hf_w1⟩:=Hg hb_w1;have hz_w1:=hb_w1.size;(try simp at hz_w1);have hl_w1_0:w.heap.size<w1.heap.size:=oM);go_wp2_with fail
  (refine (Afp tNodes A_tNodes c_tNodes l_tNodes hy1 _ (Be s_tNodes bw)<|tab.below bw).mono ?_;rintro e w2 ⟨rfl,hb_w2⟩;have ⟨hc_w2,hf_w2⟩:=Hg hb_w2;have hz_w2:=hb_w2.size;(try simp at hz_w2);have hl_w2_0:w.heap.size<w2.heap.size:=oM);go_wp2_with fail
  go_ret
  exact ⟨rfl,bw⟩
 have ⟨V,hSp,hIm,hv1,hv2⟩:=Anc (p:=p) hn_l hok_l (fun x hx=>(i_l x hx).1) (fun x hx n hn=>((i_l x hx).2.1 n hn).2.2) (fun n hn=>(i_tNodes n hn).2.2) (show tNodes.length<=1073741824 by omega)
 go_enter Tryz.func4,Tryz.ntmps4
 go_wp2_with fail
 (refine (M9 l A_l c_l l_l hy0 _ (Be s_l bw)<|tab.below bw).mono ?_;rintro e w1 ⟨rfl,hb_w1⟩;have ⟨hc_w1,hf_w1⟩:=Hg hb_w1;have hz_w1:=hb_w1.size;(try simp at hz_w1);have hl_w1_0:w.heap.size<w1.heap.size:=oM);go_wp2_with fail
 (refine (Afp tNodes A_tNodes c_tNodes l_tNodes hy1 _ (Be s_tNodes bw)<|tab.below bw).mono ?_;rintro e w2 ⟨rfl,hb_w2⟩;have ⟨hc_w2,hf_w2⟩:=Hg hb_w2;have hz_w2:=hb_w2.size;(try simp at hz_w2);have hl_w2_0:w.heap.size<w2.heap.size:=oM);go_wp2_with fail
 go_cut [8,9] fun s8 s9 wx=>∃(gb5:Nat) (B5_0_2:Option Addr) (d5_0_2:Nat) (m5_0_2:List Addr),s8=.pointer (some ⟨gb5,0,none⟩)/\s9=.bool V.1/\Below w2.heap.size w2 wx/\w2.heap.size<=gb5/\gb5<wx.heap.size/\wx.cell? ⟨gb5,0,none⟩=some (.int .i64 V.2.1)/\wx.cell? ⟨gb5,1,none⟩=some (.int .i64 V.2.2.1)/\wx.cell? ⟨gb5,2,none⟩=some (.slice B5_0_2 V.2.2.2.length d5_0_2)/\Sl (L4 w2.heap.size) wx (.slice .int) B5_0_2 d5_0_2 V.2.2.2 m5_0_2
 case first=>
  have kf_w2:Below w.heap.size w w2:=bw;have kb0_w2:Below (w.alloc<|.cells #[.slice A_tNodes tNodes.length c_tNodes] 25).heap.size (w.alloc<|.cells #[.slice A_tNodes tNodes.length c_tNodes] 25) w2:=bw;have kc0_w2_0:=A7 kb0_w2 (p:=⟨w.heap.size,0,none⟩) (u:=.slice A_tNodes tNodes.length c_tNodes) fS
  go_region_held3 (fun w'=>Below w.heap.size w w'/\w'.cell? ⟨w.heap.size,0,none⟩=some (.slice A_tNodes tNodes.length c_tNodes))
   (first|((with_reducible show Below _ _ w3/\_);go_split_ands;exact ⟨Below.trans aS<|hb_w3.mono ol,(hb_w3.cell<|show w.heap.size<_ from ol).trans aS⟩)|((with_reducible show Below _ _ w4/\_);go_split_ands;exact ⟨Below.trans aS<|hb_w4.mono ol,(hb_w4.cell<|show w.heap.size<_ from ol).trans aS⟩)|((with_reducible show Below _ _ w5/\_);go_split_ands;exact ⟨Below.trans aS<|hb_w5.mono ol,(hb_w5.cell<|show w.heap.size<_ from ol).trans aS⟩)|(go_split_ands;exact ⟨Below.setCell (Below.setCell (Below.setCell aS ol _) ol _) ol _,Vz (Vz (Vz aS (show w.heap.size≠_ by exact ol)) (show w.heap.size≠_ by exact ol)) (show w.heap.size≠_ by exact ol)⟩)|(go_split_ands;exact ⟨Acz aS ol,Ux aS<|show w.heap.size<_ from ol⟩)|exact ⟨kf_w2.drew,kc0_w2_0⟩|exact ⟨Sg kf_w2 ol,Vd kc0_w2_0⟩|(go_split_ands;refine ⟨?_,?_⟩;(focus (repeat (first|assumption|((with_reducible refine Below.setCell ?_ ?_ _);rotate_left;exact fO)|((with_reducible refine Below.alloc ?_ ?_ _);rotate_left;exact fO))));all_goals go_keep))
   (first
    | (go_at_call 9;(with_reducible show Calls _ _ #[.slice A_l l.length c_l] _ _);(try go_split_ands);refine (Jp l A_l c_l l_l _ (by exact Be s_l aS) hn_l hok_l<|tab.below aS).mono ?_;rintro e w3 ⟨g3,d3,m3,rfl,t3,f3,hb_w3⟩;have hz_w3:=hb_w3.size;(try simp at hz_w3);have ⟨hc_w3,hf_w3⟩:=Hg hb_w3;(try have hq_w3_0:w2.heap.size<w3.heap.size:=oM);have hl_w3_h0:w.heap.size<w3.heap.size:=oM)
    | (go_at_call 10;(with_reducible show Calls _ _ #[.agg #[.slice A_tNodes tNodes.length c_tNodes]] _ _);(try go_split_ands);refine (Sz tNodes A_tNodes c_tNodes l_tNodes _ (by exact Be s_tNodes aS) hn_t<|tab.below aS).mono ?_;rintro e w4 ⟨B4_0,d4_0,m4_0,rfl,t4_0,f4,hb_w4⟩;have hz_w4:=hb_w4.size;(try simp at hz_w4);have ⟨hc_w4,hf_w4⟩:=Hg hb_w4;(try have hq_w4_0:w2.heap.size<w4.heap.size:=oM);(try have hq_w4_1:w3.heap.size<w4.heap.size:=oM);have hl_w4_h0:w.heap.size<w4.heap.size:=oM)
    | (go_at_call 19;(with_reducible show Calls _ _ #[.int .i64 p,.slice (some ⟨g3,0,none⟩) l.length d3,.agg #[.slice B4_0 tNodes.length d4_0]] _ _);(try go_split_ands);refine (Aag p l (some ⟨g3,0,none⟩) d3 m3 tNodes B4_0 d4_0 m4_0 _ (Be t3 bw) (Be t4_0 bw) hSp<|tab.below aS).mono ?_;rintro e w5 ⟨B5_0_2,d5_0_2,m5_0_2,rfl,t5_0_2,hb_w5⟩;have hz_w5:=hb_w5.size;(try simp at hz_w5);have ⟨hc_w5,hf_w5⟩:=Hg hb_w5;(try have hq_w5_0:w2.heap.size<w5.heap.size:=oM);(try have hq_w5_1:w3.heap.size<w5.heap.size:=oM);(try have hq_w5_2:w4.heap.size<w5.heap.size:=oM);have hl_w5_h0:w.heap.size<w5.heap.size:=oM))
  all_goals (go_wp2_with fail;go_meet;(first|exact Afs bw t5_0_2 om|exact Ali bw t5_0_2 om om om om (by first|exact ((hc_w5 _ _ om).trans<|C6 rfl)|exact ((hc_w5 _ _ om).trans<|(hc_w4 _ _ om).trans<|C6 rfl)|exact ((hc_w5 _ _ om).trans<|(hc_w4 _ _ om).trans<|(hc_w3 _ _ om).trans<|C6 rfl)) (by first|exact ((hc_w5 _ _ om).trans<|C6 rfl)|exact ((hc_w5 _ _ om).trans<|(hc_w4 _ _ om).trans<|C6 rfl)|exact ((hc_w5 _ _ om).trans<|(hc_w4 _ _ om).trans<|(hc_w3 _ _ om).trans<|C6 rfl)) (by first|exact ((hc_w5 _ _ om).trans<|C6 rfl)|exact ((hc_w5 _ _ om).trans<|(hc_w4 _ _ om).trans<|C6 rfl)|exact ((hc_w5 _ _ om).trans<|(hc_w4 _ _ om).trans<|(hc_w3 _ _ om).trans<|C6 rfl))))
 case rest=>
  obtain ⟨gb5,B5_0_2,d5_0_2,m5_0_2,rfl,rfl,hb_w5,hg_w5,hG_w5,mb5_0,mb5_1,mb5_2,t5_0_2⟩:=hcut;obtain ⟨w5,hw_w5⟩:∃ v,v=wc:=⟨_,rfl⟩
  subst hw_w5;have ⟨hc_w5,hf_w5⟩:=Hg hb_w5;have hz_w5:=hb_w5.size;have hl_w5_0:w.heap.size<w5.heap.size:=oM;have hl_w5_1:gb5<w5.heap.size:=oM
  go_wp2_with fail
  (refine (Jp l A_l c_l l_l _ (Be s_l bw) hn_l hok_l<|tab.below bw).mono ?_;rintro e w6 ⟨g6,d6,m6,rfl,t6,f6,hb_w6⟩;have ⟨hc_w6,hf_w6⟩:=Hg hb_w6;have hz_w6:=hb_w6.size;(try simp at hz_w6);have hl_w6_0:w.heap.size<w6.heap.size:=oM;have hl_w6_1:gb5<w6.heap.size:=oM);go_wp2_with fail
  (refine (Sz tNodes A_tNodes c_tNodes l_tNodes _ (Be s_tNodes bw) hn_t<|tab.below bw).mono ?_;rintro e w7 ⟨B7_0,d7_0,m7_0,rfl,t7_0,f7,hb_w7⟩;have ⟨hc_w7,hf_w7⟩:=Hg hb_w7;have hz_w7:=hb_w7.size;(try simp at hz_w7);have hl_w7_0:w.heap.size<w7.heap.size:=oM;have hl_w7_1:gb5<w7.heap.size:=oM);go_wp2_with fail
  (refine (Rv p l (some ⟨g6,0,none⟩) d6 m6 tNodes B7_0 d7_0 m7_0 _ (Be t6 bw) (Be t7_0 bw) hIm<|tab.below bw).mono ?_;rintro e w8 ⟨B8_0_2,d8_0_2,m8_0_2,rfl,t8_0_2,f8,hb_w8⟩;have ⟨hc_w8,hf_w8⟩:=Hg hb_w8;have hz_w8:=hb_w8.size;(try simp at hz_w8);have hl_w8_0:w.heap.size<w8.heap.size:=oM;have hl_w8_1:gb5<w8.heap.size:=oM;have hl_w8_2:w7.heap.size<w8.heap.size:=oM);go_wp2_with fail
  (refine (O2 V.2.1 V.2.2.1 V.2.2.2 B8_0_2 d8_0_2 m8_0_2 B5_0_2 d5_0_2 m5_0_2 _ (Be t8_0_2 bw) (Be t5_0_2 bw) hv1 hv2<|tab.below bw).mono ?_;rintro e w9 ⟨rfl,hb_w9⟩;have ⟨hc_w9,hf_w9⟩:=Hg hb_w9;have hz_w9:=hb_w9.size;(try simp at hz_w9);have hl_w9_0:w.heap.size<w9.heap.size:=oM;have hl_w9_1:gb5<w9.heap.size:=oM;have hl_w9_2:w7.heap.size<w9.heap.size:=oM;have hl_w9_3:w8.heap.size<w9.heap.size:=oM);go_wp2_with fail
  (refine (Jp l A_l c_l l_l _ (Be s_l bw) hn_l hok_l<|tab.below bw).mono ?_;rintro e w10 ⟨g10,d10,m10,rfl,t10,f10,hb_w10⟩;have ⟨hc_w10,hf_w10⟩:=Hg hb_w10;have hz_w10:=hb_w10.size;(try simp at hz_w10);have hl_w10_0:w.heap.size<w10.heap.size:=oM;have hl_w10_1:gb5<w10.heap.size:=oM;have hl_w10_2:w7.heap.size<w10.heap.size:=oM;have hl_w10_3:w8.heap.size<w10.heap.size:=oM);go_wp2_with fail
  (refine (Yk l (some ⟨g6,0,none⟩) d6 m6 (some ⟨g10,0,none⟩) d10 m10 _ (Be t6 bw) (Be t10 bw) hn_l hok_l<|tab.below bw).mono ?_;rintro e w11 ⟨rfl,hb_w11⟩;have ⟨hc_w11,hf_w11⟩:=Hg hb_w11;have hz_w11:=hb_w11.size;(try simp at hz_w11);have hl_w11_0:w.heap.size<w11.heap.size:=oM;have hl_w11_1:gb5<w11.heap.size:=oM;have hl_w11_2:w7.heap.size<w11.heap.size:=oM;have hl_w11_3:w8.heap.size<w11.heap.size:=oM);go_wp2_with fail
  have bA12:Below w.heap.size w w11:=bw;have bX12:Below w7.heap.size w7 w11:=bw;have bT12:Tab w11:=(tab.below bw)
  have bB12_0:Below (w.alloc<|.cells #[.slice A_tNodes tNodes.length c_tNodes] 25).heap.size (w.alloc<|.cells #[.slice A_tNodes tNodes.length c_tNodes] 25) w11:=bw;have k12_0_0:=A7 bB12_0 (p:=⟨w.heap.size,0,none⟩) (u:=.slice A_tNodes tNodes.length c_tNodes) fS;have bB12_1:Below (w7.alloc<|.cells #[.slice B7_0 tNodes.length d7_0] 37).heap.size (w7.alloc<|.cells #[.slice B7_0 tNodes.length d7_0] 37) w11:=bw;have k12_1_0:=A7 bB12_1 (p:=⟨w7.heap.size,0,none⟩) (u:=.slice B7_0 tNodes.length d7_0) fS
  go_region_held3 (fun w'=>Below w11.heap.size w11 w'/\w'.cell? ⟨w.heap.size,0,none⟩=some (.slice A_tNodes tNodes.length c_tNodes)/\w'.cell? ⟨w7.heap.size,0,none⟩=some (.slice B7_0 tNodes.length d7_0))
   (first|(go_split_ands;exact ⟨Below.trans aS<|hb_w12.mono<|Below.size aS,A7 hb_w12 aS,A7 hb_w12 aS⟩)|(go_split_ands;exact ⟨Below.trans aS<|hb_w13.mono<|Below.size aS,A7 hb_w13 aS,A7 hb_w13 aS⟩)|exact ⟨(Below.refl _ _).drew,k12_0_0,k12_1_0⟩|go_keep)
   (first
    | (go_at_call 10;(try go_split_ands);refine (Sz tNodes A_tNodes c_tNodes l_tNodes _ (by exact Be s_tNodes (bA12.trans<|Below.mono aS bA12.size)) hn_t<|bT12.below aS).mono ?_;rintro e w12 ⟨B12_0,d12_0,m12_0,rfl,t12_0,_,hb_w12⟩)
    | (go_at_call 14;(try go_split_ands);refine (Akk tNodes B7_0 d7_0 m7_0 B12_0 d12_0 m12_0 _ (by exact Be t7_0 (bX12.trans<|Below.mono aS bX12.size)) t12_0 hn_t<|bT12.below aS).mono ?_;rintro e w13 ⟨rfl,hb_w13⟩))
  have hsz_w12:=Nat.le_trans bA12.size hb_w12.size;have hsy_w13:=Nat.le_trans hsz_w12 hb_w13.size;have ⟨hc_w12,hf_w12⟩:=Hg hb_w12;have hz_w12:w11.heap.size<=w12.heap.size:=hb_w12.size;have hl_w12_0:w.heap.size<w12.heap.size:=oM;have hl_w12_1:gb5<w12.heap.size:=oM;have hl_w12_2:w7.heap.size<w12.heap.size:=oM;have hl_w12_3:w8.heap.size<w12.heap.size:=oM;have ⟨hc_w13,hf_w13⟩:=Hg hb_w13;have hz_w13:w12.heap.size<=w13.heap.size:=hb_w13.size;have hl_w13_0:w.heap.size<w13.heap.size:=oM;have hl_w13_1:gb5<w13.heap.size:=oM;have hl_w13_2:w7.heap.size<w13.heap.size:=oM;have hl_w13_3:w8.heap.size<w13.heap.size:=oM
  go_wp2_with fail
  have F14:Fresh w13 _ _:=Fresh.below f6 bw;have hl14_t6:=Ax2 t6 hn_l hok_l;have cb14_1:=(show Below (w.alloc<|.cells #[.slice A_tNodes tNodes.length c_tNodes] 25).heap.size (w.alloc<|.cells #[.slice A_tNodes tNodes.length c_tNodes] 25) w13 from bw)
  have cb14_1_0:=A7 cb14_1 (p:=⟨w.heap.size,0,none⟩) (u:=.slice A_tNodes tNodes.length c_tNodes) fS;have cb14_4:=(show Below (w5).heap.size (w5) w13 from bw)
  have cb14_4_0:=A7 cb14_4 (p:=⟨gb5,0,none⟩) (u:=.int .i64 V.2.1) mb5_0;have cb14_4_1:=A7 cb14_4 (p:=⟨gb5,1,none⟩) (u:=.int .i64 V.2.2.1) mb5_1;have cb14_4_2:=A7 cb14_4 (p:=⟨gb5,2,none⟩) (u:=.slice B5_0_2 V.2.2.2.length d5_0_2) mb5_2;have cb14_6:=(show Below (w7.alloc<|.cells #[.slice B7_0 tNodes.length d7_0] 37).heap.size (w7.alloc<|.cells #[.slice B7_0 tNodes.length d7_0] 37) w13 from bw)
  have cb14_6_0:=A7 cb14_6 (p:=⟨w7.heap.size,0,none⟩) (u:=.slice B7_0 tNodes.length d7_0) fS;have cb14_7:=(show Below (w8.alloc<|.cells #[.int .i64 V.2.1,.int .i64 V.2.2.1,.slice B8_0_2 V.2.2.2.length d8_0_2] 30).heap.size (w8.alloc<|.cells #[.int .i64 V.2.1,.int .i64 V.2.2.1,.slice B8_0_2 V.2.2.2.length d8_0_2] 30) w13 from bw)
  have cb14_7_0:=A7 cb14_7 (p:=⟨w8.heap.size,0,none⟩) (u:=.int .i64 V.2.1) fS;have cb14_7_1:=A7 cb14_7 (p:=⟨w8.heap.size,1,none⟩) (u:=.int .i64 V.2.2.1) fS;have cb14_7_2:=A7 cb14_7 (p:=⟨w8.heap.size,2,none⟩) (u:=.slice B8_0_2 V.2.2.2.length d8_0_2) fS;refine (Xb l (some ⟨g6,0,none⟩) d6 m6 (1) _ _ (Be t6 bw) F14 oM tab bw om).mono ?_;rintro e w14 ⟨rfl,mk14⟩;have hb_w14:=mk14.belowAt (fun p hp=>(F14.2 p hp).1) om;have hz_w14:w13.heap.size<=w14.heap.size:=mk14.size;have hl_w14_0:w.heap.size<w14.heap.size:=oM;have hl_w14_1:gb5<w14.heap.size:=oM;have hl_w14_2:w7.heap.size<w14.heap.size:=oM;have hl_w14_3:w8.heap.size<w14.heap.size:=oM;have mb14_1_0:w14.cell? ⟨w.heap.size,0,none⟩=some (.slice A_tNodes tNodes.length c_tNodes):=(mk14.frame.cell _ (show w.heap.size<_ by omega) fun hp=>by have h1:_<=w.heap.size:=(f6.2 _ hp).1;have h2:w.heap.size<_:=(f6.2 _ hp).2.1;(try simp at h1);omega).trans cb14_1_0;have mb14_4_0:w14.cell? ⟨gb5,0,none⟩=some (.int .i64 V.2.1):=(mk14.frame.cell _ (show gb5<_ by omega) fun hp=>by have h1:_<=gb5:=(f6.2 _ hp).1;have h2:gb5<_:=(f6.2 _ hp).2.1;(try simp at h1);omega).trans cb14_4_0;have mb14_4_1:w14.cell? ⟨gb5,1,none⟩=some (.int .i64 V.2.2.1):=(mk14.frame.cell _ (show gb5<_ by omega) fun hp=>by have h1:_<=gb5:=(f6.2 _ hp).1;have h2:gb5<_:=(f6.2 _ hp).2.1;(try simp at h1);omega).trans cb14_4_1;have mb14_4_2:w14.cell? ⟨gb5,2,none⟩=some (.slice B5_0_2 V.2.2.2.length d5_0_2):=(mk14.frame.cell _ (show gb5<_ by omega) fun hp=>by have h1:_<=gb5:=(f6.2 _ hp).1;have h2:gb5<_:=(f6.2 _ hp).2.1;(try simp at h1);omega).trans cb14_4_2;have mb14_6_0:w14.cell? ⟨w7.heap.size,0,none⟩=some (.slice B7_0 tNodes.length d7_0):=(mk14.frame.cell _ (show w7.heap.size<_ by omega) fun hp=>by have h1:_<=w7.heap.size:=(f6.2 _ hp).1;have h2:w7.heap.size<_:=(f6.2 _ hp).2.1;(try simp at h1);omega).trans cb14_6_0;have mb14_7_0:w14.cell? ⟨w8.heap.size,0,none⟩=some (.int .i64 V.2.1):=(mk14.frame.cell _ (show w8.heap.size<_ by omega) fun hp=>by have h1:_<=w8.heap.size:=(f6.2 _ hp).1;have h2:w8.heap.size<_:=(f6.2 _ hp).2.1;(try simp at h1);omega).trans cb14_7_0;have mb14_7_1:w14.cell? ⟨w8.heap.size,1,none⟩=some (.int .i64 V.2.2.1):=(mk14.frame.cell _ (show w8.heap.size<_ by omega) fun hp=>by have h1:_<=w8.heap.size:=(f6.2 _ hp).1;have h2:w8.heap.size<_:=(f6.2 _ hp).2.1;(try simp at h1);omega).trans cb14_7_1;have mb14_7_2:w14.cell? ⟨w8.heap.size,2,none⟩=some (.slice B8_0_2 V.2.2.2.length d8_0_2):=(mk14.frame.cell _ (show w8.heap.size<_ by omega) fun hp=>by have h1:_<=w8.heap.size:=(f6.2 _ hp).1;have h2:w8.heap.size<_:=(f6.2 _ hp).2.1;(try simp at h1);omega).trans cb14_7_2;have t7_0m14:=Qk (Be t7_0 bw) (mk14.aboveAt fun p hp=>by have h2:=(f6.2 p hp).2.1;first|omega|(simp;omega)) fun _ h=>h;have f7m14:=Fresh.above (Fresh.below f7 bw) (mk14.aboveAt fun p hp=>by have h2:=(f6.2 p hp).2.1;first|omega|(simp;omega));have t8_0_2m14:=Qk (Be t8_0_2 bw) (mk14.aboveAt fun p hp=>by have h2:=(f6.2 p hp).2.1;first|omega|(simp;omega)) fun _ h=>h;have f8m14:=Fresh.above (Fresh.below f8 bw) (mk14.aboveAt fun p hp=>by have h2:=(f6.2 p hp).2.1;first|omega|(simp;omega));have t10m14:=Qk (Be t10 bw) (mk14.aboveAt fun p hp=>by have h2:=(f6.2 p hp).2.1;first|omega|(simp;omega)) fun _ h=>h;have f10m14:=Fresh.above (Fresh.below f10 bw)<|mk14.aboveAt fun p hp=>by have h2:=(f6.2 p hp).2.1;first|omega|(simp;omega)
  go_wp2_with fail
  have F15:Fresh w14 _ _:=Fresh.below f7m14 bw;have hl15_t7_0m14:=Awm t7_0m14 hn_t;have cb15_1:=(show Below (w14).heap.size (w14) w14 from bw)
  have cb15_1_0:=A7 cb15_1 (p:=⟨w.heap.size,0,none⟩) (u:=.slice A_tNodes tNodes.length c_tNodes) mb14_1_0;have cb15_4:=(show Below (w14).heap.size (w14) w14 from bw)
  have cb15_4_0:=A7 cb15_4 (p:=⟨gb5,0,none⟩) (u:=.int .i64 V.2.1) mb14_4_0;have cb15_4_1:=A7 cb15_4 (p:=⟨gb5,1,none⟩) (u:=.int .i64 V.2.2.1) mb14_4_1;have cb15_4_2:=A7 cb15_4 (p:=⟨gb5,2,none⟩) (u:=.slice B5_0_2 V.2.2.2.length d5_0_2) mb14_4_2;have cb15_6:=(show Below (w14).heap.size (w14) w14 from bw)
  have cb15_6_0:=A7 cb15_6 (p:=⟨w7.heap.size,0,none⟩) (u:=.slice B7_0 tNodes.length d7_0) mb14_6_0;have cb15_7:=(show Below (w14).heap.size (w14) w14 from bw)
  have cb15_7_0:=A7 cb15_7 (p:=⟨w8.heap.size,0,none⟩) (u:=.int .i64 V.2.1) mb14_7_0;have cb15_7_1:=A7 cb15_7 (p:=⟨w8.heap.size,1,none⟩) (u:=.int .i64 V.2.2.1) mb14_7_1;have cb15_7_2:=A7 cb15_7 (p:=⟨w8.heap.size,2,none⟩) (u:=.slice B8_0_2 V.2.2.2.length d8_0_2) mb14_7_2;refine (Ai9 tNodes B7_0 d7_0 m7_0 ((1)+((m6).length:Int)) _ _ (Be t7_0m14 bw) F15 oM tab bw om).mono ?_;rintro e w15 ⟨rfl,mk15⟩;have hb_w15:=mk15.belowAt (fun p hp=>(F15.2 p hp).1) om;have hz_w15:w14.heap.size<=w15.heap.size:=mk15.size;have hl_w15_0:w.heap.size<w15.heap.size:=oM;have hl_w15_1:gb5<w15.heap.size:=oM;have hl_w15_2:w7.heap.size<w15.heap.size:=oM;have hl_w15_3:w8.heap.size<w15.heap.size:=oM;have mb15_1_0:w15.cell? ⟨w.heap.size,0,none⟩=some (.slice A_tNodes tNodes.length c_tNodes):=(mk15.frame.cell _ (show w.heap.size<_ by omega) fun hp=>by have h1:_<=w.heap.size:=(f7.2 _ hp).1;have h2:w.heap.size<_:=(f7.2 _ hp).2.1;(try simp at h1);omega).trans cb15_1_0;have mb15_4_0:w15.cell? ⟨gb5,0,none⟩=some (.int .i64 V.2.1):=(mk15.frame.cell _ (show gb5<_ by omega) fun hp=>by have h1:_<=gb5:=(f7.2 _ hp).1;have h2:gb5<_:=(f7.2 _ hp).2.1;(try simp at h1);omega).trans cb15_4_0;have mb15_4_1:w15.cell? ⟨gb5,1,none⟩=some (.int .i64 V.2.2.1):=(mk15.frame.cell _ (show gb5<_ by omega) fun hp=>by have h1:_<=gb5:=(f7.2 _ hp).1;have h2:gb5<_:=(f7.2 _ hp).2.1;(try simp at h1);omega).trans cb15_4_1;have mb15_4_2:w15.cell? ⟨gb5,2,none⟩=some (.slice B5_0_2 V.2.2.2.length d5_0_2):=(mk15.frame.cell _ (show gb5<_ by omega) fun hp=>by have h1:_<=gb5:=(f7.2 _ hp).1;have h2:gb5<_:=(f7.2 _ hp).2.1;(try simp at h1);omega).trans cb15_4_2;have mb15_6_0:w15.cell? ⟨w7.heap.size,0,none⟩=some (.slice B7_0 tNodes.length d7_0):=(mk15.frame.cell _ (show w7.heap.size<_ by omega) fun hp=>by have h1:_<=w7.heap.size:=(f7.2 _ hp).1;have h2:w7.heap.size<_:=(f7.2 _ hp).2.1;(try simp at h1);omega).trans cb15_6_0;have mb15_7_0:w15.cell? ⟨w8.heap.size,0,none⟩=some (.int .i64 V.2.1):=(mk15.frame.cell _ (show w8.heap.size<_ by omega) fun hp=>by have h1:_<=w8.heap.size:=(f7.2 _ hp).1;have h2:w8.heap.size<_:=(f7.2 _ hp).2.1;(try simp at h1);omega).trans cb15_7_0;have mb15_7_1:w15.cell? ⟨w8.heap.size,1,none⟩=some (.int .i64 V.2.2.1):=(mk15.frame.cell _ (show w8.heap.size<_ by omega) fun hp=>by have h1:_<=w8.heap.size:=(f7.2 _ hp).1;have h2:w8.heap.size<_:=(f7.2 _ hp).2.1;(try simp at h1);omega).trans cb15_7_1;have mb15_7_2:w15.cell? ⟨w8.heap.size,2,none⟩=some (.slice B8_0_2 V.2.2.2.length d8_0_2):=(mk15.frame.cell _ (show w8.heap.size<_ by omega) fun hp=>by have h1:_<=w8.heap.size:=(f7.2 _ hp).1;have h2:w8.heap.size<_:=(f7.2 _ hp).2.1;(try simp at h1);omega).trans cb15_7_2;have t8_0_2m14m15:=Qk (Be t8_0_2m14 bw) (mk15.aboveAt fun p hp=>by have h2:=(f7.2 p hp).2.1;first|omega|(simp;omega)) fun _ h=>h;have f8m14m15:=Fresh.above (Fresh.below f8m14 bw) (mk15.aboveAt fun p hp=>by have h2:=(f7.2 p hp).2.1;first|omega|(simp;omega));have t10m14m15:=Qk (Be t10m14 bw) (mk15.aboveAt fun p hp=>by have h2:=(f7.2 p hp).2.1;first|omega|(simp;omega)) fun _ h=>h;have f10m14m15:=Fresh.above (Fresh.below f10m14 bw)<|mk15.aboveAt fun p hp=>by have h2:=(f7.2 p hp).2.1;first|omega|(simp;omega)
  go_wp2_with fail
  (refine (O2 V.2.1 V.2.2.1 V.2.2.2 B8_0_2 d8_0_2 m8_0_2 B5_0_2 d5_0_2 m5_0_2 _ (Be t8_0_2m14m15 bw) (Be t5_0_2 bw) hv1 hv2<|tab.below bw).mono ?_;rintro e w16 ⟨rfl,hb_w16⟩;have ⟨hc_w16,hf_w16⟩:=Hg hb_w16;have hz_w16:=hb_w16.size;(try simp at hz_w16);have hl_w16_0:w.heap.size<w16.heap.size:=oM;have hl_w16_1:gb5<w16.heap.size:=oM;have hl_w16_2:w7.heap.size<w16.heap.size:=oM;have hl_w16_3:w8.heap.size<w16.heap.size:=oM);go_wp2_with fail
  have F17:Fresh w16 _ _:=Fresh.below f8m14m15 bw;have hl17_t8_0_2m14m15:=Avc t8_0_2m14m15 hv1 hv2;have cb17_1:=(show Below (w15).heap.size (w15) w16 from bw)
  have cb17_1_0:=A7 cb17_1 (p:=⟨w.heap.size,0,none⟩) (u:=.slice A_tNodes tNodes.length c_tNodes) mb15_1_0;have cb17_4:=(show Below (w15).heap.size (w15) w16 from bw)
  have cb17_4_0:=A7 cb17_4 (p:=⟨gb5,0,none⟩) (u:=.int .i64 V.2.1) mb15_4_0;have cb17_4_1:=A7 cb17_4 (p:=⟨gb5,1,none⟩) (u:=.int .i64 V.2.2.1) mb15_4_1;have cb17_4_2:=A7 cb17_4 (p:=⟨gb5,2,none⟩) (u:=.slice B5_0_2 V.2.2.2.length d5_0_2) mb15_4_2;have cb17_7:=(show Below (w15).heap.size (w15) w16 from bw)
  have cb17_7_0:=A7 cb17_7 (p:=⟨w8.heap.size,0,none⟩) (u:=.int .i64 V.2.1) mb15_7_0;have cb17_7_1:=A7 cb17_7 (p:=⟨w8.heap.size,1,none⟩) (u:=.int .i64 V.2.2.1) mb15_7_1;have cb17_7_2:=A7 cb17_7 (p:=⟨w8.heap.size,2,none⟩) (u:=.slice B8_0_2 V.2.2.2.length d8_0_2) mb15_7_2;refine (Zy V.2.1 V.2.2.1 V.2.2.2 B8_0_2 d8_0_2 m8_0_2 (1) _ _ (Be t8_0_2m14m15 bw) F17 oM).mono ?_;rintro e w17 ⟨rfl,mk17⟩;have hb_w17:=mk17.belowAt (fun p hp=>(F17.2 p hp).1) om;have hz_w17:w16.heap.size<=w17.heap.size:=mk17.size;have hl_w17_0:w.heap.size<w17.heap.size:=oM;have hl_w17_1:gb5<w17.heap.size:=oM;have hl_w17_2:w7.heap.size<w17.heap.size:=oM;have hl_w17_3:w8.heap.size<w17.heap.size:=oM;have mb17_1_0:w17.cell? ⟨w.heap.size,0,none⟩=some (.slice A_tNodes tNodes.length c_tNodes):=(mk17.frame.cell _ (show w.heap.size<_ by omega) fun hp=>by have h1:_<=w.heap.size:=(f8.2 _ hp).1;have h2:w.heap.size<_:=(f8.2 _ hp).2.1;(try simp at h1);omega).trans cb17_1_0;have mb17_4_0:w17.cell? ⟨gb5,0,none⟩=some (.int .i64 V.2.1):=(mk17.frame.cell _ (show gb5<_ by omega) fun hp=>by have h1:_<=gb5:=(f8.2 _ hp).1;have h2:gb5<_:=(f8.2 _ hp).2.1;(try simp at h1);omega).trans cb17_4_0;have mb17_4_1:w17.cell? ⟨gb5,1,none⟩=some (.int .i64 V.2.2.1):=(mk17.frame.cell _ (show gb5<_ by omega) fun hp=>by have h1:_<=gb5:=(f8.2 _ hp).1;have h2:gb5<_:=(f8.2 _ hp).2.1;(try simp at h1);omega).trans cb17_4_1;have mb17_4_2:w17.cell? ⟨gb5,2,none⟩=some (.slice B5_0_2 V.2.2.2.length d5_0_2):=(mk17.frame.cell _ (show gb5<_ by omega) fun hp=>by have h1:_<=gb5:=(f8.2 _ hp).1;have h2:gb5<_:=(f8.2 _ hp).2.1;(try simp at h1);omega).trans cb17_4_2;have mb17_7_0:w17.cell? ⟨w8.heap.size,0,none⟩=some (.int .i64 V.2.1):=(mk17.frame.cell _ (show w8.heap.size<_ by omega) fun hp=>by have h1:_<=w8.heap.size:=(f8.2 _ hp).1;have h2:w8.heap.size<_:=(f8.2 _ hp).2.1;(try simp at h1);omega).trans cb17_7_0;have mb17_7_1:w17.cell? ⟨w8.heap.size,1,none⟩=some (.int .i64 V.2.2.1):=(mk17.frame.cell _ (show w8.heap.size<_ by omega) fun hp=>by have h1:_<=w8.heap.size:=(f8.2 _ hp).1;have h2:w8.heap.size<_:=(f8.2 _ hp).2.1;(try simp at h1);omega).trans cb17_7_1;have mb17_7_2:w17.cell? ⟨w8.heap.size,2,none⟩=some (.slice B8_0_2 V.2.2.2.length d8_0_2):=(mk17.frame.cell _ (show w8.heap.size<_ by omega) fun hp=>by have h1:_<=w8.heap.size:=(f8.2 _ hp).1;have h2:w8.heap.size<_:=(f8.2 _ hp).2.1;(try simp at h1);omega).trans cb17_7_2;have t10m14m15m17:=Qk (Be t10m14m15 bw) (mk17.aboveAt fun p hp=>by have h2:=(f8.2 p hp).2.1;first|omega|(simp;omega)) fun _ h=>h;have f10m14m15m17:=Fresh.above (Fresh.below f10m14m15 bw) (mk17.aboveAt fun p hp=>by have h2:=(f8.2 p hp).2.1;first|omega|(simp;omega));have ⟨ys17_2,hy17_2,sy17_2⟩:=mk17.sl<|Be t8_0_2m14m15 bw;have hh17:=mk17.held
  go_wp2_with fail
  (refine (Aer (by rw[hy17_2])<|Rz V.2.1 V.2.2.1 ys17_2 B8_0_2 d8_0_2 m8_0_2 (1) _ (Be sy17_2 bw) (HeldAs.below hh17 bw) oM).mono ?_;rintro e w18 ⟨rfl,hb_w18⟩;have ⟨hc_w18,hf_w18⟩:=Hg hb_w18;have hz_w18:=hb_w18.size;(try simp at hz_w18);have hl_w18_0:w.heap.size<w18.heap.size:=oM;have hl_w18_1:gb5<w18.heap.size:=oM;have hl_w18_2:w7.heap.size<w18.heap.size:=oM;have hl_w18_3:w8.heap.size<w18.heap.size:=oM);go_wp2_with fail
  go_cut [17,18] fun s17 s18 wx=>∃(gb21:Nat) (B21_0_2:Option Addr) (d21_0_2:Nat) (m21_0_2:List Addr),s17=.pointer (some ⟨gb21,0,none⟩)/\s18=.bool V.1/\Below w18.heap.size w18 wx/\w18.heap.size<=gb21/\gb21<wx.heap.size/\wx.cell? ⟨gb21,0,none⟩=some (.int .i64 V.2.1)/\wx.cell? ⟨gb21,1,none⟩=some (.int .i64 V.2.2.1)/\wx.cell? ⟨gb21,2,none⟩=some (.slice B21_0_2 V.2.2.2.length d21_0_2)/\Sl (L4 w18.heap.size) wx (.slice .int) B21_0_2 d21_0_2 V.2.2.2 m21_0_2
  case first=>
   have kf_w18:Below w.heap.size w w18:=bw;have kb0_w18:Below (w17).heap.size (w17) w18:=bw;have kc0_w18_0:=A7 kb0_w18 (p:=⟨w.heap.size,0,none⟩) (u:=.slice A_tNodes tNodes.length c_tNodes) mb17_1_0
   go_region_held3 (fun w'=>Below w.heap.size w w'/\w'.cell? ⟨w.heap.size,0,none⟩=some (.slice A_tNodes tNodes.length c_tNodes))
    (first|((with_reducible show Below _ _ w19/\_);go_split_ands;exact ⟨Below.trans aS<|hb_w19.mono ol,(hb_w19.cell<|show w.heap.size<_ from ol).trans aS⟩)|((with_reducible show Below _ _ w20/\_);go_split_ands;exact ⟨Below.trans aS<|hb_w20.mono ol,(hb_w20.cell<|show w.heap.size<_ from ol).trans aS⟩)|((with_reducible show Below _ _ w21/\_);go_split_ands;exact ⟨Below.trans aS<|hb_w21.mono ol,(hb_w21.cell<|show w.heap.size<_ from ol).trans aS⟩)|(go_split_ands;exact ⟨Below.setCell (Below.setCell (Below.setCell aS ol _) ol _) ol _,Vz (Vz (Vz aS (show w.heap.size≠_ by exact ol)) (show w.heap.size≠_ by exact ol)) (show w.heap.size≠_ by exact ol)⟩)|(go_split_ands;exact ⟨Acz aS ol,Ux aS<|show w.heap.size<_ from ol⟩)|exact ⟨kf_w18.drew,kc0_w18_0⟩|exact ⟨Sg kf_w18 ol,Vd kc0_w18_0⟩|(go_split_ands;refine ⟨?_,?_⟩;(focus (repeat (first|assumption|((with_reducible refine Below.setCell ?_ ?_ _);rotate_left;exact fO)|((with_reducible refine Below.alloc ?_ ?_ _);rotate_left;exact fO))));all_goals go_keep))
    (first
     | (go_at_call 9;(with_reducible show Calls _ _ #[.slice A_l l.length c_l] _ _);(try go_split_ands);refine (Jp l A_l c_l l_l _ (by exact Be s_l aS) hn_l hok_l<|tab.below aS).mono ?_;rintro e w19 ⟨g19,d19,m19,rfl,t19,f19,hb_w19⟩;have hz_w19:=hb_w19.size;(try simp at hz_w19);have ⟨hc_w19,hf_w19⟩:=Hg hb_w19;(try have hq_w19_0:w18.heap.size<w19.heap.size:=oM);have hl_w19_h0:w.heap.size<w19.heap.size:=oM)
     | (go_at_call 10;(with_reducible show Calls _ _ #[.agg #[.slice A_tNodes tNodes.length c_tNodes]] _ _);(try go_split_ands);refine (Sz tNodes A_tNodes c_tNodes l_tNodes _ (by exact Be s_tNodes aS) hn_t<|tab.below aS).mono ?_;rintro e w20 ⟨B20_0,d20_0,m20_0,rfl,t20_0,f20,hb_w20⟩;have hz_w20:=hb_w20.size;(try simp at hz_w20);have ⟨hc_w20,hf_w20⟩:=Hg hb_w20;(try have hq_w20_0:w18.heap.size<w20.heap.size:=oM);(try have hq_w20_1:w19.heap.size<w20.heap.size:=oM);have hl_w20_h0:w.heap.size<w20.heap.size:=oM)
     | (go_at_call 20;(with_reducible show Calls _ _ #[.int .i64 p,.slice (some ⟨g19,0,none⟩) l.length d19,.agg #[.slice B20_0 tNodes.length d20_0]] _ _);(try go_split_ands);refine (Rv p l (some ⟨g19,0,none⟩) d19 m19 tNodes B20_0 d20_0 m20_0 _ (Be t19 bw) (Be t20_0 bw) hIm<|tab.below aS).mono ?_;rintro e w21 ⟨B21_0_2,d21_0_2,m21_0_2,rfl,t21_0_2,f21,hb_w21⟩;have hz_w21:=hb_w21.size;(try simp at hz_w21);have ⟨hc_w21,hf_w21⟩:=Hg hb_w21;(try have hq_w21_0:w18.heap.size<w21.heap.size:=oM);(try have hq_w21_1:w19.heap.size<w21.heap.size:=oM);(try have hq_w21_2:w20.heap.size<w21.heap.size:=oM);have hl_w21_h0:w.heap.size<w21.heap.size:=oM))
   all_goals (go_wp2_with fail;go_meet;(first|exact Afs bw t21_0_2 om|exact Ali bw t21_0_2 om om om om (by first|exact ((hc_w21 _ _ om).trans<|C6 rfl)|exact ((hc_w21 _ _ om).trans<|(hc_w20 _ _ om).trans<|C6 rfl)|exact ((hc_w21 _ _ om).trans<|(hc_w20 _ _ om).trans<|(hc_w19 _ _ om).trans<|C6 rfl)) (by first|exact ((hc_w21 _ _ om).trans<|C6 rfl)|exact ((hc_w21 _ _ om).trans<|(hc_w20 _ _ om).trans<|C6 rfl)|exact ((hc_w21 _ _ om).trans<|(hc_w20 _ _ om).trans<|(hc_w19 _ _ om).trans<|C6 rfl)) (by first|exact ((hc_w21 _ _ om).trans<|C6 rfl)|exact ((hc_w21 _ _ om).trans<|(hc_w20 _ _ om).trans<|C6 rfl)|exact ((hc_w21 _ _ om).trans<|(hc_w20 _ _ om).trans<|(hc_w19 _ _ om).trans<|C6 rfl))))
  case rest=>
   obtain ⟨gb21,B21_0_2,d21_0_2,m21_0_2,rfl,rfl,hb_w21,hg_w21,hG_w21,mb21_0,mb21_1,mb21_2,t21_0_2⟩:=hcut;obtain ⟨w21,hw_w21⟩:∃ v,v=wc:=⟨_,rfl⟩
   subst hw_w21;have ⟨hc_w21,hf_w21⟩:=Hg hb_w21;have hz_w21:=hb_w21.size;have hl_w21_0:w.heap.size<w21.heap.size:=oM;have hl_w21_1:gb5<w21.heap.size:=oM;have hl_w21_2:w7.heap.size<w21.heap.size:=oM;have hl_w21_3:w8.heap.size<w21.heap.size:=oM;have hl_w21_4:gb21<w21.heap.size:=oM
   go_wp2_with fail
   (refine (O2 V.2.1 V.2.2.1 V.2.2.2 B21_0_2 d21_0_2 m21_0_2 B5_0_2 d5_0_2 m5_0_2 _ (Be t21_0_2 bw) (Be t5_0_2 bw) hv1 hv2<|tab.below bw).mono ?_;rintro e w22 ⟨rfl,hb_w22⟩;have ⟨hc_w22,hf_w22⟩:=Hg hb_w22;have hz_w22:=hb_w22.size;(try simp at hz_w22);have hl_w22_0:w.heap.size<w22.heap.size:=oM;have hl_w22_1:gb5<w22.heap.size:=oM;have hl_w22_2:w7.heap.size<w22.heap.size:=oM;have hl_w22_3:w8.heap.size<w22.heap.size:=oM;have hl_w22_4:gb21<w22.heap.size:=oM);go_wp2_with fail
   (refine (Aer (by rw[hy17_2])<|Rz V.2.1 V.2.2.1 ys17_2 B8_0_2 d8_0_2 m8_0_2 (1) _ (Be sy17_2 bw) (HeldAs.below hh17 bw) oM).mono ?_;rintro e w23 ⟨rfl,hb_w23⟩;have ⟨hc_w23,hf_w23⟩:=Hg hb_w23;have hz_w23:=hb_w23.size;(try simp at hz_w23);have hl_w23_0:w.heap.size<w23.heap.size:=oM;have hl_w23_1:gb5<w23.heap.size:=oM;have hl_w23_2:w7.heap.size<w23.heap.size:=oM;have hl_w23_3:w8.heap.size<w23.heap.size:=oM;have hl_w23_4:gb21<w23.heap.size:=oM);go_wp2_with fail
   go_ret
   exact ⟨rfl,bw⟩
end
end Go.Proofs.YthlpchhhinipaaaGreatDoor
