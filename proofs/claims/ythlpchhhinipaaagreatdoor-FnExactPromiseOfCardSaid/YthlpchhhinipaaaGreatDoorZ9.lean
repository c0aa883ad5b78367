/- Lemmas on the program and on partial functions that stand in place of its code (part 9); no condition beyond those that each one states. -/
import Derived.Test.YthlpchhhinipaaaGreatDoorZ8
import Derived.Deep.RegionHeld3
import Derived.Deep.DeepCutAuto
namespace Go.Proofs.YthlpchhhinipaaaGreatDoor
open Go.RowKit Go.Deep List
section
theorem Azk (a b:ByteArray):(a.toList==b.toList)=decide (a=b):=by
 by_cases e:a=b
 ·subst e;rw [decide_eq_true rfl];exact beq_self_eq_true _
 ·rw [decide_eq_false e,Auh,fU];intro h;have:=Array.toList_inj.1 h;cases a;cases b;exact e<|congrArg ByteArray.mk this
theorem Aql {V:Type} {es:List (Int×V)} {k:Int} {v:V}:(Nz es k v).length<=es.length+1:=by
 unfold Nz Ru;rw [List.length_cons];have:=List.length_filter_le (fun e:Int×V=> !(e.1==k)) es;omega
def tyM (L:List Df):List (Int×(Int×Int)):=L.foldl (fun m d=>Nz m (Gs d.1) (d.2.1,d.2.2.1)) []
def fdD (L:List Df) (s:ByteArray):Option (Int×Int):=(L.find? fun d=>d.1.toList==s.toList).map fun d=>(d.2.1,d.2.2.1)
def ndD (L:List Df):Prop:=∀ k x,L[k]? =some x->((L.take k).any fun d=>d.1.toList==x.1.toList)=false
theorem Axd (L:List Df) (d:Df):tyM (L++[d])=Nz (tyM L) (Gs d.1) (d.2.1,d.2.2.1):=by unfold tyM;rw [List.foldl_append];rfl
theorem Ad2 {L:List Df} {k:Nat} {d:Df} (h:L[k]? =some d):tyM (L.take (k+1))=Nz (tyM (L.take k)) (Gs d.1) (d.2.1,d.2.2.1):=by
 rw [List.take_add_one,h];exact Axd _ _
theorem Apa (L:List Df):∀ k,k<=L.length->(tyM (L.take k)).length<=k
 | 0,_=>by simp [tyM]
 | k+1,hk=>by
  rw [Ad2 (gEg (show k<L.length by omega))];exact Nat.le_trans Aql (by have:=Apa L k oM;omega)
theorem Ar4 {L:List Df} {s:ByteArray} (h:(L.any fun d=>d.1.toList==s.toList)=false):fdD L s=none:=by
 unfold fdD;rw [List.find?_eq_none.2 fun d hd=>by have:=List.any_eq_false.1 h d hd;exact this];rfl
theorem Apo {L:List Df} (hn:ndD L) (s:ByteArray):∀ k,k<=L.length->D9 (tyM (L.take k)) (Gs s)=fdD (L.take k) s
 | 0,_=>rfl
 | k+1,hk=>by
  have hx:=gEg (show k<L.length by omega);have ih:=Apo hn s k oM;have hd:=hn k _ hx;rw [Ad2 hx,List.take_add_one,hx];generalize L[k]=d at *;by_cases e:s=d.1
  ·subst e;rw [Nm];have h0:=Ar4 hd;unfold fdD at h0 ⊢;rw [List.find?_append];have h1:=Option.map_eq_none_iff.1 h0;rw [h1];simp
  ·rw [Lt (fun h=>e (Aec h)),ih];unfold fdD;rw [List.find?_append]
   have:[d].find? (fun d=>d.1.toList==s.toList)=none:=by
    rw [List.find?_eq_none];intro x hx;obtain rfl:=List.mem_singleton.1 hx;rw [Azk,decide_eq_false (fun h=>e h.symm)];simp
   rw [show (some d).toList=[d] from rfl,this,Option.or_none]
theorem Awp {L:List Df} (hn:ndD L) (s:ByteArray):D9 (tyM L) (Gs s)=fdD L s:=by
 have:=Apo hn s L.length<|fQ _
 rwa [List.take_length] at this
theorem Asl {L:List Df} (h:ndD L) (k:Nat):ndD (L.take k):=fun i x hx=>by
 have hi:=Ai hx;rw [List.length_take] at hi;rw [List.getElem?_take,fW oM] at hx;have:=h i x hx
 rwa [List.take_take,Nat.min_eq_left oM]
theorem Alh {L:List Df} (hl:L.length<=1000) (hs:∀ d∈L,d.1.size<=maxLen/\Lq d.2.1/\Lq d.2.2.1):Hp L=some (tyM L):=by
 unfold Hp
 have h:Aq (fun s_:Nat×(List<|Int×(Int×Int))=>He L s_.1 s_.2) 4611686018427387904 (0,[])=some (tyM L):=by
  refine Bg L.length (fun i=>(i,tyM<|L.take i)) oM _ rfl (fun i hi=>?_) ?_
  ·have hx:=gEg hi;have hm:=hs _<|List.getElem_mem hi;have hle:=Apa L i oM;rw [Ad2 hx];generalize L[i]=d at *
   try dsimp only
   unfold He;rw [Au oM,fZ,hx,obs,Af ⟨hm.1,by omega,hm.2⟩,Af oM]
  ·try dsimp only
   unfold He;rw [At oM,fY,List.take_length]
 rw [h];rfl
theorem Are {L:List Df} (hn:ndD L) (n:Nd) (hs:n.2.2.size<=maxLen):∃ r:Int×Int×Bool,F8 n.1 n.2.1 n.2.2 (tyM L)=some r/\match lfL L n with|some w=>r=(w.1,w.2,true)|none=>r.2.2=false:=by
 unfold F8 lfL;by_cases h17:n.1=17
 ·rw [fW h17,show (n.1 !=17)=false by rw [h17];rfl,fY,Af hs,Awp hn];show ∃ r:Int×Int×Bool,_=some r/\match (if n.2.1=0 then fdD L n.2.2 else none) with|some w=>r=(w.1,w.2,true)|none=>r.2.2=false
  cases fdD L n.2.2 with
  | none=>exact ⟨_,rfl,by split <;> rename_i h <;> first|(split at h <;> cases h;done)|rfl⟩
  | some w =>
   by_cases h0:n.2.1=0
   ·rw [fW h0,h0];exact ⟨_,rfl,rfl⟩
   ·rw [fB h0];refine ⟨_,rfl,?_⟩;exact fU.2 h0
 ·rw [fB h17,bne_iff_ne.2 h17,fZ];have ⟨r,h1,h2⟩:=Ash n;rw [h1];exact ⟨_,rfl,h2⟩
theorem Ahm {L:List Df} (hn:ndD L) (hL:∀ d∈L,okW (d.2.1,d.2.2.1)) {xs:List Nd} (hs:∀ n∈xs,n.2.2.size<=maxLen):∃ r:Int×Int×Bool,Co xs (tyM L)=some r/\match tyG (lfL L) xs with|some w=>r=(w.1,w.2,true)|none=>r.2.2=false:=by
 have ⟨r,h,hm⟩:=Ayg (lf:=lfL L) (leaf:=fun a b c=>F8 a b c<|tyM L) (xs:=xs) (fun n w h=>Zw hL n w h) fun n hn' _ _=>Are hn n<|hs n hn'
 exact ⟨r,h,hm⟩
theorem An1 {lf lf':Nd->Option (Int×Int)} (h:∀ n w,lf n=some w->lf' n=some w) {n:Nd} {T T':List (Int×Int)} (hT:Dn lf n T=some T'):Dn lf' n T=some T':=by
 unfold Dn at hT ⊢;by_cases hc:n.1=15∨n.1=16
 ·rw [fW hc] at hT ⊢;exact hT
 ·rw [fB hc] at hT ⊢;obtain ⟨w,hw,rfl⟩:=oms.1 hT;rw [h n w hw];rfl
theorem Ahg {lf lf':Nd->Option (Int×Int)} (h:∀ n w,lf n=some w->lf' n=some w):∀ (xs:List Nd) (T T':List (Int×Int)),H6 lf xs T=some T'->H6 lf' xs T=some T'
 | [],_,_,hT=>hT
 | n :: r,T,T',hT=>by
  have hT:(Dn lf n T).bind (H6 lf r)=some T':=hT;have ⟨T1,h1,h2⟩:=Option.bind_eq_some_iff.1 hT;show (Dn lf' n T).bind (H6 lf' r)=some T';rw [An1 h h1];exact Ahg h r T1 T' h2
theorem Avp {lf lf':Nd->Option (Int×Int)} (h:∀ n w,lf n=some w->lf' n=some w) {xs:List Nd} {w:Int×Int} (hT:tyG lf xs=some w):tyG lf' xs=some w:=by
 unfold tyG at hT ⊢;by_cases hx:1<=xs.length/\xs.length<=400
 ·rw [fW hx] at hT ⊢;cases hr:H6 lf xs [] with
  | none=>rw [hr] at hT;cases hT
  | some T=>rw [Ahg h _ _ _ hr];rw [hr] at hT;exact hT
 ·rw [fB hx] at hT;cases hT
theorem Aw4 {L:List Df} (n:Nd) (w:Int×Int) (h:lfW n=some w):lfL L n=some w:=by
 have:=Rh h;unfold lfL;rw [fB oM];exact h
def Ia (l:List Cp):List Df:=l.map fun x=>(x.1,x.2.2.1,x.2.2.2.1,x.2.1)
structure CpG (p:Int) (x:Cp):Prop where
 name:H4 x.1=some true
 ty:tyV x.2.1=some (x.2.2.1,x.2.2.2.1)
 fld:isF p=true
 vals:J5 p x.2.1=true
 sta:Wx x.2.1=true
 rel:N6 p x.2.2.1 x.2.2.2.1 x.2.2.2.2=true
theorem Alw {p:Int} {x:Cp} (hc:Vl x) (hg:V3 p x=true):CpG p x:=by
 have h:=(Aob (p:=p) hc).1;rw [hg] at h;have hr:=Asn (by have:=hc.1;omega) hc.2.1 hc.2.2 h;unfold Ed at h;have ⟨nm,n1,n2⟩:=Anr x.1;rw [Acz,obs,n2,obs,Aex _ p (by have:=hc.1;omega),Sz _ (by have:=hc.1;omega),Ad3 p _ _ _ hc.2.1 hc.2.2] at h;cases ht:tyV x.2.1 with
 | none=>rw [ht] at h;exact absurd h fS
 | some w =>
  rw [ht,Option.isSome_some,Bool.true_and] at h;dsimp only at h;cases hv:J5 p x.2.1 <;> cases hs:Wx x.2.1 <;> cases hf:isF p <;> cases nm <;> rw [hv,hs,hf,hr] at h <;> first|(exfalso;simp at h;done)|skip
  refine ⟨n1,?_,hf,hv,hs,hr⟩;rw [ht];simp only [Bool.and_true,Bool.true_and,fZ,obs] at h;by_cases e1:x.2.2.1=w.1
  ·by_cases e2:x.2.2.2.1=w.2
   ·rw [e1,e2]
   ·exact absurd h (by simp [e1,e2])
  ·rw [fU.2 e1,fY] at h;exact absurd h fS
theorem Au1 {p:Int} {l:List Cp} (h:okL p [] l=true):∀ k,k<=l.length->okL p ((l.take k).map (·.1)) (l.drop k)=true
 | 0,_=>h
 | k+1,hk=>by
  have ih:=Au1 h k oM;rw [Xu (gEg (show k<l.length by omega)),fT] at ih;exact ih.2
theorem Zp {p:Int} {l:List Cp} (h:okL p [] l=true) {k:Nat} {x:Cp} (hx:l[k]? =some x):V3 p x=true/\(((l.take k).map (·.1)).any fun n=>n.toList==x.1.toList)=false:=by
 have:=Au1 h k (by have:=Ai hx;omega);rw [Xu hx,fT,fT,Bool.not_eq_true'] at this;exact this.1
theorem Aft {l:List Cp} {k:Nat} {d:Df} (h:(Ia l)[k]? =some d):∃ x,l[k]? =some x/\d=(x.1,x.2.2.1,x.2.2.2.1,x.2.1):=by
 unfold Ia at h;rw [List.getElem?_map] at h;have ⟨x,hx,e⟩:=oms.1 h;exact ⟨x,hx,e.symm⟩
theorem Alr {l:List Cp} {d:Df} (h:d∈Ia l):∃ x∈l,d=(x.1,x.2.2.1,x.2.2.2.1,x.2.1):=by
 have ⟨x,hx,e⟩:=List.mem_map.1 h;exact ⟨x,hx,e.symm⟩
theorem Aio {p:Int} {l:List Cp} (h:okL p [] l=true):ndD (Ia l):=fun k d hd=>by
 obtain ⟨x,hx,rfl⟩:=Aft hd;have:=(Zp h hx).2;unfold Ia;rw [← List.map_take,List.any_map];rw [List.any_map] at this;exact this
structure Cps (p:Int) (l:List Cp):Prop where
 len:l.length<=12
 cok:∀ x∈l,Vl x
 nm:∀ x∈l,x.1.size<=maxLen
 bnm:∀ x∈l,∀ n∈x.2.1,n.2.2.size<=maxLen
 ok:okL p [] l=true
section
variable {p:Int} {l:List Cp}
theorem Cps.good (G:Cps p l) {x:Cp} (hx:x∈l):CpG p x:=by
 have ⟨k,hk,e⟩:=List.getElem_of_mem hx;exact Alw (G.cok x hx) (Zp G.ok (by rw [gEg hk,e])).1
theorem Auv {xs:List Nd} {w:Int×Int} (h:tyV xs=some w):okW w:=by
 unfold tyV tyG at h;split at h
 ·cases hr:H6 lfW xs [] with
  | none=>rw [hr] at h;cases h
  | some T =>
   rw [hr] at h;have:=Ait (fun _ _ h=>Amr h) hr fun _ h=>by cases h
   match T,h with
   | [v],h=>obtain rfl:=osj h;exact this v fS
 ·cases h
theorem Cps.okw (G:Cps p l):∀ d∈Ia l,okW (d.2.1,d.2.2.1):=fun d hd=>by
 obtain ⟨x,hx,rfl⟩:=Alr hd;exact Auv (G.good hx).ty
theorem Cps.szs (G:Cps p l):∀ d∈Ia l,d.1.size<=maxLen/\Lq d.2.1/\Lq d.2.2.1:=fun d hd=>by
 obtain ⟨x,hx,rfl⟩:=Alr hd;have h:=Auv (G.good hx).ty;refine ⟨G.nm x hx,?_,?_⟩
 ·have:=h.1;unfold Lq;dsimp only at *;omega
 ·have:=h.2;unfold Lq;dsimp only at *;omega
theorem Arq (L:List Df) (hl:L.length<=1048576) (s:ByteArray):∃ k:Int,Mj L s=some k/\decide (0<=k)=L.any fun d=>d.1.toList==s.toList:=by
 unfold Mj Bq
 have hs:∀ i x,L[i]? =some x->Ay L s i=some (if x.1.toList==s.toList then Ctl.out (Ctl.out (i:Int)) else Ctl.next (i+1)):=fun i x h=>by
  have:=Ai h;unfold Ay M3;rw [Au oM,fZ,h,obs,obs,Af oM];cases x.1.toList==s.toList <;> rfl
 have he:Ay L s L.length=some (Ctl.out<|Ctl.next ()):=by
  unfold Ay;rw [At oM,fY]
 rcases Pa (body:=fun s_:Nat=>Ay L s s_) L (fun x=>x.1.toList==s.toList) (Ctl.next ()) (fun i=>Ctl.out (i:Int)) (F:=4611686018427387904) oM hs he with ⟨h1,i,hi,h2⟩|⟨h1,h2⟩
 ·rw [h2,h1];exact ⟨_,rfl,Au oM⟩
 ·rw [h2,h1];exact ⟨_,rfl,rfl⟩
theorem Akn (G:Cps p l):Jz (Ia l)=some true:=by
 have hll:(Ia l).length=l.length:=List.length_map ..;have h12:=G.len;unfold Jz;rw [At oM,fY]
 have h:Aq (fun s_:Nat=>Gj (Ia l) s_) 4611686018427387904 0=some (Ctl.next ()):=by
  refine Bg (Ia l).length (fun i=>i) oM _ rfl (fun i hi=>?_) ?_
  ·have hx:=gEg hi;have ⟨x,hxl,e⟩:=Aft hx;have hmem:=List.mem_of_getElem? hxl;have g:=G.good hmem;have ht:tyG (lfL<|(Ia l).take i) x.2.1=some (x.2.2.1,x.2.2.2.1):=Avp Aw4 g.ty;have ⟨r,r1,r2⟩:=Ahm (Asl (Aio G.ok) i) (fun d hd=>G.okw d<|List.mem_of_mem_take hd)<|G.bnm x hmem;rw [ht] at r2;dsimp only at r2;subst r2;have ⟨j,j1,j2⟩:=Arq ((Ia l).take i) (by rw [List.length_take];omega) x.1;have hd:=Aio G.ok i _ hx;rw [e] at hx hd;rw [hd] at j2
   try dsimp only
   unfold Gj;rw [Au oM,fZ,hx,obs,Af oM,Alh (by rw [List.length_take];omega) (fun d hd=>G.szs d<|List.mem_of_mem_take hd),obs,r1,obs];simp only [fD,fY,beq_self_eq_true,g.name,obs,j1,j2];rw [Af oM,obs,fY,Af oM]
  ·try dsimp only
   unfold Gj;rw [At oM,fY]
 rw [h];rfl
theorem Alb (l:List Cp) (hl:l.length<=1000):J0 l=some (Ia l):=by
 unfold J0
 have key:Aq (fun s_:Nat×(List<|ByteArray×Int×Int×List ZB)=>Gi l s_.1 s_.2) 4611686018427387904 (0,[])=some ([]++l.map fun x=>((x.1,x.2.2.1,x.2.2.2.1,x.2.1):Df)):=by
  refine Dh l (fun x=>((x.1,x.2.2.1,x.2.2.2.1,x.2.1):Df)) [] oM _ (fun j x h=>?_) ?_
  ·have:=Ai h
   try dsimp only
   unfold Gi;rw [Au oM,fZ,h,obs,Af sO,Af oM]
  ·try dsimp only
   unfold Gi;rw [At oM,fY]
 rw [key];rfl
theorem And (G:Cps p l) {xs:List Nd} (hs:∀ n∈xs,n.2.2.size<=maxLen):K3 (Ia l) xs=some (tyG (lfL (Ia l)) xs).isSome:=by
 have hll:(Ia l).length=l.length:=List.length_map ..;have h12:=G.len;unfold K3;have ⟨r,r1,r2⟩:=Ahm (Aio G.ok) G.okw hs;rw [Akn G,obs,fD,fY,Alh oM G.szs,obs,r1,obs];cases hm:tyG (lfL<|Ia l) xs with
 | none=>rw [hm] at r2;exact congrArg some r2
 | some w=>rw [hm] at r2;dsimp only at r2;subst r2;rfl
end
theorem Ahn (p:Int):∀ xs:List Nd,(xs.any fun x=>(x.1==8||x.1==14)||((x.1==7||x.1==13)&&decide (p<=x.2.1)))= !(Wx xs&&J5 p xs)
 | []=>rfl
 | x :: xs=>by
  have ih:=Ahn p xs;unfold Wx J5 at ih ⊢;rw [List.any_cons,List.all_cons,List.all_cons,ih];cases (x.1==8||x.1==14) <;> cases ((x.1==7||x.1==13)&&decide (p<=x.2.1)) <;> cases (xs.all fun n=> !(n.1==8||n.1==14)) <;> rfl
theorem Av6 (p:Int) (xs:List Nd) (hx:xs.length<=1073741824):Bb xs p=some (!(Wx xs&&J5 p xs)):=by
 unfold Bb Bn
 have h1:∀ n:Nd,Im n.1 n.2.1 n.2.2 p=some ((n.1==8||n.1==14)||((n.1==7||n.1==13)&&decide (p<=n.2.1))):=fun n=>by
  unfold Im I1 Ey;cases n.1==8 <;> cases n.1==14 <;> cases n.1==7 <;> cases n.1==13 <;> rfl
 have hs:∀ i x,xs[i]? =some x->Aw xs p i=some (if ((x.1==8||x.1==14)||((x.1==7||x.1==13)&&decide (p<=x.2.1))) then Ctl.out (Ctl.out (i:Int)) else Ctl.next (i+1)):=fun i x h=>by
  have:=Ai h;unfold Aw;rw [Au oM,fZ,h,obs,h1,obs,Af oM];cases (x.1==8||x.1==14)||((x.1==7||x.1==13)&&decide (p<=x.2.1)) <;> rfl
 have he:Aw xs p xs.length=some (Ctl.out<|Ctl.next ()):=by
  unfold Aw;rw [At oM,fY]
 have hv:=Ahn p xs;rw [← hv];rcases Pa (body:=fun s_:Nat=>Aw xs p s_) xs (fun x=>(x.1==8||x.1==14)||((x.1==7||x.1==13)&&decide (p<=x.2.1))) (Ctl.next ()) (fun i=>Ctl.out (i:Int)) (F:=4611686018427387904) oM hs he with ⟨h1,i,hi,h2⟩|⟨h1,h2⟩
 ·rw [h2,h1];show some (decide (0<=(i:Int)))=some true;rw [Au oM]
 ·rw [h2,h1];rfl
noncomputable def Arl (p:Int) (l:List Cp) (xs:List Nd):Bool:=(okL p [] l&&(isF p&&decide (((l.length:Nat):Int)<=12)))&&((tyG (lfL (Ia l)) xs).isSome&&(Wx xs&&J5 p xs))
section
variable {p:Int} {l:List Cp} {xs:List Nd} (hl:l.length<=1048576) (hc:∀ x∈l,Vl x) (hn:∀ x∈l,x.1.size<=maxLen) (hb:∀ x∈l,∀ n∈x.2.1,n.2.2.size<=maxLen) (hx:xs.length<=1073741824)
include hl hc hn hb
theorem Ajj (h:(okL p [] l&&(isF p&&decide (((l.length:Nat):Int)<=12)))=true):Cps p l:=by
 simp only [fT,decide_eq_true_eq] at h;exact ⟨by omega,hc,hn,hb,h.1⟩
include hx
theorem Anu (hs:∀ n∈xs,n.2.2.size<=maxLen):K6 p l xs=some (Arl p l xs):=by
 unfold K6 Arl;rw [Atp hl hc hn,obs];cases hk:(okL p [] l&&(isF p&&decide (((l.length:Nat):Int)<=12)))
 ·rfl
 have G:=Ajj hl hc hn hb hk;have h12:=G.len;rw [fD,fY,Alb l oM,obs,And G hs,obs,obs,Bool.true_and];cases (tyG (lfL<|Ia l) xs).isSome
 ·rfl
 rw [fD,fY,Av6 p xs hx,obs,Bool.not_not,Bool.true_and]
theorem Amt:Ku p l xs=some (Arl p l xs):=by
 unfold Ku Arl;rw [Av9 hl hc,obs];cases hk:(okL p [] l&&(isF p&&decide (((l.length:Nat):Int)<=12)))
 ·rfl
 have G:=Ajj hl hc hn hb hk;have h12:=G.len;rw [fD,fY,Sz xs hx,obs,obs,Bool.true_and];cases Wx xs
 ·rw [Bool.false_and,Bool.and_false];rfl
 rw [fD,fY,Zn l hl,obs];have ⟨F,I,O,b,h1,h2⟩:=Aly (lib:=Ia l) (by rw [show (Ia l).length=l.length from List.length_map ..];omega) G.okw xs;rw [show H1 (l.map fun x=>((x.1,x.2.2.1,x.2.2.2.1,x.2.1):Df)) xs=some (F,I,O,b) from h1,obs];cases ht:tyG (lfL<|Ia l) xs with
 | none =>
  rw [ht] at h2;dsimp only at h2;subst h2;rfl
 | some w =>
  rw [ht] at h2;obtain ⟨rfl,_,_⟩:=h2;rw [fD,fY,Option.isSome_some,Bool.true_and,Bool.true_and]
  have hst:∀ i x,xs[i]? =some x->D5 xs p i=some (if ((x.1==7||x.1==13)&&decide (p<=x.2.1)) then Ctl.out (Ctl.out false) else Ctl.next (i+1)):=fun i x h=>by
   have:=Ai h;unfold D5;rw [Au oM,fZ,h,obs,Af oM];cases x.1==7 <;> cases x.1==13 <;> cases decide (p<=x.2.1) <;> rfl
  have he:D5 xs p xs.length=some (Ctl.out<|Ctl.next ()):=by
   unfold D5;rw [At oM,fY]
  have hv:(xs.any fun x=>(x.1==7||x.1==13)&&decide (p<=x.2.1))= !J5 p xs:=by
   unfold J5;rw [← Bool.not_not (xs.any _),List.not_any_eq_all_not]
  rcases Pa (body:=fun s_:Nat=>D5 xs p s_) xs (fun x=>(x.1==7||x.1==13)&&decide (p<=x.2.1)) (Ctl.next ()) (fun _=>Ctl.out false) (F:=4611686018427387904) oM hst he with ⟨h1,i,hi,h2⟩|⟨h1,h2⟩
  ·rw [hv] at h1;rw [h2,show J5 p xs=false by cases hvv:J5 p xs <;> rw [hvv] at h1 <;> first|rfl|cases h1];rfl
  ·rw [hv] at h1;rw [h2,show J5 p xs=true by cases hvv:J5 p xs <;> rw [hvv] at h1 <;> first|rfl|cases h1];rfl
end
end
section
section
variable {p:Int} {lf:Nd->Rn}
theorem Aq2 (hp:isF p=true) {l:List Cp} {xs:List Nd} {k:Nat} {n:Nd} (hx:xs[k]? =some n) (hl:xs.length<=1000) {lt:Nd->Option (Int×Int)} {T T':List (Int×Int)} {R:List Rn} (hT:Dn lt n T=some T') (hok:okT T) (hR:Alx p T R) (hlen:R.length<=1000)
  (hI:n.1=17->F6 n.2.2 l=some (Ca (lf n))) (hI':∀ w,¬ (n.1=15∨n.1=16)->n.1≠17->lt n=some w->Bh p n.1 n.2.1 n.2.2=some (Ca (lf n))) :
  Br xs p l k (R.map Ca).reverse=some (.next (k+1,((Qp p lf n R).map Ca).reverse)):=by
 have hk:=Ai hx;unfold Br;rw [Au oM,fZ,hx,obs];by_cases hc:n.1=15∨n.1=16
 ·unfold Dn at hT;rw [fW hc] at hT;split at hT
  ·match T,R,hT,hR with
   | w2 :: w1 :: T,y :: x :: R,hT,⟨⟨ey,gy⟩,⟨ex,gx⟩,hR⟩ =>
    subst ey ex;have o1:=hok _<|List.mem_cons_of_mem _ List.mem_cons_self;have o2:=hok _ List.mem_cons_self;have ⟨⟨_,o11⟩,_,o12⟩:=o1;have ⟨⟨_,o21⟩,_,o22⟩:=o2;dsimp only at o11 o12 o21 o22 hT;rw [List.length_cons,List.length_cons] at hlen;rw [Apd];have hSl:((R.map Ca).reverse).length=R.length:=by simp
    generalize hS:(R.map Ca).reverse=S at *;have ⟨s1,s2,s3⟩:=Auk (a:=Ca x) (b:=Ca y) hSl;have w1:wI (((R.length+2:Nat):Int) - 1)=((R.length+1:Nat):Int):=by rw [Bj oM oM];omega
    have w2:wI (((R.length+1:Nat):Int) - 1)=((R.length:Nat):Int):=by rw [Bj oM oM];omega
    have hl2:(S++[Ca x,Ca y]).length=R.length+2:=by simp [hSl]
    simp only [w1,w2,hl2,B9<|Int.natCast_nonneg _,fX,s1,s2,s3,obs];show _=some (Ctl.next (k+1,((if n.1=15 then Amb p x y :: R else if n.1=16 then Ajv p x y :: R else lf n :: y :: x :: R).map Ca).reverse));by_cases h15:n.1=15
    ·rw [fW h15] at hT ⊢;split at hT
     next he=>rw [show (n.1==15)=true from fF.2 h15,fZ,Af oM,(Aj2 hp gx gy oM oM oM).1,obs,Af oM,obs,Af oM,Rw,hS]
     ·cases hT
    ·rw [fB h15] at hT ⊢;have h16:=hc.resolve_left h15;rw [fW h16,show (n.1==15)=false from fU.2 h15,fY,show (n.1==16)=true from fF.2 h16,fZ,Af oM,(Aka hp gx gy oM oM).1,obs,Af oM,obs,Af oM,Rw,hS]
  ·cases hT
 ·have hT0:=hT;unfold Dn at hT;rw [fB hc] at hT;have ⟨w,hw,_⟩:=oms.1 hT;rw [R7 hc,Rw,show (n.1==15)=false from fU.2 (fun e=>hc<|.inl e),fY,show (n.1==16)=false from fU.2 (fun e=>hc<|.inr e),fY];have hSl:((R.map Ca).reverse).length=R.length:=by simp
  by_cases h17:n.1=17
  ·rw [show (n.1==17)=true from fF.2 h17,fZ,hI h17,obs,Af oM,obs,Af oM]
  ·rw [show (n.1==17)=false from fU.2 h17,fY,hI' w hc h17 hw,obs,Af oM,obs,Af oM]
theorem Aqo (hp:isF p=true) {l:List Cp} {xs:List Nd} {k:Nat} {n:Nd} {pr:Bool} (hx:xs[k]? =some n) (hl:xs.length<=1000) {lt:Nd->Option (Int×Int)} {T T':List (Int×Int)} {R:List Rn} (hT:Dn lt n T=some T') (hok:okT T) (hR:Alx p T R) (hlen:R.length<=1000)
  (hI:n.1=17->∃ (j:Int) (x:Cp),(Option.bind (Di l) fun y34=>C4 y34 n.2.2)=some j/\Ce l j=some x/\(if pr then some x.2.2 else Nl p x.1 x.2.1 x.2.2.1 x.2.2.2.1 x.2.2.2.2)=some (Ca (lf n))) (hI':∀ w,¬ (n.1=15∨n.1=16)->n.1≠17->lt n=some w->Bz p n.1 n.2.1 n.2.2=some (Ca (lf n))) :
  Ej xs p l pr k (R.map Ca).reverse=some (.next (k+1,((Qp p lf n R).map Ca).reverse)):=by
 have hk:=Ai hx;unfold Ej;rw [Au oM,fZ,hx,obs];by_cases hc:n.1=15∨n.1=16
 ·unfold Dn at hT;rw [fW hc] at hT;split at hT
  ·match T,R,hT,hR with
   | w2 :: w1 :: T,y :: x :: R,hT,⟨⟨ey,gy⟩,⟨ex,gx⟩,hR⟩ =>
    subst ey ex;have o1:=hok _<|List.mem_cons_of_mem _ List.mem_cons_self;have o2:=hok _ List.mem_cons_self;have ⟨⟨_,o11⟩,_,o12⟩:=o1;have ⟨⟨_,o21⟩,_,o22⟩:=o2;dsimp only at o11 o12 o21 o22 hT;rw [List.length_cons,List.length_cons] at hlen;rw [Apd];have hSl:((R.map Ca).reverse).length=R.length:=by simp
    generalize hS:(R.map Ca).reverse=S at *;have ⟨s1,s2,s3⟩:=Auk (a:=Ca x) (b:=Ca y) hSl;have hl2:(S++[Ca x,Ca y]).length=R.length+2:=by simp [hSl]
    have w1:wI (((R.length+2:Nat):Int) - 1)=((R.length+1:Nat):Int):=by rw [Bj oM oM];omega
    have w2:wI (((R.length+2:Nat):Int) - 2)=((R.length:Nat):Int):=by rw [Bj oM oM];omega
    simp only [hl2,w1,w2,B9<|Int.natCast_nonneg _,fX,s1,s2,s3,obs];show _=some (Ctl.next (k+1,((if n.1=15 then Amb p x y :: R else if n.1=16 then Ajv p x y :: R else lf n :: y :: x :: R).map Ca).reverse));by_cases h15:n.1=15
    ·rw [fW h15] at hT ⊢;split at hT
     next he=>rw [show (n.1==15)=true from fF.2 h15];simp only [fZ,obs];rw [Af oM,(Aj2 hp gx gy oM oM oM).2,obs,Af oM,obs,Af oM,Rw,hS]
     ·cases hT
    ·rw [fB h15] at hT ⊢;have h16:=hc.resolve_left h15;rw [fW h16,show (n.1==15)=false from fU.2 h15,show (n.1==16)=true from fF.2 h16];simp only [fZ,fY,obs];rw [Af oM,(Aka hp gx gy oM oM).2,obs,Af oM,obs,Af oM,Rw,hS]
  ·cases hT
 ·have hT0:=hT;unfold Dn at hT;rw [fB hc] at hT;have ⟨w,hw,_⟩:=oms.1 hT;rw [R7 hc,Rw,show (n.1==15)=false from fU.2 (fun e=>hc<|.inl e),show (n.1==16)=false from fU.2 (fun e=>hc<|.inr e)];simp only [fY,obs];have hSl:((R.map Ca).reverse).length=R.length:=by simp
  by_cases h17:n.1=17
  ·have ⟨j,x,j1,j2,j3⟩:=hI h17;have ⟨L,hL,hj⟩:=Option.bind_eq_some_iff.1 j1;rw [show (n.1==17)=true from fF.2 h17,fZ,hL,obs,hj,obs,j2,obs];cases pr
   ·have j3:Nl p x.1 x.2.1 x.2.2.1 x.2.2.2.1 x.2.2.2.2=some (Ca<|lf n):=j3;rw [fY,j3,obs,Af oM,obs,Af oM]
   ·have j3:some x.2.2=some (Ca<|lf n):=j3;rw [fZ,Af oM,obs,Af oM,osj j3]
  ·rw [show (n.1==17)=false from fU.2 h17,fY,hI' w hc h17 hw,obs,Af oM,obs,Af oM]
def lfN (p:Int) (l:List Cp) (n:Nd):Rn :=
 if n.1=17 then (match l.find? fun x=>x.1.toList==n.2.2.toList with|some x=>Ab1 x.2.2|none=>(0,0,[]))
 else (match Bh p n.1 n.2.1 n.2.2 with|some a=>Ab1 a|none=>(0,0,[]))
theorem Aq9 {l:List Cp} {n:Nd} {w:Int×Int} (h17:n.1=17) (h:lfL (Ia l) n=some w):∃ x,l.find? (fun x=>x.1.toList==n.2.2.toList)=some x/\w=(x.2.2.1,x.2.2.2.1):=by
 unfold lfL Ia at h;rw [fW h17] at h;split at h
 ·rw [List.find?_map] at h;obtain ⟨d,hd,rfl⟩:=oms.1 h;obtain ⟨x,hx,rfl⟩:=oms.1 hd;exact ⟨x,hx,rfl⟩
 ·cases h
theorem Ac2 {l:List Cp} (G:Cps p l) {n:Nd} {w:Int×Int} (h17:n.1=17) (h:lfL (Ia l) n=some w):∃ x,l.find? (fun x=>x.1.toList==n.2.2.toList)=some x/\Ca (lfN p l n)=x.2.2/\w=(((lfN p l n).1:Int),((lfN p l n).2.1:Int))/\N8 p (lfN p l n):=by
 obtain ⟨x,hx,rfl⟩:=Aq9 h17 h;have g:=G.good<|List.mem_of_find?_eq_some hx;have ⟨g1,g2⟩:=Alg (x:=x.2.2) g.rel
 have e:lfN p l n=Ab1 x.2.2:=by
  unfold lfN;rw [fW h17,hx]
 rw [e];refine ⟨x,hx,g2,?_,g1⟩;have e1:(Ca<|Ab1 x.2.2).1=x.2.2.1:=by rw [g2]
 have e2:(Ca<|Ab1 x.2.2).2.1=x.2.2.2.1:=by rw [g2]
 exact Prod.ext e1.symm e2.symm
theorem Adq {l:List Cp} (hp:isF p=true) {n:Nd} {w:Int×Int} (h17:n.1≠17) (hw:lfL (Ia l) n=some w) (hs:n.1≠8/\n.1≠14) (hv:n.1=7∨n.1=13->n.2.1<p) :
  Bz p n.1 n.2.1 n.2.2=some (Ca (lfN p l n))/\Bh p n.1 n.2.1 n.2.2=some (Ca (lfN p l n))/\w=(((lfN p l n).1:Int),((lfN p l n).2.1:Int))/\N8 p (lfN p l n):=by
 unfold lfL at hw;rw [fB h17] at hw;obtain ⟨a,h1,h2,h3,rfl⟩:=Auc hp hw hs hv;have ⟨g1,g2⟩:=Alg (x:=a) h3
 have e:lfN p l n=Ab1 a:=by
  unfold lfN;rw [fB h17,h2]
 rw [e,g2];refine ⟨h1,h2,?_,g1⟩;have e1:(Ca<|Ab1 a).1=a.1:=by rw [g2]
 have e2:(Ca<|Ab1 a).2.1=a.2.1:=by rw [g2]
 exact Prod.ext e1.symm e2.symm
theorem Axz {l:List Cp} (hl:l.length<=1048576) {s:ByteArray} {x:Cp} (h:l.find? (fun x=>x.1.toList==s.toList)=some x):F6 s l=some x.2.2:=by
 unfold F6 H5
 have hP:∃ r,Aq (fun s_:Nat=>A9 l s s_) 4611686018427387904 0=some r/\(∃ (i:Nat) (d:Cp),r=Ctl.out (i:Int)/\l[i]? =some d/\l.find? (fun d=>d.1.toList==s.toList)=some d):=by
  refine I5 (Post:=fun r=>(∃ (i:Nat) (d:Cp),r=Ctl.out (i:Int)/\l[i]? =some d/\l.find? (fun d=>d.1.toList==s.toList)=some d)) l.length (fun i st=>st=i/\(l.take i).find? (fun d=>d.1.toList==s.toList)=none) oM ⟨rfl,by simp⟩ ?_ ?_
  ·rintro i st hi ⟨rfl,hI⟩;have hx:=gEg hi;unfold A9 Gw;rw [Au oM,fZ,hx,obs,obs];have e:l.take (st+1)=l.take st++[l[st]]:=by rw [List.take_add_one,hx];rfl
   cases hb:(l[st].1.toList==s.toList)
   ·rw [fY,Af oM];exact .inl ⟨_,rfl,rfl,by rw [e,List.find?_append,hI];simp [hb]⟩
   ·refine .inr ⟨_,rfl,st,l[st],rfl,hx,?_⟩;have e2:l=l.take (st+1)++l.drop (st+1):=(List.take_append_drop _ _).symm
    conv=>lhs;rw [e2,e]
    rw [List.find?_append,List.find?_append,hI];simp [hb]
  ·rintro st ⟨rfl,hI⟩;rw [List.take_length,h] at hI;cases hI
 obtain ⟨r,hr,i,d,rfl,h1,h2⟩:=hP;unfold Be;rw [hr];rw [h] at h2;cases h2;show (Option.bind (Option.bind (Ce l (i:Int)) _) _)=_;rw [B9 oM,fX,h1];rfl
theorem Ahb {l:List Cp} (G:Cps p l) {i k:Nat} {x y:Cp} (hy:l[i]? =some y) (hk:l[k]? =some x) (hn:y.1=x.1) (c:i<k):False:=by
 have h:=(Zp G.ok hk).2;refine List.any_eq_false.1 h y.1 (List.mem_map.2 ⟨y,List.mem_iff_getElem?.2 ⟨i,by rw [List.getElem?_take,fW c];exact hy⟩,rfl⟩) ?_;rw [hn];exact beq_self_eq_true _
theorem Axb {l:List Cp} (G:Cps p l) {s:ByteArray} {x:Cp} (h:l.find? (fun x=>x.1.toList==s.toList)=some x):∃ j,(Option.bind (Di l) fun y34=>C4 y34 s)=some j/\Ce l j=some x:=by
 have hl:=G.len;rw [Zn l oM,obs]
 have hm:(Ia l).find? (fun d=>d.1.toList==s.toList)=some (x.1,x.2.2.1,x.2.2.2.1,x.2.1):=by
  unfold Ia;rw [List.find?_map];exact congrArg (Option.map _) h
 rcases Aky (Ia l) (by unfold Ia;rw [List.length_map];omega) s with ⟨i,d,h1,h2,h3⟩|⟨_,h2⟩
 ·refine ⟨(i:Int),h1,?_⟩;rw [B9 oM,fX];have ⟨k,hk⟩:=List.mem_iff_getElem?.1<|List.mem_of_find?_eq_some h;have ⟨y,hy,e⟩:=Aft h2;have ed:=osj<|h3.symm.trans hm;rw [e] at ed;have hn:y.1=x.1:=congrArg (·.1) ed;rcases Nat.lt_trichotomy i k with c|c|c
  ·exact (Ahb G hy hk hn c).elim
  ·subst c;exact hk
  ·exact (Ahb G hk hy hn.symm c).elim
 ·rw [hm] at h2;cases h2
theorem Atm {l:List Cp} (G:Cps p l) (hp:isF p=true) {xs:List Nd} (hx:xs.length<=400) {T:List (Int×Int)} (hT:H6 (lfL (Ia l)) xs []=some T) (hs:Wx xs=true) (hv:J5 p xs=true) :
  Alx p T (L0 p (lfN p l) xs [])/\Aq (fun s_:Nat×(List (Int×Int×ZA))=>Br xs p l s_.1 s_.2) 4611686018427387904 (0,[])=some ((L0 p (lfN p l) xs []).map Ca).reverse
   /\ Aq (fun s_:Nat×(List (Int×Int×ZA))=>Ej xs p l true s_.1 s_.2) 4611686018427387904 (0,[])=some ((L0 p (lfN p l) xs []).map Ca).reverse:=by
 have hnode:∀ n∈xs,(n.1≠8/\n.1≠14)/\(n.1=7∨n.1=13->n.2.1<p):=fun n hn=>by
  have h1:=List.all_eq_true.1 hs n hn;have h2:=List.all_eq_true.1 hv n hn;simp only [Bool.not_eq_true',Bool.or_eq_false_iff,fU,Bool.and_eq_false_iff,decide_eq_false_iff_not] at h1 h2;exact ⟨h1,fun h=>by rcases h2 with ⟨a,b⟩|h2 <;> omega⟩
 have hleaf:∀ n∈xs,∀ w,¬ (n.1=15∨n.1=16)->lfL (Ia l) n=some w->w=(((lfN p l n).1:Int),((lfN p l n).2.1:Int))/\N8 p (lfN p l n):=fun n hn w _ hw=>by
  by_cases h17:n.1=17
  ·have ⟨_,_,_,h3,h4⟩:=Ac2 G h17 hw;exact ⟨h3,h4⟩
  ·have ⟨_,_,h3,h4⟩:=Adq hp h17 hw (hnode n hn).1 (hnode n hn).2;exact ⟨h3,h4⟩
 have hpre:∀ k,k<=xs.length->∃ Tk,H6 (lfL<|Ia l) (xs.take k) []=some Tk/\okT Tk/\Alx p Tk (L0 p (lfN p l) (xs.take k) [])/\(L0 p (lfN p l) (xs.take k) []).length<=k:=by
  intro k
  induction k with
  | zero=>exact fun _=>⟨[],rfl,(fun _ h=>by cases h),trivial,fQ _⟩
  | succ k ih =>
   intro hk;have ⟨Tk,h1,h2,h3,h4⟩:=ih oM;have hg:=gEg (show k<xs.length by omega);have hm:=List.getElem_mem (show k<xs.length by omega);have hn:=Pe hg h1;rw [Tq hg];cases hst:Dn (lfL<|Ia l) xs[k] Tk with
   | none=>rw [hst] at hn;rw [U8 hn] at hT;cases hT
   | some T' =>
    rw [hst] at hn;refine ⟨T',hn,Pu (fun n w h=>Zw G.okw n w h) hst h2,Auo hp (hleaf _ hm) hst h3,?_⟩
    have hlen:∀ (n:Nd) (R:List Rn),(Qp p (lfN p l) n R).length<=R.length+1:=fun n R=>by
     unfold Qp;split
     ·split
      ·simp only [List.length_cons];omega
      ·split <;> simp only [List.length_cons] <;> omega
     ·simp
    exact Nat.le_trans (hlen _ _) oM
 refine ⟨?_,?_,?_⟩
 ·have ⟨Tk,h1,_,h3,_⟩:=hpre xs.length<|fQ _;rw [List.take_length] at h1 h3;rw [hT] at h1;cases h1;exact h3
 ·refine Bg xs.length (fun k=>(k,((L0 p (lfN p l) (xs.take k) []).map Ca).reverse)) oM _ rfl (fun k hk=>?_) ?_
  ·have ⟨Tk,h1,h2,h3,h4⟩:=hpre k oM;have ⟨Tn,g1,_⟩:=hpre (k+1) oM;have hg:=gEg hk;have hm:=List.getElem_mem hk;have hn:=Pe hg h1;rw [g1] at hn;rw [Tq hg];refine Aq2 hp hg oM hn.symm h2 h3 oM (fun h17=>?_) fun w hc h17 hw=>?_
   ·have hst:=hn.symm;unfold Dn at hst;rw [fB oM] at hst;have ⟨w,hw,_⟩:=oms.1 hst;have ⟨x,q1,q2,_,_⟩:=Ac2 G h17 hw;rw [Axz (by have:=G.len;omega) q1,q2]
   ·exact (Adq hp h17 hw (hnode _ hm).1 (hnode _ hm).2).2.1
  ·try dsimp only
   unfold Br;rw [At oM,fY,List.take_length]
 ·refine Bg xs.length (fun k=>(k,((L0 p (lfN p l) (xs.take k) []).map Ca).reverse)) oM _ rfl (fun k hk=>?_) ?_
  ·have ⟨Tk,h1,h2,h3,h4⟩:=hpre k oM;have ⟨Tn,g1,_⟩:=hpre (k+1) oM;have hg:=gEg hk;have hm:=List.getElem_mem hk;have hn:=Pe hg h1;rw [g1] at hn;rw [Tq hg];refine Aqo hp hg oM hn.symm h2 h3 oM (fun h17=>?_) fun w hc h17 hw=>?_
   ·have hst:=hn.symm;unfold Dn at hst;rw [fB oM] at hst;have ⟨w,hw,_⟩:=oms.1 hst;have ⟨x,q1,q2,_,_⟩:=Ac2 G h17 hw;have ⟨j,j1,j2⟩:=Axb G q1;exact ⟨j,x,j1,j2,by rw [fW rfl,q2]⟩
   ·exact (Adq hp h17 hw (hnode _ hm).1 (hnode _ hm).2).1
  ·try dsimp only
   unfold Ej;rw [At oM,fY,List.take_length]
theorem Au6 {n:Nat} (m:ZA) (hl:m.length<=1000) (hm:MatW p n m) (hn:n<=1000):Ng m=some m:=by
 unfold Ng
 have key:Aq (fun s_:Nat×ZA=>Jo m s_.1 s_.2) 4611686018427387904 (0,([]:ZA))=some ([]++m.map fun x=>x):=by
  refine Dh m (fun x=>x) [] oM _ (fun j x h=>?_) ?_
  ·have:=Ai h;have hxl:=(hm x<|List.mem_of_getElem? h).1
   try dsimp only
   unfold Jo;rw [Au oM,fZ,h,obs,Yh _ oM,obs,Af sO,Af oM]
  ·try dsimp only
   unfold Jo;rw [At oM,fY]
 rw [key];simp
theorem Amq {l:List Cp} {xs:List Nd} (G:Cps p l) (hp:isF p=true) (hT:(tyG (lfL (Ia l)) xs).isSome=true) (hs:Wx xs=true) (hv:J5 p xs=true) :
  ∃ x:Rn,N8 p x/\okW ((x.1:Int),(x.2.1:Int))/\Kv p l xs=some (Ca x)/\Ih p l xs true=some (Ca x):=by
 have ⟨w,hw⟩:=Option.isSome_iff_exists.1 hT;unfold tyG at hw;split at hw
 ·rename_i hx;cases hr:H6 (lfL<|Ia l) xs [] with
  | none=>rw [hr] at hw;cases hw
  | some T =>
   rw [hr] at hw;have hok:=Ait (fun n w h=>Zw G.okw n w h) hr (fun _ h=>by cases h);have ⟨h1,h2,h3⟩:=Atm G hp hx.2 hr hs hv
   match T,hw with
   | [v],hw =>
    cases hw;generalize L0 p (lfN p l) xs []=R at *
    match R,h1 with
    | [x],⟨⟨e,gx⟩,_⟩ =>
     subst e;have ow:=hok _<|List.mem_singleton.2 rfl;have hlb:=gx.lb;have o1:x.1<=12:=by have:=ow.1.2;dsimp only at this;omega
     have o2:x.2.1<=12:=by have:=ow.2.2;dsimp only at this;omega
     refine ⟨x,gx,ow,?_,?_⟩
     ·unfold Kv Db;rw [h2];show (Option.bind (Option.bind (Gb x.2.2) fun y43=>some ((x.1:Int),(x.2.1:Int),y43)) fun y4=>some (y4.1,y4.2.1,y4.2.2))=_;rw [Adp gx.mb oM oM];rfl
     ·unfold Ih;rw [h3];show (Option.bind (O7 (x.1:Int) (x.2.1:Int) x.2.2) fun y47=>some ((x.1:Int),(x.2.1:Int),y47))=_;unfold O7;rw [Au6 _ oM gx.mb oM];rfl
 ·cases hw
end
end
section
section
variable {p:Int} {l:List Cp} {xs:List Nd}
theorem Als (hl:l.length<=1048576) (hc:∀ x∈l,Vl x) (hn:∀ x∈l,x.1.size<=maxLen) (hb:∀ x∈l,∀ n∈x.2.1,n.2.2.size<=maxLen) (hs:∀ n∈xs,n.2.2.size<=maxLen) (hx:xs.length<=1073741824) :
  ∃ V:Bool×Int×Int×ZA,Jh p l xs=some V/\Ju p l xs=some V/\V.2.2.2.length<=1000/\Id 1000 V.2.2.2:=by
 unfold Jh Ju;rw [Amt hl hc hn hb hx,Anu hl hc hn hb hx hs,obs,obs];cases hd:Arl p l xs
 ·exact ⟨_,rfl,rfl,Nat.zero_le _,fun x h=>by cases h⟩
 simp only [fD,fY];unfold Arl at hd;rw [fT] at hd;have ⟨h1,h2⟩:=hd;have G:=Ajj hl hc hn hb h1;simp only [fT] at h1 h2;have ⟨x,gx,ow,i1,s1⟩:=Amq G h1.2.1 h2.1 h2.2.1 h2.2.2;simp only [i1,s1,obs];have hlb:=gx.lb;have ⟨⟨_,o1⟩,_,o2⟩:=ow;dsimp only at o1 o2;exact ⟨_,rfl,rfl,(show x.2.2.length<=1000 by omega),fun y hy=>by have:=(gx.mb y hy).1;omega⟩
end
end
section
open Go.RowKit Go.Deep
set_option maxRecDepth 100000 in
set_option maxHeartbeats 60000000 in
theorem promiseOf_walk (p:Int) (l:List (ByteArray×(List ZB)×(Int×Int×ZA))) (A_l:Option Addr) (c_l:Nat) (l_l:List Addr) (tNodes:List ZB) (A_tNodes:Option Addr) (c_tNodes:Nat) (l_tNodes:List Addr) (w:World) (i_p: -9223372036854775808<=p/\p<=9223372036854775807) (s_l:Sl (fun _=>True) w (.pair .str (.pair (.slice (.pair .int (.pair .int .str))) (.pair .int (.pair .int (.slice (.slice .int)))))) A_l c_l l l_l) (i_l:Ty.In (.slice (.pair .str (.pair (.slice (.pair .int (.pair .int .str))) (.pair .int (.pair .int (.slice (.slice .int))))))) l) (s_tNodes:Sl (fun _=>True) w (.pair .int (.pair .int .str)) A_tNodes c_tNodes tNodes l_tNodes) (i_tNodes:Ty.In (.slice (.pair .int (.pair .int .str))) tNodes) (tab:Tab w) :
  Calls Tryz.prog 3 #[.int .i64 p,.slice A_l l.length c_l,.agg #[.slice A_tNodes tNodes.length c_tNodes]] w fun e w'=>e=.returned (.bool true)/\Below w.heap.size w w':=by
 obtain ⟨y0,hy0,e0|⟨p0,q0,hn_l,hok_l⟩⟩:=Av7 l (v:=1048576) oM (P7 s_l).2<|Avq s_l i_l
 ·skip
  go_enter Tryz.func3,Tryz.ntmps3
  go_wp2_with fail
  (refine (Ms l A_l c_l l_l hy0 _ (Bd s_l bw)<|tab.below bw).mono ?_;rintro e w1 ⟨rfl,hb_w1⟩;have ⟨hc_w1,hf_w1⟩:=G8 hb_w1;have hz_w1:=hb_w1.size;(try simp at hz_w1);have hl_w1_0:w.heap.size<w1.heap.size:=oM);go_wp2_with fail
  go_ret
  exact ⟨rfl,bw⟩
 obtain ⟨y1,hy1,e1|⟨p1,q1,hn_t⟩⟩:=Atc tNodes (v:=y0) oM (P7 s_tNodes).2 fun n hn=>Nat.le_trans (i_tNodes n hn).2.2 (by decide)
 ·skip
  go_enter Tryz.func3,Tryz.ntmps3
  go_wp2_with fail
  (refine (Ms l A_l c_l l_l hy0 _ (Bd s_l bw)<|tab.below bw).mono ?_;rintro e w1 ⟨rfl,hb_w1⟩;have ⟨hc_w1,hf_w1⟩:=G8 hb_w1;have hz_w1:=hb_w1.size;(try simp at hz_w1);have hl_w1_0:w.heap.size<w1.heap.size:=oM);go_wp2_with fail
  (refine (Afi tNodes A_tNodes c_tNodes l_tNodes hy1 _ (Bd s_tNodes bw)<|tab.below bw).mono ?_;rintro e w2 ⟨rfl,hb_w2⟩;have ⟨hc_w2,hf_w2⟩:=G8 hb_w2;have hz_w2:=hb_w2.size;(try simp at hz_w2);have hl_w2_0:w.heap.size<w2.heap.size:=oM);go_wp2_with fail
  go_ret
  exact ⟨rfl,bw⟩
 have ⟨V,hSp,hIm,hv1,hv2⟩:=Als (p:=p) hn_l hok_l (fun x hx=>(i_l x hx).1) (fun x hx n hn=>((i_l x hx).2.1 n hn).2.2) (fun n hn=>(i_tNodes n hn).2.2) (show tNodes.length<=1073741824 by omega)
 go_enter Tryz.func3,Tryz.ntmps3
 go_wp2_with fail
 (refine (Ms l A_l c_l l_l hy0 _ (Bd s_l bw)<|tab.below bw).mono ?_;rintro e w1 ⟨rfl,hb_w1⟩;have ⟨hc_w1,hf_w1⟩:=G8 hb_w1;have hz_w1:=hb_w1.size;(try simp at hz_w1);have hl_w1_0:w.heap.size<w1.heap.size:=oM);go_wp2_with fail
 (refine (Afi tNodes A_tNodes c_tNodes l_tNodes hy1 _ (Bd s_tNodes bw)<|tab.below bw).mono ?_;rintro e w2 ⟨rfl,hb_w2⟩;have ⟨hc_w2,hf_w2⟩:=G8 hb_w2;have hz_w2:=hb_w2.size;(try simp at hz_w2);have hl_w2_0:w.heap.size<w2.heap.size:=oM);go_wp2_with fail
 go_cut [8,9] fun s8 s9 wx=>∃ (gb5:Nat) (B5_0_2:Option Addr) (d5_0_2:Nat) (m5_0_2:List Addr),s8=.pointer (some ⟨gb5,0,none⟩)/\s9=.bool V.1/\Below w2.heap.size w2 wx/\w2.heap.size<=gb5/\gb5<wx.heap.size/\wx.cell? ⟨gb5,0,none⟩=some (.int .i64 V.2.1)/\wx.cell? ⟨gb5,1,none⟩=some (.int .i64 V.2.2.1)/\wx.cell? ⟨gb5,2,none⟩=some (.slice B5_0_2 V.2.2.2.length d5_0_2)/\Sl (Lp w2.heap.size) wx (.slice .int) B5_0_2 d5_0_2 V.2.2.2 m5_0_2
 case first =>
  have kf_w2:Below w.heap.size w w2:=bw;have kb0_w2:Below (w.alloc<|.cells #[.slice A_tNodes tNodes.length c_tNodes] 25).heap.size (w.alloc<|.cells #[.slice A_tNodes tNodes.length c_tNodes] 25) w2:=bw;have kc0_w2_0:=A6 kb0_w2 (p:=⟨w.heap.size,0,none⟩) (u:=.slice A_tNodes tNodes.length c_tNodes) fS











  go_region_held3 (fun w'=>Below w.heap.size w w'/\w'.cell? ⟨w.heap.size,0,none⟩=some (.slice A_tNodes tNodes.length c_tNodes))
   (first|((with_reducible show Below _ _ w3/\_);go_split_ands;exact ⟨Below.trans aS<|hb_w3.mono ol,(hb_w3.cell<|show w.heap.size<_ from ol).trans aS⟩)|((with_reducible show Below _ _ w4/\_);go_split_ands;exact ⟨Below.trans aS<|hb_w4.mono ol,(hb_w4.cell<|show w.heap.size<_ from ol).trans aS⟩)|((with_reducible show Below _ _ w5/\_);go_split_ands;exact ⟨Below.trans aS<|hb_w5.mono ol,(hb_w5.cell<|show w.heap.size<_ from ol).trans aS⟩)|(go_split_ands;exact ⟨Below.setCell (Below.setCell (Below.setCell aS ol _) ol _) ol _,Vc (Vc (Vc aS (show w.heap.size≠_ by exact ol)) (show w.heap.size≠_ by exact ol)) (show w.heap.size≠_ by exact ol)⟩)|(go_split_ands;exact ⟨Ade aS ol,Uw aS<|show w.heap.size<_ from ol⟩)|exact ⟨kf_w2.drew,kc0_w2_0⟩|exact ⟨R0 kf_w2 ol,Uq kc0_w2_0⟩|(go_split_ands;refine ⟨?_,?_⟩;(focus (repeat (first|assumption|((with_reducible refine Below.setCell ?_ ?_ _);rotate_left;exact fO)|((with_reducible refine Below.alloc ?_ ?_ _);rotate_left;exact fO))));all_goals go_keep))
   (first
    | (go_at_call 9;(with_reducible show Calls _ _ #[.slice A_l l.length c_l] _ _);(try go_split_ands);refine (Jf l A_l c_l l_l _ (by exact Bd s_l aS) hn_l hok_l<|tab.below aS).mono ?_;rintro e w3 ⟨g3,d3,m3,rfl,t3,f3,hb_w3⟩;have hz_w3:=hb_w3.size;(try simp at hz_w3);have ⟨hc_w3,hf_w3⟩:=G8 hb_w3;(try have hq_w3_0:w2.heap.size<w3.heap.size:=oM);have hl_w3_h0:w.heap.size<w3.heap.size:=oM)
    | (go_at_call 10;(with_reducible show Calls _ _ #[.agg #[.slice A_tNodes tNodes.length c_tNodes]] _ _);(try go_split_ands);refine (Sw tNodes A_tNodes c_tNodes l_tNodes _ (by exact Bd s_tNodes aS) hn_t<|tab.below aS).mono ?_;rintro e w4 ⟨B4_0,d4_0,m4_0,rfl,t4_0,f4,hb_w4⟩;have hz_w4:=hb_w4.size;(try simp at hz_w4);have ⟨hc_w4,hf_w4⟩:=G8 hb_w4;(try have hq_w4_0:w2.heap.size<w4.heap.size:=oM);(try have hq_w4_1:w3.heap.size<w4.heap.size:=oM);have hl_w4_h0:w.heap.size<w4.heap.size:=oM)
    | (go_at_call 8;(with_reducible show Calls _ _ #[.int .i64 p,.slice (some ⟨g3,0,none⟩) l.length d3,.agg #[.slice B4_0 tNodes.length d4_0]] _ _);(try go_split_ands);refine (Xk p l (some ⟨g3,0,none⟩) d3 m3 tNodes B4_0 d4_0 m4_0 _ (Bd t3 bw) (Bd t4_0 bw) hSp<|tab.below aS).mono ?_;rintro e w5 ⟨B5_0_2,d5_0_2,m5_0_2,rfl,t5_0_2,hb_w5⟩;have hz_w5:=hb_w5.size;(try simp at hz_w5);have ⟨hc_w5,hf_w5⟩:=G8 hb_w5;(try have hq_w5_0:w2.heap.size<w5.heap.size:=oM);(try have hq_w5_1:w3.heap.size<w5.heap.size:=oM);(try have hq_w5_2:w4.heap.size<w5.heap.size:=oM);have hl_w5_h0:w.heap.size<w5.heap.size:=oM))
  all_goals (go_wp2_with fail;go_meet;(first|exact Acr bw t5_0_2 om|exact Akh bw t5_0_2 om om om om (by first|exact ((hc_w5 _ _ om).trans<|C1 rfl)|exact ((hc_w5 _ _ om).trans<|(hc_w4 _ _ om).trans<|C1 rfl)|exact ((hc_w5 _ _ om).trans<|(hc_w4 _ _ om).trans<|(hc_w3 _ _ om).trans<|C1 rfl)) (by first|exact ((hc_w5 _ _ om).trans<|C1 rfl)|exact ((hc_w5 _ _ om).trans<|(hc_w4 _ _ om).trans<|C1 rfl)|exact ((hc_w5 _ _ om).trans<|(hc_w4 _ _ om).trans<|(hc_w3 _ _ om).trans<|C1 rfl)) (by first|exact ((hc_w5 _ _ om).trans<|C1 rfl)|exact ((hc_w5 _ _ om).trans<|(hc_w4 _ _ om).trans<|C1 rfl)|exact ((hc_w5 _ _ om).trans<|(hc_w4 _ _ om).trans<|(hc_w3 _ _ om).trans<|C1 rfl))))
 case rest =>
  obtain ⟨gb5,B5_0_2,d5_0_2,m5_0_2,rfl,rfl,hb_w5,hg_w5,hG_w5,mb5_0,mb5_1,mb5_2,t5_0_2⟩:=hcut;obtain ⟨w5,hw_w5⟩:∃ v,v=wc:=⟨_,rfl⟩
  subst hw_w5;have ⟨hc_w5,hf_w5⟩:=G8 hb_w5;have hz_w5:=hb_w5.size;have hl_w5_0:w.heap.size<w5.heap.size:=oM;have hl_w5_1:gb5<w5.heap.size:=oM
  go_wp2_with fail
  (refine (Jf l A_l c_l l_l _ (Bd s_l bw) hn_l hok_l<|tab.below bw).mono ?_;rintro e w6 ⟨g6,d6,m6,rfl,t6,f6,hb_w6⟩;have ⟨hc_w6,hf_w6⟩:=G8 hb_w6;have hz_w6:=hb_w6.size;(try simp at hz_w6);have hl_w6_0:w.heap.size<w6.heap.size:=oM;have hl_w6_1:gb5<w6.heap.size:=oM);go_wp2_with fail
  (refine (Sw tNodes A_tNodes c_tNodes l_tNodes _ (Bd s_tNodes bw) hn_t<|tab.below bw).mono ?_;rintro e w7 ⟨B7_0,d7_0,m7_0,rfl,t7_0,f7,hb_w7⟩;have ⟨hc_w7,hf_w7⟩:=G8 hb_w7;have hz_w7:=hb_w7.size;(try simp at hz_w7);have hl_w7_0:w.heap.size<w7.heap.size:=oM;have hl_w7_1:gb5<w7.heap.size:=oM);go_wp2_with fail
  (refine (Qo p l (some ⟨g6,0,none⟩) d6 m6 tNodes B7_0 d7_0 m7_0 _ (Bd t6 bw) (Bd t7_0 bw) hIm<|tab.below bw).mono ?_;rintro e w8 ⟨B8_0_2,d8_0_2,m8_0_2,rfl,t8_0_2,f8,hb_w8⟩;have ⟨hc_w8,hf_w8⟩:=G8 hb_w8;have hz_w8:=hb_w8.size;(try simp at hz_w8);have hl_w8_0:w.heap.size<w8.heap.size:=oM;have hl_w8_1:gb5<w8.heap.size:=oM;have hl_w8_2:w7.heap.size<w8.heap.size:=oM);go_wp2_with fail
  (refine (Of V.2.1 V.2.2.1 V.2.2.2 B8_0_2 d8_0_2 m8_0_2 B5_0_2 d5_0_2 m5_0_2 _ (Bd t8_0_2 bw) (Bd t5_0_2 bw) hv1 hv2<|tab.below bw).mono ?_;rintro e w9 ⟨rfl,hb_w9⟩;have ⟨hc_w9,hf_w9⟩:=G8 hb_w9;have hz_w9:=hb_w9.size;(try simp at hz_w9);have hl_w9_0:w.heap.size<w9.heap.size:=oM;have hl_w9_1:gb5<w9.heap.size:=oM;have hl_w9_2:w7.heap.size<w9.heap.size:=oM;have hl_w9_3:w8.heap.size<w9.heap.size:=oM);go_wp2_with fail
  (refine (Jf l A_l c_l l_l _ (Bd s_l bw) hn_l hok_l<|tab.below bw).mono ?_;rintro e w10 ⟨g10,d10,m10,rfl,t10,f10,hb_w10⟩;have ⟨hc_w10,hf_w10⟩:=G8 hb_w10;have hz_w10:=hb_w10.size;(try simp at hz_w10);have hl_w10_0:w.heap.size<w10.heap.size:=oM;have hl_w10_1:gb5<w10.heap.size:=oM;have hl_w10_2:w7.heap.size<w10.heap.size:=oM;have hl_w10_3:w8.heap.size<w10.heap.size:=oM);go_wp2_with fail
  (refine (Xm l (some ⟨g6,0,none⟩) d6 m6 (some ⟨g10,0,none⟩) d10 m10 _ (Bd t6 bw) (Bd t10 bw) hn_l hok_l<|tab.below bw).mono ?_;rintro e w11 ⟨rfl,hb_w11⟩;have ⟨hc_w11,hf_w11⟩:=G8 hb_w11;have hz_w11:=hb_w11.size;(try simp at hz_w11);have hl_w11_0:w.heap.size<w11.heap.size:=oM;have hl_w11_1:gb5<w11.heap.size:=oM;have hl_w11_2:w7.heap.size<w11.heap.size:=oM;have hl_w11_3:w8.heap.size<w11.heap.size:=oM);go_wp2_with fail
  have bA12:Below w.heap.size w w11:=bw;have bX12:Below w7.heap.size w7 w11:=bw;have bT12:Tab w11:=(tab.below bw)
  have bB12_0:Below (w.alloc<|.cells #[.slice A_tNodes tNodes.length c_tNodes] 25).heap.size (w.alloc<|.cells #[.slice A_tNodes tNodes.length c_tNodes] 25) w11:=bw;have k12_0_0:=A6 bB12_0 (p:=⟨w.heap.size,0,none⟩) (u:=.slice A_tNodes tNodes.length c_tNodes) fS;have bB12_1:Below (w7.alloc<|.cells #[.slice B7_0 tNodes.length d7_0] 37).heap.size (w7.alloc<|.cells #[.slice B7_0 tNodes.length d7_0] 37) w11:=bw;have k12_1_0:=A6 bB12_1 (p:=⟨w7.heap.size,0,none⟩) (u:=.slice B7_0 tNodes.length d7_0) fS
  go_region_held3 (fun w'=>Below w11.heap.size w11 w'/\w'.cell? ⟨w.heap.size,0,none⟩=some (.slice A_tNodes tNodes.length c_tNodes)/\w'.cell? ⟨w7.heap.size,0,none⟩=some (.slice B7_0 tNodes.length d7_0))
   (first|(go_split_ands;exact ⟨Below.trans aS<|hb_w12.mono<|Below.size aS,A6 hb_w12 aS,A6 hb_w12 aS⟩)|(go_split_ands;exact ⟨Below.trans aS<|hb_w13.mono<|Below.size aS,A6 hb_w13 aS,A6 hb_w13 aS⟩)|exact ⟨(Below.refl _ _).drew,k12_0_0,k12_1_0⟩|go_keep)
   (first
    | (go_at_call 10;(try go_split_ands);refine (Sw tNodes A_tNodes c_tNodes l_tNodes _ (by exact Bd s_tNodes (bA12.trans<|Below.mono aS bA12.size)) hn_t<|bT12.below aS).mono ?_;rintro e w12 ⟨B12_0,d12_0,m12_0,rfl,t12_0,_,hb_w12⟩)
    | (go_at_call 14;(try go_split_ands);refine (Ajx tNodes B7_0 d7_0 m7_0 B12_0 d12_0 m12_0 _ (by exact Bd t7_0 (bX12.trans<|Below.mono aS bX12.size)) t12_0 hn_t<|bT12.below aS).mono ?_;rintro e w13 ⟨rfl,hb_w13⟩))
  have hsz_w12:=Nat.le_trans bA12.size hb_w12.size;have hsy_w13:=Nat.le_trans hsz_w12 hb_w13.size;have ⟨hc_w12,hf_w12⟩:=G8 hb_w12;have hz_w12:w11.heap.size<=w12.heap.size:=hb_w12.size;have hl_w12_0:w.heap.size<w12.heap.size:=oM;have hl_w12_1:gb5<w12.heap.size:=oM;have hl_w12_2:w7.heap.size<w12.heap.size:=oM;have hl_w12_3:w8.heap.size<w12.heap.size:=oM;have ⟨hc_w13,hf_w13⟩:=G8 hb_w13;have hz_w13:w12.heap.size<=w13.heap.size:=hb_w13.size;have hl_w13_0:w.heap.size<w13.heap.size:=oM;have hl_w13_1:gb5<w13.heap.size:=oM;have hl_w13_2:w7.heap.size<w13.heap.size:=oM;have hl_w13_3:w8.heap.size<w13.heap.size:=oM
  go_wp2_with fail
  have F14:Fresh w13 _ _:=Fresh.below f6 bw;have hl14_t6:=Aw5 t6 hn_l hok_l;have cb14_1:=(show Below (w.alloc<|.cells #[.slice A_tNodes tNodes.length c_tNodes] 25).heap.size (w.alloc<|.cells #[.slice A_tNodes tNodes.length c_tNodes] 25) w13 from bw)
  have cb14_1_0:=A6 cb14_1 (p:=⟨w.heap.size,0,none⟩) (u:=.slice A_tNodes tNodes.length c_tNodes) fS;have cb14_4:=(show Below (w5).heap.size (w5) w13 from bw)
  have cb14_4_0:=A6 cb14_4 (p:=⟨gb5,0,none⟩) (u:=.int .i64 V.2.1) mb5_0;have cb14_4_1:=A6 cb14_4 (p:=⟨gb5,1,none⟩) (u:=.int .i64 V.2.2.1) mb5_1;have cb14_4_2:=A6 cb14_4 (p:=⟨gb5,2,none⟩) (u:=.slice B5_0_2 V.2.2.2.length d5_0_2) mb5_2;have cb14_6:=(show Below (w7.alloc<|.cells #[.slice B7_0 tNodes.length d7_0] 37).heap.size (w7.alloc<|.cells #[.slice B7_0 tNodes.length d7_0] 37) w13 from bw)
  have cb14_6_0:=A6 cb14_6 (p:=⟨w7.heap.size,0,none⟩) (u:=.slice B7_0 tNodes.length d7_0) fS;have cb14_7:=(show Below (w8.alloc<|.cells #[.int .i64 V.2.1,.int .i64 V.2.2.1,.slice B8_0_2 V.2.2.2.length d8_0_2] 30).heap.size (w8.alloc<|.cells #[.int .i64 V.2.1,.int .i64 V.2.2.1,.slice B8_0_2 V.2.2.2.length d8_0_2] 30) w13 from bw)
  have cb14_7_0:=A6 cb14_7 (p:=⟨w8.heap.size,0,none⟩) (u:=.int .i64 V.2.1) fS;have cb14_7_1:=A6 cb14_7 (p:=⟨w8.heap.size,1,none⟩) (u:=.int .i64 V.2.2.1) fS;have cb14_7_2:=A6 cb14_7 (p:=⟨w8.heap.size,2,none⟩) (u:=.slice B8_0_2 V.2.2.2.length d8_0_2) fS;refine (Wc l (some ⟨g6,0,none⟩) d6 m6 (1) _ _ (Bd t6 bw) F14 oM tab bw om).mono ?_;rintro e w14 ⟨rfl,mk14⟩;have hb_w14:=mk14.belowAt (fun p hp=>(F14.2 p hp).1) om;have hz_w14:w13.heap.size<=w14.heap.size:=mk14.size;have hl_w14_0:w.heap.size<w14.heap.size:=oM;have hl_w14_1:gb5<w14.heap.size:=oM;have hl_w14_2:w7.heap.size<w14.heap.size:=oM;have hl_w14_3:w8.heap.size<w14.heap.size:=oM;have mb14_1_0:w14.cell? ⟨w.heap.size,0,none⟩=some (.slice A_tNodes tNodes.length c_tNodes):=(mk14.frame.cell _ (show w.heap.size<_ by omega) fun hp=>by have h1:_<=w.heap.size:=(f6.2 _ hp).1;have h2:w.heap.size<_:=(f6.2 _ hp).2.1;(try simp at h1);omega).trans cb14_1_0;have mb14_4_0:w14.cell? ⟨gb5,0,none⟩=some (.int .i64 V.2.1):=(mk14.frame.cell _ (show gb5<_ by omega) fun hp=>by have h1:_<=gb5:=(f6.2 _ hp).1;have h2:gb5<_:=(f6.2 _ hp).2.1;(try simp at h1);omega).trans cb14_4_0;have mb14_4_1:w14.cell? ⟨gb5,1,none⟩=some (.int .i64 V.2.2.1):=(mk14.frame.cell _ (show gb5<_ by omega) fun hp=>by have h1:_<=gb5:=(f6.2 _ hp).1;have h2:gb5<_:=(f6.2 _ hp).2.1;(try simp at h1);omega).trans cb14_4_1;have mb14_4_2:w14.cell? ⟨gb5,2,none⟩=some (.slice B5_0_2 V.2.2.2.length d5_0_2):=(mk14.frame.cell _ (show gb5<_ by omega) fun hp=>by have h1:_<=gb5:=(f6.2 _ hp).1;have h2:gb5<_:=(f6.2 _ hp).2.1;(try simp at h1);omega).trans cb14_4_2;have mb14_6_0:w14.cell? ⟨w7.heap.size,0,none⟩=some (.slice B7_0 tNodes.length d7_0):=(mk14.frame.cell _ (show w7.heap.size<_ by omega) fun hp=>by have h1:_<=w7.heap.size:=(f6.2 _ hp).1;have h2:w7.heap.size<_:=(f6.2 _ hp).2.1;(try simp at h1);omega).trans cb14_6_0;have mb14_7_0:w14.cell? ⟨w8.heap.size,0,none⟩=some (.int .i64 V.2.1):=(mk14.frame.cell _ (show w8.heap.size<_ by omega) fun hp=>by have h1:_<=w8.heap.size:=(f6.2 _ hp).1;have h2:w8.heap.size<_:=(f6.2 _ hp).2.1;(try simp at h1);omega).trans cb14_7_0;have mb14_7_1:w14.cell? ⟨w8.heap.size,1,none⟩=some (.int .i64 V.2.2.1):=(mk14.frame.cell _ (show w8.heap.size<_ by omega) fun hp=>by have h1:_<=w8.heap.size:=(f6.2 _ hp).1;have h2:w8.heap.size<_:=(f6.2 _ hp).2.1;(try simp at h1);omega).trans cb14_7_1;have mb14_7_2:w14.cell? ⟨w8.heap.size,2,none⟩=some (.slice B8_0_2 V.2.2.2.length d8_0_2):=(mk14.frame.cell _ (show w8.heap.size<_ by omega) fun hp=>by have h1:_<=w8.heap.size:=(f6.2 _ hp).1;have h2:w8.heap.size<_:=(f6.2 _ hp).2.1;(try simp at h1);omega).trans cb14_7_2;have t7_0m14:=Pj (Bd t7_0 bw) (mk14.aboveAt fun p hp=>by have h2:=(f6.2 p hp).2.1;first|omega|(simp;omega)) fun _ h=>h;have f7m14:=Fresh.above (Fresh.below f7 bw) (mk14.aboveAt fun p hp=>by have h2:=(f6.2 p hp).2.1;first|omega|(simp;omega));have t8_0_2m14:=Pj (Bd t8_0_2 bw) (mk14.aboveAt fun p hp=>by have h2:=(f6.2 p hp).2.1;first|omega|(simp;omega)) fun _ h=>h;have f8m14:=Fresh.above (Fresh.below f8 bw) (mk14.aboveAt fun p hp=>by have h2:=(f6.2 p hp).2.1;first|omega|(simp;omega));have t10m14:=Pj (Bd t10 bw) (mk14.aboveAt fun p hp=>by have h2:=(f6.2 p hp).2.1;first|omega|(simp;omega)) fun _ h=>h;have f10m14:=Fresh.above (Fresh.below f10 bw)<|mk14.aboveAt fun p hp=>by have h2:=(f6.2 p hp).2.1;first|omega|(simp;omega)
  go_wp2_with fail
  have F15:Fresh w14 _ _:=Fresh.below f7m14 bw;have hl15_t7_0m14:=Av2 t7_0m14 hn_t;have cb15_1:=(show Below (w14).heap.size (w14) w14 from bw)
  have cb15_1_0:=A6 cb15_1 (p:=⟨w.heap.size,0,none⟩) (u:=.slice A_tNodes tNodes.length c_tNodes) mb14_1_0;have cb15_4:=(show Below (w14).heap.size (w14) w14 from bw)
  have cb15_4_0:=A6 cb15_4 (p:=⟨gb5,0,none⟩) (u:=.int .i64 V.2.1) mb14_4_0;have cb15_4_1:=A6 cb15_4 (p:=⟨gb5,1,none⟩) (u:=.int .i64 V.2.2.1) mb14_4_1;have cb15_4_2:=A6 cb15_4 (p:=⟨gb5,2,none⟩) (u:=.slice B5_0_2 V.2.2.2.length d5_0_2) mb14_4_2;have cb15_6:=(show Below (w14).heap.size (w14) w14 from bw)
  have cb15_6_0:=A6 cb15_6 (p:=⟨w7.heap.size,0,none⟩) (u:=.slice B7_0 tNodes.length d7_0) mb14_6_0;have cb15_7:=(show Below (w14).heap.size (w14) w14 from bw)
  have cb15_7_0:=A6 cb15_7 (p:=⟨w8.heap.size,0,none⟩) (u:=.int .i64 V.2.1) mb14_7_0;have cb15_7_1:=A6 cb15_7 (p:=⟨w8.heap.size,1,none⟩) (u:=.int .i64 V.2.2.1) mb14_7_1;have cb15_7_2:=A6 cb15_7 (p:=⟨w8.heap.size,2,none⟩) (u:=.slice B8_0_2 V.2.2.2.length d8_0_2) mb14_7_2;refine (Ajg tNodes B7_0 d7_0 m7_0 ((1)+((m6).length:Int)) _ _ (Bd t7_0m14 bw) F15 oM tab bw om).mono ?_;rintro e w15 ⟨rfl,mk15⟩;have hb_w15:=mk15.belowAt (fun p hp=>(F15.2 p hp).1) om;have hz_w15:w14.heap.size<=w15.heap.size:=mk15.size;have hl_w15_0:w.heap.size<w15.heap.size:=oM;have hl_w15_1:gb5<w15.heap.size:=oM;have hl_w15_2:w7.heap.size<w15.heap.size:=oM;have hl_w15_3:w8.heap.size<w15.heap.size:=oM;have mb15_1_0:w15.cell? ⟨w.heap.size,0,none⟩=some (.slice A_tNodes tNodes.length c_tNodes):=(mk15.frame.cell _ (show w.heap.size<_ by omega) fun hp=>by have h1:_<=w.heap.size:=(f7.2 _ hp).1;have h2:w.heap.size<_:=(f7.2 _ hp).2.1;(try simp at h1);omega).trans cb15_1_0;have mb15_4_0:w15.cell? ⟨gb5,0,none⟩=some (.int .i64 V.2.1):=(mk15.frame.cell _ (show gb5<_ by omega) fun hp=>by have h1:_<=gb5:=(f7.2 _ hp).1;have h2:gb5<_:=(f7.2 _ hp).2.1;(try simp at h1);omega).trans cb15_4_0;have mb15_4_1:w15.cell? ⟨gb5,1,none⟩=some (.int .i64 V.2.2.1):=(mk15.frame.cell _ (show gb5<_ by omega) fun hp=>by have h1:_<=gb5:=(f7.2 _ hp).1;have h2:gb5<_:=(f7.2 _ hp).2.1;(try simp at h1);omega).trans cb15_4_1;have mb15_4_2:w15.cell? ⟨gb5,2,none⟩=some (.slice B5_0_2 V.2.2.2.length d5_0_2):=(mk15.frame.cell _ (show gb5<_ by omega) fun hp=>by have h1:_<=gb5:=(f7.2 _ hp).1;have h2:gb5<_:=(f7.2 _ hp).2.1;(try simp at h1);omega).trans cb15_4_2;have mb15_6_0:w15.cell? ⟨w7.heap.size,0,none⟩=some (.slice B7_0 tNodes.length d7_0):=(mk15.frame.cell _ (show w7.heap.size<_ by omega) fun hp=>by have h1:_<=w7.heap.size:=(f7.2 _ hp).1;have h2:w7.heap.size<_:=(f7.2 _ hp).2.1;(try simp at h1);omega).trans cb15_6_0;have mb15_7_0:w15.cell? ⟨w8.heap.size,0,none⟩=some (.int .i64 V.2.1):=(mk15.frame.cell _ (show w8.heap.size<_ by omega) fun hp=>by have h1:_<=w8.heap.size:=(f7.2 _ hp).1;have h2:w8.heap.size<_:=(f7.2 _ hp).2.1;(try simp at h1);omega).trans cb15_7_0;have mb15_7_1:w15.cell? ⟨w8.heap.size,1,none⟩=some (.int .i64 V.2.2.1):=(mk15.frame.cell _ (show w8.heap.size<_ by omega) fun hp=>by have h1:_<=w8.heap.size:=(f7.2 _ hp).1;have h2:w8.heap.size<_:=(f7.2 _ hp).2.1;(try simp at h1);omega).trans cb15_7_1;have mb15_7_2:w15.cell? ⟨w8.heap.size,2,none⟩=some (.slice B8_0_2 V.2.2.2.length d8_0_2):=(mk15.frame.cell _ (show w8.heap.size<_ by omega) fun hp=>by have h1:_<=w8.heap.size:=(f7.2 _ hp).1;have h2:w8.heap.size<_:=(f7.2 _ hp).2.1;(try simp at h1);omega).trans cb15_7_2;have t8_0_2m14m15:=Pj (Bd t8_0_2m14 bw) (mk15.aboveAt fun p hp=>by have h2:=(f7.2 p hp).2.1;first|omega|(simp;omega)) fun _ h=>h;have f8m14m15:=Fresh.above (Fresh.below f8m14 bw) (mk15.aboveAt fun p hp=>by have h2:=(f7.2 p hp).2.1;first|omega|(simp;omega));have t10m14m15:=Pj (Bd t10m14 bw) (mk15.aboveAt fun p hp=>by have h2:=(f7.2 p hp).2.1;first|omega|(simp;omega)) fun _ h=>h;have f10m14m15:=Fresh.above (Fresh.below f10m14 bw)<|mk15.aboveAt fun p hp=>by have h2:=(f7.2 p hp).2.1;first|omega|(simp;omega)
  go_wp2_with fail
  (refine (Of V.2.1 V.2.2.1 V.2.2.2 B8_0_2 d8_0_2 m8_0_2 B5_0_2 d5_0_2 m5_0_2 _ (Bd t8_0_2m14m15 bw) (Bd t5_0_2 bw) hv1 hv2<|tab.below bw).mono ?_;rintro e w16 ⟨rfl,hb_w16⟩;have ⟨hc_w16,hf_w16⟩:=G8 hb_w16;have hz_w16:=hb_w16.size;(try simp at hz_w16);have hl_w16_0:w.heap.size<w16.heap.size:=oM;have hl_w16_1:gb5<w16.heap.size:=oM;have hl_w16_2:w7.heap.size<w16.heap.size:=oM;have hl_w16_3:w8.heap.size<w16.heap.size:=oM);go_wp2_with fail
  have F17:Fresh w16 _ _:=Fresh.below f8m14m15 bw;have hl17_t8_0_2m14m15:=Avg t8_0_2m14m15 hv1 hv2;have cb17_1:=(show Below (w15).heap.size (w15) w16 from bw)
  have cb17_1_0:=A6 cb17_1 (p:=⟨w.heap.size,0,none⟩) (u:=.slice A_tNodes tNodes.length c_tNodes) mb15_1_0;have cb17_4:=(show Below (w15).heap.size (w15) w16 from bw)
  have cb17_4_0:=A6 cb17_4 (p:=⟨gb5,0,none⟩) (u:=.int .i64 V.2.1) mb15_4_0;have cb17_4_1:=A6 cb17_4 (p:=⟨gb5,1,none⟩) (u:=.int .i64 V.2.2.1) mb15_4_1;have cb17_4_2:=A6 cb17_4 (p:=⟨gb5,2,none⟩) (u:=.slice B5_0_2 V.2.2.2.length d5_0_2) mb15_4_2;have cb17_7:=(show Below (w15).heap.size (w15) w16 from bw)
  have cb17_7_0:=A6 cb17_7 (p:=⟨w8.heap.size,0,none⟩) (u:=.int .i64 V.2.1) mb15_7_0;have cb17_7_1:=A6 cb17_7 (p:=⟨w8.heap.size,1,none⟩) (u:=.int .i64 V.2.2.1) mb15_7_1;have cb17_7_2:=A6 cb17_7 (p:=⟨w8.heap.size,2,none⟩) (u:=.slice B8_0_2 V.2.2.2.length d8_0_2) mb15_7_2;refine (Zy V.2.1 V.2.2.1 V.2.2.2 B8_0_2 d8_0_2 m8_0_2 (1) _ _ (Bd t8_0_2m14m15 bw) F17 oM).mono ?_;rintro e w17 ⟨rfl,mk17⟩;have hb_w17:=mk17.belowAt (fun p hp=>(F17.2 p hp).1) om;have hz_w17:w16.heap.size<=w17.heap.size:=mk17.size;have hl_w17_0:w.heap.size<w17.heap.size:=oM;have hl_w17_1:gb5<w17.heap.size:=oM;have hl_w17_2:w7.heap.size<w17.heap.size:=oM;have hl_w17_3:w8.heap.size<w17.heap.size:=oM;have mb17_1_0:w17.cell? ⟨w.heap.size,0,none⟩=some (.slice A_tNodes tNodes.length c_tNodes):=(mk17.frame.cell _ (show w.heap.size<_ by omega) fun hp=>by have h1:_<=w.heap.size:=(f8.2 _ hp).1;have h2:w.heap.size<_:=(f8.2 _ hp).2.1;(try simp at h1);omega).trans cb17_1_0;have mb17_4_0:w17.cell? ⟨gb5,0,none⟩=some (.int .i64 V.2.1):=(mk17.frame.cell _ (show gb5<_ by omega) fun hp=>by have h1:_<=gb5:=(f8.2 _ hp).1;have h2:gb5<_:=(f8.2 _ hp).2.1;(try simp at h1);omega).trans cb17_4_0;have mb17_4_1:w17.cell? ⟨gb5,1,none⟩=some (.int .i64 V.2.2.1):=(mk17.frame.cell _ (show gb5<_ by omega) fun hp=>by have h1:_<=gb5:=(f8.2 _ hp).1;have h2:gb5<_:=(f8.2 _ hp).2.1;(try simp at h1);omega).trans cb17_4_1;have mb17_4_2:w17.cell? ⟨gb5,2,none⟩=some (.slice B5_0_2 V.2.2.2.length d5_0_2):=(mk17.frame.cell _ (show gb5<_ by omega) fun hp=>by have h1:_<=gb5:=(f8.2 _ hp).1;have h2:gb5<_:=(f8.2 _ hp).2.1;(try simp at h1);omega).trans cb17_4_2;have mb17_7_0:w17.cell? ⟨w8.heap.size,0,none⟩=some (.int .i64 V.2.1):=(mk17.frame.cell _ (show w8.heap.size<_ by omega) fun hp=>by have h1:_<=w8.heap.size:=(f8.2 _ hp).1;have h2:w8.heap.size<_:=(f8.2 _ hp).2.1;(try simp at h1);omega).trans cb17_7_0;have mb17_7_1:w17.cell? ⟨w8.heap.size,1,none⟩=some (.int .i64 V.2.2.1):=(mk17.frame.cell _ (show w8.heap.size<_ by omega) fun hp=>by have h1:_<=w8.heap.size:=(f8.2 _ hp).1;have h2:w8.heap.size<_:=(f8.2 _ hp).2.1;(try simp at h1);omega).trans cb17_7_1;have mb17_7_2:w17.cell? ⟨w8.heap.size,2,none⟩=some (.slice B8_0_2 V.2.2.2.length d8_0_2):=(mk17.frame.cell _ (show w8.heap.size<_ by omega) fun hp=>by have h1:_<=w8.heap.size:=(f8.2 _ hp).1;have h2:w8.heap.size<_:=(f8.2 _ hp).2.1;(try simp at h1);omega).trans cb17_7_2;have t10m14m15m17:=Pj (Bd t10m14m15 bw) (mk17.aboveAt fun p hp=>by have h2:=(f8.2 p hp).2.1;first|omega|(simp;omega)) fun _ h=>h;have f10m14m15m17:=Fresh.above (Fresh.below f10m14m15 bw) (mk17.aboveAt fun p hp=>by have h2:=(f8.2 p hp).2.1;first|omega|(simp;omega));have ⟨ys17_2,hy17_2,sy17_2⟩:=mk17.sl<|Bd t8_0_2m14m15 bw;have hh17:=mk17.held
  go_wp2_with fail
  (refine (Ada (by rw [hy17_2])<|R5 V.2.1 V.2.2.1 ys17_2 B8_0_2 d8_0_2 m8_0_2 (1) _ (Bd sy17_2 bw) (HeldAs.below hh17 bw) oM).mono ?_;rintro e w18 ⟨rfl,hb_w18⟩;have ⟨hc_w18,hf_w18⟩:=G8 hb_w18;have hz_w18:=hb_w18.size;(try simp at hz_w18);have hl_w18_0:w.heap.size<w18.heap.size:=oM;have hl_w18_1:gb5<w18.heap.size:=oM;have hl_w18_2:w7.heap.size<w18.heap.size:=oM;have hl_w18_3:w8.heap.size<w18.heap.size:=oM);go_wp2_with fail
  go_cut [17,18] fun s17 s18 wx=>∃ (gb21:Nat) (B21_0_2:Option Addr) (d21_0_2:Nat) (m21_0_2:List Addr),s17=.pointer (some ⟨gb21,0,none⟩)/\s18=.bool V.1/\Below w18.heap.size w18 wx/\w18.heap.size<=gb21/\gb21<wx.heap.size/\wx.cell? ⟨gb21,0,none⟩=some (.int .i64 V.2.1)/\wx.cell? ⟨gb21,1,none⟩=some (.int .i64 V.2.2.1)/\wx.cell? ⟨gb21,2,none⟩=some (.slice B21_0_2 V.2.2.2.length d21_0_2)/\Sl (Lp w18.heap.size) wx (.slice .int) B21_0_2 d21_0_2 V.2.2.2 m21_0_2
  case first =>
   have kf_w18:Below w.heap.size w w18:=bw;have kb0_w18:Below (w17).heap.size (w17) w18:=bw;have kc0_w18_0:=A6 kb0_w18 (p:=⟨w.heap.size,0,none⟩) (u:=.slice A_tNodes tNodes.length c_tNodes) mb17_1_0























































































































































































































   go_region_held3 (fun w'=>Below w.heap.size w w'/\w'.cell? ⟨w.heap.size,0,none⟩=some (.slice A_tNodes tNodes.length c_tNodes))
    (first|((with_reducible show Below _ _ w19/\_);go_split_ands;exact ⟨Below.trans aS<|hb_w19.mono ol,(hb_w19.cell<|show w.heap.size<_ from ol).trans aS⟩)|((with_reducible show Below _ _ w20/\_);go_split_ands;exact ⟨Below.trans aS<|hb_w20.mono ol,(hb_w20.cell<|show w.heap.size<_ from ol).trans aS⟩)|((with_reducible show Below _ _ w21/\_);go_split_ands;exact ⟨Below.trans aS<|hb_w21.mono ol,(hb_w21.cell<|show w.heap.size<_ from ol).trans aS⟩)|(go_split_ands;exact ⟨Below.setCell (Below.setCell (Below.setCell aS ol _) ol _) ol _,Vc (Vc (Vc aS (show w.heap.size≠_ by exact ol)) (show w.heap.size≠_ by exact ol)) (show w.heap.size≠_ by exact ol)⟩)|(go_split_ands;exact ⟨Ade aS ol,Uw aS<|show w.heap.size<_ from ol⟩)|exact ⟨kf_w18.drew,kc0_w18_0⟩|exact ⟨R0 kf_w18 ol,Uq kc0_w18_0⟩|(go_split_ands;refine ⟨?_,?_⟩;(focus (repeat (first|assumption|((with_reducible refine Below.setCell ?_ ?_ _);rotate_left;exact fO)|((with_reducible refine Below.alloc ?_ ?_ _);rotate_left;exact fO))));all_goals go_keep))
    (first
     | (go_at_call 9;(with_reducible show Calls _ _ #[.slice A_l l.length c_l] _ _);(try go_split_ands);refine (Jf l A_l c_l l_l _ (by exact Bd s_l aS) hn_l hok_l<|tab.below aS).mono ?_;rintro e w19 ⟨g19,d19,m19,rfl,t19,f19,hb_w19⟩;have hz_w19:=hb_w19.size;(try simp at hz_w19);have ⟨hc_w19,hf_w19⟩:=G8 hb_w19;(try have hq_w19_0:w18.heap.size<w19.heap.size:=oM);have hl_w19_h0:w.heap.size<w19.heap.size:=oM)
     | (go_at_call 10;(with_reducible show Calls _ _ #[.agg #[.slice A_tNodes tNodes.length c_tNodes]] _ _);(try go_split_ands);refine (Sw tNodes A_tNodes c_tNodes l_tNodes _ (by exact Bd s_tNodes aS) hn_t<|tab.below aS).mono ?_;rintro e w20 ⟨B20_0,d20_0,m20_0,rfl,t20_0,f20,hb_w20⟩;have hz_w20:=hb_w20.size;(try simp at hz_w20);have ⟨hc_w20,hf_w20⟩:=G8 hb_w20;(try have hq_w20_0:w18.heap.size<w20.heap.size:=oM);(try have hq_w20_1:w19.heap.size<w20.heap.size:=oM);have hl_w20_h0:w.heap.size<w20.heap.size:=oM)
     | (go_at_call 11;(with_reducible show Calls _ _ #[.int .i64 p,.slice (some ⟨g19,0,none⟩) l.length d19,.agg #[.slice B20_0 tNodes.length d20_0]] _ _);(try go_split_ands);refine (Qo p l (some ⟨g19,0,none⟩) d19 m19 tNodes B20_0 d20_0 m20_0 _ (Bd t19 bw) (Bd t20_0 bw) hIm<|tab.below aS).mono ?_;rintro e w21 ⟨B21_0_2,d21_0_2,m21_0_2,rfl,t21_0_2,f21,hb_w21⟩;have hz_w21:=hb_w21.size;(try simp at hz_w21);have ⟨hc_w21,hf_w21⟩:=G8 hb_w21;(try have hq_w21_0:w18.heap.size<w21.heap.size:=oM);(try have hq_w21_1:w19.heap.size<w21.heap.size:=oM);(try have hq_w21_2:w20.heap.size<w21.heap.size:=oM);have hl_w21_h0:w.heap.size<w21.heap.size:=oM))
   all_goals (go_wp2_with fail;go_meet;(first|exact Acr bw t21_0_2 om|exact Akh bw t21_0_2 om om om om (by first|exact ((hc_w21 _ _ om).trans<|C1 rfl)|exact ((hc_w21 _ _ om).trans<|(hc_w20 _ _ om).trans<|C1 rfl)|exact ((hc_w21 _ _ om).trans<|(hc_w20 _ _ om).trans<|(hc_w19 _ _ om).trans<|C1 rfl)) (by first|exact ((hc_w21 _ _ om).trans<|C1 rfl)|exact ((hc_w21 _ _ om).trans<|(hc_w20 _ _ om).trans<|C1 rfl)|exact ((hc_w21 _ _ om).trans<|(hc_w20 _ _ om).trans<|(hc_w19 _ _ om).trans<|C1 rfl)) (by first|exact ((hc_w21 _ _ om).trans<|C1 rfl)|exact ((hc_w21 _ _ om).trans<|(hc_w20 _ _ om).trans<|C1 rfl)|exact ((hc_w21 _ _ om).trans<|(hc_w20 _ _ om).trans<|(hc_w19 _ _ om).trans<|C1 rfl))))
  case rest =>
   obtain ⟨gb21,B21_0_2,d21_0_2,m21_0_2,rfl,rfl,hb_w21,hg_w21,hG_w21,mb21_0,mb21_1,mb21_2,t21_0_2⟩:=hcut;obtain ⟨w21,hw_w21⟩:∃ v,v=wc:=⟨_,rfl⟩
   subst hw_w21;have ⟨hc_w21,hf_w21⟩:=G8 hb_w21;have hz_w21:=hb_w21.size;have hl_w21_0:w.heap.size<w21.heap.size:=oM;have hl_w21_1:gb5<w21.heap.size:=oM;have hl_w21_2:w7.heap.size<w21.heap.size:=oM;have hl_w21_3:w8.heap.size<w21.heap.size:=oM;have hl_w21_4:gb21<w21.heap.size:=oM
   go_wp2_with fail
   (refine (Of V.2.1 V.2.2.1 V.2.2.2 B21_0_2 d21_0_2 m21_0_2 B5_0_2 d5_0_2 m5_0_2 _ (Bd t21_0_2 bw) (Bd t5_0_2 bw) hv1 hv2<|tab.below bw).mono ?_;rintro e w22 ⟨rfl,hb_w22⟩;have ⟨hc_w22,hf_w22⟩:=G8 hb_w22;have hz_w22:=hb_w22.size;(try simp at hz_w22);have hl_w22_0:w.heap.size<w22.heap.size:=oM;have hl_w22_1:gb5<w22.heap.size:=oM;have hl_w22_2:w7.heap.size<w22.heap.size:=oM;have hl_w22_3:w8.heap.size<w22.heap.size:=oM;have hl_w22_4:gb21<w22.heap.size:=oM);go_wp2_with fail
   (refine (Ada (by rw [hy17_2])<|R5 V.2.1 V.2.2.1 ys17_2 B8_0_2 d8_0_2 m8_0_2 (1) _ (Bd sy17_2 bw) (HeldAs.below hh17 bw) oM).mono ?_;rintro e w23 ⟨rfl,hb_w23⟩;have ⟨hc_w23,hf_w23⟩:=G8 hb_w23;have hz_w23:=hb_w23.size;(try simp at hz_w23);have hl_w23_0:w.heap.size<w23.heap.size:=oM;have hl_w23_1:gb5<w23.heap.size:=oM;have hl_w23_2:w7.heap.size<w23.heap.size:=oM;have hl_w23_3:w8.heap.size<w23.heap.size:=oM;have hl_w23_4:gb21<w23.heap.size:=oM);go_wp2_with fail
   go_ret
   exact ⟨rfl,bw⟩
end
end Go.Proofs.YthlpchhhinipaaaGreatDoor
