/- Lemmas on the program and on partial functions that stand in place of its code (part 7); no condition beyond those that each one states. -/
import Derived.Test.YthlpchhhinipaaaGreatDoorZ6
import Derived.Deep.RegionHeld3
namespace Go.Proofs.YthlpchhhinipaaaGreatDoor
open Go.RowKit Go.Deep List
section
theorem Ana{G:WP}{tl:TL}{ol:OL}{g:Nat}(d:Nat)(o:Oid){e:TypeId}{t:Ty}{xs:List t.D}{len:Nat}(hd:Ap tl d=.own o t 0 len)(ho:Am ol o=some (.arr e t xs))(hl:len=xs.length):
  WeakG G ⟨Ap tl,Am ol,g⟩ ⟨Ap ((d,.tree t xs) :: tl),Am ((o,none) :: ol),g⟩:=by
 refine Au4 (S:=⟨Ap tl,Am ol,g⟩) (obD:=fun i=>if i=o then Am ol i else none) (fun i x hx=>?_) (fun i x hx=>?_) fun t'=>?_
 ·rw[L3]at hx;split at hx
  ·cases hx
  ·exact hx
 ·split at hx
  next hc=>exact ⟨hx,by rw[L3,fW hc]⟩
  ·cases hx
 ·by_cases ht:t'=d
  ·subst ht;refine .inr ⟨1,?_⟩;show gnd _ 1 (Ap tl t')=some (Ap _ t');rw[hd,show Ap ((t',AV.tree t xs) :: tl) t'=.tree t xs from fW rfl];exact G9 (e:=e) (by rw[fW rfl];exact ho) hl
  ·exact .inl<|fB ht
section
variable{G:WP}{n:Nat}{R:NP}
theorem Arz(hR:∀ b,n<=b->R b){S:St}{ob':OF}{tm':TF}{q:Oid}{e:TypeId}{t:Ty}{xs:List t.D}(hq:S.ob q=some (.arr e t xs))
  (h1:∀ i o',ob' i=some o'->i≠q/\∃ o,S.ob i=some o/\(o'=o∨∃ ty cs k t',o=.cells ty cs/\o'=.cells ty (cs.set k (.ftr R t xs))/\cs[k]? =some (.own q t' 0 xs.length)))
  (h3:∀ j,tm' j=S.tm j∨(tm' j=.ftr R t xs/\∃ t',S.tm j=.own q t' 0 xs.length)):WeakG (GN G n) S ⟨tm',ob',S.gen⟩:=by
 intro w0 B N a w hr;have ⟨C,hm,hf,hB⟩:=hr.ex;have hn:n<=w0.heap.size:=(hm.inv w0<|Below.refl _ _).2
 have him:∀ b,imm S.ob C b->imm ob' C b:=fun b hb i o c s ho=>by
  have ⟨_,o1,h,_⟩:=h1 i o ho;exact hb i o1 c s h
 have hL:Later C C (imm S.ob C) (imm ob' C) w w:=⟨fun _ _ h=>h,fun b _ hb=>him b hb,fun _ _ _=>rfl,fQ _⟩
 have key:∀(t':Ty) (v:Value),AV.Rep C (imm S.ob C) w (.own q t' 0 xs.length) v->AV.Rep C (imm ob' C) w (.ftr R t xs) v:=by
  intro t' v hv
  have:AV.Rep (fun _=>none) (fun b=>imm ob' C b/\R b) w (.tree t xs) v:=by
   refine Ml (ob:=fun j=>if j=q then some (.arr e t xs) else none) (C:=C) (im:=fun b=>imm ob' C b/\R b) (lo:=w0.heap.size) (fun j z l hj hl=>?_) (fun _ hb=>hb) (fun j z b c s hj hs=>?_) 1 _ _ _ (G9 (e:=e) (fW rfl) rfl)<|Ac4 hv
   ·split at hj
    next e'=>subst e';cases hj;exact hm.obs j _ l hq hl
    ·cases hj
   ·split at hj
    next e'=>subst e';refine ⟨fun j' z' c' s' hj' hs'=>?_,hR b<|Nat.le_trans hn (hm.lt j b c s hs).1⟩;have ⟨hne,o1,hj1,_⟩:=h1 j' z' hj';exact hne (hm.inj j j' b c s c' s' _ o1 hq hj1 hs hs').symm
    ·cases hj
  exact this
 refine ⟨⟨C,⟨hm.below,hm.inv,hm.gen,hm.lt,hm.cap,fun i j b c s c' s' x y hi hj=>?_,fun i x l hi hl=>?_⟩,fun t'=>?_,hB.trans hL⟩,hr.size,hr.defers,fun i hi=>?_⟩
 ·have ⟨_,o1,g1,_⟩:=h1 i x hi;have ⟨_,o2,g2,_⟩:=h1 j y hj;exact hm.inj i j b c s c' s' o1 o2 g1 g2
 ·have ⟨_,o1,g1,g2⟩:=h1 i x hi;rcases g2 with rfl|⟨ty,cs,k,t',rfl,rfl,hk⟩
  ·exact (hm.obs i x l g1 hl).later hL fun _ _ _ _=>rfl
  ·have h0:=(hm.obs i _ l g1 hl)
   cases l with
   | nil=>exact h0
   | at_ b c s=>
    have ⟨vs,e1,e2,e3⟩:=h0;refine ⟨vs,e1,?_,e3⟩;have ⟨v,hv,hrv⟩:=e2.get hk;have h2:=(AV.RepL.later hL _ _ e2).set (k:=k)<|key t' v hrv
    have e4:vs.set k v=vs:=by
     obtain ⟨hlt,rfl⟩:=gSi.1 hv;exact set_getElem_self hlt
    rwa [e4]at h2
 ·rcases h3 t' with e'|⟨e',t2,e2⟩
  ·show AV.Rep C (imm ob' C) w (tm' t') _;rw[e'];exact AV.Rep.later hL _ _<|hf t'
  ·show AV.Rep C (imm ob' C) w (tm' t') _;rw[e'];have:=hf t';rw[e2]at this;exact key t2 _ this
 ·refine hr.obg i fun hn=>hi ?_
  cases hx:ob' i with
  | none=>exact hx
  | some x=>
   have ⟨_,o1,g1,_⟩:=h1 i x hx;rw[g1]at hn;cases hn
theorem Afe(hR:∀ b,n<=b->R b){tl:TL}{ol:OL}{g:Nat}(i q:Oid)(k:Nat){ty e:TypeId}{cs ds:LA}{t t':Ty}{xs:List t.D}{len:Nat}(hi:Am ol i=some (.cells ty cs))(hk:cs[k]? =some (.own q t' 0 len))(hq:Am ol q=some (.arr e t xs))(hl:len=xs.length)(hd:cs.set k (.ftr R t xs)=ds):
  WeakG (GN G n) ⟨Ap tl,Am ol,g⟩ ⟨Ap tl,Am ((q,none) :: (i,some (.cells ty ds)) :: ol),g⟩:=by
 subst hl hd;refine Arz (S:=⟨Ap tl,Am ol,g⟩) hR hq (fun j o' hj=>?_) fun j=>.inl rfl
 rw[L3]at hj;split at hj
 ·cases hj
 ·rename_i hne;refine ⟨hne,?_⟩;by_cases hji:j=i
  ·subst hji;refine ⟨_,hi,.inr ⟨ty,cs,k,t',rfl,?_,hk⟩⟩;have:Am ((j,some<|.cells ty<|cs.set k<|.ftr R t xs) :: ol) j=some (.cells ty<|cs.set k<|.ftr R t xs):=by simp[Am]
   exact osj<|hj.symm.trans this
  ·refine ⟨o',?_,.inl rfl⟩;have:Am ((i,some<|.cells ty<|cs.set k<|.ftr R t xs) :: ol) j=Am ol j:=by simp[Am,hji]
   exact this.symm.trans hj
end
theorem Kk{α:Type}{xs:List α}{z:α}{N len b:Nat}(hN:N=xs.length)(h:len<=N/\len+1<=1073741824/\(len+1)*b<=140737488355328):len+1=(xs.take len++[z]).length:=by
 rw[length_append,length_take,length_singleton];omega
theorem Au2{m:Option NP}{t:Ty}{xs:List t.D}{k:Nat}(hk:k<=xs.length):(tvC m t xs).take (k*t.size)=tvC m t (xs.take k):=by
 conv=>lhs;rw[← take_append_drop k xs,Aci]
 rw[take_append_of_le_length (by rw[Pi,length_take,Nat.min_eq_left hk];exact fQ _)];exact take_of_length_le (by rw[Pi,length_take,Nat.min_eq_left hk];exact fQ _)
theorem Q3{n:Nat}{d:Option Nat}{f:TF}{ob:OF}{x y:Opd}{o q:Oid}{e1 e2:TypeId}{t t' t2:Ty}{b len N:Nat}{m:Option NP}{xs:List t.D}{z:t.D}(hx:x.ev f=.own o t' 0 len)(hob:ob o=some (.vec e1 t.size N (tvC m t xs)))(hN:N=xs.length)(hy:y.ev f=.own q t2 0 1)(hq:ob q=some (.vec e2 t.size 1 (tvC m t [z])))(h:len<=N/\len+1<=1073741824/\(len+1)*b<=140737488355328):
  Bd n ⟨d,none,.appV e1 t b x y⟩ f ob=some (2,.own (o.1,n) t 0 (len+1),[(o,none),((o.1,n),some (.vec e1 t.size (len+1) (tvC m t (xs.take len++[z]))))]):=by
 have h1:List.take (len*t.size) (tvC m t xs)=tvC m t (xs.take len):=Au2<|hN▸h.1;have h2:List.take (1*t.size) (List.drop (0*t.size)<|tvC m t [z])=tvC m t [z]:=by rw[Nat.zero_mul,drop_zero];exact take_of_length_le (by rw[Pi];exact fQ _)
 simp only[Bd,ev,Ms,hx,hy,Wv,hq,hob,true_and,fE,fQ,if_true,h1,h2,h.1,h.2.1,h.2.2,and_self,Aci]
mutual
def AV.unS(R:NP):AV->AV->Prop
 | .tree t xs,d=>d=.ftr R t xs
 | .agg cs,d=>∃ ds,d=.agg ds/\AV.unSL R cs ds
 | .ref cs,d=>∃ ds,d=.ref ds/\AV.unSL R cs ds
 | c,d=>c.scal=true/\d=c
def AV.unSL(R:NP):LA->LA->Prop
 | [],ds=>ds=[]
 | c :: cs,ds=>∃ d ds',ds=d :: ds'/\AV.unS R c d/\AV.unSL R cs ds'
end
mutual
theorem Avz{R im:NP}{w:World}(hR:∀ b,im b->R b):∀(c d:AV) (u:Value),AV.unS R c d->AV.Rep (fun _=>none) im w c u->AV.Rep (fun _=>none) im w d u
 | .tree t xs,d,u,h,⟨A,c,l,e,hs⟩=>by
  have h:d=.ftr R t xs:=h;subst h;exact ⟨A,c,l,e,Cc (fun b _ hb=>⟨hb,hR b hb⟩) hs⟩
 | .agg cs,d,u,⟨ds,e,h⟩,hr=>by
  subst e;have ⟨us,e,hr⟩:=hr;exact ⟨us,e,Adx hR cs ds us h hr⟩
 | .ref cs,d,u,⟨ds,e,h⟩,hr=>by
  subst e;have ⟨b,k,vs,e1,e2,e3,hr⟩:=hr;exact ⟨b,k,vs,e1,e2,e3,Adx hR cs ds vs h hr⟩
 | .int ..,d,u,⟨_,e⟩,hr=>by subst e;exact hr
 | .bool ..,d,u,⟨_,e⟩,hr=>by subst e;exact hr
 | .str ..,d,u,⟨_,e⟩,hr=>by subst e;exact hr
 | .err ..,d,u,⟨h,e⟩,hr=>by first|(cases h;done)|(subst e;exact hr)
 | .nils,d,u,⟨_,e⟩,hr=>by subst e;exact hr
 | .any,d,u,⟨h,_⟩,_=>by cases h
 | .mtree ..,d,u,⟨h,_⟩,_=>by cases h
 | .ftr ..,d,u,⟨h,_⟩,_=>by cases h
 | .mp _,d,u,⟨h,_⟩,_=>by cases h
 | .tup _,d,u,⟨h,_⟩,_=>by cases h
 | .fn ..,d,u,⟨h,_⟩,_=>by cases h
 | .own ..,d,u,⟨h,_⟩,_=>by cases h
 | .box ..,d,u,⟨h,_⟩,_=>by cases h
 | .elt ..,d,u,⟨h,_⟩,_=>by cases h
 | .sla ..,d,u,⟨h,_⟩,_=>by cases h
 | .telt ..,d,u,⟨h,_⟩,_=>by cases h
 | .giv ..,d,u,⟨h,_⟩,_=>by cases h
 | .abool ..,d,u,⟨h,_⟩,_=>by cases h
theorem Adx{R im:NP}{w:World}(hR:∀ b,im b->R b):∀(cs ds:LA) (us:LV),AV.unSL R cs ds->AV.RepL (fun _=>none) im w cs us->AV.RepL (fun _=>none) im w ds us
 | [],ds,us,h,hr=>by obtain rfl:ds=[]:=h;exact hr
 | c :: cs,ds,us,⟨d,ds',e,h1,h2⟩,hr=>by
  subst e;have ⟨u,us',e,r1,r2⟩:=hr;exact ⟨u,us',e,Avz hR c d u h1 r1,Adx hR cs ds' us' h2 r2⟩
end
end
section
set_option maxRecDepth 4000
set_option maxHeartbeats 4800000
variable{pA pB:List (ByteArray×(List ZB)×Int×Int×LL)}{bA bB:Int}{cA:Bool}{nA:List (ByteArray×Int×Int×List ZB)}
def Fd(a0:List (ByteArray×(List ZB)×Int×Int×LL))(u1:Int)(u0:Nat):Option (Ctl (Int×Nat) (Ctl Int Int)):=
 cond (decide ((u0:Int)<(a0.length:Int)))
 ((a0[u0]?).bind fun x15=>
 (Hq x15.1 x15.2.1 x15.2.2.1 x15.2.2.2.1 x15.2.2.2.2 u1).bind fun y16=>
 cond (decide (y16<0))
  (some (.out (.out (-1))))
  (og (u0+1<4611686018427387904)<|
  some (.next (y16,u0+1))))
 (some (.out (.next u1)))
def Gu(a0:List (ByteArray×(List ZB)×Int×Int×LL))(a1:Int):Option Int:=
 cond (decide (wI (a1 - (a0.length:Int))<0))
 (some (-1))
 (Dg (Aq (fun s_:Int×Nat=>Fd a0 s_.1 s_.2) 4611686018427387904 (wI (a1 - (a0.length:Int)),0)) fun u0=>
 some u0)
theorem Uz(h:Gu pA bA=some bB):cK 6 [.tree Yg pA,ai bA] (A8 bB):=by
 refine cO Tryz.func6<|Ae<|Ae<|Ab<|Ae (kQ h (fun _ h=>Ae<|Ac<|tr_<|jS h) fun _ h=>skW (sqC h (fun u0=>sT [(1,ai u0)] []) ?_ fun u0 h=>Ae<|Ac<|jS h));intro _ h hk7;refine Ae<|Ad<|lpF h (fun (u1,u2)=>sT [(0,.tree Yg pA),(1,ai u1),(5,an u2)] []) (Ag []) ?_;rintro n_ ⟨u1,u2⟩ c_ h hn9;exact Ab<|Ae (kQ h (fun _ h=>skW<|Ab<|Ad<|Ab<|Aa 13<|rsT 2 (riH Yg h fun x15 _ h=>rsT 2 (rcH h V4 fun y16 h=>rsT 1<|rnW<|Ae (kQ h (fun _ h=>Ae<|Ac<|br_<|tr_<|tr_<|br_<|tr_ (have h:=jO h hn9;(have h:=jO h hk7;jS h))) fun _ h=>Ay<|bn_<|tn_<|wr_<|Aa 18<|rsT 1 (raH h fun h=>rsT 1<|Ao<|tn_<|jL []))))) fun _ h=>lxT (have h:=jO h hn9;jC []))
def Fe(a0:List (ByteArray×(List ZB)×Int×Int×LL))(a1:List (ByteArray×(List ZB)×Int×Int×LL))(u0:Nat):Option (Ctl Nat (Ctl Unit Bool)):=
 cond (decide ((u0:Int)<(a0.length:Int)))
 ((a0[u0]?).bind fun x14=>
 (a1[u0]?).bind fun x15=>
 (Hp x14.1 x14.2.1 x14.2.2.1 x14.2.2.2.1 x14.2.2.2.2 x15.1 x15.2.1 x15.2.2.1 x15.2.2.2.1 x15.2.2.2.2).bind fun y16=>
 cond (!y16)
  (some (.out (.out false)))
  (og (u0+1<4611686018427387904)<|
  some (.next (u0+1))))
 (some (.out (.next ())))
def Kn(a0:List (ByteArray×(List ZB)×Int×Int×LL))(a1:List (ByteArray×(List ZB)×Int×Int×LL)):Option Bool:=
 cond ((a0.length:Int) !=(a1.length:Int))
 (some false)
 (Dg (Aq (fun s_:Nat=>Fe a0 a1 s_) 4611686018427387904 0) fun _=>
 some true)
theorem Uv(h:Kn pA pB=some cA):cK 13 [.tree Yg pA,.tree Yg pB] (An cA):=by
 exact cO Tryz.func13<|Ae<|Ab<|Ae (kQ h (fun _ h=>Ae<|Ac<|tr_<|jS h) fun _ h=>skW (sqC h (fun _=>sT [] []) (fun _ h hk6=>Ae<|Ad<|lpF h (fun u0=>sT [(0,.tree Yg pA),(1,.tree Yg pB),(5,an u0)] []) (Ag []) fun n_ u0 c_ h hn8=>Ab<|Ae (kQ h (fun _ h=>skW<|Ab<|Ad<|Ab<|Al 16<|ds0 (.tree Yg pA) kr<|ds0 (an u0) kr (diH Yg h fun x14 _ h=>dsT 3 (diH Yg h fun x15 _ h=>ds0 (.agg [.str x15.1,.tree Y8 x15.2.1,ai x15.2.2.1,ai x15.2.2.2.1,tS x15.2.2.2.2]) kr (dcH h V6 fun y16 h=>ds0 (.bool<|!y16) kr<|Cb (As kr)<|tn_<|wr_ (kQ h (fun _ h=>Ae<|Ac<|br_<|tr_<|tr_<|br_<|tr_ (have h:=jO h hn8;(have h:=jO h hk6;jS h))) fun _ h=>Ay<|bn_<|tn_<|wr_<|Aa 19<|rsT 1 (raH h fun h=>rsT 1<|Ao<|tn_<|jL [])))))) fun _ h=>lxT (have h:=jO h hn8;jC []))) fun _ h=>Ae<|Ac<|jS h))
def Gq(a0:List (ByteArray×(List ZB)×Int×Int×LL))(u0:Nat)(u1:List (ByteArray×Int×Int×List ZB)):Option (Ctl (Nat×(List (ByteArray×Int×Int×List ZB))) (List (ByteArray×Int×Int×List ZB))):=
 cond (decide ((u0:Int)<(a0.length:Int)))
 ((a0[u0]?).bind fun x11=>
 og (u1.length+1<=1073741824/\(u1.length+1)*56<=140737488355328)<|
 og (u0+1<4611686018427387904)<|
 some (.next (u0+1,u1++[(x11.1,x11.2.2.1,x11.2.2.2.1,x11.2.1)])))
 (some (.out u1))
def Dj(a0:List (ByteArray×(List ZB)×Int×Int×LL)):Option (List (ByteArray×Int×Int×List ZB)):=
 (Aq (fun s_:Nat×(List (ByteArray×Int×Int×List ZB))=>Gq a0 s_.1 s_.2) 4611686018427387904 (0,[])).bind fun u0=>
some u0
def Qu(r:List (ByteArray×Int×Int×List ZB)):RV:=⟨false,[(false,[.imm (.tree Ye r)])]⟩
theorem Mt(h:Dj pA=some nA):cK 55 [.tree Yg pA] (Qu nA):=by
 refine Aeb kr Tryz.func55 (Ck kr) (fun nz_=>[.ftr nz_ Yg pA]) (n:=28) kr (fun _=>by simp) (fun _=>⟨_,_,rfl,rfl,rfl⟩) (tl:=fun nz_=>[(0,.ftr nz_ Yg pA)]) (fun _=>rfl) fun zn_ nz_ hz_=>Ae<|Ae (sqF h (fun u1=>sT [(3,.own (oi 0 1) Ye 0 u1.length)] [(oi 0 1,.tv 122 (some nz_) Ye u1)]) ?_ fun u1 h=>Ae<|Ac<|jZ h [(false,[.own (oi 0 1) Ye 0 u1.length])]<|Lu (B0<|.tv (e:=122) kr rfl) Cs)
 intro _ h;refine Ae<|Ad<|lpF h (fun (u2,u0)=>sT [(3,.own (oi 0 1) Ye 0 u0.length),(6,.ftr nz_ Yg pA),(7,an pA.length),(8,an u2)] [(oi 0 1,.tv 122 (some nz_) Ye u0)]) ((Q2 3 122 (some nz_) Ye kr).trans<|Ag [(oi 0 1,oi 3 6)]) ?_;rintro n_ ⟨u2,u0⟩ c_ h hn5;refine Ae<|Ab (kQ h (fun _ h=>skW<|Ab<|Ad<|Ab<|Aa 7 (riH Yg h fun x11 _ h=>rsB 3<|rnW<|Aa 22<|rsT 12<|Hd (.own (oi 24 19) Ye 0 1) (oi 24 19) (.vec 122 4 1<|tvC (some nz_) Ye<|[(x11.1,x11.2.2.1,x11.2.2.2.1,x11.2.1)]) trivial (Co kr) ?_)) fun _ h=>lxT (have h:=jO h hn5;jE []));have ⟨g12,h⟩:=Aj h;refine rs2 (.own (oi 0 20) Ye 0<|u0.length+1) (oi 0 1) (oi 0 20) (.vec 122 4 (u0.length+1)<|tvC (some nz_) Ye<|u0++[(x11.1,x11.2.2.1,x11.2.2.2.1,x11.2.1)]) (Mw (t':=Ye) (t:=Ye) (t2:=Ye) (e2:=122) (q:=oi 24 19) (m:=some nz_) (z:=(x11.1,x11.2.2.1,x11.2.2.2.1,x11.2.1)) (o:=oi 0 1) (xs:=u0) (len:=u0.length) kr kr rfl kr kr g12) (rsT 1<|Ao<|bn_<|tn_ ⟨_,Bv (N:=u0.length+1) (oi 0 20) 122 (some nz_) Ye (u0++[(x11.1,x11.2.2.1,x11.2.2.2.1,x11.2.1)]) kr fS,Aa 24 (raH h fun h=>rsT 1<|Ao<|tn_ ?_)⟩);cases h;exact jLw hn5<|(wL 3 (fS:u0.length+1=(u0++[(x11.1,x11.2.2.1,x11.2.2.2.1,x11.2.1)]).length)).trans<|Ag [(oi 0 1,oi 0 20)]
def Lg(a1:List (ByteArray×(List ZB)×Int×Int×LL))(a0:Int)(u0:Nat):Option (Ctl Nat (Ctl Unit Bool)):=
 cond (decide ((u0:Int)<(a1.length:Int)))
 ((a1[u0]?).bind fun x10=>
 ((Eg a0 x10.1 x10.2.1 x10.2.2.1 x10.2.2.2.1 x10.2.2.2.2).bind fun y12=>
  cond (!y12)
   (some true)
   (og ((0:Int)<=0/\0<=(u0:Int)/\(u0:Int)<=(a1.length:Int)/\(a1.length:Int)<=(a1.length:Int))<|
   (Dj (a1.take u0)).bind fun y15=>
   (C7 y15 x10.1).bind fun y16=>
   some (decide (0<=y16)))).bind fun u1=>
 cond u1
  (some (.out (.out false)))
  (og (u0+1<4611686018427387904)<|
  some (.next (u0+1))))
 (some (.out (.next ())))
def Pd(a0:Int)(a1:List (ByteArray×(List ZB)×Int×Int×LL)):Option Bool:=
 Dg (Aq (fun s_:Nat=>Lg a1 a0 s_) 4611686018427387904 0) fun _=>
((Gk a0).bind fun y21=>
 cond y21
  (some (decide ((a1.length:Int)<=12)))
  (some false)).bind fun u0=>
some u0
theorem Agp(h:Pd bA pA=some cA):cK 52 [ai bA,.tree Yg pA] (An cA):=by
 refine cO Tryz.func52<|Ae (sqC h (fun _=>sT [(0,ai bA),(1,.tree Yg pA)] []) ?_ fun _ h=>sqF h (fun u1=>sT [(4,.bool u1)] []) (fun _ h=>Aa 10<|rsT 1 (rcH h Mo fun y21 h=>rsT 1 (kR h 31 (fun _ h=>rsT 5<|Ao<|tn_<|jE []) fun _ h=>rsT 5<|Ao<|tn_<|jE []))) fun u1 h=>Ac<|jS h);intro _ h hk2;refine Ae<|Ad<|lpF h (fun u0=>sT [(0,ai bA),(1,.tree Yg pA),(7,.tree Yg pA),(8,an pA.length),(9,an u0)] []) (Ag []) ?_;intro n_ u0 c_ h hn4;refine Ae<|Ab (kQ h (fun _ h=>skW<|Ab<|Ad<|Ab<|Aa 9<|rsT 1 (riH Yg h fun x10 _ h=>rsB 4<|rnW (sqF h (fun u2=>sT [(0,ai bA),(1,.tree Yg pA),(7,.tree Yg pA),(8,an pA.length),(9,an u0),(27,.bool u2)] []) ?_ fun u2 h=>kQ h (fun _ h=>Ae<|Ac<|br_<|tr_<|tr_<|br_<|tr_ (have h:=jO h hn4;(have h:=jO h hk2;jS h))) fun _ h=>Ay<|bn_<|tn_<|wr_<|Aa 4 (raH h fun h=>rsT 1<|Ao<|tn_<|jL [])))) fun _ h=>lxT (have h:=jO h hn4;jC []));intro _ h;refine Al 23<|dz0 (ai bA)<|dzl (.agg [.str x10.1,.tree Y8 x10.2.1,ai x10.2.2.1,ai x10.2.2.2.1,tS x10.2.2.2.2]) (dcH h Adb fun y12 h=>dz0 (.bool<|!y12)<|dz0 (.bool<|!y12) ?_);rcases A5 h with ⟨q13,h⟩|⟨q13,h⟩
 ·exact dq 18 q13<|dsT 9<|Cb (As kr)<|tn_<|jE []
 refine dq 18 q13<|dz0 (.tree Yg pA)<|dz0 (an u0) ?_;have ⟨g14,h⟩:=Aj h;have ⟨y15,h15,h⟩:=Ah h;have ⟨y16,h16,h⟩:=Ah h;exact ds0 (.tree Yg<|pA.take u0) (Adw (t:=Yg) (xs:=pA) (zs:=pA.take u0) (l:=0) (h:=(u0:Int)) (m:=(pA.length:Int)) kr kr kr kr rfl g14 rfl)<|Aga (.tree Ye y15) [] [.tree Yg (pA.take u0)] _ (caps:=[]) (Ac3 kr) (Mt h15) kr<|dz0 (.box (oi 6 6) 0)<|dzl (.str x10.1)<|M7 (ai y16) [] [.tree Ye y15,.str x10.1] _ (caps:=[]) (args0:=[.tree Ye y15,.str x10.1]) (Ac3 kr) kr (Pt h16) kr<|dz0 (.bool<|decide (0<=y16))<|dz0 (.bool<|decide (0<=y16))<|Cb (As kr)<|tn_<|jE []
def Er(a1:List (ByteArray×(List ZB)×Int×Int×LL))(a0:Int)(u0:Nat)(u1:List (Int×Bool)):Option (Ctl (Nat×(List (Int×Bool))) (Ctl Unit Bool)):=
 cond (decide ((u0:Int)<(a1.length:Int)))
 ((a1[u0]?).bind fun x17=>
 ((Fu a0 x17.1 x17.2.1 x17.2.2.1 x17.2.2.2.1 x17.2.2.2.2).bind fun y20=>
  cond (!y20)
   (some true)
   (og (x17.1.size<=maxLen)<|
   some ((D8 u1 (G6 x17.1)).getD false))).bind fun u2=>
 cond u2
  (some (.out (.out false)))
  (og (x17.1.size<=maxLen/\u1.length<1073741824)<|
  og (u0+1<4611686018427387904)<|
  some (.next (u0+1,Og u1 (G6 x17.1) true))))
 (some (.out (.next ())))
def F7(a0:Int)(a1:List (ByteArray×(List ZB)×Int×Int×LL)):Option Bool:=
 ((Fo a0).bind fun y4=>
 cond (!y4)
  (some true)
  (some (decide (12<(a1.length:Int))))).bind fun u0=>
cond u0
 (some false)
 (Dg (Aq (fun s_:Nat×(List (Int×Bool))=>Er a1 a0 s_.1 s_.2) 4611686018427387904 (0,[])) fun _=>
 some true)
theorem Tw(h:F7 bA pA=some cA):cK 61 [ai bA,.tree Yg pA] (An cA):=by
 refine cO Tryz.func61<|Ae<|Ab<|sqF h (fun u2=>sT [(0,ai bA),(1,.tree Yg pA),(15,.bool u2)] []) (fun _ h=>Aa 10<|rsT 1 (rcH h Ox fun y4 h=>rsT 2 (kR h 11 (fun _ h=>rsT 4<|Ao<|tn_<|jE []) fun _ h=>rsT 4<|Ao<|tn_<|jE []))) ?_;intro u2 h;refine kQ h (fun _ h=>Ae<|Ac<|tr_<|jS h) fun _ h=>skW<|Ae (sqC h (fun _=>sT [] []) ?_ fun _ h=>Ae<|Ac<|jS h)
 intro _ h hk9;refine Ae<|Ad<|lpF h (fun (u1,u0)=>sT [(0,ai bA),(5,.mp<|oi 0 1),(17,.tree Yg pA),(18,an pA.length),(19,an u1)] [(oi 0 1,.map 133 .bool u0)]) (Ag [(oi 0 1,oi 16 2)]) ?_;rintro n_ ⟨u1,u0⟩ c_ h hn11;refine Ae<|Ab (kQ h (fun _ h=>skW<|Ab<|Ad<|Ab<|Aa 7 (riH Yg h fun x17 _ h=>rsB 3<|rnW<|Ab<|sqF h (fun u3=>sT [(0,ai bA),(5,.mp<|oi 0 1),(7,.box (oi 1 1) 0),(17,.tree Yg pA),(18,an pA.length),(19,an u1),(32,.bool u3)] [(oi 0 1,.map 133 .bool u0),(oi 1 1,.cells 51 [.str x17.1,.tree Y8 x17.2.1,ai x17.2.2.1,ai x17.2.2.2.1,tS x17.2.2.2.2])]) ?_ ?_)) fun _ h=>lxT (have h:=jO h hn11;jC []))
 ·intro _ h;refine Aa 17<|rsT 2 (rcH h V3 fun y20 h=>rsT 2 ?_);rcases A5 h with ⟨q21,h⟩|⟨q21,h⟩
  ·exact rq 27 q21<|rsT 5<|Ao<|tn_<|jE [(oi 1 1,oi 7 5)]
  refine rq 27 q21<|rsT 3 ?_;have ⟨g22,h⟩:=Aj h;exact rsl (.bool<|(D8 u0<|G6 x17.1).getD false) (Aup (oi 0 1) (t:=.bool) (es:=u0) (k:=x17.1) kr kr kr g22)<|rsT 1<|Ao<|tn_<|jE [(oi 1 1,oi 7 5)]
 intro u3 h;refine kQ h (fun _ h=>Ae<|Ac<|tr_<|br_<|tr_<|tr_<|br_<|tr_ (have h:=jO h hn11;(have h:=jO h hk9;jS h))) fun _ h=>skW<|Aa 6<|rsT 3 ?_
 have ⟨g25,h⟩:=Aj h;exact Al0 (oi 0 1) (oi 0 1) (.map 133 .bool<|Og u0 (G6 x17.1) true) (Ayc (es:=u0) (k:=x17.1) (nv:=true) kr kr kr kr g25)<|Ao<|bn_<|tn_<|wr_<|Aa 8 (raH h fun h=>rsT 1<|Ao<|tn_<|jL [])
end
section
abbrev Cp:=ByteArray×List Nd×Int×Int×ZA
abbrev Df:=ByteArray×Int×Int×List Nd
def V5(x:Cp):Prop:=x.2.1.length<=1048576/\x.2.2.2.2.length<=1048576/\I4 1048576 x.2.2.2.2
noncomputable def Wc(p:Int)(x:Cp):Bool:=(Eg p x.1 x.2.1 x.2.2.1 x.2.2.2.1 x.2.2.2.2).getD false
theorem Aoj{p:Int}{x:Cp}(h:V5 x):Eg p x.1 x.2.1 x.2.2.1 x.2.2.2.1 x.2.2.2.2=some (Wc p x)/\Fu p x.1 x.2.1 x.2.2.1 x.2.2.2.1 x.2.2.2.2=some (Wc p x):=by
 have ⟨v,h1,h2⟩:=A0u p x.1 x.2.1 x.2.2.1 x.2.2.2.1 x.2.2.2.2 (by have:=h.1;omega) h.2.1 h.2.2;have e:Wc p x=v:=by unfold Wc;rw[h1];rfl
 rw[e];exact ⟨h1,h2⟩
theorem Zv(l:List Cp)(hl:l.length<=1048576):Dj l=some (l.map fun x=>((x.1,x.2.2.1,x.2.2.2.1,x.2.1):Df)):=by
 unfold Dj
 have key:Aq (fun s_:Nat×List Df=>Gq l s_.1 s_.2) 4611686018427387904 (0,[])=some ([]++l.map fun x=>((x.1,x.2.2.1,x.2.2.2.1,x.2.1):Df)):=by
  refine Dl l (fun x=>((x.1,x.2.2.1,x.2.2.2.1,x.2.1):Df)) [] oM _ (fun j x h=>?_) ?_
  ·have:=Ai h
   try dsimp only
   unfold Gq;rw[fH oM,h,obs,Af sO,Af oM]
  ·try dsimp only
   unfold Gq;rw[fJ oM]
 rw[key];rfl
theorem Azh(l:List Df)(hl:l.length<=1048576)(s:ByteArray):∃ k:Int,C7 l s=some k/\decide (0<=k)=l.any fun d=>d.1.toList==s.toList:=by
 unfold C7
 have hs:∀ i x,l[i]? =some x->C1 l s i=some (if x.1.toList==s.toList then Ctl.out (Ctl.out (i:Int)) else Ctl.next (i+1)):=fun i x h=>by
  have:=Ai h;unfold C1;rw[fH oM,h,obs,Af oM];cases x.1.toList==s.toList <;> rfl
 have he:C1 l s l.length=some (Ctl.out<|Ctl.next ()):=by
  unfold C1;rw[fJ oM]
 rcases Pq (body:=fun s_:Nat=>C1 l s s_) l (fun x=>x.1.toList==s.toList) (Ctl.next ()) (fun i=>Ctl.out (i:Int)) (F:=4611686018427387904) oM hs he with ⟨h1,i,hi,h2⟩|⟨h1,h2⟩
 ·rw[h2,h1];exact ⟨_,rfl,Av oM⟩
 ·rw[h2,h1];exact ⟨_,rfl,rfl⟩
noncomputable def okL(p:Int):List ByteArray->List Cp->Bool
 | _,[]=>true
 | seen,x :: r=>(Wc p x&& !(seen.any fun n=>n.toList==x.1.toList))&&okL p (seen++[x.1]) r
theorem Xp{p:Int}{l:List Cp}{k:Nat}{x:Cp}(h:l[k]? =some x):okL p ((l.take k).map (·.1)) (l.drop k)=((Wc p x&& !(((l.take k).map (·.1)).any fun n=>n.toList==x.1.toList))&&okL p ((l.take (k+1)).map (·.1)) (l.drop (k+1))):=by
 have ⟨hk,e⟩:=gSi.1 h;rw[drop_eq_getElem_cons hk,take_add_one,h,e,map_append];rfl
theorem Awq{p:Int}{l:List Cp}(hl:l.length<=1048576)(hc:∀ x∈l,V5 x):Pd p l=some (okL p [] l&&(isF p&&decide (((l.length:Nat):Int)<=12))):=by
 unfold Pd
 have key:Aq (fun s_:Nat=>Lg l p s_) 4611686018427387904 0=some (if okL p [] l then Ctl.next () else Ctl.out false):=by
  refine Hy l.length (fun k s=>s=k/\okL p [] l=okL p ((l.take k).map (·.1)) (l.drop k)) oM _ ⟨rfl,rfl⟩ ?_ ?_
  ·rintro k s hk ⟨hs,he⟩;subst hs;have hx:=gEg hk;have hst:=Xp (p:=p) hx;have ⟨g,_⟩:=Aoj (p:=p)<|hc _<|getElem_mem hk;have ⟨j,hj,hj2⟩:=Azh ((l.take s).map fun x=>((x.1,x.2.2.1,x.2.2.2.1,x.2.1):Df)) sO l[s].1
   have e2:((l.take s).map fun x=>((x.1,x.2.2.1,x.2.2.2.1,x.2.1):Df)).any (fun d=>d.1.toList==l[s].1.toList)=(((l.take s).map (·.1)).any fun n=>n.toList==l[s].1.toList):=by
    rw[any_map,any_map];rfl
   unfold Lg;rw[fH oM,hx,obs,g,obs];rw[hst]at he;cases hg:Wc p l[s]
   ·refine .inr ?_;rw[he,hg];rfl
   rw[fD,fY,Af oM,Zv _ sO,obs,hj,obs,obs,hj2,e2,Af oM];rw[hg,Bool.true_and]at he;cases hd:((l.take s).map (·.1)).any fun n=>n.toList==l[s].1.toList
   ·refine .inl ⟨s+1,rfl,rfl,?_⟩;rw[he,hd];rfl
   ·refine .inr ?_;rw[he,hd];rfl
  ·rintro s ⟨hs,he⟩;subst hs;rw[drop_length]at he;rw[he];unfold Lg;rw[fJ oM];rfl
 rw[key,Uh];cases okL p [] l
 ·rfl
 ·cases isF p <;> rfl
theorem Atn{es:List (Int×Bool)}{k:Int}{v:Bool}:(Og es k v).length<=es.length+1:=by
 unfold Og Sa;rw[length_cons];have:=length_filter_le (fun e:Int×Bool=> !(e.1==k)) es;omega
theorem Atb{p:Int}{l:List Cp}(hl:l.length<=1048576)(hc:∀ x∈l,V5 x)(hn:∀ x∈l,x.1.size<=maxLen):F7 p l=some (okL p [] l&&(isF p&&decide (((l.length:Nat):Int)<=12))):=by
 unfold F7;rw[show Fo p=some (isF p) from rfl,obs];cases isF p
 ·rw[Bool.false_and,Bool.and_false];rfl
 rw[fD,fY,obs,Bool.true_and];by_cases h12:((l.length:Nat):Int)<=12
 ·rw[At (show ¬ 12<((l.length:Nat):Int) by omega),fY,Av h12,Bool.and_true]
  have key:Aq (fun s_:Nat×List (Int×Bool)=>Er l p s_.1 s_.2) 4611686018427387904 (0,[])=some (if okL p [] l then Ctl.next () else Ctl.out false):=by
   refine Hy l.length (fun k s=>∃ es,s=(k,es)/\okL p [] l=okL p ((l.take k).map (·.1)) (l.drop k)/\es.length<=k/\∀ s:ByteArray,(D8 es<|G6 s).getD false=((l.take k).map (·.1)).any fun n=>n.toList==s.toList) oM _ ⟨[],rfl,rfl,fQ _,fun _=>rfl⟩ ?_ ?_
   ·rintro k s hk ⟨es,rfl,he,hes,hm⟩;have hx:=gEg hk;have hst:=Xp (p:=p) hx;have hmem:=getElem_mem hk;have ⟨_,g⟩:=Aoj (p:=p)<|hc _ hmem;have hsz:=hn _ hmem;generalize l[k]=x at *
    try dsimp only
    unfold Er;rw[fH oM,hx,obs,g,obs];rw[hst]at he;cases hg:Wc p x
    ·refine .inr ?_;rw[he,hg];rfl
    rw[fD,fY,Af hsz,obs,hm,Af ⟨hsz,by omega⟩,Af oM];rw[hg,Bool.true_and]at he;cases hd:((l.take k).map (·.1)).any fun n=>n.toList==x.1.toList
    ·refine .inl ⟨(k+1,Og es (G6 x.1) true),rfl,_,rfl,by rw[he,hd];rfl,Nat.le_trans Atn oM,fun s=>?_⟩;rw[take_add_one,hx,map_append,any_append];by_cases e:s=x.1
     ·subst e;rw[Nv];show true=_;simp
     ·have e':G6 s≠G6 x.1:=fun h=>e<|Acw h
      rw[Mm e',hm]
      have:(x.1.toList==s.toList)=false:=by
       rw[Au9,fU];intro h
       exact e (by
        have:=Array.toList_inj.1 h;cases s;cases hx1:x.1;rw[hx1]at this;exact congrArg ByteArray.mk this.symm)
      simp[this]
    ·refine .inr ?_;rw[he,hd];rfl
   ·rintro s ⟨es,rfl,he,_,_⟩;rw[drop_length]at he;rw[he]
    try dsimp only
    unfold Er;rw[fJ oM];rfl
  rw[key];cases okL p [] l <;> rfl
 ·rw[Av (show 12<((l.length:Nat):Int) by omega),At h12,Bool.and_false];rfl
theorem Axc(l:List Cp)(hl:l.length<=1048576)(hc:∀ x∈l,V5 x):Kn l l=some true:=by
 unfold Kn;rw[bne_self_eq_false,fY]
 have h:Aq (fun s_:Nat=>Fe l l s_) 4611686018427387904 0=some (Ctl.next ()):=by
  refine Bg l.length (fun i=>i) oM _ rfl (fun i hi=>?_) ?_
  ·have hx:=gEg hi;have hk:=hc _<|getElem_mem hi
   try dsimp only
   unfold Fe;rw[fH oM,hx,obs,obs,Ags _ _ _ _ _ hk.1 hk.2.1 hk.2.2,obs,fD,fY,Af oM]
  ·try dsimp only
   unfold Fe;rw[fJ oM]
 rw[h];rfl
def A0y(x:Cp):Prop:=x.1.size<=9223372036854775807/\x.2.1.length<=9223372036854775807/\(∀ n∈x.2.1,n.2.2.size<=9223372036854775807)/\x.2.2.2.2.length<=9223372036854775807/\I4 9223372036854775807 x.2.2.2.2
theorem Av0(l:List Cp){v:Int}(hv:0<=v/\v<=1048576)(hl:l.length<=9223372036854775807)(hi:∀ x∈l,A0y x):∃ y,Gu l v=some y/\(y<0∨(0<=y/\y<=v/\l.length<=1048576/\∀ x∈l,V5 x)):=by
 unfold Gu;rw[Bi (n:=v - ((l.length:Nat):Int)) oM oM];by_cases h:v - ((l.length:Nat):Int)<0
 ·rw[Av h];exact ⟨_,rfl,.inl oM⟩
 rw[fJ h]
 have key:∃ c,Aq (fun s_:Int×Nat=>Fd l s_.1 s_.2) 4611686018427387904 (v - ((l.length:Nat):Int),0)=some c/\((∃ y,c=Ctl.next y/\0<=y/\y<=v/\∀ x∈l,V5 x)∨∃ y,c=Ctl.out y/\y<0):=by
  refine Jd (Post:=fun c=>(∃ y,c=Ctl.next y/\0<=y/\y<=v/\∀ x∈l,V5 x)∨∃ y,c=Ctl.out y/\y<0) l.length (fun k s=>s.2=k/\0<=s.1/\s.1<=v/\∀ x∈l.take k,V5 x) oM ⟨rfl,by dsimp only;omega,by dsimp only;omega,by simp⟩ ?_ ?_
  ·rintro k ⟨y,k'⟩ hk ⟨h1,h2,h3,h4⟩;dsimp only at h1 h2 h3;subst h1;have hn:=gEg hk;have ⟨z1,z2,z3,z4,z5⟩:=hi _<|getElem_mem hk;have ⟨y',hy,hq⟩:=Agg l[k'].1 l[k'].2.1 l[k'].2.2.1 l[k'].2.2.2.1 l[k'].2.2.2.2 (v:=y) oM z1 z2 z3 z4 z5
   try dsimp only
   unfold Fd;rw[fH oM,hn,obs,hy,obs];rcases hq with hq|⟨q1,q2,q3,q4,q5⟩
   ·rw[Av hq];exact .inr ⟨_,rfl,.inr ⟨_,rfl,by omega⟩⟩
   ·rw[fJ oM,Af oM];refine .inl ⟨_,rfl,rfl,by dsimp only;omega,by dsimp only;omega,fun x hx=>?_⟩;rw[take_add_one,hn]at hx;rcases mem_append.1 hx with hx|hx
    ·exact h4 x hx
    ·obtain rfl:=mem_singleton.1 hx;exact ⟨q3,q4,q5⟩
  ·rintro ⟨y,k'⟩ ⟨h1,h2,h3,h4⟩;dsimp only at h1 h2 h3;subst h1;rw[take_length]at h4
   try dsimp only
   unfold Fd;rw[fJ oM];exact ⟨_,rfl,.inl ⟨_,rfl,h2,h3,h4⟩⟩
 obtain ⟨c,hc,⟨y,rfl,h1,h2,h3⟩|⟨y,rfl,h1⟩⟩:=key
 ·rw[hc];exact ⟨_,rfl,.inr ⟨h1,h2,by omega,h3⟩⟩
 ·rw[hc];exact ⟨_,rfl,.inl h1⟩
theorem Awn{R:NP}{w:World}{t:Ty}{A:Option Addr}{c:Nat}{xs:List t.D}{l:List Addr}(h:Sl R w t A c xs l):∀ x∈xs,∃ a l',Ty.Mem R w t a x l':=by
 have ⟨_,_,f,_,h4⟩:=h;intro x hx;obtain ⟨i,hi,rfl⟩:=getElem_of_mem hx;have ⟨_,_,_,h5⟩:=h4 oM;exact ⟨_,_,h5 i hi⟩
theorem Awr{R:NP}{w:World}{A:Option Addr}{c:Nat}{xs:List Cp}{l:List Addr}(h:Sl R w (.pair .str (.pair (.slice (.pair .int (.pair .int .str))) (.pair .int (.pair .int (.slice (.slice .int)))))) A c xs l)(hi:Ty.In (.slice (.pair .str (.pair (.slice (.pair .int (.pair .int .str))) (.pair .int (.pair .int (.slice (.slice .int))))))) xs):∀ x∈xs,A0y x:=by
 intro x hx;have ⟨a,l',_,_,_,⟨_,_,⟨A1,c1,_,h1⟩,⟨_,_,_,⟨_,_,_,⟨A2,c2,_,h2⟩,_⟩,_⟩,_⟩,_⟩:=Awn h x hx;have i0:=hi x hx;exact ⟨Nat.le_trans i0.1 (by decide),(Qi h1).2,fun n hn=>Nat.le_trans (i0.2.1 n hn).2.2 (by decide),(Qi h2).2,Axt h2⟩
end
section
abbrev Uk:Ty:=.pair .int (.pair .int .str)
abbrev Ac7:Ty:=.pair .str (.pair (.slice Uk) (.pair .int (.pair .int (.slice (.slice .int)))))
theorem Abr{R R':NP}(x0:ByteArray)(x1:List Nd)(A1:Option Addr)(c1:Nat)(l1:List Addr)(x2 x3:Int)(x4:ZA)(A4:Option Addr)(c4:Nat)(l4:List Addr)(w:World)(s1:Sl R w Uk A1 c1 x1 l1)(s4:Sl R' w (.slice .int) A4 c4 x4 l4)(hc:V5 (x0,x1,x2,x3,x4))(tab:Tab w):
  Calls Tryz.prog 23 #[.agg #[.string x0,.slice A1 x1.length c1,.int .i64 x2,.int .i64 x3,.slice A4 x4.length c4]] w fun e w'=>∃ B1 d1 m1 B4 d4 m4,e=.returned (.agg #[.string x0,.slice B1 x1.length d1,.int .i64 x2,.int .i64 x3,.slice B4 x4.length d4])/\Sl (L4 w.heap.size) w' Uk B1 d1 x1 m1/\Sl (L4 w.heap.size) w' (.slice .int) B4 d4 x4 m4/\Fresh w' w.heap.size (m1++m4)/\Below w.heap.size w w':=by
 refine (Vt (vs:=[.agg #[.string x0,.slice A1 x1.length c1,.int .i64 x2,.int .i64 x3,.slice A4 x4.length c4]]) (V0<|Agh x0 x1 x2 x3 x4 hc.1 hc.2.1 hc.2.2) (fun w' hb=>tab.below hb) ⟨_,_,rfl,⟨_,rfl,⟨_,_,rfl,rfl,⟨_,_,rfl,⟨A1,c1,l1,rfl,Li s1⟩,⟨_,_,rfl,rfl,⟨_,_,rfl,rfl,⟨_,_,rfl,⟨A4,c4,l4,rfl,Li s4⟩,rfl⟩⟩⟩⟩⟩⟩,rfl⟩).mono ?_;rintro e w' ⟨u,rfl,hb,C',hm,hv⟩;obtain ⟨vs,rfl,v0,_,rfl,rfl,v1,_,rfl,h1,v2,_,rfl,rfl,v3,_,rfl,rfl,v4,_,rfl,h4,rfl⟩:=hv;obtain ⟨B1,d1,m1,rfl,t1,f1⟩:=Ahj hm rfl h1;obtain ⟨B4,d4,m4,rfl,t4,f4⟩:=Aaj hm rfl (fun k xs hx=>Afl hx rfl) h4;exact ⟨B1,d1,m1,B4,d4,m4,rfl,t1,t4,(f1.append hm f4 (by rintro i rfl ⟨k,e⟩;cases e)).fresh,hb⟩
theorem Avi{R:NP}{w:World}{A:Option Addr}{c:Nat}{xs:List Cp}{l:List Addr}(h:Sl R w Ac7 A c xs l)(h0:0<xs.length):
  ∃(b o:Nat) (f:Nat->List Addr),A=some ⟨b,o,none⟩/\l=(range xs.length).flatMap f/\∀(k:Nat) (hk:k<xs.length),∃ A1 c1 l1 A4 c4 l4,
   w.cell? ⟨b,o+k*5,none⟩=some (.string xs[k].1)/\w.cell? ⟨b,o+k*5+1,none⟩=some (.slice A1 xs[k].2.1.length c1)/\w.cell? ⟨b,o+k*5+2,none⟩=some (.int .i64 xs[k].2.2.1)/\w.cell? ⟨b,o+k*5+3,none⟩=some (.int .i64 xs[k].2.2.2.1)/\w.cell? ⟨b,o+k*5+4,none⟩=some (.slice A4 xs[k].2.2.2.2.length c4) /\
   Sl R w Uk A1 c1 xs[k].2.1 l1/\Sl R w (.slice .int) A4 c4 xs[k].2.2.2.2 l4/\f k=⟨b,o+k*5,none⟩ :: (l1++⟨b,o+k*5+2,none⟩ :: ⟨b,o+k*5+3,none⟩ :: l4):=by
 obtain ⟨b,o,f,rfl,hr,_,e,hf⟩:=Asb h h0;refine ⟨b,o,f,rfl,e,fun k hk=>?_⟩;obtain ⟨_,_,⟨h0,rfl⟩,⟨l1,_,⟨A1,c1,h1,s1⟩,⟨_,_,⟨h2,rfl⟩,⟨_,l4,⟨h3,rfl⟩,⟨A4,c4,h4,s4⟩,rfl⟩,rfl⟩,rfl⟩,e⟩:=hf k hk;simp only[Cn,Ty.size,Nat.reduceAdd]at h0 h1 h2 h3 h4 e;exact ⟨A1,c1,l1,A4,c4,l4,h0,h1,by simpa [Nat.add_assoc] using h2,by simpa [Nat.add_assoc] using h3,by simpa [Nat.add_assoc] using h4,s1,s4,by simpa [Nat.add_assoc] using e⟩
set_option maxHeartbeats 1000000 in
theorem Jp{R:NP}(xs:List Cp)(A:Option Addr)(c:Nat)(l:List Addr)(w:World)(h:Sl R w Ac7 A c xs l)(hn:xs.length<=1048576)(hc:∀ x∈xs,V5 x)(tab:Tab w):
  Calls Tryz.prog 9 #[.slice A xs.length c] w fun e w'=>∃ g c' l',e=.returned (.slice (some ⟨g,0,none⟩) xs.length c')/\Sl (L4 w.heap.size) w' Ac7 (some ⟨g,0,none⟩) c' xs l'/\Fresh w' w.heap.size l'/\Below w.heap.size w w':=by
 have hmk:=fun W=>Agi (P:=Tryz.prog) 33 51 #[.string ⟨#[]⟩,.slice none 0 0,.int .i64 0,.int .i64 0,.slice none 0 0] 5 80 Tryz.underlying33 (by kernel_rfl) .i64 .i64 xs.length oM oM W
 go_enter Tryz.func9,Tryz.ntmps9
 go_wp2
 go_loopw [4] (fun i wr=>∃ k:Nat,k<=xs.length/\i=.int .i64 k/\LaidV w.heap.size 51 Ac7 xs.length k xs wr/\Below w.heap.size w wr) fun i _=>xs.length - (intOf i).toNat
 case atStart=>exact ⟨0,by omega,rfl,LaidV.start<|Alp w #[.string ⟨#[]⟩,.slice none 0 0,.int .i64 0,.int .i64 0,.slice none 0 0] (xs.length*5) 51,fG⟩
 case round=>
  obtain ⟨k,hk,rfl,hL,hbl⟩:=hrel;by_cases hlt:k<xs.length
  ·obtain ⟨b,o,f,rfl,_,hs⟩:=Avi h oM;have ⟨A1,c1,l1,A4,c4,l4,e0,e1,e2,e3,e4,s1,s4,_⟩:=hs k hlt;have hok:=hc xs[k]<|getElem_mem hlt;obtain ⟨⟨x0,x1,x2,x3,x4⟩,hx⟩:∃ x,x=xs[k]:=⟨_,rfl⟩
   rw[← hx]at e0 e1 e2 e3 e4 s1 s4 hok;have d0:=A7 hbl e0;have d1:=A7 hbl e1;have d2:=A7 hbl e2;have d3:=A7 hbl e3;have d4:=A7 hbl e4;have hg:=hL.lt;have hX:=Lib.hid hx;have hH:=Lib.hid hL
   clear hs e0 e1 e2 e3 e4 hx hL
   dsimp only at s1 s4 d0 d1 d2 d3 d4
   go_wp2_with fail
   refine (Abr x0 x1 A1 c1 l1 x2 x3 x4 A4 c4 l4 _ (by exact Be s1 hbl) (by exact Be s4 hbl) hok (by exact tab.below hbl)).mono ?_;rintro e w1 ⟨B1,q1,m1,B4,q4,m4,rfl,t1,t4,f1,hb1⟩;have hL1:=hH.out.below hb1;have ⟨F,hrow⟩:=hL1.row;simp only[Ty.size,Nat.reduceAdd]at hrow;obtain ⟨v0,c0⟩:∃ v,w1.cell? ⟨w.heap.size,k*5,none⟩=some v:=⟨_,hrow.cell oM⟩
   have f0:=hrow.frozen<|k*5;obtain ⟨v1,c1'⟩:∃ v,w1.cell? ⟨w.heap.size,k*5+1,none⟩=some v:=⟨_,hrow.cell oM⟩
   have f1':=hrow.frozen<|k*5+1;obtain ⟨v2,c2'⟩:∃ v,w1.cell? ⟨w.heap.size,k*5+2,none⟩=some v:=⟨_,hrow.cell oM⟩
   have f2':=hrow.frozen<|k*5+2;obtain ⟨v3,c3'⟩:∃ v,w1.cell? ⟨w.heap.size,k*5+3,none⟩=some v:=⟨_,hrow.cell oM⟩
   have f3':=hrow.frozen<|k*5+3;obtain ⟨v4,c4'⟩:∃ v,w1.cell? ⟨w.heap.size,k*5+4,none⟩=some v:=⟨_,hrow.cell oM⟩
   have f4':=hrow.frozen<|k*5+4
   have hS:=Lib.hid (hH.out.step (cs:=[.string x0,.slice B1 x1.length q1,.int .i64 x2,.int .i64 x3,.slice B4 x4.length q4]) (l:=m1++m4) hb1 hlt (by
    rw[← hX.out];exact ⟨[_],_,[],_,rfl,⟨rfl,rfl⟩,⟨[_],_,m1,_,rfl,⟨B1,q1,rfl,t1⟩,⟨[_],_,[],_,rfl,⟨rfl,rfl⟩,⟨[_],_,[],_,rfl,⟨rfl,rfl⟩,⟨B4,q4,rfl,t4⟩,rfl⟩,rfl⟩,rfl⟩,rfl⟩) f1)
   clear hrow hL1 t1 t4 f1
   go_wp2
   go_roundw
   case rel=>
    refine ⟨k+1,by omega,by go_num,hS.out,?_⟩;exact X3 (fQ _) (vs:=[.string x0,.slice B1 x1.length q1,.int .i64 x2,.int .i64 x3,.slice B4 x4.length q4]) (o:=k*5)<|hbl.trans<|hb1.mono hbl.size
   case measure=>simp[intOf];omega
  ·obtain rfl:k=xs.length:=by omega
   go_wp2
   go_ret
   have ⟨l',hs,hf⟩:=hL.done rfl (by simp only[maxLen];omega) (lo:=w.heap.size)<|fQ _;exact ⟨_,_,l',rfl,hs,hf,hbl⟩
end
section
set_option maxRecDepth 100000 in
set_option maxHeartbeats 1000000 in
theorem Xb{R:NP}(xs:List Cp)(A:Option Addr)(c:Nat)(l:List Addr)(k:Int)(lo:Nat)(w:World)(h:Sl R w Ac7 A c xs l)(hf:Fresh w lo l)(hk:0<=k/\k+l.length<=9223372036854775807){w0:World}(tab:Tab w0)(hb0:Below w0.heap.size w0 w)(hlo:w0.heap.size<=lo):
  Calls Tryz.prog 15 #[.slice A xs.length c,.int .i64 k] w fun e w'=>e=.returned (.int .i64 (k+l.length))/\MarkedAs l k w w':=by
 have hn:=(Qi h).2;have hTb:∀(F:List Addr) (w':World),(∀ p∈F,lo<=p.block)->MarkedAs F k w w'->Below w0.heap.size w0 w':=fun F w' hF m=>hb0.trans<|m.belowAt (fun p hp=>Nat.le_trans hlo<|hF p hp) hb0.size
 rcases Nat.eq_zero_or_pos xs.length with h0|h0
 ·obtain rfl:xs=[]:=length_eq_zero_iff.1 h0;obtain ⟨_,_,f,rfl,_⟩:=h
  go_enter Tryz.func15,Tryz.ntmps15
  go_wp2
  go_loopw [1,5] (fun m i wr=>i=.int .i64 0/\m=.int .i64 k/\wr=w) fun _ i _=>0
  case atStart=>exact ⟨rfl,rfl,rfl⟩
  case round=>
   obtain ⟨rfl,rfl,rfl⟩:=hrel
   go_wp2
   go_ret
   exact ⟨Vp fS,MarkedAs.nil _ k⟩
 obtain ⟨b,o,f,rfl,rfl,hs⟩:=Avi h h0
 go_enter Tryz.func15,Tryz.ntmps15
 go_wp2
 go_loopw [1,5] (fun m i wr=>∃(j:Nat) (F:List Addr),Hid (F=(range j).flatMap f)/\j<=xs.length/\i=.int .i64 j/\m=.int .i64 (k+F.length)/\MarkedAs F k w wr) fun _ i _=>xs.length - (intOf i).toNat
 case atStart=>exact ⟨0,[],rfl,by omega,rfl,by simp,MarkedAs.nil w k⟩
 case round=>
  obtain ⟨j,F,hFe,hj,rfl,rfl,hm⟩:=hrel;by_cases hlt:j<xs.length
  ·have ⟨A1,c1,l1,A4,c4,l4,e0,e1,e2,e3,e4,s1,s4,hfj⟩:=hs j hlt;have ⟨r,hr⟩:=Vh f hlt;rw[← hFe.out,hfj]at hr;have hk2:=hk;have g0:=hf;rw[hr]at g0 hk2;simp only[length_append,length_cons]at hk2;simp only[cons_append,append_assoc]at g0;have hlob:∀ p∈F,lo<=p.block:=fun p hp=>(g0.2 p<|mem_append_left _ hp).1
   have d1:=hm.header e1;obtain ⟨x,hx⟩:∃ x,x=xs[j]:=⟨_,rfl⟩
   rw[← hx]at e0 e1 e2 e3 e4 s1 s4 d1;have HS:=Lib.hid hs;have HG:=Lib.hid g0;have HM:=Lib.hid hm
   clear hs hm g0 hr hx hf hk h
   go_wp2_with fail
   refine (Yx (k+F.length) oM _<|tab.below<|hTb _ _ hlob HM.out).mono ?_;rintro e w1 ⟨rfl,hb1⟩;have m1:=HM.out.below hb1;have ⟨z0,y0⟩:=m1.spot HG.out e0;have m2:=m1.put HG.out e0 trivial (v:=.string<|Aoc<|k+F.length) rfl;have G1:=HG.out.next1;have d2:=m2.header e1;have t1:=m2.sl_ G1 s1;have f1:=m2.rest G1;have HM2:=Lib.hid m2
   clear m1 m2
   go_wp2_with fail
   refine (Wa x.2.1 A1 c1 l1 (k+F.length+1) lo _ t1 f1 oM tab (hTb _ _ (fun p hp=>(G1.2 p<|mem_append_left _ hp).1) HM2.out) hlo).mono ?_;rintro e w2 ⟨rfl,m3⟩;have m4:=HM2.out.then_ G1 sO m3;have G2:=G1.next;have ⟨z2,y2⟩:=m4.spot G2 e2;have m5:=m4.put G2 e2 trivial (v:=.int .i64<|k+F.length+1+l1.length) (by simp only[Wg,length_append,length_cons,length_nil];congr 1;omega);have G3:=G2.next1;have ⟨z3,y3⟩:=m5.spot G3 e3;have m6:=m5.put G3 e3 trivial (v:=.int .i64<|k+F.length+1+l1.length+1) (by simp only[Wg,length_append,length_cons,length_nil];congr 1;omega);have G4:=G3.next1;have ⟨z3',y3'⟩:=m4.spotM G2 fS e3;have d4:=m6.header e4;have t4:=m6.sl_ G4 s4;have f4:=m6.rest G4;have HM6:=Lib.hid m6
   clear m3 m4 m5 m6
   go_wp2_with fail
   refine (We x.2.2.2.2 A4 c4 l4 (k+F.length+1+l1.length+1+1) lo _ t4 f4 oM).mono ?_;rintro e w3 ⟨rfl,m7⟩;have hM:=Lib.hid<|HM6.out.then_ G4 (by simp only[length_append,length_cons,length_nil];omega) m7
   clear m7 HM6
   go_wp2_with fail
   go_roundw
   case rel=>exact ⟨j+1,_,Lib.hid (by rw[Pg,← hFe.out,hfj];simp),by omega,by go_num,by simp only[length_append,length_cons,length_nil];congr 1;omega,hM.out⟩
   case measure=>simp[intOf];omega
  ·obtain rfl:j=xs.length:=by omega
   go_wp2
   go_ret
   rw[← hFe.out];exact ⟨rfl,hm⟩
end
section
theorem om{p:Prop}(h:p:=by first|(simp;done)|omega|(simp;omega)):p:=h
theorem ol{p:Prop}(h:p:=by first|omega|(simp;omega)|(simp;done)):p:=h
theorem bw{p:Prop}(h:p:=by repeat (first|with_reducible exact Below.refl _ _|((with_reducible refine Below.setCell ?_ ?_ _);rotate_left;exact fO)|((with_reducible refine Below.alloc ?_ ?_ _);rotate_left;exact fO)|(with_reducible refine Below.drew ?_)|(with_reducible refine below_draws_ ?_ _)|((with_reducible first|refine Below.trans ?_ (Below.mono hb_w1 ?_)|refine Below.trans ?_ (Below.mono hb_w2 ?_)|refine Below.trans ?_ (Below.mono hb_w3 ?_)|refine Below.trans ?_ (Below.mono hb_w4 ?_)|refine Below.trans ?_ (Below.mono hb_w5 ?_)|refine Below.trans ?_ (Below.mono hb_w6 ?_)|refine Below.trans ?_ (Below.mono hb_w7 ?_)|refine Below.trans ?_ (Below.mono hb_w8 ?_)|refine Below.trans ?_ (Below.mono hb_w9 ?_)|refine Below.trans ?_ (Below.mono hb_w10 ?_)|refine Below.trans ?_ (Below.mono hb_w11 ?_)|refine Below.trans ?_ (Below.mono hb_w12 ?_)|refine Below.trans ?_ (Below.mono hb_w13 ?_)|refine Below.trans ?_ (Below.mono hb_w14 ?_)|refine Below.trans ?_ (Below.mono hb_w15 ?_)|refine Below.trans ?_ (Below.mono hb_w16 ?_)|refine Below.trans ?_ (Below.mono hb_w17 ?_)|refine Below.trans ?_ (Below.mono hb_w18 ?_)|refine Below.trans ?_ (Below.mono hb_w19 ?_)|refine Below.trans ?_ (Below.mono hb_w20 ?_)|refine Below.trans ?_ (Below.mono hb_w21 ?_)|refine Below.trans ?_ (Below.mono hb_w22 ?_)|refine Below.trans ?_ (Below.mono hb_w23 ?_)|refine Below.trans ?_ (Below.mono hb_w24 ?_)|refine Below.trans ?_ (Below.mono hb_w25 ?_)|refine Below.trans ?_ (Below.mono hb_w26 ?_)|refine Below.trans ?_ (Below.mono hb_w27 ?_)|refine Below.trans ?_ (Below.mono hb_w28 ?_)|refine Below.trans ?_ (Below.mono hb_w29 ?_)|refine Below.trans ?_ (Below.mono hb_w30 ?_));rotate_left;exact fO))):p:=h
theorem Acz{B:Nat}{a w:World}{o o':Obj}(h:Below B a (w.alloc o))(hB:B<=w.heap.size):Below B a (w.alloc o'):=
 h.trans ⟨rfl,rfl,rfl,by simp,fun k hk=>(Below.heap_alloc w o' k oM).trans (Below.heap_alloc w o k oM).symm⟩
theorem Ux{w:World}{o o':Obj}{p:Addr}{u:Value}(h:(w.alloc o).cell? p=some u)(hp:p.block<w.heap.size):(w.alloc o').cell? p=some u:=
 (World.cell?_of_block ((Below.heap_alloc w o' _ hp).trans (Below.heap_alloc w o _ hp).symm)).trans h
theorem Vz{w:World}{p q:Addr}{v u:Value}(h:w.cell? q=some u)(hne:q.block≠p.block):(w.setCell p v).cell? q=some u:=
 ((Marked.setCell w p v).cell q (World.block_lt_of_cell? _ _ h) (fun e=>hne (by rw[mem_singleton.1 e]))).trans h
theorem Afs{w2 w5:World}{lo:Nat}{T:TypeId}{x y:Int}{t:Ty}{B:Option Addr}{d:Nat}{xs:List t.D}{m:List Addr}{b:Bool}(hb:Below w2.heap.size w2 w5)(ht:Sl (L4 lo) w5 t B d xs m)(hlo:w2.heap.size<=lo):
  ∃(gb:Nat) (B':Option Addr) (d':Nat) (m':List Addr),Value.pointer (some ⟨w5.heap.size,0,none⟩)=.pointer (some ⟨gb,0,none⟩)/\Value.bool b=.bool b/\Below w2.heap.size w2 (w5.alloc (.cells #[.int .i64 x,.int .i64 y,.slice B xs.length d] T))/\w2.heap.size<=gb/\gb<(w5.alloc (.cells #[.int .i64 x,.int .i64 y,.slice B xs.length d] T)).heap.size /\
   (w5.alloc (.cells #[.int .i64 x,.int .i64 y,.slice B xs.length d] T)).cell? ⟨gb,0,none⟩=some (.int .i64 x)/\(w5.alloc (.cells #[.int .i64 x,.int .i64 y,.slice B xs.length d] T)).cell? ⟨gb,1,none⟩=some (.int .i64 y)/\(w5.alloc (.cells #[.int .i64 x,.int .i64 y,.slice B xs.length d] T)).cell? ⟨gb,2,none⟩=some (.slice B' xs.length d') /\
   Sl (L4 w2.heap.size) (w5.alloc (.cells #[.int .i64 x,.int .i64 y,.slice B xs.length d] T)) t B' d' xs m' :=
 ⟨_,B,d,m,rfl,rfl,hb.alloc hb.size _,hb.size,by simp,by simp,by simp,by simp,Ayx ht ((Above.refl _ _).alloc _) hlo⟩
theorem Ali{w2 w5:World}{lo g:Nat}{x y:Int}{t:Ty}{B:Option Addr}{d:Nat}{xs:List t.D}{m:List Addr}{b:Bool}{z0 z1 z2:Value}(hb:Below w2.heap.size w2 w5)(ht:Sl (L4 lo) w5 t B d xs m)(hlo:w2.heap.size<=lo)(hg:w2.heap.size<=g)(hl:g<lo)(h5:lo<=w5.heap.size)
  (c0:w5.cell? ⟨g,0,none⟩=some z0) (c1:w5.cell? ⟨g,1,none⟩=some z1) (c2:w5.cell? ⟨g,2,none⟩=some z2):
  ∃(gb:Nat) (B':Option Addr) (d':Nat) (m':List Addr),Value.pointer (some ⟨g,0,none⟩)=.pointer (some ⟨gb,0,none⟩)/\Value.bool b=.bool b/\Below w2.heap.size w2 (((w5.setCell ⟨g,0,none⟩ (.int .i64 x)).setCell ⟨g,1,none⟩ (.int .i64 y)).setCell ⟨g,2,none⟩ (.slice B xs.length d))/\w2.heap.size<=gb/\gb<(((w5.setCell ⟨g,0,none⟩ (.int .i64 x)).setCell ⟨g,1,none⟩ (.int .i64 y)).setCell ⟨g,2,none⟩ (.slice B xs.length d)).heap.size /\
   (((w5.setCell ⟨g,0,none⟩ (.int .i64 x)).setCell ⟨g,1,none⟩ (.int .i64 y)).setCell ⟨g,2,none⟩ (.slice B xs.length d)).cell? ⟨gb,0,none⟩=some (.int .i64 x)/\(((w5.setCell ⟨g,0,none⟩ (.int .i64 x)).setCell ⟨g,1,none⟩ (.int .i64 y)).setCell ⟨g,2,none⟩ (.slice B xs.length d)).cell? ⟨gb,1,none⟩=some (.int .i64 y)/\(((w5.setCell ⟨g,0,none⟩ (.int .i64 x)).setCell ⟨g,1,none⟩ (.int .i64 y)).setCell ⟨g,2,none⟩ (.slice B xs.length d)).cell? ⟨gb,2,none⟩=some (.slice B' xs.length d') /\
   Sl (L4 w2.heap.size) (((w5.setCell ⟨g,0,none⟩ (.int .i64 x)).setCell ⟨g,1,none⟩ (.int .i64 y)).setCell ⟨g,2,none⟩ (.slice B xs.length d)) t B' d' xs m':=by
 have k1:∀{w:World} {i j:Nat} {u v:Value},i≠j->w.cell? ⟨g,i,none⟩=some u->(w.setCell ⟨g,j,none⟩ v).cell? ⟨g,i,none⟩=some u:=fun {w i j u v} hne h=>
  ((Marked.setCell w ⟨g,j,none⟩ v).cell _ (World.block_lt_of_cell? _ _ h) fun e=>hne (by have:=mem_singleton.1 e;injection this)).trans h
 refine ⟨g,B,d,m,rfl,rfl,((hb.setCell hg _).setCell hg _).setCell hg _,hg,by simp[World.setCell];omega,?_,?_,?_,Ayx ht ((((Above.refl _ _).setCell hl _).setCell hl _).setCell hl _) hlo⟩
 ·exact k1 (by decide)<|k1 (by decide)<|World.cell?_setCell_same _ _ _ c0
 ·exact k1 (by decide)<|World.cell?_setCell_same _ _ _<|k1 (by decide) c1
 ·exact World.cell?_setCell_same _ _ _<|k1 (by decide)<|k1 (by decide) c2
theorem C6{w:World}{vs:Array Value}{T:TypeId}{i:Nat}{v:Value}(h:vs[i]? =some v):(w.alloc (.cells vs T)).cell? ⟨w.heap.size,i,none⟩=some v:=by
 simp[World.cell?_alloc_new,h]
theorem Agb{P:Program}{G:WP}{g:FuncId}{args:LA}{n:Int}{vs:LV}{w:World}(h:Da P G g args ⟨false,[(false,[.sc (.int .i64 n)])]⟩)(hG:∀ w',Below w.heap.size w w'->G w')(hr:AV.RepL (fun _=>none) (fun _=>True) w args vs):Calls P g vs.toArray w fun e w'=>e=.returned (.int .i64 n)/\Below w.heap.size w w':=by
 refine (h w (fun _=>True) vs hG hr).mono ?_;rintro e w' ⟨u,rfl,hb,us,ls,h1,_,rfl⟩;obtain ⟨u1,us1,rfl,h2,_,rfl,rfl⟩:=h1;obtain rfl:u1=.int .i64 n:=h2;exact ⟨rfl,hb⟩
theorem Ud{P:Program}{G:WP}{g:FuncId}{args:LA}{b:Bool}{vs:LV}{w:World}(h:Da P G g args ⟨false,[(false,[.sc (.bool b)])]⟩)(hG:∀ w',Below w.heap.size w w'->G w')(hr:AV.RepL (fun _=>none) (fun _=>True) w args vs):Calls P g vs.toArray w fun e w'=>e=.returned (.bool b)/\Below w.heap.size w w':=by
 refine (h w (fun _=>True) vs hG hr).mono ?_;rintro e w' ⟨u,rfl,hb,us,ls,h1,_,rfl⟩;obtain ⟨u1,us1,rfl,h2,_,rfl,rfl⟩:=h1;obtain rfl:u1=.bool b:=h2;exact ⟨rfl,hb⟩
section
variable{R R':NP}{w:World}
theorem M9(l:List Cp)(A:Option Addr)(c:Nat)(ll:List Addr){v y:Int}(h:Gu l v=some y)(w:World)(s:Sl R w Ac7 A c l ll)(tab:Tab w):
  Calls Tryz.prog 6 #[.slice A l.length c,.int .i64 v] w fun e w'=>e=.returned (.int .i64 y)/\Below w.heap.size w w' :=
 Agb (vs:=[.slice A l.length c,.int .i64 v]) (Uz h) (fun _ hb=>tab.below hb) ⟨_,_,rfl,⟨A,c,ll,rfl,Li s⟩,⟨_,_,rfl,rfl,rfl⟩⟩
theorem As2(xs:List Nd){v:Int}(hv:0<=v/\v<=1048576)(hx:xs.length<=9223372036854775807)(hs:∀ n∈xs,n.2.2.size<=9223372036854775807):∃ y,Ia xs v=some y/\(y<0∨(0<=y/\y<=v/\xs.length<=1048576)):=by
 unfold Ia;obtain ⟨z,hz,k1|⟨k1,k2,k3⟩⟩:=Ah1 xs hv hx hs
 ·rw[hz,obs,Av k1];exact ⟨_,rfl,.inl oM⟩
 ·rw[hz,obs,At oM];exact ⟨_,rfl,.inr ⟨k1,k2,by omega⟩⟩
theorem Afp(xs:List Nd)(A:Option Addr)(c:Nat)(l:List Addr){v y:Int}(h:Ia xs v=some y)(w:World)(s:Sl R w Uk A c xs l)(tab:Tab w):
  Calls Tryz.prog 7 #[.agg #[.slice A xs.length c],.int .i64 v] w fun e w'=>e=.returned (.int .i64 y)/\Below w.heap.size w w' :=
 Agb (vs:=[.agg #[.slice A xs.length c],.int .i64 v]) (U7 h) (fun _ hb=>tab.below hb) ⟨_,_,rfl,⟨_,rfl,⟨_,_,rfl,⟨A,c,l,rfl,Li s⟩,rfl⟩⟩,⟨_,_,rfl,rfl,rfl⟩⟩
theorem Yk(l:List Cp)(A:Option Addr)(c:Nat)(ll:List Addr)(B:Option Addr)(d:Nat)(m:List Addr)(w:World)(s:Sl R w Ac7 A c l ll)(t:Sl R' w Ac7 B d l m)(hn:l.length<=1048576)(hc:∀ x∈l,V5 x)(tab:Tab w):
  Calls Tryz.prog 13 #[.slice A l.length c,.slice B l.length d] w fun e w'=>e=.returned (.bool true)/\Below w.heap.size w w' :=
 Ud (vs:=[.slice A l.length c,.slice B l.length d]) (Uv (Axc l hn hc)) (fun _ hb=>tab.below hb) ⟨_,_,rfl,⟨A,c,ll,rfl,Li s⟩,⟨_,_,rfl,⟨B,d,m,rfl,Li t⟩,rfl⟩⟩
theorem Akk(xs:List Nd)(A:Option Addr)(c:Nat)(l:List Addr)(B:Option Addr)(d:Nat)(m:List Addr)(w:World)(s:Sl R w Uk A c xs l)(t:Sl R' w Uk B d xs m)(hn:xs.length<=1048576)(tab:Tab w):
  Calls Tryz.prog 14 #[.agg #[.slice A xs.length c],.agg #[.slice B xs.length d]] w fun e w'=>e=.returned (.bool true)/\Below w.heap.size w w' :=
 Ud (vs:=[.agg #[.slice A xs.length c],.agg #[.slice B xs.length d]]) (Ve (by unfold N1;rw[Ah0 xs oM];rfl)) (fun _ hb=>tab.below hb) ⟨_,_,rfl,⟨_,rfl,⟨_,_,rfl,⟨A,c,l,rfl,Li s⟩,rfl⟩⟩,⟨_,_,rfl,⟨_,rfl,⟨_,_,rfl,⟨B,d,m,rfl,Li t⟩,rfl⟩⟩,rfl⟩⟩
theorem O2(x0 x1:Int)(xs:ZA)(A:Option Addr)(c:Nat)(l:List Addr)(B:Option Addr)(d:Nat)(m:List Addr)(w:World)(s:Sl R w (.slice .int) A c xs l)(t:Sl R' w (.slice .int) B d xs m)(hn:xs.length<=1000)(hr:I4 1000 xs)(tab:Tab w):
  Calls Tryz.prog 12 #[.agg #[.int .i64 x0,.int .i64 x1,.slice A xs.length c],.agg #[.int .i64 x0,.int .i64 x1,.slice B xs.length d]] w fun e w'=>e=.returned (.bool true)/\Below w.heap.size w w' :=
 Ud (vs:=[.agg #[.int .i64 x0,.int .i64 x1,.slice A xs.length c],.agg #[.int .i64 x0,.int .i64 x1,.slice B xs.length d]]) (P2 (Yi x0 x1 xs oM (fun x hx=>Nat.le_trans (hr x hx) oM))) (fun _ hb=>tab.below hb)
  ⟨_,_,rfl,⟨_,rfl,⟨_,_,rfl,rfl,⟨_,_,rfl,rfl,⟨_,_,rfl,⟨A,c,l,rfl,Li s⟩,rfl⟩⟩⟩⟩,⟨_,_,rfl,⟨_,rfl,⟨_,_,rfl,rfl,⟨_,_,rfl,rfl,⟨_,_,rfl,⟨B,d,m,rfl,Li t⟩,rfl⟩⟩⟩⟩,rfl⟩⟩
end
theorem Aej{α:Type}(f:α->Nat)(M:Nat):∀(xs:List α),(∀ x∈xs,f x<=M)->(xs.map f).sum<=xs.length*M
 | [],_=>by simp
 | x :: xs,h=>by
  simp only[map_cons,sum_cons,length_cons,Nat.succ_mul];have:=Aej f M xs fun y hy=>h y (mem_cons_of_mem _ hy)
  have:=h x mem_cons_self;omega
theorem Alc(x:List Int):(Ty.slice Ty.int).cnt x=x.length:=by
 show (x.map fun _=>1).sum=_;rw[map_const',sum_replicate_nat];omega
theorem Avc{R:NP}{w:World}{A:Option Addr}{c:Nat}{xs:ZA}{l:List Addr}(h:Sl R w (.slice .int) A c xs l)(h1:xs.length<=1000)(h2:I4 1000 xs):l.length<=1000000:=by
 rw[An0 h];refine Nat.le_trans (Aej _ 1000 xs fun x hx=>?_)<|Nat.mul_le_mul_right _ h1;rw[Alc];exact h2 x hx
theorem Awm{R:NP}{w:World}{A:Option Addr}{c:Nat}{xs:List Nd}{l:List Addr}(h:Sl R w Uk A c xs l)(h1:xs.length<=1048576):l.length<=3145728:=by
 have:=Q5 (t:=Uk) rfl h;simp only[Ty.size,Nat.reduceAdd]at this;omega
theorem Ax2{R:NP}{w:World}{A:Option Addr}{c:Nat}{xs:List Cp}{l:List Addr}(h:Sl R w Ac7 A c xs l)(h1:xs.length<=1048576)(h2:∀ x∈xs,V5 x):l.length<=1200000000000000000:=by
 rw[An0 h];refine Nat.le_trans (Aej _ 1099514777603 xs fun x hx=>?_) (Nat.le_trans (Nat.mul_le_mul_right _ h1) (by decide));have ⟨q1,q2,q3⟩:=h2 x hx
 have e1:(Ty.slice Uk).cnt x.2.1<=3145728:=by
  show (x.2.1.map _).sum<=_;refine Nat.le_trans (Aej _ 3 x.2.1 fun y _=>Nat.le_of_eq<|Ty.cnt_flat (t:=Uk) y rfl) ?_;omega
 have e2:(Ty.slice<|.slice .int).cnt x.2.2.2.2<=1099511627776:=by
  show (x.2.2.2.2.map _).sum<=_;refine Nat.le_trans (Aej _ 1048576 x.2.2.2.2 fun y hy=>?_)<|Nat.mul_le_mul_right 1048576 q2;rw[Alc];exact q3 y hy
 show 1+((Ty.slice Uk).cnt x.2.1+(1+(1+(Ty.slice<|.slice .int).cnt x.2.2.2.2)))<=_;omega
end
section
set_option maxRecDepth 4000
set_option maxHeartbeats 4800000
variable{bA bB bC bD bE:Int}{pA:List (ByteArray×(List ZB)×Int×Int×LL)}{hA:List ZB}{cA:Bool}{aA aB:List Int}{dA dB:LL}{qA:Int×Int×LL}
def Eb(u1:List ZB)(a0:Int)(u0:Nat):Option (Ctl Nat (Ctl Unit Bool)):=
 cond (decide ((u0:Int)<(u1.length:Int)))
 ((u1[u0]?).bind fun x24=>
 (cond (x24.1==7)
   (some (decide (a0<=x24.2.1)))
   (cond (x24.1==13)
    (some (decide (a0<=x24.2.1)))
    (some false))).bind fun u2=>
 cond u2
  (some (.out (.out false)))
  (og (u0+1<4611686018427387904)<|
  some (.next (u0+1))))
 (some (.out (.next ())))
def Lb(a0:Int)(a1:List (ByteArray×(List ZB)×Int×Int×LL))(u0:List ZB):Option Bool:=
 ((Pd a0 a1).bind fun y4=>
 cond (!y4)
  (some true)
  ((F8 u0).bind fun y6=>
  some (!y6))).bind fun u1=>
cond u1
 (some false)
 ((Dj a1).bind fun y11=>
 (H9 y11 u0).bind fun y12=>
 cond (!y12.2.2.2)
  (some false)
  (Dg (Aq (fun s_:Nat=>Eb u0 a0 s_) 4611686018427387904 0) fun _=>
  some true))
theorem Z8(h:Lb bA pA hA=some cA):cK 29 [ai bA,.tree Yg pA,.agg [.tree Y8 hA]] (An cA):=by
 refine cO Tryz.func29<|Ae<|Ab<|sqF h (fun u2=>sT [(0,ai bA),(1,.tree Yg pA),(5,.box (oi 0 1) 0),(19,.bool u2)] [(oi 0 1,.cells 37 [.tree Y8 hA])]) ?_ ?_
 ·intro _ h;refine Aa 12<|rsT 2 (rcH h Agp fun y4 h=>rsT 2 ?_);rcases A5 h with ⟨q5,h⟩|⟨q5,h⟩
  ·exact rq 15 q5<|rsT 4<|Ao<|tn_<|jE [(oi 0 1,oi 5 1)]
  exact rq 15 q5<|rsT 1 (rcH h Qa fun y6 h=>rsT 2<|Ao<|tn_<|jE [(oi 0 1,oi 5 1)])
 intro u2 h;refine kQ h (fun _ h=>Ae<|Ac<|tr_<|jS h) fun _ h=>skW<|Ab<|Ab<|Al 12<|dz0 (.tree Yg pA) ?_
 have ⟨y11,h11,h⟩:=Ah h;exact Aga (.tree Ye y11) [] [.tree Yg pA] _ (caps:=[]) trivial (Mt h11) kr<|dzl (.agg [.tree Y8 hA]) (dcH h Ul fun y12 h=>dsT 3<|ds1 (.box (oi 7 9) 0) (oi 7 9) (.cells 83 [.nils,.nils,.nils]) kr<|J4 (oi 7 9) (oi 7 9) (.cells 83 [oI 384 5 y12.1.length,oI 385 5 y12.2.1.length,oI 386 5 y12.2.2.1.length]) kr<|dz0 (.bool y12.2.2.2)<|Cb (As kr)<|tn_<|wr_<|Ae (kQ h (fun _ h=>Ae<|Ac<|tr_<|jS h) fun _ h=>skW (sqC h (fun _=>sT [] []) (fun _ h hk16=>Ae<|Ad<|lpF h (fun u1=>sT [(0,ai bA),(30,.tree Y8 hA),(31,an hA.length),(32,an u1)] []) (Ag []) fun n_ u1 c_ h hn18=>Ae<|Ab (kQ h (fun _ h=>skW<|Ab<|Ad<|Ab<|Aa 7 (riH Y8 h fun x24 _ h=>rsB 3<|rnW (sqF h (fun u3=>sT [(0,ai bA),(30,.tree Y8 hA),(31,an hA.length),(32,an u1),(49,.bool u3)] []) (fun _ h=>Aa 21<|rsT 4 (kR h 39 (fun _ h=>rsT 10<|Ao<|tn_<|jE []) fun _ h=>rsT 5 (kR h 44 (fun _ h=>rsT 5<|Ao<|tn_<|jE []) fun _ h=>rsT 5<|Ao<|tn_<|jE []))) fun u3 h=>kQ h (fun _ h=>Ae<|Ac<|br_<|tr_<|tr_<|br_<|tr_ (have h:=jO h hn18;(have h:=jO h hk16;jS h))) fun _ h=>Ay<|bn_<|tn_<|wr_<|Aa 4 (raH h fun h=>rsT 1<|Ao<|tn_<|jL [])))) fun _ h=>lxT (have h:=jO h hn18;jC []))) fun _ h=>Ae<|Ac<|jS h)))
def Jm(a0:List Int)(u0:Nat):Option (Ctl Nat Nat):=
 (cond (decide ((u0:Int)<(a0.length:Int)))
  ((a0[u0]?).bind fun x8=>
  some (x8==0))
  (some false)).bind fun u1=>
cond u1
 (og (u0+1<4611686018427387904)<|
 some (.next (u0+1)))
 (some (.out u0))
def Kq(a0:List Int):Option Int:=
 (Aq (fun s_:Nat=>Jm a0 s_) 4611686018427387904 0).bind fun u0=>
some (u0:Int)
theorem U9(h:Kq aA=some bA):cK 147 [tI aA] (A8 bA):=by
 refine cO Tryz.func147<|Ae<|Ae (sqF h (fun u1=>sT [(3,an u1)] []) ?_ fun u1 h=>Ae<|Ac<|jS h);intro _ h;refine Ad<|lpF h (fun u0=>sT [(0,tI aA),(3,an u0)] []) (Ag []) ?_;intro n_ u0 c_ h hn4;refine Ab (sqF h (fun u2=>sT [(0,tI aA),(3,an u0),(14,.bool u2)] []) ?_ fun u2 h=>kQ h (fun _ h=>skW<|Ad<|Aa 5<|rsT 1 (raH h fun h=>rsT 1<|Ao<|bn_<|tn_<|jL [])) fun _ h=>lxT (have h:=jO h hn4;jE []));intro _ h;refine Aa 13<|rsT 5 ?_;rcases A5 h with ⟨q7,h⟩|⟨q7,h⟩
 ·exact rq 8 q7<|rsT 2 (riH .int h fun x8 _ h=>rsT 3<|Ao<|tn_<|jE [])
 exact rq 8 q7<|rsT 6<|Ao<|tn_<|jE []
def Jz(a1:Int)(u0:Nat)(u1:List Int):Option (Ctl (Nat×List Int) (List Int)):=
 cond (decide ((u0:Int)<(a1.toNat:Int)))
 ((u1[u0]?).bind fun x15=>
 og (u0+1<4611686018427387904)<|
 some (.next (u0+1,u1.set u0 (-1))))
 (some (.out u1))
def Ju(y4:LL)(u0:Nat)(u1:List Int):Option (Ctl (Nat×List Int) (List Int)):=
 cond (decide ((u0:Int)<(y4.length:Int)))
 ((y4[u0]?).bind fun x25=>
 (Kq x25).bind fun y26=>
 (Bz u1 y26).bind fun x27=>
 og (u0+1<4611686018427387904)<|
 some (.next (u0+1,u1.set y26.toNat (u0:Int))))
 (some (.out u1))
def Jr(y4:LL)(u2:Nat)(a0:Int)(u0:Nat)(u1:List Int):Option (Ctl (Nat×List Int) (List Int)):=
 cond (decide ((u0:Int)<(y4.length:Int)))
 ((y4[u0]?).bind fun x53=>
 (Kq x53).bind fun y54=>
 (x53[u2]?).bind fun x55=>
 (Ge a0 x55).bind fun y56=>
 (Bz u1 y54).bind fun x57=>
 og (u0+1<4611686018427387904)<|
 some (.next (u0+1,u1.set y54.toNat y56)))
 (some (.out u1))
def Jt(a1:Int)(u2:List Int)(y4:LL)(a0:Int)(u0:Nat)(u1:LL):Option (Ctl (Nat×LL) (LL)):=
 cond (decide ((u0:Int)<a1))
 (((u2[u0]?).bind fun x39=>
  cond (decide (0<=x39))
   (some u1)
   (og (0<=a1/\a1<=a1/\a1<=1073741824/\(8:Int)*a1<=140737488355328)<|
   ((replicate a1.toNat (0:Int))[u0]?).bind fun x44=>
   (Aq (fun s_:Nat×List Int=>Jr y4 u0 a0 s_.1 s_.2) 4611686018427387904 (0,(replicate a1.toNat (0:Int)).set u0 1)).bind fun u3=>
   og (u1.length+1<=1073741824/\(u1.length+1)*24<=140737488355328)<|
   some (u1++[u3]))).bind fun u4=>
 og (u0+1<4611686018427387904)<|
 some (.next (u0+1,u4)))
 (some (.out u1))
def Ko(a0 a1:Int)(a2:LL):Option LL:=
 (E1 a0 a1 a2).bind fun y4=>
og (0<=a1/\a1<=a1/\a1<=1073741824/\(8:Int)*a1<=140737488355328)<|
(Aq (fun s_:Nat×List Int=>Jz a1 s_.1 s_.2) 4611686018427387904 (0,replicate a1.toNat (0:Int))).bind fun u0=>
(Aq (fun s_:Nat×List Int=>Ju y4 s_.1 s_.2) 4611686018427387904 (0,u0)).bind fun u1=>
(Aq (fun s_:Nat×LL=>Jt a1 u1 y4 a0 s_.1 s_.2) 4611686018427387904 (0,([]:LL))).bind fun u2=>
(E1 a0 a1 u2).bind fun y62=>
some y62
theorem T3(h:Ko bA bB dA=some dB):Ed Tryz.prog Tab 100 [ai bA,ai bB,tS dA] [] (oS 0 1 dB.length) [(oi 0 1,.mat 81 (oi 1 1) .int dB),(oi 1 1,.pool 3 .int dB)]:=by
 refine B8 kr Tryz.func100 (Ck kr) (n:=89) kr fS rfl kr trivial ⟨⟨3,.tail _<|.head _⟩,⟨trivial,trivial⟩⟩<|Ae<|Ab<|Aa 7<|rsT 3 (rcM h [] [ai bA,ai bB,tS dA] Jq trivial (aR kr) (Bb kr kr trivial) fun y4 h=>rsT 1<|rnW<|Ab<|Aa 10<|rsT 1 ?_);have ⟨g6,h⟩:=Aj h;refine rs1 (oI 22 8 bB.toNat) (oi 22 8) (.arr 3 .int<|replicate bB.toNat (0:Int)) (Qh (t:=.int) (k:=.i64) (k':=.i64) (m:=bB) (m':=bB) kr kr g6 rfl)<|rsT 1<|rnW<|sqF h (fun ub=>sT [(0,ai bA),(1,ai bB),(7,oS 0 1 y4.length),(8,oI 2 1 ub.length)] [(oi 0 1,.mat 81 (oi 1 1) .int y4),(oi 1 1,.pool 3 .int y4),(oi 2 1,.arr 3 .int ub)]) ?_ ?_
 ·intro _ h;refine Ae<|Ad<|lpF h (fun (uc,u5)=>sT [(0,ai bA),(1,ai bB),(7,oS 0 1 y4.length),(8,oI 2 1 u5.length),(24,an bB.toNat),(25,an uc)] [(oi 0 1,.mat 81 (oi 1 1) .int y4),(oi 1 1,.pool 3 .int y4),(oi 2 1,.arr 3 .int u5)]) ((wL 8 (length_replicate.symm:bB.toNat=(replicate bB.toNat (0:Int)).length)).trans<|Ag [(oi 0 1,oi 320 5),(oi 1 1,oi 321 5),(oi 2 1,oi 22 8)]) ?_;rintro n_ ⟨uc,u5⟩ c_ h hn9;refine Ae<|Ab (kQ h (fun _ h=>skW<|Ab<|Ad<|Ae<|Aa 9<|rsT 2 ?_) fun _ h=>lxT (have h:=jO h hn9;jE []));have ⟨x15,e15,h⟩:=Ah h;refine zO (oi 2 1) .int u5.length (Ai e15)<|zS (oi 2 1) (-1) e15<|Ao<|bn_<|tn_<|wr_<|Aa 11 (raH h fun h=>rsT 1<|Ao<|tn_ ?_);cases h;exact jLw hn9<|(wL 8 (((rfl:u5.length=u5.length).trans length_set.symm):u5.length=(u5.set uc<|-1).length)).trans<|Ag []
 intro ub h;refine sqF h (fun u1=>sT [(0,ai bA),(1,ai bB),(7,oS 0 1 y4.length),(8,oI 2 1 u1.length)] [(oi 0 1,.mat 81 (oi 1 1) .int y4),(oi 1 1,.pool 3 .int y4),(oi 2 1,.arr 3 .int u1)]) ?_ ?_
 ·intro _ h;refine Ae<|Ad<|lpF h (fun (u8,u6)=>sT [(0,ai bA),(1,ai bB),(7,oS 0 1 y4.length),(8,oI 2 1 u6.length),(32,oS 0 1 y4.length),(33,an y4.length),(34,an u8)] [(oi 0 1,.mat 81 (oi 1 1) .int y4),(oi 1 1,.pool 3 .int y4),(oi 2 1,.arr 3 .int u6)]) (Ag []) ?_;rintro n_ ⟨u8,u6⟩ c_ h hn19;refine Ae<|Ab (kQ h (fun _ h=>skW<|Ab<|Ad<|Ab<|Aa 8<|rsT 1 ?_) fun _ h=>lxT (have h:=jO h hn19;jE []));have ⟨x25,e25,h⟩:=Ah h;refine zO (oi 0 1) sI y4.length (Ai e25)<|rsl (.own (kid (oi 1 1) u8) .int 0 x25.length) (Ff (o:=oi 0 1) (p:=oi 1 1) (e1:=81) (u:=.int) (xss:=y4) (row:=x25) (j:=u8) kr kr e25)<|rsT 2<|rnW<|Aa 14<|rsT 2 (rcG h [.own (kid (oi 1 1) u8) .int 0 x25.length] U9 (Au (G9 (e:=3) (u:=.int) (xs:=x25) (Bp kr e25) rfl) Dm) fun y26 h=>rsT 1 ?_);have ⟨x27,f27,h⟩:=Ah h;have ⟨p27,b27,e27⟩:=Ar f27;refine rs0 (.elt (oi 2 1) y26.toNat 0) (zo (t:=.int) (o:=oi 2 1) (len:=u6.length) (k:=.i64) (m:=y26) p27<|Ai e27)<|zS (oi 2 1) ((u8:Int)) e27<|Ao<|bn_<|tn_<|wr_<|Aa 16 (raH h fun h=>rsT 1<|Ao<|tn_ ?_);cases h;exact jLw hn19<|(wL 8 (((rfl:u6.length=u6.length).trans length_set.symm):u6.length=(u6.set y26.toNat (u8:Int)).length)).trans<|Ag []
 intro u1 h;refine Ae (sqF h (fun u9=>sT [(0,ai bA),(1,ai bB),(12,oS 0 1 u9.length)] [(oi 0 1,.mat 81 (oi 1 1) .int u9),(oi 1 1,.pool 3 .int u9)]) ?_ fun u9 h=>Ab<|Aa 7<|rsT 3 (rcM h [] [ai bA,ai bB,oS 0 1 u9.length] Jq trivial (.cons (.ren kr)<|.cons (.ren kr)<|.cons (.gnd kr<|Tl (p:=oi 1 1) (e1:=81) (e:=3) (u:=.int) (xss:=u9) ((K6 kr kr kr).trans kr) (Aaq kr kr (Ey kr) kr) rfl) .nil) (Bb kr kr trivial) fun y62 h=>rsT 1<|rnW<|Ac (by obtain rfl:=osj h;exact E4 [oS 0 1 y62.length]<|Ag (tl:=[(6,oS 0 1 y62.length)]) (g:=2) [(oi 0 1,oi 1408 5),(oi 1 1,oi 1409 5)])));intro _ h;refine Ae<|Ad<|lpF h (fun (u2,u0)=>sT [(0,ai bA),(1,ai bB),(7,oS 0 1 y4.length),(8,oI 2 1 u1.length),(12,oS 3 1 u0.length),(13,an u2)] [(oi 0 1,.mat 81 (oi 1 1) .int y4),(oi 1 1,.pool 3 .int y4),(oi 2 1,.arr 3 .int u1),(oi 3 1,.mat 81 (oi 4 1) .int u0),(oi 4 1,.pool 3 .int u0)]) ((Nh 12 81 sI kr).trans<|(Dv (e1:=81) (n:=0) 9000 (oi 12 4) 3 .int kr kr rfl kr kr).trans<|Ag [(oi 3 1,oi 12 4),(oi 4 1,oi 9000 5)]) ?_;rintro n_ ⟨u2,u0⟩ c_ h hn32;refine Ab<|Ae (kQ h (fun _ h=>skW (sqF h (fun ua=>sT [(0,ai bA),(1,ai bB),(7,oS 0 1 y4.length),(8,oI 2 1 u1.length),(12,oS 3 1 ua.length),(13,an u2)] [(oi 0 1,.mat 81 (oi 1 1) .int y4),(oi 1 1,.pool 3 .int y4),(oi 2 1,.arr 3 .int u1),(oi 3 1,.mat 81 (oi 4 1) .int ua),(oi 4 1,.pool 3 .int ua)]) ?_ fun ua h=>Aa 5<|rsT 1 (raH h fun h=>rsT 1<|Ao<|tn_<|jL []))) fun _ h=>lxT (have h:=jO h hn32;jE [(oi 0 1,oi 3 1),(oi 1 1,oi 4 1)]));intro _ h;refine Ad<|Ab<|Ab<|Aa 10<|rsT 2 ?_;have ⟨x39,e39,h⟩:=Ah h;refine zO (oi 2 1) .int u1.length (Ai e39)<|zE (oi 2 1) e39<|rsT 1<|rnW (kQ h (fun _ h=>D9<|te_<|be_<|tn_<|jE []) fun _ h=>skW<|Ab<|Aa 13<|rsT 1 ?_);have ⟨g42,h⟩:=Aj h;refine rs1 (oI 56 11 bB.toNat) (oi 56 11) (.arr 3 .int<|replicate bB.toNat (0:Int)) (Qh (t:=.int) (k:=.i64) (k':=.i64) (m:=bB) (m':=bB) kr kr g42 rfl)<|rsT 1<|rnW<|Ab<|Aa 17<|rsT 2 ?_;have ⟨x44,e44,h⟩:=Ah h;refine rs0 (.elt (oi 56 11) u2 0) (zo (t:=.int) (o:=oi 56 11) (len:=bB.toNat) (k:=.i64) (m:=(u2:Int)) (D7 _)<|Nat.lt_of_lt_of_le (Ai e44)<|Nat.le_of_eq<|Eq.symm length_replicate.symm)<|zS (oi 56 11) (1) e44<|rnW<|sqF h (fun u4=>sT [(0,ai bA),(1,ai bB),(7,oS 0 1 y4.length),(8,oI 2 1 u1.length),(12,oS 3 1 u0.length),(13,an u2),(14,oI 5 1 u4.length)] [(oi 0 1,.mat 81 (oi 1 1) .int y4),(oi 1 1,.pool 3 .int y4),(oi 2 1,.arr 3 .int u1),(oi 3 1,.mat 81 (oi 4 1) .int u0),(oi 4 1,.pool 3 .int u0),(oi 5 1,.arr 3 .int u4)]) ?_ ?_
 ·intro _ h;refine Ae<|Ad<|lpF h (fun (u3,u7)=>sT [(0,ai bA),(1,ai bB),(7,oS 0 1 y4.length),(8,oI 2 1 u1.length),(12,oS 3 1 u0.length),(13,an u2),(14,oI 5 1 u7.length),(60,oS 0 1 y4.length),(61,an y4.length),(62,an u3)] [(oi 0 1,.mat 81 (oi 1 1) .int y4),(oi 1 1,.pool 3 .int y4),(oi 2 1,.arr 3 .int u1),(oi 3 1,.mat 81 (oi 4 1) .int u0),(oi 4 1,.pool 3 .int u0),(oi 5 1,.arr 3 .int u7)]) ((wL 14 ((length_replicate.symm.trans length_set.symm):bB.toNat=((replicate bB.toNat (0:Int)).set u2 1).length)).trans<|Ag [(oi 5 1,oi 56 11)]) ?_;rintro n_ ⟨u3,u7⟩ c_ h hn47;refine Ae<|Ab (kQ h (fun _ h=>skW<|Ab<|Ad<|Ab<|Aa 8<|rsT 1 ?_) fun _ h=>lxT (have h:=jO h hn47;jE []));have ⟨x53,e53,h⟩:=Ah h;refine zO (oi 0 1) sI y4.length (Ai e53)<|rsl (.own (kid (oi 1 1) u3) .int 0 x53.length) (Ff (o:=oi 0 1) (p:=oi 1 1) (e1:=81) (u:=.int) (xss:=y4) (row:=x53) (j:=u3) kr kr e53)<|rsT 2<|rnW<|Al 22<|dsT 3<|dzO (oi 0 1) sI y4.length (Ai e53)<|dsl (.own (kid (oi 1 1) u3) .int 0 x53.length) (Ff (o:=oi 0 1) (p:=oi 1 1) (e1:=81) (u:=.int) (xss:=y4) (row:=x53) (j:=u3) kr kr e53) (dcG h [.own (kid (oi 1 1) u3) .int 0 x53.length] U9 (Au (G9 (e:=3) (u:=.int) (xs:=x53) ((K9<|Rr (t:=.int) (off:=0) (len:=x53.length) 0 rfl kr).trans<|Bp kr e53) rfl) Dm) fun y54 h=>dz0 (ai bA)<|dz0 (.own (kid (oi 1 1) u3) .int 0 x53.length)<|dz0 (an u2) ?_);have ⟨x55,e55,h⟩:=Ah h;refine ds0 (.elt (kid (oi 1 1) u3) u2 0) (zo (t:=.int) (o:=kid (oi 1 1) u3) (len:=x53.length) (k:=.i64) (m:=(u2:Int)) (D7 _)<|Ai e55)<|dsl (ai x55) (Hh (i:=kid (oi 1 1) u3) (j:=u2) (k:=0) (e:=3) (t:=.int) (xs:=x53) kr (Af7.trans<|Bp kr e53) e55 kr) (dcH h Rj fun y56 h=>?_);have ⟨x57,f57,h⟩:=Ah h;have ⟨p57,b57,e57⟩:=Ar f57;refine ds0 (.elt (oi 5 1) y54.toNat 0) (zo (t:=.int) (o:=oi 5 1) (len:=u7.length) (k:=.i64) (m:=y54) p57<|Ai e57)<|dzS (oi 5 1) (y56) e57<|Cb (As kr)<|bn_<|tn_<|wr_<|Aa 24 (raH h fun h=>rsT 1<|Ao<|tn_ ?_);cases h;exact jLw hn47<|(wL 14 (((rfl:u7.length=u7.length).trans length_set.symm):u7.length=(u7.set y54.toNat y56).length)).trans<|Ag []
 intro u4 h;refine Aa 7<|rsT 2<|Hd (oS 83 4 1) (oi 83 4) (.vec 81 1 1<|[oI 5 1 u4.length]) trivial (Co kr) ?_;have ⟨g59,h⟩:=Aj h;refine rs2 (oS 3 5<|u0.length+1) (oi 3 1) (oi 3 5) (.vec 81 1 (u0.length+1)<|hdL (oi 4 1) .int u0++[oI 5 1 u4.length]) (Iz (u:=.int) (t':=sI) (t2:=sI) (o:=oi 3 1) (q:=oi 83 4) (e2:=81) (p:=oi 4 1) (xss:=u0) (cs:=[oI 5 1 u4.length]) (len:=u0.length) kr kr rfl kr kr rfl g59)<|rsT 1<|Ao<|bn_<|tn_ ?_;cases h;exact (Ew (e1:=81) (e:=3) (u:=.int) (n:=u0.length+1) (len:=u4.length) (row:=u4) (ys:=u4) (xss:=u0) 9000 (oi 3 5) (oi 4 1) (oi 5 1) kr kr rfl kr kr (Oh rfl) (Ow rfl) kr kr kr).trans<|(wL 12 (fS:u0.length+1=(u0++[u4]).length)).trans<|Ag [(oi 3 1,oi 3 5),(oi 4 1,oi 9000 7)]
def K7(x12 a3:List Int)(u2:Nat)(a0:Int)(u0:Nat)(u1:List Int):Option (Ctl (Nat×List Int) (List Int)):=
 cond (decide ((u0:Int)<(x12.length:Int)))
 ((x12[u0]?).bind fun x20=>
 (u1[u0]?).bind fun x21=>
 (a3[u2]?).bind fun x22=>
 og (a0≠0)<|
 og (u0+1<4611686018427387904)<|
 some (.next (u0+1,u1.set u0 (Int.tmod (wI (x21+wI (x22*x20))) a0))))
 (some (.out u1))
def K5(a2:LL)(a3:List Int)(a0:Int)(u0:Nat)(u1:List Int):Option (Ctl (Nat×List Int) (List Int)):=
 cond (decide ((u0:Int)<(a2.length:Int)))
 (((a2[u0]?).bind fun x12=>
  Aq (fun s_:Nat×List Int=>K7 x12 a3 u0 a0 s_.1 s_.2) 4611686018427387904 (0,u1)).bind fun u2=>
 og (u0+1<4611686018427387904)<|
 some (.next (u0+1,u2)))
 (some (.out u1))
def L8(a0 a1:Int)(a2:LL)(a3:List Int):Option (List Int):=
 og (0<=a1/\a1<=a1/\a1<=1073741824/\(8:Int)*a1<=140737488355328)<|
(Aq (fun s_:Nat×List Int=>K5 a2 a3 a0 s_.1 s_.2) 4611686018427387904 (0,replicate a1.toNat (0:Int))).bind fun u0=>
some u0
theorem Wd(h:L8 bA bB dA aA=some aB):cK 101 [ai bA,ai bB,tS dA,tI aA] (Cj aB):=by
 refine cO Tryz.func101<|Ae<|Ab<|Aa 5<|rsT 1 ?_;have ⟨g3,h⟩:=Aj h;refine rs1 (oI 15 3 bB.toNat) (oi 15 3) (.arr 3 .int<|replicate bB.toNat (0:Int)) (Qh (t:=.int) (k:=.i64) (k':=.i64) (m:=bB) (m':=bB) kr kr g3 rfl)<|rsT 1<|rnW (sqF h (fun u3=>sT [(9,oI 0 1 u3.length)] [(oi 0 1,.arr 3 .int u3)]) ?_ fun u3 h=>Ae<|Ac<|jR h [oI 0 1 u3.length]<|H6 rfl (Ec kr rfl) H0);intro _ h;refine Ae<|Ad<|lpF h (fun (u1,u4)=>sT [(0,ai bA),(3,tI aA),(9,oI 0 1 u4.length),(16,tS dA),(17,an dA.length),(18,an u1)] [(oi 0 1,.arr 3 .int u4)]) ((wL 9 (length_replicate.symm:bB.toNat=(replicate bB.toNat (0:Int)).length)).trans<|Ag [(oi 0 1,oi 15 3)]) ?_;rintro n_ ⟨u1,u4⟩ c_ h hn6;refine Ae<|Ab (kQ h (fun _ h=>skW (sqF h (fun u5=>sT [(0,ai bA),(3,tI aA),(9,oI 0 1 u5.length),(16,tS dA),(17,an dA.length),(18,an u1)] [(oi 0 1,.arr 3 .int u5)]) ?_ fun u5 h=>Aa 4 (raH h fun h=>rsT 1<|Ao<|tn_<|jL []))) fun _ h=>lxT (have h:=jO h hn6;jE []));intro _ h;refine Ad<|Ab<|Aa 8<|rsT 1 (riH sI h fun x12 _ h=>rsT 3<|rnW<|Ae<|Ad<|lpF h (fun (u2,u0)=>sT [(0,ai bA),(3,tI aA),(9,oI 0 1 u0.length),(10,an u1),(16,tS dA),(17,an dA.length),(18,an u1),(23,tI x12),(24,an x12.length),(25,an u2)] [(oi 0 1,.arr 3 .int u0)]) (Ag []) ?_);rintro n_ ⟨u2,u0⟩ c_ h hn14;refine Ae<|Ab (kQ h (fun _ h=>skW<|Ab<|Ad<|Ab<|Aa 8<|rsT 1 (riH .int h fun x20 _ h=>rsT 3<|rnW<|Al 25<|dz0 (oI 0 1 u0.length)<|dz0 (an u2)<|dz0 (oI 0 1 u0.length)<|dz0 (an u2) ?_)) fun _ h=>D9<|te_<|te_<|be_<|bn_<|tn_ (have h:=jO h hn14;jE []));have ⟨x21,e21,h⟩:=Ah h;refine dzO (oi 0 1) .int u0.length (Ai e21)<|dzE (oi 0 1) e21<|dz0 (tI aA)<|dz0 (an u1) (diH .int h fun x22 _ h=>dsT 5 ?_);have ⟨g23,h⟩:=Aj h;refine ds0 (ai<|Int.tmod (wI<|x21+wI (x22*x20)) bA) (Q1 (k:=.i64) (a:=wI<|x21+wI (x22*x20)) (b:=bA) kr kr g23)<|dzO (oi 0 1) .int u0.length (Ai e21)<|dzS (oi 0 1) (Int.tmod (wI<|x21+wI (x22*x20)) bA) e21<|Cb (As kr)<|bn_<|tn_<|wr_<|Aa 27 (raH h fun h=>rsT 1<|Ao<|tn_ ?_);cases h;exact jLw hn14<|(wL 9 (((rfl:u0.length=u0.length).trans length_set.symm):u0.length=(u0.set u2<|Int.tmod (wI<|x21+wI (x22*x20)) bA).length)).trans<|Ag []
def Lz(a0 a1 a2:Int)(a3:LL):Option (Int×Int×LL):=
 (E1 a0 (wI (a1+a2)) a3).bind fun y3=>
some (a1,a2,y3)
def C0(r:Int×Int×LL):RV:=⟨false,[(true,[.sc (.int .i64 r.1),.sc (.int .i64 r.2.1),.frz (tS r.2.2)])]⟩
theorem S7(h:Lz bA bB bC dA=some qA):cK 103 [ai bA,ai bB,ai bC,tS dA] (C0 qA):=by
 exact cZ Tryz.func103 fun zn_ nz_ hz_=>Ae<|Ab<|Aa 12<|rsT 7 (rcM h [] [ai bA,ai<|wI<|bB+bC,tS dA] (fun h=>U6<|Jq h) trivial (aR kr) (Bb kr kr trivial) fun y3 h=>rsB 2<|rnW<|Ac<|jZ h [(true,[ai bB,ai bC,oS 256 9 y3.length])]<|Ek (Aw Cd<|Aw Cd<|Aw (B0<|.mat (p:=oi 257 9) (e1:=81) (e:=3) kr (Ey kr) rfl) Ei) Cs)
def Gs(u3:LL)(u1:Nat)(u4:Int)(u0:Nat)(u2:LL):Option (Ctl (Nat×LL) (LL)):=
 cond (decide ((u0:Int)<(u3.length:Int)))
 ((u3[u0]?).bind fun x21=>
 (u2[u1]?).bind fun x22=>
 (Bz x21 (wI (u4+(u1:Int)))).bind fun x23=>
 og (x22.length+1<=1073741824/\(x22.length+1)*8<=140737488355328)<|
 og (u0+1<4611686018427387904)<|
 some (.next (u0+1,u2.set u1 (x22++([x23])))))
 (some (.out u2))
def Gv(u3:LL)(u1:Nat)(a0:Int)(u0:Nat)(u2:LL):Option (Ctl (Nat×LL) (LL)):=
 cond (decide ((u0:Int)<(u3.length:Int)))
 ((u3[u0]?).bind fun x33=>
 (u2[u1]?).bind fun x34=>
 (x33[u1]?).bind fun x35=>
 (Ge a0 x35).bind fun y36=>
 og (x34.length+1<=1073741824/\(x34.length+1)*8<=140737488355328)<|
 og (u0+1<4611686018427387904)<|
 some (.next (u0+1,u2.set u1 (x34++([y36])))))
 (some (.out u2))
def Kg(u2:Int)(u3:LL)(u4:Int)(u5:LL)(a0:Int)(u0:Nat)(u1:LL):Option (Ctl (Nat×LL) (LL)):=
 cond (decide ((u0:Int)<(u2.toNat:Int)))
 (((Aq (fun s_:Nat×LL=>Gs u3 u0 u4 s_.1 s_.2) 4611686018427387904 (0,u1)).bind fun u6=>
  Aq (fun s_:Nat×LL=>Gv u5 u0 a0 s_.1 s_.2) 4611686018427387904 (0,u6)).bind fun u7=>
 og (u0+1<4611686018427387904)<|
 some (.next (u0+1,u7)))
 (some (.out u1))
def Kh(y43 u1:LL)(a0 u2:Int)(u0 u5:Int)(u6:LL)(u3:Nat)(u4:LL):Option (Ctl (Nat×LL) (LL)):=
 cond (decide ((u3:Int)<(y43.length:Int)))
 ((y43[u3]?).bind fun x50=>
 og ((0:Int)<=0/\0<=(u1.length:Int)/\(u1.length:Int)<=(x50.length:Int))<|
 (L8 a0 (wI (u2+u0)) u1 (x50.take u1.length)).bind fun y53=>
 og ((0:Int)<=(u1.length:Int)/\(u1.length:Int)<=(x50.length:Int)/\(x50.length:Int)<=(x50.length:Int))<|
 (L8 a0 (wI (u0+u5)) u6 (x50.drop u1.length)).bind fun y56=>
 og ((0:Int)<=0/\0<=u2/\u2<=(y53.length:Int))<|
 (Hk (y53.take u2.toNat)).bind fun y58=>
 og ((0:Int)<=u0/\u0<=(y56.length:Int)/\(y56.length:Int)<=(y56.length:Int))<|
 og (y58.length+(((y56.drop u0.toNat).take (((y56.length:Int) - u0).toNat)).length)<=1073741824/\(y58.length+(((y56.drop u0.toNat).take (((y56.length:Int) - u0).toNat)).length))*8<=140737488355328)<|
 og (u4.length+1<=1073741824/\(u4.length+1)*24<=140737488355328)<|
 og (u3+1<4611686018427387904)<|
 some (.next (u3+1,u4++[y58++((y56.drop u0.toNat).take (((y56.length:Int) - u0).toNat))])))
 (some (.out u4))
def Fi(a0 u1 u0:Int)(u2:LL)(u7 u4:Int)(u3:LL):Option (Int×Int×LL):=
 og (0<=u0/\u0<=u0/\u0<=1073741824/\(24:Int)*u0<=140737488355328)<|
(Aq (fun s_:Nat×LL=>Kg u0 u2 u1 u3 a0 s_.1 s_.2) 4611686018427387904 (0,replicate u0.toNat ([]:List Int))).bind fun u5=>
((Ko a0 (wI ((u2.length:Int)+(u3.length:Int))) u5).bind fun y43=>
 Aq (fun s_:Nat×LL=>Kh y43 u2 a0 u1 u0 u4 u3 s_.1 s_.2) 4611686018427387904 (0,([]:LL))).bind fun u6=>
(Lz a0 u1 u4 u6).bind fun y64=>
some (y64.1,y64.2.1,y64.2.2)
theorem Qy(h:Fi bA bB bC dA bD bE dB=some qA):cK 56 [ai bA,.agg [ai bB,ai bC,tS dA],.agg [ai bD,ai bE,tS dB]] (C0 qA):=by
 refine cZ Tryz.func56 fun zn_ nz_ hz_=>Ae<|Ae<|Ab<|Aa 10<|rsT 1 ?_
 have ⟨g4,h⟩:=Aj h;refine Ai3 (oS 352 8 bC.toNat) (oi 352 8) 81 3 .int (replicate bC.toNat ([]:List Int)) trivial (Acs (j:=bC.toNat) (k:=.i64) (k':=.i64) (m:=bC) (c:=bC) 3 kr kr g4 kr rfl) kr (by rw[length_replicate]) kr<|rsT 1<|rnW<|sqF h (fun ub=>sT [(0,ai bA),(4,.box (oi 0 1) 0),(5,.box (oi 1 1) 0),(6,.box (oi 2 1) 0),(7,ai bC),(8,oS 3 1 ub.length)] [(oi 0 1,.cells 30 [ai bB,ai bC,tS dA]),(oi 1 1,.cells 30 [ai bD,ai bE,tS dB]),(oi 2 1,.cells 30 [ai 0,ai 0,.nils]),(oi 3 1,.mat 81 (oi 4 1) .int ub),(oi 4 1,.pool 3 .int ub)]) ?_ ?_
 ·intro _ h;refine Ae<|Ad<|lpF h (fun (u1,ud)=>sT [(0,ai bA),(4,.box (oi 0 1) 0),(5,.box (oi 1 1) 0),(6,.box (oi 2 1) 0),(7,ai bC),(8,oS 3 1 ud.length),(24,an bC.toNat),(25,an u1)] [(oi 0 1,.cells 30 [ai bB,ai bC,tS dA]),(oi 1 1,.cells 30 [ai bD,ai bE,tS dB]),(oi 2 1,.cells 30 [ai 0,ai 0,.nils]),(oi 3 1,.mat 81 (oi 4 1) .int ud),(oi 4 1,.pool 3 .int ud)]) ((wL 8 (length_replicate.symm:bC.toNat=(replicate bC.toNat ([]:List Int)).length)).trans<|Ag [(oi 0 1,oi 4 1),(oi 1 1,oi 5 2),(oi 2 1,oi 6 3),(oi 3 1,oi 352 8),(oi 4 1,oi 352 8)]) ?_;rintro n_ ⟨u1,ud⟩ c_ h hn7
  (try dsimp only at h);refine Ae<|Ab (kQ h (fun q10 h=>?_) fun q10 h=>?_)
  ·have q10_:=of_decide_eq_true q10;refine skW<|sqF h (fun ue=>sT [(0,ai bA),(4,.box (oi 0 1) 0),(5,.box (oi 1 1) 0),(6,.box (oi 2 1) 0),(7,ai bC),(8,oS 3 1 ue.length),(24,an bC.toNat),(25,an u1)] [(oi 0 1,.cells 30 [ai bB,ai bC,tS dA]),(oi 1 1,.cells 30 [ai bD,ai bE,tS dB]),(oi 2 1,.cells 30 [ai 0,ai 0,.nils]),(oi 3 1,.mat 81 (oi 4 1) .int ue),(oi 4 1,.pool 3 .int ue)]) ?_ ?_
   ·intro _ h;refine Ad<|Ae<|sqF h (fun uf=>sT [(0,ai bA),(4,.box (oi 0 1) 0),(5,.box (oi 1 1) 0),(6,.box (oi 2 1) 0),(7,ai bC),(8,oS 3 1 uf.length),(9,an u1),(24,an bC.toNat),(25,an u1)] [(oi 0 1,.cells 30 [ai bB,ai bC,tS dA]),(oi 1 1,.cells 30 [ai bD,ai bE,tS dB]),(oi 2 1,.cells 30 [ai 0,ai 0,.nils]),(oi 3 1,.mat 81 (oi 4 1) .int uf),(oi 4 1,.pool 3 .int uf)]) ?_ ?_
    ·intro _ h;refine Ae<|Ad<|lpF h (fun (ug,u4)=>sT [(0,ai bA),(4,.box (oi 0 1) 0),(5,.box (oi 1 1) 0),(6,.box (oi 2 1) 0),(7,ai bC),(8,oS 3 1 u4.length),(9,an u1),(24,an bC.toNat),(25,an u1),(29,tS dA),(30,an dA.length),(31,an ug)] [(oi 0 1,.cells 30 [ai bB,ai bC,tS dA]),(oi 1 1,.cells 30 [ai bD,ai bE,tS dB]),(oi 2 1,.cells 30 [ai 0,ai 0,.nils]),(oi 3 1,.mat 81 (oi 4 1) .int u4),(oi 4 1,.pool 3 .int u4)]) (Ag []) ?_;rintro n_ ⟨ug,u4⟩ c_ h hn15
     (try dsimp only at h);refine Ae<|Ab (kQ h (fun q18 h=>?_) fun q18 h=>?_)
     ·have q18_:=of_decide_eq_true q18;refine skW<|Ab<|Ad<|Ab<|Aa 6 (riH sI h fun x21 _ h=>rsT 2<|rnW<|Al 23<|dz0 (oS 3 1 u4.length)<|dz0 (an u1)<|dz0 (oS 3 1 u4.length)<|dz0 (an u1) ?_);have ⟨x22,e22,h⟩:=Ah h;refine dzO (oi 3 1) sI u4.length (Ai e22)<|dsl (.own (kid (oi 4 1) u1) .int 0 x22.length) (Ff (o:=oi 3 1) (p:=oi 4 1) (e1:=81) (u:=.int) (xss:=u4) (row:=x22) (j:=u1) kr kr e22)<|dsT 5 ?_;have ⟨x23,f23,h⟩:=Ah h;have ⟨p23,b23,e23⟩:=Ar f23;refine ds0 (.telt none .int x23 0) (zi (t:=.int) (xs:=x21) (k:=.i64) (m:=wI<|bB+(u1:Int)) p23 e23)<|dz0 (ai x23)<|ds1 (oI 48 19 1) (oi 48 19) (.arr 3 .int<|[x23]) kr ?_;have ⟨g24,h⟩:=Aj h;refine ds2 (.own (kid (oi 4 20) u1) .int 0<|(x22++([x23])).length) (kid (oi 4 1) u1) (kid (oi 4 20) u1) (.arr 3 .int<|x22++([x23])) (Qe (t:=.int) (t':=.int) (xs:=x22) (ys:=[x23]) (zs:=x22++([x23])) (j:=kid (oi 4 1) u1) (len:=x22.length) (c:=oI 48 19 1) kr ((K9 (L:=[kid (oi 4 1) u1,oi 48 19]) mem_cons_self).trans<|Bp kr e22) rfl kr (Ij (e:=3) kr rfl) rfl g24) (dzO (oi 3 1) sI u4.length (Ai e22)<|J4 (oi 3 1) (oi 3 1) (.vec 81 1 u4.length<|(hdL (oi 4 1) .int u4).set u1<|.own (kid (oi 4 20) u1) .int 0<|(x22++([x23])).length) (Aft (o:=oi 3 1) (e1:=81) (m:=u4.length) (cs:=hdL (oi 4 1) .int u4) (v:=.own (kid (oi 4 20) u1) .int 0<|(x22++([x23])).length) (j:=u1) kr kr kr rfl (by rw[Dy];exact Ai e22))<|Cb (As kr)<|bn_<|tn_ ⟨_,Aeq (e1:=81) (e:=3) (u:=.int) (n:=u4.length) (len:=(x22++([x23])).length) (row:=x22++([x23])) (ys:=x22++([x23])) (xss:=u4) (j:=u1) 9000 (oi 3 1) (oi 4 1) (kid (oi 4 20) u1) kr kr rfl kr (by repeat first|exact Al1|refine entAt_sk rfl ?_) (Oh rfl) (Ow rfl) kr kr kr,?_⟩);refine Aa 26 ?_;have ⟨g25,h⟩:=Aj h;refine zA g25<|rsT 1<|Ao<|tn_ ?_;cases h;exact jLw hn15<|(wL 8 ((Eq.trans (b:=u4.length) rfl length_set.symm):u4.length=(u4.set u1<|x22++([x23])).length)).trans<|Ag [(oi 4 1,oi 9000 23)]
     have q18_:=of_decide_eq_false q18;refine lxT ?_;have h:=jO h hn15
     (try dsimp only at h);exact jE []
    intro uf h
    (try dsimp only at h);refine Ae<|Ad<|lpF h (fun (uh,u5)=>sT [(0,ai bA),(4,.box (oi 0 1) 0),(5,.box (oi 1 1) 0),(6,.box (oi 2 1) 0),(7,ai bC),(8,oS 3 1 u5.length),(9,an u1),(24,an bC.toNat),(25,an u1),(53,tS dB),(54,an dB.length),(55,an uh)] [(oi 0 1,.cells 30 [ai bB,ai bC,tS dA]),(oi 1 1,.cells 30 [ai bD,ai bE,tS dB]),(oi 2 1,.cells 30 [ai 0,ai 0,.nils]),(oi 3 1,.mat 81 (oi 4 1) .int u5),(oi 4 1,.pool 3 .int u5)]) (Ag []) ?_;rintro n_ ⟨uh,u5⟩ c_ h hn27
    (try dsimp only at h);refine Ae<|Ab (kQ h (fun q30 h=>?_) fun q30 h=>?_)
    ·have q30_:=of_decide_eq_true q30;refine skW<|Ab<|Ad<|Ab<|Aa 6 (riH sI h fun x33 _ h=>rsT 2<|rnW<|Al 22<|dsT 4 ?_);have ⟨x34,e34,h⟩:=Ah h;refine dzO (oi 3 1) sI u5.length (Ai e34)<|dsl (.own (kid (oi 4 1) u1) .int 0 x34.length) (Ff (o:=oi 3 1) (p:=oi 4 1) (e1:=81) (u:=.int) (xss:=u5) (row:=x34) (j:=u1) kr kr e34)<|dz0 (ai bA)<|dz0 (tI x33)<|dz0 (an u1) (diH .int h fun x35 _ h=>dz0 (ai x35) (dcH h (fun h=>Hi<|Rj h) fun y36 h=>ds1 (oI 71 18 1) (oi 71 18) (.arr 3 .int<|[y36]) kr ?_));have ⟨g37,h⟩:=Aj h;refine ds2 (.own (kid (oi 4 19) u1) .int 0<|(x34++([y36])).length) (kid (oi 4 1) u1) (kid (oi 4 19) u1) (.arr 3 .int<|x34++([y36])) (Qe (t:=.int) (t':=.int) (xs:=x34) (ys:=[y36]) (zs:=x34++([y36])) (j:=kid (oi 4 1) u1) (len:=x34.length) (c:=oI 71 18 1) kr ((K9 (L:=[kid (oi 4 1) u1,oi 71 18]) mem_cons_self).trans<|Bp kr e34) rfl kr (Ij (e:=3) kr rfl) rfl g37) (dzO (oi 3 1) sI u5.length (Ai e34)<|J4 (oi 3 1) (oi 3 1) (.vec 81 1 u5.length<|(hdL (oi 4 1) .int u5).set u1<|.own (kid (oi 4 19) u1) .int 0<|(x34++([y36])).length) (Aft (o:=oi 3 1) (e1:=81) (m:=u5.length) (cs:=hdL (oi 4 1) .int u5) (v:=.own (kid (oi 4 19) u1) .int 0<|(x34++([y36])).length) (j:=u1) kr kr kr rfl (by rw[Dy];exact Ai e34))<|Cb (As kr)<|bn_<|tn_ ⟨_,Aeq (e1:=81) (e:=3) (u:=.int) (n:=u5.length) (len:=(x34++([y36])).length) (row:=x34++([y36])) (ys:=x34++([y36])) (xss:=u5) (j:=u1) 9000 (oi 3 1) (oi 4 1) (kid (oi 4 19) u1) kr kr rfl kr (by repeat first|exact Al1|refine entAt_sk rfl ?_) (Oh rfl) (Ow rfl) kr kr kr,?_⟩);refine Aa 25 ?_;have ⟨g38,h⟩:=Aj h;refine zA g38<|rsT 1<|Ao<|tn_ ?_;cases h;exact jLw hn27<|(wL 8 ((Eq.trans (b:=u5.length) rfl length_set.symm):u5.length=(u5.set u1<|x34++([y36])).length)).trans<|Ag [(oi 4 1,oi 9000 22)]
    have q30_:=of_decide_eq_false q30;refine D9<|te_<|te_<|be_<|bn_<|tn_ ?_;have h:=jO h hn27
    (try dsimp only at h);exact jE []
   intro ue h
   (try dsimp only at h);refine Aa 4 ?_;have ⟨g39,h⟩:=Aj h;exact zA g39<|rsT 1<|Ao<|tn_<|jL []
  have q10_:=of_decide_eq_false q10;refine lxT ?_;have h:=jO h hn7
  (try dsimp only at h);exact jE []
 intro ub h
 (try dsimp only at h);refine Ae<|sqF h (fun uc=>sT [(0,ai bA),(4,.box (oi 0 1) 0),(5,.box (oi 1 1) 0),(6,.box (oi 2 1) 0),(14,oS 3 1 uc.length)] [(oi 0 1,.cells 30 [ai bB,ai bC,tS dA]),(oi 1 1,.cells 30 [ai bD,ai bE,tS dB]),(oi 2 1,.cells 30 [ai 0,ai 0,.nils]),(oi 3 1,.mat 81 (oi 4 1) .int uc),(oi 4 1,.pool 3 .int uc)]) ?_ ?_
 ·intro _ h;refine Ab<|Aa 15<|rsT 9 (rcM h [] [ai bA,ai<|wI<|(dA.length:Int)+(dB.length:Int),oS 3 1 ub.length] (fun h=>U6<|T3 h) trivial (.cons (.ren kr)<|.cons (.ren kr)<|.cons (.gnd kr<|Tl (p:=oi 4 1) (e1:=81) (e:=3) (u:=.int) (xss:=ub) ((K6 kr kr kr).trans kr) (Aaq kr kr (Ey kr) kr) rfl) .nil) (Bb kr kr trivial) fun y43 h=>rsT 2<|rnW<|Ad<|lpF h (fun (ua,u7)=>sT [(0,ai bA),(4,.box (oi 0 1) 0),(5,.box (oi 1 1) 0),(6,.box (oi 2 1) 0),(7,ai bC),(14,oS 3 1 u7.length),(85,oS 5 1 y43.length),(86,an y43.length),(87,an ua)] [(oi 0 1,.cells 30 [ai bB,ai bC,tS dA]),(oi 1 1,.cells 30 [ai bD,ai bE,tS dB]),(oi 2 1,.cells 30 [ai 0,ai 0,.nils]),(oi 3 1,.mat 81 (oi 4 1) .int u7),(oi 4 1,.pool 3 .int u7),(oi 5 1,.mat 81 (oi 6 1) .int y43),(oi 6 1,.pool 3 .int y43)]) ((Nh 14 81 sI kr).trans<|(Dv (e1:=81) (n:=0) 9000 (oi 14 15) 3 .int kr kr rfl kr kr).trans<|Ag [(oi 3 1,oi 14 15),(oi 4 1,oi 9000 16),(oi 5 1,oi 1360 12),(oi 6 1,oi 1361 12)]) ?_);rintro n_ ⟨ua,u7⟩ c_ h hn44
  (try dsimp only at h);refine Ae<|Ab (kQ h (fun q47 h=>?_) fun q47 h=>?_)
  ·have q47_:=of_decide_eq_true q47;refine skW<|Ab<|Ad<|Ab<|Aa 6 ?_;have ⟨x50,e50,h⟩:=Ah h;refine zO (oi 5 1) sI y43.length (Ai e50)<|rsl (.own (kid (oi 6 1) ua) .int 0 x50.length) (Ff (o:=oi 5 1) (p:=oi 6 1) (e1:=81) (u:=.int) (xss:=y43) (row:=x50) (j:=ua) kr kr e50)<|rsT 1<|rnW<|Ab<|Al 20<|dsT 11 ?_;have ⟨g52,h⟩:=Aj h;have ⟨y53,h53,h⟩:=Ah h;refine ds0 (.own (kid (oi 6 1) ua) .int 0 dA.length) (E2 (t:=.int) (i:=kid (oi 6 1) ua) (off:=0) (len:=x50.length) (l:=0) (h:=(dA.length:Int)) kr kr kr rfl g52 rfl oM)<|M7 (oI 1648 18 y53.length) [nI 1648 18 y53] [ai bA,ai<|wI<|bB+bC,tS dA,.own (kid (oi 6 1) ua) .int 0 dA.length] _ (caps:=[]) (args0:=[ai bA,ai<|wI<|bB+bC,tS dA,tI (x50.take dA.length)]) trivial (Au kr<|Au kr<|Au kr<|Au (Aic (e:=3) (u:=.int) (xs:=x50) ((K9<|Rr (t:=.int) (off:=0) (len:=dA.length) 3 rfl kr).trans<|Bp kr e50) oM) Dm) (Hi<|Wd h53) kr<|dz0 (oI 1648 18 y53.length)<|Cb (As kr)<|tn_<|wr_<|Ab<|Al 34<|dsT 11 ?_;have ⟨g55,h⟩:=Aj h;have ⟨y56,h56,h⟩:=Ah h;refine ds0 (.own (kid (oi 6 1) ua) .int dA.length<|x50.length - dA.length) (E2 (t:=.int) (i:=kid (oi 6 1) ua) (off:=0) (len:=x50.length) (l:=(dA.length:Int)) (h:=(x50.length:Int)) kr kr kr rfl g55 (fE _) oM) (M7 (oI 1856 32 y56.length) [nI 1856 32 y56] [ai bA,ai<|wI<|bC+bE,tS dB,.own (kid (oi 6 1) ua) .int dA.length (x50.length - dA.length)] _ (caps:=[]) (args0:=[ai bA,ai<|wI<|bC+bE,tS dB,tI (x50.drop dA.length)]) trivial (Au kr<|Au kr<|Au kr<|Au (Avf (e:=3) (u:=.int) (xs:=x50) ((K9<|Rr (t:=.int) (off:=dA.length) (len:=x50.length - dA.length) 3 rfl kr).trans<|Bp kr e50) oM (by rw[take_of_length_le (by rw[length_drop];omega)])) Dm) (Hi<|Wd h56) kr<|dz0 (oI 1856 32 y56.length)<|Cb (As kr)<|tn_<|wr_<|Al 47<|dsT 4 ?_);have ⟨g57,h⟩:=Aj h;have ⟨y58,h58,h⟩:=Ah h;have ⟨g59,h⟩:=Aj h;have ⟨g60,h⟩:=Aj h;have ⟨g61,h⟩:=Aj h;refine ds0 (oI 1648 18 bB.toNat) (E2 (t:=.int) (i:=oi 1648 18) (off:=0) (len:=y53.length) (l:=0) (h:=bB) kr kr kr rfl g57 rfl oM)<|M7 (oI 1952 39 y58.length) [nI 1952 39 y58] [oI 1648 18 bB.toNat] _ (caps:=[]) (args0:=[tI (y53.take bB.toNat)]) trivial (Au (Aic (e:=3) kr oM) Dm) (Hi<|N9 h58) kr<|dz0 (oI 1856 32 y56.length)<|dz0 (ai bC)<|ds0 (.own (oi 1856 32) .int bC.toNat<|((y56.length:Int) - bC).toNat) (E2 (t:=.int) (i:=oi 1856 32) (off:=0) (len:=y56.length) (l:=bC) (h:=(y56.length:Int)) kr kr kr rfl g59 (fE _) oM)<|ds2 (oI 1952 43<|(y58++((y56.drop bC.toNat).take<|((y56.length:Int) - bC).toNat)).length) (oi 1952 39) (oi 1952 43) (.arr 3 .int<|y58++((y56.drop bC.toNat).take<|((y56.length:Int) - bC).toNat)) (Qe (t:=.int) (t':=.int) (xs:=y58) (ys:=(y56.drop bC.toNat).take<|((y56.length:Int) - bC).toNat) (zs:=y58++((y56.drop bC.toNat).take<|((y56.length:Int) - bC).toNat)) (j:=oi 1952 39) (len:=y58.length) (c:=.own (oi 1856 32) .int bC.toNat<|((y56.length:Int) - bC).toNat) kr kr rfl kr (A0f (e:=3) (t:=.int) (xs:=y56) kr oM rfl) rfl g60)<|Ajw (oS 127 44 1) (oi 127 44) (.vec 81 1 1<|[oI 1952 43 ((y58++((y56.drop bC.toNat).take<|((y56.length:Int) - bC).toNat)).length)]) trivial (Co kr)<|ds2 (oS 3 45<|u7.length+1) (oi 3 1) (oi 3 45) (.vec 81 1 (u7.length+1)<|hdL (oi 4 1) .int u7++[oI 1952 43 ((y58++((y56.drop bC.toNat).take<|((y56.length:Int) - bC).toNat)).length)]) (Iz (u:=.int) (t':=sI) (t2:=sI) (o:=oi 3 1) (q:=oi 127 44) (e2:=81) (p:=oi 4 1) (xss:=u7) (cs:=[oI 1952 43 ((y58++((y56.drop bC.toNat).take<|((y56.length:Int) - bC).toNat)).length)]) (len:=u7.length) kr kr rfl kr kr rfl g61)<|dz0 (oS 3 45<|u7.length+1)<|Cb (As kr)<|bn_<|tn_ ⟨_,Ew (e1:=81) (e:=3) (u:=.int) (n:=u7.length+1) (len:=(y58++((y56.drop bC.toNat).take<|((y56.length:Int) - bC).toNat)).length) (row:=y58++((y56.drop bC.toNat).take<|((y56.length:Int) - bC).toNat)) (ys:=y58++((y56.drop bC.toNat).take<|((y56.length:Int) - bC).toNat)) (xss:=u7) 9000 (oi 3 45) (oi 4 1) (oi 1952 43) kr kr rfl kr kr (Oh rfl) (Ow rfl) kr kr kr,Aa 50 ?_⟩;have ⟨g62,h⟩:=Aj h;refine zA g62<|rsT 1<|Ao<|tn_ ?_;cases h;exact jLw hn44<|(wL 14 (fS:u7.length+1=(u7++[y58++((y56.drop bC.toNat).take<|((y56.length:Int) - bC).toNat)]).length)).trans<|Ag [(oi 3 1,oi 3 45),(oi 4 1,oi 9000 47)]
  have q47_:=of_decide_eq_false q47;refine lxT ?_;have h:=jO h hn44
  (try dsimp only at h);exact jE []
 intro uc h
 (try dsimp only at h);exact Ab<|Aa 10<|rsT 6 (rcG h [ai bA,ai bB,ai bE,oS 3 1 uc.length] (fun h=>F1 hz_<|S7 h) (Au kr<|Au kr<|Au kr<|Au (Tl (p:=oi 4 1) (e1:=81) (e:=3) (u:=.int) (xss:=uc) kr (Ey kr) rfl) Dm) fun y64 h=>rsB 1<|rnW<|Ac<|jZ h [(true,[ai y64.1,ai y64.2.1,.ftr nz_ sI y64.2.2])]<|Ek (Aw Cd<|Aw Cd<|Aw (B0 .ftr) Ei) Cs)
def Lq(x12:List Int)(u1 u3:Int)(u0:Nat)(u2:List Int):Option (Ctl (Nat×List Int) (List Int)):=
 cond (decide ((u0:Int)<(x12.length:Int)))
 (((x12[u0]?).bind fun x23=>
  cond (decide ((u0:Int)<u1))
   ((u2[u0]?).bind fun x26=>
   some (u2.set u0 x23))
   ((Bz u2 (wI ((wI (wI (u1+u3)+(u0:Int))) - u1))).bind fun x27=>
   (Bz u2 (wI ((wI (wI (u1+u3)+(u0:Int))) - u1))).bind fun x28=>
   some (u2.set ((wI ((wI (wI (u1+u3)+(u0:Int))) - u1)).toNat) x23))).bind fun u4=>
 og (u0+1<4611686018427387904)<|
 some (.next (u0+1,u4)))
 (some (.out u2))
def Lt(u6:LL)(u0 u1:Int)(u2 u3:Int)(u4:Nat)(u5:LL):Option (Ctl (Nat×LL) (LL)):=
 cond (decide ((u4:Int)<(u6.length:Int)))
 (((u6[u4]?).bind fun x12=>
  og (0<=wI (wI (u0+u1)+wI (u2+u3))/\wI (wI (u0+u1)+wI (u2+u3))<=wI (wI (u0+u1)+wI (u2+u3))/\wI (wI (u0+u1)+wI (u2+u3))<=1073741824/\(8:Int)*(wI (wI (u0+u1)+wI (u2+u3)))<=140737488355328)<|
  (Aq (fun s_:Nat×List Int=>Lq x12 u0 u1 s_.1 s_.2) 4611686018427387904 (0,replicate ((wI (wI (u0+u1)+wI (u2+u3))).toNat) (0:Int))).bind fun u7=>
  og (u5.length+1<=1073741824/\(u5.length+1)*24<=140737488355328)<|
  some (u5++[u7])).bind fun u8=>
 og (u4+1<4611686018427387904)<|
 some (.next (u4+1,u8)))
 (some (.out u5))
def Lp(x40:List Int)(u1 u3 u4:Int)(u0:Nat)(u2:List Int):Option (Ctl (Nat×List Int) (List Int)):=
 cond (decide ((u0:Int)<(x40.length:Int)))
 (((x40[u0]?).bind fun x51=>
  cond (decide ((u0:Int)<u1))
   ((Bz u2 (wI (u3+(u0:Int)))).bind fun x54=>
   (Bz u2 (wI (u3+(u0:Int)))).bind fun x55=>
   some (u2.set ((wI (u3+(u0:Int))).toNat) x51))
   ((Bz u2 (wI ((wI (wI (wI (u3+u1)+u4)+(u0:Int))) - u1))).bind fun x56=>
   (Bz u2 (wI ((wI (wI (wI (u3+u1)+u4)+(u0:Int))) - u1))).bind fun x57=>
   some (u2.set ((wI ((wI (wI (wI (u3+u1)+u4)+(u0:Int))) - u1)).toNat) x51))).bind fun u5=>
 og (u0+1<4611686018427387904)<|
 some (.next (u0+1,u5)))
 (some (.out u2))
def Lj(u6:LL)(u0 u1:Int)(u2 u3:Int)(u4:Nat)(u5:LL):Option (Ctl (Nat×LL) (LL)):=
 cond (decide ((u4:Int)<(u6.length:Int)))
 (((u6[u4]?).bind fun x40=>
  og (0<=wI (wI (u0+u1)+wI (u2+u3))/\wI (wI (u0+u1)+wI (u2+u3))<=wI (wI (u0+u1)+wI (u2+u3))/\wI (wI (u0+u1)+wI (u2+u3))<=1073741824/\(8:Int)*(wI (wI (u0+u1)+wI (u2+u3)))<=140737488355328)<|
  (Aq (fun s_:Nat×List Int=>Lp x40 u1 u0 u2 s_.1 s_.2) 4611686018427387904 (0,replicate ((wI (wI (u0+u1)+wI (u2+u3))).toNat) (0:Int))).bind fun u7=>
  og (u5.length+1<=1073741824/\(u5.length+1)*24<=140737488355328)<|
  some (u5++[u7])).bind fun u8=>
 og (u4+1<4611686018427387904)<|
 some (.next (u4+1,u8)))
 (some (.out u5))
def F6(a0 u0 u1:Int)(u4:LL)(u2 u3:Int)(u5:LL):Option (Int×Int×LL):=
 (Aq (fun s_:Nat×LL=>Lt u4 u0 u2 u1 u3 s_.1 s_.2) 4611686018427387904 (0,([]:LL))).bind fun u6=>
(Aq (fun s_:Nat×LL=>Lj u5 u0 u2 u1 u3 s_.1 s_.2) 4611686018427387904 (0,u6)).bind fun u7=>
(Lz a0 (wI (u0+u2)) (wI (u1+u3)) u7).bind fun y62=>
some (y62.1,y62.2.1,y62.2.2)
theorem Si(h:F6 bA bB bC dA bD bE dB=some qA):cK 57 [ai bA,.agg [ai bB,ai bC,tS dA],.agg [ai bD,ai bE,tS dB]] (C0 qA):=by
 refine cZ Tryz.func57 fun zn_ nz_ hz_=>Ae<|Ab<|Al 16<|dsT 12<|Cb (As kr)<|tn_<|wr_<|Ae<|sqF h (fun uh=>sT [(0,ai bA),(4,.box (oi 0 1) 0),(5,.box (oi 1 1) 0),(6,.box (oi 2 1) 0),(7,ai<|wI<|bB+bD),(8,ai<|wI<|bC+bE),(9,oS 3 1 uh.length)] [(oi 0 1,.cells 30 [ai bB,ai bC,tS dA]),(oi 1 1,.cells 30 [ai bD,ai bE,tS dB]),(oi 2 1,.cells 30 [ai 0,ai 0,.nils]),(oi 3 1,.mat 81 (oi 4 1) .int uh),(oi 4 1,.pool 3 .int uh)]) ?_ ?_
 ·intro _ h;refine Ae<|Ad<|lpF h (fun (ue,u6)=>sT [(0,ai bA),(4,.box (oi 0 1) 0),(5,.box (oi 1 1) 0),(6,.box (oi 2 1) 0),(7,ai<|wI<|bB+bD),(8,ai<|wI<|bC+bE),(9,oS 3 1 u6.length),(31,tS dA),(32,an dA.length),(33,an ue)] [(oi 0 1,.cells 30 [ai bB,ai bC,tS dA]),(oi 1 1,.cells 30 [ai bD,ai bE,tS dB]),(oi 2 1,.cells 30 [ai 0,ai 0,.nils]),(oi 3 1,.mat 81 (oi 4 1) .int u6),(oi 4 1,.pool 3 .int u6)]) ((Nh 9 81 sI kr).trans<|(Dv (e1:=81) (n:=0) 9000 (oi 9 21) 3 .int kr kr rfl kr kr).trans<|Ag [(oi 0 1,oi 4 1),(oi 1 1,oi 5 2),(oi 2 1,oi 6 3),(oi 3 1,oi 9 21),(oi 4 1,oi 9000 22)]) ?_;rintro n_ ⟨ue,u6⟩ c_ h hn6;refine Ae<|Ab (kQ h (fun _ h=>skW (sqF h (fun ui=>sT [(0,ai bA),(4,.box (oi 0 1) 0),(5,.box (oi 1 1) 0),(6,.box (oi 2 1) 0),(7,ai<|wI<|bB+bD),(8,ai<|wI<|bC+bE),(9,oS 3 1 ui.length),(31,tS dA),(32,an dA.length),(33,an ue)] [(oi 0 1,.cells 30 [ai bB,ai bC,tS dA]),(oi 1 1,.cells 30 [ai bD,ai bE,tS dB]),(oi 2 1,.cells 30 [ai 0,ai 0,.nils]),(oi 3 1,.mat 81 (oi 4 1) .int ui),(oi 4 1,.pool 3 .int ui)]) ?_ fun ui h=>Aa 4 (raH h fun h=>rsT 1<|Ao<|tn_<|jL []))) fun _ h=>lxT (have h:=jO h hn6;jE []));intro _ h;refine Ad<|Ab<|Aa 6 (riH sI h fun x12 _ h=>rsT 2<|rnW<|Ab<|Aa 11<|rsT 3 ?_);have ⟨g14,h⟩:=Aj h;refine rs1 (oI 40 9<|(wI<|wI (bB+bD)+wI (bC+bE)).toNat) (oi 40 9) (.arr 3 .int<|replicate ((wI<|wI (bB+bD)+wI (bC+bE)).toNat) (0:Int)) (Qh (t:=.int) (k:=.i64) (k':=.i64) (m:=wI<|wI (bB+bD)+wI (bC+bE)) (m':=wI<|wI (bB+bD)+wI (bC+bE)) kr kr g14 rfl)<|rsT 1<|rnW<|sqF h (fun ua=>sT [(0,ai bA),(4,.box (oi 0 1) 0),(5,.box (oi 1 1) 0),(6,.box (oi 2 1) 0),(7,ai<|wI<|bB+bD),(8,ai<|wI<|bC+bE),(9,oS 3 1 u6.length),(12,oI 5 1 ua.length),(31,tS dA),(32,an dA.length),(33,an ue)] [(oi 0 1,.cells 30 [ai bB,ai bC,tS dA]),(oi 1 1,.cells 30 [ai bD,ai bE,tS dB]),(oi 2 1,.cells 30 [ai 0,ai 0,.nils]),(oi 3 1,.mat 81 (oi 4 1) .int u6),(oi 4 1,.pool 3 .int u6),(oi 5 1,.arr 3 .int ua)]) ?_ ?_
  ·intro _ h;refine Ae<|Ad<|lpF h (fun (ud,u8)=>sT [(0,ai bA),(4,.box (oi 0 1) 0),(5,.box (oi 1 1) 0),(6,.box (oi 2 1) 0),(7,ai<|wI<|bB+bD),(8,ai<|wI<|bC+bE),(9,oS 3 1 u6.length),(12,oI 5 1 u8.length),(31,tS dA),(32,an dA.length),(33,an ue),(41,tI x12),(42,an x12.length),(43,an ud)] [(oi 0 1,.cells 30 [ai bB,ai bC,tS dA]),(oi 1 1,.cells 30 [ai bD,ai bE,tS dB]),(oi 2 1,.cells 30 [ai 0,ai 0,.nils]),(oi 3 1,.mat 81 (oi 4 1) .int u6),(oi 4 1,.pool 3 .int u6),(oi 5 1,.arr 3 .int u8)]) ((wL 12 (length_replicate.symm:(wI<|wI (bB+bD)+wI (bC+bE)).toNat=(replicate ((wI<|wI (bB+bD)+wI (bC+bE)).toNat) (0:Int)).length)).trans<|Ag [(oi 5 1,oi 40 9)]) ?_;rintro n_ ⟨ud,u8⟩ c_ h hn17;refine Ae<|Ab (kQ h (fun _ h=>skW (sqF h (fun uk=>sT [(0,ai bA),(4,.box (oi 0 1) 0),(5,.box (oi 1 1) 0),(6,.box (oi 2 1) 0),(7,ai<|wI<|bB+bD),(8,ai<|wI<|bC+bE),(9,oS 3 1 u6.length),(12,oI 5 1 uk.length),(31,tS dA),(32,an dA.length),(33,an ue),(41,tI x12),(42,an x12.length),(43,an ud)] [(oi 0 1,.cells 30 [ai bB,ai bC,tS dA]),(oi 1 1,.cells 30 [ai bD,ai bE,tS dB]),(oi 2 1,.cells 30 [ai 0,ai 0,.nils]),(oi 3 1,.mat 81 (oi 4 1) .int u6),(oi 4 1,.pool 3 .int u6),(oi 5 1,.arr 3 .int uk)]) ?_ fun uk h=>Aa 4 (raH h fun h=>rsT 1<|Ao<|tn_<|jL []))) fun _ h=>lxT (have h:=jO h hn17;jE []));intro _ h;refine Ad<|Ab<|Aa 8<|rsT 1 (riH .int h fun x23 _ h=>rsT 3<|rnW<|Ae (kQ h (fun _ h=>?_) fun _ h=>?_))
   ·refine Aa 17<|rsT 3 ?_;have ⟨x26,e26,h⟩:=Ah h;refine zO (oi 5 1) .int u8.length (Ai e26)<|zS (oi 5 1) (x23) e26<|Ao<|bn_<|tn_ ?_;cases h;exact (wL 12 (((rfl:u8.length=u8.length).trans length_set.symm):u8.length=(u8.set ud x23).length)).trans<|Ag []
   refine Aa 22<|rsT 8 ?_;have ⟨x27,f27,h⟩:=Ah h;have ⟨p27,b27,e27⟩:=Ar f27;refine rs0 (.elt (oi 5 1) ((wI<|(wI<|wI (bB+bD)+(ud:Int)) - bB).toNat) 0) (zo (t:=.int) (o:=oi 5 1) (len:=u8.length) (k:=.i64) (m:=wI<|(wI<|wI (bB+bD)+(ud:Int)) - bB) p27<|Ai e27) ?_;have ⟨x28,f28,h⟩:=Ah h;have ⟨p28,b28,e28⟩:=Ar f28;refine zS (oi 5 1) (x23) e28<|Ao<|bn_<|tn_ ?_;cases h;exact (wL 12 (((rfl:u8.length=u8.length).trans length_set.symm):u8.length=(u8.set ((wI<|(wI<|wI (bB+bD)+(ud:Int)) - bB).toNat) x23).length)).trans<|Ag []
  intro ua h;refine Aa 7<|rsT 2<|Hd (oS 68 4 1) (oi 68 4) (.vec 81 1 1<|[oI 5 1 ua.length]) trivial (Co kr) ?_;have ⟨g30,h⟩:=Aj h;refine rs2 (oS 3 5<|u6.length+1) (oi 3 1) (oi 3 5) (.vec 81 1 (u6.length+1)<|hdL (oi 4 1) .int u6++[oI 5 1 ua.length]) (Iz (u:=.int) (t':=sI) (t2:=sI) (o:=oi 3 1) (q:=oi 68 4) (e2:=81) (p:=oi 4 1) (xss:=u6) (cs:=[oI 5 1 ua.length]) (len:=u6.length) kr kr rfl kr kr rfl g30)<|rsT 1<|Ao<|bn_<|tn_ ?_;cases h;exact (Ew (e1:=81) (e:=3) (u:=.int) (n:=u6.length+1) (len:=ua.length) (row:=ua) (ys:=ua) (xss:=u6) 9000 (oi 3 5) (oi 4 1) (oi 5 1) kr kr rfl kr kr (Oh rfl) (Ow rfl) kr kr kr).trans<|(wL 9 (fS:u6.length+1=(u6++[ua]).length)).trans<|Ag [(oi 3 1,oi 3 5),(oi 4 1,oi 9000 7)]
 intro uh h;refine sqF h (fun uf=>sT [(0,ai bA),(6,.box (oi 0 1) 0),(7,ai<|wI<|bB+bD),(8,ai<|wI<|bC+bE),(9,oS 1 1 uf.length)] [(oi 0 1,.cells 30 [ai 0,ai 0,.nils]),(oi 1 1,.mat 81 (oi 2 1) .int uf),(oi 2 1,.pool 3 .int uf)]) ?_ fun uf h=>Ab<|Aa 8<|rsT 4 (rcG h [ai bA,ai<|wI<|bB+bD,ai<|wI<|bC+bE,oS 1 1 uf.length] (fun h=>F1 hz_<|S7 h) (Au kr<|Au kr<|Au kr<|Au (Tl (p:=oi 2 1) (e1:=81) (e:=3) (u:=.int) (xss:=uf) kr (Ey kr) rfl) Dm) fun y62 h=>rsB 1<|rnW<|Ac<|jZ h [(true,[ai y62.1,ai y62.2.1,.ftr nz_ sI y62.2.2])]<|Ek (Aw Cd<|Aw Cd<|Aw (B0 .ftr) Ei) Cs)
 intro _ h;refine Ae<|Ad<|lpF h (fun (ug,u7)=>sT [(0,ai bA),(4,.box (oi 0 1) 0),(5,.box (oi 1 1) 0),(6,.box (oi 2 1) 0),(7,ai<|wI<|bB+bD),(8,ai<|wI<|bC+bE),(9,oS 3 1 u7.length),(72,tS dB),(73,an dB.length),(74,an ug)] [(oi 0 1,.cells 30 [ai bB,ai bC,tS dA]),(oi 1 1,.cells 30 [ai bD,ai bE,tS dB]),(oi 2 1,.cells 30 [ai 0,ai 0,.nils]),(oi 3 1,.mat 81 (oi 4 1) .int u7),(oi 4 1,.pool 3 .int u7)]) (Ag []) ?_;rintro n_ ⟨ug,u7⟩ c_ h hn34;refine Ae<|Ab (kQ h (fun _ h=>skW (sqF h (fun uj=>sT [(0,ai bA),(4,.box (oi 0 1) 0),(5,.box (oi 1 1) 0),(6,.box (oi 2 1) 0),(7,ai<|wI<|bB+bD),(8,ai<|wI<|bC+bE),(9,oS 3 1 uj.length),(72,tS dB),(73,an dB.length),(74,an ug)] [(oi 0 1,.cells 30 [ai bB,ai bC,tS dA]),(oi 1 1,.cells 30 [ai bD,ai bE,tS dB]),(oi 2 1,.cells 30 [ai 0,ai 0,.nils]),(oi 3 1,.mat 81 (oi 4 1) .int uj),(oi 4 1,.pool 3 .int uj)]) ?_ fun uj h=>Aa 4 (raH h fun h=>rsT 1<|Ao<|tn_<|jL []))) fun _ h=>lxT (have h:=jO h hn34;jE [(oi 0 1,oi 2 1),(oi 1 1,oi 3 1),(oi 2 1,oi 4 1)]));intro _ h;refine Ad<|Ab<|Aa 6 (riH sI h fun x40 _ h=>rsT 2<|rnW<|Ab<|Aa 11<|rsT 3 ?_);have ⟨g42,h⟩:=Aj h;refine rs1 (oI 81 9<|(wI<|wI (bB+bD)+wI (bC+bE)).toNat) (oi 81 9) (.arr 3 .int<|replicate ((wI<|wI (bB+bD)+wI (bC+bE)).toNat) (0:Int)) (Qh (t:=.int) (k:=.i64) (k':=.i64) (m:=wI<|wI (bB+bD)+wI (bC+bE)) (m':=wI<|wI (bB+bD)+wI (bC+bE)) kr kr g42 rfl)<|rsT 1<|rnW<|sqF h (fun ub=>sT [(0,ai bA),(4,.box (oi 0 1) 0),(5,.box (oi 1 1) 0),(6,.box (oi 2 1) 0),(7,ai<|wI<|bB+bD),(8,ai<|wI<|bC+bE),(9,oS 3 1 u7.length),(17,oI 5 1 ub.length),(72,tS dB),(73,an dB.length),(74,an ug)] [(oi 0 1,.cells 30 [ai bB,ai bC,tS dA]),(oi 1 1,.cells 30 [ai bD,ai bE,tS dB]),(oi 2 1,.cells 30 [ai 0,ai 0,.nils]),(oi 3 1,.mat 81 (oi 4 1) .int u7),(oi 4 1,.pool 3 .int u7),(oi 5 1,.arr 3 .int ub)]) ?_ ?_
 ·intro _ h;refine Ae<|Ad<|lpF h (fun (uc,u9)=>sT [(0,ai bA),(4,.box (oi 0 1) 0),(5,.box (oi 1 1) 0),(6,.box (oi 2 1) 0),(7,ai<|wI<|bB+bD),(8,ai<|wI<|bC+bE),(9,oS 3 1 u7.length),(17,oI 5 1 u9.length),(72,tS dB),(73,an dB.length),(74,an ug),(82,tI x40),(83,an x40.length),(84,an uc)] [(oi 0 1,.cells 30 [ai bB,ai bC,tS dA]),(oi 1 1,.cells 30 [ai bD,ai bE,tS dB]),(oi 2 1,.cells 30 [ai 0,ai 0,.nils]),(oi 3 1,.mat 81 (oi 4 1) .int u7),(oi 4 1,.pool 3 .int u7),(oi 5 1,.arr 3 .int u9)]) ((wL 17 (length_replicate.symm:(wI<|wI (bB+bD)+wI (bC+bE)).toNat=(replicate ((wI<|wI (bB+bD)+wI (bC+bE)).toNat) (0:Int)).length)).trans<|Ag [(oi 5 1,oi 81 9)]) ?_;rintro n_ ⟨uc,u9⟩ c_ h hn45;refine Ae<|Ab (kQ h (fun _ h=>skW (sqF h (fun ul=>sT [(0,ai bA),(4,.box (oi 0 1) 0),(5,.box (oi 1 1) 0),(6,.box (oi 2 1) 0),(7,ai<|wI<|bB+bD),(8,ai<|wI<|bC+bE),(9,oS 3 1 u7.length),(17,oI 5 1 ul.length),(72,tS dB),(73,an dB.length),(74,an ug),(82,tI x40),(83,an x40.length),(84,an uc)] [(oi 0 1,.cells 30 [ai bB,ai bC,tS dA]),(oi 1 1,.cells 30 [ai bD,ai bE,tS dB]),(oi 2 1,.cells 30 [ai 0,ai 0,.nils]),(oi 3 1,.mat 81 (oi 4 1) .int u7),(oi 4 1,.pool 3 .int u7),(oi 5 1,.arr 3 .int ul)]) ?_ fun ul h=>Aa 4 (raH h fun h=>rsT 1<|Ao<|tn_<|jL []))) fun _ h=>lxT (have h:=jO h hn45;jE []));intro _ h;refine Ad<|Ab<|Aa 8<|rsT 1 (riH .int h fun x51 _ h=>rsT 3<|rnW<|Ae (kQ h (fun _ h=>?_) fun _ h=>?_))
  ·refine Aa 20<|rsT 6 ?_;have ⟨x54,f54,h⟩:=Ah h;have ⟨p54,b54,e54⟩:=Ar f54;refine rs0 (.elt (oi 5 1) ((wI<|bB+(uc:Int)).toNat) 0) (zo (t:=.int) (o:=oi 5 1) (len:=u9.length) (k:=.i64) (m:=wI<|bB+(uc:Int)) p54<|Ai e54) ?_;have ⟨x55,f55,h⟩:=Ah h;have ⟨p55,b55,e55⟩:=Ar f55;refine zS (oi 5 1) (x51) e55<|Ao<|bn_<|tn_ ?_;cases h;exact (wL 17 (((rfl:u9.length=u9.length).trans length_set.symm):u9.length=(u9.set ((wI<|bB+(uc:Int)).toNat) x51).length)).trans<|Ag []
  refine Aa 25<|rsT 11 ?_;have ⟨x56,f56,h⟩:=Ah h;have ⟨p56,b56,e56⟩:=Ar f56;refine rs0 (.elt (oi 5 1) ((wI<|(wI<|wI (wI (bB+bD)+bC)+(uc:Int)) - bD).toNat) 0) (zo (t:=.int) (o:=oi 5 1) (len:=u9.length) (k:=.i64) (m:=wI<|(wI<|wI (wI (bB+bD)+bC)+(uc:Int)) - bD) p56<|Ai e56) ?_;have ⟨x57,f57,h⟩:=Ah h;have ⟨p57,b57,e57⟩:=Ar f57;refine zS (oi 5 1) (x51) e57<|Ao<|bn_<|tn_ ?_;cases h;exact (wL 17 (((rfl:u9.length=u9.length).trans length_set.symm):u9.length=(u9.set ((wI<|(wI<|wI (wI (bB+bD)+bC)+(uc:Int)) - bD).toNat) x51).length)).trans<|Ag []
 intro ub h;refine Aa 7<|rsT 2<|Hd (oS 115 4 1) (oi 115 4) (.vec 81 1 1<|[oI 5 1 ub.length]) trivial (Co kr) ?_;have ⟨g59,h⟩:=Aj h;refine rs2 (oS 3 5<|u7.length+1) (oi 3 1) (oi 3 5) (.vec 81 1 (u7.length+1)<|hdL (oi 4 1) .int u7++[oI 5 1 ub.length]) (Iz (u:=.int) (t':=sI) (t2:=sI) (o:=oi 3 1) (q:=oi 115 4) (e2:=81) (p:=oi 4 1) (xss:=u7) (cs:=[oI 5 1 ub.length]) (len:=u7.length) kr kr rfl kr kr rfl g59)<|rsT 1<|Ao<|bn_<|tn_ ?_;cases h;exact (Ew (e1:=81) (e:=3) (u:=.int) (n:=u7.length+1) (len:=ub.length) (row:=ub) (ys:=ub) (xss:=u7) 9000 (oi 3 5) (oi 4 1) (oi 5 1) kr kr rfl kr kr (Oh rfl) (Ow rfl) kr kr kr).trans<|(wL 9 (fS:u7.length+1=(u7++[ub]).length)).trans<|Ag [(oi 3 1,oi 3 5),(oi 4 1,oi 9000 7)]
end
section
set_option maxRecDepth 4000
set_option maxHeartbeats 4800000
variable{bA bB bC bD:Int}{aA aB aC:List Int}{cA:Bool}{rA:List (Int×Int×(List Int)×List Int)}{sA:List Int×List Int}{dA:LL}{tA:Int×(List (Int×Int×(List Int)×List Int))×List Int×List Int}{gA:ByteArray}
def Wj(u0 u3:Int)(u1 u2:List Int)(a1:Int):Option Bool:=
 ((Cv u0 3 14).bind fun y4=>
 cond (!y4)
  (some true)
  ((Kw u0 u3 (⟨#[]⟩:ByteArray)).bind fun y6=>
  some (!y6))).bind fun u4=>
cond u4
 (some false)
 ((Ib u0).bind fun y10=>
 (cond ((u1.length:Int)==y10.1)
   (cond ((u2.length:Int)==y10.2)
    ((Gb u1 0 (wI (a1 - 1))).bind fun y14=>
    cond y14
     ((Gb u2 0 (wI (a1 - 1))).bind fun y16=>
     some y16)
     (some false))
    (some false))
   (some false)).bind fun u5=>
 some u5)
theorem Afc(h:Wj bA bB aA aB bC=some cA):cK 188 [.agg [ai bA,ai bB,tI aA,tI aB],ai bC] (An cA):=by
 refine cO Tryz.func188<|Ae<|Ab<|sqF h (fun u4=>sT [(1,ai bC),(2,.box (oi 0 1) 0),(19,.bool u4)] [(oi 0 1,.cells 171 [ai bA,ai bB,tI aA,tI aB])]) ?_ ?_
 ·intro _ h;refine Aa 16<|rsT 2 (rcH h Db fun y4 h=>rsT 2 ?_);rcases A5 h with ⟨q5,h⟩|⟨q5,h⟩
  ·exact rq 11 q5<|rsT 8<|Ao<|tn_<|jE [(oi 0 1,oi 2 1)]
  exact rq 11 q5<|rsT 5 (rcH h Ub fun y6 h=>rsT 2<|Ao<|tn_<|jE [(oi 0 1,oi 2 1)])
 intro u4 h;refine kQ h (fun _ h=>Ae<|Ac<|tr_<|jS h) fun _ h=>skW<|Ab<|Aa 10<|rsT 2 (rcH h Qm fun y10 h=>rsT 5<|rnW (sqF h (fun u5=>sT [(4,.bool u5)] []) ?_ fun u5 h=>Ac<|jS h))
 intro _ h;refine Aa 37<|rsT 6 (kR h 31 (fun _ h=>rsT 7 ?_) fun _ h=>rsT 21<|Ao<|tn_<|jE []);rcases A5 h with ⟨q13,h⟩|⟨q13,h⟩
 ·refine rq 38 q13<|rsT 4 (rcH h Kt fun y14 h=>rsT 2 ?_);rcases A5 h with ⟨q15,h⟩|⟨q15,h⟩
  ·exact rq 45 q15<|rsT 4 (rcH h Kt fun y16 h=>rsT 2<|Ao<|tn_<|jE [])
  exact rq 45 q15<|rsT 7<|Ao<|tn_<|jE []
 exact rq 38 q13<|rsT 14<|Ao<|tn_<|jE []
def Wo(u2:List Int)(u0:Nat)(u1:List Int):Option (Ctl (Nat×List Int) (List Int)):=
 cond (decide ((u0:Int)<(u2.length:Int)))
 ((u2[u0]?).bind fun x14=>
 (Bz u1 x14).bind fun x15=>
 og (u0+1<4611686018427387904)<|
 some (.next (u0+1,u1.set x14.toNat (wI (x15+1)))))
 (some (.out u1))
def W0(u2:List Int)(u0:Nat)(u1:List Int):Option (Ctl (Nat×List Int) (List Int)):=
 cond (decide ((u0:Int)<(u2.length:Int)))
 ((u2[u0]?).bind fun x25=>
 (Bz u1 x25).bind fun x26=>
 og (u0+1<4611686018427387904)<|
 some (.next (u0+1,u1.set x25.toNat (wI (x26+1)))))
 (some (.out u1))
def Wl(x36:Int×Int×(List Int)×List Int)(u0:Nat)(u1:List Int):Option (Ctl (Nat×List Int) (List Int)):=
 cond (decide ((u0:Int)<(x36.2.2.2.length:Int)))
 ((x36.2.2.2[u0]?).bind fun x45=>
 (Bz u1 x45).bind fun x46=>
 og (u0+1<4611686018427387904)<|
 some (.next (u0+1,u1.set x45.toNat (wI (x46+1)))))
 (some (.out u1))
def W2(x36:Int×Int×(List Int)×List Int)(u2:List Int)(u0:Nat)(u1:List Int):Option (Ctl (Nat×List Int) (List Int×List Int)):=
 cond (decide ((u0:Int)<(x36.2.2.1.length:Int)))
 ((x36.2.2.1[u0]?).bind fun x55=>
 (Bz u1 x55).bind fun x56=>
 og (u0+1<4611686018427387904)<|
 some (.next (u0+1,u1.set x55.toNat (wI (x56+1)))))
 (some (.out (u2,u1)))
def W7(u1:List (Int×Int×(List Int)×List Int))(u0:Nat)(u2 u3:List Int):Option (Ctl (Nat×List Int×List Int) (List Int×List Int)):=
 cond (decide ((u0:Int)<(u1.length:Int)))
 (((u1[u0]?).bind fun x36=>
  (Aq (fun s_:Nat×List Int=>Wl x36 s_.1 s_.2) 4611686018427387904 (0,u2)).bind fun u4=>
  Aq (fun s_:Nat×List Int=>W2 x36 u4 s_.1 s_.2) 4611686018427387904 (0,u3)).bind fun (u5,u6)=>
 og (u0+1<4611686018427387904)<|
 some (.next (u0+1,u5,u6)))
 (some (.out (u2,u3)))
def Tr(u0:Int)(u1:List (Int×Int×(List Int)×List Int))(u2 u3:List Int):Option (List Int×List Int):=
 og (0<=u0/\u0<=u0/\u0<=1073741824/\(8:Int)*u0<=140737488355328)<|
og (0<=u0/\u0<=u0/\u0<=1073741824/\(8:Int)*u0<=140737488355328)<|
(Aq (fun s_:Nat×List Int=>Wo u2 s_.1 s_.2) 4611686018427387904 (0,replicate u0.toNat (0:Int))).bind fun u4=>
(Aq (fun s_:Nat×List Int=>W0 u3 s_.1 s_.2) 4611686018427387904 (0,replicate u0.toNat (0:Int))).bind fun u5=>
(Aq (fun s_:Nat×List Int×List Int=>W7 u1 s_.1 s_.2.1 s_.2.2) 4611686018427387904 (0,u4,u5)).bind fun (u6,u7)=>
some (u6,u7)
def Z6(r:List Int×List Int):RV:=⟨true,[(false,[.new 3 .int r.1]),(false,[.new 3 .int r.2])]⟩
theorem Aar(h:Tr bA rA aA aB=some sA):cK 189 [.agg [ai bA,.tree Yb rA,tI aA,tI aB]] (Z6 sA):=by
 refine cO Tryz.func189<|Ae<|Ab<|Aa 8<|rsT 2 ?_;have ⟨g3,h⟩:=Aj h;refine rs1 (oI 18 6 bA.toNat) (oi 18 6) (.arr 3 .int<|replicate bA.toNat (0:Int)) (Qh (t:=.int) (k:=.i64) (k':=.i64) (m:=bA) (m':=bA) kr kr g3 rfl)<|rsT 1<|rnW<|Ab<|Aa 12<|rsT 2 ?_;have ⟨g5,h⟩:=Aj h;refine rs1 (oI 21 10 bA.toNat) (oi 21 10) (.arr 3 .int<|replicate bA.toNat (0:Int)) (Qh (t:=.int) (k:=.i64) (k':=.i64) (m:=bA) (m':=bA) kr kr g5 rfl)<|rsT 1<|rnW<|sqF h (fun u8=>sT [(1,.box (oi 0 1) 0),(4,oI 1 1 u8.length),(5,oI 2 1<|(replicate bA.toNat (0:Int)).length)] [(oi 0 1,.cells 131 [ai bA,.tree Yb rA,tI aA,tI aB]),(oi 1 1,.arr 3 .int u8),(oi 2 1,.arr 3 .int<|replicate bA.toNat (0:Int))]) ?_ ?_
 ·intro _ h;refine Ae<|Ad<|lpF h (fun (ui,u2)=>sT [(1,.box (oi 0 1) 0),(4,oI 1 1 u2.length),(5,oI 2 1<|(replicate bA.toNat (0:Int)).length),(23,tI aA),(24,an aA.length),(25,an ui)] [(oi 0 1,.cells 131 [ai bA,.tree Yb rA,tI aA,tI aB]),(oi 1 1,.arr 3 .int u2),(oi 2 1,.arr 3 .int<|replicate bA.toNat (0:Int))]) ((wL 4 (length_replicate.symm:bA.toNat=(replicate bA.toNat (0:Int)).length)).trans<|(wL 5 (length_replicate.symm:bA.toNat=(replicate bA.toNat (0:Int)).length)).trans<|Ag [(oi 0 1,oi 1 1),(oi 1 1,oi 18 6),(oi 2 1,oi 21 10)]) ?_;rintro n_ ⟨ui,u2⟩ c_ h hn8;refine Ae<|Ab (kQ h (fun _ h=>skW<|Ab<|Ad<|Ab<|Aa 6 (riH .int h fun x14 _ h=>rsT 2<|rnW<|Aa 13<|rsT 2 ?_)) fun _ h=>lxT (have h:=jO h hn8;jE []));have ⟨x15,f15,h⟩:=Ah h;have ⟨p15,b15,e15⟩:=Ar f15;refine rs0 (.elt (oi 1 1) x14.toNat 0) (zo (t:=.int) (o:=oi 1 1) (len:=u2.length) (k:=.i64) (m:=x14) p15<|Ai e15)<|zE (oi 1 1) e15<|rsT 1<|rs0 (.elt (oi 1 1) x14.toNat 0) (zo (t:=.int) (o:=oi 1 1) (len:=u2.length) (k:=.i64) (m:=x14) p15<|Ai e15)<|zS (oi 1 1) (wI<|x15+1) e15<|Ao<|bn_<|tn_<|wr_<|Aa 15 (raH h fun h=>rsT 1<|Ao<|tn_ ?_);cases h;exact jLw hn8<|(wL 4 (((rfl:u2.length=u2.length).trans length_set.symm):u2.length=(u2.set x14.toNat<|wI<|x15+1).length)).trans<|Ag []
 intro u8 h;refine sqF h (fun ue=>sT [(1,.box (oi 0 1) 0),(4,oI 1 1 u8.length),(5,oI 2 1 ue.length)] [(oi 0 1,.cells 131 [ai bA,.tree Yb rA,tI aA,tI aB]),(oi 1 1,.arr 3 .int u8),(oi 2 1,.arr 3 .int ue)]) ?_ ?_
 ·intro _ h;refine Ae<|Ad<|lpF h (fun (uj,u3)=>sT [(1,.box (oi 0 1) 0),(4,oI 1 1 u8.length),(5,oI 2 1 u3.length),(37,tI aB),(38,an aB.length),(39,an uj)] [(oi 0 1,.cells 131 [ai bA,.tree Yb rA,tI aA,tI aB]),(oi 1 1,.arr 3 .int u8),(oi 2 1,.arr 3 .int u3)]) (Ag []) ?_;rintro n_ ⟨uj,u3⟩ c_ h hn19;refine Ae<|Ab (kQ h (fun _ h=>skW<|Ab<|Ad<|Ab<|Aa 6 (riH .int h fun x25 _ h=>rsT 2<|rnW<|Aa 13<|rsT 2 ?_)) fun _ h=>lxT (have h:=jO h hn19;jE []));have ⟨x26,f26,h⟩:=Ah h;have ⟨p26,b26,e26⟩:=Ar f26;refine rs0 (.elt (oi 2 1) x25.toNat 0) (zo (t:=.int) (o:=oi 2 1) (len:=u3.length) (k:=.i64) (m:=x25) p26<|Ai e26)<|zE (oi 2 1) e26<|rsT 1<|rs0 (.elt (oi 2 1) x25.toNat 0) (zo (t:=.int) (o:=oi 2 1) (len:=u3.length) (k:=.i64) (m:=x25) p26<|Ai e26)<|zS (oi 2 1) (wI<|x26+1) e26<|Ao<|bn_<|tn_<|wr_<|Aa 15 (raH h fun h=>rsT 1<|Ao<|tn_ ?_);cases h;exact jLw hn19<|(wL 5 (((rfl:u3.length=u3.length).trans length_set.symm):u3.length=(u3.set x25.toNat<|wI<|x26+1).length)).trans<|Ag []
 intro ue h;refine sqF h (fun (uc,ud)=>sT [(4,oI 0 1 uc.length),(5,oI 1 1 ud.length)] [(oi 0 1,.arr 3 .int uc),(oi 1 1,.arr 3 .int ud)]) ?_ ?_
 ·intro _ h;refine Ae<|Ad<|lpF h (fun (ua,uf,u9)=>sT [(4,oI 0 1 uf.length),(5,oI 1 1 u9.length),(51,.tree Yb rA),(52,an rA.length),(53,an ua)] [(oi 0 1,.arr 3 .int uf),(oi 1 1,.arr 3 .int u9)]) (Ag [(oi 0 1,oi 1 1),(oi 1 1,oi 2 1)]) ?_;rintro n_ ⟨ua,uf,u9⟩ c_ h hn30;refine Ae<|Ab (kQ h (fun _ h=>skW<|sqF h (fun (ug,uh)=>sT [(4,oI 0 1 ug.length),(5,oI 1 1 uh.length),(51,.tree Yb rA),(52,an rA.length),(53,an ua)] [(oi 0 1,.arr 3 .int ug),(oi 1 1,.arr 3 .int uh)]) ?_ ?_) fun _ h=>lxT (have h:=jO h hn30;jE []))
  ·intro _ h;refine Ad<|Ab<|Aa 7 (riH Yb h fun x36 _ h=>rsB 3<|rnW<|sqF h (fun ub=>sT [(4,oI 0 1 ub.length),(5,oI 1 1 u9.length),(11,.box (oi 2 1) 0),(51,.tree Yb rA),(52,an rA.length),(53,an ua)] [(oi 0 1,.arr 3 .int ub),(oi 1 1,.arr 3 .int u9),(oi 2 1,.cells 171 [ai x36.1,ai x36.2.1,tI x36.2.2.1,tI x36.2.2.2])]) ?_ ?_)
   ·intro _ h;refine Ae<|Ad<|lpF h (fun (uk,u4)=>sT [(4,oI 0 1 u4.length),(5,oI 1 1 u9.length),(11,.box (oi 2 1) 0),(51,.tree Yb rA),(52,an rA.length),(53,an ua),(58,tI x36.2.2.2),(59,an x36.2.2.2.length),(60,an uk)] [(oi 0 1,.arr 3 .int u4),(oi 1 1,.arr 3 .int u9),(oi 2 1,.cells 171 [ai x36.1,ai x36.2.1,tI x36.2.2.1,tI x36.2.2.2])]) (Ag [(oi 2 1,oi 11 5)]) ?_;rintro n_ ⟨uk,u4⟩ c_ h hn39;refine Ae<|Ab (kQ h (fun _ h=>skW<|Ab<|Ad<|Ab<|Aa 6 (riH .int h fun x45 _ h=>rsT 2<|rnW<|Aa 13<|rsT 2 ?_)) fun _ h=>lxT (have h:=jO h hn39;jE []));have ⟨x46,f46,h⟩:=Ah h;have ⟨p46,b46,e46⟩:=Ar f46;refine rs0 (.elt (oi 0 1) x45.toNat 0) (zo (t:=.int) (o:=oi 0 1) (len:=u4.length) (k:=.i64) (m:=x45) p46<|Ai e46)<|zE (oi 0 1) e46<|rsT 1<|rs0 (.elt (oi 0 1) x45.toNat 0) (zo (t:=.int) (o:=oi 0 1) (len:=u4.length) (k:=.i64) (m:=x45) p46<|Ai e46)<|zS (oi 0 1) (wI<|x46+1) e46<|Ao<|bn_<|tn_<|wr_<|Aa 15 (raH h fun h=>rsT 1<|Ao<|tn_ ?_);cases h;exact jLw hn39<|(wL 4 (((rfl:u4.length=u4.length).trans length_set.symm):u4.length=(u4.set x45.toNat<|wI<|x46+1).length)).trans<|Ag []
   intro ub h;refine Ae<|Ad<|lpF h (fun (ul,u5)=>sT [(4,oI 0 1 ub.length),(5,oI 1 1 u5.length),(51,.tree Yb rA),(52,an rA.length),(53,an ua),(72,tI x36.2.2.1),(73,an x36.2.2.1.length),(74,an ul)] [(oi 0 1,.arr 3 .int ub),(oi 1 1,.arr 3 .int u5)]) (Ag []) ?_;rintro n_ ⟨ul,u5⟩ c_ h hn49;refine Ae<|Ab (kQ h (fun _ h=>skW<|Ab<|Ad<|Ab<|Aa 6 (riH .int h fun x55 _ h=>rsT 2<|rnW<|Aa 13<|rsT 2 ?_)) fun _ h=>D9<|te_<|te_<|be_<|bn_<|tn_ (have h:=jO h hn49;jE []));have ⟨x56,f56,h⟩:=Ah h;have ⟨p56,b56,e56⟩:=Ar f56;refine rs0 (.elt (oi 1 1) x55.toNat 0) (zo (t:=.int) (o:=oi 1 1) (len:=u5.length) (k:=.i64) (m:=x55) p56<|Ai e56)<|zE (oi 1 1) e56<|rsT 1<|rs0 (.elt (oi 1 1) x55.toNat 0) (zo (t:=.int) (o:=oi 1 1) (len:=u5.length) (k:=.i64) (m:=x55) p56<|Ai e56)<|zS (oi 1 1) (wI<|x56+1) e56<|Ao<|bn_<|tn_<|wr_<|Aa 15 (raH h fun h=>rsT 1<|Ao<|tn_ ?_);cases h;exact jLw hn49<|(wL 5 (((rfl:u5.length=u5.length).trans length_set.symm):u5.length=(u5.set x55.toNat<|wI<|x56+1).length)).trans<|Ag []
  rintro ⟨ug,uh⟩ h;exact Aa 4 (raH h fun h=>rsT 1<|Ao<|tn_<|jL [])
 rintro ⟨uc,ud⟩ h;exact Ae<|Ac<|jR h [oI 0 1 uc.length,oI 1 1 ud.length]<|H6 rfl (Ec kr rfl)<|H6 rfl (Ec kr rfl) H0
def Xo(u1:List (Int×Int×(List Int)×List Int))(u2:Int)(u0:Nat):Option (Ctl Nat (Ctl Unit Bool)):=
 cond (decide ((u0:Int)<(u1.length:Int)))
 ((u1[u0]?).bind fun x22=>
 (Wj x22.1 x22.2.1 x22.2.2.1 x22.2.2.2 u2).bind fun y24=>
 cond (!y24)
  (some (.out (.out false)))
  (og (u0+1<4611686018427387904)<|
  some (.next (u0+1))))
 (some (.out (.next ())))
def X9(y29:List Int×List Int)(u0:Nat):Option (Ctl Nat (Ctl Unit Bool)):=
 cond (decide ((u0:Int)<(y29.1.length:Int)))
 ((y29.1[u0]?).bind fun x39=>
 (y29.2[u0]?).bind fun x40=>
 cond ((wI (x39+x40))==0)
  (some (.out (.out false)))
  (og (u0+1<4611686018427387904)<|
  some (.next (u0+1))))
 (some (.out (.next ())))
def Dr(u0:Int)(u1:List (Int×Int×(List Int)×List Int))(u2 u3:List Int):Option Bool:=
 ((Cv u0 0 100).bind fun y4=>
 cond (!y4)
  (some true)
  (cond (decide (60<(u1.length:Int)))
   (some true)
   (cond (decide (12<(u2.length:Int)))
    (some true)
    (cond (decide (12<(u3.length:Int)))
     (some true)
     ((Gb u2 0 (wI (u0 - 1))).bind fun y9=>
     cond (!y9)
      (some true)
      ((Gb u3 0 (wI (u0 - 1))).bind fun y11=>
      some (!y11))))))).bind fun u4=>
cond u4
 (some false)
 (Dg (Aq (fun s_:Nat=>Xo u1 u0 s_) 4611686018427387904 0) fun _=>
 (Tr u0 u1 u2 u3).bind fun y29=>
 Dg (Aq (fun s_:Nat=>X9 y29 s_) 4611686018427387904 0) fun _=>
 some true)
theorem Ab1(h:Dr bA rA aA aB=some cA):cK 183 [.agg [ai bA,.tree Yb rA,tI aA,tI aB]] (An cA):=by
 refine cO Tryz.func183<|Ae<|Ab<|sqF h (fun u5=>sT [(1,.box (oi 0 1) 0),(47,.bool u5)] [(oi 0 1,.cells 131 [ai bA,.tree Yb rA,tI aA,tI aB])]) ?_ ?_
 ·intro _ h;refine Aa 43<|rsT 2 (rcH h Db fun y4 h=>rsT 2 (kR h 12 (fun _ h=>rsT 35<|Ao<|tn_<|jE [(oi 0 1,oi 1 1)]) fun _ h=>rsT 6 (kR h 18 (fun _ h=>rsT 29<|Ao<|tn_<|jE [(oi 0 1,oi 1 1)]) fun _ h=>rsT 6 (kR h 24 (fun _ h=>rsT 23<|Ao<|tn_<|jE [(oi 0 1,oi 1 1)]) fun _ h=>rsT 6 ?_))));rcases A5 h with ⟨q8,h⟩|⟨q8,h⟩
  ·exact rq 30 q8<|rsT 17<|Ao<|tn_<|jE [(oi 0 1,oi 1 1)]
  refine rq 30 q8<|rsT 5 (rcH h Kt fun y9 h=>rsT 3 ?_);rcases A5 h with ⟨q10,h⟩|⟨q10,h⟩
  ·exact rq 39 q10<|rsT 8<|Ao<|tn_<|jE [(oi 0 1,oi 1 1)]
  exact rq 39 q10<|rsT 5 (rcH h Kt fun y11 h=>rsT 2<|Ao<|tn_<|jE [(oi 0 1,oi 1 1)])
 intro u5 h;refine kQ h (fun _ h=>Ae<|Ac<|tr_<|jS h) fun _ h=>skW<|sqC h (fun _=>sT [(1,.box (oi 0 1) 0)] [(oi 0 1,.cells 131 [ai bA,.tree Yb rA,tI aA,tI aB])]) (fun _ h hk14=>Ae<|Ad<|lpF h (fun u6=>sT [(1,.box (oi 0 1) 0),(49,.tree Yb rA),(50,an rA.length),(51,an u6)] [(oi 0 1,.cells 131 [ai bA,.tree Yb rA,tI aA,tI aB])]) (Ag []) fun n_ u6 c_ h hn16=>Ae<|Ab (kQ h (fun _ h=>skW<|Ab<|Ad<|Ab<|Aa 7 (riH Yb h fun x22 _ h=>rsB 3<|rnW<|Ab<|Aa 12<|rsT 3 (rcH h Afc fun y24 h=>rsT 1<|rnW (kQ h (fun _ h=>Ae<|Ac<|br_<|tr_<|tr_<|br_<|tr_ (have h:=jO h hn16;(have h:=jO h hk14;jS h))) fun _ h=>Ay<|bn_<|tn_<|wr_<|Aa 14 (raH h fun h=>rsT 1<|Ao<|tn_<|jL []))))) fun _ h=>lxT (have h:=jO h hn16;jC []))) ?_
 intro _ h;refine Ab<|Aa 9<|rsT 1 (rcH h Aar fun y29 h=>rsT 5<|rnW (sqC h (fun _=>sT [] []) ?_ fun _ h=>Ae<|Ac<|jS h));intro _ h hk30;refine Ae<|Ad<|lpF h (fun u4=>sT [(5,oI 0 1 y29.1.length),(6,oI 1 1 y29.2.length),(67,an y29.1.length),(68,an u4)] [(oi 0 1,.arr 3 .int y29.1),(oi 1 1,.arr 3 .int y29.2)]) (Ag [(oi 0 1,oi 1008 3),(oi 1 1,oi 1009 3)]) ?_;intro n_ u4 c_ h hn32;refine Ae<|Ab (kQ h (fun _ h=>skW<|Ab<|Ad<|Ae<|Ab<|Al 15<|dz0 (oI 0 1 y29.1.length)<|dz0 (an u4) ?_) fun _ h=>lxT (have h:=jO h hn32;jC []));have ⟨x39,e39,h⟩:=Ah h;refine dzO (oi 0 1) .int y29.1.length (Ai e39)<|dzE (oi 0 1) e39<|dz0 (oI 1 1 y29.2.length)<|dz0 (an u4) ?_;have ⟨x40,e40,h⟩:=Ah h;exact dzO (oi 1 1) .int y29.2.length (Ai e40)<|dzE (oi 1 1) e40<|dz0 (ai<|wI<|x39+x40)<|dz0 (.bool<|(wI<|x39+x40)==0)<|Cb (As kr)<|tn_<|wr_ (kQ h (fun _ h=>Ae<|Ac<|br_<|tr_<|tr_<|br_<|tr_ (have h:=jO h hn32;(have h:=jO h hk30;jS h))) fun _ h=>Ay<|bn_<|tn_<|wr_<|Aa 17 (raH h fun h=>rsT 1<|Ao<|tn_<|jL []))
def J9(u1:List (Int×Int×(List Int)×List Int))(a0:Int)(u0:Nat):Option (Ctl Nat (Ctl Unit Bool)):=
 cond (decide ((u0:Int)<(u1.length:Int)))
 ((u1[u0]?).bind fun x17=>
 cond (decide (a0<=x17.2.1))
  (some (.out (.out false)))
  (og (u0+1<4611686018427387904)<|
  some (.next (u0+1))))
 (some (.out (.next ())))
def Nt(a0 u1:Int)(u0:List (Int×Int×(List Int)×List Int))(u2 u3:List Int):Option Bool:=
 ((Gk a0).bind fun y4=>
 cond (!y4)
  (some true)
  ((Dr u1 u0 u2 u3).bind fun y6=>
  some (!y6))).bind fun u4=>
cond u4
 (some false)
 (Dg (Aq (fun s_:Nat=>J9 u0 a0 s_) 4611686018427387904 0) fun _=>
 some true)
theorem Adk(h:Nt bA bB rA aA aB=some cA):cK 173 [ai bA,.agg [ai bB,.tree Yb rA,tI aA,tI aB]] (An cA):=by
 refine cO Tryz.func173<|Ae<|Ab (sqF h (fun u4=>sT [(0,ai bA),(3,.box (oi 0 1) 0),(14,.bool u4)] [(oi 0 1,.cells 131 [ai bB,.tree Yb rA,tI aA,tI aB])]) ?_ fun u4 h=>kQ h (fun _ h=>Ae<|Ac<|tr_<|jS h) fun _ h=>skW (sqC h (fun _=>sT [] []) (fun _ h hk9=>Ae<|Ad<|lpF h (fun u5=>sT [(0,ai bA),(16,.tree Yb rA),(17,an rA.length),(18,an u5)] []) (Ag []) fun n_ u5 c_ h hn11=>Ae<|Ab (kQ h (fun _ h=>skW<|Ab<|Ad<|Ab<|Aa 7 (riH Yb h fun x17 _ h=>rsB 3<|rnW<|Ae (kQ h (fun _ h=>Ae<|Ac<|br_<|tr_<|tr_<|br_<|tr_ (have h:=jO h hn11;(have h:=jO h hk9;jS h))) fun _ h=>Ay<|bn_<|tn_<|wr_<|Aa 13 (raH h fun h=>rsT 1<|Ao<|tn_<|jL [])))) fun _ h=>lxT (have h:=jO h hn11;jC []))) fun _ h=>Ae<|Ac<|jS h));intro _ h;refine Aa 11<|rsT 1 (rcH h Mo fun y4 h=>rsT 2 ?_);rcases A5 h with ⟨q5,h⟩|⟨q5,h⟩
 ·exact rq 10 q5<|rsT 4<|Ao<|tn_<|jE [(oi 0 1,oi 3 1)]
 exact rq 10 q5<|rsT 1 (rcH h Ab1 fun y6 h=>rsT 2<|Ao<|tn_<|jE [(oi 0 1,oi 3 1)])
def Iy(u1:List (Int×Int×(List Int)×List Int))(u0:Nat):Option (Ctl Nat (Ctl Unit Bool)):=
 cond (decide ((u0:Int)<(u1.length:Int)))
 ((u1[u0]?).bind fun x15=>
 (C5 x15.1).bind fun y17=>
 cond (!y17)
  (some (.out (.out false)))
  (og (u0+1<4611686018427387904)<|
  some (.next (u0+1))))
 (some (.out (.next ())))
def G7(a0 u1:Int)(u0:List (Int×Int×(List Int)×List Int))(u2 u3:List Int):Option Bool:=
 (Nt a0 u1 u0 u2 u3).bind fun y4=>
cond (!y4)
 (some false)
 (Dg (Aq (fun s_:Nat=>Iy u0 s_) 4611686018427387904 0) fun _=>
 some true)
theorem Ab3(h:G7 bA bB rA aA aB=some cA):cK 148 [ai bA,.agg [ai bB,.tree Yb rA,tI aA,tI aB]] (An cA):=by
 exact cO Tryz.func148<|Ae<|Ab<|Ab<|Aa 7<|rsT 2 (rcH h Adk fun y4 h=>rsT 1<|rnW (kQ h (fun _ h=>Ae<|Ac<|tr_<|jS h) fun _ h=>skW (sqC h (fun _=>sT [] []) (fun _ h hk7=>Ae<|Ad<|lpF h (fun u4=>sT [(12,.tree Yb rA),(13,an rA.length),(14,an u4)] []) (Ag []) fun n_ u4 c_ h hn9=>Ae<|Ab (kQ h (fun _ h=>skW<|Ab<|Ad<|Ab<|Aa 7 (riH Yb h fun x15 _ h=>rsB 3<|rnW<|Ab<|Aa 11<|rsT 2 (rcH h Lk fun y17 h=>rsT 1<|rnW (kQ h (fun _ h=>Ae<|Ac<|br_<|tr_<|tr_<|br_<|tr_ (have h:=jO h hn9;(have h:=jO h hk7;jS h))) fun _ h=>Ay<|bn_<|tn_<|wr_<|Aa 13 (raH h fun h=>rsT 1<|Ao<|tn_<|jL []))))) fun _ h=>lxT (have h:=jO h hn9;jC []))) fun _ h=>Ae<|Ac<|jS h)))
def O3(a2 a3:List Int)(a0:Int)(u0:Nat)(u1:List Int):Option (Ctl (Nat×List Int) (List Int)):=
 cond (decide ((u0:Int)<(a2.length:Int)))
 ((a2[u0]?).bind fun x12=>
 (Bz u1 x12).bind fun x13=>
 (a3[u0]?).bind fun x14=>
 (Ee a0 x13 x14).bind fun y15=>
 og (u0+1<4611686018427387904)<|
 some (.next (u0+1,u1.set x12.toNat y15)))
 (some (.out u1))
def Dc(a0 a1:Int)(a2 a3:List Int):Option (List Int):=
 og (0<=a1/\a1<=a1/\a1<=1073741824/\(8:Int)*a1<=140737488355328)<|
(Aq (fun s_:Nat×List Int=>O3 a2 a3 a0 s_.1 s_.2) 4611686018427387904 (0,replicate a1.toNat (0:Int))).bind fun u0=>
some u0
def Agw(r:List Int):RV:=⟨false,[(false,[.frz (tI r)])]⟩
theorem Kz(h:Dc bA bB aA aB=some aC):cK 184 [ai bA,ai bB,tI aA,tI aB] (Agw aC):=by
 refine cZ Tryz.func184 fun zn_ nz_ hz_=>Ae<|Ab<|Aa 5<|rsT 1 ?_
 have ⟨g3,h⟩:=Aj h;refine rs1 (oI 13 3 bB.toNat) (oi 13 3) (.arr 3 .int<|replicate bB.toNat (0:Int)) (Qh (t:=.int) (k:=.i64) (k':=.i64) (m:=bB) (m':=bB) kr kr g3 rfl)<|rsT 1<|rnW (sqF h (fun u1=>sT [(9,oI 0 1 u1.length)] [(oi 0 1,.arr 3 .int u1)]) ?_ fun u1 h=>Ae<|Ac<|jZ h [(false,[oI 0 1 u1.length])]<|Lu (B0<|.arr (e:=3) kr rfl) Cs);intro _ h;refine Ae<|Ad<|lpF h (fun (u2,u0)=>sT [(0,ai bA),(3,tI aB),(9,oI 0 1 u0.length),(14,tI aA),(15,an aA.length),(16,an u2)] [(oi 0 1,.arr 3 .int u0)]) ((wL 9 (length_replicate.symm:bB.toNat=(replicate bB.toNat (0:Int)).length)).trans<|Ag [(oi 0 1,oi 13 3)]) ?_;rintro n_ ⟨u2,u0⟩ c_ h hn6;refine Ae<|Ab (kQ h (fun _ h=>skW<|Ab<|Ad<|Ab<|Aa 8<|rsT 1 (riH .int h fun x12 _ h=>rsT 3<|rnW<|Al 22<|dsT 5 ?_)) fun _ h=>lxT (have h:=jO h hn6;jE []));have ⟨x13,f13,h⟩:=Ah h;have ⟨p13,b13,e13⟩:=Ar f13;refine ds0 (.elt (oi 0 1) x12.toNat 0) (zo (t:=.int) (o:=oi 0 1) (len:=u0.length) (k:=.i64) (m:=x12) p13<|Ai e13)<|dzE (oi 0 1) e13<|dz0 (tI aB)<|dz0 (an u2) (diH .int h fun x14 _ h=>dz0 (ai x14) (dcH h (fun h=>Hi<|Agm h) fun y15 h=>ds0 (.elt (oi 0 1) x12.toNat 0) (zo (t:=.int) (o:=oi 0 1) (len:=u0.length) (k:=.i64) (m:=x12) p13<|Ai e13)<|dzS (oi 0 1) (y15) e13<|Cb (As kr)<|bn_<|tn_<|wr_<|Aa 24 (raH h fun h=>rsT 1<|Ao<|tn_ ?_)));cases h;exact jLw hn6<|(wL 9 (((rfl:u0.length=u0.length).trans length_set.symm):u0.length=(u0.set x12.toNat y15).length)).trans<|Ag []
def Ig(a0 a1:Int)(u3 u6:Int)(u4 u5:List Int):Option LL:=
 (cond (decide (9<=u3))
  (some (u5,u4,wI (wI (u3 - 9)+3)))
  (some (u4,u5,u3))).bind fun (u1,u0,u2)=>
cond (u2==3)
 ((u0[0]?).bind fun x12=>
 (u1[0]?).bind fun x13=>
 (Dc a0 a1 ([x12,x13]) ([1,wI (a0 - 1)])).bind fun y14=>
 (u0[1]?).bind fun x15=>
 (Dc a0 a1 ([x15,x13]) ([1,wI (a0 - 1)])).bind fun y16=>
 some ([y14,y16]))
 (cond (u2==5)
  ((u0[0]?).bind fun x20=>
  (u1[0]?).bind fun x21=>
  (u1[1]?).bind fun x22=>
  (Dc a0 a1 ([x20,x21,x22]) ([1,wI (a0 - 1),wI (a0 - 1)])).bind fun y23=>
  some ([y23]))
  (cond (u2==6)
   ((u0[0]?).bind fun x27=>
   (Dc a0 a1 ([x27]) ([1])).bind fun y28=>
   some ([y28]))
   (cond (u2==7)
    ((u0[0]?).bind fun x32=>
    (u1[0]?).bind fun x33=>
    (Ge a0 u6).bind fun y34=>
    (Dc a0 a1 ([x32,x33]) ([1,y34])).bind fun y35=>
    some ([y35]))
    (some []))))
def U2(r:LL):RV:=⟨false,[(false,[.frz (tS r)])]⟩
theorem Ae6(h:Ig bA bB bC bD aA aB=some dA):cK 174 [ai bA,ai bB,.agg [ai bC,ai bD,tI aA,tI aB]] (U2 dA):=by
 refine cZ Tryz.func174 fun zn_ nz_ hz_=>Ae<|Ab<|Al 9<|dsT 6<|Cb (As kr)<|tn_<|wr_<|Ae<|sqF h (fun (u0,u2,u6)=>sT [(0,ai bA),(1,ai bB),(5,.box (oi 0 1) 0),(7,tI u0),(8,tI u2),(9,ai u6)] [(oi 0 1,.cells 171 [ai bC,ai bD,tI aA,tI aB])]) (fun _ h=>Ae (kQ h (fun _ h=>Al 24<|dsT 10<|Cb (As kr)<|tn_<|jE [(oi 0 1,oi 5 1)]) fun _ h=>Ay<|tn_<|jE [(oi 0 1,oi 5 1)])) ?_
 rintro ⟨u0,u2,u6⟩ h;exact Ab<|Ae<|Ad<|Ae (kQ h (fun _ h=>Ab<|Al 33<|dsT 3 (diH .int h fun x12 _ h=>ds0 (ai x12) kr<|ds0 (tI u0) kr (diH .int h fun x13 e13 h=>ds0 (ai x13) kr<|ds1 (oI 36 13 2) (oi 36 13) (.arr 3 .int<|[x12,x13]) kr<|ds0 (ai bA) kr<|ds0 (ai<|wI<|bA - 1) kr<|ds1 (oI 39 16 2) (oi 39 16) (.arr 3 .int<|[1,wI (bA - 1)]) kr (dcG h [ai bA,ai bB,oI 36 13 2,oI 39 16 2] (fun h=>F1 hz_<|Kz h) (Au kr<|Au kr<|Au (G9 (e:=3) kr rfl)<|Au (G9 (e:=3) kr rfl) Dm) fun y14 h=>ds0 (ai bA) kr<|ds0 (ai bB) kr<|ds0 (tI u2) kr (diH .int h fun x15 _ h=>ds0 (ai x15) kr<|ds0 (tI u0) kr<|diE .int e13<|ds0 (ai x13) kr<|ds1 (oI 49 26 2) (oi 49 26) (.arr 3 .int<|[x15,x13]) kr<|ds0 (ai bA) kr<|ds0 (ai<|wI<|bA - 1) kr<|ds1 (oI 52 29 2) (oi 52 29) (.arr 3 .int<|[1,wI (bA - 1)]) kr (dcG h [ai bA,ai bB,oI 49 26 2,oI 52 29 2] (fun h=>F1 hz_<|Kz h) (Au kr<|Au kr<|Au (G9 (e:=3) kr rfl)<|Au (G9 (e:=3) kr rfl) Dm) fun y16 h=>Ajw (oS 54 31 2) (oi 54 31) (.vec 81 1 2<|tvC (some nz_) sI<|[y14,y16]) trivial (Co kr)<|ds0 (oS 54 31 2) kr<|Cb (As kr)<|tn_<|⟨_,Bv (N:=2) (oi 54 31) 81 (some nz_) sI ([y14,y16]) kr rfl,Ac<|br_<|tr_<|jZ h [(false,[oS 54 31 2])]<|Lu (B0<|.tv (e:=81) kr rfl) Cs⟩)))))) fun _ h=>Ae (kQ h (fun _ h=>Ab<|Al 27<|ds0 (ai bA) kr<|ds0 (ai bB) kr<|ds0 (tI u2) kr (diH .int h fun x20 _ h=>ds0 (ai x20) kr<|ds0 (tI u0) kr (diH .int h fun x21 _ h=>ds0 (ai x21) kr<|ds0 (tI u0) kr (diH .int h fun x22 _ h=>ds0 (ai x22) kr<|ds1 (oI 68 18 3) (oi 68 18) (.arr 3 .int<|[x20,x21,x22]) kr<|dsT 4<|ds1 (oI 73 23 3) (oi 73 23) (.arr 3 .int<|[1,wI<|bA - 1,wI (bA - 1)]) kr (dcG h [ai bA,ai bB,oI 68 18 3,oI 73 23 3] (fun h=>F1 hz_<|Kz h) (Au kr<|Au kr<|Au (G9 (e:=3) kr rfl)<|Au (G9 (e:=3) kr rfl) Dm) fun y23 h=>Ajw (oS 75 25 1) (oi 75 25) (.vec 81 1 1<|tvC (some nz_) sI<|[y23]) trivial (Co kr)<|ds0 (oS 75 25 1) kr<|Cb (As kr)<|tn_<|⟨_,Bv (N:=1) (oi 75 25) 81 (some nz_) sI ([y23]) kr rfl,Ac<|br_<|tr_<|jZ h [(false,[oS 75 25 1])]<|Lu (B0<|.tv (e:=81) kr rfl) Cs⟩))))) fun _ h=>Ae (kQ h (fun _ h=>Ab<|Aa 19<|rsT 3 (riH .int h fun x27 _ h=>rsB 3 (rcG h [ai bA,ai bB,oI 83 14 1,oI 84 15 1] (fun h=>F1 hz_<|Kz h) (Au kr<|Au kr<|Au (G9 (e:=3) kr rfl)<|Au (G9 (e:=3) kr rfl) Dm) fun y28 h=>Hd (oS 86 17 1) (oi 86 17) (.vec 81 1 1<|tvC (some nz_) sI<|[y28]) trivial (Co kr)<|rsT 1<|Ao<|tn_<|⟨_,Bv (N:=1) (oi 86 17) 81 (some nz_) sI ([y28]) kr rfl,Ac<|br_<|tr_<|jZ h [(false,[oS 86 17 1])]<|Lu (B0<|.tv (e:=81) kr rfl) Cs⟩))) fun _ h=>Ae (kQ h (fun _ h=>Ab<|Al 28<|dsT 3 (diH .int h fun x32 _ h=>ds0 (ai x32) kr<|ds0 (tI u0) kr (diH .int h fun x33 _ h=>ds0 (ai x33) kr<|ds1 (oI 97 19 2) (oi 97 19) (.arr 3 .int<|[x32,x33]) kr<|ds0 (ai bA) kr<|ds0 (.box (oi 0 1) 1) kr<|dsl (ai bD) kr (dcH h (fun h=>Hi<|Rj h) fun y34 h=>ds1 (oI 102 24 2) (oi 102 24) (.arr 3 .int<|[1,y34]) kr (dcG h [ai bA,ai bB,oI 97 19 2,oI 102 24 2] (fun h=>F1 hz_<|Kz h) (Au kr<|Au kr<|Au (G9 (e:=3) kr rfl)<|Au (G9 (e:=3) kr rfl) Dm) fun y35 h=>Ajw (oS 104 26 1) (oi 104 26) (.vec 81 1 1<|tvC (some nz_) sI<|[y35]) trivial (Co kr)<|ds0 (oS 104 26 1) kr<|Cb (As kr)<|tn_<|⟨_,Bv (N:=1) (oi 104 26) 81 (some nz_) sI ([y35]) kr rfl,Ac<|br_<|tr_<|jZ h [(false,[oS 104 26 1])]<|Lu (B0<|.tv (e:=81) kr rfl) Cs⟩))))) fun _ h=>Ay<|bn_<|tn_<|wr_<|Ae<|Ac<|jZ h [(false,[.nils])]<|Lu (B0 (t:=sI) (xs:=[]) .nil) Cs))))
def Fv(u2:List (Int×Int×(List Int)×List Int))(a0 u3:Int)(u0:Nat)(u1:LL):Option (Ctl (Nat×LL) (LL)):=
 cond (decide ((u0:Int)<(u2.length:Int)))
 ((u2[u0]?).bind fun x12=>
 (Ig a0 u3 x12.1 x12.2.1 x12.2.2.1 x12.2.2.2).bind fun y13=>
 og (u1.length+y13.length<=1073741824/\(u1.length+y13.length)*24<=140737488355328)<|
 og (u0+1<4611686018427387904)<|
 some (.next (u0+1,u1++y13)))
 (some (.out u1))
def F5(a0 u0:Int)(u1:List (Int×Int×(List Int)×List Int))(u3 u4:List Int):Option LL:=
 (Aq (fun s_:Nat×LL=>Fv u1 a0 u0 s_.1 s_.2) 4611686018427387904 (0,[])).bind fun u2=>
(Ko a0 u0 u2).bind fun y17=>
some y17
theorem Aan(h:F5 bA bB rA aA aB=some dA):Ed Tryz.prog Tab 149 [ai bA,.agg [ai bB,.tree Yb rA,tI aA,tI aB]] [] (oS 0 1 dA.length) [(oi 0 1,.mat 81 (oi 1 1) .int dA),(oi 1 1,.pool 3 .int dA)]:=by
 refine B8 kr Tryz.func149 (Ck kr) (n:=28) kr fS rfl kr trivial ⟨⟨3,.tail _<|.head _⟩,⟨trivial,trivial⟩⟩ (Ae<|Ae (sqF h (fun u3=>sT [(0,ai bA),(3,.box (oi 0 1) 0),(5,oS 1 1 u3.length)] [(oi 0 1,.cells 131 [ai bB,.tree Yb rA,tI aA,tI aB]),(oi 1 1,.tv 81 none sI u3)]) ?_ fun u3 h=>Ab<|Aa 8<|rsT 4 (rcM h [] [ai bA,ai bB,oS 1 1 u3.length] T3 trivial (.cons (.ren kr)<|.cons (.ren kr)<|.cons (.gnd kr<|Alr (e:=81) (m:=none) (t:=sI) (xs:=u3) ((K6 kr kr kr).trans kr) rfl) .nil) (Bb kr kr trivial) fun y17 h=>rsT 1<|rnW<|Ac (by obtain rfl:=osj h;exact E4 [oS 0 1 y17.length]<|Ag (tl:=[(4,oS 0 1 y17.length)]) (g:=2) [(oi 0 1,oi 432 6),(oi 1 1,oi 433 6)]))));intro _ h;refine Ae<|Ad<|lpF h (fun (u6,u0)=>sT [(0,ai bA),(3,.box (oi 0 1) 0),(5,oS 1 1 u0.length),(9,.tree Yb rA),(10,an rA.length),(11,an u6)] [(oi 0 1,.cells 131 [ai bB,.tree Yb rA,tI aA,tI aB]),(oi 1 1,.tv 81 none sI u0)]) ((Q2 5 81 none sI kr).trans<|Ag [(oi 0 1,oi 3 1),(oi 1 1,oi 5 8)]) ?_;rintro n_ ⟨u6,u0⟩ c_ h hn6;refine Ae<|Ab (kQ h (fun _ h=>skW<|Ab<|Ad<|Ab<|Aa 7 (riH Yb h fun x12 _ h=>rsB 3<|rnW<|Aa 15<|rsT 5 (rcH h Ae6 fun y13 h=>?_))) fun _ h=>lxT (have h:=jO h hn6;jE []));have ⟨g14,h⟩:=Aj h;refine rs2 (oS 1 13<|u0.length+y13.length) (oi 1 1) (oi 1 13) (.vec 81 1 (u0.length+y13.length)<|tvC none sI<|u0++y13) (Aos (o:=oi 1 1) (t:=sI) (t':=sI) (len:=u0.length) (N:=u0.length) (m:=none) (xs:=u0) (ys:=y13) kr kr rfl rfl (Ap4 kr) g14) (rsT 1<|Ao<|bn_<|tn_ ⟨_,Bv (N:=u0.length+y13.length) (oi 1 13) 81 none sI (u0++y13) kr fS,Aa 17 (raH h fun h=>rsT 1<|Ao<|tn_ ?_)⟩);cases h;exact jLw hn6<|(wL 5 (fS:u0.length+y13.length=(u0++y13).length)).trans<|Ag [(oi 1 1,oi 1 13)]
def Kd(a0 a1:List Int)(u0:Nat)(u1:List Int):Option (Ctl (Nat×List Int) (List Int)):=
 cond (decide ((u0:Int)<(a0.length:Int)))
 ((a0[u0]?).bind fun x11=>
 (Bz a1 x11).bind fun x12=>
 og (u1.length+1<=1073741824/\(u1.length+1)*8<=140737488355328)<|
 og (u0+1<4611686018427387904)<|
 some (.next (u0+1,u1++([x12]))))
 (some (.out u1))
def Ks(a0 a1:List Int):Option (List Int):=
 (Aq (fun s_:Nat×List Int=>Kd a0 a1 s_.1 s_.2) 4611686018427387904 (0,[])).bind fun u0=>
some u0
theorem Afv(h:Ks aA aB=some aC):cK 150 [tI aA,tI aB] (Cj aC):=by
 refine cO Tryz.func150<|Ae<|Ae (sqF h (fun u0=>sT [(5,oI 0 1 u0.length)] [(oi 0 1,.arr 3 .int u0)]) ?_ fun u0 h=>Ae<|Ac<|jR h [oI 0 1 u0.length]<|H6 rfl (Ec kr rfl) H0);intro _ h;refine Ae<|Ad<|lpF h (fun (u2,u1)=>sT [(1,tI aB),(5,oI 0 1 u1.length),(8,tI aA),(9,an aA.length),(10,an u2)] [(oi 0 1,.arr 3 .int u1)]) ((Aqn 5 3 .int rfl kr).trans<|Ag [(oi 0 1,oi 5 6)]) ?_;rintro n_ ⟨u2,u1⟩ c_ h hn5;refine Ae<|Ab (kQ h (fun _ h=>skW<|Ab<|Ad<|Ab<|Aa 6 (riH .int h fun x11 _ h=>rsT 2<|rnW<|Aa 14<|rsT 3 ?_)) fun _ h=>lxT (have h:=jO h hn5;jE []));have ⟨x12,f12,h⟩:=Ah h;have ⟨p12,b12,e12⟩:=Ar f12;refine rs0 (.telt none .int x12 0) (zi (t:=.int) (xs:=aB) (k:=.i64) (m:=x11) p12 e12)<|rsB 2 ?_;have ⟨g13,h⟩:=Aj h;exact zB (oi 0 1) (oi 19 11) u1 (x12) g13<|rsT 1<|Ao<|bn_<|tn_<|wr_<|Aa 16 (raH h fun h=>rsT 1<|Ao<|tn_<|jL [(oi 0 1,oi 0 12)])
def Mz(a0:Int)(u1:Nat)(u0:List Int):Option (Ctl (Nat×List Int) (List Int)):=
 cond (decide ((u1:Int)<a0))
 (og (u0.length+1<=1073741824/\(u0.length+1)*8<=140737488355328)<|
 og (u0.length+1<=1073741824/\(u0.length+1)*8<=140737488355328)<|
 og (u1+1<4611686018427387904)<|
 some (.next (u1+1,u0++([(u1:Int)]))))
 (some (.out u0))
def Qp(a0:Int):Option (Int×(List (Int×Int×(List Int)×List Int))×List Int×List Int):=
 (Aq (fun s_:Nat×List Int=>Mz a0 s_.1 s_.2) 4611686018427387904 (0,[])).bind fun u0=>
some (a0,[],u0,u0)
def X0(r:Int×(List (Int×Int×(List Int)×List Int))×List Int×List Int):RV:=⟨false,[(true,[.sc (.int .i64 r.1),.frz (.tree Yb r.2.1),.frz (tI r.2.2.1),.frz (tI r.2.2.2)])]⟩
theorem Aix(h:Qp bA=some tA):cK 151 [ai bA] (X0 tA):=by
 refine cZ Tryz.func151 fun zn_ nz_ hz_=>Ae<|Ae (sqF h (fun u0=>sT [(2,.box (oi 0 1) 0),(3,.box (oi 1 1) 0)] [(oi 0 1,.cells 131 [ai 0,.nils,.nils,.nils]),(oi 1 1,.cells 131 [ai bA,.nils,oI 2 1 u0.length,oI 3 1 u0.length]),(oi 2 1,.arr 3 .int u0),(oi 3 1,.arr 3 .int u0)]) ?_ fun u0 h=>Ae<|Ac<|jZ h [(true,[ai bA,.nils,oI 2 1 u0.length,oI 3 1 u0.length])]<|Ek (Aw Cd<|Aw (B0 (t:=Yb) (xs:=[]) .nil)<|Aw (B0<|.arr (e:=3) kr rfl)<|Aw (B0<|.arr (e:=3) kr rfl) Ei) Cs)
 intro _ h;refine Ae<|Ad<|lpF h (fun (u2,u1)=>sT [(0,ai bA),(2,.box (oi 0 1) 0),(3,.box (oi 1 1) 0),(4,an u2)] [(oi 0 1,.cells 131 [ai 0,.nils,.nils,.nils]),(oi 1 1,.cells 131 [ai bA,.nils,oI 2 1 u1.length,oI 3 1 u1.length]),(oi 2 1,.arr 3 .int u1),(oi 3 1,.arr 3 .int u1)]) ((Dq 9000 (oi 3 4) 2 131 [ai bA,.nils,.nils,.nils] [ai bA,.nils,oI 9000 7 0,.nils] 3 .int rfl kr kr kr).trans<|(Dq 9001 (oi 3 4) 3 131 [ai bA,.nils,oI 9000 7 0,.nils] [ai bA,.nils,oI 9000 7 0,oI 9001 8 0] 3 .int rfl kr kr kr).trans<|Ag [(oi 0 1,oi 2 1),(oi 1 1,oi 3 4),(oi 2 1,oi 9000 7),(oi 3 1,oi 9001 8)]) ?_;rintro n_ ⟨u2,u1⟩ c_ h hn5;refine Ab<|Ae (kQ h (fun _ h=>skW<|Ab<|Ad<|Ab<|Aa 12<|rsB 4 ?_) fun _ h=>lxT (have h:=jO h hn5;jE []));have ⟨g11,h⟩:=Aj h;refine zB (oi 2 1) (oi 15 8) u1 ((u2:Int)) g11<|rsB 2<|rnW<|Aa 19<|rsB 4 ?_;have ⟨g12,h⟩:=Aj h;exact zB (oi 3 1) (oi 21 15) u1 ((u2:Int)) g12<|rsB 2<|Ao<|bn_<|tn_<|wr_<|Aa 22<|rsT 1 (raH h fun h=>rsT 1<|Ao<|tn_<|jL [(oi 2 1,oi 2 9),(oi 3 1,oi 3 16)])
def Aao(y12:Int×Int)(u2:Nat)(u0 u1:List Int):Option (Ctl (Nat×List Int×List Int) (List Int×List Int)):=
 cond (decide ((u2:Int)<wI (y12.1+y12.2)))
 ((cond (decide ((u2:Int)<y12.1))
   (og (u0.length+1<=1073741824/\(u0.length+1)*8<=140737488355328)<|
   og (u0.length+1<=1073741824/\(u0.length+1)*8<=140737488355328)<|
   some (u0++([(u2:Int)]),u1))
   (og (u1.length+1<=1073741824/\(u1.length+1)*8<=140737488355328)<|
   og (u1.length+1<=1073741824/\(u1.length+1)*8<=140737488355328)<|
   some (u0,u1++([(u2:Int)])))).bind fun (u3,u4)=>
 og (u2+1<4611686018427387904)<|
 some (.next (u2+1,u3,u4)))
 (some (.out (u0,u1)))
def N5(u0 u1:Int)(u4:ByteArray):Option (Int×(List (Int×Int×(List Int)×List Int))×List Int×List Int):=
 cond (u0==1)
 ((Qp u1).bind fun y7=>
 some (y7.1,y7.2.1,y7.2.2.1,y7.2.2.2))
 (cond (u0==2)
  (some (2,[],[0,1],[1,0]))
  ((Ib u0).bind fun y12=>
  (Aq (fun s_:Nat×List Int×List Int=>Aao y12 s_.1 s_.2.1 s_.2.2) 4611686018427387904 (0,[],[])).bind fun (u2,u3)=>
  some (wI (y12.1+y12.2),[(u0,u1,u2,u3)],u2,u3)))
theorem Adc(h:N5 bA bB gA=some tA):cK 105 [.agg [ai bA,ai bB,.str gA]] (X0 tA):=by
 refine cZ Tryz.func105 fun zn_ nz_ hz_=>Ae<|Ab<|Ae<|Ad<|Ae (kQ h (fun _ h=>Ab<|Aa 11<|rsT 2 (rcH h (fun h=>F1 hz_<|Aix h) fun y7 h=>rsB 1<|rnW<|Ac<|br_<|tr_<|jZ h [(true,[ai y7.1,.ftr nz_ Yb y7.2.1,.ftr nz_ .int y7.2.2.1,.ftr nz_ .int y7.2.2.2])]<|Ek (Aw Cd<|Aw (B0 .ftr)<|Aw (B0 .ftr)<|Aw (B0 .ftr) Ei) Cs)) fun _ h=>Ae (kQ h (fun _ h=>Ae<|Ac<|br_<|tr_<|jZ h [(true,[ai 2,.nils,oI 17 9 2,oI 18 10 2])]<|Ek (Aw Cd<|Aw (B0 (t:=Yb) (xs:=[]) .nil)<|Aw (B0<|.arr (e:=3) kr rfl)<|Aw (B0<|.arr (e:=3) kr rfl) Ei) Cs) fun _ h=>Ay<|bn_<|tn_<|wr_<|Ab<|Aa 17<|rsT 2 (rcH h (fun h=>Hi<|Qm h) fun y12 h=>rsT 5<|rnW<|Ae<|Ae<|sqF h (fun (u4,u5)=>sT [(2,.box (oi 0 1) 0),(5,.box (oi 1 1) 0),(6,.box (oi 2 1) 0)] [(oi 0 1,.cells 131 [ai 0,.nils,.nils,.nils]),(oi 1 1,.cells 131 [ai<|wI<|y12.1+y12.2,.nils,oI 3 1 u4.length,oI 4 1 u5.length]),(oi 2 1,.cells 171 [ai bA,ai bB,.ftr nz_ .int u4,.ftr nz_ .int u5]),(oi 3 1,.arr 3 .int u4),(oi 4 1,.arr 3 .int u5)]) ?_ ?_)))
 ·intro _ h;refine Ae<|Ad<|lpF h (fun (u6,u2,u3)=>sT [(2,.box (oi 0 1) 0),(3,ai y12.1),(4,ai y12.2),(5,.box (oi 1 1) 0),(6,.box (oi 2 1) 0),(7,an u6)] [(oi 0 1,.cells 131 [ai 0,.nils,.nils,.nils]),(oi 1 1,.cells 131 [ai<|wI<|y12.1+y12.2,.nils,oI 3 1 u2.length,oI 4 1 u3.length]),(oi 2 1,.cells 171 [ai bA,ai bB,oI 5 1 u2.length,oI 6 1 u3.length]),(oi 3 1,.arr 3 .int u2),(oi 4 1,.arr 3 .int u3),(oi 5 1,.arr 3 .int u2),(oi 6 1,.arr 3 .int u3)]) ((Dq 9000 (oi 5 21) 2 131 [ai<|wI<|y12.1+y12.2,.nils,.nils,.nils] [ai<|wI<|y12.1+y12.2,.nils,oI 9000 31 0,.nils] 3 .int rfl kr kr kr).trans<|(Dq 9001 (oi 5 21) 3 131 [ai<|wI<|y12.1+y12.2,.nils,oI 9000 31 0,.nils] [ai<|wI<|y12.1+y12.2,.nils,oI 9000 31 0,oI 9001 32 0] 3 .int rfl kr kr kr).trans<|(Dq 9002 (oi 6 28) 2 171 [ai bA,ai bB,.nils,.nils] [ai bA,ai bB,oI 9002 33 0,.nils] 3 .int rfl kr kr kr).trans<|(Dq 9003 (oi 6 28) 3 171 [ai bA,ai bB,oI 9002 33 0,.nils] [ai bA,ai bB,oI 9002 33 0,oI 9003 34 0] 3 .int rfl kr kr kr).trans<|Ag [(oi 0 1,oi 2 2),(oi 1 1,oi 5 21),(oi 3 1,oi 9000 31),(oi 4 1,oi 9001 32),(oi 2 1,oi 6 28),(oi 5 1,oi 9002 33),(oi 6 1,oi 9003 34)]) ?_;rintro n_ ⟨u6,u2,u3⟩ c_ h hn17;refine Ab<|Ae (kQ h (fun _ h=>skW<|sqF h (fun (u7,u8)=>sT [(2,.box (oi 0 1) 0),(3,ai y12.1),(4,ai y12.2),(5,.box (oi 1 1) 0),(6,.box (oi 2 1) 0),(7,an u6)] [(oi 0 1,.cells 131 [ai 0,.nils,.nils,.nils]),(oi 1 1,.cells 131 [ai<|wI<|y12.1+y12.2,.nils,oI 3 1 u7.length,oI 4 1 u8.length]),(oi 2 1,.cells 171 [ai bA,ai bB,oI 5 1 u7.length,oI 6 1 u8.length]),(oi 3 1,.arr 3 .int u7),(oi 4 1,.arr 3 .int u8),(oi 5 1,.arr 3 .int u7),(oi 6 1,.arr 3 .int u8)]) ?_ ?_) fun _ h=>lxT (have h:=jO h hn17;(by obtain rfl:=osj h;exact ((Afe hz_ (ty:=171) (cs:=[ai bA,ai bB,oI 5 1 u2.length,oI 6 1 u3.length]) (t':=.int) (len:=u2.length) (e:=3) (t:=.int) (xs:=u2) (oi 2 1) (oi 5 1) 2 kr rfl kr rfl rfl).trans<|Afe hz_ (ty:=171) (cs:=[ai bA,ai bB,.ftr nz_ .int u2,oI 6 1 u3.length]) (t':=.int) (len:=u3.length) (e:=3) (t:=.int) (xs:=u3) (oi 2 1) (oi 6 1) 3 kr rfl kr rfl rfl).trans<|Ag [])))
  ·intro _ h;refine Ad<|Ae (kQ h (fun _ h=>?_) fun _ h=>?_)
   ·refine Ab<|Aa 17<|rsB 4 ?_;have ⟨g25,h⟩:=Aj h;refine zB (oi 3 1) (oi 48 13) u2 ((u6:Int)) g25<|rsB 2<|rnW<|Aa 24<|rsB 4 ?_;have ⟨g26,h⟩:=Aj h;exact zB (oi 5 1) (oi 54 20) u2 ((u6:Int)) g26<|rsB 2<|Ao<|bn_<|tn_<|jE [(oi 3 1,oi 3 14),(oi 5 1,oi 5 21)]
   refine Ab<|Aa 17<|rsB 4 ?_;have ⟨g28,h⟩:=Aj h;refine zB (oi 4 1) (oi 60 13) u3 ((u6:Int)) g28<|rsB 2<|rnW<|Aa 24<|rsB 4 ?_;have ⟨g29,h⟩:=Aj h;exact zB (oi 6 1) (oi 66 20) u3 ((u6:Int)) g29<|rsB 2<|Ao<|bn_<|tn_<|jE [(oi 4 1,oi 4 14),(oi 6 1,oi 6 21)]
  rintro ⟨u7,u8⟩ h;exact Aa 5<|rsT 1 (raH h fun h=>rsT 1<|Ao<|tn_<|jL [])
 rintro ⟨u4,u5⟩ h;exact Ab<|Aa 6<|rsT 1<|Hd (.own (oi 70 3) Yb 0 1) (oi 70 3) (.vec 171 4 1<|tvC (some nz_) Yb<|[(bA,bB,u4,u5)]) trivial (Co kr)<|rsB 2<|Ao<|tn_ ⟨_,Bv (N:=1) (oi 70 3) 171 (some nz_) Yb ([(bA,bB,u4,u5)]) kr rfl,Ae<|Ac<|jZ h [(true,[ai<|wI<|y12.1+y12.2,.own (oi 70 3) Yb 0 1,oI 3 1 u4.length,oI 4 1 u5.length])]<|Ek (Aw Cd<|Aw (B0<|.tv (e:=171) kr rfl)<|Aw (B0<|.arr (e:=3) kr rfl)<|Aw (B0<|.arr (e:=3) kr rfl) Ei) Cs⟩
end
section
set_option maxRecDepth 4000
set_option maxHeartbeats 4800000
variable{bA bB bC:Int}{rA:List (Int×Int×(List Int)×List Int)}{aA aB:List Int}{uA:Int×Int×LL×Bool}{gA:ByteArray}{qA:Int×Int×LL}{hA:List ZB}{dA dB:LL}{pA:List (ByteArray×(List ZB)×Int×Int×LL)}{cA:Bool}{vA:Bool×Int×Int×LL}
def Dx(y13:LL)(y8 u2:List Int)(u0:Nat)(u1:LL):Option (Ctl (Nat×LL) (LL)):=
 cond (decide ((u0:Int)<(y13.length:Int)))
 ((y13[u0]?).bind fun x20=>
 (Ks (y8++u2) x20).bind fun y21=>
 og (u1.length+1<=1073741824/\(u1.length+1)*24<=140737488355328)<|
 og (u0+1<4611686018427387904)<|
 some (.next (u0+1,u1++[y21])))
 (some (.out u1))
def Ft(a0 u2:Int)(u3:List (Int×Int×(List Int)×List Int))(u1 u0:List Int):Option (Int×Int×LL×Bool):=
 (G7 a0 u2 u3 u1 u0).bind fun y4=>
cond (!y4)
 (some (0,0,[],false))
 ((Hk u1).bind fun y8=>
 og (y8.length+u0.length<=1073741824/\(y8.length+u0.length)*8<=140737488355328)<|
 ((F5 a0 u2 u3 u1 u0).bind fun y13=>
  Aq (fun s_:Nat×LL=>Dx y13 y8 u0 s_.1 s_.2) 4611686018427387904 (0,([]:LL))).bind fun u4=>
 (Lz a0 (u1.length:Int) (u0.length:Int) u4).bind fun y25=>
 some (y25.1,y25.2.1,y25.2.2,true))
def Tt(r:Int×Int×LL×Bool):RV:=⟨true,[(true,[.sc (.int .i64 r.1),.sc (.int .i64 r.2.1),.frz (tS r.2.2.1)]),(false,[.sc (.bool r.2.2.2)])]⟩
theorem Ab5(h:Ft bA bB rA aA aB=some uA):cK 104 [ai bA,.agg [ai bB,.tree Yb rA,tI aA,tI aB]] (Tt uA):=by
 refine cZ Tryz.func104 fun zn_ nz_ hz_=>Ae<|Ab<|Ab<|Aa 8<|rsT 2 (rcH h (fun h=>Hi<|Ab3 h) fun y4 h=>rsT 1<|rnW (kQ h (fun _ h=>Ae<|Ac<|tr_<|jZ h [(true,[ai 0,ai 0,.nils]),(false,[.bool false])]<|Ek (Aw Cd<|Aw Cd<|Aw (B0 (t:=sI) (xs:=[]) .nil) Ei)<|Lu Cd Cs) fun _ h=>skW<|Ab<|Al 15<|dz0 (.box (oi 3 1) 2)<|dzl (tI aA) (dcH h (fun h=>Hi<|N9 h) fun y8 h=>dz0 (.box (oi 3 1) 3)<|dzl (tI aB) ?_)))
 have ⟨g9,h⟩:=Aj h;refine ds2 (oI 272 13<|(y8++aB).length) (oi 272 10) (oi 272 13) (.arr 3 .int<|y8++aB) (Qe (t:=.int) (t':=.int) (xs:=y8) (ys:=aB) (zs:=y8++aB) (j:=oi 272 10) (len:=y8.length) (c:=tI aB) kr kr rfl kr K3 rfl g9)<|dz0 (oI 272 13<|(y8++aB).length)<|Cb (As kr)<|tn_<|wr_<|Ae (sqF h (fun u3=>sT [(0,ai bA),(3,.box (oi 0 1) 0),(4,.box (oi 1 1) 0),(7,oS 2 1 u3.length)] [(oi 0 1,.cells 131 [ai bB,.tree Yb rA,tI aA,tI aB]),(oi 1 1,.cells 30 [ai 0,ai 0,.nils]),(oi 2 1,.mat 81 (oi 3 1) .int u3),(oi 3 1,.pool 3 .int u3)]) ?_ fun u3 h=>Ab<|Aa 13<|rsT 8 (rcG h [ai bA,an aA.length,an aB.length,oS 2 1 u3.length] (fun h=>F1 hz_<|S7 h) (Au kr<|Au kr<|Au kr<|Au (Tl (p:=oi 3 1) (e1:=81) (e:=3) (u:=.int) (xss:=u3) kr (Ey kr) rfl) Dm) fun y25 h=>rsB 2<|rnW<|Ac<|jZ h [(true,[ai y25.1,ai y25.2.1,.ftr nz_ sI y25.2.2]),(false,[.bool true])]<|Ek (Aw Cd<|Aw Cd<|Aw (B0 .ftr) Ei)<|Lu Cd Cs));intro _ h;refine Ab<|Aa 21<|rsT 2 (rcM h [] [ai bA,.agg [ai bB,.tree Yb rA,tI aA,tI aB]] (fun h=>U6<|Aan h) trivial (aR kr) (Bb kr kr trivial) fun y13 h=>rsT 2<|rnW<|Ad<|lpF h (fun (u6,u1)=>sT [(0,ai bA),(3,.box (oi 0 1) 0),(4,.box (oi 1 1) 0),(6,oI 2 1<|(y8++aB).length),(7,oS 3 1 u1.length),(23,oS 5 1 y13.length),(24,an y13.length),(25,an u6)] [(oi 0 1,.cells 131 [ai bB,.tree Yb rA,tI aA,tI aB]),(oi 1 1,.cells 30 [ai 0,ai 0,.nils]),(oi 2 1,.arr 3 .int<|y8++aB),(oi 3 1,.mat 81 (oi 4 1) .int u1),(oi 4 1,.pool 3 .int u1),(oi 5 1,.mat 81 (oi 6 1) .int y13),(oi 6 1,.pool 3 .int y13)]) ((Nh 7 81 sI kr).trans<|(Dv (e1:=81) (n:=0) 9000 (oi 7 21) 3 .int kr kr rfl kr kr).trans<|Ag [(oi 0 1,oi 3 1),(oi 1 1,oi 4 2),(oi 2 1,oi 272 13),(oi 3 1,oi 7 21),(oi 4 1,oi 9000 22),(oi 5 1,oi 368 18),(oi 6 1,oi 369 18)]) ?_);rintro n_ ⟨u6,u1⟩ c_ h hn14;refine Ae<|Ab (kQ h (fun _ h=>skW<|Ab<|Ad<|Ab<|Aa 6 ?_) fun _ h=>lxT (have h:=jO h hn14;jE [(oi 2 1,oi 3 1),(oi 3 1,oi 4 1)]));have ⟨x20,e20,h⟩:=Ah h;refine zO (oi 5 1) sI y13.length (Ai e20)<|rsl (.own (kid (oi 6 1) u6) .int 0 x20.length) (Ff (o:=oi 5 1) (p:=oi 6 1) (e1:=81) (u:=.int) (xss:=y13) (row:=x20) (j:=u6) kr kr e20)<|rsT 1<|rnW<|Aa 13<|rsT 3 (rcG h [oI 2 1<|(y8++aB).length,.own (kid (oi 6 1) u6) .int 0 x20.length] (fun h=>Hi<|Afv h) (Au (G9 (e:=3) kr rfl)<|Au (G9 (e:=3) (u:=.int) (xs:=x20) (Bp kr e20) rfl) Dm) fun y21 h=>Hd (oS 33 10 1) (oi 33 10) (.vec 81 1 1<|[oI 512 9 y21.length]) trivial (Co kr) ?_);have ⟨g22,h⟩:=Aj h;refine rs2 (oS 3 11<|u1.length+1) (oi 3 1) (oi 3 11) (.vec 81 1 (u1.length+1)<|hdL (oi 4 1) .int u1++[oI 512 9 y21.length]) (Iz (u:=.int) (t':=sI) (t2:=sI) (o:=oi 3 1) (q:=oi 33 10) (e2:=81) (p:=oi 4 1) (xss:=u1) (cs:=[oI 512 9 y21.length]) (len:=u1.length) kr kr rfl kr kr rfl g22)<|rsT 1<|Ao<|bn_<|tn_ ⟨_,Ew (e1:=81) (e:=3) (u:=.int) (n:=u1.length+1) (len:=y21.length) (row:=y21) (ys:=y21) (xss:=u1) 9000 (oi 3 11) (oi 4 1) (oi 512 9) kr kr rfl kr kr (Oh rfl) (Ow rfl) kr kr kr,Aa 16 (raH h fun h=>rsT 1<|Ao<|tn_ ?_)⟩;cases h;exact jLw hn14<|(wL 7 (fS:u1.length+1=(u1++[y21]).length)).trans<|Ag [(oi 3 1,oi 3 11),(oi 4 1,oi 9000 13)]
def Bt(a0 u0 u1:Int)(u2:ByteArray):Option (Int×Int×LL):=
 (N5 u0 u1 u2).bind fun y3=>
(Ft a0 y3.1 y3.2.1 y3.2.2.1 y3.2.2.2).bind fun y4=>
some (y4.1,y4.2.1,y4.2.2.1)
theorem Va(h:Bt bA bB bC gA=some qA):cK 59 [ai bA,.agg [ai bB,ai bC,.str gA]] (C0 qA):=by
 exact cZ Tryz.func59 fun zn_ nz_ hz_=>Ae<|Ab<|Aa 13<|rsT 2 (rcH h (fun h=>F1 hz_<|Adc h) fun y3 h=>rcH h (fun h=>F1 hz_<|Ab5 h) fun y4 h=>rsB 6<|rnW<|Ae<|Ac<|jZ h [(true,[ai y4.1,ai y4.2.1,.ftr nz_ sI y4.2.2.1])]<|Ek (Aw Cd<|Aw Cd<|Aw (B0 .ftr) Ei) Cs)
def G5(u2:List ZB)(a0:Int)(u1:Nat)(u0:List (Int×Int×LL)):Option (Ctl (Nat×(List (Int×Int×LL))) (Ctl (List (Int×Int×LL)) (Int×Int×LL×Bool))):=
 cond (decide ((u1:Int)<(u2.length:Int)))
 (Dg ((u2[u1]?).bind fun x16=>
  (C5 x16.1).bind fun y19=>
  cond (!y19)
   (some (.out (.out (.out (0,0,[],false)))))
   ((cond (x16.1 !=15)
     (some (x16.1 !=16))
     (some false)).bind fun u3=>
   cond u3
    ((Bt a0 x16.1 x16.2.1 x16.2.2).bind fun y27=>
    og (u0.length+1<=1073741824/\(u0.length+1)*40<=140737488355328)<|
    some (.next (u0++[y27])))
    ((Bz u0 (wI ((u0.length:Int) - 2))).bind fun x30=>
    (Bz u0 (wI ((u0.length:Int) - 2))).bind fun x31=>
    (Bz u0 (wI ((u0.length:Int) - 1))).bind fun x32=>
    (Bz u0 (wI ((u0.length:Int) - 1))).bind fun x33=>
    og ((0:Int)<=0/\0<=wI ((u0.length:Int) - 2)/\wI ((u0.length:Int) - 2)<=(u0.length:Int))<|
    cond (x16.1==15)
     ((Fi a0 x31.1 x31.2.1 x31.2.2 x33.1 x33.2.1 x33.2.2).bind fun y38=>
     og ((wI ((u0.length:Int) - 2)).toNat<=u0.length/\(wI ((u0.length:Int) - 2)).toNat+1<=1073741824/\((wI ((u0.length:Int) - 2)).toNat+1)*40<=140737488355328)<|
     some (.next (u0.take ((wI ((u0.length:Int) - 2)).toNat)++[y38])))
     ((F6 a0 x31.1 x31.2.1 x31.2.2 x33.1 x33.2.1 x33.2.2).bind fun y40=>
     og ((wI ((u0.length:Int) - 2)).toNat<=u0.length/\(wI ((u0.length:Int) - 2)).toNat+1<=1073741824/\((wI ((u0.length:Int) - 2)).toNat+1)*40<=140737488355328)<|
     some (.next (u0.take ((wI ((u0.length:Int) - 2)).toNat)++[y40])))))) fun u4=>
 og (u1+1<4611686018427387904)<|
 some (.next (u1+1,u4)))
 (some (.out (.next u0)))
def Rq(a0:Int)(u0:List ZB):Option (Int×Int×LL×Bool):=
 (Kr a0 u0).bind fun y4=>
cond (!y4)
 (some (0,0,[],false))
 (Dg (Aq (fun s_:Nat×(List (Int×Int×LL))=>G5 u0 a0 s_.1 s_.2) 4611686018427387904 (0,[])) fun u1=>
 (u1[0]?).bind fun x44=>
 some (x44.1,x44.2.1,x44.2.2,true))
theorem Af1(h:Rq bA hA=some uA):cK 83 [ai bA,.agg [.tree Y8 hA]] (Tt uA):=by
 refine cZ Tryz.func83 fun zn_ nz_ hz_=>Ae<|Ab<|Ab<|Aa 8<|rsT 2 (rcH h (fun h=>Hi<|Un h) fun y4 h=>rsT 1<|rnW (kQ h (fun _ h=>Ae<|Ac<|tr_<|jZ h [(true,[ai 0,ai 0,.nils]),(false,[.bool false])]<|Ek (Aw Cd<|Aw Cd<|Aw (B0 (t:=sI) (xs:=[]) .nil) Ei)<|Lu Cd Cs) fun _ h=>skW<|Ae<|sqC h (fun u2=>sT [(4,.box (oi 0 1) 0),(6,.own (oi 1 1) Y9 0 u2.length)] [(oi 0 1,.cells 30 [ai 0,ai 0,.nils]),(oi 1 1,.tv 30 (some nz_) Y9 u2)]) ?_ ?_))
 ·intro _ h hk8;refine Ae<|Ad<|lpF h (fun (u3,u0)=>sT [(0,ai bA),(4,.box (oi 0 1) 0),(6,.own (oi 1 1) Y9 0 u0.length),(17,.tree Y8 hA),(18,an hA.length),(19,an u3)] [(oi 0 1,.cells 30 [ai 0,ai 0,.nils]),(oi 1 1,.tv 30 (some nz_) Y9 u0)]) ((Q2 6 30 (some nz_) Y9 kr).trans<|Ag [(oi 0 1,oi 4 2),(oi 1 1,oi 6 13)]) ?_;rintro n_ ⟨u3,u0⟩ c_ h hn10
  (try dsimp only at h);refine Ae<|Ab (kQ h (fun q13 h=>?_) fun q13 h=>?_)
  ·have q13_:=of_decide_eq_true q13;refine skW<|sqC h (fun u4=>sT [(0,ai bA),(4,.box (oi 0 1) 0),(6,.own (oi 1 1) Y9 0 u4.length),(17,.tree Y8 hA),(18,an hA.length),(19,an u3)] [(oi 0 1,.cells 30 [ai 0,ai 0,.nils]),(oi 1 1,.tv 30 (some nz_) Y9 u4)]) ?_ ?_
   ·intro _ h hk14;refine Ad<|Ab<|Aa 7 (riH Y8 h fun x16 _ h=>rsB 3<|rnW<|Ab<|Ab<|Aa 11<|rsT 2 (rcH h (fun h=>Hi<|Lk h) fun y19 h=>rsT 1<|rnW (kQ h (fun _ h=>?_) fun _ h=>?_)))
    ·refine Ae<|Ac<|tr_<|br_<|tr_<|tr_<|br_<|tr_ ?_;have h:=jO h hk14
     (try dsimp only at h);have h:=jO h hn10
     (try dsimp only at h);have h:=jO h hk8
     (try dsimp only at h);exact jZ h [(true,[ai 0,ai 0,.nils]),(false,[.bool false])]<|Ek (Aw Cd<|Aw Cd<|Aw (B0 (t:=sI) (xs:=[]) .nil) Ei)<|Lu Cd Cs
    refine skW<|Ab<|sqF h (fun u5=>sT [(0,ai bA),(4,.box (oi 0 1) 0),(6,.own (oi 1 1) Y9 0 u0.length),(8,.box (oi 2 1) 0),(17,.tree Y8 hA),(18,an hA.length),(19,an u3),(35,.bool u5)] [(oi 0 1,.cells 30 [ai 0,ai 0,.nils]),(oi 1 1,.tv 30 (some nz_) Y9 u0),(oi 2 1,.cells 88 [ai x16.1,ai x16.2.1,.str x16.2.2])]) (fun _ h=>Aa 19<|rsT 4 (kR h 31 (fun _ h=>rsT 4<|Ao<|tn_<|jE [(oi 2 1,oi 8 5)]) fun _ h=>rsT 4<|Ao<|tn_<|jE [(oi 2 1,oi 8 5)])) ?_;intro u5 h
    (try dsimp only at h);refine kQ h (fun _ h=>?_) fun _ h=>?_
    ·refine Ab<|Aa 9<|rsT 3 (rcH h (fun h=>F1 hz_<|Va h) fun y27 h=>Hd (.own (oi 40 6) Y9 0 1) (oi 40 6) (.vec 30 3 1<|tvC (some nz_) Y9<|[y27]) trivial (Co kr) ?_);have ⟨g28,h⟩:=Aj h;refine rs2 (.own (oi 1 7) Y9 0<|u0.length+1) (oi 1 1) (oi 1 7) (.vec 30 3 (u0.length+1)<|tvC (some nz_) Y9<|u0++[y27]) (Mw (t':=Y9) (t:=Y9) (t2:=Y9) (e2:=30) (q:=oi 40 6) (m:=some nz_) (z:=y27) (o:=oi 1 1) (xs:=u0) (len:=u0.length) kr kr rfl kr kr g28) (rsT 1<|Ao<|tn_ ⟨_,Bv (N:=u0.length+1) (oi 1 7) 30 (some nz_) Y9 (u0++[y27]) kr fS,D9<|te_<|be_<|tn_ ?_⟩);cases h;exact ⟨_,rfl,(wL 6 (fS:u0.length+1=(u0++[y27]).length)).trans<|Ag [(oi 1 1,oi 1 7)]⟩
    refine skW<|Ab<|Al 18<|dsT 4 ?_;have ⟨x30,f30,h⟩:=Ah h;have ⟨p30,b30,e30⟩:=Ar f30;refine ds0 (.elt (oi 1 1) ((wI<|(u0.length:Int) - 2).toNat) 0) (zo (t:=Y9) (o:=oi 1 1) (len:=u0.length) (k:=.i64) (m:=wI<|(u0.length:Int) - 2) p30<|Ai e30) ?_;have ⟨x31,f31,h⟩:=Ah h;have ⟨p31,b31,e31⟩:=Ar f31;refine dsl (.agg [ai x31.1,ai x31.2.1,.ftr nz_ sI x31.2.2]) (Om (o:=oi 1 1) (k:=0) (e1:=30) (N:=List.length u0) (t:=Y9) (m:=some nz_) (xs:=u0) (z:=x31) kr kr e31 kr<|Nat.le_of_ble_eq_true kr)<|dz0 (.own (oi 1 1) Y9 0 u0.length)<|dz0 (.own (oi 1 1) Y9 0 u0.length)<|dz0 (an u0.length)<|dz0 (ai<|wI<|(u0.length:Int) - 1) ?_;have ⟨x32,f32,h⟩:=Ah h;have ⟨p32,b32,e32⟩:=Ar f32;refine ds0 (.elt (oi 1 1) ((wI<|(u0.length:Int) - 1).toNat) 0) (zo (t:=Y9) (o:=oi 1 1) (len:=u0.length) (k:=.i64) (m:=wI<|(u0.length:Int) - 1) p32<|Ai e32) ?_;have ⟨x33,f33,h⟩:=Ah h;have ⟨p33,b33,e33⟩:=Ar f33;refine dsl (.agg [ai x33.1,ai x33.2.1,.ftr nz_ sI x33.2.2]) (Om (o:=oi 1 1) (k:=0) (e1:=30) (N:=List.length u0) (t:=Y9) (m:=some nz_) (xs:=u0) (z:=x33) kr kr e33 kr<|Nat.le_of_ble_eq_true kr)<|ds1 (.box (oi 9 14) 0) (oi 9 14) (.cells 30 [ai 0,ai 0,.nils]) kr<|ds1 (.box (oi 10 15) 0) (oi 10 15) (.cells 30 [ai 0,ai 0,.nils]) kr<|J4 (oi 9 14) (oi 9 14) (.cells 30 [ai x31.1,ai x31.2.1,.ftr nz_ sI x31.2.2]) kr<|J4 (oi 10 15) (oi 10 15) (.cells 30 [ai x33.1,ai x33.2.1,.ftr nz_ sI x33.2.2]) kr<|Cb (As kr)<|tn_<|wr_<|Ab<|Aa 24<|rsT 4 ?_;have ⟨g35,h⟩:=Aj h;refine rs0 (.own (oi 1 1) Y9 0<|(wI<|(u0.length:Int) - 2).toNat) (E2 (t:=Y9) (i:=oi 1 1) (off:=0) (len:=u0.length) (l:=0) (h:=wI<|(u0.length:Int) - 2) kr kr kr rfl g35 rfl oM)<|rsT 1<|rnW<|Ae (kQ h (fun _ h=>?_) fun _ h=>?_)
    ·refine Aa 35<|rsT 4 (rcH h (fun h=>F1 hz_<|Qy h) fun y38 h=>Hd (.own (oi 67 32) Y9 0 1) (oi 67 32) (.vec 30 3 1<|tvC (some nz_) Y9<|[y38]) trivial (Co kr) ?_);have ⟨g39,h⟩:=Aj h;refine rs2 (.own (oi 1 33) Y9 0<|(wI<|(u0.length:Int) - 2).toNat+1) (oi 1 1) (oi 1 33) (.vec 30 3 ((wI<|(u0.length:Int) - 2).toNat+1)<|tvC (some nz_) Y9<|u0.take ((wI<|(u0.length:Int) - 2).toNat)++[y38]) (Q3 (o:=oi 1 1) (q:=oi 67 32) (e2:=30) (t:=Y9) (t':=Y9) (t2:=Y9) (len:=(wI<|(u0.length:Int) - 2).toNat) (N:=u0.length) (m:=some nz_) (xs:=u0) (z:=y38) kr kr rfl kr kr g39)<|rsT 1<|Ao<|bn_<|tn_ ?_;cases h;exact ⟨_,rfl,(Bv (N:=(wI<|(u0.length:Int) - 2).toNat+1) (oi 1 33) 30 (some nz_) Y9 (u0.take ((wI<|(u0.length:Int) - 2).toNat)++[y38]) kr<|Kk rfl g39).trans<|(wL 6 ((Kk rfl g39):(wI<|(u0.length:Int) - 2).toNat+1=(u0.take ((wI<|(u0.length:Int) - 2).toNat)++[y38]).length)).trans<|Ag [(oi 1 1,oi 1 33)]⟩
    refine Aa 35<|rsT 4 (rcH h (fun h=>F1 hz_<|Si h) fun y40 h=>Hd (.own (oi 74 32) Y9 0 1) (oi 74 32) (.vec 30 3 1<|tvC (some nz_) Y9<|[y40]) trivial (Co kr) ?_);have ⟨g41,h⟩:=Aj h;refine rs2 (.own (oi 1 33) Y9 0<|(wI<|(u0.length:Int) - 2).toNat+1) (oi 1 1) (oi 1 33) (.vec 30 3 ((wI<|(u0.length:Int) - 2).toNat+1)<|tvC (some nz_) Y9<|u0.take ((wI<|(u0.length:Int) - 2).toNat)++[y40]) (Q3 (o:=oi 1 1) (q:=oi 74 32) (e2:=30) (t:=Y9) (t':=Y9) (t2:=Y9) (len:=(wI<|(u0.length:Int) - 2).toNat) (N:=u0.length) (m:=some nz_) (xs:=u0) (z:=y40) kr kr rfl kr kr g41)<|rsT 1<|Ao<|bn_<|tn_ ?_;cases h;exact ⟨_,rfl,(Bv (N:=(wI<|(u0.length:Int) - 2).toNat+1) (oi 1 33) 30 (some nz_) Y9 (u0.take ((wI<|(u0.length:Int) - 2).toNat)++[y40]) kr<|Kk rfl g41).trans<|(wL 6 ((Kk rfl g41):(wI<|(u0.length:Int) - 2).toNat+1=(u0.take ((wI<|(u0.length:Int) - 2).toNat)++[y40]).length)).trans<|Ag [(oi 1 1,oi 1 33)]⟩
   intro u4 h
   (try dsimp only at h);refine Aa 4 ?_;have ⟨g42,h⟩:=Aj h;exact zA g42<|rsT 1<|Ao<|tn_<|jL []
  have q13_:=of_decide_eq_false q13;refine lxT ?_;have h:=jO h hn10
  (try dsimp only at h);exact jC []
 intro u2 h
 (try dsimp only at h);refine Ab<|Aa 7<|rsT 1 ?_;have ⟨x44,e44,h⟩:=Ah h;exact rs0 (.elt (oi 1 1) 0 0) (Te (t:=Y9) (o:=oi 1 1) (len:=u2.length) (k:=.i64) (m:=0) kr kr rfl (by decide) rfl<|Ai e44)<|rsl (.agg [ai x44.1,ai x44.2.1,.ftr nz_ sI x44.2.2]) (Om (o:=oi 1 1) (k:=0) (e1:=30) (N:=List.length u2) (t:=Y9) (m:=some nz_) (xs:=u2) (z:=x44) kr kr e44 kr<|Nat.le_of_ble_eq_true kr)<|rsB 2<|rnW<|Ac<|jZ h [(true,[ai x44.1,ai x44.2.1,.ftr nz_ sI x44.2.2]),(false,[.bool true])]<|Ek (Aw Cd<|Aw Cd<|Aw (B0 .ftr) Ei)<|Lu Cd Cs
def Gi(a0:Int)(u1:ByteArray)(u0:List ZB)(u2 u3:Int)(u4:LL):Option (Int×Int×LL):=
 (Rq a0 u0).bind fun y3=>
some (y3.1,y3.2.1,y3.2.2.1)
theorem Ad5(h:Gi bA gA hA bB bC dA=some qA):cK 45 [ai bA,.agg [.str gA,.tree Y8 hA,ai bB,ai bC,tS dA]] (C0 qA):=by
 exact cZ Tryz.func45 fun zn_ nz_ hz_=>Ae<|Ab<|Aa 13<|rsT 3 (rcH h (fun h=>F1 hz_<|Af1 h) fun y3 h=>rsB 6<|rnW<|Ae<|Ac<|jZ h [(true,[ai y3.1,ai y3.2.1,.ftr nz_ sI y3.2.2.1])]<|Ek (Aw Cd<|Aw Cd<|Aw (B0 .ftr) Ei) Cs)
def J8(a0:LL)(u0:Nat)(u1:LL):Option (Ctl (Nat×LL) (LL)):=
 cond (decide ((u0:Int)<(a0.length:Int)))
 ((a0[u0]?).bind fun x12=>
 (Hk x12).bind fun y13=>
 og (u1.length+1<=1073741824/\(u1.length+1)*24<=140737488355328)<|
 og (u0+1<4611686018427387904)<|
 some (.next (u0+1,u1++[y13])))
 (some (.out u1))
def Nu(a0:LL):Option LL:=
 (Aq (fun s_:Nat×LL=>J8 a0 s_.1 s_.2) 4611686018427387904 (0,([]:LL))).bind fun u0=>
some u0
theorem Ac1(h:Nu dA=some dB):Ed Tryz.prog Tab 82 [tS dA] [] (oS 0 1 dB.length) [(oi 0 1,.mat 81 (oi 1 1) .int dB),(oi 1 1,.pool 3 .int dB)]:=by
 refine B8 kr Tryz.func82 (Ck kr) (n:=19) kr fS rfl kr trivial ⟨⟨3,.tail _<|.head _⟩,⟨trivial,trivial⟩⟩ (Ae<|Ae (sqF h (fun u1=>sT [(3,oS 0 1 u1.length)] [(oi 0 1,.mat 81 (oi 1 1) .int u1),(oi 1 1,.pool 3 .int u1)]) ?_ fun u1 h=>Ae<|Ac (by obtain rfl:=osj h;exact E4 [oS 0 1 u1.length]<|Ag (tl:=[(2,oS 0 1 u1.length)]) (g:=2) [])));intro _ h;refine Ae<|Ad<|lpF h (fun (u2,u0)=>sT [(3,oS 0 1 u0.length),(6,tS dA),(7,an dA.length),(8,an u2)] [(oi 0 1,.mat 81 (oi 1 1) .int u0),(oi 1 1,.pool 3 .int u0)]) ((Nh 3 81 sI kr).trans<|(Dv (e1:=81) (n:=0) 9000 (oi 3 6) 3 .int kr kr rfl kr kr).trans<|Ag [(oi 0 1,oi 3 6),(oi 1 1,oi 9000 7)]) ?_;rintro n_ ⟨u2,u0⟩ c_ h hn6;refine Ae<|Ab (kQ h (fun _ h=>skW<|Ab<|Ad<|Ab<|Aa 6 (riH sI h fun x12 _ h=>rsT 2<|rnW<|Aa 12<|rsT 2 (rcH h N9 fun y13 h=>Hd (oS 15 9 1) (oi 15 9) (.vec 81 1 1<|[oI 224 8 y13.length]) trivial (Co kr) ?_))) fun _ h=>lxT (have h:=jO h hn6;jE []));have ⟨g14,h⟩:=Aj h;refine rs2 (oS 0 10<|u0.length+1) (oi 0 1) (oi 0 10) (.vec 81 1 (u0.length+1)<|hdL (oi 1 1) .int u0++[oI 224 8 y13.length]) (Iz (u:=.int) (t':=sI) (t2:=sI) (o:=oi 0 1) (q:=oi 15 9) (e2:=81) (p:=oi 1 1) (xss:=u0) (cs:=[oI 224 8 y13.length]) (len:=u0.length) kr kr rfl kr kr rfl g14)<|rsT 1<|Ao<|bn_<|tn_ ⟨_,Ew (e1:=81) (e:=3) (u:=.int) (n:=u0.length+1) (len:=y13.length) (row:=y13) (ys:=y13) (xss:=u0) 9000 (oi 0 10) (oi 1 1) (oi 224 8) kr kr rfl kr kr (Oh rfl) (Ow rfl) kr kr kr,Aa 15 (raH h fun h=>rsT 1<|Ao<|tn_ ?_)⟩;cases h;exact jLw hn6<|(wL 3 (fS:u0.length+1=(u0++[y13]).length)).trans<|Ag [(oi 0 1,oi 0 10),(oi 1 1,oi 9000 12)]
def Ph(u1 u2:Int)(u0:LL):Option LL:=
 (Nu u0).bind fun y4=>
some y4
theorem Agu (h:Ph bA bB dA=some dB):Ed Tryz.prog Tab 44 [.agg [ai bA,ai bB,tS dA]] [] (.agg [ai bA,ai bB,oS 1 1 dB.length]) [(oi 0 1,.cells 30 [ai bA,ai bB,oS 1 1 dB.length]),(oi 1 1,.mat 81 (oi 2 1) .int dB),(oi 2 1,.pool 3 .int dB)]:=by
 refine B8 kr Tryz.func44 (Ck kr) (n:=11) kr (by simp) rfl kr trivial ⟨trivial,⟨⟨3,.tail _ (.tail _ (.head _))⟩,⟨trivial,trivial⟩⟩⟩ (Ae (Ab (Al 12 (dsT 6 (dcM h [] [tS dA] Ac1 trivial (aR kr) (Bb kr kr trivial) (Ajg kr) fun y4 h=>dz0 (.agg [ai bA,ai bB,oS 144 9 y4.length]) (J4 (oi 2 2) (oi 2 2) (.cells 30 [ai bA,ai bB,oS 144 9 y4.length]) kr (Cb ⟨Zz kr,⟨Zz kr,trivial⟩⟩ (tn_ (wr_ (Ac ?_))))))))));obtain rfl:=zj h;exact E4 [.agg [ai bA,ai bB,oS 1 1 y4.length]] (Ag (tl:=[(2,.box (oi 0 1) 0)]) (g:=2) [(oi 0 1,oi 2 2),(oi 1 1,oi 144 9),(oi 2 1,oi 145 9)])
def Ej(u2:List ZB)(a0:Int)(a1:List (ByteArray×(List ZB)×Int×Int×LL))(a3:Bool)(u1:Nat)(u0:List (Int×Int×LL)):Option (Ctl (Nat×(List (Int×Int×LL))) (List (Int×Int×LL))):=
 cond (decide ((u1:Int)<(u2.length:Int)))
 (((u2[u1]?).bind fun x12=>
  (cond (x12.1==15)
    (some (x12.1==15))
    (some (x12.1==16))).bind fun u3=>
  cond u3
   ((Bz u0 (wI ((u0.length:Int) - 2))).bind fun x19=>
   (Bz u0 (wI ((u0.length:Int) - 2))).bind fun x20=>
   (Bz u0 (wI ((u0.length:Int) - 1))).bind fun x21=>
   (Bz u0 (wI ((u0.length:Int) - 1))).bind fun x22=>
   og ((0:Int)<=0/\0<=wI ((u0.length:Int) - 2)/\wI ((u0.length:Int) - 2)<=(u0.length:Int))<|
   cond (x12.1==15)
    ((Fi a0 x20.1 x20.2.1 x20.2.2 x22.1 x22.2.1 x22.2.2).bind fun y27=>
    og ((wI ((u0.length:Int) - 2)).toNat<=u0.length/\(wI ((u0.length:Int) - 2)).toNat+1<=1073741824/\((wI ((u0.length:Int) - 2)).toNat+1)*40<=140737488355328)<|
    some (u0.take ((wI ((u0.length:Int) - 2)).toNat)++[y27]))
    ((F6 a0 x20.1 x20.2.1 x20.2.2 x22.1 x22.2.1 x22.2.2).bind fun y29=>
    og ((wI ((u0.length:Int) - 2)).toNat<=u0.length/\(wI ((u0.length:Int) - 2)).toNat+1<=1073741824/\((wI ((u0.length:Int) - 2)).toNat+1)*40<=140737488355328)<|
    some (u0.take ((wI ((u0.length:Int) - 2)).toNat)++[y29])))
   (cond (x12.1==17)
    ((Dj a1).bind fun y34=>
    (C7 y34 x12.2.2).bind fun y35=>
    (Bz a1 y35).bind fun x36=>
    cond a3
     (og (u0.length+1<=1073741824/\(u0.length+1)*40<=140737488355328)<|
     some (u0++[x36.2.2]))
     ((Gi a0 x36.1 x36.2.1 x36.2.2.1 x36.2.2.2.1 x36.2.2.2.2).bind fun y40=>
     og (u0.length+1<=1073741824/\(u0.length+1)*40<=140737488355328)<|
     some (u0++[y40])))
    ((Bt a0 x12.1 x12.2.1 x12.2.2).bind fun y42=>
    og (u0.length+1<=1073741824/\(u0.length+1)*40<=140737488355328)<|
    some (u0++[y42])))).bind fun u4=>
 og (u1+1<4611686018427387904)<|
 some (.next (u1+1,u4)))
 (some (.out u0))
def Iq(a0:Int)(a1:List (ByteArray×(List ZB)×Int×Int×LL))(u0:List ZB)(a3:Bool):Option (Int×Int×LL):=
 (Aq (fun s_:Nat×(List (Int×Int×LL))=>Ej u0 a0 a1 a3 s_.1 s_.2) 4611686018427387904 (0,[])).bind fun u1=>
(u1[0]?).bind fun x46=>
(Ph x46.1 x46.2.1 x46.2.2).bind fun y47=>
some (x46.1,x46.2.1,y47)
theorem Wm(h:Iq bA pA hA cA=some qA):Ed Tryz.prog Tab 30 [ai bA,.tree Yg pA,.agg [.tree Y8 hA],.bool cA] [] (.agg [ai qA.1,ai qA.2.1,oS 1 1 qA.2.2.length]) [(oi 0 1,.cells 30 [ai qA.1,ai qA.2.1,oS 1 1 qA.2.2.length]),(oi 1 1,.mat 81 (oi 2 1) .int qA.2.2),(oi 2 1,.pool 3 .int qA.2.2)]:=by
 refine B8 kr Tryz.func30 (Ck kr) (n:=94) kr fS rfl kr trivial ⟨trivial,⟨⟨3,.tail _<|.tail _<|.head _⟩,⟨trivial,trivial⟩⟩⟩<|Ae<|Ae<|sqF h (fun u2=>sT [(8,.box (oi 0 1) 0),(9,.own (oi 1 1) Y9 0 u2.length)] [(oi 0 1,.cells 30 [ai 0,ai 0,.nils]),(oi 1 1,.tv 30 none Y9 u2)]) ?_ ?_
 ·intro _ h;refine Ae<|Ad<|lpF h (fun (u3,u0)=>sT [(0,ai bA),(1,.tree Yg pA),(3,.bool cA),(8,.box (oi 0 1) 0),(9,.own (oi 1 1) Y9 0 u0.length),(16,.tree Y8 hA),(17,an hA.length),(18,an u3)] [(oi 0 1,.cells 30 [ai 0,ai 0,.nils]),(oi 1 1,.tv 30 none Y9 u0)]) ((Q2 9 30 none Y9 kr).trans<|Ag [(oi 0 1,oi 8 2),(oi 1 1,oi 9 8)]) ?_;rintro n_ ⟨u3,u0⟩ c_ h hn6
  (try dsimp only at h);refine Ae<|Ab (kQ h (fun q9 h=>?_) fun q9 h=>?_)
  ·have q9_:=of_decide_eq_true q9;refine skW<|sqF h (fun u4=>sT [(0,ai bA),(1,.tree Yg pA),(3,.bool cA),(8,.box (oi 0 1) 0),(9,.own (oi 1 1) Y9 0 u4.length),(16,.tree Y8 hA),(17,an hA.length),(18,an u3)] [(oi 0 1,.cells 30 [ai 0,ai 0,.nils]),(oi 1 1,.tv 30 none Y9 u4)]) ?_ ?_
   ·intro _ h;refine Ad<|Ab<|Aa 7 (riH Y8 h fun x12 _ h=>rsB 3<|rnW<|Ae<|Ad<|sqF h (fun u5=>sT [(0,ai bA),(1,.tree Yg pA),(3,.bool cA),(8,.box (oi 0 1) 0),(9,.own (oi 1 1) Y9 0 u0.length),(11,.box (oi 2 1) 0),(16,.tree Y8 hA),(17,an hA.length),(18,an u3),(23,ai x12.1),(30,.bool u5)] [(oi 0 1,.cells 30 [ai 0,ai 0,.nils]),(oi 1 1,.tv 30 none Y9 u0),(oi 2 1,.cells 88 [ai x12.1,ai x12.2.1,.str x12.2.2])]) (fun _ h=>Ae (kQ h (fun _ h=>Ay<|tn_<|jE [(oi 2 1,oi 11 5)]) fun _ h=>Aa 13<|rsT 2<|Ao<|tn_<|jE [(oi 2 1,oi 11 5)])) ?_);intro u5 h
    (try dsimp only at h);refine kQ h (fun _ h=>?_) fun _ h=>?_
    ·refine Ab<|Al 18<|dsT 4 ?_;have ⟨x19,f19,h⟩:=Ah h;have ⟨p19,b19,e19⟩:=Ar f19;refine ds0 (.elt (oi 1 1) ((wI<|(u0.length:Int) - 2).toNat) 0) (zo (t:=Y9) (o:=oi 1 1) (len:=u0.length) (k:=.i64) (m:=wI<|(u0.length:Int) - 2) p19<|Ai e19) ?_;have ⟨x20,f20,h⟩:=Ah h;have ⟨p20,b20,e20⟩:=Ar f20;refine dsl (.agg [ai x20.1,ai x20.2.1,tS x20.2.2]) (Om (o:=oi 1 1) (k:=0) (e1:=30) (N:=List.length u0) (t:=Y9) (m:=none) (xs:=u0) (z:=x20) kr kr e20 kr<|Nat.le_of_ble_eq_true kr)<|dz0 (.own (oi 1 1) Y9 0 u0.length)<|dz0 (.own (oi 1 1) Y9 0 u0.length)<|dz0 (an u0.length)<|dz0 (ai<|wI<|(u0.length:Int) - 1) ?_;have ⟨x21,f21,h⟩:=Ah h;have ⟨p21,b21,e21⟩:=Ar f21;refine ds0 (.elt (oi 1 1) ((wI<|(u0.length:Int) - 1).toNat) 0) (zo (t:=Y9) (o:=oi 1 1) (len:=u0.length) (k:=.i64) (m:=wI<|(u0.length:Int) - 1) p21<|Ai e21) ?_;have ⟨x22,f22,h⟩:=Ah h;have ⟨p22,b22,e22⟩:=Ar f22;refine dsl (.agg [ai x22.1,ai x22.2.1,tS x22.2.2]) (Om (o:=oi 1 1) (k:=0) (e1:=30) (N:=List.length u0) (t:=Y9) (m:=none) (xs:=u0) (z:=x22) kr kr e22 kr<|Nat.le_of_ble_eq_true kr)<|ds1 (.box (oi 12 14) 0) (oi 12 14) (.cells 30 [ai 0,ai 0,.nils]) kr<|ds1 (.box (oi 13 15) 0) (oi 13 15) (.cells 30 [ai 0,ai 0,.nils]) kr<|J4 (oi 12 14) (oi 12 14) (.cells 30 [ai x20.1,ai x20.2.1,tS x20.2.2]) kr<|J4 (oi 13 15) (oi 13 15) (.cells 30 [ai x22.1,ai x22.2.1,tS x22.2.2]) kr<|Cb (As kr)<|tn_<|wr_<|Ab<|Aa 24<|rsT 4 ?_;have ⟨g24,h⟩:=Aj h;refine rs0 (.own (oi 1 1) Y9 0<|(wI<|(u0.length:Int) - 2).toNat) (E2 (t:=Y9) (i:=oi 1 1) (off:=0) (len:=u0.length) (l:=0) (h:=wI<|(u0.length:Int) - 2) kr kr kr rfl g24 rfl oM)<|rsT 1<|rnW<|Ae (kQ h (fun _ h=>?_) fun _ h=>?_)
     ·refine Aa 35<|rsT 4 (rcH h Qy fun y27 h=>Hd (.own (oi 58 32) Y9 0 1) (oi 58 32) (.vec 30 3 1<|tvC none Y9<|[y27]) trivial (Co kr) ?_);have ⟨g28,h⟩:=Aj h;refine rs2 (.own (oi 1 33) Y9 0<|(wI<|(u0.length:Int) - 2).toNat+1) (oi 1 1) (oi 1 33) (.vec 30 3 ((wI<|(u0.length:Int) - 2).toNat+1)<|tvC none Y9<|u0.take ((wI<|(u0.length:Int) - 2).toNat)++[y27]) (Q3 (o:=oi 1 1) (q:=oi 58 32) (e2:=30) (t:=Y9) (t':=Y9) (t2:=Y9) (len:=(wI<|(u0.length:Int) - 2).toNat) (N:=u0.length) (m:=none) (xs:=u0) (z:=y27) kr kr rfl kr kr g28)<|rsT 1<|Ao<|bn_<|bn_<|tn_ ?_;cases h;exact (Bv (N:=(wI<|(u0.length:Int) - 2).toNat+1) (oi 1 33) 30 none Y9 (u0.take ((wI<|(u0.length:Int) - 2).toNat)++[y27]) kr<|Kk rfl g28).trans<|(wL 9 ((Kk rfl g28):(wI<|(u0.length:Int) - 2).toNat+1=(u0.take ((wI<|(u0.length:Int) - 2).toNat)++[y27]).length)).trans<|Ag [(oi 1 1,oi 1 33)]
     refine Aa 35<|rsT 4 (rcH h Si fun y29 h=>Hd (.own (oi 65 32) Y9 0 1) (oi 65 32) (.vec 30 3 1<|tvC none Y9<|[y29]) trivial (Co kr) ?_);have ⟨g30,h⟩:=Aj h;refine rs2 (.own (oi 1 33) Y9 0<|(wI<|(u0.length:Int) - 2).toNat+1) (oi 1 1) (oi 1 33) (.vec 30 3 ((wI<|(u0.length:Int) - 2).toNat+1)<|tvC none Y9<|u0.take ((wI<|(u0.length:Int) - 2).toNat)++[y29]) (Q3 (o:=oi 1 1) (q:=oi 65 32) (e2:=30) (t:=Y9) (t':=Y9) (t2:=Y9) (len:=(wI<|(u0.length:Int) - 2).toNat) (N:=u0.length) (m:=none) (xs:=u0) (z:=y29) kr kr rfl kr kr g30)<|rsT 1<|Ao<|bn_<|bn_<|tn_ ?_;cases h;exact (Bv (N:=(wI<|(u0.length:Int) - 2).toNat+1) (oi 1 33) 30 none Y9 (u0.take ((wI<|(u0.length:Int) - 2).toNat)++[y29]) kr<|Kk rfl g30).trans<|(wL 9 ((Kk rfl g30):(wI<|(u0.length:Int) - 2).toNat+1=(u0.take ((wI<|(u0.length:Int) - 2).toNat)++[y29]).length)).trans<|Ag [(oi 1 1,oi 1 33)]
    refine Ae (kQ h (fun _ h=>?_) fun _ h=>?_)
    ·refine Ab<|Al 14<|dz0 (.tree Yg pA)<|dz0 (.tree Yg pA) ?_;have ⟨y34,h34,h⟩:=Ah h;refine Aga (.tree Ye y34) [] [.tree Yg pA] _ (caps:=[]) trivial (Mt h34) kr<|dz0 (.box (oi 2 1) 2)<|dzl (.str x12.2.2) (dcH h Pt fun y35 h=>?_);have ⟨x36,f36,h⟩:=Ah h;have ⟨p36,b36,e36⟩:=Ar f36;refine ds0 (.telt none Yg x36 0) (zi (t:=Yg) (xs:=pA) (k:=.i64) (m:=y35) p36 e36)<|dz0 (.agg [.str x36.1,.tree Y8 x36.2.1,ai x36.2.2.1,ai x36.2.2.2.1,tS x36.2.2.2.2])<|ds1 (.box (oi 14 12) 0) (oi 14 12) (.cells 51 [.str (⟨#[]⟩:ByteArray),.nils,ai 0,ai 0,.nils]) kr<|J4 (oi 14 12) (oi 14 12) (.cells 51 [.str x36.1,.tree Y8 x36.2.1,ai x36.2.2.1,ai x36.2.2.2.1,tS x36.2.2.2.2]) kr<|Cb (As kr)<|tn_<|wr_<|Ae (kQ h (fun _ h=>?_) fun _ h=>?_)
     ·refine Aa 21<|rsT 3<|Hd (.own (oi 81 18) Y9 0 1) (oi 81 18) (.vec 30 3 1<|tvC none Y9<|[x36.2.2]) trivial (Co kr) ?_;have ⟨g39,h⟩:=Aj h;refine rs2 (.own (oi 1 19) Y9 0<|u0.length+1) (oi 1 1) (oi 1 19) (.vec 30 3 (u0.length+1)<|tvC none Y9<|u0++[x36.2.2]) (Mw (t':=Y9) (t:=Y9) (t2:=Y9) (e2:=30) (q:=oi 81 18) (m:=none) (z:=x36.2.2) (o:=oi 1 1) (xs:=u0) (len:=u0.length) kr kr rfl kr kr g39)<|rsT 1<|Ao<|bn_<|bn_<|tn_ ?_;cases h;exact (Bv (N:=u0.length+1) (oi 1 19) 30 none Y9 (u0++[x36.2.2]) kr fS).trans<|(wL 9 (fS:u0.length+1=(u0++[x36.2.2]).length)).trans<|Ag [(oi 1 1,oi 1 19)]
     refine Aa 22<|rsT 3 (rcH h Ad5 fun y40 h=>Hd (.own (oi 87 19) Y9 0 1) (oi 87 19) (.vec 30 3 1<|tvC none Y9<|[y40]) trivial (Co kr) ?_);have ⟨g41,h⟩:=Aj h;refine rs2 (.own (oi 1 20) Y9 0<|u0.length+1) (oi 1 1) (oi 1 20) (.vec 30 3 (u0.length+1)<|tvC none Y9<|u0++[y40]) (Mw (t':=Y9) (t:=Y9) (t2:=Y9) (e2:=30) (q:=oi 87 19) (m:=none) (z:=y40) (o:=oi 1 1) (xs:=u0) (len:=u0.length) kr kr rfl kr kr g41)<|rsT 1<|Ao<|bn_<|bn_<|tn_ ?_;cases h;exact (Bv (N:=u0.length+1) (oi 1 20) 30 none Y9 (u0++[y40]) kr fS).trans<|(wL 9 (fS:u0.length+1=(u0++[y40]).length)).trans<|Ag [(oi 1 1,oi 1 20)]
    refine Aa 11<|rsT 3 (rcH h Va fun y42 h=>Hd (.own (oi 28 8) Y9 0 1) (oi 28 8) (.vec 30 3 1<|tvC none Y9<|[y42]) trivial (Co kr) ?_);have ⟨g43,h⟩:=Aj h;refine rs2 (.own (oi 1 9) Y9 0<|u0.length+1) (oi 1 1) (oi 1 9) (.vec 30 3 (u0.length+1)<|tvC none Y9<|u0++[y42]) (Mw (t':=Y9) (t:=Y9) (t2:=Y9) (e2:=30) (q:=oi 28 8) (m:=none) (z:=y42) (o:=oi 1 1) (xs:=u0) (len:=u0.length) kr kr rfl kr kr g43)<|rsT 1<|Ao<|bn_<|bn_<|tn_ ?_;cases h;exact (Bv (N:=u0.length+1) (oi 1 9) 30 none Y9 (u0++[y42]) kr fS).trans<|(wL 9 (fS:u0.length+1=(u0++[y42]).length)).trans<|Ag [(oi 1 1,oi 1 9)]
   intro u4 h
   (try dsimp only at h);refine Aa 4 ?_;have ⟨g44,h⟩:=Aj h;exact zA g44<|rsT 1<|Ao<|tn_<|jL []
  have q9_:=of_decide_eq_false q9;refine lxT ?_;have h:=jO h hn6
  (try dsimp only at h);exact jE []
 intro u2 h
 (try dsimp only at h);refine Ab<|Aa 7<|rsT 1 ?_;have ⟨x46,e46,h⟩:=Ah h;refine rs0 (.elt (oi 1 1) 0 0) (Te (t:=Y9) (o:=oi 1 1) (len:=u2.length) (k:=.i64) (m:=0) kr kr rfl (by decide) rfl<|Ai e46)<|rsl (.agg [ai x46.1,ai x46.2.1,tS x46.2.2]) (Om (o:=oi 1 1) (k:=0) (e1:=30) (N:=List.length u2) (t:=Y9) (m:=none) (xs:=u2) (z:=x46) kr kr e46 kr<|Nat.le_of_ble_eq_true kr) (rcM h [] [.agg [ai x46.1,ai x46.2.1,tS x46.2.2]] Agu trivial (aR kr) (Bb kr kr trivial) fun y47 h=>rsB 1<|rnW<|Ac ?_);cases h;exact E4 [.agg [ai x46.1,ai x46.2.1,oS 1 1 y47.length]]<|Ag (tl:=[(8,.box (oi 0 1) 0)]) (g:=2) [(oi 1 1,oi 1489 5),(oi 2 1,oi 1490 5)]
def Lc(a0:Int)(a1:List (ByteArray×(List ZB)×Int×Int×LL))(u0:List ZB):Option (Bool×Int×Int×LL):=
 (Lb a0 a1 u0).bind fun y5=>
cond (!y5)
 (some (false,0,0,([]:LL)))
 ((Iq a0 a1 u0 false).bind fun y9=>
 some (true,y9.1,y9.2.1,y9.2.2))
theorem Aaw(h:Lc bA pA hA=some vA):Ed Tryz.prog Tab 19 [ai bA,.tree Yg pA,.agg [.tree Y8 hA]] [] (.tup [.agg [ai vA.2.1,ai vA.2.2.1,oS 1 1 vA.2.2.2.length],.bool vA.1]) [(oi 0 1,.cells 30 [ai vA.2.1,ai vA.2.2.1,oS 1 1 vA.2.2.2.length]),(oi 1 1,.mat 81 (oi 2 1) .int vA.2.2.2),(oi 2 1,.pool 3 .int vA.2.2.2)]:=by
 exact B8 kr Tryz.func19 (Ck kr) (n:=18) kr fS rfl kr trivial ⟨trivial,⟨⟨3,.tail _<|.tail _<|.head _⟩,⟨trivial,trivial⟩⟩⟩<|Ae<|Ab<|Ab<|Aa 9<|rsT 3 (rcH h Z8 fun y5 h=>rsT 1<|rnW (kQ h (fun _ h=>Ae<|Ac<|tr_ (by obtain rfl:=osj h;exact E4 [.agg [ai 0,ai 0,oS 1 1 ((([]:LL)).length)],.bool false]<|(Oy 9000 (oi 6 2) 2 30 [ai 0,ai 0,.nils] [ai 0,ai 0,oS 9000 12 0] 81 sI kr kr kr).trans<|(Dv (e1:=81) (n:=0) 9000 (oi 9000 12) 3 .int kr kr rfl kr kr).trans<|Ag (tl:=[(6,.box (oi 0 1) 0),(7,.bool false)]) (g:=2) [(oi 0 1,oi 6 2),(oi 1 1,oi 9000 12),(oi 2 1,oi 9000 13)])) fun _ h=>skW<|Ab<|Aa 15<|rsT 3 (rcM h [] [ai bA,.tree Yg pA,.agg [.tree Y8 hA],.bool false] Wm trivial (aR kr) (Bb kr kr trivial) fun y9 h=>rsB 2<|rnW<|Ac (by obtain rfl:=osj h;exact E4 [.agg [ai y9.1,ai y9.2.1,oS 1 1 y9.2.2.length],.bool true]<|Ag (tl:=[(6,.box (oi 0 1) 0),(7,.bool true)]) (g:=2) [(oi 0 1,oi 6 2),(oi 1 1,oi 273 12),(oi 2 1,oi 274 12)]))))
end
section
def grV(k v:Int):ZA:=if k=3 then [[1,1,1]] else if k=4 then [[1]] else if k=5 then [[1,0,1],[0,1,1]] else if k=7 then [[1,v]] else []
def Ak1(w w':World)(e:Ending)(xss:ZA):Prop:=(∃ A c l,e=.returned (.slice A xss.length c)/\Sl (fun b=>w.heap.size<=b) w' (.slice .int) A c xss l)/\Below w.heap.size w w'
theorem Acl{R:NP}{w:World}{b:Nat}{xss:ZA}{c:Nat}(hR:R b)(hc:xss.length<=c/\c<=maxLen)(g:Nat->Nat)
  (h:∀(i:Nat) (hi:i<xss.length),w.cell? ⟨b,i,none⟩=some (.slice (some ⟨g i,0,none⟩) xss[i].length xss[i].length)/\R (g i)/\xss[i].length<=maxLen/\∀(j:Nat) (hj:j<xss[i].length),w.cell? ⟨g i,j,none⟩=some (.int .i64 xss[i][j])):∃ l,Sl R w (.slice .int) (some ⟨b,0,none⟩) c xss l:=by
 have ea:∀(b i:Nat),(⟨b,0,none⟩:Addr).add (i*1)=⟨b,i,none⟩:=fun b i=>by
  by_cases h:i=0 <;> simp[Addr.add,h]
 refine ⟨_,hc.1,hc.2,fun i=>(range (xss.getD i []).length).flatMap fun j=>[⟨g i,j,none⟩],rfl,fun _=>⟨_,rfl,hR,fun i hi=>?_⟩⟩;have ⟨h1,h2,h3,h4⟩:=h i hi;have e:xss.getD i []=xss[i]:=by rw[gDg,gEg hi];rfl
 refine ⟨some ⟨g i,0,none⟩,xss[i].length,by rw[show Ty.size (.slice .int)=1 from rfl,ea];exact h1,fQ _,h3,fun j=>[⟨g i,j,none⟩],by dsimp only;rw[e],fun _=>⟨_,rfl,h2,fun j hj=>?_⟩⟩;rw[show Ty.size .int=1 from rfl,ea];exact ⟨h4 j hj,rfl⟩
theorem N6{w:World}{cs:Array Value}{t:TypeId}{b j:Nat}(hb:b=w.heap.size):(w.alloc (.cells cs t)).cell? ⟨b,j,none⟩=cs[j]?:=by subst hb;exact World.cell?_alloc_new _ _ _ _
theorem Vk{w:World}{o:Obj}{b j:Nat}(hb:b<w.heap.size):(w.alloc o).cell? ⟨b,j,none⟩=w.cell? ⟨b,j,none⟩:=World.cell?_alloc_lt _ _ _ hb
theorem gr3(v:Int)(w:World):Calls Tryz.prog 144 #[.int .i64 3,.int .i64 v] w fun e w'=>Ak1 w w' e [[1,1,1]]:=by
 go_enter Tryz.func144,Tryz.ntmps144
 go_wp2
 refine bodyPost_ret (v:=.slice (some ⟨w.heap.size+1,0,none⟩) 1 1) (by simp[results,Tryz.results144,go_sem]) rfl ?_
 have ⟨l,hl⟩:=Acl (R:=fun b=>w.heap.size<=b) (w:=(w.alloc<|Obj.cells #[Value.int IntKind.i64 1,Value.int IntKind.i64 1,Value.int IntKind.i64 1] 3).alloc<|Obj.cells #[Value.slice (some ⟨w.heap.size,0,none⟩) 3 3] 81) (b:=w.heap.size+1) (xss:=[[1,1,1]]) (c:=1) (Nat.le_succ _) ⟨fQ _,by simp[maxLen]⟩ (fun i=>w.heap.size) (fun i hi=>by
  obtain rfl:i=0:=by simp at hi;omega
  refine ⟨by rw[N6 fS];rfl,fQ _,by simp[maxLen],fun j hj=>?_⟩;rcases (show j=0∨j=1∨j=2 by simp at hj;omega) with rfl|rfl|rfl <;> (rw[Vk (by simp <;> omega),N6 rfl];rfl))
 exact ⟨⟨_,_,l,rfl,hl⟩,fG⟩
theorem gr4(v:Int)(w:World):Calls Tryz.prog 144 #[.int .i64 4,.int .i64 v] w fun e w'=>Ak1 w w' e [[1]]:=by
 go_enter Tryz.func144,Tryz.ntmps144
 go_wp2
 refine bodyPost_ret (v:=.slice (some ⟨w.heap.size+1,0,none⟩) 1 1) (by simp[results,Tryz.results144,go_sem]) rfl ?_
 have ⟨l,hl⟩:=Acl (R:=fun b=>w.heap.size<=b) (w:=(w.alloc<|Obj.cells #[Value.int IntKind.i64 1] 3).alloc<|Obj.cells #[Value.slice (some ⟨w.heap.size,0,none⟩) 1 1] 81) (b:=w.heap.size+1) (xss:=[[1]]) (c:=1) (Nat.le_succ _) ⟨fQ _,by simp[maxLen]⟩ (fun i=>w.heap.size) (fun i hi=>by
  obtain rfl:i=0:=by simp at hi;omega
  refine ⟨by rw[N6 fS];rfl,fQ _,by simp[maxLen],fun j hj=>?_⟩;obtain rfl:j=0:=by simp at hj;omega
  rw[Vk (by simp <;> omega),N6 rfl];rfl)
 exact ⟨⟨_,_,l,rfl,hl⟩,fG⟩
theorem gr7(v:Int)(w:World):Calls Tryz.prog 144 #[.int .i64 7,.int .i64 v] w fun e w'=>Ak1 w w' e [[1,v]]:=by
 go_enter Tryz.func144,Tryz.ntmps144
 go_wp2
 refine bodyPost_ret (v:=.slice (some ⟨w.heap.size+1,0,none⟩) 1 1) (by simp[results,Tryz.results144,go_sem]) rfl ?_
 have ⟨l,hl⟩:=Acl (R:=fun b=>w.heap.size<=b) (w:=(w.alloc<|Obj.cells #[Value.int IntKind.i64 1,Value.int IntKind.i64 v] 3).alloc<|Obj.cells #[Value.slice (some ⟨w.heap.size,0,none⟩) 2 2] 81) (b:=w.heap.size+1) (xss:=[[1,v]]) (c:=1) (Nat.le_succ _) ⟨fQ _,by simp[maxLen]⟩ (fun i=>w.heap.size) (fun i hi=>by
  obtain rfl:i=0:=by simp at hi;omega
  refine ⟨by rw[N6 fS];rfl,fQ _,by simp[maxLen],fun j hj=>?_⟩;rcases (show j=0∨j=1 by simp at hj;omega) with rfl|rfl <;> (rw[Vk (by simp <;> omega),N6 rfl];rfl))
 exact ⟨⟨_,_,l,rfl,hl⟩,fG⟩
theorem gr5(v:Int)(w:World):Calls Tryz.prog 144 #[.int .i64 5,.int .i64 v] w fun e w'=>Ak1 w w' e [[1,0,1],[0,1,1]]:=by
 go_enter Tryz.func144,Tryz.ntmps144
 go_wp2
 refine bodyPost_ret (v:=.slice (some ⟨w.heap.size+2,0,none⟩) 2 2) (by simp[results,Tryz.results144,go_sem]) rfl ?_
 have ⟨l,hl⟩:=Acl (R:=fun b=>w.heap.size<=b) (w:=((w.alloc<|Obj.cells #[Value.int IntKind.i64 1,Value.int IntKind.i64 0,Value.int IntKind.i64 1] 3).alloc<|Obj.cells #[Value.int IntKind.i64 0,Value.int IntKind.i64 1,Value.int IntKind.i64 1] 3).alloc<|Obj.cells #[Value.slice (some ⟨w.heap.size,0,none⟩) 3 3,Value.slice (some ⟨w.heap.size+1,0,none⟩) 3 3] 81) (b:=w.heap.size+2) (xss:=[[1,0,1],[0,1,1]]) (c:=2) oM ⟨fQ _,by simp[maxLen]⟩ (fun i=>w.heap.size+i) (fun i hi=>by
  rcases (show i=0∨i=1 by simp at hi;omega) with rfl|rfl
  ·refine ⟨by rw[N6 fS];rfl,Nat.le_add_right _ _,by simp[maxLen],fun j hj=>?_⟩;rcases (show j=0∨j=1∨j=2 by simp at hj;omega) with rfl|rfl|rfl <;> (rw[Vk (by simp <;> omega),Vk (by simp <;> omega),N6 fS];rfl)
  ·refine ⟨by rw[N6 fS];rfl,Nat.le_add_right _ _,by simp[maxLen],fun j hj=>?_⟩;rcases (show j=0∨j=1∨j=2 by simp at hj;omega) with rfl|rfl|rfl <;> (rw[Vk (by simp <;> omega),N6 fS];rfl))
 exact ⟨⟨_,_,l,rfl,hl⟩,fG⟩
theorem Asi(w:World):Ak1 w w (.returned (.slice none 0 0)) []:=⟨⟨none,0,[],rfl,by simp,by simp[maxLen],fun _=>[],by simp,fun h=>absurd h fS⟩,Below.refl _ _⟩
theorem gr6(v:Int)(w:World):Calls Tryz.prog 144 #[.int .i64 6,.int .i64 v] w fun e w'=>Ak1 w w' e []:=by
 go_enter Tryz.func144,Tryz.ntmps144
 go_wp2
 refine bodyPost_ret (v:=.slice none 0 0) (by simp[results,Tryz.results144,go_sem]) rfl ?_;exact Asi _
theorem gr8(v:Int)(w:World):Calls Tryz.prog 144 #[.int .i64 8,.int .i64 v] w fun e w'=>Ak1 w w' e []:=by
 go_enter Tryz.func144,Tryz.ntmps144
 go_wp2
 refine bodyPost_ret (v:=.slice none 0 0) (by simp[results,Tryz.results144,go_sem]) rfl ?_;exact Asi _
theorem Azb(k v:Int)(h:3<=k/\k<=8)(w:World):Calls Tryz.prog 144 #[.int .i64 k,.int .i64 v] w fun e w'=>Ak1 w w' e (grV k v):=by
 rcases (show k=3∨k=4∨k=5∨k=6∨k=7∨k=8 by omega) with rfl|rfl|rfl|rfl|rfl|rfl
 ·exact gr3 v w
 ·exact gr4 v w
 ·exact gr5 v w
 ·exact gr6 v w
 ·exact gr7 v w
 ·exact gr8 v w
def Jk(a0 a1:Int):Option ZA:=og (3<=a0/\a0<=8) (some (grV a0 a1))
def Tv(r:ZA):RV:=⟨false,[(false,[.frz (.tree (.slice .int) r)])]⟩
theorem M5{a0 a1:Int}{r:ZA}(h:Jk a0 a1=some r):Da Tryz.prog Tab 144 [.int .i64 a0,.int .i64 a1] (Tv r):=by
 have ⟨hb,h⟩:=Aj h;cases h;intro w im vs hG hr;obtain ⟨u1,_,rfl,h1,u2,_,rfl,h2,h3⟩:=hr;obtain rfl:_=[]:=h3;obtain rfl:u1=.int .i64 a0:=h1;obtain rfl:u2=.int .i64 a1:=h2;refine (Azb a0 a1 hb w).mono ?_;rintro e w' ⟨⟨A,c,l,rfl,hs⟩,hbl⟩;exact ⟨_,rfl,hbl,[_],[],⟨_,[],rfl,⟨A,c,l,rfl,hs⟩,rfl,rfl,rfl⟩,⟨trivial,fun _=>rfl⟩,rfl⟩
end
section
mutual
def AV.unT(R:NP):AV->AV->Prop
 | .tree t xs,d=>d=.ftr R t xs
 | .agg cs,d=>∃ ds,d=.agg ds/\AV.unTL R cs ds
 | .fn f cs,d=>∃ ds,d=.fn f ds/\AV.unTL R cs ds
 | c,d=>d=c
def AV.unTL(R:NP):LA->LA->Prop
 | [],ds=>ds=[]
 | c :: cs,ds=>∃ d ds',ds=d :: ds'/\AV.unT R c d/\AV.unTL R cs ds'
end
mutual
theorem Axe{C:OC}{R im im':NP}{w:World}(hm:∀(c:AV) (u:Value),AV.Rep C im w c u->AV.Rep C im' w c u)(hR:∀ b,im b->im' b/\R b):∀(c d:AV) (u:Value),AV.unT R c d->AV.Rep C im w c u->AV.Rep C im' w d u
 | .tree t xs,d,u,h,⟨A,c,l,e,hs⟩=>by
  have h:d=.ftr R t xs:=h;subst h;exact ⟨A,c,l,e,Cc (fun b _ hb=>hR b hb) hs⟩
 | .agg cs,d,u,⟨ds,e,h⟩,hr=>by
  subst e;have ⟨us,e,hr⟩:=hr;exact ⟨us,e,Yz hm hR cs ds us h hr⟩
 | .fn f cs,d,u,⟨ds,e,h⟩,hr=>by
  subst e;have ⟨us,e,hr⟩:=hr;exact ⟨us,e,Yz hm hR cs ds us h hr⟩
 | .int ..,d,u,h,hr | .bool ..,d,u,h,hr | .str ..,d,u,h,hr | .err ..,d,u,h,hr | .nils,d,u,h,hr | .any,d,u,h,hr | .mtree ..,d,u,h,hr | .ftr ..,d,u,h,hr | .mp _,d,u,h,hr | .tup _,d,u,h,hr | .ref _,d,u,h,hr
 | .own ..,d,u,h,hr | .box ..,d,u,h,hr | .elt ..,d,u,h,hr | .sla ..,d,u,h,hr | .telt ..,d,u,h,hr | .giv ..,d,u,h,hr | .abool ..,d,u,h,hr=>by obtain rfl:d=_:=h;exact hm _ u hr
theorem Yz{C:OC}{R im im':NP}{w:World}(hm:∀(c:AV) (u:Value),AV.Rep C im w c u->AV.Rep C im' w c u)(hR:∀ b,im b->im' b/\R b):∀(cs ds:LA) (us:LV),AV.unTL R cs ds->AV.RepL C im w cs us->AV.RepL C im' w ds us
 | [],ds,us,h,hr=>by obtain rfl:ds=[]:=h;exact hr
 | c :: cs,ds,us,⟨d,ds',e,h1,h2⟩,hr=>by
  subst e;have ⟨u,us',e,r1,r2⟩:=hr;exact ⟨u,us',e,Axe hm hR c d u h1 r1,Yz hm hR cs ds' us' h2 r2⟩
end
theorem Ajx{C:OC}{im:NP}{w:World}:∀(cs:LA) (vs:LV),AV.RepL C im w cs vs->AV.RepL C im w (cs.map AV.un) vs
 | [],_,h=>h
 | _ :: cs,_,⟨u,us,e,h1,h2⟩=>⟨u,us,e,Afk h1,Ajx cs us h2⟩
theorem Anf{R:NP}:∀(t:Ty) (x:t.D),(t.avM (some R) x).map AV.un=t.avM none x
 | .int,_=>rfl
 | .bool,_=>rfl
 | .str,_=>rfl
 | .slice t,xs=>rfl
 | .pair a b,x=>by simp only[Ty.avM,map_append,Anf a,Anf b]
theorem Aum{R:NP}{t:Ty}(xs:List t.D):(tvC (some R) t xs).map AV.un=tvC none t xs:=by
 unfold tvC;rw[map_flatMap];congr 1;funext x;exact Anf t x
theorem Ah8{R:NP}{D:Oid->Prop}:∀(t:Ty) (x:t.D),∀ c∈t.avM (some R) x,c.hp D∨∃(t:Ty) (xs:List t.D),c=.ftr R t xs
 | .int,_,c,h=>by obtain rfl:=mem_singleton.1 h;exact .inl trivial
 | .bool,_,c,h=>by obtain rfl:=mem_singleton.1 h;exact .inl trivial
 | .str,_,c,h=>by obtain rfl:=mem_singleton.1 h;exact .inl trivial
 | .slice t,xs,c,h=>by obtain rfl:=mem_singleton.1 h;exact .inr ⟨t,xs,rfl⟩
 | .pair a b,x,c,h=>(mem_append.1 h).elim (Ah8 a x.1 c) (Ah8 b x.2 c)
theorem Alw{P:Program}[IsP P]{G:WP}(hfol:P.follows .mixedOrders=true){g:FuncId}{fn:Func}(hf:P.funcs[g]? =some fn){ac:AC}{rs:List Res}(hc:C2 P fn=some (ac,rs)){args0:LA}(args:(NP)->LA){n:Nat}(hN:fn.ntmps=n)(hn:∀ R,(args R).length<=n)
  {tl:(NP)->TL} (htl:∀ R,tmL 0 (args R)=tl R) {e:TypeId} {t t':Ty} {xs:List t.D} (hu:∀ R,AV.unTL R args0 (args R)) (hcl:∀ R,AV.cloL [] (args R)=true) (hrn:∀ R U,AV.renL U (args R)=args R)
  (h:∀ R,awp P G ac (fun en S=>∃ S',WeakG G S S'/\(en=.normal∨en=.ret)/\(∃ rvs,Res.evL S'.tm S'.ob rs=some rvs/\AV.own (oi 0 1) t' 0 xs.length=Agk rvs)/\∀ q∈exL [(oi 0 1,Ob.tv e (some R) t xs)],S'.ob q.1=some q.2) ⟨Ap (tl R),Am (Cq []),1⟩):Ze P G g args0 (.own (oi 0 1) t' 0 xs.length) [(oi 0 1,.tv e none t xs)]:=by
 intro i w0 ob C K w vs hM hi hargs;unfold C2 at hc;split at hc
 ·rename_i c hb;split at hc
  ·rename_i ac' rs' h1 h2;obtain ⟨rfl,rfl⟩:=Prod.mk.inj<|osj hc
   have hU:Ayn P G (imm ob C) g (args<|imm ob C) [] (.own (oi 0 1) t' 0 xs.length) [(oi 0 1,.tv e (some<|imm ob C) t xs)]:=by
    refine Ak4 hfol hf hb h1 h2 (by have:=hn<|imm ob C;omega) (fun q hq=>by cases hq) (by simp[nmL,exL]) (fun q hq=>?_) (AV.cloPL_of _<|hcl _) (show oi 0 1∈nmL _ by simp[nmL,exL]) ?_
    ·obtain rfl:=mem_singleton.1 hq;refine ⟨.inl rfl,.inr (.inr fun c hc=>?_)⟩;have ⟨x,_,hx⟩:=mem_flatMap.1 hc;exact Ah8 t x c hx
    ·have:=h<|imm ob C;rw[← htl,← Ajj]at this;exact this
   refine (hU (fun j=>j) i w0 ob C K w vs (fun _ h=>h) hM hi (fun q hq=>by cases hq) (fun _ _ hj=>by cases hj) (fun _ hj=>by cases hj) ?_).mono ?_
   ·rw[hrn];have hO:∀ b,imm ob C b->Abs (fun j=>j) [] C b:=fun b _ q hq=>by cases hq
    have hL:Later C C (imm ob C) (Abs (fun j=>j) [] C) w w:=⟨fun _ _ h=>h,fun b _ hb=>hO b hb,fun _ _ _=>rfl,fQ _⟩
    exact Yz (fun c u hr=>AV.Rep.later hL c u hr) (fun b hb=>⟨hO b hb,hb⟩) _ _ _ (hu _) hargs
   ·rintro en w' ⟨u,rfl,C',k1,k2,k3⟩;have ea:A3 (J2 (fun j=>j) i [] [(oi 0 1,.tv e (some<|imm ob C) t xs)]) ob=upd ob (Cf (fun j=>j) i<|oi 0 1) (some<|(Ob.vec e t.size xs.length<|tvC (some<|imm ob C) t xs).ren<|Cf (fun j=>j) i):=rfl;have eb:A3 (J2 (fun j=>j) i [] [(oi 0 1,.tv e none t xs)]) ob=upd ob (Cf (fun j=>j) i<|oi 0 1) (some<|(Ob.vec e t.size xs.length<|tvC none t xs).ren<|Cf (fun j=>j) i):=rfl;rw[ea]at k1 k2;generalize Cf (fun j=>j) i (oi 0 1)=Y at *
    have hd:∀ x,(∃ o,upd ob Y (some<|(Ob.vec e t.size xs.length<|tvC none t xs).ren<|Cf (fun j=>j) i) x=some o)↔∃ o,upd ob Y (some<|(Ob.vec e t.size xs.length<|tvC (some<|imm ob C) t xs).ren<|Cf (fun j=>j) i) x=some o:=fun x=>by
     unfold upd;by_cases hx:x=Y
     ·simp[hx]
     ·simp[hx]
    refine ⟨u,rfl,?_⟩;rw[eb];have him:=Axd (C:=C') hd;refine ⟨C',by rw[him];exact k1,⟨k2.below,k2.inv,k2.gen,k2.lt,k2.cap,fun a b bl c s c' s' o o' ha hb'=>?_,fun a o l ha hl=>?_⟩,?_⟩
    ·have ⟨o1,h1⟩:=(hd a).1 ⟨o,ha⟩;have ⟨o2,h2⟩:=(hd b).1 ⟨o',hb'⟩;exact k2.inj a b bl c s c' s' o1 o2 h1 h2
    ·rw[him];by_cases hx:a=Y
     ·subst hx;have ha':some ((Ob.vec e t.size xs.length<|tvC none t xs).ren<|Cf (fun j=>j) i)=some o:=by rw[← ha];simp[upd]
      cases ha';have hr:=k2.obs a ((Ob.vec e t.size xs.length<|tvC (some<|imm ob C) t xs).ren<|Cf (fun j=>j) i) l (by simp[upd]) hl;cases l with
      | nil=>
       have ⟨vs1,q1,q2,q3⟩:=hr;refine ⟨vs1,q1,?_,q3⟩;have:=Ajx _ _ q2;rw[Su,Aum]at this;rw[Su];exact this
      | at_ b c s=>
       have ⟨vs1,q1,q2,q3⟩:=hr;refine ⟨vs1,q1,?_,q3⟩;have:=Ajx _ _ q2;rw[Su,Aum]at this;rw[Su];exact this
     ·refine k2.obs a o l ?_ hl;rw[← ha];simp[upd,hx]
    ·exact him▸k3
  ·cases hc
 ·cases hc
theorem Aiz{P:Program}{G:WP}{f:FuncId}{args:LA}{n:Nat}{us:List (Oid×Ob)}{v:AV}(h:Ze P G f args v us):Ze P (GN G n) f args v us:=by
 intro i w0 ob C K w vs hM h1 h2;refine (h i w0 ob C K w vs ⟨hM.below,fun w' hb=>(hM.inv w' hb).1,hM.gen,hM.lt,hM.cap,hM.inj,hM.obs⟩ h1 h2).mono ?_;rintro e w' ⟨u,rfl,C',q1,q2,q3⟩;exact ⟨u,rfl,C',q1,⟨q2.below,hM.inv,q2.gen,q2.lt,q2.cap,q2.inj,q2.obs⟩,q3⟩
theorem Apu{P:Program}{G:WP}{n:Nat}{d:Option Nat}{gd:Option (Nat×Bool)}{fo:Opd}{xs:List Opd}{tys:List (List (Option Ty))}{f:TF}{ob:OF}{F0 F:FuncId}{caps args:LA}{v:AV}{us:List (Oid×Ob)}
  (hgd:Sq gd f) (hfo:fo.ev f=.fn F0 caps) (hF:Rc F0=F) (hz:(Dt F0 xs (caps.map Opd.cst)).map (Opd.ev f)=args) (h5:∀ q∈exL us,q.1.2=1∨(q.1.2=0/\q.1∈nmL [])) (hb:C4 P F=true) (hc:Ze P G F args v us):
  Fz P G false n ⟨d,gd,.call fo xs tys⟩ f ob (2,v.ren (Cf (fun j=>j) ((d.getD 0,0),n)),J2 (fun j=>j) ((d.getD 0,0),n) [] us):=by
 have hN:Apz P G f ob ((d.getD 0,0),n) (Rc F0) (Dt F0 xs<|caps.map Opd.cst) (v.ren<|Cf (fun j=>j) ((d.getD 0,0),n),J2 (fun j=>j) ((d.getD 0,0),n) [] us):=by
  subst hF hz;refine .inr ⟨hb,v,us,hc,fun j hj=>?_,rfl⟩;obtain ⟨q,hq,rfl⟩:=mem_map.1 hj;rcases h5 q hq with h|⟨_,h⟩
  ·rw[h];decide
  ·cases h
 have key:EvR P G false f ob ((d.getD 0,0),n) (.call fo xs tys) (2,v.ren<|Cf (fun j=>j) ((d.getD 0,0),n),J2 (fun j=>j) ((d.getD 0,0),n) [] us):=.inr ⟨fo,xs,tys,F0,caps,rfl,hfo,.inr ⟨rfl,rfl,hN⟩⟩;unfold Fz;cases gd with
 | none=>exact key
 | some sb=>exact ⟨true,Aa1 hgd,by rw[fW rfl];exact key⟩
section
variable{P:Program}{G:WP}{g k d:Nat}{gd:Option (Nat×Bool)}{xs:List X}{tl:TL}{ol:OL}{bad:List (Nat×Nat)}{ra:List Rec}{da:List (List Oid)}{Kf:List (Nat×AV)->List (Oid×Option Ob)->Prop}
variable{fo:Opd}{ys:List Opd}{tys:List (List (Option Ty))}{F:FuncId}{caps:LA}
theorem Avp(v:AV)(ul:OL){args:LA}{us:List (Oid×Ob)}{v0:AV}(hgd:Sq gd (Ap tl))(hc:Ze P G F args v0 us)(hb:C4 P F=true)(h3:XW P G g (k+1) xs ((d,v) :: tl) (ul++ol) Kf)(m:Nat:=0)(hfo:fo.ev (Ap tl)=.fn (F+m) caps:=by kernel_rfl)(hz:(Dt (F+m) ys (caps.map Opd.cst)).map (Opd.ev (Ap tl))=args:=by kernel_rfl)(hB:Zh [] [] us (g+k) ol=true:=by kernel_rfl)(hF:Rc (F+m)=F:=by kernel_rfl)(hv:v0.ren (Cf (fun j=>j) ((d,0),g+k))=v:=by kernel_rfl)(hu:Cq (Qn (Cf (fun j=>j) ((d,0),g+k)) us)=ul:=by kernel_rfl):XW P G g k (⟨some d,gd,.call fo ys tys⟩ :: xs) tl ol Kf:=by
 subst hv hu;have ⟨_,_,q3,q4⟩:=Uf hB trivial;exact Aj4 2 _ _ _ (Apu (n:=g+k) (d:=some d) hgd hfo hF hz q3 hb hc) (q4 ((d,0),g+k) rfl) h3
theorem Aut(v:AV)(ul:OL){args:LA}{us:List (Oid×Ob)}{v0:AV}(hgd:Sq gd (Ap tl))(hc:Ze P G F args v0 us)(hb:C4 P F=true)(h3:XD P G bad g (k+1) xs ((d,v) :: tl) (ul++ol) ((2,v,J2 (Bl []) ((d,0),g+k) [] us) :: ra) ((rdX (Ap tl) (Am ol) ⟨some d,gd,.call fo ys tys⟩) :: da) Kf)(m:Nat:=0)(hfo:fo.ev (Ap tl)=.fn (F+m) caps:=by kernel_rfl)(hz:(Dt (F+m) ys (caps.map Opd.cst)).map (Opd.ev (Ap tl))=args:=by kernel_rfl)(hB:Zh [] [] us (g+k) ol=true:=by kernel_rfl)(hF:Rc (F+m)=F:=by kernel_rfl)(hv:v0.ren (Cf (fun j=>j) ((d,0),g+k))=v:=by kernel_rfl)(hu:Cq (Qn (Cf (fun j=>j) ((d,0),g+k)) us)=ul:=by kernel_rfl):XD P G bad g k (⟨some d,gd,.call fo ys tys⟩ :: xs) tl ol ra da Kf:=by
 subst hv hu;have ⟨_,_,q3,q4⟩:=Uf hB trivial;exact An3 2 _ _ _ (Apu (n:=g+k) (d:=some d) hgd hfo hF hz q3 hb hc) (q4 ((d,0),g+k) rfl) h3
end
end
end Go.Proofs.YthlpchhhinipaaaGreatDoor
