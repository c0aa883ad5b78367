/- Lemmas on the program and on partial functions that stand in place of its code (part 7); no condition beyond those that each one states. -/
import Derived.Test.YthlpchhhinipaaaGreatDoorZ6
import Derived.Deep.RegionHeld3
namespace Go.Proofs.YthlpchhhinipaaaGreatDoor
open Go.RowKit Go.Deep List
theorem Anp {G:WP} {tl:TL} {ol:OL} {g:Nat} (d:Nat) (o:Oid) {e:TypeId} {t:Ty} {xs:List t.D} {len:Nat} (hd:Ao tl d=.own o t 0 len) (ho:Aj ol o=some (.arr e t xs)) (hl:len=xs.length) :
  WeakG G ⟨Ao tl,Aj ol,g⟩ ⟨Ao ((d,.tree t xs) :: tl),Aj ((o,none) :: ol),g⟩:=by
 refine Asx (S:=⟨Ao tl,Aj ol,g⟩) (obD:=fun i=>if i=o then Aj ol i else none) (fun i x hx=>?_) (fun i x hx=>?_) fun t'=>?_
 ·rw [Lo] at hx;split at hx
  ·cases hx
  ·exact hx
 ·split at hx
  next hc=>exact ⟨hx,by rw [Lo,fW hc]⟩
  ·cases hx
 ·by_cases ht:t'=d
  ·subst ht;refine .inr ⟨1,?_⟩;show gnd _ 1 (Ao tl t')=some (Ao _ t');rw [hd,show Ao ((t',AV.tree t xs) :: tl) t'=.tree t xs from fW rfl];exact Gz (e:=e) (by rw [fW rfl];exact ho) hl
  ·exact .inl<|fB ht
section
variable {G:WP} {n:Nat} {R:NP}
theorem Aqr (hR:∀ b,n<=b->R b) {S:St} {ob':OF} {tm':TF} {q:Oid} {e:TypeId} {t:Ty} {xs:List t.D} (hq:S.ob q=some (.arr e t xs))
  (h1:∀ i o',ob' i=some o'->i≠q/\∃ o,S.ob i=some o/\(o'=o∨∃ ty cs k t',o=.cells ty cs/\o'=.cells ty (cs.set k (.ftr R t xs))/\cs[k]? =some (.own q t' 0 xs.length)))
  (h3:∀ j,tm' j=S.tm j∨(tm' j=.ftr R t xs/\∃ t',S.tm j=.own q t' 0 xs.length)):WeakG (GN G n) S ⟨tm',ob',S.gen⟩:=by
 intro w0 B N a w hr;have ⟨C,hm,hf,hB⟩:=hr.ex;have hn:n<=w0.heap.size:=(hm.inv w0<|Below.refl _ _).2
 have him:∀ b,imm S.ob C b->imm ob' C b:=fun b hb i o c s ho=>by
  have ⟨_,o1,h,_⟩:=h1 i o ho;exact hb i o1 c s h
 have hL:Later C C (imm S.ob C) (imm ob' C) w w:=⟨fun _ _ h=>h,fun b _ hb=>him b hb,fun _ _ _=>rfl,fQ _⟩
 have key:∀ (t':Ty) (v:Value),AV.Rep C (imm S.ob C) w (.own q t' 0 xs.length) v->AV.Rep C (imm ob' C) w (.ftr R t xs) v:=by
  intro t' v hv
  have:AV.Rep (fun _=>none) (fun b=>imm ob' C b/\R b) w (.tree t xs) v:=by
   refine Mf (ob:=fun j=>if j=q then some (.arr e t xs) else none) (C:=C) (im:=fun b=>imm ob' C b/\R b) (lo:=w0.heap.size) (fun j z l hj hl=>?_) (fun _ hb=>hb) (fun j z b c s hj hs=>?_) 1 _ _ _ (Gz (e:=e) (fW rfl) rfl)<|Acx hv
   ·split at hj
    next e'=>subst e';cases hj;exact hm.obs j _ l hq hl
    ·cases hj
   ·split at hj
    next e'=>subst e';refine ⟨fun j' z' c' s' hj' hs'=>?_,hR b<|Nat.le_trans hn (hm.lt j b c s hs).1⟩;have ⟨hne,o1,hj1,_⟩:=h1 j' z' hj';exact hne (hm.inj j j' b c s c' s' _ o1 hq hj1 hs hs').symm
    ·cases hj
  exact this
 refine ⟨⟨C,⟨hm.below,hm.inv,hm.gen,hm.lt,hm.cap,fun i j b c s c' s' x y hi hj=>?_,fun i x l hi hl=>?_⟩,fun t'=>?_,hB.trans hL⟩,hr.size,hr.defers,fun i hi=>?_⟩
 ·have ⟨_,o1,g1,_⟩:=h1 i x hi;have ⟨_,o2,g2,_⟩:=h1 j y hj;exact hm.inj i j b c s c' s' o1 o2 g1 g2
 ·have ⟨_,o1,g1,g2⟩:=h1 i x hi;rcases g2 with rfl|⟨ty,cs,k,t',rfl,rfl,hk⟩
  ·exact (hm.obs i x l g1 hl).later hL fun _ _ _ _=>rfl
  ·have h0:=(hm.obs i _ l g1 hl)
   cases l with
   | nil=>exact h0
   | at_ b c s =>
    have ⟨vs,e1,e2,e3⟩:=h0;refine ⟨vs,e1,?_,e3⟩;have ⟨v,hv,hrv⟩:=e2.get hk;have h2:=(AV.RepL.later hL _ _ e2).set (k:=k)<|key t' v hrv
    have e4:vs.set k v=vs:=by
     obtain ⟨hlt,rfl⟩:=gSi.1 hv;exact set_getElem_self hlt
    rwa [e4] at h2
 ·rcases h3 t' with e'|⟨e',t2,e2⟩
  ·show AV.Rep C (imm ob' C) w (tm' t') _;rw [e'];exact AV.Rep.later hL _ _<|hf t'
  ·show AV.Rep C (imm ob' C) w (tm' t') _;rw [e'];have:=hf t';rw [e2] at this;exact key t2 _ this
 ·refine hr.obg i fun hn=>hi ?_
  cases hx:ob' i with
  | none=>exact hx
  | some x =>
   have ⟨_,o1,g1,_⟩:=h1 i x hx;rw [g1] at hn;cases hn
theorem Afx (hR:∀ b,n<=b->R b) {tl:TL} {ol:OL} {g:Nat} (i q:Oid) (k:Nat) {ty e:TypeId} {cs ds:LA} {t t':Ty} {xs:List t.D} {len:Nat} (hi:Aj ol i=some (.cells ty cs)) (hk:cs[k]? =some (.own q t' 0 len)) (hq:Aj ol q=some (.arr e t xs)) (hl:len=xs.length) (hd:cs.set k (.ftr R t xs)=ds) :
  WeakG (GN G n) ⟨Ao tl,Aj ol,g⟩ ⟨Ao tl,Aj ((q,none) :: (i,some (.cells ty ds)) :: ol),g⟩:=by
 subst hl hd;refine Aqr (S:=⟨Ao tl,Aj ol,g⟩) hR hq (fun j o' hj=>?_) fun j=>.inl rfl
 rw [Lo] at hj;split at hj
 ·cases hj
 ·rename_i hne;refine ⟨hne,?_⟩;by_cases hji:j=i
  ·subst hji;refine ⟨_,hi,.inr ⟨ty,cs,k,t',rfl,?_,hk⟩⟩;have:Aj ((j,some<|.cells ty<|cs.set k<|.ftr R t xs) :: ol) j=some (.cells ty<|cs.set k<|.ftr R t xs):=by simp [Aj]
   exact osj<|hj.symm.trans this
  ·refine ⟨o',?_,.inl rfl⟩;have:Aj ((i,some<|.cells ty<|cs.set k<|.ftr R t xs) :: ol) j=Aj ol j:=by simp [Aj,hji]
   exact this.symm.trans hj
end
theorem Tg {α:Type} {xs:List α} {z:α} {N len b:Nat} (hN:N=xs.length) (h:len<=N/\len+1<=1073741824/\(len+1)*b<=140737488355328):len+1=(xs.take len++[z]).length:=by
 rw [length_append,length_take,length_singleton];omega
theorem At9 {m:Option NP} {t:Ty} {xs:List t.D} {k:Nat} (hk:k<=xs.length):(tvC m t xs).take (k*t.size)=tvC m t (xs.take k):=by
 conv=>lhs;rw [← take_append_drop k xs,Ace]
 rw [take_append_of_le_length (by rw [O8,length_take,Nat.min_eq_left hk];exact fQ _)];exact take_of_length_le (by rw [O8,length_take,Nat.min_eq_left hk];exact fQ _)
theorem Acc {n:Nat} {d:Option Nat} {f:TF} {ob:OF} {x y:Opd} {o q:Oid} {e1 e2:TypeId} {t t' t2:Ty} {b len N:Nat} {m:Option NP} {xs:List t.D} {z:t.D} (hx:x.ev f=.own o t' 0 len) (hob:ob o=some (.vec e1 t.size N (tvC m t xs))) (hN:N=xs.length) (hy:y.ev f=.own q t2 0 1) (hq:ob q=some (.vec e2 t.size 1 (tvC m t [z]))) (h:len<=N/\len+1<=1073741824/\(len+1)*b<=140737488355328) :
  Bc n ⟨d,none,.appV e1 t b x y⟩ f ob=some (2,.own (o.1,n) t 0 (len+1),[(o,none),((o.1,n),some (.vec e1 t.size (len+1) (tvC m t (xs.take len++[z]))))]):=by
 have h1:List.take (len*t.size) (tvC m t xs)=tvC m t (xs.take len):=At9<|hN▸h.1;have h2:List.take (1*t.size) (List.drop (0*t.size)<|tvC m t [z])=tvC m t [z]:=by rw [Nat.zero_mul,drop_zero];exact take_of_length_le (by rw [O8];exact fQ _)
 simp only [Bc,ev,Mi,hx,hy,Wf,hq,hob,true_and,fE,fQ,if_true,h1,h2,h.1,h.2.1,h.2.2,and_self,Ace]
mutual
def AV.unS (R:NP):AV->AV->Prop
 | .tree t xs,d=>d=.ftr R t xs
 | .agg cs,d=>∃ ds,d=.agg ds/\AV.unSL R cs ds
 | .ref cs,d=>∃ ds,d=.ref ds/\AV.unSL R cs ds
 | c,d=>c.scal=true/\d=c
def AV.unSL (R:NP):LA->LA->Prop
 | [],ds=>ds=[]
 | c :: cs,ds=>∃ d ds',ds=d :: ds'/\AV.unS R c d/\AV.unSL R cs ds'
end
mutual
theorem Axh {R im:NP} {w:World} (hR:∀ b,im b->R b):∀ (c d:AV) (u:Value),AV.unS R c d->AV.Rep (fun _=>none) im w c u->AV.Rep (fun _=>none) im w d u
 | .tree t xs,d,u,h,⟨A,c,l,e,hs⟩=>by
  have h:d=.ftr R t xs:=h;subst h;exact ⟨A,c,l,e,B7 (fun b _ hb=>⟨hb,hR b hb⟩) hs⟩
 | .agg cs,d,u,⟨ds,e,h⟩,hr=>by
  subst e;have ⟨us,e,hr⟩:=hr;exact ⟨us,e,Yr hR cs ds us h hr⟩
 | .ref cs,d,u,⟨ds,e,h⟩,hr=>by
  subst e;have ⟨b,k,vs,e1,e2,e3,hr⟩:=hr;exact ⟨b,k,vs,e1,e2,e3,Yr hR cs ds vs h hr⟩
 | .int ..,d,u,⟨_,e⟩,hr=>by subst e;exact hr
 | .bool ..,d,u,⟨_,e⟩,hr=>by subst e;exact hr
 | .str ..,d,u,⟨_,e⟩,hr=>by subst e;exact hr
 | .err ..,d,u,⟨h,e⟩,hr=>by first|(cases h;done)|(subst e;exact hr)
 | .nils,d,u,⟨_,e⟩,hr=>by subst e;exact hr
 | .any,d,u,⟨h,_⟩,_=>by cases h
 | .mtree ..,d,u,⟨h,_⟩,_=>by cases h
 | .ftr ..,d,u,⟨h,_⟩,_=>by cases h
 | .mp _,d,u,⟨h,_⟩,_=>by cases h
 | .tup _,d,u,⟨h,_⟩,_=>by cases h
 | .fn ..,d,u,⟨h,_⟩,_=>by cases h
 | .own ..,d,u,⟨h,_⟩,_=>by cases h
 | .box ..,d,u,⟨h,_⟩,_=>by cases h
 | .elt ..,d,u,⟨h,_⟩,_=>by cases h
 | .sla ..,d,u,⟨h,_⟩,_=>by cases h
 | .telt ..,d,u,⟨h,_⟩,_=>by cases h
 | .giv ..,d,u,⟨h,_⟩,_=>by cases h
 | .abool ..,d,u,⟨h,_⟩,_=>by cases h
theorem Yr {R im:NP} {w:World} (hR:∀ b,im b->R b):∀ (cs ds:LA) (us:LV),AV.unSL R cs ds->AV.RepL (fun _=>none) im w cs us->AV.RepL (fun _=>none) im w ds us
 | [],ds,us,h,hr=>by obtain rfl:ds=[]:=h;exact hr
 | c :: cs,ds,us,⟨d,ds',e,h1,h2⟩,hr=>by
  subst e;have ⟨u,us',e,r1,r2⟩:=hr;exact ⟨u,us',e,Axh hR c d u h1 r1,Yr hR cs ds' us' h2 r2⟩
end
theorem Aum {P:Program} [IsP P] {G:WP} (hfol:P.follows .mixedOrders=true) {g:FuncId} {fn:Func} (hf:P.funcs[g]? =some fn) {ac:AC} {rs:List Res} (hc0:Cw P fn=some (ac,rs)) {args:LA} (args':(NP)->LA) {r:RV} {n:Nat} (hN:fn.ntmps=n) (hn:∀ R,(args' R).length<=n) (hu:∀ R,AV.unSL R args (args' R)) {tl:(NP)->TL} (htl:∀ R,tmL 0 (args' R)=tl R)
  (h:∀ (n:Nat) (R:NP),(∀ b,n<=b->R b)->awp P (GN G n) ac (fun e S=>∃ S',WeakG (GN G n) S S'/\(e=.normal∨e=.ret)/\Ano R false rs S' r) ⟨Ao (tl R),Aj [],1⟩):Cr P G g args r :=
 Ae9 hfol hf hc0 false hN hn htl (fun R im w us hR hr=>Yr (fun b hb=>hR b hb rfl) _ _ _ (hu R) hr) h
set_option maxRecDepth 4000
set_option maxHeartbeats 4800000
variable {pA pB:List (ByteArray×(List ZB)×Int×Int×LL)} {bA bB:Int} {cA:Bool} {nA:List (ByteArray×Int×Int×List ZB)}
def E4 (a0:List (ByteArray×(List ZB)×Int×Int×LL)) (u1:Int) (u0:Nat):Option (Ctl (Int×Nat) (Ctl Int Int)) :=
 cond (decide ((u0:Int)<(a0.length:Int)))
 ((a0[u0]?).bind fun x15 =>
 (Ha x15.1 x15.2.1 x15.2.2.1 x15.2.2.2.1 x15.2.2.2.2 u1).bind fun y16 =>
 cond (decide (y16<0))
  (some (.out (.out (-1))))
  (og (u0+1<4611686018427387904) <|
  some (.next (y16,u0+1))))
 (some (.out (.next u1)))
def Gg (a0:List (ByteArray×(List ZB)×Int×Int×LL)) (a1:Int):Option Int :=
 cond (decide (wI (a1 - (a0.length:Int))<0))
 (some (-1))
 (Dj (Aq (fun s_:Int×Nat=>E4 a0 s_.1 s_.2) 4611686018427387904 (wI (a1 - (a0.length:Int)),0)) fun u0 =>
 some u0)
theorem Ue (h:Gg pA bA=some bB):cK 6 [.tree Yg pA,ai bA] (A7 bB):=by
 refine cO Tryz.func6<|Ae<|Ae<|Ab<|Ae (kQ h (fun _ h=>Ae<|Ac<|tr_<|jS h) fun _ h=>skW (sqC h (fun u0=>sT [(1,ai u0)] []) ?_ fun u0 h=>Ae<|Ac<|jS h));intro _ h hk7;refine Ae<|Ad<|lpF h (fun (u1,u2)=>sT [(0,.tree Yg pA),(1,ai u1),(5,an u2)] []) (Ag []) ?_;rintro n_ ⟨u1,u2⟩ c_ h hn9;exact Ab<|Ae (kQ h (fun _ h=>skW<|Ab<|Ad<|Ab<|Aa 13<|rsT 2 (riH Yg h fun x15 _ h=>rsT 2 (rcH h Vm fun y16 h=>rsT 1<|rnW<|Ae (kQ h (fun _ h=>Ae<|Ac<|br_<|tr_<|tr_<|br_<|tr_ (have h:=jO h hn9;(have h:=jO h hk7;jS h))) fun _ h=>Ax<|bn_<|tn_<|wr_<|Aa 18<|rsT 1 (raH h fun h=>rsT 1<|Ap<|tn_<|jL []))))) fun _ h=>lxT (have h:=jO h hn9;jC []))
def E8 (a0:List (ByteArray×(List ZB)×Int×Int×LL)) (a1:List (ByteArray×(List ZB)×Int×Int×LL)) (u0:Nat):Option (Ctl Nat (Ctl Unit Bool)) :=
 cond (decide ((u0:Int)<(a0.length:Int)))
 ((a0[u0]?).bind fun x14 =>
 (a1[u0]?).bind fun x15 =>
 (Hh x14.1 x14.2.1 x14.2.2.1 x14.2.2.2.1 x14.2.2.2.2 x15.1 x15.2.1 x15.2.2.1 x15.2.2.2.1 x15.2.2.2.2).bind fun y16 =>
 cond (!y16)
  (some (.out (.out false)))
  (og (u0+1<4611686018427387904) <|
  some (.next (u0+1))))
 (some (.out (.next ())))
def J7 (a0:List (ByteArray×(List ZB)×Int×Int×LL)) (a1:List (ByteArray×(List ZB)×Int×Int×LL)):Option Bool :=
 cond ((a0.length:Int) !=(a1.length:Int))
 (some false)
 (Dj (Aq (fun s_:Nat=>E8 a0 a1 s_) 4611686018427387904 0) fun _ =>
 some true)
theorem T8 (h:J7 pA pB=some cA):cK 13 [.tree Yg pA,.tree Yg pB] (Am cA):=by
 exact cO Tryz.func13<|Ae<|Ab<|Ae (kQ h (fun _ h=>Ae<|Ac<|tr_<|jS h) fun _ h=>skW (sqC h (fun _=>sT [] []) (fun _ h hk6=>Ae<|Ad<|lpF h (fun u0=>sT [(0,.tree Yg pA),(1,.tree Yg pB),(5,an u0)] []) (Ag []) fun n_ u0 c_ h hn8=>Ab<|Ae (kQ h (fun _ h=>skW<|Ab<|Ad<|Ab<|An 16<|ds0 (.tree Yg pA) kr<|ds0 (an u0) kr (diH Yg h fun x14 _ h=>dsT 3 (diH Yg h fun x15 _ h=>ds0 (.agg [.str x15.1,.tree Y8 x15.2.1,ai x15.2.2.1,ai x15.2.2.2.1,tS x15.2.2.2.2]) kr (dcH h Vk fun y16 h=>ds0 (.bool<|!y16) kr<|Cb (Ar kr)<|tn_<|wr_ (kQ h (fun _ h=>Ae<|Ac<|br_<|tr_<|tr_<|br_<|tr_ (have h:=jO h hn8;(have h:=jO h hk6;jS h))) fun _ h=>Ax<|bn_<|tn_<|wr_<|Aa 19<|rsT 1 (raH h fun h=>rsT 1<|Ap<|tn_<|jL [])))))) fun _ h=>lxT (have h:=jO h hn8;jC []))) fun _ h=>Ae<|Ac<|jS h))
def Gf (a0:List (ByteArray×(List ZB)×Int×Int×LL)) (u0:Nat) (u1:List (ByteArray×Int×Int×List ZB)):Option (Ctl (Nat×(List (ByteArray×Int×Int×List ZB))) (List (ByteArray×Int×Int×List ZB))) :=
 cond (decide ((u0:Int)<(a0.length:Int)))
 ((a0[u0]?).bind fun x11 =>
 og (u1.length+1<=1073741824/\(u1.length+1)*56<=140737488355328) <|
 og (u0+1<4611686018427387904) <|
 some (.next (u0+1,u1++[(x11.1,x11.2.2.1,x11.2.2.2.1,x11.2.1)])))
 (some (.out u1))
def Di (a0:List (ByteArray×(List ZB)×Int×Int×LL)):Option (List (ByteArray×Int×Int×List ZB)) :=
 (Aq (fun s_:Nat×(List (ByteArray×Int×Int×List ZB))=>Gf a0 s_.1 s_.2) 4611686018427387904 (0,[])).bind fun u0 =>
some u0
def Qh (r:List (ByteArray×Int×Int×List ZB)):RV:=⟨false,[(false,[.imm (.tree Ye r)])]⟩
theorem Lv (h:Di pA=some nA):cK 55 [.tree Yg pA] (Qh nA):=by
 refine Ac8 kr Tryz.func55 (Cc kr) (fun nz_=>[.ftr nz_ Yg pA]) (n:=28) kr (fun _=>by simp) (fun _=>⟨_,_,rfl,rfl,rfl⟩) (tl:=fun nz_=>[(0,.ftr nz_ Yg pA)]) (fun _=>rfl) fun zn_ nz_ hz_=>Ae<|Ae (sqF h (fun u1=>sT [(3,.own (oi 0 1) Ye 0 u1.length)] [(oi 0 1,.tv 122 (some nz_) Ye u1)]) ?_ fun u1 h=>Ae<|Ac<|jZ h [(false,[.own (oi 0 1) Ye 0 u1.length])]<|Ol (Cd<|.tv (e:=122) kr rfl) Dd)
 intro _ h;refine Ae<|Ad<|lpF h (fun (u2,u0)=>sT [(3,.own (oi 0 1) Ye 0 u0.length),(6,.ftr nz_ Yg pA),(7,an pA.length),(8,an u2)] [(oi 0 1,.tv 122 (some nz_) Ye u0)]) ((Us 3 122 (some nz_) Ye kr).trans<|Ag [(oi 0 1,oi 3 6)]) ?_;rintro n_ ⟨u2,u0⟩ c_ h hn5;refine Ae<|Ab (kQ h (fun _ h=>skW<|Ab<|Ad<|Ab<|Aa 7 (riH Yg h fun x11 _ h=>rsB 3<|rnW<|Aa 22<|rsT 12<|I4 (.own (oi 24 19) Ye 0 1) (oi 24 19) (.vec 122 4 1<|tvC (some nz_) Ye<|[(x11.1,x11.2.2.1,x11.2.2.2.1,x11.2.1)]) trivial (C8 kr) ?_)) fun _ h=>lxT (have h:=jO h hn5;jE []));have ⟨g12,h⟩:=Al h;refine rs2 (.own (oi 0 20) Ye 0<|u0.length+1) (oi 0 1) (oi 0 20) (.vec 122 4 (u0.length+1)<|tvC (some nz_) Ye<|u0++[(x11.1,x11.2.2.1,x11.2.2.2.1,x11.2.1)]) (O4 (t':=Ye) (t:=Ye) (t2:=Ye) (e2:=122) (q:=oi 24 19) (m:=some nz_) (z:=(x11.1,x11.2.2.1,x11.2.2.2.1,x11.2.1)) (o:=oi 0 1) (xs:=u0) (len:=u0.length) kr kr rfl kr kr g12) (rsT 1<|Ap<|bn_<|tn_ ⟨_,Cn (N:=u0.length+1) (oi 0 20) 122 (some nz_) Ye (u0++[(x11.1,x11.2.2.1,x11.2.2.2.1,x11.2.1)]) kr fS,Aa 24 (raH h fun h=>rsT 1<|Ap<|tn_ ?_)⟩);cases h;exact jLw hn5<|(wL 3 (fS:u0.length+1=(u0++[(x11.1,x11.2.2.1,x11.2.2.2.1,x11.2.1)]).length)).trans<|Ag [(oi 0 1,oi 0 20)]
def Kx (a1:List (ByteArray×(List ZB)×Int×Int×LL)) (a0:Int) (u0:Nat):Option (Ctl Nat (Ctl Unit Bool)) :=
 cond (decide ((u0:Int)<(a1.length:Int)))
 ((a1[u0]?).bind fun x10 =>
 ((Ed a0 x10.1 x10.2.1 x10.2.2.1 x10.2.2.2.1 x10.2.2.2.2).bind fun y12 =>
  cond (!y12)
   (some true)
   (og ((0:Int)<=0/\0<=(u0:Int)/\(u0:Int)<=(a1.length:Int)/\(a1.length:Int)<=(a1.length:Int)) <|
   (Di (a1.take u0)).bind fun y15 =>
   (C4 y15 x10.1).bind fun y16 =>
   some (decide (0<=y16)))).bind fun u1 =>
 cond u1
  (some (.out (.out false)))
  (og (u0+1<4611686018427387904) <|
  some (.next (u0+1))))
 (some (.out (.next ())))
def O0 (a0:Int) (a1:List (ByteArray×(List ZB)×Int×Int×LL)):Option Bool :=
 Dj (Aq (fun s_:Nat=>Kx a1 a0 s_) 4611686018427387904 0) fun _ =>
((Gc a0).bind fun y21 =>
 cond y21
  (some (decide ((a1.length:Int)<=12)))
  (some false)).bind fun u0 =>
some u0
theorem Af8 (h:O0 bA pA=some cA):cK 52 [ai bA,.tree Yg pA] (Am cA):=by
 refine cO Tryz.func52<|Ae (sqC h (fun _=>sT [(0,ai bA),(1,.tree Yg pA)] []) ?_ fun _ h=>sqF h (fun u1=>sT [(4,.bool u1)] []) (fun _ h=>Aa 10<|rsT 1 (rcH h Ls fun y21 h=>rsT 1 (kR h 31 (fun _ h=>rsT 5<|Ap<|tn_<|jE []) fun _ h=>rsT 5<|Ap<|tn_<|jE []))) fun u1 h=>Ac<|jS h);intro _ h hk2;refine Ae<|Ad<|lpF h (fun u0=>sT [(0,ai bA),(1,.tree Yg pA),(7,.tree Yg pA),(8,an pA.length),(9,an u0)] []) (Ag []) ?_;intro n_ u0 c_ h hn4;refine Ae<|Ab (kQ h (fun _ h=>skW<|Ab<|Ad<|Ab<|Aa 9<|rsT 1 (riH Yg h fun x10 _ h=>rsB 4<|rnW (sqF h (fun u2=>sT [(0,ai bA),(1,.tree Yg pA),(7,.tree Yg pA),(8,an pA.length),(9,an u0),(27,.bool u2)] []) ?_ fun u2 h=>kQ h (fun _ h=>Ae<|Ac<|br_<|tr_<|tr_<|br_<|tr_ (have h:=jO h hn4;(have h:=jO h hk2;jS h))) fun _ h=>Ax<|bn_<|tn_<|wr_<|Aa 4 (raH h fun h=>rsT 1<|Ap<|tn_<|jL [])))) fun _ h=>lxT (have h:=jO h hn4;jC []));intro _ h;refine An 23<|dz0 (ai bA)<|dzl (.agg [.str x10.1,.tree Y8 x10.2.1,ai x10.2.2.1,ai x10.2.2.2.1,tS x10.2.2.2.2]) (dcH h Acl fun y12 h=>dz0 (.bool<|!y12)<|dz0 (.bool<|!y12) ?_);rcases A3 h with ⟨q13,h⟩|⟨q13,h⟩
 ·exact dq 18 q13<|dsT 9<|Cb (Ar kr)<|tn_<|jE []
 refine dq 18 q13<|dz0 (.tree Yg pA)<|dz0 (an u0) ?_;have ⟨g14,h⟩:=Al h;have ⟨y15,h15,h⟩:=Ah h;have ⟨y16,h16,h⟩:=Ah h;exact ds0 (.tree Yg<|pA.take u0) (Ac3 (t:=Yg) (xs:=pA) (zs:=pA.take u0) (l:=0) (h:=(u0:Int)) (m:=(pA.length:Int)) kr kr kr kr rfl g14 rfl)<|Ah2 (.tree Ye y15) [] [.tree Yg (pA.take u0)] _ (caps:=[]) (Aeg kr) (Lv h15) kr<|dz0 (.box (oi 6 6) 0)<|dzl (.str x10.1)<|Ou (ai y16) [] [.tree Ye y15,.str x10.1] _ (caps:=[]) (args0:=[.tree Ye y15,.str x10.1]) (Aeg kr) kr (P6 h16) kr<|dz0 (.bool<|decide (0<=y16))<|dz0 (.bool<|decide (0<=y16))<|Cb (Ar kr)<|tn_<|jE []
def En (a1:List (ByteArray×(List ZB)×Int×Int×LL)) (a0:Int) (u0:Nat) (u1:List (Int×Bool)):Option (Ctl (Nat×(List (Int×Bool))) (Ctl Unit Bool)) :=
 cond (decide ((u0:Int)<(a1.length:Int)))
 ((a1[u0]?).bind fun x17 =>
 ((Fi a0 x17.1 x17.2.1 x17.2.2.1 x17.2.2.2.1 x17.2.2.2.2).bind fun y20 =>
  cond (!y20)
   (some true)
   (og (x17.1.size<=maxLen) <|
   some ((D9 u1 (Gs x17.1)).getD false))).bind fun u2 =>
 cond u2
  (some (.out (.out false)))
  (og (x17.1.size<=maxLen/\u1.length<1073741824) <|
  og (u0+1<4611686018427387904) <|
  some (.next (u0+1,Nz u1 (Gs x17.1) true))))
 (some (.out (.next ())))
def F2 (a0:Int) (a1:List (ByteArray×(List ZB)×Int×Int×LL)):Option Bool :=
 ((Fq a0).bind fun y4 =>
 cond (!y4)
  (some true)
  (some (decide (12<(a1.length:Int))))).bind fun u0 =>
cond u0
 (some false)
 (Dj (Aq (fun s_:Nat×(List (Int×Bool))=>En a1 a0 s_.1 s_.2) 4611686018427387904 (0,[])) fun _ =>
 some true)
theorem Te (h:F2 bA pA=some cA):cK 61 [ai bA,.tree Yg pA] (Am cA):=by
 refine cO Tryz.func61<|Ae<|Ab<|sqF h (fun u2=>sT [(0,ai bA),(1,.tree Yg pA),(15,.bool u2)] []) (fun _ h=>Aa 10<|rsT 1 (rcH h Og fun y4 h=>rsT 2 (kR h 11 (fun _ h=>rsT 4<|Ap<|tn_<|jE []) fun _ h=>rsT 4<|Ap<|tn_<|jE []))) ?_;intro u2 h;refine kQ h (fun _ h=>Ae<|Ac<|tr_<|jS h) fun _ h=>skW<|Ae (sqC h (fun _=>sT [] []) ?_ fun _ h=>Ae<|Ac<|jS h)
 intro _ h hk9;refine Ae<|Ad<|lpF h (fun (u1,u0)=>sT [(0,ai bA),(5,.mp<|oi 0 1),(17,.tree Yg pA),(18,an pA.length),(19,an u1)] [(oi 0 1,.map 133 .bool u0)]) (Ag [(oi 0 1,oi 16 2)]) ?_;rintro n_ ⟨u1,u0⟩ c_ h hn11;refine Ae<|Ab (kQ h (fun _ h=>skW<|Ab<|Ad<|Ab<|Aa 7 (riH Yg h fun x17 _ h=>rsB 3<|rnW<|Ab<|sqF h (fun u3=>sT [(0,ai bA),(5,.mp<|oi 0 1),(7,.box (oi 1 1) 0),(17,.tree Yg pA),(18,an pA.length),(19,an u1),(32,.bool u3)] [(oi 0 1,.map 133 .bool u0),(oi 1 1,.cells 51 [.str x17.1,.tree Y8 x17.2.1,ai x17.2.2.1,ai x17.2.2.2.1,tS x17.2.2.2.2])]) ?_ ?_)) fun _ h=>lxT (have h:=jO h hn11;jC []))
 ·intro _ h;refine Aa 17<|rsT 2 (rcH h Vo fun y20 h=>rsT 2 ?_);rcases A3 h with ⟨q21,h⟩|⟨q21,h⟩
  ·exact rq 27 q21<|rsT 5<|Ap<|tn_<|jE [(oi 1 1,oi 7 5)]
  refine rq 27 q21<|rsT 3 ?_;have ⟨g22,h⟩:=Al h;exact rsl (.bool<|(D9 u0<|Gs x17.1).getD false) (Auw (oi 0 1) (t:=.bool) (es:=u0) (k:=x17.1) kr kr kr g22)<|rsT 1<|Ap<|tn_<|jE [(oi 1 1,oi 7 5)]
 intro u3 h;refine kQ h (fun _ h=>Ae<|Ac<|tr_<|br_<|tr_<|tr_<|br_<|tr_ (have h:=jO h hn11;(have h:=jO h hk9;jS h))) fun _ h=>skW<|Aa 6<|rsT 3 ?_
 have ⟨g25,h⟩:=Al h;exact Ak9 (oi 0 1) (oi 0 1) (.map 133 .bool<|Nz u0 (Gs x17.1) true) (Aw1 (es:=u0) (k:=x17.1) (nv:=true) kr kr kr kr g25)<|Ap<|bn_<|tn_<|wr_<|Aa 8 (raH h fun h=>rsT 1<|Ap<|tn_<|jL [])
end Go.Proofs.YthlpchhhinipaaaGreatDoor
namespace Go.Proofs.YthlpchhhinipaaaGreatDoor
open Go.RowKit Go.Deep List
abbrev Cp:=ByteArray×List Nd×Int×Int×ZA
abbrev Df:=ByteArray×Int×Int×List Nd
def Vl (x:Cp):Prop:=x.2.1.length<=1048576/\x.2.2.2.2.length<=1048576/\Id 1048576 x.2.2.2.2
noncomputable def V3 (p:Int) (x:Cp):Bool:=(Ed p x.1 x.2.1 x.2.2.1 x.2.2.2.1 x.2.2.2.2).getD false
theorem Aob {p:Int} {x:Cp} (h:Vl x):Ed p x.1 x.2.1 x.2.2.1 x.2.2.2.1 x.2.2.2.2=some (V3 p x)/\Fi p x.1 x.2.1 x.2.2.1 x.2.2.2.1 x.2.2.2.2=some (V3 p x):=by
 have ⟨v,h1,h2⟩:=A0c p x.1 x.2.1 x.2.2.1 x.2.2.2.1 x.2.2.2.2 (by have:=h.1;omega) h.2.1 h.2.2;have e:V3 p x=v:=by unfold V3;rw [h1];rfl
 rw [e];exact ⟨h1,h2⟩
theorem Zn (l:List Cp) (hl:l.length<=1048576):Di l=some (l.map fun x=>((x.1,x.2.2.1,x.2.2.2.1,x.2.1):Df)):=by
 unfold Di
 have key:Aq (fun s_:Nat×List Df=>Gf l s_.1 s_.2) 4611686018427387904 (0,[])=some ([]++l.map fun x=>((x.1,x.2.2.1,x.2.2.2.1,x.2.1):Df)):=by
  refine Dh l (fun x=>((x.1,x.2.2.1,x.2.2.2.1,x.2.1):Df)) [] oM _ (fun j x h=>?_) ?_
  ·have:=Ai h
   try dsimp only
   unfold Gf;rw [Au oM,fZ,h,obs,Af sO,Af oM]
  ·try dsimp only
   unfold Gf;rw [At oM,fY]
 rw [key];rfl
theorem Azt (l:List Df) (hl:l.length<=1048576) (s:ByteArray):∃ k:Int,C4 l s=some k/\decide (0<=k)=l.any fun d=>d.1.toList==s.toList:=by
 unfold C4
 have hs:∀ i x,l[i]? =some x->Cy l s i=some (if x.1.toList==s.toList then Ctl.out (Ctl.out (i:Int)) else Ctl.next (i+1)):=fun i x h=>by
  have:=Ai h;unfold Cy;rw [Au oM,fZ,h,obs,Af oM];cases x.1.toList==s.toList <;> rfl
 have he:Cy l s l.length=some (Ctl.out<|Ctl.next ()):=by
  unfold Cy;rw [At oM,fY]
 rcases Pa (body:=fun s_:Nat=>Cy l s s_) l (fun x=>x.1.toList==s.toList) (Ctl.next ()) (fun i=>Ctl.out (i:Int)) (F:=4611686018427387904) oM hs he with ⟨h1,i,hi,h2⟩|⟨h1,h2⟩
 ·rw [h2,h1];exact ⟨_,rfl,Au oM⟩
 ·rw [h2,h1];exact ⟨_,rfl,rfl⟩
noncomputable def okL (p:Int):List ByteArray->List Cp->Bool
 | _,[]=>true
 | seen,x :: r=>(V3 p x&& !(seen.any fun n=>n.toList==x.1.toList))&&okL p (seen++[x.1]) r
theorem Xu {p:Int} {l:List Cp} {k:Nat} {x:Cp} (h:l[k]? =some x):okL p ((l.take k).map (·.1)) (l.drop k)=((V3 p x&& !(((l.take k).map (·.1)).any fun n=>n.toList==x.1.toList))&&okL p ((l.take (k+1)).map (·.1)) (l.drop (k+1))):=by
 obtain ⟨hk,e⟩:=gSi.1 h;rw [drop_eq_getElem_cons hk,take_add_one,h,e,map_append];rfl
theorem Av9 {p:Int} {l:List Cp} (hl:l.length<=1048576) (hc:∀ x∈l,Vl x):O0 p l=some (okL p [] l&&(isF p&&decide (((l.length:Nat):Int)<=12))):=by
 unfold O0
 have key:Aq (fun s_:Nat=>Kx l p s_) 4611686018427387904 0=some (if okL p [] l then Ctl.next () else Ctl.out false):=by
  refine Hr l.length (fun k s=>s=k/\okL p [] l=okL p ((l.take k).map (·.1)) (l.drop k)) oM _ ⟨rfl,rfl⟩ ?_ ?_
  ·rintro k s hk ⟨hs,he⟩;subst hs;have hx:=gEg hk;have hst:=Xu (p:=p) hx;obtain ⟨g,_⟩:=Aob (p:=p) (hc _ (getElem_mem hk));obtain ⟨j,hj,hj2⟩:=Azt ((l.take s).map fun x=>((x.1,x.2.2.1,x.2.2.2.1,x.2.1):Df)) (by simp;omega) l[s].1
   have e2:((l.take s).map fun x=>((x.1,x.2.2.1,x.2.2.2.1,x.2.1):Df)).any (fun d=>d.1.toList==l[s].1.toList)=(((l.take s).map (·.1)).any fun n=>n.toList==l[s].1.toList):=by
    rw [any_map,any_map];rfl
   unfold Kx;rw [Au oM,cond_true,hx,obs,g,obs];rw [hst] at he;cases hg:V3 p l[s]
   ·refine .inr ?_;rw [he,hg];rfl
   rw [Bool.not_true,cond_false,Af oM,Zn _ (by simp;omega),obs,hj,obs,obs,hj2,e2,Af oM];rw [hg,Bool.true_and] at he;cases hd:((l.take s).map (·.1)).any fun n=>n.toList==l[s].1.toList
   ·refine .inl ⟨s+1,rfl,rfl,?_⟩;rw [he,hd];rfl
   ·refine .inr ?_;rw [he,hd];rfl
  ·rintro s ⟨hs,he⟩;subst hs;rw [drop_length] at he;rw [he];unfold Kx;rw [At oM,cond_false];rfl
 rw [key,Tt];cases okL p [] l
 ·rfl
 ·cases isF p <;> rfl
theorem Ar7 {es:List (Int×Bool)} {k:Int} {v:Bool}:(Nz es k v).length<=es.length+1:=by
 unfold Nz Ru;rw [length_cons];have:=length_filter_le (fun e:Int×Bool=> !(e.1==k)) es;omega
theorem Atp {p:Int} {l:List Cp} (hl:l.length<=1048576) (hc:∀ x∈l,Vl x) (hn:∀ x∈l,x.1.size<=maxLen):F2 p l=some (okL p [] l&&(isF p&&decide (((l.length:Nat):Int)<=12))):=by
 unfold F2;rw [show Fq p=some (isF p) from rfl,obs];cases isF p
 ·rw [Bool.false_and,Bool.and_false];rfl
 rw [Bool.not_true,cond_false,obs,Bool.true_and];by_cases h12:((l.length:Nat):Int)<=12
 ·rw [At (show ¬ 12<((l.length:Nat):Int) by omega),cond_false,Au h12,Bool.and_true]
  have key:Aq (fun s_:Nat×List (Int×Bool)=>En l p s_.1 s_.2) 4611686018427387904 (0,[])=some (if okL p [] l then Ctl.next () else Ctl.out false):=by
   refine Hr l.length (fun k s=>∃ es,s=(k,es)/\okL p [] l=okL p ((l.take k).map (·.1)) (l.drop k)/\es.length<=k/\∀ s:ByteArray,(D9 es (Gs s)).getD false=((l.take k).map (·.1)).any fun n=>n.toList==s.toList) oM _ ⟨[],rfl,rfl,Nat.le_refl _,fun _=>rfl⟩ ?_ ?_
   ·rintro k s hk ⟨es,rfl,he,hes,hm⟩;have hx:=gEg hk;have hst:=Xu (p:=p) hx;have hmem:=getElem_mem hk;obtain ⟨_,g⟩:=Aob (p:=p) (hc _ hmem);have hsz:=hn _ hmem;generalize l[k]=x at *
    try dsimp only
    unfold En;rw [Au oM,cond_true,hx,obs,g,obs];rw [hst] at he;cases hg:V3 p x
    ·refine .inr ?_;rw [he,hg];rfl
    rw [Bool.not_true,cond_false,Af hsz,obs,hm,Af ⟨hsz,by omega⟩,Af oM];rw [hg,Bool.true_and] at he;cases hd:((l.take k).map (·.1)).any fun n=>n.toList==x.1.toList
    ·refine .inl ⟨(k+1,Nz es (Gs x.1) true),rfl,_,rfl,by rw [he,hd];rfl,Nat.le_trans Ar7 oM,fun s=>?_⟩;rw [take_add_one,hx,map_append,any_append];by_cases e:s=x.1
     ·subst e;rw [Nm];show true=_;simp
     ·have e':Gs s≠Gs x.1:=fun h=>e (Aec h)
      rw [Lt e',hm]
      have:(x.1.toList==s.toList)=false:=by
       rw [Auh,beq_eq_false_iff_ne];intro h
       exact e (by
        have:=Array.toList_inj.1 h;cases s;cases hx1:x.1;rw [hx1] at this;exact congrArg ByteArray.mk this.symm)
      simp [this]
    ·refine .inr ?_;rw [he,hd];rfl
   ·rintro s ⟨es,rfl,he,_,_⟩;rw [drop_length] at he;rw [he]
    try dsimp only
    unfold En;rw [At oM,cond_false];rfl
  rw [key];cases okL p [] l <;> rfl
 ·rw [Au (show 12<((l.length:Nat):Int) by omega),At h12,Bool.and_false];rfl
theorem Awr (l:List Cp) (hl:l.length<=1048576) (hc:∀ x∈l,Vl x):J7 l l=some true:=by
 unfold J7;rw [bne_self_eq_false,fY]
 have h:Aq (fun s_:Nat=>E8 l l s_) 4611686018427387904 0=some (Ctl.next ()):=by
  refine Bg l.length (fun i=>i) oM _ rfl (fun i hi=>?_) ?_
  ·have hx:=gEg hi;have hk:=hc _<|getElem_mem hi
   try dsimp only
   unfold E8;rw [Au oM,fZ,hx,obs,obs,Aga _ _ _ _ _ hk.1 hk.2.1 hk.2.2,obs,fD,fY,Af oM]
  ·try dsimp only
   unfold E8;rw [At oM,fY]
 rw [h];rfl
def A0m (x:Cp):Prop:=x.1.size<=9223372036854775807/\x.2.1.length<=9223372036854775807/\(∀ n∈x.2.1,n.2.2.size<=9223372036854775807)/\x.2.2.2.2.length<=9223372036854775807/\Id 9223372036854775807 x.2.2.2.2
theorem Av7 (l:List Cp) {v:Int} (hv:0<=v/\v<=1048576) (hl:l.length<=9223372036854775807) (hi:∀ x∈l,A0m x):∃ y,Gg l v=some y/\(y<0∨(0<=y/\y<=v/\l.length<=1048576/\∀ x∈l,Vl x)):=by
 unfold Gg;rw [Bj (n:=v - ((l.length:Nat):Int)) oM oM];by_cases h:v - ((l.length:Nat):Int)<0
 ·rw [Au h];exact ⟨_,rfl,.inl oM⟩
 rw [At h,cond_false]
 have key:∃ c,Aq (fun s_:Int×Nat=>E4 l s_.1 s_.2) 4611686018427387904 (v - ((l.length:Nat):Int),0)=some c/\((∃ y,c=Ctl.next y/\0<=y/\y<=v/\∀ x∈l,Vl x)∨∃ y,c=Ctl.out y/\y<0):=by
  refine I5 (Post:=fun c=>(∃ y,c=Ctl.next y/\0<=y/\y<=v/\∀ x∈l,Vl x)∨∃ y,c=Ctl.out y/\y<0) l.length (fun k s=>s.2=k/\0<=s.1/\s.1<=v/\∀ x∈l.take k,Vl x) oM ⟨rfl,by dsimp only;omega,by dsimp only;omega,by simp⟩ ?_ ?_
  ·rintro k ⟨y,k'⟩ hk ⟨h1,h2,h3,h4⟩;dsimp only at h1 h2 h3;subst h1;have hn:=gEg hk;obtain ⟨z1,z2,z3,z4,z5⟩:=hi _ (getElem_mem hk);obtain ⟨y',hy,hq⟩:=Af2 l[k'].1 l[k'].2.1 l[k'].2.2.1 l[k'].2.2.2.1 l[k'].2.2.2.2 (v:=y) oM z1 z2 z3 z4 z5
   try dsimp only
   unfold E4;rw [Au oM,cond_true,hn,obs,hy,obs];rcases hq with hq|⟨q1,q2,q3,q4,q5⟩
   ·rw [Au hq];exact .inr ⟨_,rfl,.inr ⟨_,rfl,by omega⟩⟩
   ·rw [At oM,cond_false,Af oM];refine .inl ⟨_,rfl,rfl,by dsimp only;omega,by dsimp only;omega,fun x hx=>?_⟩;rw [take_add_one,hn] at hx;rcases mem_append.1 hx with hx|hx
    ·exact h4 x hx
    ·obtain rfl:=mem_singleton.1 hx;exact ⟨q3,q4,q5⟩
  ·rintro ⟨y,k'⟩ ⟨h1,h2,h3,h4⟩;dsimp only at h1 h2 h3;subst h1;rw [take_length] at h4
   try dsimp only
   unfold E4;rw [At oM,cond_false];exact ⟨_,rfl,.inl ⟨_,rfl,h2,h3,h4⟩⟩
 obtain ⟨c,hc,⟨y,rfl,h1,h2,h3⟩|⟨y,rfl,h1⟩⟩:=key
 ·rw [hc];exact ⟨_,rfl,.inr ⟨h1,h2,by omega,h3⟩⟩
 ·rw [hc];exact ⟨_,rfl,.inl h1⟩
theorem Aw6 {R:NP} {w:World} {t:Ty} {A:Option Addr} {c:Nat} {xs:List t.D} {l:List Addr} (h:Sl R w t A c xs l):∀ x∈xs,∃ a l',Ty.Mem R w t a x l':=by
 obtain ⟨_,_,f,_,h4⟩:=h;intro x hx;obtain ⟨i,hi,rfl⟩:=getElem_of_mem hx;obtain ⟨_,_,_,h5⟩:=h4 oM;exact ⟨_,_,h5 i hi⟩
theorem Avq {R:NP} {w:World} {A:Option Addr} {c:Nat} {xs:List Cp} {l:List Addr} (h:Sl R w (.pair .str (.pair (.slice (.pair .int (.pair .int .str))) (.pair .int (.pair .int (.slice (.slice .int)))))) A c xs l) (hi:Ty.In (.slice (.pair .str (.pair (.slice (.pair .int (.pair .int .str))) (.pair .int (.pair .int (.slice (.slice .int))))))) xs):∀ x∈xs,A0m x:=by
 intro x hx;have ⟨a,l',_,_,_,⟨_,_,⟨A1,c1,_,h1⟩,⟨_,_,_,⟨_,_,_,⟨A2,c2,_,h2⟩,_⟩,_⟩,_⟩,_⟩:=Aw6 h x hx;have i0:=hi x hx;exact ⟨Nat.le_trans i0.1 (by decide),(P7 h1).2,fun n hn=>Nat.le_trans (i0.2.1 n hn).2.2 (by decide),(P7 h2).2,Awn h2⟩
end Go.Proofs.YthlpchhhinipaaaGreatDoor
namespace Go.Proofs.YthlpchhhinipaaaGreatDoor
open Go.RowKit Go.Deep List
abbrev Tz:Ty:=.pair .int (.pair .int .str)
abbrev Adw:Ty:=.pair .str (.pair (.slice Tz) (.pair .int (.pair .int (.slice (.slice .int)))))
theorem Abm {R R':NP} (x0:ByteArray) (x1:List Nd) (A1:Option Addr) (c1:Nat) (l1:List Addr) (x2 x3:Int) (x4:ZA) (A4:Option Addr) (c4:Nat) (l4:List Addr) (w:World) (s1:Sl R w Tz A1 c1 x1 l1) (s4:Sl R' w (.slice .int) A4 c4 x4 l4) (hc:Vl (x0,x1,x2,x3,x4)) (tab:Tab w) :
  Calls Tryz.prog 23 #[.agg #[.string x0,.slice A1 x1.length c1,.int .i64 x2,.int .i64 x3,.slice A4 x4.length c4]] w fun e w'=>∃ B1 d1 m1 B4 d4 m4,e=.returned (.agg #[.string x0,.slice B1 x1.length d1,.int .i64 x2,.int .i64 x3,.slice B4 x4.length d4])/\Sl (Lp w.heap.size) w' Tz B1 d1 x1 m1/\Sl (Lp w.heap.size) w' (.slice .int) B4 d4 x4 m4/\Fresh w' w.heap.size (m1++m4)/\Below w.heap.size w w':=by
 refine (U9 (vs:=[.agg #[.string x0,.slice A1 x1.length c1,.int .i64 x2,.int .i64 x3,.slice A4 x4.length c4]]) (Vq<|Af1 x0 x1 x2 x3 x4 hc.1 hc.2.1 hc.2.2) (fun w' hb=>tab.below hb) ⟨_,_,rfl,⟨_,rfl,⟨_,_,rfl,rfl,⟨_,_,rfl,⟨A1,c1,l1,rfl,K9 s1⟩,⟨_,_,rfl,rfl,⟨_,_,rfl,rfl,⟨_,_,rfl,⟨A4,c4,l4,rfl,K9 s4⟩,rfl⟩⟩⟩⟩⟩⟩,rfl⟩).mono ?_;rintro e w' ⟨u,rfl,hb,C',hm,hv⟩;obtain ⟨vs,rfl,v0,_,rfl,rfl,v1,_,rfl,h1,v2,_,rfl,rfl,v3,_,rfl,rfl,v4,_,rfl,h4,rfl⟩:=hv;obtain ⟨B1,d1,m1,rfl,t1,f1⟩:=Agj hm rfl h1;obtain ⟨B4,d4,m4,rfl,t4,f4⟩:=Zc hm rfl (fun k xs hx=>Aeu hx rfl) h4;exact ⟨B1,d1,m1,B4,d4,m4,rfl,t1,t4,(f1.append hm f4 (by rintro i rfl ⟨k,e⟩;cases e)).fresh,hb⟩
theorem At5 {R:NP} {w:World} {A:Option Addr} {c:Nat} {xs:List Cp} {l:List Addr} (h:Sl R w Adw A c xs l) (h0:0<xs.length) :
  ∃ (b o:Nat) (f:Nat->List Addr),A=some ⟨b,o,none⟩/\l=(range xs.length).flatMap f/\∀ (k:Nat) (hk:k<xs.length),∃ A1 c1 l1 A4 c4 l4,
   w.cell? ⟨b,o+k*5,none⟩=some (.string xs[k].1)/\w.cell? ⟨b,o+k*5+1,none⟩=some (.slice A1 xs[k].2.1.length c1)/\w.cell? ⟨b,o+k*5+2,none⟩=some (.int .i64 xs[k].2.2.1)/\w.cell? ⟨b,o+k*5+3,none⟩=some (.int .i64 xs[k].2.2.2.1)/\w.cell? ⟨b,o+k*5+4,none⟩=some (.slice A4 xs[k].2.2.2.2.length c4) /\
   Sl R w Tz A1 c1 xs[k].2.1 l1/\Sl R w (.slice .int) A4 c4 xs[k].2.2.2.2 l4/\f k=⟨b,o+k*5,none⟩ :: (l1++⟨b,o+k*5+2,none⟩ :: ⟨b,o+k*5+3,none⟩ :: l4):=by
 obtain ⟨b,o,f,rfl,hr,_,e,hf⟩:=Au0 h h0;refine ⟨b,o,f,rfl,e,fun k hk=>?_⟩;obtain ⟨_,_,⟨h0,rfl⟩,⟨l1,_,⟨A1,c1,h1,s1⟩,⟨_,_,⟨h2,rfl⟩,⟨_,l4,⟨h3,rfl⟩,⟨A4,c4,h4,s4⟩,rfl⟩,rfl⟩,rfl⟩,e⟩:=hf k hk;simp only [Ck,Ty.size,Nat.reduceAdd] at h0 h1 h2 h3 h4 e;exact ⟨A1,c1,l1,A4,c4,l4,h0,h1,by simpa [Nat.add_assoc] using h2,by simpa [Nat.add_assoc] using h3,by simpa [Nat.add_assoc] using h4,s1,s4,by simpa [Nat.add_assoc] using e⟩
set_option maxHeartbeats 1000000 in
theorem Jf {R:NP} (xs:List Cp) (A:Option Addr) (c:Nat) (l:List Addr) (w:World) (h:Sl R w Adw A c xs l) (hn:xs.length<=1048576) (hc:∀ x∈xs,Vl x) (tab:Tab w) :
  Calls Tryz.prog 9 #[.slice A xs.length c] w fun e w'=>∃ g c' l',e=.returned (.slice (some ⟨g,0,none⟩) xs.length c')/\Sl (Lp w.heap.size) w' Adw (some ⟨g,0,none⟩) c' xs l'/\Fresh w' w.heap.size l'/\Below w.heap.size w w':=by
 have hmk:=fun W=>Agh (P:=Tryz.prog) 33 51 #[.string ⟨#[]⟩,.slice none 0 0,.int .i64 0,.int .i64 0,.slice none 0 0] 5 80 Tryz.underlying33 (by kernel_rfl) .i64 .i64 xs.length oM oM W
 go_enter Tryz.func9,Tryz.ntmps9
 go_wp2
 go_loopw [4] (fun i wr=>∃ k:Nat,k<=xs.length/\i=.int .i64 k/\LaidV w.heap.size 51 Adw xs.length k xs wr/\Below w.heap.size w wr) (fun i _=>xs.length - (intOf i).toNat)
 case atStart=>exact ⟨0,by omega,rfl,LaidV.start (Akg w #[.string ⟨#[]⟩,.slice none 0 0,.int .i64 0,.int .i64 0,.slice none 0 0] (xs.length*5) 51),by repeat (first|with_reducible exact Below.refl _ _|((with_reducible refine Below.setCell ?_ ?_ _);rotate_left;focus (first|(simp;done)|omega|(simp;omega)))|((with_reducible refine Below.alloc ?_ ?_ _);rotate_left;focus (first|(simp;done)|omega|(simp;omega)))|(with_reducible refine Below.drew ?_)|(with_reducible refine below_draws_ ?_ _))⟩
 case round =>
  obtain ⟨k,hk,rfl,hL,hbl⟩:=hrel;by_cases hlt:k<xs.length
  ·obtain ⟨b,o,f,rfl,_,hs⟩:=At5 h oM;obtain ⟨A1,c1,l1,A4,c4,l4,e0,e1,e2,e3,e4,s1,s4,_⟩:=hs k hlt;have hok:=hc xs[k] (getElem_mem hlt);obtain ⟨⟨x0,x1,x2,x3,x4⟩,hx⟩:∃ x,x=xs[k]:=⟨_,rfl⟩
   rw [← hx] at e0 e1 e2 e3 e4 s1 s4 hok;have d0:=A6 hbl e0;have d1:=A6 hbl e1;have d2:=A6 hbl e2;have d3:=A6 hbl e3;have d4:=A6 hbl e4;have hg:=hL.lt;have hX:=Lib.hid hx;have hH:=Lib.hid hL
   clear hs e0 e1 e2 e3 e4 hx hL
   dsimp only at s1 s4 d0 d1 d2 d3 d4
   go_wp2_with fail
   refine (Abm x0 x1 A1 c1 l1 x2 x3 x4 A4 c4 l4 _ (by exact Bd s1 hbl) (by exact Bd s4 hbl) hok (by exact tab.below hbl)).mono ?_;rintro e w1 ⟨B1,q1,m1,B4,q4,m4,rfl,t1,t4,f1,hb1⟩;have hL1:=hH.out.below hb1;obtain ⟨F,hrow⟩:=hL1.row;simp only [Ty.size,Nat.reduceAdd] at hrow;obtain ⟨v0,c0⟩:∃ v,w1.cell? ⟨w.heap.size,k*5,none⟩=some v:=⟨_,hrow.cell oM⟩
   have f0:=hrow.frozen (k*5);obtain ⟨v1,c1'⟩:∃ v,w1.cell? ⟨w.heap.size,k*5+1,none⟩=some v:=⟨_,hrow.cell oM⟩
   have f1':=hrow.frozen (k*5+1);obtain ⟨v2,c2'⟩:∃ v,w1.cell? ⟨w.heap.size,k*5+2,none⟩=some v:=⟨_,hrow.cell oM⟩
   have f2':=hrow.frozen (k*5+2);obtain ⟨v3,c3'⟩:∃ v,w1.cell? ⟨w.heap.size,k*5+3,none⟩=some v:=⟨_,hrow.cell oM⟩
   have f3':=hrow.frozen (k*5+3);obtain ⟨v4,c4'⟩:∃ v,w1.cell? ⟨w.heap.size,k*5+4,none⟩=some v:=⟨_,hrow.cell oM⟩
   have f4':=hrow.frozen (k*5+4)
   have hS:=Lib.hid (hH.out.step (cs:=[.string x0,.slice B1 x1.length q1,.int .i64 x2,.int .i64 x3,.slice B4 x4.length q4]) (l:=m1++m4) hb1 hlt (by
    rw [← hX.out];exact ⟨[_],_,[],_,rfl,⟨rfl,rfl⟩,⟨[_],_,m1,_,rfl,⟨B1,q1,rfl,t1⟩,⟨[_],_,[],_,rfl,⟨rfl,rfl⟩,⟨[_],_,[],_,rfl,⟨rfl,rfl⟩,⟨B4,q4,rfl,t4⟩,rfl⟩,rfl⟩,rfl⟩,rfl⟩) f1)
   clear hrow hL1 t1 t4 f1
   go_wp2
   go_roundw
   case rel =>
    refine ⟨k+1,by omega,by go_num,hS.out,?_⟩;exact Xp (Nat.le_refl _) (vs:=[.string x0,.slice B1 x1.length q1,.int .i64 x2,.int .i64 x3,.slice B4 x4.length q4]) (o:=k*5) (hbl.trans (hb1.mono hbl.size))
   case measure=>simp [intOf];omega
  ·obtain rfl:k=xs.length:=by omega
   go_wp2
   go_ret
   obtain ⟨l',hs,hf⟩:=hL.done rfl (by simp only [maxLen];omega) (lo:=w.heap.size) (Nat.le_refl _);exact ⟨_,_,l',rfl,hs,hf,hbl⟩
set_option maxRecDepth 100000 in
set_option maxHeartbeats 1000000 in
theorem Wc {R:NP} (xs:List Cp) (A:Option Addr) (c:Nat) (l:List Addr) (k:Int) (lo:Nat) (w:World) (h:Sl R w Adw A c xs l) (hf:Fresh w lo l) (hk:0<=k/\k+l.length<=9223372036854775807) {w0:World} (tab:Tab w0) (hb0:Below w0.heap.size w0 w) (hlo:w0.heap.size<=lo) :
  Calls Tryz.prog 15 #[.slice A xs.length c,.int .i64 k] w fun e w'=>e=.returned (.int .i64 (k+l.length))/\MarkedAs l k w w':=by
 have hn:=(P7 h).2;have hTb:∀ (F:List Addr) (w':World),(∀ p∈F,lo<=p.block)->MarkedAs F k w w'->Below w0.heap.size w0 w':=fun F w' hF m=>hb0.trans (m.belowAt (fun p hp=>Nat.le_trans hlo (hF p hp)) hb0.size)
 rcases Nat.eq_zero_or_pos xs.length with h0|h0
 ·obtain rfl:xs=[]:=length_eq_zero_iff.1 h0;obtain ⟨_,_,f,rfl,_⟩:=h
  go_enter Tryz.func15,Tryz.ntmps15
  go_wp2
  go_loopw [1,5] (fun m i wr=>i=.int .i64 0/\m=.int .i64 k/\wr=w) (fun _ i _=>0)
  case atStart=>exact ⟨rfl,rfl,rfl⟩
  case round =>
   obtain ⟨rfl,rfl,rfl⟩:=hrel
   go_wp2
   go_ret
   exact ⟨Vg (by simp),MarkedAs.nil _ k⟩
 obtain ⟨b,o,f,rfl,rfl,hs⟩:=At5 h h0
 go_enter Tryz.func15,Tryz.ntmps15
 go_wp2
 go_loopw [1,5] (fun m i wr=>∃ (j:Nat) (F:List Addr),Hid (F=(range j).flatMap f)/\j<=xs.length/\i=.int .i64 j/\m=.int .i64 (k+F.length)/\MarkedAs F k w wr) (fun _ i _=>xs.length - (intOf i).toNat)
 case atStart=>exact ⟨0,[],rfl,by omega,rfl,by simp,MarkedAs.nil w k⟩
 case round =>
  obtain ⟨j,F,hFe,hj,rfl,rfl,hm⟩:=hrel;by_cases hlt:j<xs.length
  ·obtain ⟨A1,c1,l1,A4,c4,l4,e0,e1,e2,e3,e4,s1,s4,hfj⟩:=hs j hlt;obtain ⟨r,hr⟩:=T2 f hlt;rw [← hFe.out,hfj] at hr;have hk2:=hk;have g0:=hf;rw [hr] at g0 hk2;simp only [length_append,length_cons] at hk2;simp only [cons_append,append_assoc] at g0;have hlob:∀ p∈F,lo<=p.block:=fun p hp=>(g0.2 p (mem_append_left _ hp)).1
   have d1:=hm.header e1;obtain ⟨x,hx⟩:∃ x,x=xs[j]:=⟨_,rfl⟩
   rw [← hx] at e0 e1 e2 e3 e4 s1 s4 d1;have HS:=Lib.hid hs;have HG:=Lib.hid g0;have HM:=Lib.hid hm
   clear hs hm g0 hr hx hf hk h
   go_wp2_with fail
   refine (Xd (k+F.length) oM _ (tab.below (hTb _ _ hlob HM.out))).mono ?_;rintro e w1 ⟨rfl,hb1⟩;have m1:=HM.out.below hb1;obtain ⟨z0,y0⟩:=m1.spot HG.out e0;have m2:=m1.put HG.out e0 trivial (v:=.string (Am1 (k+F.length))) rfl;have G1:=HG.out.next1;have d2:=m2.header e1;have t1:=m2.sl_ G1 s1;have f1:=m2.rest G1;have HM2:=Lib.hid m2
   clear m1 m2
   go_wp2_with fail
   refine (Vw x.2.1 A1 c1 l1 (k+F.length+1) lo _ t1 f1 oM tab (hTb _ _ (fun p hp=>(G1.2 p (mem_append_left _ hp)).1) HM2.out) hlo).mono ?_;rintro e w2 ⟨rfl,m3⟩;have m4:=HM2.out.then_ G1 (by simp;omega) m3;have G2:=G1.next;obtain ⟨z2,y2⟩:=m4.spot G2 e2;have m5:=m4.put G2 e2 trivial (v:=.int .i64 (k+F.length+1+l1.length)) (by simp only [V0,length_append,length_cons,length_nil];congr 1;omega);have G3:=G2.next1;obtain ⟨z3,y3⟩:=m5.spot G3 e3;have m6:=m5.put G3 e3 trivial (v:=.int .i64 (k+F.length+1+l1.length+1)) (by simp only [V0,length_append,length_cons,length_nil];congr 1;omega);have G4:=G3.next1;obtain ⟨z3',y3'⟩:=m4.spotM G2 (by simp) e3;have d4:=m6.header e4;have t4:=m6.sl_ G4 s4;have f4:=m6.rest G4;have HM6:=Lib.hid m6
   clear m3 m4 m5 m6
   go_wp2_with fail
   refine (Vt x.2.2.2.2 A4 c4 l4 (k+F.length+1+l1.length+1+1) lo _ t4 f4 oM).mono ?_;rintro e w3 ⟨rfl,m7⟩;have hM:=Lib.hid (HM6.out.then_ G4 (by simp only [length_append,length_cons,length_nil];omega) m7)
   clear m7 HM6
   go_wp2_with fail
   go_roundw
   case rel=>exact ⟨j+1,_,Lib.hid (by rw [O6,← hFe.out,hfj];simp),by omega,by go_num,by simp only [length_append,length_cons,length_nil];congr 1;omega,hM.out⟩
   case measure=>simp [intOf];omega
  ·obtain rfl:j=xs.length:=by omega
   go_wp2
   go_ret
   rw [← hFe.out];exact ⟨rfl,hm⟩
theorem om {p:Prop} (h:p:=by first|(simp;done)|omega|(simp;omega)):p:=h
theorem ol {p:Prop} (h:p:=by first|omega|(simp;omega)|(simp;done)):p:=h
theorem bw {p:Prop} (h:p:=by repeat (first|with_reducible exact Below.refl _ _|((with_reducible refine Below.setCell ?_ ?_ _);rotate_left;exact fO)|((with_reducible refine Below.alloc ?_ ?_ _);rotate_left;exact fO)|(with_reducible refine Below.drew ?_)|(with_reducible refine below_draws_ ?_ _)|((with_reducible refine Below.trans ?_ (Below.mono hb_w1 ?_));rotate_left;exact fO)|((with_reducible refine Below.trans ?_ (Below.mono hb_w2 ?_));rotate_left;exact fO)|((with_reducible refine Below.trans ?_ (Below.mono hb_w3 ?_));rotate_left;exact fO)|((with_reducible refine Below.trans ?_ (Below.mono hb_w4 ?_));rotate_left;exact fO)|((with_reducible refine Below.trans ?_ (Below.mono hb_w5 ?_));rotate_left;exact fO)|((with_reducible refine Below.trans ?_ (Below.mono hb_w6 ?_));rotate_left;exact fO)|((with_reducible refine Below.trans ?_ (Below.mono hb_w7 ?_));rotate_left;exact fO)|((with_reducible refine Below.trans ?_ (Below.mono hb_w8 ?_));rotate_left;exact fO)|((with_reducible refine Below.trans ?_ (Below.mono hb_w9 ?_));rotate_left;exact fO)|((with_reducible refine Below.trans ?_ (Below.mono hb_w10 ?_));rotate_left;exact fO)|((with_reducible refine Below.trans ?_ (Below.mono hb_w11 ?_));rotate_left;exact fO)|((with_reducible refine Below.trans ?_ (Below.mono hb_w12 ?_));rotate_left;exact fO)|((with_reducible refine Below.trans ?_ (Below.mono hb_w13 ?_));rotate_left;exact fO)|((with_reducible refine Below.trans ?_ (Below.mono hb_w14 ?_));rotate_left;exact fO)|((with_reducible refine Below.trans ?_ (Below.mono hb_w15 ?_));rotate_left;exact fO)|((with_reducible refine Below.trans ?_ (Below.mono hb_w16 ?_));rotate_left;exact fO)|((with_reducible refine Below.trans ?_ (Below.mono hb_w17 ?_));rotate_left;exact fO)|((with_reducible refine Below.trans ?_ (Below.mono hb_w18 ?_));rotate_left;exact fO)|((with_reducible refine Below.trans ?_ (Below.mono hb_w19 ?_));rotate_left;exact fO)|((with_reducible refine Below.trans ?_ (Below.mono hb_w20 ?_));rotate_left;exact fO)|((with_reducible refine Below.trans ?_ (Below.mono hb_w21 ?_));rotate_left;exact fO)|((with_reducible refine Below.trans ?_ (Below.mono hb_w22 ?_));rotate_left;exact fO)|((with_reducible refine Below.trans ?_ (Below.mono hb_w23 ?_));rotate_left;exact fO)|((with_reducible refine Below.trans ?_ (Below.mono hb_w24 ?_));rotate_left;exact fO)|((with_reducible refine Below.trans ?_ (Below.mono hb_w25 ?_));rotate_left;exact fO)|((with_reducible refine Below.trans ?_ (Below.mono hb_w26 ?_));rotate_left;exact fO)|((with_reducible refine Below.trans ?_ (Below.mono hb_w27 ?_));rotate_left;exact fO)|((with_reducible refine Below.trans ?_ (Below.mono hb_w28 ?_));rotate_left;exact fO)|((with_reducible refine Below.trans ?_ (Below.mono hb_w29 ?_));rotate_left;exact fO)|((with_reducible refine Below.trans ?_ (Below.mono hb_w30 ?_));rotate_left;exact fO))):p:=h
theorem Ade {B:Nat} {a w:World} {o o':Obj} (h:Below B a (w.alloc o)) (hB:B<=w.heap.size):Below B a (w.alloc o') :=
 h.trans ⟨rfl,rfl,rfl,by simp,fun k hk=>(Below.heap_alloc w o' k oM).trans (Below.heap_alloc w o k oM).symm⟩
theorem Uw {w:World} {o o':Obj} {p:Addr} {u:Value} (h:(w.alloc o).cell? p=some u) (hp:p.block<w.heap.size):(w.alloc o').cell? p=some u :=
 (World.cell?_of_block ((Below.heap_alloc w o' _ hp).trans (Below.heap_alloc w o _ hp).symm)).trans h
theorem Vc {w:World} {p q:Addr} {v u:Value} (h:w.cell? q=some u) (hne:q.block≠p.block):(w.setCell p v).cell? q=some u :=
 ((Marked.setCell w p v).cell q (World.block_lt_of_cell? _ _ h) (fun e=>hne (by rw [mem_singleton.1 e]))).trans h
theorem Acr {w2 w5:World} {lo:Nat} {T:TypeId} {x y:Int} {t:Ty} {B:Option Addr} {d:Nat} {xs:List t.D} {m:List Addr} {b:Bool} (hb:Below w2.heap.size w2 w5) (ht:Sl (Lp lo) w5 t B d xs m) (hlo:w2.heap.size<=lo) :
  ∃ (gb:Nat) (B':Option Addr) (d':Nat) (m':List Addr),Value.pointer (some ⟨w5.heap.size,0,none⟩)=.pointer (some ⟨gb,0,none⟩)/\Value.bool b=.bool b/\Below w2.heap.size w2 (w5.alloc (.cells #[.int .i64 x,.int .i64 y,.slice B xs.length d] T))/\w2.heap.size<=gb/\gb<(w5.alloc (.cells #[.int .i64 x,.int .i64 y,.slice B xs.length d] T)).heap.size /\
   (w5.alloc (.cells #[.int .i64 x,.int .i64 y,.slice B xs.length d] T)).cell? ⟨gb,0,none⟩=some (.int .i64 x)/\(w5.alloc (.cells #[.int .i64 x,.int .i64 y,.slice B xs.length d] T)).cell? ⟨gb,1,none⟩=some (.int .i64 y)/\(w5.alloc (.cells #[.int .i64 x,.int .i64 y,.slice B xs.length d] T)).cell? ⟨gb,2,none⟩=some (.slice B' xs.length d') /\
   Sl (Lp w2.heap.size) (w5.alloc (.cells #[.int .i64 x,.int .i64 y,.slice B xs.length d] T)) t B' d' xs m' :=
 ⟨_,B,d,m,rfl,rfl,hb.alloc hb.size _,hb.size,by simp,by simp,by simp,by simp,Aye ht ((Above.refl _ _).alloc _) hlo⟩
theorem Akh {w2 w5:World} {lo g:Nat} {x y:Int} {t:Ty} {B:Option Addr} {d:Nat} {xs:List t.D} {m:List Addr} {b:Bool} {z0 z1 z2:Value} (hb:Below w2.heap.size w2 w5) (ht:Sl (Lp lo) w5 t B d xs m) (hlo:w2.heap.size<=lo) (hg:w2.heap.size<=g) (hl:g<lo) (h5:lo<=w5.heap.size)
  (c0:w5.cell? ⟨g,0,none⟩=some z0) (c1:w5.cell? ⟨g,1,none⟩=some z1) (c2:w5.cell? ⟨g,2,none⟩=some z2) :
  ∃ (gb:Nat) (B':Option Addr) (d':Nat) (m':List Addr),Value.pointer (some ⟨g,0,none⟩)=.pointer (some ⟨gb,0,none⟩)/\Value.bool b=.bool b/\Below w2.heap.size w2 (((w5.setCell ⟨g,0,none⟩ (.int .i64 x)).setCell ⟨g,1,none⟩ (.int .i64 y)).setCell ⟨g,2,none⟩ (.slice B xs.length d))/\w2.heap.size<=gb/\gb<(((w5.setCell ⟨g,0,none⟩ (.int .i64 x)).setCell ⟨g,1,none⟩ (.int .i64 y)).setCell ⟨g,2,none⟩ (.slice B xs.length d)).heap.size /\
   (((w5.setCell ⟨g,0,none⟩ (.int .i64 x)).setCell ⟨g,1,none⟩ (.int .i64 y)).setCell ⟨g,2,none⟩ (.slice B xs.length d)).cell? ⟨gb,0,none⟩=some (.int .i64 x)/\(((w5.setCell ⟨g,0,none⟩ (.int .i64 x)).setCell ⟨g,1,none⟩ (.int .i64 y)).setCell ⟨g,2,none⟩ (.slice B xs.length d)).cell? ⟨gb,1,none⟩=some (.int .i64 y)/\(((w5.setCell ⟨g,0,none⟩ (.int .i64 x)).setCell ⟨g,1,none⟩ (.int .i64 y)).setCell ⟨g,2,none⟩ (.slice B xs.length d)).cell? ⟨gb,2,none⟩=some (.slice B' xs.length d') /\
   Sl (Lp w2.heap.size) (((w5.setCell ⟨g,0,none⟩ (.int .i64 x)).setCell ⟨g,1,none⟩ (.int .i64 y)).setCell ⟨g,2,none⟩ (.slice B xs.length d)) t B' d' xs m':=by
 have k1:∀ {w:World} {i j:Nat} {u v:Value},i≠j->w.cell? ⟨g,i,none⟩=some u->(w.setCell ⟨g,j,none⟩ v).cell? ⟨g,i,none⟩=some u:=fun {w i j u v} hne h =>
  ((Marked.setCell w ⟨g,j,none⟩ v).cell _ (World.block_lt_of_cell? _ _ h) fun e=>hne (by have:=mem_singleton.1 e;injection this)).trans h
 refine ⟨g,B,d,m,rfl,rfl,((hb.setCell hg _).setCell hg _).setCell hg _,hg,by simp [World.setCell];omega,?_,?_,?_,Aye ht ((((Above.refl _ _).setCell hl _).setCell hl _).setCell hl _) hlo⟩
 ·exact k1 (by decide)<|k1 (by decide)<|World.cell?_setCell_same _ _ _ c0
 ·exact k1 (by decide)<|World.cell?_setCell_same _ _ _<|k1 (by decide) c1
 ·exact World.cell?_setCell_same _ _ _<|k1 (by decide)<|k1 (by decide) c2
theorem C1 {w:World} {vs:Array Value} {T:TypeId} {i:Nat} {v:Value} (h:vs[i]? =some v):(w.alloc (.cells vs T)).cell? ⟨w.heap.size,i,none⟩=some v:=by
 simp [World.cell?_alloc_new,h]
theorem Acn {P:Program} {G:WP} {g:FuncId} {args:LA} {n:Int} {vs:LV} {w:World} (h:Cr P G g args ⟨false,[(false,[.sc (.int .i64 n)])]⟩) (hG:∀ w',Below w.heap.size w w'->G w') (hr:AV.RepL (fun _=>none) (fun _=>True) w args vs):Calls P g vs.toArray w fun e w'=>e=.returned (.int .i64 n)/\Below w.heap.size w w':=by
 refine (h w (fun _=>True) vs hG hr).mono ?_;rintro e w' ⟨u,rfl,hb,us,ls,h1,_,rfl⟩;obtain ⟨u1,us1,rfl,h2,_,rfl,rfl⟩:=h1;obtain rfl:u1=.int .i64 n:=h2;exact ⟨rfl,hb⟩
theorem U2 {P:Program} {G:WP} {g:FuncId} {args:LA} {b:Bool} {vs:LV} {w:World} (h:Cr P G g args ⟨false,[(false,[.sc (.bool b)])]⟩) (hG:∀ w',Below w.heap.size w w'->G w') (hr:AV.RepL (fun _=>none) (fun _=>True) w args vs):Calls P g vs.toArray w fun e w'=>e=.returned (.bool b)/\Below w.heap.size w w':=by
 refine (h w (fun _=>True) vs hG hr).mono ?_;rintro e w' ⟨u,rfl,hb,us,ls,h1,_,rfl⟩;obtain ⟨u1,us1,rfl,h2,_,rfl,rfl⟩:=h1;obtain rfl:u1=.bool b:=h2;exact ⟨rfl,hb⟩
section
variable {R R':NP} {w:World}
theorem Ms (l:List Cp) (A:Option Addr) (c:Nat) (ll:List Addr) {v y:Int} (h:Gg l v=some y) (w:World) (s:Sl R w Adw A c l ll) (tab:Tab w) :
  Calls Tryz.prog 6 #[.slice A l.length c,.int .i64 v] w fun e w'=>e=.returned (.int .i64 y)/\Below w.heap.size w w' :=
 Acn (vs:=[.slice A l.length c,.int .i64 v]) (Ue h) (fun _ hb=>tab.below hb) ⟨_,_,rfl,⟨A,c,ll,rfl,K9 s⟩,⟨_,_,rfl,rfl,rfl⟩⟩
theorem Atc (xs:List Nd) {v:Int} (hv:0<=v/\v<=1048576) (hx:xs.length<=9223372036854775807) (hs:∀ n∈xs,n.2.2.size<=9223372036854775807):∃ y,Hz xs v=some y/\(y<0∨(0<=y/\y<=v/\xs.length<=1048576)):=by
 unfold Hz;obtain ⟨z,hz,k1|⟨k1,k2,k3⟩⟩:=Ahj xs hv hx hs
 ·rw [hz,obs,Au k1];exact ⟨_,rfl,.inl oM⟩
 ·rw [hz,obs,At oM];exact ⟨_,rfl,.inr ⟨k1,k2,by omega⟩⟩
theorem Afi (xs:List Nd) (A:Option Addr) (c:Nat) (l:List Addr) {v y:Int} (h:Hz xs v=some y) (w:World) (s:Sl R w Tz A c xs l) (tab:Tab w) :
  Calls Tryz.prog 7 #[.agg #[.slice A xs.length c],.int .i64 v] w fun e w'=>e=.returned (.int .i64 y)/\Below w.heap.size w w' :=
 Acn (vs:=[.agg #[.slice A xs.length c],.int .i64 v]) (Tv h) (fun _ hb=>tab.below hb) ⟨_,_,rfl,⟨_,rfl,⟨_,_,rfl,⟨A,c,l,rfl,K9 s⟩,rfl⟩⟩,⟨_,_,rfl,rfl,rfl⟩⟩
theorem Xm (l:List Cp) (A:Option Addr) (c:Nat) (ll:List Addr) (B:Option Addr) (d:Nat) (m:List Addr) (w:World) (s:Sl R w Adw A c l ll) (t:Sl R' w Adw B d l m) (hn:l.length<=1048576) (hc:∀ x∈l,Vl x) (tab:Tab w) :
  Calls Tryz.prog 13 #[.slice A l.length c,.slice B l.length d] w fun e w'=>e=.returned (.bool true)/\Below w.heap.size w w' :=
 U2 (vs:=[.slice A l.length c,.slice B l.length d]) (T8 (Awr l hn hc)) (fun _ hb=>tab.below hb) ⟨_,_,rfl,⟨A,c,ll,rfl,K9 s⟩,⟨_,_,rfl,⟨B,d,m,rfl,K9 t⟩,rfl⟩⟩
theorem Ajx (xs:List Nd) (A:Option Addr) (c:Nat) (l:List Addr) (B:Option Addr) (d:Nat) (m:List Addr) (w:World) (s:Sl R w Tz A c xs l) (t:Sl R' w Tz B d xs m) (hn:xs.length<=1048576) (tab:Tab w) :
  Calls Tryz.prog 14 #[.agg #[.slice A xs.length c],.agg #[.slice B xs.length d]] w fun e w'=>e=.returned (.bool true)/\Below w.heap.size w w' :=
 U2 (vs:=[.agg #[.slice A xs.length c],.agg #[.slice B xs.length d]]) (Tr (by unfold Ni;rw [Ag0 xs oM];rfl)) (fun _ hb=>tab.below hb) ⟨_,_,rfl,⟨_,rfl,⟨_,_,rfl,⟨A,c,l,rfl,K9 s⟩,rfl⟩⟩,⟨_,_,rfl,⟨_,rfl,⟨_,_,rfl,⟨B,d,m,rfl,K9 t⟩,rfl⟩⟩,rfl⟩⟩
theorem Of (x0 x1:Int) (xs:ZA) (A:Option Addr) (c:Nat) (l:List Addr) (B:Option Addr) (d:Nat) (m:List Addr) (w:World) (s:Sl R w (.slice .int) A c xs l) (t:Sl R' w (.slice .int) B d xs m) (hn:xs.length<=1000) (hr:Id 1000 xs) (tab:Tab w) :
  Calls Tryz.prog 12 #[.agg #[.int .i64 x0,.int .i64 x1,.slice A xs.length c],.agg #[.int .i64 x0,.int .i64 x1,.slice B xs.length d]] w fun e w'=>e=.returned (.bool true)/\Below w.heap.size w w' :=
 U2 (vs:=[.agg #[.int .i64 x0,.int .i64 x1,.slice A xs.length c],.agg #[.int .i64 x0,.int .i64 x1,.slice B xs.length d]]) (Pt (W7 x0 x1 xs oM (fun x hx=>Nat.le_trans (hr x hx) oM))) (fun _ hb=>tab.below hb)
  ⟨_,_,rfl,⟨_,rfl,⟨_,_,rfl,rfl,⟨_,_,rfl,rfl,⟨_,_,rfl,⟨A,c,l,rfl,K9 s⟩,rfl⟩⟩⟩⟩,⟨_,_,rfl,⟨_,rfl,⟨_,_,rfl,rfl,⟨_,_,rfl,rfl,⟨_,_,rfl,⟨B,d,m,rfl,K9 t⟩,rfl⟩⟩⟩⟩,rfl⟩⟩
end
theorem Ac5 {α:Type} (f:α->Nat) (M:Nat):∀ (xs:List α),(∀ x∈xs,f x<=M)->(xs.map f).sum<=xs.length*M
 | [],_=>by simp
 | x :: xs,h=>by
  simp only [map_cons,sum_cons,length_cons,Nat.succ_mul];have:=Ac5 f M xs fun y hy=>h y (mem_cons_of_mem _ hy)
  have:=h x mem_cons_self;omega
theorem Al1 (x:List Int):(Ty.slice Ty.int).cnt x=x.length:=by
 show (x.map fun _=>1).sum=_;rw [map_const',sum_replicate_nat];omega
theorem Avg {R:NP} {w:World} {A:Option Addr} {c:Nat} {xs:ZA} {l:List Addr} (h:Sl R w (.slice .int) A c xs l) (h1:xs.length<=1000) (h2:Id 1000 xs):l.length<=1000000:=by
 rw [Amf h];refine Nat.le_trans (Ac5 _ 1000 xs fun x hx=>?_)<|Nat.mul_le_mul_right _ h1;rw [Al1];exact h2 x hx
theorem Av2 {R:NP} {w:World} {A:Option Addr} {c:Nat} {xs:List Nd} {l:List Addr} (h:Sl R w Tz A c xs l) (h1:xs.length<=1048576):l.length<=3145728:=by
 have:=Qj (t:=Tz) rfl h;simp only [Ty.size,Nat.reduceAdd] at this;omega
theorem Aw5 {R:NP} {w:World} {A:Option Addr} {c:Nat} {xs:List Cp} {l:List Addr} (h:Sl R w Adw A c xs l) (h1:xs.length<=1048576) (h2:∀ x∈xs,Vl x):l.length<=1200000000000000000:=by
 rw [Amf h];refine Nat.le_trans (Ac5 _ 1099514777603 xs fun x hx=>?_) (Nat.le_trans (Nat.mul_le_mul_right _ h1) (by decide));have ⟨q1,q2,q3⟩:=h2 x hx
 have e1:(Ty.slice Tz).cnt x.2.1<=3145728:=by
  show (x.2.1.map _).sum<=_;refine Nat.le_trans (Ac5 _ 3 x.2.1 fun y _=>Nat.le_of_eq<|Ty.cnt_flat (t:=Tz) y rfl) ?_;omega
 have e2:(Ty.slice<|.slice .int).cnt x.2.2.2.2<=1099511627776:=by
  show (x.2.2.2.2.map _).sum<=_;refine Nat.le_trans (Ac5 _ 1048576 x.2.2.2.2 fun y hy=>?_)<|Nat.mul_le_mul_right 1048576 q2;rw [Al1];exact q3 y hy
 show 1+((Ty.slice Tz).cnt x.2.1+(1+(1+(Ty.slice<|.slice .int).cnt x.2.2.2.2)))<=_;omega
set_option maxRecDepth 4000
set_option maxHeartbeats 4800000
variable {bA bB bC bD bE:Int} {pA:List (ByteArray×(List ZB)×Int×Int×LL)} {hA:List ZB} {cA:Bool} {aA aB:List Int} {dA dB:LL} {qA:Int×Int×LL}
def D5 (u1:List ZB) (a0:Int) (u0:Nat):Option (Ctl Nat (Ctl Unit Bool)) :=
 cond (decide ((u0:Int)<(u1.length:Int)))
 ((u1[u0]?).bind fun x24 =>
 (cond (x24.1==7)
   (some (decide (a0<=x24.2.1)))
   (cond (x24.1==13)
    (some (decide (a0<=x24.2.1)))
    (some false))).bind fun u2 =>
 cond u2
  (some (.out (.out false)))
  (og (u0+1<4611686018427387904) <|
  some (.next (u0+1))))
 (some (.out (.next ())))
def Ku (a0:Int) (a1:List (ByteArray×(List ZB)×Int×Int×LL)) (u0:List ZB):Option Bool :=
 ((O0 a0 a1).bind fun y4 =>
 cond (!y4)
  (some true)
  ((F1 u0).bind fun y6 =>
  some (!y6))).bind fun u1 =>
cond u1
 (some false)
 ((Di a1).bind fun y11 =>
 (H1 y11 u0).bind fun y12 =>
 cond (!y12.2.2.2)
  (some false)
  (Dj (Aq (fun s_:Nat=>D5 u0 a0 s_) 4611686018427387904 0) fun _ =>
  some true))
theorem Ze (h:Ku bA pA hA=some cA):cK 29 [ai bA,.tree Yg pA,.agg [.tree Y8 hA]] (Am cA):=by
 refine cO Tryz.func29<|Ae<|Ab<|sqF h (fun u2=>sT [(0,ai bA),(1,.tree Yg pA),(5,.box (oi 0 1) 0),(19,.bool u2)] [(oi 0 1,.cells 37 [.tree Y8 hA])]) ?_ ?_
 ·intro _ h;refine Aa 12<|rsT 2 (rcH h Af8 fun y4 h=>rsT 2 ?_);rcases A3 h with ⟨q5,h⟩|⟨q5,h⟩
  ·exact rq 15 q5<|rsT 4<|Ap<|tn_<|jE [(oi 0 1,oi 5 1)]
  exact rq 15 q5<|rsT 1 (rcH h P3 fun y6 h=>rsT 2<|Ap<|tn_<|jE [(oi 0 1,oi 5 1)])
 intro u2 h;refine kQ h (fun _ h=>Ae<|Ac<|tr_<|jS h) fun _ h=>skW<|Ab<|Ab<|An 12<|dz0 (.tree Yg pA) ?_
 have ⟨y11,h11,h⟩:=Ah h;exact Ah2 (.tree Ye y11) [] [.tree Yg pA] _ (caps:=[]) trivial (Lv h11) kr<|dzl (.agg [.tree Y8 hA]) (dcH h T3 fun y12 h=>dsT 3<|ds1 (.box (oi 7 9) 0) (oi 7 9) (.cells 83 [.nils,.nils,.nils]) kr<|Lg (oi 7 9) (oi 7 9) (.cells 83 [oI 384 5 y12.1.length,oI 385 5 y12.2.1.length,oI 386 5 y12.2.2.1.length]) kr<|dz0 (.bool y12.2.2.2)<|Cb (Ar kr)<|tn_<|wr_<|Ae (kQ h (fun _ h=>Ae<|Ac<|tr_<|jS h) fun _ h=>skW (sqC h (fun _=>sT [] []) (fun _ h hk16=>Ae<|Ad<|lpF h (fun u1=>sT [(0,ai bA),(30,.tree Y8 hA),(31,an hA.length),(32,an u1)] []) (Ag []) fun n_ u1 c_ h hn18=>Ae<|Ab (kQ h (fun _ h=>skW<|Ab<|Ad<|Ab<|Aa 7 (riH Y8 h fun x24 _ h=>rsB 3<|rnW (sqF h (fun u3=>sT [(0,ai bA),(30,.tree Y8 hA),(31,an hA.length),(32,an u1),(49,.bool u3)] []) (fun _ h=>Aa 21<|rsT 4 (kR h 39 (fun _ h=>rsT 10<|Ap<|tn_<|jE []) fun _ h=>rsT 5 (kR h 44 (fun _ h=>rsT 5<|Ap<|tn_<|jE []) fun _ h=>rsT 5<|Ap<|tn_<|jE []))) fun u3 h=>kQ h (fun _ h=>Ae<|Ac<|br_<|tr_<|tr_<|br_<|tr_ (have h:=jO h hn18;(have h:=jO h hk16;jS h))) fun _ h=>Ax<|bn_<|tn_<|wr_<|Aa 4 (raH h fun h=>rsT 1<|Ap<|tn_<|jL [])))) fun _ h=>lxT (have h:=jO h hn18;jC []))) fun _ h=>Ae<|Ac<|jS h)))
def Jk (a0:List Int) (u0:Nat):Option (Ctl Nat Nat) :=
 (cond (decide ((u0:Int)<(a0.length:Int)))
  ((a0[u0]?).bind fun x8 =>
  some (x8==0))
  (some false)).bind fun u1 =>
cond u1
 (og (u0+1<4611686018427387904) <|
 some (.next (u0+1)))
 (some (.out u0))
def Kk (a0:List Int):Option Int :=
 (Aq (fun s_:Nat=>Jk a0 s_) 4611686018427387904 0).bind fun u0 =>
some (u0:Int)
theorem Up (h:Kk aA=some bA):cK 147 [tI aA] (A7 bA):=by
 refine cO Tryz.func147<|Ae<|Ae (sqF h (fun u1=>sT [(3,an u1)] []) ?_ fun u1 h=>Ae<|Ac<|jS h);intro _ h;refine Ad<|lpF h (fun u0=>sT [(0,tI aA),(3,an u0)] []) (Ag []) ?_;intro n_ u0 c_ h hn4;refine Ab (sqF h (fun u2=>sT [(0,tI aA),(3,an u0),(14,.bool u2)] []) ?_ fun u2 h=>kQ h (fun _ h=>skW<|Ad<|Aa 5<|rsT 1 (raH h fun h=>rsT 1<|Ap<|bn_<|tn_<|jL [])) fun _ h=>lxT (have h:=jO h hn4;jE []));intro _ h;refine Aa 13<|rsT 5 ?_;rcases A3 h with ⟨q7,h⟩|⟨q7,h⟩
 ·exact rq 8 q7<|rsT 2 (riH .int h fun x8 _ h=>rsT 3<|Ap<|tn_<|jE [])
 exact rq 8 q7<|rsT 6<|Ap<|tn_<|jE []
def Jv (a1:Int) (u0:Nat) (u1:List Int):Option (Ctl (Nat×List Int) (List Int)) :=
 cond (decide ((u0:Int)<(a1.toNat:Int)))
 ((u1[u0]?).bind fun x15 =>
 og (u0+1<4611686018427387904) <|
 some (.next (u0+1,u1.set u0 (-1))))
 (some (.out u1))
def Jp (y4:LL) (u0:Nat) (u1:List Int):Option (Ctl (Nat×List Int) (List Int)) :=
 cond (decide ((u0:Int)<(y4.length:Int)))
 ((y4[u0]?).bind fun x25 =>
 (Kk x25).bind fun y26 =>
 (Ce u1 y26).bind fun x27 =>
 og (u0+1<4611686018427387904) <|
 some (.next (u0+1,u1.set y26.toNat (u0:Int))))
 (some (.out u1))
def J2 (y4:LL) (u2:Nat) (a0:Int) (u0:Nat) (u1:List Int):Option (Ctl (Nat×List Int) (List Int)) :=
 cond (decide ((u0:Int)<(y4.length:Int)))
 ((y4[u0]?).bind fun x53 =>
 (Kk x53).bind fun y54 =>
 (x53[u2]?).bind fun x55 =>
 (Fy a0 x55).bind fun y56 =>
 (Ce u1 y54).bind fun x57 =>
 og (u0+1<4611686018427387904) <|
 some (.next (u0+1,u1.set y54.toNat y56)))
 (some (.out u1))
def Jg (a1:Int) (u2:List Int) (y4:LL) (a0:Int) (u0:Nat) (u1:LL):Option (Ctl (Nat×LL) (LL)) :=
 cond (decide ((u0:Int)<a1))
 (((u2[u0]?).bind fun x39 =>
  cond (decide (0<=x39))
   (some u1)
   (og (0<=a1/\a1<=a1/\a1<=1073741824/\(8:Int)*a1<=140737488355328) <|
   ((replicate a1.toNat (0:Int))[u0]?).bind fun x44 =>
   (Aq (fun s_:Nat×List Int=>J2 y4 u0 a0 s_.1 s_.2) 4611686018427387904 (0,(replicate a1.toNat (0:Int)).set u0 1)).bind fun u3 =>
   og (u1.length+1<=1073741824/\(u1.length+1)*24<=140737488355328) <|
   some (u1++[u3]))).bind fun u4 =>
 og (u0+1<4611686018427387904) <|
 some (.next (u0+1,u4)))
 (some (.out u1))
def Ko (a0 a1:Int) (a2:LL):Option LL :=
 (Ex a0 a1 a2).bind fun y4 =>
og (0<=a1/\a1<=a1/\a1<=1073741824/\(8:Int)*a1<=140737488355328) <|
(Aq (fun s_:Nat×List Int=>Jv a1 s_.1 s_.2) 4611686018427387904 (0,replicate a1.toNat (0:Int))).bind fun u0 =>
(Aq (fun s_:Nat×List Int=>Jp y4 s_.1 s_.2) 4611686018427387904 (0,u0)).bind fun u1 =>
(Aq (fun s_:Nat×LL=>Jg a1 u1 y4 a0 s_.1 s_.2) 4611686018427387904 (0,([]:LL))).bind fun u2 =>
(Ex a0 a1 u2).bind fun y62 =>
some y62
theorem Ut (h:Ko bA bB dA=some dB):Eb Tryz.prog Tab 100 [ai bA,ai bB,tS dA] [] (oS 0 1 dB.length) [(oi 0 1,.mat 81 (oi 1 1) .int dB),(oi 1 1,.pool 3 .int dB)]:=by
 refine B3 kr Tryz.func100 (Cc kr) (n:=89) kr (by simp) rfl kr trivial ⟨⟨3,.tail _ (.head _)⟩,⟨trivial,trivial⟩⟩ (Ae (Ab (Aa 7 (rsT 3 (rcM h [] [ai bA,ai bB,tS dA] Jx trivial (aR kr) (Ba kr kr trivial) fun y4 h=>rsT 1 (rnW (Ab (Aa 10 (rsT 1 ?_)))))))));obtain ⟨g6,h⟩:=Al h;refine rs1 (oI 22 8 bB.toNat) (oi 22 8) (.arr 3 .int (replicate bB.toNat (0:Int))) (Pp (t:=.int) (k:=.i64) (k':=.i64) (m:=bB) (m':=bB) kr kr g6 rfl) (rsT 1 (rnW (sqF h (fun ub=>sT [(0,ai bA),(1,ai bB),(7,oS 0 1 y4.length),(8,oI 2 1 ub.length)] [(oi 0 1,.mat 81 (oi 1 1) .int y4),(oi 1 1,.pool 3 .int y4),(oi 2 1,.arr 3 .int ub)]) ?_ ?_)))
 ·intro _ h;refine Ae (Ad (lpF h (fun (uc,u5)=>sT [(0,ai bA),(1,ai bB),(7,oS 0 1 y4.length),(8,oI 2 1 u5.length),(24,an bB.toNat),(25,an uc)] [(oi 0 1,.mat 81 (oi 1 1) .int y4),(oi 1 1,.pool 3 .int y4),(oi 2 1,.arr 3 .int u5)]) ((wL 8 (length_replicate.symm:bB.toNat=(replicate bB.toNat (0:Int)).length)).trans (Ag [(oi 0 1,oi 320 5),(oi 1 1,oi 321 5),(oi 2 1,oi 22 8)])) ?_));rintro n_ ⟨uc,u5⟩ c_ h hn9;refine Ae (Ab (kQ h (fun _ h=>skW (Ab (Ad (Ae (Aa 9 (rsT 2 ?_)))))) fun _ h=>lxT (have h:=jO h hn9;jE [])));obtain ⟨x15,e15,h⟩:=Ah h;refine zO (oi 2 1) .int u5.length (Ai e15) (zS (oi 2 1) (-1) e15 (Ap (bn_ (tn_ (wr_ (Aa 11 (raH h fun h=>rsT 1 (Ap (tn_ ?_)))))))));obtain rfl:=zj h;exact jLw hn9 ((wL 8 (((rfl:u5.length=u5.length).trans length_set.symm):u5.length=(u5.set uc (-1)).length)).trans (Ag []))
 intro ub h;refine sqF h (fun u1=>sT [(0,ai bA),(1,ai bB),(7,oS 0 1 y4.length),(8,oI 2 1 u1.length)] [(oi 0 1,.mat 81 (oi 1 1) .int y4),(oi 1 1,.pool 3 .int y4),(oi 2 1,.arr 3 .int u1)]) ?_ ?_
 ·intro _ h;refine Ae (Ad (lpF h (fun (u8,u6)=>sT [(0,ai bA),(1,ai bB),(7,oS 0 1 y4.length),(8,oI 2 1 u6.length),(32,oS 0 1 y4.length),(33,an y4.length),(34,an u8)] [(oi 0 1,.mat 81 (oi 1 1) .int y4),(oi 1 1,.pool 3 .int y4),(oi 2 1,.arr 3 .int u6)]) (Ag []) ?_));rintro n_ ⟨u8,u6⟩ c_ h hn19;refine Ae (Ab (kQ h (fun _ h=>skW (Ab (Ad (Ab (Aa 8 (rsT 1 ?_)))))) fun _ h=>lxT (have h:=jO h hn19;jE [])));obtain ⟨x25,e25,h⟩:=Ah h;refine zO (oi 0 1) sI y4.length (Ai e25) (rsl (.own (kid (oi 1 1) u8) .int 0 x25.length) (Fc (o:=oi 0 1) (p:=oi 1 1) (e1:=81) (u:=.int) (xss:=y4) (row:=x25) (j:=u8) kr kr e25) (rsT 2 (rnW (Aa 14 (rsT 2 (rcG h [.own (kid (oi 1 1) u8) .int 0 x25.length] Up (Av (Gz (e:=3) (u:=.int) (xs:=x25) (Bo kr e25) rfl) Dp) fun y26 h=>rsT 1 ?_))))));obtain ⟨x27,f27,h⟩:=Ah h;obtain ⟨p27,b27,e27⟩:=As f27;refine rs0 (.elt (oi 2 1) y26.toNat 0) (zo (t:=.int) (o:=oi 2 1) (len:=u6.length) (k:=.i64) (m:=y26) p27 (Ai e27)) (zS (oi 2 1) ((u8:Int)) e27 (Ap (bn_ (tn_ (wr_ (Aa 16 (raH h fun h=>rsT 1 (Ap (tn_ ?_)))))))));obtain rfl:=zj h;exact jLw hn19 ((wL 8 (((rfl:u6.length=u6.length).trans length_set.symm):u6.length=(u6.set y26.toNat (u8:Int)).length)).trans (Ag []))
 intro u1 h;refine Ae (sqF h (fun u9=>sT [(0,ai bA),(1,ai bB),(12,oS 0 1 u9.length)] [(oi 0 1,.mat 81 (oi 1 1) .int u9),(oi 1 1,.pool 3 .int u9)]) ?_ fun u9 h=>Ab (Aa 7 (rsT 3 (rcM h [] [ai bA,ai bB,oS 0 1 u9.length] Jx trivial (.cons (.ren kr) (.cons (.ren kr) (.cons (.gnd kr (Sn (p:=oi 1 1) (e1:=81) (e:=3) (u:=.int) (xss:=u9) ((L3 kr kr kr).trans kr) (Zg kr kr (Er kr) kr) rfl)) .nil))) (Ba kr kr trivial) fun y62 h=>rsT 1 (rnW (Ac (by obtain rfl:=osj h;exact E2 [oS 0 1 y62.length] (Ag (tl:=[(6,oS 0 1 y62.length)]) (g:=2) [(oi 0 1,oi 1408 5),(oi 1 1,oi 1409 5)]))))))));intro _ h;refine Ae (Ad (lpF h (fun (u2,u0)=>sT [(0,ai bA),(1,ai bB),(7,oS 0 1 y4.length),(8,oI 2 1 u1.length),(12,oS 3 1 u0.length),(13,an u2)] [(oi 0 1,.mat 81 (oi 1 1) .int y4),(oi 1 1,.pool 3 .int y4),(oi 2 1,.arr 3 .int u1),(oi 3 1,.mat 81 (oi 4 1) .int u0),(oi 4 1,.pool 3 .int u0)]) ((My 12 81 sI kr).trans ((Dt (e1:=81) (n:=0) 9000 (oi 12 4) 3 .int kr kr rfl kr kr).trans (Ag [(oi 3 1,oi 12 4),(oi 4 1,oi 9000 5)]))) ?_));rintro n_ ⟨u2,u0⟩ c_ h hn32;refine Ab (Ae (kQ h (fun _ h=>skW (sqF h (fun ua=>sT [(0,ai bA),(1,ai bB),(7,oS 0 1 y4.length),(8,oI 2 1 u1.length),(12,oS 3 1 ua.length),(13,an u2)] [(oi 0 1,.mat 81 (oi 1 1) .int y4),(oi 1 1,.pool 3 .int y4),(oi 2 1,.arr 3 .int u1),(oi 3 1,.mat 81 (oi 4 1) .int ua),(oi 4 1,.pool 3 .int ua)]) ?_ fun ua h=>Aa 5 (rsT 1 (raH h fun h=>rsT 1 (Ap (tn_ (jL []))))))) fun _ h=>lxT (have h:=jO h hn32;jE [(oi 0 1,oi 3 1),(oi 1 1,oi 4 1)])));intro _ h;refine Ad (Ab (Ab (Aa 10 (rsT 2 ?_))));obtain ⟨x39,e39,h⟩:=Ah h;refine zO (oi 2 1) .int u1.length (Ai e39) (zE (oi 2 1) e39 (rsT 1 (rnW (kQ h (fun _ h=>Ep (te_ (be_ (tn_ (jE []))))) fun _ h=>skW (Ab (Aa 13 (rsT 1 ?_)))))));obtain ⟨g42,h⟩:=Al h;refine rs1 (oI 56 11 bB.toNat) (oi 56 11) (.arr 3 .int (replicate bB.toNat (0:Int))) (Pp (t:=.int) (k:=.i64) (k':=.i64) (m:=bB) (m':=bB) kr kr g42 rfl) (rsT 1 (rnW (Ab (Aa 17 (rsT 2 ?_)))));obtain ⟨x44,e44,h⟩:=Ah h;refine rs0 (.elt (oi 56 11) u2 0) (zo (t:=.int) (o:=oi 56 11) (len:=bB.toNat) (k:=.i64) (m:=(u2:Int)) (D7 _) (Nat.lt_of_lt_of_le (Ai e44) (Nat.le_of_eq (Eq.symm length_replicate.symm)))) (zS (oi 56 11) (1) e44 (rnW (sqF h (fun u4=>sT [(0,ai bA),(1,ai bB),(7,oS 0 1 y4.length),(8,oI 2 1 u1.length),(12,oS 3 1 u0.length),(13,an u2),(14,oI 5 1 u4.length)] [(oi 0 1,.mat 81 (oi 1 1) .int y4),(oi 1 1,.pool 3 .int y4),(oi 2 1,.arr 3 .int u1),(oi 3 1,.mat 81 (oi 4 1) .int u0),(oi 4 1,.pool 3 .int u0),(oi 5 1,.arr 3 .int u4)]) ?_ ?_)))
 ·intro _ h;refine Ae (Ad (lpF h (fun (u3,u7)=>sT [(0,ai bA),(1,ai bB),(7,oS 0 1 y4.length),(8,oI 2 1 u1.length),(12,oS 3 1 u0.length),(13,an u2),(14,oI 5 1 u7.length),(60,oS 0 1 y4.length),(61,an y4.length),(62,an u3)] [(oi 0 1,.mat 81 (oi 1 1) .int y4),(oi 1 1,.pool 3 .int y4),(oi 2 1,.arr 3 .int u1),(oi 3 1,.mat 81 (oi 4 1) .int u0),(oi 4 1,.pool 3 .int u0),(oi 5 1,.arr 3 .int u7)]) ((wL 14 ((length_replicate.symm.trans length_set.symm):bB.toNat=((replicate bB.toNat (0:Int)).set u2 1).length)).trans (Ag [(oi 5 1,oi 56 11)])) ?_));rintro n_ ⟨u3,u7⟩ c_ h hn47;refine Ae (Ab (kQ h (fun _ h=>skW (Ab (Ad (Ab (Aa 8 (rsT 1 ?_)))))) fun _ h=>lxT (have h:=jO h hn47;jE [])));obtain ⟨x53,e53,h⟩:=Ah h;refine zO (oi 0 1) sI y4.length (Ai e53) (rsl (.own (kid (oi 1 1) u3) .int 0 x53.length) (Fc (o:=oi 0 1) (p:=oi 1 1) (e1:=81) (u:=.int) (xss:=y4) (row:=x53) (j:=u3) kr kr e53) (rsT 2 (rnW (An 22 (dsT 3 (dzO (oi 0 1) sI y4.length (Ai e53) (dsl (.own (kid (oi 1 1) u3) .int 0 x53.length) (Fc (o:=oi 0 1) (p:=oi 1 1) (e1:=81) (u:=.int) (xss:=y4) (row:=x53) (j:=u3) kr kr e53) (dcG h [.own (kid (oi 1 1) u3) .int 0 x53.length] Up (Av (Gz (e:=3) (u:=.int) (xs:=x53) ((K5 (Re (t:=.int) (off:=0) (len:=x53.length) 0 rfl kr)).trans (Bo kr e53)) rfl) Dp) fun y54 h=>dz0 (ai bA) (dz0 (.own (kid (oi 1 1) u3) .int 0 x53.length) (dz0 (an u2) ?_))))))))));obtain ⟨x55,e55,h⟩:=Ah h;refine ds0 (.elt (kid (oi 1 1) u3) u2 0) (zo (t:=.int) (o:=kid (oi 1 1) u3) (len:=x53.length) (k:=.i64) (m:=(u2:Int)) (D7 _) (Ai e55)) (dsl (ai x55) (G9 (i:=kid (oi 1 1) u3) (j:=u2) (k:=0) (e:=3) (t:=.int) (xs:=x53) kr (Acv.trans (Bo kr e53)) e55 kr) (dcH h Ra fun y56 h=>?_));obtain ⟨x57,f57,h⟩:=Ah h;obtain ⟨p57,b57,e57⟩:=As f57;refine ds0 (.elt (oi 5 1) y54.toNat 0) (zo (t:=.int) (o:=oi 5 1) (len:=u7.length) (k:=.i64) (m:=y54) p57 (Ai e57)) (dzS (oi 5 1) (y56) e57 (Cb (Ar kr) (bn_ (tn_ (wr_ (Aa 24 (raH h fun h=>rsT 1 (Ap (tn_ ?_)))))))));obtain rfl:=zj h;exact jLw hn47 ((wL 14 (((rfl:u7.length=u7.length).trans length_set.symm):u7.length=(u7.set y54.toNat y56).length)).trans (Ag []))
 intro u4 h;refine Aa 7 (rsT 2 (I4 (oS 83 4 1) (oi 83 4) (.vec 81 1 1 ([oI 5 1 u4.length])) trivial (C8 kr) ?_));obtain ⟨g59,h⟩:=Al h;refine zV (oi 3 1) (oi 83 4) (oi 4 1) u0 [oI 5 1 u4.length] g59 (rsT 1 (Ap (bn_ (tn_ ?_))));obtain rfl:=zj h;exact (Eu (e1:=81) (e:=3) (u:=.int) (n:=u0.length+1) (len:=u4.length) (row:=u4) (ys:=u4) (xss:=u0) 9000 (oi 3 5) (oi 4 1) (oi 5 1) kr kr rfl kr kr (N1 rfl) (Ny rfl) kr kr kr).trans ((wL 12 ((by simp):u0.length+1=(u0++[u4]).length)).trans (Ag [(oi 3 1,oi 3 5),(oi 4 1,oi 9000 7)]))
def K0 (x12 a3:List Int) (u2:Nat) (a0:Int) (u0:Nat) (u1:List Int):Option (Ctl (Nat×List Int) (List Int)) :=
 cond (decide ((u0:Int)<(x12.length:Int)))
 ((x12[u0]?).bind fun x20 =>
 (u1[u0]?).bind fun x21 =>
 (a3[u2]?).bind fun x22 =>
 og (a0≠0) <|
 og (u0+1<4611686018427387904) <|
 some (.next (u0+1,u1.set u0 (Int.tmod (wI (x21+wI (x22*x20))) a0))))
 (some (.out u1))
def Kw (a2:LL) (a3:List Int) (a0:Int) (u0:Nat) (u1:List Int):Option (Ctl (Nat×List Int) (List Int)) :=
 cond (decide ((u0:Int)<(a2.length:Int)))
 (((a2[u0]?).bind fun x12 =>
  Aq (fun s_:Nat×List Int=>K0 x12 a3 u0 a0 s_.1 s_.2) 4611686018427387904 (0,u1)).bind fun u2 =>
 og (u0+1<4611686018427387904) <|
 some (.next (u0+1,u2)))
 (some (.out u1))
def Lw (a0 a1:Int) (a2:LL) (a3:List Int):Option (List Int) :=
 og (0<=a1/\a1<=a1/\a1<=1073741824/\(8:Int)*a1<=140737488355328) <|
(Aq (fun s_:Nat×List Int=>Kw a2 a3 a0 s_.1 s_.2) 4611686018427387904 (0,replicate a1.toNat (0:Int))).bind fun u0 =>
some u0
theorem Vu (h:Lw bA bB dA aA=some aB):cK 101 [ai bA,ai bB,tS dA,tI aA] (Ch aB):=by
 refine cO Tryz.func101 (Ae (Ab (Aa 5 (rsT 1 ?_))));obtain ⟨g3,h⟩:=Al h;refine rs1 (oI 15 3 bB.toNat) (oi 15 3) (.arr 3 .int (replicate bB.toNat (0:Int))) (Pp (t:=.int) (k:=.i64) (k':=.i64) (m:=bB) (m':=bB) kr kr g3 rfl) (rsT 1 (rnW (sqF h (fun u3=>sT [(9,oI 0 1 u3.length)] [(oi 0 1,.arr 3 .int u3)]) ?_ fun u3 h=>Ae (Ac (jR h [oI 0 1 u3.length] (Hv rfl (Ea kr rfl) Ht))))));intro _ h;refine Ae (Ad (lpF h (fun (u1,u4)=>sT [(0,ai bA),(3,tI aA),(9,oI 0 1 u4.length),(16,tS dA),(17,an dA.length),(18,an u1)] [(oi 0 1,.arr 3 .int u4)]) ((wL 9 (length_replicate.symm:bB.toNat=(replicate bB.toNat (0:Int)).length)).trans (Ag [(oi 0 1,oi 15 3)])) ?_));rintro n_ ⟨u1,u4⟩ c_ h hn6;refine Ae (Ab (kQ h (fun _ h=>skW (sqF h (fun u5=>sT [(0,ai bA),(3,tI aA),(9,oI 0 1 u5.length),(16,tS dA),(17,an dA.length),(18,an u1)] [(oi 0 1,.arr 3 .int u5)]) ?_ fun u5 h=>Aa 4 (raH h fun h=>rsT 1 (Ap (tn_ (jL [])))))) fun _ h=>lxT (have h:=jO h hn6;jE [])));intro _ h;refine Ad (Ab (Aa 8 (rsT 1 (riH sI h fun x12 _ h=>rsT 3 (rnW (Ae (Ad (lpF h (fun (u2,u0)=>sT [(0,ai bA),(3,tI aA),(9,oI 0 1 u0.length),(10,an u1),(16,tS dA),(17,an dA.length),(18,an u1),(23,tI x12),(24,an x12.length),(25,an u2)] [(oi 0 1,.arr 3 .int u0)]) (Ag []) ?_))))))));rintro n_ ⟨u2,u0⟩ c_ h hn14;refine Ae (Ab (kQ h (fun _ h=>skW (Ab (Ad (Ab (Aa 8 (rsT 1 (riH .int h fun x20 _ h=>rsT 3 (rnW (An 25 (dz0 (oI 0 1 u0.length) (dz0 (an u2) (dz0 (oI 0 1 u0.length) (dz0 (an u2) ?_))))))))))))) fun _ h=>Ep (te_ (te_ (be_ (bn_ (tn_ (have h:=jO h hn14;jE []))))))));obtain ⟨x21,e21,h⟩:=Ah h;refine dzO (oi 0 1) .int u0.length (Ai e21) (dzE (oi 0 1) e21 (dz0 (tI aA) (dz0 (an u1) (diH .int h fun x22 _ h=>dsT 5 ?_))));obtain ⟨g23,h⟩:=Al h;refine ds0 (ai (Int.tmod (wI (x21+wI (x22*x20))) bA)) (Qu (k:=.i64) (a:=wI (x21+wI (x22*x20))) (b:=bA) kr kr g23) (dzO (oi 0 1) .int u0.length (Ai e21) (dzS (oi 0 1) (Int.tmod (wI (x21+wI (x22*x20))) bA) e21 (Cb (Ar kr) (bn_ (tn_ (wr_ (Aa 27 (raH h fun h=>rsT 1 (Ap (tn_ ?_))))))))));obtain rfl:=zj h;exact jLw hn14 ((wL 9 (((rfl:u0.length=u0.length).trans length_set.symm):u0.length=(u0.set u2 (Int.tmod (wI (x21+wI (x22*x20))) bA)).length)).trans (Ag []))
def Lm (a0 a1 a2:Int) (a3:LL):Option (Int×Int×LL) :=
 (Ex a0 (wI (a1+a2)) a3).bind fun y3 =>
some (a1,a2,y3)
def Dw (r:Int×Int×LL):RV:=⟨false,[(true,[.sc (.int .i64 r.1),.sc (.int .i64 r.2.1),.frz (tS r.2.2)])]⟩
theorem Sm (h:Lm bA bB bC dA=some qA):cK 103 [ai bA,ai bB,ai bC,tS dA] (Dw qA):=by
 exact cZ Tryz.func103 fun zn_ nz_ hz_=>Ae<|Ab<|Aa 12<|rsT 7 (rcM h [] [ai bA,ai<|wI<|bB+bC,tS dA] (fun h=>Ur<|Jx h) trivial (aR kr) (Ba kr kr trivial) fun y3 h=>rsB 2<|rnW<|Ac<|jZ h [(true,[ai bB,ai bC,oS 256 9 y3.length])]<|Gd (A5 Dg<|A5 Dg<|A5 (Cd<|.mat (p:=oi 257 9) (e1:=81) (e:=3) kr (Er kr) rfl) Ge) Dd)
def Gp (u3:LL) (u1:Nat) (u4:Int) (u0:Nat) (u2:LL):Option (Ctl (Nat×LL) (LL)) :=
 cond (decide ((u0:Int)<(u3.length:Int)))
 ((u3[u0]?).bind fun x21 =>
 (u2[u1]?).bind fun x22 =>
 (Ce x21 (wI (u4+(u1:Int)))).bind fun x23 =>
 og (x22.length+1<=1073741824/\(x22.length+1)*8<=140737488355328) <|
 og (u0+1<4611686018427387904) <|
 some (.next (u0+1,u2.set u1 (x22++([x23])))))
 (some (.out u2))
def Gl (u3:LL) (u1:Nat) (a0:Int) (u0:Nat) (u2:LL):Option (Ctl (Nat×LL) (LL)) :=
 cond (decide ((u0:Int)<(u3.length:Int)))
 ((u3[u0]?).bind fun x33 =>
 (u2[u1]?).bind fun x34 =>
 (x33[u1]?).bind fun x35 =>
 (Fy a0 x35).bind fun y36 =>
 og (x34.length+1<=1073741824/\(x34.length+1)*8<=140737488355328) <|
 og (u0+1<4611686018427387904) <|
 some (.next (u0+1,u2.set u1 (x34++([y36])))))
 (some (.out u2))
def J9 (u2:Int) (u3:LL) (u4:Int) (u5:LL) (a0:Int) (u0:Nat) (u1:LL):Option (Ctl (Nat×LL) (LL)) :=
 cond (decide ((u0:Int)<(u2.toNat:Int)))
 (((Aq (fun s_:Nat×LL=>Gp u3 u0 u4 s_.1 s_.2) 4611686018427387904 (0,u1)).bind fun u6 =>
  Aq (fun s_:Nat×LL=>Gl u5 u0 a0 s_.1 s_.2) 4611686018427387904 (0,u6)).bind fun u7 =>
 og (u0+1<4611686018427387904) <|
 some (.next (u0+1,u7)))
 (some (.out u1))
def Kb (y43 u1:LL) (a0 u2:Int) (u0 u5:Int) (u6:LL) (u3:Nat) (u4:LL):Option (Ctl (Nat×LL) (LL)) :=
 cond (decide ((u3:Int)<(y43.length:Int)))
 ((y43[u3]?).bind fun x50 =>
 og ((0:Int)<=0/\0<=(u1.length:Int)/\(u1.length:Int)<=(x50.length:Int)) <|
 (Lw a0 (wI (u2+u0)) u1 (x50.take u1.length)).bind fun y53 =>
 og ((0:Int)<=(u1.length:Int)/\(u1.length:Int)<=(x50.length:Int)/\(x50.length:Int)<=(x50.length:Int)) <|
 (Lw a0 (wI (u0+u5)) u6 (x50.drop u1.length)).bind fun y56 =>
 og ((0:Int)<=0/\0<=u2/\u2<=(y53.length:Int)) <|
 (Hi (y53.take u2.toNat)).bind fun y58 =>
 og ((0:Int)<=u0/\u0<=(y56.length:Int)/\(y56.length:Int)<=(y56.length:Int)) <|
 og (y58.length+(((y56.drop u0.toNat).take (((y56.length:Int) - u0).toNat)).length)<=1073741824/\(y58.length+(((y56.drop u0.toNat).take (((y56.length:Int) - u0).toNat)).length))*8<=140737488355328) <|
 og (u4.length+1<=1073741824/\(u4.length+1)*24<=140737488355328) <|
 og (u3+1<4611686018427387904) <|
 some (.next (u3+1,u4++[y58++((y56.drop u0.toNat).take (((y56.length:Int) - u0).toNat))])))
 (some (.out u4))
def Gt (a0 u1 u0:Int) (u2:LL) (u7 u4:Int) (u3:LL):Option (Int×Int×LL) :=
 og (0<=u0/\u0<=u0/\u0<=1073741824/\(24:Int)*u0<=140737488355328) <|
(Aq (fun s_:Nat×LL=>J9 u0 u2 u1 u3 a0 s_.1 s_.2) 4611686018427387904 (0,replicate u0.toNat ([]:List Int))).bind fun u5 =>
((Ko a0 (wI ((u2.length:Int)+(u3.length:Int))) u5).bind fun y43 =>
 Aq (fun s_:Nat×LL=>Kb y43 u2 a0 u1 u0 u4 u3 s_.1 s_.2) 4611686018427387904 (0,([]:LL))).bind fun u6 =>
(Lm a0 u1 u4 u6).bind fun y64 =>
some (y64.1,y64.2.1,y64.2.2)
theorem Yn (h:Gt bA bB bC dA bD bE dB=some qA):cK 56 [ai bA,.agg [ai bB,ai bC,tS dA],.agg [ai bD,ai bE,tS dB]] (Dw qA):=by
 refine cZ Tryz.func56 fun zn_ nz_ hz_=>Ae (Ae (Ab (Aa 10 (rsT 1 ?_))))
 obtain ⟨g4,h⟩:=Al h;refine Ain (oS 352 8 bC.toNat) (oi 352 8) 81 3 .int (replicate bC.toNat ([]:List Int)) trivial (Ab4 (j:=bC.toNat) (k:=.i64) (k':=.i64) (m:=bC) (c:=bC) 3 kr kr g4 kr rfl) kr (by rw [length_replicate]) kr (rsT 1 (rnW (sqF h (fun ub=>sT [(0,ai bA),(4,.box (oi 0 1) 0),(5,.box (oi 1 1) 0),(6,.box (oi 2 1) 0),(7,ai bC),(8,oS 3 1 ub.length)] [(oi 0 1,.cells 30 [ai bB,ai bC,tS dA]),(oi 1 1,.cells 30 [ai bD,ai bE,tS dB]),(oi 2 1,.cells 30 [ai 0,ai 0,.nils]),(oi 3 1,.mat 81 (oi 4 1) .int ub),(oi 4 1,.pool 3 .int ub)]) ?_ ?_)))
 ·intro _ h;refine Ae (Ad (lpF h (fun (u1,ud)=>sT [(0,ai bA),(4,.box (oi 0 1) 0),(5,.box (oi 1 1) 0),(6,.box (oi 2 1) 0),(7,ai bC),(8,oS 3 1 ud.length),(24,an bC.toNat),(25,an u1)] [(oi 0 1,.cells 30 [ai bB,ai bC,tS dA]),(oi 1 1,.cells 30 [ai bD,ai bE,tS dB]),(oi 2 1,.cells 30 [ai 0,ai 0,.nils]),(oi 3 1,.mat 81 (oi 4 1) .int ud),(oi 4 1,.pool 3 .int ud)]) ((wL 8 (length_replicate.symm:bC.toNat=(replicate bC.toNat ([]:List Int)).length)).trans (Ag [(oi 0 1,oi 4 1),(oi 1 1,oi 5 2),(oi 2 1,oi 6 3),(oi 3 1,oi 352 8),(oi 4 1,oi 352 8)])) ?_));rintro n_ ⟨u1,ud⟩ c_ h hn7
  (try dsimp only at h);refine Ae (Ab (kQ h (fun q10 h=>?_) fun q10 h=>?_))
  ·have q10_:=of_decide_eq_true q10;refine skW (sqF h (fun ue=>sT [(0,ai bA),(4,.box (oi 0 1) 0),(5,.box (oi 1 1) 0),(6,.box (oi 2 1) 0),(7,ai bC),(8,oS 3 1 ue.length),(24,an bC.toNat),(25,an u1)] [(oi 0 1,.cells 30 [ai bB,ai bC,tS dA]),(oi 1 1,.cells 30 [ai bD,ai bE,tS dB]),(oi 2 1,.cells 30 [ai 0,ai 0,.nils]),(oi 3 1,.mat 81 (oi 4 1) .int ue),(oi 4 1,.pool 3 .int ue)]) ?_ ?_)
   ·intro _ h;refine Ad (Ae (sqF h (fun uf=>sT [(0,ai bA),(4,.box (oi 0 1) 0),(5,.box (oi 1 1) 0),(6,.box (oi 2 1) 0),(7,ai bC),(8,oS 3 1 uf.length),(9,an u1),(24,an bC.toNat),(25,an u1)] [(oi 0 1,.cells 30 [ai bB,ai bC,tS dA]),(oi 1 1,.cells 30 [ai bD,ai bE,tS dB]),(oi 2 1,.cells 30 [ai 0,ai 0,.nils]),(oi 3 1,.mat 81 (oi 4 1) .int uf),(oi 4 1,.pool 3 .int uf)]) ?_ ?_))
    ·intro _ h;refine Ae (Ad (lpF h (fun (ug,u4)=>sT [(0,ai bA),(4,.box (oi 0 1) 0),(5,.box (oi 1 1) 0),(6,.box (oi 2 1) 0),(7,ai bC),(8,oS 3 1 u4.length),(9,an u1),(24,an bC.toNat),(25,an u1),(29,tS dA),(30,an dA.length),(31,an ug)] [(oi 0 1,.cells 30 [ai bB,ai bC,tS dA]),(oi 1 1,.cells 30 [ai bD,ai bE,tS dB]),(oi 2 1,.cells 30 [ai 0,ai 0,.nils]),(oi 3 1,.mat 81 (oi 4 1) .int u4),(oi 4 1,.pool 3 .int u4)]) (Ag []) ?_));rintro n_ ⟨ug,u4⟩ c_ h hn15
     (try dsimp only at h);refine Ae (Ab (kQ h (fun q18 h=>?_) fun q18 h=>?_))
     ·have q18_:=of_decide_eq_true q18;refine skW (Ab (Ad (Ab (Aa 6 (riH sI h fun x21 _ h=>rsT 2 (rnW (An 23 (dz0 (oS 3 1 u4.length) (dz0 (an u1) (dz0 (oS 3 1 u4.length) (dz0 (an u1) ?_)))))))))));obtain ⟨x22,e22,h⟩:=Ah h;refine dzO (oi 3 1) sI u4.length (Ai e22) (dsl (.own (kid (oi 4 1) u1) .int 0 x22.length) (Fc (o:=oi 3 1) (p:=oi 4 1) (e1:=81) (u:=.int) (xss:=u4) (row:=x22) (j:=u1) kr kr e22) (dsT 5 ?_));obtain ⟨x23,f23,h⟩:=Ah h;obtain ⟨p23,b23,e23⟩:=As f23;refine ds0 (.telt none .int x23 0) (zi (t:=.int) (xs:=x21) (k:=.i64) (m:=wI (bB+(u1:Int))) p23 e23) (dz0 (ai x23) (ds1 (oI 48 19 1) (oi 48 19) (.arr 3 .int ([x23])) kr ?_));obtain ⟨g24,h⟩:=Al h;refine ds2 (.own (kid (oi 4 20) u1) .int 0 ((x22++([x23])).length)) (kid (oi 4 1) u1) (kid (oi 4 20) u1) (.arr 3 .int (x22++([x23]))) (Px (t:=.int) (t':=.int) (xs:=x22) (ys:=[x23]) (zs:=x22++([x23])) (j:=kid (oi 4 1) u1) (len:=x22.length) (c:=oI 48 19 1) kr ((K5 (L:=[kid (oi 4 1) u1,oi 48 19]) mem_cons_self).trans (Bo kr e22)) rfl kr (H9 (e:=3) kr rfl) rfl g24) (dzO (oi 3 1) sI u4.length (Ai e22) (Lg (oi 3 1) (oi 3 1) (.vec 81 1 u4.length ((hdL (oi 4 1) .int u4).set u1 (.own (kid (oi 4 20) u1) .int 0 ((x22++([x23])).length)))) (Ae8 (o:=oi 3 1) (e1:=81) (m:=u4.length) (cs:=hdL (oi 4 1) .int u4) (v:=.own (kid (oi 4 20) u1) .int 0 ((x22++([x23])).length)) (j:=u1) kr kr kr rfl (by rw [Do];exact Ai e22)) (Cb (Ar kr) (bn_ (tn_ ⟨_,Ac6 (e1:=81) (e:=3) (u:=.int) (n:=u4.length) (len:=(x22++([x23])).length) (row:=x22++([x23])) (ys:=x22++([x23])) (xss:=u4) (j:=u1) 9000 (oi 3 1) (oi 4 1) (kid (oi 4 20) u1) kr kr rfl kr (by repeat first|exact Ajy|refine entAt_sk rfl ?_) (N1 rfl) (Ny rfl) kr kr kr,?_⟩)))));refine Aa 26 ?_;obtain ⟨g25,h⟩:=Al h;refine zA g25 (rsT 1 (Ap (tn_ ?_)));obtain rfl:=zj h;exact jLw hn15 ((wL 8 ((Eq.trans (b:=u4.length) rfl length_set.symm):u4.length=(u4.set u1 (x22++([x23]))).length)).trans (Ag [(oi 4 1,oi 9000 23)]))
     have q18_:=of_decide_eq_false q18;refine lxT ?_;have h:=jO h hn15
     (try dsimp only at h);exact jE []
    intro uf h
    (try dsimp only at h);refine Ae (Ad (lpF h (fun (uh,u5)=>sT [(0,ai bA),(4,.box (oi 0 1) 0),(5,.box (oi 1 1) 0),(6,.box (oi 2 1) 0),(7,ai bC),(8,oS 3 1 u5.length),(9,an u1),(24,an bC.toNat),(25,an u1),(53,tS dB),(54,an dB.length),(55,an uh)] [(oi 0 1,.cells 30 [ai bB,ai bC,tS dA]),(oi 1 1,.cells 30 [ai bD,ai bE,tS dB]),(oi 2 1,.cells 30 [ai 0,ai 0,.nils]),(oi 3 1,.mat 81 (oi 4 1) .int u5),(oi 4 1,.pool 3 .int u5)]) (Ag []) ?_));rintro n_ ⟨uh,u5⟩ c_ h hn27
    (try dsimp only at h);refine Ae (Ab (kQ h (fun q30 h=>?_) fun q30 h=>?_))
    ·have q30_:=of_decide_eq_true q30;refine skW (Ab (Ad (Ab (Aa 6 (riH sI h fun x33 _ h=>rsT 2 (rnW (An 22 (dsT 4 ?_))))))));obtain ⟨x34,e34,h⟩:=Ah h;refine dzO (oi 3 1) sI u5.length (Ai e34) (dsl (.own (kid (oi 4 1) u1) .int 0 x34.length) (Fc (o:=oi 3 1) (p:=oi 4 1) (e1:=81) (u:=.int) (xss:=u5) (row:=x34) (j:=u1) kr kr e34) (dz0 (ai bA) (dz0 (tI x33) (dz0 (an u1) (diH .int h fun x35 _ h=>dz0 (ai x35) (dcH h (fun h=>I9 (Ra h)) fun y36 h=>ds1 (oI 71 18 1) (oi 71 18) (.arr 3 .int ([y36])) kr ?_))))));obtain ⟨g37,h⟩:=Al h;refine ds2 (.own (kid (oi 4 19) u1) .int 0 ((x34++([y36])).length)) (kid (oi 4 1) u1) (kid (oi 4 19) u1) (.arr 3 .int (x34++([y36]))) (Px (t:=.int) (t':=.int) (xs:=x34) (ys:=[y36]) (zs:=x34++([y36])) (j:=kid (oi 4 1) u1) (len:=x34.length) (c:=oI 71 18 1) kr ((K5 (L:=[kid (oi 4 1) u1,oi 71 18]) mem_cons_self).trans (Bo kr e34)) rfl kr (H9 (e:=3) kr rfl) rfl g37) (dzO (oi 3 1) sI u5.length (Ai e34) (Lg (oi 3 1) (oi 3 1) (.vec 81 1 u5.length ((hdL (oi 4 1) .int u5).set u1 (.own (kid (oi 4 19) u1) .int 0 ((x34++([y36])).length)))) (Ae8 (o:=oi 3 1) (e1:=81) (m:=u5.length) (cs:=hdL (oi 4 1) .int u5) (v:=.own (kid (oi 4 19) u1) .int 0 ((x34++([y36])).length)) (j:=u1) kr kr kr rfl (by rw [Do];exact Ai e34)) (Cb (Ar kr) (bn_ (tn_ ⟨_,Ac6 (e1:=81) (e:=3) (u:=.int) (n:=u5.length) (len:=(x34++([y36])).length) (row:=x34++([y36])) (ys:=x34++([y36])) (xss:=u5) (j:=u1) 9000 (oi 3 1) (oi 4 1) (kid (oi 4 19) u1) kr kr rfl kr (by repeat first|exact Ajy|refine entAt_sk rfl ?_) (N1 rfl) (Ny rfl) kr kr kr,?_⟩)))));refine Aa 25 ?_;obtain ⟨g38,h⟩:=Al h;refine zA g38 (rsT 1 (Ap (tn_ ?_)));obtain rfl:=zj h;exact jLw hn27 ((wL 8 ((Eq.trans (b:=u5.length) rfl length_set.symm):u5.length=(u5.set u1 (x34++([y36]))).length)).trans (Ag [(oi 4 1,oi 9000 22)]))
    have q30_:=of_decide_eq_false q30;refine Ep (te_ (te_ (be_ (bn_ (tn_ ?_)))));have h:=jO h hn27
    (try dsimp only at h);exact jE []
   intro ue h
   (try dsimp only at h);refine Aa 4 ?_;obtain ⟨g39,h⟩:=Al h;exact zA g39 (rsT 1 (Ap (tn_ (jL []))))
  have q10_:=of_decide_eq_false q10;refine lxT ?_;have h:=jO h hn7
  (try dsimp only at h);exact jE []
 intro ub h
 (try dsimp only at h);refine Ae (sqF h (fun uc=>sT [(0,ai bA),(4,.box (oi 0 1) 0),(5,.box (oi 1 1) 0),(6,.box (oi 2 1) 0),(14,oS 3 1 uc.length)] [(oi 0 1,.cells 30 [ai bB,ai bC,tS dA]),(oi 1 1,.cells 30 [ai bD,ai bE,tS dB]),(oi 2 1,.cells 30 [ai 0,ai 0,.nils]),(oi 3 1,.mat 81 (oi 4 1) .int uc),(oi 4 1,.pool 3 .int uc)]) ?_ ?_)
 ·intro _ h;refine Ab (Aa 15 (rsT 9 (rcM h [] [ai bA,ai (wI ((dA.length:Int)+(dB.length:Int))),oS 3 1 ub.length] (fun h=>Ur (Ut h)) trivial (.cons (.ren kr) (.cons (.ren kr) (.cons (.gnd kr (Sn (p:=oi 4 1) (e1:=81) (e:=3) (u:=.int) (xss:=ub) ((L3 kr kr kr).trans kr) (Zg kr kr (Er kr) kr) rfl)) .nil))) (Ba kr kr trivial) fun y43 h=>rsT 2 (rnW (Ad (lpF h (fun (u9,ua)=>sT [(0,ai bA),(4,.box (oi 0 1) 0),(5,.box (oi 1 1) 0),(6,.box (oi 2 1) 0),(7,ai bC),(14,oS 3 1 ua.length),(85,oS 5 1 y43.length),(86,an y43.length),(87,an u9)] [(oi 0 1,.cells 30 [ai bB,ai bC,tS dA]),(oi 1 1,.cells 30 [ai bD,ai bE,tS dB]),(oi 2 1,.cells 30 [ai 0,ai 0,.nils]),(oi 3 1,.mat 81 (oi 4 1) .int ua),(oi 4 1,.pool 3 .int ua),(oi 5 1,.mat 81 (oi 6 1) .int y43),(oi 6 1,.pool 3 .int y43)]) ((My 14 81 sI kr).trans ((Dt (e1:=81) (n:=0) 9000 (oi 14 15) 3 .int kr kr rfl kr kr).trans (Ag [(oi 3 1,oi 14 15),(oi 4 1,oi 9000 16),(oi 5 1,oi 1360 12),(oi 6 1,oi 1361 12)]))) ?_))))));rintro n_ ⟨u9,ua⟩ c_ h hn44
  (try dsimp only at h);refine Ae (Ab (kQ h (fun q47 h=>?_) fun q47 h=>?_))
  ·have q47_:=of_decide_eq_true q47;refine skW (Ab (Ad (Ab (Aa 6 ?_))));obtain ⟨x50,e50,h⟩:=Ah h;refine zO (oi 5 1) sI y43.length (Ai e50) (rsl (.own (kid (oi 6 1) u9) .int 0 x50.length) (Fc (o:=oi 5 1) (p:=oi 6 1) (e1:=81) (u:=.int) (xss:=y43) (row:=x50) (j:=u9) kr kr e50) (rsT 1 (rnW (Ab (An 20 (dsT 11 ?_))))));obtain ⟨g52,h⟩:=Al h;obtain ⟨y53,h53,h⟩:=Ah h;refine ds0 (.own (kid (oi 6 1) u9) .int 0 dA.length) (Gv (t:=.int) (i:=kid (oi 6 1) u9) (off:=0) (len:=x50.length) (l:=0) (h:=(dA.length:Int)) kr kr kr rfl g52 rfl oM) (Ou (oI 1648 18 y53.length) [nI 1648 18 y53] [ai bA,ai (wI (bB+bC)),tS dA,.own (kid (oi 6 1) u9) .int 0 dA.length] _ (caps:=[]) (args0:=[ai bA,ai (wI (bB+bC)),tS dA,tI (x50.take dA.length)]) trivial (Av kr (Av kr (Av kr (Av (Aiy (e:=3) (u:=.int) (xs:=x50) ((K5 (Re (t:=.int) (off:=0) (len:=dA.length) 3 rfl kr)).trans (Bo kr e50)) oM) Dp)))) (I9 (Vu h53)) kr (dz0 (oI 1648 18 y53.length) (Cb (Ar kr) (tn_ (wr_ (Ab (An 34 (dsT 11 ?_))))))));obtain ⟨g55,h⟩:=Al h;obtain ⟨y56,h56,h⟩:=Ah h;refine ds0 (.own (kid (oi 6 1) u9) .int dA.length (x50.length - dA.length)) (Gv (t:=.int) (i:=kid (oi 6 1) u9) (off:=0) (len:=x50.length) (l:=(dA.length:Int)) (h:=(x50.length:Int)) kr kr kr rfl g55 (Nat.zero_add _) oM) (Ou (oI 1856 32 y56.length) [nI 1856 32 y56] [ai bA,ai (wI (bC+bE)),tS dB,.own (kid (oi 6 1) u9) .int dA.length (x50.length - dA.length)] _ (caps:=[]) (args0:=[ai bA,ai (wI (bC+bE)),tS dB,tI (x50.drop dA.length)]) trivial (Av kr (Av kr (Av kr (Av (Asq (e:=3) (u:=.int) (xs:=x50) ((K5 (Re (t:=.int) (off:=dA.length) (len:=x50.length - dA.length) 3 rfl kr)).trans (Bo kr e50)) oM (by rw [take_of_length_le (by rw [length_drop];omega)])) Dp)))) (I9 (Vu h56)) kr (dz0 (oI 1856 32 y56.length) (Cb (Ar kr) (tn_ (wr_ (An 47 (dsT 4 ?_)))))));obtain ⟨g57,h⟩:=Al h;obtain ⟨y58,h58,h⟩:=Ah h;obtain ⟨g59,h⟩:=Al h;obtain ⟨g60,h⟩:=Al h;obtain ⟨g61,h⟩:=Al h;refine ds0 (oI 1648 18 bB.toNat) (Gv (t:=.int) (i:=oi 1648 18) (off:=0) (len:=y53.length) (l:=0) (h:=bB) kr kr kr rfl g57 rfl oM) (Ou (oI 1952 39 y58.length) [nI 1952 39 y58] [oI 1648 18 bB.toNat] _ (caps:=[]) (args0:=[tI (y53.take bB.toNat)]) trivial (Av (Aiy (e:=3) kr oM) Dp) (I9 (Np h58)) kr (dz0 (oI 1856 32 y56.length) (dz0 (ai bC) (ds0 (.own (oi 1856 32) .int bC.toNat (((y56.length:Int) - bC).toNat)) (Gv (t:=.int) (i:=oi 1856 32) (off:=0) (len:=y56.length) (l:=bC) (h:=(y56.length:Int)) kr kr kr rfl g59 (Nat.zero_add _) oM) (ds2 (oI 1952 43 ((y58++((y56.drop bC.toNat).take (((y56.length:Int) - bC).toNat))).length)) (oi 1952 39) (oi 1952 43) (.arr 3 .int (y58++((y56.drop bC.toNat).take (((y56.length:Int) - bC).toNat)))) (Px (t:=.int) (t':=.int) (xs:=y58) (ys:=(y56.drop bC.toNat).take (((y56.length:Int) - bC).toNat)) (zs:=y58++((y56.drop bC.toNat).take (((y56.length:Int) - bC).toNat))) (j:=oi 1952 39) (len:=y58.length) (c:=.own (oi 1856 32) .int bC.toNat (((y56.length:Int) - bC).toNat)) kr kr rfl kr (Azs (e:=3) (t:=.int) (xs:=y56) kr oM rfl) rfl g60) (Amo (oS 127 44 1) (oi 127 44) (.vec 81 1 1 ([oI 1952 43 ((y58++((y56.drop bC.toNat).take (((y56.length:Int) - bC).toNat))).length)])) trivial (C8 kr) (dzV (oi 3 1) (oi 127 44) (oi 4 1) ua [oI 1952 43 ((y58++((y56.drop bC.toNat).take (((y56.length:Int) - bC).toNat))).length)] g61 (dz0 (oS 3 45 (ua.length+1)) (Cb (Ar kr) (bn_ (tn_ ⟨_,Eu (e1:=81) (e:=3) (u:=.int) (n:=ua.length+1) (len:=(y58++((y56.drop bC.toNat).take (((y56.length:Int) - bC).toNat))).length) (row:=y58++((y56.drop bC.toNat).take (((y56.length:Int) - bC).toNat))) (ys:=y58++((y56.drop bC.toNat).take (((y56.length:Int) - bC).toNat))) (xss:=ua) 9000 (oi 3 45) (oi 4 1) (oi 1952 43) kr kr rfl kr kr (N1 rfl) (Ny rfl) kr kr kr,Aa 50 ?_⟩)))))))))));obtain ⟨g62,h⟩:=Al h;refine zA g62 (rsT 1 (Ap (tn_ ?_)));obtain rfl:=zj h;exact jLw hn44 ((wL 14 ((by simp):ua.length+1=(ua++[y58++((y56.drop bC.toNat).take (((y56.length:Int) - bC).toNat))]).length)).trans (Ag [(oi 3 1,oi 3 45),(oi 4 1,oi 9000 47)]))
  have q47_:=of_decide_eq_false q47;refine lxT ?_;have h:=jO h hn44
  (try dsimp only at h);exact jE []
 intro uc h
 (try dsimp only at h);exact Ab (Aa 10 (rsT 6 (rcG h [ai bA,ai bB,ai bE,oS 3 1 uc.length] (fun h=>J6 hz_ (Sm h)) (Av kr (Av kr (Av kr (Av (Sn (p:=oi 4 1) (e1:=81) (e:=3) (u:=.int) (xss:=uc) kr (Er kr) rfl) Dp)))) fun y64 h=>rsB 1 (rnW (Ac (jZ h [(true,[ai y64.1,ai y64.2.1,.ftr nz_ sI y64.2.2])] (Gd (A5 Dg (A5 Dg (A5 (Cd .ftr) Ge))) Dd)))))))
def Ld (x12:List Int) (u1 u3:Int) (u0:Nat) (u2:List Int):Option (Ctl (Nat×List Int) (List Int)) :=
 cond (decide ((u0:Int)<(x12.length:Int)))
 (((x12[u0]?).bind fun x23 =>
  cond (decide ((u0:Int)<u1))
   ((u2[u0]?).bind fun x26 =>
   some (u2.set u0 x23))
   ((Ce u2 (wI ((wI (wI (u1+u3)+(u0:Int))) - u1))).bind fun x27 =>
   (Ce u2 (wI ((wI (wI (u1+u3)+(u0:Int))) - u1))).bind fun x28 =>
   some (u2.set ((wI ((wI (wI (u1+u3)+(u0:Int))) - u1)).toNat) x23))).bind fun u4 =>
 og (u0+1<4611686018427387904) <|
 some (.next (u0+1,u4)))
 (some (.out u2))
def Lb (u6:LL) (u0 u1:Int) (u2 u3:Int) (u4:Nat) (u5:LL):Option (Ctl (Nat×LL) (LL)) :=
 cond (decide ((u4:Int)<(u6.length:Int)))
 (((u6[u4]?).bind fun x12 =>
  og (0<=wI (wI (u0+u1)+wI (u2+u3))/\wI (wI (u0+u1)+wI (u2+u3))<=wI (wI (u0+u1)+wI (u2+u3))/\wI (wI (u0+u1)+wI (u2+u3))<=1073741824/\(8:Int)*(wI (wI (u0+u1)+wI (u2+u3)))<=140737488355328) <|
  (Aq (fun s_:Nat×List Int=>Ld x12 u0 u1 s_.1 s_.2) 4611686018427387904 (0,replicate ((wI (wI (u0+u1)+wI (u2+u3))).toNat) (0:Int))).bind fun u7 =>
  og (u5.length+1<=1073741824/\(u5.length+1)*24<=140737488355328) <|
  some (u5++[u7])).bind fun u8 =>
 og (u4+1<4611686018427387904) <|
 some (.next (u4+1,u8)))
 (some (.out u5))
def Li (x40:List Int) (u1 u3 u4:Int) (u0:Nat) (u2:List Int):Option (Ctl (Nat×List Int) (List Int)) :=
 cond (decide ((u0:Int)<(x40.length:Int)))
 (((x40[u0]?).bind fun x51 =>
  cond (decide ((u0:Int)<u1))
   ((Ce u2 (wI (u3+(u0:Int)))).bind fun x54 =>
   (Ce u2 (wI (u3+(u0:Int)))).bind fun x55 =>
   some (u2.set ((wI (u3+(u0:Int))).toNat) x51))
   ((Ce u2 (wI ((wI (wI (wI (u3+u1)+u4)+(u0:Int))) - u1))).bind fun x56 =>
   (Ce u2 (wI ((wI (wI (wI (u3+u1)+u4)+(u0:Int))) - u1))).bind fun x57 =>
   some (u2.set ((wI ((wI (wI (wI (u3+u1)+u4)+(u0:Int))) - u1)).toNat) x51))).bind fun u5 =>
 og (u0+1<4611686018427387904) <|
 some (.next (u0+1,u5)))
 (some (.out u2))
def La (u6:LL) (u0 u1:Int) (u2 u3:Int) (u4:Nat) (u5:LL):Option (Ctl (Nat×LL) (LL)) :=
 cond (decide ((u4:Int)<(u6.length:Int)))
 (((u6[u4]?).bind fun x40 =>
  og (0<=wI (wI (u0+u1)+wI (u2+u3))/\wI (wI (u0+u1)+wI (u2+u3))<=wI (wI (u0+u1)+wI (u2+u3))/\wI (wI (u0+u1)+wI (u2+u3))<=1073741824/\(8:Int)*(wI (wI (u0+u1)+wI (u2+u3)))<=140737488355328) <|
  (Aq (fun s_:Nat×List Int=>Li x40 u1 u0 u2 s_.1 s_.2) 4611686018427387904 (0,replicate ((wI (wI (u0+u1)+wI (u2+u3))).toNat) (0:Int))).bind fun u7 =>
  og (u5.length+1<=1073741824/\(u5.length+1)*24<=140737488355328) <|
  some (u5++[u7])).bind fun u8 =>
 og (u4+1<4611686018427387904) <|
 some (.next (u4+1,u8)))
 (some (.out u5))
def Hu (a0 u0 u1:Int) (u4:LL) (u2 u3:Int) (u5:LL):Option (Int×Int×LL) :=
 (Aq (fun s_:Nat×LL=>Lb u4 u0 u2 u1 u3 s_.1 s_.2) 4611686018427387904 (0,([]:LL))).bind fun u6 =>
(Aq (fun s_:Nat×LL=>La u5 u0 u2 u1 u3 s_.1 s_.2) 4611686018427387904 (0,u6)).bind fun u7 =>
(Lm a0 (wI (u0+u2)) (wI (u1+u3)) u7).bind fun y62 =>
some (y62.1,y62.2.1,y62.2.2)
theorem Aan (h:Hu bA bB bC dA bD bE dB=some qA):cK 57 [ai bA,.agg [ai bB,ai bC,tS dA],.agg [ai bD,ai bE,tS dB]] (Dw qA):=by
 refine cZ Tryz.func57 fun zn_ nz_ hz_=>Ae (Ab (An 16 (dsT 12 (Cb (Ar kr) (tn_ (wr_ (Ae (sqF h (fun uh=>sT [(0,ai bA),(4,.box (oi 0 1) 0),(5,.box (oi 1 1) 0),(6,.box (oi 2 1) 0),(7,ai (wI (bB+bD))),(8,ai (wI (bC+bE))),(9,oS 3 1 uh.length)] [(oi 0 1,.cells 30 [ai bB,ai bC,tS dA]),(oi 1 1,.cells 30 [ai bD,ai bE,tS dB]),(oi 2 1,.cells 30 [ai 0,ai 0,.nils]),(oi 3 1,.mat 81 (oi 4 1) .int uh),(oi 4 1,.pool 3 .int uh)]) ?_ ?_))))))))
 ·intro _ h;refine Ae (Ad (lpF h (fun (ue,u6)=>sT [(0,ai bA),(4,.box (oi 0 1) 0),(5,.box (oi 1 1) 0),(6,.box (oi 2 1) 0),(7,ai (wI (bB+bD))),(8,ai (wI (bC+bE))),(9,oS 3 1 u6.length),(31,tS dA),(32,an dA.length),(33,an ue)] [(oi 0 1,.cells 30 [ai bB,ai bC,tS dA]),(oi 1 1,.cells 30 [ai bD,ai bE,tS dB]),(oi 2 1,.cells 30 [ai 0,ai 0,.nils]),(oi 3 1,.mat 81 (oi 4 1) .int u6),(oi 4 1,.pool 3 .int u6)]) ((My 9 81 sI kr).trans ((Dt (e1:=81) (n:=0) 9000 (oi 9 21) 3 .int kr kr rfl kr kr).trans (Ag [(oi 0 1,oi 4 1),(oi 1 1,oi 5 2),(oi 2 1,oi 6 3),(oi 3 1,oi 9 21),(oi 4 1,oi 9000 22)]))) ?_));rintro n_ ⟨ue,u6⟩ c_ h hn6;refine Ae (Ab (kQ h (fun _ h=>skW (sqF h (fun ui=>sT [(0,ai bA),(4,.box (oi 0 1) 0),(5,.box (oi 1 1) 0),(6,.box (oi 2 1) 0),(7,ai (wI (bB+bD))),(8,ai (wI (bC+bE))),(9,oS 3 1 ui.length),(31,tS dA),(32,an dA.length),(33,an ue)] [(oi 0 1,.cells 30 [ai bB,ai bC,tS dA]),(oi 1 1,.cells 30 [ai bD,ai bE,tS dB]),(oi 2 1,.cells 30 [ai 0,ai 0,.nils]),(oi 3 1,.mat 81 (oi 4 1) .int ui),(oi 4 1,.pool 3 .int ui)]) ?_ fun ui h=>Aa 4 (raH h fun h=>rsT 1 (Ap (tn_ (jL [])))))) fun _ h=>lxT (have h:=jO h hn6;jE [])));intro _ h;refine Ad (Ab (Aa 6 (riH sI h fun x12 _ h=>rsT 2 (rnW (Ab (Aa 11 (rsT 3 ?_)))))));obtain ⟨g14,h⟩:=Al h;refine rs1 (oI 40 9 ((wI (wI (bB+bD)+wI (bC+bE))).toNat)) (oi 40 9) (.arr 3 .int (replicate ((wI (wI (bB+bD)+wI (bC+bE))).toNat) (0:Int))) (Pp (t:=.int) (k:=.i64) (k':=.i64) (m:=wI (wI (bB+bD)+wI (bC+bE))) (m':=wI (wI (bB+bD)+wI (bC+bE))) kr kr g14 rfl) (rsT 1 (rnW (sqF h (fun ua=>sT [(0,ai bA),(4,.box (oi 0 1) 0),(5,.box (oi 1 1) 0),(6,.box (oi 2 1) 0),(7,ai (wI (bB+bD))),(8,ai (wI (bC+bE))),(9,oS 3 1 u6.length),(12,oI 5 1 ua.length),(31,tS dA),(32,an dA.length),(33,an ue)] [(oi 0 1,.cells 30 [ai bB,ai bC,tS dA]),(oi 1 1,.cells 30 [ai bD,ai bE,tS dB]),(oi 2 1,.cells 30 [ai 0,ai 0,.nils]),(oi 3 1,.mat 81 (oi 4 1) .int u6),(oi 4 1,.pool 3 .int u6),(oi 5 1,.arr 3 .int ua)]) ?_ ?_)))
  ·intro _ h;refine Ae (Ad (lpF h (fun (ud,u8)=>sT [(0,ai bA),(4,.box (oi 0 1) 0),(5,.box (oi 1 1) 0),(6,.box (oi 2 1) 0),(7,ai (wI (bB+bD))),(8,ai (wI (bC+bE))),(9,oS 3 1 u6.length),(12,oI 5 1 u8.length),(31,tS dA),(32,an dA.length),(33,an ue),(41,tI x12),(42,an x12.length),(43,an ud)] [(oi 0 1,.cells 30 [ai bB,ai bC,tS dA]),(oi 1 1,.cells 30 [ai bD,ai bE,tS dB]),(oi 2 1,.cells 30 [ai 0,ai 0,.nils]),(oi 3 1,.mat 81 (oi 4 1) .int u6),(oi 4 1,.pool 3 .int u6),(oi 5 1,.arr 3 .int u8)]) ((wL 12 (length_replicate.symm:(wI (wI (bB+bD)+wI (bC+bE))).toNat=(replicate ((wI (wI (bB+bD)+wI (bC+bE))).toNat) (0:Int)).length)).trans (Ag [(oi 5 1,oi 40 9)])) ?_));rintro n_ ⟨ud,u8⟩ c_ h hn17;refine Ae (Ab (kQ h (fun _ h=>skW (sqF h (fun uk=>sT [(0,ai bA),(4,.box (oi 0 1) 0),(5,.box (oi 1 1) 0),(6,.box (oi 2 1) 0),(7,ai (wI (bB+bD))),(8,ai (wI (bC+bE))),(9,oS 3 1 u6.length),(12,oI 5 1 uk.length),(31,tS dA),(32,an dA.length),(33,an ue),(41,tI x12),(42,an x12.length),(43,an ud)] [(oi 0 1,.cells 30 [ai bB,ai bC,tS dA]),(oi 1 1,.cells 30 [ai bD,ai bE,tS dB]),(oi 2 1,.cells 30 [ai 0,ai 0,.nils]),(oi 3 1,.mat 81 (oi 4 1) .int u6),(oi 4 1,.pool 3 .int u6),(oi 5 1,.arr 3 .int uk)]) ?_ fun uk h=>Aa 4 (raH h fun h=>rsT 1 (Ap (tn_ (jL [])))))) fun _ h=>lxT (have h:=jO h hn17;jE [])));intro _ h;refine Ad (Ab (Aa 8 (rsT 1 (riH .int h fun x23 _ h=>rsT 3 (rnW (Ae (kQ h (fun _ h=>?_) fun _ h=>?_)))))))
   ·refine Aa 17 (rsT 3 ?_);obtain ⟨x26,e26,h⟩:=Ah h;refine zO (oi 5 1) .int u8.length (Ai e26) (zS (oi 5 1) (x23) e26 (Ap (bn_ (tn_ ?_))));obtain rfl:=zj h;exact (wL 12 (((rfl:u8.length=u8.length).trans length_set.symm):u8.length=(u8.set ud x23).length)).trans (Ag [])
   refine Aa 22 (rsT 8 ?_);obtain ⟨x27,f27,h⟩:=Ah h;obtain ⟨p27,b27,e27⟩:=As f27;refine rs0 (.elt (oi 5 1) ((wI ((wI (wI (bB+bD)+(ud:Int))) - bB)).toNat) 0) (zo (t:=.int) (o:=oi 5 1) (len:=u8.length) (k:=.i64) (m:=wI ((wI (wI (bB+bD)+(ud:Int))) - bB)) p27 (Ai e27)) ?_;obtain ⟨x28,f28,h⟩:=Ah h;obtain ⟨p28,b28,e28⟩:=As f28;refine zS (oi 5 1) (x23) e28 (Ap (bn_ (tn_ ?_)));obtain rfl:=zj h;exact (wL 12 (((rfl:u8.length=u8.length).trans length_set.symm):u8.length=(u8.set ((wI ((wI (wI (bB+bD)+(ud:Int))) - bB)).toNat) x23).length)).trans (Ag [])
  intro ua h;refine Aa 7 (rsT 2 (I4 (oS 68 4 1) (oi 68 4) (.vec 81 1 1 ([oI 5 1 ua.length])) trivial (C8 kr) ?_));obtain ⟨g30,h⟩:=Al h;refine zV (oi 3 1) (oi 68 4) (oi 4 1) u6 [oI 5 1 ua.length] g30 (rsT 1 (Ap (bn_ (tn_ ?_))));obtain rfl:=zj h;exact (Eu (e1:=81) (e:=3) (u:=.int) (n:=u6.length+1) (len:=ua.length) (row:=ua) (ys:=ua) (xss:=u6) 9000 (oi 3 5) (oi 4 1) (oi 5 1) kr kr rfl kr kr (N1 rfl) (Ny rfl) kr kr kr).trans ((wL 9 ((by simp):u6.length+1=(u6++[ua]).length)).trans (Ag [(oi 3 1,oi 3 5),(oi 4 1,oi 9000 7)]))
 intro uh h;refine sqF h (fun uf=>sT [(0,ai bA),(6,.box (oi 0 1) 0),(7,ai (wI (bB+bD))),(8,ai (wI (bC+bE))),(9,oS 1 1 uf.length)] [(oi 0 1,.cells 30 [ai 0,ai 0,.nils]),(oi 1 1,.mat 81 (oi 2 1) .int uf),(oi 2 1,.pool 3 .int uf)]) ?_ fun uf h=>Ab (Aa 8 (rsT 4 (rcG h [ai bA,ai (wI (bB+bD)),ai (wI (bC+bE)),oS 1 1 uf.length] (fun h=>J6 hz_ (Sm h)) (Av kr (Av kr (Av kr (Av (Sn (p:=oi 2 1) (e1:=81) (e:=3) (u:=.int) (xss:=uf) kr (Er kr) rfl) Dp)))) fun y62 h=>rsB 1 (rnW (Ac (jZ h [(true,[ai y62.1,ai y62.2.1,.ftr nz_ sI y62.2.2])] (Gd (A5 Dg (A5 Dg (A5 (Cd .ftr) Ge))) Dd)))))))
 intro _ h;refine Ae (Ad (lpF h (fun (ug,u7)=>sT [(0,ai bA),(4,.box (oi 0 1) 0),(5,.box (oi 1 1) 0),(6,.box (oi 2 1) 0),(7,ai (wI (bB+bD))),(8,ai (wI (bC+bE))),(9,oS 3 1 u7.length),(72,tS dB),(73,an dB.length),(74,an ug)] [(oi 0 1,.cells 30 [ai bB,ai bC,tS dA]),(oi 1 1,.cells 30 [ai bD,ai bE,tS dB]),(oi 2 1,.cells 30 [ai 0,ai 0,.nils]),(oi 3 1,.mat 81 (oi 4 1) .int u7),(oi 4 1,.pool 3 .int u7)]) (Ag []) ?_));rintro n_ ⟨ug,u7⟩ c_ h hn34;refine Ae (Ab (kQ h (fun _ h=>skW (sqF h (fun uj=>sT [(0,ai bA),(4,.box (oi 0 1) 0),(5,.box (oi 1 1) 0),(6,.box (oi 2 1) 0),(7,ai (wI (bB+bD))),(8,ai (wI (bC+bE))),(9,oS 3 1 uj.length),(72,tS dB),(73,an dB.length),(74,an ug)] [(oi 0 1,.cells 30 [ai bB,ai bC,tS dA]),(oi 1 1,.cells 30 [ai bD,ai bE,tS dB]),(oi 2 1,.cells 30 [ai 0,ai 0,.nils]),(oi 3 1,.mat 81 (oi 4 1) .int uj),(oi 4 1,.pool 3 .int uj)]) ?_ fun uj h=>Aa 4 (raH h fun h=>rsT 1 (Ap (tn_ (jL [])))))) fun _ h=>lxT (have h:=jO h hn34;jE [(oi 0 1,oi 2 1),(oi 1 1,oi 3 1),(oi 2 1,oi 4 1)])));intro _ h;refine Ad (Ab (Aa 6 (riH sI h fun x40 _ h=>rsT 2 (rnW (Ab (Aa 11 (rsT 3 ?_)))))));obtain ⟨g42,h⟩:=Al h;refine rs1 (oI 81 9 ((wI (wI (bB+bD)+wI (bC+bE))).toNat)) (oi 81 9) (.arr 3 .int (replicate ((wI (wI (bB+bD)+wI (bC+bE))).toNat) (0:Int))) (Pp (t:=.int) (k:=.i64) (k':=.i64) (m:=wI (wI (bB+bD)+wI (bC+bE))) (m':=wI (wI (bB+bD)+wI (bC+bE))) kr kr g42 rfl) (rsT 1 (rnW (sqF h (fun ub=>sT [(0,ai bA),(4,.box (oi 0 1) 0),(5,.box (oi 1 1) 0),(6,.box (oi 2 1) 0),(7,ai (wI (bB+bD))),(8,ai (wI (bC+bE))),(9,oS 3 1 u7.length),(17,oI 5 1 ub.length),(72,tS dB),(73,an dB.length),(74,an ug)] [(oi 0 1,.cells 30 [ai bB,ai bC,tS dA]),(oi 1 1,.cells 30 [ai bD,ai bE,tS dB]),(oi 2 1,.cells 30 [ai 0,ai 0,.nils]),(oi 3 1,.mat 81 (oi 4 1) .int u7),(oi 4 1,.pool 3 .int u7),(oi 5 1,.arr 3 .int ub)]) ?_ ?_)))
 ·intro _ h;refine Ae (Ad (lpF h (fun (uc,u9)=>sT [(0,ai bA),(4,.box (oi 0 1) 0),(5,.box (oi 1 1) 0),(6,.box (oi 2 1) 0),(7,ai (wI (bB+bD))),(8,ai (wI (bC+bE))),(9,oS 3 1 u7.length),(17,oI 5 1 u9.length),(72,tS dB),(73,an dB.length),(74,an ug),(82,tI x40),(83,an x40.length),(84,an uc)] [(oi 0 1,.cells 30 [ai bB,ai bC,tS dA]),(oi 1 1,.cells 30 [ai bD,ai bE,tS dB]),(oi 2 1,.cells 30 [ai 0,ai 0,.nils]),(oi 3 1,.mat 81 (oi 4 1) .int u7),(oi 4 1,.pool 3 .int u7),(oi 5 1,.arr 3 .int u9)]) ((wL 17 (length_replicate.symm:(wI (wI (bB+bD)+wI (bC+bE))).toNat=(replicate ((wI (wI (bB+bD)+wI (bC+bE))).toNat) (0:Int)).length)).trans (Ag [(oi 5 1,oi 81 9)])) ?_));rintro n_ ⟨uc,u9⟩ c_ h hn45;refine Ae (Ab (kQ h (fun _ h=>skW (sqF h (fun ul=>sT [(0,ai bA),(4,.box (oi 0 1) 0),(5,.box (oi 1 1) 0),(6,.box (oi 2 1) 0),(7,ai (wI (bB+bD))),(8,ai (wI (bC+bE))),(9,oS 3 1 u7.length),(17,oI 5 1 ul.length),(72,tS dB),(73,an dB.length),(74,an ug),(82,tI x40),(83,an x40.length),(84,an uc)] [(oi 0 1,.cells 30 [ai bB,ai bC,tS dA]),(oi 1 1,.cells 30 [ai bD,ai bE,tS dB]),(oi 2 1,.cells 30 [ai 0,ai 0,.nils]),(oi 3 1,.mat 81 (oi 4 1) .int u7),(oi 4 1,.pool 3 .int u7),(oi 5 1,.arr 3 .int ul)]) ?_ fun ul h=>Aa 4 (raH h fun h=>rsT 1 (Ap (tn_ (jL [])))))) fun _ h=>lxT (have h:=jO h hn45;jE [])));intro _ h;refine Ad (Ab (Aa 8 (rsT 1 (riH .int h fun x51 _ h=>rsT 3 (rnW (Ae (kQ h (fun _ h=>?_) fun _ h=>?_)))))))
  ·refine Aa 20 (rsT 6 ?_);obtain ⟨x54,f54,h⟩:=Ah h;obtain ⟨p54,b54,e54⟩:=As f54;refine rs0 (.elt (oi 5 1) ((wI (bB+(uc:Int))).toNat) 0) (zo (t:=.int) (o:=oi 5 1) (len:=u9.length) (k:=.i64) (m:=wI (bB+(uc:Int))) p54 (Ai e54)) ?_;obtain ⟨x55,f55,h⟩:=Ah h;obtain ⟨p55,b55,e55⟩:=As f55;refine zS (oi 5 1) (x51) e55 (Ap (bn_ (tn_ ?_)));obtain rfl:=zj h;exact (wL 17 (((rfl:u9.length=u9.length).trans length_set.symm):u9.length=(u9.set ((wI (bB+(uc:Int))).toNat) x51).length)).trans (Ag [])
  refine Aa 25 (rsT 11 ?_);obtain ⟨x56,f56,h⟩:=Ah h;obtain ⟨p56,b56,e56⟩:=As f56;refine rs0 (.elt (oi 5 1) ((wI ((wI (wI (wI (bB+bD)+bC)+(uc:Int))) - bD)).toNat) 0) (zo (t:=.int) (o:=oi 5 1) (len:=u9.length) (k:=.i64) (m:=wI ((wI (wI (wI (bB+bD)+bC)+(uc:Int))) - bD)) p56 (Ai e56)) ?_;obtain ⟨x57,f57,h⟩:=Ah h;obtain ⟨p57,b57,e57⟩:=As f57;refine zS (oi 5 1) (x51) e57 (Ap (bn_ (tn_ ?_)));obtain rfl:=zj h;exact (wL 17 (((rfl:u9.length=u9.length).trans length_set.symm):u9.length=(u9.set ((wI ((wI (wI (wI (bB+bD)+bC)+(uc:Int))) - bD)).toNat) x51).length)).trans (Ag [])
 intro ub h;refine Aa 7 (rsT 2 (I4 (oS 115 4 1) (oi 115 4) (.vec 81 1 1 ([oI 5 1 ub.length])) trivial (C8 kr) ?_));obtain ⟨g59,h⟩:=Al h;refine zV (oi 3 1) (oi 115 4) (oi 4 1) u7 [oI 5 1 ub.length] g59 (rsT 1 (Ap (bn_ (tn_ ?_))));obtain rfl:=zj h;exact (Eu (e1:=81) (e:=3) (u:=.int) (n:=u7.length+1) (len:=ub.length) (row:=ub) (ys:=ub) (xss:=u7) 9000 (oi 3 5) (oi 4 1) (oi 5 1) kr kr rfl kr kr (N1 rfl) (Ny rfl) kr kr kr).trans ((wL 9 ((by simp):u7.length+1=(u7++[ub]).length)).trans (Ag [(oi 3 1,oi 3 5),(oi 4 1,oi 9000 7)]))
set_option maxRecDepth 4000
set_option maxHeartbeats 4800000
variable {bA bB bC bD:Int} {aA aB aC:List Int} {cA:Bool} {rA:List (Int×Int×(List Int)×List Int)} {sA:List Int×List Int} {dA:LL} {tA:Int×(List (Int×Int×(List Int)×List Int))×List Int×List Int} {gA:ByteArray}
def Vv (u0 u3:Int) (u1 u2:List Int) (a1:Int):Option Bool :=
 ((Ct u0 3 14).bind fun y4 =>
 cond (!y4)
  (some true)
  ((Kp u0 u3 (⟨#[]⟩:ByteArray)).bind fun y6 =>
  some (!y6))).bind fun u4 =>
cond u4
 (some false)
 ((H3 u0).bind fun y10 =>
 (cond ((u1.length:Int)==y10.1)
   (cond ((u2.length:Int)==y10.2)
    ((F7 u1 0 (wI (a1 - 1))).bind fun y14 =>
    cond y14
     ((F7 u2 0 (wI (a1 - 1))).bind fun y16 =>
     some y16)
     (some false))
    (some false))
   (some false)).bind fun u5 =>
 some u5)
theorem Aeo (h:Vv bA bB aA aB bC=some cA):cK 188 [.agg [ai bA,ai bB,tI aA,tI aB],ai bC] (Am cA):=by
 refine cO Tryz.func188<|Ae<|Ab<|sqF h (fun u4=>sT [(1,ai bC),(2,.box (oi 0 1) 0),(19,.bool u4)] [(oi 0 1,.cells 171 [ai bA,ai bB,tI aA,tI aB])]) ?_ ?_
 ·intro _ h;refine Aa 16<|rsT 2 (rcH h C6 fun y4 h=>rsT 2 ?_);rcases A3 h with ⟨q5,h⟩|⟨q5,h⟩
  ·exact rq 11 q5<|rsT 8<|Ap<|tn_<|jE [(oi 0 1,oi 2 1)]
  exact rq 11 q5<|rsT 5 (rcH h Tw fun y6 h=>rsT 2<|Ap<|tn_<|jE [(oi 0 1,oi 2 1)])
 intro u4 h;refine kQ h (fun _ h=>Ae<|Ac<|tr_<|jS h) fun _ h=>skW<|Ab<|Aa 10<|rsT 2 (rcH h Po fun y10 h=>rsT 5<|rnW (sqF h (fun u5=>sT [(4,.bool u5)] []) ?_ fun u5 h=>Ac<|jS h))
 intro _ h;refine Aa 37<|rsT 6 (kR h 31 (fun _ h=>rsT 7 ?_) fun _ h=>rsT 21<|Ap<|tn_<|jE []);rcases A3 h with ⟨q13,h⟩|⟨q13,h⟩
 ·refine rq 38 q13<|rsT 4 (rcH h Kg fun y14 h=>rsT 2 ?_);rcases A3 h with ⟨q15,h⟩|⟨q15,h⟩
  ·exact rq 45 q15<|rsT 4 (rcH h Kg fun y16 h=>rsT 2<|Ap<|tn_<|jE [])
  exact rq 45 q15<|rsT 7<|Ap<|tn_<|jE []
 exact rq 38 q13<|rsT 14<|Ap<|tn_<|jE []
def Wn (u2:List Int) (u0:Nat) (u1:List Int):Option (Ctl (Nat×List Int) (List Int)) :=
 cond (decide ((u0:Int)<(u2.length:Int)))
 ((u2[u0]?).bind fun x14 =>
 (Ce u1 x14).bind fun x15 =>
 og (u0+1<4611686018427387904) <|
 some (.next (u0+1,u1.set x14.toNat (wI (x15+1)))))
 (some (.out u1))
def W4 (u2:List Int) (u0:Nat) (u1:List Int):Option (Ctl (Nat×List Int) (List Int)) :=
 cond (decide ((u0:Int)<(u2.length:Int)))
 ((u2[u0]?).bind fun x25 =>
 (Ce u1 x25).bind fun x26 =>
 og (u0+1<4611686018427387904) <|
 some (.next (u0+1,u1.set x25.toNat (wI (x26+1)))))
 (some (.out u1))
def Wp (x36:Int×Int×(List Int)×List Int) (u0:Nat) (u1:List Int):Option (Ctl (Nat×List Int) (List Int)) :=
 cond (decide ((u0:Int)<(x36.2.2.2.length:Int)))
 ((x36.2.2.2[u0]?).bind fun x45 =>
 (Ce u1 x45).bind fun x46 =>
 og (u0+1<4611686018427387904) <|
 some (.next (u0+1,u1.set x45.toNat (wI (x46+1)))))
 (some (.out u1))
def Wk (x36:Int×Int×(List Int)×List Int) (u2:List Int) (u0:Nat) (u1:List Int):Option (Ctl (Nat×List Int) (List Int×List Int)) :=
 cond (decide ((u0:Int)<(x36.2.2.1.length:Int)))
 ((x36.2.2.1[u0]?).bind fun x55 =>
 (Ce u1 x55).bind fun x56 =>
 og (u0+1<4611686018427387904) <|
 some (.next (u0+1,u1.set x55.toNat (wI (x56+1)))))
 (some (.out (u2,u1)))
def Wz (u1:List (Int×Int×(List Int)×List Int)) (u0:Nat) (u2 u3:List Int):Option (Ctl (Nat×List Int×List Int) (List Int×List Int)) :=
 cond (decide ((u0:Int)<(u1.length:Int)))
 (((u1[u0]?).bind fun x36 =>
  (Aq (fun s_:Nat×List Int=>Wp x36 s_.1 s_.2) 4611686018427387904 (0,u2)).bind fun u4 =>
  Aq (fun s_:Nat×List Int=>Wk x36 u4 s_.1 s_.2) 4611686018427387904 (0,u3)).bind fun (u5,u6) =>
 og (u0+1<4611686018427387904) <|
 some (.next (u0+1,u5,u6)))
 (some (.out (u2,u3)))
def Ta (u0:Int) (u1:List (Int×Int×(List Int)×List Int)) (u2 u3:List Int):Option (List Int×List Int) :=
 og (0<=u0/\u0<=u0/\u0<=1073741824/\(8:Int)*u0<=140737488355328) <|
og (0<=u0/\u0<=u0/\u0<=1073741824/\(8:Int)*u0<=140737488355328) <|
(Aq (fun s_:Nat×List Int=>Wn u2 s_.1 s_.2) 4611686018427387904 (0,replicate u0.toNat (0:Int))).bind fun u4 =>
(Aq (fun s_:Nat×List Int=>W4 u3 s_.1 s_.2) 4611686018427387904 (0,replicate u0.toNat (0:Int))).bind fun u5 =>
(Aq (fun s_:Nat×List Int×List Int=>Wz u1 s_.1 s_.2.1 s_.2.2) 4611686018427387904 (0,u4,u5)).bind fun (u6,u7) =>
some (u6,u7)
def Aaw (r:List Int×List Int):RV:=⟨true,[(false,[.new 3 .int r.1]),(false,[.new 3 .int r.2])]⟩
theorem Zr (h:Ta bA rA aA aB=some sA):cK 189 [.agg [ai bA,.tree Yb rA,tI aA,tI aB]] (Aaw sA):=by
 refine cO Tryz.func189 (Ae (Ab (Aa 8 (rsT 2 ?_))));obtain ⟨g3,h⟩:=Al h;refine rs1 (oI 18 6 bA.toNat) (oi 18 6) (.arr 3 .int (replicate bA.toNat (0:Int))) (Pp (t:=.int) (k:=.i64) (k':=.i64) (m:=bA) (m':=bA) kr kr g3 rfl) (rsT 1 (rnW (Ab (Aa 12 (rsT 2 ?_)))));obtain ⟨g5,h⟩:=Al h;refine rs1 (oI 21 10 bA.toNat) (oi 21 10) (.arr 3 .int (replicate bA.toNat (0:Int))) (Pp (t:=.int) (k:=.i64) (k':=.i64) (m:=bA) (m':=bA) kr kr g5 rfl) (rsT 1 (rnW (sqF h (fun u8=>sT [(1,.box (oi 0 1) 0),(4,oI 1 1 u8.length),(5,oI 2 1 ((replicate bA.toNat (0:Int)).length))] [(oi 0 1,.cells 131 [ai bA,.tree Yb rA,tI aA,tI aB]),(oi 1 1,.arr 3 .int u8),(oi 2 1,.arr 3 .int (replicate bA.toNat (0:Int)))]) ?_ ?_)))
 ·intro _ h;refine Ae (Ad (lpF h (fun (ui,u2)=>sT [(1,.box (oi 0 1) 0),(4,oI 1 1 u2.length),(5,oI 2 1 ((replicate bA.toNat (0:Int)).length)),(23,tI aA),(24,an aA.length),(25,an ui)] [(oi 0 1,.cells 131 [ai bA,.tree Yb rA,tI aA,tI aB]),(oi 1 1,.arr 3 .int u2),(oi 2 1,.arr 3 .int (replicate bA.toNat (0:Int)))]) ((wL 4 (length_replicate.symm:bA.toNat=(replicate bA.toNat (0:Int)).length)).trans ((wL 5 (length_replicate.symm:bA.toNat=(replicate bA.toNat (0:Int)).length)).trans (Ag [(oi 0 1,oi 1 1),(oi 1 1,oi 18 6),(oi 2 1,oi 21 10)]))) ?_));rintro n_ ⟨ui,u2⟩ c_ h hn8;refine Ae (Ab (kQ h (fun _ h=>skW (Ab (Ad (Ab (Aa 6 (riH .int h fun x14 _ h=>rsT 2 (rnW (Aa 13 (rsT 2 ?_))))))))) fun _ h=>lxT (have h:=jO h hn8;jE [])));obtain ⟨x15,f15,h⟩:=Ah h;obtain ⟨p15,b15,e15⟩:=As f15;refine rs0 (.elt (oi 1 1) x14.toNat 0) (zo (t:=.int) (o:=oi 1 1) (len:=u2.length) (k:=.i64) (m:=x14) p15 (Ai e15)) (zE (oi 1 1) e15 (rsT 1 (rs0 (.elt (oi 1 1) x14.toNat 0) (zo (t:=.int) (o:=oi 1 1) (len:=u2.length) (k:=.i64) (m:=x14) p15 (Ai e15)) (zS (oi 1 1) (wI (x15+1)) e15 (Ap (bn_ (tn_ (wr_ (Aa 15 (raH h fun h=>rsT 1 (Ap (tn_ ?_))))))))))));obtain rfl:=zj h;exact jLw hn8 ((wL 4 (((rfl:u2.length=u2.length).trans length_set.symm):u2.length=(u2.set x14.toNat (wI (x15+1))).length)).trans (Ag []))
 intro u8 h;refine sqF h (fun ue=>sT [(1,.box (oi 0 1) 0),(4,oI 1 1 u8.length),(5,oI 2 1 ue.length)] [(oi 0 1,.cells 131 [ai bA,.tree Yb rA,tI aA,tI aB]),(oi 1 1,.arr 3 .int u8),(oi 2 1,.arr 3 .int ue)]) ?_ ?_
 ·intro _ h;refine Ae (Ad (lpF h (fun (uj,u3)=>sT [(1,.box (oi 0 1) 0),(4,oI 1 1 u8.length),(5,oI 2 1 u3.length),(37,tI aB),(38,an aB.length),(39,an uj)] [(oi 0 1,.cells 131 [ai bA,.tree Yb rA,tI aA,tI aB]),(oi 1 1,.arr 3 .int u8),(oi 2 1,.arr 3 .int u3)]) (Ag []) ?_));rintro n_ ⟨uj,u3⟩ c_ h hn19;refine Ae (Ab (kQ h (fun _ h=>skW (Ab (Ad (Ab (Aa 6 (riH .int h fun x25 _ h=>rsT 2 (rnW (Aa 13 (rsT 2 ?_))))))))) fun _ h=>lxT (have h:=jO h hn19;jE [])));obtain ⟨x26,f26,h⟩:=Ah h;obtain ⟨p26,b26,e26⟩:=As f26;refine rs0 (.elt (oi 2 1) x25.toNat 0) (zo (t:=.int) (o:=oi 2 1) (len:=u3.length) (k:=.i64) (m:=x25) p26 (Ai e26)) (zE (oi 2 1) e26 (rsT 1 (rs0 (.elt (oi 2 1) x25.toNat 0) (zo (t:=.int) (o:=oi 2 1) (len:=u3.length) (k:=.i64) (m:=x25) p26 (Ai e26)) (zS (oi 2 1) (wI (x26+1)) e26 (Ap (bn_ (tn_ (wr_ (Aa 15 (raH h fun h=>rsT 1 (Ap (tn_ ?_))))))))))));obtain rfl:=zj h;exact jLw hn19 ((wL 5 (((rfl:u3.length=u3.length).trans length_set.symm):u3.length=(u3.set x25.toNat (wI (x26+1))).length)).trans (Ag []))
 intro ue h;refine sqF h (fun (uc,ud)=>sT [(4,oI 0 1 uc.length),(5,oI 1 1 ud.length)] [(oi 0 1,.arr 3 .int uc),(oi 1 1,.arr 3 .int ud)]) ?_ ?_
 ·intro _ h;refine Ae (Ad (lpF h (fun (ua,uf,u9)=>sT [(4,oI 0 1 uf.length),(5,oI 1 1 u9.length),(51,.tree Yb rA),(52,an rA.length),(53,an ua)] [(oi 0 1,.arr 3 .int uf),(oi 1 1,.arr 3 .int u9)]) (Ag [(oi 0 1,oi 1 1),(oi 1 1,oi 2 1)]) ?_));rintro n_ ⟨ua,uf,u9⟩ c_ h hn30;refine Ae (Ab (kQ h (fun _ h=>skW (sqF h (fun (ug,uh)=>sT [(4,oI 0 1 ug.length),(5,oI 1 1 uh.length),(51,.tree Yb rA),(52,an rA.length),(53,an ua)] [(oi 0 1,.arr 3 .int ug),(oi 1 1,.arr 3 .int uh)]) ?_ ?_)) fun _ h=>lxT (have h:=jO h hn30;jE [])))
  ·intro _ h;refine Ad (Ab (Aa 7 (riH Yb h fun x36 _ h=>rsB 3 (rnW (sqF h (fun ub=>sT [(4,oI 0 1 ub.length),(5,oI 1 1 u9.length),(11,.box (oi 2 1) 0),(51,.tree Yb rA),(52,an rA.length),(53,an ua)] [(oi 0 1,.arr 3 .int ub),(oi 1 1,.arr 3 .int u9),(oi 2 1,.cells 171 [ai x36.1,ai x36.2.1,tI x36.2.2.1,tI x36.2.2.2])]) ?_ ?_)))))
   ·intro _ h;refine Ae (Ad (lpF h (fun (uk,u4)=>sT [(4,oI 0 1 u4.length),(5,oI 1 1 u9.length),(11,.box (oi 2 1) 0),(51,.tree Yb rA),(52,an rA.length),(53,an ua),(58,tI x36.2.2.2),(59,an x36.2.2.2.length),(60,an uk)] [(oi 0 1,.arr 3 .int u4),(oi 1 1,.arr 3 .int u9),(oi 2 1,.cells 171 [ai x36.1,ai x36.2.1,tI x36.2.2.1,tI x36.2.2.2])]) (Ag [(oi 2 1,oi 11 5)]) ?_));rintro n_ ⟨uk,u4⟩ c_ h hn39;refine Ae (Ab (kQ h (fun _ h=>skW (Ab (Ad (Ab (Aa 6 (riH .int h fun x45 _ h=>rsT 2 (rnW (Aa 13 (rsT 2 ?_))))))))) fun _ h=>lxT (have h:=jO h hn39;jE [])));obtain ⟨x46,f46,h⟩:=Ah h;obtain ⟨p46,b46,e46⟩:=As f46;refine rs0 (.elt (oi 0 1) x45.toNat 0) (zo (t:=.int) (o:=oi 0 1) (len:=u4.length) (k:=.i64) (m:=x45) p46 (Ai e46)) (zE (oi 0 1) e46 (rsT 1 (rs0 (.elt (oi 0 1) x45.toNat 0) (zo (t:=.int) (o:=oi 0 1) (len:=u4.length) (k:=.i64) (m:=x45) p46 (Ai e46)) (zS (oi 0 1) (wI (x46+1)) e46 (Ap (bn_ (tn_ (wr_ (Aa 15 (raH h fun h=>rsT 1 (Ap (tn_ ?_))))))))))));obtain rfl:=zj h;exact jLw hn39 ((wL 4 (((rfl:u4.length=u4.length).trans length_set.symm):u4.length=(u4.set x45.toNat (wI (x46+1))).length)).trans (Ag []))
   intro ub h;refine Ae (Ad (lpF h (fun (ul,u5)=>sT [(4,oI 0 1 ub.length),(5,oI 1 1 u5.length),(51,.tree Yb rA),(52,an rA.length),(53,an ua),(72,tI x36.2.2.1),(73,an x36.2.2.1.length),(74,an ul)] [(oi 0 1,.arr 3 .int ub),(oi 1 1,.arr 3 .int u5)]) (Ag []) ?_));rintro n_ ⟨ul,u5⟩ c_ h hn49;refine Ae (Ab (kQ h (fun _ h=>skW (Ab (Ad (Ab (Aa 6 (riH .int h fun x55 _ h=>rsT 2 (rnW (Aa 13 (rsT 2 ?_))))))))) fun _ h=>Ep (te_ (te_ (be_ (bn_ (tn_ (have h:=jO h hn49;jE []))))))));obtain ⟨x56,f56,h⟩:=Ah h;obtain ⟨p56,b56,e56⟩:=As f56;refine rs0 (.elt (oi 1 1) x55.toNat 0) (zo (t:=.int) (o:=oi 1 1) (len:=u5.length) (k:=.i64) (m:=x55) p56 (Ai e56)) (zE (oi 1 1) e56 (rsT 1 (rs0 (.elt (oi 1 1) x55.toNat 0) (zo (t:=.int) (o:=oi 1 1) (len:=u5.length) (k:=.i64) (m:=x55) p56 (Ai e56)) (zS (oi 1 1) (wI (x56+1)) e56 (Ap (bn_ (tn_ (wr_ (Aa 15 (raH h fun h=>rsT 1 (Ap (tn_ ?_))))))))))));obtain rfl:=zj h;exact jLw hn49 ((wL 5 (((rfl:u5.length=u5.length).trans length_set.symm):u5.length=(u5.set x55.toNat (wI (x56+1))).length)).trans (Ag []))
  rintro ⟨ug,uh⟩ h;exact Aa 4 (raH h fun h=>rsT 1 (Ap (tn_ (jL []))))
 rintro ⟨uc,ud⟩ h;exact Ae (Ac (jR h [oI 0 1 uc.length,oI 1 1 ud.length] (Hv rfl (Ea kr rfl) (Hv rfl (Ea kr rfl) Ht))))
def Yx (u1:List (Int×Int×(List Int)×List Int)) (u2:Int) (u0:Nat):Option (Ctl Nat (Ctl Unit Bool)) :=
 cond (decide ((u0:Int)<(u1.length:Int)))
 ((u1[u0]?).bind fun x22 =>
 (Vv x22.1 x22.2.1 x22.2.2.1 x22.2.2.2 u2).bind fun y24 =>
 cond (!y24)
  (some (.out (.out false)))
  (og (u0+1<4611686018427387904) <|
  some (.next (u0+1))))
 (some (.out (.next ())))
def X6 (y29:List Int×List Int) (u0:Nat):Option (Ctl Nat (Ctl Unit Bool)) :=
 cond (decide ((u0:Int)<(y29.1.length:Int)))
 ((y29.1[u0]?).bind fun x39 =>
 (y29.2[u0]?).bind fun x40 =>
 cond ((wI (x39+x40))==0)
  (some (.out (.out false)))
  (og (u0+1<4611686018427387904) <|
  some (.next (u0+1))))
 (some (.out (.next ())))
def Du (u0:Int) (u1:List (Int×Int×(List Int)×List Int)) (u2 u3:List Int):Option Bool :=
 ((Ct u0 0 100).bind fun y4 =>
 cond (!y4)
  (some true)
  (cond (decide (60<(u1.length:Int)))
   (some true)
   (cond (decide (12<(u2.length:Int)))
    (some true)
    (cond (decide (12<(u3.length:Int)))
     (some true)
     ((F7 u2 0 (wI (u0 - 1))).bind fun y9 =>
     cond (!y9)
      (some true)
      ((F7 u3 0 (wI (u0 - 1))).bind fun y11 =>
      some (!y11))))))).bind fun u4 =>
cond u4
 (some false)
 (Dj (Aq (fun s_:Nat=>Yx u1 u0 s_) 4611686018427387904 0) fun _ =>
 (Ta u0 u1 u2 u3).bind fun y29 =>
 Dj (Aq (fun s_:Nat=>X6 y29 s_) 4611686018427387904 0) fun _ =>
 some true)
theorem Abn (h:Du bA rA aA aB=some cA):cK 183 [.agg [ai bA,.tree Yb rA,tI aA,tI aB]] (Am cA):=by
 refine cO Tryz.func183<|Ae<|Ab<|sqF h (fun u5=>sT [(1,.box (oi 0 1) 0),(47,.bool u5)] [(oi 0 1,.cells 131 [ai bA,.tree Yb rA,tI aA,tI aB])]) ?_ ?_
 ·intro _ h;refine Aa 43<|rsT 2 (rcH h C6 fun y4 h=>rsT 2 (kR h 12 (fun _ h=>rsT 35<|Ap<|tn_<|jE [(oi 0 1,oi 1 1)]) fun _ h=>rsT 6 (kR h 18 (fun _ h=>rsT 29<|Ap<|tn_<|jE [(oi 0 1,oi 1 1)]) fun _ h=>rsT 6 (kR h 24 (fun _ h=>rsT 23<|Ap<|tn_<|jE [(oi 0 1,oi 1 1)]) fun _ h=>rsT 6 ?_))));rcases A3 h with ⟨q8,h⟩|⟨q8,h⟩
  ·exact rq 30 q8<|rsT 17<|Ap<|tn_<|jE [(oi 0 1,oi 1 1)]
  refine rq 30 q8<|rsT 5 (rcH h Kg fun y9 h=>rsT 3 ?_);rcases A3 h with ⟨q10,h⟩|⟨q10,h⟩
  ·exact rq 39 q10<|rsT 8<|Ap<|tn_<|jE [(oi 0 1,oi 1 1)]
  exact rq 39 q10<|rsT 5 (rcH h Kg fun y11 h=>rsT 2<|Ap<|tn_<|jE [(oi 0 1,oi 1 1)])
 intro u5 h;refine kQ h (fun _ h=>Ae<|Ac<|tr_<|jS h) fun _ h=>skW<|sqC h (fun _=>sT [(1,.box (oi 0 1) 0)] [(oi 0 1,.cells 131 [ai bA,.tree Yb rA,tI aA,tI aB])]) (fun _ h hk14=>Ae<|Ad<|lpF h (fun u6=>sT [(1,.box (oi 0 1) 0),(49,.tree Yb rA),(50,an rA.length),(51,an u6)] [(oi 0 1,.cells 131 [ai bA,.tree Yb rA,tI aA,tI aB])]) (Ag []) fun n_ u6 c_ h hn16=>Ae<|Ab (kQ h (fun _ h=>skW<|Ab<|Ad<|Ab<|Aa 7 (riH Yb h fun x22 _ h=>rsB 3<|rnW<|Ab<|Aa 12<|rsT 3 (rcH h Aeo fun y24 h=>rsT 1<|rnW (kQ h (fun _ h=>Ae<|Ac<|br_<|tr_<|tr_<|br_<|tr_ (have h:=jO h hn16;(have h:=jO h hk14;jS h))) fun _ h=>Ax<|bn_<|tn_<|wr_<|Aa 14 (raH h fun h=>rsT 1<|Ap<|tn_<|jL []))))) fun _ h=>lxT (have h:=jO h hn16;jC []))) ?_
 intro _ h;refine Ab<|Aa 9<|rsT 1 (rcH h Zr fun y29 h=>rsT 5<|rnW (sqC h (fun _=>sT [] []) ?_ fun _ h=>Ae<|Ac<|jS h));intro _ h hk30;refine Ae<|Ad<|lpF h (fun u4=>sT [(5,oI 0 1 y29.1.length),(6,oI 1 1 y29.2.length),(67,an y29.1.length),(68,an u4)] [(oi 0 1,.arr 3 .int y29.1),(oi 1 1,.arr 3 .int y29.2)]) (Ag [(oi 0 1,oi 1008 3),(oi 1 1,oi 1009 3)]) ?_;intro n_ u4 c_ h hn32;refine Ae<|Ab (kQ h (fun _ h=>skW<|Ab<|Ad<|Ae<|Ab<|An 15<|dz0 (oI 0 1 y29.1.length)<|dz0 (an u4) ?_) fun _ h=>lxT (have h:=jO h hn32;jC []));have ⟨x39,e39,h⟩:=Ah h;refine dzO (oi 0 1) .int y29.1.length (Ai e39)<|dzE (oi 0 1) e39<|dz0 (oI 1 1 y29.2.length)<|dz0 (an u4) ?_;have ⟨x40,e40,h⟩:=Ah h;exact dzO (oi 1 1) .int y29.2.length (Ai e40)<|dzE (oi 1 1) e40<|dz0 (ai<|wI<|x39+x40)<|dz0 (.bool<|(wI<|x39+x40)==0)<|Cb (Ar kr)<|tn_<|wr_ (kQ h (fun _ h=>Ae<|Ac<|br_<|tr_<|tr_<|br_<|tr_ (have h:=jO h hn32;(have h:=jO h hk30;jS h))) fun _ h=>Ax<|bn_<|tn_<|wr_<|Aa 17 (raH h fun h=>rsT 1<|Ap<|tn_<|jL []))
def Jw (u1:List (Int×Int×(List Int)×List Int)) (a0:Int) (u0:Nat):Option (Ctl Nat (Ctl Unit Bool)) :=
 cond (decide ((u0:Int)<(u1.length:Int)))
 ((u1[u0]?).bind fun x17 =>
 cond (decide (a0<=x17.2.1))
  (some (.out (.out false)))
  (og (u0+1<4611686018427387904) <|
  some (.next (u0+1))))
 (some (.out (.next ())))
def Nj (a0 u1:Int) (u0:List (Int×Int×(List Int)×List Int)) (u2 u3:List Int):Option Bool :=
 ((Gc a0).bind fun y4 =>
 cond (!y4)
  (some true)
  ((Du u1 u0 u2 u3).bind fun y6 =>
  some (!y6))).bind fun u4 =>
cond u4
 (some false)
 (Dj (Aq (fun s_:Nat=>Jw u0 a0 s_) 4611686018427387904 0) fun _ =>
 some true)
theorem Afs (h:Nj bA bB rA aA aB=some cA):cK 173 [ai bA,.agg [ai bB,.tree Yb rA,tI aA,tI aB]] (Am cA):=by
 refine cO Tryz.func173<|Ae<|Ab (sqF h (fun u4=>sT [(0,ai bA),(3,.box (oi 0 1) 0),(14,.bool u4)] [(oi 0 1,.cells 131 [ai bB,.tree Yb rA,tI aA,tI aB])]) ?_ fun u4 h=>kQ h (fun _ h=>Ae<|Ac<|tr_<|jS h) fun _ h=>skW (sqC h (fun _=>sT [] []) (fun _ h hk9=>Ae<|Ad<|lpF h (fun u5=>sT [(0,ai bA),(16,.tree Yb rA),(17,an rA.length),(18,an u5)] []) (Ag []) fun n_ u5 c_ h hn11=>Ae<|Ab (kQ h (fun _ h=>skW<|Ab<|Ad<|Ab<|Aa 7 (riH Yb h fun x17 _ h=>rsB 3<|rnW<|Ae (kQ h (fun _ h=>Ae<|Ac<|br_<|tr_<|tr_<|br_<|tr_ (have h:=jO h hn11;(have h:=jO h hk9;jS h))) fun _ h=>Ax<|bn_<|tn_<|wr_<|Aa 13 (raH h fun h=>rsT 1<|Ap<|tn_<|jL [])))) fun _ h=>lxT (have h:=jO h hn11;jC []))) fun _ h=>Ae<|Ac<|jS h));intro _ h;refine Aa 11<|rsT 1 (rcH h Ls fun y4 h=>rsT 2 ?_);rcases A3 h with ⟨q5,h⟩|⟨q5,h⟩
 ·exact rq 10 q5<|rsT 4<|Ap<|tn_<|jE [(oi 0 1,oi 3 1)]
 exact rq 10 q5<|rsT 1 (rcH h Abn fun y6 h=>rsT 2<|Ap<|tn_<|jE [(oi 0 1,oi 3 1)])
def Ie (u1:List (Int×Int×(List Int)×List Int)) (u0:Nat):Option (Ctl Nat (Ctl Unit Bool)) :=
 cond (decide ((u0:Int)<(u1.length:Int)))
 ((u1[u0]?).bind fun x15 =>
 (Em x15.1).bind fun y17 =>
 cond (!y17)
  (some (.out (.out false)))
  (og (u0+1<4611686018427387904) <|
  some (.next (u0+1))))
 (some (.out (.next ())))
def Gr (a0 u1:Int) (u0:List (Int×Int×(List Int)×List Int)) (u2 u3:List Int):Option Bool :=
 (Nj a0 u1 u0 u2 u3).bind fun y4 =>
cond (!y4)
 (some false)
 (Dj (Aq (fun s_:Nat=>Ie u0 s_) 4611686018427387904 0) fun _ =>
 some true)
theorem Abh (h:Gr bA bB rA aA aB=some cA):cK 148 [ai bA,.agg [ai bB,.tree Yb rA,tI aA,tI aB]] (Am cA):=by
 exact cO Tryz.func148<|Ae<|Ab<|Ab<|Aa 7<|rsT 2 (rcH h Afs fun y4 h=>rsT 1<|rnW (kQ h (fun _ h=>Ae<|Ac<|tr_<|jS h) fun _ h=>skW (sqC h (fun _=>sT [] []) (fun _ h hk7=>Ae<|Ad<|lpF h (fun u4=>sT [(12,.tree Yb rA),(13,an rA.length),(14,an u4)] []) (Ag []) fun n_ u4 c_ h hn9=>Ae<|Ab (kQ h (fun _ h=>skW<|Ab<|Ad<|Ab<|Aa 7 (riH Yb h fun x15 _ h=>rsB 3<|rnW<|Ab<|Aa 11<|rsT 2 (rcH h Py fun y17 h=>rsT 1<|rnW (kQ h (fun _ h=>Ae<|Ac<|br_<|tr_<|tr_<|br_<|tr_ (have h:=jO h hn9;(have h:=jO h hk7;jS h))) fun _ h=>Ax<|bn_<|tn_<|wr_<|Aa 13 (raH h fun h=>rsT 1<|Ap<|tn_<|jL []))))) fun _ h=>lxT (have h:=jO h hn9;jC []))) fun _ h=>Ae<|Ac<|jS h)))
def On (a2 a3:List Int) (a0:Int) (u0:Nat) (u1:List Int):Option (Ctl (Nat×List Int) (List Int)) :=
 cond (decide ((u0:Int)<(a2.length:Int)))
 ((a2[u0]?).bind fun x12 =>
 (Ce u1 x12).bind fun x13 =>
 (a3[u0]?).bind fun x14 =>
 (Ef a0 x13 x14).bind fun y15 =>
 og (u0+1<4611686018427387904) <|
 some (.next (u0+1,u1.set x12.toNat y15)))
 (some (.out u1))
def C5 (a0 a1:Int) (a2 a3:List Int):Option (List Int) :=
 og (0<=a1/\a1<=a1/\a1<=1073741824/\(8:Int)*a1<=140737488355328) <|
(Aq (fun s_:Nat×List Int=>On a2 a3 a0 s_.1 s_.2) 4611686018427387904 (0,replicate a1.toNat (0:Int))).bind fun u0 =>
some u0
def Af0 (r:List Int):RV:=⟨false,[(false,[.frz (tI r)])]⟩
theorem Ki (h:C5 bA bB aA aB=some aC):cK 184 [ai bA,ai bB,tI aA,tI aB] (Af0 aC):=by
 refine cZ Tryz.func184 fun zn_ nz_ hz_=>Ae (Ab (Aa 5 (rsT 1 ?_)))
 obtain ⟨g3,h⟩:=Al h;refine rs1 (oI 13 3 bB.toNat) (oi 13 3) (.arr 3 .int (replicate bB.toNat (0:Int))) (Pp (t:=.int) (k:=.i64) (k':=.i64) (m:=bB) (m':=bB) kr kr g3 rfl) (rsT 1 (rnW (sqF h (fun u1=>sT [(9,oI 0 1 u1.length)] [(oi 0 1,.arr 3 .int u1)]) ?_ fun u1 h=>Ae (Ac (jZ h [(false,[oI 0 1 u1.length])] (Ol (Cd (.arr (e:=3) kr rfl)) Dd))))));intro _ h;refine Ae (Ad (lpF h (fun (u2,u0)=>sT [(0,ai bA),(3,tI aB),(9,oI 0 1 u0.length),(14,tI aA),(15,an aA.length),(16,an u2)] [(oi 0 1,.arr 3 .int u0)]) ((wL 9 (length_replicate.symm:bB.toNat=(replicate bB.toNat (0:Int)).length)).trans (Ag [(oi 0 1,oi 13 3)])) ?_));rintro n_ ⟨u2,u0⟩ c_ h hn6;refine Ae (Ab (kQ h (fun _ h=>skW (Ab (Ad (Ab (Aa 8 (rsT 1 (riH .int h fun x12 _ h=>rsT 3 (rnW (An 22 (dsT 5 ?_)))))))))) fun _ h=>lxT (have h:=jO h hn6;jE [])));obtain ⟨x13,f13,h⟩:=Ah h;obtain ⟨p13,b13,e13⟩:=As f13;refine ds0 (.elt (oi 0 1) x12.toNat 0) (zo (t:=.int) (o:=oi 0 1) (len:=u0.length) (k:=.i64) (m:=x12) p13 (Ai e13)) (dzE (oi 0 1) e13 (dz0 (tI aB) (dz0 (an u2) (diH .int h fun x14 _ h=>dz0 (ai x14) (dcH h (fun h=>I9 (Af5 h)) fun y15 h=>ds0 (.elt (oi 0 1) x12.toNat 0) (zo (t:=.int) (o:=oi 0 1) (len:=u0.length) (k:=.i64) (m:=x12) p13 (Ai e13)) (dzS (oi 0 1) (y15) e13 (Cb (Ar kr) (bn_ (tn_ (wr_ (Aa 24 (raH h fun h=>rsT 1 (Ap (tn_ ?_))))))))))))));obtain rfl:=zj h;exact jLw hn6 ((wL 9 (((rfl:u0.length=u0.length).trans length_set.symm):u0.length=(u0.set x12.toNat y15).length)).trans (Ag []))
def H0 (a0 a1:Int) (u3 u6:Int) (u4 u5:List Int):Option LL :=
 (cond (decide (9<=u3))
  (some (u5,u4,wI (wI (u3 - 9)+3)))
  (some (u4,u5,u3))).bind fun (u1,u0,u2) =>
cond (u2==3)
 ((u0[0]?).bind fun x12 =>
 (u1[0]?).bind fun x13 =>
 (C5 a0 a1 ([x12,x13]) ([1,wI (a0 - 1)])).bind fun y14 =>
 (u0[1]?).bind fun x15 =>
 (C5 a0 a1 ([x15,x13]) ([1,wI (a0 - 1)])).bind fun y16 =>
 some ([y14,y16]))
 (cond (u2==5)
  ((u0[0]?).bind fun x20 =>
  (u1[0]?).bind fun x21 =>
  (u1[1]?).bind fun x22 =>
  (C5 a0 a1 ([x20,x21,x22]) ([1,wI (a0 - 1),wI (a0 - 1)])).bind fun y23 =>
  some ([y23]))
  (cond (u2==6)
   ((u0[0]?).bind fun x27 =>
   (C5 a0 a1 ([x27]) ([1])).bind fun y28 =>
   some ([y28]))
   (cond (u2==7)
    ((u0[0]?).bind fun x32 =>
    (u1[0]?).bind fun x33 =>
    (Fy a0 u6).bind fun y34 =>
    (C5 a0 a1 ([x32,x33]) ([1,y34])).bind fun y35 =>
    some ([y35]))
    (some []))))
def U0 (r:LL):RV:=⟨false,[(false,[.frz (tS r)])]⟩
theorem Aem (h:H0 bA bB bC bD aA aB=some dA):cK 174 [ai bA,ai bB,.agg [ai bC,ai bD,tI aA,tI aB]] (U0 dA):=by
 refine cZ Tryz.func174 fun zn_ nz_ hz_=>Ae<|Ab<|An 9<|dsT 6<|Cb (Ar kr)<|tn_<|wr_<|Ae<|sqF h (fun (u0,u2,u6)=>sT [(0,ai bA),(1,ai bB),(5,.box (oi 0 1) 0),(7,tI u0),(8,tI u2),(9,ai u6)] [(oi 0 1,.cells 171 [ai bC,ai bD,tI aA,tI aB])]) (fun _ h=>Ae (kQ h (fun _ h=>An 24<|dsT 10<|Cb (Ar kr)<|tn_<|jE [(oi 0 1,oi 5 1)]) fun _ h=>Ax<|tn_<|jE [(oi 0 1,oi 5 1)])) ?_
 rintro ⟨u0,u2,u6⟩ h;exact Ab<|Ae<|Ad<|Ae (kQ h (fun _ h=>Ab<|An 33<|dsT 3 (diH .int h fun x12 _ h=>ds0 (ai x12) kr<|ds0 (tI u0) kr (diH .int h fun x13 e13 h=>ds0 (ai x13) kr<|ds1 (oI 36 13 2) (oi 36 13) (.arr 3 .int<|[x12,x13]) kr<|ds0 (ai bA) kr<|ds0 (ai<|wI<|bA - 1) kr<|ds1 (oI 39 16 2) (oi 39 16) (.arr 3 .int<|[1,wI (bA - 1)]) kr (dcG h [ai bA,ai bB,oI 36 13 2,oI 39 16 2] (fun h=>J6 hz_<|Ki h) (Av kr<|Av kr<|Av (Gz (e:=3) kr rfl)<|Av (Gz (e:=3) kr rfl) Dp) fun y14 h=>ds0 (ai bA) kr<|ds0 (ai bB) kr<|ds0 (tI u2) kr (diH .int h fun x15 _ h=>ds0 (ai x15) kr<|ds0 (tI u0) kr<|diE .int e13<|ds0 (ai x13) kr<|ds1 (oI 49 26 2) (oi 49 26) (.arr 3 .int<|[x15,x13]) kr<|ds0 (ai bA) kr<|ds0 (ai<|wI<|bA - 1) kr<|ds1 (oI 52 29 2) (oi 52 29) (.arr 3 .int<|[1,wI (bA - 1)]) kr (dcG h [ai bA,ai bB,oI 49 26 2,oI 52 29 2] (fun h=>J6 hz_<|Ki h) (Av kr<|Av kr<|Av (Gz (e:=3) kr rfl)<|Av (Gz (e:=3) kr rfl) Dp) fun y16 h=>Amo (oS 54 31 2) (oi 54 31) (.vec 81 1 2<|tvC (some nz_) sI<|[y14,y16]) trivial (C8 kr)<|ds0 (oS 54 31 2) kr<|Cb (Ar kr)<|tn_<|⟨_,Cn (N:=2) (oi 54 31) 81 (some nz_) sI ([y14,y16]) kr rfl,Ac<|br_<|tr_<|jZ h [(false,[oS 54 31 2])]<|Ol (Cd<|.tv (e:=81) kr rfl) Dd⟩)))))) fun _ h=>Ae (kQ h (fun _ h=>Ab<|An 27<|ds0 (ai bA) kr<|ds0 (ai bB) kr<|ds0 (tI u2) kr (diH .int h fun x20 _ h=>ds0 (ai x20) kr<|ds0 (tI u0) kr (diH .int h fun x21 _ h=>ds0 (ai x21) kr<|ds0 (tI u0) kr (diH .int h fun x22 _ h=>ds0 (ai x22) kr<|ds1 (oI 68 18 3) (oi 68 18) (.arr 3 .int<|[x20,x21,x22]) kr<|dsT 4<|ds1 (oI 73 23 3) (oi 73 23) (.arr 3 .int<|[1,wI<|bA - 1,wI (bA - 1)]) kr (dcG h [ai bA,ai bB,oI 68 18 3,oI 73 23 3] (fun h=>J6 hz_<|Ki h) (Av kr<|Av kr<|Av (Gz (e:=3) kr rfl)<|Av (Gz (e:=3) kr rfl) Dp) fun y23 h=>Amo (oS 75 25 1) (oi 75 25) (.vec 81 1 1<|tvC (some nz_) sI<|[y23]) trivial (C8 kr)<|ds0 (oS 75 25 1) kr<|Cb (Ar kr)<|tn_<|⟨_,Cn (N:=1) (oi 75 25) 81 (some nz_) sI ([y23]) kr rfl,Ac<|br_<|tr_<|jZ h [(false,[oS 75 25 1])]<|Ol (Cd<|.tv (e:=81) kr rfl) Dd⟩))))) fun _ h=>Ae (kQ h (fun _ h=>Ab<|Aa 19<|rsT 3 (riH .int h fun x27 _ h=>rsB 3 (rcG h [ai bA,ai bB,oI 83 14 1,oI 84 15 1] (fun h=>J6 hz_<|Ki h) (Av kr<|Av kr<|Av (Gz (e:=3) kr rfl)<|Av (Gz (e:=3) kr rfl) Dp) fun y28 h=>I4 (oS 86 17 1) (oi 86 17) (.vec 81 1 1<|tvC (some nz_) sI<|[y28]) trivial (C8 kr)<|rsT 1<|Ap<|tn_<|⟨_,Cn (N:=1) (oi 86 17) 81 (some nz_) sI ([y28]) kr rfl,Ac<|br_<|tr_<|jZ h [(false,[oS 86 17 1])]<|Ol (Cd<|.tv (e:=81) kr rfl) Dd⟩))) fun _ h=>Ae (kQ h (fun _ h=>Ab<|An 28<|dsT 3 (diH .int h fun x32 _ h=>ds0 (ai x32) kr<|ds0 (tI u0) kr (diH .int h fun x33 _ h=>ds0 (ai x33) kr<|ds1 (oI 97 19 2) (oi 97 19) (.arr 3 .int<|[x32,x33]) kr<|ds0 (ai bA) kr<|ds0 (.box (oi 0 1) 1) kr<|dsl (ai bD) kr (dcH h (fun h=>I9<|Ra h) fun y34 h=>ds1 (oI 102 24 2) (oi 102 24) (.arr 3 .int<|[1,y34]) kr (dcG h [ai bA,ai bB,oI 97 19 2,oI 102 24 2] (fun h=>J6 hz_<|Ki h) (Av kr<|Av kr<|Av (Gz (e:=3) kr rfl)<|Av (Gz (e:=3) kr rfl) Dp) fun y35 h=>Amo (oS 104 26 1) (oi 104 26) (.vec 81 1 1<|tvC (some nz_) sI<|[y35]) trivial (C8 kr)<|ds0 (oS 104 26 1) kr<|Cb (Ar kr)<|tn_<|⟨_,Cn (N:=1) (oi 104 26) 81 (some nz_) sI ([y35]) kr rfl,Ac<|br_<|tr_<|jZ h [(false,[oS 104 26 1])]<|Ol (Cd<|.tv (e:=81) kr rfl) Dd⟩))))) fun _ h=>Ax<|bn_<|tn_<|wr_<|Ae<|Ac<|jZ h [(false,[.nils])]<|Ol (Cd (t:=sI) (xs:=[]) .nil) Dd))))
def Fp (u2:List (Int×Int×(List Int)×List Int)) (a0 u3:Int) (u0:Nat) (u1:LL):Option (Ctl (Nat×LL) (LL)) :=
 cond (decide ((u0:Int)<(u2.length:Int)))
 ((u2[u0]?).bind fun x12 =>
 (H0 a0 u3 x12.1 x12.2.1 x12.2.2.1 x12.2.2.2).bind fun y13 =>
 og (u1.length+y13.length<=1073741824/\(u1.length+y13.length)*24<=140737488355328) <|
 og (u0+1<4611686018427387904) <|
 some (.next (u0+1,u1++y13)))
 (some (.out u1))
def Fw (a0 u0:Int) (u1:List (Int×Int×(List Int)×List Int)) (u3 u4:List Int):Option LL :=
 (Aq (fun s_:Nat×LL=>Fp u1 a0 u0 s_.1 s_.2) 4611686018427387904 (0,[])).bind fun u2 =>
(Ko a0 u0 u2).bind fun y17 =>
some y17
theorem Zs (h:Fw bA bB rA aA aB=some dA):Eb Tryz.prog Tab 149 [ai bA,.agg [ai bB,.tree Yb rA,tI aA,tI aB]] [] (oS 0 1 dA.length) [(oi 0 1,.mat 81 (oi 1 1) .int dA),(oi 1 1,.pool 3 .int dA)]:=by
 refine B3 kr Tryz.func149 (Cc kr) (n:=28) kr (by simp) rfl kr trivial ⟨⟨3,.tail _ (.head _)⟩,⟨trivial,trivial⟩⟩ (Ae (Ae (sqF h (fun u3=>sT [(0,ai bA),(3,.box (oi 0 1) 0),(5,oS 1 1 u3.length)] [(oi 0 1,.cells 131 [ai bB,.tree Yb rA,tI aA,tI aB]),(oi 1 1,.tv 81 none sI u3)]) ?_ fun u3 h=>Ab (Aa 8 (rsT 4 (rcM h [] [ai bA,ai bB,oS 1 1 u3.length] Ut trivial (.cons (.ren kr) (.cons (.ren kr) (.cons (.gnd kr (Akc (e:=81) (m:=none) (t:=sI) (xs:=u3) ((L3 kr kr kr).trans kr) rfl)) .nil))) (Ba kr kr trivial) fun y17 h=>rsT 1 (rnW (Ac (by obtain rfl:=osj h;exact E2 [oS 0 1 y17.length] (Ag (tl:=[(4,oS 0 1 y17.length)]) (g:=2) [(oi 0 1,oi 432 6),(oi 1 1,oi 433 6)]))))))))));intro _ h;refine Ae (Ad (lpF h (fun (u6,u0)=>sT [(0,ai bA),(3,.box (oi 0 1) 0),(5,oS 1 1 u0.length),(9,.tree Yb rA),(10,an rA.length),(11,an u6)] [(oi 0 1,.cells 131 [ai bB,.tree Yb rA,tI aA,tI aB]),(oi 1 1,.tv 81 none sI u0)]) ((Us 5 81 none sI kr).trans (Ag [(oi 0 1,oi 3 1),(oi 1 1,oi 5 8)])) ?_));rintro n_ ⟨u6,u0⟩ c_ h hn6;refine Ae (Ab (kQ h (fun _ h=>skW (Ab (Ad (Ab (Aa 7 (riH Yb h fun x12 _ h=>rsB 3 (rnW (Aa 15 (rsT 5 (rcH h Aem fun y13 h=>?_)))))))))) fun _ h=>lxT (have h:=jO h hn6;jE [])));obtain ⟨g14,h⟩:=Al h;refine rs2 (oS 1 13 (u0.length+y13.length)) (oi 1 1) (oi 1 13) (.vec 81 1 (u0.length+y13.length) (tvC none sI (u0++y13))) (Aps (o:=oi 1 1) (t:=sI) (t':=sI) (len:=u0.length) (N:=u0.length) (m:=none) (xs:=u0) (ys:=y13) kr kr rfl rfl (Aov kr) g14) (rsT 1 (Ap (bn_ (tn_ ⟨_,Cn (N:=u0.length+y13.length) (oi 1 13) 81 none sI (u0++y13) kr (by simp),Aa 17 (raH h fun h=>rsT 1 (Ap (tn_ ?_)))⟩))));obtain rfl:=zj h;exact jLw hn6 ((wL 5 ((by simp):u0.length+y13.length=(u0++y13).length)).trans (Ag [(oi 1 1,oi 1 13)]))
def Jc (a0 a1:List Int) (u0:Nat) (u1:List Int):Option (Ctl (Nat×List Int) (List Int)) :=
 cond (decide ((u0:Int)<(a0.length:Int)))
 ((a0[u0]?).bind fun x11 =>
 (Ce a1 x11).bind fun x12 =>
 og (u1.length+1<=1073741824/\(u1.length+1)*8<=140737488355328) <|
 og (u0+1<4611686018427387904) <|
 some (.next (u0+1,u1++([x12]))))
 (some (.out u1))
def Kr (a0 a1:List Int):Option (List Int) :=
 (Aq (fun s_:Nat×List Int=>Jc a0 a1 s_.1 s_.2) 4611686018427387904 (0,[])).bind fun u0 =>
some u0
theorem Aed (h:Kr aA aB=some aC):cK 150 [tI aA,tI aB] (Ch aC):=by
 refine cO Tryz.func150<|Ae<|Ae (sqF h (fun u0=>sT [(5,oI 0 1 u0.length)] [(oi 0 1,.arr 3 .int u0)]) ?_ fun u0 h=>Ae<|Ac<|jR h [oI 0 1 u0.length]<|Hv rfl (Ea kr rfl) Ht);intro _ h;refine Ae<|Ad<|lpF h (fun (u2,u1)=>sT [(1,tI aB),(5,oI 0 1 u1.length),(8,tI aA),(9,an aA.length),(10,an u2)] [(oi 0 1,.arr 3 .int u1)]) ((Aq3 5 3 .int rfl kr).trans<|Ag [(oi 0 1,oi 5 6)]) ?_;rintro n_ ⟨u2,u1⟩ c_ h hn5;refine Ae<|Ab (kQ h (fun _ h=>skW<|Ab<|Ad<|Ab<|Aa 6 (riH .int h fun x11 _ h=>rsT 2<|rnW<|Aa 14<|rsT 3 ?_)) fun _ h=>lxT (have h:=jO h hn5;jE []));have ⟨x12,f12,h⟩:=Ah h;have ⟨p12,b12,e12⟩:=As f12;refine rs0 (.telt none .int x12 0) (zi (t:=.int) (xs:=aB) (k:=.i64) (m:=x11) p12 e12)<|rsB 2 ?_;have ⟨g13,h⟩:=Al h;exact zB (oi 0 1) (oi 19 11) u1 (x12) g13<|rsT 1<|Ap<|bn_<|tn_<|wr_<|Aa 16 (raH h fun h=>rsT 1<|Ap<|tn_<|jL [(oi 0 1,oi 0 12)])
def L2 (a0:Int) (u1:Nat) (u0:List Int):Option (Ctl (Nat×List Int) (List Int)) :=
 cond (decide ((u1:Int)<a0))
 (og (u0.length+1<=1073741824/\(u0.length+1)*8<=140737488355328) <|
 og (u0.length+1<=1073741824/\(u0.length+1)*8<=140737488355328) <|
 og (u1+1<4611686018427387904) <|
 some (.next (u1+1,u0++([(u1:Int)]))))
 (some (.out u0))
def Qx (a0:Int):Option (Int×(List (Int×Int×(List Int)×List Int))×List Int×List Int) :=
 (Aq (fun s_:Nat×List Int=>L2 a0 s_.1 s_.2) 4611686018427387904 (0,[])).bind fun u0 =>
some (a0,[],u0,u0)
def Xz (r:Int×(List (Int×Int×(List Int)×List Int))×List Int×List Int):RV:=⟨false,[(true,[.sc (.int .i64 r.1),.frz (.tree Yb r.2.1),.frz (tI r.2.2.1),.frz (tI r.2.2.2)])]⟩
theorem Aib (h:Qx bA=some tA):cK 151 [ai bA] (Xz tA):=by
 refine cZ Tryz.func151 fun zn_ nz_ hz_=>Ae<|Ae (sqF h (fun u0=>sT [(2,.box (oi 0 1) 0),(3,.box (oi 1 1) 0)] [(oi 0 1,.cells 131 [ai 0,.nils,.nils,.nils]),(oi 1 1,.cells 131 [ai bA,.nils,oI 2 1 u0.length,oI 3 1 u0.length]),(oi 2 1,.arr 3 .int u0),(oi 3 1,.arr 3 .int u0)]) ?_ fun u0 h=>Ae<|Ac<|jZ h [(true,[ai bA,.nils,oI 2 1 u0.length,oI 3 1 u0.length])]<|Gd (A5 Dg<|A5 (Cd (t:=Yb) (xs:=[]) .nil)<|A5 (Cd<|.arr (e:=3) kr rfl)<|A5 (Cd<|.arr (e:=3) kr rfl) Ge) Dd)
 intro _ h;refine Ae<|Ad<|lpF h (fun (u2,u1)=>sT [(0,ai bA),(2,.box (oi 0 1) 0),(3,.box (oi 1 1) 0),(4,an u2)] [(oi 0 1,.cells 131 [ai 0,.nils,.nils,.nils]),(oi 1 1,.cells 131 [ai bA,.nils,oI 2 1 u1.length,oI 3 1 u1.length]),(oi 2 1,.arr 3 .int u1),(oi 3 1,.arr 3 .int u1)]) ((Dm 9000 (oi 3 4) 2 131 [ai bA,.nils,.nils,.nils] [ai bA,.nils,oI 9000 7 0,.nils] 3 .int rfl kr kr kr).trans<|(Dm 9001 (oi 3 4) 3 131 [ai bA,.nils,oI 9000 7 0,.nils] [ai bA,.nils,oI 9000 7 0,oI 9001 8 0] 3 .int rfl kr kr kr).trans<|Ag [(oi 0 1,oi 2 1),(oi 1 1,oi 3 4),(oi 2 1,oi 9000 7),(oi 3 1,oi 9001 8)]) ?_;rintro n_ ⟨u2,u1⟩ c_ h hn5;refine Ab<|Ae (kQ h (fun _ h=>skW<|Ab<|Ad<|Ab<|Aa 12<|rsB 4 ?_) fun _ h=>lxT (have h:=jO h hn5;jE []));have ⟨g11,h⟩:=Al h;refine zB (oi 2 1) (oi 15 8) u1 ((u2:Int)) g11<|rsB 2<|rnW<|Aa 19<|rsB 4 ?_;have ⟨g12,h⟩:=Al h;exact zB (oi 3 1) (oi 21 15) u1 ((u2:Int)) g12<|rsB 2<|Ap<|bn_<|tn_<|wr_<|Aa 22<|rsT 1 (raH h fun h=>rsT 1<|Ap<|tn_<|jL [(oi 2 1,oi 2 9),(oi 3 1,oi 3 16)])
def Z5 (y12:Int×Int) (u2:Nat) (u0 u1:List Int):Option (Ctl (Nat×List Int×List Int) (List Int×List Int)) :=
 cond (decide ((u2:Int)<wI (y12.1+y12.2)))
 ((cond (decide ((u2:Int)<y12.1))
   (og (u0.length+1<=1073741824/\(u0.length+1)*8<=140737488355328) <|
   og (u0.length+1<=1073741824/\(u0.length+1)*8<=140737488355328) <|
   some (u0++([(u2:Int)]),u1))
   (og (u1.length+1<=1073741824/\(u1.length+1)*8<=140737488355328) <|
   og (u1.length+1<=1073741824/\(u1.length+1)*8<=140737488355328) <|
   some (u0,u1++([(u2:Int)])))).bind fun (u3,u4) =>
 og (u2+1<4611686018427387904) <|
 some (.next (u2+1,u3,u4)))
 (some (.out (u0,u1)))
def Nq (u0 u1:Int) (u4:ByteArray):Option (Int×(List (Int×Int×(List Int)×List Int))×List Int×List Int) :=
 cond (u0==1)
 ((Qx u1).bind fun y7 =>
 some (y7.1,y7.2.1,y7.2.2.1,y7.2.2.2))
 (cond (u0==2)
  (some (2,[],[0,1],[1,0]))
  ((H3 u0).bind fun y12 =>
  (Aq (fun s_:Nat×List Int×List Int=>Z5 y12 s_.1 s_.2.1 s_.2.2) 4611686018427387904 (0,[],[])).bind fun (u2,u3) =>
  some (wI (y12.1+y12.2),[(u0,u1,u2,u3)],u2,u3)))
theorem Adz (h:Nq bA bB gA=some tA):cK 105 [.agg [ai bA,ai bB,.str gA]] (Xz tA):=by
 refine cZ Tryz.func105 fun zn_ nz_ hz_=>Ae<|Ab<|Ae<|Ad<|Ae (kQ h (fun _ h=>Ab<|Aa 11<|rsT 2 (rcH h (fun h=>J6 hz_<|Aib h) fun y7 h=>rsB 1<|rnW<|Ac<|br_<|tr_<|jZ h [(true,[ai y7.1,.ftr nz_ Yb y7.2.1,.ftr nz_ .int y7.2.2.1,.ftr nz_ .int y7.2.2.2])]<|Gd (A5 Dg<|A5 (Cd .ftr)<|A5 (Cd .ftr)<|A5 (Cd .ftr) Ge) Dd)) fun _ h=>Ae (kQ h (fun _ h=>Ae<|Ac<|br_<|tr_<|jZ h [(true,[ai 2,.nils,oI 17 9 2,oI 18 10 2])]<|Gd (A5 Dg<|A5 (Cd (t:=Yb) (xs:=[]) .nil)<|A5 (Cd<|.arr (e:=3) kr rfl)<|A5 (Cd<|.arr (e:=3) kr rfl) Ge) Dd) fun _ h=>Ax<|bn_<|tn_<|wr_<|Ab<|Aa 17<|rsT 2 (rcH h (fun h=>I9<|Po h) fun y12 h=>rsT 5<|rnW<|Ae<|Ae<|sqF h (fun (u4,u5)=>sT [(2,.box (oi 0 1) 0),(5,.box (oi 1 1) 0),(6,.box (oi 2 1) 0)] [(oi 0 1,.cells 131 [ai 0,.nils,.nils,.nils]),(oi 1 1,.cells 131 [ai<|wI<|y12.1+y12.2,.nils,oI 3 1 u4.length,oI 4 1 u5.length]),(oi 2 1,.cells 171 [ai bA,ai bB,.ftr nz_ .int u4,.ftr nz_ .int u5]),(oi 3 1,.arr 3 .int u4),(oi 4 1,.arr 3 .int u5)]) ?_ ?_)))
 ·intro _ h;refine Ae<|Ad<|lpF h (fun (u6,u2,u3)=>sT [(2,.box (oi 0 1) 0),(3,ai y12.1),(4,ai y12.2),(5,.box (oi 1 1) 0),(6,.box (oi 2 1) 0),(7,an u6)] [(oi 0 1,.cells 131 [ai 0,.nils,.nils,.nils]),(oi 1 1,.cells 131 [ai<|wI<|y12.1+y12.2,.nils,oI 3 1 u2.length,oI 4 1 u3.length]),(oi 2 1,.cells 171 [ai bA,ai bB,oI 5 1 u2.length,oI 6 1 u3.length]),(oi 3 1,.arr 3 .int u2),(oi 4 1,.arr 3 .int u3),(oi 5 1,.arr 3 .int u2),(oi 6 1,.arr 3 .int u3)]) ((Dm 9000 (oi 5 21) 2 131 [ai<|wI<|y12.1+y12.2,.nils,.nils,.nils] [ai<|wI<|y12.1+y12.2,.nils,oI 9000 31 0,.nils] 3 .int rfl kr kr kr).trans<|(Dm 9001 (oi 5 21) 3 131 [ai<|wI<|y12.1+y12.2,.nils,oI 9000 31 0,.nils] [ai<|wI<|y12.1+y12.2,.nils,oI 9000 31 0,oI 9001 32 0] 3 .int rfl kr kr kr).trans<|(Dm 9002 (oi 6 28) 2 171 [ai bA,ai bB,.nils,.nils] [ai bA,ai bB,oI 9002 33 0,.nils] 3 .int rfl kr kr kr).trans<|(Dm 9003 (oi 6 28) 3 171 [ai bA,ai bB,oI 9002 33 0,.nils] [ai bA,ai bB,oI 9002 33 0,oI 9003 34 0] 3 .int rfl kr kr kr).trans<|Ag [(oi 0 1,oi 2 2),(oi 1 1,oi 5 21),(oi 3 1,oi 9000 31),(oi 4 1,oi 9001 32),(oi 2 1,oi 6 28),(oi 5 1,oi 9002 33),(oi 6 1,oi 9003 34)]) ?_;rintro n_ ⟨u6,u2,u3⟩ c_ h hn17;refine Ab<|Ae (kQ h (fun _ h=>skW<|sqF h (fun (u7,u8)=>sT [(2,.box (oi 0 1) 0),(3,ai y12.1),(4,ai y12.2),(5,.box (oi 1 1) 0),(6,.box (oi 2 1) 0),(7,an u6)] [(oi 0 1,.cells 131 [ai 0,.nils,.nils,.nils]),(oi 1 1,.cells 131 [ai<|wI<|y12.1+y12.2,.nils,oI 3 1 u7.length,oI 4 1 u8.length]),(oi 2 1,.cells 171 [ai bA,ai bB,oI 5 1 u7.length,oI 6 1 u8.length]),(oi 3 1,.arr 3 .int u7),(oi 4 1,.arr 3 .int u8),(oi 5 1,.arr 3 .int u7),(oi 6 1,.arr 3 .int u8)]) ?_ ?_) fun _ h=>lxT (have h:=jO h hn17;(by cases h;exact ((Afx hz_ (ty:=171) (cs:=[ai bA,ai bB,oI 5 1 u2.length,oI 6 1 u3.length]) (t':=.int) (len:=u2.length) (e:=3) (t:=.int) (xs:=u2) (oi 2 1) (oi 5 1) 2 kr rfl kr rfl rfl).trans<|Afx hz_ (ty:=171) (cs:=[ai bA,ai bB,.ftr nz_ .int u2,oI 6 1 u3.length]) (t':=.int) (len:=u3.length) (e:=3) (t:=.int) (xs:=u3) (oi 2 1) (oi 6 1) 3 kr rfl kr rfl rfl).trans<|Ag [])))
  ·intro _ h;refine Ad<|Ae (kQ h (fun _ h=>?_) fun _ h=>?_)
   ·refine Ab<|Aa 17<|rsB 4 ?_;have ⟨g25,h⟩:=Al h;refine zB (oi 3 1) (oi 48 13) u2 ((u6:Int)) g25<|rsB 2<|rnW<|Aa 24<|rsB 4 ?_;have ⟨g26,h⟩:=Al h;exact zB (oi 5 1) (oi 54 20) u2 ((u6:Int)) g26<|rsB 2<|Ap<|bn_<|tn_<|jE [(oi 3 1,oi 3 14),(oi 5 1,oi 5 21)]
   refine Ab<|Aa 17<|rsB 4 ?_;have ⟨g28,h⟩:=Al h;refine zB (oi 4 1) (oi 60 13) u3 ((u6:Int)) g28<|rsB 2<|rnW<|Aa 24<|rsB 4 ?_;have ⟨g29,h⟩:=Al h;exact zB (oi 6 1) (oi 66 20) u3 ((u6:Int)) g29<|rsB 2<|Ap<|bn_<|tn_<|jE [(oi 4 1,oi 4 14),(oi 6 1,oi 6 21)]
  rintro ⟨u7,u8⟩ h;exact Aa 5<|rsT 1 (raH h fun h=>rsT 1<|Ap<|tn_<|jL [])
 rintro ⟨u4,u5⟩ h;exact Ab<|Aa 6<|rsT 1<|I4 (.own (oi 70 3) Yb 0 1) (oi 70 3) (.vec 171 4 1<|tvC (some nz_) Yb<|[(bA,bB,u4,u5)]) trivial (C8 kr)<|rsB 2<|Ap<|tn_ ⟨_,Cn (N:=1) (oi 70 3) 171 (some nz_) Yb ([(bA,bB,u4,u5)]) kr rfl,Ae<|Ac<|jZ h [(true,[ai<|wI<|y12.1+y12.2,.own (oi 70 3) Yb 0 1,oI 3 1 u4.length,oI 4 1 u5.length])]<|Gd (A5 Dg<|A5 (Cd<|.tv (e:=171) kr rfl)<|A5 (Cd<|.arr (e:=3) kr rfl)<|A5 (Cd<|.arr (e:=3) kr rfl) Ge) Dd⟩
set_option maxRecDepth 4000
set_option maxHeartbeats 4800000
variable {bA bB bC:Int} {rA:List (Int×Int×(List Int)×List Int)} {aA aB:List Int} {uA:Int×Int×LL×Bool} {gA:ByteArray} {qA:Int×Int×LL} {hA:List ZB} {dA dB:LL} {pA:List (ByteArray×(List ZB)×Int×Int×LL)} {cA:Bool} {vA:Bool×Int×Int×LL}
def Dq (y13:LL) (y8 u2:List Int) (u0:Nat) (u1:LL):Option (Ctl (Nat×LL) (LL)) :=
 cond (decide ((u0:Int)<(y13.length:Int)))
 ((y13[u0]?).bind fun x20 =>
 (Kr (y8++u2) x20).bind fun y21 =>
 og (u1.length+1<=1073741824/\(u1.length+1)*24<=140737488355328) <|
 og (u0+1<4611686018427387904) <|
 some (.next (u0+1,u1++[y21])))
 (some (.out u1))
def Fk (a0 u2:Int) (u3:List (Int×Int×(List Int)×List Int)) (u1 u0:List Int):Option (Int×Int×LL×Bool) :=
 (Gr a0 u2 u3 u1 u0).bind fun y4 =>
cond (!y4)
 (some (0,0,[],false))
 ((Hi u1).bind fun y8 =>
 og (y8.length+u0.length<=1073741824/\(y8.length+u0.length)*8<=140737488355328) <|
 ((Fw a0 u2 u3 u1 u0).bind fun y13 =>
  Aq (fun s_:Nat×LL=>Dq y13 y8 u0 s_.1 s_.2) 4611686018427387904 (0,([]:LL))).bind fun u4 =>
 (Lm a0 (u1.length:Int) (u0.length:Int) u4).bind fun y25 =>
 some (y25.1,y25.2.1,y25.2.2,true))
def Abj (r:Int×Int×LL×Bool):RV:=⟨true,[(true,[.sc (.int .i64 r.1),.sc (.int .i64 r.2.1),.frz (tS r.2.2.1)]),(false,[.sc (.bool r.2.2.2)])]⟩
theorem Abv (h:Fk bA bB rA aA aB=some uA):cK 104 [ai bA,.agg [ai bB,.tree Yb rA,tI aA,tI aB]] (Abj uA):=by
 refine cZ Tryz.func104 fun zn_ nz_ hz_=>Ae<|Ab<|Ab<|Aa 8<|rsT 2 (rcH h (fun h=>I9<|Abh h) fun y4 h=>rsT 1<|rnW (kQ h (fun _ h=>Ae<|Ac<|tr_<|jZ h [(true,[ai 0,ai 0,.nils]),(false,[.bool false])]<|Gd (A5 Dg<|A5 Dg<|A5 (Cd (t:=sI) (xs:=[]) .nil) Ge)<|Ol Dg Dd) fun _ h=>skW<|Ab<|An 15<|dz0 (.box (oi 3 1) 2)<|dzl (tI aA) (dcH h (fun h=>I9<|Np h) fun y8 h=>dz0 (.box (oi 3 1) 3)<|dzl (tI aB) ?_)))
 have ⟨g9,h⟩:=Al h;refine ds2 (oI 272 13<|(y8++aB).length) (oi 272 10) (oi 272 13) (.arr 3 .int<|y8++aB) (Px (t:=.int) (t':=.int) (xs:=y8) (ys:=aB) (zs:=y8++aB) (j:=oi 272 10) (len:=y8.length) (c:=tI aB) kr kr rfl kr Kz rfl g9)<|dz0 (oI 272 13<|(y8++aB).length)<|Cb (Ar kr)<|tn_<|wr_<|Ae (sqF h (fun u3=>sT [(0,ai bA),(3,.box (oi 0 1) 0),(4,.box (oi 1 1) 0),(7,oS 2 1 u3.length)] [(oi 0 1,.cells 131 [ai bB,.tree Yb rA,tI aA,tI aB]),(oi 1 1,.cells 30 [ai 0,ai 0,.nils]),(oi 2 1,.mat 81 (oi 3 1) .int u3),(oi 3 1,.pool 3 .int u3)]) ?_ fun u3 h=>Ab<|Aa 13<|rsT 8 (rcG h [ai bA,an aA.length,an aB.length,oS 2 1 u3.length] (fun h=>J6 hz_<|Sm h) (Av kr<|Av kr<|Av kr<|Av (Sn (p:=oi 3 1) (e1:=81) (e:=3) (u:=.int) (xss:=u3) kr (Er kr) rfl) Dp) fun y25 h=>rsB 2<|rnW<|Ac<|jZ h [(true,[ai y25.1,ai y25.2.1,.ftr nz_ sI y25.2.2]),(false,[.bool true])]<|Gd (A5 Dg<|A5 Dg<|A5 (Cd .ftr) Ge)<|Ol Dg Dd));intro _ h;refine Ab<|Aa 21<|rsT 2 (rcM h [] [ai bA,.agg [ai bB,.tree Yb rA,tI aA,tI aB]] (fun h=>Ur<|Zs h) trivial (aR kr) (Ba kr kr trivial) fun y13 h=>rsT 2<|rnW<|Ad<|lpF h (fun (u6,u1)=>sT [(0,ai bA),(3,.box (oi 0 1) 0),(4,.box (oi 1 1) 0),(6,oI 2 1<|(y8++aB).length),(7,oS 3 1 u1.length),(23,oS 5 1 y13.length),(24,an y13.length),(25,an u6)] [(oi 0 1,.cells 131 [ai bB,.tree Yb rA,tI aA,tI aB]),(oi 1 1,.cells 30 [ai 0,ai 0,.nils]),(oi 2 1,.arr 3 .int<|y8++aB),(oi 3 1,.mat 81 (oi 4 1) .int u1),(oi 4 1,.pool 3 .int u1),(oi 5 1,.mat 81 (oi 6 1) .int y13),(oi 6 1,.pool 3 .int y13)]) ((My 7 81 sI kr).trans<|(Dt (e1:=81) (n:=0) 9000 (oi 7 21) 3 .int kr kr rfl kr kr).trans<|Ag [(oi 0 1,oi 3 1),(oi 1 1,oi 4 2),(oi 2 1,oi 272 13),(oi 3 1,oi 7 21),(oi 4 1,oi 9000 22),(oi 5 1,oi 368 18),(oi 6 1,oi 369 18)]) ?_);rintro n_ ⟨u6,u1⟩ c_ h hn14;refine Ae<|Ab (kQ h (fun _ h=>skW<|Ab<|Ad<|Ab<|Aa 6 ?_) fun _ h=>lxT (have h:=jO h hn14;jE [(oi 2 1,oi 3 1),(oi 3 1,oi 4 1)]));have ⟨x20,e20,h⟩:=Ah h;refine zO (oi 5 1) sI y13.length (Ai e20)<|rsl (.own (kid (oi 6 1) u6) .int 0 x20.length) (Fc (o:=oi 5 1) (p:=oi 6 1) (e1:=81) (u:=.int) (xss:=y13) (row:=x20) (j:=u6) kr kr e20)<|rsT 1<|rnW<|Aa 13<|rsT 3 (rcG h [oI 2 1<|(y8++aB).length,.own (kid (oi 6 1) u6) .int 0 x20.length] (fun h=>I9<|Aed h) (Av (Gz (e:=3) kr rfl)<|Av (Gz (e:=3) (u:=.int) (xs:=x20) (Bo kr e20) rfl) Dp) fun y21 h=>I4 (oS 33 10 1) (oi 33 10) (.vec 81 1 1<|[oI 512 9 y21.length]) trivial (C8 kr) ?_);have ⟨g22,h⟩:=Al h;refine zV (oi 3 1) (oi 33 10) (oi 4 1) u1 [oI 512 9 y21.length] g22<|rsT 1<|Ap<|bn_<|tn_ ⟨_,Eu (e1:=81) (e:=3) (u:=.int) (n:=u1.length+1) (len:=y21.length) (row:=y21) (ys:=y21) (xss:=u1) 9000 (oi 3 11) (oi 4 1) (oi 512 9) kr kr rfl kr kr (N1 rfl) (Ny rfl) kr kr kr,Aa 16 (raH h fun h=>rsT 1<|Ap<|tn_ ?_)⟩;cases h;exact jLw hn14<|(wL 7 (fS:u1.length+1=(u1++[y21]).length)).trans<|Ag [(oi 3 1,oi 3 11),(oi 4 1,oi 9000 13)]
def Bz (a0 u0 u1:Int) (u2:ByteArray):Option (Int×Int×LL) :=
 (Nq u0 u1 u2).bind fun y3 =>
(Fk a0 y3.1 y3.2.1 y3.2.2.1 y3.2.2.2).bind fun y4 =>
some (y4.1,y4.2.1,y4.2.2.1)
theorem Afe (h:Bz bA bB bC gA=some qA):cK 59 [ai bA,.agg [ai bB,ai bC,.str gA]] (Dw qA):=by
 exact cZ Tryz.func59 fun zn_ nz_ hz_=>Ae<|Ab<|Aa 13<|rsT 2 (rcH h (fun h=>J6 hz_<|Adz h) fun y3 h=>rcH h (fun h=>J6 hz_<|Abv h) fun y4 h=>rsB 6<|rnW<|Ae<|Ac<|jZ h [(true,[ai y4.1,ai y4.2.1,.ftr nz_ sI y4.2.2.1])]<|Gd (A5 Dg<|A5 Dg<|A5 (Cd .ftr) Ge) Dd)
def Nl (a0:Int) (u0:ByteArray) (u1:List ZB) (u2 u3:Int) (u4:LL):Option (Int×Int×LL):=none
theorem Aef (h:Nl bA gA hA bB bC dA=some qA):cK 45 [ai bA,.agg [.str gA,.tree Y8 hA,ai bB,ai bC,tS dA]] (Dw qA):=nomatch h
def Jo (a0:LL) (u0:Nat) (u1:LL):Option (Ctl (Nat×LL) (LL)) :=
 cond (decide ((u0:Int)<(a0.length:Int)))
 ((a0[u0]?).bind fun x12 =>
 (Hi x12).bind fun y13 =>
 og (u1.length+1<=1073741824/\(u1.length+1)*24<=140737488355328) <|
 og (u0+1<4611686018427387904) <|
 some (.next (u0+1,u1++[y13])))
 (some (.out u1))
def Ng (a0:LL):Option LL :=
 (Aq (fun s_:Nat×LL=>Jo a0 s_.1 s_.2) 4611686018427387904 (0,([]:LL))).bind fun u0 =>
some u0
theorem Adc (h:Ng dA=some dB):Eb Tryz.prog Tab 82 [tS dA] [] (oS 0 1 dB.length) [(oi 0 1,.mat 81 (oi 1 1) .int dB),(oi 1 1,.pool 3 .int dB)]:=by
 refine B3 kr Tryz.func82 (Cc kr) (n:=19) kr (by simp) rfl kr trivial ⟨⟨3,.tail _ (.head _)⟩,⟨trivial,trivial⟩⟩ (Ae (Ae (sqF h (fun u1=>sT [(3,oS 0 1 u1.length)] [(oi 0 1,.mat 81 (oi 1 1) .int u1),(oi 1 1,.pool 3 .int u1)]) ?_ fun u1 h=>Ae (Ac (by obtain rfl:=osj h;exact E2 [oS 0 1 u1.length] (Ag (tl:=[(2,oS 0 1 u1.length)]) (g:=2) []))))));intro _ h;refine Ae (Ad (lpF h (fun (u2,u0)=>sT [(3,oS 0 1 u0.length),(6,tS dA),(7,an dA.length),(8,an u2)] [(oi 0 1,.mat 81 (oi 1 1) .int u0),(oi 1 1,.pool 3 .int u0)]) ((My 3 81 sI kr).trans ((Dt (e1:=81) (n:=0) 9000 (oi 3 6) 3 .int kr kr rfl kr kr).trans (Ag [(oi 0 1,oi 3 6),(oi 1 1,oi 9000 7)]))) ?_));rintro n_ ⟨u2,u0⟩ c_ h hn6;refine Ae (Ab (kQ h (fun _ h=>skW (Ab (Ad (Ab (Aa 6 (riH sI h fun x12 _ h=>rsT 2 (rnW (Aa 12 (rsT 2 (rcH h Np fun y13 h=>I4 (oS 15 9 1) (oi 15 9) (.vec 81 1 1 ([oI 224 8 y13.length])) trivial (C8 kr) ?_)))))))))) fun _ h=>lxT (have h:=jO h hn6;jE [])));obtain ⟨g14,h⟩:=Al h;refine zV (oi 0 1) (oi 15 9) (oi 1 1) u0 [oI 224 8 y13.length] g14 (rsT 1 (Ap (bn_ (tn_ ⟨_,Eu (e1:=81) (e:=3) (u:=.int) (n:=u0.length+1) (len:=y13.length) (row:=y13) (ys:=y13) (xss:=u0) 9000 (oi 0 10) (oi 1 1) (oi 224 8) kr kr rfl kr kr (N1 rfl) (Ny rfl) kr kr kr,Aa 15 (raH h fun h=>rsT 1 (Ap (tn_ ?_)))⟩))));obtain rfl:=zj h;exact jLw hn6 ((wL 3 ((by simp):u0.length+1=(u0++[y13]).length)).trans (Ag [(oi 0 1,oi 0 10),(oi 1 1,oi 9000 12)]))
def O7 (u1 u2:Int) (u0:LL):Option LL :=
 (Ng u0).bind fun y4 =>
some y4
theorem Agb (h:O7 bA bB dA=some dB):Eb Tryz.prog Tab 44 [.agg [ai bA,ai bB,tS dA]] [] (.agg [ai bA,ai bB,oS 1 1 dB.length]) [(oi 0 1,.cells 30 [ai bA,ai bB,oS 1 1 dB.length]),(oi 1 1,.mat 81 (oi 2 1) .int dB),(oi 2 1,.pool 3 .int dB)]:=by
 refine B3 kr Tryz.func44 (Cc kr) (n:=11) kr (by simp) rfl kr trivial ⟨trivial,⟨⟨3,.tail _ (.tail _ (.head _))⟩,⟨trivial,trivial⟩⟩⟩ (Ae (Ab (An 12 (dsT 6 (dcM h [] [tS dA] Adc trivial (aR kr) (Ba kr kr trivial) (Ai2 kr) fun y4 h=>dz0 (.agg [ai bA,ai bB,oS 144 9 y4.length]) (Lg (oi 2 2) (oi 2 2) (.cells 30 [ai bA,ai bB,oS 144 9 y4.length]) kr (Cb ⟨Zv kr,⟨Zv kr,trivial⟩⟩ (tn_ (wr_ (Ac ?_))))))))));obtain rfl:=zj h;exact E2 [.agg [ai bA,ai bB,oS 1 1 y4.length]] (Ag (tl:=[(2,.box (oi 0 1) 0)]) (g:=2) [(oi 0 1,oi 2 2),(oi 1 1,oi 144 9),(oi 2 1,oi 145 9)])
def Ej (u2:List ZB) (a0:Int) (a1:List (ByteArray×(List ZB)×Int×Int×LL)) (a3:Bool) (u1:Nat) (u0:List (Int×Int×LL)):Option (Ctl (Nat×(List (Int×Int×LL))) (List (Int×Int×LL))) :=
 cond (decide ((u1:Int)<(u2.length:Int)))
 (((u2[u1]?).bind fun x12 =>
  (cond (x12.1==15)
    (some (x12.1==15))
    (some (x12.1==16))).bind fun u3 =>
  cond u3
   ((Ce u0 (wI ((u0.length:Int) - 2))).bind fun x19 =>
   (Ce u0 (wI ((u0.length:Int) - 2))).bind fun x20 =>
   (Ce u0 (wI ((u0.length:Int) - 1))).bind fun x21 =>
   (Ce u0 (wI ((u0.length:Int) - 1))).bind fun x22 =>
   og ((0:Int)<=0/\0<=wI ((u0.length:Int) - 2)/\wI ((u0.length:Int) - 2)<=(u0.length:Int)) <|
   cond (x12.1==15)
    ((Gt a0 x20.1 x20.2.1 x20.2.2 x22.1 x22.2.1 x22.2.2).bind fun y27 =>
    og ((wI ((u0.length:Int) - 2)).toNat<=u0.length/\(wI ((u0.length:Int) - 2)).toNat+1<=1073741824/\((wI ((u0.length:Int) - 2)).toNat+1)*40<=140737488355328) <|
    some (u0.take ((wI ((u0.length:Int) - 2)).toNat)++[y27]))
    ((Hu a0 x20.1 x20.2.1 x20.2.2 x22.1 x22.2.1 x22.2.2).bind fun y29 =>
    og ((wI ((u0.length:Int) - 2)).toNat<=u0.length/\(wI ((u0.length:Int) - 2)).toNat+1<=1073741824/\((wI ((u0.length:Int) - 2)).toNat+1)*40<=140737488355328) <|
    some (u0.take ((wI ((u0.length:Int) - 2)).toNat)++[y29])))
   (cond (x12.1==17)
    ((Di a1).bind fun y34 =>
    (C4 y34 x12.2.2).bind fun y35 =>
    (Ce a1 y35).bind fun x36 =>
    cond a3
     (og (u0.length+1<=1073741824/\(u0.length+1)*40<=140737488355328) <|
     some (u0++[x36.2.2]))
     ((Nl a0 x36.1 x36.2.1 x36.2.2.1 x36.2.2.2.1 x36.2.2.2.2).bind fun y40 =>
     og (u0.length+1<=1073741824/\(u0.length+1)*40<=140737488355328) <|
     some (u0++[y40])))
    ((Bz a0 x12.1 x12.2.1 x12.2.2).bind fun y42 =>
    og (u0.length+1<=1073741824/\(u0.length+1)*40<=140737488355328) <|
    some (u0++[y42])))).bind fun u4 =>
 og (u1+1<4611686018427387904) <|
 some (.next (u1+1,u4)))
 (some (.out u0))
def Ih (a0:Int) (a1:List (ByteArray×(List ZB)×Int×Int×LL)) (u0:List ZB) (a3:Bool):Option (Int×Int×LL) :=
 (Aq (fun s_:Nat×(List (Int×Int×LL))=>Ej u0 a0 a1 a3 s_.1 s_.2) 4611686018427387904 (0,[])).bind fun u1 =>
(u1[0]?).bind fun x46 =>
(O7 x46.1 x46.2.1 x46.2.2).bind fun y47 =>
some (x46.1,x46.2.1,y47)
theorem W0 (h:Ih bA pA hA cA=some qA):Eb Tryz.prog Tab 30 [ai bA,.tree Yg pA,.agg [.tree Y8 hA],.bool cA] [] (.agg [ai qA.1,ai qA.2.1,oS 1 1 qA.2.2.length]) [(oi 0 1,.cells 30 [ai qA.1,ai qA.2.1,oS 1 1 qA.2.2.length]),(oi 1 1,.mat 81 (oi 2 1) .int qA.2.2),(oi 2 1,.pool 3 .int qA.2.2)]:=by
 refine B3 kr Tryz.func30 (Cc kr) (n:=94) kr fS rfl kr trivial ⟨trivial,⟨⟨3,.tail _<|.tail _<|.head _⟩,⟨trivial,trivial⟩⟩⟩<|Ae<|Ae<|sqF h (fun u2=>sT [(8,.box (oi 0 1) 0),(9,.own (oi 1 1) Y9 0 u2.length)] [(oi 0 1,.cells 30 [ai 0,ai 0,.nils]),(oi 1 1,.tv 30 none Y9 u2)]) ?_ ?_
 ·intro _ h;refine Ae<|Ad<|lpF h (fun (u3,u0)=>sT [(0,ai bA),(1,.tree Yg pA),(3,.bool cA),(8,.box (oi 0 1) 0),(9,.own (oi 1 1) Y9 0 u0.length),(16,.tree Y8 hA),(17,an hA.length),(18,an u3)] [(oi 0 1,.cells 30 [ai 0,ai 0,.nils]),(oi 1 1,.tv 30 none Y9 u0)]) ((Us 9 30 none Y9 kr).trans<|Ag [(oi 0 1,oi 8 2),(oi 1 1,oi 9 8)]) ?_;rintro n_ ⟨u3,u0⟩ c_ h hn6
  (try dsimp only at h);refine Ae<|Ab (kQ h (fun q9 h=>?_) fun q9 h=>?_)
  ·have q9_:=of_decide_eq_true q9;refine skW<|sqF h (fun u4=>sT [(0,ai bA),(1,.tree Yg pA),(3,.bool cA),(8,.box (oi 0 1) 0),(9,.own (oi 1 1) Y9 0 u4.length),(16,.tree Y8 hA),(17,an hA.length),(18,an u3)] [(oi 0 1,.cells 30 [ai 0,ai 0,.nils]),(oi 1 1,.tv 30 none Y9 u4)]) ?_ ?_
   ·intro _ h;refine Ad<|Ab<|Aa 7 (riH Y8 h fun x12 _ h=>rsB 3<|rnW<|Ae<|Ad<|sqF h (fun u5=>sT [(0,ai bA),(1,.tree Yg pA),(3,.bool cA),(8,.box (oi 0 1) 0),(9,.own (oi 1 1) Y9 0 u0.length),(11,.box (oi 2 1) 0),(16,.tree Y8 hA),(17,an hA.length),(18,an u3),(23,ai x12.1),(30,.bool u5)] [(oi 0 1,.cells 30 [ai 0,ai 0,.nils]),(oi 1 1,.tv 30 none Y9 u0),(oi 2 1,.cells 88 [ai x12.1,ai x12.2.1,.str x12.2.2])]) (fun _ h=>Ae (kQ h (fun _ h=>Ax<|tn_<|jE [(oi 2 1,oi 11 5)]) fun _ h=>Aa 13<|rsT 2<|Ap<|tn_<|jE [(oi 2 1,oi 11 5)])) ?_);intro u5 h
    (try dsimp only at h);refine kQ h (fun _ h=>?_) fun _ h=>?_
    ·refine Ab<|An 18<|dsT 4 ?_;have ⟨x19,f19,h⟩:=Ah h;have ⟨p19,b19,e19⟩:=As f19;refine ds0 (.elt (oi 1 1) ((wI<|(u0.length:Int) - 2).toNat) 0) (zo (t:=Y9) (o:=oi 1 1) (len:=u0.length) (k:=.i64) (m:=wI<|(u0.length:Int) - 2) p19<|Ai e19) ?_;have ⟨x20,f20,h⟩:=Ah h;have ⟨p20,b20,e20⟩:=As f20;refine dsl (.agg [ai x20.1,ai x20.2.1,tS x20.2.2]) (Xt (o:=oi 1 1) (k:=0) (e1:=30) (N:=List.length u0) (t:=Y9) (m:=none) (xs:=u0) (z:=x20) kr kr e20 kr<|Nat.le_of_ble_eq_true kr)<|dz0 (.own (oi 1 1) Y9 0 u0.length)<|dz0 (.own (oi 1 1) Y9 0 u0.length)<|dz0 (an u0.length)<|dz0 (ai<|wI<|(u0.length:Int) - 1) ?_;have ⟨x21,f21,h⟩:=Ah h;have ⟨p21,b21,e21⟩:=As f21;refine ds0 (.elt (oi 1 1) ((wI<|(u0.length:Int) - 1).toNat) 0) (zo (t:=Y9) (o:=oi 1 1) (len:=u0.length) (k:=.i64) (m:=wI<|(u0.length:Int) - 1) p21<|Ai e21) ?_;have ⟨x22,f22,h⟩:=Ah h;have ⟨p22,b22,e22⟩:=As f22;refine dsl (.agg [ai x22.1,ai x22.2.1,tS x22.2.2]) (Xt (o:=oi 1 1) (k:=0) (e1:=30) (N:=List.length u0) (t:=Y9) (m:=none) (xs:=u0) (z:=x22) kr kr e22 kr<|Nat.le_of_ble_eq_true kr)<|ds1 (.box (oi 12 14) 0) (oi 12 14) (.cells 30 [ai 0,ai 0,.nils]) kr<|ds1 (.box (oi 13 15) 0) (oi 13 15) (.cells 30 [ai 0,ai 0,.nils]) kr<|Lg (oi 12 14) (oi 12 14) (.cells 30 [ai x20.1,ai x20.2.1,tS x20.2.2]) kr<|Lg (oi 13 15) (oi 13 15) (.cells 30 [ai x22.1,ai x22.2.1,tS x22.2.2]) kr<|Cb (Ar kr)<|tn_<|wr_<|Ab<|Aa 24<|rsT 4 ?_;have ⟨g24,h⟩:=Al h;refine rs0 (.own (oi 1 1) Y9 0<|(wI<|(u0.length:Int) - 2).toNat) (Gv (t:=Y9) (i:=oi 1 1) (off:=0) (len:=u0.length) (l:=0) (h:=wI<|(u0.length:Int) - 2) kr kr kr rfl g24 rfl oM)<|rsT 1<|rnW<|Ae (kQ h (fun _ h=>?_) fun _ h=>?_)
     ·refine Aa 35<|rsT 4 (rcH h Yn fun y27 h=>I4 (.own (oi 58 32) Y9 0 1) (oi 58 32) (.vec 30 3 1<|tvC none Y9<|[y27]) trivial (C8 kr) ?_);have ⟨g28,h⟩:=Al h;refine rs2 (.own (oi 1 33) Y9 0<|(wI<|(u0.length:Int) - 2).toNat+1) (oi 1 1) (oi 1 33) (.vec 30 3 ((wI<|(u0.length:Int) - 2).toNat+1)<|tvC none Y9<|u0.take ((wI<|(u0.length:Int) - 2).toNat)++[y27]) (Acc (o:=oi 1 1) (q:=oi 58 32) (e2:=30) (t:=Y9) (t':=Y9) (t2:=Y9) (len:=(wI<|(u0.length:Int) - 2).toNat) (N:=u0.length) (m:=none) (xs:=u0) (z:=y27) kr kr rfl kr kr g28)<|rsT 1<|Ap<|bn_<|bn_<|tn_ ?_;cases h;exact (Cn (N:=(wI<|(u0.length:Int) - 2).toNat+1) (oi 1 33) 30 none Y9 (u0.take ((wI<|(u0.length:Int) - 2).toNat)++[y27]) kr<|Tg rfl g28).trans<|(wL 9 ((Tg rfl g28):(wI<|(u0.length:Int) - 2).toNat+1=(u0.take ((wI<|(u0.length:Int) - 2).toNat)++[y27]).length)).trans<|Ag [(oi 1 1,oi 1 33)]
     refine Aa 35<|rsT 4 (rcH h Aan fun y29 h=>I4 (.own (oi 65 32) Y9 0 1) (oi 65 32) (.vec 30 3 1<|tvC none Y9<|[y29]) trivial (C8 kr) ?_);have ⟨g30,h⟩:=Al h;refine rs2 (.own (oi 1 33) Y9 0<|(wI<|(u0.length:Int) - 2).toNat+1) (oi 1 1) (oi 1 33) (.vec 30 3 ((wI<|(u0.length:Int) - 2).toNat+1)<|tvC none Y9<|u0.take ((wI<|(u0.length:Int) - 2).toNat)++[y29]) (Acc (o:=oi 1 1) (q:=oi 65 32) (e2:=30) (t:=Y9) (t':=Y9) (t2:=Y9) (len:=(wI<|(u0.length:Int) - 2).toNat) (N:=u0.length) (m:=none) (xs:=u0) (z:=y29) kr kr rfl kr kr g30)<|rsT 1<|Ap<|bn_<|bn_<|tn_ ?_;cases h;exact (Cn (N:=(wI<|(u0.length:Int) - 2).toNat+1) (oi 1 33) 30 none Y9 (u0.take ((wI<|(u0.length:Int) - 2).toNat)++[y29]) kr<|Tg rfl g30).trans<|(wL 9 ((Tg rfl g30):(wI<|(u0.length:Int) - 2).toNat+1=(u0.take ((wI<|(u0.length:Int) - 2).toNat)++[y29]).length)).trans<|Ag [(oi 1 1,oi 1 33)]
    refine Ae (kQ h (fun _ h=>?_) fun _ h=>?_)
    ·refine Ab<|An 14<|dz0 (.tree Yg pA)<|dz0 (.tree Yg pA) ?_;have ⟨y34,h34,h⟩:=Ah h;refine Ah2 (.tree Ye y34) [] [.tree Yg pA] _ (caps:=[]) trivial (Lv h34) kr<|dz0 (.box (oi 2 1) 2)<|dzl (.str x12.2.2) (dcH h P6 fun y35 h=>?_);have ⟨x36,f36,h⟩:=Ah h;have ⟨p36,b36,e36⟩:=As f36;refine ds0 (.telt none Yg x36 0) (zi (t:=Yg) (xs:=pA) (k:=.i64) (m:=y35) p36 e36)<|dz0 (.agg [.str x36.1,.tree Y8 x36.2.1,ai x36.2.2.1,ai x36.2.2.2.1,tS x36.2.2.2.2])<|ds1 (.box (oi 14 12) 0) (oi 14 12) (.cells 51 [.str (⟨#[]⟩:ByteArray),.nils,ai 0,ai 0,.nils]) kr<|Lg (oi 14 12) (oi 14 12) (.cells 51 [.str x36.1,.tree Y8 x36.2.1,ai x36.2.2.1,ai x36.2.2.2.1,tS x36.2.2.2.2]) kr<|Cb (Ar kr)<|tn_<|wr_<|Ae (kQ h (fun _ h=>?_) fun _ h=>?_)
     ·refine Aa 21<|rsT 3<|I4 (.own (oi 81 18) Y9 0 1) (oi 81 18) (.vec 30 3 1<|tvC none Y9<|[x36.2.2]) trivial (C8 kr) ?_;have ⟨g39,h⟩:=Al h;refine rs2 (.own (oi 1 19) Y9 0<|u0.length+1) (oi 1 1) (oi 1 19) (.vec 30 3 (u0.length+1)<|tvC none Y9<|u0++[x36.2.2]) (O4 (t':=Y9) (t:=Y9) (t2:=Y9) (e2:=30) (q:=oi 81 18) (m:=none) (z:=x36.2.2) (o:=oi 1 1) (xs:=u0) (len:=u0.length) kr kr rfl kr kr g39)<|rsT 1<|Ap<|bn_<|bn_<|tn_ ?_;cases h;exact (Cn (N:=u0.length+1) (oi 1 19) 30 none Y9 (u0++[x36.2.2]) kr fS).trans<|(wL 9 (fS:u0.length+1=(u0++[x36.2.2]).length)).trans<|Ag [(oi 1 1,oi 1 19)]
     refine Aa 22<|rsT 3 (rcH h Aef fun y40 h=>I4 (.own (oi 87 19) Y9 0 1) (oi 87 19) (.vec 30 3 1<|tvC none Y9<|[y40]) trivial (C8 kr) ?_);have ⟨g41,h⟩:=Al h;refine rs2 (.own (oi 1 20) Y9 0<|u0.length+1) (oi 1 1) (oi 1 20) (.vec 30 3 (u0.length+1)<|tvC none Y9<|u0++[y40]) (O4 (t':=Y9) (t:=Y9) (t2:=Y9) (e2:=30) (q:=oi 87 19) (m:=none) (z:=y40) (o:=oi 1 1) (xs:=u0) (len:=u0.length) kr kr rfl kr kr g41)<|rsT 1<|Ap<|bn_<|bn_<|tn_ ?_;cases h;exact (Cn (N:=u0.length+1) (oi 1 20) 30 none Y9 (u0++[y40]) kr fS).trans<|(wL 9 (fS:u0.length+1=(u0++[y40]).length)).trans<|Ag [(oi 1 1,oi 1 20)]
    refine Aa 11<|rsT 3 (rcH h Afe fun y42 h=>I4 (.own (oi 28 8) Y9 0 1) (oi 28 8) (.vec 30 3 1<|tvC none Y9<|[y42]) trivial (C8 kr) ?_);have ⟨g43,h⟩:=Al h;refine rs2 (.own (oi 1 9) Y9 0<|u0.length+1) (oi 1 1) (oi 1 9) (.vec 30 3 (u0.length+1)<|tvC none Y9<|u0++[y42]) (O4 (t':=Y9) (t:=Y9) (t2:=Y9) (e2:=30) (q:=oi 28 8) (m:=none) (z:=y42) (o:=oi 1 1) (xs:=u0) (len:=u0.length) kr kr rfl kr kr g43)<|rsT 1<|Ap<|bn_<|bn_<|tn_ ?_;cases h;exact (Cn (N:=u0.length+1) (oi 1 9) 30 none Y9 (u0++[y42]) kr fS).trans<|(wL 9 (fS:u0.length+1=(u0++[y42]).length)).trans<|Ag [(oi 1 1,oi 1 9)]
   intro u4 h
   (try dsimp only at h);refine Aa 4 ?_;have ⟨g44,h⟩:=Al h;exact zA g44<|rsT 1<|Ap<|tn_<|jL []
  have q9_:=of_decide_eq_false q9;refine lxT ?_;have h:=jO h hn6
  (try dsimp only at h);exact jE []
 intro u2 h
 (try dsimp only at h);refine Ab<|Aa 7<|rsT 1 ?_;have ⟨x46,e46,h⟩:=Ah h;refine rs0 (.elt (oi 1 1) 0 0) (V5 (t:=Y9) (o:=oi 1 1) (len:=u2.length) (k:=.i64) (m:=0) kr kr rfl (by decide) rfl<|Ai e46)<|rsl (.agg [ai x46.1,ai x46.2.1,tS x46.2.2]) (Xt (o:=oi 1 1) (k:=0) (e1:=30) (N:=List.length u2) (t:=Y9) (m:=none) (xs:=u2) (z:=x46) kr kr e46 kr<|Nat.le_of_ble_eq_true kr) (rcM h [] [.agg [ai x46.1,ai x46.2.1,tS x46.2.2]] Agb trivial (aR kr) (Ba kr kr trivial) fun y47 h=>rsB 1<|rnW<|Ac ?_);cases h;exact E2 [.agg [ai x46.1,ai x46.2.1,oS 1 1 y47.length]]<|Ag (tl:=[(8,.box (oi 0 1) 0)]) (g:=2) [(oi 1 1,oi 1489 5),(oi 2 1,oi 1490 5)]
def Jh (a0:Int) (a1:List (ByteArray×(List ZB)×Int×Int×LL)) (u0:List ZB):Option (Bool×Int×Int×LL) :=
 (Ku a0 a1 u0).bind fun y5 =>
cond (!y5)
 (some (false,0,0,([]:LL)))
 ((Ih a0 a1 u0 true).bind fun y9 =>
 some (true,y9.1,y9.2.1,y9.2.2))
theorem Yp (h:Jh bA pA hA=some vA):Eb Tryz.prog Tab 8 [ai bA,.tree Yg pA,.agg [.tree Y8 hA]] [] (.tup [.agg [ai vA.2.1,ai vA.2.2.1,oS 1 1 vA.2.2.2.length],.bool vA.1]) [(oi 0 1,.cells 30 [ai vA.2.1,ai vA.2.2.1,oS 1 1 vA.2.2.2.length]),(oi 1 1,.mat 81 (oi 2 1) .int vA.2.2.2),(oi 2 1,.pool 3 .int vA.2.2.2)]:=by
 exact B3 kr Tryz.func8 (Cc kr) (n:=18) kr fS rfl kr trivial ⟨trivial,⟨⟨3,.tail _<|.tail _<|.head _⟩,⟨trivial,trivial⟩⟩⟩<|Ae<|Ab<|Ab<|Aa 9<|rsT 3 (rcH h Ze fun y5 h=>rsT 1<|rnW (kQ h (fun _ h=>Ae<|Ac<|tr_ (by cases h;exact E2 [.agg [ai 0,ai 0,oS 1 1 ((([]:LL)).length)],.bool false]<|(Oh 9000 (oi 6 2) 2 30 [ai 0,ai 0,.nils] [ai 0,ai 0,oS 9000 12 0] 81 sI kr kr kr).trans<|(Dt (e1:=81) (n:=0) 9000 (oi 9000 12) 3 .int kr kr rfl kr kr).trans<|Ag (tl:=[(6,.box (oi 0 1) 0),(7,.bool false)]) (g:=2) [(oi 0 1,oi 6 2),(oi 1 1,oi 9000 12),(oi 2 1,oi 9000 13)])) fun _ h=>skW<|Ab<|Aa 15<|rsT 3 (rcM h [] [ai bA,.tree Yg pA,.agg [.tree Y8 hA],.bool true] W0 trivial (aR kr) (Ba kr kr trivial) fun y9 h=>rsB 2<|rnW<|Ac (by cases h;exact E2 [.agg [ai y9.1,ai y9.2.1,oS 1 1 y9.2.2.length],.bool true]<|Ag (tl:=[(6,.box (oi 0 1) 0),(7,.bool true)]) (g:=2) [(oi 0 1,oi 6 2),(oi 1 1,oi 273 12),(oi 2 1,oi 274 12)]))))
def grV (k v:Int):ZA:=if k=3 then [[1,1,1]] else if k=4 then [[1]] else if k=5 then [[1,0,1],[0,1,1]] else if k=7 then [[1,v]] else []
def Akm (w w':World) (e:Ending) (xss:ZA):Prop:=(∃ A c l,e=.returned (.slice A xss.length c)/\Sl (fun b=>w.heap.size<=b) w' (.slice .int) A c xss l)/\Below w.heap.size w w'
theorem Acd {R:NP} {w:World} {b:Nat} {xss:ZA} {c:Nat} (hR:R b) (hc:xss.length<=c/\c<=maxLen) (g:Nat->Nat)
  (h:∀ (i:Nat) (hi:i<xss.length),w.cell? ⟨b,i,none⟩=some (.slice (some ⟨g i,0,none⟩) xss[i].length xss[i].length)/\R (g i)/\xss[i].length<=maxLen/\∀ (j:Nat) (hj:j<xss[i].length),w.cell? ⟨g i,j,none⟩=some (.int .i64 xss[i][j])):∃ l,Sl R w (.slice .int) (some ⟨b,0,none⟩) c xss l:=by
 have ea:∀ (b i:Nat),(⟨b,0,none⟩:Addr).add (i*1)=⟨b,i,none⟩:=fun b i=>by
  by_cases h:i=0 <;> simp [Addr.add,h]
 refine ⟨_,hc.1,hc.2,fun i=>(range (xss.getD i []).length).flatMap fun j=>[⟨g i,j,none⟩],rfl,fun _=>⟨_,rfl,hR,fun i hi=>?_⟩⟩;obtain ⟨h1,h2,h3,h4⟩:=h i hi;have e:xss.getD i []=xss[i]:=by rw [gDg,gEg hi];rfl
 refine ⟨some ⟨g i,0,none⟩,xss[i].length,by rw [show Ty.size (.slice .int)=1 from rfl,ea];exact h1,Nat.le_refl _,h3,fun j=>[⟨g i,j,none⟩],by dsimp only;rw [e],fun _=>⟨_,rfl,h2,fun j hj=>?_⟩⟩;rw [show Ty.size .int=1 from rfl,ea];exact ⟨h4 j hj,rfl⟩
theorem M9 {w:World} {cs:Array Value} {t:TypeId} {b j:Nat} (hb:b=w.heap.size):(w.alloc (.cells cs t)).cell? ⟨b,j,none⟩=cs[j]?:=by subst hb;exact World.cell?_alloc_new _ _ _ _
theorem Va {w:World} {o:Obj} {b j:Nat} (hb:b<w.heap.size):(w.alloc o).cell? ⟨b,j,none⟩=w.cell? ⟨b,j,none⟩:=World.cell?_alloc_lt _ _ _ hb
theorem gr3 (v:Int) (w:World):Calls Tryz.prog 144 #[.int .i64 3,.int .i64 v] w fun e w'=>Akm w w' e [[1,1,1]]:=by
 go_enter Tryz.func144,Tryz.ntmps144
 go_wp2
 refine bodyPost_ret (v:=.slice (some ⟨w.heap.size+1,0,none⟩) 1 1) (by simp [results,Tryz.results144,go_sem]) rfl ?_
 obtain ⟨l,hl⟩:=Acd (R:=fun b=>w.heap.size<=b) (w:=(w.alloc (Obj.cells #[Value.int IntKind.i64 1,Value.int IntKind.i64 1,Value.int IntKind.i64 1] 3)).alloc (Obj.cells #[Value.slice (some ⟨w.heap.size,0,none⟩) 3 3] 81)) (b:=w.heap.size+1) (xss:=[[1,1,1]]) (c:=1) (Nat.le_succ _) ⟨Nat.le_refl _,by simp [maxLen]⟩ (fun i=>w.heap.size) (fun i hi=>by
  obtain rfl:i=0:=by simp at hi;omega
  refine ⟨by rw [M9 (by simp)];rfl,Nat.le_refl _,by simp [maxLen],fun j hj=>?_⟩;rcases (show j=0∨j=1∨j=2 by simp at hj;omega) with rfl|rfl|rfl <;> (rw [Va (by simp <;> omega),M9 rfl];rfl))
 exact ⟨⟨_,_,l,rfl,hl⟩,by repeat (first|with_reducible exact Below.refl _ _|((with_reducible refine Below.setCell ?_ ?_ _);rotate_left;focus (first|(simp;done)|omega|(simp;omega)))|((with_reducible refine Below.alloc ?_ ?_ _);rotate_left;focus (first|(simp;done)|omega|(simp;omega)))|(with_reducible refine Below.drew ?_)|(with_reducible refine below_draws_ ?_ _))⟩
theorem gr4 (v:Int) (w:World):Calls Tryz.prog 144 #[.int .i64 4,.int .i64 v] w fun e w'=>Akm w w' e [[1]]:=by
 go_enter Tryz.func144,Tryz.ntmps144
 go_wp2
 refine bodyPost_ret (v:=.slice (some ⟨w.heap.size+1,0,none⟩) 1 1) (by simp [results,Tryz.results144,go_sem]) rfl ?_
 obtain ⟨l,hl⟩:=Acd (R:=fun b=>w.heap.size<=b) (w:=(w.alloc (Obj.cells #[Value.int IntKind.i64 1] 3)).alloc (Obj.cells #[Value.slice (some ⟨w.heap.size,0,none⟩) 1 1] 81)) (b:=w.heap.size+1) (xss:=[[1]]) (c:=1) (Nat.le_succ _) ⟨Nat.le_refl _,by simp [maxLen]⟩ (fun i=>w.heap.size) (fun i hi=>by
  obtain rfl:i=0:=by simp at hi;omega
  refine ⟨by rw [M9 (by simp)];rfl,Nat.le_refl _,by simp [maxLen],fun j hj=>?_⟩;obtain rfl:j=0:=by simp at hj;omega
  rw [Va (by simp <;> omega),M9 rfl];rfl)
 exact ⟨⟨_,_,l,rfl,hl⟩,by repeat (first|with_reducible exact Below.refl _ _|((with_reducible refine Below.setCell ?_ ?_ _);rotate_left;focus (first|(simp;done)|omega|(simp;omega)))|((with_reducible refine Below.alloc ?_ ?_ _);rotate_left;focus (first|(simp;done)|omega|(simp;omega)))|(with_reducible refine Below.drew ?_)|(with_reducible refine below_draws_ ?_ _))⟩
theorem gr7 (v:Int) (w:World):Calls Tryz.prog 144 #[.int .i64 7,.int .i64 v] w fun e w'=>Akm w w' e [[1,v]]:=by
 go_enter Tryz.func144,Tryz.ntmps144
 go_wp2
 refine bodyPost_ret (v:=.slice (some ⟨w.heap.size+1,0,none⟩) 1 1) (by simp [results,Tryz.results144,go_sem]) rfl ?_
 obtain ⟨l,hl⟩:=Acd (R:=fun b=>w.heap.size<=b) (w:=(w.alloc (Obj.cells #[Value.int IntKind.i64 1,Value.int IntKind.i64 v] 3)).alloc (Obj.cells #[Value.slice (some ⟨w.heap.size,0,none⟩) 2 2] 81)) (b:=w.heap.size+1) (xss:=[[1,v]]) (c:=1) (Nat.le_succ _) ⟨Nat.le_refl _,by simp [maxLen]⟩ (fun i=>w.heap.size) (fun i hi=>by
  obtain rfl:i=0:=by simp at hi;omega
  refine ⟨by rw [M9 (by simp)];rfl,Nat.le_refl _,by simp [maxLen],fun j hj=>?_⟩;rcases (show j=0∨j=1 by simp at hj;omega) with rfl|rfl <;> (rw [Va (by simp <;> omega),M9 rfl];rfl))
 exact ⟨⟨_,_,l,rfl,hl⟩,by repeat (first|with_reducible exact Below.refl _ _|((with_reducible refine Below.setCell ?_ ?_ _);rotate_left;focus (first|(simp;done)|omega|(simp;omega)))|((with_reducible refine Below.alloc ?_ ?_ _);rotate_left;focus (first|(simp;done)|omega|(simp;omega)))|(with_reducible refine Below.drew ?_)|(with_reducible refine below_draws_ ?_ _))⟩
theorem gr5 (v:Int) (w:World):Calls Tryz.prog 144 #[.int .i64 5,.int .i64 v] w fun e w'=>Akm w w' e [[1,0,1],[0,1,1]]:=by
 go_enter Tryz.func144,Tryz.ntmps144
 go_wp2
 refine bodyPost_ret (v:=.slice (some ⟨w.heap.size+2,0,none⟩) 2 2) (by simp [results,Tryz.results144,go_sem]) rfl ?_
 obtain ⟨l,hl⟩:=Acd (R:=fun b=>w.heap.size<=b) (w:=((w.alloc (Obj.cells #[Value.int IntKind.i64 1,Value.int IntKind.i64 0,Value.int IntKind.i64 1] 3)).alloc (Obj.cells #[Value.int IntKind.i64 0,Value.int IntKind.i64 1,Value.int IntKind.i64 1] 3)).alloc (Obj.cells #[Value.slice (some ⟨w.heap.size,0,none⟩) 3 3,Value.slice (some ⟨w.heap.size+1,0,none⟩) 3 3] 81)) (b:=w.heap.size+2) (xss:=[[1,0,1],[0,1,1]]) (c:=2) oM ⟨Nat.le_refl _,by simp [maxLen]⟩ (fun i=>w.heap.size+i) (fun i hi=>by
  rcases (show i=0∨i=1 by simp at hi;omega) with rfl|rfl
  ·refine ⟨by rw [M9 (by simp)];rfl,Nat.le_add_right _ _,by simp [maxLen],fun j hj=>?_⟩;rcases (show j=0∨j=1∨j=2 by simp at hj;omega) with rfl|rfl|rfl <;> (rw [Va (by simp <;> omega),Va (by simp <;> omega),M9 (by simp)];rfl)
  ·refine ⟨by rw [M9 (by simp)];rfl,Nat.le_add_right _ _,by simp [maxLen],fun j hj=>?_⟩;rcases (show j=0∨j=1∨j=2 by simp at hj;omega) with rfl|rfl|rfl <;> (rw [Va (by simp <;> omega),M9 (by simp)];rfl))
 exact ⟨⟨_,_,l,rfl,hl⟩,by repeat (first|with_reducible exact Below.refl _ _|((with_reducible refine Below.setCell ?_ ?_ _);rotate_left;focus (first|(simp;done)|omega|(simp;omega)))|((with_reducible refine Below.alloc ?_ ?_ _);rotate_left;focus (first|(simp;done)|omega|(simp;omega)))|(with_reducible refine Below.drew ?_)|(with_reducible refine below_draws_ ?_ _))⟩
theorem Avl (w:World):Akm w w (.returned (.slice none 0 0)) []:=⟨⟨none,0,[],rfl,by simp,by simp [maxLen],fun _=>[],by simp,fun h=>absurd h fS⟩,Below.refl _ _⟩
theorem gr6 (v:Int) (w:World):Calls Tryz.prog 144 #[.int .i64 6,.int .i64 v] w fun e w'=>Akm w w' e []:=by
 go_enter Tryz.func144,Tryz.ntmps144
 go_wp2
 refine bodyPost_ret (v:=.slice none 0 0) (by simp [results,Tryz.results144,go_sem]) rfl ?_;exact Avl _
theorem gr8 (v:Int) (w:World):Calls Tryz.prog 144 #[.int .i64 8,.int .i64 v] w fun e w'=>Akm w w' e []:=by
 go_enter Tryz.func144,Tryz.ntmps144
 go_wp2
 refine bodyPost_ret (v:=.slice none 0 0) (by simp [results,Tryz.results144,go_sem]) rfl ?_;exact Avl _
theorem Ay5 (k v:Int) (h:3<=k/\k<=8) (w:World):Calls Tryz.prog 144 #[.int .i64 k,.int .i64 v] w fun e w'=>Akm w w' e (grV k v):=by
 rcases (show k=3∨k=4∨k=5∨k=6∨k=7∨k=8 by omega) with rfl|rfl|rfl|rfl|rfl|rfl
 ·exact gr3 v w
 ·exact gr4 v w
 ·exact gr5 v w
 ·exact gr6 v w
 ·exact gr7 v w
 ·exact gr8 v w
def Jb (a0 a1:Int):Option ZA:=og (3<=a0/\a0<=8) (some (grV a0 a1))
def Td (r:ZA):RV:=⟨false,[(false,[.frz (.tree (.slice .int) r)])]⟩
theorem Mp {a0 a1:Int} {r:ZA} (h:Jb a0 a1=some r):Cr Tryz.prog Tab 144 [.int .i64 a0,.int .i64 a1] (Td r):=by
 have ⟨hb,h⟩:=Al h;cases h;intro w im vs hG hr;obtain ⟨u1,_,rfl,h1,u2,_,rfl,h2,h3⟩:=hr;obtain rfl:_=[]:=h3;obtain rfl:u1=.int .i64 a0:=h1;obtain rfl:u2=.int .i64 a1:=h2;refine (Ay5 a0 a1 hb w).mono ?_;rintro e w' ⟨⟨A,c,l,rfl,hs⟩,hbl⟩;exact ⟨_,rfl,hbl,[_],[],⟨_,[],rfl,⟨A,c,l,rfl,hs⟩,rfl,rfl,rfl⟩,⟨trivial,fun _=>rfl⟩,rfl⟩
mutual
def AV.unT (R:NP):AV->AV->Prop
 | .tree t xs,d=>d=.ftr R t xs
 | .agg cs,d=>∃ ds,d=.agg ds/\AV.unTL R cs ds
 | .fn f cs,d=>∃ ds,d=.fn f ds/\AV.unTL R cs ds
 | c,d=>d=c
def AV.unTL (R:NP):LA->LA->Prop
 | [],ds=>ds=[]
 | c :: cs,ds=>∃ d ds',ds=d :: ds'/\AV.unT R c d/\AV.unTL R cs ds'
end
mutual
theorem Ax5 {C:OC} {R im im':NP} {w:World} (hm:∀ (c:AV) (u:Value),AV.Rep C im w c u->AV.Rep C im' w c u) (hR:∀ b,im b->im' b/\R b):∀ (c d:AV) (u:Value),AV.unT R c d->AV.Rep C im w c u->AV.Rep C im' w d u
 | .tree t xs,d,u,h,⟨A,c,l,e,hs⟩=>by
  have h:d=.ftr R t xs:=h;subst h;exact ⟨A,c,l,e,B7 (fun b _ hb=>hR b hb) hs⟩
 | .agg cs,d,u,⟨ds,e,h⟩,hr=>by
  subst e;have ⟨us,e,hr⟩:=hr;exact ⟨us,e,Xv hm hR cs ds us h hr⟩
 | .fn f cs,d,u,⟨ds,e,h⟩,hr=>by
  subst e;have ⟨us,e,hr⟩:=hr;exact ⟨us,e,Xv hm hR cs ds us h hr⟩
 | .int ..,d,u,h,hr | .bool ..,d,u,h,hr | .str ..,d,u,h,hr | .err ..,d,u,h,hr | .nils,d,u,h,hr | .any,d,u,h,hr | .mtree ..,d,u,h,hr | .ftr ..,d,u,h,hr | .mp _,d,u,h,hr | .tup _,d,u,h,hr | .ref _,d,u,h,hr
 | .own ..,d,u,h,hr | .box ..,d,u,h,hr | .elt ..,d,u,h,hr | .sla ..,d,u,h,hr | .telt ..,d,u,h,hr | .giv ..,d,u,h,hr | .abool ..,d,u,h,hr=>by obtain rfl:d=_:=h;exact hm _ u hr
theorem Xv {C:OC} {R im im':NP} {w:World} (hm:∀ (c:AV) (u:Value),AV.Rep C im w c u->AV.Rep C im' w c u) (hR:∀ b,im b->im' b/\R b):∀ (cs ds:LA) (us:LV),AV.unTL R cs ds->AV.RepL C im w cs us->AV.RepL C im' w ds us
 | [],ds,us,h,hr=>by obtain rfl:ds=[]:=h;exact hr
 | c :: cs,ds,us,⟨d,ds',e,h1,h2⟩,hr=>by
  subst e;have ⟨u,us',e,r1,r2⟩:=hr;exact ⟨u,us',e,Ax5 hm hR c d u h1 r1,Xv hm hR cs ds' us' h2 r2⟩
end
theorem Aif {C:OC} {im:NP} {w:World}:∀ (cs:LA) (vs:LV),AV.RepL C im w cs vs->AV.RepL C im w (cs.map AV.un) vs
 | [],_,h=>h
 | _ :: cs,_,⟨u,us,e,h1,h2⟩=>⟨u,us,e,Adh h1,Aif cs us h2⟩
theorem Anj {R:NP}:∀ (t:Ty) (x:t.D),(t.avM (some R) x).map AV.un=t.avM none x
 | .int,_=>rfl
 | .bool,_=>rfl
 | .str,_=>rfl
 | .slice t,xs=>rfl
 | .pair a b,x=>by simp only [Ty.avM,map_append,Anj a,Anj b]
theorem As6 {R:NP} {t:Ty} (xs:List t.D):(tvC (some R) t xs).map AV.un=tvC none t xs:=by
 unfold tvC;rw [map_flatMap];congr 1;funext x;exact Anj t x
theorem Aht {R:NP} {D:Oid->Prop}:∀ (t:Ty) (x:t.D),∀ c∈t.avM (some R) x,c.hp D∨∃ (t:Ty) (xs:List t.D),c=.ftr R t xs
 | .int,_,c,h=>by obtain rfl:=mem_singleton.1 h;exact .inl trivial
 | .bool,_,c,h=>by obtain rfl:=mem_singleton.1 h;exact .inl trivial
 | .str,_,c,h=>by obtain rfl:=mem_singleton.1 h;exact .inl trivial
 | .slice t,xs,c,h=>by obtain rfl:=mem_singleton.1 h;exact .inr ⟨t,xs,rfl⟩
 | .pair a b,x,c,h=>(mem_append.1 h).elim (Aht a x.1 c) (Aht b x.2 c)
theorem Ald {P:Program} [IsP P] {G:WP} (hfol:P.follows .mixedOrders=true) {g:FuncId} {fn:Func} (hf:P.funcs[g]? =some fn) {ac:AC} {rs:List Res} (hc:Cw P fn=some (ac,rs)) {args0:LA} (args:(NP)->LA) {n:Nat} (hN:fn.ntmps=n) (hn:∀ R,(args R).length<=n)
  {tl:(NP)->TL} (htl:∀ R,tmL 0 (args R)=tl R) {e:TypeId} {t t':Ty} {xs:List t.D} (hu:∀ R,AV.unTL R args0 (args R)) (hcl:∀ R,AV.cloL [] (args R)=true) (hrn:∀ R U,AV.renL U (args R)=args R)
  (h:∀ R,awp P G ac (fun en S=>∃ S',WeakG G S S'/\(en=.normal∨en=.ret)/\(∃ rvs,Res.evL S'.tm S'.ob rs=some rvs/\AV.own (oi 0 1) t' 0 xs.length=Agc rvs)/\∀ q∈exL [(oi 0 1,Ob.tv e (some R) t xs)],S'.ob q.1=some q.2) ⟨Ao (tl R),Aj (Cm []),1⟩):Xi P G g args0 (.own (oi 0 1) t' 0 xs.length) [(oi 0 1,.tv e none t xs)]:=by
 intro i w0 ob C K w vs hM hi hargs;unfold Cw at hc;split at hc
 ·rename_i c hb;split at hc
  ·rename_i ac' rs' h1 h2;obtain ⟨rfl,rfl⟩:=Prod.mk.inj (osj hc)
   have hU:Ayn P G (imm ob C) g (args (imm ob C)) [] (.own (oi 0 1) t' 0 xs.length) [(oi 0 1,.tv e (some (imm ob C)) t xs)]:=by
    refine Aks hfol hf hb h1 h2 (by have:=hn (imm ob C);omega) (fun q hq=>by cases hq) (by simp [nmL,exL]) (fun q hq=>?_) (AV.cloPL_of _ (hcl _)) (show oi 0 1∈nmL _ by simp [nmL,exL]) ?_
    ·obtain rfl:=mem_singleton.1 hq;refine ⟨.inl rfl,.inr (.inr fun c hc=>?_)⟩;obtain ⟨x,_,hx⟩:=mem_flatMap.1 hc;exact Aht t x c hx
    ·have:=h (imm ob C);rw [← htl,← Ahs] at this;exact this
   refine (hU (fun j=>j) i w0 ob C K w vs (fun _ h=>h) hM hi (fun q hq=>by cases hq) (fun _ _ hj=>by cases hj) (fun _ hj=>by cases hj) ?_).mono ?_
   ·rw [hrn];have hO:∀ b,imm ob C b->Abw (fun j=>j) [] C b:=fun b _ q hq=>by cases hq
    have hL:Later C C (imm ob C) (Abw (fun j=>j) [] C) w w:=⟨fun _ _ h=>h,fun b _ hb=>hO b hb,fun _ _ _=>rfl,Nat.le_refl _⟩
    exact Xv (fun c u hr=>AV.Rep.later hL c u hr) (fun b hb=>⟨hO b hb,hb⟩) _ _ _ (hu _) hargs
   ·rintro en w' ⟨u,rfl,C',k1,k2,k3⟩;have ea:A0 (Js (fun j=>j) i [] [(oi 0 1,.tv e (some (imm ob C)) t xs)]) ob=upd ob (B8 (fun j=>j) i (oi 0 1)) (some ((Ob.vec e t.size xs.length (tvC (some (imm ob C)) t xs)).ren (B8 (fun j=>j) i))):=rfl;have eb:A0 (Js (fun j=>j) i [] [(oi 0 1,.tv e none t xs)]) ob=upd ob (B8 (fun j=>j) i (oi 0 1)) (some ((Ob.vec e t.size xs.length (tvC none t xs)).ren (B8 (fun j=>j) i))):=rfl;rw [ea] at k1 k2;generalize B8 (fun j=>j) i (oi 0 1)=Y at *
    have hd:∀ x,(∃ o,upd ob Y (some ((Ob.vec e t.size xs.length (tvC none t xs)).ren (B8 (fun j=>j) i))) x=some o)↔∃ o,upd ob Y (some ((Ob.vec e t.size xs.length (tvC (some (imm ob C)) t xs)).ren (B8 (fun j=>j) i))) x=some o:=fun x=>by
     unfold upd;by_cases hx:x=Y
     ·simp [hx]
     ·simp [hx]
    refine ⟨u,rfl,?_⟩;rw [eb];have him:=Ax3 (C:=C') hd;refine ⟨C',by rw [him];exact k1,⟨k2.below,k2.inv,k2.gen,k2.lt,k2.cap,fun a b bl c s c' s' o o' ha hb'=>?_,fun a o l ha hl=>?_⟩,?_⟩
    ·obtain ⟨o1,h1⟩:=(hd a).1 ⟨o,ha⟩;obtain ⟨o2,h2⟩:=(hd b).1 ⟨o',hb'⟩;exact k2.inj a b bl c s c' s' o1 o2 h1 h2
    ·rw [him];by_cases hx:a=Y
     ·subst hx;have ha':some ((Ob.vec e t.size xs.length (tvC none t xs)).ren (B8 (fun j=>j) i))=some o:=by rw [← ha];simp [upd]
      obtain rfl:=osj ha';have hr:=k2.obs a ((Ob.vec e t.size xs.length (tvC (some (imm ob C)) t xs)).ren (B8 (fun j=>j) i)) l (by simp [upd]) hl;cases l with
      | nil =>
       obtain ⟨vs1,q1,q2,q3⟩:=hr;refine ⟨vs1,q1,?_,q3⟩;have:=Aif _ _ q2;rw [Sg,As6] at this;rw [Sg];exact this
      | at_ b c s =>
       obtain ⟨vs1,q1,q2,q3⟩:=hr;refine ⟨vs1,q1,?_,q3⟩;have:=Aif _ _ q2;rw [Sg,As6] at this;rw [Sg];exact this
     ·refine k2.obs a o l ?_ hl;rw [← ha];simp [upd,hx]
    ·exact him▸k3
  ·cases hc
 ·cases hc
theorem Ai3 {P:Program} {G:WP} {f:FuncId} {args:LA} {n:Nat} {us:List (Oid×Ob)} {v:AV} (h:Xi P G f args v us):Xi P (GN G n) f args v us:=by
 intro i w0 ob C K w vs hM h1 h2;refine (h i w0 ob C K w vs ⟨hM.below,fun w' hb=>(hM.inv w' hb).1,hM.gen,hM.lt,hM.cap,hM.inj,hM.obs⟩ h1 h2).mono ?_;rintro e w' ⟨u,rfl,C',q1,q2,q3⟩;exact ⟨u,rfl,C',q1,⟨q2.below,hM.inv,q2.gen,q2.lt,q2.cap,q2.inj,q2.obs⟩,q3⟩
theorem Aod {P:Program} {G:WP} {n:Nat} {d:Option Nat} {gd:Option (Nat×Bool)} {fo:Opd} {xs:List Opd} {tys:List (List (Option Ty))} {f:TF} {ob:OF} {F0 F:FuncId} {caps args:LA} {v:AV} {us:List (Oid×Ob)}
  (hgd:Rj gd f) (hfo:fo.ev f=.fn F0 caps) (hF:Qd F0=F) (hz:(Dk F0 xs (caps.map Opd.cst)).map (Opd.ev f)=args) (h5:∀ q∈exL us,q.1.2=1∨(q.1.2=0/\q.1∈nmL [])) (hb:Cz P F=true) (hc:Xi P G F args v us) :
  Fu P G false n ⟨d,gd,.call fo xs tys⟩ f ob (2,v.ren (B8 (fun j=>j) ((d.getD 0,0),n)),Js (fun j=>j) ((d.getD 0,0),n) [] us):=by
 have hN:Aoo P G f ob ((d.getD 0,0),n) (Qd F0) (Dk F0 xs<|caps.map Opd.cst) (v.ren<|B8 (fun j=>j) ((d.getD 0,0),n),Js (fun j=>j) ((d.getD 0,0),n) [] us):=by
  subst hF hz;refine .inr ⟨hb,v,us,hc,fun j hj=>?_,rfl⟩;obtain ⟨q,hq,rfl⟩:=mem_map.1 hj;rcases h5 q hq with h|⟨_,h⟩
  ·rw [h];decide
  ·cases h
 have key:EvR P G false f ob ((d.getD 0,0),n) (.call fo xs tys) (2,v.ren<|B8 (fun j=>j) ((d.getD 0,0),n),Js (fun j=>j) ((d.getD 0,0),n) [] us):=.inr ⟨fo,xs,tys,F0,caps,rfl,hfo,.inr ⟨rfl,rfl,hN⟩⟩;unfold Fu;cases gd with
 | none=>exact key
 | some sb=>exact ⟨true,Aak hgd,by rw [fW rfl];exact key⟩
section
variable {P:Program} {G:WP} {g k d:Nat} {gd:Option (Nat×Bool)} {xs:List X} {tl:TL} {ol:OL} {bad:List (Nat×Nat)} {ra:List Rec} {da:List (List Oid)} {Kf:List (Nat×AV)->List (Oid×Option Ob)->Prop}
variable {fo:Opd} {ys:List Opd} {tys:List (List (Option Ty))} {F:FuncId} {caps:LA}
theorem Atf (v:AV) (ul:OL) {args:LA} {us:List (Oid×Ob)} {v0:AV} (hgd:Rj gd (Ao tl)) (hc:Xi P G F args v0 us) (hb:Cz P F=true) (h3:XW P G g (k+1) xs ((d,v) :: tl) (ul++ol) Kf) (m:Nat:=0) (hfo:fo.ev (Ao tl)=.fn (F+m) caps:=by kernel_rfl) (hz:(Dk (F+m) ys (caps.map Opd.cst)).map (Opd.ev (Ao tl))=args:=by kernel_rfl) (hB:Xy [] [] us (g+k) ol=true:=by kernel_rfl) (hF:Qd (F+m)=F:=by kernel_rfl) (hv:v0.ren (B8 (fun j=>j) ((d,0),g+k))=v:=by kernel_rfl) (hu:Cm (Qc (B8 (fun j=>j) ((d,0),g+k)) us)=ul:=by kernel_rfl):XW P G g k (⟨some d,gd,.call fo ys tys⟩ :: xs) tl ol Kf:=by
 subst hv hu;have ⟨_,_,q3,q4⟩:=T7 hB trivial;exact Aim 2 _ _ _ (Aod (n:=g+k) (d:=some d) hgd hfo hF hz q3 hb hc) (q4 ((d,0),g+k) rfl) h3
theorem Asb (v:AV) (ul:OL) {args:LA} {us:List (Oid×Ob)} {v0:AV} (hgd:Rj gd (Ao tl)) (hc:Xi P G F args v0 us) (hb:Cz P F=true) (h3:XD P G bad g (k+1) xs ((d,v) :: tl) (ul++ol) ((2,v,Js (Bl []) ((d,0),g+k) [] us) :: ra) ((rdX (Ao tl) (Aj ol) ⟨some d,gd,.call fo ys tys⟩) :: da) Kf) (m:Nat:=0) (hfo:fo.ev (Ao tl)=.fn (F+m) caps:=by kernel_rfl) (hz:(Dk (F+m) ys (caps.map Opd.cst)).map (Opd.ev (Ao tl))=args:=by kernel_rfl) (hB:Xy [] [] us (g+k) ol=true:=by kernel_rfl) (hF:Qd (F+m)=F:=by kernel_rfl) (hv:v0.ren (B8 (fun j=>j) ((d,0),g+k))=v:=by kernel_rfl) (hu:Cm (Qc (B8 (fun j=>j) ((d,0),g+k)) us)=ul:=by kernel_rfl):XD P G bad g k (⟨some d,gd,.call fo ys tys⟩ :: xs) tl ol ra da Kf:=by
 subst hv hu;have ⟨_,_,q3,q4⟩:=T7 hB trivial;exact Anv 2 _ _ _ (Aod (n:=g+k) (d:=some d) hgd hfo hF hz q3 hb hc) (q4 ((d,0),g+k) rfl) h3
end
set_option maxRecDepth 4000
set_option maxHeartbeats 4800000
variable {bA bB bC:Int} {aA aB:List Int} {dA dB:LL} {qA:Int×Int×LL}
def Ec (a0:Int):Option (List Int) :=
 og (0<=a0/\a0<=a0/\a0<=1073741824/\(8:Int)*a0<=140737488355328) <|
some (replicate a0.toNat (0:Int))
theorem Ga (h:Ec bA=some aA):cK 132 [ai bA] (Ch aA):=by
 refine cO Tryz.func132<|Ae<|Ab<|Aa 5<|rsT 1 ?_;obtain ⟨g3,h⟩:=Al h;exact rs1 (oI 4 3 bA.toNat) (oi 4 3) (.arr 3 .int<|replicate bA.toNat (0:Int)) (Pp (t:=.int) (k:=.i64) (k':=.i64) (m:=bA) (m':=bA) kr kr g3 rfl)<|rsT 1<|rnW<|Ac<|jR h [oI 4 3 bA.toNat]<|Hv rfl (Ea kr length_replicate.symm) Ht
def Ln (a0 a1:Int):Option (List Int) :=
 (Ec a0).bind fun y3 =>
(Ce y3 a1).bind fun x5 =>
some (y3.set a1.toNat 1)
theorem Si (h:Ln bA bB=some aA):cK 168 [ai bA,ai bB] (Ch aA):=by
 refine cO Tryz.func168<|Ae<|Ab<|Aa 5<|rsT 1 (rcH h Ga fun y3 h=>rsT 1<|rnW<|Ab<|Aa 9<|rsT 2 ?_);have ⟨x5,f5,h⟩:=Ah h;have ⟨p5,b5,e5⟩:=As f5;exact rs0 (.elt (oi 112 3) bB.toNat 0) (zo (t:=.int) (o:=oi 112 3) (len:=y3.length) (k:=.i64) (m:=bB) p5<|Ai e5)<|zS (oi 112 3) (1) e5<|rnW<|Ae<|Ac<|jR h [oI 112 3 y3.length]<|Hv rfl (Ea kr<|(rfl:y3.length=y3.length).trans length_set.symm) Ht
def E7 (a0:Int) (u0:Nat) (u1:LL):Option (Ctl (Nat×LL) (LL)) :=
 cond (decide ((u0:Int)<a0))
 ((Ln a0 (u0:Int)).bind fun y12 =>
 og (u1.length+1<=1073741824/\(u1.length+1)*24<=140737488355328) <|
 og (u0+1<4611686018427387904) <|
 some (.next (u0+1,u1++[y12])))
 (some (.out u1))
def Gh (a0:Int):Option LL :=
 (Aq (fun s_:Nat×LL=>E7 a0 s_.1 s_.2) 4611686018427387904 (0,([]:LL))).bind fun u0 =>
some u0
theorem Tj (h:Gh bA=some dA):Eb Tryz.prog Tab 166 [ai bA] [] (oS 0 1 dA.length) [(oi 0 1,.mat 81 (oi 1 1) .int dA),(oi 1 1,.pool 3 .int dA)]:=by
 refine B3 kr Tryz.func166 (Cc kr) (n:=18) kr (by simp) rfl kr trivial ⟨⟨3,.tail _ (.head _)⟩,⟨trivial,trivial⟩⟩ (Ae (Ab (Aa 4 (I4 (oS 5 2 0) (oi 5 2) (.vec 81 1 0 []) trivial (C8 kr) (rsT 1 (Ap (tn_ ⟨_,Dt (e1:=81) (n:=0) 9000 (oi 5 2) 3 .int kr kr rfl kr kr,sqF h (fun u1=>sT [(3,oS 0 1 u1.length)] [(oi 0 1,.mat 81 (oi 1 1) .int u1),(oi 1 1,.pool 3 .int u1)]) ?_ fun u1 h=>Ae (Ac (by obtain rfl:=osj h;exact E2 [oS 0 1 u1.length] (Ag (tl:=[(2,oS 0 1 u1.length)]) (g:=2) [])))⟩)))))));intro _ h;refine Ae (Ad (lpF h (fun (u2,u0)=>sT [(0,ai bA),(3,oS 0 1 u0.length),(6,ai bA),(7,an u2)] [(oi 0 1,.mat 81 (oi 1 1) .int u0),(oi 1 1,.pool 3 .int u0)]) (Ag [(oi 0 1,oi 5 2),(oi 1 1,oi 9000 4)]) ?_));rintro n_ ⟨u2,u0⟩ c_ h hn6;refine Ae (Ab (kQ h (fun _ h=>skW (Ab (Ad (Ae (Aa 12 (rsT 3 (rcH h Si fun y12 h=>I4 (oS 14 9 1) (oi 14 9) (.vec 81 1 1 ([oI 208 8 y12.length])) trivial (C8 kr) ?_))))))) fun _ h=>lxT (have h:=jO h hn6;jE [])));obtain ⟨g13,h⟩:=Al h;refine zV (oi 0 1) (oi 14 9) (oi 1 1) u0 [oI 208 8 y12.length] g13 (rsT 1 (Ap (bn_ (tn_ ⟨_,Eu (e1:=81) (e:=3) (u:=.int) (n:=u0.length+1) (len:=y12.length) (row:=y12) (ys:=y12) (xss:=u0) 9000 (oi 0 10) (oi 1 1) (oi 208 8) kr kr rfl kr kr (N1 rfl) (Ny rfl) kr kr kr,Aa 15 (raH h fun h=>rsT 1 (Ap (tn_ ?_)))⟩))));obtain rfl:=zj h;exact jLw hn6 ((wL 3 ((by simp):u0.length+1=(u0++[y12]).length)).trans (Ag [(oi 0 1,oi 0 10),(oi 1 1,oi 9000 12)]))
def M5 (a0:LL) (u0:Nat) (u1:List Int):Option (Ctl (Nat×List Int) (List Int)) :=
 cond (decide ((u0:Int)<(a0.length:Int)))
 ((a0[u0]?).bind fun x11 =>
 og (u1.length+x11.length<=1073741824/\(u1.length+x11.length)*8<=140737488355328) <|
 og (u0+1<4611686018427387904) <|
 some (.next (u0+1,u1++x11)))
 (some (.out u1))
def Dl (a0:LL):Option (List Int) :=
 (Aq (fun s_:Nat×List Int=>M5 a0 s_.1 s_.2) 4611686018427387904 (0,[])).bind fun u0 =>
some u0
theorem Ix (h:Dl dA=some aA):cK 136 [tS dA] (Ch aA):=by
 refine cO Tryz.func136<|Ae<|Ae (sqF h (fun u1=>sT [(3,oI 0 1 u1.length)] [(oi 0 1,.arr 3 .int u1)]) ?_ fun u1 h=>Ae<|Ac<|jR h [oI 0 1 u1.length]<|Hv rfl (Ea kr rfl) Ht);intro _ h;refine Ae<|Ad<|lpF h (fun (u2,u0)=>sT [(3,oI 0 1 u0.length),(7,tS dA),(8,an dA.length),(9,an u2)] [(oi 0 1,.arr 3 .int u0)]) (Ag [(oi 0 1,oi 6 2)]) ?_;rintro n_ ⟨u2,u0⟩ c_ h hn5;refine Ae<|Ab (kQ h (fun _ h=>skW<|Ab<|Ad<|Ab<|Aa 6 (riH sI h fun x11 _ h=>rsT 2<|rnW<|Aa 10<|rsT 2 ?_)) fun _ h=>lxT (have h:=jO h hn5;jE []));have ⟨g12,h⟩:=Al h;exact rs2 (oI 0 8<|(u0++x11).length) (oi 0 1) (oi 0 8) (.arr 3 .int<|u0++x11) (Px (t:=.int) (t':=.int) (xs:=u0) (ys:=x11) (zs:=u0++x11) (j:=oi 0 1) (len:=u0.length) (c:=tI x11) kr kr rfl kr Kz rfl g12)<|rsT 1<|Ap<|bn_<|tn_<|wr_<|Aa 12 (raH h fun h=>rsT 1<|Ap<|tn_<|jL [(oi 0 1,oi 0 8)])
def Kj (a0:Int) (a1:LL) (a2:Int):Option LL :=
 (Gb a1).bind fun y4 =>
(Gh (a1.length:Int)).bind fun y5 =>
(G0 a0 y4 a2 y5).bind fun y7 =>
og (y7.1.length=y4.length) <|
og (y7.2.1.length=y5.length) <|
og ((0:Int)<=(y7.2.2:Int)/\(y7.2.2:Int)<=(y5.length:Int)/\(y5.length:Int)<=(y5.length:Int)) <|
(Fj a0 (y7.2.1.drop y7.2.2) (a1.length:Int)).bind fun y12 =>
some y12
theorem Ac9 (h:Kj bA dA bB=some dB):Eb Tryz.prog Tab 134 [ai bA,tS dA,ai bB] [] (oS 0 1 dB.length) [(oi 0 1,.mat 81 (oi 1 1) .int dB),(oi 1 1,.pool 3 .int dB)]:=by
 refine B3 kr Tryz.func134 (Cc kr) (n:=27) kr (by simp) rfl kr trivial ⟨⟨3,.tail _ (.head _)⟩,⟨trivial,trivial⟩⟩ (Ae (Ab (Aa 9 (rsT 1 (rcM h [] [tS dA] Pr trivial (aR kr) (Ba kr kr trivial) fun y4 h=>rsT 2 (rcM h [] [an dA.length] Tj trivial (aR kr) (Ba kr kr trivial) fun y5 h=>rsT 2 (rnW (Ab (Aa 15 (rsT 4 (rcM h [(oi 0 0,oi 176 3),(oi 1 0,oi 177 3),(oi 2 0,oi 224 6),(oi 3 0,oi 225 6)] [ai bA,oS 176 3 y4.length,ai bB,oS 224 6 y5.length] (fun h=>Qm h rfl rfl) ⟨kr,⟨kr,⟨kr,⟨kr,trivial⟩⟩⟩⟩ (aR kr) (Ba kr kr ⟨Cv kr,⟨K4 (o:=oi 176 3) (p:=oi 177 3) (e1:=81) (m:=y4.length) (u:=.int) (xss:=y4) (Cv kr) kr,⟨Cv kr,⟨K4 (o:=oi 224 6) (p:=oi 225 6) (e1:=81) (m:=y5.length) (u:=.int) (xss:=y5) (Cv kr) kr,trivial⟩⟩⟩⟩) fun y7 h=>rsT 1 (rnW (Ab (Aa 23 (rsT 3 ?_)))))))))))))));obtain ⟨g8,h⟩:=Al h;obtain ⟨g9,h⟩:=Al h;obtain ⟨g11,h⟩:=Al h;obtain ⟨y12,h12,h⟩:=Ah h;refine rs0 (.own (oi 224 6) sI y7.2.2 (y5.length - y7.2.2)) (Gv (t:=sI) (i:=oi 224 6) (off:=0) (len:=y5.length) (l:=(y7.2.2:Int)) (h:=(y5.length:Int)) kr kr kr rfl g11 (Nat.zero_add _) oM) (rsT 2 (Z8 (oS 416 21 y12.length) [(oi 416 21,some (.mat 81 (oi 417 21) .int y12)),(oi 417 21,some (.pool 3 .int y12))] [] [ai bA,.own (oi 224 6) sI y7.2.2 (y5.length - y7.2.2),an dA.length] (caps:=[]) trivial (Ks h12) kr trivial (.cons (.ren kr) (.cons (.gnd kr (Axv (p:=oi 305 13) (e1:=81) (e:=3) (u:=.int) (xss:=y7.2.1) (ys:=y7.2.1.drop y7.2.2) ((L3 kr kr kr).trans kr) (Zg kr kr (Er kr) kr) (by have z_:y5.length=y7.2.1.length:=g9.symm;omega) (take_of_length_le (by rw [length_drop];have z_:y5.length=y7.2.1.length:=g9.symm;omega)))) (.cons (.ren kr) .nil))) (Ba kr kr trivial) (rsT 1 (rnW (Ac ?_)))));obtain rfl:=zj h;exact E2 [oS 0 1 y12.length] (Ag (tl:=[(6,oS 0 1 y12.length)]) (g:=2) [(oi 0 1,oi 416 21),(oi 1 1,oi 417 21)])
def L9 (a2:LL) (a1:List Int) (a0:Int) (u0:Nat) (u1:List Int):Option (Ctl (Nat×List Int) (List Int)) :=
 cond (decide ((u0:Int)<(a2.length:Int)))
 ((a2[u0]?).bind fun x12 =>
 (a1[u0]?).bind fun x13 =>
 (Cx a0 u1 x13 x12).bind fun y14 =>
 og (y14.length=u1.length) <|
 og (u0+1<4611686018427387904) <|
 some (.next (u0+1,y14)))
 (some (.out u1))
def I2 (a0:Int) (a1:List Int) (a2:LL) (a3:Int):Option (List Int) :=
 (Ec a3).bind fun y3 =>
(Aq (fun s_:Nat×List Int=>L9 a2 a1 a0 s_.1 s_.2) 4611686018427387904 (0,y3)).bind fun u0 =>
some u0
theorem S9 (h:I2 bA aA dA bB=some aB):cK 135 [ai bA,tI aA,tS dA,ai bB] (Ch aB):=by
 refine cO Tryz.func135<|Ae<|Ab<|Aa 5<|rsT 1 (rcH h Ga fun y3 h=>rsT 1<|rnW (sqF h (fun u1=>sT [(9,oI 0 1 u1.length)] [(oi 0 1,.arr 3 .int u1)]) ?_ fun u1 h=>Ae<|Ac<|jR h [oI 0 1 u1.length]<|Hv rfl (Ea kr rfl) Ht));intro _ h;refine Ae<|Ad<|lpF h (fun (u2,u0)=>sT [(0,ai bA),(1,tI aA),(9,oI 0 1 u0.length),(14,tS dA),(15,an dA.length),(16,an u2)] [(oi 0 1,.arr 3 .int u0)]) (Ag [(oi 0 1,oi 208 3)]) ?_;rintro n_ ⟨u2,u0⟩ c_ h hn6;refine Ae<|Ab (kQ h (fun _ h=>skW<|Ab<|Ad<|Ab<|Aa 8<|rsT 1 (riH sI h fun x12 _ h=>rsT 3<|rnW<|Aa 16<|rsT 4 (riH .int h fun x13 _ h=>rsT 2 (rcM h [(oi 0 0,oi 0 1)] [ai bA,oI 0 1 u0.length,ai x13,tI x12] (fun h=>Mv h rfl) ⟨kr,trivial⟩ (aR kr) (Ba kr kr ⟨Cv kr,trivial⟩) fun y14 h=>Ap<|bn_<|tn_<|wr_<|Aa 18 ?_)))) fun _ h=>lxT (have h:=jO h hn6;jE []));have ⟨g15,h⟩:=Al h;have ⟨g16,h⟩:=Al h;refine zA g16<|rsT 1<|Ap<|tn_ ?_;cases h;exact jLw hn6<|(wL 9 (g15.symm:u0.length=y14.length)).trans<|Ag []
def B5 (a0 a1 a2:Int) (a3:LL):Option (Int×Int×LL) :=
 (Fj a0 a3 (wI (a1+a2))).bind fun y3 =>
some (a1,a2,y3)
theorem Fh (h:B5 bA bB bC dA=some qA):cK 137 [ai bA,ai bB,ai bC,tS dA] (Dw qA):=by
 exact cZ Tryz.func137 fun zn_ nz_ hz_=>Ae<|Ab<|Aa 12<|rsT 7 (rcM h [] [ai bA,tS dA,ai (wI<|bB+bC)] (fun h=>Ur<|Ks h) trivial (aR kr) (Ba kr kr trivial) fun y3 h=>rsB 2<|rnW<|Ac<|jZ h [(true,[ai bB,ai bC,oS 256 9 y3.length])]<|Gd (A5 Dg<|A5 Dg<|A5 (Cd<|.mat (p:=oi 257 9) (e1:=81) (e:=3) kr (Er kr) rfl) Ge) Dd)
end Go.Proofs.YthlpchhhinipaaaGreatDoor
