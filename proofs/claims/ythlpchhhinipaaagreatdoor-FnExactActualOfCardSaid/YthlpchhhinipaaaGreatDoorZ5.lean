/- Lemmas on the program and on partial functions that stand in place of its code (part 5); no condition beyond those that each one states. -/
import Derived.Test.YthlpchhhinipaaaGreatDoorZ4
namespace Go.Proofs.YthlpchhhinipaaaGreatDoor
open Go.RowKit Go.Deep List
theorem wr_{G:WP}{S:St}{K:St->Prop}(h:K S):∃ S',WeakG G S S'/\K S':=⟨S,WeakG.refl _,h⟩
def rC(x:Option (AC×List Res)):List Res:=x.elim [] (·.2)
theorem Ck{x:Option (AC×List Res)}(h:x.isSome=true):x=some (mC x,rC x):=by
 cases x with
 | none=>cases h
 | some p=>rfl
section
variable{P:Program}[IsP P]{G:WP}{g:FuncId}{fn:Func}{args:LA}{r:RV}
theorem cO(hf:P.funcs[g]? =some fn)(h:awp P G (mC (C2 P fn)) (fun e S=>∃ S',WeakG G S S'/\(e=.normal∨e=.ret)/\RetOK [] (rC (C2 P fn)) S' r) ⟨Ap (tmL 0 args),Am [],1⟩)(hfol:P.follows .mixedOrders=true:=by kernel_rfl)(hc:(C2 P fn).isSome=true:=by kernel_rfl)(hn:Nat.ble args.length fn.ntmps=true:=by kernel_rfl):Da P G g args r:=
 Xr hfol hf (Ck hc) rfl (Nat.le_of_ble_eq_true hn) rfl h
theorem cZ(hf:P.funcs[g]? =some fn)(h:∀(n:Nat) (R:NP),(∀ b,n<=b->R b)->awp P (GN G n) (mC (C2 P fn)) (fun e S=>∃ S',WeakG (GN G n) S S'/\(e=.normal∨e=.ret)/\Aqr R true (rC (C2 P fn)) S' r) ⟨Ap (tmL 0 args),Am [],1⟩)(hfol:P.follows .mixedOrders=true:=by kernel_rfl)(hc:(C2 P fn).isSome=true:=by kernel_rfl)(hn:Nat.ble args.length fn.ntmps=true:=by kernel_rfl):Da P G g args r:=
 Atj hfol hf (Ck hc) rfl (Nat.le_of_ble_eq_true hn) rfl h
end
def gdB(gd:Option (Nat×Bool))(f:TF):Bool:=
 match gd with
 | none=>true
 | some (s,b)=>match f s with
  | .bool c=>c==b
  | _=>false
theorem W9{gd:Option (Nat×Bool)}{f:TF}(h:gdB gd f=true):Sq gd f:=by
 cases gd with
 | none=>trivial
 | some p=>
  have ⟨s,b⟩:=p;simp only[gdB]at h;split at h
  next c hc=>rw[fF]at h;subst h;exact Ac3 hc
  ·cases h
theorem H3{gd:Option (Nat×Bool)}{f:TF}{n:Nat}{d:Option Nat}{q:Q}{ob:OF}{r:Option Rec}(hg:gdB gd f=true)(h:Bd n ⟨d,none,q⟩ f ob=r):Bd n ⟨d,gd,q⟩ f ob=r:=by
 have h1:=W9 hg;cases gd with
 | none=>exact h
 | some p=>exact A09 h1 rfl h
section
variable{P:Program}{G:WP}{g k d:Nat}{gd:Option (Nat×Bool)}{xs:List X}{tl:TL}{ol:OL}{bad:List (Nat×Nat)}{ra:List Rec}{da:List (List Oid)}{Kf:List (Nat×AV)->List (Oid×Option Ob)->Prop}
variable{α β:Type}{x:Option α}{K:α->Option β}{r:β}{rv:α->RV}{args:LA}{fo:Opd}{ys:List Opd}{tys:List (List (Option Ty))}{F:FuncId}
theorem map_some{γ δ:Type}{o:Option γ}{f:γ->δ}{b:δ}(h:o.map f=some b):∃ a,o=some a/\f a=b:=oms.1 h
theorem rcH(h:x.bind K=some r)(hc:∀{y},x=some y->Da P G F args (rv y))
  (h3:∀ y,K y=some r->XW P G g (k+1) xs ((d,((rv y).out (C3 ((d,0),g+k)) (ys.map (Opd.ev (Ap tl)))).1) :: tl) (((rv y).out (C3 ((d,0),g+k)) (ys.map (Opd.ev (Ap tl)))).2.reverseAux ol) Kf)
  (hA:(Pm (gnd (Am ol) 8) (ys.map (Opd.ev (Ap tl)))).map (Pa tys)=some args:=by kernel_rfl) (hb:C4 P F=true:=by kernel_rfl) (hfo:fo.ev (Ap tl)=.fn F []:=by kernel_rfl)
  (hx:∀ y,Eo ((rv y).out (C3 ((d,0),g+k)) (ys.map (Opd.ev (Ap tl)))).2=true:=by intro _;rfl) (hni:∀ y,(rv y).noI=true:=by intro _;rfl) (hgd:gdB gd (Ap tl)=true:=by kernel_rfl) (hF:Nat.blt F mtd=true:=by kernel_rfl):XW P G g k (⟨some d,gd,.call fo ys tys⟩ :: xs) tl ol Kf:=by
 have ⟨y,hy,hK⟩:=Ah h;have ⟨args0,h1,hn⟩:=map_some hA;have hF':F<mtd:=Nat.le_of_ble_eq_true hF;exact R3 (caps:=[]) _ _ _ _ (W9 hgd) h1 (hc hy) hb (h3 y hK) (hfo:=hfo) (hz:=by simp only[Dt,map_nil,append_nil,nil_append,ite_self]) (hn:=hn) (hr:=rfl) (hF:=fW hF') (hx:=hx y) (hni:=hni y)
theorem dcH(h:x.bind K=some r)(hc:∀{y},x=some y->Da P G F args (rv y))
  (h3:∀ y,K y=some r->XD P G bad g (k+1) xs ((d,((rv y).out (C3 ((d,0),g+k)) (ys.map (Opd.ev (Ap tl)))).1) :: tl) (((rv y).out (C3 ((d,0),g+k)) (ys.map (Opd.ev (Ap tl)))).2.reverseAux ol) ((1,((rv y).out (C3 ((d,0),g+k)) (ys.map (Opd.ev (Ap tl)))).1,((rv y).out (C3 ((d,0),g+k)) (ys.map (Opd.ev (Ap tl)))).2) :: ra) ((rdX (Ap tl) (Am ol) ⟨some d,gd,.call fo ys tys⟩) :: da) Kf)
  (hA:(Pm (gnd (only (rdX (Ap tl) (Am ol) ⟨some d,gd,.call fo ys tys⟩) (Am ol)) 8) (ys.map (Opd.ev (Ap tl)))).map (Pa tys)=some args:=by kernel_rfl) (hb:C4 P F=true:=by kernel_rfl) (hfo:fo.ev (Ap tl)=.fn F []:=by kernel_rfl)
  (hx:∀ y,Eo ((rv y).out (C3 ((d,0),g+k)) (ys.map (Opd.ev (Ap tl)))).2=true:=by intro _;rfl) (hni:∀ y,(rv y).noI=true:=by intro _;rfl) (hgd:gdB gd (Ap tl)=true:=by kernel_rfl) (hF:Nat.blt F mtd=true:=by kernel_rfl):XD P G bad g k (⟨some d,gd,.call fo ys tys⟩ :: xs) tl ol ra da Kf:=by
 have ⟨y,hy,hK⟩:=Ah h;have ⟨args0,h1,hn⟩:=map_some hA;have hF':F<mtd:=Nat.le_of_ble_eq_true hF;exact M7 (caps:=[]) _ _ _ _ (W9 hgd) h1 (hc hy) hb (h3 y hK) (hfo:=hfo) (hz:=by simp only[Dt,map_nil,append_nil,nil_append,ite_self]) (hn:=hn) (hr:=rfl) (hF:=fW hF') (hx:=hx y) (hni:=hni y)
variable{sz j:Nat}{c e:Opd}
theorem riH(t:Ty){zs:List t.D}{K:t.D->Option β}(h:(zs[j]?).bind K=some r)(h3:∀ y,zs[j]? =some y->K y=some r->XW P G g (k+1) xs ((d,.telt (c.ev (Ap tl)).tag t y 0) :: tl) ol Kf)(hx:(c.ev (Ap tl)).un=.tree t zs:=by kernel_rfl)(hi:e.ev (Ap tl)=.int .i64 (j:Int):=by kernel_rfl)(hs:sz=t.size:=by rfl)(hgd:gdB gd (Ap tl)=true:=by kernel_rfl):XW P G g k (⟨some d,gd,.i (.idx sz c e)⟩ :: xs) tl ol Kf:=by
 have ⟨y,hy,hK⟩:=Ah h;exact rs0 _ (H3 hgd<|Ajf hx hi hs (Int.natCast_nonneg _) rfl hy rfl)<|h3 y hy hK
theorem diH(t:Ty){zs:List t.D}{K:t.D->Option β}(h:(zs[j]?).bind K=some r)(h3:∀ y,zs[j]? =some y->K y=some r->XD P G bad g (k+1) xs ((d,.telt (c.ev (Ap tl)).tag t y 0) :: tl) ol ((0,.telt (c.ev (Ap tl)).tag t y 0,[]) :: ra) ((rdX (Ap tl) (Am ol) ⟨some d,gd,.i (.idx sz c e)⟩) :: da) Kf)(hx:(c.ev (Ap tl)).un=.tree t zs:=by kernel_rfl)(hi:e.ev (Ap tl)=.int .i64 (j:Int):=by kernel_rfl)(hs:sz=t.size:=by rfl)(hgd:gdB gd (Ap tl)=true:=by kernel_rfl):XD P G bad g k (⟨some d,gd,.i (.idx sz c e)⟩ :: xs) tl ol ra da Kf:=by
 have ⟨y,hy,hK⟩:=Ah h;exact ds0 _ (H3 hgd<|Ajf hx hi hs (Int.natCast_nonneg _) rfl hy rfl)<|h3 y hy hK
theorem diE(t:Ty){zs:List t.D}{y:t.D}(hy:zs[j]? =some y)(h3:XD P G bad g (k+1) xs ((d,.telt (c.ev (Ap tl)).tag t y 0) :: tl) ol ((0,.telt (c.ev (Ap tl)).tag t y 0,[]) :: ra) ((rdX (Ap tl) (Am ol) ⟨some d,gd,.i (.idx sz c e)⟩) :: da) Kf)(hx:(c.ev (Ap tl)).un=.tree t zs:=by kernel_rfl)(hi:e.ev (Ap tl)=.int .i64 (j:Int):=by kernel_rfl)(hs:sz=t.size:=by rfl)(hgd:gdB gd (Ap tl)=true:=by kernel_rfl):XD P G bad g k (⟨some d,gd,.i (.idx sz c e)⟩ :: xs) tl ol ra da Kf:=
 ds0 _ (H3 hgd (Ajf hx hi hs (Int.natCast_nonneg _) rfl hy rfl)) h3
theorem raH{M:Option β}(h:og (j+1<4611686018427387904) M=some r)(h3:M=some r->XW P G g (k+1) xs ((d,.int .i64 ((j+1:Nat):Int)) :: tl) ol Kf)(hx:c.ev (Ap tl)=.int .i64 (j:Int):=by kernel_rfl)(hy:e.ev (Ap tl)=.int .i64 1:=by kernel_rfl)(hgd:gdB gd (Ap tl)=true:=by kernel_rfl):XW P G g k (⟨some d,gd,.i (.bin .add c e)⟩ :: xs) tl ol Kf:=by
 have ⟨hg,hK⟩:=Aj h;exact rs0 _ (H3 hgd<|Atf hx hy hg)<|h3 hK
variable{t:Bool}{A B:Option β}
theorem kQ{y z:AC}{R:AE->St->Prop}{S:St}(h:cond t A B=some r)(h1:t=true->A=some r->awp P G y R S)(h2:t=false->B=some r->awp P G z R S)(hc:c.ev S.tm=.bool t:=by kernel_rfl):awp P G (.cond c y z) R S:=by
 rcases A5 h with ⟨q,h⟩|⟨q,h⟩
 ·exact Aod q (h1 q h) hc
 ·exact Aoh q (h2 q h) hc
theorem kR(h:cond t A B=some r)(s:Nat)(h1:t=true->A=some r->XW P G g k xs ((s,.bool true) :: tl) ol Kf)(h2:t=false->B=some r->XW P G g k xs ((s,.bool false) :: tl) ol Kf)(hd:Ap tl s=.bool t:=by kernel_rfl):XW P G g k xs tl ol Kf:=by
 rcases A5 h with ⟨q,h⟩|⟨q,h⟩
 ·exact rq s q (h1 q h) hd
 ·exact rq s q (h2 q h) hd
theorem kD(h:cond t A B=some r)(s:Nat)(h1:t=true->A=some r->XD P G bad g k xs ((s,.bool true) :: tl) ol ra da Kf)(h2:t=false->B=some r->XD P G bad g k xs ((s,.bool false) :: tl) ol ra da Kf)(hd:Ap tl s=.bool t:=by kernel_rfl):XD P G bad g k xs tl ol ra da Kf:=by
 rcases A5 h with ⟨q,h⟩|⟨q,h⟩
 ·exact dq s q (h1 q h) hd
 ·exact dq s q (h2 q h) hd
end
section
variable{G:WP}{α β:Type}{a r:α}
theorem jO{k:α->Option β}{x v:β}{c:Ctl α β}(h:some (Ctl.out x)=some c)(hn:Ctl.then k c=some v):some x=some v:=by
 cases h;exact hn
variable{tl0 tl:TL}{ol0:OL}{ol:List (Oid×Ob)}{g0 g:Nat}{l:List (Oid×Oid)}{T:Prop}
def Lr(_l:List (Oid×Oid))(T:Prop):Prop:=T
theorem jE0(h1:(tl.map fun p=>Ap tl0 p.1)=tl.map fun p=>p.2.ren (Bl l):=by kernel_rfl)(h2:X6 ol0 (Bl l) ol:=by exact Ys (by kernel_rfl))(h3:Auj l tl ol g=true:=by kernel_rfl):Lr l (WeakG G ⟨Ap tl0,Am ol0,g0⟩ ⟨Ap tl,Am (Cq ol),g⟩):=Ag l h1 h2 h3
theorem jE(l:List (Oid×Oid))(k:Lr l T:=by cases h;exact jE0):T:=k
theorem jC0{F:α->St}(j:⟨Ap tl,Am (Cq ol),g⟩=F a:=by exact rfl)(h1:(tl.map fun p=>Ap tl0 p.1)=tl.map fun p=>p.2.ren (Bl l):=by kernel_rfl)(h2:X6 ol0 (Bl l) ol:=by exact Ys (by kernel_rfl))(h3:Auj l tl ol g=true:=by kernel_rfl):Lr l (∃ t,(Ctl.next a:Ctl α β)=.next t/\WeakG G ⟨Ap tl0,Am ol0,g0⟩ (F t)):=⟨_,rfl,j▸Ag l h1 h2 h3⟩
theorem jC(l:List (Oid×Oid))(k:Lr l T:=by cases h;exact jC0):T:=k
theorem jL0{F:α->St}{k:α->Option β}{v:β}(hn:Ctl.then k (Ctl.next a)=some v)(j:⟨Ap tl,Am (Cq ol),g⟩=F a:=by exact rfl)(h1:(tl.map fun p=>Ap tl0 p.1)=tl.map fun p=>p.2.ren (Bl l):=by kernel_rfl)(h2:X6 ol0 (Bl l) ol:=by exact Ys (by kernel_rfl))(h3:Auj l tl ol g=true:=by kernel_rfl):Lr l (∃ t,WeakG G ⟨Ap tl0,Am ol0,g0⟩ (F t)/\k t=some v):=⟨_,j▸Ag l h1 h2 h3,hn⟩
theorem jL(l:List (Oid×Oid))(k:Lr l T:=by cases h;exact jL0 aS):T:=k
theorem jLw{S:St}{F:α->St}{k:α->Option β}{v:β}(hn:Ctl.then k (Ctl.next a)=some v)(w:WeakG G S (F a)):∃ t,WeakG G S (F t)/\k t=some v:=⟨_,w,hn⟩
def scL:List RL->LA
 | []=>[]
 | .sc c :: r=>c :: scL r
 | _ :: r=>.any :: scL r
def scP:List (Bool×List RL)->LA
 | []=>[]
 | (b,ls) :: r=>(if b then .agg (scL ls) else (scL ls).headD .any) :: scP r
def AV.sc1:AV->Bool
 | .int .. | .bool .. | .str .. | .nils | .err ..=>true
 | _=>false
def Atc:List RL->Bool
 | []=>true
 | .sc c :: r=>c.sc1&&Atc r
 | _ :: _=>false
def scB:List (Bool×List RL)->Bool
 | []=>true
 | (b,ls) :: r=>(Atc ls&&(b||ls.length==1))&&scB r
theorem Ah2{ob:OF}{c:AV}(h:c.sc1=true):U4 ob c=some (.sc c):=by
 cases c <;> first|rfl|cases h
theorem Ad0{vs:LV}{ob:OF}:∀{ls:List RL},Atc ls=true->LeavesR vs ob (scL ls) ls
 | [],_=>rfl
 | .sc c :: r,h=>by
  simp only[Atc,fT]at h;exact ⟨_,_,rfl,Asx (Ah2 h.1),Ad0 h.2⟩
 | .new .. :: _,h=>by cases h
 | .newM .. :: _,h=>by cases h
 | .arg .. :: _,h=>by cases h
 | .argS .. :: _,h=>by cases h
 | .frz _ :: _,h=>by cases h
 | .imm _ :: _,h=>by cases h
theorem Z2{vs:LV}{ob:OF}:∀{ps:List (Bool×List RL)},scB ps=true->PartsR vs ob (scP ps) ps
 | [],_=>rfl
 | (b,ls) :: r,h=>by
  simp only[scB,fT,Bool.or_eq_true,fF]at h;have ⟨⟨h1,h2⟩,h3⟩:=h;cases b with
  | true=>exact V7 (Ad0 h1) (Z2 h3)
  | false=>
   have h2:=h2.resolve_left (by decide)
   match ls,h1,h2 with
   | [.sc c],h1,_=>
    simp only[Atc,fT]at h1;have h1:c.sc1=true:=h1.1;refine H6 ?_ (Asx (Ah2 h1)) (Z2 h3);show c.one=true;cases c <;> first|rfl|cases h1
   | [.new ..],h1,_=>cases h1
   | [.newM ..],h1,_=>cases h1
   | [.arg ..],h1,_=>cases h1
   | [.argS ..],h1,_=>cases h1
   | [.frz _],h1,_=>cases h1
   | [.imm _],h1,_=>cases h1
theorem jR{rs:List Res}{f:TF}{ob:OF}{g:Nat}{rv:α->RV}{vs:LV}{e:AE}(h:some a=some r)(avs:LA)(h2:PartsR vs ob avs (rv a).ps)(he:e=.normal∨e=.ret:=by simp)(h1:Res.evL f ob rs=some avs:=by kernel_rfl)(h3:ndB (Ab0 ob (Uo avs))=true:=by kernel_rfl)(h4:(rv a).tup=decide (rs.length≠1):=by kernel_rfl):∃ S',WeakG G ⟨f,ob,g⟩ S'/\(e=.normal∨e=.ret)/\RetOK vs rs S' (rv r):=by
 cases h;exact A02 avs h2 he h1 h3 h4
theorem jZ{R:NP}{z:Bool}{rs:List Res}{f:TF}{ob:OF}{g:Nat}{rv:α->RV}{e:AE}(h:some a=some r)(gs:List (Bool×LA))(h2:Rp R z ob gs (rv a).ps)(he:e=.normal∨e=.ret:=by simp)(h1:Res.evL f ob rs=some (Auc gs):=by kernel_rfl)(h4:(rv a).tup=decide (rs.length≠1):=by kernel_rfl):∃ S',WeakG G ⟨f,ob,g⟩ S'/\(e=.normal∨e=.ret)/\Aqr R z rs S' (rv r):=by
 cases h;exact A0l gs h2 he h1 h4
theorem jS{rs:List Res}{f:TF}{ob:OF}{g:Nat}{rv:α->RV}{vs:LV}{e:AE}(h:some a=some r)(he:e=.normal∨e=.ret:=by simp)(h1:Res.evL f ob rs=some (scP (rv a).ps):=by kernel_rfl)(h2:scB (rv a).ps=true:=by kernel_rfl)(h3:ndB (Ab0 ob (Uo (scP (rv a).ps)))=true:=by kernel_rfl)(h4:(rv a).tup=decide (rs.length≠1):=by kernel_rfl):∃ S',WeakG G ⟨f,ob,g⟩ S'/\(e=.normal∨e=.ret)/\RetOK vs rs S' (rv r):=by
 cases h;exact A02 _ (Z2 h2) he h1 h3 h4
end
abbrev sT(tl:TL)(ol:List (Oid×Ob)):St:=⟨Ap tl,Am (Cq ol),2⟩
section
variable{P:Program}{G:WP}{C τ β ρ:Type}{x y:AC}{R:AE->St->Prop}{S:St}
theorem sqF{A:Option τ}{k:τ->Option β}{r:β}(h:A.bind k=some r)(F:τ->St)(h1:∀ t,A=some t->awp P G x (Jj (fun S'=>WeakG G S' (F t)) R) S)(h2:∀ t,k t=some r->awp P G y R (F t)):awp P G (.seq x y) R S:=by
 refine At4 h (fun t S''=>S''=F t) (fun t ht=>D6 (fun e S' hq=>?_)<|h1 t ht) fun t S'' e hk=>e▸h2 t hk
 cases e with
 | normal=>exact ⟨_,hq,rfl⟩
 | exit id=>exact hq
 | ret=>exact hq
theorem sqC{A:Option (Ctl τ β)}{k:τ->Option β}{r:β}(h:Dg A k=some r)(F:τ->St)(h1:∀ v,A=some v->Ctl.then k v=some r->awp P G x (Jj (fun S'=>∃ t,v=.next t/\WeakG G S' (F t)) R) S)(h2:∀ t,k t=some r->awp P G y R (F t)):awp P G (.seq x y) R S:=by
 refine Aul h (fun t S''=>S''=F t) (fun v hv hk=>D6 (fun e S' hq=>?_)<|h1 v hv hk) fun t S'' e hk=>e▸h2 t hk
 cases e with
 | normal=>have ⟨t,ht,hw⟩:=hq;exact ⟨t,_,ht,hw,rfl⟩
 | exit id=>exact hq
 | ret=>exact hq
theorem lpF{body:C->Option (Ctl C ρ)}{fuel:Nat}{s0:C}{v:ρ}(h:Aq body fuel s0=some v)(F:C->St)(w:WeakG G S (F s0))
  (h1:∀ n s c,body s=some c->Ctl.then (Aq body n) c=some v->awp P G x (Jj (fun S2=>∃ s',WeakG G S2 (F s')/\Aq body n s'=some v) R) (F s)):awp P G (.loop x) R S:=by
 refine Aqz h (fun s S=>S=F s) ⟨_,w,rfl⟩ fun n s S1 c e hc hn=>e▸D6 (fun e S2 hq=>?_) (h1 n s c hc hn)
 cases e with
 | normal=>have ⟨s',hw,hl⟩:=hq;exact ⟨s',_,hw,rfl,hl⟩
 | exit id=>exact hq
 | ret=>exact hq
end
theorem skW{P:Program}{G:WP}{R:AE->St->Prop}{S:St}{K:St->Prop}(h:K S):awp P G .skip (Jj (fun S'=>∃ S'',WeakG G S' S''/\K S'') R) S:=Ay (tn_ (wr_ h))
theorem rnW{P:Program}{G:WP}{R:AE->St->Prop}{g k g':Nat}{tl:TL}{ol:OL}{K:St->Prop}(h:K ⟨Ap tl,Am ol,g'⟩):XW P G g k [] tl ol (fun tl' ol'=>Jj (fun S'=>∃ S'',WeakG G S' S''/\K S'') R .normal ⟨Ap tl',Am ol',g'⟩):=Ao (tn_ (wr_ h))
theorem lxT{P:Program}{G:WP}{R:AE->St->Prop}{S:St}{i:Nat}{K K1 K2:St->Prop}(h:K S):awp P G (.exit i) (Jj K1 (Jj K2 (Me i (Jj K R)))) S:=D9 (te_ (te_ (be_ (tn_ h))))
def AV.setL(m:Nat):AV->AV
 | .own i t o _=>.own i t o m
 | v=>v
theorem wL{G:WP}{tl:TL}{ol:OL}{g:Nat}(s:Nat){n m:Nat}(h:n=m)(hs:Ap tl s=(Ap tl s).setL n:=by kernel_rfl):WeakG G ⟨Ap tl,Am ol,g⟩ ⟨Ap ((s,(Ap tl s).setL m) :: tl),Am ol,g⟩:=
 Ada s (Ap tl s) _ rfl (by rw[← h];exact hs)
section
variable{P:Program}{G:WP}{g k d:Nat}{gd:Option (Nat×Bool)}{xs:List X}{tl:TL}{ol:OL}{bad:List (Nat×Nat)}{ra:List Rec}{da:List (List Oid)}{Kf:List (Nat×AV)->List (Oid×Option Ob)->Prop}
variable{α β:Type}{x:Option α}{K:α->Option β}{r:β}{args:LA}{fo:Opd}{ys:List Opd}{tys:List (List (Option Ty))}{F:FuncId}
theorem rcG{rv:α->RV}(h:x.bind K=some r)(zs:LA)(hc:∀{y},x=some y->Da P G F args (rv y))(h1:Pm (gnd (Am ol) 8) zs=some args)
  (h3:∀ y,K y=some r->XW P G g (k+1) xs ((d,((rv y).out (C3 ((d,0),g+k)) zs).1) :: tl) (((rv y).out (C3 ((d,0),g+k)) zs).2.reverseAux ol) Kf)
  (hz:ys.map (Opd.ev (Ap tl))=zs:=by kernel_rfl) (hn:Pa tys args=args:=by kernel_rfl) (hb:C4 P F=true:=by kernel_rfl) (hfo:fo.ev (Ap tl)=.fn F []:=by kernel_rfl)
  (hx:∀ y,Eo ((rv y).out (C3 ((d,0),g+k)) zs).2=true:=by intro _;rfl) (hni:∀ y,(rv y).noI=true:=by intro _;rfl) (hgd:gdB gd (Ap tl)=true:=by kernel_rfl) (hF:Nat.blt F mtd=true:=by kernel_rfl):XW P G g k (⟨some d,gd,.call fo ys tys⟩ :: xs) tl ol Kf:=by
 have ⟨y,hy,hK⟩:=Ah h;have hF':F<mtd:=Nat.le_of_ble_eq_true hF;subst hz;exact R3 (caps:=[]) _ _ _ _ (W9 hgd) h1 (hc hy) hb (h3 y hK) (hfo:=hfo) (hz:=by simp only[Dt,map_nil,append_nil,nil_append,ite_self]) (hn:=hn) (hr:=rfl) (hF:=fW hF') (hx:=hx y) (hni:=hni y)
theorem dcG{rv:α->RV}(h:x.bind K=some r)(zs:LA)(hc:∀{y},x=some y->Da P G F args (rv y))(h1:Pm (gnd (only (rdX (Ap tl) (Am ol) ⟨some d,gd,.call fo ys tys⟩) (Am ol)) 8) zs=some args)
  (h3:∀ y,K y=some r->XD P G bad g (k+1) xs ((d,((rv y).out (C3 ((d,0),g+k)) zs).1) :: tl) (((rv y).out (C3 ((d,0),g+k)) zs).2.reverseAux ol) ((1,((rv y).out (C3 ((d,0),g+k)) zs).1,((rv y).out (C3 ((d,0),g+k)) zs).2) :: ra) ((rdX (Ap tl) (Am ol) ⟨some d,gd,.call fo ys tys⟩) :: da) Kf)
  (hz:ys.map (Opd.ev (Ap tl))=zs:=by kernel_rfl) (hn:Pa tys args=args:=by kernel_rfl) (hb:C4 P F=true:=by kernel_rfl) (hfo:fo.ev (Ap tl)=.fn F []:=by kernel_rfl)
  (hx:∀ y,Eo ((rv y).out (C3 ((d,0),g+k)) zs).2=true:=by intro _;rfl) (hni:∀ y,(rv y).noI=true:=by intro _;rfl) (hgd:gdB gd (Ap tl)=true:=by kernel_rfl) (hF:Nat.blt F mtd=true:=by kernel_rfl):XD P G bad g k (⟨some d,gd,.call fo ys tys⟩ :: xs) tl ol ra da Kf:=by
 have ⟨y,hy,hK⟩:=Ah h;have hF':F<mtd:=Nat.le_of_ble_eq_true hF;subst hz;exact M7 (caps:=[]) _ _ _ _ (W9 hgd) h1 (hc hy) hb (h3 y hK) (hfo:=hfo) (hz:=by simp only[Dt,map_nil,append_nil,nil_append,ite_self]) (hn:=hn) (hr:=rfl) (hF:=fW hF') (hx:=hx y) (hni:=hni y)
variable{ol0:List (Oid×Ob)}{v0:α->AV}{us:α->List (Oid×Ob)}
theorem rcM(h:x.bind K=some r)(l:List (Oid×Oid))(zs:LA)(hc:∀{y},x=some y->Ed P G F args ol0 (v0 y) (us y))(hR:X6 ol (Bl l) ol0)(h1:R5 (Bl l) (Yu ((nmL ol0).map (Bl l)) (Am ol)) zs args)(h4:∀ j∈nmL ol0,Reached zs (Am ol) (Bl l j))
  (h3:∀ y,K y=some r->XW P G g (k+1) xs ((d,(v0 y).ren (Cf (Bl l) ((d,0),g+k))) :: tl) ((Cq (Qn (Cf (Bl l) ((d,0),g+k)) (us y))++M6 (Bl l) ol0)++ol) Kf)
  (hz:ys.map (Opd.ev (Ap tl))=zs:=by kernel_rfl) (hB:∀ y,Zh l ol0 (us y) (g+k) ol=true:=by intro _;kernel_rfl) (hb:C4 P F=true:=by kernel_rfl) (hfo:fo.ev (Ap tl)=.fn F []:=by kernel_rfl) (hgd:gdB gd (Ap tl)=true:=by kernel_rfl) (hF:Nat.blt F mtd=true:=by kernel_rfl):XW P G g k (⟨some d,gd,.call fo ys tys⟩ :: xs) tl ol Kf:=by
 have ⟨y,hy,hK⟩:=Ah h;exact Aab (caps:=[]) _ _ l zs (W9 hgd) (hc hy) hb hR h1 h4 (h3 y hK) (hfo:=hfo) (hz:=by rw[map_nil,append_nil];exact hz) (hB:=hB y) (hF:=Nat.le_of_ble_eq_true hF) (hv:=rfl) (hu:=rfl)
theorem dcM(h:x.bind K=some r)(l:List (Oid×Oid))(zs:LA)(hc:∀{y},x=some y->Ed P G F args ol0 (v0 y) (us y))(hR:X6 ol (Bl l) ol0)(h1:R5 (Bl l) (Yu ((nmL ol0).map (Bl l)) (only (rdX (Ap tl) (Am ol) ⟨some d,gd,.call fo ys tys⟩) (Am ol))) zs args)(h4:∀ j∈nmL ol0,Reached zs (only (rdX (Ap tl) (Am ol) ⟨some d,gd,.call fo ys tys⟩) (Am ol)) (Bl l j))(hd:∀ q∈exL ol0,Bl l q.1∈rdX (Ap tl) (Am ol) ⟨some d,gd,.call fo ys tys⟩)
  (h3:∀ y,K y=some r->XD P G bad g (k+1) xs ((d,(v0 y).ren (Cf (Bl l) ((d,0),g+k))) :: tl) ((Cq (Qn (Cf (Bl l) ((d,0),g+k)) (us y))++M6 (Bl l) ol0)++ol) ((2,(v0 y).ren (Cf (Bl l) ((d,0),g+k)),J2 (Bl l) ((d,0),g+k) ol0 (us y)) :: ra) ((rdX (Ap tl) (Am ol) ⟨some d,gd,.call fo ys tys⟩) :: da) Kf)
  (hz:ys.map (Opd.ev (Ap tl))=zs:=by kernel_rfl) (hB:∀ y,Zh l ol0 (us y) (g+k) ol=true:=by intro _;kernel_rfl) (hb:C4 P F=true:=by kernel_rfl) (hfo:fo.ev (Ap tl)=.fn F []:=by kernel_rfl) (hgd:gdB gd (Ap tl)=true:=by kernel_rfl) (hF:Nat.blt F mtd=true:=by kernel_rfl):XD P G bad g k (⟨some d,gd,.call fo ys tys⟩ :: xs) tl ol ra da Kf:=by
 have ⟨y,hy,hK⟩:=Ah h;exact Auf (caps:=[]) _ _ l zs (W9 hgd) (hc hy) hb hR h1 h4 hd (h3 y hK) (hfo:=hfo) (hz:=by rw[map_nil,append_nil];exact hz) (hB:=hB y) (hF:=Nat.le_of_ble_eq_true hF) (hv:=rfl) (hu:=rfl)
theorem aR{U:Oid->Oid}{ob:OF}:∀{zs args:LA},zs=args.map (AV.ren U)->R5 U ob zs args
 | _,[],h=>by subst h;exact .nil
 | _,_ :: _,h=>by subst h;exact .cons (.ren rfl) (aR rfl)
end
abbrev sI:Ty:=.slice .int
abbrev Y0:Ty:=.slice sI
abbrev Y1:Ty:=.slice .int
abbrev Y2:Ty:=.pair sI sI
abbrev Y3:Ty:=.pair .int .int
abbrev Y4:Ty:=.pair .int .str
abbrev Y5:Ty:=.pair .int Y0
abbrev Y6:Ty:=.pair .int Y2
abbrev Y8:Ty:=.pair .int Y4
abbrev Y9:Ty:=.pair .int Y5
abbrev Ya:Ty:=.slice Y8
abbrev Yb:Ty:=.pair .int Y6
abbrev Yc:Ty:=.pair .int Ya
abbrev Yd:Ty:=.pair .int Yc
abbrev Ye:Ty:=.pair .str Yd
abbrev Yf:Ty:=.pair Ya Y9
abbrev Yg:Ty:=.pair .str Yf
section
variable{P:Program}{G:WP}{g k d:Nat}{gd:Option (Nat×Bool)}{q:Q}{xs:List X}{tl:TL}{ol:OL}{bad:List (Nat×Nat)}{ra:List Rec}{da:List (List Oid)}{Kf:List (Nat×AV)->List (Oid×Option Ob)->Prop}
theorem dz0(v:AV)(h3:XD P G bad g (k+1) xs ((d,v) :: tl) ol ((0,v,[]) :: ra) ((rdX (Ap tl) (Am ol) ⟨some d,gd,q⟩) :: da) Kf)(h:Bd (g+k) ⟨some d,gd,q⟩ (Ap tl) (only (rdX (Ap tl) (Am ol) ⟨some d,gd,q⟩) (Am ol))=some (0,v,[]):=by kernel_rfl):XD P G bad g k (⟨some d,gd,q⟩ :: xs) tl ol ra da Kf:=ds0 v h h3
theorem dzl(v:AV)(h3:XD P G bad g (k+1) xs ((d,v) :: tl) ol ((1,v,[]) :: ra) ((rdX (Ap tl) (Am ol) ⟨some d,gd,q⟩) :: da) Kf)(h:Bd (g+k) ⟨some d,gd,q⟩ (Ap tl) (only (rdX (Ap tl) (Am ol) ⟨some d,gd,q⟩) (Am ol))=some (1,v,[]):=by kernel_rfl):XD P G bad g k (⟨some d,gd,q⟩ :: xs) tl ol ra da Kf:=dsl v h h3
theorem zc{fo:Opd}{ys:List Opd}{tys:List (List (Option Ty))}{F:FuncId}{rv:RV}{args:LA}(v:AV)(us:OL)(zs:LA)(hc:Da P G F args rv)(h3:XW P G g (k+1) xs ((d,v) :: tl) (us.reverseAux ol) Kf)(h1:Pm (gnd (Am ol) 8) zs=some zs:=by kernel_rfl)(hb:C4 P F=true:=by kernel_rfl)(hfo:fo.ev (Ap tl)=.fn F []:=by kernel_rfl)(hz:ys.map (Opd.ev (Ap tl))=zs:=by kernel_rfl)(hn:Pa tys zs=args:=by kernel_rfl)(hr:rv.out (C3 ((d,0),g+k)) zs=(v,us):=by kernel_rfl)(hx:Eo us=true:=by rfl)(hni:rv.noI=true:=by kernel_rfl)(hF:Nat.blt F mtd=true:=by kernel_rfl):XW P G g k (⟨some d,none,.call fo ys tys⟩ :: xs) tl ol Kf:=R3 (caps:=[]) (args0:=zs) v us zs args trivial h1 hc hb h3 (hfo:=hfo) (hz:=by simpa only[Dt,map_nil,append_nil,nil_append,ite_self] using hz) (hn:=hn) (hr:=hr) (hF:=fW (Nat.le_of_ble_eq_true hF)) (hx:=hx) (hni:=hni)
end
theorem kr{p:Prop}(h:p:=by kernel_rfl):p:=h
abbrev LL:=ZA
abbrev an(n:Nat):AV:=.int .i64 n
abbrev tI(x:List Int):AV:=.tree .int x
abbrev tS(x:ZA):AV:=.tree Y1 x
abbrev oI(a b n:Nat):AV:=.own (oi a b) .int 0 n
abbrev oS(a b n:Nat):AV:=.own (oi a b) Y1 0 n
abbrev nI(a b:Nat)(x:List Int):Oid×Option Ob:=(oi a b,some (.arr 3 .int x))
abbrev xm(d s:Nat):X:=⟨some d,none,.i (.mov (.tmp s))⟩
abbrev xl(d s:Nat):X:=⟨some d,none,.i (.ld true 1 (.tmp s))⟩
abbrev xf(d k s:Nat):X:=⟨some d,none,.i (.fld k (.tmp s))⟩
abbrev xx(d z a b:Nat):X:=⟨some d,none,.i (.idx z (.tmp a) (.tmp b))⟩
abbrev xn1(d s:Nat):X:=⟨some d,none,.i (.len (.tmp s))⟩
abbrev xa(d s:Nat):X:=⟨some d,none,.i (.bin .add (.tmp s) (.cst (.int .i64 1)))⟩
abbrev xs1(d a b:Nat):X:=⟨some d,none,.i (.bin .lss (.tmp a) (.tmp b))⟩
section
variable{P:Program}{G:WP}{g k d:Nat}{gd:Option (Nat×Bool)}{q:Q}{xs:List X}{tl:TL}{ol:OL}{bad:List (Nat×Nat)}{ra:List Rec}{da:List (List Oid)}{Kf:List (Nat×AV)->List (Oid×Option Ob)->Prop}
theorem dzc{fo:Opd}{ys:List Opd}{tys:List (List (Option Ty))}{F:FuncId}{rv:RV}{args:LA}(v:AV)(us:OL)(zs:LA)(hc:Da P G F args rv)(h3:XD P G bad g (k+1) xs ((d,v) :: tl) (us.reverseAux ol) ((1,v,us) :: ra) ((rdX (Ap tl) (Am ol) ⟨some d,none,.call fo ys tys⟩) :: da) Kf)(h1:Pm (gnd (only (rdX (Ap tl) (Am ol) ⟨some d,none,.call fo ys tys⟩) (Am ol)) 8) zs=some zs:=by kernel_rfl)(hb:C4 P F=true:=by kernel_rfl)(hfo:fo.ev (Ap tl)=.fn F []:=by kernel_rfl)(hz:ys.map (Opd.ev (Ap tl))=zs:=by kernel_rfl)(hn:Pa tys zs=args:=by kernel_rfl)(hr:rv.out (C3 ((d,0),g+k)) zs=(v,us):=by kernel_rfl)(hx:Eo us=true:=by rfl)(hni:rv.noI=true:=by kernel_rfl)(hF:Nat.blt F mtd=true:=by kernel_rfl):XD P G bad g k (⟨some d,none,.call fo ys tys⟩ :: xs) tl ol ra da Kf:=M7 (caps:=[]) (args0:=zs) v us zs args trivial h1 hc hb h3 (hfo:=hfo) (hz:=by simpa only[Dt,map_nil,append_nil,nil_append,ite_self] using hz) (hn:=hn) (hr:=hr) (hF:=fW (Nat.le_of_ble_eq_true hF)) (hx:=hx) (hni:=hni)
theorem zO{sz:Nat}{x i:Opd}(o:Oid)(t:Ty)(len:Nat){j:Nat}(hl:j<len)(h3:XW P G g (k+1) xs ((d,.elt o j 0) :: tl) ol Kf)(hx:x.ev (Ap tl)=.own o t 0 len:=by kernel_rfl)(hi:i.ev (Ap tl)=.int .i64 (j:Int):=by kernel_rfl)(hs:sz=t.size:=by rfl)(hgd:gdB gd (Ap tl)=true:=by kernel_rfl):XW P G g k (⟨some d,gd,.i (.idx sz x i)⟩ :: xs) tl ol Kf:=rs0 _ (H3 hgd (Te hx hi hs (Int.natCast_nonneg _) rfl hl)) h3
theorem dzO{sz:Nat}{x i:Opd}(o:Oid)(t:Ty)(len:Nat){j:Nat}(hl:j<len)(h3:XD P G bad g (k+1) xs ((d,.elt o j 0) :: tl) ol ((0,.elt o j 0,[]) :: ra) ((rdX (Ap tl) (Am ol) ⟨some d,gd,.i (.idx sz x i)⟩) :: da) Kf)(hx:x.ev (Ap tl)=.own o t 0 len:=by kernel_rfl)(hi:i.ev (Ap tl)=.int .i64 (j:Int):=by kernel_rfl)(hs:sz=t.size:=by rfl)(hgd:gdB gd (Ap tl)=true:=by kernel_rfl):XD P G bad g k (⟨some d,gd,.i (.idx sz x i)⟩ :: xs) tl ol ra da Kf:=ds0 _ (H3 hgd (Te hx hi hs (Int.natCast_nonneg _) rfl hl)) h3
theorem zE{x:Opd}(i:Oid){ws:List Int}{j:Nat}{z:Int}(hz:ws[j]? =some z)(h3:XW P G g (k+1) xs ((d,.int .i64 z) :: tl) ol Kf)(hx:x.ev (Ap tl)=.elt i j 0:=by kernel_rfl)(hob:Am ol i=some (.arr 3 .int ws):=by kernel_rfl)(hgd:gdB gd (Ap tl)=true:=by kernel_rfl):XW P G g k (⟨some d,gd,.i (.ld true 1 x)⟩ :: xs) tl ol Kf:=rsl _ (H3 hgd (Hh (k:=0) (t:=.int) hx hob hz rfl)) h3
theorem dzE{x:Opd}(i:Oid){ws:List Int}{j:Nat}{z:Int}(hz:ws[j]? =some z)(h3:XD P G bad g (k+1) xs ((d,.int .i64 z) :: tl) ol ((1,.int .i64 z,[]) :: ra) ((rdX (Ap tl) (Am ol) ⟨some d,gd,.i (.ld true 1 x)⟩) :: da) Kf)(hx:x.ev (Ap tl)=.elt i j 0:=by kernel_rfl)(hob:only (rdX (Ap tl) (Am ol) ⟨some d,gd,.i (.ld true 1 x)⟩) (Am ol) i=some (.arr 3 .int ws):=by kernel_rfl)(hgd:gdB gd (Ap tl)=true:=by kernel_rfl):XD P G bad g k (⟨some d,gd,.i (.ld true 1 x)⟩ :: xs) tl ol ra da Kf:=dsl _ (H3 hgd (Hh (k:=0) (t:=.int) hx hob hz rfl)) h3
theorem zS{x y:Opd}(i:Oid){ws:List Int}{j:Nat}{z:Int}(z1:Int)(hz:ws[j]? =some z)(h3:XW P G g (k+1) xs tl ((i,some (.arr 3 .int (ws.set j z1))) :: (i,none) :: ol) Kf)(hx:x.ev (Ap tl)=.elt i j 0:=by kernel_rfl)(hob:Am ol i=some (.arr 3 .int ws):=by kernel_rfl)(hy:y.ev (Ap tl)=.int .i64 z1:=by kernel_rfl)(hgd:gdB gd (Ap tl)=true:=by kernel_rfl):XW P G g k (⟨none,gd,.st true 1 x y⟩ :: xs) tl ol Kf:=Al0 _ _ _ (H3 hgd (Ag5 (k:=0) (t:=.int) (cs:=[.int .i64 z1]) (x1:=z1) hx hob hz (by rw[hy];rfl) rfl)) h3
theorem dzS{x y:Opd}(i:Oid){ws:List Int}{j:Nat}{z:Int}(z1:Int)(hz:ws[j]? =some z)(h3:XD P G bad g (k+1) xs tl ((i,some (.arr 3 .int (ws.set j z1))) :: (i,none) :: ol) ((2,.any,[(i,none),(i,some (.arr 3 .int (ws.set j z1)))]) :: ra) ((rdX (Ap tl) (Am ol) ⟨none,gd,.st true 1 x y⟩) :: da) Kf)(hx:x.ev (Ap tl)=.elt i j 0:=by kernel_rfl)(hob:only (rdX (Ap tl) (Am ol) ⟨none,gd,.st true 1 x y⟩) (Am ol) i=some (.arr 3 .int ws):=by kernel_rfl)(hy:y.ev (Ap tl)=.int .i64 z1:=by kernel_rfl)(hgd:gdB gd (Ap tl)=true:=by kernel_rfl):XD P G bad g k (⟨none,gd,.st true 1 x y⟩ :: xs) tl ol ra da Kf:=J4 _ _ _ (H3 hgd (Ag5 (k:=0) (t:=.int) (cs:=[.int .i64 z1]) (x1:=z1) hx hob hz (by rw[hy];rfl) rfl)) h3
theorem zB{x y:Opd}{by_:Nat}(j q:Oid)(ws:List Int)(z:Int)(h:ws.length+1<=1073741824/\(ws.length+1)*by_<=140737488355328)(h3:XW P G g (k+1) xs ((d,.own (j.1,g+k) .int 0 (ws++[z]).length) :: tl) (((j.1,g+k),some (.arr 3 .int (ws++[z]))) :: (j,none) :: ol) Kf)(hx:x.ev (Ap tl)=.own j .int 0 ws.length:=by kernel_rfl)(hob:Am ol j=some (.arr 3 .int ws):=by kernel_rfl)(hy:y.ev (Ap tl)=.own q .int 0 1:=by kernel_rfl)(hq:Am ol q=some (.arr 3 .int [z]):=by kernel_rfl)(hgd:gdB gd (Ap tl)=true:=by kernel_rfl):XW P G g k (⟨some d,gd,.append 3 .int by_ x y⟩ :: xs) tl ol Kf:=rs2 _ _ _ _ (H3 hgd (Qe (t:=.int) (ys:=[z]) hx hob rfl hy (Ij hq rfl) rfl h)) h3
theorem dzB{x y:Opd}{by_:Nat}(j q:Oid)(ws:List Int)(z:Int)(h:ws.length+1<=1073741824/\(ws.length+1)*by_<=140737488355328)(h3:XD P G bad g (k+1) xs ((d,.own (j.1,g+k) .int 0 (ws++[z]).length) :: tl) (((j.1,g+k),some (.arr 3 .int (ws++[z]))) :: (j,none) :: ol) ((2,.own (j.1,g+k) .int 0 (ws++[z]).length,[(j,none),((j.1,g+k),some (.arr 3 .int (ws++[z])))]) :: ra) ((rdX (Ap tl) (Am ol) ⟨some d,gd,.append 3 .int by_ x y⟩) :: da) Kf)(hx:x.ev (Ap tl)=.own j .int 0 ws.length:=by kernel_rfl)(hob:only (rdX (Ap tl) (Am ol) ⟨some d,gd,.append 3 .int by_ x y⟩) (Am ol) j=some (.arr 3 .int ws):=by kernel_rfl)(hy:y.ev (Ap tl)=.own q .int 0 1:=by kernel_rfl)(hq:only (rdX (Ap tl) (Am ol) ⟨some d,gd,.append 3 .int by_ x y⟩) (Am ol) q=some (.arr 3 .int [z]):=by kernel_rfl)(hgd:gdB gd (Ap tl)=true:=by kernel_rfl):XD P G bad g k (⟨some d,gd,.append 3 .int by_ x y⟩ :: xs) tl ol ra da Kf:=ds2 _ _ _ _ (H3 hgd (Qe (t:=.int) (ys:=[z]) hx hob rfl hy (Ij hq rfl) rfl h)) h3
theorem zA{x y:Opd}{j:Nat}(h:j+1<4611686018427387904)(h3:XW P G g (k+1) xs ((d,.int .i64 ((j+1:Nat):Int)) :: tl) ol Kf)(hx:x.ev (Ap tl)=.int .i64 j:=by kernel_rfl)(hy:y.ev (Ap tl)=.int .i64 1:=by kernel_rfl):XW P G g k (⟨some d,none,.i (.bin .add x y)⟩ :: xs) tl ol Kf:=rs0 _ (Atf hx hy h) h3
end
section
variable{n:Nat}{d:Option Nat}{f:TF}{ob:OF}
theorem zi{sz:Nat}{x i:Opd}{t:Ty}{xs:List t.D}{y:t.D}{k:IntKind}{m:Int}{j:Nat}(h0:0<=m)(hy:xs[j]? =some y)(hx:(x.ev f).un=.tree t xs:=by kernel_rfl)(hi:i.ev f=.int k m:=by kernel_rfl)(hs:sz=t.size:=by rfl)(hj:m.toNat=j:=by rfl){e:Option NP}(he:(x.ev f).tag=e:=by kernel_rfl):Bd n ⟨d,none,.i (.idx sz x i)⟩ f ob=some (0,.telt e t y 0,[]):=Ajf hx hi hs h0 hj hy he
theorem zo{sz:Nat}{x i:Opd}{t:Ty}{o:Oid}{len:Nat}{k:IntKind}{m:Int}{j:Nat}(h0:0<=m)(hl:j<len)(hx:x.ev f=.own o t 0 len:=by kernel_rfl)(hi:i.ev f=.int k m:=by kernel_rfl)(hs:sz=t.size:=by rfl)(hj:m.toNat=j:=by rfl):Bd n ⟨d,none,.i (.idx sz x i)⟩ f ob=some (0,.elt o j 0,[]):=Te hx hi hs h0 hj hl
theorem zl{vs:LV}{c:AV}{l:RL}(h:U4 ob c=some l:=by kernel_rfl):LeafR vs ob c l:=Asx h
end
theorem zj{α:Type}{a b:α}(h:some a=some b):a=b:=osj h
set_option maxRecDepth 4000
set_option maxHeartbeats 4800000
variable{aA aB:List Int}{bA bB bC bD:Int}{cA:Bool}
def Nw(a0:List Int)(a1:Int):Option Int:=
 cond (decide (wI (a1 - (a0.length:Int))<0))
 (some (-1))
 (some (wI (a1 - (a0.length:Int))))
def A8(r:Int):RV:=⟨false,[(false,[.sc (.int .i64 r)])]⟩
theorem Ade(h:Nw aA bA=some bB):cK 114 [tI aA,ai bA] (A8 bB):=by
 exact cO Tryz.func114<|Ae<|Ae<|Ab<|Ae (kQ h (fun _ h=>Ae<|Ac<|tr_<|jS h) fun _ h=>skW<|Ae<|Ac<|jS h)
def J6(a0:List Int)(u0:Nat)(u1:List Int):Option (Ctl (Nat×List Int) (List Int)):=
 cond (decide ((u0:Int)<(a0.length:Int)))
 ((a0[u0]?).bind fun x11=>
 (u1[u0]?).bind fun x12=>
 og (u0+1<4611686018427387904)<|
 some (.next (u0+1,u1.set u0 x11)))
 (some (.out u1))
def Nz(a0:List Int):Option (List Int):=
 og (0<=(a0.length:Int)/\(a0.length:Int)<=(a0.length:Int)/\(a0.length:Int)<=1073741824/\(8:Int)*(a0.length:Int)<=140737488355328)<|
(Aq (fun s_:Nat×List Int=>J6 a0 s_.1 s_.2) 4611686018427387904 (0,replicate a0.length (0:Int))).bind fun u0=>
some u0
def Cj(r:List Int):RV:=⟨false,[(false,[.new 3 .int r])]⟩
theorem Ac8(h:Nz aA=some aB):cK 120 [tI aA] (Cj aB):=by
 refine cO Tryz.func120<|Ae<|Ab<|Aa 6<|rsT 2 ?_;have ⟨g3,h⟩:=Aj h;refine rs1 (oI 7 4 aA.length) (oi 7 4) (.arr 3 .int<|replicate aA.length (0:Int)) (Qh (t:=.int) (k:=.i64) (k':=.i64) (m:=(aA.length:Int)) (m':=(aA.length:Int)) kr kr g3 rfl)<|rsT 1<|rnW (sqF h (fun u1=>sT [(3,oI 0 1 u1.length)] [(oi 0 1,.arr 3 .int u1)]) ?_ fun u1 h=>Ae<|Ac<|jR h [oI 0 1 u1.length]<|H6 rfl (Ec kr rfl) H0);intro _ h;refine Ae<|Ad<|lpF h (fun (u2,u0)=>sT [(0,tI aA),(3,oI 0 1 u0.length),(4,an u2)] [(oi 0 1,.arr 3 .int u0)]) ((wL 3 (length_replicate.symm:aA.length=(replicate aA.length (0:Int)).length)).trans<|Ag [(oi 0 1,oi 7 4)]) ?_;rintro n_ ⟨u2,u0⟩ c_ h hn6;refine Ab<|Ae (kQ h (fun _ h=>skW<|Ab<|Ad<|Aa 14<|rsT 4 (riH .int h fun x11 _ h=>rsT 1 ?_)) fun _ h=>lxT (have h:=jO h hn6;jE []));have ⟨x12,e12,h⟩:=Ah h;refine zO (oi 0 1) .int u0.length (Ai e12)<|zS (oi 0 1) (x11) e12<|Ao<|bn_<|tn_<|wr_<|Aa 17<|rsT 1 (raH h fun h=>rsT 1<|Ao<|tn_ ?_);cases h;exact jLw hn6<|(wL 3 (((rfl:u0.length=u0.length).trans length_set.symm):u0.length=(u0.set u2 x11).length)).trans<|Ag []
def Ke(a0 a1:List Int)(u0:Nat):Option (Ctl Nat (Ctl Unit Bool)):=
 cond (decide ((u0:Int)<(a0.length:Int)))
 ((a0[u0]?).bind fun x14=>
 (a1[u0]?).bind fun x15=>
 cond (x14 !=x15)
  (some (.out (.out false)))
  (og (u0+1<4611686018427387904)<|
  some (.next (u0+1))))
 (some (.out (.next ())))
def Ns(a0 a1:List Int):Option Bool:=
 cond ((a0.length:Int) !=(a1.length:Int))
 (some false)
 (Dg (Aq (fun s_:Nat=>Ke a0 a1 s_) 4611686018427387904 0) fun _=>
 some true)
def An(r:Bool):RV:=⟨false,[(false,[.sc (.bool r)])]⟩
theorem Afd(h:Ns aA aB=some cA):cK 71 [tI aA,tI aB] (An cA):=by
 exact cO Tryz.func71<|Ae<|Ab<|Ae (kQ h (fun _ h=>Ae<|Ac<|tr_<|jS h) fun _ h=>skW (sqC h (fun _=>sT [] []) (fun _ h hk6=>Ae<|Ad<|lpF h (fun u0=>sT [(0,tI aA),(1,tI aB),(5,an u0)] []) (Ag []) fun n_ u0 c_ h hn8=>Ab<|Ae (kQ h (fun _ h=>skW<|Ab<|Ad<|Ab<|Al 15<|ds0 (tI aA) kr<|ds0 (an u0) kr (diH .int h fun x14 _ h=>dsT 3 (diH .int h fun x15 _ h=>ds0 (ai x15) kr<|ds0 (.bool<|x14 !=x15) kr<|Cb (As kr)<|tn_<|wr_ (kQ h (fun _ h=>Ae<|Ac<|br_<|tr_<|tr_<|br_<|tr_ (have h:=jO h hn8;(have h:=jO h hk6;jS h))) fun _ h=>Ay<|bn_<|tn_<|wr_<|Aa 18<|rsT 1 (raH h fun h=>rsT 1<|Ao<|tn_<|jL []))))) fun _ h=>lxT (have h:=jO h hn8;jC []))) fun _ h=>Ae<|Ac<|jS h))
def Cv(a0 a1 a2:Int):Option Bool:=
 (cond (decide (a1<=a0))
  (some (decide (a0<=a2)))
  (some false)).bind fun u0=>
some u0
theorem Db(h:Cv bA bB bC=some cA):cK 96 [ai bA,ai bB,ai bC] (An cA):=by
 exact cO Tryz.func96<|Ae (sqF h (fun u0=>sT [(6,.bool u0)] []) (fun _ h=>Aa 11<|rsT 4 (kR h 10 (fun _ h=>rsT 5<|Ao<|tn_<|jE []) fun _ h=>rsT 5<|Ao<|tn_<|jE [])) fun u0 h=>Ac<|jS h)
def J0(a0:Int)(u0:Nat):Option (Ctl Nat (Ctl Unit Bool)):=
 cond (decide (wI ((u0:Int)*(u0:Int))<=a0))
 (og ((u0:Int)≠0)<|
 cond ((Int.tmod a0 (u0:Int))==0)
  (some (.out (.out false)))
  (og (u0+1<4611686018427387904)<|
  some (.next (u0+1))))
 (some (.out (.next ())))
def Gk(a0:Int):Option Bool:=
 (Cv a0 2 97).bind fun y4=>
cond (!y4)
 (some false)
 (Dg (Aq (fun s_:Nat=>J0 a0 s_) 4611686018427387904 2) fun _=>
 some true)
theorem Mo(h:Gk bA=some cA):cK 94 [ai bA] (An cA):=by
 refine cO Tryz.func94<|Ae<|Ab<|Ab<|Aa 5<|rsT 1 (rcH h Db fun y4 h=>rsT 1<|rnW (kQ h (fun _ h=>Ae<|Ac<|tr_<|jS h) fun _ h=>skW (sqC h (fun _=>sT [] []) ?_ fun _ h=>Ae<|Ac<|jS h)));intro _ h hk7;refine Ae<|Ad<|lpF h (fun u0=>sT [(0,ai bA),(3,an u0)] []) (Ag []) ?_;intro n_ u0 c_ h hn9;refine Ab<|Ae (kQ h (fun _ h=>skW<|Ab<|Ad<|Ab<|Aa 11<|rsT 2 ?_) fun _ h=>lxT (have h:=jO h hn9;jC []));have ⟨g15,h⟩:=Aj h;exact rs0 (ai<|Int.tmod bA (u0:Int)) (Q1 (k:=.i64) (a:=bA) (b:=(u0:Int)) kr kr g15)<|rsT 1<|rnW (kQ h (fun _ h=>Ae<|Ac<|br_<|tr_<|tr_<|br_<|tr_ (have h:=jO h hn9;(have h:=jO h hk7;jS h))) fun _ h=>Ay<|bn_<|tn_<|wr_<|Aa 14<|rsT 1 (raH h fun h=>rsT 1<|Ao<|tn_<|jL []))
def O4(a0:List Int)(a1 a2:Int)(u0:Nat):Option (Ctl Nat (Ctl Unit Bool)):=
 cond (decide ((u0:Int)<(a0.length:Int)))
 ((a0[u0]?).bind fun x10=>
 (Cv x10 a1 a2).bind fun y12=>
 cond (!y12)
  (some (.out (.out false)))
  (og (u0+1<4611686018427387904)<|
  some (.next (u0+1))))
 (some (.out (.next ())))
def Gb(a0:List Int)(a1 a2:Int):Option Bool:=
 Dg (Aq (fun s_:Nat=>O4 a0 a1 a2 s_) 4611686018427387904 0) fun _=>
some true
theorem Kt(h:Gb aA bA bB=some cA):cK 185 [tI aA,ai bA,ai bB] (An cA):=by
 exact cO Tryz.func185<|Ae (sqC h (fun _=>sT [] []) (fun _ h hk2=>Ae<|Ad<|lpF h (fun u0=>sT [(1,ai bA),(2,ai bB),(9,tI aA),(10,an aA.length),(11,an u0)] []) (Ag []) fun n_ u0 c_ h hn4=>Ae<|Ab (kQ h (fun _ h=>skW<|Ab<|Ad<|Ab<|Aa 6 (riH .int h fun x10 _ h=>rsT 2<|rnW<|Ab<|Aa 11<|rsT 3 (rcH h Db fun y12 h=>rsT 1<|rnW (kQ h (fun _ h=>Ae<|Ac<|br_<|tr_<|tr_<|br_<|tr_ (have h:=jO h hn4;(have h:=jO h hk2;jS h))) fun _ h=>Ay<|bn_<|tn_<|wr_<|Aa 13 (raH h fun h=>rsT 1<|Ao<|tn_<|jL []))))) fun _ h=>lxT (have h:=jO h hn4;jC []))) fun _ h=>Ae<|Ac<|jS h)
def Hk(a0:List Int):Option (List Int):=
 og (0+a0.length<=1073741824/\(0+a0.length)*8<=140737488355328)<|
some a0
theorem N9(h:Hk aA=some aB):cK 102 [tI aA] (Cj aB):=by
 refine cO Tryz.func102<|Ae<|Ab<|Aa 6<|rsB 2 ?_;have ⟨g3,h⟩:=Aj h;exact rs2 (oI 3 4 aA.length) (oi 3 2) (oi 3 4) (.arr 3 .int aA) (Qe (t:=.int) (t':=.int) (xs:=[]) (ys:=aA) (zs:=aA) (j:=oi 3 2) (len:=0) (c:=tI aA) kr kr rfl kr K3 rfl g3)<|rsT 1<|rnW<|Ac<|jR h [oI 3 4 aA.length]<|H6 rfl (Ec kr rfl) H0
def Qt(a0:Int)(a1:List Int):Option Bool:=
 (Gb a1 0 (wI (a0 - 1))).bind fun y3=>
some y3
theorem Ajl(h:Qt bA aA=some cA):cK 178 [ai bA,tI aA] (An cA):=by
 exact cO Tryz.func178<|Ae<|Ab<|Aa 7<|rsT 3 (rcH h Kt fun y3 h=>rsT 1<|rnW<|Ac<|jS h)
def Ee(a0 a1 a2:Int):Option Int:=
 og (a0≠0)<|
some (Int.tmod (wI (a1+a2)) a0)
theorem Agm(h:Ee bA bB bC=some bD):cK 190 [ai bA,ai bB,ai bC] (A8 bD):=by
 refine cO Tryz.func190<|Ae<|Ab<|Aa 8<|rsT 4 ?_;have ⟨g3,h⟩:=Aj h;exact rs0 (ai<|Int.tmod (wI<|bB+bC) bA) (Q1 (k:=.i64) (a:=wI<|bB+bC) (b:=bA) kr kr g3)<|rsT 1<|rnW<|Ac<|jS h
def Mb(a0 a1 a2:Int):Option Int:=
 og (a0≠0)<|
some (Int.tmod (wI (a1*a2)) a0)
theorem Wf(h:Mb bA bB bC=some bD):cK 171 [ai bA,ai bB,ai bC] (A8 bD):=by
 refine cO Tryz.func171<|Ae<|Ab<|Aa 8<|rsT 4 ?_;have ⟨g3,h⟩:=Aj h;exact rs0 (ai<|Int.tmod (wI<|bB*bC) bA) (Q1 (k:=.i64) (a:=wI<|bB*bC) (b:=bA) kr kr g3)<|rsT 1<|rnW<|Ac<|jS h
def Ce(a0 a1 a2:Int):Option Bool:=
 (cond (decide (a1<=a0))
  (some (decide (a0<=a2)))
  (some false)).bind fun u0=>
some u0
theorem C9(h:Ce bA bB bC=some cA):cK 121 [ai bA,ai bB,ai bC] (An cA):=by
 exact cO Tryz.func121<|Ae (sqF h (fun u0=>sT [(6,.bool u0)] []) (fun _ h=>Aa 11<|rsT 4 (kR h 10 (fun _ h=>rsT 5<|Ao<|tn_<|jE []) fun _ h=>rsT 5<|Ao<|tn_<|jE [])) fun u0 h=>Ac<|jS h)
def Jv(a0 a1:Int):Option Bool:=
 (cond (decide (0<=a1))
  (some (decide (a1<a0)))
  (some false)).bind fun u0=>
some u0
theorem Xq(h:Jv bA bB=some cA):cK 186 [ai bA,ai bB] (An cA):=by
 exact cO Tryz.func186<|Ae (sqF h (fun u0=>sT [(4,.bool u0)] []) (fun _ h=>Aa 10<|rsT 3 (kR h 7 (fun _ h=>rsT 5<|Ao<|tn_<|jE []) fun _ h=>rsT 5<|Ao<|tn_<|jE [])) fun u0 h=>Ac<|jS h)
def Lv(a1:List Int)(a0:Int)(u0:Nat):Option (Ctl Nat (Ctl Unit Bool)):=
 cond (decide ((u0:Int)<(a1.length:Int)))
 ((a1[u0]?).bind fun x14=>
 (Jv a0 x14).bind fun y16=>
 cond (!y16)
  (some (.out (.out false)))
  (og (u0+1<4611686018427387904)<|
  some (.next (u0+1))))
 (some (.out (.next ())))
def Lh(a0:Int)(a1:List Int)(a2:Int):Option Bool:=
 cond ((a1.length:Int) !=a2)
 (some false)
 (Dg (Aq (fun s_:Nat=>Lv a1 a0 s_) 4611686018427387904 0) fun _=>
 some true)
theorem Aah(h:Lh bA aA bB=some cA):cK 180 [ai bA,tI aA,ai bB] (An cA):=by
 exact cO Tryz.func180<|Ae<|Ab<|Ae (kQ h (fun _ h=>Ae<|Ac<|tr_<|jS h) fun _ h=>skW (sqC h (fun _=>sT [] []) (fun _ h hk6=>Ae<|Ad<|lpF h (fun u0=>sT [(0,ai bA),(13,tI aA),(14,an aA.length),(15,an u0)] []) (Ag []) fun n_ u0 c_ h hn8=>Ae<|Ab (kQ h (fun _ h=>skW<|Ab<|Ad<|Ab<|Aa 6 (riH .int h fun x14 _ h=>rsT 2<|rnW<|Ab<|Aa 10<|rsT 2 (rcH h Xq fun y16 h=>rsT 1<|rnW (kQ h (fun _ h=>Ae<|Ac<|br_<|tr_<|tr_<|br_<|tr_ (have h:=jO h hn8;(have h:=jO h hk6;jS h))) fun _ h=>Ay<|bn_<|tn_<|wr_<|Aa 12 (raH h fun h=>rsT 1<|Ao<|tn_<|jL []))))) fun _ h=>lxT (have h:=jO h hn8;jC []))) fun _ h=>Ae<|Ac<|jS h))
def Sy(a0 a1:Int):Option Int:=
 og (a0≠0)<|
(cond (decide (Int.tmod a1 a0<0))
  (some (wI (Int.tmod a1 a0+a0)))
  (some (Int.tmod a1 a0))).bind fun u0=>
some u0
theorem Ama(h:Sy bA bB=some bC):cK 165 [ai bA,ai bB] (A8 bC):=by
 refine cO Tryz.func165<|Ae<|Ab<|Aa 6<|rsT 2 ?_;have ⟨g3,h⟩:=Aj h;exact rs0 (ai<|Int.tmod bB bA) (Q1 (k:=.i64) (a:=bB) (b:=bA) kr kr g3)<|rsT 1<|rnW (sqF h (fun u0=>sT [(1,ai u0)] []) (fun _ h=>Ae (kQ h (fun _ h=>Aa 12<|rsT 4<|Ao<|tn_<|jE []) fun _ h=>Ay<|tn_<|jE [])) fun u0 h=>Ae<|Ac<|jS h)
def Pf(a0:List Int):Option (List Int):=
 og (0+a0.length<=1073741824/\(0+a0.length)*8<=140737488355328)<|
some a0
theorem Agf(h:Pf aA=some aB):cK 155 [tI aA] (Cj aB):=by
 refine cO Tryz.func155<|Ae<|Ab<|Aa 6<|rsB 2 ?_;have ⟨g3,h⟩:=Aj h;exact rs2 (oI 3 4 aA.length) (oi 3 2) (oi 3 4) (.arr 3 .int aA) (Qe (t:=.int) (t':=.int) (xs:=[]) (ys:=aA) (zs:=aA) (j:=oi 3 2) (len:=0) (c:=tI aA) kr kr rfl kr K3 rfl g3)<|rsT 1<|rnW<|Ac<|jR h [oI 3 4 aA.length]<|H6 rfl (Ec kr rfl) H0
set_option maxRecDepth 4000
set_option maxHeartbeats 4800000
variable{bA bB bC bD bE:Int}{dA dB:LL}{cA:Bool}{aA aB aC:List Int}{eA:LL×LL}{fA:LL×LL×Nat}
def Abz(a0 a1:Int)(u0:Nat):Option (Ctl Nat (Ctl Unit Int)):=
 cond (decide ((u0:Int)<a0))
 (og (a0≠0)<|
 cond ((Int.tmod (wI (a1*(u0:Int))) a0)==1)
  (some (.out (.out (u0:Int))))
  (og (u0+1<4611686018427387904)<|
  some (.next (u0+1))))
 (some (.out (.next ())))
def Pc(a0 a1:Int):Option Int:=
 Dg (Aq (fun s_:Nat=>Abz a0 a1 s_) 4611686018427387904 1) fun _=>
some 0
theorem Ago(h:Pc bA bB=some bC):cK 170 [ai bA,ai bB] (A8 bC):=by
 refine cO Tryz.func170<|Ae (sqC h (fun _=>sT [] []) ?_ fun _ h=>Ae<|Ac<|jS h);intro _ h hk2;refine Ae<|Ad<|lpF h (fun u0=>sT [(0,ai bA),(1,ai bB),(5,an u0)] []) (Ag []) ?_;intro n_ u0 c_ h hn4;refine Ab<|Ae (kQ h (fun _ h=>skW<|Ab<|Ad<|Ab<|Aa 11<|rsT 4 ?_) fun _ h=>lxT (have h:=jO h hn4;jC []));have ⟨g10,h⟩:=Aj h;exact rs0 (ai<|Int.tmod (wI<|bB*(u0:Int)) bA) (Q1 (k:=.i64) (a:=wI<|bB*(u0:Int)) (b:=bA) kr kr g10)<|rsT 1<|rnW (kQ h (fun _ h=>Ae<|Ac<|br_<|tr_<|tr_<|br_<|tr_ (have h:=jO h hn4;(have h:=jO h hk2;jS h))) fun _ h=>Ay<|bn_<|tn_<|wr_<|Aa 14<|rsT 1 (raH h fun h=>rsT 1<|Ao<|tn_<|jL []))
def Ge(a0 a1:Int):Option Int:=
 og (a0≠0)<|
some (Int.tmod (wI (a0 - a1)) a0)
theorem Rj(h:Ge bA bB=some bC):cK 99 [ai bA,ai bB] (A8 bC):=by
 refine cO Tryz.func99<|Ae<|Ab<|Aa 8<|rsT 4 ?_;have ⟨g3,h⟩:=Aj h;exact rs0 (ai<|Int.tmod (wI<|bA - bB) bA) (Q1 (k:=.i64) (a:=wI<|bA - bB) (b:=bA) kr kr g3)<|rsT 1<|rnW<|Ac<|jS h
def Pj(a0 a1 a2:Int):Option Int:=
 og (a0≠0)<|
some (Int.tmod (wI ((wI (a1+a0)) - a2)) a0)
theorem Agd(h:Pj bA bB bC=some bD):cK 172 [ai bA,ai bB,ai bC] (A8 bD):=by
 refine cO Tryz.func172<|Ae<|Ab<|Aa 10<|rsT 6 ?_;have ⟨g3,h⟩:=Aj h;exact rs0 (ai<|Int.tmod (wI<|(wI<|bB+bA) - bC) bA) (Q1 (k:=.i64) (a:=wI<|(wI<|bB+bA) - bC) (b:=bA) kr kr g3)<|rsT 1<|rnW<|Ac<|jS h
def Fr(a2:LL)(u0:Nat)(u1:LL):Option (Ctl (Nat×LL) (LL)):=
 cond (decide ((u0:Int)<(a2.length:Int)))
 ((a2[u0]?).bind fun x12=>
 (Hk x12).bind fun y13=>
 og (u1.length+1<=1073741824/\(u1.length+1)*24<=140737488355328)<|
 og (u0+1<4611686018427387904)<|
 some (.next (u0+1,u1++[y13])))
 (some (.out u1))
def Fp(u1:LL)(u2 u0:Nat):Option (Ctl Nat Nat):=
 (cond (decide ((u0:Int)<(u1.length:Int)))
  ((u1[u0]?).bind fun x31=>
  (x31[u2]?).bind fun x32=>
  some (x32==0))
  (some false)).bind fun u3=>
cond u3
 (og (u0+1<4611686018427387904)<|
 some (.next (u0+1)))
 (some (.out u0))
def Hw(x44:List Int)(u2:Nat)(a0 y46:Int)(u0:Nat)(u1:LL):Option (Ctl (Nat×LL) (LL)):=
 cond (decide ((u0:Int)<(x44.length:Int)))
 ((u1[u2]?).bind fun x55=>
 (x55[u0]?).bind fun x56=>
 (Mb a0 x56 y46).bind fun y57=>
 og (u0+1<4611686018427387904)<|
 some (.next (u0+1,u1.set u2 (x55.set u0 y57))))
 (some (.out u1))
def Hj(x74:List Int)(u2 u3:Nat)(a0 x75:Int)(u0:Nat)(u1:LL):Option (Ctl (Nat×LL) (LL)):=
 cond (decide ((u0:Int)<(x74.length:Int)))
 ((u1[u2]?).bind fun x83=>
 (x83[u0]?).bind fun x84=>
 (u1[u3]?).bind fun x85=>
 (x85[u0]?).bind fun x86=>
 (Mb a0 x75 x86).bind fun y87=>
 (Pj a0 x84 y87).bind fun y88=>
 og (u0+1<4611686018427387904)<|
 some (.next (u0+1,u1.set u2 (x83.set u0 y88))))
 (some (.out u1))
def Hn(u4:LL)(u2 u3:Nat)(a0:Int)(u0:Nat)(u1:LL):Option (Ctl (Nat×LL) (LL)):=
 cond (decide ((u0:Int)<(u4.length:Int)))
 (((cond ((u0:Int)==(u2:Int))
       (some true)
       ((u1[u0]?).bind fun x70=>
       (x70[u3]?).bind fun x71=>
       some (x71==0))).bind fun u5=>
  cond u5
   (some u1)
   ((u1[u0]?).bind fun x74=>
   (x74[u3]?).bind fun x75=>
   Aq (fun s_:Nat×LL=>Hj x74 u0 u2 a0 x75 s_.1 s_.2) 4611686018427387904 (0,u1))).bind fun u6=>
 og (u0+1<4611686018427387904)<|
 some (.next (u0+1,u6)))
 (some (.out u1))
def Ea(a1 a0:Int)(u0 u2:Nat)(u1:LL):Option (Ctl (Nat×Nat×LL) (Nat×LL)):=
 (cond (decide ((u2:Int)<a1))
  (some (decide ((u0:Int)<(u1.length:Int))))
  (some false)).bind fun u5=>
cond u5
 (((Aq (fun s_:Nat=>Fp u1 u2 s_) 4611686018427387904 u0).bind fun u3=>
  cond ((u3:Int)==(u1.length:Int))
   (some (u0,u1))
   ((u1[u0]?).bind fun x39=>
   (u1[u3]?).bind fun x41=>
   (((u1.set u0 x41).set u3 x39)[u0]?).bind fun x44=>
   (x44[u2]?).bind fun x45=>
   (Pc a0 x45).bind fun y46=>
   (Aq (fun s_:Nat×LL=>Hw x44 u0 a0 y46 s_.1 s_.2) 4611686018427387904 (0,(u1.set u0 x41).set u3 x39)).bind fun u4=>
   (Aq (fun s_:Nat×LL=>Hn u4 u0 u2 a0 s_.1 s_.2) 4611686018427387904 (0,u4)).bind fun u6=>
   og (u0+1<4611686018427387904)<|
   some (u0+1,u6))).bind fun (u7,u8)=>
 og (u2+1<4611686018427387904)<|
 some (.next (u7,u2+1,u8)))
 (some (.out (u0,u1)))
def E1(a0 a1:Int)(a2:LL):Option LL:=
 (Aq (fun s_:Nat×LL=>Fr a2 s_.1 s_.2) 4611686018427387904 (0,([]:LL))).bind fun u2=>
(Aq (fun s_:Nat×Nat×LL=>Ea a1 a0 s_.1 s_.2.1 s_.2.2) 4611686018427387904 (0,0,u2)).bind fun (u0,u1)=>
og ((0:Int)<=0/\0<=(u0:Int)/\(u0:Int)<=(u1.length:Int))<|
some (u1.take u0)
theorem Jq(h:E1 bA bB dA=some dB):Ed Tryz.prog Tab 146 [ai bA,ai bB,tS dA] [] (oS 0 1 dB.length) [(oi 0 1,.mat 81 (oi 1 1) .int dB),(oi 1 1,.pool 3 .int dB)]:=by
 refine B8 kr Tryz.func146 (Ck kr) (n:=177) kr fS rfl kr trivial ⟨⟨3,.tail _<|.head _⟩,⟨trivial,trivial⟩⟩<|Ae<|Ae<|sqF h (fun uf=>sT [(0,ai bA),(1,ai bB),(7,oS 0 1 uf.length)] [(oi 0 1,.mat 81 (oi 1 1) .int uf),(oi 1 1,.pool 3 .int uf)]) ?_ ?_
 ·intro _ h;refine Ae<|Ad<|lpF h (fun (uj,u7)=>sT [(0,ai bA),(1,ai bB),(7,oS 0 1 u7.length),(19,tS dA),(20,an dA.length),(21,an uj)] [(oi 0 1,.mat 81 (oi 1 1) .int u7),(oi 1 1,.pool 3 .int u7)]) ((Nh 7 81 sI kr).trans<|(Dv (e1:=81) (n:=0) 9000 (oi 7 6) 3 .int kr kr rfl kr kr).trans<|Ag [(oi 0 1,oi 7 6),(oi 1 1,oi 9000 7)]) ?_;rintro n_ ⟨uj,u7⟩ c_ h hn6
  (try dsimp only at h);refine Ae<|Ab (kQ h (fun q9 h=>?_) fun q9 h=>?_)
  ·have q9_:=of_decide_eq_true q9;refine skW<|Ab<|Ad<|Ab<|Aa 6 (riH sI h fun x12 _ h=>rsT 2<|rnW<|Aa 12<|rsT 2 (rcH h N9 fun y13 h=>Hd (oS 28 9 1) (oi 28 9) (.vec 81 1 1<|[oI 432 8 y13.length]) trivial (Co kr) ?_));have ⟨g14,h⟩:=Aj h;refine rs2 (oS 0 10<|u7.length+1) (oi 0 1) (oi 0 10) (.vec 81 1 (u7.length+1)<|hdL (oi 1 1) .int u7++[oI 432 8 y13.length]) (Iz (u:=.int) (t':=sI) (t2:=sI) (o:=oi 0 1) (q:=oi 28 9) (e2:=81) (p:=oi 1 1) (xss:=u7) (cs:=[oI 432 8 y13.length]) (len:=u7.length) kr kr rfl kr kr rfl g14)<|rsT 1<|Ao<|bn_<|tn_ ⟨_,Ew (e1:=81) (e:=3) (u:=.int) (n:=u7.length+1) (len:=y13.length) (row:=y13) (ys:=y13) (xss:=u7) 9000 (oi 0 10) (oi 1 1) (oi 432 8) kr kr rfl kr kr (Oh rfl) (Ow rfl) kr kr kr,Aa 15 ?_⟩;have ⟨g15,h⟩:=Aj h;refine zA g15<|rsT 1<|Ao<|tn_ ?_;cases h;exact jLw hn6<|(wL 7 (fS:u7.length+1=(u7++[y13]).length)).trans<|Ag [(oi 0 1,oi 0 10),(oi 1 1,oi 9000 12)]
  have q9_:=of_decide_eq_false q9;refine lxT ?_;have h:=jO h hn6
  (try dsimp only at h);exact jE []
 intro uf h
 (try dsimp only at h);refine Ae<|sqF h (fun (ub,uc)=>sT [(7,oS 0 1 uc.length),(10,an ub)] [(oi 0 1,.mat 81 (oi 1 1) .int uc),(oi 1 1,.pool 3 .int uc)]) ?_ ?_
 ·intro _ h;refine Ae<|Ad<|lpF h (fun (u0,u3,u1)=>sT [(0,ai bA),(1,ai bB),(7,oS 0 1 u1.length),(10,an u0),(11,an u3)] [(oi 0 1,.mat 81 (oi 1 1) .int u1),(oi 1 1,.pool 3 .int u1)]) (Ag []) ?_;rintro n_ ⟨u0,u3,u1⟩ c_ h hn19
  (try dsimp only at h);refine Ab<|sqF h (fun uk=>sT [(0,ai bA),(1,ai bB),(7,oS 0 1 u1.length),(10,an u0),(11,an u3),(39,.bool uk)] [(oi 0 1,.mat 81 (oi 1 1) .int u1),(oi 1 1,.pool 3 .int u1)]) ?_ ?_
  ·intro _ h;refine Aa 11<|rsT 4 (kR h 34 (fun q22 h=>?_) fun q22 h=>?_)
   ·have q22_:=of_decide_eq_true q22;exact rsT 5<|Ao<|tn_<|jE []
   have q22_:=of_decide_eq_false q22;exact rsT 5<|Ao<|tn_<|jE []
  intro uk h
  (try dsimp only at h);refine kQ h (fun _ h=>?_) fun _ h=>?_
  ·refine skW<|sqF h (fun (ul,ug)=>sT [(0,ai bA),(1,ai bB),(7,oS 0 1 ug.length),(10,an ul),(11,an u3)] [(oi 0 1,.mat 81 (oi 1 1) .int ug),(oi 1 1,.pool 3 .int ug)]) ?_ ?_
   ·intro _ h;refine Ad<|Ae<|sqF h (fun u6=>sT [(0,ai bA),(1,ai bB),(7,oS 0 1 u1.length),(10,an u0),(11,an u3),(12,an u6)] [(oi 0 1,.mat 81 (oi 1 1) .int u1),(oi 1 1,.pool 3 .int u1)]) ?_ ?_
    ·intro _ h;refine Ad<|lpF h (fun ud=>sT [(0,ai bA),(1,ai bB),(7,oS 0 1 u1.length),(10,an u0),(11,an u3),(12,an ud)] [(oi 0 1,.mat 81 (oi 1 1) .int u1),(oi 1 1,.pool 3 .int u1)]) (Ag []) ?_;intro n_ ud c_ h hn27
     (try dsimp only at h);refine Ab<|sqF h (fun um=>sT [(0,ai bA),(1,ai bB),(7,oS 0 1 u1.length),(10,an u0),(11,an u3),(12,an ud),(56,.bool um)] [(oi 0 1,.mat 81 (oi 1 1) .int u1),(oi 1 1,.pool 3 .int u1)]) ?_ ?_
     ·intro _ h;refine Aa 16<|rsT 5 ?_;rcases A5 h with ⟨q30,h⟩|⟨q30,h⟩
      ·have q30_:=of_decide_eq_true q30;refine rq 47 q30<|rsT 2 ?_;have ⟨x31,e31,h⟩:=Ah h;refine zO (oi 0 1) sI u1.length (Ai e31)<|rsl (.own (kid (oi 1 1) ud) .int 0 x31.length) (Ff (o:=oi 0 1) (p:=oi 1 1) (e1:=81) (u:=.int) (xss:=u1) (row:=x31) (j:=ud) kr kr e31)<|rsT 1 ?_;have ⟨x32,e32,h⟩:=Ah h;exact rs0 (.elt (kid (oi 1 1) ud) u3 0) (zo (t:=.int) (o:=kid (oi 1 1) ud) (len:=x31.length) (k:=.i64) (m:=(u3:Int)) (D7 _)<|Ai e32)<|rsl (ai x32) (Hh (i:=kid (oi 1 1) ud) (j:=u3) (k:=0) (e:=3) (t:=.int) (xs:=x31) kr (Bp kr e31) e32 kr)<|rsT 2<|Ao<|tn_<|jE []
      have q30_:=of_decide_eq_false q30;exact rq 47 q30<|rsT 9<|Ao<|tn_<|jE []
     intro um h
     (try dsimp only at h);refine kQ h (fun _ h=>?_) fun _ h=>?_
     ·refine skW<|Ad<|Aa 5<|rsT 1 ?_;have ⟨g34,h⟩:=Aj h;exact zA g34<|rsT 1<|Ao<|bn_<|tn_<|jL []
     refine lxT ?_;have h:=jO h hn27
     (try dsimp only at h);exact jE []
    intro u6 h
    (try dsimp only at h);refine Ab<|Ae (kQ h (fun _ h=>D9<|te_<|be_<|tn_<|jE []) fun _ h=>skW<|Ab<|Aa 11<|rsT 2 ?_);have ⟨x39,e39,h⟩:=Ah h;refine zO (oi 0 1) sI u1.length (Ai e39)<|rsl (.own (kid (oi 1 1) u0) .int 0 x39.length) (Ff (o:=oi 0 1) (p:=oi 1 1) (e1:=81) (u:=.int) (xss:=u1) (row:=x39) (j:=u0) kr kr e39)<|rsT 1<|rnW<|Ab<|Aa 19<|rsT 4 ?_;have ⟨x41,e41,h⟩:=Ah h;refine zO (oi 0 1) sI u1.length (Ai e41) (rsl (.own (kid (oi 1 1) u6) .int 0 x41.length) (Ff (o:=oi 0 1) (p:=oi 1 1) (e1:=81) (u:=.int) (xss:=u1) (row:=x41) (j:=u6) kr kr e41)<|zO (oi 0 1) sI u1.length (Ai e39)<|Al0 (oi 0 1) (oi 0 1) (.vec 81 1 u1.length<|(hdL (oi 1 1) .int u1).set u0<|.own (kid (oi 1 1) u6) .int 0 x41.length) (Aft (o:=oi 0 1) (e1:=81) (m:=u1.length) (cs:=hdL (oi 1 1) .int u1) (v:=.own (kid (oi 1 1) u6) .int 0 x41.length) (j:=u0) kr kr kr rfl (by rw[Dy];exact Ai e39))<|rnW<|Ab<|Aa 24<|rsT 3<|zO (oi 0 1) sI u1.length (Ai e41)<|Al0 (oi 0 1) (oi 0 1) (.vec 81 1 u1.length<|((hdL (oi 1 1) .int u1).set u0<|.own (kid (oi 1 1) u6) .int 0 x41.length).set u6<|.own (kid (oi 1 1) u0) .int 0 x39.length) (Aft (o:=oi 0 1) (e1:=81) (m:=u1.length) (cs:=(hdL (oi 1 1) .int u1).set u0<|.own (kid (oi 1 1) u6) .int 0 x41.length) (v:=.own (kid (oi 1 1) u0) .int 0 x39.length) (j:=u6) kr kr kr rfl (by rw[length_set,Dy];exact Ai e41))<|Ao<|tn_ ⟨_,Add (e1:=81) (e:=3) (u:=.int) (xss:=u1) (i:=u0) (j:=u6) (n:=u1.length) (li:=x39.length) (lj:=x41.length) (ri:=x39) (rj:=x41) 9000 (oi 0 1) (oi 1 1) kr kr rfl kr e39 e41 rfl rfl kr kr,Ab<|Aa 35<|rsT 3 ?_⟩);have ⟨x44,e44,h⟩:=Ah h;refine rs0 (.elt (oi 0 1) u0 0) (zo (t:=sI) (o:=oi 0 1) (len:=u1.length) (k:=.i64) (m:=(u0:Int)) (D7 _)<|Nat.lt_of_lt_of_le (Ai e44)<|Nat.le_of_eq<|Eq.symm<|Eq.trans (b:=u1.length) rfl fS)<|rsl (.own (kid (oi 9000 24) u0) .int 0 x44.length) (Ff (o:=oi 0 1) (p:=oi 9000 24) (e1:=81) (u:=.int) (xss:=(u1.set u0 x41).set u6 x39) (row:=x44) (j:=u0) kr kr e44)<|rsT 1 ?_;have ⟨x45,e45,h⟩:=Ah h;refine rs0 (.elt (kid (oi 9000 24) u0) u3 0) (zo (t:=.int) (o:=kid (oi 9000 24) u0) (len:=x44.length) (k:=.i64) (m:=(u3:Int)) (D7 _)<|Ai e45)<|rsl (ai x45) (Hh (i:=kid (oi 9000 24) u0) (j:=u3) (k:=0) (e:=3) (t:=.int) (xs:=x44) kr (Bp kr e44) e45 kr) (rcH h Ago fun y46 h=>rsT 1<|rnW<|sqF h (fun ue=>sT [(0,ai bA),(1,ai bB),(7,oS 0 1 ue.length),(10,an u0),(11,an u3)] [(oi 0 1,.mat 81 (oi 1 1) .int ue),(oi 1 1,.pool 3 .int ue)]) ?_ ?_)
    ·intro _ h;refine Ab (Aa 41<|rsT 2<|rs0 (.elt (oi 0 1) u0 0) (zo (t:=sI) (o:=oi 0 1) (len:=u1.length) (k:=.i64) (m:=(u0:Int)) (D7 _)<|Nat.lt_of_lt_of_le (Ai e44)<|Nat.le_of_eq<|Eq.symm<|Eq.trans (b:=u1.length) rfl fS)<|rsl (.own (kid (oi 9000 24) u0) .int 0 x44.length) (Ff (o:=oi 0 1) (p:=oi 9000 24) (e1:=81) (u:=.int) (xss:=(u1.set u0 x41).set u6 x39) (row:=x44) (j:=u0) kr kr e44)<|rsT 2<|rnW<|Ad<|lpF h (fun (ua,u8)=>sT [(0,ai bA),(1,ai bB),(7,oS 0 1 u8.length),(10,an u0),(11,an u3),(14,ai y46),(91,an x44.length),(92,an ua)] [(oi 0 1,.mat 81 (oi 1 1) .int u8),(oi 1 1,.pool 3 .int u8)]) ((wL 7 ((Eq.trans (b:=u1.length) rfl fS):u1.length=((u1.set u0 x41).set u6 x39).length)).trans<|Ag [(oi 1 1,oi 9000 24)]) ?_);rintro n_ ⟨ua,u8⟩ c_ h hn49
     (try dsimp only at h);refine Ae<|Ab (kQ h (fun q52 h=>?_) fun q52 h=>?_)
     ·have q52_:=of_decide_eq_true q52;refine skW<|Ab<|Ad<|Ae<|Al 22<|dz0 (oS 0 1 u8.length)<|dz0 (an u0) ?_;have ⟨x55,e55,h⟩:=Ah h;refine dzO (oi 0 1) sI u8.length (Ai e55)<|dsl (.own (kid (oi 1 1) u0) .int 0 x55.length) (Ff (o:=oi 0 1) (p:=oi 1 1) (e1:=81) (u:=.int) (xss:=u8) (row:=x55) (j:=u0) kr kr e55)<|dsT 4<|dzO (oi 0 1) sI u8.length (Ai e55)<|dsl (.own (kid (oi 1 1) u0) .int 0 x55.length) (Ff (o:=oi 0 1) (p:=oi 1 1) (e1:=81) (u:=.int) (xss:=u8) (row:=x55) (j:=u0) kr kr e55)<|dz0 (an ua) ?_;have ⟨x56,e56,h⟩:=Ah h;refine ds0 (.elt (kid (oi 1 1) u0) ua 0) (zo (t:=.int) (o:=kid (oi 1 1) u0) (len:=x55.length) (k:=.i64) (m:=(ua:Int)) (D7 _)<|Ai e56)<|dsl (ai x56) (Hh (i:=kid (oi 1 1) u0) (j:=ua) (k:=0) (e:=3) (t:=.int) (xs:=x55) kr (Af7.trans<|Bp kr e55) e56 kr)<|dz0 (ai y46) (dcH h Wf fun y57 h=>ds0 (.elt (kid (oi 1 1) u0) ua 0) (zo (t:=.int) (o:=kid (oi 1 1) u0) (len:=x55.length) (k:=.i64) (m:=(ua:Int)) (D7 _)<|Ai e56)<|J4 (kid (oi 1 1) u0) (kid (oi 1 1) u0) (.arr 3 .int<|x55.set ua y57) (Ag5 (i:=kid (oi 1 1) u0) (j:=ua) (k:=0) (e:=3) (t:=.int) (xs:=x55) (cs:=[ai y57]) (x1:=y57) kr (Af7.trans<|Bp kr e55) e56 kr kr)<|Ap7 (Ajr (o:=oi 0 1) (p:=oi 1 1) (e1:=81) (e:=3) (u:=.int) (xss:=u8) (k:=u0) (row:=x55) (row':=x55.set ua y57) kr rfl kr e55 length_set)<|Cb (As kr)<|bn_<|tn_<|wr_<|Aa 24 ?_);have ⟨g58,h⟩:=Aj h;refine zA g58<|rsT 1<|Ao<|tn_ ?_;cases h;exact jLw hn49<|(wL 7 ((Eq.trans (b:=u8.length) rfl length_set.symm):u8.length=(u8.set u0<|x55.set ua y57).length)).trans<|Ag []
     have q52_:=of_decide_eq_false q52;refine lxT ?_;have h:=jO h hn49
     (try dsimp only at h);exact jE []
    intro ue h
    (try dsimp only at h);refine sqF h (fun uh=>sT [(0,ai bA),(1,ai bB),(7,oS 0 1 uh.length),(10,an u0),(11,an u3)] [(oi 0 1,.mat 81 (oi 1 1) .int uh),(oi 1 1,.pool 3 .int uh)]) ?_ ?_
    ·intro _ h;refine Ae<|Ad<|lpF h (fun (u2,u9)=>sT [(0,ai bA),(1,ai bB),(7,oS 0 1 u9.length),(10,an u0),(11,an u3),(113,an ue.length),(114,an u2)] [(oi 0 1,.mat 81 (oi 1 1) .int u9),(oi 1 1,.pool 3 .int u9)]) (Ag []) ?_;rintro n_ ⟨u2,u9⟩ c_ h hn61
     (try dsimp only at h);refine Ae<|Ab (kQ h (fun q64 h=>?_) fun q64 h=>?_)
     ·have q64_:=of_decide_eq_true q64;refine skW<|sqF h (fun ui=>sT [(0,ai bA),(1,ai bB),(7,oS 0 1 ui.length),(10,an u0),(11,an u3),(113,an ue.length),(114,an u2)] [(oi 0 1,.mat 81 (oi 1 1) .int ui),(oi 1 1,.pool 3 .int ui)]) ?_ ?_
      ·intro _ h;refine Ad<|Ae<|Ab<|sqF h (fun un=>sT [(0,ai bA),(1,ai bB),(7,oS 0 1 u9.length),(10,an u0),(11,an u3),(16,an u2),(113,an ue.length),(114,an u2),(129,.bool un)] [(oi 0 1,.mat 81 (oi 1 1) .int u9),(oi 1 1,.pool 3 .int u9)]) ?_ ?_
       ·intro _ h;refine Aa 18<|rsT 4 ?_;rcases A5 h with ⟨q69,h⟩|⟨q69,h⟩
        ·exact rq 120 q69<|rsT 9<|Ao<|tn_<|jE []
        refine rq 120 q69<|rsT 2 ?_;have ⟨x70,e70,h⟩:=Ah h;refine zO (oi 0 1) sI u9.length (Ai e70)<|rsl (.own (kid (oi 1 1) u2) .int 0 x70.length) (Ff (o:=oi 0 1) (p:=oi 1 1) (e1:=81) (u:=.int) (xss:=u9) (row:=x70) (j:=u2) kr kr e70)<|rsT 1 ?_;have ⟨x71,e71,h⟩:=Ah h;exact rs0 (.elt (kid (oi 1 1) u2) u3 0) (zo (t:=.int) (o:=kid (oi 1 1) u2) (len:=x70.length) (k:=.i64) (m:=(u3:Int)) (D7 _)<|Ai e71)<|rsl (ai x71) (Hh (i:=kid (oi 1 1) u2) (j:=u3) (k:=0) (e:=3) (t:=.int) (xs:=x70) kr (Bp kr e70) e71 kr)<|rsT 2<|Ao<|tn_<|jE []
       intro un h
       (try dsimp only at h);refine kQ h (fun _ h=>D9<|te_<|be_<|tn_<|jE []) fun _ h=>skW<|Ab<|Aa 10<|rsT 2 ?_
       have ⟨x74,e74,h⟩:=Ah h;refine zO (oi 0 1) sI u9.length (Ai e74)<|rsl (.own (kid (oi 1 1) u2) .int 0 x74.length) (Ff (o:=oi 0 1) (p:=oi 1 1) (e1:=81) (u:=.int) (xss:=u9) (row:=x74) (j:=u2) kr kr e74)<|rsT 1 ?_;have ⟨x75,e75,h⟩:=Ah h;refine rs0 (.elt (kid (oi 1 1) u2) u3 0) (zo (t:=.int) (o:=kid (oi 1 1) u2) (len:=x74.length) (k:=.i64) (m:=(u3:Int)) (D7 _)<|Ai e75)<|rsl (ai x75) (Hh (i:=kid (oi 1 1) u2) (j:=u3) (k:=0) (e:=3) (t:=.int) (xs:=x74) kr (Bp kr e74) e75 kr)<|rsT 1<|rnW<|Ab<|Aa 16<|rsT 2<|zO (oi 0 1) sI u9.length (Ai e74)<|rsl (.own (kid (oi 1 1) u2) .int 0 x74.length) (Ff (o:=oi 0 1) (p:=oi 1 1) (e1:=81) (u:=.int) (xss:=u9) (row:=x74) (j:=u2) kr kr e74)<|rsT 2<|rnW<|Ad<|lpF h (fun (u4,u5)=>sT [(0,ai bA),(1,ai bB),(7,oS 0 1 u5.length),(10,an u0),(11,an u3),(16,an u2),(17,ai x75),(113,an ue.length),(114,an u2),(141,an x74.length),(142,an u4)] [(oi 0 1,.mat 81 (oi 1 1) .int u5),(oi 1 1,.pool 3 .int u5)]) (Ag []) ?_;rintro n_ ⟨u4,u5⟩ c_ h hn77
       (try dsimp only at h);refine Ae<|Ab (kQ h (fun q80 h=>?_) fun q80 h=>?_)
       ·have q80_:=of_decide_eq_true q80;refine skW<|Ab<|Ad<|Ae<|Al 31<|dz0 (oS 0 1 u5.length)<|dz0 (an u2) ?_;have ⟨x83,e83,h⟩:=Ah h;refine dzO (oi 0 1) sI u5.length (Ai e83)<|dsl (.own (kid (oi 1 1) u2) .int 0 x83.length) (Ff (o:=oi 0 1) (p:=oi 1 1) (e1:=81) (u:=.int) (xss:=u5) (row:=x83) (j:=u2) kr kr e83)<|dsT 4<|dzO (oi 0 1) sI u5.length (Ai e83)<|dsl (.own (kid (oi 1 1) u2) .int 0 x83.length) (Ff (o:=oi 0 1) (p:=oi 1 1) (e1:=81) (u:=.int) (xss:=u5) (row:=x83) (j:=u2) kr kr e83)<|dz0 (an u4) ?_;have ⟨x84,e84,h⟩:=Ah h;refine ds0 (.elt (kid (oi 1 1) u2) u4 0) (zo (t:=.int) (o:=kid (oi 1 1) u2) (len:=x83.length) (k:=.i64) (m:=(u4:Int)) (D7 _)<|Ai e84)<|dsl (ai x84) (Hh (i:=kid (oi 1 1) u2) (j:=u4) (k:=0) (e:=3) (t:=.int) (xs:=x83) kr (Af7.trans<|Bp kr e83) e84 kr)<|dz0 (ai bA)<|dz0 (ai x75)<|dz0 (oS 0 1 u5.length)<|dz0 (an u0) ?_;have ⟨x85,e85,h⟩:=Ah h;refine dzO (oi 0 1) sI u5.length (Ai e85)<|dsl (.own (kid (oi 1 1) u0) .int 0 x85.length) (Ff (o:=oi 0 1) (p:=oi 1 1) (e1:=81) (u:=.int) (xss:=u5) (row:=x85) (j:=u0) kr kr e85)<|dz0 (an u4) ?_;have ⟨x86,e86,h⟩:=Ah h;refine ds0 (.elt (kid (oi 1 1) u0) u4 0) (zo (t:=.int) (o:=kid (oi 1 1) u0) (len:=x85.length) (k:=.i64) (m:=(u4:Int)) (D7 _)<|Ai e86)<|dsl (ai x86) (Hh (i:=kid (oi 1 1) u0) (j:=u4) (k:=0) (e:=3) (t:=.int) (xs:=x85) kr (Af7.trans<|Bp kr e85) e86 kr) (dcH h Wf fun y87 h=>dcH h Agd fun y88 h=>ds0 (.elt (kid (oi 1 1) u2) u4 0) (zo (t:=.int) (o:=kid (oi 1 1) u2) (len:=x83.length) (k:=.i64) (m:=(u4:Int)) (D7 _)<|Ai e84)<|J4 (kid (oi 1 1) u2) (kid (oi 1 1) u2) (.arr 3 .int<|x83.set u4 y88) (Ag5 (i:=kid (oi 1 1) u2) (j:=u4) (k:=0) (e:=3) (t:=.int) (xs:=x83) (cs:=[ai y88]) (x1:=y88) kr (Af7.trans<|Bp kr e83) e84 kr kr)<|Ap7 (Ajr (o:=oi 0 1) (p:=oi 1 1) (e1:=81) (e:=3) (u:=.int) (xss:=u5) (k:=u2) (row:=x83) (row':=x83.set u4 y88) kr rfl kr e83 length_set)<|Cb (As kr)<|bn_<|tn_<|wr_<|Aa 33 ?_);have ⟨g89,h⟩:=Aj h;refine zA g89<|rsT 1<|Ao<|tn_ ?_;cases h;exact jLw hn77<|(wL 7 ((Eq.trans (b:=u5.length) rfl length_set.symm):u5.length=(u5.set u2<|x83.set u4 y88).length)).trans<|Ag []
       have q80_:=of_decide_eq_false q80;refine D9<|te_<|te_<|be_<|bn_<|tn_ ?_;have h:=jO h hn77
       (try dsimp only at h);exact jE []
      intro ui h
      (try dsimp only at h);refine Aa 4 ?_;have ⟨g90,h⟩:=Aj h;exact zA g90<|rsT 1<|Ao<|tn_<|jL []
     have q64_:=of_decide_eq_false q64;refine lxT ?_;have h:=jO h hn61
     (try dsimp only at h);exact jE []
    intro uh h
    (try dsimp only at h);refine Aa 5<|rsT 1 ?_;have ⟨g91,h⟩:=Aj h;exact zA g91<|rsT 1<|Ao<|bn_<|tn_<|jE []
   rintro ⟨ul,ug⟩ h
   (try dsimp only at h);refine Aa 5<|rsT 1 ?_;have ⟨g92,h⟩:=Aj h;exact zA g92<|rsT 1<|Ao<|tn_<|jL []
  refine lxT ?_;have h:=jO h hn19
  (try dsimp only at h);exact jE []
 rintro ⟨ub,uc⟩ h
 (try dsimp only at h);refine Ab<|Aa 6<|rsT 2 ?_;have ⟨g94,h⟩:=Aj h;refine rs0 (oS 0 1 ub) (E2 (t:=sI) (i:=oi 0 1) (off:=0) (len:=uc.length) (l:=0) (h:=(ub:Int)) kr kr kr rfl g94 rfl oM)<|rsT 1<|rnW<|Ac ?_;cases h;exact E4 [oS 0 1 ((uc.take ub).length)]<|(An1 (e1:=81) (e:=3) (u:=.int) (xss:=uc) (n:=uc.length) (k:=ub) 9000 (oi 0 1) (oi 1 1) kr kr rfl kr oM kr kr kr).trans<|(Ada 6 (oS 0 1 ub) (oS 0 1<|(uc.take ub).length) kr<|congrArg (fun z_=>((oS 0 1 z_):AV)) ((Apr oM):ub=(uc.take ub).length)).trans<|Ag (tl:=[(6,oS 0 1 (uc.take ub).length)]) (g:=2) [(oi 1 1,oi 9000 6)]
def Ab8(a0 u0:Int)(u1 u2:Int):Option (Ctl (Int×Int×Int) Int):=
 cond (decide (0<u1))
 ((cond ((Int.tmod u1 2)==1)
   (og (a0≠0)<|
   some (Int.tmod (wI (u2*u0)) a0))
   (some u2)).bind fun u3=>
 og (a0≠0)<|
 some (.next (Int.tmod (wI (u0*u0)) a0,wI (Int.tdiv u1 2),u3)))
 (some (.out u2))
def Yq(a0 a1 a2:Int):Option Int:=
 og (a0≠0)<|
(Aq (fun s_:Int×Int×Int=>Ab8 a0 s_.1 s_.2.1 s_.2.2) 4611686018427387904 (a1,a2,Int.tmod 1 a0)).bind fun u0=>
some u0
theorem Agt(h:Yq bA bB bC=some bD):cK 191 [ai bA,ai bB,ai bC] (A8 bD):=by
 refine cO Tryz.func191<|Ae<|Ab<|Aa 5<|rsT 1 ?_;have ⟨g3,h⟩:=Aj h;refine rs0 (ai<|Int.tmod 1 bA) (Q1 (k:=.i64) (a:=1) (b:=bA) kr kr g3)<|rsT 1<|rnW (sqF h (fun u3=>sT [(7,ai u3)] []) ?_ fun u3 h=>Ae<|Ac<|jS h);intro _ h;refine Ad<|lpF h (fun (u0,u1,u2)=>sT [(0,ai bA),(1,ai u0),(2,ai u1),(7,ai u2)] []) (Ag []) ?_;rintro n_ ⟨u0,u1,u2⟩ c_ h hn5;refine Ab<|Ae (kQ h (fun _ h=>skW<|Ab<|Ad<|sqF h (fun u4=>sT [(0,ai bA),(1,ai u0),(2,ai u1),(7,ai u4)] []) ?_ ?_) fun _ h=>lxT (have h:=jO h hn5;jE []))
 ·intro _ h;refine Ab (Aa 7<|rsT 1<|rs0 (ai<|Int.tmod u1 2) (Q1 (k:=.i64) (a:=u1) (b:=2) kr kr (by decide))<|rsT 1<|rnW (kQ h (fun _ h=>Aa 13<|rsT 4 ?_) fun _ h=>Ay<|tn_<|jE []));have ⟨g13,h⟩:=Aj h;exact rs0 (ai<|Int.tmod (wI<|u2*u0) bA) (Q1 (k:=.i64) (a:=wI<|u2*u0) (b:=bA) kr kr g13)<|rsT 1<|Ao<|tn_<|jE []
 intro u4 h;refine Aa 8<|rsT 4 ?_;have ⟨g14,h⟩:=Aj h;exact rs0 (ai<|Int.tmod (wI<|u0*u0) bA) (Q1 (k:=.i64) (a:=wI<|u0*u0) (b:=bA) kr kr g14)<|rsT 1<|Ao<|bn_<|tn_<|wr_<|Aa 11<|rsT 1<|rs0 (ai<|wI<|Int.tdiv u1 2) (Ayi (k:=.i64) (a:=u1) (b:=2) kr kr (by decide))<|rsT 1<|Ao<|tn_<|jL []
def Adh(a0:Bool):Option Int:=
 cond a0
 (some 1)
 (some 0)
theorem Amg(h:Adh cA=some bA):cK 192 [.bool cA] (A8 bA):=by
 exact cO Tryz.func192<|Ae<|Ab<|Ae (kQ h (fun _ h=>Ae<|Ac<|tr_<|jS h) fun _ h=>skW<|Ae<|Ac<|jS h)
def My(a0 a1:Int):Option Int:=
 (Adh (a0==2)).bind fun y3=>
(Yq a0 a1 (wI (wI (a0 - 2)+y3))).bind fun y4=>
some y4
theorem Abw(h:My bA bB=some bC):cK 187 [ai bA,ai bB] (A8 bC):=by
 exact cO Tryz.func187<|Ae<|Ab<|Aa 12<|rsT 6 (rcH h Amg fun y3 h=>rsT 1 (rcH h Agt fun y4 h=>rsT 1<|rnW<|Ac<|jS h))
def De(a3:List Int)(a0 a2:Int)(u0:Nat)(u1:List Int):Option (Ctl (Nat×List Int) (List Int)):=
 cond (decide ((u0:Int)<(a3.length:Int)))
 ((a3[u0]?).bind fun x9=>
 (u1[u0]?).bind fun x10=>
 (Sy a0 (wI (x10+wI (a2*x9)))).bind fun y11=>
 og (u0+1<4611686018427387904)<|
 some (.next (u0+1,u1.set u0 y11)))
 (some (.out u1))
def Cy(a0:Int)(a1:List Int)(a2:Int)(a3:List Int):Option (List Int):=
 Aq (fun s_:Nat×List Int=>De a3 a0 a2 s_.1 s_.2) 4611686018427387904 (0,a1)
theorem Na(h:Cy bA aA bB aB=some aC){n_a1:Nat}(hn_a1:n_a1=aA.length):Ed Tryz.prog Tab 133 [ai bA,oI 0 0 n_a1,ai bB,tI aB] [(oi 0 0,.arr 3 .int aA)] (.tup []) [(oi 0 0,.arr 3 .int aC)]:=by
 refine B8 kr Tryz.func133 (Ck kr) (n:=31) kr fS rfl kr ⟨trivial,trivial⟩ ⟨trivial,trivial⟩<|Ae<|Ad<|lpF h (fun (u1,u0)=>sT [(0,ai bA),(1,oI 0 0 u0.length),(2,ai bB),(10,tI aB),(11,an aB.length),(12,an u1)] [(oi 0 0,.arr 3 .int u0)]) ((wL 1 (hn_a1:n_a1=aA.length)).trans<|Ag []) ?_;rintro n_ ⟨u1,u0⟩ c_ h hn3;refine Ae (Ab (kQ h (fun _ h=>skW<|Ab<|Ad<|Ab<|Aa 8<|rsT 1 (riH .int h fun x9 _ h=>rsT 3<|rnW<|Aa 22<|rsT 5 ?_)) fun _ h=>D9<|te_<|te_<|be_ (have h:=jO h hn3;(by obtain rfl:=osj h;exact E4 []<|Ag (tl:=[]) (g:=2) []))));have ⟨x10,e10,h⟩:=Ah h;refine zO (oi 0 0) .int u0.length (Ai e10)<|zE (oi 0 0) e10<|rsT 4 (rcH h Ama fun y11 h=>zO (oi 0 0) .int u0.length (Ai e10)<|zS (oi 0 0) (y11) e10<|Ao<|bn_<|tn_<|wr_<|Aa 24 (raH h fun h=>rsT 1<|Ao<|tn_ ?_));cases h;exact jLw hn3<|(wL 1 (((rfl:u0.length=u0.length).trans length_set.symm):u0.length=(u0.set u1 y11).length)).trans<|Ag []
def Ha(a0:LL)(u0:Nat)(u1:LL):Option (Ctl (Nat×LL) (LL)):=
 cond (decide ((u0:Int)<(a0.length:Int)))
 ((a0[u0]?).bind fun x13=>
 (Pf x13).bind fun y14=>
 og (u1.length+1<=1073741824/\(u1.length+1)*24<=140737488355328)<|
 og (u0+1<4611686018427387904)<|
 some (.next (u0+1,u1++[y14])))
 (some (.out u1))
def Gj(a0:LL):Option LL:=
 og (0<=(0:Int)/\(0:Int)<=(a0.length:Int)/\(a0.length:Int)<=1073741824/\(24:Int)*(a0.length:Int)<=140737488355328)<|
(Aq (fun s_:Nat×LL=>Ha a0 s_.1 s_.2) 4611686018427387904 (0,replicate 0 ([]:List Int))).bind fun u0=>
some u0
theorem Qb(h:Gj dA=some dB):Ed Tryz.prog Tab 111 [tS dA] [] (oS 0 1 dB.length) [(oi 0 1,.mat 81 (oi 1 1) .int dB),(oi 1 1,.pool 3 .int dB)]:=by
 refine B8 kr Tryz.func111 (Ck kr) (n:=22) kr fS rfl kr trivial ⟨⟨3,.tail _<|.head _⟩,⟨trivial,trivial⟩⟩<|Ae<|Ab<|Aa 6<|rsT 2 ?_;have ⟨g4,h⟩:=Aj h;refine Ai3 (oS 128 4 0) (oi 128 4) 81 3 .int (replicate 0 ([]:List Int)) trivial (Acs (j:=0) (k:=.i64) (k':=.i64) (m:=0) (c:=(dA.length:Int)) 3 kr kr g4 kr rfl) kr (by rw[length_replicate]) kr (rsT 1<|rnW (sqF h (fun u1=>sT [(3,oS 0 1 u1.length)] [(oi 0 1,.mat 81 (oi 1 1) .int u1),(oi 1 1,.pool 3 .int u1)]) ?_ fun u1 h=>Ae<|Ac (by obtain rfl:=osj h;exact E4 [oS 0 1 u1.length]<|Ag (tl:=[(2,oS 0 1 u1.length)]) (g:=2) [])));intro _ h;refine Ae<|Ad<|lpF h (fun (u2,u0)=>sT [(3,oS 0 1 u0.length),(9,tS dA),(10,an dA.length),(11,an u2)] [(oi 0 1,.mat 81 (oi 1 1) .int u0),(oi 1 1,.pool 3 .int u0)]) ((wL 3 (length_replicate.symm:0=(replicate 0 ([]:List Int)).length)).trans<|Ag [(oi 0 1,oi 128 4),(oi 1 1,oi 128 4)]) ?_;rintro n_ ⟨u2,u0⟩ c_ h hn7;refine Ae<|Ab (kQ h (fun _ h=>skW<|Ab<|Ad<|Ab<|Aa 6 (riH sI h fun x13 _ h=>rsT 2<|rnW<|Aa 12<|rsT 2 (rcH h Agf fun y14 h=>Hd (oS 18 9 1) (oi 18 9) (.vec 81 1 1<|[oI 272 8 y14.length]) trivial (Co kr) ?_))) fun _ h=>lxT (have h:=jO h hn7;jE []));have ⟨g15,h⟩:=Aj h;refine rs2 (oS 0 10<|u0.length+1) (oi 0 1) (oi 0 10) (.vec 81 1 (u0.length+1)<|hdL (oi 1 1) .int u0++[oI 272 8 y14.length]) (Iz (u:=.int) (t':=sI) (t2:=sI) (o:=oi 0 1) (q:=oi 18 9) (e2:=81) (p:=oi 1 1) (xss:=u0) (cs:=[oI 272 8 y14.length]) (len:=u0.length) kr kr rfl kr kr rfl g15)<|rsT 1<|Ao<|bn_<|tn_ ⟨_,Ew (e1:=81) (e:=3) (u:=.int) (n:=u0.length+1) (len:=y14.length) (row:=y14) (ys:=y14) (xss:=u0) 9000 (oi 0 10) (oi 1 1) (oi 272 8) kr kr rfl kr kr (Oh rfl) (Ow rfl) kr kr kr,Aa 15 (raH h fun h=>rsT 1<|Ao<|tn_ ?_)⟩;cases h;exact jLw hn7<|(wL 3 (fS:u0.length+1=(u0++[y14]).length)).trans<|Ag [(oi 0 1,oi 0 10),(oi 1 1,oi 9000 12)]
def Ez(x13:List Int)(u2 a1 y11:Int)(u0:Nat)(u1:LL):Option (Ctl (Nat×LL) (LL)):=
 cond (decide ((u0:Int)<(x13.length:Int)))
 ((Bz u1 u2).bind fun x20=>
 og (0<=(u0:Int)/\u0<x13.length)<|
 (x20[u0]?).bind fun x22=>
 og (a1≠0)<|
 og (u0+1<4611686018427387904)<|
 some (.next (u0+1,u1.set u2.toNat (x20.set u0 (Int.tmod (wI (x22*y11)) a1)))))
 (some (.out u1))
def Bm(u2 u0:Int)(u1 u3 a1:Int)(a2:LL):Option LL:=
 cond (u2==0)
 ((Bz a2 u1).bind fun x6=>
 (Bz a2 u0).bind fun x7=>
 some ((a2.set u0.toNat x6).set u1.toNat x7))
 (cond (u2==1)
  ((My a1 u3).bind fun y11=>
  (Bz a2 u0).bind fun x13=>
  Aq (fun s_:Nat×LL=>Ez x13 u0 a1 y11 s_.1 s_.2) 4611686018427387904 (0,a2))
  (cond (u2==2)
   ((Bz a2 u0).bind fun x27=>
   (Bz a2 u1).bind fun x28=>
   og (u0.toNat≠u1.toNat)<|
   (Cy a1 x27 (wI (0 - u3)) x28).bind fun y30=>
   og (y30.length=x27.length)<|
   some (a2.set u0.toNat y30))
   (some a2)))
theorem Ja(h:Bm bA bB bC bD bE dA=some dB){n_a2:Nat}(hn_a2:n_a2=dA.length):Ed Tryz.prog Tab 182 [.agg [ai bA,ai bB,ai bC,ai bD],ai bE,oS 0 0 n_a2] [(oi 0 0,.mat 81 (oi 1 0) .int dA),(oi 1 0,.pool 3 .int dA)] (.tup []) [(oi 0 0,.mat 81 (oi 0 1) .int dB),(oi 0 1,.pool 3 .int dB)]:=by
 refine B8 kr Tryz.func182 (Ck kr) (n:=78) kr fS rfl kr ⟨⟨3,.tail _<|.head _⟩,⟨trivial,trivial⟩⟩ ⟨⟨3,.tail _<|.head _⟩,⟨trivial,trivial⟩⟩<|Ae<|Ae<|Ad<|Ae (kQ h (fun _ h=>?_) fun _ h=>?_)
 ·refine Al 26<|dsT 9 ?_;have ⟨x6,f6,h⟩:=Ah h;have ⟨p6,b6,e6⟩:=Ar f6;refine ds0 (.elt (oi 0 0) bC.toNat 0) (zo (t:=sI) (o:=oi 0 0) (len:=n_a2) (k:=.i64) (m:=bC) p6<|Nat.lt_of_lt_of_le (Ai e6)<|Nat.le_of_eq<|Eq.symm hn_a2)<|dsl (.own (kid (oi 1 0) bC.toNat) .int 0 x6.length) (Ff (o:=oi 0 0) (p:=oi 1 0) (e1:=81) (u:=.int) (xss:=dA) (row:=x6) (j:=bC.toNat) kr kr e6)<|dz0 (oS 0 0 n_a2)<|dz0 (.box (oi 3 1) 1)<|dzl (ai bB) ?_;have ⟨x7,f7,h⟩:=Ah h;have ⟨p7,b7,e7⟩:=Ar f7;refine ds0 (.elt (oi 0 0) bB.toNat 0) (zo (t:=sI) (o:=oi 0 0) (len:=n_a2) (k:=.i64) (m:=bB) p7<|Nat.lt_of_lt_of_le (Ai e7)<|Nat.le_of_eq<|Eq.symm hn_a2) (dsl (.own (kid (oi 1 0) bB.toNat) .int 0 x7.length) (Ff (o:=oi 0 0) (p:=oi 1 0) (e1:=81) (u:=.int) (xss:=dA) (row:=x7) (j:=bB.toNat) kr kr e7)<|ds0 (.elt (oi 0 0) bB.toNat 0) (zo (t:=sI) (o:=oi 0 0) (len:=n_a2) (k:=.i64) (m:=bB) p7<|Nat.lt_of_lt_of_le (Ai e7)<|Nat.le_of_eq<|Eq.symm hn_a2)<|J4 (oi 0 0) (oi 0 0) (.vec 81 1 n_a2<|(hdL (oi 1 0) .int dA).set bB.toNat<|.own (kid (oi 1 0) bC.toNat) .int 0 x6.length) (Aft (o:=oi 0 0) (e1:=81) (m:=n_a2) (cs:=hdL (oi 1 0) .int dA) (v:=.own (kid (oi 1 0) bC.toNat) .int 0 x6.length) (j:=bB.toNat) kr (A00 kr hn_a2) kr rfl (by rw[Dy];exact Ai e7))<|ds0 (.elt (oi 0 0) bC.toNat 0) (zo (t:=sI) (o:=oi 0 0) (len:=n_a2) (k:=.i64) (m:=bC) p6<|Nat.lt_of_lt_of_le (Ai e6)<|Nat.le_of_eq<|Eq.symm hn_a2)<|J4 (oi 0 0) (oi 0 0) (.vec 81 1 n_a2<|((hdL (oi 1 0) .int dA).set bB.toNat<|.own (kid (oi 1 0) bC.toNat) .int 0 x6.length).set bC.toNat<|.own (kid (oi 1 0) bB.toNat) .int 0 x7.length) (Aft (o:=oi 0 0) (e1:=81) (m:=n_a2) (cs:=(hdL (oi 1 0) .int dA).set bB.toNat<|.own (kid (oi 1 0) bC.toNat) .int 0 x6.length) (v:=.own (kid (oi 1 0) bB.toNat) .int 0 x7.length) (j:=bC.toNat) kr kr kr rfl (by rw[length_set,Dy];exact Ai e6))<|Cb (As kr)<|bn_ ?_);cases h;exact E4 []<|(Add (e1:=81) (e:=3) (u:=.int) (xss:=dA) (i:=bB.toNat) (j:=bC.toNat) (n:=n_a2) (li:=x7.length) (lj:=x6.length) (ri:=x7) (rj:=x6) 9000 (oi 0 0) (oi 1 0) kr kr hn_a2 kr e7 e6 rfl rfl kr kr).trans<|Ag (tl:=[]) (g:=2) [(oi 0 1,oi 9000 26)]
 refine Ae (kQ h (fun _ h=>?_) fun _ h=>?_)
 ·refine Ab<|Aa 13<|rsT 3 (rcH h Abw fun y11 h=>rsT 1<|rnW<|Ab<|Aa 20<|rsT 3 ?_);have ⟨x13,f13,h⟩:=Ah h;have ⟨p13,b13,e13⟩:=Ar f13;refine rs0 (.elt (oi 0 0) bB.toNat 0) (zo (t:=sI) (o:=oi 0 0) (len:=n_a2) (k:=.i64) (m:=bB) p13<|Nat.lt_of_lt_of_le (Ai e13)<|Nat.le_of_eq<|Eq.symm hn_a2)<|rsl (.own (kid (oi 1 0) bB.toNat) .int 0 x13.length) (Ff (o:=oi 0 0) (p:=oi 1 0) (e1:=81) (u:=.int) (xss:=dA) (row:=x13) (j:=bB.toNat) kr kr e13)<|rsT 2<|rnW<|Ad<|lpF h (fun (u2,u3)=>sT [(1,ai bE),(2,oS 0 0 u3.length),(3,.box (oi 1 1) 0),(6,ai y11),(41,.own (kid (oi 0 1) bB.toNat) .int 0 x13.length),(42,an x13.length),(43,an u2)] [(oi 0 0,.mat 81 (oi 0 1) .int u3),(oi 0 1,.pool 3 .int u3),(oi 1 1,.cells 192 [ai bA,ai bB,ai bC,ai bD])]) ((wL 2 (hn_a2:n_a2=dA.length)).trans<|Ag [(oi 0 1,oi 1 0),(oi 1 1,oi 3 1)]) ?_;rintro n_ ⟨u2,u3⟩ c_ h hn14;refine Ae (Ab (kQ h (fun _ h=>skW<|Ab<|Ad<|Ab<|Aa 8<|rsT 1 ?_) fun _ h=>D9<|te_<|te_<|be_<|bn_ (have h:=jO h hn14;(by obtain rfl:=osj h;exact E4 []<|Ag (tl:=[]) (g:=2) []))));have ⟨x20,f20,h⟩:=Ah h;have ⟨p20,b20,e20⟩:=Ar f20;have ⟨g21,h⟩:=Aj h;refine rs0 (.elt (kid (oi 0 1) bB.toNat) u2 0) (A0a (t:=.int) (o:=kid (oi 0 1) bB.toNat) (off:=0) (len:=x13.length) (k:=.i64) (m:=(u2:Int)) kr kr rfl g21.1 (fE _) g21.2) ?_;have ⟨x22,e22,h⟩:=Ah h;refine rsl (ai x22) (Hh (i:=kid (oi 0 1) bB.toNat) (j:=u2) (k:=0) (e:=3) (t:=.int) (xs:=x20) kr (Bp kr e20) e22 kr)<|rsT 2<|rnW<|Al 21<|dz0 (oS 0 0 u3.length)<|dz0 (.box (oi 1 1) 1)<|dzl (ai bB)<|ds0 (.elt (oi 0 0) bB.toNat 0) (zo (t:=sI) (o:=oi 0 0) (len:=u3.length) (k:=.i64) (m:=bB) p20<|Ai e20)<|dsl (.own (kid (oi 0 1) bB.toNat) .int 0 x20.length) (Ff (o:=oi 0 0) (p:=oi 0 1) (e1:=81) (u:=.int) (xss:=u3) (row:=x20) (j:=bB.toNat) kr kr e20)<|dsT 5 ?_;have ⟨g23,h⟩:=Aj h;refine ds0 (ai<|Int.tmod (wI<|x22*y11) bE) (Q1 (k:=.i64) (a:=wI<|x22*y11) (b:=bE) kr kr g23)<|ds0 (.elt (kid (oi 0 1) bB.toNat) u2 0) (zo (t:=.int) (o:=kid (oi 0 1) bB.toNat) (len:=x20.length) (k:=.i64) (m:=(u2:Int)) (D7 _)<|Ai e22)<|J4 (kid (oi 0 1) bB.toNat) (kid (oi 0 1) bB.toNat) (.arr 3 .int<|x20.set u2<|Int.tmod (wI<|x22*y11) bE) (Ag5 (i:=kid (oi 0 1) bB.toNat) (j:=u2) (k:=0) (e:=3) (t:=.int) (xs:=x20) (cs:=[ai (Int.tmod (wI<|x22*y11) bE)]) (x1:=Int.tmod (wI<|x22*y11) bE) kr (Af7.trans<|Bp kr e20) e22 kr kr)<|Ap7 (Ajr (o:=oi 0 0) (p:=oi 0 1) (e1:=81) (e:=3) (u:=.int) (xss:=u3) (k:=bB.toNat) (row:=x20) (row':=x20.set u2<|Int.tmod (wI<|x22*y11) bE) kr rfl kr e20 length_set)<|Cb (As kr)<|bn_<|tn_<|wr_<|Aa 23 (raH h fun h=>rsT 1<|Ao<|tn_ ?_);cases h;exact jLw hn14<|(wL 2 ((Eq.trans (b:=u3.length) rfl length_set.symm):u3.length=(u3.set bB.toNat<|x20.set u2<|Int.tmod (wI<|x22*y11) bE).length)).trans<|Ag []
 refine Ae (kQ h (fun _ h=>Al 25<|dz0 (ai bE)<|dz0 (oS 0 0 n_a2)<|dz0 (.box (oi 3 1) 1)<|dzl (ai bB) ?_) fun _ h=>Ay<|bn_ (by obtain rfl:=osj h;exact E4 []<|Ag (tl:=[]) (g:=2) [(oi 0 1,oi 1 0)]));have ⟨x27,f27,h⟩:=Ah h;have ⟨p27,b27,e27⟩:=Ar f27;refine ds0 (.elt (oi 0 0) bB.toNat 0) (zo (t:=sI) (o:=oi 0 0) (len:=n_a2) (k:=.i64) (m:=bB) p27<|Nat.lt_of_lt_of_le (Ai e27)<|Nat.le_of_eq<|Eq.symm hn_a2)<|dsl (.own (kid (oi 1 0) bB.toNat) .int 0 x27.length) (Ff (o:=oi 0 0) (p:=oi 1 0) (e1:=81) (u:=.int) (xss:=dA) (row:=x27) (j:=bB.toNat) kr kr e27)<|dsT 6 ?_;have ⟨x28,f28,h⟩:=Ah h;have ⟨p28,b28,e28⟩:=Ar f28;refine ds0 (.elt (oi 0 0) bC.toNat 0) (zo (t:=sI) (o:=oi 0 0) (len:=n_a2) (k:=.i64) (m:=bC) p28<|Nat.lt_of_lt_of_le (Ai e28)<|Nat.le_of_eq<|Eq.symm hn_a2)<|dsl (.own (kid (oi 1 0) bC.toNat) .int 0 x28.length) (Ff (o:=oi 0 0) (p:=oi 1 0) (e1:=81) (u:=.int) (xss:=dA) (row:=x28) (j:=bC.toNat) kr kr e28) ?_;have ⟨g29,h⟩:=Aj h;have ⟨y30,h30,h⟩:=Ah h;refine Auf (.tup []) [(kid (oi 1 0) bB.toNat,some<|.arr 3 .int y30),(kid (oi 1 0) bB.toNat,none)] [(oi 0 0,kid (oi 1 0) bB.toNat)] [ai bE,.own (kid (oi 1 0) bB.toNat) .int 0 x27.length,ai<|wI<|0 - bD,.own (kid (oi 1 0) bC.toNat) .int 0 x28.length] (caps:=[]) trivial (Na h30 rfl) kr ⟨Ars kr e27,trivial⟩ (.cons (.ren kr)<|.cons (.ren kr)<|.cons (.ren kr)<|.cons (.gnd kr<|G9 (e:=3) (u:=.int) (xs:=x28) ((Ax5 (L:=[kid (oi 1 0) bB.toNat]) kr ⟨Azt g29,trivial⟩).trans<|(K9<|Rr (t:=.int) (off:=0) (len:=x28.length) 3 rfl kr).trans<|Bp kr e28) rfl) .nil) (Bb kr kr ⟨.arg (by simp[AV.nmsL,AV.nms,Bl]),trivial⟩) (Az2 (Rr (t:=.int) (off:=0) (len:=x27.length) 1 rfl kr) Ay0) ?_;have ⟨g31,h⟩:=Aj h;refine Ap7 (Ajr (o:=oi 0 0) (p:=oi 1 0) (e1:=81) (e:=3) (u:=.int) (xss:=dA) (k:=bB.toNat) (row:=x27) (row':=y30) kr rfl kr e27 g31)<|Cb (As kr)<|bn_ ?_;cases h;exact E4 []<|Ag (tl:=[]) (g:=2) [(oi 0 1,oi 1 0)]
def Pw:AC:=
 (.seq (rg [xo 4 (.i (.box 192 (tm 0)))])
 (.seq (.seq (rg [xo 5 (.i (.ld false 4 (tm 4))),xf 6 1 4,xl 7 6,xf 8 1 4,xl 9 8,xo 10 (.build [.int .i64 0,.int .i64 0,.int .i64 0,.int .i64 0] [(0,1,ci 0),(1,1,tm 7),(2,1,tm 9)]),xo 11 (.i (.cmp false 7 (tm 5) (tm 10)))])
 (.cond (tm 11)
  .ret
  .skip))
 (.seq (rg [xo 12 (.i (.ld false 4 (tm 4))),xl 13 1,xl 14 2,xo 15 (qc 182 [tm 12,tm 13,tm 14] [[none,none,none,none],[],[some sI]])])
 (rg [xo 16 (.i (.ld false 4 (tm 4))),xl 17 1,xl 18 3,xo 19 (qc 182 [tm 16,tm 17,tm 18] [[none,none,none,none],[],[some sI]])]))))
def W4:List Res:=[]
theorem Xc:C2 Tryz.prog Tryz.f181=some (Pw,W4):=by kernel_rfl
def B7(u1 u0:Int)(u2 u3 u6:Int)(u4 u5:LL):Option (LL×LL):=
 cond ([u1,u0,u2,u3]==[0,u0,u0,0])
 (some (u4,u5))
 ((Bm u1 u0 u2 u3 u6 u4).bind fun y7=>
 og (y7.length=u4.length)<|
 (Bm u1 u0 u2 u3 u6 u5).bind fun y9=>
 og (y9.length=u5.length)<|
 some (y7,y9))
theorem Km(h:B7 bA bB bC bD bE dA dB=some eA):Ed Tryz.prog Tab 181 [.agg [ai bA,ai bB,ai bC,ai bD],.box (oi 0 0) 0,.box (oi 1 0) 0,.box (oi 4 0) 0] [(oi 0 0,.cells 3 [ai bE]),(oi 1 0,.cells 28 [oS 2 0 dA.length]),(oi 2 0,.mat 81 (oi 3 0) .int dA),(oi 3 0,.pool 3 .int dA),(oi 4 0,.cells 28 [oS 5 0 dB.length]),(oi 5 0,.mat 81 (oi 6 0) .int dB),(oi 6 0,.pool 3 .int dB)] (.tup []) [(oi 0 0,.cells 3 [ai bE]),(oi 1 0,.cells 28 [oS 2 0 eA.1.length]),(oi 2 0,.mat 81 (oi 0 1) .int eA.1),(oi 0 1,.pool 3 .int eA.1),(oi 4 0,.cells 28 [oS 5 0 eA.2.length]),(oi 5 0,.mat 81 (oi 1 1) .int eA.2),(oi 1 1,.pool 3 .int eA.2)]:=by
 refine B8 kr Tryz.func181 Xc (n:=20) kr fS rfl kr ⟨trivial,⟨trivial,⟨⟨3,.tail _<|.tail _<|.tail _<|.head _⟩,⟨trivial,⟨trivial,⟨⟨3,.tail _<|.tail _<|.tail _<|.tail _<|.tail _<|.tail _<|.head _⟩,⟨trivial,trivial⟩⟩⟩⟩⟩⟩⟩ ⟨trivial,⟨trivial,⟨⟨3,.tail _<|.tail _<|.tail _<|.head _⟩,⟨trivial,⟨trivial,⟨⟨3,.tail _<|.tail _<|.tail _<|.tail _<|.tail _<|.tail _<|.head _⟩,⟨trivial,trivial⟩⟩⟩⟩⟩⟩⟩ ?_;unfold Pw;refine Ae (Ab<|Ae (kQ h (fun _ h=>Ac<|tr_ (by obtain rfl:=osj h;exact E4 []<|Ag (tl:=[]) (g:=2) [(oi 0 1,oi 3 0),(oi 1 1,oi 6 0)])) fun _ h=>skW<|Ab<|Aa 13<|rsT 3 (rcM h [(oi 0 0,oi 2 0),(oi 1 0,oi 3 0)] [.agg [ai bA,ai bB,ai bC,ai bD],ai bE,oS 2 0 dA.length] (fun h=>Ja h rfl) ⟨kr,⟨kr,trivial⟩⟩ (aR kr) (Bb kr kr ⟨Cw kr,⟨K0 (o:=oi 2 0) (p:=oi 3 0) (e1:=81) (m:=dA.length) (u:=.int) (xss:=dA) (Cw kr) kr,trivial⟩⟩) fun y7 h=>rnW<|Aa 17<|rsT 3 ?_)));have ⟨g8,h⟩:=Aj h;have ⟨y9,h9,h⟩:=Ah h;refine Aab (.tup []) [(oi 5 0,some<|.mat 81 (oi 304 16) .int y9),(oi 304 16,some<|.pool 3 .int y9),(oi 5 0,none),(oi 6 0,some<|.pool 3 .int [])] [(oi 0 0,oi 5 0),(oi 1 0,oi 6 0)] [.agg [ai bA,ai bB,ai bC,ai bD],ai bE,oS 5 0 dB.length] (caps:=[]) trivial (Ja h9 rfl) kr ⟨kr,⟨kr,trivial⟩⟩ (.cons (.ren kr)<|.cons (.ren kr)<|.cons (.ren kr) .nil) (Bb kr kr ⟨Cw kr,⟨K0 (o:=oi 5 0) (p:=oi 6 0) (e1:=81) (m:=dB.length) (u:=.int) (xss:=dB) (Cw kr) kr,trivial⟩⟩)<|Ao ?_;have ⟨g10,h⟩:=Aj h;cases h;exact E4 []<|(Vi (oi 1 0) (.cells 28 [oS 2 0 dA.length]) (.cells 28 [oS 2 0 y7.length]) kr<|congrArg (fun z_=>(.cells 28 [oS 2 0 z_]:Ob)) (g8.symm:dA.length=y7.length)).trans<|(Vi (oi 4 0) (.cells 28 [oS 5 0 dB.length]) (.cells 28 [oS 5 0 y9.length]) kr<|congrArg (fun z_=>(.cells 28 [oS 5 0 z_]:Ob)) (g10.symm:dB.length=y9.length)).trans<|Ag (tl:=[]) (g:=2) [(oi 0 1,oi 240 12),(oi 1 1,oi 304 16)]
def E3(l7_p0:LL)(u1 u0:Nat):Option (Ctl Nat Nat):=
 (cond (decide ((u0:Int)<(l7_p0.length:Int)))
  ((l7_p0[u0]?).bind fun x19=>
  (x19[u1]?).bind fun x20=>
  some (x20==0))
  (some false)).bind fun u2=>
cond u2
 (og (u0+1<4611686018427387904)<|
 some (.next (u0+1)))
 (some (.out u0))
def Gp(y31:LL×LL)(u1 u2:Nat)(a0:Int)(u0:Nat)(l34_p0 l34_p2:LL):Option (Ctl (Nat×LL×LL) (LL×LL)):=
 cond (decide ((u0:Int)<(y31.1.length:Int)))
 (((cond ((u0:Int) !=(u1:Int))
       ((l34_p0[u0]?).bind fun x42=>
       (x42[u2]?).bind fun x43=>
       some (x43 !=0))
       (some false)).bind fun u3=>
  cond u3
   ((l34_p0[u0]?).bind fun x45=>
   (x45[u2]?).bind fun x46=>
   (B7 2 (u0:Int) (u1:Int) x46 a0 l34_p0 l34_p2).bind fun y47=>
   some (y47.1,y47.2))
   (some (l34_p0,l34_p2))).bind fun (l38_p0,l38_p2)=>
 og (u0+1<4611686018427387904)<|
 some (.next (u0+1,l38_p0,l38_p2)))
 (some (.out (l34_p0,l34_p2)))
def Dz(a2 a0:Int)(u0 u1:Nat)(l7_p0 l7_p2:LL):Option (Ctl (Nat×Nat×LL×LL) (Nat×LL×LL)):=
 (cond (decide ((u1:Int)<a2))
  (some (decide ((u0:Int)<(l7_p0.length:Int))))
  (some false)).bind fun u3=>
cond u3
 (((Aq (fun s_:Nat=>E3 l7_p0 u1 s_) 4611686018427387904 u0).bind fun u2=>
  cond ((u2:Int)==(l7_p0.length:Int))
   (some (u0,l7_p0,l7_p2))
   ((B7 0 (u0:Int) (u2:Int) 0 a0 l7_p0 l7_p2).bind fun y27=>
   (y27.1[u0]?).bind fun x29=>
   (x29[u1]?).bind fun x30=>
   (B7 1 (u0:Int) 0 x30 a0 y27.1 y27.2).bind fun y31=>
   (Aq (fun s_:Nat×LL×LL=>Gp y31 u0 u1 a0 s_.1 s_.2.1 s_.2.2) 4611686018427387904 (0,y31.1,y31.2)).bind fun (l32_p0,l32_p2)=>
   og (u0+1<4611686018427387904)<|
   some (u0+1,l32_p0,l32_p2))).bind fun (u4,l12_p0,l12_p2)=>
 og (u1+1<4611686018427387904)<|
 some (.next (u4,u1+1,l12_p0,l12_p2)))
 (some (.out (u0,l7_p0,l7_p2)))
def Gx(a0:Int)(a1:LL)(a2:Int)(a3:LL):Option (LL×LL×Nat):=
 (Aq (fun s_:Nat×Nat×LL×LL=>Dz a2 a0 s_.1 s_.2.1 s_.2.2.1 s_.2.2.2) 4611686018427387904 (0,0,a1,a3)).bind fun (u0,l5_p0,l5_p2)=>
some (l5_p0,l5_p2,u0)
theorem Qx(h:Gx bA dA bB dB=some fA){n_a1:Nat}(hn_a1:n_a1=dA.length){n_a3:Nat}(hn_a3:n_a3=dB.length):Ed Tryz.prog Tab 167 [ai bA,oS 0 0 n_a1,ai bB,oS 2 0 n_a3] [(oi 0 0,.mat 81 (oi 1 0) .int dA),(oi 1 0,.pool 3 .int dA),(oi 2 0,.mat 81 (oi 3 0) .int dB),(oi 3 0,.pool 3 .int dB)] (an fA.2.2) [(oi 0 0,.mat 81 (oi 0 1) .int fA.1),(oi 0 1,.pool 3 .int fA.1),(oi 2 0,.mat 81 (oi 1 1) .int fA.2.1),(oi 1 1,.pool 3 .int fA.2.1)]:=by
 refine B8 kr Tryz.func167 (Ck kr) (n:=97) kr fS rfl kr ⟨⟨3,.tail _<|.head _⟩,⟨trivial,⟨⟨3,.tail _<|.tail _<|.tail _<|.head _⟩,⟨trivial,trivial⟩⟩⟩⟩ ⟨⟨3,.tail _<|.head _⟩,⟨trivial,⟨⟨3,.tail _<|.tail _<|.tail _<|.head _⟩,⟨trivial,trivial⟩⟩⟩⟩<|Ae<|Ae<|Ae<|sqF h (fun (u4,l5_p0,l5_p2)=>sT [(9,an u4)] [(oi 0 0,.mat 81 (oi 0 1) .int l5_p0),(oi 0 1,.pool 3 .int l5_p0),(oi 2 0,.mat 81 (oi 1 1) .int l5_p2),(oi 1 1,.pool 3 .int l5_p2)]) ?_ ?_
 ·intro _ h;refine Ae<|Ad<|lpF h (fun (u1,u0,l7_p0,l7_p2)=>sT [(2,ai bB),(5,.box (oi 0 1) 0),(9,an u1),(10,.fn 181 [.box (oi 1 1) 0,.box (oi 0 1) 0,.box (oi 2 1) 0]),(11,an u0)] [(oi 0 1,.cells 28 [oS 0 0 l7_p0.length]),(oi 1 1,.cells 3 [ai bA]),(oi 2 1,.cells 28 [oS 2 0 l7_p2.length]),(oi 0 0,.mat 81 (oi 3 1) .int l7_p0),(oi 3 1,.pool 3 .int l7_p0),(oi 2 0,.mat 81 (oi 4 1) .int l7_p2),(oi 4 1,.pool 3 .int l7_p2)]) ((Vi (oi 5 2) (.cells 28 [oS 0 0 n_a1]) (.cells 28 [oS 0 0 dA.length]) kr<|congrArg (fun z_=>(.cells 28 [oS 0 0 z_]:Ob)) (hn_a1:n_a1=dA.length)).trans<|(Vi (oi 7 3) (.cells 28 [oS 2 0 n_a3]) (.cells 28 [oS 2 0 dB.length]) kr<|congrArg (fun z_=>(.cells 28 [oS 2 0 z_]:Ob)) (hn_a3:n_a3=dB.length)).trans<|Ag [(oi 0 1,oi 5 2),(oi 3 1,oi 1 0),(oi 1 1,oi 4 1),(oi 2 1,oi 7 3),(oi 4 1,oi 3 0)]) ?_;rintro n_ ⟨u1,u0,l7_p0,l7_p2⟩ c_ h hn7;refine Ab<|sqF h (fun u6=>sT [(2,ai bB),(5,.box (oi 0 1) 0),(9,an u1),(10,.fn 181 [.box (oi 1 1) 0,.box (oi 0 1) 0,.box (oi 2 1) 0]),(11,an u0),(23,.bool u6)] [(oi 0 1,.cells 28 [oS 0 0 l7_p0.length]),(oi 1 1,.cells 3 [ai bA]),(oi 2 1,.cells 28 [oS 2 0 l7_p2.length]),(oi 0 0,.mat 81 (oi 3 1) .int l7_p0),(oi 3 1,.pool 3 .int l7_p0),(oi 2 0,.mat 81 (oi 4 1) .int l7_p2),(oi 4 1,.pool 3 .int l7_p2)]) (fun _ h=>Aa 11<|rsT 4 (kR h 18 (fun _ h=>rsT 5<|Ao<|tn_<|jE []) fun _ h=>rsT 5<|Ao<|tn_<|jE [])) ?_;intro u6 h;refine kQ h (fun _ h=>skW<|sqF h (fun (u7,l12_p0,l12_p2)=>sT [(2,ai bB),(5,.box (oi 0 1) 0),(9,an u7),(10,.fn 181 [.box (oi 1 1) 0,.box (oi 0 1) 0,.box (oi 2 1) 0]),(11,an u0)] [(oi 0 1,.cells 28 [oS 0 0 l12_p0.length]),(oi 1 1,.cells 3 [ai bA]),(oi 2 1,.cells 28 [oS 2 0 l12_p2.length]),(oi 0 0,.mat 81 (oi 3 1) .int l12_p0),(oi 3 1,.pool 3 .int l12_p0),(oi 2 0,.mat 81 (oi 4 1) .int l12_p2),(oi 4 1,.pool 3 .int l12_p2)]) ?_ ?_) fun _ h=>lxT (have h:=jO h hn7;jE [(oi 0 1,oi 3 1),(oi 1 1,oi 4 1)])
  ·intro _ h;refine Ad<|Ae<|sqF h (fun u5=>sT [(2,ai bB),(5,.box (oi 0 1) 0),(9,an u1),(10,.fn 181 [.box (oi 1 1) 0,.box (oi 0 1) 0,.box (oi 2 1) 0]),(11,an u0),(12,an u5)] [(oi 0 1,.cells 28 [oS 0 0 l7_p0.length]),(oi 1 1,.cells 3 [ai bA]),(oi 2 1,.cells 28 [oS 2 0 l7_p2.length]),(oi 0 0,.mat 81 (oi 3 1) .int l7_p0),(oi 3 1,.pool 3 .int l7_p0),(oi 2 0,.mat 81 (oi 4 1) .int l7_p2),(oi 4 1,.pool 3 .int l7_p2)]) ?_ ?_
   ·intro _ h;refine Ad<|lpF h (fun u3=>sT [(2,ai bB),(5,.box (oi 0 1) 0),(9,an u1),(10,.fn 181 [.box (oi 1 1) 0,.box (oi 0 1) 0,.box (oi 2 1) 0]),(11,an u0),(12,an u3)] [(oi 0 1,.cells 28 [oS 0 0 l7_p0.length]),(oi 1 1,.cells 3 [ai bA]),(oi 2 1,.cells 28 [oS 2 0 l7_p2.length]),(oi 0 0,.mat 81 (oi 3 1) .int l7_p0),(oi 3 1,.pool 3 .int l7_p0),(oi 2 0,.mat 81 (oi 4 1) .int l7_p2),(oi 4 1,.pool 3 .int l7_p2)]) (Ag []) ?_;intro n_ u3 c_ h hn15;refine Ab (sqF h (fun u8=>sT [(2,ai bB),(5,.box (oi 0 1) 0),(9,an u1),(10,.fn 181 [.box (oi 1 1) 0,.box (oi 0 1) 0,.box (oi 2 1) 0]),(11,an u0),(12,an u3),(40,.bool u8)] [(oi 0 1,.cells 28 [oS 0 0 l7_p0.length]),(oi 1 1,.cells 3 [ai bA]),(oi 2 1,.cells 28 [oS 2 0 l7_p2.length]),(oi 0 0,.mat 81 (oi 3 1) .int l7_p0),(oi 3 1,.pool 3 .int l7_p0),(oi 2 0,.mat 81 (oi 4 1) .int l7_p2),(oi 4 1,.pool 3 .int l7_p2)]) ?_ fun u8 h=>kQ h (fun _ h=>skW<|Ad<|Aa 5<|rsT 1 (raH h fun h=>rsT 1<|Ao<|bn_<|tn_<|jL [])) fun _ h=>lxT (have h:=jO h hn15;jE []));intro _ h;refine Aa 16<|rsT 5 ?_;rcases A5 h with ⟨q18,h⟩|⟨q18,h⟩
    ·refine rq 31 q18<|rsT 2 ?_;have ⟨x19,e19,h⟩:=Ah h;refine zO (oi 0 0) sI l7_p0.length (Ai e19)<|rsl (.own (kid (oi 3 1) u3) .int 0 x19.length) (Ff (o:=oi 0 0) (p:=oi 3 1) (e1:=81) (u:=.int) (xss:=l7_p0) (row:=x19) (j:=u3) kr kr e19)<|rsT 1 ?_;have ⟨x20,e20,h⟩:=Ah h;exact rs0 (.elt (kid (oi 3 1) u3) u0 0) (zo (t:=.int) (o:=kid (oi 3 1) u3) (len:=x19.length) (k:=.i64) (m:=(u0:Int)) (D7 _)<|Ai e20)<|rsl (ai x20) (Hh (i:=kid (oi 3 1) u3) (j:=u0) (k:=0) (e:=3) (t:=.int) (xs:=x19) kr (Bp kr e19) e20 kr)<|rsT 2<|Ao<|tn_<|jE []
    exact rq 31 q18<|rsT 9<|Ao<|tn_<|jE []
   intro u5 h;refine Ab<|Ae (kQ h (fun _ h=>D9<|te_<|be_<|tn_<|jE []) fun _ h=>skW<|Ab<|Aa 11<|rsT 4 ?_);have ⟨y27,h27,h⟩:=Ah h;refine Aab (.tup []) [(oi 1 1,some<|.cells 3 [ai bA]),(oi 0 1,some<|.cells 28 [oS 0 0 y27.1.length]),(oi 0 0,some<|.mat 81 (oi 816 10) .int y27.1),(oi 816 10,some<|.pool 3 .int y27.1),(oi 2 1,some<|.cells 28 [oS 2 0 y27.2.length]),(oi 2 0,some<|.mat 81 (oi 817 10) .int y27.2),(oi 817 10,some<|.pool 3 .int y27.2),(oi 1 1,none),(oi 0 1,none),(oi 0 0,none),(oi 3 1,some<|.pool 3 .int []),(oi 2 1,none),(oi 2 0,none),(oi 4 1,some<|.pool 3 .int [])] [(oi 0 0,oi 1 1),(oi 1 0,oi 0 1),(oi 2 0,oi 0 0),(oi 3 0,oi 3 1),(oi 4 0,oi 2 1),(oi 5 0,oi 2 0),(oi 6 0,oi 4 1)] [.agg [ai 0,an u1,an u5,ai 0],.box (oi 1 1) 0,.box (oi 0 1) 0,.box (oi 2 1) 0] (caps:=[.box (oi 1 1) 0,.box (oi 0 1) 0,.box (oi 2 1) 0]) trivial (Km h27) kr ⟨kr,⟨kr,⟨kr,⟨kr,⟨kr,⟨kr,⟨kr,trivial⟩⟩⟩⟩⟩⟩⟩ (.cons (.ren kr)<|.cons (.ren kr)<|.cons (.ren kr)<|.cons (.ren kr) .nil) (Bb kr kr ⟨Cw kr,⟨Cw kr,⟨H5 (k:=oi 0 1) (ty:=28) (cs:=[oS 0 0 l7_p0.length]) (Cw kr) kr kr,⟨K0 (o:=oi 0 0) (p:=oi 3 1) (e1:=81) (m:=l7_p0.length) (u:=.int) (xss:=l7_p0) (H5 (k:=oi 0 1) (ty:=28) (cs:=[oS 0 0 l7_p0.length]) (Cw kr) kr kr) kr,⟨Cw kr,⟨H5 (k:=oi 2 1) (ty:=28) (cs:=[oS 2 0 l7_p2.length]) (Cw kr) kr kr,⟨K0 (o:=oi 2 0) (p:=oi 4 1) (e1:=81) (m:=l7_p2.length) (u:=.int) (xss:=l7_p2) (H5 (k:=oi 2 1) (ty:=28) (cs:=[oS 2 0 l7_p2.length]) (Cw kr) kr kr) kr,trivial⟩⟩⟩⟩⟩⟩⟩)<|rnW<|Ab<|Aa 22<|rsT 4 ?_;have ⟨x29,e29,h⟩:=Ah h;refine zO (oi 0 0) sI y27.1.length (Ai e29)<|rsl (.own (kid (oi 816 10) u1) .int 0 x29.length) (Ff (o:=oi 0 0) (p:=oi 816 10) (e1:=81) (u:=.int) (xss:=y27.1) (row:=x29) (j:=u1) kr kr e29)<|rsT 1 ?_;have ⟨x30,e30,h⟩:=Ah h;refine rs0 (.elt (kid (oi 816 10) u1) u0 0) (zo (t:=.int) (o:=kid (oi 816 10) u1) (len:=x29.length) (k:=.i64) (m:=(u0:Int)) (D7 _)<|Ai e30)<|rsl (ai x30) (Hh (i:=kid (oi 816 10) u1) (j:=u0) (k:=0) (e:=3) (t:=.int) (xs:=x29) kr (Bp kr e29) e30 kr)<|rsT 1 ?_;have ⟨y31,h31,h⟩:=Ah h;refine Aab (.tup []) [(oi 1 1,some<|.cells 3 [ai bA]),(oi 0 1,some<|.cells 28 [oS 0 0 y31.1.length]),(oi 0 0,some<|.mat 81 (oi 992 21) .int y31.1),(oi 992 21,some<|.pool 3 .int y31.1),(oi 2 1,some<|.cells 28 [oS 2 0 y31.2.length]),(oi 2 0,some<|.mat 81 (oi 993 21) .int y31.2),(oi 993 21,some<|.pool 3 .int y31.2),(oi 1 1,none),(oi 0 1,none),(oi 0 0,none),(oi 816 10,some<|.pool 3 .int []),(oi 2 1,none),(oi 2 0,none),(oi 817 10,some<|.pool 3 .int [])] [(oi 0 0,oi 1 1),(oi 1 0,oi 0 1),(oi 2 0,oi 0 0),(oi 3 0,oi 816 10),(oi 4 0,oi 2 1),(oi 5 0,oi 2 0),(oi 6 0,oi 817 10)] [.agg [ai 1,an u1,ai 0,ai x30],.box (oi 1 1) 0,.box (oi 0 1) 0,.box (oi 2 1) 0] (caps:=[.box (oi 1 1) 0,.box (oi 0 1) 0,.box (oi 2 1) 0]) trivial (Km h31) kr ⟨kr,⟨kr,⟨kr,⟨kr,⟨kr,⟨kr,⟨kr,trivial⟩⟩⟩⟩⟩⟩⟩ (.cons (.ren kr)<|.cons (.ren kr)<|.cons (.ren kr)<|.cons (.ren kr) .nil) (Bb kr kr ⟨Cw kr,⟨Cw kr,⟨H5 (k:=oi 0 1) (ty:=28) (cs:=[oS 0 0 y27.1.length]) (Cw kr) kr kr,⟨K0 (o:=oi 0 0) (p:=oi 816 10) (e1:=81) (m:=y27.1.length) (u:=.int) (xss:=y27.1) (H5 (k:=oi 0 1) (ty:=28) (cs:=[oS 0 0 y27.1.length]) (Cw kr) kr kr) kr,⟨Cw kr,⟨H5 (k:=oi 2 1) (ty:=28) (cs:=[oS 2 0 y27.2.length]) (Cw kr) kr kr,⟨K0 (o:=oi 2 0) (p:=oi 817 10) (e1:=81) (m:=y27.2.length) (u:=.int) (xss:=y27.2) (H5 (k:=oi 2 1) (ty:=28) (cs:=[oS 2 0 y27.2.length]) (Cw kr) kr kr) kr,trivial⟩⟩⟩⟩⟩⟩⟩)<|rnW<|sqF h (fun (l32_p0,l32_p2)=>sT [(2,ai bB),(5,.box (oi 0 1) 0),(9,an u1),(10,.fn 181 [.box (oi 1 1) 0,.box (oi 0 1) 0,.box (oi 2 1) 0]),(11,an u0)] [(oi 0 1,.cells 28 [oS 0 0 l32_p0.length]),(oi 1 1,.cells 3 [ai bA]),(oi 2 1,.cells 28 [oS 2 0 l32_p2.length]),(oi 0 0,.mat 81 (oi 3 1) .int l32_p0),(oi 3 1,.pool 3 .int l32_p0),(oi 2 0,.mat 81 (oi 4 1) .int l32_p2),(oi 4 1,.pool 3 .int l32_p2)]) ?_ ?_
   ·intro _ h;refine Ae<|Ad<|lpF h (fun (u2,l34_p0,l34_p2)=>sT [(2,ai bB),(5,.box (oi 0 1) 0),(9,an u1),(10,.fn 181 [.box (oi 1 1) 0,.box (oi 0 1) 0,.box (oi 2 1) 0]),(11,an u0),(64,an y31.1.length),(65,an u2)] [(oi 0 1,.cells 28 [oS 0 0 l34_p0.length]),(oi 1 1,.cells 3 [ai bA]),(oi 2 1,.cells 28 [oS 2 0 l34_p2.length]),(oi 0 0,.mat 81 (oi 3 1) .int l34_p0),(oi 3 1,.pool 3 .int l34_p0),(oi 2 0,.mat 81 (oi 4 1) .int l34_p2),(oi 4 1,.pool 3 .int l34_p2)]) (Ag [(oi 3 1,oi 992 21),(oi 4 1,oi 993 21)]) ?_;rintro n_ ⟨u2,l34_p0,l34_p2⟩ c_ h hn34;refine Ae<|Ab (kQ h (fun _ h=>skW<|sqF h (fun (l38_p0,l38_p2)=>sT [(2,ai bB),(5,.box (oi 0 1) 0),(9,an u1),(10,.fn 181 [.box (oi 1 1) 0,.box (oi 0 1) 0,.box (oi 2 1) 0]),(11,an u0),(64,an y31.1.length),(65,an u2)] [(oi 0 1,.cells 28 [oS 0 0 l38_p0.length]),(oi 1 1,.cells 3 [ai bA]),(oi 2 1,.cells 28 [oS 2 0 l38_p2.length]),(oi 0 0,.mat 81 (oi 3 1) .int l38_p0),(oi 3 1,.pool 3 .int l38_p0),(oi 2 0,.mat 81 (oi 4 1) .int l38_p2),(oi 4 1,.pool 3 .int l38_p2)]) ?_ ?_) fun _ h=>lxT (have h:=jO h hn34;jE []))
    ·intro _ h;refine Ad<|Ae<|sqF h (fun u9=>sT [(2,ai bB),(5,.box (oi 0 1) 0),(9,an u1),(10,.fn 181 [.box (oi 1 1) 0,.box (oi 0 1) 0,.box (oi 2 1) 0]),(11,an u0),(13,an u2),(64,an y31.1.length),(65,an u2),(80,.bool u9)] [(oi 0 1,.cells 28 [oS 0 0 l34_p0.length]),(oi 1 1,.cells 3 [ai bA]),(oi 2 1,.cells 28 [oS 2 0 l34_p2.length]),(oi 0 0,.mat 81 (oi 3 1) .int l34_p0),(oi 3 1,.pool 3 .int l34_p0),(oi 2 0,.mat 81 (oi 4 1) .int l34_p2),(oi 4 1,.pool 3 .int l34_p2)]) ?_ ?_
     ·intro _ h;refine Aa 18<|rsT 4 ?_;rcases A5 h with ⟨q41,h⟩|⟨q41,h⟩
      ·refine rq 71 q41<|rsT 2 ?_;have ⟨x42,e42,h⟩:=Ah h;refine zO (oi 0 0) sI l34_p0.length (Ai e42)<|rsl (.own (kid (oi 3 1) u2) .int 0 x42.length) (Ff (o:=oi 0 0) (p:=oi 3 1) (e1:=81) (u:=.int) (xss:=l34_p0) (row:=x42) (j:=u2) kr kr e42)<|rsT 1 ?_;have ⟨x43,e43,h⟩:=Ah h;exact rs0 (.elt (kid (oi 3 1) u2) u0 0) (zo (t:=.int) (o:=kid (oi 3 1) u2) (len:=x42.length) (k:=.i64) (m:=(u0:Int)) (D7 _)<|Ai e43)<|rsl (ai x43) (Hh (i:=kid (oi 3 1) u2) (j:=u0) (k:=0) (e:=3) (t:=.int) (xs:=x42) kr (Bp kr e42) e43 kr)<|rsT 2<|Ao<|tn_<|jE []
      exact rq 71 q41<|rsT 9<|Ao<|tn_<|jE []
     intro u9 h;refine kQ h (fun _ h=>Aa 14<|rsT 5 ?_) fun _ h=>Ay<|bn_<|tn_<|jE []
     have ⟨x45,e45,h⟩:=Ah h;refine zO (oi 0 0) sI l34_p0.length (Ai e45)<|rsl (.own (kid (oi 3 1) u2) .int 0 x45.length) (Ff (o:=oi 0 0) (p:=oi 3 1) (e1:=81) (u:=.int) (xss:=l34_p0) (row:=x45) (j:=u2) kr kr e45)<|rsT 1 ?_;have ⟨x46,e46,h⟩:=Ah h;refine rs0 (.elt (kid (oi 3 1) u2) u0 0) (zo (t:=.int) (o:=kid (oi 3 1) u2) (len:=x45.length) (k:=.i64) (m:=(u0:Int)) (D7 _)<|Ai e46)<|rsl (ai x46) (Hh (i:=kid (oi 3 1) u2) (j:=u0) (k:=0) (e:=3) (t:=.int) (xs:=x45) kr (Bp kr e45) e46 kr)<|rsT 1 ?_;have ⟨y47,h47,h⟩:=Ah h;exact Aab (.tup []) [(oi 1 1,some<|.cells 3 [ai bA]),(oi 0 1,some<|.cells 28 [oS 0 0 y47.1.length]),(oi 0 0,some<|.mat 81 (oi 1472 13) .int y47.1),(oi 1472 13,some<|.pool 3 .int y47.1),(oi 2 1,some<|.cells 28 [oS 2 0 y47.2.length]),(oi 2 0,some<|.mat 81 (oi 1473 13) .int y47.2),(oi 1473 13,some<|.pool 3 .int y47.2),(oi 1 1,none),(oi 0 1,none),(oi 0 0,none),(oi 3 1,some<|.pool 3 .int []),(oi 2 1,none),(oi 2 0,none),(oi 4 1,some<|.pool 3 .int [])] [(oi 0 0,oi 1 1),(oi 1 0,oi 0 1),(oi 2 0,oi 0 0),(oi 3 0,oi 3 1),(oi 4 0,oi 2 1),(oi 5 0,oi 2 0),(oi 6 0,oi 4 1)] [.agg [ai 2,an u2,an u1,ai x46],.box (oi 1 1) 0,.box (oi 0 1) 0,.box (oi 2 1) 0] (caps:=[.box (oi 1 1) 0,.box (oi 0 1) 0,.box (oi 2 1) 0]) trivial (Km h47) kr ⟨kr,⟨kr,⟨kr,⟨kr,⟨kr,⟨kr,⟨kr,trivial⟩⟩⟩⟩⟩⟩⟩ (.cons (.ren kr)<|.cons (.ren kr)<|.cons (.ren kr)<|.cons (.ren kr) .nil) (Bb kr kr ⟨Cw kr,⟨Cw kr,⟨H5 (k:=oi 0 1) (ty:=28) (cs:=[oS 0 0 l34_p0.length]) (Cw kr) kr kr,⟨K0 (o:=oi 0 0) (p:=oi 3 1) (e1:=81) (m:=l34_p0.length) (u:=.int) (xss:=l34_p0) (H5 (k:=oi 0 1) (ty:=28) (cs:=[oS 0 0 l34_p0.length]) (Cw kr) kr kr) kr,⟨Cw kr,⟨H5 (k:=oi 2 1) (ty:=28) (cs:=[oS 2 0 l34_p2.length]) (Cw kr) kr kr,⟨K0 (o:=oi 2 0) (p:=oi 4 1) (e1:=81) (m:=l34_p2.length) (u:=.int) (xss:=l34_p2) (H5 (k:=oi 2 1) (ty:=28) (cs:=[oS 2 0 l34_p2.length]) (Cw kr) kr kr) kr,trivial⟩⟩⟩⟩⟩⟩⟩)<|Ao<|bn_<|tn_<|jE [(oi 3 1,oi 1472 13),(oi 4 1,oi 1473 13)]
    rintro ⟨l38_p0,l38_p2⟩ h;exact Aa 4 (raH h fun h=>rsT 1<|Ao<|tn_<|jL [])
   rintro ⟨l32_p0,l32_p2⟩ h;exact Aa 5<|rsT 1 (raH h fun h=>rsT 1<|Ao<|bn_<|tn_<|jE [])
  rintro ⟨u7,l12_p0,l12_p2⟩ h;exact Aa 5<|rsT 1 (raH h fun h=>rsT 1<|Ao<|tn_<|jL [])
 rintro ⟨u4,l5_p0,l5_p2⟩ h;refine Ae<|Ac ?_;cases h;exact E4 [an u4]<|Ag (tl:=[(8,an u4)]) (g:=2) []
set_option maxRecDepth 4000
set_option maxHeartbeats 4800000
variable{dA dB:LL}{bA bB bC bD:Int}{cA:Bool}{aA aB:List Int}
def Io(a0:LL)(u1:Int)(u0:Nat):Option (Ctl (Int×Nat) (Ctl Int Int)):=
 cond (decide ((u0:Int)<(a0.length:Int)))
 ((a0[u0]?).bind fun x15=>
 (Nw x15 u1).bind fun y16=>
 cond (decide (y16<0))
  (some (.out (.out (-1))))
  (og (u0+1<4611686018427387904)<|
  some (.next (y16,u0+1))))
 (some (.out (.next u1)))
def Ma(a0:LL)(a1:Int):Option Int:=
 cond (decide (wI (a1 - (a0.length:Int))<0))
 (some (-1))
 (Dg (Aq (fun s_:Int×Nat=>Io a0 s_.1 s_.2) 4611686018427387904 (wI (a1 - (a0.length:Int)),0)) fun u0=>
 some u0)
theorem Abv(h:Ma dA bA=some bB):cK 76 [tS dA,ai bA] (A8 bB):=by
 refine cO Tryz.func76<|Ae<|Ae<|Ab<|Ae (kQ h (fun _ h=>Ae<|Ac<|tr_<|jS h) fun _ h=>skW (sqC h (fun u0=>sT [(1,ai u0)] []) ?_ fun u0 h=>Ae<|Ac<|jS h));intro _ h hk7;refine Ae<|Ad<|lpF h (fun (u1,u2)=>sT [(0,tS dA),(1,ai u1),(5,an u2)] []) (Ag []) ?_;rintro n_ ⟨u1,u2⟩ c_ h hn9;exact Ab<|Ae (kQ h (fun _ h=>skW<|Ab<|Ad<|Ab<|Aa 13<|rsT 2 (riH sI h fun x15 _ h=>rsT 2 (rcH h Ade fun y16 h=>rsT 1<|rnW<|Ae (kQ h (fun _ h=>Ae<|Ac<|br_<|tr_<|tr_<|br_<|tr_ (have h:=jO h hn9;(have h:=jO h hk7;jS h))) fun _ h=>Ay<|bn_<|tn_<|wr_<|Aa 18<|rsT 1 (raH h fun h=>rsT 1<|Ao<|tn_<|jL []))))) fun _ h=>lxT (have h:=jO h hn9;jC []))
def I0(a0:LL)(u0:Nat)(u1:LL):Option (Ctl (Nat×LL) (LL)):=
 cond (decide ((u0:Int)<(a0.length:Int)))
 ((a0[u0]?).bind fun x12=>
 (Nz x12).bind fun y13=>
 (u1[u0]?).bind fun x14=>
 og (u0+1<4611686018427387904)<|
 some (.next (u0+1,u1.set u0 y13)))
 (some (.out u1))
def M1(a0:LL):Option LL:=
 og (0<=(a0.length:Int)/\(a0.length:Int)<=(a0.length:Int)/\(a0.length:Int)<=1073741824/\(24:Int)*(a0.length:Int)<=140737488355328)<|
(Aq (fun s_:Nat×LL=>I0 a0 s_.1 s_.2) 4611686018427387904 (0,replicate a0.length ([]:List Int))).bind fun u0=>
some u0
theorem Abx(h:M1 dA=some dB):Ed Tryz.prog Tab 84 [tS dA] [] (oS 0 1 dB.length) [(oi 0 1,.mat 81 (oi 1 1) .int dB),(oi 1 1,.pool 3 .int dB)]:=by
 refine B8 kr Tryz.func84 (Ck kr) (n:=23) kr fS rfl kr trivial ⟨⟨3,.tail _<|.head _⟩,⟨trivial,trivial⟩⟩<|Ae<|Ab<|Aa 6<|rsT 2 ?_;have ⟨g4,h⟩:=Aj h;refine Ai3 (oS 112 4 dA.length) (oi 112 4) 81 3 .int (replicate dA.length ([]:List Int)) trivial (Acs (j:=dA.length) (k:=.i64) (k':=.i64) (m:=(dA.length:Int)) (c:=(dA.length:Int)) 3 kr kr g4 kr rfl) kr (by rw[length_replicate]) kr (rsT 1<|rnW (sqF h (fun u1=>sT [(3,oS 0 1 u1.length)] [(oi 0 1,.mat 81 (oi 1 1) .int u1),(oi 1 1,.pool 3 .int u1)]) ?_ fun u1 h=>Ae<|Ac (by obtain rfl:=osj h;exact E4 [oS 0 1 u1.length]<|Ag (tl:=[(2,oS 0 1 u1.length)]) (g:=2) [])));intro _ h;refine Ae<|Ad<|lpF h (fun (u2,u0)=>sT [(0,tS dA),(3,oS 0 1 u0.length),(4,an u2)] [(oi 0 1,.mat 81 (oi 1 1) .int u0),(oi 1 1,.pool 3 .int u0)]) ((wL 3 (length_replicate.symm:dA.length=(replicate dA.length ([]:List Int)).length)).trans<|Ag [(oi 0 1,oi 112 4),(oi 1 1,oi 112 4)]) ?_;rintro n_ ⟨u2,u0⟩ c_ h hn7;refine Ab<|Ae (kQ h (fun _ h=>skW<|Ab<|Ad<|Aa 15<|rsT 4 (riH sI h fun x12 _ h=>rsT 1 (rcH h Ac8 fun y13 h=>?_))) fun _ h=>lxT (have h:=jO h hn7;jE []));have ⟨x14,e14,h⟩:=Ah h;refine zO (oi 0 1) sI u0.length (Ai e14) (Al0 (oi 0 1) (oi 0 1) (.vec 81 1 u0.length<|(hdL (oi 1 1) .int u0).set u2<|oI 320 12 y13.length) (Aft (o:=oi 0 1) (e1:=81) (m:=u0.length) (cs:=hdL (oi 1 1) .int u0) (v:=oI 320 12 y13.length) (j:=u2) kr kr kr rfl (by rw[Dy];exact Ai e14))<|Ao<|bn_<|tn_ ⟨_,Ari (e1:=81) (e:=3) (u:=.int) (n:=u0.length) (len:=y13.length) (row:=y13) (ys:=y13) (xss:=u0) (j:=u2) 9000 (oi 0 1) (oi 1 1) (oi 320 12) kr kr rfl kr kr (Oh rfl) (Ow rfl) kr kr kr,Aa 19<|rsT 1 (raH h fun h=>rsT 1<|Ao<|tn_ ?_)⟩);cases h;exact jLw hn7<|(wL 3 ((Eq.trans (b:=u0.length) rfl length_set.symm):u0.length=(u0.set u2 y13).length)).trans<|Ag [(oi 1 1,oi 9000 15)]
def Iv(a0 a1:LL)(u0:Nat):Option (Ctl Nat (Ctl Unit Bool)):=
 cond (decide ((u0:Int)<(a0.length:Int)))
 ((a0[u0]?).bind fun x14=>
 (a1[u0]?).bind fun x15=>
 (Ns x14 x15).bind fun y16=>
 cond (!y16)
  (some (.out (.out false)))
  (og (u0+1<4611686018427387904)<|
  some (.next (u0+1))))
 (some (.out (.next ())))
def Mp(a0 a1:LL):Option Bool:=
 cond ((a0.length:Int) !=(a1.length:Int))
 (some false)
 (Dg (Aq (fun s_:Nat=>Iv a0 a1 s_) 4611686018427387904 0) fun _=>
 some true)
theorem Abu(h:Mp dA dB=some cA):cK 34 [tS dA,tS dB] (An cA):=by
 exact cO Tryz.func34<|Ae<|Ab<|Ae (kQ h (fun _ h=>Ae<|Ac<|tr_<|jS h) fun _ h=>skW (sqC h (fun _=>sT [] []) (fun _ h hk6=>Ae<|Ad<|lpF h (fun u0=>sT [(0,tS dA),(1,tS dB),(5,an u0)] []) (Ag []) fun n_ u0 c_ h hn8=>Ab<|Ae (kQ h (fun _ h=>skW<|Ab<|Ad<|Ab<|Al 16<|ds0 (tS dA) kr<|ds0 (an u0) kr (diH sI h fun x14 _ h=>dsT 3 (diH sI h fun x15 _ h=>ds0 (tI x15) kr (dcH h Afd fun y16 h=>ds0 (.bool<|!y16) kr<|Cb (As kr)<|tn_<|wr_ (kQ h (fun _ h=>Ae<|Ac<|br_<|tr_<|tr_<|br_<|tr_ (have h:=jO h hn8;(have h:=jO h hk6;jS h))) fun _ h=>Ay<|bn_<|tn_<|wr_<|Aa 19<|rsT 1 (raH h fun h=>rsT 1<|Ao<|tn_<|jL [])))))) fun _ h=>lxT (have h:=jO h hn8;jC []))) fun _ h=>Ae<|Ac<|jS h))
def Iu(u1 u2:Int)(u0:LL)(a1:Int):Option Int:=
 (Ma u0 a1).bind fun y3=>
cond (decide (y3<0))
 (some (-1))
 (some y3)
theorem Wt(h:Iu bA bB dA bC=some bD):cK 41 [.agg [ai bA,ai bB,tS dA],ai bC] (A8 bD):=by
 exact cO Tryz.func41<|Ae<|Ab<|Aa 8<|rsT 3 (rcH h Abv fun y3 h=>rsT 1<|rnW<|Ab<|Ae (kQ h (fun _ h=>Ae<|Ac<|tr_<|jS h) fun _ h=>skW<|Ae<|Ac<|jS h))
def Ip(u1 u2:Int)(u0:LL):Option LL:=
 (M1 u0).bind fun y7=>
some y7
theorem Xa (h:Ip bA bB dA=some dB):Ed Tryz.prog Tab 46 [.agg [ai bA,ai bB,tS dA]] [] (.agg [ai bA,ai bB,oS 1 1 dB.length]) [(oi 0 1,.cells 30 [ai bA,ai bB,oS 1 1 dB.length]),(oi 1 1,.mat 81 (oi 2 1) .int dB),(oi 2 1,.pool 3 .int dB)]:=by
 refine B8 kr Tryz.func46 (Ck kr) (n:=15) kr (by simp) rfl kr trivial ⟨trivial,⟨⟨3,.tail _ (.tail _ (.head _))⟩,⟨trivial,trivial⟩⟩⟩ (Ae (Ae (Ae (Ae (Ab (Aa 17 (rsT 2 (rcM h [] [tS dA] Abx trivial (aR kr) (Bb kr kr trivial) fun y7 h=>rsB 2 (rnW (Ae (Ac ?_)))))))))));obtain rfl:=zj h;exact E4 [.agg [ai bA,ai bB,oS 1 1 y7.length]] (Ag (tl:=[(2,.box (oi 0 1) 0)]) (g:=2) [(oi 0 1,oi 2 2),(oi 1 1,oi 192 14),(oi 2 1,oi 193 14)])
def I2(u0 u1:Int)(u2:LL)(u3 u4:Int)(u5:LL):Option Bool:=
 cond (u0 !=u3)
 (some false)
 (cond (u1 !=u4)
  (some false)
  ((Mp u2 u5).bind fun y12=>
  cond (!y12)
   (some false)
   (some true)))
theorem P2(h:I2 bA bB dA bC bD dB=some cA):cK 12 [.agg [ai bA,ai bB,tS dA],.agg [ai bC,ai bD,tS dB]] (An cA):=by
 exact cO Tryz.func12<|Ae<|Ab<|Ae (kQ h (fun _ h=>Ae<|Ac<|tr_<|jS h) fun _ h=>skW<|Ab<|Ae (kQ h (fun _ h=>Ae<|Ac<|tr_<|jS h) fun _ h=>skW<|Ab<|Ab<|Aa 20<|rsT 4 (rcH h Abu fun y12 h=>rsT 1<|rnW (kQ h (fun _ h=>Ae<|Ac<|tr_<|jS h) fun _ h=>skW<|Ae<|Ac<|jS h))))
def Nm(a2:LL)(a1 a0:Int)(u0:Nat):Option (Ctl Nat (Ctl Unit Bool)):=
 cond (decide ((u0:Int)<(a2.length:Int)))
 ((a2[u0]?).bind fun x10=>
 (cond ((x10.length:Int) !=a1)
   (some true)
   ((Qt a0 x10).bind fun y13=>
   some (!y13))).bind fun u1=>
 cond u1
  (some (.out (.out false)))
  (og (u0+1<4611686018427387904)<|
  some (.next (u0+1))))
 (some (.out (.next ())))
def N8(a0 a1:Int)(a2:LL):Option Bool:=
 Dg (Aq (fun s_:Nat=>Nm a2 a1 a0 s_) 4611686018427387904 0) fun _=>
some true
theorem Af6(h:N8 bA bB dA=some cA):cK 156 [ai bA,ai bB,tS dA] (An cA):=by
 refine cO Tryz.func156<|Ae (sqC h (fun _=>sT [] []) ?_ fun _ h=>Ae<|Ac<|jS h);intro _ h hk2;refine Ae<|Ad<|lpF h (fun u0=>sT [(0,ai bA),(1,ai bB),(9,tS dA),(10,an dA.length),(11,an u0)] []) (Ag []) ?_;intro n_ u0 c_ h hn4;refine Ae<|Ab (kQ h (fun _ h=>skW<|Ab<|Ad<|Ab<|Aa 6 (riH sI h fun x10 _ h=>rsT 2<|rnW (sqF h (fun u1=>sT [(0,ai bA),(1,ai bB),(9,tS dA),(10,an dA.length),(11,an u0),(24,.bool u1)] []) ?_ fun u1 h=>kQ h (fun _ h=>Ae<|Ac<|br_<|tr_<|tr_<|br_<|tr_ (have h:=jO h hn4;(have h:=jO h hk2;jS h))) fun _ h=>Ay<|bn_<|tn_<|wr_<|Aa 4 (raH h fun h=>rsT 1<|Ao<|tn_<|jL [])))) fun _ h=>lxT (have h:=jO h hn4;jC []));intro _ h;refine Aa 16<|rsT 5 ?_;rcases A5 h with ⟨q12,h⟩|⟨q12,h⟩
 ·exact rq 19 q12<|rsT 5<|Ao<|tn_<|jE []
 exact rq 19 q12<|rsT 2 (rcH h Ajl fun y13 h=>rsT 2<|Ao<|tn_<|jE [])
def Jy(a0 a1:List Int)(u0:Nat):Option (Ctl Nat (Ctl Unit Bool)):=
 cond (decide ((u0:Int)<(a0.length:Int)))
 ((a0[u0]?).bind fun x15=>
 (a1[u0]?).bind fun x16=>
 cond (x15 !=x16)
  (some (.out (.out false)))
  (og (u0+1<4611686018427387904)<|
  some (.next (u0+1))))
 (some (.out (.next ())))
def Nq(a0 a1:List Int):Option Bool:=
 cond ((a0.length:Int) !=(a1.length:Int))
 (some false)
 (Dg (Aq (fun s_:Nat=>Jy a0 a1 s_) 4611686018427387904 0) fun _=>
 some true)
theorem Afg(h:Nq aA aB=some cA):cK 179 [tI aA,tI aB] (An cA):=by
 exact cO Tryz.func179<|Ae<|Ab<|Ae (kQ h (fun _ h=>Ae<|Ac<|tr_<|jS h) fun _ h=>skW (sqC h (fun _=>sT [] []) (fun _ h hk6=>Ae<|Ad<|lpF h (fun u0=>sT [(0,tI aA),(1,tI aB),(12,an aA.length),(13,an u0)] []) (Ag []) fun n_ u0 c_ h hn8=>Ae<|Ab (kQ h (fun _ h=>skW<|Ab<|Ad<|Ae<|Ab<|Al 14<|ds0 (tI aA) kr<|ds0 (an u0) kr (diH .int h fun x15 _ h=>dsT 3 (diH .int h fun x16 _ h=>ds0 (ai x16) kr<|ds0 (.bool<|x15 !=x16) kr<|Cb (As kr)<|tn_<|wr_ (kQ h (fun _ h=>Ae<|Ac<|br_<|tr_<|tr_<|br_<|tr_ (have h:=jO h hn8;(have h:=jO h hk6;jS h))) fun _ h=>Ay<|bn_<|tn_<|wr_<|Aa 16 (raH h fun h=>rsT 1<|Ao<|tn_<|jL []))))) fun _ h=>lxT (have h:=jO h hn8;jC []))) fun _ h=>Ae<|Ac<|jS h))
def Jw(a0 a1:LL)(u0:Nat):Option (Ctl Nat (Ctl Unit Bool)):=
 cond (decide ((u0:Int)<(a0.length:Int)))
 ((a0[u0]?).bind fun x15=>
 (a1[u0]?).bind fun x16=>
 (Nq x15 x16).bind fun y17=>
 cond (!y17)
  (some (.out (.out false)))
  (og (u0+1<4611686018427387904)<|
  some (.next (u0+1))))
 (some (.out (.next ())))
def N3(a0 a1:LL):Option Bool:=
 cond ((a0.length:Int) !=(a1.length:Int))
 (some false)
 (Dg (Aq (fun s_:Nat=>Jw a0 a1 s_) 4611686018427387904 0) fun _=>
 some true)
theorem Aeo(h:N3 dA dB=some cA):cK 157 [tS dA,tS dB] (An cA):=by
 exact cO Tryz.func157<|Ae<|Ab<|Ae (kQ h (fun _ h=>Ae<|Ac<|tr_<|jS h) fun _ h=>skW (sqC h (fun _=>sT [] []) (fun _ h hk6=>Ae<|Ad<|lpF h (fun u0=>sT [(0,tS dA),(1,tS dB),(12,an dA.length),(13,an u0)] []) (Ag []) fun n_ u0 c_ h hn8=>Ae<|Ab (kQ h (fun _ h=>skW<|Ab<|Ad<|Ae<|Ab<|Al 15<|ds0 (tS dA) kr<|ds0 (an u0) kr (diH sI h fun x15 _ h=>dsT 3 (diH sI h fun x16 _ h=>ds0 (tI x16) kr (dcH h Afg fun y17 h=>ds0 (.bool<|!y17) kr<|Cb (As kr)<|tn_<|wr_ (kQ h (fun _ h=>Ae<|Ac<|br_<|tr_<|tr_<|br_<|tr_ (have h:=jO h hn8;(have h:=jO h hk6;jS h))) fun _ h=>Ay<|bn_<|tn_<|wr_<|Aa 17 (raH h fun h=>rsT 1<|Ao<|tn_<|jL [])))))) fun _ h=>lxT (have h:=jO h hn8;jC []))) fun _ h=>Ae<|Ac<|jS h))
def Rk(a0 u0:Int)(u1:LL):Option Bool:=
 ((Gk a0).bind fun y3=>
 cond y3
  ((Cv u0 0 24).bind fun y5=>
  cond y5
   (cond (decide ((u1.length:Int)<=u0))
    ((N8 a0 u0 u1).bind fun y8=>
    cond y8
     ((E1 a0 u0 u1).bind fun y10=>
     (N3 y10 u1).bind fun y11=>
     some y11)
     (some false))
    (some false))
   (some false))
  (some false)).bind fun u2=>
some u2
theorem Ac2(h:Rk bA bB dA=some cA):cK 119 [ai bA,.agg [ai bB,tS dA]] (An cA):=by
 refine cO Tryz.func119<|Ae (sqF h (fun u2=>sT [(4,.bool u2)] []) ?_ fun u2 h=>Ac<|jS h);intro _ h;refine Al 38<|dz0 (ai bA) (dcH h Mo fun y3 h=>dz0 (.bool y3) ?_);rcases A5 h with ⟨q4,h⟩|⟨q4,h⟩
 ·refine dq 7 q4<|dz0 (.box (oi 3 1) 0)<|dzl (ai bB) (dcH h Db fun y5 h=>dz0 (.bool y5)<|dz0 (.bool y5) (kD h 12 (fun _ h=>dsT 8 ?_) fun _ h=>dsT 27<|Cb (As kr)<|tn_<|jE []));rcases A5 h with ⟨q7,h⟩|⟨q7,h⟩
  ·refine dq 20 q7<|dsT 5 (dcH h Af6 fun y8 h=>dz0 (.bool y8)<|dz0 (.bool y8) ?_);rcases A5 h with ⟨q9,h⟩|⟨q9,h⟩
   ·exact dq 28 q9<|dsT 5 (dcM h [] [ai bA,ai bB,tS dA] Jq trivial (aR kr) (Bb kr kr trivial) (Ajg kr) fun y10 h=>dz0 (.box (oi 3 1) 1)<|dzl (tS dA) (dcG h [oS 544 32 y10.length,tS dA] Aeo (Au (Tl (p:=oi 545 32) (e1:=81) (e:=3) (u:=.int) (xss:=y10) kr (Aez (t:=sI) (off:=0) (len:=y10.length) (i:=oi 544 32) (e1:=81) (z:=1) (m:=y10.length) 0 rfl kr kr<|Ey kr) rfl)<|Au kr Dm) fun y11 h=>dz0 (.bool y11)<|dz0 (.bool y11)<|Cb ⟨Amv kr,trivial⟩<|tn_<|jE []))
   exact dq 28 q9<|dsT 11<|Cb (As kr)<|tn_<|jE []
  exact dq 20 q7<|dsT 19<|Cb (As kr)<|tn_<|jE []
 exact dq 7 q4<|dsT 32<|Cb (As kr)<|tn_<|jE []
def N4(a0 u0 u1:Int)(u2:LL):Option Bool:=
 ((Cv u0 0 24).bind fun y3=>
 cond y3
  ((Cv u1 0 (wI (24 - u0))).bind fun y5=>
  cond y5
   ((Rk a0 (wI (u0+u1)) u2).bind fun y7=>
   some y7)
   (some false))
  (some false)).bind fun u3=>
some u3
theorem Af3(h:N4 bA bB bC dA=some cA):cK 80 [ai bA,.agg [ai bB,ai bC,tS dA]] (An cA):=by
 refine cO Tryz.func80<|Ae (sqF h (fun u3=>sT [(4,.bool u3)] []) ?_ fun u3 h=>Ac<|jS h);intro _ h;refine Aa 27<|rsT 2 (rcH h Db fun y3 h=>rsT 1 ?_);rcases A5 h with ⟨q4,h⟩|⟨q4,h⟩
 ·refine rq 8 q4<|rsT 5 (rcH h Db fun y5 h=>rsT 2 ?_);rcases A5 h with ⟨q6,h⟩|⟨q6,h⟩
  ·exact rq 16 q6<|rsT 9 (rcH h Ac2 fun y7 h=>rsT 2<|Ao<|tn_<|jE [])
  exact rq 16 q6<|rsT 12<|Ao<|tn_<|jE []
 exact rq 8 q4<|rsT 20<|Ao<|tn_<|jE []
def Qz(a0 a1:Int):Option Bool:=
 ((Ce a0 0 24).bind fun y3=>
 cond y3
  ((Ce a1 0 24).bind fun y5=>
  cond y5
   (some (decide (wI (a0+a1)<=24)))
   (some false))
  (some false)).bind fun u0=>
some u0
theorem Aio(h:Qz bA bB=some cA):cK 126 [ai bA,ai bB] (An cA):=by
 refine cO Tryz.func126<|Ae (sqF h (fun u0=>sT [(4,.bool u0)] []) ?_ fun u0 h=>Ac<|jS h);intro _ h;refine Aa 15<|rsT 1 (rcH h C9 fun y3 h=>rsT 1 ?_);rcases A5 h with ⟨q4,h⟩|⟨q4,h⟩
 ·exact rq 7 q4<|rsT 1 (rcH h C9 fun y5 h=>rsT 2 (kR h 11 (fun _ h=>rsT 6<|Ao<|tn_<|jE []) fun _ h=>rsT 6<|Ao<|tn_<|jE []))
 exact rq 7 q4<|rsT 10<|Ao<|tn_<|jE []
def I9(a1:LL)(a0 a2:Int)(u0:Nat):Option (Ctl Nat (Ctl Unit Bool)):=
 cond (decide ((u0:Int)<(a1.length:Int)))
 ((a1[u0]?).bind fun x10=>
 (Lh a0 x10 a2).bind fun y12=>
 cond (!y12)
  (some (.out (.out false)))
  (og (u0+1<4611686018427387904)<|
  some (.next (u0+1))))
 (some (.out (.next ())))
def I5(a0:Int)(a1:LL)(a2:Int):Option Bool:=
 Dg (Aq (fun s_:Nat=>I9 a1 a0 a2 s_) 4611686018427387904 0) fun _=>
some true
theorem Wk(h:I5 bA dA bB=some cA):cK 160 [ai bA,tS dA,ai bB] (An cA):=by
 exact cO Tryz.func160<|Ae (sqC h (fun _=>sT [] []) (fun _ h hk2=>Ae<|Ad<|lpF h (fun u0=>sT [(0,ai bA),(2,ai bB),(9,tS dA),(10,an dA.length),(11,an u0)] []) (Ag []) fun n_ u0 c_ h hn4=>Ae<|Ab (kQ h (fun _ h=>skW<|Ab<|Ad<|Ab<|Aa 6 (riH sI h fun x10 _ h=>rsT 2<|rnW<|Ab<|Aa 11<|rsT 3 (rcH h Aah fun y12 h=>rsT 1<|rnW (kQ h (fun _ h=>Ae<|Ac<|br_<|tr_<|tr_<|br_<|tr_ (have h:=jO h hn4;(have h:=jO h hk2;jS h))) fun _ h=>Ay<|bn_<|tn_<|wr_<|Aa 13 (raH h fun h=>rsT 1<|Ao<|tn_<|jL []))))) fun _ h=>lxT (have h:=jO h hn4;jC []))) fun _ h=>Ae<|Ac<|jS h)
def Fs(a0:Int)(a1:LL)(a2:Int):Option LL:=
 (Gj a1).bind fun y4=>
og (0<=(y4.length:Int)/\(y4.length:Int)<=(y4.length:Int)/\(y4.length:Int)<=1073741824/\(24:Int)*(y4.length:Int)<=140737488355328)<|
(Gx a0 y4 a2 (replicate y4.length ([]:List Int))).bind fun y8=>
og (y8.1.length=y4.length)<|
og (y8.2.1.length=y4.length)<|
og ((0:Int)<=(y8.2.2:Int)/\(y8.2.2:Int)<=(y8.2.2:Int)/\(y8.2.2:Int)<=(y4.length:Int))<|
some (y8.1.take y8.2.2)
theorem K8(h:Fs bA dA bB=some dB):Ed Tryz.prog Tab 161 [ai bA,tS dA,ai bB] [] (oS 0 1 dB.length) [(oi 0 1,.mat 81 (oi 1 1) .int dB),(oi 1 1,.pool 3 .int dB)]:=by
 refine B8 kr Tryz.func161 (Ck kr) (n:=24) kr fS rfl kr trivial ⟨⟨3,.tail _<|.head _⟩,⟨trivial,trivial⟩⟩<|Ae<|Ab<|Aa 5<|rsT 1 (rcM h [] [tS dA] Qb trivial (aR kr) (Bb kr kr trivial) fun y4 h=>rsT 1<|rnW<|Ab<|Aa 9<|rsT 2 ?_);have ⟨g6,h⟩:=Aj h;refine Ai3 (oS 224 7 y4.length) (oi 224 7) 81 3 .int (replicate y4.length ([]:List Int)) trivial (Acs (j:=y4.length) (k:=.i64) (k':=.i64) (m:=(y4.length:Int)) (c:=(y4.length:Int)) 3 kr kr g6 kr rfl) kr (by rw[length_replicate]) kr<|rsT 1<|rnW<|Ab<|Aa 15<|rsT 4 (rcM h [(oi 0 0,oi 176 3),(oi 1 0,oi 177 3),(oi 2 0,oi 224 7),(oi 3 0,oi 224 7)] [ai bA,oS 176 3 y4.length,ai bB,oS 224 7 y4.length] (fun h=>Qx h rfl length_replicate.symm) ⟨kr,⟨kr,⟨kr,⟨kr,trivial⟩⟩⟩⟩ (aR kr) (Bb kr kr ⟨Cw kr,⟨K0 (o:=oi 176 3) (p:=oi 177 3) (e1:=81) (m:=y4.length) (u:=.int) (xss:=y4) (Cw kr) kr,⟨Cw kr,⟨K0 (o:=oi 224 7) (p:=oi 224 7) (e1:=81) (m:=(replicate y4.length ([]:List Int)).length) (u:=.int) (xss:=replicate y4.length ([]:List Int)) (Cw kr) kr,trivial⟩⟩⟩⟩) fun y8 h=>rsT 1<|rnW<|Ab<|Aa 20<|rsT 3 ?_);have ⟨g9,h⟩:=Aj h;have ⟨g10,h⟩:=Aj h;have ⟨g12,h⟩:=Aj h;refine rs2 (oS 23 18 y8.2.2) (oi 176 3) (oi 23 18) (.vec 81 1 y8.2.2<|(hdL (oi 304 13) .int y8.1).take y8.2.2) (Aqw (t:=sI) (len:=y4.length) (kh:=.i64) (km:=.i64) (h:=(y8.2.2:Int)) (m:=(y8.2.2:Int)) (j:=y8.2.2) (i:=oi 176 3) (N:=y8.1.length) (e:=81) (cs:=hdL (oi 304 13) .int y8.1) kr kr kr kr rfl g12 rfl (by have z_:y4.length=y8.1.length:=g9.symm;omega)) (rsT 1<|Ao<|tn_ ⟨_,Am7 (e1:=81) (e:=3) (u:=.int) (xss:=y8.1) (k:=y8.2.2) 9000 (oi 23 18) (oi 304 13) kr kr kr (by have z_:y4.length=y8.1.length:=g9.symm;omega) kr kr,Ac ?_⟩);cases h;exact E4 [oS 0 1 ((y8.1.take y8.2.2).length)]<|(Ada 6 (oS 23 18 y8.2.2) (oS 23 18<|(y8.1.take y8.2.2).length) kr<|congrArg (fun z_=>((oS 23 18 z_):AV)) ((Apr (by have z_:y4.length=y8.1.length:=g9.symm;omega)):y8.2.2=(y8.1.take y8.2.2).length)).trans<|Ag (tl:=[(6,oS 0 1 (y8.1.take y8.2.2).length)]) (g:=2) [(oi 0 1,oi 23 18),(oi 1 1,oi 9000 20)]
def S4(a0:List Int):Option (List Int):=
 some (a0.take 48++(replicate 48 0).drop (a0.take 48).length)
def Akh(r:List Int):RV:=⟨false,[(true,((tyA 47).av (Ik 47 r)).map .sc)]⟩
theorem Abi(h:S4 aA=some aB):cK 162 [tI aA] (Akh aB):=by
 exact cO Tryz.func162<|Ae<|Ae<|Ab<|Aa 8<|rsl (.sla (oi 3 3) 0 48) (A0p (N:=47) (i:=oi 3 3) (j:=0) (e:=179) (xs:=[Ik 47 (replicate 48 0)]) kr kr kr)<|rsT 1<|rs2 (an<|(aA.take 48).length) (oi 3 3) (oi 3 3) (.arr 179 (tyA 47) [Ik 47 (aA.take 48++(replicate 48 0).drop (aA.take 48).length)]) (Awa (N:=47) (i:=oi 3 3) (e:=179) (l:=replicate 48 0) (ys:=aA) (zs:=aA.take 48++(replicate 48 0).drop (aA.take 48).length) kr K3 kr kr fS rfl)<|rnW<|Ab<|Aa 10<|rsl (.agg<|(tyA 47).av<|Ik 47<|aA.take 48++(replicate 48 0).drop (aA.take 48).length) (A0x (N:=47) (ty:=179) (i:=oi 3 3) (e:=0) (l:=aA.take 48++(replicate 48 0).drop (aA.take 48).length) (xs:=[Ik 47 (aA.take 48++(replicate 48 0).drop (aA.take 48).length)]) kr kr rfl rfl)<|Al0 (oi 2 1) (oi 2 1) (.arr 179 (tyA 47) [Ik 47 (aA.take 48++(replicate 48 0).drop (aA.take 48).length)]) (A01 (N:=47) (ty:=179) (i:=oi 2 1) (e:=0) (l:=replicate 48 0) (l2:=aA.take 48++(replicate 48 0).drop (aA.take 48).length) (xs:=[Ik 47 (replicate 48 0)]) kr kr rfl rfl kr rfl)<|rnW<|Ac<|jR h [.agg ((tyA 47).av<|Ik 47<|aA.take 48++(replicate 48 0).drop (aA.take 48).length)]<|V7 (Ayf 47<|aA.take 48++(replicate 48 0).drop (aA.take 48).length) H0
def O8:AC:=
 (.seq (rg [xs1 26 25 24])
 (.seq (.cond (tm 26)
  .skip
  (.exit 0))
 (.seq (.block 1 (.seq (rg [xm 27 25,xx 28 1 23 25,xl 29 28,xm 7 27,xm 8 29])
 (.seq (.region [xm 30 8,xo 31 (qc 162 [tm 30] [[some .int]]),xm 32 1,xm 33 7,xx 34 1 32 33,xl 35 34,xo 36 (qc 162 [tm 35] [[some .int]]),xo 37 (.i (.cmp true 51 (tm 31) (tm 36)))] true [(1,5)])
 (.cond (tm 37)
  (.seq (rg [xo 6 (qm (cb false))])
  .ret)
  .skip))))
 (rg [xa 38 25,xm 25 38]))))
def R4:AC:=
 (.seq (rg [xo 6 (qm (cb false))])
 (.seq (.seq (rg [xm 9 1,xn1 10 9,xm 11 2,xo 12 (qb .gtr (tm 10) (tm 11)),xm 13 12,⟨some 14,some (13,false),qm (tm 0)⟩,⟨some 15,some (13,false),qm (tm 1)⟩,⟨some 16,some (13,false),qm (tm 2)⟩,⟨some 17,some (13,false),qc 160 [tm 14,tm 15,tm 16] [[],[some sI],[]]⟩,⟨some 18,some (13,false),.i (.not (tm 17))⟩,xo 19 (.i (.pick (tm 13) (cb true) (tm 18)))])
 (.cond (tm 19)
  (.seq (rg [xo 6 (qm (cb false))])
  .ret)
  .skip))
 (.seq (.seq (rg [xm 20 0,xm 21 1,xm 22 2,xo 23 (qc 161 [tm 20,tm 21,tm 22] [[],[some sI],[]]),xn1 24 23,xo 25 (qm (ci 0))])
 (.block 0 (.loop O8)))
 (.seq (rg [xm 39 0,xm 40 1,xm 41 2,xo 42 (qc 161 [tm 39,tm 40,tm 41] [[],[some sI],[]]),xn1 43 42,xm 44 1,xn1 45 44,xo 46 (qb .eql (tm 43) (tm 45)),xm 6 46])
 .ret))))
def Aam:List Res:=[.tmp 6]
theorem Zt:C2 Tryz.prog Tryz.f127=some (R4,Aam):=by kernel_rfl
def Gn(y10 a1:LL)(u0:Nat):Option (Ctl Nat (Ctl Unit Bool)):=
 cond (decide ((u0:Int)<(y10.length:Int)))
 ((y10[u0]?).bind fun x17=>
 (S4 x17).bind fun y19=>
 (a1[u0]?).bind fun x20=>
 (S4 x20).bind fun y21=>
 og (y19.length=47+1/\y21.length=47+1)<|
 cond (!(y19==y21))
  (some (.out (.out false)))
  (og (u0+1<4611686018427387904)<|
  some (.next (u0+1))))
 (some (.out (.next ())))
def Jx(a0:Int)(a1:LL)(a2:Int):Option Bool:=
 (cond (decide (a2<(a1.length:Int)))
  (some true)
  ((I5 a0 a1 a2).bind fun y5=>
  some (!y5))).bind fun u0=>
cond u0
 (some false)
 (Dg ((Fs a0 a1 a2).bind fun y10=>
  Aq (fun s_:Nat=>Gn y10 a1 s_) 4611686018427387904 0) fun _=>
 (Fs a0 a1 a2).bind fun y27=>
 some ((y27.length:Int)==(a1.length:Int)))
theorem Yy(h:Jx bA dA bB=some cA):cK 127 [ai bA,tS dA,ai bB] (An cA):=by
 refine Xr kr Tryz.func127 Zt (n:=47) kr fS rfl ?_;unfold R4;refine Ae<|Ab<|sqF h (fun u1=>sT [(0,ai bA),(1,tS dA),(2,ai bB),(19,.bool u1)] []) ?_ ?_
 ·intro _ h;refine Aa 13<|rsT 5 ?_;rcases A5 h with ⟨q4,h⟩|⟨q4,h⟩
  ·exact rq 13 q4<|rsT 6<|Ao<|tn_<|jE []
  exact rq 13 q4<|rsT 3 (rcH h Wk fun y5 h=>rsT 2<|Ao<|tn_<|jE [])
 intro u1 h;refine kQ h (fun _ h=>Ae<|Ac<|tr_<|jS h) fun _ h=>skW (sqC h (fun _=>sT [(0,ai bA),(1,tS dA),(2,ai bB)] []) ?_ fun _ h=>Ab<|Aa 11<|rsT 3 (rcM h [] [ai bA,tS dA,ai bB] K8 trivial (aR kr) (Bb kr kr trivial) fun y27 h=>rsT 5<|rnW<|Ac<|jS h))
 intro _ h hk8;refine Ab<|Aa 8<|rsT 3 (rcM h [] [ai bA,tS dA,ai bB] K8 trivial (aR kr) (Bb kr kr trivial) fun y10 h=>rsT 2<|rnW<|Ad<|lpF h (fun u0=>sT [(0,ai bA),(1,tS dA),(2,ai bB),(23,oS 0 1 y10.length),(24,an y10.length),(25,an u0)] [(oi 0 1,.mat 81 (oi 1 1) .int y10),(oi 1 1,.pool 3 .int y10)]) (Ag [(oi 0 1,oi 368 5),(oi 1 1,oi 369 5)]) ?_);intro n_ u0 c_ h hn11;unfold O8;refine Ae<|Ab (kQ h (fun _ h=>skW<|Ab<|Ad<|Ab<|Aa 8<|rsT 1 ?_) fun _ h=>lxT (have h:=jO h hn11;jC []));have ⟨x17,e17,h⟩:=Ah h;refine zO (oi 0 1) sI y10.length (Ai e17)<|rsl (.own (kid (oi 1 1) u0) .int 0 x17.length) (Ff (o:=oi 0 1) (p:=oi 1 1) (e1:=81) (u:=.int) (xss:=y10) (row:=x17) (j:=u0) kr kr e17)<|rsT 2<|rnW<|Ab<|Al 16<|dz0 (.own (kid (oi 1 1) u0) .int 0 x17.length) (dcG h [.own (kid (oi 1 1) u0) .int 0 x17.length] Abi (Au (G9 (e:=3) (u:=.int) (xs:=x17) ((K9<|Rr (t:=.int) (off:=0) (len:=x17.length) 0 rfl kr).trans<|Bp kr e17) rfl) Dm) fun y19 h=>dz0 (tS dA)<|dz0 (an u0) (diH sI h fun x20 _ h=>dz0 (tI x20) (dcH h Abi fun y21 h=>?_)));have ⟨g22,h⟩:=Aj h;exact ds0 (.bool<|!(y19==y21)) (Ayz (N:=47) (l:=y19) (l':=y21) kr kr g22)<|Cb (As kr)<|tn_<|wr_ (kQ h (fun _ h=>Ae<|Ac<|br_<|tr_<|tr_<|br_<|tr_ (have h:=jO h hn11;(have h:=jO h hk8;jS h))) fun _ h=>Ay<|bn_<|tn_<|wr_<|Aa 18 (raH h fun h=>rsT 1<|Ao<|tn_<|jL []))
def I3(a0 u0 u1:Int)(u2:LL):Option Bool:=
 ((Fo a0).bind fun y3=>
 cond y3
  ((Qz u0 u1).bind fun y5=>
  cond y5
   ((Jx a0 u2 (wI (u0+u1))).bind fun y7=>
   some y7)
   (some false))
  (some false)).bind fun u3=>
some u3
theorem Xd(h:I3 bA bB bC dA=some cA):cK 87 [ai bA,.agg [ai bB,ai bC,tS dA]] (An cA):=by
 refine cO Tryz.func87<|Ae (sqF h (fun u3=>sT [(4,.bool u3)] []) ?_ fun u3 h=>Ac<|jS h);intro _ h;refine Aa 24<|rsT 1 (rcH h Ox fun y3 h=>rsT 1 ?_);rcases A5 h with ⟨q4,h⟩|⟨q4,h⟩
 ·refine rq 7 q4<|rsT 4 (rcH h Aio fun y5 h=>rsT 2 ?_);rcases A5 h with ⟨q6,h⟩|⟨q6,h⟩
  ·exact rq 14 q6<|rsT 8 (rcH h Yy fun y7 h=>rsT 2<|Ao<|tn_<|jE [])
  exact rq 14 q6<|rsT 11<|Ao<|tn_<|jE []
 exact rq 7 q4<|rsT 18<|Ao<|tn_<|jE []
theorem gw3(w:World):Calls Tryz.prog 141 #[.int .i64 3] w fun e w'=>e=.returned (.agg #[.int .i64 1,.int .i64 2])/\Below w.heap.size w w':=by
 go_enter Tryz.func141,Tryz.ntmps141
 go_wp2
 refine bodyPost_ret (v:=.agg #[.int .i64 1,.int .i64 2]) (by simp[results,Tryz.results141,go_sem]) rfl ⟨rfl,?_⟩;exact fG
theorem gw4(w:World):Calls Tryz.prog 141 #[.int .i64 4] w fun e w'=>e=.returned (.agg #[.int .i64 1,.int .i64 0])/\Below w.heap.size w w':=by
 go_enter Tryz.func141,Tryz.ntmps141
 go_wp2
 refine bodyPost_ret (v:=.agg #[.int .i64 1,.int .i64 0]) (by simp[results,Tryz.results141,go_sem]) rfl ⟨rfl,?_⟩;exact fG
theorem gw5(w:World):Calls Tryz.prog 141 #[.int .i64 5] w fun e w'=>e=.returned (.agg #[.int .i64 2,.int .i64 1])/\Below w.heap.size w w':=by
 go_enter Tryz.func141,Tryz.ntmps141
 go_wp2
 refine bodyPost_ret (v:=.agg #[.int .i64 2,.int .i64 1]) (by simp[results,Tryz.results141,go_sem]) rfl ⟨rfl,?_⟩;exact fG
theorem gw6(w:World):Calls Tryz.prog 141 #[.int .i64 6] w fun e w'=>e=.returned (.agg #[.int .i64 0,.int .i64 1])/\Below w.heap.size w w':=by
 go_enter Tryz.func141,Tryz.ntmps141
 go_wp2
 refine bodyPost_ret (v:=.agg #[.int .i64 0,.int .i64 1]) (by simp[results,Tryz.results141,go_sem]) rfl ⟨rfl,?_⟩;exact fG
theorem gw7(w:World):Calls Tryz.prog 141 #[.int .i64 7] w fun e w'=>e=.returned (.agg #[.int .i64 1,.int .i64 1])/\Below w.heap.size w w':=by
 go_enter Tryz.func141,Tryz.ntmps141
 go_wp2
 refine bodyPost_ret (v:=.agg #[.int .i64 1,.int .i64 1]) (by simp[results,Tryz.results141,go_sem]) rfl ⟨rfl,?_⟩;exact fG
theorem gw8(w:World):Calls Tryz.prog 141 #[.int .i64 8] w fun e w'=>e=.returned (.agg #[.int .i64 1,.int .i64 1])/\Below w.heap.size w w':=by
 go_enter Tryz.func141,Tryz.ntmps141
 go_wp2
 refine bodyPost_ret (v:=.agg #[.int .i64 1,.int .i64 1]) (by simp[results,Tryz.results141,go_sem]) rfl ⟨rfl,?_⟩;exact fG
theorem gw9(w:World):Calls Tryz.prog 141 #[.int .i64 9] w fun e w'=>e=.returned (.agg #[.int .i64 2,.int .i64 1])/\Below w.heap.size w w':=by
 go_enter Tryz.func141,Tryz.ntmps141
 go_wp2
 refine bodyPost_ret (v:=.agg #[.int .i64 2,.int .i64 1]) (by simp[results,Tryz.results141,go_sem]) rfl ⟨rfl,?_⟩;exact fG
theorem A1d(w:World):Calls Tryz.prog 141 #[.int .i64 10] w fun e w'=>e=.returned (.agg #[.int .i64 0,.int .i64 1])/\Below w.heap.size w w':=by
 go_enter Tryz.func141,Tryz.ntmps141
 go_wp2
 refine bodyPost_ret (v:=.agg #[.int .i64 0,.int .i64 1]) (by simp[results,Tryz.results141,go_sem]) rfl ⟨rfl,?_⟩;exact fG
theorem A08(w:World):Calls Tryz.prog 141 #[.int .i64 11] w fun e w'=>e=.returned (.agg #[.int .i64 1,.int .i64 2])/\Below w.heap.size w w':=by
 go_enter Tryz.func141,Tryz.ntmps141
 go_wp2
 refine bodyPost_ret (v:=.agg #[.int .i64 1,.int .i64 2]) (by simp[results,Tryz.results141,go_sem]) rfl ⟨rfl,?_⟩;exact fG
theorem A1b(w:World):Calls Tryz.prog 141 #[.int .i64 12] w fun e w'=>e=.returned (.agg #[.int .i64 1,.int .i64 0])/\Below w.heap.size w w':=by
 go_enter Tryz.func141,Tryz.ntmps141
 go_wp2
 refine bodyPost_ret (v:=.agg #[.int .i64 1,.int .i64 0]) (by simp[results,Tryz.results141,go_sem]) rfl ⟨rfl,?_⟩;exact fG
theorem A1c(w:World):Calls Tryz.prog 141 #[.int .i64 13] w fun e w'=>e=.returned (.agg #[.int .i64 1,.int .i64 1])/\Below w.heap.size w w':=by
 go_enter Tryz.func141,Tryz.ntmps141
 go_wp2
 refine bodyPost_ret (v:=.agg #[.int .i64 1,.int .i64 1]) (by simp[results,Tryz.results141,go_sem]) rfl ⟨rfl,?_⟩;exact fG
theorem A1a(w:World):Calls Tryz.prog 141 #[.int .i64 14] w fun e w'=>e=.returned (.agg #[.int .i64 1,.int .i64 1])/\Below w.heap.size w w':=by
 go_enter Tryz.func141,Tryz.ntmps141
 go_wp2
 refine bodyPost_ret (v:=.agg #[.int .i64 1,.int .i64 1]) (by simp[results,Tryz.results141,go_sem]) rfl ⟨rfl,?_⟩;exact fG
def gwV(k:Int):Int×Int:=if k=3 then (1,2) else if k=4 then (1,0) else if k=5 then (2,1) else if k=6 then (0,1) else if k=9 then (2,1) else if k=10 then (0,1) else if k=11 then (1,2) else if k=12 then (1,0) else (1,1)
def D3(a0:Int):Option (Int×Int):=og (3<=a0/\a0<=14) (some (gwV a0))
def Sr(r:Int×Int):RV:=⟨false,[(true,[.sc (.int .i64 r.1),.sc (.int .i64 r.2)])]⟩
theorem Ay9(k:Int)(h:3<=k/\k<=14)(w:World):Calls Tryz.prog 141 #[.int .i64 k] w fun e w'=>e=.returned (.agg #[.int .i64 (gwV k).1,.int .i64 (gwV k).2])/\Below w.heap.size w w':=by
 have hk:k=3∨k=4∨k=5∨k=6∨k=7∨k=8∨k=9∨k=10∨k=11∨k=12∨k=13∨k=14:=by omega
 rcases hk with rfl|rfl|rfl|rfl|rfl|rfl|rfl|rfl|rfl|rfl|rfl|rfl
 ·exact gw3 w
 ·exact gw4 w
 ·exact gw5 w
 ·exact gw6 w
 ·exact gw7 w
 ·exact gw8 w
 ·exact gw9 w
 ·exact A1d w
 ·exact A08 w
 ·exact A1b w
 ·exact A1c w
 ·exact A1a w
theorem Hu{a0:Int}{r:Int×Int}(h:D3 a0=some r):Da Tryz.prog Tab 141 [.int .i64 a0] (Sr r):=by
 have ⟨hb,h⟩:=Aj h;cases h;intro w im vs hG hr;obtain ⟨u1,_,rfl,h1,h2⟩:=hr;obtain rfl:_=[]:=h2;obtain rfl:u1=.int .i64 a0:=h1;refine (Ay9 a0 hb w).mono ?_;rintro e w' ⟨rfl,hw⟩;exact ⟨_,rfl,hw,[_,_],[],⟨_,_,rfl,rfl,rfl,_,_,rfl,rfl,rfl,rfl,rfl⟩,⟨trivial,fun _=>rfl⟩,rfl⟩
section
variable{C:OC}{im:NP}{w:World}
end
section
variable{n:Nat}{d:Option Nat}{f:TF}{ob:OF}
end
set_option maxRecDepth 4000
set_option maxHeartbeats 4800000
variable{bA bB bC bD:Int}{gA gB:ByteArray}{hA hB:List ZB}{iA:ZB}{cA:Bool}{dA dB:LL}{jA:(List ZB)×LL}{kA:List ByteArray}{lA:Int×Int×Bool}
def Rf(u1 u2:Int)(u0:ByteArray)(a1:Int):Option Int:=
 cond (decide (wI (a1 - (u0.size:Int))<0))
 (some (-1))
 (some (wI (a1 - (u0.size:Int))))
theorem Ae3(h:Rf bA bB gA bC=some bD):cK 51 [.agg [ai bA,ai bB,.str gA],ai bC] (A8 bD):=by
 exact cO Tryz.func51<|Ae<|Ae<|Ab<|Ae (kQ h (fun _ h=>Ae<|Ac<|tr_<|jS h) fun _ h=>skW<|Ae<|Ac<|jS h)
def It(a0:List ZB)(u1:Int)(u0:Nat):Option (Ctl (Int×Nat) (Ctl Int Int)):=
 cond (decide ((u0:Int)<(a0.length:Int)))
 ((a0[u0]?).bind fun x15=>
 (Rf x15.1 x15.2.1 x15.2.2 u1).bind fun y16=>
 cond (decide (y16<0))
  (some (.out (.out (-1))))
  (og (u0+1<4611686018427387904)<|
  some (.next (y16,u0+1))))
 (some (.out (.next u1)))
def M2(a0:List ZB)(a1:Int):Option Int:=
 cond (decide (wI (a1 - (a0.length:Int))<0))
 (some (-1))
 (Dg (Aq (fun s_:Int×Nat=>It a0 s_.1 s_.2) 4611686018427387904 (wI (a1 - (a0.length:Int)),0)) fun u0=>
 some u0)
theorem Abt(h:M2 hA bA=some bB):cK 28 [.tree Y8 hA,ai bA] (A8 bB):=by
 refine cO Tryz.func28<|Ae<|Ae<|Ab<|Ae (kQ h (fun _ h=>Ae<|Ac<|tr_<|jS h) fun _ h=>skW (sqC h (fun u0=>sT [(1,ai u0)] []) ?_ fun u0 h=>Ae<|Ac<|jS h));intro _ h hk7;refine Ae<|Ad<|lpF h (fun (u1,u2)=>sT [(0,.tree Y8 hA),(1,ai u1),(5,an u2)] []) (Ag []) ?_;rintro n_ ⟨u1,u2⟩ c_ h hn9;exact Ab<|Ae (kQ h (fun _ h=>skW<|Ab<|Ad<|Ab<|Aa 13<|rsT 2 (riH Y8 h fun x15 _ h=>rsT 2 (rcH h Ae3 fun y16 h=>rsT 1<|rnW<|Ae (kQ h (fun _ h=>Ae<|Ac<|br_<|tr_<|tr_<|br_<|tr_ (have h:=jO h hn9;(have h:=jO h hk7;jS h))) fun _ h=>Ay<|bn_<|tn_<|wr_<|Aa 18<|rsT 1 (raH h fun h=>rsT 1<|Ao<|tn_<|jL []))))) fun _ h=>lxT (have h:=jO h hn9;jC []))
def Rh(u0 u1:Int)(u2:ByteArray):Option ZB:=
 some (u0,u1,u2)
def Adv(r:ZB):RV:=⟨false,[(true,[.sc (.int .i64 r.1),.sc (.int .i64 r.2.1),.sc (.str r.2.2)])]⟩
theorem Af0(h:Rh bA bB gA=some iA):cK 60 [.agg [ai bA,ai bB,.str gA]] (Adv iA):=by
 exact cO Tryz.func60<|Ae<|Ae<|Ae<|Ae<|Ae<|Ae<|Ac<|jS h
def Ir(a0:List ZB)(u0:Nat)(u1:List ZB):Option (Ctl (Nat×(List ZB)) (List ZB)):=
 cond (decide ((u0:Int)<(a0.length:Int)))
 ((a0[u0]?).bind fun x11=>
 (Rh x11.1 x11.2.1 x11.2.2).bind fun y12=>
 (u1[u0]?).bind fun x13=>
 og (u0+1<4611686018427387904)<|
 some (.next (u0+1,u1.set u0 y12)))
 (some (.out u1))
def Mn(a0:List ZB):Option (List ZB):=
 og (0<=(a0.length:Int)/\(a0.length:Int)<=(a0.length:Int)/\(a0.length:Int)<=1073741824/\(32:Int)*(a0.length:Int)<=140737488355328)<|
(Aq (fun s_:Nat×(List ZB)=>Ir a0 s_.1 s_.2) 4611686018427387904 (0,replicate a0.length ((0,0,(⟨#[]⟩:ByteArray)):ZB))).bind fun u0=>
some u0
def Ab7(r:List ZB):RV:=⟨false,[(false,[.new 88 Y8 r])]⟩
theorem Acb(h:Mn hA=some hB):cK 31 [.tree Y8 hA] (Ab7 hB):=by
 refine cO Tryz.func31<|Ae<|Ab<|Aa 6<|rsT 2 ?_;have ⟨g3,h⟩:=Aj h;refine rs1 (.own (oi 7 4) Y8 0 hA.length) (oi 7 4) (.arr 88 Y8<|replicate hA.length ((0,0,(⟨#[]⟩:ByteArray)):ZB)) (Qh (t:=Y8) (k:=.i64) (k':=.i64) (m:=(hA.length:Int)) (m':=(hA.length:Int)) kr kr g3 rfl)<|rsT 1<|rnW (sqF h (fun u2=>sT [(3,.own (oi 0 1) Y8 0 u2.length)] [(oi 0 1,.arr 88 Y8 u2)]) ?_ fun u2 h=>Ae<|Ac<|jR h [.own (oi 0 1) Y8 0 u2.length]<|H6 rfl (Ec kr rfl) H0);intro _ h;refine Ae<|Ad<|lpF h (fun (u1,u0)=>sT [(0,.tree Y8 hA),(3,.own (oi 0 1) Y8 0 u0.length),(4,an u1)] [(oi 0 1,.arr 88 Y8 u0)]) ((wL 3 (length_replicate.symm:hA.length=(replicate hA.length ((0,0,(⟨#[]⟩:ByteArray)):ZB)).length)).trans<|Ag [(oi 0 1,oi 7 4)]) ?_;rintro n_ ⟨u1,u0⟩ c_ h hn6;refine Ab<|Ae (kQ h (fun _ h=>skW<|Ab<|Ad<|Aa 15<|rsT 4 (riH Y8 h fun x11 _ h=>rsT 1 (rcH h Af0 fun y12 h=>?_))) fun _ h=>lxT (have h:=jO h hn6;jE []));have ⟨x13,e13,h⟩:=Ah h;refine rs0 (.elt (oi 0 1) u1 0) (zo (t:=Y8) (o:=oi 0 1) (len:=u0.length) (k:=.i64) (m:=(u1:Int)) (D7 _)<|Ai e13)<|Al0 (oi 0 1) (oi 0 1) (.arr 88 Y8<|u0.set u1 y12) (Ag5 (i:=oi 0 1) (j:=u1) (k:=0) (e:=88) (t:=Y8) (xs:=u0) (cs:=[ai y12.1,ai y12.2.1,.str y12.2.2]) (x1:=y12) kr kr e13 kr kr)<|Ao<|bn_<|tn_<|wr_<|Aa 18<|rsT 1 (raH h fun h=>rsT 1<|Ao<|tn_ ?_);cases h;exact jLw hn6<|(wL 3 (((rfl:u0.length=u0.length).trans length_set.symm):u0.length=(u0.set u1 y12).length)).trans<|Ag []
def Rb(u0 u1:Int)(u2:ByteArray)(u3 u4:Int)(u5:ByteArray):Option Bool:=
 cond (u0 !=u3)
 (some false)
 (cond (u1 !=u4)
  (some false)
  (cond (!(u2.toList==u5.toList))
   (some false)
   (some true)))
theorem Aep(h:Rb bA bB gA bC bD gB=some cA):cK 72 [.agg [ai bA,ai bB,.str gA],.agg [ai bC,ai bD,.str gB]] (An cA):=by
 exact cO Tryz.func72<|Ae<|Ab<|Ae (kQ h (fun _ h=>Ae<|Ac<|tr_<|jS h) fun _ h=>skW<|Ab<|Ae (kQ h (fun _ h=>Ae<|Ac<|tr_<|jS h) fun _ h=>skW<|Ab<|Ae (kQ h (fun _ h=>Ae<|Ac<|tr_<|jS h) fun _ h=>skW<|Ae<|Ac<|jS h)))
def Iw(a0:List ZB)(a1:List ZB)(u0:Nat):Option (Ctl Nat (Ctl Unit Bool)):=
 cond (decide ((u0:Int)<(a0.length:Int)))
 ((a0[u0]?).bind fun x14=>
 (a1[u0]?).bind fun x15=>
 (Rb x14.1 x14.2.1 x14.2.2 x15.1 x15.2.1 x15.2.2).bind fun y16=>
 cond (!y16)
  (some (.out (.out false)))
  (og (u0+1<4611686018427387904)<|
  some (.next (u0+1))))
 (some (.out (.next ())))
def Mc(a0:List ZB)(a1:List ZB):Option Bool:=
 cond ((a0.length:Int) !=(a1.length:Int))
 (some false)
 (Dg (Aq (fun s_:Nat=>Iw a0 a1 s_) 4611686018427387904 0) fun _=>
 some true)
theorem Ab6(h:Mc hA hB=some cA):cK 35 [.tree Y8 hA,.tree Y8 hB] (An cA):=by
 exact cO Tryz.func35<|Ae<|Ab<|Ae (kQ h (fun _ h=>Ae<|Ac<|tr_<|jS h) fun _ h=>skW (sqC h (fun _=>sT [] []) (fun _ h hk6=>Ae<|Ad<|lpF h (fun u0=>sT [(0,.tree Y8 hA),(1,.tree Y8 hB),(5,an u0)] []) (Ag []) fun n_ u0 c_ h hn8=>Ab<|Ae (kQ h (fun _ h=>skW<|Ab<|Ad<|Ab<|Al 16<|ds0 (.tree Y8 hA) kr<|ds0 (an u0) kr (diH Y8 h fun x14 _ h=>dsT 3 (diH Y8 h fun x15 _ h=>ds0 (.agg [ai x15.1,ai x15.2.1,.str x15.2.2]) kr (dcH h Aep fun y16 h=>ds0 (.bool<|!y16) kr<|Cb (As kr)<|tn_<|wr_ (kQ h (fun _ h=>Ae<|Ac<|br_<|tr_<|tr_<|br_<|tr_ (have h:=jO h hn8;(have h:=jO h hk6;jS h))) fun _ h=>Ay<|bn_<|tn_<|wr_<|Aa 19<|rsT 1 (raH h fun h=>rsT 1<|Ao<|tn_<|jL [])))))) fun _ h=>lxT (have h:=jO h hn8;jC []))) fun _ h=>Ae<|Ac<|jS h))
def Ia(u0:List ZB)(a1:Int):Option Int:=
 (M2 u0 a1).bind fun y3=>
cond (decide (y3<0))
 (some (-1))
 (some y3)
theorem U7(h:Ia hA bA=some bB):cK 7 [.agg [.tree Y8 hA],ai bA] (A8 bB):=by
 exact cO Tryz.func7<|Ae<|Ab<|Aa 8<|rsT 3 (rcH h Abt fun y3 h=>rsT 1<|rnW<|Ab<|Ae (kQ h (fun _ h=>Ae<|Ac<|tr_<|jS h) fun _ h=>skW<|Ae<|Ac<|jS h))
def Nr(u0:List ZB):Option (List ZB):=
 (Mn u0).bind fun y4=>
some y4
def Adi(r:List ZB):RV:=⟨false,[(true,[.new 88 Y8 r])]⟩
theorem T9(h:Nr hA=some hB):cK 10 [.agg [.tree Y8 hA]] (Adi hB):=by
 exact cO Tryz.func10<|Ae<|Ae<|Ab<|Aa 9<|rsT 2 (rcH h Acb fun y4 h=>rsB 2<|rnW<|Ae<|Ac<|jR h [.agg [.own (oi 96 6) Y8 0 y4.length]]<|V7 (E9 (Ec kr rfl) X1) H0)
def N1(u0:List ZB)(u1:List ZB):Option Bool:=
 (Mc u0 u1).bind fun y4=>
cond (!y4)
 (some false)
 (some true)
theorem Ve(h:N1 hA hB=some cA):cK 14 [.agg [.tree Y8 hA],.agg [.tree Y8 hB]] (An cA):=by
 exact cO Tryz.func14<|Ae<|Ab<|Ab<|Aa 10<|rsT 4 (rcH h Ab6 fun y4 h=>rsT 1<|rnW (kQ h (fun _ h=>Ae<|Ac<|tr_<|jS h) fun _ h=>skW<|Ae<|Ac<|jS h))
def Hq(u0:ByteArray)(u1:List ZB)(u2 u3:Int)(u4:LL)(a1:Int):Option Int:=
 cond (decide (wI (a1 - (u0.size:Int))<0))
 (some (-1))
 ((Ia u1 (wI (a1 - (u0.size:Int)))).bind fun y8=>
 cond (decide (y8<0))
  (some (-1))
  ((Iu u2 u3 u4 y8).bind fun y14=>
  cond (decide (y14<0))
   (some (-1))
   (some y14)))
theorem V4(h:Hq gA hA bA bB dA bC=some bD):cK 21 [.agg [.str gA,.tree Y8 hA,ai bA,ai bB,tS dA],ai bC] (A8 bD):=by
 exact cO Tryz.func21<|Ae<|Ae<|Ab<|Ae (kQ h (fun _ h=>Ae<|Ac<|tr_<|jS h) fun _ h=>skW<|Ab<|Aa 16<|rsT 3 (rcH h U7 fun y8 h=>rsT 1<|rnW<|Ab<|Ae (kQ h (fun _ h=>Ae<|Ac<|tr_<|jS h) fun _ h=>skW<|Ab<|Aa 23<|rsT 3 (rcH h Wt fun y14 h=>rsT 1<|rnW<|Ab<|Ae (kQ h (fun _ h=>Ae<|Ac<|tr_<|jS h) fun _ h=>skW<|Ae<|Ac<|jS h)))))
def Lx(u4:ByteArray)(u0:List ZB)(u1 u2:Int)(u3:LL):Option ((List ZB)×LL):=
 (Nr u0).bind fun y6=>
(Ip u1 u2 u3).bind fun y8=>
some (y6,y8)
theorem V0(h:Lx gA hA bA bB dA=some jA):Ed Tryz.prog Tab 23 [.agg [.str gA,.tree Y8 hA,ai bA,ai bB,tS dA]] [] (.agg [.str gA,.own (oi 1 1) Y8 0 jA.1.length,ai bA,ai bB,oS 2 1 jA.2.length]) [(oi 0 1,.cells 51 [.str gA,.own (oi 1 1) Y8 0 jA.1.length,ai bA,ai bB,oS 2 1 jA.2.length]),(oi 1 1,.arr 88 Y8 jA.1),(oi 2 1,.mat 81 (oi 3 1) .int jA.2),(oi 3 1,.pool 3 .int jA.2)]:=by
 refine B8 kr Tryz.func23 (Ck kr) (n:=16) kr fS rfl kr trivial ⟨trivial,⟨trivial,⟨⟨3,.tail _<|.tail _<|.tail _<|.head _⟩,⟨trivial,trivial⟩⟩⟩⟩<|Ae<|Ae<|Ae<|Ab<|Aa 13<|rsT 2 (rcH h T9 fun y6 h=>rsB 2<|rnW<|Ab<|Aa 18<|rsT 2 (rcM h [] [.agg [ai bA,ai bB,tS dA]] Xa trivial (aR kr) (Bb kr kr trivial) fun y8 h=>rsB 2<|rnW<|Ae<|Ac ?_));cases h;exact E4 [.agg [.str gA,.own (oi 1 1) Y8 0 y6.length,ai bA,ai bB,oS 2 1 y8.length]]<|Ag (tl:=[(2,.box (oi 0 1) 0)]) (g:=2) [(oi 0 1,oi 2 2),(oi 1 1,oi 144 10),(oi 2 1,oi 209 15),(oi 3 1,oi 210 15)]
def Hp(u0:ByteArray)(u1:List ZB)(u2 u3:Int)(u4:LL)(u5:ByteArray)(u6:List ZB)(u7 u8:Int)(u9:LL):Option Bool:=
 cond (!(u0.toList==u5.toList))
 (some false)
 ((N1 u1 u6).bind fun y8=>
 cond (!y8)
  (some false)
  ((I2 u2 u3 u4 u7 u8 u9).bind fun y13=>
  cond (!y13)
   (some false)
   (some true)))
theorem V6(h:Hp gA hA bA bB dA gB hB bC bD dB=some cA):cK 25 [.agg [.str gA,.tree Y8 hA,ai bA,ai bB,tS dA],.agg [.str gB,.tree Y8 hB,ai bC,ai bD,tS dB]] (An cA):=by
 exact cO Tryz.func25<|Ae<|Ab<|Ae (kQ h (fun _ h=>Ae<|Ac<|tr_<|jS h) fun _ h=>skW<|Ab<|Ab<|Aa 15<|rsT 4 (rcH h Ve fun y8 h=>rsT 1<|rnW (kQ h (fun _ h=>Ae<|Ac<|tr_<|jS h) fun _ h=>skW<|Ab<|Ab<|Aa 21<|rsT 4 (rcH h P2 fun y13 h=>rsT 1<|rnW (kQ h (fun _ h=>Ae<|Ac<|tr_<|jS h) fun _ h=>skW<|Ae<|Ac<|jS h)))))
def Jg(a0:Int):Option Bool:=
 (cond (decide (97<=a0))
  (some (decide (a0<=122)))
  (some false)).bind fun u0=>
some u0
theorem Tq(h:Jg bA=some cA):cK 122 [.int .u8 bA] (An cA):=by
 exact cO Tryz.func122<|Ae (sqF h (fun u0=>sT [(2,.bool u0)] []) (fun _ h=>Aa 9<|rsT 3 (kR h 5 (fun _ h=>rsT 4<|Ao<|tn_<|jE []) fun _ h=>rsT 4<|Ao<|tn_<|jE [])) fun u0 h=>Ac<|jS h)
def M8  : Option (List ByteArray):=
 some ([(⟨#[]⟩:ByteArray),(⟨#[105,100]⟩:ByteArray),(⟨#[115,119,97,112]⟩:ByteArray),(⟨#[99,111,112,121]⟩:ByteArray),(⟨#[100,105,115,99,97,114,100]⟩:ByteArray),(⟨#[97,100,100]⟩:ByteArray),(⟨#[122,101,114,111]⟩:ByteArray),(⟨#[115,99,97,108,101]⟩:ByteArray),(⟨#[100,101,108,97,121]⟩:ByteArray),(⟨#[99,111,99,111,112,121]⟩:ByteArray),(⟨#[99,111,100,105,115,99,97,114,100]⟩:ByteArray),(⟨#[99,111,97,100,100]⟩:ByteArray),(⟨#[99,111,122,101,114,111]⟩:ByteArray),(⟨#[99,111,115,99,97,108,101]⟩:ByteArray),(⟨#[99,111,100,101,108,97,121]⟩:ByteArray)])
def Qw(r:List ByteArray):RV:=⟨false,[(false,[.new 9 .str r])]⟩
theorem Zf(h:M8=some kA):cK 158 [] (Qw kA):=by
 exact cO Tryz.func158<|Ae<|Ae<|Ac<|jR h [.own (oi 1 2) .str 0 15]<|H6 rfl (Ec kr rfl) H0
def Fj(y4:List ByteArray)(a0:ByteArray)(u0:Nat):Option (Ctl Nat (Ctl Unit Int)):=
 cond (decide ((u0:Int)<(y4.length:Int)))
 ((y4[u0]?).bind fun x11=>
 cond (x11.toList==a0.toList)
  (some (.out (.out (u0:Int))))
  (og (u0+1<4611686018427387904)<|
  some (.next (u0+1))))
 (some (.out (.next ())))
def N7(a0:ByteArray):Option Int:=
 Dg ((M8).bind fun y4=>
 Aq (fun s_:Nat=>Fj y4 a0 s_) 4611686018427387904 0) fun _=>
some 17
theorem Adg(h:N7 gA=some bA):cK 123 [.str gA] (A8 bA):=by
 refine cO Tryz.func123<|Ae (sqC h (fun _=>sT [] []) ?_ fun _ h=>Ae<|Ac<|jS h);intro _ h hk2;refine Ab<|Aa 5 (rcH h Zf fun y4 h=>rsT 2<|rnW<|Ad<|lpF h (fun u0=>sT [(0,.str gA),(5,.own (oi 0 1) .str 0 y4.length),(6,an y4.length),(7,an u0)] [(oi 0 1,.arr 9 .str y4)]) (Ag [(oi 0 1,oi 80 2)]) ?_);intro n_ u0 c_ h hn5;refine Ae<|Ab (kQ h (fun _ h=>skW<|Ab<|Ad<|Ab<|Aa 8<|rsT 1 ?_) fun _ h=>lxT (have h:=jO h hn5;jC []));have ⟨x11,e11,h⟩:=Ah h;exact zO (oi 0 1) .str y4.length (Ai e11)<|rsl (.str x11) (Hh (i:=oi 0 1) (j:=u0) (k:=0) (e:=9) (t:=.str) (xs:=y4) kr kr e11 kr)<|rsT 2<|rnW<|Ae (kQ h (fun _ h=>Ae<|Ac<|br_<|tr_<|tr_<|br_<|tr_ (have h:=jO h hn5;(have h:=jO h hk2;jS h))) fun _ h=>Ay<|bn_<|tn_<|wr_<|Aa 13 (raH h fun h=>rsT 1<|Ao<|tn_<|jL []))
def Mv(a0:Int):Option Bool:=
 (cond (decide (48<=a0))
  (some (decide (a0<=57)))
  (some false)).bind fun u0=>
some u0
theorem Aca(h:Mv bA=some cA):cK 124 [.int .u8 bA] (An cA):=by
 exact cO Tryz.func124<|Ae (sqF h (fun u0=>sT [(2,.bool u0)] []) (fun _ h=>Aa 9<|rsT 3 (kR h 5 (fun _ h=>rsT 4<|Ao<|tn_<|jE []) fun _ h=>rsT 4<|Ao<|tn_<|jE [])) fun u0 h=>Ac<|jS h)
def Js(a0:ByteArray)(u0:Nat):Option (Ctl Nat (Ctl Unit Bool)):=
 cond (decide ((u0:Int)<(a0.size:Int)))
 (((a0[u0]?).bind fun x21=>
  (Jg (x21.toNat:Int)).bind fun y22=>
  cond (!y22)
   ((a0[u0]?).bind fun x24=>
   (Mv (x24.toNat:Int)).bind fun y25=>
   some (!y25))
   (some false)).bind fun u1=>
 cond u1
  (some (.out (.out false)))
  (og (u0+1<4611686018427387904)<|
  some (.next (u0+1))))
 (some (.out (.next ())))
def Ie(a0:ByteArray):Option Bool:=
 ((Ce (a0.size:Int) 1 8).bind fun y4=>
 cond (!y4)
  (some true)
  ((a0[0]?).bind fun x6=>
  (Jg (x6.toNat:Int)).bind fun y7=>
  cond (!y7)
   (some true)
   ((N7 a0).bind fun y9=>
   some (y9 !=17)))).bind fun u0=>
cond u0
 (some false)
 (Dg (Aq (fun s_:Nat=>Js a0 s_) 4611686018427387904 0) fun _=>
 some true)
theorem U8(h:Ie gA=some cA):cK 85 [.str gA] (An cA):=by
 refine cO Tryz.func85<|Ae<|Ab<|sqF h (fun u1=>sT [(0,.str gA),(18,.bool u1)] []) ?_ ?_
 ·intro _ h;refine Aa 17<|rsT 2 (rcH h C9 fun y4 h=>rsT 2 ?_);rcases A5 h with ⟨q5,h⟩|⟨q5,h⟩
  ·exact rq 8 q5<|rsT 10<|Ao<|tn_<|jE []
  refine rq 8 q5<|rsT 1 ?_;have ⟨x6,e6,h⟩:=Ah h;refine rs0 (.int .u8 (x6.toNat:Int)) (Pz (s:=gA) (k:=.i64) (m:=0) kr kr (by decide) rfl e6) (rcH h Tq fun y7 h=>rsT 3 ?_);rcases A5 h with ⟨q8,h⟩|⟨q8,h⟩
  ·exact rq 14 q8<|rsT 4<|Ao<|tn_<|jE []
  exact rq 14 q8<|rsT 1 (rcH h Adg fun y9 h=>rsT 2<|Ao<|tn_<|jE [])
 intro u1 h;refine kQ h (fun _ h=>Ae<|Ac<|tr_<|jS h) fun _ h=>skW (sqC h (fun _=>sT [] []) ?_ fun _ h=>Ae<|Ac<|jS h)
 intro _ h hk12;refine Ae<|Ad<|lpF h (fun u0=>sT [(0,.str gA),(20,an gA.size),(21,an u0)] []) (Ag []) ?_;intro n_ u0 c_ h hn14;refine Ae<|Ab (kQ h (fun _ h=>skW<|Ab<|Ad<|Ae (sqF h (fun u2=>sT [(0,.str gA),(20,an gA.size),(21,an u0),(35,.bool u2)] []) ?_ fun u2 h=>kQ h (fun _ h=>Ae<|Ac<|br_<|tr_<|tr_<|br_<|tr_ (have h:=jO h hn14;(have h:=jO h hk12;jS h))) fun _ h=>Ay<|bn_<|tn_<|wr_<|Aa 4 (raH h fun h=>rsT 1<|Ao<|tn_<|jL []))) fun _ h=>lxT (have h:=jO h hn14;jC []));intro _ h;refine Aa 17<|rsT 2 ?_;have ⟨x21,e21,h⟩:=Ah h;refine rs0 (.int .u8 (x21.toNat:Int)) (Pz (s:=gA) (k:=.i64) (m:=(u0:Int)) kr kr (D7 _) rfl e21) (rcH h Tq fun y22 h=>rsT 2 ?_);rcases A5 h with ⟨q23,h⟩|⟨q23,h⟩
 ·refine rq 29 q23<|rsT 2 ?_;have ⟨x24,e24,h⟩:=Ah h;exact rs0 (.int .u8 (x24.toNat:Int)) (Pz (s:=gA) (k:=.i64) (m:=(u0:Int)) kr kr (D7 _) rfl e24) (rcH h Aca fun y25 h=>rsT 2<|Ao<|tn_<|jE [])
 exact rq 29 q23<|rsT 6<|Ao<|tn_<|jE []
def Lo(a0:Int):Option Bool:=
 (Ce a0 3 14).bind fun y3=>
some y3
theorem V2(h:Lo bA=some cA):cK 163 [ai bA] (An cA):=by
 exact cO Tryz.func163<|Ae<|Ab<|Aa 5<|rsT 1 (rcH h C9 fun y3 h=>rsT 1<|rnW<|Ac<|jS h)
def E0(a0:Int):Option Bool:=
 (cond (a0==7)
  (some true)
  (some (a0==13))).bind fun u0=>
some u0
theorem Nl(h:E0 bA=some cA):cK 67 [ai bA] (An cA):=by
 exact cO Tryz.func67<|Ae (sqF h (fun u0=>sT [(2,.bool u0)] []) (fun _ h=>Aa 9<|rsT 3 (kR h 5 (fun _ h=>rsT 4<|Ao<|tn_<|jE []) fun _ h=>rsT 4<|Ao<|tn_<|jE [])) fun u0 h=>Ac<|jS h)
def G0(a0 a1:Int):Option Bool:=
 (E0 a0).bind fun y4=>
cond y4
 ((Ce a1 0 96).bind fun y7=>
 some y7)
 (some (a1==0))
theorem Rg(h:G0 bA bB=some cA):cK 164 [ai bA,ai bB] (An cA):=by
 exact cO Tryz.func164<|Ae<|Ab<|Ab<|Aa 4<|rsT 1 (rcH h Nl fun y4 h=>rnW (kQ h (fun _ h=>Ab<|Aa 7<|rsT 1 (rcH h C9 fun y7 h=>rsT 1<|rnW<|Ac<|tr_<|jS h)) fun _ h=>skW<|Ae<|Ac<|jS h))
def Fm(u0 u1:Int)(u2:ByteArray):Option (Int×Int×Bool):=
 cond (!(u2.toList==(⟨#[]⟩:ByteArray).toList))
 (some (0,0,false))
 (cond (u0==1)
  ((Ce u1 0 12).bind fun y9=>
  some (u1,u1,y9))
  (cond (u0==2)
   (some (2,2,u1==0))
   ((Lo u0).bind fun y14=>
   cond y14
    ((D3 u0).bind fun y17=>
    (G0 u0 u1).bind fun y18=>
    some (y17.1,y17.2,y18))
    (some (0,0,false)))))
def Es(r:Int×Int×Bool):RV:=⟨true,[(true,[.sc (.int .i64 r.1),.sc (.int .i64 r.2.1)]),(false,[.sc (.bool r.2.2)])]⟩
theorem Q7(h:Fm bA bB gA=some lA):cK 128 [.agg [ai bA,ai bB,.str gA]] (Es lA):=by
 exact cO Tryz.func128<|Ae<|Ab<|Ad<|Ae (kQ h (fun _ h=>Ae<|Ac<|br_<|tr_<|jS h) fun _ h=>Ae (kQ h (fun _ h=>Ab<|Al 22<|dsT 7 (dcH h C9 fun y9 h=>J4 (oi 2 2) (oi 2 2) (.cells 114 [ai bB,ai bB]) kr<|ds0 (.bool y9) kr<|Cb (As kr)<|tn_<|wr_<|Ac<|br_<|tr_<|jS h)) fun _ h=>Ae (kQ h (fun _ h=>Ab<|Al 22<|dsT 4<|J4 (oi 2 2) (oi 2 2) (.cells 114 [ai 2,ai 2]) kr<|ds0 (.bool<|bB==0) kr<|Cb (As kr)<|tn_<|wr_<|Ac<|br_<|tr_<|jS h) fun _ h=>Ab<|Aa 20<|rsT 2 (rcH h V2 fun y14 h=>rsT 1<|rnW (kQ h (fun _ h=>Ab<|Al 30<|ds0 (.box (oi 1 1) 0) kr<|dsl (ai bA) kr (dcH h Hu fun y17 h=>dsT 4 (dcH h Rg fun y18 h=>J4 (oi 2 2) (oi 2 2) (.cells 114 [ai y17.1,ai y17.2]) kr<|ds0 (.bool y18) kr<|Cb (As kr)<|tn_<|wr_<|Ac<|br_<|tr_<|jS h))) fun _ h=>Ay<|bn_<|tn_<|wr_<|Ae<|Ac<|jS h)))))
def Cl(a0:ByteArray)(u0:Nat):Option (Ctl Nat (Ctl Unit Bool)):=
 cond (decide ((u0:Int)<(a0.size:Int)))
 (((a0[u0]?).bind fun x19=>
  cond (decide ((x19.toNat:Int)<97))
   ((a0[u0]?).bind fun x21=>
   cond (decide ((x21.toNat:Int)<48))
    (some true)
    ((a0[u0]?).bind fun x23=>
    some (decide (57<(x23.toNat:Int)))))
   ((a0[u0]?).bind fun x24=>
   cond (decide (122<(x24.toNat:Int)))
    ((a0[u0]?).bind fun x26=>
    cond (decide ((x26.toNat:Int)<48))
     (some true)
     ((a0[u0]?).bind fun x28=>
     some (decide (57<(x28.toNat:Int)))))
    (some false))).bind fun u1=>
 cond u1
  (some (.out (.out false)))
  (og (u0+1<4611686018427387904)<|
  some (.next (u0+1))))
 (some (.out (.next ())))
def Rt(a0:ByteArray):Option Bool:=
 ((Cv (a0.size:Int) 1 8).bind fun y4=>
 cond (!y4)
  (some true)
  ((a0[0]?).bind fun x6=>
  cond (decide ((x6.toNat:Int)<97))
   (some true)
   ((a0[0]?).bind fun x8=>
   some (decide (122<(x8.toNat:Int)))))).bind fun u0=>
cond u0
 (some false)
 (Dg (Aq (fun s_:Nat=>Cl a0 s_) 4611686018427387904 1) fun _=>
 some true)
theorem Af9(h:Rt gA=some cA):cK 116 [.str gA] (An cA):=by
 refine cO Tryz.func116<|Ae<|Ab<|sqF h (fun u1=>sT [(0,.str gA),(17,.bool u1)] []) ?_ ?_
 ·intro _ h;refine Aa 16<|rsT 2 (rcH h Db fun y4 h=>rsT 2 ?_);rcases A5 h with ⟨q5,h⟩|⟨q5,h⟩
  ·exact rq 8 q5<|rsT 9<|Ao<|tn_<|jE []
  refine rq 8 q5<|rsT 1 ?_;have ⟨x6,e6,h⟩:=Ah h;refine rs0 (.int .u8 (x6.toNat:Int)) (Pz (s:=gA) (k:=.i64) (m:=0) kr kr (by decide) rfl e6)<|rsT 3 ?_;rcases A5 h with ⟨q7,h⟩|⟨q7,h⟩
  ·exact rq 13 q7<|rsT 4<|Ao<|tn_<|jE []
  refine rq 13 q7<|rsT 1 ?_;have ⟨x8,e8,h⟩:=Ah h;exact rs0 (.int .u8 (x8.toNat:Int)) (Pz (s:=gA) (k:=.i64) (m:=0) kr kr (by decide) rfl e8)<|rsT 2<|Ao<|tn_<|jE []
 intro u1 h;refine kQ h (fun _ h=>Ae<|Ac<|tr_<|jS h) fun _ h=>skW (sqC h (fun _=>sT [] []) ?_ fun _ h=>Ae<|Ac<|jS h)
 intro _ h hk11;refine Ae<|Ad<|lpF h (fun u0=>sT [(0,.str gA),(3,an u0)] []) (Ag []) ?_;intro n_ u0 c_ h hn13;refine Ab<|Ae (kQ h (fun _ h=>skW<|Ab<|Ad (sqF h (fun u2=>sT [(0,.str gA),(3,an u0),(45,.bool u2)] []) ?_ fun u2 h=>kQ h (fun _ h=>Ae<|Ac<|br_<|tr_<|tr_<|br_<|tr_ (have h:=jO h hn13;(have h:=jO h hk11;jS h))) fun _ h=>Ay<|bn_<|tn_<|wr_<|Aa 5<|rsT 1 (raH h fun h=>rsT 1<|Ao<|tn_<|jL []))) fun _ h=>lxT (have h:=jO h hn13;jC []));intro _ h;refine Aa 28<|rsT 2 ?_;have ⟨x19,e19,h⟩:=Ah h;refine rs0 (.int .u8 (x19.toNat:Int)) (Pz (s:=gA) (k:=.i64) (m:=(u0:Int)) kr kr (D7 _) rfl e19)<|rsT 2 ?_;rcases A5 h with ⟨q20,h⟩|⟨q20,h⟩
 ·refine rq 28 q20<|rsT 8 ?_;have ⟨x21,e21,h⟩:=Ah h;refine rs0 (.int .u8 (x21.toNat:Int)) (Pz (s:=gA) (k:=.i64) (m:=(u0:Int)) kr kr (D7 _) rfl e21)<|rsT 2 ?_;rcases A5 h with ⟨q22,h⟩|⟨q22,h⟩
  ·exact rq 39 q22<|rsT 6<|Ao<|tn_<|jE []
  refine rq 39 q22<|rsT 2 ?_;have ⟨x23,e23,h⟩:=Ah h;exact rs0 (.int .u8 (x23.toNat:Int)) (Pz (s:=gA) (k:=.i64) (m:=(u0:Int)) kr kr (D7 _) rfl e23)<|rsT 3<|Ao<|tn_<|jE []
 refine rq 28 q20<|rsT 2 ?_;have ⟨x24,e24,h⟩:=Ah h;refine rs0 (.int .u8 (x24.toNat:Int)) (Pz (s:=gA) (k:=.i64) (m:=(u0:Int)) kr kr (D7 _) rfl e24)<|rsT 3 ?_;rcases A5 h with ⟨q25,h⟩|⟨q25,h⟩
 ·refine rq 34 q25<|rsT 2 ?_;have ⟨x26,e26,h⟩:=Ah h;refine rs0 (.int .u8 (x26.toNat:Int)) (Pz (s:=gA) (k:=.i64) (m:=(u0:Int)) kr kr (D7 _) rfl e26)<|rsT 2 ?_;rcases A5 h with ⟨q27,h⟩|⟨q27,h⟩
  ·exact rq 39 q27<|rsT 6<|Ao<|tn_<|jE []
  refine rq 39 q27<|rsT 2 ?_;have ⟨x28,e28,h⟩:=Ah h;exact rs0 (.int .u8 (x28.toNat:Int)) (Pz (s:=gA) (k:=.i64) (m:=(u0:Int)) kr kr (D7 _) rfl e28)<|rsT 3<|Ao<|tn_<|jE []
 exact rq 34 q25<|rsT 5<|rs0 (.tup []) (Q9 kr)<|rs0 (.tup []) (Q9 kr)<|rs0 (.tup []) (Q9 kr)<|rs0 (.tup []) (Q9 kr)<|rsT 2<|Ao<|tn_<|jE []
def Mq  : Option (List ByteArray):=
 some ([(⟨#[105,100]⟩:ByteArray),(⟨#[115,119,97,112]⟩:ByteArray),(⟨#[99,111,112,121]⟩:ByteArray),(⟨#[100,105,115,99,97,114,100]⟩:ByteArray),(⟨#[97,100,100]⟩:ByteArray),(⟨#[122,101,114,111]⟩:ByteArray),(⟨#[115,99,97,108,101]⟩:ByteArray),(⟨#[100,101,108,97,121]⟩:ByteArray),(⟨#[99,111,99,111,112,121]⟩:ByteArray),(⟨#[99,111,100,105,115,99,97,114,100]⟩:ByteArray),(⟨#[99,111,97,100,100]⟩:ByteArray),(⟨#[99,111,122,101,114,111]⟩:ByteArray),(⟨#[99,111,115,99,97,108,101]⟩:ByteArray),(⟨#[99,111,100,101,108,97,121]⟩:ByteArray)])
theorem Ww(h:Mq=some kA):cK 118 [] (Qw kA):=by
 exact cO Tryz.func118<|Ae<|Ae<|Ac<|jR h [.own (oi 1 2) .str 0 14]<|H6 rfl (Ec kr rfl) H0
def Fh(a0:List ByteArray)(a1:ByteArray)(u0:Nat):Option (Ctl Nat (Ctl Unit Bool)):=
 cond (decide ((u0:Int)<(a0.length:Int)))
 ((a0[u0]?).bind fun x10=>
 cond (x10.toList==a1.toList)
  (some (.out (.out true)))
  (og (u0+1<4611686018427387904)<|
  some (.next (u0+1))))
 (some (.out (.next ())))
def N2(a0:List ByteArray)(a1:ByteArray):Option Bool:=
 Dg (Aq (fun s_:Nat=>Fh a0 a1 s_) 4611686018427387904 0) fun _=>
some false
theorem Adt(h:N2 kA gA=some cA):cK 117 [.tree .str kA,.str gA] (An cA):=by
 exact cO Tryz.func117<|Ae (sqC h (fun _=>sT [] []) (fun _ h hk2=>Ae<|Ad<|lpF h (fun u0=>sT [(1,.str gA),(7,.tree .str kA),(8,an kA.length),(9,an u0)] []) (Ag []) fun n_ u0 c_ h hn4=>Ae<|Ab (kQ h (fun _ h=>skW<|Ab<|Ad<|Ab<|Aa 6 (riH .str h fun x10 _ h=>rsT 2<|rnW<|Ae (kQ h (fun _ h=>Ae<|Ac<|br_<|tr_<|tr_<|br_<|tr_ (have h:=jO h hn4;(have h:=jO h hk2;jS h))) fun _ h=>Ay<|bn_<|tn_<|wr_<|Aa 11 (raH h fun h=>rsT 1<|Ao<|tn_<|jL [])))) fun _ h=>lxT (have h:=jO h hn4;jC []))) fun _ h=>Ae<|Ac<|jS h)
def N0(a0:ByteArray):Option Bool:=
 ((Rt a0).bind fun y3=>
 cond y3
  ((Mq).bind fun y5=>
  (N2 y5 a0).bind fun y6=>
  some (!y6))
  (some false)).bind fun u0=>
some u0
theorem Aek(h:N0 gA=some cA):cK 78 [.str gA] (An cA):=by
 refine cO Tryz.func78<|Ae (sqF h (fun u0=>sT [(2,.bool u0)] []) ?_ fun u0 h=>Ac<|jS h);intro _ h;refine Aa 11<|rsT 1 (rcH h Af9 fun y3 h=>rsT 1 ?_);rcases A5 h with ⟨q4,h⟩|⟨q4,h⟩
 ·exact rq 5 q4 (rcH h Ww fun y5 h=>rsT 1 (rcG h [.own (oi 96 5) .str 0 y5.length,.str gA] Adt (Au (G9 (e:=9) kr rfl)<|Au kr Dm) fun y6 h=>rsT 3<|Ao<|tn_<|jE []))
 exact rq 5 q4<|rsT 6<|Ao<|tn_<|jE []
set_option maxRecDepth 4000
set_option maxHeartbeats 4800000
variable{bA bB bC bD bE:Int}{cA:Bool}{lA:Int×Int×Bool}{hA:List ZB}{gA:ByteArray}{dA:LL}
def Nc(u0 u1:Int):Option Bool:=
 (cond (decide (u0<=12))
  (some (decide (u1<=12)))
  (some false)).bind fun u2=>
some u2
theorem Zk(h:Nc bA bB=some cA):cK 177 [.agg [ai bA,ai bB]] (An cA):=by
 exact cO Tryz.func177<|Ae (sqF h (fun u2=>sT [(2,.bool u2)] []) (fun _ h=>Aa 12<|rsT 4 (kR h 6 (fun _ h=>rsT 5<|Ao<|tn_<|jE []) fun _ h=>rsT 5<|Ao<|tn_<|jE [])) fun u2 h=>Ac<|jS h)
def Fk(a0 u0:Int)(u1 u2 u3:Int):Option (Int×Int×Bool):=
 cond (a0==15)
 (some (u0,u3,u1==u2))
 ((Nc (wI (u0+u2)) (wI (u1+u3))).bind fun y8=>
 some (wI (u0+u2),wI (u1+u3),y8))
theorem Q4(h:Fk bA bB bC bD bE=some lA):cK 153 [ai bA,.agg [ai bB,ai bC],.agg [ai bD,ai bE]] (Es lA):=by
 exact cO Tryz.func153<|Ae<|Ab<|Ae (kQ h (fun _ h=>Ab<|Al 19<|dsT 10<|J4 (oi 6 3) (oi 6 3) (.cells 114 [ai bB,ai bE]) kr<|ds0 (.bool<|bC==bD) kr<|Cb (As kr)<|tn_<|wr_<|Ac<|tr_<|jS h) fun _ h=>skW<|Ae<|Ab<|Al 25<|dsl (.agg [ai<|wI<|bB+bD,ai (wI<|bC+bE)]) kr<|dsl (.agg [ai<|wI<|bB+bD,ai (wI<|bC+bE)]) kr (dcH h Zk fun y8 h=>J4 (oi 6 3) (oi 6 3) (.cells 114 [ai<|wI<|bB+bD,ai (wI<|bC+bE)]) kr<|ds0 (.bool y8) kr<|Cb (As kr)<|tn_<|wr_<|Ac<|jS h))
def Ln(a0:List ZB)(u1:Nat)(u0:List (Int×Int)):Option (Ctl (Nat×(List (Int×Int))) (Ctl (List (Int×Int)) (Int×Int×Bool))):=
 cond (decide ((u1:Int)<(a0.length:Int)))
 (Dg ((a0[u1]?).bind fun x16=>
  (cond (x16.1 !=15)
    (some (x16.1 !=16))
    (some false)).bind fun u2=>
  cond u2
   ((Fm x16.1 x16.2.1 x16.2.2).bind fun y22=>
   cond (!y22.2.2)
    (some (.out (.out (.out (0,0,false)))))
    (og (u0.length+1<=1073741824/\(u0.length+1)*16<=140737488355328)<|
    some (.next (u0++([(y22.1,y22.2.1)])))))
   ((cond (x16.2.1 !=0)
     (some true)
     (cond (!(x16.2.2.toList==(⟨#[]⟩:ByteArray).toList))
      (some true)
      (some (decide ((u0.length:Int)<2))))).bind fun u3=>
   cond u3
    (some (.out (.out (.out (0,0,false)))))
    ((Bz u0 (wI ((wI ((u0.length:Int) - 1)) - 1))).bind fun x37=>
    (Bz u0 (wI ((wI ((u0.length:Int) - 1)) - 1))).bind fun x38=>
    (Bz u0 (wI ((u0.length:Int) - 1))).bind fun x39=>
    (Bz u0 (wI ((u0.length:Int) - 1))).bind fun x40=>
    (Fk x16.1 x38.1 x38.2 x40.1 x40.2).bind fun y41=>
    cond (!y41.2.2)
     (some (.out (.out (.out (0,0,false)))))
     (og ((0:Int)<=0/\0<=wI ((wI ((u0.length:Int) - 1)) - 1)/\wI ((wI ((u0.length:Int) - 1)) - 1)<=(u0.length:Int))<|
     og (((u0.take ((wI ((wI ((u0.length:Int) - 1)) - 1)).toNat)).length)+1<=1073741824/\(((u0.take ((wI ((wI ((u0.length:Int) - 1)) - 1)).toNat)).length)+1)*16<=140737488355328)<|
     some (.next ((u0.take ((wI ((wI ((u0.length:Int) - 1)) - 1)).toNat))++([(y41.1,y41.2.1)]))))))) fun u4=>
 og (u1+1<4611686018427387904)<|
 some (.next (u1+1,u4)))
 (some (.out (.next u0)))
def D1(a0:List ZB):Option (Int×Int×Bool):=
 (Ce (a0.length:Int) 1 400).bind fun y4=>
cond (!y4)
 (some (0,0,false))
 (Dg (Aq (fun s_:Nat×(List (Int×Int))=>Ln a0 s_.1 s_.2) 4611686018427387904 (0,[])) fun u0=>
 (u0[0]?).bind fun x50=>
 some (x50.1,x50.2,(u0.length:Int)==1))
theorem Mr(h:D1 hA=some lA):cK 108 [.tree Y8 hA,.fn 128 []] (Es lA):=by
 refine cO Tryz.func108<|Ae<|Ab<|Ab<|Aa 7<|rsT 2 (rcH h C9 fun y4 h=>rsT 1<|rnW (kQ h (fun _ h=>Ae<|Ac<|tr_<|jS h) fun _ h=>skW<|Ae<|sqC h (fun u1=>sT [(4,.box (oi 0 1) 0),(6,.own (oi 1 1) Y3 0 u1.length)] [(oi 0 1,.cells 114 [ai 0,ai 0]),(oi 1 1,.arr 114 Y3 u1)]) ?_ ?_))
 ·intro _ h hk8;refine Ae<|Ad<|lpF h (fun (u2,u0)=>sT [(1,.fn 128 []),(4,.box (oi 0 1) 0),(6,.own (oi 1 1) Y3 0 u0.length),(20,.tree Y8 hA),(21,an hA.length),(22,an u2)] [(oi 0 1,.cells 114 [ai 0,ai 0]),(oi 1 1,.arr 114 Y3 u0)]) (Ag [(oi 0 1,oi 4 1),(oi 1 1,oi 19 7)]) ?_;rintro n_ ⟨u2,u0⟩ c_ h hn10
  (try dsimp only at h);refine Ae<|Ab (kQ h (fun q13 h=>?_) fun q13 h=>?_)
  ·have q13_:=of_decide_eq_true q13;refine skW<|sqC h (fun u3=>sT [(1,.fn 128 []),(4,.box (oi 0 1) 0),(6,.own (oi 1 1) Y3 0 u3.length),(20,.tree Y8 hA),(21,an hA.length),(22,an u2)] [(oi 0 1,.cells 114 [ai 0,ai 0]),(oi 1 1,.arr 114 Y3 u3)]) ?_ ?_
   ·intro _ h hk14;refine Ad<|Ab<|Aa 7 (riH Y8 h fun x16 _ h=>rsB 3<|rnW<|Ab<|sqF h (fun u4=>sT [(1,.fn 128 []),(4,.box (oi 0 1) 0),(6,.own (oi 1 1) Y3 0 u0.length),(8,.box (oi 2 1) 0),(20,.tree Y8 hA),(21,an hA.length),(22,an u2),(33,.bool u4)] [(oi 0 1,.cells 114 [ai 0,ai 0]),(oi 1 1,.arr 114 Y3 u0),(oi 2 1,.cells 88 [ai x16.1,ai x16.2.1,.str x16.2.2])]) (fun _ h=>Aa 15<|rsT 4 (kR h 29 (fun _ h=>rsT 4<|Ao<|tn_<|jE [(oi 2 1,oi 8 5)]) fun _ h=>rsT 4<|Ao<|tn_<|jE [(oi 2 1,oi 8 5)])) ?_);intro u4 h
    (try dsimp only at h);refine kQ h (fun _ h=>?_) fun _ h=>?_
    ·refine Ab<|Aa 11<|rsT 2 (rcH h Q7 fun y22 h=>rsB 6<|rnW<|Ab<|Ae (kQ h (fun _ h=>?_) fun _ h=>?_))
     ·refine Ae<|Ac<|tr_<|tr_<|br_<|tr_<|tr_<|br_<|tr_ ?_;have h:=jO h hk14
      (try dsimp only at h);have h:=jO h hn10
      (try dsimp only at h);have h:=jO h hk8
      (try dsimp only at h);exact jS h
     refine skW<|Ab<|Aa 18<|rsB 3 ?_;have ⟨g28,h⟩:=Aj h;exact rs2 (.own (oi 1 16) Y3 0<|(u0++([(y22.1,y22.2.1)])).length) (oi 1 1) (oi 1 16) (.arr 114 Y3<|u0++([(y22.1,y22.2.1)])) (Qe (t:=Y3) (t':=Y3) (xs:=u0) (ys:=[(y22.1,y22.2.1)]) (zs:=u0++([(y22.1,y22.2.1)])) (j:=oi 1 1) (len:=u0.length) (c:=.own (oi 45 15) Y3 0 1) kr kr rfl kr (Ij (e:=114) kr rfl) rfl g28)<|rsT 1<|rnW<|D9<|te_<|be_<|tn_<|jC [(oi 1 1,oi 1 16)]
    refine skW<|Ab<|sqF h (fun u5=>sT [(1,.fn 128 []),(4,.box (oi 0 1) 0),(6,.own (oi 1 1) Y3 0 u0.length),(8,.box (oi 2 1) 0),(20,.tree Y8 hA),(21,an hA.length),(22,an u2),(59,.bool u5)] [(oi 0 1,.cells 114 [ai 0,ai 0]),(oi 1 1,.arr 114 Y3 u0),(oi 2 1,.cells 88 [ai x16.1,ai x16.2.1,.str x16.2.2])]) (fun _ h=>Aa 15<|rsT 4 (kR h 50 (fun _ h=>rsT 9<|Ao<|tn_<|jE []) fun _ h=>rsT 5 (kR h 55 (fun _ h=>rsT 4<|Ao<|tn_<|jE []) fun _ h=>rsT 4<|Ao<|tn_<|jE []))) ?_;intro u5 h
    (try dsimp only at h);refine kQ h (fun _ h=>?_) fun _ h=>?_
    ·refine Ae<|Ac<|tr_<|br_<|tr_<|tr_<|br_<|tr_ ?_;have h:=jO h hk14
     (try dsimp only at h);have h:=jO h hn10
     (try dsimp only at h);have h:=jO h hk8
     (try dsimp only at h);exact jS h
    refine skW<|Ae<|Ab<|Al 24<|dsT 5 ?_;have ⟨x37,f37,h⟩:=Ah h;have ⟨p37,b37,e37⟩:=Ar f37;refine ds0 (.elt (oi 1 1) ((wI<|(wI<|(u0.length:Int) - 1) - 1).toNat) 0) (zo (t:=Y3) (o:=oi 1 1) (len:=u0.length) (k:=.i64) (m:=wI<|(wI<|(u0.length:Int) - 1) - 1) p37<|Ai e37) ?_;have ⟨x38,f38,h⟩:=Ah h;have ⟨p38,b38,e38⟩:=Ar f38;refine dsl (.agg [ai x38.1,ai x38.2]) (Hh (i:=oi 1 1) (j:=(wI<|(wI<|(u0.length:Int) - 1) - 1).toNat) (k:=0) (e:=114) (t:=Y3) (xs:=u0) kr kr e38 kr)<|dz0 (.own (oi 1 1) Y3 0 u0.length)<|dz0 (ai<|wI<|(u0.length:Int) - 1) ?_;have ⟨x39,f39,h⟩:=Ah h;have ⟨p39,b39,e39⟩:=Ar f39;refine ds0 (.elt (oi 1 1) ((wI<|(u0.length:Int) - 1).toNat) 0) (zo (t:=Y3) (o:=oi 1 1) (len:=u0.length) (k:=.i64) (m:=wI<|(u0.length:Int) - 1) p39<|Ai e39) ?_;have ⟨x40,f40,h⟩:=Ah h;have ⟨p40,b40,e40⟩:=Ar f40;refine dsl (.agg [ai x40.1,ai x40.2]) (Hh (i:=oi 1 1) (j:=(wI<|(u0.length:Int) - 1).toNat) (k:=0) (e:=114) (t:=Y3) (xs:=u0) kr kr e40 kr) (dcH h Q4 fun y41 h=>dz0 (.tup [.agg [ai y41.1,ai y41.2.1],.bool y41.2.2])<|dz0 (.agg [ai y41.1,ai y41.2.1])<|dz0 (.bool y41.2.2)<|ds1 (.box (oi 12 21) 0) (oi 12 21) (.cells 114 [ai 0,ai 0]) kr<|J4 (oi 12 21) (oi 12 21) (.cells 114 [ai y41.1,ai y41.2.1]) kr<|dz0 (.bool y41.2.2)<|Cb (As kr)<|tn_<|wr_<|Ab<|Ae (kQ h (fun _ h=>?_) fun _ h=>?_))
    ·refine Ae<|Ac<|tr_<|br_<|tr_<|tr_<|br_<|tr_ ?_;have h:=jO h hk14
     (try dsimp only at h);have h:=jO h hn10
     (try dsimp only at h);have h:=jO h hk8
     (try dsimp only at h);exact jS h
    refine skW<|Al 34<|dsT 3 ?_;have ⟨g46,h⟩:=Aj h;have ⟨g47,h⟩:=Aj h;exact ds0 (.own (oi 1 1) Y3 0<|(wI<|(wI<|(u0.length:Int) - 1) - 1).toNat) (E2 (t:=Y3) (i:=oi 1 1) (off:=0) (len:=u0.length) (l:=0) (h:=wI<|(wI<|(u0.length:Int) - 1) - 1) kr kr kr rfl g46 rfl oM)<|dzl (.agg [ai y41.1,ai y41.2.1])<|ds1 (.own (oi 87 31) Y3 0 1) (oi 87 31) (.arr 114 Y3<|[(y41.1,y41.2.1)]) kr<|ds2 (.own (oi 1 32) Y3 0<|((u0.take<|(wI<|(wI<|(u0.length:Int) - 1) - 1).toNat)++([(y41.1,y41.2.1)])).length) (oi 1 1) (oi 1 32) (.arr 114 Y3<|(u0.take<|(wI<|(wI<|(u0.length:Int) - 1) - 1).toNat)++([(y41.1,y41.2.1)])) (Au6 (t:=Y3) (t':=Y3) (xs:=u0) (ys:=[(y41.1,y41.2.1)]) (zs:=(u0.take<|(wI<|(wI<|(u0.length:Int) - 1) - 1).toNat)++([(y41.1,y41.2.1)])) (j:=oi 1 1) (len:=(wI<|(wI<|(u0.length:Int) - 1) - 1).toNat) (c:=.own (oi 87 31) Y3 0 1) kr kr oM kr (Ij (e:=114) kr rfl) rfl g47)<|dz0 (.own (oi 1 32) Y3 0<|((u0.take<|(wI<|(wI<|(u0.length:Int) - 1) - 1).toNat)++([(y41.1,y41.2.1)])).length)<|Cb (As kr)<|bn_<|tn_<|jC [(oi 1 1,oi 1 32)]
   intro u3 h
   (try dsimp only at h);refine Aa 4 ?_;have ⟨g48,h⟩:=Aj h;exact zA g48<|rsT 1<|Ao<|tn_<|jL []
  have q13_:=of_decide_eq_false q13;refine lxT ?_;have h:=jO h hn10
  (try dsimp only at h);exact jC []
 intro u1 h
 (try dsimp only at h);refine Ab<|Aa 10<|rsT 1 ?_;have ⟨x50,e50,h⟩:=Ah h;exact rs0 (.elt (oi 1 1) 0 0) (Te (t:=Y3) (o:=oi 1 1) (len:=u1.length) (k:=.i64) (m:=0) kr kr rfl (by decide) rfl<|Ai e50)<|rsl (.agg [ai x50.1,ai x50.2]) (Hh (i:=oi 1 1) (j:=0) (k:=0) (e:=114) (t:=Y3) (xs:=u1) kr kr e50 kr)<|rsB 5<|rnW<|Ac<|jS h
def Gd(u0:List ZB):Option (Int×Int×Bool):=
 (D1 u0).bind fun y3=>
some (y3.1,y3.2.1,y3.2.2)
theorem Py(h:Gd hA=some lA):cK 88 [.agg [.tree Y8 hA]] (Es lA):=by
 exact cO Tryz.func88<|Ae<|Ab<|Aa 11<|rsT 2 (rcH h Mr fun y3 h=>rsB 4<|rnW<|Ac<|jS h)
def Kj(u0:List ZB):Option Bool:=
 (Gd u0).bind fun y3=>
some y3.2.2
theorem Um(h:Kj hA=some cA):cK 159 [.agg [.tree Y8 hA]] (An cA):=by
 exact cO Tryz.func159<|Ae<|Ab<|Aa 11<|rsT 1 (rcH h Py fun y3 h=>rsB 6<|rnW<|Ae<|Ac<|jS h)
def Fw(u1:List ZB)(a1:Int)(u0:Nat):Option (Ctl Nat (Ctl Unit Bool)):=
 cond (decide ((u0:Int)<(u1.length:Int)))
 ((u1[u0]?).bind fun x17=>
 ((E0 x17.1).bind fun y19=>
  cond y19
   (some (decide (a1<=x17.2.1)))
   (some false)).bind fun u2=>
 cond u2
  (some (.out (.out false)))
  (og (u0+1<4611686018427387904)<|
  some (.next (u0+1))))
 (some (.out (.next ())))
def Hx(u0:List ZB)(a1:Int):Option Bool:=
 ((Fo a1).bind fun y4=>
 cond (!y4)
  (some true)
  ((Kj u0).bind fun y6=>
  some (!y6))).bind fun u1=>
cond u1
 (some false)
 (Dg (Aq (fun s_:Nat=>Fw u0 a1 s_) 4611686018427387904 0) fun _=>
 some true)
theorem V1(h:Hx hA bA=some cA):cK 125 [.agg [.tree Y8 hA],ai bA] (An cA):=by
 refine cO Tryz.func125<|Ae<|Ab (sqF h (fun u2=>sT [(1,ai bA),(2,.box (oi 0 1) 0),(14,.bool u2)] [(oi 0 1,.cells 37 [.tree Y8 hA])]) ?_ fun u2 h=>kQ h (fun _ h=>Ae<|Ac<|tr_<|jS h) fun _ h=>skW (sqC h (fun _=>sT [] []) (fun _ h hk9=>Ae<|Ad<|lpF h (fun u1=>sT [(1,ai bA),(16,.tree Y8 hA),(17,an hA.length),(18,an u1)] []) (Ag []) fun n_ u1 c_ h hn11=>Ae<|Ab (kQ h (fun _ h=>skW<|Ab<|Ad<|Ab<|Aa 7 (riH Y8 h fun x17 _ h=>rsB 3<|rnW (sqF h (fun u3=>sT [(1,ai bA),(16,.tree Y8 hA),(17,an hA.length),(18,an u1),(30,.bool u3)] []) (fun _ h=>Aa 16<|rsT 2 (rcH h Nl fun y19 h=>rsT 1 (kR h 25 (fun _ h=>rsT 5<|Ao<|tn_<|jE []) fun _ h=>rsT 5<|Ao<|tn_<|jE []))) fun u3 h=>kQ h (fun _ h=>Ae<|Ac<|br_<|tr_<|tr_<|br_<|tr_ (have h:=jO h hn11;(have h:=jO h hk9;jS h))) fun _ h=>Ay<|bn_<|tn_<|wr_<|Aa 4 (raH h fun h=>rsT 1<|Ao<|tn_<|jL [])))) fun _ h=>lxT (have h:=jO h hn11;jC []))) fun _ h=>Ae<|Ac<|jS h));intro _ h;refine Aa 11<|rsT 1 (rcH h Ox fun y4 h=>rsT 2 ?_);rcases A5 h with ⟨q5,h⟩|⟨q5,h⟩
 ·exact rq 10 q5<|rsT 4<|Ao<|tn_<|jE [(oi 0 1,oi 2 1)]
 exact rq 10 q5<|rsT 1 (rcH h Um fun y6 h=>rsT 2<|Ao<|tn_<|jE [(oi 0 1,oi 2 1)])
def Jf(a0:Int):Option Bool:=
 (cond (a0==8)
  (some true)
  (some (a0==14))).bind fun u0=>
some u0
theorem Tu(h:Jf bA=some cA):cK 66 [ai bA] (An cA):=by
 exact cO Tryz.func66<|Ae (sqF h (fun u0=>sT [(2,.bool u0)] []) (fun _ h=>Aa 9<|rsT 3 (kR h 5 (fun _ h=>rsT 4<|Ao<|tn_<|jE []) fun _ h=>rsT 4<|Ao<|tn_<|jE [])) fun u0 h=>Ac<|jS h)
def Eu(u1:List ZB)(u0:Nat):Option (Ctl Nat (Ctl Unit Bool)):=
 cond (decide ((u0:Int)<(u1.length:Int)))
 ((u1[u0]?).bind fun x15=>
 (Jf x15.1).bind fun y17=>
 cond y17
  (some (.out (.out false)))
  (og (u0+1<4611686018427387904)<|
  some (.next (u0+1))))
 (some (.out (.next ())))
def Gf(u0:List ZB)(a1:Int):Option Bool:=
 (Hx u0 a1).bind fun y4=>
cond (!y4)
 (some false)
 (Dg (Aq (fun s_:Nat=>Eu u0 s_) 4611686018427387904 0) fun _=>
 some true)
theorem Tx(h:Gf hA bA=some cA):cK 86 [.agg [.tree Y8 hA],ai bA] (An cA):=by
 exact cO Tryz.func86<|Ae<|Ab<|Ab<|Aa 7<|rsT 2 (rcH h V1 fun y4 h=>rsT 1<|rnW (kQ h (fun _ h=>Ae<|Ac<|tr_<|jS h) fun _ h=>skW (sqC h (fun _=>sT [] []) (fun _ h hk7=>Ae<|Ad<|lpF h (fun u1=>sT [(12,.tree Y8 hA),(13,an hA.length),(14,an u1)] []) (Ag []) fun n_ u1 c_ h hn9=>Ae<|Ab (kQ h (fun _ h=>skW<|Ab<|Ad<|Ab<|Aa 7 (riH Y8 h fun x15 _ h=>rsB 3<|rnW<|Ab<|Aa 10<|rsT 2 (rcH h Tu fun y17 h=>rnW (kQ h (fun _ h=>Ae<|Ac<|br_<|tr_<|tr_<|br_<|tr_ (have h:=jO h hn9;(have h:=jO h hk7;jS h))) fun _ h=>Ay<|bn_<|tn_<|wr_<|Aa 12 (raH h fun h=>rsT 1<|Ao<|tn_<|jL []))))) fun _ h=>lxT (have h:=jO h hn9;jC []))) fun _ h=>Ae<|Ac<|jS h)))
def P9:AC:=
 (.seq (rg [xo 3 (.i (.box 51 (tm 1))),xo 4 (qm (cb false))])
 (.seq (.seq (rg [xf 7 0 3,xl 8 7,xo 9 (qc 85 [tm 8] [[]]),xo 10 (.i (.not (tm 9))),xm 11 10,⟨some 12,some (11,false),qf 1 (tm 3)⟩,⟨some 13,some (11,false),.i (.ld false 1 (tm 12))⟩,⟨some 14,some (11,false),qm (tm 0)⟩,⟨some 15,some (11,false),qc 86 [tm 13,tm 14] [[some Y8],[]]⟩,⟨some 16,some (11,false),.i (.not (tm 15))⟩,xo 17 (.i (.pick (tm 11) (cb true) (tm 16))),xm 18 17,⟨some 19,some (18,false),qm (tm 0)⟩,⟨some 20,some (18,false),qf 2 (tm 3)⟩,⟨some 21,some (18,false),.i (.ld false 3 (tm 20))⟩,⟨some 22,some (18,false),qc 87 [tm 19,tm 21] [[],[none,none,some sI]]⟩,⟨some 23,some (18,false),.i (.not (tm 22))⟩,xo 24 (.i (.pick (tm 18) (cb true) (tm 23)))])
 (.cond (tm 24)
  (.seq (rg [xo 4 (qm (cb false))])
  .ret)
  .skip))
 (.seq (rg [xf 26 1 3,xo 27 (.i (.ld false 1 (tm 26))),⟨some 28,none,qc 88 [tm 27] [[some Y8]]⟩,xm 25 28,xo 29 (.i (.extr 0 (tm 25))),xo 30 (.i (.extr 1 (tm 25))),xo 5 (.i (.alloc 114 [.int .i64 0,.int .i64 0])),xn (.st false 2 (tm 5) (tm 29)),xm 6 30])
 (.seq (rg [xo 31 (.i (.ld false 2 (tm 5))),xf 32 2 3,xf 33 0 32,xl 34 33,xf 35 2 3,xf 36 1 35,xl 37 36,xo 38 (.build [.int .i64 0,.int .i64 0] [(0,1,tm 34),(1,1,tm 37)]),xo 39 (.i (.cmp false 5 (tm 31) (tm 38))),xm 4 39])
 .ret))))
def W5:List Res:=[.tmp 4]
theorem W1:C2 Tryz.prog Tryz.f47=some (P9,W5):=by kernel_rfl
def Fu(a0:Int)(u3:ByteArray)(u0:List ZB)(u1 u2:Int)(u4:LL):Option Bool:=
 ((Ie u3).bind fun y4=>
 cond (!y4)
  (some true)
  ((Gf u0 a0).bind fun y6=>
  cond (!y6)
   (some true)
   ((I3 a0 u1 u2 u4).bind fun y8=>
   some (!y8)))).bind fun u5=>
cond u5
 (some false)
 ((Gd u0).bind fun y12=>
 some ([y12.1,y12.2.1]==[u1,u2]))
theorem V3(h:Fu bA gA hA bB bC dA=some cA):cK 47 [ai bA,.agg [.str gA,.tree Y8 hA,ai bB,ai bC,tS dA]] (An cA):=by
 refine Xr kr Tryz.func47 W1 (n:=40) kr fS rfl ?_;unfold P9;refine Ae<|Ab (sqF h (fun u5=>sT [(3,.box (oi 0 1) 0),(24,.bool u5)] [(oi 0 1,.cells 51 [.str gA,.tree Y8 hA,ai bB,ai bC,tS dA])]) ?_ fun u5 h=>kQ h (fun _ h=>Ae<|Ac<|tr_<|jS h) fun _ h=>skW<|Ab<|Aa 11<|rsT 2 (rcH h Py fun y12 h=>rsB 6<|rnW<|Ae<|Ac<|jS h));intro _ h;refine Aa 21<|rsT 2 (rcH h U8 fun y4 h=>rsT 2 ?_);rcases A5 h with ⟨q5,h⟩|⟨q5,h⟩
 ·exact rq 11 q5<|rsT 13<|Ao<|tn_<|jE [(oi 0 1,oi 3 1)]
 refine rq 11 q5<|rsT 3 (rcH h Tx fun y6 h=>rsT 3 ?_);rcases A5 h with ⟨q7,h⟩|⟨q7,h⟩
 ·exact rq 18 q7<|rsT 6<|Ao<|tn_<|jE [(oi 0 1,oi 3 1)]
 exact rq 18 q7<|rsT 3 (rcH h Xd fun y8 h=>rsT 2<|Ao<|tn_<|jE [(oi 0 1,oi 3 1)])
end Go.Proofs.YthlpchhhinipaaaGreatDoor
