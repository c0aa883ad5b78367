/- Lemmas on the program and on partial functions that stand in place of its code (part 5); no condition beyond those that each one states. -/
import Derived.Test.YthlpchhhinipaaaGreatDoorZ4
namespace Go.Proofs.YthlpchhhinipaaaGreatDoor
open Go.RowKit Go.Deep List
theorem wr_ {G:WP} {S:St} {K:St->Prop} (h:K S):∃ S',WeakG G S S'/\K S':=⟨S,WeakG.refl _,h⟩
def rC (x:Option (AC×List Res)):List Res:=x.elim [] (·.2)
theorem Cc {x:Option (AC×List Res)} (h:x.isSome=true):x=some (mC x,rC x):=by
 cases x with
 | none=>cases h
 | some p=>rfl
section
variable {P:Program} [IsP P] {G:WP} {g:FuncId} {fn:Func} {args:LA} {r:RV}
theorem cO (hf:P.funcs[g]? =some fn) (h:awp P G (mC (Cw P fn)) (fun e S=>∃ S',WeakG G S S'/\(e=.normal∨e=.ret)/\RetOK [] (rC (Cw P fn)) S' r) ⟨Ao (tmL 0 args),Aj [],1⟩) (hfol:P.follows .mixedOrders=true:=by kernel_rfl) (hc:(Cw P fn).isSome=true:=by kernel_rfl) (hn:Nat.ble args.length fn.ntmps=true:=by kernel_rfl):Cr P G g args r :=
 X2 hfol hf (Cc hc) rfl (Nat.le_of_ble_eq_true hn) rfl h
theorem cZ (hf:P.funcs[g]? =some fn) (h:∀ (n:Nat) (R:NP),(∀ b,n<=b->R b)->awp P (GN G n) (mC (Cw P fn)) (fun e S=>∃ S',WeakG (GN G n) S S'/\(e=.normal∨e=.ret)/\Ano R true (rC (Cw P fn)) S' r) ⟨Ao (tmL 0 args),Aj [],1⟩) (hfol:P.follows .mixedOrders=true:=by kernel_rfl) (hc:(Cw P fn).isSome=true:=by kernel_rfl) (hn:Nat.ble args.length fn.ntmps=true:=by kernel_rfl):Cr P G g args r :=
 Aru hfol hf (Cc hc) rfl (Nat.le_of_ble_eq_true hn) rfl h
end
def gdB (gd:Option (Nat×Bool)) (f:TF):Bool :=
 match gd with
 | none=>true
 | some (s,b)=>match f s with
  | .bool c=>c==b
  | _=>false
theorem Ws {gd:Option (Nat×Bool)} {f:TF} (h:gdB gd f=true):Rj gd f:=by
 cases gd with
 | none=>trivial
 | some p =>
  have ⟨s,b⟩:=p;simp only [gdB] at h;split at h
  next c hc=>rw [fF] at h;subst h;exact Aeg hc
  ·cases h
theorem Fz {gd:Option (Nat×Bool)} {f:TF} {n:Nat} {d:Option Nat} {q:Q} {ob:OF} {r:Option Rec} (hg:gdB gd f=true) (h:Bc n ⟨d,none,q⟩ f ob=r):Bc n ⟨d,gd,q⟩ f ob=r:=by
 have h1:=Ws hg;cases gd with
 | none=>exact h
 | some p=>exact A08 h1 rfl h
section
variable {P:Program} {G:WP} {g k d:Nat} {gd:Option (Nat×Bool)} {xs:List X} {tl:TL} {ol:OL} {bad:List (Nat×Nat)} {ra:List Rec} {da:List (List Oid)} {Kf:List (Nat×AV)->List (Oid×Option Ob)->Prop}
variable {α β:Type} {x:Option α} {K:α->Option β} {r:β} {rv:α->RV} {args:LA} {fo:Opd} {ys:List Opd} {tys:List (List (Option Ty))} {F:FuncId}
theorem map_some {γ δ:Type} {o:Option γ} {f:γ->δ} {b:δ} (h:o.map f=some b):∃ a,o=some a/\f a=b:=oms.1 h
theorem rcH (h:x.bind K=some r) (hc:∀ {y},x=some y->Cr P G F args (rv y))
  (h3:∀ y,K y=some r->XW P G g (k+1) xs ((d,((rv y).out (C0 ((d,0),g+k)) (ys.map (Opd.ev (Ao tl)))).1) :: tl) (((rv y).out (C0 ((d,0),g+k)) (ys.map (Opd.ev (Ao tl)))).2.reverseAux ol) Kf)
  (hA:(O3 (gnd (Aj ol) 8) (ys.map (Opd.ev (Ao tl)))).map (Od tys)=some args:=by kernel_rfl) (hb:Cz P F=true:=by kernel_rfl) (hfo:fo.ev (Ao tl)=.fn F []:=by kernel_rfl)
  (hx:∀ y,D8 ((rv y).out (C0 ((d,0),g+k)) (ys.map (Opd.ev (Ao tl)))).2=true:=by intro _;rfl) (hni:∀ y,(rv y).noI=true:=by intro _;rfl) (hgd:gdB gd (Ao tl)=true:=by kernel_rfl) (hF:Nat.blt F mtd=true:=by kernel_rfl):XW P G g k (⟨some d,gd,.call fo ys tys⟩ :: xs) tl ol Kf:=by
 have ⟨y,hy,hK⟩:=Ah h;have ⟨args0,h1,hn⟩:=map_some hA;have hF':F<mtd:=Nat.le_of_ble_eq_true hF;exact Tb (caps:=[]) _ _ _ _ (Ws hgd) h1 (hc hy) hb (h3 y hK) (hfo:=hfo) (hz:=by simp only [Dk,map_nil,append_nil,nil_append,ite_self]) (hn:=hn) (hr:=rfl) (hF:=fW hF') (hx:=hx y) (hni:=hni y)
theorem dcH (h:x.bind K=some r) (hc:∀ {y},x=some y->Cr P G F args (rv y))
  (h3:∀ y,K y=some r->XD P G bad g (k+1) xs ((d,((rv y).out (C0 ((d,0),g+k)) (ys.map (Opd.ev (Ao tl)))).1) :: tl) (((rv y).out (C0 ((d,0),g+k)) (ys.map (Opd.ev (Ao tl)))).2.reverseAux ol) ((1,((rv y).out (C0 ((d,0),g+k)) (ys.map (Opd.ev (Ao tl)))).1,((rv y).out (C0 ((d,0),g+k)) (ys.map (Opd.ev (Ao tl)))).2) :: ra) ((rdX (Ao tl) (Aj ol) ⟨some d,gd,.call fo ys tys⟩) :: da) Kf)
  (hA:(O3 (gnd (only (rdX (Ao tl) (Aj ol) ⟨some d,gd,.call fo ys tys⟩) (Aj ol)) 8) (ys.map (Opd.ev (Ao tl)))).map (Od tys)=some args:=by kernel_rfl) (hb:Cz P F=true:=by kernel_rfl) (hfo:fo.ev (Ao tl)=.fn F []:=by kernel_rfl)
  (hx:∀ y,D8 ((rv y).out (C0 ((d,0),g+k)) (ys.map (Opd.ev (Ao tl)))).2=true:=by intro _;rfl) (hni:∀ y,(rv y).noI=true:=by intro _;rfl) (hgd:gdB gd (Ao tl)=true:=by kernel_rfl) (hF:Nat.blt F mtd=true:=by kernel_rfl):XD P G bad g k (⟨some d,gd,.call fo ys tys⟩ :: xs) tl ol ra da Kf:=by
 have ⟨y,hy,hK⟩:=Ah h;have ⟨args0,h1,hn⟩:=map_some hA;have hF':F<mtd:=Nat.le_of_ble_eq_true hF;exact Ou (caps:=[]) _ _ _ _ (Ws hgd) h1 (hc hy) hb (h3 y hK) (hfo:=hfo) (hz:=by simp only [Dk,map_nil,append_nil,nil_append,ite_self]) (hn:=hn) (hr:=rfl) (hF:=fW hF') (hx:=hx y) (hni:=hni y)
variable {sz j:Nat} {c e:Opd}
theorem riH (t:Ty) {zs:List t.D} {K:t.D->Option β} (h:(zs[j]?).bind K=some r) (h3:∀ y,zs[j]? =some y->K y=some r->XW P G g (k+1) xs ((d,.telt (c.ev (Ao tl)).tag t y 0) :: tl) ol Kf) (hx:(c.ev (Ao tl)).un=.tree t zs:=by kernel_rfl) (hi:e.ev (Ao tl)=.int .i64 (j:Int):=by kernel_rfl) (hs:sz=t.size:=by rfl) (hgd:gdB gd (Ao tl)=true:=by kernel_rfl):XW P G g k (⟨some d,gd,.i (.idx sz c e)⟩ :: xs) tl ol Kf:=by
 have ⟨y,hy,hK⟩:=Ah h;exact rs0 _ (Fz hgd<|Ajb hx hi hs (Int.natCast_nonneg _) rfl hy rfl)<|h3 y hy hK
theorem diH (t:Ty) {zs:List t.D} {K:t.D->Option β} (h:(zs[j]?).bind K=some r) (h3:∀ y,zs[j]? =some y->K y=some r->XD P G bad g (k+1) xs ((d,.telt (c.ev (Ao tl)).tag t y 0) :: tl) ol ((0,.telt (c.ev (Ao tl)).tag t y 0,[]) :: ra) ((rdX (Ao tl) (Aj ol) ⟨some d,gd,.i (.idx sz c e)⟩) :: da) Kf) (hx:(c.ev (Ao tl)).un=.tree t zs:=by kernel_rfl) (hi:e.ev (Ao tl)=.int .i64 (j:Int):=by kernel_rfl) (hs:sz=t.size:=by rfl) (hgd:gdB gd (Ao tl)=true:=by kernel_rfl):XD P G bad g k (⟨some d,gd,.i (.idx sz c e)⟩ :: xs) tl ol ra da Kf:=by
 have ⟨y,hy,hK⟩:=Ah h;exact ds0 _ (Fz hgd<|Ajb hx hi hs (Int.natCast_nonneg _) rfl hy rfl)<|h3 y hy hK
theorem diE (t:Ty) {zs:List t.D} {y:t.D} (hy:zs[j]? =some y) (h3:XD P G bad g (k+1) xs ((d,.telt (c.ev (Ao tl)).tag t y 0) :: tl) ol ((0,.telt (c.ev (Ao tl)).tag t y 0,[]) :: ra) ((rdX (Ao tl) (Aj ol) ⟨some d,gd,.i (.idx sz c e)⟩) :: da) Kf) (hx:(c.ev (Ao tl)).un=.tree t zs:=by kernel_rfl) (hi:e.ev (Ao tl)=.int .i64 (j:Int):=by kernel_rfl) (hs:sz=t.size:=by rfl) (hgd:gdB gd (Ao tl)=true:=by kernel_rfl):XD P G bad g k (⟨some d,gd,.i (.idx sz c e)⟩ :: xs) tl ol ra da Kf :=
 ds0 _ (Fz hgd (Ajb hx hi hs (Int.natCast_nonneg _) rfl hy rfl)) h3
theorem raH {M:Option β} (h:og (j+1<4611686018427387904) M=some r) (h3:M=some r->XW P G g (k+1) xs ((d,.int .i64 ((j+1:Nat):Int)) :: tl) ol Kf) (hx:c.ev (Ao tl)=.int .i64 (j:Int):=by kernel_rfl) (hy:e.ev (Ao tl)=.int .i64 1:=by kernel_rfl) (hgd:gdB gd (Ao tl)=true:=by kernel_rfl):XW P G g k (⟨some d,gd,.i (.bin .add c e)⟩ :: xs) tl ol Kf:=by
 have ⟨hg,hK⟩:=Al h;exact rs0 _ (Fz hgd<|Ar6 hx hy hg)<|h3 hK
variable {t:Bool} {A B:Option β}
theorem kQ {y z:AC} {R:AE->St->Prop} {S:St} (h:cond t A B=some r) (h1:t=true->A=some r->awp P G y R S) (h2:t=false->B=some r->awp P G z R S) (hc:c.ev S.tm=.bool t:=by kernel_rfl):awp P G (.cond c y z) R S:=by
 rcases A3 h with ⟨q,h⟩|⟨q,h⟩
 ·exact An9 q (h1 q h) hc
 ·exact Ang q (h2 q h) hc
theorem kR (h:cond t A B=some r) (s:Nat) (h1:t=true->A=some r->XW P G g k xs ((s,.bool true) :: tl) ol Kf) (h2:t=false->B=some r->XW P G g k xs ((s,.bool false) :: tl) ol Kf) (hd:Ao tl s=.bool t:=by kernel_rfl):XW P G g k xs tl ol Kf:=by
 rcases A3 h with ⟨q,h⟩|⟨q,h⟩
 ·exact rq s q (h1 q h) hd
 ·exact rq s q (h2 q h) hd
theorem kD (h:cond t A B=some r) (s:Nat) (h1:t=true->A=some r->XD P G bad g k xs ((s,.bool true) :: tl) ol ra da Kf) (h2:t=false->B=some r->XD P G bad g k xs ((s,.bool false) :: tl) ol ra da Kf) (hd:Ao tl s=.bool t:=by kernel_rfl):XD P G bad g k xs tl ol ra da Kf:=by
 rcases A3 h with ⟨q,h⟩|⟨q,h⟩
 ·exact dq s q (h1 q h) hd
 ·exact dq s q (h2 q h) hd
end
section
variable {G:WP} {α β:Type} {a r:α}
theorem jO {k:α->Option β} {x v:β} {c:Ctl α β} (h:some (Ctl.out x)=some c) (hn:Ctl.then k c=some v):some x=some v:=by
 cases h;exact hn
variable {tl0 tl:TL} {ol0:OL} {ol:List (Oid×Ob)} {g0 g:Nat} {l:List (Oid×Oid)} {T:Prop}
def Lr (_l:List (Oid×Oid)) (T:Prop):Prop:=T
theorem jE0 (h1:(tl.map fun p=>Ao tl0 p.1)=tl.map fun p=>p.2.ren (Bl l):=by kernel_rfl) (h2:X9 ol0 (Bl l) ol:=by exact Xo (by kernel_rfl)) (h3:Asa l tl ol g=true:=by kernel_rfl):Lr l (WeakG G ⟨Ao tl0,Aj ol0,g0⟩ ⟨Ao tl,Aj (Cm ol),g⟩):=Ag l h1 h2 h3
theorem jE (l:List (Oid×Oid)) (k:Lr l T:=by cases h;exact jE0):T:=k
theorem jC0 {F:α->St} (j:⟨Ao tl,Aj (Cm ol),g⟩=F a:=by exact rfl) (h1:(tl.map fun p=>Ao tl0 p.1)=tl.map fun p=>p.2.ren (Bl l):=by kernel_rfl) (h2:X9 ol0 (Bl l) ol:=by exact Xo (by kernel_rfl)) (h3:Asa l tl ol g=true:=by kernel_rfl):Lr l (∃ t,(Ctl.next a:Ctl α β)=.next t/\WeakG G ⟨Ao tl0,Aj ol0,g0⟩ (F t)):=⟨_,rfl,j▸Ag l h1 h2 h3⟩
theorem jC (l:List (Oid×Oid)) (k:Lr l T:=by cases h;exact jC0):T:=k
theorem jL0 {F:α->St} {k:α->Option β} {v:β} (hn:Ctl.then k (Ctl.next a)=some v) (j:⟨Ao tl,Aj (Cm ol),g⟩=F a:=by exact rfl) (h1:(tl.map fun p=>Ao tl0 p.1)=tl.map fun p=>p.2.ren (Bl l):=by kernel_rfl) (h2:X9 ol0 (Bl l) ol:=by exact Xo (by kernel_rfl)) (h3:Asa l tl ol g=true:=by kernel_rfl):Lr l (∃ t,WeakG G ⟨Ao tl0,Aj ol0,g0⟩ (F t)/\k t=some v):=⟨_,j▸Ag l h1 h2 h3,hn⟩
theorem jL (l:List (Oid×Oid)) (k:Lr l T:=by cases h;exact jL0 aS):T:=k
theorem jLw {S:St} {F:α->St} {k:α->Option β} {v:β} (hn:Ctl.then k (Ctl.next a)=some v) (w:WeakG G S (F a)):∃ t,WeakG G S (F t)/\k t=some v:=⟨_,w,hn⟩
def scL:List RL->LA
 | []=>[]
 | .sc c :: r=>c :: scL r
 | _ :: r=>.any :: scL r
def scP:List (Bool×List RL)->LA
 | []=>[]
 | (b,ls) :: r=>(if b then .agg (scL ls) else (scL ls).headD .any) :: scP r
def AV.sc1:AV->Bool
 | .int .. | .bool .. | .str .. | .nils | .err ..=>true
 | _=>false
def At1:List RL->Bool
 | []=>true
 | .sc c :: r=>c.sc1&&At1 r
 | _ :: _=>false
def scB:List (Bool×List RL)->Bool
 | []=>true
 | (b,ls) :: r=>(At1 ls&&(b||ls.length==1))&&scB r
theorem Ag6 {ob:OF} {c:AV} (h:c.sc1=true):Uu ob c=some (.sc c):=by
 cases c <;> first|rfl|cases h
theorem Afl {vs:LV} {ob:OF}:∀ {ls:List RL},At1 ls=true->LeavesR vs ob (scL ls) ls
 | [],_=>rfl
 | .sc c :: r,h=>by
  simp only [At1,fT] at h;exact ⟨_,_,rfl,Atk (Ag6 h.1),Afl h.2⟩
 | .new .. :: _,h=>by cases h
 | .newM .. :: _,h=>by cases h
 | .arg .. :: _,h=>by cases h
 | .argS .. :: _,h=>by cases h
 | .frz _ :: _,h=>by cases h
 | .imm _ :: _,h=>by cases h
theorem Aap {vs:LV} {ob:OF}:∀ {ps:List (Bool×List RL)},scB ps=true->PartsR vs ob (scP ps) ps
 | [],_=>rfl
 | (b,ls) :: r,h=>by
  simp only [scB,fT,Bool.or_eq_true,fF] at h;have ⟨⟨h1,h2⟩,h3⟩:=h;cases b with
  | true=>exact Vy (Afl h1) (Aap h3)
  | false =>
   have h2:=h2.resolve_left (by decide)
   match ls,h1,h2 with
   | [.sc c],h1,_ =>
    simp only [At1,fT] at h1;have h1:c.sc1=true:=h1.1;refine Hv ?_ (Atk (Ag6 h1)) (Aap h3);show c.one=true;cases c <;> first|rfl|cases h1
   | [.new ..],h1,_=>cases h1
   | [.newM ..],h1,_=>cases h1
   | [.arg ..],h1,_=>cases h1
   | [.argS ..],h1,_=>cases h1
   | [.frz _],h1,_=>cases h1
   | [.imm _],h1,_=>cases h1
theorem jR {rs:List Res} {f:TF} {ob:OF} {g:Nat} {rv:α->RV} {vs:LV} {e:AE} (h:some a=some r) (avs:LA) (h2:PartsR vs ob avs (rv a).ps) (he:e=.normal∨e=.ret:=by simp) (h1:Res.evL f ob rs=some avs:=by kernel_rfl) (h3:ndB (Abp ob (Ts avs))=true:=by kernel_rfl) (h4:(rv a).tup=decide (rs.length≠1):=by kernel_rfl):∃ S',WeakG G ⟨f,ob,g⟩ S'/\(e=.normal∨e=.ret)/\RetOK vs rs S' (rv r):=by
 cases h;exact A0q avs h2 he h1 h3 h4
theorem jZ {R:NP} {z:Bool} {rs:List Res} {f:TF} {ob:OF} {g:Nat} {rv:α->RV} {e:AE} (h:some a=some r) (gs:List (Bool×LA)) (h2:Q5 R z ob gs (rv a).ps) (he:e=.normal∨e=.ret:=by simp) (h1:Res.evL f ob rs=some (Avf gs):=by kernel_rfl) (h4:(rv a).tup=decide (rs.length≠1):=by kernel_rfl):∃ S',WeakG G ⟨f,ob,g⟩ S'/\(e=.normal∨e=.ret)/\Ano R z rs S' (rv r):=by
 cases h;exact A0x gs h2 he h1 h4
theorem jS {rs:List Res} {f:TF} {ob:OF} {g:Nat} {rv:α->RV} {vs:LV} {e:AE} (h:some a=some r) (he:e=.normal∨e=.ret:=by simp) (h1:Res.evL f ob rs=some (scP (rv a).ps):=by kernel_rfl) (h2:scB (rv a).ps=true:=by kernel_rfl) (h3:ndB (Abp ob (Ts (scP (rv a).ps)))=true:=by kernel_rfl) (h4:(rv a).tup=decide (rs.length≠1):=by kernel_rfl):∃ S',WeakG G ⟨f,ob,g⟩ S'/\(e=.normal∨e=.ret)/\RetOK vs rs S' (rv r):=by
 cases h;exact A0q _ (Aap h2) he h1 h3 h4
end
abbrev sT (tl:TL) (ol:List (Oid×Ob)):St:=⟨Ao tl,Aj (Cm ol),2⟩
section
variable {P:Program} {G:WP} {C τ β ρ:Type} {x y:AC} {R:AE->St->Prop} {S:St}
theorem sqF {A:Option τ} {k:τ->Option β} {r:β} (h:A.bind k=some r) (F:τ->St) (h1:∀ t,A=some t->awp P G x (Iy (fun S'=>WeakG G S' (F t)) R) S) (h2:∀ t,k t=some r->awp P G y R (F t)):awp P G (.seq x y) R S:=by
 refine Arx h (fun t S''=>S''=F t) (fun t ht=>D2 (fun e S' hq=>?_)<|h1 t ht) fun t S'' e hk=>e▸h2 t hk
 cases e with
 | normal=>exact ⟨_,hq,rfl⟩
 | exit id=>exact hq
 | ret=>exact hq
theorem sqC {A:Option (Ctl τ β)} {k:τ->Option β} {r:β} (h:Dj A k=some r) (F:τ->St) (h1:∀ v,A=some v->Ctl.then k v=some r->awp P G x (Iy (fun S'=>∃ t,v=.next t/\WeakG G S' (F t)) R) S) (h2:∀ t,k t=some r->awp P G y R (F t)):awp P G (.seq x y) R S:=by
 refine Ar1 h (fun t S''=>S''=F t) (fun v hv hk=>D2 (fun e S' hq=>?_)<|h1 v hv hk) fun t S'' e hk=>e▸h2 t hk
 cases e with
 | normal=>have ⟨t,ht,hw⟩:=hq;exact ⟨t,_,ht,hw,rfl⟩
 | exit id=>exact hq
 | ret=>exact hq
theorem lpF {body:C->Option (Ctl C ρ)} {fuel:Nat} {s0:C} {v:ρ} (h:Aq body fuel s0=some v) (F:C->St) (w:WeakG G S (F s0))
  (h1:∀ n s c,body s=some c->Ctl.then (Aq body n) c=some v->awp P G x (Iy (fun S2=>∃ s',WeakG G S2 (F s')/\Aq body n s'=some v) R) (F s)):awp P G (.loop x) R S:=by
 refine Aqf h (fun s S=>S=F s) ⟨_,w,rfl⟩ fun n s S1 c e hc hn=>e▸D2 (fun e S2 hq=>?_) (h1 n s c hc hn)
 cases e with
 | normal=>have ⟨s',hw,hl⟩:=hq;exact ⟨s',_,hw,rfl,hl⟩
 | exit id=>exact hq
 | ret=>exact hq
end
theorem skW {P:Program} {G:WP} {R:AE->St->Prop} {S:St} {K:St->Prop} (h:K S):awp P G .skip (Iy (fun S'=>∃ S'',WeakG G S' S''/\K S'') R) S:=Ax (tn_ (wr_ h))
theorem rnW {P:Program} {G:WP} {R:AE->St->Prop} {g k g':Nat} {tl:TL} {ol:OL} {K:St->Prop} (h:K ⟨Ao tl,Aj ol,g'⟩):XW P G g k [] tl ol (fun tl' ol'=>Iy (fun S'=>∃ S'',WeakG G S' S''/\K S'') R .normal ⟨Ao tl',Aj ol',g'⟩):=Ap (tn_ (wr_ h))
theorem lxT {P:Program} {G:WP} {R:AE->St->Prop} {S:St} {i:Nat} {K K1 K2:St->Prop} (h:K S):awp P G (.exit i) (Iy K1 (Iy K2 (Mg i (Iy K R)))) S:=Ep (te_ (te_ (be_ (tn_ h))))
def AV.setL (m:Nat):AV->AV
 | .own i t o _=>.own i t o m
 | v=>v
theorem wL {G:WP} {tl:TL} {ol:OL} {g:Nat} (s:Nat) {n m:Nat} (h:n=m) (hs:Ao tl s=(Ao tl s).setL n:=by kernel_rfl):WeakG G ⟨Ao tl,Aj ol,g⟩ ⟨Ao ((s,(Ao tl s).setL m) :: tl),Aj ol,g⟩ :=
 Adm s (Ao tl s) _ rfl (by rw [← h];exact hs)
section
variable {P:Program} {G:WP} {g k d:Nat} {gd:Option (Nat×Bool)} {xs:List X} {tl:TL} {ol:OL} {bad:List (Nat×Nat)} {ra:List Rec} {da:List (List Oid)} {Kf:List (Nat×AV)->List (Oid×Option Ob)->Prop}
variable {α β:Type} {x:Option α} {K:α->Option β} {r:β} {args:LA} {fo:Opd} {ys:List Opd} {tys:List (List (Option Ty))} {F:FuncId}
theorem rcG {rv:α->RV} (h:x.bind K=some r) (zs:LA) (hc:∀ {y},x=some y->Cr P G F args (rv y)) (h1:O3 (gnd (Aj ol) 8) zs=some args)
  (h3:∀ y,K y=some r->XW P G g (k+1) xs ((d,((rv y).out (C0 ((d,0),g+k)) zs).1) :: tl) (((rv y).out (C0 ((d,0),g+k)) zs).2.reverseAux ol) Kf)
  (hz:ys.map (Opd.ev (Ao tl))=zs:=by kernel_rfl) (hn:Od tys args=args:=by kernel_rfl) (hb:Cz P F=true:=by kernel_rfl) (hfo:fo.ev (Ao tl)=.fn F []:=by kernel_rfl)
  (hx:∀ y,D8 ((rv y).out (C0 ((d,0),g+k)) zs).2=true:=by intro _;rfl) (hni:∀ y,(rv y).noI=true:=by intro _;rfl) (hgd:gdB gd (Ao tl)=true:=by kernel_rfl) (hF:Nat.blt F mtd=true:=by kernel_rfl):XW P G g k (⟨some d,gd,.call fo ys tys⟩ :: xs) tl ol Kf:=by
 have ⟨y,hy,hK⟩:=Ah h;have hF':F<mtd:=Nat.le_of_ble_eq_true hF;subst hz;exact Tb (caps:=[]) _ _ _ _ (Ws hgd) h1 (hc hy) hb (h3 y hK) (hfo:=hfo) (hz:=by simp only [Dk,map_nil,append_nil,nil_append,ite_self]) (hn:=hn) (hr:=rfl) (hF:=fW hF') (hx:=hx y) (hni:=hni y)
theorem dcG {rv:α->RV} (h:x.bind K=some r) (zs:LA) (hc:∀ {y},x=some y->Cr P G F args (rv y)) (h1:O3 (gnd (only (rdX (Ao tl) (Aj ol) ⟨some d,gd,.call fo ys tys⟩) (Aj ol)) 8) zs=some args)
  (h3:∀ y,K y=some r->XD P G bad g (k+1) xs ((d,((rv y).out (C0 ((d,0),g+k)) zs).1) :: tl) (((rv y).out (C0 ((d,0),g+k)) zs).2.reverseAux ol) ((1,((rv y).out (C0 ((d,0),g+k)) zs).1,((rv y).out (C0 ((d,0),g+k)) zs).2) :: ra) ((rdX (Ao tl) (Aj ol) ⟨some d,gd,.call fo ys tys⟩) :: da) Kf)
  (hz:ys.map (Opd.ev (Ao tl))=zs:=by kernel_rfl) (hn:Od tys args=args:=by kernel_rfl) (hb:Cz P F=true:=by kernel_rfl) (hfo:fo.ev (Ao tl)=.fn F []:=by kernel_rfl)
  (hx:∀ y,D8 ((rv y).out (C0 ((d,0),g+k)) zs).2=true:=by intro _;rfl) (hni:∀ y,(rv y).noI=true:=by intro _;rfl) (hgd:gdB gd (Ao tl)=true:=by kernel_rfl) (hF:Nat.blt F mtd=true:=by kernel_rfl):XD P G bad g k (⟨some d,gd,.call fo ys tys⟩ :: xs) tl ol ra da Kf:=by
 have ⟨y,hy,hK⟩:=Ah h;have hF':F<mtd:=Nat.le_of_ble_eq_true hF;subst hz;exact Ou (caps:=[]) _ _ _ _ (Ws hgd) h1 (hc hy) hb (h3 y hK) (hfo:=hfo) (hz:=by simp only [Dk,map_nil,append_nil,nil_append,ite_self]) (hn:=hn) (hr:=rfl) (hF:=fW hF') (hx:=hx y) (hni:=hni y)
variable {ol0:List (Oid×Ob)} {v0:α->AV} {us:α->List (Oid×Ob)}
theorem rcM (h:x.bind K=some r) (l:List (Oid×Oid)) (zs:LA) (hc:∀ {y},x=some y->Eb P G F args ol0 (v0 y) (us y)) (hR:X9 ol (Bl l) ol0) (h1:R4 (Bl l) (Za ((nmL ol0).map (Bl l)) (Aj ol)) zs args) (h4:∀ j∈nmL ol0,Reached zs (Aj ol) (Bl l j))
  (h3:∀ y,K y=some r->XW P G g (k+1) xs ((d,(v0 y).ren (B8 (Bl l) ((d,0),g+k))) :: tl) ((Cm (Qc (B8 (Bl l) ((d,0),g+k)) (us y))++Mq (Bl l) ol0)++ol) Kf)
  (hz:ys.map (Opd.ev (Ao tl))=zs:=by kernel_rfl) (hB:∀ y,Xy l ol0 (us y) (g+k) ol=true:=by intro _;kernel_rfl) (hb:Cz P F=true:=by kernel_rfl) (hfo:fo.ev (Ao tl)=.fn F []:=by kernel_rfl) (hgd:gdB gd (Ao tl)=true:=by kernel_rfl) (hF:Nat.blt F mtd=true:=by kernel_rfl):XW P G g k (⟨some d,gd,.call fo ys tys⟩ :: xs) tl ol Kf:=by
 have ⟨y,hy,hK⟩:=Ah h;exact Z8 (caps:=[]) _ _ l zs (Ws hgd) (hc hy) hb hR h1 h4 (h3 y hK) (hfo:=hfo) (hz:=by rw [map_nil,append_nil];exact hz) (hB:=hB y) (hF:=Nat.le_of_ble_eq_true hF) (hv:=rfl) (hu:=rfl)
theorem dcM (h:x.bind K=some r) (l:List (Oid×Oid)) (zs:LA) (hc:∀ {y},x=some y->Eb P G F args ol0 (v0 y) (us y)) (hR:X9 ol (Bl l) ol0) (h1:R4 (Bl l) (Za ((nmL ol0).map (Bl l)) (only (rdX (Ao tl) (Aj ol) ⟨some d,gd,.call fo ys tys⟩) (Aj ol))) zs args) (h4:∀ j∈nmL ol0,Reached zs (only (rdX (Ao tl) (Aj ol) ⟨some d,gd,.call fo ys tys⟩) (Aj ol)) (Bl l j)) (hd:∀ q∈exL ol0,Bl l q.1∈rdX (Ao tl) (Aj ol) ⟨some d,gd,.call fo ys tys⟩)
  (h3:∀ y,K y=some r->XD P G bad g (k+1) xs ((d,(v0 y).ren (B8 (Bl l) ((d,0),g+k))) :: tl) ((Cm (Qc (B8 (Bl l) ((d,0),g+k)) (us y))++Mq (Bl l) ol0)++ol) ((2,(v0 y).ren (B8 (Bl l) ((d,0),g+k)),Js (Bl l) ((d,0),g+k) ol0 (us y)) :: ra) ((rdX (Ao tl) (Aj ol) ⟨some d,gd,.call fo ys tys⟩) :: da) Kf)
  (hz:ys.map (Opd.ev (Ao tl))=zs:=by kernel_rfl) (hB:∀ y,Xy l ol0 (us y) (g+k) ol=true:=by intro _;kernel_rfl) (hb:Cz P F=true:=by kernel_rfl) (hfo:fo.ev (Ao tl)=.fn F []:=by kernel_rfl) (hgd:gdB gd (Ao tl)=true:=by kernel_rfl) (hF:Nat.blt F mtd=true:=by kernel_rfl):XD P G bad g k (⟨some d,gd,.call fo ys tys⟩ :: xs) tl ol ra da Kf:=by
 have ⟨y,hy,hK⟩:=Ah h;exact As4 (caps:=[]) _ _ l zs (Ws hgd) (hc hy) hb hR h1 h4 hd (h3 y hK) (hfo:=hfo) (hz:=by rw [map_nil,append_nil];exact hz) (hB:=hB y) (hF:=Nat.le_of_ble_eq_true hF) (hv:=rfl) (hu:=rfl)
theorem aR {U:Oid->Oid} {ob:OF}:∀ {zs args:LA},zs=args.map (AV.ren U)->R4 U ob zs args
 | _,[],h=>by subst h;exact .nil
 | _,_ :: _,h=>by subst h;exact .cons (.ren rfl) (aR rfl)
end
abbrev sI:Ty:=.slice .int
abbrev Y0:Ty:=.slice sI
abbrev Y1:Ty:=.slice .int
abbrev Y2:Ty:=.pair sI sI
abbrev Y3:Ty:=.pair .int .int
abbrev Y4:Ty:=.pair .int .str
abbrev Y5:Ty:=.pair .int Y0
abbrev Y6:Ty:=.pair .int Y2
abbrev Y8:Ty:=.pair .int Y4
abbrev Y9:Ty:=.pair .int Y5
abbrev Ya:Ty:=.slice Y8
abbrev Yb:Ty:=.pair .int Y6
abbrev Yc:Ty:=.pair .int Ya
abbrev Yd:Ty:=.pair .int Yc
abbrev Ye:Ty:=.pair .str Yd
abbrev Yf:Ty:=.pair Ya Y9
abbrev Yg:Ty:=.pair .str Yf
section
variable {P:Program} {G:WP} {g k d:Nat} {gd:Option (Nat×Bool)} {q:Q} {xs:List X} {tl:TL} {ol:OL} {bad:List (Nat×Nat)} {ra:List Rec} {da:List (List Oid)} {Kf:List (Nat×AV)->List (Oid×Option Ob)->Prop}
theorem dz0 (v:AV) (h3:XD P G bad g (k+1) xs ((d,v) :: tl) ol ((0,v,[]) :: ra) ((rdX (Ao tl) (Aj ol) ⟨some d,gd,q⟩) :: da) Kf) (h:Bc (g+k) ⟨some d,gd,q⟩ (Ao tl) (only (rdX (Ao tl) (Aj ol) ⟨some d,gd,q⟩) (Aj ol))=some (0,v,[]):=by kernel_rfl):XD P G bad g k (⟨some d,gd,q⟩ :: xs) tl ol ra da Kf:=ds0 v h h3
theorem dzl (v:AV) (h3:XD P G bad g (k+1) xs ((d,v) :: tl) ol ((1,v,[]) :: ra) ((rdX (Ao tl) (Aj ol) ⟨some d,gd,q⟩) :: da) Kf) (h:Bc (g+k) ⟨some d,gd,q⟩ (Ao tl) (only (rdX (Ao tl) (Aj ol) ⟨some d,gd,q⟩) (Aj ol))=some (1,v,[]):=by kernel_rfl):XD P G bad g k (⟨some d,gd,q⟩ :: xs) tl ol ra da Kf:=dsl v h h3
theorem zc {fo:Opd} {ys:List Opd} {tys:List (List (Option Ty))} {F:FuncId} {rv:RV} {args:LA} (v:AV) (us:OL) (zs:LA) (hc:Cr P G F args rv) (h3:XW P G g (k+1) xs ((d,v) :: tl) (us.reverseAux ol) Kf) (h1:O3 (gnd (Aj ol) 8) zs=some zs:=by kernel_rfl) (hb:Cz P F=true:=by kernel_rfl) (hfo:fo.ev (Ao tl)=.fn F []:=by kernel_rfl) (hz:ys.map (Opd.ev (Ao tl))=zs:=by kernel_rfl) (hn:Od tys zs=args:=by kernel_rfl) (hr:rv.out (C0 ((d,0),g+k)) zs=(v,us):=by kernel_rfl) (hx:D8 us=true:=by rfl) (hni:rv.noI=true:=by kernel_rfl) (hF:Nat.blt F mtd=true:=by kernel_rfl):XW P G g k (⟨some d,none,.call fo ys tys⟩ :: xs) tl ol Kf:=Tb (caps:=[]) (args0:=zs) v us zs args trivial h1 hc hb h3 (hfo:=hfo) (hz:=by simpa only [Dk,map_nil,append_nil,nil_append,ite_self] using hz) (hn:=hn) (hr:=hr) (hF:=fW (Nat.le_of_ble_eq_true hF)) (hx:=hx) (hni:=hni)
end
theorem kr {p:Prop} (h:p:=by kernel_rfl):p:=h
abbrev LL:=ZA
abbrev an (n:Nat):AV:=.int .i64 n
abbrev tI (x:List Int):AV:=.tree .int x
abbrev tS (x:ZA):AV:=.tree Y1 x
abbrev oI (a b n:Nat):AV:=.own (oi a b) .int 0 n
abbrev oS (a b n:Nat):AV:=.own (oi a b) Y1 0 n
abbrev nI (a b:Nat) (x:List Int):Oid×Option Ob:=(oi a b,some (.arr 3 .int x))
abbrev xm (d s:Nat):X:=⟨some d,none,.i (.mov (.tmp s))⟩
abbrev xl (d s:Nat):X:=⟨some d,none,.i (.ld true 1 (.tmp s))⟩
abbrev xf (d k s:Nat):X:=⟨some d,none,.i (.fld k (.tmp s))⟩
abbrev xx (d z a b:Nat):X:=⟨some d,none,.i (.idx z (.tmp a) (.tmp b))⟩
abbrev xn1 (d s:Nat):X:=⟨some d,none,.i (.len (.tmp s))⟩
abbrev xa (d s:Nat):X:=⟨some d,none,.i (.bin .add (.tmp s) (.cst (.int .i64 1)))⟩
abbrev xs1 (d a b:Nat):X:=⟨some d,none,.i (.bin .lss (.tmp a) (.tmp b))⟩
section
variable {P:Program} {G:WP} {g k d:Nat} {gd:Option (Nat×Bool)} {q:Q} {xs:List X} {tl:TL} {ol:OL} {bad:List (Nat×Nat)} {ra:List Rec} {da:List (List Oid)} {Kf:List (Nat×AV)->List (Oid×Option Ob)->Prop}
theorem dzc {fo:Opd} {ys:List Opd} {tys:List (List (Option Ty))} {F:FuncId} {rv:RV} {args:LA} (v:AV) (us:OL) (zs:LA) (hc:Cr P G F args rv) (h3:XD P G bad g (k+1) xs ((d,v) :: tl) (us.reverseAux ol) ((1,v,us) :: ra) ((rdX (Ao tl) (Aj ol) ⟨some d,none,.call fo ys tys⟩) :: da) Kf) (h1:O3 (gnd (only (rdX (Ao tl) (Aj ol) ⟨some d,none,.call fo ys tys⟩) (Aj ol)) 8) zs=some zs:=by kernel_rfl) (hb:Cz P F=true:=by kernel_rfl) (hfo:fo.ev (Ao tl)=.fn F []:=by kernel_rfl) (hz:ys.map (Opd.ev (Ao tl))=zs:=by kernel_rfl) (hn:Od tys zs=args:=by kernel_rfl) (hr:rv.out (C0 ((d,0),g+k)) zs=(v,us):=by kernel_rfl) (hx:D8 us=true:=by rfl) (hni:rv.noI=true:=by kernel_rfl) (hF:Nat.blt F mtd=true:=by kernel_rfl):XD P G bad g k (⟨some d,none,.call fo ys tys⟩ :: xs) tl ol ra da Kf:=Ou (caps:=[]) (args0:=zs) v us zs args trivial h1 hc hb h3 (hfo:=hfo) (hz:=by simpa only [Dk,map_nil,append_nil,nil_append,ite_self] using hz) (hn:=hn) (hr:=hr) (hF:=fW (Nat.le_of_ble_eq_true hF)) (hx:=hx) (hni:=hni)
theorem zO {sz:Nat} {x i:Opd} (o:Oid) (t:Ty) (len:Nat) {j:Nat} (hl:j<len) (h3:XW P G g (k+1) xs ((d,.elt o j 0) :: tl) ol Kf) (hx:x.ev (Ao tl)=.own o t 0 len:=by kernel_rfl) (hi:i.ev (Ao tl)=.int .i64 (j:Int):=by kernel_rfl) (hs:sz=t.size:=by rfl) (hgd:gdB gd (Ao tl)=true:=by kernel_rfl):XW P G g k (⟨some d,gd,.i (.idx sz x i)⟩ :: xs) tl ol Kf:=rs0 _ (Fz hgd (V5 hx hi hs (Int.natCast_nonneg _) rfl hl)) h3
theorem dzO {sz:Nat} {x i:Opd} (o:Oid) (t:Ty) (len:Nat) {j:Nat} (hl:j<len) (h3:XD P G bad g (k+1) xs ((d,.elt o j 0) :: tl) ol ((0,.elt o j 0,[]) :: ra) ((rdX (Ao tl) (Aj ol) ⟨some d,gd,.i (.idx sz x i)⟩) :: da) Kf) (hx:x.ev (Ao tl)=.own o t 0 len:=by kernel_rfl) (hi:i.ev (Ao tl)=.int .i64 (j:Int):=by kernel_rfl) (hs:sz=t.size:=by rfl) (hgd:gdB gd (Ao tl)=true:=by kernel_rfl):XD P G bad g k (⟨some d,gd,.i (.idx sz x i)⟩ :: xs) tl ol ra da Kf:=ds0 _ (Fz hgd (V5 hx hi hs (Int.natCast_nonneg _) rfl hl)) h3
theorem zE {x:Opd} (i:Oid) {ws:List Int} {j:Nat} {z:Int} (hz:ws[j]? =some z) (h3:XW P G g (k+1) xs ((d,.int .i64 z) :: tl) ol Kf) (hx:x.ev (Ao tl)=.elt i j 0:=by kernel_rfl) (hob:Aj ol i=some (.arr 3 .int ws):=by kernel_rfl) (hgd:gdB gd (Ao tl)=true:=by kernel_rfl):XW P G g k (⟨some d,gd,.i (.ld true 1 x)⟩ :: xs) tl ol Kf:=rsl _ (Fz hgd (G9 (k:=0) (t:=.int) hx hob hz rfl)) h3
theorem dzE {x:Opd} (i:Oid) {ws:List Int} {j:Nat} {z:Int} (hz:ws[j]? =some z) (h3:XD P G bad g (k+1) xs ((d,.int .i64 z) :: tl) ol ((1,.int .i64 z,[]) :: ra) ((rdX (Ao tl) (Aj ol) ⟨some d,gd,.i (.ld true 1 x)⟩) :: da) Kf) (hx:x.ev (Ao tl)=.elt i j 0:=by kernel_rfl) (hob:only (rdX (Ao tl) (Aj ol) ⟨some d,gd,.i (.ld true 1 x)⟩) (Aj ol) i=some (.arr 3 .int ws):=by kernel_rfl) (hgd:gdB gd (Ao tl)=true:=by kernel_rfl):XD P G bad g k (⟨some d,gd,.i (.ld true 1 x)⟩ :: xs) tl ol ra da Kf:=dsl _ (Fz hgd (G9 (k:=0) (t:=.int) hx hob hz rfl)) h3
theorem zS {x y:Opd} (i:Oid) {ws:List Int} {j:Nat} {z:Int} (z1:Int) (hz:ws[j]? =some z) (h3:XW P G g (k+1) xs tl ((i,some (.arr 3 .int (ws.set j z1))) :: (i,none) :: ol) Kf) (hx:x.ev (Ao tl)=.elt i j 0:=by kernel_rfl) (hob:Aj ol i=some (.arr 3 .int ws):=by kernel_rfl) (hy:y.ev (Ao tl)=.int .i64 z1:=by kernel_rfl) (hgd:gdB gd (Ao tl)=true:=by kernel_rfl):XW P G g k (⟨none,gd,.st true 1 x y⟩ :: xs) tl ol Kf:=Ak9 _ _ _ (Fz hgd (Agl (k:=0) (t:=.int) (cs:=[.int .i64 z1]) (x1:=z1) hx hob hz (by rw [hy];rfl) rfl)) h3
theorem dzS {x y:Opd} (i:Oid) {ws:List Int} {j:Nat} {z:Int} (z1:Int) (hz:ws[j]? =some z) (h3:XD P G bad g (k+1) xs tl ((i,some (.arr 3 .int (ws.set j z1))) :: (i,none) :: ol) ((2,.any,[(i,none),(i,some (.arr 3 .int (ws.set j z1)))]) :: ra) ((rdX (Ao tl) (Aj ol) ⟨none,gd,.st true 1 x y⟩) :: da) Kf) (hx:x.ev (Ao tl)=.elt i j 0:=by kernel_rfl) (hob:only (rdX (Ao tl) (Aj ol) ⟨none,gd,.st true 1 x y⟩) (Aj ol) i=some (.arr 3 .int ws):=by kernel_rfl) (hy:y.ev (Ao tl)=.int .i64 z1:=by kernel_rfl) (hgd:gdB gd (Ao tl)=true:=by kernel_rfl):XD P G bad g k (⟨none,gd,.st true 1 x y⟩ :: xs) tl ol ra da Kf:=Lg _ _ _ (Fz hgd (Agl (k:=0) (t:=.int) (cs:=[.int .i64 z1]) (x1:=z1) hx hob hz (by rw [hy];rfl) rfl)) h3
theorem zB {x y:Opd} {by_:Nat} (j q:Oid) (ws:List Int) (z:Int) (h:ws.length+1<=1073741824/\(ws.length+1)*by_<=140737488355328) (h3:XW P G g (k+1) xs ((d,.own (j.1,g+k) .int 0 (ws++[z]).length) :: tl) (((j.1,g+k),some (.arr 3 .int (ws++[z]))) :: (j,none) :: ol) Kf) (hx:x.ev (Ao tl)=.own j .int 0 ws.length:=by kernel_rfl) (hob:Aj ol j=some (.arr 3 .int ws):=by kernel_rfl) (hy:y.ev (Ao tl)=.own q .int 0 1:=by kernel_rfl) (hq:Aj ol q=some (.arr 3 .int [z]):=by kernel_rfl) (hgd:gdB gd (Ao tl)=true:=by kernel_rfl):XW P G g k (⟨some d,gd,.append 3 .int by_ x y⟩ :: xs) tl ol Kf:=rs2 _ _ _ _ (Fz hgd (Px (t:=.int) (ys:=[z]) hx hob rfl hy (H9 hq rfl) rfl h)) h3
theorem dzB {x y:Opd} {by_:Nat} (j q:Oid) (ws:List Int) (z:Int) (h:ws.length+1<=1073741824/\(ws.length+1)*by_<=140737488355328) (h3:XD P G bad g (k+1) xs ((d,.own (j.1,g+k) .int 0 (ws++[z]).length) :: tl) (((j.1,g+k),some (.arr 3 .int (ws++[z]))) :: (j,none) :: ol) ((2,.own (j.1,g+k) .int 0 (ws++[z]).length,[(j,none),((j.1,g+k),some (.arr 3 .int (ws++[z])))]) :: ra) ((rdX (Ao tl) (Aj ol) ⟨some d,gd,.append 3 .int by_ x y⟩) :: da) Kf) (hx:x.ev (Ao tl)=.own j .int 0 ws.length:=by kernel_rfl) (hob:only (rdX (Ao tl) (Aj ol) ⟨some d,gd,.append 3 .int by_ x y⟩) (Aj ol) j=some (.arr 3 .int ws):=by kernel_rfl) (hy:y.ev (Ao tl)=.own q .int 0 1:=by kernel_rfl) (hq:only (rdX (Ao tl) (Aj ol) ⟨some d,gd,.append 3 .int by_ x y⟩) (Aj ol) q=some (.arr 3 .int [z]):=by kernel_rfl) (hgd:gdB gd (Ao tl)=true:=by kernel_rfl):XD P G bad g k (⟨some d,gd,.append 3 .int by_ x y⟩ :: xs) tl ol ra da Kf:=ds2 _ _ _ _ (Fz hgd (Px (t:=.int) (ys:=[z]) hx hob rfl hy (H9 hq rfl) rfl h)) h3
theorem zV {x y:Opd} {by_:Nat} (o q p:Oid) (ws:ZA) (cs:LA) (h:ws.length+1<=1073741824/\(ws.length+1)*by_<=140737488355328) (h3:XW P G g (k+1) xs ((d,.own (o.1,g+k) Y1 0 (ws.length+1)) :: tl) (((o.1,g+k),some (.vec 81 1 (ws.length+1) (hdL p .int ws++cs))) :: (o,none) :: ol) Kf) (hc:cs.length=1:=by rfl) (hx:x.ev (Ao tl)=.own o Y1 0 ws.length:=by kernel_rfl) (hob:Aj ol o=some (.vec 81 1 ws.length (hdL p .int ws)):=by kernel_rfl) (hy:y.ev (Ao tl)=.own q Y1 0 1:=by kernel_rfl) (hq:Aj ol q=some (.vec 81 1 1 cs):=by kernel_rfl) (he:M4 (some (.vec 81 1 (ws.length+1) (hdL p .int ws++cs)))=true:=by rfl) (hgd:gdB gd (Ao tl)=true:=by kernel_rfl):XW P G g k (⟨some d,gd,.appV 81 Y1 by_ x y⟩ :: xs) tl ol Kf:=rs2 _ _ _ _ (Fz hgd (Aoz (t2:=.slice .int) hx hob rfl hy hq hc h)) h3 he
theorem dzV {x y:Opd} {by_:Nat} (o q p:Oid) (ws:ZA) (cs:LA) (h:ws.length+1<=1073741824/\(ws.length+1)*by_<=140737488355328) (h3:XD P G bad g (k+1) xs ((d,.own (o.1,g+k) Y1 0 (ws.length+1)) :: tl) (((o.1,g+k),some (.vec 81 1 (ws.length+1) (hdL p .int ws++cs))) :: (o,none) :: ol) ((2,.own (o.1,g+k) Y1 0 (ws.length+1),[(o,none),((o.1,g+k),some (.vec 81 1 (ws.length+1) (hdL p .int ws++cs)))]) :: ra) ((rdX (Ao tl) (Aj ol) ⟨some d,gd,.appV 81 Y1 by_ x y⟩) :: da) Kf) (hc:cs.length=1:=by rfl) (hx:x.ev (Ao tl)=.own o Y1 0 ws.length:=by kernel_rfl) (hob:only (rdX (Ao tl) (Aj ol) ⟨some d,gd,.appV 81 Y1 by_ x y⟩) (Aj ol) o=some (.vec 81 1 ws.length (hdL p .int ws)):=by kernel_rfl) (hy:y.ev (Ao tl)=.own q Y1 0 1:=by kernel_rfl) (hq:only (rdX (Ao tl) (Aj ol) ⟨some d,gd,.appV 81 Y1 by_ x y⟩) (Aj ol) q=some (.vec 81 1 1 cs):=by kernel_rfl) (he:M4 (some (.vec 81 1 (ws.length+1) (hdL p .int ws++cs)))=true:=by rfl) (hgd:gdB gd (Ao tl)=true:=by kernel_rfl):XD P G bad g k (⟨some d,gd,.appV 81 Y1 by_ x y⟩ :: xs) tl ol ra da Kf:=ds2 _ _ _ _ (Fz hgd (Aoz (t2:=.slice .int) hx hob rfl hy hq hc h)) h3 he
theorem zA {x y:Opd} {j:Nat} (h:j+1<4611686018427387904) (h3:XW P G g (k+1) xs ((d,.int .i64 ((j+1:Nat):Int)) :: tl) ol Kf) (hx:x.ev (Ao tl)=.int .i64 j:=by kernel_rfl) (hy:y.ev (Ao tl)=.int .i64 1:=by kernel_rfl):XW P G g k (⟨some d,none,.i (.bin .add x y)⟩ :: xs) tl ol Kf:=rs0 _ (Ar6 hx hy h) h3
end
section
variable {n:Nat} {d:Option Nat} {f:TF} {ob:OF}
theorem zi {sz:Nat} {x i:Opd} {t:Ty} {xs:List t.D} {y:t.D} {k:IntKind} {m:Int} {j:Nat} (h0:0<=m) (hy:xs[j]? =some y) (hx:(x.ev f).un=.tree t xs:=by kernel_rfl) (hi:i.ev f=.int k m:=by kernel_rfl) (hs:sz=t.size:=by rfl) (hj:m.toNat=j:=by rfl) {e:Option NP} (he:(x.ev f).tag=e:=by kernel_rfl):Bc n ⟨d,none,.i (.idx sz x i)⟩ f ob=some (0,.telt e t y 0,[]):=Ajb hx hi hs h0 hj hy he
theorem zo {sz:Nat} {x i:Opd} {t:Ty} {o:Oid} {len:Nat} {k:IntKind} {m:Int} {j:Nat} (h0:0<=m) (hl:j<len) (hx:x.ev f=.own o t 0 len:=by kernel_rfl) (hi:i.ev f=.int k m:=by kernel_rfl) (hs:sz=t.size:=by rfl) (hj:m.toNat=j:=by rfl):Bc n ⟨d,none,.i (.idx sz x i)⟩ f ob=some (0,.elt o j 0,[]):=V5 hx hi hs h0 hj hl
theorem zl {vs:LV} {c:AV} {l:RL} (h:Uu ob c=some l:=by kernel_rfl):LeafR vs ob c l:=Atk h
end
theorem zj {α:Type} {a b:α} (h:some a=some b):a=b:=osj h
set_option maxRecDepth 4000
set_option maxHeartbeats 4800000
variable {aA aB:List Int} {bA bB bC bD:Int} {cA:Bool}
def Nc (a0:List Int) (a1:Int):Option Int :=
 cond (decide (wI (a1 - (a0.length:Int))<0))
 (some (-1))
 (some (wI (a1 - (a0.length:Int))))
def A7 (r:Int):RV:=⟨false,[(false,[.sc (.int .i64 r)])]⟩
theorem Ad9 (h:Nc aA bA=some bB):cK 114 [tI aA,ai bA] (A7 bB):=by
 exact cO Tryz.func114<|Ae<|Ae<|Ab<|Ae (kQ h (fun _ h=>Ae<|Ac<|tr_<|jS h) fun _ h=>skW<|Ae<|Ac<|jS h)
def Jl (a0:List Int) (u0:Nat) (u1:List Int):Option (Ctl (Nat×List Int) (List Int)) :=
 cond (decide ((u0:Int)<(a0.length:Int)))
 ((a0[u0]?).bind fun x11 =>
 (u1[u0]?).bind fun x12 =>
 og (u0+1<4611686018427387904) <|
 some (.next (u0+1,u1.set u0 x11)))
 (some (.out u1))
def Ns (a0:List Int):Option (List Int) :=
 og (0<=(a0.length:Int)/\(a0.length:Int)<=(a0.length:Int)/\(a0.length:Int)<=1073741824/\(8:Int)*(a0.length:Int)<=140737488355328) <|
(Aq (fun s_:Nat×List Int=>Jl a0 s_.1 s_.2) 4611686018427387904 (0,replicate a0.length (0:Int))).bind fun u0 =>
some u0
def Ch (r:List Int):RV:=⟨false,[(false,[.new 3 .int r])]⟩
theorem Adl (h:Ns aA=some aB):cK 120 [tI aA] (Ch aB):=by
 refine cO Tryz.func120<|Ae<|Ab<|Aa 6<|rsT 2 ?_;have ⟨g3,h⟩:=Al h;refine rs1 (oI 7 4 aA.length) (oi 7 4) (.arr 3 .int<|replicate aA.length (0:Int)) (Pp (t:=.int) (k:=.i64) (k':=.i64) (m:=(aA.length:Int)) (m':=(aA.length:Int)) kr kr g3 rfl)<|rsT 1<|rnW (sqF h (fun u1=>sT [(3,oI 0 1 u1.length)] [(oi 0 1,.arr 3 .int u1)]) ?_ fun u1 h=>Ae<|Ac<|jR h [oI 0 1 u1.length]<|Hv rfl (Ea kr rfl) Ht);intro _ h;refine Ae<|Ad<|lpF h (fun (u2,u0)=>sT [(0,tI aA),(3,oI 0 1 u0.length),(4,an u2)] [(oi 0 1,.arr 3 .int u0)]) ((wL 3 (length_replicate.symm:aA.length=(replicate aA.length (0:Int)).length)).trans<|Ag [(oi 0 1,oi 7 4)]) ?_;rintro n_ ⟨u2,u0⟩ c_ h hn6;refine Ab<|Ae (kQ h (fun _ h=>skW<|Ab<|Ad<|Aa 14<|rsT 4 (riH .int h fun x11 _ h=>rsT 1 ?_)) fun _ h=>lxT (have h:=jO h hn6;jE []));have ⟨x12,e12,h⟩:=Ah h;refine zO (oi 0 1) .int u0.length (Ai e12)<|zS (oi 0 1) (x11) e12<|Ap<|bn_<|tn_<|wr_<|Aa 17<|rsT 1 (raH h fun h=>rsT 1<|Ap<|tn_ ?_);cases h;exact jLw hn6<|(wL 3 (((rfl:u0.length=u0.length).trans length_set.symm):u0.length=(u0.set u2 x11).length)).trans<|Ag []
def Jr (a0 a1:List Int) (u0:Nat):Option (Ctl Nat (Ctl Unit Bool)) :=
 cond (decide ((u0:Int)<(a0.length:Int)))
 ((a0[u0]?).bind fun x14 =>
 (a1[u0]?).bind fun x15 =>
 cond (x14 !=x15)
  (some (.out (.out false)))
  (og (u0+1<4611686018427387904) <|
  some (.next (u0+1))))
 (some (.out (.next ())))
def Nx (a0 a1:List Int):Option Bool :=
 cond ((a0.length:Int) !=(a1.length:Int))
 (some false)
 (Dj (Aq (fun s_:Nat=>Jr a0 a1 s_) 4611686018427387904 0) fun _ =>
 some true)
def Am (r:Bool):RV:=⟨false,[(false,[.sc (.bool r)])]⟩
theorem Afg (h:Nx aA aB=some cA):cK 71 [tI aA,tI aB] (Am cA):=by
 exact cO Tryz.func71<|Ae<|Ab<|Ae (kQ h (fun _ h=>Ae<|Ac<|tr_<|jS h) fun _ h=>skW (sqC h (fun _=>sT [] []) (fun _ h hk6=>Ae<|Ad<|lpF h (fun u0=>sT [(0,tI aA),(1,tI aB),(5,an u0)] []) (Ag []) fun n_ u0 c_ h hn8=>Ab<|Ae (kQ h (fun _ h=>skW<|Ab<|Ad<|Ab<|An 15<|ds0 (tI aA) kr<|ds0 (an u0) kr (diH .int h fun x14 _ h=>dsT 3 (diH .int h fun x15 _ h=>ds0 (ai x15) kr<|ds0 (.bool<|x14 !=x15) kr<|Cb (Ar kr)<|tn_<|wr_ (kQ h (fun _ h=>Ae<|Ac<|br_<|tr_<|tr_<|br_<|tr_ (have h:=jO h hn8;(have h:=jO h hk6;jS h))) fun _ h=>Ax<|bn_<|tn_<|wr_<|Aa 18<|rsT 1 (raH h fun h=>rsT 1<|Ap<|tn_<|jL []))))) fun _ h=>lxT (have h:=jO h hn8;jC []))) fun _ h=>Ae<|Ac<|jS h))
def Ct (a0 a1 a2:Int):Option Bool :=
 (cond (decide (a1<=a0))
  (some (decide (a0<=a2)))
  (some false)).bind fun u0 =>
some u0
theorem C6 (h:Ct bA bB bC=some cA):cK 96 [ai bA,ai bB,ai bC] (Am cA):=by
 exact cO Tryz.func96<|Ae (sqF h (fun u0=>sT [(6,.bool u0)] []) (fun _ h=>Aa 11<|rsT 4 (kR h 10 (fun _ h=>rsT 5<|Ap<|tn_<|jE []) fun _ h=>rsT 5<|Ap<|tn_<|jE [])) fun u0 h=>Ac<|jS h)
def J1 (a0:Int) (u0:Nat):Option (Ctl Nat (Ctl Unit Bool)) :=
 cond (decide (wI ((u0:Int)*(u0:Int))<=a0))
 (og ((u0:Int)≠0) <|
 cond ((Int.tmod a0 (u0:Int))==0)
  (some (.out (.out false)))
  (og (u0+1<4611686018427387904) <|
  some (.next (u0+1))))
 (some (.out (.next ())))
def Gc (a0:Int):Option Bool :=
 (Ct a0 2 97).bind fun y4 =>
cond (!y4)
 (some false)
 (Dj (Aq (fun s_:Nat=>J1 a0 s_) 4611686018427387904 2) fun _ =>
 some true)
theorem Ls (h:Gc bA=some cA):cK 94 [ai bA] (Am cA):=by
 refine cO Tryz.func94<|Ae<|Ab<|Ab<|Aa 5<|rsT 1 (rcH h C6 fun y4 h=>rsT 1<|rnW (kQ h (fun _ h=>Ae<|Ac<|tr_<|jS h) fun _ h=>skW (sqC h (fun _=>sT [] []) ?_ fun _ h=>Ae<|Ac<|jS h)));intro _ h hk7;refine Ae<|Ad<|lpF h (fun u0=>sT [(0,ai bA),(3,an u0)] []) (Ag []) ?_;intro n_ u0 c_ h hn9;refine Ab<|Ae (kQ h (fun _ h=>skW<|Ab<|Ad<|Ab<|Aa 11<|rsT 2 ?_) fun _ h=>lxT (have h:=jO h hn9;jC []));have ⟨g15,h⟩:=Al h;exact rs0 (ai<|Int.tmod bA (u0:Int)) (Qu (k:=.i64) (a:=bA) (b:=(u0:Int)) kr kr g15)<|rsT 1<|rnW (kQ h (fun _ h=>Ae<|Ac<|br_<|tr_<|tr_<|br_<|tr_ (have h:=jO h hn9;(have h:=jO h hk7;jS h))) fun _ h=>Ax<|bn_<|tn_<|wr_<|Aa 14<|rsT 1 (raH h fun h=>rsT 1<|Ap<|tn_<|jL []))
def Ok (a0:List Int) (a1 a2:Int) (u0:Nat):Option (Ctl Nat (Ctl Unit Bool)) :=
 cond (decide ((u0:Int)<(a0.length:Int)))
 ((a0[u0]?).bind fun x10 =>
 (Ct x10 a1 a2).bind fun y12 =>
 cond (!y12)
  (some (.out (.out false)))
  (og (u0+1<4611686018427387904) <|
  some (.next (u0+1))))
 (some (.out (.next ())))
def F7 (a0:List Int) (a1 a2:Int):Option Bool :=
 Dj (Aq (fun s_:Nat=>Ok a0 a1 a2 s_) 4611686018427387904 0) fun _ =>
some true
theorem Kg (h:F7 aA bA bB=some cA):cK 185 [tI aA,ai bA,ai bB] (Am cA):=by
 exact cO Tryz.func185<|Ae (sqC h (fun _=>sT [] []) (fun _ h hk2=>Ae<|Ad<|lpF h (fun u0=>sT [(1,ai bA),(2,ai bB),(9,tI aA),(10,an aA.length),(11,an u0)] []) (Ag []) fun n_ u0 c_ h hn4=>Ae<|Ab (kQ h (fun _ h=>skW<|Ab<|Ad<|Ab<|Aa 6 (riH .int h fun x10 _ h=>rsT 2<|rnW<|Ab<|Aa 11<|rsT 3 (rcH h C6 fun y12 h=>rsT 1<|rnW (kQ h (fun _ h=>Ae<|Ac<|br_<|tr_<|tr_<|br_<|tr_ (have h:=jO h hn4;(have h:=jO h hk2;jS h))) fun _ h=>Ax<|bn_<|tn_<|wr_<|Aa 13 (raH h fun h=>rsT 1<|Ap<|tn_<|jL []))))) fun _ h=>lxT (have h:=jO h hn4;jC []))) fun _ h=>Ae<|Ac<|jS h)
def Hi (a0:List Int):Option (List Int) :=
 og (0+a0.length<=1073741824/\(0+a0.length)*8<=140737488355328) <|
some a0
theorem Np (h:Hi aA=some aB):cK 102 [tI aA] (Ch aB):=by
 refine cO Tryz.func102<|Ae<|Ab<|Aa 6<|rsB 2 ?_;have ⟨g3,h⟩:=Al h;exact rs2 (oI 3 4 aA.length) (oi 3 2) (oi 3 4) (.arr 3 .int aA) (Px (t:=.int) (t':=.int) (xs:=[]) (ys:=aA) (zs:=aA) (j:=oi 3 2) (len:=0) (c:=tI aA) kr kr rfl kr Kz rfl g3)<|rsT 1<|rnW<|Ac<|jR h [oI 3 4 aA.length]<|Hv rfl (Ea kr rfl) Ht
def Qe (a0:Int) (a1:List Int):Option Bool :=
 (F7 a1 0 (wI (a0 - 1))).bind fun y3 =>
some y3
theorem Ah5 (h:Qe bA aA=some cA):cK 178 [ai bA,tI aA] (Am cA):=by
 exact cO Tryz.func178<|Ae<|Ab<|Aa 7<|rsT 3 (rcH h Kg fun y3 h=>rsT 1<|rnW<|Ac<|jS h)
def Ef (a0 a1 a2:Int):Option Int :=
 og (a0≠0) <|
some (Int.tmod (wI (a1+a2)) a0)
theorem Af5 (h:Ef bA bB bC=some bD):cK 190 [ai bA,ai bB,ai bC] (A7 bD):=by
 refine cO Tryz.func190<|Ae<|Ab<|Aa 8<|rsT 4 ?_;have ⟨g3,h⟩:=Al h;exact rs0 (ai<|Int.tmod (wI<|bB+bC) bA) (Qu (k:=.i64) (a:=wI<|bB+bC) (b:=bA) kr kr g3)<|rsT 1<|rnW<|Ac<|jS h
def Ma (a0 a1 a2:Int):Option Int :=
 og (a0≠0) <|
some (Int.tmod (wI (a1*a2)) a0)
theorem Vs (h:Ma bA bB bC=some bD):cK 171 [ai bA,ai bB,ai bC] (A7 bD):=by
 refine cO Tryz.func171<|Ae<|Ab<|Aa 8<|rsT 4 ?_;have ⟨g3,h⟩:=Al h;exact rs0 (ai<|Int.tmod (wI<|bB*bC) bA) (Qu (k:=.i64) (a:=wI<|bB*bC) (b:=bA) kr kr g3)<|rsT 1<|rnW<|Ac<|jS h
def B6 (a0 a1 a2:Int):Option Bool :=
 (cond (decide (a1<=a0))
  (some (decide (a0<=a2)))
  (some false)).bind fun u0 =>
some u0
theorem C2 (h:B6 bA bB bC=some cA):cK 121 [ai bA,ai bB,ai bC] (Am cA):=by
 exact cO Tryz.func121<|Ae (sqF h (fun u0=>sT [(6,.bool u0)] []) (fun _ h=>Aa 11<|rsT 4 (kR h 10 (fun _ h=>rsT 5<|Ap<|tn_<|jE []) fun _ h=>rsT 5<|Ap<|tn_<|jE [])) fun u0 h=>Ac<|jS h)
def Jd (a0 a1:Int):Option Bool :=
 (cond (decide (0<=a1))
  (some (decide (a1<a0)))
  (some false)).bind fun u0 =>
some u0
theorem X0 (h:Jd bA bB=some cA):cK 186 [ai bA,ai bB] (Am cA):=by
 exact cO Tryz.func186<|Ae (sqF h (fun u0=>sT [(4,.bool u0)] []) (fun _ h=>Aa 10<|rsT 3 (kR h 7 (fun _ h=>rsT 5<|Ap<|tn_<|jE []) fun _ h=>rsT 5<|Ap<|tn_<|jE [])) fun u0 h=>Ac<|jS h)
def Le (a1:List Int) (a0:Int) (u0:Nat):Option (Ctl Nat (Ctl Unit Bool)) :=
 cond (decide ((u0:Int)<(a1.length:Int)))
 ((a1[u0]?).bind fun x14 =>
 (Jd a0 x14).bind fun y16 =>
 cond (!y16)
  (some (.out (.out false)))
  (og (u0+1<4611686018427387904) <|
  some (.next (u0+1))))
 (some (.out (.next ())))
def Kt (a0:Int) (a1:List Int) (a2:Int):Option Bool :=
 cond ((a1.length:Int) !=a2)
 (some false)
 (Dj (Aq (fun s_:Nat=>Le a1 a0 s_) 4611686018427387904 0) fun _ =>
 some true)
theorem Z2 (h:Kt bA aA bB=some cA):cK 180 [ai bA,tI aA,ai bB] (Am cA):=by
 exact cO Tryz.func180<|Ae<|Ab<|Ae (kQ h (fun _ h=>Ae<|Ac<|tr_<|jS h) fun _ h=>skW (sqC h (fun _=>sT [] []) (fun _ h hk6=>Ae<|Ad<|lpF h (fun u0=>sT [(0,ai bA),(13,tI aA),(14,an aA.length),(15,an u0)] []) (Ag []) fun n_ u0 c_ h hn8=>Ae<|Ab (kQ h (fun _ h=>skW<|Ab<|Ad<|Ab<|Aa 6 (riH .int h fun x14 _ h=>rsT 2<|rnW<|Ab<|Aa 10<|rsT 2 (rcH h X0 fun y16 h=>rsT 1<|rnW (kQ h (fun _ h=>Ae<|Ac<|br_<|tr_<|tr_<|br_<|tr_ (have h:=jO h hn8;(have h:=jO h hk6;jS h))) fun _ h=>Ax<|bn_<|tn_<|wr_<|Aa 12 (raH h fun h=>rsT 1<|Ap<|tn_<|jL []))))) fun _ h=>lxT (have h:=jO h hn8;jC []))) fun _ h=>Ae<|Ac<|jS h))
def Sr (a0 a1:Int):Option Int :=
 og (a0≠0) <|
(cond (decide (Int.tmod a1 a0<0))
  (some (wI (Int.tmod a1 a0+a0)))
  (some (Int.tmod a1 a0))).bind fun u0 =>
some u0
theorem Alj (h:Sr bA bB=some bC):cK 165 [ai bA,ai bB] (A7 bC):=by
 refine cO Tryz.func165<|Ae<|Ab<|Aa 6<|rsT 2 ?_;have ⟨g3,h⟩:=Al h;exact rs0 (ai<|Int.tmod bB bA) (Qu (k:=.i64) (a:=bB) (b:=bA) kr kr g3)<|rsT 1<|rnW (sqF h (fun u0=>sT [(1,ai u0)] []) (fun _ h=>Ae (kQ h (fun _ h=>Aa 12<|rsT 4<|Ap<|tn_<|jE []) fun _ h=>Ax<|tn_<|jE [])) fun u0 h=>Ae<|Ac<|jS h)
def O5 (a0:List Int):Option (List Int) :=
 og (0+a0.length<=1073741824/\(0+a0.length)*8<=140737488355328) <|
some a0
theorem Agg (h:O5 aA=some aB):cK 155 [tI aA] (Ch aB):=by
 refine cO Tryz.func155<|Ae<|Ab<|Aa 6<|rsB 2 ?_;have ⟨g3,h⟩:=Al h;exact rs2 (oI 3 4 aA.length) (oi 3 2) (oi 3 4) (.arr 3 .int aA) (Px (t:=.int) (t':=.int) (xs:=[]) (ys:=aA) (zs:=aA) (j:=oi 3 2) (len:=0) (c:=tI aA) kr kr rfl kr Kz rfl g3)<|rsT 1<|rnW<|Ac<|jR h [oI 3 4 aA.length]<|Hv rfl (Ea kr rfl) Ht
set_option maxRecDepth 4000
set_option maxHeartbeats 4800000
variable {bA bB bC bD bE:Int} {dA dB:LL} {cA:Bool} {aA aB aC:List Int} {eA:LL×LL} {fA:LL×LL×Nat}
def Ab0 (a0 a1:Int) (u0:Nat):Option (Ctl Nat (Ctl Unit Int)) :=
 cond (decide ((u0:Int)<a0))
 (og (a0≠0) <|
 cond ((Int.tmod (wI (a1*(u0:Int))) a0)==1)
  (some (.out (.out (u0:Int))))
  (og (u0+1<4611686018427387904) <|
  some (.next (u0+1))))
 (some (.out (.next ())))
def O9 (a0 a1:Int):Option Int :=
 Dj (Aq (fun s_:Nat=>Ab0 a0 a1 s_) 4611686018427387904 1) fun _ =>
some 0
theorem Af9 (h:O9 bA bB=some bC):cK 170 [ai bA,ai bB] (A7 bC):=by
 refine cO Tryz.func170<|Ae (sqC h (fun _=>sT [] []) ?_ fun _ h=>Ae<|Ac<|jS h);intro _ h hk2;refine Ae<|Ad<|lpF h (fun u0=>sT [(0,ai bA),(1,ai bB),(5,an u0)] []) (Ag []) ?_;intro n_ u0 c_ h hn4;refine Ab<|Ae (kQ h (fun _ h=>skW<|Ab<|Ad<|Ab<|Aa 11<|rsT 4 ?_) fun _ h=>lxT (have h:=jO h hn4;jC []));have ⟨g10,h⟩:=Al h;exact rs0 (ai<|Int.tmod (wI<|bB*(u0:Int)) bA) (Qu (k:=.i64) (a:=wI<|bB*(u0:Int)) (b:=bA) kr kr g10)<|rsT 1<|rnW (kQ h (fun _ h=>Ae<|Ac<|br_<|tr_<|tr_<|br_<|tr_ (have h:=jO h hn4;(have h:=jO h hk2;jS h))) fun _ h=>Ax<|bn_<|tn_<|wr_<|Aa 14<|rsT 1 (raH h fun h=>rsT 1<|Ap<|tn_<|jL []))
def Fy (a0 a1:Int):Option Int :=
 og (a0≠0) <|
some (Int.tmod (wI (a0 - a1)) a0)
theorem Ra (h:Fy bA bB=some bC):cK 99 [ai bA,ai bB] (A7 bC):=by
 refine cO Tryz.func99<|Ae<|Ab<|Aa 8<|rsT 4 ?_;have ⟨g3,h⟩:=Al h;exact rs0 (ai<|Int.tmod (wI<|bA - bB) bA) (Qu (k:=.i64) (a:=wI<|bA - bB) (b:=bA) kr kr g3)<|rsT 1<|rnW<|Ac<|jS h
def Oz (a0 a1 a2:Int):Option Int :=
 og (a0≠0) <|
some (Int.tmod (wI ((wI (a1+a0)) - a2)) a0)
theorem Agf (h:Oz bA bB bC=some bD):cK 172 [ai bA,ai bB,ai bC] (A7 bD):=by
 refine cO Tryz.func172<|Ae<|Ab<|Aa 10<|rsT 6 ?_;have ⟨g3,h⟩:=Al h;exact rs0 (ai<|Int.tmod (wI<|(wI<|bB+bA) - bC) bA) (Qu (k:=.i64) (a:=wI<|(wI<|bB+bA) - bC) (b:=bA) kr kr g3)<|rsT 1<|rnW<|Ac<|jS h
def Fm (a2:LL) (u0:Nat) (u1:LL):Option (Ctl (Nat×LL) (LL)) :=
 cond (decide ((u0:Int)<(a2.length:Int)))
 ((a2[u0]?).bind fun x12 =>
 (Hi x12).bind fun y13 =>
 og (u1.length+1<=1073741824/\(u1.length+1)*24<=140737488355328) <|
 og (u0+1<4611686018427387904) <|
 some (.next (u0+1,u1++[y13])))
 (some (.out u1))
def Fn (u1:LL) (u2 u0:Nat):Option (Ctl Nat Nat) :=
 (cond (decide ((u0:Int)<(u1.length:Int)))
  ((u1[u0]?).bind fun x31 =>
  (x31[u2]?).bind fun x32 =>
  some (x32==0))
  (some false)).bind fun u3 =>
cond u3
 (og (u0+1<4611686018427387904) <|
 some (.next (u0+1)))
 (some (.out u0))
def Hf (x44:List Int) (u2:Nat) (a0 y46:Int) (u0:Nat) (u1:LL):Option (Ctl (Nat×LL) (LL)) :=
 cond (decide ((u0:Int)<(x44.length:Int)))
 ((u1[u2]?).bind fun x55 =>
 (x55[u0]?).bind fun x56 =>
 (Ma a0 x56 y46).bind fun y57 =>
 og (u0+1<4611686018427387904) <|
 some (.next (u0+1,u1.set u2 (x55.set u0 y57))))
 (some (.out u1))
def Hk (x74:List Int) (u2 u3:Nat) (a0 x75:Int) (u0:Nat) (u1:LL):Option (Ctl (Nat×LL) (LL)) :=
 cond (decide ((u0:Int)<(x74.length:Int)))
 ((u1[u2]?).bind fun x83 =>
 (x83[u0]?).bind fun x84 =>
 (u1[u3]?).bind fun x85 =>
 (x85[u0]?).bind fun x86 =>
 (Ma a0 x75 x86).bind fun y87 =>
 (Oz a0 x84 y87).bind fun y88 =>
 og (u0+1<4611686018427387904) <|
 some (.next (u0+1,u1.set u2 (x83.set u0 y88))))
 (some (.out u1))
def Hl (u4:LL) (u2 u3:Nat) (a0:Int) (u0:Nat) (u1:LL):Option (Ctl (Nat×LL) (LL)) :=
 cond (decide ((u0:Int)<(u4.length:Int)))
 (((cond ((u0:Int)==(u2:Int))
       (some true)
       ((u1[u0]?).bind fun x70 =>
       (x70[u3]?).bind fun x71 =>
       some (x71==0))).bind fun u5 =>
  cond u5
   (some u1)
   ((u1[u0]?).bind fun x74 =>
   (x74[u3]?).bind fun x75 =>
   Aq (fun s_:Nat×LL=>Hk x74 u0 u2 a0 x75 s_.1 s_.2) 4611686018427387904 (0,u1))).bind fun u6 =>
 og (u0+1<4611686018427387904) <|
 some (.next (u0+1,u6)))
 (some (.out u1))
def D6 (a1 a0:Int) (u0 u2:Nat) (u1:LL):Option (Ctl (Nat×Nat×LL) (Nat×LL)) :=
 (cond (decide ((u2:Int)<a1))
  (some (decide ((u0:Int)<(u1.length:Int))))
  (some false)).bind fun u5 =>
cond u5
 (((Aq (fun s_:Nat=>Fn u1 u2 s_) 4611686018427387904 u0).bind fun u3 =>
  cond ((u3:Int)==(u1.length:Int))
   (some (u0,u1))
   ((u1[u0]?).bind fun x39 =>
   (u1[u3]?).bind fun x41 =>
   (((u1.set u0 x41).set u3 x39)[u0]?).bind fun x44 =>
   (x44[u2]?).bind fun x45 =>
   (O9 a0 x45).bind fun y46 =>
   (Aq (fun s_:Nat×LL=>Hf x44 u0 a0 y46 s_.1 s_.2) 4611686018427387904 (0,(u1.set u0 x41).set u3 x39)).bind fun u4 =>
   (Aq (fun s_:Nat×LL=>Hl u4 u0 u2 a0 s_.1 s_.2) 4611686018427387904 (0,u4)).bind fun u6 =>
   og (u0+1<4611686018427387904) <|
   some (u0+1,u6))).bind fun (u7,u8) =>
 og (u2+1<4611686018427387904) <|
 some (.next (u7,u2+1,u8)))
 (some (.out (u0,u1)))
def Ex (a0 a1:Int) (a2:LL):Option LL :=
 (Aq (fun s_:Nat×LL=>Fm a2 s_.1 s_.2) 4611686018427387904 (0,([]:LL))).bind fun u2 =>
(Aq (fun s_:Nat×Nat×LL=>D6 a1 a0 s_.1 s_.2.1 s_.2.2) 4611686018427387904 (0,0,u2)).bind fun (u0,u1) =>
og ((0:Int)<=0/\0<=(u0:Int)/\(u0:Int)<=(u1.length:Int)) <|
some (u1.take u0)
theorem Jx (h:Ex bA bB dA=some dB):Eb Tryz.prog Tab 146 [ai bA,ai bB,tS dA] [] (oS 0 1 dB.length) [(oi 0 1,.mat 81 (oi 1 1) .int dB),(oi 1 1,.pool 3 .int dB)]:=by
 refine B3 kr Tryz.func146 (Cc kr) (n:=177) kr fS rfl kr trivial ⟨⟨3,.tail _<|.head _⟩,⟨trivial,trivial⟩⟩<|Ae<|Ae<|sqF h (fun uf=>sT [(0,ai bA),(1,ai bB),(7,oS 0 1 uf.length)] [(oi 0 1,.mat 81 (oi 1 1) .int uf),(oi 1 1,.pool 3 .int uf)]) ?_ ?_
 ·intro _ h;refine Ae<|Ad<|lpF h (fun (uj,uc)=>sT [(0,ai bA),(1,ai bB),(7,oS 0 1 uc.length),(19,tS dA),(20,an dA.length),(21,an uj)] [(oi 0 1,.mat 81 (oi 1 1) .int uc),(oi 1 1,.pool 3 .int uc)]) ((My 7 81 sI kr).trans<|(Dt (e1:=81) (n:=0) 9000 (oi 7 6) 3 .int kr kr rfl kr kr).trans<|Ag [(oi 0 1,oi 7 6),(oi 1 1,oi 9000 7)]) ?_;rintro n_ ⟨uj,uc⟩ c_ h hn6
  (try dsimp only at h);refine Ae<|Ab (kQ h (fun q9 h=>?_) fun q9 h=>?_)
  ·have q9_:=of_decide_eq_true q9;refine skW<|Ab<|Ad<|Ab<|Aa 6 (riH sI h fun x12 _ h=>rsT 2<|rnW<|Aa 12<|rsT 2 (rcH h Np fun y13 h=>I4 (oS 28 9 1) (oi 28 9) (.vec 81 1 1<|[oI 432 8 y13.length]) trivial (C8 kr) ?_));have ⟨g14,h⟩:=Al h;refine zV (oi 0 1) (oi 28 9) (oi 1 1) uc [oI 432 8 y13.length] g14<|rsT 1<|Ap<|bn_<|tn_ ⟨_,Eu (e1:=81) (e:=3) (u:=.int) (n:=uc.length+1) (len:=y13.length) (row:=y13) (ys:=y13) (xss:=uc) 9000 (oi 0 10) (oi 1 1) (oi 432 8) kr kr rfl kr kr (N1 rfl) (Ny rfl) kr kr kr,Aa 15 ?_⟩;have ⟨g15,h⟩:=Al h;refine zA g15<|rsT 1<|Ap<|tn_ ?_;cases h;exact jLw hn6<|(wL 7 (fS:uc.length+1=(uc++[y13]).length)).trans<|Ag [(oi 0 1,oi 0 10),(oi 1 1,oi 9000 12)]
  have q9_:=of_decide_eq_false q9;refine lxT ?_;have h:=jO h hn6
  (try dsimp only at h);exact jE []
 intro uf h
 (try dsimp only at h);refine Ae<|sqF h (fun (ua,ub)=>sT [(7,oS 0 1 ub.length),(10,an ua)] [(oi 0 1,.mat 81 (oi 1 1) .int ub),(oi 1 1,.pool 3 .int ub)]) ?_ ?_
 ·intro _ h;refine Ae<|Ad<|lpF h (fun (u0,u3,u1)=>sT [(0,ai bA),(1,ai bB),(7,oS 0 1 u1.length),(10,an u0),(11,an u3)] [(oi 0 1,.mat 81 (oi 1 1) .int u1),(oi 1 1,.pool 3 .int u1)]) (Ag []) ?_;rintro n_ ⟨u0,u3,u1⟩ c_ h hn19
  (try dsimp only at h);refine Ab<|sqF h (fun uk=>sT [(0,ai bA),(1,ai bB),(7,oS 0 1 u1.length),(10,an u0),(11,an u3),(39,.bool uk)] [(oi 0 1,.mat 81 (oi 1 1) .int u1),(oi 1 1,.pool 3 .int u1)]) ?_ ?_
  ·intro _ h;refine Aa 11<|rsT 4 (kR h 34 (fun q22 h=>?_) fun q22 h=>?_)
   ·have q22_:=of_decide_eq_true q22;exact rsT 5<|Ap<|tn_<|jE []
   have q22_:=of_decide_eq_false q22;exact rsT 5<|Ap<|tn_<|jE []
  intro uk h
  (try dsimp only at h);refine kQ h (fun _ h=>?_) fun _ h=>?_
  ·refine skW<|sqF h (fun (ul,ug)=>sT [(0,ai bA),(1,ai bB),(7,oS 0 1 ug.length),(10,an ul),(11,an u3)] [(oi 0 1,.mat 81 (oi 1 1) .int ug),(oi 1 1,.pool 3 .int ug)]) ?_ ?_
   ·intro _ h;refine Ad<|Ae<|sqF h (fun u6=>sT [(0,ai bA),(1,ai bB),(7,oS 0 1 u1.length),(10,an u0),(11,an u3),(12,an u6)] [(oi 0 1,.mat 81 (oi 1 1) .int u1),(oi 1 1,.pool 3 .int u1)]) ?_ ?_
    ·intro _ h;refine Ad<|lpF h (fun ud=>sT [(0,ai bA),(1,ai bB),(7,oS 0 1 u1.length),(10,an u0),(11,an u3),(12,an ud)] [(oi 0 1,.mat 81 (oi 1 1) .int u1),(oi 1 1,.pool 3 .int u1)]) (Ag []) ?_;intro n_ ud c_ h hn27
     (try dsimp only at h);refine Ab<|sqF h (fun um=>sT [(0,ai bA),(1,ai bB),(7,oS 0 1 u1.length),(10,an u0),(11,an u3),(12,an ud),(56,.bool um)] [(oi 0 1,.mat 81 (oi 1 1) .int u1),(oi 1 1,.pool 3 .int u1)]) ?_ ?_
     ·intro _ h;refine Aa 16<|rsT 5 ?_;rcases A3 h with ⟨q30,h⟩|⟨q30,h⟩
      ·have q30_:=of_decide_eq_true q30;refine rq 47 q30<|rsT 2 ?_;have ⟨x31,e31,h⟩:=Ah h;refine zO (oi 0 1) sI u1.length (Ai e31)<|rsl (.own (kid (oi 1 1) ud) .int 0 x31.length) (Fc (o:=oi 0 1) (p:=oi 1 1) (e1:=81) (u:=.int) (xss:=u1) (row:=x31) (j:=ud) kr kr e31)<|rsT 1 ?_;have ⟨x32,e32,h⟩:=Ah h;exact rs0 (.elt (kid (oi 1 1) ud) u3 0) (zo (t:=.int) (o:=kid (oi 1 1) ud) (len:=x31.length) (k:=.i64) (m:=(u3:Int)) (D7 _)<|Ai e32)<|rsl (ai x32) (G9 (i:=kid (oi 1 1) ud) (j:=u3) (k:=0) (e:=3) (t:=.int) (xs:=x31) kr (Bo kr e31) e32 kr)<|rsT 2<|Ap<|tn_<|jE []
      have q30_:=of_decide_eq_false q30;exact rq 47 q30<|rsT 9<|Ap<|tn_<|jE []
     intro um h
     (try dsimp only at h);refine kQ h (fun _ h=>?_) fun _ h=>?_
     ·refine skW<|Ad<|Aa 5<|rsT 1 ?_;have ⟨g34,h⟩:=Al h;exact zA g34<|rsT 1<|Ap<|bn_<|tn_<|jL []
     refine lxT ?_;have h:=jO h hn27
     (try dsimp only at h);exact jE []
    intro u6 h
    (try dsimp only at h);refine Ab<|Ae (kQ h (fun _ h=>Ep<|te_<|be_<|tn_<|jE []) fun _ h=>skW<|Ab<|Aa 11<|rsT 2 ?_);have ⟨x39,e39,h⟩:=Ah h;refine zO (oi 0 1) sI u1.length (Ai e39)<|rsl (.own (kid (oi 1 1) u0) .int 0 x39.length) (Fc (o:=oi 0 1) (p:=oi 1 1) (e1:=81) (u:=.int) (xss:=u1) (row:=x39) (j:=u0) kr kr e39)<|rsT 1<|rnW<|Ab<|Aa 19<|rsT 4 ?_;have ⟨x41,e41,h⟩:=Ah h;refine zO (oi 0 1) sI u1.length (Ai e41) (rsl (.own (kid (oi 1 1) u6) .int 0 x41.length) (Fc (o:=oi 0 1) (p:=oi 1 1) (e1:=81) (u:=.int) (xss:=u1) (row:=x41) (j:=u6) kr kr e41)<|zO (oi 0 1) sI u1.length (Ai e39)<|Ak9 (oi 0 1) (oi 0 1) (.vec 81 1 u1.length<|(hdL (oi 1 1) .int u1).set u0<|.own (kid (oi 1 1) u6) .int 0 x41.length) (Ae8 (o:=oi 0 1) (e1:=81) (m:=u1.length) (cs:=hdL (oi 1 1) .int u1) (v:=.own (kid (oi 1 1) u6) .int 0 x41.length) (j:=u0) kr kr kr rfl (by rw [Do];exact Ai e39))<|rnW<|Ab<|Aa 24<|rsT 3<|zO (oi 0 1) sI u1.length (Ai e41)<|Ak9 (oi 0 1) (oi 0 1) (.vec 81 1 u1.length<|((hdL (oi 1 1) .int u1).set u0<|.own (kid (oi 1 1) u6) .int 0 x41.length).set u6<|.own (kid (oi 1 1) u0) .int 0 x39.length) (Ae8 (o:=oi 0 1) (e1:=81) (m:=u1.length) (cs:=(hdL (oi 1 1) .int u1).set u0<|.own (kid (oi 1 1) u6) .int 0 x41.length) (v:=.own (kid (oi 1 1) u0) .int 0 x39.length) (j:=u6) kr kr kr rfl (by rw [length_set,Do];exact Ai e41))<|Ap<|tn_ ⟨_,Ae6 (e1:=81) (e:=3) (u:=.int) (xss:=u1) (i:=u0) (j:=u6) (n:=u1.length) (li:=x39.length) (lj:=x41.length) (ri:=x39) (rj:=x41) 9000 (oi 0 1) (oi 1 1) kr kr rfl kr e39 e41 rfl rfl kr kr,Ab<|Aa 35<|rsT 3 ?_⟩);have ⟨x44,e44,h⟩:=Ah h;refine rs0 (.elt (oi 0 1) u0 0) (zo (t:=sI) (o:=oi 0 1) (len:=u1.length) (k:=.i64) (m:=(u0:Int)) (D7 _)<|Nat.lt_of_lt_of_le (Ai e44)<|Nat.le_of_eq<|Eq.symm<|Eq.trans (b:=u1.length) rfl fS)<|rsl (.own (kid (oi 9000 24) u0) .int 0 x44.length) (Fc (o:=oi 0 1) (p:=oi 9000 24) (e1:=81) (u:=.int) (xss:=(u1.set u0 x41).set u6 x39) (row:=x44) (j:=u0) kr kr e44)<|rsT 1 ?_;have ⟨x45,e45,h⟩:=Ah h;refine rs0 (.elt (kid (oi 9000 24) u0) u3 0) (zo (t:=.int) (o:=kid (oi 9000 24) u0) (len:=x44.length) (k:=.i64) (m:=(u3:Int)) (D7 _)<|Ai e45)<|rsl (ai x45) (G9 (i:=kid (oi 9000 24) u0) (j:=u3) (k:=0) (e:=3) (t:=.int) (xs:=x44) kr (Bo kr e44) e45 kr) (rcH h Af9 fun y46 h=>rsT 1<|rnW<|sqF h (fun ue=>sT [(0,ai bA),(1,ai bB),(7,oS 0 1 ue.length),(10,an u0),(11,an u3)] [(oi 0 1,.mat 81 (oi 1 1) .int ue),(oi 1 1,.pool 3 .int ue)]) ?_ ?_)
    ·intro _ h;refine Ab (Aa 41<|rsT 2<|rs0 (.elt (oi 0 1) u0 0) (zo (t:=sI) (o:=oi 0 1) (len:=u1.length) (k:=.i64) (m:=(u0:Int)) (D7 _)<|Nat.lt_of_lt_of_le (Ai e44)<|Nat.le_of_eq<|Eq.symm<|Eq.trans (b:=u1.length) rfl fS)<|rsl (.own (kid (oi 9000 24) u0) .int 0 x44.length) (Fc (o:=oi 0 1) (p:=oi 9000 24) (e1:=81) (u:=.int) (xss:=(u1.set u0 x41).set u6 x39) (row:=x44) (j:=u0) kr kr e44)<|rsT 2<|rnW<|Ad<|lpF h (fun (u9,u7)=>sT [(0,ai bA),(1,ai bB),(7,oS 0 1 u7.length),(10,an u0),(11,an u3),(14,ai y46),(91,an x44.length),(92,an u9)] [(oi 0 1,.mat 81 (oi 1 1) .int u7),(oi 1 1,.pool 3 .int u7)]) ((wL 7 ((Eq.trans (b:=u1.length) rfl fS):u1.length=((u1.set u0 x41).set u6 x39).length)).trans<|Ag [(oi 1 1,oi 9000 24)]) ?_);rintro n_ ⟨u9,u7⟩ c_ h hn49
     (try dsimp only at h);refine Ae<|Ab (kQ h (fun q52 h=>?_) fun q52 h=>?_)
     ·have q52_:=of_decide_eq_true q52;refine skW<|Ab<|Ad<|Ae<|An 22<|dz0 (oS 0 1 u7.length)<|dz0 (an u0) ?_;have ⟨x55,e55,h⟩:=Ah h;refine dzO (oi 0 1) sI u7.length (Ai e55)<|dsl (.own (kid (oi 1 1) u0) .int 0 x55.length) (Fc (o:=oi 0 1) (p:=oi 1 1) (e1:=81) (u:=.int) (xss:=u7) (row:=x55) (j:=u0) kr kr e55)<|dsT 4<|dzO (oi 0 1) sI u7.length (Ai e55)<|dsl (.own (kid (oi 1 1) u0) .int 0 x55.length) (Fc (o:=oi 0 1) (p:=oi 1 1) (e1:=81) (u:=.int) (xss:=u7) (row:=x55) (j:=u0) kr kr e55)<|dz0 (an u9) ?_;have ⟨x56,e56,h⟩:=Ah h;refine ds0 (.elt (kid (oi 1 1) u0) u9 0) (zo (t:=.int) (o:=kid (oi 1 1) u0) (len:=x55.length) (k:=.i64) (m:=(u9:Int)) (D7 _)<|Ai e56)<|dsl (ai x56) (G9 (i:=kid (oi 1 1) u0) (j:=u9) (k:=0) (e:=3) (t:=.int) (xs:=x55) kr (Acv.trans<|Bo kr e55) e56 kr)<|dz0 (ai y46) (dcH h Vs fun y57 h=>ds0 (.elt (kid (oi 1 1) u0) u9 0) (zo (t:=.int) (o:=kid (oi 1 1) u0) (len:=x55.length) (k:=.i64) (m:=(u9:Int)) (D7 _)<|Ai e56)<|Lg (kid (oi 1 1) u0) (kid (oi 1 1) u0) (.arr 3 .int<|x55.set u9 y57) (Agl (i:=kid (oi 1 1) u0) (j:=u9) (k:=0) (e:=3) (t:=.int) (xs:=x55) (cs:=[ai y57]) (x1:=y57) kr (Acv.trans<|Bo kr e55) e56 kr kr)<|Aog (Ajp (o:=oi 0 1) (p:=oi 1 1) (e1:=81) (e:=3) (u:=.int) (xss:=u7) (k:=u0) (row:=x55) (row':=x55.set u9 y57) kr rfl kr e55 length_set)<|Cb (Ar kr)<|bn_<|tn_<|wr_<|Aa 24 ?_);have ⟨g58,h⟩:=Al h;refine zA g58<|rsT 1<|Ap<|tn_ ?_;cases h;exact jLw hn49<|(wL 7 ((Eq.trans (b:=u7.length) rfl length_set.symm):u7.length=(u7.set u0<|x55.set u9 y57).length)).trans<|Ag []
     have q52_:=of_decide_eq_false q52;refine lxT ?_;have h:=jO h hn49
     (try dsimp only at h);exact jE []
    intro ue h
    (try dsimp only at h);refine sqF h (fun uh=>sT [(0,ai bA),(1,ai bB),(7,oS 0 1 uh.length),(10,an u0),(11,an u3)] [(oi 0 1,.mat 81 (oi 1 1) .int uh),(oi 1 1,.pool 3 .int uh)]) ?_ ?_
    ·intro _ h;refine Ae<|Ad<|lpF h (fun (u2,u8)=>sT [(0,ai bA),(1,ai bB),(7,oS 0 1 u8.length),(10,an u0),(11,an u3),(113,an ue.length),(114,an u2)] [(oi 0 1,.mat 81 (oi 1 1) .int u8),(oi 1 1,.pool 3 .int u8)]) (Ag []) ?_;rintro n_ ⟨u2,u8⟩ c_ h hn61
     (try dsimp only at h);refine Ae<|Ab (kQ h (fun q64 h=>?_) fun q64 h=>?_)
     ·have q64_:=of_decide_eq_true q64;refine skW<|sqF h (fun ui=>sT [(0,ai bA),(1,ai bB),(7,oS 0 1 ui.length),(10,an u0),(11,an u3),(113,an ue.length),(114,an u2)] [(oi 0 1,.mat 81 (oi 1 1) .int ui),(oi 1 1,.pool 3 .int ui)]) ?_ ?_
      ·intro _ h;refine Ad<|Ae<|Ab<|sqF h (fun un=>sT [(0,ai bA),(1,ai bB),(7,oS 0 1 u8.length),(10,an u0),(11,an u3),(16,an u2),(113,an ue.length),(114,an u2),(129,.bool un)] [(oi 0 1,.mat 81 (oi 1 1) .int u8),(oi 1 1,.pool 3 .int u8)]) ?_ ?_
       ·intro _ h;refine Aa 18<|rsT 4 ?_;rcases A3 h with ⟨q69,h⟩|⟨q69,h⟩
        ·exact rq 120 q69<|rsT 9<|Ap<|tn_<|jE []
        refine rq 120 q69<|rsT 2 ?_;have ⟨x70,e70,h⟩:=Ah h;refine zO (oi 0 1) sI u8.length (Ai e70)<|rsl (.own (kid (oi 1 1) u2) .int 0 x70.length) (Fc (o:=oi 0 1) (p:=oi 1 1) (e1:=81) (u:=.int) (xss:=u8) (row:=x70) (j:=u2) kr kr e70)<|rsT 1 ?_;have ⟨x71,e71,h⟩:=Ah h;exact rs0 (.elt (kid (oi 1 1) u2) u3 0) (zo (t:=.int) (o:=kid (oi 1 1) u2) (len:=x70.length) (k:=.i64) (m:=(u3:Int)) (D7 _)<|Ai e71)<|rsl (ai x71) (G9 (i:=kid (oi 1 1) u2) (j:=u3) (k:=0) (e:=3) (t:=.int) (xs:=x70) kr (Bo kr e70) e71 kr)<|rsT 2<|Ap<|tn_<|jE []
       intro un h
       (try dsimp only at h);refine kQ h (fun _ h=>Ep<|te_<|be_<|tn_<|jE []) fun _ h=>skW<|Ab<|Aa 10<|rsT 2 ?_
       have ⟨x74,e74,h⟩:=Ah h;refine zO (oi 0 1) sI u8.length (Ai e74)<|rsl (.own (kid (oi 1 1) u2) .int 0 x74.length) (Fc (o:=oi 0 1) (p:=oi 1 1) (e1:=81) (u:=.int) (xss:=u8) (row:=x74) (j:=u2) kr kr e74)<|rsT 1 ?_;have ⟨x75,e75,h⟩:=Ah h;refine rs0 (.elt (kid (oi 1 1) u2) u3 0) (zo (t:=.int) (o:=kid (oi 1 1) u2) (len:=x74.length) (k:=.i64) (m:=(u3:Int)) (D7 _)<|Ai e75)<|rsl (ai x75) (G9 (i:=kid (oi 1 1) u2) (j:=u3) (k:=0) (e:=3) (t:=.int) (xs:=x74) kr (Bo kr e74) e75 kr)<|rsT 1<|rnW<|Ab<|Aa 16<|rsT 2<|zO (oi 0 1) sI u8.length (Ai e74)<|rsl (.own (kid (oi 1 1) u2) .int 0 x74.length) (Fc (o:=oi 0 1) (p:=oi 1 1) (e1:=81) (u:=.int) (xss:=u8) (row:=x74) (j:=u2) kr kr e74)<|rsT 2<|rnW<|Ad<|lpF h (fun (u4,u5)=>sT [(0,ai bA),(1,ai bB),(7,oS 0 1 u5.length),(10,an u0),(11,an u3),(16,an u2),(17,ai x75),(113,an ue.length),(114,an u2),(141,an x74.length),(142,an u4)] [(oi 0 1,.mat 81 (oi 1 1) .int u5),(oi 1 1,.pool 3 .int u5)]) (Ag []) ?_;rintro n_ ⟨u4,u5⟩ c_ h hn77
       (try dsimp only at h);refine Ae<|Ab (kQ h (fun q80 h=>?_) fun q80 h=>?_)
       ·have q80_:=of_decide_eq_true q80;refine skW<|Ab<|Ad<|Ae<|An 31<|dz0 (oS 0 1 u5.length)<|dz0 (an u2) ?_;have ⟨x83,e83,h⟩:=Ah h;refine dzO (oi 0 1) sI u5.length (Ai e83)<|dsl (.own (kid (oi 1 1) u2) .int 0 x83.length) (Fc (o:=oi 0 1) (p:=oi 1 1) (e1:=81) (u:=.int) (xss:=u5) (row:=x83) (j:=u2) kr kr e83)<|dsT 4<|dzO (oi 0 1) sI u5.length (Ai e83)<|dsl (.own (kid (oi 1 1) u2) .int 0 x83.length) (Fc (o:=oi 0 1) (p:=oi 1 1) (e1:=81) (u:=.int) (xss:=u5) (row:=x83) (j:=u2) kr kr e83)<|dz0 (an u4) ?_;have ⟨x84,e84,h⟩:=Ah h;refine ds0 (.elt (kid (oi 1 1) u2) u4 0) (zo (t:=.int) (o:=kid (oi 1 1) u2) (len:=x83.length) (k:=.i64) (m:=(u4:Int)) (D7 _)<|Ai e84)<|dsl (ai x84) (G9 (i:=kid (oi 1 1) u2) (j:=u4) (k:=0) (e:=3) (t:=.int) (xs:=x83) kr (Acv.trans<|Bo kr e83) e84 kr)<|dz0 (ai bA)<|dz0 (ai x75)<|dz0 (oS 0 1 u5.length)<|dz0 (an u0) ?_;have ⟨x85,e85,h⟩:=Ah h;refine dzO (oi 0 1) sI u5.length (Ai e85)<|dsl (.own (kid (oi 1 1) u0) .int 0 x85.length) (Fc (o:=oi 0 1) (p:=oi 1 1) (e1:=81) (u:=.int) (xss:=u5) (row:=x85) (j:=u0) kr kr e85)<|dz0 (an u4) ?_;have ⟨x86,e86,h⟩:=Ah h;refine ds0 (.elt (kid (oi 1 1) u0) u4 0) (zo (t:=.int) (o:=kid (oi 1 1) u0) (len:=x85.length) (k:=.i64) (m:=(u4:Int)) (D7 _)<|Ai e86)<|dsl (ai x86) (G9 (i:=kid (oi 1 1) u0) (j:=u4) (k:=0) (e:=3) (t:=.int) (xs:=x85) kr (Acv.trans<|Bo kr e85) e86 kr) (dcH h Vs fun y87 h=>dcH h Agf fun y88 h=>ds0 (.elt (kid (oi 1 1) u2) u4 0) (zo (t:=.int) (o:=kid (oi 1 1) u2) (len:=x83.length) (k:=.i64) (m:=(u4:Int)) (D7 _)<|Ai e84)<|Lg (kid (oi 1 1) u2) (kid (oi 1 1) u2) (.arr 3 .int<|x83.set u4 y88) (Agl (i:=kid (oi 1 1) u2) (j:=u4) (k:=0) (e:=3) (t:=.int) (xs:=x83) (cs:=[ai y88]) (x1:=y88) kr (Acv.trans<|Bo kr e83) e84 kr kr)<|Aog (Ajp (o:=oi 0 1) (p:=oi 1 1) (e1:=81) (e:=3) (u:=.int) (xss:=u5) (k:=u2) (row:=x83) (row':=x83.set u4 y88) kr rfl kr e83 length_set)<|Cb (Ar kr)<|bn_<|tn_<|wr_<|Aa 33 ?_);have ⟨g89,h⟩:=Al h;refine zA g89<|rsT 1<|Ap<|tn_ ?_;cases h;exact jLw hn77<|(wL 7 ((Eq.trans (b:=u5.length) rfl length_set.symm):u5.length=(u5.set u2<|x83.set u4 y88).length)).trans<|Ag []
       have q80_:=of_decide_eq_false q80;refine Ep<|te_<|te_<|be_<|bn_<|tn_ ?_;have h:=jO h hn77
       (try dsimp only at h);exact jE []
      intro ui h
      (try dsimp only at h);refine Aa 4 ?_;have ⟨g90,h⟩:=Al h;exact zA g90<|rsT 1<|Ap<|tn_<|jL []
     have q64_:=of_decide_eq_false q64;refine lxT ?_;have h:=jO h hn61
     (try dsimp only at h);exact jE []
    intro uh h
    (try dsimp only at h);refine Aa 5<|rsT 1 ?_;have ⟨g91,h⟩:=Al h;exact zA g91<|rsT 1<|Ap<|bn_<|tn_<|jE []
   rintro ⟨ul,ug⟩ h
   (try dsimp only at h);refine Aa 5<|rsT 1 ?_;have ⟨g92,h⟩:=Al h;exact zA g92<|rsT 1<|Ap<|tn_<|jL []
  refine lxT ?_;have h:=jO h hn19
  (try dsimp only at h);exact jE []
 rintro ⟨ua,ub⟩ h
 (try dsimp only at h);refine Ab<|Aa 6<|rsT 2 ?_;have ⟨g94,h⟩:=Al h;refine rs0 (oS 0 1 ua) (Gv (t:=sI) (i:=oi 0 1) (off:=0) (len:=ub.length) (l:=0) (h:=(ua:Int)) kr kr kr rfl g94 rfl oM)<|rsT 1<|rnW<|Ac ?_;cases h;exact E2 [oS 0 1 ((ub.take ua).length)]<|(Am4 (e1:=81) (e:=3) (u:=.int) (xss:=ub) (n:=ub.length) (k:=ua) 9000 (oi 0 1) (oi 1 1) kr kr rfl kr oM kr kr kr).trans<|(Adm 6 (oS 0 1 ua) (oS 0 1<|(ub.take ua).length) kr<|congrArg (fun z_=>((oS 0 1 z_):AV)) ((Ap3 oM):ua=(ub.take ua).length)).trans<|Ag (tl:=[(6,oS 0 1 (ub.take ua).length)]) (g:=2) [(oi 1 1,oi 9000 6)]
def Abq (a0 u0:Int) (u1 u2:Int):Option (Ctl (Int×Int×Int) Int) :=
 cond (decide (0<u1))
 ((cond ((Int.tmod u1 2)==1)
   (og (a0≠0) <|
   some (Int.tmod (wI (u2*u0)) a0))
   (some u2)).bind fun u3 =>
 og (a0≠0) <|
 some (.next (Int.tmod (wI (u0*u0)) a0,wI (Int.tdiv u1 2),u3)))
 (some (.out u2))
def Xw (a0 a1 a2:Int):Option Int :=
 og (a0≠0) <|
(Aq (fun s_:Int×Int×Int=>Abq a0 s_.1 s_.2.1 s_.2.2) 4611686018427387904 (a1,a2,Int.tmod 1 a0)).bind fun u0 =>
some u0
theorem Af7 (h:Xw bA bB bC=some bD):cK 191 [ai bA,ai bB,ai bC] (A7 bD):=by
 refine cO Tryz.func191<|Ae<|Ab<|Aa 5<|rsT 1 ?_;have ⟨g3,h⟩:=Al h;refine rs0 (ai<|Int.tmod 1 bA) (Qu (k:=.i64) (a:=1) (b:=bA) kr kr g3)<|rsT 1<|rnW (sqF h (fun u3=>sT [(7,ai u3)] []) ?_ fun u3 h=>Ae<|Ac<|jS h);intro _ h;refine Ad<|lpF h (fun (u0,u1,u2)=>sT [(0,ai bA),(1,ai u0),(2,ai u1),(7,ai u2)] []) (Ag []) ?_;rintro n_ ⟨u0,u1,u2⟩ c_ h hn5;refine Ab<|Ae (kQ h (fun _ h=>skW<|Ab<|Ad<|sqF h (fun u4=>sT [(0,ai bA),(1,ai u0),(2,ai u1),(7,ai u4)] []) ?_ ?_) fun _ h=>lxT (have h:=jO h hn5;jE []))
 ·intro _ h;refine Ab (Aa 7<|rsT 1<|rs0 (ai<|Int.tmod u1 2) (Qu (k:=.i64) (a:=u1) (b:=2) kr kr (by decide))<|rsT 1<|rnW (kQ h (fun _ h=>Aa 13<|rsT 4 ?_) fun _ h=>Ax<|tn_<|jE []));have ⟨g13,h⟩:=Al h;exact rs0 (ai<|Int.tmod (wI<|u2*u0) bA) (Qu (k:=.i64) (a:=wI<|u2*u0) (b:=bA) kr kr g13)<|rsT 1<|Ap<|tn_<|jE []
 intro u4 h;refine Aa 8<|rsT 4 ?_;have ⟨g14,h⟩:=Al h;exact rs0 (ai<|Int.tmod (wI<|u0*u0) bA) (Qu (k:=.i64) (a:=wI<|u0*u0) (b:=bA) kr kr g14)<|rsT 1<|Ap<|bn_<|tn_<|wr_<|Aa 11<|rsT 1<|rs0 (ai<|wI<|Int.tdiv u1 2) (Aya (k:=.i64) (a:=u1) (b:=2) kr kr (by decide))<|rsT 1<|Ap<|tn_<|jL []
def Adn (a0:Bool):Option Int :=
 cond a0
 (some 1)
 (some 0)
theorem Aj4 (h:Adn cA=some bA):cK 192 [.bool cA] (A7 bA):=by
 exact cO Tryz.func192<|Ae<|Ab<|Ae (kQ h (fun _ h=>Ae<|Ac<|tr_<|jS h) fun _ h=>skW<|Ae<|Ac<|jS h)
def Ly (a0 a1:Int):Option Int :=
 (Adn (a0==2)).bind fun y3 =>
(Xw a0 a1 (wI (wI (a0 - 2)+y3))).bind fun y4 =>
some y4
theorem Abu (h:Ly bA bB=some bC):cK 187 [ai bA,ai bB] (A7 bC):=by
 exact cO Tryz.func187<|Ae<|Ab<|Aa 12<|rsT 6 (rcH h Aj4 fun y3 h=>rsT 1 (rcH h Af7 fun y4 h=>rsT 1<|rnW<|Ac<|jS h))
def Dc (a3:List Int) (a0 a2:Int) (u0:Nat) (u1:List Int):Option (Ctl (Nat×List Int) (List Int)) :=
 cond (decide ((u0:Int)<(a3.length:Int)))
 ((a3[u0]?).bind fun x9 =>
 (u1[u0]?).bind fun x10 =>
 (Sr a0 (wI (x10+wI (a2*x9)))).bind fun y11 =>
 og (u0+1<4611686018427387904) <|
 some (.next (u0+1,u1.set u0 y11)))
 (some (.out u1))
def Cx (a0:Int) (a1:List Int) (a2:Int) (a3:List Int):Option (List Int) :=
 Aq (fun s_:Nat×List Int=>Dc a3 a0 a2 s_.1 s_.2) 4611686018427387904 (0,a1)
theorem Mv (h:Cx bA aA bB aB=some aC) {n_a1:Nat} (hn_a1:n_a1=aA.length):Eb Tryz.prog Tab 133 [ai bA,oI 0 0 n_a1,ai bB,tI aB] [(oi 0 0,.arr 3 .int aA)] (.tup []) [(oi 0 0,.arr 3 .int aC)]:=by
 refine B3 kr Tryz.func133 (Cc kr) (n:=31) kr fS rfl kr ⟨trivial,trivial⟩ ⟨trivial,trivial⟩<|Ae<|Ad<|lpF h (fun (u1,u0)=>sT [(0,ai bA),(1,oI 0 0 u0.length),(2,ai bB),(10,tI aB),(11,an aB.length),(12,an u1)] [(oi 0 0,.arr 3 .int u0)]) ((wL 1 (hn_a1:n_a1=aA.length)).trans<|Ag []) ?_;rintro n_ ⟨u1,u0⟩ c_ h hn3;refine Ae (Ab (kQ h (fun _ h=>skW<|Ab<|Ad<|Ab<|Aa 8<|rsT 1 (riH .int h fun x9 _ h=>rsT 3<|rnW<|Aa 22<|rsT 5 ?_)) fun _ h=>Ep<|te_<|te_<|be_ (have h:=jO h hn3;(by cases h;exact E2 []<|Ag (tl:=[]) (g:=2) []))));have ⟨x10,e10,h⟩:=Ah h;refine zO (oi 0 0) .int u0.length (Ai e10)<|zE (oi 0 0) e10<|rsT 4 (rcH h Alj fun y11 h=>zO (oi 0 0) .int u0.length (Ai e10)<|zS (oi 0 0) (y11) e10<|Ap<|bn_<|tn_<|wr_<|Aa 24 (raH h fun h=>rsT 1<|Ap<|tn_ ?_));cases h;exact jLw hn3<|(wL 1 (((rfl:u0.length=u0.length).trans length_set.symm):u0.length=(u0.set u1 y11).length)).trans<|Ag []
def Gq (a0:LL) (u0:Nat) (u1:LL):Option (Ctl (Nat×LL) (LL)) :=
 cond (decide ((u0:Int)<(a0.length:Int)))
 ((a0[u0]?).bind fun x13 =>
 (O5 x13).bind fun y14 =>
 og (u1.length+1<=1073741824/\(u1.length+1)*24<=140737488355328) <|
 og (u0+1<4611686018427387904) <|
 some (.next (u0+1,u1++[y14])))
 (some (.out u1))
def Gb (a0:LL):Option LL :=
 og (0<=(0:Int)/\(0:Int)<=(a0.length:Int)/\(a0.length:Int)<=1073741824/\(24:Int)*(a0.length:Int)<=140737488355328) <|
(Aq (fun s_:Nat×LL=>Gq a0 s_.1 s_.2) 4611686018427387904 (0,replicate 0 ([]:List Int))).bind fun u0 =>
some u0
theorem Pr (h:Gb dA=some dB):Eb Tryz.prog Tab 111 [tS dA] [] (oS 0 1 dB.length) [(oi 0 1,.mat 81 (oi 1 1) .int dB),(oi 1 1,.pool 3 .int dB)]:=by
 refine B3 kr Tryz.func111 (Cc kr) (n:=22) kr (by simp) rfl kr trivial ⟨⟨3,.tail _ (.head _)⟩,⟨trivial,trivial⟩⟩ (Ae (Ab (Aa 6 (rsT 2 ?_))));obtain ⟨g4,h⟩:=Al h;refine Ain (oS 128 4 0) (oi 128 4) 81 3 .int (replicate 0 ([]:List Int)) trivial (Ab4 (j:=0) (k:=.i64) (k':=.i64) (m:=0) (c:=(dA.length:Int)) 3 kr kr g4 kr rfl) kr (by rw [length_replicate]) kr (rsT 1 (rnW (sqF h (fun u1=>sT [(3,oS 0 1 u1.length)] [(oi 0 1,.mat 81 (oi 1 1) .int u1),(oi 1 1,.pool 3 .int u1)]) ?_ fun u1 h=>Ae (Ac (by obtain rfl:=osj h;exact E2 [oS 0 1 u1.length] (Ag (tl:=[(2,oS 0 1 u1.length)]) (g:=2) []))))));intro _ h;refine Ae (Ad (lpF h (fun (u2,u0)=>sT [(3,oS 0 1 u0.length),(9,tS dA),(10,an dA.length),(11,an u2)] [(oi 0 1,.mat 81 (oi 1 1) .int u0),(oi 1 1,.pool 3 .int u0)]) ((wL 3 (length_replicate.symm:0=(replicate 0 ([]:List Int)).length)).trans (Ag [(oi 0 1,oi 128 4),(oi 1 1,oi 128 4)])) ?_));rintro n_ ⟨u2,u0⟩ c_ h hn7;refine Ae (Ab (kQ h (fun _ h=>skW (Ab (Ad (Ab (Aa 6 (riH sI h fun x13 _ h=>rsT 2 (rnW (Aa 12 (rsT 2 (rcH h Agg fun y14 h=>I4 (oS 18 9 1) (oi 18 9) (.vec 81 1 1 ([oI 272 8 y14.length])) trivial (C8 kr) ?_)))))))))) fun _ h=>lxT (have h:=jO h hn7;jE [])));obtain ⟨g15,h⟩:=Al h;refine zV (oi 0 1) (oi 18 9) (oi 1 1) u0 [oI 272 8 y14.length] g15 (rsT 1 (Ap (bn_ (tn_ ⟨_,Eu (e1:=81) (e:=3) (u:=.int) (n:=u0.length+1) (len:=y14.length) (row:=y14) (ys:=y14) (xss:=u0) 9000 (oi 0 10) (oi 1 1) (oi 272 8) kr kr rfl kr kr (N1 rfl) (Ny rfl) kr kr kr,Aa 15 (raH h fun h=>rsT 1 (Ap (tn_ ?_)))⟩))));obtain rfl:=zj h;exact jLw hn7 ((wL 3 ((by simp):u0.length+1=(u0++[y14]).length)).trans (Ag [(oi 0 1,oi 0 10),(oi 1 1,oi 9000 12)]))
def Ew (x13:List Int) (u2 a1 y11:Int) (u0:Nat) (u1:LL):Option (Ctl (Nat×LL) (LL)) :=
 cond (decide ((u0:Int)<(x13.length:Int)))
 ((Ce u1 u2).bind fun x20 =>
 og (0<=(u0:Int)/\u0<x13.length) <|
 (x20[u0]?).bind fun x22 =>
 og (a1≠0) <|
 og (u0+1<4611686018427387904) <|
 some (.next (u0+1,u1.set u2.toNat (x20.set u0 (Int.tmod (wI (x22*y11)) a1)))))
 (some (.out u1))
def Bm (u2 u0:Int) (u1 u3 a1:Int) (a2:LL):Option LL :=
 cond (u2==0)
 ((Ce a2 u1).bind fun x6 =>
 (Ce a2 u0).bind fun x7 =>
 some ((a2.set u0.toNat x6).set u1.toNat x7))
 (cond (u2==1)
  ((Ly a1 u3).bind fun y11 =>
  (Ce a2 u0).bind fun x13 =>
  Aq (fun s_:Nat×LL=>Ew x13 u0 a1 y11 s_.1 s_.2) 4611686018427387904 (0,a2))
  (cond (u2==2)
   ((Ce a2 u0).bind fun x27 =>
   (Ce a2 u1).bind fun x28 =>
   og (u0.toNat≠u1.toNat) <|
   (Cx a1 x27 (wI (0 - u3)) x28).bind fun y30 =>
   og (y30.length=x27.length) <|
   some (a2.set u0.toNat y30))
   (some a2)))
theorem Ja (h:Bm bA bB bC bD bE dA=some dB) {n_a2:Nat} (hn_a2:n_a2=dA.length):Eb Tryz.prog Tab 182 [.agg [ai bA,ai bB,ai bC,ai bD],ai bE,oS 0 0 n_a2] [(oi 0 0,.mat 81 (oi 1 0) .int dA),(oi 1 0,.pool 3 .int dA)] (.tup []) [(oi 0 0,.mat 81 (oi 0 1) .int dB),(oi 0 1,.pool 3 .int dB)]:=by
 refine B3 kr Tryz.func182 (Cc kr) (n:=78) kr fS rfl kr ⟨⟨3,.tail _<|.head _⟩,⟨trivial,trivial⟩⟩ ⟨⟨3,.tail _<|.head _⟩,⟨trivial,trivial⟩⟩<|Ae<|Ae<|Ad<|Ae (kQ h (fun _ h=>?_) fun _ h=>?_)
 ·refine An 26<|dsT 9 ?_;have ⟨x6,f6,h⟩:=Ah h;have ⟨p6,b6,e6⟩:=As f6;refine ds0 (.elt (oi 0 0) bC.toNat 0) (zo (t:=sI) (o:=oi 0 0) (len:=n_a2) (k:=.i64) (m:=bC) p6<|Nat.lt_of_lt_of_le (Ai e6)<|Nat.le_of_eq<|Eq.symm hn_a2)<|dsl (.own (kid (oi 1 0) bC.toNat) .int 0 x6.length) (Fc (o:=oi 0 0) (p:=oi 1 0) (e1:=81) (u:=.int) (xss:=dA) (row:=x6) (j:=bC.toNat) kr kr e6)<|dz0 (oS 0 0 n_a2)<|dz0 (.box (oi 3 1) 1)<|dzl (ai bB) ?_;have ⟨x7,f7,h⟩:=Ah h;have ⟨p7,b7,e7⟩:=As f7;refine ds0 (.elt (oi 0 0) bB.toNat 0) (zo (t:=sI) (o:=oi 0 0) (len:=n_a2) (k:=.i64) (m:=bB) p7<|Nat.lt_of_lt_of_le (Ai e7)<|Nat.le_of_eq<|Eq.symm hn_a2) (dsl (.own (kid (oi 1 0) bB.toNat) .int 0 x7.length) (Fc (o:=oi 0 0) (p:=oi 1 0) (e1:=81) (u:=.int) (xss:=dA) (row:=x7) (j:=bB.toNat) kr kr e7)<|ds0 (.elt (oi 0 0) bB.toNat 0) (zo (t:=sI) (o:=oi 0 0) (len:=n_a2) (k:=.i64) (m:=bB) p7<|Nat.lt_of_lt_of_le (Ai e7)<|Nat.le_of_eq<|Eq.symm hn_a2)<|Lg (oi 0 0) (oi 0 0) (.vec 81 1 n_a2<|(hdL (oi 1 0) .int dA).set bB.toNat<|.own (kid (oi 1 0) bC.toNat) .int 0 x6.length) (Ae8 (o:=oi 0 0) (e1:=81) (m:=n_a2) (cs:=hdL (oi 1 0) .int dA) (v:=.own (kid (oi 1 0) bC.toNat) .int 0 x6.length) (j:=bB.toNat) kr (A0j kr hn_a2) kr rfl (by rw [Do];exact Ai e7))<|ds0 (.elt (oi 0 0) bC.toNat 0) (zo (t:=sI) (o:=oi 0 0) (len:=n_a2) (k:=.i64) (m:=bC) p6<|Nat.lt_of_lt_of_le (Ai e6)<|Nat.le_of_eq<|Eq.symm hn_a2)<|Lg (oi 0 0) (oi 0 0) (.vec 81 1 n_a2<|((hdL (oi 1 0) .int dA).set bB.toNat<|.own (kid (oi 1 0) bC.toNat) .int 0 x6.length).set bC.toNat<|.own (kid (oi 1 0) bB.toNat) .int 0 x7.length) (Ae8 (o:=oi 0 0) (e1:=81) (m:=n_a2) (cs:=(hdL (oi 1 0) .int dA).set bB.toNat<|.own (kid (oi 1 0) bC.toNat) .int 0 x6.length) (v:=.own (kid (oi 1 0) bB.toNat) .int 0 x7.length) (j:=bC.toNat) kr kr kr rfl (by rw [length_set,Do];exact Ai e6))<|Cb (Ar kr)<|bn_ ?_);cases h;exact E2 []<|(Ae6 (e1:=81) (e:=3) (u:=.int) (xss:=dA) (i:=bB.toNat) (j:=bC.toNat) (n:=n_a2) (li:=x7.length) (lj:=x6.length) (ri:=x7) (rj:=x6) 9000 (oi 0 0) (oi 1 0) kr kr hn_a2 kr e7 e6 rfl rfl kr kr).trans<|Ag (tl:=[]) (g:=2) [(oi 0 1,oi 9000 26)]
 refine Ae (kQ h (fun _ h=>?_) fun _ h=>?_)
 ·refine Ab<|Aa 13<|rsT 3 (rcH h Abu fun y11 h=>rsT 1<|rnW<|Ab<|Aa 20<|rsT 3 ?_);have ⟨x13,f13,h⟩:=Ah h;have ⟨p13,b13,e13⟩:=As f13;refine rs0 (.elt (oi 0 0) bB.toNat 0) (zo (t:=sI) (o:=oi 0 0) (len:=n_a2) (k:=.i64) (m:=bB) p13<|Nat.lt_of_lt_of_le (Ai e13)<|Nat.le_of_eq<|Eq.symm hn_a2)<|rsl (.own (kid (oi 1 0) bB.toNat) .int 0 x13.length) (Fc (o:=oi 0 0) (p:=oi 1 0) (e1:=81) (u:=.int) (xss:=dA) (row:=x13) (j:=bB.toNat) kr kr e13)<|rsT 2<|rnW<|Ad<|lpF h (fun (u2,u3)=>sT [(1,ai bE),(2,oS 0 0 u3.length),(3,.box (oi 1 1) 0),(6,ai y11),(41,.own (kid (oi 0 1) bB.toNat) .int 0 x13.length),(42,an x13.length),(43,an u2)] [(oi 0 0,.mat 81 (oi 0 1) .int u3),(oi 0 1,.pool 3 .int u3),(oi 1 1,.cells 192 [ai bA,ai bB,ai bC,ai bD])]) ((wL 2 (hn_a2:n_a2=dA.length)).trans<|Ag [(oi 0 1,oi 1 0),(oi 1 1,oi 3 1)]) ?_;rintro n_ ⟨u2,u3⟩ c_ h hn14;refine Ae (Ab (kQ h (fun _ h=>skW<|Ab<|Ad<|Ab<|Aa 8<|rsT 1 ?_) fun _ h=>Ep<|te_<|te_<|be_<|bn_ (have h:=jO h hn14;(by cases h;exact E2 []<|Ag (tl:=[]) (g:=2) []))));have ⟨x20,f20,h⟩:=Ah h;have ⟨p20,b20,e20⟩:=As f20;have ⟨g21,h⟩:=Al h;refine rs0 (.elt (kid (oi 0 1) bB.toNat) u2 0) (A0a (t:=.int) (o:=kid (oi 0 1) bB.toNat) (off:=0) (len:=x13.length) (k:=.i64) (m:=(u2:Int)) kr kr rfl g21.1 (fE _) g21.2) ?_;have ⟨x22,e22,h⟩:=Ah h;refine rsl (ai x22) (G9 (i:=kid (oi 0 1) bB.toNat) (j:=u2) (k:=0) (e:=3) (t:=.int) (xs:=x20) kr (Bo kr e20) e22 kr)<|rsT 2<|rnW<|An 21<|dz0 (oS 0 0 u3.length)<|dz0 (.box (oi 1 1) 1)<|dzl (ai bB)<|ds0 (.elt (oi 0 0) bB.toNat 0) (zo (t:=sI) (o:=oi 0 0) (len:=u3.length) (k:=.i64) (m:=bB) p20<|Ai e20)<|dsl (.own (kid (oi 0 1) bB.toNat) .int 0 x20.length) (Fc (o:=oi 0 0) (p:=oi 0 1) (e1:=81) (u:=.int) (xss:=u3) (row:=x20) (j:=bB.toNat) kr kr e20)<|dsT 5 ?_;have ⟨g23,h⟩:=Al h;refine ds0 (ai<|Int.tmod (wI<|x22*y11) bE) (Qu (k:=.i64) (a:=wI<|x22*y11) (b:=bE) kr kr g23)<|ds0 (.elt (kid (oi 0 1) bB.toNat) u2 0) (zo (t:=.int) (o:=kid (oi 0 1) bB.toNat) (len:=x20.length) (k:=.i64) (m:=(u2:Int)) (D7 _)<|Ai e22)<|Lg (kid (oi 0 1) bB.toNat) (kid (oi 0 1) bB.toNat) (.arr 3 .int<|x20.set u2<|Int.tmod (wI<|x22*y11) bE) (Agl (i:=kid (oi 0 1) bB.toNat) (j:=u2) (k:=0) (e:=3) (t:=.int) (xs:=x20) (cs:=[ai (Int.tmod (wI<|x22*y11) bE)]) (x1:=Int.tmod (wI<|x22*y11) bE) kr (Acv.trans<|Bo kr e20) e22 kr kr)<|Aog (Ajp (o:=oi 0 0) (p:=oi 0 1) (e1:=81) (e:=3) (u:=.int) (xss:=u3) (k:=bB.toNat) (row:=x20) (row':=x20.set u2<|Int.tmod (wI<|x22*y11) bE) kr rfl kr e20 length_set)<|Cb (Ar kr)<|bn_<|tn_<|wr_<|Aa 23 (raH h fun h=>rsT 1<|Ap<|tn_ ?_);cases h;exact jLw hn14<|(wL 2 ((Eq.trans (b:=u3.length) rfl length_set.symm):u3.length=(u3.set bB.toNat<|x20.set u2<|Int.tmod (wI<|x22*y11) bE).length)).trans<|Ag []
 refine Ae (kQ h (fun _ h=>An 25<|dz0 (ai bE)<|dz0 (oS 0 0 n_a2)<|dz0 (.box (oi 3 1) 1)<|dzl (ai bB) ?_) fun _ h=>Ax<|bn_ (by cases h;exact E2 []<|Ag (tl:=[]) (g:=2) [(oi 0 1,oi 1 0)]));have ⟨x27,f27,h⟩:=Ah h;have ⟨p27,b27,e27⟩:=As f27;refine ds0 (.elt (oi 0 0) bB.toNat 0) (zo (t:=sI) (o:=oi 0 0) (len:=n_a2) (k:=.i64) (m:=bB) p27<|Nat.lt_of_lt_of_le (Ai e27)<|Nat.le_of_eq<|Eq.symm hn_a2)<|dsl (.own (kid (oi 1 0) bB.toNat) .int 0 x27.length) (Fc (o:=oi 0 0) (p:=oi 1 0) (e1:=81) (u:=.int) (xss:=dA) (row:=x27) (j:=bB.toNat) kr kr e27)<|dsT 6 ?_;have ⟨x28,f28,h⟩:=Ah h;have ⟨p28,b28,e28⟩:=As f28;refine ds0 (.elt (oi 0 0) bC.toNat 0) (zo (t:=sI) (o:=oi 0 0) (len:=n_a2) (k:=.i64) (m:=bC) p28<|Nat.lt_of_lt_of_le (Ai e28)<|Nat.le_of_eq<|Eq.symm hn_a2)<|dsl (.own (kid (oi 1 0) bC.toNat) .int 0 x28.length) (Fc (o:=oi 0 0) (p:=oi 1 0) (e1:=81) (u:=.int) (xss:=dA) (row:=x28) (j:=bC.toNat) kr kr e28) ?_;have ⟨g29,h⟩:=Al h;have ⟨y30,h30,h⟩:=Ah h;refine As4 (.tup []) [(kid (oi 1 0) bB.toNat,some<|.arr 3 .int y30),(kid (oi 1 0) bB.toNat,none)] [(oi 0 0,kid (oi 1 0) bB.toNat)] [ai bE,.own (kid (oi 1 0) bB.toNat) .int 0 x27.length,ai<|wI<|0 - bD,.own (kid (oi 1 0) bC.toNat) .int 0 x28.length] (caps:=[]) trivial (Mv h30 rfl) kr ⟨Aq7 kr e27,trivial⟩ (.cons (.ren kr)<|.cons (.ren kr)<|.cons (.ren kr)<|.cons (.gnd kr<|Gz (e:=3) (u:=.int) (xs:=x28) ((Av5 (L:=[kid (oi 1 0) bB.toNat]) kr ⟨Aza g29,trivial⟩).trans<|(K5<|Re (t:=.int) (off:=0) (len:=x28.length) 3 rfl kr).trans<|Bo kr e28) rfl) .nil) (Ba kr kr ⟨.arg (by simp [AV.nmsL,AV.nms,Bl]),trivial⟩) (Azd (Re (t:=.int) (off:=0) (len:=x27.length) 1 rfl kr) Az8) ?_;have ⟨g31,h⟩:=Al h;refine Aog (Ajp (o:=oi 0 0) (p:=oi 1 0) (e1:=81) (e:=3) (u:=.int) (xss:=dA) (k:=bB.toNat) (row:=x27) (row':=y30) kr rfl kr e27 g31)<|Cb (Ar kr)<|bn_ ?_;cases h;exact E2 []<|Ag (tl:=[]) (g:=2) [(oi 0 1,oi 1 0)]
def Ps:AC :=
 (.seq (rg [xo 4 (.i (.box 192 (tm 0)))])
 (.seq (.seq (rg [xo 5 (.i (.ld false 4 (tm 4))),xf 6 1 4,xl 7 6,xf 8 1 4,xl 9 8,xo 10 (.build [.int .i64 0,.int .i64 0,.int .i64 0,.int .i64 0] [(0,1,ci 0),(1,1,tm 7),(2,1,tm 9)]),xo 11 (.i (.cmp false 7 (tm 5) (tm 10)))])
 (.cond (tm 11)
  .ret
  .skip))
 (.seq (rg [xo 12 (.i (.ld false 4 (tm 4))),xl 13 1,xl 14 2,xo 15 (qc 182 [tm 12,tm 13,tm 14] [[none,none,none,none],[],[some sI]])])
 (rg [xo 16 (.i (.ld false 4 (tm 4))),xl 17 1,xl 18 3,xo 19 (qc 182 [tm 16,tm 17,tm 18] [[none,none,none,none],[],[some sI]])]))))
def V9:List Res:=[]
theorem Wh:Cw Tryz.prog Tryz.f181=some (Ps,V9):=by kernel_rfl
def B0 (u1 u0:Int) (u2 u3 u6:Int) (u4 u5:LL):Option (LL×LL) :=
 cond ([u1,u0,u2,u3]==[0,u0,u0,0])
 (some (u4,u5))
 ((Bm u1 u0 u2 u3 u6 u4).bind fun y7 =>
 og (y7.length=u4.length) <|
 (Bm u1 u0 u2 u3 u6 u5).bind fun y9 =>
 og (y9.length=u5.length) <|
 some (y7,y9))
theorem Kc (h:B0 bA bB bC bD bE dA dB=some eA):Eb Tryz.prog Tab 181 [.agg [ai bA,ai bB,ai bC,ai bD],.box (oi 0 0) 0,.box (oi 1 0) 0,.box (oi 4 0) 0] [(oi 0 0,.cells 3 [ai bE]),(oi 1 0,.cells 28 [oS 2 0 dA.length]),(oi 2 0,.mat 81 (oi 3 0) .int dA),(oi 3 0,.pool 3 .int dA),(oi 4 0,.cells 28 [oS 5 0 dB.length]),(oi 5 0,.mat 81 (oi 6 0) .int dB),(oi 6 0,.pool 3 .int dB)] (.tup []) [(oi 0 0,.cells 3 [ai bE]),(oi 1 0,.cells 28 [oS 2 0 eA.1.length]),(oi 2 0,.mat 81 (oi 0 1) .int eA.1),(oi 0 1,.pool 3 .int eA.1),(oi 4 0,.cells 28 [oS 5 0 eA.2.length]),(oi 5 0,.mat 81 (oi 1 1) .int eA.2),(oi 1 1,.pool 3 .int eA.2)]:=by
 refine B3 kr Tryz.func181 Wh (n:=20) kr fS rfl kr ⟨trivial,⟨trivial,⟨⟨3,.tail _<|.tail _<|.tail _<|.head _⟩,⟨trivial,⟨trivial,⟨⟨3,.tail _<|.tail _<|.tail _<|.tail _<|.tail _<|.tail _<|.head _⟩,⟨trivial,trivial⟩⟩⟩⟩⟩⟩⟩ ⟨trivial,⟨trivial,⟨⟨3,.tail _<|.tail _<|.tail _<|.head _⟩,⟨trivial,⟨trivial,⟨⟨3,.tail _<|.tail _<|.tail _<|.tail _<|.tail _<|.tail _<|.head _⟩,⟨trivial,trivial⟩⟩⟩⟩⟩⟩⟩ ?_;unfold Ps;refine Ae (Ab<|Ae (kQ h (fun _ h=>Ac<|tr_ (by cases h;exact E2 []<|Ag (tl:=[]) (g:=2) [(oi 0 1,oi 3 0),(oi 1 1,oi 6 0)])) fun _ h=>skW<|Ab<|Aa 13<|rsT 3 (rcM h [(oi 0 0,oi 2 0),(oi 1 0,oi 3 0)] [.agg [ai bA,ai bB,ai bC,ai bD],ai bE,oS 2 0 dA.length] (fun h=>Ja h rfl) ⟨kr,⟨kr,trivial⟩⟩ (aR kr) (Ba kr kr ⟨Cv kr,⟨K4 (o:=oi 2 0) (p:=oi 3 0) (e1:=81) (m:=dA.length) (u:=.int) (xss:=dA) (Cv kr) kr,trivial⟩⟩) fun y7 h=>rnW<|Aa 17<|rsT 3 ?_)));have ⟨g8,h⟩:=Al h;have ⟨y9,h9,h⟩:=Ah h;refine Z8 (.tup []) [(oi 5 0,some<|.mat 81 (oi 304 16) .int y9),(oi 304 16,some<|.pool 3 .int y9),(oi 5 0,none),(oi 6 0,some<|.pool 3 .int [])] [(oi 0 0,oi 5 0),(oi 1 0,oi 6 0)] [.agg [ai bA,ai bB,ai bC,ai bD],ai bE,oS 5 0 dB.length] (caps:=[]) trivial (Ja h9 rfl) kr ⟨kr,⟨kr,trivial⟩⟩ (.cons (.ren kr)<|.cons (.ren kr)<|.cons (.ren kr) .nil) (Ba kr kr ⟨Cv kr,⟨K4 (o:=oi 5 0) (p:=oi 6 0) (e1:=81) (m:=dB.length) (u:=.int) (xss:=dB) (Cv kr) kr,trivial⟩⟩)<|Ap ?_;have ⟨g10,h⟩:=Al h;cases h;exact E2 []<|(Ub (oi 1 0) (.cells 28 [oS 2 0 dA.length]) (.cells 28 [oS 2 0 y7.length]) kr<|congrArg (fun z_=>(.cells 28 [oS 2 0 z_]:Ob)) (g8.symm:dA.length=y7.length)).trans<|(Ub (oi 4 0) (.cells 28 [oS 5 0 dB.length]) (.cells 28 [oS 5 0 y9.length]) kr<|congrArg (fun z_=>(.cells 28 [oS 5 0 z_]:Ob)) (g10.symm:dB.length=y9.length)).trans<|Ag (tl:=[]) (g:=2) [(oi 0 1,oi 240 12),(oi 1 1,oi 304 16)]
def E0 (l7_p0:LL) (u1 u0:Nat):Option (Ctl Nat Nat) :=
 (cond (decide ((u0:Int)<(l7_p0.length:Int)))
  ((l7_p0[u0]?).bind fun x19 =>
  (x19[u1]?).bind fun x20 =>
  some (x20==0))
  (some false)).bind fun u2 =>
cond u2
 (og (u0+1<4611686018427387904) <|
 some (.next (u0+1)))
 (some (.out u0))
def Gn (y31:LL×LL) (u1 u2:Nat) (a0:Int) (u0:Nat) (l34_p0 l34_p2:LL):Option (Ctl (Nat×LL×LL) (LL×LL)) :=
 cond (decide ((u0:Int)<(y31.1.length:Int)))
 (((cond ((u0:Int) !=(u1:Int))
       ((l34_p0[u0]?).bind fun x42 =>
       (x42[u2]?).bind fun x43 =>
       some (x43 !=0))
       (some false)).bind fun u3 =>
  cond u3
   ((l34_p0[u0]?).bind fun x45 =>
   (x45[u2]?).bind fun x46 =>
   (B0 2 (u0:Int) (u1:Int) x46 a0 l34_p0 l34_p2).bind fun y47 =>
   some (y47.1,y47.2))
   (some (l34_p0,l34_p2))).bind fun (l38_p0,l38_p2) =>
 og (u0+1<4611686018427387904) <|
 some (.next (u0+1,l38_p0,l38_p2)))
 (some (.out (l34_p0,l34_p2)))
def Dx (a2 a0:Int) (u0 u1:Nat) (l7_p0 l7_p2:LL):Option (Ctl (Nat×Nat×LL×LL) (Nat×LL×LL)) :=
 (cond (decide ((u1:Int)<a2))
  (some (decide ((u0:Int)<(l7_p0.length:Int))))
  (some false)).bind fun u3 =>
cond u3
 (((Aq (fun s_:Nat=>E0 l7_p0 u1 s_) 4611686018427387904 u0).bind fun u2 =>
  cond ((u2:Int)==(l7_p0.length:Int))
   (some (u0,l7_p0,l7_p2))
   ((B0 0 (u0:Int) (u2:Int) 0 a0 l7_p0 l7_p2).bind fun y27 =>
   (y27.1[u0]?).bind fun x29 =>
   (x29[u1]?).bind fun x30 =>
   (B0 1 (u0:Int) 0 x30 a0 y27.1 y27.2).bind fun y31 =>
   (Aq (fun s_:Nat×LL×LL=>Gn y31 u0 u1 a0 s_.1 s_.2.1 s_.2.2) 4611686018427387904 (0,y31.1,y31.2)).bind fun (l32_p0,l32_p2) =>
   og (u0+1<4611686018427387904) <|
   some (u0+1,l32_p0,l32_p2))).bind fun (u4,l12_p0,l12_p2) =>
 og (u1+1<4611686018427387904) <|
 some (.next (u4,u1+1,l12_p0,l12_p2)))
 (some (.out (u0,l7_p0,l7_p2)))
def G0 (a0:Int) (a1:LL) (a2:Int) (a3:LL):Option (LL×LL×Nat) :=
 (Aq (fun s_:Nat×Nat×LL×LL=>Dx a2 a0 s_.1 s_.2.1 s_.2.2.1 s_.2.2.2) 4611686018427387904 (0,0,a1,a3)).bind fun (u0,l5_p0,l5_p2) =>
some (l5_p0,l5_p2,u0)
theorem Qm (h:G0 bA dA bB dB=some fA) {n_a1:Nat} (hn_a1:n_a1=dA.length) {n_a3:Nat} (hn_a3:n_a3=dB.length):Eb Tryz.prog Tab 167 [ai bA,oS 0 0 n_a1,ai bB,oS 2 0 n_a3] [(oi 0 0,.mat 81 (oi 1 0) .int dA),(oi 1 0,.pool 3 .int dA),(oi 2 0,.mat 81 (oi 3 0) .int dB),(oi 3 0,.pool 3 .int dB)] (an fA.2.2) [(oi 0 0,.mat 81 (oi 0 1) .int fA.1),(oi 0 1,.pool 3 .int fA.1),(oi 2 0,.mat 81 (oi 1 1) .int fA.2.1),(oi 1 1,.pool 3 .int fA.2.1)]:=by
 refine B3 kr Tryz.func167 (Cc kr) (n:=97) kr fS rfl kr ⟨⟨3,.tail _<|.head _⟩,⟨trivial,⟨⟨3,.tail _<|.tail _<|.tail _<|.head _⟩,⟨trivial,trivial⟩⟩⟩⟩ ⟨⟨3,.tail _<|.head _⟩,⟨trivial,⟨⟨3,.tail _<|.tail _<|.tail _<|.head _⟩,⟨trivial,trivial⟩⟩⟩⟩<|Ae<|Ae<|Ae<|sqF h (fun (u4,l5_p0,l5_p2)=>sT [(9,an u4)] [(oi 0 0,.mat 81 (oi 0 1) .int l5_p0),(oi 0 1,.pool 3 .int l5_p0),(oi 2 0,.mat 81 (oi 1 1) .int l5_p2),(oi 1 1,.pool 3 .int l5_p2)]) ?_ ?_
 ·intro _ h;refine Ae<|Ad<|lpF h (fun (u1,u0,l7_p0,l7_p2)=>sT [(2,ai bB),(5,.box (oi 0 1) 0),(9,an u1),(10,.fn 181 [.box (oi 1 1) 0,.box (oi 0 1) 0,.box (oi 2 1) 0]),(11,an u0)] [(oi 0 1,.cells 28 [oS 0 0 l7_p0.length]),(oi 1 1,.cells 3 [ai bA]),(oi 2 1,.cells 28 [oS 2 0 l7_p2.length]),(oi 0 0,.mat 81 (oi 3 1) .int l7_p0),(oi 3 1,.pool 3 .int l7_p0),(oi 2 0,.mat 81 (oi 4 1) .int l7_p2),(oi 4 1,.pool 3 .int l7_p2)]) ((Ub (oi 5 2) (.cells 28 [oS 0 0 n_a1]) (.cells 28 [oS 0 0 dA.length]) kr<|congrArg (fun z_=>(.cells 28 [oS 0 0 z_]:Ob)) (hn_a1:n_a1=dA.length)).trans<|(Ub (oi 7 3) (.cells 28 [oS 2 0 n_a3]) (.cells 28 [oS 2 0 dB.length]) kr<|congrArg (fun z_=>(.cells 28 [oS 2 0 z_]:Ob)) (hn_a3:n_a3=dB.length)).trans<|Ag [(oi 0 1,oi 5 2),(oi 3 1,oi 1 0),(oi 1 1,oi 4 1),(oi 2 1,oi 7 3),(oi 4 1,oi 3 0)]) ?_;rintro n_ ⟨u1,u0,l7_p0,l7_p2⟩ c_ h hn7;refine Ab<|sqF h (fun u6=>sT [(2,ai bB),(5,.box (oi 0 1) 0),(9,an u1),(10,.fn 181 [.box (oi 1 1) 0,.box (oi 0 1) 0,.box (oi 2 1) 0]),(11,an u0),(23,.bool u6)] [(oi 0 1,.cells 28 [oS 0 0 l7_p0.length]),(oi 1 1,.cells 3 [ai bA]),(oi 2 1,.cells 28 [oS 2 0 l7_p2.length]),(oi 0 0,.mat 81 (oi 3 1) .int l7_p0),(oi 3 1,.pool 3 .int l7_p0),(oi 2 0,.mat 81 (oi 4 1) .int l7_p2),(oi 4 1,.pool 3 .int l7_p2)]) (fun _ h=>Aa 11<|rsT 4 (kR h 18 (fun _ h=>rsT 5<|Ap<|tn_<|jE []) fun _ h=>rsT 5<|Ap<|tn_<|jE [])) ?_;intro u6 h;refine kQ h (fun _ h=>skW<|sqF h (fun (u7,l12_p0,l12_p2)=>sT [(2,ai bB),(5,.box (oi 0 1) 0),(9,an u7),(10,.fn 181 [.box (oi 1 1) 0,.box (oi 0 1) 0,.box (oi 2 1) 0]),(11,an u0)] [(oi 0 1,.cells 28 [oS 0 0 l12_p0.length]),(oi 1 1,.cells 3 [ai bA]),(oi 2 1,.cells 28 [oS 2 0 l12_p2.length]),(oi 0 0,.mat 81 (oi 3 1) .int l12_p0),(oi 3 1,.pool 3 .int l12_p0),(oi 2 0,.mat 81 (oi 4 1) .int l12_p2),(oi 4 1,.pool 3 .int l12_p2)]) ?_ ?_) fun _ h=>lxT (have h:=jO h hn7;jE [(oi 0 1,oi 3 1),(oi 1 1,oi 4 1)])
  ·intro _ h;refine Ad<|Ae<|sqF h (fun u5=>sT [(2,ai bB),(5,.box (oi 0 1) 0),(9,an u1),(10,.fn 181 [.box (oi 1 1) 0,.box (oi 0 1) 0,.box (oi 2 1) 0]),(11,an u0),(12,an u5)] [(oi 0 1,.cells 28 [oS 0 0 l7_p0.length]),(oi 1 1,.cells 3 [ai bA]),(oi 2 1,.cells 28 [oS 2 0 l7_p2.length]),(oi 0 0,.mat 81 (oi 3 1) .int l7_p0),(oi 3 1,.pool 3 .int l7_p0),(oi 2 0,.mat 81 (oi 4 1) .int l7_p2),(oi 4 1,.pool 3 .int l7_p2)]) ?_ ?_
   ·intro _ h;refine Ad<|lpF h (fun u3=>sT [(2,ai bB),(5,.box (oi 0 1) 0),(9,an u1),(10,.fn 181 [.box (oi 1 1) 0,.box (oi 0 1) 0,.box (oi 2 1) 0]),(11,an u0),(12,an u3)] [(oi 0 1,.cells 28 [oS 0 0 l7_p0.length]),(oi 1 1,.cells 3 [ai bA]),(oi 2 1,.cells 28 [oS 2 0 l7_p2.length]),(oi 0 0,.mat 81 (oi 3 1) .int l7_p0),(oi 3 1,.pool 3 .int l7_p0),(oi 2 0,.mat 81 (oi 4 1) .int l7_p2),(oi 4 1,.pool 3 .int l7_p2)]) (Ag []) ?_;intro n_ u3 c_ h hn15;refine Ab (sqF h (fun u8=>sT [(2,ai bB),(5,.box (oi 0 1) 0),(9,an u1),(10,.fn 181 [.box (oi 1 1) 0,.box (oi 0 1) 0,.box (oi 2 1) 0]),(11,an u0),(12,an u3),(40,.bool u8)] [(oi 0 1,.cells 28 [oS 0 0 l7_p0.length]),(oi 1 1,.cells 3 [ai bA]),(oi 2 1,.cells 28 [oS 2 0 l7_p2.length]),(oi 0 0,.mat 81 (oi 3 1) .int l7_p0),(oi 3 1,.pool 3 .int l7_p0),(oi 2 0,.mat 81 (oi 4 1) .int l7_p2),(oi 4 1,.pool 3 .int l7_p2)]) ?_ fun u8 h=>kQ h (fun _ h=>skW<|Ad<|Aa 5<|rsT 1 (raH h fun h=>rsT 1<|Ap<|bn_<|tn_<|jL [])) fun _ h=>lxT (have h:=jO h hn15;jE []));intro _ h;refine Aa 16<|rsT 5 ?_;rcases A3 h with ⟨q18,h⟩|⟨q18,h⟩
    ·refine rq 31 q18<|rsT 2 ?_;have ⟨x19,e19,h⟩:=Ah h;refine zO (oi 0 0) sI l7_p0.length (Ai e19)<|rsl (.own (kid (oi 3 1) u3) .int 0 x19.length) (Fc (o:=oi 0 0) (p:=oi 3 1) (e1:=81) (u:=.int) (xss:=l7_p0) (row:=x19) (j:=u3) kr kr e19)<|rsT 1 ?_;have ⟨x20,e20,h⟩:=Ah h;exact rs0 (.elt (kid (oi 3 1) u3) u0 0) (zo (t:=.int) (o:=kid (oi 3 1) u3) (len:=x19.length) (k:=.i64) (m:=(u0:Int)) (D7 _)<|Ai e20)<|rsl (ai x20) (G9 (i:=kid (oi 3 1) u3) (j:=u0) (k:=0) (e:=3) (t:=.int) (xs:=x19) kr (Bo kr e19) e20 kr)<|rsT 2<|Ap<|tn_<|jE []
    exact rq 31 q18<|rsT 9<|Ap<|tn_<|jE []
   intro u5 h;refine Ab<|Ae (kQ h (fun _ h=>Ep<|te_<|be_<|tn_<|jE []) fun _ h=>skW<|Ab<|Aa 11<|rsT 4 ?_);have ⟨y27,h27,h⟩:=Ah h;refine Z8 (.tup []) [(oi 1 1,some<|.cells 3 [ai bA]),(oi 0 1,some<|.cells 28 [oS 0 0 y27.1.length]),(oi 0 0,some<|.mat 81 (oi 816 10) .int y27.1),(oi 816 10,some<|.pool 3 .int y27.1),(oi 2 1,some<|.cells 28 [oS 2 0 y27.2.length]),(oi 2 0,some<|.mat 81 (oi 817 10) .int y27.2),(oi 817 10,some<|.pool 3 .int y27.2),(oi 1 1,none),(oi 0 1,none),(oi 0 0,none),(oi 3 1,some<|.pool 3 .int []),(oi 2 1,none),(oi 2 0,none),(oi 4 1,some<|.pool 3 .int [])] [(oi 0 0,oi 1 1),(oi 1 0,oi 0 1),(oi 2 0,oi 0 0),(oi 3 0,oi 3 1),(oi 4 0,oi 2 1),(oi 5 0,oi 2 0),(oi 6 0,oi 4 1)] [.agg [ai 0,an u1,an u5,ai 0],.box (oi 1 1) 0,.box (oi 0 1) 0,.box (oi 2 1) 0] (caps:=[.box (oi 1 1) 0,.box (oi 0 1) 0,.box (oi 2 1) 0]) trivial (Kc h27) kr ⟨kr,⟨kr,⟨kr,⟨kr,⟨kr,⟨kr,⟨kr,trivial⟩⟩⟩⟩⟩⟩⟩ (.cons (.ren kr)<|.cons (.ren kr)<|.cons (.ren kr)<|.cons (.ren kr) .nil) (Ba kr kr ⟨Cv kr,⟨Cv kr,⟨Hs (k:=oi 0 1) (ty:=28) (cs:=[oS 0 0 l7_p0.length]) (Cv kr) kr kr,⟨K4 (o:=oi 0 0) (p:=oi 3 1) (e1:=81) (m:=l7_p0.length) (u:=.int) (xss:=l7_p0) (Hs (k:=oi 0 1) (ty:=28) (cs:=[oS 0 0 l7_p0.length]) (Cv kr) kr kr) kr,⟨Cv kr,⟨Hs (k:=oi 2 1) (ty:=28) (cs:=[oS 2 0 l7_p2.length]) (Cv kr) kr kr,⟨K4 (o:=oi 2 0) (p:=oi 4 1) (e1:=81) (m:=l7_p2.length) (u:=.int) (xss:=l7_p2) (Hs (k:=oi 2 1) (ty:=28) (cs:=[oS 2 0 l7_p2.length]) (Cv kr) kr kr) kr,trivial⟩⟩⟩⟩⟩⟩⟩)<|rnW<|Ab<|Aa 22<|rsT 4 ?_;have ⟨x29,e29,h⟩:=Ah h;refine zO (oi 0 0) sI y27.1.length (Ai e29)<|rsl (.own (kid (oi 816 10) u1) .int 0 x29.length) (Fc (o:=oi 0 0) (p:=oi 816 10) (e1:=81) (u:=.int) (xss:=y27.1) (row:=x29) (j:=u1) kr kr e29)<|rsT 1 ?_;have ⟨x30,e30,h⟩:=Ah h;refine rs0 (.elt (kid (oi 816 10) u1) u0 0) (zo (t:=.int) (o:=kid (oi 816 10) u1) (len:=x29.length) (k:=.i64) (m:=(u0:Int)) (D7 _)<|Ai e30)<|rsl (ai x30) (G9 (i:=kid (oi 816 10) u1) (j:=u0) (k:=0) (e:=3) (t:=.int) (xs:=x29) kr (Bo kr e29) e30 kr)<|rsT 1 ?_;have ⟨y31,h31,h⟩:=Ah h;refine Z8 (.tup []) [(oi 1 1,some<|.cells 3 [ai bA]),(oi 0 1,some<|.cells 28 [oS 0 0 y31.1.length]),(oi 0 0,some<|.mat 81 (oi 992 21) .int y31.1),(oi 992 21,some<|.pool 3 .int y31.1),(oi 2 1,some<|.cells 28 [oS 2 0 y31.2.length]),(oi 2 0,some<|.mat 81 (oi 993 21) .int y31.2),(oi 993 21,some<|.pool 3 .int y31.2),(oi 1 1,none),(oi 0 1,none),(oi 0 0,none),(oi 816 10,some<|.pool 3 .int []),(oi 2 1,none),(oi 2 0,none),(oi 817 10,some<|.pool 3 .int [])] [(oi 0 0,oi 1 1),(oi 1 0,oi 0 1),(oi 2 0,oi 0 0),(oi 3 0,oi 816 10),(oi 4 0,oi 2 1),(oi 5 0,oi 2 0),(oi 6 0,oi 817 10)] [.agg [ai 1,an u1,ai 0,ai x30],.box (oi 1 1) 0,.box (oi 0 1) 0,.box (oi 2 1) 0] (caps:=[.box (oi 1 1) 0,.box (oi 0 1) 0,.box (oi 2 1) 0]) trivial (Kc h31) kr ⟨kr,⟨kr,⟨kr,⟨kr,⟨kr,⟨kr,⟨kr,trivial⟩⟩⟩⟩⟩⟩⟩ (.cons (.ren kr)<|.cons (.ren kr)<|.cons (.ren kr)<|.cons (.ren kr) .nil) (Ba kr kr ⟨Cv kr,⟨Cv kr,⟨Hs (k:=oi 0 1) (ty:=28) (cs:=[oS 0 0 y27.1.length]) (Cv kr) kr kr,⟨K4 (o:=oi 0 0) (p:=oi 816 10) (e1:=81) (m:=y27.1.length) (u:=.int) (xss:=y27.1) (Hs (k:=oi 0 1) (ty:=28) (cs:=[oS 0 0 y27.1.length]) (Cv kr) kr kr) kr,⟨Cv kr,⟨Hs (k:=oi 2 1) (ty:=28) (cs:=[oS 2 0 y27.2.length]) (Cv kr) kr kr,⟨K4 (o:=oi 2 0) (p:=oi 817 10) (e1:=81) (m:=y27.2.length) (u:=.int) (xss:=y27.2) (Hs (k:=oi 2 1) (ty:=28) (cs:=[oS 2 0 y27.2.length]) (Cv kr) kr kr) kr,trivial⟩⟩⟩⟩⟩⟩⟩)<|rnW<|sqF h (fun (l32_p0,l32_p2)=>sT [(2,ai bB),(5,.box (oi 0 1) 0),(9,an u1),(10,.fn 181 [.box (oi 1 1) 0,.box (oi 0 1) 0,.box (oi 2 1) 0]),(11,an u0)] [(oi 0 1,.cells 28 [oS 0 0 l32_p0.length]),(oi 1 1,.cells 3 [ai bA]),(oi 2 1,.cells 28 [oS 2 0 l32_p2.length]),(oi 0 0,.mat 81 (oi 3 1) .int l32_p0),(oi 3 1,.pool 3 .int l32_p0),(oi 2 0,.mat 81 (oi 4 1) .int l32_p2),(oi 4 1,.pool 3 .int l32_p2)]) ?_ ?_
   ·intro _ h;refine Ae<|Ad<|lpF h (fun (u2,l34_p0,l34_p2)=>sT [(2,ai bB),(5,.box (oi 0 1) 0),(9,an u1),(10,.fn 181 [.box (oi 1 1) 0,.box (oi 0 1) 0,.box (oi 2 1) 0]),(11,an u0),(64,an y31.1.length),(65,an u2)] [(oi 0 1,.cells 28 [oS 0 0 l34_p0.length]),(oi 1 1,.cells 3 [ai bA]),(oi 2 1,.cells 28 [oS 2 0 l34_p2.length]),(oi 0 0,.mat 81 (oi 3 1) .int l34_p0),(oi 3 1,.pool 3 .int l34_p0),(oi 2 0,.mat 81 (oi 4 1) .int l34_p2),(oi 4 1,.pool 3 .int l34_p2)]) (Ag [(oi 3 1,oi 992 21),(oi 4 1,oi 993 21)]) ?_;rintro n_ ⟨u2,l34_p0,l34_p2⟩ c_ h hn34;refine Ae<|Ab (kQ h (fun _ h=>skW<|sqF h (fun (l38_p0,l38_p2)=>sT [(2,ai bB),(5,.box (oi 0 1) 0),(9,an u1),(10,.fn 181 [.box (oi 1 1) 0,.box (oi 0 1) 0,.box (oi 2 1) 0]),(11,an u0),(64,an y31.1.length),(65,an u2)] [(oi 0 1,.cells 28 [oS 0 0 l38_p0.length]),(oi 1 1,.cells 3 [ai bA]),(oi 2 1,.cells 28 [oS 2 0 l38_p2.length]),(oi 0 0,.mat 81 (oi 3 1) .int l38_p0),(oi 3 1,.pool 3 .int l38_p0),(oi 2 0,.mat 81 (oi 4 1) .int l38_p2),(oi 4 1,.pool 3 .int l38_p2)]) ?_ ?_) fun _ h=>lxT (have h:=jO h hn34;jE []))
    ·intro _ h;refine Ad<|Ae<|sqF h (fun u9=>sT [(2,ai bB),(5,.box (oi 0 1) 0),(9,an u1),(10,.fn 181 [.box (oi 1 1) 0,.box (oi 0 1) 0,.box (oi 2 1) 0]),(11,an u0),(13,an u2),(64,an y31.1.length),(65,an u2),(80,.bool u9)] [(oi 0 1,.cells 28 [oS 0 0 l34_p0.length]),(oi 1 1,.cells 3 [ai bA]),(oi 2 1,.cells 28 [oS 2 0 l34_p2.length]),(oi 0 0,.mat 81 (oi 3 1) .int l34_p0),(oi 3 1,.pool 3 .int l34_p0),(oi 2 0,.mat 81 (oi 4 1) .int l34_p2),(oi 4 1,.pool 3 .int l34_p2)]) ?_ ?_
     ·intro _ h;refine Aa 18<|rsT 4 ?_;rcases A3 h with ⟨q41,h⟩|⟨q41,h⟩
      ·refine rq 71 q41<|rsT 2 ?_;have ⟨x42,e42,h⟩:=Ah h;refine zO (oi 0 0) sI l34_p0.length (Ai e42)<|rsl (.own (kid (oi 3 1) u2) .int 0 x42.length) (Fc (o:=oi 0 0) (p:=oi 3 1) (e1:=81) (u:=.int) (xss:=l34_p0) (row:=x42) (j:=u2) kr kr e42)<|rsT 1 ?_;have ⟨x43,e43,h⟩:=Ah h;exact rs0 (.elt (kid (oi 3 1) u2) u0 0) (zo (t:=.int) (o:=kid (oi 3 1) u2) (len:=x42.length) (k:=.i64) (m:=(u0:Int)) (D7 _)<|Ai e43)<|rsl (ai x43) (G9 (i:=kid (oi 3 1) u2) (j:=u0) (k:=0) (e:=3) (t:=.int) (xs:=x42) kr (Bo kr e42) e43 kr)<|rsT 2<|Ap<|tn_<|jE []
      exact rq 71 q41<|rsT 9<|Ap<|tn_<|jE []
     intro u9 h;refine kQ h (fun _ h=>Aa 14<|rsT 5 ?_) fun _ h=>Ax<|bn_<|tn_<|jE []
     have ⟨x45,e45,h⟩:=Ah h;refine zO (oi 0 0) sI l34_p0.length (Ai e45)<|rsl (.own (kid (oi 3 1) u2) .int 0 x45.length) (Fc (o:=oi 0 0) (p:=oi 3 1) (e1:=81) (u:=.int) (xss:=l34_p0) (row:=x45) (j:=u2) kr kr e45)<|rsT 1 ?_;have ⟨x46,e46,h⟩:=Ah h;refine rs0 (.elt (kid (oi 3 1) u2) u0 0) (zo (t:=.int) (o:=kid (oi 3 1) u2) (len:=x45.length) (k:=.i64) (m:=(u0:Int)) (D7 _)<|Ai e46)<|rsl (ai x46) (G9 (i:=kid (oi 3 1) u2) (j:=u0) (k:=0) (e:=3) (t:=.int) (xs:=x45) kr (Bo kr e45) e46 kr)<|rsT 1 ?_;have ⟨y47,h47,h⟩:=Ah h;exact Z8 (.tup []) [(oi 1 1,some<|.cells 3 [ai bA]),(oi 0 1,some<|.cells 28 [oS 0 0 y47.1.length]),(oi 0 0,some<|.mat 81 (oi 1472 13) .int y47.1),(oi 1472 13,some<|.pool 3 .int y47.1),(oi 2 1,some<|.cells 28 [oS 2 0 y47.2.length]),(oi 2 0,some<|.mat 81 (oi 1473 13) .int y47.2),(oi 1473 13,some<|.pool 3 .int y47.2),(oi 1 1,none),(oi 0 1,none),(oi 0 0,none),(oi 3 1,some<|.pool 3 .int []),(oi 2 1,none),(oi 2 0,none),(oi 4 1,some<|.pool 3 .int [])] [(oi 0 0,oi 1 1),(oi 1 0,oi 0 1),(oi 2 0,oi 0 0),(oi 3 0,oi 3 1),(oi 4 0,oi 2 1),(oi 5 0,oi 2 0),(oi 6 0,oi 4 1)] [.agg [ai 2,an u2,an u1,ai x46],.box (oi 1 1) 0,.box (oi 0 1) 0,.box (oi 2 1) 0] (caps:=[.box (oi 1 1) 0,.box (oi 0 1) 0,.box (oi 2 1) 0]) trivial (Kc h47) kr ⟨kr,⟨kr,⟨kr,⟨kr,⟨kr,⟨kr,⟨kr,trivial⟩⟩⟩⟩⟩⟩⟩ (.cons (.ren kr)<|.cons (.ren kr)<|.cons (.ren kr)<|.cons (.ren kr) .nil) (Ba kr kr ⟨Cv kr,⟨Cv kr,⟨Hs (k:=oi 0 1) (ty:=28) (cs:=[oS 0 0 l34_p0.length]) (Cv kr) kr kr,⟨K4 (o:=oi 0 0) (p:=oi 3 1) (e1:=81) (m:=l34_p0.length) (u:=.int) (xss:=l34_p0) (Hs (k:=oi 0 1) (ty:=28) (cs:=[oS 0 0 l34_p0.length]) (Cv kr) kr kr) kr,⟨Cv kr,⟨Hs (k:=oi 2 1) (ty:=28) (cs:=[oS 2 0 l34_p2.length]) (Cv kr) kr kr,⟨K4 (o:=oi 2 0) (p:=oi 4 1) (e1:=81) (m:=l34_p2.length) (u:=.int) (xss:=l34_p2) (Hs (k:=oi 2 1) (ty:=28) (cs:=[oS 2 0 l34_p2.length]) (Cv kr) kr kr) kr,trivial⟩⟩⟩⟩⟩⟩⟩)<|Ap<|bn_<|tn_<|jE [(oi 3 1,oi 1472 13),(oi 4 1,oi 1473 13)]
    rintro ⟨l38_p0,l38_p2⟩ h;exact Aa 4 (raH h fun h=>rsT 1<|Ap<|tn_<|jL [])
   rintro ⟨l32_p0,l32_p2⟩ h;exact Aa 5<|rsT 1 (raH h fun h=>rsT 1<|Ap<|bn_<|tn_<|jE [])
  rintro ⟨u7,l12_p0,l12_p2⟩ h;exact Aa 5<|rsT 1 (raH h fun h=>rsT 1<|Ap<|tn_<|jL [])
 rintro ⟨u4,l5_p0,l5_p2⟩ h;refine Ae<|Ac ?_;cases h;exact E2 [an u4]<|Ag (tl:=[(8,an u4)]) (g:=2) []
set_option maxRecDepth 4000
set_option maxHeartbeats 4800000
variable {dA dB:LL} {bA bB bC bD:Int} {cA:Bool} {aA aB:List Int}
def Iq (a0:LL) (u1:Int) (u0:Nat):Option (Ctl (Int×Nat) (Ctl Int Int)) :=
 cond (decide ((u0:Int)<(a0.length:Int)))
 ((a0[u0]?).bind fun x15 =>
 (Nc x15 u1).bind fun y16 =>
 cond (decide (y16<0))
  (some (.out (.out (-1))))
  (og (u0+1<4611686018427387904) <|
  some (.next (y16,u0+1))))
 (some (.out (.next u1)))
def Mm (a0:LL) (a1:Int):Option Int :=
 cond (decide (wI (a1 - (a0.length:Int))<0))
 (some (-1))
 (Dj (Aq (fun s_:Int×Nat=>Iq a0 s_.1 s_.2) 4611686018427387904 (wI (a1 - (a0.length:Int)),0)) fun u0 =>
 some u0)
theorem Abo (h:Mm dA bA=some bB):cK 76 [tS dA,ai bA] (A7 bB):=by
 refine cO Tryz.func76<|Ae<|Ae<|Ab<|Ae (kQ h (fun _ h=>Ae<|Ac<|tr_<|jS h) fun _ h=>skW (sqC h (fun u0=>sT [(1,ai u0)] []) ?_ fun u0 h=>Ae<|Ac<|jS h));intro _ h hk7;refine Ae<|Ad<|lpF h (fun (u1,u2)=>sT [(0,tS dA),(1,ai u1),(5,an u2)] []) (Ag []) ?_;rintro n_ ⟨u1,u2⟩ c_ h hn9;exact Ab<|Ae (kQ h (fun _ h=>skW<|Ab<|Ad<|Ab<|Aa 13<|rsT 2 (riH sI h fun x15 _ h=>rsT 2 (rcH h Ad9 fun y16 h=>rsT 1<|rnW<|Ae (kQ h (fun _ h=>Ae<|Ac<|br_<|tr_<|tr_<|br_<|tr_ (have h:=jO h hn9;(have h:=jO h hk7;jS h))) fun _ h=>Ax<|bn_<|tn_<|wr_<|Aa 18<|rsT 1 (raH h fun h=>rsT 1<|Ap<|tn_<|jL []))))) fun _ h=>lxT (have h:=jO h hn9;jC []))
def Ig (a0:LL) (u0:Nat) (u1:LL):Option (Ctl (Nat×LL) (LL)) :=
 cond (decide ((u0:Int)<(a0.length:Int)))
 ((a0[u0]?).bind fun x12 =>
 (Ns x12).bind fun y13 =>
 (u1[u0]?).bind fun x14 =>
 og (u0+1<4611686018427387904) <|
 some (.next (u0+1,u1.set u0 y13)))
 (some (.out u1))
def L4 (a0:LL):Option LL :=
 og (0<=(a0.length:Int)/\(a0.length:Int)<=(a0.length:Int)/\(a0.length:Int)<=1073741824/\(24:Int)*(a0.length:Int)<=140737488355328) <|
(Aq (fun s_:Nat×LL=>Ig a0 s_.1 s_.2) 4611686018427387904 (0,replicate a0.length ([]:List Int))).bind fun u0 =>
some u0
theorem Abx (h:L4 dA=some dB):Eb Tryz.prog Tab 84 [tS dA] [] (oS 0 1 dB.length) [(oi 0 1,.mat 81 (oi 1 1) .int dB),(oi 1 1,.pool 3 .int dB)]:=by
 refine B3 kr Tryz.func84 (Cc kr) (n:=23) kr (by simp) rfl kr trivial ⟨⟨3,.tail _ (.head _)⟩,⟨trivial,trivial⟩⟩ (Ae (Ab (Aa 6 (rsT 2 ?_))));obtain ⟨g4,h⟩:=Al h;refine Ain (oS 112 4 dA.length) (oi 112 4) 81 3 .int (replicate dA.length ([]:List Int)) trivial (Ab4 (j:=dA.length) (k:=.i64) (k':=.i64) (m:=(dA.length:Int)) (c:=(dA.length:Int)) 3 kr kr g4 kr rfl) kr (by rw [length_replicate]) kr (rsT 1 (rnW (sqF h (fun u1=>sT [(3,oS 0 1 u1.length)] [(oi 0 1,.mat 81 (oi 1 1) .int u1),(oi 1 1,.pool 3 .int u1)]) ?_ fun u1 h=>Ae (Ac (by obtain rfl:=osj h;exact E2 [oS 0 1 u1.length] (Ag (tl:=[(2,oS 0 1 u1.length)]) (g:=2) []))))));intro _ h;refine Ae (Ad (lpF h (fun (u2,u0)=>sT [(0,tS dA),(3,oS 0 1 u0.length),(4,an u2)] [(oi 0 1,.mat 81 (oi 1 1) .int u0),(oi 1 1,.pool 3 .int u0)]) ((wL 3 (length_replicate.symm:dA.length=(replicate dA.length ([]:List Int)).length)).trans (Ag [(oi 0 1,oi 112 4),(oi 1 1,oi 112 4)])) ?_));rintro n_ ⟨u2,u0⟩ c_ h hn7;refine Ab (Ae (kQ h (fun _ h=>skW (Ab (Ad (Aa 15 (rsT 4 (riH sI h fun x12 _ h=>rsT 1 (rcH h Adl fun y13 h=>?_))))))) fun _ h=>lxT (have h:=jO h hn7;jE [])));obtain ⟨x14,e14,h⟩:=Ah h;refine zO (oi 0 1) sI u0.length (Ai e14) (Ak9 (oi 0 1) (oi 0 1) (.vec 81 1 u0.length ((hdL (oi 1 1) .int u0).set u2 (oI 320 12 y13.length))) (Ae8 (o:=oi 0 1) (e1:=81) (m:=u0.length) (cs:=hdL (oi 1 1) .int u0) (v:=oI 320 12 y13.length) (j:=u2) kr kr kr rfl (by rw [Do];exact Ai e14)) (Ap (bn_ (tn_ ⟨_,Aqi (e1:=81) (e:=3) (u:=.int) (n:=u0.length) (len:=y13.length) (row:=y13) (ys:=y13) (xss:=u0) (j:=u2) 9000 (oi 0 1) (oi 1 1) (oi 320 12) kr kr rfl kr kr (N1 rfl) (Ny rfl) kr kr kr,Aa 19 (rsT 1 (raH h fun h=>rsT 1 (Ap (tn_ ?_))))⟩))));obtain rfl:=zj h;exact jLw hn7 ((wL 3 ((Eq.trans (b:=u0.length) rfl length_set.symm):u0.length=(u0.set u2 y13).length)).trans (Ag [(oi 1 1,oi 9000 15)]))
def Ib (a0 a1:LL) (u0:Nat):Option (Ctl Nat (Ctl Unit Bool)) :=
 cond (decide ((u0:Int)<(a0.length:Int)))
 ((a0[u0]?).bind fun x14 =>
 (a1[u0]?).bind fun x15 =>
 (Nx x14 x15).bind fun y16 =>
 cond (!y16)
  (some (.out (.out false)))
  (og (u0+1<4611686018427387904) <|
  some (.next (u0+1))))
 (some (.out (.next ())))
def L8 (a0 a1:LL):Option Bool :=
 cond ((a0.length:Int) !=(a1.length:Int))
 (some false)
 (Dj (Aq (fun s_:Nat=>Ib a0 a1 s_) 4611686018427387904 0) fun _ =>
 some true)
theorem Abr (h:L8 dA dB=some cA):cK 34 [tS dA,tS dB] (Am cA):=by
 exact cO Tryz.func34<|Ae<|Ab<|Ae (kQ h (fun _ h=>Ae<|Ac<|tr_<|jS h) fun _ h=>skW (sqC h (fun _=>sT [] []) (fun _ h hk6=>Ae<|Ad<|lpF h (fun u0=>sT [(0,tS dA),(1,tS dB),(5,an u0)] []) (Ag []) fun n_ u0 c_ h hn8=>Ab<|Ae (kQ h (fun _ h=>skW<|Ab<|Ad<|Ab<|An 16<|ds0 (tS dA) kr<|ds0 (an u0) kr (diH sI h fun x14 _ h=>dsT 3 (diH sI h fun x15 _ h=>ds0 (tI x15) kr (dcH h Afg fun y16 h=>ds0 (.bool<|!y16) kr<|Cb (Ar kr)<|tn_<|wr_ (kQ h (fun _ h=>Ae<|Ac<|br_<|tr_<|tr_<|br_<|tr_ (have h:=jO h hn8;(have h:=jO h hk6;jS h))) fun _ h=>Ax<|bn_<|tn_<|wr_<|Aa 19<|rsT 1 (raH h fun h=>rsT 1<|Ap<|tn_<|jL [])))))) fun _ h=>lxT (have h:=jO h hn8;jC []))) fun _ h=>Ae<|Ac<|jS h))
def Is (u1 u2:Int) (u0:LL) (a1:Int):Option Int :=
 (Mm u0 a1).bind fun y3 =>
cond (decide (y3<0))
 (some (-1))
 (some y3)
theorem Wl (h:Is bA bB dA bC=some bD):cK 41 [.agg [ai bA,ai bB,tS dA],ai bC] (A7 bD):=by
 exact cO Tryz.func41<|Ae<|Ab<|Aa 8<|rsT 3 (rcH h Abo fun y3 h=>rsT 1<|rnW<|Ab<|Ae (kQ h (fun _ h=>Ae<|Ac<|tr_<|jS h) fun _ h=>skW<|Ae<|Ac<|jS h))
def Ic (u1 u2:Int) (u0:LL):Option LL :=
 (L4 u0).bind fun y7 =>
some y7
theorem Wb (h:Ic bA bB dA=some dB):Eb Tryz.prog Tab 46 [.agg [ai bA,ai bB,tS dA]] [] (.agg [ai bA,ai bB,oS 1 1 dB.length]) [(oi 0 1,.cells 30 [ai bA,ai bB,oS 1 1 dB.length]),(oi 1 1,.mat 81 (oi 2 1) .int dB),(oi 2 1,.pool 3 .int dB)]:=by
 refine B3 kr Tryz.func46 (Cc kr) (n:=15) kr (by simp) rfl kr trivial ⟨trivial,⟨⟨3,.tail _ (.tail _ (.head _))⟩,⟨trivial,trivial⟩⟩⟩ (Ae (Ae (Ae (Ae (Ab (Aa 17 (rsT 2 (rcM h [] [tS dA] Abx trivial (aR kr) (Ba kr kr trivial) fun y7 h=>rsB 2 (rnW (Ae (Ac ?_)))))))))));obtain rfl:=zj h;exact E2 [.agg [ai bA,ai bB,oS 1 1 y7.length]] (Ag (tl:=[(2,.box (oi 0 1) 0)]) (g:=2) [(oi 0 1,oi 2 2),(oi 1 1,oi 192 14),(oi 2 1,oi 193 14)])
def Il (u0 u1:Int) (u2:LL) (u3 u4:Int) (u5:LL):Option Bool :=
 cond (u0 !=u3)
 (some false)
 (cond (u1 !=u4)
  (some false)
  ((L8 u2 u5).bind fun y12 =>
  cond (!y12)
   (some false)
   (some true)))
theorem Pt (h:Il bA bB dA bC bD dB=some cA):cK 12 [.agg [ai bA,ai bB,tS dA],.agg [ai bC,ai bD,tS dB]] (Am cA):=by
 exact cO Tryz.func12<|Ae<|Ab<|Ae (kQ h (fun _ h=>Ae<|Ac<|tr_<|jS h) fun _ h=>skW<|Ab<|Ae (kQ h (fun _ h=>Ae<|Ac<|tr_<|jS h) fun _ h=>skW<|Ab<|Ab<|Aa 20<|rsT 4 (rcH h Abr fun y12 h=>rsT 1<|rnW (kQ h (fun _ h=>Ae<|Ac<|tr_<|jS h) fun _ h=>skW<|Ae<|Ac<|jS h))))
def M1 (a2:LL) (a1 a0:Int) (u0:Nat):Option (Ctl Nat (Ctl Unit Bool)) :=
 cond (decide ((u0:Int)<(a2.length:Int)))
 ((a2[u0]?).bind fun x10 =>
 (cond ((x10.length:Int) !=a1)
   (some true)
   ((Qe a0 x10).bind fun y13 =>
   some (!y13))).bind fun u1 =>
 cond u1
  (some (.out (.out false)))
  (og (u0+1<4611686018427387904) <|
  some (.next (u0+1))))
 (some (.out (.next ())))
def Nv (a0 a1:Int) (a2:LL):Option Bool :=
 Dj (Aq (fun s_:Nat=>M1 a2 a1 a0 s_) 4611686018427387904 0) fun _ =>
some true
theorem Adt (h:Nv bA bB dA=some cA):cK 156 [ai bA,ai bB,tS dA] (Am cA):=by
 refine cO Tryz.func156<|Ae (sqC h (fun _=>sT [] []) ?_ fun _ h=>Ae<|Ac<|jS h);intro _ h hk2;refine Ae<|Ad<|lpF h (fun u0=>sT [(0,ai bA),(1,ai bB),(9,tS dA),(10,an dA.length),(11,an u0)] []) (Ag []) ?_;intro n_ u0 c_ h hn4;refine Ae<|Ab (kQ h (fun _ h=>skW<|Ab<|Ad<|Ab<|Aa 6 (riH sI h fun x10 _ h=>rsT 2<|rnW (sqF h (fun u1=>sT [(0,ai bA),(1,ai bB),(9,tS dA),(10,an dA.length),(11,an u0),(24,.bool u1)] []) ?_ fun u1 h=>kQ h (fun _ h=>Ae<|Ac<|br_<|tr_<|tr_<|br_<|tr_ (have h:=jO h hn4;(have h:=jO h hk2;jS h))) fun _ h=>Ax<|bn_<|tn_<|wr_<|Aa 4 (raH h fun h=>rsT 1<|Ap<|tn_<|jL [])))) fun _ h=>lxT (have h:=jO h hn4;jC []));intro _ h;refine Aa 16<|rsT 5 ?_;rcases A3 h with ⟨q12,h⟩|⟨q12,h⟩
 ·exact rq 19 q12<|rsT 5<|Ap<|tn_<|jE []
 exact rq 19 q12<|rsT 2 (rcH h Ah5 fun y13 h=>rsT 2<|Ap<|tn_<|jE [])
def J4 (a0 a1:List Int) (u0:Nat):Option (Ctl Nat (Ctl Unit Bool)) :=
 cond (decide ((u0:Int)<(a0.length:Int)))
 ((a0[u0]?).bind fun x15 =>
 (a1[u0]?).bind fun x16 =>
 cond (x15 !=x16)
  (some (.out (.out false)))
  (og (u0+1<4611686018427387904) <|
  some (.next (u0+1))))
 (some (.out (.next ())))
def M8 (a0 a1:List Int):Option Bool :=
 cond ((a0.length:Int) !=(a1.length:Int))
 (some false)
 (Dj (Aq (fun s_:Nat=>J4 a0 a1 s_) 4611686018427387904 0) fun _ =>
 some true)
theorem Ad0 (h:M8 aA aB=some cA):cK 179 [tI aA,tI aB] (Am cA):=by
 exact cO Tryz.func179<|Ae<|Ab<|Ae (kQ h (fun _ h=>Ae<|Ac<|tr_<|jS h) fun _ h=>skW (sqC h (fun _=>sT [] []) (fun _ h hk6=>Ae<|Ad<|lpF h (fun u0=>sT [(0,tI aA),(1,tI aB),(12,an aA.length),(13,an u0)] []) (Ag []) fun n_ u0 c_ h hn8=>Ae<|Ab (kQ h (fun _ h=>skW<|Ab<|Ad<|Ae<|Ab<|An 14<|ds0 (tI aA) kr<|ds0 (an u0) kr (diH .int h fun x15 _ h=>dsT 3 (diH .int h fun x16 _ h=>ds0 (ai x16) kr<|ds0 (.bool<|x15 !=x16) kr<|Cb (Ar kr)<|tn_<|wr_ (kQ h (fun _ h=>Ae<|Ac<|br_<|tr_<|tr_<|br_<|tr_ (have h:=jO h hn8;(have h:=jO h hk6;jS h))) fun _ h=>Ax<|bn_<|tn_<|wr_<|Aa 16 (raH h fun h=>rsT 1<|Ap<|tn_<|jL []))))) fun _ h=>lxT (have h:=jO h hn8;jC []))) fun _ h=>Ae<|Ac<|jS h))
def Jm (a0 a1:LL) (u0:Nat):Option (Ctl Nat (Ctl Unit Bool)) :=
 cond (decide ((u0:Int)<(a0.length:Int)))
 ((a0[u0]?).bind fun x15 =>
 (a1[u0]?).bind fun x16 =>
 (M8 x15 x16).bind fun y17 =>
 cond (!y17)
  (some (.out (.out false)))
  (og (u0+1<4611686018427387904) <|
  some (.next (u0+1))))
 (some (.out (.next ())))
def Nu (a0 a1:LL):Option Bool :=
 cond ((a0.length:Int) !=(a1.length:Int))
 (some false)
 (Dj (Aq (fun s_:Nat=>Jm a0 a1 s_) 4611686018427387904 0) fun _ =>
 some true)
theorem Aco (h:Nu dA dB=some cA):cK 157 [tS dA,tS dB] (Am cA):=by
 exact cO Tryz.func157<|Ae<|Ab<|Ae (kQ h (fun _ h=>Ae<|Ac<|tr_<|jS h) fun _ h=>skW (sqC h (fun _=>sT [] []) (fun _ h hk6=>Ae<|Ad<|lpF h (fun u0=>sT [(0,tS dA),(1,tS dB),(12,an dA.length),(13,an u0)] []) (Ag []) fun n_ u0 c_ h hn8=>Ae<|Ab (kQ h (fun _ h=>skW<|Ab<|Ad<|Ae<|Ab<|An 15<|ds0 (tS dA) kr<|ds0 (an u0) kr (diH sI h fun x15 _ h=>dsT 3 (diH sI h fun x16 _ h=>ds0 (tI x16) kr (dcH h Ad0 fun y17 h=>ds0 (.bool<|!y17) kr<|Cb (Ar kr)<|tn_<|wr_ (kQ h (fun _ h=>Ae<|Ac<|br_<|tr_<|tr_<|br_<|tr_ (have h:=jO h hn8;(have h:=jO h hk6;jS h))) fun _ h=>Ax<|bn_<|tn_<|wr_<|Aa 17 (raH h fun h=>rsT 1<|Ap<|tn_<|jL [])))))) fun _ h=>lxT (have h:=jO h hn8;jC []))) fun _ h=>Ae<|Ac<|jS h))
def Rf (a0 u0:Int) (u1:LL):Option Bool :=
 ((Gc a0).bind fun y3 =>
 cond y3
  ((Ct u0 0 24).bind fun y5 =>
  cond y5
   (cond (decide ((u1.length:Int)<=u0))
    ((Nv a0 u0 u1).bind fun y8 =>
    cond y8
     ((Ex a0 u0 u1).bind fun y10 =>
     (Nu y10 u1).bind fun y11 =>
     some y11)
     (some false))
    (some false))
   (some false))
  (some false)).bind fun u2 =>
some u2
theorem Afn (h:Rf bA bB dA=some cA):cK 119 [ai bA,.agg [ai bB,tS dA]] (Am cA):=by
 refine cO Tryz.func119<|Ae (sqF h (fun u2=>sT [(4,.bool u2)] []) ?_ fun u2 h=>Ac<|jS h);intro _ h;refine An 38<|dz0 (ai bA) (dcH h Ls fun y3 h=>dz0 (.bool y3) ?_);rcases A3 h with ⟨q4,h⟩|⟨q4,h⟩
 ·refine dq 7 q4<|dz0 (.box (oi 3 1) 0)<|dzl (ai bB) (dcH h C6 fun y5 h=>dz0 (.bool y5)<|dz0 (.bool y5) (kD h 12 (fun _ h=>dsT 8 ?_) fun _ h=>dsT 27<|Cb (Ar kr)<|tn_<|jE []));rcases A3 h with ⟨q7,h⟩|⟨q7,h⟩
  ·refine dq 20 q7<|dsT 5 (dcH h Adt fun y8 h=>dz0 (.bool y8)<|dz0 (.bool y8) ?_);rcases A3 h with ⟨q9,h⟩|⟨q9,h⟩
   ·exact dq 28 q9<|dsT 5 (dcM h [] [ai bA,ai bB,tS dA] Jx trivial (aR kr) (Ba kr kr trivial) (Ai2 kr) fun y10 h=>dz0 (.box (oi 3 1) 1)<|dzl (tS dA) (dcG h [oS 544 32 y10.length,tS dA] Aco (Av (Sn (p:=oi 545 32) (e1:=81) (e:=3) (u:=.int) (xss:=y10) kr (Ae0 (t:=sI) (off:=0) (len:=y10.length) (i:=oi 544 32) (e1:=81) (z:=1) (m:=y10.length) 0 rfl kr kr<|Er kr) rfl)<|Av kr Dp) fun y11 h=>dz0 (.bool y11)<|dz0 (.bool y11)<|Cb ⟨Amj kr,trivial⟩<|tn_<|jE []))
   exact dq 28 q9<|dsT 11<|Cb (Ar kr)<|tn_<|jE []
  exact dq 20 q7<|dsT 19<|Cb (Ar kr)<|tn_<|jE []
 exact dq 7 q4<|dsT 32<|Cb (Ar kr)<|tn_<|jE []
def Nn (a0 u0 u1:Int) (u2:LL):Option Bool :=
 ((Ct u0 0 24).bind fun y3 =>
 cond y3
  ((Ct u1 0 (wI (24 - u0))).bind fun y5 =>
  cond y5
   ((Rf a0 (wI (u0+u1)) u2).bind fun y7 =>
   some y7)
   (some false))
  (some false)).bind fun u3 =>
some u3
theorem Aer (h:Nn bA bB bC dA=some cA):cK 80 [ai bA,.agg [ai bB,ai bC,tS dA]] (Am cA):=by
 refine cO Tryz.func80<|Ae (sqF h (fun u3=>sT [(4,.bool u3)] []) ?_ fun u3 h=>Ac<|jS h);intro _ h;refine Aa 27<|rsT 2 (rcH h C6 fun y3 h=>rsT 1 ?_);rcases A3 h with ⟨q4,h⟩|⟨q4,h⟩
 ·refine rq 8 q4<|rsT 5 (rcH h C6 fun y5 h=>rsT 2 ?_);rcases A3 h with ⟨q6,h⟩|⟨q6,h⟩
  ·exact rq 16 q6<|rsT 9 (rcH h Afn fun y7 h=>rsT 2<|Ap<|tn_<|jE [])
  exact rq 16 q6<|rsT 12<|Ap<|tn_<|jE []
 exact rq 8 q4<|rsT 20<|Ap<|tn_<|jE []
def Qk (a0 a1:Int):Option Bool :=
 ((B6 a0 0 24).bind fun y3 =>
 cond y3
  ((B6 a1 0 24).bind fun y5 =>
  cond y5
   (some (decide (wI (a0+a1)<=24)))
   (some false))
  (some false)).bind fun u0 =>
some u0
theorem Ahz (h:Qk bA bB=some cA):cK 126 [ai bA,ai bB] (Am cA):=by
 refine cO Tryz.func126<|Ae (sqF h (fun u0=>sT [(4,.bool u0)] []) ?_ fun u0 h=>Ac<|jS h);intro _ h;refine Aa 15<|rsT 1 (rcH h C2 fun y3 h=>rsT 1 ?_);rcases A3 h with ⟨q4,h⟩|⟨q4,h⟩
 ·exact rq 7 q4<|rsT 1 (rcH h C2 fun y5 h=>rsT 2 (kR h 11 (fun _ h=>rsT 6<|Ap<|tn_<|jE []) fun _ h=>rsT 6<|Ap<|tn_<|jE []))
 exact rq 7 q4<|rsT 10<|Ap<|tn_<|jE []
def I3 (a1:LL) (a0 a2:Int) (u0:Nat):Option (Ctl Nat (Ctl Unit Bool)) :=
 cond (decide ((u0:Int)<(a1.length:Int)))
 ((a1[u0]?).bind fun x10 =>
 (Kt a0 x10 a2).bind fun y12 =>
 cond (!y12)
  (some (.out (.out false)))
  (og (u0+1<4611686018427387904) <|
  some (.next (u0+1))))
 (some (.out (.next ())))
def It (a0:Int) (a1:LL) (a2:Int):Option Bool :=
 Dj (Aq (fun s_:Nat=>I3 a1 a0 a2 s_) 4611686018427387904 0) fun _ =>
some true
theorem Wy (h:It bA dA bB=some cA):cK 160 [ai bA,tS dA,ai bB] (Am cA):=by
 exact cO Tryz.func160<|Ae (sqC h (fun _=>sT [] []) (fun _ h hk2=>Ae<|Ad<|lpF h (fun u0=>sT [(0,ai bA),(2,ai bB),(9,tS dA),(10,an dA.length),(11,an u0)] []) (Ag []) fun n_ u0 c_ h hn4=>Ae<|Ab (kQ h (fun _ h=>skW<|Ab<|Ad<|Ab<|Aa 6 (riH sI h fun x10 _ h=>rsT 2<|rnW<|Ab<|Aa 11<|rsT 3 (rcH h Z2 fun y12 h=>rsT 1<|rnW (kQ h (fun _ h=>Ae<|Ac<|br_<|tr_<|tr_<|br_<|tr_ (have h:=jO h hn4;(have h:=jO h hk2;jS h))) fun _ h=>Ax<|bn_<|tn_<|wr_<|Aa 13 (raH h fun h=>rsT 1<|Ap<|tn_<|jL []))))) fun _ h=>lxT (have h:=jO h hn4;jC []))) fun _ h=>Ae<|Ac<|jS h)
def Fj (a0:Int) (a1:LL) (a2:Int):Option LL :=
 (Gb a1).bind fun y4 =>
og (0<=(y4.length:Int)/\(y4.length:Int)<=(y4.length:Int)/\(y4.length:Int)<=1073741824/\(24:Int)*(y4.length:Int)<=140737488355328) <|
(G0 a0 y4 a2 (replicate y4.length ([]:List Int))).bind fun y8 =>
og (y8.1.length=y4.length) <|
og (y8.2.1.length=y4.length) <|
og ((0:Int)<=(y8.2.2:Int)/\(y8.2.2:Int)<=(y8.2.2:Int)/\(y8.2.2:Int)<=(y4.length:Int)) <|
some (y8.1.take y8.2.2)
theorem Ks (h:Fj bA dA bB=some dB):Eb Tryz.prog Tab 161 [ai bA,tS dA,ai bB] [] (oS 0 1 dB.length) [(oi 0 1,.mat 81 (oi 1 1) .int dB),(oi 1 1,.pool 3 .int dB)]:=by
 refine B3 kr Tryz.func161 (Cc kr) (n:=24) kr fS rfl kr trivial ⟨⟨3,.tail _<|.head _⟩,⟨trivial,trivial⟩⟩<|Ae<|Ab<|Aa 5<|rsT 1 (rcM h [] [tS dA] Pr trivial (aR kr) (Ba kr kr trivial) fun y4 h=>rsT 1<|rnW<|Ab<|Aa 9<|rsT 2 ?_);have ⟨g6,h⟩:=Al h;refine Ain (oS 224 7 y4.length) (oi 224 7) 81 3 .int (replicate y4.length ([]:List Int)) trivial (Ab4 (j:=y4.length) (k:=.i64) (k':=.i64) (m:=(y4.length:Int)) (c:=(y4.length:Int)) 3 kr kr g6 kr rfl) kr (by rw [length_replicate]) kr<|rsT 1<|rnW<|Ab<|Aa 15<|rsT 4 (rcM h [(oi 0 0,oi 176 3),(oi 1 0,oi 177 3),(oi 2 0,oi 224 7),(oi 3 0,oi 224 7)] [ai bA,oS 176 3 y4.length,ai bB,oS 224 7 y4.length] (fun h=>Qm h rfl length_replicate.symm) ⟨kr,⟨kr,⟨kr,⟨kr,trivial⟩⟩⟩⟩ (aR kr) (Ba kr kr ⟨Cv kr,⟨K4 (o:=oi 176 3) (p:=oi 177 3) (e1:=81) (m:=y4.length) (u:=.int) (xss:=y4) (Cv kr) kr,⟨Cv kr,⟨K4 (o:=oi 224 7) (p:=oi 224 7) (e1:=81) (m:=(replicate y4.length ([]:List Int)).length) (u:=.int) (xss:=replicate y4.length ([]:List Int)) (Cv kr) kr,trivial⟩⟩⟩⟩) fun y8 h=>rsT 1<|rnW<|Ab<|Aa 20<|rsT 3 ?_);have ⟨g9,h⟩:=Al h;have ⟨g10,h⟩:=Al h;have ⟨g12,h⟩:=Al h;refine rs2 (oS 23 18 y8.2.2) (oi 176 3) (oi 23 18) (.vec 81 1 y8.2.2<|(hdL (oi 304 13) .int y8.1).take y8.2.2) (Aqe (t:=sI) (len:=y4.length) (kh:=.i64) (km:=.i64) (h:=(y8.2.2:Int)) (m:=(y8.2.2:Int)) (j:=y8.2.2) (i:=oi 176 3) (N:=y8.1.length) (e:=81) (cs:=hdL (oi 304 13) .int y8.1) kr kr kr kr rfl g12 rfl (by have z_:y4.length=y8.1.length:=g9.symm;omega)) (rsT 1<|Ap<|tn_ ⟨_,Am3 (e1:=81) (e:=3) (u:=.int) (xss:=y8.1) (k:=y8.2.2) 9000 (oi 23 18) (oi 304 13) kr kr kr (by have z_:y4.length=y8.1.length:=g9.symm;omega) kr kr,Ac ?_⟩);cases h;exact E2 [oS 0 1 ((y8.1.take y8.2.2).length)]<|(Adm 6 (oS 23 18 y8.2.2) (oS 23 18<|(y8.1.take y8.2.2).length) kr<|congrArg (fun z_=>((oS 23 18 z_):AV)) ((Ap3 (by have z_:y4.length=y8.1.length:=g9.symm;omega)):y8.2.2=(y8.1.take y8.2.2).length)).trans<|Ag (tl:=[(6,oS 0 1 (y8.1.take y8.2.2).length)]) (g:=2) [(oi 0 1,oi 23 18),(oi 1 1,oi 9000 20)]
def Sh (a0:List Int):Option (List Int) :=
 some (a0.take 48++(replicate 48 0).drop (a0.take 48).length)
def Aj6 (r:List Int):RV:=⟨false,[(true,((tyA 47).av (H8 47 r)).map .sc)]⟩
theorem Aa2 (h:Sh aA=some aB):cK 162 [tI aA] (Aj6 aB):=by
 exact cO Tryz.func162<|Ae<|Ae<|Ab<|Aa 8<|rsl (.sla (oi 3 3) 0 48) (A0s (N:=47) (i:=oi 3 3) (j:=0) (e:=179) (xs:=[H8 47 (replicate 48 0)]) kr kr kr)<|rsT 1<|rs2 (an<|(aA.take 48).length) (oi 3 3) (oi 3 3) (.arr 179 (tyA 47) [H8 47 (aA.take 48++(replicate 48 0).drop (aA.take 48).length)]) (Av4 (N:=47) (i:=oi 3 3) (e:=179) (l:=replicate 48 0) (ys:=aA) (zs:=aA.take 48++(replicate 48 0).drop (aA.take 48).length) kr Kz kr kr fS rfl)<|rnW<|Ab<|Aa 10<|rsl (.agg<|(tyA 47).av<|H8 47<|aA.take 48++(replicate 48 0).drop (aA.take 48).length) (A0e (N:=47) (ty:=179) (i:=oi 3 3) (e:=0) (l:=aA.take 48++(replicate 48 0).drop (aA.take 48).length) (xs:=[H8 47 (aA.take 48++(replicate 48 0).drop (aA.take 48).length)]) kr kr rfl rfl)<|Ak9 (oi 2 1) (oi 2 1) (.arr 179 (tyA 47) [H8 47 (aA.take 48++(replicate 48 0).drop (aA.take 48).length)]) (A0f (N:=47) (ty:=179) (i:=oi 2 1) (e:=0) (l:=replicate 48 0) (l2:=aA.take 48++(replicate 48 0).drop (aA.take 48).length) (xs:=[H8 47 (replicate 48 0)]) kr kr rfl rfl kr rfl)<|rnW<|Ac<|jR h [.agg ((tyA 47).av<|H8 47<|aA.take 48++(replicate 48 0).drop (aA.take 48).length)]<|Vy (Ayj 47<|aA.take 48++(replicate 48 0).drop (aA.take 48).length) Ht
def Ov:AC :=
 (.seq (rg [xs1 26 25 24])
 (.seq (.cond (tm 26)
  .skip
  (.exit 0))
 (.seq (.block 1 (.seq (rg [xm 27 25,xx 28 1 23 25,xl 29 28,xm 7 27,xm 8 29])
 (.seq (.region [xm 30 8,xo 31 (qc 162 [tm 30] [[some .int]]),xm 32 1,xm 33 7,xx 34 1 32 33,xl 35 34,xo 36 (qc 162 [tm 35] [[some .int]]),xo 37 (.i (.cmp true 51 (tm 31) (tm 36)))] true [(1,5)])
 (.cond (tm 37)
  (.seq (rg [xo 6 (qm (cb false))])
  .ret)
  .skip))))
 (rg [xa 38 25,xm 25 38]))))
def Rv:AC :=
 (.seq (rg [xo 6 (qm (cb false))])
 (.seq (.seq (rg [xm 9 1,xn1 10 9,xm 11 2,xo 12 (qb .gtr (tm 10) (tm 11)),xm 13 12,⟨some 14,some (13,false),qm (tm 0)⟩,⟨some 15,some (13,false),qm (tm 1)⟩,⟨some 16,some (13,false),qm (tm 2)⟩,⟨some 17,some (13,false),qc 160 [tm 14,tm 15,tm 16] [[],[some sI],[]]⟩,⟨some 18,some (13,false),.i (.not (tm 17))⟩,xo 19 (.i (.pick (tm 13) (cb true) (tm 18)))])
 (.cond (tm 19)
  (.seq (rg [xo 6 (qm (cb false))])
  .ret)
  .skip))
 (.seq (.seq (rg [xm 20 0,xm 21 1,xm 22 2,xo 23 (qc 161 [tm 20,tm 21,tm 22] [[],[some sI],[]]),xn1 24 23,xo 25 (qm (ci 0))])
 (.block 0 (.loop Ov)))
 (.seq (rg [xm 39 0,xm 40 1,xm 41 2,xo 42 (qc 161 [tm 39,tm 40,tm 41] [[],[some sI],[]]),xn1 43 42,xm 44 1,xn1 45 44,xo 46 (qb .eql (tm 43) (tm 45)),xm 6 46])
 .ret))))
def Aaa:List Res:=[.tmp 6]
theorem Aag:Cw Tryz.prog Tryz.f127=some (Rv,Aaa):=by kernel_rfl
def Gm (y10 a1:LL) (u0:Nat):Option (Ctl Nat (Ctl Unit Bool)) :=
 cond (decide ((u0:Int)<(y10.length:Int)))
 ((y10[u0]?).bind fun x17 =>
 (Sh x17).bind fun y19 =>
 (a1[u0]?).bind fun x20 =>
 (Sh x20).bind fun y21 =>
 og (y19.length=47+1/\y21.length=47+1) <|
 cond (!(y19==y21))
  (some (.out (.out false)))
  (og (u0+1<4611686018427387904) <|
  some (.next (u0+1))))
 (some (.out (.next ())))
def Je (a0:Int) (a1:LL) (a2:Int):Option Bool :=
 (cond (decide (a2<(a1.length:Int)))
  (some true)
  ((It a0 a1 a2).bind fun y5 =>
  some (!y5))).bind fun u0 =>
cond u0
 (some false)
 (Dj ((Fj a0 a1 a2).bind fun y10 =>
  Aq (fun s_:Nat=>Gm y10 a1 s_) 4611686018427387904 0) fun _ =>
 (Fj a0 a1 a2).bind fun y27 =>
 some ((y27.length:Int)==(a1.length:Int)))
theorem Yu (h:Je bA dA bB=some cA):cK 127 [ai bA,tS dA,ai bB] (Am cA):=by
 refine X2 kr Tryz.func127 Aag (n:=47) kr fS rfl ?_;unfold Rv;refine Ae<|Ab<|sqF h (fun u1=>sT [(0,ai bA),(1,tS dA),(2,ai bB),(19,.bool u1)] []) ?_ ?_
 ·intro _ h;refine Aa 13<|rsT 5 ?_;rcases A3 h with ⟨q4,h⟩|⟨q4,h⟩
  ·exact rq 13 q4<|rsT 6<|Ap<|tn_<|jE []
  exact rq 13 q4<|rsT 3 (rcH h Wy fun y5 h=>rsT 2<|Ap<|tn_<|jE [])
 intro u1 h;refine kQ h (fun _ h=>Ae<|Ac<|tr_<|jS h) fun _ h=>skW (sqC h (fun _=>sT [(0,ai bA),(1,tS dA),(2,ai bB)] []) ?_ fun _ h=>Ab<|Aa 11<|rsT 3 (rcM h [] [ai bA,tS dA,ai bB] Ks trivial (aR kr) (Ba kr kr trivial) fun y27 h=>rsT 5<|rnW<|Ac<|jS h))
 intro _ h hk8;refine Ab<|Aa 8<|rsT 3 (rcM h [] [ai bA,tS dA,ai bB] Ks trivial (aR kr) (Ba kr kr trivial) fun y10 h=>rsT 2<|rnW<|Ad<|lpF h (fun u0=>sT [(0,ai bA),(1,tS dA),(2,ai bB),(23,oS 0 1 y10.length),(24,an y10.length),(25,an u0)] [(oi 0 1,.mat 81 (oi 1 1) .int y10),(oi 1 1,.pool 3 .int y10)]) (Ag [(oi 0 1,oi 368 5),(oi 1 1,oi 369 5)]) ?_);intro n_ u0 c_ h hn11;unfold Ov;refine Ae<|Ab (kQ h (fun _ h=>skW<|Ab<|Ad<|Ab<|Aa 8<|rsT 1 ?_) fun _ h=>lxT (have h:=jO h hn11;jC []));have ⟨x17,e17,h⟩:=Ah h;refine zO (oi 0 1) sI y10.length (Ai e17)<|rsl (.own (kid (oi 1 1) u0) .int 0 x17.length) (Fc (o:=oi 0 1) (p:=oi 1 1) (e1:=81) (u:=.int) (xss:=y10) (row:=x17) (j:=u0) kr kr e17)<|rsT 2<|rnW<|Ab<|An 16<|dz0 (.own (kid (oi 1 1) u0) .int 0 x17.length) (dcG h [.own (kid (oi 1 1) u0) .int 0 x17.length] Aa2 (Av (Gz (e:=3) (u:=.int) (xs:=x17) ((K5<|Re (t:=.int) (off:=0) (len:=x17.length) 0 rfl kr).trans<|Bo kr e17) rfl) Dp) fun y19 h=>dz0 (tS dA)<|dz0 (an u0) (diH sI h fun x20 _ h=>dz0 (tI x20) (dcH h Aa2 fun y21 h=>?_)));have ⟨g22,h⟩:=Al h;exact ds0 (.bool<|!(y19==y21)) (Az4 (N:=47) (l:=y19) (l':=y21) kr kr g22)<|Cb (Ar kr)<|tn_<|wr_ (kQ h (fun _ h=>Ae<|Ac<|br_<|tr_<|tr_<|br_<|tr_ (have h:=jO h hn11;(have h:=jO h hk8;jS h))) fun _ h=>Ax<|bn_<|tn_<|wr_<|Aa 18 (raH h fun h=>rsT 1<|Ap<|tn_<|jL []))
def Ir (a0 u0 u1:Int) (u2:LL):Option Bool :=
 ((Fq a0).bind fun y3 =>
 cond y3
  ((Qk u0 u1).bind fun y5 =>
  cond y5
   ((Je a0 u2 (wI (u0+u1))).bind fun y7 =>
   some y7)
   (some false))
  (some false)).bind fun u3 =>
some u3
theorem We (h:Ir bA bB bC dA=some cA):cK 87 [ai bA,.agg [ai bB,ai bC,tS dA]] (Am cA):=by
 refine cO Tryz.func87<|Ae (sqF h (fun u3=>sT [(4,.bool u3)] []) ?_ fun u3 h=>Ac<|jS h);intro _ h;refine Aa 24<|rsT 1 (rcH h Og fun y3 h=>rsT 1 ?_);rcases A3 h with ⟨q4,h⟩|⟨q4,h⟩
 ·refine rq 7 q4<|rsT 4 (rcH h Ahz fun y5 h=>rsT 2 ?_);rcases A3 h with ⟨q6,h⟩|⟨q6,h⟩
  ·exact rq 14 q6<|rsT 8 (rcH h Yu fun y7 h=>rsT 2<|Ap<|tn_<|jE [])
  exact rq 14 q6<|rsT 11<|Ap<|tn_<|jE []
 exact rq 7 q4<|rsT 18<|Ap<|tn_<|jE []
theorem gw3 (w:World):Calls Tryz.prog 141 #[.int .i64 3] w fun e w'=>e=.returned (.agg #[.int .i64 1,.int .i64 2])/\Below w.heap.size w w':=by
 go_enter Tryz.func141,Tryz.ntmps141
 go_wp2
 refine bodyPost_ret (v:=.agg #[.int .i64 1,.int .i64 2]) (by simp [results,Tryz.results141,go_sem]) rfl ⟨rfl,?_⟩;exact (by repeat (first|with_reducible exact Below.refl _ _|((with_reducible refine Below.setCell ?_ ?_ _);rotate_left;exact fO)|((with_reducible refine Below.alloc ?_ ?_ _);rotate_left;exact fO)|(with_reducible refine Below.drew ?_)|(with_reducible refine below_draws_ ?_ _)))
theorem gw4 (w:World):Calls Tryz.prog 141 #[.int .i64 4] w fun e w'=>e=.returned (.agg #[.int .i64 1,.int .i64 0])/\Below w.heap.size w w':=by
 go_enter Tryz.func141,Tryz.ntmps141
 go_wp2
 refine bodyPost_ret (v:=.agg #[.int .i64 1,.int .i64 0]) (by simp [results,Tryz.results141,go_sem]) rfl ⟨rfl,?_⟩;exact (by repeat (first|with_reducible exact Below.refl _ _|((with_reducible refine Below.setCell ?_ ?_ _);rotate_left;exact fO)|((with_reducible refine Below.alloc ?_ ?_ _);rotate_left;exact fO)|(with_reducible refine Below.drew ?_)|(with_reducible refine below_draws_ ?_ _)))
theorem gw5 (w:World):Calls Tryz.prog 141 #[.int .i64 5] w fun e w'=>e=.returned (.agg #[.int .i64 2,.int .i64 1])/\Below w.heap.size w w':=by
 go_enter Tryz.func141,Tryz.ntmps141
 go_wp2
 refine bodyPost_ret (v:=.agg #[.int .i64 2,.int .i64 1]) (by simp [results,Tryz.results141,go_sem]) rfl ⟨rfl,?_⟩;exact (by repeat (first|with_reducible exact Below.refl _ _|((with_reducible refine Below.setCell ?_ ?_ _);rotate_left;exact fO)|((with_reducible refine Below.alloc ?_ ?_ _);rotate_left;exact fO)|(with_reducible refine Below.drew ?_)|(with_reducible refine below_draws_ ?_ _)))
theorem gw6 (w:World):Calls Tryz.prog 141 #[.int .i64 6] w fun e w'=>e=.returned (.agg #[.int .i64 0,.int .i64 1])/\Below w.heap.size w w':=by
 go_enter Tryz.func141,Tryz.ntmps141
 go_wp2
 refine bodyPost_ret (v:=.agg #[.int .i64 0,.int .i64 1]) (by simp [results,Tryz.results141,go_sem]) rfl ⟨rfl,?_⟩;exact (by repeat (first|with_reducible exact Below.refl _ _|((with_reducible refine Below.setCell ?_ ?_ _);rotate_left;exact fO)|((with_reducible refine Below.alloc ?_ ?_ _);rotate_left;exact fO)|(with_reducible refine Below.drew ?_)|(with_reducible refine below_draws_ ?_ _)))
theorem gw7 (w:World):Calls Tryz.prog 141 #[.int .i64 7] w fun e w'=>e=.returned (.agg #[.int .i64 1,.int .i64 1])/\Below w.heap.size w w':=by
 go_enter Tryz.func141,Tryz.ntmps141
 go_wp2
 refine bodyPost_ret (v:=.agg #[.int .i64 1,.int .i64 1]) (by simp [results,Tryz.results141,go_sem]) rfl ⟨rfl,?_⟩;exact (by repeat (first|with_reducible exact Below.refl _ _|((with_reducible refine Below.setCell ?_ ?_ _);rotate_left;exact fO)|((with_reducible refine Below.alloc ?_ ?_ _);rotate_left;exact fO)|(with_reducible refine Below.drew ?_)|(with_reducible refine below_draws_ ?_ _)))
theorem gw8 (w:World):Calls Tryz.prog 141 #[.int .i64 8] w fun e w'=>e=.returned (.agg #[.int .i64 1,.int .i64 1])/\Below w.heap.size w w':=by
 go_enter Tryz.func141,Tryz.ntmps141
 go_wp2
 refine bodyPost_ret (v:=.agg #[.int .i64 1,.int .i64 1]) (by simp [results,Tryz.results141,go_sem]) rfl ⟨rfl,?_⟩;exact (by repeat (first|with_reducible exact Below.refl _ _|((with_reducible refine Below.setCell ?_ ?_ _);rotate_left;exact fO)|((with_reducible refine Below.alloc ?_ ?_ _);rotate_left;exact fO)|(with_reducible refine Below.drew ?_)|(with_reducible refine below_draws_ ?_ _)))
theorem gw9 (w:World):Calls Tryz.prog 141 #[.int .i64 9] w fun e w'=>e=.returned (.agg #[.int .i64 2,.int .i64 1])/\Below w.heap.size w w':=by
 go_enter Tryz.func141,Tryz.ntmps141
 go_wp2
 refine bodyPost_ret (v:=.agg #[.int .i64 2,.int .i64 1]) (by simp [results,Tryz.results141,go_sem]) rfl ⟨rfl,?_⟩;exact (by repeat (first|with_reducible exact Below.refl _ _|((with_reducible refine Below.setCell ?_ ?_ _);rotate_left;exact fO)|((with_reducible refine Below.alloc ?_ ?_ _);rotate_left;exact fO)|(with_reducible refine Below.drew ?_)|(with_reducible refine below_draws_ ?_ _)))
theorem A05 (w:World):Calls Tryz.prog 141 #[.int .i64 10] w fun e w'=>e=.returned (.agg #[.int .i64 0,.int .i64 1])/\Below w.heap.size w w':=by
 go_enter Tryz.func141,Tryz.ntmps141
 go_wp2
 refine bodyPost_ret (v:=.agg #[.int .i64 0,.int .i64 1]) (by simp [results,Tryz.results141,go_sem]) rfl ⟨rfl,?_⟩;exact (by repeat (first|with_reducible exact Below.refl _ _|((with_reducible refine Below.setCell ?_ ?_ _);rotate_left;exact fO)|((with_reducible refine Below.alloc ?_ ?_ _);rotate_left;exact fO)|(with_reducible refine Below.drew ?_)|(with_reducible refine below_draws_ ?_ _)))
theorem A06 (w:World):Calls Tryz.prog 141 #[.int .i64 11] w fun e w'=>e=.returned (.agg #[.int .i64 1,.int .i64 2])/\Below w.heap.size w w':=by
 go_enter Tryz.func141,Tryz.ntmps141
 go_wp2
 refine bodyPost_ret (v:=.agg #[.int .i64 1,.int .i64 2]) (by simp [results,Tryz.results141,go_sem]) rfl ⟨rfl,?_⟩;exact (by repeat (first|with_reducible exact Below.refl _ _|((with_reducible refine Below.setCell ?_ ?_ _);rotate_left;exact fO)|((with_reducible refine Below.alloc ?_ ?_ _);rotate_left;exact fO)|(with_reducible refine Below.drew ?_)|(with_reducible refine below_draws_ ?_ _)))
theorem A00 (w:World):Calls Tryz.prog 141 #[.int .i64 12] w fun e w'=>e=.returned (.agg #[.int .i64 1,.int .i64 0])/\Below w.heap.size w w':=by
 go_enter Tryz.func141,Tryz.ntmps141
 go_wp2
 refine bodyPost_ret (v:=.agg #[.int .i64 1,.int .i64 0]) (by simp [results,Tryz.results141,go_sem]) rfl ⟨rfl,?_⟩;exact (by repeat (first|with_reducible exact Below.refl _ _|((with_reducible refine Below.setCell ?_ ?_ _);rotate_left;exact fO)|((with_reducible refine Below.alloc ?_ ?_ _);rotate_left;exact fO)|(with_reducible refine Below.drew ?_)|(with_reducible refine below_draws_ ?_ _)))
theorem A04 (w:World):Calls Tryz.prog 141 #[.int .i64 13] w fun e w'=>e=.returned (.agg #[.int .i64 1,.int .i64 1])/\Below w.heap.size w w':=by
 go_enter Tryz.func141,Tryz.ntmps141
 go_wp2
 refine bodyPost_ret (v:=.agg #[.int .i64 1,.int .i64 1]) (by simp [results,Tryz.results141,go_sem]) rfl ⟨rfl,?_⟩;exact (by repeat (first|with_reducible exact Below.refl _ _|((with_reducible refine Below.setCell ?_ ?_ _);rotate_left;exact fO)|((with_reducible refine Below.alloc ?_ ?_ _);rotate_left;exact fO)|(with_reducible refine Below.drew ?_)|(with_reducible refine below_draws_ ?_ _)))
theorem A07 (w:World):Calls Tryz.prog 141 #[.int .i64 14] w fun e w'=>e=.returned (.agg #[.int .i64 1,.int .i64 1])/\Below w.heap.size w w':=by
 go_enter Tryz.func141,Tryz.ntmps141
 go_wp2
 refine bodyPost_ret (v:=.agg #[.int .i64 1,.int .i64 1]) (by simp [results,Tryz.results141,go_sem]) rfl ⟨rfl,?_⟩;exact (by repeat (first|with_reducible exact Below.refl _ _|((with_reducible refine Below.setCell ?_ ?_ _);rotate_left;exact fO)|((with_reducible refine Below.alloc ?_ ?_ _);rotate_left;exact fO)|(with_reducible refine Below.drew ?_)|(with_reducible refine below_draws_ ?_ _)))
def gwV (k:Int):Int×Int:=if k=3 then (1,2) else if k=4 then (1,0) else if k=5 then (2,1) else if k=6 then (0,1) else if k=9 then (2,1) else if k=10 then (0,1) else if k=11 then (1,2) else if k=12 then (1,0) else (1,1)
def D3 (a0:Int):Option (Int×Int):=og (3<=a0/\a0<=14) (some (gwV a0))
def Sf (r:Int×Int):RV:=⟨false,[(true,[.sc (.int .i64 r.1),.sc (.int .i64 r.2)])]⟩
theorem Azx (k:Int) (h:3<=k/\k<=14) (w:World):Calls Tryz.prog 141 #[.int .i64 k] w fun e w'=>e=.returned (.agg #[.int .i64 (gwV k).1,.int .i64 (gwV k).2])/\Below w.heap.size w w':=by
 have hk:k=3∨k=4∨k=5∨k=6∨k=7∨k=8∨k=9∨k=10∨k=11∨k=12∨k=13∨k=14:=by omega
 rcases hk with rfl|rfl|rfl|rfl|rfl|rfl|rfl|rfl|rfl|rfl|rfl|rfl
 ·exact gw3 w
 ·exact gw4 w
 ·exact gw5 w
 ·exact gw6 w
 ·exact gw7 w
 ·exact gw8 w
 ·exact gw9 w
 ·exact A05 w
 ·exact A06 w
 ·exact A00 w
 ·exact A04 w
 ·exact A07 w
theorem Hb {a0:Int} {r:Int×Int} (h:D3 a0=some r):Cr Tryz.prog Tab 141 [.int .i64 a0] (Sf r):=by
 have ⟨hb,h⟩:=Al h;cases h;intro w im vs hG hr;obtain ⟨u1,_,rfl,h1,h2⟩:=hr;obtain rfl:_=[]:=h2;obtain rfl:u1=.int .i64 a0:=h1;refine (Azx a0 hb w).mono ?_;rintro e w' ⟨rfl,hw⟩;exact ⟨_,rfl,hw,[_,_],[],⟨_,_,rfl,rfl,rfl,_,_,rfl,rfl,rfl,rfl,rfl⟩,⟨trivial,fun _=>rfl⟩,rfl⟩
section
variable {C:OC} {im:NP} {w:World}
end
section
variable {n:Nat} {d:Option Nat} {f:TF} {ob:OF}
end
set_option maxRecDepth 4000
set_option maxHeartbeats 4800000
variable {bA bB bC bD:Int} {gA gB:ByteArray} {hA hB:List ZB} {iA:ZB} {cA:Bool} {dA dB:LL} {jA:(List ZB)×LL} {kA:List ByteArray} {lA:Int×Int×Bool}
def Q8 (u1 u2:Int) (u0:ByteArray) (a1:Int):Option Int :=
 cond (decide (wI (a1 - (u0.size:Int))<0))
 (some (-1))
 (some (wI (a1 - (u0.size:Int))))
theorem Afj (h:Q8 bA bB gA bC=some bD):cK 51 [.agg [ai bA,ai bB,.str gA],ai bC] (A7 bD):=by
 exact cO Tryz.func51<|Ae<|Ae<|Ab<|Ae (kQ h (fun _ h=>Ae<|Ac<|tr_<|jS h) fun _ h=>skW<|Ae<|Ac<|jS h)
def Ip (a0:List ZB) (u1:Int) (u0:Nat):Option (Ctl (Int×Nat) (Ctl Int Int)) :=
 cond (decide ((u0:Int)<(a0.length:Int)))
 ((a0[u0]?).bind fun x15 =>
 (Q8 x15.1 x15.2.1 x15.2.2 u1).bind fun y16 =>
 cond (decide (y16<0))
  (some (.out (.out (-1))))
  (og (u0+1<4611686018427387904) <|
  some (.next (y16,u0+1))))
 (some (.out (.next u1)))
def Lz (a0:List ZB) (a1:Int):Option Int :=
 cond (decide (wI (a1 - (a0.length:Int))<0))
 (some (-1))
 (Dj (Aq (fun s_:Int×Nat=>Ip a0 s_.1 s_.2) 4611686018427387904 (wI (a1 - (a0.length:Int)),0)) fun u0 =>
 some u0)
theorem Abf (h:Lz hA bA=some bB):cK 28 [.tree Y8 hA,ai bA] (A7 bB):=by
 refine cO Tryz.func28<|Ae<|Ae<|Ab<|Ae (kQ h (fun _ h=>Ae<|Ac<|tr_<|jS h) fun _ h=>skW (sqC h (fun u0=>sT [(1,ai u0)] []) ?_ fun u0 h=>Ae<|Ac<|jS h));intro _ h hk7;refine Ae<|Ad<|lpF h (fun (u1,u2)=>sT [(0,.tree Y8 hA),(1,ai u1),(5,an u2)] []) (Ag []) ?_;rintro n_ ⟨u1,u2⟩ c_ h hn9;exact Ab<|Ae (kQ h (fun _ h=>skW<|Ab<|Ad<|Ab<|Aa 13<|rsT 2 (riH Y8 h fun x15 _ h=>rsT 2 (rcH h Afj fun y16 h=>rsT 1<|rnW<|Ae (kQ h (fun _ h=>Ae<|Ac<|br_<|tr_<|tr_<|br_<|tr_ (have h:=jO h hn9;(have h:=jO h hk7;jS h))) fun _ h=>Ax<|bn_<|tn_<|wr_<|Aa 18<|rsT 1 (raH h fun h=>rsT 1<|Ap<|tn_<|jL []))))) fun _ h=>lxT (have h:=jO h hn9;jC []))
def Qz (u0 u1:Int) (u2:ByteArray):Option ZB :=
 some (u0,u1,u2)
def Adb (r:ZB):RV:=⟨false,[(true,[.sc (.int .i64 r.1),.sc (.int .i64 r.2.1),.sc (.str r.2.2)])]⟩
theorem Afh (h:Qz bA bB gA=some iA):cK 60 [.agg [ai bA,ai bB,.str gA]] (Adb iA):=by
 exact cO Tryz.func60<|Ae<|Ae<|Ae<|Ae<|Ae<|Ae<|Ac<|jS h
def Ij (a0:List ZB) (u0:Nat) (u1:List ZB):Option (Ctl (Nat×(List ZB)) (List ZB)) :=
 cond (decide ((u0:Int)<(a0.length:Int)))
 ((a0[u0]?).bind fun x11 =>
 (Qz x11.1 x11.2.1 x11.2.2).bind fun y12 =>
 (u1[u0]?).bind fun x13 =>
 og (u0+1<4611686018427387904) <|
 some (.next (u0+1,u1.set u0 y12)))
 (some (.out u1))
def Mh (a0:List ZB):Option (List ZB) :=
 og (0<=(a0.length:Int)/\(a0.length:Int)<=(a0.length:Int)/\(a0.length:Int)<=1073741824/\(32:Int)*(a0.length:Int)<=140737488355328) <|
(Aq (fun s_:Nat×(List ZB)=>Ij a0 s_.1 s_.2) 4611686018427387904 (0,replicate a0.length ((0,0,(⟨#[]⟩:ByteArray)):ZB))).bind fun u0 =>
some u0
def Abi (r:List ZB):RV:=⟨false,[(false,[.new 88 Y8 r])]⟩
theorem Abl (h:Mh hA=some hB):cK 31 [.tree Y8 hA] (Abi hB):=by
 refine cO Tryz.func31<|Ae<|Ab<|Aa 6<|rsT 2 ?_;have ⟨g3,h⟩:=Al h;refine rs1 (.own (oi 7 4) Y8 0 hA.length) (oi 7 4) (.arr 88 Y8<|replicate hA.length ((0,0,(⟨#[]⟩:ByteArray)):ZB)) (Pp (t:=Y8) (k:=.i64) (k':=.i64) (m:=(hA.length:Int)) (m':=(hA.length:Int)) kr kr g3 rfl)<|rsT 1<|rnW (sqF h (fun u2=>sT [(3,.own (oi 0 1) Y8 0 u2.length)] [(oi 0 1,.arr 88 Y8 u2)]) ?_ fun u2 h=>Ae<|Ac<|jR h [.own (oi 0 1) Y8 0 u2.length]<|Hv rfl (Ea kr rfl) Ht);intro _ h;refine Ae<|Ad<|lpF h (fun (u1,u0)=>sT [(0,.tree Y8 hA),(3,.own (oi 0 1) Y8 0 u0.length),(4,an u1)] [(oi 0 1,.arr 88 Y8 u0)]) ((wL 3 (length_replicate.symm:hA.length=(replicate hA.length ((0,0,(⟨#[]⟩:ByteArray)):ZB)).length)).trans<|Ag [(oi 0 1,oi 7 4)]) ?_;rintro n_ ⟨u1,u0⟩ c_ h hn6;refine Ab<|Ae (kQ h (fun _ h=>skW<|Ab<|Ad<|Aa 15<|rsT 4 (riH Y8 h fun x11 _ h=>rsT 1 (rcH h Afh fun y12 h=>?_))) fun _ h=>lxT (have h:=jO h hn6;jE []));have ⟨x13,e13,h⟩:=Ah h;refine rs0 (.elt (oi 0 1) u1 0) (zo (t:=Y8) (o:=oi 0 1) (len:=u0.length) (k:=.i64) (m:=(u1:Int)) (D7 _)<|Ai e13)<|Ak9 (oi 0 1) (oi 0 1) (.arr 88 Y8<|u0.set u1 y12) (Agl (i:=oi 0 1) (j:=u1) (k:=0) (e:=88) (t:=Y8) (xs:=u0) (cs:=[ai y12.1,ai y12.2.1,.str y12.2.2]) (x1:=y12) kr kr e13 kr kr)<|Ap<|bn_<|tn_<|wr_<|Aa 18<|rsT 1 (raH h fun h=>rsT 1<|Ap<|tn_ ?_);cases h;exact jLw hn6<|(wL 3 (((rfl:u0.length=u0.length).trans length_set.symm):u0.length=(u0.set u1 y12).length)).trans<|Ag []
def Q6 (u0 u1:Int) (u2:ByteArray) (u3 u4:Int) (u5:ByteArray):Option Bool :=
 cond (u0 !=u3)
 (some false)
 (cond (u1 !=u4)
  (some false)
  (cond (!(u2.toList==u5.toList))
   (some false)
   (some true)))
theorem Adf (h:Q6 bA bB gA bC bD gB=some cA):cK 72 [.agg [ai bA,ai bB,.str gA],.agg [ai bC,ai bD,.str gB]] (Am cA):=by
 exact cO Tryz.func72<|Ae<|Ab<|Ae (kQ h (fun _ h=>Ae<|Ac<|tr_<|jS h) fun _ h=>skW<|Ab<|Ae (kQ h (fun _ h=>Ae<|Ac<|tr_<|jS h) fun _ h=>skW<|Ab<|Ae (kQ h (fun _ h=>Ae<|Ac<|tr_<|jS h) fun _ h=>skW<|Ae<|Ac<|jS h)))
def Io (a0:List ZB) (a1:List ZB) (u0:Nat):Option (Ctl Nat (Ctl Unit Bool)) :=
 cond (decide ((u0:Int)<(a0.length:Int)))
 ((a0[u0]?).bind fun x14 =>
 (a1[u0]?).bind fun x15 =>
 (Q6 x14.1 x14.2.1 x14.2.2 x15.1 x15.2.1 x15.2.2).bind fun y16 =>
 cond (!y16)
  (some (.out (.out false)))
  (og (u0+1<4611686018427387904) <|
  some (.next (u0+1))))
 (some (.out (.next ())))
def Mk (a0:List ZB) (a1:List ZB):Option Bool :=
 cond ((a0.length:Int) !=(a1.length:Int))
 (some false)
 (Dj (Aq (fun s_:Nat=>Io a0 a1 s_) 4611686018427387904 0) fun _ =>
 some true)
theorem Aby (h:Mk hA hB=some cA):cK 35 [.tree Y8 hA,.tree Y8 hB] (Am cA):=by
 exact cO Tryz.func35<|Ae<|Ab<|Ae (kQ h (fun _ h=>Ae<|Ac<|tr_<|jS h) fun _ h=>skW (sqC h (fun _=>sT [] []) (fun _ h hk6=>Ae<|Ad<|lpF h (fun u0=>sT [(0,.tree Y8 hA),(1,.tree Y8 hB),(5,an u0)] []) (Ag []) fun n_ u0 c_ h hn8=>Ab<|Ae (kQ h (fun _ h=>skW<|Ab<|Ad<|Ab<|An 16<|ds0 (.tree Y8 hA) kr<|ds0 (an u0) kr (diH Y8 h fun x14 _ h=>dsT 3 (diH Y8 h fun x15 _ h=>ds0 (.agg [ai x15.1,ai x15.2.1,.str x15.2.2]) kr (dcH h Adf fun y16 h=>ds0 (.bool<|!y16) kr<|Cb (Ar kr)<|tn_<|wr_ (kQ h (fun _ h=>Ae<|Ac<|br_<|tr_<|tr_<|br_<|tr_ (have h:=jO h hn8;(have h:=jO h hk6;jS h))) fun _ h=>Ax<|bn_<|tn_<|wr_<|Aa 19<|rsT 1 (raH h fun h=>rsT 1<|Ap<|tn_<|jL [])))))) fun _ h=>lxT (have h:=jO h hn8;jC []))) fun _ h=>Ae<|Ac<|jS h))
def Hz (u0:List ZB) (a1:Int):Option Int :=
 (Lz u0 a1).bind fun y3 =>
cond (decide (y3<0))
 (some (-1))
 (some y3)
theorem Tv (h:Hz hA bA=some bB):cK 7 [.agg [.tree Y8 hA],ai bA] (A7 bB):=by
 exact cO Tryz.func7<|Ae<|Ab<|Aa 8<|rsT 3 (rcH h Abf fun y3 h=>rsT 1<|rnW<|Ab<|Ae (kQ h (fun _ h=>Ae<|Ac<|tr_<|jS h) fun _ h=>skW<|Ae<|Ac<|jS h))
def Nb (u0:List ZB):Option (List ZB) :=
 (Mh u0).bind fun y4 =>
some y4
def Acu (r:List ZB):RV:=⟨false,[(true,[.new 88 Y8 r])]⟩
theorem Uh (h:Nb hA=some hB):cK 10 [.agg [.tree Y8 hA]] (Acu hB):=by
 exact cO Tryz.func10<|Ae<|Ae<|Ab<|Aa 9<|rsT 2 (rcH h Abl fun y4 h=>rsB 2<|rnW<|Ae<|Ac<|jR h [.agg [.own (oi 96 6) Y8 0 y4.length]]<|Vy (Fa (Ea kr rfl) Xq) Ht)
def Ni (u0:List ZB) (u1:List ZB):Option Bool :=
 (Mk u0 u1).bind fun y4 =>
cond (!y4)
 (some false)
 (some true)
theorem Tr (h:Ni hA hB=some cA):cK 14 [.agg [.tree Y8 hA],.agg [.tree Y8 hB]] (Am cA):=by
 exact cO Tryz.func14<|Ae<|Ab<|Ab<|Aa 10<|rsT 4 (rcH h Aby fun y4 h=>rsT 1<|rnW (kQ h (fun _ h=>Ae<|Ac<|tr_<|jS h) fun _ h=>skW<|Ae<|Ac<|jS h))
def Ha (u0:ByteArray) (u1:List ZB) (u2 u3:Int) (u4:LL) (a1:Int):Option Int :=
 cond (decide (wI (a1 - (u0.size:Int))<0))
 (some (-1))
 ((Hz u1 (wI (a1 - (u0.size:Int)))).bind fun y8 =>
 cond (decide (y8<0))
  (some (-1))
  ((Is u2 u3 u4 y8).bind fun y14 =>
  cond (decide (y14<0))
   (some (-1))
   (some y14)))
theorem Vm (h:Ha gA hA bA bB dA bC=some bD):cK 21 [.agg [.str gA,.tree Y8 hA,ai bA,ai bB,tS dA],ai bC] (A7 bD):=by
 exact cO Tryz.func21<|Ae<|Ae<|Ab<|Ae (kQ h (fun _ h=>Ae<|Ac<|tr_<|jS h) fun _ h=>skW<|Ab<|Aa 16<|rsT 3 (rcH h Tv fun y8 h=>rsT 1<|rnW<|Ab<|Ae (kQ h (fun _ h=>Ae<|Ac<|tr_<|jS h) fun _ h=>skW<|Ab<|Aa 23<|rsT 3 (rcH h Wl fun y14 h=>rsT 1<|rnW<|Ab<|Ae (kQ h (fun _ h=>Ae<|Ac<|tr_<|jS h) fun _ h=>skW<|Ae<|Ac<|jS h)))))
def Lf (u4:ByteArray) (u0:List ZB) (u1 u2:Int) (u3:LL):Option ((List ZB)×LL) :=
 (Nb u0).bind fun y6 =>
(Ic u1 u2 u3).bind fun y8 =>
some (y6,y8)
theorem Vq (h:Lf gA hA bA bB dA=some jA):Eb Tryz.prog Tab 23 [.agg [.str gA,.tree Y8 hA,ai bA,ai bB,tS dA]] [] (.agg [.str gA,.own (oi 1 1) Y8 0 jA.1.length,ai bA,ai bB,oS 2 1 jA.2.length]) [(oi 0 1,.cells 51 [.str gA,.own (oi 1 1) Y8 0 jA.1.length,ai bA,ai bB,oS 2 1 jA.2.length]),(oi 1 1,.arr 88 Y8 jA.1),(oi 2 1,.mat 81 (oi 3 1) .int jA.2),(oi 3 1,.pool 3 .int jA.2)]:=by
 refine B3 kr Tryz.func23 (Cc kr) (n:=16) kr fS rfl kr trivial ⟨trivial,⟨trivial,⟨⟨3,.tail _<|.tail _<|.tail _<|.head _⟩,⟨trivial,trivial⟩⟩⟩⟩<|Ae<|Ae<|Ae<|Ab<|Aa 13<|rsT 2 (rcH h Uh fun y6 h=>rsB 2<|rnW<|Ab<|Aa 18<|rsT 2 (rcM h [] [.agg [ai bA,ai bB,tS dA]] Wb trivial (aR kr) (Ba kr kr trivial) fun y8 h=>rsB 2<|rnW<|Ae<|Ac ?_));cases h;exact E2 [.agg [.str gA,.own (oi 1 1) Y8 0 y6.length,ai bA,ai bB,oS 2 1 y8.length]]<|Ag (tl:=[(2,.box (oi 0 1) 0)]) (g:=2) [(oi 0 1,oi 2 2),(oi 1 1,oi 144 10),(oi 2 1,oi 209 15),(oi 3 1,oi 210 15)]
def Hh (u0:ByteArray) (u1:List ZB) (u2 u3:Int) (u4:LL) (u5:ByteArray) (u6:List ZB) (u7 u8:Int) (u9:LL):Option Bool :=
 cond (!(u0.toList==u5.toList))
 (some false)
 ((Ni u1 u6).bind fun y8 =>
 cond (!y8)
  (some false)
  ((Il u2 u3 u4 u7 u8 u9).bind fun y13 =>
  cond (!y13)
   (some false)
   (some true)))
theorem Vk (h:Hh gA hA bA bB dA gB hB bC bD dB=some cA):cK 25 [.agg [.str gA,.tree Y8 hA,ai bA,ai bB,tS dA],.agg [.str gB,.tree Y8 hB,ai bC,ai bD,tS dB]] (Am cA):=by
 exact cO Tryz.func25<|Ae<|Ab<|Ae (kQ h (fun _ h=>Ae<|Ac<|tr_<|jS h) fun _ h=>skW<|Ab<|Ab<|Aa 15<|rsT 4 (rcH h Tr fun y8 h=>rsT 1<|rnW (kQ h (fun _ h=>Ae<|Ac<|tr_<|jS h) fun _ h=>skW<|Ab<|Ab<|Aa 21<|rsT 4 (rcH h Pt fun y13 h=>rsT 1<|rnW (kQ h (fun _ h=>Ae<|Ac<|tr_<|jS h) fun _ h=>skW<|Ae<|Ac<|jS h)))))
def I0 (a0:Int):Option Bool :=
 (cond (decide (97<=a0))
  (some (decide (a0<=122)))
  (some false)).bind fun u0 =>
some u0
theorem S7 (h:I0 bA=some cA):cK 122 [.int .u8 bA] (Am cA):=by
 exact cO Tryz.func122<|Ae (sqF h (fun u0=>sT [(2,.bool u0)] []) (fun _ h=>Aa 9<|rsT 3 (kR h 5 (fun _ h=>rsT 4<|Ap<|tn_<|jE []) fun _ h=>rsT 4<|Ap<|tn_<|jE [])) fun u0 h=>Ac<|jS h)
def M2  : Option (List ByteArray) :=
 some ([(⟨#[]⟩:ByteArray),(⟨#[105,100]⟩:ByteArray),(⟨#[115,119,97,112]⟩:ByteArray),(⟨#[99,111,112,121]⟩:ByteArray),(⟨#[100,105,115,99,97,114,100]⟩:ByteArray),(⟨#[97,100,100]⟩:ByteArray),(⟨#[122,101,114,111]⟩:ByteArray),(⟨#[115,99,97,108,101]⟩:ByteArray),(⟨#[100,101,108,97,121]⟩:ByteArray),(⟨#[99,111,99,111,112,121]⟩:ByteArray),(⟨#[99,111,100,105,115,99,97,114,100]⟩:ByteArray),(⟨#[99,111,97,100,100]⟩:ByteArray),(⟨#[99,111,122,101,114,111]⟩:ByteArray),(⟨#[99,111,115,99,97,108,101]⟩:ByteArray),(⟨#[99,111,100,101,108,97,121]⟩:ByteArray)])
def Qq (r:List ByteArray):RV:=⟨false,[(false,[.new 9 .str r])]⟩
theorem W8 (h:M2=some kA):cK 158 [] (Qq kA):=by
 exact cO Tryz.func158<|Ae<|Ae<|Ac<|jR h [.own (oi 1 2) .str 0 15]<|Hv rfl (Ea kr rfl) Ht
def Fe (y4:List ByteArray) (a0:ByteArray) (u0:Nat):Option (Ctl Nat (Ctl Unit Int)) :=
 cond (decide ((u0:Int)<(y4.length:Int)))
 ((y4[u0]?).bind fun x11 =>
 cond (x11.toList==a0.toList)
  (some (.out (.out (u0:Int))))
  (og (u0+1<4611686018427387904) <|
  some (.next (u0+1))))
 (some (.out (.next ())))
def Nw (a0:ByteArray):Option Int :=
 Dj ((M2).bind fun y4 =>
 Aq (fun s_:Nat=>Fe y4 a0 s_) 4611686018427387904 0) fun _ =>
some 17
theorem Aez (h:Nw gA=some bA):cK 123 [.str gA] (A7 bA):=by
 refine cO Tryz.func123<|Ae (sqC h (fun _=>sT [] []) ?_ fun _ h=>Ae<|Ac<|jS h);intro _ h hk2;refine Ab<|Aa 5 (rcH h W8 fun y4 h=>rsT 2<|rnW<|Ad<|lpF h (fun u0=>sT [(0,.str gA),(5,.own (oi 0 1) .str 0 y4.length),(6,an y4.length),(7,an u0)] [(oi 0 1,.arr 9 .str y4)]) (Ag [(oi 0 1,oi 80 2)]) ?_);intro n_ u0 c_ h hn5;refine Ae<|Ab (kQ h (fun _ h=>skW<|Ab<|Ad<|Ab<|Aa 8<|rsT 1 ?_) fun _ h=>lxT (have h:=jO h hn5;jC []));have ⟨x11,e11,h⟩:=Ah h;exact zO (oi 0 1) .str y4.length (Ai e11)<|rsl (.str x11) (G9 (i:=oi 0 1) (j:=u0) (k:=0) (e:=9) (t:=.str) (xs:=y4) kr kr e11 kr)<|rsT 2<|rnW<|Ae (kQ h (fun _ h=>Ae<|Ac<|br_<|tr_<|tr_<|br_<|tr_ (have h:=jO h hn5;(have h:=jO h hk2;jS h))) fun _ h=>Ax<|bn_<|tn_<|wr_<|Aa 13 (raH h fun h=>rsT 1<|Ap<|tn_<|jL []))
def Mb (a0:Int):Option Bool :=
 (cond (decide (48<=a0))
  (some (decide (a0<=57)))
  (some false)).bind fun u0 =>
some u0
theorem Abk (h:Mb bA=some cA):cK 124 [.int .u8 bA] (Am cA):=by
 exact cO Tryz.func124<|Ae (sqF h (fun u0=>sT [(2,.bool u0)] []) (fun _ h=>Aa 9<|rsT 3 (kR h 5 (fun _ h=>rsT 4<|Ap<|tn_<|jE []) fun _ h=>rsT 4<|Ap<|tn_<|jE [])) fun u0 h=>Ac<|jS h)
def Jq (a0:ByteArray) (u0:Nat):Option (Ctl Nat (Ctl Unit Bool)) :=
 cond (decide ((u0:Int)<(a0.size:Int)))
 (((a0[u0]?).bind fun x21 =>
  (I0 (x21.toNat:Int)).bind fun y22 =>
  cond (!y22)
   ((a0[u0]?).bind fun x24 =>
   (Mb (x24.toNat:Int)).bind fun y25 =>
   some (!y25))
   (some false)).bind fun u1 =>
 cond u1
  (some (.out (.out false)))
  (og (u0+1<4611686018427387904) <|
  some (.next (u0+1))))
 (some (.out (.next ())))
def H4 (a0:ByteArray):Option Bool :=
 ((B6 (a0.size:Int) 1 8).bind fun y4 =>
 cond (!y4)
  (some true)
  ((a0[0]?).bind fun x6 =>
  (I0 (x6.toNat:Int)).bind fun y7 =>
  cond (!y7)
   (some true)
   ((Nw a0).bind fun y9 =>
   some (y9 !=17)))).bind fun u0 =>
cond u0
 (some false)
 (Dj (Aq (fun s_:Nat=>Jq a0 s_) 4611686018427387904 0) fun _ =>
 some true)
theorem T6 (h:H4 gA=some cA):cK 85 [.str gA] (Am cA):=by
 refine cO Tryz.func85<|Ae<|Ab<|sqF h (fun u1=>sT [(0,.str gA),(18,.bool u1)] []) ?_ ?_
 ·intro _ h;refine Aa 17<|rsT 2 (rcH h C2 fun y4 h=>rsT 2 ?_);rcases A3 h with ⟨q5,h⟩|⟨q5,h⟩
  ·exact rq 8 q5<|rsT 10<|Ap<|tn_<|jE []
  refine rq 8 q5<|rsT 1 ?_;have ⟨x6,e6,h⟩:=Ah h;refine rs0 (.int .u8 (x6.toNat:Int)) (P4 (s:=gA) (k:=.i64) (m:=0) kr kr (by decide) rfl e6) (rcH h S7 fun y7 h=>rsT 3 ?_);rcases A3 h with ⟨q8,h⟩|⟨q8,h⟩
  ·exact rq 14 q8<|rsT 4<|Ap<|tn_<|jE []
  exact rq 14 q8<|rsT 1 (rcH h Aez fun y9 h=>rsT 2<|Ap<|tn_<|jE [])
 intro u1 h;refine kQ h (fun _ h=>Ae<|Ac<|tr_<|jS h) fun _ h=>skW (sqC h (fun _=>sT [] []) ?_ fun _ h=>Ae<|Ac<|jS h)
 intro _ h hk12;refine Ae<|Ad<|lpF h (fun u0=>sT [(0,.str gA),(20,an gA.size),(21,an u0)] []) (Ag []) ?_;intro n_ u0 c_ h hn14;refine Ae<|Ab (kQ h (fun _ h=>skW<|Ab<|Ad<|Ae (sqF h (fun u2=>sT [(0,.str gA),(20,an gA.size),(21,an u0),(35,.bool u2)] []) ?_ fun u2 h=>kQ h (fun _ h=>Ae<|Ac<|br_<|tr_<|tr_<|br_<|tr_ (have h:=jO h hn14;(have h:=jO h hk12;jS h))) fun _ h=>Ax<|bn_<|tn_<|wr_<|Aa 4 (raH h fun h=>rsT 1<|Ap<|tn_<|jL []))) fun _ h=>lxT (have h:=jO h hn14;jC []));intro _ h;refine Aa 17<|rsT 2 ?_;have ⟨x21,e21,h⟩:=Ah h;refine rs0 (.int .u8 (x21.toNat:Int)) (P4 (s:=gA) (k:=.i64) (m:=(u0:Int)) kr kr (D7 _) rfl e21) (rcH h S7 fun y22 h=>rsT 2 ?_);rcases A3 h with ⟨q23,h⟩|⟨q23,h⟩
 ·refine rq 29 q23<|rsT 2 ?_;have ⟨x24,e24,h⟩:=Ah h;exact rs0 (.int .u8 (x24.toNat:Int)) (P4 (s:=gA) (k:=.i64) (m:=(u0:Int)) kr kr (D7 _) rfl e24) (rcH h Abk fun y25 h=>rsT 2<|Ap<|tn_<|jE [])
 exact rq 29 q23<|rsT 6<|Ap<|tn_<|jE []
def Lk (a0:Int):Option Bool :=
 (B6 a0 3 14).bind fun y3 =>
some y3
theorem Vn (h:Lk bA=some cA):cK 163 [ai bA] (Am cA):=by
 exact cO Tryz.func163<|Ae<|Ab<|Aa 5<|rsT 1 (rcH h C2 fun y3 h=>rsT 1<|rnW<|Ac<|jS h)
def Ey (a0:Int):Option Bool :=
 (cond (a0==7)
  (some true)
  (some (a0==13))).bind fun u0 =>
some u0
theorem Mz (h:Ey bA=some cA):cK 67 [ai bA] (Am cA):=by
 exact cO Tryz.func67<|Ae (sqF h (fun u0=>sT [(2,.bool u0)] []) (fun _ h=>Aa 9<|rsT 3 (kR h 5 (fun _ h=>rsT 4<|Ap<|tn_<|jE []) fun _ h=>rsT 4<|Ap<|tn_<|jE [])) fun u0 h=>Ac<|jS h)
def G5 (a0 a1:Int):Option Bool :=
 (Ey a0).bind fun y4 =>
cond y4
 ((B6 a1 0 96).bind fun y7 =>
 some y7)
 (some (a1==0))
theorem Q4 (h:G5 bA bB=some cA):cK 164 [ai bA,ai bB] (Am cA):=by
 exact cO Tryz.func164<|Ae<|Ab<|Ab<|Aa 4<|rsT 1 (rcH h Mz fun y4 h=>rnW (kQ h (fun _ h=>Ab<|Aa 7<|rsT 1 (rcH h C2 fun y7 h=>rsT 1<|rnW<|Ac<|tr_<|jS h)) fun _ h=>skW<|Ae<|Ac<|jS h))
def Ff (u0 u1:Int) (u2:ByteArray):Option (Int×Int×Bool) :=
 cond (!(u2.toList==(⟨#[]⟩:ByteArray).toList))
 (some (0,0,false))
 (cond (u0==1)
  ((B6 u1 0 12).bind fun y9 =>
  some (u1,u1,y9))
  (cond (u0==2)
   (some (2,2,u1==0))
   ((Lk u0).bind fun y14 =>
   cond y14
    ((D3 u0).bind fun y17 =>
    (G5 u0 u1).bind fun y18 =>
    some (y17.1,y17.2,y18))
    (some (0,0,false)))))
def El (r:Int×Int×Bool):RV:=⟨true,[(true,[.sc (.int .i64 r.1),.sc (.int .i64 r.2.1)]),(false,[.sc (.bool r.2.2)])]⟩
theorem Qi (h:Ff bA bB gA=some lA):cK 128 [.agg [ai bA,ai bB,.str gA]] (El lA):=by
 exact cO Tryz.func128<|Ae<|Ab<|Ad<|Ae (kQ h (fun _ h=>Ae<|Ac<|br_<|tr_<|jS h) fun _ h=>Ae (kQ h (fun _ h=>Ab<|An 22<|dsT 7 (dcH h C2 fun y9 h=>Lg (oi 2 2) (oi 2 2) (.cells 114 [ai bB,ai bB]) kr<|ds0 (.bool y9) kr<|Cb (Ar kr)<|tn_<|wr_<|Ac<|br_<|tr_<|jS h)) fun _ h=>Ae (kQ h (fun _ h=>Ab<|An 22<|dsT 4<|Lg (oi 2 2) (oi 2 2) (.cells 114 [ai 2,ai 2]) kr<|ds0 (.bool<|bB==0) kr<|Cb (Ar kr)<|tn_<|wr_<|Ac<|br_<|tr_<|jS h) fun _ h=>Ab<|Aa 20<|rsT 2 (rcH h Vn fun y14 h=>rsT 1<|rnW (kQ h (fun _ h=>Ab<|An 30<|ds0 (.box (oi 1 1) 0) kr<|dsl (ai bA) kr (dcH h Hb fun y17 h=>dsT 4 (dcH h Q4 fun y18 h=>Lg (oi 2 2) (oi 2 2) (.cells 114 [ai y17.1,ai y17.2]) kr<|ds0 (.bool y18) kr<|Cb (Ar kr)<|tn_<|wr_<|Ac<|br_<|tr_<|jS h))) fun _ h=>Ax<|bn_<|tn_<|wr_<|Ae<|Ac<|jS h)))))
def Cj (a0:ByteArray) (u0:Nat):Option (Ctl Nat (Ctl Unit Bool)) :=
 cond (decide ((u0:Int)<(a0.size:Int)))
 (((a0[u0]?).bind fun x19 =>
  cond (decide ((x19.toNat:Int)<97))
   ((a0[u0]?).bind fun x21 =>
   cond (decide ((x21.toNat:Int)<48))
    (some true)
    ((a0[u0]?).bind fun x23 =>
    some (decide (57<(x23.toNat:Int)))))
   ((a0[u0]?).bind fun x24 =>
   cond (decide (122<(x24.toNat:Int)))
    ((a0[u0]?).bind fun x26 =>
    cond (decide ((x26.toNat:Int)<48))
     (some true)
     ((a0[u0]?).bind fun x28 =>
     some (decide (57<(x28.toNat:Int)))))
    (some false))).bind fun u1 =>
 cond u1
  (some (.out (.out false)))
  (og (u0+1<4611686018427387904) <|
  some (.next (u0+1))))
 (some (.out (.next ())))
def Rb (a0:ByteArray):Option Bool :=
 ((Ct (a0.size:Int) 1 8).bind fun y4 =>
 cond (!y4)
  (some true)
  ((a0[0]?).bind fun x6 =>
  cond (decide ((x6.toNat:Int)<97))
   (some true)
   ((a0[0]?).bind fun x8 =>
   some (decide (122<(x8.toNat:Int)))))).bind fun u0 =>
cond u0
 (some false)
 (Dj (Aq (fun s_:Nat=>Cj a0 s_) 4611686018427387904 1) fun _ =>
 some true)
theorem Ael (h:Rb gA=some cA):cK 116 [.str gA] (Am cA):=by
 refine cO Tryz.func116<|Ae<|Ab<|sqF h (fun u1=>sT [(0,.str gA),(17,.bool u1)] []) ?_ ?_
 ·intro _ h;refine Aa 16<|rsT 2 (rcH h C6 fun y4 h=>rsT 2 ?_);rcases A3 h with ⟨q5,h⟩|⟨q5,h⟩
  ·exact rq 8 q5<|rsT 9<|Ap<|tn_<|jE []
  refine rq 8 q5<|rsT 1 ?_;have ⟨x6,e6,h⟩:=Ah h;refine rs0 (.int .u8 (x6.toNat:Int)) (P4 (s:=gA) (k:=.i64) (m:=0) kr kr (by decide) rfl e6)<|rsT 3 ?_;rcases A3 h with ⟨q7,h⟩|⟨q7,h⟩
  ·exact rq 13 q7<|rsT 4<|Ap<|tn_<|jE []
  refine rq 13 q7<|rsT 1 ?_;have ⟨x8,e8,h⟩:=Ah h;exact rs0 (.int .u8 (x8.toNat:Int)) (P4 (s:=gA) (k:=.i64) (m:=0) kr kr (by decide) rfl e8)<|rsT 2<|Ap<|tn_<|jE []
 intro u1 h;refine kQ h (fun _ h=>Ae<|Ac<|tr_<|jS h) fun _ h=>skW (sqC h (fun _=>sT [] []) ?_ fun _ h=>Ae<|Ac<|jS h)
 intro _ h hk11;refine Ae<|Ad<|lpF h (fun u0=>sT [(0,.str gA),(3,an u0)] []) (Ag []) ?_;intro n_ u0 c_ h hn13;refine Ab<|Ae (kQ h (fun _ h=>skW<|Ab<|Ad (sqF h (fun u2=>sT [(0,.str gA),(3,an u0),(45,.bool u2)] []) ?_ fun u2 h=>kQ h (fun _ h=>Ae<|Ac<|br_<|tr_<|tr_<|br_<|tr_ (have h:=jO h hn13;(have h:=jO h hk11;jS h))) fun _ h=>Ax<|bn_<|tn_<|wr_<|Aa 5<|rsT 1 (raH h fun h=>rsT 1<|Ap<|tn_<|jL []))) fun _ h=>lxT (have h:=jO h hn13;jC []));intro _ h;refine Aa 28<|rsT 2 ?_;have ⟨x19,e19,h⟩:=Ah h;refine rs0 (.int .u8 (x19.toNat:Int)) (P4 (s:=gA) (k:=.i64) (m:=(u0:Int)) kr kr (D7 _) rfl e19)<|rsT 2 ?_;rcases A3 h with ⟨q20,h⟩|⟨q20,h⟩
 ·refine rq 28 q20<|rsT 8 ?_;have ⟨x21,e21,h⟩:=Ah h;refine rs0 (.int .u8 (x21.toNat:Int)) (P4 (s:=gA) (k:=.i64) (m:=(u0:Int)) kr kr (D7 _) rfl e21)<|rsT 2 ?_;rcases A3 h with ⟨q22,h⟩|⟨q22,h⟩
  ·exact rq 39 q22<|rsT 6<|Ap<|tn_<|jE []
  refine rq 39 q22<|rsT 2 ?_;have ⟨x23,e23,h⟩:=Ah h;exact rs0 (.int .u8 (x23.toNat:Int)) (P4 (s:=gA) (k:=.i64) (m:=(u0:Int)) kr kr (D7 _) rfl e23)<|rsT 3<|Ap<|tn_<|jE []
 refine rq 28 q20<|rsT 2 ?_;have ⟨x24,e24,h⟩:=Ah h;refine rs0 (.int .u8 (x24.toNat:Int)) (P4 (s:=gA) (k:=.i64) (m:=(u0:Int)) kr kr (D7 _) rfl e24)<|rsT 3 ?_;rcases A3 h with ⟨q25,h⟩|⟨q25,h⟩
 ·refine rq 34 q25<|rsT 2 ?_;have ⟨x26,e26,h⟩:=Ah h;refine rs0 (.int .u8 (x26.toNat:Int)) (P4 (s:=gA) (k:=.i64) (m:=(u0:Int)) kr kr (D7 _) rfl e26)<|rsT 2 ?_;rcases A3 h with ⟨q27,h⟩|⟨q27,h⟩
  ·exact rq 39 q27<|rsT 6<|Ap<|tn_<|jE []
  refine rq 39 q27<|rsT 2 ?_;have ⟨x28,e28,h⟩:=Ah h;exact rs0 (.int .u8 (x28.toNat:Int)) (P4 (s:=gA) (k:=.i64) (m:=(u0:Int)) kr kr (D7 _) rfl e28)<|rsT 3<|Ap<|tn_<|jE []
 exact rq 34 q25<|rsT 5<|rs0 (.tup []) (Ql kr)<|rs0 (.tup []) (Ql kr)<|rs0 (.tup []) (Ql kr)<|rs0 (.tup []) (Ql kr)<|rsT 2<|Ap<|tn_<|jE []
def Lu  : Option (List ByteArray) :=
 some ([(⟨#[105,100]⟩:ByteArray),(⟨#[115,119,97,112]⟩:ByteArray),(⟨#[99,111,112,121]⟩:ByteArray),(⟨#[100,105,115,99,97,114,100]⟩:ByteArray),(⟨#[97,100,100]⟩:ByteArray),(⟨#[122,101,114,111]⟩:ByteArray),(⟨#[115,99,97,108,101]⟩:ByteArray),(⟨#[100,101,108,97,121]⟩:ByteArray),(⟨#[99,111,99,111,112,121]⟩:ByteArray),(⟨#[99,111,100,105,115,99,97,114,100]⟩:ByteArray),(⟨#[99,111,97,100,100]⟩:ByteArray),(⟨#[99,111,122,101,114,111]⟩:ByteArray),(⟨#[99,111,115,99,97,108,101]⟩:ByteArray),(⟨#[99,111,100,101,108,97,121]⟩:ByteArray)])
theorem W2 (h:Lu=some kA):cK 118 [] (Qq kA):=by
 exact cO Tryz.func118<|Ae<|Ae<|Ac<|jR h [.own (oi 1 2) .str 0 14]<|Hv rfl (Ea kr rfl) Ht
def Fg (a0:List ByteArray) (a1:ByteArray) (u0:Nat):Option (Ctl Nat (Ctl Unit Bool)) :=
 cond (decide ((u0:Int)<(a0.length:Int)))
 ((a0[u0]?).bind fun x10 =>
 cond (x10.toList==a1.toList)
  (some (.out (.out true)))
  (og (u0+1<4611686018427387904) <|
  some (.next (u0+1))))
 (some (.out (.next ())))
def Nk (a0:List ByteArray) (a1:ByteArray):Option Bool :=
 Dj (Aq (fun s_:Nat=>Fg a0 a1 s_) 4611686018427387904 0) fun _ =>
some false
theorem Aea (h:Nk kA gA=some cA):cK 117 [.tree .str kA,.str gA] (Am cA):=by
 exact cO Tryz.func117<|Ae (sqC h (fun _=>sT [] []) (fun _ h hk2=>Ae<|Ad<|lpF h (fun u0=>sT [(1,.str gA),(7,.tree .str kA),(8,an kA.length),(9,an u0)] []) (Ag []) fun n_ u0 c_ h hn4=>Ae<|Ab (kQ h (fun _ h=>skW<|Ab<|Ad<|Ab<|Aa 6 (riH .str h fun x10 _ h=>rsT 2<|rnW<|Ae (kQ h (fun _ h=>Ae<|Ac<|br_<|tr_<|tr_<|br_<|tr_ (have h:=jO h hn4;(have h:=jO h hk2;jS h))) fun _ h=>Ax<|bn_<|tn_<|wr_<|Aa 11 (raH h fun h=>rsT 1<|Ap<|tn_<|jL [])))) fun _ h=>lxT (have h:=jO h hn4;jC []))) fun _ h=>Ae<|Ac<|jS h)
def Na (a0:ByteArray):Option Bool :=
 ((Rb a0).bind fun y3 =>
 cond y3
  ((Lu).bind fun y5 =>
  (Nk y5 a0).bind fun y6 =>
  some (!y6))
  (some false)).bind fun u0 =>
some u0
theorem Ad7 (h:Na gA=some cA):cK 78 [.str gA] (Am cA):=by
 refine cO Tryz.func78<|Ae (sqF h (fun u0=>sT [(2,.bool u0)] []) ?_ fun u0 h=>Ac<|jS h);intro _ h;refine Aa 11<|rsT 1 (rcH h Ael fun y3 h=>rsT 1 ?_);rcases A3 h with ⟨q4,h⟩|⟨q4,h⟩
 ·exact rq 5 q4 (rcH h W2 fun y5 h=>rsT 1 (rcG h [.own (oi 96 5) .str 0 y5.length,.str gA] Aea (Av (Gz (e:=9) kr rfl)<|Av kr Dp) fun y6 h=>rsT 3<|Ap<|tn_<|jE []))
 exact rq 5 q4<|rsT 6<|Ap<|tn_<|jE []
set_option maxRecDepth 4000
set_option maxHeartbeats 4800000
variable {bA bB bC bD bE:Int} {cA:Bool} {lA:Int×Int×Bool} {hA:List ZB} {gA:ByteArray} {dA:LL}
def Mu (u0 u1:Int):Option Bool :=
 (cond (decide (u0<=12))
  (some (decide (u1<=12)))
  (some false)).bind fun u2 =>
some u2
theorem Xj (h:Mu bA bB=some cA):cK 177 [.agg [ai bA,ai bB]] (Am cA):=by
 exact cO Tryz.func177<|Ae (sqF h (fun u2=>sT [(2,.bool u2)] []) (fun _ h=>Aa 12<|rsT 4 (kR h 6 (fun _ h=>rsT 5<|Ap<|tn_<|jE []) fun _ h=>rsT 5<|Ap<|tn_<|jE [])) fun u2 h=>Ac<|jS h)
def Fd (a0 u0:Int) (u1 u2 u3:Int):Option (Int×Int×Bool) :=
 cond (a0==15)
 (some (u0,u3,u1==u2))
 ((Mu (wI (u0+u2)) (wI (u1+u3))).bind fun y8 =>
 some (wI (u0+u2),wI (u1+u3),y8))
theorem Qv (h:Fd bA bB bC bD bE=some lA):cK 153 [ai bA,.agg [ai bB,ai bC],.agg [ai bD,ai bE]] (El lA):=by
 exact cO Tryz.func153<|Ae<|Ab<|Ae (kQ h (fun _ h=>Ab<|An 19<|dsT 10<|Lg (oi 6 3) (oi 6 3) (.cells 114 [ai bB,ai bE]) kr<|ds0 (.bool<|bC==bD) kr<|Cb (Ar kr)<|tn_<|wr_<|Ac<|tr_<|jS h) fun _ h=>skW<|Ae<|Ab<|An 25<|dsl (.agg [ai<|wI<|bB+bD,ai (wI<|bC+bE)]) kr<|dsl (.agg [ai<|wI<|bB+bD,ai (wI<|bC+bE)]) kr (dcH h Xj fun y8 h=>Lg (oi 6 3) (oi 6 3) (.cells 114 [ai<|wI<|bB+bD,ai (wI<|bC+bE)]) kr<|ds0 (.bool y8) kr<|Cb (Ar kr)<|tn_<|wr_<|Ac<|jS h))
def Lh (a0:List ZB) (u1:Nat) (u0:List (Int×Int)):Option (Ctl (Nat×(List (Int×Int))) (Ctl (List (Int×Int)) (Int×Int×Bool))) :=
 cond (decide ((u1:Int)<(a0.length:Int)))
 (Dj ((a0[u1]?).bind fun x16 =>
  (cond (x16.1 !=15)
    (some (x16.1 !=16))
    (some false)).bind fun u2 =>
  cond u2
   ((Ff x16.1 x16.2.1 x16.2.2).bind fun y22 =>
   cond (!y22.2.2)
    (some (.out (.out (.out (0,0,false)))))
    (og (u0.length+1<=1073741824/\(u0.length+1)*16<=140737488355328) <|
    some (.next (u0++([(y22.1,y22.2.1)])))))
   ((cond (x16.2.1 !=0)
     (some true)
     (cond (!(x16.2.2.toList==(⟨#[]⟩:ByteArray).toList))
      (some true)
      (some (decide ((u0.length:Int)<2))))).bind fun u3 =>
   cond u3
    (some (.out (.out (.out (0,0,false)))))
    ((Ce u0 (wI ((wI ((u0.length:Int) - 1)) - 1))).bind fun x37 =>
    (Ce u0 (wI ((wI ((u0.length:Int) - 1)) - 1))).bind fun x38 =>
    (Ce u0 (wI ((u0.length:Int) - 1))).bind fun x39 =>
    (Ce u0 (wI ((u0.length:Int) - 1))).bind fun x40 =>
    (Fd x16.1 x38.1 x38.2 x40.1 x40.2).bind fun y41 =>
    cond (!y41.2.2)
     (some (.out (.out (.out (0,0,false)))))
     (og ((0:Int)<=0/\0<=wI ((wI ((u0.length:Int) - 1)) - 1)/\wI ((wI ((u0.length:Int) - 1)) - 1)<=(u0.length:Int)) <|
     og (((u0.take ((wI ((wI ((u0.length:Int) - 1)) - 1)).toNat)).length)+1<=1073741824/\(((u0.take ((wI ((wI ((u0.length:Int) - 1)) - 1)).toNat)).length)+1)*16<=140737488355328) <|
     some (.next ((u0.take ((wI ((wI ((u0.length:Int) - 1)) - 1)).toNat))++([(y41.1,y41.2.1)]))))))) fun u4 =>
 og (u1+1<4611686018427387904) <|
 some (.next (u1+1,u4)))
 (some (.out (.next u0)))
def Dz (a0:List ZB):Option (Int×Int×Bool) :=
 (B6 (a0.length:Int) 1 400).bind fun y4 =>
cond (!y4)
 (some (0,0,false))
 (Dj (Aq (fun s_:Nat×(List (Int×Int))=>Lh a0 s_.1 s_.2) 4611686018427387904 (0,[])) fun u0 =>
 (u0[0]?).bind fun x50 =>
 some (x50.1,x50.2,(u0.length:Int)==1))
theorem L5 (h:Dz hA=some lA):cK 108 [.tree Y8 hA,.fn 128 []] (El lA):=by
 refine cO Tryz.func108<|Ae<|Ab<|Ab<|Aa 7<|rsT 2 (rcH h C2 fun y4 h=>rsT 1<|rnW (kQ h (fun _ h=>Ae<|Ac<|tr_<|jS h) fun _ h=>skW<|Ae<|sqC h (fun u1=>sT [(4,.box (oi 0 1) 0),(6,.own (oi 1 1) Y3 0 u1.length)] [(oi 0 1,.cells 114 [ai 0,ai 0]),(oi 1 1,.arr 114 Y3 u1)]) ?_ ?_))
 ·intro _ h hk8;refine Ae<|Ad<|lpF h (fun (u2,u0)=>sT [(1,.fn 128 []),(4,.box (oi 0 1) 0),(6,.own (oi 1 1) Y3 0 u0.length),(20,.tree Y8 hA),(21,an hA.length),(22,an u2)] [(oi 0 1,.cells 114 [ai 0,ai 0]),(oi 1 1,.arr 114 Y3 u0)]) (Ag [(oi 0 1,oi 4 1),(oi 1 1,oi 19 7)]) ?_;rintro n_ ⟨u2,u0⟩ c_ h hn10
  (try dsimp only at h);refine Ae<|Ab (kQ h (fun q13 h=>?_) fun q13 h=>?_)
  ·have q13_:=of_decide_eq_true q13;refine skW<|sqC h (fun u3=>sT [(1,.fn 128 []),(4,.box (oi 0 1) 0),(6,.own (oi 1 1) Y3 0 u3.length),(20,.tree Y8 hA),(21,an hA.length),(22,an u2)] [(oi 0 1,.cells 114 [ai 0,ai 0]),(oi 1 1,.arr 114 Y3 u3)]) ?_ ?_
   ·intro _ h hk14;refine Ad<|Ab<|Aa 7 (riH Y8 h fun x16 _ h=>rsB 3<|rnW<|Ab<|sqF h (fun u4=>sT [(1,.fn 128 []),(4,.box (oi 0 1) 0),(6,.own (oi 1 1) Y3 0 u0.length),(8,.box (oi 2 1) 0),(20,.tree Y8 hA),(21,an hA.length),(22,an u2),(33,.bool u4)] [(oi 0 1,.cells 114 [ai 0,ai 0]),(oi 1 1,.arr 114 Y3 u0),(oi 2 1,.cells 88 [ai x16.1,ai x16.2.1,.str x16.2.2])]) (fun _ h=>Aa 15<|rsT 4 (kR h 29 (fun _ h=>rsT 4<|Ap<|tn_<|jE [(oi 2 1,oi 8 5)]) fun _ h=>rsT 4<|Ap<|tn_<|jE [(oi 2 1,oi 8 5)])) ?_);intro u4 h
    (try dsimp only at h);refine kQ h (fun _ h=>?_) fun _ h=>?_
    ·refine Ab<|Aa 11<|rsT 2 (rcH h Qi fun y22 h=>rsB 6<|rnW<|Ab<|Ae (kQ h (fun _ h=>?_) fun _ h=>?_))
     ·refine Ae<|Ac<|tr_<|tr_<|br_<|tr_<|tr_<|br_<|tr_ ?_;have h:=jO h hk14
      (try dsimp only at h);have h:=jO h hn10
      (try dsimp only at h);have h:=jO h hk8
      (try dsimp only at h);exact jS h
     refine skW<|Ab<|Aa 18<|rsB 3 ?_;have ⟨g28,h⟩:=Al h;exact rs2 (.own (oi 1 16) Y3 0<|(u0++([(y22.1,y22.2.1)])).length) (oi 1 1) (oi 1 16) (.arr 114 Y3<|u0++([(y22.1,y22.2.1)])) (Px (t:=Y3) (t':=Y3) (xs:=u0) (ys:=[(y22.1,y22.2.1)]) (zs:=u0++([(y22.1,y22.2.1)])) (j:=oi 1 1) (len:=u0.length) (c:=.own (oi 45 15) Y3 0 1) kr kr rfl kr (H9 (e:=114) kr rfl) rfl g28)<|rsT 1<|rnW<|Ep<|te_<|be_<|tn_<|jC [(oi 1 1,oi 1 16)]
    refine skW<|Ab<|sqF h (fun u5=>sT [(1,.fn 128 []),(4,.box (oi 0 1) 0),(6,.own (oi 1 1) Y3 0 u0.length),(8,.box (oi 2 1) 0),(20,.tree Y8 hA),(21,an hA.length),(22,an u2),(59,.bool u5)] [(oi 0 1,.cells 114 [ai 0,ai 0]),(oi 1 1,.arr 114 Y3 u0),(oi 2 1,.cells 88 [ai x16.1,ai x16.2.1,.str x16.2.2])]) (fun _ h=>Aa 15<|rsT 4 (kR h 50 (fun _ h=>rsT 9<|Ap<|tn_<|jE []) fun _ h=>rsT 5 (kR h 55 (fun _ h=>rsT 4<|Ap<|tn_<|jE []) fun _ h=>rsT 4<|Ap<|tn_<|jE []))) ?_;intro u5 h
    (try dsimp only at h);refine kQ h (fun _ h=>?_) fun _ h=>?_
    ·refine Ae<|Ac<|tr_<|br_<|tr_<|tr_<|br_<|tr_ ?_;have h:=jO h hk14
     (try dsimp only at h);have h:=jO h hn10
     (try dsimp only at h);have h:=jO h hk8
     (try dsimp only at h);exact jS h
    refine skW<|Ae<|Ab<|An 24<|dsT 5 ?_;have ⟨x37,f37,h⟩:=Ah h;have ⟨p37,b37,e37⟩:=As f37;refine ds0 (.elt (oi 1 1) ((wI<|(wI<|(u0.length:Int) - 1) - 1).toNat) 0) (zo (t:=Y3) (o:=oi 1 1) (len:=u0.length) (k:=.i64) (m:=wI<|(wI<|(u0.length:Int) - 1) - 1) p37<|Ai e37) ?_;have ⟨x38,f38,h⟩:=Ah h;have ⟨p38,b38,e38⟩:=As f38;refine dsl (.agg [ai x38.1,ai x38.2]) (G9 (i:=oi 1 1) (j:=(wI<|(wI<|(u0.length:Int) - 1) - 1).toNat) (k:=0) (e:=114) (t:=Y3) (xs:=u0) kr kr e38 kr)<|dz0 (.own (oi 1 1) Y3 0 u0.length)<|dz0 (ai<|wI<|(u0.length:Int) - 1) ?_;have ⟨x39,f39,h⟩:=Ah h;have ⟨p39,b39,e39⟩:=As f39;refine ds0 (.elt (oi 1 1) ((wI<|(u0.length:Int) - 1).toNat) 0) (zo (t:=Y3) (o:=oi 1 1) (len:=u0.length) (k:=.i64) (m:=wI<|(u0.length:Int) - 1) p39<|Ai e39) ?_;have ⟨x40,f40,h⟩:=Ah h;have ⟨p40,b40,e40⟩:=As f40;refine dsl (.agg [ai x40.1,ai x40.2]) (G9 (i:=oi 1 1) (j:=(wI<|(u0.length:Int) - 1).toNat) (k:=0) (e:=114) (t:=Y3) (xs:=u0) kr kr e40 kr) (dcH h Qv fun y41 h=>dz0 (.tup [.agg [ai y41.1,ai y41.2.1],.bool y41.2.2])<|dz0 (.agg [ai y41.1,ai y41.2.1])<|dz0 (.bool y41.2.2)<|ds1 (.box (oi 12 21) 0) (oi 12 21) (.cells 114 [ai 0,ai 0]) kr<|Lg (oi 12 21) (oi 12 21) (.cells 114 [ai y41.1,ai y41.2.1]) kr<|dz0 (.bool y41.2.2)<|Cb (Ar kr)<|tn_<|wr_<|Ab<|Ae (kQ h (fun _ h=>?_) fun _ h=>?_))
    ·refine Ae<|Ac<|tr_<|br_<|tr_<|tr_<|br_<|tr_ ?_;have h:=jO h hk14
     (try dsimp only at h);have h:=jO h hn10
     (try dsimp only at h);have h:=jO h hk8
     (try dsimp only at h);exact jS h
    refine skW<|An 34<|dsT 3 ?_;have ⟨g46,h⟩:=Al h;have ⟨g47,h⟩:=Al h;exact ds0 (.own (oi 1 1) Y3 0<|(wI<|(wI<|(u0.length:Int) - 1) - 1).toNat) (Gv (t:=Y3) (i:=oi 1 1) (off:=0) (len:=u0.length) (l:=0) (h:=wI<|(wI<|(u0.length:Int) - 1) - 1) kr kr kr rfl g46 rfl oM)<|dzl (.agg [ai y41.1,ai y41.2.1])<|ds1 (.own (oi 87 31) Y3 0 1) (oi 87 31) (.arr 114 Y3<|[(y41.1,y41.2.1)]) kr<|ds2 (.own (oi 1 32) Y3 0<|((u0.take<|(wI<|(wI<|(u0.length:Int) - 1) - 1).toNat)++([(y41.1,y41.2.1)])).length) (oi 1 1) (oi 1 32) (.arr 114 Y3<|(u0.take<|(wI<|(wI<|(u0.length:Int) - 1) - 1).toNat)++([(y41.1,y41.2.1)])) (At6 (t:=Y3) (t':=Y3) (xs:=u0) (ys:=[(y41.1,y41.2.1)]) (zs:=(u0.take<|(wI<|(wI<|(u0.length:Int) - 1) - 1).toNat)++([(y41.1,y41.2.1)])) (j:=oi 1 1) (len:=(wI<|(wI<|(u0.length:Int) - 1) - 1).toNat) (c:=.own (oi 87 31) Y3 0 1) kr kr oM kr (H9 (e:=114) kr rfl) rfl g47)<|dz0 (.own (oi 1 32) Y3 0<|((u0.take<|(wI<|(wI<|(u0.length:Int) - 1) - 1).toNat)++([(y41.1,y41.2.1)])).length)<|Cb (Ar kr)<|bn_<|tn_<|jC [(oi 1 1,oi 1 32)]
   intro u3 h
   (try dsimp only at h);refine Aa 4 ?_;have ⟨g48,h⟩:=Al h;exact zA g48<|rsT 1<|Ap<|tn_<|jL []
  have q13_:=of_decide_eq_false q13;refine lxT ?_;have h:=jO h hn10
  (try dsimp only at h);exact jC []
 intro u1 h
 (try dsimp only at h);refine Ab<|Aa 10<|rsT 1 ?_;have ⟨x50,e50,h⟩:=Ah h;exact rs0 (.elt (oi 1 1) 0 0) (V5 (t:=Y3) (o:=oi 1 1) (len:=u1.length) (k:=.i64) (m:=0) kr kr rfl (by decide) rfl<|Ai e50)<|rsl (.agg [ai x50.1,ai x50.2]) (G9 (i:=oi 1 1) (j:=0) (k:=0) (e:=114) (t:=Y3) (xs:=u1) kr kr e50 kr)<|rsB 5<|rnW<|Ac<|jS h
def F5 (u0:List ZB):Option (Int×Int×Bool) :=
 (Dz u0).bind fun y3 =>
some (y3.1,y3.2.1,y3.2.2)
theorem P9 (h:F5 hA=some lA):cK 88 [.agg [.tree Y8 hA]] (El lA):=by
 exact cO Tryz.func88<|Ae<|Ab<|Aa 11<|rsT 2 (rcH h L5 fun y3 h=>rsB 4<|rnW<|Ac<|jS h)
def J8 (u0:List ZB):Option Bool :=
 (F5 u0).bind fun y3 =>
some y3.2.2
theorem Tu (h:J8 hA=some cA):cK 159 [.agg [.tree Y8 hA]] (Am cA):=by
 exact cO Tryz.func159<|Ae<|Ab<|Aa 11<|rsT 1 (rcH h P9 fun y3 h=>rsB 6<|rnW<|Ae<|Ac<|jS h)
def Fr (u1:List ZB) (a1:Int) (u0:Nat):Option (Ctl Nat (Ctl Unit Bool)) :=
 cond (decide ((u0:Int)<(u1.length:Int)))
 ((u1[u0]?).bind fun x17 =>
 ((Ey x17.1).bind fun y19 =>
  cond y19
   (some (decide (a1<=x17.2.1)))
   (some false)).bind fun u2 =>
 cond u2
  (some (.out (.out false)))
  (og (u0+1<4611686018427387904) <|
  some (.next (u0+1))))
 (some (.out (.next ())))
def Hc (u0:List ZB) (a1:Int):Option Bool :=
 ((Fq a1).bind fun y4 =>
 cond (!y4)
  (some true)
  ((J8 u0).bind fun y6 =>
  some (!y6))).bind fun u1 =>
cond u1
 (some false)
 (Dj (Aq (fun s_:Nat=>Fr u0 a1 s_) 4611686018427387904 0) fun _ =>
 some true)
theorem Vp (h:Hc hA bA=some cA):cK 125 [.agg [.tree Y8 hA],ai bA] (Am cA):=by
 refine cO Tryz.func125<|Ae<|Ab (sqF h (fun u2=>sT [(1,ai bA),(2,.box (oi 0 1) 0),(14,.bool u2)] [(oi 0 1,.cells 37 [.tree Y8 hA])]) ?_ fun u2 h=>kQ h (fun _ h=>Ae<|Ac<|tr_<|jS h) fun _ h=>skW (sqC h (fun _=>sT [] []) (fun _ h hk9=>Ae<|Ad<|lpF h (fun u1=>sT [(1,ai bA),(16,.tree Y8 hA),(17,an hA.length),(18,an u1)] []) (Ag []) fun n_ u1 c_ h hn11=>Ae<|Ab (kQ h (fun _ h=>skW<|Ab<|Ad<|Ab<|Aa 7 (riH Y8 h fun x17 _ h=>rsB 3<|rnW (sqF h (fun u3=>sT [(1,ai bA),(16,.tree Y8 hA),(17,an hA.length),(18,an u1),(30,.bool u3)] []) (fun _ h=>Aa 16<|rsT 2 (rcH h Mz fun y19 h=>rsT 1 (kR h 25 (fun _ h=>rsT 5<|Ap<|tn_<|jE []) fun _ h=>rsT 5<|Ap<|tn_<|jE []))) fun u3 h=>kQ h (fun _ h=>Ae<|Ac<|br_<|tr_<|tr_<|br_<|tr_ (have h:=jO h hn11;(have h:=jO h hk9;jS h))) fun _ h=>Ax<|bn_<|tn_<|wr_<|Aa 4 (raH h fun h=>rsT 1<|Ap<|tn_<|jL [])))) fun _ h=>lxT (have h:=jO h hn11;jC []))) fun _ h=>Ae<|Ac<|jS h));intro _ h;refine Aa 11<|rsT 1 (rcH h Og fun y4 h=>rsT 2 ?_);rcases A3 h with ⟨q5,h⟩|⟨q5,h⟩
 ·exact rq 10 q5<|rsT 4<|Ap<|tn_<|jE [(oi 0 1,oi 2 1)]
 exact rq 10 q5<|rsT 1 (rcH h Tu fun y6 h=>rsT 2<|Ap<|tn_<|jE [(oi 0 1,oi 2 1)])
def I1 (a0:Int):Option Bool :=
 (cond (a0==8)
  (some true)
  (some (a0==14))).bind fun u0 =>
some u0
theorem S6 (h:I1 bA=some cA):cK 66 [ai bA] (Am cA):=by
 exact cO Tryz.func66<|Ae (sqF h (fun u0=>sT [(2,.bool u0)] []) (fun _ h=>Aa 9<|rsT 3 (kR h 5 (fun _ h=>rsT 4<|Ap<|tn_<|jE []) fun _ h=>rsT 4<|Ap<|tn_<|jE [])) fun u0 h=>Ac<|jS h)
def Ev (u1:List ZB) (u0:Nat):Option (Ctl Nat (Ctl Unit Bool)) :=
 cond (decide ((u0:Int)<(u1.length:Int)))
 ((u1[u0]?).bind fun x15 =>
 (I1 x15.1).bind fun y17 =>
 cond y17
  (some (.out (.out false)))
  (og (u0+1<4611686018427387904) <|
  some (.next (u0+1))))
 (some (.out (.next ())))
def F3 (u0:List ZB) (a1:Int):Option Bool :=
 (Hc u0 a1).bind fun y4 =>
cond (!y4)
 (some false)
 (Dj (Aq (fun s_:Nat=>Ev u0 s_) 4611686018427387904 0) fun _ =>
 some true)
theorem Tc (h:F3 hA bA=some cA):cK 86 [.agg [.tree Y8 hA],ai bA] (Am cA):=by
 exact cO Tryz.func86<|Ae<|Ab<|Ab<|Aa 7<|rsT 2 (rcH h Vp fun y4 h=>rsT 1<|rnW (kQ h (fun _ h=>Ae<|Ac<|tr_<|jS h) fun _ h=>skW (sqC h (fun _=>sT [] []) (fun _ h hk7=>Ae<|Ad<|lpF h (fun u1=>sT [(12,.tree Y8 hA),(13,an hA.length),(14,an u1)] []) (Ag []) fun n_ u1 c_ h hn9=>Ae<|Ab (kQ h (fun _ h=>skW<|Ab<|Ad<|Ab<|Aa 7 (riH Y8 h fun x15 _ h=>rsB 3<|rnW<|Ab<|Aa 10<|rsT 2 (rcH h S6 fun y17 h=>rnW (kQ h (fun _ h=>Ae<|Ac<|br_<|tr_<|tr_<|br_<|tr_ (have h:=jO h hn9;(have h:=jO h hk7;jS h))) fun _ h=>Ax<|bn_<|tn_<|wr_<|Aa 12 (raH h fun h=>rsT 1<|Ap<|tn_<|jL []))))) fun _ h=>lxT (have h:=jO h hn9;jC []))) fun _ h=>Ae<|Ac<|jS h)))
def Pz:AC :=
 (.seq (rg [xo 3 (.i (.box 51 (tm 1))),xo 4 (qm (cb false))])
 (.seq (.seq (rg [xf 7 0 3,xl 8 7,xo 9 (qc 85 [tm 8] [[]]),xo 10 (.i (.not (tm 9))),xm 11 10,⟨some 12,some (11,false),qf 1 (tm 3)⟩,⟨some 13,some (11,false),.i (.ld false 1 (tm 12))⟩,⟨some 14,some (11,false),qm (tm 0)⟩,⟨some 15,some (11,false),qc 86 [tm 13,tm 14] [[some Y8],[]]⟩,⟨some 16,some (11,false),.i (.not (tm 15))⟩,xo 17 (.i (.pick (tm 11) (cb true) (tm 16))),xm 18 17,⟨some 19,some (18,false),qm (tm 0)⟩,⟨some 20,some (18,false),qf 2 (tm 3)⟩,⟨some 21,some (18,false),.i (.ld false 3 (tm 20))⟩,⟨some 22,some (18,false),qc 87 [tm 19,tm 21] [[],[none,none,some sI]]⟩,⟨some 23,some (18,false),.i (.not (tm 22))⟩,xo 24 (.i (.pick (tm 18) (cb true) (tm 23)))])
 (.cond (tm 24)
  (.seq (rg [xo 4 (qm (cb false))])
  .ret)
  .skip))
 (.seq (rg [xf 26 1 3,xo 27 (.i (.ld false 1 (tm 26))),⟨some 28,none,qc 88 [tm 27] [[some Y8]]⟩,xm 25 28,xo 29 (.i (.extr 0 (tm 25))),xo 30 (.i (.extr 1 (tm 25))),xo 5 (.i (.alloc 114 [.int .i64 0,.int .i64 0])),xn (.st false 2 (tm 5) (tm 29)),xm 6 30])
 (.seq (rg [xo 31 (.i (.ld false 2 (tm 5))),xf 32 2 3,xf 33 0 32,xl 34 33,xf 35 2 3,xf 36 1 35,xl 37 36,xo 38 (.build [.int .i64 0,.int .i64 0] [(0,1,tm 34),(1,1,tm 37)]),xo 39 (.i (.cmp false 5 (tm 31) (tm 38))),xm 4 39])
 .ret))))
def Wd:List Res:=[.tmp 4]
theorem W1:Cw Tryz.prog Tryz.f47=some (Pz,Wd):=by kernel_rfl
def Fi (a0:Int) (u3:ByteArray) (u0:List ZB) (u1 u2:Int) (u4:LL):Option Bool :=
 ((H4 u3).bind fun y4 =>
 cond (!y4)
  (some true)
  ((F3 u0 a0).bind fun y6 =>
  cond (!y6)
   (some true)
   ((Ir a0 u1 u2 u4).bind fun y8 =>
   some (!y8)))).bind fun u5 =>
cond u5
 (some false)
 ((F5 u0).bind fun y12 =>
 some ([y12.1,y12.2.1]==[u1,u2]))
theorem Vo (h:Fi bA gA hA bB bC dA=some cA):cK 47 [ai bA,.agg [.str gA,.tree Y8 hA,ai bB,ai bC,tS dA]] (Am cA):=by
 refine X2 kr Tryz.func47 W1 (n:=40) kr fS rfl ?_;unfold Pz;refine Ae<|Ab (sqF h (fun u5=>sT [(3,.box (oi 0 1) 0),(24,.bool u5)] [(oi 0 1,.cells 51 [.str gA,.tree Y8 hA,ai bB,ai bC,tS dA])]) ?_ fun u5 h=>kQ h (fun _ h=>Ae<|Ac<|tr_<|jS h) fun _ h=>skW<|Ab<|Aa 11<|rsT 2 (rcH h P9 fun y12 h=>rsB 6<|rnW<|Ae<|Ac<|jS h));intro _ h;refine Aa 21<|rsT 2 (rcH h T6 fun y4 h=>rsT 2 ?_);rcases A3 h with ⟨q5,h⟩|⟨q5,h⟩
 ·exact rq 11 q5<|rsT 13<|Ap<|tn_<|jE [(oi 0 1,oi 3 1)]
 refine rq 11 q5<|rsT 3 (rcH h Tc fun y6 h=>rsT 3 ?_);rcases A3 h with ⟨q7,h⟩|⟨q7,h⟩
 ·exact rq 18 q7<|rsT 6<|Ap<|tn_<|jE [(oi 0 1,oi 3 1)]
 exact rq 18 q7<|rsT 3 (rcH h We fun y8 h=>rsT 2<|Ap<|tn_<|jE [(oi 0 1,oi 3 1)])
end Go.Proofs.YthlpchhhinipaaaGreatDoor
