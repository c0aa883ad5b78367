/- Lemmas on the program and on partial functions that stand in place of its code (part 5); no condition beyond those that each one states. -/
import Derived.Test.YthlpchhhinipaaaGreatDoorZ4
namespace Go.Proofs.YthlpchhhinipaaaGreatDoor
open Go.RowKit Go.Deep
theorem wr_ {G:World->Prop} {S:St} {K:St->Prop} (h:K S):∃ S',WeakG G S S'/\K S':=⟨S,WeakG.refl _,h⟩
def rC (x:Option (AC×List Res)):List Res:=x.elim [] (·.2)
theorem Bt {x:Option (AC×List Res)} (h:x.isSome=true):x=some (mC x,rC x):=by
 cases x with
 | none=>cases h
 | some p=>rfl
section
variable {P:Program} [IsP P] {G:World->Prop} {g:FuncId} {fn:Func} {args:List AV} {r:RV}
theorem cO (hf:P.funcs[g]? =some fn) (h:awp P G (mC (C0 P fn)) (fun e S=>∃ S',WeakG G S S'/\(e=.normal∨e=.ret)/\RetOK [] (rC (C0 P fn)) S' r) ⟨Am (tmL 0 args),Aj [],1⟩) (hfol:P.follows .mixedOrders=true:=by kernel_rfl) (hc:(C0 P fn).isSome=true:=by kernel_rfl) (hn:Nat.ble args.length fn.ntmps=true:=by kernel_rfl):Dr P G g args r :=
 Adc hfol hf (Bt hc) rfl (Nat.le_of_ble_eq_true hn) rfl h
theorem cZ (hf:P.funcs[g]? =some fn) (h:∀ (n:Nat) (R:Nat->Prop),(∀ b,n<=b->R b)->awp P (GN G n) (mC (C0 P fn)) (fun e S=>∃ S',WeakG (GN G n) S S'/\(e=.normal∨e=.ret)/\Aqa R true (rC (C0 P fn)) S' r) ⟨Am (tmL 0 args),Aj [],1⟩) (hfol:P.follows .mixedOrders=true:=by kernel_rfl) (hc:(C0 P fn).isSome=true:=by kernel_rfl) (hn:Nat.ble args.length fn.ntmps=true:=by kernel_rfl):Dr P G g args r :=
 Ar2 hfol hf (Bt hc) rfl (Nat.le_of_ble_eq_true hn) rfl h
end
def gdB (gd:Option (Nat×Bool)) (f:Nat->AV):Bool :=
 match gd with
 | none=>true
 | some (s,b)=>match f s with
  | .bool c=>c==b
  | _=>false
theorem Ut {gd:Option (Nat×Bool)} {f:Nat->AV} (h:gdB gd f=true):S7 gd f:=by
 cases gd with
 | none=>trivial
 | some p =>
  obtain ⟨s,b⟩:=p;simp only [gdB] at h;split at h
  ·rename_i c hc;rw [beq_iff_eq] at h;subst h;exact Aqu hc
  ·cases h
theorem Eu {gd:Option (Nat×Bool)} {f:Nat->AV} {n:Nat} {d:Option Nat} {q:Q} {ob:Oid->Option Ob} {r:Option Rec} (hg:gdB gd f=true) (h:A9 n ⟨d,none,q⟩ f ob=r):A9 n ⟨d,gd,q⟩ f ob=r:=by
 have h1:=Ut hg;cases gd with
 | none=>exact h
 | some p=>exact Axm h1 rfl h
section
variable {P:Program} {G:World->Prop} {g k d:Nat} {gd:Option (Nat×Bool)} {xs:List X} {tl:List (Nat×AV)} {ol:List (Oid×Option Ob)} {bad:List (Nat×Nat)} {ra:List Rec} {da:List (List Oid)} {Kf:List (Nat×AV)->List (Oid×Option Ob)->Prop}
variable {α β:Type} {x:Option α} {K:α->Option β} {r:β} {rv:α->RV} {args:List AV} {fo:Opd} {ys:List Opd} {tys:List (List (Option Ty))} {F:FuncId}
theorem map_some {γ δ:Type} {o:Option γ} {f:γ->δ} {b:δ} (h:o.map f=some b):∃ a,o=some a/\f a=b:=oms.1 h
theorem rcH (h:x.bind K=some r) (hc:∀ {y},x=some y->Dr P G F args (rv y))
  (h3:∀ y,K y=some r->XW P G g (k+1) xs ((d,((rv y).out (Cf ((d,0),g+k)) (ys.map (Opd.ev (Am tl)))).1) :: tl) (((rv y).out (Cf ((d,0),g+k)) (ys.map (Opd.ev (Am tl)))).2.reverseAux ol) Kf)
  (hA:(Nx (gnd (Aj ol) 8) (ys.map (Opd.ev (Am tl)))).map (Qd tys)=some args:=by kernel_rfl) (hb:Da P F=true:=by kernel_rfl) (hfo:fo.ev (Am tl)=.fn F []:=by kernel_rfl)
  (hx:∀ y,Ef ((rv y).out (Cf ((d,0),g+k)) (ys.map (Opd.ev (Am tl)))).2=true:=by intro _;rfl) (hni:∀ y,(rv y).noI=true:=by intro _;rfl) (hgd:gdB gd (Am tl)=true:=by kernel_rfl) (hF:Nat.blt F mtd=true:=by kernel_rfl):XW P G g k (⟨some d,gd,.call fo ys tys⟩ :: xs) tl ol Kf:=by
 obtain ⟨y,hy,hK⟩:=Ah h;obtain ⟨args0,h1,hn⟩:=map_some hA;have hF':F<mtd:=Nat.le_of_ble_eq_true hF;exact O8 (caps:=[]) _ _ _ _ (Ut hgd) h1 (hc hy) hb (h3 y hK) (hfo:=hfo) (hz:=by simp only [Dx,List.map_nil,List.append_nil,List.nil_append,ite_self]) (hn:=hn) (hr:=rfl) (hF:=if_pos hF') (hx:=hx y) (hni:=hni y)
theorem dcH (h:x.bind K=some r) (hc:∀ {y},x=some y->Dr P G F args (rv y))
  (h3:∀ y,K y=some r->XD P G bad g (k+1) xs ((d,((rv y).out (Cf ((d,0),g+k)) (ys.map (Opd.ev (Am tl)))).1) :: tl) (((rv y).out (Cf ((d,0),g+k)) (ys.map (Opd.ev (Am tl)))).2.reverseAux ol) ((1,((rv y).out (Cf ((d,0),g+k)) (ys.map (Opd.ev (Am tl)))).1,((rv y).out (Cf ((d,0),g+k)) (ys.map (Opd.ev (Am tl)))).2) :: ra) ((rdX (Am tl) (Aj ol) ⟨some d,gd,.call fo ys tys⟩) :: da) Kf)
  (hA:(Nx (gnd (only (rdX (Am tl) (Aj ol) ⟨some d,gd,.call fo ys tys⟩) (Aj ol)) 8) (ys.map (Opd.ev (Am tl)))).map (Qd tys)=some args:=by kernel_rfl) (hb:Da P F=true:=by kernel_rfl) (hfo:fo.ev (Am tl)=.fn F []:=by kernel_rfl)
  (hx:∀ y,Ef ((rv y).out (Cf ((d,0),g+k)) (ys.map (Opd.ev (Am tl)))).2=true:=by intro _;rfl) (hni:∀ y,(rv y).noI=true:=by intro _;rfl) (hgd:gdB gd (Am tl)=true:=by kernel_rfl) (hF:Nat.blt F mtd=true:=by kernel_rfl):XD P G bad g k (⟨some d,gd,.call fo ys tys⟩ :: xs) tl ol ra da Kf:=by
 obtain ⟨y,hy,hK⟩:=Ah h;obtain ⟨args0,h1,hn⟩:=map_some hA;have hF':F<mtd:=Nat.le_of_ble_eq_true hF;exact O4 (caps:=[]) _ _ _ _ (Ut hgd) h1 (hc hy) hb (h3 y hK) (hfo:=hfo) (hz:=by simp only [Dx,List.map_nil,List.append_nil,List.nil_append,ite_self]) (hn:=hn) (hr:=rfl) (hF:=if_pos hF') (hx:=hx y) (hni:=hni y)
variable {sz j:Nat} {c e:Opd}
theorem riH (t:Ty) {zs:List t.D} {K:t.D->Option β} (h:(zs[j]?).bind K=some r) (h3:∀ y,zs[j]? =some y->K y=some r->XW P G g (k+1) xs ((d,.telt (c.ev (Am tl)).tag t y 0) :: tl) ol Kf) (hx:(c.ev (Am tl)).un=.tree t zs:=by kernel_rfl) (hi:e.ev (Am tl)=.int .i64 (j:Int):=by kernel_rfl) (hs:sz=t.size:=by rfl) (hgd:gdB gd (Am tl)=true:=by kernel_rfl):XW P G g k (⟨some d,gd,.i (.idx sz c e)⟩ :: xs) tl ol Kf:=by
 obtain ⟨y,hy,hK⟩:=Ah h;exact rs0 _ (Eu hgd (Acz hx hi hs (Int.natCast_nonneg _) rfl hy rfl)) (h3 y hy hK)
theorem diH (t:Ty) {zs:List t.D} {K:t.D->Option β} (h:(zs[j]?).bind K=some r) (h3:∀ y,zs[j]? =some y->K y=some r->XD P G bad g (k+1) xs ((d,.telt (c.ev (Am tl)).tag t y 0) :: tl) ol ((0,.telt (c.ev (Am tl)).tag t y 0,[]) :: ra) ((rdX (Am tl) (Aj ol) ⟨some d,gd,.i (.idx sz c e)⟩) :: da) Kf) (hx:(c.ev (Am tl)).un=.tree t zs:=by kernel_rfl) (hi:e.ev (Am tl)=.int .i64 (j:Int):=by kernel_rfl) (hs:sz=t.size:=by rfl) (hgd:gdB gd (Am tl)=true:=by kernel_rfl):XD P G bad g k (⟨some d,gd,.i (.idx sz c e)⟩ :: xs) tl ol ra da Kf:=by
 obtain ⟨y,hy,hK⟩:=Ah h;exact ds0 _ (Eu hgd (Acz hx hi hs (Int.natCast_nonneg _) rfl hy rfl)) (h3 y hy hK)
theorem riE (t:Ty) {zs:List t.D} {y:t.D} (hy:zs[j]? =some y) (h3:XW P G g (k+1) xs ((d,.telt (c.ev (Am tl)).tag t y 0) :: tl) ol Kf) (hx:(c.ev (Am tl)).un=.tree t zs:=by kernel_rfl) (hi:e.ev (Am tl)=.int .i64 (j:Int):=by kernel_rfl) (hs:sz=t.size:=by rfl) (hgd:gdB gd (Am tl)=true:=by kernel_rfl):XW P G g k (⟨some d,gd,.i (.idx sz c e)⟩ :: xs) tl ol Kf :=
 rs0 _ (Eu hgd (Acz hx hi hs (Int.natCast_nonneg _) rfl hy rfl)) h3
theorem diE (t:Ty) {zs:List t.D} {y:t.D} (hy:zs[j]? =some y) (h3:XD P G bad g (k+1) xs ((d,.telt (c.ev (Am tl)).tag t y 0) :: tl) ol ((0,.telt (c.ev (Am tl)).tag t y 0,[]) :: ra) ((rdX (Am tl) (Aj ol) ⟨some d,gd,.i (.idx sz c e)⟩) :: da) Kf) (hx:(c.ev (Am tl)).un=.tree t zs:=by kernel_rfl) (hi:e.ev (Am tl)=.int .i64 (j:Int):=by kernel_rfl) (hs:sz=t.size:=by rfl) (hgd:gdB gd (Am tl)=true:=by kernel_rfl):XD P G bad g k (⟨some d,gd,.i (.idx sz c e)⟩ :: xs) tl ol ra da Kf :=
 ds0 _ (Eu hgd (Acz hx hi hs (Int.natCast_nonneg _) rfl hy rfl)) h3
theorem raH {M:Option β} (h:og (j+1<4611686018427387904) M=some r) (h3:M=some r->XW P G g (k+1) xs ((d,.int .i64 ((j+1:Nat):Int)) :: tl) ol Kf) (hx:c.ev (Am tl)=.int .i64 (j:Int):=by kernel_rfl) (hy:e.ev (Am tl)=.int .i64 1:=by kernel_rfl) (hgd:gdB gd (Am tl)=true:=by kernel_rfl):XW P G g k (⟨some d,gd,.i (.bin .add c e)⟩ :: xs) tl ol Kf:=by
 obtain ⟨hg,hK⟩:=Ak h;exact rs0 _ (Eu hgd (Aqd hx hy hg)) (h3 hK)
variable {t:Bool} {A B:Option β}
theorem kQ {y z:AC} {R:AE->St->Prop} {S:St} (h:cond t A B=some r) (h1:t=true->A=some r->awp P G y R S) (h2:t=false->B=some r->awp P G z R S) (hc:c.ev S.tm=.bool t:=by kernel_rfl):awp P G (.cond c y z) R S:=by
 rcases A0 h with ⟨q,h⟩|⟨q,h⟩
 ·exact Ajm q (h1 q h) hc
 ·exact Akr q (h2 q h) hc
theorem kR (h:cond t A B=some r) (s:Nat) (h1:t=true->A=some r->XW P G g k xs ((s,.bool true) :: tl) ol Kf) (h2:t=false->B=some r->XW P G g k xs ((s,.bool false) :: tl) ol Kf) (hd:Am tl s=.bool t:=by kernel_rfl):XW P G g k xs tl ol Kf:=by
 rcases A0 h with ⟨q,h⟩|⟨q,h⟩
 ·exact rq s q (h1 q h) hd
 ·exact rq s q (h2 q h) hd
theorem kD (h:cond t A B=some r) (s:Nat) (h1:t=true->A=some r->XD P G bad g k xs ((s,.bool true) :: tl) ol ra da Kf) (h2:t=false->B=some r->XD P G bad g k xs ((s,.bool false) :: tl) ol ra da Kf) (hd:Am tl s=.bool t:=by kernel_rfl):XD P G bad g k xs tl ol ra da Kf:=by
 rcases A0 h with ⟨q,h⟩|⟨q,h⟩
 ·exact dq s q (h1 q h) hd
 ·exact dq s q (h2 q h) hd
end
section
variable {G:World->Prop} {α β:Type} {a r:α}
theorem jO {k:α->Option β} {x v:β} {c:Ctl α β} (h:some (Ctl.out x)=some c) (hn:Ctl.then k c=some v):some x=some v:=by
 cases h;exact hn
variable {tl0 tl:List (Nat×AV)} {ol0:List (Oid×Option Ob)} {ol:List (Oid×Ob)} {g0 g:Nat} {l:List (Oid×Oid)} {T:Prop}
def Lr (_l:List (Oid×Oid)) (T:Prop):Prop:=T
theorem jE0 (h1:(tl.map fun p=>Am tl0 p.1)=tl.map fun p=>p.2.ren (Bc l):=by kernel_rfl) (h2:Wj ol0 (Bc l) ol:=by exact Wf (by kernel_rfl)) (h3:Asd l tl ol g=true:=by kernel_rfl):Lr l (WeakG G ⟨Am tl0,Aj ol0,g0⟩ ⟨Am tl,Aj (B8 ol),g⟩):=Ag l h1 h2 h3
theorem jE (l:List (Oid×Oid)) (k:Lr l T:=by cases h;exact jE0):T:=k
theorem jC0 {F:α->St} (j:⟨Am tl,Aj (B8 ol),g⟩=F a:=by exact rfl) (h1:(tl.map fun p=>Am tl0 p.1)=tl.map fun p=>p.2.ren (Bc l):=by kernel_rfl) (h2:Wj ol0 (Bc l) ol:=by exact Wf (by kernel_rfl)) (h3:Asd l tl ol g=true:=by kernel_rfl):Lr l (∃ t,(Ctl.next a:Ctl α β)=.next t/\WeakG G ⟨Am tl0,Aj ol0,g0⟩ (F t)):=⟨_,rfl,j▸Ag l h1 h2 h3⟩
theorem jC (l:List (Oid×Oid)) (k:Lr l T:=by cases h;exact jC0):T:=k
theorem jL0 {F:α->St} {k:α->Option β} {v:β} (hn:Ctl.then k (Ctl.next a)=some v) (j:⟨Am tl,Aj (B8 ol),g⟩=F a:=by exact rfl) (h1:(tl.map fun p=>Am tl0 p.1)=tl.map fun p=>p.2.ren (Bc l):=by kernel_rfl) (h2:Wj ol0 (Bc l) ol:=by exact Wf (by kernel_rfl)) (h3:Asd l tl ol g=true:=by kernel_rfl):Lr l (∃ t,WeakG G ⟨Am tl0,Aj ol0,g0⟩ (F t)/\k t=some v):=⟨_,j▸Ag l h1 h2 h3,hn⟩
theorem jL (l:List (Oid×Oid)) (k:Lr l T:=by cases h;exact jL0 (by assumption)):T:=k
theorem jLw {S:St} {F:α->St} {k:α->Option β} {v:β} (hn:Ctl.then k (Ctl.next a)=some v) (w:WeakG G S (F a)):∃ t,WeakG G S (F t)/\k t=some v:=⟨_,w,hn⟩
def scL:List RL->List AV
 | []=>[]
 | .sc c :: r=>c :: scL r
 | _ :: r=>.any :: scL r
def scP:List (Bool×List RL)->List AV
 | []=>[]
 | (b,ls) :: r=>(if b then .agg (scL ls) else (scL ls).headD .any) :: scP r
def AV.sc1:AV->Bool
 | .int .. | .bool .. | .str .. | .nils | .err ..=>true
 | _=>false
def Apj:List RL->Bool
 | []=>true
 | .sc c :: r=>c.sc1&&Apj r
 | _ :: _=>false
def scB:List (Bool×List RL)->Bool
 | []=>true
 | (b,ls) :: r=>(Apj ls&&(b||ls.length==1))&&scB r
theorem Aen {ob:Oid->Option Ob} {c:AV} (h:c.sc1=true):R6 ob c=some (.sc c):=by
 cases c <;> first|rfl|cases h
theorem Abg {vs:List Value} {ob:Oid->Option Ob}:∀ {ls:List RL},Apj ls=true->LeavesR vs ob (scL ls) ls
 | [],_=>rfl
 | .sc c :: r,h=>by
  simp only [Apj,Bool.and_eq_true] at h;exact ⟨_,_,rfl,Aro (Aen h.1),Abg h.2⟩
 | .new .. :: _,h=>by cases h
 | .newM .. :: _,h=>by cases h
 | .arg .. :: _,h=>by cases h
 | .argS .. :: _,h=>by cases h
 | .frz _ :: _,h=>by cases h
 | .imm _ :: _,h=>by cases h
theorem Wo {vs:List Value} {ob:Oid->Option Ob}:∀ {ps:List (Bool×List RL)},scB ps=true->PartsR vs ob (scP ps) ps
 | [],_=>rfl
 | (b,ls) :: r,h=>by
  simp only [scB,Bool.and_eq_true,Bool.or_eq_true,beq_iff_eq] at h;obtain ⟨⟨h1,h2⟩,h3⟩:=h;cases b with
  | true=>exact Ta (Abg h1) (Wo h3)
  | false =>
   have h2:=h2.resolve_left (by decide)
   match ls,h1,h2 with
   | [.sc c],h1,_ =>
    simp only [Apj,Bool.and_eq_true] at h1;have h1:c.sc1=true:=h1.1;refine F1 ?_ (Aro (Aen h1)) (Wo h3);show c.one=true;cases c <;> first|rfl|cases h1
   | [.new ..],h1,_=>cases h1
   | [.newM ..],h1,_=>cases h1
   | [.arg ..],h1,_=>cases h1
   | [.argS ..],h1,_=>cases h1
   | [.frz _],h1,_=>cases h1
   | [.imm _],h1,_=>cases h1
theorem jR {rs:List Res} {f:Nat->AV} {ob:Oid->Option Ob} {g:Nat} {rv:α->RV} {vs:List Value} {e:AE} (h:some a=some r) (avs:List AV) (h2:PartsR vs ob avs (rv a).ps) (he:e=.normal∨e=.ret:=by simp) (h1:Res.evL f ob rs=some avs:=by kernel_rfl) (h3:ndB (Ys ob (R5 avs))=true:=by kernel_rfl) (h4:(rv a).tup=decide (rs.length≠1):=by kernel_rfl):∃ S',WeakG G ⟨f,ob,g⟩ S'/\(e=.normal∨e=.ret)/\RetOK vs rs S' (rv r):=by
 cases h;exact Awz avs h2 he h1 h3 h4
theorem jZ {R:Nat->Prop} {z:Bool} {rs:List Res} {f:Nat->AV} {ob:Oid->Option Ob} {g:Nat} {rv:α->RV} {e:AE} (h:some a=some r) (gs:List (Bool×List AV)) (h2:Pr R z ob gs (rv a).ps) (he:e=.normal∨e=.ret:=by simp) (h1:Res.evL f ob rs=some (Ap9 gs):=by kernel_rfl) (h4:(rv a).tup=decide (rs.length≠1):=by kernel_rfl):∃ S',WeakG G ⟨f,ob,g⟩ S'/\(e=.normal∨e=.ret)/\Aqa R z rs S' (rv r):=by
 cases h;exact Axe gs h2 he h1 h4
theorem jS {rs:List Res} {f:Nat->AV} {ob:Oid->Option Ob} {g:Nat} {rv:α->RV} {vs:List Value} {e:AE} (h:some a=some r) (he:e=.normal∨e=.ret:=by simp) (h1:Res.evL f ob rs=some (scP (rv a).ps):=by kernel_rfl) (h2:scB (rv a).ps=true:=by kernel_rfl) (h3:ndB (Ys ob (R5 (scP (rv a).ps)))=true:=by kernel_rfl) (h4:(rv a).tup=decide (rs.length≠1):=by kernel_rfl):∃ S',WeakG G ⟨f,ob,g⟩ S'/\(e=.normal∨e=.ret)/\RetOK vs rs S' (rv r):=by
 cases h;exact Awz _ (Wo h2) he h1 h3 h4
end
abbrev sT (tl:List (Nat×AV)) (ol:List (Oid×Ob)):St:=⟨Am tl,Aj (B8 ol),2⟩
section
variable {P:Program} {G:World->Prop} {σ τ β ρ:Type} {x y:AC} {R:AE->St->Prop} {S:St}
theorem sqF {A:Option τ} {k:τ->Option β} {r:β} (h:A.bind k=some r) (F:τ->St) (h1:∀ t,A=some t->awp P G x (Hx (fun S'=>WeakG G S' (F t)) R) S) (h2:∀ t,k t=some r->awp P G y R (F t)):awp P G (.seq x y) R S:=by
 refine Aoy h (fun t S''=>S''=F t) (fun t ht=>Dg (fun e S' hq=>?_) (h1 t ht)) fun t S'' e hk=>e▸h2 t hk
 cases e with
 | normal=>exact ⟨_,hq,rfl⟩
 | exit id=>exact hq
 | ret=>exact hq
theorem sqC {A:Option (Ctl τ β)} {k:τ->Option β} {r:β} (h:Dn A k=some r) (F:τ->St) (h1:∀ v,A=some v->Ctl.then k v=some r->awp P G x (Hx (fun S'=>∃ t,v=.next t/\WeakG G S' (F t)) R) S) (h2:∀ t,k t=some r->awp P G y R (F t)):awp P G (.seq x y) R S:=by
 refine Aqy h (fun t S''=>S''=F t) (fun v hv hk=>Dg (fun e S' hq=>?_) (h1 v hv hk)) fun t S'' e hk=>e▸h2 t hk
 cases e with
 | normal=>obtain ⟨t,ht,hw⟩:=hq;exact ⟨t,_,ht,hw,rfl⟩
 | exit id=>exact hq
 | ret=>exact hq
theorem lpF {body:σ->Option (Ctl σ ρ)} {fuel:Nat} {s0:σ} {v:ρ} (h:Aq body fuel s0=some v) (F:σ->St) (w:WeakG G S (F s0))
  (h1:∀ n s c,body s=some c->Ctl.then (Aq body n) c=some v->awp P G x (Hx (fun S2=>∃ s',WeakG G S2 (F s')/\Aq body n s'=some v) R) (F s)):awp P G (.loop x) R S:=by
 refine Ani h (fun s S=>S=F s) ⟨_,w,rfl⟩ fun n s S1 c e hc hn=>e▸Dg (fun e S2 hq=>?_) (h1 n s c hc hn)
 cases e with
 | normal=>obtain ⟨s',hw,hl⟩:=hq;exact ⟨s',_,hw,rfl,hl⟩
 | exit id=>exact hq
 | ret=>exact hq
end
theorem skW {P:Program} {G:World->Prop} {R:AE->St->Prop} {S:St} {K:St->Prop} (h:K S):awp P G .skip (Hx (fun S'=>∃ S'',WeakG G S' S''/\K S'') R) S:=Ay (tn_ (wr_ h))
theorem rnW {P:Program} {G:World->Prop} {R:AE->St->Prop} {g k g':Nat} {tl:List (Nat×AV)} {ol:List (Oid×Option Ob)} {K:St->Prop} (h:K ⟨Am tl,Aj ol,g'⟩):XW P G g k [] tl ol (fun tl' ol'=>Hx (fun S'=>∃ S'',WeakG G S' S''/\K S'') R .normal ⟨Am tl',Aj ol',g'⟩):=Ap (tn_ (wr_ h))
theorem lxT {P:Program} {G:World->Prop} {R:AE->St->Prop} {S:St} {i:Nat} {K K1 K2:St->Prop} (h:K S):awp P G (.exit i) (Hx K1 (Hx K2 (Lh i (Hx K R)))) S:=D2 (te_ (te_ (be_ (tn_ h))))
def AV.setL (m:Nat):AV->AV
 | .own i t o _=>.own i t o m
 | v=>v
theorem wL {G:World->Prop} {tl:List (Nat×AV)} {ol:List (Oid×Option Ob)} {g:Nat} (s:Nat) {n m:Nat} (h:n=m) (hs:Am tl s=(Am tl s).setL n:=by kernel_rfl):WeakG G ⟨Am tl,Aj ol,g⟩ ⟨Am ((s,(Am tl s).setL m) :: tl),Aj ol,g⟩ :=
 Acq s (Am tl s) _ rfl (by rw [← h];exact hs)
section
variable {P:Program} {G:World->Prop} {g k d:Nat} {gd:Option (Nat×Bool)} {xs:List X} {tl:List (Nat×AV)} {ol:List (Oid×Option Ob)} {bad:List (Nat×Nat)} {ra:List Rec} {da:List (List Oid)} {Kf:List (Nat×AV)->List (Oid×Option Ob)->Prop}
variable {α β:Type} {x:Option α} {K:α->Option β} {r:β} {args:List AV} {fo:Opd} {ys:List Opd} {tys:List (List (Option Ty))} {F:FuncId}
theorem rcG {rv:α->RV} (h:x.bind K=some r) (zs:List AV) (hc:∀ {y},x=some y->Dr P G F args (rv y)) (h1:Nx (gnd (Aj ol) 8) zs=some args)
  (h3:∀ y,K y=some r->XW P G g (k+1) xs ((d,((rv y).out (Cf ((d,0),g+k)) zs).1) :: tl) (((rv y).out (Cf ((d,0),g+k)) zs).2.reverseAux ol) Kf)
  (hz:ys.map (Opd.ev (Am tl))=zs:=by kernel_rfl) (hn:Qd tys args=args:=by kernel_rfl) (hb:Da P F=true:=by kernel_rfl) (hfo:fo.ev (Am tl)=.fn F []:=by kernel_rfl)
  (hx:∀ y,Ef ((rv y).out (Cf ((d,0),g+k)) zs).2=true:=by intro _;rfl) (hni:∀ y,(rv y).noI=true:=by intro _;rfl) (hgd:gdB gd (Am tl)=true:=by kernel_rfl) (hF:Nat.blt F mtd=true:=by kernel_rfl):XW P G g k (⟨some d,gd,.call fo ys tys⟩ :: xs) tl ol Kf:=by
 obtain ⟨y,hy,hK⟩:=Ah h;have hF':F<mtd:=Nat.le_of_ble_eq_true hF;subst hz;exact O8 (caps:=[]) _ _ _ _ (Ut hgd) h1 (hc hy) hb (h3 y hK) (hfo:=hfo) (hz:=by simp only [Dx,List.map_nil,List.append_nil,List.nil_append,ite_self]) (hn:=hn) (hr:=rfl) (hF:=if_pos hF') (hx:=hx y) (hni:=hni y)
theorem dcG {rv:α->RV} (h:x.bind K=some r) (zs:List AV) (hc:∀ {y},x=some y->Dr P G F args (rv y)) (h1:Nx (gnd (only (rdX (Am tl) (Aj ol) ⟨some d,gd,.call fo ys tys⟩) (Aj ol)) 8) zs=some args)
  (h3:∀ y,K y=some r->XD P G bad g (k+1) xs ((d,((rv y).out (Cf ((d,0),g+k)) zs).1) :: tl) (((rv y).out (Cf ((d,0),g+k)) zs).2.reverseAux ol) ((1,((rv y).out (Cf ((d,0),g+k)) zs).1,((rv y).out (Cf ((d,0),g+k)) zs).2) :: ra) ((rdX (Am tl) (Aj ol) ⟨some d,gd,.call fo ys tys⟩) :: da) Kf)
  (hz:ys.map (Opd.ev (Am tl))=zs:=by kernel_rfl) (hn:Qd tys args=args:=by kernel_rfl) (hb:Da P F=true:=by kernel_rfl) (hfo:fo.ev (Am tl)=.fn F []:=by kernel_rfl)
  (hx:∀ y,Ef ((rv y).out (Cf ((d,0),g+k)) zs).2=true:=by intro _;rfl) (hni:∀ y,(rv y).noI=true:=by intro _;rfl) (hgd:gdB gd (Am tl)=true:=by kernel_rfl) (hF:Nat.blt F mtd=true:=by kernel_rfl):XD P G bad g k (⟨some d,gd,.call fo ys tys⟩ :: xs) tl ol ra da Kf:=by
 obtain ⟨y,hy,hK⟩:=Ah h;have hF':F<mtd:=Nat.le_of_ble_eq_true hF;subst hz;exact O4 (caps:=[]) _ _ _ _ (Ut hgd) h1 (hc hy) hb (h3 y hK) (hfo:=hfo) (hz:=by simp only [Dx,List.map_nil,List.append_nil,List.nil_append,ite_self]) (hn:=hn) (hr:=rfl) (hF:=if_pos hF') (hx:=hx y) (hni:=hni y)
variable {ol0:List (Oid×Ob)} {v0:α->AV} {us:α->List (Oid×Ob)}
theorem rcM (h:x.bind K=some r) (l:List (Oid×Oid)) (zs:List AV) (hc:∀ {y},x=some y->Cm P G F args ol0 (v0 y) (us y)) (hR:Wj ol (Bc l) ol0) (h1:Qe (Bc l) (V9 ((nmL ol0).map (Bc l)) (Aj ol)) zs args) (h4:∀ j∈nmL ol0,Reached zs (Aj ol) (Bc l j))
  (h3:∀ y,K y=some r->XW P G g (k+1) xs ((d,(v0 y).ren (Bo (Bc l) ((d,0),g+k))) :: tl) ((B8 (Oz (Bo (Bc l) ((d,0),g+k)) (us y))++Lp (Bc l) ol0)++ol) Kf)
  (hz:ys.map (Opd.ev (Am tl))=zs:=by kernel_rfl) (hB:∀ y,V7 l ol0 (us y) (g+k) ol=true:=by intro _;kernel_rfl) (hb:Da P F=true:=by kernel_rfl) (hfo:fo.ev (Am tl)=.fn F []:=by kernel_rfl) (hgd:gdB gd (Am tl)=true:=by kernel_rfl) (hF:Nat.blt F mtd=true:=by kernel_rfl):XW P G g k (⟨some d,gd,.call fo ys tys⟩ :: xs) tl ol Kf:=by
 obtain ⟨y,hy,hK⟩:=Ah h;exact Ku (caps:=[]) _ _ l zs (Ut hgd) (hc hy) hb hR h1 h4 (h3 y hK) (hfo:=hfo) (hz:=by rw [List.map_nil,List.append_nil];exact hz) (hB:=hB y) (hF:=Nat.le_of_ble_eq_true hF) (hv:=rfl) (hu:=rfl)
theorem dcM (h:x.bind K=some r) (l:List (Oid×Oid)) (zs:List AV) (hc:∀ {y},x=some y->Cm P G F args ol0 (v0 y) (us y)) (hR:Wj ol (Bc l) ol0) (h1:Qe (Bc l) (V9 ((nmL ol0).map (Bc l)) (only (rdX (Am tl) (Aj ol) ⟨some d,gd,.call fo ys tys⟩) (Aj ol))) zs args) (h4:∀ j∈nmL ol0,Reached zs (only (rdX (Am tl) (Aj ol) ⟨some d,gd,.call fo ys tys⟩) (Aj ol)) (Bc l j)) (hd:∀ q∈exL ol0,Bc l q.1∈rdX (Am tl) (Aj ol) ⟨some d,gd,.call fo ys tys⟩)
  (h3:∀ y,K y=some r->XD P G bad g (k+1) xs ((d,(v0 y).ren (Bo (Bc l) ((d,0),g+k))) :: tl) ((B8 (Oz (Bo (Bc l) ((d,0),g+k)) (us y))++Lp (Bc l) ol0)++ol) ((2,(v0 y).ren (Bo (Bc l) ((d,0),g+k)),Hq (Bc l) ((d,0),g+k) ol0 (us y)) :: ra) ((rdX (Am tl) (Aj ol) ⟨some d,gd,.call fo ys tys⟩) :: da) Kf)
  (hz:ys.map (Opd.ev (Am tl))=zs:=by kernel_rfl) (hB:∀ y,V7 l ol0 (us y) (g+k) ol=true:=by intro _;kernel_rfl) (hb:Da P F=true:=by kernel_rfl) (hfo:fo.ev (Am tl)=.fn F []:=by kernel_rfl) (hgd:gdB gd (Am tl)=true:=by kernel_rfl) (hF:Nat.blt F mtd=true:=by kernel_rfl):XD P G bad g k (⟨some d,gd,.call fo ys tys⟩ :: xs) tl ol ra da Kf:=by
 obtain ⟨y,hy,hK⟩:=Ah h;exact Aku (caps:=[]) _ _ l zs (Ut hgd) (hc hy) hb hR h1 h4 hd (h3 y hK) (hfo:=hfo) (hz:=by rw [List.map_nil,List.append_nil];exact hz) (hB:=hB y) (hF:=Nat.le_of_ble_eq_true hF) (hv:=rfl) (hu:=rfl)
theorem aR {θ:Oid->Oid} {ob:Oid->Option Ob}:∀ {zs args:List AV},zs=args.map (AV.ren θ)->Qe θ ob zs args
 | _,[],h=>by subst h;exact .nil
 | _,_ :: _,h=>by subst h;exact .cons (.ren rfl) (aR rfl)
end
end Go.Proofs.YthlpchhhinipaaaGreatDoor
namespace Go.Proofs.YthlpchhhinipaaaGreatDoor
open Go.RowKit Go.Deep
abbrev sI:Ty:=.slice .int
abbrev Y0:Ty:=.slice sI
abbrev Y1:Ty:=.slice .int
abbrev Y2:Ty:=.pair sI sI
abbrev Y3:Ty:=.pair .int .int
abbrev Y4:Ty:=.pair .int .str
abbrev Y5:Ty:=.pair .int Y0
abbrev Y6:Ty:=.pair .int Y2
abbrev Y8:Ty:=.pair .int Y4
abbrev Y9:Ty:=.pair .int Y5
abbrev Ya:Ty:=.slice Y8
abbrev Yb:Ty:=.pair .int Y6
abbrev Yc:Ty:=.pair .int Ya
abbrev Yd:Ty:=.pair .int Yc
abbrev Ye:Ty:=.pair .str Yd
section
variable {P:Program} {G:World->Prop} {g k d:Nat} {gd:Option (Nat×Bool)} {q:Q} {xs:List X} {tl:List (Nat×AV)} {ol:List (Oid×Option Ob)} {bad:List (Nat×Nat)} {ra:List Rec} {da:List (List Oid)} {Kf:List (Nat×AV)->List (Oid×Option Ob)->Prop}
theorem dz0 (v:AV) (h3:XD P G bad g (k+1) xs ((d,v) :: tl) ol ((0,v,[]) :: ra) ((rdX (Am tl) (Aj ol) ⟨some d,gd,q⟩) :: da) Kf) (h:A9 (g+k) ⟨some d,gd,q⟩ (Am tl) (only (rdX (Am tl) (Aj ol) ⟨some d,gd,q⟩) (Aj ol))=some (0,v,[]):=by kernel_rfl):XD P G bad g k (⟨some d,gd,q⟩ :: xs) tl ol ra da Kf:=ds0 v h h3
theorem dzl (v:AV) (h3:XD P G bad g (k+1) xs ((d,v) :: tl) ol ((1,v,[]) :: ra) ((rdX (Am tl) (Aj ol) ⟨some d,gd,q⟩) :: da) Kf) (h:A9 (g+k) ⟨some d,gd,q⟩ (Am tl) (only (rdX (Am tl) (Aj ol) ⟨some d,gd,q⟩) (Aj ol))=some (1,v,[]):=by kernel_rfl):XD P G bad g k (⟨some d,gd,q⟩ :: xs) tl ol ra da Kf:=dsl v h h3
theorem zc {fo:Opd} {ys:List Opd} {tys:List (List (Option Ty))} {F:FuncId} {rv:RV} {args:List AV} (v:AV) (us:List (Oid×Option Ob)) (zs:List AV) (hc:Dr P G F args rv) (h3:XW P G g (k+1) xs ((d,v) :: tl) (us.reverseAux ol) Kf) (h1:Nx (gnd (Aj ol) 8) zs=some zs:=by kernel_rfl) (hb:Da P F=true:=by kernel_rfl) (hfo:fo.ev (Am tl)=.fn F []:=by kernel_rfl) (hz:ys.map (Opd.ev (Am tl))=zs:=by kernel_rfl) (hn:Qd tys zs=args:=by kernel_rfl) (hr:rv.out (Cf ((d,0),g+k)) zs=(v,us):=by kernel_rfl) (hx:Ef us=true:=by rfl) (hni:rv.noI=true:=by kernel_rfl) (hF:Nat.blt F mtd=true:=by kernel_rfl):XW P G g k (⟨some d,none,.call fo ys tys⟩ :: xs) tl ol Kf:=O8 (caps:=[]) (args0:=zs) v us zs args trivial h1 hc hb h3 (hfo:=hfo) (hz:=by simpa only [Dx,List.map_nil,List.append_nil,List.nil_append,ite_self] using hz) (hn:=hn) (hr:=hr) (hF:=if_pos (Nat.le_of_ble_eq_true hF)) (hx:=hx) (hni:=hni)
end
theorem kr {p:Prop} (h:p:=by kernel_rfl):p:=h
abbrev LL:=List (List Int)
abbrev an (n:Nat):AV:=.int .i64 n
abbrev tI (x:List Int):AV:=.tree .int x
abbrev tS (x:List (List Int)):AV:=.tree Y1 x
abbrev oI (a b n:Nat):AV:=.own (oi a b) .int 0 n
abbrev oS (a b n:Nat):AV:=.own (oi a b) Y1 0 n
abbrev nI (a b:Nat) (x:List Int):Oid×Option Ob:=(oi a b,some (.arr 3 .int x))
abbrev xm (d s:Nat):X:=⟨some d,none,.i (.mov (.tmp s))⟩
abbrev xl (d s:Nat):X:=⟨some d,none,.i (.ld true 1 (.tmp s))⟩
abbrev xf (d k s:Nat):X:=⟨some d,none,.i (.fld k (.tmp s))⟩
abbrev xx (d z a b:Nat):X:=⟨some d,none,.i (.idx z (.tmp a) (.tmp b))⟩
abbrev xn1 (d s:Nat):X:=⟨some d,none,.i (.len (.tmp s))⟩
abbrev xa (d s:Nat):X:=⟨some d,none,.i (.bin .add (.tmp s) (.cst (.int .i64 1)))⟩
abbrev xs1 (d a b:Nat):X:=⟨some d,none,.i (.bin .lss (.tmp a) (.tmp b))⟩
section
variable {P:Program} {G:World->Prop} {g k d:Nat} {gd:Option (Nat×Bool)} {q:Q} {xs:List X} {tl:List (Nat×AV)} {ol:List (Oid×Option Ob)} {bad:List (Nat×Nat)} {ra:List Rec} {da:List (List Oid)} {Kf:List (Nat×AV)->List (Oid×Option Ob)->Prop}
theorem zO {sz:Nat} {x i:Opd} (o:Oid) (t:Ty) (len:Nat) {j:Nat} (hl:j<len) (h3:XW P G g (k+1) xs ((d,.elt o j 0) :: tl) ol Kf) (hx:x.ev (Am tl)=.own o t 0 len:=by kernel_rfl) (hi:i.ev (Am tl)=.int .i64 (j:Int):=by kernel_rfl) (hs:sz=t.size:=by rfl) (hgd:gdB gd (Am tl)=true:=by kernel_rfl):XW P G g k (⟨some d,gd,.i (.idx sz x i)⟩ :: xs) tl ol Kf:=rs0 _ (Eu hgd (Acn hx hi hs (Int.natCast_nonneg _) rfl hl)) h3
theorem dzO {sz:Nat} {x i:Opd} (o:Oid) (t:Ty) (len:Nat) {j:Nat} (hl:j<len) (h3:XD P G bad g (k+1) xs ((d,.elt o j 0) :: tl) ol ((0,.elt o j 0,[]) :: ra) ((rdX (Am tl) (Aj ol) ⟨some d,gd,.i (.idx sz x i)⟩) :: da) Kf) (hx:x.ev (Am tl)=.own o t 0 len:=by kernel_rfl) (hi:i.ev (Am tl)=.int .i64 (j:Int):=by kernel_rfl) (hs:sz=t.size:=by rfl) (hgd:gdB gd (Am tl)=true:=by kernel_rfl):XD P G bad g k (⟨some d,gd,.i (.idx sz x i)⟩ :: xs) tl ol ra da Kf:=ds0 _ (Eu hgd (Acn hx hi hs (Int.natCast_nonneg _) rfl hl)) h3
theorem zE {x:Opd} (i:Oid) {ws:List Int} {j:Nat} {z:Int} (hz:ws[j]? =some z) (h3:XW P G g (k+1) xs ((d,.int .i64 z) :: tl) ol Kf) (hx:x.ev (Am tl)=.elt i j 0:=by kernel_rfl) (hob:Aj ol i=some (.arr 3 .int ws):=by kernel_rfl) (hgd:gdB gd (Am tl)=true:=by kernel_rfl):XW P G g k (⟨some d,gd,.i (.ld true 1 x)⟩ :: xs) tl ol Kf:=rsl _ (Eu hgd (Hw (k:=0) (t:=.int) hx hob hz rfl)) h3
theorem dzE {x:Opd} (i:Oid) {ws:List Int} {j:Nat} {z:Int} (hz:ws[j]? =some z) (h3:XD P G bad g (k+1) xs ((d,.int .i64 z) :: tl) ol ((1,.int .i64 z,[]) :: ra) ((rdX (Am tl) (Aj ol) ⟨some d,gd,.i (.ld true 1 x)⟩) :: da) Kf) (hx:x.ev (Am tl)=.elt i j 0:=by kernel_rfl) (hob:only (rdX (Am tl) (Aj ol) ⟨some d,gd,.i (.ld true 1 x)⟩) (Aj ol) i=some (.arr 3 .int ws):=by kernel_rfl) (hgd:gdB gd (Am tl)=true:=by kernel_rfl):XD P G bad g k (⟨some d,gd,.i (.ld true 1 x)⟩ :: xs) tl ol ra da Kf:=dsl _ (Eu hgd (Hw (k:=0) (t:=.int) hx hob hz rfl)) h3
theorem zS {x y:Opd} (i:Oid) {ws:List Int} {j:Nat} {z:Int} (z1:Int) (hz:ws[j]? =some z) (h3:XW P G g (k+1) xs tl ((i,some (.arr 3 .int (ws.set j z1))) :: (i,none) :: ol) Kf) (hx:x.ev (Am tl)=.elt i j 0:=by kernel_rfl) (hob:Aj ol i=some (.arr 3 .int ws):=by kernel_rfl) (hy:y.ev (Am tl)=.int .i64 z1:=by kernel_rfl) (hgd:gdB gd (Am tl)=true:=by kernel_rfl):XW P G g k (⟨none,gd,.st true 1 x y⟩ :: xs) tl ol Kf:=Aft _ _ _ (Eu hgd (Vj (k:=0) (t:=.int) (cs:=[.int .i64 z1]) (x1:=z1) hx hob hz (by rw [hy];rfl) rfl)) h3
theorem dzS {x y:Opd} (i:Oid) {ws:List Int} {j:Nat} {z:Int} (z1:Int) (hz:ws[j]? =some z) (h3:XD P G bad g (k+1) xs tl ((i,some (.arr 3 .int (ws.set j z1))) :: (i,none) :: ol) ((2,.any,[(i,none),(i,some (.arr 3 .int (ws.set j z1)))]) :: ra) ((rdX (Am tl) (Aj ol) ⟨none,gd,.st true 1 x y⟩) :: da) Kf) (hx:x.ev (Am tl)=.elt i j 0:=by kernel_rfl) (hob:only (rdX (Am tl) (Aj ol) ⟨none,gd,.st true 1 x y⟩) (Aj ol) i=some (.arr 3 .int ws):=by kernel_rfl) (hy:y.ev (Am tl)=.int .i64 z1:=by kernel_rfl) (hgd:gdB gd (Am tl)=true:=by kernel_rfl):XD P G bad g k (⟨none,gd,.st true 1 x y⟩ :: xs) tl ol ra da Kf:=M9 _ _ _ (Eu hgd (Vj (k:=0) (t:=.int) (cs:=[.int .i64 z1]) (x1:=z1) hx hob hz (by rw [hy];rfl) rfl)) h3
theorem zB {x y:Opd} {by_:Nat} (j q:Oid) (ws:List Int) (z:Int) (h:ws.length+1<=1073741824/\(ws.length+1)*by_<=140737488355328) (h3:XW P G g (k+1) xs ((d,.own (j.1,g+k) .int 0 (ws++[z]).length) :: tl) (((j.1,g+k),some (.arr 3 .int (ws++[z]))) :: (j,none) :: ol) Kf) (hx:x.ev (Am tl)=.own j .int 0 ws.length:=by kernel_rfl) (hob:Aj ol j=some (.arr 3 .int ws):=by kernel_rfl) (hy:y.ev (Am tl)=.own q .int 0 1:=by kernel_rfl) (hq:Aj ol q=some (.arr 3 .int [z]):=by kernel_rfl) (hgd:gdB gd (Am tl)=true:=by kernel_rfl):XW P G g k (⟨some d,gd,.append 3 .int by_ x y⟩ :: xs) tl ol Kf:=rs2 _ _ _ _ (Eu hgd (Nh (t:=.int) (ys:=[z]) hx hob rfl hy (I2 hq rfl) rfl h)) h3
theorem dzB {x y:Opd} {by_:Nat} (j q:Oid) (ws:List Int) (z:Int) (h:ws.length+1<=1073741824/\(ws.length+1)*by_<=140737488355328) (h3:XD P G bad g (k+1) xs ((d,.own (j.1,g+k) .int 0 (ws++[z]).length) :: tl) (((j.1,g+k),some (.arr 3 .int (ws++[z]))) :: (j,none) :: ol) ((2,.own (j.1,g+k) .int 0 (ws++[z]).length,[(j,none),((j.1,g+k),some (.arr 3 .int (ws++[z])))]) :: ra) ((rdX (Am tl) (Aj ol) ⟨some d,gd,.append 3 .int by_ x y⟩) :: da) Kf) (hx:x.ev (Am tl)=.own j .int 0 ws.length:=by kernel_rfl) (hob:only (rdX (Am tl) (Aj ol) ⟨some d,gd,.append 3 .int by_ x y⟩) (Aj ol) j=some (.arr 3 .int ws):=by kernel_rfl) (hy:y.ev (Am tl)=.own q .int 0 1:=by kernel_rfl) (hq:only (rdX (Am tl) (Aj ol) ⟨some d,gd,.append 3 .int by_ x y⟩) (Aj ol) q=some (.arr 3 .int [z]):=by kernel_rfl) (hgd:gdB gd (Am tl)=true:=by kernel_rfl):XD P G bad g k (⟨some d,gd,.append 3 .int by_ x y⟩ :: xs) tl ol ra da Kf:=ds2 _ _ _ _ (Eu hgd (Nh (t:=.int) (ys:=[z]) hx hob rfl hy (I2 hq rfl) rfl h)) h3
theorem zV {x y:Opd} {by_:Nat} (o q p:Oid) (ws:List (List Int)) (cs:List AV) (h:ws.length+1<=1073741824/\(ws.length+1)*by_<=140737488355328) (h3:XW P G g (k+1) xs ((d,.own (o.1,g+k) Y1 0 (ws.length+1)) :: tl) (((o.1,g+k),some (.vec 81 1 (ws.length+1) (hdL p .int ws++cs))) :: (o,none) :: ol) Kf) (hc:cs.length=1:=by rfl) (hx:x.ev (Am tl)=.own o Y1 0 ws.length:=by kernel_rfl) (hob:Aj ol o=some (.vec 81 1 ws.length (hdL p .int ws)):=by kernel_rfl) (hy:y.ev (Am tl)=.own q Y1 0 1:=by kernel_rfl) (hq:Aj ol q=some (.vec 81 1 1 cs):=by kernel_rfl) (he:L3 (some (.vec 81 1 (ws.length+1) (hdL p .int ws++cs)))=true:=by rfl) (hgd:gdB gd (Am tl)=true:=by kernel_rfl):XW P G g k (⟨some d,gd,.appV 81 Y1 by_ x y⟩ :: xs) tl ol Kf:=rs2 _ _ _ _ (Eu hgd (Amf (t2:=.slice .int) hx hob rfl hy hq hc h)) h3 he
theorem dzV {x y:Opd} {by_:Nat} (o q p:Oid) (ws:List (List Int)) (cs:List AV) (h:ws.length+1<=1073741824/\(ws.length+1)*by_<=140737488355328) (h3:XD P G bad g (k+1) xs ((d,.own (o.1,g+k) Y1 0 (ws.length+1)) :: tl) (((o.1,g+k),some (.vec 81 1 (ws.length+1) (hdL p .int ws++cs))) :: (o,none) :: ol) ((2,.own (o.1,g+k) Y1 0 (ws.length+1),[(o,none),((o.1,g+k),some (.vec 81 1 (ws.length+1) (hdL p .int ws++cs)))]) :: ra) ((rdX (Am tl) (Aj ol) ⟨some d,gd,.appV 81 Y1 by_ x y⟩) :: da) Kf) (hc:cs.length=1:=by rfl) (hx:x.ev (Am tl)=.own o Y1 0 ws.length:=by kernel_rfl) (hob:only (rdX (Am tl) (Aj ol) ⟨some d,gd,.appV 81 Y1 by_ x y⟩) (Aj ol) o=some (.vec 81 1 ws.length (hdL p .int ws)):=by kernel_rfl) (hy:y.ev (Am tl)=.own q Y1 0 1:=by kernel_rfl) (hq:only (rdX (Am tl) (Aj ol) ⟨some d,gd,.appV 81 Y1 by_ x y⟩) (Aj ol) q=some (.vec 81 1 1 cs):=by kernel_rfl) (he:L3 (some (.vec 81 1 (ws.length+1) (hdL p .int ws++cs)))=true:=by rfl) (hgd:gdB gd (Am tl)=true:=by kernel_rfl):XD P G bad g k (⟨some d,gd,.appV 81 Y1 by_ x y⟩ :: xs) tl ol ra da Kf:=ds2 _ _ _ _ (Eu hgd (Amf (t2:=.slice .int) hx hob rfl hy hq hc h)) h3 he
theorem zA {x y:Opd} {j:Nat} (h:j+1<4611686018427387904) (h3:XW P G g (k+1) xs ((d,.int .i64 ((j+1:Nat):Int)) :: tl) ol Kf) (hx:x.ev (Am tl)=.int .i64 j:=by kernel_rfl) (hy:y.ev (Am tl)=.int .i64 1:=by kernel_rfl):XW P G g k (⟨some d,none,.i (.bin .add x y)⟩ :: xs) tl ol Kf:=rs0 _ (Aqd hx hy h) h3
end
section
variable {n:Nat} {d:Option Nat} {f:Nat->AV} {ob:Oid->Option Ob}
theorem zi {sz:Nat} {x i:Opd} {t:Ty} {xs:List t.D} {y:t.D} {k:IntKind} {m:Int} {j:Nat} (h0:0<=m) (hy:xs[j]? =some y) (hx:(x.ev f).un=.tree t xs:=by kernel_rfl) (hi:i.ev f=.int k m:=by kernel_rfl) (hs:sz=t.size:=by rfl) (hj:m.toNat=j:=by rfl) {e:Option (Nat->Prop)} (he:(x.ev f).tag=e:=by kernel_rfl):A9 n ⟨d,none,.i (.idx sz x i)⟩ f ob=some (0,.telt e t y 0,[]):=Acz hx hi hs h0 hj hy he
theorem zo {sz:Nat} {x i:Opd} {t:Ty} {o:Oid} {len:Nat} {k:IntKind} {m:Int} {j:Nat} (h0:0<=m) (hl:j<len) (hx:x.ev f=.own o t 0 len:=by kernel_rfl) (hi:i.ev f=.int k m:=by kernel_rfl) (hs:sz=t.size:=by rfl) (hj:m.toNat=j:=by rfl):A9 n ⟨d,none,.i (.idx sz x i)⟩ f ob=some (0,.elt o j 0,[]):=Acn hx hi hs h0 hj hl
theorem zl {vs:List Value} {c:AV} {l:RL} (h:R6 ob c=some l:=by kernel_rfl):LeafR vs ob c l:=Aro h
end
theorem zj {α:Type} {a b:α} (h:some a=some b):a=b:=osj h
end Go.Proofs.YthlpchhhinipaaaGreatDoor
namespace Go.Proofs.YthlpchhhinipaaaGreatDoor
open Go.RowKit Go.Deep
set_option maxRecDepth 4000
set_option maxHeartbeats 4800000
variable {aA aB:List Int} {bA bB bC bD:Int} {cA:Bool}
def Mp (a0:List Int) (a1:Int):Option Int :=
 cond (decide (wI (a1 - (a0.length:Int))<0))
 (some (-1))
 (some (wI (a1 - (a0.length:Int))))
def A3 (r:Int):RV:=⟨false,[(false,[.sc (.int .i64 r)])]⟩
theorem Ab5 (h:Mp aA bA=some bB):cK 114 [tI aA,ai bA] (A3 bB):=by
 exact cO Tryz.func114 (Ae (Ae (Ab (Ae (kQ h (fun _ h=>Ae (Ac (tr_ (jS h)))) fun _ h=>skW (Ae (Ac (jS h))))))))
def H6 (a0:List Int) (u0:Nat) (u1:List Int):Option (Ctl (Nat×List Int) (List Int)) :=
 cond (decide ((u0:Int)<(a0.length:Int)))
 ((a0[u0]?).bind fun x11 =>
 (u1[u0]?).bind fun x12 =>
 og (u0+1<4611686018427387904) <|
 some (Ctl.next (u0+1,u1.set u0 x11)))
 (some (Ctl.out u1))
def L8 (a0:List Int):Option (List Int) :=
 og (0<=(a0.length:Int)/\(a0.length:Int)<=(a0.length:Int)/\(a0.length:Int)<=1073741824/\(8:Int)*(a0.length:Int)<=140737488355328) <|
(Aq (fun s_:Nat×List Int=>H6 a0 s_.1 s_.2) 4611686018427387904 (0,List.replicate a0.length (0:Int))).bind fun u0 =>
some u0
def B1 (r:List Int):RV:=⟨false,[(false,[.new 3 .int r])]⟩
theorem Ac6 (h:L8 aA=some aB):cK 120 [tI aA] (B1 aB):=by
 refine cO Tryz.func120 (Ae (Ab (Aa 6 (rsT 2 ?_))));obtain ⟨g3,h⟩:=Ak h;refine rs1 (oI 7 4 aA.length) (oi 7 4) (.arr 3 .int (List.replicate aA.length (0:Int))) (N3 (t:=.int) (k:=.i64) (k':=.i64) (m:=(aA.length:Int)) (m':=(aA.length:Int)) kr kr g3 rfl) (rsT 1 (rnW (sqF h (fun u1=>sT [(3,oI 0 1 u1.length)] [(oi 0 1,.arr 3 .int u1)]) ?_ fun u1 h=>Ae (Ac (jR h [oI 0 1 u1.length] (F1 rfl (Dc kr rfl) Fc))))));intro _ h;refine Ae (Ad (lpF h (fun (u2,u0)=>sT [(0,tI aA),(3,oI 0 1 u0.length),(4,an u2)] [(oi 0 1,.arr 3 .int u0)]) ((wL 3 (List.length_replicate.symm:aA.length=(List.replicate aA.length (0:Int)).length)).trans (Ag [(oi 0 1,oi 7 4)])) ?_));rintro n_ ⟨u2,u0⟩ c_ h hn6;refine Ab (Ae (kQ h (fun _ h=>skW (Ab (Ad (Aa 14 (rsT 4 (riH .int h fun x11 _ h=>rsT 1 ?_)))))) fun _ h=>lxT (have h:=jO h hn6;jE [])));obtain ⟨x12,e12,h⟩:=Ah h;refine zO (oi 0 1) .int u0.length (Ai e12) (zS (oi 0 1) (x11) e12 (Ap (bn_ (tn_ (wr_ (Aa 17 (rsT 1 (raH h fun h=>rsT 1 (Ap (tn_ ?_))))))))));obtain rfl:=zj h;exact jLw hn6 ((wL 3 (((rfl:u0.length=u0.length).trans List.length_set.symm):u0.length=(u0.set u2 x11).length)).trans (Ag []))
def H4 (a0 a1:List Int) (u0:Nat):Option (Ctl Nat (Ctl Unit Bool)) :=
 cond (decide ((u0:Int)<(a0.length:Int)))
 ((a0[u0]?).bind fun x14 =>
 (a1[u0]?).bind fun x15 =>
 cond (x14 !=x15)
  (some (Ctl.out (Ctl.out false)))
  (og (u0+1<4611686018427387904) <|
  some (Ctl.next (u0+1))))
 (some (Ctl.out (Ctl.next ())))
def Mg (a0 a1:List Int):Option Bool :=
 cond ((a0.length:Int) !=(a1.length:Int))
 (some false)
 (Dn (Aq (fun s_:Nat=>H4 a0 a1 s_) 4611686018427387904 0) fun _ =>
 some true)
def Ao (r:Bool):RV:=⟨false,[(false,[.sc (.bool r)])]⟩
theorem Aby (h:Mg aA aB=some cA):cK 71 [tI aA,tI aB] (Ao cA):=by
 exact cO Tryz.func71 (Ae (Ab (Ae (kQ h (fun _ h=>Ae (Ac (tr_ (jS h)))) fun _ h=>skW (sqC h (fun _=>sT [] []) (fun _ h hk6=>Ae (Ad (lpF h (fun u0=>sT [(0,tI aA),(1,tI aB),(5,an u0)] []) (Ag []) (fun n_ u0 c_ h hn8=>Ab (Ae (kQ h (fun _ h=>skW (Ab (Ad (Ab (An 15 (ds0 (tI aA) kr (ds0 (an u0) kr (diH .int h fun x14 _ h=>dsT 3 (diH .int h fun x15 _ h=>ds0 (ai x15) kr (ds0 (.bool (x14 !=x15)) kr (Ct (As kr) (tn_ (wr_ (kQ h (fun _ h=>Ae (Ac (br_ (tr_ (tr_ (br_ (tr_ (have h:=jO h hn8;(have h:=jO h hk6;jS h))))))))) fun _ h=>Ay (bn_ (tn_ (wr_ (Aa 18 (rsT 1 (raH h fun h=>rsT 1 (Ap (tn_ (jL []))))))))))))))))))))))) fun _ h=>lxT (have h:=jO h hn8;jC []))))))) fun _ h=>Ae (Ac (jS h)))))))
def Cb (a0 a1 a2:Int):Option Bool :=
 (cond (decide (a1<=a0))
  (some (decide (a0<=a2)))
  (some false)).bind fun u0 =>
some u0
theorem Co (h:Cb bA bB bC=some cA):cK 96 [ai bA,ai bB,ai bC] (Ao cA):=by
 exact cO Tryz.func96 (Ae (sqF h (fun u0=>sT [(6,.bool u0)] []) (fun _ h=>Aa 11 (rsT 4 (kR h 10 (fun _ h=>rsT 5 (Ap (tn_ (jE [])))) fun _ h=>rsT 5 (Ap (tn_ (jE [])))))) fun u0 h=>Ac (jS h)))
def Id (a0:Int) (u0:Nat):Option (Ctl Nat (Ctl Unit Bool)) :=
 cond (decide (wI ((u0:Int)*(u0:Int))<=a0))
 (og ((u0:Int)≠0) <|
 cond ((Int.tmod a0 (u0:Int))==0)
  (some (Ctl.out (Ctl.out false)))
  (og (u0+1<4611686018427387904) <|
  some (Ctl.next (u0+1))))
 (some (Ctl.out (Ctl.next ())))
def G1 (a0:Int):Option Bool :=
 (Cb a0 2 97).bind fun y4 =>
cond (!y4)
 (some false)
 (Dn (Aq (fun s_:Nat=>Id a0 s_) 4611686018427387904 2) fun _ =>
 some true)
theorem Oj (h:G1 bA=some cA):cK 94 [ai bA] (Ao cA):=by
 refine cO Tryz.func94 (Ae (Ab (Ab (Aa 5 (rsT 1 (rcH h Co fun y4 h=>rsT 1 (rnW (kQ h (fun _ h=>Ae (Ac (tr_ (jS h)))) fun _ h=>skW (sqC h (fun _=>sT [] []) ?_ fun _ h=>Ae (Ac (jS h)))))))))));intro _ h hk7;refine Ae (Ad (lpF h (fun u0=>sT [(0,ai bA),(3,an u0)] []) (Ag []) ?_));intro n_ u0 c_ h hn9;refine Ab (Ae (kQ h (fun _ h=>skW (Ab (Ad (Ab (Aa 11 (rsT 2 ?_)))))) fun _ h=>lxT (have h:=jO h hn9;jC [])));obtain ⟨g15,h⟩:=Ak h;exact rs0 (ai (Int.tmod bA (u0:Int))) (O0 (k:=.i64) (a:=bA) (b:=(u0:Int)) kr kr g15) (rsT 1 (rnW (kQ h (fun _ h=>Ae (Ac (br_ (tr_ (tr_ (br_ (tr_ (have h:=jO h hn9;(have h:=jO h hk7;jS h))))))))) fun _ h=>Ay (bn_ (tn_ (wr_ (Aa 14 (rsT 1 (raH h fun h=>rsT 1 (Ap (tn_ (jL []))))))))))))
def Nb (a0:List Int) (a1 a2:Int) (u0:Nat):Option (Ctl Nat (Ctl Unit Bool)) :=
 cond (decide ((u0:Int)<(a0.length:Int)))
 ((a0[u0]?).bind fun x10 =>
 (Cb x10 a1 a2).bind fun y12 =>
 cond (!y12)
  (some (Ctl.out (Ctl.out false)))
  (og (u0+1<4611686018427387904) <|
  some (Ctl.next (u0+1))))
 (some (Ctl.out (Ctl.next ())))
def E3 (a0:List Int) (a1 a2:Int):Option Bool :=
 Dn (Aq (fun s_:Nat=>Nb a0 a1 a2 s_) 4611686018427387904 0) fun _ =>
some true
theorem Jn (h:E3 aA bA bB=some cA):cK 185 [tI aA,ai bA,ai bB] (Ao cA):=by
 exact cO Tryz.func185 (Ae (sqC h (fun _=>sT [] []) (fun _ h hk2=>Ae (Ad (lpF h (fun u0=>sT [(1,ai bA),(2,ai bB),(9,tI aA),(10,an aA.length),(11,an u0)] []) (Ag []) (fun n_ u0 c_ h hn4=>Ae (Ab (kQ h (fun _ h=>skW (Ab (Ad (Ab (Aa 6 (riH .int h fun x10 _ h=>rsT 2 (rnW (Ab (Aa 11 (rsT 3 (rcH h Co fun y12 h=>rsT 1 (rnW (kQ h (fun _ h=>Ae (Ac (br_ (tr_ (tr_ (br_ (tr_ (have h:=jO h hn4;(have h:=jO h hk2;jS h))))))))) fun _ h=>Ay (bn_ (tn_ (wr_ (Aa 13 (raH h fun h=>rsT 1 (Ap (tn_ (jL []))))))))))))))))))))) fun _ h=>lxT (have h:=jO h hn4;jC []))))))) fun _ h=>Ae (Ac (jS h))))
def Gn (a0:List Int):Option (List Int) :=
 og (0+a0.length<=1073741824/\(0+a0.length)*8<=140737488355328) <|
some a0
theorem Mk (h:Gn aA=some aB):cK 102 [tI aA] (B1 aB):=by
 refine cO Tryz.func102 (Ae (Ab (Aa 6 (rsB 2 ?_))));obtain ⟨g3,h⟩:=Ak h;exact rs2 (oI 3 4 aA.length) (oi 3 2) (oi 3 4) (.arr 3 .int aA) (Nh (t:=.int) (t':=.int) (xs:=[]) (ys:=aA) (zs:=aA) (j:=oi 3 2) (len:=0) (c:=tI aA) kr kr rfl kr Hm rfl g3) (rsT 1 (rnW (Ac (jR h [oI 3 4 aA.length] (F1 rfl (Dc kr rfl) Fc)))))
def Pf (a0:Int) (a1:List Int):Option Bool :=
 (E3 a1 0 (wI (a0 - 1))).bind fun y3 =>
some y3
theorem Afn (h:Pf bA aA=some cA):cK 178 [ai bA,tI aA] (Ao cA):=by
 exact cO Tryz.func178 (Ae (Ab (Aa 7 (rsT 3 (rcH h Jn fun y3 h=>rsT 1 (rnW (Ac (jS h))))))))
def Dq (a0 a1 a2:Int):Option Int :=
 og (a0≠0) <|
some (Int.tmod (wI (a1+a2)) a0)
theorem Adu (h:Dq bA bB bC=some bD):cK 190 [ai bA,ai bB,ai bC] (A3 bD):=by
 refine cO Tryz.func190 (Ae (Ab (Aa 8 (rsT 4 ?_))));obtain ⟨g3,h⟩:=Ak h;exact rs0 (ai (Int.tmod (wI (bB+bC)) bA)) (O0 (k:=.i64) (a:=wI (bB+bC)) (b:=bA) kr kr g3) (rsT 1 (rnW (Ac (jS h))))
def Kx (a0 a1 a2:Int):Option Int :=
 og (a0≠0) <|
some (Int.tmod (wI (a1*a2)) a0)
theorem Tx (h:Kx bA bB bC=some bD):cK 171 [ai bA,ai bB,ai bC] (A3 bD):=by
 refine cO Tryz.func171 (Ae (Ab (Aa 8 (rsT 4 ?_))));obtain ⟨g3,h⟩:=Ak h;exact rs0 (ai (Int.tmod (wI (bB*bC)) bA)) (O0 (k:=.i64) (a:=wI (bB*bC)) (b:=bA) kr kr g3) (rsT 1 (rnW (Ac (jS h))))
def B5 (a0 a1 a2:Int):Option Bool :=
 (cond (decide (a1<=a0))
  (some (decide (a0<=a2)))
  (some false)).bind fun u0 =>
some u0
theorem C4 (h:B5 bA bB bC=some cA):cK 121 [ai bA,ai bB,ai bC] (Ao cA):=by
 exact cO Tryz.func121 (Ae (sqF h (fun u0=>sT [(6,.bool u0)] []) (fun _ h=>Aa 11 (rsT 4 (kR h 10 (fun _ h=>rsT 5 (Ap (tn_ (jE [])))) fun _ h=>rsT 5 (Ap (tn_ (jE [])))))) fun u0 h=>Ac (jS h)))
def Ih (a0 a1:Int):Option Bool :=
 (cond (decide (0<=a1))
  (some (decide (a1<a0)))
  (some false)).bind fun u0 =>
some u0
theorem Vr (h:Ih bA bB=some cA):cK 186 [ai bA,ai bB] (Ao cA):=by
 exact cO Tryz.func186 (Ae (sqF h (fun u0=>sT [(4,.bool u0)] []) (fun _ h=>Aa 10 (rsT 3 (kR h 7 (fun _ h=>rsT 5 (Ap (tn_ (jE [])))) fun _ h=>rsT 5 (Ap (tn_ (jE [])))))) fun u0 h=>Ac (jS h)))
def J7 (a1:List Int) (a0:Int) (u0:Nat):Option (Ctl Nat (Ctl Unit Bool)) :=
 cond (decide ((u0:Int)<(a1.length:Int)))
 ((a1[u0]?).bind fun x14 =>
 (Ih a0 x14).bind fun y16 =>
 cond (!y16)
  (some (Ctl.out (Ctl.out false)))
  (og (u0+1<4611686018427387904) <|
  some (Ctl.next (u0+1))))
 (some (Ctl.out (Ctl.next ())))
def Jv (a0:Int) (a1:List Int) (a2:Int):Option Bool :=
 cond ((a1.length:Int) !=a2)
 (some false)
 (Dn (Aq (fun s_:Nat=>J7 a1 a0 s_) 4611686018427387904 0) fun _ =>
 some true)
theorem Xy (h:Jv bA aA bB=some cA):cK 180 [ai bA,tI aA,ai bB] (Ao cA):=by
 exact cO Tryz.func180 (Ae (Ab (Ae (kQ h (fun _ h=>Ae (Ac (tr_ (jS h)))) fun _ h=>skW (sqC h (fun _=>sT [] []) (fun _ h hk6=>Ae (Ad (lpF h (fun u0=>sT [(0,ai bA),(13,tI aA),(14,an aA.length),(15,an u0)] []) (Ag []) (fun n_ u0 c_ h hn8=>Ae (Ab (kQ h (fun _ h=>skW (Ab (Ad (Ab (Aa 6 (riH .int h fun x14 _ h=>rsT 2 (rnW (Ab (Aa 10 (rsT 2 (rcH h Vr fun y16 h=>rsT 1 (rnW (kQ h (fun _ h=>Ae (Ac (br_ (tr_ (tr_ (br_ (tr_ (have h:=jO h hn8;(have h:=jO h hk6;jS h))))))))) fun _ h=>Ay (bn_ (tn_ (wr_ (Aa 12 (raH h fun h=>rsT 1 (Ap (tn_ (jL []))))))))))))))))))))) fun _ h=>lxT (have h:=jO h hn8;jC []))))))) fun _ h=>Ae (Ac (jS h)))))))
def Q8 (a0 a1:Int):Option Int :=
 og (a0≠0) <|
(cond (decide (Int.tmod a1 a0<0))
  (some (wI (Int.tmod a1 a0+a0)))
  (some (Int.tmod a1 a0))).bind fun u0 =>
some u0
theorem Aig (h:Q8 bA bB=some bC):cK 165 [ai bA,ai bB] (A3 bC):=by
 refine cO Tryz.func165 (Ae (Ab (Aa 6 (rsT 2 ?_))));obtain ⟨g3,h⟩:=Ak h;exact rs0 (ai (Int.tmod bB bA)) (O0 (k:=.i64) (a:=bB) (b:=bA) kr kr g3) (rsT 1 (rnW (sqF h (fun u0=>sT [(1,ai u0)] []) (fun _ h=>Ae (kQ h (fun _ h=>Aa 12 (rsT 4 (Ap (tn_ (jE []))))) fun _ h=>Ay (tn_ (jE [])))) fun u0 h=>Ae (Ac (jS h)))))
def Nt (a0:List Int):Option (List Int) :=
 og (0+a0.length<=1073741824/\(0+a0.length)*8<=140737488355328) <|
some a0
theorem Ado (h:Nt aA=some aB):cK 155 [tI aA] (B1 aB):=by
 refine cO Tryz.func155 (Ae (Ab (Aa 6 (rsB 2 ?_))));obtain ⟨g3,h⟩:=Ak h;exact rs2 (oI 3 4 aA.length) (oi 3 2) (oi 3 4) (.arr 3 .int aA) (Nh (t:=.int) (t':=.int) (xs:=[]) (ys:=aA) (zs:=aA) (j:=oi 3 2) (len:=0) (c:=tI aA) kr kr rfl kr Hm rfl g3) (rsT 1 (rnW (Ac (jR h [oI 3 4 aA.length] (F1 rfl (Dc kr rfl) Fc)))))
end Go.Proofs.YthlpchhhinipaaaGreatDoor


namespace Go.Proofs.YthlpchhhinipaaaGreatDoor
open Go.RowKit Go.Deep
set_option maxRecDepth 4000
set_option maxHeartbeats 4800000
variable {bA bB bC bD bE:Int} {dA dB:LL} {cA:Bool} {aA aB aC:List Int} {eA:LL×LL} {fA:LL×LL×Nat}
def Yn (a0 a1:Int) (u0:Nat):Option (Ctl Nat (Ctl Unit Int)) :=
 cond (decide ((u0:Int)<a0))
 (og (a0≠0) <|
 cond ((Int.tmod (wI (a1*(u0:Int))) a0)==1)
  (some (Ctl.out (Ctl.out (u0:Int))))
  (og (u0+1<4611686018427387904) <|
  some (Ctl.next (u0+1))))
 (some (Ctl.out (Ctl.next ())))
def Nr (a0 a1:Int):Option Int :=
 Dn (Aq (fun s_:Nat=>Yn a0 a1 s_) 4611686018427387904 1) fun _ =>
some 0
theorem Adt (h:Nr bA bB=some bC):cK 170 [ai bA,ai bB] (A3 bC):=by
 refine cO Tryz.func170 (Ae (sqC h (fun _=>sT [] []) ?_ fun _ h=>Ae (Ac (jS h))));intro _ h hk2;refine Ae (Ad (lpF h (fun u0=>sT [(0,ai bA),(1,ai bB),(5,an u0)] []) (Ag []) ?_));intro n_ u0 c_ h hn4;refine Ab (Ae (kQ h (fun _ h=>skW (Ab (Ad (Ab (Aa 11 (rsT 4 ?_)))))) fun _ h=>lxT (have h:=jO h hn4;jC [])));obtain ⟨g10,h⟩:=Ak h;exact rs0 (ai (Int.tmod (wI (bB*(u0:Int))) bA)) (O0 (k:=.i64) (a:=wI (bB*(u0:Int))) (b:=bA) kr kr g10) (rsT 1 (rnW (kQ h (fun _ h=>Ae (Ac (br_ (tr_ (tr_ (br_ (tr_ (have h:=jO h hn4;(have h:=jO h hk2;jS h))))))))) fun _ h=>Ay (bn_ (tn_ (wr_ (Aa 14 (rsT 1 (raH h fun h=>rsT 1 (Ap (tn_ (jL []))))))))))))
def E7 (a0 a1:Int):Option Int :=
 og (a0≠0) <|
some (Int.tmod (wI (a0 - a1)) a0)
theorem Pm (h:E7 bA bB=some bC):cK 99 [ai bA,ai bB] (A3 bC):=by
 refine cO Tryz.func99 (Ae (Ab (Aa 8 (rsT 4 ?_))));obtain ⟨g3,h⟩:=Ak h;exact rs0 (ai (Int.tmod (wI (bA - bB)) bA)) (O0 (k:=.i64) (a:=wI (bA - bB)) (b:=bA) kr kr g3) (rsT 1 (rnW (Ac (jS h))))
def Nu (a0 a1 a2:Int):Option Int :=
 og (a0≠0) <|
some (Int.tmod (wI ((wI (a1+a0)) - a2)) a0)
theorem Adj (h:Nu bA bB bC=some bD):cK 172 [ai bA,ai bB,ai bC] (A3 bD):=by
 refine cO Tryz.func172 (Ae (Ab (Aa 10 (rsT 6 ?_))));obtain ⟨g3,h⟩:=Ak h;exact rs0 (ai (Int.tmod (wI ((wI (bB+bA)) - bC)) bA)) (O0 (k:=.i64) (a:=wI ((wI (bB+bA)) - bC)) (b:=bA) kr kr g3) (rsT 1 (rnW (Ac (jS h))))
def Es (a2:LL) (u0:Nat) (u1:LL):Option (Ctl (Nat×LL) (LL)) :=
 cond (decide ((u0:Int)<(a2.length:Int)))
 ((a2[u0]?).bind fun x12 =>
 (Gn x12).bind fun y13 =>
 og (u1.length+1<=1073741824/\(u1.length+1)*24<=140737488355328) <|
 og (u0+1<4611686018427387904) <|
 some (Ctl.next (u0+1,u1++[y13])))
 (some (Ctl.out u1))
def Ew (u1:LL) (u2 u0:Nat):Option (Ctl Nat Nat) :=
 (cond (decide ((u0:Int)<(u1.length:Int)))
  ((u1[u0]?).bind fun x31 =>
  (x31[u2]?).bind fun x32 =>
  some (x32==0))
  (some false)).bind fun u3 =>
cond u3
 (og (u0+1<4611686018427387904) <|
 some (Ctl.next (u0+1)))
 (some (Ctl.out u0))
def Gr (x44:List Int) (u2:Nat) (a0 y46:Int) (u0:Nat) (u1:LL):Option (Ctl (Nat×LL) (LL)) :=
 cond (decide ((u0:Int)<(x44.length:Int)))
 ((u1[u2]?).bind fun x55 =>
 (x55[u0]?).bind fun x56 =>
 (Kx a0 x56 y46).bind fun y57 =>
 og (u0+1<4611686018427387904) <|
 some (Ctl.next (u0+1,u1.set u2 (x55.set u0 y57))))
 (some (Ctl.out u1))
def Gg (x74:List Int) (u2 u3:Nat) (a0 x75:Int) (u0:Nat) (u1:LL):Option (Ctl (Nat×LL) (LL)) :=
 cond (decide ((u0:Int)<(x74.length:Int)))
 ((u1[u2]?).bind fun x83 =>
 (x83[u0]?).bind fun x84 =>
 (u1[u3]?).bind fun x85 =>
 (x85[u0]?).bind fun x86 =>
 (Kx a0 x75 x86).bind fun y87 =>
 (Nu a0 x84 y87).bind fun y88 =>
 og (u0+1<4611686018427387904) <|
 some (Ctl.next (u0+1,u1.set u2 (x83.set u0 y88))))
 (some (Ctl.out u1))
def Ge (u4:LL) (u2 u3:Nat) (a0:Int) (u0:Nat) (u1:LL):Option (Ctl (Nat×LL) (LL)) :=
 cond (decide ((u0:Int)<(u4.length:Int)))
 (((cond ((u0:Int)==(u2:Int))
       (some true)
       ((u1[u0]?).bind fun x70 =>
       (x70[u3]?).bind fun x71 =>
       some (x71==0))).bind fun u5 =>
  cond u5
   (some u1)
   ((u1[u0]?).bind fun x74 =>
   (x74[u3]?).bind fun x75 =>
   Aq (fun s_:Nat×LL=>Gg x74 u0 u2 a0 x75 s_.1 s_.2) 4611686018427387904 (0,u1))).bind fun u6 =>
 og (u0+1<4611686018427387904) <|
 some (Ctl.next (u0+1,u6)))
 (some (Ctl.out u1))
def Dl (a1 a0:Int) (u0 u2:Nat) (u1:LL):Option (Ctl (Nat×Nat×LL) (Nat×LL)) :=
 (cond (decide ((u2:Int)<a1))
  (some (decide ((u0:Int)<(u1.length:Int))))
  (some false)).bind fun u5 =>
cond u5
 (((Aq (fun s_:Nat=>Ew u1 u2 s_) 4611686018427387904 u0).bind fun u3 =>
  cond ((u3:Int)==(u1.length:Int))
   (some (u0,u1))
   ((u1[u0]?).bind fun x39 =>
   (u1[u3]?).bind fun x41 =>
   (((u1.set u0 x41).set u3 x39)[u0]?).bind fun x44 =>
   (x44[u2]?).bind fun x45 =>
   (Nr a0 x45).bind fun y46 =>
   (Aq (fun s_:Nat×LL=>Gr x44 u0 a0 y46 s_.1 s_.2) 4611686018427387904 (0,(u1.set u0 x41).set u3 x39)).bind fun u4 =>
   (Aq (fun s_:Nat×LL=>Ge u4 u0 u2 a0 s_.1 s_.2) 4611686018427387904 (0,u4)).bind fun u6 =>
   og (u0+1<4611686018427387904) <|
   some (u0+1,u6))).bind fun (u7,u8) =>
 og (u2+1<4611686018427387904) <|
 some (Ctl.next (u7,u2+1,u8)))
 (some (Ctl.out (u0,u1)))
def D7 (a0 a1:Int) (a2:LL):Option (LL) :=
 (Aq (fun s_:Nat×LL=>Es a2 s_.1 s_.2) 4611686018427387904 (0,([]:LL))).bind fun u2 =>
(Aq (fun s_:Nat×Nat×LL=>Dl a1 a0 s_.1 s_.2.1 s_.2.2) 4611686018427387904 (0,0,u2)).bind fun (u0,u1) =>
og ((0:Int)<=0/\0<=(u0:Int)/\(u0:Int)<=(u1.length:Int)) <|
some (u1.take u0)
theorem Ie (h:D7 bA bB dA=some dB):Cm Tryz.prog Tab 146 [ai bA,ai bB,tS dA] [] (oS 0 1 dB.length) [(oi 0 1,.mat 81 (oi 1 1) .int dB),(oi 1 1,.pool 3 .int dB)]:=by
 refine Bg kr Tryz.func146 (Bt kr) (n:=177) kr (by simp) rfl kr trivial ⟨⟨3,.tail _ (.head _)⟩,⟨trivial,trivial⟩⟩ (Ae (Ae (sqF h (fun uf=>sT [(0,ai bA),(1,ai bB),(7,oS 0 1 uf.length)] [(oi 0 1,.mat 81 (oi 1 1) .int uf),(oi 1 1,.pool 3 .int uf)]) ?_ ?_)))
 ·intro _ h;refine Ae (Ad (lpF h (fun (uj,uc)=>sT [(0,ai bA),(1,ai bB),(7,oS 0 1 uc.length),(19,tS dA),(20,an dA.length),(21,an uj)] [(oi 0 1,.mat 81 (oi 1 1) .int uc),(oi 1 1,.pool 3 .int uc)]) ((Lz 7 81 sI kr).trans ((Dk (e1:=81) (n:=0) 9000 (oi 7 6) 3 .int kr kr rfl kr kr).trans (Ag [(oi 0 1,oi 7 6),(oi 1 1,oi 9000 7)]))) ?_));rintro n_ ⟨uj,uc⟩ c_ h hn6
  (try dsimp only at h);refine Ae (Ab (kQ h (fun q9 h=>?_) fun q9 h=>?_))
  ·have q9_:=of_decide_eq_true q9;refine skW (Ab (Ad (Ab (Aa 6 (riH sI h fun x12 _ h=>rsT 2 (rnW (Aa 12 (rsT 2 (rcH h Mk fun y13 h=>Lu (oS 28 9 1) (oi 28 9) (.vec 81 1 1 ([oI 432 8 y13.length])) trivial (Ej kr) ?_)))))))));obtain ⟨g14,h⟩:=Ak h;refine zV (oi 0 1) (oi 28 9) (oi 1 1) uc [oI 432 8 y13.length] g14 (rsT 1 (Ap (bn_ (tn_ ⟨_,D3 (e1:=81) (e:=3) (u:=.int) (n:=uc.length+1) (len:=y13.length) (row:=y13) (ys:=y13) (xss:=uc) 9000 (oi 0 10) (oi 1 1) (oi 432 8) kr kr rfl kr kr (M6 rfl) (M2 rfl) kr kr kr,Aa 15 ?_⟩))));obtain ⟨g15,h⟩:=Ak h;refine zA g15 (rsT 1 (Ap (tn_ ?_)));obtain rfl:=zj h;exact jLw hn6 ((wL 7 ((by simp):uc.length+1=(uc++[y13]).length)).trans (Ag [(oi 0 1,oi 0 10),(oi 1 1,oi 9000 12)]))
  have q9_:=of_decide_eq_false q9;refine lxT ?_;have h:=jO h hn6
  (try dsimp only at h);exact jE []
 intro uf h
 (try dsimp only at h);refine Ae (sqF h (fun (ua,ub)=>sT [(7,oS 0 1 ub.length),(10,an ua)] [(oi 0 1,.mat 81 (oi 1 1) .int ub),(oi 1 1,.pool 3 .int ub)]) ?_ ?_)
 ·intro _ h;refine Ae (Ad (lpF h (fun (u0,u3,u1)=>sT [(0,ai bA),(1,ai bB),(7,oS 0 1 u1.length),(10,an u0),(11,an u3)] [(oi 0 1,.mat 81 (oi 1 1) .int u1),(oi 1 1,.pool 3 .int u1)]) (Ag []) ?_));rintro n_ ⟨u0,u3,u1⟩ c_ h hn19
  (try dsimp only at h);refine Ab (sqF h (fun uk=>sT [(0,ai bA),(1,ai bB),(7,oS 0 1 u1.length),(10,an u0),(11,an u3),(39,.bool uk)] [(oi 0 1,.mat 81 (oi 1 1) .int u1),(oi 1 1,.pool 3 .int u1)]) ?_ ?_)
  ·intro _ h;refine Aa 11 (rsT 4 (kR h 34 (fun q22 h=>?_) fun q22 h=>?_))
   ·have q22_:=of_decide_eq_true q22;exact rsT 5 (Ap (tn_ (jE [])))
   have q22_:=of_decide_eq_false q22;exact rsT 5 (Ap (tn_ (jE [])))
  intro uk h
  (try dsimp only at h);refine kQ h (fun _ h=>?_) fun _ h=>?_
  ·refine skW (sqF h (fun (ul,ug)=>sT [(0,ai bA),(1,ai bB),(7,oS 0 1 ug.length),(10,an ul),(11,an u3)] [(oi 0 1,.mat 81 (oi 1 1) .int ug),(oi 1 1,.pool 3 .int ug)]) ?_ ?_)
   ·intro _ h;refine Ad (Ae (sqF h (fun u6=>sT [(0,ai bA),(1,ai bB),(7,oS 0 1 u1.length),(10,an u0),(11,an u3),(12,an u6)] [(oi 0 1,.mat 81 (oi 1 1) .int u1),(oi 1 1,.pool 3 .int u1)]) ?_ ?_))
    ·intro _ h;refine Ad (lpF h (fun ud=>sT [(0,ai bA),(1,ai bB),(7,oS 0 1 u1.length),(10,an u0),(11,an u3),(12,an ud)] [(oi 0 1,.mat 81 (oi 1 1) .int u1),(oi 1 1,.pool 3 .int u1)]) (Ag []) ?_);intro n_ ud c_ h hn27
     (try dsimp only at h);refine Ab (sqF h (fun um=>sT [(0,ai bA),(1,ai bB),(7,oS 0 1 u1.length),(10,an u0),(11,an u3),(12,an ud),(56,.bool um)] [(oi 0 1,.mat 81 (oi 1 1) .int u1),(oi 1 1,.pool 3 .int u1)]) ?_ ?_)
     ·intro _ h;refine Aa 16 (rsT 5 ?_);rcases A0 h with ⟨q30,h⟩|⟨q30,h⟩
      ·have q30_:=of_decide_eq_true q30;refine rq 47 q30 (rsT 2 ?_);obtain ⟨x31,e31,h⟩:=Ah h;refine zO (oi 0 1) sI u1.length (Ai e31) (rsl (.own (kid (oi 1 1) ud) .int 0 x31.length) (Ec (o:=oi 0 1) (p:=oi 1 1) (e1:=81) (u:=.int) (xss:=u1) (row:=x31) (j:=ud) kr kr e31) (rsT 1 ?_));obtain ⟨x32,e32,h⟩:=Ah h;exact rs0 (.elt (kid (oi 1 1) ud) u3 0) (zo (t:=.int) (o:=kid (oi 1 1) ud) (len:=x31.length) (k:=.i64) (m:=(u3:Int)) (C1 _) (Ai e32)) (rsl (ai x32) (Hw (i:=kid (oi 1 1) ud) (j:=u3) (k:=0) (e:=3) (t:=.int) (xs:=x31) kr (Be kr e31) e32 kr) (rsT 2 (Ap (tn_ (jE [])))))
      have q30_:=of_decide_eq_false q30;exact rq 47 q30 (rsT 9 (Ap (tn_ (jE []))))
     intro um h
     (try dsimp only at h);refine kQ h (fun _ h=>?_) fun _ h=>?_
     ·refine skW (Ad (Aa 5 (rsT 1 ?_)));obtain ⟨g34,h⟩:=Ak h;exact zA g34 (rsT 1 (Ap (bn_ (tn_ (jL [])))))
     refine lxT ?_;have h:=jO h hn27
     (try dsimp only at h);exact jE []
    intro u6 h
    (try dsimp only at h);refine Ab (Ae (kQ h (fun _ h=>D2 (te_ (be_ (tn_ (jE []))))) fun _ h=>skW (Ab (Aa 11 (rsT 2 ?_)))));obtain ⟨x39,e39,h⟩:=Ah h;refine zO (oi 0 1) sI u1.length (Ai e39) (rsl (.own (kid (oi 1 1) u0) .int 0 x39.length) (Ec (o:=oi 0 1) (p:=oi 1 1) (e1:=81) (u:=.int) (xss:=u1) (row:=x39) (j:=u0) kr kr e39) (rsT 1 (rnW (Ab (Aa 19 (rsT 4 ?_))))));obtain ⟨x41,e41,h⟩:=Ah h;refine zO (oi 0 1) sI u1.length (Ai e41) (rsl (.own (kid (oi 1 1) u6) .int 0 x41.length) (Ec (o:=oi 0 1) (p:=oi 1 1) (e1:=81) (u:=.int) (xss:=u1) (row:=x41) (j:=u6) kr kr e41) (zO (oi 0 1) sI u1.length (Ai e39) (Aft (oi 0 1) (oi 0 1) (.vec 81 1 u1.length ((hdL (oi 1 1) .int u1).set u0 (.own (kid (oi 1 1) u6) .int 0 x41.length))) (Aal (o:=oi 0 1) (e1:=81) (m:=u1.length) (cs:=hdL (oi 1 1) .int u1) (v:=.own (kid (oi 1 1) u6) .int 0 x41.length) (j:=u0) kr kr kr rfl (by rw [C8];exact Ai e39)) (rnW (Ab (Aa 24 (rsT 3 (zO (oi 0 1) sI u1.length (Ai e41) (Aft (oi 0 1) (oi 0 1) (.vec 81 1 u1.length (((hdL (oi 1 1) .int u1).set u0 (.own (kid (oi 1 1) u6) .int 0 x41.length)).set u6 (.own (kid (oi 1 1) u0) .int 0 x39.length))) (Aal (o:=oi 0 1) (e1:=81) (m:=u1.length) (cs:=(hdL (oi 1 1) .int u1).set u0 (.own (kid (oi 1 1) u6) .int 0 x41.length)) (v:=.own (kid (oi 1 1) u0) .int 0 x39.length) (j:=u6) kr kr kr rfl (by rw [List.length_set,C8];exact Ai e41)) (Ap (tn_ ⟨_,Aci (e1:=81) (e:=3) (u:=.int) (xss:=u1) (i:=u0) (j:=u6) (n:=u1.length) (li:=x39.length) (lj:=x41.length) (ri:=x39) (rj:=x41) 9000 (oi 0 1) (oi 1 1) kr kr rfl kr e39 e41 rfl rfl kr kr,Ab (Aa 35 (rsT 3 ?_))⟩)))))))))));obtain ⟨x44,e44,h⟩:=Ah h;refine rs0 (.elt (oi 0 1) u0 0) (zo (t:=sI) (o:=oi 0 1) (len:=u1.length) (k:=.i64) (m:=(u0:Int)) (C1 _) (Nat.lt_of_lt_of_le (Ai e44) (Nat.le_of_eq (Eq.symm (Eq.trans (b:=u1.length) rfl (by simp)))))) (rsl (.own (kid (oi 9000 24) u0) .int 0 x44.length) (Ec (o:=oi 0 1) (p:=oi 9000 24) (e1:=81) (u:=.int) (xss:=(u1.set u0 x41).set u6 x39) (row:=x44) (j:=u0) kr kr e44) (rsT 1 ?_));obtain ⟨x45,e45,h⟩:=Ah h;refine rs0 (.elt (kid (oi 9000 24) u0) u3 0) (zo (t:=.int) (o:=kid (oi 9000 24) u0) (len:=x44.length) (k:=.i64) (m:=(u3:Int)) (C1 _) (Ai e45)) (rsl (ai x45) (Hw (i:=kid (oi 9000 24) u0) (j:=u3) (k:=0) (e:=3) (t:=.int) (xs:=x44) kr (Be kr e44) e45 kr) (rcH h Adt fun y46 h=>rsT 1 (rnW (sqF h (fun ue=>sT [(0,ai bA),(1,ai bB),(7,oS 0 1 ue.length),(10,an u0),(11,an u3)] [(oi 0 1,.mat 81 (oi 1 1) .int ue),(oi 1 1,.pool 3 .int ue)]) ?_ ?_))))
    ·intro _ h;refine Ab (Aa 41 (rsT 2 (rs0 (.elt (oi 0 1) u0 0) (zo (t:=sI) (o:=oi 0 1) (len:=u1.length) (k:=.i64) (m:=(u0:Int)) (C1 _) (Nat.lt_of_lt_of_le (Ai e44) (Nat.le_of_eq (Eq.symm (Eq.trans (b:=u1.length) rfl (by simp)))))) (rsl (.own (kid (oi 9000 24) u0) .int 0 x44.length) (Ec (o:=oi 0 1) (p:=oi 9000 24) (e1:=81) (u:=.int) (xss:=(u1.set u0 x41).set u6 x39) (row:=x44) (j:=u0) kr kr e44) (rsT 2 (rnW (Ad (lpF h (fun (u9,u7)=>sT [(0,ai bA),(1,ai bB),(7,oS 0 1 u7.length),(10,an u0),(11,an u3),(14,ai y46),(91,an x44.length),(92,an u9)] [(oi 0 1,.mat 81 (oi 1 1) .int u7),(oi 1 1,.pool 3 .int u7)]) ((wL 7 ((Eq.trans (b:=u1.length) rfl (by simp)):u1.length=((u1.set u0 x41).set u6 x39).length)).trans (Ag [(oi 1 1,oi 9000 24)])) ?_))))))));rintro n_ ⟨u9,u7⟩ c_ h hn49
     (try dsimp only at h);refine Ae (Ab (kQ h (fun q52 h=>?_) fun q52 h=>?_))
     ·have q52_:=of_decide_eq_true q52;refine skW (Ab (Ad (Ae (An 22 (dz0 (oS 0 1 u7.length) (dz0 (an u0) ?_))))));obtain ⟨x55,e55,h⟩:=Ah h;refine dzO (oi 0 1) sI u7.length (Ai e55) (dsl (.own (kid (oi 1 1) u0) .int 0 x55.length) (Ec (o:=oi 0 1) (p:=oi 1 1) (e1:=81) (u:=.int) (xss:=u7) (row:=x55) (j:=u0) kr kr e55) (dsT 4 (dzO (oi 0 1) sI u7.length (Ai e55) (dsl (.own (kid (oi 1 1) u0) .int 0 x55.length) (Ec (o:=oi 0 1) (p:=oi 1 1) (e1:=81) (u:=.int) (xss:=u7) (row:=x55) (j:=u0) kr kr e55) (dz0 (an u9) ?_)))));obtain ⟨x56,e56,h⟩:=Ah h;refine ds0 (.elt (kid (oi 1 1) u0) u9 0) (zo (t:=.int) (o:=kid (oi 1 1) u0) (len:=x55.length) (k:=.i64) (m:=(u9:Int)) (C1 _) (Ai e56)) (dsl (ai x56) (Hw (i:=kid (oi 1 1) u0) (j:=u9) (k:=0) (e:=3) (t:=.int) (xs:=x55) kr (Z5.trans (Be kr e55)) e56 kr) (dz0 (ai y46) (dcH h Tx fun y57 h=>ds0 (.elt (kid (oi 1 1) u0) u9 0) (zo (t:=.int) (o:=kid (oi 1 1) u0) (len:=x55.length) (k:=.i64) (m:=(u9:Int)) (C1 _) (Ai e56)) (M9 (kid (oi 1 1) u0) (kid (oi 1 1) u0) (.arr 3 .int (x55.set u9 y57)) (Vj (i:=kid (oi 1 1) u0) (j:=u9) (k:=0) (e:=3) (t:=.int) (xs:=x55) (cs:=[ai y57]) (x1:=y57) kr (Z5.trans (Be kr e55)) e56 kr kr) (Aly (Aag (o:=oi 0 1) (p:=oi 1 1) (e1:=81) (e:=3) (u:=.int) (xss:=u7) (k:=u0) (row:=x55) (row':=x55.set u9 y57) kr rfl kr e55 List.length_set) (Ct (As kr) (bn_ (tn_ (wr_ (Aa 24 ?_))))))))));obtain ⟨g58,h⟩:=Ak h;refine zA g58 (rsT 1 (Ap (tn_ ?_)));obtain rfl:=zj h;exact jLw hn49 ((wL 7 ((Eq.trans (b:=u7.length) rfl List.length_set.symm):u7.length=(u7.set u0 (x55.set u9 y57)).length)).trans (Ag []))
     have q52_:=of_decide_eq_false q52;refine lxT ?_;have h:=jO h hn49
     (try dsimp only at h);exact jE []
    intro ue h
    (try dsimp only at h);refine sqF h (fun uh=>sT [(0,ai bA),(1,ai bB),(7,oS 0 1 uh.length),(10,an u0),(11,an u3)] [(oi 0 1,.mat 81 (oi 1 1) .int uh),(oi 1 1,.pool 3 .int uh)]) ?_ ?_
    ·intro _ h;refine Ae (Ad (lpF h (fun (u2,u8)=>sT [(0,ai bA),(1,ai bB),(7,oS 0 1 u8.length),(10,an u0),(11,an u3),(113,an ue.length),(114,an u2)] [(oi 0 1,.mat 81 (oi 1 1) .int u8),(oi 1 1,.pool 3 .int u8)]) (Ag []) ?_));rintro n_ ⟨u2,u8⟩ c_ h hn61
     (try dsimp only at h);refine Ae (Ab (kQ h (fun q64 h=>?_) fun q64 h=>?_))
     ·have q64_:=of_decide_eq_true q64;refine skW (sqF h (fun ui=>sT [(0,ai bA),(1,ai bB),(7,oS 0 1 ui.length),(10,an u0),(11,an u3),(113,an ue.length),(114,an u2)] [(oi 0 1,.mat 81 (oi 1 1) .int ui),(oi 1 1,.pool 3 .int ui)]) ?_ ?_)
      ·intro _ h;refine Ad (Ae (Ab (sqF h (fun un=>sT [(0,ai bA),(1,ai bB),(7,oS 0 1 u8.length),(10,an u0),(11,an u3),(16,an u2),(113,an ue.length),(114,an u2),(129,.bool un)] [(oi 0 1,.mat 81 (oi 1 1) .int u8),(oi 1 1,.pool 3 .int u8)]) ?_ ?_)))
       ·intro _ h;refine Aa 18 (rsT 4 ?_);rcases A0 h with ⟨q69,h⟩|⟨q69,h⟩
        ·exact rq 120 q69 (rsT 9 (Ap (tn_ (jE []))))
        refine rq 120 q69 (rsT 2 ?_);obtain ⟨x70,e70,h⟩:=Ah h;refine zO (oi 0 1) sI u8.length (Ai e70) (rsl (.own (kid (oi 1 1) u2) .int 0 x70.length) (Ec (o:=oi 0 1) (p:=oi 1 1) (e1:=81) (u:=.int) (xss:=u8) (row:=x70) (j:=u2) kr kr e70) (rsT 1 ?_));obtain ⟨x71,e71,h⟩:=Ah h;exact rs0 (.elt (kid (oi 1 1) u2) u3 0) (zo (t:=.int) (o:=kid (oi 1 1) u2) (len:=x70.length) (k:=.i64) (m:=(u3:Int)) (C1 _) (Ai e71)) (rsl (ai x71) (Hw (i:=kid (oi 1 1) u2) (j:=u3) (k:=0) (e:=3) (t:=.int) (xs:=x70) kr (Be kr e70) e71 kr) (rsT 2 (Ap (tn_ (jE [])))))
       intro un h
       (try dsimp only at h);refine kQ h (fun _ h=>D2 (te_ (be_ (tn_ (jE []))))) fun _ h=>skW (Ab (Aa 10 (rsT 2 ?_)))
       obtain ⟨x74,e74,h⟩:=Ah h;refine zO (oi 0 1) sI u8.length (Ai e74) (rsl (.own (kid (oi 1 1) u2) .int 0 x74.length) (Ec (o:=oi 0 1) (p:=oi 1 1) (e1:=81) (u:=.int) (xss:=u8) (row:=x74) (j:=u2) kr kr e74) (rsT 1 ?_));obtain ⟨x75,e75,h⟩:=Ah h;refine rs0 (.elt (kid (oi 1 1) u2) u3 0) (zo (t:=.int) (o:=kid (oi 1 1) u2) (len:=x74.length) (k:=.i64) (m:=(u3:Int)) (C1 _) (Ai e75)) (rsl (ai x75) (Hw (i:=kid (oi 1 1) u2) (j:=u3) (k:=0) (e:=3) (t:=.int) (xs:=x74) kr (Be kr e74) e75 kr) (rsT 1 (rnW (Ab (Aa 16 (rsT 2 (zO (oi 0 1) sI u8.length (Ai e74) (rsl (.own (kid (oi 1 1) u2) .int 0 x74.length) (Ec (o:=oi 0 1) (p:=oi 1 1) (e1:=81) (u:=.int) (xss:=u8) (row:=x74) (j:=u2) kr kr e74) (rsT 2 (rnW (Ad (lpF h (fun (u4,u5)=>sT [(0,ai bA),(1,ai bB),(7,oS 0 1 u5.length),(10,an u0),(11,an u3),(16,an u2),(17,ai x75),(113,an ue.length),(114,an u2),(141,an x74.length),(142,an u4)] [(oi 0 1,.mat 81 (oi 1 1) .int u5),(oi 1 1,.pool 3 .int u5)]) (Ag []) ?_))))))))))));rintro n_ ⟨u4,u5⟩ c_ h hn77
       (try dsimp only at h);refine Ae (Ab (kQ h (fun q80 h=>?_) fun q80 h=>?_))
       ·have q80_:=of_decide_eq_true q80;refine skW (Ab (Ad (Ae (An 31 (dz0 (oS 0 1 u5.length) (dz0 (an u2) ?_))))));obtain ⟨x83,e83,h⟩:=Ah h;refine dzO (oi 0 1) sI u5.length (Ai e83) (dsl (.own (kid (oi 1 1) u2) .int 0 x83.length) (Ec (o:=oi 0 1) (p:=oi 1 1) (e1:=81) (u:=.int) (xss:=u5) (row:=x83) (j:=u2) kr kr e83) (dsT 4 (dzO (oi 0 1) sI u5.length (Ai e83) (dsl (.own (kid (oi 1 1) u2) .int 0 x83.length) (Ec (o:=oi 0 1) (p:=oi 1 1) (e1:=81) (u:=.int) (xss:=u5) (row:=x83) (j:=u2) kr kr e83) (dz0 (an u4) ?_)))));obtain ⟨x84,e84,h⟩:=Ah h;refine ds0 (.elt (kid (oi 1 1) u2) u4 0) (zo (t:=.int) (o:=kid (oi 1 1) u2) (len:=x83.length) (k:=.i64) (m:=(u4:Int)) (C1 _) (Ai e84)) (dsl (ai x84) (Hw (i:=kid (oi 1 1) u2) (j:=u4) (k:=0) (e:=3) (t:=.int) (xs:=x83) kr (Z5.trans (Be kr e83)) e84 kr) (dz0 (ai bA) (dz0 (ai x75) (dz0 (oS 0 1 u5.length) (dz0 (an u0) ?_)))));obtain ⟨x85,e85,h⟩:=Ah h;refine dzO (oi 0 1) sI u5.length (Ai e85) (dsl (.own (kid (oi 1 1) u0) .int 0 x85.length) (Ec (o:=oi 0 1) (p:=oi 1 1) (e1:=81) (u:=.int) (xss:=u5) (row:=x85) (j:=u0) kr kr e85) (dz0 (an u4) ?_));obtain ⟨x86,e86,h⟩:=Ah h;refine ds0 (.elt (kid (oi 1 1) u0) u4 0) (zo (t:=.int) (o:=kid (oi 1 1) u0) (len:=x85.length) (k:=.i64) (m:=(u4:Int)) (C1 _) (Ai e86)) (dsl (ai x86) (Hw (i:=kid (oi 1 1) u0) (j:=u4) (k:=0) (e:=3) (t:=.int) (xs:=x85) kr (Z5.trans (Be kr e85)) e86 kr) (dcH h Tx fun y87 h=>dcH h Adj fun y88 h=>ds0 (.elt (kid (oi 1 1) u2) u4 0) (zo (t:=.int) (o:=kid (oi 1 1) u2) (len:=x83.length) (k:=.i64) (m:=(u4:Int)) (C1 _) (Ai e84)) (M9 (kid (oi 1 1) u2) (kid (oi 1 1) u2) (.arr 3 .int (x83.set u4 y88)) (Vj (i:=kid (oi 1 1) u2) (j:=u4) (k:=0) (e:=3) (t:=.int) (xs:=x83) (cs:=[ai y88]) (x1:=y88) kr (Z5.trans (Be kr e83)) e84 kr kr) (Aly (Aag (o:=oi 0 1) (p:=oi 1 1) (e1:=81) (e:=3) (u:=.int) (xss:=u5) (k:=u2) (row:=x83) (row':=x83.set u4 y88) kr rfl kr e83 List.length_set) (Ct (As kr) (bn_ (tn_ (wr_ (Aa 33 ?_)))))))));obtain ⟨g89,h⟩:=Ak h;refine zA g89 (rsT 1 (Ap (tn_ ?_)));obtain rfl:=zj h;exact jLw hn77 ((wL 7 ((Eq.trans (b:=u5.length) rfl List.length_set.symm):u5.length=(u5.set u2 (x83.set u4 y88)).length)).trans (Ag []))
       have q80_:=of_decide_eq_false q80;refine D2 (te_ (te_ (be_ (bn_ (tn_ ?_)))));have h:=jO h hn77
       (try dsimp only at h);exact jE []
      intro ui h
      (try dsimp only at h);refine Aa 4 ?_;obtain ⟨g90,h⟩:=Ak h;exact zA g90 (rsT 1 (Ap (tn_ (jL []))))
     have q64_:=of_decide_eq_false q64;refine lxT ?_;have h:=jO h hn61
     (try dsimp only at h);exact jE []
    intro uh h
    (try dsimp only at h);refine Aa 5 (rsT 1 ?_);obtain ⟨g91,h⟩:=Ak h;exact zA g91 (rsT 1 (Ap (bn_ (tn_ (jE [])))))
   rintro ⟨ul,ug⟩ h
   (try dsimp only at h);refine Aa 5 (rsT 1 ?_);obtain ⟨g92,h⟩:=Ak h;exact zA g92 (rsT 1 (Ap (tn_ (jL []))))
  refine lxT ?_;have h:=jO h hn19
  (try dsimp only at h);exact jE []
 rintro ⟨ua,ub⟩ h
 (try dsimp only at h);refine Ab (Aa 6 (rsT 2 ?_));obtain ⟨g94,h⟩:=Ak h;refine rs0 (oS 0 1 ua) (Jj (t:=sI) (i:=oi 0 1) (off:=0) (len:=ub.length) (l:=0) (h:=(ua:Int)) kr kr kr rfl g94 rfl oM) (rsT 1 (rnW (Ac ?_)));obtain rfl:=zj h;exact Cz [oS 0 1 ((ub.take ua).length)] ((Ajl (e1:=81) (e:=3) (u:=.int) (xss:=ub) (n:=ub.length) (k:=ua) 9000 (oi 0 1) (oi 1 1) kr kr rfl kr oM kr kr kr).trans ((Acq 6 (oS 0 1 ua) (oS 0 1 ((ub.take ua).length)) kr (congrArg (fun z_=>((oS 0 1 z_):AV)) ((Alh oM):ua=(ub.take ua).length))).trans (Ag (tl:=[(6,oS 0 1 (ub.take ua).length)]) (g:=2) [(oi 1 1,oi 9000 6)])))
def Y7 (a0 u0:Int) (u1 u2:Int):Option (Ctl (Int×Int×Int) Int) :=
 cond (decide (0<u1))
 ((cond ((Int.tmod u1 2)==1)
   (og (a0≠0) <|
   some (Int.tmod (wI (u2*u0)) a0))
   (some u2)).bind fun u3 =>
 og (a0≠0) <|
 some (Ctl.next (Int.tmod (wI (u0*u0)) a0,wI (Int.tdiv u1 2),u3)))
 (some (Ctl.out u2))
def Vu (a0 a1 a2:Int):Option Int :=
 og (a0≠0) <|
(Aq (fun s_:Int×Int×Int=>Y7 a0 s_.1 s_.2.1 s_.2.2) 4611686018427387904 (a1,a2,Int.tmod 1 a0)).bind fun u0 =>
some u0
theorem Adv (h:Vu bA bB bC=some bD):cK 191 [ai bA,ai bB,ai bC] (A3 bD):=by
 refine cO Tryz.func191 (Ae (Ab (Aa 5 (rsT 1 ?_))));obtain ⟨g3,h⟩:=Ak h;refine rs0 (ai (Int.tmod 1 bA)) (O0 (k:=.i64) (a:=1) (b:=bA) kr kr g3) (rsT 1 (rnW (sqF h (fun u3=>sT [(7,ai u3)] []) ?_ fun u3 h=>Ae (Ac (jS h)))));intro _ h;refine Ad (lpF h (fun (u0,u1,u2)=>sT [(0,ai bA),(1,ai u0),(2,ai u1),(7,ai u2)] []) (Ag []) ?_);rintro n_ ⟨u0,u1,u2⟩ c_ h hn5;refine Ab (Ae (kQ h (fun _ h=>skW (Ab (Ad (sqF h (fun u4=>sT [(0,ai bA),(1,ai u0),(2,ai u1),(7,ai u4)] []) ?_ ?_)))) fun _ h=>lxT (have h:=jO h hn5;jE [])))
 ·intro _ h;refine Ab (Aa 7 (rsT 1 (rs0 (ai (Int.tmod u1 2)) (O0 (k:=.i64) (a:=u1) (b:=2) kr kr (by decide)) (rsT 1 (rnW (kQ h (fun _ h=>Aa 13 (rsT 4 ?_)) fun _ h=>Ay (tn_ (jE []))))))));obtain ⟨g13,h⟩:=Ak h;exact rs0 (ai (Int.tmod (wI (u2*u0)) bA)) (O0 (k:=.i64) (a:=wI (u2*u0)) (b:=bA) kr kr g13) (rsT 1 (Ap (tn_ (jE []))))
 intro u4 h;refine Aa 8 (rsT 4 ?_);obtain ⟨g14,h⟩:=Ak h;exact rs0 (ai (Int.tmod (wI (u0*u0)) bA)) (O0 (k:=.i64) (a:=wI (u0*u0)) (b:=bA) kr kr g14) (rsT 1 (Ap (bn_ (tn_ (wr_ (Aa 11 (rsT 1 (rs0 (ai (wI (Int.tdiv u1 2))) (Au7 (k:=.i64) (a:=u1) (b:=2) kr kr (by decide)) (rsT 1 (Ap (tn_ (jL []))))))))))))
def Aau (a0:Bool):Option Int :=
 cond a0
 (some 1)
 (some 0)
theorem Ahk (h:Aau cA=some bA):cK 192 [.bool cA] (A3 bA):=by
 exact cO Tryz.func192 (Ae (Ab (Ae (kQ h (fun _ h=>Ae (Ac (tr_ (jS h)))) fun _ h=>skW (Ae (Ac (jS h)))))))
def Lc (a0 a1:Int):Option Int :=
 (Aau (a0==2)).bind fun y3 =>
(Vu a0 a1 (wI (wI (a0 - 2)+y3))).bind fun y4 =>
some y4
theorem Yu (h:Lc bA bB=some bC):cK 187 [ai bA,ai bB] (A3 bC):=by
 exact cO Tryz.func187 (Ae (Ab (Aa 12 (rsT 6 (rcH h Ahk fun y3 h=>rsT 1 (rcH h Adv fun y4 h=>rsT 1 (rnW (Ac (jS h)))))))))
def Cs (a3:List Int) (a0 a2:Int) (u0:Nat) (u1:List Int):Option (Ctl (Nat×List Int) (List Int)) :=
 cond (decide ((u0:Int)<(a3.length:Int)))
 ((a3[u0]?).bind fun x9 =>
 (u1[u0]?).bind fun x10 =>
 (Q8 a0 (wI (x10+wI (a2*x9)))).bind fun y11 =>
 og (u0+1<4611686018427387904) <|
 some (Ctl.next (u0+1,u1.set u0 y11)))
 (some (Ctl.out u1))
def Cc (a0:Int) (a1:List Int) (a2:Int) (a3:List Int):Option (List Int) :=
 Aq (fun s_:Nat×List Int=>Cs a3 a0 a2 s_.1 s_.2) 4611686018427387904 (0,a1)
theorem L2 (h:Cc bA aA bB aB=some aC) {n_a1:Nat} (hn_a1:n_a1=aA.length):Cm Tryz.prog Tab 133 [ai bA,oI 0 0 n_a1,ai bB,tI aB] [(oi 0 0,.arr 3 .int aA)] (.tup []) [(oi 0 0,.arr 3 .int aC)]:=by
 refine Bg kr Tryz.func133 (Bt kr) (n:=31) kr (by simp) rfl kr ⟨trivial,trivial⟩ ⟨trivial,trivial⟩ (Ae (Ad (lpF h (fun (u1,u0)=>sT [(0,ai bA),(1,oI 0 0 u0.length),(2,ai bB),(10,tI aB),(11,an aB.length),(12,an u1)] [(oi 0 0,.arr 3 .int u0)]) ((wL 1 (hn_a1:n_a1=aA.length)).trans (Ag [])) ?_)));rintro n_ ⟨u1,u0⟩ c_ h hn3;refine Ae (Ab (kQ h (fun _ h=>skW (Ab (Ad (Ab (Aa 8 (rsT 1 (riH .int h fun x9 _ h=>rsT 3 (rnW (Aa 22 (rsT 5 ?_)))))))))) fun _ h=>D2 (te_ (te_ (be_ (have h:=jO h hn3;(by obtain rfl:=osj h;exact Cz [] (Ag (tl:=[]) (g:=2) []))))))));obtain ⟨x10,e10,h⟩:=Ah h;refine zO (oi 0 0) .int u0.length (Ai e10) (zE (oi 0 0) e10 (rsT 4 (rcH h Aig fun y11 h=>zO (oi 0 0) .int u0.length (Ai e10) (zS (oi 0 0) (y11) e10 (Ap (bn_ (tn_ (wr_ (Aa 24 (raH h fun h=>rsT 1 (Ap (tn_ ?_))))))))))));obtain rfl:=zj h;exact jLw hn3 ((wL 1 (((rfl:u0.length=u0.length).trans List.length_set.symm):u0.length=(u0.set u1 y11).length)).trans (Ag []))
def Fv (a0:LL) (u0:Nat) (u1:LL):Option (Ctl (Nat×LL) (LL)) :=
 cond (decide ((u0:Int)<(a0.length:Int)))
 ((a0[u0]?).bind fun x13 =>
 (Nt x13).bind fun y14 =>
 og (u1.length+1<=1073741824/\(u1.length+1)*24<=140737488355328) <|
 og (u0+1<4611686018427387904) <|
 some (Ctl.next (u0+1,u1++[y14])))
 (some (Ctl.out u1))
def Jd (a0:LL):Option (LL) :=
 og (0<=(0:Int)/\(0:Int)<=(a0.length:Int)/\(a0.length:Int)<=1073741824/\(24:Int)*(a0.length:Int)<=140737488355328) <|
(Aq (fun s_:Nat×LL=>Fv a0 s_.1 s_.2) 4611686018427387904 (0,List.replicate 0 ([]:List Int))).bind fun u0 =>
some u0
theorem Sj (h:Jd dA=some dB):Cm Tryz.prog Tab 111 [tS dA] [] (oS 0 1 dB.length) [(oi 0 1,.mat 81 (oi 1 1) .int dB),(oi 1 1,.pool 3 .int dB)]:=by
 refine Bg kr Tryz.func111 (Bt kr) (n:=22) kr (by simp) rfl kr trivial ⟨⟨3,.tail _ (.head _)⟩,⟨trivial,trivial⟩⟩ (Ae (Ab (Aa 6 (rsT 2 ?_))));obtain ⟨g4,h⟩:=Ak h;refine Agi (oS 128 4 0) (oi 128 4) 81 3 .int (List.replicate 0 ([]:List Int)) trivial (Zj (j:=0) (k:=.i64) (k':=.i64) (m:=0) (c:=(dA.length:Int)) 3 kr kr g4 kr rfl) kr (by rw [List.length_replicate]) kr (rsT 1 (rnW (sqF h (fun u1=>sT [(3,oS 0 1 u1.length)] [(oi 0 1,.mat 81 (oi 1 1) .int u1),(oi 1 1,.pool 3 .int u1)]) ?_ fun u1 h=>Ae (Ac (by obtain rfl:=osj h;exact Cz [oS 0 1 u1.length] (Ag (tl:=[(2,oS 0 1 u1.length)]) (g:=2) []))))));intro _ h;refine Ae (Ad (lpF h (fun (u2,u0)=>sT [(3,oS 0 1 u0.length),(9,tS dA),(10,an dA.length),(11,an u2)] [(oi 0 1,.mat 81 (oi 1 1) .int u0),(oi 1 1,.pool 3 .int u0)]) ((wL 3 (List.length_replicate.symm:0=(List.replicate 0 ([]:List Int)).length)).trans (Ag [(oi 0 1,oi 128 4),(oi 1 1,oi 128 4)])) ?_));rintro n_ ⟨u2,u0⟩ c_ h hn7;refine Ae (Ab (kQ h (fun _ h=>skW (Ab (Ad (Ab (Aa 6 (riH sI h fun x13 _ h=>rsT 2 (rnW (Aa 12 (rsT 2 (rcH h Ado fun y14 h=>Lu (oS 18 9 1) (oi 18 9) (.vec 81 1 1 ([oI 272 8 y14.length])) trivial (Ej kr) ?_)))))))))) fun _ h=>lxT (have h:=jO h hn7;jE [])));obtain ⟨g15,h⟩:=Ak h;refine zV (oi 0 1) (oi 18 9) (oi 1 1) u0 [oI 272 8 y14.length] g15 (rsT 1 (Ap (bn_ (tn_ ⟨_,D3 (e1:=81) (e:=3) (u:=.int) (n:=u0.length+1) (len:=y14.length) (row:=y14) (ys:=y14) (xss:=u0) 9000 (oi 0 10) (oi 1 1) (oi 272 8) kr kr rfl kr kr (M6 rfl) (M2 rfl) kr kr kr,Aa 15 (raH h fun h=>rsT 1 (Ap (tn_ ?_)))⟩))));obtain rfl:=zj h;exact jLw hn7 ((wL 3 ((by simp):u0.length+1=(u0++[y14]).length)).trans (Ag [(oi 0 1,oi 0 10),(oi 1 1,oi 9000 12)]))
def D6 (x13:List Int) (u2 a1 y11:Int) (u0:Nat) (u1:LL):Option (Ctl (Nat×LL) (LL)) :=
 cond (decide ((u0:Int)<(x13.length:Int)))
 ((Cl u1 u2).bind fun x20 =>
 og (0<=(u0:Int)/\u0<x13.length) <|
 (x20[u0]?).bind fun x22 =>
 og (a1≠0) <|
 og (u0+1<4611686018427387904) <|
 some (Ctl.next (u0+1,u1.set u2.toNat (x20.set u0 (Int.tmod (wI (x22*y11)) a1)))))
 (some (Ctl.out u1))
def Bd (u2 u0:Int) (u1 u3 a1:Int) (a2:LL):Option (LL) :=
 cond (u2==0)
 ((Cl a2 u1).bind fun x6 =>
 (Cl a2 u0).bind fun x7 =>
 some ((a2.set u0.toNat x6).set u1.toNat x7))
 (cond (u2==1)
  ((Lc a1 u3).bind fun y11 =>
  (Cl a2 u0).bind fun x13 =>
  Aq (fun s_:Nat×LL=>D6 x13 u0 a1 y11 s_.1 s_.2) 4611686018427387904 (0,a2))
  (cond (u2==2)
   ((Cl a2 u0).bind fun x27 =>
   (Cl a2 u1).bind fun x28 =>
   og (u0.toNat≠u1.toNat) <|
   (Cc a1 x27 (wI (0 - u3)) x28).bind fun y30 =>
   og (y30.length=x27.length) <|
   some (a2.set u0.toNat y30))
   (some a2)))
theorem Hv (h:Bd bA bB bC bD bE dA=some dB) {n_a2:Nat} (hn_a2:n_a2=dA.length):Cm Tryz.prog Tab 182 [.agg [ai bA,ai bB,ai bC,ai bD],ai bE,oS 0 0 n_a2] [(oi 0 0,.mat 81 (oi 1 0) .int dA),(oi 1 0,.pool 3 .int dA)] (.tup []) [(oi 0 0,.mat 81 (oi 0 1) .int dB),(oi 0 1,.pool 3 .int dB)]:=by
 refine Bg kr Tryz.func182 (Bt kr) (n:=78) kr (by simp) rfl kr ⟨⟨3,.tail _ (.head _)⟩,⟨trivial,trivial⟩⟩ ⟨⟨3,.tail _ (.head _)⟩,⟨trivial,trivial⟩⟩ (Ae (Ae (Ad (Ae (kQ h (fun _ h=>?_) fun _ h=>?_)))))
 ·refine An 26 (dsT 9 ?_);obtain ⟨x6,f6,h⟩:=Ah h;obtain ⟨p6,b6,e6⟩:=Ax f6;refine ds0 (.elt (oi 0 0) bC.toNat 0) (zo (t:=sI) (o:=oi 0 0) (len:=n_a2) (k:=.i64) (m:=bC) p6 (Nat.lt_of_lt_of_le (Ai e6) (Nat.le_of_eq (Eq.symm hn_a2)))) (dsl (.own (kid (oi 1 0) bC.toNat) .int 0 x6.length) (Ec (o:=oi 0 0) (p:=oi 1 0) (e1:=81) (u:=.int) (xss:=dA) (row:=x6) (j:=bC.toNat) kr kr e6) (dz0 (oS 0 0 n_a2) (dz0 (.box (oi 3 1) 1) (dzl (ai bB) ?_))));obtain ⟨x7,f7,h⟩:=Ah h;obtain ⟨p7,b7,e7⟩:=Ax f7;refine ds0 (.elt (oi 0 0) bB.toNat 0) (zo (t:=sI) (o:=oi 0 0) (len:=n_a2) (k:=.i64) (m:=bB) p7 (Nat.lt_of_lt_of_le (Ai e7) (Nat.le_of_eq (Eq.symm hn_a2)))) (dsl (.own (kid (oi 1 0) bB.toNat) .int 0 x7.length) (Ec (o:=oi 0 0) (p:=oi 1 0) (e1:=81) (u:=.int) (xss:=dA) (row:=x7) (j:=bB.toNat) kr kr e7) (ds0 (.elt (oi 0 0) bB.toNat 0) (zo (t:=sI) (o:=oi 0 0) (len:=n_a2) (k:=.i64) (m:=bB) p7 (Nat.lt_of_lt_of_le (Ai e7) (Nat.le_of_eq (Eq.symm hn_a2)))) (M9 (oi 0 0) (oi 0 0) (.vec 81 1 n_a2 ((hdL (oi 1 0) .int dA).set bB.toNat (.own (kid (oi 1 0) bC.toNat) .int 0 x6.length))) (Aal (o:=oi 0 0) (e1:=81) (m:=n_a2) (cs:=hdL (oi 1 0) .int dA) (v:=.own (kid (oi 1 0) bC.toNat) .int 0 x6.length) (j:=bB.toNat) kr (Axf kr hn_a2) kr rfl (by rw [C8];exact Ai e7)) (ds0 (.elt (oi 0 0) bC.toNat 0) (zo (t:=sI) (o:=oi 0 0) (len:=n_a2) (k:=.i64) (m:=bC) p6 (Nat.lt_of_lt_of_le (Ai e6) (Nat.le_of_eq (Eq.symm hn_a2)))) (M9 (oi 0 0) (oi 0 0) (.vec 81 1 n_a2 (((hdL (oi 1 0) .int dA).set bB.toNat (.own (kid (oi 1 0) bC.toNat) .int 0 x6.length)).set bC.toNat (.own (kid (oi 1 0) bB.toNat) .int 0 x7.length))) (Aal (o:=oi 0 0) (e1:=81) (m:=n_a2) (cs:=(hdL (oi 1 0) .int dA).set bB.toNat (.own (kid (oi 1 0) bC.toNat) .int 0 x6.length)) (v:=.own (kid (oi 1 0) bB.toNat) .int 0 x7.length) (j:=bC.toNat) kr kr kr rfl (by rw [List.length_set,C8];exact Ai e6)) (Ct (As kr) (bn_ ?_)))))));obtain rfl:=zj h;exact Cz [] ((Aci (e1:=81) (e:=3) (u:=.int) (xss:=dA) (i:=bB.toNat) (j:=bC.toNat) (n:=n_a2) (li:=x7.length) (lj:=x6.length) (ri:=x7) (rj:=x6) 9000 (oi 0 0) (oi 1 0) kr kr hn_a2 kr e7 e6 rfl rfl kr kr).trans (Ag (tl:=[]) (g:=2) [(oi 0 1,oi 9000 26)]))
 refine Ae (kQ h (fun _ h=>?_) fun _ h=>?_)
 ·refine Ab (Aa 13 (rsT 3 (rcH h Yu fun y11 h=>rsT 1 (rnW (Ab (Aa 20 (rsT 3 ?_)))))));obtain ⟨x13,f13,h⟩:=Ah h;obtain ⟨p13,b13,e13⟩:=Ax f13;refine rs0 (.elt (oi 0 0) bB.toNat 0) (zo (t:=sI) (o:=oi 0 0) (len:=n_a2) (k:=.i64) (m:=bB) p13 (Nat.lt_of_lt_of_le (Ai e13) (Nat.le_of_eq (Eq.symm hn_a2)))) (rsl (.own (kid (oi 1 0) bB.toNat) .int 0 x13.length) (Ec (o:=oi 0 0) (p:=oi 1 0) (e1:=81) (u:=.int) (xss:=dA) (row:=x13) (j:=bB.toNat) kr kr e13) (rsT 2 (rnW (Ad (lpF h (fun (u2,u3)=>sT [(1,ai bE),(2,oS 0 0 u3.length),(3,.box (oi 1 1) 0),(6,ai y11),(41,.own (kid (oi 0 1) bB.toNat) .int 0 x13.length),(42,an x13.length),(43,an u2)] [(oi 0 0,.mat 81 (oi 0 1) .int u3),(oi 0 1,.pool 3 .int u3),(oi 1 1,.cells 192 [ai bA,ai bB,ai bC,ai bD])]) ((wL 2 (hn_a2:n_a2=dA.length)).trans (Ag [(oi 0 1,oi 1 0),(oi 1 1,oi 3 1)])) ?_)))));rintro n_ ⟨u2,u3⟩ c_ h hn14;refine Ae (Ab (kQ h (fun _ h=>skW (Ab (Ad (Ab (Aa 8 (rsT 1 ?_)))))) fun _ h=>D2 (te_ (te_ (be_ (bn_ (have h:=jO h hn14;(by obtain rfl:=osj h;exact Cz [] (Ag (tl:=[]) (g:=2) [])))))))));obtain ⟨x20,f20,h⟩:=Ah h;obtain ⟨p20,b20,e20⟩:=Ax f20;obtain ⟨g21,h⟩:=Ak h;refine rs0 (.elt (kid (oi 0 1) bB.toNat) u2 0) (Av2 (t:=.int) (o:=kid (oi 0 1) bB.toNat) (off:=0) (len:=x13.length) (k:=.i64) (m:=(u2:Int)) kr kr rfl g21.1 (Nat.zero_add _) g21.2) ?_;obtain ⟨x22,e22,h⟩:=Ah h;refine rsl (ai x22) (Hw (i:=kid (oi 0 1) bB.toNat) (j:=u2) (k:=0) (e:=3) (t:=.int) (xs:=x20) kr (Be kr e20) e22 kr) (rsT 2 (rnW (An 21 (dz0 (oS 0 0 u3.length) (dz0 (.box (oi 1 1) 1) (dzl (ai bB) (ds0 (.elt (oi 0 0) bB.toNat 0) (zo (t:=sI) (o:=oi 0 0) (len:=u3.length) (k:=.i64) (m:=bB) p20 (Ai e20)) (dsl (.own (kid (oi 0 1) bB.toNat) .int 0 x20.length) (Ec (o:=oi 0 0) (p:=oi 0 1) (e1:=81) (u:=.int) (xss:=u3) (row:=x20) (j:=bB.toNat) kr kr e20) (dsT 5 ?_)))))))));obtain ⟨g23,h⟩:=Ak h;refine ds0 (ai (Int.tmod (wI (x22*y11)) bE)) (O0 (k:=.i64) (a:=wI (x22*y11)) (b:=bE) kr kr g23) (ds0 (.elt (kid (oi 0 1) bB.toNat) u2 0) (zo (t:=.int) (o:=kid (oi 0 1) bB.toNat) (len:=x20.length) (k:=.i64) (m:=(u2:Int)) (C1 _) (Ai e22)) (M9 (kid (oi 0 1) bB.toNat) (kid (oi 0 1) bB.toNat) (.arr 3 .int (x20.set u2 (Int.tmod (wI (x22*y11)) bE))) (Vj (i:=kid (oi 0 1) bB.toNat) (j:=u2) (k:=0) (e:=3) (t:=.int) (xs:=x20) (cs:=[ai (Int.tmod (wI (x22*y11)) bE)]) (x1:=Int.tmod (wI (x22*y11)) bE) kr (Z5.trans (Be kr e20)) e22 kr kr) (Aly (Aag (o:=oi 0 0) (p:=oi 0 1) (e1:=81) (e:=3) (u:=.int) (xss:=u3) (k:=bB.toNat) (row:=x20) (row':=x20.set u2 (Int.tmod (wI (x22*y11)) bE)) kr rfl kr e20 List.length_set) (Ct (As kr) (bn_ (tn_ (wr_ (Aa 23 (raH h fun h=>rsT 1 (Ap (tn_ ?_)))))))))));obtain rfl:=zj h;exact jLw hn14 ((wL 2 ((Eq.trans (b:=u3.length) rfl List.length_set.symm):u3.length=(u3.set bB.toNat (x20.set u2 (Int.tmod (wI (x22*y11)) bE))).length)).trans (Ag []))
 refine Ae (kQ h (fun _ h=>An 25 (dz0 (ai bE) (dz0 (oS 0 0 n_a2) (dz0 (.box (oi 3 1) 1) (dzl (ai bB) ?_))))) fun _ h=>Ay (bn_ (by obtain rfl:=osj h;exact Cz [] (Ag (tl:=[]) (g:=2) [(oi 0 1,oi 1 0)]))));obtain ⟨x27,f27,h⟩:=Ah h;obtain ⟨p27,b27,e27⟩:=Ax f27;refine ds0 (.elt (oi 0 0) bB.toNat 0) (zo (t:=sI) (o:=oi 0 0) (len:=n_a2) (k:=.i64) (m:=bB) p27 (Nat.lt_of_lt_of_le (Ai e27) (Nat.le_of_eq (Eq.symm hn_a2)))) (dsl (.own (kid (oi 1 0) bB.toNat) .int 0 x27.length) (Ec (o:=oi 0 0) (p:=oi 1 0) (e1:=81) (u:=.int) (xss:=dA) (row:=x27) (j:=bB.toNat) kr kr e27) (dsT 6 ?_));obtain ⟨x28,f28,h⟩:=Ah h;obtain ⟨p28,b28,e28⟩:=Ax f28;refine ds0 (.elt (oi 0 0) bC.toNat 0) (zo (t:=sI) (o:=oi 0 0) (len:=n_a2) (k:=.i64) (m:=bC) p28 (Nat.lt_of_lt_of_le (Ai e28) (Nat.le_of_eq (Eq.symm hn_a2)))) (dsl (.own (kid (oi 1 0) bC.toNat) .int 0 x28.length) (Ec (o:=oi 0 0) (p:=oi 1 0) (e1:=81) (u:=.int) (xss:=dA) (row:=x28) (j:=bC.toNat) kr kr e28) ?_);obtain ⟨g29,h⟩:=Ak h;obtain ⟨y30,h30,h⟩:=Ah h;refine Aku (.tup []) [(kid (oi 1 0) bB.toNat,some (.arr 3 .int y30)),(kid (oi 1 0) bB.toNat,none)] [(oi 0 0,kid (oi 1 0) bB.toNat)] [ai bE,.own (kid (oi 1 0) bB.toNat) .int 0 x27.length,ai (wI (0 - bD)),.own (kid (oi 1 0) bC.toNat) .int 0 x28.length] (caps:=[]) trivial (L2 h30 rfl) kr ⟨Ad5 kr e27,trivial⟩ (.cons (.ren kr) (.cons (.ren kr) (.cons (.ren kr) (.cons (.gnd kr (C2 (e:=3) (u:=.int) (xs:=x28) ((At1 (L:=[kid (oi 1 0) bB.toNat]) kr ⟨Ave g29,trivial⟩).trans ((E6 (Pz (t:=.int) (off:=0) (len:=x28.length) 3 rfl kr)).trans (Be kr e28))) rfl)) .nil)))) (Ar kr kr ⟨.arg (by simp [AV.nmsL,AV.nms,Bc]),trivial⟩) (Av1 (Pz (t:=.int) (off:=0) (len:=x27.length) 1 rfl kr) Au8) ?_;obtain ⟨g31,h⟩:=Ak h;refine Aly (Aag (o:=oi 0 0) (p:=oi 1 0) (e1:=81) (e:=3) (u:=.int) (xss:=dA) (k:=bB.toNat) (row:=x27) (row':=y30) kr rfl kr e27 g31) (Ct (As kr) (bn_ ?_));obtain rfl:=zj h;exact Cz [] (Ag (tl:=[]) (g:=2) [(oi 0 1,oi 1 0)])
def Oe:AC :=
 (.seq (rg [xo 4 (.i (.box 192 (tm 0)))])
 (.seq (.seq (rg [xo 5 (.i (.ld false 4 (tm 4))),xf 6 1 4,xl 7 6,xf 8 1 4,xl 9 8,xo 10 (.build [.int .i64 0,.int .i64 0,.int .i64 0,.int .i64 0] [(0,1,ci 0),(1,1,tm 7),(2,1,tm 9)]),xo 11 (.i (.cmp false 7 (tm 5) (tm 10)))])
 (.cond (tm 11)
  .ret
  .skip))
 (.seq (rg [xo 12 (.i (.ld false 4 (tm 4))),xl 13 1,xl 14 2,xo 15 (qc 182 [tm 12,tm 13,tm 14] [[none,none,none,none],[],[some sI]])])
 (rg [xo 16 (.i (.ld false 4 (tm 4))),xl 17 1,xl 18 3,xo 19 (qc 182 [tm 16,tm 17,tm 18] [[none,none,none,none],[],[some sI]])]))))
def Ub:List Res:=[]
theorem Uj:C0 Tryz.prog Tryz.f181=some (Oe,Ub):=by kernel_rfl
def Bq (u1 u0:Int) (u2 u3 u6:Int) (u4 u5:LL):Option (LL×LL) :=
 cond ([u1,u0,u2,u3]==[0,u0,u0,0])
 (some (u4,u5))
 ((Bd u1 u0 u2 u3 u6 u4).bind fun y7 =>
 og (y7.length=u4.length) <|
 (Bd u1 u0 u2 u3 u6 u5).bind fun y9 =>
 og (y9.length=u5.length) <|
 some (y7,y9))
theorem I6 (h:Bq bA bB bC bD bE dA dB=some eA):Cm Tryz.prog Tab 181 [.agg [ai bA,ai bB,ai bC,ai bD],.box (oi 0 0) 0,.box (oi 1 0) 0,.box (oi 4 0) 0] [(oi 0 0,.cells 3 [ai bE]),(oi 1 0,.cells 28 [oS 2 0 dA.length]),(oi 2 0,.mat 81 (oi 3 0) .int dA),(oi 3 0,.pool 3 .int dA),(oi 4 0,.cells 28 [oS 5 0 dB.length]),(oi 5 0,.mat 81 (oi 6 0) .int dB),(oi 6 0,.pool 3 .int dB)] (.tup []) [(oi 0 0,.cells 3 [ai bE]),(oi 1 0,.cells 28 [oS 2 0 eA.1.length]),(oi 2 0,.mat 81 (oi 0 1) .int eA.1),(oi 0 1,.pool 3 .int eA.1),(oi 4 0,.cells 28 [oS 5 0 eA.2.length]),(oi 5 0,.mat 81 (oi 1 1) .int eA.2),(oi 1 1,.pool 3 .int eA.2)]:=by
 refine Bg kr Tryz.func181 Uj (n:=20) kr (by simp) rfl kr ⟨trivial,⟨trivial,⟨⟨3,.tail _ (.tail _ (.tail _ (.head _)))⟩,⟨trivial,⟨trivial,⟨⟨3,.tail _ (.tail _ (.tail _ (.tail _ (.tail _ (.tail _ (.head _))))))⟩,⟨trivial,trivial⟩⟩⟩⟩⟩⟩⟩ ⟨trivial,⟨trivial,⟨⟨3,.tail _ (.tail _ (.tail _ (.head _)))⟩,⟨trivial,⟨trivial,⟨⟨3,.tail _ (.tail _ (.tail _ (.tail _ (.tail _ (.tail _ (.head _))))))⟩,⟨trivial,trivial⟩⟩⟩⟩⟩⟩⟩ ?_;unfold Oe;refine Ae (Ab (Ae (kQ h (fun _ h=>Ac (tr_ (by obtain rfl:=osj h;exact Cz [] (Ag (tl:=[]) (g:=2) [(oi 0 1,oi 3 0),(oi 1 1,oi 6 0)])))) fun _ h=>skW (Ab (Aa 13 (rsT 3 (rcM h [(oi 0 0,oi 2 0),(oi 1 0,oi 3 0)] [.agg [ai bA,ai bB,ai bC,ai bD],ai bE,oS 2 0 dA.length] (fun h=>Hv h rfl) ⟨kr,⟨kr,trivial⟩⟩ (aR kr) (Ar kr kr ⟨Bi kr,⟨Fn (o:=oi 2 0) (p:=oi 3 0) (e1:=81) (m:=dA.length) (u:=.int) (xss:=dA) (Bi kr) kr,trivial⟩⟩) fun y7 h=>rnW (Aa 17 (rsT 3 ?_)))))))));obtain ⟨g8,h⟩:=Ak h;obtain ⟨y9,h9,h⟩:=Ah h;refine Ku (.tup []) [(oi 5 0,some (.mat 81 (oi 304 16) .int y9)),(oi 304 16,some (.pool 3 .int y9)),(oi 5 0,none),(oi 6 0,some (.pool 3 .int []))] [(oi 0 0,oi 5 0),(oi 1 0,oi 6 0)] [.agg [ai bA,ai bB,ai bC,ai bD],ai bE,oS 5 0 dB.length] (caps:=[]) trivial (Hv h9 rfl) kr ⟨kr,⟨kr,trivial⟩⟩ (.cons (.ren kr) (.cons (.ren kr) (.cons (.ren kr) .nil))) (Ar kr kr ⟨Bi kr,⟨Fn (o:=oi 5 0) (p:=oi 6 0) (e1:=81) (m:=dB.length) (u:=.int) (xss:=dB) (Bi kr) kr,trivial⟩⟩) (Ap ?_);obtain ⟨g10,h⟩:=Ak h;obtain rfl:=zj h;exact Cz [] ((Kp (oi 1 0) (.cells 28 [oS 2 0 dA.length]) (.cells 28 [oS 2 0 y7.length]) kr (congrArg (fun z_=>(.cells 28 [oS 2 0 z_]:Ob)) (g8.symm:dA.length=y7.length))).trans ((Kp (oi 4 0) (.cells 28 [oS 5 0 dB.length]) (.cells 28 [oS 5 0 y9.length]) kr (congrArg (fun z_=>(.cells 28 [oS 5 0 z_]:Ob)) (g10.symm:dB.length=y9.length))).trans (Ag (tl:=[]) (g:=2) [(oi 0 1,oi 240 12),(oi 1 1,oi 304 16)])))
def Eb (l7_p0:LL) (u1 u0:Nat):Option (Ctl Nat Nat) :=
 (cond (decide ((u0:Int)<(l7_p0.length:Int)))
  ((l7_p0[u0]?).bind fun x19 =>
  (x19[u1]?).bind fun x20 =>
  some (x20==0))
  (some false)).bind fun u2 =>
cond u2
 (og (u0+1<4611686018427387904) <|
 some (Ctl.next (u0+1)))
 (some (Ctl.out u0))
def Fh (y31:LL×LL) (u1 u2:Nat) (a0:Int) (u0:Nat) (l34_p0 l34_p2:LL):Option (Ctl (Nat×LL×LL) (LL×LL)) :=
 cond (decide ((u0:Int)<(y31.1.length:Int)))
 (((cond ((u0:Int) !=(u1:Int))
       ((l34_p0[u0]?).bind fun x42 =>
       (x42[u2]?).bind fun x43 =>
       some (x43 !=0))
       (some false)).bind fun u3 =>
  cond u3
   ((l34_p0[u0]?).bind fun x45 =>
   (x45[u2]?).bind fun x46 =>
   (Bq 2 (u0:Int) (u1:Int) x46 a0 l34_p0 l34_p2).bind fun y47 =>
   some (y47.1,y47.2))
   (some (l34_p0,l34_p2))).bind fun (l38_p0,l38_p2) =>
 og (u0+1<4611686018427387904) <|
 some (Ctl.next (u0+1,l38_p0,l38_p2)))
 (some (Ctl.out (l34_p0,l34_p2)))
def Db (a2 a0:Int) (u0 u1:Nat) (l7_p0 l7_p2:LL):Option (Ctl (Nat×Nat×LL×LL) (Nat×LL×LL)) :=
 (cond (decide ((u1:Int)<a2))
  (some (decide ((u0:Int)<(l7_p0.length:Int))))
  (some false)).bind fun u3 =>
cond u3
 (((Aq (fun s_:Nat=>Eb l7_p0 u1 s_) 4611686018427387904 u0).bind fun u2 =>
  cond ((u2:Int)==(l7_p0.length:Int))
   (some (u0,l7_p0,l7_p2))
   ((Bq 0 (u0:Int) (u2:Int) 0 a0 l7_p0 l7_p2).bind fun y27 =>
   (y27.1[u0]?).bind fun x29 =>
   (x29[u1]?).bind fun x30 =>
   (Bq 1 (u0:Int) 0 x30 a0 y27.1 y27.2).bind fun y31 =>
   (Aq (fun s_:Nat×LL×LL=>Fh y31 u0 u1 a0 s_.1 s_.2.1 s_.2.2) 4611686018427387904 (0,y31.1,y31.2)).bind fun (l32_p0,l32_p2) =>
   og (u0+1<4611686018427387904) <|
   some (u0+1,l32_p0,l32_p2))).bind fun (u4,l12_p0,l12_p2) =>
 og (u1+1<4611686018427387904) <|
 some (Ctl.next (u4,u1+1,l12_p0,l12_p2)))
 (some (Ctl.out (u0,l7_p0,l7_p2)))
def Fs (a0:Int) (a1:LL) (a2:Int) (a3:LL):Option (LL×LL×Nat) :=
 (Aq (fun s_:Nat×Nat×LL×LL=>Db a2 a0 s_.1 s_.2.1 s_.2.2.1 s_.2.2.2) 4611686018427387904 (0,0,a1,a3)).bind fun (u0,l5_p0,l5_p2) =>
some (l5_p0,l5_p2,u0)
theorem Ph (h:Fs bA dA bB dB=some fA) {n_a1:Nat} (hn_a1:n_a1=dA.length) {n_a3:Nat} (hn_a3:n_a3=dB.length):Cm Tryz.prog Tab 167 [ai bA,oS 0 0 n_a1,ai bB,oS 2 0 n_a3] [(oi 0 0,.mat 81 (oi 1 0) .int dA),(oi 1 0,.pool 3 .int dA),(oi 2 0,.mat 81 (oi 3 0) .int dB),(oi 3 0,.pool 3 .int dB)] (an fA.2.2) [(oi 0 0,.mat 81 (oi 0 1) .int fA.1),(oi 0 1,.pool 3 .int fA.1),(oi 2 0,.mat 81 (oi 1 1) .int fA.2.1),(oi 1 1,.pool 3 .int fA.2.1)]:=by
 refine Bg kr Tryz.func167 (Bt kr) (n:=97) kr (by simp) rfl kr ⟨⟨3,.tail _ (.head _)⟩,⟨trivial,⟨⟨3,.tail _ (.tail _ (.tail _ (.head _)))⟩,⟨trivial,trivial⟩⟩⟩⟩ ⟨⟨3,.tail _ (.head _)⟩,⟨trivial,⟨⟨3,.tail _ (.tail _ (.tail _ (.head _)))⟩,⟨trivial,trivial⟩⟩⟩⟩ (Ae (Ae (Ae (sqF h (fun (u4,l5_p0,l5_p2)=>sT [(9,an u4)] [(oi 0 0,.mat 81 (oi 0 1) .int l5_p0),(oi 0 1,.pool 3 .int l5_p0),(oi 2 0,.mat 81 (oi 1 1) .int l5_p2),(oi 1 1,.pool 3 .int l5_p2)]) ?_ ?_))))
 ·intro _ h;refine Ae (Ad (lpF h (fun (u1,u0,l7_p0,l7_p2)=>sT [(2,ai bB),(5,.box (oi 0 1) 0),(9,an u1),(10,.fn 181 [.box (oi 1 1) 0,.box (oi 0 1) 0,.box (oi 2 1) 0]),(11,an u0)] [(oi 0 1,.cells 28 [oS 0 0 l7_p0.length]),(oi 1 1,.cells 3 [ai bA]),(oi 2 1,.cells 28 [oS 2 0 l7_p2.length]),(oi 0 0,.mat 81 (oi 3 1) .int l7_p0),(oi 3 1,.pool 3 .int l7_p0),(oi 2 0,.mat 81 (oi 4 1) .int l7_p2),(oi 4 1,.pool 3 .int l7_p2)]) ((Kp (oi 5 2) (.cells 28 [oS 0 0 n_a1]) (.cells 28 [oS 0 0 dA.length]) kr (congrArg (fun z_=>(.cells 28 [oS 0 0 z_]:Ob)) (hn_a1:n_a1=dA.length))).trans ((Kp (oi 7 3) (.cells 28 [oS 2 0 n_a3]) (.cells 28 [oS 2 0 dB.length]) kr (congrArg (fun z_=>(.cells 28 [oS 2 0 z_]:Ob)) (hn_a3:n_a3=dB.length))).trans (Ag [(oi 0 1,oi 5 2),(oi 3 1,oi 1 0),(oi 1 1,oi 4 1),(oi 2 1,oi 7 3),(oi 4 1,oi 3 0)]))) ?_));rintro n_ ⟨u1,u0,l7_p0,l7_p2⟩ c_ h hn7;refine Ab (sqF h (fun u6=>sT [(2,ai bB),(5,.box (oi 0 1) 0),(9,an u1),(10,.fn 181 [.box (oi 1 1) 0,.box (oi 0 1) 0,.box (oi 2 1) 0]),(11,an u0),(23,.bool u6)] [(oi 0 1,.cells 28 [oS 0 0 l7_p0.length]),(oi 1 1,.cells 3 [ai bA]),(oi 2 1,.cells 28 [oS 2 0 l7_p2.length]),(oi 0 0,.mat 81 (oi 3 1) .int l7_p0),(oi 3 1,.pool 3 .int l7_p0),(oi 2 0,.mat 81 (oi 4 1) .int l7_p2),(oi 4 1,.pool 3 .int l7_p2)]) (fun _ h=>Aa 11 (rsT 4 (kR h 18 (fun _ h=>rsT 5 (Ap (tn_ (jE [])))) fun _ h=>rsT 5 (Ap (tn_ (jE [])))))) ?_);intro u6 h;refine kQ h (fun _ h=>skW (sqF h (fun (u7,l12_p0,l12_p2)=>sT [(2,ai bB),(5,.box (oi 0 1) 0),(9,an u7),(10,.fn 181 [.box (oi 1 1) 0,.box (oi 0 1) 0,.box (oi 2 1) 0]),(11,an u0)] [(oi 0 1,.cells 28 [oS 0 0 l12_p0.length]),(oi 1 1,.cells 3 [ai bA]),(oi 2 1,.cells 28 [oS 2 0 l12_p2.length]),(oi 0 0,.mat 81 (oi 3 1) .int l12_p0),(oi 3 1,.pool 3 .int l12_p0),(oi 2 0,.mat 81 (oi 4 1) .int l12_p2),(oi 4 1,.pool 3 .int l12_p2)]) ?_ ?_)) fun _ h=>lxT (have h:=jO h hn7;jE [(oi 0 1,oi 3 1),(oi 1 1,oi 4 1)])
  ·intro _ h;refine Ad (Ae (sqF h (fun u5=>sT [(2,ai bB),(5,.box (oi 0 1) 0),(9,an u1),(10,.fn 181 [.box (oi 1 1) 0,.box (oi 0 1) 0,.box (oi 2 1) 0]),(11,an u0),(12,an u5)] [(oi 0 1,.cells 28 [oS 0 0 l7_p0.length]),(oi 1 1,.cells 3 [ai bA]),(oi 2 1,.cells 28 [oS 2 0 l7_p2.length]),(oi 0 0,.mat 81 (oi 3 1) .int l7_p0),(oi 3 1,.pool 3 .int l7_p0),(oi 2 0,.mat 81 (oi 4 1) .int l7_p2),(oi 4 1,.pool 3 .int l7_p2)]) ?_ ?_))
   ·intro _ h;refine Ad (lpF h (fun u3=>sT [(2,ai bB),(5,.box (oi 0 1) 0),(9,an u1),(10,.fn 181 [.box (oi 1 1) 0,.box (oi 0 1) 0,.box (oi 2 1) 0]),(11,an u0),(12,an u3)] [(oi 0 1,.cells 28 [oS 0 0 l7_p0.length]),(oi 1 1,.cells 3 [ai bA]),(oi 2 1,.cells 28 [oS 2 0 l7_p2.length]),(oi 0 0,.mat 81 (oi 3 1) .int l7_p0),(oi 3 1,.pool 3 .int l7_p0),(oi 2 0,.mat 81 (oi 4 1) .int l7_p2),(oi 4 1,.pool 3 .int l7_p2)]) (Ag []) ?_);intro n_ u3 c_ h hn15;refine Ab (sqF h (fun u8=>sT [(2,ai bB),(5,.box (oi 0 1) 0),(9,an u1),(10,.fn 181 [.box (oi 1 1) 0,.box (oi 0 1) 0,.box (oi 2 1) 0]),(11,an u0),(12,an u3),(40,.bool u8)] [(oi 0 1,.cells 28 [oS 0 0 l7_p0.length]),(oi 1 1,.cells 3 [ai bA]),(oi 2 1,.cells 28 [oS 2 0 l7_p2.length]),(oi 0 0,.mat 81 (oi 3 1) .int l7_p0),(oi 3 1,.pool 3 .int l7_p0),(oi 2 0,.mat 81 (oi 4 1) .int l7_p2),(oi 4 1,.pool 3 .int l7_p2)]) ?_ fun u8 h=>kQ h (fun _ h=>skW (Ad (Aa 5 (rsT 1 (raH h fun h=>rsT 1 (Ap (bn_ (tn_ (jL []))))))))) fun _ h=>lxT (have h:=jO h hn15;jE []));intro _ h;refine Aa 16 (rsT 5 ?_);rcases A0 h with ⟨q18,h⟩|⟨q18,h⟩
    ·refine rq 31 q18 (rsT 2 ?_);obtain ⟨x19,e19,h⟩:=Ah h;refine zO (oi 0 0) sI l7_p0.length (Ai e19) (rsl (.own (kid (oi 3 1) u3) .int 0 x19.length) (Ec (o:=oi 0 0) (p:=oi 3 1) (e1:=81) (u:=.int) (xss:=l7_p0) (row:=x19) (j:=u3) kr kr e19) (rsT 1 ?_));obtain ⟨x20,e20,h⟩:=Ah h;exact rs0 (.elt (kid (oi 3 1) u3) u0 0) (zo (t:=.int) (o:=kid (oi 3 1) u3) (len:=x19.length) (k:=.i64) (m:=(u0:Int)) (C1 _) (Ai e20)) (rsl (ai x20) (Hw (i:=kid (oi 3 1) u3) (j:=u0) (k:=0) (e:=3) (t:=.int) (xs:=x19) kr (Be kr e19) e20 kr) (rsT 2 (Ap (tn_ (jE [])))))
    exact rq 31 q18 (rsT 9 (Ap (tn_ (jE []))))
   intro u5 h;refine Ab (Ae (kQ h (fun _ h=>D2 (te_ (be_ (tn_ (jE []))))) fun _ h=>skW (Ab (Aa 11 (rsT 4 ?_)))));obtain ⟨y27,h27,h⟩:=Ah h;refine Ku (.tup []) [(oi 1 1,some (.cells 3 [ai bA])),(oi 0 1,some (.cells 28 [oS 0 0 y27.1.length])),(oi 0 0,some (.mat 81 (oi 816 10) .int y27.1)),(oi 816 10,some (.pool 3 .int y27.1)),(oi 2 1,some (.cells 28 [oS 2 0 y27.2.length])),(oi 2 0,some (.mat 81 (oi 817 10) .int y27.2)),(oi 817 10,some (.pool 3 .int y27.2)),(oi 1 1,none),(oi 0 1,none),(oi 0 0,none),(oi 3 1,some (.pool 3 .int [])),(oi 2 1,none),(oi 2 0,none),(oi 4 1,some (.pool 3 .int []))] [(oi 0 0,oi 1 1),(oi 1 0,oi 0 1),(oi 2 0,oi 0 0),(oi 3 0,oi 3 1),(oi 4 0,oi 2 1),(oi 5 0,oi 2 0),(oi 6 0,oi 4 1)] [.agg [ai 0,an u1,an u5,ai 0],.box (oi 1 1) 0,.box (oi 0 1) 0,.box (oi 2 1) 0] (caps:=[.box (oi 1 1) 0,.box (oi 0 1) 0,.box (oi 2 1) 0]) trivial (I6 h27) kr ⟨kr,⟨kr,⟨kr,⟨kr,⟨kr,⟨kr,⟨kr,trivial⟩⟩⟩⟩⟩⟩⟩ (.cons (.ren kr) (.cons (.ren kr) (.cons (.ren kr) (.cons (.ren kr) .nil)))) (Ar kr kr ⟨Bi kr,⟨Bi kr,⟨Gu (k:=oi 0 1) (ty:=28) (cs:=[oS 0 0 l7_p0.length]) (Bi kr) kr kr,⟨Fn (o:=oi 0 0) (p:=oi 3 1) (e1:=81) (m:=l7_p0.length) (u:=.int) (xss:=l7_p0) (Gu (k:=oi 0 1) (ty:=28) (cs:=[oS 0 0 l7_p0.length]) (Bi kr) kr kr) kr,⟨Bi kr,⟨Gu (k:=oi 2 1) (ty:=28) (cs:=[oS 2 0 l7_p2.length]) (Bi kr) kr kr,⟨Fn (o:=oi 2 0) (p:=oi 4 1) (e1:=81) (m:=l7_p2.length) (u:=.int) (xss:=l7_p2) (Gu (k:=oi 2 1) (ty:=28) (cs:=[oS 2 0 l7_p2.length]) (Bi kr) kr kr) kr,trivial⟩⟩⟩⟩⟩⟩⟩) (rnW (Ab (Aa 22 (rsT 4 ?_))));obtain ⟨x29,e29,h⟩:=Ah h;refine zO (oi 0 0) sI y27.1.length (Ai e29) (rsl (.own (kid (oi 816 10) u1) .int 0 x29.length) (Ec (o:=oi 0 0) (p:=oi 816 10) (e1:=81) (u:=.int) (xss:=y27.1) (row:=x29) (j:=u1) kr kr e29) (rsT 1 ?_));obtain ⟨x30,e30,h⟩:=Ah h;refine rs0 (.elt (kid (oi 816 10) u1) u0 0) (zo (t:=.int) (o:=kid (oi 816 10) u1) (len:=x29.length) (k:=.i64) (m:=(u0:Int)) (C1 _) (Ai e30)) (rsl (ai x30) (Hw (i:=kid (oi 816 10) u1) (j:=u0) (k:=0) (e:=3) (t:=.int) (xs:=x29) kr (Be kr e29) e30 kr) (rsT 1 ?_));obtain ⟨y31,h31,h⟩:=Ah h;refine Ku (.tup []) [(oi 1 1,some (.cells 3 [ai bA])),(oi 0 1,some (.cells 28 [oS 0 0 y31.1.length])),(oi 0 0,some (.mat 81 (oi 992 21) .int y31.1)),(oi 992 21,some (.pool 3 .int y31.1)),(oi 2 1,some (.cells 28 [oS 2 0 y31.2.length])),(oi 2 0,some (.mat 81 (oi 993 21) .int y31.2)),(oi 993 21,some (.pool 3 .int y31.2)),(oi 1 1,none),(oi 0 1,none),(oi 0 0,none),(oi 816 10,some (.pool 3 .int [])),(oi 2 1,none),(oi 2 0,none),(oi 817 10,some (.pool 3 .int []))] [(oi 0 0,oi 1 1),(oi 1 0,oi 0 1),(oi 2 0,oi 0 0),(oi 3 0,oi 816 10),(oi 4 0,oi 2 1),(oi 5 0,oi 2 0),(oi 6 0,oi 817 10)] [.agg [ai 1,an u1,ai 0,ai x30],.box (oi 1 1) 0,.box (oi 0 1) 0,.box (oi 2 1) 0] (caps:=[.box (oi 1 1) 0,.box (oi 0 1) 0,.box (oi 2 1) 0]) trivial (I6 h31) kr ⟨kr,⟨kr,⟨kr,⟨kr,⟨kr,⟨kr,⟨kr,trivial⟩⟩⟩⟩⟩⟩⟩ (.cons (.ren kr) (.cons (.ren kr) (.cons (.ren kr) (.cons (.ren kr) .nil)))) (Ar kr kr ⟨Bi kr,⟨Bi kr,⟨Gu (k:=oi 0 1) (ty:=28) (cs:=[oS 0 0 y27.1.length]) (Bi kr) kr kr,⟨Fn (o:=oi 0 0) (p:=oi 816 10) (e1:=81) (m:=y27.1.length) (u:=.int) (xss:=y27.1) (Gu (k:=oi 0 1) (ty:=28) (cs:=[oS 0 0 y27.1.length]) (Bi kr) kr kr) kr,⟨Bi kr,⟨Gu (k:=oi 2 1) (ty:=28) (cs:=[oS 2 0 y27.2.length]) (Bi kr) kr kr,⟨Fn (o:=oi 2 0) (p:=oi 817 10) (e1:=81) (m:=y27.2.length) (u:=.int) (xss:=y27.2) (Gu (k:=oi 2 1) (ty:=28) (cs:=[oS 2 0 y27.2.length]) (Bi kr) kr kr) kr,trivial⟩⟩⟩⟩⟩⟩⟩) (rnW (sqF h (fun (l32_p0,l32_p2)=>sT [(2,ai bB),(5,.box (oi 0 1) 0),(9,an u1),(10,.fn 181 [.box (oi 1 1) 0,.box (oi 0 1) 0,.box (oi 2 1) 0]),(11,an u0)] [(oi 0 1,.cells 28 [oS 0 0 l32_p0.length]),(oi 1 1,.cells 3 [ai bA]),(oi 2 1,.cells 28 [oS 2 0 l32_p2.length]),(oi 0 0,.mat 81 (oi 3 1) .int l32_p0),(oi 3 1,.pool 3 .int l32_p0),(oi 2 0,.mat 81 (oi 4 1) .int l32_p2),(oi 4 1,.pool 3 .int l32_p2)]) ?_ ?_))
   ·intro _ h;refine Ae (Ad (lpF h (fun (u2,l34_p0,l34_p2)=>sT [(2,ai bB),(5,.box (oi 0 1) 0),(9,an u1),(10,.fn 181 [.box (oi 1 1) 0,.box (oi 0 1) 0,.box (oi 2 1) 0]),(11,an u0),(64,an y31.1.length),(65,an u2)] [(oi 0 1,.cells 28 [oS 0 0 l34_p0.length]),(oi 1 1,.cells 3 [ai bA]),(oi 2 1,.cells 28 [oS 2 0 l34_p2.length]),(oi 0 0,.mat 81 (oi 3 1) .int l34_p0),(oi 3 1,.pool 3 .int l34_p0),(oi 2 0,.mat 81 (oi 4 1) .int l34_p2),(oi 4 1,.pool 3 .int l34_p2)]) (Ag [(oi 3 1,oi 992 21),(oi 4 1,oi 993 21)]) ?_));rintro n_ ⟨u2,l34_p0,l34_p2⟩ c_ h hn34;refine Ae (Ab (kQ h (fun _ h=>skW (sqF h (fun (l38_p0,l38_p2)=>sT [(2,ai bB),(5,.box (oi 0 1) 0),(9,an u1),(10,.fn 181 [.box (oi 1 1) 0,.box (oi 0 1) 0,.box (oi 2 1) 0]),(11,an u0),(64,an y31.1.length),(65,an u2)] [(oi 0 1,.cells 28 [oS 0 0 l38_p0.length]),(oi 1 1,.cells 3 [ai bA]),(oi 2 1,.cells 28 [oS 2 0 l38_p2.length]),(oi 0 0,.mat 81 (oi 3 1) .int l38_p0),(oi 3 1,.pool 3 .int l38_p0),(oi 2 0,.mat 81 (oi 4 1) .int l38_p2),(oi 4 1,.pool 3 .int l38_p2)]) ?_ ?_)) fun _ h=>lxT (have h:=jO h hn34;jE [])))
    ·intro _ h;refine Ad (Ae (sqF h (fun u9=>sT [(2,ai bB),(5,.box (oi 0 1) 0),(9,an u1),(10,.fn 181 [.box (oi 1 1) 0,.box (oi 0 1) 0,.box (oi 2 1) 0]),(11,an u0),(13,an u2),(64,an y31.1.length),(65,an u2),(80,.bool u9)] [(oi 0 1,.cells 28 [oS 0 0 l34_p0.length]),(oi 1 1,.cells 3 [ai bA]),(oi 2 1,.cells 28 [oS 2 0 l34_p2.length]),(oi 0 0,.mat 81 (oi 3 1) .int l34_p0),(oi 3 1,.pool 3 .int l34_p0),(oi 2 0,.mat 81 (oi 4 1) .int l34_p2),(oi 4 1,.pool 3 .int l34_p2)]) ?_ ?_))
     ·intro _ h;refine Aa 18 (rsT 4 ?_);rcases A0 h with ⟨q41,h⟩|⟨q41,h⟩
      ·refine rq 71 q41 (rsT 2 ?_);obtain ⟨x42,e42,h⟩:=Ah h;refine zO (oi 0 0) sI l34_p0.length (Ai e42) (rsl (.own (kid (oi 3 1) u2) .int 0 x42.length) (Ec (o:=oi 0 0) (p:=oi 3 1) (e1:=81) (u:=.int) (xss:=l34_p0) (row:=x42) (j:=u2) kr kr e42) (rsT 1 ?_));obtain ⟨x43,e43,h⟩:=Ah h;exact rs0 (.elt (kid (oi 3 1) u2) u0 0) (zo (t:=.int) (o:=kid (oi 3 1) u2) (len:=x42.length) (k:=.i64) (m:=(u0:Int)) (C1 _) (Ai e43)) (rsl (ai x43) (Hw (i:=kid (oi 3 1) u2) (j:=u0) (k:=0) (e:=3) (t:=.int) (xs:=x42) kr (Be kr e42) e43 kr) (rsT 2 (Ap (tn_ (jE [])))))
      exact rq 71 q41 (rsT 9 (Ap (tn_ (jE []))))
     intro u9 h;refine kQ h (fun _ h=>Aa 14 (rsT 5 ?_)) fun _ h=>Ay (bn_ (tn_ (jE [])))
     obtain ⟨x45,e45,h⟩:=Ah h;refine zO (oi 0 0) sI l34_p0.length (Ai e45) (rsl (.own (kid (oi 3 1) u2) .int 0 x45.length) (Ec (o:=oi 0 0) (p:=oi 3 1) (e1:=81) (u:=.int) (xss:=l34_p0) (row:=x45) (j:=u2) kr kr e45) (rsT 1 ?_));obtain ⟨x46,e46,h⟩:=Ah h;refine rs0 (.elt (kid (oi 3 1) u2) u0 0) (zo (t:=.int) (o:=kid (oi 3 1) u2) (len:=x45.length) (k:=.i64) (m:=(u0:Int)) (C1 _) (Ai e46)) (rsl (ai x46) (Hw (i:=kid (oi 3 1) u2) (j:=u0) (k:=0) (e:=3) (t:=.int) (xs:=x45) kr (Be kr e45) e46 kr) (rsT 1 ?_));obtain ⟨y47,h47,h⟩:=Ah h;exact Ku (.tup []) [(oi 1 1,some (.cells 3 [ai bA])),(oi 0 1,some (.cells 28 [oS 0 0 y47.1.length])),(oi 0 0,some (.mat 81 (oi 1472 13) .int y47.1)),(oi 1472 13,some (.pool 3 .int y47.1)),(oi 2 1,some (.cells 28 [oS 2 0 y47.2.length])),(oi 2 0,some (.mat 81 (oi 1473 13) .int y47.2)),(oi 1473 13,some (.pool 3 .int y47.2)),(oi 1 1,none),(oi 0 1,none),(oi 0 0,none),(oi 3 1,some (.pool 3 .int [])),(oi 2 1,none),(oi 2 0,none),(oi 4 1,some (.pool 3 .int []))] [(oi 0 0,oi 1 1),(oi 1 0,oi 0 1),(oi 2 0,oi 0 0),(oi 3 0,oi 3 1),(oi 4 0,oi 2 1),(oi 5 0,oi 2 0),(oi 6 0,oi 4 1)] [.agg [ai 2,an u2,an u1,ai x46],.box (oi 1 1) 0,.box (oi 0 1) 0,.box (oi 2 1) 0] (caps:=[.box (oi 1 1) 0,.box (oi 0 1) 0,.box (oi 2 1) 0]) trivial (I6 h47) kr ⟨kr,⟨kr,⟨kr,⟨kr,⟨kr,⟨kr,⟨kr,trivial⟩⟩⟩⟩⟩⟩⟩ (.cons (.ren kr) (.cons (.ren kr) (.cons (.ren kr) (.cons (.ren kr) .nil)))) (Ar kr kr ⟨Bi kr,⟨Bi kr,⟨Gu (k:=oi 0 1) (ty:=28) (cs:=[oS 0 0 l34_p0.length]) (Bi kr) kr kr,⟨Fn (o:=oi 0 0) (p:=oi 3 1) (e1:=81) (m:=l34_p0.length) (u:=.int) (xss:=l34_p0) (Gu (k:=oi 0 1) (ty:=28) (cs:=[oS 0 0 l34_p0.length]) (Bi kr) kr kr) kr,⟨Bi kr,⟨Gu (k:=oi 2 1) (ty:=28) (cs:=[oS 2 0 l34_p2.length]) (Bi kr) kr kr,⟨Fn (o:=oi 2 0) (p:=oi 4 1) (e1:=81) (m:=l34_p2.length) (u:=.int) (xss:=l34_p2) (Gu (k:=oi 2 1) (ty:=28) (cs:=[oS 2 0 l34_p2.length]) (Bi kr) kr kr) kr,trivial⟩⟩⟩⟩⟩⟩⟩) (Ap (bn_ (tn_ (jE [(oi 3 1,oi 1472 13),(oi 4 1,oi 1473 13)]))))
    rintro ⟨l38_p0,l38_p2⟩ h;exact Aa 4 (raH h fun h=>rsT 1 (Ap (tn_ (jL []))))
   rintro ⟨l32_p0,l32_p2⟩ h;exact Aa 5 (rsT 1 (raH h fun h=>rsT 1 (Ap (bn_ (tn_ (jE []))))))
  rintro ⟨u7,l12_p0,l12_p2⟩ h;exact Aa 5 (rsT 1 (raH h fun h=>rsT 1 (Ap (tn_ (jL [])))))
 rintro ⟨u4,l5_p0,l5_p2⟩ h;refine Ae (Ac ?_);obtain rfl:=zj h;exact Cz [an u4] (Ag (tl:=[(8,an u4)]) (g:=2) [])
end Go.Proofs.YthlpchhhinipaaaGreatDoor


namespace Go.Proofs.YthlpchhhinipaaaGreatDoor
open Go.RowKit Go.Deep
set_option maxRecDepth 4000
set_option maxHeartbeats 4800000
variable {dA dB:LL} {bA bB bC bD:Int} {cA:Bool} {aA aB:List Int}
def Hn (a0:LL) (u1:Int) (u0:Nat):Option (Ctl (Int×Nat) (Ctl Int Int)) :=
 cond (decide ((u0:Int)<(a0.length:Int)))
 ((a0[u0]?).bind fun x15 =>
 (Mp x15 u1).bind fun y16 =>
 cond (decide (y16<0))
  (some (Ctl.out (Ctl.out (-1))))
  (og (u0+1<4611686018427387904) <|
  some (Ctl.next (y16,u0+1))))
 (some (Ctl.out (Ctl.next u1)))
def K0 (a0:LL) (a1:Int):Option Int :=
 cond (decide (wI (a1 - (a0.length:Int))<0))
 (some (-1))
 (Dn (Aq (fun s_:Int×Nat=>Hn a0 s_.1 s_.2) 4611686018427387904 (wI (a1 - (a0.length:Int)),0)) fun u0 =>
 some u0)
theorem Yv (h:K0 dA bA=some bB):cK 76 [tS dA,ai bA] (A3 bB):=by
 refine cO Tryz.func76 (Ae (Ae (Ab (Ae (kQ h (fun _ h=>Ae (Ac (tr_ (jS h)))) fun _ h=>skW (sqC h (fun u0=>sT [(1,ai u0)] []) ?_ fun u0 h=>Ae (Ac (jS h))))))));intro _ h hk7;refine Ae (Ad (lpF h (fun (u1,u2)=>sT [(0,tS dA),(1,ai u1),(5,an u2)] []) (Ag []) ?_));rintro n_ ⟨u1,u2⟩ c_ h hn9;exact Ab (Ae (kQ h (fun _ h=>skW (Ab (Ad (Ab (Aa 13 (rsT 2 (riH sI h fun x15 _ h=>rsT 2 (rcH h Ab5 fun y16 h=>rsT 1 (rnW (Ae (kQ h (fun _ h=>Ae (Ac (br_ (tr_ (tr_ (br_ (tr_ (have h:=jO h hn9;(have h:=jO h hk7;jS h))))))))) fun _ h=>Ay (bn_ (tn_ (wr_ (Aa 18 (rsT 1 (raH h fun h=>rsT 1 (Ap (tn_ (jL [])))))))))))))))))))) fun _ h=>lxT (have h:=jO h hn9;jC [])))
def Hh (a0:LL) (u0:Nat) (u1:LL):Option (Ctl (Nat×LL) (LL)) :=
 cond (decide ((u0:Int)<(a0.length:Int)))
 ((a0[u0]?).bind fun x12 =>
 (L8 x12).bind fun y13 =>
 (u1[u0]?).bind fun x14 =>
 og (u0+1<4611686018427387904) <|
 some (Ctl.next (u0+1,u1.set u0 y13)))
 (some (Ctl.out u1))
def Ld (a0:LL):Option (LL) :=
 og (0<=(a0.length:Int)/\(a0.length:Int)<=(a0.length:Int)/\(a0.length:Int)<=1073741824/\(24:Int)*(a0.length:Int)<=140737488355328) <|
(Aq (fun s_:Nat×LL=>Hh a0 s_.1 s_.2) 4611686018427387904 (0,List.replicate a0.length ([]:List Int))).bind fun u0 =>
some u0
theorem Yy (h:Ld dA=some dB):Cm Tryz.prog Tab 84 [tS dA] [] (oS 0 1 dB.length) [(oi 0 1,.mat 81 (oi 1 1) .int dB),(oi 1 1,.pool 3 .int dB)]:=by
 refine Bg kr Tryz.func84 (Bt kr) (n:=23) kr (by simp) rfl kr trivial ⟨⟨3,.tail _ (.head _)⟩,⟨trivial,trivial⟩⟩ (Ae (Ab (Aa 6 (rsT 2 ?_))));obtain ⟨g4,h⟩:=Ak h;refine Agi (oS 112 4 dA.length) (oi 112 4) 81 3 .int (List.replicate dA.length ([]:List Int)) trivial (Zj (j:=dA.length) (k:=.i64) (k':=.i64) (m:=(dA.length:Int)) (c:=(dA.length:Int)) 3 kr kr g4 kr rfl) kr (by rw [List.length_replicate]) kr (rsT 1 (rnW (sqF h (fun u1=>sT [(3,oS 0 1 u1.length)] [(oi 0 1,.mat 81 (oi 1 1) .int u1),(oi 1 1,.pool 3 .int u1)]) ?_ fun u1 h=>Ae (Ac (by obtain rfl:=osj h;exact Cz [oS 0 1 u1.length] (Ag (tl:=[(2,oS 0 1 u1.length)]) (g:=2) []))))));intro _ h;refine Ae (Ad (lpF h (fun (u2,u0)=>sT [(0,tS dA),(3,oS 0 1 u0.length),(4,an u2)] [(oi 0 1,.mat 81 (oi 1 1) .int u0),(oi 1 1,.pool 3 .int u0)]) ((wL 3 (List.length_replicate.symm:dA.length=(List.replicate dA.length ([]:List Int)).length)).trans (Ag [(oi 0 1,oi 112 4),(oi 1 1,oi 112 4)])) ?_));rintro n_ ⟨u2,u0⟩ c_ h hn7;refine Ab (Ae (kQ h (fun _ h=>skW (Ab (Ad (Aa 15 (rsT 4 (riH sI h fun x12 _ h=>rsT 1 (rcH h Ac6 fun y13 h=>?_))))))) fun _ h=>lxT (have h:=jO h hn7;jE [])));obtain ⟨x14,e14,h⟩:=Ah h;refine zO (oi 0 1) sI u0.length (Ai e14) (Aft (oi 0 1) (oi 0 1) (.vec 81 1 u0.length ((hdL (oi 1 1) .int u0).set u2 (oI 320 12 y13.length))) (Aal (o:=oi 0 1) (e1:=81) (m:=u0.length) (cs:=hdL (oi 1 1) .int u0) (v:=oI 320 12 y13.length) (j:=u2) kr kr kr rfl (by rw [C8];exact Ai e14)) (Ap (bn_ (tn_ ⟨_,Any (e1:=81) (e:=3) (u:=.int) (n:=u0.length) (len:=y13.length) (row:=y13) (ys:=y13) (xss:=u0) (j:=u2) 9000 (oi 0 1) (oi 1 1) (oi 320 12) kr kr rfl kr kr (M6 rfl) (M2 rfl) kr kr kr,Aa 19 (rsT 1 (raH h fun h=>rsT 1 (Ap (tn_ ?_))))⟩))));obtain rfl:=zj h;exact jLw hn7 ((wL 3 ((Eq.trans (b:=u0.length) rfl List.length_set.symm):u0.length=(u0.set u2 y13).length)).trans (Ag [(oi 1 1,oi 9000 15)]))
def Hi (a0 a1:LL) (u0:Nat):Option (Ctl Nat (Ctl Unit Bool)) :=
 cond (decide ((u0:Int)<(a0.length:Int)))
 ((a0[u0]?).bind fun x14 =>
 (a1[u0]?).bind fun x15 =>
 (Mg x14 x15).bind fun y16 =>
 cond (!y16)
  (some (Ctl.out (Ctl.out false)))
  (og (u0+1<4611686018427387904) <|
  some (Ctl.next (u0+1))))
 (some (Ctl.out (Ctl.next ())))
def Le (a0 a1:LL):Option Bool :=
 cond ((a0.length:Int) !=(a1.length:Int))
 (some false)
 (Dn (Aq (fun s_:Nat=>Hi a0 a1 s_) 4611686018427387904 0) fun _ =>
 some true)
theorem Yq (h:Le dA dB=some cA):cK 34 [tS dA,tS dB] (Ao cA):=by
 exact cO Tryz.func34 (Ae (Ab (Ae (kQ h (fun _ h=>Ae (Ac (tr_ (jS h)))) fun _ h=>skW (sqC h (fun _=>sT [] []) (fun _ h hk6=>Ae (Ad (lpF h (fun u0=>sT [(0,tS dA),(1,tS dB),(5,an u0)] []) (Ag []) (fun n_ u0 c_ h hn8=>Ab (Ae (kQ h (fun _ h=>skW (Ab (Ad (Ab (An 16 (ds0 (tS dA) kr (ds0 (an u0) kr (diH sI h fun x14 _ h=>dsT 3 (diH sI h fun x15 _ h=>ds0 (tI x15) kr (dcH h Aby fun y16 h=>ds0 (.bool (!y16)) kr (Ct (As kr) (tn_ (wr_ (kQ h (fun _ h=>Ae (Ac (br_ (tr_ (tr_ (br_ (tr_ (have h:=jO h hn8;(have h:=jO h hk6;jS h))))))))) fun _ h=>Ay (bn_ (tn_ (wr_ (Aa 19 (rsT 1 (raH h fun h=>rsT 1 (Ap (tn_ (jL []))))))))))))))))))))))) fun _ h=>lxT (have h:=jO h hn8;jC []))))))) fun _ h=>Ae (Ac (jS h)))))))
def He (u1 u2:Int) (u0:LL) (a1:Int):Option Int :=
 (K0 u0 a1).bind fun y3 =>
cond (decide (y3<0))
 (some (-1))
 (some y3)
theorem Um (h:He bA bB dA bC=some bD):cK 41 [.agg [ai bA,ai bB,tS dA],ai bC] (A3 bD):=by
 exact cO Tryz.func41 (Ae (Ab (Aa 8 (rsT 3 (rcH h Yv fun y3 h=>rsT 1 (rnW (Ab (Ae (kQ h (fun _ h=>Ae (Ac (tr_ (jS h)))) fun _ h=>skW (Ae (Ac (jS h))))))))))))
def Ha (u1 u2:Int) (u0:LL):Option (LL) :=
 (Ld u0).bind fun y7 =>
some y7
theorem Uf (h:Ha bA bB dA=some dB):Cm Tryz.prog Tab 46 [.agg [ai bA,ai bB,tS dA]] [] (.agg [ai bA,ai bB,oS 1 1 dB.length]) [(oi 0 1,.cells 30 [ai bA,ai bB,oS 1 1 dB.length]),(oi 1 1,.mat 81 (oi 2 1) .int dB),(oi 2 1,.pool 3 .int dB)]:=by
 refine Bg kr Tryz.func46 (Bt kr) (n:=15) kr (by simp) rfl kr trivial ⟨trivial,⟨⟨3,.tail _ (.tail _ (.head _))⟩,⟨trivial,trivial⟩⟩⟩ (Ae (Ae (Ae (Ae (Ab (Aa 17 (rsT 2 (rcM h [] [tS dA] Yy trivial (aR kr) (Ar kr kr trivial) fun y7 h=>rsB 2 (rnW (Ae (Ac ?_)))))))))));obtain rfl:=zj h;exact Cz [.agg [ai bA,ai bB,oS 1 1 y7.length]] (Ag (tl:=[(2,.box (oi 0 1) 0)]) (g:=2) [(oi 0 1,oi 2 2),(oi 1 1,oi 192 14),(oi 2 1,oi 193 14)])
def Hj (u0 u1:Int) (u2:LL) (u3 u4:Int) (u5:LL):Option Bool :=
 cond (u0 !=u3)
 (some false)
 (cond (u1 !=u4)
  (some false)
  ((Le u2 u5).bind fun y12 =>
  cond (!y12)
   (some false)
   (some true)))
theorem U7 (h:Hj bA bB dA bC bD dB=some cA):cK 12 [.agg [ai bA,ai bB,tS dA],.agg [ai bC,ai bD,tS dB]] (Ao cA):=by
 exact cO Tryz.func12 (Ae (Ab (Ae (kQ h (fun _ h=>Ae (Ac (tr_ (jS h)))) fun _ h=>skW (Ab (Ae (kQ h (fun _ h=>Ae (Ac (tr_ (jS h)))) fun _ h=>skW (Ab (Ab (Aa 20 (rsT 4 (rcH h Yq fun y12 h=>rsT 1 (rnW (kQ h (fun _ h=>Ae (Ac (tr_ (jS h)))) fun _ h=>skW (Ae (Ac (jS h)))))))))))))))))
def L0 (a2:LL) (a1 a0:Int) (u0:Nat):Option (Ctl Nat (Ctl Unit Bool)) :=
 cond (decide ((u0:Int)<(a2.length:Int)))
 ((a2[u0]?).bind fun x10 =>
 (cond ((x10.length:Int) !=a1)
   (some true)
   ((Pf a0 x10).bind fun y13 =>
   some (!y13))).bind fun u1 =>
 cond u1
  (some (Ctl.out (Ctl.out false)))
  (og (u0+1<4611686018427387904) <|
  some (Ctl.next (u0+1))))
 (some (Ctl.out (Ctl.next ())))
def Ml (a0 a1:Int) (a2:LL):Option Bool :=
 Dn (Aq (fun s_:Nat=>L0 a2 a1 a0 s_) 4611686018427387904 0) fun _ =>
some true
theorem Acx (h:Ml bA bB dA=some cA):cK 156 [ai bA,ai bB,tS dA] (Ao cA):=by
 refine cO Tryz.func156 (Ae (sqC h (fun _=>sT [] []) ?_ fun _ h=>Ae (Ac (jS h))));intro _ h hk2;refine Ae (Ad (lpF h (fun u0=>sT [(0,ai bA),(1,ai bB),(9,tS dA),(10,an dA.length),(11,an u0)] []) (Ag []) ?_));intro n_ u0 c_ h hn4;refine Ae (Ab (kQ h (fun _ h=>skW (Ab (Ad (Ab (Aa 6 (riH sI h fun x10 _ h=>rsT 2 (rnW (sqF h (fun u1=>sT [(0,ai bA),(1,ai bB),(9,tS dA),(10,an dA.length),(11,an u0),(24,.bool u1)] []) ?_ fun u1 h=>kQ h (fun _ h=>Ae (Ac (br_ (tr_ (tr_ (br_ (tr_ (have h:=jO h hn4;(have h:=jO h hk2;jS h))))))))) fun _ h=>Ay (bn_ (tn_ (wr_ (Aa 4 (raH h fun h=>rsT 1 (Ap (tn_ (jL [])))))))))))))))) fun _ h=>lxT (have h:=jO h hn4;jC [])));intro _ h;refine Aa 16 (rsT 5 ?_);rcases A0 h with ⟨q12,h⟩|⟨q12,h⟩
 ·exact rq 19 q12 (rsT 5 (Ap (tn_ (jE []))))
 exact rq 19 q12 (rsT 2 (rcH h Afn fun y13 h=>rsT 2 (Ap (tn_ (jE [])))))
def Ir (a0 a1:List Int) (u0:Nat):Option (Ctl Nat (Ctl Unit Bool)) :=
 cond (decide ((u0:Int)<(a0.length:Int)))
 ((a0[u0]?).bind fun x15 =>
 (a1[u0]?).bind fun x16 =>
 cond (x15 !=x16)
  (some (Ctl.out (Ctl.out false)))
  (og (u0+1<4611686018427387904) <|
  some (Ctl.next (u0+1))))
 (some (Ctl.out (Ctl.next ())))
def Mf (a0 a1:List Int):Option Bool :=
 cond ((a0.length:Int) !=(a1.length:Int))
 (some false)
 (Dn (Aq (fun s_:Nat=>Ir a0 a1 s_) 4611686018427387904 0) fun _ =>
 some true)
theorem Aba (h:Mf aA aB=some cA):cK 179 [tI aA,tI aB] (Ao cA):=by
 exact cO Tryz.func179 (Ae (Ab (Ae (kQ h (fun _ h=>Ae (Ac (tr_ (jS h)))) fun _ h=>skW (sqC h (fun _=>sT [] []) (fun _ h hk6=>Ae (Ad (lpF h (fun u0=>sT [(0,tI aA),(1,tI aB),(12,an aA.length),(13,an u0)] []) (Ag []) (fun n_ u0 c_ h hn8=>Ae (Ab (kQ h (fun _ h=>skW (Ab (Ad (Ae (Ab (An 14 (ds0 (tI aA) kr (ds0 (an u0) kr (diH .int h fun x15 _ h=>dsT 3 (diH .int h fun x16 _ h=>ds0 (ai x16) kr (ds0 (.bool (x15 !=x16)) kr (Ct (As kr) (tn_ (wr_ (kQ h (fun _ h=>Ae (Ac (br_ (tr_ (tr_ (br_ (tr_ (have h:=jO h hn8;(have h:=jO h hk6;jS h))))))))) fun _ h=>Ay (bn_ (tn_ (wr_ (Aa 16 (raH h fun h=>rsT 1 (Ap (tn_ (jL []))))))))))))))))))))))) fun _ h=>lxT (have h:=jO h hn8;jC []))))))) fun _ h=>Ae (Ac (jS h)))))))
def Iu (a0 a1:LL) (u0:Nat):Option (Ctl Nat (Ctl Unit Bool)) :=
 cond (decide ((u0:Int)<(a0.length:Int)))
 ((a0[u0]?).bind fun x15 =>
 (a1[u0]?).bind fun x16 =>
 (Mf x15 x16).bind fun y17 =>
 cond (!y17)
  (some (Ctl.out (Ctl.out false)))
  (og (u0+1<4611686018427387904) <|
  some (Ctl.next (u0+1))))
 (some (Ctl.out (Ctl.next ())))
def Mt (a0 a1:LL):Option Bool :=
 cond ((a0.length:Int) !=(a1.length:Int))
 (some false)
 (Dn (Aq (fun s_:Nat=>Iu a0 a1 s_) 4611686018427387904 0) fun _ =>
 some true)
theorem Z3 (h:Mt dA dB=some cA):cK 157 [tS dA,tS dB] (Ao cA):=by
 exact cO Tryz.func157 (Ae (Ab (Ae (kQ h (fun _ h=>Ae (Ac (tr_ (jS h)))) fun _ h=>skW (sqC h (fun _=>sT [] []) (fun _ h hk6=>Ae (Ad (lpF h (fun u0=>sT [(0,tS dA),(1,tS dB),(12,an dA.length),(13,an u0)] []) (Ag []) (fun n_ u0 c_ h hn8=>Ae (Ab (kQ h (fun _ h=>skW (Ab (Ad (Ae (Ab (An 15 (ds0 (tS dA) kr (ds0 (an u0) kr (diH sI h fun x15 _ h=>dsT 3 (diH sI h fun x16 _ h=>ds0 (tI x16) kr (dcH h Aba fun y17 h=>ds0 (.bool (!y17)) kr (Ct (As kr) (tn_ (wr_ (kQ h (fun _ h=>Ae (Ac (br_ (tr_ (tr_ (br_ (tr_ (have h:=jO h hn8;(have h:=jO h hk6;jS h))))))))) fun _ h=>Ay (bn_ (tn_ (wr_ (Aa 17 (raH h fun h=>rsT 1 (Ap (tn_ (jL []))))))))))))))))))))))) fun _ h=>lxT (have h:=jO h hn8;jC []))))))) fun _ h=>Ae (Ac (jS h)))))))
def Pj (a0 u0:Int) (u1:LL):Option Bool :=
 ((G1 a0).bind fun y3 =>
 cond y3
  ((Cb u0 0 24).bind fun y5 =>
  cond y5
   (cond (decide ((u1.length:Int)<=u0))
    ((Ml a0 u0 u1).bind fun y8 =>
    cond y8
     ((D7 a0 u0 u1).bind fun y10 =>
     (Mt y10 u1).bind fun y11 =>
     some y11)
     (some false))
    (some false))
   (some false))
  (some false)).bind fun u2 =>
some u2
theorem Acw (h:Pj bA bB dA=some cA):cK 119 [ai bA,.agg [ai bB,tS dA]] (Ao cA):=by
 refine cO Tryz.func119 (Ae (sqF h (fun u2=>sT [(4,.bool u2)] []) ?_ fun u2 h=>Ac (jS h)));intro _ h;refine An 38 (dz0 (ai bA) (dcH h Oj fun y3 h=>dz0 (.bool y3) ?_));rcases A0 h with ⟨q4,h⟩|⟨q4,h⟩
 ·refine dq 7 q4 (dz0 (.box (oi 3 1) 0) (dzl (ai bB) (dcH h Co fun y5 h=>dz0 (.bool y5) (dz0 (.bool y5) (kD h 12 (fun _ h=>dsT 8 ?_) fun _ h=>dsT 27 (Ct (As kr) (tn_ (jE []))))))));rcases A0 h with ⟨q7,h⟩|⟨q7,h⟩
  ·refine dq 20 q7 (dsT 5 (dcH h Acx fun y8 h=>dz0 (.bool y8) (dz0 (.bool y8) ?_)));rcases A0 h with ⟨q9,h⟩|⟨q9,h⟩
   ·exact dq 28 q9 (dsT 5 (dcM h [] [ai bA,ai bB,tS dA] Ie trivial (aR kr) (Ar kr kr trivial) (Qx kr) fun y10 h=>dz0 (.box (oi 3 1) 1) (dzl (tS dA) (dcG h [oS 544 32 y10.length,tS dA] Z3 (Al (F6 (p:=oi 545 32) (e1:=81) (e:=3) (u:=.int) (xss:=y10) kr (Ab9 (t:=sI) (off:=0) (len:=y10.length) (i:=oi 544 32) (e1:=81) (z:=1) (m:=y10.length) 0 rfl kr kr (Br kr)) rfl) (Al kr Bz)) fun y11 h=>dz0 (.bool y11) (dz0 (.bool y11) (Ct ⟨Akj kr,trivial⟩ (tn_ (jE []))))))))
   exact dq 28 q9 (dsT 11 (Ct (As kr) (tn_ (jE []))))
  exact dq 20 q7 (dsT 19 (Ct (As kr) (tn_ (jE []))))
 exact dq 7 q4 (dsT 32 (Ct (As kr) (tn_ (jE []))))
def Ma (a0 u0 u1:Int) (u2:LL):Option Bool :=
 ((Cb u0 0 24).bind fun y3 =>
 cond y3
  ((Cb u1 0 (wI (24 - u0))).bind fun y5 =>
  cond y5
   ((Pj a0 (wI (u0+u1)) u2).bind fun y7 =>
   some y7)
   (some false))
  (some false)).bind fun u3 =>
some u3
theorem Acm (h:Ma bA bB bC dA=some cA):cK 80 [ai bA,.agg [ai bB,ai bC,tS dA]] (Ao cA):=by
 refine cO Tryz.func80 (Ae (sqF h (fun u3=>sT [(4,.bool u3)] []) ?_ fun u3 h=>Ac (jS h)));intro _ h;refine Aa 27 (rsT 2 (rcH h Co fun y3 h=>rsT 1 ?_));rcases A0 h with ⟨q4,h⟩|⟨q4,h⟩
 ·refine rq 8 q4 (rsT 5 (rcH h Co fun y5 h=>rsT 2 ?_));rcases A0 h with ⟨q6,h⟩|⟨q6,h⟩
  ·exact rq 16 q6 (rsT 9 (rcH h Acw fun y7 h=>rsT 2 (Ap (tn_ (jE [])))))
  exact rq 16 q6 (rsT 12 (Ap (tn_ (jE []))))
 exact rq 8 q4 (rsT 20 (Ap (tn_ (jE []))))
def O2 (a0 a1:Int):Option Bool :=
 ((B5 a0 0 24).bind fun y3 =>
 cond y3
  ((B5 a1 0 24).bind fun y5 =>
  cond y5
   (some (decide (wI (a0+a1)<=24)))
   (some false))
  (some false)).bind fun u0 =>
some u0
theorem Ag3 (h:O2 bA bB=some cA):cK 126 [ai bA,ai bB] (Ao cA):=by
 refine cO Tryz.func126 (Ae (sqF h (fun u0=>sT [(4,.bool u0)] []) ?_ fun u0 h=>Ac (jS h)));intro _ h;refine Aa 15 (rsT 1 (rcH h C4 fun y3 h=>rsT 1 ?_));rcases A0 h with ⟨q4,h⟩|⟨q4,h⟩
 ·exact rq 7 q4 (rsT 1 (rcH h C4 fun y5 h=>rsT 2 (kR h 11 (fun _ h=>rsT 6 (Ap (tn_ (jE [])))) fun _ h=>rsT 6 (Ap (tn_ (jE []))))))
 exact rq 7 q4 (rsT 10 (Ap (tn_ (jE []))))
def Hy (a1:LL) (a0 a2:Int) (u0:Nat):Option (Ctl Nat (Ctl Unit Bool)) :=
 cond (decide ((u0:Int)<(a1.length:Int)))
 ((a1[u0]?).bind fun x10 =>
 (Jv a0 x10 a2).bind fun y12 =>
 cond (!y12)
  (some (Ctl.out (Ctl.out false)))
  (og (u0+1<4611686018427387904) <|
  some (Ctl.next (u0+1))))
 (some (Ctl.out (Ctl.next ())))
def G7 (a0:Int) (a1:LL) (a2:Int):Option Bool :=
 Dn (Aq (fun s_:Nat=>Hy a1 a0 a2 s_) 4611686018427387904 0) fun _ =>
some true
theorem Ux (h:G7 bA dA bB=some cA):cK 160 [ai bA,tS dA,ai bB] (Ao cA):=by
 exact cO Tryz.func160 (Ae (sqC h (fun _=>sT [] []) (fun _ h hk2=>Ae (Ad (lpF h (fun u0=>sT [(0,ai bA),(2,ai bB),(9,tS dA),(10,an dA.length),(11,an u0)] []) (Ag []) (fun n_ u0 c_ h hn4=>Ae (Ab (kQ h (fun _ h=>skW (Ab (Ad (Ab (Aa 6 (riH sI h fun x10 _ h=>rsT 2 (rnW (Ab (Aa 11 (rsT 3 (rcH h Xy fun y12 h=>rsT 1 (rnW (kQ h (fun _ h=>Ae (Ac (br_ (tr_ (tr_ (br_ (tr_ (have h:=jO h hn4;(have h:=jO h hk2;jS h))))))))) fun _ h=>Ay (bn_ (tn_ (wr_ (Aa 13 (raH h fun h=>rsT 1 (Ap (tn_ (jL []))))))))))))))))))))) fun _ h=>lxT (have h:=jO h hn4;jC []))))))) fun _ h=>Ae (Ac (jS h))))
def Er (a0:Int) (a1:LL) (a2:Int):Option (LL) :=
 (Jd a1).bind fun y4 =>
og (0<=(y4.length:Int)/\(y4.length:Int)<=(y4.length:Int)/\(y4.length:Int)<=1073741824/\(24:Int)*(y4.length:Int)<=140737488355328) <|
(Fs a0 y4 a2 (List.replicate y4.length ([]:List Int))).bind fun y8 =>
og (y8.1.length=y4.length) <|
og (y8.2.1.length=y4.length) <|
og ((0:Int)<=(y8.2.2:Int)/\(y8.2.2:Int)<=(y8.2.2:Int)/\(y8.2.2:Int)<=(y4.length:Int)) <|
some (y8.1.take y8.2.2)
theorem Jy (h:Er bA dA bB=some dB):Cm Tryz.prog Tab 161 [ai bA,tS dA,ai bB] [] (oS 0 1 dB.length) [(oi 0 1,.mat 81 (oi 1 1) .int dB),(oi 1 1,.pool 3 .int dB)]:=by
 refine Bg kr Tryz.func161 (Bt kr) (n:=24) kr (by simp) rfl kr trivial ⟨⟨3,.tail _ (.head _)⟩,⟨trivial,trivial⟩⟩ (Ae (Ab (Aa 5 (rsT 1 (rcM h [] [tS dA] Sj trivial (aR kr) (Ar kr kr trivial) fun y4 h=>rsT 1 (rnW (Ab (Aa 9 (rsT 2 ?_)))))))));obtain ⟨g6,h⟩:=Ak h;refine Agi (oS 224 7 y4.length) (oi 224 7) 81 3 .int (List.replicate y4.length ([]:List Int)) trivial (Zj (j:=y4.length) (k:=.i64) (k':=.i64) (m:=(y4.length:Int)) (c:=(y4.length:Int)) 3 kr kr g6 kr rfl) kr (by rw [List.length_replicate]) kr (rsT 1 (rnW (Ab (Aa 15 (rsT 4 (rcM h [(oi 0 0,oi 176 3),(oi 1 0,oi 177 3),(oi 2 0,oi 224 7),(oi 3 0,oi 224 7)] [ai bA,oS 176 3 y4.length,ai bB,oS 224 7 y4.length] (fun h=>Ph h rfl List.length_replicate.symm) ⟨kr,⟨kr,⟨kr,⟨kr,trivial⟩⟩⟩⟩ (aR kr) (Ar kr kr ⟨Bi kr,⟨Fn (o:=oi 176 3) (p:=oi 177 3) (e1:=81) (m:=y4.length) (u:=.int) (xss:=y4) (Bi kr) kr,⟨Bi kr,⟨Fn (o:=oi 224 7) (p:=oi 224 7) (e1:=81) (m:=(List.replicate y4.length ([]:List Int)).length) (u:=.int) (xss:=List.replicate y4.length ([]:List Int)) (Bi kr) kr,trivial⟩⟩⟩⟩) fun y8 h=>rsT 1 (rnW (Ab (Aa 20 (rsT 3 ?_))))))))));obtain ⟨g9,h⟩:=Ak h;obtain ⟨g10,h⟩:=Ak h;obtain ⟨g12,h⟩:=Ak h;refine rs2 (oS 23 18 y8.2.2) (oi 176 3) (oi 23 18) (.vec 81 1 y8.2.2 ((hdL (oi 304 13) .int y8.1).take y8.2.2)) (Ann (t:=sI) (len:=y4.length) (kh:=.i64) (km:=.i64) (h:=(y8.2.2:Int)) (m:=(y8.2.2:Int)) (j:=y8.2.2) (i:=oi 176 3) (N:=y8.1.length) (e:=81) (cs:=hdL (oi 304 13) .int y8.1) kr kr kr kr rfl g12 rfl (by have z_:y4.length=y8.1.length:=g9.symm;omega)) (rsT 1 (Ap (tn_ ⟨_,Ak8 (e1:=81) (e:=3) (u:=.int) (xss:=y8.1) (k:=y8.2.2) 9000 (oi 23 18) (oi 304 13) kr kr kr (by have z_:y4.length=y8.1.length:=g9.symm;omega) kr kr,Ac ?_⟩)));obtain rfl:=zj h;exact Cz [oS 0 1 ((y8.1.take y8.2.2).length)] ((Acq 6 (oS 23 18 y8.2.2) (oS 23 18 ((y8.1.take y8.2.2).length)) kr (congrArg (fun z_=>((oS 23 18 z_):AV)) ((Alh (by have z_:y4.length=y8.1.length:=g9.symm;omega)):y8.2.2=(y8.1.take y8.2.2).length))).trans (Ag (tl:=[(6,oS 0 1 (y8.1.take y8.2.2).length)]) (g:=2) [(oi 0 1,oi 23 18),(oi 1 1,oi 9000 20)]))
def Q6 (a0:List Int):Option (List Int) :=
 some (a0.take 48++(List.replicate 48 0).drop (a0.take 48).length)
def Ajb (r:List Int):RV:=⟨false,[(true,((tyA 47).av (G5 47 r)).map .sc)]⟩
theorem Yk (h:Q6 aA=some aB):cK 162 [tI aA] (Ajb aB):=by
 exact cO Tryz.func162 (Ae (Ae (Ab (Aa 8 (rsl (.sla (oi 3 3) 0 48) (Axi (N:=47) (i:=oi 3 3) (j:=0) (e:=179) (xs:=[G5 47 (List.replicate 48 0)]) kr kr kr) (rsT 1 (rs2 (an ((aA.take 48).length)) (oi 3 3) (oi 3 3) (.arr 179 (tyA 47) [G5 47 (aA.take 48++(List.replicate 48 0).drop (aA.take 48).length)]) (Asm (N:=47) (i:=oi 3 3) (e:=179) (l:=List.replicate 48 0) (ys:=aA) (zs:=aA.take 48++(List.replicate 48 0).drop (aA.take 48).length) kr Hm kr kr (by simp) rfl) (rnW (Ab (Aa 10 (rsl (.agg ((tyA 47).av (G5 47 (aA.take 48++(List.replicate 48 0).drop (aA.take 48).length)))) (Awx (N:=47) (ty:=179) (i:=oi 3 3) (e:=0) (l:=aA.take 48++(List.replicate 48 0).drop (aA.take 48).length) (xs:=[G5 47 (aA.take 48++(List.replicate 48 0).drop (aA.take 48).length)]) kr kr rfl rfl) (Aft (oi 2 1) (oi 2 1) (.arr 179 (tyA 47) [G5 47 (aA.take 48++(List.replicate 48 0).drop (aA.take 48).length)]) (Aww (N:=47) (ty:=179) (i:=oi 2 1) (e:=0) (l:=List.replicate 48 0) (l2:=aA.take 48++(List.replicate 48 0).drop (aA.take 48).length) (xs:=[G5 47 (List.replicate 48 0)]) kr kr rfl rfl kr rfl) (rnW (Ac (jR h [.agg ((tyA 47).av (G5 47 (aA.take 48++(List.replicate 48 0).drop (aA.take 48).length)))] (Ta (Aur 47 (aA.take 48++(List.replicate 48 0).drop (aA.take 48).length)) Fc))))))))))))))))
def Nn:AC :=
 (.seq (rg [xs1 26 25 24])
 (.seq (.cond (tm 26)
  .skip
  (.exit 0))
 (.seq (.block 1 (.seq (rg [xm 27 25,xx 28 1 23 25,xl 29 28,xm 7 27,xm 8 29])
 (.seq (.region [xm 30 8,xo 31 (qc 162 [tm 30] [[some .int]]),xm 32 1,xm 33 7,xx 34 1 32 33,xl 35 34,xo 36 (qc 162 [tm 35] [[some .int]]),xo 37 (.i (.cmp true 51 (tm 31) (tm 36)))] true [(1,5)])
 (.cond (tm 37)
  (.seq (rg [xo 6 (qm (cb false))])
  .ret)
  .skip))))
 (rg [xa 38 25,xm 25 38]))))
def Qg:AC :=
 (.seq (rg [xo 6 (qm (cb false))])
 (.seq (.seq (rg [xm 9 1,xn1 10 9,xm 11 2,xo 12 (qb .gtr (tm 10) (tm 11)),xm 13 12,⟨some 14,some (13,false),qm (tm 0)⟩,⟨some 15,some (13,false),qm (tm 1)⟩,⟨some 16,some (13,false),qm (tm 2)⟩,⟨some 17,some (13,false),qc 160 [tm 14,tm 15,tm 16] [[],[some sI],[]]⟩,⟨some 18,some (13,false),.i (.not (tm 17))⟩,xo 19 (.i (.pick (tm 13) (cb true) (tm 18)))])
 (.cond (tm 19)
  (.seq (rg [xo 6 (qm (cb false))])
  .ret)
  .skip))
 (.seq (.seq (rg [xm 20 0,xm 21 1,xm 22 2,xo 23 (qc 161 [tm 20,tm 21,tm 22] [[],[some sI],[]]),xn1 24 23,xo 25 (qm (ci 0))])
 (.block 0 (.loop Nn)))
 (.seq (rg [xm 39 0,xm 40 1,xm 41 2,xo 42 (qc 161 [tm 39,tm 40,tm 41] [[],[some sI],[]]),xn1 43 42,xm 44 1,xn1 45 44,xo 46 (qb .eql (tm 43) (tm 45)),xm 6 46])
 .ret))))
def Wu:List Res:=[.tmp 6]
theorem W2:C0 Tryz.prog Tryz.f127=some (Qg,Wu):=by kernel_rfl
def Ff (y10 a1:LL) (u0:Nat):Option (Ctl Nat (Ctl Unit Bool)) :=
 cond (decide ((u0:Int)<(y10.length:Int)))
 ((y10[u0]?).bind fun x17 =>
 (Q6 x17).bind fun y19 =>
 (a1[u0]?).bind fun x20 =>
 (Q6 x20).bind fun y21 =>
 og (y19.length=47+1/\y21.length=47+1) <|
 cond (!(y19==y21))
  (some (Ctl.out (Ctl.out false)))
  (og (u0+1<4611686018427387904) <|
  some (Ctl.next (u0+1))))
 (some (Ctl.out (Ctl.next ())))
def Iq (a0:Int) (a1:LL) (a2:Int):Option Bool :=
 (cond (decide (a2<(a1.length:Int)))
  (some true)
  ((G7 a0 a1 a2).bind fun y5 =>
  some (!y5))).bind fun u0 =>
cond u0
 (some false)
 (Dn ((Er a0 a1 a2).bind fun y10 =>
  Aq (fun s_:Nat=>Ff y10 a1 s_) 4611686018427387904 0) fun _ =>
 (Er a0 a1 a2).bind fun y27 =>
 some ((y27.length:Int)==(a1.length:Int)))
theorem We (h:Iq bA dA bB=some cA):cK 127 [ai bA,tS dA,ai bB] (Ao cA):=by
 refine Adc kr Tryz.func127 W2 (n:=47) kr (by simp) rfl ?_;unfold Qg;refine Ae (Ab (sqF h (fun u1=>sT [(0,ai bA),(1,tS dA),(2,ai bB),(19,.bool u1)] []) ?_ ?_))
 ·intro _ h;refine Aa 13 (rsT 5 ?_);rcases A0 h with ⟨q4,h⟩|⟨q4,h⟩
  ·exact rq 13 q4 (rsT 6 (Ap (tn_ (jE []))))
  exact rq 13 q4 (rsT 3 (rcH h Ux fun y5 h=>rsT 2 (Ap (tn_ (jE [])))))
 intro u1 h;refine kQ h (fun _ h=>Ae (Ac (tr_ (jS h)))) fun _ h=>skW (sqC h (fun _=>sT [(0,ai bA),(1,tS dA),(2,ai bB)] []) ?_ fun _ h=>Ab (Aa 11 (rsT 3 (rcM h [] [ai bA,tS dA,ai bB] Jy trivial (aR kr) (Ar kr kr trivial) fun y27 h=>rsT 5 (rnW (Ac (jS h)))))))
 intro _ h hk8;refine Ab (Aa 8 (rsT 3 (rcM h [] [ai bA,tS dA,ai bB] Jy trivial (aR kr) (Ar kr kr trivial) fun y10 h=>rsT 2 (rnW (Ad (lpF h (fun u0=>sT [(0,ai bA),(1,tS dA),(2,ai bB),(23,oS 0 1 y10.length),(24,an y10.length),(25,an u0)] [(oi 0 1,.mat 81 (oi 1 1) .int y10),(oi 1 1,.pool 3 .int y10)]) (Ag [(oi 0 1,oi 368 5),(oi 1 1,oi 369 5)]) ?_))))));intro n_ u0 c_ h hn11;unfold Nn;refine Ae (Ab (kQ h (fun _ h=>skW (Ab (Ad (Ab (Aa 8 (rsT 1 ?_)))))) fun _ h=>lxT (have h:=jO h hn11;jC [])));obtain ⟨x17,e17,h⟩:=Ah h;refine zO (oi 0 1) sI y10.length (Ai e17) (rsl (.own (kid (oi 1 1) u0) .int 0 x17.length) (Ec (o:=oi 0 1) (p:=oi 1 1) (e1:=81) (u:=.int) (xss:=y10) (row:=x17) (j:=u0) kr kr e17) (rsT 2 (rnW (Ab (An 16 (dz0 (.own (kid (oi 1 1) u0) .int 0 x17.length) (dcG h [.own (kid (oi 1 1) u0) .int 0 x17.length] Yk (Al (C2 (e:=3) (u:=.int) (xs:=x17) ((E6 (Pz (t:=.int) (off:=0) (len:=x17.length) 0 rfl kr)).trans (Be kr e17)) rfl) Bz) fun y19 h=>dz0 (tS dA) (dz0 (an u0) (diH sI h fun x20 _ h=>dz0 (tI x20) (dcH h Yk fun y21 h=>?_))))))))));obtain ⟨g22,h⟩:=Ak h;exact ds0 (.bool (!(y19==y21))) (Avi (N:=47) (l:=y19) (l':=y21) kr kr g22) (Ct (As kr) (tn_ (wr_ (kQ h (fun _ h=>Ae (Ac (br_ (tr_ (tr_ (br_ (tr_ (have h:=jO h hn11;(have h:=jO h hk8;jS h))))))))) fun _ h=>Ay (bn_ (tn_ (wr_ (Aa 18 (raH h fun h=>rsT 1 (Ap (tn_ (jL []))))))))))))
def Hk (a0 u0 u1:Int) (u2:LL):Option Bool :=
 ((H2 a0).bind fun y3 =>
 cond y3
  ((O2 u0 u1).bind fun y5 =>
  cond y5
   ((Iq a0 u2 (wI (u0+u1))).bind fun y7 =>
   some y7)
   (some false))
  (some false)).bind fun u3 =>
some u3
theorem U1 (h:Hk bA bB bC dA=some cA):cK 87 [ai bA,.agg [ai bB,ai bC,tS dA]] (Ao cA):=by
 refine cO Tryz.func87 (Ae (sqF h (fun u3=>sT [(4,.bool u3)] []) ?_ fun u3 h=>Ac (jS h)));intro _ h;refine Aa 24 (rsT 1 (rcH h Rk fun y3 h=>rsT 1 ?_));rcases A0 h with ⟨q4,h⟩|⟨q4,h⟩
 ·refine rq 7 q4 (rsT 4 (rcH h Ag3 fun y5 h=>rsT 2 ?_));rcases A0 h with ⟨q6,h⟩|⟨q6,h⟩
  ·exact rq 14 q6 (rsT 8 (rcH h We fun y7 h=>rsT 2 (Ap (tn_ (jE [])))))
  exact rq 14 q6 (rsT 11 (Ap (tn_ (jE []))))
 exact rq 7 q4 (rsT 18 (Ap (tn_ (jE []))))
end Go.Proofs.YthlpchhhinipaaaGreatDoor


namespace Go.Proofs.YthlpchhhinipaaaGreatDoor
open Go.RowKit Go.Deep
theorem gw3 (w:World):Calls Tryz.prog 141 #[.int .i64 3] w fun e w'=>e=.returned (.agg #[.int .i64 1,.int .i64 2])/\Below w.heap.size w w':=by
 go_enter Tryz.func141,Tryz.ntmps141
 go_wp2
 refine bodyPost_ret (v:=.agg #[.int .i64 1,.int .i64 2]) (by simp [results,Tryz.results141,go_sem]) rfl ⟨rfl,?_⟩;exact (by repeat (first|with_reducible exact Below.refl _ _|((with_reducible refine Below.setCell ?_ ?_ _);rotate_left;focus (first|(simp;done)|omega|(simp;omega)))|((with_reducible refine Below.alloc ?_ ?_ _);rotate_left;focus (first|(simp;done)|omega|(simp;omega)))|(with_reducible refine Below.drew ?_)|(with_reducible refine below_draws_ ?_ _)))
theorem gw4 (w:World):Calls Tryz.prog 141 #[.int .i64 4] w fun e w'=>e=.returned (.agg #[.int .i64 1,.int .i64 0])/\Below w.heap.size w w':=by
 go_enter Tryz.func141,Tryz.ntmps141
 go_wp2
 refine bodyPost_ret (v:=.agg #[.int .i64 1,.int .i64 0]) (by simp [results,Tryz.results141,go_sem]) rfl ⟨rfl,?_⟩;exact (by repeat (first|with_reducible exact Below.refl _ _|((with_reducible refine Below.setCell ?_ ?_ _);rotate_left;focus (first|(simp;done)|omega|(simp;omega)))|((with_reducible refine Below.alloc ?_ ?_ _);rotate_left;focus (first|(simp;done)|omega|(simp;omega)))|(with_reducible refine Below.drew ?_)|(with_reducible refine below_draws_ ?_ _)))
theorem gw5 (w:World):Calls Tryz.prog 141 #[.int .i64 5] w fun e w'=>e=.returned (.agg #[.int .i64 2,.int .i64 1])/\Below w.heap.size w w':=by
 go_enter Tryz.func141,Tryz.ntmps141
 go_wp2
 refine bodyPost_ret (v:=.agg #[.int .i64 2,.int .i64 1]) (by simp [results,Tryz.results141,go_sem]) rfl ⟨rfl,?_⟩;exact (by repeat (first|with_reducible exact Below.refl _ _|((with_reducible refine Below.setCell ?_ ?_ _);rotate_left;focus (first|(simp;done)|omega|(simp;omega)))|((with_reducible refine Below.alloc ?_ ?_ _);rotate_left;focus (first|(simp;done)|omega|(simp;omega)))|(with_reducible refine Below.drew ?_)|(with_reducible refine below_draws_ ?_ _)))
theorem gw6 (w:World):Calls Tryz.prog 141 #[.int .i64 6] w fun e w'=>e=.returned (.agg #[.int .i64 0,.int .i64 1])/\Below w.heap.size w w':=by
 go_enter Tryz.func141,Tryz.ntmps141
 go_wp2
 refine bodyPost_ret (v:=.agg #[.int .i64 0,.int .i64 1]) (by simp [results,Tryz.results141,go_sem]) rfl ⟨rfl,?_⟩;exact (by repeat (first|with_reducible exact Below.refl _ _|((with_reducible refine Below.setCell ?_ ?_ _);rotate_left;focus (first|(simp;done)|omega|(simp;omega)))|((with_reducible refine Below.alloc ?_ ?_ _);rotate_left;focus (first|(simp;done)|omega|(simp;omega)))|(with_reducible refine Below.drew ?_)|(with_reducible refine below_draws_ ?_ _)))
theorem gw7 (w:World):Calls Tryz.prog 141 #[.int .i64 7] w fun e w'=>e=.returned (.agg #[.int .i64 1,.int .i64 1])/\Below w.heap.size w w':=by
 go_enter Tryz.func141,Tryz.ntmps141
 go_wp2
 refine bodyPost_ret (v:=.agg #[.int .i64 1,.int .i64 1]) (by simp [results,Tryz.results141,go_sem]) rfl ⟨rfl,?_⟩;exact (by repeat (first|with_reducible exact Below.refl _ _|((with_reducible refine Below.setCell ?_ ?_ _);rotate_left;focus (first|(simp;done)|omega|(simp;omega)))|((with_reducible refine Below.alloc ?_ ?_ _);rotate_left;focus (first|(simp;done)|omega|(simp;omega)))|(with_reducible refine Below.drew ?_)|(with_reducible refine below_draws_ ?_ _)))
theorem gw8 (w:World):Calls Tryz.prog 141 #[.int .i64 8] w fun e w'=>e=.returned (.agg #[.int .i64 1,.int .i64 1])/\Below w.heap.size w w':=by
 go_enter Tryz.func141,Tryz.ntmps141
 go_wp2
 refine bodyPost_ret (v:=.agg #[.int .i64 1,.int .i64 1]) (by simp [results,Tryz.results141,go_sem]) rfl ⟨rfl,?_⟩;exact (by repeat (first|with_reducible exact Below.refl _ _|((with_reducible refine Below.setCell ?_ ?_ _);rotate_left;focus (first|(simp;done)|omega|(simp;omega)))|((with_reducible refine Below.alloc ?_ ?_ _);rotate_left;focus (first|(simp;done)|omega|(simp;omega)))|(with_reducible refine Below.drew ?_)|(with_reducible refine below_draws_ ?_ _)))
theorem gw9 (w:World):Calls Tryz.prog 141 #[.int .i64 9] w fun e w'=>e=.returned (.agg #[.int .i64 2,.int .i64 1])/\Below w.heap.size w w':=by
 go_enter Tryz.func141,Tryz.ntmps141
 go_wp2
 refine bodyPost_ret (v:=.agg #[.int .i64 2,.int .i64 1]) (by simp [results,Tryz.results141,go_sem]) rfl ⟨rfl,?_⟩;exact (by repeat (first|with_reducible exact Below.refl _ _|((with_reducible refine Below.setCell ?_ ?_ _);rotate_left;focus (first|(simp;done)|omega|(simp;omega)))|((with_reducible refine Below.alloc ?_ ?_ _);rotate_left;focus (first|(simp;done)|omega|(simp;omega)))|(with_reducible refine Below.drew ?_)|(with_reducible refine below_draws_ ?_ _)))
theorem Axn (w:World):Calls Tryz.prog 141 #[.int .i64 10] w fun e w'=>e=.returned (.agg #[.int .i64 0,.int .i64 1])/\Below w.heap.size w w':=by
 go_enter Tryz.func141,Tryz.ntmps141
 go_wp2
 refine bodyPost_ret (v:=.agg #[.int .i64 0,.int .i64 1]) (by simp [results,Tryz.results141,go_sem]) rfl ⟨rfl,?_⟩;exact (by repeat (first|with_reducible exact Below.refl _ _|((with_reducible refine Below.setCell ?_ ?_ _);rotate_left;focus (first|(simp;done)|omega|(simp;omega)))|((with_reducible refine Below.alloc ?_ ?_ _);rotate_left;focus (first|(simp;done)|omega|(simp;omega)))|(with_reducible refine Below.drew ?_)|(with_reducible refine below_draws_ ?_ _)))
theorem Axs (w:World):Calls Tryz.prog 141 #[.int .i64 11] w fun e w'=>e=.returned (.agg #[.int .i64 1,.int .i64 2])/\Below w.heap.size w w':=by
 go_enter Tryz.func141,Tryz.ntmps141
 go_wp2
 refine bodyPost_ret (v:=.agg #[.int .i64 1,.int .i64 2]) (by simp [results,Tryz.results141,go_sem]) rfl ⟨rfl,?_⟩;exact (by repeat (first|with_reducible exact Below.refl _ _|((with_reducible refine Below.setCell ?_ ?_ _);rotate_left;focus (first|(simp;done)|omega|(simp;omega)))|((with_reducible refine Below.alloc ?_ ?_ _);rotate_left;focus (first|(simp;done)|omega|(simp;omega)))|(with_reducible refine Below.drew ?_)|(with_reducible refine below_draws_ ?_ _)))
theorem Axq (w:World):Calls Tryz.prog 141 #[.int .i64 12] w fun e w'=>e=.returned (.agg #[.int .i64 1,.int .i64 0])/\Below w.heap.size w w':=by
 go_enter Tryz.func141,Tryz.ntmps141
 go_wp2
 refine bodyPost_ret (v:=.agg #[.int .i64 1,.int .i64 0]) (by simp [results,Tryz.results141,go_sem]) rfl ⟨rfl,?_⟩;exact (by repeat (first|with_reducible exact Below.refl _ _|((with_reducible refine Below.setCell ?_ ?_ _);rotate_left;focus (first|(simp;done)|omega|(simp;omega)))|((with_reducible refine Below.alloc ?_ ?_ _);rotate_left;focus (first|(simp;done)|omega|(simp;omega)))|(with_reducible refine Below.drew ?_)|(with_reducible refine below_draws_ ?_ _)))
theorem Axk (w:World):Calls Tryz.prog 141 #[.int .i64 13] w fun e w'=>e=.returned (.agg #[.int .i64 1,.int .i64 1])/\Below w.heap.size w w':=by
 go_enter Tryz.func141,Tryz.ntmps141
 go_wp2
 refine bodyPost_ret (v:=.agg #[.int .i64 1,.int .i64 1]) (by simp [results,Tryz.results141,go_sem]) rfl ⟨rfl,?_⟩;exact (by repeat (first|with_reducible exact Below.refl _ _|((with_reducible refine Below.setCell ?_ ?_ _);rotate_left;focus (first|(simp;done)|omega|(simp;omega)))|((with_reducible refine Below.alloc ?_ ?_ _);rotate_left;focus (first|(simp;done)|omega|(simp;omega)))|(with_reducible refine Below.drew ?_)|(with_reducible refine below_draws_ ?_ _)))
theorem Axr (w:World):Calls Tryz.prog 141 #[.int .i64 14] w fun e w'=>e=.returned (.agg #[.int .i64 1,.int .i64 1])/\Below w.heap.size w w':=by
 go_enter Tryz.func141,Tryz.ntmps141
 go_wp2
 refine bodyPost_ret (v:=.agg #[.int .i64 1,.int .i64 1]) (by simp [results,Tryz.results141,go_sem]) rfl ⟨rfl,?_⟩;exact (by repeat (first|with_reducible exact Below.refl _ _|((with_reducible refine Below.setCell ?_ ?_ _);rotate_left;focus (first|(simp;done)|omega|(simp;omega)))|((with_reducible refine Below.alloc ?_ ?_ _);rotate_left;focus (first|(simp;done)|omega|(simp;omega)))|(with_reducible refine Below.drew ?_)|(with_reducible refine below_draws_ ?_ _)))
def gwV (k:Int):Int×Int:=if k=3 then (1,2) else if k=4 then (1,0) else if k=5 then (2,1) else if k=6 then (0,1) else if k=9 then (2,1) else if k=10 then (0,1) else if k=11 then (1,2) else if k=12 then (1,0) else (1,1)
def Di (a0:Int):Option (Int×Int):=og (3<=a0/\a0<=14) (some (gwV a0))
def Qt (r:Int×Int):RV:=⟨false,[(true,[.sc (.int .i64 r.1),.sc (.int .i64 r.2)])]⟩
theorem Avp (k:Int) (h:3<=k/\k<=14) (w:World):Calls Tryz.prog 141 #[.int .i64 k] w fun e w'=>e=.returned (.agg #[.int .i64 (gwV k).1,.int .i64 (gwV k).2])/\Below w.heap.size w w':=by
 have hk:k=3∨k=4∨k=5∨k=6∨k=7∨k=8∨k=9∨k=10∨k=11∨k=12∨k=13∨k=14:=by omega
 rcases hk with rfl|rfl|rfl|rfl|rfl|rfl|rfl|rfl|rfl|rfl|rfl|rfl
 ·exact gw3 w
 ·exact gw4 w
 ·exact gw5 w
 ·exact gw6 w
 ·exact gw7 w
 ·exact gw8 w
 ·exact gw9 w
 ·exact Axn w
 ·exact Axs w
 ·exact Axq w
 ·exact Axk w
 ·exact Axr w
theorem Gi {a0:Int} {r:Int×Int} (h:Di a0=some r):Dr Tryz.prog Tab 141 [.int .i64 a0] (Qt r):=by
 obtain ⟨hb,h⟩:=Ak h;obtain rfl:=osj h;intro w im vs hG hr;obtain ⟨u1,_,rfl,h1,h2⟩:=hr;obtain rfl:_=[]:=h2;obtain rfl:u1=.int .i64 a0:=h1;refine (Avp a0 hb w).mono ?_;rintro e w' ⟨rfl,hw⟩;exact ⟨_,rfl,hw,[_,_],[],⟨_,_,rfl,rfl,rfl,_,_,rfl,rfl,rfl,rfl,rfl⟩,⟨trivial,fun _=>rfl⟩,rfl⟩
end Go.Proofs.YthlpchhhinipaaaGreatDoor
namespace Go.Proofs.YthlpchhhinipaaaGreatDoor
open Go.RowKit Go.Deep
section
variable {σ:Oid->Option Loc} {im:Nat->Prop} {w:World}
end
section
variable {n:Nat} {d:Option Nat} {f:Nat->AV} {ob:Oid->Option Ob}
end
end Go.Proofs.YthlpchhhinipaaaGreatDoor
namespace Go.Proofs.YthlpchhhinipaaaGreatDoor
open Go.RowKit Go.Deep
set_option maxRecDepth 4000
set_option maxHeartbeats 4800000
variable {bA bB bC bD:Int} {gA gB:ByteArray} {hA hB:List (Int×Int×ByteArray)} {iA:Int×Int×ByteArray} {cA:Bool} {dA dB:LL} {jA:(List (Int×Int×ByteArray))×LL} {kA:List ByteArray} {lA:Int×Int×Bool}
def Ps (u1 u2:Int) (u0:ByteArray) (a1:Int):Option Int :=
 cond (decide (wI (a1 - (u0.size:Int))<0))
 (some (-1))
 (some (wI (a1 - (u0.size:Int))))
theorem Aai (h:Ps bA bB gA bC=some bD):cK 51 [.agg [ai bA,ai bB,.str gA],ai bC] (A3 bD):=by
 exact cO Tryz.func51 (Ae (Ae (Ab (Ae (kQ h (fun _ h=>Ae (Ac (tr_ (jS h)))) fun _ h=>skW (Ae (Ac (jS h))))))))
def G9 (a0:List (Int×Int×ByteArray)) (u1:Int) (u0:Nat):Option (Ctl (Int×Nat) (Ctl Int Int)) :=
 cond (decide ((u0:Int)<(a0.length:Int)))
 ((a0[u0]?).bind fun x15 =>
 (Ps x15.1 x15.2.1 x15.2.2 u1).bind fun y16 =>
 cond (decide (y16<0))
  (some (Ctl.out (Ctl.out (-1))))
  (og (u0+1<4611686018427387904) <|
  some (Ctl.next (y16,u0+1))))
 (some (Ctl.out (Ctl.next u1)))
def K8 (a0:List (Int×Int×ByteArray)) (a1:Int):Option Int :=
 cond (decide (wI (a1 - (a0.length:Int))<0))
 (some (-1))
 (Dn (Aq (fun s_:Int×Nat=>G9 a0 s_.1 s_.2) 4611686018427387904 (wI (a1 - (a0.length:Int)),0)) fun u0 =>
 some u0)
theorem Yr (h:K8 hA bA=some bB):cK 28 [.tree Y8 hA,ai bA] (A3 bB):=by
 refine cO Tryz.func28 (Ae (Ae (Ab (Ae (kQ h (fun _ h=>Ae (Ac (tr_ (jS h)))) fun _ h=>skW (sqC h (fun u0=>sT [(1,ai u0)] []) ?_ fun u0 h=>Ae (Ac (jS h))))))));intro _ h hk7;refine Ae (Ad (lpF h (fun (u1,u2)=>sT [(0,.tree Y8 hA),(1,ai u1),(5,an u2)] []) (Ag []) ?_));rintro n_ ⟨u1,u2⟩ c_ h hn9;exact Ab (Ae (kQ h (fun _ h=>skW (Ab (Ad (Ab (Aa 13 (rsT 2 (riH Y8 h fun x15 _ h=>rsT 2 (rcH h Aai fun y16 h=>rsT 1 (rnW (Ae (kQ h (fun _ h=>Ae (Ac (br_ (tr_ (tr_ (br_ (tr_ (have h:=jO h hn9;(have h:=jO h hk7;jS h))))))))) fun _ h=>Ay (bn_ (tn_ (wr_ (Aa 18 (rsT 1 (raH h fun h=>rsT 1 (Ap (tn_ (jL [])))))))))))))))))))) fun _ h=>lxT (have h:=jO h hn9;jC [])))
def Pk (u0 u1:Int) (u2:ByteArray):Option (Int×Int×ByteArray) :=
 some (u0,u1,u2)
def Acp (r:Int×Int×ByteArray):RV:=⟨false,[(true,[.sc (.int .i64 r.1),.sc (.int .i64 r.2.1),.sc (.str r.2.2)])]⟩
theorem Aax (h:Pk bA bB gA=some iA):cK 60 [.agg [ai bA,ai bB,.str gA]] (Acp iA):=by
 exact cO Tryz.func60 (Ae (Ae (Ae (Ae (Ae (Ae (Ac (jS h))))))))
def Hl (a0:List (Int×Int×ByteArray)) (u0:Nat) (u1:List (Int×Int×ByteArray)):Option (Ctl (Nat×(List (Int×Int×ByteArray))) (List (Int×Int×ByteArray))) :=
 cond (decide ((u0:Int)<(a0.length:Int)))
 ((a0[u0]?).bind fun x11 =>
 (Pk x11.1 x11.2.1 x11.2.2).bind fun y12 =>
 (u1[u0]?).bind fun x13 =>
 og (u0+1<4611686018427387904) <|
 some (Ctl.next (u0+1,u1.set u0 y12)))
 (some (Ctl.out u1))
def Lf (a0:List (Int×Int×ByteArray)):Option (List (Int×Int×ByteArray)) :=
 og (0<=(a0.length:Int)/\(a0.length:Int)<=(a0.length:Int)/\(a0.length:Int)<=1073741824/\(32:Int)*(a0.length:Int)<=140737488355328) <|
(Aq (fun s_:Nat×(List (Int×Int×ByteArray))=>Hl a0 s_.1 s_.2) 4611686018427387904 (0,List.replicate a0.length ((0,0,(⟨#[]⟩:ByteArray)):Int×Int×ByteArray))).bind fun u0 =>
some u0
def Rp (r:List (Int×Int×ByteArray)):RV:=⟨false,[(false,[.new 88 Y8 r])]⟩
theorem Zg (h:Lf hA=some hB):cK 31 [.tree Y8 hA] (Rp hB):=by
 refine cO Tryz.func31 (Ae (Ab (Aa 6 (rsT 2 ?_))));obtain ⟨g3,h⟩:=Ak h;refine rs1 (.own (oi 7 4) Y8 0 hA.length) (oi 7 4) (.arr 88 Y8 (List.replicate hA.length ((0,0,(⟨#[]⟩:ByteArray)):Int×Int×ByteArray))) (N3 (t:=Y8) (k:=.i64) (k':=.i64) (m:=(hA.length:Int)) (m':=(hA.length:Int)) kr kr g3 rfl) (rsT 1 (rnW (sqF h (fun u2=>sT [(3,.own (oi 0 1) Y8 0 u2.length)] [(oi 0 1,.arr 88 Y8 u2)]) ?_ fun u2 h=>Ae (Ac (jR h [.own (oi 0 1) Y8 0 u2.length] (F1 rfl (Dc kr rfl) Fc))))));intro _ h;refine Ae (Ad (lpF h (fun (u1,u0)=>sT [(0,.tree Y8 hA),(3,.own (oi 0 1) Y8 0 u0.length),(4,an u1)] [(oi 0 1,.arr 88 Y8 u0)]) ((wL 3 (List.length_replicate.symm:hA.length=(List.replicate hA.length ((0,0,(⟨#[]⟩:ByteArray)):Int×Int×ByteArray)).length)).trans (Ag [(oi 0 1,oi 7 4)])) ?_));rintro n_ ⟨u1,u0⟩ c_ h hn6;refine Ab (Ae (kQ h (fun _ h=>skW (Ab (Ad (Aa 15 (rsT 4 (riH Y8 h fun x11 _ h=>rsT 1 (rcH h Aax fun y12 h=>?_))))))) fun _ h=>lxT (have h:=jO h hn6;jE [])));obtain ⟨x13,e13,h⟩:=Ah h;refine rs0 (.elt (oi 0 1) u1 0) (zo (t:=Y8) (o:=oi 0 1) (len:=u0.length) (k:=.i64) (m:=(u1:Int)) (C1 _) (Ai e13)) (Aft (oi 0 1) (oi 0 1) (.arr 88 Y8 (u0.set u1 y12)) (Vj (i:=oi 0 1) (j:=u1) (k:=0) (e:=88) (t:=Y8) (xs:=u0) (cs:=[ai y12.1,ai y12.2.1,.str y12.2.2]) (x1:=y12) kr kr e13 kr kr) (Ap (bn_ (tn_ (wr_ (Aa 18 (rsT 1 (raH h fun h=>rsT 1 (Ap (tn_ ?_))))))))));obtain rfl:=zj h;exact jLw hn6 ((wL 3 (((rfl:u0.length=u0.length).trans List.length_set.symm):u0.length=(u0.set u1 y12).length)).trans (Ag []))
def Pv (u0 u1:Int) (u2:ByteArray) (u3 u4:Int) (u5:ByteArray):Option Bool :=
 cond (u0 !=u3)
 (some false)
 (cond (u1 !=u4)
  (some false)
  (cond (!(u2.toList==u5.toList))
   (some false)
   (some true)))
theorem Ace (h:Pv bA bB gA bC bD gB=some cA):cK 72 [.agg [ai bA,ai bB,.str gA],.agg [ai bC,ai bD,.str gB]] (Ao cA):=by
 exact cO Tryz.func72 (Ae (Ab (Ae (kQ h (fun _ h=>Ae (Ac (tr_ (jS h)))) fun _ h=>skW (Ab (Ae (kQ h (fun _ h=>Ae (Ac (tr_ (jS h)))) fun _ h=>skW (Ab (Ae (kQ h (fun _ h=>Ae (Ac (tr_ (jS h)))) fun _ h=>skW (Ae (Ac (jS h)))))))))))))
def G8 (a0:List (Int×Int×ByteArray)) (a1:List (Int×Int×ByteArray)) (u0:Nat):Option (Ctl Nat (Ctl Unit Bool)) :=
 cond (decide ((u0:Int)<(a0.length:Int)))
 ((a0[u0]?).bind fun x14 =>
 (a1[u0]?).bind fun x15 =>
 (Pv x14.1 x14.2.1 x14.2.2 x15.1 x15.2.1 x15.2.2).bind fun y16 =>
 cond (!y16)
  (some (Ctl.out (Ctl.out false)))
  (og (u0+1<4611686018427387904) <|
  some (Ctl.next (u0+1))))
 (some (Ctl.out (Ctl.next ())))
def K7 (a0:List (Int×Int×ByteArray)) (a1:List (Int×Int×ByteArray)):Option Bool :=
 cond ((a0.length:Int) !=(a1.length:Int))
 (some false)
 (Dn (Aq (fun s_:Nat=>G8 a0 a1 s_) 4611686018427387904 0) fun _ =>
 some true)
theorem Zd (h:K7 hA hB=some cA):cK 35 [.tree Y8 hA,.tree Y8 hB] (Ao cA):=by
 exact cO Tryz.func35 (Ae (Ab (Ae (kQ h (fun _ h=>Ae (Ac (tr_ (jS h)))) fun _ h=>skW (sqC h (fun _=>sT [] []) (fun _ h hk6=>Ae (Ad (lpF h (fun u0=>sT [(0,.tree Y8 hA),(1,.tree Y8 hB),(5,an u0)] []) (Ag []) (fun n_ u0 c_ h hn8=>Ab (Ae (kQ h (fun _ h=>skW (Ab (Ad (Ab (An 16 (ds0 (.tree Y8 hA) kr (ds0 (an u0) kr (diH Y8 h fun x14 _ h=>dsT 3 (diH Y8 h fun x15 _ h=>ds0 (.agg [ai x15.1,ai x15.2.1,.str x15.2.2]) kr (dcH h Ace fun y16 h=>ds0 (.bool (!y16)) kr (Ct (As kr) (tn_ (wr_ (kQ h (fun _ h=>Ae (Ac (br_ (tr_ (tr_ (br_ (tr_ (have h:=jO h hn8;(have h:=jO h hk6;jS h))))))))) fun _ h=>Ay (bn_ (tn_ (wr_ (Aa 19 (rsT 1 (raH h fun h=>rsT 1 (Ap (tn_ (jL []))))))))))))))))))))))) fun _ h=>lxT (have h:=jO h hn8;jC []))))))) fun _ h=>Ae (Ac (jS h)))))))
def P3 (u0:List (Int×Int×ByteArray)) (a1:Int):Option Int :=
 (K8 u0 a1).bind fun y3 =>
cond (decide (y3<0))
 (some (-1))
 (some y3)
theorem Abr (h:P3 hA bA=some bB):cK 7 [.agg [.tree Y8 hA],ai bA] (A3 bB):=by
 exact cO Tryz.func7 (Ae (Ab (Aa 8 (rsT 3 (rcH h Yr fun y3 h=>rsT 1 (rnW (Ab (Ae (kQ h (fun _ h=>Ae (Ac (tr_ (jS h)))) fun _ h=>skW (Ae (Ac (jS h))))))))))))
def Pu (u0:List (Int×Int×ByteArray)):Option (List (Int×Int×ByteArray)) :=
 (Lf u0).bind fun y4 =>
some y4
def Sn (r:List (Int×Int×ByteArray)):RV:=⟨false,[(true,[.new 88 Y8 r])]⟩
theorem Aak (h:Pu hA=some hB):cK 10 [.agg [.tree Y8 hA]] (Sn hB):=by
 exact cO Tryz.func10 (Ae (Ae (Ab (Aa 9 (rsT 2 (rcH h Zg fun y4 h=>rsB 2 (rnW (Ae (Ac (jR h [.agg [.own (oi 96 6) Y8 0 y4.length]] (Ta (D5 (Dc kr rfl) T2) Fc)))))))))))
def Pp (u0:List (Int×Int×ByteArray)) (u1:List (Int×Int×ByteArray)):Option Bool :=
 (K7 u0 u1).bind fun y4 =>
cond (!y4)
 (some false)
 (some true)
theorem Aa2 (h:Pp hA hB=some cA):cK 14 [.agg [.tree Y8 hA],.agg [.tree Y8 hB]] (Ao cA):=by
 exact cO Tryz.func14 (Ae (Ab (Ab (Aa 10 (rsT 4 (rcH h Zd fun y4 h=>rsT 1 (rnW (kQ h (fun _ h=>Ae (Ac (tr_ (jS h)))) fun _ h=>skW (Ae (Ac (jS h)))))))))))
def Gh (u0:ByteArray) (u1:List (Int×Int×ByteArray)) (u2 u3:Int) (u4:LL) (a1:Int):Option Int :=
 cond (decide (wI (a1 - (u0.size:Int))<0))
 (some (-1))
 ((P3 u1 (wI (a1 - (u0.size:Int)))).bind fun y8 =>
 cond (decide (y8<0))
  (some (-1))
  ((He u2 u3 u4 y8).bind fun y14 =>
  cond (decide (y14<0))
   (some (-1))
   (some y14)))
theorem Ts (h:Gh gA hA bA bB dA bC=some bD):cK 21 [.agg [.str gA,.tree Y8 hA,ai bA,ai bB,tS dA],ai bC] (A3 bD):=by
 exact cO Tryz.func21 (Ae (Ae (Ab (Ae (kQ h (fun _ h=>Ae (Ac (tr_ (jS h)))) fun _ h=>skW (Ab (Aa 16 (rsT 3 (rcH h Abr fun y8 h=>rsT 1 (rnW (Ab (Ae (kQ h (fun _ h=>Ae (Ac (tr_ (jS h)))) fun _ h=>skW (Ab (Aa 23 (rsT 3 (rcH h Um fun y14 h=>rsT 1 (rnW (Ab (Ae (kQ h (fun _ h=>Ae (Ac (tr_ (jS h)))) fun _ h=>skW (Ae (Ac (jS h))))))))))))))))))))))))
def Cr (u4:ByteArray) (u0:List (Int×Int×ByteArray)) (u1 u2:Int) (u3:LL):Option ((List (Int×Int×ByteArray))×LL) :=
 (Pu u0).bind fun y6 =>
(Ha u1 u2 u3).bind fun y8 =>
some (y6,y8)
theorem Fi (h:Cr gA hA bA bB dA=some jA):Cm Tryz.prog Tab 23 [.agg [.str gA,.tree Y8 hA,ai bA,ai bB,tS dA]] [] (.agg [.str gA,.own (oi 1 1) Y8 0 jA.1.length,ai bA,ai bB,oS 2 1 jA.2.length]) [(oi 0 1,.cells 51 [.str gA,.own (oi 1 1) Y8 0 jA.1.length,ai bA,ai bB,oS 2 1 jA.2.length]),(oi 1 1,.arr 88 Y8 jA.1),(oi 2 1,.mat 81 (oi 3 1) .int jA.2),(oi 3 1,.pool 3 .int jA.2)]:=by
 refine Bg kr Tryz.func23 (Bt kr) (n:=16) kr (by simp) rfl kr trivial ⟨trivial,⟨trivial,⟨⟨3,.tail _ (.tail _ (.tail _ (.head _)))⟩,⟨trivial,trivial⟩⟩⟩⟩ (Ae (Ae (Ae (Ab (Aa 13 (rsT 2 (rcH h Aak fun y6 h=>rsB 2 (rnW (Ab (Aa 18 (rsT 2 (rcM h [] [.agg [ai bA,ai bB,tS dA]] Uf trivial (aR kr) (Ar kr kr trivial) fun y8 h=>rsB 2 (rnW (Ae (Ac ?_)))))))))))))));obtain rfl:=zj h;exact Cz [.agg [.str gA,.own (oi 1 1) Y8 0 y6.length,ai bA,ai bB,oS 2 1 y8.length]] (Ag (tl:=[(2,.box (oi 0 1) 0)]) (g:=2) [(oi 0 1,oi 2 2),(oi 1 1,oi 144 10),(oi 2 1,oi 209 15),(oi 3 1,oi 210 15)])
def Cw (u0:ByteArray) (u1:List (Int×Int×ByteArray)) (u2 u3:Int) (u4:LL) (u5:ByteArray) (u6:List (Int×Int×ByteArray)) (u7 u8:Int) (u9:LL):Option Bool :=
 cond (!(u0.toList==u5.toList))
 (some false)
 ((Pp u1 u6).bind fun y8 =>
 cond (!y8)
  (some false)
  ((Hj u2 u3 u4 u7 u8 u9).bind fun y13 =>
  cond (!y13)
   (some false)
   (some true)))
theorem Fq (h:Cw gA hA bA bB dA gB hB bC bD dB=some cA):cK 25 [.agg [.str gA,.tree Y8 hA,ai bA,ai bB,tS dA],.agg [.str gB,.tree Y8 hB,ai bC,ai bD,tS dB]] (Ao cA):=by
 exact cO Tryz.func25 (Ae (Ab (Ae (kQ h (fun _ h=>Ae (Ac (tr_ (jS h)))) fun _ h=>skW (Ab (Ab (Aa 15 (rsT 4 (rcH h Aa2 fun y8 h=>rsT 1 (rnW (kQ h (fun _ h=>Ae (Ac (tr_ (jS h)))) fun _ h=>skW (Ab (Ab (Aa 21 (rsT 4 (rcH h U7 fun y13 h=>rsT 1 (rnW (kQ h (fun _ h=>Ae (Ac (tr_ (jS h)))) fun _ h=>skW (Ae (Ac (jS h)))))))))))))))))))))
def Hr (a0:Int):Option Bool :=
 (cond (decide (97<=a0))
  (some (decide (a0<=122)))
  (some false)).bind fun u0 =>
some u0
theorem Rg (h:Hr bA=some cA):cK 122 [.int .u8 bA] (Ao cA):=by
 exact cO Tryz.func122 (Ae (sqF h (fun u0=>sT [(2,.bool u0)] []) (fun _ h=>Aa 9 (rsT 3 (kR h 5 (fun _ h=>rsT 4 (Ap (tn_ (jE [])))) fun _ h=>rsT 4 (Ap (tn_ (jE [])))))) fun u0 h=>Ac (jS h)))
def L5  : Option (List ByteArray) :=
 some ([(⟨#[]⟩:ByteArray),(⟨#[105,100]⟩:ByteArray),(⟨#[115,119,97,112]⟩:ByteArray),(⟨#[99,111,112,121]⟩:ByteArray),(⟨#[100,105,115,99,97,114,100]⟩:ByteArray),(⟨#[97,100,100]⟩:ByteArray),(⟨#[122,101,114,111]⟩:ByteArray),(⟨#[115,99,97,108,101]⟩:ByteArray),(⟨#[100,101,108,97,121]⟩:ByteArray),(⟨#[99,111,99,111,112,121]⟩:ByteArray),(⟨#[99,111,100,105,115,99,97,114,100]⟩:ByteArray),(⟨#[99,111,97,100,100]⟩:ByteArray),(⟨#[99,111,122,101,114,111]⟩:ByteArray),(⟨#[99,111,115,99,97,108,101]⟩:ByteArray),(⟨#[99,111,100,101,108,97,121]⟩:ByteArray)])
def O1 (r:List ByteArray):RV:=⟨false,[(false,[.new 9 .str r])]⟩
theorem Vn (h:L5=some kA):cK 158 [] (O1 kA):=by
 exact cO Tryz.func158 (Ae (Ae (Ac (jR h [.own (oi 1 2) .str 0 15] (F1 rfl (Dc kr rfl) Fc)))))
def Eo (y4:List ByteArray) (a0:ByteArray) (u0:Nat):Option (Ctl Nat (Ctl Unit Int)) :=
 cond (decide ((u0:Int)<(y4.length:Int)))
 ((y4[u0]?).bind fun x11 =>
 cond (x11.toList==a0.toList)
  (some (Ctl.out (Ctl.out (u0:Int))))
  (og (u0+1<4611686018427387904) <|
  some (Ctl.next (u0+1))))
 (some (Ctl.out (Ctl.next ())))
def Mr (a0:ByteArray):Option Int :=
 Dn ((L5).bind fun y4 =>
 Aq (fun s_:Nat=>Eo y4 a0 s_) 4611686018427387904 0) fun _ =>
some 17
theorem Z7 (h:Mr gA=some bA):cK 123 [.str gA] (A3 bA):=by
 refine cO Tryz.func123 (Ae (sqC h (fun _=>sT [] []) ?_ fun _ h=>Ae (Ac (jS h))));intro _ h hk2;refine Ab (Aa 5 (rcH h Vn fun y4 h=>rsT 2 (rnW (Ad (lpF h (fun u0=>sT [(0,.str gA),(5,.own (oi 0 1) .str 0 y4.length),(6,an y4.length),(7,an u0)] [(oi 0 1,.arr 9 .str y4)]) (Ag [(oi 0 1,oi 80 2)]) ?_)))));intro n_ u0 c_ h hn5;refine Ae (Ab (kQ h (fun _ h=>skW (Ab (Ad (Ab (Aa 8 (rsT 1 ?_)))))) fun _ h=>lxT (have h:=jO h hn5;jC [])));obtain ⟨x11,e11,h⟩:=Ah h;exact zO (oi 0 1) .str y4.length (Ai e11) (rsl (.str x11) (Hw (i:=oi 0 1) (j:=u0) (k:=0) (e:=9) (t:=.str) (xs:=y4) kr kr e11 kr) (rsT 2 (rnW (Ae (kQ h (fun _ h=>Ae (Ac (br_ (tr_ (tr_ (br_ (tr_ (have h:=jO h hn5;(have h:=jO h hk2;jS h))))))))) fun _ h=>Ay (bn_ (tn_ (wr_ (Aa 13 (raH h fun h=>rsT 1 (Ap (tn_ (jL [])))))))))))))
def Kv (a0:Int):Option Bool :=
 (cond (decide (48<=a0))
  (some (decide (a0<=57)))
  (some false)).bind fun u0 =>
some u0
theorem Yt (h:Kv bA=some cA):cK 124 [.int .u8 bA] (Ao cA):=by
 exact cO Tryz.func124 (Ae (sqF h (fun u0=>sT [(2,.bool u0)] []) (fun _ h=>Aa 9 (rsT 3 (kR h 5 (fun _ h=>rsT 4 (Ap (tn_ (jE [])))) fun _ h=>rsT 4 (Ap (tn_ (jE [])))))) fun u0 h=>Ac (jS h)))
def Iv (a0:ByteArray) (u0:Nat):Option (Ctl Nat (Ctl Unit Bool)) :=
 cond (decide ((u0:Int)<(a0.size:Int)))
 (((a0[u0]?).bind fun x21 =>
  (Hr (x21.toNat:Int)).bind fun y22 =>
  cond (!y22)
   ((a0[u0]?).bind fun x24 =>
   (Kv (x24.toNat:Int)).bind fun y25 =>
   some (!y25))
   (some false)).bind fun u1 =>
 cond u1
  (some (Ctl.out (Ctl.out false)))
  (og (u0+1<4611686018427387904) <|
  some (Ctl.next (u0+1))))
 (some (Ctl.out (Ctl.next ())))
def Mi (a0:ByteArray):Option Bool :=
 ((B5 (a0.size:Int) 1 8).bind fun y4 =>
 cond (!y4)
  (some true)
  ((a0[0]?).bind fun x6 =>
  (Hr (x6.toNat:Int)).bind fun y7 =>
  cond (!y7)
   (some true)
   ((Mr a0).bind fun y9 =>
   some (y9 !=17)))).bind fun u0 =>
cond u0
 (some false)
 (Dn (Aq (fun s_:Nat=>Iv a0 s_) 4611686018427387904 0) fun _ =>
 some true)
theorem Z8 (h:Mi gA=some cA):cK 85 [.str gA] (Ao cA):=by
 refine cO Tryz.func85 (Ae (Ab (sqF h (fun u1=>sT [(0,.str gA),(18,.bool u1)] []) ?_ ?_)))
 ·intro _ h;refine Aa 17 (rsT 2 (rcH h C4 fun y4 h=>rsT 2 ?_));rcases A0 h with ⟨q5,h⟩|⟨q5,h⟩
  ·exact rq 8 q5 (rsT 10 (Ap (tn_ (jE []))))
  refine rq 8 q5 (rsT 1 ?_);obtain ⟨x6,e6,h⟩:=Ah h;refine rs0 (.int .u8 (x6.toNat:Int)) (On (s:=gA) (k:=.i64) (m:=0) kr kr (by decide) rfl e6) (rcH h Rg fun y7 h=>rsT 3 ?_);rcases A0 h with ⟨q8,h⟩|⟨q8,h⟩
  ·exact rq 14 q8 (rsT 4 (Ap (tn_ (jE []))))
  exact rq 14 q8 (rsT 1 (rcH h Z7 fun y9 h=>rsT 2 (Ap (tn_ (jE [])))))
 intro u1 h;refine kQ h (fun _ h=>Ae (Ac (tr_ (jS h)))) fun _ h=>skW (sqC h (fun _=>sT [] []) ?_ fun _ h=>Ae (Ac (jS h)))
 intro _ h hk12;refine Ae (Ad (lpF h (fun u0=>sT [(0,.str gA),(20,an gA.size),(21,an u0)] []) (Ag []) ?_));intro n_ u0 c_ h hn14;refine Ae (Ab (kQ h (fun _ h=>skW (Ab (Ad (Ae (sqF h (fun u2=>sT [(0,.str gA),(20,an gA.size),(21,an u0),(35,.bool u2)] []) ?_ fun u2 h=>kQ h (fun _ h=>Ae (Ac (br_ (tr_ (tr_ (br_ (tr_ (have h:=jO h hn14;(have h:=jO h hk12;jS h))))))))) fun _ h=>Ay (bn_ (tn_ (wr_ (Aa 4 (raH h fun h=>rsT 1 (Ap (tn_ (jL []))))))))))))) fun _ h=>lxT (have h:=jO h hn14;jC [])));intro _ h;refine Aa 17 (rsT 2 ?_);obtain ⟨x21,e21,h⟩:=Ah h;refine rs0 (.int .u8 (x21.toNat:Int)) (On (s:=gA) (k:=.i64) (m:=(u0:Int)) kr kr (C1 _) rfl e21) (rcH h Rg fun y22 h=>rsT 2 ?_);rcases A0 h with ⟨q23,h⟩|⟨q23,h⟩
 ·refine rq 29 q23 (rsT 2 ?_);obtain ⟨x24,e24,h⟩:=Ah h;exact rs0 (.int .u8 (x24.toNat:Int)) (On (s:=gA) (k:=.i64) (m:=(u0:Int)) kr kr (C1 _) rfl e24) (rcH h Yt fun y25 h=>rsT 2 (Ap (tn_ (jE []))))
 exact rq 29 q23 (rsT 6 (Ap (tn_ (jE []))))
def Ka (a0:Int):Option Bool :=
 (B5 a0 3 14).bind fun y3 =>
some y3
theorem Tu (h:Ka bA=some cA):cK 163 [ai bA] (Ao cA):=by
 exact cO Tryz.func163 (Ae (Ab (Aa 5 (rsT 1 (rcH h C4 fun y3 h=>rsT 1 (rnW (Ac (jS h))))))))
def Gt (a0:Int):Option Bool :=
 (cond (a0==7)
  (some true)
  (some (a0==13))).bind fun u0 =>
some u0
theorem Qm (h:Gt bA=some cA):cK 67 [ai bA] (Ao cA):=by
 exact cO Tryz.func67 (Ae (sqF h (fun u0=>sT [(2,.bool u0)] []) (fun _ h=>Aa 9 (rsT 3 (kR h 5 (fun _ h=>rsT 4 (Ap (tn_ (jE [])))) fun _ h=>rsT 4 (Ap (tn_ (jE [])))))) fun u0 h=>Ac (jS h)))
def F3 (a0 a1:Int):Option Bool :=
 (Gt a0).bind fun y4 =>
cond y4
 ((B5 a1 0 96).bind fun y7 =>
 some y7)
 (some (a1==0))
theorem Pi (h:F3 bA bB=some cA):cK 164 [ai bA,ai bB] (Ao cA):=by
 exact cO Tryz.func164 (Ae (Ab (Ab (Aa 4 (rsT 1 (rcH h Qm fun y4 h=>rnW (kQ h (fun _ h=>Ab (Aa 7 (rsT 1 (rcH h C4 fun y7 h=>rsT 1 (rnW (Ac (tr_ (jS h)))))))) fun _ h=>skW (Ae (Ac (jS h))))))))))
def F5 (u0 u1:Int) (u2:ByteArray):Option (Int×Int×Bool) :=
 cond (!(u2.toList==(⟨#[]⟩:ByteArray).toList))
 (some (0,0,false))
 (cond (u0==1)
  ((B5 u1 0 12).bind fun y9 =>
  some (u1,u1,y9))
  (cond (u0==2)
   (some (2,2,u1==0))
   ((Ka u0).bind fun y14 =>
   cond y14
    ((Di u0).bind fun y17 =>
    (F3 u0 u1).bind fun y18 =>
    some (y17.1,y17.2,y18))
    (some (0,0,false)))))
def Hc (r:Int×Int×Bool):RV:=⟨true,[(true,[.sc (.int .i64 r.1),.sc (.int .i64 r.2.1)]),(false,[.sc (.bool r.2.2)])]⟩
theorem Wg (h:F5 bA bB gA=some lA):cK 128 [.agg [ai bA,ai bB,.str gA]] (Hc lA):=by
 exact cO Tryz.func128 (Ae (Ab (Ad (Ae (kQ h (fun _ h=>Ae (Ac (br_ (tr_ (jS h))))) fun _ h=>Ae (kQ h (fun _ h=>Ab (An 22 (dsT 7 (dcH h C4 fun y9 h=>M9 (oi 2 2) (oi 2 2) (.cells 114 [ai bB,ai bB]) kr (ds0 (.bool y9) kr (Ct (As kr) (tn_ (wr_ (Ac (br_ (tr_ (jS h)))))))))))) fun _ h=>Ae (kQ h (fun _ h=>Ab (An 22 (dsT 4 (M9 (oi 2 2) (oi 2 2) (.cells 114 [ai 2,ai 2]) kr (ds0 (.bool (bB==0)) kr (Ct (As kr) (tn_ (wr_ (Ac (br_ (tr_ (jS h)))))))))))) fun _ h=>Ab (Aa 20 (rsT 2 (rcH h Tu fun y14 h=>rsT 1 (rnW (kQ h (fun _ h=>Ab (An 30 (ds0 (.box (oi 1 1) 0) kr (dsl (ai bA) kr (dcH h Gi fun y17 h=>dsT 4 (dcH h Pi fun y18 h=>M9 (oi 2 2) (oi 2 2) (.cells 114 [ai y17.1,ai y17.2]) kr (ds0 (.bool y18) kr (Ct (As kr) (tn_ (wr_ (Ac (br_ (tr_ (jS h)))))))))))))) fun _ h=>Ay (bn_ (tn_ (wr_ (Ae (Ac (jS h))))))))))))))))))
def B6 (a0:ByteArray) (u0:Nat):Option (Ctl Nat (Ctl Unit Bool)) :=
 cond (decide ((u0:Int)<(a0.size:Int)))
 (((a0[u0]?).bind fun x19 =>
  cond (decide ((x19.toNat:Int)<97))
   ((a0[u0]?).bind fun x21 =>
   cond (decide ((x21.toNat:Int)<48))
    (some true)
    ((a0[u0]?).bind fun x23 =>
    some (decide (57<(x23.toNat:Int)))))
   ((a0[u0]?).bind fun x24 =>
   cond (decide (122<(x24.toNat:Int)))
    ((a0[u0]?).bind fun x26 =>
    cond (decide ((x26.toNat:Int)<48))
     (some true)
     ((a0[u0]?).bind fun x28 =>
     some (decide (57<(x28.toNat:Int)))))
    (some false))).bind fun u1 =>
 cond u1
  (some (Ctl.out (Ctl.out false)))
  (og (u0+1<4611686018427387904) <|
  some (Ctl.next (u0+1))))
 (some (Ctl.out (Ctl.next ())))
def Pw (a0:ByteArray):Option Bool :=
 ((Cb (a0.size:Int) 1 8).bind fun y4 =>
 cond (!y4)
  (some true)
  ((a0[0]?).bind fun x6 =>
  cond (decide ((x6.toNat:Int)<97))
   (some true)
   ((a0[0]?).bind fun x8 =>
   some (decide (122<(x8.toNat:Int)))))).bind fun u0 =>
cond u0
 (some false)
 (Dn (Aq (fun s_:Nat=>B6 a0 s_) 4611686018427387904 1) fun _ =>
 some true)
theorem Ac1 (h:Pw gA=some cA):cK 116 [.str gA] (Ao cA):=by
 refine cO Tryz.func116 (Ae (Ab (sqF h (fun u1=>sT [(0,.str gA),(17,.bool u1)] []) ?_ ?_)))
 ·intro _ h;refine Aa 16 (rsT 2 (rcH h Co fun y4 h=>rsT 2 ?_));rcases A0 h with ⟨q5,h⟩|⟨q5,h⟩
  ·exact rq 8 q5 (rsT 9 (Ap (tn_ (jE []))))
  refine rq 8 q5 (rsT 1 ?_);obtain ⟨x6,e6,h⟩:=Ah h;refine rs0 (.int .u8 (x6.toNat:Int)) (On (s:=gA) (k:=.i64) (m:=0) kr kr (by decide) rfl e6) (rsT 3 ?_);rcases A0 h with ⟨q7,h⟩|⟨q7,h⟩
  ·exact rq 13 q7 (rsT 4 (Ap (tn_ (jE []))))
  refine rq 13 q7 (rsT 1 ?_);obtain ⟨x8,e8,h⟩:=Ah h;exact rs0 (.int .u8 (x8.toNat:Int)) (On (s:=gA) (k:=.i64) (m:=0) kr kr (by decide) rfl e8) (rsT 2 (Ap (tn_ (jE []))))
 intro u1 h;refine kQ h (fun _ h=>Ae (Ac (tr_ (jS h)))) fun _ h=>skW (sqC h (fun _=>sT [] []) ?_ fun _ h=>Ae (Ac (jS h)))
 intro _ h hk11;refine Ae (Ad (lpF h (fun u0=>sT [(0,.str gA),(3,an u0)] []) (Ag []) ?_));intro n_ u0 c_ h hn13;refine Ab (Ae (kQ h (fun _ h=>skW (Ab (Ad (sqF h (fun u2=>sT [(0,.str gA),(3,an u0),(45,.bool u2)] []) ?_ fun u2 h=>kQ h (fun _ h=>Ae (Ac (br_ (tr_ (tr_ (br_ (tr_ (have h:=jO h hn13;(have h:=jO h hk11;jS h))))))))) fun _ h=>Ay (bn_ (tn_ (wr_ (Aa 5 (rsT 1 (raH h fun h=>rsT 1 (Ap (tn_ (jL []))))))))))))) fun _ h=>lxT (have h:=jO h hn13;jC [])));intro _ h;refine Aa 28 (rsT 2 ?_);obtain ⟨x19,e19,h⟩:=Ah h;refine rs0 (.int .u8 (x19.toNat:Int)) (On (s:=gA) (k:=.i64) (m:=(u0:Int)) kr kr (C1 _) rfl e19) (rsT 2 ?_);rcases A0 h with ⟨q20,h⟩|⟨q20,h⟩
 ·refine rq 28 q20 (rsT 8 ?_);obtain ⟨x21,e21,h⟩:=Ah h;refine rs0 (.int .u8 (x21.toNat:Int)) (On (s:=gA) (k:=.i64) (m:=(u0:Int)) kr kr (C1 _) rfl e21) (rsT 2 ?_);rcases A0 h with ⟨q22,h⟩|⟨q22,h⟩
  ·exact rq 39 q22 (rsT 6 (Ap (tn_ (jE []))))
  refine rq 39 q22 (rsT 2 ?_);obtain ⟨x23,e23,h⟩:=Ah h;exact rs0 (.int .u8 (x23.toNat:Int)) (On (s:=gA) (k:=.i64) (m:=(u0:Int)) kr kr (C1 _) rfl e23) (rsT 3 (Ap (tn_ (jE []))))
 refine rq 28 q20 (rsT 2 ?_);obtain ⟨x24,e24,h⟩:=Ah h;refine rs0 (.int .u8 (x24.toNat:Int)) (On (s:=gA) (k:=.i64) (m:=(u0:Int)) kr kr (C1 _) rfl e24) (rsT 3 ?_);rcases A0 h with ⟨q25,h⟩|⟨q25,h⟩
 ·refine rq 34 q25 (rsT 2 ?_);obtain ⟨x26,e26,h⟩:=Ah h;refine rs0 (.int .u8 (x26.toNat:Int)) (On (s:=gA) (k:=.i64) (m:=(u0:Int)) kr kr (C1 _) rfl e26) (rsT 2 ?_);rcases A0 h with ⟨q27,h⟩|⟨q27,h⟩
  ·exact rq 39 q27 (rsT 6 (Ap (tn_ (jE []))))
  refine rq 39 q27 (rsT 2 ?_);obtain ⟨x28,e28,h⟩:=Ah h;exact rs0 (.int .u8 (x28.toNat:Int)) (On (s:=gA) (k:=.i64) (m:=(u0:Int)) kr kr (C1 _) rfl e28) (rsT 3 (Ap (tn_ (jE []))))
 exact rq 34 q25 (rsT 5 (rs0 (.tup []) (Zv kr) (rs0 (.tup []) (Zv kr) (rs0 (.tup []) (Zv kr) (rs0 (.tup []) (Zv kr) (rsT 2 (Ap (tn_ (jE [])))))))))
def K6  : Option (List ByteArray) :=
 some ([(⟨#[105,100]⟩:ByteArray),(⟨#[115,119,97,112]⟩:ByteArray),(⟨#[99,111,112,121]⟩:ByteArray),(⟨#[100,105,115,99,97,114,100]⟩:ByteArray),(⟨#[97,100,100]⟩:ByteArray),(⟨#[122,101,114,111]⟩:ByteArray),(⟨#[115,99,97,108,101]⟩:ByteArray),(⟨#[100,101,108,97,121]⟩:ByteArray),(⟨#[99,111,99,111,112,121]⟩:ByteArray),(⟨#[99,111,100,105,115,99,97,114,100]⟩:ByteArray),(⟨#[99,111,97,100,100]⟩:ByteArray),(⟨#[99,111,122,101,114,111]⟩:ByteArray),(⟨#[99,111,115,99,97,108,101]⟩:ByteArray),(⟨#[99,111,100,101,108,97,121]⟩:ByteArray)])
theorem Ui (h:K6=some kA):cK 118 [] (O1 kA):=by
 exact cO Tryz.func118 (Ae (Ae (Ac (jR h [.own (oi 1 2) .str 0 14] (F1 rfl (Dc kr rfl) Fc)))))
def Ep (a0:List ByteArray) (a1:ByteArray) (u0:Nat):Option (Ctl Nat (Ctl Unit Bool)) :=
 cond (decide ((u0:Int)<(a0.length:Int)))
 ((a0[u0]?).bind fun x10 =>
 cond (x10.toList==a1.toList)
  (some (Ctl.out (Ctl.out true)))
  (og (u0+1<4611686018427387904) <|
  some (Ctl.next (u0+1))))
 (some (Ctl.out (Ctl.next ())))
def L9 (a0:List ByteArray) (a1:ByteArray):Option Bool :=
 Dn (Aq (fun s_:Nat=>Ep a0 a1 s_) 4611686018427387904 0) fun _ =>
some false
theorem Aad (h:L9 kA gA=some cA):cK 117 [.tree .str kA,.str gA] (Ao cA):=by
 exact cO Tryz.func117 (Ae (sqC h (fun _=>sT [] []) (fun _ h hk2=>Ae (Ad (lpF h (fun u0=>sT [(1,.str gA),(7,.tree .str kA),(8,an kA.length),(9,an u0)] []) (Ag []) (fun n_ u0 c_ h hn4=>Ae (Ab (kQ h (fun _ h=>skW (Ab (Ad (Ab (Aa 6 (riH .str h fun x10 _ h=>rsT 2 (rnW (Ae (kQ h (fun _ h=>Ae (Ac (br_ (tr_ (tr_ (br_ (tr_ (have h:=jO h hn4;(have h:=jO h hk2;jS h))))))))) fun _ h=>Ay (bn_ (tn_ (wr_ (Aa 11 (raH h fun h=>rsT 1 (Ap (tn_ (jL []))))))))))))))))) fun _ h=>lxT (have h:=jO h hn4;jC []))))))) fun _ h=>Ae (Ac (jS h))))
def Me (a0:ByteArray):Option Bool :=
 ((Pw a0).bind fun y3 =>
 cond y3
  ((K6).bind fun y5 =>
  (L9 y5 a0).bind fun y6 =>
  some (!y6))
  (some false)).bind fun u0 =>
some u0
theorem Acf (h:Me gA=some cA):cK 78 [.str gA] (Ao cA):=by
 refine cO Tryz.func78 (Ae (sqF h (fun u0=>sT [(2,.bool u0)] []) ?_ fun u0 h=>Ac (jS h)));intro _ h;refine Aa 11 (rsT 1 (rcH h Ac1 fun y3 h=>rsT 1 ?_));rcases A0 h with ⟨q4,h⟩|⟨q4,h⟩
 ·exact rq 5 q4 (rcH h Ui fun y5 h=>rsT 1 (rcG h [.own (oi 96 5) .str 0 y5.length,.str gA] Aad (Al (C2 (e:=9) kr rfl) (Al kr Bz)) fun y6 h=>rsT 3 (Ap (tn_ (jE [])))))
 exact rq 5 q4 (rsT 6 (Ap (tn_ (jE []))))
end Go.Proofs.YthlpchhhinipaaaGreatDoor


namespace Go.Proofs.YthlpchhhinipaaaGreatDoor
open Go.RowKit Go.Deep
set_option maxRecDepth 4000
set_option maxHeartbeats 4800000
variable {bA bB bC bD bE:Int} {cA:Bool} {lA:Int×Int×Bool} {hA:List (Int×Int×ByteArray)} {gA:ByteArray} {dA:LL}
def L1 (u0 u1:Int):Option Bool :=
 (cond (decide (u0<=12))
  (some (decide (u1<=12)))
  (some false)).bind fun u2 =>
some u2
theorem V8 (h:L1 bA bB=some cA):cK 177 [.agg [ai bA,ai bB]] (Ao cA):=by
 exact cO Tryz.func177 (Ae (sqF h (fun u2=>sT [(2,.bool u2)] []) (fun _ h=>Aa 12 (rsT 4 (kR h 6 (fun _ h=>rsT 5 (Ap (tn_ (jE [])))) fun _ h=>rsT 5 (Ap (tn_ (jE [])))))) fun u2 h=>Ac (jS h)))
def F4 (a0 u0:Int) (u1 u2 u3:Int):Option (Int×Int×Bool) :=
 cond (a0==15)
 (some (u0,u3,u1==u2))
 ((L1 (wI (u0+u2)) (wI (u1+u3))).bind fun y8 =>
 some (wI (u0+u2),wI (u1+u3),y8))
theorem Vb (h:F4 bA bB bC bD bE=some lA):cK 153 [ai bA,.agg [ai bB,ai bC],.agg [ai bD,ai bE]] (Hc lA):=by
 exact cO Tryz.func153 (Ae (Ab (Ae (kQ h (fun _ h=>Ab (An 19 (dsT 10 (M9 (oi 6 3) (oi 6 3) (.cells 114 [ai bB,ai bE]) kr (ds0 (.bool (bC==bD)) kr (Ct (As kr) (tn_ (wr_ (Ac (tr_ (jS h))))))))))) fun _ h=>skW (Ae (Ab (An 25 (dsl (.agg [ai (wI (bB+bD)),ai (wI (bC+bE))]) kr (dsl (.agg [ai (wI (bB+bD)),ai (wI (bC+bE))]) kr (dcH h V8 fun y8 h=>M9 (oi 6 3) (oi 6 3) (.cells 114 [ai (wI (bB+bD)),ai (wI (bC+bE))]) kr (ds0 (.bool y8) kr (Ct (As kr) (tn_ (wr_ (Ac (jS h))))))))))))))))
def J1 (a0:List (Int×Int×ByteArray)) (u1:Nat) (u0:List (Int×Int)):Option (Ctl (Nat×(List (Int×Int))) (Ctl (List (Int×Int)) (Int×Int×Bool))) :=
 cond (decide ((u1:Int)<(a0.length:Int)))
 (Dn ((a0[u1]?).bind fun x16 =>
  (cond (x16.1 !=15)
    (some (x16.1 !=16))
    (some false)).bind fun u2 =>
  cond u2
   ((F5 x16.1 x16.2.1 x16.2.2).bind fun y22 =>
   cond (!y22.2.2)
    (some (Ctl.out (Ctl.out (Ctl.out (0,0,false)))))
    (og (u0.length+1<=1073741824/\(u0.length+1)*16<=140737488355328) <|
    some (Ctl.next (u0++([(y22.1,y22.2.1)])))))
   ((cond (x16.2.1 !=0)
     (some true)
     (cond (!(x16.2.2.toList==(⟨#[]⟩:ByteArray).toList))
      (some true)
      (some (decide ((u0.length:Int)<2))))).bind fun u3 =>
   cond u3
    (some (Ctl.out (Ctl.out (Ctl.out (0,0,false)))))
    ((Cl u0 (wI ((wI ((u0.length:Int) - 1)) - 1))).bind fun x37 =>
    (Cl u0 (wI ((wI ((u0.length:Int) - 1)) - 1))).bind fun x38 =>
    (Cl u0 (wI ((u0.length:Int) - 1))).bind fun x39 =>
    (Cl u0 (wI ((u0.length:Int) - 1))).bind fun x40 =>
    (F4 x16.1 x38.1 x38.2 x40.1 x40.2).bind fun y41 =>
    cond (!y41.2.2)
     (some (Ctl.out (Ctl.out (Ctl.out (0,0,false)))))
     (og ((0:Int)<=0/\0<=wI ((wI ((u0.length:Int) - 1)) - 1)/\wI ((wI ((u0.length:Int) - 1)) - 1)<=(u0.length:Int)) <|
     og (((u0.take ((wI ((wI ((u0.length:Int) - 1)) - 1)).toNat)).length)+1<=1073741824/\(((u0.take ((wI ((wI ((u0.length:Int) - 1)) - 1)).toNat)).length)+1)*16<=140737488355328) <|
     some (Ctl.next ((u0.take ((wI ((wI ((u0.length:Int) - 1)) - 1)).toNat))++([(y41.1,y41.2.1)]))))))) fun u4 =>
 og (u1+1<4611686018427387904) <|
 some (Ctl.next (u1+1,u4)))
 (some (Ctl.out (Ctl.next u0)))
def De (a0:List (Int×Int×ByteArray)):Option (Int×Int×Bool) :=
 (B5 (a0.length:Int) 1 400).bind fun y4 =>
cond (!y4)
 (some (0,0,false))
 (Dn (Aq (fun s_:Nat×(List (Int×Int))=>J1 a0 s_.1 s_.2) 4611686018427387904 (0,[])) fun u0 =>
 (u0[0]?).bind fun x50 =>
 some (x50.1,x50.2,(u0.length:Int)==1))
theorem Lb (h:De hA=some lA):cK 108 [.tree Y8 hA,.fn 128 []] (Hc lA):=by
 refine cO Tryz.func108 (Ae (Ab (Ab (Aa 7 (rsT 2 (rcH h C4 fun y4 h=>rsT 1 (rnW (kQ h (fun _ h=>Ae (Ac (tr_ (jS h)))) fun _ h=>skW (Ae (sqC h (fun u1=>sT [(4,.box (oi 0 1) 0),(6,.own (oi 1 1) Y3 0 u1.length)] [(oi 0 1,.cells 114 [ai 0,ai 0]),(oi 1 1,.arr 114 Y3 u1)]) ?_ ?_))))))))))
 ·intro _ h hk8;refine Ae (Ad (lpF h (fun (u2,u0)=>sT [(1,.fn 128 []),(4,.box (oi 0 1) 0),(6,.own (oi 1 1) Y3 0 u0.length),(20,.tree Y8 hA),(21,an hA.length),(22,an u2)] [(oi 0 1,.cells 114 [ai 0,ai 0]),(oi 1 1,.arr 114 Y3 u0)]) (Ag [(oi 0 1,oi 4 1),(oi 1 1,oi 19 7)]) ?_));rintro n_ ⟨u2,u0⟩ c_ h hn10
  (try dsimp only at h);refine Ae (Ab (kQ h (fun q13 h=>?_) fun q13 h=>?_))
  ·have q13_:=of_decide_eq_true q13;refine skW (sqC h (fun u3=>sT [(1,.fn 128 []),(4,.box (oi 0 1) 0),(6,.own (oi 1 1) Y3 0 u3.length),(20,.tree Y8 hA),(21,an hA.length),(22,an u2)] [(oi 0 1,.cells 114 [ai 0,ai 0]),(oi 1 1,.arr 114 Y3 u3)]) ?_ ?_)
   ·intro _ h hk14;refine Ad (Ab (Aa 7 (riH Y8 h fun x16 _ h=>rsB 3 (rnW (Ab (sqF h (fun u4=>sT [(1,.fn 128 []),(4,.box (oi 0 1) 0),(6,.own (oi 1 1) Y3 0 u0.length),(8,.box (oi 2 1) 0),(20,.tree Y8 hA),(21,an hA.length),(22,an u2),(33,.bool u4)] [(oi 0 1,.cells 114 [ai 0,ai 0]),(oi 1 1,.arr 114 Y3 u0),(oi 2 1,.cells 88 [ai x16.1,ai x16.2.1,.str x16.2.2])]) (fun _ h=>Aa 15 (rsT 4 (kR h 29 (fun _ h=>rsT 4 (Ap (tn_ (jE [(oi 2 1,oi 8 5)])))) fun _ h=>rsT 4 (Ap (tn_ (jE [(oi 2 1,oi 8 5)])))))) ?_))))));intro u4 h
    (try dsimp only at h);refine kQ h (fun _ h=>?_) fun _ h=>?_
    ·refine Ab (Aa 11 (rsT 2 (rcH h Wg fun y22 h=>rsB 6 (rnW (Ab (Ae (kQ h (fun _ h=>?_) fun _ h=>?_)))))))
     ·refine Ae (Ac (tr_ (tr_ (br_ (tr_ (tr_ (br_ (tr_ ?_))))))));have h:=jO h hk14
      (try dsimp only at h);have h:=jO h hn10
      (try dsimp only at h);have h:=jO h hk8
      (try dsimp only at h);exact jS h
     refine skW (Ab (Aa 18 (rsB 3 ?_)));obtain ⟨g28,h⟩:=Ak h;exact rs2 (.own (oi 1 16) Y3 0 ((u0++([(y22.1,y22.2.1)])).length)) (oi 1 1) (oi 1 16) (.arr 114 Y3 (u0++([(y22.1,y22.2.1)]))) (Nh (t:=Y3) (t':=Y3) (xs:=u0) (ys:=[(y22.1,y22.2.1)]) (zs:=u0++([(y22.1,y22.2.1)])) (j:=oi 1 1) (len:=u0.length) (c:=.own (oi 45 15) Y3 0 1) kr kr rfl kr (I2 (e:=114) kr rfl) rfl g28) (rsT 1 (rnW (D2 (te_ (be_ (tn_ (jC [(oi 1 1,oi 1 16)])))))))
    refine skW (Ab (sqF h (fun u5=>sT [(1,.fn 128 []),(4,.box (oi 0 1) 0),(6,.own (oi 1 1) Y3 0 u0.length),(8,.box (oi 2 1) 0),(20,.tree Y8 hA),(21,an hA.length),(22,an u2),(59,.bool u5)] [(oi 0 1,.cells 114 [ai 0,ai 0]),(oi 1 1,.arr 114 Y3 u0),(oi 2 1,.cells 88 [ai x16.1,ai x16.2.1,.str x16.2.2])]) (fun _ h=>Aa 15 (rsT 4 (kR h 50 (fun _ h=>rsT 9 (Ap (tn_ (jE [])))) fun _ h=>rsT 5 (kR h 55 (fun _ h=>rsT 4 (Ap (tn_ (jE [])))) fun _ h=>rsT 4 (Ap (tn_ (jE []))))))) ?_));intro u5 h
    (try dsimp only at h);refine kQ h (fun _ h=>?_) fun _ h=>?_
    ·refine Ae (Ac (tr_ (br_ (tr_ (tr_ (br_ (tr_ ?_)))))));have h:=jO h hk14
     (try dsimp only at h);have h:=jO h hn10
     (try dsimp only at h);have h:=jO h hk8
     (try dsimp only at h);exact jS h
    refine skW (Ae (Ab (An 24 (dsT 5 ?_))));obtain ⟨x37,f37,h⟩:=Ah h;obtain ⟨p37,b37,e37⟩:=Ax f37;refine ds0 (.elt (oi 1 1) ((wI ((wI ((u0.length:Int) - 1)) - 1)).toNat) 0) (zo (t:=Y3) (o:=oi 1 1) (len:=u0.length) (k:=.i64) (m:=wI ((wI ((u0.length:Int) - 1)) - 1)) p37 (Ai e37)) ?_;obtain ⟨x38,f38,h⟩:=Ah h;obtain ⟨p38,b38,e38⟩:=Ax f38;refine dsl (.agg [ai x38.1,ai x38.2]) (Hw (i:=oi 1 1) (j:=(wI ((wI ((u0.length:Int) - 1)) - 1)).toNat) (k:=0) (e:=114) (t:=Y3) (xs:=u0) kr kr e38 kr) (dz0 (.own (oi 1 1) Y3 0 u0.length) (dz0 (ai (wI ((u0.length:Int) - 1))) ?_));obtain ⟨x39,f39,h⟩:=Ah h;obtain ⟨p39,b39,e39⟩:=Ax f39;refine ds0 (.elt (oi 1 1) ((wI ((u0.length:Int) - 1)).toNat) 0) (zo (t:=Y3) (o:=oi 1 1) (len:=u0.length) (k:=.i64) (m:=wI ((u0.length:Int) - 1)) p39 (Ai e39)) ?_;obtain ⟨x40,f40,h⟩:=Ah h;obtain ⟨p40,b40,e40⟩:=Ax f40;refine dsl (.agg [ai x40.1,ai x40.2]) (Hw (i:=oi 1 1) (j:=(wI ((u0.length:Int) - 1)).toNat) (k:=0) (e:=114) (t:=Y3) (xs:=u0) kr kr e40 kr) (dcH h Vb fun y41 h=>dz0 (.tup [.agg [ai y41.1,ai y41.2.1],.bool y41.2.2]) (dz0 (.agg [ai y41.1,ai y41.2.1]) (dz0 (.bool y41.2.2) (ds1 (.box (oi 12 21) 0) (oi 12 21) (.cells 114 [ai 0,ai 0]) kr (M9 (oi 12 21) (oi 12 21) (.cells 114 [ai y41.1,ai y41.2.1]) kr (dz0 (.bool y41.2.2) (Ct (As kr) (tn_ (wr_ (Ab (Ae (kQ h (fun _ h=>?_) fun _ h=>?_))))))))))))
    ·refine Ae (Ac (tr_ (br_ (tr_ (tr_ (br_ (tr_ ?_)))))));have h:=jO h hk14
     (try dsimp only at h);have h:=jO h hn10
     (try dsimp only at h);have h:=jO h hk8
     (try dsimp only at h);exact jS h
    refine skW (An 34 (dsT 3 ?_));obtain ⟨g46,h⟩:=Ak h;obtain ⟨g47,h⟩:=Ak h;exact ds0 (.own (oi 1 1) Y3 0 ((wI ((wI ((u0.length:Int) - 1)) - 1)).toNat)) (Jj (t:=Y3) (i:=oi 1 1) (off:=0) (len:=u0.length) (l:=0) (h:=wI ((wI ((u0.length:Int) - 1)) - 1)) kr kr kr rfl g46 rfl oM) (dzl (.agg [ai y41.1,ai y41.2.1]) (ds1 (.own (oi 87 31) Y3 0 1) (oi 87 31) (.arr 114 Y3 ([(y41.1,y41.2.1)])) kr (ds2 (.own (oi 1 32) Y3 0 (((u0.take ((wI ((wI ((u0.length:Int) - 1)) - 1)).toNat))++([(y41.1,y41.2.1)])).length)) (oi 1 1) (oi 1 32) (.arr 114 Y3 ((u0.take ((wI ((wI ((u0.length:Int) - 1)) - 1)).toNat))++([(y41.1,y41.2.1)]))) (Awl (t:=Y3) (t':=Y3) (xs:=u0) (ys:=[(y41.1,y41.2.1)]) (zs:=(u0.take ((wI ((wI ((u0.length:Int) - 1)) - 1)).toNat))++([(y41.1,y41.2.1)])) (j:=oi 1 1) (len:=(wI ((wI ((u0.length:Int) - 1)) - 1)).toNat) (c:=.own (oi 87 31) Y3 0 1) kr kr oM kr (I2 (e:=114) kr rfl) rfl g47) (dz0 (.own (oi 1 32) Y3 0 (((u0.take ((wI ((wI ((u0.length:Int) - 1)) - 1)).toNat))++([(y41.1,y41.2.1)])).length)) (Ct (As kr) (bn_ (tn_ (jC [(oi 1 1,oi 1 32)]))))))))
   intro u3 h
   (try dsimp only at h);refine Aa 4 ?_;obtain ⟨g48,h⟩:=Ak h;exact zA g48 (rsT 1 (Ap (tn_ (jL []))))
  have q13_:=of_decide_eq_false q13;refine lxT ?_;have h:=jO h hn10
  (try dsimp only at h);exact jC []
 intro u1 h
 (try dsimp only at h);refine Ab (Aa 10 (rsT 1 ?_));obtain ⟨x50,e50,h⟩:=Ah h;exact rs0 (.elt (oi 1 1) 0 0) (Acn (t:=Y3) (o:=oi 1 1) (len:=u1.length) (k:=.i64) (m:=0) kr kr rfl (by decide) rfl (Ai e50)) (rsl (.agg [ai x50.1,ai x50.2]) (Hw (i:=oi 1 1) (j:=0) (k:=0) (e:=114) (t:=Y3) (xs:=u1) kr kr e50 kr) (rsB 5 (rnW (Ac (jS h)))))
def E9 (u0:List (Int×Int×ByteArray)):Option (Int×Int×Bool) :=
 (De u0).bind fun y3 =>
some (y3.1,y3.2.1,y3.2.2)
theorem Ow (h:E9 hA=some lA):cK 88 [.agg [.tree Y8 hA]] (Hc lA):=by
 exact cO Tryz.func88 (Ae (Ab (Aa 11 (rsT 2 (rcH h Lb fun y3 h=>rsB 4 (rnW (Ac (jS h))))))))
def I9 (u0:List (Int×Int×ByteArray)):Option Bool :=
 (E9 u0).bind fun y3 =>
some y3.2.2
theorem Su (h:I9 hA=some cA):cK 159 [.agg [.tree Y8 hA]] (Ao cA):=by
 exact cO Tryz.func159 (Ae (Ab (Aa 11 (rsT 1 (rcH h Ow fun y3 h=>rsB 6 (rnW (Ae (Ac (jS h)))))))))
def Ey (u1:List (Int×Int×ByteArray)) (a1:Int) (u0:Nat):Option (Ctl Nat (Ctl Unit Bool)) :=
 cond (decide ((u0:Int)<(u1.length:Int)))
 ((u1[u0]?).bind fun x17 =>
 ((Gt x17.1).bind fun y19 =>
  cond y19
   (some (decide (a1<=x17.2.1)))
   (some false)).bind fun u2 =>
 cond u2
  (some (Ctl.out (Ctl.out false)))
  (og (u0+1<4611686018427387904) <|
  some (Ctl.next (u0+1))))
 (some (Ctl.out (Ctl.next ())))
def Gs (u0:List (Int×Int×ByteArray)) (a1:Int):Option Bool :=
 ((H2 a1).bind fun y4 =>
 cond (!y4)
  (some true)
  ((I9 u0).bind fun y6 =>
  some (!y6))).bind fun u1 =>
cond u1
 (some false)
 (Dn (Aq (fun s_:Nat=>Ey u0 a1 s_) 4611686018427387904 0) fun _ =>
 some true)
theorem Tr (h:Gs hA bA=some cA):cK 125 [.agg [.tree Y8 hA],ai bA] (Ao cA):=by
 refine cO Tryz.func125 (Ae (Ab (sqF h (fun u2=>sT [(1,ai bA),(2,.box (oi 0 1) 0),(14,.bool u2)] [(oi 0 1,.cells 37 [.tree Y8 hA])]) ?_ fun u2 h=>kQ h (fun _ h=>Ae (Ac (tr_ (jS h)))) fun _ h=>skW (sqC h (fun _=>sT [] []) (fun _ h hk9=>Ae (Ad (lpF h (fun u1=>sT [(1,ai bA),(16,.tree Y8 hA),(17,an hA.length),(18,an u1)] []) (Ag []) (fun n_ u1 c_ h hn11=>Ae (Ab (kQ h (fun _ h=>skW (Ab (Ad (Ab (Aa 7 (riH Y8 h fun x17 _ h=>rsB 3 (rnW (sqF h (fun u3=>sT [(1,ai bA),(16,.tree Y8 hA),(17,an hA.length),(18,an u1),(30,.bool u3)] []) (fun _ h=>Aa 16 (rsT 2 (rcH h Qm fun y19 h=>rsT 1 (kR h 25 (fun _ h=>rsT 5 (Ap (tn_ (jE [])))) fun _ h=>rsT 5 (Ap (tn_ (jE []))))))) fun u3 h=>kQ h (fun _ h=>Ae (Ac (br_ (tr_ (tr_ (br_ (tr_ (have h:=jO h hn11;(have h:=jO h hk9;jS h))))))))) fun _ h=>Ay (bn_ (tn_ (wr_ (Aa 4 (raH h fun h=>rsT 1 (Ap (tn_ (jL [])))))))))))))))) fun _ h=>lxT (have h:=jO h hn11;jC []))))))) fun _ h=>Ae (Ac (jS h))))));intro _ h;refine Aa 11 (rsT 1 (rcH h Rk fun y4 h=>rsT 2 ?_));rcases A0 h with ⟨q5,h⟩|⟨q5,h⟩
 ·exact rq 10 q5 (rsT 4 (Ap (tn_ (jE [(oi 0 1,oi 2 1)]))))
 exact rq 10 q5 (rsT 1 (rcH h Su fun y6 h=>rsT 2 (Ap (tn_ (jE [(oi 0 1,oi 2 1)])))))
def N8 (a0:Int):Option Bool :=
 (cond (a0==8)
  (some true)
  (some (a0==14))).bind fun u0 =>
some u0
theorem Yz (h:N8 bA=some cA):cK 66 [ai bA] (Ao cA):=by
 exact cO Tryz.func66 (Ae (sqF h (fun u0=>sT [(2,.bool u0)] []) (fun _ h=>Aa 9 (rsT 3 (kR h 5 (fun _ h=>rsT 4 (Ap (tn_ (jE [])))) fun _ h=>rsT 4 (Ap (tn_ (jE [])))))) fun u0 h=>Ac (jS h)))
def Dy (u1:List (Int×Int×ByteArray)) (u0:Nat):Option (Ctl Nat (Ctl Unit Bool)) :=
 cond (decide ((u0:Int)<(u1.length:Int)))
 ((u1[u0]?).bind fun x15 =>
 (N8 x15.1).bind fun y17 =>
 cond y17
  (some (Ctl.out (Ctl.out false)))
  (og (u0+1<4611686018427387904) <|
  some (Ctl.next (u0+1))))
 (some (Ctl.out (Ctl.next ())))
def E5 (u0:List (Int×Int×ByteArray)) (a1:Int):Option Bool :=
 (Gs u0 a1).bind fun y4 =>
cond (!y4)
 (some false)
 (Dn (Aq (fun s_:Nat=>Dy u0 s_) 4611686018427387904 0) fun _ =>
 some true)
theorem Rs (h:E5 hA bA=some cA):cK 86 [.agg [.tree Y8 hA],ai bA] (Ao cA):=by
 exact cO Tryz.func86 (Ae (Ab (Ab (Aa 7 (rsT 2 (rcH h Tr fun y4 h=>rsT 1 (rnW (kQ h (fun _ h=>Ae (Ac (tr_ (jS h)))) fun _ h=>skW (sqC h (fun _=>sT [] []) (fun _ h hk7=>Ae (Ad (lpF h (fun u1=>sT [(12,.tree Y8 hA),(13,an hA.length),(14,an u1)] []) (Ag []) (fun n_ u1 c_ h hn9=>Ae (Ab (kQ h (fun _ h=>skW (Ab (Ad (Ab (Aa 7 (riH Y8 h fun x15 _ h=>rsB 3 (rnW (Ab (Aa 10 (rsT 2 (rcH h Yz fun y17 h=>rnW (kQ h (fun _ h=>Ae (Ac (br_ (tr_ (tr_ (br_ (tr_ (have h:=jO h hn9;(have h:=jO h hk7;jS h))))))))) fun _ h=>Ay (bn_ (tn_ (wr_ (Aa 12 (raH h fun h=>rsT 1 (Ap (tn_ (jL [])))))))))))))))))))) fun _ h=>lxT (have h:=jO h hn9;jC []))))))) fun _ h=>Ae (Ac (jS h)))))))))))
def Oy:AC :=
 (.seq (rg [xo 3 (.i (.box 51 (tm 1))),xo 4 (qm (cb false))])
 (.seq (.seq (rg [xf 7 0 3,xl 8 7,xo 9 (qc 85 [tm 8] [[]]),xo 10 (.i (.not (tm 9))),xm 11 10,⟨some 12,some (11,false),qf 1 (tm 3)⟩,⟨some 13,some (11,false),.i (.ld false 1 (tm 12))⟩,⟨some 14,some (11,false),qm (tm 0)⟩,⟨some 15,some (11,false),qc 86 [tm 13,tm 14] [[some Y8],[]]⟩,⟨some 16,some (11,false),.i (.not (tm 15))⟩,xo 17 (.i (.pick (tm 11) (cb true) (tm 16))),xm 18 17,⟨some 19,some (18,false),qm (tm 0)⟩,⟨some 20,some (18,false),qf 2 (tm 3)⟩,⟨some 21,some (18,false),.i (.ld false 3 (tm 20))⟩,⟨some 22,some (18,false),qc 87 [tm 19,tm 21] [[],[none,none,some sI]]⟩,⟨some 23,some (18,false),.i (.not (tm 22))⟩,xo 24 (.i (.pick (tm 18) (cb true) (tm 23)))])
 (.cond (tm 24)
  (.seq (rg [xo 4 (qm (cb false))])
  .ret)
  .skip))
 (.seq (rg [xf 26 1 3,xo 27 (.i (.ld false 1 (tm 26))),⟨some 28,none,qc 88 [tm 27] [[some Y8]]⟩,xm 25 28,xo 29 (.i (.extr 0 (tm 25))),xo 30 (.i (.extr 1 (tm 25))),xo 5 (.i (.alloc 114 [.int .i64 0,.int .i64 0])),xn (.st false 2 (tm 5) (tm 29)),xm 6 30])
 (.seq (rg [xo 31 (.i (.ld false 2 (tm 5))),xf 32 2 3,xf 33 0 32,xl 34 33,xf 35 2 3,xf 36 1 35,xl 37 36,xo 38 (.build [.int .i64 0,.int .i64 0] [(0,1,tm 34),(1,1,tm 37)]),xo 39 (.i (.cmp false 5 (tm 31) (tm 38))),xm 4 39])
 .ret))))
def U5:List Res:=[.tmp 4]
theorem Us:C0 Tryz.prog Tryz.f47=some (Oy,U5):=by kernel_rfl
def Gb (a0:Int) (u3:ByteArray) (u0:List (Int×Int×ByteArray)) (u1 u2:Int) (u4:LL):Option Bool :=
 ((Mi u3).bind fun y4 =>
 cond (!y4)
  (some true)
  ((E5 u0 a0).bind fun y6 =>
  cond (!y6)
   (some true)
   ((Hk a0 u1 u2 u4).bind fun y8 =>
   some (!y8)))).bind fun u5 =>
cond u5
 (some false)
 ((E9 u0).bind fun y12 =>
 some ([y12.1,y12.2.1]==[u1,u2]))
theorem Tt (h:Gb bA gA hA bB bC dA=some cA):cK 47 [ai bA,.agg [.str gA,.tree Y8 hA,ai bB,ai bC,tS dA]] (Ao cA):=by
 refine Adc kr Tryz.func47 Us (n:=40) kr (by simp) rfl ?_;unfold Oy;refine Ae (Ab (sqF h (fun u5=>sT [(3,.box (oi 0 1) 0),(24,.bool u5)] [(oi 0 1,.cells 51 [.str gA,.tree Y8 hA,ai bB,ai bC,tS dA])]) ?_ fun u5 h=>kQ h (fun _ h=>Ae (Ac (tr_ (jS h)))) fun _ h=>skW (Ab (Aa 11 (rsT 2 (rcH h Ow fun y12 h=>rsB 6 (rnW (Ae (Ac (jS h))))))))));intro _ h;refine Aa 21 (rsT 2 (rcH h Z8 fun y4 h=>rsT 2 ?_));rcases A0 h with ⟨q5,h⟩|⟨q5,h⟩
 ·exact rq 11 q5 (rsT 13 (Ap (tn_ (jE [(oi 0 1,oi 3 1)]))))
 refine rq 11 q5 (rsT 3 (rcH h Rs fun y6 h=>rsT 3 ?_));rcases A0 h with ⟨q7,h⟩|⟨q7,h⟩
 ·exact rq 18 q7 (rsT 6 (Ap (tn_ (jE [(oi 0 1,oi 3 1)]))))
 exact rq 18 q7 (rsT 3 (rcH h U1 fun y8 h=>rsT 2 (Ap (tn_ (jE [(oi 0 1,oi 3 1)])))))
end Go.Proofs.YthlpchhhinipaaaGreatDoor


