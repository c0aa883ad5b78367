/- Lemmas on the program and on partial functions that stand in place of its code (part 5); no condition beyond those that each one states. -/
import Derived.Test.YtlaebfbpgeegcaaGreatDoorZ4
namespace Go.Proofs.YtlaebfbpgeegcaaGreatDoor
section
open Go.RowKit Go.Deep
abbrev sI:Ty:=.slice .int
abbrev Y0:Ty:=.slice sI
abbrev Y1:Ty:=.slice .int
abbrev Y2:Ty:=.pair .int .int
abbrev Y3:Ty:=.pair .int .str
abbrev Y4:Ty:=.pair .int Y0
abbrev Y6:Ty:=.pair .int Y3
abbrev Y7:Ty:=.pair .int Y4
abbrev Y8:Ty:=.slice Y6
abbrev Y9:Ty:=.pair .int Y8
abbrev Ya:Ty:=.pair .int Y9
abbrev Yb:Ty:=.pair .str Ya
abbrev Yc:Ty:=.pair Y8 Y7
abbrev Yd:Ty:=.pair .str Yc
section
variable {P:Program} {G:World->Prop} {g k d:Nat} {gd:Option (Nat×Bool)} {q:Q} {xs:List X} {tl:List (Nat×AV)} {ol:List (Oid×Option Ob)} {bad:List (Nat×Nat)} {ra:List Rec} {da:List (List Oid)} {Kf:List (Nat×AV)->List (Oid×Option Ob)->Prop}
theorem dz0 (v:AV) (h3:XD P G bad g (k+1) xs ((d,v) :: tl) ol ((0,v,[]) :: ra) ((rdX (Al tl) (Ag ol) ⟨some d,gd,q⟩) :: da) Kf) (h:A6 (g+k) ⟨some d,gd,q⟩ (Al tl) (only (rdX (Al tl) (Ag ol) ⟨some d,gd,q⟩) (Ag ol))=some (0,v,[]):=by kernel_rfl):XD P G bad g k (⟨some d,gd,q⟩ :: xs) tl ol ra da Kf:=ds0 v h h3
theorem dzl (v:AV) (h3:XD P G bad g (k+1) xs ((d,v) :: tl) ol ((1,v,[]) :: ra) ((rdX (Al tl) (Ag ol) ⟨some d,gd,q⟩) :: da) Kf) (h:A6 (g+k) ⟨some d,gd,q⟩ (Al tl) (only (rdX (Al tl) (Ag ol) ⟨some d,gd,q⟩) (Ag ol))=some (1,v,[]):=by kernel_rfl):XD P G bad g k (⟨some d,gd,q⟩ :: xs) tl ol ra da Kf:=dsl v h h3
theorem zc {fo:Opd} {ys:List Opd} {tys:List (List (Option Ty))} {F:FuncId} {rv:RV} {args:List AV} (v:AV) (us:List (Oid×Option Ob)) (zs:List AV) (hc:B3 P G F args rv) (h3:XW P G g (k+1) xs ((d,v) :: tl) (us.reverseAux ol) Kf) (h1:L2 (gnd (Ag ol) 8) zs=some zs:=by kernel_rfl) (hb:B0 P F=true:=by kernel_rfl) (hfo:fo.ev (Al tl)=.fn F []:=by kernel_rfl) (hz:ys.map (Opd.ev (Al tl))=zs:=by kernel_rfl) (hn:Jw tys zs=args:=by kernel_rfl) (hr:rv.out (Bp ((d,0),g+k)) zs=(v,us):=by kernel_rfl) (hx:Db us=true:=by rfl) (hni:rv.noI=true:=by kernel_rfl) (hF:Nat.blt F mtd=true:=by kernel_rfl):XW P G g k (⟨some d,none,.call fo ys tys⟩ :: xs) tl ol Kf:=Aij (caps:=[]) (args0:=zs) v us zs args trivial h1 hc hb h3 (hfo:=hfo) (hz:=by simpa only [Ci,List.map_nil,List.append_nil,List.nil_append,ite_self] using hz) (hn:=hn) (hr:=hr) (hF:=if_pos (Nat.le_of_ble_eq_true hF)) (hx:=hx) (hni:=hni)
end
theorem kr {p:Prop} (h:p:=by kernel_rfl):p:=h
abbrev LL:=List (List Int)
abbrev an (n:Nat):AV:=.int .i64 n
abbrev tI (x:List Int):AV:=.tree .int x
abbrev tS (x:List (List Int)):AV:=.tree Y1 x
abbrev oI (a b n:Nat):AV:=.own (oi a b) .int 0 n
abbrev oS (a b n:Nat):AV:=.own (oi a b) Y1 0 n
abbrev xm (d s:Nat):X:=⟨some d,none,.i (.mov (.tmp s))⟩
abbrev xl (d s:Nat):X:=⟨some d,none,.i (.ld true 1 (.tmp s))⟩
abbrev xf (d k s:Nat):X:=⟨some d,none,.i (.fld k (.tmp s))⟩
abbrev xx (d z a b:Nat):X:=⟨some d,none,.i (.idx z (.tmp a) (.tmp b))⟩
abbrev xn1 (d s:Nat):X:=⟨some d,none,.i (.len (.tmp s))⟩
abbrev xa (d s:Nat):X:=⟨some d,none,.i (.bin .add (.tmp s) (.cst (.int .i64 1)))⟩
abbrev xs1 (d a b:Nat):X:=⟨some d,none,.i (.bin .lss (.tmp a) (.tmp b))⟩
section
variable {P:Program} {G:World->Prop} {g k d:Nat} {gd:Option (Nat×Bool)} {q:Q} {xs:List X} {tl:List (Nat×AV)} {ol:List (Oid×Option Ob)} {bad:List (Nat×Nat)} {ra:List Rec} {da:List (List Oid)} {Kf:List (Nat×AV)->List (Oid×Option Ob)->Prop}
theorem zO {sz:Nat} {x i:Opd} (o:Oid) (t:Ty) (len:Nat) {j:Nat} (hl:j<len) (h3:XW P G g (k+1) xs ((d,.elt o j 0) :: tl) ol Kf) (hx:x.ev (Al tl)=.own o t 0 len:=by kernel_rfl) (hi:i.ev (Al tl)=.int .i64 (j:Int):=by kernel_rfl) (hs:sz=t.size:=by rfl) (hgd:gdB gd (Al tl)=true:=by kernel_rfl):XW P G g k (⟨some d,gd,.i (.idx sz x i)⟩ :: xs) tl ol Kf:=rs0 _ (El hgd (Zv hx hi hs (Int.natCast_nonneg _) rfl hl)) h3
theorem dzO {sz:Nat} {x i:Opd} (o:Oid) (t:Ty) (len:Nat) {j:Nat} (hl:j<len) (h3:XD P G bad g (k+1) xs ((d,.elt o j 0) :: tl) ol ((0,.elt o j 0,[]) :: ra) ((rdX (Al tl) (Ag ol) ⟨some d,gd,.i (.idx sz x i)⟩) :: da) Kf) (hx:x.ev (Al tl)=.own o t 0 len:=by kernel_rfl) (hi:i.ev (Al tl)=.int .i64 (j:Int):=by kernel_rfl) (hs:sz=t.size:=by rfl) (hgd:gdB gd (Al tl)=true:=by kernel_rfl):XD P G bad g k (⟨some d,gd,.i (.idx sz x i)⟩ :: xs) tl ol ra da Kf:=ds0 _ (El hgd (Zv hx hi hs (Int.natCast_nonneg _) rfl hl)) h3
theorem zE {x:Opd} (i:Oid) {ws:List Int} {j:Nat} {z:Int} (hz:ws[j]? =some z) (h3:XW P G g (k+1) xs ((d,.int .i64 z) :: tl) ol Kf) (hx:x.ev (Al tl)=.elt i j 0:=by kernel_rfl) (hob:Ag ol i=some (.arr 3 .int ws):=by kernel_rfl) (hgd:gdB gd (Al tl)=true:=by kernel_rfl):XW P G g k (⟨some d,gd,.i (.ld true 1 x)⟩ :: xs) tl ol Kf:=rsl _ (El hgd (Gg (k:=0) (t:=.int) hx hob hz rfl)) h3
theorem dzE {x:Opd} (i:Oid) {ws:List Int} {j:Nat} {z:Int} (hz:ws[j]? =some z) (h3:XD P G bad g (k+1) xs ((d,.int .i64 z) :: tl) ol ((1,.int .i64 z,[]) :: ra) ((rdX (Al tl) (Ag ol) ⟨some d,gd,.i (.ld true 1 x)⟩) :: da) Kf) (hx:x.ev (Al tl)=.elt i j 0:=by kernel_rfl) (hob:only (rdX (Al tl) (Ag ol) ⟨some d,gd,.i (.ld true 1 x)⟩) (Ag ol) i=some (.arr 3 .int ws):=by kernel_rfl) (hgd:gdB gd (Al tl)=true:=by kernel_rfl):XD P G bad g k (⟨some d,gd,.i (.ld true 1 x)⟩ :: xs) tl ol ra da Kf:=dsl _ (El hgd (Gg (k:=0) (t:=.int) hx hob hz rfl)) h3
theorem zS {x y:Opd} (i:Oid) {ws:List Int} {j:Nat} {z:Int} (z1:Int) (hz:ws[j]? =some z) (h3:XW P G g (k+1) xs tl ((i,some (.arr 3 .int (ws.set j z1))) :: (i,none) :: ol) Kf) (hx:x.ev (Al tl)=.elt i j 0:=by kernel_rfl) (hob:Ag ol i=some (.arr 3 .int ws):=by kernel_rfl) (hy:y.ev (Al tl)=.int .i64 z1:=by kernel_rfl) (hgd:gdB gd (Al tl)=true:=by kernel_rfl):XW P G g k (⟨none,gd,.st true 1 x y⟩ :: xs) tl ol Kf:=Ae0 _ _ _ (El hgd (Yn (k:=0) (t:=.int) (cs:=[.int .i64 z1]) (x1:=z1) hx hob hz (by rw [hy];rfl) rfl)) h3
theorem dzS {x y:Opd} (i:Oid) {ws:List Int} {j:Nat} {z:Int} (z1:Int) (hz:ws[j]? =some z) (h3:XD P G bad g (k+1) xs tl ((i,some (.arr 3 .int (ws.set j z1))) :: (i,none) :: ol) ((2,.any,[(i,none),(i,some (.arr 3 .int (ws.set j z1)))]) :: ra) ((rdX (Al tl) (Ag ol) ⟨none,gd,.st true 1 x y⟩) :: da) Kf) (hx:x.ev (Al tl)=.elt i j 0:=by kernel_rfl) (hob:only (rdX (Al tl) (Ag ol) ⟨none,gd,.st true 1 x y⟩) (Ag ol) i=some (.arr 3 .int ws):=by kernel_rfl) (hy:y.ev (Al tl)=.int .i64 z1:=by kernel_rfl) (hgd:gdB gd (Al tl)=true:=by kernel_rfl):XD P G bad g k (⟨none,gd,.st true 1 x y⟩ :: xs) tl ol ra da Kf:=Pi _ _ _ (El hgd (Yn (k:=0) (t:=.int) (cs:=[.int .i64 z1]) (x1:=z1) hx hob hz (by rw [hy];rfl) rfl)) h3
theorem zB {x y:Opd} {by_:Nat} (j q:Oid) (ws:List Int) (z:Int) (h:ws.length+1<=1073741824/\(ws.length+1)*by_<=140737488355328) (h3:XW P G g (k+1) xs ((d,.own (j.1,g+k) .int 0 (ws++[z]).length) :: tl) (((j.1,g+k),some (.arr 3 .int (ws++[z]))) :: (j,none) :: ol) Kf) (hx:x.ev (Al tl)=.own j .int 0 ws.length:=by kernel_rfl) (hob:Ag ol j=some (.arr 3 .int ws):=by kernel_rfl) (hy:y.ev (Al tl)=.own q .int 0 1:=by kernel_rfl) (hq:Ag ol q=some (.arr 3 .int [z]):=by kernel_rfl) (hgd:gdB gd (Al tl)=true:=by kernel_rfl):XW P G g k (⟨some d,gd,.append 3 .int by_ x y⟩ :: xs) tl ol Kf:=rs2 _ _ _ _ (El hgd (Qn (t:=.int) (ys:=[z]) hx hob rfl hy (Aas hq rfl) rfl h)) h3
theorem dzB {x y:Opd} {by_:Nat} (j q:Oid) (ws:List Int) (z:Int) (h:ws.length+1<=1073741824/\(ws.length+1)*by_<=140737488355328) (h3:XD P G bad g (k+1) xs ((d,.own (j.1,g+k) .int 0 (ws++[z]).length) :: tl) (((j.1,g+k),some (.arr 3 .int (ws++[z]))) :: (j,none) :: ol) ((2,.own (j.1,g+k) .int 0 (ws++[z]).length,[(j,none),((j.1,g+k),some (.arr 3 .int (ws++[z])))]) :: ra) ((rdX (Al tl) (Ag ol) ⟨some d,gd,.append 3 .int by_ x y⟩) :: da) Kf) (hx:x.ev (Al tl)=.own j .int 0 ws.length:=by kernel_rfl) (hob:only (rdX (Al tl) (Ag ol) ⟨some d,gd,.append 3 .int by_ x y⟩) (Ag ol) j=some (.arr 3 .int ws):=by kernel_rfl) (hy:y.ev (Al tl)=.own q .int 0 1:=by kernel_rfl) (hq:only (rdX (Al tl) (Ag ol) ⟨some d,gd,.append 3 .int by_ x y⟩) (Ag ol) q=some (.arr 3 .int [z]):=by kernel_rfl) (hgd:gdB gd (Al tl)=true:=by kernel_rfl):XD P G bad g k (⟨some d,gd,.append 3 .int by_ x y⟩ :: xs) tl ol ra da Kf:=ds2 _ _ _ _ (El hgd (Qn (t:=.int) (ys:=[z]) hx hob rfl hy (Aas hq rfl) rfl h)) h3
theorem zV {x y:Opd} {by_:Nat} (o q p:Oid) (ws:List (List Int)) (cs:List AV) (h:ws.length+1<=1073741824/\(ws.length+1)*by_<=140737488355328) (h3:XW P G g (k+1) xs ((d,.own (o.1,g+k) Y1 0 (ws.length+1)) :: tl) (((o.1,g+k),some (.vec 87 1 (ws.length+1) (hdL p .int ws++cs))) :: (o,none) :: ol) Kf) (hc:cs.length=1:=by rfl) (hx:x.ev (Al tl)=.own o Y1 0 ws.length:=by kernel_rfl) (hob:Ag ol o=some (.vec 87 1 ws.length (hdL p .int ws)):=by kernel_rfl) (hy:y.ev (Al tl)=.own q Y1 0 1:=by kernel_rfl) (hq:Ag ol q=some (.vec 87 1 1 cs):=by kernel_rfl) (he:K9 (some (.vec 87 1 (ws.length+1) (hdL p .int ws++cs)))=true:=by rfl) (hgd:gdB gd (Al tl)=true:=by kernel_rfl):XW P G g k (⟨some d,gd,.appV 87 Y1 by_ x y⟩ :: xs) tl ol Kf:=rs2 _ _ _ _ (El hgd (Am2 (t2:=.slice .int) hx hob rfl hy hq hc h)) h3 he
theorem zA {x y:Opd} {j:Nat} (h:j+1<4611686018427387904) (h3:XW P G g (k+1) xs ((d,.int .i64 ((j+1:Nat):Int)) :: tl) ol Kf) (hx:x.ev (Al tl)=.int .i64 j:=by kernel_rfl) (hy:y.ev (Al tl)=.int .i64 1:=by kernel_rfl):XW P G g k (⟨some d,none,.i (.bin .add x y)⟩ :: xs) tl ol Kf:=rs0 _ (Ajy hx hy h) h3
end
section
variable {n:Nat} {d:Option Nat} {f:Nat->AV} {ob:Oid->Option Ob}
theorem zi {sz:Nat} {x i:Opd} {t:Ty} {xs:List t.D} {y:t.D} {k:IntKind} {m:Int} {j:Nat} (h0:0<=m) (hy:xs[j]? =some y) (hx:(x.ev f).un=.tree t xs:=by kernel_rfl) (hi:i.ev f=.int k m:=by kernel_rfl) (hs:sz=t.size:=by rfl) (hj:m.toNat=j:=by rfl) {e:Option (Nat->Prop)} (he:(x.ev f).tag=e:=by kernel_rfl):A6 n ⟨d,none,.i (.idx sz x i)⟩ f ob=some (0,.telt e t y 0,[]):=Adr hx hi hs h0 hj hy he
theorem zo {sz:Nat} {x i:Opd} {t:Ty} {o:Oid} {len:Nat} {k:IntKind} {m:Int} {j:Nat} (h0:0<=m) (hl:j<len) (hx:x.ev f=.own o t 0 len:=by kernel_rfl) (hi:i.ev f=.int k m:=by kernel_rfl) (hs:sz=t.size:=by rfl) (hj:m.toNat=j:=by rfl):A6 n ⟨d,none,.i (.idx sz x i)⟩ f ob=some (0,.elt o j 0,[]):=Zv hx hi hs h0 hj hl
theorem zl {vs:List Value} {c:AV} {l:RL} (h:N0 ob c=some l:=by kernel_rfl):LeafR vs ob c l:=Ais h
end
theorem zj {α:Type} {a b:α} (h:some a=some b):a=b:=osj h
end
section
open Go.RowKit Go.Deep
set_option maxRecDepth 4000
set_option maxHeartbeats 4800000
variable {aA aB:List Int} {bA bB bC bD:Int} {cA:Bool}
def Iw (a0:List Int) (a1:Int):Option Int :=
 cond (decide (wI (a1 - (a0.length:Int))<0))
 (some (-1))
 (some (wI (a1 - (a0.length:Int))))
def A7 (r:Int):RV:=⟨false,[(false,[.sc (.int .i64 r)])]⟩
theorem W9 (h:Iw aA bA=some bB):cK 64 [tI aA,ai bA] (A7 bB):=by
 exact cO Tryz.func64 (Ae (Ae (Ab (Ae (kQ h (fun _ h=>Ae (Ac (tr_ (jS h)))) fun _ h=>skW (Ae (Ac (jS h))))))))
def Gd (a0:List Int) (u0:Nat) (u1:List Int):Option (Ctl (Nat×List Int) (List Int)) :=
 cond (decide ((u0:Int)<(a0.length:Int)))
 ((a0[u0]?).bind fun x11 =>
 (u1[u0]?).bind fun x12 =>
 og (u0+1<4611686018427387904) <|
 some (Ctl.next (u0+1,u1.set u0 x11)))
 (some (Ctl.out u1))
def Iq (a0:List Int):Option (List Int) :=
 og (0<=(a0.length:Int)/\(a0.length:Int)<=(a0.length:Int)/\(a0.length:Int)<=1073741824/\(8:Int)*(a0.length:Int)<=140737488355328) <|
(Aq (fun s_:Nat×List Int=>Gd a0 s_.1 s_.2) 4611686018427387904 (0,List.replicate a0.length (0:Int))).bind fun u0 =>
some u0
def Fq (r:List Int):RV:=⟨false,[(false,[.new 3 .int r])]⟩
theorem Wj (h:Iq aA=some aB):cK 75 [tI aA] (Fq aB):=by
 refine cO Tryz.func75 (Ae (Ab (Aa 6 (rsT 2 ?_))));obtain ⟨g3,h⟩:=Au h;refine rs1 (oI 7 4 aA.length) (oi 7 4) (.arr 3 .int (List.replicate aA.length (0:Int))) (Ad9 (t:=.int) (k:=.i64) (k':=.i64) (m:=(aA.length:Int)) (m':=(aA.length:Int)) kr kr g3 rfl) (rsT 1 (rnW (sqF h (fun u1=>sT [(3,oI 0 1 u1.length)] [(oi 0 1,.arr 3 .int u1)]) ?_ fun u1 h=>Ae (Ac (jR h [oI 0 1 u1.length] (Hi rfl (Dg kr rfl) Gq))))));intro _ h;refine Ae (Ad (lpF h (fun (u2,u0)=>sT [(0,tI aA),(3,oI 0 1 u0.length),(4,an u2)] [(oi 0 1,.arr 3 .int u0)]) ((wL 3 (List.length_replicate.symm:aA.length=(List.replicate aA.length (0:Int)).length)).trans (Aj [(oi 0 1,oi 7 4)])) ?_));rintro n_ ⟨u2,u0⟩ c_ h hn6;refine Ab (Ae (kQ h (fun _ h=>skW (Ab (Ad (Aa 14 (rsT 4 (riH .int h fun x11 _ h=>rsT 1 ?_)))))) fun _ h=>lxT (have h:=jO h hn6;jE [])));obtain ⟨x12,e12,h⟩:=Am h;refine zO (oi 0 1) .int u0.length (An e12) (zS (oi 0 1) (x11) e12 (Ap (bn_ (tn_ (wr_ (Aa 17 (rsT 1 (raH h fun h=>rsT 1 (Ap (tn_ ?_))))))))));obtain rfl:=zj h;exact jLw hn6 ((wL 3 (((rfl:u0.length=u0.length).trans List.length_set.symm):u0.length=(u0.set u2 x11).length)).trans (Aj []))
def Fz (a0 a1:List Int) (u0:Nat):Option (Ctl Nat (Ctl Unit Bool)) :=
 cond (decide ((u0:Int)<(a0.length:Int)))
 ((a0[u0]?).bind fun x14 =>
 (a1[u0]?).bind fun x15 =>
 cond (x14 !=x15)
  (some (Ctl.out (Ctl.out false)))
  (og (u0+1<4611686018427387904) <|
  some (Ctl.next (u0+1))))
 (some (Ctl.out (Ctl.next ())))
def I2 (a0 a1:List Int):Option Bool :=
 cond ((a0.length:Int) !=(a1.length:Int))
 (some false)
 (Ce (Aq (fun s_:Nat=>Fz a0 a1 s_) 4611686018427387904 0) fun _ =>
 some true)
def Ai (r:Bool):RV:=⟨false,[(false,[.sc (.bool r)])]⟩
theorem U4 (h:I2 aA aB=some cA):cK 90 [tI aA,tI aB] (Ai cA):=by
 exact cO Tryz.func90 (Ae (Ab (Ae (kQ h (fun _ h=>Ae (Ac (tr_ (jS h)))) fun _ h=>skW (sqC h (fun _=>sT [] []) (fun _ h hk6=>Ae (Ad (lpF h (fun u0=>sT [(0,tI aA),(1,tI aB),(5,an u0)] []) (Aj []) (fun n_ u0 c_ h hn8=>Ab (Ae (kQ h (fun _ h=>skW (Ab (Ad (Ab (As 15 (ds0 (tI aA) kr (ds0 (an u0) kr (diH .int h fun x14 _ h=>dsT 3 (diH .int h fun x15 _ h=>ds0 (ai x15) kr (ds0 (.bool (x14 !=x15)) kr (D6 (A0 kr) (tn_ (wr_ (kQ h (fun _ h=>Ae (Ac (br_ (tr_ (tr_ (br_ (tr_ (have h:=jO h hn8;(have h:=jO h hk6;jS h))))))))) fun _ h=>Aw (bn_ (tn_ (wr_ (Aa 18 (rsT 1 (raH h fun h=>rsT 1 (Ap (tn_ (jL []))))))))))))))))))))))) fun _ h=>lxT (have h:=jO h hn8;jC []))))))) fun _ h=>Ae (Ac (jS h)))))))
def Bu (a0 a1 a2:Int):Option Bool :=
 (cond (decide (a1<=a0))
  (some (decide (a0<=a2)))
  (some false)).bind fun u0 =>
some u0
theorem Cd (h:Bu bA bB bC=some cA):cK 65 [ai bA,ai bB,ai bC] (Ai cA):=by
 exact cO Tryz.func65 (Ae (sqF h (fun u0=>sT [(6,.bool u0)] []) (fun _ h=>Aa 11 (rsT 4 (kR h 10 (fun _ h=>rsT 5 (Ap (tn_ (jE [])))) fun _ h=>rsT 5 (Ap (tn_ (jE [])))))) fun u0 h=>Ac (jS h)))
def F4 (a0:Int) (u0:Nat):Option (Ctl Nat (Ctl Unit Bool)) :=
 cond (decide (wI ((u0:Int)*(u0:Int))<=a0))
 (og ((u0:Int)≠0) <|
 cond ((Int.tmod a0 (u0:Int))==0)
  (some (Ctl.out (Ctl.out false)))
  (og (u0+1<4611686018427387904) <|
  some (Ctl.next (u0+1))))
 (some (Ctl.out (Ctl.next ())))
def Ev (a0:Int):Option Bool :=
 (Bu a0 2 97).bind fun y4 =>
cond (!y4)
 (some false)
 (Ce (Aq (fun s_:Nat=>F4 a0 s_) 4611686018427387904 2) fun _ =>
 some true)
theorem Kx (h:Ev bA=some cA):cK 40 [ai bA] (Ai cA):=by
 refine cO Tryz.func40 (Ae (Ab (Ab (Aa 5 (rsT 1 (rcH h Cd fun y4 h=>rsT 1 (rnW (kQ h (fun _ h=>Ae (Ac (tr_ (jS h)))) fun _ h=>skW (sqC h (fun _=>sT [] []) ?_ fun _ h=>Ae (Ac (jS h)))))))))));intro _ h hk7;refine Ae (Ad (lpF h (fun u0=>sT [(0,ai bA),(3,an u0)] []) (Aj []) ?_));intro n_ u0 c_ h hn9;refine Ab (Ae (kQ h (fun _ h=>skW (Ab (Ad (Ab (Aa 11 (rsT 2 ?_)))))) fun _ h=>lxT (have h:=jO h hn9;jC [])));obtain ⟨g15,h⟩:=Au h;exact rs0 (ai (Int.tmod bA (u0:Int))) (Nm (k:=.i64) (a:=bA) (b:=(u0:Int)) kr kr g15) (rsT 1 (rnW (kQ h (fun _ h=>Ae (Ac (br_ (tr_ (tr_ (br_ (tr_ (have h:=jO h hn9;(have h:=jO h hk7;jS h))))))))) fun _ h=>Aw (bn_ (tn_ (wr_ (Aa 14 (rsT 1 (raH h fun h=>rsT 1 (Ap (tn_ (jL []))))))))))))
def Jo (a0:List Int) (a1 a2:Int) (u0:Nat):Option (Ctl Nat (Ctl Unit Bool)) :=
 cond (decide ((u0:Int)<(a0.length:Int)))
 ((a0[u0]?).bind fun x10 =>
 (Bu x10 a1 a2).bind fun y12 =>
 cond (!y12)
  (some (Ctl.out (Ctl.out false)))
  (og (u0+1<4611686018427387904) <|
  some (Ctl.next (u0+1))))
 (some (Ctl.out (Ctl.next ())))
def J8 (a0:List Int) (a1 a2:Int):Option Bool :=
 Ce (Aq (fun s_:Nat=>Jo a0 a1 a2 s_) 4611686018427387904 0) fun _ =>
some true
theorem Xr (h:J8 aA bA bB=some cA):cK 124 [tI aA,ai bA,ai bB] (Ai cA):=by
 exact cO Tryz.func124 (Ae (sqC h (fun _=>sT [] []) (fun _ h hk2=>Ae (Ad (lpF h (fun u0=>sT [(1,ai bA),(2,ai bB),(9,tI aA),(10,an aA.length),(11,an u0)] []) (Aj []) (fun n_ u0 c_ h hn4=>Ae (Ab (kQ h (fun _ h=>skW (Ab (Ad (Ab (Aa 6 (riH .int h fun x10 _ h=>rsT 2 (rnW (Ab (Aa 11 (rsT 3 (rcH h Cd fun y12 h=>rsT 1 (rnW (kQ h (fun _ h=>Ae (Ac (br_ (tr_ (tr_ (br_ (tr_ (have h:=jO h hn4;(have h:=jO h hk2;jS h))))))))) fun _ h=>Aw (bn_ (tn_ (wr_ (Aa 13 (raH h fun h=>rsT 1 (Ap (tn_ (jL []))))))))))))))))))))) fun _ h=>lxT (have h:=jO h hn4;jC []))))))) fun _ h=>Ae (Ac (jS h))))
def H2 (a0:List Int):Option (List Int) :=
 og (0+a0.length<=1073741824/\(0+a0.length)*8<=140737488355328) <|
some a0
theorem Pp (h:H2 aA=some aB):cK 98 [tI aA] (Fq aB):=by
 refine cO Tryz.func98 (Ae (Ab (Aa 6 (rsB 2 ?_))));obtain ⟨g3,h⟩:=Au h;exact rs2 (oI 3 4 aA.length) (oi 3 2) (oi 3 4) (.arr 3 .int aA) (Qn (t:=.int) (t':=.int) (xs:=[]) (ys:=aA) (zs:=aA) (j:=oi 3 2) (len:=0) (c:=tI aA) kr kr rfl kr Ra rfl g3) (rsT 1 (rnW (Ac (jR h [oI 3 4 aA.length] (Hi rfl (Dg kr rfl) Gq)))))
def Li (a0:Int) (a1:List Int):Option Bool :=
 (J8 a1 0 (wI (a0 - 1))).bind fun y3 =>
some y3
theorem Zp (h:Li bA aA=some cA):cK 112 [ai bA,tI aA] (Ai cA):=by
 exact cO Tryz.func112 (Ae (Ab (Aa 7 (rsT 3 (rcH h Xr fun y3 h=>rsT 1 (rnW (Ac (jS h))))))))
def Hj (a0 a1 a2:Int):Option Int :=
 og (a0≠0) <|
some (Int.tmod (wI (a1*a2)) a0)
theorem Pq (h:Hj bA bB bC=some bD):cK 114 [ai bA,ai bB,ai bC] (A7 bD):=by
 refine cO Tryz.func114 (Ae (Ab (Aa 8 (rsT 4 ?_))));obtain ⟨g3,h⟩:=Au h;exact rs0 (ai (Int.tmod (wI (bB*bC)) bA)) (Nm (k:=.i64) (a:=wI (bB*bC)) (b:=bA) kr kr g3) (rsT 1 (rnW (Ac (jS h))))
def Br (a0 a1 a2:Int):Option Bool :=
 (cond (decide (a1<=a0))
  (some (decide (a0<=a2)))
  (some false)).bind fun u0 =>
some u0
theorem C8 (h:Br bA bB bC=some cA):cK 76 [ai bA,ai bB,ai bC] (Ai cA):=by
 exact cO Tryz.func76 (Ae (sqF h (fun u0=>sT [(6,.bool u0)] []) (fun _ h=>Aa 11 (rsT 4 (kR h 10 (fun _ h=>rsT 5 (Ap (tn_ (jE [])))) fun _ h=>rsT 5 (Ap (tn_ (jE [])))))) fun u0 h=>Ac (jS h)))
def F9 (a0 a1:Int):Option Bool :=
 (cond (decide (0<=a1))
  (some (decide (a1<a0)))
  (some false)).bind fun u0 =>
some u0
theorem Q8 (h:F9 bA bB=some cA):cK 125 [ai bA,ai bB] (Ai cA):=by
 exact cO Tryz.func125 (Ae (sqF h (fun u0=>sT [(4,.bool u0)] []) (fun _ h=>Aa 10 (rsT 3 (kR h 7 (fun _ h=>rsT 5 (Ap (tn_ (jE [])))) fun _ h=>rsT 5 (Ap (tn_ (jE [])))))) fun u0 h=>Ac (jS h)))
def Ha (a1:List Int) (a0:Int) (u0:Nat):Option (Ctl Nat (Ctl Unit Bool)) :=
 cond (decide ((u0:Int)<(a1.length:Int)))
 ((a1[u0]?).bind fun x14 =>
 (F9 a0 x14).bind fun y16 =>
 cond (!y16)
  (some (Ctl.out (Ctl.out false)))
  (og (u0+1<4611686018427387904) <|
  some (Ctl.next (u0+1))))
 (some (Ctl.out (Ctl.next ())))
def G5 (a0:Int) (a1:List Int) (a2:Int):Option Bool :=
 cond ((a1.length:Int) !=a2)
 (some false)
 (Ce (Aq (fun s_:Nat=>Ha a1 a0 s_) 4611686018427387904 0) fun _ =>
 some true)
theorem Tg (h:G5 bA aA bB=some cA):cK 117 [ai bA,tI aA,ai bB] (Ai cA):=by
 exact cO Tryz.func117 (Ae (Ab (Ae (kQ h (fun _ h=>Ae (Ac (tr_ (jS h)))) fun _ h=>skW (sqC h (fun _=>sT [] []) (fun _ h hk6=>Ae (Ad (lpF h (fun u0=>sT [(0,ai bA),(13,tI aA),(14,an aA.length),(15,an u0)] []) (Aj []) (fun n_ u0 c_ h hn8=>Ae (Ab (kQ h (fun _ h=>skW (Ab (Ad (Ab (Aa 6 (riH .int h fun x14 _ h=>rsT 2 (rnW (Ab (Aa 10 (rsT 2 (rcH h Q8 fun y16 h=>rsT 1 (rnW (kQ h (fun _ h=>Ae (Ac (br_ (tr_ (tr_ (br_ (tr_ (have h:=jO h hn8;(have h:=jO h hk6;jS h))))))))) fun _ h=>Aw (bn_ (tn_ (wr_ (Aa 12 (raH h fun h=>rsT 1 (Ap (tn_ (jL []))))))))))))))))))))) fun _ h=>lxT (have h:=jO h hn8;jC []))))))) fun _ h=>Ae (Ac (jS h)))))))
def Nc (a0 a1:Int):Option Int :=
 og (a0≠0) <|
(cond (decide (Int.tmod a1 a0<0))
  (some (wI (Int.tmod a1 a0+a0)))
  (some (Int.tmod a1 a0))).bind fun u0 =>
some u0
theorem Abc (h:Nc bA bB=some bC):cK 128 [ai bA,ai bB] (A7 bC):=by
 refine cO Tryz.func128 (Ae (Ab (Aa 6 (rsT 2 ?_))));obtain ⟨g3,h⟩:=Au h;exact rs0 (ai (Int.tmod bB bA)) (Nm (k:=.i64) (a:=bB) (b:=bA) kr kr g3) (rsT 1 (rnW (sqF h (fun u0=>sT [(1,ai u0)] []) (fun _ h=>Ae (kQ h (fun _ h=>Aa 12 (rsT 4 (Ap (tn_ (jE []))))) fun _ h=>Aw (tn_ (jE [])))) fun u0 h=>Ae (Ac (jS h)))))
def Hs (a0:List Int):Option (List Int) :=
 og (0+a0.length<=1073741824/\(0+a0.length)*8<=140737488355328) <|
some a0
theorem Px (h:Hs aA=some aB):cK 88 [tI aA] (Fq aB):=by
 refine cO Tryz.func88 (Ae (Ab (Aa 6 (rsB 2 ?_))));obtain ⟨g3,h⟩:=Au h;exact rs2 (oI 3 4 aA.length) (oi 3 2) (oi 3 4) (.arr 3 .int aA) (Qn (t:=.int) (t':=.int) (xs:=[]) (ys:=aA) (zs:=aA) (j:=oi 3 2) (len:=0) (c:=tI aA) kr kr rfl kr Ra rfl g3) (rsT 1 (rnW (Ac (jR h [oI 3 4 aA.length] (Hi rfl (Dg kr rfl) Gq)))))
end


section
open Go.RowKit Go.Deep
set_option maxRecDepth 4000
set_option maxHeartbeats 4800000
variable {bA bB bC bD bE:Int} {dA dB:LL} {cA:Bool} {aA aB aC:List Int} {eA:LL×LL} {fA:LL×LL×Nat}
def T6 (a0 a1:Int) (u0:Nat):Option (Ctl Nat (Ctl Unit Int)) :=
 cond (decide ((u0:Int)<a0))
 (og (a0≠0) <|
 cond ((Int.tmod (wI (a1*(u0:Int))) a0)==1)
  (some (Ctl.out (Ctl.out (u0:Int))))
  (og (u0+1<4611686018427387904) <|
  some (Ctl.next (u0+1))))
 (some (Ctl.out (Ctl.next ())))
def J2 (a0 a1:Int):Option Int :=
 Ce (Aq (fun s_:Nat=>T6 a0 a1 s_) 4611686018427387904 1) fun _ =>
some 0
theorem Xn (h:J2 bA bB=some bC):cK 113 [ai bA,ai bB] (A7 bC):=by
 refine cO Tryz.func113 (Ae (sqC h (fun _=>sT [] []) ?_ fun _ h=>Ae (Ac (jS h))));intro _ h hk2;refine Ae (Ad (lpF h (fun u0=>sT [(0,ai bA),(1,ai bB),(5,an u0)] []) (Aj []) ?_));intro n_ u0 c_ h hn4;refine Ab (Ae (kQ h (fun _ h=>skW (Ab (Ad (Ab (Aa 11 (rsT 4 ?_)))))) fun _ h=>lxT (have h:=jO h hn4;jC [])));obtain ⟨g10,h⟩:=Au h;exact rs0 (ai (Int.tmod (wI (bB*(u0:Int))) bA)) (Nm (k:=.i64) (a:=wI (bB*(u0:Int))) (b:=bA) kr kr g10) (rsT 1 (rnW (kQ h (fun _ h=>Ae (Ac (br_ (tr_ (tr_ (br_ (tr_ (have h:=jO h hn4;(have h:=jO h hk2;jS h))))))))) fun _ h=>Aw (bn_ (tn_ (wr_ (Aa 14 (rsT 1 (raH h fun h=>rsT 1 (Ap (tn_ (jL []))))))))))))
def J6 (a0 a1 a2:Int):Option Int :=
 og (a0≠0) <|
some (Int.tmod (wI ((wI (a1+a0)) - a2)) a0)
theorem Xu (h:J6 bA bB bC=some bD):cK 115 [ai bA,ai bB,ai bC] (A7 bD):=by
 refine cO Tryz.func115 (Ae (Ab (Aa 10 (rsT 6 ?_))));obtain ⟨g3,h⟩:=Au h;exact rs0 (ai (Int.tmod (wI ((wI (bB+bA)) - bC)) bA)) (Nm (k:=.i64) (a:=wI ((wI (bB+bA)) - bC)) (b:=bA) kr kr g3) (rsT 1 (rnW (Ac (jS h))))
def Da (a2:LL) (u0:Nat) (u1:LL):Option (Ctl (Nat×LL) (LL)) :=
 cond (decide ((u0:Int)<(a2.length:Int)))
 ((a2[u0]?).bind fun x12 =>
 (H2 x12).bind fun y13 =>
 og (u1.length+1<=1073741824/\(u1.length+1)*24<=140737488355328) <|
 og (u0+1<4611686018427387904) <|
 some (Ctl.next (u0+1,u1++[y13])))
 (some (Ctl.out u1))
def C7 (u1:LL) (u2 u0:Nat):Option (Ctl Nat Nat) :=
 (cond (decide ((u0:Int)<(u1.length:Int)))
  ((u1[u0]?).bind fun x31 =>
  (x31[u2]?).bind fun x32 =>
  some (x32==0))
  (some false)).bind fun u3 =>
cond u3
 (og (u0+1<4611686018427387904) <|
 some (Ctl.next (u0+1)))
 (some (Ctl.out u0))
def Eh (x44:List Int) (u2:Nat) (a0 y46:Int) (u0:Nat) (u1:LL):Option (Ctl (Nat×LL) (LL)) :=
 cond (decide ((u0:Int)<(x44.length:Int)))
 ((u1[u2]?).bind fun x55 =>
 (x55[u0]?).bind fun x56 =>
 (Hj a0 x56 y46).bind fun y57 =>
 og (u0+1<4611686018427387904) <|
 some (Ctl.next (u0+1,u1.set u2 (x55.set u0 y57))))
 (some (Ctl.out u1))
def Eb (x74:List Int) (u2 u3:Nat) (a0 x75:Int) (u0:Nat) (u1:LL):Option (Ctl (Nat×LL) (LL)) :=
 cond (decide ((u0:Int)<(x74.length:Int)))
 ((u1[u2]?).bind fun x83 =>
 (x83[u0]?).bind fun x84 =>
 (u1[u3]?).bind fun x85 =>
 (x85[u0]?).bind fun x86 =>
 (Hj a0 x75 x86).bind fun y87 =>
 (J6 a0 x84 y87).bind fun y88 =>
 og (u0+1<4611686018427387904) <|
 some (Ctl.next (u0+1,u1.set u2 (x83.set u0 y88))))
 (some (Ctl.out u1))
def Eg (u4:LL) (u2 u3:Nat) (a0:Int) (u0:Nat) (u1:LL):Option (Ctl (Nat×LL) (LL)) :=
 cond (decide ((u0:Int)<(u4.length:Int)))
 (((cond ((u0:Int)==(u2:Int))
       (some true)
       ((u1[u0]?).bind fun x70 =>
       (x70[u3]?).bind fun x71 =>
       some (x71==0))).bind fun u5 =>
  cond u5
   (some u1)
   ((u1[u0]?).bind fun x74 =>
   (x74[u3]?).bind fun x75 =>
   Aq (fun s_:Nat×LL=>Eb x74 u0 u2 a0 x75 s_.1 s_.2) 4611686018427387904 (0,u1))).bind fun u6 =>
 og (u0+1<4611686018427387904) <|
 some (Ctl.next (u0+1,u6)))
 (some (Ctl.out u1))
def Cb (a1 a0:Int) (u0 u2:Nat) (u1:LL):Option (Ctl (Nat×Nat×LL) (Nat×LL)) :=
 (cond (decide ((u2:Int)<a1))
  (some (decide ((u0:Int)<(u1.length:Int))))
  (some false)).bind fun u5 =>
cond u5
 (((Aq (fun s_:Nat=>C7 u1 u2 s_) 4611686018427387904 u0).bind fun u3 =>
  cond ((u3:Int)==(u1.length:Int))
   (some (u0,u1))
   ((u1[u0]?).bind fun x39 =>
   (u1[u3]?).bind fun x41 =>
   (((u1.set u0 x41).set u3 x39)[u0]?).bind fun x44 =>
   (x44[u2]?).bind fun x45 =>
   (J2 a0 x45).bind fun y46 =>
   (Aq (fun s_:Nat×LL=>Eh x44 u0 a0 y46 s_.1 s_.2) 4611686018427387904 (0,(u1.set u0 x41).set u3 x39)).bind fun u4 =>
   (Aq (fun s_:Nat×LL=>Eg u4 u0 u2 a0 s_.1 s_.2) 4611686018427387904 (0,u4)).bind fun u6 =>
   og (u0+1<4611686018427387904) <|
   some (u0+1,u6))).bind fun (u7,u8) =>
 og (u2+1<4611686018427387904) <|
 some (Ctl.next (u7,u2+1,u8)))
 (some (Ctl.out (u0,u1)))
def G0 (a0 a1:Int) (a2:LL):Option (LL) :=
 (Aq (fun s_:Nat×LL=>Da a2 s_.1 s_.2) 4611686018427387904 (0,([]:LL))).bind fun u2 =>
(Aq (fun s_:Nat×Nat×LL=>Cb a1 a0 s_.1 s_.2.1 s_.2.2) 4611686018427387904 (0,0,u2)).bind fun (u0,u1) =>
og ((0:Int)<=0/\0<=(u0:Int)/\(u0:Int)<=(u1.length:Int)) <|
some (u1.take u0)
theorem S5 (h:G0 bA bB dA=some dB):Gj Tryz.prog Tab 94 [ai bA,ai bB,tS dA] [] (oS 0 1 dB.length) [(oi 0 1,.mat 87 (oi 1 1) .int dB),(oi 1 1,.pool 3 .int dB)]:=by
 refine Dh kr Tryz.func94 (Ei kr) (n:=177) kr (by simp) rfl kr trivial ⟨⟨3,.tail _ (.head _)⟩,⟨trivial,trivial⟩⟩ (Ae (Ae (sqF h (fun uf=>sT [(0,ai bA),(1,ai bB),(7,oS 0 1 uf.length)] [(oi 0 1,.mat 87 (oi 1 1) .int uf),(oi 1 1,.pool 3 .int uf)]) ?_ ?_)))
 ·intro _ h;refine Ae (Ad (lpF h (fun (uj,uc)=>sT [(0,ai bA),(1,ai bB),(7,oS 0 1 uc.length),(19,tS dA),(20,an dA.length),(21,an uj)] [(oi 0 1,.mat 87 (oi 1 1) .int uc),(oi 1 1,.pool 3 .int uc)]) ((Vd 7 87 sI kr).trans ((U0 (e1:=87) (n:=0) 9000 (oi 7 6) 3 .int kr kr rfl kr kr).trans (Aj [(oi 0 1,oi 7 6),(oi 1 1,oi 9000 7)]))) ?_));rintro n_ ⟨uj,uc⟩ c_ h hn6
  (try dsimp only at h);refine Ae (Ab (kQ h (fun q9 h=>?_) fun q9 h=>?_))
  ·have q9_:=of_decide_eq_true q9;refine skW (Ab (Ad (Ab (Aa 6 (riH sI h fun x12 _ h=>rsT 2 (rnW (Aa 12 (rsT 2 (rcH h Pp fun y13 h=>Aha (oS 28 9 1) (oi 28 9) (.vec 87 1 1 ([oI 432 8 y13.length])) trivial (Zb kr) ?_)))))))));obtain ⟨g14,h⟩:=Au h;refine zV (oi 0 1) (oi 28 9) (oi 1 1) uc [oI 432 8 y13.length] g14 (rsT 1 (Ap (bn_ (tn_ ⟨_,S6 (e1:=87) (e:=3) (u:=.int) (n:=uc.length+1) (len:=y13.length) (row:=y13) (ys:=y13) (xss:=uc) 9000 (oi 0 10) (oi 1 1) (oi 432 8) kr kr rfl kr kr (Agc rfl) (Aft rfl) kr kr kr,Aa 15 ?_⟩))));obtain ⟨g15,h⟩:=Au h;refine zA g15 (rsT 1 (Ap (tn_ ?_)));obtain rfl:=zj h;exact jLw hn6 ((wL 7 ((by simp):uc.length+1=(uc++[y13]).length)).trans (Aj [(oi 0 1,oi 0 10),(oi 1 1,oi 9000 12)]))
  have q9_:=of_decide_eq_false q9;refine lxT ?_;have h:=jO h hn6
  (try dsimp only at h);exact jE []
 intro uf h
 (try dsimp only at h);refine Ae (sqF h (fun (ua,ub)=>sT [(7,oS 0 1 ub.length),(10,an ua)] [(oi 0 1,.mat 87 (oi 1 1) .int ub),(oi 1 1,.pool 3 .int ub)]) ?_ ?_)
 ·intro _ h;refine Ae (Ad (lpF h (fun (u0,u3,u1)=>sT [(0,ai bA),(1,ai bB),(7,oS 0 1 u1.length),(10,an u0),(11,an u3)] [(oi 0 1,.mat 87 (oi 1 1) .int u1),(oi 1 1,.pool 3 .int u1)]) (Aj []) ?_));rintro n_ ⟨u0,u3,u1⟩ c_ h hn19
  (try dsimp only at h);refine Ab (sqF h (fun uk=>sT [(0,ai bA),(1,ai bB),(7,oS 0 1 u1.length),(10,an u0),(11,an u3),(39,.bool uk)] [(oi 0 1,.mat 87 (oi 1 1) .int u1),(oi 1 1,.pool 3 .int u1)]) ?_ ?_)
  ·intro _ h;refine Aa 11 (rsT 4 (kR h 34 (fun q22 h=>?_) fun q22 h=>?_))
   ·have q22_:=of_decide_eq_true q22;exact rsT 5 (Ap (tn_ (jE [])))
   have q22_:=of_decide_eq_false q22;exact rsT 5 (Ap (tn_ (jE [])))
  intro uk h
  (try dsimp only at h);refine kQ h (fun _ h=>?_) fun _ h=>?_
  ·refine skW (sqF h (fun (ul,ug)=>sT [(0,ai bA),(1,ai bB),(7,oS 0 1 ug.length),(10,an ul),(11,an u3)] [(oi 0 1,.mat 87 (oi 1 1) .int ug),(oi 1 1,.pool 3 .int ug)]) ?_ ?_)
   ·intro _ h;refine Ad (Ae (sqF h (fun u6=>sT [(0,ai bA),(1,ai bB),(7,oS 0 1 u1.length),(10,an u0),(11,an u3),(12,an u6)] [(oi 0 1,.mat 87 (oi 1 1) .int u1),(oi 1 1,.pool 3 .int u1)]) ?_ ?_))
    ·intro _ h;refine Ad (lpF h (fun ud=>sT [(0,ai bA),(1,ai bB),(7,oS 0 1 u1.length),(10,an u0),(11,an u3),(12,an ud)] [(oi 0 1,.mat 87 (oi 1 1) .int u1),(oi 1 1,.pool 3 .int u1)]) (Aj []) ?_);intro n_ ud c_ h hn27
     (try dsimp only at h);refine Ab (sqF h (fun um=>sT [(0,ai bA),(1,ai bB),(7,oS 0 1 u1.length),(10,an u0),(11,an u3),(12,an ud),(56,.bool um)] [(oi 0 1,.mat 87 (oi 1 1) .int u1),(oi 1 1,.pool 3 .int u1)]) ?_ ?_)
     ·intro _ h;refine Aa 16 (rsT 5 ?_);rcases Ax h with ⟨q30,h⟩|⟨q30,h⟩
      ·have q30_:=of_decide_eq_true q30;refine rq 47 q30 (rsT 2 ?_);obtain ⟨x31,e31,h⟩:=Am h;refine zO (oi 0 1) sI u1.length (An e31) (rsl (.own (kid (oi 1 1) ud) .int 0 x31.length) (E2 (o:=oi 0 1) (p:=oi 1 1) (e1:=87) (u:=.int) (xss:=u1) (row:=x31) (j:=ud) kr kr e31) (rsT 1 ?_));obtain ⟨x32,e32,h⟩:=Am h;exact rs0 (.elt (kid (oi 1 1) ud) u3 0) (zo (t:=.int) (o:=kid (oi 1 1) ud) (len:=x31.length) (k:=.i64) (m:=(u3:Int)) (Cs _) (An e32)) (rsl (ai x32) (Gg (i:=kid (oi 1 1) ud) (j:=u3) (k:=0) (e:=3) (t:=.int) (xs:=x31) kr (Be kr e31) e32 kr) (rsT 2 (Ap (tn_ (jE [])))))
      have q30_:=of_decide_eq_false q30;exact rq 47 q30 (rsT 9 (Ap (tn_ (jE []))))
     intro um h
     (try dsimp only at h);refine kQ h (fun _ h=>?_) fun _ h=>?_
     ·refine skW (Ad (Aa 5 (rsT 1 ?_)));obtain ⟨g34,h⟩:=Au h;exact zA g34 (rsT 1 (Ap (bn_ (tn_ (jL [])))))
     refine lxT ?_;have h:=jO h hn27
     (try dsimp only at h);exact jE []
    intro u6 h
    (try dsimp only at h);refine Ab (Ae (kQ h (fun _ h=>Eu (te_ (be_ (tn_ (jE []))))) fun _ h=>skW (Ab (Aa 11 (rsT 2 ?_)))));obtain ⟨x39,e39,h⟩:=Am h;refine zO (oi 0 1) sI u1.length (An e39) (rsl (.own (kid (oi 1 1) u0) .int 0 x39.length) (E2 (o:=oi 0 1) (p:=oi 1 1) (e1:=87) (u:=.int) (xss:=u1) (row:=x39) (j:=u0) kr kr e39) (rsT 1 (rnW (Ab (Aa 19 (rsT 4 ?_))))));obtain ⟨x41,e41,h⟩:=Am h;refine zO (oi 0 1) sI u1.length (An e41) (rsl (.own (kid (oi 1 1) u6) .int 0 x41.length) (E2 (o:=oi 0 1) (p:=oi 1 1) (e1:=87) (u:=.int) (xss:=u1) (row:=x41) (j:=u6) kr kr e41) (zO (oi 0 1) sI u1.length (An e39) (Ae0 (oi 0 1) (oi 0 1) (.vec 87 1 u1.length ((hdL (oi 1 1) .int u1).set u0 (.own (kid (oi 1 1) u6) .int 0 x41.length))) (Acr (o:=oi 0 1) (e1:=87) (m:=u1.length) (cs:=hdL (oi 1 1) .int u1) (v:=.own (kid (oi 1 1) u6) .int 0 x41.length) (j:=u0) kr kr kr rfl (by rw [Ec];exact An e39)) (rnW (Ab (Aa 24 (rsT 3 (zO (oi 0 1) sI u1.length (An e41) (Ae0 (oi 0 1) (oi 0 1) (.vec 87 1 u1.length (((hdL (oi 1 1) .int u1).set u0 (.own (kid (oi 1 1) u6) .int 0 x41.length)).set u6 (.own (kid (oi 1 1) u0) .int 0 x39.length))) (Acr (o:=oi 0 1) (e1:=87) (m:=u1.length) (cs:=(hdL (oi 1 1) .int u1).set u0 (.own (kid (oi 1 1) u6) .int 0 x41.length)) (v:=.own (kid (oi 1 1) u0) .int 0 x39.length) (j:=u6) kr kr kr rfl (by rw [List.length_set,Ec];exact An e41)) (Ap (tn_ ⟨_,U5 (e1:=87) (e:=3) (u:=.int) (xss:=u1) (i:=u0) (j:=u6) (n:=u1.length) (li:=x39.length) (lj:=x41.length) (ri:=x39) (rj:=x41) 9000 (oi 0 1) (oi 1 1) kr kr rfl kr e39 e41 rfl rfl kr kr,Ab (Aa 35 (rsT 3 ?_))⟩)))))))))));obtain ⟨x44,e44,h⟩:=Am h;refine rs0 (.elt (oi 0 1) u0 0) (zo (t:=sI) (o:=oi 0 1) (len:=u1.length) (k:=.i64) (m:=(u0:Int)) (Cs _) (Nat.lt_of_lt_of_le (An e44) (Nat.le_of_eq (Eq.symm (Eq.trans (b:=u1.length) rfl (by simp)))))) (rsl (.own (kid (oi 9000 24) u0) .int 0 x44.length) (E2 (o:=oi 0 1) (p:=oi 9000 24) (e1:=87) (u:=.int) (xss:=(u1.set u0 x41).set u6 x39) (row:=x44) (j:=u0) kr kr e44) (rsT 1 ?_));obtain ⟨x45,e45,h⟩:=Am h;refine rs0 (.elt (kid (oi 9000 24) u0) u3 0) (zo (t:=.int) (o:=kid (oi 9000 24) u0) (len:=x44.length) (k:=.i64) (m:=(u3:Int)) (Cs _) (An e45)) (rsl (ai x45) (Gg (i:=kid (oi 9000 24) u0) (j:=u3) (k:=0) (e:=3) (t:=.int) (xs:=x44) kr (Be kr e44) e45 kr) (rcH h Xn fun y46 h=>rsT 1 (rnW (sqF h (fun ue=>sT [(0,ai bA),(1,ai bB),(7,oS 0 1 ue.length),(10,an u0),(11,an u3)] [(oi 0 1,.mat 87 (oi 1 1) .int ue),(oi 1 1,.pool 3 .int ue)]) ?_ ?_))))
    ·intro _ h;refine Ab (Aa 41 (rsT 2 (rs0 (.elt (oi 0 1) u0 0) (zo (t:=sI) (o:=oi 0 1) (len:=u1.length) (k:=.i64) (m:=(u0:Int)) (Cs _) (Nat.lt_of_lt_of_le (An e44) (Nat.le_of_eq (Eq.symm (Eq.trans (b:=u1.length) rfl (by simp)))))) (rsl (.own (kid (oi 9000 24) u0) .int 0 x44.length) (E2 (o:=oi 0 1) (p:=oi 9000 24) (e1:=87) (u:=.int) (xss:=(u1.set u0 x41).set u6 x39) (row:=x44) (j:=u0) kr kr e44) (rsT 2 (rnW (Ad (lpF h (fun (u9,u7)=>sT [(0,ai bA),(1,ai bB),(7,oS 0 1 u7.length),(10,an u0),(11,an u3),(14,ai y46),(91,an x44.length),(92,an u9)] [(oi 0 1,.mat 87 (oi 1 1) .int u7),(oi 1 1,.pool 3 .int u7)]) ((wL 7 ((Eq.trans (b:=u1.length) rfl (by simp)):u1.length=((u1.set u0 x41).set u6 x39).length)).trans (Aj [(oi 1 1,oi 9000 24)])) ?_))))))));rintro n_ ⟨u9,u7⟩ c_ h hn49
     (try dsimp only at h);refine Ae (Ab (kQ h (fun q52 h=>?_) fun q52 h=>?_))
     ·have q52_:=of_decide_eq_true q52;refine skW (Ab (Ad (Ae (As 22 (dz0 (oS 0 1 u7.length) (dz0 (an u0) ?_))))));obtain ⟨x55,e55,h⟩:=Am h;refine dzO (oi 0 1) sI u7.length (An e55) (dsl (.own (kid (oi 1 1) u0) .int 0 x55.length) (E2 (o:=oi 0 1) (p:=oi 1 1) (e1:=87) (u:=.int) (xss:=u7) (row:=x55) (j:=u0) kr kr e55) (dsT 4 (dzO (oi 0 1) sI u7.length (An e55) (dsl (.own (kid (oi 1 1) u0) .int 0 x55.length) (E2 (o:=oi 0 1) (p:=oi 1 1) (e1:=87) (u:=.int) (xss:=u7) (row:=x55) (j:=u0) kr kr e55) (dz0 (an u9) ?_)))));obtain ⟨x56,e56,h⟩:=Am h;refine ds0 (.elt (kid (oi 1 1) u0) u9 0) (zo (t:=.int) (o:=kid (oi 1 1) u0) (len:=x55.length) (k:=.i64) (m:=(u9:Int)) (Cs _) (An e56)) (dsl (ai x56) (Gg (i:=kid (oi 1 1) u0) (j:=u9) (k:=0) (e:=3) (t:=.int) (xs:=x55) kr (Yh.trans (Be kr e55)) e56 kr) (dz0 (ai y46) (dcH h Pq fun y57 h=>ds0 (.elt (kid (oi 1 1) u0) u9 0) (zo (t:=.int) (o:=kid (oi 1 1) u0) (len:=x55.length) (k:=.i64) (m:=(u9:Int)) (Cs _) (An e56)) (Pi (kid (oi 1 1) u0) (kid (oi 1 1) u0) (.arr 3 .int (x55.set u9 y57)) (Yn (i:=kid (oi 1 1) u0) (j:=u9) (k:=0) (e:=3) (t:=.int) (xs:=x55) (cs:=[ai y57]) (x1:=y57) kr (Yh.trans (Be kr e55)) e56 kr kr) (Agb (Aau (o:=oi 0 1) (p:=oi 1 1) (e1:=87) (e:=3) (u:=.int) (xss:=u7) (k:=u0) (row:=x55) (row':=x55.set u9 y57) kr rfl kr e55 List.length_set) (D6 (A0 kr) (bn_ (tn_ (wr_ (Aa 24 ?_))))))))));obtain ⟨g58,h⟩:=Au h;refine zA g58 (rsT 1 (Ap (tn_ ?_)));obtain rfl:=zj h;exact jLw hn49 ((wL 7 ((Eq.trans (b:=u7.length) rfl List.length_set.symm):u7.length=(u7.set u0 (x55.set u9 y57)).length)).trans (Aj []))
     have q52_:=of_decide_eq_false q52;refine lxT ?_;have h:=jO h hn49
     (try dsimp only at h);exact jE []
    intro ue h
    (try dsimp only at h);refine sqF h (fun uh=>sT [(0,ai bA),(1,ai bB),(7,oS 0 1 uh.length),(10,an u0),(11,an u3)] [(oi 0 1,.mat 87 (oi 1 1) .int uh),(oi 1 1,.pool 3 .int uh)]) ?_ ?_
    ·intro _ h;refine Ae (Ad (lpF h (fun (u2,u8)=>sT [(0,ai bA),(1,ai bB),(7,oS 0 1 u8.length),(10,an u0),(11,an u3),(113,an ue.length),(114,an u2)] [(oi 0 1,.mat 87 (oi 1 1) .int u8),(oi 1 1,.pool 3 .int u8)]) (Aj []) ?_));rintro n_ ⟨u2,u8⟩ c_ h hn61
     (try dsimp only at h);refine Ae (Ab (kQ h (fun q64 h=>?_) fun q64 h=>?_))
     ·have q64_:=of_decide_eq_true q64;refine skW (sqF h (fun ui=>sT [(0,ai bA),(1,ai bB),(7,oS 0 1 ui.length),(10,an u0),(11,an u3),(113,an ue.length),(114,an u2)] [(oi 0 1,.mat 87 (oi 1 1) .int ui),(oi 1 1,.pool 3 .int ui)]) ?_ ?_)
      ·intro _ h;refine Ad (Ae (Ab (sqF h (fun un=>sT [(0,ai bA),(1,ai bB),(7,oS 0 1 u8.length),(10,an u0),(11,an u3),(16,an u2),(113,an ue.length),(114,an u2),(129,.bool un)] [(oi 0 1,.mat 87 (oi 1 1) .int u8),(oi 1 1,.pool 3 .int u8)]) ?_ ?_)))
       ·intro _ h;refine Aa 18 (rsT 4 ?_);rcases Ax h with ⟨q69,h⟩|⟨q69,h⟩
        ·exact rq 120 q69 (rsT 9 (Ap (tn_ (jE []))))
        refine rq 120 q69 (rsT 2 ?_);obtain ⟨x70,e70,h⟩:=Am h;refine zO (oi 0 1) sI u8.length (An e70) (rsl (.own (kid (oi 1 1) u2) .int 0 x70.length) (E2 (o:=oi 0 1) (p:=oi 1 1) (e1:=87) (u:=.int) (xss:=u8) (row:=x70) (j:=u2) kr kr e70) (rsT 1 ?_));obtain ⟨x71,e71,h⟩:=Am h;exact rs0 (.elt (kid (oi 1 1) u2) u3 0) (zo (t:=.int) (o:=kid (oi 1 1) u2) (len:=x70.length) (k:=.i64) (m:=(u3:Int)) (Cs _) (An e71)) (rsl (ai x71) (Gg (i:=kid (oi 1 1) u2) (j:=u3) (k:=0) (e:=3) (t:=.int) (xs:=x70) kr (Be kr e70) e71 kr) (rsT 2 (Ap (tn_ (jE [])))))
       intro un h
       (try dsimp only at h);refine kQ h (fun _ h=>Eu (te_ (be_ (tn_ (jE []))))) fun _ h=>skW (Ab (Aa 10 (rsT 2 ?_)))
       obtain ⟨x74,e74,h⟩:=Am h;refine zO (oi 0 1) sI u8.length (An e74) (rsl (.own (kid (oi 1 1) u2) .int 0 x74.length) (E2 (o:=oi 0 1) (p:=oi 1 1) (e1:=87) (u:=.int) (xss:=u8) (row:=x74) (j:=u2) kr kr e74) (rsT 1 ?_));obtain ⟨x75,e75,h⟩:=Am h;refine rs0 (.elt (kid (oi 1 1) u2) u3 0) (zo (t:=.int) (o:=kid (oi 1 1) u2) (len:=x74.length) (k:=.i64) (m:=(u3:Int)) (Cs _) (An e75)) (rsl (ai x75) (Gg (i:=kid (oi 1 1) u2) (j:=u3) (k:=0) (e:=3) (t:=.int) (xs:=x74) kr (Be kr e74) e75 kr) (rsT 1 (rnW (Ab (Aa 16 (rsT 2 (zO (oi 0 1) sI u8.length (An e74) (rsl (.own (kid (oi 1 1) u2) .int 0 x74.length) (E2 (o:=oi 0 1) (p:=oi 1 1) (e1:=87) (u:=.int) (xss:=u8) (row:=x74) (j:=u2) kr kr e74) (rsT 2 (rnW (Ad (lpF h (fun (u4,u5)=>sT [(0,ai bA),(1,ai bB),(7,oS 0 1 u5.length),(10,an u0),(11,an u3),(16,an u2),(17,ai x75),(113,an ue.length),(114,an u2),(141,an x74.length),(142,an u4)] [(oi 0 1,.mat 87 (oi 1 1) .int u5),(oi 1 1,.pool 3 .int u5)]) (Aj []) ?_))))))))))));rintro n_ ⟨u4,u5⟩ c_ h hn77
       (try dsimp only at h);refine Ae (Ab (kQ h (fun q80 h=>?_) fun q80 h=>?_))
       ·have q80_:=of_decide_eq_true q80;refine skW (Ab (Ad (Ae (As 31 (dz0 (oS 0 1 u5.length) (dz0 (an u2) ?_))))));obtain ⟨x83,e83,h⟩:=Am h;refine dzO (oi 0 1) sI u5.length (An e83) (dsl (.own (kid (oi 1 1) u2) .int 0 x83.length) (E2 (o:=oi 0 1) (p:=oi 1 1) (e1:=87) (u:=.int) (xss:=u5) (row:=x83) (j:=u2) kr kr e83) (dsT 4 (dzO (oi 0 1) sI u5.length (An e83) (dsl (.own (kid (oi 1 1) u2) .int 0 x83.length) (E2 (o:=oi 0 1) (p:=oi 1 1) (e1:=87) (u:=.int) (xss:=u5) (row:=x83) (j:=u2) kr kr e83) (dz0 (an u4) ?_)))));obtain ⟨x84,e84,h⟩:=Am h;refine ds0 (.elt (kid (oi 1 1) u2) u4 0) (zo (t:=.int) (o:=kid (oi 1 1) u2) (len:=x83.length) (k:=.i64) (m:=(u4:Int)) (Cs _) (An e84)) (dsl (ai x84) (Gg (i:=kid (oi 1 1) u2) (j:=u4) (k:=0) (e:=3) (t:=.int) (xs:=x83) kr (Yh.trans (Be kr e83)) e84 kr) (dz0 (ai bA) (dz0 (ai x75) (dz0 (oS 0 1 u5.length) (dz0 (an u0) ?_)))));obtain ⟨x85,e85,h⟩:=Am h;refine dzO (oi 0 1) sI u5.length (An e85) (dsl (.own (kid (oi 1 1) u0) .int 0 x85.length) (E2 (o:=oi 0 1) (p:=oi 1 1) (e1:=87) (u:=.int) (xss:=u5) (row:=x85) (j:=u0) kr kr e85) (dz0 (an u4) ?_));obtain ⟨x86,e86,h⟩:=Am h;refine ds0 (.elt (kid (oi 1 1) u0) u4 0) (zo (t:=.int) (o:=kid (oi 1 1) u0) (len:=x85.length) (k:=.i64) (m:=(u4:Int)) (Cs _) (An e86)) (dsl (ai x86) (Gg (i:=kid (oi 1 1) u0) (j:=u4) (k:=0) (e:=3) (t:=.int) (xs:=x85) kr (Yh.trans (Be kr e85)) e86 kr) (dcH h Pq fun y87 h=>dcH h Xu fun y88 h=>ds0 (.elt (kid (oi 1 1) u2) u4 0) (zo (t:=.int) (o:=kid (oi 1 1) u2) (len:=x83.length) (k:=.i64) (m:=(u4:Int)) (Cs _) (An e84)) (Pi (kid (oi 1 1) u2) (kid (oi 1 1) u2) (.arr 3 .int (x83.set u4 y88)) (Yn (i:=kid (oi 1 1) u2) (j:=u4) (k:=0) (e:=3) (t:=.int) (xs:=x83) (cs:=[ai y88]) (x1:=y88) kr (Yh.trans (Be kr e83)) e84 kr kr) (Agb (Aau (o:=oi 0 1) (p:=oi 1 1) (e1:=87) (e:=3) (u:=.int) (xss:=u5) (k:=u2) (row:=x83) (row':=x83.set u4 y88) kr rfl kr e83 List.length_set) (D6 (A0 kr) (bn_ (tn_ (wr_ (Aa 33 ?_)))))))));obtain ⟨g89,h⟩:=Au h;refine zA g89 (rsT 1 (Ap (tn_ ?_)));obtain rfl:=zj h;exact jLw hn77 ((wL 7 ((Eq.trans (b:=u5.length) rfl List.length_set.symm):u5.length=(u5.set u2 (x83.set u4 y88)).length)).trans (Aj []))
       have q80_:=of_decide_eq_false q80;refine Eu (te_ (te_ (be_ (bn_ (tn_ ?_)))));have h:=jO h hn77
       (try dsimp only at h);exact jE []
      intro ui h
      (try dsimp only at h);refine Aa 4 ?_;obtain ⟨g90,h⟩:=Au h;exact zA g90 (rsT 1 (Ap (tn_ (jL []))))
     have q64_:=of_decide_eq_false q64;refine lxT ?_;have h:=jO h hn61
     (try dsimp only at h);exact jE []
    intro uh h
    (try dsimp only at h);refine Aa 5 (rsT 1 ?_);obtain ⟨g91,h⟩:=Au h;exact zA g91 (rsT 1 (Ap (bn_ (tn_ (jE [])))))
   rintro ⟨ul,ug⟩ h
   (try dsimp only at h);refine Aa 5 (rsT 1 ?_);obtain ⟨g92,h⟩:=Au h;exact zA g92 (rsT 1 (Ap (tn_ (jL []))))
  refine lxT ?_;have h:=jO h hn19
  (try dsimp only at h);exact jE []
 rintro ⟨ua,ub⟩ h
 (try dsimp only at h);refine Ab (Aa 6 (rsT 2 ?_));obtain ⟨g94,h⟩:=Au h;refine rs0 (oS 0 1 ua) (Ac8 (t:=sI) (i:=oi 0 1) (off:=0) (len:=ub.length) (l:=0) (h:=(ua:Int)) kr kr kr rfl g94 rfl oM) (rsT 1 (rnW (Ac ?_)));obtain rfl:=zj h;exact Jm [oS 0 1 ((ub.take ua).length)] ((Ad3 (e1:=87) (e:=3) (u:=.int) (xss:=ub) (n:=ub.length) (k:=ua) 9000 (oi 0 1) (oi 1 1) kr kr rfl kr oM kr kr kr).trans ((Wh 6 (oS 0 1 ua) (oS 0 1 ((ub.take ua).length)) kr (congrArg (fun z_=>((oS 0 1 z_):AV)) ((Agy oM):ua=(ub.take ua).length))).trans (Aj (tl:=[(6,oS 0 1 (ub.take ua).length)]) (g:=2) [(oi 1 1,oi 9000 6)])))
def T5 (a0 u0:Int) (u1 u2:Int):Option (Ctl (Int×Int×Int) Int) :=
 cond (decide (0<u1))
 ((cond ((Int.tmod u1 2)==1)
   (og (a0≠0) <|
   some (Int.tmod (wI (u2*u0)) a0))
   (some u2)).bind fun u3 =>
 og (a0≠0) <|
 some (Ctl.next (Int.tmod (wI (u0*u0)) a0,wI (Int.tdiv u1 2),u3)))
 (some (Ctl.out u2))
def Rx (a0 a1 a2:Int):Option Int :=
 og (a0≠0) <|
(Aq (fun s_:Int×Int×Int=>T5 a0 s_.1 s_.2.1 s_.2.2) 4611686018427387904 (a1,a2,Int.tmod 1 a0)).bind fun u0 =>
some u0
theorem Xv (h:Rx bA bB bC=some bD):cK 130 [ai bA,ai bB,ai bC] (A7 bD):=by
 refine cO Tryz.func130 (Ae (Ab (Aa 5 (rsT 1 ?_))));obtain ⟨g3,h⟩:=Au h;refine rs0 (ai (Int.tmod 1 bA)) (Nm (k:=.i64) (a:=1) (b:=bA) kr kr g3) (rsT 1 (rnW (sqF h (fun u3=>sT [(7,ai u3)] []) ?_ fun u3 h=>Ae (Ac (jS h)))));intro _ h;refine Ad (lpF h (fun (u0,u1,u2)=>sT [(0,ai bA),(1,ai u0),(2,ai u1),(7,ai u2)] []) (Aj []) ?_);rintro n_ ⟨u0,u1,u2⟩ c_ h hn5;refine Ab (Ae (kQ h (fun _ h=>skW (Ab (Ad (sqF h (fun u4=>sT [(0,ai bA),(1,ai u0),(2,ai u1),(7,ai u4)] []) ?_ ?_)))) fun _ h=>lxT (have h:=jO h hn5;jE [])))
 ·intro _ h;refine Ab (Aa 7 (rsT 1 (rs0 (ai (Int.tmod u1 2)) (Nm (k:=.i64) (a:=u1) (b:=2) kr kr (by decide)) (rsT 1 (rnW (kQ h (fun _ h=>Aa 13 (rsT 4 ?_)) fun _ h=>Aw (tn_ (jE []))))))));obtain ⟨g13,h⟩:=Au h;exact rs0 (ai (Int.tmod (wI (u2*u0)) bA)) (Nm (k:=.i64) (a:=wI (u2*u0)) (b:=bA) kr kr g13) (rsT 1 (Ap (tn_ (jE []))))
 intro u4 h;refine Aa 8 (rsT 4 ?_);obtain ⟨g14,h⟩:=Au h;exact rs0 (ai (Int.tmod (wI (u0*u0)) bA)) (Nm (k:=.i64) (a:=wI (u0*u0)) (b:=bA) kr kr g14) (rsT 1 (Ap (bn_ (tn_ (wr_ (Aa 11 (rsT 1 (rs0 (ai (wI (Int.tdiv u1 2))) (An1 (k:=.i64) (a:=u1) (b:=2) kr kr (by decide)) (rsT 1 (Ap (tn_ (jL []))))))))))))
def Vn (a0:Bool):Option Int :=
 cond a0
 (some 1)
 (some 0)
theorem Ab4 (h:Vn cA=some bA):cK 131 [.bool cA] (A7 bA):=by
 exact cO Tryz.func131 (Ae (Ab (Ae (kQ h (fun _ h=>Ae (Ac (tr_ (jS h)))) fun _ h=>skW (Ae (Ac (jS h)))))))
def H4 (a0 a1:Int):Option Int :=
 (Vn (a0==2)).bind fun y3 =>
(Rx a0 a1 (wI (wI (a0 - 2)+y3))).bind fun y4 =>
some y4
theorem Uf (h:H4 bA bB=some bC):cK 129 [ai bA,ai bB] (A7 bC):=by
 exact cO Tryz.func129 (Ae (Ab (Aa 12 (rsT 6 (rcH h Ab4 fun y3 h=>rsT 1 (rcH h Xv fun y4 h=>rsT 1 (rnW (Ac (jS h)))))))))
def Hd (a3:List Int) (a0 a2:Int) (u0:Nat) (u1:List Int):Option (Ctl (Nat×List Int) (List Int)) :=
 cond (decide ((u0:Int)<(a3.length:Int)))
 ((a3[u0]?).bind fun x9 =>
 (u1[u0]?).bind fun x10 =>
 (Nc a0 (wI (x10+wI (a2*x9)))).bind fun y11 =>
 og (u0+1<4611686018427387904) <|
 some (Ctl.next (u0+1,u1.set u0 y11)))
 (some (Ctl.out u1))
def Ep (a0:Int) (a1:List Int) (a2:Int) (a3:List Int):Option (List Int) :=
 Aq (fun s_:Nat×List Int=>Hd a3 a0 a2 s_.1 s_.2) 4611686018427387904 (0,a1)
theorem Mz (h:Ep bA aA bB aB=some aC) {n_a1:Nat} (hn_a1:n_a1=aA.length):Gj Tryz.prog Tab 121 [ai bA,oI 0 0 n_a1,ai bB,tI aB] [(oi 0 0,.arr 3 .int aA)] (.tup []) [(oi 0 0,.arr 3 .int aC)]:=by
 refine Dh kr Tryz.func121 (Ei kr) (n:=31) kr (by simp) rfl kr ⟨trivial,trivial⟩ ⟨trivial,trivial⟩ (Ae (Ad (lpF h (fun (u1,u0)=>sT [(0,ai bA),(1,oI 0 0 u0.length),(2,ai bB),(10,tI aB),(11,an aB.length),(12,an u1)] [(oi 0 0,.arr 3 .int u0)]) ((wL 1 (hn_a1:n_a1=aA.length)).trans (Aj [])) ?_)));rintro n_ ⟨u1,u0⟩ c_ h hn3;refine Ae (Ab (kQ h (fun _ h=>skW (Ab (Ad (Ab (Aa 8 (rsT 1 (riH .int h fun x9 _ h=>rsT 3 (rnW (Aa 22 (rsT 5 ?_)))))))))) fun _ h=>Eu (te_ (te_ (be_ (have h:=jO h hn3;(by obtain rfl:=osj h;exact Jm [] (Aj (tl:=[]) (g:=2) []))))))));obtain ⟨x10,e10,h⟩:=Am h;refine zO (oi 0 0) .int u0.length (An e10) (zE (oi 0 0) e10 (rsT 4 (rcH h Abc fun y11 h=>zO (oi 0 0) .int u0.length (An e10) (zS (oi 0 0) (y11) e10 (Ap (bn_ (tn_ (wr_ (Aa 24 (raH h fun h=>rsT 1 (Ap (tn_ ?_))))))))))));obtain rfl:=zj h;exact jLw hn3 ((wL 1 (((rfl:u0.length=u0.length).trans List.length_set.symm):u0.length=(u0.set u1 y11).length)).trans (Aj []))
def D2 (a0:LL) (u0:Nat) (u1:LL):Option (Ctl (Nat×LL) (LL)) :=
 cond (decide ((u0:Int)<(a0.length:Int)))
 ((a0[u0]?).bind fun x13 =>
 (Hs x13).bind fun y14 =>
 og (u1.length+1<=1073741824/\(u1.length+1)*24<=140737488355328) <|
 og (u0+1<4611686018427387904) <|
 some (Ctl.next (u0+1,u1++[y14])))
 (some (Ctl.out u1))
def Gu (a0:LL):Option (LL) :=
 og (0<=(0:Int)/\(0:Int)<=(a0.length:Int)/\(a0.length:Int)<=1073741824/\(24:Int)*(a0.length:Int)<=140737488355328) <|
(Aq (fun s_:Nat×LL=>D2 a0 s_.1 s_.2) 4611686018427387904 (0,List.replicate 0 ([]:List Int))).bind fun u0 =>
some u0
theorem Ol (h:Gu dA=some dB):Gj Tryz.prog Tab 58 [tS dA] [] (oS 0 1 dB.length) [(oi 0 1,.mat 87 (oi 1 1) .int dB),(oi 1 1,.pool 3 .int dB)]:=by
 refine Dh kr Tryz.func58 (Ei kr) (n:=22) kr (by simp) rfl kr trivial ⟨⟨3,.tail _ (.head _)⟩,⟨trivial,trivial⟩⟩ (Ae (Ab (Aa 6 (rsT 2 ?_))));obtain ⟨g4,h⟩:=Au h;refine Aee (oS 128 4 0) (oi 128 4) 87 3 .int (List.replicate 0 ([]:List Int)) trivial (Zy (j:=0) (k:=.i64) (k':=.i64) (m:=0) (c:=(dA.length:Int)) 3 kr kr g4 kr rfl) kr (by rw [List.length_replicate]) kr (rsT 1 (rnW (sqF h (fun u1=>sT [(3,oS 0 1 u1.length)] [(oi 0 1,.mat 87 (oi 1 1) .int u1),(oi 1 1,.pool 3 .int u1)]) ?_ fun u1 h=>Ae (Ac (by obtain rfl:=osj h;exact Jm [oS 0 1 u1.length] (Aj (tl:=[(2,oS 0 1 u1.length)]) (g:=2) []))))));intro _ h;refine Ae (Ad (lpF h (fun (u2,u0)=>sT [(3,oS 0 1 u0.length),(9,tS dA),(10,an dA.length),(11,an u2)] [(oi 0 1,.mat 87 (oi 1 1) .int u0),(oi 1 1,.pool 3 .int u0)]) ((wL 3 (List.length_replicate.symm:0=(List.replicate 0 ([]:List Int)).length)).trans (Aj [(oi 0 1,oi 128 4),(oi 1 1,oi 128 4)])) ?_));rintro n_ ⟨u2,u0⟩ c_ h hn7;refine Ae (Ab (kQ h (fun _ h=>skW (Ab (Ad (Ab (Aa 6 (riH sI h fun x13 _ h=>rsT 2 (rnW (Aa 12 (rsT 2 (rcH h Px fun y14 h=>Aha (oS 18 9 1) (oi 18 9) (.vec 87 1 1 ([oI 272 8 y14.length])) trivial (Zb kr) ?_)))))))))) fun _ h=>lxT (have h:=jO h hn7;jE [])));obtain ⟨g15,h⟩:=Au h;refine zV (oi 0 1) (oi 18 9) (oi 1 1) u0 [oI 272 8 y14.length] g15 (rsT 1 (Ap (bn_ (tn_ ⟨_,S6 (e1:=87) (e:=3) (u:=.int) (n:=u0.length+1) (len:=y14.length) (row:=y14) (ys:=y14) (xss:=u0) 9000 (oi 0 10) (oi 1 1) (oi 272 8) kr kr rfl kr kr (Agc rfl) (Aft rfl) kr kr kr,Aa 15 (raH h fun h=>rsT 1 (Ap (tn_ ?_)))⟩))));obtain rfl:=zj h;exact jLw hn7 ((wL 3 ((by simp):u0.length+1=(u0++[y14]).length)).trans (Aj [(oi 0 1,oi 0 10),(oi 1 1,oi 9000 12)]))
def Cq (x13:List Int) (u2 a1 y11:Int) (u0:Nat) (u1:LL):Option (Ctl (Nat×LL) (LL)) :=
 cond (decide ((u0:Int)<(x13.length:Int)))
 ((Dn u1 u2).bind fun x20 =>
 og (0<=(u0:Int)/\u0<x13.length) <|
 (x20[u0]?).bind fun x22 =>
 og (a1≠0) <|
 og (u0+1<4611686018427387904) <|
 some (Ctl.next (u0+1,u1.set u2.toNat (x20.set u0 (Int.tmod (wI (x22*y11)) a1)))))
 (some (Ctl.out u1))
def A9 (u2 u0:Int) (u1 u3 a1:Int) (a2:LL):Option (LL) :=
 cond (u2==0)
 ((Dn a2 u1).bind fun x6 =>
 (Dn a2 u0).bind fun x7 =>
 some ((a2.set u0.toNat x6).set u1.toNat x7))
 (cond (u2==1)
  ((H4 a1 u3).bind fun y11 =>
  (Dn a2 u0).bind fun x13 =>
  Aq (fun s_:Nat×LL=>Cq x13 u0 a1 y11 s_.1 s_.2) 4611686018427387904 (0,a2))
  (cond (u2==2)
   ((Dn a2 u0).bind fun x27 =>
   (Dn a2 u1).bind fun x28 =>
   og (u0.toNat≠u1.toNat) <|
   (Ep a1 x27 (wI (0 - u3)) x28).bind fun y30 =>
   og (y30.length=x27.length) <|
   some (a2.set u0.toNat y30))
   (some a2)))
theorem Ft (h:A9 bA bB bC bD bE dA=some dB) {n_a2:Nat} (hn_a2:n_a2=dA.length):Gj Tryz.prog Tab 127 [.agg [ai bA,ai bB,ai bC,ai bD],ai bE,oS 0 0 n_a2] [(oi 0 0,.mat 87 (oi 1 0) .int dA),(oi 1 0,.pool 3 .int dA)] (.tup []) [(oi 0 0,.mat 87 (oi 0 1) .int dB),(oi 0 1,.pool 3 .int dB)]:=by
 refine Dh kr Tryz.func127 (Ei kr) (n:=78) kr (by simp) rfl kr ⟨⟨3,.tail _ (.head _)⟩,⟨trivial,trivial⟩⟩ ⟨⟨3,.tail _ (.head _)⟩,⟨trivial,trivial⟩⟩ (Ae (Ae (Ad (Ae (kQ h (fun _ h=>?_) fun _ h=>?_)))))
 ·refine As 26 (dsT 9 ?_);obtain ⟨x6,f6,h⟩:=Am h;obtain ⟨p6,b6,e6⟩:=A5 f6;refine ds0 (.elt (oi 0 0) bC.toNat 0) (zo (t:=sI) (o:=oi 0 0) (len:=n_a2) (k:=.i64) (m:=bC) p6 (Nat.lt_of_lt_of_le (An e6) (Nat.le_of_eq (Eq.symm hn_a2)))) (dsl (.own (kid (oi 1 0) bC.toNat) .int 0 x6.length) (E2 (o:=oi 0 0) (p:=oi 1 0) (e1:=87) (u:=.int) (xss:=dA) (row:=x6) (j:=bC.toNat) kr kr e6) (dz0 (oS 0 0 n_a2) (dz0 (.box (oi 3 1) 1) (dzl (ai bB) ?_))));obtain ⟨x7,f7,h⟩:=Am h;obtain ⟨p7,b7,e7⟩:=A5 f7;refine ds0 (.elt (oi 0 0) bB.toNat 0) (zo (t:=sI) (o:=oi 0 0) (len:=n_a2) (k:=.i64) (m:=bB) p7 (Nat.lt_of_lt_of_le (An e7) (Nat.le_of_eq (Eq.symm hn_a2)))) (dsl (.own (kid (oi 1 0) bB.toNat) .int 0 x7.length) (E2 (o:=oi 0 0) (p:=oi 1 0) (e1:=87) (u:=.int) (xss:=dA) (row:=x7) (j:=bB.toNat) kr kr e7) (ds0 (.elt (oi 0 0) bB.toNat 0) (zo (t:=sI) (o:=oi 0 0) (len:=n_a2) (k:=.i64) (m:=bB) p7 (Nat.lt_of_lt_of_le (An e7) (Nat.le_of_eq (Eq.symm hn_a2)))) (Pi (oi 0 0) (oi 0 0) (.vec 87 1 n_a2 ((hdL (oi 1 0) .int dA).set bB.toNat (.own (kid (oi 1 0) bC.toNat) .int 0 x6.length))) (Acr (o:=oi 0 0) (e1:=87) (m:=n_a2) (cs:=hdL (oi 1 0) .int dA) (v:=.own (kid (oi 1 0) bC.toNat) .int 0 x6.length) (j:=bB.toNat) kr (Apg kr hn_a2) kr rfl (by rw [Ec];exact An e7)) (ds0 (.elt (oi 0 0) bC.toNat 0) (zo (t:=sI) (o:=oi 0 0) (len:=n_a2) (k:=.i64) (m:=bC) p6 (Nat.lt_of_lt_of_le (An e6) (Nat.le_of_eq (Eq.symm hn_a2)))) (Pi (oi 0 0) (oi 0 0) (.vec 87 1 n_a2 (((hdL (oi 1 0) .int dA).set bB.toNat (.own (kid (oi 1 0) bC.toNat) .int 0 x6.length)).set bC.toNat (.own (kid (oi 1 0) bB.toNat) .int 0 x7.length))) (Acr (o:=oi 0 0) (e1:=87) (m:=n_a2) (cs:=(hdL (oi 1 0) .int dA).set bB.toNat (.own (kid (oi 1 0) bC.toNat) .int 0 x6.length)) (v:=.own (kid (oi 1 0) bB.toNat) .int 0 x7.length) (j:=bC.toNat) kr kr kr rfl (by rw [List.length_set,Ec];exact An e6)) (D6 (A0 kr) (bn_ ?_)))))));obtain rfl:=zj h;exact Jm [] ((U5 (e1:=87) (e:=3) (u:=.int) (xss:=dA) (i:=bB.toNat) (j:=bC.toNat) (n:=n_a2) (li:=x7.length) (lj:=x6.length) (ri:=x7) (rj:=x6) 9000 (oi 0 0) (oi 1 0) kr kr hn_a2 kr e7 e6 rfl rfl kr kr).trans (Aj (tl:=[]) (g:=2) [(oi 0 1,oi 9000 26)]))
 refine Ae (kQ h (fun _ h=>?_) fun _ h=>?_)
 ·refine Ab (Aa 13 (rsT 3 (rcH h Uf fun y11 h=>rsT 1 (rnW (Ab (Aa 20 (rsT 3 ?_)))))));obtain ⟨x13,f13,h⟩:=Am h;obtain ⟨p13,b13,e13⟩:=A5 f13;refine rs0 (.elt (oi 0 0) bB.toNat 0) (zo (t:=sI) (o:=oi 0 0) (len:=n_a2) (k:=.i64) (m:=bB) p13 (Nat.lt_of_lt_of_le (An e13) (Nat.le_of_eq (Eq.symm hn_a2)))) (rsl (.own (kid (oi 1 0) bB.toNat) .int 0 x13.length) (E2 (o:=oi 0 0) (p:=oi 1 0) (e1:=87) (u:=.int) (xss:=dA) (row:=x13) (j:=bB.toNat) kr kr e13) (rsT 2 (rnW (Ad (lpF h (fun (u2,u3)=>sT [(1,ai bE),(2,oS 0 0 u3.length),(3,.box (oi 1 1) 0),(6,ai y11),(41,.own (kid (oi 0 1) bB.toNat) .int 0 x13.length),(42,an x13.length),(43,an u2)] [(oi 0 0,.mat 87 (oi 0 1) .int u3),(oi 0 1,.pool 3 .int u3),(oi 1 1,.cells 154 [ai bA,ai bB,ai bC,ai bD])]) ((wL 2 (hn_a2:n_a2=dA.length)).trans (Aj [(oi 0 1,oi 1 0),(oi 1 1,oi 3 1)])) ?_)))));rintro n_ ⟨u2,u3⟩ c_ h hn14;refine Ae (Ab (kQ h (fun _ h=>skW (Ab (Ad (Ab (Aa 8 (rsT 1 ?_)))))) fun _ h=>Eu (te_ (te_ (be_ (bn_ (have h:=jO h hn14;(by obtain rfl:=osj h;exact Jm [] (Aj (tl:=[]) (g:=2) [])))))))));obtain ⟨x20,f20,h⟩:=Am h;obtain ⟨p20,b20,e20⟩:=A5 f20;obtain ⟨g21,h⟩:=Au h;refine rs0 (.elt (kid (oi 0 1) bB.toNat) u2 0) (Aow (t:=.int) (o:=kid (oi 0 1) bB.toNat) (off:=0) (len:=x13.length) (k:=.i64) (m:=(u2:Int)) kr kr rfl g21.1 (Nat.zero_add _) g21.2) ?_;obtain ⟨x22,e22,h⟩:=Am h;refine rsl (ai x22) (Gg (i:=kid (oi 0 1) bB.toNat) (j:=u2) (k:=0) (e:=3) (t:=.int) (xs:=x20) kr (Be kr e20) e22 kr) (rsT 2 (rnW (As 21 (dz0 (oS 0 0 u3.length) (dz0 (.box (oi 1 1) 1) (dzl (ai bB) (ds0 (.elt (oi 0 0) bB.toNat 0) (zo (t:=sI) (o:=oi 0 0) (len:=u3.length) (k:=.i64) (m:=bB) p20 (An e20)) (dsl (.own (kid (oi 0 1) bB.toNat) .int 0 x20.length) (E2 (o:=oi 0 0) (p:=oi 0 1) (e1:=87) (u:=.int) (xss:=u3) (row:=x20) (j:=bB.toNat) kr kr e20) (dsT 5 ?_)))))))));obtain ⟨g23,h⟩:=Au h;refine ds0 (ai (Int.tmod (wI (x22*y11)) bE)) (Nm (k:=.i64) (a:=wI (x22*y11)) (b:=bE) kr kr g23) (ds0 (.elt (kid (oi 0 1) bB.toNat) u2 0) (zo (t:=.int) (o:=kid (oi 0 1) bB.toNat) (len:=x20.length) (k:=.i64) (m:=(u2:Int)) (Cs _) (An e22)) (Pi (kid (oi 0 1) bB.toNat) (kid (oi 0 1) bB.toNat) (.arr 3 .int (x20.set u2 (Int.tmod (wI (x22*y11)) bE))) (Yn (i:=kid (oi 0 1) bB.toNat) (j:=u2) (k:=0) (e:=3) (t:=.int) (xs:=x20) (cs:=[ai (Int.tmod (wI (x22*y11)) bE)]) (x1:=Int.tmod (wI (x22*y11)) bE) kr (Yh.trans (Be kr e20)) e22 kr kr) (Agb (Aau (o:=oi 0 0) (p:=oi 0 1) (e1:=87) (e:=3) (u:=.int) (xss:=u3) (k:=bB.toNat) (row:=x20) (row':=x20.set u2 (Int.tmod (wI (x22*y11)) bE)) kr rfl kr e20 List.length_set) (D6 (A0 kr) (bn_ (tn_ (wr_ (Aa 23 (raH h fun h=>rsT 1 (Ap (tn_ ?_)))))))))));obtain rfl:=zj h;exact jLw hn14 ((wL 2 ((Eq.trans (b:=u3.length) rfl List.length_set.symm):u3.length=(u3.set bB.toNat (x20.set u2 (Int.tmod (wI (x22*y11)) bE))).length)).trans (Aj []))
 refine Ae (kQ h (fun _ h=>As 25 (dz0 (ai bE) (dz0 (oS 0 0 n_a2) (dz0 (.box (oi 3 1) 1) (dzl (ai bB) ?_))))) fun _ h=>Aw (bn_ (by obtain rfl:=osj h;exact Jm [] (Aj (tl:=[]) (g:=2) [(oi 0 1,oi 1 0)]))));obtain ⟨x27,f27,h⟩:=Am h;obtain ⟨p27,b27,e27⟩:=A5 f27;refine ds0 (.elt (oi 0 0) bB.toNat 0) (zo (t:=sI) (o:=oi 0 0) (len:=n_a2) (k:=.i64) (m:=bB) p27 (Nat.lt_of_lt_of_le (An e27) (Nat.le_of_eq (Eq.symm hn_a2)))) (dsl (.own (kid (oi 1 0) bB.toNat) .int 0 x27.length) (E2 (o:=oi 0 0) (p:=oi 1 0) (e1:=87) (u:=.int) (xss:=dA) (row:=x27) (j:=bB.toNat) kr kr e27) (dsT 6 ?_));obtain ⟨x28,f28,h⟩:=Am h;obtain ⟨p28,b28,e28⟩:=A5 f28;refine ds0 (.elt (oi 0 0) bC.toNat 0) (zo (t:=sI) (o:=oi 0 0) (len:=n_a2) (k:=.i64) (m:=bC) p28 (Nat.lt_of_lt_of_le (An e28) (Nat.le_of_eq (Eq.symm hn_a2)))) (dsl (.own (kid (oi 1 0) bC.toNat) .int 0 x28.length) (E2 (o:=oi 0 0) (p:=oi 1 0) (e1:=87) (u:=.int) (xss:=dA) (row:=x28) (j:=bC.toNat) kr kr e28) ?_);obtain ⟨g29,h⟩:=Au h;obtain ⟨y30,h30,h⟩:=Am h;refine Aix (.tup []) [(kid (oi 1 0) bB.toNat,some (.arr 3 .int y30)),(kid (oi 1 0) bB.toNat,none)] [(oi 0 0,kid (oi 1 0) bB.toNat)] [ai bE,.own (kid (oi 1 0) bB.toNat) .int 0 x27.length,ai (wI (0 - bD)),.own (kid (oi 1 0) bC.toNat) .int 0 x28.length] (caps:=[]) trivial (Mz h30 rfl) kr ⟨Ah8 kr e27,trivial⟩ (.cons (.ren kr) (.cons (.ren kr) (.cons (.ren kr) (.cons (.gnd kr (Qc (e:=3) (u:=.int) (xs:=x28) ((Amz (L:=[kid (oi 1 0) bB.toNat]) kr ⟨Aou g29,trivial⟩).trans ((Zn (Aey (t:=.int) (off:=0) (len:=x28.length) 3 rfl kr)).trans (Be kr e28))) rfl)) .nil)))) (Bq kr kr ⟨.arg (by simp [AV.nmsL,AV.nms,A8]),trivial⟩) (Aop (Aey (t:=.int) (off:=0) (len:=x27.length) 1 rfl kr) Aoj) ?_;obtain ⟨g31,h⟩:=Au h;refine Agb (Aau (o:=oi 0 0) (p:=oi 1 0) (e1:=87) (e:=3) (u:=.int) (xss:=dA) (k:=bB.toNat) (row:=x27) (row':=y30) kr rfl kr e27 g31) (D6 (A0 kr) (bn_ ?_));obtain rfl:=zj h;exact Jm [] (Aj (tl:=[]) (g:=2) [(oi 0 1,oi 1 0)])
def Kk:AC :=
 (.seq (rg [xo 4 (.i (.box 154 (tm 0)))])
 (.seq (.seq (rg [xo 5 (.i (.ld false 4 (tm 4))),xf 6 1 4,xl 7 6,xf 8 1 4,xl 9 8,xo 10 (.build [.int .i64 0,.int .i64 0,.int .i64 0,.int .i64 0] [(0,1,ci 0),(1,1,tm 7),(2,1,tm 9)]),xo 11 (.i (.cmp false 7 (tm 5) (tm 10)))])
 (.cond (tm 11)
  .ret
  .skip))
 (.seq (rg [xo 12 (.i (.ld false 4 (tm 4))),xl 13 1,xl 14 2,xo 15 (qc 127 [tm 12,tm 13,tm 14] [[none,none,none,none],[],[some sI]])])
 (rg [xo 16 (.i (.ld false 4 (tm 4))),xl 17 1,xl 18 3,xo 19 (qc 127 [tm 16,tm 17,tm 18] [[none,none,none,none],[],[some sI]])]))))
def Qk:List Res:=[]
theorem Qb:B2 Tryz.prog Tryz.f126=some (Kk,Qk):=by kernel_rfl
def Bc (u1 u0:Int) (u2 u3 u6:Int) (u4 u5:LL):Option (LL×LL) :=
 cond ([u1,u0,u2,u3]==[0,u0,u0,0])
 (some (u4,u5))
 ((A9 u1 u0 u2 u3 u6 u4).bind fun y7 =>
 og (y7.length=u4.length) <|
 (A9 u1 u0 u2 u3 u6 u5).bind fun y9 =>
 og (y9.length=u5.length) <|
 some (y7,y9))
theorem Gn (h:Bc bA bB bC bD bE dA dB=some eA):Gj Tryz.prog Tab 126 [.agg [ai bA,ai bB,ai bC,ai bD],.box (oi 0 0) 0,.box (oi 1 0) 0,.box (oi 4 0) 0] [(oi 0 0,.cells 3 [ai bE]),(oi 1 0,.cells 26 [oS 2 0 dA.length]),(oi 2 0,.mat 87 (oi 3 0) .int dA),(oi 3 0,.pool 3 .int dA),(oi 4 0,.cells 26 [oS 5 0 dB.length]),(oi 5 0,.mat 87 (oi 6 0) .int dB),(oi 6 0,.pool 3 .int dB)] (.tup []) [(oi 0 0,.cells 3 [ai bE]),(oi 1 0,.cells 26 [oS 2 0 eA.1.length]),(oi 2 0,.mat 87 (oi 0 1) .int eA.1),(oi 0 1,.pool 3 .int eA.1),(oi 4 0,.cells 26 [oS 5 0 eA.2.length]),(oi 5 0,.mat 87 (oi 1 1) .int eA.2),(oi 1 1,.pool 3 .int eA.2)]:=by
 refine Dh kr Tryz.func126 Qb (n:=20) kr (by simp) rfl kr ⟨trivial,⟨trivial,⟨⟨3,.tail _ (.tail _ (.tail _ (.head _)))⟩,⟨trivial,⟨trivial,⟨⟨3,.tail _ (.tail _ (.tail _ (.tail _ (.tail _ (.tail _ (.head _))))))⟩,⟨trivial,trivial⟩⟩⟩⟩⟩⟩⟩ ⟨trivial,⟨trivial,⟨⟨3,.tail _ (.tail _ (.tail _ (.head _)))⟩,⟨trivial,⟨trivial,⟨⟨3,.tail _ (.tail _ (.tail _ (.tail _ (.tail _ (.tail _ (.head _))))))⟩,⟨trivial,trivial⟩⟩⟩⟩⟩⟩⟩ ?_;unfold Kk;refine Ae (Ab (Ae (kQ h (fun _ h=>Ac (tr_ (by obtain rfl:=osj h;exact Jm [] (Aj (tl:=[]) (g:=2) [(oi 0 1,oi 3 0),(oi 1 1,oi 6 0)])))) fun _ h=>skW (Ab (Aa 13 (rsT 3 (rcM h [(oi 0 0,oi 2 0),(oi 1 0,oi 3 0)] [.agg [ai bA,ai bB,ai bC,ai bD],ai bE,oS 2 0 dA.length] (fun h=>Ft h rfl) ⟨kr,⟨kr,trivial⟩⟩ (aR kr) (Bq kr kr ⟨Bw kr,⟨I1 (o:=oi 2 0) (p:=oi 3 0) (e1:=87) (m:=dA.length) (u:=.int) (xss:=dA) (Bw kr) kr,trivial⟩⟩) fun y7 h=>rnW (Aa 17 (rsT 3 ?_)))))))));obtain ⟨g8,h⟩:=Au h;obtain ⟨y9,h9,h⟩:=Am h;refine Ws (.tup []) [(oi 5 0,some (.mat 87 (oi 304 16) .int y9)),(oi 304 16,some (.pool 3 .int y9)),(oi 5 0,none),(oi 6 0,some (.pool 3 .int []))] [(oi 0 0,oi 5 0),(oi 1 0,oi 6 0)] [.agg [ai bA,ai bB,ai bC,ai bD],ai bE,oS 5 0 dB.length] (caps:=[]) trivial (Ft h9 rfl) kr ⟨kr,⟨kr,trivial⟩⟩ (.cons (.ren kr) (.cons (.ren kr) (.cons (.ren kr) .nil))) (Bq kr kr ⟨Bw kr,⟨I1 (o:=oi 5 0) (p:=oi 6 0) (e1:=87) (m:=dB.length) (u:=.int) (xss:=dB) (Bw kr) kr,trivial⟩⟩) (Ap ?_);obtain ⟨g10,h⟩:=Au h;obtain rfl:=zj h;exact Jm [] ((Rq (oi 1 0) (.cells 26 [oS 2 0 dA.length]) (.cells 26 [oS 2 0 y7.length]) kr (congrArg (fun z_=>(.cells 26 [oS 2 0 z_]:Ob)) (g8.symm:dA.length=y7.length))).trans ((Rq (oi 4 0) (.cells 26 [oS 5 0 dB.length]) (.cells 26 [oS 5 0 y9.length]) kr (congrArg (fun z_=>(.cells 26 [oS 5 0 z_]:Ob)) (g10.symm:dB.length=y9.length))).trans (Aj (tl:=[]) (g:=2) [(oi 0 1,oi 240 12),(oi 1 1,oi 304 16)])))
def Cu (l7_p0:LL) (u1 u0:Nat):Option (Ctl Nat Nat) :=
 (cond (decide ((u0:Int)<(l7_p0.length:Int)))
  ((l7_p0[u0]?).bind fun x19 =>
  (x19[u1]?).bind fun x20 =>
  some (x20==0))
  (some false)).bind fun u2 =>
cond u2
 (og (u0+1<4611686018427387904) <|
 some (Ctl.next (u0+1)))
 (some (Ctl.out u0))
def Du (y31:LL×LL) (u1 u2:Nat) (a0:Int) (u0:Nat) (l34_p0 l34_p2:LL):Option (Ctl (Nat×LL×LL) (LL×LL)) :=
 cond (decide ((u0:Int)<(y31.1.length:Int)))
 (((cond ((u0:Int) !=(u1:Int))
       ((l34_p0[u0]?).bind fun x42 =>
       (x42[u2]?).bind fun x43 =>
       some (x43 !=0))
       (some false)).bind fun u3 =>
  cond u3
   ((l34_p0[u0]?).bind fun x45 =>
   (x45[u2]?).bind fun x46 =>
   (Bc 2 (u0:Int) (u1:Int) x46 a0 l34_p0 l34_p2).bind fun y47 =>
   some (y47.1,y47.2))
   (some (l34_p0,l34_p2))).bind fun (l38_p0,l38_p2) =>
 og (u0+1<4611686018427387904) <|
 some (Ctl.next (u0+1,l38_p0,l38_p2)))
 (some (Ctl.out (l34_p0,l34_p2)))
def B5 (a2 a0:Int) (u0 u1:Nat) (l7_p0 l7_p2:LL):Option (Ctl (Nat×Nat×LL×LL) (Nat×LL×LL)) :=
 (cond (decide ((u1:Int)<a2))
  (some (decide ((u0:Int)<(l7_p0.length:Int))))
  (some false)).bind fun u3 =>
cond u3
 (((Aq (fun s_:Nat=>Cu l7_p0 u1 s_) 4611686018427387904 u0).bind fun u2 =>
  cond ((u2:Int)==(l7_p0.length:Int))
   (some (u0,l7_p0,l7_p2))
   ((Bc 0 (u0:Int) (u2:Int) 0 a0 l7_p0 l7_p2).bind fun y27 =>
   (y27.1[u0]?).bind fun x29 =>
   (x29[u1]?).bind fun x30 =>
   (Bc 1 (u0:Int) 0 x30 a0 y27.1 y27.2).bind fun y31 =>
   (Aq (fun s_:Nat×LL×LL=>Du y31 u0 u1 a0 s_.1 s_.2.1 s_.2.2) 4611686018427387904 (0,y31.1,y31.2)).bind fun (l32_p0,l32_p2) =>
   og (u0+1<4611686018427387904) <|
   some (u0+1,l32_p0,l32_p2))).bind fun (u4,l12_p0,l12_p2) =>
 og (u1+1<4611686018427387904) <|
 some (Ctl.next (u4,u1+1,l12_p0,l12_p2)))
 (some (Ctl.out (u0,l7_p0,l7_p2)))
def Ga (a0:Int) (a1:LL) (a2:Int) (a3:LL):Option (LL×LL×Nat) :=
 (Aq (fun s_:Nat×Nat×LL×LL=>B5 a2 a0 s_.1 s_.2.1 s_.2.2.1 s_.2.2.2) 4611686018427387904 (0,0,a1,a3)).bind fun (u0,l5_p0,l5_p2) =>
some (l5_p0,l5_p2,u0)
theorem Rn (h:Ga bA dA bB dB=some fA) {n_a1:Nat} (hn_a1:n_a1=dA.length) {n_a3:Nat} (hn_a3:n_a3=dB.length):Gj Tryz.prog Tab 118 [ai bA,oS 0 0 n_a1,ai bB,oS 2 0 n_a3] [(oi 0 0,.mat 87 (oi 1 0) .int dA),(oi 1 0,.pool 3 .int dA),(oi 2 0,.mat 87 (oi 3 0) .int dB),(oi 3 0,.pool 3 .int dB)] (an fA.2.2) [(oi 0 0,.mat 87 (oi 0 1) .int fA.1),(oi 0 1,.pool 3 .int fA.1),(oi 2 0,.mat 87 (oi 1 1) .int fA.2.1),(oi 1 1,.pool 3 .int fA.2.1)]:=by
 refine Dh kr Tryz.func118 (Ei kr) (n:=97) kr (by simp) rfl kr ⟨⟨3,.tail _ (.head _)⟩,⟨trivial,⟨⟨3,.tail _ (.tail _ (.tail _ (.head _)))⟩,⟨trivial,trivial⟩⟩⟩⟩ ⟨⟨3,.tail _ (.head _)⟩,⟨trivial,⟨⟨3,.tail _ (.tail _ (.tail _ (.head _)))⟩,⟨trivial,trivial⟩⟩⟩⟩ (Ae (Ae (Ae (sqF h (fun (u4,l5_p0,l5_p2)=>sT [(9,an u4)] [(oi 0 0,.mat 87 (oi 0 1) .int l5_p0),(oi 0 1,.pool 3 .int l5_p0),(oi 2 0,.mat 87 (oi 1 1) .int l5_p2),(oi 1 1,.pool 3 .int l5_p2)]) ?_ ?_))))
 ·intro _ h;refine Ae (Ad (lpF h (fun (u1,u0,l7_p0,l7_p2)=>sT [(2,ai bB),(5,.box (oi 0 1) 0),(9,an u1),(10,.fn 126 [.box (oi 1 1) 0,.box (oi 0 1) 0,.box (oi 2 1) 0]),(11,an u0)] [(oi 0 1,.cells 26 [oS 0 0 l7_p0.length]),(oi 1 1,.cells 3 [ai bA]),(oi 2 1,.cells 26 [oS 2 0 l7_p2.length]),(oi 0 0,.mat 87 (oi 3 1) .int l7_p0),(oi 3 1,.pool 3 .int l7_p0),(oi 2 0,.mat 87 (oi 4 1) .int l7_p2),(oi 4 1,.pool 3 .int l7_p2)]) ((Rq (oi 5 2) (.cells 26 [oS 0 0 n_a1]) (.cells 26 [oS 0 0 dA.length]) kr (congrArg (fun z_=>(.cells 26 [oS 0 0 z_]:Ob)) (hn_a1:n_a1=dA.length))).trans ((Rq (oi 7 3) (.cells 26 [oS 2 0 n_a3]) (.cells 26 [oS 2 0 dB.length]) kr (congrArg (fun z_=>(.cells 26 [oS 2 0 z_]:Ob)) (hn_a3:n_a3=dB.length))).trans (Aj [(oi 0 1,oi 5 2),(oi 3 1,oi 1 0),(oi 1 1,oi 4 1),(oi 2 1,oi 7 3),(oi 4 1,oi 3 0)]))) ?_));rintro n_ ⟨u1,u0,l7_p0,l7_p2⟩ c_ h hn7;refine Ab (sqF h (fun u6=>sT [(2,ai bB),(5,.box (oi 0 1) 0),(9,an u1),(10,.fn 126 [.box (oi 1 1) 0,.box (oi 0 1) 0,.box (oi 2 1) 0]),(11,an u0),(23,.bool u6)] [(oi 0 1,.cells 26 [oS 0 0 l7_p0.length]),(oi 1 1,.cells 3 [ai bA]),(oi 2 1,.cells 26 [oS 2 0 l7_p2.length]),(oi 0 0,.mat 87 (oi 3 1) .int l7_p0),(oi 3 1,.pool 3 .int l7_p0),(oi 2 0,.mat 87 (oi 4 1) .int l7_p2),(oi 4 1,.pool 3 .int l7_p2)]) (fun _ h=>Aa 11 (rsT 4 (kR h 18 (fun _ h=>rsT 5 (Ap (tn_ (jE [])))) fun _ h=>rsT 5 (Ap (tn_ (jE [])))))) ?_);intro u6 h;refine kQ h (fun _ h=>skW (sqF h (fun (u7,l12_p0,l12_p2)=>sT [(2,ai bB),(5,.box (oi 0 1) 0),(9,an u7),(10,.fn 126 [.box (oi 1 1) 0,.box (oi 0 1) 0,.box (oi 2 1) 0]),(11,an u0)] [(oi 0 1,.cells 26 [oS 0 0 l12_p0.length]),(oi 1 1,.cells 3 [ai bA]),(oi 2 1,.cells 26 [oS 2 0 l12_p2.length]),(oi 0 0,.mat 87 (oi 3 1) .int l12_p0),(oi 3 1,.pool 3 .int l12_p0),(oi 2 0,.mat 87 (oi 4 1) .int l12_p2),(oi 4 1,.pool 3 .int l12_p2)]) ?_ ?_)) fun _ h=>lxT (have h:=jO h hn7;jE [(oi 0 1,oi 3 1),(oi 1 1,oi 4 1)])
  ·intro _ h;refine Ad (Ae (sqF h (fun u5=>sT [(2,ai bB),(5,.box (oi 0 1) 0),(9,an u1),(10,.fn 126 [.box (oi 1 1) 0,.box (oi 0 1) 0,.box (oi 2 1) 0]),(11,an u0),(12,an u5)] [(oi 0 1,.cells 26 [oS 0 0 l7_p0.length]),(oi 1 1,.cells 3 [ai bA]),(oi 2 1,.cells 26 [oS 2 0 l7_p2.length]),(oi 0 0,.mat 87 (oi 3 1) .int l7_p0),(oi 3 1,.pool 3 .int l7_p0),(oi 2 0,.mat 87 (oi 4 1) .int l7_p2),(oi 4 1,.pool 3 .int l7_p2)]) ?_ ?_))
   ·intro _ h;refine Ad (lpF h (fun u3=>sT [(2,ai bB),(5,.box (oi 0 1) 0),(9,an u1),(10,.fn 126 [.box (oi 1 1) 0,.box (oi 0 1) 0,.box (oi 2 1) 0]),(11,an u0),(12,an u3)] [(oi 0 1,.cells 26 [oS 0 0 l7_p0.length]),(oi 1 1,.cells 3 [ai bA]),(oi 2 1,.cells 26 [oS 2 0 l7_p2.length]),(oi 0 0,.mat 87 (oi 3 1) .int l7_p0),(oi 3 1,.pool 3 .int l7_p0),(oi 2 0,.mat 87 (oi 4 1) .int l7_p2),(oi 4 1,.pool 3 .int l7_p2)]) (Aj []) ?_);intro n_ u3 c_ h hn15;refine Ab (sqF h (fun u8=>sT [(2,ai bB),(5,.box (oi 0 1) 0),(9,an u1),(10,.fn 126 [.box (oi 1 1) 0,.box (oi 0 1) 0,.box (oi 2 1) 0]),(11,an u0),(12,an u3),(40,.bool u8)] [(oi 0 1,.cells 26 [oS 0 0 l7_p0.length]),(oi 1 1,.cells 3 [ai bA]),(oi 2 1,.cells 26 [oS 2 0 l7_p2.length]),(oi 0 0,.mat 87 (oi 3 1) .int l7_p0),(oi 3 1,.pool 3 .int l7_p0),(oi 2 0,.mat 87 (oi 4 1) .int l7_p2),(oi 4 1,.pool 3 .int l7_p2)]) ?_ fun u8 h=>kQ h (fun _ h=>skW (Ad (Aa 5 (rsT 1 (raH h fun h=>rsT 1 (Ap (bn_ (tn_ (jL []))))))))) fun _ h=>lxT (have h:=jO h hn15;jE []));intro _ h;refine Aa 16 (rsT 5 ?_);rcases Ax h with ⟨q18,h⟩|⟨q18,h⟩
    ·refine rq 31 q18 (rsT 2 ?_);obtain ⟨x19,e19,h⟩:=Am h;refine zO (oi 0 0) sI l7_p0.length (An e19) (rsl (.own (kid (oi 3 1) u3) .int 0 x19.length) (E2 (o:=oi 0 0) (p:=oi 3 1) (e1:=87) (u:=.int) (xss:=l7_p0) (row:=x19) (j:=u3) kr kr e19) (rsT 1 ?_));obtain ⟨x20,e20,h⟩:=Am h;exact rs0 (.elt (kid (oi 3 1) u3) u0 0) (zo (t:=.int) (o:=kid (oi 3 1) u3) (len:=x19.length) (k:=.i64) (m:=(u0:Int)) (Cs _) (An e20)) (rsl (ai x20) (Gg (i:=kid (oi 3 1) u3) (j:=u0) (k:=0) (e:=3) (t:=.int) (xs:=x19) kr (Be kr e19) e20 kr) (rsT 2 (Ap (tn_ (jE [])))))
    exact rq 31 q18 (rsT 9 (Ap (tn_ (jE []))))
   intro u5 h;refine Ab (Ae (kQ h (fun _ h=>Eu (te_ (be_ (tn_ (jE []))))) fun _ h=>skW (Ab (Aa 11 (rsT 4 ?_)))));obtain ⟨y27,h27,h⟩:=Am h;refine Ws (.tup []) [(oi 1 1,some (.cells 3 [ai bA])),(oi 0 1,some (.cells 26 [oS 0 0 y27.1.length])),(oi 0 0,some (.mat 87 (oi 816 10) .int y27.1)),(oi 816 10,some (.pool 3 .int y27.1)),(oi 2 1,some (.cells 26 [oS 2 0 y27.2.length])),(oi 2 0,some (.mat 87 (oi 817 10) .int y27.2)),(oi 817 10,some (.pool 3 .int y27.2)),(oi 1 1,none),(oi 0 1,none),(oi 0 0,none),(oi 3 1,some (.pool 3 .int [])),(oi 2 1,none),(oi 2 0,none),(oi 4 1,some (.pool 3 .int []))] [(oi 0 0,oi 1 1),(oi 1 0,oi 0 1),(oi 2 0,oi 0 0),(oi 3 0,oi 3 1),(oi 4 0,oi 2 1),(oi 5 0,oi 2 0),(oi 6 0,oi 4 1)] [.agg [ai 0,an u1,an u5,ai 0],.box (oi 1 1) 0,.box (oi 0 1) 0,.box (oi 2 1) 0] (caps:=[.box (oi 1 1) 0,.box (oi 0 1) 0,.box (oi 2 1) 0]) trivial (Gn h27) kr ⟨kr,⟨kr,⟨kr,⟨kr,⟨kr,⟨kr,⟨kr,trivial⟩⟩⟩⟩⟩⟩⟩ (.cons (.ren kr) (.cons (.ren kr) (.cons (.ren kr) (.cons (.ren kr) .nil)))) (Bq kr kr ⟨Bw kr,⟨Bw kr,⟨En (k:=oi 0 1) (ty:=26) (cs:=[oS 0 0 l7_p0.length]) (Bw kr) kr kr,⟨I1 (o:=oi 0 0) (p:=oi 3 1) (e1:=87) (m:=l7_p0.length) (u:=.int) (xss:=l7_p0) (En (k:=oi 0 1) (ty:=26) (cs:=[oS 0 0 l7_p0.length]) (Bw kr) kr kr) kr,⟨Bw kr,⟨En (k:=oi 2 1) (ty:=26) (cs:=[oS 2 0 l7_p2.length]) (Bw kr) kr kr,⟨I1 (o:=oi 2 0) (p:=oi 4 1) (e1:=87) (m:=l7_p2.length) (u:=.int) (xss:=l7_p2) (En (k:=oi 2 1) (ty:=26) (cs:=[oS 2 0 l7_p2.length]) (Bw kr) kr kr) kr,trivial⟩⟩⟩⟩⟩⟩⟩) (rnW (Ab (Aa 22 (rsT 4 ?_))));obtain ⟨x29,e29,h⟩:=Am h;refine zO (oi 0 0) sI y27.1.length (An e29) (rsl (.own (kid (oi 816 10) u1) .int 0 x29.length) (E2 (o:=oi 0 0) (p:=oi 816 10) (e1:=87) (u:=.int) (xss:=y27.1) (row:=x29) (j:=u1) kr kr e29) (rsT 1 ?_));obtain ⟨x30,e30,h⟩:=Am h;refine rs0 (.elt (kid (oi 816 10) u1) u0 0) (zo (t:=.int) (o:=kid (oi 816 10) u1) (len:=x29.length) (k:=.i64) (m:=(u0:Int)) (Cs _) (An e30)) (rsl (ai x30) (Gg (i:=kid (oi 816 10) u1) (j:=u0) (k:=0) (e:=3) (t:=.int) (xs:=x29) kr (Be kr e29) e30 kr) (rsT 1 ?_));obtain ⟨y31,h31,h⟩:=Am h;refine Ws (.tup []) [(oi 1 1,some (.cells 3 [ai bA])),(oi 0 1,some (.cells 26 [oS 0 0 y31.1.length])),(oi 0 0,some (.mat 87 (oi 992 21) .int y31.1)),(oi 992 21,some (.pool 3 .int y31.1)),(oi 2 1,some (.cells 26 [oS 2 0 y31.2.length])),(oi 2 0,some (.mat 87 (oi 993 21) .int y31.2)),(oi 993 21,some (.pool 3 .int y31.2)),(oi 1 1,none),(oi 0 1,none),(oi 0 0,none),(oi 816 10,some (.pool 3 .int [])),(oi 2 1,none),(oi 2 0,none),(oi 817 10,some (.pool 3 .int []))] [(oi 0 0,oi 1 1),(oi 1 0,oi 0 1),(oi 2 0,oi 0 0),(oi 3 0,oi 816 10),(oi 4 0,oi 2 1),(oi 5 0,oi 2 0),(oi 6 0,oi 817 10)] [.agg [ai 1,an u1,ai 0,ai x30],.box (oi 1 1) 0,.box (oi 0 1) 0,.box (oi 2 1) 0] (caps:=[.box (oi 1 1) 0,.box (oi 0 1) 0,.box (oi 2 1) 0]) trivial (Gn h31) kr ⟨kr,⟨kr,⟨kr,⟨kr,⟨kr,⟨kr,⟨kr,trivial⟩⟩⟩⟩⟩⟩⟩ (.cons (.ren kr) (.cons (.ren kr) (.cons (.ren kr) (.cons (.ren kr) .nil)))) (Bq kr kr ⟨Bw kr,⟨Bw kr,⟨En (k:=oi 0 1) (ty:=26) (cs:=[oS 0 0 y27.1.length]) (Bw kr) kr kr,⟨I1 (o:=oi 0 0) (p:=oi 816 10) (e1:=87) (m:=y27.1.length) (u:=.int) (xss:=y27.1) (En (k:=oi 0 1) (ty:=26) (cs:=[oS 0 0 y27.1.length]) (Bw kr) kr kr) kr,⟨Bw kr,⟨En (k:=oi 2 1) (ty:=26) (cs:=[oS 2 0 y27.2.length]) (Bw kr) kr kr,⟨I1 (o:=oi 2 0) (p:=oi 817 10) (e1:=87) (m:=y27.2.length) (u:=.int) (xss:=y27.2) (En (k:=oi 2 1) (ty:=26) (cs:=[oS 2 0 y27.2.length]) (Bw kr) kr kr) kr,trivial⟩⟩⟩⟩⟩⟩⟩) (rnW (sqF h (fun (l32_p0,l32_p2)=>sT [(2,ai bB),(5,.box (oi 0 1) 0),(9,an u1),(10,.fn 126 [.box (oi 1 1) 0,.box (oi 0 1) 0,.box (oi 2 1) 0]),(11,an u0)] [(oi 0 1,.cells 26 [oS 0 0 l32_p0.length]),(oi 1 1,.cells 3 [ai bA]),(oi 2 1,.cells 26 [oS 2 0 l32_p2.length]),(oi 0 0,.mat 87 (oi 3 1) .int l32_p0),(oi 3 1,.pool 3 .int l32_p0),(oi 2 0,.mat 87 (oi 4 1) .int l32_p2),(oi 4 1,.pool 3 .int l32_p2)]) ?_ ?_))
   ·intro _ h;refine Ae (Ad (lpF h (fun (u2,l34_p0,l34_p2)=>sT [(2,ai bB),(5,.box (oi 0 1) 0),(9,an u1),(10,.fn 126 [.box (oi 1 1) 0,.box (oi 0 1) 0,.box (oi 2 1) 0]),(11,an u0),(64,an y31.1.length),(65,an u2)] [(oi 0 1,.cells 26 [oS 0 0 l34_p0.length]),(oi 1 1,.cells 3 [ai bA]),(oi 2 1,.cells 26 [oS 2 0 l34_p2.length]),(oi 0 0,.mat 87 (oi 3 1) .int l34_p0),(oi 3 1,.pool 3 .int l34_p0),(oi 2 0,.mat 87 (oi 4 1) .int l34_p2),(oi 4 1,.pool 3 .int l34_p2)]) (Aj [(oi 3 1,oi 992 21),(oi 4 1,oi 993 21)]) ?_));rintro n_ ⟨u2,l34_p0,l34_p2⟩ c_ h hn34;refine Ae (Ab (kQ h (fun _ h=>skW (sqF h (fun (l38_p0,l38_p2)=>sT [(2,ai bB),(5,.box (oi 0 1) 0),(9,an u1),(10,.fn 126 [.box (oi 1 1) 0,.box (oi 0 1) 0,.box (oi 2 1) 0]),(11,an u0),(64,an y31.1.length),(65,an u2)] [(oi 0 1,.cells 26 [oS 0 0 l38_p0.length]),(oi 1 1,.cells 3 [ai bA]),(oi 2 1,.cells 26 [oS 2 0 l38_p2.length]),(oi 0 0,.mat 87 (oi 3 1) .int l38_p0),(oi 3 1,.pool 3 .int l38_p0),(oi 2 0,.mat 87 (oi 4 1) .int l38_p2),(oi 4 1,.pool 3 .int l38_p2)]) ?_ ?_)) fun _ h=>lxT (have h:=jO h hn34;jE [])))
    ·intro _ h;refine Ad (Ae (sqF h (fun u9=>sT [(2,ai bB),(5,.box (oi 0 1) 0),(9,an u1),(10,.fn 126 [.box (oi 1 1) 0,.box (oi 0 1) 0,.box (oi 2 1) 0]),(11,an u0),(13,an u2),(64,an y31.1.length),(65,an u2),(80,.bool u9)] [(oi 0 1,.cells 26 [oS 0 0 l34_p0.length]),(oi 1 1,.cells 3 [ai bA]),(oi 2 1,.cells 26 [oS 2 0 l34_p2.length]),(oi 0 0,.mat 87 (oi 3 1) .int l34_p0),(oi 3 1,.pool 3 .int l34_p0),(oi 2 0,.mat 87 (oi 4 1) .int l34_p2),(oi 4 1,.pool 3 .int l34_p2)]) ?_ ?_))
     ·intro _ h;refine Aa 18 (rsT 4 ?_);rcases Ax h with ⟨q41,h⟩|⟨q41,h⟩
      ·refine rq 71 q41 (rsT 2 ?_);obtain ⟨x42,e42,h⟩:=Am h;refine zO (oi 0 0) sI l34_p0.length (An e42) (rsl (.own (kid (oi 3 1) u2) .int 0 x42.length) (E2 (o:=oi 0 0) (p:=oi 3 1) (e1:=87) (u:=.int) (xss:=l34_p0) (row:=x42) (j:=u2) kr kr e42) (rsT 1 ?_));obtain ⟨x43,e43,h⟩:=Am h;exact rs0 (.elt (kid (oi 3 1) u2) u0 0) (zo (t:=.int) (o:=kid (oi 3 1) u2) (len:=x42.length) (k:=.i64) (m:=(u0:Int)) (Cs _) (An e43)) (rsl (ai x43) (Gg (i:=kid (oi 3 1) u2) (j:=u0) (k:=0) (e:=3) (t:=.int) (xs:=x42) kr (Be kr e42) e43 kr) (rsT 2 (Ap (tn_ (jE [])))))
      exact rq 71 q41 (rsT 9 (Ap (tn_ (jE []))))
     intro u9 h;refine kQ h (fun _ h=>Aa 14 (rsT 5 ?_)) fun _ h=>Aw (bn_ (tn_ (jE [])))
     obtain ⟨x45,e45,h⟩:=Am h;refine zO (oi 0 0) sI l34_p0.length (An e45) (rsl (.own (kid (oi 3 1) u2) .int 0 x45.length) (E2 (o:=oi 0 0) (p:=oi 3 1) (e1:=87) (u:=.int) (xss:=l34_p0) (row:=x45) (j:=u2) kr kr e45) (rsT 1 ?_));obtain ⟨x46,e46,h⟩:=Am h;refine rs0 (.elt (kid (oi 3 1) u2) u0 0) (zo (t:=.int) (o:=kid (oi 3 1) u2) (len:=x45.length) (k:=.i64) (m:=(u0:Int)) (Cs _) (An e46)) (rsl (ai x46) (Gg (i:=kid (oi 3 1) u2) (j:=u0) (k:=0) (e:=3) (t:=.int) (xs:=x45) kr (Be kr e45) e46 kr) (rsT 1 ?_));obtain ⟨y47,h47,h⟩:=Am h;exact Ws (.tup []) [(oi 1 1,some (.cells 3 [ai bA])),(oi 0 1,some (.cells 26 [oS 0 0 y47.1.length])),(oi 0 0,some (.mat 87 (oi 1472 13) .int y47.1)),(oi 1472 13,some (.pool 3 .int y47.1)),(oi 2 1,some (.cells 26 [oS 2 0 y47.2.length])),(oi 2 0,some (.mat 87 (oi 1473 13) .int y47.2)),(oi 1473 13,some (.pool 3 .int y47.2)),(oi 1 1,none),(oi 0 1,none),(oi 0 0,none),(oi 3 1,some (.pool 3 .int [])),(oi 2 1,none),(oi 2 0,none),(oi 4 1,some (.pool 3 .int []))] [(oi 0 0,oi 1 1),(oi 1 0,oi 0 1),(oi 2 0,oi 0 0),(oi 3 0,oi 3 1),(oi 4 0,oi 2 1),(oi 5 0,oi 2 0),(oi 6 0,oi 4 1)] [.agg [ai 2,an u2,an u1,ai x46],.box (oi 1 1) 0,.box (oi 0 1) 0,.box (oi 2 1) 0] (caps:=[.box (oi 1 1) 0,.box (oi 0 1) 0,.box (oi 2 1) 0]) trivial (Gn h47) kr ⟨kr,⟨kr,⟨kr,⟨kr,⟨kr,⟨kr,⟨kr,trivial⟩⟩⟩⟩⟩⟩⟩ (.cons (.ren kr) (.cons (.ren kr) (.cons (.ren kr) (.cons (.ren kr) .nil)))) (Bq kr kr ⟨Bw kr,⟨Bw kr,⟨En (k:=oi 0 1) (ty:=26) (cs:=[oS 0 0 l34_p0.length]) (Bw kr) kr kr,⟨I1 (o:=oi 0 0) (p:=oi 3 1) (e1:=87) (m:=l34_p0.length) (u:=.int) (xss:=l34_p0) (En (k:=oi 0 1) (ty:=26) (cs:=[oS 0 0 l34_p0.length]) (Bw kr) kr kr) kr,⟨Bw kr,⟨En (k:=oi 2 1) (ty:=26) (cs:=[oS 2 0 l34_p2.length]) (Bw kr) kr kr,⟨I1 (o:=oi 2 0) (p:=oi 4 1) (e1:=87) (m:=l34_p2.length) (u:=.int) (xss:=l34_p2) (En (k:=oi 2 1) (ty:=26) (cs:=[oS 2 0 l34_p2.length]) (Bw kr) kr kr) kr,trivial⟩⟩⟩⟩⟩⟩⟩) (Ap (bn_ (tn_ (jE [(oi 3 1,oi 1472 13),(oi 4 1,oi 1473 13)]))))
    rintro ⟨l38_p0,l38_p2⟩ h;exact Aa 4 (raH h fun h=>rsT 1 (Ap (tn_ (jL []))))
   rintro ⟨l32_p0,l32_p2⟩ h;exact Aa 5 (rsT 1 (raH h fun h=>rsT 1 (Ap (bn_ (tn_ (jE []))))))
  rintro ⟨u7,l12_p0,l12_p2⟩ h;exact Aa 5 (rsT 1 (raH h fun h=>rsT 1 (Ap (tn_ (jL [])))))
 rintro ⟨u4,l5_p0,l5_p2⟩ h;refine Ae (Ac ?_);obtain rfl:=zj h;exact Jm [an u4] (Aj (tl:=[(8,an u4)]) (g:=2) [])
end


section
open Go.RowKit Go.Deep
set_option maxRecDepth 4000
set_option maxHeartbeats 4800000
variable {dA dB:LL} {bA bB bC bD:Int} {cA:Bool} {aA aB:List Int}
def Fg (a0:LL) (u1:Int) (u0:Nat):Option (Ctl (Int×Nat) (Ctl Int Int)) :=
 cond (decide ((u0:Int)<(a0.length:Int)))
 ((a0[u0]?).bind fun x15 =>
 (Iw x15 u1).bind fun y16 =>
 cond (decide (y16<0))
  (some (Ctl.out (Ctl.out (-1))))
  (og (u0+1<4611686018427387904) <|
  some (Ctl.next (y16,u0+1))))
 (some (Ctl.out (Ctl.next u1)))
def Hu (a0:LL) (a1:Int):Option Int :=
 cond (decide (wI (a1 - (a0.length:Int))<0))
 (some (-1))
 (Ce (Aq (fun s_:Int×Nat=>Fg a0 s_.1 s_.2) 4611686018427387904 (wI (a1 - (a0.length:Int)),0)) fun u0 =>
 some u0)
theorem T2 (h:Hu dA bA=some bB):cK 39 [tS dA,ai bA] (A7 bB):=by
 refine cO Tryz.func39 (Ae (Ae (Ab (Ae (kQ h (fun _ h=>Ae (Ac (tr_ (jS h)))) fun _ h=>skW (sqC h (fun u0=>sT [(1,ai u0)] []) ?_ fun u0 h=>Ae (Ac (jS h))))))));intro _ h hk7;refine Ae (Ad (lpF h (fun (u1,u2)=>sT [(0,tS dA),(1,ai u1),(5,an u2)] []) (Aj []) ?_));rintro n_ ⟨u1,u2⟩ c_ h hn9;exact Ab (Ae (kQ h (fun _ h=>skW (Ab (Ad (Ab (Aa 13 (rsT 2 (riH sI h fun x15 _ h=>rsT 2 (rcH h W9 fun y16 h=>rsT 1 (rnW (Ae (kQ h (fun _ h=>Ae (Ac (br_ (tr_ (tr_ (br_ (tr_ (have h:=jO h hn9;(have h:=jO h hk7;jS h))))))))) fun _ h=>Aw (bn_ (tn_ (wr_ (Aa 18 (rsT 1 (raH h fun h=>rsT 1 (Ap (tn_ (jL [])))))))))))))))))))) fun _ h=>lxT (have h:=jO h hn9;jC [])))
def E1 (a0:LL) (u0:Nat) (u1:LL):Option (Ctl (Nat×LL) (LL)) :=
 cond (decide ((u0:Int)<(a0.length:Int)))
 ((a0[u0]?).bind fun x12 =>
 (Iq x12).bind fun y13 =>
 (u1[u0]?).bind fun x14 =>
 og (u0+1<4611686018427387904) <|
 some (Ctl.next (u0+1,u1.set u0 y13)))
 (some (Ctl.out u1))
def Hm (a0:LL):Option (LL) :=
 og (0<=(a0.length:Int)/\(a0.length:Int)<=(a0.length:Int)/\(a0.length:Int)<=1073741824/\(24:Int)*(a0.length:Int)<=140737488355328) <|
(Aq (fun s_:Nat×LL=>E1 a0 s_.1 s_.2) 4611686018427387904 (0,List.replicate a0.length ([]:List Int))).bind fun u0 =>
some u0
theorem T8 (h:Hm dA=some dB):Gj Tryz.prog Tab 50 [tS dA] [] (oS 0 1 dB.length) [(oi 0 1,.mat 87 (oi 1 1) .int dB),(oi 1 1,.pool 3 .int dB)]:=by
 refine Dh kr Tryz.func50 (Ei kr) (n:=23) kr (by simp) rfl kr trivial ⟨⟨3,.tail _ (.head _)⟩,⟨trivial,trivial⟩⟩ (Ae (Ab (Aa 6 (rsT 2 ?_))));obtain ⟨g4,h⟩:=Au h;refine Aee (oS 112 4 dA.length) (oi 112 4) 87 3 .int (List.replicate dA.length ([]:List Int)) trivial (Zy (j:=dA.length) (k:=.i64) (k':=.i64) (m:=(dA.length:Int)) (c:=(dA.length:Int)) 3 kr kr g4 kr rfl) kr (by rw [List.length_replicate]) kr (rsT 1 (rnW (sqF h (fun u1=>sT [(3,oS 0 1 u1.length)] [(oi 0 1,.mat 87 (oi 1 1) .int u1),(oi 1 1,.pool 3 .int u1)]) ?_ fun u1 h=>Ae (Ac (by obtain rfl:=osj h;exact Jm [oS 0 1 u1.length] (Aj (tl:=[(2,oS 0 1 u1.length)]) (g:=2) []))))));intro _ h;refine Ae (Ad (lpF h (fun (u2,u0)=>sT [(0,tS dA),(3,oS 0 1 u0.length),(4,an u2)] [(oi 0 1,.mat 87 (oi 1 1) .int u0),(oi 1 1,.pool 3 .int u0)]) ((wL 3 (List.length_replicate.symm:dA.length=(List.replicate dA.length ([]:List Int)).length)).trans (Aj [(oi 0 1,oi 112 4),(oi 1 1,oi 112 4)])) ?_));rintro n_ ⟨u2,u0⟩ c_ h hn7;refine Ab (Ae (kQ h (fun _ h=>skW (Ab (Ad (Aa 15 (rsT 4 (riH sI h fun x12 _ h=>rsT 1 (rcH h Wj fun y13 h=>?_))))))) fun _ h=>lxT (have h:=jO h hn7;jE [])));obtain ⟨x14,e14,h⟩:=Am h;refine zO (oi 0 1) sI u0.length (An e14) (Ae0 (oi 0 1) (oi 0 1) (.vec 87 1 u0.length ((hdL (oi 1 1) .int u0).set u2 (oI 320 12 y13.length))) (Acr (o:=oi 0 1) (e1:=87) (m:=u0.length) (cs:=hdL (oi 1 1) .int u0) (v:=oI 320 12 y13.length) (j:=u2) kr kr kr rfl (by rw [Ec];exact An e14)) (Ap (bn_ (tn_ ⟨_,Ah2 (e1:=87) (e:=3) (u:=.int) (n:=u0.length) (len:=y13.length) (row:=y13) (ys:=y13) (xss:=u0) (j:=u2) 9000 (oi 0 1) (oi 1 1) (oi 320 12) kr kr rfl kr kr (Agc rfl) (Aft rfl) kr kr kr,Aa 19 (rsT 1 (raH h fun h=>rsT 1 (Ap (tn_ ?_))))⟩))));obtain rfl:=zj h;exact jLw hn7 ((wL 3 ((Eq.trans (b:=u0.length) rfl List.length_set.symm):u0.length=(u0.set u2 y13).length)).trans (Aj [(oi 1 1,oi 9000 15)]))
def Fc (a0 a1:LL) (u0:Nat):Option (Ctl Nat (Ctl Unit Bool)) :=
 cond (decide ((u0:Int)<(a0.length:Int)))
 ((a0[u0]?).bind fun x14 =>
 (a1[u0]?).bind fun x15 =>
 (I2 x14 x15).bind fun y16 =>
 cond (!y16)
  (some (Ctl.out (Ctl.out false)))
  (og (u0+1<4611686018427387904) <|
  some (Ctl.next (u0+1))))
 (some (Ctl.out (Ctl.next ())))
def Hw (a0 a1:LL):Option Bool :=
 cond ((a0.length:Int) !=(a1.length:Int))
 (some false)
 (Ce (Aq (fun s_:Nat=>Fc a0 a1 s_) 4611686018427387904 0) fun _ =>
 some true)
theorem Uc (h:Hw dA dB=some cA):cK 60 [tS dA,tS dB] (Ai cA):=by
 exact cO Tryz.func60 (Ae (Ab (Ae (kQ h (fun _ h=>Ae (Ac (tr_ (jS h)))) fun _ h=>skW (sqC h (fun _=>sT [] []) (fun _ h hk6=>Ae (Ad (lpF h (fun u0=>sT [(0,tS dA),(1,tS dB),(5,an u0)] []) (Aj []) (fun n_ u0 c_ h hn8=>Ab (Ae (kQ h (fun _ h=>skW (Ab (Ad (Ab (As 16 (ds0 (tS dA) kr (ds0 (an u0) kr (diH sI h fun x14 _ h=>dsT 3 (diH sI h fun x15 _ h=>ds0 (tI x15) kr (dcH h U4 fun y16 h=>ds0 (.bool (!y16)) kr (D6 (A0 kr) (tn_ (wr_ (kQ h (fun _ h=>Ae (Ac (br_ (tr_ (tr_ (br_ (tr_ (have h:=jO h hn8;(have h:=jO h hk6;jS h))))))))) fun _ h=>Aw (bn_ (tn_ (wr_ (Aa 19 (rsT 1 (raH h fun h=>rsT 1 (Ap (tn_ (jL []))))))))))))))))))))))) fun _ h=>lxT (have h:=jO h hn8;jC []))))))) fun _ h=>Ae (Ac (jS h)))))))
def Fa (u1 u2:Int) (u0:LL) (a1:Int):Option Int :=
 (Hu u0 a1).bind fun y3 =>
cond (decide (y3<0))
 (some (-1))
 (some y3)
theorem Qr (h:Fa bA bB dA bC=some bD):cK 16 [.agg [ai bA,ai bB,tS dA],ai bC] (A7 bD):=by
 exact cO Tryz.func16 (Ae (Ab (Aa 8 (rsT 3 (rcH h T2 fun y3 h=>rsT 1 (rnW (Ab (Ae (kQ h (fun _ h=>Ae (Ac (tr_ (jS h)))) fun _ h=>skW (Ae (Ac (jS h))))))))))))
def E5 (u1 u2:Int) (u0:LL):Option (LL) :=
 (Hm u0).bind fun y7 =>
some y7
theorem P9 (h:E5 bA bB dA=some dB):Gj Tryz.prog Tab 24 [.agg [ai bA,ai bB,tS dA]] [] (.agg [ai bA,ai bB,oS 1 1 dB.length]) [(oi 0 1,.cells 40 [ai bA,ai bB,oS 1 1 dB.length]),(oi 1 1,.mat 87 (oi 2 1) .int dB),(oi 2 1,.pool 3 .int dB)]:=by
 refine Dh kr Tryz.func24 (Ei kr) (n:=15) kr (by simp) rfl kr trivial ⟨trivial,⟨⟨3,.tail _ (.tail _ (.head _))⟩,⟨trivial,trivial⟩⟩⟩ (Ae (Ae (Ae (Ae (Ab (Aa 17 (rsT 2 (rcM h [] [tS dA] T8 trivial (aR kr) (Bq kr kr trivial) fun y7 h=>rsB 2 (rnW (Ae (Ac ?_)))))))))));obtain rfl:=zj h;exact Jm [.agg [ai bA,ai bB,oS 1 1 y7.length]] (Aj (tl:=[(2,.box (oi 0 1) 0)]) (g:=2) [(oi 0 1,oi 2 2),(oi 1 1,oi 192 14),(oi 2 1,oi 193 14)])
def E6 (u0 u1:Int) (u2:LL) (u3 u4:Int) (u5:LL):Option Bool :=
 cond (u0 !=u3)
 (some false)
 (cond (u1 !=u4)
  (some false)
  ((Hw u2 u5).bind fun y12 =>
  cond (!y12)
   (some false)
   (some true)))
theorem P3 (h:E6 bA bB dA bC bD dB=some cA):cK 30 [.agg [ai bA,ai bB,tS dA],.agg [ai bC,ai bD,tS dB]] (Ai cA):=by
 exact cO Tryz.func30 (Ae (Ab (Ae (kQ h (fun _ h=>Ae (Ac (tr_ (jS h)))) fun _ h=>skW (Ab (Ae (kQ h (fun _ h=>Ae (Ac (tr_ (jS h)))) fun _ h=>skW (Ab (Ab (Aa 20 (rsT 4 (rcH h Uc fun y12 h=>rsT 1 (rnW (kQ h (fun _ h=>Ae (Ac (tr_ (jS h)))) fun _ h=>skW (Ae (Ac (jS h)))))))))))))))))
def Ie (a2:LL) (a1 a0:Int) (u0:Nat):Option (Ctl Nat (Ctl Unit Bool)) :=
 cond (decide ((u0:Int)<(a2.length:Int)))
 ((a2[u0]?).bind fun x10 =>
 (cond ((x10.length:Int) !=a1)
   (some true)
   ((Li a0 x10).bind fun y13 =>
   some (!y13))).bind fun u1 =>
 cond u1
  (some (Ctl.out (Ctl.out false)))
  (og (u0+1<4611686018427387904) <|
  some (Ctl.next (u0+1))))
 (some (Ctl.out (Ctl.next ())))
def Is (a0 a1:Int) (a2:LL):Option Bool :=
 Ce (Aq (fun s_:Nat=>Ie a2 a1 a0 s_) 4611686018427387904 0) fun _ =>
some true
theorem Vt (h:Is bA bB dA=some cA):cK 92 [ai bA,ai bB,tS dA] (Ai cA):=by
 refine cO Tryz.func92 (Ae (sqC h (fun _=>sT [] []) ?_ fun _ h=>Ae (Ac (jS h))));intro _ h hk2;refine Ae (Ad (lpF h (fun u0=>sT [(0,ai bA),(1,ai bB),(9,tS dA),(10,an dA.length),(11,an u0)] []) (Aj []) ?_));intro n_ u0 c_ h hn4;refine Ae (Ab (kQ h (fun _ h=>skW (Ab (Ad (Ab (Aa 6 (riH sI h fun x10 _ h=>rsT 2 (rnW (sqF h (fun u1=>sT [(0,ai bA),(1,ai bB),(9,tS dA),(10,an dA.length),(11,an u0),(24,.bool u1)] []) ?_ fun u1 h=>kQ h (fun _ h=>Ae (Ac (br_ (tr_ (tr_ (br_ (tr_ (have h:=jO h hn4;(have h:=jO h hk2;jS h))))))))) fun _ h=>Aw (bn_ (tn_ (wr_ (Aa 4 (raH h fun h=>rsT 1 (Ap (tn_ (jL [])))))))))))))))) fun _ h=>lxT (have h:=jO h hn4;jC [])));intro _ h;refine Aa 16 (rsT 5 ?_);rcases Ax h with ⟨q12,h⟩|⟨q12,h⟩
 ·exact rq 19 q12 (rsT 5 (Ap (tn_ (jE []))))
 exact rq 19 q12 (rsT 2 (rcH h Zp fun y13 h=>rsT 2 (Ap (tn_ (jE [])))))
def F2 (a0 a1:List Int) (u0:Nat):Option (Ctl Nat (Ctl Unit Bool)) :=
 cond (decide ((u0:Int)<(a0.length:Int)))
 ((a0[u0]?).bind fun x15 =>
 (a1[u0]?).bind fun x16 =>
 cond (x15 !=x16)
  (some (Ctl.out (Ctl.out false)))
  (og (u0+1<4611686018427387904) <|
  some (Ctl.next (u0+1))))
 (some (Ctl.out (Ctl.next ())))
def Gt (a0 a1:List Int):Option Bool :=
 cond ((a0.length:Int) !=(a1.length:Int))
 (some false)
 (Ce (Aq (fun s_:Nat=>F2 a0 a1 s_) 4611686018427387904 0) fun _ =>
 some true)
theorem Oa (h:Gt aA aB=some cA):cK 95 [tI aA,tI aB] (Ai cA):=by
 exact cO Tryz.func95 (Ae (Ab (Ae (kQ h (fun _ h=>Ae (Ac (tr_ (jS h)))) fun _ h=>skW (sqC h (fun _=>sT [] []) (fun _ h hk6=>Ae (Ad (lpF h (fun u0=>sT [(0,tI aA),(1,tI aB),(12,an aA.length),(13,an u0)] []) (Aj []) (fun n_ u0 c_ h hn8=>Ae (Ab (kQ h (fun _ h=>skW (Ab (Ad (Ae (Ab (As 14 (ds0 (tI aA) kr (ds0 (an u0) kr (diH .int h fun x15 _ h=>dsT 3 (diH .int h fun x16 _ h=>ds0 (ai x16) kr (ds0 (.bool (x15 !=x16)) kr (D6 (A0 kr) (tn_ (wr_ (kQ h (fun _ h=>Ae (Ac (br_ (tr_ (tr_ (br_ (tr_ (have h:=jO h hn8;(have h:=jO h hk6;jS h))))))))) fun _ h=>Aw (bn_ (tn_ (wr_ (Aa 16 (raH h fun h=>rsT 1 (Ap (tn_ (jL []))))))))))))))))))))))) fun _ h=>lxT (have h:=jO h hn8;jC []))))))) fun _ h=>Ae (Ac (jS h)))))))
def Gc (a0 a1:LL) (u0:Nat):Option (Ctl Nat (Ctl Unit Bool)) :=
 cond (decide ((u0:Int)<(a0.length:Int)))
 ((a0[u0]?).bind fun x15 =>
 (a1[u0]?).bind fun x16 =>
 (Gt x15 x16).bind fun y17 =>
 cond (!y17)
  (some (Ctl.out (Ctl.out false)))
  (og (u0+1<4611686018427387904) <|
  some (Ctl.next (u0+1))))
 (some (Ctl.out (Ctl.next ())))
def Iu (a0 a1:LL):Option Bool :=
 cond ((a0.length:Int) !=(a1.length:Int))
 (some false)
 (Ce (Aq (fun s_:Nat=>Gc a0 a1 s_) 4611686018427387904 0) fun _ =>
 some true)
theorem V7 (h:Iu dA dB=some cA):cK 93 [tS dA,tS dB] (Ai cA):=by
 exact cO Tryz.func93 (Ae (Ab (Ae (kQ h (fun _ h=>Ae (Ac (tr_ (jS h)))) fun _ h=>skW (sqC h (fun _=>sT [] []) (fun _ h hk6=>Ae (Ad (lpF h (fun u0=>sT [(0,tS dA),(1,tS dB),(12,an dA.length),(13,an u0)] []) (Aj []) (fun n_ u0 c_ h hn8=>Ae (Ab (kQ h (fun _ h=>skW (Ab (Ad (Ae (Ab (As 15 (ds0 (tS dA) kr (ds0 (an u0) kr (diH sI h fun x15 _ h=>dsT 3 (diH sI h fun x16 _ h=>ds0 (tI x16) kr (dcH h Oa fun y17 h=>ds0 (.bool (!y17)) kr (D6 (A0 kr) (tn_ (wr_ (kQ h (fun _ h=>Ae (Ac (br_ (tr_ (tr_ (br_ (tr_ (have h:=jO h hn8;(have h:=jO h hk6;jS h))))))))) fun _ h=>Aw (bn_ (tn_ (wr_ (Aa 17 (raH h fun h=>rsT 1 (Ap (tn_ (jL []))))))))))))))))))))))) fun _ h=>lxT (have h:=jO h hn8;jC []))))))) fun _ h=>Ae (Ac (jS h)))))))
def L8 (a0 u0:Int) (u1:LL):Option Bool :=
 ((Ev a0).bind fun y3 =>
 cond y3
  ((Bu u0 0 24).bind fun y5 =>
  cond y5
   (cond (decide ((u1.length:Int)<=u0))
    ((Is a0 u0 u1).bind fun y8 =>
    cond y8
     ((G0 a0 u0 u1).bind fun y10 =>
     (Iu y10 u1).bind fun y11 =>
     some y11)
     (some false))
    (some false))
   (some false))
  (some false)).bind fun u2 =>
some u2
theorem We (h:L8 bA bB dA=some cA):cK 71 [ai bA,.agg [ai bB,tS dA]] (Ai cA):=by
 refine cO Tryz.func71 (Ae (sqF h (fun u2=>sT [(4,.bool u2)] []) ?_ fun u2 h=>Ac (jS h)));intro _ h;refine As 38 (dz0 (ai bA) (dcH h Kx fun y3 h=>dz0 (.bool y3) ?_));rcases Ax h with ⟨q4,h⟩|⟨q4,h⟩
 ·refine dq 7 q4 (dz0 (.box (oi 3 1) 0) (dzl (ai bB) (dcH h Cd fun y5 h=>dz0 (.bool y5) (dz0 (.bool y5) (kD h 12 (fun _ h=>dsT 8 ?_) fun _ h=>dsT 27 (D6 (A0 kr) (tn_ (jE []))))))));rcases Ax h with ⟨q7,h⟩|⟨q7,h⟩
  ·refine dq 20 q7 (dsT 5 (dcH h Vt fun y8 h=>dz0 (.bool y8) (dz0 (.bool y8) ?_)));rcases Ax h with ⟨q9,h⟩|⟨q9,h⟩
   ·exact dq 28 q9 (dsT 5 (dcM h [] [ai bA,ai bB,tS dA] S5 trivial (aR kr) (Bq kr kr trivial) (Aol kr) fun y10 h=>dz0 (.box (oi 3 1) 1) (dzl (tS dA) (dcG h [oS 544 32 y10.length,tS dA] V7 (Gy (Akd (p:=oi 545 32) (e1:=87) (e:=3) (u:=.int) (xss:=y10) kr (Aei (t:=sI) (off:=0) (len:=y10.length) (i:=oi 544 32) (e1:=87) (z:=1) (m:=y10.length) 0 rfl kr kr (Yl kr)) rfl) (Gy kr Sc)) fun y11 h=>dz0 (.bool y11) (dz0 (.bool y11) (D6 ⟨Aoc kr,trivial⟩ (tn_ (jE []))))))))
   exact dq 28 q9 (dsT 11 (D6 (A0 kr) (tn_ (jE []))))
  exact dq 20 q7 (dsT 19 (D6 (A0 kr) (tn_ (jE []))))
 exact dq 7 q4 (dsT 32 (D6 (A0 kr) (tn_ (jE []))))
def Iy (a0 u0 u1:Int) (u2:LL):Option Bool :=
 ((Bu u0 0 24).bind fun y3 =>
 cond y3
  ((Bu u1 0 (wI (24 - u0))).bind fun y5 =>
  cond y5
   ((L8 a0 (wI (u0+u1)) u2).bind fun y7 =>
   some y7)
   (some false))
  (some false)).bind fun u3 =>
some u3
theorem W6 (h:Iy bA bB bC dA=some cA):cK 45 [ai bA,.agg [ai bB,ai bC,tS dA]] (Ai cA):=by
 refine cO Tryz.func45 (Ae (sqF h (fun u3=>sT [(4,.bool u3)] []) ?_ fun u3 h=>Ac (jS h)));intro _ h;refine Aa 27 (rsT 2 (rcH h Cd fun y3 h=>rsT 1 ?_));rcases Ax h with ⟨q4,h⟩|⟨q4,h⟩
 ·refine rq 8 q4 (rsT 5 (rcH h Cd fun y5 h=>rsT 2 ?_));rcases Ax h with ⟨q6,h⟩|⟨q6,h⟩
  ·exact rq 16 q6 (rsT 9 (rcH h We fun y7 h=>rsT 2 (Ap (tn_ (jE [])))))
  exact rq 16 q6 (rsT 12 (Ap (tn_ (jE []))))
 exact rq 8 q4 (rsT 20 (Ap (tn_ (jE []))))
def Lh (a0 a1:Int):Option Bool :=
 ((Br a0 0 24).bind fun y3 =>
 cond y3
  ((Br a1 0 24).bind fun y5 =>
  cond y5
   (some (decide (wI (a0+a1)<=24)))
   (some false))
  (some false)).bind fun u0 =>
some u0
theorem Aav (h:Lh bA bB=some cA):cK 82 [ai bA,ai bB] (Ai cA):=by
 refine cO Tryz.func82 (Ae (sqF h (fun u0=>sT [(4,.bool u0)] []) ?_ fun u0 h=>Ac (jS h)));intro _ h;refine Aa 15 (rsT 1 (rcH h C8 fun y3 h=>rsT 1 ?_));rcases Ax h with ⟨q4,h⟩|⟨q4,h⟩
 ·exact rq 7 q4 (rsT 1 (rcH h C8 fun y5 h=>rsT 2 (kR h 11 (fun _ h=>rsT 6 (Ap (tn_ (jE [])))) fun _ h=>rsT 6 (Ap (tn_ (jE []))))))
 exact rq 7 q4 (rsT 10 (Ap (tn_ (jE []))))
def Fi (a1:LL) (a0 a2:Int) (u0:Nat):Option (Ctl Nat (Ctl Unit Bool)) :=
 cond (decide ((u0:Int)<(a1.length:Int)))
 ((a1[u0]?).bind fun x10 =>
 (G5 a0 x10 a2).bind fun y12 =>
 cond (!y12)
  (some (Ctl.out (Ctl.out false)))
  (og (u0+1<4611686018427387904) <|
  some (Ctl.next (u0+1))))
 (some (Ctl.out (Ctl.next ())))
def Fe (a0:Int) (a1:LL) (a2:Int):Option Bool :=
 Ce (Aq (fun s_:Nat=>Fi a1 a0 a2 s_) 4611686018427387904 0) fun _ =>
some true
theorem Qa (h:Fe bA dA bB=some cA):cK 102 [ai bA,tS dA,ai bB] (Ai cA):=by
 exact cO Tryz.func102 (Ae (sqC h (fun _=>sT [] []) (fun _ h hk2=>Ae (Ad (lpF h (fun u0=>sT [(0,ai bA),(2,ai bB),(9,tS dA),(10,an dA.length),(11,an u0)] []) (Aj []) (fun n_ u0 c_ h hn4=>Ae (Ab (kQ h (fun _ h=>skW (Ab (Ad (Ab (Aa 6 (riH sI h fun x10 _ h=>rsT 2 (rnW (Ab (Aa 11 (rsT 3 (rcH h Tg fun y12 h=>rsT 1 (rnW (kQ h (fun _ h=>Ae (Ac (br_ (tr_ (tr_ (br_ (tr_ (have h:=jO h hn4;(have h:=jO h hk2;jS h))))))))) fun _ h=>Aw (bn_ (tn_ (wr_ (Aa 13 (raH h fun h=>rsT 1 (Ap (tn_ (jL []))))))))))))))))))))) fun _ h=>lxT (have h:=jO h hn4;jC []))))))) fun _ h=>Ae (Ac (jS h))))
def Fm (a0:Int) (a1:LL) (a2:Int):Option (LL) :=
 (Gu a1).bind fun y4 =>
og (0<=(y4.length:Int)/\(y4.length:Int)<=(y4.length:Int)/\(y4.length:Int)<=1073741824/\(24:Int)*(y4.length:Int)<=140737488355328) <|
(Ga a0 y4 a2 (List.replicate y4.length ([]:List Int))).bind fun y8 =>
og (y8.1.length=y4.length) <|
og (y8.2.1.length=y4.length) <|
og ((0:Int)<=(y8.2.2:Int)/\(y8.2.2:Int)<=(y8.2.2:Int)/\(y8.2.2:Int)<=(y4.length:Int)) <|
some (y8.1.take y8.2.2)
theorem Nl (h:Fm bA dA bB=some dB):Gj Tryz.prog Tab 103 [ai bA,tS dA,ai bB] [] (oS 0 1 dB.length) [(oi 0 1,.mat 87 (oi 1 1) .int dB),(oi 1 1,.pool 3 .int dB)]:=by
 refine Dh kr Tryz.func103 (Ei kr) (n:=24) kr (by simp) rfl kr trivial ⟨⟨3,.tail _ (.head _)⟩,⟨trivial,trivial⟩⟩ (Ae (Ab (Aa 5 (rsT 1 (rcM h [] [tS dA] Ol trivial (aR kr) (Bq kr kr trivial) fun y4 h=>rsT 1 (rnW (Ab (Aa 9 (rsT 2 ?_)))))))));obtain ⟨g6,h⟩:=Au h;refine Aee (oS 224 7 y4.length) (oi 224 7) 87 3 .int (List.replicate y4.length ([]:List Int)) trivial (Zy (j:=y4.length) (k:=.i64) (k':=.i64) (m:=(y4.length:Int)) (c:=(y4.length:Int)) 3 kr kr g6 kr rfl) kr (by rw [List.length_replicate]) kr (rsT 1 (rnW (Ab (Aa 15 (rsT 4 (rcM h [(oi 0 0,oi 176 3),(oi 1 0,oi 177 3),(oi 2 0,oi 224 7),(oi 3 0,oi 224 7)] [ai bA,oS 176 3 y4.length,ai bB,oS 224 7 y4.length] (fun h=>Rn h rfl List.length_replicate.symm) ⟨kr,⟨kr,⟨kr,⟨kr,trivial⟩⟩⟩⟩ (aR kr) (Bq kr kr ⟨Bw kr,⟨I1 (o:=oi 176 3) (p:=oi 177 3) (e1:=87) (m:=y4.length) (u:=.int) (xss:=y4) (Bw kr) kr,⟨Bw kr,⟨I1 (o:=oi 224 7) (p:=oi 224 7) (e1:=87) (m:=(List.replicate y4.length ([]:List Int)).length) (u:=.int) (xss:=List.replicate y4.length ([]:List Int)) (Bw kr) kr,trivial⟩⟩⟩⟩) fun y8 h=>rsT 1 (rnW (Ab (Aa 20 (rsT 3 ?_))))))))));obtain ⟨g9,h⟩:=Au h;obtain ⟨g10,h⟩:=Au h;obtain ⟨g12,h⟩:=Au h;refine rs2 (oS 23 18 y8.2.2) (oi 176 3) (oi 23 18) (.vec 87 1 y8.2.2 ((hdL (oi 304 13) .int y8.1).take y8.2.2)) (Ahk (t:=sI) (len:=y4.length) (kh:=.i64) (km:=.i64) (h:=(y8.2.2:Int)) (m:=(y8.2.2:Int)) (j:=y8.2.2) (i:=oi 176 3) (N:=y8.1.length) (e:=87) (cs:=hdL (oi 304 13) .int y8.1) kr kr kr kr rfl g12 rfl (by have z_:y4.length=y8.1.length:=g9.symm;omega)) (rsT 1 (Ap (tn_ ⟨_,Ad2 (e1:=87) (e:=3) (u:=.int) (xss:=y8.1) (k:=y8.2.2) 9000 (oi 23 18) (oi 304 13) kr kr kr (by have z_:y4.length=y8.1.length:=g9.symm;omega) kr kr,Ac ?_⟩)));obtain rfl:=zj h;exact Jm [oS 0 1 ((y8.1.take y8.2.2).length)] ((Wh 6 (oS 23 18 y8.2.2) (oS 23 18 ((y8.1.take y8.2.2).length)) kr (congrArg (fun z_=>((oS 23 18 z_):AV)) ((Agy (by have z_:y4.length=y8.1.length:=g9.symm;omega)):y8.2.2=(y8.1.take y8.2.2).length))).trans (Aj (tl:=[(6,oS 0 1 (y8.1.take y8.2.2).length)]) (g:=2) [(oi 0 1,oi 23 18),(oi 1 1,oi 9000 20)]))
def Ni (a0:List Int):Option (List Int) :=
 some (a0.take 48++(List.replicate 48 0).drop (a0.take 48).length)
def Ac7 (r:List Int):RV:=⟨false,[(true,((tyA 47).av (Ew 47 r)).map .sc)]⟩
theorem Ti (h:Ni aA=some aB):cK 104 [tI aA] (Ac7 aB):=by
 exact cO Tryz.func104 (Ae (Ae (Ab (Aa 8 (rsl (.sla (oi 3 3) 0 48) (Apo (N:=47) (i:=oi 3 3) (j:=0) (e:=131) (xs:=[Ew 47 (List.replicate 48 0)]) kr kr kr) (rsT 1 (rs2 (an ((aA.take 48).length)) (oi 3 3) (oi 3 3) (.arr 131 (tyA 47) [Ew 47 (aA.take 48++(List.replicate 48 0).drop (aA.take 48).length)]) (Aln (N:=47) (i:=oi 3 3) (e:=131) (l:=List.replicate 48 0) (ys:=aA) (zs:=aA.take 48++(List.replicate 48 0).drop (aA.take 48).length) kr Ra kr kr (by simp) rfl) (rnW (Ab (Aa 10 (rsl (.agg ((tyA 47).av (Ew 47 (aA.take 48++(List.replicate 48 0).drop (aA.take 48).length)))) (Ap4 (N:=47) (ty:=131) (i:=oi 3 3) (e:=0) (l:=aA.take 48++(List.replicate 48 0).drop (aA.take 48).length) (xs:=[Ew 47 (aA.take 48++(List.replicate 48 0).drop (aA.take 48).length)]) kr kr rfl rfl) (Ae0 (oi 2 1) (oi 2 1) (.arr 131 (tyA 47) [Ew 47 (aA.take 48++(List.replicate 48 0).drop (aA.take 48).length)]) (Apq (N:=47) (ty:=131) (i:=oi 2 1) (e:=0) (l:=List.replicate 48 0) (l2:=aA.take 48++(List.replicate 48 0).drop (aA.take 48).length) (xs:=[Ew 47 (List.replicate 48 0)]) kr kr rfl rfl kr rfl) (rnW (Ac (jR h [.agg ((tyA 47).av (Ew 47 (aA.take 48++(List.replicate 48 0).drop (aA.take 48).length)))] (N9 (Anw 47 (aA.take 48++(List.replicate 48 0).drop (aA.take 48).length)) Gq))))))))))))))))
def Ju:AC :=
 (.seq (rg [xs1 26 25 24])
 (.seq (.cond (tm 26)
  .skip
  (.exit 0))
 (.seq (.block 1 (.seq (rg [xm 27 25,xx 28 1 23 25,xl 29 28,xm 7 27,xm 8 29])
 (.seq (.region [xm 30 8,xo 31 (qc 104 [tm 30] [[some .int]]),xm 32 1,xm 33 7,xx 34 1 32 33,xl 35 34,xo 36 (qc 104 [tm 35] [[some .int]]),xo 37 (.i (.cmp true 51 (tm 31) (tm 36)))] true [(1,5)])
 (.cond (tm 37)
  (.seq (rg [xo 6 (qm (cb false))])
  .ret)
  .skip))))
 (rg [xa 38 25,xm 25 38]))))
def Mf:AC :=
 (.seq (rg [xo 6 (qm (cb false))])
 (.seq (.seq (rg [xm 9 1,xn1 10 9,xm 11 2,xo 12 (qb .gtr (tm 10) (tm 11)),xm 13 12,⟨some 14,some (13,false),qm (tm 0)⟩,⟨some 15,some (13,false),qm (tm 1)⟩,⟨some 16,some (13,false),qm (tm 2)⟩,⟨some 17,some (13,false),qc 102 [tm 14,tm 15,tm 16] [[],[some sI],[]]⟩,⟨some 18,some (13,false),.i (.not (tm 17))⟩,xo 19 (.i (.pick (tm 13) (cb true) (tm 18)))])
 (.cond (tm 19)
  (.seq (rg [xo 6 (qm (cb false))])
  .ret)
  .skip))
 (.seq (.seq (rg [xm 20 0,xm 21 1,xm 22 2,xo 23 (qc 103 [tm 20,tm 21,tm 22] [[],[some sI],[]]),xn1 24 23,xo 25 (qm (ci 0))])
 (.block 0 (.loop Ju)))
 (.seq (rg [xm 39 0,xm 40 1,xm 41 2,xo 42 (qc 103 [tm 39,tm 40,tm 41] [[],[some sI],[]]),xn1 43 42,xm 44 1,xn1 45 44,xo 46 (qb .eql (tm 43) (tm 45)),xm 6 46])
 .ret))))
def R7:List Res:=[.tmp 6]
theorem Sp:B2 Tryz.prog Tryz.f83=some (Mf,R7):=by kernel_rfl
def Dt (y10 a1:LL) (u0:Nat):Option (Ctl Nat (Ctl Unit Bool)) :=
 cond (decide ((u0:Int)<(y10.length:Int)))
 ((y10[u0]?).bind fun x17 =>
 (Ni x17).bind fun y19 =>
 (a1[u0]?).bind fun x20 =>
 (Ni x20).bind fun y21 =>
 og (y19.length=47+1/\y21.length=47+1) <|
 cond (!(y19==y21))
  (some (Ctl.out (Ctl.out false)))
  (og (u0+1<4611686018427387904) <|
  some (Ctl.next (u0+1))))
 (some (Ctl.out (Ctl.next ())))
def Gf (a0:Int) (a1:LL) (a2:Int):Option Bool :=
 (cond (decide (a2<(a1.length:Int)))
  (some true)
  ((Fe a0 a1 a2).bind fun y5 =>
  some (!y5))).bind fun u0 =>
cond u0
 (some false)
 (Ce ((Fm a0 a1 a2).bind fun y10 =>
  Aq (fun s_:Nat=>Dt y10 a1 s_) 4611686018427387904 0) fun _ =>
 (Fm a0 a1 a2).bind fun y27 =>
 some ((y27.length:Int)==(a1.length:Int)))
theorem Rv (h:Gf bA dA bB=some cA):cK 83 [ai bA,tS dA,ai bB] (Ai cA):=by
 refine Vq kr Tryz.func83 Sp (n:=47) kr (by simp) rfl ?_;unfold Mf;refine Ae (Ab (sqF h (fun u1=>sT [(0,ai bA),(1,tS dA),(2,ai bB),(19,.bool u1)] []) ?_ ?_))
 ·intro _ h;refine Aa 13 (rsT 5 ?_);rcases Ax h with ⟨q4,h⟩|⟨q4,h⟩
  ·exact rq 13 q4 (rsT 6 (Ap (tn_ (jE []))))
  exact rq 13 q4 (rsT 3 (rcH h Qa fun y5 h=>rsT 2 (Ap (tn_ (jE [])))))
 intro u1 h;refine kQ h (fun _ h=>Ae (Ac (tr_ (jS h)))) fun _ h=>skW (sqC h (fun _=>sT [(0,ai bA),(1,tS dA),(2,ai bB)] []) ?_ fun _ h=>Ab (Aa 11 (rsT 3 (rcM h [] [ai bA,tS dA,ai bB] Nl trivial (aR kr) (Bq kr kr trivial) fun y27 h=>rsT 5 (rnW (Ac (jS h)))))))
 intro _ h hk8;refine Ab (Aa 8 (rsT 3 (rcM h [] [ai bA,tS dA,ai bB] Nl trivial (aR kr) (Bq kr kr trivial) fun y10 h=>rsT 2 (rnW (Ad (lpF h (fun u0=>sT [(0,ai bA),(1,tS dA),(2,ai bB),(23,oS 0 1 y10.length),(24,an y10.length),(25,an u0)] [(oi 0 1,.mat 87 (oi 1 1) .int y10),(oi 1 1,.pool 3 .int y10)]) (Aj [(oi 0 1,oi 368 5),(oi 1 1,oi 369 5)]) ?_))))));intro n_ u0 c_ h hn11;unfold Ju;refine Ae (Ab (kQ h (fun _ h=>skW (Ab (Ad (Ab (Aa 8 (rsT 1 ?_)))))) fun _ h=>lxT (have h:=jO h hn11;jC [])));obtain ⟨x17,e17,h⟩:=Am h;refine zO (oi 0 1) sI y10.length (An e17) (rsl (.own (kid (oi 1 1) u0) .int 0 x17.length) (E2 (o:=oi 0 1) (p:=oi 1 1) (e1:=87) (u:=.int) (xss:=y10) (row:=x17) (j:=u0) kr kr e17) (rsT 2 (rnW (Ab (As 16 (dz0 (.own (kid (oi 1 1) u0) .int 0 x17.length) (dcG h [.own (kid (oi 1 1) u0) .int 0 x17.length] Ti (Gy (Qc (e:=3) (u:=.int) (xs:=x17) ((Zn (Aey (t:=.int) (off:=0) (len:=x17.length) 0 rfl kr)).trans (Be kr e17)) rfl) Sc) fun y19 h=>dz0 (tS dA) (dz0 (an u0) (diH sI h fun x20 _ h=>dz0 (tI x20) (dcH h Ti fun y21 h=>?_))))))))));obtain ⟨g22,h⟩:=Au h;exact ds0 (.bool (!(y19==y21))) (Ao0 (N:=47) (l:=y19) (l':=y21) kr kr g22) (D6 (A0 kr) (tn_ (wr_ (kQ h (fun _ h=>Ae (Ac (br_ (tr_ (tr_ (br_ (tr_ (have h:=jO h hn11;(have h:=jO h hk8;jS h))))))))) fun _ h=>Aw (bn_ (tn_ (wr_ (Aa 18 (raH h fun h=>rsT 1 (Ap (tn_ (jL []))))))))))))
def Ez (a0 u0 u1:Int) (u2:LL):Option Bool :=
 ((C5 a0).bind fun y3 =>
 cond y3
  ((Lh u0 u1).bind fun y5 =>
  cond y5
   ((Gf a0 u2 (wI (u0+u1))).bind fun y7 =>
   some y7)
   (some false))
  (some false)).bind fun u3 =>
some u3
theorem Qe (h:Ez bA bB bC dA=some cA):cK 54 [ai bA,.agg [ai bB,ai bC,tS dA]] (Ai cA):=by
 refine cO Tryz.func54 (Ae (sqF h (fun u3=>sT [(4,.bool u3)] []) ?_ fun u3 h=>Ac (jS h)));intro _ h;refine Aa 24 (rsT 1 (rcH h Jt fun y3 h=>rsT 1 ?_));rcases Ax h with ⟨q4,h⟩|⟨q4,h⟩
 ·refine rq 7 q4 (rsT 4 (rcH h Aav fun y5 h=>rsT 2 ?_));rcases Ax h with ⟨q6,h⟩|⟨q6,h⟩
  ·exact rq 14 q6 (rsT 8 (rcH h Rv fun y7 h=>rsT 2 (Ap (tn_ (jE [])))))
  exact rq 14 q6 (rsT 11 (Ap (tn_ (jE []))))
 exact rq 7 q4 (rsT 18 (Ap (tn_ (jE []))))
end


section
open Go.RowKit Go.Deep
theorem gw3 (w:World):Calls Tryz.prog 107 #[.int .i64 3] w fun e w'=>e=.returned (.agg #[.int .i64 1,.int .i64 2])/\Below w.heap.size w w':=by
 go_enter Tryz.func107,Tryz.ntmps107
 go_wp2
 refine bodyPost_ret (v:=.agg #[.int .i64 1,.int .i64 2]) (by simp [results,Tryz.results107,go_sem]) rfl ⟨rfl,?_⟩;exact (by repeat (first|with_reducible exact Below.refl _ _|((with_reducible refine Below.setCell ?_ ?_ _);rotate_left;focus (first|(simp;done)|omega|(simp;omega)))|((with_reducible refine Below.alloc ?_ ?_ _);rotate_left;focus (first|(simp;done)|omega|(simp;omega)))|(with_reducible refine Below.drew ?_)|(with_reducible refine below_draws_ ?_ _)))
theorem gw4 (w:World):Calls Tryz.prog 107 #[.int .i64 4] w fun e w'=>e=.returned (.agg #[.int .i64 1,.int .i64 0])/\Below w.heap.size w w':=by
 go_enter Tryz.func107,Tryz.ntmps107
 go_wp2
 refine bodyPost_ret (v:=.agg #[.int .i64 1,.int .i64 0]) (by simp [results,Tryz.results107,go_sem]) rfl ⟨rfl,?_⟩;exact (by repeat (first|with_reducible exact Below.refl _ _|((with_reducible refine Below.setCell ?_ ?_ _);rotate_left;focus (first|(simp;done)|omega|(simp;omega)))|((with_reducible refine Below.alloc ?_ ?_ _);rotate_left;focus (first|(simp;done)|omega|(simp;omega)))|(with_reducible refine Below.drew ?_)|(with_reducible refine below_draws_ ?_ _)))
theorem gw5 (w:World):Calls Tryz.prog 107 #[.int .i64 5] w fun e w'=>e=.returned (.agg #[.int .i64 2,.int .i64 1])/\Below w.heap.size w w':=by
 go_enter Tryz.func107,Tryz.ntmps107
 go_wp2
 refine bodyPost_ret (v:=.agg #[.int .i64 2,.int .i64 1]) (by simp [results,Tryz.results107,go_sem]) rfl ⟨rfl,?_⟩;exact (by repeat (first|with_reducible exact Below.refl _ _|((with_reducible refine Below.setCell ?_ ?_ _);rotate_left;focus (first|(simp;done)|omega|(simp;omega)))|((with_reducible refine Below.alloc ?_ ?_ _);rotate_left;focus (first|(simp;done)|omega|(simp;omega)))|(with_reducible refine Below.drew ?_)|(with_reducible refine below_draws_ ?_ _)))
theorem gw6 (w:World):Calls Tryz.prog 107 #[.int .i64 6] w fun e w'=>e=.returned (.agg #[.int .i64 0,.int .i64 1])/\Below w.heap.size w w':=by
 go_enter Tryz.func107,Tryz.ntmps107
 go_wp2
 refine bodyPost_ret (v:=.agg #[.int .i64 0,.int .i64 1]) (by simp [results,Tryz.results107,go_sem]) rfl ⟨rfl,?_⟩;exact (by repeat (first|with_reducible exact Below.refl _ _|((with_reducible refine Below.setCell ?_ ?_ _);rotate_left;focus (first|(simp;done)|omega|(simp;omega)))|((with_reducible refine Below.alloc ?_ ?_ _);rotate_left;focus (first|(simp;done)|omega|(simp;omega)))|(with_reducible refine Below.drew ?_)|(with_reducible refine below_draws_ ?_ _)))
theorem gw7 (w:World):Calls Tryz.prog 107 #[.int .i64 7] w fun e w'=>e=.returned (.agg #[.int .i64 1,.int .i64 1])/\Below w.heap.size w w':=by
 go_enter Tryz.func107,Tryz.ntmps107
 go_wp2
 refine bodyPost_ret (v:=.agg #[.int .i64 1,.int .i64 1]) (by simp [results,Tryz.results107,go_sem]) rfl ⟨rfl,?_⟩;exact (by repeat (first|with_reducible exact Below.refl _ _|((with_reducible refine Below.setCell ?_ ?_ _);rotate_left;focus (first|(simp;done)|omega|(simp;omega)))|((with_reducible refine Below.alloc ?_ ?_ _);rotate_left;focus (first|(simp;done)|omega|(simp;omega)))|(with_reducible refine Below.drew ?_)|(with_reducible refine below_draws_ ?_ _)))
theorem gw8 (w:World):Calls Tryz.prog 107 #[.int .i64 8] w fun e w'=>e=.returned (.agg #[.int .i64 1,.int .i64 1])/\Below w.heap.size w w':=by
 go_enter Tryz.func107,Tryz.ntmps107
 go_wp2
 refine bodyPost_ret (v:=.agg #[.int .i64 1,.int .i64 1]) (by simp [results,Tryz.results107,go_sem]) rfl ⟨rfl,?_⟩;exact (by repeat (first|with_reducible exact Below.refl _ _|((with_reducible refine Below.setCell ?_ ?_ _);rotate_left;focus (first|(simp;done)|omega|(simp;omega)))|((with_reducible refine Below.alloc ?_ ?_ _);rotate_left;focus (first|(simp;done)|omega|(simp;omega)))|(with_reducible refine Below.drew ?_)|(with_reducible refine below_draws_ ?_ _)))
theorem gw9 (w:World):Calls Tryz.prog 107 #[.int .i64 9] w fun e w'=>e=.returned (.agg #[.int .i64 2,.int .i64 1])/\Below w.heap.size w w':=by
 go_enter Tryz.func107,Tryz.ntmps107
 go_wp2
 refine bodyPost_ret (v:=.agg #[.int .i64 2,.int .i64 1]) (by simp [results,Tryz.results107,go_sem]) rfl ⟨rfl,?_⟩;exact (by repeat (first|with_reducible exact Below.refl _ _|((with_reducible refine Below.setCell ?_ ?_ _);rotate_left;focus (first|(simp;done)|omega|(simp;omega)))|((with_reducible refine Below.alloc ?_ ?_ _);rotate_left;focus (first|(simp;done)|omega|(simp;omega)))|(with_reducible refine Below.drew ?_)|(with_reducible refine below_draws_ ?_ _)))
theorem Aqa (w:World):Calls Tryz.prog 107 #[.int .i64 10] w fun e w'=>e=.returned (.agg #[.int .i64 0,.int .i64 1])/\Below w.heap.size w w':=by
 go_enter Tryz.func107,Tryz.ntmps107
 go_wp2
 refine bodyPost_ret (v:=.agg #[.int .i64 0,.int .i64 1]) (by simp [results,Tryz.results107,go_sem]) rfl ⟨rfl,?_⟩;exact (by repeat (first|with_reducible exact Below.refl _ _|((with_reducible refine Below.setCell ?_ ?_ _);rotate_left;focus (first|(simp;done)|omega|(simp;omega)))|((with_reducible refine Below.alloc ?_ ?_ _);rotate_left;focus (first|(simp;done)|omega|(simp;omega)))|(with_reducible refine Below.drew ?_)|(with_reducible refine below_draws_ ?_ _)))
theorem Aqb (w:World):Calls Tryz.prog 107 #[.int .i64 11] w fun e w'=>e=.returned (.agg #[.int .i64 1,.int .i64 2])/\Below w.heap.size w w':=by
 go_enter Tryz.func107,Tryz.ntmps107
 go_wp2
 refine bodyPost_ret (v:=.agg #[.int .i64 1,.int .i64 2]) (by simp [results,Tryz.results107,go_sem]) rfl ⟨rfl,?_⟩;exact (by repeat (first|with_reducible exact Below.refl _ _|((with_reducible refine Below.setCell ?_ ?_ _);rotate_left;focus (first|(simp;done)|omega|(simp;omega)))|((with_reducible refine Below.alloc ?_ ?_ _);rotate_left;focus (first|(simp;done)|omega|(simp;omega)))|(with_reducible refine Below.drew ?_)|(with_reducible refine below_draws_ ?_ _)))
theorem Ap7 (w:World):Calls Tryz.prog 107 #[.int .i64 12] w fun e w'=>e=.returned (.agg #[.int .i64 1,.int .i64 0])/\Below w.heap.size w w':=by
 go_enter Tryz.func107,Tryz.ntmps107
 go_wp2
 refine bodyPost_ret (v:=.agg #[.int .i64 1,.int .i64 0]) (by simp [results,Tryz.results107,go_sem]) rfl ⟨rfl,?_⟩;exact (by repeat (first|with_reducible exact Below.refl _ _|((with_reducible refine Below.setCell ?_ ?_ _);rotate_left;focus (first|(simp;done)|omega|(simp;omega)))|((with_reducible refine Below.alloc ?_ ?_ _);rotate_left;focus (first|(simp;done)|omega|(simp;omega)))|(with_reducible refine Below.drew ?_)|(with_reducible refine below_draws_ ?_ _)))
theorem Ap8 (w:World):Calls Tryz.prog 107 #[.int .i64 13] w fun e w'=>e=.returned (.agg #[.int .i64 1,.int .i64 1])/\Below w.heap.size w w':=by
 go_enter Tryz.func107,Tryz.ntmps107
 go_wp2
 refine bodyPost_ret (v:=.agg #[.int .i64 1,.int .i64 1]) (by simp [results,Tryz.results107,go_sem]) rfl ⟨rfl,?_⟩;exact (by repeat (first|with_reducible exact Below.refl _ _|((with_reducible refine Below.setCell ?_ ?_ _);rotate_left;focus (first|(simp;done)|omega|(simp;omega)))|((with_reducible refine Below.alloc ?_ ?_ _);rotate_left;focus (first|(simp;done)|omega|(simp;omega)))|(with_reducible refine Below.drew ?_)|(with_reducible refine below_draws_ ?_ _)))
theorem Ap6 (w:World):Calls Tryz.prog 107 #[.int .i64 14] w fun e w'=>e=.returned (.agg #[.int .i64 1,.int .i64 1])/\Below w.heap.size w w':=by
 go_enter Tryz.func107,Tryz.ntmps107
 go_wp2
 refine bodyPost_ret (v:=.agg #[.int .i64 1,.int .i64 1]) (by simp [results,Tryz.results107,go_sem]) rfl ⟨rfl,?_⟩;exact (by repeat (first|with_reducible exact Below.refl _ _|((with_reducible refine Below.setCell ?_ ?_ _);rotate_left;focus (first|(simp;done)|omega|(simp;omega)))|((with_reducible refine Below.alloc ?_ ?_ _);rotate_left;focus (first|(simp;done)|omega|(simp;omega)))|(with_reducible refine Below.drew ?_)|(with_reducible refine below_draws_ ?_ _)))
def gwV (k:Int):Int×Int:=if k=3 then (1,2) else if k=4 then (1,0) else if k=5 then (2,1) else if k=6 then (0,1) else if k=9 then (2,1) else if k=10 then (0,1) else if k=11 then (1,2) else if k=12 then (1,0) else (1,1)
def Ex (a0:Int):Option (Int×Int):=og (3<=a0/\a0<=14) (some (gwV a0))
def M3 (r:Int×Int):RV:=⟨false,[(true,[.sc (.int .i64 r.1),.sc (.int .i64 r.2)])]⟩
theorem An4 (k:Int) (h:3<=k/\k<=14) (w:World):Calls Tryz.prog 107 #[.int .i64 k] w fun e w'=>e=.returned (.agg #[.int .i64 (gwV k).1,.int .i64 (gwV k).2])/\Below w.heap.size w w':=by
 have hk:k=3∨k=4∨k=5∨k=6∨k=7∨k=8∨k=9∨k=10∨k=11∨k=12∨k=13∨k=14:=by omega
 rcases hk with rfl|rfl|rfl|rfl|rfl|rfl|rfl|rfl|rfl|rfl|rfl|rfl
 ·exact gw3 w
 ·exact gw4 w
 ·exact gw5 w
 ·exact gw6 w
 ·exact gw7 w
 ·exact gw8 w
 ·exact gw9 w
 ·exact Aqa w
 ·exact Aqb w
 ·exact Ap7 w
 ·exact Ap8 w
 ·exact Ap6 w
theorem M9 {a0:Int} {r:Int×Int} (h:Ex a0=some r):B3 Tryz.prog Tab 107 [.int .i64 a0] (M3 r):=by
 obtain ⟨hb,h⟩:=Au h;obtain rfl:=osj h;intro w im vs hG hr;obtain ⟨u1,_,rfl,h1,h2⟩:=hr;obtain rfl:_=[]:=h2;obtain rfl:u1=.int .i64 a0:=h1;refine (An4 a0 hb w).mono ?_;rintro e w' ⟨rfl,hw⟩;exact ⟨_,rfl,hw,[_,_],[],⟨_,_,rfl,rfl,rfl,_,_,rfl,rfl,rfl,rfl,rfl⟩,⟨trivial,fun _=>rfl⟩,rfl⟩
end
section
open Go.RowKit Go.Deep
section
variable {σ:Oid->Option Loc} {im:Nat->Prop} {w:World}
end
section
variable {n:Nat} {d:Option Nat} {f:Nat->AV} {ob:Oid->Option Ob}
end
end
section
open Go.RowKit Go.Deep
set_option maxRecDepth 4000
set_option maxHeartbeats 4800000
variable {bA bB bC bD:Int} {gA gB:ByteArray} {hA hB:List (Int×Int×ByteArray)} {iA:Int×Int×ByteArray} {cA:Bool} {dA dB:LL} {jA:(List (Int×Int×ByteArray))×LL} {kA:List ByteArray} {lA:Int×Int×Bool}
def Lz (u1 u2:Int) (u0:ByteArray) (a1:Int):Option Int :=
 cond (decide (wI (a1 - (u0.size:Int))<0))
 (some (-1))
 (some (wI (a1 - (u0.size:Int))))
theorem V9 (h:Lz bA bB gA bC=some bD):cK 63 [.agg [ai bA,ai bB,.str gA],ai bC] (A7 bD):=by
 exact cO Tryz.func63 (Ae (Ae (Ab (Ae (kQ h (fun _ h=>Ae (Ac (tr_ (jS h)))) fun _ h=>skW (Ae (Ac (jS h))))))))
def Fd (a0:List (Int×Int×ByteArray)) (u1:Int) (u0:Nat):Option (Ctl (Int×Nat) (Ctl Int Int)) :=
 cond (decide ((u0:Int)<(a0.length:Int)))
 ((a0[u0]?).bind fun x15 =>
 (Lz x15.1 x15.2.1 x15.2.2 u1).bind fun y16 =>
 cond (decide (y16<0))
  (some (Ctl.out (Ctl.out (-1))))
  (og (u0+1<4611686018427387904) <|
  some (Ctl.next (y16,u0+1))))
 (some (Ctl.out (Ctl.next u1)))
def H3 (a0:List (Int×Int×ByteArray)) (a1:Int):Option Int :=
 cond (decide (wI (a1 - (a0.length:Int))<0))
 (some (-1))
 (Ce (Aq (fun s_:Int×Nat=>Fd a0 s_.1 s_.2) 4611686018427387904 (wI (a1 - (a0.length:Int)),0)) fun u0 =>
 some u0)
theorem T3 (h:H3 hA bA=some bB):cK 38 [.tree Y6 hA,ai bA] (A7 bB):=by
 refine cO Tryz.func38 (Ae (Ae (Ab (Ae (kQ h (fun _ h=>Ae (Ac (tr_ (jS h)))) fun _ h=>skW (sqC h (fun u0=>sT [(1,ai u0)] []) ?_ fun u0 h=>Ae (Ac (jS h))))))));intro _ h hk7;refine Ae (Ad (lpF h (fun (u1,u2)=>sT [(0,.tree Y6 hA),(1,ai u1),(5,an u2)] []) (Aj []) ?_));rintro n_ ⟨u1,u2⟩ c_ h hn9;exact Ab (Ae (kQ h (fun _ h=>skW (Ab (Ad (Ab (Aa 13 (rsT 2 (riH Y6 h fun x15 _ h=>rsT 2 (rcH h V9 fun y16 h=>rsT 1 (rnW (Ae (kQ h (fun _ h=>Ae (Ac (br_ (tr_ (tr_ (br_ (tr_ (have h:=jO h hn9;(have h:=jO h hk7;jS h))))))))) fun _ h=>Aw (bn_ (tn_ (wr_ (Aa 18 (rsT 1 (raH h fun h=>rsT 1 (Ap (tn_ (jL [])))))))))))))))))))) fun _ h=>lxT (have h:=jO h hn9;jC [])))
def L9 (u0 u1:Int) (u2:ByteArray):Option (Int×Int×ByteArray) :=
 some (u0,u1,u2)
def Wr (r:Int×Int×ByteArray):RV:=⟨false,[(true,[.sc (.int .i64 r.1),.sc (.int .i64 r.2.1),.sc (.str r.2.2)])]⟩
theorem V6 (h:L9 bA bB gA=some iA):cK 74 [.agg [ai bA,ai bB,.str gA]] (Wr iA):=by
 exact cO Tryz.func74 (Ae (Ae (Ae (Ae (Ae (Ae (Ac (jS h))))))))
def E0 (a0:List (Int×Int×ByteArray)) (u0:Nat) (u1:List (Int×Int×ByteArray)):Option (Ctl (Nat×(List (Int×Int×ByteArray))) (List (Int×Int×ByteArray))) :=
 cond (decide ((u0:Int)<(a0.length:Int)))
 ((a0[u0]?).bind fun x11 =>
 (L9 x11.1 x11.2.1 x11.2.2).bind fun y12 =>
 (u1[u0]?).bind fun x13 =>
 og (u0+1<4611686018427387904) <|
 some (Ctl.next (u0+1,u1.set u0 y12)))
 (some (Ctl.out u1))
def Ht (a0:List (Int×Int×ByteArray)):Option (List (Int×Int×ByteArray)) :=
 og (0<=(a0.length:Int)/\(a0.length:Int)<=(a0.length:Int)/\(a0.length:Int)<=1073741824/\(32:Int)*(a0.length:Int)<=140737488355328) <|
(Aq (fun s_:Nat×(List (Int×Int×ByteArray))=>E0 a0 s_.1 s_.2) 4611686018427387904 (0,List.replicate a0.length ((0,0,(⟨#[]⟩:ByteArray)):Int×Int×ByteArray))).bind fun u0 =>
some u0
def Np (r:List (Int×Int×ByteArray)):RV:=⟨false,[(false,[.new 94 Y6 r])]⟩
theorem Ue (h:Ht hA=some hB):cK 49 [.tree Y6 hA] (Np hB):=by
 refine cO Tryz.func49 (Ae (Ab (Aa 6 (rsT 2 ?_))));obtain ⟨g3,h⟩:=Au h;refine rs1 (.own (oi 7 4) Y6 0 hA.length) (oi 7 4) (.arr 94 Y6 (List.replicate hA.length ((0,0,(⟨#[]⟩:ByteArray)):Int×Int×ByteArray))) (Ad9 (t:=Y6) (k:=.i64) (k':=.i64) (m:=(hA.length:Int)) (m':=(hA.length:Int)) kr kr g3 rfl) (rsT 1 (rnW (sqF h (fun u2=>sT [(3,.own (oi 0 1) Y6 0 u2.length)] [(oi 0 1,.arr 94 Y6 u2)]) ?_ fun u2 h=>Ae (Ac (jR h [.own (oi 0 1) Y6 0 u2.length] (Hi rfl (Dg kr rfl) Gq))))));intro _ h;refine Ae (Ad (lpF h (fun (u1,u0)=>sT [(0,.tree Y6 hA),(3,.own (oi 0 1) Y6 0 u0.length),(4,an u1)] [(oi 0 1,.arr 94 Y6 u0)]) ((wL 3 (List.length_replicate.symm:hA.length=(List.replicate hA.length ((0,0,(⟨#[]⟩:ByteArray)):Int×Int×ByteArray)).length)).trans (Aj [(oi 0 1,oi 7 4)])) ?_));rintro n_ ⟨u1,u0⟩ c_ h hn6;refine Ab (Ae (kQ h (fun _ h=>skW (Ab (Ad (Aa 15 (rsT 4 (riH Y6 h fun x11 _ h=>rsT 1 (rcH h V6 fun y12 h=>?_))))))) fun _ h=>lxT (have h:=jO h hn6;jE [])));obtain ⟨x13,e13,h⟩:=Am h;refine rs0 (.elt (oi 0 1) u1 0) (zo (t:=Y6) (o:=oi 0 1) (len:=u0.length) (k:=.i64) (m:=(u1:Int)) (Cs _) (An e13)) (Ae0 (oi 0 1) (oi 0 1) (.arr 94 Y6 (u0.set u1 y12)) (Yn (i:=oi 0 1) (j:=u1) (k:=0) (e:=94) (t:=Y6) (xs:=u0) (cs:=[ai y12.1,ai y12.2.1,.str y12.2.2]) (x1:=y12) kr kr e13 kr kr) (Ap (bn_ (tn_ (wr_ (Aa 18 (rsT 1 (raH h fun h=>rsT 1 (Ap (tn_ ?_))))))))));obtain rfl:=zj h;exact jLw hn6 ((wL 3 (((rfl:u0.length=u0.length).trans List.length_set.symm):u0.length=(u0.set u1 y12).length)).trans (Aj []))
def Lx (u0 u1:Int) (u2:ByteArray) (u3 u4:Int) (u5:ByteArray):Option Bool :=
 cond (u0 !=u3)
 (some false)
 (cond (u1 !=u4)
  (some false)
  (cond (!(u2.toList==u5.toList))
   (some false)
   (some true)))
theorem V3 (h:Lx bA bB gA bC bD gB=some cA):cK 89 [.agg [ai bA,ai bB,.str gA],.agg [ai bC,ai bD,.str gB]] (Ai cA):=by
 exact cO Tryz.func89 (Ae (Ab (Ae (kQ h (fun _ h=>Ae (Ac (tr_ (jS h)))) fun _ h=>skW (Ab (Ae (kQ h (fun _ h=>Ae (Ac (tr_ (jS h)))) fun _ h=>skW (Ab (Ae (kQ h (fun _ h=>Ae (Ac (tr_ (jS h)))) fun _ h=>skW (Ae (Ac (jS h)))))))))))))
def E9 (a0:List (Int×Int×ByteArray)) (a1:List (Int×Int×ByteArray)) (u0:Nat):Option (Ctl Nat (Ctl Unit Bool)) :=
 cond (decide ((u0:Int)<(a0.length:Int)))
 ((a0[u0]?).bind fun x14 =>
 (a1[u0]?).bind fun x15 =>
 (Lx x14.1 x14.2.1 x14.2.2 x15.1 x15.2.1 x15.2.2).bind fun y16 =>
 cond (!y16)
  (some (Ctl.out (Ctl.out false)))
  (og (u0+1<4611686018427387904) <|
  some (Ctl.next (u0+1))))
 (some (Ctl.out (Ctl.next ())))
def Hq (a0:List (Int×Int×ByteArray)) (a1:List (Int×Int×ByteArray)):Option Bool :=
 cond ((a0.length:Int) !=(a1.length:Int))
 (some false)
 (Ce (Aq (fun s_:Nat=>E9 a0 a1 s_) 4611686018427387904 0) fun _ =>
 some true)
theorem T9 (h:Hq hA hB=some cA):cK 59 [.tree Y6 hA,.tree Y6 hB] (Ai cA):=by
 exact cO Tryz.func59 (Ae (Ab (Ae (kQ h (fun _ h=>Ae (Ac (tr_ (jS h)))) fun _ h=>skW (sqC h (fun _=>sT [] []) (fun _ h hk6=>Ae (Ad (lpF h (fun u0=>sT [(0,.tree Y6 hA),(1,.tree Y6 hB),(5,an u0)] []) (Aj []) (fun n_ u0 c_ h hn8=>Ab (Ae (kQ h (fun _ h=>skW (Ab (Ad (Ab (As 16 (ds0 (.tree Y6 hA) kr (ds0 (an u0) kr (diH Y6 h fun x14 _ h=>dsT 3 (diH Y6 h fun x15 _ h=>ds0 (.agg [ai x15.1,ai x15.2.1,.str x15.2.2]) kr (dcH h V3 fun y16 h=>ds0 (.bool (!y16)) kr (D6 (A0 kr) (tn_ (wr_ (kQ h (fun _ h=>Ae (Ac (br_ (tr_ (tr_ (br_ (tr_ (have h:=jO h hn8;(have h:=jO h hk6;jS h))))))))) fun _ h=>Aw (bn_ (tn_ (wr_ (Aa 19 (rsT 1 (raH h fun h=>rsT 1 (Ap (tn_ (jL []))))))))))))))))))))))) fun _ h=>lxT (have h:=jO h hn8;jC []))))))) fun _ h=>Ae (Ac (jS h)))))))
def Lq (u0:List (Int×Int×ByteArray)) (a1:Int):Option Int :=
 (H3 u0 a1).bind fun y3 =>
cond (decide (y3<0))
 (some (-1))
 (some y3)
theorem Vu (h:Lq hA bA=some bB):cK 15 [.agg [.tree Y6 hA],ai bA] (A7 bB):=by
 exact cO Tryz.func15 (Ae (Ab (Aa 8 (rsT 3 (rcH h T3 fun y3 h=>rsT 1 (rnW (Ab (Ae (kQ h (fun _ h=>Ae (Ac (tr_ (jS h)))) fun _ h=>skW (Ae (Ac (jS h))))))))))))
def Mc (u0:List (Int×Int×ByteArray)):Option (List (Int×Int×ByteArray)) :=
 (Ht u0).bind fun y4 =>
some y4
def Oi (r:List (Int×Int×ByteArray)):RV:=⟨false,[(true,[.new 94 Y6 r])]⟩
theorem U8 (h:Mc hA=some hB):cK 23 [.agg [.tree Y6 hA]] (Oi hB):=by
 exact cO Tryz.func23 (Ae (Ae (Ab (Aa 9 (rsT 2 (rcH h Ue fun y4 h=>rsB 2 (rnW (Ae (Ac (jR h [.agg [.own (oi 96 6) Y6 0 y4.length]] (N9 (Cr (Dg kr rfl) Pt) Gq)))))))))))
def Lu (u0:List (Int×Int×ByteArray)) (u1:List (Int×Int×ByteArray)):Option Bool :=
 (Hq u0 u1).bind fun y4 =>
cond (!y4)
 (some false)
 (some true)
theorem W4 (h:Lu hA hB=some cA):cK 29 [.agg [.tree Y6 hA],.agg [.tree Y6 hB]] (Ai cA):=by
 exact cO Tryz.func29 (Ae (Ab (Ab (Aa 10 (rsT 4 (rcH h T9 fun y4 h=>rsT 1 (rnW (kQ h (fun _ h=>Ae (Ac (tr_ (jS h)))) fun _ h=>skW (Ae (Ac (jS h)))))))))))
def C6 (u0:ByteArray) (u1:List (Int×Int×ByteArray)) (u2 u3:Int) (u4:LL) (a1:Int):Option Int :=
 cond (decide (wI (a1 - (u0.size:Int))<0))
 (some (-1))
 ((Lq u1 (wI (a1 - (u0.size:Int)))).bind fun y8 =>
 cond (decide (y8<0))
  (some (-1))
  ((Fa u2 u3 u4 y8).bind fun y14 =>
  cond (decide (y14<0))
   (some (-1))
   (some y14)))
theorem J0 (h:C6 gA hA bA bB dA bC=some bD):cK 5 [.agg [.str gA,.tree Y6 hA,ai bA,ai bB,tS dA],ai bC] (A7 bD):=by
 exact cO Tryz.func5 (Ae (Ae (Ab (Ae (kQ h (fun _ h=>Ae (Ac (tr_ (jS h)))) fun _ h=>skW (Ab (Aa 16 (rsT 3 (rcH h Vu fun y8 h=>rsT 1 (rnW (Ab (Ae (kQ h (fun _ h=>Ae (Ac (tr_ (jS h)))) fun _ h=>skW (Ab (Aa 23 (rsT 3 (rcH h Qr fun y14 h=>rsT 1 (rnW (Ab (Ae (kQ h (fun _ h=>Ae (Ac (tr_ (jS h)))) fun _ h=>skW (Ae (Ac (jS h))))))))))))))))))))))))
def Hb (u4:ByteArray) (u0:List (Int×Int×ByteArray)) (u1 u2:Int) (u3:LL):Option ((List (Int×Int×ByteArray))×LL) :=
 (Mc u0).bind fun y6 =>
(E5 u1 u2 u3).bind fun y8 =>
some (y6,y8)
theorem Pj (h:Hb gA hA bA bB dA=some jA):Gj Tryz.prog Tab 8 [.agg [.str gA,.tree Y6 hA,ai bA,ai bB,tS dA]] [] (.agg [.str gA,.own (oi 1 1) Y6 0 jA.1.length,ai bA,ai bB,oS 2 1 jA.2.length]) [(oi 0 1,.cells 42 [.str gA,.own (oi 1 1) Y6 0 jA.1.length,ai bA,ai bB,oS 2 1 jA.2.length]),(oi 1 1,.arr 94 Y6 jA.1),(oi 2 1,.mat 87 (oi 3 1) .int jA.2),(oi 3 1,.pool 3 .int jA.2)]:=by
 refine Dh kr Tryz.func8 (Ei kr) (n:=16) kr (by simp) rfl kr trivial ⟨trivial,⟨trivial,⟨⟨3,.tail _ (.tail _ (.tail _ (.head _)))⟩,⟨trivial,trivial⟩⟩⟩⟩ (Ae (Ae (Ae (Ab (Aa 13 (rsT 2 (rcH h U8 fun y6 h=>rsB 2 (rnW (Ab (Aa 18 (rsT 2 (rcM h [] [.agg [ai bA,ai bB,tS dA]] P9 trivial (aR kr) (Bq kr kr trivial) fun y8 h=>rsB 2 (rnW (Ae (Ac ?_)))))))))))))));obtain rfl:=zj h;exact Jm [.agg [.str gA,.own (oi 1 1) Y6 0 y6.length,ai bA,ai bB,oS 2 1 y8.length]] (Aj (tl:=[(2,.box (oi 0 1) 0)]) (g:=2) [(oi 0 1,oi 2 2),(oi 1 1,oi 144 10),(oi 2 1,oi 209 15),(oi 3 1,oi 210 15)])
def D9 (u0:ByteArray) (u1:List (Int×Int×ByteArray)) (u2 u3:Int) (u4:LL) (u5:ByteArray) (u6:List (Int×Int×ByteArray)) (u7 u8:Int) (u9:LL):Option Bool :=
 cond (!(u0.toList==u5.toList))
 (some false)
 ((Lu u1 u6).bind fun y8 =>
 cond (!y8)
  (some false)
  ((E6 u2 u3 u4 u7 u8 u9).bind fun y13 =>
  cond (!y13)
   (some false)
   (some true)))
theorem Jx (h:D9 gA hA bA bB dA gB hB bC bD dB=some cA):cK 11 [.agg [.str gA,.tree Y6 hA,ai bA,ai bB,tS dA],.agg [.str gB,.tree Y6 hB,ai bC,ai bD,tS dB]] (Ai cA):=by
 exact cO Tryz.func11 (Ae (Ab (Ae (kQ h (fun _ h=>Ae (Ac (tr_ (jS h)))) fun _ h=>skW (Ab (Ab (Aa 15 (rsT 4 (rcH h W4 fun y8 h=>rsT 1 (rnW (kQ h (fun _ h=>Ae (Ac (tr_ (jS h)))) fun _ h=>skW (Ab (Ab (Aa 21 (rsT 4 (rcH h P3 fun y13 h=>rsT 1 (rnW (kQ h (fun _ h=>Ae (Ac (tr_ (jS h)))) fun _ h=>skW (Ae (Ac (jS h)))))))))))))))))))))
def Fj (a0:Int):Option Bool :=
 (cond (decide (97<=a0))
  (some (decide (a0<=122)))
  (some false)).bind fun u0 =>
some u0
theorem Nq (h:Fj bA=some cA):cK 77 [.int .u8 bA] (Ai cA):=by
 exact cO Tryz.func77 (Ae (sqF h (fun u0=>sT [(2,.bool u0)] []) (fun _ h=>Aa 9 (rsT 3 (kR h 5 (fun _ h=>rsT 4 (Ap (tn_ (jE [])))) fun _ h=>rsT 4 (Ap (tn_ (jE [])))))) fun u0 h=>Ac (jS h)))
def Ip  : Option (List ByteArray) :=
 some ([(⟨#[]⟩:ByteArray),(⟨#[105,100]⟩:ByteArray),(⟨#[115,119,97,112]⟩:ByteArray),(⟨#[99,111,112,121]⟩:ByteArray),(⟨#[100,105,115,99,97,114,100]⟩:ByteArray),(⟨#[97,100,100]⟩:ByteArray),(⟨#[122,101,114,111]⟩:ByteArray),(⟨#[115,99,97,108,101]⟩:ByteArray),(⟨#[100,101,108,97,121]⟩:ByteArray),(⟨#[99,111,99,111,112,121]⟩:ByteArray),(⟨#[99,111,100,105,115,99,97,114,100]⟩:ByteArray),(⟨#[99,111,97,100,100]⟩:ByteArray),(⟨#[99,111,122,101,114,111]⟩:ByteArray),(⟨#[99,111,115,99,97,108,101]⟩:ByteArray),(⟨#[99,111,100,101,108,97,121]⟩:ByteArray)])
def Lm (r:List ByteArray):RV:=⟨false,[(false,[.new 9 .str r])]⟩
theorem Rz (h:Ip=some kA):cK 99 [] (Lm kA):=by
 exact cO Tryz.func99 (Ae (Ae (Ac (jR h [.own (oi 1 2) .str 0 15] (Hi rfl (Dg kr rfl) Gq)))))
def C0 (y4:List ByteArray) (a0:ByteArray) (u0:Nat):Option (Ctl Nat (Ctl Unit Int)) :=
 cond (decide ((u0:Int)<(y4.length:Int)))
 ((y4[u0]?).bind fun x11 =>
 cond (x11.toList==a0.toList)
  (some (Ctl.out (Ctl.out (u0:Int))))
  (og (u0+1<4611686018427387904) <|
  some (Ctl.next (u0+1))))
 (some (Ctl.out (Ctl.next ())))
def I7 (a0:ByteArray):Option Int :=
 Ce ((Ip).bind fun y4 =>
 Aq (fun s_:Nat=>C0 y4 a0 s_) 4611686018427387904 0) fun _ =>
some 17
theorem Vx (h:I7 gA=some bA):cK 78 [.str gA] (A7 bA):=by
 refine cO Tryz.func78 (Ae (sqC h (fun _=>sT [] []) ?_ fun _ h=>Ae (Ac (jS h))));intro _ h hk2;refine Ab (Aa 5 (rcH h Rz fun y4 h=>rsT 2 (rnW (Ad (lpF h (fun u0=>sT [(0,.str gA),(5,.own (oi 0 1) .str 0 y4.length),(6,an y4.length),(7,an u0)] [(oi 0 1,.arr 9 .str y4)]) (Aj [(oi 0 1,oi 80 2)]) ?_)))));intro n_ u0 c_ h hn5;refine Ae (Ab (kQ h (fun _ h=>skW (Ab (Ad (Ab (Aa 8 (rsT 1 ?_)))))) fun _ h=>lxT (have h:=jO h hn5;jC [])));obtain ⟨x11,e11,h⟩:=Am h;exact zO (oi 0 1) .str y4.length (An e11) (rsl (.str x11) (Gg (i:=oi 0 1) (j:=u0) (k:=0) (e:=9) (t:=.str) (xs:=y4) kr kr e11 kr) (rsT 2 (rnW (Ae (kQ h (fun _ h=>Ae (Ac (br_ (tr_ (tr_ (br_ (tr_ (have h:=jO h hn5;(have h:=jO h hk2;jS h))))))))) fun _ h=>Aw (bn_ (tn_ (wr_ (Aa 13 (raH h fun h=>rsT 1 (Ap (tn_ (jL [])))))))))))))
def Hz (a0:Int):Option Bool :=
 (cond (decide (48<=a0))
  (some (decide (a0<=57)))
  (some false)).bind fun u0 =>
some u0
theorem Ub (h:Hz bA=some cA):cK 79 [.int .u8 bA] (Ai cA):=by
 exact cO Tryz.func79 (Ae (sqF h (fun u0=>sT [(2,.bool u0)] []) (fun _ h=>Aa 9 (rsT 3 (kR h 5 (fun _ h=>rsT 4 (Ap (tn_ (jE [])))) fun _ h=>rsT 4 (Ap (tn_ (jE [])))))) fun u0 h=>Ac (jS h)))
def F5 (a0:ByteArray) (u0:Nat):Option (Ctl Nat (Ctl Unit Bool)) :=
 cond (decide ((u0:Int)<(a0.size:Int)))
 (((a0[u0]?).bind fun x21 =>
  (Fj (x21.toNat:Int)).bind fun y22 =>
  cond (!y22)
   ((a0[u0]?).bind fun x24 =>
   (Hz (x24.toNat:Int)).bind fun y25 =>
   some (!y25))
   (some false)).bind fun u1 =>
 cond u1
  (some (Ctl.out (Ctl.out false)))
  (og (u0+1<4611686018427387904) <|
  some (Ctl.next (u0+1))))
 (some (Ctl.out (Ctl.next ())))
def Iz (a0:ByteArray):Option Bool :=
 ((Br (a0.size:Int) 1 8).bind fun y4 =>
 cond (!y4)
  (some true)
  ((a0[0]?).bind fun x6 =>
  (Fj (x6.toNat:Int)).bind fun y7 =>
  cond (!y7)
   (some true)
   ((I7 a0).bind fun y9 =>
   some (y9 !=17)))).bind fun u0 =>
cond u0
 (some false)
 (Ce (Aq (fun s_:Nat=>F5 a0 s_) 4611686018427387904 0) fun _ =>
 some true)
theorem Vj (h:Iz gA=some cA):cK 52 [.str gA] (Ai cA):=by
 refine cO Tryz.func52 (Ae (Ab (sqF h (fun u1=>sT [(0,.str gA),(18,.bool u1)] []) ?_ ?_)))
 ·intro _ h;refine Aa 17 (rsT 2 (rcH h C8 fun y4 h=>rsT 2 ?_));rcases Ax h with ⟨q5,h⟩|⟨q5,h⟩
  ·exact rq 8 q5 (rsT 10 (Ap (tn_ (jE []))))
  refine rq 8 q5 (rsT 1 ?_);obtain ⟨x6,e6,h⟩:=Am h;refine rs0 (.int .u8 (x6.toNat:Int)) (Kn (s:=gA) (k:=.i64) (m:=0) kr kr (by decide) rfl e6) (rcH h Nq fun y7 h=>rsT 3 ?_);rcases Ax h with ⟨q8,h⟩|⟨q8,h⟩
  ·exact rq 14 q8 (rsT 4 (Ap (tn_ (jE []))))
  exact rq 14 q8 (rsT 1 (rcH h Vx fun y9 h=>rsT 2 (Ap (tn_ (jE [])))))
 intro u1 h;refine kQ h (fun _ h=>Ae (Ac (tr_ (jS h)))) fun _ h=>skW (sqC h (fun _=>sT [] []) ?_ fun _ h=>Ae (Ac (jS h)))
 intro _ h hk12;refine Ae (Ad (lpF h (fun u0=>sT [(0,.str gA),(20,an gA.size),(21,an u0)] []) (Aj []) ?_));intro n_ u0 c_ h hn14;refine Ae (Ab (kQ h (fun _ h=>skW (Ab (Ad (Ae (sqF h (fun u2=>sT [(0,.str gA),(20,an gA.size),(21,an u0),(35,.bool u2)] []) ?_ fun u2 h=>kQ h (fun _ h=>Ae (Ac (br_ (tr_ (tr_ (br_ (tr_ (have h:=jO h hn14;(have h:=jO h hk12;jS h))))))))) fun _ h=>Aw (bn_ (tn_ (wr_ (Aa 4 (raH h fun h=>rsT 1 (Ap (tn_ (jL []))))))))))))) fun _ h=>lxT (have h:=jO h hn14;jC [])));intro _ h;refine Aa 17 (rsT 2 ?_);obtain ⟨x21,e21,h⟩:=Am h;refine rs0 (.int .u8 (x21.toNat:Int)) (Kn (s:=gA) (k:=.i64) (m:=(u0:Int)) kr kr (Cs _) rfl e21) (rcH h Nq fun y22 h=>rsT 2 ?_);rcases Ax h with ⟨q23,h⟩|⟨q23,h⟩
 ·refine rq 29 q23 (rsT 2 ?_);obtain ⟨x24,e24,h⟩:=Am h;exact rs0 (.int .u8 (x24.toNat:Int)) (Kn (s:=gA) (k:=.i64) (m:=(u0:Int)) kr kr (Cs _) rfl e24) (rcH h Ub fun y25 h=>rsT 2 (Ap (tn_ (jE []))))
 exact rq 29 q23 (rsT 6 (Ap (tn_ (jE []))))
def Hc (a0:Int):Option Bool :=
 (Br a0 3 14).bind fun y3 =>
some y3
theorem Pe (h:Hc bA=some cA):cK 106 [ai bA] (Ai cA):=by
 exact cO Tryz.func106 (Ae (Ab (Aa 5 (rsT 1 (rcH h C8 fun y3 h=>rsT 1 (rnW (Ac (jS h))))))))
def Em (a0:Int):Option Bool :=
 (cond (a0==7)
  (some true)
  (some (a0==13))).bind fun u0 =>
some u0
theorem Mh (h:Em bA=some cA):cK 101 [ai bA] (Ai cA):=by
 exact cO Tryz.func101 (Ae (sqF h (fun u0=>sT [(2,.bool u0)] []) (fun _ h=>Aa 9 (rsT 3 (kR h 5 (fun _ h=>rsT 4 (Ap (tn_ (jE [])))) fun _ h=>rsT 4 (Ap (tn_ (jE [])))))) fun u0 h=>Ac (jS h)))
def Dy (a0 a1:Int):Option Bool :=
 (Em a0).bind fun y4 =>
cond y4
 ((Br a1 0 96).bind fun y7 =>
 some y7)
 (some (a1==0))
theorem Mb (h:Dy bA bB=some cA):cK 108 [ai bA,ai bB] (Ai cA):=by
 exact cO Tryz.func108 (Ae (Ab (Ab (Aa 4 (rsT 1 (rcH h Mh fun y4 h=>rnW (kQ h (fun _ h=>Ab (Aa 7 (rsT 1 (rcH h C8 fun y7 h=>rsT 1 (rnW (Ac (tr_ (jS h)))))))) fun _ h=>skW (Ae (Ac (jS h))))))))))
def D3 (u0 u1:Int) (u2:ByteArray):Option (Int×Int×Bool) :=
 cond (!(u2.toList==(⟨#[]⟩:ByteArray).toList))
 (some (0,0,false))
 (cond (u0==1)
  ((Br u1 0 12).bind fun y9 =>
  some (u1,u1,y9))
  (cond (u0==2)
   (some (2,2,u1==0))
   ((Hc u0).bind fun y14 =>
   cond y14
    ((Ex u0).bind fun y17 =>
    (Dy u0 u1).bind fun y18 =>
    some (y17.1,y17.2,y18))
    (some (0,0,false)))))
def E7 (r:Int×Int×Bool):RV:=⟨true,[(true,[.sc (.int .i64 r.1),.sc (.int .i64 r.2.1)]),(false,[.sc (.bool r.2.2)])]⟩
theorem Q1 (h:D3 bA bB gA=some lA):cK 85 [.agg [ai bA,ai bB,.str gA]] (E7 lA):=by
 exact cO Tryz.func85 (Ae (Ab (Ad (Ae (kQ h (fun _ h=>Ae (Ac (br_ (tr_ (jS h))))) fun _ h=>Ae (kQ h (fun _ h=>Ab (As 22 (dsT 7 (dcH h C8 fun y9 h=>Pi (oi 2 2) (oi 2 2) (.cells 84 [ai bB,ai bB]) kr (ds0 (.bool y9) kr (D6 (A0 kr) (tn_ (wr_ (Ac (br_ (tr_ (jS h)))))))))))) fun _ h=>Ae (kQ h (fun _ h=>Ab (As 22 (dsT 4 (Pi (oi 2 2) (oi 2 2) (.cells 84 [ai 2,ai 2]) kr (ds0 (.bool (bB==0)) kr (D6 (A0 kr) (tn_ (wr_ (Ac (br_ (tr_ (jS h)))))))))))) fun _ h=>Ab (Aa 20 (rsT 2 (rcH h Pe fun y14 h=>rsT 1 (rnW (kQ h (fun _ h=>Ab (As 30 (ds0 (.box (oi 1 1) 0) kr (dsl (ai bA) kr (dcH h M9 fun y17 h=>dsT 4 (dcH h Mb fun y18 h=>Pi (oi 2 2) (oi 2 2) (.cells 84 [ai y17.1,ai y17.2]) kr (ds0 (.bool y18) kr (D6 (A0 kr) (tn_ (wr_ (Ac (br_ (tr_ (jS h)))))))))))))) fun _ h=>Aw (bn_ (tn_ (wr_ (Ae (Ac (jS h))))))))))))))))))
def Bg (a0:ByteArray) (u0:Nat):Option (Ctl Nat (Ctl Unit Bool)) :=
 cond (decide ((u0:Int)<(a0.size:Int)))
 (((a0[u0]?).bind fun x19 =>
  cond (decide ((x19.toNat:Int)<97))
   ((a0[u0]?).bind fun x21 =>
   cond (decide ((x21.toNat:Int)<48))
    (some true)
    ((a0[u0]?).bind fun x23 =>
    some (decide (57<(x23.toNat:Int)))))
   ((a0[u0]?).bind fun x24 =>
   cond (decide (122<(x24.toNat:Int)))
    ((a0[u0]?).bind fun x26 =>
    cond (decide ((x26.toNat:Int)<48))
     (some true)
     ((a0[u0]?).bind fun x28 =>
     some (decide (57<(x28.toNat:Int)))))
    (some false))).bind fun u1 =>
 cond u1
  (some (Ctl.out (Ctl.out false)))
  (og (u0+1<4611686018427387904) <|
  some (Ctl.next (u0+1))))
 (some (Ctl.out (Ctl.next ())))
def Lw (a0:ByteArray):Option Bool :=
 ((Bu (a0.size:Int) 1 8).bind fun y4 =>
 cond (!y4)
  (some true)
  ((a0[0]?).bind fun x6 =>
  cond (decide ((x6.toNat:Int)<97))
   (some true)
   ((a0[0]?).bind fun x8 =>
   some (decide (122<(x8.toNat:Int)))))).bind fun u0 =>
cond u0
 (some false)
 (Ce (Aq (fun s_:Nat=>Bg a0 s_) 4611686018427387904 1) fun _ =>
 some true)
theorem W3 (h:Lw gA=some cA):cK 67 [.str gA] (Ai cA):=by
 refine cO Tryz.func67 (Ae (Ab (sqF h (fun u1=>sT [(0,.str gA),(17,.bool u1)] []) ?_ ?_)))
 ·intro _ h;refine Aa 16 (rsT 2 (rcH h Cd fun y4 h=>rsT 2 ?_));rcases Ax h with ⟨q5,h⟩|⟨q5,h⟩
  ·exact rq 8 q5 (rsT 9 (Ap (tn_ (jE []))))
  refine rq 8 q5 (rsT 1 ?_);obtain ⟨x6,e6,h⟩:=Am h;refine rs0 (.int .u8 (x6.toNat:Int)) (Kn (s:=gA) (k:=.i64) (m:=0) kr kr (by decide) rfl e6) (rsT 3 ?_);rcases Ax h with ⟨q7,h⟩|⟨q7,h⟩
  ·exact rq 13 q7 (rsT 4 (Ap (tn_ (jE []))))
  refine rq 13 q7 (rsT 1 ?_);obtain ⟨x8,e8,h⟩:=Am h;exact rs0 (.int .u8 (x8.toNat:Int)) (Kn (s:=gA) (k:=.i64) (m:=0) kr kr (by decide) rfl e8) (rsT 2 (Ap (tn_ (jE []))))
 intro u1 h;refine kQ h (fun _ h=>Ae (Ac (tr_ (jS h)))) fun _ h=>skW (sqC h (fun _=>sT [] []) ?_ fun _ h=>Ae (Ac (jS h)))
 intro _ h hk11;refine Ae (Ad (lpF h (fun u0=>sT [(0,.str gA),(3,an u0)] []) (Aj []) ?_));intro n_ u0 c_ h hn13;refine Ab (Ae (kQ h (fun _ h=>skW (Ab (Ad (sqF h (fun u2=>sT [(0,.str gA),(3,an u0),(45,.bool u2)] []) ?_ fun u2 h=>kQ h (fun _ h=>Ae (Ac (br_ (tr_ (tr_ (br_ (tr_ (have h:=jO h hn13;(have h:=jO h hk11;jS h))))))))) fun _ h=>Aw (bn_ (tn_ (wr_ (Aa 5 (rsT 1 (raH h fun h=>rsT 1 (Ap (tn_ (jL []))))))))))))) fun _ h=>lxT (have h:=jO h hn13;jC [])));intro _ h;refine Aa 28 (rsT 2 ?_);obtain ⟨x19,e19,h⟩:=Am h;refine rs0 (.int .u8 (x19.toNat:Int)) (Kn (s:=gA) (k:=.i64) (m:=(u0:Int)) kr kr (Cs _) rfl e19) (rsT 2 ?_);rcases Ax h with ⟨q20,h⟩|⟨q20,h⟩
 ·refine rq 28 q20 (rsT 8 ?_);obtain ⟨x21,e21,h⟩:=Am h;refine rs0 (.int .u8 (x21.toNat:Int)) (Kn (s:=gA) (k:=.i64) (m:=(u0:Int)) kr kr (Cs _) rfl e21) (rsT 2 ?_);rcases Ax h with ⟨q22,h⟩|⟨q22,h⟩
  ·exact rq 39 q22 (rsT 6 (Ap (tn_ (jE []))))
  refine rq 39 q22 (rsT 2 ?_);obtain ⟨x23,e23,h⟩:=Am h;exact rs0 (.int .u8 (x23.toNat:Int)) (Kn (s:=gA) (k:=.i64) (m:=(u0:Int)) kr kr (Cs _) rfl e23) (rsT 3 (Ap (tn_ (jE []))))
 refine rq 28 q20 (rsT 2 ?_);obtain ⟨x24,e24,h⟩:=Am h;refine rs0 (.int .u8 (x24.toNat:Int)) (Kn (s:=gA) (k:=.i64) (m:=(u0:Int)) kr kr (Cs _) rfl e24) (rsT 3 ?_);rcases Ax h with ⟨q25,h⟩|⟨q25,h⟩
 ·refine rq 34 q25 (rsT 2 ?_);obtain ⟨x26,e26,h⟩:=Am h;refine rs0 (.int .u8 (x26.toNat:Int)) (Kn (s:=gA) (k:=.i64) (m:=(u0:Int)) kr kr (Cs _) rfl e26) (rsT 2 ?_);rcases Ax h with ⟨q27,h⟩|⟨q27,h⟩
  ·exact rq 39 q27 (rsT 6 (Ap (tn_ (jE []))))
  refine rq 39 q27 (rsT 2 ?_);obtain ⟨x28,e28,h⟩:=Am h;exact rs0 (.int .u8 (x28.toNat:Int)) (Kn (s:=gA) (k:=.i64) (m:=(u0:Int)) kr kr (Cs _) rfl e28) (rsT 3 (Ap (tn_ (jE []))))
 exact rq 34 q25 (rsT 5 (rs0 (.tup []) (Un kr) (rs0 (.tup []) (Un kr) (rs0 (.tup []) (Un kr) (rs0 (.tup []) (Un kr) (rsT 2 (Ap (tn_ (jE [])))))))))
def Hn  : Option (List ByteArray) :=
 some ([(⟨#[105,100]⟩:ByteArray),(⟨#[115,119,97,112]⟩:ByteArray),(⟨#[99,111,112,121]⟩:ByteArray),(⟨#[100,105,115,99,97,114,100]⟩:ByteArray),(⟨#[97,100,100]⟩:ByteArray),(⟨#[122,101,114,111]⟩:ByteArray),(⟨#[115,99,97,108,101]⟩:ByteArray),(⟨#[100,101,108,97,121]⟩:ByteArray),(⟨#[99,111,99,111,112,121]⟩:ByteArray),(⟨#[99,111,100,105,115,99,97,114,100]⟩:ByteArray),(⟨#[99,111,97,100,100]⟩:ByteArray),(⟨#[99,111,122,101,114,111]⟩:ByteArray),(⟨#[99,111,115,99,97,108,101]⟩:ByteArray),(⟨#[99,111,100,101,108,97,121]⟩:ByteArray)])
theorem P6 (h:Hn=some kA):cK 69 [] (Lm kA):=by
 exact cO Tryz.func69 (Ae (Ae (Ac (jR h [.own (oi 1 2) .str 0 14] (Hi rfl (Dg kr rfl) Gq)))))
def C2 (a0:List ByteArray) (a1:ByteArray) (u0:Nat):Option (Ctl Nat (Ctl Unit Bool)) :=
 cond (decide ((u0:Int)<(a0.length:Int)))
 ((a0[u0]?).bind fun x10 =>
 cond (x10.toList==a1.toList)
  (some (Ctl.out (Ctl.out true)))
  (og (u0+1<4611686018427387904) <|
  some (Ctl.next (u0+1))))
 (some (Ctl.out (Ctl.next ())))
def Ja (a0:List ByteArray) (a1:ByteArray):Option Bool :=
 Ce (Aq (fun s_:Nat=>C2 a0 a1 s_) 4611686018427387904 0) fun _ =>
some false
theorem U9 (h:Ja kA gA=some cA):cK 68 [.tree .str kA,.str gA] (Ai cA):=by
 exact cO Tryz.func68 (Ae (sqC h (fun _=>sT [] []) (fun _ h hk2=>Ae (Ad (lpF h (fun u0=>sT [(1,.str gA),(7,.tree .str kA),(8,an kA.length),(9,an u0)] []) (Aj []) (fun n_ u0 c_ h hn4=>Ae (Ab (kQ h (fun _ h=>skW (Ab (Ad (Ab (Aa 6 (riH .str h fun x10 _ h=>rsT 2 (rnW (Ae (kQ h (fun _ h=>Ae (Ac (br_ (tr_ (tr_ (br_ (tr_ (have h:=jO h hn4;(have h:=jO h hk2;jS h))))))))) fun _ h=>Aw (bn_ (tn_ (wr_ (Aa 11 (raH h fun h=>rsT 1 (Ap (tn_ (jL []))))))))))))))))) fun _ h=>lxT (have h:=jO h hn4;jC []))))))) fun _ h=>Ae (Ac (jS h))))
def I3 (a0:ByteArray):Option Bool :=
 ((Lw a0).bind fun y3 =>
 cond y3
  ((Hn).bind fun y5 =>
  (Ja y5 a0).bind fun y6 =>
  some (!y6))
  (some false)).bind fun u0 =>
some u0
theorem Xg (h:I3 gA=some cA):cK 42 [.str gA] (Ai cA):=by
 refine cO Tryz.func42 (Ae (sqF h (fun u0=>sT [(2,.bool u0)] []) ?_ fun u0 h=>Ac (jS h)));intro _ h;refine Aa 11 (rsT 1 (rcH h W3 fun y3 h=>rsT 1 ?_));rcases Ax h with ⟨q4,h⟩|⟨q4,h⟩
 ·exact rq 5 q4 (rcH h P6 fun y5 h=>rsT 1 (rcG h [.own (oi 96 5) .str 0 y5.length,.str gA] U9 (Gy (Qc (e:=9) kr rfl) (Gy kr Sc)) fun y6 h=>rsT 3 (Ap (tn_ (jE [])))))
 exact rq 5 q4 (rsT 6 (Ap (tn_ (jE []))))
end


section
open Go.RowKit Go.Deep
set_option maxRecDepth 4000
set_option maxHeartbeats 4800000
variable {bA bB bC bD bE:Int} {cA:Bool} {lA:Int×Int×Bool} {hA:List (Int×Int×ByteArray)} {gA:ByteArray} {dA:LL}
def Ig (u0 u1:Int):Option Bool :=
 (cond (decide (u0<=12))
  (some (decide (u1<=12)))
  (some false)).bind fun u2 =>
some u2
theorem R5 (h:Ig bA bB=some cA):cK 119 [.agg [ai bA,ai bB]] (Ai cA):=by
 exact cO Tryz.func119 (Ae (sqF h (fun u2=>sT [(2,.bool u2)] []) (fun _ h=>Aa 12 (rsT 4 (kR h 6 (fun _ h=>rsT 5 (Ap (tn_ (jE [])))) fun _ h=>rsT 5 (Ap (tn_ (jE [])))))) fun u2 h=>Ac (jS h)))
def Dx (a0 u0:Int) (u1 u2 u3:Int):Option (Int×Int×Bool) :=
 cond (a0==15)
 (some (u0,u3,u1==u2))
 ((Ig (wI (u0+u2)) (wI (u1+u3))).bind fun y8 =>
 some (wI (u0+u2),wI (u1+u3),y8))
theorem Rr (h:Dx bA bB bC bD bE=some lA):cK 105 [ai bA,.agg [ai bB,ai bC],.agg [ai bD,ai bE]] (E7 lA):=by
 exact cO Tryz.func105 (Ae (Ab (Ae (kQ h (fun _ h=>Ab (As 19 (dsT 10 (Pi (oi 6 3) (oi 6 3) (.cells 84 [ai bB,ai bE]) kr (ds0 (.bool (bC==bD)) kr (D6 (A0 kr) (tn_ (wr_ (Ac (tr_ (jS h))))))))))) fun _ h=>skW (Ae (Ab (As 25 (dsl (.agg [ai (wI (bB+bD)),ai (wI (bC+bE))]) kr (dsl (.agg [ai (wI (bB+bD)),ai (wI (bC+bE))]) kr (dcH h R5 fun y8 h=>Pi (oi 6 3) (oi 6 3) (.cells 84 [ai (wI (bB+bD)),ai (wI (bC+bE))]) kr (ds0 (.bool y8) kr (D6 (A0 kr) (tn_ (wr_ (Ac (jS h))))))))))))))))
def He (a0:List (Int×Int×ByteArray)) (u1:Nat) (u0:List (Int×Int)):Option (Ctl (Nat×(List (Int×Int))) (Ctl (List (Int×Int)) (Int×Int×Bool))) :=
 cond (decide ((u1:Int)<(a0.length:Int)))
 (Ce ((a0[u1]?).bind fun x16 =>
  (cond (x16.1 !=15)
    (some (x16.1 !=16))
    (some false)).bind fun u2 =>
  cond u2
   ((D3 x16.1 x16.2.1 x16.2.2).bind fun y22 =>
   cond (!y22.2.2)
    (some (Ctl.out (Ctl.out (Ctl.out (0,0,false)))))
    (og (u0.length+1<=1073741824/\(u0.length+1)*16<=140737488355328) <|
    some (Ctl.next (u0++([(y22.1,y22.2.1)])))))
   ((cond (x16.2.1 !=0)
     (some true)
     (cond (!(x16.2.2.toList==(⟨#[]⟩:ByteArray).toList))
      (some true)
      (some (decide ((u0.length:Int)<2))))).bind fun u3 =>
   cond u3
    (some (Ctl.out (Ctl.out (Ctl.out (0,0,false)))))
    ((Dn u0 (wI ((wI ((u0.length:Int) - 1)) - 1))).bind fun x37 =>
    (Dn u0 (wI ((wI ((u0.length:Int) - 1)) - 1))).bind fun x38 =>
    (Dn u0 (wI ((u0.length:Int) - 1))).bind fun x39 =>
    (Dn u0 (wI ((u0.length:Int) - 1))).bind fun x40 =>
    (Dx x16.1 x38.1 x38.2 x40.1 x40.2).bind fun y41 =>
    cond (!y41.2.2)
     (some (Ctl.out (Ctl.out (Ctl.out (0,0,false)))))
     (og ((0:Int)<=0/\0<=wI ((wI ((u0.length:Int) - 1)) - 1)/\wI ((wI ((u0.length:Int) - 1)) - 1)<=(u0.length:Int)) <|
     og (((u0.take ((wI ((wI ((u0.length:Int) - 1)) - 1)).toNat)).length)+1<=1073741824/\(((u0.take ((wI ((wI ((u0.length:Int) - 1)) - 1)).toNat)).length)+1)*16<=140737488355328) <|
     some (Ctl.next ((u0.take ((wI ((wI ((u0.length:Int) - 1)) - 1)).toNat))++([(y41.1,y41.2.1)]))))))) fun u4 =>
 og (u1+1<4611686018427387904) <|
 some (Ctl.next (u1+1,u4)))
 (some (Ctl.out (Ctl.next u0)))
def B7 (a0:List (Int×Int×ByteArray)):Option (Int×Int×Bool) :=
 (Br (a0.length:Int) 1 400).bind fun y4 =>
cond (!y4)
 (some (0,0,false))
 (Ce (Aq (fun s_:Nat×(List (Int×Int))=>He a0 s_.1 s_.2) 4611686018427387904 (0,[])) fun u0 =>
 (u0[0]?).bind fun x50 =>
 some (x50.1,x50.2,(u0.length:Int)==1))
theorem H6 (h:B7 hA=some lA):cK 84 [.tree Y6 hA,.fn 85 []] (E7 lA):=by
 refine cO Tryz.func84 (Ae (Ab (Ab (Aa 7 (rsT 2 (rcH h C8 fun y4 h=>rsT 1 (rnW (kQ h (fun _ h=>Ae (Ac (tr_ (jS h)))) fun _ h=>skW (Ae (sqC h (fun u1=>sT [(4,.box (oi 0 1) 0),(6,.own (oi 1 1) Y2 0 u1.length)] [(oi 0 1,.cells 84 [ai 0,ai 0]),(oi 1 1,.arr 84 Y2 u1)]) ?_ ?_))))))))))
 ·intro _ h hk8;refine Ae (Ad (lpF h (fun (u2,u0)=>sT [(1,.fn 85 []),(4,.box (oi 0 1) 0),(6,.own (oi 1 1) Y2 0 u0.length),(20,.tree Y6 hA),(21,an hA.length),(22,an u2)] [(oi 0 1,.cells 84 [ai 0,ai 0]),(oi 1 1,.arr 84 Y2 u0)]) (Aj [(oi 0 1,oi 4 1),(oi 1 1,oi 19 7)]) ?_));rintro n_ ⟨u2,u0⟩ c_ h hn10
  (try dsimp only at h);refine Ae (Ab (kQ h (fun q13 h=>?_) fun q13 h=>?_))
  ·have q13_:=of_decide_eq_true q13;refine skW (sqC h (fun u3=>sT [(1,.fn 85 []),(4,.box (oi 0 1) 0),(6,.own (oi 1 1) Y2 0 u3.length),(20,.tree Y6 hA),(21,an hA.length),(22,an u2)] [(oi 0 1,.cells 84 [ai 0,ai 0]),(oi 1 1,.arr 84 Y2 u3)]) ?_ ?_)
   ·intro _ h hk14;refine Ad (Ab (Aa 7 (riH Y6 h fun x16 _ h=>rsB 3 (rnW (Ab (sqF h (fun u4=>sT [(1,.fn 85 []),(4,.box (oi 0 1) 0),(6,.own (oi 1 1) Y2 0 u0.length),(8,.box (oi 2 1) 0),(20,.tree Y6 hA),(21,an hA.length),(22,an u2),(33,.bool u4)] [(oi 0 1,.cells 84 [ai 0,ai 0]),(oi 1 1,.arr 84 Y2 u0),(oi 2 1,.cells 94 [ai x16.1,ai x16.2.1,.str x16.2.2])]) (fun _ h=>Aa 15 (rsT 4 (kR h 29 (fun _ h=>rsT 4 (Ap (tn_ (jE [(oi 2 1,oi 8 5)])))) fun _ h=>rsT 4 (Ap (tn_ (jE [(oi 2 1,oi 8 5)])))))) ?_))))));intro u4 h
    (try dsimp only at h);refine kQ h (fun _ h=>?_) fun _ h=>?_
    ·refine Ab (Aa 11 (rsT 2 (rcH h Q1 fun y22 h=>rsB 6 (rnW (Ab (Ae (kQ h (fun _ h=>?_) fun _ h=>?_)))))))
     ·refine Ae (Ac (tr_ (tr_ (br_ (tr_ (tr_ (br_ (tr_ ?_))))))));have h:=jO h hk14
      (try dsimp only at h);have h:=jO h hn10
      (try dsimp only at h);have h:=jO h hk8
      (try dsimp only at h);exact jS h
     refine skW (Ab (Aa 18 (rsB 3 ?_)));obtain ⟨g28,h⟩:=Au h;exact rs2 (.own (oi 1 16) Y2 0 ((u0++([(y22.1,y22.2.1)])).length)) (oi 1 1) (oi 1 16) (.arr 84 Y2 (u0++([(y22.1,y22.2.1)]))) (Qn (t:=Y2) (t':=Y2) (xs:=u0) (ys:=[(y22.1,y22.2.1)]) (zs:=u0++([(y22.1,y22.2.1)])) (j:=oi 1 1) (len:=u0.length) (c:=.own (oi 45 15) Y2 0 1) kr kr rfl kr (Aas (e:=84) kr rfl) rfl g28) (rsT 1 (rnW (Eu (te_ (be_ (tn_ (jC [(oi 1 1,oi 1 16)])))))))
    refine skW (Ab (sqF h (fun u5=>sT [(1,.fn 85 []),(4,.box (oi 0 1) 0),(6,.own (oi 1 1) Y2 0 u0.length),(8,.box (oi 2 1) 0),(20,.tree Y6 hA),(21,an hA.length),(22,an u2),(59,.bool u5)] [(oi 0 1,.cells 84 [ai 0,ai 0]),(oi 1 1,.arr 84 Y2 u0),(oi 2 1,.cells 94 [ai x16.1,ai x16.2.1,.str x16.2.2])]) (fun _ h=>Aa 15 (rsT 4 (kR h 50 (fun _ h=>rsT 9 (Ap (tn_ (jE [])))) fun _ h=>rsT 5 (kR h 55 (fun _ h=>rsT 4 (Ap (tn_ (jE [])))) fun _ h=>rsT 4 (Ap (tn_ (jE []))))))) ?_));intro u5 h
    (try dsimp only at h);refine kQ h (fun _ h=>?_) fun _ h=>?_
    ·refine Ae (Ac (tr_ (br_ (tr_ (tr_ (br_ (tr_ ?_)))))));have h:=jO h hk14
     (try dsimp only at h);have h:=jO h hn10
     (try dsimp only at h);have h:=jO h hk8
     (try dsimp only at h);exact jS h
    refine skW (Ae (Ab (As 24 (dsT 5 ?_))));obtain ⟨x37,f37,h⟩:=Am h;obtain ⟨p37,b37,e37⟩:=A5 f37;refine ds0 (.elt (oi 1 1) ((wI ((wI ((u0.length:Int) - 1)) - 1)).toNat) 0) (zo (t:=Y2) (o:=oi 1 1) (len:=u0.length) (k:=.i64) (m:=wI ((wI ((u0.length:Int) - 1)) - 1)) p37 (An e37)) ?_;obtain ⟨x38,f38,h⟩:=Am h;obtain ⟨p38,b38,e38⟩:=A5 f38;refine dsl (.agg [ai x38.1,ai x38.2]) (Gg (i:=oi 1 1) (j:=(wI ((wI ((u0.length:Int) - 1)) - 1)).toNat) (k:=0) (e:=84) (t:=Y2) (xs:=u0) kr kr e38 kr) (dz0 (.own (oi 1 1) Y2 0 u0.length) (dz0 (ai (wI ((u0.length:Int) - 1))) ?_));obtain ⟨x39,f39,h⟩:=Am h;obtain ⟨p39,b39,e39⟩:=A5 f39;refine ds0 (.elt (oi 1 1) ((wI ((u0.length:Int) - 1)).toNat) 0) (zo (t:=Y2) (o:=oi 1 1) (len:=u0.length) (k:=.i64) (m:=wI ((u0.length:Int) - 1)) p39 (An e39)) ?_;obtain ⟨x40,f40,h⟩:=Am h;obtain ⟨p40,b40,e40⟩:=A5 f40;refine dsl (.agg [ai x40.1,ai x40.2]) (Gg (i:=oi 1 1) (j:=(wI ((u0.length:Int) - 1)).toNat) (k:=0) (e:=84) (t:=Y2) (xs:=u0) kr kr e40 kr) (dcH h Rr fun y41 h=>dz0 (.tup [.agg [ai y41.1,ai y41.2.1],.bool y41.2.2]) (dz0 (.agg [ai y41.1,ai y41.2.1]) (dz0 (.bool y41.2.2) (ds1 (.box (oi 12 21) 0) (oi 12 21) (.cells 84 [ai 0,ai 0]) kr (Pi (oi 12 21) (oi 12 21) (.cells 84 [ai y41.1,ai y41.2.1]) kr (dz0 (.bool y41.2.2) (D6 (A0 kr) (tn_ (wr_ (Ab (Ae (kQ h (fun _ h=>?_) fun _ h=>?_))))))))))))
    ·refine Ae (Ac (tr_ (br_ (tr_ (tr_ (br_ (tr_ ?_)))))));have h:=jO h hk14
     (try dsimp only at h);have h:=jO h hn10
     (try dsimp only at h);have h:=jO h hk8
     (try dsimp only at h);exact jS h
    refine skW (As 34 (dsT 3 ?_));obtain ⟨g46,h⟩:=Au h;obtain ⟨g47,h⟩:=Au h;exact ds0 (.own (oi 1 1) Y2 0 ((wI ((wI ((u0.length:Int) - 1)) - 1)).toNat)) (Ac8 (t:=Y2) (i:=oi 1 1) (off:=0) (len:=u0.length) (l:=0) (h:=wI ((wI ((u0.length:Int) - 1)) - 1)) kr kr kr rfl g46 rfl oM) (dzl (.agg [ai y41.1,ai y41.2.1]) (ds1 (.own (oi 87 31) Y2 0 1) (oi 87 31) (.arr 84 Y2 ([(y41.1,y41.2.1)])) kr (ds2 (.own (oi 1 32) Y2 0 (((u0.take ((wI ((wI ((u0.length:Int) - 1)) - 1)).toNat))++([(y41.1,y41.2.1)])).length)) (oi 1 1) (oi 1 32) (.arr 84 Y2 ((u0.take ((wI ((wI ((u0.length:Int) - 1)) - 1)).toNat))++([(y41.1,y41.2.1)]))) (Ao9 (t:=Y2) (t':=Y2) (xs:=u0) (ys:=[(y41.1,y41.2.1)]) (zs:=(u0.take ((wI ((wI ((u0.length:Int) - 1)) - 1)).toNat))++([(y41.1,y41.2.1)])) (j:=oi 1 1) (len:=(wI ((wI ((u0.length:Int) - 1)) - 1)).toNat) (c:=.own (oi 87 31) Y2 0 1) kr kr oM kr (Aas (e:=84) kr rfl) rfl g47) (dz0 (.own (oi 1 32) Y2 0 (((u0.take ((wI ((wI ((u0.length:Int) - 1)) - 1)).toNat))++([(y41.1,y41.2.1)])).length)) (D6 (A0 kr) (bn_ (tn_ (jC [(oi 1 1,oi 1 32)]))))))))
   intro u3 h
   (try dsimp only at h);refine Aa 4 ?_;obtain ⟨g48,h⟩:=Au h;exact zA g48 (rsT 1 (Ap (tn_ (jL []))))
  have q13_:=of_decide_eq_false q13;refine lxT ?_;have h:=jO h hn10
  (try dsimp only at h);exact jC []
 intro u1 h
 (try dsimp only at h);refine Ab (Aa 10 (rsT 1 ?_));obtain ⟨x50,e50,h⟩:=Am h;exact rs0 (.elt (oi 1 1) 0 0) (Zv (t:=Y2) (o:=oi 1 1) (len:=u1.length) (k:=.i64) (m:=0) kr kr rfl (by decide) rfl (An e50)) (rsl (.agg [ai x50.1,ai x50.2]) (Gg (i:=oi 1 1) (j:=0) (k:=0) (e:=84) (t:=Y2) (xs:=u1) kr kr e50 kr) (rsB 5 (rnW (Ac (jS h)))))
def Dl (u0:List (Int×Int×ByteArray)):Option (Int×Int×Bool) :=
 (B7 u0).bind fun y3 =>
some (y3.1,y3.2.1,y3.2.2)
theorem Kh (h:Dl hA=some lA):cK 55 [.agg [.tree Y6 hA]] (E7 lA):=by
 exact cO Tryz.func55 (Ae (Ab (Aa 11 (rsT 2 (rcH h H6 fun y3 h=>rsB 4 (rnW (Ac (jS h))))))))
def Gk (u0:List (Int×Int×ByteArray)):Option Bool :=
 (Dl u0).bind fun y3 =>
some y3.2.2
theorem Of (h:Gk hA=some cA):cK 100 [.agg [.tree Y6 hA]] (Ai cA):=by
 exact cO Tryz.func100 (Ae (Ab (Aa 11 (rsT 1 (rcH h Kh fun y3 h=>rsB 6 (rnW (Ae (Ac (jS h)))))))))
def Dc (u1:List (Int×Int×ByteArray)) (a1:Int) (u0:Nat):Option (Ctl Nat (Ctl Unit Bool)) :=
 cond (decide ((u0:Int)<(u1.length:Int)))
 ((u1[u0]?).bind fun x17 =>
 ((Em x17.1).bind fun y19 =>
  cond y19
   (some (decide (a1<=x17.2.1)))
   (some false)).bind fun u2 =>
 cond u2
  (some (Ctl.out (Ctl.out false)))
  (og (u0+1<4611686018427387904) <|
  some (Ctl.next (u0+1))))
 (some (Ctl.out (Ctl.next ())))
def Ea (u0:List (Int×Int×ByteArray)) (a1:Int):Option Bool :=
 ((C5 a1).bind fun y4 =>
 cond (!y4)
  (some true)
  ((Gk u0).bind fun y6 =>
  some (!y6))).bind fun u1 =>
cond u1
 (some false)
 (Ce (Aq (fun s_:Nat=>Dc u0 a1 s_) 4611686018427387904 0) fun _ =>
 some true)
theorem Ph (h:Ea hA bA=some cA):cK 80 [.agg [.tree Y6 hA],ai bA] (Ai cA):=by
 refine cO Tryz.func80 (Ae (Ab (sqF h (fun u2=>sT [(1,ai bA),(2,.box (oi 0 1) 0),(14,.bool u2)] [(oi 0 1,.cells 39 [.tree Y6 hA])]) ?_ fun u2 h=>kQ h (fun _ h=>Ae (Ac (tr_ (jS h)))) fun _ h=>skW (sqC h (fun _=>sT [] []) (fun _ h hk9=>Ae (Ad (lpF h (fun u1=>sT [(1,ai bA),(16,.tree Y6 hA),(17,an hA.length),(18,an u1)] []) (Aj []) (fun n_ u1 c_ h hn11=>Ae (Ab (kQ h (fun _ h=>skW (Ab (Ad (Ab (Aa 7 (riH Y6 h fun x17 _ h=>rsB 3 (rnW (sqF h (fun u3=>sT [(1,ai bA),(16,.tree Y6 hA),(17,an hA.length),(18,an u1),(30,.bool u3)] []) (fun _ h=>Aa 16 (rsT 2 (rcH h Mh fun y19 h=>rsT 1 (kR h 25 (fun _ h=>rsT 5 (Ap (tn_ (jE [])))) fun _ h=>rsT 5 (Ap (tn_ (jE []))))))) fun u3 h=>kQ h (fun _ h=>Ae (Ac (br_ (tr_ (tr_ (br_ (tr_ (have h:=jO h hn11;(have h:=jO h hk9;jS h))))))))) fun _ h=>Aw (bn_ (tn_ (wr_ (Aa 4 (raH h fun h=>rsT 1 (Ap (tn_ (jL [])))))))))))))))) fun _ h=>lxT (have h:=jO h hn11;jC []))))))) fun _ h=>Ae (Ac (jS h))))));intro _ h;refine Aa 11 (rsT 1 (rcH h Jt fun y4 h=>rsT 2 ?_));rcases Ax h with ⟨q5,h⟩|⟨q5,h⟩
 ·exact rq 10 q5 (rsT 4 (Ap (tn_ (jE [(oi 0 1,oi 2 1)]))))
 exact rq 10 q5 (rsT 1 (rcH h Of fun y6 h=>rsT 2 (Ap (tn_ (jE [(oi 0 1,oi 2 1)])))))
def Ko (a0:Int):Option Bool :=
 (cond (a0==8)
  (some true)
  (some (a0==14))).bind fun u0 =>
some u0
theorem T1 (h:Ko bA=some cA):cK 81 [ai bA] (Ai cA):=by
 exact cO Tryz.func81 (Ae (sqF h (fun u0=>sT [(2,.bool u0)] []) (fun _ h=>Aa 9 (rsT 3 (kR h 5 (fun _ h=>rsT 4 (Ap (tn_ (jE [])))) fun _ h=>rsT 4 (Ap (tn_ (jE [])))))) fun u0 h=>Ac (jS h)))
def Cm (u1:List (Int×Int×ByteArray)) (u0:Nat):Option (Ctl Nat (Ctl Unit Bool)) :=
 cond (decide ((u0:Int)<(u1.length:Int)))
 ((u1[u0]?).bind fun x15 =>
 (Ko x15.1).bind fun y17 =>
 cond y17
  (some (Ctl.out (Ctl.out false)))
  (og (u0+1<4611686018427387904) <|
  some (Ctl.next (u0+1))))
 (some (Ctl.out (Ctl.next ())))
def Dp (u0:List (Int×Int×ByteArray)) (a1:Int):Option Bool :=
 (Ea u0 a1).bind fun y4 =>
cond (!y4)
 (some false)
 (Ce (Aq (fun s_:Nat=>Cm u0 s_) 4611686018427387904 0) fun _ =>
 some true)
theorem Nv (h:Dp hA bA=some cA):cK 53 [.agg [.tree Y6 hA],ai bA] (Ai cA):=by
 exact cO Tryz.func53 (Ae (Ab (Ab (Aa 7 (rsT 2 (rcH h Ph fun y4 h=>rsT 1 (rnW (kQ h (fun _ h=>Ae (Ac (tr_ (jS h)))) fun _ h=>skW (sqC h (fun _=>sT [] []) (fun _ h hk7=>Ae (Ad (lpF h (fun u1=>sT [(12,.tree Y6 hA),(13,an hA.length),(14,an u1)] []) (Aj []) (fun n_ u1 c_ h hn9=>Ae (Ab (kQ h (fun _ h=>skW (Ab (Ad (Ab (Aa 7 (riH Y6 h fun x15 _ h=>rsB 3 (rnW (Ab (Aa 10 (rsT 2 (rcH h T1 fun y17 h=>rnW (kQ h (fun _ h=>Ae (Ac (br_ (tr_ (tr_ (br_ (tr_ (have h:=jO h hn9;(have h:=jO h hk7;jS h))))))))) fun _ h=>Aw (bn_ (tn_ (wr_ (Aa 12 (raH h fun h=>rsT 1 (Ap (tn_ (jL [])))))))))))))))))))) fun _ h=>lxT (have h:=jO h hn9;jC []))))))) fun _ h=>Ae (Ac (jS h)))))))))))
def K7:AC :=
 (.seq (rg [xo 3 (.i (.box 42 (tm 1))),xo 4 (qm (cb false))])
 (.seq (.seq (rg [xf 7 0 3,xl 8 7,xo 9 (qc 52 [tm 8] [[]]),xo 10 (.i (.not (tm 9))),xm 11 10,⟨some 12,some (11,false),qf 1 (tm 3)⟩,⟨some 13,some (11,false),.i (.ld false 1 (tm 12))⟩,⟨some 14,some (11,false),qm (tm 0)⟩,⟨some 15,some (11,false),qc 53 [tm 13,tm 14] [[some Y6],[]]⟩,⟨some 16,some (11,false),.i (.not (tm 15))⟩,xo 17 (.i (.pick (tm 11) (cb true) (tm 16))),xm 18 17,⟨some 19,some (18,false),qm (tm 0)⟩,⟨some 20,some (18,false),qf 2 (tm 3)⟩,⟨some 21,some (18,false),.i (.ld false 3 (tm 20))⟩,⟨some 22,some (18,false),qc 54 [tm 19,tm 21] [[],[none,none,some sI]]⟩,⟨some 23,some (18,false),.i (.not (tm 22))⟩,xo 24 (.i (.pick (tm 18) (cb true) (tm 23)))])
 (.cond (tm 24)
  (.seq (rg [xo 4 (qm (cb false))])
  .ret)
  .skip))
 (.seq (rg [xf 26 1 3,xo 27 (.i (.ld false 1 (tm 26))),⟨some 28,none,qc 55 [tm 27] [[some Y6]]⟩,xm 25 28,xo 29 (.i (.extr 0 (tm 25))),xo 30 (.i (.extr 1 (tm 25))),xo 5 (.i (.alloc 84 [.int .i64 0,.int .i64 0])),xn (.st false 2 (tm 5) (tm 29)),xm 6 30])
 (.seq (rg [xo 31 (.i (.ld false 2 (tm 5))),xf 32 2 3,xf 33 0 32,xl 34 33,xf 35 2 3,xf 36 1 35,xl 37 36,xo 38 (.build [.int .i64 0,.int .i64 0] [(0,1,tm 34),(1,1,tm 37)]),xo 39 (.i (.cmp false 5 (tm 31) (tm 38))),xm 4 39])
 .ret))))
def P7:List Res:=[.tmp 4]
theorem Qw:B2 Tryz.prog Tryz.f26=some (K7,P7):=by kernel_rfl
def Ca (a0:Int) (u3:ByteArray) (u0:List (Int×Int×ByteArray)) (u1 u2:Int) (u4:LL):Option Bool :=
 ((Iz u3).bind fun y4 =>
 cond (!y4)
  (some true)
  ((Dp u0 a0).bind fun y6 =>
  cond (!y6)
   (some true)
   ((Ez a0 u1 u2 u4).bind fun y8 =>
   some (!y8)))).bind fun u5 =>
cond u5
 (some false)
 ((Dl u0).bind fun y12 =>
 some ([y12.1,y12.2.1]==[u1,u2]))
theorem Jv (h:Ca bA gA hA bB bC dA=some cA):cK 26 [ai bA,.agg [.str gA,.tree Y6 hA,ai bB,ai bC,tS dA]] (Ai cA):=by
 refine Vq kr Tryz.func26 Qw (n:=40) kr (by simp) rfl ?_;unfold K7;refine Ae (Ab (sqF h (fun u5=>sT [(3,.box (oi 0 1) 0),(24,.bool u5)] [(oi 0 1,.cells 42 [.str gA,.tree Y6 hA,ai bB,ai bC,tS dA])]) ?_ fun u5 h=>kQ h (fun _ h=>Ae (Ac (tr_ (jS h)))) fun _ h=>skW (Ab (Aa 11 (rsT 2 (rcH h Kh fun y12 h=>rsB 6 (rnW (Ae (Ac (jS h))))))))));intro _ h;refine Aa 21 (rsT 2 (rcH h Vj fun y4 h=>rsT 2 ?_));rcases Ax h with ⟨q5,h⟩|⟨q5,h⟩
 ·exact rq 11 q5 (rsT 13 (Ap (tn_ (jE [(oi 0 1,oi 3 1)]))))
 refine rq 11 q5 (rsT 3 (rcH h Nv fun y6 h=>rsT 3 ?_));rcases Ax h with ⟨q7,h⟩|⟨q7,h⟩
 ·exact rq 18 q7 (rsT 6 (Ap (tn_ (jE [(oi 0 1,oi 3 1)]))))
 exact rq 18 q7 (rsT 3 (rcH h Qe fun y8 h=>rsT 2 (Ap (tn_ (jE [(oi 0 1,oi 3 1)])))))
end


section
open Go.RowKit Go.Deep
set_option maxRecDepth 4000
set_option maxHeartbeats 4800000
variable {bA bB bC:Int} {gA:ByteArray} {cA:Bool} {mA:Int×Int} {nA:List (ByteArray×Int×Int×List (Int×Int×ByteArray))} {hA:List (Int×Int×ByteArray)} {oA:List Int×List Int×List Int×Bool} {lA:Int×Int×Bool} {dA:LL}
def I4 (u0 u1:Int) (u2:ByteArray):Option Bool :=
 (cond (!(u2.toList==(⟨#[]⟩:ByteArray).toList))
  (some true)
  ((Bu u0 1 14).bind fun y5 =>
  some (!y5))).bind fun u3 =>
cond u3
 (some false)
 (cond (u0==1)
  ((Bu u1 0 12).bind fun y13 =>
  some y13)
  ((cond (u0==7)
    (some (u0==7))
    (some (u0==13))).bind fun u4 =>
  cond u4
   ((Bu u1 0 96).bind fun y19 =>
   some y19)
   (some (u1==0))))
theorem Vp (h:I4 bA bB gA=some cA):cK 110 [.agg [ai bA,ai bB,.str gA]] (Ai cA):=by
 refine cO Tryz.func110 (Ae (Ab (sqF h (fun u3=>sT [(1,.box (oi 0 1) 0),(11,.bool u3)] [(oi 0 1,.cells 94 [ai bA,ai bB,.str gA])]) ?_ fun u3 h=>kQ h (fun _ h=>Ae (Ac (tr_ (jS h)))) fun _ h=>skW (Ab (Ae (Ad (Ae (kQ h (fun _ h=>Ab (Aa 10 (rsT 2 (rcH h Cd fun y13 h=>rsT 1 (rnW (Ac (br_ (tr_ (jS h))))))))) fun _ h=>sqF h (fun u4=>sT [(1,.box (oi 0 1) 0),(19,.bool u4)] [(oi 0 1,.cells 94 [ai bA,ai bB,.str gA])]) (fun _ h=>Ae (kQ h (fun _ h=>Aw (tn_ (jE []))) fun _ h=>Aa 10 (rsT 2 (Ap (tn_ (jE [])))))) fun u4 h=>kQ h (fun _ h=>Ab (Aa 6 (rsT 2 (rcH h Cd fun y19 h=>rsT 1 (rnW (Ac (br_ (tr_ (jS h))))))))) fun _ h=>Aw (bn_ (tn_ (wr_ (Ae (Ac (jS h))))))))))))));intro _ h;refine Aa 12 (rsT 4 ?_);rcases Ax h with ⟨q4,h⟩|⟨q4,h⟩
 ·exact rq 6 q4 (rsT 5 (Ap (tn_ (jE [(oi 0 1,oi 1 1)]))))
 exact rq 6 q4 (rsT 2 (rcH h Cd fun y5 h=>rsT 2 (Ap (tn_ (jE [(oi 0 1,oi 1 1)])))))
def I8 (a0:Int):Option (Int×Int) :=
 cond (a0==2)
 (some (2,2))
 ((cond (a0==3)
   (some (a0==3))
   (some (a0==11))).bind fun u0 =>
 cond u0
  (some (1,2))
  ((cond (a0==4)
    (some (a0==4))
    (some (a0==12))).bind fun u1 =>
  cond u1
   (some (1,0))
   ((cond (a0==5)
     (some (a0==5))
     (some (a0==9))).bind fun u2 =>
   cond u2
    (some (2,1))
    ((cond (a0==6)
      (some (a0==6))
      (some (a0==10))).bind fun u3 =>
    cond u3
     (some (0,1))
     (some (1,1))))))
def N1 (r:Int×Int):RV:=⟨true,[(false,[.sc (.int .i64 r.1)]),(false,[.sc (.int .i64 r.2)])]⟩
theorem Wn (h:I8 bA=some mA):cK 123 [ai bA] (N1 mA):=by
 exact cO Tryz.func123 (Ae (Ab (Ae (Ad (Ae (kQ h (fun _ h=>Ae (Ac (br_ (tr_ (jS h))))) fun _ h=>sqF h (fun u0=>sT [(4,ai bA),(7,.bool u0)] []) (fun _ h=>Ae (kQ h (fun _ h=>Aw (tn_ (jE []))) fun _ h=>Aa 10 (rsT 2 (Ap (tn_ (jE [])))))) fun u0 h=>kQ h (fun _ h=>Ae (Ac (br_ (tr_ (jS h))))) fun _ h=>sqF h (fun u1=>sT [(4,ai bA),(10,.bool u1)] []) (fun _ h=>Ae (kQ h (fun _ h=>Aw (tn_ (jE []))) fun _ h=>Aa 6 (rsT 2 (Ap (tn_ (jE [])))))) fun u1 h=>kQ h (fun _ h=>Ae (Ac (br_ (tr_ (jS h))))) fun _ h=>sqF h (fun u2=>sT [(4,ai bA),(13,.bool u2)] []) (fun _ h=>Ae (kQ h (fun _ h=>Aw (tn_ (jE []))) fun _ h=>Aa 6 (rsT 2 (Ap (tn_ (jE [])))))) fun u2 h=>kQ h (fun _ h=>Ae (Ac (br_ (tr_ (jS h))))) fun _ h=>sqF h (fun u3=>sT [(16,.bool u3)] []) (fun _ h=>Ae (kQ h (fun _ h=>Aw (tn_ (jE []))) fun _ h=>Aa 6 (rsT 2 (Ap (tn_ (jE [])))))) fun u3 h=>kQ h (fun _ h=>Ae (Ac (br_ (tr_ (jS h))))) fun _ h=>Aw (bn_ (tn_ (wr_ (Ae (Ac (jS h))))))))))))
def D0 (u0 u1:Int) (u2:ByteArray):Option (Int×Int) :=
 cond (u0==1)
 (some (u1,u1))
 ((I8 u0).bind fun y7 =>
 some (y7.1,y7.2))
theorem Ud (h:D0 bA bB gA=some mA):cK 111 [.agg [ai bA,ai bB,.str gA]] (N1 mA):=by
 exact cO Tryz.func111 (Ae (Ab (Ae (kQ h (fun _ h=>Ab (As 13 (dsT 6 (D6 (A0 kr) (tn_ (wr_ (Ac (tr_ (jS h))))))))) fun _ h=>skW (Ab (Aa 14 (rsT 2 (rcH h Wn fun y7 h=>rsT 4 (rnW (Ac (jS h)))))))))))
def Ba (a0:List (ByteArray×Int×Int×List (Int×Int×ByteArray))) (a1:ByteArray) (u0:Nat):Option (Ctl Nat (Ctl Unit Int)) :=
 cond (decide ((u0:Int)<(a0.length:Int)))
 ((a0[u0]?).bind fun x10 =>
 cond (x10.1.toList==a1.toList)
  (some (Ctl.out (Ctl.out (u0:Int))))
  (og (u0+1<4611686018427387904) <|
  some (Ctl.next (u0+1))))
 (some (Ctl.out (Ctl.next ())))
def Bl (a0:List (ByteArray×Int×Int×List (Int×Int×ByteArray))) (a1:ByteArray):Option Int :=
 Ce (Aq (fun s_:Nat=>Ba a0 a1 s_) 4611686018427387904 0) fun _ =>
some (-1)
theorem Kq (h:Bl nA gA=some bA):cK 19 [.tree Yb nA,.str gA] (A7 bA):=by
 exact cO Tryz.func19 (Ae (sqC h (fun _=>sT [] []) (fun _ h hk2=>Ae (Ad (lpF h (fun u0=>sT [(1,.str gA),(7,.tree Yb nA),(8,an nA.length),(9,an u0)] []) (Aj []) (fun n_ u0 c_ h hn4=>Ae (Ab (kQ h (fun _ h=>skW (Ab (Ad (Ab (Aa 9 (rsT 1 (riH Yb h fun x10 _ h=>rsB 4 (rnW (Ae (kQ h (fun _ h=>Ae (Ac (br_ (tr_ (tr_ (br_ (tr_ (have h:=jO h hn4;(have h:=jO h hk2;jS h))))))))) fun _ h=>Aw (bn_ (tn_ (wr_ (Aa 15 (raH h fun h=>rsT 1 (Ap (tn_ (jL [])))))))))))))))))) fun _ h=>lxT (have h:=jO h hn4;jC []))))))) fun _ h=>Ae (Ac (jS h))))
def Fy (u4:List (Int×Int×ByteArray)) (a0:List (ByteArray×Int×Int×List (Int×Int×ByteArray))) (u1:Nat) (u0 u2 u3:List Int):Option (Ctl (Nat×List Int×List Int×List Int) (Ctl (List Int×List Int×List Int) (List Int×List Int×List Int×Bool))) :=
 cond (decide ((u1:Int)<(u4.length:Int)))
 (Ce ((u4[u1]?).bind fun x16 =>
  ((I4 x16.1 x16.2.1 x16.2.2).bind fun y19 =>
   cond y19
    (some true)
    (some (x16.1==17))).bind fun u7 =>
  cond u7
   ((D0 x16.1 x16.2.1 x16.2.2).bind fun y23 =>
   Ce (cond (x16.1==17)
     ((Bl a0 x16.2.2).bind fun y28 =>
     (cond (decide (y28<0))
       (some true)
       (some (x16.2.1 !=0))).bind fun u8 =>
     cond u8
      (some (Ctl.out (Ctl.out (Ctl.out (Ctl.out (u0,u2,u3,false))))))
      ((Dn a0 y28).bind fun x34 =>
      some (Ctl.next (x34.2.1,x34.2.2.1))))
     (some (Ctl.next (y23.1,y23.2)))) fun (u9,ua) =>
   og (u0.length+1<=1073741824/\(u0.length+1)*8<=140737488355328) <|
   og (u2.length+1<=1073741824/\(u2.length+1)*8<=140737488355328) <|
   og (u3.length+1<=1073741824/\(u3.length+1)*8<=140737488355328) <|
   some (Ctl.next (u0++([(u1:Int)]),u2++([u9]),u3++([ua]))))
   ((cond (x16.1 !=15)
     (cond (x16.1 !=16)
      (some true)
      (cond (!(x16.2.2.toList==(⟨#[]⟩:ByteArray).toList))
       (some true)
       (cond (x16.2.1 !=0)
        (some true)
        (cond (decide ((u1:Int)<2))
         (some true)
         ((Dn u0 (wI ((u1:Int) - 1))).bind fun x48 =>
         (Dn u0 (wI ((u1:Int) - 1))).bind fun x49 =>
         some (decide (x49<1)))))))
     (cond (!(x16.2.2.toList==(⟨#[]⟩:ByteArray).toList))
      (some true)
      (cond (x16.2.1 !=0)
       (some true)
       (cond (decide ((u1:Int)<2))
        (some true)
        ((Dn u0 (wI ((u1:Int) - 1))).bind fun x53 =>
        (Dn u0 (wI ((u1:Int) - 1))).bind fun x54 =>
        some (decide (x54<1))))))).bind fun ub =>
   cond ub
    (some (Ctl.out (Ctl.out (Ctl.out (u0,u2,u3,false)))))
    ((Dn u0 (wI ((u1:Int) - 1))).bind fun x59 =>
    (Dn u0 (wI ((u1:Int) - 1))).bind fun x60 =>
    (Dn u2 (wI (x60 - 1))).bind fun x62 =>
    (Dn u2 (wI (x60 - 1))).bind fun x63 =>
    (Dn u2 (wI ((u1:Int) - 1))).bind fun x64 =>
    (Dn u2 (wI ((u1:Int) - 1))).bind fun x65 =>
    (Dn u3 (wI (x60 - 1))).bind fun x66 =>
    (Dn u3 (wI (x60 - 1))).bind fun x67 =>
    (Dn u3 (wI ((u1:Int) - 1))).bind fun x68 =>
    (Dn u3 (wI ((u1:Int) - 1))).bind fun x69 =>
    Ce (cond (x16.1==15)
      (cond (x67 !=x65)
       (some (Ctl.out (Ctl.out (Ctl.out (Ctl.out (u0,u2,u3,false))))))
       (some (Ctl.next (x63,x69))))
      (some (Ctl.next (wI (x63+x65),wI (x67+x69))))) fun (u5,u6) =>
    (cond (decide (12<u5))
      (some true)
      (some (decide (12<u6)))).bind fun uc =>
    cond uc
     (some (Ctl.out (Ctl.out (Ctl.out (u0,u2,u3,false)))))
     ((Dn u0 (wI (x60 - 1))).bind fun x83 =>
     (Dn u0 (wI (x60 - 1))).bind fun x84 =>
     og (u0.length+1<=1073741824/\(u0.length+1)*8<=140737488355328) <|
     og (u2.length+1<=1073741824/\(u2.length+1)*8<=140737488355328) <|
     og (u3.length+1<=1073741824/\(u3.length+1)*8<=140737488355328) <|
     some (Ctl.next (u0++([x84]),u2++([u5]),u3++([u6]))))))) fun (ud,ue,uf) =>
 og (u1+1<4611686018427387904) <|
 some (Ctl.next (u1+1,ud,ue,uf)))
 (some (Ctl.out (Ctl.next (u0,u2,u3))))
def Ir (a0:List (ByteArray×Int×Int×List (Int×Int×ByteArray))) (u0:List (Int×Int×ByteArray)):Option (List Int×List Int×List Int×Bool) :=
 (Bu (u0.length:Int) 1 400).bind fun y5 =>
cond (!y5)
 (some ([],[],[],false))
 (Ce (Aq (fun s_:Nat×List Int×List Int×List Int=>Fy u0 a0 s_.1 s_.2.1 s_.2.2.1 s_.2.2.2) 4611686018427387904 (0,[],[],[])) fun (u1,u2,u3) =>
 (Dn u1 (wI ((u0.length:Int) - 1))).bind fun x91 =>
 (Dn u1 (wI ((u0.length:Int) - 1))).bind fun x92 =>
 some (u1,u2,u3,x92==0))
def N7 (r:List Int×List Int×List Int×Bool):RV:=⟨true,[(true,[.new 3 .int r.1,.new 3 .int r.2.1,.new 3 .int r.2.2.1]),(false,[.sc (.bool r.2.2.2)])]⟩
theorem Ve (h:Ir nA hA=some oA):cK 91 [.tree Yb nA,.agg [.tree Y6 hA]] (N7 oA):=by
 refine cO Tryz.func91 (Ae (Ae (Ab (Ab (Aa 10 (rsT 3 (rcH h Cd fun y5 h=>rsT 1 (rnW (kQ h (fun _ h=>Ae (Ac (tr_ (jR h [.agg [.nils,.nils,.nils],.bool false] (N9 (Cr (Aa0 rfl) (Cr (Aa0 rfl) (Cr (Aa0 rfl) Pt))) (Hi rfl zl Gq)))))) fun _ h=>skW (sqC h (fun (u5,u6,u7)=>sT [(3,.box (oi 0 1) 0),(4,.box (oi 1 1) 0),(6,.box (oi 2 1) 0)] [(oi 0 1,.cells 39 [.tree Y6 hA]),(oi 1 1,.cells 100 [.nils,.nils,.nils]),(oi 2 1,.cells 100 [oI 3 1 u5.length,oI 4 1 u6.length,oI 5 1 u7.length]),(oi 3 1,.arr 3 .int u5),(oi 4 1,.arr 3 .int u6),(oi 5 1,.arr 3 .int u7)]) ?_ ?_))))))))))
 ·intro _ h hk8;refine Ae (Ad (lpF h (fun (u0,u4,u1,u2)=>sT [(0,.tree Yb nA),(3,.box (oi 0 1) 0),(4,.box (oi 1 1) 0),(6,.box (oi 2 1) 0),(23,.tree Y6 hA),(24,an hA.length),(25,an u0)] [(oi 0 1,.cells 39 [.tree Y6 hA]),(oi 1 1,.cells 100 [.nils,.nils,.nils]),(oi 2 1,.cells 100 [oI 3 1 u4.length,oI 4 1 u1.length,oI 5 1 u2.length]),(oi 3 1,.arr 3 .int u4),(oi 4 1,.arr 3 .int u1),(oi 5 1,.arr 3 .int u2)]) ((K4 9000 (oi 6 4) 0 100 [.nils,.nils,.nils] [oI 9000 14 0,.nils,.nils] 3 .int rfl kr kr kr).trans ((K4 9001 (oi 6 4) 1 100 [oI 9000 14 0,.nils,.nils] [oI 9000 14 0,oI 9001 15 0,.nils] 3 .int rfl kr kr kr).trans ((K4 9002 (oi 6 4) 2 100 [oI 9000 14 0,oI 9001 15 0,.nils] [oI 9000 14 0,oI 9001 15 0,oI 9002 16 0] 3 .int rfl kr kr kr).trans (Aj [(oi 0 1,oi 3 1),(oi 1 1,oi 4 2),(oi 2 1,oi 6 4),(oi 3 1,oi 9000 14),(oi 4 1,oi 9001 15),(oi 5 1,oi 9002 16)])))) ?_));rintro n_ ⟨u0,u4,u1,u2⟩ c_ h hn10;refine Ae (Ab (kQ h (fun _ h=>skW (sqC h (fun (ua,ub,uc)=>sT [(0,.tree Yb nA),(3,.box (oi 0 1) 0),(4,.box (oi 1 1) 0),(6,.box (oi 2 1) 0),(23,.tree Y6 hA),(24,an hA.length),(25,an u0)] [(oi 0 1,.cells 39 [.tree Y6 hA]),(oi 1 1,.cells 100 [.nils,.nils,.nils]),(oi 2 1,.cells 100 [oI 3 1 ua.length,oI 4 1 ub.length,oI 5 1 uc.length]),(oi 3 1,.arr 3 .int ua),(oi 4 1,.arr 3 .int ub),(oi 5 1,.arr 3 .int uc)]) ?_ ?_)) fun _ h=>lxT (have h:=jO h hn10;jC [])))
  ·intro _ h hk14;refine Ad (Ab (Aa 9 (rsT 1 (riH Y6 h fun x16 _ h=>rsB 4 (rnW (Ab (sqF h (fun uf=>sT [(0,.tree Yb nA),(3,.box (oi 0 1) 0),(4,.box (oi 1 1) 0),(6,.box (oi 2 1) 0),(7,an u0),(8,.box (oi 3 1) 0),(23,.tree Y6 hA),(24,an hA.length),(25,an u0),(36,.bool uf)] [(oi 0 1,.cells 39 [.tree Y6 hA]),(oi 1 1,.cells 100 [.nils,.nils,.nils]),(oi 2 1,.cells 100 [oI 4 1 u4.length,oI 5 1 u1.length,oI 6 1 u2.length]),(oi 3 1,.cells 94 [ai x16.1,ai x16.2.1,.str x16.2.2]),(oi 4 1,.arr 3 .int u4),(oi 5 1,.arr 3 .int u1),(oi 6 1,.arr 3 .int u2)]) (fun _ h=>Aa 16 (rsT 1 (rcH h Vp fun y19 h=>rsT 1 (kR h 32 (fun _ h=>rsT 4 (Ap (tn_ (jE [(oi 4 1,oi 3 1),(oi 5 1,oi 4 1),(oi 6 1,oi 5 1),(oi 3 1,oi 8 6)])))) fun _ h=>rsT 4 (Ap (tn_ (jE [(oi 4 1,oi 3 1),(oi 5 1,oi 4 1),(oi 6 1,oi 5 1),(oi 3 1,oi 8 6)]))))))) ?_)))))));intro uf h;refine kQ h (fun _ h=>?_) fun _ h=>?_
   ·refine Ab (Aa 9 (rsT 1 (rcH h Ud fun y23 h=>rsT 5 (rnW (sqC h (fun (ud,ue)=>sT [(0,.tree Yb nA),(3,.box (oi 0 1) 0),(4,.box (oi 1 1) 0),(6,.box (oi 2 1) 0),(7,an u0),(9,ai ud),(10,ai ue),(23,.tree Y6 hA),(24,an hA.length),(25,an u0)] [(oi 0 1,.cells 39 [.tree Y6 hA]),(oi 1 1,.cells 100 [.nils,.nils,.nils]),(oi 2 1,.cells 100 [oI 3 1 u4.length,oI 4 1 u1.length,oI 5 1 u2.length]),(oi 3 1,.arr 3 .int u4),(oi 4 1,.arr 3 .int u1),(oi 5 1,.arr 3 .int u2)]) ?_ ?_)))))
    ·intro _ h hk24;refine Ae (kQ h (fun _ h=>Ab (Aa 17 (rsT 3 (rcH h Kq fun y28 h=>rsT 1 (rnW (Ab (sqF h (fun ug=>sT [(0,.tree Yb nA),(3,.box (oi 0 1) 0),(4,.box (oi 1 1) 0),(6,.box (oi 2 1) 0),(7,an u0),(11,ai y28),(23,.tree Y6 hA),(24,an hA.length),(25,an u0),(55,.bool ug)] [(oi 0 1,.cells 39 [.tree Y6 hA]),(oi 1 1,.cells 100 [.nils,.nils,.nils]),(oi 2 1,.cells 100 [oI 3 1 u4.length,oI 4 1 u1.length,oI 5 1 u2.length]),(oi 3 1,.arr 3 .int u4),(oi 4 1,.arr 3 .int u1),(oi 5 1,.arr 3 .int u2)]) (fun _ h=>Aa 24 (rsT 3 (kR h 51 (fun _ h=>rsT 4 (Ap (tn_ (jE [(oi 3 1,oi 4 1),(oi 4 1,oi 5 1),(oi 5 1,oi 6 1)])))) fun _ h=>rsT 4 (Ap (tn_ (jE [(oi 3 1,oi 4 1),(oi 4 1,oi 5 1),(oi 5 1,oi 6 1)])))))) ?_))))))) fun _ h=>Aw (tn_ (jC [(oi 3 1,oi 4 1),(oi 4 1,oi 5 1),(oi 5 1,oi 6 1)])));intro ug h;refine kQ h (fun _ h=>Ae (Ac (tr_ (tr_ (tr_ (br_ (tr_ (tr_ (br_ (tr_ (have h:=jO h hk24;(have h:=jO h hk14;(have h:=jO h hn10;(have h:=jO h hk8;jR h [.agg [oI 3 1 u4.length,oI 4 1 u1.length,oI 5 1 u2.length],.bool false] (N9 (Cr (Dg kr rfl) (Cr (Dg kr rfl) (Cr (Dg kr rfl) Pt))) (Hi rfl zl Gq)))))))))))))))) fun _ h=>skW (As 14 (dz0 (.tree Yb nA) (dz0 (ai y28) ?_)))
     obtain ⟨x34,f34,h⟩:=Am h;obtain ⟨p34,b34,e34⟩:=A5 f34;exact ds0 (.telt none Yb x34 0) (zi (t:=Yb) (xs:=nA) (k:=.i64) (m:=y28) p34 e34) (dsT 4 (ds0 (.telt none Yb x34 0) (zi (t:=Yb) (xs:=nA) (k:=.i64) (m:=y28) p34 e34) (dz0 (.telt none Yb x34 2) (dz0 (ai x34.2.2.1) (dz0 (ai x34.2.1) (dz0 (ai x34.2.2.1) (D6 (A0 kr) (tn_ (jC [])))))))))
    rintro ⟨ud,ue⟩ h;refine Ab (Aa 9 (rsB 4 ?_));obtain ⟨g36,h⟩:=Au h;refine zB (oi 3 1) (oi 70 5) u4 ((u0:Int)) g36 (rsB 2 (rnW (Ab (Aa 16 (rsB 4 ?_)))));obtain ⟨g38,h⟩:=Au h;refine zB (oi 4 1) (oi 76 12) u1 (ud) g38 (rsB 2 (rnW (Ab (Aa 23 (rsB 4 ?_)))));obtain ⟨g40,h⟩:=Au h;exact zB (oi 5 1) (oi 82 19) u2 (ue) g40 (rsB 2 (rnW (Eu (te_ (be_ (tn_ (jC [(oi 3 1,oi 3 6),(oi 4 1,oi 4 13),(oi 5 1,oi 5 20)])))))))
   refine skW (Ab (sqF h (fun uh=>sT [(0,.tree Yb nA),(3,.box (oi 0 1) 0),(4,.box (oi 1 1) 0),(6,.box (oi 2 1) 0),(7,an u0),(8,.box (oi 3 1) 0),(23,.tree Y6 hA),(24,an hA.length),(25,an u0),(115,.bool uh)] [(oi 0 1,.cells 39 [.tree Y6 hA]),(oi 1 1,.cells 100 [.nils,.nils,.nils]),(oi 2 1,.cells 100 [oI 4 1 u4.length,oI 5 1 u1.length,oI 6 1 u2.length]),(oi 3 1,.cells 94 [ai x16.1,ai x16.2.1,.str x16.2.2]),(oi 4 1,.arr 3 .int u4),(oi 5 1,.arr 3 .int u1),(oi 6 1,.arr 3 .int u2)]) ?_ ?_))
   ·intro _ h;refine Aa 33 (rsT 4 (kR h 88 (fun _ h=>?_) fun _ h=>?_))
    ·refine rsT 5 (kR h 93 (fun _ h=>rsT 22 (Ap (tn_ (jE [])))) fun _ h=>rsT 5 (kR h 98 (fun _ h=>rsT 17 (Ap (tn_ (jE [])))) fun _ h=>rsT 5 (kR h 103 (fun _ h=>rsT 12 (Ap (tn_ (jE [])))) fun _ h=>rsT 4 ?_)));rcases Ax h with ⟨q47,h⟩|⟨q47,h⟩
     ·exact rq 107 q47 (rsT 8 (Ap (tn_ (jE []))))
     refine rq 107 q47 (rsT 4 ?_);obtain ⟨x48,f48,h⟩:=Am h;obtain ⟨p48,b48,e48⟩:=A5 f48;refine rs0 (.elt (oi 4 1) ((wI ((u0:Int) - 1)).toNat) 0) (zo (t:=.int) (o:=oi 4 1) (len:=u4.length) (k:=.i64) (m:=wI ((u0:Int) - 1)) p48 (An e48)) ?_;obtain ⟨x49,f49,h⟩:=Am h;obtain ⟨p49,b49,e49⟩:=A5 f49;exact zE (oi 4 1) e49 (rsT 2 (Ap (tn_ (jE []))))
    refine rsT 10 (kR h 98 (fun _ h=>rsT 17 (Ap (tn_ (jE [])))) fun _ h=>rsT 5 (kR h 103 (fun _ h=>rsT 12 (Ap (tn_ (jE [])))) fun _ h=>rsT 4 ?_));rcases Ax h with ⟨q52,h⟩|⟨q52,h⟩
    ·exact rq 107 q52 (rsT 8 (Ap (tn_ (jE []))))
    refine rq 107 q52 (rsT 4 ?_);obtain ⟨x53,f53,h⟩:=Am h;obtain ⟨p53,b53,e53⟩:=A5 f53;refine rs0 (.elt (oi 4 1) ((wI ((u0:Int) - 1)).toNat) 0) (zo (t:=.int) (o:=oi 4 1) (len:=u4.length) (k:=.i64) (m:=wI ((u0:Int) - 1)) p53 (An e53)) ?_;obtain ⟨x54,f54,h⟩:=Am h;obtain ⟨p54,b54,e54⟩:=A5 f54;exact zE (oi 4 1) e54 (rsT 2 (Ap (tn_ (jE []))))
   intro uh h;refine kQ h (fun _ h=>Ae (Ac (tr_ (br_ (tr_ (tr_ (br_ (tr_ (have h:=jO h hk14;(have h:=jO h hn10;(have h:=jO h hk8;jR h [.agg [oI 4 1 u4.length,oI 5 1 u1.length,oI 6 1 u2.length],.bool false] (N9 (Cr (Dg kr rfl) (Cr (Dg kr rfl) (Cr (Dg kr rfl) Pt))) (Hi rfl zl Gq))))))))))))) fun _ h=>skW (Ae (Ab (Aa 12 (rsT 3 ?_))))
   obtain ⟨x59,f59,h⟩:=Am h;obtain ⟨p59,b59,e59⟩:=A5 f59;refine rs0 (.elt (oi 4 1) ((wI ((u0:Int) - 1)).toNat) 0) (zo (t:=.int) (o:=oi 4 1) (len:=u4.length) (k:=.i64) (m:=wI ((u0:Int) - 1)) p59 (An e59)) ?_;obtain ⟨x60,f60,h⟩:=Am h;obtain ⟨p60,b60,e60⟩:=A5 f60;refine zE (oi 4 1) e60 (rsT 2 (rnW (Ab (As 36 (dz0 (.box (oi 2 1) 1) (dzl (oI 5 1 u1.length) (dz0 (ai (wI (x60 - 1))) ?_)))))));obtain ⟨x62,f62,h⟩:=Am h;obtain ⟨p62,b62,e62⟩:=A5 f62;refine ds0 (.elt (oi 5 1) ((wI (x60 - 1)).toNat) 0) (zo (t:=.int) (o:=oi 5 1) (len:=u1.length) (k:=.i64) (m:=wI (x60 - 1)) p62 (An e62)) ?_;obtain ⟨x63,f63,h⟩:=Am h;obtain ⟨p63,b63,e63⟩:=A5 f63;refine dzE (oi 5 1) e63 (dz0 (.box (oi 2 1) 1) (dzl (oI 5 1 u1.length) (dz0 (ai (wI ((u0:Int) - 1))) ?_)));obtain ⟨x64,f64,h⟩:=Am h;obtain ⟨p64,b64,e64⟩:=A5 f64;refine ds0 (.elt (oi 5 1) ((wI ((u0:Int) - 1)).toNat) 0) (zo (t:=.int) (o:=oi 5 1) (len:=u1.length) (k:=.i64) (m:=wI ((u0:Int) - 1)) p64 (An e64)) ?_;obtain ⟨x65,f65,h⟩:=Am h;obtain ⟨p65,b65,e65⟩:=A5 f65;refine dzE (oi 5 1) e65 (dsT 4 ?_);obtain ⟨x66,f66,h⟩:=Am h;obtain ⟨p66,b66,e66⟩:=A5 f66;refine ds0 (.elt (oi 6 1) ((wI (x60 - 1)).toNat) 0) (zo (t:=.int) (o:=oi 6 1) (len:=u2.length) (k:=.i64) (m:=wI (x60 - 1)) p66 (An e66)) ?_;obtain ⟨x67,f67,h⟩:=Am h;obtain ⟨p67,b67,e67⟩:=A5 f67;refine dzE (oi 6 1) e67 (dz0 (.box (oi 2 1) 2) (dzl (oI 6 1 u2.length) (dz0 (ai (wI ((u0:Int) - 1))) ?_)));obtain ⟨x68,f68,h⟩:=Am h;obtain ⟨p68,b68,e68⟩:=A5 f68;refine ds0 (.elt (oi 6 1) ((wI ((u0:Int) - 1)).toNat) 0) (zo (t:=.int) (o:=oi 6 1) (len:=u2.length) (k:=.i64) (m:=wI ((u0:Int) - 1)) p68 (An e68)) ?_;obtain ⟨x69,f69,h⟩:=Am h;obtain ⟨p69,b69,e69⟩:=A5 f69;refine dzE (oi 6 1) e69 (dz0 (ai (wI (x67+x69))) (dz0 (ai (wI (x63+x65))) (dz0 (ai (wI (x67+x69))) (D6 (A0 kr) (tn_ (wr_ (sqC h (fun (u8,u9)=>sT [(0,.tree Yb nA),(3,.box (oi 0 1) 0),(4,.box (oi 1 1) 0),(6,.box (oi 2 1) 0),(13,ai (wI (x60 - 1))),(14,ai u8),(15,ai u9),(23,.tree Y6 hA),(24,an hA.length),(25,an u0)] [(oi 0 1,.cells 39 [.tree Y6 hA]),(oi 1 1,.cells 100 [.nils,.nils,.nils]),(oi 2 1,.cells 100 [oI 3 1 u4.length,oI 4 1 u1.length,oI 5 1 u2.length]),(oi 3 1,.arr 3 .int u4),(oi 4 1,.arr 3 .int u1),(oi 5 1,.arr 3 .int u2)]) (fun _ h hk70=>Ae (kQ h (fun _ h=>Ab (Ab (As 50 (dsT 3 (ds0 (.elt (oi 6 1) ((wI (x60 - 1)).toNat) 0) (zo (t:=.int) (o:=oi 6 1) (len:=u2.length) (k:=.i64) (m:=wI (x60 - 1)) p66 (An e66)) (dsl (ai x67) (Gg (i:=oi 6 1) (j:=(wI (x60 - 1)).toNat) (k:=0) (e:=3) (t:=.int) (xs:=u2) kr kr e67 kr) (ds0 (.box (oi 2 1) 1) kr (dsl (oI 5 1 u1.length) kr (ds0 (ai (wI ((u0:Int) - 1))) kr (ds0 (.elt (oi 5 1) ((wI ((u0:Int) - 1)).toNat) 0) (zo (t:=.int) (o:=oi 5 1) (len:=u1.length) (k:=.i64) (m:=wI ((u0:Int) - 1)) p64 (An e64)) (dsl (ai x65) (Gg (i:=oi 5 1) (j:=(wI ((u0:Int) - 1)).toNat) (k:=0) (e:=3) (t:=.int) (xs:=u1) kr kr e65 kr) (ds0 (.bool (x67 !=x65)) kr (D6 (A0 kr) (tn_ (wr_ (kQ h (fun _ h=>Ae (Ac (tr_ (tr_ (br_ (tr_ (tr_ (br_ (tr_ (have h:=jO h hk70;(have h:=jO h hk14;(have h:=jO h hn10;(have h:=jO h hk8;jR h [.agg [oI 4 1 u4.length,oI 5 1 u1.length,oI 6 1 u2.length],.bool false] (N9 (Cr (Dg kr rfl) (Cr (Dg kr rfl) (Cr (Dg kr rfl) Pt))) (Hi rfl zl Gq))))))))))))))) fun _ h=>skW (As 62 (dsT 3 (ds0 (.elt (oi 5 1) ((wI (x60 - 1)).toNat) 0) (zo (t:=.int) (o:=oi 5 1) (len:=u1.length) (k:=.i64) (m:=wI (x60 - 1)) p62 (An e62)) (dsl (ai x63) (Gg (i:=oi 5 1) (j:=(wI (x60 - 1)).toNat) (k:=0) (e:=3) (t:=.int) (xs:=u1) kr kr e63 kr) (ds0 (.box (oi 2 1) 2) kr (dsl (oI 6 1 u2.length) kr (ds0 (ai (wI ((u0:Int) - 1))) kr (ds0 (.elt (oi 6 1) ((wI ((u0:Int) - 1)).toNat) 0) (zo (t:=.int) (o:=oi 6 1) (len:=u2.length) (k:=.i64) (m:=wI ((u0:Int) - 1)) p68 (An e68)) (dsl (ai x69) (Gg (i:=oi 6 1) (j:=(wI ((u0:Int) - 1)).toNat) (k:=0) (e:=3) (t:=.int) (xs:=u2) kr kr e69 kr) (ds0 (ai x63) kr (ds0 (ai x69) kr (D6 (A0 kr) (tn_ (jC [(oi 3 1,oi 4 1),(oi 4 1,oi 5 1),(oi 5 1,oi 6 1)])))))))))))))))))))))))))))))) fun _ h=>Aw (tn_ (jC [(oi 3 1,oi 4 1),(oi 4 1,oi 5 1),(oi 5 1,oi 6 1)])))) ?_)))))));rintro ⟨u8,u9⟩ h;refine Ab (sqF h (fun ui=>sT [(0,.tree Yb nA),(3,.box (oi 0 1) 0),(4,.box (oi 1 1) 0),(6,.box (oi 2 1) 0),(13,ai (wI (x60 - 1))),(14,ai u8),(15,ai u9),(23,.tree Y6 hA),(24,an hA.length),(25,an u0),(177,.bool ui)] [(oi 0 1,.cells 39 [.tree Y6 hA]),(oi 1 1,.cells 100 [.nils,.nils,.nils]),(oi 2 1,.cells 100 [oI 3 1 u4.length,oI 4 1 u1.length,oI 5 1 u2.length]),(oi 3 1,.arr 3 .int u4),(oi 4 1,.arr 3 .int u1),(oi 5 1,.arr 3 .int u2)]) (fun _ h=>Aa 8 (rsT 3 (kR h 174 (fun _ h=>rsT 3 (Ap (tn_ (jE [])))) fun _ h=>rsT 3 (Ap (tn_ (jE [])))))) ?_);intro ui h;refine kQ h (fun _ h=>Ae (Ac (tr_ (br_ (tr_ (tr_ (br_ (tr_ (have h:=jO h hk14;(have h:=jO h hn10;(have h:=jO h hk8;jR h [.agg [oI 3 1 u4.length,oI 4 1 u1.length,oI 5 1 u2.length],.bool false] (N9 (Cr (Dg kr rfl) (Cr (Dg kr rfl) (Cr (Dg kr rfl) Pt))) (Hi rfl zl Gq))))))))))))) fun _ h=>skW (Ab (As 13 (dsT 5 ?_)))
   obtain ⟨x83,f83,h⟩:=Am h;obtain ⟨p83,b83,e83⟩:=A5 f83;refine ds0 (.elt (oi 3 1) ((wI (x60 - 1)).toNat) 0) (zo (t:=.int) (o:=oi 3 1) (len:=u4.length) (k:=.i64) (m:=wI (x60 - 1)) p83 (An e83)) ?_;obtain ⟨x84,f84,h⟩:=Am h;obtain ⟨p84,b84,e84⟩:=A5 f84;refine dzE (oi 3 1) e84 (ds1 (oI 186 9 1) (oi 186 9) (.arr 3 .int ([x84])) kr ?_);obtain ⟨g85,h⟩:=Au h;refine dzB (oi 3 1) (oi 186 9) u4 (x84) g85 (dz0 (.box (oi 2 1) 0) (Pi (oi 2 1) (oi 2 1) (.cells 100 [oI 3 10 ((u4++([x84])).length),oI 4 1 u1.length,oI 5 1 u2.length]) kr (D6 (A0 kr) (tn_ (wr_ (Ab (Aa 20 (rsB 4 ?_))))))));obtain ⟨g87,h⟩:=Au h;refine zB (oi 4 1) (oi 192 16) u1 (u8) g87 (rsB 2 (rnW (Aa 27 (rsB 4 ?_))));obtain ⟨g88,h⟩:=Au h;exact zB (oi 5 1) (oi 198 23) u2 (u9) g88 (rsB 2 (Ap (bn_ (tn_ (jC [(oi 3 1,oi 3 10),(oi 4 1,oi 4 17),(oi 5 1,oi 5 24)])))))
  rintro ⟨ua,ub,uc⟩ h;exact Aa 4 (raH h fun h=>rsT 1 (Ap (tn_ (jL []))))
 rintro ⟨u5,u6,u7⟩ h;refine Ab (As 14 (dsT 7 ?_));obtain ⟨x91,f91,h⟩:=Am h;obtain ⟨p91,b91,e91⟩:=A5 f91;refine ds0 (.elt (oi 3 1) ((wI ((hA.length:Int) - 1)).toNat) 0) (zo (t:=.int) (o:=oi 3 1) (len:=u5.length) (k:=.i64) (m:=wI ((hA.length:Int) - 1)) p91 (An e91)) ?_;obtain ⟨x92,f92,h⟩:=Am h;obtain ⟨p92,b92,e92⟩:=A5 f92;exact dzE (oi 3 1) e92 (dz0 (.bool (x92==0)) (Pi (oi 1 1) (oi 1 1) (.cells 100 [oI 3 1 u5.length,oI 4 1 u6.length,oI 5 1 u7.length]) kr (dz0 (.bool (x92==0)) (D6 (A0 kr) (tn_ (wr_ (Ac (jR h [.agg [oI 3 1 u5.length,oI 4 1 u6.length,oI 5 1 u7.length],.bool (x92==0)] (N9 (Cr (Dg kr rfl) (Cr (Dg kr rfl) (Cr (Dg kr rfl) Pt))) (Hi rfl zl Gq))))))))))
def Gv (u0:List (Int×Int×ByteArray)):Option (List Int×List Int×List Int×Bool) :=
 (Ir ([]) u0).bind fun y3 =>
some (y3.1,y3.2.1,y3.2.2.1,y3.2.2.2)
theorem N8 (h:Gv hA=some oA):cK 66 [.agg [.tree Y6 hA]] (N7 oA):=by
 exact cO Tryz.func66 (Ae (Ab (Aa 10 (rsT 1 (rcH h Ve fun y3 h=>rsB 4 (rnW (Ac (jR h [.agg [oI 80 5 y3.1.length,oI 81 5 y3.2.1.length,oI 82 5 y3.2.2.1.length],.bool y3.2.2.2] (N9 (Cr (Dg kr rfl) (Cr (Dg kr rfl) (Cr (Dg kr rfl) Pt))) (Hi rfl zl Gq))))))))))
def I5 (u0:List (Int×Int×ByteArray)):Option (Int×Int×Bool) :=
 (Gv u0).bind fun y3 =>
cond (!y3.2.2.2)
 (some (0,0,false))
 ((Dn y3.2.1 (wI ((u0.length:Int) - 1))).bind fun x10 =>
 (Dn y3.2.1 (wI ((u0.length:Int) - 1))).bind fun x11 =>
 (Dn y3.2.2.1 (wI ((u0.length:Int) - 1))).bind fun x12 =>
 (Dn y3.2.2.1 (wI ((u0.length:Int) - 1))).bind fun x13 =>
 some (x11,x13,true))
def Va (r:Int×Int×Bool):RV:=⟨true,[(false,[.sc (.int .i64 r.1)]),(false,[.sc (.int .i64 r.2.1)]),(false,[.sc (.bool r.2.2)])]⟩
theorem Wa (h:I5 hA=some lA):cK 41 [.agg [.tree Y6 hA]] (Va lA):=by
 refine cO Tryz.func41 (Ae (Ab (Aa 13 (rsT 1 (rcH h N8 fun y3 h=>rsB 6 (rnW (Ab (Ae (kQ h (fun _ h=>Ae (Ac (tr_ (jS h)))) fun _ h=>skW (Ae (Ab (As 33 (dsT 3 ?_)))))))))))));obtain ⟨x10,f10,h⟩:=Am h;obtain ⟨p10,b10,e10⟩:=A5 f10;refine ds0 (.elt (oi 161 6) ((wI ((hA.length:Int) - 1)).toNat) 0) (zo (t:=.int) (o:=oi 161 6) (len:=y3.2.1.length) (k:=.i64) (m:=wI ((hA.length:Int) - 1)) p10 (An e10)) ?_;obtain ⟨x11,f11,h⟩:=Am h;obtain ⟨p11,b11,e11⟩:=A5 f11;refine dzE (oi 161 6) e11 (dz0 (.box (oi 5 10) 2) (dzl (oI 162 6 y3.2.2.1.length) (dz0 (ai (wI ((hA.length:Int) - 1))) ?_)));obtain ⟨x12,f12,h⟩:=Am h;obtain ⟨p12,b12,e12⟩:=A5 f12;refine ds0 (.elt (oi 162 6) ((wI ((hA.length:Int) - 1)).toNat) 0) (zo (t:=.int) (o:=oi 162 6) (len:=y3.2.2.1.length) (k:=.i64) (m:=wI ((hA.length:Int) - 1)) p12 (An e12)) ?_;obtain ⟨x13,f13,h⟩:=Am h;obtain ⟨p13,b13,e13⟩:=A5 f13;exact dzE (oi 162 6) e13 (dz0 (ai x11) (dz0 (ai x13) (dz0 (.bool true) (D6 (A0 kr) (tn_ (wr_ (Ac (jS h))))))))
def F3 (u1:List (Int×Int×ByteArray)) (a0:Int) (u0:Nat):Option (Ctl Nat (Ctl Unit Bool)) :=
 cond (decide ((u0:Int)<(u1.length:Int)))
 ((u1[u0]?).bind fun x18 =>
 (cond (x18.1==7)
   (some (decide (a0<=x18.2.1)))
   (cond (x18.1==13)
    (some (decide (a0<=x18.2.1)))
    (some false))).bind fun u2 =>
 cond u2
  (some (Ctl.out (Ctl.out false)))
  (og (u0+1<4611686018427387904) <|
  some (Ctl.next (u0+1))))
 (some (Ctl.out (Ctl.next ())))
def I0 (a0:Int) (u0:List (Int×Int×ByteArray)):Option Bool :=
 (Gv u0).bind fun y4 =>
(cond (!y4.2.2.2)
  (some true)
  ((Ev a0).bind fun y7 =>
  some (!y7))).bind fun u1 =>
cond u1
 (some false)
 (Ce (Aq (fun s_:Nat=>F3 u0 a0 s_) 4611686018427387904 0) fun _ =>
 some true)
theorem Uy (h:I0 bA hA=some cA):cK 43 [ai bA,.agg [.tree Y6 hA]] (Ai cA):=by
 refine cO Tryz.func43 (Ae (Ab (Ab (Aa 11 (rsT 1 (rcH h N8 fun y4 h=>rsB 6 (rnW (sqF h (fun u2=>sT [(0,ai bA),(3,.box (oi 0 1) 0),(20,.bool u2)] [(oi 0 1,.cells 39 [.tree Y6 hA])]) ?_ fun u2 h=>kQ h (fun _ h=>Ae (Ac (tr_ (jS h)))) fun _ h=>skW (sqC h (fun _=>sT [] []) (fun _ h hk10=>Ae (Ad (lpF h (fun u1=>sT [(0,ai bA),(22,.tree Y6 hA),(23,an hA.length),(24,an u1)] []) (Aj []) (fun n_ u1 c_ h hn12=>Ae (Ab (kQ h (fun _ h=>skW (Ab (Ad (Ab (Aa 7 (riH Y6 h fun x18 _ h=>rsB 3 (rnW (sqF h (fun u3=>sT [(0,ai bA),(22,.tree Y6 hA),(23,an hA.length),(24,an u1),(41,.bool u3)] []) (fun _ h=>Aa 21 (rsT 4 (kR h 31 (fun _ h=>rsT 10 (Ap (tn_ (jE [])))) fun _ h=>rsT 5 (kR h 36 (fun _ h=>rsT 5 (Ap (tn_ (jE [])))) fun _ h=>rsT 5 (Ap (tn_ (jE []))))))) fun u3 h=>kQ h (fun _ h=>Ae (Ac (br_ (tr_ (tr_ (br_ (tr_ (have h:=jO h hn12;(have h:=jO h hk10;jS h))))))))) fun _ h=>Aw (bn_ (tn_ (wr_ (Aa 4 (raH h fun h=>rsT 1 (Ap (tn_ (jL [])))))))))))))))) fun _ h=>lxT (have h:=jO h hn12;jC []))))))) fun _ h=>Ae (Ac (jS h)))))))))));intro _ h;refine Aa 18 (rsT 3 ?_);rcases Ax h with ⟨q6,h⟩|⟨q6,h⟩
 ·exact rq 16 q6 (rsT 4 (Ap (tn_ (jE [(oi 0 1,oi 3 1)]))))
 exact rq 16 q6 (rsT 1 (rcH h Kx fun y7 h=>rsT 2 (Ap (tn_ (jE [(oi 0 1,oi 3 1)])))))
def Hp (a0:Int):Option Bool :=
 (cond (a0 !=8)
  (some (a0 !=14))
  (some false)).bind fun u0 =>
some u0
theorem Qg (h:Hp bA=some cA):cK 70 [ai bA] (Ai cA):=by
 exact cO Tryz.func70 (Ae (sqF h (fun u0=>sT [(2,.bool u0)] []) (fun _ h=>Aa 9 (rsT 3 (kR h 5 (fun _ h=>rsT 4 (Ap (tn_ (jE [])))) fun _ h=>rsT 4 (Ap (tn_ (jE [])))))) fun u0 h=>Ac (jS h)))
def Dj (u1:List (Int×Int×ByteArray)) (u0:Nat):Option (Ctl Nat (Ctl Unit Bool)) :=
 cond (decide ((u0:Int)<(u1.length:Int)))
 ((u1[u0]?).bind fun x10 =>
 (Hp x10.1).bind fun y12 =>
 cond (!y12)
  (some (Ctl.out (Ctl.out false)))
  (og (u0+1<4611686018427387904) <|
  some (Ctl.next (u0+1))))
 (some (Ctl.out (Ctl.next ())))
def Fh (u0:List (Int×Int×ByteArray)):Option Bool :=
 Ce (Aq (fun s_:Nat=>Dj u0 s_) 4611686018427387904 0) fun _ =>
some true
theorem Qh (h:Fh hA=some cA):cK 44 [.agg [.tree Y6 hA]] (Ai cA):=by
 exact cO Tryz.func44 (Ae (sqC h (fun _=>sT [] []) (fun _ h hk2=>Ae (Ad (lpF h (fun u1=>sT [(6,.tree Y6 hA),(7,an hA.length),(8,an u1)] []) (Aj []) (fun n_ u1 c_ h hn4=>Ae (Ab (kQ h (fun _ h=>skW (Ab (Ad (Ab (Aa 7 (riH Y6 h fun x10 _ h=>rsB 3 (rnW (Ab (Aa 11 (rsT 2 (rcH h Qg fun y12 h=>rsT 1 (rnW (kQ h (fun _ h=>Ae (Ac (br_ (tr_ (tr_ (br_ (tr_ (have h:=jO h hn4;(have h:=jO h hk2;jS h))))))))) fun _ h=>Aw (bn_ (tn_ (wr_ (Aa 13 (raH h fun h=>rsT 1 (Ap (tn_ (jL []))))))))))))))))))))) fun _ h=>lxT (have h:=jO h hn4;jC []))))))) fun _ h=>Ae (Ac (jS h))))
def Cc (a0:Int) (u3:ByteArray) (u0:List (Int×Int×ByteArray)) (u1 u2:Int) (u4:LL):Option Bool :=
 (I5 u0).bind fun y3 =>
(cond y3.2.2
  ((I3 u3).bind fun y6 =>
  cond y6
   ((I0 a0 u0).bind fun y8 =>
   cond y8
    ((Fh u0).bind fun y10 =>
    cond y10
     ((Iy a0 u1 u2 u4).bind fun y12 =>
     cond y12
      (cond (u1==y3.1)
       (some (u2==y3.2.1))
       (some false))
      (some false))
     (some false))
    (some false))
   (some false))
  (some false)).bind fun u5 =>
some u5
theorem Ot (h:Cc bA gA hA bB bC dA=some cA):cK 18 [ai bA,.agg [.str gA,.tree Y6 hA,ai bB,ai bC,tS dA]] (Ai cA):=by
 refine cO Tryz.func18 (Ae (Ab (Aa 13 (rsT 2 (rcH h Wa fun y3 h=>rsT 7 (rnW (sqF h (fun u5=>sT [(4,.bool u5)] []) ?_ fun u5 h=>Ac (jS h))))))));intro _ h;refine Aa 51 (rsT 2 ?_);rcases Ax h with ⟨q5,h⟩|⟨q5,h⟩
 ·refine rq 16 q5 (rsT 2 (rcH h Xg fun y6 h=>rsT 2 ?_));rcases Ax h with ⟨q7,h⟩|⟨q7,h⟩
  ·refine rq 21 q7 (rsT 3 (rcH h Uy fun y8 h=>rsT 2 ?_));rcases Ax h with ⟨q9,h⟩|⟨q9,h⟩
   ·refine rq 27 q9 (rsT 2 (rcH h Qh fun y10 h=>rsT 2 ?_));rcases Ax h with ⟨q11,h⟩|⟨q11,h⟩
    ·exact rq 32 q11 (rsT 3 (rcH h W6 fun y12 h=>rsT 2 (kR h 38 (fun _ h=>rsT 7 (kR h 45 (fun _ h=>rsT 7 (Ap (tn_ (jE [])))) fun _ h=>rsT 7 (Ap (tn_ (jE []))))) fun _ h=>rsT 14 (Ap (tn_ (jE []))))))
    exact rq 32 q11 (rsT 20 (Ap (tn_ (jE []))))
   exact rq 27 q9 (rsT 25 (Ap (tn_ (jE []))))
  exact rq 21 q7 (rsT 31 (Ap (tn_ (jE []))))
 exact rq 16 q5 (rsT 36 (Ap (tn_ (jE []))))
end


section
open Go.RowKit Go.Deep
set_option maxRecDepth 4000
set_option maxHeartbeats 4800000
variable {bA:Int} {gA:ByteArray}
def Ej  (u0:Int) (u1:ByteArray):Option (Ctl (Int×ByteArray) ByteArray) :=
 cond (decide (0<u0))
 (og ((strOfNums [IntKind.u8.wrap (wI (48+Int.tmod u0 10))]).size+u1.size<=9223372036854775807) <|
 some (Ctl.next (wI (Int.tdiv u0 10),(strOfNums [IntKind.u8.wrap (wI (48+Int.tmod u0 10))])++u1)))
 (some (Ctl.out u1))
def Jq (a0:Int):Option ByteArray :=
 cond (decide (a0<=0))
 (some (⟨#[109,48]⟩:ByteArray))
 ((Aq (fun s_:Int×ByteArray=>Ej s_.1 s_.2) 4611686018427387904 (a0,(⟨#[]⟩:ByteArray))).bind fun u0 =>
 og ((⟨#[109]⟩:ByteArray).size+u0.size<=9223372036854775807) <|
 some ((⟨#[109]⟩:ByteArray)++u0))
theorem Sg (h:Jq bA=some gA):Gj Tryz.prog Tab 31 [ai bA] [] (.str gA) []:=by
 refine Dh kr Tryz.func31 (Ei kr) (n:=20) kr (by simp) rfl kr trivial trivial (Ae (Ab (Ae (kQ h (fun _ h=>Ae (Ac (tr_ (by obtain rfl:=osj h;exact Jm [.str ((⟨#[109,48]⟩:ByteArray))] (Aj (tl:=[(2,.str ((⟨#[109,48]⟩:ByteArray)))]) (g:=2) []))))) fun _ h=>skW (Ae (sqF h (fun u1=>sT [(3,.str u1)] []) ?_ ?_))))))
 ·intro _ h;refine Ad (lpF h (fun (u0,u2)=>sT [(0,ai u0),(3,.str u2)] []) (Aj []) ?_);rintro n_ ⟨u0,u2⟩ c_ h hn9;refine Ab (Ae (kQ h (fun _ h=>skW (Ad (Ab (Aa 13 (rsT 1 (rs0 (ai (Int.tmod u0 10)) (Nm (k:=.i64) (a:=u0) (b:=10) kr kr (by decide)) (rsT 2 (Aha (oI 12 8 1) (oi 12 8) (.vec 5 1 1 [.int .u8 (IntKind.u8.wrap (wI (48+Int.tmod u0 10)))]) trivial (Zb kr) (rsT 2 ?_))))))))) fun _ h=>lxT (have h:=jO h hn9;jE [])));obtain ⟨g14,h⟩:=Au h;exact rs0 (.str ((strOfNums [IntKind.u8.wrap (wI (48+Int.tmod u0 10))])++u2)) (Ai5 (a:=strOfNums [IntKind.u8.wrap (wI (48+Int.tmod u0 10))]) (b:=u2) kr kr g14) (rsT 1 (rnW (Aa 16 (rsT 1 (rs0 (ai (wI (Int.tdiv u0 10))) (An1 (k:=.i64) (a:=u0) (b:=10) kr kr (by decide)) (rsT 1 (Ap (bn_ (tn_ (jL []))))))))))
 intro u1 h;refine Ab (Aa 5 (rsT 1 ?_));obtain ⟨g16,h⟩:=Au h;refine rs0 (.str ((⟨#[109]⟩:ByteArray)++u1)) (Ai5 (a:=(⟨#[109]⟩:ByteArray)) (b:=u1) kr kr g16) (rsT 1 (rnW (Ac ?_)));obtain rfl:=zj h;exact Jm [.str ((⟨#[109]⟩:ByteArray)++u1)] (Aj (tl:=[(2,.str ((⟨#[109]⟩:ByteArray)++u1))]) (g:=2) [])
end


section
open Go.RowKit Go.Deep
theorem Et (f:Nat->List Addr) (j:Nat):(List.range (j+1)).flatMap f=(List.range j).flatMap f++f j:=by rw [List.range_succ,List.flatMap_append];simp
theorem Ty.Val.lay {R:Nat->Prop} {w:World} {g:Nat}:∀ {t:Ty} {cs:List Value} {x:t.D} {ls:List Addr} {o:Nat},Ty.Val R w t cs x ls->(∀ j,j<cs.length->w.cell? ⟨g,o+j,none⟩=cs[j]?)->ls.Nodup->(∀ p∈ls,p.block≠g) ->
  ∃ l,Ty.Mem R w t ⟨g,o,none⟩ x l/\l.Nodup/\∀ p∈l,(∃ j,o<=j/\j<o+t.size/\p=⟨g,j,none⟩)∨p∈ls
 | .int,_,_,_,o,⟨rfl,_⟩,hc,_,_=>⟨[⟨g,o,none⟩],⟨by simpa using hc 0 (by simp),rfl⟩,by simp,fun p hp=>.inl ⟨o,Nat.le_refl _,by simp [Ty.size],by simpa using hp⟩⟩
 | .bool,_,_,_,o,⟨rfl,_⟩,hc,_,_=>⟨[⟨g,o,none⟩],⟨by simpa using hc 0 (by simp),rfl⟩,by simp,fun p hp=>.inl ⟨o,Nat.le_refl _,by simp [Ty.size],by simpa using hp⟩⟩
 | .str,_,_,_,o,⟨rfl,_⟩,hc,_,_=>⟨[⟨g,o,none⟩],⟨by simpa using hc 0 (by simp),rfl⟩,by simp,fun p hp=>.inl ⟨o,Nat.le_refl _,by simp [Ty.size],by simpa using hp⟩⟩
 | .slice t,_,xs,ls,o,⟨A,c,rfl,he⟩,hc,hn,_=>⟨ls,⟨A,c,by simpa using hc 0 (by simp),he⟩,hn,fun p hp=>.inr hp⟩
 | .pair t u,_,x,_,o,⟨c1,c2,l1,l2,rfl,h1,h2,rfl⟩,hc,hn,hb=>by
  obtain ⟨n1,n2,n3⟩:=List.nodup_append.1 hn;have e1:=h1.length;have e2:=h2.length;obtain ⟨m1,q1,q2,q3⟩:=Ty.Val.lay (o:=o) h1 (fun j hj=>by rw [hc j (by rw [List.length_append];omega),List.getElem?_append_left hj]) n1 (fun p hp=>hb p (List.mem_append_left _ hp))
  obtain ⟨m2,r1,r2,r3⟩:=Ty.Val.lay (o:=o+t.size) h2 (fun j hj=>by
   rw [Nat.add_assoc,hc _ (by rw [List.length_append];omega),List.getElem?_append_right oM];congr 1;omega) n2 (fun p hp=>hb p (List.mem_append_right _ hp))
  refine ⟨m1++m2,⟨m1,m2,q1,by rw [Bd];exact r1,rfl⟩,List.nodup_append.2 ⟨q2,r2,fun a ha b hb' e=>?_⟩,fun p hp=>?_⟩
  ·subst e;rcases q3 a ha with ⟨j,j1,j2,rfl⟩|h
   ·rcases r3 _ hb' with ⟨k,k1,k2,e⟩|h'
    ·injection e with _ e;omega
    ·exact hb _ (List.mem_append_right _ h') rfl
   ·rcases r3 _ hb' with ⟨k,k1,k2,rfl⟩|h'
    ·exact hb _ (List.mem_append_left _ h) rfl
    ·exact n3 _ h _ h' rfl
  ·simp only [Ty.size];rcases List.mem_append.1 hp with h|h
   ·rcases q3 p h with ⟨j,j1,j2,e⟩|h
    ·exact .inl ⟨j,j1,by omega,e⟩
    ·exact .inr (List.mem_append_left _ h)
   ·rcases r3 p h with ⟨j,j1,j2,e⟩|h
    ·exact .inl ⟨j,by omega,by omega,e⟩
    ·exact .inr (List.mem_append_right _ h)
def Qo (g:Nat):Nat->List Value->World->World
 | _,[],w=>w
 | o,v :: vs,w=>Qo g (o+1) vs (w.setCell ⟨g,o,none⟩ v)
theorem Uq {g n:Nat} {tt:TypeId}:∀ {vs:List Value} {o:Nat} {w:World} {F:Nat->Value},w.rowIs g tt n F->(Qo g o vs w).rowIs g tt n (fun i=>if o<=i/\i<o+vs.length then vs.getD (i - o) undef else F i)
 | [],o,w,F,h=>h.congr fun i _=>by rw [if_neg (by simp only [List.length_nil];omega)]
 | v :: vs,o,w,F,h=>(Uq (vs:=vs) (o:=o+1) (h.set o v)).congr fun i _=>by
  simp only [List.length_cons];by_cases e:i=o
  ·subst e;rw [if_neg oM,if_pos rfl,if_pos oM,Nat.sub_self,List.getD_cons_zero]
  ·by_cases h2:o+1<=i/\i<o+1+vs.length
   ·rw [if_pos h2,if_pos oM,show i - o=(i - (o+1))+1 by omega,List.getD_cons_succ]
   ·rw [if_neg h2,if_neg e,if_neg oM]
theorem R0 {g:Nat}:∀ {vs:List Value} {o:Nat} {w0 w:World},Above (g+1) w0 w->Above (g+1) w0 (Qo g o vs w)
 | [],_,_,_,h=>h
 | v :: vs,o,_,_,h=>R0 (vs:=vs) (h.setCell (by simp) v)
theorem Ry {g B:Nat} (hg:B<=g):∀ {vs:List Value} {o:Nat} {w0 w:World},Below B w0 w->Below B w0 (Qo g o vs w)
 | [],_,_,_,h=>h
 | v :: vs,o,_,_,h=>Ry hg (vs:=vs) (h.setCell (by simpa using hg) v)
def LaidV (g:Nat) (tt:TypeId) (t:Ty) (n k:Nat) (xs:List t.D) (w:World):Prop :=
 ∃ (F:Nat->Value) (f:Nat->List Addr),w.rowIs g tt (n*t.size) F /\
  (∀ (j:Nat) (hj:j<xs.length),j<k->Ty.Val (Ic (g+1)) w t ((List.range t.size).map fun i=>F (j*t.size+i)) (xs[j]'hj) (f j))/\Fresh w (g+1) ((List.range k).flatMap f)
section
variable {g n k:Nat} {tt:TypeId} {t:Ty} {xs:List t.D} {w w':World}
theorem Ty.Val.mono {R R':Nat->Prop} (hR:∀ b,b<w.heap.size->R b->R' b):∀ {t:Ty} {cs:List Value} {x:t.D} {l:List Addr},Ty.Val R w t cs x l->Ty.Val R' w t cs x l
 | .int,_,_,_,h=>h
 | .bool,_,_,_,h=>h
 | .str,_,_,_,h=>h
 | .slice _,_,_,_,⟨A,c,h,he⟩=>⟨A,c,h,Bb hR he⟩
 | .pair _ _,_,_,_,⟨c1,c2,l1,l2,hc,h1,h2,e⟩=>⟨c1,c2,l1,l2,hc,Ty.Val.mono hR h1,Ty.Val.mono hR h2,e⟩
theorem LaidV.start {F:Nat->Value} (h:w.rowIs g tt (n*t.size) F):LaidV g tt t n 0 xs w :=
 ⟨F,fun _=>[],h,fun _ _ h=>absurd h oM,by simpa using Fresh.nil w (g+1)⟩
theorem LaidV.lt (h:LaidV g tt t n k xs w):g<w.heap.size:=by
 obtain ⟨_,_,h,_⟩:=h;exact h.lt
theorem LaidV.row (h:LaidV g tt t n k xs w):∃ F,w.rowIs g tt (n*t.size) F:=by
 obtain ⟨F,_,h,_⟩:=h;exact ⟨F,h⟩
theorem LaidV.below (h:LaidV g tt t n k xs w) (hb:Below w.heap.size w w'):LaidV g tt t n k xs w':=by
 obtain ⟨F,f,h1,h2,h3⟩:=h;exact ⟨F,f,h1.of_block (hb.block _ h1.lt),fun j hj hk=>O2 (h2 j hj hk) hb,h3.below hb⟩
theorem LaidV.step {w1:World} {cs:List Value} {l:List Addr} (h:LaidV g tt t n k xs w) (hb:Below w.heap.size w w1) (hk:k<xs.length)
  (hv:Ty.Val (Ic w.heap.size) w1 t cs xs[k] l) (hf:Fresh w1 w.heap.size l):LaidV g tt t n (k+1) xs (Qo g (k*t.size) cs w1):=by
 have hg:=h.lt;obtain ⟨F,f,h1,h2,h3⟩:=h;have hr:=h1.of_block (hb.block _ h1.lt);have hl:=hv.length;have hab:Above (g+1) w1 (Qo g (k*t.size) cs w1):=R0 (Above.refl _ _);have hst:∀ l,Stays (Ic (g+1)) w1 (Qo g (k*t.size) cs w1) l:=fun l=>hab.stays (fun _ h=>h) l
 refine ⟨_,fun j=>if j=k then l else f j,Uq hr,fun j hj hk'=>?_,?_⟩
 ·by_cases e:j=k
  ·subst e
   have e2:((List.range t.size).map fun i=>if j*t.size<=j*t.size+i/\j*t.size+i<j*t.size+cs.length then cs.getD (j*t.size+i - j*t.size) undef else F (j*t.size+i))=cs:=by
    refine List.ext_getElem (by simp [hl]) fun i h1 h2=>?_
    simp only [List.length_map,List.length_range] at h1;simp only [List.getElem_map,List.getElem_range];rw [if_pos oM,Nat.add_sub_cancel_left,gDg,gEg h2,Option.getD_some]
   rw [e2];simp only [if_true];exact (hv.mono (R':=Ic (g+1)) (fun b _ hb=>by have:w.heap.size<=b:=hb;show g+1<=b;omega)).keep (hst _)
  ·have hjk:j<k:=by omega
   have e2:((List.range t.size).map fun i=>if k*t.size<=j*t.size+i/\j*t.size+i<k*t.size+cs.length then cs.getD (j*t.size+i - k*t.size) undef else F (j*t.size+i))=(List.range t.size).map fun i=>F (j*t.size+i):=by
    refine List.map_congr_left fun i hi=>?_
    have hi':=List.mem_range.1 hi;have:(j+1)*t.size<=k*t.size:=Nat.mul_le_mul_right _ oM;rw [Nat.succ_mul] at this;rw [if_neg oM]
   rw [e2];simp only [if_neg e];exact (O2 (h2 j hj hjk) hb).keep (hst _)
 ·rw [Et]
  have e1:(List.range k).flatMap (fun j=>if j=k then l else f j)=(List.range k).flatMap f:=by
   rw [List.flatMap_def,List.flatMap_def];congr 1;exact List.map_congr_left fun j hj=>if_neg (by have:=List.mem_range.1 hj;omega)
  rw [e1];simp only [if_true];exact (Fresh.append h3 hb hf oM).above hab
theorem Agw {R:Nat->Prop} {F:Nat->Value} {f:Nat->List Addr} (hcl:∀ i,i<n*t.size->w.cell? ⟨g,i,none⟩=some (F i)) (hn:n=xs.length) (h2:∀ (j:Nat) (hj:j<xs.length),j<n->Ty.Val R w t ((List.range t.size).map fun i=>F (j*t.size+i)) (xs[j]'hj) (f j)) :
  ∀ m,m<=n->((List.range m).flatMap f).Nodup->(∀ p∈(List.range m).flatMap f,p.block≠g)->∃ fl:Nat->List Addr,(∀ (j:Nat) (hj:j<xs.length),j<m->Ty.Mem R w t ⟨g,j*t.size,none⟩ (xs[j]'hj) (fl j))/\((List.range m).flatMap fl).Nodup /\
   ∀ p∈(List.range m).flatMap fl,(∃ j,j<m*t.size/\p=⟨g,j,none⟩)∨p∈(List.range m).flatMap f:=by
 intro m
 induction m with
 | zero=>exact fun _ _ _=>⟨fun _=>[],fun _ _ h=>absurd h oM,by simp,fun p hp=>by simp at hp⟩
 | succ m ih =>
  intro hm hf hne;rw [Et] at hf hne;obtain ⟨n1,n2,n3⟩:=List.nodup_append.1 hf;obtain ⟨fl,q1,q2,q3⟩:=ih oM n1 fun p hp=>hne p (List.mem_append_left _ hp)
  have hmx:m<xs.length:=by omega
  have hsz:m*t.size+t.size<=n*t.size:=by rw [← Nat.succ_mul];exact Nat.mul_le_mul_right _ hm
  have hbl:∀ p∈f m,p.block≠g:=fun p hp=>hne p (List.mem_append_right _ hp)
  obtain ⟨l,r1,r2,r3⟩:=(h2 m hmx oM).lay (g:=g) (o:=m*t.size) (fun j hj=>by
   simp only [List.length_map,List.length_range] at hj;rw [hcl _ oM,List.getElem?_map,List.getElem?_range hj,Option.map_some]) n2 hbl
  refine ⟨fun j=>if j=m then l else fl j,fun j hj hjm=>?_,?_,?_⟩
  ·by_cases e:j=m
   ·subst e;simpa using r1
   ·simpa [e] using q1 j hj oM
  all_goals
   rw [Et]
   have e1:(List.range m).flatMap (fun j=>if j=m then l else fl j)=(List.range m).flatMap fl:=by
    rw [List.flatMap_def,List.flatMap_def];congr 1;exact List.map_congr_left fun j hj=>if_neg (by have:=List.mem_range.1 hj;omega)
   rw [e1];simp only [if_true]
  ·refine List.nodup_append.2 ⟨q2,r2,fun a ha b hb e=>?_⟩;subst e;rcases q3 a ha with ⟨j,j1,rfl⟩|h
   ·rcases r3 _ hb with ⟨k,k1,k2,e⟩|h'
    ·injection e with _ e;omega
    ·exact hbl _ h' rfl
   ·rcases r3 _ hb with ⟨k,k1,k2,rfl⟩|h'
    ·exact hne _ (List.mem_append_left _ h) rfl
    ·exact n3 _ h _ h' rfl
  ·intro p hp;rw [Et,Nat.succ_mul];rcases List.mem_append.1 hp with h|h
   ·rcases q3 p h with ⟨j,j1,e⟩|h
    ·exact .inl ⟨j,by omega,e⟩
    ·exact .inr (List.mem_append_left _ h)
   ·rcases r3 p h with ⟨j,j1,j2,e⟩|h
    ·exact .inl ⟨j,by omega,e⟩
    ·exact .inr (List.mem_append_right _ h)
theorem LaidV.done (h:LaidV g tt t n n xs w) (hn:n=xs.length) (hc:n<=maxLen) {lo:Nat} (hlo:lo<=g):∃ l,Sl (Ic lo) w t (some ⟨g,0,none⟩) n xs l/\Fresh w lo l:=by
 subst hn;obtain ⟨F,f,h1,h2,h3⟩:=h;obtain ⟨fl,q1,q2,q3⟩:=Agw (fun i hi=>h1.cell hi) rfl h2 _ (Nat.le_refl _) h3.1 (fun p hp e=>by have:=(h3.2 p hp).1;omega);refine ⟨_,⟨Nat.le_refl _,hc,fl,rfl,fun _=>⟨_,rfl,hlo,fun i hi=>?_⟩⟩,q2,fun p hp=>?_⟩
 ·rw [Bd,Nat.zero_add];exact (q1 i hi hi).mono (fun _ _ hr=>by have:g+1<=_:=hr;show lo<=_;omega)
 ·rcases q3 p hp with ⟨j,_,rfl⟩|h
  ·exact ⟨hlo,h1.lt,h1.frozen j⟩
  ·have:=h3.2 p h;exact ⟨by omega,this.2⟩
end
end
end Go.Proofs.YtlaebfbpgeegcaaGreatDoor
