/- Lemmas on the program and on partial functions that stand in place of its code (part 8); no condition beyond those that each one states. -/
import Derived.Test.YthlpchhhinipaaaGreatDoorZ7
namespace Go.Proofs.YthlpchhhinipaaaGreatDoor
open Go.RowKit Go.Deep List
section
set_option maxRecDepth 4000
set_option maxHeartbeats 4800000
variable{bA bB bC:Int}{aA aB:List Int}{dA dB:LL}{qA:Int×Int×LL}
def Eh(a0:Int):Option (List Int):=
 og (0<=a0/\a0<=a0/\a0<=1073741824/\(8:Int)*a0<=140737488355328)<|
some (replicate a0.toNat (0:Int))
theorem Gh(h:Eh bA=some aA):cK 132 [ai bA] (Cj aA):=by
 refine cO Tryz.func132<|Ae<|Ab<|Aa 5<|rsT 1 ?_;have ⟨g3,h⟩:=Aj h;exact rs1 (oI 4 3 bA.toNat) (oi 4 3) (.arr 3 .int<|replicate bA.toNat (0:Int)) (Qh (t:=.int) (k:=.i64) (k':=.i64) (m:=bA) (m':=bA) kr kr g3 rfl)<|rsT 1<|rnW<|Ac<|jR h [oI 4 3 bA.toNat]<|H6 rfl (Ec kr length_replicate.symm) H0
def Ly(a0 a1:Int):Option (List Int):=
 (Eh a0).bind fun y3=>
(Bz y3 a1).bind fun x5=>
some (y3.set a1.toNat 1)
theorem Sw(h:Ly bA bB=some aA):cK 168 [ai bA,ai bB] (Cj aA):=by
 refine cO Tryz.func168<|Ae<|Ab<|Aa 5<|rsT 1 (rcH h Gh fun y3 h=>rsT 1<|rnW<|Ab<|Aa 9<|rsT 2 ?_);have ⟨x5,f5,h⟩:=Ah h;have ⟨p5,b5,e5⟩:=Ar f5;exact rs0 (.elt (oi 112 3) bB.toNat 0) (zo (t:=.int) (o:=oi 112 3) (len:=y3.length) (k:=.i64) (m:=bB) p5<|Ai e5)<|zS (oi 112 3) (1) e5<|rnW<|Ae<|Ac<|jR h [oI 112 3 y3.length]<|H6 rfl (Ec kr<|(rfl:y3.length=y3.length).trans length_set.symm) H0
def Fc(a0:Int)(u0:Nat)(u1:LL):Option (Ctl (Nat×LL) (LL)):=
 cond (decide ((u0:Int)<a0))
 ((Ly a0 (u0:Int)).bind fun y12=>
 og (u1.length+1<=1073741824/\(u1.length+1)*24<=140737488355328)<|
 og (u0+1<4611686018427387904)<|
 some (.next (u0+1,u1++[y12])))
 (some (.out u1))
def Gm(a0:Int):Option LL:=
 (Aq (fun s_:Nat×LL=>Fc a0 s_.1 s_.2) 4611686018427387904 (0,([]:LL))).bind fun u0=>
some u0
theorem Ua(h:Gm bA=some dA):Ed Tryz.prog Tab 166 [ai bA] [] (oS 0 1 dA.length) [(oi 0 1,.mat 81 (oi 1 1) .int dA),(oi 1 1,.pool 3 .int dA)]:=by
 refine B8 kr Tryz.func166 (Ck kr) (n:=18) kr fS rfl kr trivial ⟨⟨3,.tail _<|.head _⟩,⟨trivial,trivial⟩⟩ (Ae<|Ab<|Aa 4<|Hd (oS 5 2 0) (oi 5 2) (.vec 81 1 0 []) trivial (Co kr)<|rsT 1<|Ao<|tn_ ⟨_,Dv (e1:=81) (n:=0) 9000 (oi 5 2) 3 .int kr kr rfl kr kr,sqF h (fun u1=>sT [(3,oS 0 1 u1.length)] [(oi 0 1,.mat 81 (oi 1 1) .int u1),(oi 1 1,.pool 3 .int u1)]) ?_ fun u1 h=>Ae<|Ac (by obtain rfl:=osj h;exact E4 [oS 0 1 u1.length]<|Ag (tl:=[(2,oS 0 1 u1.length)]) (g:=2) [])⟩);intro _ h;refine Ae<|Ad<|lpF h (fun (u2,u0)=>sT [(0,ai bA),(3,oS 0 1 u0.length),(6,ai bA),(7,an u2)] [(oi 0 1,.mat 81 (oi 1 1) .int u0),(oi 1 1,.pool 3 .int u0)]) (Ag [(oi 0 1,oi 5 2),(oi 1 1,oi 9000 4)]) ?_;rintro n_ ⟨u2,u0⟩ c_ h hn6;refine Ae<|Ab (kQ h (fun _ h=>skW<|Ab<|Ad<|Ae<|Aa 12<|rsT 3 (rcH h Sw fun y12 h=>Hd (oS 14 9 1) (oi 14 9) (.vec 81 1 1<|[oI 208 8 y12.length]) trivial (Co kr) ?_)) fun _ h=>lxT (have h:=jO h hn6;jE []));have ⟨g13,h⟩:=Aj h;refine rs2 (oS 0 10<|u0.length+1) (oi 0 1) (oi 0 10) (.vec 81 1 (u0.length+1)<|hdL (oi 1 1) .int u0++[oI 208 8 y12.length]) (Iz (u:=.int) (t':=sI) (t2:=sI) (o:=oi 0 1) (q:=oi 14 9) (e2:=81) (p:=oi 1 1) (xss:=u0) (cs:=[oI 208 8 y12.length]) (len:=u0.length) kr kr rfl kr kr rfl g13)<|rsT 1<|Ao<|bn_<|tn_ ⟨_,Ew (e1:=81) (e:=3) (u:=.int) (n:=u0.length+1) (len:=y12.length) (row:=y12) (ys:=y12) (xss:=u0) 9000 (oi 0 10) (oi 1 1) (oi 208 8) kr kr rfl kr kr (Oh rfl) (Ow rfl) kr kr kr,Aa 15 (raH h fun h=>rsT 1<|Ao<|tn_ ?_)⟩;cases h;exact jLw hn6<|(wL 3 (fS:u0.length+1=(u0++[y12]).length)).trans<|Ag [(oi 0 1,oi 0 10),(oi 1 1,oi 9000 12)]
def Nf(a0:LL)(u0:Nat)(u1:List Int):Option (Ctl (Nat×List Int) (List Int)):=
 cond (decide ((u0:Int)<(a0.length:Int)))
 ((a0[u0]?).bind fun x11=>
 og (u1.length+x11.length<=1073741824/\(u1.length+x11.length)*8<=140737488355328)<|
 og (u0+1<4611686018427387904)<|
 some (.next (u0+1,u1++x11)))
 (some (.out u1))
def Dn(a0:LL):Option (List Int):=
 (Aq (fun s_:Nat×List Int=>Nf a0 s_.1 s_.2) 4611686018427387904 (0,[])).bind fun u0=>
some u0
theorem Jl(h:Dn dA=some aA):cK 136 [tS dA] (Cj aA):=by
 refine cO Tryz.func136<|Ae<|Ae (sqF h (fun u1=>sT [(3,oI 0 1 u1.length)] [(oi 0 1,.arr 3 .int u1)]) ?_ fun u1 h=>Ae<|Ac<|jR h [oI 0 1 u1.length]<|H6 rfl (Ec kr rfl) H0);intro _ h;refine Ae<|Ad<|lpF h (fun (u2,u0)=>sT [(3,oI 0 1 u0.length),(7,tS dA),(8,an dA.length),(9,an u2)] [(oi 0 1,.arr 3 .int u0)]) (Ag [(oi 0 1,oi 6 2)]) ?_;rintro n_ ⟨u2,u0⟩ c_ h hn5;refine Ae<|Ab (kQ h (fun _ h=>skW<|Ab<|Ad<|Ab<|Aa 6 (riH sI h fun x11 _ h=>rsT 2<|rnW<|Aa 10<|rsT 2 ?_)) fun _ h=>lxT (have h:=jO h hn5;jE []));have ⟨g12,h⟩:=Aj h;exact rs2 (oI 0 8<|(u0++x11).length) (oi 0 1) (oi 0 8) (.arr 3 .int<|u0++x11) (Qe (t:=.int) (t':=.int) (xs:=u0) (ys:=x11) (zs:=u0++x11) (j:=oi 0 1) (len:=u0.length) (c:=tI x11) kr kr rfl kr K3 rfl g12)<|rsT 1<|Ao<|bn_<|tn_<|wr_<|Aa 12 (raH h fun h=>rsT 1<|Ao<|tn_<|jL [(oi 0 1,oi 0 8)])
def Kx(a0:Int)(a1:LL)(a2:Int):Option LL:=
 (Gj a1).bind fun y4=>
(Gm (a1.length:Int)).bind fun y5=>
(Gx a0 y4 a2 y5).bind fun y7=>
og (y7.1.length=y4.length)<|
og (y7.2.1.length=y5.length)<|
og ((0:Int)<=(y7.2.2:Int)/\(y7.2.2:Int)<=(y5.length:Int)/\(y5.length:Int)<=(y5.length:Int))<|
(Fs a0 (y7.2.1.drop y7.2.2) (a1.length:Int)).bind fun y12=>
some y12
theorem Afb (h:Kx bA dA bB=some dB):Ed Tryz.prog Tab 134 [ai bA,tS dA,ai bB] [] (oS 0 1 dB.length) [(oi 0 1,.mat 81 (oi 1 1) .int dB),(oi 1 1,.pool 3 .int dB)]:=by
 refine B8 kr Tryz.func134 (Ck kr) (n:=27) kr (by simp) rfl kr trivial ⟨⟨3,.tail _ (.head _)⟩,⟨trivial,trivial⟩⟩ (Ae (Ab (Aa 9 (rsT 1 (rcM h [] [tS dA] Qb trivial (aR kr) (Bb kr kr trivial) fun y4 h=>rsT 2 (rcM h [] [an dA.length] Ua trivial (aR kr) (Bb kr kr trivial) fun y5 h=>rsT 2 (rnW (Ab (Aa 15 (rsT 4 (rcM h [(oi 0 0,oi 176 3),(oi 1 0,oi 177 3),(oi 2 0,oi 224 6),(oi 3 0,oi 225 6)] [ai bA,oS 176 3 y4.length,ai bB,oS 224 6 y5.length] (fun h=>Qx h rfl rfl) ⟨kr,⟨kr,⟨kr,⟨kr,trivial⟩⟩⟩⟩ (aR kr) (Bb kr kr ⟨Cw kr,⟨K0 (o:=oi 176 3) (p:=oi 177 3) (e1:=81) (m:=y4.length) (u:=.int) (xss:=y4) (Cw kr) kr,⟨Cw kr,⟨K0 (o:=oi 224 6) (p:=oi 225 6) (e1:=81) (m:=y5.length) (u:=.int) (xss:=y5) (Cw kr) kr,trivial⟩⟩⟩⟩) fun y7 h=>rsT 1 (rnW (Ab (Aa 23 (rsT 3 ?_)))))))))))))));obtain ⟨g8,h⟩:=Aj h;obtain ⟨g9,h⟩:=Aj h;obtain ⟨g11,h⟩:=Aj h;obtain ⟨y12,h12,h⟩:=Ah h;refine rs0 (.own (oi 224 6) sI y7.2.2 (y5.length - y7.2.2)) (E2 (t:=sI) (i:=oi 224 6) (off:=0) (len:=y5.length) (l:=(y7.2.2:Int)) (h:=(y5.length:Int)) kr kr kr rfl g11 (Nat.zero_add _) oM) (rsT 2 (Aab (oS 416 21 y12.length) [(oi 416 21,some (.mat 81 (oi 417 21) .int y12)),(oi 417 21,some (.pool 3 .int y12))] [] [ai bA,.own (oi 224 6) sI y7.2.2 (y5.length - y7.2.2),an dA.length] (caps:=[]) trivial (K8 h12) kr trivial (.cons (.ren kr) (.cons (.gnd kr (Axw (p:=oi 305 13) (e1:=81) (e:=3) (u:=.int) (xss:=y7.2.1) (ys:=y7.2.1.drop y7.2.2) ((K6 kr kr kr).trans kr) (Aaq kr kr (Ey kr) kr) (by have z_:y5.length=y7.2.1.length:=g9.symm;omega) (take_of_length_le (by rw [length_drop];have z_:y5.length=y7.2.1.length:=g9.symm;omega)))) (.cons (.ren kr) .nil))) (Bb kr kr trivial) (rsT 1 (rnW (Ac ?_)))));obtain rfl:=zj h;exact E4 [oS 0 1 y12.length] (Ag (tl:=[(6,oS 0 1 y12.length)]) (g:=2) [(oi 0 1,oi 416 21),(oi 1 1,oi 417 21)])
def Mk(a2:LL)(a1:List Int)(a0:Int)(u0:Nat)(u1:List Int):Option (Ctl (Nat×List Int) (List Int)):=
 cond (decide ((u0:Int)<(a2.length:Int)))
 ((a2[u0]?).bind fun x12=>
 (a1[u0]?).bind fun x13=>
 (Cy a0 u1 x13 x12).bind fun y14=>
 og (y14.length=u1.length)<|
 og (u0+1<4611686018427387904)<|
 some (.next (u0+1,y14)))
 (some (.out u1))
def Jh(a0:Int)(a1:List Int)(a2:LL)(a3:Int):Option (List Int):=
 (Eh a3).bind fun y3=>
(Aq (fun s_:Nat×List Int=>Mk a2 a1 a0 s_.1 s_.2) 4611686018427387904 (0,y3)).bind fun u0=>
some u0
theorem Tp(h:Jh bA aA dA bB=some aB):cK 135 [ai bA,tI aA,tS dA,ai bB] (Cj aB):=by
 refine cO Tryz.func135<|Ae<|Ab<|Aa 5<|rsT 1 (rcH h Gh fun y3 h=>rsT 1<|rnW (sqF h (fun u1=>sT [(9,oI 0 1 u1.length)] [(oi 0 1,.arr 3 .int u1)]) ?_ fun u1 h=>Ae<|Ac<|jR h [oI 0 1 u1.length]<|H6 rfl (Ec kr rfl) H0));intro _ h;refine Ae<|Ad<|lpF h (fun (u2,u0)=>sT [(0,ai bA),(1,tI aA),(9,oI 0 1 u0.length),(14,tS dA),(15,an dA.length),(16,an u2)] [(oi 0 1,.arr 3 .int u0)]) (Ag [(oi 0 1,oi 208 3)]) ?_;rintro n_ ⟨u2,u0⟩ c_ h hn6;refine Ae<|Ab (kQ h (fun _ h=>skW<|Ab<|Ad<|Ab<|Aa 8<|rsT 1 (riH sI h fun x12 _ h=>rsT 3<|rnW<|Aa 16<|rsT 4 (riH .int h fun x13 _ h=>rsT 2 (rcM h [(oi 0 0,oi 0 1)] [ai bA,oI 0 1 u0.length,ai x13,tI x12] (fun h=>Na h rfl) ⟨kr,trivial⟩ (aR kr) (Bb kr kr ⟨Cw kr,trivial⟩) fun y14 h=>Ao<|bn_<|tn_<|wr_<|Aa 18 ?_)))) fun _ h=>lxT (have h:=jO h hn6;jE []));have ⟨g15,h⟩:=Aj h;have ⟨g16,h⟩:=Aj h;refine zA g16<|rsT 1<|Ao<|tn_ ?_;cases h;exact jLw hn6<|(wL 9 (g15.symm:u0.length=y14.length)).trans<|Ag []
def Ca(a0 a1 a2:Int)(a3:LL):Option (Int×Int×LL):=
 (Fs a0 a3 (wI (a1+a2))).bind fun y3=>
some (a1,a2,y3)
theorem Fl(h:Ca bA bB bC dA=some qA):cK 137 [ai bA,ai bB,ai bC,tS dA] (C0 qA):=by
 exact cZ Tryz.func137 fun zn_ nz_ hz_=>Ae<|Ab<|Aa 12<|rsT 7 (rcM h [] [ai bA,tS dA,ai (wI<|bB+bC)] (fun h=>U6<|K8 h) trivial (aR kr) (Bb kr kr trivial) fun y3 h=>rsB 2<|rnW<|Ac<|jZ h [(true,[ai bB,ai bC,oS 256 9 y3.length])]<|Ek (Aw Cd<|Aw Cd<|Aw (B0<|.mat (p:=oi 257 9) (e1:=81) (e:=3) kr (Ey kr) rfl) Ei) Cs)
end
section
set_option maxRecDepth 4000
set_option maxHeartbeats 4800000
variable{bA bB bC bD bE bF:Int}{qA:Int×Int×LL}{aA aB:List Int}{dA dB dC dD:LL}
def Ds(a0:Int)(u0:Nat)(u1:LL):Option (Ctl (Nat×LL) (LL)):=
 cond (decide ((u0:Int)<a0))
 ((Ly a0 (u0:Int)).bind fun y11=>
 (Ly a0 (u0:Int)).bind fun y12=>
 (Dn ([y11,y12])).bind fun y13=>
 og (u1.length+1<=1073741824/\(u1.length+1)*24<=140737488355328)<|
 og (u0+1<4611686018427387904)<|
 some (.next (u0+1,u1++[y13])))
 (some (.out u1))
def Ex(a0:Int):Option (Int×Int×LL):=
 (Aq (fun s_:Nat×LL=>Ds a0 s_.1 s_.2) 4611686018427387904 (0,([]:LL))).bind fun u0=>
some (a0,a0,u0)
theorem Ra(h:Ex bA=some qA):cK 140 [ai bA] (C0 qA):=by
 refine cZ Tryz.func140 fun zn_ nz_ hz_=>Ae<|Ae (sqF h (fun u1=>sT [(2,.box (oi 0 1) 0),(3,.box (oi 1 1) 0)] [(oi 0 1,.cells 30 [ai 0,ai 0,.nils]),(oi 1 1,.cells 30 [ai bA,ai bA,oS 2 1 u1.length]),(oi 2 1,.mat 81 (oi 3 1) .int u1),(oi 3 1,.pool 3 .int u1)]) ?_ fun u1 h=>Ae<|Ac<|jZ h [(true,[ai bA,ai bA,oS 2 1 u1.length])]<|Ek (Aw Cd<|Aw Cd<|Aw (B0<|.mat (p:=oi 3 1) (e1:=81) (e:=3) kr (Ey kr) rfl) Ei) Cs)
 intro _ h;refine Ae<|Ad<|lpF h (fun (u2,u0)=>sT [(0,ai bA),(2,.box (oi 0 1) 0),(3,.box (oi 1 1) 0),(8,ai bA),(9,an u2)] [(oi 0 1,.cells 30 [ai 0,ai 0,.nils]),(oi 1 1,.cells 30 [ai bA,ai bA,oS 2 1 u0.length]),(oi 2 1,.mat 81 (oi 3 1) .int u0),(oi 3 1,.pool 3 .int u0)]) ((Oy 9000 (oi 3 5) 2 30 [ai bA,ai bA,.nils] [ai bA,ai bA,oS 9000 9 0] 81 sI kr kr kr).trans<|(Dv (e1:=81) (n:=0) 9000 (oi 9000 9) 3 .int kr kr rfl kr kr).trans<|Ag [(oi 0 1,oi 2 1),(oi 1 1,oi 3 5),(oi 2 1,oi 9000 9),(oi 3 1,oi 9000 10)]) ?_;rintro n_ ⟨u2,u0⟩ c_ h hn5;refine Ae<|Ab (kQ h (fun _ h=>skW<|Ab<|Ad<|Ae<|Al 19<|dsT 4 (dcH h (fun h=>Hi<|Sw h) fun y11 h=>dz0 (ai bA)<|dz0 (an u2) (dcH h (fun h=>Hi<|Sw h) fun y12 h=>dsU (tS<|[y11,y12]) [(oi 256 9,none),(oi 304 12,none)] (Ae0 (t:=.int) (yss:=[y11,y12]) (El (t:=.int) (c:=oI 256 9 y11.length) (ys:=y11) kr (Ij (e:=3) kr rfl)<|El (t:=.int) (c:=oI 304 12 y12.length) (ys:=y12) kr (Ij (e:=3) kr rfl) Sx) kr) (dcH h (fun h=>Hi<|Jl h) fun y13 h=>Ajw (oS 22 15 1) (oi 22 15) (.vec 81 1 1<|[oI 336 14 y13.length]) trivial (Co kr) ?_)))) fun _ h=>lxT (have h:=jO h hn5;jE []));have ⟨g14,h⟩:=Aj h;refine ds2 (oS 2 16<|u0.length+1) (oi 2 1) (oi 2 16) (.vec 81 1 (u0.length+1)<|hdL (oi 3 1) .int u0++[oI 336 14 y13.length]) (Iz (u:=.int) (t':=sI) (t2:=sI) (o:=oi 2 1) (q:=oi 22 15) (e2:=81) (p:=oi 3 1) (xss:=u0) (cs:=[oI 336 14 y13.length]) (len:=u0.length) kr kr rfl kr kr rfl g14)<|dz0 (.box (oi 1 1) 2)<|J4 (oi 1 1) (oi 1 1) (.cells 30 [ai bA,ai bA,oS 2 16 (u0.length+1)]) kr<|Cb (As kr)<|bn_<|tn_ ⟨_,Ew (e1:=81) (e:=3) (u:=.int) (n:=u0.length+1) (len:=y13.length) (row:=y13) (ys:=y13) (xss:=u0) 9000 (oi 2 16) (oi 3 1) (oi 336 14) kr kr rfl kr kr (Oh rfl) (Ow rfl) kr kr kr,Aa 22 (raH h fun h=>rsT 1<|Ao<|tn_ ?_)⟩;cases h;exact jLw hn5<|(Vi (oi 1 1) (.cells 30 [ai bA,ai bA,oS 2 16 (u0.length+1)]) (.cells 30 [ai bA,ai bA,oS 2 16 ((u0++[y13]).length)]) kr<|congrArg (fun z_=>(.cells 30 [ai bA,ai bA,oS 2 16 z_]:Ob)) (fS:u0.length+1=(u0++[y13]).length)).trans<|Ag [(oi 2 1,oi 2 16),(oi 3 1,oi 9000 19)]
def Mg(a0:Int):Option Int:=
 (Ce a0 3 8).bind fun y4=>
cond y4
 (some (wI ((wI (a0+9)) - 3)))
 ((Ce a0 9 14).bind fun y8=>
 cond y8
  (some (wI (wI (a0 - 9)+3)))
  (some a0))
theorem P1(h:Mg bA=some bB):cK 142 [ai bA] (A8 bB):=by
 exact cO Tryz.func142<|Ae<|Ab<|Ad<|Ab<|Aa 5<|rsT 1 (rcH h C9 fun y4 h=>rsT 1<|rnW (kQ h (fun _ h=>Ae<|Ac<|br_<|tr_<|jS h) fun _ h=>Ab<|Aa 8<|rsT 1 (rcH h C9 fun y8 h=>rsT 1<|rnW (kQ h (fun _ h=>Ae<|Ac<|br_<|tr_<|jS h) fun _ h=>Ay<|bn_<|tn_<|wr_<|Ae<|Ac<|jS h))))
def Q6(a0:List Int)(u0 u1:Int)(u2:LL):Option (List Int):=
 (Bq u0 u1 u2 a0).bind fun y3=>
(Bs u0 u1 u2 a0).bind fun y4=>
(Dn ([a0.drop y3.1,a0.take y4])).bind fun y5=>
some y5
theorem Xj(h:Q6 aA bA bB dA=some aB):cK 169 [tI aA,.ref [ai bA,ai bB,tS dA]] (Cj aB):=by
 refine cO Tryz.func169<|Ae<|Ab<|Al 11<|dz0 (.agg [ai bA,ai bB,tS dA])<|dz0 (tI aA) ?_;have ⟨y3,h3,h⟩:=Ah h;refine M7 (tI<|aA.drop y3.1) [] [.agg [ai bA,ai bB,tS dA],tI aA] _ (caps:=[]) (args0:=[.agg [ai bA,ai bB,tS dA],tI aA]) trivial kr (Ev h3) kr (hr:=Gw h3)<|dz0 (.agg [ai bA,ai bB,tS dA])<|dz0 (tI aA) ?_;have ⟨y4,h4,h⟩:=Ah h;exact M7 (tI<|aA.take y4) [] [.agg [ai bA,ai bB,tS dA],tI aA] _ (caps:=[]) (args0:=[.agg [ai bA,ai bB,tS dA],tI aA]) trivial kr (Fb h4) kr (hr:=Hm h4)<|dsU (tS<|[aA.drop y3.1,aA.take y4]) [] (Ae0 (t:=.int) (yss:=[aA.drop y3.1,aA.take y4]) (El (t:=.int) (c:=tI<|aA.drop y3.1) (ys:=aA.drop y3.1) kr K3<|El (t:=.int) (c:=tI<|aA.take y4) (ys:=aA.take y4) kr K3 Sx) kr) (dcH h Jl fun y5 h=>dz0 (oI 176 9 y5.length)<|Cb (As kr)<|tn_<|wr_<|Ac<|jR h [oI 176 9 y5.length]<|H6 rfl (Ec kr rfl) H0)
def He(u2:LL)(u3 u4:Int)(u5:LL)(u0:Nat)(u1:LL):Option (Ctl (Nat×LL) (LL)):=
 cond (decide ((u0:Int)<(u2.length:Int)))
 ((u2[u0]?).bind fun x12=>
 (Q6 x12 u3 u4 u5).bind fun y13=>
 og (u1.length+1<=1073741824/\(u1.length+1)*24<=140737488355328)<|
 og (u0+1<4611686018427387904)<|
 some (.next (u0+1,u1++[y13])))
 (some (.out u1))
def D4(u5 u6:Int)(u0:LL)(u1 u2:Int)(u3:LL):Option LL:=
 (Aq (fun s_:Nat×LL=>He u0 u1 u2 u3 s_.1 s_.2) 4611686018427387904 (0,([]:LL))).bind fun u4=>
some u4
theorem H7(h:D4 bA bB dA bC bD dB=some dC):Ed Tryz.prog Tab 129 [.agg [ai bA,ai bB,tS dA],.fn 169 [.ref [ai bC,ai bD,tS dB]]] [] (oS 0 1 dC.length) [(oi 0 1,.mat 81 (oi 1 1) .int dC),(oi 1 1,.pool 3 .int dC)]:=by
 refine B8 kr Tryz.func129 (Ck kr) (n:=24) kr fS rfl kr trivial ⟨⟨3,.tail _<|.head _⟩,⟨trivial,trivial⟩⟩ (Ae<|Ab<|Aa 5<|Hd (oS 8 3 0) (oi 8 3) (.vec 81 1 0 []) trivial (Co kr)<|rsT 1<|Ao<|tn_ ⟨_,Dv (e1:=81) (n:=0) 9000 (oi 8 3) 3 .int kr kr rfl kr kr,sqF h (fun u4=>sT [(5,oS 0 1 u4.length)] [(oi 0 1,.mat 81 (oi 1 1) .int u4),(oi 1 1,.pool 3 .int u4)]) ?_ fun u4 h=>Ae<|Ac (by obtain rfl:=osj h;exact E4 [oS 0 1 u4.length]<|Ag (tl:=[(4,oS 0 1 u4.length)]) (g:=2) [])⟩);intro _ h;refine Ae<|Ad<|lpF h (fun (u8,u0)=>sT [(1,.fn 169 [.ref [ai bC,ai bD,tS dB]]),(5,oS 0 1 u0.length),(10,tS dA),(11,an dA.length),(12,an u8)] [(oi 0 1,.mat 81 (oi 1 1) .int u0),(oi 1 1,.pool 3 .int u0)]) (Ag [(oi 0 1,oi 8 3),(oi 1 1,oi 9000 5)]) ?_;rintro n_ ⟨u8,u0⟩ c_ h hn6;refine Ae<|Ab (kQ h (fun _ h=>skW<|Ab<|Ad<|Ab<|Aa 6 (riH sI h fun x12 _ h=>rsT 2<|rnW<|Aa 13<|rsT 3 ?_)) fun _ h=>lxT (have h:=jO h hn6;jE []));have ⟨y13,h13,h⟩:=Ah h;refine R3 (oI 304 9 y13.length) [nI 304 9 y13] [tI x12,.ref [ai bC,ai bD,tS dB]] _ (caps:=[.ref [ai bC,ai bD,tS dB]]) (args0:=[tI x12,.ref [ai bC,ai bD,tS dB]]) trivial kr (Xj h13) kr<|Hd (oS 20 10 1) (oi 20 10) (.vec 81 1 1<|[oI 304 9 y13.length]) trivial (Co kr) ?_;have ⟨g14,h⟩:=Aj h;refine rs2 (oS 0 11<|u0.length+1) (oi 0 1) (oi 0 11) (.vec 81 1 (u0.length+1)<|hdL (oi 1 1) .int u0++[oI 304 9 y13.length]) (Iz (u:=.int) (t':=sI) (t2:=sI) (o:=oi 0 1) (q:=oi 20 10) (e2:=81) (p:=oi 1 1) (xss:=u0) (cs:=[oI 304 9 y13.length]) (len:=u0.length) kr kr rfl kr kr rfl g14)<|rsT 1<|Ao<|bn_<|tn_ ⟨_,Ew (e1:=81) (e:=3) (u:=.int) (n:=u0.length+1) (len:=y13.length) (row:=y13) (ys:=y13) (xss:=u0) 9000 (oi 0 11) (oi 1 1) (oi 304 9) kr kr rfl kr kr (Oh rfl) (Ow rfl) kr kr kr,Aa 16 (raH h fun h=>rsT 1<|Ao<|tn_ ?_)⟩;cases h;exact jLw hn6<|(wL 5 (fS:u0.length+1=(u0++[y13]).length)).trans<|Ag [(oi 0 1,oi 0 11),(oi 1 1,oi 9000 13)]
def O5(a0 u0 u1:Int)(u2:LL):Option (Int×Int×LL):=
 (D4 u0 u1 u2 u0 u1 u2).bind fun y3=>
(Ca a0 u1 u0 y3).bind fun y4=>
some (y4.1,y4.2.1,y4.2.2)
theorem Zw(h:O5 bA bB bC dA=some qA):cK 143 [ai bA,.agg [ai bB,ai bC,tS dA]] (C0 qA):=by
 exact cZ Tryz.func143 fun zn_ nz_ hz_=>Ae<|Ab<|Al 13<|dsT 7 (dcM h [] [.agg [ai bB,ai bC,tS dA],.fn 169 [.box (oi 3 1) 0]] (fun h=>U6<|H7 h) trivial (.cons (.ren kr)<|.cons (.gnd kr<|Asg<|Au (Afr (ty:=30) (cs:=[ai bB,ai bC,tS dA]) (es:=[ai bB,ai bC,tS dA]) ((K6 kr kr kr).trans kr) kr<|Au kr<|Au kr<|Au kr Dm) Dm) .nil) (Bb kr kr trivial) (Ajg kr) fun y3 h=>dcG h [ai bA,ai bC,ai bB,oS 192 10 y3.length] (fun h=>F1 hz_<|Fl h) (Au kr<|Au kr<|Au kr<|Au (Tl (p:=oi 193 10) (e1:=81) (e:=3) (u:=.int) (xss:=y3) kr (Aez (t:=sI) (off:=0) (len:=y3.length) (i:=oi 192 10) (e1:=81) (z:=1) (m:=y3.length) 3 rfl kr kr<|Ey kr) rfl) Dm) fun y4 h=>J4 (oi 4 2) (oi 4 2) (.cells 30 [ai y4.1,ai y4.2.1,.ftr nz_ sI y4.2.2]) kr<|Cb ⟨Zz kr,⟨Zz kr,trivial⟩⟩<|tn_<|wr_<|Ac<|jZ h [(true,[ai y4.1,ai y4.2.1,.ftr nz_ sI y4.2.2])]<|Ek (Aw Cd<|Aw Cd<|Aw (B0 .ftr) Ei) Cs)
def O6(a0:List Int)(u0 u1:Int)(u2:LL)(u3 u4:Int)(u5:LL):Option (List Int):=
 (Bs u0 u1 u2 a0).bind fun y3=>
(Eh u3).bind fun y4=>
(Bq u0 u1 u2 a0).bind fun y5=>
(Eh u4).bind fun y6=>
(Dn ([a0.take y3,y4,a0.drop y5.1,y6])).bind fun y7=>
some y7
theorem Aa3(h:O6 aA bA bB dA bC bD dB=some aB):cK 138 [tI aA,.ref [ai bA,ai bB,tS dA],.ref [ai bC,ai bD,tS dB]] (Cj aB):=by
 refine cO Tryz.func138<|Ae<|Ab<|Al 17<|dz0 (.agg [ai bA,ai bB,tS dA])<|dz0 (tI aA) ?_;have ⟨y3,h3,h⟩:=Ah h;refine M7 (tI<|aA.take y3) [] [.agg [ai bA,ai bB,tS dA],tI aA] _ (caps:=[]) (args0:=[.agg [ai bA,ai bB,tS dA],tI aA]) trivial kr (Fb h3) kr (hr:=Hm h3)<|dz0 (.ref [ai bC,ai bD,tS dB])<|dz0 (ai bC) (dcH h Gh fun y4 h=>dz0 (.agg [ai bA,ai bB,tS dA])<|dz0 (tI aA) ?_);have ⟨y5,h5,h⟩:=Ah h;exact M7 (tI<|aA.drop y5.1) [] [.agg [ai bA,ai bB,tS dA],tI aA] _ (caps:=[]) (args0:=[.agg [ai bA,ai bB,tS dA],tI aA]) trivial kr (Ev h5) kr (hr:=Gw h5)<|dz0 (.ref [ai bD,tS dB])<|dz0 (ai bD) (dcH h Gh fun y6 h=>dsU (tS<|[aA.take y3,y4,aA.drop y5.1,y6]) [(oi 160 7,none),(oi 256 13,none)] (Ae0 (t:=.int) (yss:=[aA.take y3,y4,aA.drop y5.1,y6]) (El (t:=.int) (c:=tI<|aA.take y3) (ys:=aA.take y3) kr K3<|El (t:=.int) (c:=oI 160 7 y4.length) (ys:=y4) kr (Ij (e:=3) kr rfl)<|El (t:=.int) (c:=tI<|aA.drop y5.1) (ys:=aA.drop y5.1) kr K3<|El (t:=.int) (c:=oI 256 13 y6.length) (ys:=y6) kr (Ij (e:=3) kr rfl) Sx) kr) (dcH h Jl fun y7 h=>dz0 (oI 288 15 y7.length)<|Cb (As kr)<|tn_<|wr_<|Ac<|jR h [oI 288 15 y7.length]<|H6 rfl (Ec kr rfl) H0))
def Ci(u2:LL)(u3 u4:Int)(u5:LL)(u6 u7:Int)(u8:LL)(u0:Nat)(u1:LL):Option (Ctl (Nat×LL) (LL)):=
 cond (decide ((u0:Int)<(u2.length:Int)))
 ((u2[u0]?).bind fun x12=>
 (O6 x12 u3 u4 u5 u6 u7 u8).bind fun y13=>
 og (u1.length+1<=1073741824/\(u1.length+1)*24<=140737488355328)<|
 og (u0+1<4611686018427387904)<|
 some (.next (u0+1,u1++[y13])))
 (some (.out u1))
def B6(u8 u9:Int)(u0:LL)(u1 u2:Int)(u3:LL)(u4 u5:Int)(u6:LL):Option LL:=
 (Aq (fun s_:Nat×LL=>Ci u0 u1 u2 u3 u4 u5 u6 s_.1 s_.2) 4611686018427387904 (0,([]:LL))).bind fun u7=>
some u7
theorem I6(h:B6 bA bB dA bC bD dB bE bF dC=some dD):Ed Tryz.prog Tab 129 [.agg [ai bA,ai bB,tS dA],.fn 138 [.ref [ai bC,ai bD,tS dB],.ref [ai bE,ai bF,tS dC]]] [] (oS 0 1 dD.length) [(oi 0 1,.mat 81 (oi 1 1) .int dD),(oi 1 1,.pool 3 .int dD)]:=by
 refine B8 kr Tryz.func129 (Ck kr) (n:=24) kr fS rfl kr trivial ⟨⟨3,.tail _<|.head _⟩,⟨trivial,trivial⟩⟩ (Ae<|Ab<|Aa 5<|Hd (oS 8 3 0) (oi 8 3) (.vec 81 1 0 []) trivial (Co kr)<|rsT 1<|Ao<|tn_ ⟨_,Dv (e1:=81) (n:=0) 9000 (oi 8 3) 3 .int kr kr rfl kr kr,sqF h (fun u7=>sT [(5,oS 0 1 u7.length)] [(oi 0 1,.mat 81 (oi 1 1) .int u7),(oi 1 1,.pool 3 .int u7)]) ?_ fun u7 h=>Ae<|Ac (by obtain rfl:=osj h;exact E4 [oS 0 1 u7.length]<|Ag (tl:=[(4,oS 0 1 u7.length)]) (g:=2) [])⟩);intro _ h;refine Ae<|Ad<|lpF h (fun (ub,u0)=>sT [(1,.fn 138 [.ref [ai bC,ai bD,tS dB],.ref [ai bE,ai bF,tS dC]]),(5,oS 0 1 u0.length),(10,tS dA),(11,an dA.length),(12,an ub)] [(oi 0 1,.mat 81 (oi 1 1) .int u0),(oi 1 1,.pool 3 .int u0)]) (Ag [(oi 0 1,oi 8 3),(oi 1 1,oi 9000 5)]) ?_;rintro n_ ⟨ub,u0⟩ c_ h hn6;refine Ae<|Ab (kQ h (fun _ h=>skW<|Ab<|Ad<|Ab<|Aa 6 (riH sI h fun x12 _ h=>rsT 2<|rnW<|Aa 13<|rsT 3 ?_)) fun _ h=>lxT (have h:=jO h hn6;jE []));have ⟨y13,h13,h⟩:=Ah h;refine R3 (oI 304 9 y13.length) [nI 304 9 y13] [tI x12,.ref [ai bC,ai bD,tS dB],.ref [ai bE,ai bF,tS dC]] _ (caps:=[.ref [ai bC,ai bD,tS dB],.ref [ai bE,ai bF,tS dC]]) (args0:=[tI x12,.ref [ai bC,ai bD,tS dB],.ref [ai bE,ai bF,tS dC]]) trivial kr (Aa3 h13) kr<|Hd (oS 20 10 1) (oi 20 10) (.vec 81 1 1<|[oI 304 9 y13.length]) trivial (Co kr) ?_;have ⟨g14,h⟩:=Aj h;refine rs2 (oS 0 11<|u0.length+1) (oi 0 1) (oi 0 11) (.vec 81 1 (u0.length+1)<|hdL (oi 1 1) .int u0++[oI 304 9 y13.length]) (Iz (u:=.int) (t':=sI) (t2:=sI) (o:=oi 0 1) (q:=oi 20 10) (e2:=81) (p:=oi 1 1) (xss:=u0) (cs:=[oI 304 9 y13.length]) (len:=u0.length) kr kr rfl kr kr rfl g14)<|rsT 1<|Ao<|bn_<|tn_ ⟨_,Ew (e1:=81) (e:=3) (u:=.int) (n:=u0.length+1) (len:=y13.length) (row:=y13) (ys:=y13) (xss:=u0) 9000 (oi 0 11) (oi 1 1) (oi 304 9) kr kr rfl kr kr (Oh rfl) (Ow rfl) kr kr kr,Aa 16 (raH h fun h=>rsT 1<|Ao<|tn_ ?_)⟩;cases h;exact jLw hn6<|(wL 5 (fS:u0.length+1=(u0++[y13]).length)).trans<|Ag [(oi 0 1,oi 0 11),(oi 1 1,oi 9000 13)]
def O1(a0:List Int)(u3 u4:Int)(u5:LL)(u0 u1:Int)(u2:LL):Option (List Int):=
 (Eh u3).bind fun y3=>
(Bs u0 u1 u2 a0).bind fun y4=>
(Eh u4).bind fun y5=>
(Bq u0 u1 u2 a0).bind fun y6=>
(Dn ([y3,a0.take y4,y5,a0.drop y6.1])).bind fun y7=>
some y7
theorem Aax(h:O1 aA bA bB dA bC bD dB=some aB):cK 139 [tI aA,.ref [ai bA,ai bB,tS dA],.ref [ai bC,ai bD,tS dB]] (Cj aB):=by
 refine cO Tryz.func139<|Ae<|Ab<|Al 17<|dz0 (.ref [ai bA,ai bB,tS dA])<|dz0 (ai bA) (dcH h Gh fun y3 h=>dz0 (.agg [ai bC,ai bD,tS dB])<|dz0 (tI aA) ?_);have ⟨y4,h4,h⟩:=Ah h;refine M7 (tI<|aA.take y4) [] [.agg [ai bC,ai bD,tS dB],tI aA] _ (caps:=[]) (args0:=[.agg [ai bC,ai bD,tS dB],tI aA]) trivial kr (Fb h4) kr (hr:=Hm h4)<|dz0 (.ref [ai bB,tS dA])<|dz0 (ai bB) (dcH h Gh fun y5 h=>dz0 (.agg [ai bC,ai bD,tS dB])<|dz0 (tI aA) ?_);have ⟨y6,h6,h⟩:=Ah h;exact M7 (tI<|aA.drop y6.1) [] [.agg [ai bC,ai bD,tS dB],tI aA] _ (caps:=[]) (args0:=[.agg [ai bC,ai bD,tS dB],tI aA]) trivial kr (Ev h6) kr (hr:=Gw h6)<|dsU (tS<|[y3,aA.take y4,y5,aA.drop y6.1]) [(oi 112 4,none),(oi 208 10,none)] (Ae0 (t:=.int) (yss:=[y3,aA.take y4,y5,aA.drop y6.1]) (El (t:=.int) (c:=oI 112 4 y3.length) (ys:=y3) kr (Ij (e:=3) kr rfl)<|El (t:=.int) (c:=tI<|aA.take y4) (ys:=aA.take y4) kr K3<|El (t:=.int) (c:=oI 208 10 y5.length) (ys:=y5) kr (Ij (e:=3) kr rfl)<|El (t:=.int) (c:=tI<|aA.drop y6.1) (ys:=aA.drop y6.1) kr K3 Sx) kr) (dcH h Jl fun y7 h=>dz0 (oI 288 15 y7.length)<|Cb (As kr)<|tn_<|wr_<|Ac<|jR h [oI 288 15 y7.length]<|H6 rfl (Ec kr rfl) H0)
def Ch(u2:LL)(u3 u4:Int)(u5:LL)(u6 u7:Int)(u8:LL)(u0:Nat)(u1:LL):Option (Ctl (Nat×LL) (LL)):=
 cond (decide ((u0:Int)<(u2.length:Int)))
 ((u2[u0]?).bind fun x11=>
 (O1 x11 u3 u4 u5 u6 u7 u8).bind fun y12=>
 og (u1.length+1<=1073741824/\(u1.length+1)*24<=140737488355328)<|
 og (u0+1<4611686018427387904)<|
 some (.next (u0+1,u1++[y12])))
 (some (.out u1))
def B5(u8 u9:Int)(u0:LL)(u1 u2:Int)(u3:LL)(u4 u5:Int)(u6:LL):Option LL:=
 (Aq (fun s_:Nat×LL=>Ch u0 u1 u2 u3 u4 u5 u6 s_.1 s_.2) 4611686018427387904 (0,([]:LL))).bind fun u7=>
some u7
theorem I7(h:B5 bA bB dA bC bD dB bE bF dC=some dD):cK 129 [.agg [ai bA,ai bB,tS dA],.fn 139 [.ref [ai bC,ai bD,tS dB],.ref [ai bE,ai bF,tS dC]]] (U2 dD):=by
 refine cZ Tryz.func129 fun zn_ nz_ hz_=>Ae<|Ab<|Aa 5<|Hd (oS 8 3 0) (oi 8 3) (.vec 81 1 0 []) trivial (Co kr)<|rsT 1<|Ao<|tn_ ⟨_,Dv (e1:=81) (n:=0) 9000 (oi 8 3) 3 .int kr kr rfl kr kr,sqF h (fun u7=>sT [(5,oS 0 1 u7.length)] [(oi 0 1,.mat 81 (oi 1 1) .int u7),(oi 1 1,.pool 3 .int u7)]) ?_ fun u7 h=>Ae<|Ac<|jZ h [(false,[oS 0 1 u7.length])]<|Lu (B0<|.mat (p:=oi 1 1) (e1:=81) (e:=3) kr (Ey kr) rfl) Cs⟩
 intro _ h;refine Ae<|Ad<|lpF h (fun (ub,u0)=>sT [(1,.fn 139 [.ref [ai bC,ai bD,tS dB],.ref [ai bE,ai bF,tS dC]]),(5,oS 0 1 u0.length),(10,tS dA),(11,an dA.length),(12,an ub)] [(oi 0 1,.mat 81 (oi 1 1) .int u0),(oi 1 1,.pool 3 .int u0)]) (Ag [(oi 0 1,oi 8 3),(oi 1 1,oi 9000 5)]) ?_;rintro n_ ⟨ub,u0⟩ c_ h hn5;refine Ae<|Ab (kQ h (fun _ h=>skW<|Ab<|Ad<|Ab<|Aa 6 (riH sI h fun x11 _ h=>rsT 2<|rnW<|Aa 13<|rsT 3 ?_)) fun _ h=>lxT (have h:=jO h hn5;jE []));have ⟨y12,h12,h⟩:=Ah h;refine R3 (oI 304 9 y12.length) [nI 304 9 y12] [tI x11,.ref [ai bC,ai bD,tS dB],.ref [ai bE,ai bF,tS dC]] _ (caps:=[.ref [ai bC,ai bD,tS dB],.ref [ai bE,ai bF,tS dC]]) (args0:=[tI x11,.ref [ai bC,ai bD,tS dB],.ref [ai bE,ai bF,tS dC]]) trivial kr (Hi<|Aax h12) kr<|Hd (oS 20 10 1) (oi 20 10) (.vec 81 1 1<|[oI 304 9 y12.length]) trivial (Co kr) ?_;have ⟨g13,h⟩:=Aj h;refine rs2 (oS 0 11<|u0.length+1) (oi 0 1) (oi 0 11) (.vec 81 1 (u0.length+1)<|hdL (oi 1 1) .int u0++[oI 304 9 y12.length]) (Iz (u:=.int) (t':=sI) (t2:=sI) (o:=oi 0 1) (q:=oi 20 10) (e2:=81) (p:=oi 1 1) (xss:=u0) (cs:=[oI 304 9 y12.length]) (len:=u0.length) kr kr rfl kr kr rfl g13)<|rsT 1<|Ao<|bn_<|tn_ ⟨_,Ew (e1:=81) (e:=3) (u:=.int) (n:=u0.length+1) (len:=y12.length) (row:=y12) (ys:=y12) (xss:=u0) 9000 (oi 0 11) (oi 1 1) (oi 304 9) kr kr rfl kr kr (Oh rfl) (Ow rfl) kr kr kr,Aa 16 (raH h fun h=>rsT 1<|Ao<|tn_ ?_)⟩;cases h;exact jLw hn5<|(wL 5 (fS:u0.length+1=(u0++[y12]).length)).trans<|Ag [(oi 0 1,oi 0 11),(oi 1 1,oi 9000 13)]
def H8(a0 u0 u1:Int)(u4:LL)(u2 u3:Int)(u5:LL):Option (Int×Int×LL):=
 (B6 u0 u1 u4 u0 u1 u4 u2 u3 u5).bind fun y3=>
(B5 u2 u3 u5 u0 u1 u4 u2 u3 u5).bind fun y5=>
og (y3.length+y5.length<=1073741824/\(y3.length+y5.length)*24<=140737488355328)<|
(Ca a0 (wI (u0+u2)) (wI (u1+u3)) (y3++y5)).bind fun y8=>
some (y8.1,y8.2.1,y8.2.2)
theorem Uc(h:H8 bA bB bC dA bD bE dB=some qA):cK 91 [ai bA,.agg [ai bB,ai bC,tS dA],.agg [ai bD,ai bE,tS dB]] (C0 qA):=by
 refine cZ Tryz.func91 fun zn_ nz_ hz_=>Ae<|Ab<|Aa 8<|rsT 2 (rcM h [] [.agg [ai bB,ai bC,tS dA],.fn 138 [.box (oi 4 1) 0,.box (oi 5 2) 0]] (fun h=>U6<|I6 h) trivial (.cons (.ren kr)<|.cons (.gnd kr<|Asg<|Au (Afr (ty:=30) (cs:=[ai bB,ai bC,tS dA]) (es:=[ai bB,ai bC,tS dA]) ((K6 kr kr kr).trans kr) kr<|Au kr<|Au kr<|Au kr Dm)<|Au (Afr (ty:=30) (cs:=[ai bD,ai bE,tS dB]) (es:=[ai bD,ai bE,tS dB]) ((K6 kr kr kr).trans kr) kr<|Au kr<|Au kr<|Au kr Dm) Dm) .nil) (Bb kr kr trivial) fun y3 h=>rsT 1<|rnW<|Ab<|Aa 14<|rsT 3 (rcH h (fun h=>F1 hz_<|I7 h) fun y5 h=>?_))
 have ⟨g6,h⟩:=Aj h;exact rs2 (oS 160 12<|y3.length+y5.length) (oi 160 6) (oi 160 12) (.vec 81 1 (y3.length+y5.length)<|hdL (oi 161 6) .int y3++tvC (some nz_) sI y5) (Av9 (o:=oi 160 6) (p:=oi 161 6) (e1:=81) (u:=.int) (t':=sI) (len:=y3.length) (N:=y3.length) (m:=some nz_) (xss:=y3) (ys:=y5) kr kr rfl rfl (Az9 kr) g6)<|rsT 1<|rnW<|Ab<|Aa 28<|rsT 12 (rcG h [ai bA,ai<|wI<|bB+bD,ai<|wI<|bC+bE,oS 160 12 (y3.length+y5.length)] (fun h=>F1 hz_<|Fl h) (Au kr<|Au kr<|Au kr<|Au (Azm (p:=oi 161 6) (e1:=81) (e:=3) (u:=.int) (m:=some nz_) (xss:=y3) (ys:=y5) (N:=y3.length+y5.length) kr (Ey kr) rfl rfl) Dm) fun y8 h=>rsB 1<|rnW<|Ac<|jZ h [(true,[ai y8.1,ai y8.2.1,.ftr nz_ sI y8.2.2])]<|Ek (Aw Cd<|Aw Cd<|Aw (B0 .ftr) Ei) Cs)
def Bx(u2:LL)(u3 u4:Int)(u5:LL)(u0:Nat)(u1:LL):Option (Ctl (Nat×LL) (LL)):=
 cond (decide ((u0:Int)<(u2.length:Int)))
 ((u2[u0]?).bind fun x12=>
 (Bq u3 u4 u5 x12).bind fun y13=>
 og (u1.length+1<=1073741824/\(u1.length+1)*24<=140737488355328)<|
 og (u0+1<4611686018427387904)<|
 some (.next (u0+1,u1++[x12.drop y13.1])))
 (some (.out u1))
def Bj(u5 u6:Int)(u0:LL)(u1 u2:Int)(u3:LL):Option LL:=
 (Aq (fun s_:Nat×LL=>Bx u0 u1 u2 u3 s_.1 s_.2) 4611686018427387904 (0,([]:ZA))).bind fun u4=>
some u4
theorem C8(h:Bj bA bB dA bC bD dB=some dC):Ze Tryz.prog Tab 129 [.agg [ai bA,ai bB,tS dA],.fn 1000130 [.agg [ai bC,ai bD,tS dB]]] (oS 0 1 dC.length) [(oi 0 1,.tv 81 none sI dC)]:=by
 refine Alw kr Tryz.func129 (Ck kr) (fun nz_=>[.agg [ai bA,ai bB,.ftr nz_ sI dA],.fn 1000130 [.agg [ai bC,ai bD,.ftr nz_ sI dB]]]) (n:=24) kr (fun _=>by simp) (tl:=fun nz_=>[(0,.agg [ai bA,ai bB,.ftr nz_ sI dA]),(1,.fn 1000130 [.agg [ai bC,ai bD,.ftr nz_ sI dB]])]) (fun _=>rfl) (fun _=>⟨_,_,rfl,⟨_,rfl,⟨_,_,rfl,rfl,⟨_,_,rfl,rfl,⟨_,_,rfl,rfl,rfl⟩⟩⟩⟩,⟨_,_,rfl,⟨_,rfl,⟨_,_,rfl,⟨_,rfl,⟨_,_,rfl,rfl,⟨_,_,rfl,rfl,⟨_,_,rfl,rfl,rfl⟩⟩⟩⟩,rfl⟩⟩,rfl⟩⟩) (fun _=>by kernel_rfl) (fun _ _=>rfl) fun nz_=>Ae<|Ab<|Aa 5<|Hd (oS 8 3 0) (oi 8 3) (.vec 81 1 0<|tvC (some nz_) sI ([]:ZA)) trivial (Co kr)<|rsT 1<|Ao<|tn_ ⟨_,Bv (N:=0) (oi 8 3) 81 (some nz_) sI ([]:ZA) kr rfl,sqF h (fun u5=>sT [(5,oS 0 1 u5.length)] [(oi 0 1,.tv 81 (some nz_) sI u5)]) ?_ fun u5 h=>Ae<|Ac (by obtain rfl:=osj h;exact E4 [oS 0 1 u5.length]<|Ag (tl:=[(4,oS 0 1 u5.length)]) (g:=2) [])⟩
 intro _ h;refine Ae<|Ad<|lpF h (fun (u8,u0)=>sT [(1,.fn 1000130 [.agg [ai bC,ai bD,.ftr nz_ sI dB]]),(5,oS 0 1 u0.length),(10,.ftr nz_ sI dA),(11,an dA.length),(12,an u8)] [(oi 0 1,.tv 81 (some nz_) sI u0)]) (Ag [(oi 0 1,oi 8 3)]) ?_;rintro n_ ⟨u8,u0⟩ c_ h hn6;refine Ae<|Ab (kQ h (fun _ h=>skW<|Ab<|Ad<|Ab<|Aa 6 (riH sI h fun x12 _ h=>rsT 2<|rnW<|Aa 13<|rsT 3 ?_)) fun _ h=>lxT (have h:=jO h hn6;jE []));have ⟨y13,h13,h⟩:=Ah h;refine R3 (.ftr nz_ .int<|x12.drop y13.1) [] [.agg [ai bC,ai bD,.ftr nz_ sI dB],.ftr nz_ .int x12] _ (caps:=[.agg [ai bC,ai bD,.ftr nz_ sI dB]]) (args0:=[.agg [ai bC,ai bD,tS dB],tI x12]) trivial kr (Ev h13) kr (hr:=Ri h13) (m:=1000000)<|Hd (oS 20 10 1) (oi 20 10) (.vec 81 1 1<|tvC (some nz_) sI<|[x12.drop y13.1]) trivial (Co kr) ?_;have ⟨g14,h⟩:=Aj h;refine rs2 (oS 0 11<|u0.length+1) (oi 0 1) (oi 0 11) (.vec 81 1 (u0.length+1)<|tvC (some nz_) sI<|u0++[x12.drop y13.1]) (Mw (t':=sI) (t:=sI) (t2:=sI) (e2:=81) (q:=oi 20 10) (m:=some nz_) (z:=x12.drop y13.1) (o:=oi 0 1) (xs:=u0) (len:=u0.length) kr kr rfl kr kr g14) (rsT 1<|Ao<|bn_<|tn_ ⟨_,Bv (N:=u0.length+1) (oi 0 11) 81 (some nz_) sI (u0++[x12.drop y13.1]) kr fS,Aa 15 (raH h fun h=>rsT 1<|Ao<|tn_ ?_)⟩);cases h;exact jLw hn6<|(wL 5 (fS:u0.length+1=(u0++[x12.drop y13.1]).length)).trans<|Ag [(oi 0 1,oi 0 11)]
def B3(u2:LL)(u3 u4:Int)(u5:LL)(u0:Nat)(u1:LL):Option (Ctl (Nat×LL) (LL)):=
 cond (decide ((u0:Int)<(u2.length:Int)))
 ((u2[u0]?).bind fun x12=>
 (Bs u3 u4 u5 x12).bind fun y13=>
 og (u1.length+1<=1073741824/\(u1.length+1)*24<=140737488355328)<|
 og (u0+1<4611686018427387904)<|
 some (.next (u0+1,u1++[x12.take y13])))
 (some (.out u1))
def Bk(u5 u6:Int)(u0:LL)(u1 u2:Int)(u3:LL):Option LL:=
 (Aq (fun s_:Nat×LL=>B3 u0 u1 u2 u3 s_.1 s_.2) 4611686018427387904 (0,([]:ZA))).bind fun u4=>
some u4
theorem Dd(h:Bk bA bB dA bC bD dB=some dC):Ze Tryz.prog Tab 129 [.agg [ai bA,ai bB,tS dA],.fn 1000131 [.agg [ai bC,ai bD,tS dB]]] (oS 0 1 dC.length) [(oi 0 1,.tv 81 none sI dC)]:=by
 refine Alw kr Tryz.func129 (Ck kr) (fun nz_=>[.agg [ai bA,ai bB,.ftr nz_ sI dA],.fn 1000131 [.agg [ai bC,ai bD,.ftr nz_ sI dB]]]) (n:=24) kr (fun _=>by simp) (tl:=fun nz_=>[(0,.agg [ai bA,ai bB,.ftr nz_ sI dA]),(1,.fn 1000131 [.agg [ai bC,ai bD,.ftr nz_ sI dB]])]) (fun _=>rfl) (fun _=>⟨_,_,rfl,⟨_,rfl,⟨_,_,rfl,rfl,⟨_,_,rfl,rfl,⟨_,_,rfl,rfl,rfl⟩⟩⟩⟩,⟨_,_,rfl,⟨_,rfl,⟨_,_,rfl,⟨_,rfl,⟨_,_,rfl,rfl,⟨_,_,rfl,rfl,⟨_,_,rfl,rfl,rfl⟩⟩⟩⟩,rfl⟩⟩,rfl⟩⟩) (fun _=>by kernel_rfl) (fun _ _=>rfl) fun nz_=>Ae<|Ab<|Aa 5<|Hd (oS 8 3 0) (oi 8 3) (.vec 81 1 0<|tvC (some nz_) sI ([]:ZA)) trivial (Co kr)<|rsT 1<|Ao<|tn_ ⟨_,Bv (N:=0) (oi 8 3) 81 (some nz_) sI ([]:ZA) kr rfl,sqF h (fun u5=>sT [(5,oS 0 1 u5.length)] [(oi 0 1,.tv 81 (some nz_) sI u5)]) ?_ fun u5 h=>Ae<|Ac (by obtain rfl:=osj h;exact E4 [oS 0 1 u5.length]<|Ag (tl:=[(4,oS 0 1 u5.length)]) (g:=2) [])⟩
 intro _ h;refine Ae<|Ad<|lpF h (fun (u8,u0)=>sT [(1,.fn 1000131 [.agg [ai bC,ai bD,.ftr nz_ sI dB]]),(5,oS 0 1 u0.length),(10,.ftr nz_ sI dA),(11,an dA.length),(12,an u8)] [(oi 0 1,.tv 81 (some nz_) sI u0)]) (Ag [(oi 0 1,oi 8 3)]) ?_;rintro n_ ⟨u8,u0⟩ c_ h hn6;refine Ae<|Ab (kQ h (fun _ h=>skW<|Ab<|Ad<|Ab<|Aa 6 (riH sI h fun x12 _ h=>rsT 2<|rnW<|Aa 13<|rsT 3 ?_)) fun _ h=>lxT (have h:=jO h hn6;jE []));have ⟨y13,h13,h⟩:=Ah h;refine R3 (.ftr nz_ .int<|x12.take y13) [] [.agg [ai bC,ai bD,.ftr nz_ sI dB],.ftr nz_ .int x12] _ (caps:=[.agg [ai bC,ai bD,.ftr nz_ sI dB]]) (args0:=[.agg [ai bC,ai bD,tS dB],tI x12]) trivial kr (Fb h13) kr (hr:=Sn h13) (m:=1000000)<|Hd (oS 20 10 1) (oi 20 10) (.vec 81 1 1<|tvC (some nz_) sI<|[x12.take y13]) trivial (Co kr) ?_;have ⟨g14,h⟩:=Aj h;refine rs2 (oS 0 11<|u0.length+1) (oi 0 1) (oi 0 11) (.vec 81 1 (u0.length+1)<|tvC (some nz_) sI<|u0++[x12.take y13]) (Mw (t':=sI) (t:=sI) (t2:=sI) (e2:=81) (q:=oi 20 10) (m:=some nz_) (z:=x12.take y13) (o:=oi 0 1) (xs:=u0) (len:=u0.length) kr kr rfl kr kr g14) (rsT 1<|Ao<|bn_<|tn_ ⟨_,Bv (N:=u0.length+1) (oi 0 11) 81 (some nz_) sI (u0++[x12.take y13]) kr fS,Aa 15 (raH h fun h=>rsT 1<|Ao<|tn_ ?_)⟩);cases h;exact jLw hn6<|(wL 5 (fS:u0.length+1=(u0++[x12.take y13]).length)).trans<|Ag [(oi 0 1,oi 0 11)]
def Lm(y6:LL)(a0:Int)(u0:Nat)(u1:LL):Option (Ctl (Nat×LL) (LL)):=
 cond (decide ((u0:Int)<(y6.length:Int)))
 ((y6[u0]?).bind fun x13=>
 (Eh (x13.length:Int)).bind fun y15=>
 (Cy a0 y15 (-1) x13).bind fun y17=>
 og (y17.length=y15.length)<|
 og (u1.length+([y17]).length<=1073741824/\(u1.length+([y17]).length)*24<=140737488355328)<|
 og (u0+1<4611686018427387904)<|
 some (.next (u0+1,u1++([y17]))))
 (some (.out u1))
def Ls(y27 y22:LL)(a0 u2:Int)(y23:LL)(u3:Int)(u0:Nat)(u1:LL):Option (Ctl (Nat×LL) (LL)):=
 cond (decide ((u0:Int)<(y27.length:Int)))
 ((y27[u0]?).bind fun x34=>
 og ((0:Int)<=0/\0<=(y22.length:Int)/\(y22.length:Int)<=(x34.length:Int))<|
 (Jh a0 (x34.take y22.length) y22 u2).bind fun y37=>
 og ((0:Int)<=(y22.length:Int)/\(y22.length:Int)<=(x34.length:Int)/\(x34.length:Int)<=(x34.length:Int))<|
 (Jh a0 (x34.drop y22.length) y23 u3).bind fun y40=>
 (Dn ([y37,y40])).bind fun y41=>
 og (u1.length+1<=1073741824/\(u1.length+1)*24<=140737488355328)<|
 og (u0+1<4611686018427387904)<|
 some (.next (u0+1,u1++[y41])))
 (some (.out u1))
def F4(a0 u0 u2:Int)(u3:LL)(u4 u1:Int)(u5:LL):Option (Int×Int×LL):=
 (Bj u0 u2 u3 u0 u2 u3).bind fun y3=>
((Bk u4 u1 u5 u4 u1 u5).bind fun y6=>
 Aq (fun s_:Nat×LL=>Lm y6 a0 s_.1 s_.2) 4611686018427387904 (0,y3)).bind fun u6=>
(Bk u0 u2 u3 u0 u2 u3).bind fun y22=>
(Bj u4 u1 u5 u4 u1 u5).bind fun y23=>
((Kx a0 u6 u2).bind fun y27=>
 Aq (fun s_:Nat×LL=>Ls y27 y22 a0 u0 y23 u1 s_.1 s_.2) 4611686018427387904 (0,([]:LL))).bind fun u7=>
(Ca a0 u0 u1 u7).bind fun y45=>
some (y45.1,y45.2.1,y45.2.2)
theorem R8(h:F4 bA bB bC dA bD bE dB=some qA):cK 90 [ai bA,.agg [ai bB,ai bC,tS dA],.agg [ai bD,ai bE,tS dB]] (C0 qA):=by
 refine cZ Tryz.func90 fun zn_ nz_ hz_=>Ae<|Ab<|Aa 9<|rsT 3 ?_
 have ⟨y3,h3,h⟩:=Ah h;refine Avp (oS 336 7 y3.length) [(oi 336 7,some<|.tv 81 none sI y3)] (caps:=[]) trivial (Aiz<|C8 h3) kr<|rsT 1<|rnW<|sqF h (fun ua=>sT [(0,ai bA),(4,.box (oi 0 1) 0),(5,.box (oi 1 1) 0),(6,.box (oi 2 1) 0),(7,oS 3 1 ua.length)] [(oi 0 1,.cells 30 [ai bB,ai bC,tS dA]),(oi 1 1,.cells 30 [ai bD,ai bE,tS dB]),(oi 2 1,.cells 30 [ai 0,ai 0,.nils]),(oi 3 1,.tv 81 none sI ua)]) ?_ ?_
 ·intro _ h;refine Ab<|Aa 15<|rsT 3 ?_;have ⟨y6,h6,h⟩:=Ah h;refine Avp (oS 400 12 y6.length) [(oi 400 12,some<|.tv 81 none sI y6)] (caps:=[]) trivial (Aiz<|Dd h6) kr<|rsT 2<|rnW<|Ad<|lpF h (fun (ub,u1)=>sT [(0,ai bA),(4,.box (oi 0 1) 0),(5,.box (oi 1 1) 0),(6,.box (oi 2 1) 0),(7,oS 3 1 u1.length),(25,oS 4 1 y6.length),(26,an y6.length),(27,an ub)] [(oi 0 1,.cells 30 [ai bB,ai bC,tS dA]),(oi 1 1,.cells 30 [ai bD,ai bE,tS dB]),(oi 2 1,.cells 30 [ai 0,ai 0,.nils]),(oi 3 1,.tv 81 none sI u1),(oi 4 1,.tv 81 none sI y6)]) (Ag [(oi 0 1,oi 4 1),(oi 1 1,oi 5 2),(oi 2 1,oi 6 3),(oi 3 1,oi 336 7),(oi 4 1,oi 400 12)]) ?_;rintro n_ ⟨ub,u1⟩ c_ h hn7
  (try dsimp only at h);refine Ae<|Ab (kQ h (fun q10 h=>?_) fun q10 h=>?_)
  ·have q10_:=of_decide_eq_true q10;refine skW<|Ab<|Ad<|Ab<|Aa 6 ?_;have ⟨x13,e13,h⟩:=Ah h;refine zO (oi 4 1) sI y6.length (Ai e13)<|rsl (tI x13) (Om (o:=oi 4 1) (k:=0) (e1:=81) (N:=List.length y6) (t:=sI) (m:=none) (xs:=y6) (z:=x13) kr kr e13 kr)<|rsT 1<|rnW<|Ab<|Aa 10<|rsT 2 (rcH h (fun h=>Hi<|Gh h) fun y15 h=>rsT 1<|rnW<|Ab<|Aa 14<|rsT 3 (rcM h [(oi 0 0,oi 528 8)] [ai bA,oI 528 8 y15.length,ai<|-1,tI x13] (fun h=>U6<|Na h rfl) ⟨kr,trivial⟩ (aR kr) (Bb kr kr ⟨Cw kr,trivial⟩) fun y17 h=>Ao<|tn_ ?_));have ⟨g18,h⟩:=Aj h;refine ⟨_,Ana (e:=3) (t:=.int) (xs:=y17) 10 (oi 528 8) kr kr g18.symm,Aa 19<|rsT 2<|rsU (tS<|[y17]) [] (Ae0 (t:=.int) (yss:=[y17]) (El (t:=.int) (c:=tI y17) (ys:=y17) kr K3 Sx) kr) ?_⟩;have ⟨g19,h⟩:=Aj h;refine rs2 (oS 3 17<|u1.length+([y17]).length) (oi 3 1) (oi 3 17) (.vec 81 1 (u1.length+([y17]).length)<|tvC none sI<|u1++([y17])) (Aos (o:=oi 3 1) (t:=sI) (t':=sI) (len:=u1.length) (N:=u1.length) (m:=none) (xs:=u1) (ys:=[y17]) kr kr rfl rfl (Ap4 kr) g19) (rsT 1<|Ao<|bn_<|tn_ ⟨_,Bv (N:=u1.length+([y17]).length) (oi 3 17) 81 none sI (u1++([y17])) kr fS,Aa 21 ?_⟩);have ⟨g20,h⟩:=Aj h;refine zA g20<|rsT 1<|Ao<|tn_ ?_;cases h;exact jLw hn7<|(wL 7 (fS:u1.length+([y17]).length=(u1++([y17])).length)).trans<|Ag [(oi 3 1,oi 3 17)]
  have q10_:=of_decide_eq_false q10;refine lxT ?_;have h:=jO h hn7
  (try dsimp only at h);exact jE []
 intro ua h
 (try dsimp only at h);refine Ab<|Al 12<|dsT 3 ?_;have ⟨y22,h22,h⟩:=Ah h;refine Aut (oS 736 5 y22.length) [(oi 736 5,some<|.tv 81 none sI y22)] (caps:=[]) trivial (Aiz<|Dd h22) kr<|dzl (.agg [ai bD,ai bE,tS dB])<|dzl (.agg [ai bD,ai bE,tS dB])<|dz0 (.fn 1000130 [.agg [ai bD,ai bE,tS dB]]) ?_;have ⟨y23,h23,h⟩:=Ah h;refine Aut (oS 800 9 y23.length) [(oi 800 9,some<|.tv 81 none sI y23)] (caps:=[]) trivial (Aiz<|C8 h23) kr<|dz0 (oS 736 5 y22.length)<|dz0 (oS 800 9 y23.length)<|Cb ⟨Amv kr,⟨Amv kr,trivial⟩⟩<|tn_<|wr_<|Ab<|Aa 14<|Hd (oS 51 12 0) (oi 51 12) (.vec 81 1 0 []) trivial (Co kr)<|rsT 1<|Ao<|tn_ ⟨_,Dv (e1:=81) (n:=0) 9000 (oi 51 12) 3 .int kr kr rfl kr kr,sqF h (fun u9=>sT [(0,ai bA),(4,.box (oi 0 1) 0),(5,.box (oi 1 1) 0),(6,.box (oi 2 1) 0),(13,oS 3 1 u9.length)] [(oi 0 1,.cells 30 [ai bB,ai bC,tS dA]),(oi 1 1,.cells 30 [ai bD,ai bE,tS dB]),(oi 2 1,.cells 30 [ai 0,ai 0,.nils]),(oi 3 1,.mat 81 (oi 4 1) .int u9),(oi 4 1,.pool 3 .int u9)]) ?_ ?_⟩
 ·intro _ h;refine Ab<|Aa 22<|rsT 4 (rcM h [] [ai bA,oS 3 1 ua.length,ai bC] (fun h=>U6<|Afb h) trivial (.cons (.ren kr)<|.cons (.gnd kr<|Alr (e:=81) (m:=none) (t:=sI) (xs:=ua) ((K6 kr kr kr).trans kr) rfl)<|.cons (.ren kr) .nil) (Bb kr kr trivial) fun y27 h=>rsT 2<|rnW<|Ad<|lpF h (fun (u4,u2)=>sT [(0,ai bA),(4,.box (oi 0 1) 0),(5,.box (oi 1 1) 0),(6,.box (oi 2 1) 0),(11,oS 3 1 y22.length),(12,oS 4 1 y23.length),(13,oS 5 1 u2.length),(56,oS 7 1 y27.length),(57,an y27.length),(58,an u4)] [(oi 0 1,.cells 30 [ai bB,ai bC,tS dA]),(oi 1 1,.cells 30 [ai bD,ai bE,tS dB]),(oi 2 1,.cells 30 [ai 0,ai 0,.nils]),(oi 3 1,.tv 81 none sI y22),(oi 4 1,.tv 81 none sI y23),(oi 5 1,.mat 81 (oi 6 1) .int u2),(oi 6 1,.pool 3 .int u2),(oi 7 1,.mat 81 (oi 8 1) .int y27),(oi 8 1,.pool 3 .int y27)]) (Ag [(oi 3 1,oi 736 5),(oi 4 1,oi 800 9),(oi 5 1,oi 51 12),(oi 6 1,oi 9000 14),(oi 7 1,oi 896 19),(oi 8 1,oi 897 19)]) ?_);rintro n_ ⟨u4,u2⟩ c_ h hn28
  (try dsimp only at h);refine Ae<|Ab (kQ h (fun q31 h=>?_) fun q31 h=>?_)
  ·have q31_:=of_decide_eq_true q31;refine skW<|Ab<|Ad<|Ab<|Aa 6 ?_;have ⟨x34,e34,h⟩:=Ah h;refine zO (oi 7 1) sI y27.length (Ai e34)<|rsl (.own (kid (oi 8 1) u4) .int 0 x34.length) (Ff (o:=oi 7 1) (p:=oi 8 1) (e1:=81) (u:=.int) (xss:=y27) (row:=x34) (j:=u4) kr kr e34)<|rsT 1<|rnW<|Ab<|Al 16<|dsT 4 ?_;have ⟨g36,h⟩:=Aj h;have ⟨y37,h37,h⟩:=Ah h;refine ds0 (.own (kid (oi 8 1) u4) .int 0 y22.length) (E2 (t:=.int) (i:=kid (oi 8 1) u4) (off:=0) (len:=x34.length) (l:=0) (h:=(y22.length:Int)) kr kr kr rfl g36 rfl oM)<|dz0 (oS 3 1 y22.length)<|dz0 (.box (oi 0 1) 0)<|dzl (ai bB)<|M7 (oI 1120 14 y37.length) [nI 1120 14 y37] [ai bA,.own (kid (oi 8 1) u4) .int 0 y22.length,oS 3 1 y22.length,ai bB] _ (caps:=[]) (args0:=[ai bA,tI<|x34.take y22.length,tS y22,ai bB]) trivial (Au kr<|Au (Aic (e:=3) (u:=.int) (xs:=x34) ((K9<|Rr (t:=.int) (off:=0) (len:=y22.length) 1 rfl kr).trans<|Bp kr e34) oM)<|Au (Alr (e:=81) (m:=none) (t:=sI) (xs:=y22) ((K9<|Rr (t:=sI) (off:=0) (len:=y22.length) 2 rfl kr).trans kr) rfl)<|Au kr Dm) (Hi<|Tp h37) kr<|dz0 (oI 1120 14 y37.length)<|Cb (As kr)<|tn_<|wr_<|Ab<|Al 26<|dsT 4 ?_;have ⟨g39,h⟩:=Aj h;have ⟨y40,h40,h⟩:=Ah h;refine ds0 (.own (kid (oi 8 1) u4) .int y22.length<|x34.length - y22.length) (E2 (t:=.int) (i:=kid (oi 8 1) u4) (off:=0) (len:=x34.length) (l:=(y22.length:Int)) (h:=(x34.length:Int)) kr kr kr rfl g39 (fE _) oM) (dz0 (oS 4 1 y23.length)<|dz0 (.box (oi 1 1) 1)<|dzl (ai bE)<|M7 (oI 1264 24 y40.length) [nI 1264 24 y40] [ai bA,.own (kid (oi 8 1) u4) .int y22.length<|x34.length - y22.length,oS 4 1 y23.length,ai bE] _ (caps:=[]) (args0:=[ai bA,tI<|x34.drop y22.length,tS y23,ai bE]) trivial (Au kr<|Au (Avf (e:=3) (u:=.int) (xs:=x34) ((K9<|Rr (t:=.int) (off:=y22.length) (len:=x34.length - y22.length) 1 rfl kr).trans<|Bp kr e34) oM (by rw[take_of_length_le (by rw[length_drop];omega)]))<|Au (Alr (e:=81) (m:=none) (t:=sI) (xs:=y23) ((K9<|Rr (t:=sI) (off:=0) (len:=y23.length) 2 rfl kr).trans kr) rfl)<|Au kr Dm) (Hi<|Tp h40) kr<|dz0 (oI 1264 24 y40.length)<|Cb (As kr)<|tn_<|wr_<|Aa 34<|rsT 3<|rsU (tS<|[y37,y40]) [(oi 1120 14,none),(oi 1264 24,none)] (Ae0 (t:=.int) (yss:=[y37,y40]) (El (t:=.int) (c:=oI 1120 14 y37.length) (ys:=y37) kr (Ij (e:=3) kr rfl)<|El (t:=.int) (c:=oI 1264 24 y40.length) (ys:=y40) kr (Ij (e:=3) kr rfl) Sx) kr) (rcH h (fun h=>Hi<|Jl h) fun y41 h=>Hd (oS 85 31 1) (oi 85 31) (.vec 81 1 1<|[oI 1344 30 y41.length]) trivial (Co kr) ?_));have ⟨g42,h⟩:=Aj h;refine rs2 (oS 5 32<|u2.length+1) (oi 5 1) (oi 5 32) (.vec 81 1 (u2.length+1)<|hdL (oi 6 1) .int u2++[oI 1344 30 y41.length]) (Iz (u:=.int) (t':=sI) (t2:=sI) (o:=oi 5 1) (q:=oi 85 31) (e2:=81) (p:=oi 6 1) (xss:=u2) (cs:=[oI 1344 30 y41.length]) (len:=u2.length) kr kr rfl kr kr rfl g42)<|rsT 1<|Ao<|bn_<|tn_ ⟨_,Ew (e1:=81) (e:=3) (u:=.int) (n:=u2.length+1) (len:=y41.length) (row:=y41) (ys:=y41) (xss:=u2) 9000 (oi 5 32) (oi 6 1) (oi 1344 30) kr kr rfl kr kr (Oh rfl) (Ow rfl) kr kr kr,Aa 37 ?_⟩;have ⟨g43,h⟩:=Aj h;refine zA g43<|rsT 1<|Ao<|tn_ ?_;cases h;exact jLw hn28<|(wL 13 (fS:u2.length+1=(u2++[y41]).length)).trans<|Ag [(oi 5 1,oi 5 32),(oi 6 1,oi 9000 34)]
  have q31_:=of_decide_eq_false q31;refine lxT ?_;have h:=jO h hn28
  (try dsimp only at h);exact jE [(oi 3 1,oi 5 1),(oi 4 1,oi 6 1)]
 intro u9 h
 (try dsimp only at h);exact Ab<|Aa 10<|rsT 6 (rcG h [ai bA,ai bB,ai bE,oS 3 1 u9.length] (fun h=>F1 hz_<|Fl h) (Au kr<|Au kr<|Au kr<|Au (Tl (p:=oi 4 1) (e1:=81) (e:=3) (u:=.int) (xss:=u9) kr (Ey kr) rfl) Dm) fun y45 h=>rsB 1<|rnW<|Ac<|jZ h [(true,[ai y45.1,ai y45.2.1,.ftr nz_ sI y45.2.2])]<|Ek (Aw Cd<|Aw Cd<|Aw (B0 .ftr) Ei) Cs)
end
section
set_option maxRecDepth 4000
set_option maxHeartbeats 4800000
variable{bA bB bC:Int}{gA:ByteArray}{qA:Int×Int×LL}
def A6(a0 u0 u1:Int)(u2:ByteArray):Option (Int×Int×LL):=
 cond (u0==1)
 ((Ex u1).bind fun y6=>
 some (y6.1,y6.2.1,y6.2.2))
 (cond (u0==2)
  ((Ca a0 2 2 ([[1,0,0,1],[0,1,1,0]])).bind fun y10=>
  some (y10.1,y10.2.1,y10.2.2))
  (cond (decide (9<=u0))
   ((Mg u0).bind fun y14=>
   (D3 y14).bind fun y15=>
   (Mg u0).bind fun y17=>
   (Jk y17 u1).bind fun y18=>
   (Ca a0 y15.1 y15.2 y18).bind fun y19=>
   (O5 a0 y19.1 y19.2.1 y19.2.2).bind fun y20=>
   some (y20.1,y20.2.1,y20.2.2))
   ((D3 u0).bind fun y22=>
   (Jk u0 u1).bind fun y24=>
   (Ca a0 y22.1 y22.2 y24).bind fun y25=>
   some (y25.1,y25.2.1,y25.2.2))))
theorem Ot(h:A6 bA bB bC gA=some qA):cK 92 [ai bA,.agg [ai bB,ai bC,.str gA]] (C0 qA):=by
 exact cZ Tryz.func92 fun zn_ nz_ hz_=>Ae<|Ab<|Ad<|Ae (kQ h (fun _ h=>Ab<|Aa 11<|rsT 2 (rcH h (fun h=>F1 hz_<|Ra h) fun y6 h=>rsB 1<|rnW<|Ac<|br_<|tr_<|jZ h [(true,[ai y6.1,ai y6.2.1,.ftr nz_ sI y6.2.2])]<|Ek (Aw Cd<|Aw Cd<|Aw (B0 .ftr) Ei) Cs)) fun _ h=>Ae (kQ h (fun _ h=>Ab<|Aa 17<|rsB 3<|rsU (tS<|[[1,0,0,1],[0,1,1,0]]) [(oi 19 12,none),(oi 20 13,none)] (Ae0 (t:=.int) (yss:=[[1,0,0,1],[0,1,1,0]]) (El (t:=.int) (c:=oI 19 12 4) (ys:=[1,0,0,1]) kr (Ij (e:=3) kr rfl)<|El (t:=.int) (c:=oI 20 13 4) (ys:=[0,1,1,0]) kr (Ij (e:=3) kr rfl) Sx) kr) (rcH h (fun h=>F1 hz_<|Fl h) fun y10 h=>rsB 1<|rnW<|Ac<|br_<|tr_<|jZ h [(true,[ai y10.1,ai y10.2.1,.ftr nz_ sI y10.2.2])]<|Ek (Aw Cd<|Aw Cd<|Aw (B0 .ftr) Ei) Cs)) fun _ h=>Ae (kQ h (fun _ h=>Ab<|Aa 21<|rsT 2 (rcH h (fun h=>Hi<|P1 h) fun y14 h=>rcH h (fun h=>Hi<|Hu h) fun y15 h=>rsB 2<|rnW<|Ab<|Al 36<|dsT 8 (dcH h (fun h=>Hi<|P1 h) fun y17 h=>ds0 (.box (oi 3 1) 1) kr<|dsl (ai bC) kr (dcH h (fun h=>F1 hz_<|M5 h) fun y18 h=>dcH h (fun h=>F1 hz_<|Fl h) fun y19 h=>dcH h (fun h=>F1 hz_<|Zw h) fun y20 h=>J4 (oi 4 2) (oi 4 2) (.cells 30 [ai y20.1,ai y20.2.1,.ftr nz_ sI y20.2.2]) kr<|Cb (As kr)<|tn_<|wr_<|Ac<|br_<|tr_<|jZ h [(true,[ai y20.1,ai y20.2.1,.ftr nz_ sI y20.2.2])]<|Ek (Aw Cd<|Aw Cd<|Aw (B0 .ftr) Ei) Cs)))) fun _ h=>Ay<|bn_<|tn_<|wr_<|Ab<|Aa 20<|rsT 2 (rcH h (fun h=>Hi<|Hu h) fun y22 h=>rsB 2<|rnW<|Ab<|Al 32<|dsT 9 (dcH h (fun h=>F1 hz_<|M5 h) fun y24 h=>dcH h (fun h=>F1 hz_<|Fl h) fun y25 h=>J4 (oi 4 2) (oi 4 2) (.cells 30 [ai y25.1,ai y25.2.1,.ftr nz_ sI y25.2.2]) kr<|Cb (As kr)<|tn_<|wr_<|Ac<|jZ h [(true,[ai y25.1,ai y25.2.1,.ftr nz_ sI y25.2.2])]<|Ek (Aw Cd<|Aw Cd<|Aw (B0 .ftr) Ei) Cs)))))
end
section
set_option maxRecDepth 4000
set_option maxHeartbeats 4800000
variable{gA gB:ByteArray}{hA:List ZB}{bA bB:Int}{dA:LL}{cA:Bool}{pA:List (ByteArray×(List ZB)×Int×Int×LL)}{wA:ByteArray×(List ZB)×Int×Int×LL}{qA:Int×Int×LL}
def G8(u0:ByteArray)(u2:List ZB)(u3 u4:Int)(u5:LL)(u1:ByteArray):Option Bool:=
 some (u0.toList==u1.toList)
theorem Rs(h:G8 gA hA bA bB dA gB=some cA):cK 113 [.agg [.str gA,.tree Y8 hA,ai bA,ai bB,tS dA],.ref [.str gB]] (An cA):=by
 exact cO Tryz.func113<|Ae<|Ae<|Ac<|jS h
def Ba(a0:List (ByteArray×(List ZB)×Int×Int×LL))(u1:ByteArray)(u0:Nat):Option (Ctl Nat (Ctl Unit Int)):=
 cond (decide ((u0:Int)<(a0.length:Int)))
 ((a0[u0]?).bind fun x11=>
 (G8 x11.1 x11.2.1 x11.2.2.1 x11.2.2.2.1 x11.2.2.2.2 u1).bind fun y12=>
 cond y12
  (some (.out (.out (u0:Int))))
  (og (u0+1<4611686018427387904)<|
  some (.next (u0+1))))
 (some (.out (.next ())))
def Bf(a0:List (ByteArray×(List ZB)×Int×Int×LL))(u0:ByteArray):Option Int:=
 Dg (Aq (fun s_:Nat=>Ba a0 u0 s_) 4611686018427387904 0) fun _=>
some (-1)
theorem Cu(h:Bf pA gA=some bA):cK 112 [.tree Yg pA,.fn 113 [.ref [.str gA]]] (A8 bA):=by
 refine cO Tryz.func112<|Ae (sqC h (fun _=>sT [] []) ?_ fun _ h=>Ae<|Ac<|jS h);intro _ h hk2;refine Ae<|Ad<|lpF h (fun u1=>sT [(0,.tree Yg pA),(1,.fn 113 [.ref [.str gA]]),(7,an pA.length),(8,an u1)] []) (Ag []) ?_;intro n_ u1 c_ h hn4;refine Ae<|Ab (kQ h (fun _ h=>skW<|Ab<|Ad<|Ae<|Ab<|Aa 11<|rsT 3 (riH Yg h fun x11 _ h=>rsT 1 ?_)) fun _ h=>lxT (have h:=jO h hn4;jC []));have ⟨y12,h12,h⟩:=Ah h;exact R3 (.bool y12) [] [.agg [.str x11.1,.tree Y8 x11.2.1,ai x11.2.2.1,ai x11.2.2.2.1,tS x11.2.2.2.2],.ref [.str gA]] _ (caps:=[.ref [.str gA]]) (args0:=[.agg [.str x11.1,.tree Y8 x11.2.1,ai x11.2.2.1,ai x11.2.2.2.1,tS x11.2.2.2.2],.ref [.str gA]]) trivial kr (Rs h12) kr<|rnW (kQ h (fun _ h=>Ae<|Ac<|br_<|tr_<|tr_<|br_<|tr_ (have h:=jO h hn4;(have h:=jO h hk2;jS h))) fun _ h=>Ay<|bn_<|tn_<|wr_<|Aa 13 (raH h fun h=>rsT 1<|Ao<|tn_<|jL []))
def Il(a0:List (ByteArray×(List ZB)×Int×Int×LL))(a1:ByteArray):Option (ByteArray×(List ZB)×Int×Int×LL):=
 (Bf a0 a1).bind fun y3=>
(Bz a0 y3).bind fun x4=>
some (x4.1,x4.2.1,x4.2.2.1,x4.2.2.2.1,x4.2.2.2.2)
def So(r:ByteArray×(List ZB)×Int×Int×LL):RV:=⟨false,[(true,[.sc (.str r.1),.imm (.tree Y8 r.2.1),.sc (.int .i64 r.2.2.1),.sc (.int .i64 r.2.2.2.1),.imm (tS r.2.2.2.2)])]⟩
theorem Tj(h:Il pA gA=some wA):cK 70 [.tree Yg pA,.str gA] (So wA):=by
 refine Aeb kr Tryz.func70 (Ck kr) (fun nz_=>[.ftr nz_ Yg pA,.str gA]) (n:=11) kr (fun _=>by simp) (fun _=>⟨_,_,rfl,rfl,⟨_,_,rfl,⟨rfl,rfl⟩,rfl⟩⟩) (tl:=fun nz_=>[(0,.ftr nz_ Yg pA),(1,.str gA)]) (fun _=>rfl) fun zn_ nz_ hz_=>Ae<|Ab<|Aa 10<|rsT 3 (rcH h (fun h=>Hi<|Cu h) fun y3 h=>?_)
 have ⟨x4,f4,h⟩:=Ah h;have ⟨p4,b4,e4⟩:=Ar f4;exact rs0 (.telt (some nz_) Yg x4 0) (zi (t:=Yg) (xs:=pA) (k:=.i64) (m:=y3) p4 e4)<|rsB 2<|rnW<|Ac<|jZ h [(true,[.str x4.1,.ftr nz_ Y8 x4.2.1,ai x4.2.2.1,ai x4.2.2.2.1,.ftr nz_ sI x4.2.2.2.2])]<|Ek (Aw Cd<|Aw (B0 .ftr)<|Aw Cd<|Aw Cd<|Aw (B0 .ftr) Ei) Cs
end
section
set_option maxRecDepth 4000
set_option maxHeartbeats 4800000
variable{nA:List (ByteArray×Int×Int×List ZB)}{xA:List (Int×(Int×Int))}{bA bB bC:Int}{gA gB:ByteArray}{lA:Int×Int×Bool}{hA:List ZB}{cA:Bool}{pA:List (ByteArray×(List ZB)×Int×Int×LL)}
def Hs(a0:List (ByteArray×Int×Int×List ZB))(u0:Nat)(u1:List (Int×(Int×Int))):Option (Ctl (Nat×(List (Int×(Int×Int)))) (List (Int×(Int×Int)))):=
 cond (decide ((u0:Int)<(a0.length:Int)))
 ((a0[u0]?).bind fun x11=>
 og (x11.1.size<=maxLen/\u1.length<1073741824/\L6 x11.2.1/\L6 x11.2.2.1)<|
 og (u0+1<4611686018427387904)<|
 some (.next (u0+1,Og u1 (G6 x11.1) (x11.2.1,x11.2.2.1))))
 (some (.out u1))
def H2(a0:List (ByteArray×Int×Int×List ZB)):Option (List (Int×(Int×Int))):=
 (Aq (fun s_:Nat×(List (Int×(Int×Int)))=>Hs a0 s_.1 s_.2) 4611686018427387904 (0,[])).bind fun u0=>
some u0
def Aa0(r:List (Int×(Int×Int))):RV:=⟨false,[(false,[.frz (.fn 154 [.ref [.mtree 175 Y3 r]])])]⟩
theorem R6(h:H2 nA=some xA):cK 109 [.tree Ye nA] (Aa0 xA):=by
 refine cZ Tryz.func109 fun zn_ nz_ hz_=>Ae<|Ae (sqF h (fun u1=>sT [(3,.box (oi 0 1) 0)] [(oi 0 1,.cells 175 [.mp (oi 1 1)]),(oi 1 1,.map 175 Y3 u1)]) ?_ fun u1 h=>Ae<|Ac<|jZ h [(false,[.fn 154 [.box (oi 0 1) 0]])]<|Lu (A03<|.fnM (ty:=175) (j:=oi 1 1) (mt:=175) (t:=Y3) (es:=u1) kr kr) Cs)
 intro _ h;refine Ae<|Ad<|lpF h (fun (u2,u0)=>sT [(3,.box (oi 0 1) 0),(7,.tree Ye nA),(8,an nA.length),(9,an u2)] [(oi 0 1,.cells 175 [.mp (oi 1 1)]),(oi 1 1,.map 175 Y3 u0)]) (Ag [(oi 0 1,oi 3 3),(oi 1 1,oi 6 2)]) ?_;rintro n_ ⟨u2,u0⟩ c_ h hn5;refine Ae<|Ab (kQ h (fun _ h=>skW<|Ab<|Ad<|Ab<|Aa 7 (riH Ye h fun x11 _ h=>rsB 3<|rnW<|Aa 16<|rsT 8 ?_)) fun _ h=>lxT (have h:=jO h hn5;jE []));have ⟨g12,h⟩:=Aj h;exact Al0 (oi 1 1) (oi 1 1) (.map 175 Y3<|Og u0 (G6 x11.1) (x11.2.1,x11.2.2.1)) (Axy (es:=u0) (k:=x11.1) (a:=x11.2.1) (b:=x11.2.2.1) kr kr kr kr g12)<|Ao<|bn_<|tn_<|wr_<|Aa 18 (raH h fun h=>rsT 1<|Ao<|tn_<|jL [])
def F9(u2 u3:Int)(u0:ByteArray)(u1:List (Int×(Int×Int))):Option (Int×Int×Bool):=
 cond (u2 !=17)
 ((Fm u2 u3 u0).bind fun y6=>
 some (y6.1,y6.2.1,y6.2.2))
 (og (u0.size<=maxLen)<|
 (cond ((D8 u1 (G6 u0)).isSome)
   (some (u3==0))
   (some false)).bind fun u4=>
 some (((D8 u1 (G6 u0)).getD (0,0)).1,((D8 u1 (G6 u0)).getD (0,0)).2,u4))
theorem Wn(h:F9 bA bB gA xA=some lA):cK 154 [.agg [ai bA,ai bB,.str gA],.ref [.mtree 175 Y3 xA]] (Es lA):=by
 refine cO Tryz.func154<|Ae<|Ab<|Ae (kQ h (fun _ h=>Ab<|Aa 13<|rsT 1 (rcH h Q7 fun y6 h=>rsB 4<|rnW<|Ac<|tr_<|jS h)) fun _ h=>skW<|Ab<|Aa 17<|rsT 3 ?_);have ⟨g8,h⟩:=Aj h;exact rs0 (.tup [.agg [ai<|((D8 xA<|G6 gA).getD (0,0)).1,ai (((D8 xA<|G6 gA).getD (0,0)).2)],.bool ((D8 xA<|G6 gA).isSome)]) (As3 (t:=Y3) (es:=xA) (k:=gA) kr kr g8)<|rsB 6<|rnW (sqF h (fun u4=>sT [(3,.box (oi 0 1) 0),(4,.bool u4)] [(oi 0 1,.cells 114 [ai<|((D8 xA<|G6 gA).getD (0,0)).1,ai (((D8 xA<|G6 gA).getD (0,0)).2)])]) (fun _ h=>Al 26<|dsT 3 (kD h 23 (fun _ h=>dsT 4<|J4 (oi 3 2) (oi 3 2) (.cells 114 [ai<|((D8 xA<|G6 gA).getD (0,0)).1,ai (((D8 xA<|G6 gA).getD (0,0)).2)]) kr<|ds0 (.bool<|bB==0) kr<|Cb (As kr)<|tn_<|jE [(oi 0 1,oi 3 2)]) fun _ h=>dsT 4<|J4 (oi 3 2) (oi 3 2) (.cells 114 [ai<|((D8 xA<|G6 gA).getD (0,0)).1,ai (((D8 xA<|G6 gA).getD (0,0)).2)]) kr<|ds0 (.bool false) kr<|Cb (As kr)<|tn_<|jE [(oi 0 1,oi 3 2)])) fun u4 h=>Ac<|jS h)
def Ku(a0:List ZB)(u2:List (Int×(Int×Int)))(u1:Nat)(u0:List (Int×Int)):Option (Ctl (Nat×(List (Int×Int))) (Ctl (List (Int×Int)) (Int×Int×Bool))):=
 cond (decide ((u1:Int)<(a0.length:Int)))
 (Dg ((a0[u1]?).bind fun x16=>
  (cond (x16.1 !=15)
    (some (x16.1 !=16))
    (some false)).bind fun u3=>
  cond u3
   ((F9 x16.1 x16.2.1 x16.2.2 u2).bind fun y22=>
   cond (!y22.2.2)
    (some (.out (.out (.out (0,0,false)))))
    (og (u0.length+1<=1073741824/\(u0.length+1)*16<=140737488355328)<|
    some (.next (u0++([(y22.1,y22.2.1)])))))
   ((cond (x16.2.1 !=0)
     (some true)
     (cond (!(x16.2.2.toList==(⟨#[]⟩:ByteArray).toList))
      (some true)
      (some (decide ((u0.length:Int)<2))))).bind fun u4=>
   cond u4
    (some (.out (.out (.out (0,0,false)))))
    ((Bz u0 (wI ((wI ((u0.length:Int) - 1)) - 1))).bind fun x37=>
    (Bz u0 (wI ((wI ((u0.length:Int) - 1)) - 1))).bind fun x38=>
    (Bz u0 (wI ((u0.length:Int) - 1))).bind fun x39=>
    (Bz u0 (wI ((u0.length:Int) - 1))).bind fun x40=>
    (Fk x16.1 x38.1 x38.2 x40.1 x40.2).bind fun y41=>
    cond (!y41.2.2)
     (some (.out (.out (.out (0,0,false)))))
     (og ((0:Int)<=0/\0<=wI ((wI ((u0.length:Int) - 1)) - 1)/\wI ((wI ((u0.length:Int) - 1)) - 1)<=(u0.length:Int))<|
     og (((u0.take ((wI ((wI ((u0.length:Int) - 1)) - 1)).toNat)).length)+1<=1073741824/\(((u0.take ((wI ((wI ((u0.length:Int) - 1)) - 1)).toNat)).length)+1)*16<=140737488355328)<|
     some (.next ((u0.take ((wI ((wI ((u0.length:Int) - 1)) - 1)).toNat))++([(y41.1,y41.2.1)]))))))) fun u5=>
 og (u1+1<4611686018427387904)<|
 some (.next (u1+1,u5)))
 (some (.out (.next u0)))
def Cr(a0:List ZB)(u1:List (Int×(Int×Int))):Option (Int×Int×Bool):=
 (Ce (a0.length:Int) 1 400).bind fun y4=>
cond (!y4)
 (some (0,0,false))
 (Dg (Aq (fun s_:Nat×(List (Int×Int))=>Ku a0 u1 s_.1 s_.2) 4611686018427387904 (0,[])) fun u0=>
 (u0[0]?).bind fun x50=>
 some (x50.1,x50.2,(u0.length:Int)==1))
theorem F2(h:Cr hA xA=some lA):cK 108 [.tree Y8 hA,.fn 154 [.ref [.mtree 175 Y3 xA]]] (Es lA):=by
 refine cO Tryz.func108<|Ae<|Ab<|Ab<|Aa 7<|rsT 2 (rcH h C9 fun y4 h=>rsT 1<|rnW (kQ h (fun _ h=>Ae<|Ac<|tr_<|jS h) fun _ h=>skW<|Ae<|sqC h (fun u2=>sT [(4,.box (oi 0 1) 0),(6,.own (oi 1 1) Y3 0 u2.length)] [(oi 0 1,.cells 114 [ai 0,ai 0]),(oi 1 1,.arr 114 Y3 u2)]) ?_ ?_))
 ·intro _ h hk8;refine Ae<|Ad<|lpF h (fun (u3,u0)=>sT [(1,.fn 154 [.ref [.mtree 175 Y3 xA]]),(4,.box (oi 0 1) 0),(6,.own (oi 1 1) Y3 0 u0.length),(20,.tree Y8 hA),(21,an hA.length),(22,an u3)] [(oi 0 1,.cells 114 [ai 0,ai 0]),(oi 1 1,.arr 114 Y3 u0)]) (Ag [(oi 0 1,oi 4 1),(oi 1 1,oi 19 7)]) ?_;rintro n_ ⟨u3,u0⟩ c_ h hn10
  (try dsimp only at h);refine Ae<|Ab (kQ h (fun q13 h=>?_) fun q13 h=>?_)
  ·have q13_:=of_decide_eq_true q13;refine skW<|sqC h (fun u4=>sT [(1,.fn 154 [.ref [.mtree 175 Y3 xA]]),(4,.box (oi 0 1) 0),(6,.own (oi 1 1) Y3 0 u4.length),(20,.tree Y8 hA),(21,an hA.length),(22,an u3)] [(oi 0 1,.cells 114 [ai 0,ai 0]),(oi 1 1,.arr 114 Y3 u4)]) ?_ ?_
   ·intro _ h hk14;refine Ad<|Ab<|Aa 7 (riH Y8 h fun x16 _ h=>rsB 3<|rnW<|Ab<|sqF h (fun u5=>sT [(1,.fn 154 [.ref [.mtree 175 Y3 xA]]),(4,.box (oi 0 1) 0),(6,.own (oi 1 1) Y3 0 u0.length),(8,.box (oi 2 1) 0),(20,.tree Y8 hA),(21,an hA.length),(22,an u3),(33,.bool u5)] [(oi 0 1,.cells 114 [ai 0,ai 0]),(oi 1 1,.arr 114 Y3 u0),(oi 2 1,.cells 88 [ai x16.1,ai x16.2.1,.str x16.2.2])]) (fun _ h=>Aa 15<|rsT 4 (kR h 29 (fun _ h=>rsT 4<|Ao<|tn_<|jE [(oi 2 1,oi 8 5)]) fun _ h=>rsT 4<|Ao<|tn_<|jE [(oi 2 1,oi 8 5)])) ?_);intro u5 h
    (try dsimp only at h);refine kQ h (fun _ h=>?_) fun _ h=>?_
    ·refine Ab<|Aa 11<|rsT 2 ?_;have ⟨y22,h22,h⟩:=Ah h;refine R3 (.tup [.agg [ai y22.1,ai y22.2.1],.bool y22.2.2]) [] [.agg [ai x16.1,ai x16.2.1,.str x16.2.2],.ref [.mtree 175 Y3 xA]] _ (caps:=[.ref [.mtree 175 Y3 xA]]) (args0:=[.agg [ai x16.1,ai x16.2.1,.str x16.2.2],.ref [.mtree 175 Y3 xA]]) trivial kr (Wn h22) kr<|rsB 6<|rnW<|Ab<|Ae (kQ h (fun _ h=>?_) fun _ h=>?_)
     ·refine Ae<|Ac<|tr_<|tr_<|br_<|tr_<|tr_<|br_<|tr_ ?_;have h:=jO h hk14
      (try dsimp only at h);have h:=jO h hn10
      (try dsimp only at h);have h:=jO h hk8
      (try dsimp only at h);exact jS h
     refine skW<|Ab<|Aa 18<|rsB 3 ?_;have ⟨g28,h⟩:=Aj h;exact rs2 (.own (oi 1 16) Y3 0<|(u0++([(y22.1,y22.2.1)])).length) (oi 1 1) (oi 1 16) (.arr 114 Y3<|u0++([(y22.1,y22.2.1)])) (Qe (t:=Y3) (t':=Y3) (xs:=u0) (ys:=[(y22.1,y22.2.1)]) (zs:=u0++([(y22.1,y22.2.1)])) (j:=oi 1 1) (len:=u0.length) (c:=.own (oi 45 15) Y3 0 1) kr kr rfl kr (Ij (e:=114) kr rfl) rfl g28)<|rsT 1<|rnW<|D9<|te_<|be_<|tn_<|jC [(oi 1 1,oi 1 16)]
    refine skW<|Ab<|sqF h (fun u6=>sT [(1,.fn 154 [.ref [.mtree 175 Y3 xA]]),(4,.box (oi 0 1) 0),(6,.own (oi 1 1) Y3 0 u0.length),(8,.box (oi 2 1) 0),(20,.tree Y8 hA),(21,an hA.length),(22,an u3),(59,.bool u6)] [(oi 0 1,.cells 114 [ai 0,ai 0]),(oi 1 1,.arr 114 Y3 u0),(oi 2 1,.cells 88 [ai x16.1,ai x16.2.1,.str x16.2.2])]) (fun _ h=>Aa 15<|rsT 4 (kR h 50 (fun _ h=>rsT 9<|Ao<|tn_<|jE []) fun _ h=>rsT 5 (kR h 55 (fun _ h=>rsT 4<|Ao<|tn_<|jE []) fun _ h=>rsT 4<|Ao<|tn_<|jE []))) ?_;intro u6 h
    (try dsimp only at h);refine kQ h (fun _ h=>?_) fun _ h=>?_
    ·refine Ae<|Ac<|tr_<|br_<|tr_<|tr_<|br_<|tr_ ?_;have h:=jO h hk14
     (try dsimp only at h);have h:=jO h hn10
     (try dsimp only at h);have h:=jO h hk8
     (try dsimp only at h);exact jS h
    refine skW<|Ae<|Ab<|Al 24<|dsT 5 ?_;have ⟨x37,f37,h⟩:=Ah h;have ⟨p37,b37,e37⟩:=Ar f37;refine ds0 (.elt (oi 1 1) ((wI<|(wI<|(u0.length:Int) - 1) - 1).toNat) 0) (zo (t:=Y3) (o:=oi 1 1) (len:=u0.length) (k:=.i64) (m:=wI<|(wI<|(u0.length:Int) - 1) - 1) p37<|Ai e37) ?_;have ⟨x38,f38,h⟩:=Ah h;have ⟨p38,b38,e38⟩:=Ar f38;refine dsl (.agg [ai x38.1,ai x38.2]) (Hh (i:=oi 1 1) (j:=(wI<|(wI<|(u0.length:Int) - 1) - 1).toNat) (k:=0) (e:=114) (t:=Y3) (xs:=u0) kr kr e38 kr)<|dz0 (.own (oi 1 1) Y3 0 u0.length)<|dz0 (ai<|wI<|(u0.length:Int) - 1) ?_;have ⟨x39,f39,h⟩:=Ah h;have ⟨p39,b39,e39⟩:=Ar f39;refine ds0 (.elt (oi 1 1) ((wI<|(u0.length:Int) - 1).toNat) 0) (zo (t:=Y3) (o:=oi 1 1) (len:=u0.length) (k:=.i64) (m:=wI<|(u0.length:Int) - 1) p39<|Ai e39) ?_;have ⟨x40,f40,h⟩:=Ah h;have ⟨p40,b40,e40⟩:=Ar f40;refine dsl (.agg [ai x40.1,ai x40.2]) (Hh (i:=oi 1 1) (j:=(wI<|(u0.length:Int) - 1).toNat) (k:=0) (e:=114) (t:=Y3) (xs:=u0) kr kr e40 kr) (dcH h Q4 fun y41 h=>dz0 (.tup [.agg [ai y41.1,ai y41.2.1],.bool y41.2.2])<|dz0 (.agg [ai y41.1,ai y41.2.1])<|dz0 (.bool y41.2.2)<|ds1 (.box (oi 12 21) 0) (oi 12 21) (.cells 114 [ai 0,ai 0]) kr<|J4 (oi 12 21) (oi 12 21) (.cells 114 [ai y41.1,ai y41.2.1]) kr<|dz0 (.bool y41.2.2)<|Cb (As kr)<|tn_<|wr_<|Ab<|Ae (kQ h (fun _ h=>?_) fun _ h=>?_))
    ·refine Ae<|Ac<|tr_<|br_<|tr_<|tr_<|br_<|tr_ ?_;have h:=jO h hk14
     (try dsimp only at h);have h:=jO h hn10
     (try dsimp only at h);have h:=jO h hk8
     (try dsimp only at h);exact jS h
    refine skW<|Al 34<|dsT 3 ?_;have ⟨g46,h⟩:=Aj h;have ⟨g47,h⟩:=Aj h;exact ds0 (.own (oi 1 1) Y3 0<|(wI<|(wI<|(u0.length:Int) - 1) - 1).toNat) (E2 (t:=Y3) (i:=oi 1 1) (off:=0) (len:=u0.length) (l:=0) (h:=wI<|(wI<|(u0.length:Int) - 1) - 1) kr kr kr rfl g46 rfl oM)<|dzl (.agg [ai y41.1,ai y41.2.1])<|ds1 (.own (oi 87 31) Y3 0 1) (oi 87 31) (.arr 114 Y3<|[(y41.1,y41.2.1)]) kr<|ds2 (.own (oi 1 32) Y3 0<|((u0.take<|(wI<|(wI<|(u0.length:Int) - 1) - 1).toNat)++([(y41.1,y41.2.1)])).length) (oi 1 1) (oi 1 32) (.arr 114 Y3<|(u0.take<|(wI<|(wI<|(u0.length:Int) - 1) - 1).toNat)++([(y41.1,y41.2.1)])) (Au6 (t:=Y3) (t':=Y3) (xs:=u0) (ys:=[(y41.1,y41.2.1)]) (zs:=(u0.take<|(wI<|(wI<|(u0.length:Int) - 1) - 1).toNat)++([(y41.1,y41.2.1)])) (j:=oi 1 1) (len:=(wI<|(wI<|(u0.length:Int) - 1) - 1).toNat) (c:=.own (oi 87 31) Y3 0 1) kr kr oM kr (Ij (e:=114) kr rfl) rfl g47)<|dz0 (.own (oi 1 32) Y3 0<|((u0.take<|(wI<|(wI<|(u0.length:Int) - 1) - 1).toNat)++([(y41.1,y41.2.1)])).length)<|Cb (As kr)<|bn_<|tn_<|jC [(oi 1 1,oi 1 32)]
   intro u4 h
   (try dsimp only at h);refine Aa 4 ?_;have ⟨g48,h⟩:=Aj h;exact zA g48<|rsT 1<|Ao<|tn_<|jL []
  have q13_:=of_decide_eq_false q13;refine lxT ?_;have h:=jO h hn10
  (try dsimp only at h);exact jC []
 intro u2 h
 (try dsimp only at h);refine Ab<|Aa 10<|rsT 1 ?_;have ⟨x50,e50,h⟩:=Ah h;exact rs0 (.elt (oi 1 1) 0 0) (Te (t:=Y3) (o:=oi 1 1) (len:=u2.length) (k:=.i64) (m:=0) kr kr rfl (by decide) rfl<|Ai e50)<|rsl (.agg [ai x50.1,ai x50.2]) (Hh (i:=oi 1 1) (j:=0) (k:=0) (e:=114) (t:=Y3) (xs:=u2) kr kr e50 kr)<|rsB 5<|rnW<|Ac<|jS h
def Np(u0:ByteArray)(u2 u3:Int)(u4:List ZB)(u1:ByteArray):Option Bool:=
 some (u0.toList==u1.toList)
theorem Ym(h:Np gA bA bB hA gB=some cA):cK 176 [.agg [.str gA,ai bA,ai bB,.tree Y8 hA],.ref [.str gB]] (An cA):=by
 exact cO Tryz.func176<|Ae<|Ae<|Ac<|jS h
def Az(a0:List (ByteArray×Int×Int×List ZB))(u1:ByteArray)(u0:Nat):Option (Ctl Nat (Ctl Unit Int)):=
 cond (decide ((u0:Int)<(a0.length:Int)))
 ((a0[u0]?).bind fun x11=>
 (Np x11.1 x11.2.1 x11.2.2.1 x11.2.2.2 u1).bind fun y12=>
 cond y12
  (some (.out (.out (u0:Int))))
  (og (u0+1<4611686018427387904)<|
  some (.next (u0+1))))
 (some (.out (.next ())))
def Br(a0:List (ByteArray×Int×Int×List ZB))(u0:ByteArray):Option Int:=
 Dg (Aq (fun s_:Nat=>Az a0 u0 s_) 4611686018427387904 0) fun _=>
some (-1)
theorem En(h:Br nA gA=some bA):cK 175 [.tree Ye nA,.fn 176 [.ref [.str gA]]] (A8 bA):=by
 refine cO Tryz.func175<|Ae (sqC h (fun _=>sT [] []) ?_ fun _ h=>Ae<|Ac<|jS h);intro _ h hk2;refine Ae<|Ad<|lpF h (fun u1=>sT [(0,.tree Ye nA),(1,.fn 176 [.ref [.str gA]]),(7,an nA.length),(8,an u1)] []) (Ag []) ?_;intro n_ u1 c_ h hn4;refine Ae<|Ab (kQ h (fun _ h=>skW<|Ab<|Ad<|Ae<|Ab<|Aa 11<|rsT 3 (riH Ye h fun x11 _ h=>rsT 1 ?_)) fun _ h=>lxT (have h:=jO h hn4;jC []));have ⟨y12,h12,h⟩:=Ah h;exact R3 (.bool y12) [] [.agg [.str x11.1,ai x11.2.1,ai x11.2.2.1,.tree Y8 x11.2.2.2],.ref [.str gA]] _ (caps:=[.ref [.str gA]]) (args0:=[.agg [.str x11.1,ai x11.2.1,ai x11.2.2.1,.tree Y8 x11.2.2.2],.ref [.str gA]]) trivial kr (Ym h12) kr<|rnW (kQ h (fun _ h=>Ae<|Ac<|br_<|tr_<|tr_<|br_<|tr_ (have h:=jO h hn4;(have h:=jO h hk2;jS h))) fun _ h=>Ay<|bn_<|tn_<|wr_<|Aa 13 (raH h fun h=>rsT 1<|Ao<|tn_<|jL []))
def Mj(a0:List (ByteArray×Int×Int×List ZB))(a1:ByteArray):Option Int:=
 (Br a0 a1).bind fun y3=>
some y3
theorem Ab4(h:Mj nA gA=some bA):cK 152 [.tree Ye nA,.str gA] (A8 bA):=by
 exact cO Tryz.func152<|Ae<|Ab<|Aa 7<|rsT 2 (rcH h En fun y3 h=>rsT 1<|rnW<|Ac<|jS h)
def Pb:AC:=
 (.seq (rg [xs1 13 12 11])
 (.seq (.cond (tm 13)
  .skip
  (.exit 0))
 (.seq (.block 1 (.seq (rg [xm 14 12,xx 15 4 10 12,xo 16 (.i (.ld false 4 (tm 15))),⟨some 4,none,.i (.alloc 122 [.str ⟨#[]⟩,.int .i64 0,.int .i64 0,.nils])⟩,xm 3 14,xn (.st false 4 (tm 4) (tm 16))])
 (.seq (.region [xf 18 3 4,xf 19 0 18,xl 20 19,xm 21 0,xm 22 3,xo 23 (.slice 4 (tm 21) none (some (tm 22)) none),⟨some 24,none,qc 109 [tm 23] [[some Ye]]⟩,⟨some 25,none,qc 108 [tm 20,tm 24] [[some Y8],[]]⟩,xm 17 25,xo 26 (.i (.extr 0 (tm 17))),xo 27 (.i (.extr 1 (tm 17))),xo 5 (.i (.alloc 114 [.int .i64 0,.int .i64 0])),xn (.st false 2 (tm 5) (tm 26)),xm 6 27] true [(2,6),(6,11),(7,11)])
 (.seq (.region [xm 28 6,xo 29 (.i (.not (tm 28))),xm 30 29,⟨some 31,some (30,false),.i (.ld false 2 (tm 5))⟩,⟨some 32,some (30,false),qf 1 (tm 4)⟩,⟨some 33,some (30,false),ql (tm 32)⟩,⟨some 34,some (30,false),qf 2 (tm 4)⟩,⟨some 35,some (30,false),ql (tm 34)⟩,⟨some 36,some (30,false),.build [.int .i64 0,.int .i64 0] [(0,1,tm 33),(1,1,tm 35)]⟩,⟨some 37,some (30,false),.i (.cmp true 5 (tm 31) (tm 36))⟩,xo 38 (.i (.pick (tm 30) (cb true) (tm 37))),xm 39 38,⟨some 40,some (39,false),qf 0 (tm 4)⟩,⟨some 41,some (39,false),ql (tm 40)⟩,⟨some 42,some (39,false),qc 85 [tm 41] [[]]⟩,⟨some 43,some (39,false),.i (.not (tm 42))⟩,xo 44 (.i (.pick (tm 39) (cb true) (tm 43))),xm 45 44,⟨some 46,some (45,false),qm (tm 0)⟩,⟨some 47,some (45,false),qm (tm 3)⟩,⟨some 48,some (45,false),.slice 4 (tm 46) none (some (tm 47)) none⟩,⟨some 49,some (45,false),qf 0 (tm 4)⟩,⟨some 50,some (45,false),ql (tm 49)⟩,⟨some 51,some (45,false),qc 152 [tm 48,tm 50] [[some Ye],[]]⟩,⟨some 52,some (45,false),qb .geq (tm 51) (ci 0)⟩,xo 53 (.i (.pick (tm 45) (cb true) (tm 52)))] true [])
 (.cond (tm 53)
  (.seq (rg [xo 2 (qm (cb false))])
  .ret)
  .skip)))))
 (rg [xa 54 12,xm 12 54]))))
def Sm:AC:=
 (.seq (rg [xo 2 (qm (cb false))])
 (.seq (.seq (rg [xm 7 0,xn1 8 7,xo 9 (qb .gtr (tm 8) (ci 12))])
 (.cond (tm 9)
  (.seq (rg [xo 2 (qm (cb false))])
  .ret)
  .skip))
 (.seq (.seq (rg [xm 10 0,xn1 11 10,xo 12 (qm (ci 0))])
 (.block 0 (.loop Pb)))
 (.seq (rg [xo 2 (qm (cb true))])
 .ret))))
def Aa5:List Res:=[.tmp 2]
theorem Zl:C2 Tryz.prog Tryz.f107=some (Sm,Aa5):=by kernel_rfl
def Gt(a0:List (ByteArray×Int×Int×List ZB))(u0:Nat):Option (Ctl Nat (Ctl Unit Bool)):=
 cond (decide ((u0:Int)<(a0.length:Int)))
 ((a0[u0]?).bind fun x14=>
 og ((0:Int)<=0/\0<=(u0:Int)/\(u0:Int)<=(a0.length:Int)/\(a0.length:Int)<=(a0.length:Int))<|
 (H2 (a0.take u0)).bind fun y17=>
 (Cr x14.2.2.2 y17).bind fun y18=>
 (cond (!y18.2.2)
   (some true)
   (cond (!([y18.1,y18.2.1]==[x14.2.1,x14.2.2.1]))
    (some true)
    ((Ie x14.1).bind fun y22=>
    cond (!y22)
     (some true)
     (og ((0:Int)<=0/\0<=(u0:Int)/\(u0:Int)<=(a0.length:Int)/\(a0.length:Int)<=(a0.length:Int))<|
     (Mj (a0.take u0) x14.1).bind fun y25=>
     some (decide (0<=y25)))))).bind fun u1=>
 cond u1
  (some (.out (.out false)))
  (og (u0+1<4611686018427387904)<|
  some (.next (u0+1))))
 (some (.out (.next ())))
def Jn(a0:List (ByteArray×Int×Int×List ZB)):Option Bool:=
 cond (decide (12<(a0.length:Int)))
 (some false)
 (Dg (Aq (fun s_:Nat=>Gt a0 s_) 4611686018427387904 0) fun _=>
 some true)
theorem Yt(h:Jn nA=some cA):cK 107 [.tree Ye nA] (An cA):=by
 refine Xr kr Tryz.func107 Zl (n:=55) kr fS rfl ?_;unfold Sm;refine Ae<|Ab<|Ae (kQ h (fun _ h=>Ae<|Ac<|tr_<|jS h) fun _ h=>skW (sqC h (fun _=>sT [] []) ?_ fun _ h=>Ae<|Ac<|jS h));intro _ h hk6;refine Ae<|Ad<|lpF h (fun u0=>sT [(0,.tree Ye nA),(10,.tree Ye nA),(11,an nA.length),(12,an u0)] []) (Ag []) ?_;intro n_ u0 c_ h hn8;unfold Pb;refine Ae<|Ab (kQ h (fun _ h=>skW<|Ab<|Ad<|Ab<|Aa 9<|rsT 1 (riH Ye h fun x14 _ h=>rsB 4<|rnW<|Ab<|Al 23<|dsT 5 ?_)) fun _ h=>lxT (have h:=jO h hn8;jC []));have ⟨g16,h⟩:=Aj h;have ⟨y17,h17,h⟩:=Ah h;have ⟨y18,h18,h⟩:=Ah h;refine ds0 (.tree Ye<|nA.take u0) (Adw (t:=Ye) (xs:=nA) (zs:=nA.take u0) (l:=0) (h:=(u0:Int)) (m:=(nA.length:Int)) kr kr kr kr rfl g16 rfl)<|dzc (.fn 154 [.ref [.mtree 175 Y3 y17]]) [] [.tree Ye (nA.take u0)] (R6 h17)<|dzc (.tup [.agg [ai y18.1,ai y18.2.1],.bool y18.2.2]) [] [.tree Y8 x14.2.2.2,.fn 154 [.ref [.mtree 175 Y3 y17]]] (F2 h18)<|dz0 (.tup [.agg [ai y18.1,ai y18.2.1],.bool y18.2.2])<|dz0 (.agg [ai y18.1,ai y18.2.1])<|dz0 (.bool y18.2.2)<|ds1 (.box (oi 5 20) 0) (oi 5 20) (.cells 114 [ai 0,ai 0]) kr<|J4 (oi 5 20) (oi 5 20) (.cells 114 [ai y18.1,ai y18.2.1]) kr<|dz0 (.bool y18.2.2)<|Cb (As kr)<|tn_<|wr_ (sqF h (fun u1=>sT [(0,.tree Ye nA),(10,.tree Ye nA),(11,an nA.length),(12,an u0),(53,.bool u1)] []) ?_ fun u1 h=>kQ h (fun _ h=>Ae<|Ac<|br_<|tr_<|tr_<|br_<|tr_ (have h:=jO h hn8;(have h:=jO h hk6;jS h))) fun _ h=>Ay<|bn_<|tn_<|wr_<|Aa 4 (raH h fun h=>rsT 1<|Ao<|tn_<|jL []));intro _ h;refine Al 49<|dsT 3 (kD h 30 (fun _ h=>dsT 23<|Cb (As kr)<|tn_<|jE []) fun _ h=>dsT 9 ?_);rcases A5 h with ⟨q21,h⟩|⟨q21,h⟩
 ·exact dq 39 q21<|dsT 14<|Cb (As kr)<|tn_<|jE []
 refine dq 39 q21<|dz0 (.box (oi 4 6) 0)<|dzl (.str x14.1) (dcH h U8 fun y22 h=>dsT 3 ?_);rcases A5 h with ⟨q23,h⟩|⟨q23,h⟩
 ·exact dq 45 q23<|dsT 8<|Cb (As kr)<|tn_<|jE []
 refine dq 45 q23<|dz0 (.tree Ye nA)<|dz0 (an u0) ?_;have ⟨g24,h⟩:=Aj h;have ⟨y25,h25,h⟩:=Ah h;exact ds0 (.tree Ye<|nA.take u0) (Adw (t:=Ye) (xs:=nA) (zs:=nA.take u0) (l:=0) (h:=(u0:Int)) (m:=(nA.length:Int)) kr kr kr kr rfl g24 rfl)<|dz0 (.box (oi 4 6) 0)<|dzl (.str x14.1)<|M7 (ai y25) [] [.tree Ye<|nA.take u0,.str x14.1] _ (caps:=[]) (args0:=[.tree Ye<|nA.take u0,.str x14.1]) (Ac3 kr) kr (Ab4 h25) kr<|dz0 (.bool<|decide (0<=y25))<|dz0 (.bool<|decide (0<=y25))<|Cb (As kr)<|tn_<|jE []
def Lf(a0:List (ByteArray×Int×Int×List ZB))(u0:List ZB):Option Bool:=
 (Jn a0).bind fun y4=>
cond (!y4)
 (some false)
 ((H2 a0).bind fun y8=>
 (Cr u0 y8).bind fun y9=>
 some y9.2.2)
theorem Zr(h:Lf nA hA=some cA):cK 62 [.tree Ye nA,.agg [.tree Y8 hA]] (An cA):=by
 exact cO Tryz.func62<|Ae<|Ab<|Ab<|Aa 6<|rsT 1 (rcH h Yt fun y4 h=>rsT 1<|rnW (kQ h (fun _ h=>Ae<|Ac<|tr_<|jS h) fun _ h=>skW<|Ab<|Al 17<|dsT 3 (dcH h R6 fun y8 h=>dcH h F2 fun y9 h=>ds0 (.tup [.agg [ai y9.1,ai y9.2.1],.bool y9.2.2]) kr<|ds0 (.agg [ai y9.1,ai y9.2.1]) kr<|ds0 (.bool y9.2.2) kr<|ds1 (.box (oi 5 14) 0) (oi 5 14) (.cells 114 [ai 0,ai 0]) kr<|J4 (oi 5 14) (oi 5 14) (.cells 114 [ai y9.1,ai y9.2.1]) kr<|ds0 (.bool y9.2.2) kr<|Cb (As kr)<|tn_<|wr_<|Ae<|Ac<|jS h)))
def Gl(a0:List (ByteArray×(List ZB)×Int×Int×LL))(u0:Nat)(u1:List (ByteArray×Int×Int×List ZB)):Option (Ctl (Nat×(List (ByteArray×Int×Int×List ZB))) (List (ByteArray×Int×Int×List ZB))):=
 cond (decide ((u0:Int)<(a0.length:Int)))
 ((a0[u0]?).bind fun x11=>
 og (u1.length+1<=1073741824/\(u1.length+1)*56<=140737488355328)<|
 og (u0+1<4611686018427387904)<|
 some (.next (u0+1,u1++[(x11.1,x11.2.2.1,x11.2.2.2.1,x11.2.1)])))
 (some (.out u1))
def Jo(a0:List (ByteArray×(List ZB)×Int×Int×LL)):Option (List (ByteArray×Int×Int×List ZB)):=
 (Aq (fun s_:Nat×(List (ByteArray×Int×Int×List ZB))=>Gl a0 s_.1 s_.2) 4611686018427387904 (0,[])).bind fun u0=>
some u0
theorem Xs(h:Jo pA=some nA):cK 63 [.tree Yg pA] (Qu nA):=by
 refine Aeb kr Tryz.func63 (Ck kr) (fun nz_=>[.ftr nz_ Yg pA]) (n:=29) kr (fun _=>by simp) (fun _=>⟨_,_,rfl,rfl,rfl⟩) (tl:=fun nz_=>[(0,.ftr nz_ Yg pA)]) (fun _=>rfl) fun zn_ nz_ hz_=>Ae<|Ab<|Aa 4<|Hd (.own (oi 6 2) Ye 0 0) (oi 6 2) (.vec 122 4 0<|tvC (some nz_) Ye []) trivial (Co kr)<|rsT 1<|Ao<|tn_ ⟨_,Bv (N:=0) (oi 6 2) 122 (some nz_) Ye [] kr rfl,sqF h (fun u1=>sT [(3,.own (oi 0 1) Ye 0 u1.length)] [(oi 0 1,.tv 122 (some nz_) Ye u1)]) ?_ fun u1 h=>Ae<|Ac<|jZ h [(false,[.own (oi 0 1) Ye 0 u1.length])]<|Lu (B0<|.tv (e:=122) kr rfl) Cs⟩
 intro _ h;refine Ae<|Ad<|lpF h (fun (u2,u0)=>sT [(3,.own (oi 0 1) Ye 0 u0.length),(7,.ftr nz_ Yg pA),(8,an pA.length),(9,an u2)] [(oi 0 1,.tv 122 (some nz_) Ye u0)]) (Ag [(oi 0 1,oi 6 2)]) ?_;rintro n_ ⟨u2,u0⟩ c_ h hn5;refine Ae<|Ab (kQ h (fun _ h=>skW<|Ab<|Ad<|Ab<|Aa 7 (riH Yg h fun x11 _ h=>rsB 3<|rnW<|Aa 22<|rsT 12<|Hd (.own (oi 25 19) Ye 0 1) (oi 25 19) (.vec 122 4 1<|tvC (some nz_) Ye<|[(x11.1,x11.2.2.1,x11.2.2.2.1,x11.2.1)]) trivial (Co kr) ?_)) fun _ h=>lxT (have h:=jO h hn5;jE []));have ⟨g12,h⟩:=Aj h;refine rs2 (.own (oi 0 20) Ye 0<|u0.length+1) (oi 0 1) (oi 0 20) (.vec 122 4 (u0.length+1)<|tvC (some nz_) Ye<|u0++[(x11.1,x11.2.2.1,x11.2.2.2.1,x11.2.1)]) (Mw (t':=Ye) (t:=Ye) (t2:=Ye) (e2:=122) (q:=oi 25 19) (m:=some nz_) (z:=(x11.1,x11.2.2.1,x11.2.2.2.1,x11.2.1)) (o:=oi 0 1) (xs:=u0) (len:=u0.length) kr kr rfl kr kr g12) (rsT 1<|Ao<|bn_<|tn_ ⟨_,Bv (N:=u0.length+1) (oi 0 20) 122 (some nz_) Ye (u0++[(x11.1,x11.2.2.1,x11.2.2.2.1,x11.2.1)]) kr fS,Aa 24 (raH h fun h=>rsT 1<|Ao<|tn_ ?_)⟩);cases h;exact jLw hn5<|(wL 3 (fS:u0.length+1=(u0++[(x11.1,x11.2.2.1,x11.2.2.2.1,x11.2.1)]).length)).trans<|Ag [(oi 0 1,oi 0 20)]
def I1(u0 u1:Int)(u4:ByteArray)(u2:Int):Option Bool:=
 ((Jf u0).bind fun y3=>
 cond y3
  (some true)
  ((E0 u0).bind fun y5=>
  cond y5
   (some (decide (u2<=u1)))
   (some false))).bind fun u3=>
some u3
theorem Wq(h:I1 bA bB gA bC=some cA):cK 65 [.agg [ai bA,ai bB,.str gA],.ref [ai bC]] (An cA):=by
 refine cO Tryz.func65<|Ae (sqF h (fun u4=>sT [(3,.bool u4)] []) ?_ fun u4 h=>Ac<|jS h);intro _ h;refine Aa 18<|rsT 2 (rcH h Tu fun y3 h=>rsT 1 ?_);rcases A5 h with ⟨q4,h⟩|⟨q4,h⟩
 ·exact rq 7 q4<|rsT 4<|rs0 (.tup []) (Q9 kr)<|rs0 (.tup []) (Q9 kr)<|rs0 (.tup []) (Q9 kr)<|rs0 (.tup []) (Q9 kr)<|rsT 3<|Ao<|tn_<|jE []
 exact rq 7 q4<|rsT 2 (rcH h Nl fun y5 h=>rsT 1 (kR h 11 (fun _ h=>rsT 7<|Ao<|tn_<|jE []) fun _ h=>rsT 7<|Ao<|tn_<|jE []))
def Ax(a0:List ZB)(u1:Int)(u0:Nat):Option (Ctl Nat (Ctl Unit Int)):=
 cond (decide ((u0:Int)<(a0.length:Int)))
 ((a0[u0]?).bind fun x11=>
 (I1 x11.1 x11.2.1 x11.2.2 u1).bind fun y12=>
 cond y12
  (some (.out (.out (u0:Int))))
  (og (u0+1<4611686018427387904)<|
  some (.next (u0+1))))
 (some (.out (.next ())))
def Bo(a0:List ZB)(u0:Int):Option Int:=
 Dg (Aq (fun s_:Nat=>Ax a0 u0 s_) 4611686018427387904 0) fun _=>
some (-1)
theorem D5(h:Bo hA bA=some bB):cK 110 [.tree Y8 hA,.fn 65 [.ref [ai bA]]] (A8 bB):=by
 refine cO Tryz.func110<|Ae (sqC h (fun _=>sT [] []) ?_ fun _ h=>Ae<|Ac<|jS h);intro _ h hk2;refine Ae<|Ad<|lpF h (fun u1=>sT [(0,.tree Y8 hA),(1,.fn 65 [.ref [ai bA]]),(7,an hA.length),(8,an u1)] []) (Ag []) ?_;intro n_ u1 c_ h hn4;refine Ae<|Ab (kQ h (fun _ h=>skW<|Ab<|Ad<|Ae<|Ab<|Aa 11<|rsT 3 (riH Y8 h fun x11 _ h=>rsT 1 ?_)) fun _ h=>lxT (have h:=jO h hn4;jC []));have ⟨y12,h12,h⟩:=Ah h;exact R3 (.bool y12) [] [.agg [ai x11.1,ai x11.2.1,.str x11.2.2],.ref [ai bA]] _ (caps:=[.ref [ai bA]]) (args0:=[.agg [ai x11.1,ai x11.2.1,.str x11.2.2],.ref [ai bA]]) trivial kr (Wq h12) kr<|rnW (kQ h (fun _ h=>Ae<|Ac<|br_<|tr_<|tr_<|br_<|tr_ (have h:=jO h hn4;(have h:=jO h hk2;jS h))) fun _ h=>Ay<|bn_<|tn_<|wr_<|Aa 13 (raH h fun h=>rsT 1<|Ao<|tn_<|jL []))
def Bc(a0:List ZB)(u0:Int):Option Bool:=
 (Bo a0 u0).bind fun y3=>
some (decide (0<=y3))
theorem Du(h:Bc hA bA=some cA):cK 64 [.tree Y8 hA,.fn 65 [.ref [ai bA]]] (An cA):=by
 exact cO Tryz.func64<|Ae<|Ab<|Aa 7<|rsT 2 (rcH h D5 fun y3 h=>rsT 2<|rnW<|Ac<|jS h)
def La(a0:Int)(a1:List (ByteArray×(List ZB)×Int×Int×LL))(u0:List ZB):Option Bool:=
 ((F7 a0 a1).bind fun y4=>
 cond (!y4)
  (some true)
  ((Jo a1).bind fun y6=>
  (Lf y6 u0).bind fun y7=>
  some (!y7))).bind fun u1=>
cond u1
 (some false)
 ((Bc u0 a0).bind fun y11=>
 some (!y11))
theorem Aaf(h:La bA pA hA=some cA):cK 32 [ai bA,.tree Yg pA,.agg [.tree Y8 hA]] (An cA):=by
 refine cO Tryz.func32<|Ae<|Ab (sqF h (fun u1=>sT [(3,.box (oi 0 1) 0),(5,.box (oi 1 1) 0),(17,.bool u1)] [(oi 0 1,.cells 3 [ai bA]),(oi 1 1,.cells 37 [.tree Y8 hA])]) ?_ fun u1 h=>kQ h (fun _ h=>Ae<|Ac<|tr_<|jS h) fun _ h=>skW<|Ab<|Aa 8<|rsT 3 (rcH h Du fun y11 h=>rsT 2<|rnW<|Ac<|jS h));intro _ h;refine Al 15<|dzl (ai bA)<|dz0 (.tree Yg pA) (dcH h Tw fun y4 h=>dz0 (.bool<|!y4)<|dz0 (.bool<|!y4) ?_);rcases A5 h with ⟨q5,h⟩|⟨q5,h⟩
 ·exact dq 11 q5<|dsT 6<|Cb (As kr)<|tn_<|jE [(oi 0 1,oi 3 1),(oi 1 1,oi 5 2)]
 refine dq 11 q5<|dz0 (.tree Yg pA) ?_;have ⟨y6,h6,h⟩:=Ah h;exact Aga (.tree Ye y6) [] [.tree Yg pA] _ (caps:=[]) (Ac3 kr) (Xs h6) kr<|dzl (.agg [.tree Y8 hA]) (dcH h Zr fun y7 h=>dz0 (.bool<|!y7)<|dz0 (.bool<|!y7)<|Cb (As kr)<|tn_<|jE [(oi 0 1,oi 3 1),(oi 1 1,oi 5 2)])
end
section
set_option maxRecDepth 4000
set_option maxHeartbeats 4800000
variable{bA bB:Int}{hA:List ZB}{qA:Int×Int×LL}{gA:ByteArray}{pA:List (ByteArray×(List ZB)×Int×Int×LL)}{vA:Bool×Int×Int×LL}
def Gz(u2:List ZB)(a0:Int)(u1:Nat)(u0:List (Int×Int×LL)):Option (Ctl (Nat×(List (Int×Int×LL))) (List (Int×Int×LL))):=
 cond (decide ((u1:Int)<(u2.length:Int)))
 (((u2[u1]?).bind fun x11=>
  cond (x11.1==15)
   (og ((0:Int)<=0/\0<=wI ((wI ((u0.length:Int) - 1)) - 1)/\wI ((wI ((u0.length:Int) - 1)) - 1)<=(u0.length:Int))<|
   (Bz u0 (wI ((wI ((u0.length:Int) - 1)) - 1))).bind fun x17=>
   (Bz u0 (wI ((wI ((u0.length:Int) - 1)) - 1))).bind fun x18=>
   (Bz u0 (wI ((u0.length:Int) - 1))).bind fun x19=>
   (Bz u0 (wI ((u0.length:Int) - 1))).bind fun x20=>
   (F4 a0 x18.1 x18.2.1 x18.2.2 x20.1 x20.2.1 x20.2.2).bind fun y21=>
   og ((wI ((wI ((u0.length:Int) - 1)) - 1)).toNat<=u0.length/\(wI ((wI ((u0.length:Int) - 1)) - 1)).toNat+1<=1073741824/\((wI ((wI ((u0.length:Int) - 1)) - 1)).toNat+1)*40<=140737488355328)<|
   some (u0.take ((wI ((wI ((u0.length:Int) - 1)) - 1)).toNat)++[y21]))
   (cond (x11.1==16)
    (og ((0:Int)<=0/\0<=wI ((wI ((u0.length:Int) - 1)) - 1)/\wI ((wI ((u0.length:Int) - 1)) - 1)<=(u0.length:Int))<|
    (Bz u0 (wI ((wI ((u0.length:Int) - 1)) - 1))).bind fun x26=>
    (Bz u0 (wI ((wI ((u0.length:Int) - 1)) - 1))).bind fun x27=>
    (Bz u0 (wI ((u0.length:Int) - 1))).bind fun x28=>
    (Bz u0 (wI ((u0.length:Int) - 1))).bind fun x29=>
    (H8 a0 x27.1 x27.2.1 x27.2.2 x29.1 x29.2.1 x29.2.2).bind fun y30=>
    og ((wI ((wI ((u0.length:Int) - 1)) - 1)).toNat<=u0.length/\(wI ((wI ((u0.length:Int) - 1)) - 1)).toNat+1<=1073741824/\((wI ((wI ((u0.length:Int) - 1)) - 1)).toNat+1)*40<=140737488355328)<|
    some (u0.take ((wI ((wI ((u0.length:Int) - 1)) - 1)).toNat)++[y30]))
    ((A6 a0 x11.1 x11.2.1 x11.2.2).bind fun y32=>
    og (u0.length+1<=1073741824/\(u0.length+1)*40<=140737488355328)<|
    some (u0++[y32])))).bind fun u3=>
 og (u1+1<4611686018427387904)<|
 some (.next (u1+1,u3)))
 (some (.out u0))
def Do(a0:Int)(u0:List ZB):Option (Int×Int×LL):=
 (Aq (fun s_:Nat×(List (Int×Int×LL))=>Gz u0 a0 s_.1 s_.2) 4611686018427387904 (0,[])).bind fun u1=>
(u1[0]?).bind fun x36=>
some (x36.1,x36.2.1,x36.2.2)
theorem Ads(h:Do bA hA=some qA):cK 49 [ai bA,.agg [.tree Y8 hA]] (C0 qA):=by
 refine cZ Tryz.func49 fun zn_ nz_ hz_=>Ae<|Ab<|Aa 5<|Hd (.own (oi 9 3) Y9 0 0) (oi 9 3) (.vec 30 3 0<|tvC (some nz_) Y9 []) trivial (Co kr)<|rsT 1<|Ao<|tn_ ⟨_,Bv (N:=0) (oi 9 3) 30 (some nz_) Y9 [] kr rfl,sqF h (fun u2=>sT [(4,.box (oi 0 1) 0),(5,.own (oi 1 1) Y9 0 u2.length)] [(oi 0 1,.cells 30 [ai 0,ai 0,.nils]),(oi 1 1,.tv 30 (some nz_) Y9 u2)]) ?_ ?_⟩
 ·intro _ h;refine Ae<|Ad<|lpF h (fun (u3,u0)=>sT [(0,ai bA),(4,.box (oi 0 1) 0),(5,.own (oi 1 1) Y9 0 u0.length),(11,.tree Y8 hA),(12,an hA.length),(13,an u3)] [(oi 0 1,.cells 30 [ai 0,ai 0,.nils]),(oi 1 1,.tv 30 (some nz_) Y9 u0)]) (Ag [(oi 0 1,oi 4 2),(oi 1 1,oi 9 3)]) ?_;rintro n_ ⟨u3,u0⟩ c_ h hn5
  (try dsimp only at h);refine Ae<|Ab (kQ h (fun q8 h=>?_) fun q8 h=>?_)
  ·have q8_:=of_decide_eq_true q8;refine skW<|sqF h (fun u4=>sT [(0,ai bA),(4,.box (oi 0 1) 0),(5,.own (oi 1 1) Y9 0 u4.length),(11,.tree Y8 hA),(12,an hA.length),(13,an u3)] [(oi 0 1,.cells 30 [ai 0,ai 0,.nils]),(oi 1 1,.tv 30 (some nz_) Y9 u4)]) ?_ ?_
   ·intro _ h;refine Ad<|Ab<|Aa 7 (riH Y8 h fun x11 _ h=>rsB 3<|rnW<|Ae<|Ae<|Ad<|Ae (kQ h (fun _ h=>?_) fun _ h=>?_))
    ·refine Al 33<|dz0 (.own (oi 1 1) Y9 0 u0.length)<|dz0 (ai<|wI<|(u0.length:Int) - 1)<|dz0 (ai<|wI<|(wI<|(u0.length:Int) - 1) - 1) ?_;have ⟨g16,h⟩:=Aj h;have ⟨x17,f17,h⟩:=Ah h;have ⟨p17,b17,e17⟩:=Ar f17;have ⟨x18,f18,h⟩:=Ah h;have ⟨p18,b18,e18⟩:=Ar f18;have ⟨x19,f19,h⟩:=Ah h;have ⟨p19,b19,e19⟩:=Ar f19;have ⟨x20,f20,h⟩:=Ah h;have ⟨p20,b20,e20⟩:=Ar f20;have ⟨y21,h21,h⟩:=Ah h;have ⟨g22,h⟩:=Aj h;refine ds0 (.own (oi 1 1) Y9 0<|(wI<|(wI<|(u0.length:Int) - 1) - 1).toNat) (E2 (t:=Y9) (i:=oi 1 1) (off:=0) (len:=u0.length) (l:=0) (h:=wI<|(wI<|(u0.length:Int) - 1) - 1) kr kr kr rfl g16 rfl oM)<|dsT 4<|ds0 (.elt (oi 1 1) ((wI<|(wI<|(u0.length:Int) - 1) - 1).toNat) 0) (zo (t:=Y9) (o:=oi 1 1) (len:=u0.length) (k:=.i64) (m:=wI<|(wI<|(u0.length:Int) - 1) - 1) p17<|Ai e17)<|dsl (.agg [ai x18.1,ai x18.2.1,.ftr nz_ sI x18.2.2]) (Om (o:=oi 1 1) (k:=0) (e1:=30) (N:=List.length u0) (t:=Y9) (m:=some nz_) (xs:=u0) (z:=x18) kr kr e18 kr<|Nat.le_of_ble_eq_true kr)<|dz0 (.own (oi 1 1) Y9 0 u0.length)<|dz0 (ai<|wI<|(u0.length:Int) - 1)<|ds0 (.elt (oi 1 1) ((wI<|(u0.length:Int) - 1).toNat) 0) (zo (t:=Y9) (o:=oi 1 1) (len:=u0.length) (k:=.i64) (m:=wI<|(u0.length:Int) - 1) p19<|Ai e19)<|dsl (.agg [ai x20.1,ai x20.2.1,.ftr nz_ sI x20.2.2]) (Om (o:=oi 1 1) (k:=0) (e1:=30) (N:=List.length u0) (t:=Y9) (m:=some nz_) (xs:=u0) (z:=x20) kr kr e20 kr<|Nat.le_of_ble_eq_true kr)<|M7 (.agg [ai y21.1,ai y21.2.1,.ftr nz_ sI y21.2.2]) [] [ai bA,.agg [ai x18.1,ai x18.2.1,.ftr nz_ sI x18.2.2],.agg [ai x20.1,ai x20.2.1,.ftr nz_ sI x20.2.2]] _ (caps:=[]) (args0:=[ai bA,.agg [ai x18.1,ai x18.2.1,tS x18.2.2],.agg [ai x20.1,ai x20.2.1,tS x20.2.2]]) trivial kr (F1 hz_<|R8 h21) kr<|Ajw (.own (oi 45 30) Y9 0 1) (oi 45 30) (.vec 30 3 1<|tvC (some nz_) Y9<|[y21]) trivial (Co kr)<|ds2 (.own (oi 1 31) Y9 0<|(wI<|(wI<|(u0.length:Int) - 1) - 1).toNat+1) (oi 1 1) (oi 1 31) (.vec 30 3 ((wI<|(wI<|(u0.length:Int) - 1) - 1).toNat+1)<|tvC (some nz_) Y9<|u0.take ((wI<|(wI<|(u0.length:Int) - 1) - 1).toNat)++[y21]) (Q3 (o:=oi 1 1) (q:=oi 45 30) (e2:=30) (t:=Y9) (t':=Y9) (t2:=Y9) (len:=(wI<|(wI<|(u0.length:Int) - 1) - 1).toNat) (N:=u0.length) (m:=some nz_) (xs:=u0) (z:=y21) kr kr rfl kr kr g22) ?_;refine dz0 (.own (oi 1 31) Y9 0<|(wI<|(wI<|(u0.length:Int) - 1) - 1).toNat+1)<|Cb (As kr)<|bn_<|bn_<|tn_ ?_;cases h;exact (Bv (N:=(wI<|(wI<|(u0.length:Int) - 1) - 1).toNat+1) (oi 1 31) 30 (some nz_) Y9 (u0.take ((wI<|(wI<|(u0.length:Int) - 1) - 1).toNat)++[y21]) kr<|Kk rfl g22).trans<|(wL 5 ((Kk rfl g22):(wI<|(wI<|(u0.length:Int) - 1) - 1).toNat+1=(u0.take ((wI<|(wI<|(u0.length:Int) - 1) - 1).toNat)++[y21]).length)).trans<|Ag [(oi 1 1,oi 1 31)]
    refine Ae (kQ h (fun _ h=>?_) fun _ h=>?_)
    ·refine Al 35<|dz0 (.own (oi 1 1) Y9 0 u0.length)<|dz0 (ai<|wI<|(u0.length:Int) - 1)<|dz0 (ai<|wI<|(wI<|(u0.length:Int) - 1) - 1) ?_;have ⟨g25,h⟩:=Aj h;have ⟨x26,f26,h⟩:=Ah h;have ⟨p26,b26,e26⟩:=Ar f26;have ⟨x27,f27,h⟩:=Ah h;have ⟨p27,b27,e27⟩:=Ar f27;have ⟨x28,f28,h⟩:=Ah h;have ⟨p28,b28,e28⟩:=Ar f28;have ⟨x29,f29,h⟩:=Ah h;have ⟨p29,b29,e29⟩:=Ar f29;have ⟨y30,h30,h⟩:=Ah h;have ⟨g31,h⟩:=Aj h;refine ds0 (.own (oi 1 1) Y9 0<|(wI<|(wI<|(u0.length:Int) - 1) - 1).toNat) (E2 (t:=Y9) (i:=oi 1 1) (off:=0) (len:=u0.length) (l:=0) (h:=wI<|(wI<|(u0.length:Int) - 1) - 1) kr kr kr rfl g25 rfl oM)<|dsT 4<|ds0 (.elt (oi 1 1) ((wI<|(wI<|(u0.length:Int) - 1) - 1).toNat) 0) (zo (t:=Y9) (o:=oi 1 1) (len:=u0.length) (k:=.i64) (m:=wI<|(wI<|(u0.length:Int) - 1) - 1) p26<|Ai e26)<|dsl (.agg [ai x27.1,ai x27.2.1,.ftr nz_ sI x27.2.2]) (Om (o:=oi 1 1) (k:=0) (e1:=30) (N:=List.length u0) (t:=Y9) (m:=some nz_) (xs:=u0) (z:=x27) kr kr e27 kr<|Nat.le_of_ble_eq_true kr)<|dz0 (.own (oi 1 1) Y9 0 u0.length)<|dz0 (ai<|wI<|(u0.length:Int) - 1)<|ds0 (.elt (oi 1 1) ((wI<|(u0.length:Int) - 1).toNat) 0) (zo (t:=Y9) (o:=oi 1 1) (len:=u0.length) (k:=.i64) (m:=wI<|(u0.length:Int) - 1) p28<|Ai e28)<|dsl (.agg [ai x29.1,ai x29.2.1,.ftr nz_ sI x29.2.2]) (Om (o:=oi 1 1) (k:=0) (e1:=30) (N:=List.length u0) (t:=Y9) (m:=some nz_) (xs:=u0) (z:=x29) kr kr e29 kr<|Nat.le_of_ble_eq_true kr)<|M7 (.agg [ai y30.1,ai y30.2.1,.ftr nz_ sI y30.2.2]) [] [ai bA,.agg [ai x27.1,ai x27.2.1,.ftr nz_ sI x27.2.2],.agg [ai x29.1,ai x29.2.1,.ftr nz_ sI x29.2.2]] _ (caps:=[]) (args0:=[ai bA,.agg [ai x27.1,ai x27.2.1,tS x27.2.2],.agg [ai x29.1,ai x29.2.1,tS x29.2.2]]) trivial kr (F1 hz_<|Uc h30) kr<|Ajw (.own (oi 64 32) Y9 0 1) (oi 64 32) (.vec 30 3 1<|tvC (some nz_) Y9<|[y30]) trivial (Co kr)<|ds2 (.own (oi 1 33) Y9 0<|(wI<|(wI<|(u0.length:Int) - 1) - 1).toNat+1) (oi 1 1) (oi 1 33) (.vec 30 3 ((wI<|(wI<|(u0.length:Int) - 1) - 1).toNat+1)<|tvC (some nz_) Y9<|u0.take ((wI<|(wI<|(u0.length:Int) - 1) - 1).toNat)++[y30]) (Q3 (o:=oi 1 1) (q:=oi 64 32) (e2:=30) (t:=Y9) (t':=Y9) (t2:=Y9) (len:=(wI<|(wI<|(u0.length:Int) - 1) - 1).toNat) (N:=u0.length) (m:=some nz_) (xs:=u0) (z:=y30) kr kr rfl kr kr g31) ?_;refine dz0 (.own (oi 1 33) Y9 0<|(wI<|(wI<|(u0.length:Int) - 1) - 1).toNat+1)<|Cb (As kr)<|bn_<|bn_<|tn_ ?_;cases h;exact (Bv (N:=(wI<|(wI<|(u0.length:Int) - 1) - 1).toNat+1) (oi 1 33) 30 (some nz_) Y9 (u0.take ((wI<|(wI<|(u0.length:Int) - 1) - 1).toNat)++[y30]) kr<|Kk rfl g31).trans<|(wL 5 ((Kk rfl g31):(wI<|(wI<|(u0.length:Int) - 1) - 1).toNat+1=(u0.take ((wI<|(wI<|(u0.length:Int) - 1) - 1).toNat)++[y30]).length)).trans<|Ag [(oi 1 1,oi 1 33)]
    refine Aa 24<|rsT 3 (rcH h (fun h=>F1 hz_<|Ot h) fun y32 h=>Hd (.own (oi 26 21) Y9 0 1) (oi 26 21) (.vec 30 3 1<|tvC (some nz_) Y9<|[y32]) trivial (Co kr) ?_);have ⟨g33,h⟩:=Aj h;refine rs2 (.own (oi 1 22) Y9 0<|u0.length+1) (oi 1 1) (oi 1 22) (.vec 30 3 (u0.length+1)<|tvC (some nz_) Y9<|u0++[y32]) (Mw (t':=Y9) (t:=Y9) (t2:=Y9) (e2:=30) (q:=oi 26 21) (m:=some nz_) (z:=y32) (o:=oi 1 1) (xs:=u0) (len:=u0.length) kr kr rfl kr kr g33)<|rsT 1<|Ao<|bn_<|bn_<|tn_ ?_;cases h;exact (Bv (N:=u0.length+1) (oi 1 22) 30 (some nz_) Y9 (u0++[y32]) kr fS).trans<|(wL 5 (fS:u0.length+1=(u0++[y32]).length)).trans<|Ag [(oi 1 1,oi 1 22)]
   intro u4 h
   (try dsimp only at h);refine Aa 4 ?_;have ⟨g34,h⟩:=Aj h;exact zA g34<|rsT 1<|Ao<|tn_<|jL []
  have q8_:=of_decide_eq_false q8;refine lxT ?_;have h:=jO h hn5
  (try dsimp only at h);exact jE []
 intro u2 h
 (try dsimp only at h);refine Ab<|Aa 6<|rsT 1 ?_;have ⟨x36,e36,h⟩:=Ah h;exact rs0 (.elt (oi 1 1) 0 0) (Te (t:=Y9) (o:=oi 1 1) (len:=u2.length) (k:=.i64) (m:=0) kr kr rfl (by decide) rfl<|Ai e36)<|rsl (.agg [ai x36.1,ai x36.2.1,.ftr nz_ sI x36.2.2]) (Om (o:=oi 1 1) (k:=0) (e1:=30) (N:=List.length u2) (t:=Y9) (m:=some nz_) (xs:=u2) (z:=x36) kr kr e36 kr<|Nat.le_of_ble_eq_true kr)<|rsB 1<|rnW<|Ac<|jZ h [(true,[ai x36.1,ai x36.2.1,.ftr nz_ sI x36.2.2])]<|Ek (Aw Cd<|Aw Cd<|Aw (B0 .ftr) Ei) Cs
def Hz(a0:ByteArray)(u0:Int)(u1:List (ByteArray×(List ZB)×Int×Int×LL)):Option (Int×Int×LL):=
 (Il u1 a0).bind fun y3=>
(Do u0 y3.2.1).bind fun y4=>
some (y4.1,y4.2.1,y4.2.2)
theorem Aak(h:Hz gA bA pA=some qA):cK 75 [.str gA,.ref [ai bA],.ref [.tree Yg pA]] (C0 qA):=by
 refine cZ Tryz.func75 fun zn_ nz_ hz_=>Ae<|Ab<|Al 9<|dsT 3 ?_
 have ⟨y3,h3,h⟩:=Ah h;exact Aga (.agg [.str y3.1,.tree Y8 y3.2.1,ai y3.2.2.1,ai y3.2.2.2.1,tS y3.2.2.2.2]) [] [.tree Yg pA,.str gA] _ (caps:=[]) trivial (Hi<|Tj h3) kr<|dz0 (.agg [.tree Y8 y3.2.1]) (dcH h (fun h=>F1 hz_<|Ads h) fun y4 h=>J4 (oi 4 1) (oi 4 1) (.cells 30 [ai y4.1,ai y4.2.1,.ftr nz_ sI y4.2.2]) kr<|Cb (As kr)<|tn_<|wr_<|Ac<|jZ h [(true,[ai y4.1,ai y4.2.1,.ftr nz_ sI y4.2.2])]<|Ek (Aw Cd<|Aw Cd<|Aw (B0 .ftr) Ei) Cs)
def Bu(u2:List ZB)(a0 u3:Int)(u4:List (ByteArray×(List ZB)×Int×Int×LL))(u1:Nat)(u0:List (Int×Int×LL)):Option (Ctl (Nat×(List (Int×Int×LL))) (List (Int×Int×LL))):=
 cond (decide ((u1:Int)<(u2.length:Int)))
 (((u2[u1]?).bind fun x12=>
  cond (x12.1==15)
   (og ((0:Int)<=0/\0<=wI ((wI ((u0.length:Int) - 1)) - 1)/\wI ((wI ((u0.length:Int) - 1)) - 1)<=(u0.length:Int))<|
   (Bz u0 (wI ((wI ((u0.length:Int) - 1)) - 1))).bind fun x18=>
   (Bz u0 (wI ((wI ((u0.length:Int) - 1)) - 1))).bind fun x19=>
   (Bz u0 (wI ((u0.length:Int) - 1))).bind fun x20=>
   (Bz u0 (wI ((u0.length:Int) - 1))).bind fun x21=>
   (F4 a0 x19.1 x19.2.1 x19.2.2 x21.1 x21.2.1 x21.2.2).bind fun y22=>
   og ((wI ((wI ((u0.length:Int) - 1)) - 1)).toNat<=u0.length/\(wI ((wI ((u0.length:Int) - 1)) - 1)).toNat+1<=1073741824/\((wI ((wI ((u0.length:Int) - 1)) - 1)).toNat+1)*40<=140737488355328)<|
   some (u0.take ((wI ((wI ((u0.length:Int) - 1)) - 1)).toNat)++[y22]))
   (cond (x12.1==16)
    (og ((0:Int)<=0/\0<=wI ((wI ((u0.length:Int) - 1)) - 1)/\wI ((wI ((u0.length:Int) - 1)) - 1)<=(u0.length:Int))<|
    (Bz u0 (wI ((wI ((u0.length:Int) - 1)) - 1))).bind fun x27=>
    (Bz u0 (wI ((wI ((u0.length:Int) - 1)) - 1))).bind fun x28=>
    (Bz u0 (wI ((u0.length:Int) - 1))).bind fun x29=>
    (Bz u0 (wI ((u0.length:Int) - 1))).bind fun x30=>
    (H8 a0 x28.1 x28.2.1 x28.2.2 x30.1 x30.2.1 x30.2.2).bind fun y31=>
    og ((wI ((wI ((u0.length:Int) - 1)) - 1)).toNat<=u0.length/\(wI ((wI ((u0.length:Int) - 1)) - 1)).toNat+1<=1073741824/\((wI ((wI ((u0.length:Int) - 1)) - 1)).toNat+1)*40<=140737488355328)<|
    some (u0.take ((wI ((wI ((u0.length:Int) - 1)) - 1)).toNat)++[y31]))
    (cond (x12.1==17)
     ((Hz x12.2.2 u3 u4).bind fun y35=>
     og (u0.length+1<=1073741824/\(u0.length+1)*40<=140737488355328)<|
     some (u0++[y35]))
     ((A6 a0 x12.1 x12.2.1 x12.2.2).bind fun y37=>
     og (u0.length+1<=1073741824/\(u0.length+1)*40<=140737488355328)<|
     some (u0++[y37]))))).bind fun u5=>
 og (u1+1<4611686018427387904)<|
 some (.next (u1+1,u5)))
 (some (.out u0))
def Dp(a0:Int)(u0:List ZB)(u1:Int)(u2:List (ByteArray×(List ZB)×Int×Int×LL)):Option (Int×Int×LL):=
 (Aq (fun s_:Nat×(List (Int×Int×LL))=>Bu u0 a0 u1 u2 s_.1 s_.2) 4611686018427387904 (0,[])).bind fun u3=>
(u3[0]?).bind fun x41=>
(Gj x41.2.2).bind fun y43=>
some (x41.1,x41.2.1,y43)
theorem L5(h:Dp bA hA bB pA=some qA):Ed Tryz.prog Tab 68 [ai bA,.agg [.tree Y8 hA],.fn 75 [.ref [ai bB],.ref [.tree Yg pA]]] [] (.agg [ai qA.1,ai qA.2.1,oS 1 1 qA.2.2.length]) [(oi 0 1,.cells 30 [ai qA.1,ai qA.2.1,oS 1 1 qA.2.2.length]),(oi 1 1,.mat 81 (oi 2 1) .int qA.2.2),(oi 2 1,.pool 3 .int qA.2.2)]:=by
 refine B8 kr Tryz.func68 (Ck kr) (n:=90) kr fS rfl kr trivial ⟨trivial,⟨⟨3,.tail _<|.tail _<|.head _⟩,⟨trivial,trivial⟩⟩⟩<|Ae<|Ab<|Aa 5<|Hd (.own (oi 12 3) Y9 0 0) (oi 12 3) (.vec 30 3 0<|tvC none Y9 []) trivial (Co kr)<|rsT 1<|Ao<|tn_ ⟨_,Bv (N:=0) (oi 12 3) 30 none Y9 [] kr rfl,sqF h (fun u4=>sT [(6,.box (oi 0 1) 0),(7,.own (oi 1 1) Y9 0 u4.length)] [(oi 0 1,.cells 30 [ai 0,ai 0,.nils]),(oi 1 1,.tv 30 none Y9 u4)]) ?_ ?_⟩
 ·intro _ h;refine Ae<|Ad<|lpF h (fun (u5,u0)=>sT [(0,ai bA),(2,.fn 75 [.ref [ai bB],.ref [.tree Yg pA]]),(6,.box (oi 0 1) 0),(7,.own (oi 1 1) Y9 0 u0.length),(14,.tree Y8 hA),(15,an hA.length),(16,an u5)] [(oi 0 1,.cells 30 [ai 0,ai 0,.nils]),(oi 1 1,.tv 30 none Y9 u0)]) (Ag [(oi 0 1,oi 6 2),(oi 1 1,oi 12 3)]) ?_;rintro n_ ⟨u5,u0⟩ c_ h hn6
  (try dsimp only at h);refine Ae<|Ab (kQ h (fun q9 h=>?_) fun q9 h=>?_)
  ·have q9_:=of_decide_eq_true q9;refine skW<|sqF h (fun u6=>sT [(0,ai bA),(2,.fn 75 [.ref [ai bB],.ref [.tree Yg pA]]),(6,.box (oi 0 1) 0),(7,.own (oi 1 1) Y9 0 u6.length),(14,.tree Y8 hA),(15,an hA.length),(16,an u5)] [(oi 0 1,.cells 30 [ai 0,ai 0,.nils]),(oi 1 1,.tv 30 none Y9 u6)]) ?_ ?_
   ·intro _ h;refine Ad<|Ab<|Aa 7 (riH Y8 h fun x12 _ h=>rsB 3<|rnW<|Ae<|Ae<|Ad<|Ae (kQ h (fun _ h=>?_) fun _ h=>?_))
    ·refine Al 33<|dz0 (.own (oi 1 1) Y9 0 u0.length)<|dz0 (ai<|wI<|(u0.length:Int) - 1)<|dz0 (ai<|wI<|(wI<|(u0.length:Int) - 1) - 1) ?_;have ⟨g17,h⟩:=Aj h;have ⟨x18,f18,h⟩:=Ah h;have ⟨p18,b18,e18⟩:=Ar f18;have ⟨x19,f19,h⟩:=Ah h;have ⟨p19,b19,e19⟩:=Ar f19;have ⟨x20,f20,h⟩:=Ah h;have ⟨p20,b20,e20⟩:=Ar f20;have ⟨x21,f21,h⟩:=Ah h;have ⟨p21,b21,e21⟩:=Ar f21;have ⟨y22,h22,h⟩:=Ah h;have ⟨g23,h⟩:=Aj h;refine ds0 (.own (oi 1 1) Y9 0<|(wI<|(wI<|(u0.length:Int) - 1) - 1).toNat) (E2 (t:=Y9) (i:=oi 1 1) (off:=0) (len:=u0.length) (l:=0) (h:=wI<|(wI<|(u0.length:Int) - 1) - 1) kr kr kr rfl g17 rfl oM)<|dsT 4<|ds0 (.elt (oi 1 1) ((wI<|(wI<|(u0.length:Int) - 1) - 1).toNat) 0) (zo (t:=Y9) (o:=oi 1 1) (len:=u0.length) (k:=.i64) (m:=wI<|(wI<|(u0.length:Int) - 1) - 1) p18<|Ai e18)<|dsl (.agg [ai x19.1,ai x19.2.1,tS x19.2.2]) (Om (o:=oi 1 1) (k:=0) (e1:=30) (N:=List.length u0) (t:=Y9) (m:=none) (xs:=u0) (z:=x19) kr kr e19 kr<|Nat.le_of_ble_eq_true kr)<|dz0 (.own (oi 1 1) Y9 0 u0.length)<|dz0 (ai<|wI<|(u0.length:Int) - 1)<|ds0 (.elt (oi 1 1) ((wI<|(u0.length:Int) - 1).toNat) 0) (zo (t:=Y9) (o:=oi 1 1) (len:=u0.length) (k:=.i64) (m:=wI<|(u0.length:Int) - 1) p20<|Ai e20)<|dsl (.agg [ai x21.1,ai x21.2.1,tS x21.2.2]) (Om (o:=oi 1 1) (k:=0) (e1:=30) (N:=List.length u0) (t:=Y9) (m:=none) (xs:=u0) (z:=x21) kr kr e21 kr<|Nat.le_of_ble_eq_true kr)<|dzc (.agg [ai y22.1,ai y22.2.1,tS y22.2.2]) [] [ai bA,.agg [ai x19.1,ai x19.2.1,tS x19.2.2],.agg [ai x21.1,ai x21.2.1,tS x21.2.2]] (R8 h22)<|Ajw (.own (oi 48 30) Y9 0 1) (oi 48 30) (.vec 30 3 1<|tvC none Y9<|[y22]) trivial (Co kr)<|ds2 (.own (oi 1 31) Y9 0<|(wI<|(wI<|(u0.length:Int) - 1) - 1).toNat+1) (oi 1 1) (oi 1 31) (.vec 30 3 ((wI<|(wI<|(u0.length:Int) - 1) - 1).toNat+1)<|tvC none Y9<|u0.take ((wI<|(wI<|(u0.length:Int) - 1) - 1).toNat)++[y22]) (Q3 (o:=oi 1 1) (q:=oi 48 30) (e2:=30) (t:=Y9) (t':=Y9) (t2:=Y9) (len:=(wI<|(wI<|(u0.length:Int) - 1) - 1).toNat) (N:=u0.length) (m:=none) (xs:=u0) (z:=y22) kr kr rfl kr kr g23) ?_;refine dz0 (.own (oi 1 31) Y9 0<|(wI<|(wI<|(u0.length:Int) - 1) - 1).toNat+1)<|Cb (As kr)<|bn_<|bn_<|tn_ ?_;cases h;exact (Bv (N:=(wI<|(wI<|(u0.length:Int) - 1) - 1).toNat+1) (oi 1 31) 30 none Y9 (u0.take ((wI<|(wI<|(u0.length:Int) - 1) - 1).toNat)++[y22]) kr<|Kk rfl g23).trans<|(wL 7 ((Kk rfl g23):(wI<|(wI<|(u0.length:Int) - 1) - 1).toNat+1=(u0.take ((wI<|(wI<|(u0.length:Int) - 1) - 1).toNat)++[y22]).length)).trans<|Ag [(oi 1 1,oi 1 31)]
    refine Ae (kQ h (fun _ h=>?_) fun _ h=>?_)
    ·refine Al 35<|dz0 (.own (oi 1 1) Y9 0 u0.length)<|dz0 (ai<|wI<|(u0.length:Int) - 1)<|dz0 (ai<|wI<|(wI<|(u0.length:Int) - 1) - 1) ?_;have ⟨g26,h⟩:=Aj h;have ⟨x27,f27,h⟩:=Ah h;have ⟨p27,b27,e27⟩:=Ar f27;have ⟨x28,f28,h⟩:=Ah h;have ⟨p28,b28,e28⟩:=Ar f28;have ⟨x29,f29,h⟩:=Ah h;have ⟨p29,b29,e29⟩:=Ar f29;have ⟨x30,f30,h⟩:=Ah h;have ⟨p30,b30,e30⟩:=Ar f30;have ⟨y31,h31,h⟩:=Ah h;have ⟨g32,h⟩:=Aj h;refine ds0 (.own (oi 1 1) Y9 0<|(wI<|(wI<|(u0.length:Int) - 1) - 1).toNat) (E2 (t:=Y9) (i:=oi 1 1) (off:=0) (len:=u0.length) (l:=0) (h:=wI<|(wI<|(u0.length:Int) - 1) - 1) kr kr kr rfl g26 rfl oM)<|dsT 4<|ds0 (.elt (oi 1 1) ((wI<|(wI<|(u0.length:Int) - 1) - 1).toNat) 0) (zo (t:=Y9) (o:=oi 1 1) (len:=u0.length) (k:=.i64) (m:=wI<|(wI<|(u0.length:Int) - 1) - 1) p27<|Ai e27)<|dsl (.agg [ai x28.1,ai x28.2.1,tS x28.2.2]) (Om (o:=oi 1 1) (k:=0) (e1:=30) (N:=List.length u0) (t:=Y9) (m:=none) (xs:=u0) (z:=x28) kr kr e28 kr<|Nat.le_of_ble_eq_true kr)<|dz0 (.own (oi 1 1) Y9 0 u0.length)<|dz0 (ai<|wI<|(u0.length:Int) - 1)<|ds0 (.elt (oi 1 1) ((wI<|(u0.length:Int) - 1).toNat) 0) (zo (t:=Y9) (o:=oi 1 1) (len:=u0.length) (k:=.i64) (m:=wI<|(u0.length:Int) - 1) p29<|Ai e29)<|dsl (.agg [ai x30.1,ai x30.2.1,tS x30.2.2]) (Om (o:=oi 1 1) (k:=0) (e1:=30) (N:=List.length u0) (t:=Y9) (m:=none) (xs:=u0) (z:=x30) kr kr e30 kr<|Nat.le_of_ble_eq_true kr)<|dzc (.agg [ai y31.1,ai y31.2.1,tS y31.2.2]) [] [ai bA,.agg [ai x28.1,ai x28.2.1,tS x28.2.2],.agg [ai x30.1,ai x30.2.1,tS x30.2.2]] (Uc h31)<|Ajw (.own (oi 67 32) Y9 0 1) (oi 67 32) (.vec 30 3 1<|tvC none Y9<|[y31]) trivial (Co kr)<|ds2 (.own (oi 1 33) Y9 0<|(wI<|(wI<|(u0.length:Int) - 1) - 1).toNat+1) (oi 1 1) (oi 1 33) (.vec 30 3 ((wI<|(wI<|(u0.length:Int) - 1) - 1).toNat+1)<|tvC none Y9<|u0.take ((wI<|(wI<|(u0.length:Int) - 1) - 1).toNat)++[y31]) (Q3 (o:=oi 1 1) (q:=oi 67 32) (e2:=30) (t:=Y9) (t':=Y9) (t2:=Y9) (len:=(wI<|(wI<|(u0.length:Int) - 1) - 1).toNat) (N:=u0.length) (m:=none) (xs:=u0) (z:=y31) kr kr rfl kr kr g32) ?_;refine dz0 (.own (oi 1 33) Y9 0<|(wI<|(wI<|(u0.length:Int) - 1) - 1).toNat+1)<|Cb (As kr)<|bn_<|bn_<|tn_ ?_;cases h;exact (Bv (N:=(wI<|(wI<|(u0.length:Int) - 1) - 1).toNat+1) (oi 1 33) 30 none Y9 (u0.take ((wI<|(wI<|(u0.length:Int) - 1) - 1).toNat)++[y31]) kr<|Kk rfl g32).trans<|(wL 7 ((Kk rfl g32):(wI<|(wI<|(u0.length:Int) - 1) - 1).toNat+1=(u0.take ((wI<|(wI<|(u0.length:Int) - 1) - 1).toNat)++[y31]).length)).trans<|Ag [(oi 1 1,oi 1 33)]
    refine Ae (kQ h (fun _ h=>?_) fun _ h=>?_)
    ·refine Aa 27<|rsT 4 ?_;have ⟨y35,h35,h⟩:=Ah h;refine R3 (.agg [ai y35.1,ai y35.2.1,tS y35.2.2]) [] [.str x12.2.2,.ref [ai bB],.ref [.tree Yg pA]] _ (caps:=[.ref [ai bB],.ref [.tree Yg pA]]) (args0:=[.str x12.2.2,.ref [ai bB],.ref [.tree Yg pA]]) trivial kr (Aak h35) kr<|Hd (.own (oi 76 24) Y9 0 1) (oi 76 24) (.vec 30 3 1<|tvC none Y9<|[y35]) trivial (Co kr) ?_;have ⟨g36,h⟩:=Aj h;refine rs2 (.own (oi 1 25) Y9 0<|u0.length+1) (oi 1 1) (oi 1 25) (.vec 30 3 (u0.length+1)<|tvC none Y9<|u0++[y35]) (Mw (t':=Y9) (t:=Y9) (t2:=Y9) (e2:=30) (q:=oi 76 24) (m:=none) (z:=y35) (o:=oi 1 1) (xs:=u0) (len:=u0.length) kr kr rfl kr kr g36)<|rsT 1<|Ao<|bn_<|bn_<|tn_ ?_;cases h;exact (Bv (N:=u0.length+1) (oi 1 25) 30 none Y9 (u0++[y35]) kr fS).trans<|(wL 7 (fS:u0.length+1=(u0++[y35]).length)).trans<|Ag [(oi 1 1,oi 1 25)]
    refine Aa 26<|rsT 3 (rcH h Ot fun y37 h=>Hd (.own (oi 29 23) Y9 0 1) (oi 29 23) (.vec 30 3 1<|tvC none Y9<|[y37]) trivial (Co kr) ?_);have ⟨g38,h⟩:=Aj h;refine rs2 (.own (oi 1 24) Y9 0<|u0.length+1) (oi 1 1) (oi 1 24) (.vec 30 3 (u0.length+1)<|tvC none Y9<|u0++[y37]) (Mw (t':=Y9) (t:=Y9) (t2:=Y9) (e2:=30) (q:=oi 29 23) (m:=none) (z:=y37) (o:=oi 1 1) (xs:=u0) (len:=u0.length) kr kr rfl kr kr g38)<|rsT 1<|Ao<|bn_<|bn_<|tn_ ?_;cases h;exact (Bv (N:=u0.length+1) (oi 1 24) 30 none Y9 (u0++[y37]) kr fS).trans<|(wL 7 (fS:u0.length+1=(u0++[y37]).length)).trans<|Ag [(oi 1 1,oi 1 24)]
   intro u6 h
   (try dsimp only at h);refine Aa 4 ?_;have ⟨g39,h⟩:=Aj h;exact zA g39<|rsT 1<|Ao<|tn_<|jL []
  have q9_:=of_decide_eq_false q9;refine lxT ?_;have h:=jO h hn6
  (try dsimp only at h);exact jE []
 intro u4 h
 (try dsimp only at h);refine Ab<|Aa 7<|rsT 1 ?_;have ⟨x41,e41,h⟩:=Ah h;refine rs0 (.elt (oi 1 1) 0 0) (Te (t:=Y9) (o:=oi 1 1) (len:=u4.length) (k:=.i64) (m:=0) kr kr rfl (by decide) rfl<|Ai e41)<|rsl (.agg [ai x41.1,ai x41.2.1,tS x41.2.2]) (Om (o:=oi 1 1) (k:=0) (e1:=30) (N:=List.length u4) (t:=Y9) (m:=none) (xs:=u4) (z:=x41) kr kr e41 kr<|Nat.le_of_ble_eq_true kr)<|rsB 2<|rnW<|Ab<|Al 16<|dsT 6 (dcM h [] [tS x41.2.2] Qb trivial (aR kr) (Bb kr kr trivial) (Ajg kr) fun y43 h=>dz0 (.agg [ai x41.1,ai x41.2.1,oS 1408 13 y43.length])<|J4 (oi 0 1) (oi 0 1) (.cells 30 [ai x41.1,ai x41.2.1,oS 1408 13 y43.length]) kr<|Cb ⟨Zz kr,⟨Zz kr,trivial⟩⟩<|tn_<|wr_<|Ac ?_);cases h;exact E4 [.agg [ai x41.1,ai x41.2.1,oS 1 1 y43.length]]<|Ag (tl:=[(6,.box (oi 0 1) 0)]) (g:=2) [(oi 1 1,oi 1408 13),(oi 2 1,oi 1409 13)]
def Oc(a0:Int)(a1:List (ByteArray×(List ZB)×Int×Int×LL))(u0:List ZB):Option (Int×Int×LL):=
 (Dp a0 u0 a0 a1).bind fun y4=>
some (y4.1,y4.2.1,y4.2.2)
theorem Ad1(h:Oc bA pA hA=some qA):Ed Tryz.prog Tab 40 [ai bA,.tree Yg pA,.agg [.tree Y8 hA]] [] (.agg [ai qA.1,ai qA.2.1,oS 1 1 qA.2.2.length]) [(oi 0 1,.cells 30 [ai qA.1,ai qA.2.1,oS 1 1 qA.2.2.length]),(oi 1 1,.mat 81 (oi 2 1) .int qA.2.2),(oi 2 1,.pool 3 .int qA.2.2)]:=by
 refine B8 kr Tryz.func40 (Ck kr) (n:=11) kr fS rfl kr trivial ⟨trivial,⟨⟨3,.tail _<|.tail _<|.head _⟩,⟨trivial,trivial⟩⟩⟩<|Ae<|Ab<|Aa 10<|rsT 3 (rcM h [] [ai bA,.agg [.tree Y8 hA],.fn 75 [.box (oi 3 1) 0,.box (oi 4 2) 0]] L5 trivial (.cons (.ren kr)<|.cons (.ren kr)<|.cons (.gnd kr<|Asg<|Au (Afr (ty:=3) (cs:=[ai bA]) (es:=[ai bA]) ((K6 kr kr kr).trans kr) kr<|Au kr Dm)<|Au (Afr (ty:=33) (cs:=[.tree Yg pA]) (es:=[.tree Yg pA]) ((K6 kr kr kr).trans kr) kr<|Au kr Dm) Dm) .nil) (Bb kr kr trivial) fun y4 h=>rsB 1<|rnW<|Ac ?_);cases h;exact E4 [.agg [ai y4.1,ai y4.2.1,oS 1 1 y4.2.2.length]]<|Ag (tl:=[(6,.box (oi 0 1) 0)]) (g:=2) [(oi 0 1,oi 6 4),(oi 1 1,oi 161 8),(oi 2 1,oi 162 8)]
def Ld(a0:Int)(a1:List (ByteArray×(List ZB)×Int×Int×LL))(u0:List ZB):Option (Bool×Int×Int×LL):=
 (La a0 a1 u0).bind fun y5=>
cond (!y5)
 (some (false,0,0,([]:LL)))
 ((Oc a0 a1 u0).bind fun y9=>
 some (true,y9.1,y9.2.1,y9.2.2))
theorem Zq(h:Ld bA pA hA=some vA):Ed Tryz.prog Tab 20 [ai bA,.tree Yg pA,.agg [.tree Y8 hA]] [] (.tup [.agg [ai vA.2.1,ai vA.2.2.1,oS 1 1 vA.2.2.2.length],.bool vA.1]) [(oi 0 1,.cells 30 [ai vA.2.1,ai vA.2.2.1,oS 1 1 vA.2.2.2.length]),(oi 1 1,.mat 81 (oi 2 1) .int vA.2.2.2),(oi 2 1,.pool 3 .int vA.2.2.2)]:=by
 exact B8 kr Tryz.func20 (Ck kr) (n:=18) kr fS rfl kr trivial ⟨trivial,⟨⟨3,.tail _<|.tail _<|.head _⟩,⟨trivial,trivial⟩⟩⟩<|Ae<|Ab<|Ab<|Aa 9<|rsT 3 (rcH h Aaf fun y5 h=>rsT 1<|rnW (kQ h (fun _ h=>Ae<|Ac<|tr_ (by obtain rfl:=osj h;exact E4 [.agg [ai 0,ai 0,oS 1 1 ((([]:LL)).length)],.bool false]<|(Oy 9000 (oi 6 2) 2 30 [ai 0,ai 0,.nils] [ai 0,ai 0,oS 9000 12 0] 81 sI kr kr kr).trans<|(Dv (e1:=81) (n:=0) 9000 (oi 9000 12) 3 .int kr kr rfl kr kr).trans<|Ag (tl:=[(6,.box (oi 0 1) 0),(7,.bool false)]) (g:=2) [(oi 0 1,oi 6 2),(oi 1 1,oi 9000 12),(oi 2 1,oi 9000 13)])) fun _ h=>skW<|Ab<|Aa 15<|rsT 3 (rcM h [] [ai bA,.tree Yg pA,.agg [.tree Y8 hA]] Ad1 trivial (aR kr) (Bb kr kr trivial) fun y9 h=>rsB 2<|rnW<|Ac (by obtain rfl:=osj h;exact E4 [.agg [ai y9.1,ai y9.2.1,oS 1 1 y9.2.2.length],.bool true]<|Ag (tl:=[(6,.box (oi 0 1) 0),(7,.bool true)]) (g:=2) [(oi 0 1,oi 6 2),(oi 1 1,oi 273 12),(oi 2 1,oi 274 12)]))))
end
section
set_option maxHeartbeats 1000000 in
theorem Zy{R2:NP}(x0:Int)(x1:Int)(x2:ZA)(A2:Option Addr)(c2:Nat)(l2:List Addr)(k:Int)(lo:Nat)(w:World)(s2:Sl R2 w (.slice .int) A2 c2 x2 l2)(hf:Fresh w lo (l2))(hk:0<=k/\k+(l2).length<=9223372036854775807):
  Calls Tryz.prog 17 #[.agg #[.int .i64 x0,.int .i64 x1,.slice A2 x2.length c2],.int .i64 k] w fun e w'=>e=.returned (.int .i64 (k+(l2).length))/\MarkedAs (l2) k w w':=by
 have hb0:Below w.heap.size w (w.alloc<|.cells #[.int .i64 x0,.int .i64 x1,.slice A2 x2.length c2] 30):=fG
 have f0:=hf.below hb0;have hbx:w.heap.size<(w.alloc<|.cells #[.int .i64 x0,.int .i64 x1,.slice A2 x2.length c2] 30).heap.size:=by simp
 have s2_0:=Be s2 hb0;have g0:∀ p∈(l2),p.block<w.heap.size:=fun p hp=>(hf.2 p hp).2.1
 go_enter Tryz.func17,Tryz.ntmps17
 go_wp2_with fail
 refine (We x2 A2 c2 l2 (k) lo _ s2_0 f0 oM).mono ?_;rintro e w1 ⟨rfl,m1⟩;have hz1:=m1.size
 go_wp2_with fail
 go_ret
 exact ⟨Vp (by rfl),MarkedAs.after hb0 m1 g0⟩
set_option maxHeartbeats 1000000 in
theorem Rz{R2:NP}(x0:Int)(x1:Int)(x2:ZA)(A2:Option Addr)(c2:Nat)(l2:List Addr)(k:Int)(w:World)(s2:Sl R2 w (.slice .int) A2 c2 x2 l2)(hh:HeldAs (l2) k w)(hk:0<=k/\k+(l2).length<=9223372036854775807):
  Calls Tryz.prog 18 #[.agg #[.int .i64 x0,.int .i64 x1,.slice A2 x2.length c2],.int .i64 k] w fun e w'=>e=.returned (.int .i64 (k+(l2).length))/\Below w.heap.size w w':=by
 have h2:=hh
 go_enter Tryz.func18,Tryz.ntmps18
 go_wp2_with fail
 (refine (Agl x2 A2 c2 l2 (k) _ (by exact Be s2 fG) (by exact h2.below fG) oM).mono ?_;rintro e w1 ⟨rfl,hb_w1⟩;have ⟨hc_w1,hf_w1⟩:=Hg hb_w1;have hz_w1:=hb_w1.size;(try simp at hz_w1);have hl_w1_0:w.heap.size<w1.heap.size:=oM);go_wp2_with fail
 go_ret
 exact ⟨Vp (by rfl),by repeat (first|with_reducible exact Below.refl _ _|((with_reducible refine Below.setCell ?_ ?_ _);rotate_left;exact fO)|((with_reducible refine Below.alloc ?_ ?_ _);rotate_left;exact fO)|(with_reducible refine Below.drew ?_)|(with_reducible refine below_draws_ ?_ _)|((with_reducible refine Below.trans ?_ (Below.mono hb_w1 ?_));rotate_left;exact fO))⟩
theorem Sz{R:NP}(xs:List Nd)(A:Option Addr)(c:Nat)(l:List Addr)(w:World)(s:Sl R w Uk A c xs l)(hn:xs.length<=1048576)(tab:Tab w):
  Calls Tryz.prog 10 #[.agg #[.slice A xs.length c]] w fun e w'=>∃ B d m,e=.returned (.agg #[.slice B xs.length d])/\Sl (L4 w.heap.size) w' Uk B d xs m/\Fresh w' w.heap.size m/\Below w.heap.size w w':=by
 refine (T9 (by unfold Nr;rw[Ag0 xs oM];rfl) w (fun _=>True) [.agg #[.slice A xs.length c]] (fun _ hb=>tab.below hb) ⟨_,_,rfl,⟨_,rfl,⟨_,_,rfl,⟨A,c,l,rfl,Li s⟩,rfl⟩⟩,rfl⟩).mono ?_;rintro e w' ⟨u,rfl,hb,hv⟩;obtain ⟨us,ls,ho,hf,rfl⟩:=RV.out_of hv rfl;obtain ⟨B,d,m,us',l',rfl,rfl,t,rfl,rfl⟩:=ho;exact ⟨B,d,m,rfl,t,by simpa using hf,hb⟩
theorem Ai9{R:NP}(xs:List Nd)(A:Option Addr)(c:Nat)(l:List Addr)(k:Int)(lo:Nat)(w:World)(s:Sl R w Uk A c xs l)(hf:Fresh w lo l)(hk:0<=k/\k+l.length<=9223372036854775807){w0:World}(tab:Tab w0)(hb0:Below w0.heap.size w0 w)(hlo:w0.heap.size<=lo):
  Calls Tryz.prog 16 #[.agg #[.slice A xs.length c],.int .i64 k] w fun e w'=>e=.returned (.int .i64 (k+l.length))/\MarkedAs l k w w':=by
 have hb1:Below w.heap.size w (w.alloc<|.cells #[.slice A xs.length c] 37):=bw;have f0:=hf.below hb1;have hbx:w.heap.size<(w.alloc<|.cells #[.slice A xs.length c] 37).heap.size:=by simp
 have s0:=Be s hb1;have g0:∀ p∈l,p.block<w.heap.size:=fun p hp=>(hf.2 p hp).2.1
 have hb2:Below w0.heap.size w0 (w.alloc<|.cells #[.slice A xs.length c] 37):=hb0.trans<|hb1.mono hb0.size
 go_enter Tryz.func16,Tryz.ntmps16
 go_wp2_with fail
 refine (Wa xs A c l k lo _ s0 f0 hk tab hb2 hlo).mono ?_;rintro e w1 ⟨rfl,m1⟩;have hz1:=m1.size
 go_wp2_with fail
 go_ret
 exact ⟨rfl,MarkedAs.after hb1 m1 g0⟩
theorem Aag{R R':NP}(p:Int)(l:List Cp)(A:Option Addr)(c:Nat)(ll:List Addr)(xs:List Nd)(B:Option Addr)(d:Nat)(m:List Addr)(w:World)(s1:Sl R w Ac7 A c l ll)(s2:Sl R' w Uk B d xs m){V:Bool×Int×Int×ZA}(h:Lc p l xs=some V)(tab:Tab w):
  Calls Tryz.prog 19 #[.int .i64 p,.slice A l.length c,.agg #[.slice B xs.length d]] w fun e w'=>∃ A' c' l',e=.returned (.tuple #[.agg #[.int .i64 V.2.1,.int .i64 V.2.2.1,.slice A' V.2.2.2.length c'],.bool V.1])/\Sl (L4 w.heap.size) w' (.slice .int) A' c' V.2.2.2 l'/\Below w.heap.size w w':=by
 refine (Vt (vs:=[.int .i64 p,.slice A l.length c,.agg #[.slice B xs.length d]]) (Aaw h) (fun _ hb=>tab.below hb) ⟨_,_,rfl,rfl,⟨_,_,rfl,⟨A,c,ll,rfl,Li s1⟩,⟨_,_,rfl,⟨_,rfl,⟨_,_,rfl,⟨B,d,m,rfl,Li s2⟩,rfl⟩⟩,rfl⟩⟩⟩).mono ?_;rintro e w' ⟨u,rfl,hb,C',hm,hv⟩;obtain ⟨_,rfl,_,_,rfl,⟨_,rfl,v0,_,rfl,rfl,v1,_,rfl,rfl,v2,_,rfl,h2,rfl⟩,vb,_,rfl,rfl,rfl⟩:=hv;obtain ⟨B2,d2,m2,rfl,t2,f2⟩:=Aaj hm rfl (fun k xs hx=>Afl hx rfl) h2;exact ⟨B2,d2,m2,rfl,t2,hb⟩
theorem Rv{R R':NP}(p:Int)(l:List Cp)(A:Option Addr)(c:Nat)(ll:List Addr)(xs:List Nd)(B:Option Addr)(d:Nat)(m:List Addr)(w:World)(s1:Sl R w Ac7 A c l ll)(s2:Sl R' w Uk B d xs m){V:Bool×Int×Int×ZA}(h:Ld p l xs=some V)(tab:Tab w):
  Calls Tryz.prog 20 #[.int .i64 p,.slice A l.length c,.agg #[.slice B xs.length d]] w fun e w'=>∃ A' c' l',e=.returned (.tuple #[.agg #[.int .i64 V.2.1,.int .i64 V.2.2.1,.slice A' V.2.2.2.length c'],.bool V.1])/\Sl (L4 w.heap.size) w' (.slice .int) A' c' V.2.2.2 l'/\Fresh w' w.heap.size l'/\Below w.heap.size w w':=by
 refine (Vt (vs:=[.int .i64 p,.slice A l.length c,.agg #[.slice B xs.length d]]) (Zq h) (fun _ hb=>tab.below hb) ⟨_,_,rfl,rfl,⟨_,_,rfl,⟨A,c,ll,rfl,Li s1⟩,⟨_,_,rfl,⟨_,rfl,⟨_,_,rfl,⟨B,d,m,rfl,Li s2⟩,rfl⟩⟩,rfl⟩⟩⟩).mono ?_;rintro e w' ⟨u,rfl,hb,C',hm,hv⟩;obtain ⟨_,rfl,_,_,rfl,⟨_,rfl,v0,_,rfl,rfl,v1,_,rfl,rfl,v2,_,rfl,h2,rfl⟩,vb,_,rfl,rfl,rfl⟩:=hv;obtain ⟨B2,d2,m2,rfl,t2,f2⟩:=Aaj hm rfl (fun k xs hx=>Afl hx rfl) h2;exact ⟨B2,d2,m2,rfl,t2,f2.fresh,hb⟩
end
section
def Cg(p a b:Int):Prop:=∃ q,a=b+p*q
section
variable{p a b c d:Int}
theorem Cg.rf:Cg p a a:=⟨0,by simp⟩
theorem Cg.of(h:a=b):Cg p a b:=h▸Cg.rf
theorem Cg.symm(h:Cg p a b):Cg p b a:=by obtain ⟨q,rfl⟩:=h;exact ⟨-q,by grind⟩
theorem Cg.trans(h1:Cg p a b)(h2:Cg p b c):Cg p a c:=by obtain ⟨q,rfl⟩:=h1;obtain ⟨r,rfl⟩:=h2;exact ⟨q+r,by grind⟩
theorem Cg.add(h1:Cg p a b)(h2:Cg p c d):Cg p (a+c) (b+d):=by obtain ⟨q,rfl⟩:=h1;obtain ⟨r,rfl⟩:=h2;exact ⟨q+r,by grind⟩
theorem Cg.mul(h1:Cg p a b)(h2:Cg p c d):Cg p (a*c) (b*d):=by obtain ⟨q,rfl⟩:=h1;obtain ⟨r,rfl⟩:=h2;exact ⟨q*d+b*r+p*q*r,by grind⟩
theorem Cg.md:Cg p (a % p) a:=⟨-(a / p),by have:=Int.emod_add_mul_ediv a p;grind⟩
theorem Cg.to(h:Cg p a b):a % p=b % p:=by obtain ⟨q,rfl⟩:=h;rw[Int.add_mul_emod_self_left]
theorem Cg.fr(h:a % p=b % p):Cg p a b:=(Cg.md.symm.trans (Cg.of h)).trans Cg.md
theorem Cg.eq(h:Cg p a b)(h1:0<=a/\a<p)(h2:0<=b/\b<p):a=b:=by
 have:=h.to
 rwa [Int.emod_eq_of_lt h1.1 h1.2,Int.emod_eq_of_lt h2.1 h2.2]at this
end
def sm:Nat->(Nat->Int)->Int
 | 0,_=>0
 | k+1,f=>sm k f+f k
section
variable{p:Int}{f g:Nat->Int}
theorem O9:∀{k:Nat},(∀ i,i<k->Cg p (f i) (g i))->Cg p (sm k f) (sm k g)
 | 0,_=>Cg.rf
 | k+1,h=>(O9 fun i hi=>h i oM).add (h k oM)
theorem Zd:∀{k:Nat},(∀ i,i<k->f i=g i)->sm k f=sm k g
 | 0,_=>rfl
 | k+1,h=>by unfold sm;rw[Zd fun i hi=>h i oM,h k oM]
theorem T7:∀{k:Nat},sm k (fun i=>f i+g i)=sm k f+sm k g
 | 0=>rfl
 | k+1=>by unfold sm;rw[T7];dsimp only;omega
theorem Wp{a:Int}:∀{k:Nat},sm k (fun i=>a*f i)=a*sm k f
 | 0=>by simp[sm]
 | k+1=>by unfold sm;rw[Wp];grind
theorem Nx:∀{k:Nat},(∀ i,i<k->f i=0)->sm k f=0
 | 0,_=>rfl
 | k+1,h=>by unfold sm;rw[Nx fun i hi=>h i oM,h k oM];rfl
theorem Rd{t:Nat}:∀{k:Nat},t<k->(∀ i,i<k->i≠t->f i=0)->sm k f=f t
 | 0,h,_=>by omega
 | k+1,h,h0=>by
  unfold sm;by_cases e:t=k
  ·subst e;rw[Nx fun i hi=>h0 i oM oM];omega
  ·rw[Rd (t:=t) oM fun i hi=>h0 i oM,h0 k oM oM];omega
end
def en(m:ZA)(i j:Nat):Int:=(m.getD i []).getD j 0
inductive D2(p:Int)(n:Nat)(m:ZA):(Nat->Int)->Prop
 | zero {f:Nat->Int}:(∀ j,j<n->Cg p (f j) 0)->D2 p n m f
 | add {f g:Nat->Int} (i:Nat) (k:Int):i<m.length->D2 p n m g->(∀ j,j<n->Cg p (f j) (g j+k*en m i j))->D2 p n m f
section
variable{p:Int}{n:Nat}{m m':ZA}{f g:Nat->Int}
theorem Dk{i:Nat}(h:i<m.length):D2 p n m (en m i):=.add i 1 h (.zero (f:=fun _=>0) fun _ _=>Cg.rf) fun _ _=>Cg.of oM
theorem Fy(h:D2 p n m f)(hf:∀ j,j<n->Cg p (g j) (f j)):D2 p n m g:=by
 cases h with
 | zero h=>exact .zero fun j hj=>(hf j hj).trans<|h j hj
 | add i k hi h hs=>exact .add i k hi h fun j hj=>(hf j hj).trans<|hs j hj
theorem Uw(h:D2 p n m f)(hg:D2 p n m g):D2 p n m (fun j=>f j+g j):=by
 induction hg with
 | zero h0=>exact Fy h fun j hj=>(Cg.rf.add<|h0 j hj).trans<|Cg.of oM
 | add i k hi _ hs ih=>exact .add i k hi ih fun j hj=>(Cg.rf.add<|hs j hj).trans<|Cg.of oM
theorem Oj(a:Int)(h:D2 p n m f):D2 p n m (fun j=>a*f j):=by
 induction h with
 | zero h0=>exact .zero fun j hj=>(Cg.rf.mul<|h0 j hj).trans<|Cg.of oM
 | add i k hi _ hs ih=>exact .add i (a*k) hi ih fun j hj=>(Cg.rf.mul<|hs j hj).trans<|Cg.of (by grind)
theorem Vx(h:∀ i,i<m.length->D2 p n m' (en m i))(hf:D2 p n m f):D2 p n m' f:=by
 induction hf with
 | zero h0=>exact .zero h0
 | add i k hi _ hs ih=>exact Fy (Uw ih<|Oj k<|h i hi) hs
theorem Ajm{F:Nat->Nat->Int}:∀{k:Nat},(∀ i,i<k->D2 p n m (F i))->D2 p n m (fun j=>sm k fun i=>F i j)
 | 0,_=>.zero fun _ _=>Cg.rf
 | k+1,h=>Uw (Ajm fun i hi=>h i oM) (h k oM)
structure Ru(c r:Nat)(m:ZA)(pv:Nat->Nat):Prop where
 rl:r<=m.length
 lt:∀ i,i<r->pv i<c
 mono:∀ i k,i<k->k<r->pv i<pv k
 low:∀ i,i<r->∀ j,j<pv i->en m i j=0
 one:∀ i,i<r->en m i (pv i)=1
 zero:∀ i,i<r->∀ k,k≠i->en m k (pv i)=0
 tail:∀ i,r<=i->∀ j,j<c->en m i j=0
theorem Ss{i j:Nat}(h:m.length<=i):en m i j=0:=by
 unfold en;rw[gDg (l:=m),getElem?_eq_none h];rfl
theorem Ar4{pv:Nat->Nat}(h:Ru n m.length m pv)(hs:D2 p n m f):∀ j,j<n->Cg p (f j) (sm m.length fun i=>f (pv i)*en m i j):=by
 induction hs with
 | zero h0=>
  intro j hj;refine (h0 j hj).trans ?_;refine Cg.symm<|(O9 (g:=fun _=>0) fun i hi=>?_).trans<|Cg.of (Nx fun _ _=>rfl);exact ((h0 _<|h.lt i hi).mul Cg.rf).trans<|Cg.of oM
 | @add f g t k ht _ hs ih=>
  intro j hj;refine (hs j hj).trans<|((ih j hj).add Cg.rf).trans ?_
  have e:sm m.length (fun i=>(g (pv i)+k*en m t (pv i))*en m i j)=sm m.length (fun i=>g (pv i)*en m i j)+k*en m t j:=by
   rw[Zd (g:=fun i=>g (pv i)*en m i j+k*(en m t (pv i)*en m i j)) fun i _=>by grind,T7 (f:=fun i=>g (pv i)*en m i j),Wp (f:=fun i=>en m t (pv i)*en m i j),Rd (f:=fun i=>en m t (pv i)*en m i j) ht fun i hi hne=>by rw[h.zero i hi t (Ne.symm hne)];omega,h.one t ht,Int.one_mul]
  rw[← e];exact (O9 fun i hi=>(hs _<|h.lt i hi).mul Cg.rf).symm
theorem Apv{pv:Nat->Nat}(h:Ru n m.length m pv)(hs:D2 p n m f){q:Nat}(hq:q<n)(h0:∀ j,j<q->Cg p (f j) 0)(h1:¬ Cg p (f q) 0):∃ i,i<m.length/\pv i=q:=by
 refine Classical.byContradiction fun hn=>h1 ?_
 refine (Ar4 h hs q hq).trans<|(O9 (g:=fun _=>0) fun i hi=>?_).trans<|Cg.of (Nx fun _ _=>rfl);rcases Nat.lt_trichotomy (pv i) q with hlt|he|hgt
 ·exact ((h0 _ hlt).mul Cg.rf).trans<|Cg.of oM
 ·exact (hn ⟨i,hi,he⟩).elim
 ·exact Cg.of (by rw[h.low i hi q hgt];omega)
theorem Apf{u v:Nat->Nat}{k l:Nat}(hu:∀ i j,i<j->j<k->u i<u j)(hv:∀ i j,i<j->j<l->v i<v j)(h1:∀ i,i<k->∃ t,t<l/\v t=u i)(h2:∀ i,i<l->∃ t,t<k/\u t=v i):
  ∀ i,i<k->i<l->u i=v i:=by
 intro i
 induction i using Nat.strongRecOn with
 | _ i ih=>
  intro hk hl;have ⟨t,ht,e⟩:=h1 i hk;have ⟨s,hs,e'⟩:=h2 i hl
  have a1:v i<=u i:=by
   rcases Nat.lt_trichotomy t i with hlt|he|hgt
   ·have:=ih t hlt oM ht;have:=hu t i hlt hk;omega
   ·subst he;omega
   ·have:=hv i t hgt ht;omega
  have a2:u i<=v i:=by
   rcases Nat.lt_trichotomy s i with hlt|he|hgt
   ·have:=ih s hlt hs oM;have:=hv s i hlt hl;omega
   ·subst he;omega
   ·have:=hu i s hgt hs;omega
  omega
theorem Afm{u v:Nat->Nat}{k l:Nat}(hu:∀ i j,i<j->j<k->u i<u j)(hv:∀ i j,i<j->j<l->v i<v j)(h1:∀ i,i<k->∃ t,t<l/\v t=u i)(h2:∀ i,i<l->∃ t,t<k/\u t=v i):l<=k:=by
 refine Nat.le_of_not_lt fun hlt=>?_
 have ⟨t,ht,e⟩:=h2 k hlt;have:=Apf hu hv h1 h2 t ht oM;have:=hv t k ht hlt;omega
theorem Aur(hp:2<=p):¬ Cg p 1 0:=fun h=>by
 have:=h.eq ⟨by omega,by omega⟩ ⟨by omega,by omega⟩;omega
theorem Aow{i j:Nat}(hp:2<=p)(hm:MatW p n m):0<=en m i j/\en m i j<p:=by
 unfold en;by_cases h:i<m.length
 ·have hx:=hm _<|Ov h;generalize m.getD i []=x at hx;by_cases hj:j<x.length
  ·rw[Bw (gEg hj)];exact hx.2 _<|getElem_mem hj
  ·rw[gDg,getElem?_eq_none oM];exact ⟨by simp,by simp;omega⟩
 ·rw[gDg (l:=m),getElem?_eq_none oM];simp;omega
theorem Axh(hm:MatW p n m)(hm':MatW p n m')(hl:m.length=m'.length)(h:∀ i,i<m.length->∀ j,j<n->en m i j=en m' i j):m=m':=by
 refine ext_getElem hl fun i h1 h2=>?_
 have e1:=hm _<|getElem_mem h1;have e2:=hm' _<|getElem_mem h2;refine ext_getElem (e1.1.trans e2.1.symm) fun j k1 k2=>?_
 have:=h i h1 j (by have:=e1.1;omega);unfold en at this;rw[Bw<|gEg h1,Bw<|gEg h2,Bw<|gEg k1,Bw (gEg k2)]at this;exact this
theorem Aqi{pv pv':Nat->Nat}(hp:2<=p)(h:Ru n m.length m pv)(h':Ru n m'.length m' pv')(hm:MatW p n m)(hm':MatW p n m')(h1:∀ f,D2 p n m f->D2 p n m' f)(h2:∀ f,D2 p n m' f->D2 p n m f):m=m':=by
 have k1:∀ i,i<m.length->∃ t,t<m'.length/\pv' t=pv i:=fun i hi=>
  Apv h' (h1 _<|Dk hi) (h.lt i hi) (fun j hj=>Cg.of<|h.low i hi j hj) (by rw[h.one i hi];exact Aur hp)
 have k2:∀ i,i<m'.length->∃ t,t<m.length/\pv t=pv' i:=fun i hi=>
  Apv h (h2 _<|Dk hi) (h'.lt i hi) (fun j hj=>Cg.of<|h'.low i hi j hj) (by rw[h'.one i hi];exact Aur hp)
 have hl:m.length=m'.length:=Nat.le_antisymm (Afm h'.mono h.mono k2 k1)<|Afm h.mono h'.mono k1 k2;have hpv:=Apf h.mono h'.mono k1 k2;refine Axh hm hm' hl fun i hi j hj=>?_
 refine Cg.eq (Cg.symm<|(Ar4 h (h2 _<|Dk (i:=i) oM) j hj).trans<|Cg.of ?_) (Aow hp hm)<|Aow hp hm';rw[Rd hi fun t ht hne=>?_,hpv i hi oM,h'.one i oM]
 ·omega
 ·rw[hpv t ht oM,h'.zero t oM i (Ne.symm hne)];omega
theorem Azc{r k i j:Nat}(hr:r<m.length)(hk:k<m.length):en (M3 m r k) i j=if i=k then en m r j else if i=r then en m k j else en m i j:=by
 unfold en M3;by_cases h1:i=k
 ·subst h1;rw[fW rfl,gDg (l:=List.set _ _ _),getElem?_set_self (by rw[length_set];exact hk)];rfl
 ·rw[fB h1,gDg (l:=List.set _ _ _),getElem?_set_ne (Ne.symm h1)];by_cases h2:i=r
  ·subst h2;rw[fW rfl,getElem?_set_self hr];rfl
  ·rw[fB h2,getElem?_set_ne<|Ne.symm h2,← gDg]
theorem Aqj{k:Int}{x:List Int}{j:Nat}:(Fg p k x).getD j 0=x.getD j 0*k % p:=by
 unfold Fg;rw[gDg,getElem?_map,gDg];cases x[j]? with
 | none=>simp
 | some a=>rfl
theorem Arf{k:Int}{x v:List Int}{j:Nat}(h:x.length=v.length):(E7 p k x v).getD j 0=(x.getD j 0 - k*v.getD j 0) % p:=by
 unfold E7;rw[gDg,getElem?_zipWith,gDg,gDg];by_cases hj:j<x.length
 ·rw[gEg hj,gEg (show j<v.length by omega)];rfl
 ·rw[getElem?_eq_none (show x.length<=j by omega),getElem?_eq_none (show v.length<=j by omega)];simp
theorem Azl{c r i j:Nat}{pr:List Int}(hm:MatW p n m)(hpr:pr.length=n)(hi:i<m.length):en (Ih p c r pr m) i j=if i=r then pr.getD j 0 else (en m i j - en m i c*pr.getD j 0) % p:=by
 have hx:=hm _<|getElem_mem hi;unfold en Ih;rw[gDg (l:=List.mapIdx _ _),getElem?_mapIdx,gEg hi,Bw (gEg hi)];show (if i=r then pr else E7 p (m[i].getD c 0) m[i] pr).getD j 0=_;split
 ·rfl
 ·rw[Arf (by rw[hx.1,hpr])]
def Abn(p:Int):Prop:=∀ a,1<=a->a<p->a*Ql p a % p=1
theorem Awz{c:Nat}{s:Nat×ZA}{pv:Nat->Nat}(hp:2<=p)(hI:Abn p)(hm:MatW p n s.2)(h:Ru c s.1 s.2 pv):
  (∃ pv',Ru (c+1) (gjS p c s).1 (gjS p c s).2 pv')/\(∀ f,D2 p n (gjS p c s).2 f↔D2 p n s.2 f):=by
 have ⟨r,m⟩:=s;dsimp only at hm h;unfold gjS;dsimp only;by_cases h1:r<m.length
 ·rw[fW h1];by_cases h2:Ep m c r=m.length
  ·rw[fW h2];refine ⟨⟨pv,h.rl,fun i hi=>Nat.lt_succ_of_lt<|h.lt i hi,h.mono,h.low,h.one,h.zero,fun i hi j hj=>?_⟩,fun f=>Iff.rfl⟩;dsimp only at hi ⊢;by_cases hjc:j<c
   ·exact h.tail i hi j hjc
   ·obtain rfl:j=c:=by omega
    by_cases hil:i<m.length
    ·exact Af4 hi oM h.rl
    ·exact Ss oM
  ·rw[fB h2];have hk1:=U3 (c:=c) h.rl;have hk2:=A0d m c r;have hnz:=Ae1 h2 h.rl;have hkl:Ep m c r<m.length:=by omega
   have hx:=hm _<|Ov hkl;have ha:en m (Ep m c r) c≠0:=hnz;generalize hk:Ep m c r=k at *;have hab:=Aow (i:=k) (j:=c) hp hm;have hinv:=hI (en m k c) oM hab.2;generalize hv:Ql p (en m k c)=v at hinv
   have hpr:∀ j,(prV p c<|m.getD k []).getD j 0=en m k j*v % p:=fun j=>by
    unfold prV;rw[Aqj];show _*Ql p (en m k c) % p=_;rw[hv];rfl
   have hprl:(prV p c<|m.getD k []).length=n:=(T5 hp hx.1).1;generalize prV p c (m.getD k [])=pr at *;have hW:=Ace hm h1 hkl;have hWl:=S9 m r k;have hWe:∀ i j,en (M3 m r k) i j=if i=k then en m r j else if i=r then en m k j else en m i j:=fun i j=>Azc h1 hkl
   generalize M3 m r k=W at *
   have hE:∀ i j,i<m.length->en (Ih p c r pr W) i j=if i=r then en m k j*v % p else (en W i j - en W i c*(en m k j*v % p)) % p:=fun i j hi=>by
    rw[Azl hW hprl oM,hpr]
   have hEl:=Qr p c r pr W
   have h0:∀ i j,i<m.length->i≠r->en m k j=0->en (Ih p c r pr W) i j=en W i j:=fun i j hi hne h0=>by
    have hb:=Aow (i:=i) (j:=j) hp hW;rw[hE i j hi,fB hne,h0,Int.zero_mul,Int.zero_emod,Int.mul_zero,Int.sub_zero,Int.emod_eq_of_lt hb.1 hb.2]
   have hkj:∀ j,j<c->en m k j=0:=fun j hj=>h.tail k oM j hj
   have hkp:∀ i,i<r->en m k (pv i)=0:=fun i hi=>h.zero i hi k oM
   have hcc:en m k c*v % p=1:=hinv
   have hsp:∀ i j,i<m.length->i≠r->Cg p (en (Ih p c r pr W) i j) (en W i j+ -en W i c*en (Ih p c r pr W) r j):=fun i j hi hne=>by
    rw[hE i j hi,fB hne,hE r j h1,fW rfl];exact Cg.md.trans<|Cg.of (by grind)
   have hWr:∀ j,Cg p (en W r j) (en m k c*en (Ih p c r pr W) r j):=fun j=>by
    have e:en W r j=en m k j:=by
     rw[hWe];by_cases e:r=k
     ·rw[fW e,e]
     ·rw[fB e,fW rfl]
    rw[e,hE r j h1,fW rfl];have ⟨q,hq⟩:=Cg.fr (p:=p) (a:=en m k c*v) (b:=1) (by rw[hcc];exact (Int.emod_eq_of_lt oM oM).symm);refine Cg.trans ⟨-q*en m k j,?_⟩<|Cg.rf.mul Cg.md.symm
    grind
   refine ⟨⟨fun i=>if i=r then c else pv i,?_,?_,?_,?_,?_,?_,?_⟩,fun f=>⟨Vx fun i hi=>?_,Vx fun i hi=>?_⟩⟩
   ·show r+1<=(Ih p c r pr W).length;omega
   ·intro i hi
    try dsimp only
    split
    ·omega
    ·have:=h.lt i oM;omega
   ·intro i l hil hl
    try dsimp only
    rw[fB (by omega:i≠r)];split
    ·exact h.lt i oM
    ·exact h.mono i l hil oM
   ·intro i hi j hj;dsimp only at hj ⊢;by_cases e:i=r
    ·subst e;rw[fW rfl]at hj;rw[hE i j h1,fW rfl,hkj j hj,Int.zero_mul,Int.zero_emod]
    ·rw[fB e]at hj;have:=h.lt i oM;rw[h0 i j oM e<|hkj j oM,hWe,fB oM,fB e];exact h.low i oM j hj
   ·intro i hi;dsimp only;by_cases e:i=r
    ·subst e;rw[fW rfl,hE i c h1,fW rfl,hcc]
    ·rw[fB e,h0 i (pv i) oM e<|hkp i oM,hWe,fB oM,fB e];exact h.one i oM
   ·intro i hi l hl;dsimp only;by_cases hll:l<m.length
    ·by_cases e:i=r
     ·subst e;rw[fW rfl,hE l c hll,fB hl,hcc,Int.mul_one,Int.sub_self,Int.zero_emod]
     ·rw[fB e];by_cases e2:l=r
      ·subst e2;rw[hE l (pv i) hll,fW rfl,hkp i oM,Int.zero_mul,Int.zero_emod]
      ·rw[h0 l (pv i) hll e2<|hkp i oM,hWe];by_cases e3:l=k
       ·rw[fW e3];exact h.zero i oM r oM
       ·rw[fB e3,fB e2];exact h.zero i oM l hl
    ·exact Ss oM
   ·intro i hi j hj;dsimp only at hi ⊢;by_cases hil:i<m.length
    ·by_cases e:j=c
     ·subst e;rw[hE i j hil,fB oM,hcc,Int.mul_one,Int.sub_self,Int.zero_emod]
     ·rw[h0 i j hil oM<|hkj j oM,hWe];by_cases e3:i=k
      ·rw[fW e3];exact h.tail r (fQ r) j oM
      ·rw[fB e3,fB oM];exact h.tail i oM j oM
    ·exact Ss oM
   ·have hi:i<m.length:=by dsimp only at hi;omega
    have hrow:∀ t,t<m.length->D2 p n m (en W t):=fun t ht=>by
     by_cases e1:t=k
     ·exact Fy (Dk h1) fun j hj=>Cg.of (by rw[hWe,fW e1])
     ·by_cases e2:t=r
      ·exact Fy (Dk hkl) fun j hj=>Cg.of (by rw[hWe,fB e1,fW e2])
      ·exact Fy (Dk ht) fun j hj=>Cg.of (by rw[hWe,fB e1,fB e2])
    have hr':D2 p n m (en (Ih p c r pr W) r):=Fy (Oj v<|Dk hkl) fun j hj=>by
     rw[hE r j h1,fW rfl];exact Cg.md.trans<|Cg.of (by grind)
    by_cases e:i=r
    ·subst e;exact hr'
    ·exact Fy (Uw (hrow i hi)<|Oj (-en W i c) hr') fun j hj=>hsp i j hi e
   ·have hE':∀ t,t<m.length->D2 p n (Ih p c r pr W) (en W t):=fun t ht=>by
     by_cases e:t=r
     ·subst e;exact Fy (Oj (en m k c)<|Dk (i:=t) oM) fun j hj=>hWr j
     ·refine Fy (Uw (Dk (i:=t) oM)<|Oj (en W t c)<|Dk (i:=r) oM) fun j hj=>?_
      exact Cg.symm<|((hsp t j ht e).add Cg.rf).trans<|Cg.of (by grind)
    by_cases e1:i=r
    ·subst e1;exact Fy (hE' k hkl) fun j hj=>Cg.of (by rw[hWe,fW rfl])
    ·by_cases e2:i=k
     ·subst e2;exact Fy (hE' r h1) fun j hj=>Cg.of (by rw[hWe,fB oM,fW rfl])
     ·exact Fy (hE' i hi) fun j hj=>Cg.of (by rw[hWe,fB e2,fB e1])
 ·rw[fB h1];have:=h.rl;refine ⟨⟨pv,h.rl,fun i hi=>Nat.lt_succ_of_lt<|h.lt i hi,h.mono,h.low,h.one,h.zero,fun i hi j hj=>Ss (m:=m) (by dsimp only at hi;omega)⟩,fun f=>Iff.rfl⟩
theorem Ain{m:ZA}(hp:2<=p)(hI:Abn p)(hm:MatW p n m):∀ c,(∃ pv,Ru c (gjT p m c).1 (gjT p m c).2 pv)/\∀ f,D2 p n (gjT p m c).2 f↔D2 p n m f
 | 0=>⟨⟨fun _=>0,Nat.zero_le _,by intro i hi;simp[gjT]at hi,by intro i k _ hk;simp[gjT]at hk,by intro i hi;simp[gjT]at hi,by intro i hi;simp[gjT]at hi,by intro i hi;simp[gjT]at hi,fun _ _ j hj=>by omega⟩,fun _=>Iff.rfl⟩
 | c+1=>by
  have ⟨⟨pv,h1⟩,h2⟩:=Ain hp hI hm c;have ⟨h3,h4⟩:=Awz hp hI (Nn hp hm c).1 h1;exact ⟨h3,fun f=>(h4 f).trans (h2 f)⟩
theorem Yp{r i j:Nat}(h:i<r):en (m.take r) i j=en m i j:=by
 unfold en;rw[gDg (l:=m.take r),getElem?_take,fW h,← gDg]
theorem Alf{k:Nat}(hk:k<=n)(h:D2 p n m f):D2 p k m f:=by
 induction h with
 | zero h0=>exact .zero fun j hj=>h0 j oM
 | add i k hi _ hs ih=>exact .add i k hi ih fun j hj=>hs j oM
theorem Auq{c:Nat}(hp:2<=p)(hI:Abn p)(hm:MatW p n m)(hc:c<=n):(∃ pv,Ru c (gj p c m).length (gj p c m) pv)/\∀ f,D2 p c (gj p c m) f↔D2 p c m f:=by
 have ⟨⟨pv,h⟩,h2⟩:=Ain hp hI hm c;have hl:=Ajs (n:=c) hp hm;have hrl:=h.rl;refine ⟨⟨pv,fQ _,?_,?_,?_,?_,?_,?_⟩,fun f=>Iff.trans (b:=D2 p c (gjT p m c).2 f) ⟨Vx fun i hi=>?_,Vx fun i hi=>?_⟩ ⟨Vx fun i hi=>Alf hc<|(h2 _).1<|Dk hi,Vx fun i hi=>Alf hc<|(h2 _).2<|Dk hi⟩⟩
 ·rw[hl];exact h.lt
 ·rw[hl];exact h.mono
 ·rw[hl];intro i hi j hj;unfold gj;rw[Yp hi];exact h.low i hi j hj
 ·rw[hl];intro i hi;unfold gj;rw[Yp hi];exact h.one i hi
 ·rw[hl];intro i hi k hk;by_cases hkl:k<(gjT p m c).1
  ·unfold gj;rw[Yp hkl];exact h.zero i hi k hk
  ·exact Ss oM
 ·intro i hi j _;exact Ss hi
 ·rw[hl]at hi;exact Fy (Dk (i:=i) oM) fun j hj=>Cg.of (by unfold gj;rw[Yp hi])
 ·by_cases hir:i<(gjT p m c).1
  ·exact Fy (Dk (i:=i) oM) fun j hj=>Cg.of (by unfold gj;rw[Yp hir])
  ·exact .zero fun j hj=>Cg.of<|h.tail i oM j hj
theorem Xl(hp:2<=p)(hI:Abn p)(hm:MatW p n m):(∃ pv,Ru n (gj p n m).length (gj p n m) pv)/\∀ f,D2 p n (gj p n m) f↔D2 p n m f:=Auq hp hI hm (fQ n)
theorem Aih{pv:Nat->Nat}(hp:2<=p)(hI:Abn p)(hm:MatW p n m)(hm':MatW p n m')(h:Ru n m'.length m' pv)(hs:∀ f,D2 p n m f↔D2 p n m' f):gj p n m=m':=by
 have ⟨⟨pv',h1⟩,h2⟩:=Xl hp hI hm;exact Aqi hp h1 h (U5 hp hm) hm' (fun f hf=>(hs f).1<|(h2 f).1 hf) fun f hf=>(h2 f).2<|(hs f).2 hf
theorem Axv(hp:2<=p)(hI:Abn p)(hm:MatW p n m)(hm':MatW p n m')(hs:∀ f,D2 p n m f↔D2 p n m' f):gj p n m=gj p n m':=by
 have ⟨⟨pv',h1⟩,h2⟩:=Xl hp hI hm';exact Aih hp hI hm (U5 hp hm') h1 fun f=>(hs f).trans (h2 f).symm
end
end
section
def Sd(x:List Int):Nat:=x.findIdx fun a=>a !=0
section
variable{p:Int}{n:Nat}{m m' B:ZA}{o:List Int}
theorem Ath{c r i:Nat}{pv:Nat->Nat}(h:Ru c r m pv)(hm:MatW p n m)(hc:c<=n)(hi:i<r):Sd (m.getD i [])=pv i:=by
 have hl:=h.rl;have hx:=(hm _<|Ov (show i<m.length by omega)).1;have hlt:=h.lt i hi;have e:∀(j:Nat) (hj:j<(m.getD i []).length),(m.getD i [])[j]=en m i j:=fun j hj=>(Bw<|gEg hj).symm
 unfold Sd;refine (findIdx_eq (show pv i<(m.getD i []).length by omega)).2 ⟨?_,fun j hj=>?_⟩
 ·rw[e,h.one i hi];rfl
 ·rw[e,h.low i hi j hj];rfl
theorem Aqk{n':Nat}{f:Nat->Int}{C:Nat->Nat}(hl:m'.length=m.length)(hC:∀ j,j<n'->C j<n)(he:∀ i,i<m.length->∀ j,j<n'->en m' i j=en m i (C j))(h:D2 p n m f):D2 p n' m' (fun j=>f (C j)):=by
 induction h with
 | zero h0=>exact .zero fun j hj=>h0 _<|hC j hj
 | add i k hi _ hs ih=>exact .add i k oM ih fun j hj=>(hs _<|hC j hj).trans<|Cg.of (by rw[he i hi j hj])
end
end
section
def Qg(p:Int)(n:Nat)(m:ZA)(f:Nat->Int):Prop:=∀ i,i<m.length->Cg p (sm n fun j=>en m i j*f j) 0
section
variable{p:Int}{n:Nat}{m m':ZA}{f g:Nat->Int}
theorem Arg(hf:Qg p n m f)(hs:D2 p n m g):Cg p (sm n fun j=>g j*f j) 0:=by
 induction hs with
 | zero h0=>exact (O9 (g:=fun _=>0) fun j hj=>((h0 j hj).mul Cg.rf).trans<|Cg.of oM).trans<|Cg.of (Nx fun _ _=>rfl)
 | @add f' g' i k hi _ hs ih=>
  have e:sm n (fun j=>(g' j+k*en m i j)*f j)=sm n (fun j=>g' j*f j)+k*sm n (fun j=>en m i j*f j):=by
   rw[Zd (g:=fun j=>g' j*f j+k*(en m i j*f j)) fun j _=>by grind,T7 (f:=fun j=>g' j*f j),Wp (f:=fun j=>en m i j*f j)]
  refine (O9 fun j hj=>(hs j hj).mul Cg.rf).trans<|(Cg.of e).trans ?_;exact (ih.add<|Cg.rf.mul<|hf i hi).trans<|Cg.of oM
theorem Ao6(h:∀ i,i<m'.length->D2 p n m (en m' i))(hf:Qg p n m f):Qg p n m' f:=fun i hi=>Arg hf (h i hi)
theorem At3(hf:Qg p n m f)(hg:Qg p n m g):Qg p n m (fun j=>f j+g j):=fun i hi=>by
 refine (Cg.of ?_).trans (((hf i hi).add (hg i hi)).trans (Cg.of oM));rw[Zd (g:=fun j=>en m i j*f j+en m i j*g j) fun j _=>by grind,T7]
theorem Aua(a:Int)(hf:Qg p n m f):Qg p n m (fun j=>a*f j):=fun i hi=>by
 refine (Cg.of ?_).trans ((Cg.rf.mul (hf i hi)).trans (Cg.of (show a*0=0 by omega)));rw[Zd (g:=fun j=>a*(en m i j*f j)) fun j _=>by grind,Wp]
theorem Av6(hf:Qg p n m f)(h:∀ j,j<n->Cg p (g j) (f j)):Qg p n m g:=fun i hi=>(O9 fun j hj=>Cg.rf.mul (h j hj)).trans (hf i hi)
theorem Ahd(h:∀ i,i<m'.length->Qg p n m (en m' i))(hs:D2 p n m' f):Qg p n m f:=by
 induction hs with
 | zero h0=>exact fun i hi=>(O9 (g:=fun _=>0) fun j hj=>(Cg.rf.mul<|h0 j hj).trans<|Cg.of oM).trans<|Cg.of (Nx fun _ _=>rfl)
 | add i k hi _ hs ih=>exact Av6 (At3 ih<|Aua k<|h i hi) hs
def pvs(r:Nat)(pv:Nat->Nat)(j:Nat):Bool:=(range r).any fun i=>pv i==j
theorem Ar1{r j:Nat}{pv:Nat->Nat}(h:pvs r pv j=true):∃ i,i<r/\pv i=j:=by
 have ⟨i,hi,he⟩:=any_eq_true.1 h;exact ⟨i,mem_range.1 hi,fF.1 he⟩
theorem Aoy{r j i:Nat}{pv:Nat->Nat}(h:pvs r pv j=false)(hi:i<r):pv i≠j:=fun e=>by
 have:=any_eq_false.1 h i (mem_range.2 hi);exact this (fF.2 e)
structure A0w(p:Int)(n:Nat)(R:ZA)(pv:Nat->Nat)(N:ZA):Prop where
 ex:∀ j,j<n->pvs R.length pv j=false->∃ t,t<N.length/\Cg p (en N t j) 1/\(∀ i,i<R.length->Cg p (en N t (pv i)) (-en R i j))/\∀ q,q<n->q≠j->pvs R.length pv q=false->Cg p (en N t q) 0
 all:∀ t,t<N.length->∃ j,j<n/\pvs R.length pv j=false/\Cg p (en N t j) 1/\(∀ i,i<R.length->Cg p (en N t (pv i)) (-en R i j))/\∀ q,q<n->q≠j->pvs R.length pv q=false->Cg p (en N t q) 0
theorem Aqg{R N:ZA}{pv:Nat->Nat}(h:Ru n R.length R pv)(hN:A0w p n R pv N):D2 p n N f↔Qg p n R f:=by
 have hd:∀ i k,i<R.length->k<R.length->en R i (pv k)=if k=i then 1 else 0:=fun i k hi hk=>by
  by_cases e:k=i
  ·subst e;rw[fW rfl,h.one k hk]
  ·rw[fB e,h.zero k hk i (Ne.symm e)]
 have hpi:∀ i k,i<R.length->k<R.length->pv i=pv k->i=k:=fun i k hi hk e=>by
  rcases Nat.lt_trichotomy i k with h1|h1|h1
  ·have:=h.mono i k h1 hk;omega
  ·exact h1
  ·have:=h.mono k i h1 hi;omega
 constructor
 ·refine Ahd fun t ht i hi=>?_
  have ⟨j,hj,hfr,h1,h2,h3⟩:=hN.all t ht;have hne:pv i≠j:=Aoy hfr hi
  have e:Cg p (sm n fun q=>en R i q*en N t q) (sm n fun q=>(if q=j then en R i j else 0)+(if q=pv i then -en R i j else 0)):=by
   refine O9 fun q hq=>?_
   by_cases e1:q=j
   ·subst e1;rw[fW rfl,fB (Ne.symm hne)];exact (Cg.rf.mul h1).trans<|Cg.of oM
   ·rw[fB e1];by_cases e2:q=pv i
    ·subst e2;rw[fW rfl,h.one i hi];exact (Cg.rf.mul<|h2 i hi).trans<|Cg.of oM
    ·rw[fB e2];cases hf:pvs R.length pv q
     ·exact (Cg.rf.mul<|h3 q hq e1 hf).trans<|Cg.of oM
     ·obtain ⟨k,hk,rfl⟩:=Ar1 hf;rw[hd i k hi hk,fB fun e=>e2 (by rw[e])];exact Cg.of oM
  refine e.trans<|Cg.of ?_;rw[T7,Rd hj fun q _ hq=>fB hq,Rd (h.lt i hi) fun q _ hq=>fB hq,fW rfl,fW rfl];omega
 ·intro hf
  have hrow:∀ j,∃ b:Nat->Int,D2 p n N b/\(j<n->pvs R.length pv j=false->Cg p (b j) 1/\(∀ i,i<R.length->Cg p (b<|pv i) (-en R i j))/\∀ q,q<n->q≠j->pvs R.length pv q=false->Cg p (b q) 0):=fun j=>by
   by_cases hj:j<n/\pvs R.length pv j=false
   ·have ⟨t,ht,h1⟩:=hN.ex j hj.1 hj.2;exact ⟨en N t,Dk ht,fun _ _=>h1⟩
   ·exact ⟨fun _=>0,.zero fun _ _=>Cg.rf,fun h1 h2=>(hj ⟨h1,h2⟩).elim⟩
  obtain ⟨b,hb⟩:∃ b:Nat->Nat->Int,∀ j,D2 p n N (b j)/\(j<n->pvs R.length pv j=false->Cg p (b j j) 1/\(∀ i,i<R.length->Cg p (b j<|pv i) (-en R i j))/\∀ q,q<n->q≠j->pvs R.length pv q=false->Cg p (b j q) 0):=
   ⟨fun j=>Classical.choose<|hrow j,fun j=>Classical.choose_spec<|hrow j⟩
  have hS:D2 p n N (fun q=>sm n fun j=>(if pvs R.length pv j then 0 else f j)*b j q):=Ajm (F:=fun j q=>(if pvs R.length pv j then 0 else f j)*b j q) fun j _=>Oj _ (hb j).1
  refine Fy hS fun q hq=>Cg.symm ?_
  cases hf':pvs R.length pv q
  ·refine (O9 (g:=fun j=>if j=q then f q else 0) fun j hj=>?_).trans<|Cg.of ?_
   ·by_cases e:j=q
    ·subst e;rw[fW rfl,hf',fB (by decide)];exact (Cg.rf.mul ((hb j).2 hj hf').1).trans<|Cg.of oM
    ·rw[fB e];cases hfj:pvs R.length pv j
     ·exact (Cg.rf.mul<|((hb j).2 hj hfj).2.2 q hq (Ne.symm e) hf').trans<|Cg.of oM
     ·rw[fW rfl];exact Cg.of oM
   ·rw[Rd hq fun j _ hj=>fB hj,fW rfl]
  ·obtain ⟨i,hi,rfl⟩:=Ar1 hf';refine (O9 (g:=fun j=> -1*(en R i j*f j)+(if j=pv i then f j else 0)) fun j hj=>?_).trans ?_
   ·cases hfj:pvs R.length pv j
    ·have hne:j≠pv i:=fun e=>Aoy hfj hi e.symm
     rw[fB (by decide),fB hne];exact (Cg.rf.mul<|((hb j).2 hj hfj).2.1 i hi).trans<|Cg.of (by grind)
    ·obtain ⟨k,hk,rfl⟩:=Ar1 hfj;rw[fW rfl,hd i k hi hk];by_cases e:k=i
     ·subst e;rw[fW rfl,fW rfl];exact Cg.of oM
     ·rw[fB e,fB fun e'=>e (hpi k i hk hi e')];exact Cg.of oM
   ·rw[T7 (f:=fun j=> -1*(en R i j*f j)),Wp (f:=fun j=>en R i j*f j),Rd (f:=fun j=>if j=pv i then f j else 0) hq fun j _ hj=>fB hj,fW rfl];exact ((Cg.rf.mul<|hf i hi).add Cg.rf).trans<|Cg.of oM
theorem An8{c r w:Nat}{pv:Nat->Nat}(h:Ru c r m pv)(hc:c<=w)(hs:D2 p w m f):∃ g,D2 p w (m.drop r) g/\∀ j,j<w->Cg p (f j) ((sm r fun i=>f (pv i)*en m i j)+g j):=by
 have hd:∀ t j,en (m.drop r) t j=en m (r+t) j:=fun t j=>by
  unfold en;rw[gDg (l:=m.drop r),getElem?_drop,← gDg]
 induction hs with
 | zero h0=>
  refine ⟨fun _=>0,.zero fun _ _=>Cg.rf,fun j hj=>(h0 j hj).trans<|Cg.symm ?_⟩;refine (((O9 (g:=fun _=>0) fun i hi=>?_).trans<|Cg.of (Nx fun _ _=>rfl)).add Cg.rf).trans (Cg.of (by dsimp only;omega));exact ((h0 _ (by have:=h.lt i hi;omega)).mul Cg.rf).trans<|Cg.of oM
 | @add f' g' t k ht _ hs ih=>
  have ⟨q,hq,he⟩:=ih;have hpw:∀ i,i<r->pv i<w:=fun i hi=>by have:=h.lt i hi;omega
  have e1:∀ j,Cg p (sm r fun i=>f' (pv i)*en m i j) ((sm r fun i=>g' (pv i)*en m i j)+k*sm r fun i=>en m t (pv i)*en m i j):=fun j=>by
   refine (O9 fun i hi=>(hs _<|hpw i hi).mul Cg.rf).trans<|Cg.of ?_;rw[Zd (g:=fun i=>g' (pv i)*en m i j+k*(en m t (pv i)*en m i j)) fun i _=>by grind,T7 (f:=fun i=>g' (pv i)*en m i j),Wp (f:=fun i=>en m t (pv i)*en m i j)]
  by_cases htr:t<r
  ·refine ⟨q,hq,fun j hj=>(hs j hj).trans<|((he j hj).add Cg.rf).trans<|Cg.symm<|((e1 j).add Cg.rf).trans<|Cg.of ?_⟩;rw[Rd (f:=fun i=>en m t (pv i)*en m i j) htr fun i hi hne=>by rw[h.zero i hi t (Ne.symm hne)];omega,h.one t htr,Int.one_mul];omega
  ·refine ⟨fun j=>q j+k*en m t j,?_,fun j hj=>(hs j hj).trans<|((he j hj).add Cg.rf).trans<|Cg.symm<|((e1 j).add Cg.rf).trans<|Cg.of ?_⟩
   ·refine Fy (Uw hq<|Oj k<|Dk (i:=t - r) (by rw[length_drop];omega)) fun j _=>Cg.of ?_
    rw[hd,show r+(t - r)=t by omega]
   ·rw[Nx (f:=fun i=>en m t (pv i)*en m i j) fun i hi=>by rw[h.zero i hi t oM];omega];dsimp only;omega
theorem Arv{R:Nat}{A W:ZA}(hp:2<=p)(hI:Abn p)(hW:MatW p (R+n) W)(hl:W.length=n)(hA:A.length=R)(h1:∀ t,t<n->∀ i,i<R->en W t i=en A i t)(h2:∀ t,t<n->∀ j,j<n->en W t (R+j)=if j=t then 1 else 0):
  D2 p n (((gjT p W R).2.drop (gjT p W R).1).map (·.drop R)) f↔Qg p n A f:=by
 have ⟨⟨pv,hv⟩,hs⟩:=Ain hp hI hW R
 have hlin:∀ g,D2 p (R+n) W g->∀ i,i<R->Cg p (g i) (sm n fun t=>en A i t*g (R+t)):=fun g hg=>by
  induction hg with
  | zero h0=>
   intro i hi;refine (h0 i oM).trans<|Cg.symm<|(O9 (g:=fun _=>0) fun t ht=>?_).trans<|Cg.of (Nx fun _ _=>rfl);exact (Cg.rf.mul<|h0 _ oM).trans<|Cg.of oM
  | @add f' g' t k ht _ hs ih=>
   intro i hi;refine (hs i oM).trans<|((ih i hi).add Cg.rf).trans<|Cg.symm ?_;refine (O9 fun u hu=>Cg.rf.mul<|hs (R+u) oM).trans<|Cg.of ?_
   rw[Zd (g:=fun u=>en A i u*g' (R+u)+k*(en A i u*en W t (R+u))) fun u _=>by grind,T7 (f:=fun u=>en A i u*g' (R+u)),Wp (f:=fun u=>en A i u*en W t (R+u)),
    Rd (f:=fun u=>en A i u*en W t (R+u)) (t:=t) oM fun u hu hne=>by rw[h2 t oM u hu,fB hne];omega,h2 t oM t oM,fW rfl,h1 t oM i hi,Int.mul_one]
 have hen:∀ t j,t<((gjT p W R).2.drop (gjT p W R).1).length->en (((gjT p W R).2.drop (gjT p W R).1).map (·.drop R)) t j=en (gjT p W R).2 ((gjT p W R).1+t) (R+j):=fun t j ht=>by
  unfold en
  have e1:(((gjT p W R).2.drop (gjT p W R).1).map (·.drop R)).getD t []=((gjT p W R).2.getD ((gjT p W R).1+t) []).drop R:=by
   rw[gDg,getElem?_map,getElem?_drop,gDg];cases (gjT p W R).2[(gjT p W R).1+t]? with
   | none=>exact (drop_nil).symm
   | some x=>rfl
  rw[e1,gDg,getElem?_drop,← gDg]
 generalize gjT p W R=G at *;have ⟨r,M⟩:=G;dsimp only at *;constructor
 ·refine Ahd fun t ht i hi=>?_
  have ht':t<(M.drop r).length:=by simpa using ht
  have h3:=hlin _ ((hs _).1<|Dk (i:=r+t) (by rw[length_drop]at ht';omega)) i oM;rw[hv.tail (r+t) oM i oM]at h3;refine Cg.trans (Cg.of (Zd fun j hj=>?_)) h3.symm;rw[hen t j ht']
 ·intro hf;have hg:D2 p (R+n) W (fun q=>sm n fun t=>f t*en W t q):=Ajm (F:=fun t q=>f t*en W t q) fun t ht=>Oj _<|Dk oM
  have hq1:∀ i,i<R->Cg p (sm n fun t=>f t*en W t i) 0:=fun i hi=>by
   refine Cg.trans (Cg.of (Zd fun t ht=>?_))<|hf i oM;rw[h1 t ht i hi];exact Int.mul_comm _ _
  have hq2:∀ j,j<n->(sm n fun t=>f t*en W t (R+j))=f j:=fun j hj=>by
   rw[Rd (f:=fun t=>f t*en W t (R+j)) hj fun t ht hne=>by rw[h2 t ht j hj,fB (Ne.symm hne)];omega,h2 j hj j hj,fW rfl,Int.mul_one]
  have ⟨g,hgs,hge⟩:=An8 hv (Nat.le_add_right R n)<|(hs _).2 hg
  have hG:D2 p (R+n) (M.drop r) (fun q=>sm n fun t=>f t*en W t q):=by
   refine Fy hgs fun q hq=>(hge q hq).trans ?_
   refine ((O9 (g:=fun _=>0) fun i hi=>?_).add Cg.rf).trans<|Cg.of ?_
   ·exact ((hq1 _<|hv.lt i hi).mul Cg.rf).trans<|Cg.of oM
   ·rw[Nx fun _ _=>rfl];omega
  have hC:=Aqk (m':=(M.drop r).map (·.drop R)) (n':=n) (C:=fun j=>R+j) (length_map ..) (fun j hj=>by omega) (fun t ht j hj=>by
   rw[hen t j ht];unfold en;rw[gDg (l:=M.drop r),getElem?_drop,← gDg]) hG
  exact Fy hC fun j hj=>Cg.of (hq2 j hj).symm
end
def lv(R:ZA)(i:Nat):Nat:=Sd (R.getD i [])
section
variable{p:Int}{n:Nat}{R:ZA}
theorem Ahy{pv:Nat->Nat}(h:Ru n R.length R pv){w:Nat}(hm:MatW p w R)(hw:n<=w):Ru n R.length R (lv R):=by
 have e:∀ i,i<R.length->lv R i=pv i:=fun i hi=>Ath h hm hw hi
 refine ⟨fQ _,fun i hi=>?_,fun i k hik hk=>?_,fun i hi j hj=>?_,fun i hi=>?_,fun i hi k hk=>?_,fun i hi j _=>Ss hi⟩
 ·rw[e i hi];exact h.lt i hi
 ·rw[e i oM,e k hk];exact h.mono i k hik hk
 ·rw[e i hi]at hj;exact h.low i hi j hj
 ·rw[e i hi];exact h.one i hi
 ·rw[e i hi];exact h.zero i hi k hk
end
end
section
section
variable{p:Int}{n:Nat}{m E R F:ZA}{f g u v:Nat->Int}
end
end
section
section
variable{p:Int}{n:Nat}{m:ZA}
theorem Akz(x:List Int)(hx:x.length<=1000):Kq x=some ((Sd x:Nat):Int):=by
 unfold Kq;have hle:Sd x<=x.length:=findIdx_le_length
 have h:Aq (fun s_:Nat=>Jm x s_) 4611686018427387904 0=some (Sd x):=by
  refine Bg (Sd x) (fun i=>i) oM _ rfl (fun i hi=>?_) ?_
  ·have h0:=not_of_lt_findIdx hi;have h1:x[i]'oM=0:=by simpa using h0
   try dsimp only
   unfold Jm;rw[fH oM,gEg (show i<x.length by omega),obs,obs,h1,show ((0:Int)==0)=true from rfl,fZ,Af oM]
  ·unfold Jm;by_cases h:Sd x=x.length
   ·rw[fJ oM,obs,fY]
   ·have h0:=findIdx_getElem (w:=show Sd x<x.length by omega);rw[fH oM,gEg (show Sd x<x.length by omega),obs,obs,show ((x[Sd x]'oM)==0)=false from Bool.eq_false_iff.2 (fun e=>bne_iff_ne.1 h0<|fF.1 e),fY]
 rw[h,obs]
def spV(p:Int)(n:Nat)(m:ZA)(c:List Int):Nat->List Int
 | 0=>replicate n 0
 | i+1=>List.zipWith (fun a x=>(a+c.getD i 0*x) % p) (spV p n m c i) (m.getD i [])
theorem Qj{c:List Int}(hp:2<=p)(hm:MatW p n m):∀ i,i<=m.length->VecW p n (spV p n m c i)
 | 0,_=>⟨by simp[spV],fun a ha=>by obtain rfl:=(mem_replicate.1 ha).2;omega⟩
 | i+1,hi=>by
  have h1:=Qj (c:=c) hp hm i oM;have h2:=hm _ (Ov (show i<m.length by omega));refine ⟨by unfold spV;rw[length_zipWith,h1.1,h2.1];omega,fun a ha=>?_⟩;obtain ⟨b,d,rfl⟩:=Ang ha;exact Ut hp
theorem Ao3{c:List Int}(hp:2<=p/\p<=97)(hm:MatW p n m)(hc:VecW p m.length c)(hn:n<=1000)(hl:m.length<=1000):L8 p (n:Int) m c=some (spV p n m c m.length):=by
 unfold L8;rw[Af oM,fX]
 have key:Aq (fun s_:Nat×List Int=>K5 m c p s_.1 s_.2) 4611686018427387904 (0,replicate n 0)=some (spV p n m c m.length):=by
  refine Bg m.length (fun i=>(i,spV p n m c i)) oM _ rfl (fun i hi=>?_) ?_
  ·have h1:=Qj (c:=c) hp.1 hm i oM;have h2:=hm _<|getElem_mem hi;have hl1:=h1.1;have hl2:=h2.1;have hcc:=hc.1;have hci:=Pv hc (j:=i) oM
   have hin:Aq (fun s_:Nat×List Int=>K7 m[i] c i p s_.1 s_.2) 4611686018427387904 (0,spV p n m c i)=some (spV p n m c<|i+1):=by
    have hv:=Qj (c:=c) hp.1 hm (i+1) oM;have hvl:=hv.1;refine Xy (y:=spV p n m c<|i+1) oM oM (fun j hj z hz=>?_) ?_
    ·have a1:=Pv h1 hj;have a2:=Pv h2 (j:=j) oM;have a3:=Aes hp hci a2
     try dsimp only
     unfold K7;rw[fH oM,gEg (show j<m[i].length by omega),obs,hz,obs,gEg (show i<c.length by omega),obs,Af oM,Af oM,Bi (n:=c[i]'oM*m[i][j]'oM) oM oM,Bi oM oM,Int.tmod_eq_emod_of_nonneg oM];congr 4;simp only[spV,getElem_zipWith,Bw<|gEg (show i<c.length by omega),Bw (m:=m) (gEg hi)]
    ·try dsimp only
     unfold K7;rw[fJ oM]
   try dsimp only
   unfold K5;rw[fH oM,gEg hi,obs,hin,obs,Af oM]
  ·try dsimp only
   unfold K5;rw[fJ oM]
 rw[key,obs]
theorem Aty{s:ByteArray}{xs:List Nd}{l r:Int}{b:ZA}(hx:xs.length<=1073741824)(hb:b.length<=1048576)(hr:I4 1048576 b)(h:Eg p s xs l r b=some true):On p l r b=true:=by
 unfold Eg at h;have ⟨nm,n1,n2⟩:=Amz s;rw[Ad7,obs,n2,obs,X7 xs p hx,S8 xs hx,Ae7 p l r b hb hr]at h;cases ht:tyV xs with
 | none=>rw[ht]at h;exact absurd h fS
 | some w=>
  rw[ht,Option.isSome_some,Bool.true_and]at h;dsimp only at h;generalize isF p=a1 at h;generalize Is p xs=a2 at h;generalize U1 xs=a3 at h;cases hg:On p l r b
  ·rw[hg]at h;cases nm <;> cases a1 <;> cases a2 <;> cases a3 <;> exact absurd h fS
  ·rfl
end
end
section
theorem Aea{p:Int}(hp:isF p=true):Abn p:=fun _ h1 h2=>(Aok hp ⟨h1,h2⟩).2.2.2.2
theorem Sv{n:Int}(h:0<=n/\n<=1000000):Eh n=some (replicate n.toNat 0):=by
 unfold Eh;rw[Af oM]
def bvT(p:Int)(n:Nat)(R:ZA)(j:Nat):Nat->List Int
 | 0=>(replicate n 0).set j 1
 | i+1=>(bvT p n R j i).set (lv R i) ((p - en R i j) % p)
def ldT(n:Nat)(R:ZA):Nat->List Int
 | 0=>replicate n (-1)
 | i+1=>(ldT n R i).set (lv R i) (i:Int)
def Abg(n:Nat)(R:ZA):List Nat:=(range n).filter fun j=> !pvs R.length (lv R) j
def Ts(p:Int)(n:Nat)(R:ZA):ZA:=(Abg n R).map fun j=>bvT p n R j R.length
def O0(p:Int)(n:Nat)(m:ZA):ZA:=gj p n (Ts p n (gj p n m))
section
variable{p:Int}{n:Nat}{R m:ZA}
theorem Alk{pv:Nat->Nat}{i j:Nat}:pvs (i+1) pv j=(pvs i pv j||(pv i==j)):=by simp[pvs,range_succ]
theorem Aia:∀ i,(ldT n R i).length=n
 | 0=>by simp[ldT]
 | i+1=>by unfold ldT;rw[length_set,Aia i]
theorem Att(hlt:∀ i,i<R.length->lv R i<n){j:Nat}(hj:j<n):∀ i,i<=R.length->∃ v,(ldT n R i)[j]? =some v/\(decide (0<=v)=pvs i (lv R) j)
 | 0,_=>⟨-1,by simp[ldT,hj],rfl⟩
 | i+1,hi=>by
  have ⟨v,h1,h2⟩:=Att hlt hj i oM;have hl:=Aia (n:=n) (R:=R) i;by_cases e:lv R i=j
  ·refine ⟨(i:Int),?_,?_⟩
   ·unfold ldT;rw[e,getElem?_set_self oM]
   ·rw[Alk,fF.2 e,Bool.or_true,Av oM]
  ·refine ⟨v,?_,?_⟩
   ·unfold ldT;rw[getElem?_set_ne e];exact h1
   ·rw[Alk,fU.2 e,Bool.or_false];exact h2
theorem Xm{j:Nat}:∀ i,(bvT p n R j i).length=n
 | 0=>by simp[bvT]
 | i+1=>by unfold bvT;rw[length_set,Xm i]
theorem Asj{j:Nat}(hp:2<=p):∀ i,inV p (bvT p n R j i)
 | 0=>fun a ha=>by
  rcases mem_or_eq_of_mem_set ha with ha|rfl
  ·obtain rfl:=(mem_replicate.1 ha).2;omega
  ·omega
 | i+1=>fun a ha=>by
  rcases mem_or_eq_of_mem_set ha with ha|rfl
  ·exact Asj hp i a ha
  ·exact Ut hp
theorem Vr{x:List Int}{i j:Nat}{a:Int}(hi:i<x.length):(x.set i a).getD j 0=if i=j then a else x.getD j 0:=by
 rw[gDg];by_cases e:i=j
 ·subst e;rw[fW rfl,getElem?_set_self hi];rfl
 ·rw[fB e,getElem?_set_ne e,← gDg]
theorem Aoz{j:Nat}(h:Ru n R.length R (lv R)):∀ i,i<=R.length->∀ t,t<i->(bvT p n R j i).getD (lv R t) 0=(p - en R t j) % p
 | 0,_,t,ht=>by omega
 | i+1,hi,t,ht=>by
  unfold bvT;rw[Vr (by rw[Xm];exact h.lt i oM)];by_cases e:i=t
  ·subst e;rw[fW rfl]
  ·have:=h.mono t i oM oM;rw[fB oM];exact Aoz h i oM t oM
theorem Ad3{j q:Nat}(h:Ru n R.length R (lv R))(hj:j<n):∀ i,i<=R.length->(∀ t,t<i->lv R t≠q)->(bvT p n R j i).getD q 0=if j=q then 1 else 0
 | 0,_,_=>by
  unfold bvT;rw[Vr (by simpa using hj)];by_cases e:j=q
  ·rw[fW e,fW e]
  ·rw[fB e,fB e,gDg,getElem?_replicate];split <;> rfl
 | i+1,hi,hq=>by
  unfold bvT;rw[Vr (by rw[Xm];exact h.lt i oM),fB (hq i oM)];exact Ad3 h hj i oM fun t ht=>hq t oM
theorem Vb(hp:2<=p):MatW p n (Ts p n R):=fun x hx=>by
 obtain ⟨j,_,rfl⟩:=mem_map.1 hx;exact ⟨Xm _,Asj hp _⟩
theorem Aku:(Ts p n R).length<=n:=by
 unfold Ts Abg;rw[length_map];exact Nat.le_trans (length_filter_le ..) fS
theorem Axr(hp:2<=p)(h:Ru n R.length R (lv R)):A0w p n R (lv R) (Ts p n R):=by
 have hb:∀ j,j<n->pvs R.length (lv R) j=false->Cg p ((bvT p n R j R.length).getD j 0) 1/\(∀ i,i<R.length->Cg p ((bvT p n R j R.length).getD (lv R i) 0) (-en R i j))/\∀ q,q<n->q≠j->pvs R.length (lv R) q=false->Cg p ((bvT p n R j R.length).getD q 0) 0:=fun j hj hf=>by
  refine ⟨?_,fun i hi=>?_,fun q _ hne hfq=>?_⟩
  ·rw[Ad3 h hj _ (fQ _) fun t ht=>Aoy hf ht,fW rfl];exact Cg.rf
  ·rw[Aoz h _ (fQ _) i hi];exact Cg.md.trans ⟨1,by omega⟩
  ·rw[Ad3 h hj _ (fQ _) fun t ht=>Aoy hfq ht,fB (Ne.symm hne)];exact Cg.rf
 have he:∀ t j,(Abg n R)[t]? =some j->∀ q,en (Ts p n R) t q=(bvT p n R j R.length).getD q 0:=fun t j ht q=>by
  unfold en Ts;rw[Bw (x:=bvT p n R j R.length) (by rw[getElem?_map,ht];rfl)]
 have hl:(Ts p n R).length=(Abg n R).length:=length_map ..;refine ⟨fun j hj hf=>?_,fun t ht=>?_⟩
 ·have hm:j∈Abg n R:=mem_filter.2 ⟨mem_range.2 hj,by rw[hf];rfl⟩;have ⟨t,ht,e⟩:=getElem_of_mem hm;have h1:(Abg n R)[t]? =some j:=by rw[gEg ht,e]
  refine ⟨t,by omega,?_⟩;simp only[he t j h1];exact hb j hj hf
 ·have ⟨j,hj⟩:=Lw (show t<(Abg n R).length by omega);have hm:=mem_filter.1<|mem_of_getElem? hj;have hjn:=mem_range.1 hm.1;have hf:pvs R.length (lv R) j=false:=by simpa using hm.2
  refine ⟨j,hjn,hf,?_⟩;simp only[he t j hj];exact hb j hjn hf
theorem Asq{f:Nat->Int}(hp:isF p=true)(hm:MatW p n m):D2 p n (Ts p n (gj p n m)) f↔Qg p n m f:=by
 have hb:=Dh hp;have ⟨⟨pv,h1⟩,h2⟩:=Xl hb.1 (Aea hp) hm;have h3:=Ahy h1 (U5 hb.1 hm)<|fQ n;refine (Aqg h3<|Axr hb.1 h3).trans ⟨Ao6 fun i hi=>(h2 _).2<|Dk hi,Ao6 fun i hi=>(h2 _).1<|Dk hi⟩
theorem Acf{x:Int}(hp:2<=p/\p<=97)(hx:0<=x/\x<p):Ge p x=some ((p - x) % p):=by
 unfold Ge;rw[Af oM,Bi oM oM,Int.tmod_eq_emod_of_nonneg oM]
theorem Aff(hp:isF p=true)(hm:MatW p n m)(hn:n<=1000)(hl:m.length<=100000):Ko p (n:Int) m=some (O0 p n m):=by
 have hb:=Dh hp;have ⟨⟨pv,h1⟩,_⟩:=Xl hb.1 (Aea hp) hm;have hRm:=U5 (n:=n) hb.1 hm;have h:=Ahy h1 hRm<|fQ n
 have hRl:(gj p n m).length<=n:=by
  have:=Afm (k:=n) (u:=id) (fun i j h _=>h) h.mono;refine Nat.le_of_not_lt fun hlt=>?_
  have hge:∀ i,i<(gj p n m).length->i<=lv (gj p n m) i:=by
   intro i
   induction i with
   | zero=>intro _;omega
   | succ i ih=>intro hi;have:=ih oM;have:=h.mono i (i+1) oM hi;omega
  have:=hge n hlt;have:=h.lt n hlt;omega
 unfold Ko O0;rw[Ta hp hm (fQ n) oM hl,obs,Af oM,fX];generalize gj p n m=R at *
 have l1:Aq (fun s_:Nat×List Int=>Jz (n:Int) s_.1 s_.2) 4611686018427387904 (0,replicate n 0)=some (ldT n R 0):=by
  refine Xy (y:=ldT n R 0) (by simp[ldT]) sO (fun j hj z hz=>?_) ?_
  ·simp at hj
   try dsimp only
   unfold Jz;rw[fX,fH oM,hz,obs,Af oM];simp[ldT]
  ·try dsimp only
   unfold Jz;rw[fX,fJ fS]
 have hrow:∀ i,i<R.length->R[i]? =some (R.getD i [])/\VecW p n (R.getD i []):=fun i hi=>⟨by rw[gEg hi,Bw (gEg hi)],hRm _<|Ov hi⟩
 have l2:Aq (fun s_:Nat×List Int=>Ju R s_.1 s_.2) 4611686018427387904 (0,ldT n R 0)=some (ldT n R R.length):=by
  refine Bg R.length (fun i=>(i,ldT n R i)) oM _ rfl (fun i hi=>?_) ?_
  ·have ⟨g1,g2⟩:=hrow i hi;have hlt:=h.lt i hi;have ⟨x,hx⟩:=Lw (m:=ldT n R i) (i:=lv R i) (by rw[Aia];exact hlt)
   try dsimp only
   unfold Ju;rw[fH oM,g1,obs,Akz _ (by rw[g2.1];exact hn),obs,B9 oM,fX,show (ldT n R i)[Sd (R.getD i [])]? =some x from hx,obs,Af oM];rfl
  ·try dsimp only
   unfold Ju;rw[fJ oM]
 have l4:∀ j,j<n->Aq (fun s_:Nat×List Int=>Jr R j p s_.1 s_.2) 4611686018427387904 (0,(replicate n 0).set j 1)=some (bvT p n R j R.length):=fun j hj=>by
  refine Bg R.length (fun i=>(i,bvT p n R j i)) oM _ rfl (fun i hi=>?_) ?_
  ·have ⟨g1,g2⟩:=hrow i hi;have hlt:=h.lt i hi;have ⟨q1,q2,q3⟩:=Hl g2 hj;have ⟨x,hx⟩:=Lw (m:=bvT p n R j i) (i:=lv R i) (by rw[Xm];exact hlt)
   try dsimp only
   unfold Jr;rw[fH oM,g1,obs,Akz _ (by rw[g2.1];exact hn),obs,q3,obs,Acf hb ⟨q1,q2⟩,obs,B9 oM,fX,show (bvT p n R j i)[Sd (R.getD i [])]? =some x from hx,obs,Af oM];rfl
  ·try dsimp only
   unfold Jr;rw[fJ oM]
 have l3:Aq (fun s_:Nat×ZA=>Jt (n:Int) (ldT n R R.length) R p s_.1 s_.2) 4611686018427387904 (0,[])=some (Ts p n R):=by
  refine Bg n (fun k=>(k,((range k).filter fun j=> !pvs R.length (lv R) j).map fun j=>bvT p n R j R.length)) oM _ rfl (fun k hk=>?_) ?_
  ·have ⟨v,v1,v2⟩:=Att h.lt hk R.length<|fQ _
   have hle:(((range k).filter fun j=> !pvs R.length (lv R) j).map fun j=>bvT p n R j R.length).length<=k:=by
    rw[length_map];exact Nat.le_trans (length_filter_le ..) fS
   try dsimp only
   unfold Jt;rw[fH oM,v1,obs,v2,range_succ,filter_append];cases hc:pvs R.length (lv R) k
   ·rw[fY,Af oM,fX,getElem?_replicate,fW hk,obs,l4 k hk,obs,Af oM,obs,Af oM];simp[hc]
   ·rw[fZ,obs,Af oM];simp[hc]
  ·try dsimp only
   unfold Jt;rw[fJ oM];rfl
 rw[l1,obs,l2,obs,l3,obs,Ta hp (Vb hb.1) (fQ n) oM<|Nat.le_trans Aku oM,obs]
def trV(m:ZA)(n:Nat):ZA:=(range n).map fun j=>m.map fun x=>x.getD j 0
def unV(n k:Nat):List Int:=(replicate n 0).set k 1
def idV(n:Nat):ZA:=(range n).map (unV n)
theorem Apt{k:Nat}(hk:k<n)(hn:n<=1000):Ly (n:Int) (k:Int)=some (unV n k):=by
 unfold Ly;rw[Sv oM,obs,B9 oM,fX,fX,getElem?_replicate,fW hk,obs];rfl
theorem Afq(hn:n<=1000):Gm (n:Int)=some (idV n):=by
 unfold Gm
 have key:Aq (fun s_:Nat×ZA=>Fc (n:Int) s_.1 s_.2) 4611686018427387904 (0,[])=some (idV n):=by
  refine Bg n (fun k=>(k,(range k).map<|unV n)) oM _ rfl (fun k hk=>?_) ?_
  ·try dsimp only
   unfold Fc;rw[fH oM,Apt hk hn,obs,Af sO,Af oM,range_succ,map_append];rfl
  ·try dsimp only
   unfold Fc;rw[fJ oM];rfl
 rw[key,obs]
theorem Aco{k:Nat}(hp:2<=p):VecW p n (unV n k):=⟨by simp[unV],fun a ha=>by
 rcases mem_or_eq_of_mem_set ha with ha|rfl
 ·obtain rfl:=(mem_replicate.1 ha).2;omega
 ·omega⟩
theorem Ani{k j:Nat}(hk:k<n):(unV n k).getD j 0=if j=k then 1 else 0:=by
 unfold unV;rw[Vr (by simpa using hk)];by_cases e:k=j
 ·rw[fW e,fW e.symm]
 ·rw[fB e,fB<|Ne.symm e,gDg,getElem?_replicate];split <;> rfl
def wiV(m:ZA)(n:Nat):ZA:=(range n).map fun j=>(m.map fun x=>x.getD j 0)++unV n j
theorem Aq8(hp:isF p=true)(hm:MatW p n m)(hn:n<=1000)(hl:m.length<=1000):Kx p (trV m n) (m.length:Int)=some (O0 p n m):=by
 have hb:=Dh hp;have hwl:(wiV m n).length=n:=by simp[wiV]
 have hcol:∀ j,VecW p m.length (m.map fun x=>x.getD j 0):=fun j=>⟨by simp,fun a ha=>by
  obtain ⟨x,hx,rfl⟩:=mem_map.1 ha;by_cases hj:j<n
  ·have ⟨q1,q2,_⟩:=Hl (hm x hx) hj;exact ⟨q1,q2⟩
  ·have:=(hm x hx).1;rw[gDg,getElem?_eq_none oM];simp;omega⟩
 have hW:MatW p (m.length+n) (wiV m n):=fun x hx=>by
  obtain ⟨j,_,rfl⟩:=mem_map.1 hx;refine ⟨by rw[length_append,(hcol j).1,(Aco (k:=j) (n:=n) hb.1).1],fun a ha=>?_⟩;rcases mem_append.1 ha with ha|ha
  ·exact (hcol j).2 a ha
  ·exact (Aco hb.1).2 a ha
 have e1:rdW m.length (wiV m n)=trV m n:=by
  unfold rdW wiV trV;rw[map_map];exact map_congr_left fun j _=>take_left' fS
 have e2:alW m.length (wiV m n)=idV n:=by
  unfold alW wiV idV;rw[map_map];exact map_congr_left fun j _=>drop_left' fS
 have ⟨g1,g2,g3⟩:=Nn hb.1 hW m.length;have hred:=Abc hp hW (fQ m.length) (show m.length<=m.length+n by omega) oM oM;rw[e1,e2]at hred
 have hmat:MatW p n (((gjT p (wiV m n) m.length).2.drop (gjT p (wiV m n) m.length).1).map (·.drop m.length)):=fun x hx=>by
  obtain ⟨y,hy,rfl⟩:=mem_map.1 hx;have:=(g1 y<|mem_of_mem_drop hy).dr (u:=m.length)
  rwa [Nat.add_sub_cancel_left]at this
 have hdr:(alW m.length (gjT p (wiV m n) m.length).2).drop (gjT p (wiV m n) m.length).1=((gjT p (wiV m n) m.length).2.drop (gjT p (wiV m n) m.length).1).map (·.drop m.length):=by
  unfold alW;rw[map_drop]
 have htm:MatW p m.length (trV m n):=fun x hx=>by
  obtain ⟨j,_,rfl⟩:=mem_map.1 hx;exact hcol j
 have htl:(trV m n).length=n:=by simp[trV]
 have hil:(idV n).length=n:=by simp[idV]
 have key:gj p n (((gjT p (wiV m n) m.length).2.drop (gjT p (wiV m n) m.length).1).map (·.drop m.length))=O0 p n m:=by
  refine Axv hb.1 (Aea hp) hmat (Vb hb.1) fun f=>?_
  refine (Arv (A:=m) hb.1 (Aea hp) hW hwl rfl (fun t ht i hi=>?_) fun t ht j hj=>?_).trans (Asq hp hm).symm
  ·unfold en;have h1:(wiV m n)[t]? =some ((m.map fun x=>x.getD t 0)++unV n t):=by simp[wiV,ht]
   rw[Bw h1,gDg,getElem?_append_left (by simpa using hi),getElem?_map,gEg hi,Bw (m:=m) (gEg hi)];rfl
  ·unfold en;have h1:(wiV m n)[t]? =some ((m.map fun x=>x.getD t 0)++unV n t):=by simp[wiV,ht]
   rw[Bw h1,gDg,getElem?_append_right fS,length_map,Nat.add_sub_cancel_left,← gDg,Ani ht]
 unfold Kx;rw[Acv htm oM oM,obs,htl,Afq hn,obs,hred,obs];have a1:(rdW m.length (gjT p (wiV m n) m.length).2).length=n:=by simp only[rdW,length_map];omega
 have a2:(alW m.length (gjT p (wiV m n) m.length).2).length=(idV n).length:=by simp only[alW,length_map];omega
 dsimp only;rw[Af a1,Af a2,Af oM,hdr,Z1 hp hmat oM sO,obs,key]
theorem A06(hm:MatW p n m):trV (trV m n) m.length=m:=by
 refine ext_getElem (by simp[trV]) fun i h1 h2=>?_
 have hx:=hm _<|getElem_mem h2;simp only[trV,getElem_map,getElem_range,map_map];refine ext_getElem (by simp[hx.1]) fun j h3 h4=>?_
 simp only[length_map,length_range]at h3;simp only[getElem_map,getElem_range,Function.comp_apply,gDg,getElem?_map,gEg h2,gEg h4,Option.map_some,Option.getD_some]
theorem Az3(hm:MatW p n m):MatW p m.length (trV m n):=fun x hx=>by
 obtain ⟨j,hj,rfl⟩:=mem_map.1 hx;refine ⟨by simp,fun a ha=>?_⟩;obtain ⟨y,hy,rfl⟩:=mem_map.1 ha;have:=Hl (hm y hy) (mem_range.1 hj);exact ⟨this.1,this.2.1⟩
theorem At5:(trV m n).length=n:=by simp[trV]
theorem Auh(hp:isF p=true)(hm:MatW p n m)(hn:n<=1000)(hl:m.length<=1000):Kx p m (n:Int)=some (O0 p m.length (trV m n)):=by
 have:=Aq8 (m:=trV m n) (n:=m.length) hp (Az3 hm) hl (by rw[At5];exact hn)
 rwa [A06 hm,At5]at this
end
end
section
section
variable{p:Int}{la mi rb:Nat}{A B:ZA}
theorem Apk{l r l' r':Int}{m m':ZA}{n la:Nat}(hm:MatW p n m)(hl:m.length<=1000)(hla:(la:Int)=l')(hn:la<=n):Bj l r m l' r' m'=some (m.map (·.drop la)):=by
 subst hla;unfold Bj;rw[Dl m (·.drop la) [] oM (m.map (·.drop la)) (fun i x hx=>?_) ?_,obs]
 rotate_left
 ·have hi:=Ai hx;have hxl:=(hm x<|mem_of_getElem? hx).1
  try dsimp only
  unfold Bx Bq;rw[fH oM,hx,obs,Af oM,obs];simp only[fX];rw[Af sO,Af oM]
 ·try dsimp only
  unfold Bx;rw[fJ oM,nil_append]
theorem Ap8{l r l' r':Int}{m m':ZA}{n la:Nat}(hm:MatW p n m)(hl:m.length<=1000)(hla:(la:Int)=l')(hn:la<=n):Bk l r m l' r' m'=some (m.map (·.take la)):=by
 subst hla;unfold Bk;rw[Dl m (·.take la) [] oM (m.map (·.take la)) (fun i x hx=>?_) ?_,obs]
 rotate_left
 ·have hi:=Ai hx;have hxl:=(hm x<|mem_of_getElem? hx).1
  try dsimp only
  unfold B3 Bs;rw[fH oM,hx,obs,Af oM,obs];simp only[fX];rw[Af sO,Af oM]
 ·try dsimp only
  unfold B3;rw[fJ oM,nil_append]
def Vg(p:Int)(x:List Int):List Int:=x.map fun a=>(p - a) % p
theorem Ap3{x:List Int}{n:Nat}(hp:2<=p)(h:x.length=n):VecW p n (Vg p x):=⟨by simp[Vg,h],fun a ha=>by obtain ⟨b,_,rfl⟩:=mem_map.1 ha;exact Ut hp⟩
theorem Avq{x:List Int}{n:Nat}(hp:2<=p/\p<=97)(hx:VecW p n x)(hn:n<=1000):Cy p (replicate n 0) (-1) x=some (Vg p x):=by
 have hl:=hx.1;unfold Cy;refine Xy (x:=replicate n 0) (y:=Vg p x) (by simp[Vg];omega) sO (fun j hj z hz=>?_) ?_
 ·rw[length_replicate]at hj;have h1:=Pv hx (j:=j) oM
  try dsimp only
  unfold De;rw[fH oM,gEg (show j<x.length by omega),obs,hz,obs];simp only[getElem_replicate];rw[Bi (n:= -1*x[j]) oM oM,Bi oM oM,Avm hp,obs,Af oM]
  have e:(0+ -1*x[j]) % p=(Vg p x)[j]'(by simp[Vg];omega):=by
   simp only[Vg,getElem_map];rw[show (0+ -1*x[j])= -x[j] by omega,show p - x[j]= -x[j]+p by omega,Int.add_emod_right]
  rw[e]
 ·try dsimp only
  unfold De;rw[length_replicate]at *;rw[fJ oM]
theorem At0{x v:List Int}{f:Int}{n:Nat}(hp:2<=p/\p<=97)(hx:VecW p n x)(hv:VecW p n v)(hn:n<=1000)(hf:0<=f/\f<p):Cy p x f v=some (List.zipWith (fun a b=>(a+f*b) % p) x v):=by
 have hl:=hx.1;have hl':=hv.1;unfold Cy;refine Xy (y:=List.zipWith (fun a b=>(a+f*b) % p) x v) sO oM (fun j hj z hz=>?_) ?_
 ·have h1:=Pv hx hj;have h2:=Pv hv (j:=j) oM;have h3:=Aes hp hf h2
  try dsimp only
  unfold De;rw[fH oM,gEg (show j<v.length by omega),obs,hz,obs,Bi (n:=f*v[j]) oM oM,Bi oM oM,Avm hp,obs,Af oM,getElem_zipWith]
 ·try dsimp only
  unfold De;rw[fJ oM]
theorem Ag9{m:ZA}{c:List Int}{n:Nat}(hp:2<=p/\p<=97)(hm:MatW p n m)(hc:VecW p m.length c)(hn:n<=1000)(hl:m.length<=1000):Jh p c m (n:Int)=some (spV p n m c m.length):=by
 unfold Jh;rw[Sv oM,obs,fX];rw[Bg (s0:=(0,replicate n 0)) m.length (fun i=>(i,spV p n m c i)) oM (spV p n m c m.length) rfl (fun i hi=>?_) ?_,obs]
 rotate_left
 ·have h1:=Qj (c:=c) hp.1 hm i oM;have h3:=Qj (c:=c) hp.1 hm (i+1) oM;have h2:=hm _<|getElem_mem hi;have hcc:=hc.1;have hci:=Pv hc (j:=i) oM
  try dsimp only
  unfold Mk;rw[fH oM,gEg hi,obs,gEg (show i<c.length by omega),obs,At0 hp h1 h2 hn hci,obs]
  have e:List.zipWith (fun a b=>(a+c[i]'oM*b) % p) (spV p n m c i) m[i]=spV p n m c (i+1):=by
   simp only[spV,Bw<|gEg (show i<c.length by omega),Bw (m:=m) (gEg hi)]
  rw[e,Af (by rw[h1.1,h3.1]),Af oM]
 ·try dsimp only
  unfold Mk;rw[fJ oM]
theorem Apy{m:ZA}{c:List Int}{n k:Nat}(hk:k<=n):∀ i,(spV p n m c i).take k=spV p k (m.map (·.take k)) c i
 | 0=>by simp[spV,take_replicate,Nat.min_eq_left hk]
 | i+1=>by simp only[spV,take_zipWith,Apy hk i,Ue (f:=fun x:List Int=>x.take k) fS]
theorem Aox{m:ZA}{c:List Int}{n k:Nat}:∀ i,(spV p n m c i).drop k=spV p (n - k) (m.map (·.drop k)) c i
 | 0=>by simp[spV]
 | i+1=>by simp only[spV,drop_zipWith,Aox i,Ue (f:=fun x:List Int=>x.drop k) fS]
theorem Ame(xs:ZA)(h:xs.length<=100)(hl:∀ k,((xs.take k).flatten).length<=100000):Dn xs=some xs.flatten:=by
 unfold Dn;rw[Bg (s0:=(0,[])) xs.length (fun i=>(i,(xs.take i).flatten)) oM xs.flatten rfl (fun i hi=>?_) ?_,obs]
 rotate_left
 ·have hx:=gEg hi;have h2:=hl<|i+1;rw[take_add_one,hx,flatten_append,length_append]at h2;simp only[Option.toList,flatten_cons,flatten_nil,append_nil]at h2
  try dsimp only
  unfold Nf;rw[fH oM,hx,obs,Af oM,Af oM,take_add_one,hx,flatten_append];simp
 ·try dsimp only
  unfold Nf;rw[fJ oM,take_length]
theorem Agz(x y:List Int)(h:x.length+y.length<=100000):Dn [x,y]=some (x++y):=by
 rw[Ame _ fS (fun k=>?_)]
 ·simp
 ·have h1:((([x,y].take k).flatten).length)<=(([x,y]:ZA).flatten).length:=by
   conv=>rhs;rw[← take_append_drop k [x,y],flatten_append,length_append]
   omega
  simp only[flatten_cons,flatten_nil,length_append,length_nil]at h1;omega
def Z7(p:Int)(la mi:Nat)(A B:ZA):ZA:=trV (A.map (·.drop la)++B.map fun x=>Vg p (x.take mi)) mi
def Ajd(p:Int)(la mi rb:Nat)(A B:ZA)(c:List Int):List Int:=spV p la (A.map (·.take la)) (c.take A.length) A.length++spV p rb (B.map (·.drop mi)) (c.drop A.length) B.length
def Az7(p:Int)(la mi rb:Nat)(A B:ZA):ZA:=gj p (la+rb) ((O0 p (A.length+B.length) (Z7 p la mi A B)).map (Ajd p la mi rb A B))
theorem Axx(hp:2<=p)(hA:MatW p (la+mi) A)(hB:MatW p (mi+rb) B):MatW p mi (A.map (·.drop la)++B.map fun x=>Vg p (x.take mi)):=by
 intro x hx;rcases mem_append.1 hx with h|h
 ·have:=(MatW.dr (u:=la) hA) x h
  rwa [Nat.add_sub_cancel_left]at this
 ·obtain ⟨y,hy,rfl⟩:=mem_map.1 h;exact Ap3 hp (by rw[length_take,(hB y hy).1];omega)
theorem Aip{n:Nat}{m:ZA}(hp:2<=p):MatW p n (O0 p n m):=U5 hp (Vb hp)
theorem Aif{n:Nat}{m:ZA}(hp:2<=p):(O0 p n m).length<=n:=by
 unfold O0;have h:=Nn (p:=p) hp (Vb (n:=n) (R:=gj p n m) hp) n;rw[Ajs hp (Vb hp)];exact Nat.le_trans h.2.1 (by rw[h.2.2];exact Aku)
theorem P3{l r:Nat}{m:ZA}(hp:isF p=true)(hm:MatW p (l+r) m)(hw:l+r<=1000)(hl:m.length<=100000):Ca p (l:Int) (r:Int) m=some ((l:Int),(r:Int),gj p (l+r) m):=by
 unfold Ca;rw[Bi oM oM,show ((l:Int)+(r:Int))=((l+r:Nat):Int) by omega,Z1 hp hm oM hl,obs]
theorem Aje{l r:Nat}{m:ZA}(hp:isF p=true)(hm:MatW p (l+r) m)(hw:l+r<=1000)(hl:m.length<=100000):Lz p (l:Int) (r:Int) m=some ((l:Int),(r:Int),gj p (l+r) m):=by
 unfold Lz;rw[Bi oM oM,show ((l:Int)+(r:Int))=((l+r:Nat):Int) by omega,Ta hp hm (fQ _) oM hl,obs]
theorem Aob{c:List Int}(hp:2<=p)(hA:MatW p (la+mi) A)(hB:MatW p (mi+rb) B):VecW p (la+rb) (Ajd p la mi rb A B c):=by
 have h1:=Qj (c:=c.take A.length) hp (MatW.tk hA<|Nat.le_add_right la mi) (A.map (·.take la)).length<|fQ _;have h2:=Qj (c:=c.drop A.length) hp (MatW.dr (u:=mi) hB) (B.map (·.drop mi)).length<|fQ _;rw[Nat.add_sub_cancel_left]at h2;rw[length_map]at h1 h2;refine ⟨by unfold Ajd;rw[length_append,h1.1,h2.1],fun a ha=>?_⟩;rcases mem_append.1 ha with h|h
 ·exact h1.2 a h
 ·exact h2.2 a h
theorem An6(hp:isF p=true)(hA:MatW p (la+mi) A)(hB:MatW p (mi+rb) B)(hla:la+mi<=100)(hrb:mi+rb<=100)(lA:A.length<=100)(lB:B.length<=100):
  F4 p (la:Int) (mi:Int) A (mi:Int) (rb:Int) B=some ((la:Int),(rb:Int),Az7 p la mi rb A B):=by
 have hb:=Dh hp;have hM:=Axx hb.1 hA hB;unfold F4;rw[Apk hA oM rfl oM,obs,Ap8 hB oM rfl oM,obs];rw[Dl (B.map (·.take mi)) (Vg p) (A.map (·.drop la)) (by rw[length_map];omega) (A.map (·.drop la)++B.map fun x=>Vg p<|x.take mi) (fun i x hx=>?_) ?_,obs]
 ·rw[Ap8 hA oM rfl oM,obs,Apk hB oM rfl oM,obs,Auh hp hM oM sO,obs];have hN:=Aip (p:=p) (n:=A.length+B.length) (m:=Z7 p la mi A B) hb.1;have hNl:=Aif (p:=p) (n:=A.length+B.length) (m:=Z7 p la mi A B) hb.1
  have e0:O0 p (A.map (·.drop la)++B.map fun x=>Vg p<|x.take mi).length (trV (A.map (·.drop la)++B.map fun x=>Vg p<|x.take mi) mi)=O0 p (A.length+B.length) (Z7 p la mi A B):=by
   rw[length_append,length_map,length_map];rfl
  rw[e0];rw[Dl (O0 p (A.length+B.length)<|Z7 p la mi A B) (Ajd p la mi rb A B) [] oM ((O0 p (A.length+B.length)<|Z7 p la mi A B).map<|Ajd p la mi rb A B) (fun i x hx=>?_) ?_,obs,P3 hp (fun y hy=>by obtain ⟨c,_,rfl⟩:=mem_map.1 hy;exact Aob hb.1 hA hB) oM (by rw[length_map];omega),obs]
  ·rfl
  rotate_left
  ·have hi:=Ai hx;have hxv:=hN x<|mem_of_getElem? hx;have hxl:=hxv.1;have hF:=MatW.tk hA<|Nat.le_add_right la mi;have hS:=MatW.dr (u:=mi) hB;rw[Nat.add_sub_cancel_left]at hS;have h1:=Qj (c:=x.take A.length) hb.1 hF (A.map (·.take la)).length<|fQ _;have h2:=Qj (c:=x.drop A.length) hb.1 hS (B.map (·.drop mi)).length<|fQ _
   try dsimp only
   unfold Ls;rw[fH oM,hx,obs,length_map,Af oM];rw[Ag9 hb hF (by rw[length_map];exact hxv.tk oM) oM (by rw[length_map];omega),obs,Af oM];rw[Ag9 hb hS (by rw[length_map];have:=hxv.dr (u:=A.length);rwa [Nat.add_sub_cancel_left]at this) oM (by rw[length_map];omega),obs];rw[Agz _ _ (by rw[h1.1,h2.1];omega),obs,Af sO,Af oM];simp only[length_map,Ajd]
  ·try dsimp only
   unfold Ls;rw[fJ oM,nil_append]
 rotate_left
 ·have hi:=Ai hx;rw[length_map]at hi;have hxv:=(MatW.tk hB<|Nat.le_add_right mi rb) x<|mem_of_getElem? hx;have hn:=(Ap3 (p:=p) hb.1 hxv.1).1
  try dsimp only
  unfold Lm;rw[length_map,fH oM,hx,obs,hxv.1,Sv oM,obs,fX,Avq hb hxv oM,obs,Af (by rw[length_replicate,hn]),Af sO,Af oM]
 ·try dsimp only
  unfold Lm;rw[length_map,fJ oM,map_map];rfl
end
end
section
section
variable{p:Int}{la mi rb:Nat}{A B:ZA}
def Aed(p:Int)(la:Nat)(A B:ZA)(j:Nat):List Int:=(A.map fun x=>x.getD (la+j) 0)++B.map fun x=>(p - x.getD j 0) % p
theorem Avn{x:List Int}{j:Nat}(h:j<x.length):(Vg p x).getD j 0=(p - x.getD j 0) % p:=by
 unfold Vg;rw[gDg,getElem?_map,gDg,gEg h];rfl
theorem Ar8(hA:MatW p (la+mi) A)(hB:MatW p (mi+rb) B):Z7 p la mi A B=(range mi).map (Aed p la A B):=by
 unfold Z7 trV;refine map_congr_left fun j hj=>?_
 have hj:=mem_range.1 hj;unfold Aed;rw[map_append,map_map,map_map];congr 1
 ·refine map_congr_left fun x _=>?_
  show (x.drop la).getD j 0=_;rw[gDg,gDg,getElem?_drop]
 ·refine map_congr_left fun x hx=>?_
  have hxl:=(hB x hx).1;show (Vg p<|x.take mi).getD j 0=_;rw[Avn (by rw[length_take];omega),gDg,getElem?_take,fW hj,← gDg]
theorem Aay{α:Type}{R:List α}{j:Nat}{x y:α}:(R.set j x).set j y=R.set j y:=set_set ..
theorem Azf{R:ZA}{j:Nat}(hA:MatW p (la+mi) A)(hj:j<mi)(hR:R[j]? =some [])(hla:la+mi<=100)(lA:A.length<=100):
  Aq (fun s_:Nat×ZA=>Gs A j (la:Int) s_.1 s_.2) 4611686018427387904 (0,R)=some (R.set j (A.map fun x=>x.getD (la+j) 0)):=by
 have hjl:j<R.length:=Ai hR;refine Bg A.length (fun i=>(i,R.set j ((A.take i).map fun x=>x.getD (la+j) 0))) oM _ ?_ (fun i hi=>?_) ?_
 ·have:R.set j []=R:=by
   have e:=(gSi.1 hR)
   have ⟨h1,h2⟩:=e
   conv=>lhs;rw[← h2]
   exact set_getElem_self h1
  simp[this]
 ·have hx:=gEg hi;have hxv:=hA _<|getElem_mem hi;have hg:=Hl hxv (j:=la+j) oM
  try dsimp only
  unfold Gs;rw[fH oM,hx,obs,getElem?_set_self hjl,obs,Bi oM oM,B9 oM,show ((la:Int)+(j:Int)).toNat=la+j by omega,hg.2.2,obs,Af sO,Af oM,Aay,take_add_one,hx,map_append];rfl
 ·try dsimp only
  unfold Gs;rw[fJ oM,take_length]
theorem A0h{R:ZA}{j:Nat}{x0:List Int}(hp:2<=p/\p<=97)(hB:MatW p (mi+rb) B)(hj:j<mi)(hR:R[j]? =some x0)(h0:x0.length<=1000)(lB:B.length<=100):
  Aq (fun s_:Nat×ZA=>Gv B j p s_.1 s_.2) 4611686018427387904 (0,R)=some (R.set j (x0++B.map fun x=>(p - x.getD j 0) % p)):=by
 have hjl:j<R.length:=Ai hR;refine Bg B.length (fun i=>(i,R.set j (x0++(B.take i).map fun x=>(p - x.getD j 0) % p))) oM _ ?_ (fun i hi=>?_) ?_
 ·have:R.set j x0=R:=by
   have ⟨h1,h2⟩:=(gSi.1 hR)
   conv=>lhs;rw[← h2]
   exact set_getElem_self h1
  simp[this]
 ·have hx:=gEg hi;have hxv:=hB _<|getElem_mem hi;have hg:=Hl hxv (j:=j) oM
  try dsimp only
  unfold Gv;rw[fH oM,hx,obs,getElem?_set_self hjl,obs,hg.2.2,obs,Acf hp ⟨hg.1,hg.2.1⟩,obs,Af sO,Af oM,Aay,take_add_one,hx,map_append,← append_assoc];rfl
 ·try dsimp only
  unfold Gv;rw[fJ oM,take_length]
theorem Akl(hp:isF p=true)(hA:MatW p (la+mi) A)(hB:MatW p (mi+rb) B)(hla:la+mi<=100)(hrb:mi+rb<=100)(lA:A.length<=100)(lB:B.length<=100){x:Int}:
  Fi p (la:Int) (mi:Int) A x (rb:Int) B=some ((la:Int),(rb:Int),Az7 p la mi rb A B):=by
 have hb:=Dh hp;unfold Fi;rw[Af oM,fX];rw[Bg (s0:=(0,replicate mi [])) mi (fun j=>(j,((range mi).map<|Aed p la A B).take j++replicate (mi - j) [])) oM ((range mi).map<|Aed p la A B) fS (fun j hj=>?_) ?_,obs]
 ·rw[Bi oM oM,show ((A.length:Nat):Int)+((B.length:Nat):Int)=((A.length+B.length:Nat):Int) by omega]
  have hmm:MatW p (A.length+B.length) ((range mi).map<|Aed p la A B):=fun y hy=>by
   obtain ⟨j,hj,rfl⟩:=mem_map.1 hy;have hj:=mem_range.1 hj;refine ⟨by simp[Aed],fun a ha=>?_⟩;rcases mem_append.1 ha with h|h
   ·obtain ⟨x,hx,rfl⟩:=mem_map.1 h;have:=Hl (hA x hx) (j:=la+j) oM;exact ⟨this.1,this.2.1⟩
   ·obtain ⟨x,hx,rfl⟩:=mem_map.1 h;exact Ut hb.1
  rw[Aff hp hmm oM sO,obs,← Ar8 hA hB];have hN:=Aip (p:=p) (n:=A.length+B.length) (m:=Z7 p la mi A B) hb.1;have hNl:=Aif (p:=p) (n:=A.length+B.length) (m:=Z7 p la mi A B) hb.1;rw[Dl (O0 p (A.length+B.length)<|Z7 p la mi A B) (Ajd p la mi rb A B) [] oM ((O0 p (A.length+B.length)<|Z7 p la mi A B).map<|Ajd p la mi rb A B) (fun i x hx=>?_) ?_,obs,Aje hp (fun y hy=>by obtain ⟨c,_,rfl⟩:=mem_map.1 hy;exact Aob hb.1 hA hB) oM (by rw[length_map];omega),obs]
  ·rfl
  rotate_left
  ·have hi:=Ai hx;have hxv:=hN x<|mem_of_getElem? hx;have hxl:=hxv.1;have h1:=Qj (c:=x.take A.length) hb.1 hA A.length<|fQ _;have h2:=Qj (c:=x.drop A.length) hb.1 hB B.length<|fQ _
   try dsimp only
   unfold Kh;rw[fH oM,hx,obs,Af oM,Bi (n:=(la:Int)+(mi:Int)) oM oM,show ((la:Int)+(mi:Int))=((la+mi:Nat):Int) by omega];rw[Ao3 hb hA (hxv.tk oM) oM oM,obs,Af oM,Bi (n:=(mi:Int)+(rb:Int)) oM oM,show ((mi:Int)+(rb:Int))=((mi+rb:Nat):Int) by omega];rw[Ao3 hb hB (by have:=hxv.dr (u:=A.length);rwa [Nat.add_sub_cancel_left]at this) oM oM,obs,h1.1,h2.1,Af oM,fX,fX,Yv _ (by rw[length_take,h1.1];omega),obs,Af oM];have e1:(spV p (la+mi) A (x.take A.length) A.length).take la=spV p la (A.map (·.take la)) (x.take A.length) A.length:=Apy oM _
   have e2:((spV p (mi+rb) B (x.drop A.length) B.length).drop mi).take ((((mi+rb:Nat):Int) - (mi:Int)).toNat)=spV p rb (B.map (·.drop mi)) (x.drop A.length) B.length:=by
    rw[take_of_length_le (by rw[length_drop,h2.1];omega),Aox,Nat.add_sub_cancel_left]
   have l1:(spV p la (A.map (·.take la)) (x.take A.length) A.length).length=la:=by rw[← e1,length_take,h1.1];omega
   have l2:(spV p rb (B.map (·.drop mi)) (x.drop A.length) B.length).length=rb:=by rw[← e2,length_take,length_drop,h2.1];omega
   rw[e1,e2,l1,l2,Af oM,Af sO,Af oM];rfl
  ·try dsimp only
   unfold Kh;rw[fJ oM,nil_append]
 rotate_left
 ·have hr:((range mi).map<|Aed p la A B).length=mi:=by simp
  have hg:(((range mi).map<|Aed p la A B).take j++replicate (mi - j) [])[j]? =some []:=by
   rw[getElem?_append_right (by rw[length_take,hr];omega),length_take,hr,Nat.min_eq_left oM,Nat.sub_self,getElem?_replicate,fW oM]
  have hjl:=Ai hg
  try dsimp only
  unfold Kg;rw[fX,fH oM,Azf hA hj hg hla lA,obs,A0h (x0:=A.map fun x=>x.getD (la+j) 0) hb hB hj (getElem?_set_self hjl) (by rw[length_map];omega) lB,obs,Af oM,Aay]
  have e:(((range mi).map<|Aed p la A B).take j++replicate (mi - j) []).set j (Aed p la A B j)=((range mi).map<|Aed p la A B).take (j+1)++replicate (mi - (j+1)) []:=by
   rw[set_append_right _ _ (by rw[length_take,hr];omega),length_take,hr,Nat.min_eq_left oM,Nat.sub_self,show mi - j=(mi - (j+1))+1 by omega,replicate_succ,set_cons_zero,take_add_one,getElem?_map,getElem?_range hj];simp
  rw[← e];rfl
 ·try dsimp only
  unfold Kg;rw[fX,fJ oM,Nat.sub_self,replicate_zero,append_nil,take_of_length_le fS]
end
end
section
theorem Ahw(a b c d:List Int)(h:a.length+b.length+c.length+d.length<=100000):Dn [a,b,c,d]=some (a++(b++(c++d))):=by
 rw[Ame _ fS (fun k=>?_)]
 ·simp
 ·have h1:((([a,b,c,d].take k).flatten).length)<=(([a,b,c,d]:ZA).flatten).length:=by
   conv=>rhs;rw[← take_append_drop k [a,b,c,d],flatten_append,length_append]
   omega
  simp only[flatten_cons,flatten_nil,length_append,length_nil]at h1;omega
section
variable{p:Int}{la ra lb rb:Nat}{A B:ZA}
def Up(la lb rb:Nat)(x:List Int):List Int:=x.take la++(replicate lb 0++(x.drop la++replicate rb 0))
def Wy(la ra lb:Nat)(x:List Int):List Int:=replicate la 0++(x.take lb++(replicate ra 0++x.drop lb))
def Ayy(p:Int)(la ra lb rb:Nat)(A B:ZA):ZA:=gj p ((la+lb)+(ra+rb)) (A.map (Up la lb rb)++B.map (Wy la ra lb))
theorem Acd{n:Nat}(hp:2<=p):inV p (replicate n 0):=fun a ha=>by obtain rfl:=(mem_replicate.1 ha).2;omega
theorem Ash{x:List Int}(hp:2<=p)(hx:VecW p (la+ra) x):VecW p ((la+lb)+(ra+rb)) (Up la lb rb x):=by
 refine ⟨by simp[Up,hx.1];omega,fun a ha=>?_⟩;simp only[Up,mem_append]at ha;rcases ha with h|h|h|h
 ·exact hx.2 a<|mem_of_mem_take h
 ·exact Acd hp a h
 ·exact hx.2 a<|mem_of_mem_drop h
 ·exact Acd hp a h
theorem Ats{x:List Int}(hp:2<=p)(hx:VecW p (lb+rb) x):VecW p ((la+lb)+(ra+rb)) (Wy la ra lb x):=by
 refine ⟨by simp[Wy,hx.1];omega,fun a ha=>?_⟩;simp only[Wy,mem_append]at ha;rcases ha with h|h|h|h
 ·exact Acd hp a h
 ·exact hx.2 a<|mem_of_mem_take h
 ·exact Acd hp a h
 ·exact hx.2 a<|mem_of_mem_drop h
theorem Aii(hp:2<=p)(hA:MatW p (la+ra) A)(hB:MatW p (lb+rb) B):MatW p ((la+lb)+(ra+rb)) (A.map (Up la lb rb)++B.map (Wy la ra lb)):=by
 intro x hx;rcases mem_append.1 hx with h|h
 ·obtain ⟨y,hy,rfl⟩:=mem_map.1 h;exact Ash hp<|hA y hy
 ·obtain ⟨y,hy,rfl⟩:=mem_map.1 h;exact Ats hp<|hB y hy
theorem Asw(hp:isF p=true)(hA:MatW p (la+ra) A)(hB:MatW p (lb+rb) B)(hla:la+ra<=100)(hlb:lb+rb<=100)(lA:A.length<=100)(lB:B.length<=100):
  H8 p (la:Int) (ra:Int) A (lb:Int) (rb:Int) B=some (((la+lb:Nat):Int),((ra+rb:Nat):Int),Ayy p la ra lb rb A B):=by
 have hb:=Dh hp
 have e1:B6 (la:Int) (ra:Int) A (la:Int) (ra:Int) A (lb:Int) (rb:Int) B=some (A.map<|Up la lb rb):=by
  unfold B6;rw[Dl A (Up la lb rb) [] oM (A.map<|Up la lb rb) (fun i x hx=>?_) ?_,obs]
  rotate_left
  ·have hi:=Ai hx;have hxv:=hA x<|mem_of_getElem? hx;have hxl:=hxv.1
   try dsimp only
   unfold Ci O6 Bs Bq;rw[fH oM,hx,obs,Af oM,obs,Sv oM,obs,Af oM,obs,Sv oM,obs];simp only[fX];rw[Ahw _ _ _ _ sO,obs,obs,Af sO,Af oM];rfl
  ·try dsimp only
   unfold Ci;rw[fJ oM,nil_append]
 have e2:B5 (lb:Int) (rb:Int) B (la:Int) (ra:Int) A (lb:Int) (rb:Int) B=some (B.map<|Wy la ra lb):=by
  unfold B5;rw[Dl B (Wy la ra lb) [] oM (B.map<|Wy la ra lb) (fun i x hx=>?_) ?_,obs]
  rotate_left
  ·have hi:=Ai hx;have hxv:=hB x<|mem_of_getElem? hx;have hxl:=hxv.1
   try dsimp only
   unfold Ch O1 Bs Bq;rw[fH oM,hx,obs,Sv oM,obs,Af oM,obs,Sv oM,obs,Af oM,obs];simp only[fX];rw[Ahw _ _ _ _ sO,obs,obs,Af sO,Af oM];rfl
  ·try dsimp only
   unfold Ch;rw[fJ oM,nil_append]
 unfold H8;rw[e1,obs,e2,obs,Af sO,Bi oM oM,Bi oM oM,show ((la:Int)+(lb:Int))=((la+lb:Nat):Int) by omega,show ((ra:Int)+(rb:Int))=((ra+rb:Nat):Int) by omega];rw[P3 hp (Aii hb.1 hA hB) oM sO,obs];rfl
def plc(pos:Nat->Nat)(x:List Int)(n:Nat):Nat->List Int
 | 0=>replicate n 0
 | i+1=>(plc pos x n i).set (pos i) (x.getD i 0)
theorem Zg{pos:Nat->Nat}{x:List Int}{n:Nat}:∀ i,(plc pos x n i).length=n
 | 0=>by simp[plc]
 | i+1=>by rw[plc,length_set];exact Zg i
theorem Aom{pos:Nat->Nat}{x:List Int}{n k:Nat}(hn:∀ j,j<k->pos j<n)(hi:∀ i j,i<k->j<k->pos i=pos j->i=j):∀ i,i<=k->∀ j,j<i->(plc pos x n i)[pos j]? =some (x.getD j 0)
 | 0,_,j,h=>absurd h oM
 | i+1,hk,j,h=>by
  rw[plc];by_cases e:j=i
  ·subst e;exact getElem?_set_self (by rw[Zg];exact hn j oM)
  ·rw[getElem?_set_ne (fun h2=>e (hi j i oM oM h2.symm))];exact Aom hn hi i oM j oM
theorem Aki{pos:Nat->Nat}{x:List Int}{n q:Nat}(hq:q<n):∀ i,(∀ j,j<i->pos j≠q)->(plc pos x n i)[q]? =some 0
 | 0,_=>by rw[plc,getElem?_replicate,fW hq]
 | i+1,h=>by
  rw[plc,getElem?_set_ne (h i oM)];exact Aki hq i fun j hj=>h j oM
theorem Ao9{pos:Nat->Nat}{x T:List Int}{n k:Nat}(hn:∀ j,j<k->pos j<n)(hi:∀ i j,i<k->j<k->pos i=pos j->i=j)(hT:T.length=n)(h1:∀ j,j<k->T[pos j]? =some (x.getD j 0))(h0:∀ q,q<n->(∀ j,j<k->pos j≠q)->T[q]? =some 0):plc pos x n k=T:=by
 refine ext_getElem? fun q=>?_
 by_cases hq:q<n
 ·by_cases he:∃ j,j<k/\pos j=q
  ·obtain ⟨j,hj,rfl⟩:=he;rw[Aom hn hi k (fQ _) j hj,h1 j hj]
  ·have hm:∀ j,j<k->pos j≠q:=fun j hj e=>he ⟨j,hj,e⟩
   rw[Aki hq k hm,h0 q hq hm]
 ·rw[getElem?_eq_none (by rw[Zg];omega),getElem?_eq_none oM]
theorem Acj{x:List Int}{j:Nat}(h:j<x.length):x[j]? =some (x.getD j 0):=by rw[gDg,gEg h];rfl
theorem A1e{x:List Int}(hx:x.length=la+ra):plc (fun j=>if j<la then j else lb+j) x ((la+lb)+(ra+rb)) (la+ra)=Up la lb rb x:=by
 refine Ao9 (fun j hj=>?_) (fun i j hi hj h=>?_) (by simp[Up,hx];omega) (fun j hj=>?_) fun q hq hm=>?_
 ·split <;> omega
 ·try dsimp only at h
  split at h <;> split at h <;> omega
 ·try dsimp only
  rw[← Acj oM];unfold Up;split
  ·rw[getElem?_append_left (by rw[length_take];omega),getElem?_take,fW oM]
  ·rw[getElem?_append_right (by rw[length_take];omega),length_take,getElem?_append_right (by rw[length_replicate];omega),length_replicate,getElem?_append_left (by rw[length_drop];omega),getElem?_drop];congr 1;omega
 ·unfold Up;by_cases h1:q<la
  ·exact absurd (fW h1)<|hm q oM
  by_cases h2:q<la+lb
  ·rw[getElem?_append_right (by rw[length_take];omega),length_take,getElem?_append_left (by rw[length_replicate];omega),getElem?_replicate,fW oM]
  by_cases h3:q<la+lb+ra
  ·refine absurd ?_<|hm (q - lb) oM
   try dsimp only
   rw[fB oM];omega
  ·rw[getElem?_append_right (by rw[length_take];omega),length_take,getElem?_append_right (by rw[length_replicate];omega),length_replicate,getElem?_append_right (by rw[length_drop];omega),length_drop,getElem?_replicate,fW oM]
theorem A07{x:List Int}(hx:x.length=lb+rb):plc (fun j=>if j<lb then la+j else la+ra+j) x ((la+lb)+(ra+rb)) (lb+rb)=Wy la ra lb x:=by
 refine Ao9 (fun j hj=>?_) (fun i j hi hj h=>?_) (by simp[Wy,hx];omega) (fun j hj=>?_) fun q hq hm=>?_
 ·split <;> omega
 ·try dsimp only at h
  split at h <;> split at h <;> omega
 ·try dsimp only
  rw[← Acj oM];unfold Wy;split
  ·rw[getElem?_append_right (by rw[length_replicate];omega),length_replicate,getElem?_append_left (by rw[length_take];omega),getElem?_take,fW oM];congr 1;omega
  ·rw[getElem?_append_right (by rw[length_replicate];omega),length_replicate,getElem?_append_right (by rw[length_take];omega),length_take,getElem?_append_right (by rw[length_replicate];omega),length_replicate,getElem?_drop];congr 1;omega
 ·unfold Wy;by_cases h1:q<la
  ·rw[getElem?_append_left (by rw[length_replicate];omega),getElem?_replicate,fW h1]
  by_cases h2:q<la+lb
  ·refine absurd ?_<|hm (q - la) oM
   try dsimp only
   rw[fW oM];omega
  by_cases h3:q<la+lb+ra
  ·rw[getElem?_append_right (by rw[length_replicate];omega),length_replicate,getElem?_append_right (by rw[length_take];omega),length_take,getElem?_append_left (by rw[length_replicate];omega),getElem?_replicate,fW oM]
  ·refine absurd ?_<|hm (q - la - ra) oM
   try dsimp only
   rw[fB oM];omega
theorem Anq(hp:isF p=true)(hA:MatW p (la+ra) A)(hB:MatW p (lb+rb) B)(hla:la+ra<=100)(hlb:lb+rb<=100)(lA:A.length<=100)(lB:B.length<=100):
  F6 p (la:Int) (ra:Int) A (lb:Int) (rb:Int) B=some (((la+lb:Nat):Int),((ra+rb:Nat):Int),Ayy p la ra lb rb A B):=by
 have hb:=Dh hp;have w1:wI ((la:Int)+(lb:Int))=((la+lb:Nat):Int):=by rw[Bi oM oM];omega
 have w2:wI ((ra:Int)+(rb:Int))=((ra+rb:Nat):Int):=by rw[Bi oM oM];omega
 have w3:wI (((la+lb:Nat):Int)+((ra+rb:Nat):Int))=(((la+lb)+(ra+rb):Nat):Int):=by rw[Bi oM oM];omega
 unfold F6;rw[Dl A (Up la lb rb) [] oM (A.map<|Up la lb rb) (fun i x hx=>?_) ?_,obs]
 ·rw[Dl B (Wy la ra lb) (A.map<|Up la lb rb) oM (A.map (Up la lb rb)++B.map (Wy la ra lb)) (fun i x hx=>?_) ?_,obs,w1,w2,Aje hp (Aii hb.1 hA hB) oM sO,obs]
  ·rfl
  rotate_left
  ·have hi:=Ai hx;have hxl:=(hB x<|mem_of_getElem? hx).1
   try dsimp only
   unfold Lj;rw[fH oM,hx,obs,w1,w2,w3,Af oM,fX];rw[Bg (s0:=(0,replicate ((la+lb)+(ra+rb)) 0)) x.length (fun j=>(j,plc (fun j=>if j<lb then la+j else la+ra+j) x ((la+lb)+(ra+rb)) j)) oM (Wy la ra lb x) rfl (fun j hj=>?_) ?_,obs,Af sO,obs,Af oM]
   rotate_left
   ·have hlen:=Zg (pos:=fun j=>if j<lb then la+j else la+ra+j) (x:=x) (n:=(la+lb)+(ra+rb)) j
    try dsimp only
    unfold Lp;rw[fH oM,Acj hj,obs,w1];by_cases h1:j<lb
    ·rw[fH oM,Bi (n:=(la:Int)+(j:Int)) oM oM,B9 oM,show ((la:Int)+(j:Int)).toNat=la+j by omega,gEg oM,obs,obs,obs,Af oM,plc,fW h1]
    ·rw[fJ oM,Bi (n:=((la+lb:Nat):Int)+(ra:Int)) oM oM,Bi (n:=((la+lb:Nat):Int)+(ra:Int)+(j:Int)) oM oM,Bi oM oM,B9 oM,show (((la+lb:Nat):Int)+(ra:Int)+(j:Int) - (lb:Int)).toNat=la+ra+j by omega,gEg oM,obs,obs,obs,Af oM,plc,fB h1]
   ·try dsimp only
    unfold Lp;rw[fJ oM,hxl,A07 hxl]
  ·try dsimp only
   unfold Lj;rw[fJ oM]
 rotate_left
 ·have hi:=Ai hx;have hxl:=(hA x<|mem_of_getElem? hx).1
  try dsimp only
  unfold Lt;rw[fH oM,hx,obs,w1,w2,w3,Af oM,fX];rw[Bg (s0:=(0,replicate ((la+lb)+(ra+rb)) 0)) x.length (fun j=>(j,plc (fun j=>if j<la then j else lb+j) x ((la+lb)+(ra+rb)) j)) oM (Up la lb rb x) rfl (fun j hj=>?_) ?_,obs,Af sO,obs,Af oM]
  rotate_left
  ·have hlen:=Zg (pos:=fun j=>if j<la then j else lb+j) (x:=x) (n:=(la+lb)+(ra+rb)) j
   try dsimp only
   unfold Lq;rw[fH oM,Acj hj,obs,w1];by_cases h1:j<la
   ·rw[fH oM,gEg oM,obs,obs,Af oM,plc,fW h1]
   ·rw[fJ oM,Bi (n:=((la+lb:Nat):Int)+(j:Int)) oM oM,Bi oM oM,B9 oM,show (((la+lb:Nat):Int)+(j:Int) - (la:Int)).toNat=lb+j by omega,gEg oM,obs,obs,obs,Af oM,plc,fB h1]
  ·try dsimp only
   unfold Lq;rw[fJ oM,hxl,A1e hxl]
 ·try dsimp only
  unfold Lt;rw[fJ oM,nil_append]
end
end
section
def Axq:List Int:=[2,3,5,7,11,13,17,19,23,29,31,37,41,43,47,53,59,61,67,71,73,79,83,89,97]
theorem Ao0{p:Int}(h:isF p=true):p∈Axq:=by
 have hb:=Dh h;obtain ⟨k,rfl⟩:∃ k:Nat,p=(k:Int):=⟨p.toNat,by omega⟩
 have hk:k<98:=by omega
 have key:(range 98).all (fun k=> !isF (k:Int)||Axq.contains (k:Int))=true:=by kernel_rfl
 have:=all_eq_true.1 key k<|mem_range.2 hk;rw[h,fD,Bool.false_or]at this;exact contains_iff_mem.1 this
def Aiq(p k v:Int):Bool:=match Bt p k v ⟨#[]⟩,A6 p k v ⟨#[]⟩ with
 | some a,some b=>a==b&&(On p a.1 a.2.1 a.2.2&&lfW (k,v,⟨#[]⟩)==some (a.1,a.2.1))
 | _,_=>false
theorem Auw:(Axq.all fun p=>[2,3,4,5,6,9,10,11,12].all fun k=>Aiq p k 0)=true:=by kernel_rfl
def scV(p v:Int):Int:=(p - v) % p
theorem Aps:((range 97).all fun v=>(Dr 2 [(7,(v:Int),[0],[1])] [0] [1]==some true)&&(Dr 2 [(13,(v:Int),[0],[1])] [0] [1]==some true))=true:=by kernel_rfl
theorem A0q:(Axq.all fun p=>(range p.toNat).all fun v=>(gj p 2 (O0 p 2 [[scV p (v:Int),1]])==[[1,(v:Int)]])&&((gj p 2 [[1,(v:Int)]]==[[1,(v:Int)]])&&(gj p 2 (O0 p 2 [[1,scV p (v:Int)]])==gj p 2 [[(v:Int),1]])))=true:=by kernel_rfl
theorem Awo{p k v:Int}(h:Aiq p k v=true)(s:ByteArray):∃ a,Bt p k v s=some a/\A6 p k v s=some a/\On p a.1 a.2.1 a.2.2=true/\lfW (k,v,⟨#[]⟩)=some (a.1,a.2.1):=by
 have e1:Bt p k v s=Bt p k v ⟨#[]⟩:=by unfold Bt N5;rfl
 have e2:A6 p k v s=A6 p k v ⟨#[]⟩:=by unfold A6;rfl
 rw[e1,e2];unfold Aiq at h;split at h
 next a b h1 h2=>simp only[fT,fF]at h;obtain ⟨rfl,h3,h4⟩:=h;exact ⟨a,h1,h2,h3,h4⟩
 ·cases h
end
end Go.Proofs.YthlpchhhinipaaaGreatDoor
