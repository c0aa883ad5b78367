/- Lemmas on the program and on partial functions that stand in place of its code (part 8); no condition beyond those that each one states. -/
import Derived.Test.YthlpchhhinipaaaGreatDoorZ7
namespace Go.Proofs.YthlpchhhinipaaaGreatDoor
open Go.RowKit Go.Deep List
section
set_option maxRecDepth 4000
set_option maxHeartbeats 4800000
variable {bA bB bC bD bE bF:Int} {qA:Int×Int×LL} {aA aB:List Int} {dA dB dC dD:LL}
def Dr (a0:Int) (u0:Nat) (u1:LL):Option (Ctl (Nat×LL) (LL)) :=
 cond (decide ((u0:Int)<a0))
 ((Ln a0 (u0:Int)).bind fun y11 =>
 (Ln a0 (u0:Int)).bind fun y12 =>
 (Dl ([y11,y12])).bind fun y13 =>
 og (u1.length+1<=1073741824/\(u1.length+1)*24<=140737488355328) <|
 og (u0+1<4611686018427387904) <|
 some (.next (u0+1,u1++[y13])))
 (some (.out u1))
def Es (a0:Int):Option (Int×Int×LL) :=
 (Aq (fun s_:Nat×LL=>Dr a0 s_.1 s_.2) 4611686018427387904 (0,([]:LL))).bind fun u0 =>
some (a0,a0,u0)
theorem Rc (h:Es bA=some qA):cK 140 [ai bA] (Dw qA):=by
 refine cZ Tryz.func140 fun zn_ nz_ hz_=>Ae<|Ae (sqF h (fun u1=>sT [(2,.box (oi 0 1) 0),(3,.box (oi 1 1) 0)] [(oi 0 1,.cells 30 [ai 0,ai 0,.nils]),(oi 1 1,.cells 30 [ai bA,ai bA,oS 2 1 u1.length]),(oi 2 1,.mat 81 (oi 3 1) .int u1),(oi 3 1,.pool 3 .int u1)]) ?_ fun u1 h=>Ae<|Ac<|jZ h [(true,[ai bA,ai bA,oS 2 1 u1.length])]<|Gd (A5 Dg<|A5 Dg<|A5 (Cd<|.mat (p:=oi 3 1) (e1:=81) (e:=3) kr (Er kr) rfl) Ge) Dd)
 intro _ h;refine Ae<|Ad<|lpF h (fun (u2,u0)=>sT [(0,ai bA),(2,.box (oi 0 1) 0),(3,.box (oi 1 1) 0),(8,ai bA),(9,an u2)] [(oi 0 1,.cells 30 [ai 0,ai 0,.nils]),(oi 1 1,.cells 30 [ai bA,ai bA,oS 2 1 u0.length]),(oi 2 1,.mat 81 (oi 3 1) .int u0),(oi 3 1,.pool 3 .int u0)]) ((Oh 9000 (oi 3 5) 2 30 [ai bA,ai bA,.nils] [ai bA,ai bA,oS 9000 9 0] 81 sI kr kr kr).trans<|(Dt (e1:=81) (n:=0) 9000 (oi 9000 9) 3 .int kr kr rfl kr kr).trans<|Ag [(oi 0 1,oi 2 1),(oi 1 1,oi 3 5),(oi 2 1,oi 9000 9),(oi 3 1,oi 9000 10)]) ?_;rintro n_ ⟨u2,u0⟩ c_ h hn5;refine Ae<|Ab (kQ h (fun _ h=>skW<|Ab<|Ad<|Ae<|An 19<|dsT 4 (dcH h (fun h=>I9<|Si h) fun y11 h=>dz0 (ai bA)<|dz0 (an u2) (dcH h (fun h=>I9<|Si h) fun y12 h=>dsU (tS<|[y11,y12]) [(oi 256 9,none),(oi 304 12,none)] (Aew (t:=.int) (yss:=[y11,y12]) (Eh (t:=.int) (c:=oI 256 9 y11.length) (ys:=y11) kr (H9 (e:=3) kr rfl)<|Eh (t:=.int) (c:=oI 304 12 y12.length) (ys:=y12) kr (H9 (e:=3) kr rfl) Sk) kr) (dcH h (fun h=>I9<|Ix h) fun y13 h=>Amo (oS 22 15 1) (oi 22 15) (.vec 81 1 1<|[oI 336 14 y13.length]) trivial (C8 kr) ?_)))) fun _ h=>lxT (have h:=jO h hn5;jE []));have ⟨g14,h⟩:=Al h;refine dzV (oi 2 1) (oi 22 15) (oi 3 1) u0 [oI 336 14 y13.length] g14<|dz0 (.box (oi 1 1) 2)<|Lg (oi 1 1) (oi 1 1) (.cells 30 [ai bA,ai bA,oS 2 16 (u0.length+1)]) kr<|Cb (Ar kr)<|bn_<|tn_ ⟨_,Eu (e1:=81) (e:=3) (u:=.int) (n:=u0.length+1) (len:=y13.length) (row:=y13) (ys:=y13) (xss:=u0) 9000 (oi 2 16) (oi 3 1) (oi 336 14) kr kr rfl kr kr (N1 rfl) (Ny rfl) kr kr kr,Aa 22 (raH h fun h=>rsT 1<|Ap<|tn_ ?_)⟩;cases h;exact jLw hn5<|(Ub (oi 1 1) (.cells 30 [ai bA,ai bA,oS 2 16 (u0.length+1)]) (.cells 30 [ai bA,ai bA,oS 2 16 ((u0++[y13]).length)]) kr<|congrArg (fun z_=>(.cells 30 [ai bA,ai bA,oS 2 16 z_]:Ob)) (fS:u0.length+1=(u0++[y13]).length)).trans<|Ag [(oi 2 1,oi 2 16),(oi 3 1,oi 9000 19)]
def L1 (a0:Int):Option Int :=
 (B6 a0 3 8).bind fun y4 =>
cond y4
 (some (wI ((wI (a0+9)) - 3)))
 ((B6 a0 9 14).bind fun y8 =>
 cond y8
  (some (wI (wI (a0 - 9)+3)))
  (some a0))
theorem Pf (h:L1 bA=some bB):cK 142 [ai bA] (A7 bB):=by
 exact cO Tryz.func142<|Ae<|Ab<|Ad<|Ab<|Aa 5<|rsT 1 (rcH h C2 fun y4 h=>rsT 1<|rnW (kQ h (fun _ h=>Ae<|Ac<|br_<|tr_<|jS h) fun _ h=>Ab<|Aa 8<|rsT 1 (rcH h C2 fun y8 h=>rsT 1<|rnW (kQ h (fun _ h=>Ae<|Ac<|br_<|tr_<|jS h) fun _ h=>Ax<|bn_<|tn_<|wr_<|Ae<|Ac<|jS h))))
def Qy (a0:List Int) (u0 u1:Int) (u2:LL):Option (List Int) :=
 (Bp u0 u1 u2 a0).bind fun y3 =>
(Bs u0 u1 u2 a0).bind fun y4 =>
(Dl ([a0.drop y3.1,a0.take y4])).bind fun y5 =>
some y5
theorem Wm (h:Qy aA bA bB dA=some aB):cK 169 [tI aA,.ref [ai bA,ai bB,tS dA]] (Ch aB):=by
 refine cO Tryz.func169<|Ae<|Ab<|An 11<|dz0 (.agg [ai bA,ai bB,tS dA])<|dz0 (tI aA) ?_;have ⟨y3,h3,h⟩:=Ah h;refine Ou (tI<|aA.drop y3.1) [] [.agg [ai bA,ai bB,tS dA],tI aA] _ (caps:=[]) (args0:=[.agg [ai bA,ai bB,tS dA],tI aA]) trivial kr (Eo h3) kr (hr:=Gx h3)<|dz0 (.agg [ai bA,ai bB,tS dA])<|dz0 (tI aA) ?_;have ⟨y4,h4,h⟩:=Ah h;exact Ou (tI<|aA.take y4) [] [.agg [ai bA,ai bB,tS dA],tI aA] _ (caps:=[]) (args0:=[.agg [ai bA,ai bB,tS dA],tI aA]) trivial kr (E6 h4) kr (hr:=Hm h4)<|dsU (tS<|[aA.drop y3.1,aA.take y4]) [] (Aew (t:=.int) (yss:=[aA.drop y3.1,aA.take y4]) (Eh (t:=.int) (c:=tI<|aA.drop y3.1) (ys:=aA.drop y3.1) kr Kz<|Eh (t:=.int) (c:=tI<|aA.take y4) (ys:=aA.take y4) kr Kz Sk) kr) (dcH h Ix fun y5 h=>dz0 (oI 176 9 y5.length)<|Cb (Ar kr)<|tn_<|wr_<|Ac<|jR h [oI 176 9 y5.length]<|Hv rfl (Ea kr rfl) Ht)
def G6 (u2:LL) (u3 u4:Int) (u5:LL) (u0:Nat) (u1:LL):Option (Ctl (Nat×LL) (LL)) :=
 cond (decide ((u0:Int)<(u2.length:Int)))
 ((u2[u0]?).bind fun x12 =>
 (Qy x12 u3 u4 u5).bind fun y13 =>
 og (u1.length+1<=1073741824/\(u1.length+1)*24<=140737488355328) <|
 og (u0+1<4611686018427387904) <|
 some (.next (u0+1,u1++[y13])))
 (some (.out u1))
def D4 (u5 u6:Int) (u0:LL) (u1 u2:Int) (u3:LL):Option LL :=
 (Aq (fun s_:Nat×LL=>G6 u0 u1 u2 u3 s_.1 s_.2) 4611686018427387904 (0,([]:LL))).bind fun u4 =>
some u4
theorem Hw (h:D4 bA bB dA bC bD dB=some dC):Eb Tryz.prog Tab 129 [.agg [ai bA,ai bB,tS dA],.fn 169 [.ref [ai bC,ai bD,tS dB]]] [] (oS 0 1 dC.length) [(oi 0 1,.mat 81 (oi 1 1) .int dC),(oi 1 1,.pool 3 .int dC)]:=by
 refine B3 kr Tryz.func129 (Cc kr) (n:=24) kr fS rfl kr trivial ⟨⟨3,.tail _<|.head _⟩,⟨trivial,trivial⟩⟩ (Ae<|Ab<|Aa 5<|I4 (oS 8 3 0) (oi 8 3) (.vec 81 1 0 []) trivial (C8 kr)<|rsT 1<|Ap<|tn_ ⟨_,Dt (e1:=81) (n:=0) 9000 (oi 8 3) 3 .int kr kr rfl kr kr,sqF h (fun u4=>sT [(5,oS 0 1 u4.length)] [(oi 0 1,.mat 81 (oi 1 1) .int u4),(oi 1 1,.pool 3 .int u4)]) ?_ fun u4 h=>Ae<|Ac (by obtain rfl:=osj h;exact E2 [oS 0 1 u4.length]<|Ag (tl:=[(4,oS 0 1 u4.length)]) (g:=2) [])⟩);intro _ h;refine Ae<|Ad<|lpF h (fun (u8,u0)=>sT [(1,.fn 169 [.ref [ai bC,ai bD,tS dB]]),(5,oS 0 1 u0.length),(10,tS dA),(11,an dA.length),(12,an u8)] [(oi 0 1,.mat 81 (oi 1 1) .int u0),(oi 1 1,.pool 3 .int u0)]) (Ag [(oi 0 1,oi 8 3),(oi 1 1,oi 9000 5)]) ?_;rintro n_ ⟨u8,u0⟩ c_ h hn6;refine Ae<|Ab (kQ h (fun _ h=>skW<|Ab<|Ad<|Ab<|Aa 6 (riH sI h fun x12 _ h=>rsT 2<|rnW<|Aa 13<|rsT 3 ?_)) fun _ h=>lxT (have h:=jO h hn6;jE []));have ⟨y13,h13,h⟩:=Ah h;refine Tb (oI 304 9 y13.length) [nI 304 9 y13] [tI x12,.ref [ai bC,ai bD,tS dB]] _ (caps:=[.ref [ai bC,ai bD,tS dB]]) (args0:=[tI x12,.ref [ai bC,ai bD,tS dB]]) trivial kr (Wm h13) kr<|I4 (oS 20 10 1) (oi 20 10) (.vec 81 1 1<|[oI 304 9 y13.length]) trivial (C8 kr) ?_;have ⟨g14,h⟩:=Al h;refine zV (oi 0 1) (oi 20 10) (oi 1 1) u0 [oI 304 9 y13.length] g14<|rsT 1<|Ap<|bn_<|tn_ ⟨_,Eu (e1:=81) (e:=3) (u:=.int) (n:=u0.length+1) (len:=y13.length) (row:=y13) (ys:=y13) (xss:=u0) 9000 (oi 0 11) (oi 1 1) (oi 304 9) kr kr rfl kr kr (N1 rfl) (Ny rfl) kr kr kr,Aa 16 (raH h fun h=>rsT 1<|Ap<|tn_ ?_)⟩;cases h;exact jLw hn6<|(wL 5 (fS:u0.length+1=(u0++[y13]).length)).trans<|Ag [(oi 0 1,oi 0 11),(oi 1 1,oi 9000 13)]
def Oj (a0 u0 u1:Int) (u2:LL):Option (Int×Int×LL) :=
 (D4 u0 u1 u2 u0 u1 u2).bind fun y3 =>
(B5 a0 u1 u0 y3).bind fun y4 =>
some (y4.1,y4.2.1,y4.2.2)
theorem Zb (h:Oj bA bB bC dA=some qA):cK 143 [ai bA,.agg [ai bB,ai bC,tS dA]] (Dw qA):=by
 exact cZ Tryz.func143 fun zn_ nz_ hz_=>Ae<|Ab<|An 13<|dsT 7 (dcM h [] [.agg [ai bB,ai bC,tS dA],.fn 169 [.box (oi 3 1) 0]] (fun h=>Ur<|Hw h) trivial (.cons (.ren kr)<|.cons (.gnd kr<|Avd<|Av (Ajd (ty:=30) (cs:=[ai bB,ai bC,tS dA]) (es:=[ai bB,ai bC,tS dA]) ((L3 kr kr kr).trans kr) kr<|Av kr<|Av kr<|Av kr Dp) Dp) .nil) (Ba kr kr trivial) (Ai2 kr) fun y3 h=>dcG h [ai bA,ai bC,ai bB,oS 192 10 y3.length] (fun h=>J6 hz_<|Fh h) (Av kr<|Av kr<|Av kr<|Av (Sn (p:=oi 193 10) (e1:=81) (e:=3) (u:=.int) (xss:=y3) kr (Ae0 (t:=sI) (off:=0) (len:=y3.length) (i:=oi 192 10) (e1:=81) (z:=1) (m:=y3.length) 3 rfl kr kr<|Er kr) rfl) Dp) fun y4 h=>Lg (oi 4 2) (oi 4 2) (.cells 30 [ai y4.1,ai y4.2.1,.ftr nz_ sI y4.2.2]) kr<|Cb ⟨Zv kr,⟨Zv kr,trivial⟩⟩<|tn_<|wr_<|Ac<|jZ h [(true,[ai y4.1,ai y4.2.1,.ftr nz_ sI y4.2.2])]<|Gd (A5 Dg<|A5 Dg<|A5 (Cd .ftr) Ge) Dd)
def Oi (a0:List Int) (u0 u1:Int) (u2:LL) (u3 u4:Int) (u5:LL):Option (List Int) :=
 (Bs u0 u1 u2 a0).bind fun y3 =>
(Ec u3).bind fun y4 =>
(Bp u0 u1 u2 a0).bind fun y5 =>
(Ec u4).bind fun y6 =>
(Dl ([a0.take y3,y4,a0.drop y5.1,y6])).bind fun y7 =>
some y7
theorem Aat (h:Oi aA bA bB dA bC bD dB=some aB):cK 138 [tI aA,.ref [ai bA,ai bB,tS dA],.ref [ai bC,ai bD,tS dB]] (Ch aB):=by
 refine cO Tryz.func138<|Ae<|Ab<|An 17<|dz0 (.agg [ai bA,ai bB,tS dA])<|dz0 (tI aA) ?_;have ⟨y3,h3,h⟩:=Ah h;refine Ou (tI<|aA.take y3) [] [.agg [ai bA,ai bB,tS dA],tI aA] _ (caps:=[]) (args0:=[.agg [ai bA,ai bB,tS dA],tI aA]) trivial kr (E6 h3) kr (hr:=Hm h3)<|dz0 (.ref [ai bC,ai bD,tS dB])<|dz0 (ai bC) (dcH h Ga fun y4 h=>dz0 (.agg [ai bA,ai bB,tS dA])<|dz0 (tI aA) ?_);have ⟨y5,h5,h⟩:=Ah h;exact Ou (tI<|aA.drop y5.1) [] [.agg [ai bA,ai bB,tS dA],tI aA] _ (caps:=[]) (args0:=[.agg [ai bA,ai bB,tS dA],tI aA]) trivial kr (Eo h5) kr (hr:=Gx h5)<|dz0 (.ref [ai bD,tS dB])<|dz0 (ai bD) (dcH h Ga fun y6 h=>dsU (tS<|[aA.take y3,y4,aA.drop y5.1,y6]) [(oi 160 7,none),(oi 256 13,none)] (Aew (t:=.int) (yss:=[aA.take y3,y4,aA.drop y5.1,y6]) (Eh (t:=.int) (c:=tI<|aA.take y3) (ys:=aA.take y3) kr Kz<|Eh (t:=.int) (c:=oI 160 7 y4.length) (ys:=y4) kr (H9 (e:=3) kr rfl)<|Eh (t:=.int) (c:=tI<|aA.drop y5.1) (ys:=aA.drop y5.1) kr Kz<|Eh (t:=.int) (c:=oI 256 13 y6.length) (ys:=y6) kr (H9 (e:=3) kr rfl) Sk) kr) (dcH h Ix fun y7 h=>dz0 (oI 288 15 y7.length)<|Cb (Ar kr)<|tn_<|wr_<|Ac<|jR h [oI 288 15 y7.length]<|Hv rfl (Ea kr rfl) Ht))
def Ci (u2:LL) (u3 u4:Int) (u5:LL) (u6 u7:Int) (u8:LL) (u0:Nat) (u1:LL):Option (Ctl (Nat×LL) (LL)) :=
 cond (decide ((u0:Int)<(u2.length:Int)))
 ((u2[u0]?).bind fun x12 =>
 (Oi x12 u3 u4 u5 u6 u7 u8).bind fun y13 =>
 og (u1.length+1<=1073741824/\(u1.length+1)*24<=140737488355328) <|
 og (u0+1<4611686018427387904) <|
 some (.next (u0+1,u1++[y13])))
 (some (.out u1))
def Bw (u8 u9:Int) (u0:LL) (u1 u2:Int) (u3:LL) (u4 u5:Int) (u6:LL):Option LL :=
 (Aq (fun s_:Nat×LL=>Ci u0 u1 u2 u3 u4 u5 u6 s_.1 s_.2) 4611686018427387904 (0,([]:LL))).bind fun u7 =>
some u7
theorem Iu (h:Bw bA bB dA bC bD dB bE bF dC=some dD):Eb Tryz.prog Tab 129 [.agg [ai bA,ai bB,tS dA],.fn 138 [.ref [ai bC,ai bD,tS dB],.ref [ai bE,ai bF,tS dC]]] [] (oS 0 1 dD.length) [(oi 0 1,.mat 81 (oi 1 1) .int dD),(oi 1 1,.pool 3 .int dD)]:=by
 refine B3 kr Tryz.func129 (Cc kr) (n:=24) kr fS rfl kr trivial ⟨⟨3,.tail _<|.head _⟩,⟨trivial,trivial⟩⟩ (Ae<|Ab<|Aa 5<|I4 (oS 8 3 0) (oi 8 3) (.vec 81 1 0 []) trivial (C8 kr)<|rsT 1<|Ap<|tn_ ⟨_,Dt (e1:=81) (n:=0) 9000 (oi 8 3) 3 .int kr kr rfl kr kr,sqF h (fun u7=>sT [(5,oS 0 1 u7.length)] [(oi 0 1,.mat 81 (oi 1 1) .int u7),(oi 1 1,.pool 3 .int u7)]) ?_ fun u7 h=>Ae<|Ac (by obtain rfl:=osj h;exact E2 [oS 0 1 u7.length]<|Ag (tl:=[(4,oS 0 1 u7.length)]) (g:=2) [])⟩);intro _ h;refine Ae<|Ad<|lpF h (fun (ub,u0)=>sT [(1,.fn 138 [.ref [ai bC,ai bD,tS dB],.ref [ai bE,ai bF,tS dC]]),(5,oS 0 1 u0.length),(10,tS dA),(11,an dA.length),(12,an ub)] [(oi 0 1,.mat 81 (oi 1 1) .int u0),(oi 1 1,.pool 3 .int u0)]) (Ag [(oi 0 1,oi 8 3),(oi 1 1,oi 9000 5)]) ?_;rintro n_ ⟨ub,u0⟩ c_ h hn6;refine Ae<|Ab (kQ h (fun _ h=>skW<|Ab<|Ad<|Ab<|Aa 6 (riH sI h fun x12 _ h=>rsT 2<|rnW<|Aa 13<|rsT 3 ?_)) fun _ h=>lxT (have h:=jO h hn6;jE []));have ⟨y13,h13,h⟩:=Ah h;refine Tb (oI 304 9 y13.length) [nI 304 9 y13] [tI x12,.ref [ai bC,ai bD,tS dB],.ref [ai bE,ai bF,tS dC]] _ (caps:=[.ref [ai bC,ai bD,tS dB],.ref [ai bE,ai bF,tS dC]]) (args0:=[tI x12,.ref [ai bC,ai bD,tS dB],.ref [ai bE,ai bF,tS dC]]) trivial kr (Aat h13) kr<|I4 (oS 20 10 1) (oi 20 10) (.vec 81 1 1<|[oI 304 9 y13.length]) trivial (C8 kr) ?_;have ⟨g14,h⟩:=Al h;refine zV (oi 0 1) (oi 20 10) (oi 1 1) u0 [oI 304 9 y13.length] g14<|rsT 1<|Ap<|bn_<|tn_ ⟨_,Eu (e1:=81) (e:=3) (u:=.int) (n:=u0.length+1) (len:=y13.length) (row:=y13) (ys:=y13) (xss:=u0) 9000 (oi 0 11) (oi 1 1) (oi 304 9) kr kr rfl kr kr (N1 rfl) (Ny rfl) kr kr kr,Aa 16 (raH h fun h=>rsT 1<|Ap<|tn_ ?_)⟩;cases h;exact jLw hn6<|(wL 5 (fS:u0.length+1=(u0++[y13]).length)).trans<|Ag [(oi 0 1,oi 0 11),(oi 1 1,oi 9000 13)]
def Oo (a0:List Int) (u3 u4:Int) (u5:LL) (u0 u1:Int) (u2:LL):Option (List Int) :=
 (Ec u3).bind fun y3 =>
(Bs u0 u1 u2 a0).bind fun y4 =>
(Ec u4).bind fun y5 =>
(Bp u0 u1 u2 a0).bind fun y6 =>
(Dl ([y3,a0.take y4,y5,a0.drop y6.1])).bind fun y7 =>
some y7
theorem Aav (h:Oo aA bA bB dA bC bD dB=some aB):cK 139 [tI aA,.ref [ai bA,ai bB,tS dA],.ref [ai bC,ai bD,tS dB]] (Ch aB):=by
 refine cO Tryz.func139<|Ae<|Ab<|An 17<|dz0 (.ref [ai bA,ai bB,tS dA])<|dz0 (ai bA) (dcH h Ga fun y3 h=>dz0 (.agg [ai bC,ai bD,tS dB])<|dz0 (tI aA) ?_);have ⟨y4,h4,h⟩:=Ah h;refine Ou (tI<|aA.take y4) [] [.agg [ai bC,ai bD,tS dB],tI aA] _ (caps:=[]) (args0:=[.agg [ai bC,ai bD,tS dB],tI aA]) trivial kr (E6 h4) kr (hr:=Hm h4)<|dz0 (.ref [ai bB,tS dA])<|dz0 (ai bB) (dcH h Ga fun y5 h=>dz0 (.agg [ai bC,ai bD,tS dB])<|dz0 (tI aA) ?_);have ⟨y6,h6,h⟩:=Ah h;exact Ou (tI<|aA.drop y6.1) [] [.agg [ai bC,ai bD,tS dB],tI aA] _ (caps:=[]) (args0:=[.agg [ai bC,ai bD,tS dB],tI aA]) trivial kr (Eo h6) kr (hr:=Gx h6)<|dsU (tS<|[y3,aA.take y4,y5,aA.drop y6.1]) [(oi 112 4,none),(oi 208 10,none)] (Aew (t:=.int) (yss:=[y3,aA.take y4,y5,aA.drop y6.1]) (Eh (t:=.int) (c:=oI 112 4 y3.length) (ys:=y3) kr (H9 (e:=3) kr rfl)<|Eh (t:=.int) (c:=tI<|aA.take y4) (ys:=aA.take y4) kr Kz<|Eh (t:=.int) (c:=oI 208 10 y5.length) (ys:=y5) kr (H9 (e:=3) kr rfl)<|Eh (t:=.int) (c:=tI<|aA.drop y6.1) (ys:=aA.drop y6.1) kr Kz Sk) kr) (dcH h Ix fun y7 h=>dz0 (oI 288 15 y7.length)<|Cb (Ar kr)<|tn_<|wr_<|Ac<|jR h [oI 288 15 y7.length]<|Hv rfl (Ea kr rfl) Ht)
def Cf (u2:LL) (u3 u4:Int) (u5:LL) (u6 u7:Int) (u8:LL) (u0:Nat) (u1:LL):Option (Ctl (Nat×LL) (LL)) :=
 cond (decide ((u0:Int)<(u2.length:Int)))
 ((u2[u0]?).bind fun x11 =>
 (Oo x11 u3 u4 u5 u6 u7 u8).bind fun y12 =>
 og (u1.length+1<=1073741824/\(u1.length+1)*24<=140737488355328) <|
 og (u0+1<4611686018427387904) <|
 some (.next (u0+1,u1++[y12])))
 (some (.out u1))
def Bv (u8 u9:Int) (u0:LL) (u1 u2:Int) (u3:LL) (u4 u5:Int) (u6:LL):Option LL :=
 (Aq (fun s_:Nat×LL=>Cf u0 u1 u2 u3 u4 u5 u6 s_.1 s_.2) 4611686018427387904 (0,([]:LL))).bind fun u7 =>
some u7
theorem Iv (h:Bv bA bB dA bC bD dB bE bF dC=some dD):cK 129 [.agg [ai bA,ai bB,tS dA],.fn 139 [.ref [ai bC,ai bD,tS dB],.ref [ai bE,ai bF,tS dC]]] (U0 dD):=by
 refine cZ Tryz.func129 fun zn_ nz_ hz_=>Ae<|Ab<|Aa 5<|I4 (oS 8 3 0) (oi 8 3) (.vec 81 1 0 []) trivial (C8 kr)<|rsT 1<|Ap<|tn_ ⟨_,Dt (e1:=81) (n:=0) 9000 (oi 8 3) 3 .int kr kr rfl kr kr,sqF h (fun u7=>sT [(5,oS 0 1 u7.length)] [(oi 0 1,.mat 81 (oi 1 1) .int u7),(oi 1 1,.pool 3 .int u7)]) ?_ fun u7 h=>Ae<|Ac<|jZ h [(false,[oS 0 1 u7.length])]<|Ol (Cd<|.mat (p:=oi 1 1) (e1:=81) (e:=3) kr (Er kr) rfl) Dd⟩
 intro _ h;refine Ae<|Ad<|lpF h (fun (ub,u0)=>sT [(1,.fn 139 [.ref [ai bC,ai bD,tS dB],.ref [ai bE,ai bF,tS dC]]),(5,oS 0 1 u0.length),(10,tS dA),(11,an dA.length),(12,an ub)] [(oi 0 1,.mat 81 (oi 1 1) .int u0),(oi 1 1,.pool 3 .int u0)]) (Ag [(oi 0 1,oi 8 3),(oi 1 1,oi 9000 5)]) ?_;rintro n_ ⟨ub,u0⟩ c_ h hn5;refine Ae<|Ab (kQ h (fun _ h=>skW<|Ab<|Ad<|Ab<|Aa 6 (riH sI h fun x11 _ h=>rsT 2<|rnW<|Aa 13<|rsT 3 ?_)) fun _ h=>lxT (have h:=jO h hn5;jE []));have ⟨y12,h12,h⟩:=Ah h;refine Tb (oI 304 9 y12.length) [nI 304 9 y12] [tI x11,.ref [ai bC,ai bD,tS dB],.ref [ai bE,ai bF,tS dC]] _ (caps:=[.ref [ai bC,ai bD,tS dB],.ref [ai bE,ai bF,tS dC]]) (args0:=[tI x11,.ref [ai bC,ai bD,tS dB],.ref [ai bE,ai bF,tS dC]]) trivial kr (I9<|Aav h12) kr<|I4 (oS 20 10 1) (oi 20 10) (.vec 81 1 1<|[oI 304 9 y12.length]) trivial (C8 kr) ?_;have ⟨g13,h⟩:=Al h;refine zV (oi 0 1) (oi 20 10) (oi 1 1) u0 [oI 304 9 y12.length] g13<|rsT 1<|Ap<|bn_<|tn_ ⟨_,Eu (e1:=81) (e:=3) (u:=.int) (n:=u0.length+1) (len:=y12.length) (row:=y12) (ys:=y12) (xss:=u0) 9000 (oi 0 11) (oi 1 1) (oi 304 9) kr kr rfl kr kr (N1 rfl) (Ny rfl) kr kr kr,Aa 16 (raH h fun h=>rsT 1<|Ap<|tn_ ?_)⟩;cases h;exact jLw hn5<|(wL 5 (fS:u0.length+1=(u0++[y12]).length)).trans<|Ag [(oi 0 1,oi 0 11),(oi 1 1,oi 9000 13)]
def Ke (a0 u0 u1:Int) (u4:LL) (u2 u3:Int) (u5:LL):Option (Int×Int×LL) :=
 (Bw u0 u1 u4 u0 u1 u4 u2 u3 u5).bind fun y3 =>
(Bv u2 u3 u5 u0 u1 u4 u2 u3 u5).bind fun y5 =>
og (y3.length+y5.length<=1073741824/\(y3.length+y5.length)*24<=140737488355328) <|
(B5 a0 (wI (u0+u2)) (wI (u1+u3)) (y3++y5)).bind fun y8 =>
some (y8.1,y8.2.1,y8.2.2)
theorem Acw (h:Ke bA bB bC dA bD bE dB=some qA):cK 91 [ai bA,.agg [ai bB,ai bC,tS dA],.agg [ai bD,ai bE,tS dB]] (Dw qA):=by
 refine cZ Tryz.func91 fun zn_ nz_ hz_=>Ae<|Ab<|Aa 8<|rsT 2 (rcM h [] [.agg [ai bB,ai bC,tS dA],.fn 138 [.box (oi 4 1) 0,.box (oi 5 2) 0]] (fun h=>Ur<|Iu h) trivial (.cons (.ren kr)<|.cons (.gnd kr<|Avd<|Av (Ajd (ty:=30) (cs:=[ai bB,ai bC,tS dA]) (es:=[ai bB,ai bC,tS dA]) ((L3 kr kr kr).trans kr) kr<|Av kr<|Av kr<|Av kr Dp)<|Av (Ajd (ty:=30) (cs:=[ai bD,ai bE,tS dB]) (es:=[ai bD,ai bE,tS dB]) ((L3 kr kr kr).trans kr) kr<|Av kr<|Av kr<|Av kr Dp) Dp) .nil) (Ba kr kr trivial) fun y3 h=>rsT 1<|rnW<|Ab<|Aa 14<|rsT 3 (rcH h (fun h=>J6 hz_<|Iv h) fun y5 h=>?_))
 have ⟨g6,h⟩:=Al h;exact rs2 (oS 160 12<|y3.length+y5.length) (oi 160 6) (oi 160 12) (.vec 81 1 (y3.length+y5.length)<|hdL (oi 161 6) .int y3++tvC (some nz_) sI y5) (Axi (o:=oi 160 6) (p:=oi 161 6) (e1:=81) (u:=.int) (t':=sI) (len:=y3.length) (N:=y3.length) (m:=some nz_) (xss:=y3) (ys:=y5) kr kr rfl rfl (Azc kr) g6)<|rsT 1<|rnW<|Ab<|Aa 28<|rsT 12 (rcG h [ai bA,ai<|wI<|bB+bD,ai<|wI<|bC+bE,oS 160 12 (y3.length+y5.length)] (fun h=>J6 hz_<|Fh h) (Av kr<|Av kr<|Av kr<|Av (Azq (p:=oi 161 6) (e1:=81) (e:=3) (u:=.int) (m:=some nz_) (xss:=y3) (ys:=y5) (N:=y3.length+y5.length) kr (Er kr) rfl rfl) Dp) fun y8 h=>rsB 1<|rnW<|Ac<|jZ h [(true,[ai y8.1,ai y8.2.1,.ftr nz_ sI y8.2.2])]<|Gd (A5 Dg<|A5 Dg<|A5 (Cd .ftr) Ge) Dd)
def Bu (u2:LL) (u3 u4:Int) (u5:LL) (u0:Nat) (u1:LL):Option (Ctl (Nat×LL) (LL)) :=
 cond (decide ((u0:Int)<(u2.length:Int)))
 ((u2[u0]?).bind fun x12 =>
 (Bp u3 u4 u5 x12).bind fun y13 =>
 og (u1.length+1<=1073741824/\(u1.length+1)*24<=140737488355328) <|
 og (u0+1<4611686018427387904) <|
 some (.next (u0+1,u1++[x12.drop y13.1])))
 (some (.out u1))
def Bi (u5 u6:Int) (u0:LL) (u1 u2:Int) (u3:LL):Option LL :=
 (Aq (fun s_:Nat×LL=>Bu u0 u1 u2 u3 s_.1 s_.2) 4611686018427387904 (0,([]:ZA))).bind fun u4 =>
some u4
theorem C3 (h:Bi bA bB dA bC bD dB=some dC):Xi Tryz.prog Tab 129 [.agg [ai bA,ai bB,tS dA],.fn 1000130 [.agg [ai bC,ai bD,tS dB]]] (oS 0 1 dC.length) [(oi 0 1,.tv 81 none sI dC)]:=by
 refine Ald kr Tryz.func129 (Cc kr) (fun nz_=>[.agg [ai bA,ai bB,.ftr nz_ sI dA],.fn 1000130 [.agg [ai bC,ai bD,.ftr nz_ sI dB]]]) (n:=24) kr (fun _=>by simp) (tl:=fun nz_=>[(0,.agg [ai bA,ai bB,.ftr nz_ sI dA]),(1,.fn 1000130 [.agg [ai bC,ai bD,.ftr nz_ sI dB]])]) (fun _=>rfl) (fun _=>⟨_,_,rfl,⟨_,rfl,⟨_,_,rfl,rfl,⟨_,_,rfl,rfl,⟨_,_,rfl,rfl,rfl⟩⟩⟩⟩,⟨_,_,rfl,⟨_,rfl,⟨_,_,rfl,⟨_,rfl,⟨_,_,rfl,rfl,⟨_,_,rfl,rfl,⟨_,_,rfl,rfl,rfl⟩⟩⟩⟩,rfl⟩⟩,rfl⟩⟩) (fun _=>by kernel_rfl) (fun _ _=>rfl) fun nz_=>Ae<|Ab<|Aa 5<|I4 (oS 8 3 0) (oi 8 3) (.vec 81 1 0<|tvC (some nz_) sI ([]:ZA)) trivial (C8 kr)<|rsT 1<|Ap<|tn_ ⟨_,Cn (N:=0) (oi 8 3) 81 (some nz_) sI ([]:ZA) kr rfl,sqF h (fun u5=>sT [(5,oS 0 1 u5.length)] [(oi 0 1,.tv 81 (some nz_) sI u5)]) ?_ fun u5 h=>Ae<|Ac (by obtain rfl:=osj h;exact E2 [oS 0 1 u5.length]<|Ag (tl:=[(4,oS 0 1 u5.length)]) (g:=2) [])⟩
 intro _ h;refine Ae<|Ad<|lpF h (fun (u8,u0)=>sT [(1,.fn 1000130 [.agg [ai bC,ai bD,.ftr nz_ sI dB]]),(5,oS 0 1 u0.length),(10,.ftr nz_ sI dA),(11,an dA.length),(12,an u8)] [(oi 0 1,.tv 81 (some nz_) sI u0)]) (Ag [(oi 0 1,oi 8 3)]) ?_;rintro n_ ⟨u8,u0⟩ c_ h hn6;refine Ae<|Ab (kQ h (fun _ h=>skW<|Ab<|Ad<|Ab<|Aa 6 (riH sI h fun x12 _ h=>rsT 2<|rnW<|Aa 13<|rsT 3 ?_)) fun _ h=>lxT (have h:=jO h hn6;jE []));have ⟨y13,h13,h⟩:=Ah h;refine Tb (.ftr nz_ .int<|x12.drop y13.1) [] [.agg [ai bC,ai bD,.ftr nz_ sI dB],.ftr nz_ .int x12] _ (caps:=[.agg [ai bC,ai bD,.ftr nz_ sI dB]]) (args0:=[.agg [ai bC,ai bD,tS dB],tI x12]) trivial kr (Eo h13) kr (hr:=Q3 h13) (m:=1000000)<|I4 (oS 20 10 1) (oi 20 10) (.vec 81 1 1<|tvC (some nz_) sI<|[x12.drop y13.1]) trivial (C8 kr) ?_;have ⟨g14,h⟩:=Al h;refine rs2 (oS 0 11<|u0.length+1) (oi 0 1) (oi 0 11) (.vec 81 1 (u0.length+1)<|tvC (some nz_) sI<|u0++[x12.drop y13.1]) (O4 (t':=sI) (t:=sI) (t2:=sI) (e2:=81) (q:=oi 20 10) (m:=some nz_) (z:=x12.drop y13.1) (o:=oi 0 1) (xs:=u0) (len:=u0.length) kr kr rfl kr kr g14) (rsT 1<|Ap<|bn_<|tn_ ⟨_,Cn (N:=u0.length+1) (oi 0 11) 81 (some nz_) sI (u0++[x12.drop y13.1]) kr fS,Aa 15 (raH h fun h=>rsT 1<|Ap<|tn_ ?_)⟩);cases h;exact jLw hn6<|(wL 5 (fS:u0.length+1=(u0++[x12.drop y13.1]).length)).trans<|Ag [(oi 0 1,oi 0 11)]
def Bx (u2:LL) (u3 u4:Int) (u5:LL) (u0:Nat) (u1:LL):Option (Ctl (Nat×LL) (LL)) :=
 cond (decide ((u0:Int)<(u2.length:Int)))
 ((u2[u0]?).bind fun x12 =>
 (Bs u3 u4 u5 x12).bind fun y13 =>
 og (u1.length+1<=1073741824/\(u1.length+1)*24<=140737488355328) <|
 og (u0+1<4611686018427387904) <|
 some (.next (u0+1,u1++[x12.take y13])))
 (some (.out u1))
def Bk (u5 u6:Int) (u0:LL) (u1 u2:Int) (u3:LL):Option LL :=
 (Aq (fun s_:Nat×LL=>Bx u0 u1 u2 u3 s_.1 s_.2) 4611686018427387904 (0,([]:ZA))).bind fun u4 =>
some u4
theorem C7 (h:Bk bA bB dA bC bD dB=some dC):Xi Tryz.prog Tab 129 [.agg [ai bA,ai bB,tS dA],.fn 1000131 [.agg [ai bC,ai bD,tS dB]]] (oS 0 1 dC.length) [(oi 0 1,.tv 81 none sI dC)]:=by
 refine Ald kr Tryz.func129 (Cc kr) (fun nz_=>[.agg [ai bA,ai bB,.ftr nz_ sI dA],.fn 1000131 [.agg [ai bC,ai bD,.ftr nz_ sI dB]]]) (n:=24) kr (fun _=>by simp) (tl:=fun nz_=>[(0,.agg [ai bA,ai bB,.ftr nz_ sI dA]),(1,.fn 1000131 [.agg [ai bC,ai bD,.ftr nz_ sI dB]])]) (fun _=>rfl) (fun _=>⟨_,_,rfl,⟨_,rfl,⟨_,_,rfl,rfl,⟨_,_,rfl,rfl,⟨_,_,rfl,rfl,rfl⟩⟩⟩⟩,⟨_,_,rfl,⟨_,rfl,⟨_,_,rfl,⟨_,rfl,⟨_,_,rfl,rfl,⟨_,_,rfl,rfl,⟨_,_,rfl,rfl,rfl⟩⟩⟩⟩,rfl⟩⟩,rfl⟩⟩) (fun _=>by kernel_rfl) (fun _ _=>rfl) fun nz_=>Ae<|Ab<|Aa 5<|I4 (oS 8 3 0) (oi 8 3) (.vec 81 1 0<|tvC (some nz_) sI ([]:ZA)) trivial (C8 kr)<|rsT 1<|Ap<|tn_ ⟨_,Cn (N:=0) (oi 8 3) 81 (some nz_) sI ([]:ZA) kr rfl,sqF h (fun u5=>sT [(5,oS 0 1 u5.length)] [(oi 0 1,.tv 81 (some nz_) sI u5)]) ?_ fun u5 h=>Ae<|Ac (by obtain rfl:=osj h;exact E2 [oS 0 1 u5.length]<|Ag (tl:=[(4,oS 0 1 u5.length)]) (g:=2) [])⟩
 intro _ h;refine Ae<|Ad<|lpF h (fun (u8,u0)=>sT [(1,.fn 1000131 [.agg [ai bC,ai bD,.ftr nz_ sI dB]]),(5,oS 0 1 u0.length),(10,.ftr nz_ sI dA),(11,an dA.length),(12,an u8)] [(oi 0 1,.tv 81 (some nz_) sI u0)]) (Ag [(oi 0 1,oi 8 3)]) ?_;rintro n_ ⟨u8,u0⟩ c_ h hn6;refine Ae<|Ab (kQ h (fun _ h=>skW<|Ab<|Ad<|Ab<|Aa 6 (riH sI h fun x12 _ h=>rsT 2<|rnW<|Aa 13<|rsT 3 ?_)) fun _ h=>lxT (have h:=jO h hn6;jE []));have ⟨y13,h13,h⟩:=Ah h;refine Tb (.ftr nz_ .int<|x12.take y13) [] [.agg [ai bC,ai bD,.ftr nz_ sI dB],.ftr nz_ .int x12] _ (caps:=[.agg [ai bC,ai bD,.ftr nz_ sI dB]]) (args0:=[.agg [ai bC,ai bD,tS dB],tI x12]) trivial kr (E6 h13) kr (hr:=Ro h13) (m:=1000000)<|I4 (oS 20 10 1) (oi 20 10) (.vec 81 1 1<|tvC (some nz_) sI<|[x12.take y13]) trivial (C8 kr) ?_;have ⟨g14,h⟩:=Al h;refine rs2 (oS 0 11<|u0.length+1) (oi 0 1) (oi 0 11) (.vec 81 1 (u0.length+1)<|tvC (some nz_) sI<|u0++[x12.take y13]) (O4 (t':=sI) (t:=sI) (t2:=sI) (e2:=81) (q:=oi 20 10) (m:=some nz_) (z:=x12.take y13) (o:=oi 0 1) (xs:=u0) (len:=u0.length) kr kr rfl kr kr g14) (rsT 1<|Ap<|bn_<|tn_ ⟨_,Cn (N:=u0.length+1) (oi 0 11) 81 (some nz_) sI (u0++[x12.take y13]) kr fS,Aa 15 (raH h fun h=>rsT 1<|Ap<|tn_ ?_)⟩);cases h;exact jLw hn6<|(wL 5 (fS:u0.length+1=(u0++[x12.take y13]).length)).trans<|Ag [(oi 0 1,oi 0 11)]
def K8 (y6:LL) (a0:Int) (u0:Nat) (u1:LL):Option (Ctl (Nat×LL) (LL)) :=
 cond (decide ((u0:Int)<(y6.length:Int)))
 ((y6[u0]?).bind fun x13 =>
 (Ec (x13.length:Int)).bind fun y15 =>
 (Cx a0 y15 (-1) x13).bind fun y17 =>
 og (y17.length=y15.length) <|
 og (u1.length+([y17]).length<=1073741824/\(u1.length+([y17]).length)*24<=140737488355328) <|
 og (u0+1<4611686018427387904) <|
 some (.next (u0+1,u1++([y17]))))
 (some (.out u1))
def Lj (y27 y22:LL) (a0 u2:Int) (y23:LL) (u3:Int) (u0:Nat) (u1:LL):Option (Ctl (Nat×LL) (LL)) :=
 cond (decide ((u0:Int)<(y27.length:Int)))
 ((y27[u0]?).bind fun x34 =>
 og ((0:Int)<=0/\0<=(y22.length:Int)/\(y22.length:Int)<=(x34.length:Int)) <|
 (I2 a0 (x34.take y22.length) y22 u2).bind fun y37 =>
 og ((0:Int)<=(y22.length:Int)/\(y22.length:Int)<=(x34.length:Int)/\(x34.length:Int)<=(x34.length:Int)) <|
 (I2 a0 (x34.drop y22.length) y23 u3).bind fun y40 =>
 (Dl ([y37,y40])).bind fun y41 =>
 og (u1.length+1<=1073741824/\(u1.length+1)*24<=140737488355328) <|
 og (u0+1<4611686018427387904) <|
 some (.next (u0+1,u1++[y41])))
 (some (.out u1))
def Hq (a0 u0 u2:Int) (u3:LL) (u4 u1:Int) (u5:LL):Option (Int×Int×LL) :=
 (Bi u0 u2 u3 u0 u2 u3).bind fun y3 =>
((Bk u4 u1 u5 u4 u1 u5).bind fun y6 =>
 Aq (fun s_:Nat×LL=>K8 y6 a0 s_.1 s_.2) 4611686018427387904 (0,y3)).bind fun u6 =>
(Bk u0 u2 u3 u0 u2 u3).bind fun y22 =>
(Bi u4 u1 u5 u4 u1 u5).bind fun y23 =>
((Kj a0 u6 u2).bind fun y27 =>
 Aq (fun s_:Nat×LL=>Lj y27 y22 a0 u0 y23 u1 s_.1 s_.2) 4611686018427387904 (0,([]:LL))).bind fun u7 =>
(B5 a0 u0 u1 u7).bind fun y45 =>
some (y45.1,y45.2.1,y45.2.2)
theorem Z0 (h:Hq bA bB bC dA bD bE dB=some qA):cK 90 [ai bA,.agg [ai bB,ai bC,tS dA],.agg [ai bD,ai bE,tS dB]] (Dw qA):=by
 refine cZ Tryz.func90 fun zn_ nz_ hz_=>Ae<|Ab<|Aa 9<|rsT 3 ?_
 have ⟨y3,h3,h⟩:=Ah h;refine Atf (oS 336 7 y3.length) [(oi 336 7,some<|.tv 81 none sI y3)] (caps:=[]) trivial (Ai3<|C3 h3) kr<|rsT 1<|rnW<|sqF h (fun ua=>sT [(0,ai bA),(4,.box (oi 0 1) 0),(5,.box (oi 1 1) 0),(6,.box (oi 2 1) 0),(7,oS 3 1 ua.length)] [(oi 0 1,.cells 30 [ai bB,ai bC,tS dA]),(oi 1 1,.cells 30 [ai bD,ai bE,tS dB]),(oi 2 1,.cells 30 [ai 0,ai 0,.nils]),(oi 3 1,.tv 81 none sI ua)]) ?_ ?_
 ·intro _ h;refine Ab<|Aa 15<|rsT 3 ?_;have ⟨y6,h6,h⟩:=Ah h;refine Atf (oS 400 12 y6.length) [(oi 400 12,some<|.tv 81 none sI y6)] (caps:=[]) trivial (Ai3<|C7 h6) kr<|rsT 2<|rnW<|Ad<|lpF h (fun (ub,u1)=>sT [(0,ai bA),(4,.box (oi 0 1) 0),(5,.box (oi 1 1) 0),(6,.box (oi 2 1) 0),(7,oS 3 1 u1.length),(25,oS 4 1 y6.length),(26,an y6.length),(27,an ub)] [(oi 0 1,.cells 30 [ai bB,ai bC,tS dA]),(oi 1 1,.cells 30 [ai bD,ai bE,tS dB]),(oi 2 1,.cells 30 [ai 0,ai 0,.nils]),(oi 3 1,.tv 81 none sI u1),(oi 4 1,.tv 81 none sI y6)]) (Ag [(oi 0 1,oi 4 1),(oi 1 1,oi 5 2),(oi 2 1,oi 6 3),(oi 3 1,oi 336 7),(oi 4 1,oi 400 12)]) ?_;rintro n_ ⟨ub,u1⟩ c_ h hn7
  (try dsimp only at h);refine Ae<|Ab (kQ h (fun q10 h=>?_) fun q10 h=>?_)
  ·have q10_:=of_decide_eq_true q10;refine skW<|Ab<|Ad<|Ab<|Aa 6 ?_;have ⟨x13,e13,h⟩:=Ah h;refine zO (oi 4 1) sI y6.length (Ai e13)<|rsl (tI x13) (Xt (o:=oi 4 1) (k:=0) (e1:=81) (N:=List.length y6) (t:=sI) (m:=none) (xs:=y6) (z:=x13) kr kr e13 kr)<|rsT 1<|rnW<|Ab<|Aa 10<|rsT 2 (rcH h (fun h=>I9<|Ga h) fun y15 h=>rsT 1<|rnW<|Ab<|Aa 14<|rsT 3 (rcM h [(oi 0 0,oi 528 8)] [ai bA,oI 528 8 y15.length,ai<|-1,tI x13] (fun h=>Ur<|Mv h rfl) ⟨kr,trivial⟩ (aR kr) (Ba kr kr ⟨Cv kr,trivial⟩) fun y17 h=>Ap<|tn_ ?_));have ⟨g18,h⟩:=Al h;refine ⟨_,Anp (e:=3) (t:=.int) (xs:=y17) 10 (oi 528 8) kr kr g18.symm,Aa 19<|rsT 2<|rsU (tS<|[y17]) [] (Aew (t:=.int) (yss:=[y17]) (Eh (t:=.int) (c:=tI y17) (ys:=y17) kr Kz Sk) kr) ?_⟩;have ⟨g19,h⟩:=Al h;refine rs2 (oS 3 17<|u1.length+([y17]).length) (oi 3 1) (oi 3 17) (.vec 81 1 (u1.length+([y17]).length)<|tvC none sI<|u1++([y17])) (Aps (o:=oi 3 1) (t:=sI) (t':=sI) (len:=u1.length) (N:=u1.length) (m:=none) (xs:=u1) (ys:=[y17]) kr kr rfl rfl (Aov kr) g19) (rsT 1<|Ap<|bn_<|tn_ ⟨_,Cn (N:=u1.length+([y17]).length) (oi 3 17) 81 none sI (u1++([y17])) kr fS,Aa 21 ?_⟩);have ⟨g20,h⟩:=Al h;refine zA g20<|rsT 1<|Ap<|tn_ ?_;cases h;exact jLw hn7<|(wL 7 (fS:u1.length+([y17]).length=(u1++([y17])).length)).trans<|Ag [(oi 3 1,oi 3 17)]
  have q10_:=of_decide_eq_false q10;refine lxT ?_;have h:=jO h hn7
  (try dsimp only at h);exact jE []
 intro ua h
 (try dsimp only at h);refine Ab<|An 12<|dsT 3 ?_;have ⟨y22,h22,h⟩:=Ah h;refine Asb (oS 736 5 y22.length) [(oi 736 5,some<|.tv 81 none sI y22)] (caps:=[]) trivial (Ai3<|C7 h22) kr<|dzl (.agg [ai bD,ai bE,tS dB])<|dzl (.agg [ai bD,ai bE,tS dB])<|dz0 (.fn 1000130 [.agg [ai bD,ai bE,tS dB]]) ?_;have ⟨y23,h23,h⟩:=Ah h;refine Asb (oS 800 9 y23.length) [(oi 800 9,some<|.tv 81 none sI y23)] (caps:=[]) trivial (Ai3<|C3 h23) kr<|dz0 (oS 736 5 y22.length)<|dz0 (oS 800 9 y23.length)<|Cb ⟨Amj kr,⟨Amj kr,trivial⟩⟩<|tn_<|wr_<|Ab<|Aa 14<|I4 (oS 51 12 0) (oi 51 12) (.vec 81 1 0 []) trivial (C8 kr)<|rsT 1<|Ap<|tn_ ⟨_,Dt (e1:=81) (n:=0) 9000 (oi 51 12) 3 .int kr kr rfl kr kr,sqF h (fun u9=>sT [(0,ai bA),(4,.box (oi 0 1) 0),(5,.box (oi 1 1) 0),(6,.box (oi 2 1) 0),(13,oS 3 1 u9.length)] [(oi 0 1,.cells 30 [ai bB,ai bC,tS dA]),(oi 1 1,.cells 30 [ai bD,ai bE,tS dB]),(oi 2 1,.cells 30 [ai 0,ai 0,.nils]),(oi 3 1,.mat 81 (oi 4 1) .int u9),(oi 4 1,.pool 3 .int u9)]) ?_ ?_⟩
 ·intro _ h;refine Ab<|Aa 22<|rsT 4 (rcM h [] [ai bA,oS 3 1 ua.length,ai bC] (fun h=>Ur<|Ac9 h) trivial (.cons (.ren kr)<|.cons (.gnd kr<|Akc (e:=81) (m:=none) (t:=sI) (xs:=ua) ((L3 kr kr kr).trans kr) rfl)<|.cons (.ren kr) .nil) (Ba kr kr trivial) fun y27 h=>rsT 2<|rnW<|Ad<|lpF h (fun (u3,u6)=>sT [(0,ai bA),(4,.box (oi 0 1) 0),(5,.box (oi 1 1) 0),(6,.box (oi 2 1) 0),(11,oS 3 1 y22.length),(12,oS 4 1 y23.length),(13,oS 5 1 u6.length),(56,oS 7 1 y27.length),(57,an y27.length),(58,an u3)] [(oi 0 1,.cells 30 [ai bB,ai bC,tS dA]),(oi 1 1,.cells 30 [ai bD,ai bE,tS dB]),(oi 2 1,.cells 30 [ai 0,ai 0,.nils]),(oi 3 1,.tv 81 none sI y22),(oi 4 1,.tv 81 none sI y23),(oi 5 1,.mat 81 (oi 6 1) .int u6),(oi 6 1,.pool 3 .int u6),(oi 7 1,.mat 81 (oi 8 1) .int y27),(oi 8 1,.pool 3 .int y27)]) (Ag [(oi 3 1,oi 736 5),(oi 4 1,oi 800 9),(oi 5 1,oi 51 12),(oi 6 1,oi 9000 14),(oi 7 1,oi 896 19),(oi 8 1,oi 897 19)]) ?_);rintro n_ ⟨u3,u6⟩ c_ h hn28
  (try dsimp only at h);refine Ae<|Ab (kQ h (fun q31 h=>?_) fun q31 h=>?_)
  ·have q31_:=of_decide_eq_true q31;refine skW<|Ab<|Ad<|Ab<|Aa 6 ?_;have ⟨x34,e34,h⟩:=Ah h;refine zO (oi 7 1) sI y27.length (Ai e34)<|rsl (.own (kid (oi 8 1) u3) .int 0 x34.length) (Fc (o:=oi 7 1) (p:=oi 8 1) (e1:=81) (u:=.int) (xss:=y27) (row:=x34) (j:=u3) kr kr e34)<|rsT 1<|rnW<|Ab<|An 16<|dsT 4 ?_;have ⟨g36,h⟩:=Al h;have ⟨y37,h37,h⟩:=Ah h;refine ds0 (.own (kid (oi 8 1) u3) .int 0 y22.length) (Gv (t:=.int) (i:=kid (oi 8 1) u3) (off:=0) (len:=x34.length) (l:=0) (h:=(y22.length:Int)) kr kr kr rfl g36 rfl oM)<|dz0 (oS 3 1 y22.length)<|dz0 (.box (oi 0 1) 0)<|dzl (ai bB)<|Ou (oI 1120 14 y37.length) [nI 1120 14 y37] [ai bA,.own (kid (oi 8 1) u3) .int 0 y22.length,oS 3 1 y22.length,ai bB] _ (caps:=[]) (args0:=[ai bA,tI<|x34.take y22.length,tS y22,ai bB]) trivial (Av kr<|Av (Aiy (e:=3) (u:=.int) (xs:=x34) ((K5<|Re (t:=.int) (off:=0) (len:=y22.length) 1 rfl kr).trans<|Bo kr e34) oM)<|Av (Akc (e:=81) (m:=none) (t:=sI) (xs:=y22) ((K5<|Re (t:=sI) (off:=0) (len:=y22.length) 2 rfl kr).trans kr) rfl)<|Av kr Dp) (I9<|S9 h37) kr<|dz0 (oI 1120 14 y37.length)<|Cb (Ar kr)<|tn_<|wr_<|Ab<|An 26<|dsT 4 ?_;have ⟨g39,h⟩:=Al h;have ⟨y40,h40,h⟩:=Ah h;refine ds0 (.own (kid (oi 8 1) u3) .int y22.length<|x34.length - y22.length) (Gv (t:=.int) (i:=kid (oi 8 1) u3) (off:=0) (len:=x34.length) (l:=(y22.length:Int)) (h:=(x34.length:Int)) kr kr kr rfl g39 (fE _) oM) (dz0 (oS 4 1 y23.length)<|dz0 (.box (oi 1 1) 1)<|dzl (ai bE)<|Ou (oI 1264 24 y40.length) [nI 1264 24 y40] [ai bA,.own (kid (oi 8 1) u3) .int y22.length<|x34.length - y22.length,oS 4 1 y23.length,ai bE] _ (caps:=[]) (args0:=[ai bA,tI<|x34.drop y22.length,tS y23,ai bE]) trivial (Av kr<|Av (Asq (e:=3) (u:=.int) (xs:=x34) ((K5<|Re (t:=.int) (off:=y22.length) (len:=x34.length - y22.length) 1 rfl kr).trans<|Bo kr e34) oM (by rw [take_of_length_le (by rw [length_drop];omega)]))<|Av (Akc (e:=81) (m:=none) (t:=sI) (xs:=y23) ((K5<|Re (t:=sI) (off:=0) (len:=y23.length) 2 rfl kr).trans kr) rfl)<|Av kr Dp) (I9<|S9 h40) kr<|dz0 (oI 1264 24 y40.length)<|Cb (Ar kr)<|tn_<|wr_<|Aa 34<|rsT 3<|rsU (tS<|[y37,y40]) [(oi 1120 14,none),(oi 1264 24,none)] (Aew (t:=.int) (yss:=[y37,y40]) (Eh (t:=.int) (c:=oI 1120 14 y37.length) (ys:=y37) kr (H9 (e:=3) kr rfl)<|Eh (t:=.int) (c:=oI 1264 24 y40.length) (ys:=y40) kr (H9 (e:=3) kr rfl) Sk) kr) (rcH h (fun h=>I9<|Ix h) fun y41 h=>I4 (oS 85 31 1) (oi 85 31) (.vec 81 1 1<|[oI 1344 30 y41.length]) trivial (C8 kr) ?_));have ⟨g42,h⟩:=Al h;refine zV (oi 5 1) (oi 85 31) (oi 6 1) u6 [oI 1344 30 y41.length] g42<|rsT 1<|Ap<|bn_<|tn_ ⟨_,Eu (e1:=81) (e:=3) (u:=.int) (n:=u6.length+1) (len:=y41.length) (row:=y41) (ys:=y41) (xss:=u6) 9000 (oi 5 32) (oi 6 1) (oi 1344 30) kr kr rfl kr kr (N1 rfl) (Ny rfl) kr kr kr,Aa 37 ?_⟩;have ⟨g43,h⟩:=Al h;refine zA g43<|rsT 1<|Ap<|tn_ ?_;cases h;exact jLw hn28<|(wL 13 (fS:u6.length+1=(u6++[y41]).length)).trans<|Ag [(oi 5 1,oi 5 32),(oi 6 1,oi 9000 34)]
  have q31_:=of_decide_eq_false q31;refine lxT ?_;have h:=jO h hn28
  (try dsimp only at h);exact jE [(oi 3 1,oi 5 1),(oi 4 1,oi 6 1)]
 intro u9 h
 (try dsimp only at h);exact Ab<|Aa 10<|rsT 6 (rcG h [ai bA,ai bB,ai bE,oS 3 1 u9.length] (fun h=>J6 hz_<|Fh h) (Av kr<|Av kr<|Av kr<|Av (Sn (p:=oi 4 1) (e1:=81) (e:=3) (u:=.int) (xss:=u9) kr (Er kr) rfl) Dp) fun y45 h=>rsB 1<|rnW<|Ac<|jZ h [(true,[ai y45.1,ai y45.2.1,.ftr nz_ sI y45.2.2])]<|Gd (A5 Dg<|A5 Dg<|A5 (Cd .ftr) Ge) Dd)
end
section
set_option maxRecDepth 4000
set_option maxHeartbeats 4800000
variable {bA bB bC:Int} {gA:ByteArray} {qA:Int×Int×LL}
def Bh (a0 u0 u1:Int) (u2:ByteArray):Option (Int×Int×LL) :=
 cond (u0==1)
 ((Es u1).bind fun y6 =>
 some (y6.1,y6.2.1,y6.2.2))
 (cond (u0==2)
  ((B5 a0 2 2 ([[1,0,0,1],[0,1,1,0]])).bind fun y10 =>
  some (y10.1,y10.2.1,y10.2.2))
  (cond (decide (9<=u0))
   ((L1 u0).bind fun y14 =>
   (D3 y14).bind fun y15 =>
   (L1 u0).bind fun y17 =>
   (Jb y17 u1).bind fun y18 =>
   (B5 a0 y15.1 y15.2 y18).bind fun y19 =>
   (Oj a0 y19.1 y19.2.1 y19.2.2).bind fun y20 =>
   some (y20.1,y20.2.1,y20.2.2))
   ((D3 u0).bind fun y22 =>
   (Jb u0 u1).bind fun y24 =>
   (B5 a0 y22.1 y22.2 y24).bind fun y25 =>
   some (y25.1,y25.2.1,y25.2.2))))
theorem T5 (h:Bh bA bB bC gA=some qA):cK 92 [ai bA,.agg [ai bB,ai bC,.str gA]] (Dw qA):=by
 exact cZ Tryz.func92 fun zn_ nz_ hz_=>Ae<|Ab<|Ad<|Ae (kQ h (fun _ h=>Ab<|Aa 11<|rsT 2 (rcH h (fun h=>J6 hz_<|Rc h) fun y6 h=>rsB 1<|rnW<|Ac<|br_<|tr_<|jZ h [(true,[ai y6.1,ai y6.2.1,.ftr nz_ sI y6.2.2])]<|Gd (A5 Dg<|A5 Dg<|A5 (Cd .ftr) Ge) Dd)) fun _ h=>Ae (kQ h (fun _ h=>Ab<|Aa 17<|rsB 3<|rsU (tS<|[[1,0,0,1],[0,1,1,0]]) [(oi 19 12,none),(oi 20 13,none)] (Aew (t:=.int) (yss:=[[1,0,0,1],[0,1,1,0]]) (Eh (t:=.int) (c:=oI 19 12 4) (ys:=[1,0,0,1]) kr (H9 (e:=3) kr rfl)<|Eh (t:=.int) (c:=oI 20 13 4) (ys:=[0,1,1,0]) kr (H9 (e:=3) kr rfl) Sk) kr) (rcH h (fun h=>J6 hz_<|Fh h) fun y10 h=>rsB 1<|rnW<|Ac<|br_<|tr_<|jZ h [(true,[ai y10.1,ai y10.2.1,.ftr nz_ sI y10.2.2])]<|Gd (A5 Dg<|A5 Dg<|A5 (Cd .ftr) Ge) Dd)) fun _ h=>Ae (kQ h (fun _ h=>Ab<|Aa 21<|rsT 2 (rcH h (fun h=>I9<|Pf h) fun y14 h=>rcH h (fun h=>I9<|Hb h) fun y15 h=>rsB 2<|rnW<|Ab<|An 36<|dsT 8 (dcH h (fun h=>I9<|Pf h) fun y17 h=>ds0 (.box (oi 3 1) 1) kr<|dsl (ai bC) kr (dcH h (fun h=>J6 hz_<|Mp h) fun y18 h=>dcH h (fun h=>J6 hz_<|Fh h) fun y19 h=>dcH h (fun h=>J6 hz_<|Zb h) fun y20 h=>Lg (oi 4 2) (oi 4 2) (.cells 30 [ai y20.1,ai y20.2.1,.ftr nz_ sI y20.2.2]) kr<|Cb (Ar kr)<|tn_<|wr_<|Ac<|br_<|tr_<|jZ h [(true,[ai y20.1,ai y20.2.1,.ftr nz_ sI y20.2.2])]<|Gd (A5 Dg<|A5 Dg<|A5 (Cd .ftr) Ge) Dd)))) fun _ h=>Ax<|bn_<|tn_<|wr_<|Ab<|Aa 20<|rsT 2 (rcH h (fun h=>I9<|Hb h) fun y22 h=>rsB 2<|rnW<|Ab<|An 32<|dsT 9 (dcH h (fun h=>J6 hz_<|Mp h) fun y24 h=>dcH h (fun h=>J6 hz_<|Fh h) fun y25 h=>Lg (oi 4 2) (oi 4 2) (.cells 30 [ai y25.1,ai y25.2.1,.ftr nz_ sI y25.2.2]) kr<|Cb (Ar kr)<|tn_<|wr_<|Ac<|jZ h [(true,[ai y25.1,ai y25.2.1,.ftr nz_ sI y25.2.2])]<|Gd (A5 Dg<|A5 Dg<|A5 (Cd .ftr) Ge) Dd)))))
end
section
set_option maxRecDepth 4000
set_option maxHeartbeats 4800000
variable {gA gB:ByteArray} {hA:List ZB} {bA bB:Int} {dA:LL} {cA:Bool} {pA:List (ByteArray×(List ZB)×Int×Int×LL)} {wA:ByteArray×(List ZB)×Int×Int×LL} {qA:Int×Int×LL}
def Gw (u0:ByteArray) (u2:List ZB) (u3 u4:Int) (u5:LL) (u1:ByteArray):Option Bool :=
 some (u0.toList==u1.toList)
theorem Q1 (h:Gw gA hA bA bB dA gB=some cA):cK 113 [.agg [.str gA,.tree Y8 hA,ai bA,ai bB,tS dA],.ref [.str gB]] (Am cA):=by
 exact cO Tryz.func113<|Ae<|Ae<|Ac<|jS h
def A9 (a0:List (ByteArray×(List ZB)×Int×Int×LL)) (u1:ByteArray) (u0:Nat):Option (Ctl Nat (Ctl Unit Int)) :=
 cond (decide ((u0:Int)<(a0.length:Int)))
 ((a0[u0]?).bind fun x11 =>
 (Gw x11.1 x11.2.1 x11.2.2.1 x11.2.2.2.1 x11.2.2.2.2 u1).bind fun y12 =>
 cond y12
  (some (.out (.out (u0:Int))))
  (og (u0+1<4611686018427387904) <|
  some (.next (u0+1))))
 (some (.out (.next ())))
def Be (a0:List (ByteArray×(List ZB)×Int×Int×LL)) (u0:ByteArray):Option Int :=
 Dj (Aq (fun s_:Nat=>A9 a0 u0 s_) 4611686018427387904 0) fun _ =>
some (-1)
theorem Cs (h:Be pA gA=some bA):cK 112 [.tree Yg pA,.fn 113 [.ref [.str gA]]] (A7 bA):=by
 refine cO Tryz.func112<|Ae (sqC h (fun _=>sT [] []) ?_ fun _ h=>Ae<|Ac<|jS h);intro _ h hk2;refine Ae<|Ad<|lpF h (fun u1=>sT [(0,.tree Yg pA),(1,.fn 113 [.ref [.str gA]]),(7,an pA.length),(8,an u1)] []) (Ag []) ?_;intro n_ u1 c_ h hn4;refine Ae<|Ab (kQ h (fun _ h=>skW<|Ab<|Ad<|Ae<|Ab<|Aa 11<|rsT 3 (riH Yg h fun x11 _ h=>rsT 1 ?_)) fun _ h=>lxT (have h:=jO h hn4;jC []));have ⟨y12,h12,h⟩:=Ah h;exact Tb (.bool y12) [] [.agg [.str x11.1,.tree Y8 x11.2.1,ai x11.2.2.1,ai x11.2.2.2.1,tS x11.2.2.2.2],.ref [.str gA]] _ (caps:=[.ref [.str gA]]) (args0:=[.agg [.str x11.1,.tree Y8 x11.2.1,ai x11.2.2.1,ai x11.2.2.2.1,tS x11.2.2.2.2],.ref [.str gA]]) trivial kr (Q1 h12) kr<|rnW (kQ h (fun _ h=>Ae<|Ac<|br_<|tr_<|tr_<|br_<|tr_ (have h:=jO h hn4;(have h:=jO h hk2;jS h))) fun _ h=>Ax<|bn_<|tn_<|wr_<|Aa 13 (raH h fun h=>rsT 1<|Ap<|tn_<|jL []))
def H5 (a0:List (ByteArray×(List ZB)×Int×Int×LL)) (a1:ByteArray):Option (ByteArray×(List ZB)×Int×Int×LL) :=
 (Be a0 a1).bind fun y3 =>
(Ce a0 y3).bind fun x4 =>
some (x4.1,x4.2.1,x4.2.2.1,x4.2.2.2.1,x4.2.2.2.2)
def Su (r:ByteArray×(List ZB)×Int×Int×LL):RV:=⟨false,[(true,[.sc (.str r.1),.imm (.tree Y8 r.2.1),.sc (.int .i64 r.2.2.1),.sc (.int .i64 r.2.2.2.1),.imm (tS r.2.2.2.2)])]⟩
theorem R8 (h:H5 pA gA=some wA):cK 70 [.tree Yg pA,.str gA] (Su wA):=by
 refine Ac8 kr Tryz.func70 (Cc kr) (fun nz_=>[.ftr nz_ Yg pA,.str gA]) (n:=11) kr (fun _=>by simp) (fun _=>⟨_,_,rfl,rfl,⟨_,_,rfl,⟨rfl,rfl⟩,rfl⟩⟩) (tl:=fun nz_=>[(0,.ftr nz_ Yg pA),(1,.str gA)]) (fun _=>rfl) fun zn_ nz_ hz_=>Ae<|Ab<|Aa 10<|rsT 3 (rcH h (fun h=>I9<|Cs h) fun y3 h=>?_)
 have ⟨x4,f4,h⟩:=Ah h;have ⟨p4,b4,e4⟩:=As f4;exact rs0 (.telt (some nz_) Yg x4 0) (zi (t:=Yg) (xs:=pA) (k:=.i64) (m:=y3) p4 e4)<|rsB 2<|rnW<|Ac<|jZ h [(true,[.str x4.1,.ftr nz_ Y8 x4.2.1,ai x4.2.2.1,ai x4.2.2.2.1,.ftr nz_ sI x4.2.2.2.2])]<|Gd (A5 Dg<|A5 (Cd .ftr)<|A5 Dg<|A5 Dg<|A5 (Cd .ftr) Ge) Dd
def F6 (a0:ByteArray) (u0:List (ByteArray×(List ZB)×Int×Int×LL)):Option (Int×Int×LL) :=
 (H5 u0 a0).bind fun y3 =>
some (y3.2.2.1,y3.2.2.2.1,y3.2.2.2.2)
def Wo (r:Int×Int×LL):RV:=⟨false,[(true,[.sc (.int .i64 r.1),.sc (.int .i64 r.2.1),.imm (tS r.2.2)])]⟩
theorem W6 (h:F6 gA pA=some qA):cK 69 [.str gA,.ref [.tree Yg pA]] (Wo qA):=by
 refine Aum kr Tryz.func69 (Cc kr) (fun nz_=>[.str gA,.ref [.ftr nz_ Yg pA]]) (n:=8) kr (fun _=>by simp) (fun _=>⟨_,_,rfl,⟨rfl,rfl⟩,⟨_,_,rfl,⟨_,rfl,⟨_,_,rfl,rfl,rfl⟩⟩,rfl⟩⟩) (tl:=fun nz_=>[(0,.str gA),(1,.ref [.ftr nz_ Yg pA])]) (fun _=>rfl) fun zn_ nz_ hz_=>Ae<|Ab<|Aa 7<|rsT 2 ?_
 have ⟨y3,h3,h⟩:=Ah h;exact Avi (.agg [.str y3.1,.ftr nz_ Y8 y3.2.1,ai y3.2.2.1,ai y3.2.2.2.1,.ftr nz_ sI y3.2.2.2.2]) [] [.ftr nz_ Yg pA,.str gA] [.ftr nz_ Yg pA,.str gA] (caps:=[]) trivial (A0y (args:=[.tree Yg pA,.str gA]) hz_ ⟨_,_,rfl,rfl,⟨_,_,rfl,⟨rfl,rfl⟩,rfl⟩⟩<|R8 h3) kr<|rsB 2<|rnW<|Ac<|jZ h [(true,[ai y3.2.2.1,ai y3.2.2.2.1,.ftr nz_ sI y3.2.2.2.2])]<|Gd (A5 Dg<|A5 Dg<|A5 (Cd .ftr) Ge) Dd
def Br (u2:List ZB) (a0:Int) (u3:List (ByteArray×(List ZB)×Int×Int×LL)) (u1:Nat) (u0:List (Int×Int×LL)):Option (Ctl (Nat×(List (Int×Int×LL))) (List (Int×Int×LL))) :=
 cond (decide ((u1:Int)<(u2.length:Int)))
 (((u2[u1]?).bind fun x12 =>
  cond (x12.1==15)
   (og ((0:Int)<=0/\0<=wI ((wI ((u0.length:Int) - 1)) - 1)/\wI ((wI ((u0.length:Int) - 1)) - 1)<=(u0.length:Int)) <|
   (Ce u0 (wI ((wI ((u0.length:Int) - 1)) - 1))).bind fun x18 =>
   (Ce u0 (wI ((wI ((u0.length:Int) - 1)) - 1))).bind fun x19 =>
   (Ce u0 (wI ((u0.length:Int) - 1))).bind fun x20 =>
   (Ce u0 (wI ((u0.length:Int) - 1))).bind fun x21 =>
   (Hq a0 x19.1 x19.2.1 x19.2.2 x21.1 x21.2.1 x21.2.2).bind fun y22 =>
   og ((wI ((wI ((u0.length:Int) - 1)) - 1)).toNat<=u0.length/\(wI ((wI ((u0.length:Int) - 1)) - 1)).toNat+1<=1073741824/\((wI ((wI ((u0.length:Int) - 1)) - 1)).toNat+1)*40<=140737488355328) <|
   some (u0.take ((wI ((wI ((u0.length:Int) - 1)) - 1)).toNat)++[y22]))
   (cond (x12.1==16)
    (og ((0:Int)<=0/\0<=wI ((wI ((u0.length:Int) - 1)) - 1)/\wI ((wI ((u0.length:Int) - 1)) - 1)<=(u0.length:Int)) <|
    (Ce u0 (wI ((wI ((u0.length:Int) - 1)) - 1))).bind fun x27 =>
    (Ce u0 (wI ((wI ((u0.length:Int) - 1)) - 1))).bind fun x28 =>
    (Ce u0 (wI ((u0.length:Int) - 1))).bind fun x29 =>
    (Ce u0 (wI ((u0.length:Int) - 1))).bind fun x30 =>
    (Ke a0 x28.1 x28.2.1 x28.2.2 x30.1 x30.2.1 x30.2.2).bind fun y31 =>
    og ((wI ((wI ((u0.length:Int) - 1)) - 1)).toNat<=u0.length/\(wI ((wI ((u0.length:Int) - 1)) - 1)).toNat+1<=1073741824/\((wI ((wI ((u0.length:Int) - 1)) - 1)).toNat+1)*40<=140737488355328) <|
    some (u0.take ((wI ((wI ((u0.length:Int) - 1)) - 1)).toNat)++[y31]))
    (cond (x12.1==17)
     ((F6 x12.2.2 u3).bind fun y35 =>
     og (u0.length+1<=1073741824/\(u0.length+1)*40<=140737488355328) <|
     some (u0++[y35]))
     ((Bh a0 x12.1 x12.2.1 x12.2.2).bind fun y37 =>
     og (u0.length+1<=1073741824/\(u0.length+1)*40<=140737488355328) <|
     some (u0++[y37]))))).bind fun u4 =>
 og (u1+1<4611686018427387904) <|
 some (.next (u1+1,u4)))
 (some (.out u0))
def Db (a0:Int) (u0:List ZB) (u1:List (ByteArray×(List ZB)×Int×Int×LL)):Option (Int×Int×LL) :=
 (Aq (fun s_:Nat×(List (Int×Int×LL))=>Br u0 a0 u1 s_.1 s_.2) 4611686018427387904 (0,[])).bind fun u2 =>
(u2[0]?).bind fun x41 =>
(Gb x41.2.2).bind fun y43 =>
some (x41.1,x41.2.1,y43)
theorem Kn (h:Db bA hA pA=some qA):Eb Tryz.prog Tab 68 [ai bA,.agg [.tree Y8 hA],.fn 69 [.ref [.tree Yg pA]]] [] (.agg [ai qA.1,ai qA.2.1,oS 1 1 qA.2.2.length]) [(oi 0 1,.cells 30 [ai qA.1,ai qA.2.1,oS 1 1 qA.2.2.length]),(oi 1 1,.mat 81 (oi 2 1) .int qA.2.2),(oi 2 1,.pool 3 .int qA.2.2)]:=by
 refine B3 kr Tryz.func68 (Cc kr) (n:=90) kr fS rfl kr trivial ⟨trivial,⟨⟨3,.tail _<|.tail _<|.head _⟩,⟨trivial,trivial⟩⟩⟩<|Ae<|Ab<|Aa 5<|I4 (.own (oi 12 3) Y9 0 0) (oi 12 3) (.vec 30 3 0<|tvC none Y9 []) trivial (C8 kr)<|rsT 1<|Ap<|tn_ ⟨_,Cn (N:=0) (oi 12 3) 30 none Y9 [] kr rfl,sqF h (fun u3=>sT [(6,.box (oi 0 1) 0),(7,.own (oi 1 1) Y9 0 u3.length)] [(oi 0 1,.cells 30 [ai 0,ai 0,.nils]),(oi 1 1,.tv 30 none Y9 u3)]) ?_ ?_⟩
 ·intro _ h;refine Ae<|Ad<|lpF h (fun (u4,u0)=>sT [(0,ai bA),(2,.fn 69 [.ref [.tree Yg pA]]),(6,.box (oi 0 1) 0),(7,.own (oi 1 1) Y9 0 u0.length),(14,.tree Y8 hA),(15,an hA.length),(16,an u4)] [(oi 0 1,.cells 30 [ai 0,ai 0,.nils]),(oi 1 1,.tv 30 none Y9 u0)]) (Ag [(oi 0 1,oi 6 2),(oi 1 1,oi 12 3)]) ?_;rintro n_ ⟨u4,u0⟩ c_ h hn6
  (try dsimp only at h);refine Ae<|Ab (kQ h (fun q9 h=>?_) fun q9 h=>?_)
  ·have q9_:=of_decide_eq_true q9;refine skW<|sqF h (fun u5=>sT [(0,ai bA),(2,.fn 69 [.ref [.tree Yg pA]]),(6,.box (oi 0 1) 0),(7,.own (oi 1 1) Y9 0 u5.length),(14,.tree Y8 hA),(15,an hA.length),(16,an u4)] [(oi 0 1,.cells 30 [ai 0,ai 0,.nils]),(oi 1 1,.tv 30 none Y9 u5)]) ?_ ?_
   ·intro _ h;refine Ad<|Ab<|Aa 7 (riH Y8 h fun x12 _ h=>rsB 3<|rnW<|Ae<|Ae<|Ad<|Ae (kQ h (fun _ h=>?_) fun _ h=>?_))
    ·refine An 33<|dz0 (.own (oi 1 1) Y9 0 u0.length)<|dz0 (ai<|wI<|(u0.length:Int) - 1)<|dz0 (ai<|wI<|(wI<|(u0.length:Int) - 1) - 1) ?_;have ⟨g17,h⟩:=Al h;have ⟨x18,f18,h⟩:=Ah h;have ⟨p18,b18,e18⟩:=As f18;have ⟨x19,f19,h⟩:=Ah h;have ⟨p19,b19,e19⟩:=As f19;have ⟨x20,f20,h⟩:=Ah h;have ⟨p20,b20,e20⟩:=As f20;have ⟨x21,f21,h⟩:=Ah h;have ⟨p21,b21,e21⟩:=As f21;have ⟨y22,h22,h⟩:=Ah h;have ⟨g23,h⟩:=Al h;refine ds0 (.own (oi 1 1) Y9 0<|(wI<|(wI<|(u0.length:Int) - 1) - 1).toNat) (Gv (t:=Y9) (i:=oi 1 1) (off:=0) (len:=u0.length) (l:=0) (h:=wI<|(wI<|(u0.length:Int) - 1) - 1) kr kr kr rfl g17 rfl oM)<|dsT 4<|ds0 (.elt (oi 1 1) ((wI<|(wI<|(u0.length:Int) - 1) - 1).toNat) 0) (zo (t:=Y9) (o:=oi 1 1) (len:=u0.length) (k:=.i64) (m:=wI<|(wI<|(u0.length:Int) - 1) - 1) p18<|Ai e18)<|dsl (.agg [ai x19.1,ai x19.2.1,tS x19.2.2]) (Xt (o:=oi 1 1) (k:=0) (e1:=30) (N:=List.length u0) (t:=Y9) (m:=none) (xs:=u0) (z:=x19) kr kr e19 kr<|Nat.le_of_ble_eq_true kr)<|dz0 (.own (oi 1 1) Y9 0 u0.length)<|dz0 (ai<|wI<|(u0.length:Int) - 1)<|ds0 (.elt (oi 1 1) ((wI<|(u0.length:Int) - 1).toNat) 0) (zo (t:=Y9) (o:=oi 1 1) (len:=u0.length) (k:=.i64) (m:=wI<|(u0.length:Int) - 1) p20<|Ai e20)<|dsl (.agg [ai x21.1,ai x21.2.1,tS x21.2.2]) (Xt (o:=oi 1 1) (k:=0) (e1:=30) (N:=List.length u0) (t:=Y9) (m:=none) (xs:=u0) (z:=x21) kr kr e21 kr<|Nat.le_of_ble_eq_true kr)<|dzc (.agg [ai y22.1,ai y22.2.1,tS y22.2.2]) [] [ai bA,.agg [ai x19.1,ai x19.2.1,tS x19.2.2],.agg [ai x21.1,ai x21.2.1,tS x21.2.2]] (Z0 h22)<|Amo (.own (oi 48 30) Y9 0 1) (oi 48 30) (.vec 30 3 1<|tvC none Y9<|[y22]) trivial (C8 kr)<|ds2 (.own (oi 1 31) Y9 0<|(wI<|(wI<|(u0.length:Int) - 1) - 1).toNat+1) (oi 1 1) (oi 1 31) (.vec 30 3 ((wI<|(wI<|(u0.length:Int) - 1) - 1).toNat+1)<|tvC none Y9<|u0.take ((wI<|(wI<|(u0.length:Int) - 1) - 1).toNat)++[y22]) (Acc (o:=oi 1 1) (q:=oi 48 30) (e2:=30) (t:=Y9) (t':=Y9) (t2:=Y9) (len:=(wI<|(wI<|(u0.length:Int) - 1) - 1).toNat) (N:=u0.length) (m:=none) (xs:=u0) (z:=y22) kr kr rfl kr kr g23) ?_;refine dz0 (.own (oi 1 31) Y9 0<|(wI<|(wI<|(u0.length:Int) - 1) - 1).toNat+1)<|Cb (Ar kr)<|bn_<|bn_<|tn_ ?_;cases h;exact (Cn (N:=(wI<|(wI<|(u0.length:Int) - 1) - 1).toNat+1) (oi 1 31) 30 none Y9 (u0.take ((wI<|(wI<|(u0.length:Int) - 1) - 1).toNat)++[y22]) kr<|Tg rfl g23).trans<|(wL 7 ((Tg rfl g23):(wI<|(wI<|(u0.length:Int) - 1) - 1).toNat+1=(u0.take ((wI<|(wI<|(u0.length:Int) - 1) - 1).toNat)++[y22]).length)).trans<|Ag [(oi 1 1,oi 1 31)]
    refine Ae (kQ h (fun _ h=>?_) fun _ h=>?_)
    ·refine An 35<|dz0 (.own (oi 1 1) Y9 0 u0.length)<|dz0 (ai<|wI<|(u0.length:Int) - 1)<|dz0 (ai<|wI<|(wI<|(u0.length:Int) - 1) - 1) ?_;have ⟨g26,h⟩:=Al h;have ⟨x27,f27,h⟩:=Ah h;have ⟨p27,b27,e27⟩:=As f27;have ⟨x28,f28,h⟩:=Ah h;have ⟨p28,b28,e28⟩:=As f28;have ⟨x29,f29,h⟩:=Ah h;have ⟨p29,b29,e29⟩:=As f29;have ⟨x30,f30,h⟩:=Ah h;have ⟨p30,b30,e30⟩:=As f30;have ⟨y31,h31,h⟩:=Ah h;have ⟨g32,h⟩:=Al h;refine ds0 (.own (oi 1 1) Y9 0<|(wI<|(wI<|(u0.length:Int) - 1) - 1).toNat) (Gv (t:=Y9) (i:=oi 1 1) (off:=0) (len:=u0.length) (l:=0) (h:=wI<|(wI<|(u0.length:Int) - 1) - 1) kr kr kr rfl g26 rfl oM)<|dsT 4<|ds0 (.elt (oi 1 1) ((wI<|(wI<|(u0.length:Int) - 1) - 1).toNat) 0) (zo (t:=Y9) (o:=oi 1 1) (len:=u0.length) (k:=.i64) (m:=wI<|(wI<|(u0.length:Int) - 1) - 1) p27<|Ai e27)<|dsl (.agg [ai x28.1,ai x28.2.1,tS x28.2.2]) (Xt (o:=oi 1 1) (k:=0) (e1:=30) (N:=List.length u0) (t:=Y9) (m:=none) (xs:=u0) (z:=x28) kr kr e28 kr<|Nat.le_of_ble_eq_true kr)<|dz0 (.own (oi 1 1) Y9 0 u0.length)<|dz0 (ai<|wI<|(u0.length:Int) - 1)<|ds0 (.elt (oi 1 1) ((wI<|(u0.length:Int) - 1).toNat) 0) (zo (t:=Y9) (o:=oi 1 1) (len:=u0.length) (k:=.i64) (m:=wI<|(u0.length:Int) - 1) p29<|Ai e29)<|dsl (.agg [ai x30.1,ai x30.2.1,tS x30.2.2]) (Xt (o:=oi 1 1) (k:=0) (e1:=30) (N:=List.length u0) (t:=Y9) (m:=none) (xs:=u0) (z:=x30) kr kr e30 kr<|Nat.le_of_ble_eq_true kr)<|dzc (.agg [ai y31.1,ai y31.2.1,tS y31.2.2]) [] [ai bA,.agg [ai x28.1,ai x28.2.1,tS x28.2.2],.agg [ai x30.1,ai x30.2.1,tS x30.2.2]] (Acw h31)<|Amo (.own (oi 67 32) Y9 0 1) (oi 67 32) (.vec 30 3 1<|tvC none Y9<|[y31]) trivial (C8 kr)<|ds2 (.own (oi 1 33) Y9 0<|(wI<|(wI<|(u0.length:Int) - 1) - 1).toNat+1) (oi 1 1) (oi 1 33) (.vec 30 3 ((wI<|(wI<|(u0.length:Int) - 1) - 1).toNat+1)<|tvC none Y9<|u0.take ((wI<|(wI<|(u0.length:Int) - 1) - 1).toNat)++[y31]) (Acc (o:=oi 1 1) (q:=oi 67 32) (e2:=30) (t:=Y9) (t':=Y9) (t2:=Y9) (len:=(wI<|(wI<|(u0.length:Int) - 1) - 1).toNat) (N:=u0.length) (m:=none) (xs:=u0) (z:=y31) kr kr rfl kr kr g32) ?_;refine dz0 (.own (oi 1 33) Y9 0<|(wI<|(wI<|(u0.length:Int) - 1) - 1).toNat+1)<|Cb (Ar kr)<|bn_<|bn_<|tn_ ?_;cases h;exact (Cn (N:=(wI<|(wI<|(u0.length:Int) - 1) - 1).toNat+1) (oi 1 33) 30 none Y9 (u0.take ((wI<|(wI<|(u0.length:Int) - 1) - 1).toNat)++[y31]) kr<|Tg rfl g32).trans<|(wL 7 ((Tg rfl g32):(wI<|(wI<|(u0.length:Int) - 1) - 1).toNat+1=(u0.take ((wI<|(wI<|(u0.length:Int) - 1) - 1).toNat)++[y31]).length)).trans<|Ag [(oi 1 1,oi 1 33)]
    refine Ae (kQ h (fun _ h=>?_) fun _ h=>?_)
    ·refine Aa 27<|rsT 4 ?_;have ⟨y35,h35,h⟩:=Ah h;refine Avi (.agg [ai y35.1,ai y35.2.1,tS y35.2.2]) [] [.str x12.2.2,.ref [.tree Yg pA]] _ (caps:=[.ref [.tree Yg pA]]) trivial (W6 h35) kr<|I4 (.own (oi 76 24) Y9 0 1) (oi 76 24) (.vec 30 3 1<|tvC none Y9<|[y35]) trivial (C8 kr) ?_;have ⟨g36,h⟩:=Al h;refine rs2 (.own (oi 1 25) Y9 0<|u0.length+1) (oi 1 1) (oi 1 25) (.vec 30 3 (u0.length+1)<|tvC none Y9<|u0++[y35]) (O4 (t':=Y9) (t:=Y9) (t2:=Y9) (e2:=30) (q:=oi 76 24) (m:=none) (z:=y35) (o:=oi 1 1) (xs:=u0) (len:=u0.length) kr kr rfl kr kr g36)<|rsT 1<|Ap<|bn_<|bn_<|tn_ ?_;cases h;exact (Cn (N:=u0.length+1) (oi 1 25) 30 none Y9 (u0++[y35]) kr fS).trans<|(wL 7 (fS:u0.length+1=(u0++[y35]).length)).trans<|Ag [(oi 1 1,oi 1 25)]
    refine Aa 26<|rsT 3 (rcH h T5 fun y37 h=>I4 (.own (oi 29 23) Y9 0 1) (oi 29 23) (.vec 30 3 1<|tvC none Y9<|[y37]) trivial (C8 kr) ?_);have ⟨g38,h⟩:=Al h;refine rs2 (.own (oi 1 24) Y9 0<|u0.length+1) (oi 1 1) (oi 1 24) (.vec 30 3 (u0.length+1)<|tvC none Y9<|u0++[y37]) (O4 (t':=Y9) (t:=Y9) (t2:=Y9) (e2:=30) (q:=oi 29 23) (m:=none) (z:=y37) (o:=oi 1 1) (xs:=u0) (len:=u0.length) kr kr rfl kr kr g38)<|rsT 1<|Ap<|bn_<|bn_<|tn_ ?_;cases h;exact (Cn (N:=u0.length+1) (oi 1 24) 30 none Y9 (u0++[y37]) kr fS).trans<|(wL 7 (fS:u0.length+1=(u0++[y37]).length)).trans<|Ag [(oi 1 1,oi 1 24)]
   intro u5 h
   (try dsimp only at h);refine Aa 4 ?_;have ⟨g39,h⟩:=Al h;exact zA g39<|rsT 1<|Ap<|tn_<|jL []
  have q9_:=of_decide_eq_false q9;refine lxT ?_;have h:=jO h hn6
  (try dsimp only at h);exact jE []
 intro u3 h
 (try dsimp only at h);refine Ab<|Aa 7<|rsT 1 ?_;have ⟨x41,e41,h⟩:=Ah h;refine rs0 (.elt (oi 1 1) 0 0) (V5 (t:=Y9) (o:=oi 1 1) (len:=u3.length) (k:=.i64) (m:=0) kr kr rfl (by decide) rfl<|Ai e41)<|rsl (.agg [ai x41.1,ai x41.2.1,tS x41.2.2]) (Xt (o:=oi 1 1) (k:=0) (e1:=30) (N:=List.length u3) (t:=Y9) (m:=none) (xs:=u3) (z:=x41) kr kr e41 kr<|Nat.le_of_ble_eq_true kr)<|rsB 2<|rnW<|Ab<|An 16<|dsT 6 (dcM h [] [tS x41.2.2] Pr trivial (aR kr) (Ba kr kr trivial) (Ai2 kr) fun y43 h=>dz0 (.agg [ai x41.1,ai x41.2.1,oS 1408 13 y43.length])<|Lg (oi 0 1) (oi 0 1) (.cells 30 [ai x41.1,ai x41.2.1,oS 1408 13 y43.length]) kr<|Cb ⟨Zv kr,⟨Zv kr,trivial⟩⟩<|tn_<|wr_<|Ac ?_);cases h;exact E2 [.agg [ai x41.1,ai x41.2.1,oS 1 1 y43.length]]<|Ag (tl:=[(6,.box (oi 0 1) 0)]) (g:=2) [(oi 1 1,oi 1408 13),(oi 2 1,oi 1409 13)]
def Kv (a0:Int) (a1:List (ByteArray×(List ZB)×Int×Int×LL)) (u0:List ZB):Option (Int×Int×LL) :=
 (Db a0 u0 a1).bind fun y4 =>
some (y4.1,y4.2.1,y4.2.2)
theorem Aam (h:Kv bA pA hA=some qA):Eb Tryz.prog Tab 33 [ai bA,.tree Yg pA,.agg [.tree Y8 hA]] [] (.agg [ai qA.1,ai qA.2.1,oS 1 1 qA.2.2.length]) [(oi 0 1,.cells 30 [ai qA.1,ai qA.2.1,oS 1 1 qA.2.2.length]),(oi 1 1,.mat 81 (oi 2 1) .int qA.2.2),(oi 2 1,.pool 3 .int qA.2.2)]:=by
 refine B3 kr Tryz.func33 (Cc kr) (n:=11) kr fS rfl kr trivial ⟨trivial,⟨⟨3,.tail _<|.tail _<|.head _⟩,⟨trivial,trivial⟩⟩⟩<|Ae<|Ab<|Aa 9<|rsT 3 (rcM h [] [ai bA,.agg [.tree Y8 hA],.fn 69 [.box (oi 4 1) 0]] Kn trivial (.cons (.ren kr)<|.cons (.ren kr)<|.cons (.gnd kr<|Avd<|Av (Ajd (ty:=33) (cs:=[.tree Yg pA]) (es:=[.tree Yg pA]) ((L3 kr kr kr).trans kr) kr<|Av kr Dp) Dp) .nil) (Ba kr kr trivial) fun y4 h=>rsB 1<|rnW<|Ac ?_);cases h;exact E2 [.agg [ai y4.1,ai y4.2.1,oS 1 1 y4.2.2.length]]<|Ag (tl:=[(6,.box (oi 0 1) 0)]) (g:=2) [(oi 0 1,oi 6 3),(oi 1 1,oi 161 7),(oi 2 1,oi 162 7)]
end
section
set_option maxRecDepth 4000
set_option maxHeartbeats 4800000
variable {nA:List (ByteArray×Int×Int×List ZB)} {xA:List (Int×(Int×Int))} {bA bB bC:Int} {gA gB:ByteArray} {lA:Int×Int×Bool} {hA:List ZB} {cA:Bool} {pA:List (ByteArray×(List ZB)×Int×Int×LL)}
def He (a0:List (ByteArray×Int×Int×List ZB)) (u0:Nat) (u1:List (Int×(Int×Int))):Option (Ctl (Nat×(List (Int×(Int×Int)))) (List (Int×(Int×Int)))) :=
 cond (decide ((u0:Int)<(a0.length:Int)))
 ((a0[u0]?).bind fun x11 =>
 og (x11.1.size<=maxLen/\u1.length<1073741824/\Lq x11.2.1/\Lq x11.2.2.1) <|
 og (u0+1<4611686018427387904) <|
 some (.next (u0+1,Nz u1 (Gs x11.1) (x11.2.1,x11.2.2.1))))
 (some (.out u1))
def Hp (a0:List (ByteArray×Int×Int×List ZB)):Option (List (Int×(Int×Int))) :=
 (Aq (fun s_:Nat×(List (Int×(Int×Int)))=>He a0 s_.1 s_.2) 4611686018427387904 (0,[])).bind fun u0 =>
some u0
def Z9 (r:List (Int×(Int×Int))):RV:=⟨false,[(false,[.frz (.fn 154 [.ref [.mtree 175 Y3 r]])])]⟩
theorem Rt (h:Hp nA=some xA):cK 109 [.tree Ye nA] (Z9 xA):=by
 refine cZ Tryz.func109 fun zn_ nz_ hz_=>Ae<|Ae (sqF h (fun u1=>sT [(3,.box (oi 0 1) 0)] [(oi 0 1,.cells 175 [.mp (oi 1 1)]),(oi 1 1,.map 175 Y3 u1)]) ?_ fun u1 h=>Ae<|Ac<|jZ h [(false,[.fn 154 [.box (oi 0 1) 0]])]<|Ol (A0g<|.fnM (ty:=175) (j:=oi 1 1) (mt:=175) (t:=Y3) (es:=u1) kr kr) Dd)
 intro _ h;refine Ae<|Ad<|lpF h (fun (u2,u0)=>sT [(3,.box (oi 0 1) 0),(7,.tree Ye nA),(8,an nA.length),(9,an u2)] [(oi 0 1,.cells 175 [.mp (oi 1 1)]),(oi 1 1,.map 175 Y3 u0)]) (Ag [(oi 0 1,oi 3 3),(oi 1 1,oi 6 2)]) ?_;rintro n_ ⟨u2,u0⟩ c_ h hn5;refine Ae<|Ab (kQ h (fun _ h=>skW<|Ab<|Ad<|Ab<|Aa 7 (riH Ye h fun x11 _ h=>rsB 3<|rnW<|Aa 16<|rsT 8 ?_)) fun _ h=>lxT (have h:=jO h hn5;jE []));have ⟨g12,h⟩:=Al h;exact Ak9 (oi 1 1) (oi 1 1) (.map 175 Y3<|Nz u0 (Gs x11.1) (x11.2.1,x11.2.2.1)) (Axk (es:=u0) (k:=x11.1) (a:=x11.2.1) (b:=x11.2.2.1) kr kr kr kr g12)<|Ap<|bn_<|tn_<|wr_<|Aa 18 (raH h fun h=>rsT 1<|Ap<|tn_<|jL [])
def F8 (u2 u3:Int) (u0:ByteArray) (u1:List (Int×(Int×Int))):Option (Int×Int×Bool) :=
 cond (u2 !=17)
 ((Ff u2 u3 u0).bind fun y6 =>
 some (y6.1,y6.2.1,y6.2.2))
 (og (u0.size<=maxLen) <|
 (cond ((D9 u1 (Gs u0)).isSome)
   (some (u3==0))
   (some false)).bind fun u4 =>
 some (((D9 u1 (Gs u0)).getD (0,0)).1,((D9 u1 (Gs u0)).getD (0,0)).2,u4))
theorem Wq (h:F8 bA bB gA xA=some lA):cK 154 [.agg [ai bA,ai bB,.str gA],.ref [.mtree 175 Y3 xA]] (El lA):=by
 refine cO Tryz.func154<|Ae<|Ab<|Ae (kQ h (fun _ h=>Ab<|Aa 13<|rsT 1 (rcH h Qi fun y6 h=>rsB 4<|rnW<|Ac<|tr_<|jS h)) fun _ h=>skW<|Ab<|Aa 17<|rsT 3 ?_);have ⟨g8,h⟩:=Al h;exact rs0 (.tup [.agg [ai<|((D9 xA<|Gs gA).getD (0,0)).1,ai (((D9 xA<|Gs gA).getD (0,0)).2)],.bool ((D9 xA<|Gs gA).isSome)]) (Auy (t:=Y3) (es:=xA) (k:=gA) kr kr g8)<|rsB 6<|rnW (sqF h (fun u4=>sT [(3,.box (oi 0 1) 0),(4,.bool u4)] [(oi 0 1,.cells 114 [ai<|((D9 xA<|Gs gA).getD (0,0)).1,ai (((D9 xA<|Gs gA).getD (0,0)).2)])]) (fun _ h=>An 26<|dsT 3 (kD h 23 (fun _ h=>dsT 4<|Lg (oi 3 2) (oi 3 2) (.cells 114 [ai<|((D9 xA<|Gs gA).getD (0,0)).1,ai (((D9 xA<|Gs gA).getD (0,0)).2)]) kr<|ds0 (.bool<|bB==0) kr<|Cb (Ar kr)<|tn_<|jE [(oi 0 1,oi 3 2)]) fun _ h=>dsT 4<|Lg (oi 3 2) (oi 3 2) (.cells 114 [ai<|((D9 xA<|Gs gA).getD (0,0)).1,ai (((D9 xA<|Gs gA).getD (0,0)).2)]) kr<|ds0 (.bool false) kr<|Cb (Ar kr)<|tn_<|jE [(oi 0 1,oi 3 2)])) fun u4 h=>Ac<|jS h)
def Kh (a0:List ZB) (u2:List (Int×(Int×Int))) (u1:Nat) (u0:List (Int×Int)):Option (Ctl (Nat×(List (Int×Int))) (Ctl (List (Int×Int)) (Int×Int×Bool))) :=
 cond (decide ((u1:Int)<(a0.length:Int)))
 (Dj ((a0[u1]?).bind fun x16 =>
  (cond (x16.1 !=15)
    (some (x16.1 !=16))
    (some false)).bind fun u3 =>
  cond u3
   ((F8 x16.1 x16.2.1 x16.2.2 u2).bind fun y22 =>
   cond (!y22.2.2)
    (some (.out (.out (.out (0,0,false)))))
    (og (u0.length+1<=1073741824/\(u0.length+1)*16<=140737488355328) <|
    some (.next (u0++([(y22.1,y22.2.1)])))))
   ((cond (x16.2.1 !=0)
     (some true)
     (cond (!(x16.2.2.toList==(⟨#[]⟩:ByteArray).toList))
      (some true)
      (some (decide ((u0.length:Int)<2))))).bind fun u4 =>
   cond u4
    (some (.out (.out (.out (0,0,false)))))
    ((Ce u0 (wI ((wI ((u0.length:Int) - 1)) - 1))).bind fun x37 =>
    (Ce u0 (wI ((wI ((u0.length:Int) - 1)) - 1))).bind fun x38 =>
    (Ce u0 (wI ((u0.length:Int) - 1))).bind fun x39 =>
    (Ce u0 (wI ((u0.length:Int) - 1))).bind fun x40 =>
    (Fd x16.1 x38.1 x38.2 x40.1 x40.2).bind fun y41 =>
    cond (!y41.2.2)
     (some (.out (.out (.out (0,0,false)))))
     (og ((0:Int)<=0/\0<=wI ((wI ((u0.length:Int) - 1)) - 1)/\wI ((wI ((u0.length:Int) - 1)) - 1)<=(u0.length:Int)) <|
     og (((u0.take ((wI ((wI ((u0.length:Int) - 1)) - 1)).toNat)).length)+1<=1073741824/\(((u0.take ((wI ((wI ((u0.length:Int) - 1)) - 1)).toNat)).length)+1)*16<=140737488355328) <|
     some (.next ((u0.take ((wI ((wI ((u0.length:Int) - 1)) - 1)).toNat))++([(y41.1,y41.2.1)]))))))) fun u5 =>
 og (u1+1<4611686018427387904) <|
 some (.next (u1+1,u5)))
 (some (.out (.next u0)))
def Co (a0:List ZB) (u1:List (Int×(Int×Int))):Option (Int×Int×Bool) :=
 (B6 (a0.length:Int) 1 400).bind fun y4 =>
cond (!y4)
 (some (0,0,false))
 (Dj (Aq (fun s_:Nat×(List (Int×Int))=>Kh a0 u1 s_.1 s_.2) 4611686018427387904 (0,[])) fun u0 =>
 (u0[0]?).bind fun x50 =>
 some (x50.1,x50.2,(u0.length:Int)==1))
theorem Fv (h:Co hA xA=some lA):cK 108 [.tree Y8 hA,.fn 154 [.ref [.mtree 175 Y3 xA]]] (El lA):=by
 refine cO Tryz.func108<|Ae<|Ab<|Ab<|Aa 7<|rsT 2 (rcH h C2 fun y4 h=>rsT 1<|rnW (kQ h (fun _ h=>Ae<|Ac<|tr_<|jS h) fun _ h=>skW<|Ae<|sqC h (fun u2=>sT [(4,.box (oi 0 1) 0),(6,.own (oi 1 1) Y3 0 u2.length)] [(oi 0 1,.cells 114 [ai 0,ai 0]),(oi 1 1,.arr 114 Y3 u2)]) ?_ ?_))
 ·intro _ h hk8;refine Ae<|Ad<|lpF h (fun (u3,u0)=>sT [(1,.fn 154 [.ref [.mtree 175 Y3 xA]]),(4,.box (oi 0 1) 0),(6,.own (oi 1 1) Y3 0 u0.length),(20,.tree Y8 hA),(21,an hA.length),(22,an u3)] [(oi 0 1,.cells 114 [ai 0,ai 0]),(oi 1 1,.arr 114 Y3 u0)]) (Ag [(oi 0 1,oi 4 1),(oi 1 1,oi 19 7)]) ?_;rintro n_ ⟨u3,u0⟩ c_ h hn10
  (try dsimp only at h);refine Ae<|Ab (kQ h (fun q13 h=>?_) fun q13 h=>?_)
  ·have q13_:=of_decide_eq_true q13;refine skW<|sqC h (fun u4=>sT [(1,.fn 154 [.ref [.mtree 175 Y3 xA]]),(4,.box (oi 0 1) 0),(6,.own (oi 1 1) Y3 0 u4.length),(20,.tree Y8 hA),(21,an hA.length),(22,an u3)] [(oi 0 1,.cells 114 [ai 0,ai 0]),(oi 1 1,.arr 114 Y3 u4)]) ?_ ?_
   ·intro _ h hk14;refine Ad<|Ab<|Aa 7 (riH Y8 h fun x16 _ h=>rsB 3<|rnW<|Ab<|sqF h (fun u5=>sT [(1,.fn 154 [.ref [.mtree 175 Y3 xA]]),(4,.box (oi 0 1) 0),(6,.own (oi 1 1) Y3 0 u0.length),(8,.box (oi 2 1) 0),(20,.tree Y8 hA),(21,an hA.length),(22,an u3),(33,.bool u5)] [(oi 0 1,.cells 114 [ai 0,ai 0]),(oi 1 1,.arr 114 Y3 u0),(oi 2 1,.cells 88 [ai x16.1,ai x16.2.1,.str x16.2.2])]) (fun _ h=>Aa 15<|rsT 4 (kR h 29 (fun _ h=>rsT 4<|Ap<|tn_<|jE [(oi 2 1,oi 8 5)]) fun _ h=>rsT 4<|Ap<|tn_<|jE [(oi 2 1,oi 8 5)])) ?_);intro u5 h
    (try dsimp only at h);refine kQ h (fun _ h=>?_) fun _ h=>?_
    ·refine Ab<|Aa 11<|rsT 2 ?_;have ⟨y22,h22,h⟩:=Ah h;refine Tb (.tup [.agg [ai y22.1,ai y22.2.1],.bool y22.2.2]) [] [.agg [ai x16.1,ai x16.2.1,.str x16.2.2],.ref [.mtree 175 Y3 xA]] _ (caps:=[.ref [.mtree 175 Y3 xA]]) (args0:=[.agg [ai x16.1,ai x16.2.1,.str x16.2.2],.ref [.mtree 175 Y3 xA]]) trivial kr (Wq h22) kr<|rsB 6<|rnW<|Ab<|Ae (kQ h (fun _ h=>?_) fun _ h=>?_)
     ·refine Ae<|Ac<|tr_<|tr_<|br_<|tr_<|tr_<|br_<|tr_ ?_;have h:=jO h hk14
      (try dsimp only at h);have h:=jO h hn10
      (try dsimp only at h);have h:=jO h hk8
      (try dsimp only at h);exact jS h
     refine skW<|Ab<|Aa 18<|rsB 3 ?_;have ⟨g28,h⟩:=Al h;exact rs2 (.own (oi 1 16) Y3 0<|(u0++([(y22.1,y22.2.1)])).length) (oi 1 1) (oi 1 16) (.arr 114 Y3<|u0++([(y22.1,y22.2.1)])) (Px (t:=Y3) (t':=Y3) (xs:=u0) (ys:=[(y22.1,y22.2.1)]) (zs:=u0++([(y22.1,y22.2.1)])) (j:=oi 1 1) (len:=u0.length) (c:=.own (oi 45 15) Y3 0 1) kr kr rfl kr (H9 (e:=114) kr rfl) rfl g28)<|rsT 1<|rnW<|Ep<|te_<|be_<|tn_<|jC [(oi 1 1,oi 1 16)]
    refine skW<|Ab<|sqF h (fun u6=>sT [(1,.fn 154 [.ref [.mtree 175 Y3 xA]]),(4,.box (oi 0 1) 0),(6,.own (oi 1 1) Y3 0 u0.length),(8,.box (oi 2 1) 0),(20,.tree Y8 hA),(21,an hA.length),(22,an u3),(59,.bool u6)] [(oi 0 1,.cells 114 [ai 0,ai 0]),(oi 1 1,.arr 114 Y3 u0),(oi 2 1,.cells 88 [ai x16.1,ai x16.2.1,.str x16.2.2])]) (fun _ h=>Aa 15<|rsT 4 (kR h 50 (fun _ h=>rsT 9<|Ap<|tn_<|jE []) fun _ h=>rsT 5 (kR h 55 (fun _ h=>rsT 4<|Ap<|tn_<|jE []) fun _ h=>rsT 4<|Ap<|tn_<|jE []))) ?_;intro u6 h
    (try dsimp only at h);refine kQ h (fun _ h=>?_) fun _ h=>?_
    ·refine Ae<|Ac<|tr_<|br_<|tr_<|tr_<|br_<|tr_ ?_;have h:=jO h hk14
     (try dsimp only at h);have h:=jO h hn10
     (try dsimp only at h);have h:=jO h hk8
     (try dsimp only at h);exact jS h
    refine skW<|Ae<|Ab<|An 24<|dsT 5 ?_;have ⟨x37,f37,h⟩:=Ah h;have ⟨p37,b37,e37⟩:=As f37;refine ds0 (.elt (oi 1 1) ((wI<|(wI<|(u0.length:Int) - 1) - 1).toNat) 0) (zo (t:=Y3) (o:=oi 1 1) (len:=u0.length) (k:=.i64) (m:=wI<|(wI<|(u0.length:Int) - 1) - 1) p37<|Ai e37) ?_;have ⟨x38,f38,h⟩:=Ah h;have ⟨p38,b38,e38⟩:=As f38;refine dsl (.agg [ai x38.1,ai x38.2]) (G9 (i:=oi 1 1) (j:=(wI<|(wI<|(u0.length:Int) - 1) - 1).toNat) (k:=0) (e:=114) (t:=Y3) (xs:=u0) kr kr e38 kr)<|dz0 (.own (oi 1 1) Y3 0 u0.length)<|dz0 (ai<|wI<|(u0.length:Int) - 1) ?_;have ⟨x39,f39,h⟩:=Ah h;have ⟨p39,b39,e39⟩:=As f39;refine ds0 (.elt (oi 1 1) ((wI<|(u0.length:Int) - 1).toNat) 0) (zo (t:=Y3) (o:=oi 1 1) (len:=u0.length) (k:=.i64) (m:=wI<|(u0.length:Int) - 1) p39<|Ai e39) ?_;have ⟨x40,f40,h⟩:=Ah h;have ⟨p40,b40,e40⟩:=As f40;refine dsl (.agg [ai x40.1,ai x40.2]) (G9 (i:=oi 1 1) (j:=(wI<|(u0.length:Int) - 1).toNat) (k:=0) (e:=114) (t:=Y3) (xs:=u0) kr kr e40 kr) (dcH h Qv fun y41 h=>dz0 (.tup [.agg [ai y41.1,ai y41.2.1],.bool y41.2.2])<|dz0 (.agg [ai y41.1,ai y41.2.1])<|dz0 (.bool y41.2.2)<|ds1 (.box (oi 12 21) 0) (oi 12 21) (.cells 114 [ai 0,ai 0]) kr<|Lg (oi 12 21) (oi 12 21) (.cells 114 [ai y41.1,ai y41.2.1]) kr<|dz0 (.bool y41.2.2)<|Cb (Ar kr)<|tn_<|wr_<|Ab<|Ae (kQ h (fun _ h=>?_) fun _ h=>?_))
    ·refine Ae<|Ac<|tr_<|br_<|tr_<|tr_<|br_<|tr_ ?_;have h:=jO h hk14
     (try dsimp only at h);have h:=jO h hn10
     (try dsimp only at h);have h:=jO h hk8
     (try dsimp only at h);exact jS h
    refine skW<|An 34<|dsT 3 ?_;have ⟨g46,h⟩:=Al h;have ⟨g47,h⟩:=Al h;exact ds0 (.own (oi 1 1) Y3 0<|(wI<|(wI<|(u0.length:Int) - 1) - 1).toNat) (Gv (t:=Y3) (i:=oi 1 1) (off:=0) (len:=u0.length) (l:=0) (h:=wI<|(wI<|(u0.length:Int) - 1) - 1) kr kr kr rfl g46 rfl oM)<|dzl (.agg [ai y41.1,ai y41.2.1])<|ds1 (.own (oi 87 31) Y3 0 1) (oi 87 31) (.arr 114 Y3<|[(y41.1,y41.2.1)]) kr<|ds2 (.own (oi 1 32) Y3 0<|((u0.take<|(wI<|(wI<|(u0.length:Int) - 1) - 1).toNat)++([(y41.1,y41.2.1)])).length) (oi 1 1) (oi 1 32) (.arr 114 Y3<|(u0.take<|(wI<|(wI<|(u0.length:Int) - 1) - 1).toNat)++([(y41.1,y41.2.1)])) (At6 (t:=Y3) (t':=Y3) (xs:=u0) (ys:=[(y41.1,y41.2.1)]) (zs:=(u0.take<|(wI<|(wI<|(u0.length:Int) - 1) - 1).toNat)++([(y41.1,y41.2.1)])) (j:=oi 1 1) (len:=(wI<|(wI<|(u0.length:Int) - 1) - 1).toNat) (c:=.own (oi 87 31) Y3 0 1) kr kr oM kr (H9 (e:=114) kr rfl) rfl g47)<|dz0 (.own (oi 1 32) Y3 0<|((u0.take<|(wI<|(wI<|(u0.length:Int) - 1) - 1).toNat)++([(y41.1,y41.2.1)])).length)<|Cb (Ar kr)<|bn_<|tn_<|jC [(oi 1 1,oi 1 32)]
   intro u4 h
   (try dsimp only at h);refine Aa 4 ?_;have ⟨g48,h⟩:=Al h;exact zA g48<|rsT 1<|Ap<|tn_<|jL []
  have q13_:=of_decide_eq_false q13;refine lxT ?_;have h:=jO h hn10
  (try dsimp only at h);exact jC []
 intro u2 h
 (try dsimp only at h);refine Ab<|Aa 10<|rsT 1 ?_;have ⟨x50,e50,h⟩:=Ah h;exact rs0 (.elt (oi 1 1) 0 0) (V5 (t:=Y3) (o:=oi 1 1) (len:=u2.length) (k:=.i64) (m:=0) kr kr rfl (by decide) rfl<|Ai e50)<|rsl (.agg [ai x50.1,ai x50.2]) (G9 (i:=oi 1 1) (j:=0) (k:=0) (e:=114) (t:=Y3) (xs:=u2) kr kr e50 kr)<|rsB 5<|rnW<|Ac<|jS h
def M3 (u0:ByteArray) (u2 u3:Int) (u4:List ZB) (u1:ByteArray):Option Bool :=
 some (u0.toList==u1.toList)
theorem Xr (h:M3 gA bA bB hA gB=some cA):cK 176 [.agg [.str gA,ai bA,ai bB,.tree Y8 hA],.ref [.str gB]] (Am cA):=by
 exact cO Tryz.func176<|Ae<|Ae<|Ac<|jS h
def Ay (a0:List (ByteArray×Int×Int×List ZB)) (u1:ByteArray) (u0:Nat):Option (Ctl Nat (Ctl Unit Int)) :=
 cond (decide ((u0:Int)<(a0.length:Int)))
 ((a0[u0]?).bind fun x11 =>
 (M3 x11.1 x11.2.1 x11.2.2.1 x11.2.2.2 u1).bind fun y12 =>
 cond y12
  (some (.out (.out (u0:Int))))
  (og (u0+1<4611686018427387904) <|
  some (.next (u0+1))))
 (some (.out (.next ())))
def Bq (a0:List (ByteArray×Int×Int×List ZB)) (u0:ByteArray):Option Int :=
 Dj (Aq (fun s_:Nat=>Ay a0 u0 s_) 4611686018427387904 0) fun _ =>
some (-1)
theorem Eg (h:Bq nA gA=some bA):cK 175 [.tree Ye nA,.fn 176 [.ref [.str gA]]] (A7 bA):=by
 refine cO Tryz.func175<|Ae (sqC h (fun _=>sT [] []) ?_ fun _ h=>Ae<|Ac<|jS h);intro _ h hk2;refine Ae<|Ad<|lpF h (fun u1=>sT [(0,.tree Ye nA),(1,.fn 176 [.ref [.str gA]]),(7,an nA.length),(8,an u1)] []) (Ag []) ?_;intro n_ u1 c_ h hn4;refine Ae<|Ab (kQ h (fun _ h=>skW<|Ab<|Ad<|Ae<|Ab<|Aa 11<|rsT 3 (riH Ye h fun x11 _ h=>rsT 1 ?_)) fun _ h=>lxT (have h:=jO h hn4;jC []));have ⟨y12,h12,h⟩:=Ah h;exact Tb (.bool y12) [] [.agg [.str x11.1,ai x11.2.1,ai x11.2.2.1,.tree Y8 x11.2.2.2],.ref [.str gA]] _ (caps:=[.ref [.str gA]]) (args0:=[.agg [.str x11.1,ai x11.2.1,ai x11.2.2.1,.tree Y8 x11.2.2.2],.ref [.str gA]]) trivial kr (Xr h12) kr<|rnW (kQ h (fun _ h=>Ae<|Ac<|br_<|tr_<|tr_<|br_<|tr_ (have h:=jO h hn4;(have h:=jO h hk2;jS h))) fun _ h=>Ax<|bn_<|tn_<|wr_<|Aa 13 (raH h fun h=>rsT 1<|Ap<|tn_<|jL []))
def Mj (a0:List (ByteArray×Int×Int×List ZB)) (a1:ByteArray):Option Int :=
 (Bq a0 a1).bind fun y3 =>
some y3
theorem Ab2 (h:Mj nA gA=some bA):cK 152 [.tree Ye nA,.str gA] (A7 bA):=by
 exact cO Tryz.func152<|Ae<|Ab<|Aa 7<|rsT 2 (rcH h Eg fun y3 h=>rsT 1<|rnW<|Ac<|jS h)
def Ow:AC :=
 (.seq (rg [xs1 13 12 11])
 (.seq (.cond (tm 13)
  .skip
  (.exit 0))
 (.seq (.block 1 (.seq (rg [xm 14 12,xx 15 4 10 12,xo 16 (.i (.ld false 4 (tm 15))),⟨some 4,none,.i (.alloc 122 [.str ⟨#[]⟩,.int .i64 0,.int .i64 0,.nils])⟩,xm 3 14,xn (.st false 4 (tm 4) (tm 16))])
 (.seq (.region [xf 18 3 4,xf 19 0 18,xl 20 19,xm 21 0,xm 22 3,xo 23 (.slice 4 (tm 21) none (some (tm 22)) none),⟨some 24,none,qc 109 [tm 23] [[some Ye]]⟩,⟨some 25,none,qc 108 [tm 20,tm 24] [[some Y8],[]]⟩,xm 17 25,xo 26 (.i (.extr 0 (tm 17))),xo 27 (.i (.extr 1 (tm 17))),xo 5 (.i (.alloc 114 [.int .i64 0,.int .i64 0])),xn (.st false 2 (tm 5) (tm 26)),xm 6 27] true [(2,6),(6,11),(7,11)])
 (.seq (.region [xm 28 6,xo 29 (.i (.not (tm 28))),xm 30 29,⟨some 31,some (30,false),.i (.ld false 2 (tm 5))⟩,⟨some 32,some (30,false),qf 1 (tm 4)⟩,⟨some 33,some (30,false),ql (tm 32)⟩,⟨some 34,some (30,false),qf 2 (tm 4)⟩,⟨some 35,some (30,false),ql (tm 34)⟩,⟨some 36,some (30,false),.build [.int .i64 0,.int .i64 0] [(0,1,tm 33),(1,1,tm 35)]⟩,⟨some 37,some (30,false),.i (.cmp true 5 (tm 31) (tm 36))⟩,xo 38 (.i (.pick (tm 30) (cb true) (tm 37))),xm 39 38,⟨some 40,some (39,false),qf 0 (tm 4)⟩,⟨some 41,some (39,false),ql (tm 40)⟩,⟨some 42,some (39,false),qc 85 [tm 41] [[]]⟩,⟨some 43,some (39,false),.i (.not (tm 42))⟩,xo 44 (.i (.pick (tm 39) (cb true) (tm 43))),xm 45 44,⟨some 46,some (45,false),qm (tm 0)⟩,⟨some 47,some (45,false),qm (tm 3)⟩,⟨some 48,some (45,false),.slice 4 (tm 46) none (some (tm 47)) none⟩,⟨some 49,some (45,false),qf 0 (tm 4)⟩,⟨some 50,some (45,false),ql (tm 49)⟩,⟨some 51,some (45,false),qc 152 [tm 48,tm 50] [[some Ye],[]]⟩,⟨some 52,some (45,false),qb .geq (tm 51) (ci 0)⟩,xo 53 (.i (.pick (tm 45) (cb true) (tm 52)))] true [])
 (.cond (tm 53)
  (.seq (rg [xo 2 (qm (cb false))])
  .ret)
  .skip)))))
 (rg [xa 54 12,xm 12 54]))))
def Rz:AC :=
 (.seq (rg [xo 2 (qm (cb false))])
 (.seq (.seq (rg [xm 7 0,xn1 8 7,xo 9 (qb .gtr (tm 8) (ci 12))])
 (.cond (tm 9)
  (.seq (rg [xo 2 (qm (cb false))])
  .ret)
  .skip))
 (.seq (.seq (rg [xm 10 0,xn1 11 10,xo 12 (qm (ci 0))])
 (.block 0 (.loop Ow)))
 (.seq (rg [xo 2 (qm (cb true))])
 .ret))))
def Zf:List Res:=[.tmp 2]
theorem Zq:Cw Tryz.prog Tryz.f107=some (Rz,Zf):=by kernel_rfl
def Gj (a0:List (ByteArray×Int×Int×List ZB)) (u0:Nat):Option (Ctl Nat (Ctl Unit Bool)) :=
 cond (decide ((u0:Int)<(a0.length:Int)))
 ((a0[u0]?).bind fun x14 =>
 og ((0:Int)<=0/\0<=(u0:Int)/\(u0:Int)<=(a0.length:Int)/\(a0.length:Int)<=(a0.length:Int)) <|
 (Hp (a0.take u0)).bind fun y17 =>
 (Co x14.2.2.2 y17).bind fun y18 =>
 (cond (!y18.2.2)
   (some true)
   (cond (!([y18.1,y18.2.1]==[x14.2.1,x14.2.2.1]))
    (some true)
    ((H4 x14.1).bind fun y22 =>
    cond (!y22)
     (some true)
     (og ((0:Int)<=0/\0<=(u0:Int)/\(u0:Int)<=(a0.length:Int)/\(a0.length:Int)<=(a0.length:Int)) <|
     (Mj (a0.take u0) x14.1).bind fun y25 =>
     some (decide (0<=y25)))))).bind fun u1 =>
 cond u1
  (some (.out (.out false)))
  (og (u0+1<4611686018427387904) <|
  some (.next (u0+1))))
 (some (.out (.next ())))
def Jz (a0:List (ByteArray×Int×Int×List ZB)):Option Bool :=
 cond (decide (12<(a0.length:Int)))
 (some false)
 (Dj (Aq (fun s_:Nat=>Gj a0 s_) 4611686018427387904 0) fun _ =>
 some true)
theorem Yk (h:Jz nA=some cA):cK 107 [.tree Ye nA] (Am cA):=by
 refine X2 kr Tryz.func107 Zq (n:=55) kr fS rfl ?_;unfold Rz;refine Ae<|Ab<|Ae (kQ h (fun _ h=>Ae<|Ac<|tr_<|jS h) fun _ h=>skW (sqC h (fun _=>sT [] []) ?_ fun _ h=>Ae<|Ac<|jS h));intro _ h hk6;refine Ae<|Ad<|lpF h (fun u0=>sT [(0,.tree Ye nA),(10,.tree Ye nA),(11,an nA.length),(12,an u0)] []) (Ag []) ?_;intro n_ u0 c_ h hn8;unfold Ow;refine Ae<|Ab (kQ h (fun _ h=>skW<|Ab<|Ad<|Ab<|Aa 9<|rsT 1 (riH Ye h fun x14 _ h=>rsB 4<|rnW<|Ab<|An 23<|dsT 5 ?_)) fun _ h=>lxT (have h:=jO h hn8;jC []));have ⟨g16,h⟩:=Al h;have ⟨y17,h17,h⟩:=Ah h;have ⟨y18,h18,h⟩:=Ah h;refine ds0 (.tree Ye<|nA.take u0) (Ac3 (t:=Ye) (xs:=nA) (zs:=nA.take u0) (l:=0) (h:=(u0:Int)) (m:=(nA.length:Int)) kr kr kr kr rfl g16 rfl)<|dzc (.fn 154 [.ref [.mtree 175 Y3 y17]]) [] [.tree Ye (nA.take u0)] (Rt h17)<|dzc (.tup [.agg [ai y18.1,ai y18.2.1],.bool y18.2.2]) [] [.tree Y8 x14.2.2.2,.fn 154 [.ref [.mtree 175 Y3 y17]]] (Fv h18)<|dz0 (.tup [.agg [ai y18.1,ai y18.2.1],.bool y18.2.2])<|dz0 (.agg [ai y18.1,ai y18.2.1])<|dz0 (.bool y18.2.2)<|ds1 (.box (oi 5 20) 0) (oi 5 20) (.cells 114 [ai 0,ai 0]) kr<|Lg (oi 5 20) (oi 5 20) (.cells 114 [ai y18.1,ai y18.2.1]) kr<|dz0 (.bool y18.2.2)<|Cb (Ar kr)<|tn_<|wr_ (sqF h (fun u1=>sT [(0,.tree Ye nA),(10,.tree Ye nA),(11,an nA.length),(12,an u0),(53,.bool u1)] []) ?_ fun u1 h=>kQ h (fun _ h=>Ae<|Ac<|br_<|tr_<|tr_<|br_<|tr_ (have h:=jO h hn8;(have h:=jO h hk6;jS h))) fun _ h=>Ax<|bn_<|tn_<|wr_<|Aa 4 (raH h fun h=>rsT 1<|Ap<|tn_<|jL []));intro _ h;refine An 49<|dsT 3 (kD h 30 (fun _ h=>dsT 23<|Cb (Ar kr)<|tn_<|jE []) fun _ h=>dsT 9 ?_);rcases A3 h with ⟨q21,h⟩|⟨q21,h⟩
 ·exact dq 39 q21<|dsT 14<|Cb (Ar kr)<|tn_<|jE []
 refine dq 39 q21<|dz0 (.box (oi 4 6) 0)<|dzl (.str x14.1) (dcH h T6 fun y22 h=>dsT 3 ?_);rcases A3 h with ⟨q23,h⟩|⟨q23,h⟩
 ·exact dq 45 q23<|dsT 8<|Cb (Ar kr)<|tn_<|jE []
 refine dq 45 q23<|dz0 (.tree Ye nA)<|dz0 (an u0) ?_;have ⟨g24,h⟩:=Al h;have ⟨y25,h25,h⟩:=Ah h;exact ds0 (.tree Ye<|nA.take u0) (Ac3 (t:=Ye) (xs:=nA) (zs:=nA.take u0) (l:=0) (h:=(u0:Int)) (m:=(nA.length:Int)) kr kr kr kr rfl g24 rfl)<|dz0 (.box (oi 4 6) 0)<|dzl (.str x14.1)<|Ou (ai y25) [] [.tree Ye<|nA.take u0,.str x14.1] _ (caps:=[]) (args0:=[.tree Ye<|nA.take u0,.str x14.1]) (Aeg kr) kr (Ab2 h25) kr<|dz0 (.bool<|decide (0<=y25))<|dz0 (.bool<|decide (0<=y25))<|Cb (Ar kr)<|tn_<|jE []
def K3 (a0:List (ByteArray×Int×Int×List ZB)) (u0:List ZB):Option Bool :=
 (Jz a0).bind fun y4 =>
cond (!y4)
 (some false)
 ((Hp a0).bind fun y8 =>
 (Co u0 y8).bind fun y9 =>
 some y9.2.2)
theorem Aad (h:K3 nA hA=some cA):cK 62 [.tree Ye nA,.agg [.tree Y8 hA]] (Am cA):=by
 exact cO Tryz.func62<|Ae<|Ab<|Ab<|Aa 6<|rsT 1 (rcH h Yk fun y4 h=>rsT 1<|rnW (kQ h (fun _ h=>Ae<|Ac<|tr_<|jS h) fun _ h=>skW<|Ab<|An 17<|dsT 3 (dcH h Rt fun y8 h=>dcH h Fv fun y9 h=>ds0 (.tup [.agg [ai y9.1,ai y9.2.1],.bool y9.2.2]) kr<|ds0 (.agg [ai y9.1,ai y9.2.1]) kr<|ds0 (.bool y9.2.2) kr<|ds1 (.box (oi 5 14) 0) (oi 5 14) (.cells 114 [ai 0,ai 0]) kr<|Lg (oi 5 14) (oi 5 14) (.cells 114 [ai y9.1,ai y9.2.1]) kr<|ds0 (.bool y9.2.2) kr<|Cb (Ar kr)<|tn_<|wr_<|Ae<|Ac<|jS h)))
def Gi (a0:List (ByteArray×(List ZB)×Int×Int×LL)) (u0:Nat) (u1:List (ByteArray×Int×Int×List ZB)):Option (Ctl (Nat×(List (ByteArray×Int×Int×List ZB))) (List (ByteArray×Int×Int×List ZB))) :=
 cond (decide ((u0:Int)<(a0.length:Int)))
 ((a0[u0]?).bind fun x11 =>
 og (u1.length+1<=1073741824/\(u1.length+1)*56<=140737488355328) <|
 og (u0+1<4611686018427387904) <|
 some (.next (u0+1,u1++[(x11.1,x11.2.2.1,x11.2.2.2.1,x11.2.1)])))
 (some (.out u1))
def J0 (a0:List (ByteArray×(List ZB)×Int×Int×LL)):Option (List (ByteArray×Int×Int×List ZB)) :=
 (Aq (fun s_:Nat×(List (ByteArray×Int×Int×List ZB))=>Gi a0 s_.1 s_.2) 4611686018427387904 (0,[])).bind fun u0 =>
some u0
theorem Yz (h:J0 pA=some nA):cK 63 [.tree Yg pA] (Qh nA):=by
 refine Ac8 kr Tryz.func63 (Cc kr) (fun nz_=>[.ftr nz_ Yg pA]) (n:=29) kr (fun _=>by simp) (fun _=>⟨_,_,rfl,rfl,rfl⟩) (tl:=fun nz_=>[(0,.ftr nz_ Yg pA)]) (fun _=>rfl) fun zn_ nz_ hz_=>Ae<|Ab<|Aa 4<|I4 (.own (oi 6 2) Ye 0 0) (oi 6 2) (.vec 122 4 0<|tvC (some nz_) Ye []) trivial (C8 kr)<|rsT 1<|Ap<|tn_ ⟨_,Cn (N:=0) (oi 6 2) 122 (some nz_) Ye [] kr rfl,sqF h (fun u1=>sT [(3,.own (oi 0 1) Ye 0 u1.length)] [(oi 0 1,.tv 122 (some nz_) Ye u1)]) ?_ fun u1 h=>Ae<|Ac<|jZ h [(false,[.own (oi 0 1) Ye 0 u1.length])]<|Ol (Cd<|.tv (e:=122) kr rfl) Dd⟩
 intro _ h;refine Ae<|Ad<|lpF h (fun (u2,u0)=>sT [(3,.own (oi 0 1) Ye 0 u0.length),(7,.ftr nz_ Yg pA),(8,an pA.length),(9,an u2)] [(oi 0 1,.tv 122 (some nz_) Ye u0)]) (Ag [(oi 0 1,oi 6 2)]) ?_;rintro n_ ⟨u2,u0⟩ c_ h hn5;refine Ae<|Ab (kQ h (fun _ h=>skW<|Ab<|Ad<|Ab<|Aa 7 (riH Yg h fun x11 _ h=>rsB 3<|rnW<|Aa 22<|rsT 12<|I4 (.own (oi 25 19) Ye 0 1) (oi 25 19) (.vec 122 4 1<|tvC (some nz_) Ye<|[(x11.1,x11.2.2.1,x11.2.2.2.1,x11.2.1)]) trivial (C8 kr) ?_)) fun _ h=>lxT (have h:=jO h hn5;jE []));have ⟨g12,h⟩:=Al h;refine rs2 (.own (oi 0 20) Ye 0<|u0.length+1) (oi 0 1) (oi 0 20) (.vec 122 4 (u0.length+1)<|tvC (some nz_) Ye<|u0++[(x11.1,x11.2.2.1,x11.2.2.2.1,x11.2.1)]) (O4 (t':=Ye) (t:=Ye) (t2:=Ye) (e2:=122) (q:=oi 25 19) (m:=some nz_) (z:=(x11.1,x11.2.2.1,x11.2.2.2.1,x11.2.1)) (o:=oi 0 1) (xs:=u0) (len:=u0.length) kr kr rfl kr kr g12) (rsT 1<|Ap<|bn_<|tn_ ⟨_,Cn (N:=u0.length+1) (oi 0 20) 122 (some nz_) Ye (u0++[(x11.1,x11.2.2.1,x11.2.2.2.1,x11.2.1)]) kr fS,Aa 24 (raH h fun h=>rsT 1<|Ap<|tn_ ?_)⟩);cases h;exact jLw hn5<|(wL 3 (fS:u0.length+1=(u0++[(x11.1,x11.2.2.1,x11.2.2.2.1,x11.2.1)]).length)).trans<|Ag [(oi 0 1,oi 0 20)]
def Im (u0 u1:Int) (u4:ByteArray) (u2:Int):Option Bool :=
 ((I1 u0).bind fun y3 =>
 cond y3
  (some true)
  ((Ey u0).bind fun y5 =>
  cond y5
   (some (decide (u2<=u1)))
   (some false))).bind fun u3 =>
some u3
theorem V6 (h:Im bA bB gA bC=some cA):cK 65 [.agg [ai bA,ai bB,.str gA],.ref [ai bC]] (Am cA):=by
 refine cO Tryz.func65<|Ae (sqF h (fun u4=>sT [(3,.bool u4)] []) ?_ fun u4 h=>Ac<|jS h);intro _ h;refine Aa 18<|rsT 2 (rcH h S6 fun y3 h=>rsT 1 ?_);rcases A3 h with ⟨q4,h⟩|⟨q4,h⟩
 ·exact rq 7 q4<|rsT 4<|rs0 (.tup []) (Ql kr)<|rs0 (.tup []) (Ql kr)<|rs0 (.tup []) (Ql kr)<|rs0 (.tup []) (Ql kr)<|rsT 3<|Ap<|tn_<|jE []
 exact rq 7 q4<|rsT 2 (rcH h Mz fun y5 h=>rsT 1 (kR h 11 (fun _ h=>rsT 7<|Ap<|tn_<|jE []) fun _ h=>rsT 7<|Ap<|tn_<|jE []))
def Aw (a0:List ZB) (u1:Int) (u0:Nat):Option (Ctl Nat (Ctl Unit Int)) :=
 cond (decide ((u0:Int)<(a0.length:Int)))
 ((a0[u0]?).bind fun x11 =>
 (Im x11.1 x11.2.1 x11.2.2 u1).bind fun y12 =>
 cond y12
  (some (.out (.out (u0:Int))))
  (og (u0+1<4611686018427387904) <|
  some (.next (u0+1))))
 (some (.out (.next ())))
def Bn (a0:List ZB) (u0:Int):Option Int :=
 Dj (Aq (fun s_:Nat=>Aw a0 u0 s_) 4611686018427387904 0) fun _ =>
some (-1)
theorem D1 (h:Bn hA bA=some bB):cK 110 [.tree Y8 hA,.fn 65 [.ref [ai bA]]] (A7 bB):=by
 refine cO Tryz.func110<|Ae (sqC h (fun _=>sT [] []) ?_ fun _ h=>Ae<|Ac<|jS h);intro _ h hk2;refine Ae<|Ad<|lpF h (fun u1=>sT [(0,.tree Y8 hA),(1,.fn 65 [.ref [ai bA]]),(7,an hA.length),(8,an u1)] []) (Ag []) ?_;intro n_ u1 c_ h hn4;refine Ae<|Ab (kQ h (fun _ h=>skW<|Ab<|Ad<|Ae<|Ab<|Aa 11<|rsT 3 (riH Y8 h fun x11 _ h=>rsT 1 ?_)) fun _ h=>lxT (have h:=jO h hn4;jC []));have ⟨y12,h12,h⟩:=Ah h;exact Tb (.bool y12) [] [.agg [ai x11.1,ai x11.2.1,.str x11.2.2],.ref [ai bA]] _ (caps:=[.ref [ai bA]]) (args0:=[.agg [ai x11.1,ai x11.2.1,.str x11.2.2],.ref [ai bA]]) trivial kr (V6 h12) kr<|rnW (kQ h (fun _ h=>Ae<|Ac<|br_<|tr_<|tr_<|br_<|tr_ (have h:=jO h hn4;(have h:=jO h hk2;jS h))) fun _ h=>Ax<|bn_<|tn_<|wr_<|Aa 13 (raH h fun h=>rsT 1<|Ap<|tn_<|jL []))
def Bb (a0:List ZB) (u0:Int):Option Bool :=
 (Bn a0 u0).bind fun y3 =>
some (decide (0<=y3))
theorem Dv (h:Bb hA bA=some cA):cK 64 [.tree Y8 hA,.fn 65 [.ref [ai bA]]] (Am cA):=by
 exact cO Tryz.func64<|Ae<|Ab<|Aa 7<|rsT 2 (rcH h D1 fun y3 h=>rsT 2<|rnW<|Ac<|jS h)
def K6 (a0:Int) (a1:List (ByteArray×(List ZB)×Int×Int×LL)) (u0:List ZB):Option Bool :=
 ((F2 a0 a1).bind fun y4 =>
 cond (!y4)
  (some true)
  ((J0 a1).bind fun y6 =>
  (K3 y6 u0).bind fun y7 =>
  some (!y7))).bind fun u1 =>
cond u1
 (some false)
 ((Bb u0 a0).bind fun y11 =>
 some (!y11))
theorem Z7 (h:K6 bA pA hA=some cA):cK 32 [ai bA,.tree Yg pA,.agg [.tree Y8 hA]] (Am cA):=by
 refine cO Tryz.func32<|Ae<|Ab (sqF h (fun u1=>sT [(3,.box (oi 0 1) 0),(5,.box (oi 1 1) 0),(17,.bool u1)] [(oi 0 1,.cells 3 [ai bA]),(oi 1 1,.cells 37 [.tree Y8 hA])]) ?_ fun u1 h=>kQ h (fun _ h=>Ae<|Ac<|tr_<|jS h) fun _ h=>skW<|Ab<|Aa 8<|rsT 3 (rcH h Dv fun y11 h=>rsT 2<|rnW<|Ac<|jS h));intro _ h;refine An 15<|dzl (ai bA)<|dz0 (.tree Yg pA) (dcH h Te fun y4 h=>dz0 (.bool<|!y4)<|dz0 (.bool<|!y4) ?_);rcases A3 h with ⟨q5,h⟩|⟨q5,h⟩
 ·exact dq 11 q5<|dsT 6<|Cb (Ar kr)<|tn_<|jE [(oi 0 1,oi 3 1),(oi 1 1,oi 5 2)]
 refine dq 11 q5<|dz0 (.tree Yg pA) ?_;have ⟨y6,h6,h⟩:=Ah h;exact Ah2 (.tree Ye y6) [] [.tree Yg pA] _ (caps:=[]) (Aeg kr) (Yz h6) kr<|dzl (.agg [.tree Y8 hA]) (dcH h Aad fun y7 h=>dz0 (.bool<|!y7)<|dz0 (.bool<|!y7)<|Cb (Ar kr)<|tn_<|jE [(oi 0 1,oi 3 1),(oi 1 1,oi 5 2)])
end
section
set_option maxRecDepth 4000
set_option maxHeartbeats 4800000
variable {bA:Int} {pA:List (ByteArray×(List ZB)×Int×Int×LL)} {hA:List ZB} {vA:Bool×Int×Int×LL}
def Ju (a0:Int) (a1:List (ByteArray×(List ZB)×Int×Int×LL)) (u0:List ZB):Option (Bool×Int×Int×LL) :=
 (K6 a0 a1 u0).bind fun y5 =>
cond (!y5)
 (some (false,0,0,([]:LL)))
 ((Kv a0 a1 u0).bind fun y9 =>
 some (true,y9.1,y9.2.1,y9.2.2))
theorem X5 (h:Ju bA pA hA=some vA):Eb Tryz.prog Tab 11 [ai bA,.tree Yg pA,.agg [.tree Y8 hA]] [] (.tup [.agg [ai vA.2.1,ai vA.2.2.1,oS 1 1 vA.2.2.2.length],.bool vA.1]) [(oi 0 1,.cells 30 [ai vA.2.1,ai vA.2.2.1,oS 1 1 vA.2.2.2.length]),(oi 1 1,.mat 81 (oi 2 1) .int vA.2.2.2),(oi 2 1,.pool 3 .int vA.2.2.2)]:=by
 exact B3 kr Tryz.func11 (Cc kr) (n:=18) kr fS rfl kr trivial ⟨trivial,⟨⟨3,.tail _<|.tail _<|.head _⟩,⟨trivial,trivial⟩⟩⟩<|Ae<|Ab<|Ab<|Aa 9<|rsT 3 (rcH h Z7 fun y5 h=>rsT 1<|rnW (kQ h (fun _ h=>Ae<|Ac<|tr_ (by obtain rfl:=osj h;exact E2 [.agg [ai 0,ai 0,oS 1 1 ((([]:LL)).length)],.bool false]<|(Oh 9000 (oi 6 2) 2 30 [ai 0,ai 0,.nils] [ai 0,ai 0,oS 9000 12 0] 81 sI kr kr kr).trans<|(Dt (e1:=81) (n:=0) 9000 (oi 9000 12) 3 .int kr kr rfl kr kr).trans<|Ag (tl:=[(6,.box (oi 0 1) 0),(7,.bool false)]) (g:=2) [(oi 0 1,oi 6 2),(oi 1 1,oi 9000 12),(oi 2 1,oi 9000 13)])) fun _ h=>skW<|Ab<|Aa 15<|rsT 3 (rcM h [] [ai bA,.tree Yg pA,.agg [.tree Y8 hA]] Aam trivial (aR kr) (Ba kr kr trivial) fun y9 h=>rsB 2<|rnW<|Ac (by obtain rfl:=osj h;exact E2 [.agg [ai y9.1,ai y9.2.1,oS 1 1 y9.2.2.length],.bool true]<|Ag (tl:=[(6,.box (oi 0 1) 0),(7,.bool true)]) (g:=2) [(oi 0 1,oi 6 2),(oi 1 1,oi 273 12),(oi 2 1,oi 274 12)]))))
end
section
set_option maxHeartbeats 1000000 in
theorem Zy {R2:NP} (x0:Int) (x1:Int) (x2:ZA) (A2:Option Addr) (c2:Nat) (l2:List Addr) (k:Int) (lo:Nat) (w:World) (s2:Sl R2 w (.slice .int) A2 c2 x2 l2) (hf:Fresh w lo (l2)) (hk:0<=k/\k+(l2).length<=9223372036854775807) :
  Calls Tryz.prog 17 #[.agg #[.int .i64 x0,.int .i64 x1,.slice A2 x2.length c2],.int .i64 k] w fun e w'=>e=.returned (.int .i64 (k+(l2).length))/\MarkedAs (l2) k w w':=by
 have hb0:Below w.heap.size w (w.alloc<|.cells #[.int .i64 x0,.int .i64 x1,.slice A2 x2.length c2] 30):=(by repeat (first|with_reducible exact Below.refl _ _|((with_reducible refine Below.setCell ?_ ?_ _);rotate_left;exact fO)|((with_reducible refine Below.alloc ?_ ?_ _);rotate_left;exact fO)|(with_reducible refine Below.drew ?_)|(with_reducible refine below_draws_ ?_ _)))
 have f0:=hf.below hb0;have hbx:w.heap.size<(w.alloc<|.cells #[.int .i64 x0,.int .i64 x1,.slice A2 x2.length c2] 30).heap.size:=by simp
 have s2_0:=Bd s2 hb0;have g0:∀ p∈(l2),p.block<w.heap.size:=fun p hp=>(hf.2 p hp).2.1
 go_enter Tryz.func17,Tryz.ntmps17
 go_wp2_with fail
 refine (Vt x2 A2 c2 l2 (k) lo _ s2_0 f0 oM).mono ?_;rintro e w1 ⟨rfl,m1⟩;have hz1:=m1.size
 go_wp2_with fail
 go_ret
 exact ⟨Vg (by rfl),MarkedAs.after hb0 m1 g0⟩
set_option maxHeartbeats 1000000 in
theorem R5 {R2:NP} (x0:Int) (x1:Int) (x2:ZA) (A2:Option Addr) (c2:Nat) (l2:List Addr) (k:Int) (w:World) (s2:Sl R2 w (.slice .int) A2 c2 x2 l2) (hh:HeldAs (l2) k w) (hk:0<=k/\k+(l2).length<=9223372036854775807) :
  Calls Tryz.prog 18 #[.agg #[.int .i64 x0,.int .i64 x1,.slice A2 x2.length c2],.int .i64 k] w fun e w'=>e=.returned (.int .i64 (k+(l2).length))/\Below w.heap.size w w':=by
 have h2:=hh
 go_enter Tryz.func18,Tryz.ntmps18
 go_wp2_with fail
 (refine (Agi x2 A2 c2 l2 (k) _ (by exact Bd s2 (by repeat (first|with_reducible exact Below.refl _ _|((with_reducible refine Below.setCell ?_ ?_ _);rotate_left;exact fO)|((with_reducible refine Below.alloc ?_ ?_ _);rotate_left;exact fO)|(with_reducible refine Below.drew ?_)|(with_reducible refine below_draws_ ?_ _)))) (by exact h2.below (by repeat (first|with_reducible exact Below.refl _ _|((with_reducible refine Below.setCell ?_ ?_ _);rotate_left;exact fO)|((with_reducible refine Below.alloc ?_ ?_ _);rotate_left;exact fO)|(with_reducible refine Below.drew ?_)|(with_reducible refine below_draws_ ?_ _)))) oM).mono ?_;rintro e w1 ⟨rfl,hb_w1⟩;have ⟨hc_w1,hf_w1⟩:=G8 hb_w1;have hz_w1:=hb_w1.size;(try simp at hz_w1);have hl_w1_0:w.heap.size<w1.heap.size:=oM);go_wp2_with fail
 go_ret
 exact ⟨Vg (by rfl),by repeat (first|with_reducible exact Below.refl _ _|((with_reducible refine Below.setCell ?_ ?_ _);rotate_left;exact fO)|((with_reducible refine Below.alloc ?_ ?_ _);rotate_left;exact fO)|(with_reducible refine Below.drew ?_)|(with_reducible refine below_draws_ ?_ _)|((with_reducible refine Below.trans ?_ (Below.mono hb_w1 ?_));rotate_left;exact fO))⟩
theorem Sw {R:NP} (xs:List Nd) (A:Option Addr) (c:Nat) (l:List Addr) (w:World) (s:Sl R w Tz A c xs l) (hn:xs.length<=1048576) (tab:Tab w) :
  Calls Tryz.prog 10 #[.agg #[.slice A xs.length c]] w fun e w'=>∃ B d m,e=.returned (.agg #[.slice B xs.length d])/\Sl (Lp w.heap.size) w' Tz B d xs m/\Fresh w' w.heap.size m/\Below w.heap.size w w':=by
 refine (Uh (by unfold Nb;rw [Ag9 xs oM];rfl) w (fun _=>True) [.agg #[.slice A xs.length c]] (fun _ hb=>tab.below hb) ⟨_,_,rfl,⟨_,rfl,⟨_,_,rfl,⟨A,c,l,rfl,K9 s⟩,rfl⟩⟩,rfl⟩).mono ?_;rintro e w' ⟨u,rfl,hb,hv⟩;obtain ⟨us,ls,ho,hf,rfl⟩:=RV.out_of hv rfl;obtain ⟨B,d,m,us',l',rfl,rfl,t,rfl,rfl⟩:=ho;exact ⟨B,d,m,rfl,t,by simpa using hf,hb⟩
theorem Ajg {R:NP} (xs:List Nd) (A:Option Addr) (c:Nat) (l:List Addr) (k:Int) (lo:Nat) (w:World) (s:Sl R w Tz A c xs l) (hf:Fresh w lo l) (hk:0<=k/\k+l.length<=9223372036854775807) {w0:World} (tab:Tab w0) (hb0:Below w0.heap.size w0 w) (hlo:w0.heap.size<=lo) :
  Calls Tryz.prog 16 #[.agg #[.slice A xs.length c],.int .i64 k] w fun e w'=>e=.returned (.int .i64 (k+l.length))/\MarkedAs l k w w':=by
 have hb1:Below w.heap.size w (w.alloc<|.cells #[.slice A xs.length c] 37):=bw;have f0:=hf.below hb1;have hbx:w.heap.size<(w.alloc<|.cells #[.slice A xs.length c] 37).heap.size:=by simp
 have s0:=Bd s hb1;have g0:∀ p∈l,p.block<w.heap.size:=fun p hp=>(hf.2 p hp).2.1
 have hb2:Below w0.heap.size w0 (w.alloc<|.cells #[.slice A xs.length c] 37):=hb0.trans<|hb1.mono hb0.size
 go_enter Tryz.func16,Tryz.ntmps16
 go_wp2_with fail
 refine (Vw xs A c l k lo _ s0 f0 hk tab hb2 hlo).mono ?_;rintro e w1 ⟨rfl,m1⟩;have hz1:=m1.size
 go_wp2_with fail
 go_ret
 exact ⟨rfl,MarkedAs.after hb1 m1 g0⟩
theorem Xk {R R':NP} (p:Int) (l:List Cp) (A:Option Addr) (c:Nat) (ll:List Addr) (xs:List Nd) (B:Option Addr) (d:Nat) (m:List Addr) (w:World) (s1:Sl R w Adw A c l ll) (s2:Sl R' w Tz B d xs m) {V:Bool×Int×Int×ZA} (h:Jh p l xs=some V) (tab:Tab w) :
  Calls Tryz.prog 8 #[.int .i64 p,.slice A l.length c,.agg #[.slice B xs.length d]] w fun e w'=>∃ A' c' l',e=.returned (.tuple #[.agg #[.int .i64 V.2.1,.int .i64 V.2.2.1,.slice A' V.2.2.2.length c'],.bool V.1])/\Sl (Lp w.heap.size) w' (.slice .int) A' c' V.2.2.2 l'/\Below w.heap.size w w':=by
 refine (U9 (vs:=[.int .i64 p,.slice A l.length c,.agg #[.slice B xs.length d]]) (Yp h) (fun _ hb=>tab.below hb) ⟨_,_,rfl,rfl,⟨_,_,rfl,⟨A,c,ll,rfl,K9 s1⟩,⟨_,_,rfl,⟨_,rfl,⟨_,_,rfl,⟨B,d,m,rfl,K9 s2⟩,rfl⟩⟩,rfl⟩⟩⟩).mono ?_;rintro e w' ⟨u,rfl,hb,C',hm,hv⟩;obtain ⟨_,rfl,_,_,rfl,⟨_,rfl,v0,_,rfl,rfl,v1,_,rfl,rfl,v2,_,rfl,h2,rfl⟩,vb,_,rfl,rfl,rfl⟩:=hv;obtain ⟨B2,d2,m2,rfl,t2,f2⟩:=Zc hm rfl (fun k xs hx=>Aeu hx rfl) h2;exact ⟨B2,d2,m2,rfl,t2,hb⟩
theorem Qo {R R':NP} (p:Int) (l:List Cp) (A:Option Addr) (c:Nat) (ll:List Addr) (xs:List Nd) (B:Option Addr) (d:Nat) (m:List Addr) (w:World) (s1:Sl R w Adw A c l ll) (s2:Sl R' w Tz B d xs m) {V:Bool×Int×Int×ZA} (h:Ju p l xs=some V) (tab:Tab w) :
  Calls Tryz.prog 11 #[.int .i64 p,.slice A l.length c,.agg #[.slice B xs.length d]] w fun e w'=>∃ A' c' l',e=.returned (.tuple #[.agg #[.int .i64 V.2.1,.int .i64 V.2.2.1,.slice A' V.2.2.2.length c'],.bool V.1])/\Sl (Lp w.heap.size) w' (.slice .int) A' c' V.2.2.2 l'/\Fresh w' w.heap.size l'/\Below w.heap.size w w':=by
 refine (U9 (vs:=[.int .i64 p,.slice A l.length c,.agg #[.slice B xs.length d]]) (X5 h) (fun _ hb=>tab.below hb) ⟨_,_,rfl,rfl,⟨_,_,rfl,⟨A,c,ll,rfl,K9 s1⟩,⟨_,_,rfl,⟨_,rfl,⟨_,_,rfl,⟨B,d,m,rfl,K9 s2⟩,rfl⟩⟩,rfl⟩⟩⟩).mono ?_;rintro e w' ⟨u,rfl,hb,C',hm,hv⟩;obtain ⟨_,rfl,_,_,rfl,⟨_,rfl,v0,_,rfl,rfl,v1,_,rfl,rfl,v2,_,rfl,h2,rfl⟩,vb,_,rfl,rfl,rfl⟩:=hv;obtain ⟨B2,d2,m2,rfl,t2,f2⟩:=Zc hm rfl (fun k xs hx=>Aeu hx rfl) h2;exact ⟨B2,d2,m2,rfl,t2,f2.fresh,hb⟩
end
section
def Cg (p a b:Int):Prop:=∃ q,a=b+p*q
section
variable {p a b c d:Int}
theorem Cg.rf:Cg p a a:=⟨0,by simp⟩
theorem Cg.of (h:a=b):Cg p a b:=h▸Cg.rf
theorem Cg.symm (h:Cg p a b):Cg p b a:=by obtain ⟨q,rfl⟩:=h;exact ⟨-q,by grind⟩
theorem Cg.trans (h1:Cg p a b) (h2:Cg p b c):Cg p a c:=by obtain ⟨q,rfl⟩:=h1;obtain ⟨r,rfl⟩:=h2;exact ⟨q+r,by grind⟩
theorem Cg.add (h1:Cg p a b) (h2:Cg p c d):Cg p (a+c) (b+d):=by obtain ⟨q,rfl⟩:=h1;obtain ⟨r,rfl⟩:=h2;exact ⟨q+r,by grind⟩
theorem Cg.mul (h1:Cg p a b) (h2:Cg p c d):Cg p (a*c) (b*d):=by obtain ⟨q,rfl⟩:=h1;obtain ⟨r,rfl⟩:=h2;exact ⟨q*d+b*r+p*q*r,by grind⟩
theorem Cg.md:Cg p (a % p) a:=⟨-(a / p),by have:=Int.emod_add_mul_ediv a p;grind⟩
theorem Cg.to (h:Cg p a b):a % p=b % p:=by obtain ⟨q,rfl⟩:=h;rw [Int.add_mul_emod_self_left]
theorem Cg.fr (h:a % p=b % p):Cg p a b:=(Cg.md.symm.trans (Cg.of h)).trans Cg.md
theorem Cg.eq (h:Cg p a b) (h1:0<=a/\a<p) (h2:0<=b/\b<p):a=b:=by
 have:=h.to
 rwa [Int.emod_eq_of_lt h1.1 h1.2,Int.emod_eq_of_lt h2.1 h2.2] at this
end
def sm:Nat->(Nat->Int)->Int
 | 0,_=>0
 | k+1,f=>sm k f+f k
section
variable {p:Int} {f g:Nat->Int}
theorem Ox:∀ {k:Nat},(∀ i,i<k->Cg p (f i) (g i))->Cg p (sm k f) (sm k g)
 | 0,_=>Cg.rf
 | k+1,h=>(Ox fun i hi=>h i oM).add (h k oM)
theorem X7:∀ {k:Nat},(∀ i,i<k->f i=g i)->sm k f=sm k g
 | 0,_=>rfl
 | k+1,h=>by unfold sm;rw [X7 fun i hi=>h i oM,h k oM]
theorem Ui:∀ {k:Nat},sm k (fun i=>f i+g i)=sm k f+sm k g
 | 0=>rfl
 | k+1=>by unfold sm;rw [Ui];dsimp only;omega
theorem W3 {a:Int}:∀ {k:Nat},sm k (fun i=>a*f i)=a*sm k f
 | 0=>by simp [sm]
 | k+1=>by unfold sm;rw [W3];grind
theorem Nt:∀ {k:Nat},(∀ i,i<k->f i=0)->sm k f=0
 | 0,_=>rfl
 | k+1,h=>by unfold sm;rw [Nt fun i hi=>h i oM,h k oM];rfl
theorem Q7 {t:Nat}:∀ {k:Nat},t<k->(∀ i,i<k->i≠t->f i=0)->sm k f=f t
 | 0,h,_=>by omega
 | k+1,h,h0=>by
  unfold sm;by_cases e:t=k
  ·subst e;rw [Nt fun i hi=>h0 i oM oM];omega
  ·rw [Q7 (t:=t) oM fun i hi=>h0 i oM,h0 k oM oM];omega
end
def en (m:ZA) (i j:Nat):Int:=(m.getD i []).getD j 0
inductive D0 (p:Int) (n:Nat) (m:ZA):(Nat->Int)->Prop
 | zero {f:Nat->Int}:(∀ j,j<n->Cg p (f j) 0)->D0 p n m f
 | add {f g:Nat->Int} (i:Nat) (k:Int):i<m.length->D0 p n m g->(∀ j,j<n->Cg p (f j) (g j+k*en m i j))->D0 p n m f
section
variable {p:Int} {n:Nat} {m m':ZA} {f g:Nat->Int}
theorem De {i:Nat} (h:i<m.length):D0 p n m (en m i):=.add i 1 h (.zero (f:=fun _=>0) fun _ _=>Cg.rf) fun _ _=>Cg.of oM
theorem Ft (h:D0 p n m f) (hf:∀ j,j<n->Cg p (g j) (f j)):D0 p n m g:=by
 cases h with
 | zero h=>exact .zero fun j hj=>(hf j hj).trans<|h j hj
 | add i k hi h hs=>exact .add i k hi h fun j hj=>(hf j hj).trans<|hs j hj
theorem Ua (h:D0 p n m f) (hg:D0 p n m g):D0 p n m (fun j=>f j+g j):=by
 induction hg with
 | zero h0=>exact Ft h fun j hj=>(Cg.rf.add<|h0 j hj).trans<|Cg.of oM
 | add i k hi _ hs ih=>exact .add i k hi ih fun j hj=>(Cg.rf.add<|hs j hj).trans<|Cg.of oM
theorem N2 (a:Int) (h:D0 p n m f):D0 p n m (fun j=>a*f j):=by
 induction h with
 | zero h0=>exact .zero fun j hj=>(Cg.rf.mul<|h0 j hj).trans<|Cg.of oM
 | add i k hi _ hs ih=>exact .add i (a*k) hi ih fun j hj=>(Cg.rf.mul<|hs j hj).trans<|Cg.of (by grind)
theorem Vh (h:∀ i,i<m.length->D0 p n m' (en m i)) (hf:D0 p n m f):D0 p n m' f:=by
 induction hf with
 | zero h0=>exact .zero h0
 | add i k hi _ hs ih=>exact Ft (Ua ih<|N2 k<|h i hi) hs
theorem Ajo {F:Nat->Nat->Int}:∀ {k:Nat},(∀ i,i<k->D0 p n m (F i))->D0 p n m (fun j=>sm k fun i=>F i j)
 | 0,_=>.zero fun _ _=>Cg.rf
 | k+1,h=>Ua (Ajo fun i hi=>h i oM) (h k oM)
structure Q9 (c r:Nat) (m:ZA) (pv:Nat->Nat):Prop where
 rl:r<=m.length
 lt:∀ i,i<r->pv i<c
 mono:∀ i k,i<k->k<r->pv i<pv k
 low:∀ i,i<r->∀ j,j<pv i->en m i j=0
 one:∀ i,i<r->en m i (pv i)=1
 zero:∀ i,i<r->∀ k,k≠i->en m k (pv i)=0
 tail:∀ i,r<=i->∀ j,j<c->en m i j=0
theorem Sb {i j:Nat} (h:m.length<=i):en m i j=0:=by
 unfold en;rw [gDg (l:=m),getElem?_eq_none h];rfl
theorem Avk {pv:Nat->Nat} (h:Q9 n m.length m pv) (hs:D0 p n m f):∀ j,j<n->Cg p (f j) (sm m.length fun i=>f (pv i)*en m i j):=by
 induction hs with
 | zero h0 =>
  intro j hj;refine (h0 j hj).trans ?_;refine Cg.symm<|(Ox (g:=fun _=>0) fun i hi=>?_).trans<|Cg.of (Nt fun _ _=>rfl);exact ((h0 _<|h.lt i hi).mul Cg.rf).trans<|Cg.of oM
 | @add f g t k ht _ hs ih =>
  intro j hj;refine (hs j hj).trans<|((ih j hj).add Cg.rf).trans ?_
  have e:sm m.length (fun i=>(g (pv i)+k*en m t (pv i))*en m i j)=sm m.length (fun i=>g (pv i)*en m i j)+k*en m t j:=by
   rw [X7 (g:=fun i=>g (pv i)*en m i j+k*(en m t (pv i)*en m i j)) fun i _=>by grind,Ui (f:=fun i=>g (pv i)*en m i j),W3 (f:=fun i=>en m t (pv i)*en m i j),Q7 (f:=fun i=>en m t (pv i)*en m i j) ht fun i hi hne=>by rw [h.zero i hi t (Ne.symm hne)];omega,h.one t ht,Int.one_mul]
  rw [← e];exact (Ox fun i hi=>(hs _<|h.lt i hi).mul Cg.rf).symm
theorem Ap4 {pv:Nat->Nat} (h:Q9 n m.length m pv) (hs:D0 p n m f) {q:Nat} (hq:q<n) (h0:∀ j,j<q->Cg p (f j) 0) (h1:¬ Cg p (f q) 0):∃ i,i<m.length/\pv i=q:=by
 refine Classical.byContradiction fun hn=>h1 ?_
 refine (Avk h hs q hq).trans<|(Ox (g:=fun _=>0) fun i hi=>?_).trans<|Cg.of (Nt fun _ _=>rfl);rcases Nat.lt_trichotomy (pv i) q with hlt|he|hgt
 ·exact ((h0 _ hlt).mul Cg.rf).trans<|Cg.of oM
 ·exact (hn ⟨i,hi,he⟩).elim
 ·exact Cg.of (by rw [h.low i hi q hgt];omega)
theorem Aoi {u v:Nat->Nat} {k l:Nat} (hu:∀ i j,i<j->j<k->u i<u j) (hv:∀ i j,i<j->j<l->v i<v j) (h1:∀ i,i<k->∃ t,t<l/\v t=u i) (h2:∀ i,i<l->∃ t,t<k/\u t=v i) :
  ∀ i,i<k->i<l->u i=v i:=by
 intro i
 induction i using Nat.strongRecOn with
 | _ i ih =>
  intro hk hl;have ⟨t,ht,e⟩:=h1 i hk;have ⟨s,hs,e'⟩:=h2 i hl
  have a1:v i<=u i:=by
   rcases Nat.lt_trichotomy t i with hlt|he|hgt
   ·have:=ih t hlt oM ht;have:=hu t i hlt hk;omega
   ·subst he;omega
   ·have:=hv i t hgt ht;omega
  have a2:u i<=v i:=by
   rcases Nat.lt_trichotomy s i with hlt|he|hgt
   ·have:=ih s hlt hs oM;have:=hv s i hlt hl;omega
   ·subst he;omega
   ·have:=hu i s hgt hs;omega
  omega
theorem Aek {u v:Nat->Nat} {k l:Nat} (hu:∀ i j,i<j->j<k->u i<u j) (hv:∀ i j,i<j->j<l->v i<v j) (h1:∀ i,i<k->∃ t,t<l/\v t=u i) (h2:∀ i,i<l->∃ t,t<k/\u t=v i):l<=k:=by
 refine Nat.le_of_not_lt fun hlt=>?_
 have ⟨t,ht,e⟩:=h2 k hlt;have:=Aoi hu hv h1 h2 t ht oM;have:=hv t k ht hlt;omega
theorem Atg (hp:2<=p):¬ Cg p 1 0:=fun h=>by
 have:=h.eq ⟨by omega,by omega⟩ ⟨by omega,by omega⟩;omega
theorem Apy {i j:Nat} (hp:2<=p) (hm:MatW p n m):0<=en m i j/\en m i j<p:=by
 unfold en;by_cases h:i<m.length
 ·have hx:=hm _<|Oe h;generalize m.getD i []=x at hx;by_cases hj:j<x.length
  ·rw [Bt (gEg hj)];exact hx.2 _<|getElem_mem hj
  ·rw [gDg,getElem?_eq_none oM];exact ⟨by simp,by simp;omega⟩
 ·rw [gDg (l:=m),getElem?_eq_none oM];simp;omega
theorem Axg (hm:MatW p n m) (hm':MatW p n m') (hl:m.length=m'.length) (h:∀ i,i<m.length->∀ j,j<n->en m i j=en m' i j):m=m':=by
 refine ext_getElem hl fun i h1 h2=>?_
 have e1:=hm _<|getElem_mem h1;have e2:=hm' _<|getElem_mem h2;refine ext_getElem (e1.1.trans e2.1.symm) fun j k1 k2=>?_
 have:=h i h1 j (by have:=e1.1;omega);unfold en at this;rw [Bt<|gEg h1,Bt<|gEg h2,Bt<|gEg k1,Bt (gEg k2)] at this;exact this
theorem Aqb {pv pv':Nat->Nat} (hp:2<=p) (h:Q9 n m.length m pv) (h':Q9 n m'.length m' pv') (hm:MatW p n m) (hm':MatW p n m') (h1:∀ f,D0 p n m f->D0 p n m' f) (h2:∀ f,D0 p n m' f->D0 p n m f):m=m':=by
 have k1:∀ i,i<m.length->∃ t,t<m'.length/\pv' t=pv i:=fun i hi =>
  Ap4 h' (h1 _<|De hi) (h.lt i hi) (fun j hj=>Cg.of<|h.low i hi j hj) (by rw [h.one i hi];exact Atg hp)
 have k2:∀ i,i<m'.length->∃ t,t<m.length/\pv t=pv' i:=fun i hi =>
  Ap4 h (h2 _<|De hi) (h'.lt i hi) (fun j hj=>Cg.of<|h'.low i hi j hj) (by rw [h'.one i hi];exact Atg hp)
 have hl:m.length=m'.length:=Nat.le_antisymm (Aek h'.mono h.mono k2 k1)<|Aek h.mono h'.mono k1 k2;have hpv:=Aoi h.mono h'.mono k1 k2;refine Axg hm hm' hl fun i hi j hj=>?_
 refine Cg.eq (Cg.symm<|(Avk h (h2 _<|De (i:=i) oM) j hj).trans<|Cg.of ?_) (Apy hp hm)<|Apy hp hm';rw [Q7 hi fun t ht hne=>?_,hpv i hi oM,h'.one i oM]
 ·omega
 ·rw [hpv t ht oM,h'.zero t oM i (Ne.symm hne)];omega
theorem Azr {r k i j:Nat} (hr:r<m.length) (hk:k<m.length):en (Mo m r k) i j=if i=k then en m r j else if i=r then en m k j else en m i j:=by
 unfold en Mo;by_cases h1:i=k
 ·subst h1;rw [fW rfl,gDg (l:=List.set _ _ _),getElem?_set_self (by rw [length_set];exact hk)];rfl
 ·rw [fB h1,gDg (l:=List.set _ _ _),getElem?_set_ne (Ne.symm h1)];by_cases h2:i=r
  ·subst h2;rw [fW rfl,getElem?_set_self hr];rfl
  ·rw [fB h2,getElem?_set_ne<|Ne.symm h2,← gDg]
theorem Aq5 {k:Int} {x:List Int} {j:Nat}:(Fb p k x).getD j 0=x.getD j 0*k % p:=by
 unfold Fb;rw [gDg,getElem?_map,gDg];cases x[j]? with
 | none=>simp
 | some a=>rfl
theorem Arj {k:Int} {x v:List Int} {j:Nat} (h:x.length=v.length):(Ez p k x v).getD j 0=(x.getD j 0 - k*v.getD j 0) % p:=by
 unfold Ez;rw [gDg,getElem?_zipWith,gDg,gDg];by_cases hj:j<x.length
 ·rw [gEg hj,gEg (show j<v.length by omega)];rfl
 ·rw [getElem?_eq_none (show x.length<=j by omega),getElem?_eq_none (show v.length<=j by omega)];simp
theorem A0b {c r i j:Nat} {pr:List Int} (hm:MatW p n m) (hpr:pr.length=n) (hi:i<m.length):en (H7 p c r pr m) i j=if i=r then pr.getD j 0 else (en m i j - en m i c*pr.getD j 0) % p:=by
 have hx:=hm _<|getElem_mem hi;unfold en H7;rw [gDg (l:=List.mapIdx _ _),getElem?_mapIdx,gEg hi,Bt (gEg hi)];show (if i=r then pr else Ez p (m[i].getD c 0) m[i] pr).getD j 0=_;split
 ·rfl
 ·rw [Arj (by rw [hx.1,hpr])]
def Aa1 (p:Int):Prop:=∀ a,1<=a->a<p->a*Pv p a % p=1
theorem Awx {c:Nat} {s:Nat×ZA} {pv:Nat->Nat} (hp:2<=p) (hI:Aa1 p) (hm:MatW p n s.2) (h:Q9 c s.1 s.2 pv) :
  (∃ pv',Q9 (c+1) (gjS p c s).1 (gjS p c s).2 pv')/\(∀ f,D0 p n (gjS p c s).2 f↔D0 p n s.2 f):=by
 have ⟨r,m⟩:=s;dsimp only at hm h;unfold gjS;dsimp only;by_cases h1:r<m.length
 ·rw [fW h1];by_cases h2:Ei m c r=m.length
  ·rw [fW h2];refine ⟨⟨pv,h.rl,fun i hi=>Nat.lt_succ_of_lt<|h.lt i hi,h.mono,h.low,h.one,h.zero,fun i hi j hj=>?_⟩,fun f=>Iff.rfl⟩;dsimp only at hi ⊢;by_cases hjc:j<c
   ·exact h.tail i hi j hjc
   ·obtain rfl:j=c:=by omega
    by_cases hil:i<m.length
    ·exact Aeh hi oM h.rl
    ·exact Sb oM
  ·rw [fB h2];have hk1:=To (c:=c) h.rl;have hk2:=Azw m c r;have hnz:=Acy h2 h.rl;have hkl:Ei m c r<m.length:=by omega
   have hx:=hm _<|Oe hkl;have ha:en m (Ei m c r) c≠0:=hnz;generalize hk:Ei m c r=k at *;have hab:=Apy (i:=k) (j:=c) hp hm;have hinv:=hI (en m k c) oM hab.2;generalize hv:Pv p (en m k c)=v at hinv
   have hpr:∀ j,(prV p c<|m.getD k []).getD j 0=en m k j*v % p:=fun j=>by
    unfold prV;rw [Aq5];show _*Pv p (en m k c) % p=_;rw [hv];rfl
   have hprl:(prV p c<|m.getD k []).length=n:=(Tl hp hx.1).1;generalize prV p c (m.getD k [])=pr at *;have hW:=Aca hm h1 hkl;have hWl:=R9 m r k;have hWe:∀ i j,en (Mo m r k) i j=if i=k then en m r j else if i=r then en m k j else en m i j:=fun i j=>Azr h1 hkl
   generalize Mo m r k=W at *
   have hE:∀ i j,i<m.length->en (H7 p c r pr W) i j=if i=r then en m k j*v % p else (en W i j - en W i c*(en m k j*v % p)) % p:=fun i j hi=>by
    rw [A0b hW hprl oM,hpr]
   have hEl:=Qw p c r pr W
   have h0:∀ i j,i<m.length->i≠r->en m k j=0->en (H7 p c r pr W) i j=en W i j:=fun i j hi hne h0=>by
    have hb:=Apy (i:=i) (j:=j) hp hW;rw [hE i j hi,fB hne,h0,Int.zero_mul,Int.zero_emod,Int.mul_zero,Int.sub_zero,Int.emod_eq_of_lt hb.1 hb.2]
   have hkj:∀ j,j<c->en m k j=0:=fun j hj=>h.tail k oM j hj
   have hkp:∀ i,i<r->en m k (pv i)=0:=fun i hi=>h.zero i hi k oM
   have hcc:en m k c*v % p=1:=hinv
   have hsp:∀ i j,i<m.length->i≠r->Cg p (en (H7 p c r pr W) i j) (en W i j+ -en W i c*en (H7 p c r pr W) r j):=fun i j hi hne=>by
    rw [hE i j hi,fB hne,hE r j h1,fW rfl];exact Cg.md.trans<|Cg.of (by grind)
   have hWr:∀ j,Cg p (en W r j) (en m k c*en (H7 p c r pr W) r j):=fun j=>by
    have e:en W r j=en m k j:=by
     rw [hWe];by_cases e:r=k
     ·rw [fW e,e]
     ·rw [fB e,fW rfl]
    rw [e,hE r j h1,fW rfl];have ⟨q,hq⟩:=Cg.fr (p:=p) (a:=en m k c*v) (b:=1) (by rw [hcc];exact (Int.emod_eq_of_lt oM oM).symm);refine Cg.trans ⟨-q*en m k j,?_⟩<|Cg.rf.mul Cg.md.symm
    grind
   refine ⟨⟨fun i=>if i=r then c else pv i,?_,?_,?_,?_,?_,?_,?_⟩,fun f=>⟨Vh fun i hi=>?_,Vh fun i hi=>?_⟩⟩
   ·show r+1<=(H7 p c r pr W).length;omega
   ·intro i hi
    try dsimp only
    split
    ·omega
    ·have:=h.lt i oM;omega
   ·intro i l hil hl
    try dsimp only
    rw [fB (by omega:i≠r)];split
    ·exact h.lt i oM
    ·exact h.mono i l hil oM
   ·intro i hi j hj;dsimp only at hj ⊢;by_cases e:i=r
    ·subst e;rw [fW rfl] at hj;rw [hE i j h1,fW rfl,hkj j hj,Int.zero_mul,Int.zero_emod]
    ·rw [fB e] at hj;have:=h.lt i oM;rw [h0 i j oM e<|hkj j oM,hWe,fB oM,fB e];exact h.low i oM j hj
   ·intro i hi;dsimp only;by_cases e:i=r
    ·subst e;rw [fW rfl,hE i c h1,fW rfl,hcc]
    ·rw [fB e,h0 i (pv i) oM e<|hkp i oM,hWe,fB oM,fB e];exact h.one i oM
   ·intro i hi l hl;dsimp only;by_cases hll:l<m.length
    ·by_cases e:i=r
     ·subst e;rw [fW rfl,hE l c hll,fB hl,hcc,Int.mul_one,Int.sub_self,Int.zero_emod]
     ·rw [fB e];by_cases e2:l=r
      ·subst e2;rw [hE l (pv i) hll,fW rfl,hkp i oM,Int.zero_mul,Int.zero_emod]
      ·rw [h0 l (pv i) hll e2<|hkp i oM,hWe];by_cases e3:l=k
       ·rw [fW e3];exact h.zero i oM r oM
       ·rw [fB e3,fB e2];exact h.zero i oM l hl
    ·exact Sb oM
   ·intro i hi j hj;dsimp only at hi ⊢;by_cases hil:i<m.length
    ·by_cases e:j=c
     ·subst e;rw [hE i j hil,fB oM,hcc,Int.mul_one,Int.sub_self,Int.zero_emod]
     ·rw [h0 i j hil oM<|hkj j oM,hWe];by_cases e3:i=k
      ·rw [fW e3];exact h.tail r (fQ r) j oM
      ·rw [fB e3,fB oM];exact h.tail i oM j oM
    ·exact Sb oM
   ·have hi:i<m.length:=by dsimp only at hi;omega
    have hrow:∀ t,t<m.length->D0 p n m (en W t):=fun t ht=>by
     by_cases e1:t=k
     ·exact Ft (De h1) fun j hj=>Cg.of (by rw [hWe,fW e1])
     ·by_cases e2:t=r
      ·exact Ft (De hkl) fun j hj=>Cg.of (by rw [hWe,fB e1,fW e2])
      ·exact Ft (De ht) fun j hj=>Cg.of (by rw [hWe,fB e1,fB e2])
    have hr':D0 p n m (en (H7 p c r pr W) r):=Ft (N2 v<|De hkl) fun j hj=>by
     rw [hE r j h1,fW rfl];exact Cg.md.trans<|Cg.of (by grind)
    by_cases e:i=r
    ·subst e;exact hr'
    ·exact Ft (Ua (hrow i hi)<|N2 (-en W i c) hr') fun j hj=>hsp i j hi e
   ·have hE':∀ t,t<m.length->D0 p n (H7 p c r pr W) (en W t):=fun t ht=>by
     by_cases e:t=r
     ·subst e;exact Ft (N2 (en m k c)<|De (i:=t) oM) fun j hj=>hWr j
     ·refine Ft (Ua (De (i:=t) oM)<|N2 (en W t c)<|De (i:=r) oM) fun j hj=>?_
      exact Cg.symm<|((hsp t j ht e).add Cg.rf).trans<|Cg.of (by grind)
    by_cases e1:i=r
    ·subst e1;exact Ft (hE' k hkl) fun j hj=>Cg.of (by rw [hWe,fW rfl])
    ·by_cases e2:i=k
     ·subst e2;exact Ft (hE' r h1) fun j hj=>Cg.of (by rw [hWe,fB oM,fW rfl])
     ·exact Ft (hE' i hi) fun j hj=>Cg.of (by rw [hWe,fB e2,fB e1])
 ·rw [fB h1];have:=h.rl;refine ⟨⟨pv,h.rl,fun i hi=>Nat.lt_succ_of_lt<|h.lt i hi,h.mono,h.low,h.one,h.zero,fun i hi j hj=>Sb (m:=m) (by dsimp only at hi;omega)⟩,fun f=>Iff.rfl⟩
theorem Ahr {m:ZA} (hp:2<=p) (hI:Aa1 p) (hm:MatW p n m):∀ c,(∃ pv,Q9 c (gjT p m c).1 (gjT p m c).2 pv)/\∀ f,D0 p n (gjT p m c).2 f↔D0 p n m f
 | 0=>⟨⟨fun _=>0,Nat.zero_le _,by intro i hi;simp [gjT] at hi,by intro i k _ hk;simp [gjT] at hk,by intro i hi;simp [gjT] at hi,by intro i hi;simp [gjT] at hi,by intro i hi;simp [gjT] at hi,fun _ _ j hj=>by omega⟩,fun _=>Iff.rfl⟩
 | c+1=>by
  have ⟨⟨pv,h1⟩,h2⟩:=Ahr hp hI hm c;have ⟨h3,h4⟩:=Awx hp hI (Mr hp hm c).1 h1;exact ⟨h3,fun f=>(h4 f).trans (h2 f)⟩
theorem Yj {r i j:Nat} (h:i<r):en (m.take r) i j=en m i j:=by
 unfold en;rw [gDg (l:=m.take r),getElem?_take,fW h,← gDg]
theorem Aj7 {k:Nat} (hk:k<=n) (h:D0 p n m f):D0 p k m f:=by
 induction h with
 | zero h0=>exact .zero fun j hj=>h0 j oM
 | add i k hi _ hs ih=>exact .add i k hi ih fun j hj=>hs j oM
theorem Ar2 {c:Nat} (hp:2<=p) (hI:Aa1 p) (hm:MatW p n m) (hc:c<=n):(∃ pv,Q9 c (gj p c m).length (gj p c m) pv)/\∀ f,D0 p c (gj p c m) f↔D0 p c m f:=by
 have ⟨⟨pv,h⟩,h2⟩:=Ahr hp hI hm c;have hl:=Ahv (n:=c) hp hm;have hrl:=h.rl;refine ⟨⟨pv,fQ _,?_,?_,?_,?_,?_,?_⟩,fun f=>Iff.trans (b:=D0 p c (gjT p m c).2 f) ⟨Vh fun i hi=>?_,Vh fun i hi=>?_⟩ ⟨Vh fun i hi=>Aj7 hc<|(h2 _).1<|De hi,Vh fun i hi=>Aj7 hc<|(h2 _).2<|De hi⟩⟩
 ·rw [hl];exact h.lt
 ·rw [hl];exact h.mono
 ·rw [hl];intro i hi j hj;unfold gj;rw [Yj hi];exact h.low i hi j hj
 ·rw [hl];intro i hi;unfold gj;rw [Yj hi];exact h.one i hi
 ·rw [hl];intro i hi k hk;by_cases hkl:k<(gjT p m c).1
  ·unfold gj;rw [Yj hkl];exact h.zero i hi k hk
  ·exact Sb oM
 ·intro i hi j _;exact Sb hi
 ·rw [hl] at hi;exact Ft (De (i:=i) oM) fun j hj=>Cg.of (by unfold gj;rw [Yj hi])
 ·by_cases hir:i<(gjT p m c).1
  ·exact Ft (De (i:=i) oM) fun j hj=>Cg.of (by unfold gj;rw [Yj hir])
  ·exact .zero fun j hj=>Cg.of<|h.tail i oM j hj
theorem Yq (hp:2<=p) (hI:Aa1 p) (hm:MatW p n m):(∃ pv,Q9 n (gj p n m).length (gj p n m) pv)/\∀ f,D0 p n (gj p n m) f↔D0 p n m f:=Ar2 hp hI hm (fQ n)
theorem Ai4 {pv:Nat->Nat} (hp:2<=p) (hI:Aa1 p) (hm:MatW p n m) (hm':MatW p n m') (h:Q9 n m'.length m' pv) (hs:∀ f,D0 p n m f↔D0 p n m' f):gj p n m=m':=by
 have ⟨⟨pv',h1⟩,h2⟩:=Yq hp hI hm;exact Aqb hp h1 h (Uz hp hm) hm' (fun f hf=>(hs f).1<|(h2 f).1 hf) fun f hf=>(h2 f).2<|(hs f).2 hf
theorem Awu (hp:2<=p) (hI:Aa1 p) (hm:MatW p n m) (hm':MatW p n m') (hs:∀ f,D0 p n m f↔D0 p n m' f):gj p n m=gj p n m':=by
 have ⟨⟨pv',h1⟩,h2⟩:=Yq hp hI hm';exact Ai4 hp hI hm (Uz hp hm') h1 fun f=>(hs f).trans (h2 f).symm
end
end
section
def Rx (x:List Int):Nat:=x.findIdx fun a=>a !=0
section
variable {p:Int} {n:Nat} {m m' B:ZA} {o:List Int}
theorem Ar5 {c r i:Nat} {pv:Nat->Nat} (h:Q9 c r m pv) (hm:MatW p n m) (hc:c<=n) (hi:i<r):Rx (m.getD i [])=pv i:=by
 have hl:=h.rl;have hx:=(hm _<|Oe (show i<m.length by omega)).1;have hlt:=h.lt i hi;have e:∀ (j:Nat) (hj:j<(m.getD i []).length),(m.getD i [])[j]=en m i j:=fun j hj=>(Bt<|gEg hj).symm
 unfold Rx;refine (findIdx_eq (show pv i<(m.getD i []).length by omega)).2 ⟨?_,fun j hj=>?_⟩
 ·rw [e,h.one i hi];rfl
 ·rw [e,h.low i hi j hj];rfl
theorem Aqx {n':Nat} {f:Nat->Int} {C:Nat->Nat} (hl:m'.length=m.length) (hC:∀ j,j<n'->C j<n) (he:∀ i,i<m.length->∀ j,j<n'->en m' i j=en m i (C j)) (h:D0 p n m f):D0 p n' m' (fun j=>f (C j)):=by
 induction h with
 | zero h0=>exact .zero fun j hj=>h0 _<|hC j hj
 | add i k hi _ hs ih=>exact .add i k oM ih fun j hj=>(hs _<|hC j hj).trans<|Cg.of (by rw [he i hi j hj])
end
end
section
def Qa (p:Int) (n:Nat) (m:ZA) (f:Nat->Int):Prop:=∀ i,i<m.length->Cg p (sm n fun j=>en m i j*f j) 0
section
variable {p:Int} {n:Nat} {m m':ZA} {f g:Nat->Int}
theorem Arb (hf:Qa p n m f) (hs:D0 p n m g):Cg p (sm n fun j=>g j*f j) 0:=by
 induction hs with
 | zero h0=>exact (Ox (g:=fun _=>0) fun j hj=>((h0 j hj).mul Cg.rf).trans<|Cg.of oM).trans<|Cg.of (Nt fun _ _=>rfl)
 | @add f' g' i k hi _ hs ih =>
  have e:sm n (fun j=>(g' j+k*en m i j)*f j)=sm n (fun j=>g' j*f j)+k*sm n (fun j=>en m i j*f j):=by
   rw [X7 (g:=fun j=>g' j*f j+k*(en m i j*f j)) fun j _=>by grind,Ui (f:=fun j=>g' j*f j),W3 (f:=fun j=>en m i j*f j)]
  refine (Ox fun j hj=>(hs j hj).mul Cg.rf).trans<|(Cg.of e).trans ?_;exact (ih.add<|Cg.rf.mul<|hf i hi).trans<|Cg.of oM
theorem Aos (h:∀ i,i<m'.length->D0 p n m (en m' i)) (hf:Qa p n m f):Qa p n m' f:=fun i hi=>Arb hf (h i hi)
theorem Au3 (hf:Qa p n m f) (hg:Qa p n m g):Qa p n m (fun j=>f j+g j):=fun i hi=>by
 refine (Cg.of ?_).trans (((hf i hi).add (hg i hi)).trans (Cg.of oM));rw [X7 (g:=fun j=>en m i j*f j+en m i j*g j) fun j _=>by grind,Ui]
theorem Ask (a:Int) (hf:Qa p n m f):Qa p n m (fun j=>a*f j):=fun i hi=>by
 refine (Cg.of ?_).trans ((Cg.rf.mul (hf i hi)).trans (Cg.of (show a*0=0 by omega)));rw [X7 (g:=fun j=>a*(en m i j*f j)) fun j _=>by grind,W3]
theorem Ax4 (hf:Qa p n m f) (h:∀ j,j<n->Cg p (g j) (f j)):Qa p n m g:=fun i hi=>(Ox fun j hj=>Cg.rf.mul (h j hj)).trans (hf i hi)
theorem Ahe (h:∀ i,i<m'.length->Qa p n m (en m' i)) (hs:D0 p n m' f):Qa p n m f:=by
 induction hs with
 | zero h0=>exact fun i hi=>(Ox (g:=fun _=>0) fun j hj=>(Cg.rf.mul<|h0 j hj).trans<|Cg.of oM).trans<|Cg.of (Nt fun _ _=>rfl)
 | add i k hi _ hs ih=>exact Ax4 (Au3 ih<|Ask k<|h i hi) hs
def pvs (r:Nat) (pv:Nat->Nat) (j:Nat):Bool:=(range r).any fun i=>pv i==j
theorem As1 {r j:Nat} {pv:Nat->Nat} (h:pvs r pv j=true):∃ i,i<r/\pv i=j:=by
 have ⟨i,hi,he⟩:=any_eq_true.1 h;exact ⟨i,mem_range.1 hi,fF.1 he⟩
theorem Apr {r j i:Nat} {pv:Nat->Nat} (h:pvs r pv j=false) (hi:i<r):pv i≠j:=fun e=>by
 have:=any_eq_false.1 h i (mem_range.2 hi);exact this (fF.2 e)
structure A0t (p:Int) (n:Nat) (R:ZA) (pv:Nat->Nat) (N:ZA):Prop where
 ex:∀ j,j<n->pvs R.length pv j=false->∃ t,t<N.length/\Cg p (en N t j) 1/\(∀ i,i<R.length->Cg p (en N t (pv i)) (-en R i j))/\∀ q,q<n->q≠j->pvs R.length pv q=false->Cg p (en N t q) 0
 all:∀ t,t<N.length->∃ j,j<n/\pvs R.length pv j=false/\Cg p (en N t j) 1/\(∀ i,i<R.length->Cg p (en N t (pv i)) (-en R i j))/\∀ q,q<n->q≠j->pvs R.length pv q=false->Cg p (en N t q) 0
theorem Aqg {R N:ZA} {pv:Nat->Nat} (h:Q9 n R.length R pv) (hN:A0t p n R pv N):D0 p n N f↔Qa p n R f:=by
 have hd:∀ i k,i<R.length->k<R.length->en R i (pv k)=if k=i then 1 else 0:=fun i k hi hk=>by
  by_cases e:k=i
  ·subst e;rw [fW rfl,h.one k hk]
  ·rw [fB e,h.zero k hk i (Ne.symm e)]
 have hpi:∀ i k,i<R.length->k<R.length->pv i=pv k->i=k:=fun i k hi hk e=>by
  rcases Nat.lt_trichotomy i k with h1|h1|h1
  ·have:=h.mono i k h1 hk;omega
  ·exact h1
  ·have:=h.mono k i h1 hi;omega
 constructor
 ·refine Ahe fun t ht i hi=>?_
  have ⟨j,hj,hfr,h1,h2,h3⟩:=hN.all t ht;have hne:pv i≠j:=Apr hfr hi
  have e:Cg p (sm n fun q=>en R i q*en N t q) (sm n fun q=>(if q=j then en R i j else 0)+(if q=pv i then -en R i j else 0)):=by
   refine Ox fun q hq=>?_
   by_cases e1:q=j
   ·subst e1;rw [fW rfl,fB (Ne.symm hne)];exact (Cg.rf.mul h1).trans<|Cg.of oM
   ·rw [fB e1];by_cases e2:q=pv i
    ·subst e2;rw [fW rfl,h.one i hi];exact (Cg.rf.mul<|h2 i hi).trans<|Cg.of oM
    ·rw [fB e2];cases hf:pvs R.length pv q
     ·exact (Cg.rf.mul<|h3 q hq e1 hf).trans<|Cg.of oM
     ·obtain ⟨k,hk,rfl⟩:=As1 hf;rw [hd i k hi hk,fB fun e=>e2 (by rw [e])];exact Cg.of oM
  refine e.trans<|Cg.of ?_;rw [Ui,Q7 hj fun q _ hq=>fB hq,Q7 (h.lt i hi) fun q _ hq=>fB hq,fW rfl,fW rfl];omega
 ·intro hf
  have hrow:∀ j,∃ b:Nat->Int,D0 p n N b/\(j<n->pvs R.length pv j=false->Cg p (b j) 1/\(∀ i,i<R.length->Cg p (b<|pv i) (-en R i j))/\∀ q,q<n->q≠j->pvs R.length pv q=false->Cg p (b q) 0):=fun j=>by
   by_cases hj:j<n/\pvs R.length pv j=false
   ·have ⟨t,ht,h1⟩:=hN.ex j hj.1 hj.2;exact ⟨en N t,De ht,fun _ _=>h1⟩
   ·exact ⟨fun _=>0,.zero fun _ _=>Cg.rf,fun h1 h2=>(hj ⟨h1,h2⟩).elim⟩
  obtain ⟨b,hb⟩:∃ b:Nat->Nat->Int,∀ j,D0 p n N (b j)/\(j<n->pvs R.length pv j=false->Cg p (b j j) 1/\(∀ i,i<R.length->Cg p (b j<|pv i) (-en R i j))/\∀ q,q<n->q≠j->pvs R.length pv q=false->Cg p (b j q) 0) :=
   ⟨fun j=>Classical.choose<|hrow j,fun j=>Classical.choose_spec<|hrow j⟩
  have hS:D0 p n N (fun q=>sm n fun j=>(if pvs R.length pv j then 0 else f j)*b j q):=Ajo (F:=fun j q=>(if pvs R.length pv j then 0 else f j)*b j q) fun j _=>N2 _ (hb j).1
  refine Ft hS fun q hq=>Cg.symm ?_
  cases hf':pvs R.length pv q
  ·refine (Ox (g:=fun j=>if j=q then f q else 0) fun j hj=>?_).trans<|Cg.of ?_
   ·by_cases e:j=q
    ·subst e;rw [fW rfl,hf',fB (by decide)];exact (Cg.rf.mul ((hb j).2 hj hf').1).trans<|Cg.of oM
    ·rw [fB e];cases hfj:pvs R.length pv j
     ·exact (Cg.rf.mul<|((hb j).2 hj hfj).2.2 q hq (Ne.symm e) hf').trans<|Cg.of oM
     ·rw [fW rfl];exact Cg.of oM
   ·rw [Q7 hq fun j _ hj=>fB hj,fW rfl]
  ·obtain ⟨i,hi,rfl⟩:=As1 hf';refine (Ox (g:=fun j=> -1*(en R i j*f j)+(if j=pv i then f j else 0)) fun j hj=>?_).trans ?_
   ·cases hfj:pvs R.length pv j
    ·have hne:j≠pv i:=fun e=>Apr hfj hi e.symm
     rw [fB (by decide),fB hne];exact (Cg.rf.mul<|((hb j).2 hj hfj).2.1 i hi).trans<|Cg.of (by grind)
    ·obtain ⟨k,hk,rfl⟩:=As1 hfj;rw [fW rfl,hd i k hi hk];by_cases e:k=i
     ·subst e;rw [fW rfl,fW rfl];exact Cg.of oM
     ·rw [fB e,fB fun e'=>e (hpi k i hk hi e')];exact Cg.of oM
   ·rw [Ui (f:=fun j=> -1*(en R i j*f j)),W3 (f:=fun j=>en R i j*f j),Q7 (f:=fun j=>if j=pv i then f j else 0) hq fun j _ hj=>fB hj,fW rfl];exact ((Cg.rf.mul<|hf i hi).add Cg.rf).trans<|Cg.of oM
theorem Anm {c r w:Nat} {pv:Nat->Nat} (h:Q9 c r m pv) (hc:c<=w) (hs:D0 p w m f):∃ g,D0 p w (m.drop r) g/\∀ j,j<w->Cg p (f j) ((sm r fun i=>f (pv i)*en m i j)+g j):=by
 have hd:∀ t j,en (m.drop r) t j=en m (r+t) j:=fun t j=>by
  unfold en;rw [gDg (l:=m.drop r),getElem?_drop,← gDg]
 induction hs with
 | zero h0 =>
  refine ⟨fun _=>0,.zero fun _ _=>Cg.rf,fun j hj=>(h0 j hj).trans<|Cg.symm ?_⟩;refine (((Ox (g:=fun _=>0) fun i hi=>?_).trans<|Cg.of (Nt fun _ _=>rfl)).add Cg.rf).trans (Cg.of (by dsimp only;omega));exact ((h0 _ (by have:=h.lt i hi;omega)).mul Cg.rf).trans<|Cg.of oM
 | @add f' g' t k ht _ hs ih =>
  have ⟨q,hq,he⟩:=ih;have hpw:∀ i,i<r->pv i<w:=fun i hi=>by have:=h.lt i hi;omega
  have e1:∀ j,Cg p (sm r fun i=>f' (pv i)*en m i j) ((sm r fun i=>g' (pv i)*en m i j)+k*sm r fun i=>en m t (pv i)*en m i j):=fun j=>by
   refine (Ox fun i hi=>(hs _<|hpw i hi).mul Cg.rf).trans<|Cg.of ?_;rw [X7 (g:=fun i=>g' (pv i)*en m i j+k*(en m t (pv i)*en m i j)) fun i _=>by grind,Ui (f:=fun i=>g' (pv i)*en m i j),W3 (f:=fun i=>en m t (pv i)*en m i j)]
  by_cases htr:t<r
  ·refine ⟨q,hq,fun j hj=>(hs j hj).trans<|((he j hj).add Cg.rf).trans<|Cg.symm<|((e1 j).add Cg.rf).trans<|Cg.of ?_⟩;rw [Q7 (f:=fun i=>en m t (pv i)*en m i j) htr fun i hi hne=>by rw [h.zero i hi t (Ne.symm hne)];omega,h.one t htr,Int.one_mul];omega
  ·refine ⟨fun j=>q j+k*en m t j,?_,fun j hj=>(hs j hj).trans<|((he j hj).add Cg.rf).trans<|Cg.symm<|((e1 j).add Cg.rf).trans<|Cg.of ?_⟩
   ·refine Ft (Ua hq<|N2 k<|De (i:=t - r) (by rw [length_drop];omega)) fun j _=>Cg.of ?_
    rw [hd,show r+(t - r)=t by omega]
   ·rw [Nt (f:=fun i=>en m t (pv i)*en m i j) fun i hi=>by rw [h.zero i hi t oM];omega];dsimp only;omega
theorem Ars {R:Nat} {A W:ZA} (hp:2<=p) (hI:Aa1 p) (hW:MatW p (R+n) W) (hl:W.length=n) (hA:A.length=R) (h1:∀ t,t<n->∀ i,i<R->en W t i=en A i t) (h2:∀ t,t<n->∀ j,j<n->en W t (R+j)=if j=t then 1 else 0) :
  D0 p n (((gjT p W R).2.drop (gjT p W R).1).map (·.drop R)) f↔Qa p n A f:=by
 have ⟨⟨pv,hv⟩,hs⟩:=Ahr hp hI hW R
 have hlin:∀ g,D0 p (R+n) W g->∀ i,i<R->Cg p (g i) (sm n fun t=>en A i t*g (R+t)):=fun g hg=>by
  induction hg with
  | zero h0 =>
   intro i hi;refine (h0 i oM).trans<|Cg.symm<|(Ox (g:=fun _=>0) fun t ht=>?_).trans<|Cg.of (Nt fun _ _=>rfl);exact (Cg.rf.mul<|h0 _ oM).trans<|Cg.of oM
  | @add f' g' t k ht _ hs ih =>
   intro i hi;refine (hs i oM).trans<|((ih i hi).add Cg.rf).trans<|Cg.symm ?_;refine (Ox fun u hu=>Cg.rf.mul<|hs (R+u) oM).trans<|Cg.of ?_
   rw [X7 (g:=fun u=>en A i u*g' (R+u)+k*(en A i u*en W t (R+u))) fun u _=>by grind,Ui (f:=fun u=>en A i u*g' (R+u)),W3 (f:=fun u=>en A i u*en W t (R+u)),
    Q7 (f:=fun u=>en A i u*en W t (R+u)) (t:=t) oM fun u hu hne=>by rw [h2 t oM u hu,fB hne];omega,h2 t oM t oM,fW rfl,h1 t oM i hi,Int.mul_one]
 have hen:∀ t j,t<((gjT p W R).2.drop (gjT p W R).1).length->en (((gjT p W R).2.drop (gjT p W R).1).map (·.drop R)) t j=en (gjT p W R).2 ((gjT p W R).1+t) (R+j):=fun t j ht=>by
  unfold en
  have e1:(((gjT p W R).2.drop (gjT p W R).1).map (·.drop R)).getD t []=((gjT p W R).2.getD ((gjT p W R).1+t) []).drop R:=by
   rw [gDg,getElem?_map,getElem?_drop,gDg];cases (gjT p W R).2[(gjT p W R).1+t]? with
   | none=>exact (drop_nil).symm
   | some x=>rfl
  rw [e1,gDg,getElem?_drop,← gDg]
 generalize gjT p W R=G at *;have ⟨r,M⟩:=G;dsimp only at *;constructor
 ·refine Ahe fun t ht i hi=>?_
  have ht':t<(M.drop r).length:=by simpa using ht
  have h3:=hlin _ ((hs _).1<|De (i:=r+t) (by rw [length_drop] at ht';omega)) i oM;rw [hv.tail (r+t) oM i oM] at h3;refine Cg.trans (Cg.of (X7 fun j hj=>?_)) h3.symm;rw [hen t j ht']
 ·intro hf;have hg:D0 p (R+n) W (fun q=>sm n fun t=>f t*en W t q):=Ajo (F:=fun t q=>f t*en W t q) fun t ht=>N2 _<|De oM
  have hq1:∀ i,i<R->Cg p (sm n fun t=>f t*en W t i) 0:=fun i hi=>by
   refine Cg.trans (Cg.of (X7 fun t ht=>?_))<|hf i oM;rw [h1 t ht i hi];exact Int.mul_comm _ _
  have hq2:∀ j,j<n->(sm n fun t=>f t*en W t (R+j))=f j:=fun j hj=>by
   rw [Q7 (f:=fun t=>f t*en W t (R+j)) hj fun t ht hne=>by rw [h2 t ht j hj,fB (Ne.symm hne)];omega,h2 j hj j hj,fW rfl,Int.mul_one]
  have ⟨g,hgs,hge⟩:=Anm hv (Nat.le_add_right R n)<|(hs _).2 hg
  have hG:D0 p (R+n) (M.drop r) (fun q=>sm n fun t=>f t*en W t q):=by
   refine Ft hgs fun q hq=>(hge q hq).trans ?_
   refine ((Ox (g:=fun _=>0) fun i hi=>?_).add Cg.rf).trans<|Cg.of ?_
   ·exact ((hq1 _<|hv.lt i hi).mul Cg.rf).trans<|Cg.of oM
   ·rw [Nt fun _ _=>rfl];omega
  have hC:=Aqx (m':=(M.drop r).map (·.drop R)) (n':=n) (C:=fun j=>R+j) (length_map ..) (fun j hj=>by omega) (fun t ht j hj=>by
   rw [hen t j ht];unfold en;rw [gDg (l:=M.drop r),getElem?_drop,← gDg]) hG
  exact Ft hC fun j hj=>Cg.of (hq2 j hj).symm
end
def lv (R:ZA) (i:Nat):Nat:=Rx (R.getD i [])
section
variable {p:Int} {n:Nat} {R:ZA}
theorem Ag7 {pv:Nat->Nat} (h:Q9 n R.length R pv) {w:Nat} (hm:MatW p w R) (hw:n<=w):Q9 n R.length R (lv R):=by
 have e:∀ i,i<R.length->lv R i=pv i:=fun i hi=>Ar5 h hm hw hi
 refine ⟨fQ _,fun i hi=>?_,fun i k hik hk=>?_,fun i hi j hj=>?_,fun i hi=>?_,fun i hi k hk=>?_,fun i hi j _=>Sb hi⟩
 ·rw [e i hi];exact h.lt i hi
 ·rw [e i oM,e k hk];exact h.mono i k hik hk
 ·rw [e i hi] at hj;exact h.low i hi j hj
 ·rw [e i hi];exact h.one i hi
 ·rw [e i hi];exact h.zero i hi k hk
end
end
section
section
variable {p:Int} {n:Nat} {m E R F:ZA} {f g u v:Nat->Int}
end
end
section
section
variable {p:Int} {n:Nat} {m:ZA}
theorem Akl (x:List Int) (hx:x.length<=1000):Kk x=some ((Rx x:Nat):Int):=by
 unfold Kk;have hle:Rx x<=x.length:=findIdx_le_length
 have h:Aq (fun s_:Nat=>Jk x s_) 4611686018427387904 0=some (Rx x):=by
  refine Bg (Rx x) (fun i=>i) oM _ rfl (fun i hi=>?_) ?_
  ·have h0:=not_of_lt_findIdx hi;have h1:x[i]'oM=0:=by simpa using h0
   try dsimp only
   unfold Jk;rw [Au oM,fZ,gEg (show i<x.length by omega),obs,obs,h1,show ((0:Int)==0)=true from rfl,fZ,Af oM]
  ·unfold Jk;by_cases h:Rx x=x.length
   ·rw [At oM,fY,obs,fY]
   ·have h0:=findIdx_getElem (w:=show Rx x<x.length by omega);rw [Au oM,fZ,gEg (show Rx x<x.length by omega),obs,obs,show ((x[Rx x]'oM)==0)=false from Bool.eq_false_iff.2 (fun e=>bne_iff_ne.1 h0<|fF.1 e),fY]
 rw [h,obs]
def spV (p:Int) (n:Nat) (m:ZA) (c:List Int):Nat->List Int
 | 0=>replicate n 0
 | i+1=>List.zipWith (fun a x=>(a+c.getD i 0*x) % p) (spV p n m c i) (m.getD i [])
theorem Pk {c:List Int} (hp:2<=p) (hm:MatW p n m):∀ i,i<=m.length->VecW p n (spV p n m c i)
 | 0,_=>⟨by simp [spV],fun a ha=>by obtain rfl:=(mem_replicate.1 ha).2;omega⟩
 | i+1,hi=>by
  have h1:=Pk (c:=c) hp hm i oM;have h2:=hm _ (Oe (show i<m.length by omega));refine ⟨by unfold spV;rw [length_zipWith,h1.1,h2.1];omega,fun a ha=>?_⟩;obtain ⟨b,d,rfl⟩:=An5 ha;exact Uj hp
theorem Ap2 {c:List Int} (hp:2<=p/\p<=97) (hm:MatW p n m) (hc:VecW p m.length c) (hn:n<=1000) (hl:m.length<=1000):Lw p (n:Int) m c=some (spV p n m c m.length):=by
 unfold Lw;rw [Af oM,fX]
 have key:Aq (fun s_:Nat×List Int=>Kw m c p s_.1 s_.2) 4611686018427387904 (0,replicate n 0)=some (spV p n m c m.length):=by
  refine Bg m.length (fun i=>(i,spV p n m c i)) oM _ rfl (fun i hi=>?_) ?_
  ·have h1:=Pk (c:=c) hp.1 hm i oM;have h2:=hm _<|getElem_mem hi;have hl1:=h1.1;have hl2:=h2.1;have hcc:=hc.1;have hci:=Pi hc (j:=i) oM
   have hin:Aq (fun s_:Nat×List Int=>K0 m[i] c i p s_.1 s_.2) 4611686018427387904 (0,spV p n m c i)=some (spV p n m c<|i+1):=by
    have hv:=Pk (c:=c) hp.1 hm (i+1) oM;have hvl:=hv.1;refine Yy (y:=spV p n m c<|i+1) oM oM (fun j hj z hz=>?_) ?_
    ·have a1:=Pi h1 hj;have a2:=Pi h2 (j:=j) oM;have a3:=Acm hp hci a2
     try dsimp only
     unfold K0;rw [Au oM,fZ,gEg (show j<m[i].length by omega),obs,hz,obs,gEg (show i<c.length by omega),obs,Af oM,Af oM,Bj (n:=c[i]'oM*m[i][j]'oM) oM oM,Bj oM oM,Int.tmod_eq_emod_of_nonneg oM];congr 4;simp only [spV,getElem_zipWith,Bt<|gEg (show i<c.length by omega),Bt (m:=m) (gEg hi)]
    ·try dsimp only
     unfold K0;rw [At oM,fY]
   try dsimp only
   unfold Kw;rw [Au oM,fZ,gEg hi,obs,hin,obs,Af oM]
  ·try dsimp only
   unfold Kw;rw [At oM,fY]
 rw [key,obs]
theorem Asn {s:ByteArray} {xs:List Nd} {l r:Int} {b:ZA} (hx:xs.length<=1073741824) (hb:b.length<=1048576) (hr:Id 1048576 b) (h:Ed p s xs l r b=some true):N6 p l r b=true:=by
 unfold Ed at h;have ⟨nm,n1,n2⟩:=Anr s;rw [Acz,obs,n2,obs,Aex xs p hx,Sz xs hx,Ad3 p l r b hb hr] at h;cases ht:tyV xs with
 | none=>rw [ht] at h;exact absurd h fS
 | some w =>
  rw [ht,Option.isSome_some,Bool.true_and] at h;dsimp only at h;generalize isF p=a1 at h;generalize J5 p xs=a2 at h;generalize Wx xs=a3 at h;cases hg:N6 p l r b
  ·rw [hg] at h;cases nm <;> cases a1 <;> cases a2 <;> cases a3 <;> exact absurd h fS
  ·rfl
end
end
section
theorem Ae3 {p:Int} (hp:isF p=true):Aa1 p:=fun _ h1 h2=>(Al8 hp ⟨h1,h2⟩).2.2.2.2
theorem S4 {n:Int} (h:0<=n/\n<=1000000):Ec n=some (replicate n.toNat 0):=by
 unfold Ec;rw [Af oM]
def bvT (p:Int) (n:Nat) (R:ZA) (j:Nat):Nat->List Int
 | 0=>(replicate n 0).set j 1
 | i+1=>(bvT p n R j i).set (lv R i) ((p - en R i j) % p)
def ldT (n:Nat) (R:ZA):Nat->List Int
 | 0=>replicate n (-1)
 | i+1=>(ldT n R i).set (lv R i) (i:Int)
def Aa3 (n:Nat) (R:ZA):List Nat:=(range n).filter fun j=> !pvs R.length (lv R) j
def S8 (p:Int) (n:Nat) (R:ZA):ZA:=(Aa3 n R).map fun j=>bvT p n R j R.length
def Om (p:Int) (n:Nat) (m:ZA):ZA:=gj p n (S8 p n (gj p n m))
section
variable {p:Int} {n:Nat} {R m:ZA}
theorem Al2 {pv:Nat->Nat} {i j:Nat}:pvs (i+1) pv j=(pvs i pv j||(pv i==j)):=by simp [pvs,range_succ]
theorem Ajk:∀ i,(ldT n R i).length=n
 | 0=>by simp [ldT]
 | i+1=>by unfold ldT;rw [length_set,Ajk i]
theorem As3 (hlt:∀ i,i<R.length->lv R i<n) {j:Nat} (hj:j<n):∀ i,i<=R.length->∃ v,(ldT n R i)[j]? =some v/\(decide (0<=v)=pvs i (lv R) j)
 | 0,_=>⟨-1,by simp [ldT,hj],rfl⟩
 | i+1,hi=>by
  have ⟨v,h1,h2⟩:=As3 hlt hj i oM;have hl:=Ajk (n:=n) (R:=R) i;by_cases e:lv R i=j
  ·refine ⟨(i:Int),?_,?_⟩
   ·unfold ldT;rw [e,getElem?_set_self oM]
   ·rw [Al2,fF.2 e,Bool.or_true,Au oM]
  ·refine ⟨v,?_,?_⟩
   ·unfold ldT;rw [getElem?_set_ne e];exact h1
   ·rw [Al2,fU.2 e,Bool.or_false];exact h2
theorem Xs {j:Nat}:∀ i,(bvT p n R j i).length=n
 | 0=>by simp [bvT]
 | i+1=>by unfold bvT;rw [length_set,Xs i]
theorem Ary {j:Nat} (hp:2<=p):∀ i,inV p (bvT p n R j i)
 | 0=>fun a ha=>by
  rcases mem_or_eq_of_mem_set ha with ha|rfl
  ·obtain rfl:=(mem_replicate.1 ha).2;omega
  ·omega
 | i+1=>fun a ha=>by
  rcases mem_or_eq_of_mem_set ha with ha|rfl
  ·exact Ary hp i a ha
  ·exact Uj hp
theorem Vf {x:List Int} {i j:Nat} {a:Int} (hi:i<x.length):(x.set i a).getD j 0=if i=j then a else x.getD j 0:=by
 rw [gDg];by_cases e:i=j
 ·subst e;rw [fW rfl,getElem?_set_self hi];rfl
 ·rw [fB e,getElem?_set_ne e,← gDg]
theorem Ap5 {j:Nat} (h:Q9 n R.length R (lv R)):∀ i,i<=R.length->∀ t,t<i->(bvT p n R j i).getD (lv R t) 0=(p - en R t j) % p
 | 0,_,t,ht=>by omega
 | i+1,hi,t,ht=>by
  unfold bvT;rw [Vf (by rw [Xs];exact h.lt i oM)];by_cases e:i=t
  ·subst e;rw [fW rfl]
  ·have:=h.mono t i oM oM;rw [fB oM];exact Ap5 h i oM t oM
theorem Afr {j q:Nat} (h:Q9 n R.length R (lv R)) (hj:j<n):∀ i,i<=R.length->(∀ t,t<i->lv R t≠q)->(bvT p n R j i).getD q 0=if j=q then 1 else 0
 | 0,_,_=>by
  unfold bvT;rw [Vf (by simpa using hj)];by_cases e:j=q
  ·rw [fW e,fW e]
  ·rw [fB e,fB e,gDg,getElem?_replicate];split <;> rfl
 | i+1,hi,hq=>by
  unfold bvT;rw [Vf (by rw [Xs];exact h.lt i oM),fB (hq i oM)];exact Afr h hj i oM fun t ht=>hq t oM
theorem Tp (hp:2<=p):MatW p n (S8 p n R):=fun x hx=>by
 obtain ⟨j,_,rfl⟩:=mem_map.1 hx;exact ⟨Xs _,Ary hp _⟩
theorem Ako:(S8 p n R).length<=n:=by
 unfold S8 Aa3;rw [length_map];exact Nat.le_trans (length_filter_le ..) fS
theorem Awt (hp:2<=p) (h:Q9 n R.length R (lv R)):A0t p n R (lv R) (S8 p n R):=by
 have hb:∀ j,j<n->pvs R.length (lv R) j=false->Cg p ((bvT p n R j R.length).getD j 0) 1/\(∀ i,i<R.length->Cg p ((bvT p n R j R.length).getD (lv R i) 0) (-en R i j))/\∀ q,q<n->q≠j->pvs R.length (lv R) q=false->Cg p ((bvT p n R j R.length).getD q 0) 0:=fun j hj hf=>by
  refine ⟨?_,fun i hi=>?_,fun q _ hne hfq=>?_⟩
  ·rw [Afr h hj _ (fQ _) fun t ht=>Apr hf ht,fW rfl];exact Cg.rf
  ·rw [Ap5 h _ (fQ _) i hi];exact Cg.md.trans ⟨1,by omega⟩
  ·rw [Afr h hj _ (fQ _) fun t ht=>Apr hfq ht,fB (Ne.symm hne)];exact Cg.rf
 have he:∀ t j,(Aa3 n R)[t]? =some j->∀ q,en (S8 p n R) t q=(bvT p n R j R.length).getD q 0:=fun t j ht q=>by
  unfold en S8;rw [Bt (x:=bvT p n R j R.length) (by rw [getElem?_map,ht];rfl)]
 have hl:(S8 p n R).length=(Aa3 n R).length:=length_map ..;refine ⟨fun j hj hf=>?_,fun t ht=>?_⟩
 ·have hm:j∈Aa3 n R:=mem_filter.2 ⟨mem_range.2 hj,by rw [hf];rfl⟩;have ⟨t,ht,e⟩:=getElem_of_mem hm;have h1:(Aa3 n R)[t]? =some j:=by rw [gEg ht,e]
  refine ⟨t,by omega,?_⟩;simp only [he t j h1];exact hb j hj hf
 ·have ⟨j,hj⟩:=Lc (show t<(Aa3 n R).length by omega);have hm:=mem_filter.1<|mem_of_getElem? hj;have hjn:=mem_range.1 hm.1;have hf:pvs R.length (lv R) j=false:=by simpa using hm.2
  refine ⟨j,hjn,hf,?_⟩;simp only [he t j hj];exact hb j hjn hf
theorem As7 {f:Nat->Int} (hp:isF p=true) (hm:MatW p n m):D0 p n (S8 p n (gj p n m)) f↔Qa p n m f:=by
 have hb:=Da hp;have ⟨⟨pv,h1⟩,h2⟩:=Yq hb.1 (Ae3 hp) hm;have h3:=Ag7 h1 (Uz hb.1 hm)<|fQ n;refine (Aqg h3<|Awt hb.1 h3).trans ⟨Aos fun i hi=>(h2 _).2<|De hi,Aos fun i hi=>(h2 _).1<|De hi⟩
theorem Acf {x:Int} (hp:2<=p/\p<=97) (hx:0<=x/\x<p):Fy p x=some ((p - x) % p):=by
 unfold Fy;rw [Af oM,Bj oM oM,Int.tmod_eq_emod_of_nonneg oM]
theorem Ad8 (hp:isF p=true) (hm:MatW p n m) (hn:n<=1000) (hl:m.length<=100000):Ko p (n:Int) m=some (Om p n m):=by
 have hb:=Da hp;have ⟨⟨pv,h1⟩,_⟩:=Yq hb.1 (Ae3 hp) hm;have hRm:=Uz (n:=n) hb.1 hm;have h:=Ag7 h1 hRm<|fQ n
 have hRl:(gj p n m).length<=n:=by
  have:=Aek (k:=n) (u:=id) (fun i j h _=>h) h.mono;refine Nat.le_of_not_lt fun hlt=>?_
  have hge:∀ i,i<(gj p n m).length->i<=lv (gj p n m) i:=by
   intro i
   induction i with
   | zero=>intro _;omega
   | succ i ih=>intro hi;have:=ih oM;have:=h.mono i (i+1) oM hi;omega
  have:=hge n hlt;have:=h.lt n hlt;omega
 unfold Ko Om;rw [Sa hp hm (fQ n) oM hl,obs,Af oM,fX];generalize gj p n m=R at *
 have l1:Aq (fun s_:Nat×List Int=>Jv (n:Int) s_.1 s_.2) 4611686018427387904 (0,replicate n 0)=some (ldT n R 0):=by
  refine Yy (y:=ldT n R 0) (by simp [ldT]) sO (fun j hj z hz=>?_) ?_
  ·simp at hj
   try dsimp only
   unfold Jv;rw [fX,Au oM,fZ,hz,obs,Af oM];simp [ldT]
  ·try dsimp only
   unfold Jv;rw [fX,At fS,fY]
 have hrow:∀ i,i<R.length->R[i]? =some (R.getD i [])/\VecW p n (R.getD i []):=fun i hi=>⟨by rw [gEg hi,Bt (gEg hi)],hRm _<|Oe hi⟩
 have l2:Aq (fun s_:Nat×List Int=>Jp R s_.1 s_.2) 4611686018427387904 (0,ldT n R 0)=some (ldT n R R.length):=by
  refine Bg R.length (fun i=>(i,ldT n R i)) oM _ rfl (fun i hi=>?_) ?_
  ·have ⟨g1,g2⟩:=hrow i hi;have hlt:=h.lt i hi;have ⟨x,hx⟩:=Lc (m:=ldT n R i) (i:=lv R i) (by rw [Ajk];exact hlt)
   try dsimp only
   unfold Jp;rw [Au oM,fZ,g1,obs,Akl _ (by rw [g2.1];exact hn),obs,B9 oM,fX,show (ldT n R i)[Rx (R.getD i [])]? =some x from hx,obs,Af oM];rfl
  ·try dsimp only
   unfold Jp;rw [At oM,fY]
 have l4:∀ j,j<n->Aq (fun s_:Nat×List Int=>J2 R j p s_.1 s_.2) 4611686018427387904 (0,(replicate n 0).set j 1)=some (bvT p n R j R.length):=fun j hj=>by
  refine Bg R.length (fun i=>(i,bvT p n R j i)) oM _ rfl (fun i hi=>?_) ?_
  ·have ⟨g1,g2⟩:=hrow i hi;have hlt:=h.lt i hi;have ⟨q1,q2,q3⟩:=Hg g2 hj;have ⟨x,hx⟩:=Lc (m:=bvT p n R j i) (i:=lv R i) (by rw [Xs];exact hlt)
   try dsimp only
   unfold J2;rw [Au oM,fZ,g1,obs,Akl _ (by rw [g2.1];exact hn),obs,q3,obs,Acf hb ⟨q1,q2⟩,obs,B9 oM,fX,show (bvT p n R j i)[Rx (R.getD i [])]? =some x from hx,obs,Af oM];rfl
  ·try dsimp only
   unfold J2;rw [At oM,fY]
 have l3:Aq (fun s_:Nat×ZA=>Jg (n:Int) (ldT n R R.length) R p s_.1 s_.2) 4611686018427387904 (0,[])=some (S8 p n R):=by
  refine Bg n (fun k=>(k,((range k).filter fun j=> !pvs R.length (lv R) j).map fun j=>bvT p n R j R.length)) oM _ rfl (fun k hk=>?_) ?_
  ·have ⟨v,v1,v2⟩:=As3 h.lt hk R.length<|fQ _
   have hle:(((range k).filter fun j=> !pvs R.length (lv R) j).map fun j=>bvT p n R j R.length).length<=k:=by
    rw [length_map];exact Nat.le_trans (length_filter_le ..) fS
   try dsimp only
   unfold Jg;rw [Au oM,fZ,v1,obs,v2,range_succ,filter_append];cases hc:pvs R.length (lv R) k
   ·rw [fY,Af oM,fX,getElem?_replicate,fW hk,obs,l4 k hk,obs,Af oM,obs,Af oM];simp [hc]
   ·rw [fZ,obs,Af oM];simp [hc]
  ·try dsimp only
   unfold Jg;rw [At oM,fY];rfl
 rw [l1,obs,l2,obs,l3,obs,Sa hp (Tp hb.1) (fQ n) oM<|Nat.le_trans Ako oM,obs]
def trV (m:ZA) (n:Nat):ZA:=(range n).map fun j=>m.map fun x=>x.getD j 0
def unV (n k:Nat):List Int:=(replicate n 0).set k 1
def idV (n:Nat):ZA:=(range n).map (unV n)
theorem Apm {k:Nat} (hk:k<n) (hn:n<=1000):Ln (n:Int) (k:Int)=some (unV n k):=by
 unfold Ln;rw [S4 oM,obs,B9 oM,fX,fX,getElem?_replicate,fW hk,obs];rfl
theorem Adi (hn:n<=1000):Gh (n:Int)=some (idV n):=by
 unfold Gh
 have key:Aq (fun s_:Nat×ZA=>E7 (n:Int) s_.1 s_.2) 4611686018427387904 (0,[])=some (idV n):=by
  refine Bg n (fun k=>(k,(range k).map<|unV n)) oM _ rfl (fun k hk=>?_) ?_
  ·try dsimp only
   unfold E7;rw [Au oM,fZ,Apm hk hn,obs,Af sO,Af oM,range_succ,map_append];rfl
  ·try dsimp only
   unfold E7;rw [At oM,fY];rfl
 rw [key,obs]
theorem Ab6 {k:Nat} (hp:2<=p):VecW p n (unV n k):=⟨by simp [unV],fun a ha=>by
 rcases mem_or_eq_of_mem_set ha with ha|rfl
 ·obtain rfl:=(mem_replicate.1 ha).2;omega
 ·omega⟩
theorem Anc {k j:Nat} (hk:k<n):(unV n k).getD j 0=if j=k then 1 else 0:=by
 unfold unV;rw [Vf (by simpa using hk)];by_cases e:k=j
 ·rw [fW e,fW e.symm]
 ·rw [fB e,fB<|Ne.symm e,gDg,getElem?_replicate];split <;> rfl
def wiV (m:ZA) (n:Nat):ZA:=(range n).map fun j=>(m.map fun x=>x.getD j 0)++unV n j
theorem Aqs (hp:isF p=true) (hm:MatW p n m) (hn:n<=1000) (hl:m.length<=1000):Kj p (trV m n) (m.length:Int)=some (Om p n m):=by
 have hb:=Da hp;have hwl:(wiV m n).length=n:=by simp [wiV]
 have hcol:∀ j,VecW p m.length (m.map fun x=>x.getD j 0):=fun j=>⟨by simp,fun a ha=>by
  obtain ⟨x,hx,rfl⟩:=mem_map.1 ha;by_cases hj:j<n
  ·have ⟨q1,q2,_⟩:=Hg (hm x hx) hj;exact ⟨q1,q2⟩
  ·have:=(hm x hx).1;rw [gDg,getElem?_eq_none oM];simp;omega⟩
 have hW:MatW p (m.length+n) (wiV m n):=fun x hx=>by
  obtain ⟨j,_,rfl⟩:=mem_map.1 hx;refine ⟨by rw [length_append,(hcol j).1,(Ab6 (k:=j) (n:=n) hb.1).1],fun a ha=>?_⟩;rcases mem_append.1 ha with ha|ha
  ·exact (hcol j).2 a ha
  ·exact (Ab6 hb.1).2 a ha
 have e1:rdW m.length (wiV m n)=trV m n:=by
  unfold rdW wiV trV;rw [map_map];exact map_congr_left fun j _=>take_left' fS
 have e2:alW m.length (wiV m n)=idV n:=by
  unfold alW wiV idV;rw [map_map];exact map_congr_left fun j _=>drop_left' fS
 have ⟨g1,g2,g3⟩:=Mr hb.1 hW m.length;have hred:=Abc hp hW (fQ m.length) (show m.length<=m.length+n by omega) oM oM;rw [e1,e2] at hred
 have hmat:MatW p n (((gjT p (wiV m n) m.length).2.drop (gjT p (wiV m n) m.length).1).map (·.drop m.length)):=fun x hx=>by
  obtain ⟨y,hy,rfl⟩:=mem_map.1 hx;have:=(g1 y<|mem_of_mem_drop hy).dr (u:=m.length)
  rwa [Nat.add_sub_cancel_left] at this
 have hdr:(alW m.length (gjT p (wiV m n) m.length).2).drop (gjT p (wiV m n) m.length).1=((gjT p (wiV m n) m.length).2.drop (gjT p (wiV m n) m.length).1).map (·.drop m.length):=by
  unfold alW;rw [map_drop]
 have htm:MatW p m.length (trV m n):=fun x hx=>by
  obtain ⟨j,_,rfl⟩:=mem_map.1 hx;exact hcol j
 have htl:(trV m n).length=n:=by simp [trV]
 have hil:(idV n).length=n:=by simp [idV]
 have key:gj p n (((gjT p (wiV m n) m.length).2.drop (gjT p (wiV m n) m.length).1).map (·.drop m.length))=Om p n m:=by
  refine Awu hb.1 (Ae3 hp) hmat (Tp hb.1) fun f=>?_
  refine (Ars (A:=m) hb.1 (Ae3 hp) hW hwl rfl (fun t ht i hi=>?_) fun t ht j hj=>?_).trans (As7 hp hm).symm
  ·unfold en;have h1:(wiV m n)[t]? =some ((m.map fun x=>x.getD t 0)++unV n t):=by simp [wiV,ht]
   rw [Bt h1,gDg,getElem?_append_left (by simpa using hi),getElem?_map,gEg hi,Bt (m:=m) (gEg hi)];rfl
  ·unfold en;have h1:(wiV m n)[t]? =some ((m.map fun x=>x.getD t 0)++unV n t):=by simp [wiV,ht]
   rw [Bt h1,gDg,getElem?_append_right fS,length_map,Nat.add_sub_cancel_left,← gDg,Anc ht]
 unfold Kj;rw [Adp htm oM oM,obs,htl,Adi hn,obs,hred,obs];have a1:(rdW m.length (gjT p (wiV m n) m.length).2).length=n:=by simp only [rdW,length_map];omega
 have a2:(alW m.length (gjT p (wiV m n) m.length).2).length=(idV n).length:=by simp only [alW,length_map];omega
 dsimp only;rw [Af a1,Af a2,Af oM,hdr,Zo hp hmat oM sO,obs,key]
theorem A0d (hm:MatW p n m):trV (trV m n) m.length=m:=by
 refine ext_getElem (by simp [trV]) fun i h1 h2=>?_
 have hx:=hm _<|getElem_mem h2;simp only [trV,getElem_map,getElem_range,map_map];refine ext_getElem (by simp [hx.1]) fun j h3 h4=>?_
 simp only [length_map,length_range] at h3;simp only [getElem_map,getElem_range,Function.comp_apply,gDg,getElem?_map,gEg h2,gEg h4,Option.map_some,Option.getD_some]
theorem Az9 (hm:MatW p n m):MatW p m.length (trV m n):=fun x hx=>by
 obtain ⟨j,hj,rfl⟩:=mem_map.1 hx;refine ⟨by simp,fun a ha=>?_⟩;obtain ⟨y,hy,rfl⟩:=mem_map.1 ha;have:=Hg (hm y hy) (mem_range.1 hj);exact ⟨this.1,this.2.1⟩
theorem Asp:(trV m n).length=n:=by simp [trV]
theorem Avj (hp:isF p=true) (hm:MatW p n m) (hn:n<=1000) (hl:m.length<=1000):Kj p m (n:Int)=some (Om p m.length (trV m n)):=by
 have:=Aqs (m:=trV m n) (n:=m.length) hp (Az9 hm) hl (by rw [Asp];exact hn)
 rwa [A0d hm,Asp] at this
end
end
section
section
variable {p:Int} {la mi rb:Nat} {A B:ZA}
theorem Ao1 {l r l' r':Int} {m m':ZA} {n la:Nat} (hm:MatW p n m) (hl:m.length<=1000) (hla:(la:Int)=l') (hn:la<=n):Bi l r m l' r' m'=some (m.map (·.drop la)):=by
 subst hla;unfold Bi;rw [Dh m (·.drop la) [] oM (m.map (·.drop la)) (fun i x hx=>?_) ?_,obs]
 rotate_left
 ·have hi:=Ai hx;have hxl:=(hm x<|mem_of_getElem? hx).1
  try dsimp only
  unfold Bu Bp;rw [Au oM,fZ,hx,obs,Af oM,obs];simp only [fX];rw [Af sO,Af oM]
 ·try dsimp only
  unfold Bu;rw [At oM,fY,nil_append]
theorem Ape {l r l' r':Int} {m m':ZA} {n la:Nat} (hm:MatW p n m) (hl:m.length<=1000) (hla:(la:Int)=l') (hn:la<=n):Bk l r m l' r' m'=some (m.map (·.take la)):=by
 subst hla;unfold Bk;rw [Dh m (·.take la) [] oM (m.map (·.take la)) (fun i x hx=>?_) ?_,obs]
 rotate_left
 ·have hi:=Ai hx;have hxl:=(hm x<|mem_of_getElem? hx).1
  try dsimp only
  unfold Bx Bs;rw [Au oM,fZ,hx,obs,Af oM,obs];simp only [fX];rw [Af sO,Af oM]
 ·try dsimp only
  unfold Bx;rw [At oM,fY,nil_append]
def Th (p:Int) (x:List Int):List Int:=x.map fun a=>(p - a) % p
theorem Apv {x:List Int} {n:Nat} (hp:2<=p) (h:x.length=n):VecW p n (Th p x):=⟨by simp [Th,h],fun a ha=>by obtain ⟨b,_,rfl⟩:=mem_map.1 ha;exact Uj hp⟩
theorem Asr {x:List Int} {n:Nat} (hp:2<=p/\p<=97) (hx:VecW p n x) (hn:n<=1000):Cx p (replicate n 0) (-1) x=some (Th p x):=by
 have hl:=hx.1;unfold Cx;refine Yy (x:=replicate n 0) (y:=Th p x) (by simp [Th];omega) sO (fun j hj z hz=>?_) ?_
 ·rw [length_replicate] at hj;have h1:=Pi hx (j:=j) oM
  try dsimp only
  unfold Dc;rw [Au oM,fZ,gEg (show j<x.length by omega),obs,hz,obs];simp only [getElem_replicate];rw [Bj (n:= -1*x[j]) oM oM,Bj oM oM,Ata hp,obs,Af oM]
  have e:(0+ -1*x[j]) % p=(Th p x)[j]'(by simp [Th];omega):=by
   simp only [Th,getElem_map];rw [show (0+ -1*x[j])= -x[j] by omega,show p - x[j]= -x[j]+p by omega,Int.add_emod_right]
  rw [e]
 ·try dsimp only
  unfold Dc;rw [length_replicate] at *;rw [At oM,fY]
theorem Aue {x v:List Int} {f:Int} {n:Nat} (hp:2<=p/\p<=97) (hx:VecW p n x) (hv:VecW p n v) (hn:n<=1000) (hf:0<=f/\f<p):Cx p x f v=some (List.zipWith (fun a b=>(a+f*b) % p) x v):=by
 have hl:=hx.1;have hl':=hv.1;unfold Cx;refine Yy (y:=List.zipWith (fun a b=>(a+f*b) % p) x v) sO oM (fun j hj z hz=>?_) ?_
 ·have h1:=Pi hx hj;have h2:=Pi hv (j:=j) oM;have h3:=Acm hp hf h2
  try dsimp only
  unfold Dc;rw [Au oM,fZ,gEg (show j<v.length by omega),obs,hz,obs,Bj (n:=f*v[j]) oM oM,Bj oM oM,Ata hp,obs,Af oM,getElem_zipWith]
 ·try dsimp only
  unfold Dc;rw [At oM,fY]
theorem Agu {m:ZA} {c:List Int} {n:Nat} (hp:2<=p/\p<=97) (hm:MatW p n m) (hc:VecW p m.length c) (hn:n<=1000) (hl:m.length<=1000):I2 p c m (n:Int)=some (spV p n m c m.length):=by
 unfold I2;rw [S4 oM,obs,fX];rw [Bg (s0:=(0,replicate n 0)) m.length (fun i=>(i,spV p n m c i)) oM (spV p n m c m.length) rfl (fun i hi=>?_) ?_,obs]
 rotate_left
 ·have h1:=Pk (c:=c) hp.1 hm i oM;have h3:=Pk (c:=c) hp.1 hm (i+1) oM;have h2:=hm _<|getElem_mem hi;have hcc:=hc.1;have hci:=Pi hc (j:=i) oM
  try dsimp only
  unfold L9;rw [Au oM,fZ,gEg hi,obs,gEg (show i<c.length by omega),obs,Aue hp h1 h2 hn hci,obs]
  have e:List.zipWith (fun a b=>(a+c[i]'oM*b) % p) (spV p n m c i) m[i]=spV p n m c (i+1):=by
   simp only [spV,Bt<|gEg (show i<c.length by omega),Bt (m:=m) (gEg hi)]
  rw [e,Af (by rw [h1.1,h3.1]),Af oM]
 ·try dsimp only
  unfold L9;rw [At oM,fY]
theorem Aok {m:ZA} {c:List Int} {n k:Nat} (hk:k<=n):∀ i,(spV p n m c i).take k=spV p k (m.map (·.take k)) c i
 | 0=>by simp [spV,take_replicate,Nat.min_eq_left hk]
 | i+1=>by simp only [spV,take_zipWith,Aok hk i,Ux (f:=fun x:List Int=>x.take k) fS]
theorem Aph {m:ZA} {c:List Int} {n k:Nat}:∀ i,(spV p n m c i).drop k=spV p (n - k) (m.map (·.drop k)) c i
 | 0=>by simp [spV]
 | i+1=>by simp only [spV,drop_zipWith,Aph i,Ux (f:=fun x:List Int=>x.drop k) fS]
theorem Al6 (xs:ZA) (h:xs.length<=100) (hl:∀ k,((xs.take k).flatten).length<=100000):Dl xs=some xs.flatten:=by
 unfold Dl;rw [Bg (s0:=(0,[])) xs.length (fun i=>(i,(xs.take i).flatten)) oM xs.flatten rfl (fun i hi=>?_) ?_,obs]
 rotate_left
 ·have hx:=gEg hi;have h2:=hl<|i+1;rw [take_add_one,hx,flatten_append,length_append] at h2;simp only [Option.toList,flatten_cons,flatten_nil,append_nil] at h2
  try dsimp only
  unfold M5;rw [Au oM,fZ,hx,obs,Af oM,Af oM,take_add_one,hx,flatten_append];simp
 ·try dsimp only
  unfold M5;rw [At oM,fY,take_length]
theorem Agk (x y:List Int) (h:x.length+y.length<=100000):Dl [x,y]=some (x++y):=by
 rw [Al6 _ fS (fun k=>?_)]
 ·simp
 ·have h1:((([x,y].take k).flatten).length)<=(([x,y]:ZA).flatten).length:=by
   conv=>rhs;rw [← take_append_drop k [x,y],flatten_append,length_append]
   omega
  simp only [flatten_cons,flatten_nil,length_append,length_nil] at h1;omega
def Aac (p:Int) (la mi:Nat) (A B:ZA):ZA:=trV (A.map (·.drop la)++B.map fun x=>Th p (x.take mi)) mi
def Ai0 (p:Int) (la mi rb:Nat) (A B:ZA) (c:List Int):List Int:=spV p la (A.map (·.take la)) (c.take A.length) A.length++spV p rb (B.map (·.drop mi)) (c.drop A.length) B.length
def Az3 (p:Int) (la mi rb:Nat) (A B:ZA):ZA:=gj p (la+rb) ((Om p (A.length+B.length) (Aac p la mi A B)).map (Ai0 p la mi rb A B))
theorem Avu (hp:2<=p) (hA:MatW p (la+mi) A) (hB:MatW p (mi+rb) B):MatW p mi (A.map (·.drop la)++B.map fun x=>Th p (x.take mi)):=by
 intro x hx;rcases mem_append.1 hx with h|h
 ·have:=(MatW.dr (u:=la) hA) x h
  rwa [Nat.add_sub_cancel_left] at this
 ·obtain ⟨y,hy,rfl⟩:=mem_map.1 h;exact Apv hp (by rw [length_take,(hB y hy).1];omega)
theorem Ah0 {n:Nat} {m:ZA} (hp:2<=p):MatW p n (Om p n m):=Uz hp (Tp hp)
theorem Aic {n:Nat} {m:ZA} (hp:2<=p):(Om p n m).length<=n:=by
 unfold Om;have h:=Mr (p:=p) hp (Tp (n:=n) (R:=gj p n m) hp) n;rw [Ahv hp (Tp hp)];exact Nat.le_trans h.2.1 (by rw [h.2.2];exact Ako)
theorem Pn {l r:Nat} {m:ZA} (hp:isF p=true) (hm:MatW p (l+r) m) (hw:l+r<=1000) (hl:m.length<=100000):B5 p (l:Int) (r:Int) m=some ((l:Int),(r:Int),gj p (l+r) m):=by
 unfold B5;rw [Bj oM oM,show ((l:Int)+(r:Int))=((l+r:Nat):Int) by omega,Zo hp hm oM hl,obs]
theorem Ajl {l r:Nat} {m:ZA} (hp:isF p=true) (hm:MatW p (l+r) m) (hw:l+r<=1000) (hl:m.length<=100000):Lm p (l:Int) (r:Int) m=some ((l:Int),(r:Int),gj p (l+r) m):=by
 unfold Lm;rw [Bj oM oM,show ((l:Int)+(r:Int))=((l+r:Nat):Int) by omega,Sa hp hm (fQ _) oM hl,obs]
theorem Anh {c:List Int} (hp:2<=p) (hA:MatW p (la+mi) A) (hB:MatW p (mi+rb) B):VecW p (la+rb) (Ai0 p la mi rb A B c):=by
 have h1:=Pk (c:=c.take A.length) hp (MatW.tk hA<|Nat.le_add_right la mi) (A.map (·.take la)).length<|fQ _;have h2:=Pk (c:=c.drop A.length) hp (MatW.dr (u:=mi) hB) (B.map (·.drop mi)).length<|fQ _;rw [Nat.add_sub_cancel_left] at h2;rw [length_map] at h1 h2;refine ⟨by unfold Ai0;rw [length_append,h1.1,h2.1],fun a ha=>?_⟩;rcases mem_append.1 ha with h|h
 ·exact h1.2 a h
 ·exact h2.2 a h
theorem Amn (hp:isF p=true) (hA:MatW p (la+mi) A) (hB:MatW p (mi+rb) B) (hla:la+mi<=100) (hrb:mi+rb<=100) (lA:A.length<=100) (lB:B.length<=100) :
  Hq p (la:Int) (mi:Int) A (mi:Int) (rb:Int) B=some ((la:Int),(rb:Int),Az3 p la mi rb A B):=by
 have hb:=Da hp;have hM:=Avu hb.1 hA hB;unfold Hq;rw [Ao1 hA oM rfl oM,obs,Ape hB oM rfl oM,obs];rw [Dh (B.map (·.take mi)) (Th p) (A.map (·.drop la)) (by rw [length_map];omega) (A.map (·.drop la)++B.map fun x=>Th p<|x.take mi) (fun i x hx=>?_) ?_,obs]
 ·rw [Ape hA oM rfl oM,obs,Ao1 hB oM rfl oM,obs,Avj hp hM oM sO,obs];have hN:=Ah0 (p:=p) (n:=A.length+B.length) (m:=Aac p la mi A B) hb.1;have hNl:=Aic (p:=p) (n:=A.length+B.length) (m:=Aac p la mi A B) hb.1
  have e0:Om p (A.map (·.drop la)++B.map fun x=>Th p<|x.take mi).length (trV (A.map (·.drop la)++B.map fun x=>Th p<|x.take mi) mi)=Om p (A.length+B.length) (Aac p la mi A B):=by
   rw [length_append,length_map,length_map];rfl
  rw [e0];rw [Dh (Om p (A.length+B.length)<|Aac p la mi A B) (Ai0 p la mi rb A B) [] oM ((Om p (A.length+B.length)<|Aac p la mi A B).map<|Ai0 p la mi rb A B) (fun i x hx=>?_) ?_,obs,Pn hp (fun y hy=>by obtain ⟨c,_,rfl⟩:=mem_map.1 hy;exact Anh hb.1 hA hB) oM (by rw [length_map];omega),obs]
  ·rfl
  rotate_left
  ·have hi:=Ai hx;have hxv:=hN x<|mem_of_getElem? hx;have hxl:=hxv.1;have hF:=MatW.tk hA<|Nat.le_add_right la mi;have hS:=MatW.dr (u:=mi) hB;rw [Nat.add_sub_cancel_left] at hS;have h1:=Pk (c:=x.take A.length) hb.1 hF (A.map (·.take la)).length<|fQ _;have h2:=Pk (c:=x.drop A.length) hb.1 hS (B.map (·.drop mi)).length<|fQ _
   try dsimp only
   unfold Lj;rw [Au oM,fZ,hx,obs,length_map,Af oM];rw [Agu hb hF (by rw [length_map];exact hxv.tk oM) oM (by rw [length_map];omega),obs,Af oM];rw [Agu hb hS (by rw [length_map];have:=hxv.dr (u:=A.length);rwa [Nat.add_sub_cancel_left] at this) oM (by rw [length_map];omega),obs];rw [Agk _ _ (by rw [h1.1,h2.1];omega),obs,Af sO,Af oM];simp only [length_map,Ai0]
  ·try dsimp only
   unfold Lj;rw [At oM,fY,nil_append]
 rotate_left
 ·have hi:=Ai hx;rw [length_map] at hi;have hxv:=(MatW.tk hB<|Nat.le_add_right mi rb) x<|mem_of_getElem? hx;have hn:=(Apv (p:=p) hb.1 hxv.1).1
  try dsimp only
  unfold K8;rw [length_map,Au oM,fZ,hx,obs,hxv.1,S4 oM,obs,fX,Asr hb hxv oM,obs,Af (by rw [length_replicate,hn]),Af sO,Af oM]
 ·try dsimp only
  unfold K8;rw [length_map,At oM,fY,map_map];rfl
end
end
section
section
variable {p:Int} {la mi rb:Nat} {A B:ZA}
def Adk (p:Int) (la:Nat) (A B:ZA) (j:Nat):List Int:=(A.map fun x=>x.getD (la+j) 0)++B.map fun x=>(p - x.getD j 0) % p
theorem Avc {x:List Int} {j:Nat} (h:j<x.length):(Th p x).getD j 0=(p - x.getD j 0) % p:=by
 unfold Th;rw [gDg,getElem?_map,gDg,gEg h];rfl
theorem Aso (hA:MatW p (la+mi) A) (hB:MatW p (mi+rb) B):Aac p la mi A B=(range mi).map (Adk p la A B):=by
 unfold Aac trV;refine map_congr_left fun j hj=>?_
 have hj:=mem_range.1 hj;unfold Adk;rw [map_append,map_map,map_map];congr 1
 ·refine map_congr_left fun x _=>?_
  show (x.drop la).getD j 0=_;rw [gDg,gDg,getElem?_drop]
 ·refine map_congr_left fun x hx=>?_
  have hxl:=(hB x hx).1;show (Th p<|x.take mi).getD j 0=_;rw [Avc (by rw [length_take];omega),gDg,getElem?_take,fW hj,← gDg]
theorem Aal {α:Type} {R:List α} {j:Nat} {x y:α}:(R.set j x).set j y=R.set j y:=set_set ..
theorem Ayr {R:ZA} {j:Nat} (hA:MatW p (la+mi) A) (hj:j<mi) (hR:R[j]? =some []) (hla:la+mi<=100) (lA:A.length<=100) :
  Aq (fun s_:Nat×ZA=>Gp A j (la:Int) s_.1 s_.2) 4611686018427387904 (0,R)=some (R.set j (A.map fun x=>x.getD (la+j) 0)):=by
 have hjl:j<R.length:=Ai hR;refine Bg A.length (fun i=>(i,R.set j ((A.take i).map fun x=>x.getD (la+j) 0))) oM _ ?_ (fun i hi=>?_) ?_
 ·have:R.set j []=R:=by
   have e:=(gSi.1 hR)
   have ⟨h1,h2⟩:=e
   conv=>lhs;rw [← h2]
   exact set_getElem_self h1
  simp [this]
 ·have hx:=gEg hi;have hxv:=hA _<|getElem_mem hi;have hg:=Hg hxv (j:=la+j) oM
  try dsimp only
  unfold Gp;rw [Au oM,fZ,hx,obs,getElem?_set_self hjl,obs,Bj oM oM,B9 oM,show ((la:Int)+(j:Int)).toNat=la+j by omega,hg.2.2,obs,Af sO,Af oM,Aal,take_add_one,hx,map_append];rfl
 ·try dsimp only
  unfold Gp;rw [At oM,fY,take_length]
theorem Az7 {R:ZA} {j:Nat} {x0:List Int} (hp:2<=p/\p<=97) (hB:MatW p (mi+rb) B) (hj:j<mi) (hR:R[j]? =some x0) (h0:x0.length<=1000) (lB:B.length<=100) :
  Aq (fun s_:Nat×ZA=>Gl B j p s_.1 s_.2) 4611686018427387904 (0,R)=some (R.set j (x0++B.map fun x=>(p - x.getD j 0) % p)):=by
 have hjl:j<R.length:=Ai hR;refine Bg B.length (fun i=>(i,R.set j (x0++(B.take i).map fun x=>(p - x.getD j 0) % p))) oM _ ?_ (fun i hi=>?_) ?_
 ·have:R.set j x0=R:=by
   have ⟨h1,h2⟩:=(gSi.1 hR)
   conv=>lhs;rw [← h2]
   exact set_getElem_self h1
  simp [this]
 ·have hx:=gEg hi;have hxv:=hB _<|getElem_mem hi;have hg:=Hg hxv (j:=j) oM
  try dsimp only
  unfold Gl;rw [Au oM,fZ,hx,obs,getElem?_set_self hjl,obs,hg.2.2,obs,Acf hp ⟨hg.1,hg.2.1⟩,obs,Af sO,Af oM,Aal,take_add_one,hx,map_append,← append_assoc];rfl
 ·try dsimp only
  unfold Gl;rw [At oM,fY,take_length]
theorem Akd (hp:isF p=true) (hA:MatW p (la+mi) A) (hB:MatW p (mi+rb) B) (hla:la+mi<=100) (hrb:mi+rb<=100) (lA:A.length<=100) (lB:B.length<=100) {x:Int} :
  Gt p (la:Int) (mi:Int) A x (rb:Int) B=some ((la:Int),(rb:Int),Az3 p la mi rb A B):=by
 have hb:=Da hp;unfold Gt;rw [Af oM,fX];rw [Bg (s0:=(0,replicate mi [])) mi (fun j=>(j,((range mi).map<|Adk p la A B).take j++replicate (mi - j) [])) oM ((range mi).map<|Adk p la A B) fS (fun j hj=>?_) ?_,obs]
 ·rw [Bj oM oM,show ((A.length:Nat):Int)+((B.length:Nat):Int)=((A.length+B.length:Nat):Int) by omega]
  have hmm:MatW p (A.length+B.length) ((range mi).map<|Adk p la A B):=fun y hy=>by
   obtain ⟨j,hj,rfl⟩:=mem_map.1 hy;have hj:=mem_range.1 hj;refine ⟨by simp [Adk],fun a ha=>?_⟩;rcases mem_append.1 ha with h|h
   ·obtain ⟨x,hx,rfl⟩:=mem_map.1 h;have:=Hg (hA x hx) (j:=la+j) oM;exact ⟨this.1,this.2.1⟩
   ·obtain ⟨x,hx,rfl⟩:=mem_map.1 h;exact Uj hb.1
  rw [Ad8 hp hmm oM sO,obs,← Aso hA hB];have hN:=Ah0 (p:=p) (n:=A.length+B.length) (m:=Aac p la mi A B) hb.1;have hNl:=Aic (p:=p) (n:=A.length+B.length) (m:=Aac p la mi A B) hb.1;rw [Dh (Om p (A.length+B.length)<|Aac p la mi A B) (Ai0 p la mi rb A B) [] oM ((Om p (A.length+B.length)<|Aac p la mi A B).map<|Ai0 p la mi rb A B) (fun i x hx=>?_) ?_,obs,Ajl hp (fun y hy=>by obtain ⟨c,_,rfl⟩:=mem_map.1 hy;exact Anh hb.1 hA hB) oM (by rw [length_map];omega),obs]
  ·rfl
  rotate_left
  ·have hi:=Ai hx;have hxv:=hN x<|mem_of_getElem? hx;have hxl:=hxv.1;have h1:=Pk (c:=x.take A.length) hb.1 hA A.length<|fQ _;have h2:=Pk (c:=x.drop A.length) hb.1 hB B.length<|fQ _
   try dsimp only
   unfold Kb;rw [Au oM,fZ,hx,obs,Af oM,Bj (n:=(la:Int)+(mi:Int)) oM oM,show ((la:Int)+(mi:Int))=((la+mi:Nat):Int) by omega];rw [Ap2 hb hA (hxv.tk oM) oM oM,obs,Af oM,Bj (n:=(mi:Int)+(rb:Int)) oM oM,show ((mi:Int)+(rb:Int))=((mi+rb:Nat):Int) by omega];rw [Ap2 hb hB (by have:=hxv.dr (u:=A.length);rwa [Nat.add_sub_cancel_left] at this) oM oM,obs,h1.1,h2.1,Af oM,fX,fX,Yh _ (by rw [length_take,h1.1];omega),obs,Af oM];have e1:(spV p (la+mi) A (x.take A.length) A.length).take la=spV p la (A.map (·.take la)) (x.take A.length) A.length:=Aok oM _
   have e2:((spV p (mi+rb) B (x.drop A.length) B.length).drop mi).take ((((mi+rb:Nat):Int) - (mi:Int)).toNat)=spV p rb (B.map (·.drop mi)) (x.drop A.length) B.length:=by
    rw [take_of_length_le (by rw [length_drop,h2.1];omega),Aph,Nat.add_sub_cancel_left]
   have l1:(spV p la (A.map (·.take la)) (x.take A.length) A.length).length=la:=by rw [← e1,length_take,h1.1];omega
   have l2:(spV p rb (B.map (·.drop mi)) (x.drop A.length) B.length).length=rb:=by rw [← e2,length_take,length_drop,h2.1];omega
   rw [e1,e2,l1,l2,Af oM,Af sO,Af oM];rfl
  ·try dsimp only
   unfold Kb;rw [At oM,fY,nil_append]
 rotate_left
 ·have hr:((range mi).map<|Adk p la A B).length=mi:=by simp
  have hg:(((range mi).map<|Adk p la A B).take j++replicate (mi - j) [])[j]? =some []:=by
   rw [getElem?_append_right (by rw [length_take,hr];omega),length_take,hr,Nat.min_eq_left oM,Nat.sub_self,getElem?_replicate,fW oM]
  have hjl:=Ai hg
  try dsimp only
  unfold J9;rw [fX,Au oM,fZ,Ayr hA hj hg hla lA,obs,Az7 (x0:=A.map fun x=>x.getD (la+j) 0) hb hB hj (getElem?_set_self hjl) (by rw [length_map];omega) lB,obs,Af oM,Aal]
  have e:(((range mi).map<|Adk p la A B).take j++replicate (mi - j) []).set j (Adk p la A B j)=((range mi).map<|Adk p la A B).take (j+1)++replicate (mi - (j+1)) []:=by
   rw [set_append_right _ _ (by rw [length_take,hr];omega),length_take,hr,Nat.min_eq_left oM,Nat.sub_self,show mi - j=(mi - (j+1))+1 by omega,replicate_succ,set_cons_zero,take_add_one,getElem?_map,getElem?_range hj];simp
  rw [← e];rfl
 ·try dsimp only
  unfold J9;rw [fX,At oM,fY,Nat.sub_self,replicate_zero,append_nil,take_of_length_le fS]
end
end
section
theorem Ahc (a b c d:List Int) (h:a.length+b.length+c.length+d.length<=100000):Dl [a,b,c,d]=some (a++(b++(c++d))):=by
 rw [Al6 _ fS (fun k=>?_)]
 ·simp
 ·have h1:((([a,b,c,d].take k).flatten).length)<=(([a,b,c,d]:ZA).flatten).length:=by
   conv=>rhs;rw [← take_append_drop k [a,b,c,d],flatten_append,length_append]
   omega
  simp only [flatten_cons,flatten_nil,length_append,length_nil] at h1;omega
section
variable {p:Int} {la ra lb rb:Nat} {A B:ZA}
def Uo (la lb rb:Nat) (x:List Int):List Int:=x.take la++(replicate lb 0++(x.drop la++replicate rb 0))
def V4 (la ra lb:Nat) (x:List Int):List Int:=replicate la 0++(x.take lb++(replicate ra 0++x.drop lb))
def Ayx (p:Int) (la ra lb rb:Nat) (A B:ZA):ZA:=gj p ((la+lb)+(ra+rb)) (A.map (Uo la lb rb)++B.map (V4 la ra lb))
theorem Ab7 {n:Nat} (hp:2<=p):inV p (replicate n 0):=fun a ha=>by obtain rfl:=(mem_replicate.1 ha).2;omega
theorem Au4 {x:List Int} (hp:2<=p) (hx:VecW p (la+ra) x):VecW p ((la+lb)+(ra+rb)) (Uo la lb rb x):=by
 refine ⟨by simp [Uo,hx.1];omega,fun a ha=>?_⟩;simp only [Uo,mem_append] at ha;rcases ha with h|h|h|h
 ·exact hx.2 a<|mem_of_mem_take h
 ·exact Ab7 hp a h
 ·exact hx.2 a<|mem_of_mem_drop h
 ·exact Ab7 hp a h
theorem At2 {x:List Int} (hp:2<=p) (hx:VecW p (lb+rb) x):VecW p ((la+lb)+(ra+rb)) (V4 la ra lb x):=by
 refine ⟨by simp [V4,hx.1];omega,fun a ha=>?_⟩;simp only [V4,mem_append] at ha;rcases ha with h|h|h|h
 ·exact Ab7 hp a h
 ·exact hx.2 a<|mem_of_mem_take h
 ·exact Ab7 hp a h
 ·exact hx.2 a<|mem_of_mem_drop h
theorem Aje (hp:2<=p) (hA:MatW p (la+ra) A) (hB:MatW p (lb+rb) B):MatW p ((la+lb)+(ra+rb)) (A.map (Uo la lb rb)++B.map (V4 la ra lb)):=by
 intro x hx;rcases mem_append.1 hx with h|h
 ·obtain ⟨y,hy,rfl⟩:=mem_map.1 h;exact Au4 hp<|hA y hy
 ·obtain ⟨y,hy,rfl⟩:=mem_map.1 h;exact At2 hp<|hB y hy
theorem Atb (hp:isF p=true) (hA:MatW p (la+ra) A) (hB:MatW p (lb+rb) B) (hla:la+ra<=100) (hlb:lb+rb<=100) (lA:A.length<=100) (lB:B.length<=100) :
  Ke p (la:Int) (ra:Int) A (lb:Int) (rb:Int) B=some (((la+lb:Nat):Int),((ra+rb:Nat):Int),Ayx p la ra lb rb A B):=by
 have hb:=Da hp
 have e1:Bw (la:Int) (ra:Int) A (la:Int) (ra:Int) A (lb:Int) (rb:Int) B=some (A.map<|Uo la lb rb):=by
  unfold Bw;rw [Dh A (Uo la lb rb) [] oM (A.map<|Uo la lb rb) (fun i x hx=>?_) ?_,obs]
  rotate_left
  ·have hi:=Ai hx;have hxv:=hA x<|mem_of_getElem? hx;have hxl:=hxv.1
   try dsimp only
   unfold Ci Oi Bs Bp;rw [Au oM,fZ,hx,obs,Af oM,obs,S4 oM,obs,Af oM,obs,S4 oM,obs];simp only [fX];rw [Ahc _ _ _ _ sO,obs,obs,Af sO,Af oM];rfl
  ·try dsimp only
   unfold Ci;rw [At oM,fY,nil_append]
 have e2:Bv (lb:Int) (rb:Int) B (la:Int) (ra:Int) A (lb:Int) (rb:Int) B=some (B.map<|V4 la ra lb):=by
  unfold Bv;rw [Dh B (V4 la ra lb) [] oM (B.map<|V4 la ra lb) (fun i x hx=>?_) ?_,obs]
  rotate_left
  ·have hi:=Ai hx;have hxv:=hB x<|mem_of_getElem? hx;have hxl:=hxv.1
   try dsimp only
   unfold Cf Oo Bs Bp;rw [Au oM,fZ,hx,obs,S4 oM,obs,Af oM,obs,S4 oM,obs,Af oM,obs];simp only [fX];rw [Ahc _ _ _ _ sO,obs,obs,Af sO,Af oM];rfl
  ·try dsimp only
   unfold Cf;rw [At oM,fY,nil_append]
 unfold Ke;rw [e1,obs,e2,obs,Af sO,Bj oM oM,Bj oM oM,show ((la:Int)+(lb:Int))=((la+lb:Nat):Int) by omega,show ((ra:Int)+(rb:Int))=((ra+rb:Nat):Int) by omega];rw [Pn hp (Aje hb.1 hA hB) oM sO,obs];rfl
def plc (pos:Nat->Nat) (x:List Int) (n:Nat):Nat->List Int
 | 0=>replicate n 0
 | i+1=>(plc pos x n i).set (pos i) (x.getD i 0)
theorem Yw {pos:Nat->Nat} {x:List Int} {n:Nat}:∀ i,(plc pos x n i).length=n
 | 0=>by simp [plc]
 | i+1=>by rw [plc,length_set];exact Yw i
theorem Aoy {pos:Nat->Nat} {x:List Int} {n k:Nat} (hn:∀ j,j<k->pos j<n) (hi:∀ i j,i<k->j<k->pos i=pos j->i=j):∀ i,i<=k->∀ j,j<i->(plc pos x n i)[pos j]? =some (x.getD j 0)
 | 0,_,j,h=>absurd h oM
 | i+1,hk,j,h=>by
  rw [plc];by_cases e:j=i
  ·subst e;exact getElem?_set_self (by rw [Yw];exact hn j oM)
  ·rw [getElem?_set_ne (fun h2=>e (hi j i oM oM h2.symm))];exact Aoy hn hi i oM j oM
theorem Ak1 {pos:Nat->Nat} {x:List Int} {n q:Nat} (hq:q<n):∀ i,(∀ j,j<i->pos j≠q)->(plc pos x n i)[q]? =some 0
 | 0,_=>by rw [plc,getElem?_replicate,fW hq]
 | i+1,h=>by
  rw [plc,getElem?_set_ne (h i oM)];exact Ak1 hq i fun j hj=>h j oM
theorem Aon {pos:Nat->Nat} {x T:List Int} {n k:Nat} (hn:∀ j,j<k->pos j<n) (hi:∀ i j,i<k->j<k->pos i=pos j->i=j) (hT:T.length=n) (h1:∀ j,j<k->T[pos j]? =some (x.getD j 0)) (h0:∀ q,q<n->(∀ j,j<k->pos j≠q)->T[q]? =some 0):plc pos x n k=T:=by
 refine ext_getElem? fun q=>?_
 by_cases hq:q<n
 ·by_cases he:∃ j,j<k/\pos j=q
  ·obtain ⟨j,hj,rfl⟩:=he;rw [Aoy hn hi k (fQ _) j hj,h1 j hj]
  ·have hm:∀ j,j<k->pos j≠q:=fun j hj e=>he ⟨j,hj,e⟩
   rw [Ak1 hq k hm,h0 q hq hm]
 ·rw [getElem?_eq_none (by rw [Yw];omega),getElem?_eq_none oM]
theorem Acg {x:List Int} {j:Nat} (h:j<x.length):x[j]? =some (x.getD j 0):=by rw [gDg,gEg h];rfl
theorem A02 {x:List Int} (hx:x.length=la+ra):plc (fun j=>if j<la then j else lb+j) x ((la+lb)+(ra+rb)) (la+ra)=Uo la lb rb x:=by
 refine Aon (fun j hj=>?_) (fun i j hi hj h=>?_) (by simp [Uo,hx];omega) (fun j hj=>?_) fun q hq hm=>?_
 ·split <;> omega
 ·try dsimp only at h
  split at h <;> split at h <;> omega
 ·try dsimp only
  rw [← Acg oM];unfold Uo;split
  ·rw [getElem?_append_left (by rw [length_take];omega),getElem?_take,fW oM]
  ·rw [getElem?_append_right (by rw [length_take];omega),length_take,getElem?_append_right (by rw [length_replicate];omega),length_replicate,getElem?_append_left (by rw [length_drop];omega),getElem?_drop];congr 1;omega
 ·unfold Uo;by_cases h1:q<la
  ·exact absurd (fW h1)<|hm q oM
  by_cases h2:q<la+lb
  ·rw [getElem?_append_right (by rw [length_take];omega),length_take,getElem?_append_left (by rw [length_replicate];omega),getElem?_replicate,fW oM]
  by_cases h3:q<la+lb+ra
  ·refine absurd ?_<|hm (q - lb) oM
   try dsimp only
   rw [fB oM];omega
  ·rw [getElem?_append_right (by rw [length_take];omega),length_take,getElem?_append_right (by rw [length_replicate];omega),length_replicate,getElem?_append_right (by rw [length_drop];omega),length_drop,getElem?_replicate,fW oM]
theorem A03 {x:List Int} (hx:x.length=lb+rb):plc (fun j=>if j<lb then la+j else la+ra+j) x ((la+lb)+(ra+rb)) (lb+rb)=V4 la ra lb x:=by
 refine Aon (fun j hj=>?_) (fun i j hi hj h=>?_) (by simp [V4,hx];omega) (fun j hj=>?_) fun q hq hm=>?_
 ·split <;> omega
 ·try dsimp only at h
  split at h <;> split at h <;> omega
 ·try dsimp only
  rw [← Acg oM];unfold V4;split
  ·rw [getElem?_append_right (by rw [length_replicate];omega),length_replicate,getElem?_append_left (by rw [length_take];omega),getElem?_take,fW oM];congr 1;omega
  ·rw [getElem?_append_right (by rw [length_replicate];omega),length_replicate,getElem?_append_right (by rw [length_take];omega),length_take,getElem?_append_right (by rw [length_replicate];omega),length_replicate,getElem?_drop];congr 1;omega
 ·unfold V4;by_cases h1:q<la
  ·rw [getElem?_append_left (by rw [length_replicate];omega),getElem?_replicate,fW h1]
  by_cases h2:q<la+lb
  ·refine absurd ?_<|hm (q - la) oM
   try dsimp only
   rw [fW oM];omega
  by_cases h3:q<la+lb+ra
  ·rw [getElem?_append_right (by rw [length_replicate];omega),length_replicate,getElem?_append_right (by rw [length_take];omega),length_take,getElem?_append_left (by rw [length_replicate];omega),getElem?_replicate,fW oM]
  ·refine absurd ?_<|hm (q - la - ra) oM
   try dsimp only
   rw [fB oM];omega
theorem An8 (hp:isF p=true) (hA:MatW p (la+ra) A) (hB:MatW p (lb+rb) B) (hla:la+ra<=100) (hlb:lb+rb<=100) (lA:A.length<=100) (lB:B.length<=100) :
  Hu p (la:Int) (ra:Int) A (lb:Int) (rb:Int) B=some (((la+lb:Nat):Int),((ra+rb:Nat):Int),Ayx p la ra lb rb A B):=by
 have hb:=Da hp;have w1:wI ((la:Int)+(lb:Int))=((la+lb:Nat):Int):=by rw [Bj oM oM];omega
 have w2:wI ((ra:Int)+(rb:Int))=((ra+rb:Nat):Int):=by rw [Bj oM oM];omega
 have w3:wI (((la+lb:Nat):Int)+((ra+rb:Nat):Int))=(((la+lb)+(ra+rb):Nat):Int):=by rw [Bj oM oM];omega
 unfold Hu;rw [Dh A (Uo la lb rb) [] oM (A.map<|Uo la lb rb) (fun i x hx=>?_) ?_,obs]
 ·rw [Dh B (V4 la ra lb) (A.map<|Uo la lb rb) oM (A.map (Uo la lb rb)++B.map (V4 la ra lb)) (fun i x hx=>?_) ?_,obs,w1,w2,Ajl hp (Aje hb.1 hA hB) oM sO,obs]
  ·rfl
  rotate_left
  ·have hi:=Ai hx;have hxl:=(hB x<|mem_of_getElem? hx).1
   try dsimp only
   unfold La;rw [Au oM,fZ,hx,obs,w1,w2,w3,Af oM,fX];rw [Bg (s0:=(0,replicate ((la+lb)+(ra+rb)) 0)) x.length (fun j=>(j,plc (fun j=>if j<lb then la+j else la+ra+j) x ((la+lb)+(ra+rb)) j)) oM (V4 la ra lb x) rfl (fun j hj=>?_) ?_,obs,Af sO,obs,Af oM]
   rotate_left
   ·have hlen:=Yw (pos:=fun j=>if j<lb then la+j else la+ra+j) (x:=x) (n:=(la+lb)+(ra+rb)) j
    try dsimp only
    unfold Li;rw [Au oM,fZ,Acg hj,obs,w1];by_cases h1:j<lb
    ·rw [Au oM,fZ,Bj (n:=(la:Int)+(j:Int)) oM oM,B9 oM,show ((la:Int)+(j:Int)).toNat=la+j by omega,gEg oM,obs,obs,obs,Af oM,plc,fW h1]
    ·rw [At oM,fY,Bj (n:=((la+lb:Nat):Int)+(ra:Int)) oM oM,Bj (n:=((la+lb:Nat):Int)+(ra:Int)+(j:Int)) oM oM,Bj oM oM,B9 oM,show (((la+lb:Nat):Int)+(ra:Int)+(j:Int) - (lb:Int)).toNat=la+ra+j by omega,gEg oM,obs,obs,obs,Af oM,plc,fB h1]
   ·try dsimp only
    unfold Li;rw [At oM,fY,hxl,A03 hxl]
  ·try dsimp only
   unfold La;rw [At oM,fY]
 rotate_left
 ·have hi:=Ai hx;have hxl:=(hA x<|mem_of_getElem? hx).1
  try dsimp only
  unfold Lb;rw [Au oM,fZ,hx,obs,w1,w2,w3,Af oM,fX];rw [Bg (s0:=(0,replicate ((la+lb)+(ra+rb)) 0)) x.length (fun j=>(j,plc (fun j=>if j<la then j else lb+j) x ((la+lb)+(ra+rb)) j)) oM (Uo la lb rb x) rfl (fun j hj=>?_) ?_,obs,Af sO,obs,Af oM]
  rotate_left
  ·have hlen:=Yw (pos:=fun j=>if j<la then j else lb+j) (x:=x) (n:=(la+lb)+(ra+rb)) j
   try dsimp only
   unfold Ld;rw [Au oM,fZ,Acg hj,obs,w1];by_cases h1:j<la
   ·rw [Au oM,fZ,gEg oM,obs,obs,Af oM,plc,fW h1]
   ·rw [At oM,fY,Bj (n:=((la+lb:Nat):Int)+(j:Int)) oM oM,Bj oM oM,B9 oM,show (((la+lb:Nat):Int)+(j:Int) - (la:Int)).toNat=lb+j by omega,gEg oM,obs,obs,obs,Af oM,plc,fB h1]
  ·try dsimp only
   unfold Ld;rw [At oM,fY,hxl,A02 hxl]
 ·try dsimp only
  unfold Lb;rw [At oM,fY,nil_append]
end
end
section
def Avv:List Int:=[2,3,5,7,11,13,17,19,23,29,31,37,41,43,47,53,59,61,67,71,73,79,83,89,97]
theorem Aop {p:Int} (h:isF p=true):p∈Avv:=by
 have hb:=Da h;obtain ⟨k,rfl⟩:∃ k:Nat,p=(k:Int):=⟨p.toNat,by omega⟩
 have hk:k<98:=by omega
 have key:(range 98).all (fun k=> !isF (k:Int)||Avv.contains (k:Int))=true:=by kernel_rfl
 have:=all_eq_true.1 key k<|mem_range.2 hk;rw [h,fD,Bool.false_or] at this;exact contains_iff_mem.1 this
def Ai5 (p k v:Int):Bool:=match Bz p k v ⟨#[]⟩,Bh p k v ⟨#[]⟩ with
 | some a,some b=>a==b&&(N6 p a.1 a.2.1 a.2.2&&lfW (k,v,⟨#[]⟩)==some (a.1,a.2.1))
 | _,_=>false
theorem Asy:(Avv.all fun p=>[2,3,4,5,6,9,10,11,12].all fun k=>Ai5 p k 0)=true:=by kernel_rfl
def scV (p v:Int):Int:=(p - v) % p
theorem Aoq:((range 97).all fun v=>(Du 2 [(7,(v:Int),[0],[1])] [0] [1]==some true)&&(Du 2 [(13,(v:Int),[0],[1])] [0] [1]==some true))=true:=by kernel_rfl
theorem A0k:(Avv.all fun p=>(range p.toNat).all fun v=>(gj p 2 (Om p 2 [[scV p (v:Int),1]])==[[1,(v:Int)]])&&((gj p 2 [[1,(v:Int)]]==[[1,(v:Int)]])&&(gj p 2 (Om p 2 [[1,scV p (v:Int)]])==gj p 2 [[(v:Int),1]])))=true:=by kernel_rfl
theorem Av3 {p k v:Int} (h:Ai5 p k v=true) (s:ByteArray):∃ a,Bz p k v s=some a/\Bh p k v s=some a/\N6 p a.1 a.2.1 a.2.2=true/\lfW (k,v,⟨#[]⟩)=some (a.1,a.2.1):=by
 have e1:Bz p k v s=Bz p k v ⟨#[]⟩:=by unfold Bz Nq;rfl
 have e2:Bh p k v s=Bh p k v ⟨#[]⟩:=by unfold Bh;rfl
 rw [e1,e2];unfold Ai5 at h;split at h
 next a b h1 h2=>simp only [fT,fF] at h;obtain ⟨rfl,h3,h4⟩:=h;exact ⟨a,h1,h2,h3,h4⟩
 ·cases h
end
section
section
variable {p:Int} {n:Nat} {m:ZA}
theorem Av8 {u:Nat->Nat} {k:Nat} (h:∀ i j,i<j->j<k->u i<u j):∀ i,i<k->i<=u i:=by
 intro i
 induction i with
 | zero=>intro _;omega
 | succ i ih=>intro hi;have:=ih oM;have:=h i (i+1) oM hi;omega
theorem Atr {pv:Nat->Nat} (h:Q9 n m.length m pv):m.length<=n:=by
 refine Nat.le_of_not_lt fun hlt=>?_
 have h1:=Av8 (fun i j a b=>h.mono i j a b) n hlt;have h2:=h.lt n hlt;omega
theorem Anq (hp:isF p=true) (hm:MatW p n m):MatW p n (gj p n m)/\(gj p n m).length<=n/\gj p n (gj p n m)=gj p n m:=by
 have hb:=Da hp;have ⟨⟨pv,h1⟩,_⟩:=Yq hb.1 (Ae3 hp) hm;have h2:=Uz (n:=n) hb.1 hm;exact ⟨h2,Atr h1,Ai4 hb.1 (Ae3 hp) h2 h2 h1 fun _=>Iff.rfl⟩
theorem Ake {pv:Nat->Nat} (hp:isF p=true) (hm:MatW p n m) (h:Q9 n m.length m pv):gj p n m=m :=
 Ai4 (Da hp).1 (Ae3 hp) hm hm h fun _=>Iff.rfl
def idB (n:Nat):ZA:=(range n).map fun k=>unV n k++unV n k
theorem Axr {i:Nat} (hi:i<n):(idB n)[i]? =some (unV n i++unV n i):=by
 unfold idB;rw [getElem?_map,getElem?_range hi];rfl
theorem Ah3 (hp:2<=p):MatW p (n+n) (idB n):=fun x hx=>by
 obtain ⟨k,_,rfl⟩:=mem_map.1 hx;have h:=Ab6 (n:=n) (k:=k) hp;exact ⟨by rw [length_append,h.1],fun a ha=>(mem_append.1 ha).elim (h.2 a) (h.2 a)⟩
theorem Azn {i j:Nat} (hi:i<n) (hj:j<n):en (idB n) i j=if j=i then 1 else 0:=by
 unfold en;rw [Bt<|Axr hi,gDg,getElem?_append_left (by simp [unV];omega),← gDg,Anc hi]
theorem Awi {i:Nat} (hi:i<n):(idV n)[i]? =some (unV n i):=by
 unfold idV;rw [getElem?_map,getElem?_range hi];rfl
theorem Azg {i j:Nat} (hi:i<n):en (idV n) i j=if j=i then 1 else 0:=by
 unfold en;rw [Bt<|Awi hi,Anc hi]
theorem Awy (hp:2<=p):MatW p n (idV n):=fun x hx=>by
 obtain ⟨k,_,rfl⟩:=mem_map.1 hx;exact Ab6 hp
theorem Aoe {R:ZA} {c:Nat} (hl:R.length=n) (hc:n<=c) (he:∀ i j,i<n->j<n->en R i j=if j=i then 1 else 0):Q9 c R.length R id where
 rl:=fQ _
 lt i hi:=by show i<c;omega
 mono i k h _:=h
 low i hi j hj:=by
  have hj:j<i:=hj;rw [he i j oM oM,fB oM]
 one i hi:=by show en R i i=1;rw [he i i oM oM,fW rfl]
 zero i hi k hk:=by
  show en R k i=0;by_cases h:k<n
  ·rw [he k i h oM,fB oM]
  ·exact Sb oM
 tail i hi j _:=Sb hi
theorem Aot (hp:isF p=true):gj p (n+n) (idB n)=idB n :=
 Ake hp (Ah3 (Da hp).1) (Aoe (n:=n) (by simp [idB]) oM fun i j hi hj=>Azn hi hj)
theorem Awa (hp:isF p=true):gj p n (idV n)=idV n :=
 Ake hp (Awy (Da hp).1) (Aoe (n:=n) (by simp [idV]) (fQ _) fun i j hi _=>Azg hi)
theorem Wi (hn:n<=1000):Es (n:Int)=some ((n:Int),(n:Int),idB n):=by
 unfold Es
 have key:Aq (fun s_:Nat×ZA=>Dr (n:Int) s_.1 s_.2) 4611686018427387904 (0,([]:ZA))=some (idB n):=by
  refine Bg n (fun k=>(k,(range k).map fun k=>unV n k++unV n k)) oM _ rfl (fun k hk=>?_) ?_
  ·try dsimp only
   unfold Dr;rw [Au oM,fZ,Apm hk hn,obs,obs,Agk _ _ (by simp [unV];omega),obs,Af sO,Af oM,range_succ,map_append];rfl
  ·try dsimp only
   unfold Dr;rw [At oM,fY];rfl
 rw [key];rfl
theorem Axl (hp:2<=p):gj p n []=[]:=by
 have h2:(gj p n []).length<=0:=by
  unfold gj;rw [length_take,(Mr hp (w:=0) (m:=[]) (fun x hx=>by cases hx) n).2.2];exact Nat.min_le_right _ _
 exact length_eq_zero_iff.1 oM
theorem Ayu (hp:isF p=true):Om p n []=idV n:=by
 unfold Om;rw [Axl (Da hp).1]
 have:S8 p n []=idV n:=by
  unfold S8 Aa3 idV;rw [filter_eq_self.2 (fun j _=>by simp [pvs])];rfl
 rw [this,Awa hp]
def rgI (n:Nat):List Int:=(range n).map fun k=>((k:Nat):Int)
theorem Az0 (hn:n<=1000):Qx (n:Int)=some ((n:Int),[],rgI n,rgI n):=by
 unfold Qx
 have key:Aq (fun s_:Nat×List Int=>L2 (n:Int) s_.1 s_.2) 4611686018427387904 (0,[])=some (rgI n):=by
  refine Bg n (fun k=>(k,rgI k)) oM _ rfl (fun k hk=>?_) ?_
  ·have hl:(rgI k).length=k:=by simp [rgI]
   try dsimp only
   unfold L2;rw [Au oM,fZ,Af oM,Af oM,Af oM];unfold rgI;rw [range_succ,map_append];rfl
  ·try dsimp only
   unfold L2;rw [At oM,fY]
 rw [key];rfl
theorem Alt (ends x:List Int) (hl:ends.length<=1000) (he:∀ e∈ends,0<=e/\e.toNat<x.length):Kr ends x=some (ends.map fun e=>x.getD e.toNat 0):=by
 unfold Kr
 have key:Aq (fun s_:Nat×List Int=>Jc ends x s_.1 s_.2) 4611686018427387904 (0,[])=some ([]++ends.map fun e=>x.getD e.toNat 0):=by
  refine Dh ends (fun e=>x.getD e.toNat 0) [] oM _ (fun j e h=>?_) ?_
  ·have:=Ai h;have hb:=he e<|mem_of_getElem? h
   try dsimp only
   unfold Jc;rw [Au oM,fZ,h,obs,B9 hb.1,gEg hb.2,obs,Af sO,Af oM,gDg,gEg hb.2];rfl
  ·try dsimp only
   unfold Jc;rw [At oM,fY]
 rw [key];rfl
theorem Awh (k:Nat):(rgI n).map (fun e=>(unV n k).getD e.toNat 0)=unV n k:=by
 unfold rgI;rw [map_map];refine ext_getElem? fun i=>?_
 by_cases h:i<n
 ·rw [getElem?_map,getElem?_range h];show some ((unV n k).getD i 0)=_;rw [gDg,gEg (show i<(unV n k).length by simp [unV];omega)];rfl
 ·rw [getElem?_eq_none sO,getElem?_eq_none (by simp [unV];omega)]
theorem At7 (hp:isF p=true) (hn:n<=12):Gr p (n:Int) [] (rgI n) (rgI n)=some true:=by
 have hv:Du (n:Int) [] (rgI n) (rgI n)=some true:=by
  rcases (show n=0∨n=1∨n=2∨n=3∨n=4∨n=5∨n=6∨n=7∨n=8∨n=9∨n=10∨n=11∨n=12 by omega) with rfl|rfl|rfl|rfl|rfl|rfl|rfl|rfl|rfl|rfl|rfl|rfl|rfl <;> kernel_rfl
 unfold Gr Nj;rw [Tt,hp,obs,fD,fY,hv];rfl
theorem Ay8 (hp:isF p=true) (hn:n<=12) (s:ByteArray):Bz p 1 (n:Int) s=some ((n:Int),(n:Int),idB n):=by
 have hb:=Da hp;have hl:(rgI n).length=n:=by simp [rgI]
 unfold Bz Nq;rw [show ((1:Int)==1)=true from rfl,fZ,Az0 oM,obs,obs];unfold Fk;dsimp only;rw [At7 hp hn,obs,fD,fY,Yh _ oM,obs,Af oM]
 have hvs:Fw p (n:Int) [] (rgI n) (rgI n)=some (idV n):=by
  unfold Fw;rw [show Aq (fun s_:Nat×ZA=>Fp [] p (n:Int) s_.1 s_.2) 4611686018427387904 (0,[])=some [] from rfl,obs,Ad8 hp (fun x hx=>by cases hx) oM fS,Ayu hp];rfl
 rw [hvs,obs]
 have key:Aq (fun s_:Nat×ZA=>Dq (idV n) (rgI n) (rgI n) s_.1 s_.2) 4611686018427387904 (0,([]:ZA))=some ([]++(idV n).map fun x=>x++x):=by
  refine Dh (idV n) (fun x=>x++x) [] (by simp [idV];omega) _ (fun j x h=>?_) ?_
  ·have:=Ai h;have hil:(idV n).length=n:=by simp [idV]
   obtain ⟨k,_,rfl⟩:=mem_map.1<|mem_of_getElem? h
   try dsimp only
   unfold Dq;rw [Au oM,fZ,h,obs,Alt _ _ (by rw [length_append];omega) (fun e he=>?_),obs,Af sO,Af oM,map_append,Awh];rw [mem_append,or_self] at he;obtain ⟨i,hi,rfl⟩:=mem_map.1 he;have:=mem_range.1 hi;exact ⟨by omega,by simp [unV];omega⟩
  ·try dsimp only
   unfold Dq;rw [At oM,fY]
 rw [key,obs,nil_append,show (idV n).map (fun x=>x++x)=idB n by unfold idV idB;rw [map_map];rfl,hl,Ajl hp (Ah3 hb.1) oM (by simp [idB];omega),Aot hp];rfl
end
section
variable {p v:Int}
theorem Aln {i j:Int} (hp:2<=p/\p<=97) (hv:0<=v/\v<p) (hi:i=0/\j=1∨i=1/\j=0):C5 p 2 [i,j] [1,v]=some (if i=0 then [1,v] else [v,1]):=by
 have e1:Ef p 0 1=some 1:=by rw [Api hp oM oM,Int.emod_eq_of_lt oM oM];rfl
 have e2:Ef p 0 v=some v:=by rw [Api hp oM hv,Int.zero_add,Int.emod_eq_of_lt hv.1 hv.2]
 unfold C5;rw [Af oM];rcases hi with ⟨rfl,rfl⟩|⟨rfl,rfl⟩
 ·have h:Aq (fun s_:Nat×List Int=>On [0,1] [1,v] p s_.1 s_.2) 4611686018427387904 (0,replicate (2:Int).toNat (0:Int))=some [1,v]:=by
   refine Bg 2 (fun i=>(i,if i=0 then [0,0] else if i=1 then [1,0] else [1,v])) oM _ rfl (fun i hi=>?_) rfl;rcases (show i=0∨i=1 by omega) with rfl|rfl
   ·show Option.bind (Ef p 0 1) (fun y15=>og (0+1<4611686018427387904)<|some<|Ctl.next (0+1,[0,0].set 0 y15))=_;rw [e1,obs,Af oM];rfl
   ·show Option.bind (Ef p 0 v) (fun y15=>og (1+1<4611686018427387904)<|some<|Ctl.next (1+1,[1,0].set 1 y15))=_;rw [e2,obs,Af oM];rfl
  rw [h];rfl
 ·have h:Aq (fun s_:Nat×List Int=>On [1,0] [1,v] p s_.1 s_.2) 4611686018427387904 (0,replicate (2:Int).toNat (0:Int))=some [v,1]:=by
   refine Bg 2 (fun i=>(i,if i=0 then [0,0] else if i=1 then [0,1] else [v,1])) oM _ rfl (fun i hi=>?_) rfl;rcases (show i=0∨i=1 by omega) with rfl|rfl
   ·show Option.bind (Ef p 0 1) (fun y15=>og (0+1<4611686018427387904)<|some<|Ctl.next (0+1,[0,0].set 1 y15))=_;rw [e1,obs,Af oM];rfl
   ·show Option.bind (Ef p 0 v) (fun y15=>og (1+1<4611686018427387904)<|some<|Ctl.next (1+1,[0,1].set 0 y15))=_;rw [e2,obs,Af oM];rfl
  rw [h];rfl
theorem Aiw (hp:2<=p):0<=scV p v/\scV p v<p:=Uj hp
theorem Ats {k:Int} (hp:isF p=true) (hv:0<=v/\v<p) (hva:Du 2 [(k,v,[0],[1])] [0] [1]=some true) (hk:Em k=some true):Gr p 2 [(k,v,[0],[1])] [0] [1]=some true:=by
 unfold Gr Nj
 have h1:Aq (fun s_:Nat=>Jw [(k,v,[0],[1])] p s_) 4611686018427387904 0=some (Ctl.next ()):=by
  refine Bg 1 (fun i=>i) oM _ rfl (fun i hi=>?_) ?_
  ·obtain rfl:i=0:=by omega
   unfold Jw;simp only [length_singleton,getElem?_cons_zero,obs];rw [Au oM,fZ,At oM,fY,Af oM]
  ·unfold Jw;simp only [length_singleton];rw [At oM,fY]
 have h2:Aq (fun s_:Nat=>Ie [(k,v,[0],[1])] s_) 4611686018427387904 0=some (Ctl.next ()):=by
  refine Bg 1 (fun i=>i) oM _ rfl (fun i hi=>?_) ?_
  ·obtain rfl:i=0:=by omega
   unfold Ie;simp only [length_singleton,getElem?_cons_zero,obs,hk];rw [Au oM,fZ,fD,fY,Af oM]
  ·unfold Ie;simp only [length_singleton];rw [At oM,fY]
 rw [Tt,hp,obs,fD,fY,hva,obs,obs,fD,fY,h1,h2];rfl
theorem Atv {k:Int} {row:List Int} (hp:isF p=true) (hr:H0 p 2 k v [0] [1]=some [row]) (hm:MatW p 2 [row]):Fw p 2 [(k,v,[0],[1])] [0] [1]=some (Om p 2 [row]):=by
 unfold Fw
 have h1:Aq (fun s_:Nat×ZA=>Fp [(k,v,[0],[1])] p 2 s_.1 s_.2) 4611686018427387904 (0,[])=some [row]:=by
  refine Bg 1 (fun i=>(i,if i=0 then [] else [row])) oM _ rfl (fun i hi=>?_) ?_
  ·obtain rfl:i=0:=by omega
   try dsimp only
   unfold Fp;simp only [length_singleton,getElem?_cons_zero,obs,hr];rw [Au oM,fZ,Af fS,Af oM];rfl
  ·try dsimp only
   unfold Fp;simp only [length_singleton];rw [At oM,fY];rfl
 have h2:=Ad8 (n:=2) hp hm oM fS;rw [h1,obs,show (2:Int)=((2:Nat):Int) from rfl,h2,obs]
theorem Aoc {k:Int} {row:List Int} (hp:isF p=true) (hv:0<=v/\v<p) (hva:Du 2 [(k,v,[0],[1])] [0] [1]=some true) (hk:Em k=some true) (hr:H0 p 2 k v [0] [1]=some [row]) (hm:MatW p 2 [row]) :
  Fk p 2 [(k,v,[0],[1])] [0] [1]=some (1,1,gj p 2 (Om p 2 [row]),true):=by
 have hb:=Da hp;have hN:=Ah0 (p:=p) (n:=2) (m:=[row]) hb.1;have hNl:=Aic (p:=p) (n:=2) (m:=[row]) hb.1;unfold Fk;rw [Ats hp hv hva hk,obs,fD,fY,Yh _ fS,obs,Af fS,Atv hp hr hm,obs];generalize Om p 2 [row]=M at *
 have key:Aq (fun s_:Nat×ZA=>Dq M [0] [1] s_.1 s_.2) 4611686018427387904 (0,([]:ZA))=some ([]++M.map fun x=>x):=by
  refine Dh M (fun x=>x) [] oM _ (fun j x h=>?_) ?_
  ·have:=Ai h;have hxl:=(hN x<|mem_of_getElem? h).1
   have hgl:Kr ([0]++[1]) x=some x:=by
    rw [Alt _ _ fS (fun e he=>?_)]
    ·match x,hxl with
     | [a,b],_=>rfl
    ·rcases mem_cons.1 he with rfl|he
     ·exact ⟨by omega,by rw [hxl];decide⟩
     ·obtain rfl:=mem_singleton.1 he;exact ⟨by omega,by rw [hxl];decide⟩
   try dsimp only
   unfold Dq;rw [Au oM,fZ,h,obs,hgl,obs,Af sO,Af oM]
  ·try dsimp only
   unfold Dq;rw [At oM,fY]
 rw [key,obs,nil_append,map_id'];have hR:=Ajl (l:=1) (r:=1) hp hN oM oM;rw [show ((([0]:List Int).length:Nat):Int)=((1:Nat):Int) from rfl,show ((([1]:List Int).length:Nat):Int)=((1:Nat):Int) from rfl,hR,obs];rfl
theorem Sy {a b:Int} (ha:0<=a/\a<p) (hb:0<=b/\b<p):MatW p 2 [[a,b]]:=fun x hx=>by
 obtain rfl:=mem_singleton.1 hx;refine ⟨rfl,fun c hc=>?_⟩;rcases mem_cons.1 hc with rfl|hc
 ·exact ha
 ·obtain rfl:=mem_singleton.1 hc;exact hb
theorem Afa (hp:isF p=true) (hv:0<=v/\v<p):gj p 2 (Om p 2 [[scV p v,1]])=[[1,v]]/\gj p 2 [[1,v]]=[[1,v]]/\gj p 2 (Om p 2 [[1,scV p v]])=gj p 2 [[v,1]]:=by
 obtain ⟨u,rfl⟩:∃ u:Nat,v=(u:Int):=⟨v.toNat,by omega⟩
 have h:=all_eq_true.1 (all_eq_true.1 A0k p<|Aop hp) u<|mem_range.2 oM;simp only [fT,fF] at h;exact h
theorem Axc (hp:isF p=true) (hv:0<=v/\v<p) (s:ByteArray):Bz p 7 v s=some (1,1,[[1,v]])/\Bh p 7 v s=some (1,1,[[1,v]]):=by
 have hb:=Da hp;have ⟨f1,f2,f3⟩:=Afa hp hv
 have hva:Du 2 [(7,v,[0],[1])] [0] [1]=some true:=by
  obtain ⟨u,rfl⟩:∃ u:Nat,v=(u:Int):=⟨v.toNat,by omega⟩
  have h:=all_eq_true.1 Aoq u<|mem_range.2 oM;simp only [fT,fF] at h;exact h.1
 have hr:H0 p 2 7 v [0] [1]=some [[scV p v,1]]:=by
  show Option.bind (Fy p v) (fun y34=>Option.bind (C5 p 2 [1,0] [1,y34]) fun y35=>some [y35])=_;rw [Acf hb hv,obs];show Option.bind (C5 p 2 [1,0] [1,scV p v]) _=_;rw [Aln hb (Aiw hb.1) (.inr ⟨rfl,rfl⟩)];rfl
 constructor
 ·show Option.bind (Fk p 2 [(7,v,[0],[1])] [0] [1]) (fun y4=>some (y4.1,y4.2.1,y4.2.2.1))=_;rw [Aoc hp hv hva rfl hr<|Sy (Aiw hb.1) ⟨by omega,by omega⟩,f1];rfl
 ·show Option.bind (B5 p ((1:Nat):Int) ((1:Nat):Int) [[1,v]]) (fun y25=>some (y25.1,y25.2.1,y25.2.2))=_;rw [Pn hp (Sy ⟨by omega,by omega⟩ hv) oM fS,f2];rfl
theorem Aqv (hp:isF p=true) (hv:0<=v/\v<p) (s:ByteArray):Bz p 13 v s=some (1,1,gj p 2 [[v,1]])/\Bh p 13 v s=some (1,1,gj p 2 [[v,1]]):=by
 have hb:=Da hp;have ⟨f1,f2,f3⟩:=Afa hp hv
 have hva:Du 2 [(13,v,[0],[1])] [0] [1]=some true:=by
  obtain ⟨u,rfl⟩:∃ u:Nat,v=(u:Int):=⟨v.toNat,by omega⟩
  have h:=all_eq_true.1 Aoq u<|mem_range.2 oM;simp only [fT,fF] at h;exact h.2
 have hr:H0 p 2 13 v [0] [1]=some [[1,scV p v]]:=by
  show Option.bind (Fy p v) (fun y34=>Option.bind (C5 p 2 [0,1] [1,y34]) fun y35=>some [y35])=_;rw [Acf hb hv,obs];show Option.bind (C5 p 2 [0,1] [1,scV p v]) _=_;rw [Aln hb (Aiw hb.1) (.inl ⟨rfl,rfl⟩)];rfl
 constructor
 ·show Option.bind (Fk p 2 [(13,v,[0],[1])] [0] [1]) (fun y4=>some (y4.1,y4.2.1,y4.2.2.1))=_;rw [Aoc hp hv hva rfl hr<|Sy ⟨by omega,by omega⟩<|Aiw hb.1,f3];rfl
 ·show Option.bind (B5 p ((1:Nat):Int) ((1:Nat):Int) [[1,v]]) (fun y19=>Option.bind (Oj p y19.1 y19.2.1 y19.2.2) fun y20=>some (y20.1,y20.2.1,y20.2.2))=_;rw [Pn hp (Sy ⟨by omega,by omega⟩ hv) oM fS,f2];show Option.bind (Option.bind (B5 p ((1:Nat):Int) ((1:Nat):Int) [[v,1]]) fun y4=>some (y4.1,y4.2.1,y4.2.2)) (fun y20=>some (y20.1,y20.2.1,y20.2.2))=_;rw [Pn hp (Sy hv ⟨by omega,by omega⟩) oM fS];rfl
end
theorem Aro {p n:Int} {b:ZA} (hn:0<=n) (h:MatW p n.toNat b):Xg p n b=true:=by
 unfold Xg;rw [all_eq_true];intro x hx;have hx:=h x hx;rw [fT,fF,all_eq_true];refine ⟨by have:=hx.1;omega,fun a ha=>?_⟩;have:=hx.2 a ha;rw [Ho];omega
theorem Aeq {p:Int} {l r:Nat} {b:ZA} (hp:isF p=true) (hs:l+r<=24) (hb:b.length<=l+r) (hm:MatW p (l+r) b) (hg:gj p (l+r) b=b):N6 p (l:Int) (r:Int) b=true:=by
 have e:((l:Int)+(r:Int)).toNat=l+r:=by omega
 unfold N6;simp only [fT,Ho,decide_eq_true_eq,fF];exact ⟨hp,⟨by omega,by omega⟩,⟨by omega,by omega⟩,by omega,Aro oM (by rw [e];exact hm),by rw [e];exact hg⟩
theorem Azf {v:Int} (h:inR v 0 96=true):lfW (7,v,⟨#[]⟩)=some (1,1):=by
 unfold lfW;dsimp only;rw [fW<|show Mw ⟨#[]⟩=true from beq_self_eq_true _,fB (by decide),fB (by decide),fW (by decide),fW (show Abz 7 v=true by unfold Abz;rw [fW (.inl rfl)];exact h)];rfl
theorem Avr {v:Int} (h:inR v 0 96=true):lfW (13,v,⟨#[]⟩)=some (1,1):=by
 unfold lfW;dsimp only;rw [fW<|show Mw ⟨#[]⟩=true from beq_self_eq_true _,fB (by decide),fB (by decide),fW (by decide),fW (show Abz 13 v=true by unfold Abz;rw [fW (.inr rfl)];exact h)];rfl
theorem Auc {p:Int} (hp:isF p=true) {n:Nd} {w:Int×Int} (hw:lfW n=some w) (hs:n.1≠8/\n.1≠14) (hv:n.1=7∨n.1=13->n.2.1<p) :
  ∃ a,Bz p n.1 n.2.1 n.2.2=some a/\Bh p n.1 n.2.1 n.2.2=some a/\N6 p a.1 a.2.1 a.2.2=true/\w=(a.1,a.2.1):=by
 have hb:=Da hp;have ⟨k,v,s⟩:=n;have hk:=Rh hw;have hm:=Aop hp
 have h0:lfW (k,v,⟨#[]⟩)=some w:=by
  unfold lfW at hw ⊢;dsimp only at hw ⊢;split at hw
  ·rw [fW (show Mw ⟨#[]⟩=true from beq_self_eq_true _)];exact hw
  ·cases hw
 have fin:Ai5 p k v=true->∃ a,Bz p k v s=some a/\Bh p k v s=some a/\N6 p a.1 a.2.1 a.2.2=true/\w=(a.1,a.2.1):=fun h=>by
  have ⟨a,h1,h2,h3,h4⟩:=Av3 h s;exact ⟨a,h1,h2,h3,osj<|h0.symm.trans h4⟩
 dsimp only at *;by_cases h1:k=1
 ·subst h1;have h0':=h0;unfold lfW at h0';dsimp only at h0';rw [fW<|show Mw ⟨#[]⟩=true from beq_self_eq_true _,fW rfl] at h0';split at h0'
  ·rename_i hvb;cases h0';obtain ⟨m,rfl⟩:∃ m:Nat,v=(m:Int):=⟨v.toNat,by omega⟩
   have hm12:m<=12:=by omega
   refine ⟨((m:Int),(m:Int),idB m),Ay8 hp hm12 s,?_,Aeq hp oM (by simp [idB]) (Ah3 hb.1)<|Aot hp,rfl⟩;unfold Bh;rw [show ((1:Int)==1)=true from rfl,fZ,Wi oM,obs]
  ·cases h0'
 ·have hval:k=2/\v=0∨(3<=k/\k<=14/\Abz k v=true):=by
   have h0':=h0;unfold lfW at h0';dsimp only at h0';rw [fW (show Mw ⟨#[]⟩=true from beq_self_eq_true _)] at h0';rw [fB h1] at h0';split at h0'
   ·split at h0'
    next h2 h3=>exact .inl ⟨h2,h3⟩
    ·cases h0'
   ·split at h0'
    ·split at h0'
     next h2 h3=>exact .inr ⟨h2.1,h2.2,h3⟩
     ·cases h0'
    ·cases h0'
  by_cases hsc:k=7∨k=13
  ·have hvp:=hv hsc;rcases hval with ⟨rfl,_⟩|⟨_,_,hvb⟩
   ·omega
   unfold Abz at hvb;rw [fW hsc] at hvb;have hvi:=Ho.1 hvb;obtain ⟨u,rfl⟩:∃ u:Nat,v=(u:Int):=⟨v.toNat,by omega⟩
   have hvb':(0:Int)<=(u:Int)/\(u:Int)<p:=⟨by omega,hvp⟩
   have hw1:w=(1,1):=by
    refine osj<|h0.symm.trans ?_;rcases hsc with rfl|rfl
    ·exact Azf hvb
    ·exact Avr hvb
   subst hw1;rcases hsc with rfl|rfl
   ·have ⟨g1,g2⟩:=Axc hp hvb' s;exact ⟨_,g1,g2,Aeq (l:=1) (r:=1) hp oM fS (Sy ⟨by omega,by omega⟩ hvb') (Afa hp hvb').2.1,rfl⟩
   ·have ⟨g1,g2⟩:=Aqv hp hvb' s;have ⟨q1,q2,q3⟩:=Anq hp (n:=2) (m:=[[(u:Int),1]]) (Sy (p:=p) hvb' ⟨by omega,by omega⟩);exact ⟨_,g1,g2,Aeq (l:=1) (r:=1) hp oM q2 q1 q3,rfl⟩
  ·have hv0:v=0:=by
    rcases hval with ⟨_,h⟩|⟨_,_,hvb⟩
    ·exact h
    ·unfold Abz at hvb;rw [fB hsc,fF] at hvb;exact hvb
   subst hv0;refine fin<|all_eq_true.1 (all_eq_true.1 Asy p hm) k ?_;have:k=2∨k=3∨k=4∨k=5∨k=6∨k=9∨k=10∨k=11∨k=12:=by omega
   rcases this with rfl|rfl|rfl|rfl|rfl|rfl|rfl|rfl|rfl <;> simp
end
section
abbrev Rn:=Nat×Nat×ZA
abbrev Rl:=Int×Int×ZA
def Ca (x:Rn):Rl:=((x.1:Int),(x.2.1:Int),x.2.2)
structure N8 (p:Int) (x:Rn):Prop where
 mb:MatW p (x.1+x.2.1) x.2.2
 lb:x.2.2.length<=x.1+x.2.1
 rb:gj p (x.1+x.2.1) x.2.2=x.2.2
def Alx (p:Int):List (Int×Int)->List Rn->Prop
 | [],[]=>True
 | w :: T,x :: R=>(w=((x.1:Int),(x.2.1:Int))/\N8 p x)/\Alx p T R
 | _,_=>False
def Amb (p:Int) (a b:Rn):Rn:=(a.1,b.2.1,Az3 p a.1 a.2.1 b.2.1 a.2.2 b.2.2)
def Ajv (p:Int) (a b:Rn):Rn:=(a.1+b.1,a.2.1+b.2.1,Ayx p a.1 a.2.1 b.1 b.2.1 a.2.2 b.2.2)
def Qp (p:Int) (lf:Nd->Rn) (n:Nd):List Rn->List Rn
 | b :: a :: r=>if n.1=15 then Amb p a b :: r else if n.1=16 then Ajv p a b :: r else lf n :: b :: a :: r
 | R=>lf n :: R
def L0 (p:Int) (lf:Nd->Rn):List Nd->List Rn->List Rn
 | [],R=>R
 | n :: r,R=>L0 p lf r (Qp p lf n R)
section
variable {p:Int} {lf:Nd->Rn}
theorem R7 {n:Nd} (h:¬ (n.1=15∨n.1=16)) (R:List Rn):Qp p lf n R=lf n :: R:=by
 match R with
 | []=>rfl
 | [_]=>rfl
 | b :: a :: r =>
  show (if n.1=15 then _ else if n.1=16 then _ else _)=_;rw [fB (fun e=>h<|.inl e),fB (fun e=>h<|.inr e)]
theorem Aey:∀ (xs ys:List Nd) (R:List Rn),L0 p lf (xs++ys) R=L0 p lf ys (L0 p lf xs R)
 | [],_,_=>rfl
 | _ :: r,ys,_=>Aey r ys _
theorem Tq {xs:List Nd} {k:Nat} {n:Nd} (h:xs[k]? =some n):L0 p lf (xs.take (k+1)) []=Qp p lf n (L0 p lf (xs.take k) []):=by
 rw [take_add_one,h,Aey];rfl
theorem Aug (hp:isF p=true) {a b:Rn} (ha:N8 p a) (hb:N8 p b) (h:b.1=a.2.1):N8 p (Amb p a b):=by
 have hb1:=hb.mb;rw [h] at hb1
 have hm:MatW p (a.1+b.2.1) ((Om p (a.2.2.length+b.2.2.length)<|Aac p a.1 a.2.1 a.2.2 b.2.2).map<|Ai0 p a.1 a.2.1 b.2.1 a.2.2 b.2.2):=fun x hx=>by
  obtain ⟨c,_,rfl⟩:=mem_map.1 hx;exact Anh (Da hp).1 ha.mb hb1
 have ⟨h1,h2,h3⟩:=Anq hp hm;exact ⟨h1,h2,h3⟩
theorem Asj (hp:isF p=true) {a b:Rn} (ha:N8 p a) (hb:N8 p b):N8 p (Ajv p a b):=by
 have ⟨h1,h2,h3⟩:=Anq hp<|Aje (Da hp).1 ha.mb hb.mb;exact ⟨h1,h2,h3⟩
theorem Auo (hp:isF p=true) {lt:Nd->Option (Int×Int)} {n:Nd} (hleaf:∀ w,¬ (n.1=15∨n.1=16)->lt n=some w->w=(((lf n).1:Int),((lf n).2.1:Int))/\N8 p (lf n)) {T T':List (Int×Int)} {R:List Rn} (hT:Dn lt n T=some T') (hR:Alx p T R):Alx p T' (Qp p lf n R):=by
 unfold Dn at hT;by_cases hc:n.1=15∨n.1=16
 ·rw [fW hc] at hT;split at hT
  ·match T,R,hT,hR with
   | w2 :: w1 :: T,y :: x :: R,hT,⟨⟨ey,gy⟩,⟨ex,gx⟩,hR⟩ =>
    subst ey ex;dsimp only at hT;show Alx p T' (if n.1=15 then Amb p x y :: R else if n.1=16 then Ajv p x y :: R else lf n :: y :: x :: R);by_cases h15:n.1=15
    ·rw [fW h15] at hT ⊢;split at hT
     next he=>cases hT;exact ⟨⟨rfl,Aug hp gx gy oM⟩,hR⟩
     ·cases hT
    ·rw [fB h15] at hT ⊢;rw [fW (hc.resolve_left h15)];split at hT
     ·cases hT;refine ⟨⟨?_,Asj hp gx gy⟩,hR⟩;unfold Ajv;simp
     ·cases hT
  ·cases hT
 ·rw [fB hc] at hT;obtain ⟨w,hw,rfl⟩:=oms.1 hT;rw [R7 hc];exact ⟨hleaf w hc hw,hR⟩
theorem Auk {S:List Rl} {a b:Rl} {k:Nat} (h:S.length=k):(S++[a,b])[k]? =some a/\(S++[a,b])[k+1]? =some b/\(S++[a,b]).take k=S:=by
 subst h;refine ⟨by simp,by simp,by simp⟩
theorem Apd {x y:Rn} {R:List Rn}:((y :: x :: R).map Ca).reverse=(R.map Ca).reverse++[Ca x,Ca y]:=by simp
theorem Rw {x:Rn} {R:List Rn}:((x :: R).map Ca).reverse=(R.map Ca).reverse++[Ca x]:=by simp
theorem Aj2 (hp:isF p=true) {x y:Rn} (gx:N8 p x) (gy:N8 p y) (h:y.1=x.2.1) (b1:x.1+x.2.1<=100) (b2:y.1+y.2.1<=100) :
  Hq p (Ca x).1 (Ca x).2.1 (Ca x).2.2 (Ca y).1 (Ca y).2.1 (Ca y).2.2=some (Ca (Amb p x y))/\Gt p (Ca x).1 (Ca x).2.1 (Ca x).2.2 (Ca y).1 (Ca y).2.1 (Ca y).2.2=some (Ca (Amb p x y)):=by
 have gy1:=gy.mb;have l1:=gx.lb;have l2:=gy.lb;rw [h] at gy1 b2 l2;unfold Ca;dsimp only;rw [h];exact ⟨Amn hp gx.mb gy1 b1 b2 oM oM,Akd hp gx.mb gy1 b1 b2 oM oM⟩
theorem Aka (hp:isF p=true) {x y:Rn} (gx:N8 p x) (gy:N8 p y) (b1:x.1+x.2.1<=100) (b2:y.1+y.2.1<=100) :
  Ke p (Ca x).1 (Ca x).2.1 (Ca x).2.2 (Ca y).1 (Ca y).2.1 (Ca y).2.2=some (Ca (Ajv p x y))/\Hu p (Ca x).1 (Ca x).2.1 (Ca x).2.2 (Ca y).1 (Ca y).2.1 (Ca y).2.2=some (Ca (Ajv p x y)):=by
 have l1:=gx.lb;have l2:=gy.lb;unfold Ca;dsimp only;exact ⟨Atb hp gx.mb gy.mb b1 b2 oM oM,An8 hp gx.mb gy.mb b1 b2 oM oM⟩
def Ab1 (x:Rl):Rn:=(x.1.toNat,x.2.1.toNat,x.2.2)
theorem Avs {x:Rl} (h1:0<=x.1) (h2:0<=x.2.1):Ca (Ab1 x)=x:=by
 have ⟨a,b,c⟩:=x;unfold Ca Ab1;dsimp only at *;rw [Int.toNat_of_nonneg h1,Int.toNat_of_nonneg h2]
theorem Alg {x:Rl} (h:N6 p x.1 x.2.1 x.2.2=true):N8 p (Ab1 x)/\Ca (Ab1 x)=x:=by
 have G:=Aqh h;have h1:=G.hl;have h2:=G.hr;have e:x.1.toNat+x.2.1.toNat=(x.1+x.2.1).toNat:=by omega
 refine ⟨⟨?_,?_,?_⟩,Avs h1 h2⟩
 ·show MatW p (x.1.toNat+x.2.1.toNat) x.2.2;rw [e];exact G.mb
 ·show x.2.2.length<=x.1.toNat+x.2.1.toNat;have:=G.lb;omega
 ·show gj p (x.1.toNat+x.2.1.toNat) x.2.2=x.2.2;rw [e];exact G.rb
end
end
end Go.Proofs.YthlpchhhinipaaaGreatDoor
