/- Lemmas on the program and on partial functions that stand in place of its code (part 7); no condition beyond those that each one states. -/
import Derived.Test.YthlpchhhinipaaaGreatDoorZ6
import Derived.Deep.RegionHeld3
import Derived.Deep.RegionLaw
import Derived.Laws.Strings
import Derived.KernelRfl
namespace Go.Proofs.YthlpchhhinipaaaGreatDoor
section
open Go.RowKit Go.Deep
set_option maxRecDepth 4000
set_option maxHeartbeats 4800000
variable {bA bB bC bD bE bF:Int} {dA dB dC dD:LL} {aA aB:List Int}
def C6 (a0:Int) (u0:Nat) (u1:LL):Option (Ctl (Nat×LL) (LL)) :=
 cond (decide ((u0:Int)<a0))
 ((Ki a0 (u0:Int)).bind fun y12 =>
 (Ki a0 (u0:Int)).bind fun y13 =>
 (C3 ([y12,y13])).bind fun y14 =>
 og (u1.length+1<=1073741824/\(u1.length+1)*24<=140737488355328) <|
 og (u0+1<4611686018427387904) <|
 some (Ctl.next (u0+1,u1++[y14])))
 (some (Ctl.out u1))
def D1 (a0:Int):Option (LL) :=
 (Aq (fun s_:Nat×LL=>C6 a0 s_.1 s_.2) 4611686018427387904 (0,([]:LL))).bind fun u0 =>
some u0
theorem Pn (h:D1 bA=some dA):Cm Tryz.prog Tab 140 [ai bA] [] (.agg [ai bA,ai bA,oS 1 1 dA.length]) [(oi 0 1,.cells 30 [ai bA,ai bA,oS 1 1 dA.length]),(oi 1 1,.mat 81 (oi 2 1) .int dA),(oi 2 1,.pool 3 .int dA)]:=by
 refine Bg kr Tryz.func140 (Bt kr) (n:=27) kr (by simp) rfl kr trivial ⟨trivial,⟨⟨3,.tail _ (.tail _ (.head _))⟩,⟨trivial,trivial⟩⟩⟩ (Ae (Ae (sqF h (fun u1=>sT [(2,.box (oi 0 1) 0),(3,.box (oi 1 1) 0)] [(oi 0 1,.cells 30 [ai 0,ai 0,.nils]),(oi 1 1,.cells 30 [ai bA,ai bA,oS 2 1 u1.length]),(oi 2 1,.mat 81 (oi 3 1) .int u1),(oi 3 1,.pool 3 .int u1)]) ?_ fun u1 h=>Ae (Ac (by obtain rfl:=osj h;exact Cz [.agg [ai bA,ai bA,oS 1 1 u1.length]] (Ag (tl:=[(2,.box (oi 0 1) 0)]) (g:=2) [(oi 1 1,oi 2 1),(oi 2 1,oi 3 1)]))))));intro _ h;refine Ae (Ad (lpF h (fun (u2,u0)=>sT [(0,ai bA),(2,.box (oi 0 1) 0),(3,.box (oi 1 1) 0),(8,ai bA),(9,an u2)] [(oi 0 1,.cells 30 [ai 0,ai 0,.nils]),(oi 1 1,.cells 30 [ai bA,ai bA,oS 2 1 u0.length]),(oi 2 1,.mat 81 (oi 3 1) .int u0),(oi 3 1,.pool 3 .int u0)]) ((Rh 9000 (oi 3 5) 2 30 [ai bA,ai bA,.nils] [ai bA,ai bA,oS 9000 9 0] 81 sI kr kr kr).trans ((Dk (e1:=81) (n:=0) 9000 (oi 9000 9) 3 .int kr kr rfl kr kr).trans (Ag [(oi 0 1,oi 2 1),(oi 1 1,oi 3 5),(oi 2 1,oi 9000 9),(oi 3 1,oi 9000 10)]))) ?_));rintro n_ ⟨u2,u0⟩ c_ h hn6;refine Ae (Ab (kQ h (fun _ h=>skW (Ab (Ad (Ae (An 19 (dsT 4 (dcH h Q5 fun y12 h=>dz0 (ai bA) (dz0 (an u2) (dcH h Q5 fun y13 h=>dsU (tS ([y12,y13])) [(oi 256 9,none),(oi 304 12,none)] (Abl (t:=.int) (yss:=[y12,y13]) (Dv (t:=.int) (c:=oI 256 9 y12.length) (ys:=y12) kr (I2 (e:=3) kr rfl) (Dv (t:=.int) (c:=oI 304 12 y13.length) (ys:=y13) kr (I2 (e:=3) kr rfl) Rb)) kr) (dcH h Hz fun y14 h=>Aps (oS 22 15 1) (oi 22 15) (.vec 81 1 1 ([oI 336 14 y14.length])) trivial (Ej kr) ?_)))))))))) fun _ h=>lxT (have h:=jO h hn6;jE [])));obtain ⟨g15,h⟩:=Ak h;refine dzV (oi 2 1) (oi 22 15) (oi 3 1) u0 [oI 336 14 y14.length] g15 (dz0 (.box (oi 1 1) 2) (M9 (oi 1 1) (oi 1 1) (.cells 30 [ai bA,ai bA,oS 2 16 (u0.length+1)]) kr (Ct (As kr) (bn_ (tn_ ⟨_,D3 (e1:=81) (e:=3) (u:=.int) (n:=u0.length+1) (len:=y14.length) (row:=y14) (ys:=y14) (xss:=u0) 9000 (oi 2 16) (oi 3 1) (oi 336 14) kr kr rfl kr kr (M6 rfl) (M2 rfl) kr kr kr,Aa 22 (raH h fun h=>rsT 1 (Ap (tn_ ?_)))⟩)))));obtain rfl:=zj h;exact jLw hn6 ((Kp (oi 1 1) (.cells 30 [ai bA,ai bA,oS 2 16 (u0.length+1)]) (.cells 30 [ai bA,ai bA,oS 2 16 ((u0++[y14]).length)]) kr (congrArg (fun z_=>(.cells 30 [ai bA,ai bA,oS 2 16 z_]:Ob)) ((by simp):u0.length+1=(u0++[y14]).length))).trans (Ag [(oi 2 1,oi 2 16),(oi 3 1,oi 9000 19)]))
def K5 (a0:Int):Option Int :=
 (B5 a0 3 8).bind fun y4 =>
cond y4
 (some (wI ((wI (a0+9)) - 3)))
 ((B5 a0 9 14).bind fun y8 =>
 cond y8
  (some (wI (wI (a0 - 9)+3)))
  (some a0))
theorem N5 (h:K5 bA=some bB):cK 142 [ai bA] (A3 bB):=by
 exact cO Tryz.func142 (Ae (Ab (Ad (Ab (Aa 5 (rsT 1 (rcH h C4 fun y4 h=>rsT 1 (rnW (kQ h (fun _ h=>Ae (Ac (br_ (tr_ (jS h))))) fun _ h=>Ab (Aa 8 (rsT 1 (rcH h C4 fun y8 h=>rsT 1 (rnW (kQ h (fun _ h=>Ae (Ac (br_ (tr_ (jS h))))) fun _ h=>Ay (bn_ (tn_ (wr_ (Ae (Ac (jS h))))))))))))))))))))
def Pe (a0:List Int) (u0 u1:Int) (u2:LL):Option (List Int) :=
 (Bf u0 u1 u2 a0).bind fun y3 =>
(Bh u0 u1 u2 a0).bind fun y4 =>
(C3 ([a0.drop y3.1,a0.take y4])).bind fun y5 =>
some y5
theorem Un (h:Pe aA bA bB dA=some aB):cK 169 [tI aA,.ref [ai bA,ai bB,tS dA]] (B1 aB):=by
 refine cO Tryz.func169 (Ae (Ab (An 11 (dz0 (.agg [ai bA,ai bB,tS dA]) (dz0 (tI aA) ?_)))));obtain ⟨y3,h3,h⟩:=Ah h;refine O4 (tI (aA.drop y3.1)) [] [.agg [ai bA,ai bB,tS dA],tI aA] _ (caps:=[]) (args0:=[.agg [ai bA,ai bB,tS dA],tI aA]) trivial kr (Dz h3) kr (hr:=Fu h3) (dz0 (.agg [ai bA,ai bB,tS dA]) (dz0 (tI aA) ?_));obtain ⟨y4,h4,h⟩:=Ah h;exact O4 (tI (aA.take y4)) [] [.agg [ai bA,ai bB,tS dA],tI aA] _ (caps:=[]) (args0:=[.agg [ai bA,ai bB,tS dA],tI aA]) trivial kr (Eg h4) kr (hr:=Gf h4) (dsU (tS ([aA.drop y3.1,aA.take y4])) [] (Abl (t:=.int) (yss:=[aA.drop y3.1,aA.take y4]) (Dv (t:=.int) (c:=tI (aA.drop y3.1)) (ys:=aA.drop y3.1) kr Hm (Dv (t:=.int) (c:=tI (aA.take y4)) (ys:=aA.take y4) kr Hm Rb)) kr) (dcH h Hz fun y5 h=>dz0 (oI 176 9 y5.length) (Ct (As kr) (tn_ (wr_ (Ac (jR h [oI 176 9 y5.length] (F1 rfl (Dc kr rfl) Fc))))))))
def F8 (u2:LL) (u3 u4:Int) (u5:LL) (u0:Nat) (u1:LL):Option (Ctl (Nat×LL) (LL)) :=
 cond (decide ((u0:Int)<(u2.length:Int)))
 ((u2[u0]?).bind fun x12 =>
 (Pe x12 u3 u4 u5).bind fun y13 =>
 og (u1.length+1<=1073741824/\(u1.length+1)*24<=140737488355328) <|
 og (u0+1<4611686018427387904) <|
 some (Ctl.next (u0+1,u1++[y13])))
 (some (Ctl.out u1))
def Dh (u5 u6:Int) (u0:LL) (u1 u2:Int) (u3:LL):Option (LL) :=
 (Aq (fun s_:Nat×LL=>F8 u0 u1 u2 u3 s_.1 s_.2) 4611686018427387904 (0,([]:LL))).bind fun u4 =>
some u4
theorem Gz (h:Dh bA bB dA bC bD dB=some dC):Cm Tryz.prog Tab 129 [.agg [ai bA,ai bB,tS dA],.fn 169 [.ref [ai bC,ai bD,tS dB]]] [] (oS 0 1 dC.length) [(oi 0 1,.mat 81 (oi 1 1) .int dC),(oi 1 1,.pool 3 .int dC)]:=by
 refine Bg kr Tryz.func129 (Bt kr) (n:=24) kr (by simp) rfl kr trivial ⟨⟨3,.tail _ (.head _)⟩,⟨trivial,trivial⟩⟩ (Ae (Ab (Aa 5 (Lu (oS 8 3 0) (oi 8 3) (.vec 81 1 0 []) trivial (Ej kr) (rsT 1 (Ap (tn_ ⟨_,Dk (e1:=81) (n:=0) 9000 (oi 8 3) 3 .int kr kr rfl kr kr,sqF h (fun u4=>sT [(5,oS 0 1 u4.length)] [(oi 0 1,.mat 81 (oi 1 1) .int u4),(oi 1 1,.pool 3 .int u4)]) ?_ fun u4 h=>Ae (Ac (by obtain rfl:=osj h;exact Cz [oS 0 1 u4.length] (Ag (tl:=[(4,oS 0 1 u4.length)]) (g:=2) [])))⟩)))))));intro _ h;refine Ae (Ad (lpF h (fun (u8,u0)=>sT [(1,.fn 169 [.ref [ai bC,ai bD,tS dB]]),(5,oS 0 1 u0.length),(10,tS dA),(11,an dA.length),(12,an u8)] [(oi 0 1,.mat 81 (oi 1 1) .int u0),(oi 1 1,.pool 3 .int u0)]) (Ag [(oi 0 1,oi 8 3),(oi 1 1,oi 9000 5)]) ?_));rintro n_ ⟨u8,u0⟩ c_ h hn6;refine Ae (Ab (kQ h (fun _ h=>skW (Ab (Ad (Ab (Aa 6 (riH sI h fun x12 _ h=>rsT 2 (rnW (Aa 13 (rsT 3 ?_))))))))) fun _ h=>lxT (have h:=jO h hn6;jE [])));obtain ⟨y13,h13,h⟩:=Ah h;refine O8 (oI 304 9 y13.length) [nI 304 9 y13] [tI x12,.ref [ai bC,ai bD,tS dB]] _ (caps:=[.ref [ai bC,ai bD,tS dB]]) (args0:=[tI x12,.ref [ai bC,ai bD,tS dB]]) trivial kr (Un h13) kr (Lu (oS 20 10 1) (oi 20 10) (.vec 81 1 1 ([oI 304 9 y13.length])) trivial (Ej kr) ?_);obtain ⟨g14,h⟩:=Ak h;refine zV (oi 0 1) (oi 20 10) (oi 1 1) u0 [oI 304 9 y13.length] g14 (rsT 1 (Ap (bn_ (tn_ ⟨_,D3 (e1:=81) (e:=3) (u:=.int) (n:=u0.length+1) (len:=y13.length) (row:=y13) (ys:=y13) (xss:=u0) 9000 (oi 0 11) (oi 1 1) (oi 304 9) kr kr rfl kr kr (M6 rfl) (M2 rfl) kr kr kr,Aa 16 (raH h fun h=>rsT 1 (Ap (tn_ ?_)))⟩))));obtain rfl:=zj h;exact jLw hn6 ((wL 5 ((by simp):u0.length+1=(u0++[y13]).length)).trans (Ag [(oi 0 1,oi 0 11),(oi 1 1,oi 9000 13)]))
def Ni (a0 u0 u1:Int) (u2:LL):Option (LL) :=
 (Dh u0 u1 u2 u0 u1 u2).bind fun y4 =>
(Bu a0 u1 u0 y4).bind fun y5 =>
some y5
theorem Xd (h:Ni bA bB bC dA=some dB):Cm Tryz.prog Tab 143 [ai bA,.agg [ai bB,ai bC,tS dA]] [] (.agg [ai bC,ai bB,oS 1 1 dB.length]) [(oi 0 1,.cells 30 [ai bC,ai bB,oS 1 1 dB.length]),(oi 1 1,.mat 81 (oi 2 1) .int dB),(oi 2 1,.pool 3 .int dB)]:=by
 refine Bg kr Tryz.func143 (Bt kr) (n:=14) kr (by simp) rfl kr trivial ⟨trivial,⟨⟨3,.tail _ (.tail _ (.head _))⟩,⟨trivial,trivial⟩⟩⟩ (Ae (Ab (An 13 (dsT 7 (dcM h [] [.agg [ai bB,ai bC,tS dA],.fn 169 [.box (oi 3 1) 0]] Gz trivial (.cons (.ren kr) (.cons (.gnd kr (Auy (Al (Ak0 (ty:=30) (cs:=[ai bB,ai bC,tS dA]) (es:=[ai bB,ai bC,tS dA]) ((E0 kr kr kr).trans kr) kr (Al kr (Al kr (Al kr Bz)))) Bz))) .nil)) (Ar kr kr trivial) (Qx kr) fun y4 h=>dcM h [] [ai bA,ai bC,ai bB,oS 192 10 y4.length] En trivial (.cons (.ren kr) (.cons (.ren kr) (.cons (.ren kr) (.cons (.gnd kr (F6 (p:=oi 193 10) (e1:=81) (e:=3) (u:=.int) (xss:=y4) ((E0 kr kr kr).trans kr) (H8 kr kr (Ab9 (t:=sI) (off:=0) (len:=y4.length) (i:=oi 192 10) (e1:=81) (z:=1) (m:=y4.length) 3 rfl kr kr (Br kr)) kr) rfl)) .nil)))) (Ar kr kr trivial) (Qx kr) fun y5 h=>M9 (oi 4 2) (oi 4 2) (.cells 30 [ai bC,ai bB,oS 209 11 y5.length]) kr (Ct ⟨Acg kr,⟨Acg kr,trivial⟩⟩ (tn_ (wr_ (Ac ?_)))))))));obtain rfl:=zj h;exact Cz [.agg [ai bC,ai bB,oS 1 1 y5.length]] (Ag (tl:=[(4,.box (oi 0 1) 0)]) (g:=2) [(oi 0 1,oi 4 2),(oi 1 1,oi 209 11),(oi 2 1,oi 210 11)])
def Nj (a0:List Int) (u0 u1:Int) (u2:LL) (u3 u4:Int) (u5:LL):Option (List Int) :=
 (Bh u0 u1 u2 a0).bind fun y3 =>
(Dp u3).bind fun y4 =>
(Bf u0 u1 u2 a0).bind fun y5 =>
(Dp u4).bind fun y6 =>
(C3 ([a0.take y3,y4,a0.drop y5.1,y6])).bind fun y7 =>
some y7
theorem Wr (h:Nj aA bA bB dA bC bD dB=some aB):cK 138 [tI aA,.ref [ai bA,ai bB,tS dA],.ref [ai bC,ai bD,tS dB]] (B1 aB):=by
 refine cO Tryz.func138 (Ae (Ab (An 17 (dz0 (.agg [ai bA,ai bB,tS dA]) (dz0 (tI aA) ?_)))));obtain ⟨y3,h3,h⟩:=Ah h;refine O4 (tI (aA.take y3)) [] [.agg [ai bA,ai bB,tS dA],tI aA] _ (caps:=[]) (args0:=[.agg [ai bA,ai bB,tS dA],tI aA]) trivial kr (Eg h3) kr (hr:=Gf h3) (dz0 (.ref [ai bC,ai bD,tS dB]) (dz0 (ai bC) (dcH h Fa fun y4 h=>dz0 (.agg [ai bA,ai bB,tS dA]) (dz0 (tI aA) ?_))));obtain ⟨y5,h5,h⟩:=Ah h;exact O4 (tI (aA.drop y5.1)) [] [.agg [ai bA,ai bB,tS dA],tI aA] _ (caps:=[]) (args0:=[.agg [ai bA,ai bB,tS dA],tI aA]) trivial kr (Dz h5) kr (hr:=Fu h5) (dz0 (.ref [ai bD,tS dB]) (dz0 (ai bD) (dcH h Fa fun y6 h=>dsU (tS ([aA.take y3,y4,aA.drop y5.1,y6])) [(oi 160 7,none),(oi 256 13,none)] (Abl (t:=.int) (yss:=[aA.take y3,y4,aA.drop y5.1,y6]) (Dv (t:=.int) (c:=tI (aA.take y3)) (ys:=aA.take y3) kr Hm (Dv (t:=.int) (c:=oI 160 7 y4.length) (ys:=y4) kr (I2 (e:=3) kr rfl) (Dv (t:=.int) (c:=tI (aA.drop y5.1)) (ys:=aA.drop y5.1) kr Hm (Dv (t:=.int) (c:=oI 256 13 y6.length) (ys:=y6) kr (I2 (e:=3) kr rfl) Rb)))) kr) (dcH h Hz fun y7 h=>dz0 (oI 288 15 y7.length) (Ct (As kr) (tn_ (wr_ (Ac (jR h [oI 288 15 y7.length] (F1 rfl (Dc kr rfl) Fc))))))))))
def B0 (u2:LL) (u3 u4:Int) (u5:LL) (u6 u7:Int) (u8:LL) (u0:Nat) (u1:LL):Option (Ctl (Nat×LL) (LL)) :=
 cond (decide ((u0:Int)<(u2.length:Int)))
 ((u2[u0]?).bind fun x12 =>
 (Nj x12 u3 u4 u5 u6 u7 u8).bind fun y13 =>
 og (u1.length+1<=1073741824/\(u1.length+1)*24<=140737488355328) <|
 og (u0+1<4611686018427387904) <|
 some (Ctl.next (u0+1,u1++[y13])))
 (some (Ctl.out u1))
def Bm (u8 u9:Int) (u0:LL) (u1 u2:Int) (u3:LL) (u4 u5:Int) (u6:LL):Option (LL) :=
 (Aq (fun s_:Nat×LL=>B0 u0 u1 u2 u3 u4 u5 u6 s_.1 s_.2) 4611686018427387904 (0,([]:LL))).bind fun u7 =>
some u7
theorem Hp (h:Bm bA bB dA bC bD dB bE bF dC=some dD):Cm Tryz.prog Tab 129 [.agg [ai bA,ai bB,tS dA],.fn 138 [.ref [ai bC,ai bD,tS dB],.ref [ai bE,ai bF,tS dC]]] [] (oS 0 1 dD.length) [(oi 0 1,.mat 81 (oi 1 1) .int dD),(oi 1 1,.pool 3 .int dD)]:=by
 refine Bg kr Tryz.func129 (Bt kr) (n:=24) kr (by simp) rfl kr trivial ⟨⟨3,.tail _ (.head _)⟩,⟨trivial,trivial⟩⟩ (Ae (Ab (Aa 5 (Lu (oS 8 3 0) (oi 8 3) (.vec 81 1 0 []) trivial (Ej kr) (rsT 1 (Ap (tn_ ⟨_,Dk (e1:=81) (n:=0) 9000 (oi 8 3) 3 .int kr kr rfl kr kr,sqF h (fun u7=>sT [(5,oS 0 1 u7.length)] [(oi 0 1,.mat 81 (oi 1 1) .int u7),(oi 1 1,.pool 3 .int u7)]) ?_ fun u7 h=>Ae (Ac (by obtain rfl:=osj h;exact Cz [oS 0 1 u7.length] (Ag (tl:=[(4,oS 0 1 u7.length)]) (g:=2) [])))⟩)))))));intro _ h;refine Ae (Ad (lpF h (fun (ub,u0)=>sT [(1,.fn 138 [.ref [ai bC,ai bD,tS dB],.ref [ai bE,ai bF,tS dC]]),(5,oS 0 1 u0.length),(10,tS dA),(11,an dA.length),(12,an ub)] [(oi 0 1,.mat 81 (oi 1 1) .int u0),(oi 1 1,.pool 3 .int u0)]) (Ag [(oi 0 1,oi 8 3),(oi 1 1,oi 9000 5)]) ?_));rintro n_ ⟨ub,u0⟩ c_ h hn6;refine Ae (Ab (kQ h (fun _ h=>skW (Ab (Ad (Ab (Aa 6 (riH sI h fun x12 _ h=>rsT 2 (rnW (Aa 13 (rsT 3 ?_))))))))) fun _ h=>lxT (have h:=jO h hn6;jE [])));obtain ⟨y13,h13,h⟩:=Ah h;refine O8 (oI 304 9 y13.length) [nI 304 9 y13] [tI x12,.ref [ai bC,ai bD,tS dB],.ref [ai bE,ai bF,tS dC]] _ (caps:=[.ref [ai bC,ai bD,tS dB],.ref [ai bE,ai bF,tS dC]]) (args0:=[tI x12,.ref [ai bC,ai bD,tS dB],.ref [ai bE,ai bF,tS dC]]) trivial kr (Wr h13) kr (Lu (oS 20 10 1) (oi 20 10) (.vec 81 1 1 ([oI 304 9 y13.length])) trivial (Ej kr) ?_);obtain ⟨g14,h⟩:=Ak h;refine zV (oi 0 1) (oi 20 10) (oi 1 1) u0 [oI 304 9 y13.length] g14 (rsT 1 (Ap (bn_ (tn_ ⟨_,D3 (e1:=81) (e:=3) (u:=.int) (n:=u0.length+1) (len:=y13.length) (row:=y13) (ys:=y13) (xss:=u0) 9000 (oi 0 11) (oi 1 1) (oi 304 9) kr kr rfl kr kr (M6 rfl) (M2 rfl) kr kr kr,Aa 16 (raH h fun h=>rsT 1 (Ap (tn_ ?_)))⟩))));obtain rfl:=zj h;exact jLw hn6 ((wL 5 ((by simp):u0.length+1=(u0++[y13]).length)).trans (Ag [(oi 0 1,oi 0 11),(oi 1 1,oi 9000 13)]))
def M8 (a0:List Int) (u3 u4:Int) (u5:LL) (u0 u1:Int) (u2:LL):Option (List Int) :=
 (Dp u3).bind fun y3 =>
(Bh u0 u1 u2 a0).bind fun y4 =>
(Dp u4).bind fun y5 =>
(Bf u0 u1 u2 a0).bind fun y6 =>
(C3 ([y3,a0.take y4,y5,a0.drop y6.1])).bind fun y7 =>
some y7
theorem Xs (h:M8 aA bA bB dA bC bD dB=some aB):cK 139 [tI aA,.ref [ai bA,ai bB,tS dA],.ref [ai bC,ai bD,tS dB]] (B1 aB):=by
 refine cO Tryz.func139 (Ae (Ab (An 17 (dz0 (.ref [ai bA,ai bB,tS dA]) (dz0 (ai bA) (dcH h Fa fun y3 h=>dz0 (.agg [ai bC,ai bD,tS dB]) (dz0 (tI aA) ?_)))))));obtain ⟨y4,h4,h⟩:=Ah h;refine O4 (tI (aA.take y4)) [] [.agg [ai bC,ai bD,tS dB],tI aA] _ (caps:=[]) (args0:=[.agg [ai bC,ai bD,tS dB],tI aA]) trivial kr (Eg h4) kr (hr:=Gf h4) (dz0 (.ref [ai bB,tS dA]) (dz0 (ai bB) (dcH h Fa fun y5 h=>dz0 (.agg [ai bC,ai bD,tS dB]) (dz0 (tI aA) ?_))));obtain ⟨y6,h6,h⟩:=Ah h;exact O4 (tI (aA.drop y6.1)) [] [.agg [ai bC,ai bD,tS dB],tI aA] _ (caps:=[]) (args0:=[.agg [ai bC,ai bD,tS dB],tI aA]) trivial kr (Dz h6) kr (hr:=Fu h6) (dsU (tS ([y3,aA.take y4,y5,aA.drop y6.1])) [(oi 112 4,none),(oi 208 10,none)] (Abl (t:=.int) (yss:=[y3,aA.take y4,y5,aA.drop y6.1]) (Dv (t:=.int) (c:=oI 112 4 y3.length) (ys:=y3) kr (I2 (e:=3) kr rfl) (Dv (t:=.int) (c:=tI (aA.take y4)) (ys:=aA.take y4) kr Hm (Dv (t:=.int) (c:=oI 208 10 y5.length) (ys:=y5) kr (I2 (e:=3) kr rfl) (Dv (t:=.int) (c:=tI (aA.drop y6.1)) (ys:=aA.drop y6.1) kr Hm Rb)))) kr) (dcH h Hz fun y7 h=>dz0 (oI 288 15 y7.length) (Ct (As kr) (tn_ (wr_ (Ac (jR h [oI 288 15 y7.length] (F1 rfl (Dc kr rfl) Fc))))))))
def B3 (u2:LL) (u3 u4:Int) (u5:LL) (u6 u7:Int) (u8:LL) (u0:Nat) (u1:LL):Option (Ctl (Nat×LL) (LL)) :=
 cond (decide ((u0:Int)<(u2.length:Int)))
 ((u2[u0]?).bind fun x11 =>
 (M8 x11 u3 u4 u5 u6 u7 u8).bind fun y12 =>
 og (u1.length+1<=1073741824/\(u1.length+1)*24<=140737488355328) <|
 og (u0+1<4611686018427387904) <|
 some (Ctl.next (u0+1,u1++[y12])))
 (some (Ctl.out u1))
def Bl (u8 u9:Int) (u0:LL) (u1 u2:Int) (u3:LL) (u4 u5:Int) (u6:LL):Option (LL) :=
 (Aq (fun s_:Nat×LL=>B3 u0 u1 u2 u3 u4 u5 u6 s_.1 s_.2) 4611686018427387904 (0,([]:LL))).bind fun u7 =>
some u7
theorem Ho (h:Bl bA bB dA bC bD dB bE bF dC=some dD):cK 129 [.agg [ai bA,ai bB,tS dA],.fn 139 [.ref [ai bC,ai bD,tS dB],.ref [ai bE,ai bF,tS dC]]] (Oh dD):=by
 refine cZ Tryz.func129 fun zn_ nz_ hz_=>Ae (Ab (Aa 5 (Lu (oS 8 3 0) (oi 8 3) (.vec 81 1 0 []) trivial (Ej kr) (rsT 1 (Ap (tn_ ⟨_,Dk (e1:=81) (n:=0) 9000 (oi 8 3) 3 .int kr kr rfl kr kr,sqF h (fun u7=>sT [(5,oS 0 1 u7.length)] [(oi 0 1,.mat 81 (oi 1 1) .int u7),(oi 1 1,.pool 3 .int u7)]) ?_ fun u7 h=>Ae (Ac (jZ h [(false,[oS 0 1 u7.length])] (J2 (B2 (.mat (p:=oi 1 1) (e1:=81) (e:=3) kr (Br kr) rfl)) Dm)))⟩))))))
 intro _ h;refine Ae (Ad (lpF h (fun (ub,u0)=>sT [(1,.fn 139 [.ref [ai bC,ai bD,tS dB],.ref [ai bE,ai bF,tS dC]]),(5,oS 0 1 u0.length),(10,tS dA),(11,an dA.length),(12,an ub)] [(oi 0 1,.mat 81 (oi 1 1) .int u0),(oi 1 1,.pool 3 .int u0)]) (Ag [(oi 0 1,oi 8 3),(oi 1 1,oi 9000 5)]) ?_));rintro n_ ⟨ub,u0⟩ c_ h hn5;refine Ae (Ab (kQ h (fun _ h=>skW (Ab (Ad (Ab (Aa 6 (riH sI h fun x11 _ h=>rsT 2 (rnW (Aa 13 (rsT 3 ?_))))))))) fun _ h=>lxT (have h:=jO h hn5;jE [])));obtain ⟨y12,h12,h⟩:=Ah h;refine O8 (oI 304 9 y12.length) [nI 304 9 y12] [tI x11,.ref [ai bC,ai bD,tS dB],.ref [ai bE,ai bF,tS dC]] _ (caps:=[.ref [ai bC,ai bD,tS dB],.ref [ai bE,ai bF,tS dC]]) (args0:=[tI x11,.ref [ai bC,ai bD,tS dB],.ref [ai bE,ai bF,tS dC]]) trivial kr (Oc (Xs h12)) kr (Lu (oS 20 10 1) (oi 20 10) (.vec 81 1 1 ([oI 304 9 y12.length])) trivial (Ej kr) ?_);obtain ⟨g13,h⟩:=Ak h;refine zV (oi 0 1) (oi 20 10) (oi 1 1) u0 [oI 304 9 y12.length] g13 (rsT 1 (Ap (bn_ (tn_ ⟨_,D3 (e1:=81) (e:=3) (u:=.int) (n:=u0.length+1) (len:=y12.length) (row:=y12) (ys:=y12) (xss:=u0) 9000 (oi 0 11) (oi 1 1) (oi 304 9) kr kr rfl kr kr (M6 rfl) (M2 rfl) kr kr kr,Aa 16 (raH h fun h=>rsT 1 (Ap (tn_ ?_)))⟩))));obtain rfl:=zj h;exact jLw hn5 ((wL 5 ((by simp):u0.length+1=(u0++[y12]).length)).trans (Ag [(oi 0 1,oi 0 11),(oi 1 1,oi 9000 13)]))
def Mn (a0 u0 u1:Int) (u4:LL) (u2 u3:Int) (u5:LL):Option (LL) :=
 (Bm u0 u1 u4 u0 u1 u4 u2 u3 u5).bind fun y4 =>
(Bl u2 u3 u5 u0 u1 u4 u2 u3 u5).bind fun y6 =>
og (y4.length+y6.length<=1073741824/\(y4.length+y6.length)*24<=140737488355328) <|
(Bu a0 (wI (u0+u2)) (wI (u1+u3)) (y4++y6)).bind fun y9 =>
some y9
theorem Z0 (h:Mn bA bB bC dA bD bE dB=some dC):Cm Tryz.prog Tab 91 [ai bA,.agg [ai bB,ai bC,tS dA],.agg [ai bD,ai bE,tS dB]] [] (.agg [ai (wI (bB+bD)),ai (wI (bC+bE)),oS 1 1 dC.length]) [(oi 0 1,.cells 30 [ai (wI (bB+bD)),ai (wI (bC+bE)),oS 1 1 dC.length]),(oi 1 1,.mat 81 (oi 2 1) .int dC),(oi 2 1,.pool 3 .int dC)]:=by
 refine Bg kr Tryz.func91 (Bt kr) (n:=29) kr (by simp) rfl kr trivial ⟨trivial,⟨⟨3,.tail _ (.tail _ (.head _))⟩,⟨trivial,trivial⟩⟩⟩ (Ae (Ab (Aa 8 (rsT 2 (rcM h [] [.agg [ai bB,ai bC,tS dA],.fn 138 [.box (oi 4 1) 0,.box (oi 5 2) 0]] Hp trivial (.cons (.ren kr) (.cons (.gnd kr (Auy (Al (Ak0 (ty:=30) (cs:=[ai bB,ai bC,tS dA]) (es:=[ai bB,ai bC,tS dA]) ((E0 kr kr kr).trans kr) kr (Al kr (Al kr (Al kr Bz)))) (Al (Ak0 (ty:=30) (cs:=[ai bD,ai bE,tS dB]) (es:=[ai bD,ai bE,tS dB]) ((E0 kr kr kr).trans kr) kr (Al kr (Al kr (Al kr Bz)))) Bz)))) .nil)) (Ar kr kr trivial) fun y4 h=>rsT 1 (rnW (Ab (Aa 14 (rsT 3 (rcH h Ho fun y6 h=>?_))))))))));obtain ⟨g7,h⟩:=Ak h;refine rs2 (oS 160 12 (y4.length+y6.length)) (oi 160 6) (oi 160 12) (.vec 81 1 (y4.length+y6.length) (hdL (oi 161 6) .int y4++tvC none sI y6)) (At6 (o:=oi 160 6) (p:=oi 161 6) (e1:=81) (u:=.int) (t':=sI) (len:=y4.length) (N:=y4.length) (m:=none) (xss:=y4) (ys:=y6) kr kr rfl rfl (Afy kr) g7) (rsT 1 (rnW (Ab (Aa 28 (rsT 12 (rcM h [] [ai bA,ai (wI (bB+bD)),ai (wI (bC+bE)),oS 160 12 (y4.length+y6.length)] En trivial (.cons (.ren kr) (.cons (.ren kr) (.cons (.ren kr) (.cons (.gnd kr (Avc (p:=oi 161 6) (e1:=81) (e:=3) (u:=.int) (m:=none) (xss:=y4) (ys:=y6) (N:=y4.length+y6.length) ((E0 kr kr kr).trans kr) (H8 kr kr (Br kr) kr) rfl rfl)) .nil)))) (Ar kr kr trivial) fun y9 h=>rsB 1 (rnW (Ac ?_))))))));obtain rfl:=zj h;exact Cz [.agg [ai (wI (bB+bD)),ai (wI (bC+bE)),oS 1 1 y9.length]] (Ag (tl:=[(6,.box (oi 0 1) 0)]) (g:=2) [(oi 0 1,oi 6 3),(oi 1 1,oi 449 26),(oi 2 1,oi 450 26)])
def Bk (u2:LL) (u3 u4:Int) (u5:LL) (u0:Nat) (u1:LL):Option (Ctl (Nat×LL) (LL)) :=
 cond (decide ((u0:Int)<(u2.length:Int)))
 ((u2[u0]?).bind fun x12 =>
 (Bf u3 u4 u5 x12).bind fun y13 =>
 og (u1.length+1<=1073741824/\(u1.length+1)*24<=140737488355328) <|
 og (u0+1<4611686018427387904) <|
 some (Ctl.next (u0+1,u1++[x12.drop y13.1])))
 (some (Ctl.out u1))
def Ba (u5 u6:Int) (u0:LL) (u1 u2:Int) (u3:LL):Option (LL) :=
 (Aq (fun s_:Nat×LL=>Bk u0 u1 u2 u3 s_.1 s_.2) 4611686018427387904 (0,([]:List (List Int)))).bind fun u4 =>
some u4
theorem Ck (h:Ba bA bB dA bC bD dB=some dC):Ada Tryz.prog Tab 129 [.agg [ai bA,ai bB,tS dA],.fn 1000130 [.agg [ai bC,ai bD,tS dB]]] (oS 0 1 dC.length) [(oi 0 1,.tv 81 none sI dC)]:=by
 refine Ai9 kr Tryz.func129 (Bt kr) (fun nz_=>[.agg [ai bA,ai bB,.ftr nz_ sI dA],.fn 1000130 [.agg [ai bC,ai bD,.ftr nz_ sI dB]]]) (n:=24) kr (fun _=>by simp) (tl:=fun nz_=>[(0,.agg [ai bA,ai bB,.ftr nz_ sI dA]),(1,.fn 1000130 [.agg [ai bC,ai bD,.ftr nz_ sI dB]])]) (fun _=>rfl) (fun _=>⟨_,_,rfl,⟨_,rfl,⟨_,_,rfl,rfl,⟨_,_,rfl,rfl,⟨_,_,rfl,rfl,rfl⟩⟩⟩⟩,⟨_,_,rfl,⟨_,rfl,⟨_,_,rfl,⟨_,rfl,⟨_,_,rfl,rfl,⟨_,_,rfl,rfl,⟨_,_,rfl,rfl,rfl⟩⟩⟩⟩,rfl⟩⟩,rfl⟩⟩) (fun _=>by kernel_rfl) (fun _ _=>rfl) fun nz_=>Ae (Ab (Aa 5 (Lu (oS 8 3 0) (oi 8 3) (.vec 81 1 0 (tvC (some nz_) sI ([]:List (List Int)))) trivial (Ej kr) (rsT 1 (Ap (tn_ ⟨_,E4 (N:=0) (oi 8 3) 81 (some nz_) sI ([]:List (List Int)) kr rfl,sqF h (fun u5=>sT [(5,oS 0 1 u5.length)] [(oi 0 1,.tv 81 (some nz_) sI u5)]) ?_ fun u5 h=>Ae (Ac (by obtain rfl:=osj h;exact Cz [oS 0 1 u5.length] (Ag (tl:=[(4,oS 0 1 u5.length)]) (g:=2) [])))⟩))))))
 intro _ h;refine Ae (Ad (lpF h (fun (u8,u0)=>sT [(1,.fn 1000130 [.agg [ai bC,ai bD,.ftr nz_ sI dB]]),(5,oS 0 1 u0.length),(10,.ftr nz_ sI dA),(11,an dA.length),(12,an u8)] [(oi 0 1,.tv 81 (some nz_) sI u0)]) (Ag [(oi 0 1,oi 8 3)]) ?_));rintro n_ ⟨u8,u0⟩ c_ h hn6;refine Ae (Ab (kQ h (fun _ h=>skW (Ab (Ad (Ab (Aa 6 (riH sI h fun x12 _ h=>rsT 2 (rnW (Aa 13 (rsT 3 ?_))))))))) fun _ h=>lxT (have h:=jO h hn6;jE [])));obtain ⟨y13,h13,h⟩:=Ah h;refine O8 (.ftr nz_ .int (x12.drop y13.1)) [] [.agg [ai bC,ai bD,.ftr nz_ sI dB],.ftr nz_ .int x12] _ (caps:=[.agg [ai bC,ai bD,.ftr nz_ sI dB]]) (args0:=[.agg [ai bC,ai bD,tS dB],tI x12]) trivial kr (Dz h13) kr (hr:=P2 h13) (m:=1000000) (Lu (oS 20 10 1) (oi 20 10) (.vec 81 1 1 (tvC (some nz_) sI ([x12.drop y13.1]))) trivial (Ej kr) ?_);obtain ⟨g14,h⟩:=Ak h;refine rs2 (oS 0 11 (u0.length+1)) (oi 0 1) (oi 0 11) (.vec 81 1 (u0.length+1) (tvC (some nz_) sI (u0++[x12.drop y13.1]))) (Afq (t':=sI) (t:=sI) (t2:=sI) (e2:=81) (q:=oi 20 10) (m:=some nz_) (z:=x12.drop y13.1) (o:=oi 0 1) (xs:=u0) (len:=u0.length) kr kr rfl kr kr g14) (rsT 1 (Ap (bn_ (tn_ ⟨_,E4 (N:=u0.length+1) (oi 0 11) 81 (some nz_) sI (u0++[x12.drop y13.1]) kr (by simp),Aa 15 (raH h fun h=>rsT 1 (Ap (tn_ ?_)))⟩))));obtain rfl:=zj h;exact jLw hn6 ((wL 5 ((by simp):u0.length+1=(u0++[x12.drop y13.1]).length)).trans (Ag [(oi 0 1,oi 0 11)]))
def Bn (u2:LL) (u3 u4:Int) (u5:LL) (u0:Nat) (u1:LL):Option (Ctl (Nat×LL) (LL)) :=
 cond (decide ((u0:Int)<(u2.length:Int)))
 ((u2[u0]?).bind fun x12 =>
 (Bh u3 u4 u5 x12).bind fun y13 =>
 og (u1.length+1<=1073741824/\(u1.length+1)*24<=140737488355328) <|
 og (u0+1<4611686018427387904) <|
 some (Ctl.next (u0+1,u1++[x12.take y13])))
 (some (Ctl.out u1))
def Bb (u5 u6:Int) (u0:LL) (u1 u2:Int) (u3:LL):Option (LL) :=
 (Aq (fun s_:Nat×LL=>Bn u0 u1 u2 u3 s_.1 s_.2) 4611686018427387904 (0,([]:List (List Int)))).bind fun u4 =>
some u4
theorem Cp (h:Bb bA bB dA bC bD dB=some dC):Ada Tryz.prog Tab 129 [.agg [ai bA,ai bB,tS dA],.fn 1000131 [.agg [ai bC,ai bD,tS dB]]] (oS 0 1 dC.length) [(oi 0 1,.tv 81 none sI dC)]:=by
 refine Ai9 kr Tryz.func129 (Bt kr) (fun nz_=>[.agg [ai bA,ai bB,.ftr nz_ sI dA],.fn 1000131 [.agg [ai bC,ai bD,.ftr nz_ sI dB]]]) (n:=24) kr (fun _=>by simp) (tl:=fun nz_=>[(0,.agg [ai bA,ai bB,.ftr nz_ sI dA]),(1,.fn 1000131 [.agg [ai bC,ai bD,.ftr nz_ sI dB]])]) (fun _=>rfl) (fun _=>⟨_,_,rfl,⟨_,rfl,⟨_,_,rfl,rfl,⟨_,_,rfl,rfl,⟨_,_,rfl,rfl,rfl⟩⟩⟩⟩,⟨_,_,rfl,⟨_,rfl,⟨_,_,rfl,⟨_,rfl,⟨_,_,rfl,rfl,⟨_,_,rfl,rfl,⟨_,_,rfl,rfl,rfl⟩⟩⟩⟩,rfl⟩⟩,rfl⟩⟩) (fun _=>by kernel_rfl) (fun _ _=>rfl) fun nz_=>Ae (Ab (Aa 5 (Lu (oS 8 3 0) (oi 8 3) (.vec 81 1 0 (tvC (some nz_) sI ([]:List (List Int)))) trivial (Ej kr) (rsT 1 (Ap (tn_ ⟨_,E4 (N:=0) (oi 8 3) 81 (some nz_) sI ([]:List (List Int)) kr rfl,sqF h (fun u5=>sT [(5,oS 0 1 u5.length)] [(oi 0 1,.tv 81 (some nz_) sI u5)]) ?_ fun u5 h=>Ae (Ac (by obtain rfl:=osj h;exact Cz [oS 0 1 u5.length] (Ag (tl:=[(4,oS 0 1 u5.length)]) (g:=2) [])))⟩))))))
 intro _ h;refine Ae (Ad (lpF h (fun (u8,u0)=>sT [(1,.fn 1000131 [.agg [ai bC,ai bD,.ftr nz_ sI dB]]),(5,oS 0 1 u0.length),(10,.ftr nz_ sI dA),(11,an dA.length),(12,an u8)] [(oi 0 1,.tv 81 (some nz_) sI u0)]) (Ag [(oi 0 1,oi 8 3)]) ?_));rintro n_ ⟨u8,u0⟩ c_ h hn6;refine Ae (Ab (kQ h (fun _ h=>skW (Ab (Ad (Ab (Aa 6 (riH sI h fun x12 _ h=>rsT 2 (rnW (Aa 13 (rsT 3 ?_))))))))) fun _ h=>lxT (have h:=jO h hn6;jE [])));obtain ⟨y13,h13,h⟩:=Ah h;refine O8 (.ftr nz_ .int (x12.take y13)) [] [.agg [ai bC,ai bD,.ftr nz_ sI dB],.ftr nz_ .int x12] _ (caps:=[.agg [ai bC,ai bD,.ftr nz_ sI dB]]) (args0:=[.agg [ai bC,ai bD,tS dB],tI x12]) trivial kr (Eg h13) kr (hr:=P7 h13) (m:=1000000) (Lu (oS 20 10 1) (oi 20 10) (.vec 81 1 1 (tvC (some nz_) sI ([x12.take y13]))) trivial (Ej kr) ?_);obtain ⟨g14,h⟩:=Ak h;refine rs2 (oS 0 11 (u0.length+1)) (oi 0 1) (oi 0 11) (.vec 81 1 (u0.length+1) (tvC (some nz_) sI (u0++[x12.take y13]))) (Afq (t':=sI) (t:=sI) (t2:=sI) (e2:=81) (q:=oi 20 10) (m:=some nz_) (z:=x12.take y13) (o:=oi 0 1) (xs:=u0) (len:=u0.length) kr kr rfl kr kr g14) (rsT 1 (Ap (bn_ (tn_ ⟨_,E4 (N:=u0.length+1) (oi 0 11) 81 (some nz_) sI (u0++[x12.take y13]) kr (by simp),Aa 15 (raH h fun h=>rsT 1 (Ap (tn_ ?_)))⟩))));obtain rfl:=zj h;exact jLw hn6 ((wL 5 ((by simp):u0.length+1=(u0++[x12.take y13]).length)).trans (Ag [(oi 0 1,oi 0 11)]))
def Kb (y7:LL) (a0:Int) (u0:Nat) (u1:LL):Option (Ctl (Nat×LL) (LL)) :=
 cond (decide ((u0:Int)<(y7.length:Int)))
 ((y7[u0]?).bind fun x14 =>
 (Dp (x14.length:Int)).bind fun y16 =>
 (Cc a0 y16 (-1) x14).bind fun y18 =>
 og (y18.length=y16.length) <|
 og (u1.length+([y18]).length<=1073741824/\(u1.length+([y18]).length)*24<=140737488355328) <|
 og (u0+1<4611686018427387904) <|
 some (Ctl.next (u0+1,u1++([y18]))))
 (some (Ctl.out u1))
def J3 (y28 y23:LL) (a0 u2:Int) (y24:LL) (u3:Int) (u0:Nat) (u1:LL):Option (Ctl (Nat×LL) (LL)) :=
 cond (decide ((u0:Int)<(y28.length:Int)))
 ((y28[u0]?).bind fun x35 =>
 og ((0:Int)<=0/\0<=(y23.length:Int)/\(y23.length:Int)<=(x35.length:Int)) <|
 (H1 a0 (x35.take y23.length) y23 u2).bind fun y38 =>
 og ((0:Int)<=(y23.length:Int)/\(y23.length:Int)<=(x35.length:Int)/\(x35.length:Int)<=(x35.length:Int)) <|
 (H1 a0 (x35.drop y23.length) y24 u3).bind fun y41 =>
 (C3 ([y38,y41])).bind fun y42 =>
 og (u1.length+1<=1073741824/\(u1.length+1)*24<=140737488355328) <|
 og (u0+1<4611686018427387904) <|
 some (Ctl.next (u0+1,u1++[y42])))
 (some (Ctl.out u1))
def Jx (a0 u0 u2:Int) (u3:LL) (u4 u1:Int) (u5:LL):Option (LL) :=
 (Ba u0 u2 u3 u0 u2 u3).bind fun y4 =>
((Bb u4 u1 u5 u4 u1 u5).bind fun y7 =>
 Aq (fun s_:Nat×LL=>Kb y7 a0 s_.1 s_.2) 4611686018427387904 (0,y4)).bind fun u6 =>
(Bb u0 u2 u3 u0 u2 u3).bind fun y23 =>
(Ba u4 u1 u5 u4 u1 u5).bind fun y24 =>
((Jg a0 u6 u2).bind fun y28 =>
 Aq (fun s_:Nat×LL=>J3 y28 y23 a0 u0 y24 u1 s_.1 s_.2) 4611686018427387904 (0,([]:LL))).bind fun u7 =>
(Bu a0 u0 u1 u7).bind fun y46 =>
some y46
theorem Xj (h:Jx bA bB bC dA bD bE dB=some dC):Cm Tryz.prog Tab 90 [ai bA,.agg [ai bB,ai bC,tS dA],.agg [ai bD,ai bE,tS dB]] [] (.agg [ai bB,ai bE,oS 1 1 dC.length]) [(oi 0 1,.cells 30 [ai bB,ai bE,oS 1 1 dC.length]),(oi 1 1,.mat 81 (oi 2 1) .int dC),(oi 2 1,.pool 3 .int dC)]:=by
 refine Bg kr Tryz.func90 (Bt kr) (n:=95) kr (by simp) rfl kr trivial ⟨trivial,⟨⟨3,.tail _ (.tail _ (.head _))⟩,⟨trivial,trivial⟩⟩⟩ (Ae (Ab (Aa 9 (rsT 3 ?_))));obtain ⟨y4,h4,h⟩:=Ah h;refine Apc (oS 336 7 y4.length) [(oi 336 7,some (.tv 81 none sI y4))] (caps:=[]) trivial (Ck h4) kr (rsT 1 (rnW (sqF h (fun ua=>sT [(0,ai bA),(4,.box (oi 0 1) 0),(5,.box (oi 1 1) 0),(6,.box (oi 2 1) 0),(7,oS 3 1 ua.length)] [(oi 0 1,.cells 30 [ai bB,ai bC,tS dA]),(oi 1 1,.cells 30 [ai bD,ai bE,tS dB]),(oi 2 1,.cells 30 [ai 0,ai 0,.nils]),(oi 3 1,.tv 81 none sI ua)]) ?_ ?_)))
 ·intro _ h;refine Ab (Aa 15 (rsT 3 ?_));obtain ⟨y7,h7,h⟩:=Ah h;refine Apc (oS 400 12 y7.length) [(oi 400 12,some (.tv 81 none sI y7))] (caps:=[]) trivial (Cp h7) kr (rsT 2 (rnW (Ad (lpF h (fun (ub,u2)=>sT [(0,ai bA),(4,.box (oi 0 1) 0),(5,.box (oi 1 1) 0),(6,.box (oi 2 1) 0),(7,oS 3 1 u2.length),(25,oS 4 1 y7.length),(26,an y7.length),(27,an ub)] [(oi 0 1,.cells 30 [ai bB,ai bC,tS dA]),(oi 1 1,.cells 30 [ai bD,ai bE,tS dB]),(oi 2 1,.cells 30 [ai 0,ai 0,.nils]),(oi 3 1,.tv 81 none sI u2),(oi 4 1,.tv 81 none sI y7)]) (Ag [(oi 0 1,oi 4 1),(oi 1 1,oi 5 2),(oi 2 1,oi 6 3),(oi 3 1,oi 336 7),(oi 4 1,oi 400 12)]) ?_))));rintro n_ ⟨ub,u2⟩ c_ h hn8
  (try dsimp only at h);refine Ae (Ab (kQ h (fun q11 h=>?_) fun q11 h=>?_))
  ·have q11_:=of_decide_eq_true q11;refine skW (Ab (Ad (Ab (Aa 6 ?_))));obtain ⟨x14,e14,h⟩:=Ah h;refine zO (oi 4 1) sI y7.length (Ai e14) (rsl (tI x14) (Amy (o:=oi 4 1) (k:=0) (e1:=81) (N:=List.length y7) (t:=sI) (m:=none) (xs:=y7) (z:=x14) kr kr e14 kr) (rsT 1 (rnW (Ab (Aa 10 (rsT 2 (rcH h Fa fun y16 h=>rsT 1 (rnW (Ab (Aa 14 (rsT 3 (rcM h [(oi 0 0,oi 528 8)] [ai bA,oI 528 8 y16.length,ai (-1),tI x14] (fun h=>L2 h rfl) ⟨kr,trivial⟩ (aR kr) (Ar kr kr ⟨Bi kr,trivial⟩) fun y18 h=>Ap (tn_ ?_)))))))))))));obtain ⟨g19,h⟩:=Ak h;refine ⟨_,Akc (e:=3) (t:=.int) (xs:=y18) 10 (oi 528 8) kr kr g19.symm,Aa 19 (rsT 2 (rsU (tS ([y18])) [] (Abl (t:=.int) (yss:=[y18]) (Dv (t:=.int) (c:=tI y18) (ys:=y18) kr Hm Rb) kr) ?_))⟩;obtain ⟨g20,h⟩:=Ak h;refine rs2 (oS 3 17 (u2.length+([y18]).length)) (oi 3 1) (oi 3 17) (.vec 81 1 (u2.length+([y18]).length) (tvC none sI (u2++([y18])))) (Am2 (o:=oi 3 1) (t:=sI) (t':=sI) (len:=u2.length) (N:=u2.length) (m:=none) (xs:=u2) (ys:=[y18]) kr kr rfl rfl (Afy kr) g20) (rsT 1 (Ap (bn_ (tn_ ⟨_,E4 (N:=u2.length+([y18]).length) (oi 3 17) 81 none sI (u2++([y18])) kr (by simp),Aa 21 ?_⟩))));obtain ⟨g21,h⟩:=Ak h;refine zA g21 (rsT 1 (Ap (tn_ ?_)));obtain rfl:=zj h;exact jLw hn8 ((wL 7 ((by simp):u2.length+([y18]).length=(u2++([y18])).length)).trans (Ag [(oi 3 1,oi 3 17)]))
  have q11_:=of_decide_eq_false q11;refine lxT ?_;have h:=jO h hn8
  (try dsimp only at h);exact jE []
 intro ua h
 (try dsimp only at h);refine Ab (An 12 (dsT 3 ?_));obtain ⟨y23,h23,h⟩:=Ah h;refine App (oS 736 5 y23.length) [(oi 736 5,some (.tv 81 none sI y23))] (caps:=[]) trivial (Cp h23) kr (dzl (.agg [ai bD,ai bE,tS dB]) (dzl (.agg [ai bD,ai bE,tS dB]) (dz0 (.fn 1000130 [.agg [ai bD,ai bE,tS dB]]) ?_)));obtain ⟨y24,h24,h⟩:=Ah h;refine App (oS 800 9 y24.length) [(oi 800 9,some (.tv 81 none sI y24))] (caps:=[]) trivial (Ck h24) kr (dz0 (oS 736 5 y23.length) (dz0 (oS 800 9 y24.length) (Ct ⟨Akj kr,⟨Akj kr,trivial⟩⟩ (tn_ (wr_ (Ab (Aa 14 (Lu (oS 51 12 0) (oi 51 12) (.vec 81 1 0 []) trivial (Ej kr) (rsT 1 (Ap (tn_ ⟨_,Dk (e1:=81) (n:=0) 9000 (oi 51 12) 3 .int kr kr rfl kr kr,sqF h (fun u9=>sT [(0,ai bA),(4,.box (oi 0 1) 0),(5,.box (oi 1 1) 0),(6,.box (oi 2 1) 0),(13,oS 3 1 u9.length)] [(oi 0 1,.cells 30 [ai bB,ai bC,tS dA]),(oi 1 1,.cells 30 [ai bD,ai bE,tS dB]),(oi 2 1,.cells 30 [ai 0,ai 0,.nils]),(oi 3 1,.mat 81 (oi 4 1) .int u9),(oi 4 1,.pool 3 .int u9)]) ?_ ?_⟩)))))))))))
 ·intro _ h;refine Ab (Aa 22 (rsT 4 (rcM h [] [ai bA,oS 3 1 ua.length,ai bC] Acd trivial (.cons (.ren kr) (.cons (.gnd kr (Ah1 (e:=81) (m:=none) (t:=sI) (xs:=ua) ((E0 kr kr kr).trans kr) rfl)) (.cons (.ren kr) .nil))) (Ar kr kr trivial) fun y28 h=>rsT 2 (rnW (Ad (lpF h (fun (u3,u6)=>sT [(0,ai bA),(4,.box (oi 0 1) 0),(5,.box (oi 1 1) 0),(6,.box (oi 2 1) 0),(11,oS 3 1 y23.length),(12,oS 4 1 y24.length),(13,oS 5 1 u6.length),(56,oS 7 1 y28.length),(57,an y28.length),(58,an u3)] [(oi 0 1,.cells 30 [ai bB,ai bC,tS dA]),(oi 1 1,.cells 30 [ai bD,ai bE,tS dB]),(oi 2 1,.cells 30 [ai 0,ai 0,.nils]),(oi 3 1,.tv 81 none sI y23),(oi 4 1,.tv 81 none sI y24),(oi 5 1,.mat 81 (oi 6 1) .int u6),(oi 6 1,.pool 3 .int u6),(oi 7 1,.mat 81 (oi 8 1) .int y28),(oi 8 1,.pool 3 .int y28)]) (Ag [(oi 3 1,oi 736 5),(oi 4 1,oi 800 9),(oi 5 1,oi 51 12),(oi 6 1,oi 9000 14),(oi 7 1,oi 896 19),(oi 8 1,oi 897 19)]) ?_))))));rintro n_ ⟨u3,u6⟩ c_ h hn29
  (try dsimp only at h);refine Ae (Ab (kQ h (fun q32 h=>?_) fun q32 h=>?_))
  ·have q32_:=of_decide_eq_true q32;refine skW (Ab (Ad (Ab (Aa 6 ?_))));obtain ⟨x35,e35,h⟩:=Ah h;refine zO (oi 7 1) sI y28.length (Ai e35) (rsl (.own (kid (oi 8 1) u3) .int 0 x35.length) (Ec (o:=oi 7 1) (p:=oi 8 1) (e1:=81) (u:=.int) (xss:=y28) (row:=x35) (j:=u3) kr kr e35) (rsT 1 (rnW (Ab (An 16 (dsT 4 ?_))))));obtain ⟨g37,h⟩:=Ak h;obtain ⟨y38,h38,h⟩:=Ah h;refine ds0 (.own (kid (oi 8 1) u3) .int 0 y23.length) (Jj (t:=.int) (i:=kid (oi 8 1) u3) (off:=0) (len:=x35.length) (l:=0) (h:=(y23.length:Int)) kr kr kr rfl g37 rfl oM) (dz0 (oS 3 1 y23.length) (dz0 (.box (oi 0 1) 0) (dzl (ai bB) (O4 (oI 1120 14 y38.length) [nI 1120 14 y38] [ai bA,.own (kid (oi 8 1) u3) .int 0 y23.length,oS 3 1 y23.length,ai bB] _ (caps:=[]) (args0:=[ai bA,tI (x35.take y23.length),tS y23,ai bB]) trivial (Al kr (Al (Afe (e:=3) (u:=.int) (xs:=x35) ((E6 (Pz (t:=.int) (off:=0) (len:=y23.length) 1 rfl kr)).trans (Be kr e35)) oM) (Al (Ah1 (e:=81) (m:=none) (t:=sI) (xs:=y23) ((E6 (Pz (t:=sI) (off:=0) (len:=y23.length) 2 rfl kr)).trans kr) rfl) (Al kr Bz)))) (Ro h38) kr (dz0 (oI 1120 14 y38.length) (Ct (As kr) (tn_ (wr_ (Ab (An 26 (dsT 4 ?_)))))))))));obtain ⟨g40,h⟩:=Ak h;obtain ⟨y41,h41,h⟩:=Ah h;refine ds0 (.own (kid (oi 8 1) u3) .int y23.length (x35.length - y23.length)) (Jj (t:=.int) (i:=kid (oi 8 1) u3) (off:=0) (len:=x35.length) (l:=(y23.length:Int)) (h:=(x35.length:Int)) kr kr kr rfl g40 (Nat.zero_add _) oM) (dz0 (oS 4 1 y24.length) (dz0 (.box (oi 1 1) 1) (dzl (ai bE) (O4 (oI 1264 24 y41.length) [nI 1264 24 y41] [ai bA,.own (kid (oi 8 1) u3) .int y23.length (x35.length - y23.length),oS 4 1 y24.length,ai bE] _ (caps:=[]) (args0:=[ai bA,tI (x35.drop y23.length),tS y24,ai bE]) trivial (Al kr (Al (Aor (e:=3) (u:=.int) (xs:=x35) ((E6 (Pz (t:=.int) (off:=y23.length) (len:=x35.length - y23.length) 1 rfl kr)).trans (Be kr e35)) oM (by rw [List.take_of_length_le (by rw [List.length_drop];omega)])) (Al (Ah1 (e:=81) (m:=none) (t:=sI) (xs:=y24) ((E6 (Pz (t:=sI) (off:=0) (len:=y24.length) 2 rfl kr)).trans kr) rfl) (Al kr Bz)))) (Ro h41) kr (dz0 (oI 1264 24 y41.length) (Ct (As kr) (tn_ (wr_ (Aa 34 (rsT 3 (rsU (tS ([y38,y41])) [(oi 1120 14,none),(oi 1264 24,none)] (Abl (t:=.int) (yss:=[y38,y41]) (Dv (t:=.int) (c:=oI 1120 14 y38.length) (ys:=y38) kr (I2 (e:=3) kr rfl) (Dv (t:=.int) (c:=oI 1264 24 y41.length) (ys:=y41) kr (I2 (e:=3) kr rfl) Rb)) kr) (rcH h Hz fun y42 h=>Lu (oS 85 31 1) (oi 85 31) (.vec 81 1 1 ([oI 1344 30 y42.length])) trivial (Ej kr) ?_))))))))))));obtain ⟨g43,h⟩:=Ak h;refine zV (oi 5 1) (oi 85 31) (oi 6 1) u6 [oI 1344 30 y42.length] g43 (rsT 1 (Ap (bn_ (tn_ ⟨_,D3 (e1:=81) (e:=3) (u:=.int) (n:=u6.length+1) (len:=y42.length) (row:=y42) (ys:=y42) (xss:=u6) 9000 (oi 5 32) (oi 6 1) (oi 1344 30) kr kr rfl kr kr (M6 rfl) (M2 rfl) kr kr kr,Aa 37 ?_⟩))));obtain ⟨g44,h⟩:=Ak h;refine zA g44 (rsT 1 (Ap (tn_ ?_)));obtain rfl:=zj h;exact jLw hn29 ((wL 13 ((by simp):u6.length+1=(u6++[y42]).length)).trans (Ag [(oi 5 1,oi 5 32),(oi 6 1,oi 9000 34)]))
  have q32_:=of_decide_eq_false q32;refine lxT ?_;have h:=jO h hn29
  (try dsimp only at h);exact jE [(oi 3 1,oi 5 1),(oi 4 1,oi 6 1)]
 intro u9 h
 (try dsimp only at h);refine Ab (Aa 10 (rsT 6 (rcM h [] [ai bA,ai bB,ai bE,oS 3 1 u9.length] En trivial (.cons (.ren kr) (.cons (.ren kr) (.cons (.ren kr) (.cons (.gnd kr (F6 (p:=oi 4 1) (e1:=81) (e:=3) (u:=.int) (xss:=u9) ((E0 kr kr kr).trans kr) (H8 kr kr (Br kr) kr) rfl)) .nil)))) (Ar kr kr trivial) fun y46 h=>rsB 1 (rnW (Ac ?_)))));obtain rfl:=zj h;exact Cz [.agg [ai bB,ai bE,oS 1 1 y46.length]] (Ag (tl:=[(6,.box (oi 0 1) 0)]) (g:=2) [(oi 0 1,oi 2 1),(oi 1 1,oi 1505 8),(oi 2 1,oi 1506 8)])
end


section
open Go.RowKit Go.Deep
set_option maxRecDepth 4000
set_option maxHeartbeats 4800000
variable {bA bB bC:Int} {gA:ByteArray} {pA:Int×Int×LL}
def A5 (a0 u0 u1:Int) (u2:ByteArray):Option (Int×Int×LL) :=
 cond (u0==1)
 ((D1 u1).bind fun y7 =>
 some (u1,u1,y7))
 (cond (u0==2)
  ((Bu a0 2 2 ([[1,0,0,1],[0,1,1,0]])).bind fun y11 =>
  some (2,2,y11))
  (cond (decide (9<=u0))
   ((K5 u0).bind fun y15 =>
   (Di y15).bind fun y16 =>
   (K5 u0).bind fun y18 =>
   (Hs y18 u1).bind fun y19 =>
   (Bu a0 y16.1 y16.2 y19).bind fun y20 =>
   (Ni a0 y16.1 y16.2 y20).bind fun y21 =>
   some (y16.2,y16.1,y21))
   ((Di u0).bind fun y23 =>
   (Hs u0 u1).bind fun y25 =>
   (Bu a0 y23.1 y23.2 y25).bind fun y26 =>
   some (y23.1,y23.2,y26))))
theorem So (h:A5 bA bB bC gA=some pA):Cm Tryz.prog Tab 92 [ai bA,.agg [ai bB,ai bC,.str gA]] [] (.agg [ai pA.1,ai pA.2.1,oS 1 1 pA.2.2.length]) [(oi 0 1,.cells 30 [ai pA.1,ai pA.2.1,oS 1 1 pA.2.2.length]),(oi 1 1,.mat 81 (oi 2 1) .int pA.2.2),(oi 2 1,.pool 3 .int pA.2.2)]:=by
 exact Bg kr Tryz.func92 (Bt kr) (n:=59) kr (by simp) rfl kr trivial ⟨trivial,⟨⟨3,.tail _ (.tail _ (.head _))⟩,⟨trivial,trivial⟩⟩⟩ (Ae (Ab (Ad (Ae (kQ h (fun _ h=>Ab (Aa 11 (rsT 2 (rcM h [] [ai bC] Pn trivial (aR kr) (Ar kr kr trivial) fun y7 h=>rsB 1 (rnW (Ac (br_ (tr_ (by obtain rfl:=osj h;exact Cz [.agg [ai bC,ai bC,oS 1 1 y7.length]] (Ag (tl:=[(4,.box (oi 0 1) 0)]) (g:=2) [(oi 0 1,oi 4 2),(oi 1 1,oi 209 9),(oi 2 1,oi 210 9)])))))))))) fun _ h=>Ae (kQ h (fun _ h=>Ab (Aa 17 (rsB 3 (rsU (tS ([[1,0,0,1],[0,1,1,0]])) [(oi 19 12,none),(oi 20 13,none)] (Abl (t:=.int) (yss:=[[1,0,0,1],[0,1,1,0]]) (Dv (t:=.int) (c:=oI 19 12 4) (ys:=[1,0,0,1]) kr (I2 (e:=3) kr rfl) (Dv (t:=.int) (c:=oI 20 13 4) (ys:=[0,1,1,0]) kr (I2 (e:=3) kr rfl) Rb)) kr) (rcM h [] [ai bA,ai 2,ai 2,tS ([[1,0,0,1],[0,1,1,0]])] En trivial (aR kr) (Ar kr kr trivial) fun y11 h=>rsB 1 (rnW (Ac (br_ (tr_ (by obtain rfl:=osj h;exact Cz [.agg [ai 2,ai 2,oS 1 1 y11.length]] (Ag (tl:=[(4,.box (oi 0 1) 0)]) (g:=2) [(oi 0 1,oi 4 2),(oi 1 1,oi 353 15),(oi 2 1,oi 354 15)]))))))))))) fun _ h=>Ae (kQ h (fun _ h=>Ab (Aa 21 (rsT 2 (rcH h N5 fun y15 h=>rcH h Gi fun y16 h=>rsB 2 (rnW (Ab (An 36 (dsT 8 (dcH h N5 fun y18 h=>ds0 (.box (oi 3 1) 1) kr (dsl (ai bC) kr (dcH h Lo fun y19 h=>dcM h [] [ai bA,ai y16.1,ai y16.2,tS y19] En trivial (aR kr) (Ar kr kr trivial) (Qx kr) fun y20 h=>dcM h [] [ai bA,.agg [ai y16.1,ai y16.2,oS 689 33 y20.length]] Xd trivial (.cons (.ren kr) (.cons (.agg (.cons (.ren kr) (.cons (.ren kr) (.cons (.gnd kr (F6 (p:=oi 690 33) (e1:=81) (e:=3) (u:=.int) (xss:=y20) ((E0 kr kr kr).trans kr) (H8 kr kr (Uc [ai y16.1,ai y16.2,oS 689 33 y20.length] (t:=sI) (off:=0) (len:=y20.length) (i:=oi 689 33) (e1:=81) (z:=1) (m:=y20.length) 1 2 rfl kr rfl kr (Br kr)) kr) rfl)) .nil)))) .nil)) (Ar kr kr trivial) (Qx kr) fun y21 h=>M9 (oi 4 2) (oi 4 2) (.cells 30 [ai y16.2,ai y16.1,oS 705 34 y21.length]) kr (Ct (As kr) (tn_ (wr_ (Ac (br_ (tr_ (by obtain rfl:=osj h;exact Cz [.agg [ai y16.2,ai y16.1,oS 1 1 y21.length]] (Ag (tl:=[(4,.box (oi 0 1) 0)]) (g:=2) [(oi 0 1,oi 4 2),(oi 1 1,oi 705 34),(oi 2 1,oi 706 34)]))))))))))))))))))) fun _ h=>Ay (bn_ (tn_ (wr_ (Ab (Aa 20 (rsT 2 (rcH h Gi fun y23 h=>rsB 2 (rnW (Ab (An 32 (dsT 9 (dcH h Lo fun y25 h=>dcM h [] [ai bA,ai y23.1,ai y23.2,tS y25] En trivial (aR kr) (Ar kr kr trivial) (Qx kr) fun y26 h=>M9 (oi 4 2) (oi 4 2) (.cells 30 [ai y23.1,ai y23.2,oS 929 30 y26.length]) kr (Ct (As kr) (tn_ (wr_ (Ac (by obtain rfl:=osj h;exact Cz [.agg [ai y23.1,ai y23.2,oS 1 1 y26.length]] (Ag (tl:=[(4,.box (oi 0 1) 0)]) (g:=2) [(oi 0 1,oi 4 2),(oi 1 1,oi 929 30),(oi 2 1,oi 930 30)])))))))))))))))))))))))))
end


section
abbrev Rl3:=Int×Int×List (List Int)
def Mz (p:Int) (x y:Rl3):Option Rl3:=(Jx p x.1 x.2.1 x.2.2 y.1 y.2.1 y.2.2).map fun z=>(x.1,y.2.1,z)
def Qk (p:Int) (x y:Rl3):Option Rl3:=(Mn p x.1 x.2.1 x.2.2 y.1 y.2.1 y.2.2).map fun z=>(wI (x.1+y.1),wI (x.2.1+y.2.1),z)
def Bw (a1_0:List (Int×Int×ByteArray)) (a0:Int) (l5_m13:Nat) (l5_m5:List Rl3):Option (Ctl (Nat×List Rl3) (List Rl3)) :=
 cond (decide (((l5_m13:Nat):Int)<((a1_0.length:Nat):Int)))
 (Option.bind (Option.bind (a1_0[l5_m13]?) fun x11 =>
  cond (x11.1==15)
   (og ((0:Int)<=0/\0<=wI ((wI (((l5_m5.length:Nat):Int) - 1)) - 1)/\wI ((wI (((l5_m5.length:Nat):Int) - 1)) - 1)<=((l5_m5.length:Nat):Int)) <|
   Option.bind (Cl l5_m5 (wI ((wI (((l5_m5.length:Nat):Int) - 1)) - 1))) fun x18 =>
   Option.bind (Cl l5_m5 (wI (((l5_m5.length:Nat):Int) - 1))) fun x20 =>
   Option.bind (Mz a0 x18 x20) fun y21 =>
   og ((wI ((wI (((l5_m5.length:Nat):Int) - 1)) - 1)).toNat<=l5_m5.length/\(wI ((wI (((l5_m5.length:Nat):Int) - 1)) - 1)).toNat+1<=1073741824/\((wI ((wI (((l5_m5.length:Nat):Int) - 1)) - 1)).toNat+1)*40<=140737488355328) <|
   some (l5_m5.take ((wI ((wI (((l5_m5.length:Nat):Int) - 1)) - 1)).toNat)++[y21]))
   (cond (x11.1==16)
    (og ((0:Int)<=0/\0<=wI ((wI (((l5_m5.length:Nat):Int) - 1)) - 1)/\wI ((wI (((l5_m5.length:Nat):Int) - 1)) - 1)<=((l5_m5.length:Nat):Int)) <|
    Option.bind (Cl l5_m5 (wI ((wI (((l5_m5.length:Nat):Int) - 1)) - 1))) fun x27 =>
    Option.bind (Cl l5_m5 (wI (((l5_m5.length:Nat):Int) - 1))) fun x29 =>
    Option.bind (Qk a0 x27 x29) fun y30 =>
    og ((wI ((wI (((l5_m5.length:Nat):Int) - 1)) - 1)).toNat<=l5_m5.length/\(wI ((wI (((l5_m5.length:Nat):Int) - 1)) - 1)).toNat+1<=1073741824/\((wI ((wI (((l5_m5.length:Nat):Int) - 1)) - 1)).toNat+1)*40<=140737488355328) <|
    some (l5_m5.take ((wI ((wI (((l5_m5.length:Nat):Int) - 1)) - 1)).toNat)++[y30]))
    (Option.bind (A5 a0 x11.1 x11.2.1 x11.2.2) fun y32 =>
    og (l5_m5.length+1<=1073741824/\(l5_m5.length+1)*40<=140737488355328) <|
    some (l5_m5++[y32])))) fun l9_m5 =>
 og (l5_m13+1<4611686018427387904) <|
 some (Ctl.next (l5_m13+1,l9_m5)))
 (some (Ctl.out l5_m5))
def Jc (a0:Int) (a1_0:List (Int×Int×ByteArray)):Option Rl3 :=
 Option.bind (Aq (fun s_:Nat×List Rl3=>Bw a1_0 a0 s_.1 s_.2) 4611686018427387904 (0,[])) fun l3_m5 =>
Option.bind (l3_m5[0]?) fun x36 =>
some (x36.1,x36.2.1,x36.2.2)
end
section
open Go.RowKit Go.Deep
theorem Abh {l:Loc} {n k:Nat} (h:(l.val n).ownBlock=some k):∃ c s,l=.at_ k c s:=by
 cases l with
 | nil=>cases h
 | at_ b c s=>cases h;exact ⟨c,s,rfl⟩
theorem ownsV.high {w:World} {lo:Nat} {e:TypeId} {sz n:Nat} {v:Value} {cs:List Value} (h:ownsV w 0 e sz v n cs) (hl:∀ k,v.ownBlock=some k->lo<=k):ownsV w lo e sz v n cs:=by
 refine ⟨h.1,?_⟩;rcases h.2 with hn|⟨g,cap,cur,e1,hb,rest⟩
 ·exact .inl hn
 ·exact .inr ⟨g,cap,cur,e1,hl g (by rw [e1];rfl),rest⟩
def MatR (R:Nat->Prop) (w:World) (v:Value) (xss:List (List Int)):Prop :=
 ∃ (l:Loc) (kl:List Loc) (ks:List Value),v=l.val xss.length/\(kl.length=xss.length/\ownsV w 0 81 1 (l.val xss.length) xss.length ks/\(∀ b c s,l=.at_ b c s->s=1) /\
  ∀ (k:Nat) (xs:List Int) (l:Loc),xss[k]? =some xs->kl[k]? =some l->ks[k]? =some (l.val xs.length)/\ownsV w 0 3 1 (l.val xs.length) xs.length (Ty.int.cells xs)/\∀ b c s,l=.at_ b c s->s=1)/\Po (l :: kl)/\∀ b c s,Loc.at_ b c s∈l :: kl->R b/\b<w.heap.size
section
variable {R R':Nat->Prop} {w w':World} {v:Value} {xss:List (List Int)}
theorem MatR.keep (h:MatR R w v xss) (hb:∀ b,R b->b<w.heap.size->w'.heap[b]? =w.heap[b]?) (hs:w.heap.size<=w'.heap.size) (hR:∀ b,R b->b<w.heap.size->R' b):MatR R' w' v xss:=by
 obtain ⟨l,kl,ks,rfl,⟨h1,h2,h3,h4⟩,h5,h6⟩:=h;have hin:∀ (k:Nat) (l':Loc),kl[k]? =some l'->∀ b c s,l'=.at_ b c s->R b/\b<w.heap.size:=fun k l' hk b c s e=>h6 b c s (by subst e;exact List.mem_cons_of_mem _ (List.mem_of_getElem? hk))
 refine ⟨l,kl,ks,rfl,⟨h1,h2.block fun k hk=>?_,h3,fun k xs l' hx hl=>?_⟩,h5,fun b c s hm=>?_⟩
 ·obtain ⟨c,s,rfl⟩:=Abh hk;obtain ⟨g1,g2⟩:=h6 k c s List.mem_cons_self;exact hb k g1 g2
 ·obtain ⟨g1,g2,g3⟩:=h4 k xs l' hx hl;refine ⟨g1,g2.block fun j hj=>?_,g3⟩;obtain ⟨c,s,rfl⟩:=Abh hj;obtain ⟨q1,q2⟩:=hin k _ hl j c s rfl;exact hb j q1 q2
 ·obtain ⟨g1,g2⟩:=h6 b c s hm;exact ⟨hR b g1 g2,by omega⟩
theorem MatR.below (h:MatR R w v xss) (hb:Below w.heap.size w w'):MatR R w' v xss:=h.keep (fun b _ hlt=>hb.block b hlt) hb.size fun _ hr _=>hr
theorem MatR.mono (h:MatR R w v xss) (hR:∀ b,b<w.heap.size->R b->R' b):MatR R' w v xss:=h.keep (fun _ _ _=>rfl) (Nat.le_refl _) fun b hr hb=>hR b hb hr
theorem MatR.out (h:MatR R w v xss):∃ A c m,v=.slice A xss.length c/\Sl (fun _=>True) w (.slice .int) A c xss m:=by
 obtain ⟨l,kl,ks,rfl,⟨h1,h2,h3,h4⟩,h5,h6⟩:=h;obtain ⟨A,c,m,e,hs,_⟩:=At7 (t:=.int) (e':=3) (l:=l) (kl:=kl) rfl h1 h2 (fun k xs l' hx hl=>⟨(h4 k xs l' hx hl).1,(h4 k xs l' hx hl).2.1⟩) h5;exact ⟨A,c,m,e,Ar6 hs⟩
theorem MatR.of {lo:Nat} {l:Loc} {kl:List Loc} {ks:List Value} (h1:kl.length=xss.length) (h2:ownsV w lo 81 1 (l.val xss.length) xss.length ks) (h3:∀ b c s,l=.at_ b c s->s=1)
  (h4:∀ (k:Nat) (xs:List Int) (l:Loc),xss[k]? =some xs->kl[k]? =some l->ks[k]? =some (l.val xs.length)/\ownsV w lo 3 1 (l.val xs.length) xs.length (Ty.int.cells xs)/\∀ b c s,l=.at_ b c s->s=1) (h5:Po (l :: kl)):MatR (S5 lo) w (l.val xss.length) xss:=by
 refine ⟨l,kl,ks,rfl,⟨h1,h2.low (Nat.zero_le _),h3,fun k xs l' hx hl=>⟨(h4 k xs l' hx hl).1,(h4 k xs l' hx hl).2.1.low (Nat.zero_le _),(h4 k xs l' hx hl).2.2⟩⟩,h5,fun b c s hm=>?_⟩;rcases List.mem_cons.1 hm with e|hm
 ·exact h2.lt b (by rw [← e];rfl)
 ·obtain ⟨k,hk,e⟩:=List.mem_iff_getElem.1 hm;have hx:=gEg (show k<xss.length by omega);exact (h4 k _ _ hx (by rw [gEg hk,e])).2.1.lt b rfl
end
def StkV (lo:Nat) (w:World) (v:Value) (S:List Rl3):Prop :=
 ∃ cs:List Value,w.ownsRow lo 30 3 v S.length cs/\∀ (j:Nat) (x:Rl3),S[j]? =some x->∃ u,(cs.drop (j*3)).take 3=[.int .i64 x.1,.int .i64 x.2.1,u]/\MatR (fun b=>lo<=b/\some b≠v.ownBlock) w u x.2.2
section
variable {lo:Nat} {w w' w0:World} {v:Value} {S:List Rl3}
theorem StkV.lit (w:World) (hb:lo<=w.heap.size):StkV lo (w.alloc (.cells #[] 30)) (.slice (some ⟨w.heap.size,0,none⟩) 0 0) [] :=
 ⟨[],World.ownsRow_made w #[] 0 hb (by simp [maxLen]) (by simp),fun j x h=>by simp at h⟩
theorem StkV.below (h:StkV lo w v S) (hb:Below w.heap.size w w'):StkV lo w' v S:=by
 obtain ⟨cs,h1,h2⟩:=h
 exact ⟨cs,T7 h1 hb,fun j x hx=>by
  obtain ⟨u,e,hm⟩:=h2 j x hx;exact ⟨u,e,hm.below hb⟩⟩
theorem StkV.len (h:StkV lo w v S):∃ A c,v=.slice A S.length c/\S.length<=c/\c<=maxLen:=by
 obtain ⟨cs,h1,_⟩:=h;rcases h1.2 with ⟨rfl,hn⟩|⟨g,cap,cur,rfl,_,_,h2,h3,_⟩
 ·exact ⟨none,0,by rw [hn],by omega,by simp [maxLen]⟩
 ·exact ⟨_,cap,rfl,h2,h3⟩
theorem StkV.lt (h:StkV lo w v S):∀ k,v.ownBlock=some k->lo<=k/\k<w.heap.size:=by
 obtain ⟨cs,h1,_⟩:=h;exact fun k hk=>h1.lt k hk
theorem StkV.at (h:StkV lo w v S) {j:Nat} {x:Rl3} (hx:S[j]? =some x):∃ g c A q m,v=.slice (some ⟨g,0,none⟩) S.length c/\w.cell? ⟨g,j*3,none⟩=some (.int .i64 x.1)/\w.cell? ⟨g,j*3+1,none⟩=some (.int .i64 x.2.1)/\w.cell? ⟨g,j*3+2,none⟩=some (.slice A x.2.2.length q)/\Sl (fun _=>True) w (.slice .int) A q x.2.2 m/\MatR (fun b=>lo<=b/\some b≠v.ownBlock) w (.slice A x.2.2.length q) x.2.2:=by
 obtain ⟨cs,h1,h2⟩:=h;obtain ⟨u,e,hm⟩:=h2 j x hx;obtain ⟨A,q,m,rfl,hs⟩:=hm.out;have hj:=(gSi.1 hx).1
 have hg:∀ i u,[Value.int .i64 x.1,.int .i64 x.2.1,.slice A x.2.2.length q][i]? =some u->cs[j*3+i]? =some u:=fun i u hu=>by
  have hi:i<3:=by
   have:=(gSi.1 hu).1
   simpa using this
  rw [← e,List.getElem?_take_of_lt hi,List.getElem?_drop] at hu;exact hu
 rcases h1.2 with ⟨_,hn⟩|⟨g,cap,cur,rfl,rest⟩
 ·omega
 ·have hc:∀ i u,[Value.int .i64 x.1,.int .i64 x.2.1,.slice A x.2.2.length q][i]? =some u->w.cell? ⟨g,j*3+i,none⟩=some u:=fun i u hu=>by
   have:=h1.cells (g:=g) rfl _ _ (hg i u hu)
   rwa [B9,Nat.zero_add] at this
  exact ⟨g,cap,A,q,m,rfl,hc 0 _ rfl,hc 1 _ rfl,hc 2 _ rfl,hs,hm⟩
theorem StkV.cut {A:Option Addr} {n c k:Nat} (h:StkV lo w (.slice A n c) S) (hk:k<=S.length):StkV lo w (.slice A k c) (S.take k):=by
 obtain ⟨cs,h1,h2⟩:=h;have e1:(S.take k).length=k:=by rw [List.length_take];omega
 have hmul:k*3<=S.length*3:=Nat.mul_le_mul_right _ hk;have hcl:=h1.1;rcases h1.2 with ⟨hv,hn⟩|⟨g,cap,cur,hv,hb,hg,a1,a2,a3,a4⟩
 ·injection hv with q1 q2 q3
  subst q1 q2 q3;obtain rfl:k=0:=by omega
  refine ⟨[],⟨by simp,.inl ⟨rfl,by simp⟩⟩,fun j x hx=>by simp at hx⟩
 ·injection hv with q1 q2 q3
  subst q1 q2 q3;refine ⟨cs.take (k*3),⟨by rw [List.length_take,e1,hcl];omega,.inr ⟨g,c,cur,by rw [e1],hb,hg,by omega,a2,a3,by rw [e1,← a4,List.take_take,Nat.min_eq_left hmul]⟩⟩,fun j x hx=>?_⟩
  have hj:j<k:=by
   have:=(gSi.1 hx).1;omega
  rw [List.getElem?_take_of_lt hj] at hx;obtain ⟨u,e,hm⟩:=h2 j x hx;refine ⟨u,?_,hm⟩;have:(j+1)*3<=k*3:=Nat.mul_le_mul_right _ hj;rw [Nat.succ_mul] at this;rw [← e,List.drop_take,List.take_take,Nat.min_eq_left oM]
theorem StkV.push {x:Rl3} {u:Value} (h:StkV lo w0 v S) (hb:Below w0.heap.size w0 w) (hlo:lo<=w0.heap.size) (hm:MatR (S5 w0.heap.size) w u x.2.2) :
  ∃ olds,w.ownsRow lo 30 3 v S.length olds/\∀ v' w',w'.ownsRow lo 30 3 v' (S.length+1) (olds++[.int .i64 x.1,.int .i64 x.2.1,u])->w.grownBy w' v.ownBlock->(∀ g',v'.ownBlock=some g'->v.ownBlock=some g'∨w.heap.size<=g')->StkV lo w' v' (S++[x]):=by
 have hlt0:=h.lt;obtain ⟨olds,h1,h2⟩:=h;refine ⟨olds,T7 h1 hb,fun v' w' hown hg hwh=>?_⟩;have hol:=h1.1
 have keep:∀ {u:Value} {y:List (List Int)},MatR (fun b=>lo<=b/\some b≠v.ownBlock) w u y->MatR (fun b=>lo<=b/\some b≠v'.ownBlock) w' u y:=fun {u y} h =>
  h.keep (fun b hr hlt=>hg.block b hlt hr.2) hg.size fun b hr hlt=>⟨hr.1,fun e=>(hwh b e.symm).elim (fun q=>hr.2 q.symm) (fun q=>by omega)⟩
 refine ⟨_,by simpa using hown,fun j y hy=>?_⟩;by_cases e:j=S.length
 ·subst e;rw [List.getElem?_append_right (Nat.le_refl _),Nat.sub_self] at hy;obtain rfl:=osj hy;refine ⟨u,?_,keep (hm.mono fun b _ hr=>?_)⟩
  ·rw [List.drop_append_of_le_length oM,List.drop_of_length_le oM,List.nil_append];rfl
  ·have hr':w0.heap.size<=b:=hr;exact ⟨by omega,fun e=>by have:=(hlt0 b e.symm).2;omega⟩
 ·have hj:j<S.length:=by
   have:=(gSi.1 hy).1;simp at this;omega
  rw [List.getElem?_append_left hj] at hy;obtain ⟨u',e',hm'⟩:=h2 j y hy;have:(j+1)*3<=S.length*3:=Nat.mul_le_mul_right _ hj;rw [Nat.succ_mul] at this;refine ⟨u',?_,keep (hm'.below hb)⟩;rw [List.drop_append_of_le_length oM,List.take_append_of_le_length (by rw [List.length_drop];omega)];exact e'
end
section
variable {P:Program} {ops:Array Oper} {rest:List Oper} {o:Oper} {a:Act} {Q:Exit->Act->World->Prop}
theorem X7 {lo:Nat} {w w0:World} {v u:Value} {S:List Rl3} {y:Rl3} {K:Act->World->Prop} (s x:Operand) (ty:TypeId) (ho:o.op=.call { callee:=.builtin .append,args:= #[s,x],argTypes:= #[ty,ty] }) (bytes:Nat) {z:Value} (ht:P.underlying ty=some (.slice 30))
  (hinfo:(P.info? 30).map (fun i=>(i.zero,i.size,i.bytes))=some (some z,3,bytes)) (hzs:z.cells.size=3) (hs:a.eval s=v) (h:StkV lo w0 v S) (hb:Below w0.heap.size w0 w) (hlo:lo<=w0.heap.size) (hm:MatR (S5 w0.heap.size) w u y.2.2) (hu:u.oneCell'=true)
  {ad:Addr} {c:Nat} (hx:a.eval x=.slice (some ad) 1 c) (hc:∀ j q,[Value.int .i64 y.1,.int .i64 y.2.1,u][j]? =some q->w.cell? (ad.add j)=some q) (hbytes:(S.length+1)*bytes<=140737488355328) (h63:S.length+1<=maxLen)
  (hK:∀ v' w',StkV lo w' v' (S++[y])->Below lo w w'->K (a.put o.dst v') w'):o.wp P a w K Q:=by
 obtain ⟨i,hi,hz,hsize,hby⟩:=info_parts hinfo;obtain ⟨olds,hown,hpush⟩:=h.push hb hlo hm
 have h1:∀ q∈[Value.int .i64 y.1,.int .i64 y.2.1,u],q.oneCell'=true:=fun q hq=>by
  simp only [List.mem_cons,List.not_mem_nil,or_false] at hq;rcases hq with rfl|rfl|rfl
  ·rfl
  ·rfl
  ·exact hu
 obtain ⟨v',w',hr,h2,h3,h4⟩:=Xp (P:=P) w lo ty o.type 30 i z 3 bytes ht hi hz hsize hby hzs (by decide) v S.length olds hown ad 1 c [.int .i64 y.1,.int .i64 y.2.1,u] rfl hc h1 h63 hbytes (Nat.le_trans hlo hb.size);have hlt:=(h.below hb).lt;unfold Oper.wp execOp;simp only [ho,resolve,invoke,builtin,Sem.run_bind,Sem.run_pure,Result.andThen_ok,List.map_toArray,List.map_cons,List.map_nil,hs,hx,hr];exact hK v' w' (hpush v' w' h2 h3 h4) ((Below.refl lo w).grown h3 (Nat.le_trans hlo hb.size) (fun k hk=>(hlt k hk).1))
theorem Ae3 {lo:Nat} {w w0:World} {v u:Value} {S:List Rl3} {y:Rl3} (hgd:o.guard=none) (s x:Operand) (ty:TypeId) (ho:o.op=.call { callee:=.builtin .append,args:= #[s,x],argTypes:= #[ty,ty] }) (bytes:Nat) {z:Value} (ht:P.underlying ty=some (.slice 30))
  (hinfo:(P.info? 30).map (fun i=>(i.zero,i.size,i.bytes))=some (some z,3,bytes)) (hzs:z.cells.size=3) (hs:a.eval s=v) (h:StkV lo w0 v S) (hb:Below w0.heap.size w0 w) (hlo:lo<=w0.heap.size) (hm:MatR (S5 w0.heap.size) w u y.2.2) (hu:u.oneCell'=true)
  {ad:Addr} {c:Nat} (hx:a.eval x=.slice (some ad) 1 c) (hc:∀ j q,[Value.int .i64 y.1,.int .i64 y.2.1,u][j]? =some q->w.cell? (ad.add j)=some q) (hbytes:(S.length+1)*bytes<=140737488355328) (h63:S.length+1<=maxLen)
  (hL:∀ v' w',StkV lo w' v' (S++[y])->Below lo w w'->wpList P ops Q rest (a.put o.dst v') w'):wpList P ops Q (o :: rest) a w :=
 wpList_plain hgd fun _ hK=>X7 s x ty ho bytes ht hinfo hzs hs h hb hlo hm hu hx hc hbytes h63 fun v' w' g1 g2=>hK _ _ (hL v' w' g1 g2)
theorem T9 {lo:Nat} {w w0:World} {v u:Value} {S:List Rl3} {y:Rl3} {K:Act->World->Prop} {E:Prop} (hgd:o.guard=none) (s x:Operand) (ty:TypeId) (ho:o.op=.call { callee:=.builtin .append,args:= #[s,x],argTypes:= #[ty,ty] }) (bytes:Nat) {z:Value} (ht:P.underlying ty=some (.slice 30))
  (hinfo:(P.info? 30).map (fun i=>(i.zero,i.size,i.bytes))=some (some z,3,bytes)) (hzs:z.cells.size=3) (hs:a.eval s=v) (h:StkV lo w0 v S) (hb:Below w0.heap.size w0 w) (hlo:lo<=w0.heap.size) (hm:MatR (S5 w0.heap.size) w u y.2.2) (hu:u.oneCell'=true)
  {ad:Addr} {c:Nat} (hx:a.eval x=.slice (some ad) 1 c) (hc:∀ j q,[Value.int .i64 y.1,.int .i64 y.2.1,u][j]? =some q->w.cell? (ad.add j)=some q) (hbytes:(S.length+1)*bytes<=140737488355328) (h63:S.length+1<=maxLen)
  (hK:∀ v' w',StkV lo w' v' (S++[y])->Below lo w w'->K (a.put o.dst v') w'):if Region.wanted o (yielded ops a.tmps)=true then Oper.wp P o a w K Q else E:=by
 have hw:Region.wanted o (yielded ops a.tmps)=true:=by simp [Region.wanted,hgd]
 rw [if_pos hw];exact X7 s x ty ho bytes ht hinfo hzs hs h hb hlo hm hu hx hc hbytes h63 hK
end
end
section
section
variable {α β σ ρ:Type}
theorem Aej {body:σ->Option (Ctl σ ρ)} {Post:ρ->Prop} (n:Nat) (I:Nat->σ->Prop)
  (hs:∀ i s,i<n->I i s->(∃ s',body s=some (.next s')/\I (i+1) s')∨∃ r,body s=some (.out r)/\Post r) (he:∀ s,I n s->∃ r,body s=some (.out r)/\Post r) :
  ∀ (F k:Nat) (s:σ),k<=n->n - k<F->I k s->∃ r,Aq body F s=some r/\Post r
 | 0,_,_,_,h,_=>by omega
 | F+1,k,s,hk,h,hi=>by
  have key:(∃ r,body s=some (.out r)/\Post r)->∃ r,Aq body (F+1) s=some r/\Post r:=by
   rintro ⟨r,h1,h2⟩;exact ⟨r,by simp only [Aq,h1,obs,Ctl.then],h2⟩
  rcases Nat.lt_or_ge k n with hlt|hge
  ·rcases hs k s hlt hi with ⟨s',h1,h2⟩|h
   ·obtain ⟨r,h3,h4⟩:=Aej n I hs he F (k+1) s' hlt oM h2;exact ⟨r,by simp only [Aq,h1,obs,Ctl.then];exact h3,h4⟩
   ·exact key h
  ·obtain rfl:k=n:=by omega
   exact key (he s hi)
theorem L6 {body:σ->Option (Ctl σ ρ)} {Post:ρ->Prop} (n:Nat) (I:Nat->σ->Prop) {F:Nat} (hn:n<F) {s0:σ} (h0:I 0 s0)
  (hs:∀ i s,i<n->I i s->(∃ s',body s=some (.next s')/\I (i+1) s')∨∃ r,body s=some (.out r)/\Post r) (he:∀ s,I n s->∃ r,body s=some (.out r)/\Post r):∃ r,Aq body F s0=some r/\Post r :=
 Aej n I hs he F 0 s0 (Nat.zero_le _) oM h0
theorem Ji {body:σ->Option (Ctl σ ρ)} (n:Nat) (I:Nat->σ->Prop) {F:Nat} (hn:n<F) {s0:σ} (r:ρ) (h0:I 0 s0)
  (hs:∀ i s,i<n->I i s->(∃ s',body s=some (.next s')/\I (i+1) s')∨body s=some (.out r)) (he:∀ s,I n s->body s=some (.out r)):Aq body F s0=some r:=by
 obtain ⟨r',h1,rfl⟩:=L6 (Post:=fun r'=>r'=r) n I hn h0 (fun i s hi hI=>(hs i s hi hI).imp id fun h=>⟨r,h,rfl⟩) (fun s h=>⟨r,he s h,rfl⟩);exact h1
theorem A7 {body:σ->Option (Ctl σ ρ)} (n:Nat) (S:Nat->σ) {F:Nat} (hn:n<F) {s0:σ} (r:ρ) (h0:s0=S 0) (hs:∀ i,i<n->body (S i)=some (.next (S (i+1)))) (he:body (S n)=some (.out r)):Aq body F s0=some r:=by
 subst h0;refine Ji n (fun i s=>s=S i) hn r rfl (fun i s hi e=>.inl ?_) (fun s e=>by subst e;exact he);subst e;exact ⟨_,hs i hi,rfl⟩
theorem G3 {body:Nat->Option (Ctl Nat ρ)} (xs:List α) (q:α->Bool) (good bad:ρ) {F:Nat} (hn:xs.length<F) (hs:∀ i x,xs[i]? =some x->body i=some (if q x then .next (i+1) else .out bad)) (he:body xs.length=some (.out good)):Aq body F 0=some (if xs.all q then good else bad):=by
 refine Ji xs.length (fun i s=>s=i/\(xs.take i).all q=true) hn _ ⟨rfl,by simp⟩ ?_ ?_
 ·rintro i s hi ⟨hsi,hq⟩;subst s;have hx:=gEg hi;rw [hs i _ hx];cases hc:q xs[i]
  ·refine .inr ?_
   have:xs.all q=false:=by
    rw [Bool.eq_false_iff];intro ha;rw [List.all_eq_true] at ha;rw [ha _ (List.getElem_mem hi)] at hc;cases hc
   rw [this];rfl
  ·refine .inl ⟨i+1,rfl,rfl,?_⟩;rw [List.take_add_one,List.all_append,hq,hx];simp [hc]
 ·rintro s ⟨rfl,hq⟩;rw [List.take_length] at hq;rw [he,hq];rfl
theorem Aeu {body:Nat->Option (Ctl Nat ρ)} (xs:List α) (q:α->Bool) (none_:ρ) (g:Nat->ρ) {F:Nat} (hn:xs.length<F) (hs:∀ i x,xs[i]? =some x->body i=some (if q x then .out (g i) else .next (i+1))) (he:body xs.length=some (.out none_)) :
  (xs.any q=true/\∃ i,i<xs.length/\Aq body F 0=some (g i))∨(xs.any q=false/\Aq body F 0=some none_):=by
 have key:∃ r,Aq body F 0=some r/\((xs.any q=true/\∃ i,i<xs.length/\r=g i)∨(xs.any q=false/\r=none_)):=by
  refine L6 xs.length (fun i s=>s=i/\(xs.take i).any q=false) hn ⟨rfl,by simp⟩ ?_ ?_
  ·rintro i s hi ⟨hsi,hq⟩;subst s;have hx:=gEg hi;rw [hs i _ hx];cases hc:q xs[i]
   ·refine .inl ⟨i+1,rfl,rfl,?_⟩;rw [List.take_add_one,List.any_append,hq,hx];simp [hc]
   ·exact .inr ⟨_,rfl,.inl ⟨List.any_eq_true.2 ⟨_,List.getElem_mem hi,hc⟩,i,hi,rfl⟩⟩
  ·rintro s ⟨hsi,hq⟩;subst hsi;rw [List.take_length] at hq;exact ⟨_,he,.inr ⟨hq,rfl⟩⟩
 obtain ⟨r,h,⟨h1,i,hi,rfl⟩|⟨h1,rfl⟩⟩:=key
 ·exact .inl ⟨h1,i,hi,h⟩
 ·exact .inr ⟨h1,h⟩
theorem Dj {body:Nat×List β->Option (Ctl (Nat×List β) ρ)} (xs:List α) (f:α->β) (ys:List β) {F:Nat} (hn:xs.length<F) (r:ρ) (hs:∀ i x,xs[i]? =some x->body (i,ys++(xs.take i).map f)=some (.next (i+1,(ys++(xs.take i).map f)++[f x]))) (he:body (xs.length,ys++xs.map f)=some (.out r)):Aq body F (0,ys)=some r:=by
 refine A7 xs.length (fun i=>(i,ys++(xs.take i).map f)) hn r (by simp) (fun i hi=>?_) (by rw [List.take_length];exact he);have hx:=gEg hi;rw [hs i _ hx,List.take_add_one,hx];simp only [List.map_append,Option.toList,List.map_cons,List.map_nil,List.append_assoc]
theorem Ws {xs:List α} {d:α} {i:Nat} (h:i<xs.length):(xs.take i++List.replicate (xs.length - i) d)[i]? =some d:=by
 have h1:(xs.take i).length=i:=by rw [List.length_take];omega
 rw [List.getElem?_append_right oM,h1,Nat.sub_self,List.getElem?_replicate,if_pos oM]
theorem Xr {xs:List α} {d x:α} {i:Nat} (h:xs[i]? =some x):(xs.take i++List.replicate (xs.length - i) d).set i x=xs.take (i+1)++List.replicate (xs.length - (i+1)) d:=by
 have hi:=(gSi.1 h).1;have e:xs.length - i=(xs.length - (i+1))+1:=by omega
 rw [List.take_add_one,h,e,List.replicate_succ,List.set_append,if_neg (by simp;omega)];simp [Nat.min_eq_left (Nat.le_of_lt hi)]
theorem Kk {xs ys:List α} {i:Nat} (h:i<xs.length) (hl:ys.length=i):(ys++xs.drop i)[i]? =some xs[i]:=by
 rw [List.getElem?_append_right oM,hl];simp [List.getElem?_drop,h]
theorem Kn {xs ys:List α} {y:α} {i:Nat} (h:i<xs.length) (hl:ys.length=i):(ys++xs.drop i).set i y=(ys++[y])++xs.drop (i+1):=by
 rw [List.set_append,if_neg oM,hl,Nat.sub_self,List.drop_eq_getElem_cons h,List.append_assoc];rfl
end
theorem A4 {n:Int} (h1: -9223372036854775808<=n) (h2:n<9223372036854775808):wI n=n:=Go.IntWalk.i64_in _ oM
theorem Au {p:Prop} [Decidable p] (h:p):decide p=true:=decide_eq_true h
theorem At {p:Prop} [Decidable p] (h:¬ p):decide p=false:=decide_eq_false h
end
section
open Go.RowKit Go.Deep
theorem Ad4:∀ {kl:List Loc},(∀ (i j b c s c' s':Nat),kl[i]? =some (Loc.at_ b c s)->kl[j]? =some (Loc.at_ b c' s')->i=j)->Po kl
 | [],_=>trivial
 | l :: kl,h=>⟨fun b c s e c' s' hm=>by
   obtain ⟨j,hj⟩:=List.getElem?_of_mem hm;have:=h 0 (j+1) b c s c' s' (by rw [e];rfl) (by simpa using hj);omega,Ad4 fun i j b c s c' s' h1 h2=>by
   have:=h (i+1) (j+1) b c s c' s' (by simpa using h1) (by simpa using h2);omega⟩
theorem Ab3 {G:World->Prop} {w0 w:World} {ob:Oid->Option Ob} {σ:Oid->Option Loc} {K im:Nat->Prop} (hm:Mem0 G w0 ob σ K w) {a p:Oid} {xss:List (List Int)} {v:Value} (ho:ob a=some (.vec 81 1 xss.length (hdL p .int xss))) (hk:∀ (k:Nat) (xs:List Int),xss[k]? =some xs->ob (kid p k)=some (.arr 3 .int xs)) (hne:∀ k,kid p k≠a) (hv:AV.Rep σ im w (.own a (.slice .int) 0 xss.length) v):MatR (S5 w0.heap.size) w v xss:=by
 obtain ⟨l,hl,rfl,_⟩:=Wl hv;obtain ⟨vs,hw,hrep,_,h1⟩:=hm.obs a _ l ho hl
 have hkid:∀ (k:Nat) (xs:List Int),xss[k]? =some xs->∃ l',σ (kid p k)=some l'/\vs[k]? =some (l'.val xs.length)/\ownsV w w0.heap.size 3 1 (l'.val xs.length) xs.length (Ty.int.cells xs)/\∀ b c s,l'=.at_ b c s->s=1:=by
  intro k xs hx
  obtain ⟨v,e1,e2⟩:=Am6 (k:=k) hrep (show (hdL p .int xss)[k]? =some (.own (kid p k) .int 0 xs.length) by
   unfold hdL;rw [List.getElem?_map,List.getElem?_zipIdx,hx];simp)
  obtain ⟨l',hl',rfl,_⟩:=Wl e2;obtain ⟨_,hw',h1'⟩:=hm.obs (kid p k) _ l' (hk k xs hx) hl';exact ⟨l',hl',e1,hw',h1'⟩
 have hat:∀ (k:Nat) (l':Loc),((List.range xss.length).map fun k=>(σ (kid p k)).getD .nil)[k]? =some l'->k<xss.length/\σ (kid p k)=some l':=fun k l' hl'=>by
  have hk':k<xss.length:=by
   have:=(gSi.1 hl').1
   simpa using this
  obtain ⟨l2,g1,_⟩:=hkid k _ (gEg hk');rw [List.getElem?_map,List.getElem?_range hk'] at hl';simp [g1] at hl';exact ⟨hk',by rw [g1,hl']⟩
 refine MatR.of (kl:=(List.range xss.length).map fun k=>(σ (kid p k)).getD .nil) (by simp) hw h1 (fun k xs l' hx hl'=>?_) ?_
 ·obtain ⟨l2,g1,g2,g3,g4⟩:=hkid k xs hx;obtain ⟨_,h2⟩:=hat k l' hl';obtain rfl:l2=l':=osj (g1.symm.trans h2);exact ⟨g2,g3,g4⟩
 ·refine ⟨fun b c s e c' s' hmem=>?_,Ad4 fun i j b c s c' s' h1 h2=>?_⟩
  ·obtain ⟨j,hj⟩:=List.getElem?_of_mem hmem;obtain ⟨hj1,hj2⟩:=hat j _ hj;subst e;exact hne j (hm.inj _ _ _ _ _ _ _ _ _ (hk j _ (gEg hj1)) ho hj2 hl)
  ·obtain ⟨hi1,hi2⟩:=hat i _ h1;obtain ⟨hj1,hj2⟩:=hat j _ h2;exact Fm (hm.inj _ _ _ _ _ _ _ _ _ (hk i _ (gEg hi1)) (hk j _ (gEg hj1)) hi2 hj2)
section
variable {w:World} {p:Int} {x y z:Rl3} {A B:Option Addr} {c d:Nat} {m n:List Addr} {R R':Nat->Prop}
theorem Afx (x:Rl3) (s:Sl R w (.slice .int) A c x.2.2 m):AV.Rep (fun _=>none) (fun _=>True) w (.agg [.int .i64 x.1,.int .i64 x.2.1,.tree (.slice .int) x.2.2]) (.agg #[.int .i64 x.1,.int .i64 x.2.1,.slice A x.2.2.length c]) :=
 ⟨_,rfl,⟨_,_,rfl,rfl,⟨_,_,rfl,rfl,⟨_,_,rfl,⟨A,c,m,rfl,Ar6 s⟩,rfl⟩⟩⟩⟩
theorem Ae4 (h:Mz p x y=some z) (s:Sl R w (.slice .int) A c x.2.2 m) (t:Sl R' w (.slice .int) B d y.2.2 n) (tab:Tab w) :
  Calls Tryz.prog 90 #[.int .i64 p,.agg #[.int .i64 x.1,.int .i64 x.2.1,.slice A x.2.2.length c],.agg #[.int .i64 y.1,.int .i64 y.2.1,.slice B y.2.2.length d]] w fun e w'=>∃ u,e=.returned (.agg #[.int .i64 z.1,.int .i64 z.2.1,u])/\MatR (S5 w.heap.size) w' u z.2.2/\Below w.heap.size w w':=by
 obtain ⟨q,hq,rfl⟩:=oms.1 h;refine (Wt (vs:=[.int .i64 p,.agg #[.int .i64 x.1,.int .i64 x.2.1,.slice A x.2.2.length c],.agg #[.int .i64 y.1,.int .i64 y.2.1,.slice B y.2.2.length d]]) (Xj hq) (fun _ hb=>tab.below hb) ⟨_,_,rfl,rfl,⟨_,_,rfl,Afx x s,⟨_,_,rfl,Afx y t,rfl⟩⟩⟩).mono ?_;rintro e w' ⟨u,rfl,hb,σ',hm,hv⟩;obtain ⟨vs,rfl,v0,_,rfl,rfl,v1,_,rfl,rfl,v2,_,rfl,h2,rfl⟩:=hv;exact ⟨v2,rfl,Ab3 hm rfl (fun k xs hx=>Aa8 hx rfl) (fun k e=>by cases e) h2,hb⟩
theorem Alc (h:Qk p x y=some z) (s:Sl R w (.slice .int) A c x.2.2 m) (t:Sl R' w (.slice .int) B d y.2.2 n) (tab:Tab w) :
  Calls Tryz.prog 91 #[.int .i64 p,.agg #[.int .i64 x.1,.int .i64 x.2.1,.slice A x.2.2.length c],.agg #[.int .i64 y.1,.int .i64 y.2.1,.slice B y.2.2.length d]] w fun e w'=>∃ u,e=.returned (.agg #[.int .i64 z.1,.int .i64 z.2.1,u])/\MatR (S5 w.heap.size) w' u z.2.2/\Below w.heap.size w w':=by
 obtain ⟨q,hq,rfl⟩:=oms.1 h;refine (Wt (vs:=[.int .i64 p,.agg #[.int .i64 x.1,.int .i64 x.2.1,.slice A x.2.2.length c],.agg #[.int .i64 y.1,.int .i64 y.2.1,.slice B y.2.2.length d]]) (Z0 hq) (fun _ hb=>tab.below hb) ⟨_,_,rfl,rfl,⟨_,_,rfl,Afx x s,⟨_,_,rfl,Afx y t,rfl⟩⟩⟩).mono ?_;rintro e w' ⟨u,rfl,hb,σ',hm,hv⟩;obtain ⟨vs,rfl,v0,_,rfl,rfl,v1,_,rfl,rfl,v2,_,rfl,h2,rfl⟩:=hv;exact ⟨v2,rfl,Ab3 hm rfl (fun k xs hx=>Aa8 hx rfl) (fun k e=>by cases e) h2,hb⟩
theorem Apv {k v:Int} {s:ByteArray} (h:A5 p k v s=some z) (tab:Tab w) :
  Calls Tryz.prog 92 #[.int .i64 p,.agg #[.int .i64 k,.int .i64 v,.string s]] w fun e w'=>∃ u,e=.returned (.agg #[.int .i64 z.1,.int .i64 z.2.1,u])/\MatR (S5 w.heap.size) w' u z.2.2/\Below w.heap.size w w':=by
 refine (Wt (vs:=[.int .i64 p,.agg #[.int .i64 k,.int .i64 v,.string s]]) (So h) (fun _ hb=>tab.below hb) ⟨_,_,rfl,rfl,⟨_,_,rfl,⟨_,rfl,⟨_,_,rfl,rfl,⟨_,_,rfl,rfl,⟨_,_,rfl,rfl,rfl⟩⟩⟩⟩,rfl⟩⟩).mono ?_;rintro e w' ⟨u,rfl,hb,σ',hm,hv⟩;obtain ⟨vs,rfl,v0,_,rfl,rfl,v1,_,rfl,rfl,v2,_,rfl,h2,rfl⟩:=hv;exact ⟨v2,rfl,Ab3 hm rfl (fun k xs hx=>Aa8 hx rfl) (fun k e=>by cases e) h2,hb⟩
end
theorem Apm {xs:List (Int×Int×ByteArray)} {p:Int} {k:Nat} {S:List Rl3} {c:Ctl (Nat×List Rl3) (List Rl3)} (hS:S.length<=1073741824) (h:Bw xs p k S=some c) (hk:k<xs.length) :
  ∃ a:Int×Int×ByteArray,xs[k]? =some a/\∃ S',c=.next (k+1,S') /\
   ((a.1=15/\∃ m x y z,S.length=m+2/\S[m]? =some x/\S[m+1]? =some y/\Mz p x y=some z/\S'=S.take m++[z]/\(m+1)*40<=140737488355328) ∨
    (a.1≠15/\a.1=16/\∃ m x y z,S.length=m+2/\S[m]? =some x/\S[m+1]? =some y/\Qk p x y=some z/\S'=S.take m++[z]/\(m+1)*40<=140737488355328) ∨
    (a.1≠15/\a.1≠16/\∃ z,A5 p a.1 a.2.1 a.2.2=some z/\S'=S++[z]/\S.length+1<=1073741824/\(S.length+1)*40<=140737488355328)):=by
 unfold Bw at h;rw [Au oM,cond_true] at h;obtain ⟨l,hl,h⟩:=Ah h;obtain ⟨_,h⟩:=Ak h;obtain rfl:=osj h;obtain ⟨a,ha,hl⟩:=Ah hl;refine ⟨a,ha,l,rfl,?_⟩;have w1:wI (((S.length:Nat):Int) - 1)=((S.length:Nat):Int) - 1:=A4 oM oM;have w2:wI (((S.length:Nat):Int) - 1 - 1)=((S.length:Nat):Int) - 1 - 1:=A4 oM oM;rw [w1,w2] at hl;by_cases h15:a.1=15
 ·rw [show (a.1==15)=true from beq_iff_eq.2 h15,cond_true] at hl;obtain ⟨⟨_,g1,g2⟩,hl⟩:=Ak hl;obtain ⟨x,hx,hl⟩:=Ah hl;obtain ⟨y,hy,hl⟩:=Ah hl;obtain ⟨z,hz,hl⟩:=Ah hl;obtain ⟨⟨_,_,g3⟩,hl⟩:=Ak hl;obtain rfl:=osj hl;obtain ⟨m,hm⟩:∃ m,S.length=m+2:=⟨S.length - 2,by omega⟩
  have e1:(((S.length:Nat):Int) - 1 - 1).toNat=m:=by omega
  have e2:(((S.length:Nat):Int) - 1).toNat=m+1:=by omega
  rw [Bs oM,e1] at hx;rw [Bs oM,e2] at hy;rw [e1] at g3 ⊢;exact .inl ⟨h15,m,x,y,z,hm,hx,hy,hz,rfl,g3⟩
 rw [show (a.1==15)=false from beq_eq_false_iff_ne.2 h15,cond_false] at hl;by_cases h16:a.1=16
 ·rw [show (a.1==16)=true from beq_iff_eq.2 h16,cond_true] at hl;obtain ⟨⟨_,g1,g2⟩,hl⟩:=Ak hl;obtain ⟨x,hx,hl⟩:=Ah hl;obtain ⟨y,hy,hl⟩:=Ah hl;obtain ⟨z,hz,hl⟩:=Ah hl;obtain ⟨⟨_,_,g3⟩,hl⟩:=Ak hl;obtain rfl:=osj hl;obtain ⟨m,hm⟩:∃ m,S.length=m+2:=⟨S.length - 2,by omega⟩
  have e1:(((S.length:Nat):Int) - 1 - 1).toNat=m:=by omega
  have e2:(((S.length:Nat):Int) - 1).toNat=m+1:=by omega
  rw [Bs oM,e1] at hx;rw [Bs oM,e2] at hy;rw [e1] at g3 ⊢;exact .inr (.inl ⟨h15,h16,m,x,y,z,hm,hx,hy,hz,rfl,g3⟩)
 rw [show (a.1==16)=false from beq_eq_false_iff_ne.2 h16,cond_false] at hl;obtain ⟨z,hz,hl⟩:=Ah hl;obtain ⟨⟨g1,g2⟩,hl⟩:=Ak hl;obtain rfl:=osj hl;exact .inr (.inr ⟨h15,h16,z,hz,rfl,g1,g2⟩)
theorem Apk {xs:List (Int×Int×ByteArray)} {p:Int} {k:Nat} {S:List Rl3} {c:Ctl (Nat×List Rl3) (List Rl3)} (h:Bw xs p k S=some c) (hk:¬ k<xs.length):c=.out S:=by
 unfold Bw at h;rw [At oM,cond_false] at h;exact (osj h).symm
end
section
open Go.RowKit Go.Deep
theorem Aky {w:World} {T:TypeId} {v0 v1 v2:Value}:∀ j q,[v0,v1,v2][j]? =some q->(w.alloc (.cells #[v0,v1,v2] T)).cell? ((⟨w.heap.size,0,none⟩:Addr).add j)=some q:=fun j q h=>by
 rw [B9,Nat.zero_add,World.cell?_alloc_new]
 simpa using h
theorem Ach {R:Nat->Prop} {w:World} {u:Value} {xss:List (List Int)} (h:MatR R w u xss):u.oneCell'=true:=by
 obtain ⟨A,c,m,rfl,_⟩:=h.out;rfl
set_option maxRecDepth 100000 in
set_option maxHeartbeats 16000000 in
theorem Aj4 {R:Nat->Prop} {p:Int} {xs:List (Int×Int×ByteArray)} {A:Option Addr} {c:Nat} {l:List Addr} {r:Rl3} (h:Jc p xs=some r) (w:World) (s:Sl R w (.pair .int (.pair .int .str)) A c xs l) (hn:xs.length<=1048576) (tab:Tab w) :
  Calls Tryz.prog 49 #[.int .i64 p,.agg #[.slice A xs.length c]] w fun e w'=>∃ u,e=.returned (.agg #[.int .i64 r.1,.int .i64 r.2.1,u])/\MatR (S5 w.heap.size) w' u r.2.2/\Below w.heap.size w w':=by
 unfold Jc at h;obtain ⟨Sf,hS,h⟩:=Ah h;obtain ⟨x,hx,h⟩:=Ah h;obtain rfl:=osj h;have hL:Hid (Aq (fun s_:Nat×List Rl3=>Bw xs p s_.1 s_.2) 4611686018427387904 (0,[])=some Sf):=Lib.hid hS
 clear hS h
 have hzn:=(Afz s).2
 go_enter Tryz.func49,Tryz.ntmps49
 go_wp2_with fail
 have hb0:Below w.heap.size w ((w.alloc (.cells #[.slice A xs.length c] 37)).alloc (.cells #[.int .i64 0,.int .i64 0,.slice none 0 0] 30)):=(by repeat (first|with_reducible exact Below.refl _ _|((with_reducible refine Below.setCell ?_ ?_ _);rotate_left;focus (first|(simp;done)|omega|(simp;omega)))|((with_reducible refine Below.alloc ?_ ?_ _);rotate_left;focus (first|(simp;done)|omega|(simp;omega)))|(with_reducible refine Below.drew ?_)|(with_reducible refine below_draws_ ?_ _)))
 have hsz:((w.alloc (.cells #[.slice A xs.length c] 37)).alloc (.cells #[.int .i64 0,.int .i64 0,.slice none 0 0] 30)).heap.size=w.heap.size+2:=by simp
 have f0:((w.alloc (.cells #[.slice A xs.length c] 37)).alloc (.cells #[.int .i64 0,.int .i64 0,.slice none 0 0] 30)).cell? ⟨w.heap.size+1,0,none⟩=some (.int .i64 0):=by simp
 have f1:((w.alloc (.cells #[.slice A xs.length c] 37)).alloc (.cells #[.int .i64 0,.int .i64 0,.slice none 0 0] 30)).cell? ⟨w.heap.size+1,1,none⟩=some (.int .i64 0):=by simp
 have f2:((w.alloc (.cells #[.slice A xs.length c] 37)).alloc (.cells #[.int .i64 0,.int .i64 0,.slice none 0 0] 30)).cell? ⟨w.heap.size+1,2,none⟩=some (.slice none 0 0):=by simp
 have z0:∀ i,((w.alloc (.cells #[.slice A xs.length c] 37)).alloc (.cells #[.int .i64 0,.int .i64 0,.slice none 0 0] 30)).frozen? ⟨w.heap.size+1,i,none⟩=false:=fun i=>by simp
 have hst:StkV (w.heap.size+2) (((w.alloc (.cells #[.slice A xs.length c] 37)).alloc (.cells #[.int .i64 0,.int .i64 0,.slice none 0 0] 30)).alloc (.cells #[] 30)) (.slice (some ⟨w.heap.size+2,0,none⟩) 0 0) []:=by
  have:=StkV.lit (lo:=w.heap.size+2) ((w.alloc (.cells #[.slice A xs.length c] 37)).alloc (.cells #[.int .i64 0,.int .i64 0,.slice none 0 0] 30)) (by rw [hsz];exact Nat.le_refl _)
  rwa [hsz] at this
 generalize hW0:(w.alloc (.cells #[.slice A xs.length c] 37)).alloc (.cells #[.int .i64 0,.int .i64 0,.slice none 0 0] 30)=W0 at *
 go_loopw [5,13] (fun st i wr=>∃ (k N:Nat) (S:List Rl3),k<=xs.length/\S.length<=k/\i=.int .i64 k/\StkV (w.heap.size+2) wr st S/\Hid (Aq (fun s_:Nat×List Rl3=>Bw xs p s_.1 s_.2) N (k,S)=some Sf)/\Below W0.heap.size W0 wr) (fun _ i _=>xs.length - (intOf i).toNat)
 case atStart=>exact ⟨0,_,[],by omega,by simp,rfl,by simpa [hsz] using hst,hL,by repeat (first|with_reducible exact Below.refl _ _|((with_reducible refine Below.setCell ?_ ?_ _);rotate_left;focus (first|(simp;done)|omega|(simp;omega)))|((with_reducible refine Below.alloc ?_ ?_ _);rotate_left;focus (first|(simp;done)|omega|(simp;omega)))|(with_reducible refine Below.drew ?_)|(with_reducible refine below_draws_ ?_ _))⟩
 case round =>
  obtain ⟨k,N,S,hk,hSk,rfl,hV,hN,hbl⟩:=hrel;have hzr:=hbl.size;have bR:Below w.heap.size w wr:=hb0.trans (hbl.mono oM)
  obtain ⟨N,rfl⟩:∃ N',N=N'+1:=by
   cases N with
   | zero=>exact (Ac4 hN.out).elim
   | succ N=>exact ⟨N,rfl⟩
  obtain ⟨ct,hct,hN2⟩:=Acj hN.out;have hN3:=Lib.hid hN2
  clear hN hN2
  obtain ⟨GA,gc,rfl,hgl,hgm⟩:=hV.len;have hS30:S.length<=1073741824:=by omega
  by_cases hlt:k<xs.length
  ·obtain ⟨b,o,rfl,_,hcell⟩:=Adl (t:=.pair .int (.pair .int .str)) rfl s oM;have c0:=hcell k hlt 0 (by decide);have c1:=hcell k hlt 1 (by decide);have c2:=hcell k hlt 2 (by decide);obtain ⟨⟨x0,x1,x2⟩,ha,S',rfl,hcase⟩:=Apm hS30 hct hlt;obtain ⟨_,hxe⟩:=gSi.1 ha;rw [hxe] at c0 c1 c2
   replace c0:w.cell? ⟨b,o+k*3,none⟩=some (.int .i64 x0):=c0
   replace c1:w.cell? ⟨b,o+k*3+1,none⟩=some (.int .i64 x1):=by rw [Nat.add_assoc];exact c1
   replace c2:w.cell? ⟨b,o+k*3+2,none⟩=some (.string x2):=by rw [Nat.add_assoc];exact c2
   replace c0:=Bv bR c0
   replace c1:=Bv bR c1
   replace c2:=Bv bR c2
   have hH:=Lib.hid hcase
   clear hcell hct hcase
   rcases hH.out with ⟨h15,m,xx,yy,zz,hm,hx1,hy1,hz1,rfl,hb40⟩|⟨h15,h16,m,xx,yy,zz,hm,hx1,hy1,hz1,rfl,hb40⟩|⟨h15,h16,zz,hz1,rfl,hb30,hb40⟩
   ·dsimp only at h15
    clear hH
    obtain ⟨g,gc1,A1,q1,m1,e1,a0,a1,a2,s1,_⟩:=hV.at hx1;obtain ⟨g',gc2,A2,q2,m2,e2,b0,b1,b2,s2,_⟩:=hV.at hy1;injection e1 with e1 _ e3
    subst e1 e3;injection e2 with e2 _ e4
    injection e2 with e2
    injection e2 with e2
    subst e2 e4;have hz3:wr.heap.size<=(wr.alloc (.cells #[.int .i64 x0,.int .i64 x1,.string x2] 88)).heap.size:=by simp
    have hbn:Below wr.heap.size wr (wr.alloc (.cells #[.int .i64 x0,.int .i64 x1,.string x2] 88)):=(by repeat (first|with_reducible exact Below.refl _ _|((with_reducible refine Below.setCell ?_ ?_ _);rotate_left;focus (first|(simp;done)|omega|(simp;omega)))|((with_reducible refine Below.alloc ?_ ?_ _);rotate_left;focus (first|(simp;done)|omega|(simp;omega)))|(with_reducible refine Below.drew ?_)|(with_reducible refine below_draws_ ?_ _)))
    rw [hm] at hgl ⊢;subst h15
    go_wp2_with fail
    have e8:(m:Int)+2 - 1=(m:Int)+1:=by omega
    have e9:(m:Int)+1 - 1=(m:Int):=by omega
    rw [e8];have hw1:wI ((m:Int)+1)=(m:Int)+1:=A4 oM oM;have hw2:wI (m:Int)=(m:Int):=A4 oM oM;have hi0:(0:Int)<=(m:Int):=by omega
    have hi1:(m:Int)<(m:Int)+2:=by omega
    have hi2:(m:Int)+1<(m:Int)+2:=by omega
    have hi3:(m:Int)<=(gc:Int):=by omega
    have hi4:(0:Int)<=(m:Int)+1:=by omega
    replace a0:=Bv hbn a0
    replace a1:=Bv hbn a1
    replace a2:=Bv hbn a2
    replace b0:=Bv hbn b0
    replace b1:=Bv hbn b1
    replace b2:=Bv hbn b2
    generalize hw1':wr.alloc (.cells #[.int .i64 15,.int .i64 x1,.string x2] 88)=w1 at *;have hVc:=hV.cut (k:=m) oM;have hlm:(S.take m).length=m:=by rw [List.length_take];omega
    have hz1':wr.heap.size<=w1.heap.size:=hbn.size
    go_region_law (first
     | (go_simp;refine (Ae4 hz1 (by exact Rz s1 hbn.drew) (by exact Rz s2 hbn.drew) (tab.below (bR.trans (hbn.mono bR.size)).drew)).mono ?_;rintro e w4 ⟨u,rfl,hmu,hb_w4⟩;have hz_w4:=hb_w4.size;(try simp at hz_w4);have hM:Hid (∀ W,Below w4.heap.size w4 W->MatR (S5 wr.heap.size) W u zz.2.2):=Lib.hid fun W hb=>(hmu.mono (fun b _ h=>Nat.le_trans hz1' h)).below hb;have h1u:=Ach hmu;clear hmu)
     | (refine T9 (S:=S.take m) (y:=zz) (u:=u) (z:=.agg #[.int .i64 0,.int .i64 0,.slice none 0 0]) (v:=.slice (some ⟨g,0,none⟩) m gc) rfl _ _ 89 rfl 40 Tryz.underlying89 (by kernel_rfl) rfl rfl hVc (hbn.trans (Below.mono (show Below w1.heap.size w1 _ from (by repeat (first|with_reducible exact Below.refl _ _|((with_reducible refine Below.setCell ?_ ?_ _);rotate_left;focus (first|(simp;done)|omega|(simp;omega)))|((with_reducible refine Below.alloc ?_ ?_ _);rotate_left;focus (first|(simp;done)|omega|(simp;omega)))|(with_reducible refine Below.drew ?_)|(with_reducible refine below_draws_ ?_ _)|((with_reducible refine Below.trans ?_ (Below.mono hb_w4 ?_));rotate_left;focus (first|(simp;done)|omega|(simp;omega)))))) hz1')) oM (hM.out _ (by repeat (first|with_reducible exact Below.refl _ _|((with_reducible refine Below.setCell ?_ ?_ _);rotate_left;focus (first|(simp;done)|omega|(simp;omega)))|((with_reducible refine Below.alloc ?_ ?_ _);rotate_left;focus (first|(simp;done)|omega|(simp;omega)))|(with_reducible refine Below.drew ?_)|(with_reducible refine below_draws_ ?_ _)))) h1u rfl Aky (by rw [hlm];exact hb40) (by rw [hlm];simp only [maxLen];omega) ?_;intro v' w5 hV5 hb_w5))
    all_goals go_wp2_with fail
    all_goals refine ⟨⟨k+1,N,S.take m++[zz],by omega,by rw [List.length_append,hlm,List.length_singleton];omega,by congr 1,hV5,hN3,hbl.trans (Below.trans (Below.mono (hbn.trans (Below.mono (show Below w1.heap.size w1 _ from (by repeat (first|with_reducible exact Below.refl _ _|((with_reducible refine Below.setCell ?_ ?_ _);rotate_left;focus (first|(simp;done)|omega|(simp;omega)))|((with_reducible refine Below.alloc ?_ ?_ _);rotate_left;focus (first|(simp;done)|omega|(simp;omega)))|(with_reducible refine Below.drew ?_)|(with_reducible refine below_draws_ ?_ _)|((with_reducible refine Below.trans ?_ (Below.mono hb_w4 ?_));rotate_left;focus (first|(simp;done)|omega|(simp;omega)))))) hz1')) hbl.size) (hb_w5.mono oM))⟩,?_⟩
    all_goals (simp [intOf];omega)
   ·dsimp only at h15 h16
    clear hH
    obtain ⟨g,gc1,A1,q1,m1,e1,a0,a1,a2,s1,_⟩:=hV.at hx1;obtain ⟨g',gc2,A2,q2,m2,e2,b0,b1,b2,s2,_⟩:=hV.at hy1;injection e1 with e1 _ e3
    subst e1 e3;injection e2 with e2 _ e4
    injection e2 with e2
    injection e2 with e2
    subst e2 e4;have hz3:wr.heap.size<=(wr.alloc (.cells #[.int .i64 x0,.int .i64 x1,.string x2] 88)).heap.size:=by simp
    have hbn:Below wr.heap.size wr (wr.alloc (.cells #[.int .i64 x0,.int .i64 x1,.string x2] 88)):=(by repeat (first|with_reducible exact Below.refl _ _|((with_reducible refine Below.setCell ?_ ?_ _);rotate_left;focus (first|(simp;done)|omega|(simp;omega)))|((with_reducible refine Below.alloc ?_ ?_ _);rotate_left;focus (first|(simp;done)|omega|(simp;omega)))|(with_reducible refine Below.drew ?_)|(with_reducible refine below_draws_ ?_ _)))
    rw [hm] at hgl ⊢;subst h16
    go_wp2_with fail
    have e8:(m:Int)+2 - 1=(m:Int)+1:=by omega
    have e9:(m:Int)+1 - 1=(m:Int):=by omega
    rw [e8];have hw1:wI ((m:Int)+1)=(m:Int)+1:=A4 oM oM;have hw2:wI (m:Int)=(m:Int):=A4 oM oM;have hi0:(0:Int)<=(m:Int):=by omega
    have hi1:(m:Int)<(m:Int)+2:=by omega
    have hi2:(m:Int)+1<(m:Int)+2:=by omega
    have hi3:(m:Int)<=(gc:Int):=by omega
    have hi4:(0:Int)<=(m:Int)+1:=by omega
    replace a0:=Bv hbn a0
    replace a1:=Bv hbn a1
    replace a2:=Bv hbn a2
    replace b0:=Bv hbn b0
    replace b1:=Bv hbn b1
    replace b2:=Bv hbn b2
    generalize hw1':wr.alloc (.cells #[.int .i64 16,.int .i64 x1,.string x2] 88)=w1 at *;have hVc:=hV.cut (k:=m) oM;have hlm:(S.take m).length=m:=by rw [List.length_take];omega
    have hz1':wr.heap.size<=w1.heap.size:=hbn.size
    go_region_law (first
     | (go_simp;refine (Alc hz1 (by exact Rz s1 hbn.drew) (by exact Rz s2 hbn.drew) (tab.below (bR.trans (hbn.mono bR.size)).drew)).mono ?_;rintro e w4 ⟨u,rfl,hmu,hb_w4⟩;have hz_w4:=hb_w4.size;(try simp at hz_w4);have hM:Hid (∀ W,Below w4.heap.size w4 W->MatR (S5 wr.heap.size) W u zz.2.2):=Lib.hid fun W hb=>(hmu.mono (fun b _ h=>Nat.le_trans hz1' h)).below hb;have h1u:=Ach hmu;clear hmu)
     | (refine T9 (S:=S.take m) (y:=zz) (u:=u) (z:=.agg #[.int .i64 0,.int .i64 0,.slice none 0 0]) (v:=.slice (some ⟨g,0,none⟩) m gc) rfl _ _ 89 rfl 40 Tryz.underlying89 (by kernel_rfl) rfl rfl hVc (hbn.trans (Below.mono (show Below w1.heap.size w1 _ from (by repeat (first|with_reducible exact Below.refl _ _|((with_reducible refine Below.setCell ?_ ?_ _);rotate_left;focus (first|(simp;done)|omega|(simp;omega)))|((with_reducible refine Below.alloc ?_ ?_ _);rotate_left;focus (first|(simp;done)|omega|(simp;omega)))|(with_reducible refine Below.drew ?_)|(with_reducible refine below_draws_ ?_ _)|((with_reducible refine Below.trans ?_ (Below.mono hb_w4 ?_));rotate_left;focus (first|(simp;done)|omega|(simp;omega)))))) hz1')) oM (hM.out _ (by repeat (first|with_reducible exact Below.refl _ _|((with_reducible refine Below.setCell ?_ ?_ _);rotate_left;focus (first|(simp;done)|omega|(simp;omega)))|((with_reducible refine Below.alloc ?_ ?_ _);rotate_left;focus (first|(simp;done)|omega|(simp;omega)))|(with_reducible refine Below.drew ?_)|(with_reducible refine below_draws_ ?_ _)))) h1u rfl Aky (by rw [hlm];exact hb40) (by rw [hlm];simp only [maxLen];omega) ?_;intro v' w5 hV5 hb_w5))
    all_goals go_wp2_with fail
    all_goals refine ⟨⟨k+1,N,S.take m++[zz],by omega,by rw [List.length_append,hlm,List.length_singleton];omega,by congr 1,hV5,hN3,hbl.trans (Below.trans (Below.mono (hbn.trans (Below.mono (show Below w1.heap.size w1 _ from (by repeat (first|with_reducible exact Below.refl _ _|((with_reducible refine Below.setCell ?_ ?_ _);rotate_left;focus (first|(simp;done)|omega|(simp;omega)))|((with_reducible refine Below.alloc ?_ ?_ _);rotate_left;focus (first|(simp;done)|omega|(simp;omega)))|(with_reducible refine Below.drew ?_)|(with_reducible refine below_draws_ ?_ _)|((with_reducible refine Below.trans ?_ (Below.mono hb_w4 ?_));rotate_left;focus (first|(simp;done)|omega|(simp;omega)))))) hz1')) hbl.size) (hb_w5.mono oM))⟩,?_⟩
    all_goals (simp [intOf];omega)
   ·dsimp only at h15 h16 hz1
    clear hH
    have hz3:wr.heap.size<=(wr.alloc (.cells #[.int .i64 x0,.int .i64 x1,.string x2] 88)).heap.size:=by simp
    go_wp2_with fail
    refine (Apv hz1 (tab.below (bR.trans (Below.mono (by repeat (first|with_reducible exact Below.refl _ _|((with_reducible refine Below.setCell ?_ ?_ _);rotate_left;focus (first|(simp;done)|omega|(simp;omega)))|((with_reducible refine Below.alloc ?_ ?_ _);rotate_left;focus (first|(simp;done)|omega|(simp;omega)))|(with_reducible refine Below.drew ?_)|(with_reducible refine below_draws_ ?_ _))) bR.size)))).mono ?_;rintro e w4 ⟨u,rfl,hmu,hb_w4⟩;have hz_w4:=hb_w4.size
    (try simp at hz_w4)
    have h1u:=Ach hmu;have hM:Hid (∀ W,Below w4.heap.size w4 W->MatR (S5 wr.heap.size) W u zz.2.2):=Lib.hid fun W hb=>(hmu.mono (fun b _ h=>Nat.le_trans hz3 h)).below hb
    clear hmu
    go_wp2_with (at_builtin;refine Ae3 (y:=zz) (u:=u) (z:=.agg #[.int .i64 0,.int .i64 0,.slice none 0 0]) rfl _ _ 89 rfl 40 Tryz.underlying89 (by kernel_rfl) rfl rfl hV (by repeat (first|with_reducible exact Below.refl _ _|((with_reducible refine Below.setCell ?_ ?_ _);rotate_left;focus (first|(simp;done)|omega|(simp;omega)))|((with_reducible refine Below.alloc ?_ ?_ _);rotate_left;focus (first|(simp;done)|omega|(simp;omega)))|(with_reducible refine Below.drew ?_)|(with_reducible refine below_draws_ ?_ _)|((with_reducible refine Below.trans ?_ (Below.mono hb_w4 ?_));rotate_left;focus (first|(simp;done)|omega|(simp;omega))))) oM (hM.out _ (by repeat (first|with_reducible exact Below.refl _ _|((with_reducible refine Below.setCell ?_ ?_ _);rotate_left;focus (first|(simp;done)|omega|(simp;omega)))|((with_reducible refine Below.alloc ?_ ?_ _);rotate_left;focus (first|(simp;done)|omega|(simp;omega)))|(with_reducible refine Below.drew ?_)|(with_reducible refine below_draws_ ?_ _)))) h1u rfl Aky hb40 (by simp only [maxLen];omega) ?_;intro v' w5 hV5 hb_w5)
    refine ⟨⟨k+1,N,S++[zz],by omega,by simp;omega,by congr 1,hV5,hN3,hbl.trans (Below.trans (Below.mono (show Below wr.heap.size wr _ from (by repeat (first|with_reducible exact Below.refl _ _|((with_reducible refine Below.setCell ?_ ?_ _);rotate_left;focus (first|(simp;done)|omega|(simp;omega)))|((with_reducible refine Below.alloc ?_ ?_ _);rotate_left;focus (first|(simp;done)|omega|(simp;omega)))|(with_reducible refine Below.drew ?_)|(with_reducible refine below_draws_ ?_ _)|((with_reducible refine Below.trans ?_ (Below.mono hb_w4 ?_));rotate_left;focus (first|(simp;done)|omega|(simp;omega)))))) hbl.size) (hb_w5.mono oM))⟩,?_⟩;simp [intOf];omega
  ·have hS2:=Apk hct hlt;subst hS2;have hN4:S=Sf:=osj hN3.out;subst hN4;obtain ⟨g,gc1,A1,q1,m1,e1,a0,a1,a2,s1,hm1⟩:=hV.at hx;injection e1 with e1 _ e3
   subst e1 e3
   replace a0:wr.cell? ⟨g,0,none⟩=some (.int .i64 x.1):=by simpa using a0
   replace a1:wr.cell? ⟨g,1,none⟩=some (.int .i64 x.2.1):=by simpa using a1
   replace a2:wr.cell? ⟨g,2,none⟩=some (.slice A1 x.2.2.length q1):=by simpa using a2
   replace f0:=Bv hbl f0
   replace f1:=Bv hbl f1
   replace f2:=Bv hbl f2
   have z1:∀ i,wr.frozen? ⟨w.heap.size+1,i,none⟩=false:=fun i=>((Aw4 hbl).2 _ i oM).trans (z0 i)
   have hS0:=(gSi.1 hx).1;have hS1:(0:Int)<(S.length:Int):=by omega
   clear hL hN3 z0 hst
   go_wp2_with fail
   all_goals refine bodyPost_ret (v:=.agg #[.int .i64 x.1,.int .i64 x.2.1,.slice A1 x.2.2.length q1]) (by simp [results,Tryz.results49,go_sem, *]) rfl ⟨_,rfl,hm1.keep (fun b hr hlt=>?_) (by simp) (fun b hr hlt=>?_),bR.trans (by repeat (first|with_reducible exact Below.refl _ _|((with_reducible refine Below.setCell ?_ ?_ _);rotate_left;focus (first|(simp;done)|omega|(simp;omega)))|((with_reducible refine Below.alloc ?_ ?_ _);rotate_left;focus (first|(simp;done)|omega|(simp;omega)))|(with_reducible refine Below.drew ?_)|(with_reducible refine below_draws_ ?_ _)))⟩
   ·have hr':=hr.1;have hne:b≠w.heap.size+1:=by omega
    rw [Below.heap_setCell _ _ _ _ hne,Below.heap_setCell _ _ _ _ hne,Below.heap_setCell _ _ _ _ hne]
   ·have hr':=hr.1;show w.heap.size<=b;omega
end
section
open Go.RowKit Go.Deep
def K3 (a0:Int) (a1_0:List (Int×Int×ByteArray)):Option (Int×Int×List (List Int)):=og (a1_0.length<=1048576) (Jc a0 a1_0)
def Agk (r:Rl3):RV:=⟨false,[(true,[.sc (ai r.1),.sc (ai r.2.1),.newM 81 3 .int r.2.2])]⟩
theorem Asn {lo:Nat} {im:Nat->Prop} {vs:List Value} {w:World} {u:Value} {r:Rl3} (h:MatR (S5 lo) w u r.2.2):(Agk r).Rep lo im vs w (.agg #[.int .i64 r.1,.int .i64 r.2.1,u]):=by
 obtain ⟨l,kl,ks,rfl,⟨h1,h2,h3,h4⟩,h5,h6⟩:=h
 have hh:∀ l':Loc,l'∈l :: kl->∀ n k,(l'.val n).ownBlock=some k->lo<=k:=fun l' hm n k hk=>by
  obtain ⟨c,s,rfl⟩:=Abh hk;exact (h6 k c s hm).1
 refine ⟨[.int .i64 r.1,.int .i64 r.2.1,l.val r.2.2.length],l :: (kl++[]),⟨.int .i64 r.1,_,rfl,rfl,rfl,.int .i64 r.2.1,_,rfl,rfl,rfl,l,kl,[],[],ks,rfl,rfl,⟨⟨h1,rfl⟩,⟨h2.high (hh l List.mem_cons_self _),h3⟩,fun k xs l' hx hl=>?_⟩,rfl,rfl⟩,⟨by simpa using h5,fun ⟨l',hl,hf⟩=>?_⟩,rfl⟩
 ·obtain ⟨g1,g2,g3⟩:=h4 k xs l' hx hl;exact ⟨g1,g2.high (hh l' (List.mem_cons_of_mem _ (List.mem_of_getElem? hl)) _),g3⟩
 ·have:l'=.sc (ai r.1)∨l'=.sc (ai r.2.1)∨l'=.newM 81 3 .int r.2.2:=by simpa [Agk,RV.leaves] using hl
  rcases this with rfl|rfl|rfl <;> cases hf
theorem Yw {a0:Int} {a1_0:List (Int×Int×ByteArray)} {r:Int×Int×List (List Int)} (h:K3 a0 a1_0=some r):Cm Tryz.prog Tab 49 [ai a0,.agg [.tree (.pair .int (.pair .int .str)) a1_0]] [] (.agg [ai r.1,ai r.2.1,.own (oi 0 1) (.slice .int) 0 r.2.2.length]) [(oi 0 1,.mat 81 (oi 0 1) .int r.2.2),(oi 0 1,.pool 3 .int r.2.2)]:=by
 obtain ⟨hn,h⟩:=Ak h;intro θ i w0 ob σ K w vs hm hi _ _ _ hr;obtain ⟨u1,_,rfl,h1,u2,_,rfl,h2,h3⟩:=hr;obtain rfl:_=[]:=h3;obtain rfl:u1=.int .i64 a0:=h1;obtain ⟨us,rfl,v1,_,rfl,e1,e2⟩:=h2;obtain rfl:_=[]:=e2;obtain ⟨A,c,m,rfl,s⟩:=e1;refine (Aj4 h w s hn (hm.inv w hm.below)).mono ?_;rintro e w' ⟨u,rfl,hmu,hb⟩;refine ⟨_,rfl,?_⟩
 have hg:=RV.goes (K':=fun n=>K n∨n=i.2) hm hb (fun n h=>.inl h) hi (.inr rfl) (az:=[]) (vs:=[]) (im0:=fun _=>False) rfl (fun ⟨l',hl,hf⟩=>by
  have:l'=.sc (ai r.1)∨l'=.sc (ai r.2.1)∨l'=.newM 81 3 .int r.2.2:=by simpa [Agk,RV.leaves] using hl
  rcases this with rfl|rfl|rfl <;> cases hf) (Asn (im:=fun _=>False) (vs:=[]) hmu)
 have e1:Hq θ i [] [(oi 0 1,.mat 81 (oi 0 1) .int r.2.2),(oi 0 1,.pool 3 .int r.2.2)]=((Agk r).out (Cf i) []).2:=by
  have hv:=Agv (Bo θ i) (.mat 81 (oi 0 1) .int r.2.2) (fun e p u xss h k=>by cases h;rfl);have hv':(Ob.vec 81 1 r.2.2.length (hdL (oi 0 1) .int r.2.2)).ren (Bo θ i)=.vec 81 1 r.2.2.length (hdL (Cf i 0) .int r.2.2):=hv.symm;show (Bo θ i (oi 0 1),some ((Ob.vec 81 1 r.2.2.length (hdL (oi 0 1) .int r.2.2)).ren (Bo θ i))) :: (((r.2.2.zipIdx.map fun x:List Int×Nat=>(kid (oi 0 1) x.2,Ob.arr 3 .int x.1))++[]).map fun q:Oid×Ob=>(Bo θ i q.1,some (q.2.ren (Bo θ i))))=(Cf i 0,some (.vec 81 1 r.2.2.length (hdL (Cf i 0) .int r.2.2))) :: (Yf (Cf i 0) 3 .int r.2.2++[]);rw [hv',List.append_nil,List.append_nil,List.map_map];rfl
 rw [e1];exact hg
end
section
open Go.RowKit Go.Deep
set_option maxRecDepth 4000
set_option maxHeartbeats 4800000
variable {hA hB:List (Int×Int×ByteArray)} {bA bB bC:Int} {gA:ByteArray} {dA:LL} {wA:Bool×ByteArray×Int×Int×(List (Int×Int×ByteArray))×LL}
def Bx (a0:List (Int×Int×ByteArray)):Option (List (Int×Int×ByteArray)) :=
 og (0+a0.length<=1073741824/\(0+a0.length)*32<=140737488355328) <|
some a0
theorem Jb (h:Bx hA=some hB):cK 89 [.tree Y8 hA] (Rp hB):=by
 refine cO Tryz.func89 (Ae (Ab (Ae (Akv (p:=true) (n:=hA.length) kr ?_ ?_))))
 ·intro hz_;obtain rfl:hA=[]:=List.length_eq_zero_iff.1 (hz_ rfl)
  replace h:=Aw2 (some []:Option (List (Int×Int×ByteArray))) h (by (try unfold Bx);simp [og])
  exact Ae (Ac (tr_ (jR h [.nils] (F1 rfl (Af9 rfl) Fc))))
 intro _;refine skW (Ab (Aa 8 (rsB 2 ?_)));obtain ⟨g6,h⟩:=Ak h;exact rs2 (.own (oi 5 6) Y8 0 hA.length) (oi 5 4) (oi 5 6) (.arr 88 Y8 hA) (Nh (t:=Y8) (t':=Y8) (xs:=[]) (ys:=hA) (zs:=hA) (j:=oi 5 4) (len:=0) (c:=.tree Y8 hA) kr kr rfl kr Hm rfl g6) (rsT 1 (rnW (Ac (jR h [.own (oi 5 6) Y8 0 hA.length] (F1 rfl (Dc kr rfl) Fc)))))
def Jt (u0:List (Int×Int×ByteArray)):Option (List (Int×Int×ByteArray)) :=
 (Bx u0).bind fun y3 =>
some y3
theorem Xi (h:Jt hA=some hB):cK 48 [.agg [.tree Y8 hA]] (Sn hB):=by
 exact cO Tryz.func48 (Ae (Ab (Aa 8 (rsT 2 (rcH h Jb fun y3 h=>rsB 2 (rnW (Ac (jR h [.agg [.own (oi 80 5) Y8 0 y3.length]] (Ta (D5 (Dc kr rfl) T2) Fc)))))))))
def Cy (a0:Int) (u1:ByteArray) (u0:List (Int×Int×ByteArray)) (u2 u3:Int) (u4:LL):Option (Bool×ByteArray×Int×Int×(List (Int×Int×ByteArray))×LL) :=
 (Gb a0 u1 u0 u2 u3 u4).bind fun y5 =>
cond (!y5)
 (some (false,(⟨#[]⟩:ByteArray),0,0,[],([]:LL)))
 ((Jt u0).bind fun y9 =>
 (K3 a0 u0).bind fun y10 =>
 some (true,u1,y10.1,y10.2.1,y9,y10.2.2))
theorem Jl (h:Cy bA gA hA bB bC dA=some wA):Cm Tryz.prog Tab 24 [ai bA,.agg [.str gA,.tree Y8 hA,ai bB,ai bC,tS dA]] [] (.tup [.agg [.str wA.2.1,.own (oi 1 1) Y8 0 wA.2.2.2.2.1.length,ai wA.2.2.1,ai wA.2.2.2.1,oS 2 1 wA.2.2.2.2.2.length],.bool wA.1]) [(oi 0 1,.cells 51 [.str wA.2.1,.own (oi 1 1) Y8 0 wA.2.2.2.2.1.length,ai wA.2.2.1,ai wA.2.2.2.1,oS 2 1 wA.2.2.2.2.2.length]),(oi 1 1,.arr 88 Y8 wA.2.2.2.2.1),(oi 2 1,.mat 81 (oi 3 1) .int wA.2.2.2.2.2),(oi 3 1,.pool 3 .int wA.2.2.2.2.2)]:=by
 exact Bg kr Tryz.func24 (Bt kr) (n:=21) kr (by simp) rfl kr trivial ⟨trivial,⟨trivial,⟨⟨3,.tail _ (.tail _ (.tail _ (.head _)))⟩,⟨trivial,trivial⟩⟩⟩⟩ (Ae (Ab (Ab (Aa 8 (rsT 2 (rcH h Tt fun y5 h=>rsT 1 (rnW (kQ h (fun _ h=>Ae (Ac (tr_ (by obtain rfl:=osj h;exact Cz [.agg [.str ((⟨#[]⟩:ByteArray)),.own (oi 1 1) Y8 0 ((([]:List (Int×Int×ByteArray))).length),ai 0,ai 0,oS 2 1 ((([]:LL)).length)],.bool false] ((Cj 9000 (oi 4 2) 1 51 [.str (⟨#[]⟩:ByteArray),.nils,ai 0,ai 0,.nils] [.str (⟨#[]⟩:ByteArray),.own (oi 9000 11) Y8 0 0,ai 0,ai 0,.nils] 88 Y8 rfl kr kr kr).trans ((Rh 9001 (oi 4 2) 4 51 [.str (⟨#[]⟩:ByteArray),.own (oi 9000 11) Y8 0 0,ai 0,ai 0,.nils] [.str (⟨#[]⟩:ByteArray),.own (oi 9000 11) Y8 0 0,ai 0,ai 0,oS 9001 12 0] 81 sI kr kr kr).trans ((Dk (e1:=81) (n:=0) 9000 (oi 9001 12) 3 .int kr kr rfl kr kr).trans (Ag (tl:=[(4,.box (oi 0 1) 0),(5,.bool false)]) (g:=2) [(oi 0 1,oi 4 2),(oi 1 1,oi 9000 11),(oi 2 1,oi 9001 12),(oi 3 1,oi 9000 13)])))))))) fun _ h=>skW (Ab (An 20 (dsT 4 (dcH h Xi fun y9 h=>ds0 (ai bA) kr (ds0 (.box (oi 3 1) 1) kr (dsl (.agg [.tree Y8 hA]) kr (dcM h [] [ai bA,.agg [.tree Y8 hA]] Yw trivial (aR kr) (Ar kr kr trivial) (Qx kr) fun y10 h=>ds0 (.agg [.str gA,.own (oi 240 12) Y8 0 y9.length,ai y10.1,ai y10.2.1,oS 304 16 y10.2.2.length]) kr (M9 (oi 4 2) (oi 4 2) (.cells 51 [.str gA,.own (oi 240 12) Y8 0 y9.length,ai y10.1,ai y10.2.1,oS 304 16 y10.2.2.length]) kr (ds0 (.bool true) kr (Ct ⟨Aux kr,⟨Aux kr,⟨Acg kr,trivial⟩⟩⟩ (tn_ (wr_ (Ac (by obtain rfl:=osj h;exact Cz [.agg [.str gA,.own (oi 1 1) Y8 0 y9.length,ai y10.1,ai y10.2.1,oS 2 1 y10.2.2.length],.bool true] (Ag (tl:=[(4,.box (oi 0 1) 0),(5,.bool true)]) (g:=2) [(oi 0 1,oi 4 2),(oi 1 1,oi 240 12),(oi 2 1,oi 304 16),(oi 3 1,oi 304 16)])))))))))))))))))))))))
end


section
open Go.RowKit Go.Deep
set_option maxRecDepth 4000
set_option maxHeartbeats 4800000
variable {hA:List (Int×Int×ByteArray)} {bA bB bC bD:Int} {xA:(List (Int×Int×ByteArray))×Int} {aA:List Int} {yA:List Int×Int} {dA:LL} {zA:LL×Int} {gA:ByteArray} {aA1:(List (Int×Int×ByteArray))×LL×Int} {cA:Bool}
def Fg  (u1:Int) (u0:Nat) (u2:List (Int×Int×ByteArray)):Option (Ctl (Int×Nat×(List (Int×Int×ByteArray))) (Int×(List (Int×Int×ByteArray)))) :=
 cond (decide ((u0:Int)<(u2.length:Int)))
 ((u2[u0]?).bind fun x11 =>
 ((u2.set u0 (u1,x11.2))[u0]?).bind fun x14 =>
 (Gy (wI (wI (u1+1)+1))).bind fun y17 =>
 (((u2.set u0 (u1,x11.2)).set u0 (x14.1,wI (u1+1),x14.2.2))[u0]?).bind fun x18 =>
 og (u0+1<4611686018427387904) <|
 some (Ctl.next (wI (wI (wI (u1+1)+1)+1),u0+1,((u2.set u0 (u1,x11.2)).set u0 (x14.1,wI (u1+1),x14.2.2)).set u0 (x18.1,x18.2.1,y17))))
 (some (Ctl.out (u1,u2)))
def Ik (a0:List (Int×Int×ByteArray)) (a1:Int):Option ((List (Int×Int×ByteArray))×Int) :=
 (Aq (fun s_:Int×Nat×(List (Int×Int×ByteArray))=>Fg s_.1 s_.2.1 s_.2.2) 4611686018427387904 (a1,0,a0)).bind fun (u0,l3_p0) =>
some (l3_p0,u0)
theorem U9 (h:Ik hA bA=some xA) {n_a0:Nat} (hn_a0:n_a0=hA.length):Cm Tryz.prog Tab 37 [.own (oi 0 0) Y8 0 n_a0,ai bA] [(oi 0 0,.arr 88 Y8 hA)] (ai xA.2) [(oi 0 0,.arr 88 Y8 xA.1)]:=by
 refine Bg kr Tryz.func37 (Bt kr) (n:=35) kr (by simp) rfl kr ⟨trivial,trivial⟩ ⟨trivial,trivial⟩ (Ae (sqF h (fun (u3,l3_p0)=>sT [(1,ai u3)] [(oi 0 0,.arr 88 Y8 l3_p0)]) ?_ ?_))
 ·intro _ h;refine Ae (Ad (lpF h (fun (u2,u0,u1)=>sT [(0,.own (oi 0 0) Y8 0 u1.length),(1,ai u2),(5,an u0)] [(oi 0 0,.arr 88 Y8 u1)]) ((wL 0 (hn_a0:n_a0=hA.length)).trans (Ag [])) ?_));rintro n_ ⟨u2,u0,u1⟩ c_ h hn5;refine Ab (Ae (kQ h (fun _ h=>skW (Ab (Ad (Ab (Aa 12 (rsT 3 ?_)))))) fun _ h=>lxT (have h:=jO h hn5;jE [])));obtain ⟨x11,e11,h⟩:=Ah h;refine rs0 (.elt (oi 0 0) u0 0) (zo (t:=Y8) (o:=oi 0 0) (len:=u1.length) (k:=.i64) (m:=(u0:Int)) (C1 _) (Ai e11)) (rsT 1 (Aft (oi 0 0) (oi 0 0) (.arr 88 Y8 (u1.set u0 (u2,x11.2))) (Vj (i:=oi 0 0) (j:=u0) (k:=0) (e:=88) (t:=Y8) (xs:=u1) (cs:=[ai u2,ai x11.2.1,.str x11.2.2]) (x1:=(u2,x11.2)) kr kr e11 kr kr) (rnW (Ae (Ab (Aa 21 (rsT 3 ?_)))))));obtain ⟨x14,e14,h⟩:=Ah h;refine rs0 (.elt (oi 0 0) u0 0) (zo (t:=Y8) (o:=oi 0 0) (len:=u1.length) (k:=.i64) (m:=(u0:Int)) (C1 _) (Nat.lt_of_lt_of_le (Ai e14) (Nat.le_of_eq (Eq.symm ((rfl:u1.length=u1.length).trans List.length_set.symm))))) (rsT 1 (Aft (oi 0 0) (oi 0 0) (.arr 88 Y8 ((u1.set u0 (u2,x11.2)).set u0 (x14.1,wI (u2+1),x14.2.2))) (Vj (i:=oi 0 0) (j:=u0) (k:=1) (e:=88) (t:=Y8) (xs:=u1.set u0 (u2,x11.2)) (cs:=[ai x14.1,ai (wI (u2+1)),.str x14.2.2]) (x1:=(x14.1,wI (u2+1),x14.2.2)) kr kr e14 kr kr) (rnW (Ae (Ab (Aa 31 (rsT 3 (rcM h [] [ai (wI (wI (u2+1)+1))] Qo trivial (aR kr) (Ar kr kr trivial) fun y17 h=>?_))))))));obtain ⟨x18,e18,h⟩:=Ah h;refine rs0 (.elt (oi 0 0) u0 0) (zo (t:=Y8) (o:=oi 0 0) (len:=u1.length) (k:=.i64) (m:=(u0:Int)) (C1 _) (Nat.lt_of_lt_of_le (Ai e18) (Nat.le_of_eq (Eq.symm (((rfl:u1.length=u1.length).trans List.length_set.symm).trans List.length_set.symm))))) (rsT 1 (Aft (oi 0 0) (oi 0 0) (.arr 88 Y8 (((u1.set u0 (u2,x11.2)).set u0 (x14.1,wI (u2+1),x14.2.2)).set u0 (x18.1,x18.2.1,y17))) (Vj (i:=oi 0 0) (j:=u0) (k:=2) (e:=88) (t:=Y8) (xs:=(u1.set u0 (u2,x11.2)).set u0 (x14.1,wI (u2+1),x14.2.2)) (cs:=[ai x18.1,ai x18.2.1,.str y17]) (x1:=(x18.1,x18.2.1,y17)) kr kr e18 kr kr) (rnW (Aa 34 (rsT 3 (Ap (bn_ (tn_ (wr_ (Aa 37 (rsT 1 (raH h fun h=>rsT 1 (Ap (tn_ ?_))))))))))))));obtain rfl:=zj h;exact jLw hn5 ((wL 0 (((((rfl:u1.length=u1.length).trans List.length_set.symm).trans List.length_set.symm).trans List.length_set.symm):u1.length=(((u1.set u0 (u2,x11.2)).set u0 (x14.1,wI (u2+1),x14.2.2)).set u0 (x18.1,x18.2.1,y17)).length)).trans (Ag []))
 rintro ⟨u3,l3_p0⟩ h;refine Ae (Ac ?_);obtain rfl:=zj h;exact Cz [ai u3] (Ag (tl:=[(4,ai u3)]) (g:=2) [])
def Nk (u0:List (Int×Int×ByteArray)) (a1:Int):Option ((List (Int×Int×ByteArray))×Int) :=
 (Ik u0 a1).bind fun y4 =>
og (y4.1.length=(u0.length)) <|
some (y4.1,y4.2)
theorem Wz (h:Nk hA bA=some xA) {n_a0_0:Nat} (hn_a0_0:n_a0_0=hA.length):Cm Tryz.prog Tab 16 [.agg [.own (oi 0 0) Y8 0 n_a0_0],ai bA] [(oi 0 0,.arr 88 Y8 hA)] (ai xA.2) [(oi 0 0,.arr 88 Y8 xA.1)]:=by
 refine Bg kr Tryz.func16 (Bt kr) (n:=10) kr (by simp) rfl kr ⟨trivial,trivial⟩ ⟨trivial,trivial⟩ ?_
 (try rw [← hn_a0_0] at h)
 refine Ae (Ab (Aa 8 (rsT 3 (rcM h [] [.own (oi 0 0) Y8 0 n_a0_0,ai bA] (fun h=>U9 h hn_a0_0) ⟨kr,trivial⟩ (aR kr) (Ar kr kr ⟨Bi kr,trivial⟩) fun y4 h=>rsT 1 (rnW (Ae (Ac ?_)))))));obtain ⟨g5,h⟩:=Ak h;obtain rfl:=zj h;exact Cz [ai y4.2] (Ag (tl:=[(4,ai y4.2)]) (g:=2) [])
def Ga  (u2:Int) (u0:Nat) (u1:List Int):Option (Ctl (Int×Nat×List Int) (Int×List Int)) :=
 cond (decide ((u0:Int)<(u1.length:Int)))
 ((u1[u0]?).bind fun x11 =>
 og (u0+1<4611686018427387904) <|
 some (Ctl.next (wI (u2+1),u0+1,u1.set u0 u2)))
 (some (Ctl.out (u2,u1)))
def Jw (a0:List Int) (a1:Int):Option (List Int×Int) :=
 (Aq (fun s_:Int×Nat×List Int=>Ga s_.1 s_.2.1 s_.2.2) 4611686018427387904 (a1,0,a0)).bind fun (u0,l3_p0) =>
some (l3_p0,u0)
theorem Wp (h:Jw aA bA=some yA) {n_a0:Nat} (hn_a0:n_a0=aA.length):Cm Tryz.prog Tab 73 [oI 0 0 n_a0,ai bA] [(oi 0 0,.arr 3 .int aA)] (ai yA.2) [(oi 0 0,.arr 3 .int yA.1)]:=by
 refine Bg kr Tryz.func73 (Bt kr) (n:=19) kr (by simp) rfl kr ⟨trivial,trivial⟩ ⟨trivial,trivial⟩ (Ae (sqF h (fun (u1,l3_p0)=>sT [(1,ai u1)] [(oi 0 0,.arr 3 .int l3_p0)]) ?_ ?_))
 ·intro _ h;refine Ae (Ad (lpF h (fun (u2,u3,u0)=>sT [(0,oI 0 0 u0.length),(1,ai u2),(5,an u3)] [(oi 0 0,.arr 3 .int u0)]) ((wL 0 (hn_a0:n_a0=aA.length)).trans (Ag [])) ?_));rintro n_ ⟨u2,u3,u0⟩ c_ h hn5;refine Ab (Ae (kQ h (fun _ h=>skW (Ab (Ad (Ab (Aa 11 (rsT 3 ?_)))))) fun _ h=>lxT (have h:=jO h hn5;jE [])));obtain ⟨x11,e11,h⟩:=Ah h;refine zO (oi 0 0) .int u0.length (Ai e11) (zS (oi 0 0) (u2) e11 (rnW (Aa 14 (rsT 3 (Ap (bn_ (tn_ (wr_ (Aa 17 (rsT 1 (raH h fun h=>rsT 1 (Ap (tn_ ?_)))))))))))));obtain rfl:=zj h;exact jLw hn5 ((wL 0 (((rfl:u0.length=u0.length).trans List.length_set.symm):u0.length=(u0.set u3 u2).length)).trans (Ag []))
 rintro ⟨u1,l3_p0⟩ h;refine Ae (Ac ?_);obtain rfl:=zj h;exact Cz [ai u1] (Ag (tl:=[(4,ai u1)]) (g:=2) [])
def Fp  (u2:Int) (u0:Nat) (u1:LL):Option (Ctl (Int×Nat×LL) (Int×LL)) :=
 cond (decide ((u0:Int)<(u1.length:Int)))
 ((u1[u0]?).bind fun x10 =>
 (Jw x10 u2).bind fun y11 =>
 og (y11.1.length=x10.length) <|
 og (u0+1<4611686018427387904) <|
 some (Ctl.next (y11.2,u0+1,u1.set u0 y11.1)))
 (some (Ctl.out (u2,u1)))
def Ig (a0:LL) (a1:Int):Option (LL×Int) :=
 (Aq (fun s_:Int×Nat×LL=>Fp s_.1 s_.2.1 s_.2.2) 4611686018427387904 (a1,0,a0)).bind fun (u0,l3_p0) =>
some (l3_p0,u0)
theorem V5 (h:Ig dA bA=some zA) {n_a0:Nat} (hn_a0:n_a0=dA.length):Cm Tryz.prog Tab 38 [oS 0 0 n_a0,ai bA] [(oi 0 0,.mat 81 (oi 1 0) .int dA),(oi 1 0,.pool 3 .int dA)] (ai zA.2) [(oi 0 0,.mat 81 (oi 0 1) .int zA.1),(oi 0 1,.pool 3 .int zA.1)]:=by
 refine Bg kr Tryz.func38 (Bt kr) (n:=19) kr (by simp) rfl kr ⟨⟨3,.tail _ (.head _)⟩,⟨trivial,trivial⟩⟩ ⟨⟨3,.tail _ (.head _)⟩,⟨trivial,trivial⟩⟩ (Ae (sqF h (fun (u2,l3_p0)=>sT [(1,ai u2)] [(oi 0 0,.mat 81 (oi 0 1) .int l3_p0),(oi 0 1,.pool 3 .int l3_p0)]) ?_ ?_))
 ·intro _ h;refine Ae (Ad (lpF h (fun (u3,u1,u0)=>sT [(0,oS 0 0 u0.length),(1,ai u3),(5,an u1)] [(oi 0 0,.mat 81 (oi 0 1) .int u0),(oi 0 1,.pool 3 .int u0)]) ((wL 0 (hn_a0:n_a0=dA.length)).trans (Ag [(oi 0 1,oi 1 0)])) ?_));rintro n_ ⟨u3,u1,u0⟩ c_ h hn5;refine Ab (Ae (kQ h (fun _ h=>skW (Ab (Ad (Aa 13 (rsT 2 ?_))))) fun _ h=>lxT (have h:=jO h hn5;jE [])));obtain ⟨x10,e10,h⟩:=Ah h;refine zO (oi 0 0) sI u0.length (Ai e10) (rsl (.own (kid (oi 0 1) u1) .int 0 x10.length) (Ec (o:=oi 0 0) (p:=oi 0 1) (e1:=81) (u:=.int) (xss:=u0) (row:=x10) (j:=u1) kr kr e10) (rsT 1 (rcM h [(oi 0 0,kid (oi 0 1) u1)] [.own (kid (oi 0 1) u1) .int 0 x10.length,ai u3] (fun h=>Wp h rfl) ⟨Ad5 kr e10,trivial⟩ (aR kr) (Ar kr kr ⟨.arg (by simp [AV.nmsL,AV.nms,Bc]),trivial⟩) fun y11 h=>?_)));obtain ⟨g12,h⟩:=Ak h;refine Axh (Aag (o:=oi 0 0) (p:=oi 0 1) (e1:=81) (e:=3) (u:=.int) (xss:=u0) (k:=u1) (row:=x10) (row':=y11.1) kr rfl kr e10 g12) (rsT 1 (Ap (bn_ (tn_ (wr_ (Aa 16 (rsT 1 (raH h fun h=>rsT 1 (Ap (tn_ ?_))))))))));obtain rfl:=zj h;exact jLw hn5 ((wL 0 ((Eq.trans (b:=u0.length) rfl List.length_set.symm):u0.length=(u0.set u1 y11.1).length)).trans (Ag []))
 rintro ⟨u2,l3_p0⟩ h;refine Ae (Ac ?_);obtain rfl:=zj h;exact Cz [ai u2] (Ag (tl:=[(4,ai u2)]) (g:=2) [])
def I5 (u1 u2:Int) (u0:LL) (a1:Int):Option (LL×Int) :=
 (Ig u0 a1).bind fun y4 =>
og (y4.1.length=(u0.length)) <|
some (y4.1,y4.2)
theorem R0 (h:I5 bA bB dA bC=some zA) {n_a0_2:Nat} (hn_a0_2:n_a0_2=dA.length):Cm Tryz.prog Tab 17 [.agg [ai bA,ai bB,oS 0 0 n_a0_2],ai bC] [(oi 0 0,.mat 81 (oi 1 0) .int dA),(oi 1 0,.pool 3 .int dA)] (ai zA.2) [(oi 0 0,.mat 81 (oi 0 1) .int zA.1),(oi 0 1,.pool 3 .int zA.1)]:=by
 refine Bg kr Tryz.func17 (Bt kr) (n:=10) kr (by simp) rfl kr ⟨⟨3,.tail _ (.head _)⟩,⟨trivial,trivial⟩⟩ ⟨⟨3,.tail _ (.head _)⟩,⟨trivial,trivial⟩⟩ ?_
 (try rw [← hn_a0_2] at h)
 refine Ae (Ab (Aa 8 (rsT 3 (rcM h [] [oS 0 0 n_a0_2,ai bC] (fun h=>V5 h hn_a0_2) ⟨kr,⟨kr,trivial⟩⟩ (aR kr) (Ar kr kr ⟨Bi kr,⟨Fn (o:=oi 0 0) (p:=oi 1 0) (e1:=81) (m:=dA.length) (u:=.int) (xss:=dA) (Bi kr) kr,trivial⟩⟩) fun y4 h=>rsT 1 (rnW (Ae (Ac ?_)))))));obtain ⟨g5,h⟩:=Ak h;obtain rfl:=zj h;exact Cz [ai y4.2] (Ag (tl:=[(4,ai y4.2)]) (g:=2) [(oi 0 1,oi 128 6)])
def Dw (u4:ByteArray) (u0:List (Int×Int×ByteArray)) (u2 u3:Int) (u1:LL) (a1:Int):Option ((List (Int×Int×ByteArray))×LL×Int) :=
 (Nk u0 a1).bind fun y4 =>
og (y4.1.length=(u0.length)) <|
(I5 u2 u3 u1 y4.2).bind fun y7 =>
og (y7.1.length=(u1.length)) <|
some (y4.1,y7.1,y7.2)
theorem Lm (h:Dw gA hA bA bB dA bC=some aA1) {n_a0_1:Nat} (hn_a0_1:n_a0_1=hA.length) {n_a0_4:Nat} (hn_a0_4:n_a0_4=dA.length):Cm Tryz.prog Tab 26 [.agg [.str gA,.own (oi 0 0) Y8 0 n_a0_1,ai bA,ai bB,oS 1 0 n_a0_4],ai bC] [(oi 0 0,.arr 88 Y8 hA),(oi 1 0,.mat 81 (oi 2 0) .int dA),(oi 2 0,.pool 3 .int dA)] (ai aA1.2.2) [(oi 0 0,.arr 88 Y8 aA1.1),(oi 1 0,.mat 81 (oi 0 1) .int aA1.2.1),(oi 0 1,.pool 3 .int aA1.2.1)]:=by
 refine Bg kr Tryz.func26 (Bt kr) (n:=14) kr (by simp) rfl kr ⟨trivial,⟨⟨3,.tail _ (.tail _ (.head _))⟩,⟨trivial,trivial⟩⟩⟩ ⟨trivial,⟨⟨3,.tail _ (.tail _ (.head _))⟩,⟨trivial,trivial⟩⟩⟩ ?_
 (try rw [← hn_a0_1] at h)
 (try rw [← hn_a0_4] at h)
 refine Ae (Ab (Aa 8 (rsT 3 (rcM h [] [.agg [.own (oi 0 0) Y8 0 n_a0_1],ai bC] (fun h=>Wz h hn_a0_1) ⟨kr,trivial⟩ (.cons (.agg (.cons (.ren kr) .nil)) (.cons (.ren kr) .nil)) (Ar kr kr ⟨Bi kr,trivial⟩) fun y4 h=>rsT 1 (rnW (Ab (Aa 13 (rsT 3 ?_))))))));obtain ⟨g5,h⟩:=Ak h;obtain ⟨y7,h7,h⟩:=Ah h;refine Ku (ai y7.2) [(oi 1 0,some (.mat 81 (oi 192 11) .int y7.1)),(oi 192 11,some (.pool 3 .int y7.1)),(oi 1 0,none),(oi 2 0,some (.pool 3 .int []))] [(oi 0 0,oi 1 0),(oi 1 0,oi 2 0)] [.agg [ai bA,ai bB,oS 1 0 n_a0_4],ai y4.2] (caps:=[]) trivial (R0 h7 hn_a0_4) kr ⟨kr,⟨kr,trivial⟩⟩ (.cons (.agg (.cons (.ren kr) (.cons (.ren kr) (.cons (.ren kr) .nil)))) (.cons (.ren kr) .nil)) (Ar kr kr ⟨Bi kr,⟨Fn (o:=oi 1 0) (p:=oi 2 0) (e1:=81) (m:=dA.length) (u:=.int) (xss:=dA) (Bi kr) kr,trivial⟩⟩) (rsT 1 (rnW (Ae (Ac ?_))));obtain ⟨g8,h⟩:=Ak h;obtain rfl:=zj h;exact Cz [ai y7.2] (Ag (tl:=[(4,ai y7.2)]) (g:=2) [(oi 0 1,oi 192 11)])
def Fe (a0:List (Int×Int×ByteArray)) (u0:Int) (u1:Nat):Option (Ctl (Int×Nat) (Ctl Int Int)) :=
 cond (decide ((u1:Int)<(a0.length:Int)))
 ((a0[u1]?).bind fun x11 =>
 cond (x11.1 !=u0)
  (some (Ctl.out (Ctl.out (-1))))
  (cond (x11.2.1 !=(wI (u0+1)))
   (some (Ctl.out (Ctl.out (-1))))
   ((Gy (wI (wI (u0+1)+1))).bind fun y22 =>
   cond (!(x11.2.2.toList==y22.toList))
    (some (Ctl.out (Ctl.out (-1))))
    (og (u1+1<4611686018427387904) <|
    some (Ctl.next (wI (wI (wI (u0+1)+1)+1),u1+1))))))
 (some (Ctl.out (Ctl.next u0)))
def I0 (a0:List (Int×Int×ByteArray)) (a1:Int):Option Int :=
 Dn (Aq (fun s_:Int×Nat=>Fe a0 s_.1 s_.2) 4611686018427387904 (a1,0)) fun u0 =>
some u0
theorem Vm (h:I0 hA bA=some bB):cK 93 [.tree Y8 hA,ai bA] (A3 bB):=by
 refine cO Tryz.func93 (Ae (sqC h (fun u2=>sT [(1,ai u2)] []) ?_ fun u2 h=>Ae (Ac (jS h))));intro _ h hk2;refine Ae (Ad (lpF h (fun (u0,u1)=>sT [(0,.tree Y8 hA),(1,ai u0),(5,an u1)] []) (Ag []) ?_));rintro n_ ⟨u0,u1⟩ c_ h hn4;exact Ab (Ae (kQ h (fun _ h=>skW (Ab (Ad (Ab (Ab (Aa 13 (rsT 2 (riH Y8 h fun x11 e11 h=>rsT 4 (rnW (kQ h (fun _ h=>Ae (Ac (tr_ (br_ (tr_ (tr_ (br_ (tr_ (have h:=jO h hn4;(have h:=jO h hk2;jS h)))))))))) fun _ h=>skW (Ae (Ab (Ab (Aa 23 (rsT 2 (riE Y8 e11 (rsT 4 (rnW (kQ h (fun _ h=>Ae (Ac (tr_ (br_ (tr_ (tr_ (br_ (tr_ (have h:=jO h hn4;(have h:=jO h hk2;jS h)))))))))) fun _ h=>skW (Ae (Ab (Ab (An 34 (ds0 (.tree Y8 hA) kr (ds0 (an u1) kr (diE Y8 e11 (dsT 3 (dcM h [] [ai (wI (wI (u0+1)+1))] Qo trivial (aR kr) (Ar kr kr trivial) (Qx kr) fun y22 h=>ds0 (.bool (!(x11.2.2.toList==y22.toList))) kr (Ct ⟨Acg kr,trivial⟩ (tn_ (wr_ (kQ h (fun _ h=>Ae (Ac (tr_ (br_ (tr_ (tr_ (br_ (tr_ (have h:=jO h hn4;(have h:=jO h hk2;jS h)))))))))) fun _ h=>skW (Aa 37 (rsT 3 (Ap (bn_ (tn_ (wr_ (Aa 40 (rsT 1 (raH h fun h=>rsT 1 (Ap (tn_ (jL [])))))))))))))))))))))))))))))))))))))))))))) fun _ h=>lxT (have h:=jO h hn4;jC [])))
def Na (u0:List (Int×Int×ByteArray)) (a1:Int):Option Int :=
 (I0 u0 a1).bind fun y3 =>
cond (decide (y3<0))
 (some (-1))
 (some y3)
theorem W1 (h:Na hA bA=some bB):cK 50 [.agg [.tree Y8 hA],ai bA] (A3 bB):=by
 exact cO Tryz.func50 (Ae (Ab (Aa 8 (rsT 3 (rcH h Vm fun y3 h=>rsT 1 (rnW (Ab (Ae (kQ h (fun _ h=>Ae (Ac (tr_ (jS h)))) fun _ h=>skW (Ae (Ac (jS h))))))))))))
def Gd (a0:List Int) (u1:Int) (u0:Nat):Option (Ctl (Int×Nat) (Ctl Int Int)) :=
 cond (decide ((u0:Int)<(a0.length:Int)))
 ((a0[u0]?).bind fun x11 =>
 cond (x11 !=u1)
  (some (Ctl.out (Ctl.out (-1))))
  (og (u0+1<4611686018427387904) <|
  some (Ctl.next (wI (u1+1),u0+1))))
 (some (Ctl.out (Ctl.next u1)))
def Jz (a0:List Int) (a1:Int):Option Int :=
 Dn (Aq (fun s_:Int×Nat=>Gd a0 s_.1 s_.2) 4611686018427387904 (a1,0)) fun u0 =>
some u0
theorem Xw (h:Jz aA bA=some bB):cK 74 [tI aA,ai bA] (A3 bB):=by
 refine cO Tryz.func74 (Ae (sqC h (fun u0=>sT [(1,ai u0)] []) ?_ fun u0 h=>Ae (Ac (jS h))));intro _ h hk2;refine Ae (Ad (lpF h (fun (u1,u2)=>sT [(0,tI aA),(1,ai u1),(5,an u2)] []) (Ag []) ?_));rintro n_ ⟨u1,u2⟩ c_ h hn4;exact Ab (Ae (kQ h (fun _ h=>skW (Ab (Ad (Ab (Ab (Aa 12 (rsT 2 (riH .int h fun x11 _ h=>rsT 3 (rnW (kQ h (fun _ h=>Ae (Ac (tr_ (br_ (tr_ (tr_ (br_ (tr_ (have h:=jO h hn4;(have h:=jO h hk2;jS h)))))))))) fun _ h=>skW (Aa 15 (rsT 3 (Ap (bn_ (tn_ (wr_ (Aa 18 (rsT 1 (raH h fun h=>rsT 1 (Ap (tn_ (jL [])))))))))))))))))))))) fun _ h=>lxT (have h:=jO h hn4;jC [])))
def Fj (a0:LL) (u1:Int) (u0:Nat):Option (Ctl (Int×Nat) (Ctl Int Int)) :=
 cond (decide ((u0:Int)<(a0.length:Int)))
 ((a0[u0]?).bind fun x10 =>
 (Jz x10 u1).bind fun y11 =>
 cond (decide (y11<0))
  (some (Ctl.out (Ctl.out (-1))))
  (og (u0+1<4611686018427387904) <|
  some (Ctl.next (y11,u0+1))))
 (some (Ctl.out (Ctl.next u1)))
def Ia (a0:LL) (a1:Int):Option Int :=
 Dn (Aq (fun s_:Int×Nat=>Fj a0 s_.1 s_.2) 4611686018427387904 (a1,0)) fun u0 =>
some u0
theorem Vo (h:Ia dA bA=some bB):cK 39 [tS dA,ai bA] (A3 bB):=by
 refine cO Tryz.func39 (Ae (sqC h (fun u0=>sT [(1,ai u0)] []) ?_ fun u0 h=>Ae (Ac (jS h))));intro _ h hk2;refine Ae (Ad (lpF h (fun (u1,u2)=>sT [(0,tS dA),(1,ai u1),(5,an u2)] []) (Ag []) ?_));rintro n_ ⟨u1,u2⟩ c_ h hn4;exact Ab (Ae (kQ h (fun _ h=>skW (Ab (Ad (Ab (Aa 13 (rsT 2 (riH sI h fun x10 _ h=>rsT 2 (rcH h Xw fun y11 h=>rsT 1 (rnW (Ae (kQ h (fun _ h=>Ae (Ac (br_ (tr_ (tr_ (br_ (tr_ (have h:=jO h hn4;(have h:=jO h hk2;jS h))))))))) fun _ h=>Ay (bn_ (tn_ (wr_ (Aa 18 (rsT 1 (raH h fun h=>rsT 1 (Ap (tn_ (jL [])))))))))))))))))))) fun _ h=>lxT (have h:=jO h hn4;jC [])))
def I1 (u1 u2:Int) (u0:LL) (a1:Int):Option Int :=
 (Ia u0 a1).bind fun y3 =>
cond (decide (y3<0))
 (some (-1))
 (some y3)
theorem Ru (h:I1 bA bB dA bC=some bD):cK 18 [.agg [ai bA,ai bB,tS dA],ai bC] (A3 bD):=by
 exact cO Tryz.func18 (Ae (Ab (Aa 8 (rsT 3 (rcH h Vo fun y3 h=>rsT 1 (rnW (Ab (Ae (kQ h (fun _ h=>Ae (Ac (tr_ (jS h)))) fun _ h=>skW (Ae (Ac (jS h))))))))))))
def Ds (u4:ByteArray) (u0:List (Int×Int×ByteArray)) (u1 u2:Int) (u3:LL) (a1:Int):Option Int :=
 (Na u0 a1).bind fun y3 =>
cond (decide (y3<0))
 (some (-1))
 ((I1 u1 u2 u3 y3).bind fun y9 =>
 cond (decide (y9<0))
  (some (-1))
  (some y9))
theorem Ln (h:Ds gA hA bA bB dA bC=some bD):cK 27 [.agg [.str gA,.tree Y8 hA,ai bA,ai bB,tS dA],ai bC] (A3 bD):=by
 exact cO Tryz.func27 (Ae (Ab (Aa 8 (rsT 3 (rcH h W1 fun y3 h=>rsT 1 (rnW (Ab (Ae (kQ h (fun _ h=>Ae (Ac (tr_ (jS h)))) fun _ h=>skW (Ab (Aa 15 (rsT 3 (rcH h Ru fun y9 h=>rsT 1 (rnW (Ab (Ae (kQ h (fun _ h=>Ae (Ac (tr_ (jS h)))) fun _ h=>skW (Ae (Ac (jS h))))))))))))))))))))
def Ce (a0:Int) (u0:ByteArray) (u3:List (Int×Int×ByteArray)) (u1 u2:Int) (u4:LL):Option Bool :=
 (Gh u0 u3 u1 u2 u4 1048576).bind fun y4 =>
cond (decide (y4<0))
 (some true)
 ((Cr u0 u3 u1 u2 u4).bind fun y10 =>
 (D0 a0 u0 y10.1 u1 u2 y10.2).bind fun y11 =>
 (Cr u0 u3 u1 u2 u4).bind fun y13 =>
 (Cy a0 u0 y13.1 u1 u2 y13.2).bind fun y15 =>
 ((Cw y15.2.1 y15.2.2.2.2.1 y15.2.2.1 y15.2.2.2.1 y15.2.2.2.2.2 y11.1 y11.2.1 y11.2.2.1 y11.2.2.2.1 y11.2.2.2.2.1).bind fun y18 =>
  cond (!y18)
   (some true)
   (some (y15.1 !=y11.2.2.2.2.2))).bind fun u5 =>
 cond u5
  (some false)
  ((Cr u0 u3 u1 u2 u4).bind fun y24 =>
  (Cw u0 y13.1 u1 u2 y13.2 u0 y24.1 u1 u2 y24.2).bind fun y25 =>
  cond (!y25)
   (some false)
   ((Dw u0 y13.1 u1 u2 y13.2 1).bind fun y30 =>
   og (y30.1.length=y13.1.length) <|
   og (y30.2.1.length=y13.2.length) <|
   (cond (decide (y30.2.2<0))
     (some true)
     ((Cw y15.2.1 y15.2.2.2.2.1 y15.2.2.1 y15.2.2.2.1 y15.2.2.2.2.2 y11.1 y11.2.1 y11.2.2.1 y11.2.2.2.1 y11.2.2.2.2.1).bind fun y36 =>
     cond (!y36)
      (some true)
      (some (y15.1 !=y11.2.2.2.2.2)))).bind fun u6 =>
   cond u6
    (some false)
    ((Dw y15.2.1 y15.2.2.2.2.1 y15.2.2.1 y15.2.2.2.1 y15.2.2.2.2.2 1).bind fun y42 =>
    og (y42.1.length=y15.2.2.2.2.1.length) <|
    og (y42.2.1.length=y15.2.2.2.2.2.length) <|
    (Ds y15.2.1 y42.1 y15.2.2.1 y15.2.2.2.1 y42.2.1 1).bind fun y47 =>
    cond (decide (y47<0))
     (some false)
     (cond (y47 !=y42.2.2)
      (some false)
      ((Cr u0 u3 u1 u2 u4).bind fun y57 =>
      (Cy a0 u0 y57.1 u1 u2 y57.2).bind fun y58 =>
      ((Cw y58.2.1 y58.2.2.2.2.1 y58.2.2.1 y58.2.2.2.1 y58.2.2.2.2.2 y11.1 y11.2.1 y11.2.2.1 y11.2.2.2.1 y11.2.2.2.2.1).bind fun y61 =>
       cond (!y61)
        (some true)
        (some (y58.1 !=y11.2.2.2.2.2))).bind fun u7 =>
      cond u7
       (some false)
       ((Ds y15.2.1 y42.1 y15.2.2.1 y15.2.2.2.1 y42.2.1 1).bind fun y67 =>
       cond (decide (y67<0))
        (some false)
        (cond (y67 !=y42.2.2)
         (some false)
         (some true)))))))))
theorem Ll (h:Ce bA gA hA bB bC dA=some cA):cK 5 [ai bA,.agg [.str gA,.tree Y8 hA,ai bB,ai bC,tS dA]] (Ao cA):=by
 refine cO Tryz.func5 (Ae (Ae (Ab (Aa 8 (rsT 2 ?_)))));obtain ⟨y4,h4,h⟩:=Ah h;refine zc (ai y4) [] [.agg [.str gA,.tree Y8 hA,ai bB,ai bC,tS dA],ai 1048576] (Ts h4) (rsT 1 (rnW (Ab (Ae (kQ h (fun _ h=>Ae (Ac (tr_ (jS h)))) fun _ h=>skW (Ab (Aa 20 (rsT 2 ?_))))))));obtain ⟨y10,h10,h⟩:=Ah h;refine Ku (.agg [.str gA,.own (oi 385 12) Y8 0 y10.1.length,ai bB,ai bC,oS 386 12 y10.2.length]) [(oi 384 12,some (.cells 51 [.str gA,.own (oi 385 12) Y8 0 y10.1.length,ai bB,ai bC,oS 386 12 y10.2.length])),(oi 385 12,some (.arr 88 Y8 y10.1)),(oi 386 12,some (.mat 81 (oi 387 12) .int y10.2)),(oi 387 12,some (.pool 3 .int y10.2))] [] [.agg [.str gA,.tree Y8 hA,ai bB,ai bC,tS dA]] (caps:=[]) trivial (Fi h10) kr trivial (.cons (.ren kr) .nil) (Ar kr kr trivial) ?_;obtain ⟨y11,h11,h⟩:=Ah h;refine O8 (.tup [.agg [.str y11.1,.tree Y8 y11.2.1,ai y11.2.2.1,ai y11.2.2.2.1,tS y11.2.2.2.2.1],.bool y11.2.2.2.2.2]) [] [ai bA,.agg [.str gA,.own (oi 385 12) Y8 0 y10.1.length,ai bB,ai bC,oS 386 12 y10.2.length]] _ (caps:=[]) (args0:=[ai bA,.agg [.str gA,.tree Y8 y10.1,ai bB,ai bC,tS y10.2]]) trivial (Al kr (Al (Sq (Al kr (Al (C2 (e:=88) kr rfl) (Al kr (Al kr (Al (F6 (p:=oi 387 12) (e1:=81) (e:=3) (u:=.int) (xss:=y10.2) kr (Br kr) rfl) Bz)))))) Bz)) (P1 h11) kr (rsB 6 (rnW (Ab (Aa 24 (rsT 1 ?_)))));obtain ⟨y13,h13,h⟩:=Ah h;refine Ku (.agg [.str gA,.own (oi 465 21) Y8 0 y13.1.length,ai bB,ai bC,oS 466 21 y13.2.length]) [(oi 464 21,some (.cells 51 [.str gA,.own (oi 465 21) Y8 0 y13.1.length,ai bB,ai bC,oS 466 21 y13.2.length])),(oi 465 21,some (.arr 88 Y8 y13.1)),(oi 466 21,some (.mat 81 (oi 467 21) .int y13.2)),(oi 467 21,some (.pool 3 .int y13.2))] [] [.agg [.str gA,.tree Y8 hA,ai bB,ai bC,tS dA]] (caps:=[]) trivial (Fi h13) kr trivial (.cons (.ren kr) .nil) (Ar kr kr trivial) (rsB 2 (rnW (Ab (Aa 33 (rsT 2 ?_)))));obtain ⟨y15,h15,h⟩:=Ah h;refine Ku (.tup [.agg [.str y15.2.1,.own (oi 529 26) Y8 0 y15.2.2.2.2.1.length,ai y15.2.2.1,ai y15.2.2.2.1,oS 530 26 y15.2.2.2.2.2.length],.bool y15.1]) [(oi 528 26,some (.cells 51 [.str y15.2.1,.own (oi 529 26) Y8 0 y15.2.2.2.2.1.length,ai y15.2.2.1,ai y15.2.2.2.1,oS 530 26 y15.2.2.2.2.2.length])),(oi 529 26,some (.arr 88 Y8 y15.2.2.2.2.1)),(oi 530 26,some (.mat 81 (oi 531 26) .int y15.2.2.2.2.2)),(oi 531 26,some (.pool 3 .int y15.2.2.2.2.2))] [] [ai bA,.agg [.str gA,.own (oi 465 21) Y8 0 y13.1.length,ai bB,ai bC,oS 466 21 y13.2.length]] (caps:=[]) trivial (Jl h15) kr trivial (.cons (.ren kr) (.cons (.agg (.cons (.ren kr) (.cons (.gnd kr (C2 (e:=88) ((E0 kr kr kr).trans kr) rfl)) (.cons (.ren kr) (.cons (.ren kr) (.cons (.gnd kr (F6 (p:=oi 467 21) (e1:=81) (e:=3) (u:=.int) (xss:=y13.2) ((E0 kr kr kr).trans kr) (H8 kr kr (Br kr) kr) rfl)) .nil)))))) .nil)) (Ar kr kr trivial) (rsB 6 (rnW (Ab (sqF h (fun u5=>sT [(0,ai bA),(3,.box (oi 0 1) 0),(6,.box (oi 1 1) 0),(7,.bool y11.2.2.2.2.2),(8,.box (oi 2 1) 0),(9,.box (oi 3 1) 0),(10,.bool y15.1),(44,.bool u5)] [(oi 0 1,.cells 48 [.str gA,.tree Y8 hA,ai bB,ai bC,tS dA]),(oi 1 1,.cells 51 [.str y11.1,.tree Y8 y11.2.1,ai y11.2.2.1,ai y11.2.2.2.1,tS y11.2.2.2.2.1]),(oi 2 1,.cells 51 [.str gA,.own (oi 4 1) Y8 0 y13.1.length,ai bB,ai bC,oS 5 1 y13.2.length]),(oi 3 1,.cells 51 [.str y15.2.1,.own (oi 7 1) Y8 0 y15.2.2.2.2.1.length,ai y15.2.2.1,ai y15.2.2.2.1,oS 8 1 y15.2.2.2.2.2.length]),(oi 4 1,.arr 88 Y8 y13.1),(oi 5 1,.mat 81 (oi 6 1) .int y13.2),(oi 6 1,.pool 3 .int y13.2),(oi 7 1,.arr 88 Y8 y15.2.2.2.2.1),(oi 8 1,.mat 81 (oi 9 1) .int y15.2.2.2.2.2),(oi 9 1,.pool 3 .int y15.2.2.2.2.2)]) ?_ ?_))))
 ·intro _ h;refine Aa 42 (rsT 2 ?_);obtain ⟨y18,h18,h⟩:=Ah h;exact O8 (.bool y18) [] [.agg [.str y15.2.1,.own (oi 529 26) Y8 0 y15.2.2.2.2.1.length,ai y15.2.2.1,ai y15.2.2.2.1,oS 530 26 y15.2.2.2.2.2.length],.agg [.str y11.1,.tree Y8 y11.2.1,ai y11.2.2.1,ai y11.2.2.2.1,tS y11.2.2.2.2.1]] _ (caps:=[]) (args0:=[.agg [.str y15.2.1,.tree Y8 y15.2.2.2.2.1,ai y15.2.2.1,ai y15.2.2.2.1,tS y15.2.2.2.2.2],.agg [.str y11.1,.tree Y8 y11.2.1,ai y11.2.2.1,ai y11.2.2.2.1,tS y11.2.2.2.2.1]]) trivial (Al (Sq (Al kr (Al (C2 (e:=88) kr rfl) (Al kr (Al kr (Al (F6 (p:=oi 531 26) (e1:=81) (e:=3) (u:=.int) (xss:=y15.2.2.2.2.2) kr (Br kr) rfl) Bz)))))) (Al kr Bz)) (Fq h18) kr (rsT 2 (kR h 40 (fun _ h=>rsT 4 (Ap (tn_ (jE [(oi 0 1,oi 3 1),(oi 1 1,oi 6 17),(oi 2 1,oi 8 22),(oi 4 1,oi 465 21),(oi 5 1,oi 466 21),(oi 6 1,oi 467 21),(oi 3 1,oi 9 30),(oi 7 1,oi 529 26),(oi 8 1,oi 530 26),(oi 9 1,oi 531 26)])))) fun _ h=>rsT 4 (Ap (tn_ (jE [(oi 0 1,oi 3 1),(oi 1 1,oi 6 17),(oi 2 1,oi 8 22),(oi 4 1,oi 465 21),(oi 5 1,oi 466 21),(oi 6 1,oi 467 21),(oi 3 1,oi 9 30),(oi 7 1,oi 529 26),(oi 8 1,oi 530 26),(oi 9 1,oi 531 26)])))))
 intro u5 h;refine kQ h (fun _ h=>Ae (Ac (tr_ (jS h)))) fun _ h=>skW (Ab (Ab (An 7 (dzl (.agg [.str gA,.own (oi 4 1) Y8 0 y13.1.length,ai bB,ai bC,oS 5 1 y13.2.length]) (dzl (.agg [.str gA,.tree Y8 hA,ai bB,ai bC,tS dA]) ?_)))))
 obtain ⟨y24,h24,h⟩:=Ah h;refine Aku (.agg [.str gA,.own (oi 753 4) Y8 0 y24.1.length,ai bB,ai bC,oS 754 4 y24.2.length]) [(oi 752 4,some (.cells 51 [.str gA,.own (oi 753 4) Y8 0 y24.1.length,ai bB,ai bC,oS 754 4 y24.2.length])),(oi 753 4,some (.arr 88 Y8 y24.1)),(oi 754 4,some (.mat 81 (oi 755 4) .int y24.2)),(oi 755 4,some (.pool 3 .int y24.2))] [] [.agg [.str gA,.tree Y8 hA,ai bB,ai bC,tS dA]] (caps:=[]) trivial (Fi h24) kr trivial (.cons (.ren kr) .nil) (Ar kr kr trivial) (Qx kr) ?_;obtain ⟨y25,h25,h⟩:=Ah h;refine O4 (.bool y25) [] [.agg [.str gA,.own (oi 4 1) Y8 0 y13.1.length,ai bB,ai bC,oS 5 1 y13.2.length],.agg [.str gA,.own (oi 753 4) Y8 0 y24.1.length,ai bB,ai bC,oS 754 4 y24.2.length]] _ (caps:=[]) (args0:=[.agg [.str gA,.tree Y8 y13.1,ai bB,ai bC,tS y13.2],.agg [.str gA,.tree Y8 y24.1,ai bB,ai bC,tS y24.2]]) trivial (Al (Sq (Al kr (Al (C2 (e:=88) ((E6 (Zp [.str gA,.own (oi 4 1) Y8 0 y13.1.length,ai bB,ai bC,oS 5 1 y13.2.length] (t:=Y8) (off:=0) (len:=y13.1.length) 0 1 rfl kr rfl)).trans kr) rfl) (Al kr (Al kr (Al (F6 (p:=oi 6 1) (e1:=81) (e:=3) (u:=.int) (xss:=y13.2) ((E6 (Zp [.str gA,.own (oi 4 1) Y8 0 y13.1.length,ai bB,ai bC,oS 5 1 y13.2.length] (t:=sI) (off:=0) (len:=y13.2.length) 0 4 rfl kr rfl)).trans kr) (Uc [.str gA,.own (oi 4 1) Y8 0 y13.1.length,ai bB,ai bC,oS 5 1 y13.2.length] (t:=sI) (off:=0) (len:=y13.2.length) (i:=oi 5 1) (e1:=81) (z:=1) (m:=y13.2.length) 0 4 rfl kr rfl kr (Br kr)) rfl) Bz)))))) (Al (Sq (Al kr (Al (C2 (e:=88) ((E6 (Zp [.str gA,.own (oi 753 4) Y8 0 y24.1.length,ai bB,ai bC,oS 754 4 y24.2.length] (t:=Y8) (off:=0) (len:=y24.1.length) 1 1 rfl kr rfl)).trans kr) rfl) (Al kr (Al kr (Al (F6 (p:=oi 755 4) (e1:=81) (e:=3) (u:=.int) (xss:=y24.2) ((E6 (Zp [.str gA,.own (oi 753 4) Y8 0 y24.1.length,ai bB,ai bC,oS 754 4 y24.2.length] (t:=sI) (off:=0) (len:=y24.2.length) 1 4 rfl kr rfl)).trans kr) (Uc [.str gA,.own (oi 753 4) Y8 0 y24.1.length,ai bB,ai bC,oS 754 4 y24.2.length] (t:=sI) (off:=0) (len:=y24.2.length) (i:=oi 754 4) (e1:=81) (z:=1) (m:=y24.2.length) 1 4 rfl kr rfl kr (Br kr)) rfl) Bz)))))) Bz)) (Fq h25) kr (dz0 (.bool (!y25)) (Ct ⟨Acg kr,trivial⟩ (tn_ (wr_ (kQ h (fun _ h=>Ae (Ac (tr_ (jS h)))) fun _ h=>skW (Ae (Ab (Aa 12 ?_))))))));refine rsT 2 ?_;obtain ⟨y30,h30,h⟩:=Ah h;refine Ku (ai y30.2.2) [(oi 4 1,some (.arr 88 Y8 y30.1)),(oi 5 1,some (.mat 81 (oi 832 10) .int y30.2.1)),(oi 832 10,some (.pool 3 .int y30.2.1)),(oi 4 1,none),(oi 5 1,none),(oi 6 1,some (.pool 3 .int []))] [(oi 0 0,oi 4 1),(oi 1 0,oi 5 1),(oi 2 0,oi 6 1)] [.agg [.str gA,.own (oi 4 1) Y8 0 y13.1.length,ai bB,ai bC,oS 5 1 y13.2.length],ai 1] (caps:=[]) trivial (Lm h30 rfl rfl) kr ⟨kr,⟨kr,⟨kr,trivial⟩⟩⟩ (.cons (.agg (.cons (.ren kr) (.cons (.ren kr) (.cons (.ren kr) (.cons (.ren kr) (.cons (.ren kr) .nil)))))) (.cons (.ren kr) .nil)) (Ar kr kr ⟨Bi kr,⟨Bi kr,⟨Fn (o:=oi 5 1) (p:=oi 6 1) (e1:=81) (m:=y13.2.length) (u:=.int) (xss:=y13.2) (Bi kr) kr,trivial⟩⟩⟩) (rsT 1 (rnW (Ab ?_)));obtain ⟨g31,h⟩:=Ak h;obtain ⟨g32,h⟩:=Ak h;refine sqF h (fun u6=>sT [(0,ai bA),(3,.box (oi 0 1) 0),(6,.box (oi 1 1) 0),(7,.bool y11.2.2.2.2.2),(9,.box (oi 2 1) 0),(65,.bool u6)] [(oi 0 1,.cells 48 [.str gA,.tree Y8 hA,ai bB,ai bC,tS dA]),(oi 1 1,.cells 51 [.str y11.1,.tree Y8 y11.2.1,ai y11.2.2.1,ai y11.2.2.2.1,tS y11.2.2.2.2.1]),(oi 2 1,.cells 51 [.str y15.2.1,.own (oi 3 1) Y8 0 y15.2.2.2.2.1.length,ai y15.2.2.1,ai y15.2.2.2.1,oS 4 1 y15.2.2.2.2.2.length]),(oi 3 1,.arr 88 Y8 y15.2.2.2.2.1),(oi 4 1,.mat 81 (oi 5 1) .int y15.2.2.2.2.2),(oi 5 1,.pool 3 .int y15.2.2.2.2.2)]) ?_ ?_
 ·intro _ h;refine Aa 25 (rsT 3 ?_);rcases A0 h with ⟨q35,h⟩|⟨q35,h⟩
  ·exact rq 55 q35 (rsT 10 (Ap (tn_ (jE [(oi 2 1,oi 3 1),(oi 3 1,oi 7 1),(oi 4 1,oi 8 1),(oi 5 1,oi 9 1)]))))
  refine rq 55 q35 (rsT 2 ?_);obtain ⟨y36,h36,h⟩:=Ah h;exact O8 (.bool y36) [] [.agg [.str y15.2.1,.own (oi 7 1) Y8 0 y15.2.2.2.2.1.length,ai y15.2.2.1,ai y15.2.2.2.1,oS 8 1 y15.2.2.2.2.2.length],.agg [.str y11.1,.tree Y8 y11.2.1,ai y11.2.2.1,ai y11.2.2.2.1,tS y11.2.2.2.2.1]] _ (caps:=[]) (args0:=[.agg [.str y15.2.1,.tree Y8 y15.2.2.2.2.1,ai y15.2.2.1,ai y15.2.2.2.1,tS y15.2.2.2.2.2],.agg [.str y11.1,.tree Y8 y11.2.1,ai y11.2.2.1,ai y11.2.2.2.1,tS y11.2.2.2.2.1]]) (Aqu kr) (Al (Sq (Al kr (Al (C2 (e:=88) kr rfl) (Al kr (Al kr (Al (F6 (p:=oi 9 1) (e1:=81) (e:=3) (u:=.int) (xss:=y15.2.2.2.2.2) kr (Br kr) rfl) Bz)))))) (Al kr Bz)) (Fq h36) kr (rsT 3 (kR h 61 (fun _ h=>rsT 4 (Ap (tn_ (jE [(oi 2 1,oi 3 1),(oi 3 1,oi 7 1),(oi 4 1,oi 8 1),(oi 5 1,oi 9 1)])))) fun _ h=>rsT 4 (Ap (tn_ (jE [(oi 2 1,oi 3 1),(oi 3 1,oi 7 1),(oi 4 1,oi 8 1),(oi 5 1,oi 9 1)])))))
 intro u6 h;refine kQ h (fun _ h=>Ae (Ac (tr_ (jS h)))) fun _ h=>skW (Ae (Ab (Aa 7 (rsT 2 ?_))))
 obtain ⟨y42,h42,h⟩:=Ah h;refine Ku (ai y42.2.2) [(oi 3 1,some (.arr 88 Y8 y42.1)),(oi 4 1,some (.mat 81 (oi 1088 5) .int y42.2.1)),(oi 1088 5,some (.pool 3 .int y42.2.1)),(oi 3 1,none),(oi 4 1,none),(oi 5 1,some (.pool 3 .int []))] [(oi 0 0,oi 3 1),(oi 1 0,oi 4 1),(oi 2 0,oi 5 1)] [.agg [.str y15.2.1,.own (oi 3 1) Y8 0 y15.2.2.2.2.1.length,ai y15.2.2.1,ai y15.2.2.2.1,oS 4 1 y15.2.2.2.2.2.length],ai 1] (caps:=[]) trivial (Lm h42 rfl rfl) kr ⟨kr,⟨kr,⟨kr,trivial⟩⟩⟩ (.cons (.agg (.cons (.ren kr) (.cons (.ren kr) (.cons (.ren kr) (.cons (.ren kr) (.cons (.ren kr) .nil)))))) (.cons (.ren kr) .nil)) (Ar kr kr ⟨Bi kr,⟨Bi kr,⟨Fn (o:=oi 4 1) (p:=oi 5 1) (e1:=81) (m:=y15.2.2.2.2.2.length) (u:=.int) (xss:=y15.2.2.2.2.2) (Bi kr) kr,trivial⟩⟩⟩) (rsT 1 (rnW (Ae (Ab (Aa 12 (rsT 2 ?_))))));obtain ⟨g43,h⟩:=Ak h;obtain ⟨g44,h⟩:=Ak h;obtain ⟨y47,h47,h⟩:=Ah h;refine O8 (ai y47) [] [.agg [.str y15.2.1,.own (oi 3 1) Y8 0 y15.2.2.2.2.1.length,ai y15.2.2.1,ai y15.2.2.2.1,oS 4 1 y15.2.2.2.2.2.length],ai 1] _ (caps:=[]) (args0:=[.agg [.str y15.2.1,.tree Y8 y42.1,ai y15.2.2.1,ai y15.2.2.2.1,tS y42.2.1],ai 1]) trivial (Al (Sq (Al kr (Al (C2 (e:=88) kr g43.symm) (Al kr (Al kr (Al (F6 (p:=oi 1088 5) (e1:=81) (e:=3) (u:=.int) (xss:=y42.2.1) kr (Br kr) g44.symm) Bz)))))) (Al kr Bz)) (Ln h47) kr (rsT 1 (rnW (Ab (Ae (kQ h (fun _ h=>Ae (Ac (tr_ (jS h)))) fun _ h=>skW (Ab (Ae (kQ h (fun _ h=>Ae (Ac (tr_ (jS h)))) fun _ h=>skW (Ab (Aa 27 (rsT 2 ?_)))))))))));obtain ⟨y57,h57,h⟩:=Ah h;refine Ku (.agg [.str gA,.own (oi 1281 19) Y8 0 y57.1.length,ai bB,ai bC,oS 1282 19 y57.2.length]) [(oi 1280 19,some (.cells 51 [.str gA,.own (oi 1281 19) Y8 0 y57.1.length,ai bB,ai bC,oS 1282 19 y57.2.length])),(oi 1281 19,some (.arr 88 Y8 y57.1)),(oi 1282 19,some (.mat 81 (oi 1283 19) .int y57.2)),(oi 1283 19,some (.pool 3 .int y57.2))] [] [.agg [.str gA,.tree Y8 hA,ai bB,ai bC,tS dA]] (caps:=[]) trivial (Fi h57) kr trivial (.cons (.ren kr) .nil) (Ar kr kr trivial) ?_;obtain ⟨y58,h58,h⟩:=Ah h;refine Ku (.tup [.agg [.str y58.2.1,.own (oi 1297 20) Y8 0 y58.2.2.2.2.1.length,ai y58.2.2.1,ai y58.2.2.2.1,oS 1298 20 y58.2.2.2.2.2.length],.bool y58.1]) [(oi 1296 20,some (.cells 51 [.str y58.2.1,.own (oi 1297 20) Y8 0 y58.2.2.2.2.1.length,ai y58.2.2.1,ai y58.2.2.2.1,oS 1298 20 y58.2.2.2.2.2.length])),(oi 1297 20,some (.arr 88 Y8 y58.2.2.2.2.1)),(oi 1298 20,some (.mat 81 (oi 1299 20) .int y58.2.2.2.2.2)),(oi 1299 20,some (.pool 3 .int y58.2.2.2.2.2))] [] [ai bA,.agg [.str gA,.own (oi 1281 19) Y8 0 y57.1.length,ai bB,ai bC,oS 1282 19 y57.2.length]] (caps:=[]) trivial (Jl h58) kr trivial (.cons (.ren kr) (.cons (.agg (.cons (.ren kr) (.cons (.gnd kr (C2 (e:=88) ((E0 kr kr kr).trans kr) rfl)) (.cons (.ren kr) (.cons (.ren kr) (.cons (.gnd kr (F6 (p:=oi 1283 19) (e1:=81) (e:=3) (u:=.int) (xss:=y57.2) ((E0 kr kr kr).trans kr) (H8 kr kr (Br kr) kr) rfl)) .nil)))))) .nil)) (Ar kr kr trivial) (rsB 6 (rnW (Ab (sqF h (fun u7=>sT [(9,.box (oi 0 1) 0),(12,ai y42.2.2),(92,.bool u7)] [(oi 0 1,.cells 51 [.str y15.2.1,.own (oi 1 1) Y8 0 y42.1.length,ai y15.2.2.1,ai y15.2.2.2.1,oS 2 1 y42.2.1.length]),(oi 1 1,.arr 88 Y8 y42.1),(oi 2 1,.mat 81 (oi 3 1) .int y42.2.1),(oi 3 1,.pool 3 .int y42.2.1)]) ?_ ?_))))
 ·intro _ h;refine Aa 36 (rsT 2 ?_);obtain ⟨y61,h61,h⟩:=Ah h;exact O8 (.bool y61) [] [.agg [.str y58.2.1,.own (oi 1297 20) Y8 0 y58.2.2.2.2.1.length,ai y58.2.2.1,ai y58.2.2.2.1,oS 1298 20 y58.2.2.2.2.2.length],.agg [.str y11.1,.tree Y8 y11.2.1,ai y11.2.2.1,ai y11.2.2.2.1,tS y11.2.2.2.2.1]] _ (caps:=[]) (args0:=[.agg [.str y58.2.1,.tree Y8 y58.2.2.2.2.1,ai y58.2.2.1,ai y58.2.2.2.1,tS y58.2.2.2.2.2],.agg [.str y11.1,.tree Y8 y11.2.1,ai y11.2.2.1,ai y11.2.2.2.1,tS y11.2.2.2.2.1]]) trivial (Al (Sq (Al kr (Al (C2 (e:=88) kr rfl) (Al kr (Al kr (Al (F6 (p:=oi 1299 20) (e1:=81) (e:=3) (u:=.int) (xss:=y58.2.2.2.2.2) kr (Br kr) rfl) Bz)))))) (Al kr Bz)) (Fq h61) kr (rsT 2 (kR h 88 (fun _ h=>rsT 4 (Ap (tn_ (by obtain rfl:=osj h;exact (Kp (oi 2 1) (.cells 51 [.str y15.2.1,.own (oi 3 1) Y8 0 y15.2.2.2.2.1.length,ai y15.2.2.1,ai y15.2.2.2.1,oS 4 1 y15.2.2.2.2.2.length]) (.cells 51 [.str y15.2.1,.own (oi 3 1) Y8 0 y42.1.length,ai y15.2.2.1,ai y15.2.2.2.1,oS 4 1 y15.2.2.2.2.2.length]) kr (congrArg (fun z_=>(.cells 51 [.str y15.2.1,.own (oi 3 1) Y8 0 z_,ai y15.2.2.1,ai y15.2.2.2.1,oS 4 1 y15.2.2.2.2.2.length]:Ob)) (g43.symm:y15.2.2.2.2.1.length=y42.1.length))).trans ((Kp (oi 2 1) (.cells 51 [.str y15.2.1,.own (oi 3 1) Y8 0 y42.1.length,ai y15.2.2.1,ai y15.2.2.2.1,oS 4 1 y15.2.2.2.2.2.length]) (.cells 51 [.str y15.2.1,.own (oi 3 1) Y8 0 y42.1.length,ai y15.2.2.1,ai y15.2.2.2.1,oS 4 1 y42.2.1.length]) kr (congrArg (fun z_=>(.cells 51 [.str y15.2.1,.own (oi 3 1) Y8 0 y42.1.length,ai y15.2.2.1,ai y15.2.2.2.1,oS 4 1 z_]:Ob)) (g44.symm:y15.2.2.2.2.2.length=y42.2.1.length))).trans (Ag [(oi 0 1,oi 2 1),(oi 1 1,oi 3 1),(oi 2 1,oi 4 1),(oi 3 1,oi 1088 5)])))))) fun _ h=>rsT 4 (Ap (tn_ (by obtain rfl:=osj h;exact (Kp (oi 2 1) (.cells 51 [.str y15.2.1,.own (oi 3 1) Y8 0 y15.2.2.2.2.1.length,ai y15.2.2.1,ai y15.2.2.2.1,oS 4 1 y15.2.2.2.2.2.length]) (.cells 51 [.str y15.2.1,.own (oi 3 1) Y8 0 y42.1.length,ai y15.2.2.1,ai y15.2.2.2.1,oS 4 1 y15.2.2.2.2.2.length]) kr (congrArg (fun z_=>(.cells 51 [.str y15.2.1,.own (oi 3 1) Y8 0 z_,ai y15.2.2.1,ai y15.2.2.2.1,oS 4 1 y15.2.2.2.2.2.length]:Ob)) (g43.symm:y15.2.2.2.2.1.length=y42.1.length))).trans ((Kp (oi 2 1) (.cells 51 [.str y15.2.1,.own (oi 3 1) Y8 0 y42.1.length,ai y15.2.2.1,ai y15.2.2.2.1,oS 4 1 y15.2.2.2.2.2.length]) (.cells 51 [.str y15.2.1,.own (oi 3 1) Y8 0 y42.1.length,ai y15.2.2.1,ai y15.2.2.2.1,oS 4 1 y42.2.1.length]) kr (congrArg (fun z_=>(.cells 51 [.str y15.2.1,.own (oi 3 1) Y8 0 y42.1.length,ai y15.2.2.1,ai y15.2.2.2.1,oS 4 1 z_]:Ob)) (g44.symm:y15.2.2.2.2.2.length=y42.2.1.length))).trans (Ag [(oi 0 1,oi 2 1),(oi 1 1,oi 3 1),(oi 2 1,oi 4 1),(oi 3 1,oi 1088 5)])))))))
 intro u7 h;refine kQ h (fun _ h=>Ae (Ac (tr_ (jS h)))) fun _ h=>skW (Ae (Ab (Aa 7 (rsT 2 ?_))))
 obtain ⟨y67,h67,h⟩:=Ah h;exact O8 (ai y67) [] [.agg [.str y15.2.1,.own (oi 1 1) Y8 0 y42.1.length,ai y15.2.2.1,ai y15.2.2.2.1,oS 2 1 y42.2.1.length],ai 1] _ (caps:=[]) (args0:=[.agg [.str y15.2.1,.tree Y8 y42.1,ai y15.2.2.1,ai y15.2.2.2.1,tS y42.2.1],ai 1]) trivial (Al (Sq (Al kr (Al (C2 (e:=88) kr rfl) (Al kr (Al kr (Al (F6 (p:=oi 3 1) (e1:=81) (e:=3) (u:=.int) (xss:=y42.2.1) kr (Br kr) rfl) Bz)))))) (Al kr Bz)) (Ln h67) kr (rsT 1 (rnW (Ab (Ae (kQ h (fun _ h=>Ae (Ac (tr_ (jS h)))) fun _ h=>skW (Ab (Ae (kQ h (fun _ h=>Ae (Ac (tr_ (jS h)))) fun _ h=>skW (Ae (Ac (jS h)))))))))))
end


section
theorem Ny (b:Bool):Dn (some (if b then Ctl.next () else Ctl.out false)) (fun _:Unit=>some true)=some b:=by cases b <;> rfl
theorem P0 (x lo hi:Int):Cb x lo hi=some (inR x lo hi):=by
 unfold Cb inR;by_cases h:lo<=x <;> simp [h]
theorem Ot (x lo hi:Int):B5 x lo hi=some (inR x lo hi):=by
 unfold B5 inR;by_cases h:lo<=x <;> simp [h]
theorem Atw (xs:List Int) (lo hi:Int) (hx:xs.length<=1099511627776):E3 xs lo hi=some (xs.all fun x=>inR x lo hi):=by
 unfold E3;rw [G3 xs (fun x=>inR x lo hi) (.next ()) (.out false) oM (fun i x h=>?_) ?_,Ny]
 ·unfold Nb;rw [At oM,cond_false]
 ·have:=Ai h;unfold Nb;rw [Au oM,cond_true,h,obs,P0,obs,Af oM];cases inR x lo hi <;> rfl
theorem Aun {p:Int} (h:inR p 2 97=false):isF p=false:=by rcases Ank.1 h with h|h <;> simp [isF] <;> omega
theorem Vy (p:Int):G1 p=some (isF p):=by
 unfold G1;rw [P0,obs];cases hr:inR p 2 97
 ·rw [Aun hr];rfl
 rw [Bool.not_true,cond_false];obtain ⟨h1,h2⟩:=D9.1 hr;obtain ⟨n,rfl⟩:=Int.eq_ofNat_of_zero_le (show 0<=p by omega)
 have h:Aq (fun s_:Nat=>Id n s_) 4611686018427387904 2=some (if isF n then .next () else .out false):=by
  refine Ji 8 (fun i s=>s=i+2/\Aer n s=true) oM _ ⟨rfl,by simp [Aer,List.range_succ]⟩ ?_ ?_
  ·rintro i s hi ⟨hs,hd⟩;unfold Id;have hm:((s:Int)*(s:Int))=((s*s:Nat):Int):=by simp
   have hss:s*s<=9*9:=Nat.mul_le_mul oM oM;rw [hm,A4 oM oM];by_cases hle:s*s<=n
   ·rw [Au oM,cond_true,Af oM,show Int.tmod (n:Int) (s:Int)=((n % s:Nat):Int) from by rw [Int.tmod_eq_emod_of_nonneg oM];rfl];by_cases h0:n % s=0
    ·refine .inr ?_;rw [h0,At4 n oM s oM oM hle h0];rfl
    ·refine .inl ⟨s+1,?_,by omega,Aj8 hd h0⟩;rw [show (((n % s:Nat):Int)==0)=false from by rw [beq_eq_false_iff_ne];omega,cond_false,Af oM]
   ·refine .inr ?_;rw [At oM,cond_false,Ad3 n oM oM s oM hd oM];rfl
  ·rintro s ⟨hs,hd⟩;obtain rfl:s=10:=by omega
   unfold Id;rw [show wI (((10:Nat):Int)*((10:Nat):Int))=100 from A4 oM oM,At oM,cond_false,Ad3 n oM oM 10 oM hd oM];rfl
 rw [h,Ny]
theorem Ah3 (p x:Int):Ih p x=some (inR x 0 (p - 1)):=by
 unfold Ih inR;by_cases h:0<=x
 ·simp [h,show (x<p↔x<=p - 1) by omega]
 ·simp [h]
theorem Au9 (p:Int) (xs:List Int) (hp:2<=p/\p<=97) (hx:xs.length<=1099511627776):Pf p xs=some (xs.all fun x=>inR x 0 (p - 1)):=by
 unfold Pf;rw [A4 oM oM,Atw _ _ _ hx];rfl
theorem Ajr (p:Int) (xs:List Int) (n:Int) (hx:xs.length<=1099511627776):Jv p xs n=some (((xs.length:Nat):Int)==n&&xs.all fun x=>inR x 0 (p - 1)):=by
 unfold Jv;cases hn:((xs.length:Nat):Int)==n
 ·rw [show (((xs.length:Nat):Int) !=n)=true by simp only [bne,hn,Bool.not_false]];rfl
 rw [show (((xs.length:Nat):Int) !=n)=false by simp only [bne,hn,Bool.not_true],cond_false];rw [G3 xs (fun x=>inR x 0 (p - 1)) (.next ()) (.out false) oM (fun i x h=>?_) ?_,Ny,Bool.true_and]
 ·unfold J7;rw [At oM,cond_false]
 ·have:=Ai h;unfold J7;rw [Au oM,cond_true,h,obs,Ah3,obs,Af oM];cases inR x 0 (p - 1) <;> rfl
theorem Aqe {p x:Int} (hp:2<=p/\p<=97):Q8 p x=some (x % p):=by
 unfold Q8;rw [Af oM]
 have e1:x.tmod p=if 0<=x∨x % p=0 then x % p else x % p - p:=by
  simp only [Int.tmod_eq_emod,Int.dvd_iff_emod_eq_zero];split <;> simp <;> omega
 have h1:=Int.emod_nonneg x (show p≠0 by omega);have h2:=Int.emod_lt_of_pos x (show 0<p by omega);by_cases h:x.tmod p<0
 ·rw [Au h,cond_true,obs,A4 oM oM];congr 1;split at e1 <;> omega
 ·rw [At h,cond_false,obs];congr 1;split at e1 <;> omega
theorem Atb (xs:List Int) (h:xs.length<=1000000):Nt xs=some xs:=by
 unfold Nt;rw [Af oM]
theorem Vh (xs:List Int) (h:xs.length<=1000000):Gn xs=some xs:=by
 unfold Gn;rw [Af oM]
theorem Am1 {p x y:Int} (hp:2<=p/\p<=97) (hx:0<=x/\x<p) (hy:0<=y/\y<p):Dq p x y=some ((x+y) % p):=by
 unfold Dq;rw [Af oM,A4 oM oM,Int.tmod_eq_emod_of_nonneg oM]
theorem Abp {p x y:Int} (hp:2<=p/\p<=97) (hx:0<=x/\x<p) (hy:0<=y/\y<p):0<=x*y/\x*y<=10000:=by
 refine ⟨Int.mul_nonneg hx.1 hy.1,?_⟩;have h1:x*y<=97*y:=Int.mul_le_mul_of_nonneg_right oM hy.1;omega
theorem Amu {p x y:Int} (hp:2<=p/\p<=97) (hx:0<=x/\x<p) (hy:0<=y/\y<p):Kx p x y=some ((x*y) % p):=by
 have:=Abp hp hx hy;unfold Kx;rw [Af oM,A4 oM oM,Int.tmod_eq_emod_of_nonneg oM]
end
section
theorem Axa (a b:ByteArray):(a.toList==b.toList)=(a.data.toList==b.data.toList):=by rw [ByteArray.toList_eq,ByteArray.toList_eq]
theorem Akq (s:ByteArray) (i:Nat):s[i]? =s.data.toList[i]?:=by
 by_cases h:i<s.size
 ·rw [getElem?_pos s i h];have h':i<s.data.toList.length:=by simpa using h
  rw [gEg h'];rfl
 ·rw [getElem?_neg s i h,List.getElem?_eq_none (by simp;exact Nat.le_of_not_lt h)]
theorem As4 (s:ByteArray):s.size=s.data.toList.length:=by
 show s.data.size=_;exact Array.length_toList.symm
def loB (c:UInt8):Bool:=decide (97<=((c.toNat:Nat):Int))&&decide (((c.toNat:Nat):Int)<=122)
def dgB (c:UInt8):Bool:=decide (48<=((c.toNat:Nat):Int))&&decide (((c.toNat:Nat):Int)<=57)
theorem Ad1 (c:UInt8):Hr ((c.toNat:Nat):Int)=some (loB c):=by
 unfold Hr loB;cases decide (97<=((c.toNat:Nat):Int)) <;> rfl
theorem Aoj (c:UInt8):Kv ((c.toNat:Nat):Int)=some (dgB c):=by
 unfold Kv dgB;cases decide (48<=((c.toNat:Nat):Int)) <;> rfl
def U0:List ByteArray:=[(⟨#[105,100]⟩:ByteArray),(⟨#[115,119,97,112]⟩:ByteArray),(⟨#[99,111,112,121]⟩:ByteArray),(⟨#[100,105,115,99,97,114,100]⟩:ByteArray),(⟨#[97,100,100]⟩:ByteArray),(⟨#[122,101,114,111]⟩:ByteArray),(⟨#[115,99,97,108,101]⟩:ByteArray),(⟨#[100,101,108,97,121]⟩:ByteArray),(⟨#[99,111,99,111,112,121]⟩:ByteArray),(⟨#[99,111,100,105,115,99,97,114,100]⟩:ByteArray),(⟨#[99,111,97,100,100]⟩:ByteArray),(⟨#[99,111,122,101,114,111]⟩:ByteArray),(⟨#[99,111,115,99,97,108,101]⟩:ByteArray),(⟨#[99,111,100,101,108,97,121]⟩:ByteArray)]
theorem Ajo:K6=some U0:=rfl
theorem Aib:L5=some ((⟨#[]⟩:ByteArray) :: U0):=rfl
theorem Av7 (l:List ByteArray) (hl:l.length<=1000) (s:ByteArray):L9 l s=some (l.any fun x=>x.toList==s.toList):=by
 unfold L9
 have hs:∀ i x,l[i]? =some x->Ep l s i=some (if x.toList==s.toList then Ctl.out (Ctl.out true) else Ctl.next (i+1)):=fun i x h=>by
  have:=Ai h;unfold Ep;rw [Au oM,cond_true,h,obs,Af oM];cases x.toList==s.toList <;> rfl
 have he:Ep l s l.length=some (Ctl.out (Ctl.next ())):=by
  unfold Ep;rw [At oM,cond_false]
 rcases Aeu (body:=fun s_:Nat=>Ep l s s_) l (fun x=>x.toList==s.toList) (Ctl.next ()) (fun i=>Ctl.out true) (F:=4611686018427387904) oM hs he with ⟨h1,i,hi,h2⟩|⟨h1,h2⟩
 ·rw [h2,h1];rfl
 ·rw [h2,h1];rfl
theorem Aq6 (s:ByteArray):∃ k:Int,Mr s=some k/\(k !=17)=(((⟨#[]⟩:ByteArray) :: U0).any fun x=>x.toList==s.toList):=by
 unfold Mr;rw [Aib,obs];have hl:((⟨#[]⟩:ByteArray) :: U0).length=15:=rfl;generalize ((⟨#[]⟩:ByteArray) :: U0)=l at hl ⊢
 have hs:∀ i x,l[i]? =some x->Eo l s i=some (if x.toList==s.toList then Ctl.out (Ctl.out (i:Int)) else Ctl.next (i+1)):=fun i x h=>by
  have:=Ai h;unfold Eo;rw [Au oM,cond_true,h,obs,Af oM];cases x.toList==s.toList <;> rfl
 have he:Eo l s l.length=some (Ctl.out (Ctl.next ())):=by
  unfold Eo;rw [At oM,cond_false]
 rcases Aeu (body:=fun s_:Nat=>Eo l s s_) l (fun x=>x.toList==s.toList) (Ctl.next ()) (fun i=>Ctl.out (i:Int)) (F:=4611686018427387904) oM hs he with ⟨h1,i,hi,h2⟩|⟨h1,h2⟩
 ·rw [h2,h1];exact ⟨_,rfl,by rw [bne_iff_ne];omega⟩
 ·rw [h2,h1];exact ⟨_,rfl,rfl⟩
theorem Akm (s:ByteArray):∃ b,Mi s=some b/\Me s=some b:=by
 unfold Mi Me Pw;rw [Ot,P0];cases hr:inR ((s.size:Nat):Int) 1 8
 ·exact ⟨false,rfl,rfl⟩
 have hb:=D9.1 hr;have hsz:=As4 s;obtain ⟨c,hc⟩:∃ c,s[0]? =some c:=⟨_,getElem?_pos s 0 oM⟩
 have hcl:s.data.toList[0]? =some c:=by rw [← Akq];exact hc
 rw [obs,obs,Bool.not_true,cond_false,cond_false,hc,obs,obs,Ad1,obs,obs];cases hlo:loB c
 ·refine ⟨false,rfl,?_⟩
  have:(decide (((c.toNat:Nat):Int)<97))=true∨decide (122<((c.toNat:Nat):Int))=true:=by
   simp only [decide_eq_true_eq];simp only [loB,Bool.and_eq_false_iff,decide_eq_false_iff_not] at hlo;omega
  rcases this with h|h
  ·rw [h];rfl
  ·rw [h];cases decide (((c.toNat:Nat):Int)<97) <;> rfl
 have hlo':=hlo;simp only [loB,Bool.and_eq_true,decide_eq_true_eq] at hlo';obtain ⟨k,hk,hk2⟩:=Aq6 s;rw [hk,obs,Bool.not_true,cond_false,obs,hk2,At (show ¬ ((c.toNat:Nat):Int)<97 by omega),cond_false,At (show ¬ 122<((c.toNat:Nat):Int) by omega),obs,cond_false]
 have hne:((⟨#[]⟩:ByteArray).toList==s.toList)=false:=by
  rw [Axa,beq_eq_false_iff_ne];intro e;rw [← e] at hcl;simp at hcl
 rw [List.any_cons,hne,Bool.false_or]
 -- the rest of the letters
 have hI:Aq (fun s_:Nat=>Iv s s_) 4611686018427387904 0=some (if s.data.toList.all (fun x=>loB x||dgB x) then Ctl.next () else Ctl.out false):=by
  refine G3 s.data.toList (fun x=>loB x||dgB x) (Ctl.next ()) (Ctl.out false) oM (fun i x h=>?_) ?_
  ·have:=Ai h;unfold Iv;rw [Au oM,cond_true,Akq,h,obs,Ad1,obs,obs,Aoj,obs,Af oM];cases loB x <;> cases dgB x <;> rfl
  ·unfold Iv;rw [At oM,cond_false]
 have hstep:∀ i x,s.data.toList[i]? =some x->B6 s i=some (if loB x||dgB x then Ctl.next (i+1) else Ctl.out (Ctl.out false)):=fun i x h=>by
  have:=Ai h;unfold B6;rw [Au oM,cond_true,Akq,h];simp only [obs];rw [Af oM]
  have e:∀ n:Int,(cond (decide (n<97)) (cond (decide (n<48)) (some true) (some (decide (57<n)))) (cond (decide (122<n)) (cond (decide (n<48)) (some true) (some (decide (57<n)))) (some false)):Option Bool)=some (!((decide (97<=n)&&decide (n<=122))||(decide (48<=n)&&decide (n<=57)))):=by
   intro n;by_cases h1:n<97
   ·by_cases h2:n<48
    ·rw [Au h1,Au h2,At (show ¬ 97<=n by omega),At (show ¬ 48<=n by omega)];rfl
    ·by_cases h3:57<n
     ·rw [Au h1,At h2,Au h3,At (show ¬ 97<=n by omega),At (show ¬ n<=57 by omega),Bool.and_false];rfl
     ·rw [Au h1,At h2,At h3,At (show ¬ 97<=n by omega),Au (show 48<=n by omega),Au (show n<=57 by omega)];rfl
   ·by_cases h2:122<n
    ·rw [At h1,Au h2,At (show ¬ n<48 by omega),Au (show 57<n by omega),At (show ¬ n<=122 by omega),At (show ¬ n<=57 by omega),Bool.and_false,Bool.and_false];rfl
    ·rw [At h1,At h2,Au (show 97<=n by omega),Au (show n<=122 by omega)];rfl
  have e':=e ((x.toNat:Nat):Int);rw [e',obs];show cond (!(loB x||dgB x)) _ _=_;cases loB x||dgB x <;> rfl
 have hS0:Aq (fun s_:Nat=>B6 s s_) (4611686018427387904+1) 0=some (if s.data.toList.all (fun x=>loB x||dgB x) then Ctl.next () else Ctl.out false):=by
  refine G3 s.data.toList (fun x=>loB x||dgB x) (Ctl.next ()) (Ctl.out false) oM hstep ?_;unfold B6;rw [At oM,cond_false]
 have hS:Aq (fun s_:Nat=>B6 s s_) 4611686018427387904 1=some (if s.data.toList.all (fun x=>loB x||dgB x) then Ctl.next () else Ctl.out false):=by
  rw [← hS0];have h0:B6 s 0=some (Ctl.next 1):=by rw [hstep 0 c hcl,hlo];rfl
  have hu:∀ n,Aq (fun s_:Nat=>B6 s s_) (n+1) 0=Aq (fun s_:Nat=>B6 s s_) n 1:=fun n=>by
   show (B6 s 0).bind _=_;rw [h0];rfl
  exact (hu _).symm
 rw [hI,hS,Ajo,obs,Av7 U0 (by decide) s];generalize (U0.any fun x=>x.toList==s.toList)=u;cases s.data.toList.all (fun x=>loB x||dgB x) <;> cases u <;> exact ⟨_,rfl,rfl⟩
end
section
abbrev Nd:=Int×Int×ByteArray
abbrev L4 (s:ByteArray):Bool:=s.toList==(⟨#[]⟩:ByteArray).toList
def Ze (k v:Int):Bool:=if k=7∨k=13 then inR v 0 96 else v==0
def lfW (n:Nd):Option (Int×Int) :=
 if L4 n.2.2=true then
  if n.1=1 then (if 0<=n.2.1/\n.2.1<=12 then some (n.2.1,n.2.1) else none)
  else if n.1=2 then (if n.2.1=0 then some (2,2) else none)
  else if 3<=n.1/\n.1<=14 then (if Ze n.1 n.2.1=true then some (gwV n.1) else none)
  else none
 else none
def okW (w:Int×Int):Prop:=(0<=w.1/\w.1<=12)/\(0<=w.2/\w.2<=12)
theorem Awg (k:Int):okW (gwV k):=by
 unfold gwV
 repeat' split
 all_goals exact ⟨⟨by decide,by decide⟩,⟨by decide,by decide⟩⟩
theorem Afl {n:Nd} {w:Int×Int} (h:lfW n=some w):okW w:=by
 unfold lfW at h;split at h
 ·split at h
  ·split at h
   ·rename_i h1;obtain rfl:=osj h;exact ⟨h1,h1⟩
   ·cases h
  ·split at h
   ·split at h
    ·obtain rfl:=osj h;exact ⟨⟨by decide,by decide⟩,⟨by decide,by decide⟩⟩
    ·cases h
   ·split at h
    ·split at h
     ·obtain rfl:=osj h;exact Awg _
     ·cases h
    ·cases h
 ·cases h
theorem R3 {n:Nd} {w:Int×Int} (h:lfW n=some w):1<=n.1/\n.1<=14:=by
 unfold lfW at h;split at h
 ·split at h
  ·omega
  ·split at h
   ·omega
   ·split at h
    ·omega
    ·cases h
 ·cases h
def lfL (lib:List (ByteArray×Int×Int×List Nd)) (n:Nd):Option (Int×Int) :=
 if n.1=17 then (if n.2.1=0 then (lib.find? fun d=>d.1.toList==n.2.2.toList).map fun d=>(d.2.1,d.2.2.1) else none) else lfW n
theorem Aso:lfL []=lfW:=by
 funext n;unfold lfL;by_cases h:n.1=17
 ·rw [if_pos h];cases hw:lfW n with
  | some w=>have:=R3 hw;omega
  | none=>split <;> rfl
 ·rw [if_neg h]
theorem Akh {lib:List (ByteArray×Int×Int×List Nd)} (hl:∀ d∈lib,okW (d.2.1,d.2.2.1)) (n:Nd) (w:Int×Int) (h:lfL lib n=some w):okW w:=by
 unfold lfL at h;split at h
 ·split at h
  ·obtain ⟨d,hd,rfl⟩:=oms.1 h;exact hl d (List.mem_of_find?_eq_some hd)
  ·cases h
 ·exact Afl h
section
variable (lf:Nd->Option (Int×Int))
def Ek (n:Nd) (T:List (Int×Int)):Option (List (Int×Int)) :=
 if n.1=15∨n.1=16 then
  if n.2.1=0/\L4 n.2.2=true then
   match T with
   | b :: a :: r=>if n.1=15 then (if a.2=b.1 then some ((a.1,b.2) :: r) else none) else (if a.1+b.1<=12/\a.2+b.2<=12 then some ((a.1+b.1,a.2+b.2) :: r) else none)
   | _=>none
  else none
 else (lf n).map (· :: T)
def Kc:List Nd->List (Int×Int)->Option (List (Int×Int))
 | [],T=>some T
 | n :: r,T=>(Ek lf n T).bind (Kc r)
end
section
variable {lf:Nd->Option (Int×Int)}
def okT (T:List (Int×Int)):Prop:=∀ w∈T,okW w
theorem Of (hlf:∀ n w,lf n=some w->okW w) {n:Nd} {T T':List (Int×Int)} (h:Ek lf n T=some T') (hT:okT T):okT T':=by
 unfold Ek at h;split at h
 ·split at h
  ·split at h
   ·rename_i b a r;have ha:=hT a (by simp);have hb:=hT b (by simp);have hr:okT r:=fun w hw=>hT w (by simp [hw])
    split at h
    ·split at h
     ·obtain rfl:=osj h;intro w hw;rcases List.mem_cons.1 hw with rfl|hw
      ·exact ⟨ha.1,hb.2⟩
      ·exact hr w hw
     ·cases h
    ·split at h
     ·rename_i h1;obtain rfl:=osj h;intro w hw;rcases List.mem_cons.1 hw with rfl|hw
      ·have:=ha.1;have:=hb.1;have:=ha.2;have:=hb.2;refine ⟨⟨?_,h1.1⟩,⟨?_,h1.2⟩⟩ <;> (try show (0:Int)<=_+_) <;> omega
      ·exact hr w hw
     ·cases h
   ·cases h
  ·cases h
 ·obtain ⟨w,hw,rfl⟩:=oms.1 h;intro v hv;rcases List.mem_cons.1 hv with rfl|hv
  ·exact hlf _ _ hw
  ·exact hT v hv
theorem Abf:∀ (xs ys:List Nd) (T:List (Int×Int)),Kc lf (xs++ys) T=(Kc lf xs T).bind (Kc lf ys)
 | [],_,_=>rfl
 | n :: r,ys,T=>by
  show (Ek lf n T).bind (Kc lf (r++ys))=((Ek lf n T).bind (Kc lf r)).bind (Kc lf ys);cases Ek lf n T with
  | none=>rfl
  | some T'=>exact Abf r ys T'
theorem N1 {xs:List Nd} {k:Nat} {n:Nd} {T:List (Int×Int)} (h:xs[k]? =some n) (hT:Kc lf (xs.take k) []=some T):Kc lf (xs.take (k+1)) []=Ek lf n T:=by
 rw [List.take_add_one,h,Abf,hT,obs];show (Ek lf n T).bind (Kc lf [])=_;cases Ek lf n T <;> rfl
theorem Th {xs:List Nd} {k:Nat} (h:Kc lf (xs.take k) []=none):Kc lf xs []=none:=by
 rw [← List.take_append_drop k xs,Abf,h];rfl
theorem Al1 {xs:List Nd} {T:List (Int×Int)} (hx:xs≠[]) (h:Kc lf xs []=some T):T≠[]:=by
 obtain ⟨k,hk⟩:∃ k,xs.length=k+1:=⟨xs.length - 1,by have:=List.length_pos_iff.2 hx;omega⟩
 have hl:xs.take xs.length=xs:=List.take_length;have hn:=gEg (show k<xs.length by omega);cases hp:Kc lf (xs.take k) [] with
 | none=>rw [Th hp] at h;cases h
 | some T0 =>
  have h2:=N1 hn hp;rw [← hk,hl,h] at h2;intro e;subst e;unfold Ek at h2;split at h2
  ·split at h2
   ·split at h2
    ·split at h2 <;> split at h2 <;> cases h2
    ·cases h2
   ·cases h2
  ·cases hw:lf (xs[k]'oM) with
   | none=>rw [hw] at h2;cases h2
   | some w=>rw [hw] at h2;cases h2
end
def tyG (lf:Nd->Option (Int×Int)) (xs:List Nd):Option (Int×Int) :=
 if 1<=xs.length/\xs.length<=400 then (match Kc lf xs [] with|some [w]=>some w|_=>none) else none
def tyV (xs:List Nd):Option (Int×Int):=tyG lfW xs
-- leaves on both sides
theorem Avt (n:Nd):∃ r:Int×Int×Bool,F5 n.1 n.2.1 n.2.2=some r/\match lfW n with|some w=>r=(w.1,w.2,true)|none=>r.2.2=false:=by
 obtain ⟨k,v,s⟩:=n;dsimp only;unfold F5 lfW;dsimp only;cases hs:L4 s
 ·have hs':(s.toList==(⟨#[]⟩:ByteArray).toList)=false:=hs;rw [hs'];exact ⟨_,rfl,rfl⟩
 have hs':(s.toList==(⟨#[]⟩:ByteArray).toList)=true:=hs;rw [hs',if_pos rfl,Bool.not_true,cond_false];by_cases h1:k=1
 ·subst h1;rw [beq_self_eq_true,cond_true,Ot,if_pos rfl];by_cases h2:0<=v/\v<=12
  ·rw [if_pos h2,D9.2 h2];exact ⟨_,rfl,rfl⟩
  ·rw [if_neg h2,show inR v 0 12=false by rw [Bool.eq_false_iff];intro e;exact h2 (D9.1 e)];exact ⟨_,rfl,rfl⟩
 rw [beq_eq_false_iff_ne.2 h1,cond_false,if_neg h1];by_cases h2:k=2
 ·subst h2;rw [beq_self_eq_true,cond_true,if_pos rfl];by_cases h3:v=0
  ·subst h3;exact ⟨_,rfl,rfl⟩
  ·rw [if_neg h3,beq_eq_false_iff_ne.2 h3];exact ⟨_,rfl,rfl⟩
 rw [beq_eq_false_iff_ne.2 h2,cond_false,if_neg h2];unfold Ka;rw [Ot];by_cases h3:3<=k/\k<=14
 ·rw [if_pos h3,D9.2 h3,obs,obs,cond_true];unfold Di F3 Gt;rw [Af h3,obs];by_cases h7:k=7∨k=13
  ·have e:cond (k==7) (some true) (some (k==13))=some true:=by
    rcases h7 with rfl|rfl <;> rfl
   rw [e,obs,obs,cond_true,Ot,show Ze k v=inR v 0 96 from if_pos h7];cases inR v 0 96 <;> exact ⟨_,rfl,rfl⟩
  ·have e:cond (k==7) (some true) (some (k==13))=some false:=by
    rw [beq_eq_false_iff_ne.2 (fun e=>h7 (.inl e)),beq_eq_false_iff_ne.2 (fun e=>h7 (.inr e))];rfl
   rw [e,obs,obs,cond_false,show Ze k v=(v==0) from if_neg h7];cases v==0 <;> exact ⟨_,rfl,rfl⟩
 ·rw [if_neg h3,show inR k 3 14=false by rw [Bool.eq_false_iff];intro e;exact h3 (D9.1 e)];exact ⟨_,rfl,rfl⟩
theorem Ar5 (n:Nd):Jk n.1 n.2.1 n.2.2=some (lfW n).isSome:=by
 obtain ⟨k,v,s⟩:=n;dsimp only;unfold Jk lfW;dsimp only;cases hs:L4 s
 ·have hs':(s.toList==(⟨#[]⟩:ByteArray).toList)=false:=hs;rw [hs'];rfl
 have hs':(s.toList==(⟨#[]⟩:ByteArray).toList)=true:=hs;rw [hs',if_pos rfl,Bool.not_true,cond_false,P0,obs];by_cases h0:1<=k/\k<=14
 ·rw [D9.2 h0,obs,Bool.not_true,cond_false];by_cases h1:k=1
  ·subst h1;rw [beq_self_eq_true,cond_true,P0,if_pos rfl];by_cases h2:0<=v/\v<=12
   ·rw [if_pos h2,D9.2 h2];rfl
   ·rw [if_neg h2,show inR v 0 12=false by rw [Bool.eq_false_iff];intro e;exact h2 (D9.1 e)];rfl
  rw [beq_eq_false_iff_ne.2 h1,cond_false,if_neg h1];by_cases h7:k=7∨k=13
  ·have e:cond (k==7) (some (k==7)) (some (k==13))=some true:=by
    rcases h7 with rfl|rfl <;> rfl
   rw [e,obs,cond_true,P0,if_neg oM,if_pos oM,show Ze k v=inR v 0 96 from if_pos h7];cases inR v 0 96 <;> rfl
  ·have e:cond (k==7) (some (k==7)) (some (k==13))=some false:=by
    rw [beq_eq_false_iff_ne.2 (fun e=>h7 (.inl e)),beq_eq_false_iff_ne.2 (fun e=>h7 (.inr e))];rfl
   rw [e,obs,cond_false];by_cases h2:k=2
   ·rw [if_pos h2];by_cases h3:v=0
    ·rw [if_pos h3,beq_iff_eq.2 h3];rfl
    ·rw [if_neg h3,beq_eq_false_iff_ne.2 h3];rfl
   ·rw [if_neg h2,if_pos oM,show Ze k v=(v==0) from if_neg h7];cases v==0 <;> rfl
 ·rw [show inR k 1 14=false by rw [Bool.eq_false_iff];intro e;exact h0 (D9.1 e),if_neg oM,if_neg oM,if_neg oM];rfl
theorem Asx {n:Nd} {w:Int×Int} (h:lfW n=some w):F2 n.1 n.2.1 n.2.2=some w:=by
 have hk:=R3 h;obtain ⟨k,v,s⟩:=n;dsimp only at hk ⊢;unfold lfW at h;dsimp only at h;unfold F2 G4;split at h
 ·split at h
  ·rename_i h1;subst h1;split at h
   ·obtain rfl:=osj h;rfl
   ·cases h
  ·rename_i h1;rw [beq_eq_false_iff_ne.2 h1,cond_false];split at h
   ·rename_i h2;subst h2;split at h
    ·obtain rfl:=osj h;rfl
    ·cases h
   ·split at h
    ·split at h
     ·obtain rfl:=osj h;have hk':k=3∨k=4∨k=5∨k=6∨k=7∨k=8∨k=9∨k=10∨k=11∨k=12∨k=13∨k=14:=by omega
      rcases hk' with rfl|rfl|rfl|rfl|rfl|rfl|rfl|rfl|rfl|rfl|rfl|rfl <;> rfl
     ·cases h
    ·cases h
 ·cases h
theorem Al4 {lf:Nd->Option (Int×Int)} (hlf:∀ n w,lf n=some w->okW w):∀ {xs:List Nd} {T T':List (Int×Int)},Kc lf xs T=some T'->okT T->okT T'
 | [],_,_,h,hT=>by obtain rfl:=osj h;exact hT
 | n :: r,T,T',h,hT=>by
  have h:(Ek lf n T).bind (Kc lf r)=some T':=h;obtain ⟨T1,h1,h2⟩:=Option.bind_eq_some_iff.1 h;exact Al4 hlf h2 (Of hlf h1 hT)
end
section
theorem Axl {a b:Int×Int} {r:List (Int×Int)}:(b :: a :: r).reverse=r.reverse++[a,b]:=by simp
theorem At8 {a b:Int×Int} {r:List (Int×Int)}:(r.reverse++[a,b])[r.length]? =some a/\(r.reverse++[a,b])[r.length+1]? =some b:=by
 constructor
 ·rw [List.getElem?_append_right (by simp),List.length_reverse,Nat.sub_self];rfl
 ·rw [List.getElem?_append_right (by simp),List.length_reverse,Nat.add_sub_cancel_left];rfl
theorem Avw {k:Int} {a b:Int×Int} (ha:okW a) (hb:okW b):F4 k a.1 a.2 b.1 b.2=some (if k=15 then (a.1,b.2,a.2==b.1) else (a.1+b.1,a.2+b.2,decide (a.1+b.1<=12)&&decide (a.2+b.2<=12))):=by
 obtain ⟨⟨a1,a2⟩,a3,a4⟩:=ha;obtain ⟨⟨b1,b2⟩,b3,b4⟩:=hb;unfold F4 L1;by_cases h:k=15
 ·rw [if_pos h,beq_iff_eq.2 h];rfl
 ·rw [if_neg h,beq_eq_false_iff_ne.2 h,cond_false,A4 (n:=a.1+b.1) oM oM,A4 (n:=a.2+b.2) oM oM];cases decide (a.1+b.1<=12) <;> rfl
def Ate (leaf:Int->Int->ByteArray->Option (Int×Int×Bool)) (a0:List (Int×Int×ByteArray)) (l10_m22:Nat) (l10_m6:List (Int×Int)):Option (Ctl (Nat×(List (Int×Int))) (Ctl (List (Int×Int)) (Int×Int×Bool))) :=
 cond (decide (((l10_m22:Nat):Int)<((a0.length:Nat):Int)))
 (Dn (Option.bind (a0[l10_m22]?) fun x16 =>
  Option.bind (cond (x16.1 !=15)
   (some (x16.1 !=16))
   (some false)) fun l18_m33 =>
  cond l18_m33
   (Option.bind (leaf x16.1 x16.2.1 x16.2.2) fun y22 =>
   cond (!y22.2.2)
    (some (Ctl.out (Ctl.out (Ctl.out (0,0,false)))))
    (og (l10_m6.length+1<=1073741824/\(l10_m6.length+1)*16<=140737488355328) <|
    some (Ctl.next (l10_m6++([(y22.1,y22.2.1)])))))
   (Option.bind (cond (x16.2.1 !=0)
    (some true)
    (cond (!(x16.2.2.toList==(⟨#[]⟩:ByteArray).toList))
     (some true)
     (some (decide (((l10_m6.length:Nat):Int)<2))))) fun l30_m59 =>
   cond l30_m59
    (some (Ctl.out (Ctl.out (Ctl.out (0,0,false)))))
    (Option.bind (Cl l10_m6 (wI ((wI (((l10_m6.length:Nat):Int) - 1)) - 1))) fun x37 =>
    Option.bind (Cl l10_m6 (wI ((wI (((l10_m6.length:Nat):Int) - 1)) - 1))) fun x38 =>
    Option.bind (Cl l10_m6 (wI (((l10_m6.length:Nat):Int) - 1))) fun x39 =>
    Option.bind (Cl l10_m6 (wI (((l10_m6.length:Nat):Int) - 1))) fun x40 =>
    Option.bind (F4 x16.1 x38.1 x38.2 x40.1 x40.2) fun y41 =>
    cond (!y41.2.2)
     (some (Ctl.out (Ctl.out (Ctl.out (0,0,false)))))
     (og ((0:Int)<=0/\0<=wI ((wI (((l10_m6.length:Nat):Int) - 1)) - 1)/\wI ((wI (((l10_m6.length:Nat):Int) - 1)) - 1)<=((l10_m6.length:Nat):Int)) <|
     og (((l10_m6.take ((wI ((wI (((l10_m6.length:Nat):Int) - 1)) - 1)).toNat)).length)+1<=1073741824/\(((l10_m6.take ((wI ((wI (((l10_m6.length:Nat):Int) - 1)) - 1)).toNat)).length)+1)*16<=140737488355328) <|
     some (Ctl.next ((l10_m6.take ((wI ((wI (((l10_m6.length:Nat):Int) - 1)) - 1)).toNat))++([(y41.1,y41.2.1)]))))))) fun l14_m6 =>
 og (l10_m22+1<4611686018427387904) <|
 some (Ctl.next (l10_m22+1,l14_m6)))
 (some (Ctl.out (Ctl.next l10_m6)))
section
variable {lf:Nd->Option (Int×Int)} {leaf:Int->Int->ByteArray->Option (Int×Int×Bool)}
theorem Awh (hlf:∀ n w,lf n=some w->okW w) {xs:List Nd} (hleaf:∀ n∈xs,n.1≠15->n.1≠16->∃ r:Int×Int×Bool,leaf n.1 n.2.1 n.2.2=some r/\match lf n with|some w=>r=(w.1,w.2,true)|none=>r.2.2=false) (hx:1<=xs.length/\xs.length<=400):Aq (fun s_:Nat×List (Int×Int)=>Ate leaf xs s_.1 s_.2) 4611686018427387904 (0,[])=some (match Kc lf xs [] with|some T=>Ctl.next T.reverse|none=>Ctl.out (0,0,false)):=by
 refine Ji xs.length (fun k s=>∃ T,s=(k,T.reverse)/\Kc lf (xs.take k) []=some T/\okT T/\T.length<=k) oM _ ⟨[],rfl,rfl,(fun _ h=>by cases h),Nat.le_refl _⟩ ?_ ?_
 ·rintro k s hk ⟨T,rfl,hT,hok,hlen⟩;have hn:=gEg hk;generalize xs[k]=n at hn;have hnext:=N1 hn hT;have hfail:Ek lf n T=none->Kc lf xs []=none:=fun h=>Th (k:=k+1) (by rw [hnext,h])
  have hlr:T.reverse.length=T.length:=by simp
  try dsimp only
  unfold Ate;rw [Au oM,cond_true,hn,obs];by_cases hj:n.1=15∨n.1=16
  ·have e:(cond (n.1 !=15) (some (n.1 !=16)) (some false):Option Bool)=some false:=by
    rcases hj with h|h <;> rw [h] <;> rfl
   rw [e,obs,cond_false];by_cases hv:n.2.1=0/\L4 n.2.2=true
   ·have hs':(n.2.2.toList==(⟨#[]⟩:ByteArray).toList)=true:=hv.2;rw [hv.1,hs',show ((0:Int) !=0)=false from rfl,cond_false,Bool.not_true,cond_false,obs,hlr]
    match T,hT,hok,hlen,hnext,hfail with
    | [],hT,hok,hlen,hnext,hfail =>
     refine .inr ?_;rw [hfail (by unfold Ek;rw [if_pos hj,if_pos hv]),Au (by simp),cond_true];rfl
    | [b],hT,hok,hlen,hnext,hfail =>
     refine .inr ?_;rw [hfail (by unfold Ek;rw [if_pos hj,if_pos hv]),Au (by simp),cond_true];rfl
    | b :: a :: r,hT,hok,hlen,hnext,hfail =>
     have hb:=hok b (by simp);have ha:=hok a (by simp);have hl2:(b :: a :: r).length=r.length+2:=by simp
     have w1:wI (((r.length+2:Nat):Int) - 1)=((r.length+1:Nat):Int):=by rw [A4 oM oM];omega
     have w2:wI (((r.length+1:Nat):Int) - 1)=((r.length:Nat):Int):=by rw [A4 oM oM];omega
     obtain ⟨g1,g2⟩:=At8 (a:=a) (b:=b) (r:=r);rw [hl2,At oM,cond_false,w1,w2,Axl,Bs oM,Int.toNat_natCast,g1,obs,obs,Bs oM,Int.toNat_natCast,g2,obs,obs,Avw ha hb,obs];have htake:(r.reverse++[a,b]).take r.length=r.reverse:=List.take_left' (by simp)
     have hst:Ek lf n (b :: a :: r)=if n.1=15 then (if a.2=b.1 then some ((a.1,b.2) :: r) else none) else (if a.1+b.1<=12/\a.2+b.2<=12 then some ((a.1+b.1,a.2+b.2) :: r) else none):=by
      unfold Ek;rw [if_pos hj,if_pos hv]
     have hfin:∀ w:Int×Int,Ek lf n (b :: a :: r)=some (w :: r)->∃ s',(Dn (og ((0:Int)<=0/\0<=((r.length:Nat):Int)/\((r.length:Nat):Int)<=((r.length+2:Nat):Int)) (og ((((r.reverse++[a,b]).take r.length).length)+1<=1073741824/\((((r.reverse++[a,b]).take r.length).length)+1)*16<=140737488355328) (some (Ctl.next (((r.reverse++[a,b]).take r.length)++([(w.1,w.2)])):Ctl (List (Int×Int)) (Ctl (Nat×(List (Int×Int))) (Ctl (List (Int×Int)) (Int×Int×Bool))))))) fun l14_m6=>og (k+1<4611686018427387904) (some (Ctl.next (k+1,l14_m6))))=some (.next s')/\∃ T,s'=(k+1,T.reverse)/\Kc lf (xs.take (k+1)) []=some T/\okT T/\T.length<=k+1:=fun w hw=>by
      refine ⟨(k+1,r.reverse++[w]),?_,w :: r,by simp,by rw [hnext,hw],Of hlf hw hok,by simp at hlen ⊢;omega⟩;rw [Af oM,htake,Af (by simp at hlen ⊢;omega)];simp only [Dn,obs,Ctl.then];rw [Af oM]
     by_cases h15:n.1=15
     ·rw [if_pos h15];rw [if_pos h15] at hst;dsimp only;by_cases hab:a.2=b.1
      ·rw [if_pos hab] at hst;rw [beq_iff_eq.2 hab,Bool.not_true,cond_false];exact .inl (hfin (a.1,b.2) hst)
      ·rw [if_neg hab] at hst;rw [beq_eq_false_iff_ne.2 hab,hfail hst];exact .inr rfl
     ·rw [if_neg h15];rw [if_neg h15] at hst;dsimp only;by_cases hab:a.1+b.1<=12/\a.2+b.2<=12
      ·rw [if_pos hab] at hst;rw [Au hab.1,Au hab.2,Bool.and_true,Bool.not_true,cond_false];exact .inl (hfin (a.1+b.1,a.2+b.2) hst)
      ·rw [if_neg hab] at hst
       have e:(decide (a.1+b.1<=12)&&decide (a.2+b.2<=12))=false:=by
        rw [Bool.eq_false_iff];intro h;simp only [Bool.and_eq_true,decide_eq_true_eq] at h;exact hab h
       rw [e,hfail hst];exact .inr rfl
   ·refine .inr ?_;rw [hfail (by unfold Ek;rw [if_pos hj,if_neg hv])];by_cases h0:n.2.1=0
    ·have hs':(n.2.2.toList==(⟨#[]⟩:ByteArray).toList)=false:=by
      rw [Bool.eq_false_iff];intro h;exact hv ⟨h0,h⟩
     rw [h0,hs'];rfl
    ·rw [show (n.2.1 !=0)=true by rw [bne_iff_ne];exact h0];rfl
  ·have h15:n.1≠15:=fun e=>hj (.inl e)
   have h16:n.1≠16:=fun e=>hj (.inr e)
   have e:(cond (n.1 !=15) (some (n.1 !=16)) (some false):Option Bool)=some true:=by
    rw [bne_iff_ne.2 h15,cond_true,bne_iff_ne.2 h16]
   rw [e,obs,cond_true];have hst:Ek lf n T=(lf n).map (· :: T):=if_neg hj;obtain ⟨r,hr,hm⟩:=hleaf n (List.mem_of_getElem? hn) h15 h16;rw [hr,obs];cases hw:lf n with
   | none =>
    rw [hw] at hm hst;dsimp only at hm;rw [hm,hfail hst];exact .inr rfl
   | some w =>
    rw [hw] at hm hst;dsimp only at hm;subst hm;refine .inl ⟨(k+1,T.reverse++[w]),?_,w :: T,by simp,by rw [hnext,hst];rfl,Of hlf hst hok,by simp;omega⟩;rw [Bool.not_true,cond_false,Af (by rw [hlr];omega)];simp only [Dn,obs,Ctl.then];rw [Af oM]
 ·rintro s ⟨T,rfl,hT,hok,hlen⟩;rw [List.take_length] at hT;rw [hT]
  try dsimp only
  unfold Ate;rw [At oM,cond_false]
theorem Axj (hlf:∀ n w,lf n=some w->okW w) {xs:List Nd} (hleaf:∀ n∈xs,n.1≠15->n.1≠16->∃ r:Int×Int×Bool,leaf n.1 n.2.1 n.2.2=some r/\match lf n with|some w=>r=(w.1,w.2,true)|none=>r.2.2=false) :
  ∃ r:Int×Int×Bool,(Option.bind (B5 ((xs.length:Nat):Int) 1 400) fun y4=>cond (!y4) (some (0,0,false)) (Dn (Aq (fun s_:Nat×(List (Int×Int))=>Ate leaf xs s_.1 s_.2) 4611686018427387904 (0,[])) fun l8_m6=>Option.bind (l8_m6[0]?) fun x50=>some (x50.1,x50.2,((l8_m6.length:Nat):Int)==1)))=some r/\match tyG lf xs with|some w=>r=(w.1,w.2,true)|none=>r.2.2=false:=by
 unfold tyG;rw [Ot];by_cases hx:1<=xs.length/\xs.length<=400
 ·rw [D9.2 (show (1:Int)<=((xs.length:Nat):Int)/\((xs.length:Nat):Int)<=400 by omega),obs,Bool.not_true,cond_false,if_pos hx,Awh hlf hleaf hx];cases hr:Kc lf xs [] with
  | none=>exact ⟨_,rfl,rfl⟩
  | some T =>
   have hne:=Al1 (fun e=>by subst e;simp at hx) hr;dsimp only [Dn,obs,Ctl.then]
   match T,hne with
   | [w],_=>exact ⟨_,rfl,rfl⟩
   | a :: b :: r,_ =>
    obtain ⟨c,hc⟩:∃ c,(a :: b :: r).reverse[0]? =some c:=⟨_,gEg (by simp)⟩
    rw [hc];refine ⟨_,rfl,?_⟩;show ((((a :: b :: r).reverse.length:Nat):Int)==1)=false;rw [beq_eq_false_iff_ne];simp;omega
 ·rw [if_neg hx,show inR ((xs.length:Nat):Int) 1 400=false by rw [Bool.eq_false_iff];intro e;have:=D9.1 e;exact hx oM];exact ⟨_,rfl,rfl⟩
end
theorem All (xs:List Nd):∃ r:Int×Int×Bool,E9 xs=some r/\match tyV xs with|some w=>r=(w.1,w.2,true)|none=>r.2.2=false:=by
 obtain ⟨r,h,hm⟩:=Axj (lf:=lfW) (leaf:=F5) (xs:=xs) (fun _ _ h=>Afl h) fun n _ _ _=>Avt n
 refine ⟨r,?_,hm⟩;unfold E9;rw [show De xs=some r from h];rfl
end
section
def SRel (F I O:List Int):Nat->List (Int×Int)->Prop
 | k,[]=>k=0
 | k,w :: T=>∃ j:Nat,j<k/\F[k - 1]? =some (j:Int)/\I[k - 1]? =some w.1/\O[k - 1]? =some w.2/\SRel F I O j T
theorem Af3 {l:List Int} {k:Nat} {x y:Int} (h:l[k]? =some x):(l++[y])[k]? =some x:=by
 rw [List.getElem?_append_left (gSi.1 h).1];exact h
theorem SRel.app {F I O:List Int} {x y z:Int}:∀ {T:List (Int×Int)} {k:Nat},SRel F I O k T->SRel (F++[x]) (I++[y]) (O++[z]) k T
 | [],_,h=>h
 | _ :: _,_,⟨j,h1,h2,h3,h4,h5⟩=>⟨j,h1,Af3 h2,Af3 h3,Af3 h4,h5.app⟩
theorem Ky {l:List Int} {k:Nat} {y:Int} (h:l.length=k):(l++[y])[k+1 - 1]? =some y:=by
 subst h;rw [Nat.add_sub_cancel,List.getElem?_append_right (Nat.le_refl _),Nat.sub_self];rfl
abbrev ScR:=List Int×List Int×List Int×Bool
def Au0 (n:Nat) (t:Option (List (Int×Int))) (r:Ctl (List Int×List Int×List Int) ScR):Prop :=
 match t with
 | some T=>∃ F I O,r=Ctl.next (F,I,O)/\F.length=n/\I.length=n/\O.length=n/\okT T/\SRel F I O n T
 | none=>∃ F I O,r=Ctl.out (F,I,O,false)
theorem Aov (l:List (ByteArray×Int×Int×List Nd)) (hl:l.length<=1048576) (s:ByteArray):(∃ (i:Nat) (d:ByteArray×Int×Int×List Nd),Jo l s=some (i:Int)/\l[i]? =some d/\l.find? (fun d=>d.1.toList==s.toList)=some d)∨(Jo l s=some (-1)/\l.find? (fun d=>d.1.toList==s.toList)=none):=by
 unfold Jo
 have key:∀ i,i<=l.length->(∀ k (hk:k<l.length),k<i->(l[k].1.toList==s.toList)=false)->(∃ (i:Nat) (d:ByteArray×Int×Int×List Nd),l[i]? =some d/\l.find? (fun d=>d.1.toList==s.toList)=some d)∨l.find? (fun d=>d.1.toList==s.toList)=none:=fun i _ _=>by
  cases h:l.find? (fun d=>d.1.toList==s.toList) with
  | none=>exact .inr rfl
  | some d =>
   obtain ⟨k,hk⟩:=List.mem_iff_getElem?.1 (List.mem_of_find?_eq_some h);exact .inl ⟨k,d,hk,rfl⟩
 have hP:∃ r,Aq (fun s_:Nat=>Io l s s_) 4611686018427387904 0=some r/\((∃ (i:Nat) (d:ByteArray×Int×Int×List Nd),r=Ctl.out (i:Int)/\l[i]? =some d/\l.find? (fun d=>d.1.toList==s.toList)=some d)∨(r=Ctl.next ()/\l.find? (fun d=>d.1.toList==s.toList)=none)):=by
  refine L6 (Post:=fun r=>(∃ (i:Nat) (d:ByteArray×Int×Int×List Nd),r=Ctl.out (i:Int)/\l[i]? =some d/\l.find? (fun d=>d.1.toList==s.toList)=some d)∨(r=Ctl.next ()/\l.find? (fun d=>d.1.toList==s.toList)=none)) l.length (fun i st=>st=i/\(l.take i).find? (fun d=>d.1.toList==s.toList)=none) oM ⟨rfl,by simp⟩ ?_ ?_
  ·rintro i st hi ⟨rfl,hI⟩;have hx:=gEg hi;unfold Io;rw [Au oM,cond_true,hx,obs];have e:l.take (st+1)=l.take st++[l[st]]:=by rw [List.take_add_one,hx];rfl
   cases hb:(l[st].1.toList==s.toList)
   ·rw [cond_false,Af oM];exact .inl ⟨_,rfl,rfl,by rw [e,List.find?_append,hI];simp [hb]⟩
   ·refine .inr ⟨_,rfl,.inl ⟨st,l[st],rfl,hx,?_⟩⟩;have e2:l=l.take (st+1)++l.drop (st+1):=(List.take_append_drop _ _).symm
    conv=>lhs;rw [e2,e]
    rw [List.find?_append,List.find?_append,hI];simp [hb]
  ·rintro st ⟨rfl,hI⟩;unfold Io;rw [At oM,cond_false];rw [List.take_length] at hI;exact ⟨_,rfl,.inr ⟨rfl,hI⟩⟩
 obtain ⟨r,hr,⟨i,d,rfl,h1,h2⟩|⟨rfl,h1⟩⟩:=hP
 ·rw [hr];exact .inl ⟨i,d,rfl,h1,h2⟩
 ·rw [hr];exact .inr ⟨rfl,h1⟩
theorem Avv {lib:List (ByteArray×Int×Int×List Nd)} (hll:lib.length<=1048576) (hlb:∀ d∈lib,okW (d.2.1,d.2.2.1)) {xs:List Nd} (hx:1<=xs.length/\xs.length<=400):∃ r,Aq (fun s_:Nat×List Int×List Int×List Int=>Ip xs lib s_.1 s_.2.1 s_.2.2.1 s_.2.2.2) 4611686018427387904 (0,[],[],[])=some r/\Au0 xs.length (Kc (lfL lib) xs []) r:=by
 refine L6 (Post:=Au0 xs.length (Kc (lfL lib) xs [])) xs.length (fun k s=>∃ F I O T,s=(k,F,I,O)/\F.length=k/\I.length=k/\O.length=k/\Kc (lfL lib) (xs.take k) []=some T/\okT T/\SRel F I O k T) oM ⟨[],[],[],[],rfl,rfl,rfl,rfl,rfl,(fun _ h=>by cases h),rfl⟩ ?_ ?_
 ·rintro k s hk ⟨F,I,O,T,rfl,lF,lI,lO,hT,hok,hS⟩;have hn:=gEg hk;generalize xs[k]=n at hn;have hnext:=N1 hn hT;have hfail:Ek (lfL lib) n T=none->Kc (lfL lib) xs []=none:=fun h=>Th (k:=k+1) (by rw [hnext,h])
  try dsimp only
  unfold Ip;rw [Au oM,cond_true,hn,obs,Ar5,obs];by_cases hj:n.1=15∨n.1=16
  ·have hnl:lfW n=none:=by
    cases hw:lfW n with
    | none=>rfl
    | some w=>have:=R3 hw;omega
   rw [hnl];have e17:(n.1==17)=false:=by rw [beq_eq_false_iff_ne];omega
   rw [Option.isSome_none,cond_false,e17,obs,cond_false]
   have hst0:Ek (lfL lib) n T=if n.2.1=0/\L4 n.2.2=true then (match T with
     | b :: a :: r=>if n.1=15 then (if a.2=b.1 then some ((a.1,b.2) :: r) else none) else (if a.1+b.1<=12/\a.2+b.2<=12 then some ((a.1+b.1,a.2+b.2) :: r) else none)
     | _=>none) else none:=if_pos hj
   have hcond:∀ q:Option Bool,(cond (n.1 !=15) (cond (n.1 !=16) (some true) q) q:Option Bool)=q:=fun q=>by
    rcases hj with h|h <;> rw [h] <;> rfl
   rw [hcond];by_cases hv:n.2.1=0/\L4 n.2.2=true
   ·have hs':(n.2.2.toList==(⟨#[]⟩:ByteArray).toList)=true:=hv.2;rw [if_pos hv] at hst0;rw [hv.1,hs',Bool.not_true,cond_false,show ((0:Int) !=0)=false from rfl,cond_false]
    match T,hT,hok,hS,hnext,hfail,hst0 with
    | [],hT,hok,hS,hnext,hfail,hst0 =>
     refine .inr ⟨Ctl.out (F,I,O,false),?_,?_⟩
     ·have:k=0:=hS;rw [Au oM];rfl
     ·rw [hfail hst0];exact ⟨_,_,_,rfl⟩
    | [b],hT,hok,hS,hnext,hfail,hst0 =>
     refine .inr ⟨Ctl.out (F,I,O,false),?_,?_⟩
     ·obtain ⟨j,h1,h2,h3,h4,h5⟩:=hS;have h5:j=0:=h5;subst h5;by_cases h:k<2
      ·rw [Au oM];rfl
      ·have w1:wI ((k:Int) - 1)=((k - 1:Nat):Int):=by rw [A4 oM oM];omega
       rw [At oM,cond_false,w1,Bs oM,Int.toNat_natCast,h2];rfl
     ·rw [hfail hst0];exact ⟨_,_,_,rfl⟩
    | b :: a :: r,hT,hok,hS,hnext,hfail,hst0 =>
     have hb:=hok b (by simp);have ha:=hok a (by simp);obtain ⟨⟨b1,b2⟩,b3,b4⟩:=hb;obtain ⟨⟨a1,a2⟩,a3,a4⟩:=ha;obtain ⟨j,h1,h2,h3,h4,j0,g1,g2,g3,g4,g5⟩:=hS;have w1:wI ((k:Int) - 1)=((k - 1:Nat):Int):=by rw [A4 oM oM];omega
     have w2:wI ((j:Int) - 1)=((j - 1:Nat):Int):=by rw [A4 oM oM];omega
     have G:∀ (l:List Int) (m:Nat),Cl l ((m:Nat):Int)=l[m]?:=fun l m=>by rw [Bs oM,Int.toNat_natCast]
     rw [At oM,cond_false,w1];simp only [G,h2,h3,h4,obs,w2,g2,g3,g4];rw [At (show ¬ ((j:Nat):Int)<1 by omega),cond_false];dsimp only at hst0
     have hfin:∀ w:Int×Int,Ek (lfL lib) n (b :: a :: r)=some (w :: r)->∃ s',(Dn (some (Ctl.next (F++([(j0:Int)]),I++([w.1]),O++([w.2])):Ctl (List Int×List Int×List Int) (Ctl (Nat×List Int×List Int×List Int) (Ctl (List Int×List Int×List Int) ScR)))) fun q=>og (k+1<4611686018427387904) (some (Ctl.next (k+1,q.1,q.2.1,q.2.2))))=some (.next s')/\∃ F I O T,s'=(k+1,F,I,O)/\F.length=k+1/\I.length=k+1/\O.length=k+1/\Kc (lfL lib) (xs.take (k+1)) []=some T/\okT T/\SRel F I O (k+1) T:=fun w hw=>by
      refine ⟨_,?_,F++[(j0:Int)],I++[w.1],O++[w.2],w :: r,rfl,by simp [lF],by simp [lI],by simp [lO],by rw [hnext,hw],Of (Akh hlb) hw hok,j0,by omega,Ky lF,Ky lI,Ky lO,g5.app⟩;simp only [Dn,obs,Ctl.then];rw [Af oM]
     by_cases h15:n.1=15
     ·rw [if_pos h15] at hst0;rw [beq_iff_eq.2 h15,cond_true];by_cases hab:a.2=b.1
      ·rw [if_pos hab] at hst0;rw [show (a.2 !=b.1)=false by rw [hab];exact bne_self_eq_false _,cond_false];simp only [Dn,obs,Ctl.then];rw [At (show ¬ 12<a.1 by omega),At (show ¬ 12<b.2 by omega),cond_false,obs,cond_false,Af oM,Af oM,Af oM];exact .inl (hfin (a.1,b.2) hst0)
      ·rw [if_neg hab] at hst0;rw [bne_iff_ne.2 hab,hfail hst0];exact .inr ⟨_,rfl,_,_,_,rfl⟩
     ·rw [if_neg h15] at hst0;rw [beq_eq_false_iff_ne.2 h15,cond_false,A4 (n:=a.1+b.1) oM oM,A4 (n:=a.2+b.2) oM oM];simp only [Dn,obs,Ctl.then];by_cases hab:a.1+b.1<=12/\a.2+b.2<=12
      ·rw [if_pos hab] at hst0;rw [At (show ¬ 12<a.1+b.1 by omega),At (show ¬ 12<a.2+b.2 by omega),cond_false,obs,cond_false,Af oM,Af oM,Af oM];exact .inl (hfin (a.1+b.1,a.2+b.2) hst0)
      ·rw [if_neg hab] at hst0;rw [hfail hst0];refine .inr ⟨Ctl.out (F,I,O,false),?_,_,_,_,rfl⟩;by_cases h1:12<a.1+b.1
       ·rw [Au h1];rfl
       ·rw [At h1,Au (show 12<a.2+b.2 by omega)];rfl
   ·rw [if_neg hv] at hst0;refine .inr ⟨Ctl.out (F,I,O,false),?_,?_⟩
    ·by_cases hn0:L4 n.2.2=true
     ·have hs':(n.2.2.toList==(⟨#[]⟩:ByteArray).toList)=true:=hn0;rw [hs',show (n.2.1 !=0)=true by rw [bne_iff_ne];exact fun e=>hv ⟨e,hn0⟩];rfl
     ·have hs':(n.2.2.toList==(⟨#[]⟩:ByteArray).toList)=false:=by simpa using hn0
      rw [hs'];rfl
    ·rw [hfail hst0];exact ⟨_,_,_,rfl⟩
  ·have hst:Ek (lfL lib) n T=(lfL lib n).map (· :: T):=if_neg hj;by_cases h17:n.1=17
   ·have hnl:lfW n=none:=by
     cases hw:lfW n with
     | none=>rfl
     | some w=>have:=R3 hw;omega
    have har:F2 n.1 n.2.1 n.2.2=some (1,1):=by
     unfold F2 G4;rw [h17];rfl
    rw [hnl,Option.isSome_none,cond_false,beq_iff_eq.2 h17,obs,cond_true,har,obs,cond_true];have hlf:lfL lib n=if n.2.1=0 then (lib.find? fun d=>d.1.toList==n.2.2.toList).map fun d=>(d.2.1,d.2.2.1) else none:=if_pos h17
    rcases Aov lib hll n.2.2 with ⟨i,d,h1,h2,h3⟩|⟨h1,h3⟩
    ·have hi:=Ai h2;rw [h1,obs,At oM,cond_false,obs];by_cases hv:n.2.1=0
     ·rw [if_pos hv,h3] at hlf;have hlf:lfL lib n=some (d.2.1,d.2.2.1):=hlf;rw [hlf] at hst;rw [hv,show ((0:Int) !=0)=false from rfl,cond_false,Bs oM,Int.toNat_natCast,h2,obs];simp only [Dn,obs,Ctl.then];rw [Af oM,Af oM,Af oM];simp only [obs,Ctl.then];rw [Af oM];exact .inl ⟨_,rfl,F++[(k:Int)],I++[d.2.1],O++[d.2.2.1],(d.2.1,d.2.2.1) :: T,rfl,by simp [lF],by simp [lI],by simp [lO],by rw [hnext,hst];rfl,Of (Akh hlb) hst hok,k,by omega,Ky lF,Ky lI,Ky lO,hS.app⟩
     ·rw [if_neg hv] at hlf;rw [hlf] at hst;rw [bne_iff_ne.2 hv,cond_true,hfail hst];exact .inr ⟨_,rfl,_,_,_,rfl⟩
    ·have hlf:lfL lib n=none:=by rw [hlf,h3];split <;> rfl
     rw [hlf] at hst;rw [h1,obs,Au oM,cond_true,obs,cond_true,hfail hst];exact .inr ⟨_,rfl,_,_,_,rfl⟩
   have hlw:lfL lib n=lfW n:=if_neg h17;rw [hlw] at hst;have e17:(n.1==17)=false:=beq_eq_false_iff_ne.2 h17;cases hw:lfW n with
   | some w =>
    rw [hw] at hst;rw [Option.isSome_some,cond_true,obs,cond_true,Asx hw,obs,e17,cond_false];simp only [Dn,obs,Ctl.then];rw [Af oM,Af oM,Af oM];simp only [obs,Ctl.then];rw [Af oM];exact .inl ⟨_,rfl,F++[(k:Int)],I++[w.1],O++[w.2],w :: T,rfl,by simp [lF],by simp [lI],by simp [lO],by rw [hnext,hst];rfl,Of (Akh hlb) hst hok,k,by omega,Ky lF,Ky lI,Ky lO,hS.app⟩
   | none =>
    rw [hw] at hst;rw [Option.isSome_none,cond_false];refine .inr ⟨Ctl.out (F,I,O,false),?_,?_⟩
    ·have h15:n.1≠15:=fun e=>hj (.inl e)
     have h16:n.1≠16:=fun e=>hj (.inr e)
     rw [e17,obs,cond_false,bne_iff_ne.2 h15,cond_true,bne_iff_ne.2 h16];rfl
    ·rw [hfail hst];exact ⟨_,_,_,rfl⟩
 ·rintro s ⟨F,I,O,T,rfl,lF,lI,lO,hT,hok,hS⟩;rw [List.take_length] at hT;rw [hT]
  try dsimp only
  unfold Ip;rw [At oM,cond_false];exact ⟨_,rfl,_,_,_,rfl,lF,lI,lO,hok,hS⟩
theorem Arf {lib:List (ByteArray×Int×Int×List Nd)} (hll:lib.length<=1048576) (hlb:∀ d∈lib,okW (d.2.1,d.2.2.1)) (xs:List Nd):∃ F I O b,Mb lib xs=some (F,I,O,b)/\match tyG (lfL lib) xs with|some w=>b=true/\I[xs.length - 1]? =some w.1/\O[xs.length - 1]? =some w.2|none=>b=false:=by
 unfold Mb tyG;rw [P0];by_cases hx:1<=xs.length/\xs.length<=400
 ·rw [D9.2 (show (1:Int)<=((xs.length:Nat):Int)/\((xs.length:Nat):Int)<=400 by omega),obs,Bool.not_true,cond_false,if_pos hx];obtain ⟨r,hr,hP⟩:=Avv hll hlb hx;rw [hr];cases ht:Kc (lfL lib) xs [] with
  | none =>
   rw [ht] at hP;obtain ⟨F,I,O,rfl⟩:=hP;exact ⟨_,_,_,_,rfl,rfl⟩
  | some T =>
   rw [ht] at hP;obtain ⟨F,I,O,rfl,lF,lI,lO,hok,hS⟩:=hP;have hne:=Al1 (fun e=>by subst e;simp at hx) ht;have w1:wI (((xs.length:Nat):Int) - 1)=((xs.length - 1:Nat):Int):=by rw [A4 oM oM];omega
   simp only [Dn,obs,Ctl.then]
   match T,hne,hS with
   | w :: T,_,⟨j,h1,h2,h3,h4,h5⟩ =>
    rw [w1,Bs oM,Int.toNat_natCast,h2,obs,obs];refine ⟨F,I,O,_,rfl,?_⟩;cases T with
    | nil =>
     have h5:j=0:=h5;subst h5;exact ⟨rfl,h3,h4⟩
    | cons v T =>
     obtain ⟨j',h',_⟩:=h5;show ((j:Int)==0)=false;rw [beq_eq_false_iff_ne];omega
 ·rw [if_neg hx,show inR ((xs.length:Nat):Int) 1 400=false by rw [Bool.eq_false_iff];intro e;have:=D9.1 e;exact hx oM];exact ⟨_,_,_,_,rfl,rfl⟩
theorem Ajc (xs:List Nd):∃ F I O b,Je xs=some (F,I,O,b)/\match tyV xs with|some w=>b=true/\I[xs.length - 1]? =some w.1/\O[xs.length - 1]? =some w.2|none=>b=false:=by
 obtain ⟨F,I,O,b,h1,h2⟩:=Arf (lib:=[]) (by simp) (fun d hd=>by cases hd) xs;rw [Aso] at h2;refine ⟨F,I,O,b,?_,h2⟩;unfold Je;rw [h1];rfl
theorem Ab7 (xs:List Nd):Mc xs=some (match tyV xs with|some w=>(w.1,w.2,true)|none=>(0,0,false)):=by
 unfold Mc;obtain ⟨F,I,O,b,h,hm⟩:=Ajc xs;rw [h,obs];cases ht:tyV xs with
 | none=>rw [ht] at hm;dsimp only at hm;subst hm;rfl
 | some w =>
  rw [ht] at hm;obtain ⟨rfl,h1,h2⟩:=hm
  have hx:1<=xs.length/\xs.length<=400:=by
   unfold tyV tyG at ht;split at ht
   ·assumption
   ·cases ht
  have w1:wI (((xs.length:Nat):Int) - 1)=((xs.length - 1:Nat):Int):=by rw [A4 oM oM];omega
  dsimp only;rw [Bool.not_true,cond_false,w1,Bs oM,Int.toNat_natCast,h1,obs,obs,Bs oM,Int.toNat_natCast,h2];rfl
end
section
def szV (v:Int) (n:Nat):Int:=if v<n then -1 else v - n
theorem Aou (xs:List Int) {v:Int} (hv:0<=v/\v<=1048576) (hx:xs.length<=9223372036854775807):Mp xs v=some (szV v xs.length):=by
 unfold Mp szV;rw [A4 oM oM];by_cases h:v<xs.length
 ·rw [Au oM,if_pos h];rfl
 ·rw [At oM,if_neg h];rfl
theorem Ao6 (xs:List Int) (hx:xs.length<=1073741824):L8 xs=some xs:=by
 unfold L8;rw [Af oM]
 have h:Aq (fun s_:Nat×List Int=>H6 xs s_.1 s_.2) 4611686018427387904 (0,List.replicate xs.length (0:Int))=some xs:=by
  refine A7 xs.length (fun i=>(i,xs.take i++List.replicate (xs.length - i) 0)) oM xs (by simp) (fun i hi=>?_) ?_
  ·have hx:=gEg hi
   try dsimp only
   unfold H6;rw [Au oM,cond_true,hx,obs,Ws hi,obs,Af oM,Xr hx]
  ·try dsimp only
   unfold H6;rw [At oM,cond_false];simp
 rw [h];rfl
theorem Aq5 (xs:List Int) (hx:xs.length<=1073741824):Mg xs xs=some true:=by
 unfold Mg
 have h:Aq (fun s_:Nat=>H4 xs xs s_) 4611686018427387904 0=some (.next ()):=by
  refine A7 xs.length (fun i=>i) oM _ rfl (fun i hi=>?_) ?_
  ·have hx:=gEg hi
   try dsimp only
   unfold H4;rw [Au oM,cond_true,hx,obs,obs,bne_self_eq_false,cond_false,Af oM]
  ·try dsimp only
   unfold H4;rw [At oM,cond_false]
 rw [h,bne_self_eq_false,cond_false];rfl
end
section
section
variable {σ ρ:Type}
end
def mkL (v:Int) (n:Nat):List Int:=(List.range n).map fun j:Nat=>v+(j:Int)
def Fx (b:Nat) (xss:List (List Int)):Prop:=∀ x∈xss,x.length<=b
def Fr (xss:List (List Int)):Nat:=(xss.map List.length).sum
def Ng (v:Int):List (List Int)->List (List Int)
 | []=>[]
 | x :: r=>mkL v x.length :: Ng (v+x.length) r
theorem J4:∀ (v:Int) (xss:List (List Int)),(Ng v xss).length=xss.length
 | _,[]=>rfl
 | v,x :: r=>by simp [Ng,J4]
theorem Ur:∀ (v:Int) (xss:List (List Int)) (i:Nat) (h:i<xss.length),(Ng v xss)[i]? =some (mkL (v+Fr (xss.take i)) xss[i].length)
 | v,x :: r,0,h=>by simp [Ng,Fr]
 | v,x :: r,i+1,h=>by
  have:=Ur (v+x.length) r i (by simpa using h);simp only [Ng,List.getElem?_cons_succ,this,List.take_succ_cons,List.getElem_cons_succ,Fr,List.map_cons,List.sum_cons];congr 2;simp [Int.add_assoc]
theorem W6 {xss:List (List Int)} {i:Nat} (h:i<xss.length):Fr (xss.take (i+1))=Fr (xss.take i)+xss[i].length:=by
 unfold Fr;rw [List.take_add_one,gEg h];simp only [Option.toList,List.map_append,List.map_cons,List.map_nil,List.sum_append,List.sum_cons,List.sum_nil,Nat.add_zero]
theorem Ago {b:Nat}:∀ {xss:List (List Int)},Fx b xss->Fr xss<=xss.length*b
 | [],_=>by simp [Fr]
 | x :: r,h=>by
  have h1:=h x (by simp);have h2:=Ago (xss:=r) fun y hy=>h y (by simp [hy])
  simp only [Fr,List.map_cons,List.sum_cons,List.length_cons,Nat.succ_mul] at h2 ⊢;omega
theorem Anq {b:Nat} {xss:List (List Int)} (h:Fx b xss) (i:Nat):Fr (xss.take i)<=xss.length*b:=by
 refine Nat.le_trans (Ago fun x hx=>h x (List.mem_of_mem_take hx)) (Nat.mul_le_mul_right _ ?_);rw [List.length_take];omega
theorem Anb (xss:List (List Int)) (hn:xss.length<=1048576) (hb:Fx 1048576 xss):Le xss xss=some true:=by
 unfold Le
 have h:Aq (fun s_:Nat=>Hi xss xss s_) 4611686018427387904 0=some (.next ()):=by
  refine A7 xss.length (fun i=>i) oM _ rfl (fun i hi=>?_) ?_
  ·have hx:=gEg hi;have:=hb _ (List.getElem_mem hi)
   try dsimp only
   unfold Hi;rw [Au oM,cond_true,hx,obs,obs,Aq5 _ oM,obs,Bool.not_true,cond_false,Af oM]
  ·try dsimp only
   unfold Hi;rw [At oM,cond_false]
 rw [h,bne_self_eq_false,cond_false];rfl
def szW (v:Int) (xss:List (List Int)):Int:=if v<xss.length+Fr xss then -1 else v - (xss.length+Fr xss)
theorem Awi {v:Int} {xss:List (List Int)} (hv:v<=1048576) (h:¬ szW v xss<0):xss.length+Fr xss<=1048576/\Fx 1048576 xss/\szW v xss=v - (xss.length+Fr xss):=by
 unfold szW at h ⊢;split at h
 ·omega
 rename_i h1;have h2:xss.length+Fr xss<=1048576:=by omega
 refine ⟨h2,fun x hx=>?_,if_neg h1⟩
 have:∀ {l:List (List Int)},x∈l->x.length<=Fr l:=by
  intro l
  induction l with
  | nil=>intro h;cases h
  | cons y r ih =>
   intro h;simp only [Fr,List.map_cons,List.sum_cons] at ih ⊢;rcases List.mem_cons.1 h with rfl|h
   ·omega
   ·have:=ih h;omega
 have:=this hx;omega
theorem Aoe (xss:List (List Int)) {v:Int} (hv:0<=v/\v<=1048576) (hn:xss.length<=9223372036854775807) (hb:Fx 9223372036854775807 xss):K0 xss v=some (szW v xss):=by
 unfold K0;rw [A4 oM oM];by_cases h0:v<xss.length
 ·rw [Au oM,szW,if_pos oM];rfl
 rw [At oM,cond_false]
 have h:Aq (fun s_:Int×Nat=>Hn xss s_.1 s_.2) 4611686018427387904 (v - xss.length,0)=some (if v<xss.length+Fr xss then .out (-1) else .next (v - (xss.length+Fr xss))):=by
  have hm:∀ i,Fr (xss.take i)<=Fr xss:=fun i=>by
   have:Fr xss=Fr (xss.take i)+Fr (xss.drop i):=by
    conv=>lhs;rw [← List.take_append_drop i xss]
    rw [Fr,List.map_append,List.sum_append];rfl
   omega
  refine Ji xss.length (fun i s=>s=(v - xss.length - Fr (xss.take i),i)/\(xss.length:Int)+Fr (xss.take i)<=v) oM _ ⟨by simp [Fr],by simp [Fr];omega⟩ ?_ ?_
  ·rintro i s hi ⟨rfl,h1⟩;have hx:=gEg hi;have hr:=hb _ (List.getElem_mem hi);have hs:=W6 hi;have hm1:=hm (i+1)
   try dsimp only
   unfold Hn;rw [Au oM,cond_true,hx,obs,Aou _ oM hr,obs,szV];by_cases h2:v - xss.length - Fr (xss.take i)<xss[i].length
   ·refine .inr ?_;rw [if_pos h2,if_pos oM];rfl
   ·refine .inl ⟨(v - xss.length - Fr (xss.take (i+1)),i+1),?_,rfl,by omega⟩;rw [if_neg h2,At oM,cond_false,Af oM,hs,show v - ↑xss.length - ↑(Fr (List.take i xss)) - ↑xss[i].length=v - ↑xss.length - ↑(Fr (List.take i xss)+xss[i].length) by omega]
  ·rintro s ⟨rfl,h1⟩;rw [List.take_length] at h1 ⊢
   try dsimp only
   unfold Hn;rw [At oM,cond_false,if_neg oM];simp [Int.sub_sub]
 rw [h,szW];split <;> rfl
theorem Ana (xss:List (List Int)) (hn:xss.length<=1048576) (hb:Fx 1048576 xss):Ld xss=some xss:=by
 unfold Ld;rw [Af oM]
 have h:Aq (fun s_:Nat×List (List Int)=>Hh xss s_.1 s_.2) 4611686018427387904 (0,List.replicate xss.length ([]:List Int))=some xss:=by
  refine A7 xss.length (fun i=>(i,xss.take i++List.replicate (xss.length - i) [])) oM xss (by simp) (fun i hi=>?_) ?_
  ·have hx:=gEg hi;have hr:=hb _ (List.getElem_mem hi)
   try dsimp only
   unfold Hh;rw [Au oM,cond_true,hx,obs,Ao6 _ oM,obs,Ws hi,obs,Af oM,Xr hx]
  ·try dsimp only
   unfold Hh;rw [At oM,cond_false];simp
 rw [h];rfl
theorem Ata {R:Nat->Prop} {w:World} {t:Ty} {A:Option Addr} {c:Nat} {xss:List (List t.D)} {l:List Addr} (h:Sl R w (.slice t) A c xss l):∀ x∈xss,x.length<=9223372036854775807:=by
 obtain ⟨_,_,f,_,h4⟩:=h;intro x hx;obtain ⟨i,hi,rfl⟩:=List.getElem_of_mem hx;obtain ⟨_,_,_,h5⟩:=h4 oM;obtain ⟨A',c',_,h6⟩:=h5 i hi;exact (Afz (xs:=xss[i]) h6).2
end
section
def inV (p:Int) (x:List Int):Prop:=∀ a,a∈x->0<=a/\a<p
def VecW (p:Int) (w:Nat) (x:List Int):Prop:=x.length=w/\inV p x
def MatW (p:Int) (w:Nat) (m:List (List Int)):Prop:=∀ x,x∈m->VecW p w x
def Em (p k:Int) (v:List Int):List Int:=v.map fun a=>a*k % p
def D8 (p f:Int) (x v:List Int):List Int:=List.zipWith (fun a b=>(a - f*b) % p) x v
def Du (m:List (List Int)) (c r:Nat):Nat:=r+(m.drop r).findIdx fun x=>x.getD c 0 !=0
def Lk (m:List (List Int)) (r k:Nat):List (List Int):=(m.set r (m.getD k [])).set k (m.getD r [])
def G6 (p:Int) (c r:Nat) (pr:List Int) (m:List (List Int)):List (List Int):=m.mapIdx fun i x=>if i=r then pr else D8 p (x.getD c 0) x pr
def Om (p a:Int):Int:=(((List.range p.toNat).find? fun (x:Nat)=>a*(x:Int) % p==1).getD 0:Nat)
def prV (p:Int) (c:Nat) (x:List Int):List Int:=Em p (Om p (x.getD c 0)) x
def gjS (p:Int) (c:Nat) (s:Nat×List (List Int)):Nat×List (List Int) :=
 if s.1<s.2.length then
  if Du s.2 c s.1=s.2.length then s
  else (s.1+1,G6 p c s.1 (prV p c (s.2.getD (Du s.2 c s.1) [])) (Lk s.2 s.1 (Du s.2 c s.1)))
 else s
def gjT (p:Int) (m:List (List Int)):Nat->Nat×List (List Int)
 | 0=>(0,m)
 | c+1=>gjS p c (gjT p m c)
def gj (p:Int) (n:Nat) (m:List (List Int)):List (List Int):=(gjT p m n).2.take (gjT p m n).1
theorem Se {p x:Int} (hp:2<=p):0<=x % p/\x % p<p:=⟨Int.emod_nonneg x oM,Int.emod_lt_of_pos x oM⟩
theorem Ry {p k:Int} {w:Nat} {x:List Int} (hp:2<=p) (h:x.length=w):VecW p w (Em p k x) :=
 ⟨by simp [Em,h],fun a ha=>by obtain ⟨b,_,rfl⟩:=List.mem_map.1 ha;exact Se hp⟩
theorem Ald {α β γ:Type} {f:α->β->γ}:∀ {x:List α} {v:List β} {c:γ},c∈List.zipWith f x v->∃ a b,c=f a b
 | [],_,_,h=>by simp at h
 | _ :: _,[],_,h=>by simp at h
 | a :: x,b :: v,c,h=>by
  rw [List.zipWith_cons_cons,List.mem_cons] at h;rcases h with h|h
  ·exact ⟨a,b,h⟩
  ·exact Ald h
theorem Are {p f:Int} {w:Nat} {x v:List Int} (hp:2<=p) (hx:x.length=w) (hv:v.length=w):VecW p w (D8 p f x v) :=
 ⟨by simp [D8,hx,hv],fun a ha=>by obtain ⟨b,c,rfl⟩:=Ald ha;exact Se hp⟩
theorem W9 {p:Int} {x v:List Int} (hx:inV p x) (hl:x.length<=v.length):D8 p 0 x v=x:=by
 apply List.ext_getElem
 ·simp [D8];omega
 ·intro i h1 h2;have:=hx x[i] (List.getElem_mem h2);simp only [D8,List.getElem_zipWith,Int.zero_mul,Int.sub_zero];exact Int.emod_eq_of_lt this.1 this.2
theorem Bj {α:Type} {m:List α} {i:Nat} {d x:α} (h:m[i]? =some x):m.getD i d=x:=by rw [gDg,h];rfl
theorem Ke {α:Type} {m:List α} {i:Nat} (h:i<m.length):∃ x,m[i]? =some x:=⟨_,gEg h⟩
theorem Ss {m:List (List Int)} {c r:Nat} (h:r<=m.length):Du m c r<=m.length:=by
 have:=List.findIdx_le_length (xs:=m.drop r) (p:=fun x=>x.getD c 0 !=0);rw [List.length_drop] at this;unfold Du;omega
theorem Avo (m:List (List Int)) (c r:Nat):r<=Du m c r:=by unfold Du;omega
theorem Z9 {m:List (List Int)} {c r i:Nat} (h1:r<=i) (h2:i<Du m c r) (hr:r<=m.length):(m.getD i []).getD c 0=0:=by
 have hl:=Ss (c:=c) hr;have h3:i - r<(m.drop r).findIdx fun x=>x.getD c 0 !=0:=by unfold Du at h2;omega
 have h4:i - r<(m.drop r).length:=by rw [List.length_drop];omega
 have h5:=List.not_of_lt_findIdx h3;rw [List.getElem_drop] at h5
 have e:m[r+(i - r)]'(by rw [List.length_drop] at h4;omega)=m.getD i []:=by
  rw [gDg,gEg oM];simp only [show r+(i - r)=i by omega,Option.getD_some]
 rw [e] at h5
 simpa using h5
theorem Acv {m:List (List Int)} {c r:Nat} (h:Du m c r≠m.length) (hr:r<=m.length):(m.getD (Du m c r) []).getD c 0≠0:=by
 have hl:=Ss (c:=c) hr;have h4:(m.drop r).findIdx (fun x=>x.getD c 0 !=0)<(m.drop r).length:=by rw [List.length_drop];unfold Du at h hl;omega
 have h5:=List.findIdx_getElem (w:=h4);rw [List.getElem_drop] at h5
 have e:m[r+(m.drop r).findIdx (fun x=>x.getD c 0 !=0)]'(by rw [List.length_drop] at h4;omega)=m.getD (Du m c r) []:=by
  rw [gDg,gEg oM];rfl
 rw [e] at h5
 simpa using h5
theorem Qr (m:List (List Int)) (r k:Nat):(Lk m r k).length=m.length:=by simp [Lk]
theorem O7 (p:Int) (c r:Nat) (pr:List Int) (m:List (List Int)):(G6 p c r pr m).length=m.length:=by simp [G6]
theorem M4 {m:List (List Int)} {i:Nat} (h:i<m.length):m.getD i []∈m:=by
 rw [gDg,gEg h];exact List.getElem_mem h
theorem Zi {p:Int} {w:Nat} {m:List (List Int)} {r k:Nat} (h:MatW p w m) (hr:r<m.length) (hk:k<m.length):MatW p w (Lk m r k):=by
 intro x hx;unfold Lk at hx;rcases List.mem_or_eq_of_mem_set hx with hx|rfl
 ·rcases List.mem_or_eq_of_mem_set hx with hx|rfl
  ·exact h x hx
  ·exact h _ (M4 hk)
 ·exact h _ (M4 hr)
theorem Asl {p:Int} {w c r:Nat} {m:List (List Int)} {pr:List Int} (hp:2<=p) (h:MatW p w m) (hpr:VecW p w pr):MatW p w (G6 p c r pr m):=by
 intro x hx;unfold G6 at hx;obtain ⟨i,hi,rfl⟩:=List.mem_mapIdx.1 hx;split
 ·exact hpr
 ·exact Are hp (h _ (List.getElem_mem hi)).1 hpr.1
theorem Av6 {p:Int} {w c:Nat} {s:Nat×List (List Int)} (hp:2<=p) (h:MatW p w s.2) (hr:s.1<=s.2.length):MatW p w (gjS p c s).2/\(gjS p c s).1<=(gjS p c s).2.length/\(gjS p c s).2.length=s.2.length:=by
 unfold gjS;split
 ·rename_i h1;split
  ·exact ⟨h,hr,rfl⟩
  ·rename_i h2;have h3:=Ss (c:=c) hr;have hk:Du s.2 c s.1<s.2.length:=by omega
   refine ⟨Asl hp (Zi h h1 hk) (Ry hp (h _ (M4 hk)).1),?_,?_⟩
   ·simp only [O7,Qr];omega
   ·simp only [O7,Qr]
 ·exact ⟨h,hr,rfl⟩
theorem Ls {p:Int} {w:Nat} {m:List (List Int)} (hp:2<=p) (h:MatW p w m):∀ c,MatW p w (gjT p m c).2/\(gjT p m c).1<=(gjT p m c).2.length/\(gjT p m c).2.length=m.length
 | 0=>⟨h,Nat.zero_le _,rfl⟩
 | c+1=>by
  obtain ⟨h1,h2,h3⟩:=Ls hp h c;obtain ⟨k1,k2,k3⟩:=Av6 (c:=c) hp h1 h2;exact ⟨k1,k2,k3.trans h3⟩
theorem Aa9 {p:Int} {m:List (List Int)} {c:Nat} (h:¬ (gjT p m c).1<(gjT p m c).2.length):∀ d,c<=d->gjT p m d=gjT p m c
 | 0, h0 => by obtain rfl : c = 0 := by omega
               rfl
 | d+1,h0=>by
  by_cases e:c=d+1
  ·rw [e]
  ·have ih:=Aa9 h d oM;show gjS p d (gjT p m d)=_;rw [ih];unfold gjS;rw [if_neg h]
theorem Agp {p:Int} {n w:Nat} {m:List (List Int)} (hp:2<=p) (h:MatW p w m):(gj p n m).length=(gjT p m n).1:=by
 obtain ⟨_,h2,_⟩:=Ls hp h n;unfold gj;rw [List.length_take];omega
theorem S8 {p:Int} {n w:Nat} {m:List (List Int)} (hp:2<=p) (h:MatW p w m):MatW p w (gj p n m):=fun x hx=>(Ls hp h n).1 x (List.mem_of_mem_take hx)
end
section
def Ava (p a:Int):Bool:=match Nr p a with
 | some v=>(v==Om p a)&&((Lc p a==some v)&&((decide (0<=v)&&decide (v<p))&&(a*v % p==1)))
 | none=>false
def ivB:Bool:=(List.range 98).all fun p=> !(isF p)||(List.range p).all fun a=>a==0||Ava (p:Int) (a:Int)
theorem Aqs:ivB=true:=by kernel_rfl
theorem Aj9 {p a:Int} (hp:isF p=true) (ha:1<=a/\a<p):Nr p a=some (Om p a)/\Lc p a=some (Om p a)/\0<=Om p a/\Om p a<p/\a*Om p a % p=1:=by
 have hb:=Cu hp;obtain ⟨q,rfl⟩:=Int.eq_ofNat_of_zero_le (show 0<=p by omega);obtain ⟨b,rfl⟩:=Int.eq_ofNat_of_zero_le (show 0<=a by omega);have h1:=List.all_eq_true.1 Aqs q (List.mem_range.2 oM);rw [hp,Bool.not_true,Bool.false_or] at h1;have h2:=List.all_eq_true.1 h1 b (List.mem_range.2 oM)
 have h3:Ava (q:Int) (b:Int)=true:=by
  rcases (Bool.or_eq_true _ _).mp h2 with h|h
  ·have:b=0:=by simpa using h
   omega
  ·exact h
 unfold Ava at h3;split at h3
 ·rename_i v hv;simp only [Bool.and_eq_true,beq_iff_eq,decide_eq_true_eq] at h3;obtain ⟨h4,h5,⟨h6,h7⟩,h8⟩:=h3;subst h4;exact ⟨hv,h5,h6,h7,h8⟩
 ·cases h3
end
section
theorem Auh {p x y:Int} (hp:2<=p/\p<=97) (hx:0<=x/\x<p) (hy:0<=y/\y<p):Nu p x y=some ((x - y) % p):=by
 unfold Nu;rw [Af oM,A4 (n:=x+p) oM oM,A4 oM oM,Int.tmod_eq_emod_of_nonneg oM,show x+p - y=x - y+p by omega,Int.add_emod_right]
theorem Ag0 {ρ:Type} {body:Nat×List (List Int)->Option (Ctl (Nat×List (List Int)) ρ)} {M:List (List Int)} {r:Nat} {x y:List Int} {o:ρ} (hx:M[r]? =some x) (hl:y.length=x.length) (hb:x.length<4611686018427387904)
  (hs:∀ j (h:j<x.length) (z:List Int),z[j]? =some x[j]->body (j,M.set r z)=some (.next (j+1,M.set r (z.set j (y[j]'oM))))) (he:body (x.length,M.set r y)=some (.out o)) :
  Aq body 4611686018427387904 (0,M)=some o:=by
 refine A7 x.length (fun j=>(j,M.set r (y.take j++x.drop j))) hb _ ?_ (fun j hj=>?_) ?_
 ·obtain ⟨h1,h2⟩:=gSi.1 hx;simp only [List.take_zero,List.nil_append,List.drop_zero];rw [← h2,List.set_getElem_self]
 ·have h1:(y.take j).length=j:=by rw [List.length_take];omega
  rw [hs j hj _ (Kk hj h1),Kn hj h1,List.take_add_one,gEg oM];rfl
 ·rw [List.drop_length,List.append_nil,← hl,List.take_length,hl];exact he
theorem Wn {ρ:Type} {body:Nat×List Int->Option (Ctl (Nat×List Int) ρ)} {x y:List Int} {o:ρ} (hl:y.length=x.length) (hb:x.length<4611686018427387904)
  (hs:∀ j (h:j<x.length) (z:List Int),z[j]? =some x[j]->body (j,z)=some (.next (j+1,z.set j (y[j]'oM)))) (he:body (x.length,y)=some (.out o)) :
  Aq body 4611686018427387904 (0,x)=some o:=by
 refine A7 x.length (fun j=>(j,y.take j++x.drop j)) hb _ rfl (fun j hj=>?_) ?_
 ·have h1:(y.take j).length=j:=by rw [List.length_take];omega
  rw [hs j hj _ (Kk hj h1),Kn hj h1,List.take_add_one,gEg oM];rfl
 ·rw [List.drop_length,List.append_nil,← hl,List.take_length,hl];exact he
theorem Aub {ρ:Type} {body:Nat×List (List Int)->Option (Ctl (Nat×List (List Int)) ρ)} {M E:List (List Int)} {r:Nat} {pr:List Int} {o:ρ} (hl:E.length=M.length) (hM:M[r]? =some pr) (hE:E[r]? =some pr)
  (hb:M.length<4611686018427387904) (hs:∀ i (h:i<M.length) (s:List (List Int)),s.length=M.length->s[i]? =some M[i]->s[r]? =some pr->body (i,s)=some (.next (i+1,s.set i (E[i]'oM)))) (he:body (M.length,E)=some (.out o)) :
  Aq body 4611686018427387904 (0,M)=some o:=by
 refine A7 M.length (fun j=>(j,E.take j++M.drop j)) hb _ rfl (fun j hj=>?_) ?_
 ·have h1:(E.take j).length=j:=by rw [List.length_take];omega
  rw [hs j hj _ (by simp;omega) (Kk hj h1) ?_,Kn hj h1,List.take_add_one,gEg oM];rfl;by_cases h2:r<j
  ·rw [List.getElem?_append_left oM,List.getElem?_take,if_pos h2];exact hE
  ·rw [List.getElem?_append_right oM,h1,List.getElem?_drop,show j+(r - j)=r by omega];exact hM
 ·rw [List.drop_length,List.append_nil,← hl,List.take_length,hl];exact he
theorem Tg {α:Type} {m:List α} {i:Nat} {x z:α} (h:m[i]? =some x):(m.set i z)[i]? =some z:=by
 rw [List.getElem?_set_self (Ai h)]
theorem Oo {α:Type} {m:List α} {i:Nat} {x:α} (h:m[i]? =some x):m.set i x=m:=by
 obtain ⟨h1,h2⟩:=gSi.1 h;rw [← h2,List.set_getElem_self]
theorem Ajh {α:Type} {m:List α} {i j:Nat} {z:α} (h:i≠j):(m.set i z)[j]? =m[j]?:=List.getElem?_set_ne h
theorem Ahm {p k:Int} {x:List Int} {j:Nat} (h:j<(Em p k x).length):(Em p k x)[j]=x[j]'(by simpa [Em] using h)*k % p:=by simp [Em]
theorem Aiw {p f:Int} {x v:List Int} {j:Nat} (h:j<(D8 p f x v).length):(D8 p f x v)[j]=(x[j]'(by simp [D8] at h;omega) - f*v[j]'(by simp [D8] at h;omega)) % p:=by simp [D8]
theorem Pa {p:Int} {c r:Nat} {pr:List Int} {m:List (List Int)} {i:Nat} (h:i<(G6 p c r pr m).length) :
  (G6 p c r pr m)[i]=if i=r then pr else D8 p ((m[i]'(by simpa [G6] using h)).getD c 0) (m[i]'(by simpa [G6] using h)) pr:=by simp [G6]
theorem Ox {p:Int} {w j:Nat} {x:List Int} (hx:VecW p w x) (hj:j<x.length):0<=x[j]/\x[j]<p:=hx.2 _ (List.getElem_mem hj)
theorem Gl {p:Int} {w j:Nat} {x:List Int} (hx:VecW p w x) (hj:j<w):0<=x.getD j 0/\x.getD j 0<p/\x[j]? =some (x.getD j 0):=by
 have h:j<x.length:=by rw [hx.1];exact hj
 have e:x[j]? =some x[j]:=gEg h;rw [Bj e];exact ⟨(Ox hx h).1,(Ox hx h).2,e⟩
theorem Atd {p f a b:Int}:(a - f*b % p) % p=(a - f*b) % p:=by rw [Int.sub_emod_emod]
section
variable {p:Int} {w:Nat} {m:List (List Int)}
theorem Ano {r:Nat} {x:List Int} {k:Int} (hp:2<=p/\p<=97) (hx:VecW p w x) (hw:w<=100000) (hr:m[r]? =some x) (hk:0<=k/\k<p) :
  Aq (fun s_:Nat×List (List Int)=>Gr x r p k s_.1 s_.2) 4611686018427387904 (0,m)=some (m.set r (Em p k x)):=by
 have hl:=hx.1;refine Ag0 hr (y:=Em p k x) (by simp [Em]) oM (fun j hj z hz=>?_) ?_
 ·have hv:=Ox hx hj
  try dsimp only
  unfold Gr;rw [Au oM,cond_true,Tg hr,obs,hz,obs,Amu hp hv hk,obs,Af oM,List.set_set,Ahm]
 ·try dsimp only
  unfold Gr;rw [At oM,cond_false]
theorem Aot {i r:Nat} {x v:List Int} {f:Int} (hp:2<=p/\p<=97) (hx:VecW p w x) (hv:VecW p w v) (hw:w<=100000) (hi:m[i]? =some x) (hr:m[r]? =some v) (hn:i≠r) (hf:0<=f/\f<p) :
  Aq (fun s_:Nat×List (List Int)=>Gg x i r p f s_.1 s_.2) 4611686018427387904 (0,m)=some (m.set i (D8 p f x v)):=by
 have hl:=hx.1;have hl':=hv.1;refine Ag0 hi (y:=D8 p f x v) (by simp [D8];omega) oM (fun j hj z hz=>?_) ?_
 ·have h1:=Ox hx hj;have h2:=Ox hv (j:=j) oM
  try dsimp only
  unfold Gg
  rw [Au oM,cond_true,Tg hi,obs,hz,obs,Ajh hn,hr,obs,gEg (show j<v.length by omega),obs,Amu hp hf h2,obs,
   Auh hp h1 (Se hp.1),obs,Af oM,List.set_set,Aiw,Atd]
 ·try dsimp only
  unfold Gg;rw [At oM,cond_false]
theorem Ai4 {c r:Nat} {pr:List Int} (h:r<m.length):(G6 p c r pr m)[r]? =some pr:=by
 rw [gEg (by rw [O7];exact h),Pa,if_pos rfl]
theorem Ar3 {M0:List (List Int)} {c r:Nat} {pr:List Int} (hp:2<=p/\p<=97) (hm:MatW p w m) (hw:w<=100000) (hl:m.length<=100000) (hr:m[r]? =some pr) (hc:c<w) (h0:M0.length=m.length) :
  Aq (fun s_:Nat×List (List Int)=>Ge M0 r c p s_.1 s_.2) 4611686018427387904 (0,m)=some (G6 p c r pr m):=by
 refine Aub (E:=G6 p c r pr m) (O7 ..) hr (Ai4 (Ai hr)) oM (fun i hi s hs h1 h2=>?_) ?_
 ·have hx:=hm _ (List.getElem_mem hi);have hv:=hm _ (List.mem_of_getElem? hr);obtain ⟨g1,g2,g3⟩:=Gl hx hc;generalize hxe:m[i]=x at *
  try dsimp only
  unfold Ge;rw [Au oM,cond_true,Pa,hxe];by_cases hir:i=r
  ·subst hir;rw [if_pos rfl,show (((i:Nat):Int)==((i:Nat):Int))=true from beq_self_eq_true _,cond_true,obs,cond_true,obs,Af oM,Oo h2]
  ·rw [if_neg hir,show (((i:Nat):Int)==((r:Nat):Int))=false from by rw [beq_eq_false_iff_ne];omega,cond_false,h1,obs,g3,obs,obs];by_cases h0:x.getD c 0=0
   ·rw [h0,show ((0:Int)==0)=true from rfl,cond_true,obs,Af oM,W9 hx.2 (by rw [hx.1,hv.1];exact Nat.le_refl _),Oo h1]
   ·rw [show (x.getD c 0==0)=false from beq_eq_false_iff_ne.2 h0,cond_false,obs,g3,obs,Aot hp hx hv hw h1 h2 hir ⟨g1,g2⟩,obs,Af oM]
 ·try dsimp only
  unfold Ge;rw [At oM,cond_false]
theorem Alu {c r:Nat} {pr y:List Int}:G6 p c r pr (m.set r y)=G6 p c r pr m:=by
 apply List.ext_getElem
 ·rw [O7,O7,List.length_set]
 ·intro i h1 h2;rw [Pa,Pa];by_cases h:i=r
  ·rw [if_pos h,if_pos h]
  ·rw [if_neg h,if_neg h];simp only [List.getElem_set,if_neg (fun e=>h (Eq.symm e))]
theorem Aue {c r:Nat} (hm:MatW p w m) (hc:c<w) (hl:m.length<=100000) (hr:r<=m.length) :
  Aq (fun s_:Nat=>Ew m c s_) 4611686018427387904 r=some (Du m c r):=by
 have hle:=Ss (c:=c) hr;refine A7 ((m.drop r).findIdx fun x=>x.getD c 0 !=0) (fun t=>r+t) (by unfold Du at hle;omega) _ rfl (fun t ht=>?_) ?_
 ·have h1:r+t<Du m c r:=by unfold Du;omega
  have h0:=Z9 (i:=r+t) oM h1 hr;obtain ⟨x,hx⟩:=Ke (show r+t<m.length by omega);obtain ⟨g1,g2,g3⟩:=Gl (hm _ (List.mem_of_getElem? hx)) hc;rw [Bj hx] at h0
  try dsimp only
  unfold Ew;rw [Au oM,cond_true,hx,obs,g3,obs,obs,h0,show ((0:Int)==0)=true from rfl,cond_true,Af oM,Nat.add_assoc]
 ·show Ew m c (Du m c r)=_;unfold Ew;by_cases h:Du m c r=m.length
  ·rw [At oM,cond_false,obs,cond_false]
  ·have h0:=Acv h hr;obtain ⟨x,hx⟩:=Ke (show Du m c r<m.length by omega);obtain ⟨g1,g2,g3⟩:=Gl (hm _ (List.mem_of_getElem? hx)) hc;rw [Bj hx] at h0;rw [Au oM,cond_true,hx,obs,g3,obs,obs,beq_eq_false_iff_ne.2 h0,cond_false]
theorem Apz {r k:Nat} (hr:r<m.length) (hk:k<m.length):(Lk m r k)[r]? =some (m.getD k []):=by
 unfold Lk;by_cases h:r=k
 ·subst h;rw [List.getElem?_set_self (by rw [List.length_set];exact hr)]
 ·rw [List.getElem?_set_ne (Ne.symm h),List.getElem?_set_self hr]
theorem Apr {n:Nat} (hp:isF p=true) (hm:MatW p w m) (hn:n<=w) (hw:w<=100000) (hl:m.length<=100000) :
  Aq (fun s_:Nat×Nat×List (List Int)=>Dl (n:Int) p s_.1 s_.2.1 s_.2.2) 4611686018427387904 (0,0,m)=some (gjT p m n):=by
 have hb:=Cu hp;refine Ji n (fun c s=>s=((gjT p m c).1,c,(gjT p m c).2)) oM _ rfl (fun c s hc hI=>?_) (fun s hI=>?_)
 ·subst hI;obtain ⟨hm',hr,hl'⟩:=Ls hb.1 hm c;by_cases hlt:(gjT p m c).1<(gjT p m c).2.length
  ·refine .inl ?_;refine ⟨_,?_,rfl⟩;show Dl _ _ _ _ _=some (Ctl.next ((gjS p c (gjT p m c)).1,c+1,(gjS p c (gjT p m c)).2));generalize gjT p m c=s at *;obtain ⟨r,M⟩:=s
   try dsimp only at *
   unfold Dl gjS;rw [Au oM,cond_true,obs,Au oM,cond_true,Aue hm' oM oM hr,obs,if_pos hlt];by_cases hk:Du M c r=M.length
   ·rw [hk,beq_self_eq_true,cond_true,obs,if_pos rfl];exact Af oM _
   ·have hle:=Ss (c:=c) hr;have hkl:Du M c r<M.length:=by omega
    rw [show (((Du M c r:Nat):Int)==((M.length:Nat):Int))=false from by rw [beq_eq_false_iff_ne];omega,cond_false,if_neg hk];have hnz:=Acv hk hr;obtain ⟨x,hx⟩:=Ke hlt;obtain ⟨y,hy⟩:=Ke hkl;have hyM:=hm' _ (List.mem_of_getElem? hy);obtain ⟨g1,g2,g3⟩:=Gl hyM (show c<w by omega);rw [Bj hy] at hnz;obtain ⟨i1,_,i2,i3,_⟩:=Aj9 hp (a:=y.getD c 0) oM;have hs:=Apz hlt hkl;have hpm:=Zi hm' hlt hkl;have hsl:=Qr M r (Du M c r);have hsw:(M.set r y).set (Du M c r) x=Lk M r (Du M c r):=by unfold Lk;rw [Bj hx,Bj hy]
    rw [hx,obs,hy,obs,hsw,Bj hy];rw [Bj hy] at hs;generalize Lk M r (Du M c r)=W at *;have hpr:VecW p w (Em p (Om p (y.getD c 0)) y):=Ry hb.1 hyM.1
    rw [hs,obs,g3,obs,i1,obs,Ano hb hyM hw hs ⟨i2,i3⟩,obs,
     Ar3 hb (w:=w) (m:=W.set r (Em p (Om p (y.getD c 0)) y)) (pr:=Em p (Om p (y.getD c 0)) y) (fun z hz=>?_) hw (by rw [List.length_set];omega) (Tg hs) oM rfl,obs,Af oM,obs,Alu]
    ·exact Af oM _
    ·rcases List.mem_or_eq_of_mem_set hz with hz|rfl
     ·exact hpm _ hz
     ·exact hpr
  ·refine .inr ?_;rw [Aa9 hlt n oM];generalize gjT p m c=s at *
   try dsimp only
   unfold Dl;rw [Au oM,cond_true,obs,At oM,cond_false]
 ·subst hI
  try dsimp only
  unfold Dl;rw [At oM,cond_false,obs,cond_false]
theorem Aui (hm:MatW p w m) (hw:w<=100000) (hl:m.length<=100000) :
  Aq (fun s_:Nat×List (List Int)=>Es m s_.1 s_.2) 4611686018427387904 (0,([]:List (List Int)))=some m:=by
 have h:=Dj (body:=fun s_:Nat×List (List Int)=>Es m s_.1 s_.2) m id [] (F:=4611686018427387904) oM m (fun i x h=>?_) ?_
 ·simpa using h
 ·have:=Ai h;have hx:=(hm x (List.mem_of_getElem? h)).1
  try dsimp only
  unfold Es;rw [Au oM,cond_true,h,obs,Vh _ oM,obs,Af (by simp;omega),Af oM];rfl
 ·try dsimp only
  unfold Es;rw [At oM,cond_false,List.map_id,List.nil_append]
theorem Qw {n:Nat} (hp:isF p=true) (hm:MatW p w m) (hn:n<=w) (hw:w<=100000) (hl:m.length<=100000):D7 p (n:Int) m=some (gj p n m):=by
 have hb:=Cu hp;obtain ⟨_,h2,h3⟩:=Ls hb.1 hm n;unfold D7;rw [Aui hm hw hl,obs,Apr hp hm hn hw hl,obs];exact Af oM _
end
end
end Go.Proofs.YthlpchhhinipaaaGreatDoor
