/- Lemmas on the program and on partial functions that stand in place of its code (part 6); no condition beyond those that each one states. -/
import Derived.Test.YtpnofkjgeokdhaaDoorZ5
import Derived.KernelRfl
namespace Go.Proofs.YtpnofkjgeokdhaaDoor
section
open Go.RowKit Go.Deep
set_option maxRecDepth 4000
def U8:AC :=
 (.seq (.seq (rg [xm 6 5,xm 7 0,xs1 8 6 7])
 (.cond (tm 8)
  .skip
  (.exit 0)))
 (.seq (.block 1 (.seq (rg [xm 11 1,xm 12 5,xo 13 (qb .mul (tm 11) (tm 12)),xm 14 0,xo 15 (qb .rem (tm 13) (tm 14)),xo 16 (qb .eql (tm 15) (ci 1))])
 (.cond (tm 16)
  (.seq (rg [xm 17 5,xm 4 17])
  .ret)
  .skip)))
 (rg [xm 9 5,xa 10 9,xm 5 10])))
def Aao:AC :=
 (.seq (rg [xo 4 (qm (ci 0))])
 (.seq (.seq (rg [xo 5 (qm (ci 1))])
 (.block 0 (.loop U8)))
 (.seq (rg [xo 4 (qm (ci 0))])
 .ret)))
def Ama:List Res:=[.tmp 4]
theorem Anb:At Tryd.prog Tryd.f89=some (Aao,Ama):=by kernel_rfl
def U6 (a0 a1:Int) (u0:Nat):Option (Ctl Nat (Ctl Unit Int)) :=
 cond (decide ((u0:Int)<a0))
 (og (a0≠0) <|
 cond ((Int.tmod (wI (a1*(u0:Int))) a0)==1)
  (some (Ctl.out (Ctl.out (u0:Int))))
  (og (u0+1<4611686018427387904) <|
  some (Ctl.next (u0+1))))
 (some (Ctl.out (Ctl.next ())))
def L1 (a0 a1:Int):Option Int :=
 Sn (Aw (fun s_:Nat=>U6 a0 a1 s_) 4611686018427387904 1) fun _ =>
some 0
def Ai0 (r:Int):RV:=⟨false,[(false,[.sc (.int .i64 r)])]⟩
theorem Aj2 {a0 a1 r:Int} (h:L1 a0 a1=some r):A0 Tryd.prog Tab 89 [ai a0,ai a1] (Ai0 r):=by
 refine A1 (by kernel_rfl) Tryd.func89 Anb (n:=18) (by kernel_rfl) (by simp) (tl:=[(0,ai a0),(1,ai a1)]) rfl ?_;unfold Aao;unfold L1 at h;refine Al ?_;refine Hz h (fun (_:Unit) S_=>S_=⟨Ao [],Aj (Ap []),2⟩) ?_ ?_
 ·intro v_ h hk2;refine Al ?_;refine Ae ?_;refine Av h (fun (u0:Nat) S_=>S_=⟨Ao [(0,ai a0),(1,ai a1),(5,an u0)],Aj (Ap []),2⟩) ⟨_,Ac [],rfl⟩ ?_;rintro n_ u0 _ c_ rfl h hn4
  (try dsimp only at h);unfold U6 at h;unfold U8;refine Ab ?_;refine Al ?_;rcases Af h with ⟨q7,h⟩ | ⟨q7,h⟩
  ·have q7_:=of_decide_eq_true q7;refine Ah q7 ?_;refine Ai (tn_ ?_);refine wr_ ?_;refine Ab ?_;refine Ae ?_;refine Ab ?_;obtain ⟨g10,h⟩:=Am h;refine Aa 11 ?_;refine rsB 4 ?_;refine rs0 (ai (Int.tmod (wI (a1*(u0:Int))) a0)) (Sc (k:=.i64) (a:=wI (a1*(u0:Int))) (b:=a0) (by kernel_rfl) (by kernel_rfl) g10) ?_;refine rsB 1 ?_;refine Aq (tn_ ?_);refine wr_ ?_;rcases Af h with ⟨q11,h⟩ | ⟨q11,h⟩
   ·refine Ah q11 ?_;refine Al ?_;refine An (br_ (tr_ (tr_ (br_ (tr_ ?_)))));obtain rfl:=zj h;have h:=hn4
    (try dsimp only at h);obtain rfl:=zj h;have h:=hk2
    (try dsimp only at h);obtain rfl:=zj h;exact Bo [an u0] (A2 rfl zl A5)
   refine Ag q11 ?_;refine Ai (bn_ (tn_ ?_));refine wr_ ?_;obtain ⟨g13,h⟩:=Am h;refine Aa 14 ?_;refine rsB 1 ?_;refine zA g13 ?_;refine rsB 1 ?_;refine Aq (tn_ ?_);obtain rfl:=zj h;exact ⟨u0+1,_,Ac [],rfl,hn4⟩
  have q7_:=of_decide_eq_false q7;refine Ag q7 ?_;refine Au (te_ (te_ (be_ (tn_ ?_))));obtain rfl:=zj h;have h:=hn4
  (try dsimp only at h);obtain rfl:=zj h;exact ⟨(),_,rfl,Ac [],rfl⟩
 rintro _ _ rfl h
 (try dsimp only at h);refine Al ?_;refine An ?_;obtain rfl:=zj h;exact Bo [ai 0] (A2 rfl zl A5)
def Z9:AC :=
 (.seq (rg [xo 4 (qm (ci 0))])
 (.seq (rg [xm 5 0,xm 6 1,xo 7 (qb .sub (tm 5) (tm 6)),xm 8 0,xo 9 (qb .rem (tm 7) (tm 8)),xm 4 9])
 .ret))
def Anh:List Res:=[.tmp 4]
theorem Als:At Tryd.prog Tryd.f75=some (Z9,Anh):=by kernel_rfl
def L5 (a0 a1:Int):Option Int :=
 og (a0≠0) <|
some (Int.tmod (wI (a0 - a1)) a0)
def Ajj (r:Int):RV:=⟨false,[(false,[.sc (.int .i64 r)])]⟩
theorem Aj8 {a0 a1 r:Int} (h:L5 a0 a1=some r):A0 Tryd.prog Tab 75 [ai a0,ai a1] (Ajj r):=by
 refine A1 (by kernel_rfl) Tryd.func75 Als (n:=10) (by kernel_rfl) (by simp) (tl:=[(0,ai a0),(1,ai a1)]) rfl ?_;unfold Z9;unfold L5 at h;refine Al ?_;refine Ab ?_;obtain ⟨g3,h⟩:=Am h;refine Aa 8 ?_;refine rsB 4 ?_;refine rs0 (ai (Int.tmod (wI (a0 - a1)) a0)) (Sc (k:=.i64) (a:=wI (a0 - a1)) (b:=a0) (by kernel_rfl) (by kernel_rfl) g3) ?_;refine rsB 1 ?_;refine Aq (tn_ ?_);refine wr_ ?_;refine An ?_;obtain rfl:=zj h;exact Bo [ai (Int.tmod (wI (a0 - a1)) a0)] (A2 rfl zl A5)
def Z1:AC :=
 (.seq (rg [xo 6 (qm (ci 0))])
 (.seq (rg [xm 7 1,xm 8 0,xo 9 (qb .add (tm 7) (tm 8)),xm 10 2,xo 11 (qb .sub (tm 9) (tm 10)),xm 12 0,xo 13 (qb .rem (tm 11) (tm 12)),xm 6 13])
 .ret))
def Amv:List Res:=[.tmp 6]
theorem Amp:At Tryd.prog Tryd.f47=some (Z1,Amv):=by kernel_rfl
def Jv (a0 a1 a2:Int):Option Int :=
 og (a0≠0) <|
some (Int.tmod (wI ((wI (a1+a0)) - a2)) a0)
def Aje (r:Int):RV:=⟨false,[(false,[.sc (.int .i64 r)])]⟩
theorem X8 {a0 a1:Int} {a2 r:Int} (h:Jv a0 a1 a2=some r):A0 Tryd.prog Tab 47 [ai a0,ai a1,ai a2] (Aje r):=by
 refine A1 (by kernel_rfl) Tryd.func47 Amp (n:=14) (by kernel_rfl) (by simp) (tl:=[(0,ai a0),(1,ai a1),(2,ai a2)]) rfl ?_;unfold Z1;unfold Jv at h;refine Al ?_;refine Ab ?_;obtain ⟨g3,h⟩:=Am h;refine Aa 10 ?_;refine rsB 6 ?_;refine rs0 (ai (Int.tmod (wI ((wI (a1+a0)) - a2)) a0)) (Sc (k:=.i64) (a:=wI ((wI (a1+a0)) - a2)) (b:=a0) (by kernel_rfl) (by kernel_rfl) g3) ?_;refine rsB 1 ?_;refine Aq (tn_ ?_);refine wr_ ?_;refine An ?_;obtain rfl:=zj h;exact Bo [ai (Int.tmod (wI ((wI (a1+a0)) - a2)) a0)] (A2 rfl zl A5)
def Pw:AC :=
 (.seq (rg [xs1 143 142 141])
 (.seq (.cond (tm 143)
  .skip
  (.exit 10))
 (.seq (.block 11 (.seq (rg [xm 144 142,xm 18 144])
 (.region [xm 145 7,xm 146 16,xx 147 1 145 146,xl 148 147,xm 149 18,xm 150 0,xm 151 7,xm 152 16,xx 153 1 151 152,xl 154 153,xm 155 18,xx 156 1 154 155,xl 157 156,xm 158 0,xm 159 17,xm 160 7,xm 161 10,xx 162 1 160 161,xl 163 162,xm 164 18,xx 165 1 163 164,xl 166 165,xo 167 (qc 48 [tm 158,tm 159,tm 166] [[],[],[]]),xo 168 (qc 47 [tm 150,tm 157,tm 167] [[],[],[]]),xx 169 1 148 149,xn (qs (tm 169) (tm 168))] true [(3,22),(9,22),(12,22),(3,23)])))
 (rg [xa 170 142,xm 142 170]))))
def Pf:AC :=
 (.seq (rg [xs1 115 114 113])
 (.seq (.cond (tm 115)
  .skip
  (.exit 8))
 (.seq (.block 9 (.seq (rg [xm 116 114,xm 16 116])
 (.seq (.seq (rg [xm 117 16,xm 118 10,xo 119 (qb .eql (tm 117) (tm 118)),xm 120 119,⟨some 121,some (120,false),qm (tm 7)⟩,⟨some 122,some (120,false),qm (tm 16)⟩,⟨some 123,some (120,false),qx 1 (tm 121) (tm 122)⟩,⟨some 124,some (120,false),ql (tm 123)⟩,⟨some 125,some (120,false),qm (tm 11)⟩,⟨some 126,some (120,false),qx 1 (tm 124) (tm 125)⟩,⟨some 127,some (120,false),ql (tm 126)⟩,⟨some 128,some (120,false),qb .eql (tm 127) (ci 0)⟩,xo 129 (.i (.pick (tm 120) (cb true) (tm 128)))])
 (.cond (tm 129)
  (.exit 9)
  .skip))
 (.seq (rg [xm 130 7,xm 131 16,xx 132 1 130 131,xl 133 132,xm 134 11,xx 135 1 133 134,xl 136 135,xm 17 136])
 (.seq (rg [xm 137 7,xm 138 16,xx 139 1 137 138,xl 140 139,xn1 141 140,xo 142 (qm (ci 0))])
 (.block 10 (.loop Pw)))))))
 (rg [xa 171 114,xm 114 171]))))
def Pi:AC :=
 (.seq (rg [xs1 93 92 91])
 (.seq (.cond (tm 93)
  .skip
  (.exit 6))
 (.seq (.block 7 (.seq (rg [xm 94 92,xm 15 94])
 (.region [xm 95 7,xm 96 10,xx 97 1 95 96,xl 98 97,xm 99 15,xm 100 0,xm 101 7,xm 102 10,xx 103 1 101 102,xl 104 103,xm 105 15,xx 106 1 104 105,xl 107 106,xm 108 14,xo 109 (qc 48 [tm 100,tm 107,tm 108] [[],[],[]]),xx 110 1 98 99,xn (qs (tm 110) (tm 109))] true [(3,14)])))
 (rg [xa 111 92,xm 92 111]))))
def Qh:AC :=
 (.seq (.seq (rg [xm 43 12,xm 44 7,xn1 45 44,xs1 46 43 45,xm 47 46,⟨some 48,some (47,true),qm (tm 7)⟩,⟨some 49,some (47,true),qm (tm 12)⟩,⟨some 50,some (47,true),qx 1 (tm 48) (tm 49)⟩,⟨some 51,some (47,true),ql (tm 50)⟩,⟨some 52,some (47,true),qm (tm 11)⟩,⟨some 53,some (47,true),qx 1 (tm 51) (tm 52)⟩,⟨some 54,some (47,true),ql (tm 53)⟩,⟨some 55,some (47,true),qb .eql (tm 54) (ci 0)⟩,xo 56 (.i (.pick (tm 47) (tm 55) (cb false)))])
 (.cond (tm 56)
  .skip
  (.exit 4)))
 (.block 5 (rg [xm 57 12,xa 58 57,xm 12 58])))
def Pn:AC :=
 (.seq (.seq (rg [xm 31 11,xm 32 1,xs1 33 31 32,xm 34 33,⟨some 35,some (34,true),qm (tm 10)⟩,⟨some 36,some (34,true),qm (tm 7)⟩,⟨some 37,some (34,true),.i (.len (tm 36))⟩,⟨some 38,some (34,true),qb .lss (tm 35) (tm 37)⟩,xo 39 (.i (.pick (tm 34) (tm 38) (cb false)))])
 (.cond (tm 39)
  .skip
  (.exit 2)))
 (.seq (.block 3 (.seq (rg [xm 42 10,xm 12 42])
 (.seq (.block 4 (.loop Qh))
 (.seq (.seq (rg [xm 59 12,xm 60 7,xn1 61 60,xo 62 (qb .eql (tm 59) (tm 61))])
 (.cond (tm 62)
  (.exit 3)
  .skip))
 (.seq (rg [xm 63 7,xm 64 10,xx 65 1 63 64,xl 66 65,xm 13 66])
 (.seq (rg [xm 67 7,xm 68 10,xm 69 7,xm 70 12,xx 71 1 69 70,xl 72 71,xx 73 1 67 68,xn (qs (tm 73) (tm 72))])
 (.seq (rg [xm 74 7,xm 75 12,xm 76 13,xx 77 1 74 75,xn (qs (tm 77) (tm 76))])
 (.seq (rg [xm 78 0,xm 79 7,xm 80 10,xx 81 1 79 80,xl 82 81,xm 83 11,xx 84 1 82 83,xl 85 84,xo 86 (qc 89 [tm 78,tm 85] [[],[]]),xm 14 86])
 (.seq (.seq (rg [xm 87 7,xm 88 10,xx 89 1 87 88,xl 90 89,xn1 91 90,xo 92 (qm (ci 0))])
 (.block 6 (.loop Pi)))
 (.seq (.seq (rg [xm 112 7,xn1 113 112,xo 114 (qm (ci 0))])
 (.block 8 (.loop Pf)))
 (rg [xm 172 10,xa 173 172,xm 10 173])))))))))))
 (rg [xm 40 11,xa 41 40,xm 11 41])))
def Qi:AC :=
 (.seq (rg [xs1 22 21 20])
 (.seq (.cond (tm 22)
  .skip
  (.exit 0))
 (.seq (.block 1 (.seq (rg [xx 23 1 19 21,xl 24 23,xm 9 24])
 (rg [xm 25 7,xm 26 9,xo 27 (qc 26 [tm 26] [[some .int]]),xo 28 (.mkV 23 sI 1 [tm 27]),xo 29 (.appV 23 sI 24 (tm 25) (tm 28)),xm 7 29])))
 (rg [xa 30 21,xm 21 30]))))
def Va:AC :=
 (.seq (rg [xo 6 (qm (.cst .nils))])
 (.seq (rg [xo 7 (qm (.cst .nils))])
 (.seq (.seq (rg [xm 19 2,xn1 20 19,xo 21 (qm (ci 0))])
 (.block 0 (.loop Qi)))
 (.seq (rg [xo 10 (qm (ci 0))])
 (.seq (.seq (rg [xo 11 (qm (ci 0))])
 (.block 2 (.loop Pn)))
 (.seq (rg [xm 174 7,xm 175 10,xo 176 (.slice 1 (tm 174) none (some (tm 175)) none),xm 6 176])
 .ret))))))
def Ad1:List Res:=[.tmp 6]
theorem Adw:At Tryd.prog Tryd.f72=some (Va,Ad1):=by kernel_rfl
theorem J0:Be Tryd.prog 72=true:=by kernel_rfl
def D4 (a2:LL) (u0:Nat) (u1:LL):Option (Ctl (Nat×LL) (LL)) :=
 cond (decide ((u0:Int)<(a2.length:Int)))
 (Option.bind (a2[u0]?) fun x12 =>
 Option.bind (C2 x12) fun y13 =>
 og (u1.length+1<=1073741824∧(u1.length+1)*24<=140737488355328) <|
 og (u0+1<4611686018427387904) <|
 some (Ctl.next (u0+1,u1++[y13])))
 (some (Ctl.out u1))
def D7 (u1:LL) (u2 u0:Nat):Option (Ctl Nat Nat) :=
 Option.bind (cond (decide ((u0:Int)<(u1.length:Int)))
  (Option.bind (u1[u0]?) fun x31 =>
  Option.bind (x31[u2]?) fun x32 =>
  some (x32==0))
  (some false)) fun u3 =>
cond u3
 (og (u0+1<4611686018427387904) <|
 some (Ctl.next (u0+1)))
 (some (Ctl.out u0))
def Fw (x44:List Int) (u2:Nat) (a0 y46:Int) (u0:Nat) (u1:LL):Option (Ctl (Nat×LL) (LL)) :=
 cond (decide ((u0:Int)<(x44.length:Int)))
 (Option.bind (u1[u2]?) fun x55 =>
 Option.bind (x55[u0]?) fun x56 =>
 Option.bind (Gr a0 x56 y46) fun y57 =>
 og (u0+1<4611686018427387904) <|
 some (Ctl.next (u0+1,u1.set u2 (x55.set u0 y57))))
 (some (Ctl.out u1))
def Fr (x74:List Int) (u2 u3:Nat) (a0 x75:Int) (u0:Nat) (u1:LL):Option (Ctl (Nat×LL) (LL)) :=
 cond (decide ((u0:Int)<(x74.length:Int)))
 (Option.bind (u1[u2]?) fun x83 =>
 Option.bind (x83[u0]?) fun x84 =>
 Option.bind (u1[u3]?) fun x85 =>
 Option.bind (x85[u0]?) fun x86 =>
 Option.bind (Gr a0 x75 x86) fun y87 =>
 Option.bind (Jv a0 x84 y87) fun y88 =>
 og (u0+1<4611686018427387904) <|
 some (Ctl.next (u0+1,u1.set u2 (x83.set u0 y88))))
 (some (Ctl.out u1))
def Fo (u4:LL) (u2 u3:Nat) (a0:Int) (u0:Nat) (u1:LL):Option (Ctl (Nat×LL) (LL)) :=
 cond (decide ((u0:Int)<(u4.length:Int)))
 (Option.bind (Option.bind (cond ((u0:Int)==(u2:Int))
       (some true)
       (Option.bind (u1[u0]?) fun x70 =>
       Option.bind (x70[u3]?) fun x71 =>
       some (x71==0))) fun u5 =>
  cond u5
   (some u1)
   (Option.bind (u1[u0]?) fun x74 =>
   Option.bind (x74[u3]?) fun x75 =>
   Aw (fun s_:Nat×LL=>Fr x74 u0 u2 a0 x75 s_.1 s_.2) 4611686018427387904 (0,u1))) fun u6 =>
 og (u0+1<4611686018427387904) <|
 some (Ctl.next (u0+1,u6)))
 (some (Ctl.out u1))
def C4 (a1 a0:Int) (u0 u2:Nat) (u1:LL):Option (Ctl (Nat×Nat×LL) (Nat×LL)) :=
 Option.bind (cond (decide ((u2:Int)<a1))
  (some (decide ((u0:Int)<(u1.length:Int))))
  (some false)) fun u5 =>
cond u5
 (Option.bind (Option.bind (Aw (fun s_:Nat=>D7 u1 u2 s_) 4611686018427387904 u0) fun u3 =>
  cond ((u3:Int)==(u1.length:Int))
   (some (u0,u1))
   (Option.bind (u1[u0]?) fun x39 =>
   Option.bind (u1[u3]?) fun x41 =>
   Option.bind (((u1.set u0 x41).set u3 x39)[u0]?) fun x44 =>
   Option.bind (x44[u2]?) fun x45 =>
   Option.bind (L1 a0 x45) fun y46 =>
   Option.bind (Aw (fun s_:Nat×LL=>Fw x44 u0 a0 y46 s_.1 s_.2) 4611686018427387904 (0,(u1.set u0 x41).set u3 x39)) fun u4 =>
   Option.bind (Aw (fun s_:Nat×LL=>Fo u4 u0 u2 a0 s_.1 s_.2) 4611686018427387904 (0,u4)) fun u6 =>
   og (u0+1<4611686018427387904) <|
   some (u0+1,u6))) fun (u7,u8) =>
 og (u2+1<4611686018427387904) <|
 some (Ctl.next (u7,u2+1,u8)))
 (some (Ctl.out (u0,u1)))
def Dn (a0 a1:Int) (a2:LL):Option (LL) :=
 Option.bind (Aw (fun s_:Nat×LL=>D4 a2 s_.1 s_.2) 4611686018427387904 (0,([]:LL))) fun u2 =>
Option.bind (Aw (fun s_:Nat×Nat×LL=>C4 a1 a0 s_.1 s_.2.1 s_.2.2) 4611686018427387904 (0,0,u2)) fun (u0,u1) =>
og ((0:Int)<=0∧0<=(u0:Int)∧(u0:Int)<=(u1.length:Int)) <|
some (u1.take u0)
theorem Ju {a0 a1:Int} {a2 r:LL} (h:Dn a0 a1 a2=some r):Kd Tryd.prog Tab 72 [ai a0,ai a1,tS a2] [] (oS 0 1 r.length) [(oi 0 1,.mat 23 (oi 1 1) .int r),(oi 1 1,.pool 3 .int r)]:=by
 refine Ga (by kernel_rfl) Tryd.func72 Adw (n:=177) (by kernel_rfl) (by simp) (tl:=[(0,ai a0),(1,ai a1),(2,tS a2)]) rfl (by kernel_rfl) trivial ⟨⟨3,.tail _ (.head _)⟩,⟨trivial,trivial⟩⟩ ?_;unfold Va;unfold Dn at h;refine Al ?_;refine Al ?_;refine Ar h (fun (uh:LL) S_=>S_=⟨Ao [(0,ai a0),(1,ai a1),(7,oS 0 1 uh.length)],Aj (Ap [(oi 0 1,.mat 23 (oi 1 1) .int uh),(oi 1 1,.pool 3 .int uh)]),2⟩) ?_ ?_
 ·intro v_ h;refine Al ?_;refine Ae ?_;refine Av h (fun t_ S_=>∃ (ui:Nat),∃ (u8:LL),t_=(ui,u8)∧S_=⟨Ao [(0,ai a0),(1,ai a1),(7,oS 0 1 u8.length),(19,tS a2),(20,an a2.length),(21,an ui)],Aj (Ap [(oi 0 1,.mat 23 (oi 1 1) .int u8),(oi 1 1,.pool 3 .int u8)]),2⟩) ⟨_,(Ug 7 23 sI (by kernel_rfl)).trans ((B2 (e1:=23) (n:=0) 9000 (oi 7 6) 3 .int (by kernel_rfl) (by kernel_rfl) rfl (by kernel_rfl) (by kernel_rfl)).trans (Ac [(oi 0 1,oi 7 6),(oi 1 1,oi 9000 7)])),⟨0,([]:LL),rfl,rfl⟩⟩ ?_;rintro n_ _ _ c_ ⟨ui,u8,rfl,rfl⟩ h hn6
  (try dsimp only at h);unfold D4 at h;unfold Qi;refine Al ?_;refine Ab ?_;rcases Af h with ⟨q9,h⟩ | ⟨q9,h⟩
  ·have q9_:=of_decide_eq_true q9;refine Ah q9 ?_;refine Ai (tn_ ?_);refine wr_ ?_;refine Ab ?_;refine Ae ?_;refine Ab ?_;obtain ⟨x12,e12,h⟩:=Ad h;refine Aa 6 ?_;refine zI sI e12 ?_;refine rsB 2 ?_;refine Aq (tn_ ?_);refine wr_ ?_;obtain ⟨y13,h13,h⟩:=Ad h;obtain ⟨g14,h⟩:=Am h;refine Aa 12 ?_;refine rsB 2 ?_;refine zc (oI 432 8 y13.length) [nI 432 8 y13] [tI x12] (Fc h13) ?_;refine Zs (oS 28 9 1) (oi 28 9) (.vec 23 1 1 ([oI 432 8 y13.length])) trivial (G1 (by kernel_rfl)) ?_;refine rs2 (oS 0 10 (u8.length+1)) (oi 0 1) (oi 0 10) (.vec 23 1 (u8.length+1) (hdL (oi 1 1) .int u8++[oI 432 8 y13.length])) (Dd (u:=.int) (t':=sI) (t2:=sI) (o:=oi 0 1) (q:=oi 28 9) (e2:=23) (p:=oi 1 1) (xss:=u8) (cs:=[oI 432 8 y13.length]) (len:=u8.length) (by kernel_rfl) (by kernel_rfl) rfl (by kernel_rfl) (by kernel_rfl) rfl g14) ?_;refine rsB 1 ?_;refine Aq (bn_ (tn_ ?_));refine ⟨_,B8 (e1:=23) (e:=3) (u:=.int) (n:=u8.length+1) (len:=y13.length) (row:=y13) (ys:=y13) (xss:=u8) 9000 (oi 0 10) (oi 1 1) (oi 432 8) (by kernel_rfl) (by kernel_rfl) rfl (by kernel_rfl) (by kernel_rfl) (H2 rfl) (H1 rfl) (by kernel_rfl) (by kernel_rfl) (by kernel_rfl),?_⟩;obtain ⟨g15,h⟩:=Am h;refine Aa 15 ?_;refine zA g15 ?_;refine rsB 1 ?_;refine Aq (tn_ ?_);obtain rfl:=zj h;exact ⟨(ui+1,u8++[y13]),_,(A8 7 (oS 0 10 (u8.length+1)) (oS 0 10 ((u8++[y13]).length)) (by kernel_rfl) (congrArg (fun z_=>((oS 0 10 z_):AV)) ((by simp):u8.length+1=(u8++[y13]).length))).trans (Ac [(oi 0 1,oi 0 10),(oi 1 1,oi 9000 12)]),⟨ui+1,u8++[y13],rfl,rfl⟩,hn6⟩
  have q9_:=of_decide_eq_false q9;refine Ag q9 ?_;refine Au (te_ (te_ (be_ (tn_ ?_))));obtain rfl:=zj h;have h:=hn6
  (try dsimp only at h);obtain rfl:=zj h;exact ⟨_,Ac [],rfl⟩
 rintro uh _ rfl h
 (try dsimp only at h);refine Al ?_;refine Ar h (fun t_ S_=>∃ (ub:Nat),∃ (uc:LL),t_=(ub,uc)∧S_=⟨Ao [(7,oS 0 1 uc.length),(10,an ub)],Aj (Ap [(oi 0 1,.mat 23 (oi 1 1) .int uc),(oi 1 1,.pool 3 .int uc)]),2⟩) ?_ ?_
 ·intro v_ h;refine Al ?_;refine Ae ?_;refine Av h (fun t_ S_=>∃ (u0:Nat),∃ (u3:Nat),∃ (u1:LL),t_=(u0,u3,u1)∧S_=⟨Ao [(0,ai a0),(1,ai a1),(7,oS 0 1 u1.length),(10,an u0),(11,an u3)],Aj (Ap [(oi 0 1,.mat 23 (oi 1 1) .int u1),(oi 1 1,.pool 3 .int u1)]),2⟩) ⟨_,Ac [],⟨0,0,uh,rfl,rfl⟩⟩ ?_;rintro n_ _ _ c_ ⟨u0,u3,u1,rfl,rfl⟩ h hn19
  (try dsimp only at h);unfold C4 at h;unfold Pn;refine Ab ?_;refine Ar h (fun (ul:Bool) S_=>S_=⟨Ao [(0,ai a0),(1,ai a1),(7,oS 0 1 u1.length),(10,an u0),(11,an u3),(39,.bool ul)],Aj (Ap [(oi 0 1,.mat 23 (oi 1 1) .int u1),(oi 1 1,.pool 3 .int u1)]),2⟩) ?_ ?_
  ·intro v_ h;rcases Af h with ⟨q22,h⟩ | ⟨q22,h⟩
   ·have q22_:=of_decide_eq_true q22;refine Aa 11 ?_;refine rsB 4 ?_;refine rs0 (an u0) (zg q22) ?_;refine rs0 (oS 0 1 u1.length) (zg q22) ?_;refine rs0 (an u1.length) (zg q22) ?_;refine rs0 (.bool (decide ((u0:Int)<(u1.length:Int)))) (zg q22) ?_;refine rs0 (.bool (decide ((u0:Int)<(u1.length:Int)))) (zT q22) ?_;refine Aq (tn_ ?_);obtain rfl:=zj h;exact ⟨_,Ac [],rfl⟩
   have q22_:=of_decide_eq_false q22;refine Aa 11 ?_;refine rsB 4 ?_;refine zs q22 ?_;refine zs q22 ?_;refine zs q22 ?_;refine zs q22 ?_;refine rs0 (.bool false) (zF q22) ?_;refine Aq (tn_ ?_);obtain rfl:=zj h;exact ⟨_,Ac [],rfl⟩
  rintro ul _ rfl h
  (try dsimp only at h);rcases Af h with ⟨q23,h⟩ | ⟨q23,h⟩
  ·refine Ah q23 ?_;refine Ai (tn_ ?_);refine wr_ ?_;refine Ar h (fun t_ S_=>∃ (uj:Nat),∃ (uf:LL),t_=(uj,uf)∧S_=⟨Ao [(0,ai a0),(1,ai a1),(7,oS 0 1 uf.length),(10,an uj),(11,an u3)],Aj (Ap [(oi 0 1,.mat 23 (oi 1 1) .int uf),(oi 1 1,.pool 3 .int uf)]),2⟩) ?_ ?_
   ·intro v_ h;refine Ae ?_;refine Al ?_;refine Ar h (fun (u9:Nat) S_=>S_=⟨Ao [(0,ai a0),(1,ai a1),(7,oS 0 1 u1.length),(10,an u0),(11,an u3),(12,an u9)],Aj (Ap [(oi 0 1,.mat 23 (oi 1 1) .int u1),(oi 1 1,.pool 3 .int u1)]),2⟩) ?_ ?_
    ·intro v_ h;refine Ae ?_;refine Av h (fun (ud:Nat) S_=>S_=⟨Ao [(0,ai a0),(1,ai a1),(7,oS 0 1 u1.length),(10,an u0),(11,an u3),(12,an ud)],Aj (Ap [(oi 0 1,.mat 23 (oi 1 1) .int u1),(oi 1 1,.pool 3 .int u1)]),2⟩) ⟨_,Ac [],rfl⟩ ?_;rintro n_ ud _ c_ rfl h hn27
     (try dsimp only at h);unfold D7 at h;unfold Qh;refine Ab ?_;refine Ar h (fun (um:Bool) S_=>S_=⟨Ao [(0,ai a0),(1,ai a1),(7,oS 0 1 u1.length),(10,an u0),(11,an u3),(12,an ud),(56,.bool um)],Aj (Ap [(oi 0 1,.mat 23 (oi 1 1) .int u1),(oi 1 1,.pool 3 .int u1)]),2⟩) ?_ ?_
     ·intro v_ h;rcases Af h with ⟨q30,h⟩ | ⟨q30,h⟩
      ·have q30_:=of_decide_eq_true q30;obtain ⟨x31,e31,h⟩:=Ad h;obtain ⟨x32,e32,h⟩:=Ad h;refine Aa 16 ?_;refine rsB 5 ?_;refine rs0 (oS 0 1 u1.length) (zg q30) ?_;refine rs0 (an ud) (zg q30) ?_;refine rs0 (.elt (oi 0 1) ud 0) (P3 (by kernel_rfl) q30 (zo (t:=sI) (o:=oi 0 1) (len:=u1.length) (k:=.i64) (m:=(ud:Int)) (Dp _) (As e31))) ?_;refine rsl (.own (kid (oi 1 1) ud) .int 0 x31.length) (P3 (by kernel_rfl) q30 (Gu (o:=oi 0 1) (p:=oi 1 1) (e1:=23) (u:=.int) (xss:=u1) (row:=x31) (j:=ud) (by kernel_rfl) (by kernel_rfl) e31)) ?_;refine rs0 (an u3) (zg q30) ?_;refine rs0 (.elt (kid (oi 1 1) ud) u3 0) (P3 (by kernel_rfl) q30 (zo (t:=.int) (o:=kid (oi 1 1) ud) (len:=x31.length) (k:=.i64) (m:=(u3:Int)) (Dp _) (As e32))) ?_;refine rsl (ai x32) (P3 (by kernel_rfl) q30 (Mu (i:=kid (oi 1 1) ud) (j:=u3) (k:=0) (e:=3) (t:=.int) (xs:=x31) (by kernel_rfl) (Bw (by kernel_rfl) e31) e32 (by kernel_rfl))) ?_;refine rs0 (.bool (x32==0)) (zg q30) ?_;refine rs0 (.bool (x32==0)) (zT q30) ?_;refine Aq (tn_ ?_);obtain rfl:=zj h;exact ⟨_,Ac [],rfl⟩
      have q30_:=of_decide_eq_false q30;refine Aa 16 ?_;refine rsB 5 ?_;refine zs q30 ?_;refine zs q30 ?_;refine zs q30 ?_;refine zs q30 ?_;refine zs q30 ?_;refine zs q30 ?_;refine zs q30 ?_;refine zs q30 ?_;refine rs0 (.bool false) (zF q30) ?_;refine Aq (tn_ ?_);obtain rfl:=zj h;exact ⟨_,Ac [],rfl⟩
     rintro um _ rfl h
     (try dsimp only at h);rcases Af h with ⟨q33,h⟩ | ⟨q33,h⟩
     ·refine Ah q33 ?_;refine Ai (tn_ ?_);refine wr_ ?_;refine Ae ?_;obtain ⟨g34,h⟩:=Am h;refine Aa 5 ?_;refine rsB 1 ?_;refine zA g34 ?_;refine rsB 1 ?_;refine Aq (bn_ (tn_ ?_));obtain rfl:=zj h;exact ⟨ud+1,_,Ac [],rfl,hn27⟩
     refine Ag q33 ?_;refine Au (te_ (te_ (be_ (tn_ ?_))));obtain rfl:=zj h;have h:=hn27
     (try dsimp only at h);obtain rfl:=zj h;exact ⟨_,Ac [],rfl⟩
    rintro u9 _ rfl h
    (try dsimp only at h);refine Ab ?_;refine Al ?_;rcases Af h with ⟨q37,h⟩ | ⟨q37,h⟩
    ·refine Ah q37 ?_;refine Au (te_ (be_ (tn_ ?_)));obtain rfl:=zj h;exact ⟨_,Ac [],⟨u0,u1,rfl,rfl⟩⟩
    refine Ag q37 ?_;refine Ai (tn_ ?_);refine wr_ ?_;refine Ab ?_;obtain ⟨x39,e39,h⟩:=Ad h;refine Aa 11 ?_;refine rsB 2 ?_;refine zO (oi 0 1) sI u1.length (As e39) ?_;refine rsl (.own (kid (oi 1 1) u0) .int 0 x39.length) (Gu (o:=oi 0 1) (p:=oi 1 1) (e1:=23) (u:=.int) (xss:=u1) (row:=x39) (j:=u0) (by kernel_rfl) (by kernel_rfl) e39) ?_;refine rsB 1 ?_;refine Aq (tn_ ?_);refine wr_ ?_;refine Ab ?_;obtain ⟨x41,e41,h⟩:=Ad h;refine Aa 19 ?_;refine rsB 4 ?_;refine zO (oi 0 1) sI u1.length (As e41) ?_;refine rsl (.own (kid (oi 1 1) u9) .int 0 x41.length) (Gu (o:=oi 0 1) (p:=oi 1 1) (e1:=23) (u:=.int) (xss:=u1) (row:=x41) (j:=u9) (by kernel_rfl) (by kernel_rfl) e41) ?_;refine zO (oi 0 1) sI u1.length (As e39) ?_;refine Ame (oi 0 1) (oi 0 1) (.vec 23 1 u1.length ((hdL (oi 1 1) .int u1).set u0 (.own (kid (oi 1 1) u9) .int 0 x41.length))) (Ae5 (o:=oi 0 1) (e1:=23) (m:=u1.length) (cs:=hdL (oi 1 1) .int u1) (v:=.own (kid (oi 1 1) u9) .int 0 x41.length) (j:=u0) (by kernel_rfl) (by kernel_rfl) (by kernel_rfl) rfl (by rw [Df]; exact As e39)) ?_;refine Aq (tn_ ?_);refine wr_ ?_;refine Ab ?_;refine Aa 24 ?_;refine rsB 3 ?_;refine zO (oi 0 1) sI u1.length (As e41) ?_;refine Ame (oi 0 1) (oi 0 1) (.vec 23 1 u1.length (((hdL (oi 1 1) .int u1).set u0 (.own (kid (oi 1 1) u9) .int 0 x41.length)).set u9 (.own (kid (oi 1 1) u0) .int 0 x39.length))) (Ae5 (o:=oi 0 1) (e1:=23) (m:=u1.length) (cs:=(hdL (oi 1 1) .int u1).set u0 (.own (kid (oi 1 1) u9) .int 0 x41.length)) (v:=.own (kid (oi 1 1) u0) .int 0 x39.length) (j:=u9) (by kernel_rfl) (by kernel_rfl) (by kernel_rfl) rfl (by rw [List.length_set,Df]; exact As e41)) ?_;refine Aq (tn_ ?_);refine ⟨_,Afv (e1:=23) (e:=3) (u:=.int) (xss:=u1) (i:=u0) (j:=u9) (n:=u1.length) (li:=x39.length) (lj:=x41.length) (ri:=x39) (rj:=x41) 9000 (oi 0 1) (oi 1 1) (by kernel_rfl) (by kernel_rfl) rfl (by kernel_rfl) e39 e41 rfl rfl (by kernel_rfl) (by kernel_rfl),?_⟩;refine Ab ?_;obtain ⟨x44,e44,h⟩:=Ad h;obtain ⟨x45,e45,h⟩:=Ad h;obtain ⟨y46,h46,h⟩:=Ad h;refine Aa 35 ?_;refine rsB 3 ?_;refine rs0 (.elt (oi 0 1) u0 0) (zo (t:=sI) (o:=oi 0 1) (len:=u1.length) (k:=.i64) (m:=(u0:Int)) (Dp _) (Nat.lt_of_lt_of_le (As e44) (Nat.le_of_eq (Eq.symm (Eq.trans (b:=u1.length) rfl (by simp)))))) ?_;refine rsl (.own (kid (oi 9000 24) u0) .int 0 x44.length) (Gu (o:=oi 0 1) (p:=oi 9000 24) (e1:=23) (u:=.int) (xss:=(u1.set u0 x41).set u9 x39) (row:=x44) (j:=u0) (by kernel_rfl) (by kernel_rfl) e44) ?_;refine rsB 1 ?_;refine rs0 (.elt (kid (oi 9000 24) u0) u3 0) (zo (t:=.int) (o:=kid (oi 9000 24) u0) (len:=x44.length) (k:=.i64) (m:=(u3:Int)) (Dp _) (As e45)) ?_;refine rsl (ai x45) (Mu (i:=kid (oi 9000 24) u0) (j:=u3) (k:=0) (e:=3) (t:=.int) (xs:=x44) (by kernel_rfl) (Bw (by kernel_rfl) e44) e45 (by kernel_rfl)) ?_;refine zc (ai y46) [] [ai a0,ai x45] (Aj2 h46) ?_;refine rsB 1 ?_;refine Aq (tn_ ?_);refine wr_ ?_;refine Ar h (fun (ue:LL) S_=>S_=⟨Ao [(0,ai a0),(1,ai a1),(7,oS 0 1 ue.length),(10,an u0),(11,an u3)],Aj (Ap [(oi 0 1,.mat 23 (oi 1 1) .int ue),(oi 1 1,.pool 3 .int ue)]),2⟩) ?_ ?_
    ·intro v_ h;refine Ab ?_;refine Aa 41 ?_;refine rsB 2 ?_;refine rs0 (.elt (oi 0 1) u0 0) (zo (t:=sI) (o:=oi 0 1) (len:=u1.length) (k:=.i64) (m:=(u0:Int)) (Dp _) (Nat.lt_of_lt_of_le (As e44) (Nat.le_of_eq (Eq.symm (Eq.trans (b:=u1.length) rfl (by simp)))))) ?_;refine rsl (.own (kid (oi 9000 24) u0) .int 0 x44.length) (Gu (o:=oi 0 1) (p:=oi 9000 24) (e1:=23) (u:=.int) (xss:=(u1.set u0 x41).set u9 x39) (row:=x44) (j:=u0) (by kernel_rfl) (by kernel_rfl) e44) ?_;refine rsB 2 ?_;refine Aq (tn_ ?_);refine wr_ ?_;refine Ae ?_;refine Av h (fun t_ S_=>∃ (u6:Nat),∃ (u7:LL),t_=(u6,u7)∧S_=⟨Ao [(0,ai a0),(1,ai a1),(7,oS 0 1 u7.length),(10,an u0),(11,an u3),(14,ai y46),(91,an x44.length),(92,an u6)],Aj (Ap [(oi 0 1,.mat 23 (oi 1 1) .int u7),(oi 1 1,.pool 3 .int u7)]),2⟩) ⟨_,(A8 7 (oS 0 1 u1.length) (oS 0 1 (((u1.set u0 x41).set u9 x39).length)) (by kernel_rfl) (congrArg (fun z_=>((oS 0 1 z_):AV)) ((Eq.trans (b:=u1.length) rfl (by simp)):u1.length=((u1.set u0 x41).set u9 x39).length))).trans (Ac [(oi 1 1,oi 9000 24)]),⟨0,(u1.set u0 x41).set u9 x39,rfl,rfl⟩⟩ ?_;rintro n_ _ _ c_ ⟨u6,u7,rfl,rfl⟩ h hn49
     (try dsimp only at h);unfold Fw at h;unfold Pi;refine Al ?_;refine Ab ?_;rcases Af h with ⟨q52,h⟩ | ⟨q52,h⟩
     ·have q52_:=of_decide_eq_true q52;refine Ah q52 ?_;refine Ai (tn_ ?_);refine wr_ ?_;refine Ab ?_;refine Ae ?_;refine Al ?_;obtain ⟨x55,e55,h⟩:=Ad h;obtain ⟨x56,e56,h⟩:=Ad h;obtain ⟨y57,h57,h⟩:=Ad h;refine Ax 22 ?_;refine dz0 (oS 0 1 u7.length) ?_;refine dz0 (an u0) ?_;refine dzO (oi 0 1) sI u7.length (As e55) ?_;refine dsl (.own (kid (oi 1 1) u0) .int 0 x55.length) (Gu (o:=oi 0 1) (p:=oi 1 1) (e1:=23) (u:=.int) (xss:=u7) (row:=x55) (j:=u0) (by kernel_rfl) (by kernel_rfl) e55) ?_;refine dz0 (an u6) ?_;refine dz0 (ai a0) ?_;refine dz0 (oS 0 1 u7.length) ?_;refine dz0 (an u0) ?_;refine dzO (oi 0 1) sI u7.length (As e55) ?_;refine dsl (.own (kid (oi 1 1) u0) .int 0 x55.length) (Gu (o:=oi 0 1) (p:=oi 1 1) (e1:=23) (u:=.int) (xss:=u7) (row:=x55) (j:=u0) (by kernel_rfl) (by kernel_rfl) e55) ?_;refine dz0 (an u6) ?_;refine ds0 (.elt (kid (oi 1 1) u0) u6 0) (zo (t:=.int) (o:=kid (oi 1 1) u0) (len:=x55.length) (k:=.i64) (m:=(u6:Int)) (Dp _) (As e56)) ?_;refine dsl (ai x56) (Mu (i:=kid (oi 1 1) u0) (j:=u6) (k:=0) (e:=3) (t:=.int) (xs:=x55) (by kernel_rfl) (Ahx.trans (Bw (by kernel_rfl) e55)) e56 (by kernel_rfl)) ?_;refine dz0 (ai y46) ?_;refine dzc (ai y57) [] [ai a0,ai x56,ai y46] (M8 h57) ?_;refine ds0 (.elt (kid (oi 1 1) u0) u6 0) (zo (t:=.int) (o:=kid (oi 1 1) u0) (len:=x55.length) (k:=.i64) (m:=(u6:Int)) (Dp _) (As e56)) ?_;refine K7 (kid (oi 1 1) u0) (kid (oi 1 1) u0) (.arr 3 .int (x55.set u6 y57)) (Zm (i:=kid (oi 1 1) u0) (j:=u6) (k:=0) (e:=3) (t:=.int) (xs:=x55) (cs:=[ai y57]) (x1:=y57) (by kernel_rfl) (Ahx.trans (Bw (by kernel_rfl) e55)) e56 (by kernel_rfl) (by kernel_rfl)) ?_;refine Atf (Amc (o:=oi 0 1) (p:=oi 1 1) (e1:=23) (e:=3) (u:=.int) (xss:=u7) (k:=u0) (row:=x55) (row':=x55.set u6 y57) (by kernel_rfl) rfl (by kernel_rfl) e55 List.length_set) ?_;refine F5 (Bc (by kernel_rfl)) (bn_ (tn_ ?_));refine wr_ ?_;obtain ⟨g58,h⟩:=Am h;refine Aa 24 ?_;refine zA g58 ?_;refine rsB 1 ?_;refine Aq (tn_ ?_);obtain rfl:=zj h;exact ⟨(u6+1,u7.set u0 (x55.set u6 y57)),_,(A8 7 (oS 0 1 u7.length) (oS 0 1 ((u7.set u0 (x55.set u6 y57)).length)) (by kernel_rfl) (congrArg (fun z_=>((oS 0 1 z_):AV)) ((Eq.trans (b:=u7.length) rfl List.length_set.symm):u7.length=(u7.set u0 (x55.set u6 y57)).length))).trans (Ac []),⟨u6+1,u7.set u0 (x55.set u6 y57),rfl,rfl⟩,hn49⟩
     have q52_:=of_decide_eq_false q52;refine Ag q52 ?_;refine Au (te_ (te_ (be_ (tn_ ?_))));obtain rfl:=zj h;have h:=hn49
     (try dsimp only at h);obtain rfl:=zj h;exact ⟨_,Ac [],rfl⟩
    rintro ue _ rfl h
    (try dsimp only at h);refine Ar h (fun (uk:LL) S_=>S_=⟨Ao [(0,ai a0),(1,ai a1),(7,oS 0 1 uk.length),(10,an u0),(11,an u3)],Aj (Ap [(oi 0 1,.mat 23 (oi 1 1) .int uk),(oi 1 1,.pool 3 .int uk)]),2⟩) ?_ ?_
    ·intro v_ h;refine Al ?_;refine Ae ?_;refine Av h (fun t_ S_=>∃ (u2:Nat),∃ (ua:LL),t_=(u2,ua)∧S_=⟨Ao [(0,ai a0),(1,ai a1),(7,oS 0 1 ua.length),(10,an u0),(11,an u3),(113,an ue.length),(114,an u2)],Aj (Ap [(oi 0 1,.mat 23 (oi 1 1) .int ua),(oi 1 1,.pool 3 .int ua)]),2⟩) ⟨_,Ac [],⟨0,ue,rfl,rfl⟩⟩ ?_;rintro n_ _ _ c_ ⟨u2,ua,rfl,rfl⟩ h hn61
     (try dsimp only at h);unfold Fo at h;unfold Pf;refine Al ?_;refine Ab ?_;rcases Af h with ⟨q64,h⟩ | ⟨q64,h⟩
     ·have q64_:=of_decide_eq_true q64;refine Ah q64 ?_;refine Ai (tn_ ?_);refine wr_ ?_;refine Ar h (fun (ug:LL) S_=>S_=⟨Ao [(0,ai a0),(1,ai a1),(7,oS 0 1 ug.length),(10,an u0),(11,an u3),(113,an ue.length),(114,an u2)],Aj (Ap [(oi 0 1,.mat 23 (oi 1 1) .int ug),(oi 1 1,.pool 3 .int ug)]),2⟩) ?_ ?_
      ·intro v_ h;refine Ae ?_;refine Al ?_;refine Ab ?_;refine Ar h (fun (un:Bool) S_=>S_=⟨Ao [(0,ai a0),(1,ai a1),(7,oS 0 1 ua.length),(10,an u0),(11,an u3),(16,an u2),(113,an ue.length),(114,an u2),(129,.bool un)],Aj (Ap [(oi 0 1,.mat 23 (oi 1 1) .int ua),(oi 1 1,.pool 3 .int ua)]),2⟩) ?_ ?_
       ·intro v_ h;rcases Af h with ⟨q69,h⟩ | ⟨q69,h⟩
        ·refine Aa 18 ?_;refine rsB 4 ?_;refine zs q69 ?_;refine zs q69 ?_;refine zs q69 ?_;refine zs q69 ?_;refine zs q69 ?_;refine zs q69 ?_;refine zs q69 ?_;refine zs q69 ?_;refine rs0 (.bool true) (zT q69) ?_;refine Aq (tn_ ?_);obtain rfl:=zj h;exact ⟨_,Ac [],rfl⟩
        obtain ⟨x70,e70,h⟩:=Ad h;obtain ⟨x71,e71,h⟩:=Ad h;refine Aa 18 ?_;refine rsB 4 ?_;refine rs0 (oS 0 1 ua.length) (zg q69) ?_;refine rs0 (an u2) (zg q69) ?_;refine rs0 (.elt (oi 0 1) u2 0) (P3 (by kernel_rfl) q69 (zo (t:=sI) (o:=oi 0 1) (len:=ua.length) (k:=.i64) (m:=(u2:Int)) (Dp _) (As e70))) ?_;refine rsl (.own (kid (oi 1 1) u2) .int 0 x70.length) (P3 (by kernel_rfl) q69 (Gu (o:=oi 0 1) (p:=oi 1 1) (e1:=23) (u:=.int) (xss:=ua) (row:=x70) (j:=u2) (by kernel_rfl) (by kernel_rfl) e70)) ?_;refine rs0 (an u3) (zg q69) ?_;refine rs0 (.elt (kid (oi 1 1) u2) u3 0) (P3 (by kernel_rfl) q69 (zo (t:=.int) (o:=kid (oi 1 1) u2) (len:=x70.length) (k:=.i64) (m:=(u3:Int)) (Dp _) (As e71))) ?_;refine rsl (ai x71) (P3 (by kernel_rfl) q69 (Mu (i:=kid (oi 1 1) u2) (j:=u3) (k:=0) (e:=3) (t:=.int) (xs:=x70) (by kernel_rfl) (Bw (by kernel_rfl) e70) e71 (by kernel_rfl))) ?_;refine rs0 (.bool (x71==0)) (zg q69) ?_;refine rs0 (.bool (x71==0)) (zF q69) ?_;refine Aq (tn_ ?_);obtain rfl:=zj h;exact ⟨_,Ac [],rfl⟩
       rintro un _ rfl h
       (try dsimp only at h);rcases Af h with ⟨q72,h⟩ | ⟨q72,h⟩
       ·refine Ah q72 ?_;refine Au (te_ (be_ (tn_ ?_)));obtain rfl:=zj h;exact ⟨_,Ac [],rfl⟩
       refine Ag q72 ?_;refine Ai (tn_ ?_);refine wr_ ?_;refine Ab ?_;obtain ⟨x74,e74,h⟩:=Ad h;obtain ⟨x75,e75,h⟩:=Ad h;refine Aa 10 ?_;refine rsB 2 ?_;refine zO (oi 0 1) sI ua.length (As e74) ?_;refine rsl (.own (kid (oi 1 1) u2) .int 0 x74.length) (Gu (o:=oi 0 1) (p:=oi 1 1) (e1:=23) (u:=.int) (xss:=ua) (row:=x74) (j:=u2) (by kernel_rfl) (by kernel_rfl) e74) ?_;refine rsB 1 ?_;refine rs0 (.elt (kid (oi 1 1) u2) u3 0) (zo (t:=.int) (o:=kid (oi 1 1) u2) (len:=x74.length) (k:=.i64) (m:=(u3:Int)) (Dp _) (As e75)) ?_;refine rsl (ai x75) (Mu (i:=kid (oi 1 1) u2) (j:=u3) (k:=0) (e:=3) (t:=.int) (xs:=x74) (by kernel_rfl) (Bw (by kernel_rfl) e74) e75 (by kernel_rfl)) ?_;refine rsB 1 ?_;refine Aq (tn_ ?_);refine wr_ ?_;refine Ab ?_;refine Aa 16 ?_;refine rsB 2 ?_;refine zO (oi 0 1) sI ua.length (As e74) ?_;refine rsl (.own (kid (oi 1 1) u2) .int 0 x74.length) (Gu (o:=oi 0 1) (p:=oi 1 1) (e1:=23) (u:=.int) (xss:=ua) (row:=x74) (j:=u2) (by kernel_rfl) (by kernel_rfl) e74) ?_;refine rsB 2 ?_;refine Aq (tn_ ?_);refine wr_ ?_;refine Ae ?_;refine Av h (fun t_ S_=>∃ (u4:Nat),∃ (u5:LL),t_=(u4,u5)∧S_=⟨Ao [(0,ai a0),(1,ai a1),(7,oS 0 1 u5.length),(10,an u0),(11,an u3),(16,an u2),(17,ai x75),(113,an ue.length),(114,an u2),(141,an x74.length),(142,an u4)],Aj (Ap [(oi 0 1,.mat 23 (oi 1 1) .int u5),(oi 1 1,.pool 3 .int u5)]),2⟩) ⟨_,Ac [],⟨0,ua,rfl,rfl⟩⟩ ?_;rintro n_ _ _ c_ ⟨u4,u5,rfl,rfl⟩ h hn77
       (try dsimp only at h);unfold Fr at h;unfold Pw;refine Al ?_;refine Ab ?_;rcases Af h with ⟨q80,h⟩ | ⟨q80,h⟩
       ·have q80_:=of_decide_eq_true q80;refine Ah q80 ?_;refine Ai (tn_ ?_);refine wr_ ?_;refine Ab ?_;refine Ae ?_;refine Al ?_;obtain ⟨x83,e83,h⟩:=Ad h;obtain ⟨x84,e84,h⟩:=Ad h;obtain ⟨x85,e85,h⟩:=Ad h;obtain ⟨x86,e86,h⟩:=Ad h;obtain ⟨y87,h87,h⟩:=Ad h;obtain ⟨y88,h88,h⟩:=Ad h;refine Ax 31 ?_;refine dz0 (oS 0 1 u5.length) ?_;refine dz0 (an u2) ?_;refine dzO (oi 0 1) sI u5.length (As e83) ?_;refine dsl (.own (kid (oi 1 1) u2) .int 0 x83.length) (Gu (o:=oi 0 1) (p:=oi 1 1) (e1:=23) (u:=.int) (xss:=u5) (row:=x83) (j:=u2) (by kernel_rfl) (by kernel_rfl) e83) ?_;refine dz0 (an u4) ?_;refine dz0 (ai a0) ?_;refine dz0 (oS 0 1 u5.length) ?_;refine dz0 (an u2) ?_;refine dzO (oi 0 1) sI u5.length (As e83) ?_;refine dsl (.own (kid (oi 1 1) u2) .int 0 x83.length) (Gu (o:=oi 0 1) (p:=oi 1 1) (e1:=23) (u:=.int) (xss:=u5) (row:=x83) (j:=u2) (by kernel_rfl) (by kernel_rfl) e83) ?_;refine dz0 (an u4) ?_;refine ds0 (.elt (kid (oi 1 1) u2) u4 0) (zo (t:=.int) (o:=kid (oi 1 1) u2) (len:=x83.length) (k:=.i64) (m:=(u4:Int)) (Dp _) (As e84)) ?_;refine dsl (ai x84) (Mu (i:=kid (oi 1 1) u2) (j:=u4) (k:=0) (e:=3) (t:=.int) (xs:=x83) (by kernel_rfl) (Ahx.trans (Bw (by kernel_rfl) e83)) e84 (by kernel_rfl)) ?_;refine dz0 (ai a0) ?_;refine dz0 (ai x75) ?_;refine dz0 (oS 0 1 u5.length) ?_;refine dz0 (an u0) ?_;refine dzO (oi 0 1) sI u5.length (As e85) ?_;refine dsl (.own (kid (oi 1 1) u0) .int 0 x85.length) (Gu (o:=oi 0 1) (p:=oi 1 1) (e1:=23) (u:=.int) (xss:=u5) (row:=x85) (j:=u0) (by kernel_rfl) (by kernel_rfl) e85) ?_;refine dz0 (an u4) ?_;refine ds0 (.elt (kid (oi 1 1) u0) u4 0) (zo (t:=.int) (o:=kid (oi 1 1) u0) (len:=x85.length) (k:=.i64) (m:=(u4:Int)) (Dp _) (As e86)) ?_;refine dsl (ai x86) (Mu (i:=kid (oi 1 1) u0) (j:=u4) (k:=0) (e:=3) (t:=.int) (xs:=x85) (by kernel_rfl) (Ahx.trans (Bw (by kernel_rfl) e85)) e86 (by kernel_rfl)) ?_;refine dzc (ai y87) [] [ai a0,ai x75,ai x86] (M8 h87) ?_;refine dzc (ai y88) [] [ai a0,ai x84,ai y87] (X8 h88) ?_;refine ds0 (.elt (kid (oi 1 1) u2) u4 0) (zo (t:=.int) (o:=kid (oi 1 1) u2) (len:=x83.length) (k:=.i64) (m:=(u4:Int)) (Dp _) (As e84)) ?_;refine K7 (kid (oi 1 1) u2) (kid (oi 1 1) u2) (.arr 3 .int (x83.set u4 y88)) (Zm (i:=kid (oi 1 1) u2) (j:=u4) (k:=0) (e:=3) (t:=.int) (xs:=x83) (cs:=[ai y88]) (x1:=y88) (by kernel_rfl) (Ahx.trans (Bw (by kernel_rfl) e83)) e84 (by kernel_rfl) (by kernel_rfl)) ?_;refine Atf (Amc (o:=oi 0 1) (p:=oi 1 1) (e1:=23) (e:=3) (u:=.int) (xss:=u5) (k:=u2) (row:=x83) (row':=x83.set u4 y88) (by kernel_rfl) rfl (by kernel_rfl) e83 List.length_set) ?_;refine F5 (Bc (by kernel_rfl)) (bn_ (tn_ ?_));refine wr_ ?_;obtain ⟨g89,h⟩:=Am h;refine Aa 33 ?_;refine zA g89 ?_;refine rsB 1 ?_;refine Aq (tn_ ?_);obtain rfl:=zj h;exact ⟨(u4+1,u5.set u2 (x83.set u4 y88)),_,(A8 7 (oS 0 1 u5.length) (oS 0 1 ((u5.set u2 (x83.set u4 y88)).length)) (by kernel_rfl) (congrArg (fun z_=>((oS 0 1 z_):AV)) ((Eq.trans (b:=u5.length) rfl List.length_set.symm):u5.length=(u5.set u2 (x83.set u4 y88)).length))).trans (Ac []),⟨u4+1,u5.set u2 (x83.set u4 y88),rfl,rfl⟩,hn77⟩
       have q80_:=of_decide_eq_false q80;refine Ag q80 ?_;refine Au (te_ (te_ (be_ (bn_ (tn_ ?_)))));obtain rfl:=zj h;have h:=hn77
       (try dsimp only at h);obtain rfl:=zj h;exact ⟨_,Ac [],rfl⟩
      rintro ug _ rfl h
      (try dsimp only at h);obtain ⟨g90,h⟩:=Am h;refine Aa 4 ?_;refine zA g90 ?_;refine rsB 1 ?_;refine Aq (tn_ ?_);obtain rfl:=zj h;exact ⟨(u2+1,ug),_,Ac [],⟨u2+1,ug,rfl,rfl⟩,hn61⟩
     have q64_:=of_decide_eq_false q64;refine Ag q64 ?_;refine Au (te_ (te_ (be_ (tn_ ?_))));obtain rfl:=zj h;have h:=hn61
     (try dsimp only at h);obtain rfl:=zj h;exact ⟨_,Ac [],rfl⟩
    rintro uk _ rfl h
    (try dsimp only at h);obtain ⟨g91,h⟩:=Am h;refine Aa 5 ?_;refine rsB 1 ?_;refine zA g91 ?_;refine rsB 1 ?_;refine Aq (bn_ (tn_ ?_));obtain rfl:=zj h;exact ⟨_,Ac [],⟨u0+1,uk,rfl,rfl⟩⟩
   rintro _ _ ⟨uj,uf,rfl,rfl⟩ h
   (try dsimp only at h);obtain ⟨g92,h⟩:=Am h;refine Aa 5 ?_;refine rsB 1 ?_;refine zA g92 ?_;refine rsB 1 ?_;refine Aq (tn_ ?_);obtain rfl:=zj h;exact ⟨(uj,u3+1,uf),_,Ac [],⟨uj,u3+1,uf,rfl,rfl⟩,hn19⟩
  refine Ag q23 ?_;refine Au (te_ (te_ (be_ (tn_ ?_))));obtain rfl:=zj h;have h:=hn19
  (try dsimp only at h);obtain rfl:=zj h;exact ⟨_,Ac [],⟨u0,u1,rfl,rfl⟩⟩
 rintro _ _ ⟨ub,uc,rfl,rfl⟩ h
 (try dsimp only at h);refine Ab ?_;obtain ⟨g94,h⟩:=Am h;refine Aa 6 ?_;refine rsB 2 ?_;refine rs0 (oS 0 1 ub) (An9 (t:=sI) (i:=oi 0 1) (off:=0) (len:=uc.length) (l:=0) (h:=(ub:Int)) (by kernel_rfl) (by kernel_rfl) (by kernel_rfl) rfl g94 rfl (by omega)) ?_;refine rsB 1 ?_;refine Aq (tn_ ?_);refine wr_ ?_;refine An ?_;obtain rfl:=zj h;exact Oi [oS 0 1 ((uc.take ub).length)] ((Aqs (e1:=23) (e:=3) (u:=.int) (xss:=uc) (n:=uc.length) (k:=ub) 9000 (oi 0 1) (oi 1 1) (by kernel_rfl) (by kernel_rfl) rfl (by kernel_rfl) (by omega) (by kernel_rfl) (by kernel_rfl) (by kernel_rfl)).trans ((A8 6 (oS 0 1 ub) (oS 0 1 ((uc.take ub).length)) (by kernel_rfl) (congrArg (fun z_=>((oS 0 1 z_):AV)) ((Atl (by omega)):ub=(uc.take ub).length))).trans (Ac (tl:=[(6,oS 0 1 (uc.take ub).length)]) (g:=2) [(oi 1 1,oi 9000 6)])))
def Uv:AC :=
 (.seq (.seq (rg [xm 10 2,xo 11 (qb .gtr (tm 10) (ci 0))])
 (.cond (tm 11)
  .skip
  (.exit 0)))
 (.seq (.block 1 (.seq (.seq (rg [xm 14 2,xo 15 (qb .rem (tm 14) (ci 2)),xo 16 (qb .eql (tm 15) (ci 1))])
 (.cond (tm 16)
  (rg [xm 17 7,xm 18 1,xo 19 (qb .mul (tm 17) (tm 18)),xm 20 0,xo 21 (qb .rem (tm 19) (tm 20)),xm 7 21])
  .skip))
 (rg [xm 22 1,xm 23 1,xo 24 (qb .mul (tm 22) (tm 23)),xm 25 0,xo 26 (qb .rem (tm 24) (tm 25)),xm 1 26])))
 (rg [xm 12 2,xo 13 (qb .quo (tm 12) (ci 2)),xm 2 13])))
def Zo:AC :=
 (.seq (rg [xo 6 (qm (ci 0))])
 (.seq (rg [xm 8 0,xo 9 (qb .rem (ci 1) (tm 8)),xm 7 9])
 (.seq (.block 0 (.loop Uv))
 (.seq (rg [xm 27 7,xm 6 27])
 .ret))))
def Amu:List Res:=[.tmp 6]
theorem Ano:At Tryd.prog Tryd.f96=some (Zo,Amu):=by kernel_rfl
def Uz (a0 u0:Int) (u1 u2:Int):Option (Ctl (Int×Int×Int) Int) :=
 cond (decide (0<u1))
 (Option.bind (cond ((Int.tmod u1 2)==1)
   (og (a0≠0) <|
   some (Int.tmod (wI (u2*u0)) a0))
   (some u2)) fun u3 =>
 og (a0≠0) <|
 some (Ctl.next (Int.tmod (wI (u0*u0)) a0,wI (Int.tdiv u1 2),u3)))
 (some (Ctl.out u2))
def Uf (a0 a1 a2:Int):Option Int :=
 og (a0≠0) <|
Option.bind (Aw (fun s_:Int×Int×Int=>Uz a0 s_.1 s_.2.1 s_.2.2) 4611686018427387904 (a1,a2,Int.tmod 1 a0)) fun u0 =>
some u0
def Ajv (r:Int):RV:=⟨false,[(false,[.sc (.int .i64 r)])]⟩
theorem Aj4 {a0 a1:Int} {a2 r:Int} (h:Uf a0 a1 a2=some r):A0 Tryd.prog Tab 96 [ai a0,ai a1,ai a2] (Ajv r):=by
 refine A1 (by kernel_rfl) Tryd.func96 Ano (n:=28) (by kernel_rfl) (by simp) (tl:=[(0,ai a0),(1,ai a1),(2,ai a2)]) rfl ?_;unfold Zo;unfold Uf at h;refine Al ?_;refine Ab ?_;obtain ⟨g3,h⟩:=Am h;refine Aa 5 ?_;refine rsB 1 ?_;refine rs0 (ai (Int.tmod 1 a0)) (Sc (k:=.i64) (a:=1) (b:=a0) (by kernel_rfl) (by kernel_rfl) g3) ?_;refine rsB 1 ?_;refine Aq (tn_ ?_);refine wr_ ?_;refine Ar h (fun (u4:Int) S_=>S_=⟨Ao [(7,ai u4)],Aj (Ap []),2⟩) ?_ ?_
 ·intro v_ h;refine Ae ?_;refine Av h (fun t_ S_=>∃ (u0:Int),∃ (u1:Int),∃ (u2:Int),t_=(u0,u1,u2)∧S_=⟨Ao [(0,ai a0),(1,ai u0),(2,ai u1),(7,ai u2)],Aj (Ap []),2⟩) ⟨_,Ac [],⟨a1,a2,Int.tmod 1 a0,rfl,rfl⟩⟩ ?_;rintro n_ _ _ c_ ⟨u0,u1,u2,rfl,rfl⟩ h hn5
  (try dsimp only at h);unfold Uz at h;unfold Uv;refine Ab ?_;refine Al ?_;rcases Af h with ⟨q8,h⟩ | ⟨q8,h⟩
  ·have q8_:=of_decide_eq_true q8;refine Ah q8 ?_;refine Ai (tn_ ?_);refine wr_ ?_;refine Ab ?_;refine Ae ?_;refine Ar h (fun (u3:Int) S_=>S_=⟨Ao [(0,ai a0),(1,ai u0),(2,ai u1),(7,ai u3)],Aj (Ap []),2⟩) ?_ ?_
   ·intro v_ h;refine Ab ?_;refine Aa 7 ?_;refine rsB 1 ?_;refine rs0 (ai (Int.tmod u1 2)) (Sc (k:=.i64) (a:=u1) (b:=2) (by kernel_rfl) (by kernel_rfl) (by decide)) ?_;refine rsB 1 ?_;refine Aq (tn_ ?_);refine wr_ ?_;rcases Af h with ⟨q12,h⟩ | ⟨q12,h⟩
    ·refine Ah q12 ?_;obtain ⟨g13,h⟩:=Am h;refine Aa 13 ?_;refine rsB 4 ?_;refine rs0 (ai (Int.tmod (wI (u2*u0)) a0)) (Sc (k:=.i64) (a:=wI (u2*u0)) (b:=a0) (by kernel_rfl) (by kernel_rfl) g13) ?_;refine rsB 1 ?_;refine Aq (tn_ ?_);obtain rfl:=zj h;exact ⟨_,Ac [],rfl⟩
    refine Ag q12 ?_;refine Ai (tn_ ?_);obtain rfl:=zj h;exact ⟨_,Ac [],rfl⟩
   rintro u3 _ rfl h
   (try dsimp only at h);obtain ⟨g14,h⟩:=Am h;refine Aa 8 ?_;refine rsB 4 ?_;refine rs0 (ai (Int.tmod (wI (u0*u0)) a0)) (Sc (k:=.i64) (a:=wI (u0*u0)) (b:=a0) (by kernel_rfl) (by kernel_rfl) g14) ?_;refine rsB 1 ?_;refine Aq (bn_ (tn_ ?_));refine wr_ ?_;refine Aa 11 ?_;refine rsB 1 ?_;refine rs0 (ai (wI (Int.tdiv u1 2))) (A11 (k:=.i64) (a:=u1) (b:=2) (by kernel_rfl) (by kernel_rfl) (by decide)) ?_;refine rsB 1 ?_;refine Aq (tn_ ?_);obtain rfl:=zj h;exact ⟨(Int.tmod (wI (u0*u0)) a0,wI (Int.tdiv u1 2),u3),_,Ac [],⟨Int.tmod (wI (u0*u0)) a0,wI (Int.tdiv u1 2),u3,rfl,rfl⟩,hn5⟩
  have q8_:=of_decide_eq_false q8;refine Ag q8 ?_;refine Au (te_ (te_ (be_ (tn_ ?_))));obtain rfl:=zj h;have h:=hn5
  (try dsimp only at h);obtain rfl:=zj h;exact ⟨_,Ac [],rfl⟩
 rintro u4 _ rfl h
 (try dsimp only at h);refine Al ?_;refine An ?_;obtain rfl:=zj h;exact Bo [ai u4] (A2 rfl zl A5)
def Ah8:AC :=
 (.seq (rg [xo 2 (qm (ci 0))])
 (.seq (.seq (rg [xm 3 0])
 (.cond (tm 3)
  (.seq (rg [xo 2 (qm (ci 1))])
  .ret)
  .skip))
 (.seq (rg [xo 2 (qm (ci 0))])
 .ret)))
def Arz:List Res:=[.tmp 2]
theorem Aqi:At Tryd.prog Tryd.f97=some (Ah8,Arz):=by kernel_rfl
def Yu (a0:Bool):Option Int :=
 cond a0
 (some 1)
 (some 0)
def Aoa (r:Int):RV:=⟨false,[(false,[.sc (.int .i64 r)])]⟩
theorem Ap2 {a0:Bool} {r:Int} (h:Yu a0=some r):A0 Tryd.prog Tab 97 [.bool a0] (Aoa r):=by
 refine A1 (by kernel_rfl) Tryd.func97 Aqi (n:=4) (by kernel_rfl) (by simp) (tl:=[(0,.bool a0)]) rfl ?_;unfold Ah8;unfold Yu at h;refine Al ?_;refine Ab ?_;refine Al ?_;rcases Af h with ⟨q4,h⟩ | ⟨q4,h⟩
 ·refine Ah q4 ?_;refine Al ?_;refine An (tr_ ?_);obtain rfl:=zj h;exact Bo [ai 1] (A2 rfl zl A5)
 refine Ag q4 ?_;refine Ai (tn_ ?_);refine wr_ ?_;refine Al ?_;refine An ?_;obtain rfl:=zj h;exact Bo [ai 0] (A2 rfl zl A5)
def Vu:AC :=
 (.seq (rg [xo 4 (qm (ci 0))])
 (.seq (rg [xm 5 0,xm 6 1,xm 7 0,xo 8 (qb .sub (tm 7) (ci 2)),xm 9 0,xo 10 (qb .eql (tm 9) (ci 2)),xo 11 (qc 97 [tm 10] [[]]),xo 12 (qb .add (tm 8) (tm 11)),xo 13 (qc 96 [tm 5,tm 6,tm 12] [[],[],[]]),xm 4 13])
 .ret))
def Af8:List Res:=[.tmp 4]
theorem Ahm:At Tryd.prog Tryd.f95=some (Vu,Af8):=by kernel_rfl
def I4 (a0 a1:Int):Option Int :=
 Option.bind (Yu (a0==2)) fun y3 =>
Option.bind (Uf a0 a1 (wI (wI (a0 - 2)+y3))) fun y4 =>
some y4
def Adj (r:Int):RV:=⟨false,[(false,[.sc (.int .i64 r)])]⟩
theorem Ad4 {a0 a1 r:Int} (h:I4 a0 a1=some r):A0 Tryd.prog Tab 95 [ai a0,ai a1] (Adj r):=by
 refine A1 (by kernel_rfl) Tryd.func95 Ahm (n:=14) (by kernel_rfl) (by simp) (tl:=[(0,ai a0),(1,ai a1)]) rfl ?_;unfold Vu;unfold I4 at h;refine Al ?_;refine Ab ?_;obtain ⟨y3,h3,h⟩:=Ad h;obtain ⟨y4,h4,h⟩:=Ad h;refine Aa 12 ?_;refine rsB 6 ?_;refine zc (ai y3) [] [.bool (a0==2)] (Ap2 h3) ?_;refine rsB 1 ?_;refine zc (ai y4) [] [ai a0,ai a1,ai (wI (wI (a0 - 2)+y3))] (Aj4 h4) ?_;refine rsB 1 ?_;refine Aq (tn_ ?_);refine wr_ ?_;refine An ?_;obtain rfl:=zj h;exact Bo [ai y4] (A2 rfl zl A5)
def Pq:AC :=
 (.seq (rg [xs1 13 12 11])
 (.seq (.cond (tm 13)
  .skip
  (.exit 0))
 (.seq (.block 1 (.seq (rg [xm 14 12,xx 15 1 10 12,xl 16 15,xm 8 14,xm 9 16])
 (rg [xm 17 1,xm 18 8,xm 19 0,xm 20 1,xm 21 8,xx 22 1 20 21,xl 23 22,xm 24 2,xm 25 9,xo 26 (qb .mul (tm 24) (tm 25)),xo 27 (qb .add (tm 23) (tm 26)),xo 28 (qc 84 [tm 19,tm 27] [[],[]]),xx 29 1 17 18,xn (qs (tm 29) (tm 28))])))
 (rg [xa 30 12,xm 12 30]))))
def Uw:AC :=
 (.seq (rg [xm 10 3,xn1 11 10,xo 12 (qm (ci 0))])
 (.block 0 (.loop Pq)))
def Ad0:List Res:=[]
theorem Adv:At Tryd.prog Tryd.f67=some (Uw,Ad0):=by kernel_rfl
theorem Jz:Be Tryd.prog 67=true:=by kernel_rfl
def D2 (a3:List Int) (a0 a2:Int) (u0:Nat) (u1:List Int):Option (Ctl (Nat×List Int) (List Int)) :=
 cond (decide ((u0:Int)<(a3.length:Int)))
 (Option.bind (a3[u0]?) fun x9 =>
 Option.bind (u1[u0]?) fun x10 =>
 Option.bind (La a0 (wI (x10+wI (a2*x9)))) fun y11 =>
 og (u0+1<4611686018427387904) <|
 some (Ctl.next (u0+1,u1.set u0 y11)))
 (some (Ctl.out u1))
def Cn (a0:Int) (a1:List Int) (a2:Int) (a3:List Int):Option (List Int) :=
 Aw (fun s_:Nat×List Int=>D2 a3 a0 a2 s_.1 s_.2) 4611686018427387904 (0,a1)
theorem Jt {a0:Int} {a1:List Int} {a2:Int} {a3 r:List Int} (h:Cn a0 a1 a2 a3=some r) {n_a1:Nat} (hn_a1:n_a1=a1.length):Kd Tryd.prog Tab 67 [ai a0,oI 0 0 n_a1,ai a2,tI a3] [(oi 0 0,.arr 3 .int a1)] (.tup []) [(oi 0 0,.arr 3 .int r)]:=by
 refine Ga (by kernel_rfl) Tryd.func67 Adv (n:=31) (by kernel_rfl) (by simp) (tl:=[(0,ai a0),(1,oI 0 0 n_a1),(2,ai a2),(3,tI a3)]) rfl (by kernel_rfl) ⟨trivial,trivial⟩ ⟨trivial,trivial⟩ ?_;unfold Uw;unfold Cn at h;refine Al ?_;refine Ae ?_;refine Av h (fun t_ S_=>∃ (u1:Nat),∃ (u0:List Int),t_=(u1,u0)∧S_=⟨Ao [(0,ai a0),(1,oI 0 0 u0.length),(2,ai a2),(10,tI a3),(11,an a3.length),(12,an u1)],Aj (Ap [(oi 0 0,.arr 3 .int u0)]),2⟩) ⟨_,(A8 1 (oI 0 0 n_a1) (oI 0 0 a1.length) (by kernel_rfl) (congrArg (fun z_=>((oI 0 0 z_):AV)) (hn_a1:n_a1=a1.length))).trans (Ac []),⟨0,a1,rfl,rfl⟩⟩ ?_;rintro n_ _ _ c_ ⟨u1,u0,rfl,rfl⟩ h hn3
 (try dsimp only at h);unfold D2 at h;unfold Pq;refine Al ?_;refine Ab ?_;rcases Af h with ⟨q6,h⟩ | ⟨q6,h⟩
 ·have q6_:=of_decide_eq_true q6;refine Ah q6 ?_;refine Ai (tn_ ?_);refine wr_ ?_;refine Ab ?_;refine Ae ?_;refine Ab ?_;obtain ⟨x9,e9,h⟩:=Ad h;refine Aa 8 ?_;refine rsB 1 ?_;refine zI .int e9 ?_;refine rsB 3 ?_;refine Aq (tn_ ?_);refine wr_ ?_;obtain ⟨x10,e10,h⟩:=Ad h;obtain ⟨y11,h11,h⟩:=Ad h;refine Aa 22 ?_;refine rsB 5 ?_;refine zO (oi 0 0) .int u0.length (As e10) ?_;refine zE (oi 0 0) e10 ?_;refine rsB 4 ?_;refine zc (ai y11) [] [ai a0,ai (wI (x10+wI (a2*x9)))] (W1 h11) ?_;refine zO (oi 0 0) .int u0.length (As e10) ?_;refine zS (oi 0 0) (y11) e10 ?_;refine Aq (bn_ (tn_ ?_));refine wr_ ?_;obtain ⟨g12,h⟩:=Am h;refine Aa 24 ?_;refine zA g12 ?_;refine rsB 1 ?_;refine Aq (tn_ ?_);obtain rfl:=zj h;exact ⟨(u1+1,u0.set u1 y11),_,(A8 1 (oI 0 0 u0.length) (oI 0 0 ((u0.set u1 y11).length)) (by kernel_rfl) (congrArg (fun z_=>((oI 0 0 z_):AV)) (((rfl:u0.length=u0.length).trans List.length_set.symm):u0.length=(u0.set u1 y11).length))).trans (Ac []),⟨u1+1,u0.set u1 y11,rfl,rfl⟩,hn3⟩
 have q6_:=of_decide_eq_false q6;refine Ag q6 ?_;refine Au (te_ (te_ (be_ ?_)));obtain rfl:=zj h;have h:=hn3
 (try dsimp only at h);obtain rfl:=zj h;exact Oi [] (Ac (tl:=[]) (g:=2) [])
def Tf:AC :=
 (.seq (rg [xs1 12 11 10])
 (.seq (.cond (tm 12)
  .skip
  (.exit 0))
 (.seq (.block 1 (.seq (rg [xx 13 1 9 11,xl 14 13,xm 5 14])
 (rg [xm 15 3,xm 16 5,xo 17 (qc 66 [tm 16] [[some .int]]),xo 18 (.mkV 23 sI 1 [tm 17]),xo 19 (.appV 23 sI 24 (tm 15) (tm 18)),xm 3 19])))
 (rg [xa 20 11,xm 11 20]))))
def X6:AC :=
 (.seq (rg [xo 2 (qm (.cst .nils))])
 (.seq (rg [xm 6 0,xn1 7 6,xo 8 (.makeV 23 sI 24 [.nils] (ci 0) (tm 7)),xm 3 8])
 (.seq (.seq (rg [xm 9 0,xn1 10 9,xo 11 (qm (ci 0))])
 (.block 0 (.loop Tf)))
 (.seq (rg [xm 21 3,xm 2 21])
 .ret))))
def Aj3:List Res:=[.tmp 2]
theorem Ajy:At Tryd.prog Tryd.f59=some (X6,Aj3):=by kernel_rfl
theorem Hp:Be Tryd.prog 59=true:=by kernel_rfl
def Fk (a0:LL) (u0:Nat) (u1:LL):Option (Ctl (Nat×LL) (LL)) :=
 cond (decide ((u0:Int)<(a0.length:Int)))
 (Option.bind (a0[u0]?) fun x13 =>
 Option.bind (Gf x13) fun y14 =>
 og (u1.length+1<=1073741824∧(u1.length+1)*24<=140737488355328) <|
 og (u0+1<4611686018427387904) <|
 some (Ctl.next (u0+1,u1++[y14])))
 (some (Ctl.out u1))
def Dc (a0:LL):Option (LL) :=
 og (0<=(0:Int)∧(0:Int)<=(a0.length:Int)∧(a0.length:Int)<=1073741824∧(24:Int)*(a0.length:Int)<=140737488355328) <|
Option.bind (Aw (fun s_:Nat×LL=>Fk a0 s_.1 s_.2) 4611686018427387904 (0,List.replicate 0 ([]:List Int))) fun u0 =>
some u0
theorem Hn {a0 r:LL} (h:Dc a0=some r):Kd Tryd.prog Tab 59 [tS a0] [] (oS 0 1 r.length) [(oi 0 1,.mat 23 (oi 1 1) .int r),(oi 1 1,.pool 3 .int r)]:=by
 refine Ga (by kernel_rfl) Tryd.func59 Ajy (n:=22) (by kernel_rfl) (by simp) (tl:=[(0,tS a0)]) rfl (by kernel_rfl) trivial ⟨⟨3,.tail _ (.head _)⟩,⟨trivial,trivial⟩⟩ ?_;unfold X6;unfold Dc at h;refine Al ?_;refine Ab ?_;obtain ⟨g4,h⟩:=Am h;refine Aa 6 ?_;refine rsB 2 ?_;refine Amx (oS 128 4 0) (oi 128 4) 23 3 .int (List.replicate 0 ([]:List Int)) trivial (Aei (j:=0) (k:=.i64) (k':=.i64) (m:=0) (c:=(a0.length:Int)) 3 (by kernel_rfl) (by kernel_rfl) g4 (by kernel_rfl) rfl) (by kernel_rfl) (by rw [List.length_replicate]) (by kernel_rfl) ?_;refine rsB 1 ?_;refine Aq (tn_ ?_);refine wr_ ?_;refine Ar h (fun (u1:LL) S_=>S_=⟨Ao [(3,oS 0 1 u1.length)],Aj (Ap [(oi 0 1,.mat 23 (oi 1 1) .int u1),(oi 1 1,.pool 3 .int u1)]),2⟩) ?_ ?_
 ·intro v_ h;refine Al ?_;refine Ae ?_;refine Av h (fun t_ S_=>∃ (u2:Nat),∃ (u0:LL),t_=(u2,u0)∧S_=⟨Ao [(3,oS 0 1 u0.length),(9,tS a0),(10,an a0.length),(11,an u2)],Aj (Ap [(oi 0 1,.mat 23 (oi 1 1) .int u0),(oi 1 1,.pool 3 .int u0)]),2⟩) ⟨_,(A8 3 (oS 128 4 0) (oS 128 4 ((List.replicate 0 ([]:List Int)).length)) (by kernel_rfl) (congrArg (fun z_=>((oS 128 4 z_):AV)) (List.length_replicate.symm:0=(List.replicate 0 ([]:List Int)).length))).trans (Ac [(oi 0 1,oi 128 4),(oi 1 1,oi 128 4)]),⟨0,List.replicate 0 ([]:List Int),rfl,rfl⟩⟩ ?_;rintro n_ _ _ c_ ⟨u2,u0,rfl,rfl⟩ h hn7
  (try dsimp only at h);unfold Fk at h;unfold Tf;refine Al ?_;refine Ab ?_;rcases Af h with ⟨q10,h⟩ | ⟨q10,h⟩
  ·have q10_:=of_decide_eq_true q10;refine Ah q10 ?_;refine Ai (tn_ ?_);refine wr_ ?_;refine Ab ?_;refine Ae ?_;refine Ab ?_;obtain ⟨x13,e13,h⟩:=Ad h;refine Aa 6 ?_;refine zI sI e13 ?_;refine rsB 2 ?_;refine Aq (tn_ ?_);refine wr_ ?_;obtain ⟨y14,h14,h⟩:=Ad h;obtain ⟨g15,h⟩:=Am h;refine Aa 12 ?_;refine rsB 2 ?_;refine zc (oI 272 8 y14.length) [nI 272 8 y14] [tI x13] (M6 h14) ?_;refine Zs (oS 18 9 1) (oi 18 9) (.vec 23 1 1 ([oI 272 8 y14.length])) trivial (G1 (by kernel_rfl)) ?_;refine rs2 (oS 0 10 (u0.length+1)) (oi 0 1) (oi 0 10) (.vec 23 1 (u0.length+1) (hdL (oi 1 1) .int u0++[oI 272 8 y14.length])) (Dd (u:=.int) (t':=sI) (t2:=sI) (o:=oi 0 1) (q:=oi 18 9) (e2:=23) (p:=oi 1 1) (xss:=u0) (cs:=[oI 272 8 y14.length]) (len:=u0.length) (by kernel_rfl) (by kernel_rfl) rfl (by kernel_rfl) (by kernel_rfl) rfl g15) ?_;refine rsB 1 ?_;refine Aq (bn_ (tn_ ?_));refine ⟨_,B8 (e1:=23) (e:=3) (u:=.int) (n:=u0.length+1) (len:=y14.length) (row:=y14) (ys:=y14) (xss:=u0) 9000 (oi 0 10) (oi 1 1) (oi 272 8) (by kernel_rfl) (by kernel_rfl) rfl (by kernel_rfl) (by kernel_rfl) (H2 rfl) (H1 rfl) (by kernel_rfl) (by kernel_rfl) (by kernel_rfl),?_⟩;obtain ⟨g16,h⟩:=Am h;refine Aa 15 ?_;refine zA g16 ?_;refine rsB 1 ?_;refine Aq (tn_ ?_);obtain rfl:=zj h;exact ⟨(u2+1,u0++[y14]),_,(A8 3 (oS 0 10 (u0.length+1)) (oS 0 10 ((u0++[y14]).length)) (by kernel_rfl) (congrArg (fun z_=>((oS 0 10 z_):AV)) ((by simp):u0.length+1=(u0++[y14]).length))).trans (Ac [(oi 0 1,oi 0 10),(oi 1 1,oi 9000 12)]),⟨u2+1,u0++[y14],rfl,rfl⟩,hn7⟩
  have q10_:=of_decide_eq_false q10;refine Ag q10 ?_;refine Au (te_ (te_ (be_ (tn_ ?_))));obtain rfl:=zj h;have h:=hn7
  (try dsimp only at h);obtain rfl:=zj h;exact ⟨_,Ac [],rfl⟩
 rintro u1 _ rfl h
 (try dsimp only at h);refine Al ?_;refine An ?_;obtain rfl:=zj h;exact Oi [oS 0 1 u1.length] (Ac (tl:=[(2,oS 0 1 u1.length)]) (g:=2) [])
def Ih:AC :=
 (.seq (rg [xs1 44 43 42])
   (.seq (.cond (tm 44)
    .skip
    (.exit 1))
   (.seq (.block 2 (.seq (rg [xm 45 43,xx 46 1 41 43,xl 47 46,xm 7 45,xm 8 47])
   (.region [xm 48 2,xf 49 1 3,xl 50 49,xx 51 1 48 50,xl 52 51,xm 53 7,xm 54 8,xm 55 6,xo 56 (qb .mul (tm 54) (tm 55)),xm 57 1,xo 58 (qb .rem (tm 56) (tm 57)),xx 59 1 52 53,xn (qs (tm 59) (tm 58))] true [])))
   (rg [xa 60 43,xm 43 60]))))
def J3:AC :=
 (.seq (rg [xo 3 (.i (.box 102 (tm 0)))])
 (.seq (rg [xf 9 0 3,xl 10 9])
 (.block 0 (.seq (rg [xo 12 (qb .eql (tm 10) (ci 0)),xm 11 12])
 (.cond (tm 11)
  (.region [xm 13 2,xf 14 1 3,xl 15 14,xm 16 2,xf 17 2 3,xl 18 17,xm 19 2,xf 20 2 3,xl 21 20,xx 22 1 19 21,xl 23 22,xm 24 2,xf 25 1 3,xl 26 25,xx 27 1 24 26,xl 28 27,xx 29 1 13 15,xn (qs (tm 29) (tm 23)),xx 30 1 16 18,xn (qs (tm 30) (tm 28))] true [(5,17)])
  (.seq (rg [xo 32 (qb .eql (tm 10) (ci 1)),xm 31 32])
  (.cond (tm 31)
   (.seq (rg [xm 33 1,xf 34 3 3,xl 35 34,xo 36 (qc 95 [tm 33,tm 35] [[],[]]),xm 6 36])
   (.seq (rg [xm 37 2,xf 38 1 3,xl 39 38,xx 40 1 37 39,xl 41 40,xn1 42 41,xo 43 (qm (ci 0))])
   (.block 1 (.loop Ih))))
   (.seq (rg [xo 62 (qb .eql (tm 10) (ci 2)),xm 61 62])
   (.cond (tm 61)
    (.region [xm 63 1,xm 64 2,xf 65 1 3,xl 66 65,xx 67 1 64 66,xl 68 67,xf 69 3 3,xl 70 69,xo 71 (.i (.neg (tm 70))),xm 72 2,xf 73 2 3,xl 74 73,xx 75 1 72 74,xl 76 75,xo 77 (qc 67 [tm 63,tm 68,tm 71,tm 76] [[],[some .int],[],[some .int]])] true [])
    .skip)))))))))
def Qo:List Res:=[]
theorem Qp:At Tryd.prog Tryd.f94=some (J3,Qo):=by kernel_rfl
theorem Jn:Be Tryd.prog 94=true:=by kernel_rfl
def C0 (x13:List Int) (u2 a1 y11:Int) (u0:Nat) (u1:LL):Option (Ctl (Nat×LL) (LL)) :=
 cond (decide ((u0:Int)<(x13.length:Int)))
 (Option.bind (E2 u1 u2) fun x20 =>
 og (0<=(u0:Int)∧u0<x13.length) <|
 Option.bind (x20[u0]?) fun x22 =>
 og (a1≠0) <|
 og (u0+1<4611686018427387904) <|
 some (Ctl.next (u0+1,u1.set u2.toNat (x20.set u0 (Int.tmod (wI (x22*y11)) a1)))))
 (some (Ctl.out u1))
def Bl (u2 u0:Int) (u1 u3 a1:Int) (a2:LL):Option (LL) :=
 cond (u2==0)
 (Option.bind (E2 a2 u1) fun x6 =>
 Option.bind (E2 a2 u0) fun x7 =>
 some ((a2.set u0.toNat x6).set u1.toNat x7))
 (cond (u2==1)
  (Option.bind (I4 a1 u3) fun y11 =>
  Option.bind (E2 a2 u0) fun x13 =>
  Aw (fun s_:Nat×LL=>C0 x13 u0 a1 y11 s_.1 s_.2) 4611686018427387904 (0,a2))
  (cond (u2==2)
   (Option.bind (E2 a2 u0) fun x27 =>
   Option.bind (E2 a2 u1) fun x28 =>
   og (u0.toNat≠u1.toNat) <|
   Option.bind (Cn a1 x27 (wI (0 - u3)) x28) fun y30 =>
   og (y30.length=x27.length) <|
   some (a2.set u0.toNat y30))
   (some a2)))
theorem Jg {u5 u0:Int} {u1 u4 a1:Int} {a2 r:LL} (h:Bl u5 u0 u1 u4 a1 a2=some r) {n_a2:Nat} (hn_a2:n_a2=a2.length):Kd Tryd.prog Tab 94 [.agg [ai u5,ai u0,ai u1,ai u4],ai a1,oS 0 0 n_a2] [(oi 0 0,.mat 23 (oi 1 0) .int a2),(oi 1 0,.pool 3 .int a2)] (.tup []) [(oi 0 0,.mat 23 (oi 0 1) .int r),(oi 0 1,.pool 3 .int r)]:=by
 refine Ga (by kernel_rfl) Tryd.func94 Qp (n:=78) (by kernel_rfl) (by simp) (tl:=[(0,.agg [ai u5,ai u0,ai u1,ai u4]),(1,ai a1),(2,oS 0 0 n_a2)]) rfl (by kernel_rfl) ⟨⟨3,.tail _ (.head _)⟩,⟨trivial,trivial⟩⟩ ⟨⟨3,.tail _ (.head _)⟩,⟨trivial,trivial⟩⟩ ?_;unfold J3;unfold Bl at h;refine Al ?_;refine Al ?_;refine Ae ?_;refine Al ?_;rcases Af h with ⟨q5,h⟩ | ⟨q5,h⟩
 ·refine Ah q5 ?_;obtain ⟨x6,f6,h⟩:=Ad h;obtain ⟨p6,b6,e6⟩:=Ba f6;obtain ⟨x7,f7,h⟩:=Ad h;obtain ⟨p7,b7,e7⟩:=Ba f7;refine Ax 26 ?_;refine dz0 (oS 0 0 n_a2) ?_;refine dz0 (.box (oi 3 1) 1) ?_;refine dzl (ai u0) ?_;refine dz0 (oS 0 0 n_a2) ?_;refine dz0 (.box (oi 3 1) 2) ?_;refine dzl (ai u1) ?_;refine dz0 (oS 0 0 n_a2) ?_;refine dz0 (.box (oi 3 1) 2) ?_;refine dzl (ai u1) ?_;refine ds0 (.elt (oi 0 0) u1.toNat 0) (zo (t:=sI) (o:=oi 0 0) (len:=n_a2) (k:=.i64) (m:=u1) p6 (Nat.lt_of_lt_of_le (As e6) (Nat.le_of_eq (Eq.symm hn_a2)))) ?_;refine dsl (.own (kid (oi 1 0) u1.toNat) .int 0 x6.length) (Gu (o:=oi 0 0) (p:=oi 1 0) (e1:=23) (u:=.int) (xss:=a2) (row:=x6) (j:=u1.toNat) (by kernel_rfl) (by kernel_rfl) e6) ?_;refine dz0 (oS 0 0 n_a2) ?_;refine dz0 (.box (oi 3 1) 1) ?_;refine dzl (ai u0) ?_;refine ds0 (.elt (oi 0 0) u0.toNat 0) (zo (t:=sI) (o:=oi 0 0) (len:=n_a2) (k:=.i64) (m:=u0) p7 (Nat.lt_of_lt_of_le (As e7) (Nat.le_of_eq (Eq.symm hn_a2)))) ?_;refine dsl (.own (kid (oi 1 0) u0.toNat) .int 0 x7.length) (Gu (o:=oi 0 0) (p:=oi 1 0) (e1:=23) (u:=.int) (xss:=a2) (row:=x7) (j:=u0.toNat) (by kernel_rfl) (by kernel_rfl) e7) ?_;refine ds0 (.elt (oi 0 0) u0.toNat 0) (zo (t:=sI) (o:=oi 0 0) (len:=n_a2) (k:=.i64) (m:=u0) p7 (Nat.lt_of_lt_of_le (As e7) (Nat.le_of_eq (Eq.symm hn_a2)))) ?_;refine K7 (oi 0 0) (oi 0 0) (.vec 23 1 n_a2 ((hdL (oi 1 0) .int a2).set u0.toNat (.own (kid (oi 1 0) u1.toNat) .int 0 x6.length))) (Ae5 (o:=oi 0 0) (e1:=23) (m:=n_a2) (cs:=hdL (oi 1 0) .int a2) (v:=.own (kid (oi 1 0) u1.toNat) .int 0 x6.length) (j:=u0.toNat) (by kernel_rfl) (A18 (by kernel_rfl) hn_a2) (by kernel_rfl) rfl (by rw [Df]; exact As e7)) ?_;refine ds0 (.elt (oi 0 0) u1.toNat 0) (zo (t:=sI) (o:=oi 0 0) (len:=n_a2) (k:=.i64) (m:=u1) p6 (Nat.lt_of_lt_of_le (As e6) (Nat.le_of_eq (Eq.symm hn_a2)))) ?_;refine K7 (oi 0 0) (oi 0 0) (.vec 23 1 n_a2 (((hdL (oi 1 0) .int a2).set u0.toNat (.own (kid (oi 1 0) u1.toNat) .int 0 x6.length)).set u1.toNat (.own (kid (oi 1 0) u0.toNat) .int 0 x7.length))) (Ae5 (o:=oi 0 0) (e1:=23) (m:=n_a2) (cs:=(hdL (oi 1 0) .int a2).set u0.toNat (.own (kid (oi 1 0) u1.toNat) .int 0 x6.length)) (v:=.own (kid (oi 1 0) u0.toNat) .int 0 x7.length) (j:=u1.toNat) (by kernel_rfl) (by kernel_rfl) (by kernel_rfl) rfl (by rw [List.length_set,Df]; exact As e6)) ?_;refine F5 (Bc (by kernel_rfl)) (bn_ ?_);obtain rfl:=zj h;exact Oi [] ((Afv (e1:=23) (e:=3) (u:=.int) (xss:=a2) (i:=u0.toNat) (j:=u1.toNat) (n:=n_a2) (li:=x7.length) (lj:=x6.length) (ri:=x7) (rj:=x6) 9000 (oi 0 0) (oi 1 0) (by kernel_rfl) (by kernel_rfl) hn_a2 (by kernel_rfl) e7 e6 rfl rfl (by kernel_rfl) (by kernel_rfl)).trans (Ac (tl:=[]) (g:=2) [(oi 0 1,oi 9000 26)]))
 refine Ag q5 ?_;refine Al ?_;rcases Af h with ⟨q9,h⟩ | ⟨q9,h⟩
 ·refine Ah q9 ?_;refine Ab ?_;obtain ⟨y11,h11,h⟩:=Ad h;refine Aa 13 ?_;refine rsB 3 ?_;refine zc (ai y11) [] [ai a1,ai u4] (Ad4 h11) ?_;refine rsB 1 ?_;refine Aq (tn_ ?_);refine wr_ ?_;refine Ab ?_;obtain ⟨x13,f13,h⟩:=Ad h;obtain ⟨p13,b13,e13⟩:=Ba f13;refine Aa 20 ?_;refine rsB 3 ?_;refine rs0 (.elt (oi 0 0) u0.toNat 0) (zo (t:=sI) (o:=oi 0 0) (len:=n_a2) (k:=.i64) (m:=u0) p13 (Nat.lt_of_lt_of_le (As e13) (Nat.le_of_eq (Eq.symm hn_a2)))) ?_;refine rsl (.own (kid (oi 1 0) u0.toNat) .int 0 x13.length) (Gu (o:=oi 0 0) (p:=oi 1 0) (e1:=23) (u:=.int) (xss:=a2) (row:=x13) (j:=u0.toNat) (by kernel_rfl) (by kernel_rfl) e13) ?_;refine rsB 2 ?_;refine Aq (tn_ ?_);refine wr_ ?_;refine Ae ?_;refine Av h (fun t_ S_=>∃ (u2:Nat),∃ (u3:LL),t_=(u2,u3)∧S_=⟨Ao [(1,ai a1),(2,oS 0 0 u3.length),(3,.box (oi 1 1) 0),(6,ai y11),(41,.own (kid (oi 0 1) u0.toNat) .int 0 x13.length),(42,an x13.length),(43,an u2)],Aj (Ap [(oi 0 0,.mat 23 (oi 0 1) .int u3),(oi 0 1,.pool 3 .int u3),(oi 1 1,.cells 102 [ai u5,ai u0,ai u1,ai u4])]),2⟩) ⟨_,(A8 2 (oS 0 0 n_a2) (oS 0 0 a2.length) (by kernel_rfl) (congrArg (fun z_=>((oS 0 0 z_):AV)) (hn_a2:n_a2=a2.length))).trans (Ac [(oi 0 1,oi 1 0),(oi 1 1,oi 3 1)]),⟨0,a2,rfl,rfl⟩⟩ ?_;rintro n_ _ _ c_ ⟨u2,u3,rfl,rfl⟩ h hn14
  (try dsimp only at h);unfold C0 at h;unfold Ih;refine Al ?_;refine Ab ?_;rcases Af h with ⟨q17,h⟩ | ⟨q17,h⟩
  ·have q17_:=of_decide_eq_true q17;refine Ah q17 ?_;refine Ai (tn_ ?_);refine wr_ ?_;refine Ab ?_;refine Ae ?_;refine Ab ?_;obtain ⟨x20,f20,h⟩:=Ad h;obtain ⟨p20,b20,e20⟩:=Ba f20;obtain ⟨g21,h⟩:=Am h;obtain ⟨x22,e22,h⟩:=Ad h;refine Aa 8 ?_;refine rsB 1 ?_;refine rs0 (.elt (kid (oi 0 1) u0.toNat) u2 0) (A1t (t:=.int) (o:=kid (oi 0 1) u0.toNat) (off:=0) (len:=x13.length) (k:=.i64) (m:=(u2:Int)) (by kernel_rfl) (by kernel_rfl) rfl g21.1 (Nat.zero_add _) g21.2) ?_;refine rsl (ai x22) (Mu (i:=kid (oi 0 1) u0.toNat) (j:=u2) (k:=0) (e:=3) (t:=.int) (xs:=x20) (by kernel_rfl) (Bw (by kernel_rfl) e20) e22 (by kernel_rfl)) ?_;refine rsB 2 ?_;refine Aq (tn_ ?_);refine wr_ ?_;obtain ⟨g23,h⟩:=Am h;refine Ax 21 ?_;refine dz0 (oS 0 0 u3.length) ?_;refine dz0 (.box (oi 1 1) 1) ?_;refine dzl (ai u0) ?_;refine ds0 (.elt (oi 0 0) u0.toNat 0) (zo (t:=sI) (o:=oi 0 0) (len:=u3.length) (k:=.i64) (m:=u0) p20 (As e20)) ?_;refine dsl (.own (kid (oi 0 1) u0.toNat) .int 0 x20.length) (Gu (o:=oi 0 0) (p:=oi 0 1) (e1:=23) (u:=.int) (xss:=u3) (row:=x20) (j:=u0.toNat) (by kernel_rfl) (by kernel_rfl) e20) ?_;refine dz0 (an u2) ?_;refine dz0 (ai x22) ?_;refine dz0 (ai y11) ?_;refine dz0 (ai (wI (x22*y11))) ?_;refine dz0 (ai a1) ?_;refine ds0 (ai (Int.tmod (wI (x22*y11)) a1)) (Sc (k:=.i64) (a:=wI (x22*y11)) (b:=a1) (by kernel_rfl) (by kernel_rfl) g23) ?_;refine ds0 (.elt (kid (oi 0 1) u0.toNat) u2 0) (zo (t:=.int) (o:=kid (oi 0 1) u0.toNat) (len:=x20.length) (k:=.i64) (m:=(u2:Int)) (Dp _) (As e22)) ?_;refine K7 (kid (oi 0 1) u0.toNat) (kid (oi 0 1) u0.toNat) (.arr 3 .int (x20.set u2 (Int.tmod (wI (x22*y11)) a1))) (Zm (i:=kid (oi 0 1) u0.toNat) (j:=u2) (k:=0) (e:=3) (t:=.int) (xs:=x20) (cs:=[ai (Int.tmod (wI (x22*y11)) a1)]) (x1:=Int.tmod (wI (x22*y11)) a1) (by kernel_rfl) (Ahx.trans (Bw (by kernel_rfl) e20)) e22 (by kernel_rfl) (by kernel_rfl)) ?_;refine Atf (Amc (o:=oi 0 0) (p:=oi 0 1) (e1:=23) (e:=3) (u:=.int) (xss:=u3) (k:=u0.toNat) (row:=x20) (row':=x20.set u2 (Int.tmod (wI (x22*y11)) a1)) (by kernel_rfl) rfl (by kernel_rfl) e20 List.length_set) ?_;refine F5 (Bc (by kernel_rfl)) (bn_ (tn_ ?_));refine wr_ ?_;obtain ⟨g24,h⟩:=Am h;refine Aa 23 ?_;refine zA g24 ?_;refine rsB 1 ?_;refine Aq (tn_ ?_);obtain rfl:=zj h;exact ⟨(u2+1,u3.set u0.toNat (x20.set u2 (Int.tmod (wI (x22*y11)) a1))),_,(A8 2 (oS 0 0 u3.length) (oS 0 0 ((u3.set u0.toNat (x20.set u2 (Int.tmod (wI (x22*y11)) a1))).length)) (by kernel_rfl) (congrArg (fun z_=>((oS 0 0 z_):AV)) ((Eq.trans (b:=u3.length) rfl List.length_set.symm):u3.length=(u3.set u0.toNat (x20.set u2 (Int.tmod (wI (x22*y11)) a1))).length))).trans (Ac []),⟨u2+1,u3.set u0.toNat (x20.set u2 (Int.tmod (wI (x22*y11)) a1)),rfl,rfl⟩,hn14⟩
  have q17_:=of_decide_eq_false q17;refine Ag q17 ?_;refine Au (te_ (te_ (be_ (bn_ ?_))));obtain rfl:=zj h;have h:=hn14
  (try dsimp only at h);obtain rfl:=zj h;exact Oi [] (Ac (tl:=[]) (g:=2) [])
 refine Ag q9 ?_;refine Al ?_;rcases Af h with ⟨q26,h⟩ | ⟨q26,h⟩
 ·refine Ah q26 ?_;obtain ⟨x27,f27,h⟩:=Ad h;obtain ⟨p27,b27,e27⟩:=Ba f27;obtain ⟨x28,f28,h⟩:=Ad h;obtain ⟨p28,b28,e28⟩:=Ba f28;obtain ⟨g29,h⟩:=Am h;obtain ⟨y30,h30,h⟩:=Ad h;obtain ⟨g31,h⟩:=Am h;refine Ax 25 ?_;refine dz0 (ai a1) ?_;refine dz0 (oS 0 0 n_a2) ?_;refine dz0 (.box (oi 3 1) 1) ?_;refine dzl (ai u0) ?_;refine ds0 (.elt (oi 0 0) u0.toNat 0) (zo (t:=sI) (o:=oi 0 0) (len:=n_a2) (k:=.i64) (m:=u0) p27 (Nat.lt_of_lt_of_le (As e27) (Nat.le_of_eq (Eq.symm hn_a2)))) ?_;refine dsl (.own (kid (oi 1 0) u0.toNat) .int 0 x27.length) (Gu (o:=oi 0 0) (p:=oi 1 0) (e1:=23) (u:=.int) (xss:=a2) (row:=x27) (j:=u0.toNat) (by kernel_rfl) (by kernel_rfl) e27) ?_;refine dz0 (.box (oi 3 1) 3) ?_;refine dzl (ai u4) ?_;refine dz0 (ai (wI (0 - u4))) ?_;refine dz0 (oS 0 0 n_a2) ?_;refine dz0 (.box (oi 3 1) 2) ?_;refine dzl (ai u1) ?_;refine ds0 (.elt (oi 0 0) u1.toNat 0) (zo (t:=sI) (o:=oi 0 0) (len:=n_a2) (k:=.i64) (m:=u1) p28 (Nat.lt_of_lt_of_le (As e28) (Nat.le_of_eq (Eq.symm hn_a2)))) ?_;refine dsl (.own (kid (oi 1 0) u1.toNat) .int 0 x28.length) (Gu (o:=oi 0 0) (p:=oi 1 0) (e1:=23) (u:=.int) (xss:=a2) (row:=x28) (j:=u1.toNat) (by kernel_rfl) (by kernel_rfl) e28) ?_;refine N6 (.tup []) [(kid (oi 1 0) u0.toNat,some (.arr 3 .int y30)),(kid (oi 1 0) u0.toNat,none)] [(oi 0 0,kid (oi 1 0) u0.toNat)] [ai a1,.own (kid (oi 1 0) u0.toNat) .int 0 x27.length,ai (wI (0 - u4)),.own (kid (oi 1 0) u1.toNat) .int 0 x28.length] (caps:=[]) trivial (Jt h30 rfl) Jz ⟨Atv (by kernel_rfl) e27,trivial⟩ (.cons (.ren (by kernel_rfl)) (.cons (.ren (by kernel_rfl)) (.cons (.ren (by kernel_rfl)) (.cons (.gnd (by kernel_rfl) (Ca (e:=3) (u:=.int) (xs:=x28) ((Aye (L:=[kid (oi 1 0) u0.toNat]) (by kernel_rfl) ⟨A03 g29,trivial⟩).trans ((O2 (Aqk (t:=.int) (off:=0) (len:=x28.length) 3 rfl (by kernel_rfl))).trans (Bw (by kernel_rfl) e28))) rfl)) .nil)))) (Bj (by kernel_rfl) (by kernel_rfl) ⟨.arg (by simp [AV.nmsL,AV.nms,B1]),trivial⟩) (A0y (Aqk (t:=.int) (off:=0) (len:=x27.length) 1 rfl (by kernel_rfl)) A0o) ?_;refine Atf (Amc (o:=oi 0 0) (p:=oi 1 0) (e1:=23) (e:=3) (u:=.int) (xss:=a2) (k:=u0.toNat) (row:=x27) (row':=y30) (by kernel_rfl) rfl (by kernel_rfl) e27 g31) ?_;refine F5 (Bc (by kernel_rfl)) (bn_ ?_);obtain rfl:=zj h;exact Oi [] (Ac (tl:=[]) (g:=2) [(oi 0 1,oi 1 0)])
 refine Ag q26 ?_;refine Ai (bn_ ?_);obtain rfl:=zj h;exact Oi [] (Ac (tl:=[]) (g:=2) [(oi 0 1,oi 1 0)])
def Qg:AC :=
 (.seq (rg [xo 4 (.i (.box 102 (tm 0)))])
 (.seq (.seq (rg [xo 5 (.i (.ld false 4 (tm 4))),xf 6 1 4,xl 7 6,xf 8 1 4,xl 9 8,xo 10 (.build [.int .i64 0,.int .i64 0,.int .i64 0,.int .i64 0] [(0,1,ci 0),(1,1,tm 7),(2,1,tm 9)]),xo 11 (.i (.cmp false 7 (tm 5) (tm 10)))])
 (.cond (tm 11)
  .ret
  .skip))
 (.seq (rg [xo 12 (.i (.ld false 4 (tm 4))),xl 13 1,xl 14 2,xo 15 (qc 94 [tm 12,tm 13,tm 14] [[none,none,none,none],[],[some sI]])])
 (rg [xo 16 (.i (.ld false 4 (tm 4))),xl 17 1,xl 18 3,xo 19 (qc 94 [tm 16,tm 17,tm 18] [[none,none,none,none],[],[some sI]])]))))
def Yn:List Res:=[]
theorem Ym:At Tryd.prog Tryd.f93=some (Qg,Yn):=by kernel_rfl
theorem J6:Be Tryd.prog 93=true:=by kernel_rfl
def Bx (u1 u0:Int) (u2 u3 u6:Int) (u4 u5:LL):Option (LL×LL) :=
 cond ([u1,u0,u2,u3]==[0,u0,u0,0])
 (some (u4,u5))
 (Option.bind (Bl u1 u0 u2 u3 u6 u4) fun y7 =>
 og (y7.length=u4.length) <|
 Option.bind (Bl u1 u0 u2 u3 u6 u5) fun y9 =>
 og (y9.length=u5.length) <|
 some (y7,y9))
theorem J8 {u2 u3:Int} {u4 u5 u6:Int} {u0 u1:LL} {r:LL×LL} (h:Bx u2 u3 u4 u5 u6 u0 u1=some r):Kd Tryd.prog Tab 93 [.agg [ai u2,ai u3,ai u4,ai u5],.box (oi 0 0) 0,.box (oi 1 0) 0,.box (oi 4 0) 0] [(oi 0 0,.cells 3 [ai u6]),(oi 1 0,.cells 37 [oS 2 0 u0.length]),(oi 2 0,.mat 23 (oi 3 0) .int u0),(oi 3 0,.pool 3 .int u0),(oi 4 0,.cells 37 [oS 5 0 u1.length]),(oi 5 0,.mat 23 (oi 6 0) .int u1),(oi 6 0,.pool 3 .int u1)] (.tup []) [(oi 0 0,.cells 3 [ai u6]),(oi 1 0,.cells 37 [oS 2 0 r.1.length]),(oi 2 0,.mat 23 (oi 0 1) .int r.1),(oi 0 1,.pool 3 .int r.1),(oi 4 0,.cells 37 [oS 5 0 r.2.length]),(oi 5 0,.mat 23 (oi 1 1) .int r.2),(oi 1 1,.pool 3 .int r.2)]:=by
 refine Ga (by kernel_rfl) Tryd.func93 Ym (n:=20) (by kernel_rfl) (by simp) (tl:=[(0,.agg [ai u2,ai u3,ai u4,ai u5]),(1,.box (oi 0 0) 0),(2,.box (oi 1 0) 0),(3,.box (oi 4 0) 0)]) rfl (by kernel_rfl) ⟨trivial,⟨trivial,⟨⟨3,.tail _ (.tail _ (.tail _ (.head _)))⟩,⟨trivial,⟨trivial,⟨⟨3,.tail _ (.tail _ (.tail _ (.tail _ (.tail _ (.tail _ (.head _))))))⟩,⟨trivial,trivial⟩⟩⟩⟩⟩⟩⟩ ⟨trivial,⟨trivial,⟨⟨3,.tail _ (.tail _ (.tail _ (.head _)))⟩,⟨trivial,⟨trivial,⟨⟨3,.tail _ (.tail _ (.tail _ (.tail _ (.tail _ (.tail _ (.head _))))))⟩,⟨trivial,trivial⟩⟩⟩⟩⟩⟩⟩ ?_;unfold Qg;unfold Bx at h;refine Al ?_;refine Ab ?_;refine Al ?_;rcases Af h with ⟨q5,h⟩ | ⟨q5,h⟩
 ·refine Ah q5 ?_;refine An (tr_ ?_);obtain rfl:=zj h;exact Oi [] (Ac (tl:=[]) (g:=2) [(oi 0 1,oi 3 0),(oi 1 1,oi 6 0)])
 refine Ag q5 ?_;refine Ai (tn_ ?_);refine wr_ ?_;refine Ab ?_;obtain ⟨y7,h7,h⟩:=Ad h;obtain ⟨g8,h⟩:=Am h;refine Aa 13 ?_;refine rsB 3 ?_;refine Ic (.tup []) [(oi 2 0,some (.mat 23 (oi 240 12) .int y7)),(oi 240 12,some (.pool 3 .int y7)),(oi 2 0,none),(oi 3 0,some (.pool 3 .int []))] [(oi 0 0,oi 2 0),(oi 1 0,oi 3 0)] [.agg [ai u2,ai u3,ai u4,ai u5],ai u6,oS 2 0 u0.length] (caps:=[]) trivial (Jg h7 rfl) Jn ⟨by kernel_rfl,⟨by kernel_rfl,trivial⟩⟩ (.cons (.ren (by kernel_rfl)) (.cons (.ren (by kernel_rfl)) (.cons (.ren (by kernel_rfl)) .nil))) (Bj (by kernel_rfl) (by kernel_rfl) ⟨Ck (by kernel_rfl),⟨K0 (o:=oi 2 0) (p:=oi 3 0) (e1:=23) (m:=u0.length) (u:=.int) (xss:=u0) (Ck (by kernel_rfl)) (by kernel_rfl),trivial⟩⟩) ?_;refine Aq (tn_ ?_);refine wr_ ?_;obtain ⟨y9,h9,h⟩:=Ad h;obtain ⟨g10,h⟩:=Am h;refine Aa 17 ?_;refine rsB 3 ?_;refine Ic (.tup []) [(oi 5 0,some (.mat 23 (oi 304 16) .int y9)),(oi 304 16,some (.pool 3 .int y9)),(oi 5 0,none),(oi 6 0,some (.pool 3 .int []))] [(oi 0 0,oi 5 0),(oi 1 0,oi 6 0)] [.agg [ai u2,ai u3,ai u4,ai u5],ai u6,oS 5 0 u1.length] (caps:=[]) trivial (Jg h9 rfl) Jn ⟨by kernel_rfl,⟨by kernel_rfl,trivial⟩⟩ (.cons (.ren (by kernel_rfl)) (.cons (.ren (by kernel_rfl)) (.cons (.ren (by kernel_rfl)) .nil))) (Bj (by kernel_rfl) (by kernel_rfl) ⟨Ck (by kernel_rfl),⟨K0 (o:=oi 5 0) (p:=oi 6 0) (e1:=23) (m:=u1.length) (u:=.int) (xss:=u1) (Ck (by kernel_rfl)) (by kernel_rfl),trivial⟩⟩) ?_;refine Aq ?_;obtain rfl:=zj h;exact Oi [] ((C7 (oi 1 0) (.cells 37 [oS 2 0 u0.length]) (.cells 37 [oS 2 0 y7.length]) (by kernel_rfl) (congrArg (fun z_=>(.cells 37 [oS 2 0 z_]:Ob)) (g8.symm:u0.length=y7.length))).trans ((C7 (oi 4 0) (.cells 37 [oS 5 0 u1.length]) (.cells 37 [oS 5 0 y9.length]) (by kernel_rfl) (congrArg (fun z_=>(.cells 37 [oS 5 0 z_]:Ob)) (g10.symm:u1.length=y9.length))).trans (Ac (tl:=[]) (g:=2) [(oi 0 1,oi 240 12),(oi 1 1,oi 304 16)])))
def Of:AC :=
 (.seq (rg [xs1 66 65 64])
 (.seq (.cond (tm 66)
  .skip
  (.exit 4))
 (.seq (.block 5 (.seq (rg [xm 67 65,xm 13 67])
 (.seq (rg [xm 68 13,xm 69 9,xo 70 (qb .neq (tm 68) (tm 69)),xm 71 70,⟨some 72,some (71,true),ql (tm 5)⟩,⟨some 73,some (71,true),qm (tm 13)⟩,⟨some 74,some (71,true),qx 1 (tm 72) (tm 73)⟩,⟨some 75,some (71,true),ql (tm 74)⟩,⟨some 76,some (71,true),qm (tm 11)⟩,⟨some 77,some (71,true),qx 1 (tm 75) (tm 76)⟩,⟨some 78,some (71,true),ql (tm 77)⟩,⟨some 79,some (71,true),qb .neq (tm 78) (ci 0)⟩,xo 80 (.i (.pick (tm 71) (tm 79) (cb false)))])
 (.cond (tm 80)
  (rg [xm 81 10,xm 82 13,xm 83 9,xl 84 5,xm 85 13,xx 86 1 84 85,xl 87 86,xm 88 11,xx 89 1 87 88,xl 90 89,xo 91 (.build [.int .i64 0,.int .i64 0,.int .i64 0,.int .i64 0] [(0,1,ci 2),(1,1,tm 82),(2,1,tm 83),(3,1,tm 90)]),xo 92 (.call (tm 81) [tm 91] [[none,none,none,none]])])
  .skip))))
 (rg [xa 93 65,xm 65 93]))))
def Ot:AC :=
 (.seq (.seq (rg [xm 27 12,xl 28 5,xn1 29 28,xs1 30 27 29,xm 31 30,⟨some 32,some (31,true),ql (tm 5)⟩,⟨some 33,some (31,true),qm (tm 12)⟩,⟨some 34,some (31,true),qx 1 (tm 32) (tm 33)⟩,⟨some 35,some (31,true),ql (tm 34)⟩,⟨some 36,some (31,true),qm (tm 11)⟩,⟨some 37,some (31,true),qx 1 (tm 35) (tm 36)⟩,⟨some 38,some (31,true),ql (tm 37)⟩,⟨some 39,some (31,true),qb .eql (tm 38) (ci 0)⟩,xo 40 (.i (.pick (tm 31) (tm 39) (cb false)))])
 (.cond (tm 40)
  .skip
  (.exit 2)))
 (.block 3 (rg [xm 41 12,xa 42 41,xm 12 42])))
def Og:AC :=
 (.seq (.seq (rg [xm 15 11,xm 16 2,xs1 17 15 16,xm 18 17,⟨some 19,some (18,true),qm (tm 9)⟩,⟨some 20,some (18,true),ql (tm 5)⟩,⟨some 21,some (18,true),.i (.len (tm 20))⟩,⟨some 22,some (18,true),qb .lss (tm 19) (tm 21)⟩,xo 23 (.i (.pick (tm 18) (tm 22) (cb false)))])
 (.cond (tm 23)
  .skip
  (.exit 0)))
 (.seq (.block 1 (.seq (rg [xm 26 9,xm 12 26])
 (.seq (.block 2 (.loop Ot))
 (.seq (.seq (rg [xm 43 12,xl 44 5,xn1 45 44,xo 46 (qb .eql (tm 43) (tm 45))])
 (.cond (tm 46)
  (.exit 1)
  .skip))
 (.seq (rg [xm 47 10,xm 48 9,xm 49 12,xo 50 (.build [.int .i64 0,.int .i64 0,.int .i64 0,.int .i64 0] [(0,1,ci 0),(1,1,tm 48),(2,1,tm 49)]),xo 51 (.call (tm 47) [tm 50] [[none,none,none,none]])])
 (.seq (rg [xm 52 10,xm 53 9,xl 54 5,xm 55 9,xx 56 1 54 55,xl 57 56,xm 58 11,xx 59 1 57 58,xl 60 59,xo 61 (.build [.int .i64 0,.int .i64 0,.int .i64 0,.int .i64 0] [(0,1,ci 1),(1,1,tm 53),(3,1,tm 60)]),xo 62 (.call (tm 52) [tm 61] [[none,none,none,none]])])
 (.seq (.seq (rg [xl 63 5,xn1 64 63,xo 65 (qm (ci 0))])
 (.block 4 (.loop Of)))
 (rg [xm 94 9,xa 95 94,xm 9 95]))))))))
 (rg [xm 24 11,xa 25 24,xm 11 25])))
def Tr:AC :=
 (.seq (rg [xo 4 (.i (.box 3 (tm 0))),xo 5 (.i (.box 37 (tm 1))),xo 7 (.i (.box 37 (tm 3))),xo 8 (qm (ci 0))])
 (.seq (rg [xo 9 (qm (ci 0))])
 (.seq (rg [xo 14 (.i (.mkfn 93 [tm 4,tm 5,tm 7])),xm 10 14])
 (.seq (.seq (rg [xo 11 (qm (ci 0))])
 (.block 0 (.loop Og)))
 (.seq (rg [xm 96 9,xm 8 96])
 .ret)))))
def Aco:List Res:=[.tmp 8]
theorem Acq:At Tryd.prog Tryd.f90=some (Tr,Aco):=by kernel_rfl
theorem Rn:Be Tryd.prog 90=true:=by kernel_rfl
def Dj (l7_p0:LL) (u1 u0:Nat):Option (Ctl Nat Nat) :=
 Option.bind (cond (decide ((u0:Int)<(l7_p0.length:Int)))
  (Option.bind (l7_p0[u0]?) fun x19 =>
  Option.bind (x19[u1]?) fun x20 =>
  some (x20==0))
  (some false)) fun u2 =>
cond u2
 (og (u0+1<4611686018427387904) <|
 some (Ctl.next (u0+1)))
 (some (Ctl.out u0))
def E3 (y31:LL×LL) (u1 u2:Nat) (a0:Int) (u0:Nat) (l34_p0 l34_p2:LL):Option (Ctl (Nat×LL×LL) (LL×LL)) :=
 cond (decide ((u0:Int)<(y31.1.length:Int)))
 (Option.bind (Option.bind (cond ((u0:Int) !=(u1:Int))
       (Option.bind (l34_p0[u0]?) fun x42 =>
       Option.bind (x42[u2]?) fun x43 =>
       some (x43 !=0))
       (some false)) fun u3 =>
  cond u3
   (Option.bind (l34_p0[u0]?) fun x45 =>
   Option.bind (x45[u2]?) fun x46 =>
   Option.bind (Bx 2 (u0:Int) (u1:Int) x46 a0 l34_p0 l34_p2) fun y47 =>
   some (y47.1,y47.2))
   (some (l34_p0,l34_p2))) fun (l38_p0,l38_p2) =>
 og (u0+1<4611686018427387904) <|
 some (Ctl.next (u0+1,l38_p0,l38_p2)))
 (some (Ctl.out (l34_p0,l34_p2)))
def Cs (a2 a0:Int) (u0 u1:Nat) (l7_p0 l7_p2:LL):Option (Ctl (Nat×Nat×LL×LL) (Nat×LL×LL)) :=
 Option.bind (cond (decide ((u1:Int)<a2))
  (some (decide ((u0:Int)<(l7_p0.length:Int))))
  (some false)) fun u3 =>
cond u3
 (Option.bind (Option.bind (Aw (fun s_:Nat=>Dj l7_p0 u1 s_) 4611686018427387904 u0) fun u2 =>
  cond ((u2:Int)==(l7_p0.length:Int))
   (some (u0,l7_p0,l7_p2))
   (Option.bind (Bx 0 (u0:Int) (u2:Int) 0 a0 l7_p0 l7_p2) fun y27 =>
   Option.bind (y27.1[u0]?) fun x29 =>
   Option.bind (x29[u1]?) fun x30 =>
   Option.bind (Bx 1 (u0:Int) 0 x30 a0 y27.1 y27.2) fun y31 =>
   Option.bind (Aw (fun s_:Nat×LL×LL=>E3 y31 u0 u1 a0 s_.1 s_.2.1 s_.2.2) 4611686018427387904 (0,y31.1,y31.2)) fun (l32_p0,l32_p2) =>
   og (u0+1<4611686018427387904) <|
   some (u0+1,l32_p0,l32_p2))) fun (u4,l12_p0,l12_p2) =>
 og (u1+1<4611686018427387904) <|
 some (Ctl.next (u4,u1+1,l12_p0,l12_p2)))
 (some (Ctl.out (u0,l7_p0,l7_p2)))
def Fj (a0:Int) (a1:LL) (a2:Int) (a3:LL):Option (LL×LL×Nat) :=
 Option.bind (Aw (fun s_:Nat×Nat×LL×LL=>Cs a2 a0 s_.1 s_.2.1 s_.2.2.1 s_.2.2.2) 4611686018427387904 (0,0,a1,a3)) fun (u0,l5_p0,l5_p2) =>
some (l5_p0,l5_p2,u0)
theorem Q4 {a0:Int} {a1:LL} {a2:Int} {a3:LL} {r:LL×LL×Nat} (h:Fj a0 a1 a2 a3=some r) {n_a1:Nat} (hn_a1:n_a1=a1.length) {n_a3:Nat} (hn_a3:n_a3=a3.length):Kd Tryd.prog Tab 90 [ai a0,oS 0 0 n_a1,ai a2,oS 2 0 n_a3] [(oi 0 0,.mat 23 (oi 1 0) .int a1),(oi 1 0,.pool 3 .int a1),(oi 2 0,.mat 23 (oi 3 0) .int a3),(oi 3 0,.pool 3 .int a3)] (an r.2.2) [(oi 0 0,.mat 23 (oi 0 1) .int r.1),(oi 0 1,.pool 3 .int r.1),(oi 2 0,.mat 23 (oi 1 1) .int r.2.1),(oi 1 1,.pool 3 .int r.2.1)]:=by
 refine Ga (by kernel_rfl) Tryd.func90 Acq (n:=97) (by kernel_rfl) (by simp) (tl:=[(0,ai a0),(1,oS 0 0 n_a1),(2,ai a2),(3,oS 2 0 n_a3)]) rfl (by kernel_rfl) ⟨⟨3,.tail _ (.head _)⟩,⟨trivial,⟨⟨3,.tail _ (.tail _ (.tail _ (.head _)))⟩,⟨trivial,trivial⟩⟩⟩⟩ ⟨⟨3,.tail _ (.head _)⟩,⟨trivial,⟨⟨3,.tail _ (.tail _ (.tail _ (.head _)))⟩,⟨trivial,trivial⟩⟩⟩⟩ ?_;unfold Tr;unfold Fj at h;refine Al ?_;refine Al ?_;refine Al ?_;refine Ar h (fun t_ S_=>∃ (u4:Nat),∃ (l5_p0:LL),∃ (l5_p2:LL),t_=(u4,l5_p0,l5_p2)∧S_=⟨Ao [(9,an u4)],Aj (Ap [(oi 0 0,.mat 23 (oi 0 1) .int l5_p0),(oi 0 1,.pool 3 .int l5_p0),(oi 2 0,.mat 23 (oi 1 1) .int l5_p2),(oi 1 1,.pool 3 .int l5_p2)]),2⟩) ?_ ?_
 ·intro v_ h;refine Al ?_;refine Ae ?_;refine Av h (fun t_ S_=>∃ (u1:Nat),∃ (u0:Nat),∃ (l7_p0:LL),∃ (l7_p2:LL),t_=(u1,u0,l7_p0,l7_p2)∧S_=⟨Ao [(2,ai a2),(5,.box (oi 0 1) 0),(9,an u1),(10,.fn 93 [.box (oi 1 1) 0,.box (oi 0 1) 0,.box (oi 2 1) 0]),(11,an u0)],Aj (Ap [(oi 0 1,.cells 37 [oS 0 0 l7_p0.length]),(oi 1 1,.cells 3 [ai a0]),(oi 2 1,.cells 37 [oS 2 0 l7_p2.length]),(oi 0 0,.mat 23 (oi 3 1) .int l7_p0),(oi 3 1,.pool 3 .int l7_p0),(oi 2 0,.mat 23 (oi 4 1) .int l7_p2),(oi 4 1,.pool 3 .int l7_p2)]),2⟩) ⟨_,(C7 (oi 5 2) (.cells 37 [oS 0 0 n_a1]) (.cells 37 [oS 0 0 a1.length]) (by kernel_rfl) (congrArg (fun z_=>(.cells 37 [oS 0 0 z_]:Ob)) (hn_a1:n_a1=a1.length))).trans ((C7 (oi 7 3) (.cells 37 [oS 2 0 n_a3]) (.cells 37 [oS 2 0 a3.length]) (by kernel_rfl) (congrArg (fun z_=>(.cells 37 [oS 2 0 z_]:Ob)) (hn_a3:n_a3=a3.length))).trans (Ac [(oi 0 1,oi 5 2),(oi 3 1,oi 1 0),(oi 1 1,oi 4 1),(oi 2 1,oi 7 3),(oi 4 1,oi 3 0)])),⟨0,0,a1,a3,rfl,rfl⟩⟩ ?_;rintro n_ _ _ c_ ⟨u1,u0,l7_p0,l7_p2,rfl,rfl⟩ h hn7
  (try dsimp only at h);unfold Cs at h;unfold Og;refine Ab ?_;refine Ar h (fun (u7:Bool) S_=>S_=⟨Ao [(2,ai a2),(5,.box (oi 0 1) 0),(9,an u1),(10,.fn 93 [.box (oi 1 1) 0,.box (oi 0 1) 0,.box (oi 2 1) 0]),(11,an u0),(23,.bool u7)],Aj (Ap [(oi 0 1,.cells 37 [oS 0 0 l7_p0.length]),(oi 1 1,.cells 3 [ai a0]),(oi 2 1,.cells 37 [oS 2 0 l7_p2.length]),(oi 0 0,.mat 23 (oi 3 1) .int l7_p0),(oi 3 1,.pool 3 .int l7_p0),(oi 2 0,.mat 23 (oi 4 1) .int l7_p2),(oi 4 1,.pool 3 .int l7_p2)]),2⟩) ?_ ?_
  ·intro v_ h;rcases Af h with ⟨q10,h⟩ | ⟨q10,h⟩
   ·have q10_:=of_decide_eq_true q10;refine Aa 11 ?_;refine rsB 4 ?_;refine rs0 (an u1) (zg q10) ?_;refine rsl (oS 0 0 l7_p0.length) (zg q10) ?_;refine rs0 (an l7_p0.length) (zg q10) ?_;refine rs0 (.bool (decide ((u1:Int)<(l7_p0.length:Int)))) (zg q10) ?_;refine rs0 (.bool (decide ((u1:Int)<(l7_p0.length:Int)))) (zT q10) ?_;refine Aq (tn_ ?_);obtain rfl:=zj h;exact ⟨_,Ac [],rfl⟩
   have q10_:=of_decide_eq_false q10;refine Aa 11 ?_;refine rsB 4 ?_;refine zs q10 ?_;refine zs q10 ?_;refine zs q10 ?_;refine zs q10 ?_;refine rs0 (.bool false) (zF q10) ?_;refine Aq (tn_ ?_);obtain rfl:=zj h;exact ⟨_,Ac [],rfl⟩
  rintro u7 _ rfl h
  (try dsimp only at h);rcases Af h with ⟨q11,h⟩ | ⟨q11,h⟩
  ·refine Ah q11 ?_;refine Ai (tn_ ?_);refine wr_ ?_;refine Ar h (fun t_ S_=>∃ (u5:Nat),∃ (l12_p0:LL),∃ (l12_p2:LL),t_=(u5,l12_p0,l12_p2)∧S_=⟨Ao [(2,ai a2),(5,.box (oi 0 1) 0),(9,an u5),(10,.fn 93 [.box (oi 1 1) 0,.box (oi 0 1) 0,.box (oi 2 1) 0]),(11,an u0)],Aj (Ap [(oi 0 1,.cells 37 [oS 0 0 l12_p0.length]),(oi 1 1,.cells 3 [ai a0]),(oi 2 1,.cells 37 [oS 2 0 l12_p2.length]),(oi 0 0,.mat 23 (oi 3 1) .int l12_p0),(oi 3 1,.pool 3 .int l12_p0),(oi 2 0,.mat 23 (oi 4 1) .int l12_p2),(oi 4 1,.pool 3 .int l12_p2)]),2⟩) ?_ ?_
   ·intro v_ h;refine Ae ?_;refine Al ?_;refine Ar h (fun (u6:Nat) S_=>S_=⟨Ao [(2,ai a2),(5,.box (oi 0 1) 0),(9,an u1),(10,.fn 93 [.box (oi 1 1) 0,.box (oi 0 1) 0,.box (oi 2 1) 0]),(11,an u0),(12,an u6)],Aj (Ap [(oi 0 1,.cells 37 [oS 0 0 l7_p0.length]),(oi 1 1,.cells 3 [ai a0]),(oi 2 1,.cells 37 [oS 2 0 l7_p2.length]),(oi 0 0,.mat 23 (oi 3 1) .int l7_p0),(oi 3 1,.pool 3 .int l7_p0),(oi 2 0,.mat 23 (oi 4 1) .int l7_p2),(oi 4 1,.pool 3 .int l7_p2)]),2⟩) ?_ ?_
    ·intro v_ h;refine Ae ?_;refine Av h (fun (u3:Nat) S_=>S_=⟨Ao [(2,ai a2),(5,.box (oi 0 1) 0),(9,an u1),(10,.fn 93 [.box (oi 1 1) 0,.box (oi 0 1) 0,.box (oi 2 1) 0]),(11,an u0),(12,an u3)],Aj (Ap [(oi 0 1,.cells 37 [oS 0 0 l7_p0.length]),(oi 1 1,.cells 3 [ai a0]),(oi 2 1,.cells 37 [oS 2 0 l7_p2.length]),(oi 0 0,.mat 23 (oi 3 1) .int l7_p0),(oi 3 1,.pool 3 .int l7_p0),(oi 2 0,.mat 23 (oi 4 1) .int l7_p2),(oi 4 1,.pool 3 .int l7_p2)]),2⟩) ⟨_,Ac [],rfl⟩ ?_;rintro n_ u3 _ c_ rfl h hn15
     (try dsimp only at h);unfold Dj at h;unfold Ot;refine Ab ?_;refine Ar h (fun (u8:Bool) S_=>S_=⟨Ao [(2,ai a2),(5,.box (oi 0 1) 0),(9,an u1),(10,.fn 93 [.box (oi 1 1) 0,.box (oi 0 1) 0,.box (oi 2 1) 0]),(11,an u0),(12,an u3),(40,.bool u8)],Aj (Ap [(oi 0 1,.cells 37 [oS 0 0 l7_p0.length]),(oi 1 1,.cells 3 [ai a0]),(oi 2 1,.cells 37 [oS 2 0 l7_p2.length]),(oi 0 0,.mat 23 (oi 3 1) .int l7_p0),(oi 3 1,.pool 3 .int l7_p0),(oi 2 0,.mat 23 (oi 4 1) .int l7_p2),(oi 4 1,.pool 3 .int l7_p2)]),2⟩) ?_ ?_
     ·intro v_ h;rcases Af h with ⟨q18,h⟩ | ⟨q18,h⟩
      ·have q18_:=of_decide_eq_true q18;obtain ⟨x19,e19,h⟩:=Ad h;obtain ⟨x20,e20,h⟩:=Ad h;refine Aa 16 ?_;refine rsB 5 ?_;refine rsl (oS 0 0 l7_p0.length) (zg q18) ?_;refine rs0 (an u3) (zg q18) ?_;refine rs0 (.elt (oi 0 0) u3 0) (P3 (by kernel_rfl) q18 (zo (t:=sI) (o:=oi 0 0) (len:=l7_p0.length) (k:=.i64) (m:=(u3:Int)) (Dp _) (As e19))) ?_;refine rsl (.own (kid (oi 3 1) u3) .int 0 x19.length) (P3 (by kernel_rfl) q18 (Gu (o:=oi 0 0) (p:=oi 3 1) (e1:=23) (u:=.int) (xss:=l7_p0) (row:=x19) (j:=u3) (by kernel_rfl) (by kernel_rfl) e19)) ?_;refine rs0 (an u0) (zg q18) ?_;refine rs0 (.elt (kid (oi 3 1) u3) u0 0) (P3 (by kernel_rfl) q18 (zo (t:=.int) (o:=kid (oi 3 1) u3) (len:=x19.length) (k:=.i64) (m:=(u0:Int)) (Dp _) (As e20))) ?_;refine rsl (ai x20) (P3 (by kernel_rfl) q18 (Mu (i:=kid (oi 3 1) u3) (j:=u0) (k:=0) (e:=3) (t:=.int) (xs:=x19) (by kernel_rfl) (Bw (by kernel_rfl) e19) e20 (by kernel_rfl))) ?_;refine rs0 (.bool (x20==0)) (zg q18) ?_;refine rs0 (.bool (x20==0)) (zT q18) ?_;refine Aq (tn_ ?_);obtain rfl:=zj h;exact ⟨_,Ac [],rfl⟩
      have q18_:=of_decide_eq_false q18;refine Aa 16 ?_;refine rsB 5 ?_;refine zs q18 ?_;refine zs q18 ?_;refine zs q18 ?_;refine zs q18 ?_;refine zs q18 ?_;refine zs q18 ?_;refine zs q18 ?_;refine zs q18 ?_;refine rs0 (.bool false) (zF q18) ?_;refine Aq (tn_ ?_);obtain rfl:=zj h;exact ⟨_,Ac [],rfl⟩
     rintro u8 _ rfl h
     (try dsimp only at h);rcases Af h with ⟨q21,h⟩ | ⟨q21,h⟩
     ·refine Ah q21 ?_;refine Ai (tn_ ?_);refine wr_ ?_;refine Ae ?_;obtain ⟨g22,h⟩:=Am h;refine Aa 5 ?_;refine rsB 1 ?_;refine zA g22 ?_;refine rsB 1 ?_;refine Aq (bn_ (tn_ ?_));obtain rfl:=zj h;exact ⟨u3+1,_,Ac [],rfl,hn15⟩
     refine Ag q21 ?_;refine Au (te_ (te_ (be_ (tn_ ?_))));obtain rfl:=zj h;have h:=hn15
     (try dsimp only at h);obtain rfl:=zj h;exact ⟨_,Ac [],rfl⟩
    rintro u6 _ rfl h
    (try dsimp only at h);refine Ab ?_;refine Al ?_;rcases Af h with ⟨q25,h⟩ | ⟨q25,h⟩
    ·refine Ah q25 ?_;refine Au (te_ (be_ (tn_ ?_)));obtain rfl:=zj h;exact ⟨_,Ac [],⟨u1,l7_p0,l7_p2,rfl,rfl⟩⟩
    refine Ag q25 ?_;refine Ai (tn_ ?_);refine wr_ ?_;refine Ab ?_;obtain ⟨y27,h27,h⟩:=Ad h;refine Aa 11 ?_;refine rsB 4 ?_;refine Ic (.tup []) [(oi 1 1,some (.cells 3 [ai a0])),(oi 0 1,some (.cells 37 [oS 0 0 y27.1.length])),(oi 0 0,some (.mat 23 (oi 816 10) .int y27.1)),(oi 816 10,some (.pool 3 .int y27.1)),(oi 2 1,some (.cells 37 [oS 2 0 y27.2.length])),(oi 2 0,some (.mat 23 (oi 817 10) .int y27.2)),(oi 817 10,some (.pool 3 .int y27.2)),(oi 1 1,none),(oi 0 1,none),(oi 0 0,none),(oi 3 1,some (.pool 3 .int [])),(oi 2 1,none),(oi 2 0,none),(oi 4 1,some (.pool 3 .int []))] [(oi 0 0,oi 1 1),(oi 1 0,oi 0 1),(oi 2 0,oi 0 0),(oi 3 0,oi 3 1),(oi 4 0,oi 2 1),(oi 5 0,oi 2 0),(oi 6 0,oi 4 1)] [.agg [ai 0,an u1,an u6,ai 0],.box (oi 1 1) 0,.box (oi 0 1) 0,.box (oi 2 1) 0] (caps:=[.box (oi 1 1) 0,.box (oi 0 1) 0,.box (oi 2 1) 0]) trivial (J8 h27) J6 ⟨by kernel_rfl,⟨by kernel_rfl,⟨by kernel_rfl,⟨by kernel_rfl,⟨by kernel_rfl,⟨by kernel_rfl,⟨by kernel_rfl,trivial⟩⟩⟩⟩⟩⟩⟩ (.cons (.ren (by kernel_rfl)) (.cons (.ren (by kernel_rfl)) (.cons (.ren (by kernel_rfl)) (.cons (.ren (by kernel_rfl)) .nil)))) (Bj (by kernel_rfl) (by kernel_rfl) ⟨Ck (by kernel_rfl),⟨Ck (by kernel_rfl),⟨Ii (k:=oi 0 1) (ty:=37) (cs:=[oS 0 0 l7_p0.length]) (Ck (by kernel_rfl)) (by kernel_rfl) (by kernel_rfl),⟨K0 (o:=oi 0 0) (p:=oi 3 1) (e1:=23) (m:=l7_p0.length) (u:=.int) (xss:=l7_p0) (Ii (k:=oi 0 1) (ty:=37) (cs:=[oS 0 0 l7_p0.length]) (Ck (by kernel_rfl)) (by kernel_rfl) (by kernel_rfl)) (by kernel_rfl),⟨Ck (by kernel_rfl),⟨Ii (k:=oi 2 1) (ty:=37) (cs:=[oS 2 0 l7_p2.length]) (Ck (by kernel_rfl)) (by kernel_rfl) (by kernel_rfl),⟨K0 (o:=oi 2 0) (p:=oi 4 1) (e1:=23) (m:=l7_p2.length) (u:=.int) (xss:=l7_p2) (Ii (k:=oi 2 1) (ty:=37) (cs:=[oS 2 0 l7_p2.length]) (Ck (by kernel_rfl)) (by kernel_rfl) (by kernel_rfl)) (by kernel_rfl),trivial⟩⟩⟩⟩⟩⟩⟩) ?_;refine Aq (tn_ ?_);refine wr_ ?_;refine Ab ?_;obtain ⟨x29,e29,h⟩:=Ad h;obtain ⟨x30,e30,h⟩:=Ad h;obtain ⟨y31,h31,h⟩:=Ad h;refine Aa 22 ?_;refine rsB 4 ?_;refine zO (oi 0 0) sI y27.1.length (As e29) ?_;refine rsl (.own (kid (oi 816 10) u1) .int 0 x29.length) (Gu (o:=oi 0 0) (p:=oi 816 10) (e1:=23) (u:=.int) (xss:=y27.1) (row:=x29) (j:=u1) (by kernel_rfl) (by kernel_rfl) e29) ?_;refine rsB 1 ?_;refine rs0 (.elt (kid (oi 816 10) u1) u0 0) (zo (t:=.int) (o:=kid (oi 816 10) u1) (len:=x29.length) (k:=.i64) (m:=(u0:Int)) (Dp _) (As e30)) ?_;refine rsl (ai x30) (Mu (i:=kid (oi 816 10) u1) (j:=u0) (k:=0) (e:=3) (t:=.int) (xs:=x29) (by kernel_rfl) (Bw (by kernel_rfl) e29) e30 (by kernel_rfl)) ?_;refine rsB 1 ?_;refine Ic (.tup []) [(oi 1 1,some (.cells 3 [ai a0])),(oi 0 1,some (.cells 37 [oS 0 0 y31.1.length])),(oi 0 0,some (.mat 23 (oi 992 21) .int y31.1)),(oi 992 21,some (.pool 3 .int y31.1)),(oi 2 1,some (.cells 37 [oS 2 0 y31.2.length])),(oi 2 0,some (.mat 23 (oi 993 21) .int y31.2)),(oi 993 21,some (.pool 3 .int y31.2)),(oi 1 1,none),(oi 0 1,none),(oi 0 0,none),(oi 816 10,some (.pool 3 .int [])),(oi 2 1,none),(oi 2 0,none),(oi 817 10,some (.pool 3 .int []))] [(oi 0 0,oi 1 1),(oi 1 0,oi 0 1),(oi 2 0,oi 0 0),(oi 3 0,oi 816 10),(oi 4 0,oi 2 1),(oi 5 0,oi 2 0),(oi 6 0,oi 817 10)] [.agg [ai 1,an u1,ai 0,ai x30],.box (oi 1 1) 0,.box (oi 0 1) 0,.box (oi 2 1) 0] (caps:=[.box (oi 1 1) 0,.box (oi 0 1) 0,.box (oi 2 1) 0]) trivial (J8 h31) J6 ⟨by kernel_rfl,⟨by kernel_rfl,⟨by kernel_rfl,⟨by kernel_rfl,⟨by kernel_rfl,⟨by kernel_rfl,⟨by kernel_rfl,trivial⟩⟩⟩⟩⟩⟩⟩ (.cons (.ren (by kernel_rfl)) (.cons (.ren (by kernel_rfl)) (.cons (.ren (by kernel_rfl)) (.cons (.ren (by kernel_rfl)) .nil)))) (Bj (by kernel_rfl) (by kernel_rfl) ⟨Ck (by kernel_rfl),⟨Ck (by kernel_rfl),⟨Ii (k:=oi 0 1) (ty:=37) (cs:=[oS 0 0 y27.1.length]) (Ck (by kernel_rfl)) (by kernel_rfl) (by kernel_rfl),⟨K0 (o:=oi 0 0) (p:=oi 816 10) (e1:=23) (m:=y27.1.length) (u:=.int) (xss:=y27.1) (Ii (k:=oi 0 1) (ty:=37) (cs:=[oS 0 0 y27.1.length]) (Ck (by kernel_rfl)) (by kernel_rfl) (by kernel_rfl)) (by kernel_rfl),⟨Ck (by kernel_rfl),⟨Ii (k:=oi 2 1) (ty:=37) (cs:=[oS 2 0 y27.2.length]) (Ck (by kernel_rfl)) (by kernel_rfl) (by kernel_rfl),⟨K0 (o:=oi 2 0) (p:=oi 817 10) (e1:=23) (m:=y27.2.length) (u:=.int) (xss:=y27.2) (Ii (k:=oi 2 1) (ty:=37) (cs:=[oS 2 0 y27.2.length]) (Ck (by kernel_rfl)) (by kernel_rfl) (by kernel_rfl)) (by kernel_rfl),trivial⟩⟩⟩⟩⟩⟩⟩) ?_;refine Aq (tn_ ?_);refine wr_ ?_;refine Ar h (fun t_ S_=>∃ (l32_p0:LL),∃ (l32_p2:LL),t_=(l32_p0,l32_p2)∧S_=⟨Ao [(2,ai a2),(5,.box (oi 0 1) 0),(9,an u1),(10,.fn 93 [.box (oi 1 1) 0,.box (oi 0 1) 0,.box (oi 2 1) 0]),(11,an u0)],Aj (Ap [(oi 0 1,.cells 37 [oS 0 0 l32_p0.length]),(oi 1 1,.cells 3 [ai a0]),(oi 2 1,.cells 37 [oS 2 0 l32_p2.length]),(oi 0 0,.mat 23 (oi 3 1) .int l32_p0),(oi 3 1,.pool 3 .int l32_p0),(oi 2 0,.mat 23 (oi 4 1) .int l32_p2),(oi 4 1,.pool 3 .int l32_p2)]),2⟩) ?_ ?_
    ·intro v_ h;refine Al ?_;refine Ae ?_;refine Av h (fun t_ S_=>∃ (u2:Nat),∃ (l34_p0:LL),∃ (l34_p2:LL),t_=(u2,l34_p0,l34_p2)∧S_=⟨Ao [(2,ai a2),(5,.box (oi 0 1) 0),(9,an u1),(10,.fn 93 [.box (oi 1 1) 0,.box (oi 0 1) 0,.box (oi 2 1) 0]),(11,an u0),(64,an y31.1.length),(65,an u2)],Aj (Ap [(oi 0 1,.cells 37 [oS 0 0 l34_p0.length]),(oi 1 1,.cells 3 [ai a0]),(oi 2 1,.cells 37 [oS 2 0 l34_p2.length]),(oi 0 0,.mat 23 (oi 3 1) .int l34_p0),(oi 3 1,.pool 3 .int l34_p0),(oi 2 0,.mat 23 (oi 4 1) .int l34_p2),(oi 4 1,.pool 3 .int l34_p2)]),2⟩) ⟨_,Ac [(oi 3 1,oi 992 21),(oi 4 1,oi 993 21)],⟨0,y31.1,y31.2,rfl,rfl⟩⟩ ?_;rintro n_ _ _ c_ ⟨u2,l34_p0,l34_p2,rfl,rfl⟩ h hn34
     (try dsimp only at h);unfold E3 at h;unfold Of;refine Al ?_;refine Ab ?_;rcases Af h with ⟨q37,h⟩ | ⟨q37,h⟩
     ·have q37_:=of_decide_eq_true q37;refine Ah q37 ?_;refine Ai (tn_ ?_);refine wr_ ?_;refine Ar h (fun t_ S_=>∃ (l38_p0:LL),∃ (l38_p2:LL),t_=(l38_p0,l38_p2)∧S_=⟨Ao [(2,ai a2),(5,.box (oi 0 1) 0),(9,an u1),(10,.fn 93 [.box (oi 1 1) 0,.box (oi 0 1) 0,.box (oi 2 1) 0]),(11,an u0),(64,an y31.1.length),(65,an u2)],Aj (Ap [(oi 0 1,.cells 37 [oS 0 0 l38_p0.length]),(oi 1 1,.cells 3 [ai a0]),(oi 2 1,.cells 37 [oS 2 0 l38_p2.length]),(oi 0 0,.mat 23 (oi 3 1) .int l38_p0),(oi 3 1,.pool 3 .int l38_p0),(oi 2 0,.mat 23 (oi 4 1) .int l38_p2),(oi 4 1,.pool 3 .int l38_p2)]),2⟩) ?_ ?_
      ·intro v_ h;refine Ae ?_;refine Al ?_;refine Ar h (fun (u9:Bool) S_=>S_=⟨Ao [(2,ai a2),(5,.box (oi 0 1) 0),(9,an u1),(10,.fn 93 [.box (oi 1 1) 0,.box (oi 0 1) 0,.box (oi 2 1) 0]),(11,an u0),(13,an u2),(64,an y31.1.length),(65,an u2),(80,.bool u9)],Aj (Ap [(oi 0 1,.cells 37 [oS 0 0 l34_p0.length]),(oi 1 1,.cells 3 [ai a0]),(oi 2 1,.cells 37 [oS 2 0 l34_p2.length]),(oi 0 0,.mat 23 (oi 3 1) .int l34_p0),(oi 3 1,.pool 3 .int l34_p0),(oi 2 0,.mat 23 (oi 4 1) .int l34_p2),(oi 4 1,.pool 3 .int l34_p2)]),2⟩) ?_ ?_
       ·intro v_ h;rcases Af h with ⟨q41,h⟩ | ⟨q41,h⟩
        ·obtain ⟨x42,e42,h⟩:=Ad h;obtain ⟨x43,e43,h⟩:=Ad h;refine Aa 18 ?_;refine rsB 4 ?_;refine rsl (oS 0 0 l34_p0.length) (zg q41) ?_;refine rs0 (an u2) (zg q41) ?_;refine rs0 (.elt (oi 0 0) u2 0) (P3 (by kernel_rfl) q41 (zo (t:=sI) (o:=oi 0 0) (len:=l34_p0.length) (k:=.i64) (m:=(u2:Int)) (Dp _) (As e42))) ?_;refine rsl (.own (kid (oi 3 1) u2) .int 0 x42.length) (P3 (by kernel_rfl) q41 (Gu (o:=oi 0 0) (p:=oi 3 1) (e1:=23) (u:=.int) (xss:=l34_p0) (row:=x42) (j:=u2) (by kernel_rfl) (by kernel_rfl) e42)) ?_;refine rs0 (an u0) (zg q41) ?_;refine rs0 (.elt (kid (oi 3 1) u2) u0 0) (P3 (by kernel_rfl) q41 (zo (t:=.int) (o:=kid (oi 3 1) u2) (len:=x42.length) (k:=.i64) (m:=(u0:Int)) (Dp _) (As e43))) ?_;refine rsl (ai x43) (P3 (by kernel_rfl) q41 (Mu (i:=kid (oi 3 1) u2) (j:=u0) (k:=0) (e:=3) (t:=.int) (xs:=x42) (by kernel_rfl) (Bw (by kernel_rfl) e42) e43 (by kernel_rfl))) ?_;refine rs0 (.bool (x43 !=0)) (zg q41) ?_;refine rs0 (.bool (x43 !=0)) (zT q41) ?_;refine Aq (tn_ ?_);obtain rfl:=zj h;exact ⟨_,Ac [],rfl⟩
        refine Aa 18 ?_;refine rsB 4 ?_;refine zs q41 ?_;refine zs q41 ?_;refine zs q41 ?_;refine zs q41 ?_;refine zs q41 ?_;refine zs q41 ?_;refine zs q41 ?_;refine zs q41 ?_;refine rs0 (.bool false) (zF q41) ?_;refine Aq (tn_ ?_);obtain rfl:=zj h;exact ⟨_,Ac [],rfl⟩
       rintro u9 _ rfl h
       (try dsimp only at h);rcases Af h with ⟨q44,h⟩ | ⟨q44,h⟩
       ·refine Ah q44 ?_;obtain ⟨x45,e45,h⟩:=Ad h;obtain ⟨x46,e46,h⟩:=Ad h;obtain ⟨y47,h47,h⟩:=Ad h;refine Aa 14 ?_;refine rsB 5 ?_;refine zO (oi 0 0) sI l34_p0.length (As e45) ?_;refine rsl (.own (kid (oi 3 1) u2) .int 0 x45.length) (Gu (o:=oi 0 0) (p:=oi 3 1) (e1:=23) (u:=.int) (xss:=l34_p0) (row:=x45) (j:=u2) (by kernel_rfl) (by kernel_rfl) e45) ?_;refine rsB 1 ?_;refine rs0 (.elt (kid (oi 3 1) u2) u0 0) (zo (t:=.int) (o:=kid (oi 3 1) u2) (len:=x45.length) (k:=.i64) (m:=(u0:Int)) (Dp _) (As e46)) ?_;refine rsl (ai x46) (Mu (i:=kid (oi 3 1) u2) (j:=u0) (k:=0) (e:=3) (t:=.int) (xs:=x45) (by kernel_rfl) (Bw (by kernel_rfl) e45) e46 (by kernel_rfl)) ?_;refine rsB 1 ?_;refine Ic (.tup []) [(oi 1 1,some (.cells 3 [ai a0])),(oi 0 1,some (.cells 37 [oS 0 0 y47.1.length])),(oi 0 0,some (.mat 23 (oi 1472 13) .int y47.1)),(oi 1472 13,some (.pool 3 .int y47.1)),(oi 2 1,some (.cells 37 [oS 2 0 y47.2.length])),(oi 2 0,some (.mat 23 (oi 1473 13) .int y47.2)),(oi 1473 13,some (.pool 3 .int y47.2)),(oi 1 1,none),(oi 0 1,none),(oi 0 0,none),(oi 3 1,some (.pool 3 .int [])),(oi 2 1,none),(oi 2 0,none),(oi 4 1,some (.pool 3 .int []))] [(oi 0 0,oi 1 1),(oi 1 0,oi 0 1),(oi 2 0,oi 0 0),(oi 3 0,oi 3 1),(oi 4 0,oi 2 1),(oi 5 0,oi 2 0),(oi 6 0,oi 4 1)] [.agg [ai 2,an u2,an u1,ai x46],.box (oi 1 1) 0,.box (oi 0 1) 0,.box (oi 2 1) 0] (caps:=[.box (oi 1 1) 0,.box (oi 0 1) 0,.box (oi 2 1) 0]) trivial (J8 h47) J6 ⟨by kernel_rfl,⟨by kernel_rfl,⟨by kernel_rfl,⟨by kernel_rfl,⟨by kernel_rfl,⟨by kernel_rfl,⟨by kernel_rfl,trivial⟩⟩⟩⟩⟩⟩⟩ (.cons (.ren (by kernel_rfl)) (.cons (.ren (by kernel_rfl)) (.cons (.ren (by kernel_rfl)) (.cons (.ren (by kernel_rfl)) .nil)))) (Bj (by kernel_rfl) (by kernel_rfl) ⟨Ck (by kernel_rfl),⟨Ck (by kernel_rfl),⟨Ii (k:=oi 0 1) (ty:=37) (cs:=[oS 0 0 l34_p0.length]) (Ck (by kernel_rfl)) (by kernel_rfl) (by kernel_rfl),⟨K0 (o:=oi 0 0) (p:=oi 3 1) (e1:=23) (m:=l34_p0.length) (u:=.int) (xss:=l34_p0) (Ii (k:=oi 0 1) (ty:=37) (cs:=[oS 0 0 l34_p0.length]) (Ck (by kernel_rfl)) (by kernel_rfl) (by kernel_rfl)) (by kernel_rfl),⟨Ck (by kernel_rfl),⟨Ii (k:=oi 2 1) (ty:=37) (cs:=[oS 2 0 l34_p2.length]) (Ck (by kernel_rfl)) (by kernel_rfl) (by kernel_rfl),⟨K0 (o:=oi 2 0) (p:=oi 4 1) (e1:=23) (m:=l34_p2.length) (u:=.int) (xss:=l34_p2) (Ii (k:=oi 2 1) (ty:=37) (cs:=[oS 2 0 l34_p2.length]) (Ck (by kernel_rfl)) (by kernel_rfl) (by kernel_rfl)) (by kernel_rfl),trivial⟩⟩⟩⟩⟩⟩⟩) ?_;refine Aq (bn_ (tn_ ?_));obtain rfl:=zj h;exact ⟨_,Ac [(oi 3 1,oi 1472 13),(oi 4 1,oi 1473 13)],⟨y47.1,y47.2,rfl,rfl⟩⟩
       refine Ag q44 ?_;refine Ai (bn_ (tn_ ?_));obtain rfl:=zj h;exact ⟨_,Ac [],⟨l34_p0,l34_p2,rfl,rfl⟩⟩
      rintro _ _ ⟨l38_p0,l38_p2,rfl,rfl⟩ h
      (try dsimp only at h);obtain ⟨g48,h⟩:=Am h;refine Aa 4 ?_;refine zA g48 ?_;refine rsB 1 ?_;refine Aq (tn_ ?_);obtain rfl:=zj h;exact ⟨(u2+1,l38_p0,l38_p2),_,Ac [],⟨u2+1,l38_p0,l38_p2,rfl,rfl⟩,hn34⟩
     have q37_:=of_decide_eq_false q37;refine Ag q37 ?_;refine Au (te_ (te_ (be_ (tn_ ?_))));obtain rfl:=zj h;have h:=hn34
     (try dsimp only at h);obtain rfl:=zj h;exact ⟨_,Ac [],⟨l34_p0,l34_p2,rfl,rfl⟩⟩
    rintro _ _ ⟨l32_p0,l32_p2,rfl,rfl⟩ h
    (try dsimp only at h);obtain ⟨g49,h⟩:=Am h;refine Aa 5 ?_;refine rsB 1 ?_;refine zA g49 ?_;refine rsB 1 ?_;refine Aq (bn_ (tn_ ?_));obtain rfl:=zj h;exact ⟨_,Ac [],⟨u1+1,l32_p0,l32_p2,rfl,rfl⟩⟩
   rintro _ _ ⟨u5,l12_p0,l12_p2,rfl,rfl⟩ h
   (try dsimp only at h);obtain ⟨g50,h⟩:=Am h;refine Aa 5 ?_;refine rsB 1 ?_;refine zA g50 ?_;refine rsB 1 ?_;refine Aq (tn_ ?_);obtain rfl:=zj h;exact ⟨(u5,u0+1,l12_p0,l12_p2),_,Ac [],⟨u5,u0+1,l12_p0,l12_p2,rfl,rfl⟩,hn7⟩
  refine Ag q11 ?_;refine Au (te_ (te_ (be_ (tn_ ?_))));obtain rfl:=zj h;have h:=hn7
  (try dsimp only at h);obtain rfl:=zj h;exact ⟨_,Ac [(oi 0 1,oi 3 1),(oi 1 1,oi 4 1)],⟨u1,l7_p0,l7_p2,rfl,rfl⟩⟩
 rintro _ _ ⟨u4,l5_p0,l5_p2,rfl,rfl⟩ h
 (try dsimp only at h);refine Al ?_;refine An ?_;obtain rfl:=zj h;exact Oi [an u4] (Ac (tl:=[(8,an u4)]) (g:=2) [])
end

section
open Go.RowKit Go.Deep
theorem Ayn {n:Nat} {ob:Oid->Option Ob} {o p:Oid} {e1 e:TypeId} {u:Ty} {xss ys:List (List u.D)} {off len:Nat} (ho:ob o=some (.vec e1 1 xss.length (hdL p u xss))) (hk:∀ k row,xss[k]? =some row->ob (kid p k)=some (.arr e u row))
  (hl:off+len<=xss.length) (hy:(xss.drop off).take len=ys):gnd ob (n+1) (.own o (.slice u) off len)=some (.tree (.slice u) ys):=by
 subst hy;have hlen:((xss.drop off).take len).length=len:=by rw [List.length_take,List.length_drop]; omega
 have key:Ad2 ob 1 (rdC ob (.slice u)) (.own o (.slice u) off len)=some ((xss.drop off).take len):=by
  simp only [Ad2,ho];rw [if_pos ⟨trivial,hl⟩]
  have:=Tv (g:=rdC ob (.slice u)) (cs:=((hdL p u xss).drop (off*1)).take (len*1)) (xs:=(xss.drop off).take len) (by simp only [Nat.mul_one,List.length_take,List.length_drop,Df]) (fun k c x hc hx=>by
   rw [List.getElem?_take,List.getElem?_drop] at hx;rw [Nat.mul_one,Nat.mul_one,List.getElem?_take,List.getElem?_drop,Ez] at hc;split at hx
   ·rename_i hkl;rw [if_pos hkl,hx] at hc;obtain rfl:=osj hc;have:=hk _ x hx;simp only [rdC,F7,this,Nat.zero_add,Nat.le_refl,if_true,Ty.eq?_self,Cr,List.drop_zero,List.take_length]
   ·cases hx)
  rw [hlen] at this;exact this
 simp only [gnd,ho,Ty.size,key,Option.map_some]
end
section
open Go.RowKit Go.Deep
set_option maxRecDepth 4000
def Wz:AC :=
 (.seq (rg [xo 6 (qm (.cst .nils))])
 (.seq (rg [xm 10 1,xo 11 (qc 59 [tm 10] [[some sI]]),xm 7 11])
 (.seq (rg [xm 12 7,xn1 13 12,xo 14 (.makeV 23 sI 24 [.nils] (tm 13) (tm 13)),xm 8 14])
 (.seq (rg [xm 15 0,xm 16 7,xm 17 2,xm 18 8,xo 19 (qc 90 [tm 15,tm 16,tm 17,tm 18] [[],[some sI],[],[some sI]]),xm 9 19])
 (.seq (rg [xm 20 7,xm 21 9,xm 22 9,xo 23 (.slice 1 (tm 20) none (some (tm 21)) (some (tm 22))),xm 6 23])
 .ret)))))
def Agc:List Res:=[.tmp 6]
theorem Agr:At Tryd.prog Tryd.f85=some (Wz,Agc):=by kernel_rfl
theorem N3:Be Tryd.prog 85=true:=by kernel_rfl
def Fm (a0:Int) (a1:LL) (a2:Int):Option (LL) :=
 Option.bind (Dc a1) fun y4 =>
og (0<=(y4.length:Int)∧(y4.length:Int)<=(y4.length:Int)∧(y4.length:Int)<=1073741824∧(24:Int)*(y4.length:Int)<=140737488355328) <|
Option.bind (Fj a0 y4 a2 (List.replicate y4.length ([]:List Int))) fun y8 =>
og (y8.1.length=y4.length) <|
og (y8.2.1.length=y4.length) <|
og ((0:Int)<=(y8.2.2:Int)∧(y8.2.2:Int)<=(y8.2.2:Int)∧(y8.2.2:Int)<=(y4.length:Int)) <|
some (y8.1.take y8.2.2)
theorem Oc {a0:Int} {a1:LL} {a2:Int} {r:LL} (h:Fm a0 a1 a2=some r):Kd Tryd.prog Tab 85 [ai a0,tS a1,ai a2] [] (oS 0 1 r.length) [(oi 0 1,.mat 23 (oi 1 1) .int r),(oi 1 1,.pool 3 .int r)]:=by
 refine Ga (by kernel_rfl) Tryd.func85 Agr (n:=24) (by kernel_rfl) (by simp) (tl:=[(0,ai a0),(1,tS a1),(2,ai a2)]) rfl (by kernel_rfl) trivial ⟨⟨3,.tail _ (.head _)⟩,⟨trivial,trivial⟩⟩ ?_;unfold Wz;unfold Fm at h;refine Al ?_;refine Ab ?_;obtain ⟨y4,h4,h⟩:=Ad h;refine Aa 5 ?_;refine rsB 1 ?_;refine Ic (oS 176 3 y4.length) [(oi 176 3,some (.mat 23 (oi 177 3) .int y4)),(oi 177 3,some (.pool 3 .int y4))] [] [tS a1] (caps:=[]) trivial (Hn h4) Hp trivial (.cons (.ren (by kernel_rfl)) .nil) (Bj (by kernel_rfl) (by kernel_rfl) trivial) ?_;refine rsB 1 ?_;refine Aq (tn_ ?_);refine wr_ ?_;refine Ab ?_;obtain ⟨g6,h⟩:=Am h;refine Aa 9 ?_;refine rsB 2 ?_;refine Amx (oS 224 7 y4.length) (oi 224 7) 23 3 .int (List.replicate y4.length ([]:List Int)) trivial (Aei (j:=y4.length) (k:=.i64) (k':=.i64) (m:=(y4.length:Int)) (c:=(y4.length:Int)) 3 (by kernel_rfl) (by kernel_rfl) g6 (by kernel_rfl) rfl) (by kernel_rfl) (by rw [List.length_replicate]) (by kernel_rfl) ?_;refine rsB 1 ?_;refine Aq (tn_ ?_);refine wr_ ?_;refine Ab ?_;obtain ⟨y8,h8,h⟩:=Ad h;obtain ⟨g9,h⟩:=Am h;obtain ⟨g10,h⟩:=Am h;refine Aa 15 ?_;refine rsB 4 ?_;refine Ic (an y8.2.2) [(oi 176 3,some (.mat 23 (oi 304 13) .int y8.1)),(oi 304 13,some (.pool 3 .int y8.1)),(oi 224 7,some (.mat 23 (oi 305 13) .int y8.2.1)),(oi 305 13,some (.pool 3 .int y8.2.1)),(oi 176 3,none),(oi 177 3,some (.pool 3 .int [])),(oi 224 7,none),(oi 224 7,some (.pool 3 .int []))] [(oi 0 0,oi 176 3),(oi 1 0,oi 177 3),(oi 2 0,oi 224 7),(oi 3 0,oi 224 7)] [ai a0,oS 176 3 y4.length,ai a2,oS 224 7 y4.length] (caps:=[]) trivial (Q4 h8 rfl List.length_replicate.symm) Rn ⟨by kernel_rfl,⟨by kernel_rfl,⟨by kernel_rfl,⟨by kernel_rfl,trivial⟩⟩⟩⟩ (.cons (.ren (by kernel_rfl)) (.cons (.ren (by kernel_rfl)) (.cons (.ren (by kernel_rfl)) (.cons (.ren (by kernel_rfl)) .nil)))) (Bj (by kernel_rfl) (by kernel_rfl) ⟨Ck (by kernel_rfl),⟨K0 (o:=oi 176 3) (p:=oi 177 3) (e1:=23) (m:=y4.length) (u:=.int) (xss:=y4) (Ck (by kernel_rfl)) (by kernel_rfl),⟨Ck (by kernel_rfl),⟨K0 (o:=oi 224 7) (p:=oi 224 7) (e1:=23) (m:=(List.replicate y4.length ([]:List Int)).length) (u:=.int) (xss:=List.replicate y4.length ([]:List Int)) (Ck (by kernel_rfl)) (by kernel_rfl),trivial⟩⟩⟩⟩) ?_;refine rsB 1 ?_;refine Aq (tn_ ?_);refine wr_ ?_;refine Ab ?_;obtain ⟨g12,h⟩:=Am h;refine Aa 20 ?_;refine rsB 3 ?_;refine rs2 (oS 23 18 y8.2.2) (oi 176 3) (oi 23 18) (.vec 23 1 y8.2.2 ((hdL (oi 304 13) .int y8.1).take y8.2.2)) (At7 (t:=sI) (len:=y4.length) (kh:=.i64) (km:=.i64) (h:=(y8.2.2:Int)) (m:=(y8.2.2:Int)) (j:=y8.2.2) (i:=oi 176 3) (N:=y8.1.length) (e:=23) (cs:=hdL (oi 304 13) .int y8.1) (by kernel_rfl) (by kernel_rfl) (by kernel_rfl) (by kernel_rfl) rfl g12 rfl (by have z_:y4.length=y8.1.length:=g9.symm; omega)) ?_;refine rsB 1 ?_;refine Aq (tn_ ?_);refine ⟨_,Aqa (e1:=23) (e:=3) (u:=.int) (xss:=y8.1) (k:=y8.2.2) 9000 (oi 23 18) (oi 304 13) (by kernel_rfl) (by kernel_rfl) (by kernel_rfl) (by have z_:y4.length=y8.1.length:=g9.symm; omega) (by kernel_rfl) (by kernel_rfl),?_⟩;refine An ?_;obtain rfl:=zj h;exact Oi [oS 0 1 ((y8.1.take y8.2.2).length)] ((A8 6 (oS 23 18 y8.2.2) (oS 23 18 ((y8.1.take y8.2.2).length)) (by kernel_rfl) (congrArg (fun z_=>((oS 23 18 z_):AV)) ((Atl (by have z_:y4.length=y8.1.length:=g9.symm; omega)):y8.2.2=(y8.1.take y8.2.2).length))).trans (Ac (tl:=[(6,oS 0 1 (y8.1.take y8.2.2).length)]) (g:=2) [(oi 0 1,oi 23 18),(oi 1 1,oi 9000 20)]))
def V9:AC :=
 (.seq (rg [xs1 8 7 6])
 (.seq (.cond (tm 8)
  .skip
  (.exit 0))
 (.seq (.block 1 (.seq (rg [xm 9 7,xx 10 1 5 7,xl 11 10,xm 3 9,xm 4 11])
 (.seq (rg [xm 12 4,xo 13 (qb .neq (tm 12) (ci 0))])
 (.cond (tm 13)
  (.seq (rg [xm 14 3,xm 2 14])
  .ret)
  .skip))))
 (rg [xa 15 7,xm 7 15]))))
def Acu:AC :=
 (.seq (rg [xo 2 (qm (ci 0))])
 (.seq (.seq (rg [xm 5 0,xn1 6 5,xo 7 (qm (ci 0))])
 (.block 0 (.loop V9)))
 (.seq (rg [xm 16 0,xn1 17 16,xm 2 17])
 .ret)))
def Aph:List Res:=[.tmp 2]
theorem Apr:At Tryd.prog Tryd.f63=some (Acu,Aph):=by kernel_rfl
theorem Ank:Be Tryd.prog 63=true:=by kernel_rfl
def Jc (a0:List Int) (u0:Nat):Option (Ctl Nat (Ctl Unit Int)) :=
 cond (decide ((u0:Int)<(a0.length:Int)))
 (Option.bind (a0[u0]?) fun x10 =>
 cond (x10 !=0)
  (some (Ctl.out (Ctl.out (u0:Int))))
  (og (u0+1<4611686018427387904) <|
  some (Ctl.next (u0+1))))
 (some (Ctl.out (Ctl.next ())))
def H4 (a0:List Int):Option Int :=
 Sn (Aw (fun s_:Nat=>Jc a0 s_) 4611686018427387904 0) fun _ =>
some (a0.length:Int)
def Alm (r:Int):RV:=⟨false,[(false,[.sc (.int .i64 r)])]⟩
theorem Ov {a0:List Int} {r:Int} (h:H4 a0=some r):A0 Tryd.prog Tab 63 [tI a0] (Alm r):=by
 refine A1 (by kernel_rfl) Tryd.func63 Apr (n:=18) (by kernel_rfl) (by simp) (tl:=[(0,tI a0)]) rfl ?_;unfold Acu;unfold H4 at h;refine Al ?_;refine Hz h (fun (_:Unit) S_=>S_=⟨Ao [(0,tI a0)],Aj (Ap []),2⟩) ?_ ?_
 ·intro v_ h hk2;refine Al ?_;refine Ae ?_;refine Av h (fun (u0:Nat) S_=>S_=⟨Ao [(0,tI a0),(5,tI a0),(6,an a0.length),(7,an u0)],Aj (Ap []),2⟩) ⟨_,Ac [],rfl⟩ ?_;rintro n_ u0 _ c_ rfl h hn4
  (try dsimp only at h);unfold Jc at h;unfold V9;refine Al ?_;refine Ab ?_;rcases Af h with ⟨q7,h⟩ | ⟨q7,h⟩
  ·have q7_:=of_decide_eq_true q7;refine Ah q7 ?_;refine Ai (tn_ ?_);refine wr_ ?_;refine Ab ?_;refine Ae ?_;refine Ab ?_;obtain ⟨x10,e10,h⟩:=Ad h;refine Aa 8 ?_;refine rsB 1 ?_;refine zI .int e10 ?_;refine rsB 3 ?_;refine Aq (tn_ ?_);refine wr_ ?_;refine Al ?_;rcases Af h with ⟨q12,h⟩ | ⟨q12,h⟩
   ·refine Ah q12 ?_;refine Al ?_;refine An (br_ (tr_ (tr_ (br_ (tr_ ?_)))));obtain rfl:=zj h;have h:=hn4
    (try dsimp only at h);obtain rfl:=zj h;have h:=hk2
    (try dsimp only at h);obtain rfl:=zj h;exact Bo [an u0] (A2 rfl zl A5)
   refine Ag q12 ?_;refine Ai (bn_ (tn_ ?_));refine wr_ ?_;obtain ⟨g14,h⟩:=Am h;refine Aa 12 ?_;refine zA g14 ?_;refine rsB 1 ?_;refine Aq (tn_ ?_);obtain rfl:=zj h;exact ⟨u0+1,_,Ac [],rfl,hn4⟩
  have q7_:=of_decide_eq_false q7;refine Ag q7 ?_;refine Au (te_ (te_ (be_ (tn_ ?_))));obtain rfl:=zj h;have h:=hn4
  (try dsimp only at h);obtain rfl:=zj h;exact ⟨(),_,rfl,Ac [],rfl⟩
 rintro _ _ rfl h
 (try dsimp only at h);refine Al ?_;refine An ?_;obtain rfl:=zj h;exact Bo [an a0.length] (A2 rfl zl A5)
def To:AC :=
 (.seq (.seq (rg [xm 4 3,xm 5 0,xn1 6 5,xs1 7 4 6,xm 8 7,⟨some 9,some (8,true),qm (tm 0)⟩,⟨some 10,some (8,true),qm (tm 3)⟩,⟨some 11,some (8,true),qx 1 (tm 9) (tm 10)⟩,⟨some 12,some (8,true),ql (tm 11)⟩,⟨some 13,some (8,true),qb .eql (tm 12) (ci 0)⟩,xo 14 (.i (.pick (tm 8) (tm 13) (cb false)))])
 (.cond (tm 14)
  .skip
  (.exit 0)))
 (.block 1 (rg [xm 15 3,xa 16 15,xm 3 16])))
def Xt:AC :=
 (.seq (rg [xo 2 (qm (ci 0))])
 (.seq (rg [xo 3 (qm (ci 0))])
 (.seq (.block 0 (.loop To))
 (.seq (rg [xm 17 3,xm 2 17])
 .ret))))
def Aiv:List Res:=[.tmp 2]
theorem Ajz:At Tryd.prog Tryd.f24=some (Xt,Aiv):=by kernel_rfl
theorem Ph:Be Tryd.prog 24=true:=by kernel_rfl
def G7 (a0:List Int) (u0:Nat):Option (Ctl Nat Nat) :=
 Option.bind (cond (decide ((u0:Int)<(a0.length:Int)))
  (Option.bind (a0[u0]?) fun x8 =>
  some (x8==0))
  (some false)) fun u1 =>
cond u1
 (og (u0+1<4611686018427387904) <|
 some (Ctl.next (u0+1)))
 (some (Ctl.out u0))
def Ea (a0:List Int):Option Int :=
 Option.bind (Aw (fun s_:Nat=>G7 a0 s_) 4611686018427387904 0) fun u0 =>
some (u0:Int)
def Ag8 (r:Int):RV:=⟨false,[(false,[.sc (.int .i64 r)])]⟩
theorem Jd {a0:List Int} {r:Int} (h:Ea a0=some r):A0 Tryd.prog Tab 24 [tI a0] (Ag8 r):=by
 refine A1 (by kernel_rfl) Tryd.func24 Ajz (n:=18) (by kernel_rfl) (by simp) (tl:=[(0,tI a0)]) rfl ?_;unfold Xt;unfold Ea at h;refine Al ?_;refine Al ?_;refine Ar h (fun (u1:Nat) S_=>S_=⟨Ao [(3,an u1)],Aj (Ap []),2⟩) ?_ ?_
 ·intro v_ h;refine Ae ?_;refine Av h (fun (u0:Nat) S_=>S_=⟨Ao [(0,tI a0),(3,an u0)],Aj (Ap []),2⟩) ⟨_,Ac [],rfl⟩ ?_;rintro n_ u0 _ c_ rfl h hn4
  (try dsimp only at h);unfold G7 at h;unfold To;refine Ab ?_;refine Ar h (fun (u2:Bool) S_=>S_=⟨Ao [(0,tI a0),(3,an u0),(14,.bool u2)],Aj (Ap []),2⟩) ?_ ?_
  ·intro v_ h;rcases Af h with ⟨q7,h⟩ | ⟨q7,h⟩
   ·have q7_:=of_decide_eq_true q7;obtain ⟨x8,e8,h⟩:=Ad h;refine Aa 13 ?_;refine rsB 5 ?_;refine rs0 (tI a0) (zg q7) ?_;refine rs0 (an u0) (zg q7) ?_;refine rs0 (.telt none .int x8 0) (P3 (by kernel_rfl) q7 (zi (t:=.int) (xs:=a0) (k:=.i64) (m:=(u0:Int)) (Dp _) e8)) ?_;refine rs0 (ai x8) (zg q7) ?_;refine rs0 (.bool (x8==0)) (zg q7) ?_;refine rs0 (.bool (x8==0)) (zT q7) ?_;refine Aq (tn_ ?_);obtain rfl:=zj h;exact ⟨_,Ac [],rfl⟩
   have q7_:=of_decide_eq_false q7;refine Aa 13 ?_;refine rsB 5 ?_;refine zs q7 ?_;refine zs q7 ?_;refine zs q7 ?_;refine zs q7 ?_;refine zs q7 ?_;refine rs0 (.bool false) (zF q7) ?_;refine Aq (tn_ ?_);obtain rfl:=zj h;exact ⟨_,Ac [],rfl⟩
  rintro u2 _ rfl h
  (try dsimp only at h);rcases Af h with ⟨q9,h⟩ | ⟨q9,h⟩
  ·refine Ah q9 ?_;refine Ai (tn_ ?_);refine wr_ ?_;refine Ae ?_;obtain ⟨g10,h⟩:=Am h;refine Aa 5 ?_;refine rsB 1 ?_;refine zA g10 ?_;refine rsB 1 ?_;refine Aq (bn_ (tn_ ?_));obtain rfl:=zj h;exact ⟨u0+1,_,Ac [],rfl,hn4⟩
  refine Ag q9 ?_;refine Au (te_ (te_ (be_ (tn_ ?_))));obtain rfl:=zj h;have h:=hn4
  (try dsimp only at h);obtain rfl:=zj h;exact ⟨_,Ac [],rfl⟩
 rintro u1 _ rfl h
 (try dsimp only at h);refine Al ?_;refine An ?_;obtain rfl:=zj h;exact Bo [an u1] (A2 rfl zl A5)
def Mb:AC :=
 (.seq (rg [xs1 8 7 6])
 (.seq (.cond (tm 8)
  .skip
  (.exit 0))
 (.seq (.block 1 (.seq (rg [xm 9 7,xm 4 9])
 (rg [xm 10 3,xm 11 0,xm 12 4,xo 13 (qc 56 [tm 11,tm 12] [[],[]]),xo 14 (.mkV 23 sI 1 [tm 13]),xo 15 (.appV 23 sI 24 (tm 10) (tm 14)),xm 3 15])))
 (rg [xa 16 7,xm 7 16]))))
def Ol:AC :=
 (.seq (rg [xo 2 (qm (.cst .nils))])
 (.seq (rg [xo 5 (.mkV 23 sI 1 []),xm 3 5])
 (.seq (.seq (rg [xm 6 0,xo 7 (qm (ci 0))])
 (.block 0 (.loop Mb)))
 (.seq (rg [xm 17 3,xm 2 17])
 .ret))))
def Xf:List Res:=[.tmp 2]
theorem Xg:At Tryd.prog Tryd.f92=some (Ol,Xf):=by kernel_rfl
theorem V0:Be Tryd.prog 92=true:=by kernel_rfl
def Dh (a0:Int) (u0:Nat) (u1:LL):Option (Ctl (Nat×LL) (LL)) :=
 cond (decide ((u0:Int)<a0))
 (Option.bind (Ee a0 (u0:Int)) fun y12 =>
 og (u1.length+1<=1073741824∧(u1.length+1)*24<=140737488355328) <|
 og (u0+1<4611686018427387904) <|
 some (Ctl.next (u0+1,u1++[y12])))
 (some (Ctl.out u1))
def E6 (a0:Int):Option (LL) :=
 Option.bind (Aw (fun s_:Nat×LL=>Dh a0 s_.1 s_.2) 4611686018427387904 (0,([]:LL))) fun u0 =>
some u0
theorem Wl {a0:Int} {r:LL} (h:E6 a0=some r):Kd Tryd.prog Tab 92 [ai a0] [] (oS 0 1 r.length) [(oi 0 1,.mat 23 (oi 1 1) .int r),(oi 1 1,.pool 3 .int r)]:=by
 refine Ga (by kernel_rfl) Tryd.func92 Xg (n:=18) (by kernel_rfl) (by simp) (tl:=[(0,ai a0)]) rfl (by kernel_rfl) trivial ⟨⟨3,.tail _ (.head _)⟩,⟨trivial,trivial⟩⟩ ?_;unfold Ol;unfold E6 at h;refine Al ?_;refine Ab ?_;refine Aa 4 ?_;refine Zs (oS 5 2 0) (oi 5 2) (.vec 23 1 0 []) trivial (G1 (by kernel_rfl)) ?_;refine rsB 1 ?_;refine Aq (tn_ ?_);refine ⟨_,B2 (e1:=23) (n:=0) 9000 (oi 5 2) 3 .int (by kernel_rfl) (by kernel_rfl) rfl (by kernel_rfl) (by kernel_rfl),?_⟩;refine Ar h (fun (u1:LL) S_=>S_=⟨Ao [(3,oS 0 1 u1.length)],Aj (Ap [(oi 0 1,.mat 23 (oi 1 1) .int u1),(oi 1 1,.pool 3 .int u1)]),2⟩) ?_ ?_
 ·intro v_ h;refine Al ?_;refine Ae ?_;refine Av h (fun t_ S_=>∃ (u2:Nat),∃ (u0:LL),t_=(u2,u0)∧S_=⟨Ao [(0,ai a0),(3,oS 0 1 u0.length),(6,ai a0),(7,an u2)],Aj (Ap [(oi 0 1,.mat 23 (oi 1 1) .int u0),(oi 1 1,.pool 3 .int u0)]),2⟩) ⟨_,Ac [(oi 0 1,oi 5 2),(oi 1 1,oi 9000 4)],⟨0,([]:LL),rfl,rfl⟩⟩ ?_;rintro n_ _ _ c_ ⟨u2,u0,rfl,rfl⟩ h hn6
  (try dsimp only at h);unfold Dh at h;unfold Mb;refine Al ?_;refine Ab ?_;rcases Af h with ⟨q9,h⟩ | ⟨q9,h⟩
  ·have q9_:=of_decide_eq_true q9;refine Ah q9 ?_;refine Ai (tn_ ?_);refine wr_ ?_;refine Ab ?_;refine Ae ?_;refine Al ?_;obtain ⟨y12,h12,h⟩:=Ad h;obtain ⟨g13,h⟩:=Am h;refine Aa 12 ?_;refine rsB 3 ?_;refine zc (oI 208 8 y12.length) [nI 208 8 y12] [ai a0,an u2] (Ur h12) ?_;refine Zs (oS 14 9 1) (oi 14 9) (.vec 23 1 1 ([oI 208 8 y12.length])) trivial (G1 (by kernel_rfl)) ?_;refine rs2 (oS 0 10 (u0.length+1)) (oi 0 1) (oi 0 10) (.vec 23 1 (u0.length+1) (hdL (oi 1 1) .int u0++[oI 208 8 y12.length])) (Dd (u:=.int) (t':=sI) (t2:=sI) (o:=oi 0 1) (q:=oi 14 9) (e2:=23) (p:=oi 1 1) (xss:=u0) (cs:=[oI 208 8 y12.length]) (len:=u0.length) (by kernel_rfl) (by kernel_rfl) rfl (by kernel_rfl) (by kernel_rfl) rfl g13) ?_;refine rsB 1 ?_;refine Aq (bn_ (tn_ ?_));refine ⟨_,B8 (e1:=23) (e:=3) (u:=.int) (n:=u0.length+1) (len:=y12.length) (row:=y12) (ys:=y12) (xss:=u0) 9000 (oi 0 10) (oi 1 1) (oi 208 8) (by kernel_rfl) (by kernel_rfl) rfl (by kernel_rfl) (by kernel_rfl) (H2 rfl) (H1 rfl) (by kernel_rfl) (by kernel_rfl) (by kernel_rfl),?_⟩;obtain ⟨g14,h⟩:=Am h;refine Aa 15 ?_;refine zA g14 ?_;refine rsB 1 ?_;refine Aq (tn_ ?_);obtain rfl:=zj h;exact ⟨(u2+1,u0++[y12]),_,(A8 3 (oS 0 10 (u0.length+1)) (oS 0 10 ((u0++[y12]).length)) (by kernel_rfl) (congrArg (fun z_=>((oS 0 10 z_):AV)) ((by simp):u0.length+1=(u0++[y12]).length))).trans (Ac [(oi 0 1,oi 0 10),(oi 1 1,oi 9000 12)]),⟨u2+1,u0++[y12],rfl,rfl⟩,hn6⟩
  have q9_:=of_decide_eq_false q9;refine Ag q9 ?_;refine Au (te_ (te_ (be_ (tn_ ?_))));obtain rfl:=zj h;have h:=hn6
  (try dsimp only at h);obtain rfl:=zj h;exact ⟨_,Ac [],rfl⟩
 rintro u1 _ rfl h
 (try dsimp only at h);refine Al ?_;refine An ?_;obtain rfl:=zj h;exact Oi [oS 0 1 u1.length] (Ac (tl:=[(2,oS 0 1 u1.length)]) (g:=2) [])
def Xx:AC :=
 (.seq (rg [xo 6 (qm (.cst .nils))])
 (.seq (rg [xm 10 1,xo 11 (qc 59 [tm 10] [[some sI]]),xm 12 1,xn1 13 12,xo 14 (qc 92 [tm 13] [[]]),xm 7 11,xm 8 14])
 (.seq (rg [xm 15 0,xm 16 7,xm 17 2,xm 18 8,xo 19 (qc 90 [tm 15,tm 16,tm 17,tm 18] [[],[some sI],[],[some sI]]),xm 9 19])
 (.seq (rg [xm 20 0,xm 21 8,xm 22 9,xo 23 (.slice 1 (tm 21) (some (tm 22)) none none),xm 24 1,xn1 25 24,xo 26 (qc 85 [tm 20,tm 23,tm 25] [[],[some sI],[]]),xm 6 26])
 .ret))))
def Ake:List Res:=[.tmp 6]
theorem Ajq:At Tryd.prog Tryd.f88=some (Xx,Ake):=by kernel_rfl
theorem Ag1:Be Tryd.prog 88=true:=by kernel_rfl
def Ir (a0:Int) (a1:LL) (a2:Int):Option (LL) :=
 Option.bind (Dc a1) fun y4 =>
Option.bind (E6 (a1.length:Int)) fun y5 =>
Option.bind (Fj a0 y4 a2 y5) fun y7 =>
og (y7.1.length=y4.length) <|
og (y7.2.1.length=y5.length) <|
og ((0:Int)<=(y7.2.2:Int)∧(y7.2.2:Int)<=(y5.length:Int)∧(y5.length:Int)<=(y5.length:Int)) <|
Option.bind (Fm a0 (y7.2.1.drop y7.2.2) (a1.length:Int)) fun y12 =>
some y12
theorem Aif {a0:Int} {a1:LL} {a2:Int} {r:LL} (h:Ir a0 a1 a2=some r):Kd Tryd.prog Tab 88 [ai a0,tS a1,ai a2] [] (oS 0 1 r.length) [(oi 0 1,.mat 23 (oi 1 1) .int r),(oi 1 1,.pool 3 .int r)]:=by
 refine Ga (by kernel_rfl) Tryd.func88 Ajq (n:=27) (by kernel_rfl) (by simp) (tl:=[(0,ai a0),(1,tS a1),(2,ai a2)]) rfl (by kernel_rfl) trivial ⟨⟨3,.tail _ (.head _)⟩,⟨trivial,trivial⟩⟩ ?_;unfold Xx;unfold Ir at h;refine Al ?_;refine Ab ?_;obtain ⟨y4,h4,h⟩:=Ad h;obtain ⟨y5,h5,h⟩:=Ad h;refine Aa 9 ?_;refine rsB 1 ?_;refine Ic (oS 176 3 y4.length) [(oi 176 3,some (.mat 23 (oi 177 3) .int y4)),(oi 177 3,some (.pool 3 .int y4))] [] [tS a1] (caps:=[]) trivial (Hn h4) Hp trivial (.cons (.ren (by kernel_rfl)) .nil) (Bj (by kernel_rfl) (by kernel_rfl) trivial) ?_;refine rsB 2 ?_;refine Ic (oS 224 6 y5.length) [(oi 224 6,some (.mat 23 (oi 225 6) .int y5)),(oi 225 6,some (.pool 3 .int y5))] [] [an a1.length] (caps:=[]) trivial (Wl h5) V0 trivial (.cons (.ren (by kernel_rfl)) .nil) (Bj (by kernel_rfl) (by kernel_rfl) trivial) ?_;refine rsB 2 ?_;refine Aq (tn_ ?_);refine wr_ ?_;refine Ab ?_;obtain ⟨y7,h7,h⟩:=Ad h;obtain ⟨g8,h⟩:=Am h;obtain ⟨g9,h⟩:=Am h;refine Aa 15 ?_;refine rsB 4 ?_;refine Ic (an y7.2.2) [(oi 176 3,some (.mat 23 (oi 304 13) .int y7.1)),(oi 304 13,some (.pool 3 .int y7.1)),(oi 224 6,some (.mat 23 (oi 305 13) .int y7.2.1)),(oi 305 13,some (.pool 3 .int y7.2.1)),(oi 176 3,none),(oi 177 3,some (.pool 3 .int [])),(oi 224 6,none),(oi 225 6,some (.pool 3 .int []))] [(oi 0 0,oi 176 3),(oi 1 0,oi 177 3),(oi 2 0,oi 224 6),(oi 3 0,oi 225 6)] [ai a0,oS 176 3 y4.length,ai a2,oS 224 6 y5.length] (caps:=[]) trivial (Q4 h7 rfl rfl) Rn ⟨by kernel_rfl,⟨by kernel_rfl,⟨by kernel_rfl,⟨by kernel_rfl,trivial⟩⟩⟩⟩ (.cons (.ren (by kernel_rfl)) (.cons (.ren (by kernel_rfl)) (.cons (.ren (by kernel_rfl)) (.cons (.ren (by kernel_rfl)) .nil)))) (Bj (by kernel_rfl) (by kernel_rfl) ⟨Ck (by kernel_rfl),⟨K0 (o:=oi 176 3) (p:=oi 177 3) (e1:=23) (m:=y4.length) (u:=.int) (xss:=y4) (Ck (by kernel_rfl)) (by kernel_rfl),⟨Ck (by kernel_rfl),⟨K0 (o:=oi 224 6) (p:=oi 225 6) (e1:=23) (m:=y5.length) (u:=.int) (xss:=y5) (Ck (by kernel_rfl)) (by kernel_rfl),trivial⟩⟩⟩⟩) ?_;refine rsB 1 ?_;refine Aq (tn_ ?_);refine wr_ ?_;refine Ab ?_;obtain ⟨g11,h⟩:=Am h;obtain ⟨y12,h12,h⟩:=Ad h;refine Aa 23 ?_;refine rsB 3 ?_;refine rs0 (.own (oi 224 6) sI y7.2.2 (y5.length - y7.2.2)) (An9 (t:=sI) (i:=oi 224 6) (off:=0) (len:=y5.length) (l:=(y7.2.2:Int)) (h:=(y5.length:Int)) (by kernel_rfl) (by kernel_rfl) (by kernel_rfl) rfl g11 (Nat.zero_add _) (by omega)) ?_;refine rsB 2 ?_;refine Ic (oS 416 21 y12.length) [(oi 416 21,some (.mat 23 (oi 417 21) .int y12)),(oi 417 21,some (.pool 3 .int y12))] [] [ai a0,.own (oi 224 6) sI y7.2.2 (y5.length - y7.2.2),an a1.length] (caps:=[]) trivial (Oc h12) N3 trivial (.cons (.ren (by kernel_rfl)) (.cons (.gnd (by kernel_rfl) (Ayn (p:=oi 305 13) (e1:=23) (e:=3) (u:=.int) (xss:=y7.2.1) (ys:=y7.2.1.drop y7.2.2) ((G4 (by kernel_rfl) (by kernel_rfl) (by kernel_rfl)).trans (by kernel_rfl)) (Th (by kernel_rfl) (by kernel_rfl) (Bn (by kernel_rfl)) (by kernel_rfl)) (by have z_:y5.length=y7.2.1.length:=g9.symm; omega) (List.take_of_length_le (by rw [List.length_drop]; have z_:y5.length=y7.2.1.length:=g9.symm; omega)))) (.cons (.ren (by kernel_rfl)) .nil))) (Bj (by kernel_rfl) (by kernel_rfl) trivial) ?_;refine rsB 1 ?_;refine Aq (tn_ ?_);refine wr_ ?_;refine An ?_;obtain rfl:=zj h;exact Oi [oS 0 1 y12.length] (Ac (tl:=[(6,oS 0 1 y12.length)]) (g:=2) [(oi 0 1,oi 416 21),(oi 1 1,oi 417 21)])
def Tm:AC :=
 (.seq (rg [xs1 63 62 61])
 (.seq (.cond (tm 63)
  .skip
  (.exit 6))
 (.seq (.block 7 (.seq (rg [xm 64 62,xx 65 1 60 62,xl 66 65,xm 15 64,xm 16 66])
 (.region [xm 67 14,xm 68 7,xm 69 15,xx 70 1 68 69,xl 71 70,xo 72 (qc 24 [tm 71] [[some .int]]),xm 73 0,xm 74 16,xm 75 13,xx 76 1 74 75,xl 77 76,xo 78 (qc 75 [tm 73,tm 77] [[],[]]),xx 79 1 67 72,xn (qs (tm 79) (tm 78))] true [(5,10)])))
 (rg [xa 80 62,xm 62 80]))))
def R4:AC :=
 (.seq (.seq (rg [xm 45 13,xm 46 1,xs1 47 45 46])
 (.cond (tm 47)
  .skip
  (.exit 4)))
 (.seq (.block 5 (.seq (.seq (rg [xm 50 8,xm 51 13,xx 52 1 50 51,xl 53 52,xo 54 (qb .geq (tm 53) (ci 0))])
 (.cond (tm 54)
  (.exit 5)
  .skip))
 (.seq (rg [xm 55 1,xo 56 (.make 3 .int 8 (tm 55) (tm 55)),xm 14 56])
 (.seq (rg [xm 57 14,xm 58 13,xx 59 1 57 58,xn (qs (tm 59) (ci 1))])
 (.seq (.seq (rg [xm 60 7,xn1 61 60,xo 62 (qm (ci 0))])
 (.block 6 (.loop Tm)))
 (rg [xm 81 12,xm 82 14,xo 83 (.mkV 23 sI 1 [tm 82]),xo 84 (.appV 23 sI 24 (tm 81) (tm 83)),xm 12 84]))))))
 (rg [xm 48 13,xa 49 48,xm 13 49])))
def Sp:AC :=
 (.seq (rg [xs1 35 34 33])
 (.seq (.cond (tm 35)
  .skip
  (.exit 2))
 (.seq (.block 3 (.seq (rg [xm 36 34,xx 37 1 32 34,xl 38 37,xm 10 36,xm 11 38])
 (rg [xm 39 8,xm 40 11,xo 41 (qc 24 [tm 40] [[some .int]]),xm 42 10,xx 43 1 39 41,xn (qs (tm 43) (tm 42))])))
 (rg [xa 44 34,xm 34 44]))))
def Sx:AC :=
 (.seq (rg [xs1 26 25 24])
 (.seq (.cond (tm 26)
  .skip
  (.exit 0))
 (.seq (.block 1 (.seq (rg [xm 27 25,xm 9 27])
 (rg [xm 28 8,xm 29 9,xx 30 1 28 29,xn (qs (tm 30) (ci (-1)))])))
 (rg [xa 31 25,xm 25 31]))))
def Xo:AC :=
 (.seq (rg [xo 6 (qm (.cst .nils))])
 (.seq (rg [xm 17 0,xm 18 1,xm 19 2,xo 20 (qc 72 [tm 17,tm 18,tm 19] [[],[],[some sI]]),xm 7 20])
 (.seq (rg [xm 21 1,xo 22 (.make 3 .int 8 (tm 21) (tm 21)),xm 8 22])
 (.seq (.seq (rg [xm 23 8,xn1 24 23,xo 25 (qm (ci 0))])
 (.block 0 (.loop Sx)))
 (.seq (.seq (rg [xm 32 7,xn1 33 32,xo 34 (qm (ci 0))])
 (.block 2 (.loop Sp)))
 (.seq (rg [xo 12 (qm (.cst .nils))])
 (.seq (.seq (rg [xo 13 (qm (ci 0))])
 (.block 4 (.loop R4)))
 (.seq (rg [xm 85 0,xm 86 1,xm 87 12,xo 88 (qc 72 [tm 85,tm 86,tm 87] [[],[],[some sI]]),xm 6 88])
 .ret))))))))
def Ajt:List Res:=[.tmp 6]
theorem Air:At Tryd.prog Tryd.f46=some (Xo,Ajt):=by kernel_rfl
theorem Afk:Be Tryd.prog 46=true:=by kernel_rfl
def Hf (a1:Int) (u0:Nat) (u1:List Int):Option (Ctl (Nat×List Int) (List Int)) :=
 cond (decide ((u0:Int)<(a1.toNat:Int)))
 (Option.bind (u1[u0]?) fun x15 =>
 og (u0+1<4611686018427387904) <|
 some (Ctl.next (u0+1,u1.set u0 (-1))))
 (some (Ctl.out u1))
def Hu (y4:LL) (u0:Nat) (u1:List Int):Option (Ctl (Nat×List Int) (List Int)) :=
 cond (decide ((u0:Int)<(y4.length:Int)))
 (Option.bind (y4[u0]?) fun x25 =>
 Option.bind (Ea x25) fun y26 =>
 Option.bind (E2 u1 y26) fun x27 =>
 og (u0+1<4611686018427387904) <|
 some (Ctl.next (u0+1,u1.set y26.toNat (u0:Int))))
 (some (Ctl.out u1))
def G8 (y4:LL) (u2:Nat) (a0:Int) (u0:Nat) (u1:List Int):Option (Ctl (Nat×List Int) (List Int)) :=
 cond (decide ((u0:Int)<(y4.length:Int)))
 (Option.bind (y4[u0]?) fun x53 =>
 Option.bind (Ea x53) fun y54 =>
 Option.bind (x53[u2]?) fun x55 =>
 Option.bind (L5 a0 x55) fun y56 =>
 Option.bind (E2 u1 y54) fun x57 =>
 og (u0+1<4611686018427387904) <|
 some (Ctl.next (u0+1,u1.set y54.toNat y56)))
 (some (Ctl.out u1))
def Hi (a1:Int) (u2:List Int) (y4:LL) (a0:Int) (u0:Nat) (u1:LL):Option (Ctl (Nat×LL) (LL)) :=
 cond (decide ((u0:Int)<a1))
 (Option.bind (Option.bind (u2[u0]?) fun x39 =>
  cond (decide (0<=x39))
   (some u1)
   (og (0<=a1∧a1<=a1∧a1<=1073741824∧(8:Int)*a1<=140737488355328) <|
   Option.bind ((List.replicate a1.toNat (0:Int))[u0]?) fun x44 =>
   Option.bind (Aw (fun s_:Nat×List Int=>G8 y4 u0 a0 s_.1 s_.2) 4611686018427387904 (0,(List.replicate a1.toNat (0:Int)).set u0 1)) fun u3 =>
   og (u1.length+1<=1073741824∧(u1.length+1)*24<=140737488355328) <|
   some (u1++[u3]))) fun u4 =>
 og (u0+1<4611686018427387904) <|
 some (Ctl.next (u0+1,u4)))
 (some (Ctl.out u1))
def Kv (a0 a1:Int) (a2:LL):Option (LL) :=
 Option.bind (Dn a0 a1 a2) fun y4 =>
og (0<=a1∧a1<=a1∧a1<=1073741824∧(8:Int)*a1<=140737488355328) <|
Option.bind (Aw (fun s_:Nat×List Int=>Hf a1 s_.1 s_.2) 4611686018427387904 (0,List.replicate a1.toNat (0:Int))) fun u0 =>
Option.bind (Aw (fun s_:Nat×List Int=>Hu y4 s_.1 s_.2) 4611686018427387904 (0,u0)) fun u1 =>
Option.bind (Aw (fun s_:Nat×LL=>Hi a1 u1 y4 a0 s_.1 s_.2) 4611686018427387904 (0,([]:LL))) fun u2 =>
Option.bind (Dn a0 a1 u2) fun y62 =>
some y62
theorem Agj {a0 a1:Int} {a2 r:LL} (h:Kv a0 a1 a2=some r):Kd Tryd.prog Tab 46 [ai a0,ai a1,tS a2] [] (oS 0 1 r.length) [(oi 0 1,.mat 23 (oi 1 1) .int r),(oi 1 1,.pool 3 .int r)]:=by
 refine Ga (by kernel_rfl) Tryd.func46 Air (n:=89) (by kernel_rfl) (by simp) (tl:=[(0,ai a0),(1,ai a1),(2,tS a2)]) rfl (by kernel_rfl) trivial ⟨⟨3,.tail _ (.head _)⟩,⟨trivial,trivial⟩⟩ ?_;unfold Xo;unfold Kv at h;refine Al ?_;refine Ab ?_;obtain ⟨y4,h4,h⟩:=Ad h;refine Aa 7 ?_;refine rsB 3 ?_;refine Ic (oS 320 5 y4.length) [(oi 320 5,some (.mat 23 (oi 321 5) .int y4)),(oi 321 5,some (.pool 3 .int y4))] [] [ai a0,ai a1,tS a2] (caps:=[]) trivial (Ju h4) J0 trivial (.cons (.ren (by kernel_rfl)) (.cons (.ren (by kernel_rfl)) (.cons (.ren (by kernel_rfl)) .nil))) (Bj (by kernel_rfl) (by kernel_rfl) trivial) ?_;refine rsB 1 ?_;refine Aq (tn_ ?_);refine wr_ ?_;refine Ab ?_;obtain ⟨g6,h⟩:=Am h;refine Aa 10 ?_;refine rsB 1 ?_;refine rs1 (oI 22 8 a1.toNat) (oi 22 8) (.arr 3 .int (List.replicate a1.toNat (0:Int))) (Lu (t:=.int) (k:=.i64) (k':=.i64) (m:=a1) (m':=a1) (by kernel_rfl) (by kernel_rfl) g6 rfl) ?_;refine rsB 1 ?_;refine Aq (tn_ ?_);refine wr_ ?_;refine Ar h (fun (uc:List Int) S_=>S_=⟨Ao [(0,ai a0),(1,ai a1),(7,oS 0 1 y4.length),(8,oI 2 1 uc.length)],Aj (Ap [(oi 0 1,.mat 23 (oi 1 1) .int y4),(oi 1 1,.pool 3 .int y4),(oi 2 1,.arr 3 .int uc)]),2⟩) ?_ ?_
 ·intro v_ h;refine Al ?_;refine Ae ?_;refine Av h (fun t_ S_=>∃ (u9:Nat),∃ (u4:List Int),t_=(u9,u4)∧S_=⟨Ao [(0,ai a0),(1,ai a1),(7,oS 0 1 y4.length),(8,oI 2 1 u4.length),(24,an a1.toNat),(25,an u9)],Aj (Ap [(oi 0 1,.mat 23 (oi 1 1) .int y4),(oi 1 1,.pool 3 .int y4),(oi 2 1,.arr 3 .int u4)]),2⟩) ⟨_,(A8 8 (oI 22 8 a1.toNat) (oI 22 8 ((List.replicate a1.toNat (0:Int)).length)) (by kernel_rfl) (congrArg (fun z_=>((oI 22 8 z_):AV)) (List.length_replicate.symm:a1.toNat=(List.replicate a1.toNat (0:Int)).length))).trans (Ac [(oi 0 1,oi 320 5),(oi 1 1,oi 321 5),(oi 2 1,oi 22 8)]),⟨0,List.replicate a1.toNat (0:Int),rfl,rfl⟩⟩ ?_;rintro n_ _ _ c_ ⟨u9,u4,rfl,rfl⟩ h hn9
  (try dsimp only at h);unfold Hf at h;unfold Sx;refine Al ?_;refine Ab ?_;rcases Af h with ⟨q12,h⟩ | ⟨q12,h⟩
  ·have q12_:=of_decide_eq_true q12;refine Ah q12 ?_;refine Ai (tn_ ?_);refine wr_ ?_;refine Ab ?_;refine Ae ?_;refine Al ?_;obtain ⟨x15,e15,h⟩:=Ad h;refine Aa 9 ?_;refine rsB 2 ?_;refine zO (oi 2 1) .int u4.length (As e15) ?_;refine zS (oi 2 1) (-1) e15 ?_;refine Aq (bn_ (tn_ ?_));refine wr_ ?_;obtain ⟨g16,h⟩:=Am h;refine Aa 11 ?_;refine zA g16 ?_;refine rsB 1 ?_;refine Aq (tn_ ?_);obtain rfl:=zj h;exact ⟨(u9+1,u4.set u9 (-1)),_,(A8 8 (oI 2 1 u4.length) (oI 2 1 ((u4.set u9 (-1)).length)) (by kernel_rfl) (congrArg (fun z_=>((oI 2 1 z_):AV)) (((rfl:u4.length=u4.length).trans List.length_set.symm):u4.length=(u4.set u9 (-1)).length))).trans (Ac []),⟨u9+1,u4.set u9 (-1),rfl,rfl⟩,hn9⟩
  have q12_:=of_decide_eq_false q12;refine Ag q12 ?_;refine Au (te_ (te_ (be_ (tn_ ?_))));obtain rfl:=zj h;have h:=hn9
  (try dsimp only at h);obtain rfl:=zj h;exact ⟨_,Ac [],rfl⟩
 rintro uc _ rfl h
 (try dsimp only at h);refine Ar h (fun (u7:List Int) S_=>S_=⟨Ao [(0,ai a0),(1,ai a1),(7,oS 0 1 y4.length),(8,oI 2 1 u7.length)],Aj (Ap [(oi 0 1,.mat 23 (oi 1 1) .int y4),(oi 1 1,.pool 3 .int y4),(oi 2 1,.arr 3 .int u7)]),2⟩) ?_ ?_
 ·intro v_ h;refine Al ?_;refine Ae ?_;refine Av h (fun t_ S_=>∃ (u5:Nat),∃ (u6:List Int),t_=(u5,u6)∧S_=⟨Ao [(0,ai a0),(1,ai a1),(7,oS 0 1 y4.length),(8,oI 2 1 u6.length),(32,oS 0 1 y4.length),(33,an y4.length),(34,an u5)],Aj (Ap [(oi 0 1,.mat 23 (oi 1 1) .int y4),(oi 1 1,.pool 3 .int y4),(oi 2 1,.arr 3 .int u6)]),2⟩) ⟨_,Ac [],⟨0,uc,rfl,rfl⟩⟩ ?_;rintro n_ _ _ c_ ⟨u5,u6,rfl,rfl⟩ h hn19
  (try dsimp only at h);unfold Hu at h;unfold Sp;refine Al ?_;refine Ab ?_;rcases Af h with ⟨q22,h⟩ | ⟨q22,h⟩
  ·have q22_:=of_decide_eq_true q22;refine Ah q22 ?_;refine Ai (tn_ ?_);refine wr_ ?_;refine Ab ?_;refine Ae ?_;refine Ab ?_;obtain ⟨x25,e25,h⟩:=Ad h;refine Aa 8 ?_;refine rsB 1 ?_;refine zO (oi 0 1) sI y4.length (As e25) ?_;refine rsl (.own (kid (oi 1 1) u5) .int 0 x25.length) (Gu (o:=oi 0 1) (p:=oi 1 1) (e1:=23) (u:=.int) (xss:=y4) (row:=x25) (j:=u5) (by kernel_rfl) (by kernel_rfl) e25) ?_;refine rsB 2 ?_;refine Aq (tn_ ?_);refine wr_ ?_;obtain ⟨y26,h26,h⟩:=Ad h;obtain ⟨x27,f27,h⟩:=Ad h;obtain ⟨p27,b27,e27⟩:=Ba f27;refine Aa 14 ?_;refine rsB 2 ?_;refine Cm (ai y26) [] [.own (kid (oi 1 1) u5) .int 0 x25.length] _ (caps:=[]) (args0:=[tI x25]) trivial (Ay (Ca (e:=3) (u:=.int) (xs:=x25) (Bw (by kernel_rfl) e25) rfl) B9) (Jd h26) Ph ?_;refine rsB 1 ?_;refine rs0 (.elt (oi 2 1) y26.toNat 0) (zo (t:=.int) (o:=oi 2 1) (len:=u6.length) (k:=.i64) (m:=y26) p27 (As e27)) ?_;refine zS (oi 2 1) ((u5:Int)) e27 ?_;refine Aq (bn_ (tn_ ?_));refine wr_ ?_;obtain ⟨g28,h⟩:=Am h;refine Aa 16 ?_;refine zA g28 ?_;refine rsB 1 ?_;refine Aq (tn_ ?_);obtain rfl:=zj h;exact ⟨(u5+1,u6.set y26.toNat (u5:Int)),_,(A8 8 (oI 2 1 u6.length) (oI 2 1 ((u6.set y26.toNat (u5:Int)).length)) (by kernel_rfl) (congrArg (fun z_=>((oI 2 1 z_):AV)) (((rfl:u6.length=u6.length).trans List.length_set.symm):u6.length=(u6.set y26.toNat (u5:Int)).length))).trans (Ac []),⟨u5+1,u6.set y26.toNat (u5:Int),rfl,rfl⟩,hn19⟩
  have q22_:=of_decide_eq_false q22;refine Ag q22 ?_;refine Au (te_ (te_ (be_ (tn_ ?_))));obtain rfl:=zj h;have h:=hn19
  (try dsimp only at h);obtain rfl:=zj h;exact ⟨_,Ac [],rfl⟩
 rintro u7 _ rfl h
 (try dsimp only at h);refine Al ?_;refine Ar h (fun (ua:LL) S_=>S_=⟨Ao [(0,ai a0),(1,ai a1),(12,oS 0 1 ua.length)],Aj (Ap [(oi 0 1,.mat 23 (oi 1 1) .int ua),(oi 1 1,.pool 3 .int ua)]),2⟩) ?_ ?_
 ·intro v_ h;refine Al ?_;refine Ae ?_;refine Av h (fun t_ S_=>∃ (u1:Nat),∃ (u0:LL),t_=(u1,u0)∧S_=⟨Ao [(0,ai a0),(1,ai a1),(7,oS 0 1 y4.length),(8,oI 2 1 u7.length),(12,oS 3 1 u0.length),(13,an u1)],Aj (Ap [(oi 0 1,.mat 23 (oi 1 1) .int y4),(oi 1 1,.pool 3 .int y4),(oi 2 1,.arr 3 .int u7),(oi 3 1,.mat 23 (oi 4 1) .int u0),(oi 4 1,.pool 3 .int u0)]),2⟩) ⟨_,(Ug 12 23 sI (by kernel_rfl)).trans ((B2 (e1:=23) (n:=0) 9000 (oi 12 4) 3 .int (by kernel_rfl) (by kernel_rfl) rfl (by kernel_rfl) (by kernel_rfl)).trans (Ac [(oi 3 1,oi 12 4),(oi 4 1,oi 9000 5)])),⟨0,([]:LL),rfl,rfl⟩⟩ ?_;rintro n_ _ _ c_ ⟨u1,u0,rfl,rfl⟩ h hn32
  (try dsimp only at h);unfold Hi at h;unfold R4;refine Ab ?_;refine Al ?_;rcases Af h with ⟨q35,h⟩ | ⟨q35,h⟩
  ·have q35_:=of_decide_eq_true q35;refine Ah q35 ?_;refine Ai (tn_ ?_);refine wr_ ?_;refine Ar h (fun (ub:LL) S_=>S_=⟨Ao [(0,ai a0),(1,ai a1),(7,oS 0 1 y4.length),(8,oI 2 1 u7.length),(12,oS 3 1 ub.length),(13,an u1)],Aj (Ap [(oi 0 1,.mat 23 (oi 1 1) .int y4),(oi 1 1,.pool 3 .int y4),(oi 2 1,.arr 3 .int u7),(oi 3 1,.mat 23 (oi 4 1) .int ub),(oi 4 1,.pool 3 .int ub)]),2⟩) ?_ ?_
   ·intro v_ h;refine Ae ?_;refine Ab ?_;refine Ab ?_;obtain ⟨x39,e39,h⟩:=Ad h;refine Aa 10 ?_;refine rsB 2 ?_;refine zO (oi 2 1) .int u7.length (As e39) ?_;refine zE (oi 2 1) e39 ?_;refine rsB 1 ?_;refine Aq (tn_ ?_);refine wr_ ?_;rcases Af h with ⟨q40,h⟩ | ⟨q40,h⟩
    ·have q40_:=of_decide_eq_true q40;refine Ah q40 ?_;refine Au (te_ (be_ (tn_ ?_)));obtain rfl:=zj h;exact ⟨_,Ac [],rfl⟩
    have q40_:=of_decide_eq_false q40;refine Ag q40 ?_;refine Ai (tn_ ?_);refine wr_ ?_;refine Ab ?_;obtain ⟨g42,h⟩:=Am h;refine Aa 13 ?_;refine rsB 1 ?_;refine rs1 (oI 56 11 a1.toNat) (oi 56 11) (.arr 3 .int (List.replicate a1.toNat (0:Int))) (Lu (t:=.int) (k:=.i64) (k':=.i64) (m:=a1) (m':=a1) (by kernel_rfl) (by kernel_rfl) g42 rfl) ?_;refine rsB 1 ?_;refine Aq (tn_ ?_);refine wr_ ?_;refine Ab ?_;obtain ⟨x44,e44,h⟩:=Ad h;refine Aa 17 ?_;refine rsB 2 ?_;refine rs0 (.elt (oi 56 11) u1 0) (zo (t:=.int) (o:=oi 56 11) (len:=a1.toNat) (k:=.i64) (m:=(u1:Int)) (Dp _) (Nat.lt_of_lt_of_le (As e44) (Nat.le_of_eq (Eq.symm List.length_replicate.symm)))) ?_;refine zS (oi 56 11) (1) e44 ?_;refine Aq (tn_ ?_);refine wr_ ?_;refine Ar h (fun (u8:List Int) S_=>S_=⟨Ao [(0,ai a0),(1,ai a1),(7,oS 0 1 y4.length),(8,oI 2 1 u7.length),(12,oS 3 1 u0.length),(13,an u1),(14,oI 5 1 u8.length)],Aj (Ap [(oi 0 1,.mat 23 (oi 1 1) .int y4),(oi 1 1,.pool 3 .int y4),(oi 2 1,.arr 3 .int u7),(oi 3 1,.mat 23 (oi 4 1) .int u0),(oi 4 1,.pool 3 .int u0),(oi 5 1,.arr 3 .int u8)]),2⟩) ?_ ?_
    ·intro v_ h;refine Al ?_;refine Ae ?_;refine Av h (fun t_ S_=>∃ (u2:Nat),∃ (u3:List Int),t_=(u2,u3)∧S_=⟨Ao [(0,ai a0),(1,ai a1),(7,oS 0 1 y4.length),(8,oI 2 1 u7.length),(12,oS 3 1 u0.length),(13,an u1),(14,oI 5 1 u3.length),(60,oS 0 1 y4.length),(61,an y4.length),(62,an u2)],Aj (Ap [(oi 0 1,.mat 23 (oi 1 1) .int y4),(oi 1 1,.pool 3 .int y4),(oi 2 1,.arr 3 .int u7),(oi 3 1,.mat 23 (oi 4 1) .int u0),(oi 4 1,.pool 3 .int u0),(oi 5 1,.arr 3 .int u3)]),2⟩) ⟨_,(A8 14 (oI 56 11 a1.toNat) (oI 56 11 (((List.replicate a1.toNat (0:Int)).set u1 1).length)) (by kernel_rfl) (congrArg (fun z_=>((oI 56 11 z_):AV)) ((List.length_replicate.symm.trans List.length_set.symm):a1.toNat=((List.replicate a1.toNat (0:Int)).set u1 1).length))).trans (Ac [(oi 5 1,oi 56 11)]),⟨0,(List.replicate a1.toNat (0:Int)).set u1 1,rfl,rfl⟩⟩ ?_;rintro n_ _ _ c_ ⟨u2,u3,rfl,rfl⟩ h hn47
     (try dsimp only at h);unfold G8 at h;unfold Tm;refine Al ?_;refine Ab ?_;rcases Af h with ⟨q50,h⟩ | ⟨q50,h⟩
     ·have q50_:=of_decide_eq_true q50;refine Ah q50 ?_;refine Ai (tn_ ?_);refine wr_ ?_;refine Ab ?_;refine Ae ?_;refine Ab ?_;obtain ⟨x53,e53,h⟩:=Ad h;refine Aa 8 ?_;refine rsB 1 ?_;refine zO (oi 0 1) sI y4.length (As e53) ?_;refine rsl (.own (kid (oi 1 1) u2) .int 0 x53.length) (Gu (o:=oi 0 1) (p:=oi 1 1) (e1:=23) (u:=.int) (xss:=y4) (row:=x53) (j:=u2) (by kernel_rfl) (by kernel_rfl) e53) ?_;refine rsB 2 ?_;refine Aq (tn_ ?_);refine wr_ ?_;obtain ⟨y54,h54,h⟩:=Ad h;obtain ⟨x55,e55,h⟩:=Ad h;obtain ⟨y56,h56,h⟩:=Ad h;obtain ⟨x57,f57,h⟩:=Ad h;obtain ⟨p57,b57,e57⟩:=Ba f57;refine Ax 22 ?_;refine dz0 (oI 5 1 u3.length) ?_;refine dz0 (oS 0 1 y4.length) ?_;refine dz0 (an u2) ?_;refine dzO (oi 0 1) sI y4.length (As e53) ?_;refine dsl (.own (kid (oi 1 1) u2) .int 0 x53.length) (Gu (o:=oi 0 1) (p:=oi 1 1) (e1:=23) (u:=.int) (xss:=y4) (row:=x53) (j:=u2) (by kernel_rfl) (by kernel_rfl) e53) ?_;refine Lg (ai y54) [] [.own (kid (oi 1 1) u2) .int 0 x53.length] _ (caps:=[]) (args0:=[tI x53]) trivial (Ay (Ca (e:=3) (u:=.int) (xs:=x53) ((O2 (Aqk (t:=.int) (off:=0) (len:=x53.length) 0 rfl (by kernel_rfl))).trans (Bw (by kernel_rfl) e53)) rfl) B9) (Jd h54) Ph ?_;refine dz0 (ai a0) ?_;refine dz0 (.own (kid (oi 1 1) u2) .int 0 x53.length) ?_;refine dz0 (an u1) ?_;refine ds0 (.elt (kid (oi 1 1) u2) u1 0) (zo (t:=.int) (o:=kid (oi 1 1) u2) (len:=x53.length) (k:=.i64) (m:=(u1:Int)) (Dp _) (As e55)) ?_;refine dsl (ai x55) (Mu (i:=kid (oi 1 1) u2) (j:=u1) (k:=0) (e:=3) (t:=.int) (xs:=x53) (by kernel_rfl) (Ahx.trans (Bw (by kernel_rfl) e53)) e55 (by kernel_rfl)) ?_;refine dzc (ai y56) [] [ai a0,ai x55] (Aj8 h56) ?_;refine ds0 (.elt (oi 5 1) y54.toNat 0) (zo (t:=.int) (o:=oi 5 1) (len:=u3.length) (k:=.i64) (m:=y54) p57 (As e57)) ?_;refine dzS (oi 5 1) (y56) e57 ?_;refine F5 (Bc (by kernel_rfl)) (bn_ (tn_ ?_));refine wr_ ?_;obtain ⟨g58,h⟩:=Am h;refine Aa 24 ?_;refine zA g58 ?_;refine rsB 1 ?_;refine Aq (tn_ ?_);obtain rfl:=zj h;exact ⟨(u2+1,u3.set y54.toNat y56),_,(A8 14 (oI 5 1 u3.length) (oI 5 1 ((u3.set y54.toNat y56).length)) (by kernel_rfl) (congrArg (fun z_=>((oI 5 1 z_):AV)) (((rfl:u3.length=u3.length).trans List.length_set.symm):u3.length=(u3.set y54.toNat y56).length))).trans (Ac []),⟨u2+1,u3.set y54.toNat y56,rfl,rfl⟩,hn47⟩
     have q50_:=of_decide_eq_false q50;refine Ag q50 ?_;refine Au (te_ (te_ (be_ (tn_ ?_))));obtain rfl:=zj h;have h:=hn47
     (try dsimp only at h);obtain rfl:=zj h;exact ⟨_,Ac [],rfl⟩
    rintro u8 _ rfl h
    (try dsimp only at h);obtain ⟨g59,h⟩:=Am h;refine Aa 7 ?_;refine rsB 2 ?_;refine Zs (oS 83 4 1) (oi 83 4) (.vec 23 1 1 ([oI 5 1 u8.length])) trivial (G1 (by kernel_rfl)) ?_;refine rs2 (oS 3 5 (u0.length+1)) (oi 3 1) (oi 3 5) (.vec 23 1 (u0.length+1) (hdL (oi 4 1) .int u0++[oI 5 1 u8.length])) (Dd (u:=.int) (t':=sI) (t2:=sI) (o:=oi 3 1) (q:=oi 83 4) (e2:=23) (p:=oi 4 1) (xss:=u0) (cs:=[oI 5 1 u8.length]) (len:=u0.length) (by kernel_rfl) (by kernel_rfl) rfl (by kernel_rfl) (by kernel_rfl) rfl g59) ?_;refine rsB 1 ?_;refine Aq (bn_ (tn_ ?_));obtain rfl:=zj h;exact ⟨_,(B8 (e1:=23) (e:=3) (u:=.int) (n:=u0.length+1) (len:=u8.length) (row:=u8) (ys:=u8) (xss:=u0) 9000 (oi 3 5) (oi 4 1) (oi 5 1) (by kernel_rfl) (by kernel_rfl) rfl (by kernel_rfl) (by kernel_rfl) (H2 rfl) (H1 rfl) (by kernel_rfl) (by kernel_rfl) (by kernel_rfl)).trans ((A8 12 (oS 3 5 (u0.length+1)) (oS 3 5 ((u0++[u8]).length)) (by kernel_rfl) (congrArg (fun z_=>((oS 3 5 z_):AV)) ((by simp):u0.length+1=(u0++[u8]).length))).trans (Ac [(oi 3 1,oi 3 5),(oi 4 1,oi 9000 7)])),rfl⟩
   rintro ub _ rfl h
   (try dsimp only at h);obtain ⟨g60,h⟩:=Am h;refine Aa 5 ?_;refine rsB 1 ?_;refine zA g60 ?_;refine rsB 1 ?_;refine Aq (tn_ ?_);obtain rfl:=zj h;exact ⟨(u1+1,ub),_,Ac [],⟨u1+1,ub,rfl,rfl⟩,hn32⟩
  have q35_:=of_decide_eq_false q35;refine Ag q35 ?_;refine Au (te_ (te_ (be_ (tn_ ?_))));obtain rfl:=zj h;have h:=hn32
  (try dsimp only at h);obtain rfl:=zj h;exact ⟨_,Ac [(oi 0 1,oi 3 1),(oi 1 1,oi 4 1)],rfl⟩
 rintro ua _ rfl h
 (try dsimp only at h);refine Ab ?_;obtain ⟨y62,h62,h⟩:=Ad h;refine Aa 7 ?_;refine rsB 3 ?_;refine Ic (oS 1408 5 y62.length) [(oi 1408 5,some (.mat 23 (oi 1409 5) .int y62)),(oi 1409 5,some (.pool 3 .int y62))] [] [ai a0,ai a1,oS 0 1 ua.length] (caps:=[]) trivial (Ju h62) J0 trivial (.cons (.ren (by kernel_rfl)) (.cons (.ren (by kernel_rfl)) (.cons (.gnd (by kernel_rfl) (Wd (p:=oi 1 1) (e1:=23) (e:=3) (u:=.int) (xss:=ua) ((G4 (by kernel_rfl) (by kernel_rfl) (by kernel_rfl)).trans (by kernel_rfl)) (Th (by kernel_rfl) (by kernel_rfl) (Bn (by kernel_rfl)) (by kernel_rfl)) rfl)) .nil))) (Bj (by kernel_rfl) (by kernel_rfl) trivial) ?_;refine rsB 1 ?_;refine Aq (tn_ ?_);refine wr_ ?_;refine An ?_;obtain rfl:=zj h;exact Oi [oS 0 1 y62.length] (Ac (tl:=[(6,oS 0 1 y62.length)]) (g:=2) [(oi 0 1,oi 1408 5),(oi 1 1,oi 1409 5)])
end

section
section
variable {α β σ ρ:Type}
theorem Ak5 {body:σ->Option (Ctl σ ρ)} {Post:ρ->Prop} (n:Nat) (I:Nat->σ->Prop)
  (hs:∀ i s,i<n->I i s->(∃ s',body s=some (.next s')∧I (i+1) s')∨∃ r,body s=some (.out r)∧Post r) (he:∀ s,I n s->∃ r,body s=some (.out r)∧Post r) :
  ∀ (F k:Nat) (s:σ),k<=n->n - k<F->I k s->∃ r,Aw body F s=some r∧Post r
 | 0,_,_,_,h,_=>by omega
 | F+1,k,s,hk,h,hi=>by
  have key:(∃ r,body s=some (.out r)∧Post r)->∃ r,Aw body (F+1) s=some r∧Post r:=by
   rintro ⟨r,h1,h2⟩;exact ⟨r,by simp only [Aw,h1,obs,Ctl.then],h2⟩
  rcases Nat.lt_or_ge k n with hlt | hge
  ·rcases hs k s hlt hi with ⟨s',h1,h2⟩ | h
   ·obtain ⟨r,h3,h4⟩:=Ak5 n I hs he F (k+1) s' hlt (by omega) h2;exact ⟨r,by simp only [Aw,h1,obs,Ctl.then]; exact h3,h4⟩
   ·exact key h
  ·obtain rfl:k=n:=by omega
   exact key (he s hi)
theorem Uc {body:σ->Option (Ctl σ ρ)} {Post:ρ->Prop} (n:Nat) (I:Nat->σ->Prop) {F:Nat} (hn:n<F) {s0:σ} (h0:I 0 s0)
  (hs:∀ i s,i<n->I i s->(∃ s',body s=some (.next s')∧I (i+1) s')∨∃ r,body s=some (.out r)∧Post r) (he:∀ s,I n s->∃ r,body s=some (.out r)∧Post r):∃ r,Aw body F s0=some r∧Post r :=
 Ak5 n I hs he F 0 s0 (Nat.zero_le _) (by omega) h0
theorem R8 {body:σ->Option (Ctl σ ρ)} (n:Nat) (I:Nat->σ->Prop) {F:Nat} (hn:n<F) {s0:σ} (r:ρ) (h0:I 0 s0)
  (hs:∀ i s,i<n->I i s->(∃ s',body s=some (.next s')∧I (i+1) s')∨body s=some (.out r)) (he:∀ s,I n s->body s=some (.out r)):Aw body F s0=some r:=by
 obtain ⟨r',h1,rfl⟩:=Uc (Post:=fun r'=>r'=r) n I hn h0 (fun i s hi hI=>(hs i s hi hI).imp id fun h=>⟨r,h,rfl⟩) (fun s h=>⟨r,he s h,rfl⟩);exact h1
theorem A4 {body:σ->Option (Ctl σ ρ)} (n:Nat) (S:Nat->σ) {F:Nat} (hn:n<F) {s0:σ} (r:ρ) (h0:s0=S 0) (hs:∀ i,i<n->body (S i)=some (.next (S (i+1)))) (he:body (S n)=some (.out r)):Aw body F s0=some r:=by
 subst h0;refine R8 n (fun i s=>s=S i) hn r rfl (fun i s hi e=>.inl ?_) (fun s e=>by subst e; exact he);subst e;exact ⟨_,hs i hi,rfl⟩
theorem Acn {body:Nat->Option (Ctl Nat ρ)} (xs:List α) (q:α->Bool) (good bad:ρ) {F:Nat} (hn:xs.length<F) (hs:∀ i x,xs[i]? =some x->body i=some (if q x then .next (i+1) else .out bad)) (he:body xs.length=some (.out good)):Aw body F 0=some (if xs.all q then good else bad):=by
 refine R8 xs.length (fun i s=>s=i∧(xs.take i).all q=true) hn _ ⟨rfl,by simp⟩ ?_ ?_
 ·rintro i s hi ⟨hsi,hq⟩;subst s;have hx:=gEg hi;rw [hs i _ hx];cases hc:q xs[i]
  ·refine .inr ?_
   have:xs.all q=false:=by
    rw [Bool.eq_false_iff];intro ha;rw [List.all_eq_true] at ha;rw [ha _ (List.getElem_mem hi)] at hc;cases hc
   rw [this]; rfl
  ·refine .inl ⟨i+1,rfl,rfl,?_⟩;rw [List.take_add_one,List.all_append,hq,hx];simp [hc]
 ·rintro s ⟨rfl,hq⟩;rw [List.take_length] at hq;rw [he,hq]; rfl
theorem At2 {body:Nat->Option (Ctl Nat ρ)} (xs:List α) (q:α->Bool) (none_:ρ) (g:Nat->ρ) {F:Nat} (hn:xs.length<F) (hs:∀ i x,xs[i]? =some x->body i=some (if q x then .out (g i) else .next (i+1))) (he:body xs.length=some (.out none_)) :
  (xs.any q=true∧∃ i,i<xs.length∧Aw body F 0=some (g i))∨(xs.any q=false∧Aw body F 0=some none_):=by
 have key:∃ r,Aw body F 0=some r∧((xs.any q=true∧∃ i,i<xs.length∧r=g i)∨(xs.any q=false∧r=none_)):=by
  refine Uc xs.length (fun i s=>s=i∧(xs.take i).any q=false) hn ⟨rfl,by simp⟩ ?_ ?_
  ·rintro i s hi ⟨hsi,hq⟩;subst s;have hx:=gEg hi;rw [hs i _ hx];cases hc:q xs[i]
   ·refine .inl ⟨i+1,rfl,rfl,?_⟩;rw [List.take_add_one,List.any_append,hq,hx];simp [hc]
   ·exact .inr ⟨_,rfl,.inl ⟨List.any_eq_true.2 ⟨_,List.getElem_mem hi,hc⟩,i,hi,rfl⟩⟩
  ·rintro s ⟨hsi,hq⟩;subst hsi;rw [List.take_length] at hq;exact ⟨_,he,.inr ⟨hq,rfl⟩⟩
 obtain ⟨r,h,⟨h1,i,hi,rfl⟩ | ⟨h1,rfl⟩⟩:=key
 ·exact .inl ⟨h1,i,hi,h⟩
 ·exact .inr ⟨h1,h⟩
theorem D3 {body:Nat×List β->Option (Ctl (Nat×List β) ρ)} (xs:List α) (f:α->β) (ys:List β) {F:Nat} (hn:xs.length<F) (r:ρ) (hs:∀ i x,xs[i]? =some x->body (i,ys++(xs.take i).map f)=some (.next (i+1,(ys++(xs.take i).map f)++[f x]))) (he:body (xs.length,ys++xs.map f)=some (.out r)):Aw body F (0,ys)=some r:=by
 refine A4 xs.length (fun i=>(i,ys++(xs.take i).map f)) hn r (by simp) (fun i hi=>?_) (by rw [List.take_length]; exact he);have hx:=gEg hi;rw [hs i _ hx,List.take_add_one,hx];simp only [List.map_append,Option.toList,List.map_cons,List.map_nil,List.append_assoc]
theorem So {xs:List α} {d:α} {i:Nat} (h:i<xs.length):(xs.take i++List.replicate (xs.length - i) d)[i]? =some d:=by
 have h1:(xs.take i).length=i:=by rw [List.length_take]; omega
 rw [List.getElem?_append_right (by omega),h1,Nat.sub_self,List.getElem?_replicate,if_pos (by omega)]
theorem Sf {xs:List α} {d x:α} {i:Nat} (h:xs[i]? =some x):(xs.take i++List.replicate (xs.length - i) d).set i x=xs.take (i+1)++List.replicate (xs.length - (i+1)) d:=by
 have hi:=(gSi.1 h).1;have e:xs.length - i=(xs.length - (i+1))+1:=by omega
 rw [List.take_add_one,h,e,List.replicate_succ,List.set_append,if_neg (by simp; omega)];simp [Nat.min_eq_left (Nat.le_of_lt hi)]
theorem O9 {xs ys:List α} {i:Nat} (h:i<xs.length) (hl:ys.length=i):(ys++xs.drop i)[i]? =some xs[i]:=by
 rw [List.getElem?_append_right (by omega),hl];simp [List.getElem?_drop,h]
theorem Pb {xs ys:List α} {y:α} {i:Nat} (h:i<xs.length) (hl:ys.length=i):(ys++xs.drop i).set i y=(ys++[y])++xs.drop (i+1):=by
 rw [List.set_append,if_neg (by omega),hl,Nat.sub_self,List.drop_eq_getElem_cons h,List.append_assoc];rfl
end
theorem D6 {n:Int} (h1: -9223372036854775808<=n) (h2:n<9223372036854775808):wI n=n:=Go.IntWalk.i64_in _ (by omega)
theorem Bd {p:Prop} [Decidable p] (h:p):decide p=true:=decide_eq_true h
theorem Bg {p:Prop} [Decidable p] (h:¬ p):decide p=false:=decide_eq_false h
end
section
def inV (p:Int) (x:List Int):Prop:=∀ a,a∈x->0<=a∧a<p
def VecW (p:Int) (w:Nat) (x:List Int):Prop:=x.length=w∧inV p x
def MatW (p:Int) (w:Nat) (m:List (List Int)):Prop:=∀ x,x∈m->VecW p w x
def Fg (p k:Int) (v:List Int):List Int:=v.map fun a=>a*k % p
def Cw (p f:Int) (x v:List Int):List Int:=List.zipWith (fun a b=>(a - f*b) % p) x v
def Ef (m:List (List Int)) (c r:Nat):Nat:=r+(m.drop r).findIdx fun x=>x.getD c 0 !=0
def Mi (m:List (List Int)) (r k:Nat):List (List Int):=(m.set r (m.getD k [])).set k (m.getD r [])
def Iu (p:Int) (c r:Nat) (pr:List Int) (m:List (List Int)):List (List Int):=m.mapIdx fun i x=>if i=r then pr else Cw p (x.getD c 0) x pr
def Pd (p a:Int):Int:=(((List.range p.toNat).find? fun (x:Nat)=>a*(x:Int) % p==1).getD 0:Nat)
def prV (p:Int) (c:Nat) (x:List Int):List Int:=Fg p (Pd p (x.getD c 0)) x
def gjS (p:Int) (c:Nat) (s:Nat×List (List Int)):Nat×List (List Int) :=
 if s.1<s.2.length then
  if Ef s.2 c s.1=s.2.length then s
  else (s.1+1,Iu p c s.1 (prV p c (s.2.getD (Ef s.2 c s.1) [])) (Mi s.2 s.1 (Ef s.2 c s.1)))
 else s
def gjT (p:Int) (m:List (List Int)):Nat->Nat×List (List Int)
 | 0=>(0,m)
 | c+1=>gjS p c (gjT p m c)
def gj (p:Int) (n:Nat) (m:List (List Int)):List (List Int):=(gjT p m n).2.take (gjT p m n).1
theorem Abu {p x:Int} (hp:2<=p):0<=x % p∧x % p<p:=⟨Int.emod_nonneg x (by omega),Int.emod_lt_of_pos x (by omega)⟩
theorem Wa {p k:Int} {w:Nat} {x:List Int} (hp:2<=p) (h:x.length=w):VecW p w (Fg p k x) :=
 ⟨by simp [Fg,h],fun a ha=>by obtain ⟨b,_,rfl⟩:=List.mem_map.1 ha; exact Abu hp⟩
theorem Arg {α β γ:Type} {f:α->β->γ}:∀ {x:List α} {v:List β} {c:γ},c∈List.zipWith f x v->∃ a b,c=f a b
 | [],_,_,h=>by simp at h
 | _ :: _,[],_,h=>by simp at h
 | a :: x,b :: v,c,h=>by
  rw [List.zipWith_cons_cons,List.mem_cons] at h;rcases h with h | h
  ·exact ⟨a,b,h⟩
  ·exact Arg h
theorem App {p f:Int} {w:Nat} {x v:List Int} (hp:2<=p) (hx:x.length=w) (hv:v.length=w):VecW p w (Cw p f x v) :=
 ⟨by simp [Cw,hx,hv],fun a ha=>by obtain ⟨b,c,rfl⟩:=Arg ha; exact Abu hp⟩
theorem Abz {p:Int} {x v:List Int} (hx:inV p x) (hl:x.length<=v.length):Cw p 0 x v=x:=by
 apply List.ext_getElem
 ·simp [Cw]; omega
 ·intro i h1 h2;have:=hx x[i] (List.getElem_mem h2);simp only [Cw,List.getElem_zipWith,Int.zero_mul,Int.sub_zero];exact Int.emod_eq_of_lt this.1 this.2
theorem Bq {α:Type} {m:List α} {i:Nat} {d x:α} (h:m[i]? =some x):m.getD i d=x:=by rw [gDg,h]; rfl
theorem K8 {α:Type} {m:List α} {i:Nat} (h:i<m.length):∃ x,m[i]? =some x:=⟨_,gEg h⟩
theorem V3 {m:List (List Int)} {c r:Nat} (h:r<=m.length):Ef m c r<=m.length:=by
 have:=List.findIdx_le_length (xs:=m.drop r) (p:=fun x=>x.getD c 0 !=0);rw [List.length_drop] at this;unfold Ef; omega
theorem A0p (m:List (List Int)) (c r:Nat):r<=Ef m c r:=by unfold Ef; omega
theorem Ag7 {m:List (List Int)} {c r i:Nat} (h1:r<=i) (h2:i<Ef m c r) (hr:r<=m.length):(m.getD i []).getD c 0=0:=by
 have hl:=V3 (c:=c) hr;have h3:i - r<(m.drop r).findIdx fun x=>x.getD c 0 !=0:=by unfold Ef at h2; omega
 have h4:i - r<(m.drop r).length:=by rw [List.length_drop]; omega
 have h5:=List.not_of_lt_findIdx h3;rw [List.getElem_drop] at h5
 have e:m[r+(i - r)]'(by rw [List.length_drop] at h4; omega)=m.getD i []:=by
  rw [gDg,gEg (by omega)];simp only [show r+(i - r)=i by omega,Option.getD_some]
 rw [e] at h5
 simpa using h5
theorem Ago {m:List (List Int)} {c r:Nat} (h:Ef m c r≠m.length) (hr:r<=m.length):(m.getD (Ef m c r) []).getD c 0≠0:=by
 have hl:=V3 (c:=c) hr;have h4:(m.drop r).findIdx (fun x=>x.getD c 0 !=0)<(m.drop r).length:=by rw [List.length_drop]; unfold Ef at h hl; omega
 have h5:=List.findIdx_getElem (w:=h4);rw [List.getElem_drop] at h5
 have e:m[r+(m.drop r).findIdx (fun x=>x.getD c 0 !=0)]'(by rw [List.length_drop] at h4; omega)=m.getD (Ef m c r) []:=by
  rw [gDg,gEg (by omega)]; rfl
 rw [e] at h5
 simpa using h5
theorem T8 (m:List (List Int)) (r k:Nat):(Mi m r k).length=m.length:=by simp [Mi]
theorem Qu (p:Int) (c r:Nat) (pr:List Int) (m:List (List Int)):(Iu p c r pr m).length=m.length:=by simp [Iu]
theorem Fu {m:List (List Int)} {i:Nat} (h:i<m.length):m.getD i []∈m:=by
 rw [gDg,gEg h]; exact List.getElem_mem h
theorem Aes {p:Int} {w:Nat} {m:List (List Int)} {r k:Nat} (h:MatW p w m) (hr:r<m.length) (hk:k<m.length):MatW p w (Mi m r k):=by
 intro x hx;unfold Mi at hx;rcases List.mem_or_eq_of_mem_set hx with hx | rfl
 ·rcases List.mem_or_eq_of_mem_set hx with hx | rfl
  ·exact h x hx
  ·exact h _ (Fu hk)
 ·exact h _ (Fu hr)
theorem Ayl {p:Int} {w c r:Nat} {m:List (List Int)} {pr:List Int} (hp:2<=p) (h:MatW p w m) (hpr:VecW p w pr):MatW p w (Iu p c r pr m):=by
 intro x hx;unfold Iu at hx;obtain ⟨i,hi,rfl⟩:=List.mem_mapIdx.1 hx;split
 ·exact hpr
 ·exact App hp (h _ (List.getElem_mem hi)).1 hpr.1
theorem A1n {p:Int} {w c:Nat} {s:Nat×List (List Int)} (hp:2<=p) (h:MatW p w s.2) (hr:s.1<=s.2.length):MatW p w (gjS p c s).2∧(gjS p c s).1<=(gjS p c s).2.length∧(gjS p c s).2.length=s.2.length:=by
 unfold gjS;split
 ·rename_i h1;split
  ·exact ⟨h,hr,rfl⟩
  ·rename_i h2;have h3:=V3 (c:=c) hr;have hk:Ef s.2 c s.1<s.2.length:=by omega
   refine ⟨Ayl hp (Aes h h1 hk) (Wa hp (h _ (Fu hk)).1),?_,?_⟩
   ·simp only [Qu,T8]; omega
   ·simp only [Qu,T8]
 ·exact ⟨h,hr,rfl⟩
theorem Rz {p:Int} {w:Nat} {m:List (List Int)} (hp:2<=p) (h:MatW p w m):∀ c,MatW p w (gjT p m c).2∧(gjT p m c).1<=(gjT p m c).2.length∧(gjT p m c).2.length=m.length
 | 0=>⟨h,Nat.zero_le _,rfl⟩
 | c+1=>by
  obtain ⟨h1,h2,h3⟩:=Rz hp h c;obtain ⟨k1,k2,k3⟩:=A1n (c:=c) hp h1 h2;exact ⟨k1,k2,k3.trans h3⟩
theorem Ah4 {p:Int} {m:List (List Int)} {c:Nat} (h:¬ (gjT p m c).1<(gjT p m c).2.length):∀ d,c<=d->gjT p m d=gjT p m c
 | 0, h0 => by obtain rfl : c = 0 := by omega
               rfl
 | d+1,h0=>by
  by_cases e:c=d+1
  ·rw [e]
  ·have ih:=Ah4 h d (by omega);show gjS p d (gjT p m d)=_;rw [ih];unfold gjS;rw [if_neg h]
theorem Axy {p:Int} {n w:Nat} {m:List (List Int)} (hp:2<=p) (h:MatW p w m):(gj p n m).length=(gjT p m n).1:=by
 obtain ⟨_,h2,_⟩:=Rz hp h n;unfold gj;rw [List.length_take]; omega
theorem Abm {p:Int} {n w:Nat} {m:List (List Int)} (hp:2<=p) (h:MatW p w m):MatW p w (gj p n m):=fun x hx=>(Rz hp h n).1 x (List.mem_of_mem_take hx)
end
section
def A1p (p a:Int):Bool:=match L1 p a with
 | some v=>(v==Pd p a)&&((I4 p a==some v)&&((decide (0<=v)&&decide (v<p))&&(a*v % p==1)))
 | none=>false
def ivB:Bool:=(List.range 98).all fun p=> !(isF p)||(List.range p).all fun a=>a==0||A1p (p:Int) (a:Int)
theorem Aww:ivB=true:=by kernel_rfl
theorem Aqx {p a:Int} (hp:isF p=true) (ha:1<=a∧a<p):L1 p a=some (Pd p a)∧I4 p a=some (Pd p a)∧0<=Pd p a∧Pd p a<p∧a*Pd p a % p=1:=by
 have hb:=Ep hp;obtain ⟨q,rfl⟩:=Int.eq_ofNat_of_zero_le (show 0<=p by omega);obtain ⟨b,rfl⟩:=Int.eq_ofNat_of_zero_le (show 0<=a by omega);have h1:=List.all_eq_true.1 Aww q (List.mem_range.2 (by omega));rw [hp,Bool.not_true,Bool.false_or] at h1;have h2:=List.all_eq_true.1 h1 b (List.mem_range.2 (by omega))
 have h3:A1p (q:Int) (b:Int)=true:=by
  rcases (Bool.or_eq_true _ _).mp h2 with h | h
  ·have:b=0:=by simpa using h
   omega
  ·exact h
 unfold A1p at h3;split at h3
 ·rename_i v hv;simp only [Bool.and_eq_true,beq_iff_eq,decide_eq_true_eq] at h3;obtain ⟨h4,h5,⟨h6,h7⟩,h8⟩:=h3;subst h4;exact ⟨hv,h5,h6,h7,h8⟩
 ·cases h3
end
section
theorem Awz {α:Type} (q:α->Bool) (l:List α):(!l.any fun x=> !q x)=l.all q:=by
 induction l with
 | nil=>rfl
 | cons x l ih=>simp only [List.any_cons,List.all_cons,Bool.not_or,Bool.not_not,ih]
theorem Aml (b:Bool):Sn (some (if b then Ctl.next () else Ctl.out false)) (fun _:Unit=>some true)=some b:=by cases b <;> rfl
theorem Af0 (x lo hi:Int):Ff x lo hi=some (inR x lo hi):=by
 unfold Ff inR;by_cases h:lo<=x <;> simp [h]
theorem Ah0 (x lo hi:Int):Fd x lo hi=some (inR x lo hi):=by
 unfold Fd inR;by_cases h:lo<=x <;> simp [h]
theorem Atg (xs:List Int) (lo hi:Int) (hx:xs.length<=1099511627776):J2 xs lo hi=some (xs.all fun x=>inR x lo hi):=by
 unfold J2;rw [Acn xs (fun x=>inR x lo hi) (.next ()) (.out false) (by omega) (fun i x h=>?_) ?_,Aml]
 ·unfold K3;rw [Bg (by omega),cond_false]
 ·have:=As h;unfold K3;rw [Bd (by omega),cond_true,h,obs,Af0,obs,Ak (by omega)];cases inR x lo hi <;> rfl
theorem Age (xs:List Int) (n:Int) (hn: -1000000000<=n∧n<=1000000000) (hx:xs.length<=1099511627776):Gb xs n=some (xs.all fun x=>inR x 0 (n - 1)):=by
 unfold Gb;rw [Acn xs (fun x=>inR x 0 (n - 1)) (.next ()) (.out false) (by omega) (fun i x h=>?_) ?_,Aml]
 ·unfold H5;rw [Bg (by omega),cond_false]
 ·have:=As h;unfold H5;rw [Bd (by omega),cond_true,h,obs,D6 (by omega) (by omega),Ah0,obs,Ak (by omega)];cases inR x 0 (n - 1) <;> rfl
theorem Az5 {p:Int} (h:inR p 2 97=false):isF p=false:=by rcases Aub.1 h with h | h <;> simp [isF] <;> omega
theorem Awn (p:Int):Kg p=some (isF p):=by
 unfold Kg;rw [Af0,obs];cases hr:inR p 2 97
 ·rw [Az5 hr]; rfl
 rw [Bool.not_true,cond_false];obtain ⟨h1,h2⟩:=Gv.1 hr;obtain ⟨n,rfl⟩:=Int.eq_ofNat_of_zero_le (show 0<=p by omega)
 have h:Aw (fun s_:Nat=>He n s_) 4611686018427387904 2=some (if isF n then .next () else .out false):=by
  refine R8 8 (fun i s=>s=i+2∧Ak7 n s=true) (by omega) _ ⟨rfl,by simp [Ak7,List.range_succ]⟩ ?_ ?_
  ·rintro i s hi ⟨hs,hd⟩;unfold He;have hm:((s:Int)*(s:Int))=((s*s:Nat):Int):=by simp
   have hss:s*s<=9*9:=Nat.mul_le_mul (by omega) (by omega);rw [hm,D6 (by omega) (by omega)];by_cases hle:s*s<=n
   ·rw [Bd (by omega),cond_true,Ak (by omega),show Int.tmod (n:Int) (s:Int)=((n % s:Nat):Int) from by rw [Int.tmod_eq_emod_of_nonneg (by omega)]; rfl];by_cases h0:n % s=0
    ·refine .inr ?_;rw [h0,Ax8 n (by omega) s (by omega) (by omega) hle h0]; rfl
    ·refine .inl ⟨s+1,?_,by omega,Aro hd h0⟩;rw [show (((n % s:Nat):Int)==0)=false from by rw [beq_eq_false_iff_ne]; omega,cond_false,Ak (by omega)]
   ·refine .inr ?_;rw [Bg (by omega),cond_false,Ak6 n (by omega) (by omega) s (by omega) hd (by omega)]; rfl
  ·rintro s ⟨hs,hd⟩;obtain rfl:s=10:=by omega
   unfold He;rw [show wI (((10:Nat):Int)*((10:Nat):Int))=100 from D6 (by omega) (by omega),Bg (by omega),cond_false,Ak6 n (by omega) (by omega) 10 (by omega) hd (by omega)]; rfl
 rw [h,Aml]
theorem Aom (p x:Int):Hj p x=some (inR x 0 (p - 1)):=by
 unfold Hj inR;by_cases h:0<=x
 ·simp [h,show (x<p↔x<=p - 1) by omega]
 ·simp [h]
theorem Ar5 {p x:Int} (hp:2<=p∧p<=97):La p x=some (x % p):=by
 unfold La;rw [Ak (by omega)]
 have e1:x.tmod p=if 0<=x∨x % p=0 then x % p else x % p - p:=by
  simp only [Int.tmod_eq_emod,Int.dvd_iff_emod_eq_zero];split <;> simp <;> omega
 have h1:=Int.emod_nonneg x (show p≠0 by omega);have h2:=Int.emod_lt_of_pos x (show 0<p by omega);by_cases h:x.tmod p<0
 ·rw [Bd h,cond_true,obs,D6 (by omega) (by omega)];congr 1;split at e1 <;> omega
 ·rw [Bg h,cond_false,obs];congr 1;split at e1 <;> omega
theorem T0 {n:Int} (h:0<=n∧n<=1000000):Ed n=some (List.replicate n.toNat 0):=by
 unfold Ed;rw [Ak (by omega)]
theorem Aer (xs:List Int) (h:xs.length<=1000000):Gf xs=some xs:=by
 unfold Gf;rw [Ak (by omega)]
theorem Qz (xs:List Int) (h:xs.length<=1000000):C2 xs=some xs:=by
 unfold C2;rw [Ak (by omega)]
theorem Azv {p x y:Int} (hp:2<=p∧p<=97) (hx:0<=x∧x<p) (hy:0<=y∧y<p):Lw p x y=some ((x+y) % p):=by
 unfold Lw;rw [Ak (by omega),D6 (by omega) (by omega),Int.tmod_eq_emod_of_nonneg (by omega)]
theorem Yj {p x y:Int} (hp:2<=p∧p<=97) (hx:0<=x∧x<p) (hy:0<=y∧y<p):0<=x*y∧x*y<=10000:=by
 refine ⟨Int.mul_nonneg hx.1 hy.1,?_⟩;have h1:x*y<=97*y:=Int.mul_le_mul_of_nonneg_right (by omega) hy.1;omega
theorem Aeg {p x y:Int} (hp:2<=p∧p<=97) (hx:0<=x∧x<p) (hy:0<=y∧y<p):Gr p x y=some ((x*y) % p):=by
 have:=Yj hp hx hy;unfold Gr;rw [Ak (by omega),D6 (by omega) (by omega),Int.tmod_eq_emod_of_nonneg (by omega)]
end
section
theorem Ar2 {p x y:Int} (hp:2<=p∧p<=97) (hx:0<=x∧x<p) (hy:0<=y∧y<p):Jv p x y=some ((x - y) % p):=by
 unfold Jv;rw [Ak (by omega),D6 (n:=x+p) (by omega) (by omega),D6 (by omega) (by omega),Int.tmod_eq_emod_of_nonneg (by omega),show x+p - y=x - y+p by omega,Int.add_emod_right]
theorem Alj {ρ:Type} {body:Nat×List (List Int)->Option (Ctl (Nat×List (List Int)) ρ)} {M:List (List Int)} {r:Nat} {x y:List Int} {o:ρ} (hx:M[r]? =some x) (hl:y.length=x.length) (hb:x.length<4611686018427387904)
  (hs:∀ j (h:j<x.length) (z:List Int),z[j]? =some x[j]->body (j,M.set r z)=some (.next (j+1,M.set r (z.set j (y[j]'(by omega)))))) (he:body (x.length,M.set r y)=some (.out o)) :
  Aw body 4611686018427387904 (0,M)=some o:=by
 refine A4 x.length (fun j=>(j,M.set r (y.take j++x.drop j))) hb _ ?_ (fun j hj=>?_) ?_
 ·obtain ⟨h1,h2⟩:=gSi.1 hx;simp only [List.take_zero,List.nil_append,List.drop_zero];rw [← h2,List.set_getElem_self]
 ·have h1:(y.take j).length=j:=by rw [List.length_take]; omega
  rw [hs j hj _ (O9 hj h1),Pb hj h1,List.take_add_one,gEg (by omega)]; rfl
 ·rw [List.drop_length,List.append_nil,← hl,List.take_length,hl]; exact he
theorem Zk {ρ:Type} {body:Nat×List Int->Option (Ctl (Nat×List Int) ρ)} {x y:List Int} {o:ρ} (hl:y.length=x.length) (hb:x.length<4611686018427387904)
  (hs:∀ j (h:j<x.length) (z:List Int),z[j]? =some x[j]->body (j,z)=some (.next (j+1,z.set j (y[j]'(by omega))))) (he:body (x.length,y)=some (.out o)) :
  Aw body 4611686018427387904 (0,x)=some o:=by
 refine A4 x.length (fun j=>(j,y.take j++x.drop j)) hb _ rfl (fun j hj=>?_) ?_
 ·have h1:(y.take j).length=j:=by rw [List.length_take]; omega
  rw [hs j hj _ (O9 hj h1),Pb hj h1,List.take_add_one,gEg (by omega)]; rfl
 ·rw [List.drop_length,List.append_nil,← hl,List.take_length,hl]; exact he
theorem Ay7 {ρ:Type} {body:Nat×List (List Int)->Option (Ctl (Nat×List (List Int)) ρ)} {M E:List (List Int)} {r:Nat} {pr:List Int} {o:ρ} (hl:E.length=M.length) (hM:M[r]? =some pr) (hE:E[r]? =some pr)
  (hb:M.length<4611686018427387904) (hs:∀ i (h:i<M.length) (s:List (List Int)),s.length=M.length->s[i]? =some M[i]->s[r]? =some pr->body (i,s)=some (.next (i+1,s.set i (E[i]'(by omega))))) (he:body (M.length,E)=some (.out o)) :
  Aw body 4611686018427387904 (0,M)=some o:=by
 refine A4 M.length (fun j=>(j,E.take j++M.drop j)) hb _ rfl (fun j hj=>?_) ?_
 ·have h1:(E.take j).length=j:=by rw [List.length_take]; omega
  rw [hs j hj _ (by simp; omega) (O9 hj h1) ?_,Pb hj h1,List.take_add_one,gEg (by omega)]; rfl;by_cases h2:r<j
  ·rw [List.getElem?_append_left (by omega),List.getElem?_take,if_pos h2]; exact hE
  ·rw [List.getElem?_append_right (by omega),h1,List.getElem?_drop,show j+(r - j)=r by omega]; exact hM
 ·rw [List.drop_length,List.append_nil,← hl,List.take_length,hl]; exact he
theorem Um {α:Type} {m:List α} {i:Nat} {x z:α} (h:m[i]? =some x):(m.set i z)[i]? =some z:=by
 rw [List.getElem?_set_self (As h)]
theorem L8 {α:Type} {m:List α} {i:Nat} {x:α} (h:m[i]? =some x):m.set i x=m:=by
 obtain ⟨h1,h2⟩:=gSi.1 h;rw [← h2,List.set_getElem_self]
theorem Ara {α:Type} {m:List α} {i j:Nat} {z:α} (h:i≠j):(m.set i z)[j]? =m[j]?:=List.getElem?_set_ne h
theorem Aoi {p k:Int} {x:List Int} {j:Nat} (h:j<(Fg p k x).length):(Fg p k x)[j]=x[j]'(by simpa [Fg] using h)*k % p:=by simp [Fg]
theorem Agd {p f:Int} {x v:List Int} {j:Nat} (h:j<(Cw p f x v).length):(Cw p f x v)[j]=(x[j]'(by simp [Cw] at h; omega) - f*v[j]'(by simp [Cw] at h; omega)) % p:=by simp [Cw]
theorem Q1 {p:Int} {c r:Nat} {pr:List Int} {m:List (List Int)} {i:Nat} (h:i<(Iu p c r pr m).length) :
  (Iu p c r pr m)[i]=if i=r then pr else Cw p ((m[i]'(by simpa [Iu] using h)).getD c 0) (m[i]'(by simpa [Iu] using h)) pr:=by simp [Iu]
theorem Om {p:Int} {w j:Nat} {x:List Int} (hx:VecW p w x) (hj:j<x.length):0<=x[j]∧x[j]<p:=hx.2 _ (List.getElem_mem hj)
theorem Du {p:Int} {w j:Nat} {x:List Int} (hx:VecW p w x) (hj:j<w):0<=x.getD j 0∧x.getD j 0<p∧x[j]? =some (x.getD j 0):=by
 have h:j<x.length:=by rw [hx.1]; exact hj
 have e:x[j]? =some x[j]:=gEg h;rw [Bq e];exact ⟨(Om hx h).1,(Om hx h).2,e⟩
theorem Asg {p f a b:Int}:(a - f*b % p) % p=(a - f*b) % p:=by rw [Int.sub_emod_emod]
section
variable {p:Int} {w:Nat} {m:List (List Int)}
theorem Aum {r:Nat} {x:List Int} {k:Int} (hp:2<=p∧p<=97) (hx:VecW p w x) (hw:w<=100000) (hr:m[r]? =some x) (hk:0<=k∧k<p) :
  Aw (fun s_:Nat×List (List Int)=>Fw x r p k s_.1 s_.2) 4611686018427387904 (0,m)=some (m.set r (Fg p k x)):=by
 have hl:=hx.1;refine Alj hr (y:=Fg p k x) (by simp [Fg]) (by omega) (fun j hj z hz=>?_) ?_
 ·have hv:=Om hx hj
  try dsimp only
  unfold Fw;rw [Bd (by omega),cond_true,Um hr,obs,hz,obs,Aeg hp hv hk,obs,Ak (by omega),List.set_set,Aoi]
 ·try dsimp only
  unfold Fw;rw [Bg (by omega),cond_false]
theorem Awa {i r:Nat} {x v:List Int} {f:Int} (hp:2<=p∧p<=97) (hx:VecW p w x) (hv:VecW p w v) (hw:w<=100000) (hi:m[i]? =some x) (hr:m[r]? =some v) (hn:i≠r) (hf:0<=f∧f<p) :
  Aw (fun s_:Nat×List (List Int)=>Fr x i r p f s_.1 s_.2) 4611686018427387904 (0,m)=some (m.set i (Cw p f x v)):=by
 have hl:=hx.1;have hl':=hv.1;refine Alj hi (y:=Cw p f x v) (by simp [Cw]; omega) (by omega) (fun j hj z hz=>?_) ?_
 ·have h1:=Om hx hj;have h2:=Om hv (j:=j) (by omega)
  try dsimp only
  unfold Fr
  rw [Bd (by omega),cond_true,Um hi,obs,hz,obs,Ara hn,hr,obs,gEg (show j<v.length by omega),obs,Aeg hp hf h2,obs,
   Ar2 hp h1 (Abu hp.1),obs,Ak (by omega),List.set_set,Agd,Asg]
 ·try dsimp only
  unfold Fr;rw [Bg (by omega),cond_false]
theorem Aoo {c r:Nat} {pr:List Int} (h:r<m.length):(Iu p c r pr m)[r]? =some pr:=by
 rw [gEg (by rw [Qu]; exact h),Q1,if_pos rfl]
theorem Axp {M0:List (List Int)} {c r:Nat} {pr:List Int} (hp:2<=p∧p<=97) (hm:MatW p w m) (hw:w<=100000) (hl:m.length<=100000) (hr:m[r]? =some pr) (hc:c<w) (h0:M0.length=m.length) :
  Aw (fun s_:Nat×List (List Int)=>Fo M0 r c p s_.1 s_.2) 4611686018427387904 (0,m)=some (Iu p c r pr m):=by
 refine Ay7 (E:=Iu p c r pr m) (Qu ..) hr (Aoo (As hr)) (by omega) (fun i hi s hs h1 h2=>?_) ?_
 ·have hx:=hm _ (List.getElem_mem hi);have hv:=hm _ (List.mem_of_getElem? hr);obtain ⟨g1,g2,g3⟩:=Du hx hc;generalize hxe:m[i]=x at *
  try dsimp only
  unfold Fo;rw [Bd (by omega),cond_true,Q1,hxe];by_cases hir:i=r
  ·subst hir;rw [if_pos rfl,show (((i:Nat):Int)==((i:Nat):Int))=true from beq_self_eq_true _,cond_true,obs,cond_true,obs,Ak (by omega),L8 h2]
  ·rw [if_neg hir,show (((i:Nat):Int)==((r:Nat):Int))=false from by rw [beq_eq_false_iff_ne]; omega,cond_false,h1,obs,g3,obs,obs];by_cases h0:x.getD c 0=0
   ·rw [h0,show ((0:Int)==0)=true from rfl,cond_true,obs,Ak (by omega),Abz hx.2 (by rw [hx.1,hv.1]; exact Nat.le_refl _),L8 h1]
   ·rw [show (x.getD c 0==0)=false from beq_eq_false_iff_ne.2 h0,cond_false,obs,g3,obs,Awa hp hx hv hw h1 h2 hir ⟨g1,g2⟩,obs,Ak (by omega)]
 ·try dsimp only
  unfold Fo;rw [Bg (by omega),cond_false]
theorem Asw {c r:Nat} {pr y:List Int}:Iu p c r pr (m.set r y)=Iu p c r pr m:=by
 apply List.ext_getElem
 ·rw [Qu,Qu,List.length_set]
 ·intro i h1 h2;rw [Q1,Q1];by_cases h:i=r
  ·rw [if_pos h,if_pos h]
  ·rw [if_neg h,if_neg h];simp only [List.getElem_set,if_neg (fun e=>h (Eq.symm e))]
theorem Azj {c r:Nat} (hm:MatW p w m) (hc:c<w) (hl:m.length<=100000) (hr:r<=m.length) :
  Aw (fun s_:Nat=>D7 m c s_) 4611686018427387904 r=some (Ef m c r):=by
 have hle:=V3 (c:=c) hr;refine A4 ((m.drop r).findIdx fun x=>x.getD c 0 !=0) (fun t=>r+t) (by unfold Ef at hle; omega) _ rfl (fun t ht=>?_) ?_
 ·have h1:r+t<Ef m c r:=by unfold Ef; omega
  have h0:=Ag7 (i:=r+t) (by omega) h1 hr;obtain ⟨x,hx⟩:=K8 (show r+t<m.length by omega);obtain ⟨g1,g2,g3⟩:=Du (hm _ (List.mem_of_getElem? hx)) hc;rw [Bq hx] at h0
  try dsimp only
  unfold D7;rw [Bd (by omega),cond_true,hx,obs,g3,obs,obs,h0,show ((0:Int)==0)=true from rfl,cond_true,Ak (by omega),Nat.add_assoc]
 ·show D7 m c (Ef m c r)=_;unfold D7;by_cases h:Ef m c r=m.length
  ·rw [Bg (by omega),cond_false,obs,cond_false]
  ·have h0:=Ago h hr;obtain ⟨x,hx⟩:=K8 (show Ef m c r<m.length by omega);obtain ⟨g1,g2,g3⟩:=Du (hm _ (List.mem_of_getElem? hx)) hc;rw [Bq hx] at h0;rw [Bd (by omega),cond_true,hx,obs,g3,obs,obs,beq_eq_false_iff_ne.2 h0,cond_false]
theorem Axe {r k:Nat} (hr:r<m.length) (hk:k<m.length):(Mi m r k)[r]? =some (m.getD k []):=by
 unfold Mi;by_cases h:r=k
 ·subst h;rw [List.getElem?_set_self (by rw [List.length_set]; exact hr)]
 ·rw [List.getElem?_set_ne (Ne.symm h),List.getElem?_set_self hr]
theorem Awy {n:Nat} (hp:isF p=true) (hm:MatW p w m) (hn:n<=w) (hw:w<=100000) (hl:m.length<=100000) :
  Aw (fun s_:Nat×Nat×List (List Int)=>C4 (n:Int) p s_.1 s_.2.1 s_.2.2) 4611686018427387904 (0,0,m)=some (gjT p m n):=by
 have hb:=Ep hp;refine R8 n (fun c s=>s=((gjT p m c).1,c,(gjT p m c).2)) (by omega) _ rfl (fun c s hc hI=>?_) (fun s hI=>?_)
 ·subst hI;obtain ⟨hm',hr,hl'⟩:=Rz hb.1 hm c;by_cases hlt:(gjT p m c).1<(gjT p m c).2.length
  ·refine .inl ?_;refine ⟨_,?_,rfl⟩;show C4 _ _ _ _ _=some (Ctl.next ((gjS p c (gjT p m c)).1,c+1,(gjS p c (gjT p m c)).2));generalize gjT p m c=s at *;obtain ⟨r,M⟩:=s
   try dsimp only at *
   unfold C4 gjS;rw [Bd (by omega),cond_true,obs,Bd (by omega),cond_true,Azj hm' (by omega) (by omega) hr,obs,if_pos hlt];by_cases hk:Ef M c r=M.length
   ·rw [hk,beq_self_eq_true,cond_true,obs,if_pos rfl];exact Ak (by omega) _
   ·have hle:=V3 (c:=c) hr;have hkl:Ef M c r<M.length:=by omega
    rw [show (((Ef M c r:Nat):Int)==((M.length:Nat):Int))=false from by rw [beq_eq_false_iff_ne]; omega,cond_false,if_neg hk];have hnz:=Ago hk hr;obtain ⟨x,hx⟩:=K8 hlt;obtain ⟨y,hy⟩:=K8 hkl;have hyM:=hm' _ (List.mem_of_getElem? hy);obtain ⟨g1,g2,g3⟩:=Du hyM (show c<w by omega);rw [Bq hy] at hnz;obtain ⟨i1,_,i2,i3,_⟩:=Aqx hp (a:=y.getD c 0) (by omega);have hs:=Axe hlt hkl;have hpm:=Aes hm' hlt hkl;have hsl:=T8 M r (Ef M c r);have hsw:(M.set r y).set (Ef M c r) x=Mi M r (Ef M c r):=by unfold Mi; rw [Bq hx,Bq hy]
    rw [hx,obs,hy,obs,hsw,Bq hy];rw [Bq hy] at hs;generalize Mi M r (Ef M c r)=W at *;have hpr:VecW p w (Fg p (Pd p (y.getD c 0)) y):=Wa hb.1 hyM.1
    rw [hs,obs,g3,obs,i1,obs,Aum hb hyM hw hs ⟨i2,i3⟩,obs,
     Axp hb (w:=w) (m:=W.set r (Fg p (Pd p (y.getD c 0)) y)) (pr:=Fg p (Pd p (y.getD c 0)) y) (fun z hz=>?_) hw (by rw [List.length_set]; omega) (Um hs) (by omega) rfl,obs,Ak (by omega),obs,Asw]
    ·exact Ak (by omega) _
    ·rcases List.mem_or_eq_of_mem_set hz with hz | rfl
     ·exact hpm _ hz
     ·exact hpr
  ·refine .inr ?_;rw [Ah4 hlt n (by omega)];generalize gjT p m c=s at *
   try dsimp only
   unfold C4;rw [Bd (by omega),cond_true,obs,Bg (by omega),cond_false]
 ·subst hI
  try dsimp only
  unfold C4;rw [Bg (by omega),cond_false,obs,cond_false]
theorem Ayb (hm:MatW p w m) (hw:w<=100000) (hl:m.length<=100000) :
  Aw (fun s_:Nat×List (List Int)=>D4 m s_.1 s_.2) 4611686018427387904 (0,([]:List (List Int)))=some m:=by
 have h:=D3 (body:=fun s_:Nat×List (List Int)=>D4 m s_.1 s_.2) m id [] (F:=4611686018427387904) (by omega) m (fun i x h=>?_) ?_
 ·simpa using h
 ·have:=As h;have hx:=(hm x (List.mem_of_getElem? h)).1
  try dsimp only
  unfold D4;rw [Bd (by omega),cond_true,h,obs,Qz _ (by omega),obs,Ak (by simp; omega),Ak (by omega)]; rfl
 ·try dsimp only
  unfold D4;rw [Bg (by omega),cond_false,List.map_id,List.nil_append]
theorem T7 {n:Nat} (hp:isF p=true) (hm:MatW p w m) (hn:n<=w) (hw:w<=100000) (hl:m.length<=100000):Dn p (n:Int) m=some (gj p n m):=by
 have hb:=Ep hp;obtain ⟨_,h2,h3⟩:=Rz hb.1 hm n;unfold Dn;rw [Ayb hm hw hl,obs,Awy hp hm hn hw hl,obs];exact Ak (by omega) _
end
end
section
theorem Aw0 {ρ:Type} {body:Nat×List (List Int)×List (List Int)->Option (Ctl (Nat×List (List Int)×List (List Int)) ρ)} {M E A B:List (List Int)} {r:Nat} {pr pa:List Int} {o:ρ}
  (hl:E.length=M.length) (hA:A.length=M.length) (hB:B.length=M.length) (hM:M[r]? =some pr) (hE:E[r]? =some pr) (hM':A[r]? =some pa) (hE':B[r]? =some pa) (hb:M.length<4611686018427387904)
  (hs:∀ i (h:i<M.length) (s t:List (List Int)),s.length=M.length->t.length=M.length->s[i]? =some M[i]->t[i]? =some (A[i]'(by omega))->s[r]? =some pr->t[r]? =some pa ->
   body (i,s,t)=some (.next (i+1,s.set i (E[i]'(by omega)),t.set i (B[i]'(by omega))))) (he:body (M.length,E,B)=some (.out o)) :
  Aw body 4611686018427387904 (0,M,A)=some o:=by
 have hr:∀ {M E:List (List Int)} {pr:List Int} {j:Nat},(E.take j).length=j->M[r]? =some pr->E[r]? =some pr->(E.take j++M.drop j)[r]? =some pr:=by
  intro M E pr j h1 hM hE;by_cases h2:r<j
  ·rw [List.getElem?_append_left (by omega),List.getElem?_take,if_pos h2]; exact hE
  ·rw [List.getElem?_append_right (by omega),h1,List.getElem?_drop,show j+(r - j)=r by omega]; exact hM
 refine A4 M.length (fun j=>(j,E.take j++M.drop j,B.take j++A.drop j)) hb _ rfl (fun j hj=>?_) ?_
 ·have h1:(E.take j).length=j:=by rw [List.length_take]; omega
  have h2:(B.take j).length=j:=by rw [List.length_take]; omega
  rw [hs j hj _ _ (by simp; omega) (by simp; omega) (O9 hj h1) (O9 (by omega) h2) (hr h1 hM hE) (hr h2 hM' hE'),Pb hj h1,Pb (by omega) h2,List.take_add_one,gEg (by omega),List.take_add_one,gEg (by omega)]; rfl
 ·rw [List.drop_length,List.append_nil,← hl,List.take_length,hl,← hA,List.drop_length,List.append_nil,hA,← hB,List.take_length,hB]; exact he
theorem VecW.tk {p:Int} {w u:Nat} {x:List Int} (h:VecW p w x) (hu:u<=w):VecW p u (x.take u):=⟨by rw [List.length_take,h.1]; omega,fun a ha=>h.2 a (List.mem_of_mem_take ha)⟩
theorem VecW.dr {p:Int} {w u:Nat} {x:List Int} (h:VecW p w x):VecW p (w - u) (x.drop u):=⟨by rw [List.length_drop,h.1],fun a ha=>h.2 a (List.mem_of_mem_drop ha)⟩
theorem MatW.tk {p:Int} {w u:Nat} {m:List (List Int)} (h:MatW p w m) (hu:u<=w):MatW p u (m.map (·.take u)):=fun x hx=>by
 obtain ⟨y,hy,rfl⟩:=List.mem_map.1 hx;exact (h y hy).tk hu
theorem MatW.dr {p:Int} {w u:Nat} {m:List (List Int)} (h:MatW p w m):MatW p (w - u) (m.map (·.drop u)):=fun x hx=>by
 obtain ⟨y,hy,rfl⟩:=List.mem_map.1 hx;exact (h y hy).dr
section
variable {p:Int} {w:Nat} {m:List (List Int)}
theorem Y8 {x v:List Int} {f:Int} (hp:2<=p∧p<=97) (hx:VecW p w x) (hv:VecW p w v) (hw:w<=100000) (hf:0<=f∧f<p) :
  Cn p x (wI (0 - f)) v=some (Cw p f x v):=by
 have hl:=hx.1;have hl':=hv.1;unfold Cn;refine Zk (y:=Cw p f x v) (by simp [Cw]; omega) (by omega) (fun j hj z hz=>?_) ?_
 ·have h1:=Om hx hj;have h2:=Om hv (j:=j) (by omega);have h3:=Yj hp hf h2;have e:(0 - f)*v[j]= -(f*v[j]):=by rw [Int.zero_sub,Int.neg_mul]
  try dsimp only
  unfold D2;rw [Bd (by omega),cond_true,gEg (show j<v.length by omega),obs,hz,obs,D6 (n:=0 - f) (by omega) (by omega),e,D6 (n:= -(f*v[j])) (by omega) (by omega),D6 (by omega) (by omega),Ar5 hp,obs,Ak (by omega),Agd]; rfl
 ·try dsimp only
  unfold D2;rw [Bg (by omega),cond_false]
theorem Aoe {r k:Nat} {x y:List Int} {b:Int} (hr:m[r]? =some x) (hk:m[k]? =some y):Bl 0 (r:Int) (k:Int) b p m=some (Mi m r k):=by
 unfold Bl Mi;rw [show ((0:Int)==0)=true from rfl,cond_true,C5 (by omega),Int.toNat_natCast,hk,obs,C5 (by omega),Int.toNat_natCast,hr,obs,Bq hr,Bq hk]
theorem Aox {r:Nat} {x:List Int} {a b:Int} (hp:isF p=true) (hx:VecW p w x) (hw:w<=100000) (hr:m[r]? =some x) (ha:1<=a∧a<p) :
  Bl 1 (r:Int) b a p m=some (m.set r (Fg p (Pd p a) x)):=by
 obtain ⟨_,i1,i2,i3,_⟩:=Aqx hp ha;have hb:=Ep hp;have hl:=hx.1;unfold Bl;rw [show ((1:Int)==0)=false from rfl,cond_false,show ((1:Int)==1)=true from rfl,cond_true,i1,obs,C5 (by omega),Int.toNat_natCast,hr,obs];refine Alj hr (y:=Fg p (Pd p a) x) (by simp [Fg]) (by omega) (fun j hj z hz=>?_) ?_
 ·have hv:=Om hx hj;have h3:=Yj hb hv ⟨i2,i3⟩
  try dsimp only
  unfold C0;rw [Bd (by omega),cond_true,C5 (by omega),Int.toNat_natCast,Um hr,obs,Ak (by omega),hz,obs,Ak (by omega),Ak (by omega),List.set_set,Aoi,D6 (by omega) (by omega),Int.tmod_eq_emod_of_nonneg (by omega)]
 ·try dsimp only
  unfold C0;rw [Bg (by omega),cond_false]
theorem Aot {i r:Nat} {x v:List Int} {f:Int} (hp:2<=p∧p<=97) (hx:VecW p w x) (hv:VecW p w v) (hw:w<=100000) (hi:m[i]? =some x) (hr:m[r]? =some v) (hn:i≠r) (hf:0<=f∧f<p) :
  Bl 2 (i:Int) (r:Int) f p m=some (m.set i (Cw p f x v)):=by
 have hl:=hx.1;have hl':=hv.1;unfold Bl
 rw [show ((2:Int)==0)=false from rfl,cond_false,show ((2:Int)==1)=false from rfl,cond_false,show ((2:Int)==2)=true from rfl,cond_true,C5 (by omega),Int.toNat_natCast,hi,obs,C5 (by omega),Int.toNat_natCast,hr,obs,
  Ak hn,Y8 hp hx hv hw hf,obs,Ak (by simp [Cw]; omega)]
theorem Apq {r:Nat} (hr:r<m.length):Mi m r r=m:=by
 obtain ⟨x,hx⟩:=K8 hr;unfold Mi;rw [Bq hx,List.set_set,L8 hx]
theorem Az0 {A:List (List Int)} {r k:Nat} (hA:A.length=m.length) (hr:r<m.length) (hk:k<m.length):Bx 0 (r:Int) (k:Int) 0 p m A=some (Mi m r k,Mi A r k):=by
 unfold Bx;by_cases h:r=k
 ·subst h;rw [beq_self_eq_true,cond_true,Apq hr,Apq (by omega)]
 ·obtain ⟨x,hx⟩:=K8 hr;obtain ⟨y,hy⟩:=K8 hk;obtain ⟨x',hx'⟩:=K8 (show r<A.length by omega);obtain ⟨y',hy'⟩:=K8 (show k<A.length by omega);rw [show ([(0:Int),(r:Int),(k:Int),0]==[0,(r:Int),(r:Int),0])=false from by rw [beq_eq_false_iff_ne]; intro e; simp at e; omega,cond_false,Aoe hx hy,obs,Ak (T8 ..),Aoe hx' hy',obs,Ak (T8 ..)]
theorem Ax6 {A:List (List Int)} {w' r:Nat} {x y:List Int} {a:Int} (hp:isF p=true) (hx:VecW p w x) (hy:VecW p w' y) (hw:w<=100000) (hw':w'<=100000) (hr:m[r]? =some x) (hA:A[r]? =some y) (ha:1<=a∧a<p) :
  Bx 1 (r:Int) 0 a p m A=some (m.set r (Fg p (Pd p a) x),A.set r (Fg p (Pd p a) y)):=by
 unfold Bx;rw [show ([(1:Int),(r:Int),0,a]==[0,(r:Int),(r:Int),0])=false from by rw [beq_eq_false_iff_ne]; intro e; simp at e,cond_false,Aox hp hx hw hr ha,obs,Ak (List.length_set ..),Aox hp hy hw' hA ha,obs,Ak (List.length_set ..)]
theorem Azd {A:List (List Int)} {w' i r:Nat} {x v y u:List Int} {f:Int} (hp:2<=p∧p<=97) (hx:VecW p w x) (hv:VecW p w v) (hy:VecW p w' y) (hu:VecW p w' u) (hw:w<=100000) (hw':w'<=100000)
  (hi:m[i]? =some x) (hr:m[r]? =some v) (hi':A[i]? =some y) (hr':A[r]? =some u) (hn:i≠r) (hf:0<=f∧f<p) :
  Bx 2 (i:Int) (r:Int) f p m A=some (m.set i (Cw p f x v),A.set i (Cw p f y u)):=by
 unfold Bx;rw [show ([(2:Int),(i:Int),(r:Int),f]==[0,(i:Int),(i:Int),0])=false from by rw [beq_eq_false_iff_ne]; intro e; simp at e,cond_false,Aot hp hx hv hw hi hr hn hf,obs,Ak (List.length_set ..),Aot hp hy hu hw' hi' hr' hn hf,obs,Ak (List.length_set ..)]
def Aav (p:Int) (c r:Nat) (pa:List Int) (M A:List (List Int)):List (List Int):=A.mapIdx fun i x=>if i=r then pa else Cw p ((M.getD i []).getD c 0) x pa
theorem Vt {c r:Nat} {pa:List Int} {M A:List (List Int)} {i:Nat} (h:i<(Aav p c r pa M A).length) :
  (Aav p c r pa M A)[i]=if i=r then pa else Cw p ((M.getD i []).getD c 0) (A[i]'(by simpa [Aav] using h)) pa:=by simp [Aav]
theorem Aw6 {M0:List (List Int)×List (List Int)} {A:List (List Int)} {w' c r:Nat} {pr pa:List Int} (hp:2<=p∧p<=97) (hm:MatW p w m) (hA:MatW p w' A) (hlA:A.length=m.length) (hw:w<=100000) (hw':w'<=100000) (hl:m.length<=100000)
  (hr:m[r]? =some pr) (hr':A[r]? =some pa) (hc:c<w) (h0:M0.1.length=m.length) :
  Aw (fun s_:Nat×List (List Int)×List (List Int)=>E3 M0 r c p s_.1 s_.2.1 s_.2.2) 4611686018427387904 (0,m,A)=some (Iu p c r pr m,Aav p c r pa m A):=by
 have hla:(Aav p c r pa m A).length=m.length:=by simp [Aav,hlA]
 have hr2:=As hr;refine Aw0 (E:=Iu p c r pr m) (B:=Aav p c r pa m A) (Qu ..) hlA hla hr (Aoo hr2) hr' ?_ (by omega) (fun i hi s t hs ht h1 k1 h2 k2=>?_) ?_
 ·rw [gEg (by omega),Vt,if_pos rfl]
 ·have hx:=hm _ (List.getElem_mem hi);have hy:=hA _ (List.getElem_mem (show i<A.length by omega));have hv:=hm _ (List.mem_of_getElem? hr);have hu:=hA _ (List.mem_of_getElem? hr');obtain ⟨g1,g2,g3⟩:=Du hx hc;have hD:m.getD i []=m[i]:=Bq (gEg hi)
  try dsimp only
  unfold E3;rw [Bd (by omega),cond_true,Q1,Vt,hD];generalize m[i]=x at *;generalize A[i]=y at *;by_cases hir:i=r
  ·subst hir;rw [if_pos rfl,if_pos rfl,show (((i:Nat):Int) !=((i:Nat):Int))=false from bne_self_eq_false _,cond_false,obs,cond_false,obs,L8 h2,L8 k2];exact Ak (by omega) _
  ·rw [if_neg hir,if_neg hir,show (((i:Nat):Int) !=((r:Nat):Int))=true from by rw [bne_iff_ne]; omega,cond_true,h1,obs,g3,obs,obs];by_cases h0:x.getD c 0=0
   ·rw [h0,show ((0:Int) !=0)=false from rfl,cond_false,obs,Abz hx.2 (by rw [hx.1,hv.1]; exact Nat.le_refl _),Abz hy.2 (by rw [hy.1,hu.1]; exact Nat.le_refl _),L8 h1,L8 k1];exact Ak (by omega) _
   ·rw [show (x.getD c 0 !=0)=true from bne_iff_ne.2 h0,cond_true,obs,g3,obs,Azd hp hx hv hy hu hw hw' h1 h2 k1 k2 hir ⟨g1,g2⟩,obs,obs];exact Ak (by omega) _
 ·try dsimp only
  unfold E3;rw [Bg (by omega),cond_false]
theorem Ayh {c r:Nat} (hm:MatW p w m) (hc:c<w) (hl:m.length<=100000) (hr:r<=m.length) :
  Aw (fun s_:Nat=>Dj m c s_) 4611686018427387904 r=some (Ef m c r):=by
 have hle:=V3 (c:=c) hr;refine A4 ((m.drop r).findIdx fun x=>x.getD c 0 !=0) (fun t=>r+t) (by unfold Ef at hle; omega) _ rfl (fun t ht=>?_) ?_
 ·have h1:r+t<Ef m c r:=by unfold Ef; omega
  have h0:=Ag7 (i:=r+t) (by omega) h1 hr;obtain ⟨x,hx⟩:=K8 (show r+t<m.length by omega);obtain ⟨g1,g2,g3⟩:=Du (hm _ (List.mem_of_getElem? hx)) hc;rw [Bq hx] at h0
  try dsimp only
  unfold Dj;rw [Bd (by omega),cond_true,hx,obs,g3,obs,obs,h0,show ((0:Int)==0)=true from rfl,cond_true,Ak (by omega),Nat.add_assoc]
 ·show Dj m c (Ef m c r)=_;unfold Dj;by_cases h:Ef m c r=m.length
  ·rw [Bg (by omega),cond_false,obs,cond_false]
  ·have h0:=Ago h hr;obtain ⟨x,hx⟩:=K8 (show Ef m c r<m.length by omega);obtain ⟨g1,g2,g3⟩:=Du (hm _ (List.mem_of_getElem? hx)) hc;rw [Bq hx] at h0;rw [Bd (by omega),cond_true,hx,obs,g3,obs,obs,beq_eq_false_iff_ne.2 h0,cond_false]
theorem W9 {x:List Int} {u c:Nat} (h:c<u):(x.take u).getD c 0=x.getD c 0:=by
 rw [gDg,List.getElem?_take,if_pos h,gDg]
theorem Axd {u c r:Nat} (h:c<u):Ef (m.map (·.take u)) c r=Ef m c r:=by
 unfold Ef;rw [← List.map_drop,List.findIdx_map];congr 2;funext x;exact congrArg (· !=0) (W9 h)
theorem Afa {f:List Int->List Int} (hf:f []=[]) {i:Nat}:(m.map f).getD i []=f (m.getD i []):=by
 rw [gDg,List.getElem?_map,gDg];cases m[i]? with
 | none=>exact hf.symm
 | some x=>rfl
theorem Ar8 {f:List Int->List Int} (hf:f []=[]) {r k:Nat}:(Mi m r k).map f=Mi (m.map f) r k:=by
 unfold Mi;rw [List.map_set,List.map_set,Afa hf,Afa hf]
theorem At6 {k:Int} {x:List Int} {u:Nat}:(Fg p k x).take u=Fg p k (x.take u):=by simp [Fg,List.map_take]
theorem Atz {k:Int} {x:List Int} {u:Nat}:(Fg p k x).drop u=Fg p k (x.drop u):=by simp [Fg,List.map_drop]
theorem Atu {k:Int} {x v:List Int} {u:Nat}:(Cw p k x v).take u=Cw p k (x.take u) (v.take u):=by simp [Cw,List.take_zipWith]
theorem Atw {k:Int} {x v:List Int} {u:Nat}:(Cw p k x v).drop u=Cw p k (x.drop u) (v.drop u):=by simp [Cw,List.drop_zipWith]
theorem Awf {c r u:Nat} {pr:List Int} (h:c<u):(Iu p c r pr m).map (·.take u)=Iu p c r (pr.take u) (m.map (·.take u)):=by
 apply List.ext_getElem
 ·simp [Iu]
 ·intro i h1 h2;rw [List.getElem_map,Q1,Q1,List.getElem_map,W9 h];split
  ·rfl
  ·exact Atu
theorem Av5 {c r u:Nat} {pr:List Int} (h:c<u):(Iu p c r pr m).map (·.drop u)=Aav p c r (pr.drop u) (m.map (·.take u)) (m.map (·.drop u)):=by
 apply List.ext_getElem
 ·simp [Iu,Aav]
 ·intro i h1 h2;rw [List.getElem_map,Q1,Vt,List.getElem_map,Afa (f:=(·.take u)) List.take_nil,W9 h,show m.getD i []=m[i]'(by simpa [Iu] using h1) from Bq (gEg (by simpa [Iu] using h1))];split
  ·rfl
  ·exact Atw
theorem Av7 {c r:Nat} {pa y z:List Int} {M A:List (List Int)}:Aav p c r pa (M.set r z) (A.set r y)=Aav p c r pa M A:=by
 apply List.ext_getElem
 ·simp [Aav]
 ·intro i h1 h2;rw [Vt,Vt];by_cases h:i=r
  ·rw [if_pos h,if_pos h]
  ·rw [if_neg h,if_neg h];simp only [List.getElem_set,if_neg (fun e=>h (Eq.symm e)),gDg,List.getElem?_set_ne (Ne.symm h)]
def rdW (u:Nat) (W:List (List Int)):List (List Int):=W.map (·.take u)
def alW (u:Nat) (W:List (List Int)):List (List Int):=W.map (·.drop u)
theorem Av4 {n u:Nat} (hp:isF p=true) (hm:MatW p w m) (hn:n<=u) (hu:u<=w) (hw:w<=100000) (hl:m.length<=100000) :
  Aw (fun s_:Nat×Nat×List (List Int)×List (List Int)=>Cs (n:Int) p s_.1 s_.2.1 s_.2.2.1 s_.2.2.2) 4611686018427387904 (0,0,rdW u m,alW u m)=some ((gjT p m n).1,rdW u (gjT p m n).2,alW u (gjT p m n).2):=by
 have hb:=Ep hp;refine R8 n (fun c s=>s=((gjT p m c).1,c,rdW u (gjT p m c).2,alW u (gjT p m c).2)) (by omega) _ rfl (fun c s hc hI=>?_) (fun s hI=>?_)
 ·subst hI;obtain ⟨hm',hr,hl'⟩:=Rz hb.1 hm c;have hlr:(rdW u (gjT p m c).2).length=(gjT p m c).2.length:=List.length_map ..;have hla:(alW u (gjT p m c).2).length=(gjT p m c).2.length:=List.length_map ..;by_cases hlt:(gjT p m c).1<(gjT p m c).2.length
  ·refine .inl ?_;refine ⟨_,?_,rfl⟩;show Cs _ _ _ _ _ _=some (Ctl.next ((gjS p c (gjT p m c)).1,c+1,rdW u (gjS p c (gjT p m c)).2,alW u (gjS p c (gjT p m c)).2));generalize gjT p m c=s at *;obtain ⟨r,M⟩:=s
   try dsimp only at *
   have hR:MatW p u (rdW u M):=hm'.tk hu;have hA:MatW p (w - u) (alW u M):=hm'.dr;have hpv:Ef (rdW u M) c r=Ef M c r:=Axd (by omega);unfold Cs gjS;rw [Bd (by omega),cond_true,obs,Bd (by omega),cond_true,Ayh hR (by omega) (by omega) (by omega),obs,if_pos hlt,hlr,hpv];by_cases hk:Ef M c r=M.length
   ·rw [hk,beq_self_eq_true,cond_true,obs,if_pos rfl];exact Ak (by omega) _
   ·have hle:=V3 (c:=c) hr;have hkl:Ef M c r<M.length:=by omega
    rw [show (((Ef M c r:Nat):Int)==((M.length:Nat):Int))=false from by rw [beq_eq_false_iff_ne]; omega,cond_false,if_neg hk];have hnz:=Ago hk hr;obtain ⟨y,hy⟩:=K8 hkl;have hyM:=hm' _ (List.mem_of_getElem? hy);obtain ⟨g1,g2,_⟩:=Du hyM (show c<w by omega);rw [Bq hy] at hnz;have hs:=Axe hlt hkl;rw [Bq hy] at hs;have hpm:=Aes hm' hlt hkl;have hsl:=T8 M r (Ef M c r);have e1:Mi (rdW u M) r (Ef M c r)=rdW u (Mi M r (Ef M c r)):=(Ar8 List.take_nil).symm;have e2:Mi (alW u M) r (Ef M c r)=alW u (Mi M r (Ef M c r)):=(Ar8 List.drop_nil).symm;rw [Az0 (by omega) (by omega) (by omega),obs,e1,e2,Bq hy];generalize Mi M r (Ef M c r)=W at *;have hs1:(rdW u W)[r]? =some (y.take u):=by simp [rdW,hs]
    have hs2:(alW u W)[r]? =some (y.drop u):=by simp [alW,hs]
    have g4:(y.take u)[c]? =some (y.getD c 0):=by rw [(Du (hyM.tk hu) (show c<u by omega)).2.2,W9 (by omega)]
    have q1:VecW p u (Fg p (Pd p (y.getD c 0)) (y.take u)):=Wa hb.1 (hyM.tk hu).1;have q2:VecW p (w - u) (Fg p (Pd p (y.getD c 0)) (y.drop u)):=Wa hb.1 hyM.dr.1;have l1:(rdW u W).length=W.length:=List.length_map ..;have l2:(alW u W).length=W.length:=List.length_map ..
    try dsimp only
    rw [hs1,obs,g4,obs,Ax6 hp (hyM.tk hu) hyM.dr (by omega) (by omega) hs1 hs2 (by omega),obs]
    try dsimp only
    rw [Aw6 hb (w:=u) (w':=w - u) (pr:=Fg p (Pd p (y.getD c 0)) (y.take u)) (pa:=Fg p (Pd p (y.getD c 0)) (y.drop u)) (fun z hz=>?_) (fun z hz=>?_) (by simp only [List.length_set]; omega) (by omega) (by omega) (by simp only [List.length_set]; omega) (Um hs1) (Um hs2) (by omega) rfl,obs]
    ·have e3:rdW u (Iu p c r (prV p c y) W)=Iu p c r (Fg p (Pd p (y.getD c 0)) (y.take u)) (rdW u W):=by
      unfold rdW prV;rw [Awf (by omega),At6]
     have e4:alW u (Iu p c r (prV p c y) W)=Aav p c r (Fg p (Pd p (y.getD c 0)) (y.drop u)) (rdW u W) (alW u W):=by
      unfold rdW alW prV;rw [Av5 (by omega),Atz]
     try dsimp only
     rw [Ak (by omega),obs,Asw,Av7,e3,e4];exact Ak (by omega) _
    ·rcases List.mem_or_eq_of_mem_set hz with hz | rfl
     ·exact hpm.tk hu _ hz
     ·exact q1
    ·rcases List.mem_or_eq_of_mem_set hz with hz | rfl
     ·exact hpm.dr _ hz
     ·exact q2
  ·refine .inr ?_;rw [Ah4 hlt n (by omega)];generalize gjT p m c=s at *
   try dsimp only
   unfold Cs;rw [Bd (by omega),cond_true,obs,hlr,Bg (by omega),cond_false]
 ·subst hI
  try dsimp only
  unfold Cs;rw [Bg (by omega),cond_false,obs,cond_false]
theorem Acx {n u:Nat} (hp:isF p=true) (hm:MatW p w m) (hn:n<=u) (hu:u<=w) (hw:w<=100000) (hl:m.length<=100000):Fj p (rdW u m) (n:Int) (alW u m)=some (rdW u (gjT p m n).2,alW u (gjT p m n).2,(gjT p m n).1):=by
 unfold Fj;rw [Av4 hp hm hn hu hw hl,obs]
theorem Sg (hm:MatW p w m) (hw:w<=100000) (hl:m.length<=100000):Dc m=some m:=by
 unfold Dc;have h:=D3 (body:=fun s_:Nat×List (List Int)=>Fk m s_.1 s_.2) m id [] (F:=4611686018427387904) (by omega) m (fun i x h=>?_) ?_
 ·rw [Ak (by omega),show List.replicate 0 ([]:List Int)=[] from rfl,show Aw (fun s_:Nat×List (List Int)=>Fk m s_.1 s_.2) 4611686018427387904 (0,[])=some m by simpa using h]; rfl
 ·have:=As h;have hx:=(hm x (List.mem_of_getElem? h)).1
  try dsimp only
  unfold Fk;rw [Bd (by omega),cond_true,h,obs,Aer _ (by omega),obs,Ak (by simp; omega),Ak (by omega)]; rfl
 ·try dsimp only
  unfold Fk;rw [Bg (by omega),cond_false,List.map_id,List.nil_append]
end
end
end Go.Proofs.YtpnofkjgeokdhaaDoor
