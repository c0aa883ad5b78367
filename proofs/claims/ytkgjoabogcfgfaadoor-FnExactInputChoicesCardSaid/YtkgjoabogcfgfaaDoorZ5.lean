/- Lemmas on the program and on partial functions that stand in place of its code (part 5); no condition beyond those that each one states. -/
import Derived.Test.YtkgjoabogcfgfaaDoorZ4
namespace Go.Proofs.YtkgjoabogcfgfaaDoor
section
open Go.RowKit Go.Deep
set_option maxRecDepth 4000
def Ng:AC :=
 (.seq (.seq (rg [xm 6 5,xm 7 0,xs1 8 6 7])
 (.cond (tm 8)
  .skip
  (.exit 0)))
 (.seq (.block 1 (.seq (rg [xm 11 1,xm 12 5,xo 13 (qb .mul (tm 11) (tm 12)),xm 14 0,xo 15 (qb .rem (tm 13) (tm 14)),xo 16 (qb .eql (tm 15) (ci 1))])
 (.cond (tm 16)
  (.seq (rg [xm 17 5,xm 4 17])
  .ret)
  .skip)))
 (rg [xm 9 5,xa 10 9,xm 5 10])))
def Se:AC :=
 (.seq (rg [xo 4 (qm (ci 0))])
 (.seq (.seq (rg [xo 5 (qm (ci 1))])
 (.block 0 (.loop Ng)))
 (.seq (rg [xo 4 (qm (ci 0))])
 .ret)))
def Acm:List Res:=[.tmp 4]
theorem Adf:Aq Tryd.prog Tryd.f83=some (Se,Acm):=by kernel_rfl
def M8 (a0 a1:Int) (u0:Nat):Option (Ctl Nat (Ctl Unit Int)) :=
 cond (decide ((u0:Int)<a0))
 (og (a0≠0) <|
 cond ((Int.tmod (wI (a1*(u0:Int))) a0)==1)
  (some (Ctl.out (Ctl.out (u0:Int))))
  (og (u0+1<4611686018427387904) <|
  some (Ctl.next (u0+1))))
 (some (Ctl.out (Ctl.next ())))
def Hb (a0 a1:Int):Option Int :=
 Lk (Ay (fun s_:Nat=>M8 a0 a1 s_) 4611686018427387904 1) fun _ =>
some 0
def Zz (r:Int):RV:=⟨false,[(false,[.sc (.int .i64 r)])]⟩
theorem Ze {a0 a1 r:Int} (h:Hb a0 a1=some r):A6 Tryd.prog Tab 83 [ai a0,ai a1] (Zz r):=by
 refine A1 (by kernel_rfl) Tryd.func83 Adf (n:=18) (by kernel_rfl) (by simp) rfl ?_;unfold Se;unfold Hb at h;refine Am (Cp h (fun (_:Unit) S_=>S_=⟨Al [],Ah (Ap []),2⟩) ?_ ?_)
 ·intro v_ h hk2;refine Am (Ai (Ax h (fun (u0:Nat) S_=>S_=⟨Al [(0,ai a0),(1,ai a1),(5,an u0)],Ah (Ap []),2⟩) ⟨_,Ac [],rfl⟩ ?_));rintro n_ u0 _ c_ rfl h hn4
  (try dsimp only at h);unfold M8 at h;unfold Ng;refine Ab (Am ?_);rcases Ad h with ⟨q7,h⟩ | ⟨q7,h⟩
  ·have q7_:=of_decide_eq_true q7;refine Ae q7 (Aj (tn_ (wr_ (Ab (Ai (Ab ?_))))));obtain ⟨g10,h⟩:=Ao h;refine Aa 11 (rsB 4 (rs0 (ai (Int.tmod (wI (a1*(u0:Int))) a0)) (Qb (k:=.i64) (a:=wI (a1*(u0:Int))) (b:=a0) (by kernel_rfl) (by kernel_rfl) g10) (rsB 1 (As (tn_ (wr_ ?_))))));rcases Ad h with ⟨q11,h⟩ | ⟨q11,h⟩
   ·refine Ae q11 (Am (Ak (br_ (tr_ (tr_ (br_ (tr_ ?_)))))));obtain rfl:=zj h;have h:=hn4
    (try dsimp only at h);obtain rfl:=zj h;have h:=hk2
    (try dsimp only at h);obtain rfl:=zj h;exact Bm [an u0] (A8 rfl zl A7)
   refine Af q11 (Aj (bn_ (tn_ (wr_ ?_))));obtain ⟨g13,h⟩:=Ao h;refine Aa 14 (rsB 1 (zA g13 (rsB 1 (As (tn_ ?_)))));obtain rfl:=zj h;exact ⟨u0+1,_,Ac [],rfl,hn4⟩
  have q7_:=of_decide_eq_false q7;refine Af q7 (Aw (te_ (te_ (be_ (tn_ ?_)))));obtain rfl:=zj h;have h:=hn4
  (try dsimp only at h);obtain rfl:=zj h;exact ⟨(),_,rfl,Ac [],rfl⟩
 rintro _ _ rfl h
 (try dsimp only at h);refine Am (Ak ?_);obtain rfl:=zj h;exact Bm [ai 0] (A8 rfl zl A7)
def Sd:AC :=
 (.seq (rg [xo 6 (qm (ci 0))])
 (.seq (rg [xm 7 1,xm 8 0,xo 9 (qb .add (tm 7) (tm 8)),xm 10 2,xo 11 (qb .sub (tm 9) (tm 10)),xm 12 0,xo 13 (qb .rem (tm 11) (tm 12)),xm 6 13])
 .ret))
def Ac9:List Res:=[.tmp 6]
theorem Acv:Aq Tryd.prog Tryd.f85=some (Sd,Ac9):=by kernel_rfl
def Hi (a0 a1 a2:Int):Option Int :=
 og (a0≠0) <|
some (Int.tmod (wI ((wI (a1+a0)) - a2)) a0)
def Y6 (r:Int):RV:=⟨false,[(false,[.sc (.int .i64 r)])]⟩
theorem Aah {a0 a1:Int} {a2 r:Int} (h:Hi a0 a1 a2=some r):A6 Tryd.prog Tab 85 [ai a0,ai a1,ai a2] (Y6 r):=by
 refine A1 (by kernel_rfl) Tryd.func85 Acv (n:=14) (by kernel_rfl) (by simp) rfl ?_;unfold Sd;unfold Hi at h;refine Am (Ab ?_);obtain ⟨g3,h⟩:=Ao h;refine Aa 10 (rsB 6 (rs0 (ai (Int.tmod (wI ((wI (a1+a0)) - a2)) a0)) (Qb (k:=.i64) (a:=wI ((wI (a1+a0)) - a2)) (b:=a0) (by kernel_rfl) (by kernel_rfl) g3) (rsB 1 (As (tn_ (wr_ (Ak ?_)))))));obtain rfl:=zj h;exact Bm [ai (Int.tmod (wI ((wI (a1+a0)) - a2)) a0)] (A8 rfl zl A7)
def J3:AC :=
 (.seq (rg [xs1 143 142 141])
 (.seq (.cond (tm 143)
  .skip
  (.exit 10))
 (.seq (.block 11 (.seq (rg [xm 144 142,xm 18 144])
 (.region [xm 145 7,xm 146 16,xx 147 1 145 146,xl 148 147,xm 149 18,xm 150 0,xm 151 7,xm 152 16,xx 153 1 151 152,xl 154 153,xm 155 18,xx 156 1 154 155,xl 157 156,xm 158 0,xm 159 17,xm 160 7,xm 161 10,xx 162 1 160 161,xl 163 162,xm 164 18,xx 165 1 163 164,xl 166 165,xo 167 (qc 84 [tm 158,tm 159,tm 166] [[],[],[]]),xo 168 (qc 85 [tm 150,tm 157,tm 167] [[],[],[]]),xx 169 1 148 149,xn (qs (tm 169) (tm 168))] true [(3,22),(9,22),(12,22),(3,23)])))
 (rg [xa 170 142,xm 142 170]))))
def Kj:AC :=
 (.seq (rg [xs1 115 114 113])
 (.seq (.cond (tm 115)
  .skip
  (.exit 8))
 (.seq (.block 9 (.seq (rg [xm 116 114,xm 16 116])
 (.seq (.seq (rg [xm 117 16,xm 118 10,xo 119 (qb .eql (tm 117) (tm 118)),xm 120 119,⟨some 121,some (120,false),qm (tm 7)⟩,⟨some 122,some (120,false),qm (tm 16)⟩,⟨some 123,some (120,false),qx 1 (tm 121) (tm 122)⟩,⟨some 124,some (120,false),ql (tm 123)⟩,⟨some 125,some (120,false),qm (tm 11)⟩,⟨some 126,some (120,false),qx 1 (tm 124) (tm 125)⟩,⟨some 127,some (120,false),ql (tm 126)⟩,⟨some 128,some (120,false),qb .eql (tm 127) (ci 0)⟩,xo 129 (.i (.pick (tm 120) (cb true) (tm 128)))])
 (.cond (tm 129)
  (.exit 9)
  .skip))
 (.seq (rg [xm 130 7,xm 131 16,xx 132 1 130 131,xl 133 132,xm 134 11,xx 135 1 133 134,xl 136 135,xm 17 136])
 (.seq (rg [xm 137 7,xm 138 16,xx 139 1 137 138,xl 140 139,xn1 141 140,xo 142 (qm (ci 0))])
 (.block 10 (.loop J3)))))))
 (rg [xa 171 114,xm 114 171]))))
def Kq:AC :=
 (.seq (rg [xs1 93 92 91])
 (.seq (.cond (tm 93)
  .skip
  (.exit 6))
 (.seq (.block 7 (.seq (rg [xm 94 92,xm 15 94])
 (.region [xm 95 7,xm 96 10,xx 97 1 95 96,xl 98 97,xm 99 15,xm 100 0,xm 101 7,xm 102 10,xx 103 1 101 102,xl 104 103,xm 105 15,xx 106 1 104 105,xl 107 106,xm 108 14,xo 109 (qc 84 [tm 100,tm 107,tm 108] [[],[],[]]),xx 110 1 98 99,xn (qs (tm 110) (tm 109))] true [(3,14)])))
 (rg [xa 111 92,xm 92 111]))))
def J4:AC :=
 (.seq (.seq (rg [xm 43 12,xm 44 7,xn1 45 44,xs1 46 43 45,xm 47 46,⟨some 48,some (47,true),qm (tm 7)⟩,⟨some 49,some (47,true),qm (tm 12)⟩,⟨some 50,some (47,true),qx 1 (tm 48) (tm 49)⟩,⟨some 51,some (47,true),ql (tm 50)⟩,⟨some 52,some (47,true),qm (tm 11)⟩,⟨some 53,some (47,true),qx 1 (tm 51) (tm 52)⟩,⟨some 54,some (47,true),ql (tm 53)⟩,⟨some 55,some (47,true),qb .eql (tm 54) (ci 0)⟩,xo 56 (.i (.pick (tm 47) (tm 55) (cb false)))])
 (.cond (tm 56)
  .skip
  (.exit 4)))
 (.block 5 (rg [xm 57 12,xa 58 57,xm 12 58])))
def Ju:AC :=
 (.seq (.seq (rg [xm 31 11,xm 32 1,xs1 33 31 32,xm 34 33,⟨some 35,some (34,true),qm (tm 10)⟩,⟨some 36,some (34,true),qm (tm 7)⟩,⟨some 37,some (34,true),.i (.len (tm 36))⟩,⟨some 38,some (34,true),qb .lss (tm 35) (tm 37)⟩,xo 39 (.i (.pick (tm 34) (tm 38) (cb false)))])
 (.cond (tm 39)
  .skip
  (.exit 2)))
 (.seq (.block 3 (.seq (rg [xm 42 10,xm 12 42])
 (.seq (.block 4 (.loop J4))
 (.seq (.seq (rg [xm 59 12,xm 60 7,xn1 61 60,xo 62 (qb .eql (tm 59) (tm 61))])
 (.cond (tm 62)
  (.exit 3)
  .skip))
 (.seq (rg [xm 63 7,xm 64 10,xx 65 1 63 64,xl 66 65,xm 13 66])
 (.seq (rg [xm 67 7,xm 68 10,xm 69 7,xm 70 12,xx 71 1 69 70,xl 72 71,xx 73 1 67 68,xn (qs (tm 73) (tm 72))])
 (.seq (rg [xm 74 7,xm 75 12,xm 76 13,xx 77 1 74 75,xn (qs (tm 77) (tm 76))])
 (.seq (rg [xm 78 0,xm 79 7,xm 80 10,xx 81 1 79 80,xl 82 81,xm 83 11,xx 84 1 82 83,xl 85 84,xo 86 (qc 83 [tm 78,tm 85] [[],[]]),xm 14 86])
 (.seq (.seq (rg [xm 87 7,xm 88 10,xx 89 1 87 88,xl 90 89,xn1 91 90,xo 92 (qm (ci 0))])
 (.block 6 (.loop Kq)))
 (.seq (.seq (rg [xm 112 7,xn1 113 112,xo 114 (qm (ci 0))])
 (.block 8 (.loop Kj)))
 (rg [xm 172 10,xa 173 172,xm 10 173])))))))))))
 (rg [xm 40 11,xa 41 40,xm 11 41])))
def Ki:AC :=
 (.seq (rg [xs1 22 21 20])
 (.seq (.cond (tm 22)
  .skip
  (.exit 0))
 (.seq (.block 1 (.seq (rg [xx 23 1 19 21,xl 24 23,xm 9 24])
 (rg [xm 25 7,xm 26 9,xo 27 (qc 54 [tm 26] [[some .int]]),xo 28 (.mkV 35 sI 1 [tm 27]),xo 29 (.appV 35 sI 24 (tm 25) (tm 28)),xm 7 29])))
 (rg [xa 30 21,xm 21 30]))))
def Nc:AC :=
 (.seq (rg [xo 6 (qm (.cst .nils))])
 (.seq (rg [xo 7 (qm (.cst .nils))])
 (.seq (.seq (rg [xm 19 2,xn1 20 19,xo 21 (qm (ci 0))])
 (.block 0 (.loop Ki)))
 (.seq (rg [xo 10 (qm (ci 0))])
 (.seq (.seq (rg [xo 11 (qm (ci 0))])
 (.block 2 (.loop Ju)))
 (.seq (rg [xm 174 7,xm 175 10,xo 176 (.slice 1 (tm 174) none (some (tm 175)) none),xm 6 176])
 .ret))))))
def U8:List Res:=[.tmp 6]
theorem U1:Aq Tryd.prog Tryd.f65=some (Nc,U8):=by kernel_rfl
theorem L7:A5 Tryd.prog 65=true:=by kernel_rfl
def Cl (a2:LL) (u0:Nat) (u1:LL):Option (Ctl (Nat×LL) (LL)) :=
 cond (decide ((u0:Int)<(a2.length:Int)))
 ((a2[u0]?).bind fun x12 =>
 (D4 x12).bind fun y13 =>
 og (u1.length+1<=1073741824∧(u1.length+1)*24<=140737488355328) <|
 og (u0+1<4611686018427387904) <|
 some (Ctl.next (u0+1,u1++[y13])))
 (some (Ctl.out u1))
def Ck (u1:LL) (u2 u0:Nat):Option (Ctl Nat Nat) :=
 (cond (decide ((u0:Int)<(u1.length:Int)))
  ((u1[u0]?).bind fun x31 =>
  (x31[u2]?).bind fun x32 =>
  some (x32==0))
  (some false)).bind fun u3 =>
cond u3
 (og (u0+1<4611686018427387904) <|
 some (Ctl.next (u0+1)))
 (some (Ctl.out u0))
def Dp (x44:List Int) (u2:Nat) (a0 y46:Int) (u0:Nat) (u1:LL):Option (Ctl (Nat×LL) (LL)) :=
 cond (decide ((u0:Int)<(x44.length:Int)))
 ((u1[u2]?).bind fun x55 =>
 (x55[u0]?).bind fun x56 =>
 (F5 a0 x56 y46).bind fun y57 =>
 og (u0+1<4611686018427387904) <|
 some (Ctl.next (u0+1,u1.set u2 (x55.set u0 y57))))
 (some (Ctl.out u1))
def Dq (x74:List Int) (u2 u3:Nat) (a0 x75:Int) (u0:Nat) (u1:LL):Option (Ctl (Nat×LL) (LL)) :=
 cond (decide ((u0:Int)<(x74.length:Int)))
 ((u1[u2]?).bind fun x83 =>
 (x83[u0]?).bind fun x84 =>
 (u1[u3]?).bind fun x85 =>
 (x85[u0]?).bind fun x86 =>
 (F5 a0 x75 x86).bind fun y87 =>
 (Hi a0 x84 y87).bind fun y88 =>
 og (u0+1<4611686018427387904) <|
 some (Ctl.next (u0+1,u1.set u2 (x83.set u0 y88))))
 (some (Ctl.out u1))
def Du (u4:LL) (u2 u3:Nat) (a0:Int) (u0:Nat) (u1:LL):Option (Ctl (Nat×LL) (LL)) :=
 cond (decide ((u0:Int)<(u4.length:Int)))
 (((cond ((u0:Int)==(u2:Int))
       (some true)
       ((u1[u0]?).bind fun x70 =>
       (x70[u3]?).bind fun x71 =>
       some (x71==0))).bind fun u5 =>
  cond u5
   (some u1)
   ((u1[u0]?).bind fun x74 =>
   (x74[u3]?).bind fun x75 =>
   Ay (fun s_:Nat×LL=>Dq x74 u0 u2 a0 x75 s_.1 s_.2) 4611686018427387904 (0,u1))).bind fun u6 =>
 og (u0+1<4611686018427387904) <|
 some (Ctl.next (u0+1,u6)))
 (some (Ctl.out u1))
def B4 (a1 a0:Int) (u0 u2:Nat) (u1:LL):Option (Ctl (Nat×Nat×LL) (Nat×LL)) :=
 (cond (decide ((u2:Int)<a1))
  (some (decide ((u0:Int)<(u1.length:Int))))
  (some false)).bind fun u5 =>
cond u5
 (((Ay (fun s_:Nat=>Ck u1 u2 s_) 4611686018427387904 u0).bind fun u3 =>
  cond ((u3:Int)==(u1.length:Int))
   (some (u0,u1))
   ((u1[u0]?).bind fun x39 =>
   (u1[u3]?).bind fun x41 =>
   (((u1.set u0 x41).set u3 x39)[u0]?).bind fun x44 =>
   (x44[u2]?).bind fun x45 =>
   (Hb a0 x45).bind fun y46 =>
   (Ay (fun s_:Nat×LL=>Dp x44 u0 a0 y46 s_.1 s_.2) 4611686018427387904 (0,(u1.set u0 x41).set u3 x39)).bind fun u4 =>
   (Ay (fun s_:Nat×LL=>Du u4 u0 u2 a0 s_.1 s_.2) 4611686018427387904 (0,u4)).bind fun u6 =>
   og (u0+1<4611686018427387904) <|
   some (u0+1,u6))).bind fun (u7,u8) =>
 og (u2+1<4611686018427387904) <|
 some (Ctl.next (u7,u2+1,u8)))
 (some (Ctl.out (u0,u1)))
def Dx (a0 a1:Int) (a2:LL):Option (LL) :=
 (Ay (fun s_:Nat×LL=>Cl a2 s_.1 s_.2) 4611686018427387904 (0,([]:LL))).bind fun u2 =>
(Ay (fun s_:Nat×Nat×LL=>B4 a1 a0 s_.1 s_.2.1 s_.2.2) 4611686018427387904 (0,0,u2)).bind fun (u0,u1) =>
og ((0:Int)<=0∧0<=(u0:Int)∧(u0:Int)<=(u1.length:Int)) <|
some (u1.take u0)
theorem Md {a0 a1:Int} {a2 r:LL} (h:Dx a0 a1 a2=some r):Dd Tryd.prog Tab 65 [ai a0,ai a1,tS a2] [] (oS 0 1 r.length) [(oi 0 1,.mat 35 (oi 1 1) .int r),(oi 1 1,.pool 3 .int r)]:=by
 refine Cd (by kernel_rfl) Tryd.func65 U1 (n:=177) (by kernel_rfl) (by simp) rfl (by kernel_rfl) trivial ⟨⟨3,.tail _ (.head _)⟩,⟨trivial,trivial⟩⟩ ?_;unfold Nc;unfold Dx at h;refine Am (Am (Av h (fun (uh:LL) S_=>S_=⟨Al [(0,ai a0),(1,ai a1),(7,oS 0 1 uh.length)],Ah (Ap [(oi 0 1,.mat 35 (oi 1 1) .int uh),(oi 1 1,.pool 3 .int uh)]),2⟩) ?_ ?_))
 ·intro v_ h;refine Am (Ai (Ax h (fun t_ S_=>∃ (ui:Nat),∃ (ua:LL),t_=(ui,ua)∧S_=⟨Al [(0,ai a0),(1,ai a1),(7,oS 0 1 ua.length),(19,tS a2),(20,an a2.length),(21,an ui)],Ah (Ap [(oi 0 1,.mat 35 (oi 1 1) .int ua),(oi 1 1,.pool 3 .int ua)]),2⟩) ⟨_,(Hs 7 35 sI (by kernel_rfl)).trans ((Dt (e1:=35) (n:=0) 9000 (oi 7 6) 3 .int (by kernel_rfl) (by kernel_rfl) rfl (by kernel_rfl) (by kernel_rfl)).trans (Ac [(oi 0 1,oi 7 6),(oi 1 1,oi 9000 7)])),⟨0,([]:LL),rfl,rfl⟩⟩ ?_));rintro n_ _ _ c_ ⟨ui,ua,rfl,rfl⟩ h hn6
  (try dsimp only at h);unfold Cl at h;unfold Ki;refine Am (Ab ?_);rcases Ad h with ⟨q9,h⟩ | ⟨q9,h⟩
  ·have q9_:=of_decide_eq_true q9;refine Ae q9 (Aj (tn_ (wr_ (Ab (Ai (Ab ?_))))));obtain ⟨x12,e12,h⟩:=Ag h;refine Aa 6 (zI sI e12 (rsB 2 (As (tn_ (wr_ ?_)))));obtain ⟨y13,h13,h⟩:=Ag h;obtain ⟨g14,h⟩:=Ao h;refine Aa 12 (rsB 2 (zc (oI 432 8 y13.length) [nI 432 8 y13] [tI x12] (H1 h13) (Aab (oS 28 9 1) (oi 28 9) (.vec 35 1 1 ([oI 432 8 y13.length])) trivial (On (by kernel_rfl)) (zV (oi 0 1) (oi 28 9) (oi 1 1) ua [oI 432 8 y13.length] g14 (rsB 1 (As (bn_ (tn_ ⟨_,Hz (e1:=35) (e:=3) (u:=.int) (n:=ua.length+1) (len:=y13.length) (row:=y13) (ys:=y13) (xss:=ua) 9000 (oi 0 10) (oi 1 1) (oi 432 8) (by kernel_rfl) (by kernel_rfl) rfl (by kernel_rfl) (by kernel_rfl) (Sm rfl) (Sn rfl) (by kernel_rfl) (by kernel_rfl) (by kernel_rfl),?_⟩))))))));obtain ⟨g15,h⟩:=Ao h;refine Aa 15 (zA g15 (rsB 1 (As (tn_ ?_))));obtain rfl:=zj h;exact ⟨(ui+1,ua++[y13]),_,(Bk 7 (oS 0 10 (ua.length+1)) (oS 0 10 ((ua++[y13]).length)) (by kernel_rfl) (congrArg (fun z_=>((oS 0 10 z_):AV)) ((by simp):ua.length+1=(ua++[y13]).length))).trans (Ac [(oi 0 1,oi 0 10),(oi 1 1,oi 9000 12)]),⟨ui+1,ua++[y13],rfl,rfl⟩,hn6⟩
  have q9_:=of_decide_eq_false q9;refine Af q9 (Aw (te_ (te_ (be_ (tn_ ?_)))));obtain rfl:=zj h;have h:=hn6
  (try dsimp only at h);obtain rfl:=zj h;exact ⟨_,Ac [],rfl⟩
 rintro uh _ rfl h
 (try dsimp only at h);refine Am (Av h (fun t_ S_=>∃ (ub:Nat),∃ (uc:LL),t_=(ub,uc)∧S_=⟨Al [(7,oS 0 1 uc.length),(10,an ub)],Ah (Ap [(oi 0 1,.mat 35 (oi 1 1) .int uc),(oi 1 1,.pool 3 .int uc)]),2⟩) ?_ ?_)
 ·intro v_ h;refine Am (Ai (Ax h (fun t_ S_=>∃ (u0:Nat),∃ (u3:Nat),∃ (u1:LL),t_=(u0,u3,u1)∧S_=⟨Al [(0,ai a0),(1,ai a1),(7,oS 0 1 u1.length),(10,an u0),(11,an u3)],Ah (Ap [(oi 0 1,.mat 35 (oi 1 1) .int u1),(oi 1 1,.pool 3 .int u1)]),2⟩) ⟨_,Ac [],⟨0,0,uh,rfl,rfl⟩⟩ ?_));rintro n_ _ _ c_ ⟨u0,u3,u1,rfl,rfl⟩ h hn19
  (try dsimp only at h);unfold B4 at h;unfold Ju;refine Ab (Av h (fun (ul:Bool) S_=>S_=⟨Al [(0,ai a0),(1,ai a1),(7,oS 0 1 u1.length),(10,an u0),(11,an u3),(39,.bool ul)],Ah (Ap [(oi 0 1,.mat 35 (oi 1 1) .int u1),(oi 1 1,.pool 3 .int u1)]),2⟩) ?_ ?_)
  ·intro v_ h;rcases Ad h with ⟨q22,h⟩ | ⟨q22,h⟩
   ·have q22_:=of_decide_eq_true q22;refine Aa 11 (rsB 4 (rs0 (an u0) (zg q22) (rs0 (oS 0 1 u1.length) (zg q22) (rs0 (an u1.length) (zg q22) (rs0 (.bool (decide ((u0:Int)<(u1.length:Int)))) (zg q22) (rs0 (.bool (decide ((u0:Int)<(u1.length:Int)))) (zT q22) (As (tn_ ?_))))))));obtain rfl:=zj h;exact ⟨_,Ac [],rfl⟩
   have q22_:=of_decide_eq_false q22;refine Aa 11 (rsB 4 (zs q22 (zs q22 (zs q22 (zs q22 (rs0 (.bool false) (zF q22) (As (tn_ ?_))))))));obtain rfl:=zj h;exact ⟨_,Ac [],rfl⟩
  rintro ul _ rfl h
  (try dsimp only at h);rcases Ad h with ⟨q23,h⟩ | ⟨q23,h⟩
  ·refine Ae q23 (Aj (tn_ (wr_ (Av h (fun t_ S_=>∃ (uj:Nat),∃ (uf:LL),t_=(uj,uf)∧S_=⟨Al [(0,ai a0),(1,ai a1),(7,oS 0 1 uf.length),(10,an uj),(11,an u3)],Ah (Ap [(oi 0 1,.mat 35 (oi 1 1) .int uf),(oi 1 1,.pool 3 .int uf)]),2⟩) ?_ ?_))))
   ·intro v_ h;refine Ai (Am (Av h (fun (u8:Nat) S_=>S_=⟨Al [(0,ai a0),(1,ai a1),(7,oS 0 1 u1.length),(10,an u0),(11,an u3),(12,an u8)],Ah (Ap [(oi 0 1,.mat 35 (oi 1 1) .int u1),(oi 1 1,.pool 3 .int u1)]),2⟩) ?_ ?_))
    ·intro v_ h;refine Ai (Ax h (fun (ud:Nat) S_=>S_=⟨Al [(0,ai a0),(1,ai a1),(7,oS 0 1 u1.length),(10,an u0),(11,an u3),(12,an ud)],Ah (Ap [(oi 0 1,.mat 35 (oi 1 1) .int u1),(oi 1 1,.pool 3 .int u1)]),2⟩) ⟨_,Ac [],rfl⟩ ?_);rintro n_ ud _ c_ rfl h hn27
     (try dsimp only at h);unfold Ck at h;unfold J4;refine Ab (Av h (fun (um:Bool) S_=>S_=⟨Al [(0,ai a0),(1,ai a1),(7,oS 0 1 u1.length),(10,an u0),(11,an u3),(12,an ud),(56,.bool um)],Ah (Ap [(oi 0 1,.mat 35 (oi 1 1) .int u1),(oi 1 1,.pool 3 .int u1)]),2⟩) ?_ ?_)
     ·intro v_ h;rcases Ad h with ⟨q30,h⟩ | ⟨q30,h⟩
      ·have q30_:=of_decide_eq_true q30;obtain ⟨x31,e31,h⟩:=Ag h;obtain ⟨x32,e32,h⟩:=Ag h;refine Aa 16 (rsB 5 (rs0 (oS 0 1 u1.length) (zg q30) (rs0 (an ud) (zg q30) (rs0 (.elt (oi 0 1) ud 0) (Nv (by kernel_rfl) q30 (zo (t:=sI) (o:=oi 0 1) (len:=u1.length) (k:=.i64) (m:=(ud:Int)) (C6 _) (Au e31))) (rsl (.own (kid (oi 1 1) ud) .int 0 x31.length) (Nv (by kernel_rfl) q30 (E0 (o:=oi 0 1) (p:=oi 1 1) (e1:=35) (u:=.int) (xss:=u1) (row:=x31) (j:=ud) (by kernel_rfl) (by kernel_rfl) e31)) (rs0 (an u3) (zg q30) (rs0 (.elt (kid (oi 1 1) ud) u3 0) (Nv (by kernel_rfl) q30 (zo (t:=.int) (o:=kid (oi 1 1) ud) (len:=x31.length) (k:=.i64) (m:=(u3:Int)) (C6 _) (Au e32))) (rsl (ai x32) (Nv (by kernel_rfl) q30 (Mi (i:=kid (oi 1 1) ud) (j:=u3) (k:=0) (e:=3) (t:=.int) (xs:=x31) (by kernel_rfl) (Bg (by kernel_rfl) e31) e32 (by kernel_rfl))) (rs0 (.bool (x32==0)) (zg q30) (rs0 (.bool (x32==0)) (zT q30) (As (tn_ ?_))))))))))));obtain rfl:=zj h;exact ⟨_,Ac [],rfl⟩
      have q30_:=of_decide_eq_false q30;refine Aa 16 (rsB 5 (zs q30 (zs q30 (zs q30 (zs q30 (zs q30 (zs q30 (zs q30 (zs q30 (rs0 (.bool false) (zF q30) (As (tn_ ?_))))))))))));obtain rfl:=zj h;exact ⟨_,Ac [],rfl⟩
     rintro um _ rfl h
     (try dsimp only at h);rcases Ad h with ⟨q33,h⟩ | ⟨q33,h⟩
     ·refine Ae q33 (Aj (tn_ (wr_ (Ai ?_))));obtain ⟨g34,h⟩:=Ao h;refine Aa 5 (rsB 1 (zA g34 (rsB 1 (As (bn_ (tn_ ?_))))));obtain rfl:=zj h;exact ⟨ud+1,_,Ac [],rfl,hn27⟩
     refine Af q33 (Aw (te_ (te_ (be_ (tn_ ?_)))));obtain rfl:=zj h;have h:=hn27
     (try dsimp only at h);obtain rfl:=zj h;exact ⟨_,Ac [],rfl⟩
    rintro u8 _ rfl h
    (try dsimp only at h);refine Ab (Am ?_);rcases Ad h with ⟨q37,h⟩ | ⟨q37,h⟩
    ·refine Ae q37 (Aw (te_ (be_ (tn_ ?_))));obtain rfl:=zj h;exact ⟨_,Ac [],⟨u0,u1,rfl,rfl⟩⟩
    refine Af q37 (Aj (tn_ (wr_ (Ab ?_))));obtain ⟨x39,e39,h⟩:=Ag h;refine Aa 11 (rsB 2 (zO (oi 0 1) sI u1.length (Au e39) (rsl (.own (kid (oi 1 1) u0) .int 0 x39.length) (E0 (o:=oi 0 1) (p:=oi 1 1) (e1:=35) (u:=.int) (xss:=u1) (row:=x39) (j:=u0) (by kernel_rfl) (by kernel_rfl) e39) (rsB 1 (As (tn_ (wr_ (Ab ?_))))))));obtain ⟨x41,e41,h⟩:=Ag h;refine Aa 19 (rsB 4 (zO (oi 0 1) sI u1.length (Au e41) (rsl (.own (kid (oi 1 1) u8) .int 0 x41.length) (E0 (o:=oi 0 1) (p:=oi 1 1) (e1:=35) (u:=.int) (xss:=u1) (row:=x41) (j:=u8) (by kernel_rfl) (by kernel_rfl) e41) (zO (oi 0 1) sI u1.length (Au e39) (Ami (oi 0 1) (oi 0 1) (.vec 35 1 u1.length ((hdL (oi 1 1) .int u1).set u0 (.own (kid (oi 1 1) u8) .int 0 x41.length))) (Ad8 (o:=oi 0 1) (e1:=35) (m:=u1.length) (cs:=hdL (oi 1 1) .int u1) (v:=.own (kid (oi 1 1) u8) .int 0 x41.length) (j:=u0) (by kernel_rfl) (by kernel_rfl) (by kernel_rfl) rfl (by rw [E3]; exact Au e39)) (As (tn_ (wr_ (Ab (Aa 24 (rsB 3 (zO (oi 0 1) sI u1.length (Au e41) (Ami (oi 0 1) (oi 0 1) (.vec 35 1 u1.length (((hdL (oi 1 1) .int u1).set u0 (.own (kid (oi 1 1) u8) .int 0 x41.length)).set u8 (.own (kid (oi 1 1) u0) .int 0 x39.length))) (Ad8 (o:=oi 0 1) (e1:=35) (m:=u1.length) (cs:=(hdL (oi 1 1) .int u1).set u0 (.own (kid (oi 1 1) u8) .int 0 x41.length)) (v:=.own (kid (oi 1 1) u0) .int 0 x39.length) (j:=u8) (by kernel_rfl) (by kernel_rfl) (by kernel_rfl) rfl (by rw [List.length_set,E3]; exact Au e41)) (As (tn_ ⟨_,Ym (e1:=35) (e:=3) (u:=.int) (xss:=u1) (i:=u0) (j:=u8) (n:=u1.length) (li:=x39.length) (lj:=x41.length) (ri:=x39) (rj:=x41) 9000 (oi 0 1) (oi 1 1) (by kernel_rfl) (by kernel_rfl) rfl (by kernel_rfl) e39 e41 rfl rfl (by kernel_rfl) (by kernel_rfl),Ab ?_⟩)))))))))))))));obtain ⟨x44,e44,h⟩:=Ag h;obtain ⟨x45,e45,h⟩:=Ag h;obtain ⟨y46,h46,h⟩:=Ag h;refine Aa 35 (rsB 3 (rs0 (.elt (oi 0 1) u0 0) (zo (t:=sI) (o:=oi 0 1) (len:=u1.length) (k:=.i64) (m:=(u0:Int)) (C6 _) (Nat.lt_of_lt_of_le (Au e44) (Nat.le_of_eq (Eq.symm (Eq.trans (b:=u1.length) rfl (by simp)))))) (rsl (.own (kid (oi 9000 24) u0) .int 0 x44.length) (E0 (o:=oi 0 1) (p:=oi 9000 24) (e1:=35) (u:=.int) (xss:=(u1.set u0 x41).set u8 x39) (row:=x44) (j:=u0) (by kernel_rfl) (by kernel_rfl) e44) (rsB 1 (rs0 (.elt (kid (oi 9000 24) u0) u3 0) (zo (t:=.int) (o:=kid (oi 9000 24) u0) (len:=x44.length) (k:=.i64) (m:=(u3:Int)) (C6 _) (Au e45)) (rsl (ai x45) (Mi (i:=kid (oi 9000 24) u0) (j:=u3) (k:=0) (e:=3) (t:=.int) (xs:=x44) (by kernel_rfl) (Bg (by kernel_rfl) e44) e45 (by kernel_rfl)) (zc (ai y46) [] [ai a0,ai x45] (Ze h46) (rsB 1 (As (tn_ (wr_ (Av h (fun (ue:LL) S_=>S_=⟨Al [(0,ai a0),(1,ai a1),(7,oS 0 1 ue.length),(10,an u0),(11,an u3)],Ah (Ap [(oi 0 1,.mat 35 (oi 1 1) .int ue),(oi 1 1,.pool 3 .int ue)]),2⟩) ?_ ?_))))))))))))
    ·intro v_ h;refine Ab (Aa 41 (rsB 2 (rs0 (.elt (oi 0 1) u0 0) (zo (t:=sI) (o:=oi 0 1) (len:=u1.length) (k:=.i64) (m:=(u0:Int)) (C6 _) (Nat.lt_of_lt_of_le (Au e44) (Nat.le_of_eq (Eq.symm (Eq.trans (b:=u1.length) rfl (by simp)))))) (rsl (.own (kid (oi 9000 24) u0) .int 0 x44.length) (E0 (o:=oi 0 1) (p:=oi 9000 24) (e1:=35) (u:=.int) (xss:=(u1.set u0 x41).set u8 x39) (row:=x44) (j:=u0) (by kernel_rfl) (by kernel_rfl) e44) (rsB 2 (As (tn_ (wr_ (Ai (Ax h (fun t_ S_=>∃ (u6:Nat),∃ (u7:LL),t_=(u6,u7)∧S_=⟨Al [(0,ai a0),(1,ai a1),(7,oS 0 1 u7.length),(10,an u0),(11,an u3),(14,ai y46),(91,an x44.length),(92,an u6)],Ah (Ap [(oi 0 1,.mat 35 (oi 1 1) .int u7),(oi 1 1,.pool 3 .int u7)]),2⟩) ⟨_,(Bk 7 (oS 0 1 u1.length) (oS 0 1 (((u1.set u0 x41).set u8 x39).length)) (by kernel_rfl) (congrArg (fun z_=>((oS 0 1 z_):AV)) ((Eq.trans (b:=u1.length) rfl (by simp)):u1.length=((u1.set u0 x41).set u8 x39).length))).trans (Ac [(oi 1 1,oi 9000 24)]),⟨0,(u1.set u0 x41).set u8 x39,rfl,rfl⟩⟩ ?_))))))))));rintro n_ _ _ c_ ⟨u6,u7,rfl,rfl⟩ h hn49
     (try dsimp only at h);unfold Dp at h;unfold Kq;refine Am (Ab ?_);rcases Ad h with ⟨q52,h⟩ | ⟨q52,h⟩
     ·have q52_:=of_decide_eq_true q52;refine Ae q52 (Aj (tn_ (wr_ (Ab (Ai (Am ?_))))));obtain ⟨x55,e55,h⟩:=Ag h;obtain ⟨x56,e56,h⟩:=Ag h;obtain ⟨y57,h57,h⟩:=Ag h;refine Bb 22 (dz0 (oS 0 1 u7.length) (dz0 (an u0) (dzO (oi 0 1) sI u7.length (Au e55) (dsl (.own (kid (oi 1 1) u0) .int 0 x55.length) (E0 (o:=oi 0 1) (p:=oi 1 1) (e1:=35) (u:=.int) (xss:=u7) (row:=x55) (j:=u0) (by kernel_rfl) (by kernel_rfl) e55) (dz0 (an u6) (dz0 (ai a0) (dz0 (oS 0 1 u7.length) (dz0 (an u0) (dzO (oi 0 1) sI u7.length (Au e55) (dsl (.own (kid (oi 1 1) u0) .int 0 x55.length) (E0 (o:=oi 0 1) (p:=oi 1 1) (e1:=35) (u:=.int) (xss:=u7) (row:=x55) (j:=u0) (by kernel_rfl) (by kernel_rfl) e55) (dz0 (an u6) (ds0 (.elt (kid (oi 1 1) u0) u6 0) (zo (t:=.int) (o:=kid (oi 1 1) u0) (len:=x55.length) (k:=.i64) (m:=(u6:Int)) (C6 _) (Au e56)) (dsl (ai x56) (Mi (i:=kid (oi 1 1) u0) (j:=u6) (k:=0) (e:=3) (t:=.int) (xs:=x55) (by kernel_rfl) (Aa2.trans (Bg (by kernel_rfl) e55)) e56 (by kernel_rfl)) (dz0 (ai y46) (dzc (ai y57) [] [ai a0,ai x56,ai y46] (P9 h57) (ds0 (.elt (kid (oi 1 1) u0) u6 0) (zo (t:=.int) (o:=kid (oi 1 1) u0) (len:=x55.length) (k:=.i64) (m:=(u6:Int)) (C6 _) (Au e56)) (Aji (kid (oi 1 1) u0) (kid (oi 1 1) u0) (.arr 3 .int (x55.set u6 y57)) (Aij (i:=kid (oi 1 1) u0) (j:=u6) (k:=0) (e:=3) (t:=.int) (xs:=x55) (cs:=[ai y57]) (x1:=y57) (by kernel_rfl) (Aa2.trans (Bg (by kernel_rfl) e55)) e56 (by kernel_rfl) (by kernel_rfl)) (Aja (X6 (o:=oi 0 1) (p:=oi 1 1) (e1:=35) (e:=3) (u:=.int) (xss:=u7) (k:=u0) (row:=x55) (row':=x55.set u6 y57) (by kernel_rfl) rfl (by kernel_rfl) e55 List.length_set) (Lz (Bv (by kernel_rfl)) (bn_ (tn_ (wr_ ?_))))))))))))))))))))));obtain ⟨g58,h⟩:=Ao h;refine Aa 24 (zA g58 (rsB 1 (As (tn_ ?_))));obtain rfl:=zj h;exact ⟨(u6+1,u7.set u0 (x55.set u6 y57)),_,(Bk 7 (oS 0 1 u7.length) (oS 0 1 ((u7.set u0 (x55.set u6 y57)).length)) (by kernel_rfl) (congrArg (fun z_=>((oS 0 1 z_):AV)) ((Eq.trans (b:=u7.length) rfl List.length_set.symm):u7.length=(u7.set u0 (x55.set u6 y57)).length))).trans (Ac []),⟨u6+1,u7.set u0 (x55.set u6 y57),rfl,rfl⟩,hn49⟩
     have q52_:=of_decide_eq_false q52;refine Af q52 (Aw (te_ (te_ (be_ (tn_ ?_)))));obtain rfl:=zj h;have h:=hn49
     (try dsimp only at h);obtain rfl:=zj h;exact ⟨_,Ac [],rfl⟩
    rintro ue _ rfl h
    (try dsimp only at h);refine Av h (fun (uk:LL) S_=>S_=⟨Al [(0,ai a0),(1,ai a1),(7,oS 0 1 uk.length),(10,an u0),(11,an u3)],Ah (Ap [(oi 0 1,.mat 35 (oi 1 1) .int uk),(oi 1 1,.pool 3 .int uk)]),2⟩) ?_ ?_
    ·intro v_ h;refine Am (Ai (Ax h (fun t_ S_=>∃ (u2:Nat),∃ (u9:LL),t_=(u2,u9)∧S_=⟨Al [(0,ai a0),(1,ai a1),(7,oS 0 1 u9.length),(10,an u0),(11,an u3),(113,an ue.length),(114,an u2)],Ah (Ap [(oi 0 1,.mat 35 (oi 1 1) .int u9),(oi 1 1,.pool 3 .int u9)]),2⟩) ⟨_,Ac [],⟨0,ue,rfl,rfl⟩⟩ ?_));rintro n_ _ _ c_ ⟨u2,u9,rfl,rfl⟩ h hn61
     (try dsimp only at h);unfold Du at h;unfold Kj;refine Am (Ab ?_);rcases Ad h with ⟨q64,h⟩ | ⟨q64,h⟩
     ·have q64_:=of_decide_eq_true q64;refine Ae q64 (Aj (tn_ (wr_ (Av h (fun (ug:LL) S_=>S_=⟨Al [(0,ai a0),(1,ai a1),(7,oS 0 1 ug.length),(10,an u0),(11,an u3),(113,an ue.length),(114,an u2)],Ah (Ap [(oi 0 1,.mat 35 (oi 1 1) .int ug),(oi 1 1,.pool 3 .int ug)]),2⟩) ?_ ?_))))
      ·intro v_ h;refine Ai (Am (Ab (Av h (fun (un:Bool) S_=>S_=⟨Al [(0,ai a0),(1,ai a1),(7,oS 0 1 u9.length),(10,an u0),(11,an u3),(16,an u2),(113,an ue.length),(114,an u2),(129,.bool un)],Ah (Ap [(oi 0 1,.mat 35 (oi 1 1) .int u9),(oi 1 1,.pool 3 .int u9)]),2⟩) ?_ ?_)))
       ·intro v_ h;rcases Ad h with ⟨q69,h⟩ | ⟨q69,h⟩
        ·refine Aa 18 (rsB 4 (zs q69 (zs q69 (zs q69 (zs q69 (zs q69 (zs q69 (zs q69 (zs q69 (rs0 (.bool true) (zT q69) (As (tn_ ?_))))))))))));obtain rfl:=zj h;exact ⟨_,Ac [],rfl⟩
        obtain ⟨x70,e70,h⟩:=Ag h;obtain ⟨x71,e71,h⟩:=Ag h;refine Aa 18 (rsB 4 (rs0 (oS 0 1 u9.length) (zg q69) (rs0 (an u2) (zg q69) (rs0 (.elt (oi 0 1) u2 0) (Nv (by kernel_rfl) q69 (zo (t:=sI) (o:=oi 0 1) (len:=u9.length) (k:=.i64) (m:=(u2:Int)) (C6 _) (Au e70))) (rsl (.own (kid (oi 1 1) u2) .int 0 x70.length) (Nv (by kernel_rfl) q69 (E0 (o:=oi 0 1) (p:=oi 1 1) (e1:=35) (u:=.int) (xss:=u9) (row:=x70) (j:=u2) (by kernel_rfl) (by kernel_rfl) e70)) (rs0 (an u3) (zg q69) (rs0 (.elt (kid (oi 1 1) u2) u3 0) (Nv (by kernel_rfl) q69 (zo (t:=.int) (o:=kid (oi 1 1) u2) (len:=x70.length) (k:=.i64) (m:=(u3:Int)) (C6 _) (Au e71))) (rsl (ai x71) (Nv (by kernel_rfl) q69 (Mi (i:=kid (oi 1 1) u2) (j:=u3) (k:=0) (e:=3) (t:=.int) (xs:=x70) (by kernel_rfl) (Bg (by kernel_rfl) e70) e71 (by kernel_rfl))) (rs0 (.bool (x71==0)) (zg q69) (rs0 (.bool (x71==0)) (zF q69) (As (tn_ ?_))))))))))));obtain rfl:=zj h;exact ⟨_,Ac [],rfl⟩
       rintro un _ rfl h
       (try dsimp only at h);rcases Ad h with ⟨q72,h⟩ | ⟨q72,h⟩
       ·refine Ae q72 (Aw (te_ (be_ (tn_ ?_))));obtain rfl:=zj h;exact ⟨_,Ac [],rfl⟩
       refine Af q72 (Aj (tn_ (wr_ (Ab ?_))));obtain ⟨x74,e74,h⟩:=Ag h;obtain ⟨x75,e75,h⟩:=Ag h;refine Aa 10 (rsB 2 (zO (oi 0 1) sI u9.length (Au e74) (rsl (.own (kid (oi 1 1) u2) .int 0 x74.length) (E0 (o:=oi 0 1) (p:=oi 1 1) (e1:=35) (u:=.int) (xss:=u9) (row:=x74) (j:=u2) (by kernel_rfl) (by kernel_rfl) e74) (rsB 1 (rs0 (.elt (kid (oi 1 1) u2) u3 0) (zo (t:=.int) (o:=kid (oi 1 1) u2) (len:=x74.length) (k:=.i64) (m:=(u3:Int)) (C6 _) (Au e75)) (rsl (ai x75) (Mi (i:=kid (oi 1 1) u2) (j:=u3) (k:=0) (e:=3) (t:=.int) (xs:=x74) (by kernel_rfl) (Bg (by kernel_rfl) e74) e75 (by kernel_rfl)) (rsB 1 (As (tn_ (wr_ (Ab (Aa 16 (rsB 2 (zO (oi 0 1) sI u9.length (Au e74) (rsl (.own (kid (oi 1 1) u2) .int 0 x74.length) (E0 (o:=oi 0 1) (p:=oi 1 1) (e1:=35) (u:=.int) (xss:=u9) (row:=x74) (j:=u2) (by kernel_rfl) (by kernel_rfl) e74) (rsB 2 (As (tn_ (wr_ (Ai (Ax h (fun t_ S_=>∃ (u4:Nat),∃ (u5:LL),t_=(u4,u5)∧S_=⟨Al [(0,ai a0),(1,ai a1),(7,oS 0 1 u5.length),(10,an u0),(11,an u3),(16,an u2),(17,ai x75),(113,an ue.length),(114,an u2),(141,an x74.length),(142,an u4)],Ah (Ap [(oi 0 1,.mat 35 (oi 1 1) .int u5),(oi 1 1,.pool 3 .int u5)]),2⟩) ⟨_,Ac [],⟨0,u9,rfl,rfl⟩⟩ ?_)))))))))))))))))))));rintro n_ _ _ c_ ⟨u4,u5,rfl,rfl⟩ h hn77
       (try dsimp only at h);unfold Dq at h;unfold J3;refine Am (Ab ?_);rcases Ad h with ⟨q80,h⟩ | ⟨q80,h⟩
       ·have q80_:=of_decide_eq_true q80;refine Ae q80 (Aj (tn_ (wr_ (Ab (Ai (Am ?_))))));obtain ⟨x83,e83,h⟩:=Ag h;obtain ⟨x84,e84,h⟩:=Ag h;obtain ⟨x85,e85,h⟩:=Ag h;obtain ⟨x86,e86,h⟩:=Ag h;obtain ⟨y87,h87,h⟩:=Ag h;obtain ⟨y88,h88,h⟩:=Ag h;refine Bb 31 (dz0 (oS 0 1 u5.length) (dz0 (an u2) (dzO (oi 0 1) sI u5.length (Au e83) (dsl (.own (kid (oi 1 1) u2) .int 0 x83.length) (E0 (o:=oi 0 1) (p:=oi 1 1) (e1:=35) (u:=.int) (xss:=u5) (row:=x83) (j:=u2) (by kernel_rfl) (by kernel_rfl) e83) (dz0 (an u4) (dz0 (ai a0) (dz0 (oS 0 1 u5.length) (dz0 (an u2) (dzO (oi 0 1) sI u5.length (Au e83) (dsl (.own (kid (oi 1 1) u2) .int 0 x83.length) (E0 (o:=oi 0 1) (p:=oi 1 1) (e1:=35) (u:=.int) (xss:=u5) (row:=x83) (j:=u2) (by kernel_rfl) (by kernel_rfl) e83) (dz0 (an u4) (ds0 (.elt (kid (oi 1 1) u2) u4 0) (zo (t:=.int) (o:=kid (oi 1 1) u2) (len:=x83.length) (k:=.i64) (m:=(u4:Int)) (C6 _) (Au e84)) (dsl (ai x84) (Mi (i:=kid (oi 1 1) u2) (j:=u4) (k:=0) (e:=3) (t:=.int) (xs:=x83) (by kernel_rfl) (Aa2.trans (Bg (by kernel_rfl) e83)) e84 (by kernel_rfl)) (dz0 (ai a0) (dz0 (ai x75) (dz0 (oS 0 1 u5.length) (dz0 (an u0) (dzO (oi 0 1) sI u5.length (Au e85) (dsl (.own (kid (oi 1 1) u0) .int 0 x85.length) (E0 (o:=oi 0 1) (p:=oi 1 1) (e1:=35) (u:=.int) (xss:=u5) (row:=x85) (j:=u0) (by kernel_rfl) (by kernel_rfl) e85) (dz0 (an u4) (ds0 (.elt (kid (oi 1 1) u0) u4 0) (zo (t:=.int) (o:=kid (oi 1 1) u0) (len:=x85.length) (k:=.i64) (m:=(u4:Int)) (C6 _) (Au e86)) (dsl (ai x86) (Mi (i:=kid (oi 1 1) u0) (j:=u4) (k:=0) (e:=3) (t:=.int) (xs:=x85) (by kernel_rfl) (Aa2.trans (Bg (by kernel_rfl) e85)) e86 (by kernel_rfl)) (dzc (ai y87) [] [ai a0,ai x75,ai x86] (P9 h87) (dzc (ai y88) [] [ai a0,ai x84,ai y87] (Aah h88) (ds0 (.elt (kid (oi 1 1) u2) u4 0) (zo (t:=.int) (o:=kid (oi 1 1) u2) (len:=x83.length) (k:=.i64) (m:=(u4:Int)) (C6 _) (Au e84)) (Aji (kid (oi 1 1) u2) (kid (oi 1 1) u2) (.arr 3 .int (x83.set u4 y88)) (Aij (i:=kid (oi 1 1) u2) (j:=u4) (k:=0) (e:=3) (t:=.int) (xs:=x83) (cs:=[ai y88]) (x1:=y88) (by kernel_rfl) (Aa2.trans (Bg (by kernel_rfl) e83)) e84 (by kernel_rfl) (by kernel_rfl)) (Aja (X6 (o:=oi 0 1) (p:=oi 1 1) (e1:=35) (e:=3) (u:=.int) (xss:=u5) (k:=u2) (row:=x83) (row':=x83.set u4 y88) (by kernel_rfl) rfl (by kernel_rfl) e83 List.length_set) (Lz (Bv (by kernel_rfl)) (bn_ (tn_ (wr_ ?_)))))))))))))))))))))))))))))));obtain ⟨g89,h⟩:=Ao h;refine Aa 33 (zA g89 (rsB 1 (As (tn_ ?_))));obtain rfl:=zj h;exact ⟨(u4+1,u5.set u2 (x83.set u4 y88)),_,(Bk 7 (oS 0 1 u5.length) (oS 0 1 ((u5.set u2 (x83.set u4 y88)).length)) (by kernel_rfl) (congrArg (fun z_=>((oS 0 1 z_):AV)) ((Eq.trans (b:=u5.length) rfl List.length_set.symm):u5.length=(u5.set u2 (x83.set u4 y88)).length))).trans (Ac []),⟨u4+1,u5.set u2 (x83.set u4 y88),rfl,rfl⟩,hn77⟩
       have q80_:=of_decide_eq_false q80;refine Af q80 (Aw (te_ (te_ (be_ (bn_ (tn_ ?_))))));obtain rfl:=zj h;have h:=hn77
       (try dsimp only at h);obtain rfl:=zj h;exact ⟨_,Ac [],rfl⟩
      rintro ug _ rfl h
      (try dsimp only at h);obtain ⟨g90,h⟩:=Ao h;refine Aa 4 (zA g90 (rsB 1 (As (tn_ ?_))));obtain rfl:=zj h;exact ⟨(u2+1,ug),_,Ac [],⟨u2+1,ug,rfl,rfl⟩,hn61⟩
     have q64_:=of_decide_eq_false q64;refine Af q64 (Aw (te_ (te_ (be_ (tn_ ?_)))));obtain rfl:=zj h;have h:=hn61
     (try dsimp only at h);obtain rfl:=zj h;exact ⟨_,Ac [],rfl⟩
    rintro uk _ rfl h
    (try dsimp only at h);obtain ⟨g91,h⟩:=Ao h;refine Aa 5 (rsB 1 (zA g91 (rsB 1 (As (bn_ (tn_ ?_))))));obtain rfl:=zj h;exact ⟨_,Ac [],⟨u0+1,uk,rfl,rfl⟩⟩
   rintro _ _ ⟨uj,uf,rfl,rfl⟩ h
   (try dsimp only at h);obtain ⟨g92,h⟩:=Ao h;refine Aa 5 (rsB 1 (zA g92 (rsB 1 (As (tn_ ?_)))));obtain rfl:=zj h;exact ⟨(uj,u3+1,uf),_,Ac [],⟨uj,u3+1,uf,rfl,rfl⟩,hn19⟩
  refine Af q23 (Aw (te_ (te_ (be_ (tn_ ?_)))));obtain rfl:=zj h;have h:=hn19
  (try dsimp only at h);obtain rfl:=zj h;exact ⟨_,Ac [],⟨u0,u1,rfl,rfl⟩⟩
 rintro _ _ ⟨ub,uc,rfl,rfl⟩ h
 (try dsimp only at h);refine Ab ?_;obtain ⟨g94,h⟩:=Ao h;refine Aa 6 (rsB 2 (rs0 (oS 0 1 ub) (Yf (t:=sI) (i:=oi 0 1) (off:=0) (len:=uc.length) (l:=0) (h:=(ub:Int)) (by kernel_rfl) (by kernel_rfl) (by kernel_rfl) rfl g94 rfl (by omega)) (rsB 1 (As (tn_ (wr_ (Ak ?_)))))));obtain rfl:=zj h;exact Dw [oS 0 1 ((uc.take ub).length)] ((Ahy (e1:=35) (e:=3) (u:=.int) (xss:=uc) (n:=uc.length) (k:=ub) 9000 (oi 0 1) (oi 1 1) (by kernel_rfl) (by kernel_rfl) rfl (by kernel_rfl) (by omega) (by kernel_rfl) (by kernel_rfl) (by kernel_rfl)).trans ((Bk 6 (oS 0 1 ub) (oS 0 1 ((uc.take ub).length)) (by kernel_rfl) (congrArg (fun z_=>((oS 0 1 z_):AV)) ((Vl (by omega)):ub=(uc.take ub).length))).trans (Ac (tl:=[(6,oS 0 1 (uc.take ub).length)]) (g:=2) [(oi 1 1,oi 9000 6)])))
def Nj:AC :=
 (.seq (.seq (rg [xm 10 2,xo 11 (qb .gtr (tm 10) (ci 0))])
 (.cond (tm 11)
  .skip
  (.exit 0)))
 (.seq (.block 1 (.seq (.seq (rg [xm 14 2,xo 15 (qb .rem (tm 14) (ci 2)),xo 16 (qb .eql (tm 15) (ci 1))])
 (.cond (tm 16)
  (rg [xm 17 7,xm 18 1,xo 19 (qb .mul (tm 17) (tm 18)),xm 20 0,xo 21 (qb .rem (tm 19) (tm 20)),xm 7 21])
  .skip))
 (rg [xm 22 1,xm 23 1,xo 24 (qb .mul (tm 22) (tm 23)),xm 25 0,xo 26 (qb .rem (tm 24) (tm 25)),xm 1 26])))
 (rg [xm 12 2,xo 13 (qb .quo (tm 12) (ci 2)),xm 2 13])))
def Rc:AC :=
 (.seq (rg [xo 6 (qm (ci 0))])
 (.seq (rg [xm 8 0,xo 9 (qb .rem (ci 1) (tm 8)),xm 7 9])
 (.seq (.block 0 (.loop Nj))
 (.seq (rg [xm 27 7,xm 6 27])
 .ret))))
def Acl:List Res:=[.tmp 6]
theorem Ab6:Aq Tryd.prog Tryd.f87=some (Rc,Acl):=by kernel_rfl
def Nm (a0 u0:Int) (u1 u2:Int):Option (Ctl (Int×Int×Int) Int) :=
 cond (decide (0<u1))
 ((cond ((Int.tmod u1 2)==1)
   (og (a0≠0) <|
   some (Int.tmod (wI (u2*u0)) a0))
   (some u2)).bind fun u3 =>
 og (a0≠0) <|
 some (Ctl.next (Int.tmod (wI (u0*u0)) a0,wI (Int.tdiv u1 2),u3)))
 (some (Ctl.out u2))
def Mt (a0 a1 a2:Int):Option Int :=
 og (a0≠0) <|
(Ay (fun s_:Int×Int×Int=>Nm a0 s_.1 s_.2.1 s_.2.2) 4611686018427387904 (a1,a2,Int.tmod 1 a0)).bind fun u0 =>
some u0
def Zt (r:Int):RV:=⟨false,[(false,[.sc (.int .i64 r)])]⟩
theorem Zh {a0 a1:Int} {a2 r:Int} (h:Mt a0 a1 a2=some r):A6 Tryd.prog Tab 87 [ai a0,ai a1,ai a2] (Zt r):=by
 refine A1 (by kernel_rfl) Tryd.func87 Ab6 (n:=28) (by kernel_rfl) (by simp) rfl ?_;unfold Rc;unfold Mt at h;refine Am (Ab ?_);obtain ⟨g3,h⟩:=Ao h;refine Aa 5 (rsB 1 (rs0 (ai (Int.tmod 1 a0)) (Qb (k:=.i64) (a:=1) (b:=a0) (by kernel_rfl) (by kernel_rfl) g3) (rsB 1 (As (tn_ (wr_ (Av h (fun (u4:Int) S_=>S_=⟨Al [(7,ai u4)],Ah (Ap []),2⟩) ?_ ?_)))))))
 ·intro v_ h;refine Ai (Ax h (fun t_ S_=>∃ (u0:Int),∃ (u1:Int),∃ (u2:Int),t_=(u0,u1,u2)∧S_=⟨Al [(0,ai a0),(1,ai u0),(2,ai u1),(7,ai u2)],Ah (Ap []),2⟩) ⟨_,Ac [],⟨a1,a2,Int.tmod 1 a0,rfl,rfl⟩⟩ ?_);rintro n_ _ _ c_ ⟨u0,u1,u2,rfl,rfl⟩ h hn5
  (try dsimp only at h);unfold Nm at h;unfold Nj;refine Ab (Am ?_);rcases Ad h with ⟨q8,h⟩ | ⟨q8,h⟩
  ·have q8_:=of_decide_eq_true q8;refine Ae q8 (Aj (tn_ (wr_ (Ab (Ai (Av h (fun (u3:Int) S_=>S_=⟨Al [(0,ai a0),(1,ai u0),(2,ai u1),(7,ai u3)],Ah (Ap []),2⟩) ?_ ?_))))))
   ·intro v_ h;refine Ab (Aa 7 (rsB 1 (rs0 (ai (Int.tmod u1 2)) (Qb (k:=.i64) (a:=u1) (b:=2) (by kernel_rfl) (by kernel_rfl) (by decide)) (rsB 1 (As (tn_ (wr_ ?_)))))));rcases Ad h with ⟨q12,h⟩ | ⟨q12,h⟩
    ·refine Ae q12 ?_;obtain ⟨g13,h⟩:=Ao h;refine Aa 13 (rsB 4 (rs0 (ai (Int.tmod (wI (u2*u0)) a0)) (Qb (k:=.i64) (a:=wI (u2*u0)) (b:=a0) (by kernel_rfl) (by kernel_rfl) g13) (rsB 1 (As (tn_ ?_)))));obtain rfl:=zj h;exact ⟨_,Ac [],rfl⟩
    refine Af q12 (Aj (tn_ ?_));obtain rfl:=zj h;exact ⟨_,Ac [],rfl⟩
   rintro u3 _ rfl h
   (try dsimp only at h);obtain ⟨g14,h⟩:=Ao h;refine Aa 8 (rsB 4 (rs0 (ai (Int.tmod (wI (u0*u0)) a0)) (Qb (k:=.i64) (a:=wI (u0*u0)) (b:=a0) (by kernel_rfl) (by kernel_rfl) g14) (rsB 1 (As (bn_ (tn_ (wr_ (Aa 11 (rsB 1 (rs0 (ai (wI (Int.tdiv u1 2))) (Aqr (k:=.i64) (a:=u1) (b:=2) (by kernel_rfl) (by kernel_rfl) (by decide)) (rsB 1 (As (tn_ ?_)))))))))))));obtain rfl:=zj h;exact ⟨(Int.tmod (wI (u0*u0)) a0,wI (Int.tdiv u1 2),u3),_,Ac [],⟨Int.tmod (wI (u0*u0)) a0,wI (Int.tdiv u1 2),u3,rfl,rfl⟩,hn5⟩
  have q8_:=of_decide_eq_false q8;refine Af q8 (Aw (te_ (te_ (be_ (tn_ ?_)))));obtain rfl:=zj h;have h:=hn5
  (try dsimp only at h);obtain rfl:=zj h;exact ⟨_,Ac [],rfl⟩
 rintro u4 _ rfl h
 (try dsimp only at h);refine Am (Ak ?_);obtain rfl:=zj h;exact Bm [ai u4] (A8 rfl zl A7)
def Xy:AC :=
 (.seq (rg [xo 2 (qm (ci 0))])
 (.seq (.seq (rg [xm 3 0])
 (.cond (tm 3)
  (.seq (rg [xo 2 (qm (ci 1))])
  .ret)
  .skip))
 (.seq (rg [xo 2 (qm (ci 0))])
 .ret)))
def Ahr:List Res:=[.tmp 2]
theorem Ahf:Aq Tryd.prog Tryd.f88=some (Xy,Ahr):=by kernel_rfl
def Qp (a0:Bool):Option Int :=
 cond a0
 (some 1)
 (some 0)
def Afy (r:Int):RV:=⟨false,[(false,[.sc (.int .i64 r)])]⟩
theorem Af4 {a0:Bool} {r:Int} (h:Qp a0=some r):A6 Tryd.prog Tab 88 [.bool a0] (Afy r):=by
 refine A1 (by kernel_rfl) Tryd.func88 Ahf (n:=4) (by kernel_rfl) (by simp) rfl ?_;unfold Xy;unfold Qp at h;refine Am (Ab (Am ?_));rcases Ad h with ⟨q4,h⟩ | ⟨q4,h⟩
 ·refine Ae q4 (Am (Ak (tr_ ?_)));obtain rfl:=zj h;exact Bm [ai 1] (A8 rfl zl A7)
 refine Af q4 (Aj (tn_ (wr_ (Am (Ak ?_)))));obtain rfl:=zj h;exact Bm [ai 0] (A8 rfl zl A7)
def Ny:AC :=
 (.seq (rg [xo 4 (qm (ci 0))])
 (.seq (rg [xm 5 0,xm 6 1,xm 7 0,xo 8 (qb .sub (tm 7) (ci 2)),xm 9 0,xo 10 (qb .eql (tm 9) (ci 2)),xo 11 (qc 88 [tm 10] [[]]),xo 12 (qb .add (tm 8) (tm 11)),xo 13 (qc 87 [tm 5,tm 6,tm 12] [[],[],[]]),xm 4 13])
 .ret))
def Ws:List Res:=[.tmp 4]
theorem Yv:Aq Tryd.prog Tryd.f70=some (Ny,Ws):=by kernel_rfl
def Fz (a0 a1:Int):Option Int :=
 (Qp (a0==2)).bind fun y3 =>
(Mt a0 a1 (wI (wI (a0 - 2)+y3))).bind fun y4 =>
some y4
def U2 (r:Int):RV:=⟨false,[(false,[.sc (.int .i64 r)])]⟩
theorem Va {a0 a1 r:Int} (h:Fz a0 a1=some r):A6 Tryd.prog Tab 70 [ai a0,ai a1] (U2 r):=by
 refine A1 (by kernel_rfl) Tryd.func70 Yv (n:=14) (by kernel_rfl) (by simp) rfl ?_;unfold Ny;unfold Fz at h;refine Am (Ab ?_);obtain ⟨y3,h3,h⟩:=Ag h;obtain ⟨y4,h4,h⟩:=Ag h;refine Aa 12 (rsB 6 (zc (ai y3) [] [.bool (a0==2)] (Af4 h3) (rsB 1 (zc (ai y4) [] [ai a0,ai a1,ai (wI (wI (a0 - 2)+y3))] (Zh h4) (rsB 1 (As (tn_ (wr_ (Ak ?_)))))))));obtain rfl:=zj h;exact Bm [ai y4] (A8 rfl zl A7)
def Js:AC :=
 (.seq (rg [xs1 13 12 11])
 (.seq (.cond (tm 13)
  .skip
  (.exit 0))
 (.seq (.block 1 (.seq (rg [xm 14 12,xx 15 1 10 12,xl 16 15,xm 8 14,xm 9 16])
 (rg [xm 17 1,xm 18 8,xm 19 0,xm 20 1,xm 21 8,xx 22 1 20 21,xl 23 22,xm 24 2,xm 25 9,xo 26 (qb .mul (tm 24) (tm 25)),xo 27 (qb .add (tm 23) (tm 26)),xo 28 (qc 72 [tm 19,tm 27] [[],[]]),xx 29 1 17 18,xn (qs (tm 29) (tm 28))])))
 (rg [xa 30 12,xm 12 30]))))
def M7:AC :=
 (.seq (rg [xm 10 3,xn1 11 10,xo 12 (qm (ci 0))])
 (.block 0 (.loop Js)))
def U5:List Res:=[]
theorem U3:Aq Tryd.prog Tryd.f93=some (M7,U5):=by kernel_rfl
theorem T3:A5 Tryd.prog 93=true:=by kernel_rfl
def E1 (a3:List Int) (a0 a2:Int) (u0:Nat) (u1:List Int):Option (Ctl (Nat×List Int) (List Int)) :=
 cond (decide ((u0:Int)<(a3.length:Int)))
 ((a3[u0]?).bind fun x9 =>
 (u1[u0]?).bind fun x10 =>
 (Jy a0 (wI (x10+wI (a2*x9)))).bind fun y11 =>
 og (u0+1<4611686018427387904) <|
 some (Ctl.next (u0+1,u1.set u0 y11)))
 (some (Ctl.out u1))
def Fg (a0:Int) (a1:List Int) (a2:Int) (a3:List Int):Option (List Int) :=
 Ay (fun s_:Nat×List Int=>E1 a3 a0 a2 s_.1 s_.2) 4611686018427387904 (0,a1)
theorem Ua {a0:Int} {a1:List Int} {a2:Int} {a3 r:List Int} (h:Fg a0 a1 a2 a3=some r) {n_a1:Nat} (hn_a1:n_a1=a1.length):Dd Tryd.prog Tab 93 [ai a0,oI 0 0 n_a1,ai a2,tI a3] [(oi 0 0,.arr 3 .int a1)] (.tup []) [(oi 0 0,.arr 3 .int r)]:=by
 refine Cd (by kernel_rfl) Tryd.func93 U3 (n:=31) (by kernel_rfl) (by simp) rfl (by kernel_rfl) ⟨trivial,trivial⟩ ⟨trivial,trivial⟩ ?_;unfold M7;unfold Fg at h;refine Am (Ai (Ax h (fun t_ S_=>∃ (u1:Nat),∃ (u0:List Int),t_=(u1,u0)∧S_=⟨Al [(0,ai a0),(1,oI 0 0 u0.length),(2,ai a2),(10,tI a3),(11,an a3.length),(12,an u1)],Ah (Ap [(oi 0 0,.arr 3 .int u0)]),2⟩) ⟨_,(Bk 1 (oI 0 0 n_a1) (oI 0 0 a1.length) (by kernel_rfl) (congrArg (fun z_=>((oI 0 0 z_):AV)) (hn_a1:n_a1=a1.length))).trans (Ac []),⟨0,a1,rfl,rfl⟩⟩ ?_));rintro n_ _ _ c_ ⟨u1,u0,rfl,rfl⟩ h hn3
 (try dsimp only at h);unfold E1 at h;unfold Js;refine Am (Ab ?_);rcases Ad h with ⟨q6,h⟩ | ⟨q6,h⟩
 ·have q6_:=of_decide_eq_true q6;refine Ae q6 (Aj (tn_ (wr_ (Ab (Ai (Ab ?_))))));obtain ⟨x9,e9,h⟩:=Ag h;refine Aa 8 (rsB 1 (zI .int e9 (rsB 3 (As (tn_ (wr_ ?_))))));obtain ⟨x10,e10,h⟩:=Ag h;obtain ⟨y11,h11,h⟩:=Ag h;refine Aa 22 (rsB 5 (zO (oi 0 0) .int u0.length (Au e10) (zE (oi 0 0) e10 (rsB 4 (zc (ai y11) [] [ai a0,ai (wI (x10+wI (a2*x9)))] (Ady h11) (zO (oi 0 0) .int u0.length (Au e10) (zS (oi 0 0) (y11) e10 (As (bn_ (tn_ (wr_ ?_)))))))))));obtain ⟨g12,h⟩:=Ao h;refine Aa 24 (zA g12 (rsB 1 (As (tn_ ?_))));obtain rfl:=zj h;exact ⟨(u1+1,u0.set u1 y11),_,(Bk 1 (oI 0 0 u0.length) (oI 0 0 ((u0.set u1 y11).length)) (by kernel_rfl) (congrArg (fun z_=>((oI 0 0 z_):AV)) (((rfl:u0.length=u0.length).trans List.length_set.symm):u0.length=(u0.set u1 y11).length))).trans (Ac []),⟨u1+1,u0.set u1 y11,rfl,rfl⟩,hn3⟩
 have q6_:=of_decide_eq_false q6;refine Af q6 (Aw (te_ (te_ (be_ ?_))));obtain rfl:=zj h;have h:=hn3
 (try dsimp only at h);obtain rfl:=zj h;exact Dw [] (Ac (tl:=[]) (g:=2) [])
def Mb:AC :=
 (.seq (rg [xs1 12 11 10])
 (.seq (.cond (tm 12)
  .skip
  (.exit 0))
 (.seq (.block 1 (.seq (rg [xx 13 1 9 11,xl 14 13,xm 5 14])
 (rg [xm 15 3,xm 16 5,xo 17 (qc 47 [tm 16] [[some .int]]),xo 18 (.mkV 35 sI 1 [tm 17]),xo 19 (.appV 35 sI 24 (tm 15) (tm 18)),xm 3 19])))
 (rg [xa 20 11,xm 11 20]))))
def Pq:AC :=
 (.seq (rg [xo 2 (qm (.cst .nils))])
 (.seq (rg [xm 6 0,xn1 7 6,xo 8 (.makeV 35 sI 24 [.nils] (ci 0) (tm 7)),xm 3 8])
 (.seq (.seq (rg [xm 9 0,xn1 10 9,xo 11 (qm (ci 0))])
 (.block 0 (.loop Mb)))
 (.seq (rg [xm 21 3,xm 2 21])
 .ret))))
def Z2:List Res:=[.tmp 2]
theorem Aai:Aq Tryd.prog Tryd.f71=some (Pq,Z2):=by kernel_rfl
theorem Yu:A5 Tryd.prog 71=true:=by kernel_rfl
def Dj (a0:LL) (u0:Nat) (u1:LL):Option (Ctl (Nat×LL) (LL)) :=
 cond (decide ((u0:Int)<(a0.length:Int)))
 ((a0[u0]?).bind fun x13 =>
 (Hk x13).bind fun y14 =>
 og (u1.length+1<=1073741824∧(u1.length+1)*24<=140737488355328) <|
 og (u0+1<4611686018427387904) <|
 some (Ctl.next (u0+1,u1++[y14])))
 (some (Ctl.out u1))
def Gs (a0:LL):Option (LL) :=
 og (0<=(0:Int)∧(0:Int)<=(a0.length:Int)∧(a0.length:Int)<=1073741824∧(24:Int)*(a0.length:Int)<=140737488355328) <|
(Ay (fun s_:Nat×LL=>Dj a0 s_.1 s_.2) 4611686018427387904 (0,List.replicate 0 ([]:List Int))).bind fun u0 =>
some u0
theorem Xl {a0 r:LL} (h:Gs a0=some r):Dd Tryd.prog Tab 71 [tS a0] [] (oS 0 1 r.length) [(oi 0 1,.mat 35 (oi 1 1) .int r),(oi 1 1,.pool 3 .int r)]:=by
 refine Cd (by kernel_rfl) Tryd.func71 Aai (n:=22) (by kernel_rfl) (by simp) rfl (by kernel_rfl) trivial ⟨⟨3,.tail _ (.head _)⟩,⟨trivial,trivial⟩⟩ ?_;unfold Pq;unfold Gs at h;refine Am (Ab ?_);obtain ⟨g4,h⟩:=Ao h;refine Aa 6 (rsB 2 (Agz (oS 128 4 0) (oi 128 4) 35 3 .int (List.replicate 0 ([]:List Int)) trivial (Abi (j:=0) (k:=.i64) (k':=.i64) (m:=0) (c:=(a0.length:Int)) 3 (by kernel_rfl) (by kernel_rfl) g4 (by kernel_rfl) rfl) (by kernel_rfl) (by rw [List.length_replicate]) (by kernel_rfl) (rsB 1 (As (tn_ (wr_ (Av h (fun (u1:LL) S_=>S_=⟨Al [(3,oS 0 1 u1.length)],Ah (Ap [(oi 0 1,.mat 35 (oi 1 1) .int u1),(oi 1 1,.pool 3 .int u1)]),2⟩) ?_ ?_)))))))
 ·intro v_ h;refine Am (Ai (Ax h (fun t_ S_=>∃ (u2:Nat),∃ (u0:LL),t_=(u2,u0)∧S_=⟨Al [(3,oS 0 1 u0.length),(9,tS a0),(10,an a0.length),(11,an u2)],Ah (Ap [(oi 0 1,.mat 35 (oi 1 1) .int u0),(oi 1 1,.pool 3 .int u0)]),2⟩) ⟨_,(Bk 3 (oS 128 4 0) (oS 128 4 ((List.replicate 0 ([]:List Int)).length)) (by kernel_rfl) (congrArg (fun z_=>((oS 128 4 z_):AV)) (List.length_replicate.symm:0=(List.replicate 0 ([]:List Int)).length))).trans (Ac [(oi 0 1,oi 128 4),(oi 1 1,oi 128 4)]),⟨0,List.replicate 0 ([]:List Int),rfl,rfl⟩⟩ ?_));rintro n_ _ _ c_ ⟨u2,u0,rfl,rfl⟩ h hn7
  (try dsimp only at h);unfold Dj at h;unfold Mb;refine Am (Ab ?_);rcases Ad h with ⟨q10,h⟩ | ⟨q10,h⟩
  ·have q10_:=of_decide_eq_true q10;refine Ae q10 (Aj (tn_ (wr_ (Ab (Ai (Ab ?_))))));obtain ⟨x13,e13,h⟩:=Ag h;refine Aa 6 (zI sI e13 (rsB 2 (As (tn_ (wr_ ?_)))));obtain ⟨y14,h14,h⟩:=Ag h;obtain ⟨g15,h⟩:=Ao h;refine Aa 12 (rsB 2 (zc (oI 272 8 y14.length) [nI 272 8 y14] [tI x13] (Zf h14) (Aab (oS 18 9 1) (oi 18 9) (.vec 35 1 1 ([oI 272 8 y14.length])) trivial (On (by kernel_rfl)) (zV (oi 0 1) (oi 18 9) (oi 1 1) u0 [oI 272 8 y14.length] g15 (rsB 1 (As (bn_ (tn_ ⟨_,Hz (e1:=35) (e:=3) (u:=.int) (n:=u0.length+1) (len:=y14.length) (row:=y14) (ys:=y14) (xss:=u0) 9000 (oi 0 10) (oi 1 1) (oi 272 8) (by kernel_rfl) (by kernel_rfl) rfl (by kernel_rfl) (by kernel_rfl) (Sm rfl) (Sn rfl) (by kernel_rfl) (by kernel_rfl) (by kernel_rfl),?_⟩))))))));obtain ⟨g16,h⟩:=Ao h;refine Aa 15 (zA g16 (rsB 1 (As (tn_ ?_))));obtain rfl:=zj h;exact ⟨(u2+1,u0++[y14]),_,(Bk 3 (oS 0 10 (u0.length+1)) (oS 0 10 ((u0++[y14]).length)) (by kernel_rfl) (congrArg (fun z_=>((oS 0 10 z_):AV)) ((by simp):u0.length+1=(u0++[y14]).length))).trans (Ac [(oi 0 1,oi 0 10),(oi 1 1,oi 9000 12)]),⟨u2+1,u0++[y14],rfl,rfl⟩,hn7⟩
  have q10_:=of_decide_eq_false q10;refine Af q10 (Aw (te_ (te_ (be_ (tn_ ?_)))));obtain rfl:=zj h;have h:=hn7
  (try dsimp only at h);obtain rfl:=zj h;exact ⟨_,Ac [],rfl⟩
 rintro u1 _ rfl h
 (try dsimp only at h);refine Am (Ak ?_);obtain rfl:=zj h;exact Dw [oS 0 1 u1.length] (Ac (tl:=[(2,oS 0 1 u1.length)]) (g:=2) [])
def Fb:AC :=
 (.seq (rg [xs1 44 43 42])
   (.seq (.cond (tm 44)
    .skip
    (.exit 1))
   (.seq (.block 2 (.seq (rg [xm 45 43,xx 46 1 41 43,xl 47 46,xm 7 45,xm 8 47])
   (.region [xm 48 2,xf 49 1 3,xl 50 49,xx 51 1 48 50,xl 52 51,xm 53 7,xm 54 8,xm 55 6,xo 56 (qb .mul (tm 54) (tm 55)),xm 57 1,xo 58 (qb .rem (tm 56) (tm 57)),xx 59 1 52 53,xn (qs (tm 59) (tm 58))] true [])))
   (rg [xa 60 43,xm 43 60]))))
def Gb:AC :=
 (.seq (rg [xo 3 (.i (.box 91 (tm 0)))])
 (.seq (rg [xf 9 0 3,xl 10 9])
 (.block 0 (.seq (rg [xo 12 (qb .eql (tm 10) (ci 0)),xm 11 12])
 (.cond (tm 11)
  (.region [xm 13 2,xf 14 1 3,xl 15 14,xm 16 2,xf 17 2 3,xl 18 17,xm 19 2,xf 20 2 3,xl 21 20,xx 22 1 19 21,xl 23 22,xm 24 2,xf 25 1 3,xl 26 25,xx 27 1 24 26,xl 28 27,xx 29 1 13 15,xn (qs (tm 29) (tm 23)),xx 30 1 16 18,xn (qs (tm 30) (tm 28))] true [(5,17)])
  (.seq (rg [xo 32 (qb .eql (tm 10) (ci 1)),xm 31 32])
  (.cond (tm 31)
   (.seq (rg [xm 33 1,xf 34 3 3,xl 35 34,xo 36 (qc 70 [tm 33,tm 35] [[],[]]),xm 6 36])
   (.seq (rg [xm 37 2,xf 38 1 3,xl 39 38,xx 40 1 37 39,xl 41 40,xn1 42 41,xo 43 (qm (ci 0))])
   (.block 1 (.loop Fb))))
   (.seq (rg [xo 62 (qb .eql (tm 10) (ci 2)),xm 61 62])
   (.cond (tm 61)
    (.region [xm 63 1,xm 64 2,xf 65 1 3,xl 66 65,xx 67 1 64 66,xl 68 67,xf 69 3 3,xl 70 69,xo 71 (.i (.neg (tm 70))),xm 72 2,xf 73 2 3,xl 74 73,xx 75 1 72 74,xl 76 75,xo 77 (qc 93 [tm 63,tm 68,tm 71,tm 76] [[],[some .int],[],[some .int]])] true [])
    .skip)))))))))
def Kt:List Res:=[]
theorem Kv:Aq Tryd.prog Tryd.f81=some (Gb,Kt):=by kernel_rfl
theorem F2:A5 Tryd.prog 81=true:=by kernel_rfl
def B3 (x13:List Int) (u2 a1 y11:Int) (u0:Nat) (u1:LL):Option (Ctl (Nat×LL) (LL)) :=
 cond (decide ((u0:Int)<(x13.length:Int)))
 ((Tu u1 u2).bind fun x20 =>
 og (0<=(u0:Int)∧u0<x13.length) <|
 (x20[u0]?).bind fun x22 =>
 og (a1≠0) <|
 og (u0+1<4611686018427387904) <|
 some (Ctl.next (u0+1,u1.set u2.toNat (x20.set u0 (Int.tmod (wI (x22*y11)) a1)))))
 (some (Ctl.out u1))
def A9 (u2 u0:Int) (u1 u3 a1:Int) (a2:LL):Option (LL) :=
 cond (u2==0)
 ((Tu a2 u1).bind fun x6 =>
 (Tu a2 u0).bind fun x7 =>
 some ((a2.set u0.toNat x6).set u1.toNat x7))
 (cond (u2==1)
  ((Fz a1 u3).bind fun y11 =>
  (Tu a2 u0).bind fun x13 =>
  Ay (fun s_:Nat×LL=>B3 x13 u0 a1 y11 s_.1 s_.2) 4611686018427387904 (0,a2))
  (cond (u2==2)
   ((Tu a2 u0).bind fun x27 =>
   (Tu a2 u1).bind fun x28 =>
   og (u0.toNat≠u1.toNat) <|
   (Fg a1 x27 (wI (0 - u3)) x28).bind fun y30 =>
   og (y30.length=x27.length) <|
   some (a2.set u0.toNat y30))
   (some a2)))
theorem Fy {u5 u0:Int} {u1 u4 a1:Int} {a2 r:LL} (h:A9 u5 u0 u1 u4 a1 a2=some r) {n_a2:Nat} (hn_a2:n_a2=a2.length):Dd Tryd.prog Tab 81 [.agg [ai u5,ai u0,ai u1,ai u4],ai a1,oS 0 0 n_a2] [(oi 0 0,.mat 35 (oi 1 0) .int a2),(oi 1 0,.pool 3 .int a2)] (.tup []) [(oi 0 0,.mat 35 (oi 0 1) .int r),(oi 0 1,.pool 3 .int r)]:=by
 refine Cd (by kernel_rfl) Tryd.func81 Kv (n:=78) (by kernel_rfl) (by simp) rfl (by kernel_rfl) ⟨⟨3,.tail _ (.head _)⟩,⟨trivial,trivial⟩⟩ ⟨⟨3,.tail _ (.head _)⟩,⟨trivial,trivial⟩⟩ ?_;unfold Gb;unfold A9 at h;refine Am (Am (Ai (Am ?_)));rcases Ad h with ⟨q5,h⟩ | ⟨q5,h⟩
 ·refine Ae q5 ?_;obtain ⟨x6,f6,h⟩:=Ag h;obtain ⟨p6,b6,e6⟩:=Ga f6;obtain ⟨x7,f7,h⟩:=Ag h;obtain ⟨p7,b7,e7⟩:=Ga f7;refine Bb 26 (dz0 (oS 0 0 n_a2) (dz0 (.box (oi 3 1) 1) (dzl (ai u0) (dz0 (oS 0 0 n_a2) (dz0 (.box (oi 3 1) 2) (dzl (ai u1) (dz0 (oS 0 0 n_a2) (dz0 (.box (oi 3 1) 2) (dzl (ai u1) (ds0 (.elt (oi 0 0) u1.toNat 0) (zo (t:=sI) (o:=oi 0 0) (len:=n_a2) (k:=.i64) (m:=u1) p6 (Nat.lt_of_lt_of_le (Au e6) (Nat.le_of_eq (Eq.symm hn_a2)))) (dsl (.own (kid (oi 1 0) u1.toNat) .int 0 x6.length) (E0 (o:=oi 0 0) (p:=oi 1 0) (e1:=35) (u:=.int) (xss:=a2) (row:=x6) (j:=u1.toNat) (by kernel_rfl) (by kernel_rfl) e6) (dz0 (oS 0 0 n_a2) (dz0 (.box (oi 3 1) 1) (dzl (ai u0) (ds0 (.elt (oi 0 0) u0.toNat 0) (zo (t:=sI) (o:=oi 0 0) (len:=n_a2) (k:=.i64) (m:=u0) p7 (Nat.lt_of_lt_of_le (Au e7) (Nat.le_of_eq (Eq.symm hn_a2)))) (dsl (.own (kid (oi 1 0) u0.toNat) .int 0 x7.length) (E0 (o:=oi 0 0) (p:=oi 1 0) (e1:=35) (u:=.int) (xss:=a2) (row:=x7) (j:=u0.toNat) (by kernel_rfl) (by kernel_rfl) e7) (ds0 (.elt (oi 0 0) u0.toNat 0) (zo (t:=sI) (o:=oi 0 0) (len:=n_a2) (k:=.i64) (m:=u0) p7 (Nat.lt_of_lt_of_le (Au e7) (Nat.le_of_eq (Eq.symm hn_a2)))) (Aji (oi 0 0) (oi 0 0) (.vec 35 1 n_a2 ((hdL (oi 1 0) .int a2).set u0.toNat (.own (kid (oi 1 0) u1.toNat) .int 0 x6.length))) (Ad8 (o:=oi 0 0) (e1:=35) (m:=n_a2) (cs:=hdL (oi 1 0) .int a2) (v:=.own (kid (oi 1 0) u1.toNat) .int 0 x6.length) (j:=u0.toNat) (by kernel_rfl) (Aqo (by kernel_rfl) hn_a2) (by kernel_rfl) rfl (by rw [E3]; exact Au e7)) (ds0 (.elt (oi 0 0) u1.toNat 0) (zo (t:=sI) (o:=oi 0 0) (len:=n_a2) (k:=.i64) (m:=u1) p6 (Nat.lt_of_lt_of_le (Au e6) (Nat.le_of_eq (Eq.symm hn_a2)))) (Aji (oi 0 0) (oi 0 0) (.vec 35 1 n_a2 (((hdL (oi 1 0) .int a2).set u0.toNat (.own (kid (oi 1 0) u1.toNat) .int 0 x6.length)).set u1.toNat (.own (kid (oi 1 0) u0.toNat) .int 0 x7.length))) (Ad8 (o:=oi 0 0) (e1:=35) (m:=n_a2) (cs:=(hdL (oi 1 0) .int a2).set u0.toNat (.own (kid (oi 1 0) u1.toNat) .int 0 x6.length)) (v:=.own (kid (oi 1 0) u0.toNat) .int 0 x7.length) (j:=u1.toNat) (by kernel_rfl) (by kernel_rfl) (by kernel_rfl) rfl (by rw [List.length_set,E3]; exact Au e6)) (Lz (Bv (by kernel_rfl)) (bn_ ?_))))))))))))))))))))));obtain rfl:=zj h;exact Dw [] ((Ym (e1:=35) (e:=3) (u:=.int) (xss:=a2) (i:=u0.toNat) (j:=u1.toNat) (n:=n_a2) (li:=x7.length) (lj:=x6.length) (ri:=x7) (rj:=x6) 9000 (oi 0 0) (oi 1 0) (by kernel_rfl) (by kernel_rfl) hn_a2 (by kernel_rfl) e7 e6 rfl rfl (by kernel_rfl) (by kernel_rfl)).trans (Ac (tl:=[]) (g:=2) [(oi 0 1,oi 9000 26)]))
 refine Af q5 (Am ?_);rcases Ad h with ⟨q9,h⟩ | ⟨q9,h⟩
 ·refine Ae q9 (Ab ?_);obtain ⟨y11,h11,h⟩:=Ag h;refine Aa 13 (rsB 3 (zc (ai y11) [] [ai a1,ai u4] (Va h11) (rsB 1 (As (tn_ (wr_ (Ab ?_)))))));obtain ⟨x13,f13,h⟩:=Ag h;obtain ⟨p13,b13,e13⟩:=Ga f13;refine Aa 20 (rsB 3 (rs0 (.elt (oi 0 0) u0.toNat 0) (zo (t:=sI) (o:=oi 0 0) (len:=n_a2) (k:=.i64) (m:=u0) p13 (Nat.lt_of_lt_of_le (Au e13) (Nat.le_of_eq (Eq.symm hn_a2)))) (rsl (.own (kid (oi 1 0) u0.toNat) .int 0 x13.length) (E0 (o:=oi 0 0) (p:=oi 1 0) (e1:=35) (u:=.int) (xss:=a2) (row:=x13) (j:=u0.toNat) (by kernel_rfl) (by kernel_rfl) e13) (rsB 2 (As (tn_ (wr_ (Ai (Ax h (fun t_ S_=>∃ (u2:Nat),∃ (u3:LL),t_=(u2,u3)∧S_=⟨Al [(1,ai a1),(2,oS 0 0 u3.length),(3,.box (oi 1 1) 0),(6,ai y11),(41,.own (kid (oi 0 1) u0.toNat) .int 0 x13.length),(42,an x13.length),(43,an u2)],Ah (Ap [(oi 0 0,.mat 35 (oi 0 1) .int u3),(oi 0 1,.pool 3 .int u3),(oi 1 1,.cells 91 [ai u5,ai u0,ai u1,ai u4])]),2⟩) ⟨_,(Bk 2 (oS 0 0 n_a2) (oS 0 0 a2.length) (by kernel_rfl) (congrArg (fun z_=>((oS 0 0 z_):AV)) (hn_a2:n_a2=a2.length))).trans (Ac [(oi 0 1,oi 1 0),(oi 1 1,oi 3 1)]),⟨0,a2,rfl,rfl⟩⟩ ?_)))))))));rintro n_ _ _ c_ ⟨u2,u3,rfl,rfl⟩ h hn14
  (try dsimp only at h);unfold B3 at h;unfold Fb;refine Am (Ab ?_);rcases Ad h with ⟨q17,h⟩ | ⟨q17,h⟩
  ·have q17_:=of_decide_eq_true q17;refine Ae q17 (Aj (tn_ (wr_ (Ab (Ai (Ab ?_))))));obtain ⟨x20,f20,h⟩:=Ag h;obtain ⟨p20,b20,e20⟩:=Ga f20;obtain ⟨g21,h⟩:=Ao h;obtain ⟨x22,e22,h⟩:=Ag h;refine Aa 8 (rsB 1 (rs0 (.elt (kid (oi 0 1) u0.toNat) u2 0) (Aqf (t:=.int) (o:=kid (oi 0 1) u0.toNat) (off:=0) (len:=x13.length) (k:=.i64) (m:=(u2:Int)) (by kernel_rfl) (by kernel_rfl) rfl g21.1 (Nat.zero_add _) g21.2) (rsl (ai x22) (Mi (i:=kid (oi 0 1) u0.toNat) (j:=u2) (k:=0) (e:=3) (t:=.int) (xs:=x20) (by kernel_rfl) (Bg (by kernel_rfl) e20) e22 (by kernel_rfl)) (rsB 2 (As (tn_ (wr_ ?_)))))));obtain ⟨g23,h⟩:=Ao h;refine Bb 21 (dz0 (oS 0 0 u3.length) (dz0 (.box (oi 1 1) 1) (dzl (ai u0) (ds0 (.elt (oi 0 0) u0.toNat 0) (zo (t:=sI) (o:=oi 0 0) (len:=u3.length) (k:=.i64) (m:=u0) p20 (Au e20)) (dsl (.own (kid (oi 0 1) u0.toNat) .int 0 x20.length) (E0 (o:=oi 0 0) (p:=oi 0 1) (e1:=35) (u:=.int) (xss:=u3) (row:=x20) (j:=u0.toNat) (by kernel_rfl) (by kernel_rfl) e20) (dz0 (an u2) (dz0 (ai x22) (dz0 (ai y11) (dz0 (ai (wI (x22*y11))) (dz0 (ai a1) (ds0 (ai (Int.tmod (wI (x22*y11)) a1)) (Qb (k:=.i64) (a:=wI (x22*y11)) (b:=a1) (by kernel_rfl) (by kernel_rfl) g23) (ds0 (.elt (kid (oi 0 1) u0.toNat) u2 0) (zo (t:=.int) (o:=kid (oi 0 1) u0.toNat) (len:=x20.length) (k:=.i64) (m:=(u2:Int)) (C6 _) (Au e22)) (Aji (kid (oi 0 1) u0.toNat) (kid (oi 0 1) u0.toNat) (.arr 3 .int (x20.set u2 (Int.tmod (wI (x22*y11)) a1))) (Aij (i:=kid (oi 0 1) u0.toNat) (j:=u2) (k:=0) (e:=3) (t:=.int) (xs:=x20) (cs:=[ai (Int.tmod (wI (x22*y11)) a1)]) (x1:=Int.tmod (wI (x22*y11)) a1) (by kernel_rfl) (Aa2.trans (Bg (by kernel_rfl) e20)) e22 (by kernel_rfl) (by kernel_rfl)) (Aja (X6 (o:=oi 0 0) (p:=oi 0 1) (e1:=35) (e:=3) (u:=.int) (xss:=u3) (k:=u0.toNat) (row:=x20) (row':=x20.set u2 (Int.tmod (wI (x22*y11)) a1)) (by kernel_rfl) rfl (by kernel_rfl) e20 List.length_set) (Lz (Bv (by kernel_rfl)) (bn_ (tn_ (wr_ ?_))))))))))))))))));obtain ⟨g24,h⟩:=Ao h;refine Aa 23 (zA g24 (rsB 1 (As (tn_ ?_))));obtain rfl:=zj h;exact ⟨(u2+1,u3.set u0.toNat (x20.set u2 (Int.tmod (wI (x22*y11)) a1))),_,(Bk 2 (oS 0 0 u3.length) (oS 0 0 ((u3.set u0.toNat (x20.set u2 (Int.tmod (wI (x22*y11)) a1))).length)) (by kernel_rfl) (congrArg (fun z_=>((oS 0 0 z_):AV)) ((Eq.trans (b:=u3.length) rfl List.length_set.symm):u3.length=(u3.set u0.toNat (x20.set u2 (Int.tmod (wI (x22*y11)) a1))).length))).trans (Ac []),⟨u2+1,u3.set u0.toNat (x20.set u2 (Int.tmod (wI (x22*y11)) a1)),rfl,rfl⟩,hn14⟩
  have q17_:=of_decide_eq_false q17;refine Af q17 (Aw (te_ (te_ (be_ (bn_ ?_)))));obtain rfl:=zj h;have h:=hn14
  (try dsimp only at h);obtain rfl:=zj h;exact Dw [] (Ac (tl:=[]) (g:=2) [])
 refine Af q9 (Am ?_);rcases Ad h with ⟨q26,h⟩ | ⟨q26,h⟩
 ·refine Ae q26 ?_;obtain ⟨x27,f27,h⟩:=Ag h;obtain ⟨p27,b27,e27⟩:=Ga f27;obtain ⟨x28,f28,h⟩:=Ag h;obtain ⟨p28,b28,e28⟩:=Ga f28;obtain ⟨g29,h⟩:=Ao h;obtain ⟨y30,h30,h⟩:=Ag h;obtain ⟨g31,h⟩:=Ao h;refine Bb 25 (dz0 (ai a1) (dz0 (oS 0 0 n_a2) (dz0 (.box (oi 3 1) 1) (dzl (ai u0) (ds0 (.elt (oi 0 0) u0.toNat 0) (zo (t:=sI) (o:=oi 0 0) (len:=n_a2) (k:=.i64) (m:=u0) p27 (Nat.lt_of_lt_of_le (Au e27) (Nat.le_of_eq (Eq.symm hn_a2)))) (dsl (.own (kid (oi 1 0) u0.toNat) .int 0 x27.length) (E0 (o:=oi 0 0) (p:=oi 1 0) (e1:=35) (u:=.int) (xss:=a2) (row:=x27) (j:=u0.toNat) (by kernel_rfl) (by kernel_rfl) e27) (dz0 (.box (oi 3 1) 3) (dzl (ai u4) (dz0 (ai (wI (0 - u4))) (dz0 (oS 0 0 n_a2) (dz0 (.box (oi 3 1) 2) (dzl (ai u1) (ds0 (.elt (oi 0 0) u1.toNat 0) (zo (t:=sI) (o:=oi 0 0) (len:=n_a2) (k:=.i64) (m:=u1) p28 (Nat.lt_of_lt_of_le (Au e28) (Nat.le_of_eq (Eq.symm hn_a2)))) (dsl (.own (kid (oi 1 0) u1.toNat) .int 0 x28.length) (E0 (o:=oi 0 0) (p:=oi 1 0) (e1:=35) (u:=.int) (xss:=a2) (row:=x28) (j:=u1.toNat) (by kernel_rfl) (by kernel_rfl) e28) (T8 (.tup []) [(kid (oi 1 0) u0.toNat,some (.arr 3 .int y30)),(kid (oi 1 0) u0.toNat,none)] [(oi 0 0,kid (oi 1 0) u0.toNat)] [ai a1,.own (kid (oi 1 0) u0.toNat) .int 0 x27.length,ai (wI (0 - u4)),.own (kid (oi 1 0) u1.toNat) .int 0 x28.length] (caps:=[]) trivial (Ua h30 rfl) T3 ⟨Aa4 (by kernel_rfl) e27,trivial⟩ (.cons (.ren (by kernel_rfl)) (.cons (.ren (by kernel_rfl)) (.cons (.ren (by kernel_rfl)) (.cons (.gnd (by kernel_rfl) (Qo (e:=3) (u:=.int) (xs:=x28) ((Aox (L:=[kid (oi 1 0) u0.toNat]) (by kernel_rfl) ⟨Ap4 g29,trivial⟩).trans ((M6 (Xb (t:=.int) (off:=0) (len:=x28.length) 3 rfl (by kernel_rfl))).trans (Bg (by kernel_rfl) e28))) rfl)) .nil)))) (A4 (by kernel_rfl) (by kernel_rfl) ⟨.arg (by simp [AV.nmsL,AV.nms,Bc]),trivial⟩) (Ap6 (Xb (t:=.int) (off:=0) (len:=x27.length) 1 rfl (by kernel_rfl)) Aqm) (Aja (X6 (o:=oi 0 0) (p:=oi 1 0) (e1:=35) (e:=3) (u:=.int) (xss:=a2) (k:=u0.toNat) (row:=x27) (row':=y30) (by kernel_rfl) rfl (by kernel_rfl) e27 g31) (Lz (Bv (by kernel_rfl)) (bn_ ?_))))))))))))))))));obtain rfl:=zj h;exact Dw [] (Ac (tl:=[]) (g:=2) [(oi 0 1,oi 1 0)])
 refine Af q26 (Aj (bn_ ?_));obtain rfl:=zj h;exact Dw [] (Ac (tl:=[]) (g:=2) [(oi 0 1,oi 1 0)])
def Ko:AC :=
 (.seq (rg [xo 4 (.i (.box 91 (tm 0)))])
 (.seq (.seq (rg [xo 5 (.i (.ld false 4 (tm 4))),xf 6 1 4,xl 7 6,xf 8 1 4,xl 9 8,xo 10 (.build [.int .i64 0,.int .i64 0,.int .i64 0,.int .i64 0] [(0,1,ci 0),(1,1,tm 7),(2,1,tm 9)]),xo 11 (.i (.cmp false 7 (tm 5) (tm 10)))])
 (.cond (tm 11)
  .ret
  .skip))
 (.seq (rg [xo 12 (.i (.ld false 4 (tm 4))),xl 13 1,xl 14 2,xo 15 (qc 81 [tm 12,tm 13,tm 14] [[none,none,none,none],[],[some sI]])])
 (rg [xo 16 (.i (.ld false 4 (tm 4))),xl 17 1,xl 18 3,xo 19 (qc 81 [tm 16,tm 17,tm 18] [[none,none,none,none],[],[some sI]])]))))
def Ql:List Res:=[]
theorem Q3:Aq Tryd.prog Tryd.f80=some (Ko,Ql):=by kernel_rfl
theorem Gg:A5 Tryd.prog 80=true:=by kernel_rfl
def Be (u1 u0:Int) (u2 u3 u6:Int) (u4 u5:LL):Option (LL×LL) :=
 cond ([u1,u0,u2,u3]==[0,u0,u0,0])
 (some (u4,u5))
 ((A9 u1 u0 u2 u3 u6 u4).bind fun y7 =>
 og (y7.length=u4.length) <|
 (A9 u1 u0 u2 u3 u6 u5).bind fun y9 =>
 og (y9.length=u5.length) <|
 some (y7,y9))
theorem Gf {u3 u4:Int} {u5 u6 u2:Int} {u0 u1:LL} {r:LL×LL} (h:Be u3 u4 u5 u6 u2 u0 u1=some r):Dd Tryd.prog Tab 80 [.agg [ai u3,ai u4,ai u5,ai u6],.box (oi 0 0) 0,.box (oi 1 0) 0,.box (oi 4 0) 0] [(oi 0 0,.cells 3 [ai u2]),(oi 1 0,.cells 22 [oS 2 0 u0.length]),(oi 2 0,.mat 35 (oi 3 0) .int u0),(oi 3 0,.pool 3 .int u0),(oi 4 0,.cells 22 [oS 5 0 u1.length]),(oi 5 0,.mat 35 (oi 6 0) .int u1),(oi 6 0,.pool 3 .int u1)] (.tup []) [(oi 0 0,.cells 3 [ai u2]),(oi 1 0,.cells 22 [oS 2 0 r.1.length]),(oi 2 0,.mat 35 (oi 0 1) .int r.1),(oi 0 1,.pool 3 .int r.1),(oi 4 0,.cells 22 [oS 5 0 r.2.length]),(oi 5 0,.mat 35 (oi 1 1) .int r.2),(oi 1 1,.pool 3 .int r.2)]:=by
 refine Cd (by kernel_rfl) Tryd.func80 Q3 (n:=20) (by kernel_rfl) (by simp) rfl (by kernel_rfl) ⟨trivial,⟨trivial,⟨⟨3,.tail _ (.tail _ (.tail _ (.head _)))⟩,⟨trivial,⟨trivial,⟨⟨3,.tail _ (.tail _ (.tail _ (.tail _ (.tail _ (.tail _ (.head _))))))⟩,⟨trivial,trivial⟩⟩⟩⟩⟩⟩⟩ ⟨trivial,⟨trivial,⟨⟨3,.tail _ (.tail _ (.tail _ (.head _)))⟩,⟨trivial,⟨trivial,⟨⟨3,.tail _ (.tail _ (.tail _ (.tail _ (.tail _ (.tail _ (.head _))))))⟩,⟨trivial,trivial⟩⟩⟩⟩⟩⟩⟩ ?_;unfold Ko;unfold Be at h;refine Am (Ab (Am ?_));rcases Ad h with ⟨q5,h⟩ | ⟨q5,h⟩
 ·refine Ae q5 (Ak (tr_ ?_));obtain rfl:=zj h;exact Dw [] (Ac (tl:=[]) (g:=2) [(oi 0 1,oi 3 0),(oi 1 1,oi 6 0)])
 refine Af q5 (Aj (tn_ (wr_ (Ab ?_))));obtain ⟨y7,h7,h⟩:=Ag h;obtain ⟨g8,h⟩:=Ao h;refine Aa 13 (rsB 3 (Cr (.tup []) [(oi 2 0,some (.mat 35 (oi 240 12) .int y7)),(oi 240 12,some (.pool 3 .int y7)),(oi 2 0,none),(oi 3 0,some (.pool 3 .int []))] [(oi 0 0,oi 2 0),(oi 1 0,oi 3 0)] [.agg [ai u3,ai u4,ai u5,ai u6],ai u2,oS 2 0 u0.length] (caps:=[]) trivial (Fy h7 rfl) F2 ⟨by kernel_rfl,⟨by kernel_rfl,trivial⟩⟩ (.cons (.ren (by kernel_rfl)) (.cons (.ren (by kernel_rfl)) (.cons (.ren (by kernel_rfl)) .nil))) (A4 (by kernel_rfl) (by kernel_rfl) ⟨A0 (by kernel_rfl),⟨Dc (o:=oi 2 0) (p:=oi 3 0) (e1:=35) (m:=u0.length) (u:=.int) (xss:=u0) (A0 (by kernel_rfl)) (by kernel_rfl),trivial⟩⟩) (As (tn_ (wr_ ?_)))));obtain ⟨y9,h9,h⟩:=Ag h;obtain ⟨g10,h⟩:=Ao h;refine Aa 17 (rsB 3 (Cr (.tup []) [(oi 5 0,some (.mat 35 (oi 304 16) .int y9)),(oi 304 16,some (.pool 3 .int y9)),(oi 5 0,none),(oi 6 0,some (.pool 3 .int []))] [(oi 0 0,oi 5 0),(oi 1 0,oi 6 0)] [.agg [ai u3,ai u4,ai u5,ai u6],ai u2,oS 5 0 u1.length] (caps:=[]) trivial (Fy h9 rfl) F2 ⟨by kernel_rfl,⟨by kernel_rfl,trivial⟩⟩ (.cons (.ren (by kernel_rfl)) (.cons (.ren (by kernel_rfl)) (.cons (.ren (by kernel_rfl)) .nil))) (A4 (by kernel_rfl) (by kernel_rfl) ⟨A0 (by kernel_rfl),⟨Dc (o:=oi 5 0) (p:=oi 6 0) (e1:=35) (m:=u1.length) (u:=.int) (xss:=u1) (A0 (by kernel_rfl)) (by kernel_rfl),trivial⟩⟩) (As ?_)));obtain rfl:=zj h;exact Dw [] ((Kl (oi 1 0) (.cells 22 [oS 2 0 u0.length]) (.cells 22 [oS 2 0 y7.length]) (by kernel_rfl) (congrArg (fun z_=>(.cells 22 [oS 2 0 z_]:Ob)) (g8.symm:u0.length=y7.length))).trans ((Kl (oi 4 0) (.cells 22 [oS 5 0 u1.length]) (.cells 22 [oS 5 0 y9.length]) (by kernel_rfl) (congrArg (fun z_=>(.cells 22 [oS 5 0 z_]:Ob)) (g10.symm:u1.length=y9.length))).trans (Ac (tl:=[]) (g:=2) [(oi 0 1,oi 240 12),(oi 1 1,oi 304 16)])))
def I6:AC :=
 (.seq (rg [xs1 66 65 64])
 (.seq (.cond (tm 66)
  .skip
  (.exit 4))
 (.seq (.block 5 (.seq (rg [xm 67 65,xm 13 67])
 (.seq (rg [xm 68 13,xm 69 9,xo 70 (qb .neq (tm 68) (tm 69)),xm 71 70,⟨some 72,some (71,true),ql (tm 5)⟩,⟨some 73,some (71,true),qm (tm 13)⟩,⟨some 74,some (71,true),qx 1 (tm 72) (tm 73)⟩,⟨some 75,some (71,true),ql (tm 74)⟩,⟨some 76,some (71,true),qm (tm 11)⟩,⟨some 77,some (71,true),qx 1 (tm 75) (tm 76)⟩,⟨some 78,some (71,true),ql (tm 77)⟩,⟨some 79,some (71,true),qb .neq (tm 78) (ci 0)⟩,xo 80 (.i (.pick (tm 71) (tm 79) (cb false)))])
 (.cond (tm 80)
  (rg [xm 81 10,xm 82 13,xm 83 9,xl 84 5,xm 85 13,xx 86 1 84 85,xl 87 86,xm 88 11,xx 89 1 87 88,xl 90 89,xo 91 (.build [.int .i64 0,.int .i64 0,.int .i64 0,.int .i64 0] [(0,1,ci 2),(1,1,tm 82),(2,1,tm 83),(3,1,tm 90)]),xo 92 (.call (tm 81) [tm 91] [[none,none,none,none]])])
  .skip))))
 (rg [xa 93 65,xm 65 93]))))
def I3:AC :=
 (.seq (.seq (rg [xm 27 12,xl 28 5,xn1 29 28,xs1 30 27 29,xm 31 30,⟨some 32,some (31,true),ql (tm 5)⟩,⟨some 33,some (31,true),qm (tm 12)⟩,⟨some 34,some (31,true),qx 1 (tm 32) (tm 33)⟩,⟨some 35,some (31,true),ql (tm 34)⟩,⟨some 36,some (31,true),qm (tm 11)⟩,⟨some 37,some (31,true),qx 1 (tm 35) (tm 36)⟩,⟨some 38,some (31,true),ql (tm 37)⟩,⟨some 39,some (31,true),qb .eql (tm 38) (ci 0)⟩,xo 40 (.i (.pick (tm 31) (tm 39) (cb false)))])
 (.cond (tm 40)
  .skip
  (.exit 2)))
 (.block 3 (rg [xm 41 12,xa 42 41,xm 12 42])))
def Jb:AC :=
 (.seq (.seq (rg [xm 15 11,xm 16 2,xs1 17 15 16,xm 18 17,⟨some 19,some (18,true),qm (tm 9)⟩,⟨some 20,some (18,true),ql (tm 5)⟩,⟨some 21,some (18,true),.i (.len (tm 20))⟩,⟨some 22,some (18,true),qb .lss (tm 19) (tm 21)⟩,xo 23 (.i (.pick (tm 18) (tm 22) (cb false)))])
 (.cond (tm 23)
  .skip
  (.exit 0)))
 (.seq (.block 1 (.seq (rg [xm 26 9,xm 12 26])
 (.seq (.block 2 (.loop I3))
 (.seq (.seq (rg [xm 43 12,xl 44 5,xn1 45 44,xo 46 (qb .eql (tm 43) (tm 45))])
 (.cond (tm 46)
  (.exit 1)
  .skip))
 (.seq (rg [xm 47 10,xm 48 9,xm 49 12,xo 50 (.build [.int .i64 0,.int .i64 0,.int .i64 0,.int .i64 0] [(0,1,ci 0),(1,1,tm 48),(2,1,tm 49)]),xo 51 (.call (tm 47) [tm 50] [[none,none,none,none]])])
 (.seq (rg [xm 52 10,xm 53 9,xl 54 5,xm 55 9,xx 56 1 54 55,xl 57 56,xm 58 11,xx 59 1 57 58,xl 60 59,xo 61 (.build [.int .i64 0,.int .i64 0,.int .i64 0,.int .i64 0] [(0,1,ci 1),(1,1,tm 53),(3,1,tm 60)]),xo 62 (.call (tm 52) [tm 61] [[none,none,none,none]])])
 (.seq (.seq (rg [xl 63 5,xn1 64 63,xo 65 (qm (ci 0))])
 (.block 4 (.loop I6)))
 (rg [xm 94 9,xa 95 94,xm 9 95]))))))))
 (rg [xm 24 11,xa 25 24,xm 11 25])))
def L0:AC :=
 (.seq (rg [xo 4 (.i (.box 3 (tm 0))),xo 5 (.i (.box 22 (tm 1))),xo 7 (.i (.box 22 (tm 3))),xo 8 (qm (ci 0))])
 (.seq (rg [xo 9 (qm (ci 0))])
 (.seq (rg [xo 14 (.i (.mkfn 80 [tm 4,tm 5,tm 7])),xm 10 14])
 (.seq (.seq (rg [xo 11 (qm (ci 0))])
 (.block 0 (.loop Jb)))
 (.seq (rg [xm 96 9,xm 8 96])
 .ret)))))
def Te:List Res:=[.tmp 8]
theorem Tc:Aq Tryd.prog Tryd.f60=some (L0,Te):=by kernel_rfl
theorem K6:A5 Tryd.prog 60=true:=by kernel_rfl
def Ce (l7_p0:LL) (u1 u0:Nat):Option (Ctl Nat Nat) :=
 (cond (decide ((u0:Int)<(l7_p0.length:Int)))
  ((l7_p0[u0]?).bind fun x19 =>
  (x19[u1]?).bind fun x20 =>
  some (x20==0))
  (some false)).bind fun u2 =>
cond u2
 (og (u0+1<4611686018427387904) <|
 some (Ctl.next (u0+1)))
 (some (Ctl.out u0))
def C4 (y31:LL×LL) (u1 u2:Nat) (a0:Int) (u0:Nat) (l34_p0 l34_p2:LL):Option (Ctl (Nat×LL×LL) (LL×LL)) :=
 cond (decide ((u0:Int)<(y31.1.length:Int)))
 (((cond ((u0:Int) !=(u1:Int))
       ((l34_p0[u0]?).bind fun x42 =>
       (x42[u2]?).bind fun x43 =>
       some (x43 !=0))
       (some false)).bind fun u3 =>
  cond u3
   ((l34_p0[u0]?).bind fun x45 =>
   (x45[u2]?).bind fun x46 =>
   (Be 2 (u0:Int) (u1:Int) x46 a0 l34_p0 l34_p2).bind fun y47 =>
   some (y47.1,y47.2))
   (some (l34_p0,l34_p2))).bind fun (l38_p0,l38_p2) =>
 og (u0+1<4611686018427387904) <|
 some (Ctl.next (u0+1,l38_p0,l38_p2)))
 (some (Ctl.out (l34_p0,l34_p2)))
def Bz (a2 a0:Int) (u0 u1:Nat) (l7_p0 l7_p2:LL):Option (Ctl (Nat×Nat×LL×LL) (Nat×LL×LL)) :=
 (cond (decide ((u1:Int)<a2))
  (some (decide ((u0:Int)<(l7_p0.length:Int))))
  (some false)).bind fun u3 =>
cond u3
 (((Ay (fun s_:Nat=>Ce l7_p0 u1 s_) 4611686018427387904 u0).bind fun u2 =>
  cond ((u2:Int)==(l7_p0.length:Int))
   (some (u0,l7_p0,l7_p2))
   ((Be 0 (u0:Int) (u2:Int) 0 a0 l7_p0 l7_p2).bind fun y27 =>
   (y27.1[u0]?).bind fun x29 =>
   (x29[u1]?).bind fun x30 =>
   (Be 1 (u0:Int) 0 x30 a0 y27.1 y27.2).bind fun y31 =>
   (Ay (fun s_:Nat×LL×LL=>C4 y31 u0 u1 a0 s_.1 s_.2.1 s_.2.2) 4611686018427387904 (0,y31.1,y31.2)).bind fun (l32_p0,l32_p2) =>
   og (u0+1<4611686018427387904) <|
   some (u0+1,l32_p0,l32_p2))).bind fun (u4,l12_p0,l12_p2) =>
 og (u1+1<4611686018427387904) <|
 some (Ctl.next (u4,u1+1,l12_p0,l12_p2)))
 (some (Ctl.out (u0,l7_p0,l7_p2)))
def Di (a0:Int) (a1:LL) (a2:Int) (a3:LL):Option (LL×LL×Nat) :=
 (Ay (fun s_:Nat×Nat×LL×LL=>Bz a2 a0 s_.1 s_.2.1 s_.2.2.1 s_.2.2.2) 4611686018427387904 (0,0,a1,a3)).bind fun (u0,l5_p0,l5_p2) =>
some (l5_p0,l5_p2,u0)
theorem K9 {a0:Int} {a1:LL} {a2:Int} {a3:LL} {r:LL×LL×Nat} (h:Di a0 a1 a2 a3=some r) {n_a1:Nat} (hn_a1:n_a1=a1.length) {n_a3:Nat} (hn_a3:n_a3=a3.length):Dd Tryd.prog Tab 60 [ai a0,oS 0 0 n_a1,ai a2,oS 2 0 n_a3] [(oi 0 0,.mat 35 (oi 1 0) .int a1),(oi 1 0,.pool 3 .int a1),(oi 2 0,.mat 35 (oi 3 0) .int a3),(oi 3 0,.pool 3 .int a3)] (an r.2.2) [(oi 0 0,.mat 35 (oi 0 1) .int r.1),(oi 0 1,.pool 3 .int r.1),(oi 2 0,.mat 35 (oi 1 1) .int r.2.1),(oi 1 1,.pool 3 .int r.2.1)]:=by
 refine Cd (by kernel_rfl) Tryd.func60 Tc (n:=97) (by kernel_rfl) (by simp) rfl (by kernel_rfl) ⟨⟨3,.tail _ (.head _)⟩,⟨trivial,⟨⟨3,.tail _ (.tail _ (.tail _ (.head _)))⟩,⟨trivial,trivial⟩⟩⟩⟩ ⟨⟨3,.tail _ (.head _)⟩,⟨trivial,⟨⟨3,.tail _ (.tail _ (.tail _ (.head _)))⟩,⟨trivial,trivial⟩⟩⟩⟩ ?_;unfold L0;unfold Di at h;refine Am (Am (Am (Av h (fun t_ S_=>∃ (u4:Nat),∃ (l5_p0:LL),∃ (l5_p2:LL),t_=(u4,l5_p0,l5_p2)∧S_=⟨Al [(9,an u4)],Ah (Ap [(oi 0 0,.mat 35 (oi 0 1) .int l5_p0),(oi 0 1,.pool 3 .int l5_p0),(oi 2 0,.mat 35 (oi 1 1) .int l5_p2),(oi 1 1,.pool 3 .int l5_p2)]),2⟩) ?_ ?_)))
 ·intro v_ h;refine Am (Ai (Ax h (fun t_ S_=>∃ (u1:Nat),∃ (u0:Nat),∃ (l7_p0:LL),∃ (l7_p2:LL),t_=(u1,u0,l7_p0,l7_p2)∧S_=⟨Al [(2,ai a2),(5,.box (oi 0 1) 0),(9,an u1),(10,.fn 80 [.box (oi 1 1) 0,.box (oi 0 1) 0,.box (oi 2 1) 0]),(11,an u0)],Ah (Ap [(oi 0 1,.cells 22 [oS 0 0 l7_p0.length]),(oi 1 1,.cells 3 [ai a0]),(oi 2 1,.cells 22 [oS 2 0 l7_p2.length]),(oi 0 0,.mat 35 (oi 3 1) .int l7_p0),(oi 3 1,.pool 3 .int l7_p0),(oi 2 0,.mat 35 (oi 4 1) .int l7_p2),(oi 4 1,.pool 3 .int l7_p2)]),2⟩) ⟨_,(Kl (oi 5 2) (.cells 22 [oS 0 0 n_a1]) (.cells 22 [oS 0 0 a1.length]) (by kernel_rfl) (congrArg (fun z_=>(.cells 22 [oS 0 0 z_]:Ob)) (hn_a1:n_a1=a1.length))).trans ((Kl (oi 7 3) (.cells 22 [oS 2 0 n_a3]) (.cells 22 [oS 2 0 a3.length]) (by kernel_rfl) (congrArg (fun z_=>(.cells 22 [oS 2 0 z_]:Ob)) (hn_a3:n_a3=a3.length))).trans (Ac [(oi 0 1,oi 5 2),(oi 3 1,oi 1 0),(oi 1 1,oi 4 1),(oi 2 1,oi 7 3),(oi 4 1,oi 3 0)])),⟨0,0,a1,a3,rfl,rfl⟩⟩ ?_));rintro n_ _ _ c_ ⟨u1,u0,l7_p0,l7_p2,rfl,rfl⟩ h hn7
  (try dsimp only at h);unfold Bz at h;unfold Jb;refine Ab (Av h (fun (u7:Bool) S_=>S_=⟨Al [(2,ai a2),(5,.box (oi 0 1) 0),(9,an u1),(10,.fn 80 [.box (oi 1 1) 0,.box (oi 0 1) 0,.box (oi 2 1) 0]),(11,an u0),(23,.bool u7)],Ah (Ap [(oi 0 1,.cells 22 [oS 0 0 l7_p0.length]),(oi 1 1,.cells 3 [ai a0]),(oi 2 1,.cells 22 [oS 2 0 l7_p2.length]),(oi 0 0,.mat 35 (oi 3 1) .int l7_p0),(oi 3 1,.pool 3 .int l7_p0),(oi 2 0,.mat 35 (oi 4 1) .int l7_p2),(oi 4 1,.pool 3 .int l7_p2)]),2⟩) ?_ ?_)
  ·intro v_ h;rcases Ad h with ⟨q10,h⟩ | ⟨q10,h⟩
   ·have q10_:=of_decide_eq_true q10;refine Aa 11 (rsB 4 (rs0 (an u1) (zg q10) (rsl (oS 0 0 l7_p0.length) (zg q10) (rs0 (an l7_p0.length) (zg q10) (rs0 (.bool (decide ((u1:Int)<(l7_p0.length:Int)))) (zg q10) (rs0 (.bool (decide ((u1:Int)<(l7_p0.length:Int)))) (zT q10) (As (tn_ ?_))))))));obtain rfl:=zj h;exact ⟨_,Ac [],rfl⟩
   have q10_:=of_decide_eq_false q10;refine Aa 11 (rsB 4 (zs q10 (zs q10 (zs q10 (zs q10 (rs0 (.bool false) (zF q10) (As (tn_ ?_))))))));obtain rfl:=zj h;exact ⟨_,Ac [],rfl⟩
  rintro u7 _ rfl h
  (try dsimp only at h);rcases Ad h with ⟨q11,h⟩ | ⟨q11,h⟩
  ·refine Ae q11 (Aj (tn_ (wr_ (Av h (fun t_ S_=>∃ (u5:Nat),∃ (l12_p0:LL),∃ (l12_p2:LL),t_=(u5,l12_p0,l12_p2)∧S_=⟨Al [(2,ai a2),(5,.box (oi 0 1) 0),(9,an u5),(10,.fn 80 [.box (oi 1 1) 0,.box (oi 0 1) 0,.box (oi 2 1) 0]),(11,an u0)],Ah (Ap [(oi 0 1,.cells 22 [oS 0 0 l12_p0.length]),(oi 1 1,.cells 3 [ai a0]),(oi 2 1,.cells 22 [oS 2 0 l12_p2.length]),(oi 0 0,.mat 35 (oi 3 1) .int l12_p0),(oi 3 1,.pool 3 .int l12_p0),(oi 2 0,.mat 35 (oi 4 1) .int l12_p2),(oi 4 1,.pool 3 .int l12_p2)]),2⟩) ?_ ?_))))
   ·intro v_ h;refine Ai (Am (Av h (fun (u6:Nat) S_=>S_=⟨Al [(2,ai a2),(5,.box (oi 0 1) 0),(9,an u1),(10,.fn 80 [.box (oi 1 1) 0,.box (oi 0 1) 0,.box (oi 2 1) 0]),(11,an u0),(12,an u6)],Ah (Ap [(oi 0 1,.cells 22 [oS 0 0 l7_p0.length]),(oi 1 1,.cells 3 [ai a0]),(oi 2 1,.cells 22 [oS 2 0 l7_p2.length]),(oi 0 0,.mat 35 (oi 3 1) .int l7_p0),(oi 3 1,.pool 3 .int l7_p0),(oi 2 0,.mat 35 (oi 4 1) .int l7_p2),(oi 4 1,.pool 3 .int l7_p2)]),2⟩) ?_ ?_))
    ·intro v_ h;refine Ai (Ax h (fun (u3:Nat) S_=>S_=⟨Al [(2,ai a2),(5,.box (oi 0 1) 0),(9,an u1),(10,.fn 80 [.box (oi 1 1) 0,.box (oi 0 1) 0,.box (oi 2 1) 0]),(11,an u0),(12,an u3)],Ah (Ap [(oi 0 1,.cells 22 [oS 0 0 l7_p0.length]),(oi 1 1,.cells 3 [ai a0]),(oi 2 1,.cells 22 [oS 2 0 l7_p2.length]),(oi 0 0,.mat 35 (oi 3 1) .int l7_p0),(oi 3 1,.pool 3 .int l7_p0),(oi 2 0,.mat 35 (oi 4 1) .int l7_p2),(oi 4 1,.pool 3 .int l7_p2)]),2⟩) ⟨_,Ac [],rfl⟩ ?_);rintro n_ u3 _ c_ rfl h hn15
     (try dsimp only at h);unfold Ce at h;unfold I3;refine Ab (Av h (fun (u8:Bool) S_=>S_=⟨Al [(2,ai a2),(5,.box (oi 0 1) 0),(9,an u1),(10,.fn 80 [.box (oi 1 1) 0,.box (oi 0 1) 0,.box (oi 2 1) 0]),(11,an u0),(12,an u3),(40,.bool u8)],Ah (Ap [(oi 0 1,.cells 22 [oS 0 0 l7_p0.length]),(oi 1 1,.cells 3 [ai a0]),(oi 2 1,.cells 22 [oS 2 0 l7_p2.length]),(oi 0 0,.mat 35 (oi 3 1) .int l7_p0),(oi 3 1,.pool 3 .int l7_p0),(oi 2 0,.mat 35 (oi 4 1) .int l7_p2),(oi 4 1,.pool 3 .int l7_p2)]),2⟩) ?_ ?_)
     ·intro v_ h;rcases Ad h with ⟨q18,h⟩ | ⟨q18,h⟩
      ·have q18_:=of_decide_eq_true q18;obtain ⟨x19,e19,h⟩:=Ag h;obtain ⟨x20,e20,h⟩:=Ag h;refine Aa 16 (rsB 5 (rsl (oS 0 0 l7_p0.length) (zg q18) (rs0 (an u3) (zg q18) (rs0 (.elt (oi 0 0) u3 0) (Nv (by kernel_rfl) q18 (zo (t:=sI) (o:=oi 0 0) (len:=l7_p0.length) (k:=.i64) (m:=(u3:Int)) (C6 _) (Au e19))) (rsl (.own (kid (oi 3 1) u3) .int 0 x19.length) (Nv (by kernel_rfl) q18 (E0 (o:=oi 0 0) (p:=oi 3 1) (e1:=35) (u:=.int) (xss:=l7_p0) (row:=x19) (j:=u3) (by kernel_rfl) (by kernel_rfl) e19)) (rs0 (an u0) (zg q18) (rs0 (.elt (kid (oi 3 1) u3) u0 0) (Nv (by kernel_rfl) q18 (zo (t:=.int) (o:=kid (oi 3 1) u3) (len:=x19.length) (k:=.i64) (m:=(u0:Int)) (C6 _) (Au e20))) (rsl (ai x20) (Nv (by kernel_rfl) q18 (Mi (i:=kid (oi 3 1) u3) (j:=u0) (k:=0) (e:=3) (t:=.int) (xs:=x19) (by kernel_rfl) (Bg (by kernel_rfl) e19) e20 (by kernel_rfl))) (rs0 (.bool (x20==0)) (zg q18) (rs0 (.bool (x20==0)) (zT q18) (As (tn_ ?_))))))))))));obtain rfl:=zj h;exact ⟨_,Ac [],rfl⟩
      have q18_:=of_decide_eq_false q18;refine Aa 16 (rsB 5 (zs q18 (zs q18 (zs q18 (zs q18 (zs q18 (zs q18 (zs q18 (zs q18 (rs0 (.bool false) (zF q18) (As (tn_ ?_))))))))))));obtain rfl:=zj h;exact ⟨_,Ac [],rfl⟩
     rintro u8 _ rfl h
     (try dsimp only at h);rcases Ad h with ⟨q21,h⟩ | ⟨q21,h⟩
     ·refine Ae q21 (Aj (tn_ (wr_ (Ai ?_))));obtain ⟨g22,h⟩:=Ao h;refine Aa 5 (rsB 1 (zA g22 (rsB 1 (As (bn_ (tn_ ?_))))));obtain rfl:=zj h;exact ⟨u3+1,_,Ac [],rfl,hn15⟩
     refine Af q21 (Aw (te_ (te_ (be_ (tn_ ?_)))));obtain rfl:=zj h;have h:=hn15
     (try dsimp only at h);obtain rfl:=zj h;exact ⟨_,Ac [],rfl⟩
    rintro u6 _ rfl h
    (try dsimp only at h);refine Ab (Am ?_);rcases Ad h with ⟨q25,h⟩ | ⟨q25,h⟩
    ·refine Ae q25 (Aw (te_ (be_ (tn_ ?_))));obtain rfl:=zj h;exact ⟨_,Ac [],⟨u1,l7_p0,l7_p2,rfl,rfl⟩⟩
    refine Af q25 (Aj (tn_ (wr_ (Ab ?_))));obtain ⟨y27,h27,h⟩:=Ag h;refine Aa 11 (rsB 4 (Cr (.tup []) [(oi 1 1,some (.cells 3 [ai a0])),(oi 0 1,some (.cells 22 [oS 0 0 y27.1.length])),(oi 0 0,some (.mat 35 (oi 816 10) .int y27.1)),(oi 816 10,some (.pool 3 .int y27.1)),(oi 2 1,some (.cells 22 [oS 2 0 y27.2.length])),(oi 2 0,some (.mat 35 (oi 817 10) .int y27.2)),(oi 817 10,some (.pool 3 .int y27.2)),(oi 1 1,none),(oi 0 1,none),(oi 0 0,none),(oi 3 1,some (.pool 3 .int [])),(oi 2 1,none),(oi 2 0,none),(oi 4 1,some (.pool 3 .int []))] [(oi 0 0,oi 1 1),(oi 1 0,oi 0 1),(oi 2 0,oi 0 0),(oi 3 0,oi 3 1),(oi 4 0,oi 2 1),(oi 5 0,oi 2 0),(oi 6 0,oi 4 1)] [.agg [ai 0,an u1,an u6,ai 0],.box (oi 1 1) 0,.box (oi 0 1) 0,.box (oi 2 1) 0] (caps:=[.box (oi 1 1) 0,.box (oi 0 1) 0,.box (oi 2 1) 0]) trivial (Gf h27) Gg ⟨by kernel_rfl,⟨by kernel_rfl,⟨by kernel_rfl,⟨by kernel_rfl,⟨by kernel_rfl,⟨by kernel_rfl,⟨by kernel_rfl,trivial⟩⟩⟩⟩⟩⟩⟩ (.cons (.ren (by kernel_rfl)) (.cons (.ren (by kernel_rfl)) (.cons (.ren (by kernel_rfl)) (.cons (.ren (by kernel_rfl)) .nil)))) (A4 (by kernel_rfl) (by kernel_rfl) ⟨A0 (by kernel_rfl),⟨A0 (by kernel_rfl),⟨Bd (k:=oi 0 1) (ty:=22) (cs:=[oS 0 0 l7_p0.length]) (A0 (by kernel_rfl)) (by kernel_rfl) (by kernel_rfl),⟨Dc (o:=oi 0 0) (p:=oi 3 1) (e1:=35) (m:=l7_p0.length) (u:=.int) (xss:=l7_p0) (Bd (k:=oi 0 1) (ty:=22) (cs:=[oS 0 0 l7_p0.length]) (A0 (by kernel_rfl)) (by kernel_rfl) (by kernel_rfl)) (by kernel_rfl),⟨A0 (by kernel_rfl),⟨Bd (k:=oi 2 1) (ty:=22) (cs:=[oS 2 0 l7_p2.length]) (A0 (by kernel_rfl)) (by kernel_rfl) (by kernel_rfl),⟨Dc (o:=oi 2 0) (p:=oi 4 1) (e1:=35) (m:=l7_p2.length) (u:=.int) (xss:=l7_p2) (Bd (k:=oi 2 1) (ty:=22) (cs:=[oS 2 0 l7_p2.length]) (A0 (by kernel_rfl)) (by kernel_rfl) (by kernel_rfl)) (by kernel_rfl),trivial⟩⟩⟩⟩⟩⟩⟩) (As (tn_ (wr_ (Ab ?_))))));obtain ⟨x29,e29,h⟩:=Ag h;obtain ⟨x30,e30,h⟩:=Ag h;obtain ⟨y31,h31,h⟩:=Ag h;refine Aa 22 (rsB 4 (zO (oi 0 0) sI y27.1.length (Au e29) (rsl (.own (kid (oi 816 10) u1) .int 0 x29.length) (E0 (o:=oi 0 0) (p:=oi 816 10) (e1:=35) (u:=.int) (xss:=y27.1) (row:=x29) (j:=u1) (by kernel_rfl) (by kernel_rfl) e29) (rsB 1 (rs0 (.elt (kid (oi 816 10) u1) u0 0) (zo (t:=.int) (o:=kid (oi 816 10) u1) (len:=x29.length) (k:=.i64) (m:=(u0:Int)) (C6 _) (Au e30)) (rsl (ai x30) (Mi (i:=kid (oi 816 10) u1) (j:=u0) (k:=0) (e:=3) (t:=.int) (xs:=x29) (by kernel_rfl) (Bg (by kernel_rfl) e29) e30 (by kernel_rfl)) (rsB 1 (Cr (.tup []) [(oi 1 1,some (.cells 3 [ai a0])),(oi 0 1,some (.cells 22 [oS 0 0 y31.1.length])),(oi 0 0,some (.mat 35 (oi 992 21) .int y31.1)),(oi 992 21,some (.pool 3 .int y31.1)),(oi 2 1,some (.cells 22 [oS 2 0 y31.2.length])),(oi 2 0,some (.mat 35 (oi 993 21) .int y31.2)),(oi 993 21,some (.pool 3 .int y31.2)),(oi 1 1,none),(oi 0 1,none),(oi 0 0,none),(oi 816 10,some (.pool 3 .int [])),(oi 2 1,none),(oi 2 0,none),(oi 817 10,some (.pool 3 .int []))] [(oi 0 0,oi 1 1),(oi 1 0,oi 0 1),(oi 2 0,oi 0 0),(oi 3 0,oi 816 10),(oi 4 0,oi 2 1),(oi 5 0,oi 2 0),(oi 6 0,oi 817 10)] [.agg [ai 1,an u1,ai 0,ai x30],.box (oi 1 1) 0,.box (oi 0 1) 0,.box (oi 2 1) 0] (caps:=[.box (oi 1 1) 0,.box (oi 0 1) 0,.box (oi 2 1) 0]) trivial (Gf h31) Gg ⟨by kernel_rfl,⟨by kernel_rfl,⟨by kernel_rfl,⟨by kernel_rfl,⟨by kernel_rfl,⟨by kernel_rfl,⟨by kernel_rfl,trivial⟩⟩⟩⟩⟩⟩⟩ (.cons (.ren (by kernel_rfl)) (.cons (.ren (by kernel_rfl)) (.cons (.ren (by kernel_rfl)) (.cons (.ren (by kernel_rfl)) .nil)))) (A4 (by kernel_rfl) (by kernel_rfl) ⟨A0 (by kernel_rfl),⟨A0 (by kernel_rfl),⟨Bd (k:=oi 0 1) (ty:=22) (cs:=[oS 0 0 y27.1.length]) (A0 (by kernel_rfl)) (by kernel_rfl) (by kernel_rfl),⟨Dc (o:=oi 0 0) (p:=oi 816 10) (e1:=35) (m:=y27.1.length) (u:=.int) (xss:=y27.1) (Bd (k:=oi 0 1) (ty:=22) (cs:=[oS 0 0 y27.1.length]) (A0 (by kernel_rfl)) (by kernel_rfl) (by kernel_rfl)) (by kernel_rfl),⟨A0 (by kernel_rfl),⟨Bd (k:=oi 2 1) (ty:=22) (cs:=[oS 2 0 y27.2.length]) (A0 (by kernel_rfl)) (by kernel_rfl) (by kernel_rfl),⟨Dc (o:=oi 2 0) (p:=oi 817 10) (e1:=35) (m:=y27.2.length) (u:=.int) (xss:=y27.2) (Bd (k:=oi 2 1) (ty:=22) (cs:=[oS 2 0 y27.2.length]) (A0 (by kernel_rfl)) (by kernel_rfl) (by kernel_rfl)) (by kernel_rfl),trivial⟩⟩⟩⟩⟩⟩⟩) ?_))))))));refine As (tn_ (wr_ (Av h (fun t_ S_=>∃ (l32_p0:LL),∃ (l32_p2:LL),t_=(l32_p0,l32_p2)∧S_=⟨Al [(2,ai a2),(5,.box (oi 0 1) 0),(9,an u1),(10,.fn 80 [.box (oi 1 1) 0,.box (oi 0 1) 0,.box (oi 2 1) 0]),(11,an u0)],Ah (Ap [(oi 0 1,.cells 22 [oS 0 0 l32_p0.length]),(oi 1 1,.cells 3 [ai a0]),(oi 2 1,.cells 22 [oS 2 0 l32_p2.length]),(oi 0 0,.mat 35 (oi 3 1) .int l32_p0),(oi 3 1,.pool 3 .int l32_p0),(oi 2 0,.mat 35 (oi 4 1) .int l32_p2),(oi 4 1,.pool 3 .int l32_p2)]),2⟩) ?_ ?_)))
    ·intro v_ h;refine Am (Ai (Ax h (fun t_ S_=>∃ (u2:Nat),∃ (l34_p0:LL),∃ (l34_p2:LL),t_=(u2,l34_p0,l34_p2)∧S_=⟨Al [(2,ai a2),(5,.box (oi 0 1) 0),(9,an u1),(10,.fn 80 [.box (oi 1 1) 0,.box (oi 0 1) 0,.box (oi 2 1) 0]),(11,an u0),(64,an y31.1.length),(65,an u2)],Ah (Ap [(oi 0 1,.cells 22 [oS 0 0 l34_p0.length]),(oi 1 1,.cells 3 [ai a0]),(oi 2 1,.cells 22 [oS 2 0 l34_p2.length]),(oi 0 0,.mat 35 (oi 3 1) .int l34_p0),(oi 3 1,.pool 3 .int l34_p0),(oi 2 0,.mat 35 (oi 4 1) .int l34_p2),(oi 4 1,.pool 3 .int l34_p2)]),2⟩) ⟨_,Ac [(oi 3 1,oi 992 21),(oi 4 1,oi 993 21)],⟨0,y31.1,y31.2,rfl,rfl⟩⟩ ?_));rintro n_ _ _ c_ ⟨u2,l34_p0,l34_p2,rfl,rfl⟩ h hn34
     (try dsimp only at h);unfold C4 at h;unfold I6;refine Am (Ab ?_);rcases Ad h with ⟨q37,h⟩ | ⟨q37,h⟩
     ·have q37_:=of_decide_eq_true q37;refine Ae q37 (Aj (tn_ (wr_ (Av h (fun t_ S_=>∃ (l38_p0:LL),∃ (l38_p2:LL),t_=(l38_p0,l38_p2)∧S_=⟨Al [(2,ai a2),(5,.box (oi 0 1) 0),(9,an u1),(10,.fn 80 [.box (oi 1 1) 0,.box (oi 0 1) 0,.box (oi 2 1) 0]),(11,an u0),(64,an y31.1.length),(65,an u2)],Ah (Ap [(oi 0 1,.cells 22 [oS 0 0 l38_p0.length]),(oi 1 1,.cells 3 [ai a0]),(oi 2 1,.cells 22 [oS 2 0 l38_p2.length]),(oi 0 0,.mat 35 (oi 3 1) .int l38_p0),(oi 3 1,.pool 3 .int l38_p0),(oi 2 0,.mat 35 (oi 4 1) .int l38_p2),(oi 4 1,.pool 3 .int l38_p2)]),2⟩) ?_ ?_))))
      ·intro v_ h;refine Ai (Am (Av h (fun (u9:Bool) S_=>S_=⟨Al [(2,ai a2),(5,.box (oi 0 1) 0),(9,an u1),(10,.fn 80 [.box (oi 1 1) 0,.box (oi 0 1) 0,.box (oi 2 1) 0]),(11,an u0),(13,an u2),(64,an y31.1.length),(65,an u2),(80,.bool u9)],Ah (Ap [(oi 0 1,.cells 22 [oS 0 0 l34_p0.length]),(oi 1 1,.cells 3 [ai a0]),(oi 2 1,.cells 22 [oS 2 0 l34_p2.length]),(oi 0 0,.mat 35 (oi 3 1) .int l34_p0),(oi 3 1,.pool 3 .int l34_p0),(oi 2 0,.mat 35 (oi 4 1) .int l34_p2),(oi 4 1,.pool 3 .int l34_p2)]),2⟩) ?_ ?_))
       ·intro v_ h;rcases Ad h with ⟨q41,h⟩ | ⟨q41,h⟩
        ·obtain ⟨x42,e42,h⟩:=Ag h;obtain ⟨x43,e43,h⟩:=Ag h;refine Aa 18 (rsB 4 (rsl (oS 0 0 l34_p0.length) (zg q41) (rs0 (an u2) (zg q41) (rs0 (.elt (oi 0 0) u2 0) (Nv (by kernel_rfl) q41 (zo (t:=sI) (o:=oi 0 0) (len:=l34_p0.length) (k:=.i64) (m:=(u2:Int)) (C6 _) (Au e42))) (rsl (.own (kid (oi 3 1) u2) .int 0 x42.length) (Nv (by kernel_rfl) q41 (E0 (o:=oi 0 0) (p:=oi 3 1) (e1:=35) (u:=.int) (xss:=l34_p0) (row:=x42) (j:=u2) (by kernel_rfl) (by kernel_rfl) e42)) (rs0 (an u0) (zg q41) (rs0 (.elt (kid (oi 3 1) u2) u0 0) (Nv (by kernel_rfl) q41 (zo (t:=.int) (o:=kid (oi 3 1) u2) (len:=x42.length) (k:=.i64) (m:=(u0:Int)) (C6 _) (Au e43))) (rsl (ai x43) (Nv (by kernel_rfl) q41 (Mi (i:=kid (oi 3 1) u2) (j:=u0) (k:=0) (e:=3) (t:=.int) (xs:=x42) (by kernel_rfl) (Bg (by kernel_rfl) e42) e43 (by kernel_rfl))) (rs0 (.bool (x43 !=0)) (zg q41) (rs0 (.bool (x43 !=0)) (zT q41) (As (tn_ ?_))))))))))));obtain rfl:=zj h;exact ⟨_,Ac [],rfl⟩
        refine Aa 18 (rsB 4 (zs q41 (zs q41 (zs q41 (zs q41 (zs q41 (zs q41 (zs q41 (zs q41 (rs0 (.bool false) (zF q41) (As (tn_ ?_))))))))))));obtain rfl:=zj h;exact ⟨_,Ac [],rfl⟩
       rintro u9 _ rfl h
       (try dsimp only at h);rcases Ad h with ⟨q44,h⟩ | ⟨q44,h⟩
       ·refine Ae q44 ?_;obtain ⟨x45,e45,h⟩:=Ag h;obtain ⟨x46,e46,h⟩:=Ag h;obtain ⟨y47,h47,h⟩:=Ag h;refine Aa 14 (rsB 5 (zO (oi 0 0) sI l34_p0.length (Au e45) (rsl (.own (kid (oi 3 1) u2) .int 0 x45.length) (E0 (o:=oi 0 0) (p:=oi 3 1) (e1:=35) (u:=.int) (xss:=l34_p0) (row:=x45) (j:=u2) (by kernel_rfl) (by kernel_rfl) e45) (rsB 1 (rs0 (.elt (kid (oi 3 1) u2) u0 0) (zo (t:=.int) (o:=kid (oi 3 1) u2) (len:=x45.length) (k:=.i64) (m:=(u0:Int)) (C6 _) (Au e46)) (rsl (ai x46) (Mi (i:=kid (oi 3 1) u2) (j:=u0) (k:=0) (e:=3) (t:=.int) (xs:=x45) (by kernel_rfl) (Bg (by kernel_rfl) e45) e46 (by kernel_rfl)) (rsB 1 (Cr (.tup []) [(oi 1 1,some (.cells 3 [ai a0])),(oi 0 1,some (.cells 22 [oS 0 0 y47.1.length])),(oi 0 0,some (.mat 35 (oi 1472 13) .int y47.1)),(oi 1472 13,some (.pool 3 .int y47.1)),(oi 2 1,some (.cells 22 [oS 2 0 y47.2.length])),(oi 2 0,some (.mat 35 (oi 1473 13) .int y47.2)),(oi 1473 13,some (.pool 3 .int y47.2)),(oi 1 1,none),(oi 0 1,none),(oi 0 0,none),(oi 3 1,some (.pool 3 .int [])),(oi 2 1,none),(oi 2 0,none),(oi 4 1,some (.pool 3 .int []))] [(oi 0 0,oi 1 1),(oi 1 0,oi 0 1),(oi 2 0,oi 0 0),(oi 3 0,oi 3 1),(oi 4 0,oi 2 1),(oi 5 0,oi 2 0),(oi 6 0,oi 4 1)] [.agg [ai 2,an u2,an u1,ai x46],.box (oi 1 1) 0,.box (oi 0 1) 0,.box (oi 2 1) 0] (caps:=[.box (oi 1 1) 0,.box (oi 0 1) 0,.box (oi 2 1) 0]) trivial (Gf h47) Gg ⟨by kernel_rfl,⟨by kernel_rfl,⟨by kernel_rfl,⟨by kernel_rfl,⟨by kernel_rfl,⟨by kernel_rfl,⟨by kernel_rfl,trivial⟩⟩⟩⟩⟩⟩⟩ (.cons (.ren (by kernel_rfl)) (.cons (.ren (by kernel_rfl)) (.cons (.ren (by kernel_rfl)) (.cons (.ren (by kernel_rfl)) .nil)))) (A4 (by kernel_rfl) (by kernel_rfl) ⟨A0 (by kernel_rfl),⟨A0 (by kernel_rfl),⟨Bd (k:=oi 0 1) (ty:=22) (cs:=[oS 0 0 l34_p0.length]) (A0 (by kernel_rfl)) (by kernel_rfl) (by kernel_rfl),⟨Dc (o:=oi 0 0) (p:=oi 3 1) (e1:=35) (m:=l34_p0.length) (u:=.int) (xss:=l34_p0) (Bd (k:=oi 0 1) (ty:=22) (cs:=[oS 0 0 l34_p0.length]) (A0 (by kernel_rfl)) (by kernel_rfl) (by kernel_rfl)) (by kernel_rfl),⟨A0 (by kernel_rfl),⟨Bd (k:=oi 2 1) (ty:=22) (cs:=[oS 2 0 l34_p2.length]) (A0 (by kernel_rfl)) (by kernel_rfl) (by kernel_rfl),⟨Dc (o:=oi 2 0) (p:=oi 4 1) (e1:=35) (m:=l34_p2.length) (u:=.int) (xss:=l34_p2) (Bd (k:=oi 2 1) (ty:=22) (cs:=[oS 2 0 l34_p2.length]) (A0 (by kernel_rfl)) (by kernel_rfl) (by kernel_rfl)) (by kernel_rfl),trivial⟩⟩⟩⟩⟩⟩⟩) ?_))))))));refine As (bn_ (tn_ ?_));obtain rfl:=zj h;exact ⟨_,Ac [(oi 3 1,oi 1472 13),(oi 4 1,oi 1473 13)],⟨y47.1,y47.2,rfl,rfl⟩⟩
       refine Af q44 (Aj (bn_ (tn_ ?_)));obtain rfl:=zj h;exact ⟨_,Ac [],⟨l34_p0,l34_p2,rfl,rfl⟩⟩
      rintro _ _ ⟨l38_p0,l38_p2,rfl,rfl⟩ h
      (try dsimp only at h);obtain ⟨g48,h⟩:=Ao h;refine Aa 4 (zA g48 (rsB 1 (As (tn_ ?_))));obtain rfl:=zj h;exact ⟨(u2+1,l38_p0,l38_p2),_,Ac [],⟨u2+1,l38_p0,l38_p2,rfl,rfl⟩,hn34⟩
     have q37_:=of_decide_eq_false q37;refine Af q37 (Aw (te_ (te_ (be_ (tn_ ?_)))));obtain rfl:=zj h;have h:=hn34
     (try dsimp only at h);obtain rfl:=zj h;exact ⟨_,Ac [],⟨l34_p0,l34_p2,rfl,rfl⟩⟩
    rintro _ _ ⟨l32_p0,l32_p2,rfl,rfl⟩ h
    (try dsimp only at h);obtain ⟨g49,h⟩:=Ao h;refine Aa 5 (rsB 1 (zA g49 (rsB 1 (As (bn_ (tn_ ?_))))));obtain rfl:=zj h;exact ⟨_,Ac [],⟨u1+1,l32_p0,l32_p2,rfl,rfl⟩⟩
   rintro _ _ ⟨u5,l12_p0,l12_p2,rfl,rfl⟩ h
   (try dsimp only at h);obtain ⟨g50,h⟩:=Ao h;refine Aa 5 (rsB 1 (zA g50 (rsB 1 (As (tn_ ?_)))));obtain rfl:=zj h;exact ⟨(u5,u0+1,l12_p0,l12_p2),_,Ac [],⟨u5,u0+1,l12_p0,l12_p2,rfl,rfl⟩,hn7⟩
  refine Af q11 (Aw (te_ (te_ (be_ (tn_ ?_)))));obtain rfl:=zj h;have h:=hn7
  (try dsimp only at h);obtain rfl:=zj h;exact ⟨_,Ac [(oi 0 1,oi 3 1),(oi 1 1,oi 4 1)],⟨u1,l7_p0,l7_p2,rfl,rfl⟩⟩
 rintro _ _ ⟨u4,l5_p0,l5_p2,rfl,rfl⟩ h
 (try dsimp only at h);refine Am (Ak ?_);obtain rfl:=zj h;exact Dw [an u4] (Ac (tl:=[(8,an u4)]) (g:=2) [])
end

section
open Go.RowKit Go.Deep
set_option maxRecDepth 4000
def Ky:AC :=
 (.seq (.seq (rg [xm 12 5,xm 13 0,xn1 14 13,xs1 15 12 14])
 (.cond (tm 15)
  .skip
  (.exit 0)))
 (.seq (.block 1 (.seq (rg [xm 18 0,xm 19 5,xx 20 1 18 19,xl 21 20,xm 22 1,xo 23 (qc 52 [tm 21,tm 22] [[some .int],[]]),xm 1 23])
 (.seq (rg [xm 24 1,xo 25 (qb .lss (tm 24) (ci 0))])
 (.cond (tm 25)
  (.seq (rg [xo 4 (qm (ci (-1)))])
  .ret)
  .skip))))
 (rg [xm 16 5,xa 17 16,xm 5 17])))
def Od:AC :=
 (.seq (rg [xo 4 (qm (ci 0))])
 (.seq (rg [xm 6 1,xm 7 0,xn1 8 7,xo 9 (qb .sub (tm 6) (tm 8)),xm 1 9])
 (.seq (.seq (rg [xm 10 1,xo 11 (qb .lss (tm 10) (ci 0))])
 (.cond (tm 11)
  (.seq (rg [xo 4 (qm (ci (-1)))])
  .ret)
  .skip))
 (.seq (.seq (rg [xo 5 (qm (ci 0))])
 (.block 0 (.loop Ky)))
 (.seq (rg [xm 26 1,xm 4 26])
 .ret)))))
def Wf:List Res:=[.tmp 4]
theorem X0:Aq Tryd.prog Tryd.f25=some (Od,Wf):=by kernel_rfl
def D1 (a0:LL) (u1:Int) (u0:Nat):Option (Ctl (Int×Nat) (Ctl Int Int)) :=
 cond (decide ((u0:Int)<(a0.length:Int)))
 ((a0[u0]?).bind fun x15 =>
 (Gp x15 u1).bind fun y16 =>
 cond (decide (y16<0))
  (some (Ctl.out (Ctl.out (-1))))
  (og (u0+1<4611686018427387904) <|
  some (Ctl.next (y16,u0+1))))
 (some (Ctl.out (Ctl.next u1)))
def Fo (a0:LL) (a1:Int):Option Int :=
 cond (decide (wI (a1 - (a0.length:Int))<0))
 (some (-1))
 (Lk (Ay (fun s_:Int×Nat=>D1 a0 s_.1 s_.2) 4611686018427387904 (wI (a1 - (a0.length:Int)),0)) fun u0 =>
 some u0)
def Vf (r:Int):RV:=⟨false,[(false,[.sc (.int .i64 r)])]⟩
theorem Uz {a0:LL} {a1 r:Int} (h:Fo a0 a1=some r):A6 Tryd.prog Tab 25 [tS a0,ai a1] (Vf r):=by
 refine A1 (by kernel_rfl) Tryd.func25 X0 (n:=27) (by kernel_rfl) (by simp) rfl ?_;unfold Od;unfold Fo at h;refine Am (Am (Ab (Am ?_)));rcases Ad h with ⟨q5,h⟩ | ⟨q5,h⟩
 ·have q5_:=of_decide_eq_true q5;refine Ae q5 (Am (Ak (tr_ ?_)));obtain rfl:=zj h;exact Bm [ai (-1)] (A8 rfl zl A7)
 have q5_:=of_decide_eq_false q5;refine Af q5 (Aj (tn_ (wr_ (Cp h (fun (u2:Int) S_=>S_=⟨Al [(1,ai u2)],Ah (Ap []),2⟩) ?_ ?_))))
 ·intro v_ h hk7;refine Am (Ai (Ax h (fun t_ S_=>∃ (u0:Int),∃ (u1:Nat),t_=(u0,u1)∧S_=⟨Al [(0,tS a0),(1,ai u0),(5,an u1)],Ah (Ap []),2⟩) ⟨_,Ac [],⟨wI (a1 - (a0.length:Int)),0,rfl,rfl⟩⟩ ?_));rintro n_ _ _ c_ ⟨u0,u1,rfl,rfl⟩ h hn9
  (try dsimp only at h);unfold D1 at h;unfold Ky;refine Ab (Am ?_);rcases Ad h with ⟨q12,h⟩ | ⟨q12,h⟩
  ·have q12_:=of_decide_eq_true q12;refine Ae q12 (Aj (tn_ (wr_ (Ab (Ai (Ab ?_))))));obtain ⟨x15,e15,h⟩:=Ag h;obtain ⟨y16,h16,h⟩:=Ag h;refine Aa 13 (rsB 2 (zI sI e15 (rsB 2 (zc (ai y16) [] [tI x15,ai u0] (V3 h16) (rsB 1 (As (tn_ (wr_ (Am ?_)))))))));rcases Ad h with ⟨q18,h⟩ | ⟨q18,h⟩
   ·have q18_:=of_decide_eq_true q18;refine Ae q18 (Am (Ak (br_ (tr_ (tr_ (br_ (tr_ ?_)))))));obtain rfl:=zj h;have h:=hn9
    (try dsimp only at h);obtain rfl:=zj h;have h:=hk7
    (try dsimp only at h);obtain rfl:=zj h;exact Bm [ai (-1)] (A8 rfl zl A7)
   have q18_:=of_decide_eq_false q18;refine Af q18 (Aj (bn_ (tn_ (wr_ ?_))));obtain ⟨g20,h⟩:=Ao h;refine Aa 18 (rsB 1 (zA g20 (rsB 1 (As (tn_ ?_)))));obtain rfl:=zj h;exact ⟨(y16,u1+1),_,Ac [],⟨y16,u1+1,rfl,rfl⟩,hn9⟩
  have q12_:=of_decide_eq_false q12;refine Af q12 (Aw (te_ (te_ (be_ (tn_ ?_)))));obtain rfl:=zj h;have h:=hn9
  (try dsimp only at h);obtain rfl:=zj h;exact ⟨u0,_,rfl,Ac [],rfl⟩
 rintro u2 _ rfl h
 (try dsimp only at h);refine Am (Ak ?_);obtain rfl:=zj h;exact Bm [ai u2] (A8 rfl zl A7)
def K5:AC :=
 (.seq (.seq (rg [xm 8 4,xm 9 0,xn1 10 9,xs1 11 8 10])
 (.cond (tm 11)
  .skip
  (.exit 0)))
 (.seq (.block 1 (rg [xm 14 3,xm 15 4,xm 16 0,xm 17 4,xx 18 1 16 17,xl 19 18,xo 20 (qc 16 [tm 19] [[some .int]]),xx 21 1 14 15,xn (qs (tm 21) (tm 20))]))
 (rg [xm 12 4,xa 13 12,xm 4 13])))
def O0:AC :=
 (.seq (rg [xo 2 (qm (.cst .nils))])
 (.seq (rg [xm 5 0,xn1 6 5,xo 7 (.makeV 35 sI 24 [.nils] (tm 6) (tm 6)),xm 3 7])
 (.seq (.seq (rg [xo 4 (qm (ci 0))])
 (.block 0 (.loop K5)))
 (.seq (rg [xm 22 3,xm 2 22])
 .ret))))
def Xw:List Res:=[.tmp 2]
theorem X3:Aq Tryd.prog Tryd.f29=some (O0,Xw):=by kernel_rfl
theorem Ve:A5 Tryd.prog 29=true:=by kernel_rfl
def D2 (a0:LL) (u0:Nat) (u1:LL):Option (Ctl (Nat×LL) (LL)) :=
 cond (decide ((u0:Int)<(a0.length:Int)))
 ((a0[u0]?).bind fun x12 =>
 (Gy x12).bind fun y13 =>
 (u1[u0]?).bind fun x14 =>
 og (u0+1<4611686018427387904) <|
 some (Ctl.next (u0+1,u1.set u0 y13)))
 (some (Ctl.out u1))
def Fx (a0:LL):Option (LL) :=
 og (0<=(a0.length:Int)∧(a0.length:Int)<=(a0.length:Int)∧(a0.length:Int)<=1073741824∧(24:Int)*(a0.length:Int)<=140737488355328) <|
(Ay (fun s_:Nat×LL=>D2 a0 s_.1 s_.2) 4611686018427387904 (0,List.replicate a0.length ([]:List Int))).bind fun u0 =>
some u0
theorem Vg {a0 r:LL} (h:Fx a0=some r):Dd Tryd.prog Tab 29 [tS a0] [] (oS 0 1 r.length) [(oi 0 1,.mat 35 (oi 1 1) .int r),(oi 1 1,.pool 3 .int r)]:=by
 refine Cd (by kernel_rfl) Tryd.func29 X3 (n:=23) (by kernel_rfl) (by simp) rfl (by kernel_rfl) trivial ⟨⟨3,.tail _ (.head _)⟩,⟨trivial,trivial⟩⟩ ?_;unfold O0;unfold Fx at h;refine Am (Ab ?_);obtain ⟨g4,h⟩:=Ao h;refine Aa 6 (rsB 2 (Agz (oS 112 4 a0.length) (oi 112 4) 35 3 .int (List.replicate a0.length ([]:List Int)) trivial (Abi (j:=a0.length) (k:=.i64) (k':=.i64) (m:=(a0.length:Int)) (c:=(a0.length:Int)) 3 (by kernel_rfl) (by kernel_rfl) g4 (by kernel_rfl) rfl) (by kernel_rfl) (by rw [List.length_replicate]) (by kernel_rfl) (rsB 1 (As (tn_ (wr_ (Av h (fun (u2:LL) S_=>S_=⟨Al [(3,oS 0 1 u2.length)],Ah (Ap [(oi 0 1,.mat 35 (oi 1 1) .int u2),(oi 1 1,.pool 3 .int u2)]),2⟩) ?_ ?_)))))))
 ·intro v_ h;refine Am (Ai (Ax h (fun t_ S_=>∃ (u1:Nat),∃ (u0:LL),t_=(u1,u0)∧S_=⟨Al [(0,tS a0),(3,oS 0 1 u0.length),(4,an u1)],Ah (Ap [(oi 0 1,.mat 35 (oi 1 1) .int u0),(oi 1 1,.pool 3 .int u0)]),2⟩) ⟨_,(Bk 3 (oS 112 4 a0.length) (oS 112 4 ((List.replicate a0.length ([]:List Int)).length)) (by kernel_rfl) (congrArg (fun z_=>((oS 112 4 z_):AV)) (List.length_replicate.symm:a0.length=(List.replicate a0.length ([]:List Int)).length))).trans (Ac [(oi 0 1,oi 112 4),(oi 1 1,oi 112 4)]),⟨0,List.replicate a0.length ([]:List Int),rfl,rfl⟩⟩ ?_));rintro n_ _ _ c_ ⟨u1,u0,rfl,rfl⟩ h hn7
  (try dsimp only at h);unfold D2 at h;unfold K5;refine Ab (Am ?_);rcases Ad h with ⟨q10,h⟩ | ⟨q10,h⟩
  ·have q10_:=of_decide_eq_true q10;refine Ae q10 (Aj (tn_ (wr_ (Ab (Ai ?_)))));obtain ⟨x12,e12,h⟩:=Ag h;obtain ⟨y13,h13,h⟩:=Ag h;obtain ⟨x14,e14,h⟩:=Ag h;refine Aa 15 (rsB 4 (zI sI e12 (rsB 1 (zc (oI 320 12 y13.length) [nI 320 12 y13] [tI x12] (Wz h13) (zO (oi 0 1) sI u0.length (Au e14) (Ami (oi 0 1) (oi 0 1) (.vec 35 1 u0.length ((hdL (oi 1 1) .int u0).set u1 (oI 320 12 y13.length))) (Ad8 (o:=oi 0 1) (e1:=35) (m:=u0.length) (cs:=hdL (oi 1 1) .int u0) (v:=oI 320 12 y13.length) (j:=u1) (by kernel_rfl) (by kernel_rfl) (by kernel_rfl) rfl (by rw [E3]; exact Au e14)) (As (bn_ (tn_ ⟨_,Akg (e1:=35) (e:=3) (u:=.int) (n:=u0.length) (len:=y13.length) (row:=y13) (ys:=y13) (xss:=u0) (j:=u1) 9000 (oi 0 1) (oi 1 1) (oi 320 12) (by kernel_rfl) (by kernel_rfl) rfl (by kernel_rfl) (by kernel_rfl) (Sm rfl) (Sn rfl) (by kernel_rfl) (by kernel_rfl) (by kernel_rfl),?_⟩)))))))));obtain ⟨g15,h⟩:=Ao h;refine Aa 19 (rsB 1 (zA g15 (rsB 1 (As (tn_ ?_)))));obtain rfl:=zj h;exact ⟨(u1+1,u0.set u1 y13),_,(Bk 3 (oS 0 1 u0.length) (oS 0 1 ((u0.set u1 y13).length)) (by kernel_rfl) (congrArg (fun z_=>((oS 0 1 z_):AV)) ((Eq.trans (b:=u0.length) rfl List.length_set.symm):u0.length=(u0.set u1 y13).length))).trans (Ac [(oi 1 1,oi 9000 15)]),⟨u1+1,u0.set u1 y13,rfl,rfl⟩,hn7⟩
  have q10_:=of_decide_eq_false q10;refine Af q10 (Aw (te_ (te_ (be_ (tn_ ?_)))));obtain rfl:=zj h;have h:=hn7
  (try dsimp only at h);obtain rfl:=zj h;exact ⟨_,Ac [],rfl⟩
 rintro u2 _ rfl h
 (try dsimp only at h);refine Am (Ak ?_);obtain rfl:=zj h;exact Dw [oS 0 1 u2.length] (Ac (tl:=[(2,oS 0 1 u2.length)]) (g:=2) [])
def Lh:AC :=
 (.seq (.seq (rg [xm 11 5,xm 12 0,xn1 13 12,xs1 14 11 13])
 (.cond (tm 14)
  .skip
  (.exit 0)))
 (.seq (.block 1 (.seq (.region [xm 17 0,xm 18 5,xx 19 1 17 18,xl 20 19,xm 21 1,xm 22 5,xx 23 1 21 22,xl 24 23,xo 25 (qc 19 [tm 20,tm 24] [[some .int],[some .int]]),xo 26 (.i (.not (tm 25)))] true [])
 (.cond (tm 26)
  (.seq (rg [xo 4 (qm (cb false))])
  .ret)
  .skip)))
 (rg [xm 15 5,xa 16 15,xm 5 16])))
def Og:AC :=
 (.seq (rg [xo 4 (qm (cb false))])
 (.seq (.seq (rg [xm 6 0,xn1 7 6,xm 8 1,xn1 9 8,xo 10 (qb .neq (tm 7) (tm 9))])
 (.cond (tm 10)
  (.seq (rg [xo 4 (qm (cb false))])
  .ret)
  .skip))
 (.seq (.seq (rg [xo 5 (qm (ci 0))])
 (.block 0 (.loop Lh)))
 (.seq (rg [xo 4 (qm (cb true))])
 .ret))))
def Yj:List Res:=[.tmp 4]
theorem Yr:Aq Tryd.prog Tryd.f9=some (Og,Yj):=by kernel_rfl
theorem Dy:A5 Tryd.prog 9=true:=by kernel_rfl
def D0 (a0 a1:LL) (u0:Nat):Option (Ctl Nat (Ctl Unit Bool)) :=
 cond (decide ((u0:Int)<(a0.length:Int)))
 ((a0[u0]?).bind fun x14 =>
 (a1[u0]?).bind fun x15 =>
 (Gm x14 x15).bind fun y16 =>
 cond (!y16)
  (some (Ctl.out (Ctl.out false)))
  (og (u0+1<4611686018427387904) <|
  some (Ctl.next (u0+1))))
 (some (Ctl.out (Ctl.next ())))
def Cs (a0 a1:LL):Option Bool :=
 cond ((a0.length:Int) !=(a1.length:Int))
 (some false)
 (Lk (Ay (fun s_:Nat=>D0 a0 a1 s_) 4611686018427387904 0) fun _ =>
 some true)
def U0 (r:Bool):RV:=⟨false,[(false,[.sc (.bool r)])]⟩
theorem Cv {a0 a1:LL} {r:Bool} (h:Cs a0 a1=some r):A6 Tryd.prog Tab 9 [tS a0,tS a1] (U0 r):=by
 refine A1 (by kernel_rfl) Tryd.func9 Yr (n:=27) (by kernel_rfl) (by simp) rfl ?_;unfold Og;unfold Cs at h;refine Am (Ab (Am ?_));rcases Ad h with ⟨q4,h⟩ | ⟨q4,h⟩
 ·refine Ae q4 (Am (Ak (tr_ ?_)));obtain rfl:=zj h;exact Bm [.bool false] (A8 rfl zl A7)
 refine Af q4 (Aj (tn_ (wr_ (Cp h (fun (_:Unit) S_=>S_=⟨Al [],Ah (Ap []),2⟩) ?_ ?_))))
 ·intro v_ h hk6;refine Am (Ai (Ax h (fun (u0:Nat) S_=>S_=⟨Al [(0,tS a0),(1,tS a1),(5,an u0)],Ah (Ap []),2⟩) ⟨_,Ac [],rfl⟩ ?_));rintro n_ u0 _ c_ rfl h hn8
  (try dsimp only at h);unfold D0 at h;unfold Lh;refine Ab (Am ?_);rcases Ad h with ⟨q11,h⟩ | ⟨q11,h⟩
  ·have q11_:=of_decide_eq_true q11;refine Ae q11 (Aj (tn_ (wr_ (Ab (Ai (Ab ?_))))));obtain ⟨x14,e14,h⟩:=Ag h;obtain ⟨x15,e15,h⟩:=Ag h;obtain ⟨y16,h16,h⟩:=Ag h;refine Bb 16 (dz0 (tS a0) (dz0 (an u0) (dzI sI e14 (dz0 (tI x14) (dz0 (tS a1) (dz0 (an u0) (dzI sI e15 (dz0 (tI x15) (dzc (.bool y16) [] [tI x14,tI x15] (X1 h16) (dz0 (.bool (!y16)) (Lz (Bv (by kernel_rfl)) (tn_ (wr_ ?_)))))))))))));rcases Ad h with ⟨q17,h⟩ | ⟨q17,h⟩
   ·refine Ae q17 (Am (Ak (br_ (tr_ (tr_ (br_ (tr_ ?_)))))));obtain rfl:=zj h;have h:=hn8
    (try dsimp only at h);obtain rfl:=zj h;have h:=hk6
    (try dsimp only at h);obtain rfl:=zj h;exact Bm [.bool false] (A8 rfl zl A7)
   refine Af q17 (Aj (bn_ (tn_ (wr_ ?_))));obtain ⟨g19,h⟩:=Ao h;refine Aa 19 (rsB 1 (zA g19 (rsB 1 (As (tn_ ?_)))));obtain rfl:=zj h;exact ⟨u0+1,_,Ac [],rfl,hn8⟩
  have q11_:=of_decide_eq_false q11;refine Af q11 (Aw (te_ (te_ (be_ (tn_ ?_)))));obtain rfl:=zj h;have h:=hn8
  (try dsimp only at h);obtain rfl:=zj h;exact ⟨(),_,rfl,Ac [],rfl⟩
 rintro _ _ rfl h
 (try dsimp only at h);refine Am (Ak ?_);obtain rfl:=zj h;exact Bm [.bool true] (A8 rfl zl A7)
def I2:AC :=
 (.seq (.seq (rg [xm 6 5,xm 7 0,xn1 8 7,xs1 9 6 8])
 (.cond (tm 9)
  .skip
  (.exit 0)))
 (.seq (.block 1 (rg [xm 12 0,xm 13 5,xx 14 1 12 13,xl 15 14,xm 16 1,xo 17 (qc 21 [tm 15,tm 16] [[some .int],[]]),xm 1 17]))
 (rg [xm 10 5,xa 11 10,xm 5 11])))
def L3:AC :=
 (.seq (rg [xo 4 (qm (ci 0))])
 (.seq (.seq (rg [xo 5 (qm (ci 0))])
 (.block 0 (.loop I2)))
 (.seq (rg [xm 18 1,xm 4 18])
 .ret)))
def Tk:List Res:=[.tmp 4]
theorem Tp:Aq Tryd.prog Tryd.f12=some (L3,Tk):=by kernel_rfl
theorem Kx:A5 Tryd.prog 12=true:=by kernel_rfl
def C1  (u2:Int) (u0:Nat) (u1:LL):Option (Ctl (Int×Nat×LL) (Int×LL)) :=
 cond (decide ((u0:Int)<(u1.length:Int)))
 ((u1[u0]?).bind fun x10 =>
 (Fa x10 u2).bind fun y11 =>
 og (y11.1.length=x10.length) <|
 og (u0+1<4611686018427387904) <|
 some (Ctl.next (y11.2,u0+1,u1.set u0 y11.1)))
 (some (Ctl.out (u2,u1)))
def Dg (a0:LL) (a1:Int):Option (LL×Int) :=
 (Ay (fun s_:Int×Nat×LL=>C1 s_.1 s_.2.1 s_.2.2) 4611686018427387904 (a1,0,a0)).bind fun (u0,l3_p0) =>
some (l3_p0,u0)
theorem K3 {a0:LL} {a1:Int} {r:LL×Int} (h:Dg a0 a1=some r) {n_a0:Nat} (hn_a0:n_a0=a0.length):Dd Tryd.prog Tab 12 [oS 0 0 n_a0,ai a1] [(oi 0 0,.mat 35 (oi 1 0) .int a0),(oi 1 0,.pool 3 .int a0)] (ai r.2) [(oi 0 0,.mat 35 (oi 0 1) .int r.1),(oi 0 1,.pool 3 .int r.1)]:=by
 refine Cd (by kernel_rfl) Tryd.func12 Tp (n:=19) (by kernel_rfl) (by simp) rfl (by kernel_rfl) ⟨⟨3,.tail _ (.head _)⟩,⟨trivial,trivial⟩⟩ ⟨⟨3,.tail _ (.head _)⟩,⟨trivial,trivial⟩⟩ ?_;unfold L3;unfold Dg at h;refine Am (Av h (fun t_ S_=>∃ (u2:Int),∃ (l3_p0:LL),t_=(u2,l3_p0)∧S_=⟨Al [(1,ai u2)],Ah (Ap [(oi 0 0,.mat 35 (oi 0 1) .int l3_p0),(oi 0 1,.pool 3 .int l3_p0)]),2⟩) ?_ ?_)
 ·intro v_ h;refine Am (Ai (Ax h (fun t_ S_=>∃ (u3:Int),∃ (u0:Nat),∃ (u1:LL),t_=(u3,u0,u1)∧S_=⟨Al [(0,oS 0 0 u1.length),(1,ai u3),(5,an u0)],Ah (Ap [(oi 0 0,.mat 35 (oi 0 1) .int u1),(oi 0 1,.pool 3 .int u1)]),2⟩) ⟨_,(Bk 0 (oS 0 0 n_a0) (oS 0 0 a0.length) (by kernel_rfl) (congrArg (fun z_=>((oS 0 0 z_):AV)) (hn_a0:n_a0=a0.length))).trans (Ac [(oi 0 1,oi 1 0)]),⟨a1,0,a0,rfl,rfl⟩⟩ ?_));rintro n_ _ _ c_ ⟨u3,u0,u1,rfl,rfl⟩ h hn5
  (try dsimp only at h);unfold C1 at h;unfold I2;refine Ab (Am ?_);rcases Ad h with ⟨q8,h⟩ | ⟨q8,h⟩
  ·have q8_:=of_decide_eq_true q8;refine Ae q8 (Aj (tn_ (wr_ (Ab (Ai ?_)))));obtain ⟨x10,e10,h⟩:=Ag h;obtain ⟨y11,h11,h⟩:=Ag h;obtain ⟨g12,h⟩:=Ao h;refine Aa 13 (rsB 2 (zO (oi 0 0) sI u1.length (Au e10) (rsl (.own (kid (oi 0 1) u0) .int 0 x10.length) (E0 (o:=oi 0 0) (p:=oi 0 1) (e1:=35) (u:=.int) (xss:=u1) (row:=x10) (j:=u0) (by kernel_rfl) (by kernel_rfl) e10) (rsB 1 (Cr (ai y11.2) [(kid (oi 0 1) u0,some (.arr 3 .int y11.1)),(kid (oi 0 1) u0,none)] [(oi 0 0,kid (oi 0 1) u0)] [.own (kid (oi 0 1) u0) .int 0 x10.length,ai u3] (caps:=[]) trivial (Td h11 rfl) Tl ⟨Aa4 (by kernel_rfl) e10,trivial⟩ (.cons (.ren (by kernel_rfl)) (.cons (.ren (by kernel_rfl)) .nil)) (A4 (by kernel_rfl) (by kernel_rfl) ⟨.arg (by simp [AV.nmsL,AV.nms,Bc]),trivial⟩) (Aq1 (X6 (o:=oi 0 0) (p:=oi 0 1) (e1:=35) (e:=3) (u:=.int) (xss:=u1) (k:=u0) (row:=x10) (row':=y11.1) (by kernel_rfl) rfl (by kernel_rfl) e10 g12) (rsB 1 (As (bn_ (tn_ (wr_ ?_)))))))))));obtain ⟨g13,h⟩:=Ao h;refine Aa 16 (rsB 1 (zA g13 (rsB 1 (As (tn_ ?_)))));obtain rfl:=zj h;exact ⟨(y11.2,u0+1,u1.set u0 y11.1),_,(Bk 0 (oS 0 0 u1.length) (oS 0 0 ((u1.set u0 y11.1).length)) (by kernel_rfl) (congrArg (fun z_=>((oS 0 0 z_):AV)) ((Eq.trans (b:=u1.length) rfl List.length_set.symm):u1.length=(u1.set u0 y11.1).length))).trans (Ac []),⟨y11.2,u0+1,u1.set u0 y11.1,rfl,rfl⟩,hn5⟩
  have q8_:=of_decide_eq_false q8;refine Af q8 (Aw (te_ (te_ (be_ (tn_ ?_)))));obtain rfl:=zj h;have h:=hn5
  (try dsimp only at h);obtain rfl:=zj h;exact ⟨_,Ac [],⟨u3,u1,rfl,rfl⟩⟩
 rintro _ _ ⟨u2,l3_p0,rfl,rfl⟩ h
 (try dsimp only at h);refine Am (Ak ?_);obtain rfl:=zj h;exact Dw [ai u2] (Ac (tl:=[(4,ai u2)]) (g:=2) [])
def I0:AC :=
 (.seq (.seq (rg [xm 6 5,xm 7 0,xn1 8 7,xs1 9 6 8])
 (.cond (tm 9)
  .skip
  (.exit 0)))
 (.seq (.block 1 (.seq (rg [xm 12 0,xm 13 5,xx 14 1 12 13,xl 15 14,xm 16 1,xo 17 (qc 23 [tm 15,tm 16] [[some .int],[]]),xm 1 17])
 (.seq (rg [xm 18 1,xo 19 (qb .lss (tm 18) (ci 0))])
 (.cond (tm 19)
  (.seq (rg [xo 4 (qm (ci (-1)))])
  .ret)
  .skip))))
 (rg [xm 10 5,xa 11 10,xm 5 11])))
def Mm:AC :=
 (.seq (rg [xo 4 (qm (ci 0))])
 (.seq (.seq (rg [xo 5 (qm (ci 0))])
 (.block 0 (.loop I0)))
 (.seq (rg [xm 20 1,xm 4 20])
 .ret)))
def T9:List Res:=[.tmp 4]
theorem Sx:Aq Tryd.prog Tryd.f13=some (Mm,T9):=by kernel_rfl
theorem K8:A5 Tryd.prog 13=true:=by kernel_rfl
def C3 (a0:LL) (u1:Int) (u0:Nat):Option (Ctl (Int×Nat) (Ctl Int Int)) :=
 cond (decide ((u0:Int)<(a0.length:Int)))
 ((a0[u0]?).bind fun x10 =>
 (E9 x10 u1).bind fun y11 =>
 cond (decide (y11<0))
  (some (Ctl.out (Ctl.out (-1))))
  (og (u0+1<4611686018427387904) <|
  some (Ctl.next (y11,u0+1))))
 (some (Ctl.out (Ctl.next u1)))
def Cm (a0:LL) (a1:Int):Option Int :=
 Lk (Ay (fun s_:Int×Nat=>C3 a0 s_.1 s_.2) 4611686018427387904 (a1,0)) fun u0 =>
some u0
def Rq (r:Int):RV:=⟨false,[(false,[.sc (.int .i64 r)])]⟩
theorem K2 {a0:LL} {a1 r:Int} (h:Cm a0 a1=some r):A6 Tryd.prog Tab 13 [tS a0,ai a1] (Rq r):=by
 refine A1 (by kernel_rfl) Tryd.func13 Sx (n:=21) (by kernel_rfl) (by simp) rfl ?_;unfold Mm;unfold Cm at h;refine Am (Cp h (fun (u2:Int) S_=>S_=⟨Al [(1,ai u2)],Ah (Ap []),2⟩) ?_ ?_)
 ·intro v_ h hk2;refine Am (Ai (Ax h (fun t_ S_=>∃ (u0:Int),∃ (u1:Nat),t_=(u0,u1)∧S_=⟨Al [(0,tS a0),(1,ai u0),(5,an u1)],Ah (Ap []),2⟩) ⟨_,Ac [],⟨a1,0,rfl,rfl⟩⟩ ?_));rintro n_ _ _ c_ ⟨u0,u1,rfl,rfl⟩ h hn4
  (try dsimp only at h);unfold C3 at h;unfold I0;refine Ab (Am ?_);rcases Ad h with ⟨q7,h⟩ | ⟨q7,h⟩
  ·have q7_:=of_decide_eq_true q7;refine Ae q7 (Aj (tn_ (wr_ (Ab (Ai (Ab ?_))))));obtain ⟨x10,e10,h⟩:=Ag h;obtain ⟨y11,h11,h⟩:=Ag h;refine Aa 13 (rsB 2 (zI sI e10 (rsB 2 (zc (ai y11) [] [tI x10,ai u0] (Ta h11) (rsB 1 (As (tn_ (wr_ (Am ?_)))))))));rcases Ad h with ⟨q13,h⟩ | ⟨q13,h⟩
   ·have q13_:=of_decide_eq_true q13;refine Ae q13 (Am (Ak (br_ (tr_ (tr_ (br_ (tr_ ?_)))))));obtain rfl:=zj h;have h:=hn4
    (try dsimp only at h);obtain rfl:=zj h;have h:=hk2
    (try dsimp only at h);obtain rfl:=zj h;exact Bm [ai (-1)] (A8 rfl zl A7)
   have q13_:=of_decide_eq_false q13;refine Af q13 (Aj (bn_ (tn_ (wr_ ?_))));obtain ⟨g15,h⟩:=Ao h;refine Aa 18 (rsB 1 (zA g15 (rsB 1 (As (tn_ ?_)))));obtain rfl:=zj h;exact ⟨(y11,u1+1),_,Ac [],⟨y11,u1+1,rfl,rfl⟩,hn4⟩
  have q7_:=of_decide_eq_false q7;refine Af q7 (Aw (te_ (te_ (be_ (tn_ ?_)))));obtain rfl:=zj h;have h:=hn4
  (try dsimp only at h);obtain rfl:=zj h;exact ⟨u0,_,rfl,Ac [],rfl⟩
 rintro u2 _ rfl h
 (try dsimp only at h);refine Am (Ak ?_);obtain rfl:=zj h;exact Bm [ai u2] (A8 rfl zl A7)
def Lj:AC :=
 (.seq (rg [xo 2 (.i (.box 24 (tm 0))),xo 4 (qm (ci 0))])
 (.seq (rg [xf 5 2 2,xl 6 5,xm 7 1,xo 8 (qc 25 [tm 6,tm 7] [[some sI],[]]),xm 1 8])
 (.seq (.seq (rg [xm 9 1,xo 10 (qb .lss (tm 9) (ci 0))])
 (.cond (tm 10)
  (.seq (rg [xo 4 (qm (ci (-1)))])
  .ret)
  .skip))
 (.seq (rg [xm 11 1,xm 4 11])
 .ret))))
def Ro:List Res:=[.tmp 4]
theorem Ra:Aq Tryd.prog Tryd.f5=some (Lj,Ro):=by kernel_rfl
def D8 (u1 u2:Int) (u0:LL) (a1:Int):Option Int :=
 (Fo u0 a1).bind fun y3 =>
cond (decide (y3<0))
 (some (-1))
 (some y3)
def Qn (r:Int):RV:=⟨false,[(false,[.sc (.int .i64 r)])]⟩
theorem Qv {u1 u2:Int} {u0:LL} {a1 r:Int} (h:D8 u1 u2 u0 a1=some r):A6 Tryd.prog Tab 5 [.agg [ai u1,ai u2,tS u0],ai a1] (Qn r):=by
 refine A1 (by kernel_rfl) Tryd.func5 Ra (n:=12) (by kernel_rfl) (by simp) rfl ?_;unfold Lj;unfold D8 at h;refine Am (Ab ?_);obtain ⟨y3,h3,h⟩:=Ag h;refine Aa 8 (rsB 3 (zc (ai y3) [] [tS u0,ai a1] (Uz h3) (rsB 1 (As (tn_ (wr_ (Ab (Am ?_))))))));rcases Ad h with ⟨q6,h⟩ | ⟨q6,h⟩
 ·have q6_:=of_decide_eq_true q6;refine Ae q6 (Am (Ak (tr_ ?_)));obtain rfl:=zj h;exact Bm [ai (-1)] (A8 rfl zl A7)
 have q6_:=of_decide_eq_false q6;refine Af q6 (Aj (tn_ (wr_ (Am (Ak ?_)))));obtain rfl:=zj h;exact Bm [ai y3] (A8 rfl zl A7)
def Li:AC :=
 (.seq (rg [xo 1 (.i (.box 24 (tm 0))),xo 2 (.i (.alloc 28 [.int .i64 0,.int .i64 0,.nils]))])
 (.seq (rg [xo 3 (.i (.alloc 28 [.int .i64 0,.int .i64 0,.nils]))])
 (.seq (rg [xf 4 0 1,xl 5 4,xf 6 0 3,xn (qs (tm 6) (tm 5))])
 (.seq (rg [xf 7 1 1,xl 8 7,xf 9 1 3,xn (qs (tm 9) (tm 8))])
 (.seq (rg [xf 10 2 1,xl 11 10,xo 12 (qc 29 [tm 11] [[some sI]]),xf 13 2 3,xn (qs (tm 13) (tm 12))])
 (.seq (rg [xo 14 (.i (.ld false 3 (tm 3))),xn (.st false 3 (tm 2) (tm 14))])
 .ret))))))
def Rs:List Res:=[.cell 2 false 3]
theorem Rl:Aq Tryd.prog Tryd.f7=some (Li,Rs):=by kernel_rfl
theorem E5:A5 Tryd.prog 7=true:=by kernel_rfl
def B0 (u1 u2:Int) (u0:LL):Option (LL) :=
 (Fx u0).bind fun y7 =>
some y7
theorem E2 {u0 u1:Int} {u2 r:LL} (h:B0 u0 u1 u2=some r):Dd Tryd.prog Tab 7 [.agg [ai u0,ai u1,tS u2]] [] (.agg [ai u0,ai u1,oS 1 1 r.length]) [(oi 0 1,.cells 28 [ai u0,ai u1,oS 1 1 r.length]),(oi 1 1,.mat 35 (oi 2 1) .int r),(oi 2 1,.pool 3 .int r)]:=by
 refine Cd (by kernel_rfl) Tryd.func7 Rl (n:=15) (by kernel_rfl) (by simp) rfl (by kernel_rfl) trivial ⟨trivial,⟨⟨3,.tail _ (.tail _ (.head _))⟩,⟨trivial,trivial⟩⟩⟩ ?_;unfold Li;unfold B0 at h;refine Am (Am (Am (Am (Ab ?_))));obtain ⟨y7,h7,h⟩:=Ag h;refine Aa 17 (rsB 2 (Cr (oS 192 14 y7.length) [(oi 192 14,some (.mat 35 (oi 193 14) .int y7)),(oi 193 14,some (.pool 3 .int y7))] [] [tS u2] (caps:=[]) trivial (Vg h7) Ve trivial (.cons (.ren (by kernel_rfl)) .nil) (A4 (by kernel_rfl) (by kernel_rfl) trivial) (rsB 2 (As (tn_ (wr_ (Am (Ak ?_))))))));obtain rfl:=zj h;exact Dw [.agg [ai u0,ai u1,oS 1 1 y7.length]] (Ac (tl:=[(2,.box (oi 0 1) 0)]) (g:=2) [(oi 0 1,oi 2 2),(oi 1 1,oi 192 14),(oi 2 1,oi 193 14)])
def La:AC :=
 (.seq (rg [xo 2 (.i (.box 28 (tm 0))),xo 3 (.i (.box 28 (tm 1))),xo 4 (qm (cb false))])
 (.seq (.seq (rg [xf 5 0 2,xl 6 5,xf 7 0 3,xl 8 7,xo 9 (qb .neq (tm 6) (tm 8))])
 (.cond (tm 9)
  (.seq (rg [xo 4 (qm (cb false))])
  .ret)
  .skip))
 (.seq (.seq (rg [xf 10 1 2,xl 11 10,xf 12 1 3,xl 13 12,xo 14 (qb .neq (tm 11) (tm 13))])
 (.cond (tm 14)
  (.seq (rg [xo 4 (qm (cb false))])
  .ret)
  .skip))
 (.seq (.seq (rg [xf 15 2 2,xl 16 15,xf 17 2 3,xl 18 17,xo 19 (qc 9 [tm 16,tm 18] [[some sI],[some sI]]),xo 20 (.i (.not (tm 19)))])
 (.cond (tm 20)
  (.seq (rg [xo 4 (qm (cb false))])
  .ret)
  .skip))
 (.seq (rg [xo 4 (qm (cb true))])
 .ret)))))
def Q9:List Res:=[.tmp 4]
theorem Rx:Aq Tryd.prog Tryd.f10=some (La,Q9):=by kernel_rfl
theorem Qx:A5 Tryd.prog 10=true:=by kernel_rfl
def Eb (u0 u1:Int) (u2:LL) (u3 u4:Int) (u5:LL):Option Bool :=
 cond (u0 !=u3)
 (some false)
 (cond (u1 !=u4)
  (some false)
  ((Cs u2 u5).bind fun y12 =>
  cond (!y12)
   (some false)
   (some true)))
def Qw (r:Bool):RV:=⟨false,[(false,[.sc (.bool r)])]⟩
theorem Q6 {u2 u3:Int} {u0:LL} {u4 u5:Int} {u1:LL} {r:Bool} (h:Eb u2 u3 u0 u4 u5 u1=some r):A6 Tryd.prog Tab 10 [.agg [ai u2,ai u3,tS u0],.agg [ai u4,ai u5,tS u1]] (Qw r):=by
 refine A1 (by kernel_rfl) Tryd.func10 Rx (n:=21) (by kernel_rfl) (by simp) rfl ?_;unfold La;unfold Eb at h;refine Am (Ab (Am ?_));rcases Ad h with ⟨q4,h⟩ | ⟨q4,h⟩
 ·refine Ae q4 (Am (Ak (tr_ ?_)));obtain rfl:=zj h;exact Bm [.bool false] (A8 rfl zl A7)
 refine Af q4 (Aj (tn_ (wr_ (Ab (Am ?_)))));rcases Ad h with ⟨q8,h⟩ | ⟨q8,h⟩
 ·refine Ae q8 (Am (Ak (tr_ ?_)));obtain rfl:=zj h;exact Bm [.bool false] (A8 rfl zl A7)
 refine Af q8 (Aj (tn_ (wr_ (Ab (Ab ?_)))));obtain ⟨y12,h12,h⟩:=Ag h;refine Aa 20 (rsB 4 (zc (.bool y12) [] [tS u0,tS u1] (Cv h12) (rsB 1 (As (tn_ (wr_ ?_))))));rcases Ad h with ⟨q13,h⟩ | ⟨q13,h⟩
 ·refine Ae q13 (Am (Ak (tr_ ?_)));obtain rfl:=zj h;exact Bm [.bool false] (A8 rfl zl A7)
 refine Af q13 (Aj (tn_ (wr_ (Am (Ak ?_)))));obtain rfl:=zj h;exact Bm [.bool true] (A8 rfl zl A7)
def Jc:AC :=
 (.seq (rg [xo 2 (.i (.box 28 (tm 0))),xo 4 (qm (ci 0))])
 (.seq (rg [xf 5 2 2,xl 6 5,xm 7 1,xo 8 (qc 12 [tm 6,tm 7] [[some sI],[]]),xm 1 8])
 (.seq (rg [xm 9 1,xm 4 9])
 .ret)))
def Pf:List Res:=[.tmp 4]
theorem Pk:Aq Tryd.prog Tryd.f11=some (Jc,Pf):=by kernel_rfl
theorem Oa:A5 Tryd.prog 11=true:=by kernel_rfl
def C0 (u1 u2:Int) (u0:LL) (a1:Int):Option (LL×Int) :=
 (Dg u0 a1).bind fun y4 =>
og (y4.1.length=(u0.length)) <|
some (y4.1,y4.2)
theorem Oo {u1 u2:Int} {u0:LL} {a1:Int} {r:LL×Int} (h:C0 u1 u2 u0 a1=some r) {n_a0_2:Nat} (hn_a0_2:n_a0_2=u0.length):Dd Tryd.prog Tab 11 [.agg [ai u1,ai u2,oS 0 0 n_a0_2],ai a1] [(oi 0 0,.mat 35 (oi 1 0) .int u0),(oi 1 0,.pool 3 .int u0)] (ai r.2) [(oi 0 0,.mat 35 (oi 0 1) .int r.1),(oi 0 1,.pool 3 .int r.1)]:=by
 refine Cd (by kernel_rfl) Tryd.func11 Pk (n:=10) (by kernel_rfl) (by simp) rfl (by kernel_rfl) ⟨⟨3,.tail _ (.head _)⟩,⟨trivial,trivial⟩⟩ ⟨⟨3,.tail _ (.head _)⟩,⟨trivial,trivial⟩⟩ ?_;unfold Jc;unfold C0 at h
 (try rw [← hn_a0_2] at h)
 refine Am (Ab ?_);obtain ⟨y4,h4,h⟩:=Ag h;obtain ⟨g5,h⟩:=Ao h;refine Aa 8 (rsB 3 (Cr (ai y4.2) [(oi 0 0,some (.mat 35 (oi 128 6) .int y4.1)),(oi 128 6,some (.pool 3 .int y4.1)),(oi 0 0,none),(oi 1 0,some (.pool 3 .int []))] [] [oS 0 0 n_a0_2,ai a1] (caps:=[]) trivial (K3 h4 hn_a0_2) Kx ⟨by kernel_rfl,⟨by kernel_rfl,trivial⟩⟩ (.cons (.ren (by kernel_rfl)) (.cons (.ren (by kernel_rfl)) .nil)) (A4 (by kernel_rfl) (by kernel_rfl) ⟨A0 (by kernel_rfl),⟨Dc (o:=oi 0 0) (p:=oi 1 0) (e1:=35) (m:=u0.length) (u:=.int) (xss:=u0) (A0 (by kernel_rfl)) (by kernel_rfl),trivial⟩⟩) (rsB 1 (As (tn_ (wr_ (Am (Ak ?_))))))));obtain rfl:=zj h;exact Dw [ai y4.2] (Ac (tl:=[(4,ai y4.2)]) (g:=2) [(oi 0 1,oi 128 6)])
def L9:AC :=
 (.seq (rg [xs1 12 11 10])
 (.seq (.cond (tm 12)
  .skip
  (.exit 0))
 (.seq (.block 1 (.seq (rg [xx 13 1 9 11,xl 14 13,xm 8 14])
 (.seq (rg [xm 15 8,xn1 16 15,xm 17 1,xo 18 (qb .neq (tm 16) (tm 17)),xm 19 18,⟨some 20,some (19,false),qm (tm 0)⟩,⟨some 21,some (19,false),qm (tm 8)⟩,⟨some 22,some (19,false),qc 62 [tm 20,tm 21] [[],[some .int]]⟩,⟨some 23,some (19,false),.i (.not (tm 22))⟩,xo 24 (.i (.pick (tm 19) (cb true) (tm 23)))])
 (.cond (tm 24)
  (.seq (rg [xo 6 (qm (cb false))])
  .ret)
  .skip))))
 (rg [xa 25 11,xm 11 25]))))
def P5:AC :=
 (.seq (rg [xo 6 (qm (cb false))])
 (.seq (.seq (rg [xm 9 2,xn1 10 9,xo 11 (qm (ci 0))])
 (.block 0 (.loop L9)))
 (.seq (rg [xo 6 (qm (cb true))])
 .ret)))
def Z7:List Res:=[.tmp 6]
theorem Y7:Aq Tryd.prog Tryd.f76=some (P5,Z7):=by kernel_rfl
theorem N6:A5 Tryd.prog 76=true:=by kernel_rfl
def F9 (a2:LL) (a1 a0:Int) (u0:Nat):Option (Ctl Nat (Ctl Unit Bool)) :=
 cond (decide ((u0:Int)<(a2.length:Int)))
 ((a2[u0]?).bind fun x10 =>
 (cond ((x10.length:Int) !=a1)
   (some true)
   ((H8 a0 x10).bind fun y13 =>
   some (!y13))).bind fun u1 =>
 cond u1
  (some (Ctl.out (Ctl.out false)))
  (og (u0+1<4611686018427387904) <|
  some (Ctl.next (u0+1))))
 (some (Ctl.out (Ctl.next ())))
def Gt (a0 a1:Int) (a2:LL):Option Bool :=
 Lk (Ay (fun s_:Nat=>F9 a2 a1 a0 s_) 4611686018427387904 0) fun _ =>
some true
def Vy (r:Bool):RV:=⟨false,[(false,[.sc (.bool r)])]⟩
theorem Ok {a0 a1:Int} {a2:LL} {r:Bool} (h:Gt a0 a1 a2=some r):A6 Tryd.prog Tab 76 [ai a0,ai a1,tS a2] (Vy r):=by
 refine A1 (by kernel_rfl) Tryd.func76 Y7 (n:=26) (by kernel_rfl) (by simp) rfl ?_;unfold P5;unfold Gt at h;refine Am (Cp h (fun (_:Unit) S_=>S_=⟨Al [],Ah (Ap []),2⟩) ?_ ?_)
 ·intro v_ h hk2;refine Am (Ai (Ax h (fun (u0:Nat) S_=>S_=⟨Al [(0,ai a0),(1,ai a1),(9,tS a2),(10,an a2.length),(11,an u0)],Ah (Ap []),2⟩) ⟨_,Ac [],rfl⟩ ?_));rintro n_ u0 _ c_ rfl h hn4
  (try dsimp only at h);unfold F9 at h;unfold L9;refine Am (Ab ?_);rcases Ad h with ⟨q7,h⟩ | ⟨q7,h⟩
  ·have q7_:=of_decide_eq_true q7;refine Ae q7 (Aj (tn_ (wr_ (Ab (Ai (Ab ?_))))));obtain ⟨x10,e10,h⟩:=Ag h;refine Aa 6 (zI sI e10 (rsB 2 (As (tn_ (wr_ (Av h (fun (u1:Bool) S_=>S_=⟨Al [(0,ai a0),(1,ai a1),(9,tS a2),(10,an a2.length),(11,an u0),(24,.bool u1)],Ah (Ap []),2⟩) ?_ ?_))))))
   ·intro v_ h;rcases Ad h with ⟨q12,h⟩ | ⟨q12,h⟩
    ·refine Aa 16 (rsB 5 (zs q12 (zs q12 (zs q12 (zs q12 (rs0 (.bool true) (zT q12) (As (tn_ ?_))))))));obtain rfl:=zj h;exact ⟨_,Ac [],rfl⟩
    obtain ⟨y13,h13,h⟩:=Ag h;refine Aa 16 (rsB 5 (rs0 (ai a0) (zg q12) (rs0 (tI x10) (zg q12) (Fe (.bool y13) [] [ai a0,tI x10] _ (caps:=[]) (args0:=[ai a0,tI x10]) (Ed (by kernel_rfl) q12) (by kernel_rfl) (Ac6 h13) Adl (rs0 (.bool (!y13)) (zg q12) (rs0 (.bool (!y13)) (zF q12) (As (tn_ ?_))))))));obtain rfl:=zj h;exact ⟨_,Ac [],rfl⟩
   rintro u1 _ rfl h
   (try dsimp only at h);rcases Ad h with ⟨q14,h⟩ | ⟨q14,h⟩
   ·refine Ae q14 (Am (Ak (br_ (tr_ (tr_ (br_ (tr_ ?_)))))));obtain rfl:=zj h;have h:=hn4
    (try dsimp only at h);obtain rfl:=zj h;have h:=hk2
    (try dsimp only at h);obtain rfl:=zj h;exact Bm [.bool false] (A8 rfl zl A7)
   refine Af q14 (Aj (bn_ (tn_ (wr_ ?_))));obtain ⟨g16,h⟩:=Ao h;refine Aa 4 (zA g16 (rsB 1 (As (tn_ ?_))));obtain rfl:=zj h;exact ⟨u0+1,_,Ac [],rfl,hn4⟩
  have q7_:=of_decide_eq_false q7;refine Af q7 (Aw (te_ (te_ (be_ (tn_ ?_)))));obtain rfl:=zj h;have h:=hn4
  (try dsimp only at h);obtain rfl:=zj h;exact ⟨(),_,rfl,Ac [],rfl⟩
 rintro _ _ rfl h
 (try dsimp only at h);refine Am (Ak ?_);obtain rfl:=zj h;exact Bm [.bool true] (A8 rfl zl A7)
def L2:AC :=
 (.seq (rg [xs1 14 13 12])
 (.seq (.cond (tm 14)
  .skip
  (.exit 0))
 (.seq (.block 1 (.seq (rg [xm 15 13,xm 5 15])
 (.seq (.region [xm 16 0,xm 17 5,xx 18 1 16 17,xl 19 18,xm 20 1,xm 21 5,xx 22 1 20 21,xl 23 22,xo 24 (qb .neq (tm 19) (tm 23))] true [])
 (.cond (tm 24)
  (.seq (rg [xo 4 (qm (cb false))])
  .ret)
  .skip))))
 (rg [xa 25 13,xm 13 25]))))
def Ps:AC :=
 (.seq (rg [xo 4 (qm (cb false))])
 (.seq (.seq (rg [xm 6 0,xn1 7 6,xm 8 1,xn1 9 8,xo 10 (qb .neq (tm 7) (tm 9))])
 (.cond (tm 10)
  (.seq (rg [xo 4 (qm (cb false))])
  .ret)
  .skip))
 (.seq (.seq (rg [xm 11 0,xn1 12 11,xo 13 (qm (ci 0))])
 (.block 0 (.loop L2)))
 (.seq (rg [xo 4 (qm (cb true))])
 .ret))))
def Y5:List Res:=[.tmp 4]
theorem Z0:Aq Tryd.prog Tryd.f92=some (Ps,Y5):=by kernel_rfl
def Eu (a0 a1:List Int) (u0:Nat):Option (Ctl Nat (Ctl Unit Bool)) :=
 cond (decide ((u0:Int)<(a0.length:Int)))
 ((a0[u0]?).bind fun x15 =>
 (a1[u0]?).bind fun x16 =>
 cond (x15 !=x16)
  (some (Ctl.out (Ctl.out false)))
  (og (u0+1<4611686018427387904) <|
  some (Ctl.next (u0+1))))
 (some (Ctl.out (Ctl.next ())))
def Gu (a0 a1:List Int):Option Bool :=
 cond ((a0.length:Int) !=(a1.length:Int))
 (some false)
 (Lk (Ay (fun s_:Nat=>Eu a0 a1 s_) 4611686018427387904 0) fun _ =>
 some true)
def Yc (r:Bool):RV:=⟨false,[(false,[.sc (.bool r)])]⟩
theorem W5 {a0 a1:List Int} {r:Bool} (h:Gu a0 a1=some r):A6 Tryd.prog Tab 92 [tI a0,tI a1] (Yc r):=by
 refine A1 (by kernel_rfl) Tryd.func92 Z0 (n:=26) (by kernel_rfl) (by simp) rfl ?_;unfold Ps;unfold Gu at h;refine Am (Ab (Am ?_));rcases Ad h with ⟨q4,h⟩ | ⟨q4,h⟩
 ·refine Ae q4 (Am (Ak (tr_ ?_)));obtain rfl:=zj h;exact Bm [.bool false] (A8 rfl zl A7)
 refine Af q4 (Aj (tn_ (wr_ (Cp h (fun (_:Unit) S_=>S_=⟨Al [],Ah (Ap []),2⟩) ?_ ?_))))
 ·intro v_ h hk6;refine Am (Ai (Ax h (fun (u0:Nat) S_=>S_=⟨Al [(0,tI a0),(1,tI a1),(12,an a0.length),(13,an u0)],Ah (Ap []),2⟩) ⟨_,Ac [],rfl⟩ ?_));rintro n_ u0 _ c_ rfl h hn8
  (try dsimp only at h);unfold Eu at h;unfold L2;refine Am (Ab ?_);rcases Ad h with ⟨q11,h⟩ | ⟨q11,h⟩
  ·have q11_:=of_decide_eq_true q11;refine Ae q11 (Aj (tn_ (wr_ (Ab (Ai (Am (Ab ?_)))))));obtain ⟨x15,e15,h⟩:=Ag h;obtain ⟨x16,e16,h⟩:=Ag h;refine Bb 14 (dz0 (tI a0) (dz0 (an u0) (dzI .int e15 (dz0 (ai x15) (dz0 (tI a1) (dz0 (an u0) (dzI .int e16 (dz0 (ai x16) (dz0 (.bool (x15 !=x16)) (Lz (Bv (by kernel_rfl)) (tn_ (wr_ ?_))))))))))));rcases Ad h with ⟨q17,h⟩ | ⟨q17,h⟩
   ·refine Ae q17 (Am (Ak (br_ (tr_ (tr_ (br_ (tr_ ?_)))))));obtain rfl:=zj h;have h:=hn8
    (try dsimp only at h);obtain rfl:=zj h;have h:=hk6
    (try dsimp only at h);obtain rfl:=zj h;exact Bm [.bool false] (A8 rfl zl A7)
   refine Af q17 (Aj (bn_ (tn_ (wr_ ?_))));obtain ⟨g19,h⟩:=Ao h;refine Aa 16 (zA g19 (rsB 1 (As (tn_ ?_))));obtain rfl:=zj h;exact ⟨u0+1,_,Ac [],rfl,hn8⟩
  have q11_:=of_decide_eq_false q11;refine Af q11 (Aw (te_ (te_ (be_ (tn_ ?_)))));obtain rfl:=zj h;have h:=hn8
  (try dsimp only at h);obtain rfl:=zj h;exact ⟨(),_,rfl,Ac [],rfl⟩
 rintro _ _ rfl h
 (try dsimp only at h);refine Am (Ak ?_);obtain rfl:=zj h;exact Bm [.bool true] (A8 rfl zl A7)
def Mk:AC :=
 (.seq (rg [xs1 14 13 12])
 (.seq (.cond (tm 14)
  .skip
  (.exit 0))
 (.seq (.block 1 (.seq (rg [xm 15 13,xm 5 15])
 (.seq (.region [xm 16 0,xm 17 5,xx 18 1 16 17,xl 19 18,xm 20 1,xm 21 5,xx 22 1 20 21,xl 23 22,xo 24 (qc 92 [tm 19,tm 23] [[some .int],[some .int]]),xo 25 (.i (.not (tm 24)))] true [])
 (.cond (tm 25)
  (.seq (rg [xo 4 (qm (cb false))])
  .ret)
  .skip))))
 (rg [xa 26 13,xm 13 26]))))
def Pz:AC :=
 (.seq (rg [xo 4 (qm (cb false))])
 (.seq (.seq (rg [xm 6 0,xn1 7 6,xm 8 1,xn1 9 8,xo 10 (qb .neq (tm 7) (tm 9))])
 (.cond (tm 10)
  (.seq (rg [xo 4 (qm (cb false))])
  .ret)
  .skip))
 (.seq (.seq (rg [xm 11 0,xn1 12 11,xo 13 (qm (ci 0))])
 (.block 0 (.loop Mk)))
 (.seq (rg [xo 4 (qm (cb true))])
 .ret))))
def Zu:List Res:=[.tmp 4]
theorem Z3:Aq Tryd.prog Tryd.f77=some (Pz,Zu):=by kernel_rfl
theorem X9:A5 Tryd.prog 77=true:=by kernel_rfl
def Ew (a0 a1:LL) (u0:Nat):Option (Ctl Nat (Ctl Unit Bool)) :=
 cond (decide ((u0:Int)<(a0.length:Int)))
 ((a0[u0]?).bind fun x15 =>
 (a1[u0]?).bind fun x16 =>
 (Gu x15 x16).bind fun y17 =>
 cond (!y17)
  (some (Ctl.out (Ctl.out false)))
  (og (u0+1<4611686018427387904) <|
  some (Ctl.next (u0+1))))
 (some (Ctl.out (Ctl.next ())))
def Gw (a0 a1:LL):Option Bool :=
 cond ((a0.length:Int) !=(a1.length:Int))
 (some false)
 (Lk (Ay (fun s_:Nat=>Ew a0 a1 s_) 4611686018427387904 0) fun _ =>
 some true)
def Yw (r:Bool):RV:=⟨false,[(false,[.sc (.bool r)])]⟩
theorem W0 {a0 a1:LL} {r:Bool} (h:Gw a0 a1=some r):A6 Tryd.prog Tab 77 [tS a0,tS a1] (Yw r):=by
 refine A1 (by kernel_rfl) Tryd.func77 Z3 (n:=27) (by kernel_rfl) (by simp) rfl ?_;unfold Pz;unfold Gw at h;refine Am (Ab (Am ?_));rcases Ad h with ⟨q4,h⟩ | ⟨q4,h⟩
 ·refine Ae q4 (Am (Ak (tr_ ?_)));obtain rfl:=zj h;exact Bm [.bool false] (A8 rfl zl A7)
 refine Af q4 (Aj (tn_ (wr_ (Cp h (fun (_:Unit) S_=>S_=⟨Al [],Ah (Ap []),2⟩) ?_ ?_))))
 ·intro v_ h hk6;refine Am (Ai (Ax h (fun (u0:Nat) S_=>S_=⟨Al [(0,tS a0),(1,tS a1),(12,an a0.length),(13,an u0)],Ah (Ap []),2⟩) ⟨_,Ac [],rfl⟩ ?_));rintro n_ u0 _ c_ rfl h hn8
  (try dsimp only at h);unfold Ew at h;unfold Mk;refine Am (Ab ?_);rcases Ad h with ⟨q11,h⟩ | ⟨q11,h⟩
  ·have q11_:=of_decide_eq_true q11;refine Ae q11 (Aj (tn_ (wr_ (Ab (Ai (Am (Ab ?_)))))));obtain ⟨x15,e15,h⟩:=Ag h;obtain ⟨x16,e16,h⟩:=Ag h;obtain ⟨y17,h17,h⟩:=Ag h;refine Bb 15 (dz0 (tS a0) (dz0 (an u0) (dzI sI e15 (dz0 (tI x15) (dz0 (tS a1) (dz0 (an u0) (dzI sI e16 (dz0 (tI x16) (dzc (.bool y17) [] [tI x15,tI x16] (W5 h17) (dz0 (.bool (!y17)) (Lz (Bv (by kernel_rfl)) (tn_ (wr_ ?_)))))))))))));rcases Ad h with ⟨q18,h⟩ | ⟨q18,h⟩
   ·refine Ae q18 (Am (Ak (br_ (tr_ (tr_ (br_ (tr_ ?_)))))));obtain rfl:=zj h;have h:=hn8
    (try dsimp only at h);obtain rfl:=zj h;have h:=hk6
    (try dsimp only at h);obtain rfl:=zj h;exact Bm [.bool false] (A8 rfl zl A7)
   refine Af q18 (Aj (bn_ (tn_ (wr_ ?_))));obtain ⟨g20,h⟩:=Ao h;refine Aa 17 (zA g20 (rsB 1 (As (tn_ ?_))));obtain rfl:=zj h;exact ⟨u0+1,_,Ac [],rfl,hn8⟩
  have q11_:=of_decide_eq_false q11;refine Af q11 (Aw (te_ (te_ (be_ (tn_ ?_)))));obtain rfl:=zj h;have h:=hn8
  (try dsimp only at h);obtain rfl:=zj h;exact ⟨(),_,rfl,Ac [],rfl⟩
 rintro _ _ rfl h
 (try dsimp only at h);refine Am (Ak ?_);obtain rfl:=zj h;exact Bm [.bool true] (A8 rfl zl A7)
def P0:AC :=
 (.seq (rg [xo 3 (.i (.box 68 (tm 1))),xo 4 (qm (cb false))])
 (.seq (.region [xm 5 0,xo 6 (qc 61 [tm 5] [[]]),xm 7 6,⟨some 8,some (7,true),qf 0 (tm 3)⟩,⟨some 9,some (7,true),ql (tm 8)⟩,⟨some 10,some (7,true),qc 37 [tm 9,ci 0,ci 24] [[],[],[]]⟩,xo 11 (.i (.pick (tm 7) (tm 10) (cb false))),xm 12 11,⟨some 13,some (12,true),qf 1 (tm 3)⟩,⟨some 14,some (12,true),ql (tm 13)⟩,⟨some 15,some (12,true),.i (.len (tm 14))⟩,⟨some 16,some (12,true),qf 0 (tm 3)⟩,⟨some 17,some (12,true),ql (tm 16)⟩,⟨some 18,some (12,true),qb .leq (tm 15) (tm 17)⟩,xo 19 (.i (.pick (tm 12) (tm 18) (cb false))),xm 20 19,⟨some 21,some (20,true),qm (tm 0)⟩,⟨some 22,some (20,true),qf 0 (tm 3)⟩,⟨some 23,some (20,true),ql (tm 22)⟩,⟨some 24,some (20,true),qf 1 (tm 3)⟩,⟨some 25,some (20,true),ql (tm 24)⟩,⟨some 26,some (20,true),qc 76 [tm 21,tm 23,tm 25] [[],[],[some sI]]⟩,xo 27 (.i (.pick (tm 20) (tm 26) (cb false))),xm 28 27,⟨some 29,some (28,true),qm (tm 0)⟩,⟨some 30,some (28,true),qf 0 (tm 3)⟩,⟨some 31,some (28,true),ql (tm 30)⟩,⟨some 32,some (28,true),qf 1 (tm 3)⟩,⟨some 33,some (28,true),ql (tm 32)⟩,⟨some 34,some (28,true),qc 65 [tm 29,tm 31,tm 33] [[],[],[some sI]]⟩,⟨some 35,some (28,true),qf 1 (tm 3)⟩,⟨some 36,some (28,true),ql (tm 35)⟩,⟨some 37,some (28,true),qc 77 [tm 34,tm 36] [[some sI],[some sI]]⟩,xo 38 (.i (.pick (tm 28) (tm 37) (cb false))),xm 4 38] true [(29,31)])
 .ret))
def Zi:List Res:=[.tmp 4]
theorem Zn:Aq Tryd.prog Tryd.f53=some (P0,Zi):=by kernel_rfl
theorem Wv:A5 Tryd.prog 53=true:=by kernel_rfl
def H2 (a0 u0:Int) (u1:LL):Option Bool :=
 ((Gn a0).bind fun y3 =>
 cond y3
  ((D5 u0 0 24).bind fun y5 =>
  cond y5
   (cond (decide ((u1.length:Int)<=u0))
    ((Gt a0 u0 u1).bind fun y8 =>
    cond y8
     ((Dx a0 u0 u1).bind fun y10 =>
     (Gw y10 u1).bind fun y11 =>
     some y11)
     (some false))
    (some false))
   (some false))
  (some false)).bind fun u2 =>
some u2
def Xe (r:Bool):RV:=⟨false,[(false,[.sc (.bool r)])]⟩
set_option maxHeartbeats 1600000 in
theorem Xv {a0 u0:Int} {u1:LL} {r:Bool} (h:H2 a0 u0 u1=some r):A6 Tryd.prog Tab 53 [ai a0,.agg [ai u0,tS u1]] (Xe r):=by
 refine A1 (by kernel_rfl) Tryd.func53 Zn (n:=39) (by kernel_rfl) (by simp) rfl ?_;unfold P0;unfold H2 at h;refine Am (Av h (fun (u2:Bool) S_=>S_=⟨Al [(4,.bool u2)],Ah (Ap []),2⟩) ?_ ?_)
 ·intro v_ h;obtain ⟨y3,h3,h⟩:=Ag h;rcases Ad h with ⟨q4,h⟩ | ⟨q4,h⟩
  ·obtain ⟨y5,h5,h⟩:=Ag h;rcases Ad h with ⟨q6,h⟩ | ⟨q6,h⟩
   ·rcases Ad h with ⟨q7,h⟩ | ⟨q7,h⟩
    ·have q7_:=of_decide_eq_true q7;obtain ⟨y8,h8,h⟩:=Ag h;rcases Ad h with ⟨q9,h⟩ | ⟨q9,h⟩
     ·obtain ⟨y10,h10,h⟩:=Ag h;obtain ⟨y11,h11,h⟩:=Ag h;refine Bb 38 (dz0 (ai a0) (dzc (.bool y3) [] [ai a0] (Fu h3) (dz0 (.bool y3) (ds0 (.box (oi 3 1) 0) (zg q4) (dsl (ai u0) (zg q4) (Nl (.bool y5) [] [ai u0,ai 0,ai 24] _ (caps:=[]) (args0:=[ai u0,ai 0,ai 24]) (Ed (by kernel_rfl) q4) (by kernel_rfl) (B8 h5) F6 (ds0 (.bool y5) (zT q4) (dz0 (.bool y5) (ds0 (.box (oi 3 1) 1) (zg q6) (dsl (tS u1) (zg q6) (ds0 (an u1.length) (zg q6) (ds0 (.box (oi 3 1) 0) (zg q6) (dsl (ai u0) (zg q6) (ds0 (.bool (decide ((u1.length:Int)<=u0))) (zg q6) (ds0 (.bool (decide ((u1.length:Int)<=u0))) (zT q6) (dz0 (.bool (decide ((u1.length:Int)<=u0))) (ds0 (ai a0) (zg q7) (ds0 (.box (oi 3 1) 0) (zg q7) (dsl (ai u0) (zg q7) (ds0 (.box (oi 3 1) 1) (zg q7) (dsl (tS u1) (zg q7) (Nl (.bool y8) [] [ai a0,ai u0,tS u1] _ (caps:=[]) (args0:=[ai a0,ai u0,tS u1]) (Ed (by kernel_rfl) q7) (by kernel_rfl) (Ok h8) N6 (ds0 (.bool y8) (zT q7) (dz0 (.bool y8) (ds0 (ai a0) (zg q9) (ds0 (.box (oi 3 1) 0) (zg q9) (dsl (ai u0) (zg q9) (ds0 (.box (oi 3 1) 1) (zg q9) (dsl (tS u1) (zg q9) (T8 (oS 544 32 y10.length) [(oi 544 32,some (.mat 35 (oi 545 32) .int y10)),(oi 545 32,some (.pool 3 .int y10))] [] [ai a0,ai u0,tS u1] (caps:=[]) (Ed (by kernel_rfl) q9) (Md h10) L7 trivial (.cons (.ren (by kernel_rfl)) (.cons (.ren (by kernel_rfl)) (.cons (.ren (by kernel_rfl)) .nil))) (A4 (by kernel_rfl) (by kernel_rfl) trivial) (Agg (by kernel_rfl)) (ds0 (.box (oi 3 1) 1) (zg q9) (dsl (tS u1) (zg q9) (Nl (.bool y11) [] [oS 544 32 y10.length,tS u1] _ (caps:=[]) (args0:=[tS y10,tS u1]) (Ed (by kernel_rfl) q9) (Bi (Fq (p:=oi 545 32) (e1:=35) (e:=3) (u:=.int) (xss:=y10) (by kernel_rfl) (Ago (t:=sI) (off:=0) (len:=y10.length) (i:=oi 544 32) (e1:=35) (z:=1) (m:=y10.length) 0 rfl (by kernel_rfl) (by kernel_rfl) (Cj (by kernel_rfl))) rfl) (Bi (by kernel_rfl) Fl)) (W0 h11) X9 (ds0 (.bool y11) (zT q9) (dz0 (.bool y11) (Lz ⟨Aqj (by kernel_rfl),trivial⟩ (tn_ ?_)))))))))))))))))))))))))))))))))))));obtain rfl:=zj h;exact ⟨_,Ac [],rfl⟩
     refine Bb 38 (dz0 (ai a0) (dzc (.bool y3) [] [ai a0] (Fu h3) (dz0 (.bool y3) (ds0 (.box (oi 3 1) 0) (zg q4) (dsl (ai u0) (zg q4) (Nl (.bool y5) [] [ai u0,ai 0,ai 24] _ (caps:=[]) (args0:=[ai u0,ai 0,ai 24]) (Ed (by kernel_rfl) q4) (by kernel_rfl) (B8 h5) F6 (ds0 (.bool y5) (zT q4) (dz0 (.bool y5) (ds0 (.box (oi 3 1) 1) (zg q6) (dsl (tS u1) (zg q6) (ds0 (an u1.length) (zg q6) (ds0 (.box (oi 3 1) 0) (zg q6) (dsl (ai u0) (zg q6) (ds0 (.bool (decide ((u1.length:Int)<=u0))) (zg q6) (ds0 (.bool (decide ((u1.length:Int)<=u0))) (zT q6) (dz0 (.bool (decide ((u1.length:Int)<=u0))) (ds0 (ai a0) (zg q7) (ds0 (.box (oi 3 1) 0) (zg q7) (dsl (ai u0) (zg q7) (ds0 (.box (oi 3 1) 1) (zg q7) (dsl (tS u1) (zg q7) (Nl (.bool y8) [] [ai a0,ai u0,tS u1] _ (caps:=[]) (args0:=[ai a0,ai u0,tS u1]) (Ed (by kernel_rfl) q7) (by kernel_rfl) (Ok h8) N6 (ds0 (.bool y8) (zT q7) (dz0 (.bool y8) (ds0 (.tup []) (Cw (by kernel_rfl) q9) (ds0 (.tup []) (Cw (by kernel_rfl) q9) (ds0 (.tup []) (Cw (by kernel_rfl) q9) (ds0 (.tup []) (Cw (by kernel_rfl) q9) (ds0 (.tup []) (Cw (by kernel_rfl) q9) (ds0 (.tup []) (Cw (by kernel_rfl) q9) (ds0 (.tup []) (Cw (by kernel_rfl) q9) (ds0 (.tup []) (Cw (by kernel_rfl) q9) (ds0 (.tup []) (Cw (by kernel_rfl) q9) (ds0 (.bool false) (zF q9) (dz0 (.bool false) (Lz (Bv (by kernel_rfl)) (tn_ ?_)))))))))))))))))))))))))))))))))))));obtain rfl:=zj h;exact ⟨_,Ac [],rfl⟩
    have q7_:=of_decide_eq_false q7;refine Bb 38 (dz0 (ai a0) (dzc (.bool y3) [] [ai a0] (Fu h3) (dz0 (.bool y3) (ds0 (.box (oi 3 1) 0) (zg q4) (dsl (ai u0) (zg q4) (Nl (.bool y5) [] [ai u0,ai 0,ai 24] _ (caps:=[]) (args0:=[ai u0,ai 0,ai 24]) (Ed (by kernel_rfl) q4) (by kernel_rfl) (B8 h5) F6 (ds0 (.bool y5) (zT q4) (dz0 (.bool y5) (ds0 (.box (oi 3 1) 1) (zg q6) (dsl (tS u1) (zg q6) (ds0 (an u1.length) (zg q6) (ds0 (.box (oi 3 1) 0) (zg q6) (dsl (ai u0) (zg q6) (ds0 (.bool (decide ((u1.length:Int)<=u0))) (zg q6) (ds0 (.bool (decide ((u1.length:Int)<=u0))) (zT q6) (dz0 (.bool (decide ((u1.length:Int)<=u0))) (ds0 (.tup []) (Cw (by kernel_rfl) q7) (ds0 (.tup []) (Cw (by kernel_rfl) q7) (ds0 (.tup []) (Cw (by kernel_rfl) q7) (ds0 (.tup []) (Cw (by kernel_rfl) q7) (ds0 (.tup []) (Cw (by kernel_rfl) q7) (ds0 (.tup []) (Cw (by kernel_rfl) q7) (ds0 (.bool false) (zF q7) (dz0 (.bool false) (dz0 (.tup []) (dz0 (.tup []) (dz0 (.tup []) (dz0 (.tup []) (dz0 (.tup []) (dz0 (.tup []) (dz0 (.tup []) (dz0 (.tup []) (dz0 (.tup []) (dz0 (.bool false) (dz0 (.bool false) (Lz (Bv (by kernel_rfl)) (tn_ ?_)))))))))))))))))))))))))))))))))))));obtain rfl:=zj h;exact ⟨_,Ac [],rfl⟩
   refine Bb 38 (dz0 (ai a0) (dzc (.bool y3) [] [ai a0] (Fu h3) (dz0 (.bool y3) (ds0 (.box (oi 3 1) 0) (zg q4) (dsl (ai u0) (zg q4) (Nl (.bool y5) [] [ai u0,ai 0,ai 24] _ (caps:=[]) (args0:=[ai u0,ai 0,ai 24]) (Ed (by kernel_rfl) q4) (by kernel_rfl) (B8 h5) F6 (ds0 (.bool y5) (zT q4) (dz0 (.bool y5) (ds0 (.tup []) (Cw (by kernel_rfl) q6) (ds0 (.tup []) (Cw (by kernel_rfl) q6) (ds0 (.tup []) (Cw (by kernel_rfl) q6) (ds0 (.tup []) (Cw (by kernel_rfl) q6) (ds0 (.tup []) (Cw (by kernel_rfl) q6) (ds0 (.tup []) (Cw (by kernel_rfl) q6) (ds0 (.bool false) (zF q6) (dz0 (.bool false) (dz0 (.tup []) (dz0 (.tup []) (dz0 (.tup []) (dz0 (.tup []) (dz0 (.tup []) (dz0 (.tup []) (dz0 (.bool false) (dz0 (.bool false) (dz0 (.tup []) (dz0 (.tup []) (dz0 (.tup []) (dz0 (.tup []) (dz0 (.tup []) (dz0 (.tup []) (dz0 (.tup []) (dz0 (.tup []) (dz0 (.tup []) (dz0 (.bool false) (dz0 (.bool false) (Lz (Bv (by kernel_rfl)) (tn_ ?_)))))))))))))))))))))))))))))))))))));obtain rfl:=zj h;exact ⟨_,Ac [],rfl⟩
  refine Bb 38 (dz0 (ai a0) (dzc (.bool y3) [] [ai a0] (Fu h3) (dz0 (.bool y3) (ds0 (.tup []) (Cw (by kernel_rfl) q4) (ds0 (.tup []) (Cw (by kernel_rfl) q4) (ds0 (.tup []) (Cw (by kernel_rfl) q4) (ds0 (.bool false) (zF q4) (dz0 (.bool false) (dz0 (.tup []) (dz0 (.tup []) (dz0 (.tup []) (dz0 (.tup []) (dz0 (.tup []) (dz0 (.tup []) (dz0 (.bool false) (dz0 (.bool false) (dz0 (.tup []) (dz0 (.tup []) (dz0 (.tup []) (dz0 (.tup []) (dz0 (.tup []) (dz0 (.tup []) (dz0 (.bool false) (dz0 (.bool false) (dz0 (.tup []) (dz0 (.tup []) (dz0 (.tup []) (dz0 (.tup []) (dz0 (.tup []) (dz0 (.tup []) (dz0 (.tup []) (dz0 (.tup []) (dz0 (.tup []) (dz0 (.bool false) (dz0 (.bool false) (Lz (Bv (by kernel_rfl)) (tn_ ?_)))))))))))))))))))))))))))))))))))));obtain rfl:=zj h;exact ⟨_,Ac [],rfl⟩
 rintro u2 _ rfl h
 (try dsimp only at h);refine Ak ?_;obtain rfl:=zj h;exact Bm [.bool u2] (A8 rfl zl A7)
def Px:AC :=
 (.seq (rg [xo 3 (.i (.box 28 (tm 1))),xo 4 (qm (cb false))])
 (.seq (rg [xf 5 0 3,xl 6 5,xo 7 (qc 37 [tm 6,ci 0,ci 24] [[],[],[]]),xm 8 7,⟨some 9,some (8,true),qf 1 (tm 3)⟩,⟨some 10,some (8,true),ql (tm 9)⟩,⟨some 11,some (8,true),qf 0 (tm 3)⟩,⟨some 12,some (8,true),ql (tm 11)⟩,⟨some 13,some (8,true),qb .sub (ci 24) (tm 12)⟩,⟨some 14,some (8,true),qc 37 [tm 10,ci 0,tm 13] [[],[],[]]⟩,xo 15 (.i (.pick (tm 8) (tm 14) (cb false))),xm 16 15,⟨some 17,some (16,true),qm (tm 0)⟩,⟨some 18,some (16,true),qf 0 (tm 3)⟩,⟨some 19,some (16,true),ql (tm 18)⟩,⟨some 20,some (16,true),qf 1 (tm 3)⟩,⟨some 21,some (16,true),ql (tm 20)⟩,⟨some 22,some (16,true),qb .add (tm 19) (tm 21)⟩,⟨some 23,some (16,true),qf 2 (tm 3)⟩,⟨some 24,some (16,true),ql (tm 23)⟩,⟨some 25,some (16,true),.build [.int .i64 0,.nils] [(0,1,tm 22),(1,1,tm 24)]⟩,⟨some 26,some (16,true),qc 53 [tm 17,tm 25] [[],[none,some sI]]⟩,xo 27 (.i (.pick (tm 16) (tm 26) (cb false))),xm 4 27])
 .ret))
def Y1:List Res:=[.tmp 4]
theorem Zb:Aq Tryd.prog Tryd.f26=some (Px,Y1):=by kernel_rfl
def Gq (a0 u0 u1:Int) (u2:LL):Option Bool :=
 ((D5 u0 0 24).bind fun y3 =>
 cond y3
  ((D5 u1 0 (wI (24 - u0))).bind fun y5 =>
  cond y5
   ((H2 a0 (wI (u0+u1)) u2).bind fun y7 =>
   some y7)
   (some false))
  (some false)).bind fun u3 =>
some u3
def Xp (r:Bool):RV:=⟨false,[(false,[.sc (.bool r)])]⟩
theorem Oz {a0 u0 u1:Int} {u2:LL} {r:Bool} (h:Gq a0 u0 u1 u2=some r):A6 Tryd.prog Tab 26 [ai a0,.agg [ai u0,ai u1,tS u2]] (Xp r):=by
 refine A1 (by kernel_rfl) Tryd.func26 Zb (n:=28) (by kernel_rfl) (by simp) rfl ?_;unfold Px;unfold Gq at h;refine Am (Av h (fun (u3:Bool) S_=>S_=⟨Al [(4,.bool u3)],Ah (Ap []),2⟩) ?_ ?_)
 ·intro v_ h;obtain ⟨y3,h3,h⟩:=Ag h;rcases Ad h with ⟨q4,h⟩ | ⟨q4,h⟩
  ·obtain ⟨y5,h5,h⟩:=Ag h;rcases Ad h with ⟨q6,h⟩ | ⟨q6,h⟩
   ·obtain ⟨y7,h7,h⟩:=Ag h;refine Aa 27 (rsB 2 (zc (.bool y3) [] [ai u0,ai 0,ai 24] (B8 h3) (rsB 1 (rs0 (.box (oi 3 1) 1) (zg q4) (rsl (ai u1) (zg q4) (rs0 (.box (oi 3 1) 0) (zg q4) (rsl (ai u0) (zg q4) (rs0 (ai (wI (24 - u0))) (zg q4) (Fe (.bool y5) [] [ai u1,ai 0,ai (wI (24 - u0))] _ (caps:=[]) (args0:=[ai u1,ai 0,ai (wI (24 - u0))]) (Ed (by kernel_rfl) q4) (by kernel_rfl) (B8 h5) F6 (rs0 (.bool y5) (zT q4) (rsB 1 (rs0 (ai a0) (zg q6) (rs0 (.box (oi 3 1) 0) (zg q6) (rsl (ai u0) (zg q6) (rs0 (.box (oi 3 1) 1) (zg q6) (rsl (ai u1) (zg q6) (rs0 (ai (wI (u0+u1))) (zg q6) (rs0 (.box (oi 3 1) 2) (zg q6) (rsl (tS u2) (zg q6) (rs0 (.agg [ai (wI (u0+u1)),tS u2]) (zg q6) (Fe (.bool y7) [] [ai a0,.agg [ai (wI (u0+u1)),tS u2]] _ (caps:=[]) (args0:=[ai a0,.agg [ai (wI (u0+u1)),tS u2]]) (Ed (by kernel_rfl) q6) (by kernel_rfl) (Xv h7) Wv (rs0 (.bool y7) (zT q6) (rsB 1 (As (tn_ ?_)))))))))))))))))))))))));obtain rfl:=zj h;exact ⟨_,Ac [],rfl⟩
   refine Aa 27 (rsB 2 (zc (.bool y3) [] [ai u0,ai 0,ai 24] (B8 h3) (rsB 1 (rs0 (.box (oi 3 1) 1) (zg q4) (rsl (ai u1) (zg q4) (rs0 (.box (oi 3 1) 0) (zg q4) (rsl (ai u0) (zg q4) (rs0 (ai (wI (24 - u0))) (zg q4) (Fe (.bool y5) [] [ai u1,ai 0,ai (wI (24 - u0))] _ (caps:=[]) (args0:=[ai u1,ai 0,ai (wI (24 - u0))]) (Ed (by kernel_rfl) q4) (by kernel_rfl) (B8 h5) F6 (rs0 (.bool y5) (zT q4) (rsB 1 (zs q6 (zs q6 (zs q6 (zs q6 (zs q6 (zs q6 (zs q6 (zs q6 (zs q6 (zs q6 (rs0 (.bool false) (zF q6) (rsB 1 (As (tn_ ?_)))))))))))))))))))))))));obtain rfl:=zj h;exact ⟨_,Ac [],rfl⟩
  refine Aa 27 (rsB 2 (zc (.bool y3) [] [ai u0,ai 0,ai 24] (B8 h3) (rsB 1 (zs q4 (zs q4 (zs q4 (zs q4 (zs q4 (zs q4 (rs0 (.bool false) (zF q4) (rsB 13 (As (tn_ ?_)))))))))))));obtain rfl:=zj h;exact ⟨_,Ac [],rfl⟩
 rintro u3 _ rfl h
 (try dsimp only at h);refine Ak ?_;obtain rfl:=zj h;exact Bm [.bool u3] (A8 rfl zl A7)
def Uv:AC :=
 (.seq (rg [xo 4 (qm (cb false))])
 (.seq (rg [xm 5 0,xo 6 (qc 44 [tm 5,ci 0,ci 24] [[],[],[]]),xm 7 6,⟨some 8,some (7,true),qm (tm 1)⟩,⟨some 9,some (7,true),qc 44 [tm 8,ci 0,ci 24] [[],[],[]]⟩,xo 10 (.i (.pick (tm 7) (tm 9) (cb false))),xm 11 10,⟨some 12,some (11,true),qm (tm 0)⟩,⟨some 13,some (11,true),qm (tm 1)⟩,⟨some 14,some (11,true),qb .add (tm 12) (tm 13)⟩,⟨some 15,some (11,true),qb .leq (tm 14) (ci 24)⟩,xo 16 (.i (.pick (tm 11) (tm 15) (cb false))),xm 4 16])
 .ret))
def Aec:List Res:=[.tmp 4]
theorem Aex:Aq Tryd.prog Tryd.f56=some (Uv,Aec):=by kernel_rfl
theorem Rp:A5 Tryd.prog 56=true:=by kernel_rfl
def Id (a0 a1:Int):Option Bool :=
 ((Fh a0 0 24).bind fun y3 =>
 cond y3
  ((Fh a1 0 24).bind fun y5 =>
  cond y5
   (some (decide (wI (a0+a1)<=24)))
   (some false))
  (some false)).bind fun u0 =>
some u0
def Abv (r:Bool):RV:=⟨false,[(false,[.sc (.bool r)])]⟩
theorem Rf {a0 a1:Int} {r:Bool} (h:Id a0 a1=some r):A6 Tryd.prog Tab 56 [ai a0,ai a1] (Abv r):=by
 refine A1 (by kernel_rfl) Tryd.func56 Aex (n:=17) (by kernel_rfl) (by simp) rfl ?_;unfold Uv;unfold Id at h;refine Am (Av h (fun (u0:Bool) S_=>S_=⟨Al [(4,.bool u0)],Ah (Ap []),2⟩) ?_ ?_)
 ·intro v_ h;obtain ⟨y3,h3,h⟩:=Ag h;rcases Ad h with ⟨q4,h⟩ | ⟨q4,h⟩
  ·obtain ⟨y5,h5,h⟩:=Ag h;rcases Ad h with ⟨q6,h⟩ | ⟨q6,h⟩
   ·refine Aa 15 (rsB 1 (zc (.bool y3) [] [ai a0,ai 0,ai 24] (F1 h3) (rsB 1 (rs0 (ai a1) (zg q4) (Fe (.bool y5) [] [ai a1,ai 0,ai 24] _ (caps:=[]) (args0:=[ai a1,ai 0,ai 24]) (Ed (by kernel_rfl) q4) (by kernel_rfl) (F1 h5) N3 (rs0 (.bool y5) (zT q4) (rsB 1 (rs0 (ai a0) (zg q6) (rs0 (ai a1) (zg q6) (rs0 (ai (wI (a0+a1))) (zg q6) (rs0 (.bool (decide (wI (a0+a1)<=24))) (zg q6) (rs0 (.bool (decide (wI (a0+a1)<=24))) (zT q6) (rsB 1 (As (tn_ ?_)))))))))))))));obtain rfl:=zj h;exact ⟨_,Ac [],rfl⟩
   refine Aa 15 (rsB 1 (zc (.bool y3) [] [ai a0,ai 0,ai 24] (F1 h3) (rsB 1 (rs0 (ai a1) (zg q4) (Fe (.bool y5) [] [ai a1,ai 0,ai 24] _ (caps:=[]) (args0:=[ai a1,ai 0,ai 24]) (Ed (by kernel_rfl) q4) (by kernel_rfl) (F1 h5) N3 (rs0 (.bool y5) (zT q4) (rsB 1 (zs q6 (zs q6 (zs q6 (zs q6 (rs0 (.bool false) (zF q6) (rsB 1 (As (tn_ ?_)))))))))))))));obtain rfl:=zj h;exact ⟨_,Ac [],rfl⟩
  refine Aa 15 (rsB 1 (zc (.bool y3) [] [ai a0,ai 0,ai 24] (F1 h3) (rsB 1 (zs q4 (zs q4 (rs0 (.bool false) (zF q4) (rsB 7 (As (tn_ ?_)))))))));obtain rfl:=zj h;exact ⟨_,Ac [],rfl⟩
 rintro u0 _ rfl h
 (try dsimp only at h);refine Ak ?_;obtain rfl:=zj h;exact Bm [.bool u0] (A8 rfl zl A7)
def Ib:AC :=
 (.seq (rg [xs1 12 11 10])
 (.seq (.cond (tm 12)
  .skip
  (.exit 0))
 (.seq (.block 1 (.seq (rg [xx 13 1 9 11,xl 14 13,xm 8 14])
 (.seq (rg [xm 15 0,xm 16 8,xm 17 2,xo 18 (qc 86 [tm 15,tm 16,tm 17] [[],[some .int],[]]),xo 19 (.i (.not (tm 18)))])
 (.cond (tm 19)
  (.seq (rg [xo 6 (qm (cb false))])
  .ret)
  .skip))))
 (rg [xa 20 11,xm 11 20]))))
def K1:AC :=
 (.seq (rg [xo 6 (qm (cb false))])
 (.seq (.seq (rg [xm 9 1,xn1 10 9,xo 11 (qm (ci 0))])
 (.block 0 (.loop Ib)))
 (.seq (rg [xo 6 (qm (cb true))])
 .ret)))
def Rv:List Res:=[.tmp 6]
theorem Rt:Aq Tryd.prog Tryd.f67=some (K1,Rv):=by kernel_rfl
theorem Q2:A5 Tryd.prog 67=true:=by kernel_rfl
def D3 (a1:LL) (a0 a2:Int) (u0:Nat):Option (Ctl Nat (Ctl Unit Bool)) :=
 cond (decide ((u0:Int)<(a1.length:Int)))
 ((a1[u0]?).bind fun x10 =>
 (Ff a0 x10 a2).bind fun y12 =>
 cond (!y12)
  (some (Ctl.out (Ctl.out false)))
  (og (u0+1<4611686018427387904) <|
  some (Ctl.next (u0+1))))
 (some (Ctl.out (Ctl.next ())))
def Dz (a0:Int) (a1:LL) (a2:Int):Option Bool :=
 Lk (Ay (fun s_:Nat=>D3 a1 a0 a2 s_) 4611686018427387904 0) fun _ =>
some true
def Qm (r:Bool):RV:=⟨false,[(false,[.sc (.bool r)])]⟩
theorem Qt {a0:Int} {a1:LL} {a2:Int} {r:Bool} (h:Dz a0 a1 a2=some r):A6 Tryd.prog Tab 67 [ai a0,tS a1,ai a2] (Qm r):=by
 refine A1 (by kernel_rfl) Tryd.func67 Rt (n:=21) (by kernel_rfl) (by simp) rfl ?_;unfold K1;unfold Dz at h;refine Am (Cp h (fun (_:Unit) S_=>S_=⟨Al [],Ah (Ap []),2⟩) ?_ ?_)
 ·intro v_ h hk2;refine Am (Ai (Ax h (fun (u0:Nat) S_=>S_=⟨Al [(0,ai a0),(2,ai a2),(9,tS a1),(10,an a1.length),(11,an u0)],Ah (Ap []),2⟩) ⟨_,Ac [],rfl⟩ ?_));rintro n_ u0 _ c_ rfl h hn4
  (try dsimp only at h);unfold D3 at h;unfold Ib;refine Am (Ab ?_);rcases Ad h with ⟨q7,h⟩ | ⟨q7,h⟩
  ·have q7_:=of_decide_eq_true q7;refine Ae q7 (Aj (tn_ (wr_ (Ab (Ai (Ab ?_))))));obtain ⟨x10,e10,h⟩:=Ag h;refine Aa 6 (zI sI e10 (rsB 2 (As (tn_ (wr_ (Ab ?_))))));obtain ⟨y12,h12,h⟩:=Ag h;refine Aa 11 (rsB 3 (zc (.bool y12) [] [ai a0,tI x10,ai a2] (T1 h12) (rsB 1 (As (tn_ (wr_ ?_))))));rcases Ad h with ⟨q13,h⟩ | ⟨q13,h⟩
   ·refine Ae q13 (Am (Ak (br_ (tr_ (tr_ (br_ (tr_ ?_)))))));obtain rfl:=zj h;have h:=hn4
    (try dsimp only at h);obtain rfl:=zj h;have h:=hk2
    (try dsimp only at h);obtain rfl:=zj h;exact Bm [.bool false] (A8 rfl zl A7)
   refine Af q13 (Aj (bn_ (tn_ (wr_ ?_))));obtain ⟨g15,h⟩:=Ao h;refine Aa 13 (zA g15 (rsB 1 (As (tn_ ?_))));obtain rfl:=zj h;exact ⟨u0+1,_,Ac [],rfl,hn4⟩
  have q7_:=of_decide_eq_false q7;refine Af q7 (Aw (te_ (te_ (be_ (tn_ ?_)))));obtain rfl:=zj h;have h:=hn4
  (try dsimp only at h);obtain rfl:=zj h;exact ⟨(),_,rfl,Ac [],rfl⟩
 rintro _ _ rfl h
 (try dsimp only at h);refine Am (Ak ?_);obtain rfl:=zj h;exact Bm [.bool true] (A8 rfl zl A7)
def Ow:AC :=
 (.seq (rg [xo 6 (qm (.cst .nils))])
 (.seq (rg [xm 10 1,xo 11 (qc 71 [tm 10] [[some sI]]),xm 7 11])
 (.seq (rg [xm 12 7,xn1 13 12,xo 14 (.makeV 35 sI 24 [.nils] (tm 13) (tm 13)),xm 8 14])
 (.seq (rg [xm 15 0,xm 16 7,xm 17 2,xm 18 8,xo 19 (qc 60 [tm 15,tm 16,tm 17,tm 18] [[],[some sI],[],[some sI]]),xm 9 19])
 (.seq (rg [xm 20 7,xm 21 9,xm 22 9,xo 23 (.slice 1 (tm 20) none (some (tm 21)) (some (tm 22))),xm 6 23])
 .ret)))))
def Xa:List Res:=[.tmp 6]
theorem Wo:Aq Tryd.prog Tryd.f78=some (Ow,Xa):=by kernel_rfl
theorem Nd:A5 Tryd.prog 78=true:=by kernel_rfl
def Em (a0:Int) (a1:LL) (a2:Int):Option (LL) :=
 (Gs a1).bind fun y4 =>
og (0<=(y4.length:Int)∧(y4.length:Int)<=(y4.length:Int)∧(y4.length:Int)<=1073741824∧(24:Int)*(y4.length:Int)<=140737488355328) <|
(Di a0 y4 a2 (List.replicate y4.length ([]:List Int))).bind fun y8 =>
og (y8.1.length=y4.length) <|
og (y8.2.1.length=y4.length) <|
og ((0:Int)<=(y8.2.2:Int)∧(y8.2.2:Int)<=(y8.2.2:Int)∧(y8.2.2:Int)<=(y4.length:Int)) <|
some (y8.1.take y8.2.2)
theorem Nk {a0:Int} {a1:LL} {a2:Int} {r:LL} (h:Em a0 a1 a2=some r):Dd Tryd.prog Tab 78 [ai a0,tS a1,ai a2] [] (oS 0 1 r.length) [(oi 0 1,.mat 35 (oi 1 1) .int r),(oi 1 1,.pool 3 .int r)]:=by
 refine Cd (by kernel_rfl) Tryd.func78 Wo (n:=24) (by kernel_rfl) (by simp) rfl (by kernel_rfl) trivial ⟨⟨3,.tail _ (.head _)⟩,⟨trivial,trivial⟩⟩ ?_;unfold Ow;unfold Em at h;refine Am (Ab ?_);obtain ⟨y4,h4,h⟩:=Ag h;refine Aa 5 (rsB 1 (Cr (oS 176 3 y4.length) [(oi 176 3,some (.mat 35 (oi 177 3) .int y4)),(oi 177 3,some (.pool 3 .int y4))] [] [tS a1] (caps:=[]) trivial (Xl h4) Yu trivial (.cons (.ren (by kernel_rfl)) .nil) (A4 (by kernel_rfl) (by kernel_rfl) trivial) (rsB 1 (As (tn_ (wr_ (Ab ?_)))))));obtain ⟨g6,h⟩:=Ao h;refine Aa 9 (rsB 2 (Agz (oS 224 7 y4.length) (oi 224 7) 35 3 .int (List.replicate y4.length ([]:List Int)) trivial (Abi (j:=y4.length) (k:=.i64) (k':=.i64) (m:=(y4.length:Int)) (c:=(y4.length:Int)) 3 (by kernel_rfl) (by kernel_rfl) g6 (by kernel_rfl) rfl) (by kernel_rfl) (by rw [List.length_replicate]) (by kernel_rfl) (rsB 1 (As (tn_ (wr_ (Ab ?_)))))));obtain ⟨y8,h8,h⟩:=Ag h;obtain ⟨g9,h⟩:=Ao h;obtain ⟨g10,h⟩:=Ao h;refine Aa 15 (rsB 4 (Cr (an y8.2.2) [(oi 176 3,some (.mat 35 (oi 304 13) .int y8.1)),(oi 304 13,some (.pool 3 .int y8.1)),(oi 224 7,some (.mat 35 (oi 305 13) .int y8.2.1)),(oi 305 13,some (.pool 3 .int y8.2.1)),(oi 176 3,none),(oi 177 3,some (.pool 3 .int [])),(oi 224 7,none),(oi 224 7,some (.pool 3 .int []))] [(oi 0 0,oi 176 3),(oi 1 0,oi 177 3),(oi 2 0,oi 224 7),(oi 3 0,oi 224 7)] [ai a0,oS 176 3 y4.length,ai a2,oS 224 7 y4.length] (caps:=[]) trivial (K9 h8 rfl List.length_replicate.symm) K6 ⟨by kernel_rfl,⟨by kernel_rfl,⟨by kernel_rfl,⟨by kernel_rfl,trivial⟩⟩⟩⟩ (.cons (.ren (by kernel_rfl)) (.cons (.ren (by kernel_rfl)) (.cons (.ren (by kernel_rfl)) (.cons (.ren (by kernel_rfl)) .nil)))) (A4 (by kernel_rfl) (by kernel_rfl) ⟨A0 (by kernel_rfl),⟨Dc (o:=oi 176 3) (p:=oi 177 3) (e1:=35) (m:=y4.length) (u:=.int) (xss:=y4) (A0 (by kernel_rfl)) (by kernel_rfl),⟨A0 (by kernel_rfl),⟨Dc (o:=oi 224 7) (p:=oi 224 7) (e1:=35) (m:=(List.replicate y4.length ([]:List Int)).length) (u:=.int) (xss:=List.replicate y4.length ([]:List Int)) (A0 (by kernel_rfl)) (by kernel_rfl),trivial⟩⟩⟩⟩) (rsB 1 (As (tn_ (wr_ (Ab ?_)))))));obtain ⟨g12,h⟩:=Ao h;refine Aa 20 (rsB 3 (rs2 (oS 23 18 y8.2.2) (oi 176 3) (oi 23 18) (.vec 35 1 y8.2.2 ((hdL (oi 304 13) .int y8.1).take y8.2.2)) (Akh (t:=sI) (len:=y4.length) (kh:=.i64) (km:=.i64) (h:=(y8.2.2:Int)) (m:=(y8.2.2:Int)) (j:=y8.2.2) (i:=oi 176 3) (N:=y8.1.length) (e:=35) (cs:=hdL (oi 304 13) .int y8.1) (by kernel_rfl) (by kernel_rfl) (by kernel_rfl) (by kernel_rfl) rfl g12 rfl (by have z_:y4.length=y8.1.length:=g9.symm; omega)) (rsB 1 (As (tn_ ⟨_,Af9 (e1:=35) (e:=3) (u:=.int) (xss:=y8.1) (k:=y8.2.2) 9000 (oi 23 18) (oi 304 13) (by kernel_rfl) (by kernel_rfl) (by kernel_rfl) (by have z_:y4.length=y8.1.length:=g9.symm; omega) (by kernel_rfl) (by kernel_rfl),Ak ?_⟩)))));obtain rfl:=zj h;exact Dw [oS 0 1 ((y8.1.take y8.2.2).length)] ((Bk 6 (oS 23 18 y8.2.2) (oS 23 18 ((y8.1.take y8.2.2).length)) (by kernel_rfl) (congrArg (fun z_=>((oS 23 18 z_):AV)) ((Vl (by have z_:y4.length=y8.1.length:=g9.symm; omega)):y8.2.2=(y8.1.take y8.2.2).length))).trans (Ac (tl:=[(6,oS 0 1 (y8.1.take y8.2.2).length)]) (g:=2) [(oi 0 1,oi 23 18),(oi 1 1,oi 9000 20)]))
def Ye:AC :=
 (.seq (rg [⟨some 2,none,.makeA 88 (.pair .int (.pair .int (.pair .int (.pair .int (.pair .int (.pair .int (.pair .int (.pair .int (.pair .int (.pair .int (.pair .int (.pair .int (.pair .int (.pair .int (.pair .int (.pair .int (.pair .int (.pair .int (.pair .int (.pair .int (.pair .int (.pair .int (.pair .int (.pair .int (.pair .int (.pair .int (.pair .int (.pair .int (.pair .int (.pair .int (.pair .int (.pair .int (.pair .int (.pair .int (.pair .int (.pair .int (.pair .int (.pair .int (.pair .int (.pair .int (.pair .int (.pair .int (.pair .int T5)))))))))))))))))))))))))))))))))))))))))))⟩])
 (.seq (rg [xo 4 (.build [.int .i64 0,.int .i64 0,.int .i64 0,.int .i64 0,.int .i64 0,.int .i64 0,.int .i64 0,.int .i64 0,.int .i64 0,.int .i64 0,.int .i64 0,.int .i64 0,.int .i64 0,.int .i64 0,.int .i64 0,.int .i64 0,.int .i64 0,.int .i64 0,.int .i64 0,.int .i64 0,.int .i64 0,.int .i64 0,.int .i64 0,.int .i64 0,.int .i64 0,.int .i64 0,.int .i64 0,.int .i64 0,.int .i64 0,.int .i64 0,.int .i64 0,.int .i64 0,.int .i64 0,.int .i64 0,.int .i64 0,.int .i64 0,.int .i64 0,.int .i64 0,.int .i64 0,.int .i64 0,.int .i64 0,.int .i64 0,.int .i64 0,.int .i64 0,.int .i64 0,.int .i64 0,.int .i64 0,.int .i64 0] []),⟨some 3,none,.makeA 88 (.pair .int (.pair .int (.pair .int (.pair .int (.pair .int (.pair .int (.pair .int (.pair .int (.pair .int (.pair .int (.pair .int (.pair .int (.pair .int (.pair .int (.pair .int (.pair .int (.pair .int (.pair .int (.pair .int (.pair .int (.pair .int (.pair .int (.pair .int (.pair .int (.pair .int (.pair .int (.pair .int (.pair .int (.pair .int (.pair .int (.pair .int (.pair .int (.pair .int (.pair .int (.pair .int (.pair .int (.pair .int (.pair .int (.pair .int (.pair .int (.pair .int (.pair .int (.pair .int T5)))))))))))))))))))))))))))))))))))))))))))⟩,xn (.st false 48 (tm 3) (tm 4))])
 (.seq (rg [xo 5 (.slA 48 (tm 3)),xm 6 0,xo 7 (.copy (tm 5) (tm 6))])
 (.seq (rg [xo 8 (.i (.ld false 48 (tm 3))),xn (.st false 48 (tm 2) (tm 8))])
 .ret))))
def Agh:List Res:=[.cell 2 false 48]
theorem Ag6:Aq Tryd.prog Tryd.f79=some (Ye,Agh):=by kernel_rfl
theorem Aea:A5 Tryd.prog 79=true:=by kernel_rfl
def Jq (a0:List Int):Option (List Int) :=
 some (a0.take 48++(List.replicate 48 0).drop (a0.take 48).length)
def Ae9 (r:List Int):RV:=⟨false,[(true,((tyA 47).av (E7 47 r)).map .sc)]⟩
theorem Ux {a0 r:List Int} (h:Jq a0=some r):A6 Tryd.prog Tab 79 [tI a0] (Ae9 r):=by
 refine A1 (by kernel_rfl) Tryd.func79 Ag6 (n:=9) (by kernel_rfl) (by simp) rfl ?_;unfold Ye;unfold Jq at h;refine Am (Am (Ab (Aa 8 (rsl (.sla (oi 3 3) 0 48) (Aqs (N:=47) (i:=oi 3 3) (j:=0) (e:=88) (xs:=[E7 47 (List.replicate 48 0)]) (by kernel_rfl) (by kernel_rfl) (by kernel_rfl)) (rsB 1 (rs2 (an ((a0.take 48).length)) (oi 3 3) (oi 3 3) (.arr 88 (tyA 47) [E7 47 (a0.take 48++(List.replicate 48 0).drop (a0.take 48).length)]) (Aov (N:=47) (i:=oi 3 3) (e:=88) (l:=List.replicate 48 0) (ys:=a0) (zs:=a0.take 48++(List.replicate 48 0).drop (a0.take 48).length) (by kernel_rfl) Acz (by kernel_rfl) (by kernel_rfl) (by simp) rfl) (As (tn_ (wr_ (Ab (Aa 10 (rsl (.agg ((tyA 47).av (E7 47 (a0.take 48++(List.replicate 48 0).drop (a0.take 48).length)))) (Aqp (N:=47) (ty:=88) (i:=oi 3 3) (e:=0) (l:=a0.take 48++(List.replicate 48 0).drop (a0.take 48).length) (xs:=[E7 47 (a0.take 48++(List.replicate 48 0).drop (a0.take 48).length)]) (by kernel_rfl) (by kernel_rfl) rfl rfl) (Ami (oi 2 1) (oi 2 1) (.arr 88 (tyA 47) [E7 47 (a0.take 48++(List.replicate 48 0).drop (a0.take 48).length)]) (Aqw (N:=47) (ty:=88) (i:=oi 2 1) (e:=0) (l:=List.replicate 48 0) (l2:=a0.take 48++(List.replicate 48 0).drop (a0.take 48).length) (xs:=[E7 47 (List.replicate 48 0)]) (by kernel_rfl) (by kernel_rfl) rfl rfl (by kernel_rfl) rfl) (As (tn_ (wr_ (Ak ?_)))))))))))))))));obtain rfl:=zj h;exact Bm [.agg ((tyA 47).av (E7 47 (a0.take 48++(List.replicate 48 0).drop (a0.take 48).length)))] (Aqt (Ao7 47 (a0.take 48++(List.replicate 48 0).drop (a0.take 48).length)) A7)
def I5:AC :=
 (.seq (rg [xs1 26 25 24])
 (.seq (.cond (tm 26)
  .skip
  (.exit 0))
 (.seq (.block 1 (.seq (rg [xm 27 25,xx 28 1 23 25,xl 29 28,xm 7 27,xm 8 29])
 (.seq (.region [xm 30 8,xo 31 (qc 79 [tm 30] [[some .int]]),xm 32 1,xm 33 7,xx 34 1 32 33,xl 35 34,xo 36 (qc 79 [tm 35] [[some .int]]),xo 37 (.i (.cmp true 51 (tm 31) (tm 36)))] true [(1,5)])
 (.cond (tm 37)
  (.seq (rg [xo 6 (qm (cb false))])
  .ret)
  .skip))))
 (rg [xa 38 25,xm 25 38]))))
def Lt:AC :=
 (.seq (rg [xo 6 (qm (cb false))])
 (.seq (.seq (rg [xm 9 1,xn1 10 9,xm 11 2,xo 12 (qb .gtr (tm 10) (tm 11)),xm 13 12,⟨some 14,some (13,false),qm (tm 0)⟩,⟨some 15,some (13,false),qm (tm 1)⟩,⟨some 16,some (13,false),qm (tm 2)⟩,⟨some 17,some (13,false),qc 67 [tm 14,tm 15,tm 16] [[],[some sI],[]]⟩,⟨some 18,some (13,false),.i (.not (tm 17))⟩,xo 19 (.i (.pick (tm 13) (cb true) (tm 18)))])
 (.cond (tm 19)
  (.seq (rg [xo 6 (qm (cb false))])
  .ret)
  .skip))
 (.seq (.seq (rg [xm 20 0,xm 21 1,xm 22 2,xo 23 (qc 78 [tm 20,tm 21,tm 22] [[],[some sI],[]]),xn1 24 23,xo 25 (qm (ci 0))])
 (.block 0 (.loop I5)))
 (.seq (rg [xm 39 0,xm 40 1,xm 41 2,xo 42 (qc 78 [tm 39,tm 40,tm 41] [[],[some sI],[]]),xn1 43 42,xm 44 1,xn1 45 44,xo 46 (qb .eql (tm 43) (tm 45)),xm 6 46])
 .ret))))
def T4:List Res:=[.tmp 6]
theorem Tm:Aq Tryd.prog Tryd.f57=some (Lt,T4):=by kernel_rfl
theorem Re:A5 Tryd.prog 57=true:=by kernel_rfl
def C2 (y10 a1:LL) (u0:Nat):Option (Ctl Nat (Ctl Unit Bool)) :=
 cond (decide ((u0:Int)<(y10.length:Int)))
 ((y10[u0]?).bind fun x17 =>
 (Jq x17).bind fun y19 =>
 (a1[u0]?).bind fun x20 =>
 (Jq x20).bind fun y21 =>
 og (y19.length=47+1∧y21.length=47+1) <|
 cond (!(y19==y21))
  (some (Ctl.out (Ctl.out false)))
  (og (u0+1<4611686018427387904) <|
  some (Ctl.next (u0+1))))
 (some (Ctl.out (Ctl.next ())))
def Ex (a0:Int) (a1:LL) (a2:Int):Option Bool :=
 (cond (decide (a2<(a1.length:Int)))
  (some true)
  ((Dz a0 a1 a2).bind fun y5 =>
  some (!y5))).bind fun u0 =>
cond u0
 (some false)
 (Lk ((Em a0 a1 a2).bind fun y10 =>
  Ay (fun s_:Nat=>C2 y10 a1 s_) 4611686018427387904 0) fun _ =>
 (Em a0 a1 a2).bind fun y27 =>
 some ((y27.length:Int)==(a1.length:Int)))
def Rn (r:Bool):RV:=⟨false,[(false,[.sc (.bool r)])]⟩
theorem Ri {a0:Int} {a1:LL} {a2:Int} {r:Bool} (h:Ex a0 a1 a2=some r):A6 Tryd.prog Tab 57 [ai a0,tS a1,ai a2] (Rn r):=by
 refine A1 (by kernel_rfl) Tryd.func57 Tm (n:=47) (by kernel_rfl) (by simp) rfl ?_;unfold Lt;unfold Ex at h;refine Am (Ab (Av h (fun (u1:Bool) S_=>S_=⟨Al [(0,ai a0),(1,tS a1),(2,ai a2),(19,.bool u1)],Ah (Ap []),2⟩) ?_ ?_))
 ·intro v_ h;rcases Ad h with ⟨q4,h⟩ | ⟨q4,h⟩
  ·have q4_:=of_decide_eq_true q4;refine Aa 13 (rsB 5 (zs q4 (zs q4 (zs q4 (zs q4 (zs q4 (rs0 (.bool true) (zT q4) (As (tn_ ?_)))))))));obtain rfl:=zj h;exact ⟨_,Ac [],rfl⟩
  have q4_:=of_decide_eq_false q4;obtain ⟨y5,h5,h⟩:=Ag h;refine Aa 13 (rsB 5 (rs0 (ai a0) (zg q4) (rs0 (tS a1) (zg q4) (rs0 (ai a2) (zg q4) (Fe (.bool y5) [] [ai a0,tS a1,ai a2] _ (caps:=[]) (args0:=[ai a0,tS a1,ai a2]) (Ed (by kernel_rfl) q4) (by kernel_rfl) (Qt h5) Q2 (rs0 (.bool (!y5)) (zg q4) (rs0 (.bool (!y5)) (zF q4) (As (tn_ ?_)))))))));obtain rfl:=zj h;exact ⟨_,Ac [],rfl⟩
 rintro u1 _ rfl h
 (try dsimp only at h);rcases Ad h with ⟨q6,h⟩ | ⟨q6,h⟩
 ·refine Ae q6 (Am (Ak (tr_ ?_)));obtain rfl:=zj h;exact Bm [.bool false] (A8 rfl zl A7)
 refine Af q6 (Aj (tn_ (wr_ (Cp h (fun (_:Unit) S_=>S_=⟨Al [(0,ai a0),(1,tS a1),(2,ai a2)],Ah (Ap []),2⟩) ?_ ?_))))
 ·intro v_ h hk8;refine Ab ?_;obtain ⟨y10,h10,h⟩:=Ag h;refine Aa 8 (rsB 3 (Cr (oS 368 5 y10.length) [(oi 368 5,some (.mat 35 (oi 369 5) .int y10)),(oi 369 5,some (.pool 3 .int y10))] [] [ai a0,tS a1,ai a2] (caps:=[]) trivial (Nk h10) Nd trivial (.cons (.ren (by kernel_rfl)) (.cons (.ren (by kernel_rfl)) (.cons (.ren (by kernel_rfl)) .nil))) (A4 (by kernel_rfl) (by kernel_rfl) trivial) (rsB 2 (As (tn_ (wr_ (Ai (Ax h (fun (u0:Nat) S_=>S_=⟨Al [(0,ai a0),(1,tS a1),(2,ai a2),(23,oS 0 1 y10.length),(24,an y10.length),(25,an u0)],Ah (Ap [(oi 0 1,.mat 35 (oi 1 1) .int y10),(oi 1 1,.pool 3 .int y10)]),2⟩) ⟨_,Ac [(oi 0 1,oi 368 5),(oi 1 1,oi 369 5)],rfl⟩ ?_))))))));rintro n_ u0 _ c_ rfl h hn11
  (try dsimp only at h);unfold C2 at h;unfold I5;refine Am (Ab ?_);rcases Ad h with ⟨q14,h⟩ | ⟨q14,h⟩
  ·have q14_:=of_decide_eq_true q14;refine Ae q14 (Aj (tn_ (wr_ (Ab (Ai (Ab ?_))))));obtain ⟨x17,e17,h⟩:=Ag h;refine Aa 8 (rsB 1 (zO (oi 0 1) sI y10.length (Au e17) (rsl (.own (kid (oi 1 1) u0) .int 0 x17.length) (E0 (o:=oi 0 1) (p:=oi 1 1) (e1:=35) (u:=.int) (xss:=y10) (row:=x17) (j:=u0) (by kernel_rfl) (by kernel_rfl) e17) (rsB 2 (As (tn_ (wr_ (Ab ?_))))))));obtain ⟨y19,h19,h⟩:=Ag h;obtain ⟨x20,e20,h⟩:=Ag h;obtain ⟨y21,h21,h⟩:=Ag h;obtain ⟨g22,h⟩:=Ao h;refine Bb 16 (dz0 (.own (kid (oi 1 1) u0) .int 0 x17.length) (Nl (.agg ((tyA 47).av (E7 47 y19))) [] [.own (kid (oi 1 1) u0) .int 0 x17.length] _ (caps:=[]) (args0:=[tI x17]) trivial (Bi (Qo (e:=3) (u:=.int) (xs:=x17) ((M6 (Xb (t:=.int) (off:=0) (len:=x17.length) 0 rfl (by kernel_rfl))).trans (Bg (by kernel_rfl) e17)) rfl) Fl) (Ux h19) Aea (dz0 (tS a1) (dz0 (an u0) (dzI sI e20 (dz0 (tI x20) (dzc (.agg ((tyA 47).av (E7 47 y21))) [] [tI x20] (Ux h21) (ds0 (.bool (!(y19==y21))) (Ap2 (N:=47) (l:=y19) (l':=y21) (by kernel_rfl) (by kernel_rfl) g22) (Lz (Bv (by kernel_rfl)) (tn_ (wr_ ?_)))))))))));rcases Ad h with ⟨q23,h⟩ | ⟨q23,h⟩
   ·refine Ae q23 (Am (Ak (br_ (tr_ (tr_ (br_ (tr_ ?_)))))));obtain rfl:=zj h;have h:=hn11
    (try dsimp only at h);obtain rfl:=zj h;have h:=hk8
    (try dsimp only at h);obtain rfl:=zj h;exact Bm [.bool false] (A8 rfl zl A7)
   refine Af q23 (Aj (bn_ (tn_ (wr_ ?_))));obtain ⟨g25,h⟩:=Ao h;refine Aa 18 (zA g25 (rsB 1 (As (tn_ ?_))));obtain rfl:=zj h;exact ⟨u0+1,_,Ac [],rfl,hn11⟩
  have q14_:=of_decide_eq_false q14;refine Af q14 (Aw (te_ (te_ (be_ (tn_ ?_)))));obtain rfl:=zj h;have h:=hn11
  (try dsimp only at h);obtain rfl:=zj h;exact ⟨(),_,rfl,Ac [],rfl⟩
 rintro _ _ rfl h
 (try dsimp only at h);refine Ab ?_;obtain ⟨y27,h27,h⟩:=Ag h;refine Aa 11 (rsB 3 (Cr (oS 672 5 y27.length) [(oi 672 5,some (.mat 35 (oi 673 5) .int y27)),(oi 673 5,some (.pool 3 .int y27))] [] [ai a0,tS a1,ai a2] (caps:=[]) trivial (Nk h27) Nd trivial (.cons (.ren (by kernel_rfl)) (.cons (.ren (by kernel_rfl)) (.cons (.ren (by kernel_rfl)) .nil))) (A4 (by kernel_rfl) (by kernel_rfl) trivial) (rsB 5 (As (tn_ (wr_ (Ak ?_)))))));obtain rfl:=zj h;exact Bm [.bool ((y27.length:Int)==(a1.length:Int))] (A8 rfl zl A7)
def Lb:AC :=
 (.seq (rg [xo 3 (.i (.box 28 (tm 1))),xo 4 (qm (cb false))])
 (.seq (rg [xm 5 0,xo 6 (qc 55 [tm 5] [[]]),xm 7 6,⟨some 8,some (7,true),qf 0 (tm 3)⟩,⟨some 9,some (7,true),ql (tm 8)⟩,⟨some 10,some (7,true),qf 1 (tm 3)⟩,⟨some 11,some (7,true),ql (tm 10)⟩,⟨some 12,some (7,true),qc 56 [tm 9,tm 11] [[],[]]⟩,xo 13 (.i (.pick (tm 7) (tm 12) (cb false))),xm 14 13,⟨some 15,some (14,true),qm (tm 0)⟩,⟨some 16,some (14,true),qf 2 (tm 3)⟩,⟨some 17,some (14,true),ql (tm 16)⟩,⟨some 18,some (14,true),qf 0 (tm 3)⟩,⟨some 19,some (14,true),ql (tm 18)⟩,⟨some 20,some (14,true),qf 1 (tm 3)⟩,⟨some 21,some (14,true),ql (tm 20)⟩,⟨some 22,some (14,true),qb .add (tm 19) (tm 21)⟩,⟨some 23,some (14,true),qc 57 [tm 15,tm 17,tm 22] [[],[some sI],[]]⟩,xo 24 (.i (.pick (tm 14) (tm 23) (cb false))),xm 4 24])
 .ret))
def Sf:List Res:=[.tmp 4]
theorem Si:Aq Tryd.prog Tryd.f30=some (Lb,Sf):=by kernel_rfl
def D9 (a0 u0 u1:Int) (u2:LL):Option Bool :=
 ((Kh a0).bind fun y3 =>
 cond y3
  ((Id u0 u1).bind fun y5 =>
  cond y5
   ((Ex a0 u2 (wI (u0+u1))).bind fun y7 =>
   some y7)
   (some false))
  (some false)).bind fun u3 =>
some u3
def Qj (r:Bool):RV:=⟨false,[(false,[.sc (.bool r)])]⟩
theorem J9 {a0 u0 u1:Int} {u2:LL} {r:Bool} (h:D9 a0 u0 u1 u2=some r):A6 Tryd.prog Tab 30 [ai a0,.agg [ai u0,ai u1,tS u2]] (Qj r):=by
 refine A1 (by kernel_rfl) Tryd.func30 Si (n:=25) (by kernel_rfl) (by simp) rfl ?_;unfold Lb;unfold D9 at h;refine Am (Av h (fun (u3:Bool) S_=>S_=⟨Al [(4,.bool u3)],Ah (Ap []),2⟩) ?_ ?_)
 ·intro v_ h;obtain ⟨y3,h3,h⟩:=Ag h;rcases Ad h with ⟨q4,h⟩ | ⟨q4,h⟩
  ·obtain ⟨y5,h5,h⟩:=Ag h;rcases Ad h with ⟨q6,h⟩ | ⟨q6,h⟩
   ·obtain ⟨y7,h7,h⟩:=Ag h;refine Aa 24 (rsB 1 (zc (.bool y3) [] [ai a0] (It h3) (rsB 1 (rs0 (.box (oi 3 1) 0) (zg q4) (rsl (ai u0) (zg q4) (rs0 (.box (oi 3 1) 1) (zg q4) (rsl (ai u1) (zg q4) (Fe (.bool y5) [] [ai u0,ai u1] _ (caps:=[]) (args0:=[ai u0,ai u1]) (Ed (by kernel_rfl) q4) (by kernel_rfl) (Rf h5) Rp (rs0 (.bool y5) (zT q4) (rsB 1 (rs0 (ai a0) (zg q6) (rs0 (.box (oi 3 1) 2) (zg q6) (rsl (tS u2) (zg q6) (rs0 (.box (oi 3 1) 0) (zg q6) (rsl (ai u0) (zg q6) (rs0 (.box (oi 3 1) 1) (zg q6) (rsl (ai u1) (zg q6) (rs0 (ai (wI (u0+u1))) (zg q6) (Fe (.bool y7) [] [ai a0,tS u2,ai (wI (u0+u1))] _ (caps:=[]) (args0:=[ai a0,tS u2,ai (wI (u0+u1))]) (Ed (by kernel_rfl) q6) (by kernel_rfl) (Ri h7) Re (rs0 (.bool y7) (zT q6) (rsB 1 (As (tn_ ?_)))))))))))))))))))))));obtain rfl:=zj h;exact ⟨_,Ac [],rfl⟩
   refine Aa 24 (rsB 1 (zc (.bool y3) [] [ai a0] (It h3) (rsB 1 (rs0 (.box (oi 3 1) 0) (zg q4) (rsl (ai u0) (zg q4) (rs0 (.box (oi 3 1) 1) (zg q4) (rsl (ai u1) (zg q4) (Fe (.bool y5) [] [ai u0,ai u1] _ (caps:=[]) (args0:=[ai u0,ai u1]) (Ed (by kernel_rfl) q4) (by kernel_rfl) (Rf h5) Rp (rs0 (.bool y5) (zT q4) (rsB 1 (zs q6 (zs q6 (zs q6 (zs q6 (zs q6 (zs q6 (zs q6 (zs q6 (zs q6 (rs0 (.bool false) (zF q6) (rsB 1 (As (tn_ ?_)))))))))))))))))))))));obtain rfl:=zj h;exact ⟨_,Ac [],rfl⟩
  refine Aa 24 (rsB 1 (zc (.bool y3) [] [ai a0] (It h3) (rsB 1 (zs q4 (zs q4 (zs q4 (zs q4 (zs q4 (rs0 (.bool false) (zF q4) (rsB 12 (As (tn_ ?_))))))))))));obtain rfl:=zj h;exact ⟨_,Ac [],rfl⟩
 rintro u3 _ rfl h
 (try dsimp only at h);refine Ak ?_;obtain rfl:=zj h;exact Bm [.bool u3] (A8 rfl zl A7)
def Ik:AC :=
 (.seq (rg [xo 1 (.i (.box 28 (tm 0))),xo 2 (qm (ci 0))])
 (.seq (rg [xf 3 0 1,xl 4 3,xf 5 1 1,xl 6 5,xo 7 (qb .add (tm 4) (tm 6)),xm 2 7])
 .ret))
def Oe:List Res:=[.tmp 2]
theorem Of:Aq Tryd.prog Tryd.f31=some (Ik,Oe):=by kernel_rfl
theorem Hq:A5 Tryd.prog 31=true:=by kernel_rfl
def Bu (u0 u1:Int) (u2:LL):Option Int :=
 some (wI (u0+u1))
def Nn (r:Int):RV:=⟨false,[(false,[.sc (.int .i64 r)])]⟩
theorem Fj {u0 u1:Int} {u2:LL} {r:Int} (h:Bu u0 u1 u2=some r):A6 Tryd.prog Tab 31 [.agg [ai u0,ai u1,tS u2]] (Nn r):=by
 refine A1 (by kernel_rfl) Tryd.func31 Of (n:=8) (by kernel_rfl) (by simp) rfl ?_;unfold Ik;unfold Bu at h;refine Am (Am (Ak ?_));obtain rfl:=zj h;exact Bm [ai (wI (u0+u1))] (A8 rfl zl A7)
end

section
open Go.RowKit Go.Deep
set_option maxRecDepth 4000
def Mn:AC :=
 (.seq (.seq (rg [xm 7 6,xm 8 1,xs1 9 7 8])
 (.cond (tm 9)
  .skip
  (.exit 0)))
 (.seq (.block 1 (.seq (rg [xm 12 0,xm 13 6,xo 14 (qc 64 [tm 12,tm 13] [[some .int],[]]),xo 15 (.i (.not (tm 14)))])
 (.cond (tm 15)
  (rg [xm 16 5,xm 17 6,xo 18 (.mkS 3 .int [tm 17]),xo 19 (.append 3 .int 8 (tm 16) (tm 18)),xm 5 19])
  .skip)))
 (rg [xm 10 6,xa 11 10,xm 6 11])))
def P1:AC :=
 (.seq (rg [xo 4 (qm (.cst .nils))])
 (.seq (rg [xo 5 (qm (.cst .nils))])
 (.seq (.seq (rg [xo 6 (qm (ci 0))])
 (.block 0 (.loop Mn)))
 (.seq (rg [xm 20 5,xm 4 20])
 .ret))))
def Aaa:List Res:=[.tmp 4]
theorem Zo:Aq Tryd.prog Tryd.f38=some (P1,Aaa):=by kernel_rfl
def Ek (a1:Int) (a0:List Int) (u0:Nat) (u1:List Int):Option (Ctl (Nat×List Int) (List Int)) :=
 cond (decide ((u0:Int)<a1))
 (((He a0 (u0:Int)).bind fun y11 =>
  cond (!y11)
   (og (u1.length+1<=1073741824∧(u1.length+1)*8<=140737488355328) <|
   some (u1++([(u0:Int)])))
   (some u1)).bind fun u2 =>
 og (u0+1<4611686018427387904) <|
 some (Ctl.next (u0+1,u2)))
 (some (Ctl.out u1))
def Gi (a0:List Int) (a1:Int):Option (List Int) :=
 (Ay (fun s_:Nat×List Int=>Ek a1 a0 s_.1 s_.2) 4611686018427387904 (0,[])).bind fun u0 =>
some u0
def Xz (r:List Int):RV:=⟨false,[(false,[.new 3 .int r])]⟩
theorem V7 {a0:List Int} {a1:Int} {r:List Int} (h:Gi a0 a1=some r):A6 Tryd.prog Tab 38 [tI a0,ai a1] (Xz r):=by
 refine A1 (by kernel_rfl) Tryd.func38 Zo (n:=21) (by kernel_rfl) (by simp) rfl ?_;unfold P1;unfold Gi at h;refine Am (Am (Av h (fun (u3:List Int) S_=>S_=⟨Al [(5,oI 0 1 u3.length)],Ah (Ap [(oi 0 1,.arr 3 .int u3)]),2⟩) ?_ ?_))
 ·intro v_ h;refine Am (Ai (Ax h (fun t_ S_=>∃ (u0:Nat),∃ (u1:List Int),t_=(u0,u1)∧S_=⟨Al [(0,tI a0),(1,ai a1),(5,oI 0 1 u1.length),(6,an u0)],Ah (Ap [(oi 0 1,.arr 3 .int u1)]),2⟩) ⟨_,(Aat 5 3 .int rfl (by kernel_rfl)).trans (Ac [(oi 0 1,oi 5 4)]),⟨0,[],rfl,rfl⟩⟩ ?_));rintro n_ _ _ c_ ⟨u0,u1,rfl,rfl⟩ h hn5
  (try dsimp only at h);unfold Ek at h;unfold Mn;refine Ab (Am ?_);rcases Ad h with ⟨q8,h⟩ | ⟨q8,h⟩
  ·have q8_:=of_decide_eq_true q8;refine Ae q8 (Aj (tn_ (wr_ (Av h (fun (u2:List Int) S_=>S_=⟨Al [(0,tI a0),(1,ai a1),(5,oI 0 1 u2.length),(6,an u0)],Ah (Ap [(oi 0 1,.arr 3 .int u2)]),2⟩) ?_ ?_))))
   ·intro v_ h;refine Ai (Ab ?_);obtain ⟨y11,h11,h⟩:=Ag h;refine Aa 9 (rsB 2 (zc (.bool y11) [] [tI a0,an u0] (Z4 h11) (rsB 1 (As (tn_ (wr_ ?_))))));rcases Ad h with ⟨q12,h⟩ | ⟨q12,h⟩
    ·refine Ae q12 ?_;obtain ⟨g13,h⟩:=Ao h;refine Aa 14 (rsB 3 (zB (oi 0 1) (oi 18 11) u1 ((u0:Int)) g13 (rsB 1 (As (bn_ (tn_ ?_))))));obtain rfl:=zj h;exact ⟨_,Ac [(oi 0 1,oi 0 12)],rfl⟩
    refine Af q12 (Aj (bn_ (tn_ ?_)));obtain rfl:=zj h;exact ⟨_,Ac [],rfl⟩
   rintro u2 _ rfl h
   (try dsimp only at h);obtain ⟨g14,h⟩:=Ao h;refine Aa 5 (rsB 1 (zA g14 (rsB 1 (As (tn_ ?_)))));obtain rfl:=zj h;exact ⟨(u0+1,u2),_,Ac [],⟨u0+1,u2,rfl,rfl⟩,hn5⟩
  have q8_:=of_decide_eq_false q8;refine Af q8 (Aw (te_ (te_ (be_ (tn_ ?_)))));obtain rfl:=zj h;have h:=hn5
  (try dsimp only at h);obtain rfl:=zj h;exact ⟨_,Ac [],rfl⟩
 rintro u3 _ rfl h
 (try dsimp only at h);refine Am (Ak ?_);obtain rfl:=zj h;exact Bm [oI 0 1 u3.length] (A8 rfl (Ut (by kernel_rfl) rfl) A7)
def Lv:AC :=
 (.seq (.seq (rg [xm 4 3,xm 5 0,xn1 6 5,xs1 7 4 6,xm 8 7,⟨some 9,some (8,true),qm (tm 0)⟩,⟨some 10,some (8,true),qm (tm 3)⟩,⟨some 11,some (8,true),qx 1 (tm 9) (tm 10)⟩,⟨some 12,some (8,true),ql (tm 11)⟩,⟨some 13,some (8,true),qb .eql (tm 12) (ci 0)⟩,xo 14 (.i (.pick (tm 8) (tm 13) (cb false)))])
 (.cond (tm 14)
  .skip
  (.exit 0)))
 (.block 1 (rg [xm 15 3,xa 16 15,xm 3 16])))
def Pt:AC :=
 (.seq (rg [xo 2 (qm (ci 0))])
 (.seq (rg [xo 3 (qm (ci 0))])
 (.seq (.block 0 (.loop Lv))
 (.seq (rg [xm 17 3,xm 2 17])
 .ret))))
def Zx:List Res:=[.tmp 2]
theorem Z1:Aq Tryd.prog Tryd.f66=some (Pt,Zx):=by kernel_rfl
theorem Yh:A5 Tryd.prog 66=true:=by kernel_rfl
def En (a0:List Int) (u0:Nat):Option (Ctl Nat Nat) :=
 (cond (decide ((u0:Int)<(a0.length:Int)))
  ((a0[u0]?).bind fun x8 =>
  some (x8==0))
  (some false)).bind fun u1 =>
cond u1
 (og (u0+1<4611686018427387904) <|
 some (Ctl.next (u0+1)))
 (some (Ctl.out u0))
def Gl (a0:List Int):Option Int :=
 (Ay (fun s_:Nat=>En a0 s_) 4611686018427387904 0).bind fun u0 =>
some (u0:Int)
def Ww (r:Int):RV:=⟨false,[(false,[.sc (.int .i64 r)])]⟩
theorem W7 {a0:List Int} {r:Int} (h:Gl a0=some r):A6 Tryd.prog Tab 66 [tI a0] (Ww r):=by
 refine A1 (by kernel_rfl) Tryd.func66 Z1 (n:=18) (by kernel_rfl) (by simp) rfl ?_;unfold Pt;unfold Gl at h;refine Am (Am (Av h (fun (u1:Nat) S_=>S_=⟨Al [(3,an u1)],Ah (Ap []),2⟩) ?_ ?_))
 ·intro v_ h;refine Ai (Ax h (fun (u0:Nat) S_=>S_=⟨Al [(0,tI a0),(3,an u0)],Ah (Ap []),2⟩) ⟨_,Ac [],rfl⟩ ?_);rintro n_ u0 _ c_ rfl h hn4
  (try dsimp only at h);unfold En at h;unfold Lv;refine Ab (Av h (fun (u2:Bool) S_=>S_=⟨Al [(0,tI a0),(3,an u0),(14,.bool u2)],Ah (Ap []),2⟩) ?_ ?_)
  ·intro v_ h;rcases Ad h with ⟨q7,h⟩ | ⟨q7,h⟩
   ·have q7_:=of_decide_eq_true q7;obtain ⟨x8,e8,h⟩:=Ag h;refine Aa 13 (rsB 5 (rs0 (tI a0) (zg q7) (rs0 (an u0) (zg q7) (rs0 (.telt none .int x8 0) (Nv (by kernel_rfl) q7 (zi (t:=.int) (xs:=a0) (k:=.i64) (m:=(u0:Int)) (C6 _) e8)) (rs0 (ai x8) (zg q7) (rs0 (.bool (x8==0)) (zg q7) (rs0 (.bool (x8==0)) (zT q7) (As (tn_ ?_)))))))));obtain rfl:=zj h;exact ⟨_,Ac [],rfl⟩
   have q7_:=of_decide_eq_false q7;refine Aa 13 (rsB 5 (zs q7 (zs q7 (zs q7 (zs q7 (zs q7 (rs0 (.bool false) (zF q7) (As (tn_ ?_)))))))));obtain rfl:=zj h;exact ⟨_,Ac [],rfl⟩
  rintro u2 _ rfl h
  (try dsimp only at h);rcases Ad h with ⟨q9,h⟩ | ⟨q9,h⟩
  ·refine Ae q9 (Aj (tn_ (wr_ (Ai ?_))));obtain ⟨g10,h⟩:=Ao h;refine Aa 5 (rsB 1 (zA g10 (rsB 1 (As (bn_ (tn_ ?_))))));obtain rfl:=zj h;exact ⟨u0+1,_,Ac [],rfl,hn4⟩
  refine Af q9 (Aw (te_ (te_ (be_ (tn_ ?_)))));obtain rfl:=zj h;have h:=hn4
  (try dsimp only at h);obtain rfl:=zj h;exact ⟨_,Ac [],rfl⟩
 rintro u1 _ rfl h
 (try dsimp only at h);refine Am (Ak ?_);obtain rfl:=zj h;exact Bm [an u1] (A8 rfl zl A7)
def Ig:AC :=
 (.seq (rg [xs1 66 65 64])
 (.seq (.cond (tm 66)
  .skip
  (.exit 4))
 (.seq (.block 5 (.seq (rg [xm 67 65,xx 68 1 63 65,xl 69 68,xm 18 67,xm 19 69])
 (.seq (.seq (rg [xm 70 19,xo 71 (qc 66 [tm 70] [[some .int]]),xm 72 18,xo 73 (qb .neq (tm 71) (tm 72))])
 (.cond (tm 73)
  (.seq (rg [xo 74 (.build [.int .i64 0,.nils] []),xn (.st false 2 (tm 8) (tm 74)),xo 9 (qm (cb false))])
  .ret)
  .skip))
 (.region [xf 75 1 17,xl 76 75,xm 77 19,xm 78 3,xn1 79 78,xo 80 (.slice 1 (tm 77) (some (tm 79)) none none),xo 81 (qc 54 [tm 80] [[some .int]]),xo 82 (.mkV 35 sI 1 [tm 81]),xo 83 (.appV 35 sI 24 (tm 76) (tm 82)),xf 84 1 17,xn (qs (tm 84) (tm 83))] true [(1,6),(1,7)]))))
 (rg [xa 85 65,xm 65 85]))))
def Io:AC :=
 (.seq (rg [xs1 41 40 39])
 (.seq (.cond (tm 41)
  .skip
  (.exit 2))
 (.seq (.block 3 (.seq (rg [xx 42 1 38 40,xl 43 42,xm 16 43])
 (rg [xm 44 14,xm 45 13,xm 46 16,xx 47 1 45 46,xl 48 47,xo 49 (.mkS 3 .int [tm 48]),xo 50 (.append 3 .int 8 (tm 44) (tm 49)),xm 14 50])))
 (rg [xa 51 40,xm 40 51]))))
def H6:AC :=
 (.seq (rg [xs1 32 31 30])
 (.seq (.cond (tm 32)
  .skip
  (.exit 0))
 (.seq (.block 1 (.seq (rg [xx 33 1 29 31,xl 34 33,xm 13 34])
 (.seq (rg [xo 14 (qm (.cst .nils))])
 (.seq (.seq (rg [xm 35 3,xo 36 (qc 54 [tm 35] [[some .int]]),xm 37 10,xo 38 (.append 3 .int 8 (tm 36) (tm 37)),xn1 39 38,xo 40 (qm (ci 0))])
 (.block 2 (.loop Io)))
 (rg [xm 52 11,xm 53 14,xo 54 (.mkV 35 sI 1 [tm 53]),xo 55 (.appV 35 sI 24 (tm 52) (tm 54)),xm 11 55])))))
 (rg [xa 56 31,xm 31 56]))))
def Le:AC :=
 (.seq (rg [xo 8 (.i (.alloc 39 [.int .i64 0,.nils])),xo 9 (qm (cb false))])
 (.seq (.seq (rg [xm 20 3,xn1 21 20,xm 22 2,xn1 23 22,xo 24 (qb .neq (tm 21) (tm 23))])
 (.cond (tm 24)
  (.seq (rg [xo 25 (.build [.int .i64 0,.nils] []),xn (.st false 2 (tm 8) (tm 25)),xo 9 (qm (cb false))])
  .ret)
  .skip))
 (.seq (rg [xm 26 3,xm 27 1,xo 28 (qc 38 [tm 26,tm 27] [[some .int],[]]),xm 10 28])
 (.seq (rg [xo 11 (qm (.cst .nils))])
 (.seq (.seq (rg [xm 29 2,xn1 30 29,xo 31 (qm (ci 0))])
 (.block 0 (.loop H6)))
 (.seq (rg [xm 57 10,xn1 58 57,xo 59 (.build [.int .i64 0,.nils] [(0,1,tm 58)]),xo 17 (.i (.alloc 39 [.int .i64 0,.nils])),xn (.st false 2 (tm 17) (tm 59))])
 (.seq (.seq (rg [xm 60 0,xm 61 1,xm 62 11,xo 63 (qc 65 [tm 60,tm 61,tm 62] [[],[],[some sI]]),xn1 64 63,xo 65 (qm (ci 0))])
 (.block 4 (.loop Ig)))
 (.seq (rg [xo 86 (.i (.ld false 2 (tm 17))),xn (.st false 2 (tm 8) (tm 86)),xo 9 (qm (cb true))])
 .ret))))))))
def Rr:List Res:=[.cell 8 false 2,.tmp 9]
theorem Rw:Aq Tryd.prog Tryd.f41=some (Le,Rr):=by kernel_rfl
theorem Q5:A5 Tryd.prog 41=true:=by kernel_rfl
def B7 (y22 y8 x18:List Int) (u0:Nat) (u1:List Int):Option (Ctl (Nat×List Int) (List Int)) :=
 cond (decide ((u0:Int)<(((y22++y8).length:Nat):Int)))
 (((y22++y8)[u0]?).bind fun x30 =>
 (Tu x18 x30).bind fun x31 =>
 og (u1.length+1<=1073741824∧(u1.length+1)*8<=140737488355328) <|
 og (u0+1<4611686018427387904) <|
 some (Ctl.next (u0+1,u1++([x31]))))
 (some (Ctl.out u1))
def B5 (a2:LL) (a3 y8:List Int) (u0:Nat) (u1:LL):Option (Ctl (Nat×LL) (LL)) :=
 cond (decide ((u0:Int)<(a2.length:Int)))
 (((a2[u0]?).bind fun x18 =>
  ((D4 a3).bind fun y22 =>
   og (y22.length+y8.length<=1073741824∧(y22.length+y8.length)*8<=140737488355328) <|
   Ay (fun s_:Nat×List Int=>B7 y22 y8 x18 s_.1 s_.2) 4611686018427387904 (0,[])).bind fun u2 =>
  og (u1.length+1<=1073741824∧(u1.length+1)*24<=140737488355328) <|
  some (u1++[u2])).bind fun u3 =>
 og (u0+1<4611686018427387904) <|
 some (Ctl.next (u0+1,u3)))
 (some (Ctl.out u1))
def Bo (y39:LL) (a3:List Int) (u0:Nat) (u1:LL):Option (Ctl (Nat×LL) (Ctl (LL) (Bool×Nat×LL))) :=
 cond (decide ((u0:Int)<(y39.length:Int)))
 ((y39[u0]?).bind fun x46 =>
 (Gl x46).bind fun y49 =>
 cond (y49 !=(u0:Int))
  (some (Ctl.out (Ctl.out (false,0,([]:LL)))))
  (og ((0:Int)<=(a3.length:Int)∧(a3.length:Int)<=(x46.length:Int)∧(x46.length:Int)<=(x46.length:Int)) <|
  (D4 (x46.drop a3.length)).bind fun y53 =>
  og (u1.length+1<=1073741824∧(u1.length+1)*24<=140737488355328) <|
  og (u0+1<4611686018427387904) <|
  some (Ctl.next (u0+1,u1++[y53]))))
 (some (Ctl.out (Ctl.next u1)))
def D6 (a0 a1:Int) (a2:LL) (a3:List Int):Option (Bool×Nat×LL) :=
 cond ((a3.length:Int) !=(a2.length:Int))
 (some (false,0,([]:LL)))
 ((Gi a3 a1).bind fun y8 =>
 (Ay (fun s_:Nat×LL=>B5 a2 a3 y8 s_.1 s_.2) 4611686018427387904 (0,([]:LL))).bind fun u0 =>
 Lk ((Dx a0 a1 u0).bind fun y39 =>
  Ay (fun s_:Nat×LL=>Bo y39 a3 s_.1 s_.2) 4611686018427387904 (0,([]:LL))) fun u1 =>
 some (true,y8.length,u1))
theorem Qz {a0 a1:Int} {a2:LL} {a3:List Int} {r:Bool×Nat×LL} (h:D6 a0 a1 a2 a3=some r):Dd Tryd.prog Tab 41 [ai a0,ai a1,tS a2,tI a3] [] (.tup [.agg [an r.2.1,oS 1 1 r.2.2.length],.bool r.1]) [(oi 0 1,.cells 39 [an r.2.1,oS 1 1 r.2.2.length]),(oi 1 1,.mat 35 (oi 2 1) .int r.2.2),(oi 2 1,.pool 3 .int r.2.2)]:=by
 refine Cd (by kernel_rfl) Tryd.func41 Rw (n:=87) (by kernel_rfl) (by simp) rfl (by kernel_rfl) trivial ⟨trivial,⟨⟨3,.tail _ (.tail _ (.head _))⟩,⟨trivial,trivial⟩⟩⟩ ?_;unfold Le;unfold D6 at h;refine Am (Ab (Am ?_));rcases Ad h with ⟨q5,h⟩ | ⟨q5,h⟩
 ·refine Ae q5 (Am (Ak (tr_ ?_)));obtain rfl:=zj h;exact Dw [.agg [an (0),oS 1 1 ((([]:LL)).length)],.bool false] ((Iq 9000 (oi 8 1) 1 39 [ai 0,.nils] [ai 0,oS 9000 11 0] 35 sI (by kernel_rfl) (by kernel_rfl) (by kernel_rfl)).trans ((Dt (e1:=35) (n:=0) 9000 (oi 9000 11) 3 .int (by kernel_rfl) (by kernel_rfl) rfl (by kernel_rfl) (by kernel_rfl)).trans (Ac (tl:=[(8,.box (oi 0 1) 0),(9,.bool false)]) (g:=2) [(oi 0 1,oi 8 1),(oi 1 1,oi 9000 11),(oi 2 1,oi 9000 12)])))
 refine Af q5 (Aj (tn_ (wr_ (Ab ?_))));obtain ⟨y8,h8,h⟩:=Ag h;refine Aa 12 (rsB 2 (zc (oI 448 10 y8.length) [nI 448 10 y8] [tI a3,ai a1] (V7 h8) (rsB 1 (As (tn_ (wr_ (Am (Av h (fun (u7:LL) S_=>S_=⟨Al [(0,ai a0),(1,ai a1),(3,tI a3),(8,.box (oi 0 1) 0),(10,oI 1 1 y8.length),(11,oS 2 1 u7.length)],Ah (Ap [(oi 0 1,.cells 39 [ai 0,.nils]),(oi 1 1,.arr 3 .int y8),(oi 2 1,.mat 35 (oi 3 1) .int u7),(oi 3 1,.pool 3 .int u7)]),2⟩) ?_ ?_))))))))
 ·intro v_ h;refine Am (Ai (Ax h (fun t_ S_=>∃ (u4:Nat),∃ (u0:LL),t_=(u4,u0)∧S_=⟨Al [(0,ai a0),(1,ai a1),(3,tI a3),(8,.box (oi 0 1) 0),(10,oI 1 1 y8.length),(11,oS 2 1 u0.length),(29,tS a2),(30,an a2.length),(31,an u4)],Ah (Ap [(oi 0 1,.cells 39 [ai 0,.nils]),(oi 1 1,.arr 3 .int y8),(oi 2 1,.mat 35 (oi 3 1) .int u0),(oi 3 1,.pool 3 .int u0)]),2⟩) ⟨_,(Hs 11 35 sI (by kernel_rfl)).trans ((Dt (e1:=35) (n:=0) 9000 (oi 11 16) 3 .int (by kernel_rfl) (by kernel_rfl) rfl (by kernel_rfl) (by kernel_rfl)).trans (Ac [(oi 0 1,oi 8 1),(oi 1 1,oi 448 10),(oi 2 1,oi 11 16),(oi 3 1,oi 9000 17)])),⟨0,([]:LL),rfl,rfl⟩⟩ ?_));rintro n_ _ _ c_ ⟨u4,u0,rfl,rfl⟩ h hn12
  (try dsimp only at h);unfold B5 at h;unfold H6;refine Am (Ab ?_);rcases Ad h with ⟨q15,h⟩ | ⟨q15,h⟩
  ·have q15_:=of_decide_eq_true q15;refine Ae q15 (Aj (tn_ (wr_ (Av h (fun (u8:LL) S_=>S_=⟨Al [(0,ai a0),(1,ai a1),(3,tI a3),(8,.box (oi 0 1) 0),(10,oI 1 1 y8.length),(11,oS 2 1 u8.length),(29,tS a2),(30,an a2.length),(31,an u4)],Ah (Ap [(oi 0 1,.cells 39 [ai 0,.nils]),(oi 1 1,.arr 3 .int y8),(oi 2 1,.mat 35 (oi 3 1) .int u8),(oi 3 1,.pool 3 .int u8)]),2⟩) ?_ ?_))))
   ·intro v_ h;refine Ai (Ab ?_);obtain ⟨x18,e18,h⟩:=Ag h;refine Aa 6 (zI sI e18 (rsB 2 (As (tn_ (wr_ (Am (Av h (fun (u3:List Int) S_=>S_=⟨Al [(0,ai a0),(1,ai a1),(3,tI a3),(8,.box (oi 0 1) 0),(10,oI 1 1 y8.length),(11,oS 2 1 u0.length),(14,oI 4 1 u3.length),(29,tS a2),(30,an a2.length),(31,an u4)],Ah (Ap [(oi 0 1,.cells 39 [ai 0,.nils]),(oi 1 1,.arr 3 .int y8),(oi 2 1,.mat 35 (oi 3 1) .int u0),(oi 3 1,.pool 3 .int u0),(oi 4 1,.arr 3 .int u3)]),2⟩) ?_ ?_)))))))
    ·intro v_ h;refine Ab ?_;obtain ⟨y22,h22,h⟩:=Ag h;obtain ⟨g23,h⟩:=Ao h;refine Aa 13 (rsB 1 (zc (oI 576 8 y22.length) [nI 576 8 y22] [tI a3] (H1 h22) (rsB 1 (rs2 (oI 576 10 ((y22++y8).length)) (oi 576 8) (oi 576 10) (.arr 3 .int (y22++y8)) (Abj (t:=.int) (t':=.int) (xs:=y22) (ys:=y8) (zs:=y22++y8) (j:=oi 576 8) (len:=y22.length) (c:=oI 1 1 y8.length) (by kernel_rfl) (by kernel_rfl) rfl (by kernel_rfl) (Ahm (e:=3) (by kernel_rfl) rfl) rfl g23) (rsB 2 (As (tn_ (wr_ (Ai (Ax h (fun t_ S_=>∃ (u5:Nat),∃ (u6:List Int),t_=(u5,u6)∧S_=⟨Al [(0,ai a0),(1,ai a1),(3,tI a3),(8,.box (oi 0 1) 0),(10,oI 1 1 y8.length),(11,oS 2 1 u0.length),(13,tI x18),(14,oI 4 1 u6.length),(29,tS a2),(30,an a2.length),(31,an u4),(38,oI 5 1 ((y22++y8).length)),(39,an ((y22++y8).length)),(40,an u5)],Ah (Ap [(oi 0 1,.cells 39 [ai 0,.nils]),(oi 1 1,.arr 3 .int y8),(oi 2 1,.mat 35 (oi 3 1) .int u0),(oi 3 1,.pool 3 .int u0),(oi 4 1,.arr 3 .int u6),(oi 5 1,.arr 3 .int (y22++y8))]),2⟩) ⟨_,(Aat 14 3 .int rfl (by kernel_rfl)).trans (Ac [(oi 4 1,oi 14 13),(oi 5 1,oi 576 10)]),⟨0,[],rfl,rfl⟩⟩ ?_))))))))));rintro n_ _ _ c_ ⟨u5,u6,rfl,rfl⟩ h hn24
     (try dsimp only at h);unfold B7 at h;unfold Io;refine Am (Ab ?_);rcases Ad h with ⟨q27,h⟩ | ⟨q27,h⟩
     ·have q27_:=of_decide_eq_true q27;refine Ae q27 (Aj (tn_ (wr_ (Ab (Ai (Ab ?_))))));obtain ⟨x30,e30,h⟩:=Ag h;refine Aa 6 (rs0 (.elt (oi 5 1) u5 0) (zo (t:=.int) (o:=oi 5 1) (len:=(y22++y8).length) (k:=.i64) (m:=(u5:Int)) (C6 _) (Au e30)) (zE (oi 5 1) e30 (rsB 1 (As (tn_ (wr_ ?_))))));obtain ⟨x31,f31,h⟩:=Ag h;obtain ⟨p31,b31,e31⟩:=Ga f31;obtain ⟨g32,h⟩:=Ao h;refine Aa 14 (rsB 3 (rs0 (.telt none .int x31 0) (zi (t:=.int) (xs:=x18) (k:=.i64) (m:=x30) p31 e31) (rsB 2 (zB (oi 4 1) (oi 49 11) u6 (x31) g32 (rsB 1 (As (bn_ (tn_ (wr_ ?_)))))))));obtain ⟨g33,h⟩:=Ao h;refine Aa 16 (zA g33 (rsB 1 (As (tn_ ?_))));obtain rfl:=zj h;exact ⟨(u5+1,u6++([x31])),_,Ac [(oi 4 1,oi 4 12)],⟨u5+1,u6++([x31]),rfl,rfl⟩,hn24⟩
     have q27_:=of_decide_eq_false q27;refine Af q27 (Aw (te_ (te_ (be_ (tn_ ?_)))));obtain rfl:=zj h;have h:=hn24
     (try dsimp only at h);obtain rfl:=zj h;exact ⟨_,Ac [],rfl⟩
    rintro u3 _ rfl h
    (try dsimp only at h);obtain ⟨g34,h⟩:=Ao h;refine Aa 7 (rsB 2 (Aab (oS 54 4 1) (oi 54 4) (.vec 35 1 1 ([oI 4 1 u3.length])) trivial (On (by kernel_rfl)) (zV (oi 2 1) (oi 54 4) (oi 3 1) u0 [oI 4 1 u3.length] g34 (rsB 1 (As (bn_ (tn_ ?_)))))));obtain rfl:=zj h;exact ⟨_,(Hz (e1:=35) (e:=3) (u:=.int) (n:=u0.length+1) (len:=u3.length) (row:=u3) (ys:=u3) (xss:=u0) 9000 (oi 2 5) (oi 3 1) (oi 4 1) (by kernel_rfl) (by kernel_rfl) rfl (by kernel_rfl) (by kernel_rfl) (Sm rfl) (Sn rfl) (by kernel_rfl) (by kernel_rfl) (by kernel_rfl)).trans ((Bk 11 (oS 2 5 (u0.length+1)) (oS 2 5 ((u0++[u3]).length)) (by kernel_rfl) (congrArg (fun z_=>((oS 2 5 z_):AV)) ((by simp):u0.length+1=(u0++[u3]).length))).trans (Ac [(oi 2 1,oi 2 5),(oi 3 1,oi 9000 7)])),rfl⟩
   rintro u8 _ rfl h
   (try dsimp only at h);obtain ⟨g35,h⟩:=Ao h;refine Aa 4 (zA g35 (rsB 1 (As (tn_ ?_))));obtain rfl:=zj h;exact ⟨(u4+1,u8),_,Ac [],⟨u4+1,u8,rfl,rfl⟩,hn12⟩
  have q15_:=of_decide_eq_false q15;refine Af q15 (Aw (te_ (te_ (be_ (tn_ ?_)))));obtain rfl:=zj h;have h:=hn12
  (try dsimp only at h);obtain rfl:=zj h;exact ⟨_,Ac [],rfl⟩
 rintro u7 _ rfl h
 (try dsimp only at h);refine Am (Cp h (fun (u9:LL) S_=>S_=⟨Al [(8,.box (oi 0 1) 0),(17,.box (oi 1 1) 0)],Ah (Ap [(oi 0 1,.cells 39 [ai 0,.nils]),(oi 1 1,.cells 39 [an y8.length,oS 2 1 u9.length]),(oi 2 1,.mat 35 (oi 3 1) .int u9),(oi 3 1,.pool 3 .int u9)]),2⟩) ?_ ?_)
 ·intro v_ h hk37;refine Ab ?_;obtain ⟨y39,h39,h⟩:=Ag h;refine Aa 13 (rsB 3 (Cr (oS 1008 10 y39.length) [(oi 1008 10,some (.mat 35 (oi 1009 10) .int y39)),(oi 1009 10,some (.pool 3 .int y39))] [] [ai a0,ai a1,oS 2 1 u7.length] (caps:=[]) trivial (Md h39) L7 trivial (.cons (.ren (by kernel_rfl)) (.cons (.ren (by kernel_rfl)) (.cons (.gnd (by kernel_rfl) (Fq (p:=oi 3 1) (e1:=35) (e:=3) (u:=.int) (xss:=u7) ((My (by kernel_rfl) (by kernel_rfl) (by kernel_rfl)).trans (by kernel_rfl)) (S7 (by kernel_rfl) (by kernel_rfl) (Cj (by kernel_rfl)) (by kernel_rfl)) rfl)) .nil))) (A4 (by kernel_rfl) (by kernel_rfl) trivial) (rsB 2 (As (tn_ (wr_ (Ai (Ax h (fun t_ S_=>∃ (u2:Nat),∃ (u1:LL),t_=(u2,u1)∧S_=⟨Al [(3,tI a3),(8,.box (oi 0 1) 0),(17,.box (oi 1 1) 0),(63,oS 2 1 y39.length),(64,an y39.length),(65,an u2)],Ah (Ap [(oi 0 1,.cells 39 [ai 0,.nils]),(oi 1 1,.cells 39 [an y8.length,oS 4 1 u1.length]),(oi 2 1,.mat 35 (oi 3 1) .int y39),(oi 3 1,.pool 3 .int y39),(oi 4 1,.mat 35 (oi 5 1) .int u1),(oi 5 1,.pool 3 .int u1)]),2⟩) ⟨_,(Iq 9000 (oi 17 5) 1 39 [an y8.length,.nils] [an y8.length,oS 9000 13 0] 35 sI (by kernel_rfl) (by kernel_rfl) (by kernel_rfl)).trans ((Dt (e1:=35) (n:=0) 9000 (oi 9000 13) 3 .int (by kernel_rfl) (by kernel_rfl) rfl (by kernel_rfl) (by kernel_rfl)).trans (Ac [(oi 1 1,oi 17 5),(oi 4 1,oi 9000 13),(oi 5 1,oi 9000 14),(oi 2 1,oi 1008 10),(oi 3 1,oi 1009 10)])),⟨0,([]:LL),rfl,rfl⟩⟩ ?_))))))));rintro n_ _ _ c_ ⟨u2,u1,rfl,rfl⟩ h hn40
  (try dsimp only at h);unfold Bo at h;unfold Ig;refine Am (Ab ?_);rcases Ad h with ⟨q43,h⟩ | ⟨q43,h⟩
  ·have q43_:=of_decide_eq_true q43;refine Ae q43 (Aj (tn_ (wr_ (Ab (Ai (Ab ?_))))));obtain ⟨x46,e46,h⟩:=Ag h;refine Aa 8 (rsB 1 (zO (oi 2 1) sI y39.length (Au e46) (rsl (.own (kid (oi 3 1) u2) .int 0 x46.length) (E0 (o:=oi 2 1) (p:=oi 3 1) (e1:=35) (u:=.int) (xss:=y39) (row:=x46) (j:=u2) (by kernel_rfl) (by kernel_rfl) e46) (rsB 2 (As (tn_ (wr_ (Ab (Ab ?_)))))))));obtain ⟨y49,h49,h⟩:=Ag h;refine Aa 12 (rsB 1 (Fe (ai y49) [] [.own (kid (oi 3 1) u2) .int 0 x46.length] _ (caps:=[]) (args0:=[tI x46]) trivial (Bi (Qo (e:=3) (u:=.int) (xs:=x46) (Bg (by kernel_rfl) e46) rfl) Fl) (W7 h49) Yh (rsB 2 (As (tn_ (wr_ ?_))))));rcases Ad h with ⟨q50,h⟩ | ⟨q50,h⟩
   ·refine Ae q50 (Am (Ak (tr_ (br_ (tr_ (tr_ (br_ (tr_ ?_))))))));obtain rfl:=zj h;have h:=hn40
    (try dsimp only at h);obtain rfl:=zj h;have h:=hk37
    (try dsimp only at h);obtain rfl:=zj h;exact Dw [.agg [an (0),oS 1 1 ((([]:LL)).length)],.bool false] ((Iq 9000 (oi 0 1) 1 39 [ai 0,.nils] [ai 0,oS 9000 15 0] 35 sI (by kernel_rfl) (by kernel_rfl) (by kernel_rfl)).trans ((Dt (e1:=35) (n:=0) 9000 (oi 9000 15) 3 .int (by kernel_rfl) (by kernel_rfl) rfl (by kernel_rfl) (by kernel_rfl)).trans (Ac (tl:=[(8,.box (oi 0 1) 0),(9,.bool false)]) (g:=2) [(oi 1 1,oi 9000 15),(oi 2 1,oi 9000 16)])))
   refine Af q50 (Aj (tn_ (wr_ ?_)));obtain ⟨g52,h⟩:=Ao h;obtain ⟨y53,h53,h⟩:=Ag h;obtain ⟨g54,h⟩:=Ao h;refine Bb 23 (dz0 (.box (oi 1 1) 1) (dzl (oS 4 1 u1.length) (dz0 (.own (kid (oi 3 1) u2) .int 0 x46.length) (dz0 (tI a3) (dz0 (an a3.length) (ds0 (.own (kid (oi 3 1) u2) .int a3.length (x46.length - a3.length)) (Yf (t:=.int) (i:=kid (oi 3 1) u2) (off:=0) (len:=x46.length) (l:=(a3.length:Int)) (h:=(x46.length:Int)) (by kernel_rfl) (by kernel_rfl) (by kernel_rfl) rfl g52 (Nat.zero_add _) (by omega)) (Nl (oI 1296 18 y53.length) [nI 1296 18 y53] [.own (kid (oi 3 1) u2) .int a3.length (x46.length - a3.length)] _ (caps:=[]) (args0:=[tI (x46.drop a3.length)]) trivial (Bi (Apu (e:=3) (u:=.int) (xs:=x46) ((M6 (Xb (t:=.int) (off:=a3.length) (len:=x46.length - a3.length) 0 rfl (by kernel_rfl))).trans (Bg (by kernel_rfl) e46)) (by omega) (by rw [List.take_of_length_le (by rw [List.length_drop]; omega)])) Fl) (H1 h53) Qc (Aq7 (oS 82 19 1) (oi 82 19) (.vec 35 1 1 ([oI 1296 18 y53.length])) trivial (On (by kernel_rfl)) (dzV (oi 4 1) (oi 82 19) (oi 5 1) u1 [oI 1296 18 y53.length] g54 (dz0 (.box (oi 1 1) 1) (Aji (oi 1 1) (oi 1 1) (.cells 39 [an y8.length,oS 4 20 (u1.length+1)]) (by kernel_rfl) (Lz (Bv (by kernel_rfl)) (bn_ (tn_ ⟨_,Hz (e1:=35) (e:=3) (u:=.int) (n:=u1.length+1) (len:=y53.length) (row:=y53) (ys:=y53) (xss:=u1) 9000 (oi 4 20) (oi 5 1) (oi 1296 18) (by kernel_rfl) (by kernel_rfl) rfl (by kernel_rfl) (by kernel_rfl) (Sm rfl) (Sn rfl) (by kernel_rfl) (by kernel_rfl) (by kernel_rfl),?_⟩))))))))))))));obtain ⟨g55,h⟩:=Ao h;refine Aa 26 (zA g55 (rsB 1 (As (tn_ ?_))));obtain rfl:=zj h;exact ⟨(u2+1,u1++[y53]),_,(Kl (oi 1 1) (.cells 39 [an y8.length,oS 4 20 (u1.length+1)]) (.cells 39 [an y8.length,oS 4 20 ((u1++[y53]).length)]) (by kernel_rfl) (congrArg (fun z_=>(.cells 39 [an y8.length,oS 4 20 z_]:Ob)) ((by simp):u1.length+1=(u1++[y53]).length))).trans (Ac [(oi 4 1,oi 4 20),(oi 5 1,oi 9000 23)]),⟨u2+1,u1++[y53],rfl,rfl⟩,hn40⟩
  have q43_:=of_decide_eq_false q43;refine Af q43 (Aw (te_ (te_ (be_ (tn_ ?_)))));obtain rfl:=zj h;have h:=hn40
  (try dsimp only at h);obtain rfl:=zj h;exact ⟨u1,_,rfl,Ac [(oi 2 1,oi 4 1),(oi 3 1,oi 5 1)],rfl⟩
 rintro u9 _ rfl h
 (try dsimp only at h);refine Am (Ak ?_);obtain rfl:=zj h;exact Dw [.agg [an y8.length,oS 1 1 u9.length],.bool true] (Ac (tl:=[(8,.box (oi 0 1) 0),(9,.bool true)]) (g:=2) [(oi 1 1,oi 2 1),(oi 2 1,oi 3 1)])
def Iu:AC :=
 (.seq (rg [xs1 12 11 10])
 (.seq (.cond (tm 12)
  .skip
  (.exit 0))
 (.seq (.block 1 (.seq (rg [xx 13 1 9 11,xl 14 13,xm 7 14])
 (rg [xm 15 5,xm 16 7,xm 17 1,xo 18 (qc 51 [tm 16,tm 17] [[some .int],[some .int]]),xo 19 (.mkV 35 sI 1 [tm 18]),xo 20 (.appV 35 sI 24 (tm 15) (tm 19)),xm 5 20])))
 (rg [xa 21 11,xm 11 21]))))
def Lr:AC :=
 (.seq (rg [xo 4 (qm (.cst .nils))])
 (.seq (rg [xo 8 (.mkV 35 sI 1 []),xm 5 8])
 (.seq (.seq (rg [xm 9 0,xn1 10 9,xo 11 (qm (ci 0))])
 (.block 0 (.loop Iu)))
 (.seq (rg [xm 22 5,xm 4 22])
 .ret))))
def Tx:List Res:=[.tmp 4]
theorem Tq:Aq Tryd.prog Tryd.f59=some (Lr,Tx):=by kernel_rfl
theorem K4:A5 Tryd.prog 59=true:=by kernel_rfl
def Cb (a0:LL) (a1:List Int) (u0:Nat) (u1:LL):Option (Ctl (Nat×LL) (LL)) :=
 cond (decide ((u0:Int)<(a0.length:Int)))
 ((a0[u0]?).bind fun x12 =>
 (Gz x12 a1).bind fun y13 =>
 og (u1.length+1<=1073741824∧(u1.length+1)*24<=140737488355328) <|
 og (u0+1<4611686018427387904) <|
 some (Ctl.next (u0+1,u1++[y13])))
 (some (Ctl.out u1))
def Dk (a0:LL) (a1:List Int):Option (LL) :=
 (Ay (fun s_:Nat×LL=>Cb a0 a1 s_.1 s_.2) 4611686018427387904 (0,([]:LL))).bind fun u0 =>
some u0
theorem K7 {a0:LL} {a1:List Int} {r:LL} (h:Dk a0 a1=some r):Dd Tryd.prog Tab 59 [tS a0,tI a1] [] (oS 0 1 r.length) [(oi 0 1,.mat 35 (oi 1 1) .int r),(oi 1 1,.pool 3 .int r)]:=by
 refine Cd (by kernel_rfl) Tryd.func59 Tq (n:=23) (by kernel_rfl) (by simp) rfl (by kernel_rfl) trivial ⟨⟨3,.tail _ (.head _)⟩,⟨trivial,trivial⟩⟩ ?_;unfold Lr;unfold Dk at h;refine Am (Ab (Aa 4 (Aab (oS 8 2 0) (oi 8 2) (.vec 35 1 0 []) trivial (On (by kernel_rfl)) (rsB 1 (As (tn_ ⟨_,Dt (e1:=35) (n:=0) 9000 (oi 8 2) 3 .int (by kernel_rfl) (by kernel_rfl) rfl (by kernel_rfl) (by kernel_rfl),Av h (fun (u1:LL) S_=>S_=⟨Al [(5,oS 0 1 u1.length)],Ah (Ap [(oi 0 1,.mat 35 (oi 1 1) .int u1),(oi 1 1,.pool 3 .int u1)]),2⟩) ?_ ?_⟩))))))
 ·intro v_ h;refine Am (Ai (Ax h (fun t_ S_=>∃ (u2:Nat),∃ (u0:LL),t_=(u2,u0)∧S_=⟨Al [(1,tI a1),(5,oS 0 1 u0.length),(9,tS a0),(10,an a0.length),(11,an u2)],Ah (Ap [(oi 0 1,.mat 35 (oi 1 1) .int u0),(oi 1 1,.pool 3 .int u0)]),2⟩) ⟨_,Ac [(oi 0 1,oi 8 2),(oi 1 1,oi 9000 4)],⟨0,([]:LL),rfl,rfl⟩⟩ ?_));rintro n_ _ _ c_ ⟨u2,u0,rfl,rfl⟩ h hn6
  (try dsimp only at h);unfold Cb at h;unfold Iu;refine Am (Ab ?_);rcases Ad h with ⟨q9,h⟩ | ⟨q9,h⟩
  ·have q9_:=of_decide_eq_true q9;refine Ae q9 (Aj (tn_ (wr_ (Ab (Ai (Ab ?_))))));obtain ⟨x12,e12,h⟩:=Ag h;refine Aa 6 (zI sI e12 (rsB 2 (As (tn_ (wr_ ?_)))));obtain ⟨y13,h13,h⟩:=Ag h;obtain ⟨g14,h⟩:=Ao h;refine Aa 13 (rsB 3 (zc (oI 288 9 y13.length) [nI 288 9 y13] [tI x12,tI a1] (V6 h13) (Aab (oS 19 10 1) (oi 19 10) (.vec 35 1 1 ([oI 288 9 y13.length])) trivial (On (by kernel_rfl)) (zV (oi 0 1) (oi 19 10) (oi 1 1) u0 [oI 288 9 y13.length] g14 (rsB 1 (As (bn_ (tn_ ⟨_,Hz (e1:=35) (e:=3) (u:=.int) (n:=u0.length+1) (len:=y13.length) (row:=y13) (ys:=y13) (xss:=u0) 9000 (oi 0 11) (oi 1 1) (oi 288 9) (by kernel_rfl) (by kernel_rfl) rfl (by kernel_rfl) (by kernel_rfl) (Sm rfl) (Sn rfl) (by kernel_rfl) (by kernel_rfl) (by kernel_rfl),?_⟩))))))));obtain ⟨g15,h⟩:=Ao h;refine Aa 16 (zA g15 (rsB 1 (As (tn_ ?_))));obtain rfl:=zj h;exact ⟨(u2+1,u0++[y13]),_,(Bk 5 (oS 0 11 (u0.length+1)) (oS 0 11 ((u0++[y13]).length)) (by kernel_rfl) (congrArg (fun z_=>((oS 0 11 z_):AV)) ((by simp):u0.length+1=(u0++[y13]).length))).trans (Ac [(oi 0 1,oi 0 11),(oi 1 1,oi 9000 13)]),⟨u2+1,u0++[y13],rfl,rfl⟩,hn6⟩
  have q9_:=of_decide_eq_false q9;refine Af q9 (Aw (te_ (te_ (be_ (tn_ ?_)))));obtain rfl:=zj h;have h:=hn6
  (try dsimp only at h);obtain rfl:=zj h;exact ⟨_,Ac [],rfl⟩
 rintro u1 _ rfl h
 (try dsimp only at h);refine Am (Ak ?_);obtain rfl:=zj h;exact Dw [oS 0 1 u1.length] (Ac (tl:=[(4,oS 0 1 u1.length)]) (g:=2) [])
def Gd:AC :=
 (.seq (rg [xs1 9 8 7])
 (.seq (.cond (tm 9)
  .skip
  (.exit 0))
 (.seq (.block 1 (.seq (rg [xm 10 8,xm 5 10])
 (.seq (rg [xm 11 1,xm 12 0,xm 13 5,xx 14 1 12 13,xl 15 14,xo 16 (qb .eql (tm 11) (tm 15))])
 (.cond (tm 16)
  (.seq (rg [xm 17 5,xm 4 17])
  .ret)
  .skip))))
 (rg [xa 18 8,xm 8 18]))))
def Hh:AC :=
 (.seq (rg [xo 4 (qm (ci 0))])
 (.seq (.seq (rg [xm 6 0,xn1 7 6,xo 8 (qm (ci 0))])
 (.block 0 (.loop Gd)))
 (.seq (rg [xo 4 (qm (ci (-1)))])
 .ret)))
def M1:List Res:=[.tmp 4]
theorem Mz:Aq Tryd.prog Tryd.f75=some (Hh,M1):=by kernel_rfl
def Bp (a0:List Int) (a1:Int) (u0:Nat):Option (Ctl Nat (Ctl Unit Int)) :=
 cond (decide ((u0:Int)<(a0.length:Int)))
 ((a0[u0]?).bind fun x11 =>
 cond (a1==x11)
  (some (Ctl.out (Ctl.out (u0:Int))))
  (og (u0+1<4611686018427387904) <|
  some (Ctl.next (u0+1))))
 (some (Ctl.out (Ctl.next ())))
def C7 (a0:List Int) (a1:Int):Option Int :=
 Lk (Ay (fun s_:Nat=>Bp a0 a1 s_) 4611686018427387904 0) fun _ =>
some (-1)
def Lm (r:Int):RV:=⟨false,[(false,[.sc (.int .i64 r)])]⟩
theorem Lx {a0:List Int} {a1 r:Int} (h:C7 a0 a1=some r):A6 Tryd.prog Tab 75 [tI a0,ai a1] (Lm r):=by
 refine A1 (by kernel_rfl) Tryd.func75 Mz (n:=19) (by kernel_rfl) (by simp) rfl ?_;unfold Hh;unfold C7 at h;refine Am (Cp h (fun (_:Unit) S_=>S_=⟨Al [],Ah (Ap []),2⟩) ?_ ?_)
 ·intro v_ h hk2;refine Am (Ai (Ax h (fun (u0:Nat) S_=>S_=⟨Al [(0,tI a0),(1,ai a1),(7,an a0.length),(8,an u0)],Ah (Ap []),2⟩) ⟨_,Ac [],rfl⟩ ?_));rintro n_ u0 _ c_ rfl h hn4
  (try dsimp only at h);unfold Bp at h;unfold Gd;refine Am (Ab ?_);rcases Ad h with ⟨q7,h⟩ | ⟨q7,h⟩
  ·have q7_:=of_decide_eq_true q7;refine Ae q7 (Aj (tn_ (wr_ (Ab (Ai (Am (Ab ?_)))))));obtain ⟨x11,e11,h⟩:=Ag h;refine Aa 11 (rsB 3 (zI .int e11 (rsB 2 (As (tn_ (wr_ ?_))))));rcases Ad h with ⟨q12,h⟩ | ⟨q12,h⟩
   ·refine Ae q12 (Am (Ak (br_ (tr_ (tr_ (br_ (tr_ ?_)))))));obtain rfl:=zj h;have h:=hn4
    (try dsimp only at h);obtain rfl:=zj h;have h:=hk2
    (try dsimp only at h);obtain rfl:=zj h;exact Bm [an u0] (A8 rfl zl A7)
   refine Af q12 (Aj (bn_ (tn_ (wr_ ?_))));obtain ⟨g14,h⟩:=Ao h;refine Aa 13 (zA g14 (rsB 1 (As (tn_ ?_))));obtain rfl:=zj h;exact ⟨u0+1,_,Ac [],rfl,hn4⟩
  have q7_:=of_decide_eq_false q7;refine Af q7 (Aw (te_ (te_ (be_ (tn_ ?_)))));obtain rfl:=zj h;have h:=hn4
  (try dsimp only at h);obtain rfl:=zj h;exact ⟨(),_,rfl,Ac [],rfl⟩
 rintro _ _ rfl h
 (try dsimp only at h);refine Am (Ak ?_);obtain rfl:=zj h;exact Bm [ai (-1)] (A8 rfl zl A7)
def Gc:AC :=
 (.seq (rg [xo 4 (qm (cb false))])
 (.seq (rg [xm 5 0,xm 6 1,xo 7 (qc 75 [tm 5,tm 6] [[some .int],[]]),xo 8 (qb .geq (tm 7) (ci 0)),xm 4 8])
 .ret))
def Ku:List Res:=[.tmp 4]
theorem Ks:Aq Tryd.prog Tryd.f68=some (Gc,Ku):=by kernel_rfl
def Bw (a0:List Int) (a1:Int):Option Bool :=
 (C7 a0 a1).bind fun y3 =>
some (decide (0<=y3))
def Kc (r:Bool):RV:=⟨false,[(false,[.sc (.bool r)])]⟩
theorem J7 {a0:List Int} {a1:Int} {r:Bool} (h:Bw a0 a1=some r):A6 Tryd.prog Tab 68 [tI a0,ai a1] (Kc r):=by
 refine A1 (by kernel_rfl) Tryd.func68 Ks (n:=9) (by kernel_rfl) (by simp) rfl ?_;unfold Gc;unfold Bw at h;refine Am (Ab ?_);obtain ⟨y3,h3,h⟩:=Ag h;refine Aa 7 (rsB 2 (zc (ai y3) [] [tI a0,ai a1] (Lx h3) (rsB 2 (As (tn_ (wr_ (Ak ?_)))))));obtain rfl:=zj h;exact Bm [.bool (decide (0<=y3))] (A8 rfl zl A7)
def Me:AC :=
 (.seq (rg [xs1 12 11 10])
 (.seq (.cond (tm 12)
  .skip
  (.exit 0))
 (.seq (.block 1 (.seq (rg [xx 13 1 9 11,xl 14 13,xm 7 14])
 (.seq (rg [xm 15 1,xm 16 7,xo 17 (qc 68 [tm 15,tm 16] [[some .int],[]]),xo 18 (.i (.not (tm 17)))])
 (.cond (tm 18)
  (rg [xm 19 5,xm 20 7,xo 21 (.mkS 3 .int [tm 20]),xo 22 (.append 3 .int 8 (tm 19) (tm 21)),xm 5 22])
  .skip))))
 (rg [xa 23 11,xm 11 23]))))
def P7:AC :=
 (.seq (rg [xo 4 (qm (.cst .nils))])
 (.seq (rg [xo 8 (.mkS 3 .int []),xm 5 8])
 (.seq (.seq (rg [xm 9 0,xn1 10 9,xo 11 (qm (ci 0))])
 (.block 0 (.loop Me)))
 (.seq (rg [xm 24 5,xm 4 24])
 .ret))))
def Aae:List Res:=[.tmp 4]
theorem Aaf:Aq Tryd.prog Tryd.f45=some (P7,Aae):=by kernel_rfl
theorem Xn:A5 Tryd.prog 45=true:=by kernel_rfl
def Et (a0 a1:List Int) (u1:Nat) (u0:List Int):Option (Ctl (Nat×List Int) (List Int)) :=
 cond (decide ((u1:Int)<(a0.length:Int)))
 (((a0[u1]?).bind fun x11 =>
  (Bw a1 x11).bind fun y13 =>
  cond (!y13)
   (og (u0.length+1<=1073741824∧(u0.length+1)*8<=140737488355328) <|
   some (u0++([x11])))
   (some u0)).bind fun u2 =>
 og (u1+1<4611686018427387904) <|
 some (Ctl.next (u1+1,u2)))
 (some (Ctl.out u0))
def Gv (a0 a1:List Int):Option (List Int) :=
 (Ay (fun s_:Nat×List Int=>Et a0 a1 s_.1 s_.2) 4611686018427387904 (0,[])).bind fun u0 =>
some u0
def Yd (r:List Int):RV:=⟨false,[(false,[.new 3 .int r])]⟩
theorem Vx {a0 a1 r:List Int} (h:Gv a0 a1=some r):A6 Tryd.prog Tab 45 [tI a0,tI a1] (Yd r):=by
 refine A1 (by kernel_rfl) Tryd.func45 Aaf (n:=25) (by kernel_rfl) (by simp) rfl ?_;unfold P7;unfold Gv at h;refine Am (Am (Av h (fun (u3:List Int) S_=>S_=⟨Al [(5,oI 0 1 u3.length)],Ah (Ap [(oi 0 1,.arr 3 .int u3)]),2⟩) ?_ ?_))
 ·intro v_ h;refine Am (Ai (Ax h (fun t_ S_=>∃ (u0:Nat),∃ (u1:List Int),t_=(u0,u1)∧S_=⟨Al [(1,tI a1),(5,oI 0 1 u1.length),(9,tI a0),(10,an a0.length),(11,an u0)],Ah (Ap [(oi 0 1,.arr 3 .int u1)]),2⟩) ⟨_,Ac [(oi 0 1,oi 8 2)],⟨0,[],rfl,rfl⟩⟩ ?_));rintro n_ _ _ c_ ⟨u0,u1,rfl,rfl⟩ h hn5
  (try dsimp only at h);unfold Et at h;unfold Me;refine Am (Ab ?_);rcases Ad h with ⟨q8,h⟩ | ⟨q8,h⟩
  ·have q8_:=of_decide_eq_true q8;refine Ae q8 (Aj (tn_ (wr_ (Av h (fun (u2:List Int) S_=>S_=⟨Al [(1,tI a1),(5,oI 0 1 u2.length),(9,tI a0),(10,an a0.length),(11,an u0)],Ah (Ap [(oi 0 1,.arr 3 .int u2)]),2⟩) ?_ ?_))))
   ·intro v_ h;refine Ai (Ab ?_);obtain ⟨x11,e11,h⟩:=Ag h;refine Aa 6 (zI .int e11 (rsB 2 (As (tn_ (wr_ (Ab ?_))))));obtain ⟨y13,h13,h⟩:=Ag h;refine Aa 10 (rsB 2 (zc (.bool y13) [] [tI a1,ai x11] (J7 h13) (rsB 1 (As (tn_ (wr_ ?_))))));rcases Ad h with ⟨q14,h⟩ | ⟨q14,h⟩
    ·refine Ae q14 ?_;obtain ⟨g15,h⟩:=Ao h;refine Aa 15 (rsB 3 (zB (oi 0 1) (oi 21 12) u1 (x11) g15 (rsB 1 (As (bn_ (tn_ ?_))))));obtain rfl:=zj h;exact ⟨_,Ac [(oi 0 1,oi 0 13)],rfl⟩
    refine Af q14 (Aj (bn_ (tn_ ?_)));obtain rfl:=zj h;exact ⟨_,Ac [],rfl⟩
   rintro u2 _ rfl h
   (try dsimp only at h);obtain ⟨g16,h⟩:=Ao h;refine Aa 4 (zA g16 (rsB 1 (As (tn_ ?_))));obtain rfl:=zj h;exact ⟨(u0+1,u2),_,Ac [],⟨u0+1,u2,rfl,rfl⟩,hn5⟩
  have q8_:=of_decide_eq_false q8;refine Af q8 (Aw (te_ (te_ (be_ (tn_ ?_)))));obtain rfl:=zj h;have h:=hn5
  (try dsimp only at h);obtain rfl:=zj h;exact ⟨_,Ac [],rfl⟩
 rintro u3 _ rfl h
 (try dsimp only at h);refine Am (Ak ?_);obtain rfl:=zj h;exact Bm [oI 0 1 u3.length] (A8 rfl (Ut (by kernel_rfl) rfl) A7)
def Ho:AC :=
 (.seq (rg [xo 8 (qm (.cst .nils)),xo 9 (qm (cb false))])
 (.seq (.seq (rg [xm 12 3,xn1 13 12,xm 14 1,xn1 15 14,xo 16 (qb .neq (tm 13) (tm 15))])
 (.cond (tm 16)
  (.seq (rg [xo 8 (qm (.cst .nils)),xo 9 (qm (cb false))])
  .ret)
  .skip))
 (.seq (rg [xm 17 1,xm 18 3,xo 19 (qc 59 [tm 17,tm 18] [[some sI],[some .int]]),xm 20 1,xm 21 2,xo 22 (qc 46 [tm 21] [[]]),xm 23 3,xo 24 (qc 45 [tm 22,tm 23] [[some .int],[some .int]]),xo 25 (qc 59 [tm 20,tm 24] [[some sI],[some .int]]),xm 10 19,xm 11 25])
 (.seq (.seq (rg [xm 26 0,xm 27 10,xm 28 3,xn1 29 28,xm 30 11,xo 31 (qc 60 [tm 26,tm 27,tm 29,tm 30] [[],[some sI],[],[some sI]]),xm 32 3,xn1 33 32,xs1 34 31 33])
 (.cond (tm 34)
  (.seq (rg [xo 8 (qm (.cst .nils)),xo 9 (qm (cb false))])
  .ret)
  .skip))
 (.seq (rg [xm 35 11,xm 8 35,xo 9 (qm (cb true))])
 .ret)))))
def Ns:List Res:=[.tmp 8,.tmp 9]
theorem Nx:Aq Tryd.prog Tryd.f34=some (Ho,Ns):=by kernel_rfl
theorem M4:A5 Tryd.prog 34=true:=by kernel_rfl
def Ci (a0:Int) (a1:LL) (a2:Int) (a3:List Int):Option (Bool×LL) :=
 cond ((a3.length:Int) !=(a1.length:Int))
 (some (false,([]:LL)))
 ((Dk a1 a3).bind fun y8 =>
 (H9 a2).bind fun y9 =>
 (Gv y9 a3).bind fun y10 =>
 (Dk a1 y10).bind fun y11 =>
 (Di a0 y8 (a3.length:Int) y11).bind fun y14 =>
 og (y14.1.length=y8.length) <|
 og (y14.2.1.length=y11.length) <|
 cond (decide ((y14.2.2:Int)<(a3.length:Int)))
  (some (false,([]:LL)))
  (some (true,y14.2.1)))
theorem Mw {a0:Int} {a1:LL} {a2:Int} {a3:List Int} {r:Bool×LL} (h:Ci a0 a1 a2 a3=some r):Dd Tryd.prog Tab 34 [ai a0,tS a1,ai a2,tI a3] [] (.tup [oS 0 1 r.2.length,.bool r.1]) [(oi 0 1,.mat 35 (oi 1 1) .int r.2),(oi 1 1,.pool 3 .int r.2)]:=by
 refine Cd (by kernel_rfl) Tryd.func34 Nx (n:=36) (by kernel_rfl) (by simp) rfl (by kernel_rfl) trivial ⟨⟨3,.tail _ (.head _)⟩,⟨trivial,trivial⟩⟩ ?_;unfold Ho;unfold Ci at h;refine Am (Ab (Am ?_));rcases Ad h with ⟨q5,h⟩ | ⟨q5,h⟩
 ·refine Ae q5 (Am (Ak (tr_ ?_)));obtain rfl:=zj h;exact Dw [oS 0 1 ((([]:LL)).length),.bool false] ((Hs 8 35 sI (by kernel_rfl)).trans ((Dt (e1:=35) (n:=0) 9000 (oi 8 10) 3 .int (by kernel_rfl) (by kernel_rfl) rfl (by kernel_rfl) (by kernel_rfl)).trans (Ac (tl:=[(8,oS 0 1 (([]:LL)).length),(9,.bool false)]) (g:=2) [(oi 0 1,oi 8 10),(oi 1 1,oi 9000 11)])))
 refine Af q5 (Aj (tn_ (wr_ (Ab ?_))));obtain ⟨y8,h8,h⟩:=Ag h;obtain ⟨y9,h9,h⟩:=Ag h;obtain ⟨y10,h10,h⟩:=Ag h;obtain ⟨y11,h11,h⟩:=Ag h;refine Aa 19 (rsB 2 (Cr (oS 304 10 y8.length) [(oi 304 10,some (.mat 35 (oi 305 10) .int y8)),(oi 305 10,some (.pool 3 .int y8))] [] [tS a1,tI a3] (caps:=[]) trivial (K7 h8) K4 trivial (.cons (.ren (by kernel_rfl)) (.cons (.ren (by kernel_rfl)) .nil)) (A4 (by kernel_rfl) (by kernel_rfl) trivial) (rsB 2 (zc (oI 352 13 y9.length) [nI 352 13 y9] [ai a2] (Abq h9) (rsB 1 (Fe (oI 384 15 y10.length) [nI 384 15 y10] [oI 352 13 y9.length,tI a3] _ (caps:=[]) (args0:=[tI y9,tI a3]) trivial (Bi (Qo (e:=3) (by kernel_rfl) rfl) (Bi (by kernel_rfl) Fl)) (Vx h10) Xn (Cr (oS 400 16 y11.length) [(oi 400 16,some (.mat 35 (oi 401 16) .int y11)),(oi 401 16,some (.pool 3 .int y11))] [] [tS a1,oI 384 15 y10.length] (caps:=[]) trivial (K7 h11) K4 trivial (.cons (.ren (by kernel_rfl)) (.cons (.gnd (by kernel_rfl) (Qo (e:=3) ((My (by kernel_rfl) (by kernel_rfl) (by kernel_rfl)).trans (by kernel_rfl)) rfl)) .nil)) (A4 (by kernel_rfl) (by kernel_rfl) trivial) (rsB 2 (As (tn_ (wr_ (Ab (Ab ?_)))))))))))));obtain ⟨y14,h14,h⟩:=Ag h;obtain ⟨g15,h⟩:=Ao h;obtain ⟨g16,h⟩:=Ao h;refine Aa 28 (rsB 5 (Cr (an y14.2.2) [(oi 304 10,some (.mat 35 (oi 496 24) .int y14.1)),(oi 496 24,some (.pool 3 .int y14.1)),(oi 400 16,some (.mat 35 (oi 497 24) .int y14.2.1)),(oi 497 24,some (.pool 3 .int y14.2.1)),(oi 304 10,none),(oi 305 10,some (.pool 3 .int [])),(oi 400 16,none),(oi 401 16,some (.pool 3 .int []))] [(oi 0 0,oi 304 10),(oi 1 0,oi 305 10),(oi 2 0,oi 400 16),(oi 3 0,oi 401 16)] [ai a0,oS 304 10 y8.length,an a3.length,oS 400 16 y11.length] (caps:=[]) trivial (K9 h14 rfl rfl) K6 ⟨by kernel_rfl,⟨by kernel_rfl,⟨by kernel_rfl,⟨by kernel_rfl,trivial⟩⟩⟩⟩ (.cons (.ren (by kernel_rfl)) (.cons (.ren (by kernel_rfl)) (.cons (.ren (by kernel_rfl)) (.cons (.ren (by kernel_rfl)) .nil)))) (A4 (by kernel_rfl) (by kernel_rfl) ⟨A0 (by kernel_rfl),⟨Dc (o:=oi 304 10) (p:=oi 305 10) (e1:=35) (m:=y8.length) (u:=.int) (xss:=y8) (A0 (by kernel_rfl)) (by kernel_rfl),⟨A0 (by kernel_rfl),⟨Dc (o:=oi 400 16) (p:=oi 401 16) (e1:=35) (m:=y11.length) (u:=.int) (xss:=y11) (A0 (by kernel_rfl)) (by kernel_rfl),trivial⟩⟩⟩⟩) (rsB 3 (As (tn_ (wr_ ?_))))));rcases Ad h with ⟨q17,h⟩ | ⟨q17,h⟩
 ·have q17_:=of_decide_eq_true q17;refine Ae q17 (Am (Ak (tr_ ?_)));obtain rfl:=zj h;exact Dw [oS 0 1 ((([]:LL)).length),.bool false] ((Hs 8 35 sI (by kernel_rfl)).trans ((Dt (e1:=35) (n:=0) 9000 (oi 8 30) 3 .int (by kernel_rfl) (by kernel_rfl) rfl (by kernel_rfl) (by kernel_rfl)).trans (Ac (tl:=[(8,oS 0 1 (([]:LL)).length),(9,.bool false)]) (g:=2) [(oi 0 1,oi 8 30),(oi 1 1,oi 9000 31)])))
 have q17_:=of_decide_eq_false q17;refine Af q17 (Aj (tn_ (wr_ (Am (Ak ?_)))));obtain rfl:=zj h;exact Dw [oS 0 1 y14.2.1.length,.bool true] ((Bk 8 (oS 400 16 y11.length) (oS 400 16 y14.2.1.length) (by kernel_rfl) (congrArg (fun z_=>((oS 400 16 z_):AV)) (g16.symm:y11.length=y14.2.1.length))).trans (Ac (tl:=[(8,oS 0 1 y14.2.1.length),(9,.bool true)]) (g:=2) [(oi 0 1,oi 400 16),(oi 1 1,oi 497 24)]))
def Uh:AC :=
 (.seq (rg [xo 8 (qm (cb false))])
 (.seq (rg [xm 12 0,xm 13 1,xm 14 2,xm 15 3,xo 16 (qc 41 [tm 12,tm 13,tm 14,tm 15] [[],[],[some sI],[some .int]]),xm 11 16,xo 17 (.i (.extr 0 (tm 11))),xo 18 (.i (.extr 1 (tm 11))),xo 9 (.i (.alloc 39 [.int .i64 0,.nils])),xn (.st false 2 (tm 9) (tm 17)),xm 10 18])
 (.seq (rg [xm 19 10,xm 8 19])
 .ret)))
def Ad1:List Res:=[.tmp 8]
theorem Ad0:Aq Tryd.prog Tryd.f28=some (Uh,Ad1):=by kernel_rfl
theorem Ac8:A5 Tryd.prog 28=true:=by kernel_rfl
def Lf (a0 a1:Int) (a2:LL) (a3:List Int):Option Bool :=
 (D6 a0 a1 a2 a3).bind fun y3 =>
some y3.1
def Aco (r:Bool):RV:=⟨false,[(false,[.sc (.bool r)])]⟩
theorem Adu {a0 a1:Int} {a2:LL} {a3:List Int} {r:Bool} (h:Lf a0 a1 a2 a3=some r):A6 Tryd.prog Tab 28 [ai a0,ai a1,tS a2,tI a3] (Aco r):=by
 refine A1 (by kernel_rfl) Tryd.func28 Ad0 (n:=20) (by kernel_rfl) (by simp) rfl ?_;unfold Uh;unfold Lf at h;refine Am (Ab ?_);obtain ⟨y3,h3,h⟩:=Ag h;refine Aa 13 (rsB 4 (Cr (.tup [.agg [an y3.2.1,oS 257 6 y3.2.2.length],.bool y3.1]) [(oi 256 6,some (.cells 39 [an y3.2.1,oS 257 6 y3.2.2.length])),(oi 257 6,some (.mat 35 (oi 258 6) .int y3.2.2)),(oi 258 6,some (.pool 3 .int y3.2.2))] [] [ai a0,ai a1,tS a2,tI a3] (caps:=[]) trivial (Qz h3) Q5 trivial (.cons (.ren (by kernel_rfl)) (.cons (.ren (by kernel_rfl)) (.cons (.ren (by kernel_rfl)) (.cons (.ren (by kernel_rfl)) .nil)))) (A4 (by kernel_rfl) (by kernel_rfl) trivial) (rsB 6 (As (tn_ (wr_ (Am (Ak ?_))))))));obtain rfl:=zj h;exact Bm [.bool y3.1] (A8 rfl zl A7)
end

section
open Go.RowKit Go.Deep
end
end Go.Proofs.YtkgjoabogcfgfaaDoor
