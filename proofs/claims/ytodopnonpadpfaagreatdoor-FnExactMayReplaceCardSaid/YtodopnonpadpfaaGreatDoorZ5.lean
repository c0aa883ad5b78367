/- Lemmas on the program and on partial functions that stand in place of its code (part 5); no condition beyond those that each one states. -/
import Derived.Test.YtodopnonpadpfaaGreatDoorZ4
namespace Go.Proofs.YtodopnonpadpfaaGreatDoor
section
open Go.RowKit Go.Deep
set_option maxRecDepth 4000
def Ol:AC :=
 (.seq (.seq (rg [xo 6 (qm (tm 5)),xo 7 (qm (tm 0)),xo 8 (qb .lss (tm 6) (tm 7))])
 (.cond (tm 8)
  .skip
  (.exit 0)))
 (.seq (.block 1 (.seq (rg [xo 11 (qm (tm 1)),xo 12 (qm (tm 5)),xo 13 (qb .mul (tm 11) (tm 12)),xo 14 (qm (tm 0)),xo 15 (qb .rem (tm 13) (tm 14)),xo 16 (qb .eql (tm 15) (ci 1))])
 (.cond (tm 16)
  (.seq (rg [xo 17 (qm (tm 5)),xo 4 (qm (tm 17))])
  .ret)
  .skip)))
 (rg [xo 9 (qm (tm 5)),xo 10 (qb .add (tm 9) (ci 1)),xo 5 (qm (tm 10))])))
def Vm:AC :=
 (.seq (rg [xo 4 (qm (ci 0))])
 (.seq (.seq (rg [xo 5 (qm (ci 1))])
 (.block 0 (.loop Ol)))
 (.seq (rg [xo 4 (qm (ci 0))])
 .ret)))
def Ah8:List Res:=[.tmp 4]
theorem Ai9:Am Tryz.prog Tryz.f86=some (Vm,Ah8):=by kernel_rfl
def Oo (a0:Int) (a1:Int) (l4_m5:Nat):Option (Ctl Nat (Ctl Unit Int)) :=
 cond (decide (((l4_m5:Nat):Int)<a0))
 (og (a0≠0) <|
 cond ((Int.tmod (wI (a1*((l4_m5:Nat):Int))) a0)==1)
  (some (Ctl.out (Ctl.out ((l4_m5:Nat):Int))))
  (og (l4_m5+1<4611686018427387904) <|
  some (Ctl.next (l4_m5+1))))
 (some (Ctl.out (Ctl.next ())))
def Ib (a0:Int) (a1:Int):Option Int :=
 Do (A4 (fun s_:Nat=>Oo a0 a1 s_) 4611686018427387904 1) fun _ =>
some 0
def Af0 (r:Int):RV:=⟨false,[(false,[.sc (.int .i64 r)])]⟩
theorem Aee {a0:Int} {a1:Int} {r:Int} (h:Ib a0 a1=some r):Ax Tryz.prog Tab 86 [ai a0,ai a1] (Af0 r):=by
 refine Ar (by kernel_rfl) Tryz.func86 Ai9 (n:=18) (by kernel_rfl) (by simp) (tl:=[(0,ai a0),(1,ai a1)]) rfl ?_;unfold Vm;unfold Ib at h;refine Aj ?_;refine Bh h (fun (_:Unit) S_=>S_=⟨Ao [],Ak (Aq []),2⟩) ?_ ?_
 ·intro v_ h hk2;refine Aj ?_;refine Al ?_;refine A3 h (fun (l4_m5:Nat) S_=>S_=⟨Ao [(0,ai a0),(1,ai a1),(5,ai ((l4_m5:Nat):Int))],Ak (Aq []),2⟩) ⟨_,Ac [],rfl⟩ ?_;rintro n_ l4_m5 _ c_ rfl h hn4
  (try dsimp only at h);unfold Oo at h;unfold Ol;refine Ab ?_;refine Aj ?_;rcases Ad h with ⟨q7,h⟩ | ⟨q7,h⟩
  ·have q7_:=of_decide_eq_true q7;refine Af q7 ?_;refine Ai (tn_ ?_);refine wr_ ?_;refine Ab ?_;refine Al ?_;refine Ab ?_;obtain ⟨g10,h⟩:=Au h;refine Aa 11 ?_;refine rz0 (ai a1) ?_;refine rz0 (ai ((l4_m5:Nat):Int)) ?_;refine rz0 (ai (wI (a1*((l4_m5:Nat):Int)))) ?_;refine rz0 (ai a0) ?_;refine rs0 (ai (Int.tmod (wI (a1*((l4_m5:Nat):Int))) a0)) (Pz (k:=.i64) (a:=wI (a1*((l4_m5:Nat):Int))) (b:=a0) (by kernel_rfl) (by kernel_rfl) g10) ?_;refine rsB 1 ?_;refine An (tn_ ?_);refine wr_ ?_;rcases Ad h with ⟨q11,h⟩ | ⟨q11,h⟩
   ·refine Af q11 ?_;refine Aj ?_;refine Ah (br_ (tr_ (tr_ (br_ (tr_ ?_)))));obtain rfl:=zj h;have h:=hn4
    (try dsimp only at h);obtain rfl:=zj h;have h:=hk2
    (try dsimp only at h);obtain rfl:=zj h;exact A0 [ai ((l4_m5:Nat):Int)] (Ap rfl zl As)
   refine Ag q11 ?_;refine Ai (bn_ (tn_ ?_));refine wr_ ?_;obtain ⟨g13,h⟩:=Au h;refine Aa 14 ?_;refine rz0 (ai ((l4_m5:Nat):Int)) ?_;refine rs0 (ai ((l4_m5+1:Nat):Int)) (za g13) ?_;refine rsB 1 ?_;refine An (tn_ ?_);obtain rfl:=zj h;exact ⟨l4_m5+1,_,Ac [],rfl,hn4⟩
  have q7_:=of_decide_eq_false q7;refine Ag q7 ?_;refine Az (te_ (te_ (be_ (tn_ ?_))));obtain rfl:=zj h;have h:=hn4
  (try dsimp only at h);obtain rfl:=zj h;exact ⟨(),_,rfl,Ac [],rfl⟩
 rintro _ _ rfl h
 (try dsimp only at h);refine Aj ?_;refine Ah ?_;obtain rfl:=zj h;exact A0 [ai 0] (Ap rfl zl As)
def Vj:AC :=
 (.seq (rg [xo 6 (qm (ci 0))])
 (.seq (rg [xo 7 (qm (tm 1)),xo 8 (qm (tm 0)),xo 9 (qb .add (tm 7) (tm 8)),xo 10 (qm (tm 2)),xo 11 (qb .sub (tm 9) (tm 10)),xo 12 (qm (tm 0)),xo 13 (qb .rem (tm 11) (tm 12)),xo 6 (qm (tm 13))])
 .ret))
def Ahv:List Res:=[.tmp 6]
theorem Ai3:Am Tryz.prog Tryz.f88=some (Vj,Ahv):=by kernel_rfl
theorem Ad2:A5 Tryz.prog 88=true:=by kernel_rfl
def H4 (a0:Int) (a1:Int) (a2:Int):Option Int :=
 og (a0≠0) <|
some (Int.tmod (wI ((wI (a1+a0)) - a2)) a0)
def Ae2 (r:Int):RV:=⟨false,[(false,[.sc (.int .i64 r)])]⟩
theorem Afk {a0:Int} {a1:Int} {a2:Int} {r:Int} (h:H4 a0 a1 a2=some r):Ax Tryz.prog Tab 88 [ai a0,ai a1,ai a2] (Ae2 r):=by
 refine Ar (by kernel_rfl) Tryz.func88 Ai3 (n:=14) (by kernel_rfl) (by simp) (tl:=[(0,ai a0),(1,ai a1),(2,ai a2)]) rfl ?_;unfold Vj;unfold H4 at h;refine Aj ?_;refine Ab ?_;obtain ⟨g3,h⟩:=Au h;refine Aa 10 ?_;refine rz0 (ai a1) ?_;refine rz0 (ai a0) ?_;refine rz0 (ai (wI (a1+a0))) ?_;refine rz0 (ai a2) ?_;refine rz0 (ai (wI ((wI (a1+a0)) - a2))) ?_;refine rz0 (ai a0) ?_;refine rs0 (ai (Int.tmod (wI ((wI (a1+a0)) - a2)) a0)) (Pz (k:=.i64) (a:=wI ((wI (a1+a0)) - a2)) (b:=a0) (by kernel_rfl) (by kernel_rfl) g3) ?_;refine rsB 1 ?_;refine An (tn_ ?_);refine wr_ ?_;refine Ah ?_;obtain rfl:=zj h;exact A0 [ai (Int.tmod (wI ((wI (a1+a0)) - a2)) a0)] (Ap rfl zl As)
def Kb:AC :=
 (.seq (rg [xo 143 (qb .lss (tm 142) (tm 141))])
 (.seq (.cond (tm 143)
  .skip
  (.exit 10))
 (.seq (.block 11 (.seq (rg [xo 144 (qm (tm 142)),xo 18 (qm (tm 144))])
 (.region [xo 145 (qm (tm 7)),xo 146 (qm (tm 16)),xo 147 (qx 1 (tm 145) (tm 146)),xo 148 (ql (tm 147)),xo 149 (qm (tm 18)),xo 150 (qm (tm 0)),xo 151 (qm (tm 7)),xo 152 (qm (tm 16)),xo 153 (qx 1 (tm 151) (tm 152)),xo 154 (ql (tm 153)),xo 155 (qm (tm 18)),xo 156 (qx 1 (tm 154) (tm 155)),xo 157 (ql (tm 156)),xo 158 (qm (tm 0)),xo 159 (qm (tm 17)),xo 160 (qm (tm 7)),xo 161 (qm (tm 10)),xo 162 (qx 1 (tm 160) (tm 161)),xo 163 (ql (tm 162)),xo 164 (qm (tm 18)),xo 165 (qx 1 (tm 163) (tm 164)),xo 166 (ql (tm 165)),xo 167 (qc 87 [tm 158,tm 159,tm 166] [[],[],[]]),xo 168 (qc 88 [tm 150,tm 157,tm 167] [[],[],[]]),xo 169 (qx 1 (tm 148) (tm 149)),xn (qs (tm 169) (tm 168))] true [(3,22),(9,22),(12,22),(3,23)])))
 (rg [xo 170 (qb .add (tm 142) (ci 1)),xo 142 (qm (tm 170))]))))
def Kw:AC :=
 (.seq (rg [xo 115 (qb .lss (tm 114) (tm 113))])
 (.seq (.cond (tm 115)
  .skip
  (.exit 8))
 (.seq (.block 9 (.seq (rg [xo 116 (qm (tm 114)),xo 16 (qm (tm 116))])
 (.seq (.seq (rg [xo 117 (qm (tm 16)),xo 118 (qm (tm 10)),xo 119 (qb .eql (tm 117) (tm 118)),xo 120 (qm (tm 119)),⟨some 121,some (120,false),qm (tm 7)⟩,⟨some 122,some (120,false),qm (tm 16)⟩,⟨some 123,some (120,false),qx 1 (tm 121) (tm 122)⟩,⟨some 124,some (120,false),ql (tm 123)⟩,⟨some 125,some (120,false),qm (tm 11)⟩,⟨some 126,some (120,false),qx 1 (tm 124) (tm 125)⟩,⟨some 127,some (120,false),ql (tm 126)⟩,⟨some 128,some (120,false),qb .eql (tm 127) (ci 0)⟩,xo 129 (.i (.pick (tm 120) (cb true) (tm 128)))])
 (.cond (tm 129)
  (.exit 9)
  .skip))
 (.seq (rg [xo 130 (qm (tm 7)),xo 131 (qm (tm 16)),xo 132 (qx 1 (tm 130) (tm 131)),xo 133 (ql (tm 132)),xo 134 (qm (tm 11)),xo 135 (qx 1 (tm 133) (tm 134)),xo 136 (ql (tm 135)),xo 17 (qm (tm 136))])
 (.seq (rg [xo 137 (qm (tm 7)),xo 138 (qm (tm 16)),xo 139 (qx 1 (tm 137) (tm 138)),xo 140 (ql (tm 139)),xo 141 (.i (.len (tm 140))),xo 142 (qm (ci 0))])
 (.block 10 (.loop Kb)))))))
 (rg [xo 171 (qb .add (tm 114) (ci 1)),xo 114 (qm (tm 171))]))))
def Kx:AC :=
 (.seq (rg [xo 93 (qb .lss (tm 92) (tm 91))])
 (.seq (.cond (tm 93)
  .skip
  (.exit 6))
 (.seq (.block 7 (.seq (rg [xo 94 (qm (tm 92)),xo 15 (qm (tm 94))])
 (.region [xo 95 (qm (tm 7)),xo 96 (qm (tm 10)),xo 97 (qx 1 (tm 95) (tm 96)),xo 98 (ql (tm 97)),xo 99 (qm (tm 15)),xo 100 (qm (tm 0)),xo 101 (qm (tm 7)),xo 102 (qm (tm 10)),xo 103 (qx 1 (tm 101) (tm 102)),xo 104 (ql (tm 103)),xo 105 (qm (tm 15)),xo 106 (qx 1 (tm 104) (tm 105)),xo 107 (ql (tm 106)),xo 108 (qm (tm 14)),xo 109 (qc 87 [tm 100,tm 107,tm 108] [[],[],[]]),xo 110 (qx 1 (tm 98) (tm 99)),xn (qs (tm 110) (tm 109))] true [(3,14)])))
 (rg [xo 111 (qb .add (tm 92) (ci 1)),xo 92 (qm (tm 111))]))))
def K0:AC :=
 (.seq (.seq (rg [xo 43 (qm (tm 12)),xo 44 (qm (tm 7)),xo 45 (.i (.len (tm 44))),xo 46 (qb .lss (tm 43) (tm 45)),xo 47 (qm (tm 46)),⟨some 48,some (47,true),qm (tm 7)⟩,⟨some 49,some (47,true),qm (tm 12)⟩,⟨some 50,some (47,true),qx 1 (tm 48) (tm 49)⟩,⟨some 51,some (47,true),ql (tm 50)⟩,⟨some 52,some (47,true),qm (tm 11)⟩,⟨some 53,some (47,true),qx 1 (tm 51) (tm 52)⟩,⟨some 54,some (47,true),ql (tm 53)⟩,⟨some 55,some (47,true),qb .eql (tm 54) (ci 0)⟩,xo 56 (.i (.pick (tm 47) (tm 55) (cb false)))])
 (.cond (tm 56)
  .skip
  (.exit 4)))
 (.block 5 (rg [xo 57 (qm (tm 12)),xo 58 (qb .add (tm 57) (ci 1)),xo 12 (qm (tm 58))])))
def K7:AC :=
 (.seq (.seq (rg [xo 31 (qm (tm 11)),xo 32 (qm (tm 1)),xo 33 (qb .lss (tm 31) (tm 32)),xo 34 (qm (tm 33)),⟨some 35,some (34,true),qm (tm 10)⟩,⟨some 36,some (34,true),qm (tm 7)⟩,⟨some 37,some (34,true),.i (.len (tm 36))⟩,⟨some 38,some (34,true),qb .lss (tm 35) (tm 37)⟩,xo 39 (.i (.pick (tm 34) (tm 38) (cb false)))])
 (.cond (tm 39)
  .skip
  (.exit 2)))
 (.seq (.block 3 (.seq (rg [xo 42 (qm (tm 10)),xo 12 (qm (tm 42))])
 (.seq (.block 4 (.loop K0))
 (.seq (.seq (rg [xo 59 (qm (tm 12)),xo 60 (qm (tm 7)),xo 61 (.i (.len (tm 60))),xo 62 (qb .eql (tm 59) (tm 61))])
 (.cond (tm 62)
  (.exit 3)
  .skip))
 (.seq (rg [xo 63 (qm (tm 7)),xo 64 (qm (tm 10)),xo 65 (qx 1 (tm 63) (tm 64)),xo 66 (ql (tm 65)),xo 13 (qm (tm 66))])
 (.seq (rg [xo 67 (qm (tm 7)),xo 68 (qm (tm 10)),xo 69 (qm (tm 7)),xo 70 (qm (tm 12)),xo 71 (qx 1 (tm 69) (tm 70)),xo 72 (ql (tm 71)),xo 73 (qx 1 (tm 67) (tm 68)),xn (qs (tm 73) (tm 72))])
 (.seq (rg [xo 74 (qm (tm 7)),xo 75 (qm (tm 12)),xo 76 (qm (tm 13)),xo 77 (qx 1 (tm 74) (tm 75)),xn (qs (tm 77) (tm 76))])
 (.seq (rg [xo 78 (qm (tm 0)),xo 79 (qm (tm 7)),xo 80 (qm (tm 10)),xo 81 (qx 1 (tm 79) (tm 80)),xo 82 (ql (tm 81)),xo 83 (qm (tm 11)),xo 84 (qx 1 (tm 82) (tm 83)),xo 85 (ql (tm 84)),xo 86 (qc 86 [tm 78,tm 85] [[],[]]),xo 14 (qm (tm 86))])
 (.seq (.seq (rg [xo 87 (qm (tm 7)),xo 88 (qm (tm 10)),xo 89 (qx 1 (tm 87) (tm 88)),xo 90 (ql (tm 89)),xo 91 (.i (.len (tm 90))),xo 92 (qm (ci 0))])
 (.block 6 (.loop Kx)))
 (.seq (.seq (rg [xo 112 (qm (tm 7)),xo 113 (.i (.len (tm 112))),xo 114 (qm (ci 0))])
 (.block 8 (.loop Kw)))
 (rg [xo 172 (qm (tm 10)),xo 173 (qb .add (tm 172) (ci 1)),xo 10 (qm (tm 173))])))))))))))
 (rg [xo 40 (qm (tm 11)),xo 41 (qb .add (tm 40) (ci 1)),xo 11 (qm (tm 41))])))
def K4:AC :=
 (.seq (rg [xo 22 (qb .lss (tm 21) (tm 20))])
 (.seq (.cond (tm 22)
  .skip
  (.exit 0))
 (.seq (.block 1 (.seq (rg [xo 23 (qx 1 (tm 19) (tm 21)),xo 24 (ql (tm 23)),xo 9 (qm (tm 24))])
 (rg [xo 25 (qm (tm 7)),xo 26 (qm (tm 9)),xo 27 (qc 85 [tm 26] [[some .int]]),xo 28 (.mkV 66 (.slice .int) 1 [tm 27]),xo 29 (.appV 66 (.slice .int) 24 (tm 25) (tm 28)),xo 7 (qm (tm 29))])))
 (rg [xo 30 (qb .add (tm 21) (ci 1)),xo 21 (qm (tm 30))]))))
def Oq:AC :=
 (.seq (rg [xo 6 (qm (.cst .nils))])
 (.seq (rg [xo 7 (qm (.cst .nils))])
 (.seq (.seq (rg [xo 19 (qm (tm 2)),xo 20 (.i (.len (tm 19))),xo 21 (qm (ci 0))])
 (.block 0 (.loop K4)))
 (.seq (rg [xo 10 (qm (ci 0))])
 (.seq (.seq (rg [xo 11 (qm (ci 0))])
 (.block 2 (.loop K7)))
 (.seq (rg [xo 174 (qm (tm 7)),xo 175 (qm (tm 10)),xo 176 (.slice 1 (tm 174) none (some (tm 175)) none),xo 6 (qm (tm 176))])
 .ret))))))
def Y4:List Res:=[.tmp 6]
theorem Yy:Am Tryz.prog Tryz.f66=some (Oq,Y4):=by kernel_rfl
theorem Wp:A5 Tryz.prog 66=true:=by kernel_rfl
def Co (a2:List (List Int)) (l6_m21:Nat) (l6_m7:List (List Int)):Option (Ctl (Nat×List (List Int)) (List (List Int))) :=
 cond (decide (((l6_m21:Nat):Int)<((a2.length:Nat):Int)))
 (Option.bind (a2[l6_m21]?) fun x12 =>
 Option.bind (H6 x12) fun y13 =>
 og (l6_m7.length+1<=1073741824∧(l6_m7.length+1)*24<=140737488355328) <|
 og (l6_m21+1<4611686018427387904) <|
 some (Ctl.next (l6_m21+1,l6_m7++[y13])))
 (some (Ctl.out l6_m7))
def Cn (l19_m7:List (List Int)) (l19_m11:Nat) (l27_m12:Nat):Option (Ctl Nat Nat) :=
 Option.bind (cond (decide (((l27_m12:Nat):Int)<((l19_m7.length:Nat):Int)))
  (Option.bind (l19_m7[l27_m12]?) fun x31 =>
  Option.bind (x31[l19_m11]?) fun x32 =>
  some (x32==0))
  (some false)) fun l29_m56 =>
cond l29_m56
 (og (l27_m12+1<4611686018427387904) <|
 some (Ctl.next (l27_m12+1)))
 (some (Ctl.out l27_m12))
def Df (x44:List Int) (l19_m10:Nat) (a0:Int) (y46:Int) (l49_m92:Nat) (l49_m7:List (List Int)):Option (Ctl (Nat×List (List Int)) (List (List Int))) :=
 cond (decide (((l49_m92:Nat):Int)<((x44.length:Nat):Int)))
 (Option.bind (l49_m7[l19_m10]?) fun x55 =>
 Option.bind (x55[l49_m92]?) fun x56 =>
 Option.bind (Gv a0 x56 y46) fun y57 =>
 og (l49_m92+1<4611686018427387904) <|
 some (Ctl.next (l49_m92+1,l49_m7.set l19_m10 (x55.set l49_m92 y57))))
 (some (Ctl.out l49_m7))
def De (x74:List Int) (l61_m114:Nat) (l19_m10:Nat) (a0:Int) (x75:Int) (l77_m142:Nat) (l77_m7:List (List Int)):Option (Ctl (Nat×List (List Int)) (List (List Int))) :=
 cond (decide (((l77_m142:Nat):Int)<((x74.length:Nat):Int)))
 (Option.bind (l77_m7[l61_m114]?) fun x83 =>
 Option.bind (x83[l77_m142]?) fun x84 =>
 Option.bind (l77_m7[l19_m10]?) fun x85 =>
 Option.bind (x85[l77_m142]?) fun x86 =>
 Option.bind (Gv a0 x75 x86) fun y87 =>
 Option.bind (H4 a0 x84 y87) fun y88 =>
 og (l77_m142+1<4611686018427387904) <|
 some (Ctl.next (l77_m142+1,l77_m7.set l61_m114 (x83.set l77_m142 y88))))
 (some (Ctl.out l77_m7))
def Di (l47_m7:List (List Int)) (l19_m10:Nat) (l19_m11:Nat) (a0:Int) (l61_m114:Nat) (l61_m7:List (List Int)):Option (Ctl (Nat×List (List Int)) (List (List Int))) :=
 cond (decide (((l61_m114:Nat):Int)<((l47_m7.length:Nat):Int)))
 (Option.bind (Option.bind (cond (((l61_m114:Nat):Int)==((l19_m10:Nat):Int))
       (some true)
       (Option.bind (l61_m7[l61_m114]?) fun x70 =>
       Option.bind (x70[l19_m11]?) fun x71 =>
       some (x71==0))) fun l68_m129 =>
  cond l68_m129
   (some l61_m7)
   (Option.bind (l61_m7[l61_m114]?) fun x74 =>
   Option.bind (x74[l19_m11]?) fun x75 =>
   A4 (fun s_:Nat×List (List Int)=>De x74 l61_m114 l19_m10 a0 x75 s_.1 s_.2) 4611686018427387904 (0,l61_m7))) fun l65_m7 =>
 og (l61_m114+1<4611686018427387904) <|
 some (Ctl.next (l61_m114+1,l65_m7)))
 (some (Ctl.out l61_m7))
def B7 (a1:Int) (a0:Int) (l19_m10:Nat) (l19_m11:Nat) (l19_m7:List (List Int)):Option (Ctl (Nat×Nat×List (List Int)) (Nat×List (List Int))) :=
 Option.bind (cond (decide (((l19_m11:Nat):Int)<a1))
  (some (decide (((l19_m10:Nat):Int)<((l19_m7.length:Nat):Int))))
  (some false)) fun l21_m39 =>
cond l21_m39
 (Option.bind (Option.bind (A4 (fun s_:Nat=>Cn l19_m7 l19_m11 s_) 4611686018427387904 l19_m10) fun l26_m12 =>
  cond (((l26_m12:Nat):Int)==((l19_m7.length:Nat):Int))
   (some (l19_m10,l19_m7))
   (Option.bind (l19_m7[l19_m10]?) fun x39 =>
   Option.bind (l19_m7[l26_m12]?) fun x41 =>
   Option.bind (((l19_m7.set l19_m10 x41).set l26_m12 x39)[l19_m10]?) fun x44 =>
   Option.bind (x44[l19_m11]?) fun x45 =>
   Option.bind (Ib a0 x45) fun y46 =>
   Option.bind (A4 (fun s_:Nat×List (List Int)=>Df x44 l19_m10 a0 y46 s_.1 s_.2) 4611686018427387904 (0,(l19_m7.set l19_m10 x41).set l26_m12 x39)) fun l47_m7 =>
   Option.bind (A4 (fun s_:Nat×List (List Int)=>Di l47_m7 l19_m10 l19_m11 a0 s_.1 s_.2) 4611686018427387904 (0,l47_m7)) fun l59_m7 =>
   og (l19_m10+1<4611686018427387904) <|
   some (l19_m10+1,l59_m7))) fun (l24_m10,l24_m7) =>
 og (l19_m11+1<4611686018427387904) <|
 some (Ctl.next (l24_m10,l19_m11+1,l24_m7)))
 (some (Ctl.out (l19_m10,l19_m7)))
def Fo (a0:Int) (a1:Int) (a2:List (List Int)):Option (List (List Int)) :=
 Option.bind (A4 (fun s_:Nat×List (List Int)=>Co a2 s_.1 s_.2) 4611686018427387904 (0,([]:List (List Int)))) fun l4_m7 =>
Option.bind (A4 (fun s_:Nat×Nat×List (List Int)=>B7 a1 a0 s_.1 s_.2.1 s_.2.2) 4611686018427387904 (0,0,l4_m7)) fun (l17_m10,l17_m7) =>
og ((0:Int)<=0∧0<=((l17_m10:Nat):Int)∧((l17_m10:Nat):Int)<=((l17_m7.length:Nat):Int)) <|
some (l17_m7.take l17_m10)
theorem W5 {a0:Int} {a1:Int} {a2:List (List Int)} {r:List (List Int)} (h:Fo a0 a1 a2=some r):Ir Tryz.prog Tab 66 [ai a0,ai a1,.tree (.slice .int) a2] [] (.own (oi 0 1) (.slice .int) 0 r.length) [(oi 0 1,.mat 66 (oi 1 1) .int r),(oi 1 1,.pool 3 .int r)]:=by
 refine Gt (by kernel_rfl) Tryz.func66 Yy (n:=177) (by kernel_rfl) (by simp) (tl:=[(0,ai a0),(1,ai a1),(2,.tree (.slice .int) a2)]) rfl (by kernel_rfl) trivial ⟨⟨3,.tail _ (.head _)⟩,⟨trivial,trivial⟩⟩ ?_;unfold Oq;unfold Fo at h;refine Aj ?_;refine Aj ?_;refine Aw h (fun (l4_m7:List (List Int)) S_=>S_=⟨Ao [(0,ai a0),(1,ai a1),(7,.own (oi 0 1) (.slice .int) 0 l4_m7.length)],Ak (Aq [(oi 0 1,.mat 66 (oi 1 1) .int l4_m7),(oi 1 1,.pool 3 .int l4_m7)]),2⟩) ?_ ?_
 ·intro v_ h;refine Aj ?_;refine Al ?_;refine A3 h (fun t_ S_=>∃ (l6_m21:Nat),∃ (l6_m7:List (List Int)),t_=(l6_m21,l6_m7)∧S_=⟨Ao [(0,ai a0),(1,ai a1),(7,.own (oi 0 1) (.slice .int) 0 l6_m7.length),(19,.tree (.slice .int) a2),(20,ai ((a2.length:Nat):Int)),(21,ai ((l6_m21:Nat):Int))],Ak (Aq [(oi 0 1,.mat 66 (oi 1 1) .int l6_m7),(oi 1 1,.pool 3 .int l6_m7)]),2⟩) ⟨_,(Ane 7 66 (.slice .int) (by kernel_rfl)).trans ((Amd (e1:=66) (n:=0) 9000 (oi 7 6) 3 .int (by kernel_rfl) (by kernel_rfl) rfl (by kernel_rfl) (by kernel_rfl)).trans (Ac [(oi 0 1,oi 7 6),(oi 1 1,oi 9000 7)])),⟨0,([]:List (List Int)),rfl,rfl⟩⟩ ?_;rintro n_ _ _ c_ ⟨l6_m21,l6_m7,rfl,rfl⟩ h hn6
  (try dsimp only at h);unfold Co at h;unfold K4;refine Aj ?_;refine Ab ?_;rcases Ad h with ⟨q9,h⟩ | ⟨q9,h⟩
  ·have q9_:=of_decide_eq_true q9;refine Af q9 ?_;refine Ai (tn_ ?_);refine wr_ ?_;refine Ab ?_;refine Al ?_;refine Ab ?_;obtain ⟨x12,e12,h⟩:=Ae h;refine Aa 6 ?_;refine rs0 (.telt none (.slice .int) x12 0) (zi (t:=.slice .int) (xs:=a2) (k:=.i64) (m:=((l6_m21:Nat):Int)) (Ay _) e12) ?_;refine rsB 2 ?_;refine An (tn_ ?_);refine wr_ ?_;obtain ⟨y13,h13,h⟩:=Ae h;obtain ⟨g14,h⟩:=Au h;refine Aa 12 ?_;refine rz0 (.own (oi 0 1) (.slice .int) 0 l6_m7.length) ?_;refine rz0 (.tree .int x12) ?_;refine zc (.own (oi 432 8) .int 0 y13.length) [(oi 432 8,some (.arr 3 .int y13))] [.tree .int x12] (Aem h13) ?_;refine Awt (.own (oi 28 9) (.slice .int) 0 1) (oi 28 9) (.vec 66 1 1 ([.own (oi 432 8) .int 0 y13.length])) trivial (Auw (by kernel_rfl)) ?_;refine rs2 (.own (oi 0 10) (.slice .int) 0 (l6_m7.length+1)) (oi 0 1) (oi 0 10) (.vec 66 1 (l6_m7.length+1) (hdL (oi 1 1) .int l6_m7++[.own (oi 432 8) .int 0 y13.length])) (Ant (u:=.int) (t':=.slice .int) (t2:=.slice .int) (o:=oi 0 1) (q:=oi 28 9) (e2:=66) (p:=oi 1 1) (xss:=l6_m7) (cs:=[.own (oi 432 8) .int 0 y13.length]) (len:=l6_m7.length) (by kernel_rfl) (by kernel_rfl) rfl (by kernel_rfl) (by kernel_rfl) rfl g14) ?_;refine rsB 1 ?_;refine An (bn_ (tn_ ?_));refine ⟨_,Agh (e1:=66) (e:=3) (u:=.int) (n:=l6_m7.length+1) (len:=y13.length) (row:=y13) (ys:=y13) (xss:=l6_m7) 9000 (oi 0 10) (oi 1 1) (oi 432 8) (by kernel_rfl) (by kernel_rfl) rfl (by kernel_rfl) (by kernel_rfl) (Ar3 rfl) (Aql rfl) (by kernel_rfl) (by kernel_rfl) (by kernel_rfl),?_⟩;obtain ⟨g15,h⟩:=Au h;refine Aa 15 ?_;refine rs0 (ai ((l6_m21+1:Nat):Int)) (za g15) ?_;refine rsB 1 ?_;refine An (tn_ ?_);obtain rfl:=zj h;exact ⟨(l6_m21+1,l6_m7++[y13]),_,(B2 7 (.own (oi 0 10) (.slice .int) 0 (l6_m7.length+1)) (.own (oi 0 10) (.slice .int) 0 ((l6_m7++[y13]).length)) (by kernel_rfl) (congrArg (fun z_=>((.own (oi 0 10) (.slice .int) 0 z_):AV)) ((by simp):l6_m7.length+1=(l6_m7++[y13]).length))).trans (Ac [(oi 0 1,oi 0 10),(oi 1 1,oi 9000 12)]),⟨l6_m21+1,l6_m7++[y13],rfl,rfl⟩,hn6⟩
  have q9_:=of_decide_eq_false q9;refine Ag q9 ?_;refine Az (te_ (te_ (be_ (tn_ ?_))));obtain rfl:=zj h;have h:=hn6
  (try dsimp only at h);obtain rfl:=zj h;exact ⟨_,Ac [],rfl⟩
 rintro l4_m7 _ rfl h
 (try dsimp only at h);refine Aj ?_;refine Aw h (fun t_ S_=>∃ (l17_m10:Nat),∃ (l17_m7:List (List Int)),t_=(l17_m10,l17_m7)∧S_=⟨Ao [(7,.own (oi 0 1) (.slice .int) 0 l17_m7.length),(10,ai ((l17_m10:Nat):Int))],Ak (Aq [(oi 0 1,.mat 66 (oi 1 1) .int l17_m7),(oi 1 1,.pool 3 .int l17_m7)]),2⟩) ?_ ?_
 ·intro v_ h;refine Aj ?_;refine Al ?_;refine A3 h (fun t_ S_=>∃ (l19_m10:Nat),∃ (l19_m11:Nat),∃ (l19_m7:List (List Int)),t_=(l19_m10,l19_m11,l19_m7)∧S_=⟨Ao [(0,ai a0),(1,ai a1),(7,.own (oi 0 1) (.slice .int) 0 l19_m7.length),(10,ai ((l19_m10:Nat):Int)),(11,ai ((l19_m11:Nat):Int))],Ak (Aq [(oi 0 1,.mat 66 (oi 1 1) .int l19_m7),(oi 1 1,.pool 3 .int l19_m7)]),2⟩) ⟨_,Ac [],⟨0,0,l4_m7,rfl,rfl⟩⟩ ?_;rintro n_ _ _ c_ ⟨l19_m10,l19_m11,l19_m7,rfl,rfl⟩ h hn19
  (try dsimp only at h);unfold B7 at h;unfold K7;refine Ab ?_;refine Aw h (fun (l21_m39:Bool) S_=>S_=⟨Ao [(0,ai a0),(1,ai a1),(7,.own (oi 0 1) (.slice .int) 0 l19_m7.length),(10,ai ((l19_m10:Nat):Int)),(11,ai ((l19_m11:Nat):Int)),(39,.bool l21_m39)],Ak (Aq [(oi 0 1,.mat 66 (oi 1 1) .int l19_m7),(oi 1 1,.pool 3 .int l19_m7)]),2⟩) ?_ ?_
  ·intro v_ h;rcases Ad h with ⟨q22,h⟩ | ⟨q22,h⟩
   ·have q22_:=of_decide_eq_true q22;refine Aa 11 ?_;refine rz0 (ai ((l19_m11:Nat):Int)) ?_;refine rz0 (ai a1) ?_;refine rz0 (.bool (decide (((l19_m11:Nat):Int)<a1))) ?_;refine rz0 (.bool (decide (((l19_m11:Nat):Int)<a1))) ?_;refine rs0 (ai ((l19_m10:Nat):Int)) (zg q22) ?_;refine rs0 (.own (oi 0 1) (.slice .int) 0 l19_m7.length) (zg q22) ?_;refine rs0 (ai ((l19_m7.length:Nat):Int)) (zg q22) ?_;refine rs0 (.bool (decide (((l19_m10:Nat):Int)<((l19_m7.length:Nat):Int)))) (zg q22) ?_;refine rs0 (.bool (decide (((l19_m10:Nat):Int)<((l19_m7.length:Nat):Int)))) (zT q22) ?_;refine An (tn_ ?_);obtain rfl:=zj h;exact ⟨_,Ac [],rfl⟩
   have q22_:=of_decide_eq_false q22;refine Aa 11 ?_;refine rz0 (ai ((l19_m11:Nat):Int)) ?_;refine rz0 (ai a1) ?_;refine rz0 (.bool (decide (((l19_m11:Nat):Int)<a1))) ?_;refine rz0 (.bool (decide (((l19_m11:Nat):Int)<a1))) ?_;refine zs q22 ?_;refine zs q22 ?_;refine zs q22 ?_;refine zs q22 ?_;refine rs0 (.bool false) (zF q22) ?_;refine An (tn_ ?_);obtain rfl:=zj h;exact ⟨_,Ac [],rfl⟩
  rintro l21_m39 _ rfl h
  (try dsimp only at h);rcases Ad h with ⟨q23,h⟩ | ⟨q23,h⟩
  ·refine Af q23 ?_;refine Ai (tn_ ?_);refine wr_ ?_;refine Aw h (fun t_ S_=>∃ (l24_m10:Nat),∃ (l24_m7:List (List Int)),t_=(l24_m10,l24_m7)∧S_=⟨Ao [(0,ai a0),(1,ai a1),(7,.own (oi 0 1) (.slice .int) 0 l24_m7.length),(10,ai ((l24_m10:Nat):Int)),(11,ai ((l19_m11:Nat):Int))],Ak (Aq [(oi 0 1,.mat 66 (oi 1 1) .int l24_m7),(oi 1 1,.pool 3 .int l24_m7)]),2⟩) ?_ ?_
   ·intro v_ h;refine Al ?_;refine Aj ?_;refine Aw h (fun (l26_m12:Nat) S_=>S_=⟨Ao [(0,ai a0),(1,ai a1),(7,.own (oi 0 1) (.slice .int) 0 l19_m7.length),(10,ai ((l19_m10:Nat):Int)),(11,ai ((l19_m11:Nat):Int)),(12,ai ((l26_m12:Nat):Int))],Ak (Aq [(oi 0 1,.mat 66 (oi 1 1) .int l19_m7),(oi 1 1,.pool 3 .int l19_m7)]),2⟩) ?_ ?_
    ·intro v_ h;refine Al ?_;refine A3 h (fun (l27_m12:Nat) S_=>S_=⟨Ao [(0,ai a0),(1,ai a1),(7,.own (oi 0 1) (.slice .int) 0 l19_m7.length),(10,ai ((l19_m10:Nat):Int)),(11,ai ((l19_m11:Nat):Int)),(12,ai ((l27_m12:Nat):Int))],Ak (Aq [(oi 0 1,.mat 66 (oi 1 1) .int l19_m7),(oi 1 1,.pool 3 .int l19_m7)]),2⟩) ⟨_,Ac [],rfl⟩ ?_;rintro n_ l27_m12 _ c_ rfl h hn27
     (try dsimp only at h);unfold Cn at h;unfold K0;refine Ab ?_;refine Aw h (fun (l29_m56:Bool) S_=>S_=⟨Ao [(0,ai a0),(1,ai a1),(7,.own (oi 0 1) (.slice .int) 0 l19_m7.length),(10,ai ((l19_m10:Nat):Int)),(11,ai ((l19_m11:Nat):Int)),(12,ai ((l27_m12:Nat):Int)),(56,.bool l29_m56)],Ak (Aq [(oi 0 1,.mat 66 (oi 1 1) .int l19_m7),(oi 1 1,.pool 3 .int l19_m7)]),2⟩) ?_ ?_
     ·intro v_ h;rcases Ad h with ⟨q30,h⟩ | ⟨q30,h⟩
      ·have q30_:=of_decide_eq_true q30;obtain ⟨x31,e31,h⟩:=Ae h;obtain ⟨x32,e32,h⟩:=Ae h;refine Aa 16 ?_;refine rz0 (ai ((l27_m12:Nat):Int)) ?_;refine rz0 (.own (oi 0 1) (.slice .int) 0 l19_m7.length) ?_;refine rz0 (ai ((l19_m7.length:Nat):Int)) ?_;refine rz0 (.bool (decide (((l27_m12:Nat):Int)<((l19_m7.length:Nat):Int)))) ?_;refine rz0 (.bool (decide (((l27_m12:Nat):Int)<((l19_m7.length:Nat):Int)))) ?_;refine rs0 (.own (oi 0 1) (.slice .int) 0 l19_m7.length) (zg q30) ?_;refine rs0 (ai ((l27_m12:Nat):Int)) (zg q30) ?_;refine rs0 (.elt (oi 0 1) l27_m12 0) (Fv (by kernel_rfl) q30 (zo (t:=.slice .int) (o:=oi 0 1) (len:=l19_m7.length) (k:=.i64) (m:=((l27_m12:Nat):Int)) (Ay _) (Av e31))) ?_;refine rsl (.own (kid (oi 1 1) l27_m12) .int 0 x31.length) (Fv (by kernel_rfl) q30 (F0 (o:=oi 0 1) (p:=oi 1 1) (e1:=66) (u:=.int) (xss:=l19_m7) (row:=x31) (j:=l27_m12) (by kernel_rfl) (by kernel_rfl) e31)) ?_;refine rs0 (ai ((l19_m11:Nat):Int)) (zg q30) ?_;refine rs0 (.elt (kid (oi 1 1) l27_m12) l19_m11 0) (Fv (by kernel_rfl) q30 (zo (t:=.int) (o:=kid (oi 1 1) l27_m12) (len:=x31.length) (k:=.i64) (m:=((l19_m11:Nat):Int)) (Ay _) (Av e32))) ?_;refine rsl (ai x32) (Fv (by kernel_rfl) q30 (C0 (i:=kid (oi 1 1) l27_m12) (j:=l19_m11) (k:=0) (e:=3) (t:=.int) (xs:=x31) (by kernel_rfl) (Bo (by kernel_rfl) e31) e32 (by kernel_rfl))) ?_;refine rs0 (.bool (x32==0)) (zg q30) ?_;refine rs0 (.bool (x32==0)) (zT q30) ?_;refine An (tn_ ?_);obtain rfl:=zj h;exact ⟨_,Ac [],rfl⟩
      have q30_:=of_decide_eq_false q30;refine Aa 16 ?_;refine rz0 (ai ((l27_m12:Nat):Int)) ?_;refine rz0 (.own (oi 0 1) (.slice .int) 0 l19_m7.length) ?_;refine rz0 (ai ((l19_m7.length:Nat):Int)) ?_;refine rz0 (.bool (decide (((l27_m12:Nat):Int)<((l19_m7.length:Nat):Int)))) ?_;refine rz0 (.bool (decide (((l27_m12:Nat):Int)<((l19_m7.length:Nat):Int)))) ?_;refine zs q30 ?_;refine zs q30 ?_;refine zs q30 ?_;refine zs q30 ?_;refine zs q30 ?_;refine zs q30 ?_;refine zs q30 ?_;refine zs q30 ?_;refine rs0 (.bool false) (zF q30) ?_;refine An (tn_ ?_);obtain rfl:=zj h;exact ⟨_,Ac [],rfl⟩
     rintro l29_m56 _ rfl h
     (try dsimp only at h);rcases Ad h with ⟨q33,h⟩ | ⟨q33,h⟩
     ·refine Af q33 ?_;refine Ai (tn_ ?_);refine wr_ ?_;refine Al ?_;obtain ⟨g34,h⟩:=Au h;refine Aa 5 ?_;refine rz0 (ai ((l27_m12:Nat):Int)) ?_;refine rs0 (ai ((l27_m12+1:Nat):Int)) (za g34) ?_;refine rsB 1 ?_;refine An (bn_ (tn_ ?_));obtain rfl:=zj h;exact ⟨l27_m12+1,_,Ac [],rfl,hn27⟩
     refine Ag q33 ?_;refine Az (te_ (te_ (be_ (tn_ ?_))));obtain rfl:=zj h;have h:=hn27
     (try dsimp only at h);obtain rfl:=zj h;exact ⟨_,Ac [],rfl⟩
    rintro l26_m12 _ rfl h
    (try dsimp only at h);refine Ab ?_;refine Aj ?_;rcases Ad h with ⟨q37,h⟩ | ⟨q37,h⟩
    ·refine Af q37 ?_;refine Az (te_ (be_ (tn_ ?_)));obtain rfl:=zj h;exact ⟨_,Ac [],⟨l19_m10,l19_m7,rfl,rfl⟩⟩
    refine Ag q37 ?_;refine Ai (tn_ ?_);refine wr_ ?_;refine Ab ?_;obtain ⟨x39,e39,h⟩:=Ae h;refine Aa 11 ?_;refine rz0 (.own (oi 0 1) (.slice .int) 0 l19_m7.length) ?_;refine rz0 (ai ((l19_m10:Nat):Int)) ?_;refine rs0 (.elt (oi 0 1) l19_m10 0) (zo (t:=.slice .int) (o:=oi 0 1) (len:=l19_m7.length) (k:=.i64) (m:=((l19_m10:Nat):Int)) (Ay _) (Av e39)) ?_;refine rsl (.own (kid (oi 1 1) l19_m10) .int 0 x39.length) (F0 (o:=oi 0 1) (p:=oi 1 1) (e1:=66) (u:=.int) (xss:=l19_m7) (row:=x39) (j:=l19_m10) (by kernel_rfl) (by kernel_rfl) e39) ?_;refine rsB 1 ?_;refine An (tn_ ?_);refine wr_ ?_;refine Ab ?_;obtain ⟨x41,e41,h⟩:=Ae h;refine Aa 19 ?_;refine rz0 (.own (oi 0 1) (.slice .int) 0 l19_m7.length) ?_;refine rz0 (ai ((l19_m10:Nat):Int)) ?_;refine rz0 (.own (oi 0 1) (.slice .int) 0 l19_m7.length) ?_;refine rz0 (ai ((l26_m12:Nat):Int)) ?_;refine rs0 (.elt (oi 0 1) l26_m12 0) (zo (t:=.slice .int) (o:=oi 0 1) (len:=l19_m7.length) (k:=.i64) (m:=((l26_m12:Nat):Int)) (Ay _) (Av e41)) ?_;refine rsl (.own (kid (oi 1 1) l26_m12) .int 0 x41.length) (F0 (o:=oi 0 1) (p:=oi 1 1) (e1:=66) (u:=.int) (xss:=l19_m7) (row:=x41) (j:=l26_m12) (by kernel_rfl) (by kernel_rfl) e41) ?_;refine rs0 (.elt (oi 0 1) l19_m10 0) (zo (t:=.slice .int) (o:=oi 0 1) (len:=l19_m7.length) (k:=.i64) (m:=((l19_m10:Nat):Int)) (Ay _) (Av e39)) ?_;refine Al5 (oi 0 1) (oi 0 1) (.vec 66 1 l19_m7.length ((hdL (oi 1 1) .int l19_m7).set l19_m10 (.own (kid (oi 1 1) l26_m12) .int 0 x41.length))) (Akv (o:=oi 0 1) (e1:=66) (m:=l19_m7.length) (cs:=hdL (oi 1 1) .int l19_m7) (v:=.own (kid (oi 1 1) l26_m12) .int 0 x41.length) (j:=l19_m10) (by kernel_rfl) (by kernel_rfl) (by kernel_rfl) rfl (by rw [E7]; exact Av e39)) ?_;refine An (tn_ ?_);refine wr_ ?_;refine Ab ?_;refine Aa 24 ?_;refine rz0 (.own (oi 0 1) (.slice .int) 0 l19_m7.length) ?_;refine rz0 (ai ((l26_m12:Nat):Int)) ?_;refine rz0 (.own (kid (oi 1 1) l19_m10) .int 0 x39.length) ?_;refine rs0 (.elt (oi 0 1) l26_m12 0) (zo (t:=.slice .int) (o:=oi 0 1) (len:=l19_m7.length) (k:=.i64) (m:=((l26_m12:Nat):Int)) (Ay _) (Av e41)) ?_;refine Al5 (oi 0 1) (oi 0 1) (.vec 66 1 l19_m7.length (((hdL (oi 1 1) .int l19_m7).set l19_m10 (.own (kid (oi 1 1) l26_m12) .int 0 x41.length)).set l26_m12 (.own (kid (oi 1 1) l19_m10) .int 0 x39.length))) (Akv (o:=oi 0 1) (e1:=66) (m:=l19_m7.length) (cs:=(hdL (oi 1 1) .int l19_m7).set l19_m10 (.own (kid (oi 1 1) l26_m12) .int 0 x41.length)) (v:=.own (kid (oi 1 1) l19_m10) .int 0 x39.length) (j:=l26_m12) (by kernel_rfl) (by kernel_rfl) (by kernel_rfl) rfl (by rw [List.length_set,E7]; exact Av e41)) ?_;refine An (tn_ ?_);refine ⟨_,Aca (e1:=66) (e:=3) (u:=.int) (xss:=l19_m7) (i:=l19_m10) (j:=l26_m12) (n:=l19_m7.length) (li:=x39.length) (lj:=x41.length) (ri:=x39) (rj:=x41) 9000 (oi 0 1) (oi 1 1) (by kernel_rfl) (by kernel_rfl) rfl (by kernel_rfl) e39 e41 rfl rfl (by kernel_rfl) (by kernel_rfl),?_⟩;refine Ab ?_;obtain ⟨x44,e44,h⟩:=Ae h;obtain ⟨x45,e45,h⟩:=Ae h;obtain ⟨y46,h46,h⟩:=Ae h;refine Aa 35 ?_;refine rz0 (ai a0) ?_;refine rz0 (.own (oi 0 1) (.slice .int) 0 l19_m7.length) ?_;refine rz0 (ai ((l19_m10:Nat):Int)) ?_;refine rs0 (.elt (oi 0 1) l19_m10 0) (zo (t:=.slice .int) (o:=oi 0 1) (len:=l19_m7.length) (k:=.i64) (m:=((l19_m10:Nat):Int)) (Ay _) (Nat.lt_of_lt_of_le (Av e44) (Nat.le_of_eq (Eq.symm (Eq.trans (b:=l19_m7.length) rfl (by simp)))))) ?_;refine rsl (.own (kid (oi 9000 24) l19_m10) .int 0 x44.length) (F0 (o:=oi 0 1) (p:=oi 9000 24) (e1:=66) (u:=.int) (xss:=(l19_m7.set l19_m10 x41).set l26_m12 x39) (row:=x44) (j:=l19_m10) (by kernel_rfl) (by kernel_rfl) e44) ?_;refine rz0 (ai ((l19_m11:Nat):Int)) ?_;refine rs0 (.elt (kid (oi 9000 24) l19_m10) l19_m11 0) (zo (t:=.int) (o:=kid (oi 9000 24) l19_m10) (len:=x44.length) (k:=.i64) (m:=((l19_m11:Nat):Int)) (Ay _) (Av e45)) ?_;refine rsl (ai x45) (C0 (i:=kid (oi 9000 24) l19_m10) (j:=l19_m11) (k:=0) (e:=3) (t:=.int) (xs:=x44) (by kernel_rfl) (Bo (by kernel_rfl) e44) e45 (by kernel_rfl)) ?_;refine zc (ai y46) [] [ai a0,ai x45] (Aee h46) ?_;refine rsB 1 ?_;refine An (tn_ ?_);refine wr_ ?_;refine Aw h (fun (l47_m7:List (List Int)) S_=>S_=⟨Ao [(0,ai a0),(1,ai a1),(7,.own (oi 0 1) (.slice .int) 0 l47_m7.length),(10,ai ((l19_m10:Nat):Int)),(11,ai ((l19_m11:Nat):Int))],Ak (Aq [(oi 0 1,.mat 66 (oi 1 1) .int l47_m7),(oi 1 1,.pool 3 .int l47_m7)]),2⟩) ?_ ?_
    ·intro v_ h;refine Ab ?_;refine Aa 41 ?_;refine rz0 (.own (oi 0 1) (.slice .int) 0 l19_m7.length) ?_;refine rz0 (ai ((l19_m10:Nat):Int)) ?_;refine rs0 (.elt (oi 0 1) l19_m10 0) (zo (t:=.slice .int) (o:=oi 0 1) (len:=l19_m7.length) (k:=.i64) (m:=((l19_m10:Nat):Int)) (Ay _) (Nat.lt_of_lt_of_le (Av e44) (Nat.le_of_eq (Eq.symm (Eq.trans (b:=l19_m7.length) rfl (by simp)))))) ?_;refine rsl (.own (kid (oi 9000 24) l19_m10) .int 0 x44.length) (F0 (o:=oi 0 1) (p:=oi 9000 24) (e1:=66) (u:=.int) (xss:=(l19_m7.set l19_m10 x41).set l26_m12 x39) (row:=x44) (j:=l19_m10) (by kernel_rfl) (by kernel_rfl) e44) ?_;refine rsB 2 ?_;refine An (tn_ ?_);refine wr_ ?_;refine Al ?_;refine A3 h (fun t_ S_=>∃ (l49_m92:Nat),∃ (l49_m7:List (List Int)),t_=(l49_m92,l49_m7)∧S_=⟨Ao [(0,ai a0),(1,ai a1),(7,.own (oi 0 1) (.slice .int) 0 l49_m7.length),(10,ai ((l19_m10:Nat):Int)),(11,ai ((l19_m11:Nat):Int)),(14,ai y46),(91,ai ((x44.length:Nat):Int)),(92,ai ((l49_m92:Nat):Int))],Ak (Aq [(oi 0 1,.mat 66 (oi 1 1) .int l49_m7),(oi 1 1,.pool 3 .int l49_m7)]),2⟩) ⟨_,(B2 7 (.own (oi 0 1) (.slice .int) 0 l19_m7.length) (.own (oi 0 1) (.slice .int) 0 (((l19_m7.set l19_m10 x41).set l26_m12 x39).length)) (by kernel_rfl) (congrArg (fun z_=>((.own (oi 0 1) (.slice .int) 0 z_):AV)) ((Eq.trans (b:=l19_m7.length) rfl (by simp)):l19_m7.length=((l19_m7.set l19_m10 x41).set l26_m12 x39).length))).trans (Ac [(oi 1 1,oi 9000 24)]),⟨0,(l19_m7.set l19_m10 x41).set l26_m12 x39,rfl,rfl⟩⟩ ?_;rintro n_ _ _ c_ ⟨l49_m92,l49_m7,rfl,rfl⟩ h hn49
     (try dsimp only at h);unfold Df at h;unfold Kx;refine Aj ?_;refine Ab ?_;rcases Ad h with ⟨q52,h⟩ | ⟨q52,h⟩
     ·have q52_:=of_decide_eq_true q52;refine Af q52 ?_;refine Ai (tn_ ?_);refine wr_ ?_;refine Ab ?_;refine Al ?_;refine Aj ?_;obtain ⟨x55,e55,h⟩:=Ae h;obtain ⟨x56,e56,h⟩:=Ae h;obtain ⟨y57,h57,h⟩:=Ae h;refine A1 22 ?_;refine dz0 (.own (oi 0 1) (.slice .int) 0 l49_m7.length) ?_;refine dz0 (ai ((l19_m10:Nat):Int)) ?_;refine ds0 (.elt (oi 0 1) l19_m10 0) (zo (t:=.slice .int) (o:=oi 0 1) (len:=l49_m7.length) (k:=.i64) (m:=((l19_m10:Nat):Int)) (Ay _) (Av e55)) ?_;refine dsl (.own (kid (oi 1 1) l19_m10) .int 0 x55.length) (F0 (o:=oi 0 1) (p:=oi 1 1) (e1:=66) (u:=.int) (xss:=l49_m7) (row:=x55) (j:=l19_m10) (by kernel_rfl) (by kernel_rfl) e55) ?_;refine dz0 (ai ((l49_m92:Nat):Int)) ?_;refine dz0 (ai a0) ?_;refine dz0 (.own (oi 0 1) (.slice .int) 0 l49_m7.length) ?_;refine dz0 (ai ((l19_m10:Nat):Int)) ?_;refine ds0 (.elt (oi 0 1) l19_m10 0) (zo (t:=.slice .int) (o:=oi 0 1) (len:=l49_m7.length) (k:=.i64) (m:=((l19_m10:Nat):Int)) (Ay _) (Av e55)) ?_;refine dsl (.own (kid (oi 1 1) l19_m10) .int 0 x55.length) (F0 (o:=oi 0 1) (p:=oi 1 1) (e1:=66) (u:=.int) (xss:=l49_m7) (row:=x55) (j:=l19_m10) (by kernel_rfl) (by kernel_rfl) e55) ?_;refine dz0 (ai ((l49_m92:Nat):Int)) ?_;refine ds0 (.elt (kid (oi 1 1) l19_m10) l49_m92 0) (zo (t:=.int) (o:=kid (oi 1 1) l19_m10) (len:=x55.length) (k:=.i64) (m:=((l49_m92:Nat):Int)) (Ay _) (Av e56)) ?_;refine dsl (ai x56) (C0 (i:=kid (oi 1 1) l19_m10) (j:=l49_m92) (k:=0) (e:=3) (t:=.int) (xs:=x55) (by kernel_rfl) (Ago.trans (Bo (by kernel_rfl) e55)) e56 (by kernel_rfl)) ?_;refine dz0 (ai y46) ?_;refine Da (ai y57) [] [ai a0,ai x56,ai y46] _ (caps:=[]) (args0:=[ai a0,ai x56,ai y46]) trivial (by kernel_rfl) (Ry h57) Rh ?_;refine ds0 (.elt (kid (oi 1 1) l19_m10) l49_m92 0) (zo (t:=.int) (o:=kid (oi 1 1) l19_m10) (len:=x55.length) (k:=.i64) (m:=((l49_m92:Nat):Int)) (Ay _) (Av e56)) ?_;refine Y0 (kid (oi 1 1) l19_m10) (kid (oi 1 1) l19_m10) (.arr 3 .int (x55.set l49_m92 y57)) (Adb (i:=kid (oi 1 1) l19_m10) (j:=l49_m92) (k:=0) (e:=3) (t:=.int) (xs:=x55) (cs:=[ai y57]) (x1:=y57) (by kernel_rfl) (Ago.trans (Bo (by kernel_rfl) e55)) e56 (by kernel_rfl) (by kernel_rfl)) ?_;refine Anx (Aim (o:=oi 0 1) (p:=oi 1 1) (e1:=66) (e:=3) (u:=.int) (xss:=l49_m7) (k:=l19_m10) (row:=x55) (row':=x55.set l49_m92 y57) (by kernel_rfl) rfl (by kernel_rfl) e55 List.length_set) ?_;refine F2 (Bc (by kernel_rfl)) (bn_ (tn_ ?_));refine wr_ ?_;obtain ⟨g58,h⟩:=Au h;refine Aa 24 ?_;refine rs0 (ai ((l49_m92+1:Nat):Int)) (za g58) ?_;refine rsB 1 ?_;refine An (tn_ ?_);obtain rfl:=zj h;exact ⟨(l49_m92+1,l49_m7.set l19_m10 (x55.set l49_m92 y57)),_,(B2 7 (.own (oi 0 1) (.slice .int) 0 l49_m7.length) (.own (oi 0 1) (.slice .int) 0 ((l49_m7.set l19_m10 (x55.set l49_m92 y57)).length)) (by kernel_rfl) (congrArg (fun z_=>((.own (oi 0 1) (.slice .int) 0 z_):AV)) ((Eq.trans (b:=l49_m7.length) rfl List.length_set.symm):l49_m7.length=(l49_m7.set l19_m10 (x55.set l49_m92 y57)).length))).trans (Ac []),⟨l49_m92+1,l49_m7.set l19_m10 (x55.set l49_m92 y57),rfl,rfl⟩,hn49⟩
     have q52_:=of_decide_eq_false q52;refine Ag q52 ?_;refine Az (te_ (te_ (be_ (tn_ ?_))));obtain rfl:=zj h;have h:=hn49
     (try dsimp only at h);obtain rfl:=zj h;exact ⟨_,Ac [],rfl⟩
    rintro l47_m7 _ rfl h
    (try dsimp only at h);refine Aw h (fun (l59_m7:List (List Int)) S_=>S_=⟨Ao [(0,ai a0),(1,ai a1),(7,.own (oi 0 1) (.slice .int) 0 l59_m7.length),(10,ai ((l19_m10:Nat):Int)),(11,ai ((l19_m11:Nat):Int))],Ak (Aq [(oi 0 1,.mat 66 (oi 1 1) .int l59_m7),(oi 1 1,.pool 3 .int l59_m7)]),2⟩) ?_ ?_
    ·intro v_ h;refine Aj ?_;refine Al ?_;refine A3 h (fun t_ S_=>∃ (l61_m114:Nat),∃ (l61_m7:List (List Int)),t_=(l61_m114,l61_m7)∧S_=⟨Ao [(0,ai a0),(1,ai a1),(7,.own (oi 0 1) (.slice .int) 0 l61_m7.length),(10,ai ((l19_m10:Nat):Int)),(11,ai ((l19_m11:Nat):Int)),(113,ai ((l47_m7.length:Nat):Int)),(114,ai ((l61_m114:Nat):Int))],Ak (Aq [(oi 0 1,.mat 66 (oi 1 1) .int l61_m7),(oi 1 1,.pool 3 .int l61_m7)]),2⟩) ⟨_,Ac [],⟨0,l47_m7,rfl,rfl⟩⟩ ?_;rintro n_ _ _ c_ ⟨l61_m114,l61_m7,rfl,rfl⟩ h hn61
     (try dsimp only at h);unfold Di at h;unfold Kw;refine Aj ?_;refine Ab ?_;rcases Ad h with ⟨q64,h⟩ | ⟨q64,h⟩
     ·have q64_:=of_decide_eq_true q64;refine Af q64 ?_;refine Ai (tn_ ?_);refine wr_ ?_;refine Aw h (fun (l65_m7:List (List Int)) S_=>S_=⟨Ao [(0,ai a0),(1,ai a1),(7,.own (oi 0 1) (.slice .int) 0 l65_m7.length),(10,ai ((l19_m10:Nat):Int)),(11,ai ((l19_m11:Nat):Int)),(113,ai ((l47_m7.length:Nat):Int)),(114,ai ((l61_m114:Nat):Int))],Ak (Aq [(oi 0 1,.mat 66 (oi 1 1) .int l65_m7),(oi 1 1,.pool 3 .int l65_m7)]),2⟩) ?_ ?_
      ·intro v_ h;refine Al ?_;refine Aj ?_;refine Ab ?_;refine Aw h (fun (l68_m129:Bool) S_=>S_=⟨Ao [(0,ai a0),(1,ai a1),(7,.own (oi 0 1) (.slice .int) 0 l61_m7.length),(10,ai ((l19_m10:Nat):Int)),(11,ai ((l19_m11:Nat):Int)),(16,ai ((l61_m114:Nat):Int)),(113,ai ((l47_m7.length:Nat):Int)),(114,ai ((l61_m114:Nat):Int)),(129,.bool l68_m129)],Ak (Aq [(oi 0 1,.mat 66 (oi 1 1) .int l61_m7),(oi 1 1,.pool 3 .int l61_m7)]),2⟩) ?_ ?_
       ·intro v_ h;rcases Ad h with ⟨q69,h⟩ | ⟨q69,h⟩
        ·refine Aa 18 ?_;refine rz0 (ai ((l61_m114:Nat):Int)) ?_;refine rz0 (ai ((l19_m10:Nat):Int)) ?_;refine rz0 (.bool (((l61_m114:Nat):Int)==((l19_m10:Nat):Int))) ?_;refine rz0 (.bool (((l61_m114:Nat):Int)==((l19_m10:Nat):Int))) ?_;refine zs q69 ?_;refine zs q69 ?_;refine zs q69 ?_;refine zs q69 ?_;refine zs q69 ?_;refine zs q69 ?_;refine zs q69 ?_;refine zs q69 ?_;refine rs0 (.bool true) (zT q69) ?_;refine An (tn_ ?_);obtain rfl:=zj h;exact ⟨_,Ac [],rfl⟩
        obtain ⟨x70,e70,h⟩:=Ae h;obtain ⟨x71,e71,h⟩:=Ae h;refine Aa 18 ?_;refine rz0 (ai ((l61_m114:Nat):Int)) ?_;refine rz0 (ai ((l19_m10:Nat):Int)) ?_;refine rz0 (.bool (((l61_m114:Nat):Int)==((l19_m10:Nat):Int))) ?_;refine rz0 (.bool (((l61_m114:Nat):Int)==((l19_m10:Nat):Int))) ?_;refine rs0 (.own (oi 0 1) (.slice .int) 0 l61_m7.length) (zg q69) ?_;refine rs0 (ai ((l61_m114:Nat):Int)) (zg q69) ?_;refine rs0 (.elt (oi 0 1) l61_m114 0) (Fv (by kernel_rfl) q69 (zo (t:=.slice .int) (o:=oi 0 1) (len:=l61_m7.length) (k:=.i64) (m:=((l61_m114:Nat):Int)) (Ay _) (Av e70))) ?_;refine rsl (.own (kid (oi 1 1) l61_m114) .int 0 x70.length) (Fv (by kernel_rfl) q69 (F0 (o:=oi 0 1) (p:=oi 1 1) (e1:=66) (u:=.int) (xss:=l61_m7) (row:=x70) (j:=l61_m114) (by kernel_rfl) (by kernel_rfl) e70)) ?_;refine rs0 (ai ((l19_m11:Nat):Int)) (zg q69) ?_;refine rs0 (.elt (kid (oi 1 1) l61_m114) l19_m11 0) (Fv (by kernel_rfl) q69 (zo (t:=.int) (o:=kid (oi 1 1) l61_m114) (len:=x70.length) (k:=.i64) (m:=((l19_m11:Nat):Int)) (Ay _) (Av e71))) ?_;refine rsl (ai x71) (Fv (by kernel_rfl) q69 (C0 (i:=kid (oi 1 1) l61_m114) (j:=l19_m11) (k:=0) (e:=3) (t:=.int) (xs:=x70) (by kernel_rfl) (Bo (by kernel_rfl) e70) e71 (by kernel_rfl))) ?_;refine rs0 (.bool (x71==0)) (zg q69) ?_;refine rs0 (.bool (x71==0)) (zF q69) ?_;refine An (tn_ ?_);obtain rfl:=zj h;exact ⟨_,Ac [],rfl⟩
       rintro l68_m129 _ rfl h
       (try dsimp only at h);rcases Ad h with ⟨q72,h⟩ | ⟨q72,h⟩
       ·refine Af q72 ?_;refine Az (te_ (be_ (tn_ ?_)));obtain rfl:=zj h;exact ⟨_,Ac [],rfl⟩
       refine Ag q72 ?_;refine Ai (tn_ ?_);refine wr_ ?_;refine Ab ?_;obtain ⟨x74,e74,h⟩:=Ae h;obtain ⟨x75,e75,h⟩:=Ae h;refine Aa 10 ?_;refine rz0 (.own (oi 0 1) (.slice .int) 0 l61_m7.length) ?_;refine rz0 (ai ((l61_m114:Nat):Int)) ?_;refine rs0 (.elt (oi 0 1) l61_m114 0) (zo (t:=.slice .int) (o:=oi 0 1) (len:=l61_m7.length) (k:=.i64) (m:=((l61_m114:Nat):Int)) (Ay _) (Av e74)) ?_;refine rsl (.own (kid (oi 1 1) l61_m114) .int 0 x74.length) (F0 (o:=oi 0 1) (p:=oi 1 1) (e1:=66) (u:=.int) (xss:=l61_m7) (row:=x74) (j:=l61_m114) (by kernel_rfl) (by kernel_rfl) e74) ?_;refine rz0 (ai ((l19_m11:Nat):Int)) ?_;refine rs0 (.elt (kid (oi 1 1) l61_m114) l19_m11 0) (zo (t:=.int) (o:=kid (oi 1 1) l61_m114) (len:=x74.length) (k:=.i64) (m:=((l19_m11:Nat):Int)) (Ay _) (Av e75)) ?_;refine rsl (ai x75) (C0 (i:=kid (oi 1 1) l61_m114) (j:=l19_m11) (k:=0) (e:=3) (t:=.int) (xs:=x74) (by kernel_rfl) (Bo (by kernel_rfl) e74) e75 (by kernel_rfl)) ?_;refine rsB 1 ?_;refine An (tn_ ?_);refine wr_ ?_;refine Ab ?_;refine Aa 16 ?_;refine rz0 (.own (oi 0 1) (.slice .int) 0 l61_m7.length) ?_;refine rz0 (ai ((l61_m114:Nat):Int)) ?_;refine rs0 (.elt (oi 0 1) l61_m114 0) (zo (t:=.slice .int) (o:=oi 0 1) (len:=l61_m7.length) (k:=.i64) (m:=((l61_m114:Nat):Int)) (Ay _) (Av e74)) ?_;refine rsl (.own (kid (oi 1 1) l61_m114) .int 0 x74.length) (F0 (o:=oi 0 1) (p:=oi 1 1) (e1:=66) (u:=.int) (xss:=l61_m7) (row:=x74) (j:=l61_m114) (by kernel_rfl) (by kernel_rfl) e74) ?_;refine rsB 2 ?_;refine An (tn_ ?_);refine wr_ ?_;refine Al ?_;refine A3 h (fun t_ S_=>∃ (l77_m142:Nat),∃ (l77_m7:List (List Int)),t_=(l77_m142,l77_m7)∧S_=⟨Ao [(0,ai a0),(1,ai a1),(7,.own (oi 0 1) (.slice .int) 0 l77_m7.length),(10,ai ((l19_m10:Nat):Int)),(11,ai ((l19_m11:Nat):Int)),(16,ai ((l61_m114:Nat):Int)),(17,ai x75),(113,ai ((l47_m7.length:Nat):Int)),(114,ai ((l61_m114:Nat):Int)),(141,ai ((x74.length:Nat):Int)),(142,ai ((l77_m142:Nat):Int))],Ak (Aq [(oi 0 1,.mat 66 (oi 1 1) .int l77_m7),(oi 1 1,.pool 3 .int l77_m7)]),2⟩) ⟨_,Ac [],⟨0,l61_m7,rfl,rfl⟩⟩ ?_;rintro n_ _ _ c_ ⟨l77_m142,l77_m7,rfl,rfl⟩ h hn77
       (try dsimp only at h);unfold De at h;unfold Kb;refine Aj ?_;refine Ab ?_;rcases Ad h with ⟨q80,h⟩ | ⟨q80,h⟩
       ·have q80_:=of_decide_eq_true q80;refine Af q80 ?_;refine Ai (tn_ ?_);refine wr_ ?_;refine Ab ?_;refine Al ?_;refine Aj ?_;obtain ⟨x83,e83,h⟩:=Ae h;obtain ⟨x84,e84,h⟩:=Ae h;obtain ⟨x85,e85,h⟩:=Ae h;obtain ⟨x86,e86,h⟩:=Ae h;obtain ⟨y87,h87,h⟩:=Ae h;obtain ⟨y88,h88,h⟩:=Ae h;refine A1 31 ?_;refine dz0 (.own (oi 0 1) (.slice .int) 0 l77_m7.length) ?_;refine dz0 (ai ((l61_m114:Nat):Int)) ?_;refine ds0 (.elt (oi 0 1) l61_m114 0) (zo (t:=.slice .int) (o:=oi 0 1) (len:=l77_m7.length) (k:=.i64) (m:=((l61_m114:Nat):Int)) (Ay _) (Av e83)) ?_;refine dsl (.own (kid (oi 1 1) l61_m114) .int 0 x83.length) (F0 (o:=oi 0 1) (p:=oi 1 1) (e1:=66) (u:=.int) (xss:=l77_m7) (row:=x83) (j:=l61_m114) (by kernel_rfl) (by kernel_rfl) e83) ?_;refine dz0 (ai ((l77_m142:Nat):Int)) ?_;refine dz0 (ai a0) ?_;refine dz0 (.own (oi 0 1) (.slice .int) 0 l77_m7.length) ?_;refine dz0 (ai ((l61_m114:Nat):Int)) ?_;refine ds0 (.elt (oi 0 1) l61_m114 0) (zo (t:=.slice .int) (o:=oi 0 1) (len:=l77_m7.length) (k:=.i64) (m:=((l61_m114:Nat):Int)) (Ay _) (Av e83)) ?_;refine dsl (.own (kid (oi 1 1) l61_m114) .int 0 x83.length) (F0 (o:=oi 0 1) (p:=oi 1 1) (e1:=66) (u:=.int) (xss:=l77_m7) (row:=x83) (j:=l61_m114) (by kernel_rfl) (by kernel_rfl) e83) ?_;refine dz0 (ai ((l77_m142:Nat):Int)) ?_;refine ds0 (.elt (kid (oi 1 1) l61_m114) l77_m142 0) (zo (t:=.int) (o:=kid (oi 1 1) l61_m114) (len:=x83.length) (k:=.i64) (m:=((l77_m142:Nat):Int)) (Ay _) (Av e84)) ?_;refine dsl (ai x84) (C0 (i:=kid (oi 1 1) l61_m114) (j:=l77_m142) (k:=0) (e:=3) (t:=.int) (xs:=x83) (by kernel_rfl) (Ago.trans (Bo (by kernel_rfl) e83)) e84 (by kernel_rfl)) ?_;refine dz0 (ai a0) ?_;refine dz0 (ai x75) ?_;refine dz0 (.own (oi 0 1) (.slice .int) 0 l77_m7.length) ?_;refine dz0 (ai ((l19_m10:Nat):Int)) ?_;refine ds0 (.elt (oi 0 1) l19_m10 0) (zo (t:=.slice .int) (o:=oi 0 1) (len:=l77_m7.length) (k:=.i64) (m:=((l19_m10:Nat):Int)) (Ay _) (Av e85)) ?_;refine dsl (.own (kid (oi 1 1) l19_m10) .int 0 x85.length) (F0 (o:=oi 0 1) (p:=oi 1 1) (e1:=66) (u:=.int) (xss:=l77_m7) (row:=x85) (j:=l19_m10) (by kernel_rfl) (by kernel_rfl) e85) ?_;refine dz0 (ai ((l77_m142:Nat):Int)) ?_;refine ds0 (.elt (kid (oi 1 1) l19_m10) l77_m142 0) (zo (t:=.int) (o:=kid (oi 1 1) l19_m10) (len:=x85.length) (k:=.i64) (m:=((l77_m142:Nat):Int)) (Ay _) (Av e86)) ?_;refine dsl (ai x86) (C0 (i:=kid (oi 1 1) l19_m10) (j:=l77_m142) (k:=0) (e:=3) (t:=.int) (xs:=x85) (by kernel_rfl) (Ago.trans (Bo (by kernel_rfl) e85)) e86 (by kernel_rfl)) ?_;refine Da (ai y87) [] [ai a0,ai x75,ai x86] _ (caps:=[]) (args0:=[ai a0,ai x75,ai x86]) trivial (by kernel_rfl) (Ry h87) Rh ?_;refine Da (ai y88) [] [ai a0,ai x84,ai y87] _ (caps:=[]) (args0:=[ai a0,ai x84,ai y87]) trivial (by kernel_rfl) (Afk h88) Ad2 ?_;refine ds0 (.elt (kid (oi 1 1) l61_m114) l77_m142 0) (zo (t:=.int) (o:=kid (oi 1 1) l61_m114) (len:=x83.length) (k:=.i64) (m:=((l77_m142:Nat):Int)) (Ay _) (Av e84)) ?_;refine Y0 (kid (oi 1 1) l61_m114) (kid (oi 1 1) l61_m114) (.arr 3 .int (x83.set l77_m142 y88)) (Adb (i:=kid (oi 1 1) l61_m114) (j:=l77_m142) (k:=0) (e:=3) (t:=.int) (xs:=x83) (cs:=[ai y88]) (x1:=y88) (by kernel_rfl) (Ago.trans (Bo (by kernel_rfl) e83)) e84 (by kernel_rfl) (by kernel_rfl)) ?_;refine Anx (Aim (o:=oi 0 1) (p:=oi 1 1) (e1:=66) (e:=3) (u:=.int) (xss:=l77_m7) (k:=l61_m114) (row:=x83) (row':=x83.set l77_m142 y88) (by kernel_rfl) rfl (by kernel_rfl) e83 List.length_set) ?_;refine F2 (Bc (by kernel_rfl)) (bn_ (tn_ ?_));refine wr_ ?_;obtain ⟨g89,h⟩:=Au h;refine Aa 33 ?_;refine rs0 (ai ((l77_m142+1:Nat):Int)) (za g89) ?_;refine rsB 1 ?_;refine An (tn_ ?_);obtain rfl:=zj h;exact ⟨(l77_m142+1,l77_m7.set l61_m114 (x83.set l77_m142 y88)),_,(B2 7 (.own (oi 0 1) (.slice .int) 0 l77_m7.length) (.own (oi 0 1) (.slice .int) 0 ((l77_m7.set l61_m114 (x83.set l77_m142 y88)).length)) (by kernel_rfl) (congrArg (fun z_=>((.own (oi 0 1) (.slice .int) 0 z_):AV)) ((Eq.trans (b:=l77_m7.length) rfl List.length_set.symm):l77_m7.length=(l77_m7.set l61_m114 (x83.set l77_m142 y88)).length))).trans (Ac []),⟨l77_m142+1,l77_m7.set l61_m114 (x83.set l77_m142 y88),rfl,rfl⟩,hn77⟩
       have q80_:=of_decide_eq_false q80;refine Ag q80 ?_;refine Az (te_ (te_ (be_ (bn_ (tn_ ?_)))));obtain rfl:=zj h;have h:=hn77
       (try dsimp only at h);obtain rfl:=zj h;exact ⟨_,Ac [],rfl⟩
      rintro l65_m7 _ rfl h
      (try dsimp only at h);obtain ⟨g90,h⟩:=Au h;refine Aa 4 ?_;refine rs0 (ai ((l61_m114+1:Nat):Int)) (za g90) ?_;refine rsB 1 ?_;refine An (tn_ ?_);obtain rfl:=zj h;exact ⟨(l61_m114+1,l65_m7),_,Ac [],⟨l61_m114+1,l65_m7,rfl,rfl⟩,hn61⟩
     have q64_:=of_decide_eq_false q64;refine Ag q64 ?_;refine Az (te_ (te_ (be_ (tn_ ?_))));obtain rfl:=zj h;have h:=hn61
     (try dsimp only at h);obtain rfl:=zj h;exact ⟨_,Ac [],rfl⟩
    rintro l59_m7 _ rfl h
    (try dsimp only at h);obtain ⟨g91,h⟩:=Au h;refine Aa 5 ?_;refine rz0 (ai ((l19_m10:Nat):Int)) ?_;refine rs0 (ai ((l19_m10+1:Nat):Int)) (za g91) ?_;refine rsB 1 ?_;refine An (bn_ (tn_ ?_));obtain rfl:=zj h;exact ⟨_,Ac [],⟨l19_m10+1,l59_m7,rfl,rfl⟩⟩
   rintro _ _ ⟨l24_m10,l24_m7,rfl,rfl⟩ h
   (try dsimp only at h);obtain ⟨g92,h⟩:=Au h;refine Aa 5 ?_;refine rz0 (ai ((l19_m11:Nat):Int)) ?_;refine rs0 (ai ((l19_m11+1:Nat):Int)) (za g92) ?_;refine rsB 1 ?_;refine An (tn_ ?_);obtain rfl:=zj h;exact ⟨(l24_m10,l19_m11+1,l24_m7),_,Ac [],⟨l24_m10,l19_m11+1,l24_m7,rfl,rfl⟩,hn19⟩
  refine Ag q23 ?_;refine Az (te_ (te_ (be_ (tn_ ?_))));obtain rfl:=zj h;have h:=hn19
  (try dsimp only at h);obtain rfl:=zj h;exact ⟨_,Ac [],⟨l19_m10,l19_m7,rfl,rfl⟩⟩
 rintro _ _ ⟨l17_m10,l17_m7,rfl,rfl⟩ h
 (try dsimp only at h);refine Ab ?_;obtain ⟨g94,h⟩:=Au h;refine Aa 6 ?_;refine rz0 (.own (oi 0 1) (.slice .int) 0 l17_m7.length) ?_;refine rz0 (ai ((l17_m10:Nat):Int)) ?_;refine rs0 (.own (oi 0 1) (.slice .int) 0 l17_m10) (Ajg (t:=.slice .int) (i:=oi 0 1) (off:=0) (len:=l17_m7.length) (l:=0) (h:=((l17_m10:Nat):Int)) (by kernel_rfl) (by kernel_rfl) (by kernel_rfl) rfl g94 rfl (by omega)) ?_;refine rsB 1 ?_;refine An (tn_ ?_);refine wr_ ?_;refine Ah ?_;obtain rfl:=zj h;exact Nn [.own (oi 0 1) (.slice .int) 0 ((l17_m7.take l17_m10).length)] ((Ame (e1:=66) (e:=3) (u:=.int) (xss:=l17_m7) (n:=l17_m7.length) (k:=l17_m10) 9000 (oi 0 1) (oi 1 1) (by kernel_rfl) (by kernel_rfl) rfl (by kernel_rfl) (by omega) (by kernel_rfl) (by kernel_rfl) (by kernel_rfl)).trans ((B2 6 (.own (oi 0 1) (.slice .int) 0 l17_m10) (.own (oi 0 1) (.slice .int) 0 ((l17_m7.take l17_m10).length)) (by kernel_rfl) (congrArg (fun z_=>((.own (oi 0 1) (.slice .int) 0 z_):AV)) ((Anl (by omega)):l17_m10=(l17_m7.take l17_m10).length))).trans (Ac (tl:=[(6,.own (oi 0 1) (.slice .int) 0 (l17_m7.take l17_m10).length)]) (g:=2) [(oi 1 1,oi 9000 6)])))
def Of:AC :=
 (.seq (.seq (rg [xo 10 (qm (tm 2)),xo 11 (qb .gtr (tm 10) (ci 0))])
 (.cond (tm 11)
  .skip
  (.exit 0)))
 (.seq (.block 1 (.seq (.seq (rg [xo 14 (qm (tm 2)),xo 15 (qb .rem (tm 14) (ci 2)),xo 16 (qb .eql (tm 15) (ci 1))])
 (.cond (tm 16)
  (rg [xo 17 (qm (tm 7)),xo 18 (qm (tm 1)),xo 19 (qb .mul (tm 17) (tm 18)),xo 20 (qm (tm 0)),xo 21 (qb .rem (tm 19) (tm 20)),xo 7 (qm (tm 21))])
  .skip))
 (rg [xo 22 (qm (tm 1)),xo 23 (qm (tm 1)),xo 24 (qb .mul (tm 22) (tm 23)),xo 25 (qm (tm 0)),xo 26 (qb .rem (tm 24) (tm 25)),xo 1 (qm (tm 26))])))
 (rg [xo 12 (qm (tm 2)),xo 13 (qb .quo (tm 12) (ci 2)),xo 2 (qm (tm 13))])))
def Wc:AC :=
 (.seq (rg [xo 6 (qm (ci 0))])
 (.seq (rg [xo 8 (qm (tm 0)),xo 9 (qb .rem (ci 1) (tm 8)),xo 7 (qm (tm 9))])
 (.seq (.block 0 (.loop Of))
 (.seq (rg [xo 27 (qm (tm 7)),xo 6 (qm (tm 27))])
 .ret))))
def Ai2:List Res:=[.tmp 6]
theorem Ag9:Am Tryz.prog Tryz.f105=some (Wc,Ai2):=by kernel_rfl
def Ot (a0:Int) (l5_m1:Int) (l5_m2:Int) (l5_m7:Int):Option (Ctl (Int×Int×Int) Int) :=
 cond (decide (0<l5_m2))
 (Option.bind (cond ((Int.tmod l5_m2 2)==1)
   (og (a0≠0) <|
   some (Int.tmod (wI (l5_m7*l5_m1)) a0))
   (some l5_m7)) fun l10_m7 =>
 og (a0≠0) <|
 some (Ctl.next (Int.tmod (wI (l5_m1*l5_m1)) a0,wI (Int.tdiv l5_m2 2),l10_m7)))
 (some (Ctl.out l5_m7))
def Nz (a0:Int) (a1:Int) (a2:Int):Option Int :=
 og (a0≠0) <|
Option.bind (A4 (fun s_:Int×Int×Int=>Ot a0 s_.1 s_.2.1 s_.2.2) 4611686018427387904 (a1,a2,Int.tmod 1 a0)) fun l4_m7 =>
some l4_m7
def Af9 (r:Int):RV:=⟨false,[(false,[.sc (.int .i64 r)])]⟩
theorem Aff {a0:Int} {a1:Int} {a2:Int} {r:Int} (h:Nz a0 a1 a2=some r):Ax Tryz.prog Tab 105 [ai a0,ai a1,ai a2] (Af9 r):=by
 refine Ar (by kernel_rfl) Tryz.func105 Ag9 (n:=28) (by kernel_rfl) (by simp) (tl:=[(0,ai a0),(1,ai a1),(2,ai a2)]) rfl ?_;unfold Wc;unfold Nz at h;refine Aj ?_;refine Ab ?_;obtain ⟨g3,h⟩:=Au h;refine Aa 5 ?_;refine rz0 (ai a0) ?_;refine rs0 (ai (Int.tmod 1 a0)) (Pz (k:=.i64) (a:=1) (b:=a0) (by kernel_rfl) (by kernel_rfl) g3) ?_;refine rsB 1 ?_;refine An (tn_ ?_);refine wr_ ?_;refine Aw h (fun (l4_m7:Int) S_=>S_=⟨Ao [(7,ai l4_m7)],Ak (Aq []),2⟩) ?_ ?_
 ·intro v_ h;refine Al ?_;refine A3 h (fun t_ S_=>∃ (l5_m1:Int),∃ (l5_m2:Int),∃ (l5_m7:Int),t_=(l5_m1,l5_m2,l5_m7)∧S_=⟨Ao [(0,ai a0),(1,ai l5_m1),(2,ai l5_m2),(7,ai l5_m7)],Ak (Aq []),2⟩) ⟨_,Ac [],⟨a1,a2,Int.tmod 1 a0,rfl,rfl⟩⟩ ?_;rintro n_ _ _ c_ ⟨l5_m1,l5_m2,l5_m7,rfl,rfl⟩ h hn5
  (try dsimp only at h);unfold Ot at h;unfold Of;refine Ab ?_;refine Aj ?_;rcases Ad h with ⟨q8,h⟩ | ⟨q8,h⟩
  ·have q8_:=of_decide_eq_true q8;refine Af q8 ?_;refine Ai (tn_ ?_);refine wr_ ?_;refine Ab ?_;refine Al ?_;refine Aw h (fun (l10_m7:Int) S_=>S_=⟨Ao [(0,ai a0),(1,ai l5_m1),(2,ai l5_m2),(7,ai l10_m7)],Ak (Aq []),2⟩) ?_ ?_
   ·intro v_ h;refine Ab ?_;refine Aa 7 ?_;refine rz0 (ai l5_m2) ?_;refine rs0 (ai (Int.tmod l5_m2 2)) (Pz (k:=.i64) (a:=l5_m2) (b:=2) (by kernel_rfl) (by kernel_rfl) (by decide)) ?_;refine rsB 1 ?_;refine An (tn_ ?_);refine wr_ ?_;rcases Ad h with ⟨q12,h⟩ | ⟨q12,h⟩
    ·refine Af q12 ?_;obtain ⟨g13,h⟩:=Au h;refine Aa 13 ?_;refine rz0 (ai l5_m7) ?_;refine rz0 (ai l5_m1) ?_;refine rz0 (ai (wI (l5_m7*l5_m1))) ?_;refine rz0 (ai a0) ?_;refine rs0 (ai (Int.tmod (wI (l5_m7*l5_m1)) a0)) (Pz (k:=.i64) (a:=wI (l5_m7*l5_m1)) (b:=a0) (by kernel_rfl) (by kernel_rfl) g13) ?_;refine rsB 1 ?_;refine An (tn_ ?_);obtain rfl:=zj h;exact ⟨_,Ac [],rfl⟩
    refine Ag q12 ?_;refine Ai (tn_ ?_);obtain rfl:=zj h;exact ⟨_,Ac [],rfl⟩
   rintro l10_m7 _ rfl h
   (try dsimp only at h);obtain ⟨g14,h⟩:=Au h;refine Aa 8 ?_;refine rz0 (ai l5_m1) ?_;refine rz0 (ai l5_m1) ?_;refine rz0 (ai (wI (l5_m1*l5_m1))) ?_;refine rz0 (ai a0) ?_;refine rs0 (ai (Int.tmod (wI (l5_m1*l5_m1)) a0)) (Pz (k:=.i64) (a:=wI (l5_m1*l5_m1)) (b:=a0) (by kernel_rfl) (by kernel_rfl) g14) ?_;refine rsB 1 ?_;refine An (bn_ (tn_ ?_));refine wr_ ?_;refine Aa 11 ?_;refine rz0 (ai l5_m2) ?_;refine rs0 (ai (wI (Int.tdiv l5_m2 2))) (Awx (k:=.i64) (a:=l5_m2) (b:=2) (by kernel_rfl) (by kernel_rfl) (by decide)) ?_;refine rsB 1 ?_;refine An (tn_ ?_);obtain rfl:=zj h;exact ⟨(Int.tmod (wI (l5_m1*l5_m1)) a0,wI (Int.tdiv l5_m2 2),l10_m7),_,Ac [],⟨Int.tmod (wI (l5_m1*l5_m1)) a0,wI (Int.tdiv l5_m2 2),l10_m7,rfl,rfl⟩,hn5⟩
  have q8_:=of_decide_eq_false q8;refine Ag q8 ?_;refine Az (te_ (te_ (be_ (tn_ ?_))));obtain rfl:=zj h;have h:=hn5
  (try dsimp only at h);obtain rfl:=zj h;exact ⟨_,Ac [],rfl⟩
 rintro l4_m7 _ rfl h
 (try dsimp only at h);refine Aj ?_;refine Ah ?_;obtain rfl:=zj h;exact A0 [ai l4_m7] (Ap rfl zl As)
def Adk:AC :=
 (.seq (rg [xo 2 (qm (ci 0))])
 (.seq (.seq (rg [xo 3 (qm (tm 0))])
 (.cond (tm 3)
  (.seq (rg [xo 2 (qm (ci 1))])
  .ret)
  .skip))
 (.seq (rg [xo 2 (qm (ci 0))])
 .ret)))
def Al6:List Res:=[.tmp 2]
theorem Amx:Am Tryz.prog Tryz.f106=some (Adk,Al6):=by kernel_rfl
def Sq (a0:Bool):Option Int :=
 cond a0
 (some 1)
 (some 0)
def Ajk (r:Int):RV:=⟨false,[(false,[.sc (.int .i64 r)])]⟩
theorem Akx {a0:Bool} {r:Int} (h:Sq a0=some r):Ax Tryz.prog Tab 106 [.bool a0] (Ajk r):=by
 refine Ar (by kernel_rfl) Tryz.func106 Amx (n:=4) (by kernel_rfl) (by simp) (tl:=[(0,.bool a0)]) rfl ?_;unfold Adk;unfold Sq at h;refine Aj ?_;refine Ab ?_;refine Aj ?_;rcases Ad h with ⟨q4,h⟩ | ⟨q4,h⟩
 ·refine Af q4 ?_;refine Aj ?_;refine Ah (tr_ ?_);obtain rfl:=zj h;exact A0 [ai 1] (Ap rfl zl As)
 refine Ag q4 ?_;refine Ai (tn_ ?_);refine wr_ ?_;refine Aj ?_;refine Ah ?_;obtain rfl:=zj h;exact A0 [ai 0] (Ap rfl zl As)
def Pf:AC :=
 (.seq (rg [xo 4 (qm (ci 0))])
 (.seq (rg [xo 5 (qm (tm 0)),xo 6 (qm (tm 1)),xo 7 (qm (tm 0)),xo 8 (qb .sub (tm 7) (ci 2)),xo 9 (qm (tm 0)),xo 10 (qb .eql (tm 9) (ci 2)),xo 11 (qc 106 [tm 10] [[]]),xo 12 (qb .add (tm 8) (tm 11)),xo 13 (qc 105 [tm 5,tm 6,tm 12] [[],[],[]]),xo 4 (qm (tm 13))])
 .ret))
def Aad:List Res:=[.tmp 4]
theorem Aaz:Am Tryz.prog Tryz.f104=some (Pf,Aad):=by kernel_rfl
def Gc (a0:Int) (a1:Int):Option Int :=
 Option.bind (Sq (a0==2)) fun y3 =>
Option.bind (Nz a0 a1 (wI (wI (a0 - 2)+y3))) fun y4 =>
some y4
def Y6 (r:Int):RV:=⟨false,[(false,[.sc (.int .i64 r)])]⟩
theorem Yv {a0:Int} {a1:Int} {r:Int} (h:Gc a0 a1=some r):Ax Tryz.prog Tab 104 [ai a0,ai a1] (Y6 r):=by
 refine Ar (by kernel_rfl) Tryz.func104 Aaz (n:=14) (by kernel_rfl) (by simp) (tl:=[(0,ai a0),(1,ai a1)]) rfl ?_;unfold Pf;unfold Gc at h;refine Aj ?_;refine Ab ?_;obtain ⟨y3,h3,h⟩:=Ae h;obtain ⟨y4,h4,h⟩:=Ae h;refine Aa 12 ?_;refine rz0 (ai a0) ?_;refine rz0 (ai a1) ?_;refine rz0 (ai a0) ?_;refine rz0 (ai (wI (a0 - 2))) ?_;refine rz0 (ai a0) ?_;refine rz0 (.bool (a0==2)) ?_;refine zc (ai y3) [] [.bool (a0==2)] (Akx h3) ?_;refine rz0 (ai (wI (wI (a0 - 2)+y3))) ?_;refine zc (ai y4) [] [ai a0,ai a1,ai (wI (wI (a0 - 2)+y3))] (Aff h4) ?_;refine rsB 1 ?_;refine An (tn_ ?_);refine wr_ ?_;refine Ah ?_;obtain rfl:=zj h;exact A0 [ai y4] (Ap rfl zl As)
def Ld:AC :=
 (.seq (rg [xo 13 (qb .lss (tm 12) (tm 11))])
 (.seq (.cond (tm 13)
  .skip
  (.exit 0))
 (.seq (.block 1 (.seq (rg [xo 14 (qm (tm 12)),xo 15 (qx 1 (tm 10) (tm 12)),xo 16 (ql (tm 15)),xo 8 (qm (tm 14)),xo 9 (qm (tm 16))])
 (rg [xo 17 (qm (tm 1)),xo 18 (qm (tm 8)),xo 19 (qm (tm 0)),xo 20 (qm (tm 1)),xo 21 (qm (tm 8)),xo 22 (qx 1 (tm 20) (tm 21)),xo 23 (ql (tm 22)),xo 24 (qm (tm 2)),xo 25 (qm (tm 9)),xo 26 (qb .mul (tm 24) (tm 25)),xo 27 (qb .add (tm 23) (tm 26)),xo 28 (qc 103 [tm 19,tm 27] [[],[]]),xo 29 (qx 1 (tm 17) (tm 18)),xn (qs (tm 29) (tm 28))])))
 (rg [xo 30 (qb .add (tm 12) (ci 1)),xo 12 (qm (tm 30))]))))
def Og:AC :=
 (.seq (rg [xo 10 (qm (tm 3)),xo 11 (.i (.len (tm 10))),xo 12 (qm (ci 0))])
 (.block 0 (.loop Ld)))
def Yx:List Res:=[]
theorem Y3:Am Tryz.prog Tryz.f96=some (Og,Yx):=by kernel_rfl
theorem Mo:A5 Tryz.prog 96=true:=by kernel_rfl
def E8 (a3:List Int) (a0:Int) (a2:Int) (l3_m12:Nat) (l3_m1:List Int):Option (Ctl (Nat×List Int) (List Int)) :=
 cond (decide (((l3_m12:Nat):Int)<((a3.length:Nat):Int)))
 (Option.bind (a3[l3_m12]?) fun x9 =>
 Option.bind (l3_m1[l3_m12]?) fun x10 =>
 Option.bind (Lc a0 (wI (x10+wI (a2*x9)))) fun y11 =>
 og (l3_m12+1<4611686018427387904) <|
 some (Ctl.next (l3_m12+1,l3_m1.set l3_m12 y11)))
 (some (Ctl.out l3_m1))
def Dp (a0:Int) (a1:List Int) (a2:Int) (a3:List Int):Option (List Int) :=
 A4 (fun s_:Nat×List Int=>E8 a3 a0 a2 s_.1 s_.2) 4611686018427387904 (0,a1)
theorem Mx {a0:Int} {a1:List Int} {a2:Int} {a3:List Int} {r:List Int} (h:Dp a0 a1 a2 a3=some r) {n_a1:Nat} (hn_a1:n_a1=a1.length):Ir Tryz.prog Tab 96 [ai a0,.own (oi 0 0) .int 0 n_a1,ai a2,.tree .int a3] [(oi 0 0,.arr 3 .int a1)] (.tup []) [(oi 0 0,.arr 3 .int r)]:=by
 refine Gt (by kernel_rfl) Tryz.func96 Y3 (n:=31) (by kernel_rfl) (by simp) (tl:=[(0,ai a0),(1,.own (oi 0 0) .int 0 n_a1),(2,ai a2),(3,.tree .int a3)]) rfl (by kernel_rfl) ⟨trivial,trivial⟩ ⟨trivial,trivial⟩ ?_;unfold Og;unfold Dp at h;refine Aj ?_;refine Al ?_;refine A3 h (fun t_ S_=>∃ (l3_m12:Nat),∃ (l3_m1:List Int),t_=(l3_m12,l3_m1)∧S_=⟨Ao [(0,ai a0),(1,.own (oi 0 0) .int 0 l3_m1.length),(2,ai a2),(10,.tree .int a3),(11,ai ((a3.length:Nat):Int)),(12,ai ((l3_m12:Nat):Int))],Ak (Aq [(oi 0 0,.arr 3 .int l3_m1)]),2⟩) ⟨_,(B2 1 (.own (oi 0 0) .int 0 n_a1) (.own (oi 0 0) .int 0 a1.length) (by kernel_rfl) (congrArg (fun z_=>((.own (oi 0 0) .int 0 z_):AV)) (hn_a1:n_a1=a1.length))).trans (Ac []),⟨0,a1,rfl,rfl⟩⟩ ?_;rintro n_ _ _ c_ ⟨l3_m12,l3_m1,rfl,rfl⟩ h hn3
 (try dsimp only at h);unfold E8 at h;unfold Ld;refine Aj ?_;refine Ab ?_;rcases Ad h with ⟨q6,h⟩ | ⟨q6,h⟩
 ·have q6_:=of_decide_eq_true q6;refine Af q6 ?_;refine Ai (tn_ ?_);refine wr_ ?_;refine Ab ?_;refine Al ?_;refine Ab ?_;obtain ⟨x9,e9,h⟩:=Ae h;refine Aa 8 ?_;refine rz0 (ai ((l3_m12:Nat):Int)) ?_;refine rs0 (.telt none .int x9 0) (zi (t:=.int) (xs:=a3) (k:=.i64) (m:=((l3_m12:Nat):Int)) (Ay _) e9) ?_;refine rsB 3 ?_;refine An (tn_ ?_);refine wr_ ?_;obtain ⟨x10,e10,h⟩:=Ae h;obtain ⟨y11,h11,h⟩:=Ae h;refine Aa 22 ?_;refine rz0 (.own (oi 0 0) .int 0 l3_m1.length) ?_;refine rz0 (ai ((l3_m12:Nat):Int)) ?_;refine rz0 (ai a0) ?_;refine rz0 (.own (oi 0 0) .int 0 l3_m1.length) ?_;refine rz0 (ai ((l3_m12:Nat):Int)) ?_;refine rs0 (.elt (oi 0 0) l3_m12 0) (zo (t:=.int) (o:=oi 0 0) (len:=l3_m1.length) (k:=.i64) (m:=((l3_m12:Nat):Int)) (Ay _) (Av e10)) ?_;refine rsl (ai x10) (C0 (i:=oi 0 0) (j:=l3_m12) (k:=0) (e:=3) (t:=.int) (xs:=l3_m1) (by kernel_rfl) (by kernel_rfl) e10 (by kernel_rfl)) ?_;refine rz0 (ai a2) ?_;refine rz0 (ai x9) ?_;refine rz0 (ai (wI (a2*x9))) ?_;refine rz0 (ai (wI (x10+wI (a2*x9)))) ?_;refine zc (ai y11) [] [ai a0,ai (wI (x10+wI (a2*x9)))] (Akd h11) ?_;refine rs0 (.elt (oi 0 0) l3_m12 0) (zo (t:=.int) (o:=oi 0 0) (len:=l3_m1.length) (k:=.i64) (m:=((l3_m12:Nat):Int)) (Ay _) (Av e10)) ?_;refine Al5 (oi 0 0) (oi 0 0) (.arr 3 .int (l3_m1.set l3_m12 y11)) (Adb (i:=oi 0 0) (j:=l3_m12) (k:=0) (e:=3) (t:=.int) (xs:=l3_m1) (cs:=[ai y11]) (x1:=y11) (by kernel_rfl) (by kernel_rfl) e10 (by kernel_rfl) (by kernel_rfl)) ?_;refine An (bn_ (tn_ ?_));refine wr_ ?_;obtain ⟨g12,h⟩:=Au h;refine Aa 24 ?_;refine rs0 (ai ((l3_m12+1:Nat):Int)) (za g12) ?_;refine rsB 1 ?_;refine An (tn_ ?_);obtain rfl:=zj h;exact ⟨(l3_m12+1,l3_m1.set l3_m12 y11),_,(B2 1 (.own (oi 0 0) .int 0 l3_m1.length) (.own (oi 0 0) .int 0 ((l3_m1.set l3_m12 y11).length)) (by kernel_rfl) (congrArg (fun z_=>((.own (oi 0 0) .int 0 z_):AV)) (((rfl:l3_m1.length=l3_m1.length).trans List.length_set.symm):l3_m1.length=(l3_m1.set l3_m12 y11).length))).trans (Ac []),⟨l3_m12+1,l3_m1.set l3_m12 y11,rfl,rfl⟩,hn3⟩
 have q6_:=of_decide_eq_false q6;refine Ag q6 ?_;refine Az (te_ (te_ (be_ ?_)));obtain rfl:=zj h;have h:=hn3
 (try dsimp only at h);obtain rfl:=zj h;exact Nn [] (Ac (tl:=[]) (g:=2) [])
def Mv:AC :=
 (.seq (rg [xo 12 (qb .lss (tm 11) (tm 10))])
 (.seq (.cond (tm 12)
  .skip
  (.exit 0))
 (.seq (.block 1 (.seq (rg [xo 13 (qx 1 (tm 9) (tm 11)),xo 14 (ql (tm 13)),xo 5 (qm (tm 14))])
 (rg [xo 15 (qm (tm 3)),xo 16 (qm (tm 5)),xo 17 (qc 94 [tm 16] [[some .int]]),xo 18 (.mkV 66 (.slice .int) 1 [tm 17]),xo 19 (.appV 66 (.slice .int) 24 (tm 15) (tm 18)),xo 3 (qm (tm 19))])))
 (rg [xo 20 (qb .add (tm 11) (ci 1)),xo 11 (qm (tm 20))]))))
def Rf:AC :=
 (.seq (rg [xo 2 (qm (.cst .nils))])
 (.seq (rg [xo 6 (qm (tm 0)),xo 7 (.i (.len (tm 6))),xo 8 (.makeV 66 (.slice .int) 24 [.nils] (ci 0) (tm 7)),xo 3 (qm (tm 8))])
 (.seq (.seq (rg [xo 9 (qm (tm 0)),xo 10 (.i (.len (tm 9))),xo 11 (qm (ci 0))])
 (.block 0 (.loop Mv)))
 (.seq (rg [xo 21 (qm (tm 3)),xo 2 (qm (tm 21))])
 .ret))))
def Af7:List Res:=[.tmp 2]
theorem Afg:Am Tryz.prog Tryz.f91=some (Rf,Af7):=by kernel_rfl
theorem Aar:A5 Tryz.prog 91=true:=by kernel_rfl
def Dc (a0:List (List Int)) (l7_m11:Nat) (l7_m3:List (List Int)):Option (Ctl (Nat×List (List Int)) (List (List Int))) :=
 cond (decide (((l7_m11:Nat):Int)<((a0.length:Nat):Int)))
 (Option.bind (a0[l7_m11]?) fun x13 =>
 Option.bind (G0 x13) fun y14 =>
 og (l7_m3.length+1<=1073741824∧(l7_m3.length+1)*24<=140737488355328) <|
 og (l7_m11+1<4611686018427387904) <|
 some (Ctl.next (l7_m11+1,l7_m3++[y14])))
 (some (Ctl.out l7_m3))
def Hh (a0:List (List Int)):Option (List (List Int)) :=
 og (0<=(0:Int)∧(0:Int)<=((a0.length:Nat):Int)∧((a0.length:Nat):Int)<=1073741824∧(24:Int)*((a0.length:Nat):Int)<=140737488355328) <|
Option.bind (A4 (fun s_:Nat×List (List Int)=>Dc a0 s_.1 s_.2) 4611686018427387904 (0,List.replicate 0 ([]:List Int))) fun l5_m3 =>
some l5_m3
theorem Acp {a0:List (List Int)} {r:List (List Int)} (h:Hh a0=some r):Ir Tryz.prog Tab 91 [.tree (.slice .int) a0] [] (.own (oi 0 1) (.slice .int) 0 r.length) [(oi 0 1,.mat 66 (oi 1 1) .int r),(oi 1 1,.pool 3 .int r)]:=by
 refine Gt (by kernel_rfl) Tryz.func91 Afg (n:=22) (by kernel_rfl) (by simp) (tl:=[(0,.tree (.slice .int) a0)]) rfl (by kernel_rfl) trivial ⟨⟨3,.tail _ (.head _)⟩,⟨trivial,trivial⟩⟩ ?_;unfold Rf;unfold Hh at h;refine Aj ?_;refine Ab ?_;obtain ⟨g4,h⟩:=Au h;refine Aa 6 ?_;refine rz0 (.tree (.slice .int) a0) ?_;refine rz0 (ai ((a0.length:Nat):Int)) ?_;refine Am9 (.own (oi 128 4) (.slice .int) 0 0) (oi 128 4) 66 3 .int (List.replicate 0 ([]:List Int)) trivial (Ah2 (j:=0) (k:=.i64) (k':=.i64) (m:=0) (c:=((a0.length:Nat):Int)) 3 (by kernel_rfl) (by kernel_rfl) g4 (by kernel_rfl) rfl) (by kernel_rfl) (by rw [List.length_replicate]) (by kernel_rfl) ?_;refine rsB 1 ?_;refine An (tn_ ?_);refine wr_ ?_;refine Aw h (fun (l5_m3:List (List Int)) S_=>S_=⟨Ao [(3,.own (oi 0 1) (.slice .int) 0 l5_m3.length)],Ak (Aq [(oi 0 1,.mat 66 (oi 1 1) .int l5_m3),(oi 1 1,.pool 3 .int l5_m3)]),2⟩) ?_ ?_
 ·intro v_ h;refine Aj ?_;refine Al ?_;refine A3 h (fun t_ S_=>∃ (l7_m11:Nat),∃ (l7_m3:List (List Int)),t_=(l7_m11,l7_m3)∧S_=⟨Ao [(3,.own (oi 0 1) (.slice .int) 0 l7_m3.length),(9,.tree (.slice .int) a0),(10,ai ((a0.length:Nat):Int)),(11,ai ((l7_m11:Nat):Int))],Ak (Aq [(oi 0 1,.mat 66 (oi 1 1) .int l7_m3),(oi 1 1,.pool 3 .int l7_m3)]),2⟩) ⟨_,(B2 3 (.own (oi 128 4) (.slice .int) 0 0) (.own (oi 128 4) (.slice .int) 0 ((List.replicate 0 ([]:List Int)).length)) (by kernel_rfl) (congrArg (fun z_=>((.own (oi 128 4) (.slice .int) 0 z_):AV)) (List.length_replicate.symm:0=(List.replicate 0 ([]:List Int)).length))).trans (Ac [(oi 0 1,oi 128 4),(oi 1 1,oi 128 4)]),⟨0,List.replicate 0 ([]:List Int),rfl,rfl⟩⟩ ?_;rintro n_ _ _ c_ ⟨l7_m11,l7_m3,rfl,rfl⟩ h hn7
  (try dsimp only at h);unfold Dc at h;unfold Mv;refine Aj ?_;refine Ab ?_;rcases Ad h with ⟨q10,h⟩ | ⟨q10,h⟩
  ·have q10_:=of_decide_eq_true q10;refine Af q10 ?_;refine Ai (tn_ ?_);refine wr_ ?_;refine Ab ?_;refine Al ?_;refine Ab ?_;obtain ⟨x13,e13,h⟩:=Ae h;refine Aa 6 ?_;refine rs0 (.telt none (.slice .int) x13 0) (zi (t:=.slice .int) (xs:=a0) (k:=.i64) (m:=((l7_m11:Nat):Int)) (Ay _) e13) ?_;refine rsB 2 ?_;refine An (tn_ ?_);refine wr_ ?_;obtain ⟨y14,h14,h⟩:=Ae h;obtain ⟨g15,h⟩:=Au h;refine Aa 12 ?_;refine rz0 (.own (oi 0 1) (.slice .int) 0 l7_m3.length) ?_;refine rz0 (.tree .int x13) ?_;refine zc (.own (oi 272 8) .int 0 y14.length) [(oi 272 8,some (.arr 3 .int y14))] [.tree .int x13] (Sa h14) ?_;refine Awt (.own (oi 18 9) (.slice .int) 0 1) (oi 18 9) (.vec 66 1 1 ([.own (oi 272 8) .int 0 y14.length])) trivial (Auw (by kernel_rfl)) ?_;refine rs2 (.own (oi 0 10) (.slice .int) 0 (l7_m3.length+1)) (oi 0 1) (oi 0 10) (.vec 66 1 (l7_m3.length+1) (hdL (oi 1 1) .int l7_m3++[.own (oi 272 8) .int 0 y14.length])) (Ant (u:=.int) (t':=.slice .int) (t2:=.slice .int) (o:=oi 0 1) (q:=oi 18 9) (e2:=66) (p:=oi 1 1) (xss:=l7_m3) (cs:=[.own (oi 272 8) .int 0 y14.length]) (len:=l7_m3.length) (by kernel_rfl) (by kernel_rfl) rfl (by kernel_rfl) (by kernel_rfl) rfl g15) ?_;refine rsB 1 ?_;refine An (bn_ (tn_ ?_));refine ⟨_,Agh (e1:=66) (e:=3) (u:=.int) (n:=l7_m3.length+1) (len:=y14.length) (row:=y14) (ys:=y14) (xss:=l7_m3) 9000 (oi 0 10) (oi 1 1) (oi 272 8) (by kernel_rfl) (by kernel_rfl) rfl (by kernel_rfl) (by kernel_rfl) (Ar3 rfl) (Aql rfl) (by kernel_rfl) (by kernel_rfl) (by kernel_rfl),?_⟩;obtain ⟨g16,h⟩:=Au h;refine Aa 15 ?_;refine rs0 (ai ((l7_m11+1:Nat):Int)) (za g16) ?_;refine rsB 1 ?_;refine An (tn_ ?_);obtain rfl:=zj h;exact ⟨(l7_m11+1,l7_m3++[y14]),_,(B2 3 (.own (oi 0 10) (.slice .int) 0 (l7_m3.length+1)) (.own (oi 0 10) (.slice .int) 0 ((l7_m3++[y14]).length)) (by kernel_rfl) (congrArg (fun z_=>((.own (oi 0 10) (.slice .int) 0 z_):AV)) ((by simp):l7_m3.length+1=(l7_m3++[y14]).length))).trans (Ac [(oi 0 1,oi 0 10),(oi 1 1,oi 9000 12)]),⟨l7_m11+1,l7_m3++[y14],rfl,rfl⟩,hn7⟩
  have q10_:=of_decide_eq_false q10;refine Ag q10 ?_;refine Az (te_ (te_ (be_ (tn_ ?_))));obtain rfl:=zj h;have h:=hn7
  (try dsimp only at h);obtain rfl:=zj h;exact ⟨_,Ac [],rfl⟩
 rintro l5_m3 _ rfl h
 (try dsimp only at h);refine Aj ?_;refine Ah ?_;obtain rfl:=zj h;exact Nn [.own (oi 0 1) (.slice .int) 0 l5_m3.length] (Ac (tl:=[(2,.own (oi 0 1) (.slice .int) 0 l5_m3.length)]) (g:=2) [])
def Fj:AC :=
 (.seq (rg [xo 44 (qb .lss (tm 43) (tm 42))])
   (.seq (.cond (tm 44)
    .skip
    (.exit 1))
   (.seq (.block 2 (.seq (rg [xo 45 (qm (tm 43)),xo 46 (qx 1 (tm 41) (tm 43)),xo 47 (ql (tm 46)),xo 7 (qm (tm 45)),xo 8 (qm (tm 47))])
   (.region [xo 48 (qm (tm 2)),xo 49 (qf 1 (tm 3)),xo 50 (ql (tm 49)),xo 51 (qx 1 (tm 48) (tm 50)),xo 52 (ql (tm 51)),xo 53 (qm (tm 7)),xo 54 (qm (tm 8)),xo 55 (qm (tm 6)),xo 56 (qb .mul (tm 54) (tm 55)),xo 57 (qm (tm 1)),xo 58 (qb .rem (tm 56) (tm 57)),xo 59 (qx 1 (tm 52) (tm 53)),xn (qs (tm 59) (tm 58))] true [])))
   (rg [xo 60 (qb .add (tm 43) (ci 1)),xo 43 (qm (tm 60))]))))
def G4:AC :=
 (.seq (rg [xo 3 (.i (.box 134 (tm 0)))])
 (.seq (rg [xo 9 (qf 0 (tm 3)),xo 10 (ql (tm 9))])
 (.block 0 (.seq (rg [xo 12 (qb .eql (tm 10) (ci 0)),xo 11 (qm (tm 12))])
 (.cond (tm 11)
  (.region [xo 13 (qm (tm 2)),xo 14 (qf 1 (tm 3)),xo 15 (ql (tm 14)),xo 16 (qm (tm 2)),xo 17 (qf 2 (tm 3)),xo 18 (ql (tm 17)),xo 19 (qm (tm 2)),xo 20 (qf 2 (tm 3)),xo 21 (ql (tm 20)),xo 22 (qx 1 (tm 19) (tm 21)),xo 23 (ql (tm 22)),xo 24 (qm (tm 2)),xo 25 (qf 1 (tm 3)),xo 26 (ql (tm 25)),xo 27 (qx 1 (tm 24) (tm 26)),xo 28 (ql (tm 27)),xo 29 (qx 1 (tm 13) (tm 15)),xn (qs (tm 29) (tm 23)),xo 30 (qx 1 (tm 16) (tm 18)),xn (qs (tm 30) (tm 28))] true [(5,17)])
  (.seq (rg [xo 32 (qb .eql (tm 10) (ci 1)),xo 31 (qm (tm 32))])
  (.cond (tm 31)
   (.seq (rg [xo 33 (qm (tm 1)),xo 34 (qf 3 (tm 3)),xo 35 (ql (tm 34)),xo 36 (qc 104 [tm 33,tm 35] [[],[]]),xo 6 (qm (tm 36))])
   (.seq (rg [xo 37 (qm (tm 2)),xo 38 (qf 1 (tm 3)),xo 39 (ql (tm 38)),xo 40 (qx 1 (tm 37) (tm 39)),xo 41 (ql (tm 40)),xo 42 (.i (.len (tm 41))),xo 43 (qm (ci 0))])
   (.block 1 (.loop Fj))))
   (.seq (rg [xo 62 (qb .eql (tm 10) (ci 2)),xo 61 (qm (tm 62))])
   (.cond (tm 61)
    (.region [xo 63 (qm (tm 1)),xo 64 (qm (tm 2)),xo 65 (qf 1 (tm 3)),xo 66 (ql (tm 65)),xo 67 (qx 1 (tm 64) (tm 66)),xo 68 (ql (tm 67)),xo 69 (qf 3 (tm 3)),xo 70 (ql (tm 69)),xo 71 (.i (.neg (tm 70))),xo 72 (qm (tm 2)),xo 73 (qf 2 (tm 3)),xo 74 (ql (tm 73)),xo 75 (qx 1 (tm 72) (tm 74)),xo 76 (ql (tm 75)),xo 77 (qc 96 [tm 63,tm 68,tm 71,tm 76] [[],[some .int],[],[some .int]])] true [])
    .skip)))))))))
def Li:List Res:=[]
theorem Lh:Am Tryz.prog Tryz.f102=some (G4,Li):=by kernel_rfl
theorem Gr:A5 Tryz.prog 102=true:=by kernel_rfl
def B4 (x13:List Int) (a0_1:Int) (a1:Int) (y11:Int) (l14_m43:Nat) (l14_m2:List (List Int)):Option (Ctl (Nat×List (List Int)) (List (List Int))) :=
 cond (decide (((l14_m43:Nat):Int)<((x13.length:Nat):Int)))
 (Option.bind (Fe l14_m2 a0_1) fun x20 =>
 og (0<=((l14_m43:Nat):Int)∧l14_m43<x13.length) <|
 Option.bind (x20[l14_m43]?) fun x22 =>
 og (a1≠0) <|
 og (l14_m43+1<4611686018427387904) <|
 some (Ctl.next (l14_m43+1,l14_m2.set a0_1.toNat (x20.set l14_m43 (Int.tmod (wI (x22*y11)) a1)))))
 (some (Ctl.out l14_m2))
def Bb (a0_0:Int) (a0_1:Int) (a0_2:Int) (a0_3:Int) (a1:Int) (a2:List (List Int)):Option (List (List Int)) :=
 cond (a0_0==0)
 (Option.bind (Fe a2 a0_2) fun x6 =>
 Option.bind (Fe a2 a0_1) fun x7 =>
 some ((a2.set a0_1.toNat x6).set a0_2.toNat x7))
 (cond (a0_0==1)
  (Option.bind (Gc a1 a0_3) fun y11 =>
  Option.bind (Fe a2 a0_1) fun x13 =>
  A4 (fun s_:Nat×List (List Int)=>B4 x13 a0_1 a1 y11 s_.1 s_.2) 4611686018427387904 (0,a2))
  (cond (a0_0==2)
   (Option.bind (Fe a2 a0_1) fun x27 =>
   Option.bind (Fe a2 a0_2) fun x28 =>
   og (a0_1.toNat≠a0_2.toNat) <|
   Option.bind (Dp a1 x27 (wI (0 - a0_3)) x28) fun y30 =>
   og (y30.length=x27.length) <|
   some (a2.set a0_1.toNat y30))
   (some a2)))
theorem F6 {a0_0:Int} {a0_1:Int} {a0_2:Int} {a0_3:Int} {a1:Int} {a2:List (List Int)} {r:List (List Int)} (h:Bb a0_0 a0_1 a0_2 a0_3 a1 a2=some r) {n_a2:Nat} (hn_a2:n_a2=a2.length):Ir Tryz.prog Tab 102 [.agg [ai a0_0,ai a0_1,ai a0_2,ai a0_3],ai a1,.own (oi 0 0) (.slice .int) 0 n_a2] [(oi 0 0,.mat 66 (oi 1 0) .int a2),(oi 1 0,.pool 3 .int a2)] (.tup []) [(oi 0 0,.mat 66 (oi 0 1) .int r),(oi 0 1,.pool 3 .int r)]:=by
 refine Gt (by kernel_rfl) Tryz.func102 Lh (n:=78) (by kernel_rfl) (by simp) (tl:=[(0,.agg [ai a0_0,ai a0_1,ai a0_2,ai a0_3]),(1,ai a1),(2,.own (oi 0 0) (.slice .int) 0 n_a2)]) rfl (by kernel_rfl) ⟨⟨3,.tail _ (.head _)⟩,⟨trivial,trivial⟩⟩ ⟨⟨3,.tail _ (.head _)⟩,⟨trivial,trivial⟩⟩ ?_;unfold G4;unfold Bb at h;refine Aj ?_;refine Aj ?_;refine Al ?_;refine Aj ?_;rcases Ad h with ⟨q5,h⟩ | ⟨q5,h⟩
 ·refine Af q5 ?_;obtain ⟨x6,f6,h⟩:=Ae h;obtain ⟨p6,b6,e6⟩:=Bd f6;obtain ⟨x7,f7,h⟩:=Ae h;obtain ⟨p7,b7,e7⟩:=Bd f7;refine A1 26 ?_;refine dz0 (.own (oi 0 0) (.slice .int) 0 n_a2) ?_;refine dz0 (.box (oi 3 1) 1) ?_;refine dzl (ai a0_1) ?_;refine dz0 (.own (oi 0 0) (.slice .int) 0 n_a2) ?_;refine dz0 (.box (oi 3 1) 2) ?_;refine dzl (ai a0_2) ?_;refine dz0 (.own (oi 0 0) (.slice .int) 0 n_a2) ?_;refine dz0 (.box (oi 3 1) 2) ?_;refine dzl (ai a0_2) ?_;refine ds0 (.elt (oi 0 0) a0_2.toNat 0) (zo (t:=.slice .int) (o:=oi 0 0) (len:=n_a2) (k:=.i64) (m:=a0_2) p6 (Nat.lt_of_lt_of_le (Av e6) (Nat.le_of_eq (Eq.symm hn_a2)))) ?_;refine dsl (.own (kid (oi 1 0) a0_2.toNat) .int 0 x6.length) (F0 (o:=oi 0 0) (p:=oi 1 0) (e1:=66) (u:=.int) (xss:=a2) (row:=x6) (j:=a0_2.toNat) (by kernel_rfl) (by kernel_rfl) e6) ?_;refine dz0 (.own (oi 0 0) (.slice .int) 0 n_a2) ?_;refine dz0 (.box (oi 3 1) 1) ?_;refine dzl (ai a0_1) ?_;refine ds0 (.elt (oi 0 0) a0_1.toNat 0) (zo (t:=.slice .int) (o:=oi 0 0) (len:=n_a2) (k:=.i64) (m:=a0_1) p7 (Nat.lt_of_lt_of_le (Av e7) (Nat.le_of_eq (Eq.symm hn_a2)))) ?_;refine dsl (.own (kid (oi 1 0) a0_1.toNat) .int 0 x7.length) (F0 (o:=oi 0 0) (p:=oi 1 0) (e1:=66) (u:=.int) (xss:=a2) (row:=x7) (j:=a0_1.toNat) (by kernel_rfl) (by kernel_rfl) e7) ?_;refine ds0 (.elt (oi 0 0) a0_1.toNat 0) (zo (t:=.slice .int) (o:=oi 0 0) (len:=n_a2) (k:=.i64) (m:=a0_1) p7 (Nat.lt_of_lt_of_le (Av e7) (Nat.le_of_eq (Eq.symm hn_a2)))) ?_;refine Y0 (oi 0 0) (oi 0 0) (.vec 66 1 n_a2 ((hdL (oi 1 0) .int a2).set a0_1.toNat (.own (kid (oi 1 0) a0_2.toNat) .int 0 x6.length))) (Akv (o:=oi 0 0) (e1:=66) (m:=n_a2) (cs:=hdL (oi 1 0) .int a2) (v:=.own (kid (oi 1 0) a0_2.toNat) .int 0 x6.length) (j:=a0_1.toNat) (by kernel_rfl) (Awo (by kernel_rfl) hn_a2) (by kernel_rfl) rfl (by rw [E7]; exact Av e7)) ?_;refine ds0 (.elt (oi 0 0) a0_2.toNat 0) (zo (t:=.slice .int) (o:=oi 0 0) (len:=n_a2) (k:=.i64) (m:=a0_2) p6 (Nat.lt_of_lt_of_le (Av e6) (Nat.le_of_eq (Eq.symm hn_a2)))) ?_;refine Y0 (oi 0 0) (oi 0 0) (.vec 66 1 n_a2 (((hdL (oi 1 0) .int a2).set a0_1.toNat (.own (kid (oi 1 0) a0_2.toNat) .int 0 x6.length)).set a0_2.toNat (.own (kid (oi 1 0) a0_1.toNat) .int 0 x7.length))) (Akv (o:=oi 0 0) (e1:=66) (m:=n_a2) (cs:=(hdL (oi 1 0) .int a2).set a0_1.toNat (.own (kid (oi 1 0) a0_2.toNat) .int 0 x6.length)) (v:=.own (kid (oi 1 0) a0_1.toNat) .int 0 x7.length) (j:=a0_2.toNat) (by kernel_rfl) (by kernel_rfl) (by kernel_rfl) rfl (by rw [List.length_set,E7]; exact Av e6)) ?_;refine F2 (Bc (by kernel_rfl)) (bn_ ?_);obtain rfl:=zj h;exact Nn [] ((Aca (e1:=66) (e:=3) (u:=.int) (xss:=a2) (i:=a0_1.toNat) (j:=a0_2.toNat) (n:=n_a2) (li:=x7.length) (lj:=x6.length) (ri:=x7) (rj:=x6) 9000 (oi 0 0) (oi 1 0) (by kernel_rfl) (by kernel_rfl) hn_a2 (by kernel_rfl) e7 e6 rfl rfl (by kernel_rfl) (by kernel_rfl)).trans (Ac (tl:=[]) (g:=2) [(oi 0 1,oi 9000 26)]))
 refine Ag q5 ?_;refine Aj ?_;rcases Ad h with ⟨q9,h⟩ | ⟨q9,h⟩
 ·refine Af q9 ?_;refine Ab ?_;obtain ⟨y11,h11,h⟩:=Ae h;refine Aa 13 ?_;refine rz0 (ai a1) ?_;refine rz0 (.box (oi 3 1) 3) ?_;refine rzl (ai a0_3) ?_;refine zc (ai y11) [] [ai a1,ai a0_3] (Yv h11) ?_;refine rsB 1 ?_;refine An (tn_ ?_);refine wr_ ?_;refine Ab ?_;obtain ⟨x13,f13,h⟩:=Ae h;obtain ⟨p13,b13,e13⟩:=Bd f13;refine Aa 20 ?_;refine rz0 (.own (oi 0 0) (.slice .int) 0 n_a2) ?_;refine rz0 (.box (oi 3 1) 1) ?_;refine rzl (ai a0_1) ?_;refine rs0 (.elt (oi 0 0) a0_1.toNat 0) (zo (t:=.slice .int) (o:=oi 0 0) (len:=n_a2) (k:=.i64) (m:=a0_1) p13 (Nat.lt_of_lt_of_le (Av e13) (Nat.le_of_eq (Eq.symm hn_a2)))) ?_;refine rsl (.own (kid (oi 1 0) a0_1.toNat) .int 0 x13.length) (F0 (o:=oi 0 0) (p:=oi 1 0) (e1:=66) (u:=.int) (xss:=a2) (row:=x13) (j:=a0_1.toNat) (by kernel_rfl) (by kernel_rfl) e13) ?_;refine rsB 2 ?_;refine An (tn_ ?_);refine wr_ ?_;refine Al ?_;refine A3 h (fun t_ S_=>∃ (l14_m43:Nat),∃ (l14_m2:List (List Int)),t_=(l14_m43,l14_m2)∧S_=⟨Ao [(1,ai a1),(2,.own (oi 0 0) (.slice .int) 0 l14_m2.length),(3,.box (oi 1 1) 0),(6,ai y11),(41,.own (kid (oi 0 1) a0_1.toNat) .int 0 x13.length),(42,ai ((x13.length:Nat):Int)),(43,ai ((l14_m43:Nat):Int))],Ak (Aq [(oi 0 0,.mat 66 (oi 0 1) .int l14_m2),(oi 0 1,.pool 3 .int l14_m2),(oi 1 1,.cells 134 [ai a0_0,ai a0_1,ai a0_2,ai a0_3])]),2⟩) ⟨_,(B2 2 (.own (oi 0 0) (.slice .int) 0 n_a2) (.own (oi 0 0) (.slice .int) 0 a2.length) (by kernel_rfl) (congrArg (fun z_=>((.own (oi 0 0) (.slice .int) 0 z_):AV)) (hn_a2:n_a2=a2.length))).trans (Ac [(oi 0 1,oi 1 0),(oi 1 1,oi 3 1)]),⟨0,a2,rfl,rfl⟩⟩ ?_;rintro n_ _ _ c_ ⟨l14_m43,l14_m2,rfl,rfl⟩ h hn14
  (try dsimp only at h);unfold B4 at h;unfold Fj;refine Aj ?_;refine Ab ?_;rcases Ad h with ⟨q17,h⟩ | ⟨q17,h⟩
  ·have q17_:=of_decide_eq_true q17;refine Af q17 ?_;refine Ai (tn_ ?_);refine wr_ ?_;refine Ab ?_;refine Al ?_;refine Ab ?_;obtain ⟨x20,f20,h⟩:=Ae h;obtain ⟨p20,b20,e20⟩:=Bd f20;obtain ⟨g21,h⟩:=Au h;obtain ⟨x22,e22,h⟩:=Ae h;refine Aa 8 ?_;refine rz0 (ai ((l14_m43:Nat):Int)) ?_;refine rs0 (.elt (kid (oi 0 1) a0_1.toNat) l14_m43 0) (Avz (t:=.int) (o:=kid (oi 0 1) a0_1.toNat) (off:=0) (len:=x13.length) (k:=.i64) (m:=((l14_m43:Nat):Int)) (by kernel_rfl) (by kernel_rfl) rfl g21.1 (Nat.zero_add _) g21.2) ?_;refine rsl (ai x22) (C0 (i:=kid (oi 0 1) a0_1.toNat) (j:=l14_m43) (k:=0) (e:=3) (t:=.int) (xs:=x20) (by kernel_rfl) (Bo (by kernel_rfl) e20) e22 (by kernel_rfl)) ?_;refine rsB 2 ?_;refine An (tn_ ?_);refine wr_ ?_;obtain ⟨g23,h⟩:=Au h;refine A1 21 ?_;refine dz0 (.own (oi 0 0) (.slice .int) 0 l14_m2.length) ?_;refine dz0 (.box (oi 1 1) 1) ?_;refine dzl (ai a0_1) ?_;refine ds0 (.elt (oi 0 0) a0_1.toNat 0) (zo (t:=.slice .int) (o:=oi 0 0) (len:=l14_m2.length) (k:=.i64) (m:=a0_1) p20 (Av e20)) ?_;refine dsl (.own (kid (oi 0 1) a0_1.toNat) .int 0 x20.length) (F0 (o:=oi 0 0) (p:=oi 0 1) (e1:=66) (u:=.int) (xss:=l14_m2) (row:=x20) (j:=a0_1.toNat) (by kernel_rfl) (by kernel_rfl) e20) ?_;refine dz0 (ai ((l14_m43:Nat):Int)) ?_;refine dz0 (ai x22) ?_;refine dz0 (ai y11) ?_;refine dz0 (ai (wI (x22*y11))) ?_;refine dz0 (ai a1) ?_;refine ds0 (ai (Int.tmod (wI (x22*y11)) a1)) (Pz (k:=.i64) (a:=wI (x22*y11)) (b:=a1) (by kernel_rfl) (by kernel_rfl) g23) ?_;refine ds0 (.elt (kid (oi 0 1) a0_1.toNat) l14_m43 0) (zo (t:=.int) (o:=kid (oi 0 1) a0_1.toNat) (len:=x20.length) (k:=.i64) (m:=((l14_m43:Nat):Int)) (Ay _) (Av e22)) ?_;refine Y0 (kid (oi 0 1) a0_1.toNat) (kid (oi 0 1) a0_1.toNat) (.arr 3 .int (x20.set l14_m43 (Int.tmod (wI (x22*y11)) a1))) (Adb (i:=kid (oi 0 1) a0_1.toNat) (j:=l14_m43) (k:=0) (e:=3) (t:=.int) (xs:=x20) (cs:=[ai (Int.tmod (wI (x22*y11)) a1)]) (x1:=Int.tmod (wI (x22*y11)) a1) (by kernel_rfl) (Ago.trans (Bo (by kernel_rfl) e20)) e22 (by kernel_rfl) (by kernel_rfl)) ?_;refine Anx (Aim (o:=oi 0 0) (p:=oi 0 1) (e1:=66) (e:=3) (u:=.int) (xss:=l14_m2) (k:=a0_1.toNat) (row:=x20) (row':=x20.set l14_m43 (Int.tmod (wI (x22*y11)) a1)) (by kernel_rfl) rfl (by kernel_rfl) e20 List.length_set) ?_;refine F2 (Bc (by kernel_rfl)) (bn_ (tn_ ?_));refine wr_ ?_;obtain ⟨g24,h⟩:=Au h;refine Aa 23 ?_;refine rs0 (ai ((l14_m43+1:Nat):Int)) (za g24) ?_;refine rsB 1 ?_;refine An (tn_ ?_);obtain rfl:=zj h;exact ⟨(l14_m43+1,l14_m2.set a0_1.toNat (x20.set l14_m43 (Int.tmod (wI (x22*y11)) a1))),_,(B2 2 (.own (oi 0 0) (.slice .int) 0 l14_m2.length) (.own (oi 0 0) (.slice .int) 0 ((l14_m2.set a0_1.toNat (x20.set l14_m43 (Int.tmod (wI (x22*y11)) a1))).length)) (by kernel_rfl) (congrArg (fun z_=>((.own (oi 0 0) (.slice .int) 0 z_):AV)) ((Eq.trans (b:=l14_m2.length) rfl List.length_set.symm):l14_m2.length=(l14_m2.set a0_1.toNat (x20.set l14_m43 (Int.tmod (wI (x22*y11)) a1))).length))).trans (Ac []),⟨l14_m43+1,l14_m2.set a0_1.toNat (x20.set l14_m43 (Int.tmod (wI (x22*y11)) a1)),rfl,rfl⟩,hn14⟩
  have q17_:=of_decide_eq_false q17;refine Ag q17 ?_;refine Az (te_ (te_ (be_ (bn_ ?_))));obtain rfl:=zj h;have h:=hn14
  (try dsimp only at h);obtain rfl:=zj h;exact Nn [] (Ac (tl:=[]) (g:=2) [])
 refine Ag q9 ?_;refine Aj ?_;rcases Ad h with ⟨q26,h⟩ | ⟨q26,h⟩
 ·refine Af q26 ?_;obtain ⟨x27,f27,h⟩:=Ae h;obtain ⟨p27,b27,e27⟩:=Bd f27;obtain ⟨x28,f28,h⟩:=Ae h;obtain ⟨p28,b28,e28⟩:=Bd f28;obtain ⟨g29,h⟩:=Au h;obtain ⟨y30,h30,h⟩:=Ae h;obtain ⟨g31,h⟩:=Au h;refine A1 25 ?_;refine dz0 (ai a1) ?_;refine dz0 (.own (oi 0 0) (.slice .int) 0 n_a2) ?_;refine dz0 (.box (oi 3 1) 1) ?_;refine dzl (ai a0_1) ?_;refine ds0 (.elt (oi 0 0) a0_1.toNat 0) (zo (t:=.slice .int) (o:=oi 0 0) (len:=n_a2) (k:=.i64) (m:=a0_1) p27 (Nat.lt_of_lt_of_le (Av e27) (Nat.le_of_eq (Eq.symm hn_a2)))) ?_;refine dsl (.own (kid (oi 1 0) a0_1.toNat) .int 0 x27.length) (F0 (o:=oi 0 0) (p:=oi 1 0) (e1:=66) (u:=.int) (xss:=a2) (row:=x27) (j:=a0_1.toNat) (by kernel_rfl) (by kernel_rfl) e27) ?_;refine dz0 (.box (oi 3 1) 3) ?_;refine dzl (ai a0_3) ?_;refine dz0 (ai (wI (0 - a0_3))) ?_;refine dz0 (.own (oi 0 0) (.slice .int) 0 n_a2) ?_;refine dz0 (.box (oi 3 1) 2) ?_;refine dzl (ai a0_2) ?_;refine ds0 (.elt (oi 0 0) a0_2.toNat 0) (zo (t:=.slice .int) (o:=oi 0 0) (len:=n_a2) (k:=.i64) (m:=a0_2) p28 (Nat.lt_of_lt_of_le (Av e28) (Nat.le_of_eq (Eq.symm hn_a2)))) ?_;refine dsl (.own (kid (oi 1 0) a0_2.toNat) .int 0 x28.length) (F0 (o:=oi 0 0) (p:=oi 1 0) (e1:=66) (u:=.int) (xss:=a2) (row:=x28) (j:=a0_2.toNat) (by kernel_rfl) (by kernel_rfl) e28) ?_;refine Aq1 (.tup []) [(kid (oi 1 0) a0_1.toNat,some (.arr 3 .int y30)),(kid (oi 1 0) a0_1.toNat,none)] [(oi 0 0,kid (oi 1 0) a0_1.toNat)] [ai a1,.own (kid (oi 1 0) a0_1.toNat) .int 0 x27.length,ai (wI (0 - a0_3)),.own (kid (oi 1 0) a0_2.toNat) .int 0 x28.length] (caps:=[]) trivial (Mx h30 rfl) Mo ⟨Ao2 (by kernel_rfl) e27,trivial⟩ (.cons (.ren (by kernel_rfl)) (.cons (.ren (by kernel_rfl)) (.cons (.ren (by kernel_rfl)) (.cons (.gnd (by kernel_rfl) (Th (e:=3) (u:=.int) (xs:=x28) ((Auf (L:=[kid (oi 1 0) a0_1.toNat]) (by kernel_rfl) ⟨Avt g29,trivial⟩).trans ((Ail (Anf (t:=.int) (off:=0) (len:=x28.length) 3 rfl (by kernel_rfl))).trans (Bo (by kernel_rfl) e28))) rfl)) .nil)))) (B8 (by kernel_rfl) (by kernel_rfl) ⟨.arg (by simp [AV.nmsL,AV.nms,Bl]),trivial⟩) (Av6 (Anf (t:=.int) (off:=0) (len:=x27.length) 1 rfl (by kernel_rfl)) Ava) ?_;refine Anx (Aim (o:=oi 0 0) (p:=oi 1 0) (e1:=66) (e:=3) (u:=.int) (xss:=a2) (k:=a0_1.toNat) (row:=x27) (row':=y30) (by kernel_rfl) rfl (by kernel_rfl) e27 g31) ?_;refine F2 (Bc (by kernel_rfl)) (bn_ ?_);obtain rfl:=zj h;exact Nn [] (Ac (tl:=[]) (g:=2) [(oi 0 1,oi 1 0)])
 refine Ag q26 ?_;refine Ai (bn_ ?_);obtain rfl:=zj h;exact Nn [] (Ac (tl:=[]) (g:=2) [(oi 0 1,oi 1 0)])
def K3:AC :=
 (.seq (rg [xo 4 (.i (.box 134 (tm 0)))])
 (.seq (.seq (rg [xo 5 (.i (.ld false 4 (tm 4))),xo 6 (qf 1 (tm 4)),xo 7 (ql (tm 6)),xo 8 (qf 1 (tm 4)),xo 9 (ql (tm 8)),xo 10 (.build [.int .i64 0,.int .i64 0,.int .i64 0,.int .i64 0] [(0,1,ci 0),(1,1,tm 7),(2,1,tm 9)]),xo 11 (.i (.cmp false 7 (tm 5) (tm 10)))])
 (.cond (tm 11)
  .ret
  .skip))
 (.seq (rg [xo 12 (.i (.ld false 4 (tm 4))),xo 13 (ql (tm 1)),xo 14 (ql (tm 2)),xo 15 (qc 102 [tm 12,tm 13,tm 14] [[none,none,none,none],[],[some (.slice .int)]])])
 (rg [xo 16 (.i (.ld false 4 (tm 4))),xo 17 (ql (tm 1)),xo 18 (ql (tm 3)),xo 19 (qc 102 [tm 16,tm 17,tm 18] [[none,none,none,none],[],[some (.slice .int)]])]))))
def Tf:List Res:=[]
theorem Sj:Am Tryz.prog Tryz.f101=some (K3,Tf):=by kernel_rfl
theorem G9:A5 Tryz.prog 101=true:=by kernel_rfl
def Bi (a0_0:Int) (a0_1:Int) (a0_2:Int) (a0_3:Int) (c0_0:Int) (c1_0:List (List Int)) (c2_0:List (List Int)):Option (List (List Int)×List (List Int)) :=
 cond ([a0_0,a0_1,a0_2,a0_3]==[0,a0_1,a0_1,0])
 (some (c1_0,c2_0))
 (Option.bind (Bb a0_0 a0_1 a0_2 a0_3 c0_0 c1_0) fun y7 =>
 og (y7.length=c1_0.length) <|
 Option.bind (Bb a0_0 a0_1 a0_2 a0_3 c0_0 c2_0) fun y9 =>
 og (y9.length=c2_0.length) <|
 some (y7,y9))
theorem G8 {a0_0:Int} {a0_1:Int} {a0_2:Int} {a0_3:Int} {c0_0:Int} {c1_0:List (List Int)} {c2_0:List (List Int)} {r:List (List Int)×List (List Int)} (h:Bi a0_0 a0_1 a0_2 a0_3 c0_0 c1_0 c2_0=some r):Ir Tryz.prog Tab 101 [.agg [ai a0_0,ai a0_1,ai a0_2,ai a0_3],.box (oi 0 0) 0,.box (oi 1 0) 0,.box (oi 4 0) 0] [(oi 0 0,.cells 3 [ai c0_0]),(oi 1 0,.cells 25 [.own (oi 2 0) (.slice .int) 0 c1_0.length]),(oi 2 0,.mat 66 (oi 3 0) .int c1_0),(oi 3 0,.pool 3 .int c1_0),(oi 4 0,.cells 25 [.own (oi 5 0) (.slice .int) 0 c2_0.length]),(oi 5 0,.mat 66 (oi 6 0) .int c2_0),(oi 6 0,.pool 3 .int c2_0)] (.tup []) [(oi 0 0,.cells 3 [ai c0_0]),(oi 1 0,.cells 25 [.own (oi 2 0) (.slice .int) 0 r.1.length]),(oi 2 0,.mat 66 (oi 0 1) .int r.1),(oi 0 1,.pool 3 .int r.1),(oi 4 0,.cells 25 [.own (oi 5 0) (.slice .int) 0 r.2.length]),(oi 5 0,.mat 66 (oi 1 1) .int r.2),(oi 1 1,.pool 3 .int r.2)]:=by
 refine Gt (by kernel_rfl) Tryz.func101 Sj (n:=20) (by kernel_rfl) (by simp) (tl:=[(0,.agg [ai a0_0,ai a0_1,ai a0_2,ai a0_3]),(1,.box (oi 0 0) 0),(2,.box (oi 1 0) 0),(3,.box (oi 4 0) 0)]) rfl (by kernel_rfl) ⟨trivial,⟨trivial,⟨⟨3,.tail _ (.tail _ (.tail _ (.head _)))⟩,⟨trivial,⟨trivial,⟨⟨3,.tail _ (.tail _ (.tail _ (.tail _ (.tail _ (.tail _ (.head _))))))⟩,⟨trivial,trivial⟩⟩⟩⟩⟩⟩⟩ ⟨trivial,⟨trivial,⟨⟨3,.tail _ (.tail _ (.tail _ (.head _)))⟩,⟨trivial,⟨trivial,⟨⟨3,.tail _ (.tail _ (.tail _ (.tail _ (.tail _ (.tail _ (.head _))))))⟩,⟨trivial,trivial⟩⟩⟩⟩⟩⟩⟩ ?_;unfold K3;unfold Bi at h;refine Aj ?_;refine Ab ?_;refine Aj ?_;rcases Ad h with ⟨q5,h⟩ | ⟨q5,h⟩
 ·refine Af q5 ?_;refine Ah (tr_ ?_);obtain rfl:=zj h;exact Nn [] (Ac (tl:=[]) (g:=2) [(oi 0 1,oi 3 0),(oi 1 1,oi 6 0)])
 refine Ag q5 ?_;refine Ai (tn_ ?_);refine wr_ ?_;refine Ab ?_;obtain ⟨y7,h7,h⟩:=Ae h;obtain ⟨g8,h⟩:=Au h;refine Aa 13 ?_;refine rzl (.agg [ai a0_0,ai a0_1,ai a0_2,ai a0_3]) ?_;refine rzl (ai c0_0) ?_;refine rzl (.own (oi 2 0) (.slice .int) 0 c1_0.length) ?_;refine Jq (.tup []) [(oi 2 0,some (.mat 66 (oi 240 12) .int y7)),(oi 240 12,some (.pool 3 .int y7)),(oi 2 0,none),(oi 3 0,some (.pool 3 .int []))] [(oi 0 0,oi 2 0),(oi 1 0,oi 3 0)] [.agg [ai a0_0,ai a0_1,ai a0_2,ai a0_3],ai c0_0,.own (oi 2 0) (.slice .int) 0 c1_0.length] (caps:=[]) trivial (F6 h7 rfl) Gr ⟨by kernel_rfl,⟨by kernel_rfl,trivial⟩⟩ (.cons (.ren (by kernel_rfl)) (.cons (.ren (by kernel_rfl)) (.cons (.ren (by kernel_rfl)) .nil))) (B8 (by kernel_rfl) (by kernel_rfl) ⟨Ca (by kernel_rfl),⟨I2 (o:=oi 2 0) (p:=oi 3 0) (e1:=66) (m:=c1_0.length) (u:=.int) (xss:=c1_0) (Ca (by kernel_rfl)) (by kernel_rfl),trivial⟩⟩) ?_;refine An (tn_ ?_);refine wr_ ?_;obtain ⟨y9,h9,h⟩:=Ae h;obtain ⟨g10,h⟩:=Au h;refine Aa 17 ?_;refine rzl (.agg [ai a0_0,ai a0_1,ai a0_2,ai a0_3]) ?_;refine rzl (ai c0_0) ?_;refine rzl (.own (oi 5 0) (.slice .int) 0 c2_0.length) ?_;refine Jq (.tup []) [(oi 5 0,some (.mat 66 (oi 304 16) .int y9)),(oi 304 16,some (.pool 3 .int y9)),(oi 5 0,none),(oi 6 0,some (.pool 3 .int []))] [(oi 0 0,oi 5 0),(oi 1 0,oi 6 0)] [.agg [ai a0_0,ai a0_1,ai a0_2,ai a0_3],ai c0_0,.own (oi 5 0) (.slice .int) 0 c2_0.length] (caps:=[]) trivial (F6 h9 rfl) Gr ⟨by kernel_rfl,⟨by kernel_rfl,trivial⟩⟩ (.cons (.ren (by kernel_rfl)) (.cons (.ren (by kernel_rfl)) (.cons (.ren (by kernel_rfl)) .nil))) (B8 (by kernel_rfl) (by kernel_rfl) ⟨Ca (by kernel_rfl),⟨I2 (o:=oi 5 0) (p:=oi 6 0) (e1:=66) (m:=c2_0.length) (u:=.int) (xss:=c2_0) (Ca (by kernel_rfl)) (by kernel_rfl),trivial⟩⟩) ?_;refine An ?_;obtain rfl:=zj h;exact Nn [] ((V1 (oi 1 0) (.cells 25 [.own (oi 2 0) (.slice .int) 0 c1_0.length]) (.cells 25 [.own (oi 2 0) (.slice .int) 0 y7.length]) (by kernel_rfl) (congrArg (fun z_=>(.cells 25 [.own (oi 2 0) (.slice .int) 0 z_]:Ob)) (g8.symm:c1_0.length=y7.length))).trans ((V1 (oi 4 0) (.cells 25 [.own (oi 5 0) (.slice .int) 0 c2_0.length]) (.cells 25 [.own (oi 5 0) (.slice .int) 0 y9.length]) (by kernel_rfl) (congrArg (fun z_=>(.cells 25 [.own (oi 5 0) (.slice .int) 0 z_]:Ob)) (g10.symm:c2_0.length=y9.length))).trans (Ac (tl:=[]) (g:=2) [(oi 0 1,oi 240 12),(oi 1 1,oi 304 16)])))
def Js:AC :=
 (.seq (rg [xo 66 (qb .lss (tm 65) (tm 64))])
 (.seq (.cond (tm 66)
  .skip
  (.exit 4))
 (.seq (.block 5 (.seq (rg [xo 67 (qm (tm 65)),xo 13 (qm (tm 67))])
 (.seq (rg [xo 68 (qm (tm 13)),xo 69 (qm (tm 9)),xo 70 (qb .neq (tm 68) (tm 69)),xo 71 (qm (tm 70)),⟨some 72,some (71,true),ql (tm 5)⟩,⟨some 73,some (71,true),qm (tm 13)⟩,⟨some 74,some (71,true),qx 1 (tm 72) (tm 73)⟩,⟨some 75,some (71,true),ql (tm 74)⟩,⟨some 76,some (71,true),qm (tm 11)⟩,⟨some 77,some (71,true),qx 1 (tm 75) (tm 76)⟩,⟨some 78,some (71,true),ql (tm 77)⟩,⟨some 79,some (71,true),qb .neq (tm 78) (ci 0)⟩,xo 80 (.i (.pick (tm 71) (tm 79) (cb false)))])
 (.cond (tm 80)
  (rg [xo 81 (qm (tm 10)),xo 82 (qm (tm 13)),xo 83 (qm (tm 9)),xo 84 (ql (tm 5)),xo 85 (qm (tm 13)),xo 86 (qx 1 (tm 84) (tm 85)),xo 87 (ql (tm 86)),xo 88 (qm (tm 11)),xo 89 (qx 1 (tm 87) (tm 88)),xo 90 (ql (tm 89)),xo 91 (.build [.int .i64 0,.int .i64 0,.int .i64 0,.int .i64 0] [(0,1,ci 2),(1,1,tm 82),(2,1,tm 83),(3,1,tm 90)]),xo 92 (.call (tm 81) [tm 91] [[none,none,none,none]])])
  .skip))))
 (rg [xo 93 (qb .add (tm 65) (ci 1)),xo 65 (qm (tm 93))]))))
def Jw:AC :=
 (.seq (.seq (rg [xo 27 (qm (tm 12)),xo 28 (ql (tm 5)),xo 29 (.i (.len (tm 28))),xo 30 (qb .lss (tm 27) (tm 29)),xo 31 (qm (tm 30)),⟨some 32,some (31,true),ql (tm 5)⟩,⟨some 33,some (31,true),qm (tm 12)⟩,⟨some 34,some (31,true),qx 1 (tm 32) (tm 33)⟩,⟨some 35,some (31,true),ql (tm 34)⟩,⟨some 36,some (31,true),qm (tm 11)⟩,⟨some 37,some (31,true),qx 1 (tm 35) (tm 36)⟩,⟨some 38,some (31,true),ql (tm 37)⟩,⟨some 39,some (31,true),qb .eql (tm 38) (ci 0)⟩,xo 40 (.i (.pick (tm 31) (tm 39) (cb false)))])
 (.cond (tm 40)
  .skip
  (.exit 2)))
 (.block 3 (rg [xo 41 (qm (tm 12)),xo 42 (qb .add (tm 41) (ci 1)),xo 12 (qm (tm 42))])))
def Jy:AC :=
 (.seq (.seq (rg [xo 15 (qm (tm 11)),xo 16 (qm (tm 2)),xo 17 (qb .lss (tm 15) (tm 16)),xo 18 (qm (tm 17)),⟨some 19,some (18,true),qm (tm 9)⟩,⟨some 20,some (18,true),ql (tm 5)⟩,⟨some 21,some (18,true),.i (.len (tm 20))⟩,⟨some 22,some (18,true),qb .lss (tm 19) (tm 21)⟩,xo 23 (.i (.pick (tm 18) (tm 22) (cb false)))])
 (.cond (tm 23)
  .skip
  (.exit 0)))
 (.seq (.block 1 (.seq (rg [xo 26 (qm (tm 9)),xo 12 (qm (tm 26))])
 (.seq (.block 2 (.loop Jw))
 (.seq (.seq (rg [xo 43 (qm (tm 12)),xo 44 (ql (tm 5)),xo 45 (.i (.len (tm 44))),xo 46 (qb .eql (tm 43) (tm 45))])
 (.cond (tm 46)
  (.exit 1)
  .skip))
 (.seq (rg [xo 47 (qm (tm 10)),xo 48 (qm (tm 9)),xo 49 (qm (tm 12)),xo 50 (.build [.int .i64 0,.int .i64 0,.int .i64 0,.int .i64 0] [(0,1,ci 0),(1,1,tm 48),(2,1,tm 49)]),xo 51 (.call (tm 47) [tm 50] [[none,none,none,none]])])
 (.seq (rg [xo 52 (qm (tm 10)),xo 53 (qm (tm 9)),xo 54 (ql (tm 5)),xo 55 (qm (tm 9)),xo 56 (qx 1 (tm 54) (tm 55)),xo 57 (ql (tm 56)),xo 58 (qm (tm 11)),xo 59 (qx 1 (tm 57) (tm 58)),xo 60 (ql (tm 59)),xo 61 (.build [.int .i64 0,.int .i64 0,.int .i64 0,.int .i64 0] [(0,1,ci 1),(1,1,tm 53),(3,1,tm 60)]),xo 62 (.call (tm 52) [tm 61] [[none,none,none,none]])])
 (.seq (.seq (rg [xo 63 (ql (tm 5)),xo 64 (.i (.len (tm 63))),xo 65 (qm (ci 0))])
 (.block 4 (.loop Js)))
 (rg [xo 94 (qm (tm 9)),xo 95 (qb .add (tm 94) (ci 1)),xo 9 (qm (tm 95))]))))))))
 (rg [xo 24 (qm (tm 11)),xo 25 (qb .add (tm 24) (ci 1)),xo 11 (qm (tm 25))])))
def Nb:AC :=
 (.seq (rg [xo 4 (.i (.box 3 (tm 0))),xo 5 (.i (.box 25 (tm 1))),xo 7 (.i (.box 25 (tm 3))),xo 8 (qm (ci 0))])
 (.seq (rg [xo 9 (qm (ci 0))])
 (.seq (rg [xo 14 (.i (.mkfn 101 [tm 4,tm 5,tm 7])),xo 10 (qm (tm 14))])
 (.seq (.seq (rg [xo 11 (qm (ci 0))])
 (.block 0 (.loop Jy)))
 (.seq (rg [xo 96 (qm (tm 9)),xo 8 (qm (tm 96))])
 .ret)))))
def Ww:List Res:=[.tmp 8]
theorem Xw:Am Tryz.prog Tryz.f92=some (Nb,Ww):=by kernel_rfl
theorem Wd:A5 Tryz.prog 92=true:=by kernel_rfl
def Cb (l7_p0:List (List Int)) (l7_m11:Nat) (l15_m12:Nat):Option (Ctl Nat Nat) :=
 Option.bind (cond (decide (((l15_m12:Nat):Int)<((l7_p0.length:Nat):Int)))
  (Option.bind (l7_p0[l15_m12]?) fun x19 =>
  Option.bind (x19[l7_m11]?) fun x20 =>
  some (x20==0))
  (some false)) fun l17_m40 =>
cond l17_m40
 (og (l15_m12+1<4611686018427387904) <|
 some (Ctl.next (l15_m12+1)))
 (some (Ctl.out l15_m12))
def C3 (y31:List (List Int)×List (List Int)) (l7_m9:Nat) (l7_m11:Nat) (a0:Int) (l34_m65:Nat) (l34_p0:List (List Int)) (l34_p2:List (List Int)):Option (Ctl (Nat×List (List Int)×List (List Int)) (List (List Int)×List (List Int))) :=
 cond (decide (((l34_m65:Nat):Int)<((y31.1.length:Nat):Int)))
 (Option.bind (Option.bind (cond (((l34_m65:Nat):Int) !=((l7_m9:Nat):Int))
       (Option.bind (l34_p0[l34_m65]?) fun x42 =>
       Option.bind (x42[l7_m11]?) fun x43 =>
       some (x43 !=0))
       (some false)) fun l40_m80 =>
  cond l40_m80
   (Option.bind (l34_p0[l34_m65]?) fun x45 =>
   Option.bind (x45[l7_m11]?) fun x46 =>
   Option.bind (Bi 2 ((l34_m65:Nat):Int) ((l7_m9:Nat):Int) x46 a0 l34_p0 l34_p2) fun y47 =>
   some (y47.1,y47.2))
   (some (l34_p0,l34_p2))) fun (l38_p0,l38_p2) =>
 og (l34_m65+1<4611686018427387904) <|
 some (Ctl.next (l34_m65+1,l38_p0,l38_p2)))
 (some (Ctl.out (l34_p0,l34_p2)))
def Bx (a2:Int) (a0:Int) (l7_m9:Nat) (l7_m11:Nat) (l7_p0:List (List Int)) (l7_p2:List (List Int)):Option (Ctl (Nat×Nat×List (List Int)×List (List Int)) (Nat×List (List Int)×List (List Int))) :=
 Option.bind (cond (decide (((l7_m11:Nat):Int)<a2))
  (some (decide (((l7_m9:Nat):Int)<((l7_p0.length:Nat):Int))))
  (some false)) fun l9_m23 =>
cond l9_m23
 (Option.bind (Option.bind (A4 (fun s_:Nat=>Cb l7_p0 l7_m11 s_) 4611686018427387904 l7_m9) fun l14_m12 =>
  cond (((l14_m12:Nat):Int)==((l7_p0.length:Nat):Int))
   (some (l7_m9,l7_p0,l7_p2))
   (Option.bind (Bi 0 ((l7_m9:Nat):Int) ((l14_m12:Nat):Int) 0 a0 l7_p0 l7_p2) fun y27 =>
   Option.bind (y27.1[l7_m9]?) fun x29 =>
   Option.bind (x29[l7_m11]?) fun x30 =>
   Option.bind (Bi 1 ((l7_m9:Nat):Int) 0 x30 a0 y27.1 y27.2) fun y31 =>
   Option.bind (A4 (fun s_:Nat×List (List Int)×List (List Int)=>C3 y31 l7_m9 l7_m11 a0 s_.1 s_.2.1 s_.2.2) 4611686018427387904 (0,y31.1,y31.2)) fun (l32_p0,l32_p2) =>
   og (l7_m9+1<4611686018427387904) <|
   some (l7_m9+1,l32_p0,l32_p2))) fun (l12_m9,l12_p0,l12_p2) =>
 og (l7_m11+1<4611686018427387904) <|
 some (Ctl.next (l12_m9,l7_m11+1,l12_p0,l12_p2)))
 (some (Ctl.out (l7_m9,l7_p0,l7_p2)))
def En (a0:Int) (a1:List (List Int)) (a2:Int) (a3:List (List Int)):Option (List (List Int)×List (List Int)×Nat) :=
 Option.bind (A4 (fun s_:Nat×Nat×List (List Int)×List (List Int)=>Bx a2 a0 s_.1 s_.2.1 s_.2.2.1 s_.2.2.2) 4611686018427387904 (0,0,a1,a3)) fun (l5_m9,l5_p0,l5_p2) =>
some (l5_p0,l5_p2,l5_m9)
theorem Vz {a0:Int} {a1:List (List Int)} {a2:Int} {a3:List (List Int)} {r:List (List Int)×List (List Int)×Nat} (h:En a0 a1 a2 a3=some r) {n_a1:Nat} (hn_a1:n_a1=a1.length) {n_a3:Nat} (hn_a3:n_a3=a3.length):Ir Tryz.prog Tab 92 [ai a0,.own (oi 0 0) (.slice .int) 0 n_a1,ai a2,.own (oi 2 0) (.slice .int) 0 n_a3] [(oi 0 0,.mat 66 (oi 1 0) .int a1),(oi 1 0,.pool 3 .int a1),(oi 2 0,.mat 66 (oi 3 0) .int a3),(oi 3 0,.pool 3 .int a3)] (ai ((r.2.2:Nat):Int)) [(oi 0 0,.mat 66 (oi 0 1) .int r.1),(oi 0 1,.pool 3 .int r.1),(oi 2 0,.mat 66 (oi 1 1) .int r.2.1),(oi 1 1,.pool 3 .int r.2.1)]:=by
 refine Gt (by kernel_rfl) Tryz.func92 Xw (n:=97) (by kernel_rfl) (by simp) (tl:=[(0,ai a0),(1,.own (oi 0 0) (.slice .int) 0 n_a1),(2,ai a2),(3,.own (oi 2 0) (.slice .int) 0 n_a3)]) rfl (by kernel_rfl) ⟨⟨3,.tail _ (.head _)⟩,⟨trivial,⟨⟨3,.tail _ (.tail _ (.tail _ (.head _)))⟩,⟨trivial,trivial⟩⟩⟩⟩ ⟨⟨3,.tail _ (.head _)⟩,⟨trivial,⟨⟨3,.tail _ (.tail _ (.tail _ (.head _)))⟩,⟨trivial,trivial⟩⟩⟩⟩ ?_;unfold Nb;unfold En at h;refine Aj ?_;refine Aj ?_;refine Aj ?_;refine Aw h (fun t_ S_=>∃ (l5_m9:Nat),∃ (l5_p0:List (List Int)),∃ (l5_p2:List (List Int)),t_=(l5_m9,l5_p0,l5_p2)∧S_=⟨Ao [(9,ai ((l5_m9:Nat):Int))],Ak (Aq [(oi 0 0,.mat 66 (oi 0 1) .int l5_p0),(oi 0 1,.pool 3 .int l5_p0),(oi 2 0,.mat 66 (oi 1 1) .int l5_p2),(oi 1 1,.pool 3 .int l5_p2)]),2⟩) ?_ ?_
 ·intro v_ h;refine Aj ?_;refine Al ?_;refine A3 h (fun t_ S_=>∃ (l7_m9:Nat),∃ (l7_m11:Nat),∃ (l7_p0:List (List Int)),∃ (l7_p2:List (List Int)),t_=(l7_m9,l7_m11,l7_p0,l7_p2)∧S_=⟨Ao [(2,ai a2),(5,.box (oi 0 1) 0),(9,ai ((l7_m9:Nat):Int)),(10,.fn 101 [.box (oi 1 1) 0,.box (oi 0 1) 0,.box (oi 2 1) 0]),(11,ai ((l7_m11:Nat):Int))],Ak (Aq [(oi 0 1,.cells 25 [.own (oi 0 0) (.slice .int) 0 l7_p0.length]),(oi 1 1,.cells 3 [ai a0]),(oi 2 1,.cells 25 [.own (oi 2 0) (.slice .int) 0 l7_p2.length]),(oi 0 0,.mat 66 (oi 3 1) .int l7_p0),(oi 3 1,.pool 3 .int l7_p0),(oi 2 0,.mat 66 (oi 4 1) .int l7_p2),(oi 4 1,.pool 3 .int l7_p2)]),2⟩) ⟨_,(V1 (oi 5 2) (.cells 25 [.own (oi 0 0) (.slice .int) 0 n_a1]) (.cells 25 [.own (oi 0 0) (.slice .int) 0 a1.length]) (by kernel_rfl) (congrArg (fun z_=>(.cells 25 [.own (oi 0 0) (.slice .int) 0 z_]:Ob)) (hn_a1:n_a1=a1.length))).trans ((V1 (oi 7 3) (.cells 25 [.own (oi 2 0) (.slice .int) 0 n_a3]) (.cells 25 [.own (oi 2 0) (.slice .int) 0 a3.length]) (by kernel_rfl) (congrArg (fun z_=>(.cells 25 [.own (oi 2 0) (.slice .int) 0 z_]:Ob)) (hn_a3:n_a3=a3.length))).trans (Ac [(oi 0 1,oi 5 2),(oi 3 1,oi 1 0),(oi 1 1,oi 4 1),(oi 2 1,oi 7 3),(oi 4 1,oi 3 0)])),⟨0,0,a1,a3,rfl,rfl⟩⟩ ?_;rintro n_ _ _ c_ ⟨l7_m9,l7_m11,l7_p0,l7_p2,rfl,rfl⟩ h hn7
  (try dsimp only at h);unfold Bx at h;unfold Jy;refine Ab ?_;refine Aw h (fun (l9_m23:Bool) S_=>S_=⟨Ao [(2,ai a2),(5,.box (oi 0 1) 0),(9,ai ((l7_m9:Nat):Int)),(10,.fn 101 [.box (oi 1 1) 0,.box (oi 0 1) 0,.box (oi 2 1) 0]),(11,ai ((l7_m11:Nat):Int)),(23,.bool l9_m23)],Ak (Aq [(oi 0 1,.cells 25 [.own (oi 0 0) (.slice .int) 0 l7_p0.length]),(oi 1 1,.cells 3 [ai a0]),(oi 2 1,.cells 25 [.own (oi 2 0) (.slice .int) 0 l7_p2.length]),(oi 0 0,.mat 66 (oi 3 1) .int l7_p0),(oi 3 1,.pool 3 .int l7_p0),(oi 2 0,.mat 66 (oi 4 1) .int l7_p2),(oi 4 1,.pool 3 .int l7_p2)]),2⟩) ?_ ?_
  ·intro v_ h;rcases Ad h with ⟨q10,h⟩ | ⟨q10,h⟩
   ·have q10_:=of_decide_eq_true q10;refine Aa 11 ?_;refine rz0 (ai ((l7_m11:Nat):Int)) ?_;refine rz0 (ai a2) ?_;refine rz0 (.bool (decide (((l7_m11:Nat):Int)<a2))) ?_;refine rz0 (.bool (decide (((l7_m11:Nat):Int)<a2))) ?_;refine rs0 (ai ((l7_m9:Nat):Int)) (zg q10) ?_;refine rsl (.own (oi 0 0) (.slice .int) 0 l7_p0.length) (zg q10) ?_;refine rs0 (ai ((l7_p0.length:Nat):Int)) (zg q10) ?_;refine rs0 (.bool (decide (((l7_m9:Nat):Int)<((l7_p0.length:Nat):Int)))) (zg q10) ?_;refine rs0 (.bool (decide (((l7_m9:Nat):Int)<((l7_p0.length:Nat):Int)))) (zT q10) ?_;refine An (tn_ ?_);obtain rfl:=zj h;exact ⟨_,Ac [],rfl⟩
   have q10_:=of_decide_eq_false q10;refine Aa 11 ?_;refine rz0 (ai ((l7_m11:Nat):Int)) ?_;refine rz0 (ai a2) ?_;refine rz0 (.bool (decide (((l7_m11:Nat):Int)<a2))) ?_;refine rz0 (.bool (decide (((l7_m11:Nat):Int)<a2))) ?_;refine zs q10 ?_;refine zs q10 ?_;refine zs q10 ?_;refine zs q10 ?_;refine rs0 (.bool false) (zF q10) ?_;refine An (tn_ ?_);obtain rfl:=zj h;exact ⟨_,Ac [],rfl⟩
  rintro l9_m23 _ rfl h
  (try dsimp only at h);rcases Ad h with ⟨q11,h⟩ | ⟨q11,h⟩
  ·refine Af q11 ?_;refine Ai (tn_ ?_);refine wr_ ?_;refine Aw h (fun t_ S_=>∃ (l12_m9:Nat),∃ (l12_p0:List (List Int)),∃ (l12_p2:List (List Int)),t_=(l12_m9,l12_p0,l12_p2)∧S_=⟨Ao [(2,ai a2),(5,.box (oi 0 1) 0),(9,ai ((l12_m9:Nat):Int)),(10,.fn 101 [.box (oi 1 1) 0,.box (oi 0 1) 0,.box (oi 2 1) 0]),(11,ai ((l7_m11:Nat):Int))],Ak (Aq [(oi 0 1,.cells 25 [.own (oi 0 0) (.slice .int) 0 l12_p0.length]),(oi 1 1,.cells 3 [ai a0]),(oi 2 1,.cells 25 [.own (oi 2 0) (.slice .int) 0 l12_p2.length]),(oi 0 0,.mat 66 (oi 3 1) .int l12_p0),(oi 3 1,.pool 3 .int l12_p0),(oi 2 0,.mat 66 (oi 4 1) .int l12_p2),(oi 4 1,.pool 3 .int l12_p2)]),2⟩) ?_ ?_
   ·intro v_ h;refine Al ?_;refine Aj ?_;refine Aw h (fun (l14_m12:Nat) S_=>S_=⟨Ao [(2,ai a2),(5,.box (oi 0 1) 0),(9,ai ((l7_m9:Nat):Int)),(10,.fn 101 [.box (oi 1 1) 0,.box (oi 0 1) 0,.box (oi 2 1) 0]),(11,ai ((l7_m11:Nat):Int)),(12,ai ((l14_m12:Nat):Int))],Ak (Aq [(oi 0 1,.cells 25 [.own (oi 0 0) (.slice .int) 0 l7_p0.length]),(oi 1 1,.cells 3 [ai a0]),(oi 2 1,.cells 25 [.own (oi 2 0) (.slice .int) 0 l7_p2.length]),(oi 0 0,.mat 66 (oi 3 1) .int l7_p0),(oi 3 1,.pool 3 .int l7_p0),(oi 2 0,.mat 66 (oi 4 1) .int l7_p2),(oi 4 1,.pool 3 .int l7_p2)]),2⟩) ?_ ?_
    ·intro v_ h;refine Al ?_;refine A3 h (fun (l15_m12:Nat) S_=>S_=⟨Ao [(2,ai a2),(5,.box (oi 0 1) 0),(9,ai ((l7_m9:Nat):Int)),(10,.fn 101 [.box (oi 1 1) 0,.box (oi 0 1) 0,.box (oi 2 1) 0]),(11,ai ((l7_m11:Nat):Int)),(12,ai ((l15_m12:Nat):Int))],Ak (Aq [(oi 0 1,.cells 25 [.own (oi 0 0) (.slice .int) 0 l7_p0.length]),(oi 1 1,.cells 3 [ai a0]),(oi 2 1,.cells 25 [.own (oi 2 0) (.slice .int) 0 l7_p2.length]),(oi 0 0,.mat 66 (oi 3 1) .int l7_p0),(oi 3 1,.pool 3 .int l7_p0),(oi 2 0,.mat 66 (oi 4 1) .int l7_p2),(oi 4 1,.pool 3 .int l7_p2)]),2⟩) ⟨_,Ac [],rfl⟩ ?_;rintro n_ l15_m12 _ c_ rfl h hn15
     (try dsimp only at h);unfold Cb at h;unfold Jw;refine Ab ?_;refine Aw h (fun (l17_m40:Bool) S_=>S_=⟨Ao [(2,ai a2),(5,.box (oi 0 1) 0),(9,ai ((l7_m9:Nat):Int)),(10,.fn 101 [.box (oi 1 1) 0,.box (oi 0 1) 0,.box (oi 2 1) 0]),(11,ai ((l7_m11:Nat):Int)),(12,ai ((l15_m12:Nat):Int)),(40,.bool l17_m40)],Ak (Aq [(oi 0 1,.cells 25 [.own (oi 0 0) (.slice .int) 0 l7_p0.length]),(oi 1 1,.cells 3 [ai a0]),(oi 2 1,.cells 25 [.own (oi 2 0) (.slice .int) 0 l7_p2.length]),(oi 0 0,.mat 66 (oi 3 1) .int l7_p0),(oi 3 1,.pool 3 .int l7_p0),(oi 2 0,.mat 66 (oi 4 1) .int l7_p2),(oi 4 1,.pool 3 .int l7_p2)]),2⟩) ?_ ?_
     ·intro v_ h;rcases Ad h with ⟨q18,h⟩ | ⟨q18,h⟩
      ·have q18_:=of_decide_eq_true q18;obtain ⟨x19,e19,h⟩:=Ae h;obtain ⟨x20,e20,h⟩:=Ae h;refine Aa 16 ?_;refine rz0 (ai ((l15_m12:Nat):Int)) ?_;refine rzl (.own (oi 0 0) (.slice .int) 0 l7_p0.length) ?_;refine rz0 (ai ((l7_p0.length:Nat):Int)) ?_;refine rz0 (.bool (decide (((l15_m12:Nat):Int)<((l7_p0.length:Nat):Int)))) ?_;refine rz0 (.bool (decide (((l15_m12:Nat):Int)<((l7_p0.length:Nat):Int)))) ?_;refine rsl (.own (oi 0 0) (.slice .int) 0 l7_p0.length) (zg q18) ?_;refine rs0 (ai ((l15_m12:Nat):Int)) (zg q18) ?_;refine rs0 (.elt (oi 0 0) l15_m12 0) (Fv (by kernel_rfl) q18 (zo (t:=.slice .int) (o:=oi 0 0) (len:=l7_p0.length) (k:=.i64) (m:=((l15_m12:Nat):Int)) (Ay _) (Av e19))) ?_;refine rsl (.own (kid (oi 3 1) l15_m12) .int 0 x19.length) (Fv (by kernel_rfl) q18 (F0 (o:=oi 0 0) (p:=oi 3 1) (e1:=66) (u:=.int) (xss:=l7_p0) (row:=x19) (j:=l15_m12) (by kernel_rfl) (by kernel_rfl) e19)) ?_;refine rs0 (ai ((l7_m11:Nat):Int)) (zg q18) ?_;refine rs0 (.elt (kid (oi 3 1) l15_m12) l7_m11 0) (Fv (by kernel_rfl) q18 (zo (t:=.int) (o:=kid (oi 3 1) l15_m12) (len:=x19.length) (k:=.i64) (m:=((l7_m11:Nat):Int)) (Ay _) (Av e20))) ?_;refine rsl (ai x20) (Fv (by kernel_rfl) q18 (C0 (i:=kid (oi 3 1) l15_m12) (j:=l7_m11) (k:=0) (e:=3) (t:=.int) (xs:=x19) (by kernel_rfl) (Bo (by kernel_rfl) e19) e20 (by kernel_rfl))) ?_;refine rs0 (.bool (x20==0)) (zg q18) ?_;refine rs0 (.bool (x20==0)) (zT q18) ?_;refine An (tn_ ?_);obtain rfl:=zj h;exact ⟨_,Ac [],rfl⟩
      have q18_:=of_decide_eq_false q18;refine Aa 16 ?_;refine rz0 (ai ((l15_m12:Nat):Int)) ?_;refine rzl (.own (oi 0 0) (.slice .int) 0 l7_p0.length) ?_;refine rz0 (ai ((l7_p0.length:Nat):Int)) ?_;refine rz0 (.bool (decide (((l15_m12:Nat):Int)<((l7_p0.length:Nat):Int)))) ?_;refine rz0 (.bool (decide (((l15_m12:Nat):Int)<((l7_p0.length:Nat):Int)))) ?_;refine zs q18 ?_;refine zs q18 ?_;refine zs q18 ?_;refine zs q18 ?_;refine zs q18 ?_;refine zs q18 ?_;refine zs q18 ?_;refine zs q18 ?_;refine rs0 (.bool false) (zF q18) ?_;refine An (tn_ ?_);obtain rfl:=zj h;exact ⟨_,Ac [],rfl⟩
     rintro l17_m40 _ rfl h
     (try dsimp only at h);rcases Ad h with ⟨q21,h⟩ | ⟨q21,h⟩
     ·refine Af q21 ?_;refine Ai (tn_ ?_);refine wr_ ?_;refine Al ?_;obtain ⟨g22,h⟩:=Au h;refine Aa 5 ?_;refine rz0 (ai ((l15_m12:Nat):Int)) ?_;refine rs0 (ai ((l15_m12+1:Nat):Int)) (za g22) ?_;refine rsB 1 ?_;refine An (bn_ (tn_ ?_));obtain rfl:=zj h;exact ⟨l15_m12+1,_,Ac [],rfl,hn15⟩
     refine Ag q21 ?_;refine Az (te_ (te_ (be_ (tn_ ?_))));obtain rfl:=zj h;have h:=hn15
     (try dsimp only at h);obtain rfl:=zj h;exact ⟨_,Ac [],rfl⟩
    rintro l14_m12 _ rfl h
    (try dsimp only at h);refine Ab ?_;refine Aj ?_;rcases Ad h with ⟨q25,h⟩ | ⟨q25,h⟩
    ·refine Af q25 ?_;refine Az (te_ (be_ (tn_ ?_)));obtain rfl:=zj h;exact ⟨_,Ac [],⟨l7_m9,l7_p0,l7_p2,rfl,rfl⟩⟩
    refine Ag q25 ?_;refine Ai (tn_ ?_);refine wr_ ?_;refine Ab ?_;obtain ⟨y27,h27,h⟩:=Ae h;refine Aa 11 ?_;refine rz0 (.fn 101 [.box (oi 1 1) 0,.box (oi 0 1) 0,.box (oi 2 1) 0]) ?_;refine rz0 (ai ((l7_m9:Nat):Int)) ?_;refine rz0 (ai ((l14_m12:Nat):Int)) ?_;refine rz0 (.agg [ai 0,ai ((l7_m9:Nat):Int),ai ((l14_m12:Nat):Int),ai 0]) ?_;refine Jq (.tup []) [(oi 1 1,some (.cells 3 [ai a0])),(oi 0 1,some (.cells 25 [.own (oi 0 0) (.slice .int) 0 y27.1.length])),(oi 0 0,some (.mat 66 (oi 816 10) .int y27.1)),(oi 816 10,some (.pool 3 .int y27.1)),(oi 2 1,some (.cells 25 [.own (oi 2 0) (.slice .int) 0 y27.2.length])),(oi 2 0,some (.mat 66 (oi 817 10) .int y27.2)),(oi 817 10,some (.pool 3 .int y27.2)),(oi 1 1,none),(oi 0 1,none),(oi 0 0,none),(oi 3 1,some (.pool 3 .int [])),(oi 2 1,none),(oi 2 0,none),(oi 4 1,some (.pool 3 .int []))] [(oi 0 0,oi 1 1),(oi 1 0,oi 0 1),(oi 2 0,oi 0 0),(oi 3 0,oi 3 1),(oi 4 0,oi 2 1),(oi 5 0,oi 2 0),(oi 6 0,oi 4 1)] [.agg [ai 0,ai ((l7_m9:Nat):Int),ai ((l14_m12:Nat):Int),ai 0],.box (oi 1 1) 0,.box (oi 0 1) 0,.box (oi 2 1) 0] (caps:=[.box (oi 1 1) 0,.box (oi 0 1) 0,.box (oi 2 1) 0]) trivial (G8 h27) G9 ⟨by kernel_rfl,⟨by kernel_rfl,⟨by kernel_rfl,⟨by kernel_rfl,⟨by kernel_rfl,⟨by kernel_rfl,⟨by kernel_rfl,trivial⟩⟩⟩⟩⟩⟩⟩ (.cons (.ren (by kernel_rfl)) (.cons (.ren (by kernel_rfl)) (.cons (.ren (by kernel_rfl)) (.cons (.ren (by kernel_rfl)) .nil)))) (B8 (by kernel_rfl) (by kernel_rfl) ⟨Ca (by kernel_rfl),⟨Ca (by kernel_rfl),⟨Fm (k:=oi 0 1) (ty:=25) (cs:=[.own (oi 0 0) (.slice .int) 0 l7_p0.length]) (Ca (by kernel_rfl)) (by kernel_rfl) (by kernel_rfl),⟨I2 (o:=oi 0 0) (p:=oi 3 1) (e1:=66) (m:=l7_p0.length) (u:=.int) (xss:=l7_p0) (Fm (k:=oi 0 1) (ty:=25) (cs:=[.own (oi 0 0) (.slice .int) 0 l7_p0.length]) (Ca (by kernel_rfl)) (by kernel_rfl) (by kernel_rfl)) (by kernel_rfl),⟨Ca (by kernel_rfl),⟨Fm (k:=oi 2 1) (ty:=25) (cs:=[.own (oi 2 0) (.slice .int) 0 l7_p2.length]) (Ca (by kernel_rfl)) (by kernel_rfl) (by kernel_rfl),⟨I2 (o:=oi 2 0) (p:=oi 4 1) (e1:=66) (m:=l7_p2.length) (u:=.int) (xss:=l7_p2) (Fm (k:=oi 2 1) (ty:=25) (cs:=[.own (oi 2 0) (.slice .int) 0 l7_p2.length]) (Ca (by kernel_rfl)) (by kernel_rfl) (by kernel_rfl)) (by kernel_rfl),trivial⟩⟩⟩⟩⟩⟩⟩) ?_;refine An (tn_ ?_);refine wr_ ?_;refine Ab ?_;obtain ⟨x29,e29,h⟩:=Ae h;obtain ⟨x30,e30,h⟩:=Ae h;obtain ⟨y31,h31,h⟩:=Ae h;refine Aa 22 ?_;refine rz0 (.fn 101 [.box (oi 1 1) 0,.box (oi 0 1) 0,.box (oi 2 1) 0]) ?_;refine rz0 (ai ((l7_m9:Nat):Int)) ?_;refine rzl (.own (oi 0 0) (.slice .int) 0 y27.1.length) ?_;refine rz0 (ai ((l7_m9:Nat):Int)) ?_;refine rs0 (.elt (oi 0 0) l7_m9 0) (zo (t:=.slice .int) (o:=oi 0 0) (len:=y27.1.length) (k:=.i64) (m:=((l7_m9:Nat):Int)) (Ay _) (Av e29)) ?_;refine rsl (.own (kid (oi 816 10) l7_m9) .int 0 x29.length) (F0 (o:=oi 0 0) (p:=oi 816 10) (e1:=66) (u:=.int) (xss:=y27.1) (row:=x29) (j:=l7_m9) (by kernel_rfl) (by kernel_rfl) e29) ?_;refine rz0 (ai ((l7_m11:Nat):Int)) ?_;refine rs0 (.elt (kid (oi 816 10) l7_m9) l7_m11 0) (zo (t:=.int) (o:=kid (oi 816 10) l7_m9) (len:=x29.length) (k:=.i64) (m:=((l7_m11:Nat):Int)) (Ay _) (Av e30)) ?_;refine rsl (ai x30) (C0 (i:=kid (oi 816 10) l7_m9) (j:=l7_m11) (k:=0) (e:=3) (t:=.int) (xs:=x29) (by kernel_rfl) (Bo (by kernel_rfl) e29) e30 (by kernel_rfl)) ?_;refine rz0 (.agg [ai 1,ai ((l7_m9:Nat):Int),ai 0,ai x30]) ?_;refine Jq (.tup []) [(oi 1 1,some (.cells 3 [ai a0])),(oi 0 1,some (.cells 25 [.own (oi 0 0) (.slice .int) 0 y31.1.length])),(oi 0 0,some (.mat 66 (oi 992 21) .int y31.1)),(oi 992 21,some (.pool 3 .int y31.1)),(oi 2 1,some (.cells 25 [.own (oi 2 0) (.slice .int) 0 y31.2.length])),(oi 2 0,some (.mat 66 (oi 993 21) .int y31.2)),(oi 993 21,some (.pool 3 .int y31.2)),(oi 1 1,none),(oi 0 1,none),(oi 0 0,none),(oi 816 10,some (.pool 3 .int [])),(oi 2 1,none),(oi 2 0,none),(oi 817 10,some (.pool 3 .int []))] [(oi 0 0,oi 1 1),(oi 1 0,oi 0 1),(oi 2 0,oi 0 0),(oi 3 0,oi 816 10),(oi 4 0,oi 2 1),(oi 5 0,oi 2 0),(oi 6 0,oi 817 10)] [.agg [ai 1,ai ((l7_m9:Nat):Int),ai 0,ai x30],.box (oi 1 1) 0,.box (oi 0 1) 0,.box (oi 2 1) 0] (caps:=[.box (oi 1 1) 0,.box (oi 0 1) 0,.box (oi 2 1) 0]) trivial (G8 h31) G9 ⟨by kernel_rfl,⟨by kernel_rfl,⟨by kernel_rfl,⟨by kernel_rfl,⟨by kernel_rfl,⟨by kernel_rfl,⟨by kernel_rfl,trivial⟩⟩⟩⟩⟩⟩⟩ (.cons (.ren (by kernel_rfl)) (.cons (.ren (by kernel_rfl)) (.cons (.ren (by kernel_rfl)) (.cons (.ren (by kernel_rfl)) .nil)))) (B8 (by kernel_rfl) (by kernel_rfl) ⟨Ca (by kernel_rfl),⟨Ca (by kernel_rfl),⟨Fm (k:=oi 0 1) (ty:=25) (cs:=[.own (oi 0 0) (.slice .int) 0 y27.1.length]) (Ca (by kernel_rfl)) (by kernel_rfl) (by kernel_rfl),⟨I2 (o:=oi 0 0) (p:=oi 816 10) (e1:=66) (m:=y27.1.length) (u:=.int) (xss:=y27.1) (Fm (k:=oi 0 1) (ty:=25) (cs:=[.own (oi 0 0) (.slice .int) 0 y27.1.length]) (Ca (by kernel_rfl)) (by kernel_rfl) (by kernel_rfl)) (by kernel_rfl),⟨Ca (by kernel_rfl),⟨Fm (k:=oi 2 1) (ty:=25) (cs:=[.own (oi 2 0) (.slice .int) 0 y27.2.length]) (Ca (by kernel_rfl)) (by kernel_rfl) (by kernel_rfl),⟨I2 (o:=oi 2 0) (p:=oi 817 10) (e1:=66) (m:=y27.2.length) (u:=.int) (xss:=y27.2) (Fm (k:=oi 2 1) (ty:=25) (cs:=[.own (oi 2 0) (.slice .int) 0 y27.2.length]) (Ca (by kernel_rfl)) (by kernel_rfl) (by kernel_rfl)) (by kernel_rfl),trivial⟩⟩⟩⟩⟩⟩⟩) ?_;refine An (tn_ ?_);refine wr_ ?_;refine Aw h (fun t_ S_=>∃ (l32_p0:List (List Int)),∃ (l32_p2:List (List Int)),t_=(l32_p0,l32_p2)∧S_=⟨Ao [(2,ai a2),(5,.box (oi 0 1) 0),(9,ai ((l7_m9:Nat):Int)),(10,.fn 101 [.box (oi 1 1) 0,.box (oi 0 1) 0,.box (oi 2 1) 0]),(11,ai ((l7_m11:Nat):Int))],Ak (Aq [(oi 0 1,.cells 25 [.own (oi 0 0) (.slice .int) 0 l32_p0.length]),(oi 1 1,.cells 3 [ai a0]),(oi 2 1,.cells 25 [.own (oi 2 0) (.slice .int) 0 l32_p2.length]),(oi 0 0,.mat 66 (oi 3 1) .int l32_p0),(oi 3 1,.pool 3 .int l32_p0),(oi 2 0,.mat 66 (oi 4 1) .int l32_p2),(oi 4 1,.pool 3 .int l32_p2)]),2⟩) ?_ ?_
    ·intro v_ h;refine Aj ?_;refine Al ?_;refine A3 h (fun t_ S_=>∃ (l34_m65:Nat),∃ (l34_p0:List (List Int)),∃ (l34_p2:List (List Int)),t_=(l34_m65,l34_p0,l34_p2)∧S_=⟨Ao [(2,ai a2),(5,.box (oi 0 1) 0),(9,ai ((l7_m9:Nat):Int)),(10,.fn 101 [.box (oi 1 1) 0,.box (oi 0 1) 0,.box (oi 2 1) 0]),(11,ai ((l7_m11:Nat):Int)),(64,ai ((y31.1.length:Nat):Int)),(65,ai ((l34_m65:Nat):Int))],Ak (Aq [(oi 0 1,.cells 25 [.own (oi 0 0) (.slice .int) 0 l34_p0.length]),(oi 1 1,.cells 3 [ai a0]),(oi 2 1,.cells 25 [.own (oi 2 0) (.slice .int) 0 l34_p2.length]),(oi 0 0,.mat 66 (oi 3 1) .int l34_p0),(oi 3 1,.pool 3 .int l34_p0),(oi 2 0,.mat 66 (oi 4 1) .int l34_p2),(oi 4 1,.pool 3 .int l34_p2)]),2⟩) ⟨_,Ac [(oi 3 1,oi 992 21),(oi 4 1,oi 993 21)],⟨0,y31.1,y31.2,rfl,rfl⟩⟩ ?_;rintro n_ _ _ c_ ⟨l34_m65,l34_p0,l34_p2,rfl,rfl⟩ h hn34
     (try dsimp only at h);unfold C3 at h;unfold Js;refine Aj ?_;refine Ab ?_;rcases Ad h with ⟨q37,h⟩ | ⟨q37,h⟩
     ·have q37_:=of_decide_eq_true q37;refine Af q37 ?_;refine Ai (tn_ ?_);refine wr_ ?_;refine Aw h (fun t_ S_=>∃ (l38_p0:List (List Int)),∃ (l38_p2:List (List Int)),t_=(l38_p0,l38_p2)∧S_=⟨Ao [(2,ai a2),(5,.box (oi 0 1) 0),(9,ai ((l7_m9:Nat):Int)),(10,.fn 101 [.box (oi 1 1) 0,.box (oi 0 1) 0,.box (oi 2 1) 0]),(11,ai ((l7_m11:Nat):Int)),(64,ai ((y31.1.length:Nat):Int)),(65,ai ((l34_m65:Nat):Int))],Ak (Aq [(oi 0 1,.cells 25 [.own (oi 0 0) (.slice .int) 0 l38_p0.length]),(oi 1 1,.cells 3 [ai a0]),(oi 2 1,.cells 25 [.own (oi 2 0) (.slice .int) 0 l38_p2.length]),(oi 0 0,.mat 66 (oi 3 1) .int l38_p0),(oi 3 1,.pool 3 .int l38_p0),(oi 2 0,.mat 66 (oi 4 1) .int l38_p2),(oi 4 1,.pool 3 .int l38_p2)]),2⟩) ?_ ?_
      ·intro v_ h;refine Al ?_;refine Aj ?_;refine Aw h (fun (l40_m80:Bool) S_=>S_=⟨Ao [(2,ai a2),(5,.box (oi 0 1) 0),(9,ai ((l7_m9:Nat):Int)),(10,.fn 101 [.box (oi 1 1) 0,.box (oi 0 1) 0,.box (oi 2 1) 0]),(11,ai ((l7_m11:Nat):Int)),(13,ai ((l34_m65:Nat):Int)),(64,ai ((y31.1.length:Nat):Int)),(65,ai ((l34_m65:Nat):Int)),(80,.bool l40_m80)],Ak (Aq [(oi 0 1,.cells 25 [.own (oi 0 0) (.slice .int) 0 l34_p0.length]),(oi 1 1,.cells 3 [ai a0]),(oi 2 1,.cells 25 [.own (oi 2 0) (.slice .int) 0 l34_p2.length]),(oi 0 0,.mat 66 (oi 3 1) .int l34_p0),(oi 3 1,.pool 3 .int l34_p0),(oi 2 0,.mat 66 (oi 4 1) .int l34_p2),(oi 4 1,.pool 3 .int l34_p2)]),2⟩) ?_ ?_
       ·intro v_ h;rcases Ad h with ⟨q41,h⟩ | ⟨q41,h⟩
        ·obtain ⟨x42,e42,h⟩:=Ae h;obtain ⟨x43,e43,h⟩:=Ae h;refine Aa 18 ?_;refine rz0 (ai ((l34_m65:Nat):Int)) ?_;refine rz0 (ai ((l7_m9:Nat):Int)) ?_;refine rz0 (.bool (((l34_m65:Nat):Int) !=((l7_m9:Nat):Int))) ?_;refine rz0 (.bool (((l34_m65:Nat):Int) !=((l7_m9:Nat):Int))) ?_;refine rsl (.own (oi 0 0) (.slice .int) 0 l34_p0.length) (zg q41) ?_;refine rs0 (ai ((l34_m65:Nat):Int)) (zg q41) ?_;refine rs0 (.elt (oi 0 0) l34_m65 0) (Fv (by kernel_rfl) q41 (zo (t:=.slice .int) (o:=oi 0 0) (len:=l34_p0.length) (k:=.i64) (m:=((l34_m65:Nat):Int)) (Ay _) (Av e42))) ?_;refine rsl (.own (kid (oi 3 1) l34_m65) .int 0 x42.length) (Fv (by kernel_rfl) q41 (F0 (o:=oi 0 0) (p:=oi 3 1) (e1:=66) (u:=.int) (xss:=l34_p0) (row:=x42) (j:=l34_m65) (by kernel_rfl) (by kernel_rfl) e42)) ?_;refine rs0 (ai ((l7_m11:Nat):Int)) (zg q41) ?_;refine rs0 (.elt (kid (oi 3 1) l34_m65) l7_m11 0) (Fv (by kernel_rfl) q41 (zo (t:=.int) (o:=kid (oi 3 1) l34_m65) (len:=x42.length) (k:=.i64) (m:=((l7_m11:Nat):Int)) (Ay _) (Av e43))) ?_;refine rsl (ai x43) (Fv (by kernel_rfl) q41 (C0 (i:=kid (oi 3 1) l34_m65) (j:=l7_m11) (k:=0) (e:=3) (t:=.int) (xs:=x42) (by kernel_rfl) (Bo (by kernel_rfl) e42) e43 (by kernel_rfl))) ?_;refine rs0 (.bool (x43 !=0)) (zg q41) ?_;refine rs0 (.bool (x43 !=0)) (zT q41) ?_;refine An (tn_ ?_);obtain rfl:=zj h;exact ⟨_,Ac [],rfl⟩
        refine Aa 18 ?_;refine rz0 (ai ((l34_m65:Nat):Int)) ?_;refine rz0 (ai ((l7_m9:Nat):Int)) ?_;refine rz0 (.bool (((l34_m65:Nat):Int) !=((l7_m9:Nat):Int))) ?_;refine rz0 (.bool (((l34_m65:Nat):Int) !=((l7_m9:Nat):Int))) ?_;refine zs q41 ?_;refine zs q41 ?_;refine zs q41 ?_;refine zs q41 ?_;refine zs q41 ?_;refine zs q41 ?_;refine zs q41 ?_;refine zs q41 ?_;refine rs0 (.bool false) (zF q41) ?_;refine An (tn_ ?_);obtain rfl:=zj h;exact ⟨_,Ac [],rfl⟩
       rintro l40_m80 _ rfl h
       (try dsimp only at h);rcases Ad h with ⟨q44,h⟩ | ⟨q44,h⟩
       ·refine Af q44 ?_;obtain ⟨x45,e45,h⟩:=Ae h;obtain ⟨x46,e46,h⟩:=Ae h;obtain ⟨y47,h47,h⟩:=Ae h;refine Aa 14 ?_;refine rz0 (.fn 101 [.box (oi 1 1) 0,.box (oi 0 1) 0,.box (oi 2 1) 0]) ?_;refine rz0 (ai ((l34_m65:Nat):Int)) ?_;refine rz0 (ai ((l7_m9:Nat):Int)) ?_;refine rzl (.own (oi 0 0) (.slice .int) 0 l34_p0.length) ?_;refine rz0 (ai ((l34_m65:Nat):Int)) ?_;refine rs0 (.elt (oi 0 0) l34_m65 0) (zo (t:=.slice .int) (o:=oi 0 0) (len:=l34_p0.length) (k:=.i64) (m:=((l34_m65:Nat):Int)) (Ay _) (Av e45)) ?_;refine rsl (.own (kid (oi 3 1) l34_m65) .int 0 x45.length) (F0 (o:=oi 0 0) (p:=oi 3 1) (e1:=66) (u:=.int) (xss:=l34_p0) (row:=x45) (j:=l34_m65) (by kernel_rfl) (by kernel_rfl) e45) ?_;refine rz0 (ai ((l7_m11:Nat):Int)) ?_;refine rs0 (.elt (kid (oi 3 1) l34_m65) l7_m11 0) (zo (t:=.int) (o:=kid (oi 3 1) l34_m65) (len:=x45.length) (k:=.i64) (m:=((l7_m11:Nat):Int)) (Ay _) (Av e46)) ?_;refine rsl (ai x46) (C0 (i:=kid (oi 3 1) l34_m65) (j:=l7_m11) (k:=0) (e:=3) (t:=.int) (xs:=x45) (by kernel_rfl) (Bo (by kernel_rfl) e45) e46 (by kernel_rfl)) ?_;refine rz0 (.agg [ai 2,ai ((l34_m65:Nat):Int),ai ((l7_m9:Nat):Int),ai x46]) ?_;refine Jq (.tup []) [(oi 1 1,some (.cells 3 [ai a0])),(oi 0 1,some (.cells 25 [.own (oi 0 0) (.slice .int) 0 y47.1.length])),(oi 0 0,some (.mat 66 (oi 1472 13) .int y47.1)),(oi 1472 13,some (.pool 3 .int y47.1)),(oi 2 1,some (.cells 25 [.own (oi 2 0) (.slice .int) 0 y47.2.length])),(oi 2 0,some (.mat 66 (oi 1473 13) .int y47.2)),(oi 1473 13,some (.pool 3 .int y47.2)),(oi 1 1,none),(oi 0 1,none),(oi 0 0,none),(oi 3 1,some (.pool 3 .int [])),(oi 2 1,none),(oi 2 0,none),(oi 4 1,some (.pool 3 .int []))] [(oi 0 0,oi 1 1),(oi 1 0,oi 0 1),(oi 2 0,oi 0 0),(oi 3 0,oi 3 1),(oi 4 0,oi 2 1),(oi 5 0,oi 2 0),(oi 6 0,oi 4 1)] [.agg [ai 2,ai ((l34_m65:Nat):Int),ai ((l7_m9:Nat):Int),ai x46],.box (oi 1 1) 0,.box (oi 0 1) 0,.box (oi 2 1) 0] (caps:=[.box (oi 1 1) 0,.box (oi 0 1) 0,.box (oi 2 1) 0]) trivial (G8 h47) G9 ⟨by kernel_rfl,⟨by kernel_rfl,⟨by kernel_rfl,⟨by kernel_rfl,⟨by kernel_rfl,⟨by kernel_rfl,⟨by kernel_rfl,trivial⟩⟩⟩⟩⟩⟩⟩ (.cons (.ren (by kernel_rfl)) (.cons (.ren (by kernel_rfl)) (.cons (.ren (by kernel_rfl)) (.cons (.ren (by kernel_rfl)) .nil)))) (B8 (by kernel_rfl) (by kernel_rfl) ⟨Ca (by kernel_rfl),⟨Ca (by kernel_rfl),⟨Fm (k:=oi 0 1) (ty:=25) (cs:=[.own (oi 0 0) (.slice .int) 0 l34_p0.length]) (Ca (by kernel_rfl)) (by kernel_rfl) (by kernel_rfl),⟨I2 (o:=oi 0 0) (p:=oi 3 1) (e1:=66) (m:=l34_p0.length) (u:=.int) (xss:=l34_p0) (Fm (k:=oi 0 1) (ty:=25) (cs:=[.own (oi 0 0) (.slice .int) 0 l34_p0.length]) (Ca (by kernel_rfl)) (by kernel_rfl) (by kernel_rfl)) (by kernel_rfl),⟨Ca (by kernel_rfl),⟨Fm (k:=oi 2 1) (ty:=25) (cs:=[.own (oi 2 0) (.slice .int) 0 l34_p2.length]) (Ca (by kernel_rfl)) (by kernel_rfl) (by kernel_rfl),⟨I2 (o:=oi 2 0) (p:=oi 4 1) (e1:=66) (m:=l34_p2.length) (u:=.int) (xss:=l34_p2) (Fm (k:=oi 2 1) (ty:=25) (cs:=[.own (oi 2 0) (.slice .int) 0 l34_p2.length]) (Ca (by kernel_rfl)) (by kernel_rfl) (by kernel_rfl)) (by kernel_rfl),trivial⟩⟩⟩⟩⟩⟩⟩) ?_;refine An (bn_ (tn_ ?_));obtain rfl:=zj h;exact ⟨_,Ac [(oi 3 1,oi 1472 13),(oi 4 1,oi 1473 13)],⟨y47.1,y47.2,rfl,rfl⟩⟩
       refine Ag q44 ?_;refine Ai (bn_ (tn_ ?_));obtain rfl:=zj h;exact ⟨_,Ac [],⟨l34_p0,l34_p2,rfl,rfl⟩⟩
      rintro _ _ ⟨l38_p0,l38_p2,rfl,rfl⟩ h
      (try dsimp only at h);obtain ⟨g48,h⟩:=Au h;refine Aa 4 ?_;refine rs0 (ai ((l34_m65+1:Nat):Int)) (za g48) ?_;refine rsB 1 ?_;refine An (tn_ ?_);obtain rfl:=zj h;exact ⟨(l34_m65+1,l38_p0,l38_p2),_,Ac [],⟨l34_m65+1,l38_p0,l38_p2,rfl,rfl⟩,hn34⟩
     have q37_:=of_decide_eq_false q37;refine Ag q37 ?_;refine Az (te_ (te_ (be_ (tn_ ?_))));obtain rfl:=zj h;have h:=hn34
     (try dsimp only at h);obtain rfl:=zj h;exact ⟨_,Ac [],⟨l34_p0,l34_p2,rfl,rfl⟩⟩
    rintro _ _ ⟨l32_p0,l32_p2,rfl,rfl⟩ h
    (try dsimp only at h);obtain ⟨g49,h⟩:=Au h;refine Aa 5 ?_;refine rz0 (ai ((l7_m9:Nat):Int)) ?_;refine rs0 (ai ((l7_m9+1:Nat):Int)) (za g49) ?_;refine rsB 1 ?_;refine An (bn_ (tn_ ?_));obtain rfl:=zj h;exact ⟨_,Ac [],⟨l7_m9+1,l32_p0,l32_p2,rfl,rfl⟩⟩
   rintro _ _ ⟨l12_m9,l12_p0,l12_p2,rfl,rfl⟩ h
   (try dsimp only at h);obtain ⟨g50,h⟩:=Au h;refine Aa 5 ?_;refine rz0 (ai ((l7_m11:Nat):Int)) ?_;refine rs0 (ai ((l7_m11+1:Nat):Int)) (za g50) ?_;refine rsB 1 ?_;refine An (tn_ ?_);obtain rfl:=zj h;exact ⟨(l12_m9,l7_m11+1,l12_p0,l12_p2),_,Ac [],⟨l12_m9,l7_m11+1,l12_p0,l12_p2,rfl,rfl⟩,hn7⟩
  refine Ag q11 ?_;refine Az (te_ (te_ (be_ (tn_ ?_))));obtain rfl:=zj h;have h:=hn7
  (try dsimp only at h);obtain rfl:=zj h;exact ⟨_,Ac [(oi 0 1,oi 3 1),(oi 1 1,oi 4 1)],⟨l7_m9,l7_p0,l7_p2,rfl,rfl⟩⟩
 rintro _ _ ⟨l5_m9,l5_p0,l5_p2,rfl,rfl⟩ h
 (try dsimp only at h);refine Aj ?_;refine Ah ?_;obtain rfl:=zj h;exact Nn [ai ((l5_m9:Nat):Int)] (Ac (tl:=[(8,ai ((l5_m9:Nat):Int))]) (g:=2) [])
end
section
open Go.RowKit Go.Deep
set_option maxRecDepth 4000
def Lx:AC :=
 (.seq (.seq (rg [xo 12 (qm (tm 5)),xo 13 (qm (tm 0)),xo 14 (.i (.len (tm 13))),xo 15 (qb .lss (tm 12) (tm 14))])
 (.cond (tm 15)
  .skip
  (.exit 0)))
 (.seq (.block 1 (.seq (rg [xo 18 (qm (tm 0)),xo 19 (qm (tm 5)),xo 20 (qx 1 (tm 18) (tm 19)),xo 21 (ql (tm 20)),xo 22 (qm (tm 1)),xo 23 (qc 37 [tm 21,tm 22] [[some .int],[]]),xo 1 (qm (tm 23))])
 (.seq (rg [xo 24 (qm (tm 1)),xo 25 (qb .lss (tm 24) (ci 0))])
 (.cond (tm 25)
  (.seq (rg [xo 4 (qm (ci (-1)))])
  .ret)
  .skip))))
 (rg [xo 16 (qm (tm 5)),xo 17 (qb .add (tm 16) (ci 1)),xo 5 (qm (tm 17))])))
def P5:AC :=
 (.seq (rg [xo 4 (qm (ci 0))])
 (.seq (rg [xo 6 (qm (tm 1)),xo 7 (qm (tm 0)),xo 8 (.i (.len (tm 7))),xo 9 (qb .sub (tm 6) (tm 8)),xo 1 (qm (tm 9))])
 (.seq (.seq (rg [xo 10 (qm (tm 1)),xo 11 (qb .lss (tm 10) (ci 0))])
 (.cond (tm 11)
  (.seq (rg [xo 4 (qm (ci (-1)))])
  .ret)
  .skip))
 (.seq (.seq (rg [xo 5 (qm (ci 0))])
 (.block 0 (.loop Lx)))
 (.seq (rg [xo 26 (qm (tm 1)),xo 4 (qm (tm 26))])
 .ret)))))
def Abt:List Res:=[.tmp 4]
theorem Z9:Am Tryz.prog Tryz.f20=some (P5,Abt):=by kernel_rfl
def D8 (a0:List (List Int)) (l9_m1:Int) (l9_m5:Nat):Option (Ctl (Int×Nat) (Ctl Int Int)) :=
 cond (decide (((l9_m5:Nat):Int)<((a0.length:Nat):Int)))
 (Option.bind (a0[l9_m5]?) fun x15 =>
 Option.bind (Hl x15 l9_m1) fun y16 =>
 cond (decide (y16<0))
  (some (Ctl.out (Ctl.out (-1))))
  (og (l9_m5+1<4611686018427387904) <|
  some (Ctl.next (y16,l9_m5+1))))
 (some (Ctl.out (Ctl.next l9_m1)))
def Gh (a0:List (List Int)) (a1:Int):Option Int :=
 cond (decide (wI (a1 - ((a0.length:Nat):Int))<0))
 (some (-1))
 (Do (A4 (fun s_:Int×Nat=>D8 a0 s_.1 s_.2) 4611686018427387904 (wI (a1 - ((a0.length:Nat):Int)),0)) fun l7_m1 =>
 some l7_m1)
def Yu (r:Int):RV:=⟨false,[(false,[.sc (.int .i64 r)])]⟩
theorem Yz {a0:List (List Int)} {a1:Int} {r:Int} (h:Gh a0 a1=some r):Ax Tryz.prog Tab 20 [.tree (.slice .int) a0,ai a1] (Yu r):=by
 refine Ar (by kernel_rfl) Tryz.func20 Z9 (n:=27) (by kernel_rfl) (by simp) (tl:=[(0,.tree (.slice .int) a0),(1,ai a1)]) rfl ?_;unfold P5;unfold Gh at h;refine Aj ?_;refine Aj ?_;refine Ab ?_;refine Aj ?_;rcases Ad h with ⟨q5,h⟩ | ⟨q5,h⟩
 ·have q5_:=of_decide_eq_true q5;refine Af q5 ?_;refine Aj ?_;refine Ah (tr_ ?_);obtain rfl:=zj h;exact A0 [ai (-1)] (Ap rfl zl As)
 have q5_:=of_decide_eq_false q5;refine Ag q5 ?_;refine Ai (tn_ ?_);refine wr_ ?_;refine Bh h (fun (l7_m1:Int) S_=>S_=⟨Ao [(1,ai l7_m1)],Ak (Aq []),2⟩) ?_ ?_
 ·intro v_ h hk7;refine Aj ?_;refine Al ?_;refine A3 h (fun t_ S_=>∃ (l9_m1:Int),∃ (l9_m5:Nat),t_=(l9_m1,l9_m5)∧S_=⟨Ao [(0,.tree (.slice .int) a0),(1,ai l9_m1),(5,ai ((l9_m5:Nat):Int))],Ak (Aq []),2⟩) ⟨_,Ac [],⟨wI (a1 - ((a0.length:Nat):Int)),0,rfl,rfl⟩⟩ ?_;rintro n_ _ _ c_ ⟨l9_m1,l9_m5,rfl,rfl⟩ h hn9
  (try dsimp only at h);unfold D8 at h;unfold Lx;refine Ab ?_;refine Aj ?_;rcases Ad h with ⟨q12,h⟩ | ⟨q12,h⟩
  ·have q12_:=of_decide_eq_true q12;refine Af q12 ?_;refine Ai (tn_ ?_);refine wr_ ?_;refine Ab ?_;refine Al ?_;refine Ab ?_;obtain ⟨x15,e15,h⟩:=Ae h;obtain ⟨y16,h16,h⟩:=Ae h;refine Aa 13 ?_;refine rz0 (.tree (.slice .int) a0) ?_;refine rz0 (ai ((l9_m5:Nat):Int)) ?_;refine rs0 (.telt none (.slice .int) x15 0) (zi (t:=.slice .int) (xs:=a0) (k:=.i64) (m:=((l9_m5:Nat):Int)) (Ay _) e15) ?_;refine rz0 (.tree .int x15) ?_;refine rz0 (ai l9_m1) ?_;refine zc (ai y16) [] [.tree .int x15,ai l9_m1] (Aaw h16) ?_;refine rsB 1 ?_;refine An (tn_ ?_);refine wr_ ?_;refine Aj ?_;rcases Ad h with ⟨q18,h⟩ | ⟨q18,h⟩
   ·have q18_:=of_decide_eq_true q18;refine Af q18 ?_;refine Aj ?_;refine Ah (br_ (tr_ (tr_ (br_ (tr_ ?_)))));obtain rfl:=zj h;have h:=hn9
    (try dsimp only at h);obtain rfl:=zj h;have h:=hk7
    (try dsimp only at h);obtain rfl:=zj h;exact A0 [ai (-1)] (Ap rfl zl As)
   have q18_:=of_decide_eq_false q18;refine Ag q18 ?_;refine Ai (bn_ (tn_ ?_));refine wr_ ?_;obtain ⟨g20,h⟩:=Au h;refine Aa 18 ?_;refine rz0 (ai ((l9_m5:Nat):Int)) ?_;refine rs0 (ai ((l9_m5+1:Nat):Int)) (za g20) ?_;refine rsB 1 ?_;refine An (tn_ ?_);obtain rfl:=zj h;exact ⟨(y16,l9_m5+1),_,Ac [],⟨y16,l9_m5+1,rfl,rfl⟩,hn9⟩
  have q12_:=of_decide_eq_false q12;refine Ag q12 ?_;refine Az (te_ (te_ (be_ (tn_ ?_))));obtain rfl:=zj h;have h:=hn9
  (try dsimp only at h);obtain rfl:=zj h;exact ⟨l9_m1,_,rfl,Ac [],rfl⟩
 rintro l7_m1 _ rfl h
 (try dsimp only at h);refine Aj ?_;refine Ah ?_;obtain rfl:=zj h;exact A0 [ai l7_m1] (Ap rfl zl As)
def Ll:AC :=
 (.seq (.seq (rg [xo 8 (qm (tm 4)),xo 9 (qm (tm 0)),xo 10 (.i (.len (tm 9))),xo 11 (qb .lss (tm 8) (tm 10))])
 (.cond (tm 11)
  .skip
  (.exit 0)))
 (.seq (.block 1 (rg [xo 14 (qm (tm 3)),xo 15 (qm (tm 4)),xo 16 (qm (tm 0)),xo 17 (qm (tm 4)),xo 18 (qx 1 (tm 16) (tm 17)),xo 19 (ql (tm 18)),xo 20 (qc 48 [tm 19] [[some .int]]),xo 21 (qx 1 (tm 14) (tm 15)),xn (qs (tm 21) (tm 20))]))
 (rg [xo 12 (qm (tm 4)),xo 13 (qb .add (tm 12) (ci 1)),xo 4 (qm (tm 13))])))
def Pb:AC :=
 (.seq (rg [xo 2 (qm (.cst .nils))])
 (.seq (rg [xo 5 (qm (tm 0)),xo 6 (.i (.len (tm 5))),xo 7 (.makeV 66 (.slice .int) 24 [.nils] (tm 6) (tm 6)),xo 3 (qm (tm 7))])
 (.seq (.seq (rg [xo 4 (qm (ci 0))])
 (.block 0 (.loop Ll)))
 (.seq (rg [xo 22 (qm (tm 3)),xo 2 (qm (tm 22))])
 .ret))))
def Abw:List Res:=[.tmp 2]
theorem Adj:Am Tryz.prog Tryz.f28=some (Pb,Abw):=by kernel_rfl
theorem Zd:A5 Tryz.prog 28=true:=by kernel_rfl
def Dy (a0:List (List Int)) (l7_m4:Nat) (l7_m3:List (List Int)):Option (Ctl (Nat×List (List Int)) (List (List Int))) :=
 cond (decide (((l7_m4:Nat):Int)<((a0.length:Nat):Int)))
 (Option.bind (a0[l7_m4]?) fun x12 =>
 Option.bind (Hs x12) fun y13 =>
 Option.bind (l7_m3[l7_m4]?) fun x14 =>
 og (l7_m4+1<4611686018427387904) <|
 some (Ctl.next (l7_m4+1,l7_m3.set l7_m4 y13)))
 (some (Ctl.out l7_m3))
def F3 (a0:List (List Int)):Option (List (List Int)) :=
 og (0<=((a0.length:Nat):Int)∧((a0.length:Nat):Int)<=((a0.length:Nat):Int)∧((a0.length:Nat):Int)<=1073741824∧(24:Int)*((a0.length:Nat):Int)<=140737488355328) <|
Option.bind (A4 (fun s_:Nat×List (List Int)=>Dy a0 s_.1 s_.2) 4611686018427387904 (0,List.replicate a0.length ([]:List Int))) fun l5_m3 =>
some l5_m3
theorem Y2 {a0:List (List Int)} {r:List (List Int)} (h:F3 a0=some r):Ir Tryz.prog Tab 28 [.tree (.slice .int) a0] [] (.own (oi 0 1) (.slice .int) 0 r.length) [(oi 0 1,.mat 66 (oi 1 1) .int r),(oi 1 1,.pool 3 .int r)]:=by
 refine Gt (by kernel_rfl) Tryz.func28 Adj (n:=23) (by kernel_rfl) (by simp) (tl:=[(0,.tree (.slice .int) a0)]) rfl (by kernel_rfl) trivial ⟨⟨3,.tail _ (.head _)⟩,⟨trivial,trivial⟩⟩ ?_;unfold Pb;unfold F3 at h;refine Aj ?_;refine Ab ?_;obtain ⟨g4,h⟩:=Au h;refine Aa 6 ?_;refine rz0 (.tree (.slice .int) a0) ?_;refine rz0 (ai ((a0.length:Nat):Int)) ?_;refine Am9 (.own (oi 112 4) (.slice .int) 0 a0.length) (oi 112 4) 66 3 .int (List.replicate a0.length ([]:List Int)) trivial (Ah2 (j:=a0.length) (k:=.i64) (k':=.i64) (m:=((a0.length:Nat):Int)) (c:=((a0.length:Nat):Int)) 3 (by kernel_rfl) (by kernel_rfl) g4 (by kernel_rfl) rfl) (by kernel_rfl) (by rw [List.length_replicate]) (by kernel_rfl) ?_;refine rsB 1 ?_;refine An (tn_ ?_);refine wr_ ?_;refine Aw h (fun (l5_m3:List (List Int)) S_=>S_=⟨Ao [(3,.own (oi 0 1) (.slice .int) 0 l5_m3.length)],Ak (Aq [(oi 0 1,.mat 66 (oi 1 1) .int l5_m3),(oi 1 1,.pool 3 .int l5_m3)]),2⟩) ?_ ?_
 ·intro v_ h;refine Aj ?_;refine Al ?_;refine A3 h (fun t_ S_=>∃ (l7_m4:Nat),∃ (l7_m3:List (List Int)),t_=(l7_m4,l7_m3)∧S_=⟨Ao [(0,.tree (.slice .int) a0),(3,.own (oi 0 1) (.slice .int) 0 l7_m3.length),(4,ai ((l7_m4:Nat):Int))],Ak (Aq [(oi 0 1,.mat 66 (oi 1 1) .int l7_m3),(oi 1 1,.pool 3 .int l7_m3)]),2⟩) ⟨_,(B2 3 (.own (oi 112 4) (.slice .int) 0 a0.length) (.own (oi 112 4) (.slice .int) 0 ((List.replicate a0.length ([]:List Int)).length)) (by kernel_rfl) (congrArg (fun z_=>((.own (oi 112 4) (.slice .int) 0 z_):AV)) (List.length_replicate.symm:a0.length=(List.replicate a0.length ([]:List Int)).length))).trans (Ac [(oi 0 1,oi 112 4),(oi 1 1,oi 112 4)]),⟨0,List.replicate a0.length ([]:List Int),rfl,rfl⟩⟩ ?_;rintro n_ _ _ c_ ⟨l7_m4,l7_m3,rfl,rfl⟩ h hn7
  (try dsimp only at h);unfold Dy at h;unfold Ll;refine Ab ?_;refine Aj ?_;rcases Ad h with ⟨q10,h⟩ | ⟨q10,h⟩
  ·have q10_:=of_decide_eq_true q10;refine Af q10 ?_;refine Ai (tn_ ?_);refine wr_ ?_;refine Ab ?_;refine Al ?_;obtain ⟨x12,e12,h⟩:=Ae h;obtain ⟨y13,h13,h⟩:=Ae h;obtain ⟨x14,e14,h⟩:=Ae h;refine Aa 15 ?_;refine rz0 (.own (oi 0 1) (.slice .int) 0 l7_m3.length) ?_;refine rz0 (ai ((l7_m4:Nat):Int)) ?_;refine rz0 (.tree (.slice .int) a0) ?_;refine rz0 (ai ((l7_m4:Nat):Int)) ?_;refine rs0 (.telt none (.slice .int) x12 0) (zi (t:=.slice .int) (xs:=a0) (k:=.i64) (m:=((l7_m4:Nat):Int)) (Ay _) e12) ?_;refine rz0 (.tree .int x12) ?_;refine zc (.own (oi 320 12) .int 0 y13.length) [(oi 320 12,some (.arr 3 .int y13))] [.tree .int x12] (Acu h13) ?_;refine rs0 (.elt (oi 0 1) l7_m4 0) (zo (t:=.slice .int) (o:=oi 0 1) (len:=l7_m3.length) (k:=.i64) (m:=((l7_m4:Nat):Int)) (Ay _) (Av e14)) ?_;refine Al5 (oi 0 1) (oi 0 1) (.vec 66 1 l7_m3.length ((hdL (oi 1 1) .int l7_m3).set l7_m4 (.own (oi 320 12) .int 0 y13.length))) (Akv (o:=oi 0 1) (e1:=66) (m:=l7_m3.length) (cs:=hdL (oi 1 1) .int l7_m3) (v:=.own (oi 320 12) .int 0 y13.length) (j:=l7_m4) (by kernel_rfl) (by kernel_rfl) (by kernel_rfl) rfl (by rw [E7]; exact Av e14)) ?_;refine An (bn_ (tn_ ?_));refine ⟨_,Apq (e1:=66) (e:=3) (u:=.int) (n:=l7_m3.length) (len:=y13.length) (row:=y13) (ys:=y13) (xss:=l7_m3) (j:=l7_m4) 9000 (oi 0 1) (oi 1 1) (oi 320 12) (by kernel_rfl) (by kernel_rfl) rfl (by kernel_rfl) (by kernel_rfl) (Ar3 rfl) (Aql rfl) (by kernel_rfl) (by kernel_rfl) (by kernel_rfl),?_⟩;obtain ⟨g15,h⟩:=Au h;refine Aa 19 ?_;refine rz0 (ai ((l7_m4:Nat):Int)) ?_;refine rs0 (ai ((l7_m4+1:Nat):Int)) (za g15) ?_;refine rsB 1 ?_;refine An (tn_ ?_);obtain rfl:=zj h;exact ⟨(l7_m4+1,l7_m3.set l7_m4 y13),_,(B2 3 (.own (oi 0 1) (.slice .int) 0 l7_m3.length) (.own (oi 0 1) (.slice .int) 0 ((l7_m3.set l7_m4 y13).length)) (by kernel_rfl) (congrArg (fun z_=>((.own (oi 0 1) (.slice .int) 0 z_):AV)) ((Eq.trans (b:=l7_m3.length) rfl List.length_set.symm):l7_m3.length=(l7_m3.set l7_m4 y13).length))).trans (Ac [(oi 1 1,oi 9000 15)]),⟨l7_m4+1,l7_m3.set l7_m4 y13,rfl,rfl⟩,hn7⟩
  have q10_:=of_decide_eq_false q10;refine Ag q10 ?_;refine Az (te_ (te_ (be_ (tn_ ?_))));obtain rfl:=zj h;have h:=hn7
  (try dsimp only at h);obtain rfl:=zj h;exact ⟨_,Ac [],rfl⟩
 rintro l5_m3 _ rfl h
 (try dsimp only at h);refine Aj ?_;refine Ah ?_;obtain rfl:=zj h;exact Nn [.own (oi 0 1) (.slice .int) 0 l5_m3.length] (Ac (tl:=[(2,.own (oi 0 1) (.slice .int) 0 l5_m3.length)]) (g:=2) [])
def L1:AC :=
 (.seq (.seq (rg [xo 11 (qm (tm 5)),xo 12 (qm (tm 0)),xo 13 (.i (.len (tm 12))),xo 14 (qb .lss (tm 11) (tm 13))])
 (.cond (tm 14)
  .skip
  (.exit 0)))
 (.seq (.block 1 (.seq (.region [xo 17 (qm (tm 0)),xo 18 (qm (tm 5)),xo 19 (qx 1 (tm 17) (tm 18)),xo 20 (ql (tm 19)),xo 21 (qm (tm 1)),xo 22 (qm (tm 5)),xo 23 (qx 1 (tm 21) (tm 22)),xo 24 (ql (tm 23)),xo 25 (qc 62 [tm 20,tm 24] [[some .int],[some .int]]),xo 26 (.i (.not (tm 25)))] true [])
 (.cond (tm 26)
  (.seq (rg [xo 4 (qm (cb false))])
  .ret)
  .skip)))
 (rg [xo 15 (qm (tm 5)),xo 16 (qb .add (tm 15) (ci 1)),xo 5 (qm (tm 16))])))
def Qg:AC :=
 (.seq (rg [xo 4 (qm (cb false))])
 (.seq (.seq (rg [xo 6 (qm (tm 0)),xo 7 (.i (.len (tm 6))),xo 8 (qm (tm 1)),xo 9 (.i (.len (tm 8))),xo 10 (qb .neq (tm 7) (tm 9))])
 (.cond (tm 10)
  (.seq (rg [xo 4 (qm (cb false))])
  .ret)
  .skip))
 (.seq (.seq (rg [xo 5 (qm (ci 0))])
 (.block 0 (.loop L1)))
 (.seq (rg [xo 4 (qm (cb true))])
 .ret))))
def Zq:List Res:=[.tmp 4]
theorem Aam:Am Tryz.prog Tryz.f35=some (Qg,Zq):=by kernel_rfl
def Dx (a0:List (List Int)) (a1:List (List Int)) (l8_m5:Nat):Option (Ctl Nat (Ctl Unit Bool)) :=
 cond (decide (((l8_m5:Nat):Int)<((a0.length:Nat):Int)))
 (Option.bind (a0[l8_m5]?) fun x14 =>
 Option.bind (a1[l8_m5]?) fun x15 =>
 Option.bind (Ho x14 x15) fun y16 =>
 cond (!y16)
  (some (Ctl.out (Ctl.out false)))
  (og (l8_m5+1<4611686018427387904) <|
  some (Ctl.next (l8_m5+1))))
 (some (Ctl.out (Ctl.next ())))
def Ge (a0:List (List Int)) (a1:List (List Int)):Option Bool :=
 cond (((a0.length:Nat):Int) !=((a1.length:Nat):Int))
 (some false)
 (Do (A4 (fun s_:Nat=>Dx a0 a1 s_) 4611686018427387904 0) fun _ =>
 some true)
def Yo (r:Bool):RV:=⟨false,[(false,[.sc (.bool r)])]⟩
theorem Zb {a0:List (List Int)} {a1:List (List Int)} {r:Bool} (h:Ge a0 a1=some r):Ax Tryz.prog Tab 35 [.tree (.slice .int) a0,.tree (.slice .int) a1] (Yo r):=by
 refine Ar (by kernel_rfl) Tryz.func35 Aam (n:=27) (by kernel_rfl) (by simp) (tl:=[(0,.tree (.slice .int) a0),(1,.tree (.slice .int) a1)]) rfl ?_;unfold Qg;unfold Ge at h;refine Aj ?_;refine Ab ?_;refine Aj ?_;rcases Ad h with ⟨q4,h⟩ | ⟨q4,h⟩
 ·refine Af q4 ?_;refine Aj ?_;refine Ah (tr_ ?_);obtain rfl:=zj h;exact A0 [.bool false] (Ap rfl zl As)
 refine Ag q4 ?_;refine Ai (tn_ ?_);refine wr_ ?_;refine Bh h (fun (_:Unit) S_=>S_=⟨Ao [],Ak (Aq []),2⟩) ?_ ?_
 ·intro v_ h hk6;refine Aj ?_;refine Al ?_;refine A3 h (fun (l8_m5:Nat) S_=>S_=⟨Ao [(0,.tree (.slice .int) a0),(1,.tree (.slice .int) a1),(5,ai ((l8_m5:Nat):Int))],Ak (Aq []),2⟩) ⟨_,Ac [],rfl⟩ ?_;rintro n_ l8_m5 _ c_ rfl h hn8
  (try dsimp only at h);unfold Dx at h;unfold L1;refine Ab ?_;refine Aj ?_;rcases Ad h with ⟨q11,h⟩ | ⟨q11,h⟩
  ·have q11_:=of_decide_eq_true q11;refine Af q11 ?_;refine Ai (tn_ ?_);refine wr_ ?_;refine Ab ?_;refine Al ?_;refine Ab ?_;obtain ⟨x14,e14,h⟩:=Ae h;obtain ⟨x15,e15,h⟩:=Ae h;obtain ⟨y16,h16,h⟩:=Ae h;refine A1 16 ?_;refine dz0 (.tree (.slice .int) a0) ?_;refine dz0 (ai ((l8_m5:Nat):Int)) ?_;refine ds0 (.telt none (.slice .int) x14 0) (zi (t:=.slice .int) (xs:=a0) (k:=.i64) (m:=((l8_m5:Nat):Int)) (Ay _) e14) ?_;refine dz0 (.tree .int x14) ?_;refine dz0 (.tree (.slice .int) a1) ?_;refine dz0 (ai ((l8_m5:Nat):Int)) ?_;refine ds0 (.telt none (.slice .int) x15 0) (zi (t:=.slice .int) (xs:=a1) (k:=.i64) (m:=((l8_m5:Nat):Int)) (Ay _) e15) ?_;refine dz0 (.tree .int x15) ?_;refine Da (.bool y16) [] [.tree .int x14,.tree .int x15] _ (caps:=[]) (args0:=[.tree .int x14,.tree .int x15]) trivial (by kernel_rfl) (Ack h16) Acn ?_;refine dz0 (.bool (!y16)) ?_;refine F2 (Bc (by kernel_rfl)) (tn_ ?_);refine wr_ ?_;rcases Ad h with ⟨q17,h⟩ | ⟨q17,h⟩
   ·refine Af q17 ?_;refine Aj ?_;refine Ah (br_ (tr_ (tr_ (br_ (tr_ ?_)))));obtain rfl:=zj h;have h:=hn8
    (try dsimp only at h);obtain rfl:=zj h;have h:=hk6
    (try dsimp only at h);obtain rfl:=zj h;exact A0 [.bool false] (Ap rfl zl As)
   refine Ag q17 ?_;refine Ai (bn_ (tn_ ?_));refine wr_ ?_;obtain ⟨g19,h⟩:=Au h;refine Aa 19 ?_;refine rz0 (ai ((l8_m5:Nat):Int)) ?_;refine rs0 (ai ((l8_m5+1:Nat):Int)) (za g19) ?_;refine rsB 1 ?_;refine An (tn_ ?_);obtain rfl:=zj h;exact ⟨l8_m5+1,_,Ac [],rfl,hn8⟩
  have q11_:=of_decide_eq_false q11;refine Ag q11 ?_;refine Az (te_ (te_ (be_ (tn_ ?_))));obtain rfl:=zj h;have h:=hn8
  (try dsimp only at h);obtain rfl:=zj h;exact ⟨(),_,rfl,Ac [],rfl⟩
 rintro _ _ rfl h
 (try dsimp only at h);refine Aj ?_;refine Ah ?_;obtain rfl:=zj h;exact A0 [.bool true] (Ap rfl zl As)
def L3:AC :=
 (.seq (rg [xo 2 (.i (.box 27 (tm 0))),xo 4 (qm (ci 0))])
 (.seq (rg [xo 5 (qf 2 (tm 2)),xo 6 (ql (tm 5)),xo 7 (qm (tm 1)),xo 8 (qc 20 [tm 6,tm 7] [[some (.slice .int)],[]]),xo 1 (qm (tm 8))])
 (.seq (.seq (rg [xo 9 (qm (tm 1)),xo 10 (qb .lss (tm 9) (ci 0))])
 (.cond (tm 10)
  (.seq (rg [xo 4 (qm (ci (-1)))])
  .ret)
  .skip))
 (.seq (rg [xo 11 (qm (tm 1)),xo 4 (qm (tm 11))])
 .ret))))
def V9:List Res:=[.tmp 4]
theorem U5:Am Tryz.prog Tryz.f10=some (L3,V9):=by kernel_rfl
def Dv (a0_0:Int) (a0_1:Int) (a0_2:List (List Int)) (a1:Int):Option Int :=
 Option.bind (Gh a0_2 a1) fun y3 =>
cond (decide (y3<0))
 (some (-1))
 (some y3)
def Tz (r:Int):RV:=⟨false,[(false,[.sc (.int .i64 r)])]⟩
theorem Sw {a0_0:Int} {a0_1:Int} {a0_2:List (List Int)} {a1:Int} {r:Int} (h:Dv a0_0 a0_1 a0_2 a1=some r):Ax Tryz.prog Tab 10 [.agg [ai a0_0,ai a0_1,.tree (.slice .int) a0_2],ai a1] (Tz r):=by
 refine Ar (by kernel_rfl) Tryz.func10 U5 (n:=12) (by kernel_rfl) (by simp) (tl:=[(0,.agg [ai a0_0,ai a0_1,.tree (.slice .int) a0_2]),(1,ai a1)]) rfl ?_;unfold L3;unfold Dv at h;refine Aj ?_;refine Ab ?_;obtain ⟨y3,h3,h⟩:=Ae h;refine Aa 8 ?_;refine rz0 (.box (oi 2 1) 2) ?_;refine rzl (.tree (.slice .int) a0_2) ?_;refine rz0 (ai a1) ?_;refine zc (ai y3) [] [.tree (.slice .int) a0_2,ai a1] (Yz h3) ?_;refine rsB 1 ?_;refine An (tn_ ?_);refine wr_ ?_;refine Ab ?_;refine Aj ?_;rcases Ad h with ⟨q6,h⟩ | ⟨q6,h⟩
 ·have q6_:=of_decide_eq_true q6;refine Af q6 ?_;refine Aj ?_;refine Ah (tr_ ?_);obtain rfl:=zj h;exact A0 [ai (-1)] (Ap rfl zl As)
 have q6_:=of_decide_eq_false q6;refine Ag q6 ?_;refine Ai (tn_ ?_);refine wr_ ?_;refine Aj ?_;refine Ah ?_;obtain rfl:=zj h;exact A0 [ai y3] (Ap rfl zl As)
def Lz:AC :=
 (.seq (rg [xo 1 (.i (.box 27 (tm 0))),xo 2 (.i (.alloc 36 [.int .i64 0,.int .i64 0,.nils]))])
 (.seq (rg [xo 3 (.i (.alloc 36 [.int .i64 0,.int .i64 0,.nils]))])
 (.seq (rg [xo 4 (qf 0 (tm 1)),xo 5 (ql (tm 4)),xo 6 (qf 0 (tm 3)),xn (qs (tm 6) (tm 5))])
 (.seq (rg [xo 7 (qf 1 (tm 1)),xo 8 (ql (tm 7)),xo 9 (qf 1 (tm 3)),xn (qs (tm 9) (tm 8))])
 (.seq (rg [xo 10 (qf 2 (tm 1)),xo 11 (ql (tm 10)),xo 12 (qc 28 [tm 11] [[some (.slice .int)]]),xo 13 (qf 2 (tm 3)),xn (qs (tm 13) (tm 12))])
 (.seq (rg [xo 14 (.i (.ld false 3 (tm 3))),xn (.st false 3 (tm 2) (tm 14))])
 .ret))))))
def Vs:List Res:=[.cell 2 false 3]
theorem Uw:Am Tryz.prog Tryz.f14=some (Lz,Vs):=by kernel_rfl
theorem Tq:A5 Tryz.prog 14=true:=by kernel_rfl
def Dz (a0_0:Int) (a0_1:Int) (a0_2:List (List Int)):Option (List (List Int)) :=
 Option.bind (F3 a0_2) fun y7 =>
some y7
theorem Tw {a0_0:Int} {a0_1:Int} {a0_2:List (List Int)} {r:List (List Int)} (h:Dz a0_0 a0_1 a0_2=some r):Ir Tryz.prog Tab 14 [.agg [ai a0_0,ai a0_1,.tree (.slice .int) a0_2]] [] (.agg [ai a0_0,ai a0_1,.own (oi 1 1) (.slice .int) 0 r.length]) [(oi 0 1,.cells 36 [ai a0_0,ai a0_1,.own (oi 1 1) (.slice .int) 0 r.length]),(oi 1 1,.mat 66 (oi 2 1) .int r),(oi 2 1,.pool 3 .int r)]:=by
 refine Gt (by kernel_rfl) Tryz.func14 Uw (n:=15) (by kernel_rfl) (by simp) (tl:=[(0,.agg [ai a0_0,ai a0_1,.tree (.slice .int) a0_2])]) rfl (by kernel_rfl) trivial ⟨trivial,⟨⟨3,.tail _ (.tail _ (.head _))⟩,⟨trivial,trivial⟩⟩⟩ ?_;unfold Lz;unfold Dz at h;refine Aj ?_;refine Aj ?_;refine Aj ?_;refine Aj ?_;refine Ab ?_;obtain ⟨y7,h7,h⟩:=Ae h;refine Aa 17 ?_;refine rz0 (.box (oi 1 1) 2) ?_;refine rzl (.tree (.slice .int) a0_2) ?_;refine Jq (.own (oi 192 14) (.slice .int) 0 y7.length) [(oi 192 14,some (.mat 66 (oi 193 14) .int y7)),(oi 193 14,some (.pool 3 .int y7))] [] [.tree (.slice .int) a0_2] (caps:=[]) trivial (Y2 h7) Zd trivial (.cons (.ren (by kernel_rfl)) .nil) (B8 (by kernel_rfl) (by kernel_rfl) trivial) ?_;refine rsB 2 ?_;refine An (tn_ ?_);refine wr_ ?_;refine Aj ?_;refine Ah ?_;obtain rfl:=zj h;exact Nn [.agg [ai a0_0,ai a0_1,.own (oi 1 1) (.slice .int) 0 y7.length]] (Ac (tl:=[(2,.box (oi 0 1) 0)]) (g:=2) [(oi 0 1,oi 2 2),(oi 1 1,oi 192 14),(oi 2 1,oi 193 14)])
def Ma:AC :=
 (.seq (rg [xo 2 (.i (.box 36 (tm 0))),xo 3 (.i (.box 36 (tm 1))),xo 4 (qm (cb false))])
 (.seq (.seq (rg [xo 5 (qf 0 (tm 2)),xo 6 (ql (tm 5)),xo 7 (qf 0 (tm 3)),xo 8 (ql (tm 7)),xo 9 (qb .neq (tm 6) (tm 8))])
 (.cond (tm 9)
  (.seq (rg [xo 4 (qm (cb false))])
  .ret)
  .skip))
 (.seq (.seq (rg [xo 10 (qf 1 (tm 2)),xo 11 (ql (tm 10)),xo 12 (qf 1 (tm 3)),xo 13 (ql (tm 12)),xo 14 (qb .neq (tm 11) (tm 13))])
 (.cond (tm 14)
  (.seq (rg [xo 4 (qm (cb false))])
  .ret)
  .skip))
 (.seq (.seq (rg [xo 15 (qf 2 (tm 2)),xo 16 (ql (tm 15)),xo 17 (qf 2 (tm 3)),xo 18 (ql (tm 17)),xo 19 (qc 35 [tm 16,tm 18] [[some (.slice .int)],[some (.slice .int)]]),xo 20 (.i (.not (tm 19)))])
 (.cond (tm 20)
  (.seq (rg [xo 4 (qm (cb false))])
  .ret)
  .skip))
 (.seq (rg [xo 4 (qm (cb true))])
 .ret)))))
def Vl:List Res:=[.tmp 4]
theorem Ug:Am Tryz.prog Tryz.f18=some (Ma,Vl):=by kernel_rfl
def Dt (a0_0:Int) (a0_1:Int) (a0_2:List (List Int)) (a1_0:Int) (a1_1:Int) (a1_2:List (List Int)):Option Bool :=
 cond (a0_0 !=a1_0)
 (some false)
 (cond (a0_1 !=a1_1)
  (some false)
  (Option.bind (Ge a0_2 a1_2) fun y12 =>
  cond (!y12)
   (some false)
   (some true)))
def Ti (r:Bool):RV:=⟨false,[(false,[.sc (.bool r)])]⟩
theorem S9 {a0_0:Int} {a0_1:Int} {a0_2:List (List Int)} {a1_0:Int} {a1_1:Int} {a1_2:List (List Int)} {r:Bool} (h:Dt a0_0 a0_1 a0_2 a1_0 a1_1 a1_2=some r):Ax Tryz.prog Tab 18 [.agg [ai a0_0,ai a0_1,.tree (.slice .int) a0_2],.agg [ai a1_0,ai a1_1,.tree (.slice .int) a1_2]] (Ti r):=by
 refine Ar (by kernel_rfl) Tryz.func18 Ug (n:=21) (by kernel_rfl) (by simp) (tl:=[(0,.agg [ai a0_0,ai a0_1,.tree (.slice .int) a0_2]),(1,.agg [ai a1_0,ai a1_1,.tree (.slice .int) a1_2])]) rfl ?_;unfold Ma;unfold Dt at h;refine Aj ?_;refine Ab ?_;refine Aj ?_;rcases Ad h with ⟨q4,h⟩ | ⟨q4,h⟩
 ·refine Af q4 ?_;refine Aj ?_;refine Ah (tr_ ?_);obtain rfl:=zj h;exact A0 [.bool false] (Ap rfl zl As)
 refine Ag q4 ?_;refine Ai (tn_ ?_);refine wr_ ?_;refine Ab ?_;refine Aj ?_;rcases Ad h with ⟨q8,h⟩ | ⟨q8,h⟩
 ·refine Af q8 ?_;refine Aj ?_;refine Ah (tr_ ?_);obtain rfl:=zj h;exact A0 [.bool false] (Ap rfl zl As)
 refine Ag q8 ?_;refine Ai (tn_ ?_);refine wr_ ?_;refine Ab ?_;refine Ab ?_;obtain ⟨y12,h12,h⟩:=Ae h;refine Aa 20 ?_;refine rz0 (.box (oi 2 1) 2) ?_;refine rzl (.tree (.slice .int) a0_2) ?_;refine rz0 (.box (oi 3 2) 2) ?_;refine rzl (.tree (.slice .int) a1_2) ?_;refine zc (.bool y12) [] [.tree (.slice .int) a0_2,.tree (.slice .int) a1_2] (Zb h12) ?_;refine rsB 1 ?_;refine An (tn_ ?_);refine wr_ ?_;rcases Ad h with ⟨q13,h⟩ | ⟨q13,h⟩
 ·refine Af q13 ?_;refine Aj ?_;refine Ah (tr_ ?_);obtain rfl:=zj h;exact A0 [.bool false] (Ap rfl zl As)
 refine Ag q13 ?_;refine Ai (tn_ ?_);refine wr_ ?_;refine Aj ?_;refine Ah ?_;obtain rfl:=zj h;exact A0 [.bool true] (Ap rfl zl As)
def Mz:AC :=
 (.seq (rg [xo 12 (qb .lss (tm 11) (tm 10))])
 (.seq (.cond (tm 12)
  .skip
  (.exit 0))
 (.seq (.block 1 (.seq (rg [xo 13 (qx 1 (tm 9) (tm 11)),xo 14 (ql (tm 13)),xo 8 (qm (tm 14))])
 (.seq (rg [xo 15 (qm (tm 8)),xo 16 (.i (.len (tm 15))),xo 17 (qm (tm 1)),xo 18 (qb .neq (tm 16) (tm 17)),xo 19 (qm (tm 18)),⟨some 20,some (19,false),qm (tm 0)⟩,⟨some 21,some (19,false),qm (tm 8)⟩,⟨some 22,some (19,false),qc 84 [tm 20,tm 21] [[],[some .int]]⟩,⟨some 23,some (19,false),.i (.not (tm 22))⟩,xo 24 (.i (.pick (tm 19) (cb true) (tm 23)))])
 (.cond (tm 24)
  (.seq (rg [xo 6 (qm (cb false))])
  .ret)
  .skip))))
 (rg [xo 25 (qb .add (tm 11) (ci 1)),xo 11 (qm (tm 25))]))))
def Rl:AC :=
 (.seq (rg [xo 6 (qm (cb false))])
 (.seq (.seq (rg [xo 9 (qm (tm 2)),xo 10 (.i (.len (tm 9))),xo 11 (qm (ci 0))])
 (.block 0 (.loop Mz)))
 (.seq (rg [xo 6 (qm (cb true))])
 .ret)))
def Afp:List Res:=[.tmp 6]
theorem Aeb:Am Tryz.prog Tryz.f64=some (Rl,Afp):=by kernel_rfl
theorem Px:A5 Tryz.prog 64=true:=by kernel_rfl
def G2 (a2:List (List Int)) (a1:Int) (a0:Int) (l4_m11:Nat):Option (Ctl Nat (Ctl Unit Bool)) :=
 cond (decide (((l4_m11:Nat):Int)<((a2.length:Nat):Int)))
 (Option.bind (a2[l4_m11]?) fun x10 =>
 Option.bind (cond (((x10.length:Nat):Int) !=a1)
   (some true)
   (Option.bind (Ja a0 x10) fun y13 =>
   some (!y13))) fun l11_m24 =>
 cond l11_m24
  (some (Ctl.out (Ctl.out false)))
  (og (l4_m11+1<4611686018427387904) <|
  some (Ctl.next (l4_m11+1))))
 (some (Ctl.out (Ctl.next ())))
def Hn (a0:Int) (a1:Int) (a2:List (List Int)):Option Bool :=
 Do (A4 (fun s_:Nat=>G2 a2 a1 a0 s_) 4611686018427387904 0) fun _ =>
some true
def Acd (r:Bool):RV:=⟨false,[(false,[.sc (.bool r)])]⟩
theorem Pu {a0:Int} {a1:Int} {a2:List (List Int)} {r:Bool} (h:Hn a0 a1 a2=some r):Ax Tryz.prog Tab 64 [ai a0,ai a1,.tree (.slice .int) a2] (Acd r):=by
 refine Ar (by kernel_rfl) Tryz.func64 Aeb (n:=26) (by kernel_rfl) (by simp) (tl:=[(0,ai a0),(1,ai a1),(2,.tree (.slice .int) a2)]) rfl ?_;unfold Rl;unfold Hn at h;refine Aj ?_;refine Bh h (fun (_:Unit) S_=>S_=⟨Ao [],Ak (Aq []),2⟩) ?_ ?_
 ·intro v_ h hk2;refine Aj ?_;refine Al ?_;refine A3 h (fun (l4_m11:Nat) S_=>S_=⟨Ao [(0,ai a0),(1,ai a1),(9,.tree (.slice .int) a2),(10,ai ((a2.length:Nat):Int)),(11,ai ((l4_m11:Nat):Int))],Ak (Aq []),2⟩) ⟨_,Ac [],rfl⟩ ?_;rintro n_ l4_m11 _ c_ rfl h hn4
  (try dsimp only at h);unfold G2 at h;unfold Mz;refine Aj ?_;refine Ab ?_;rcases Ad h with ⟨q7,h⟩ | ⟨q7,h⟩
  ·have q7_:=of_decide_eq_true q7;refine Af q7 ?_;refine Ai (tn_ ?_);refine wr_ ?_;refine Ab ?_;refine Al ?_;refine Ab ?_;obtain ⟨x10,e10,h⟩:=Ae h;refine Aa 6 ?_;refine rs0 (.telt none (.slice .int) x10 0) (zi (t:=.slice .int) (xs:=a2) (k:=.i64) (m:=((l4_m11:Nat):Int)) (Ay _) e10) ?_;refine rsB 2 ?_;refine An (tn_ ?_);refine wr_ ?_;refine Aw h (fun (l11_m24:Bool) S_=>S_=⟨Ao [(0,ai a0),(1,ai a1),(9,.tree (.slice .int) a2),(10,ai ((a2.length:Nat):Int)),(11,ai ((l4_m11:Nat):Int)),(24,.bool l11_m24)],Ak (Aq []),2⟩) ?_ ?_
   ·intro v_ h;rcases Ad h with ⟨q12,h⟩ | ⟨q12,h⟩
    ·refine Aa 16 ?_;refine rz0 (.tree .int x10) ?_;refine rz0 (ai ((x10.length:Nat):Int)) ?_;refine rz0 (ai a1) ?_;refine rz0 (.bool (((x10.length:Nat):Int) !=a1)) ?_;refine rz0 (.bool (((x10.length:Nat):Int) !=a1)) ?_;refine zs q12 ?_;refine zs q12 ?_;refine zs q12 ?_;refine zs q12 ?_;refine rs0 (.bool true) (zT q12) ?_;refine An (tn_ ?_);obtain rfl:=zj h;exact ⟨_,Ac [],rfl⟩
    obtain ⟨y13,h13,h⟩:=Ae h;refine Aa 16 ?_;refine rz0 (.tree .int x10) ?_;refine rz0 (ai ((x10.length:Nat):Int)) ?_;refine rz0 (ai a1) ?_;refine rz0 (.bool (((x10.length:Nat):Int) !=a1)) ?_;refine rz0 (.bool (((x10.length:Nat):Int) !=a1)) ?_;refine rs0 (ai a0) (zg q12) ?_;refine rs0 (.tree .int x10) (zg q12) ?_;refine Bs (.bool y13) [] [ai a0,.tree .int x10] _ (caps:=[]) (args0:=[ai a0,.tree .int x10]) (Bf (by kernel_rfl) q12) (by kernel_rfl) (Ahs h13) Aii ?_;refine rs0 (.bool (!y13)) (zg q12) ?_;refine rs0 (.bool (!y13)) (zF q12) ?_;refine An (tn_ ?_);obtain rfl:=zj h;exact ⟨_,Ac [],rfl⟩
   rintro l11_m24 _ rfl h
   (try dsimp only at h);rcases Ad h with ⟨q14,h⟩ | ⟨q14,h⟩
   ·refine Af q14 ?_;refine Aj ?_;refine Ah (br_ (tr_ (tr_ (br_ (tr_ ?_)))));obtain rfl:=zj h;have h:=hn4
    (try dsimp only at h);obtain rfl:=zj h;have h:=hk2
    (try dsimp only at h);obtain rfl:=zj h;exact A0 [.bool false] (Ap rfl zl As)
   refine Ag q14 ?_;refine Ai (bn_ (tn_ ?_));refine wr_ ?_;obtain ⟨g16,h⟩:=Au h;refine Aa 4 ?_;refine rs0 (ai ((l4_m11+1:Nat):Int)) (za g16) ?_;refine rsB 1 ?_;refine An (tn_ ?_);obtain rfl:=zj h;exact ⟨l4_m11+1,_,Ac [],rfl,hn4⟩
  have q7_:=of_decide_eq_false q7;refine Ag q7 ?_;refine Az (te_ (te_ (be_ (tn_ ?_))));obtain rfl:=zj h;have h:=hn4
  (try dsimp only at h);obtain rfl:=zj h;exact ⟨(),_,rfl,Ac [],rfl⟩
 rintro _ _ rfl h
 (try dsimp only at h);refine Aj ?_;refine Ah ?_;obtain rfl:=zj h;exact A0 [.bool true] (Ap rfl zl As)
def M8:AC :=
 (.seq (rg [xo 14 (qb .lss (tm 13) (tm 12))])
 (.seq (.cond (tm 14)
  .skip
  (.exit 0))
 (.seq (.block 1 (.seq (rg [xo 15 (qm (tm 13)),xo 5 (qm (tm 15))])
 (.seq (.region [xo 16 (qm (tm 0)),xo 17 (qm (tm 5)),xo 18 (qx 1 (tm 16) (tm 17)),xo 19 (ql (tm 18)),xo 20 (qm (tm 1)),xo 21 (qm (tm 5)),xo 22 (qx 1 (tm 20) (tm 21)),xo 23 (ql (tm 22)),xo 24 (qb .neq (tm 19) (tm 23))] true [])
 (.cond (tm 24)
  (.seq (rg [xo 4 (qm (cb false))])
  .ret)
  .skip))))
 (rg [xo 25 (qb .add (tm 13) (ci 1)),xo 13 (qm (tm 25))]))))
def Rt:AC :=
 (.seq (rg [xo 4 (qm (cb false))])
 (.seq (.seq (rg [xo 6 (qm (tm 0)),xo 7 (.i (.len (tm 6))),xo 8 (qm (tm 1)),xo 9 (.i (.len (tm 8))),xo 10 (qb .neq (tm 7) (tm 9))])
 (.cond (tm 10)
  (.seq (rg [xo 4 (qm (cb false))])
  .ret)
  .skip))
 (.seq (.seq (rg [xo 11 (qm (tm 0)),xo 12 (.i (.len (tm 11))),xo 13 (qm (ci 0))])
 (.block 0 (.loop M8)))
 (.seq (rg [xo 4 (qm (cb true))])
 .ret))))
def Ad6:List Res:=[.tmp 4]
theorem Afa:Am Tryz.prog Tryz.f67=some (Rt,Ad6):=by kernel_rfl
theorem Pn:A5 Tryz.prog 67=true:=by kernel_rfl
def Eg (a0:List Int) (a1:List Int) (l8_m13:Nat):Option (Ctl Nat (Ctl Unit Bool)) :=
 cond (decide (((l8_m13:Nat):Int)<((a0.length:Nat):Int)))
 (Option.bind (a0[l8_m13]?) fun x15 =>
 Option.bind (a1[l8_m13]?) fun x16 =>
 cond (x15 !=x16)
  (some (Ctl.out (Ctl.out false)))
  (og (l8_m13+1<4611686018427387904) <|
  some (Ctl.next (l8_m13+1))))
 (some (Ctl.out (Ctl.next ())))
def Fr (a0:List Int) (a1:List Int):Option Bool :=
 cond (((a0.length:Nat):Int) !=((a1.length:Nat):Int))
 (some false)
 (Do (A4 (fun s_:Nat=>Eg a0 a1 s_) 4611686018427387904 0) fun _ =>
 some true)
def Adr (r:Bool):RV:=⟨false,[(false,[.sc (.bool r)])]⟩
theorem Pa {a0:List Int} {a1:List Int} {r:Bool} (h:Fr a0 a1=some r):Ax Tryz.prog Tab 67 [.tree .int a0,.tree .int a1] (Adr r):=by
 refine Ar (by kernel_rfl) Tryz.func67 Afa (n:=26) (by kernel_rfl) (by simp) (tl:=[(0,.tree .int a0),(1,.tree .int a1)]) rfl ?_;unfold Rt;unfold Fr at h;refine Aj ?_;refine Ab ?_;refine Aj ?_;rcases Ad h with ⟨q4,h⟩ | ⟨q4,h⟩
 ·refine Af q4 ?_;refine Aj ?_;refine Ah (tr_ ?_);obtain rfl:=zj h;exact A0 [.bool false] (Ap rfl zl As)
 refine Ag q4 ?_;refine Ai (tn_ ?_);refine wr_ ?_;refine Bh h (fun (_:Unit) S_=>S_=⟨Ao [],Ak (Aq []),2⟩) ?_ ?_
 ·intro v_ h hk6;refine Aj ?_;refine Al ?_;refine A3 h (fun (l8_m13:Nat) S_=>S_=⟨Ao [(0,.tree .int a0),(1,.tree .int a1),(12,ai ((a0.length:Nat):Int)),(13,ai ((l8_m13:Nat):Int))],Ak (Aq []),2⟩) ⟨_,Ac [],rfl⟩ ?_;rintro n_ l8_m13 _ c_ rfl h hn8
  (try dsimp only at h);unfold Eg at h;unfold M8;refine Aj ?_;refine Ab ?_;rcases Ad h with ⟨q11,h⟩ | ⟨q11,h⟩
  ·have q11_:=of_decide_eq_true q11;refine Af q11 ?_;refine Ai (tn_ ?_);refine wr_ ?_;refine Ab ?_;refine Al ?_;refine Aj ?_;refine Ab ?_;obtain ⟨x15,e15,h⟩:=Ae h;obtain ⟨x16,e16,h⟩:=Ae h;refine A1 14 ?_;refine dz0 (.tree .int a0) ?_;refine dz0 (ai ((l8_m13:Nat):Int)) ?_;refine ds0 (.telt none .int x15 0) (zi (t:=.int) (xs:=a0) (k:=.i64) (m:=((l8_m13:Nat):Int)) (Ay _) e15) ?_;refine dz0 (ai x15) ?_;refine dz0 (.tree .int a1) ?_;refine dz0 (ai ((l8_m13:Nat):Int)) ?_;refine ds0 (.telt none .int x16 0) (zi (t:=.int) (xs:=a1) (k:=.i64) (m:=((l8_m13:Nat):Int)) (Ay _) e16) ?_;refine dz0 (ai x16) ?_;refine dz0 (.bool (x15 !=x16)) ?_;refine F2 (Bc (by kernel_rfl)) (tn_ ?_);refine wr_ ?_;rcases Ad h with ⟨q17,h⟩ | ⟨q17,h⟩
   ·refine Af q17 ?_;refine Aj ?_;refine Ah (br_ (tr_ (tr_ (br_ (tr_ ?_)))));obtain rfl:=zj h;have h:=hn8
    (try dsimp only at h);obtain rfl:=zj h;have h:=hk6
    (try dsimp only at h);obtain rfl:=zj h;exact A0 [.bool false] (Ap rfl zl As)
   refine Ag q17 ?_;refine Ai (bn_ (tn_ ?_));refine wr_ ?_;obtain ⟨g19,h⟩:=Au h;refine Aa 16 ?_;refine rs0 (ai ((l8_m13+1:Nat):Int)) (za g19) ?_;refine rsB 1 ?_;refine An (tn_ ?_);obtain rfl:=zj h;exact ⟨l8_m13+1,_,Ac [],rfl,hn8⟩
  have q11_:=of_decide_eq_false q11;refine Ag q11 ?_;refine Az (te_ (te_ (be_ (tn_ ?_))));obtain rfl:=zj h;have h:=hn8
  (try dsimp only at h);obtain rfl:=zj h;exact ⟨(),_,rfl,Ac [],rfl⟩
 rintro _ _ rfl h
 (try dsimp only at h);refine Aj ?_;refine Ah ?_;obtain rfl:=zj h;exact A0 [.bool true] (Ap rfl zl As)
def Nt:AC :=
 (.seq (rg [xo 14 (qb .lss (tm 13) (tm 12))])
 (.seq (.cond (tm 14)
  .skip
  (.exit 0))
 (.seq (.block 1 (.seq (rg [xo 15 (qm (tm 13)),xo 5 (qm (tm 15))])
 (.seq (.region [xo 16 (qm (tm 0)),xo 17 (qm (tm 5)),xo 18 (qx 1 (tm 16) (tm 17)),xo 19 (ql (tm 18)),xo 20 (qm (tm 1)),xo 21 (qm (tm 5)),xo 22 (qx 1 (tm 20) (tm 21)),xo 23 (ql (tm 22)),xo 24 (qc 67 [tm 19,tm 23] [[some .int],[some .int]]),xo 25 (.i (.not (tm 24)))] true [])
 (.cond (tm 25)
  (.seq (rg [xo 4 (qm (cb false))])
  .ret)
  .skip))))
 (rg [xo 26 (qb .add (tm 13) (ci 1)),xo 13 (qm (tm 26))]))))
def R6:AC :=
 (.seq (rg [xo 4 (qm (cb false))])
 (.seq (.seq (rg [xo 6 (qm (tm 0)),xo 7 (.i (.len (tm 6))),xo 8 (qm (tm 1)),xo 9 (.i (.len (tm 8))),xo 10 (qb .neq (tm 7) (tm 9))])
 (.cond (tm 10)
  (.seq (rg [xo 4 (qm (cb false))])
  .ret)
  .skip))
 (.seq (.seq (rg [xo 11 (qm (tm 0)),xo 12 (.i (.len (tm 11))),xo 13 (qm (ci 0))])
 (.block 0 (.loop Nt)))
 (.seq (rg [xo 4 (qm (cb true))])
 .ret))))
def Afm:List Res:=[.tmp 4]
theorem Ad8:Am Tryz.prog Tryz.f65=some (R6,Afm):=by kernel_rfl
theorem Acv:A5 Tryz.prog 65=true:=by kernel_rfl
def El (a0:List (List Int)) (a1:List (List Int)) (l8_m13:Nat):Option (Ctl Nat (Ctl Unit Bool)) :=
 cond (decide (((l8_m13:Nat):Int)<((a0.length:Nat):Int)))
 (Option.bind (a0[l8_m13]?) fun x15 =>
 Option.bind (a1[l8_m13]?) fun x16 =>
 Option.bind (Fr x15 x16) fun y17 =>
 cond (!y17)
  (some (Ctl.out (Ctl.out false)))
  (og (l8_m13+1<4611686018427387904) <|
  some (Ctl.next (l8_m13+1))))
 (some (Ctl.out (Ctl.next ())))
def Hj (a0:List (List Int)) (a1:List (List Int)):Option Bool :=
 cond (((a0.length:Nat):Int) !=((a1.length:Nat):Int))
 (some false)
 (Do (A4 (fun s_:Nat=>El a0 a1 s_) 4611686018427387904 0) fun _ =>
 some true)
def Abi (r:Bool):RV:=⟨false,[(false,[.sc (.bool r)])]⟩
theorem Ace {a0:List (List Int)} {a1:List (List Int)} {r:Bool} (h:Hj a0 a1=some r):Ax Tryz.prog Tab 65 [.tree (.slice .int) a0,.tree (.slice .int) a1] (Abi r):=by
 refine Ar (by kernel_rfl) Tryz.func65 Ad8 (n:=27) (by kernel_rfl) (by simp) (tl:=[(0,.tree (.slice .int) a0),(1,.tree (.slice .int) a1)]) rfl ?_;unfold R6;unfold Hj at h;refine Aj ?_;refine Ab ?_;refine Aj ?_;rcases Ad h with ⟨q4,h⟩ | ⟨q4,h⟩
 ·refine Af q4 ?_;refine Aj ?_;refine Ah (tr_ ?_);obtain rfl:=zj h;exact A0 [.bool false] (Ap rfl zl As)
 refine Ag q4 ?_;refine Ai (tn_ ?_);refine wr_ ?_;refine Bh h (fun (_:Unit) S_=>S_=⟨Ao [],Ak (Aq []),2⟩) ?_ ?_
 ·intro v_ h hk6;refine Aj ?_;refine Al ?_;refine A3 h (fun (l8_m13:Nat) S_=>S_=⟨Ao [(0,.tree (.slice .int) a0),(1,.tree (.slice .int) a1),(12,ai ((a0.length:Nat):Int)),(13,ai ((l8_m13:Nat):Int))],Ak (Aq []),2⟩) ⟨_,Ac [],rfl⟩ ?_;rintro n_ l8_m13 _ c_ rfl h hn8
  (try dsimp only at h);unfold El at h;unfold Nt;refine Aj ?_;refine Ab ?_;rcases Ad h with ⟨q11,h⟩ | ⟨q11,h⟩
  ·have q11_:=of_decide_eq_true q11;refine Af q11 ?_;refine Ai (tn_ ?_);refine wr_ ?_;refine Ab ?_;refine Al ?_;refine Aj ?_;refine Ab ?_;obtain ⟨x15,e15,h⟩:=Ae h;obtain ⟨x16,e16,h⟩:=Ae h;obtain ⟨y17,h17,h⟩:=Ae h;refine A1 15 ?_;refine dz0 (.tree (.slice .int) a0) ?_;refine dz0 (ai ((l8_m13:Nat):Int)) ?_;refine ds0 (.telt none (.slice .int) x15 0) (zi (t:=.slice .int) (xs:=a0) (k:=.i64) (m:=((l8_m13:Nat):Int)) (Ay _) e15) ?_;refine dz0 (.tree .int x15) ?_;refine dz0 (.tree (.slice .int) a1) ?_;refine dz0 (ai ((l8_m13:Nat):Int)) ?_;refine ds0 (.telt none (.slice .int) x16 0) (zi (t:=.slice .int) (xs:=a1) (k:=.i64) (m:=((l8_m13:Nat):Int)) (Ay _) e16) ?_;refine dz0 (.tree .int x16) ?_;refine Da (.bool y17) [] [.tree .int x15,.tree .int x16] _ (caps:=[]) (args0:=[.tree .int x15,.tree .int x16]) trivial (by kernel_rfl) (Pa h17) Pn ?_;refine dz0 (.bool (!y17)) ?_;refine F2 (Bc (by kernel_rfl)) (tn_ ?_);refine wr_ ?_;rcases Ad h with ⟨q18,h⟩ | ⟨q18,h⟩
   ·refine Af q18 ?_;refine Aj ?_;refine Ah (br_ (tr_ (tr_ (br_ (tr_ ?_)))));obtain rfl:=zj h;have h:=hn8
    (try dsimp only at h);obtain rfl:=zj h;have h:=hk6
    (try dsimp only at h);obtain rfl:=zj h;exact A0 [.bool false] (Ap rfl zl As)
   refine Ag q18 ?_;refine Ai (bn_ (tn_ ?_));refine wr_ ?_;obtain ⟨g20,h⟩:=Au h;refine Aa 17 ?_;refine rs0 (ai ((l8_m13+1:Nat):Int)) (za g20) ?_;refine rsB 1 ?_;refine An (tn_ ?_);obtain rfl:=zj h;exact ⟨l8_m13+1,_,Ac [],rfl,hn8⟩
  have q11_:=of_decide_eq_false q11;refine Ag q11 ?_;refine Az (te_ (te_ (be_ (tn_ ?_))));obtain rfl:=zj h;have h:=hn8
  (try dsimp only at h);obtain rfl:=zj h;exact ⟨(),_,rfl,Ac [],rfl⟩
 rintro _ _ rfl h
 (try dsimp only at h);refine Aj ?_;refine Ah ?_;obtain rfl:=zj h;exact A0 [.bool true] (Ap rfl zl As)
def Q8:AC :=
 (.seq (rg [xo 3 (.i (.box 85 (tm 1))),xo 4 (qm (cb false))])
 (.seq (.region [xo 5 (qm (tm 0)),xo 6 (qc 42 [tm 5] [[]]),xo 7 (qm (tm 6)),⟨some 8,some (7,true),qf 0 (tm 3)⟩,⟨some 9,some (7,true),ql (tm 8)⟩,⟨some 10,some (7,true),qc 44 [tm 9,ci 0,ci 24] [[],[],[]]⟩,xo 11 (.i (.pick (tm 7) (tm 10) (cb false))),xo 12 (qm (tm 11)),⟨some 13,some (12,true),qf 1 (tm 3)⟩,⟨some 14,some (12,true),ql (tm 13)⟩,⟨some 15,some (12,true),.i (.len (tm 14))⟩,⟨some 16,some (12,true),qf 0 (tm 3)⟩,⟨some 17,some (12,true),ql (tm 16)⟩,⟨some 18,some (12,true),qb .leq (tm 15) (tm 17)⟩,xo 19 (.i (.pick (tm 12) (tm 18) (cb false))),xo 20 (qm (tm 19)),⟨some 21,some (20,true),qm (tm 0)⟩,⟨some 22,some (20,true),qf 0 (tm 3)⟩,⟨some 23,some (20,true),ql (tm 22)⟩,⟨some 24,some (20,true),qf 1 (tm 3)⟩,⟨some 25,some (20,true),ql (tm 24)⟩,⟨some 26,some (20,true),qc 64 [tm 21,tm 23,tm 25] [[],[],[some (.slice .int)]]⟩,xo 27 (.i (.pick (tm 20) (tm 26) (cb false))),xo 28 (qm (tm 27)),⟨some 29,some (28,true),qm (tm 0)⟩,⟨some 30,some (28,true),qf 0 (tm 3)⟩,⟨some 31,some (28,true),ql (tm 30)⟩,⟨some 32,some (28,true),qf 1 (tm 3)⟩,⟨some 33,some (28,true),ql (tm 32)⟩,⟨some 34,some (28,true),qc 66 [tm 29,tm 31,tm 33] [[],[],[some (.slice .int)]]⟩,⟨some 35,some (28,true),qf 1 (tm 3)⟩,⟨some 36,some (28,true),ql (tm 35)⟩,⟨some 37,some (28,true),qc 65 [tm 34,tm 36] [[some (.slice .int)],[some (.slice .int)]]⟩,xo 38 (.i (.pick (tm 28) (tm 37) (cb false))),xo 4 (qm (tm 38))] true [(29,31)])
 .ret))
def Af8:List Res:=[.tmp 4]
theorem Ady:Am Tryz.prog Tryz.f45=some (Q8,Af8):=by kernel_rfl
theorem Ac5:A5 Tryz.prog 45=true:=by kernel_rfl
def Iz (a0:Int) (a1_0:Int) (a1_1:List (List Int)):Option Bool :=
 Option.bind (Option.bind (Ft a0) fun y3 =>
 cond y3
  (Option.bind (Bz a1_0 0 24) fun y5 =>
  cond y5
   (cond (decide (((a1_1.length:Nat):Int)<=a1_0))
    (Option.bind (Hn a0 a1_0 a1_1) fun y8 =>
    cond y8
     (Option.bind (Fo a0 a1_0 a1_1) fun y10 =>
     Option.bind (Hj y10 a1_1) fun y11 =>
     some y11)
     (some false))
    (some false))
   (some false))
  (some false)) fun l2_m4 =>
some l2_m4
def Acb (r:Bool):RV:=⟨false,[(false,[.sc (.bool r)])]⟩
set_option maxHeartbeats 1600000 in
theorem Ab4 {a0:Int} {a1_0:Int} {a1_1:List (List Int)} {r:Bool} (h:Iz a0 a1_0 a1_1=some r):Ax Tryz.prog Tab 45 [ai a0,.agg [ai a1_0,.tree (.slice .int) a1_1]] (Acb r):=by
 refine Ar (by kernel_rfl) Tryz.func45 Ady (n:=39) (by kernel_rfl) (by simp) (tl:=[(0,ai a0),(1,.agg [ai a1_0,.tree (.slice .int) a1_1])]) rfl ?_;unfold Q8;unfold Iz at h;refine Aj ?_;refine Aw h (fun (l2_m4:Bool) S_=>S_=⟨Ao [(4,.bool l2_m4)],Ak (Aq []),2⟩) ?_ ?_
 ·intro v_ h;obtain ⟨y3,h3,h⟩:=Ae h;rcases Ad h with ⟨q4,h⟩ | ⟨q4,h⟩
  ·obtain ⟨y5,h5,h⟩:=Ae h;rcases Ad h with ⟨q6,h⟩ | ⟨q6,h⟩
   ·rcases Ad h with ⟨q7,h⟩ | ⟨q7,h⟩
    ·have q7_:=of_decide_eq_true q7;obtain ⟨y8,h8,h⟩:=Ae h;rcases Ad h with ⟨q9,h⟩ | ⟨q9,h⟩
     ·obtain ⟨y10,h10,h⟩:=Ae h;obtain ⟨y11,h11,h⟩:=Ae h;refine A1 38 ?_;refine dz0 (ai a0) ?_;refine Da (.bool y3) [] [ai a0] _ (caps:=[]) (args0:=[ai a0]) trivial (by kernel_rfl) (E2 h3) Ex ?_;refine dz0 (.bool y3) ?_;refine ds0 (.box (oi 3 1) 0) (zg q4) ?_;refine dsl (ai a1_0) (zg q4) ?_;refine Da (.bool y5) [] [ai a1_0,ai 0,ai 24] _ (caps:=[]) (args0:=[ai a1_0,ai 0,ai 24]) (Bf (by kernel_rfl) q4) (by kernel_rfl) (Bk h5) Ff ?_;refine ds0 (.bool y5) (zT q4) ?_;refine dz0 (.bool y5) ?_;refine ds0 (.box (oi 3 1) 1) (zg q6) ?_;refine dsl (.tree (.slice .int) a1_1) (zg q6) ?_;refine ds0 (ai ((a1_1.length:Nat):Int)) (zg q6) ?_;refine ds0 (.box (oi 3 1) 0) (zg q6) ?_;refine dsl (ai a1_0) (zg q6) ?_;refine ds0 (.bool (decide (((a1_1.length:Nat):Int)<=a1_0))) (zg q6) ?_;refine ds0 (.bool (decide (((a1_1.length:Nat):Int)<=a1_0))) (zT q6) ?_;refine dz0 (.bool (decide (((a1_1.length:Nat):Int)<=a1_0))) ?_;refine ds0 (ai a0) (zg q7) ?_;refine ds0 (.box (oi 3 1) 0) (zg q7) ?_;refine dsl (ai a1_0) (zg q7) ?_;refine ds0 (.box (oi 3 1) 1) (zg q7) ?_;refine dsl (.tree (.slice .int) a1_1) (zg q7) ?_;refine Da (.bool y8) [] [ai a0,ai a1_0,.tree (.slice .int) a1_1] _ (caps:=[]) (args0:=[ai a0,ai a1_0,.tree (.slice .int) a1_1]) (Bf (by kernel_rfl) q7) (by kernel_rfl) (Pu h8) Px ?_;refine ds0 (.bool y8) (zT q7) ?_;refine dz0 (.bool y8) ?_;refine ds0 (ai a0) (zg q9) ?_;refine ds0 (.box (oi 3 1) 0) (zg q9) ?_;refine dsl (ai a1_0) (zg q9) ?_;refine ds0 (.box (oi 3 1) 1) (zg q9) ?_;refine dsl (.tree (.slice .int) a1_1) (zg q9) ?_;refine Aq1 (.own (oi 544 32) (.slice .int) 0 y10.length) [(oi 544 32,some (.mat 66 (oi 545 32) .int y10)),(oi 545 32,some (.pool 3 .int y10))] [] [ai a0,ai a1_0,.tree (.slice .int) a1_1] (caps:=[]) (Bf (by kernel_rfl) q9) (W5 h10) Wp trivial (.cons (.ren (by kernel_rfl)) (.cons (.ren (by kernel_rfl)) (.cons (.ren (by kernel_rfl)) .nil))) (B8 (by kernel_rfl) (by kernel_rfl) trivial) (Av7 (by kernel_rfl)) ?_;refine ds0 (.box (oi 3 1) 1) (zg q9) ?_;refine dsl (.tree (.slice .int) a1_1) (zg q9) ?_;refine Da (.bool y11) [] [.own (oi 544 32) (.slice .int) 0 y10.length,.tree (.slice .int) a1_1] _ (caps:=[]) (args0:=[.tree (.slice .int) y10,.tree (.slice .int) a1_1]) (Bf (by kernel_rfl) q9) (Hy (Aqy (p:=oi 545 32) (e1:=66) (e:=3) (u:=.int) (xss:=y10) (by kernel_rfl) (Alz (t:=.slice .int) (off:=0) (len:=y10.length) (i:=oi 544 32) (e1:=66) (z:=1) (m:=y10.length) 0 rfl (by kernel_rfl) (by kernel_rfl) (Agj (by kernel_rfl))) rfl) (Hy (by kernel_rfl) Xi)) (Ace h11) Acv ?_;refine ds0 (.bool y11) (zT q9) ?_;refine dz0 (.bool y11) ?_;refine F2 ⟨Avx (by kernel_rfl),trivial⟩ (tn_ ?_);obtain rfl:=zj h;exact ⟨_,Ac [],rfl⟩
     refine A1 38 ?_;refine dz0 (ai a0) ?_;refine Da (.bool y3) [] [ai a0] _ (caps:=[]) (args0:=[ai a0]) trivial (by kernel_rfl) (E2 h3) Ex ?_;refine dz0 (.bool y3) ?_;refine ds0 (.box (oi 3 1) 0) (zg q4) ?_;refine dsl (ai a1_0) (zg q4) ?_;refine Da (.bool y5) [] [ai a1_0,ai 0,ai 24] _ (caps:=[]) (args0:=[ai a1_0,ai 0,ai 24]) (Bf (by kernel_rfl) q4) (by kernel_rfl) (Bk h5) Ff ?_;refine ds0 (.bool y5) (zT q4) ?_;refine dz0 (.bool y5) ?_;refine ds0 (.box (oi 3 1) 1) (zg q6) ?_;refine dsl (.tree (.slice .int) a1_1) (zg q6) ?_;refine ds0 (ai ((a1_1.length:Nat):Int)) (zg q6) ?_;refine ds0 (.box (oi 3 1) 0) (zg q6) ?_;refine dsl (ai a1_0) (zg q6) ?_;refine ds0 (.bool (decide (((a1_1.length:Nat):Int)<=a1_0))) (zg q6) ?_;refine ds0 (.bool (decide (((a1_1.length:Nat):Int)<=a1_0))) (zT q6) ?_;refine dz0 (.bool (decide (((a1_1.length:Nat):Int)<=a1_0))) ?_;refine ds0 (ai a0) (zg q7) ?_;refine ds0 (.box (oi 3 1) 0) (zg q7) ?_;refine dsl (ai a1_0) (zg q7) ?_;refine ds0 (.box (oi 3 1) 1) (zg q7) ?_;refine dsl (.tree (.slice .int) a1_1) (zg q7) ?_;refine Da (.bool y8) [] [ai a0,ai a1_0,.tree (.slice .int) a1_1] _ (caps:=[]) (args0:=[ai a0,ai a1_0,.tree (.slice .int) a1_1]) (Bf (by kernel_rfl) q7) (by kernel_rfl) (Pu h8) Px ?_;refine ds0 (.bool y8) (zT q7) ?_;refine dz0 (.bool y8) ?_;refine ds0 (.tup []) (C1 (by kernel_rfl) q9) ?_;refine ds0 (.tup []) (C1 (by kernel_rfl) q9) ?_;refine ds0 (.tup []) (C1 (by kernel_rfl) q9) ?_;refine ds0 (.tup []) (C1 (by kernel_rfl) q9) ?_;refine ds0 (.tup []) (C1 (by kernel_rfl) q9) ?_;refine ds0 (.tup []) (C1 (by kernel_rfl) q9) ?_;refine ds0 (.tup []) (C1 (by kernel_rfl) q9) ?_;refine ds0 (.tup []) (C1 (by kernel_rfl) q9) ?_;refine ds0 (.tup []) (C1 (by kernel_rfl) q9) ?_;refine ds0 (.bool false) (zF q9) ?_;refine dz0 (.bool false) ?_;refine F2 (Bc (by kernel_rfl)) (tn_ ?_);obtain rfl:=zj h;exact ⟨_,Ac [],rfl⟩
    have q7_:=of_decide_eq_false q7;refine A1 38 ?_;refine dz0 (ai a0) ?_;refine Da (.bool y3) [] [ai a0] _ (caps:=[]) (args0:=[ai a0]) trivial (by kernel_rfl) (E2 h3) Ex ?_;refine dz0 (.bool y3) ?_;refine ds0 (.box (oi 3 1) 0) (zg q4) ?_;refine dsl (ai a1_0) (zg q4) ?_;refine Da (.bool y5) [] [ai a1_0,ai 0,ai 24] _ (caps:=[]) (args0:=[ai a1_0,ai 0,ai 24]) (Bf (by kernel_rfl) q4) (by kernel_rfl) (Bk h5) Ff ?_;refine ds0 (.bool y5) (zT q4) ?_;refine dz0 (.bool y5) ?_;refine ds0 (.box (oi 3 1) 1) (zg q6) ?_;refine dsl (.tree (.slice .int) a1_1) (zg q6) ?_;refine ds0 (ai ((a1_1.length:Nat):Int)) (zg q6) ?_;refine ds0 (.box (oi 3 1) 0) (zg q6) ?_;refine dsl (ai a1_0) (zg q6) ?_;refine ds0 (.bool (decide (((a1_1.length:Nat):Int)<=a1_0))) (zg q6) ?_;refine ds0 (.bool (decide (((a1_1.length:Nat):Int)<=a1_0))) (zT q6) ?_;refine dz0 (.bool (decide (((a1_1.length:Nat):Int)<=a1_0))) ?_;refine ds0 (.tup []) (C1 (by kernel_rfl) q7) ?_;refine ds0 (.tup []) (C1 (by kernel_rfl) q7) ?_;refine ds0 (.tup []) (C1 (by kernel_rfl) q7) ?_;refine ds0 (.tup []) (C1 (by kernel_rfl) q7) ?_;refine ds0 (.tup []) (C1 (by kernel_rfl) q7) ?_;refine ds0 (.tup []) (C1 (by kernel_rfl) q7) ?_;refine ds0 (.bool false) (zF q7) ?_;refine dz0 (.bool false) ?_;refine dz0 (.tup []) ?_;refine dz0 (.tup []) ?_;refine dz0 (.tup []) ?_;refine dz0 (.tup []) ?_;refine dz0 (.tup []) ?_;refine dz0 (.tup []) ?_;refine dz0 (.tup []) ?_;refine dz0 (.tup []) ?_;refine dz0 (.tup []) ?_;refine dz0 (.bool false) ?_;refine dz0 (.bool false) ?_;refine F2 (Bc (by kernel_rfl)) (tn_ ?_);obtain rfl:=zj h;exact ⟨_,Ac [],rfl⟩
   refine A1 38 ?_;refine dz0 (ai a0) ?_;refine Da (.bool y3) [] [ai a0] _ (caps:=[]) (args0:=[ai a0]) trivial (by kernel_rfl) (E2 h3) Ex ?_;refine dz0 (.bool y3) ?_;refine ds0 (.box (oi 3 1) 0) (zg q4) ?_;refine dsl (ai a1_0) (zg q4) ?_;refine Da (.bool y5) [] [ai a1_0,ai 0,ai 24] _ (caps:=[]) (args0:=[ai a1_0,ai 0,ai 24]) (Bf (by kernel_rfl) q4) (by kernel_rfl) (Bk h5) Ff ?_;refine ds0 (.bool y5) (zT q4) ?_;refine dz0 (.bool y5) ?_;refine ds0 (.tup []) (C1 (by kernel_rfl) q6) ?_;refine ds0 (.tup []) (C1 (by kernel_rfl) q6) ?_;refine ds0 (.tup []) (C1 (by kernel_rfl) q6) ?_;refine ds0 (.tup []) (C1 (by kernel_rfl) q6) ?_;refine ds0 (.tup []) (C1 (by kernel_rfl) q6) ?_;refine ds0 (.tup []) (C1 (by kernel_rfl) q6) ?_;refine ds0 (.bool false) (zF q6) ?_;refine dz0 (.bool false) ?_;refine dz0 (.tup []) ?_;refine dz0 (.tup []) ?_;refine dz0 (.tup []) ?_;refine dz0 (.tup []) ?_;refine dz0 (.tup []) ?_;refine dz0 (.tup []) ?_;refine dz0 (.bool false) ?_;refine dz0 (.bool false) ?_;refine dz0 (.tup []) ?_;refine dz0 (.tup []) ?_;refine dz0 (.tup []) ?_;refine dz0 (.tup []) ?_;refine dz0 (.tup []) ?_;refine dz0 (.tup []) ?_;refine dz0 (.tup []) ?_;refine dz0 (.tup []) ?_;refine dz0 (.tup []) ?_;refine dz0 (.bool false) ?_;refine dz0 (.bool false) ?_;refine F2 (Bc (by kernel_rfl)) (tn_ ?_);obtain rfl:=zj h;exact ⟨_,Ac [],rfl⟩
  refine A1 38 ?_;refine dz0 (ai a0) ?_;refine Da (.bool y3) [] [ai a0] _ (caps:=[]) (args0:=[ai a0]) trivial (by kernel_rfl) (E2 h3) Ex ?_;refine dz0 (.bool y3) ?_;refine ds0 (.tup []) (C1 (by kernel_rfl) q4) ?_;refine ds0 (.tup []) (C1 (by kernel_rfl) q4) ?_;refine ds0 (.tup []) (C1 (by kernel_rfl) q4) ?_;refine ds0 (.bool false) (zF q4) ?_;refine dz0 (.bool false) ?_;refine dz0 (.tup []) ?_;refine dz0 (.tup []) ?_;refine dz0 (.tup []) ?_;refine dz0 (.tup []) ?_;refine dz0 (.tup []) ?_;refine dz0 (.tup []) ?_;refine dz0 (.bool false) ?_;refine dz0 (.bool false) ?_;refine dz0 (.tup []) ?_;refine dz0 (.tup []) ?_;refine dz0 (.tup []) ?_;refine dz0 (.tup []) ?_;refine dz0 (.tup []) ?_;refine dz0 (.tup []) ?_;refine dz0 (.bool false) ?_;refine dz0 (.bool false) ?_;refine dz0 (.tup []) ?_;refine dz0 (.tup []) ?_;refine dz0 (.tup []) ?_;refine dz0 (.tup []) ?_;refine dz0 (.tup []) ?_;refine dz0 (.tup []) ?_;refine dz0 (.tup []) ?_;refine dz0 (.tup []) ?_;refine dz0 (.tup []) ?_;refine dz0 (.bool false) ?_;refine dz0 (.bool false) ?_;refine F2 (Bc (by kernel_rfl)) (tn_ ?_);obtain rfl:=zj h;exact ⟨_,Ac [],rfl⟩
 rintro l2_m4 _ rfl h
 (try dsimp only at h);refine Ah ?_;obtain rfl:=zj h;exact A0 [.bool l2_m4] (Ap rfl zl As)
def R2:AC :=
 (.seq (rg [xo 3 (.i (.box 36 (tm 1))),xo 4 (qm (cb false))])
 (.seq (rg [xo 5 (qf 0 (tm 3)),xo 6 (ql (tm 5)),xo 7 (qc 44 [tm 6,ci 0,ci 24] [[],[],[]]),xo 8 (qm (tm 7)),⟨some 9,some (8,true),qf 1 (tm 3)⟩,⟨some 10,some (8,true),ql (tm 9)⟩,⟨some 11,some (8,true),qf 0 (tm 3)⟩,⟨some 12,some (8,true),ql (tm 11)⟩,⟨some 13,some (8,true),qb .sub (ci 24) (tm 12)⟩,⟨some 14,some (8,true),qc 44 [tm 10,ci 0,tm 13] [[],[],[]]⟩,xo 15 (.i (.pick (tm 8) (tm 14) (cb false))),xo 16 (qm (tm 15)),⟨some 17,some (16,true),qm (tm 0)⟩,⟨some 18,some (16,true),qf 0 (tm 3)⟩,⟨some 19,some (16,true),ql (tm 18)⟩,⟨some 20,some (16,true),qf 1 (tm 3)⟩,⟨some 21,some (16,true),ql (tm 20)⟩,⟨some 22,some (16,true),qb .add (tm 19) (tm 21)⟩,⟨some 23,some (16,true),qf 2 (tm 3)⟩,⟨some 24,some (16,true),ql (tm 23)⟩,⟨some 25,some (16,true),.build [.int .i64 0,.nils] [(0,1,tm 22),(1,1,tm 24)]⟩,⟨some 26,some (16,true),qc 45 [tm 17,tm 25] [[],[none,some (.slice .int)]]⟩,xo 27 (.i (.pick (tm 16) (tm 26) (cb false))),xo 4 (qm (tm 27))])
 .ret))
def Aeg:List Res:=[.tmp 4]
theorem Aec:Am Tryz.prog Tryz.f25=some (R2,Aeg):=by kernel_rfl
theorem La:A5 Tryz.prog 25=true:=by kernel_rfl
def Hd (a0:Int) (a1_0:Int) (a1_1:Int) (a1_2:List (List Int)):Option Bool :=
 Option.bind (Option.bind (Bz a1_0 0 24) fun y3 =>
 cond y3
  (Option.bind (Bz a1_1 0 (wI (24 - a1_0))) fun y5 =>
  cond y5
   (Option.bind (Iz a0 (wI (a1_0+a1_1)) a1_2) fun y7 =>
   some y7)
   (some false))
  (some false)) fun l2_m4 =>
some l2_m4
def Acc (r:Bool):RV:=⟨false,[(false,[.sc (.bool r)])]⟩
theorem K1 {a0:Int} {a1_0:Int} {a1_1:Int} {a1_2:List (List Int)} {r:Bool} (h:Hd a0 a1_0 a1_1 a1_2=some r):Ax Tryz.prog Tab 25 [ai a0,.agg [ai a1_0,ai a1_1,.tree (.slice .int) a1_2]] (Acc r):=by
 refine Ar (by kernel_rfl) Tryz.func25 Aec (n:=28) (by kernel_rfl) (by simp) (tl:=[(0,ai a0),(1,.agg [ai a1_0,ai a1_1,.tree (.slice .int) a1_2])]) rfl ?_;unfold R2;unfold Hd at h;refine Aj ?_;refine Aw h (fun (l2_m4:Bool) S_=>S_=⟨Ao [(4,.bool l2_m4)],Ak (Aq []),2⟩) ?_ ?_
 ·intro v_ h;obtain ⟨y3,h3,h⟩:=Ae h;rcases Ad h with ⟨q4,h⟩ | ⟨q4,h⟩
  ·obtain ⟨y5,h5,h⟩:=Ae h;rcases Ad h with ⟨q6,h⟩ | ⟨q6,h⟩
   ·obtain ⟨y7,h7,h⟩:=Ae h;refine Aa 27 ?_;refine rz0 (.box (oi 3 1) 0) ?_;refine rzl (ai a1_0) ?_;refine zc (.bool y3) [] [ai a1_0,ai 0,ai 24] (Bk h3) ?_;refine rz0 (.bool y3) ?_;refine rs0 (.box (oi 3 1) 1) (zg q4) ?_;refine rsl (ai a1_1) (zg q4) ?_;refine rs0 (.box (oi 3 1) 0) (zg q4) ?_;refine rsl (ai a1_0) (zg q4) ?_;refine rs0 (ai (wI (24 - a1_0))) (zg q4) ?_;refine Bs (.bool y5) [] [ai a1_1,ai 0,ai (wI (24 - a1_0))] _ (caps:=[]) (args0:=[ai a1_1,ai 0,ai (wI (24 - a1_0))]) (Bf (by kernel_rfl) q4) (by kernel_rfl) (Bk h5) Ff ?_;refine rs0 (.bool y5) (zT q4) ?_;refine rz0 (.bool y5) ?_;refine rs0 (ai a0) (zg q6) ?_;refine rs0 (.box (oi 3 1) 0) (zg q6) ?_;refine rsl (ai a1_0) (zg q6) ?_;refine rs0 (.box (oi 3 1) 1) (zg q6) ?_;refine rsl (ai a1_1) (zg q6) ?_;refine rs0 (ai (wI (a1_0+a1_1))) (zg q6) ?_;refine rs0 (.box (oi 3 1) 2) (zg q6) ?_;refine rsl (.tree (.slice .int) a1_2) (zg q6) ?_;refine rs0 (.agg [ai (wI (a1_0+a1_1)),.tree (.slice .int) a1_2]) (zg q6) ?_;refine Bs (.bool y7) [] [ai a0,.agg [ai (wI (a1_0+a1_1)),.tree (.slice .int) a1_2]] _ (caps:=[]) (args0:=[ai a0,.agg [ai (wI (a1_0+a1_1)),.tree (.slice .int) a1_2]]) (Bf (by kernel_rfl) q6) (by kernel_rfl) (Ab4 h7) Ac5 ?_;refine rs0 (.bool y7) (zT q6) ?_;refine rsB 1 ?_;refine An (tn_ ?_);obtain rfl:=zj h;exact ⟨_,Ac [],rfl⟩
   refine Aa 27 ?_;refine rz0 (.box (oi 3 1) 0) ?_;refine rzl (ai a1_0) ?_;refine zc (.bool y3) [] [ai a1_0,ai 0,ai 24] (Bk h3) ?_;refine rz0 (.bool y3) ?_;refine rs0 (.box (oi 3 1) 1) (zg q4) ?_;refine rsl (ai a1_1) (zg q4) ?_;refine rs0 (.box (oi 3 1) 0) (zg q4) ?_;refine rsl (ai a1_0) (zg q4) ?_;refine rs0 (ai (wI (24 - a1_0))) (zg q4) ?_;refine Bs (.bool y5) [] [ai a1_1,ai 0,ai (wI (24 - a1_0))] _ (caps:=[]) (args0:=[ai a1_1,ai 0,ai (wI (24 - a1_0))]) (Bf (by kernel_rfl) q4) (by kernel_rfl) (Bk h5) Ff ?_;refine rs0 (.bool y5) (zT q4) ?_;refine rz0 (.bool y5) ?_;refine zs q6 ?_;refine zs q6 ?_;refine zs q6 ?_;refine zs q6 ?_;refine zs q6 ?_;refine zs q6 ?_;refine zs q6 ?_;refine zs q6 ?_;refine zs q6 ?_;refine zs q6 ?_;refine rs0 (.bool false) (zF q6) ?_;refine rsB 1 ?_;refine An (tn_ ?_);obtain rfl:=zj h;exact ⟨_,Ac [],rfl⟩
  refine Aa 27 ?_;refine rz0 (.box (oi 3 1) 0) ?_;refine rzl (ai a1_0) ?_;refine zc (.bool y3) [] [ai a1_0,ai 0,ai 24] (Bk h3) ?_;refine rz0 (.bool y3) ?_;refine zs q4 ?_;refine zs q4 ?_;refine zs q4 ?_;refine zs q4 ?_;refine zs q4 ?_;refine zs q4 ?_;refine rs0 (.bool false) (zF q4) ?_;refine rsB 13 ?_;refine An (tn_ ?_);obtain rfl:=zj h;exact ⟨_,Ac [],rfl⟩
 rintro l2_m4 _ rfl h
 (try dsimp only at h);refine Ah ?_;obtain rfl:=zj h;exact A0 [.bool l2_m4] (Ap rfl zl As)
def Ya:AC :=
 (.seq (rg [xo 4 (qm (cb false))])
 (.seq (rg [xo 5 (qm (tm 0)),xo 6 (qc 49 [tm 5,ci 0,ci 24] [[],[],[]]),xo 7 (qm (tm 6)),⟨some 8,some (7,true),qm (tm 1)⟩,⟨some 9,some (7,true),qc 49 [tm 8,ci 0,ci 24] [[],[],[]]⟩,xo 10 (.i (.pick (tm 7) (tm 9) (cb false))),xo 11 (qm (tm 10)),⟨some 12,some (11,true),qm (tm 0)⟩,⟨some 13,some (11,true),qm (tm 1)⟩,⟨some 14,some (11,true),qb .add (tm 12) (tm 13)⟩,⟨some 15,some (11,true),qb .leq (tm 14) (ci 24)⟩,xo 16 (.i (.pick (tm 11) (tm 15) (cb false))),xo 4 (qm (tm 16))])
 .ret))
def Akh:List Res:=[.tmp 4]
theorem Ak7:Am Tryz.prog Tryz.f56=some (Ya,Akh):=by kernel_rfl
theorem Vn:A5 Tryz.prog 56=true:=by kernel_rfl
def Je (a0:Int) (a1:Int):Option Bool :=
 Option.bind (Option.bind (B3 a0 0 24) fun y3 =>
 cond y3
  (Option.bind (B3 a1 0 24) fun y5 =>
  cond y5
   (some (decide (wI (a0+a1)<=24)))
   (some false))
  (some false)) fun l2_m4 =>
some l2_m4
def Ahk (r:Bool):RV:=⟨false,[(false,[.sc (.bool r)])]⟩
theorem Ui {a0:Int} {a1:Int} {r:Bool} (h:Je a0 a1=some r):Ax Tryz.prog Tab 56 [ai a0,ai a1] (Ahk r):=by
 refine Ar (by kernel_rfl) Tryz.func56 Ak7 (n:=17) (by kernel_rfl) (by simp) (tl:=[(0,ai a0),(1,ai a1)]) rfl ?_;unfold Ya;unfold Je at h;refine Aj ?_;refine Aw h (fun (l2_m4:Bool) S_=>S_=⟨Ao [(4,.bool l2_m4)],Ak (Aq []),2⟩) ?_ ?_
 ·intro v_ h;obtain ⟨y3,h3,h⟩:=Ae h;rcases Ad h with ⟨q4,h⟩ | ⟨q4,h⟩
  ·obtain ⟨y5,h5,h⟩:=Ae h;rcases Ad h with ⟨q6,h⟩ | ⟨q6,h⟩
   ·refine Aa 15 ?_;refine rz0 (ai a0) ?_;refine zc (.bool y3) [] [ai a0,ai 0,ai 24] (Bp h3) ?_;refine rz0 (.bool y3) ?_;refine rs0 (ai a1) (zg q4) ?_;refine Bs (.bool y5) [] [ai a1,ai 0,ai 24] _ (caps:=[]) (args0:=[ai a1,ai 0,ai 24]) (Bf (by kernel_rfl) q4) (by kernel_rfl) (Bp h5) Kp ?_;refine rs0 (.bool y5) (zT q4) ?_;refine rz0 (.bool y5) ?_;refine rs0 (ai a0) (zg q6) ?_;refine rs0 (ai a1) (zg q6) ?_;refine rs0 (ai (wI (a0+a1))) (zg q6) ?_;refine rs0 (.bool (decide (wI (a0+a1)<=24))) (zg q6) ?_;refine rs0 (.bool (decide (wI (a0+a1)<=24))) (zT q6) ?_;refine rsB 1 ?_;refine An (tn_ ?_);obtain rfl:=zj h;exact ⟨_,Ac [],rfl⟩
   refine Aa 15 ?_;refine rz0 (ai a0) ?_;refine zc (.bool y3) [] [ai a0,ai 0,ai 24] (Bp h3) ?_;refine rz0 (.bool y3) ?_;refine rs0 (ai a1) (zg q4) ?_;refine Bs (.bool y5) [] [ai a1,ai 0,ai 24] _ (caps:=[]) (args0:=[ai a1,ai 0,ai 24]) (Bf (by kernel_rfl) q4) (by kernel_rfl) (Bp h5) Kp ?_;refine rs0 (.bool y5) (zT q4) ?_;refine rz0 (.bool y5) ?_;refine zs q6 ?_;refine zs q6 ?_;refine zs q6 ?_;refine zs q6 ?_;refine rs0 (.bool false) (zF q6) ?_;refine rsB 1 ?_;refine An (tn_ ?_);obtain rfl:=zj h;exact ⟨_,Ac [],rfl⟩
  refine Aa 15 ?_;refine rz0 (ai a0) ?_;refine zc (.bool y3) [] [ai a0,ai 0,ai 24] (Bp h3) ?_;refine rz0 (.bool y3) ?_;refine zs q4 ?_;refine zs q4 ?_;refine rs0 (.bool false) (zF q4) ?_;refine rsB 7 ?_;refine An (tn_ ?_);obtain rfl:=zj h;exact ⟨_,Ac [],rfl⟩
 rintro l2_m4 _ rfl h
 (try dsimp only at h);refine Ah ?_;obtain rfl:=zj h;exact A0 [.bool l2_m4] (Ap rfl zl As)
def Jd:AC :=
 (.seq (rg [xo 12 (qb .lss (tm 11) (tm 10))])
 (.seq (.cond (tm 12)
  .skip
  (.exit 0))
 (.seq (.block 1 (.seq (rg [xo 13 (qx 1 (tm 9) (tm 11)),xo 14 (ql (tm 13)),xo 8 (qm (tm 14))])
 (.seq (rg [xo 15 (qm (tm 0)),xo 16 (qm (tm 8)),xo 17 (qm (tm 2)),xo 18 (qc 90 [tm 15,tm 16,tm 17] [[],[some .int],[]]),xo 19 (.i (.not (tm 18)))])
 (.cond (tm 19)
  (.seq (rg [xo 6 (qm (cb false))])
  .ret)
  .skip))))
 (rg [xo 20 (qb .add (tm 11) (ci 1)),xo 11 (qm (tm 20))]))))
def L8:AC :=
 (.seq (rg [xo 6 (qm (cb false))])
 (.seq (.seq (rg [xo 9 (qm (tm 1)),xo 10 (.i (.len (tm 9))),xo 11 (qm (ci 0))])
 (.block 0 (.loop Jd)))
 (.seq (rg [xo 6 (qm (cb true))])
 .ret)))
def Uv:List Res:=[.tmp 6]
theorem Vd:Am Tryz.prog Tryz.f73=some (L8,Uv):=by kernel_rfl
theorem Tg:A5 Tryz.prog 73=true:=by kernel_rfl
def D9 (a1:List (List Int)) (a0:Int) (a2:Int) (l4_m11:Nat):Option (Ctl Nat (Ctl Unit Bool)) :=
 cond (decide (((l4_m11:Nat):Int)<((a1.length:Nat):Int)))
 (Option.bind (a1[l4_m11]?) fun x10 =>
 Option.bind (Fk a0 x10 a2) fun y12 =>
 cond (!y12)
  (some (Ctl.out (Ctl.out false)))
  (og (l4_m11+1<4611686018427387904) <|
  some (Ctl.next (l4_m11+1))))
 (some (Ctl.out (Ctl.next ())))
def D2 (a0:Int) (a1:List (List Int)) (a2:Int):Option Bool :=
 Do (A4 (fun s_:Nat=>D9 a1 a0 a2 s_) 4611686018427387904 0) fun _ =>
some true
def Tx (r:Bool):RV:=⟨false,[(false,[.sc (.bool r)])]⟩
theorem T6 {a0:Int} {a1:List (List Int)} {a2:Int} {r:Bool} (h:D2 a0 a1 a2=some r):Ax Tryz.prog Tab 73 [ai a0,.tree (.slice .int) a1,ai a2] (Tx r):=by
 refine Ar (by kernel_rfl) Tryz.func73 Vd (n:=21) (by kernel_rfl) (by simp) (tl:=[(0,ai a0),(1,.tree (.slice .int) a1),(2,ai a2)]) rfl ?_;unfold L8;unfold D2 at h;refine Aj ?_;refine Bh h (fun (_:Unit) S_=>S_=⟨Ao [],Ak (Aq []),2⟩) ?_ ?_
 ·intro v_ h hk2;refine Aj ?_;refine Al ?_;refine A3 h (fun (l4_m11:Nat) S_=>S_=⟨Ao [(0,ai a0),(2,ai a2),(9,.tree (.slice .int) a1),(10,ai ((a1.length:Nat):Int)),(11,ai ((l4_m11:Nat):Int))],Ak (Aq []),2⟩) ⟨_,Ac [],rfl⟩ ?_;rintro n_ l4_m11 _ c_ rfl h hn4
  (try dsimp only at h);unfold D9 at h;unfold Jd;refine Aj ?_;refine Ab ?_;rcases Ad h with ⟨q7,h⟩ | ⟨q7,h⟩
  ·have q7_:=of_decide_eq_true q7;refine Af q7 ?_;refine Ai (tn_ ?_);refine wr_ ?_;refine Ab ?_;refine Al ?_;refine Ab ?_;obtain ⟨x10,e10,h⟩:=Ae h;refine Aa 6 ?_;refine rs0 (.telt none (.slice .int) x10 0) (zi (t:=.slice .int) (xs:=a1) (k:=.i64) (m:=((l4_m11:Nat):Int)) (Ay _) e10) ?_;refine rsB 2 ?_;refine An (tn_ ?_);refine wr_ ?_;refine Ab ?_;obtain ⟨y12,h12,h⟩:=Ae h;refine Aa 11 ?_;refine rz0 (ai a0) ?_;refine rz0 (.tree .int x10) ?_;refine rz0 (ai a2) ?_;refine zc (.bool y12) [] [ai a0,.tree .int x10,ai a2] (Wq h12) ?_;refine rsB 1 ?_;refine An (tn_ ?_);refine wr_ ?_;rcases Ad h with ⟨q13,h⟩ | ⟨q13,h⟩
   ·refine Af q13 ?_;refine Aj ?_;refine Ah (br_ (tr_ (tr_ (br_ (tr_ ?_)))));obtain rfl:=zj h;have h:=hn4
    (try dsimp only at h);obtain rfl:=zj h;have h:=hk2
    (try dsimp only at h);obtain rfl:=zj h;exact A0 [.bool false] (Ap rfl zl As)
   refine Ag q13 ?_;refine Ai (bn_ (tn_ ?_));refine wr_ ?_;obtain ⟨g15,h⟩:=Au h;refine Aa 13 ?_;refine rs0 (ai ((l4_m11+1:Nat):Int)) (za g15) ?_;refine rsB 1 ?_;refine An (tn_ ?_);obtain rfl:=zj h;exact ⟨l4_m11+1,_,Ac [],rfl,hn4⟩
  have q7_:=of_decide_eq_false q7;refine Ag q7 ?_;refine Az (te_ (te_ (be_ (tn_ ?_))));obtain rfl:=zj h;have h:=hn4
  (try dsimp only at h);obtain rfl:=zj h;exact ⟨(),_,rfl,Ac [],rfl⟩
 rintro _ _ rfl h
 (try dsimp only at h);refine Aj ?_;refine Ah ?_;obtain rfl:=zj h;exact A0 [.bool true] (Ap rfl zl As)
def Pv:AC :=
 (.seq (rg [xo 6 (qm (.cst .nils))])
 (.seq (rg [xo 10 (qm (tm 1)),xo 11 (qc 91 [tm 10] [[some (.slice .int)]]),xo 7 (qm (tm 11))])
 (.seq (rg [xo 12 (qm (tm 7)),xo 13 (.i (.len (tm 12))),xo 14 (.makeV 66 (.slice .int) 24 [.nils] (tm 13) (tm 13)),xo 8 (qm (tm 14))])
 (.seq (rg [xo 15 (qm (tm 0)),xo 16 (qm (tm 7)),xo 17 (qm (tm 2)),xo 18 (qm (tm 8)),xo 19 (qc 92 [tm 15,tm 16,tm 17,tm 18] [[],[some (.slice .int)],[],[some (.slice .int)]]),xo 9 (qm (tm 19))])
 (.seq (rg [xo 20 (qm (tm 7)),xo 21 (qm (tm 9)),xo 22 (qm (tm 9)),xo 23 (.slice 1 (tm 20) none (some (tm 21)) (some (tm 22))),xo 6 (qm (tm 23))])
 .ret)))))
def Zv:List Res:=[.tmp 6]
theorem Ac0:Am Tryz.prog Tryz.f74=some (Pv,Zv):=by kernel_rfl
theorem Ou:A5 Tryz.prog 74=true:=by kernel_rfl
def Ej (a0:Int) (a1:List (List Int)) (a2:Int):Option (List (List Int)) :=
 Option.bind (Hh a1) fun y4 =>
og (0<=((y4.length:Nat):Int)∧((y4.length:Nat):Int)<=((y4.length:Nat):Int)∧((y4.length:Nat):Int)<=1073741824∧(24:Int)*((y4.length:Nat):Int)<=140737488355328) <|
Option.bind (En a0 y4 a2 (List.replicate y4.length ([]:List Int))) fun y8 =>
og (y8.1.length=y4.length) <|
og (y8.2.1.length=y4.length) <|
og ((0:Int)<=((y8.2.2:Nat):Int)∧((y8.2.2:Nat):Int)<=((y8.2.2:Nat):Int)∧((y8.2.2:Nat):Int)<=((y4.length:Nat):Int)) <|
some (y8.1.take y8.2.2)
theorem Oe {a0:Int} {a1:List (List Int)} {a2:Int} {r:List (List Int)} (h:Ej a0 a1 a2=some r):Ir Tryz.prog Tab 74 [ai a0,.tree (.slice .int) a1,ai a2] [] (.own (oi 0 1) (.slice .int) 0 r.length) [(oi 0 1,.mat 66 (oi 1 1) .int r),(oi 1 1,.pool 3 .int r)]:=by
 refine Gt (by kernel_rfl) Tryz.func74 Ac0 (n:=24) (by kernel_rfl) (by simp) (tl:=[(0,ai a0),(1,.tree (.slice .int) a1),(2,ai a2)]) rfl (by kernel_rfl) trivial ⟨⟨3,.tail _ (.head _)⟩,⟨trivial,trivial⟩⟩ ?_;unfold Pv;unfold Ej at h;refine Aj ?_;refine Ab ?_;obtain ⟨y4,h4,h⟩:=Ae h;refine Aa 5 ?_;refine rz0 (.tree (.slice .int) a1) ?_;refine Jq (.own (oi 176 3) (.slice .int) 0 y4.length) [(oi 176 3,some (.mat 66 (oi 177 3) .int y4)),(oi 177 3,some (.pool 3 .int y4))] [] [.tree (.slice .int) a1] (caps:=[]) trivial (Acp h4) Aar trivial (.cons (.ren (by kernel_rfl)) .nil) (B8 (by kernel_rfl) (by kernel_rfl) trivial) ?_;refine rsB 1 ?_;refine An (tn_ ?_);refine wr_ ?_;refine Ab ?_;obtain ⟨g6,h⟩:=Au h;refine Aa 9 ?_;refine rz0 (.own (oi 176 3) (.slice .int) 0 y4.length) ?_;refine rz0 (ai ((y4.length:Nat):Int)) ?_;refine Am9 (.own (oi 224 7) (.slice .int) 0 y4.length) (oi 224 7) 66 3 .int (List.replicate y4.length ([]:List Int)) trivial (Ah2 (j:=y4.length) (k:=.i64) (k':=.i64) (m:=((y4.length:Nat):Int)) (c:=((y4.length:Nat):Int)) 3 (by kernel_rfl) (by kernel_rfl) g6 (by kernel_rfl) rfl) (by kernel_rfl) (by rw [List.length_replicate]) (by kernel_rfl) ?_;refine rsB 1 ?_;refine An (tn_ ?_);refine wr_ ?_;refine Ab ?_;obtain ⟨y8,h8,h⟩:=Ae h;obtain ⟨g9,h⟩:=Au h;obtain ⟨g10,h⟩:=Au h;refine Aa 15 ?_;refine rz0 (ai a0) ?_;refine rz0 (.own (oi 176 3) (.slice .int) 0 y4.length) ?_;refine rz0 (ai a2) ?_;refine rz0 (.own (oi 224 7) (.slice .int) 0 y4.length) ?_;refine Jq (ai ((y8.2.2:Nat):Int)) [(oi 176 3,some (.mat 66 (oi 304 13) .int y8.1)),(oi 304 13,some (.pool 3 .int y8.1)),(oi 224 7,some (.mat 66 (oi 305 13) .int y8.2.1)),(oi 305 13,some (.pool 3 .int y8.2.1)),(oi 176 3,none),(oi 177 3,some (.pool 3 .int [])),(oi 224 7,none),(oi 224 7,some (.pool 3 .int []))] [(oi 0 0,oi 176 3),(oi 1 0,oi 177 3),(oi 2 0,oi 224 7),(oi 3 0,oi 224 7)] [ai a0,.own (oi 176 3) (.slice .int) 0 y4.length,ai a2,.own (oi 224 7) (.slice .int) 0 y4.length] (caps:=[]) trivial (Vz h8 rfl List.length_replicate.symm) Wd ⟨by kernel_rfl,⟨by kernel_rfl,⟨by kernel_rfl,⟨by kernel_rfl,trivial⟩⟩⟩⟩ (.cons (.ren (by kernel_rfl)) (.cons (.ren (by kernel_rfl)) (.cons (.ren (by kernel_rfl)) (.cons (.ren (by kernel_rfl)) .nil)))) (B8 (by kernel_rfl) (by kernel_rfl) ⟨Ca (by kernel_rfl),⟨I2 (o:=oi 176 3) (p:=oi 177 3) (e1:=66) (m:=y4.length) (u:=.int) (xss:=y4) (Ca (by kernel_rfl)) (by kernel_rfl),⟨Ca (by kernel_rfl),⟨I2 (o:=oi 224 7) (p:=oi 224 7) (e1:=66) (m:=(List.replicate y4.length ([]:List Int)).length) (u:=.int) (xss:=List.replicate y4.length ([]:List Int)) (Ca (by kernel_rfl)) (by kernel_rfl),trivial⟩⟩⟩⟩) ?_;refine rsB 1 ?_;refine An (tn_ ?_);refine wr_ ?_;refine Ab ?_;obtain ⟨g12,h⟩:=Au h;refine Aa 20 ?_;refine rz0 (.own (oi 176 3) (.slice .int) 0 y4.length) ?_;refine rz0 (ai ((y8.2.2:Nat):Int)) ?_;refine rz0 (ai ((y8.2.2:Nat):Int)) ?_;refine rs2 (.own (oi 23 18) (.slice .int) 0 y8.2.2) (oi 176 3) (oi 23 18) (.vec 66 1 y8.2.2 ((hdL (oi 304 13) .int y8.1).take y8.2.2)) (Apy (t:=.slice .int) (len:=y4.length) (kh:=.i64) (km:=.i64) (h:=((y8.2.2:Nat):Int)) (m:=((y8.2.2:Nat):Int)) (j:=y8.2.2) (i:=oi 176 3) (N:=y8.1.length) (e:=66) (cs:=hdL (oi 304 13) .int y8.1) (by kernel_rfl) (by kernel_rfl) (by kernel_rfl) (by kernel_rfl) rfl g12 rfl (by have z_:y4.length=y8.1.length:=g9.symm; omega)) ?_;refine rsB 1 ?_;refine An (tn_ ?_);refine ⟨_,Amh (e1:=66) (e:=3) (u:=.int) (xss:=y8.1) (k:=y8.2.2) 9000 (oi 23 18) (oi 304 13) (by kernel_rfl) (by kernel_rfl) (by kernel_rfl) (by have z_:y4.length=y8.1.length:=g9.symm; omega) (by kernel_rfl) (by kernel_rfl),?_⟩;refine Ah ?_;obtain rfl:=zj h;exact Nn [.own (oi 0 1) (.slice .int) 0 ((y8.1.take y8.2.2).length)] ((B2 6 (.own (oi 23 18) (.slice .int) 0 y8.2.2) (.own (oi 23 18) (.slice .int) 0 ((y8.1.take y8.2.2).length)) (by kernel_rfl) (congrArg (fun z_=>((.own (oi 23 18) (.slice .int) 0 z_):AV)) ((Anl (by have z_:y4.length=y8.1.length:=g9.symm; omega)):y8.2.2=(y8.1.take y8.2.2).length))).trans (Ac (tl:=[(6,.own (oi 0 1) (.slice .int) 0 (y8.1.take y8.2.2).length)]) (g:=2) [(oi 0 1,oi 23 18),(oi 1 1,oi 9000 20)]))
def Ab2:AC :=
 (.seq (rg [⟨some 2,none,.makeA 107 (.pair .int (.pair .int (.pair .int (.pair .int (.pair .int (.pair .int (.pair .int (.pair .int (.pair .int (.pair .int (.pair .int (.pair .int (.pair .int (.pair .int (.pair .int (.pair .int (.pair .int (.pair .int (.pair .int (.pair .int (.pair .int (.pair .int (.pair .int (.pair .int (.pair .int (.pair .int (.pair .int (.pair .int (.pair .int (.pair .int (.pair .int (.pair .int (.pair .int (.pair .int (.pair .int (.pair .int (.pair .int (.pair .int (.pair .int (.pair .int (.pair .int (.pair .int (.pair .int T5)))))))))))))))))))))))))))))))))))))))))))⟩])
 (.seq (rg [xo 4 (.build [.int .i64 0,.int .i64 0,.int .i64 0,.int .i64 0,.int .i64 0,.int .i64 0,.int .i64 0,.int .i64 0,.int .i64 0,.int .i64 0,.int .i64 0,.int .i64 0,.int .i64 0,.int .i64 0,.int .i64 0,.int .i64 0,.int .i64 0,.int .i64 0,.int .i64 0,.int .i64 0,.int .i64 0,.int .i64 0,.int .i64 0,.int .i64 0,.int .i64 0,.int .i64 0,.int .i64 0,.int .i64 0,.int .i64 0,.int .i64 0,.int .i64 0,.int .i64 0,.int .i64 0,.int .i64 0,.int .i64 0,.int .i64 0,.int .i64 0,.int .i64 0,.int .i64 0,.int .i64 0,.int .i64 0,.int .i64 0,.int .i64 0,.int .i64 0,.int .i64 0,.int .i64 0,.int .i64 0,.int .i64 0] []),⟨some 3,none,.makeA 107 (.pair .int (.pair .int (.pair .int (.pair .int (.pair .int (.pair .int (.pair .int (.pair .int (.pair .int (.pair .int (.pair .int (.pair .int (.pair .int (.pair .int (.pair .int (.pair .int (.pair .int (.pair .int (.pair .int (.pair .int (.pair .int (.pair .int (.pair .int (.pair .int (.pair .int (.pair .int (.pair .int (.pair .int (.pair .int (.pair .int (.pair .int (.pair .int (.pair .int (.pair .int (.pair .int (.pair .int (.pair .int (.pair .int (.pair .int (.pair .int (.pair .int (.pair .int (.pair .int T5)))))))))))))))))))))))))))))))))))))))))))⟩,xn (.st false 48 (tm 3) (tm 4))])
 (.seq (rg [xo 5 (.slA 48 (tm 3)),xo 6 (qm (tm 0)),xo 7 (.copy (tm 5) (tm 6))])
 (.seq (rg [xo 8 (.i (.ld false 48 (tm 3))),xn (.st false 48 (tm 2) (tm 8))])
 .ret))))
def Amg:List Res:=[.cell 2 false 48]
theorem Ama:Am Tryz.prog Tryz.f75=some (Ab2,Amg):=by kernel_rfl
theorem X1:A5 Tryz.prog 75=true:=by kernel_rfl
def Ks (a0:List Int):Option (List Int) :=
 some (a0.take 48++(List.replicate 48 0).drop (a0.take 48).length)
def Ak6 (r:List Int):RV:=⟨false,[(true,((tyA 47).av (Fa 47 r)).map .sc)]⟩
theorem Yb {a0:List Int} {r:List Int} (h:Ks a0=some r):Ax Tryz.prog Tab 75 [.tree .int a0] (Ak6 r):=by
 refine Ar (by kernel_rfl) Tryz.func75 Ama (n:=9) (by kernel_rfl) (by simp) (tl:=[(0,.tree .int a0)]) rfl ?_;unfold Ab2;unfold Ks at h;refine Aj ?_;refine Aj ?_;refine Ab ?_;refine Aa 8 ?_;refine rsl (.sla (oi 3 3) 0 48) (Awn (N:=47) (i:=oi 3 3) (j:=0) (e:=107) (xs:=[Fa 47 (List.replicate 48 0)]) (by kernel_rfl) (by kernel_rfl) (by kernel_rfl)) ?_;refine rz0 (.tree .int a0) ?_;refine rs2 (ai (((a0.take 48).length:Nat):Int)) (oi 3 3) (oi 3 3) (.arr 107 (tyA 47) [Fa 47 (a0.take 48++(List.replicate 48 0).drop (a0.take 48).length)]) (As2 (N:=47) (i:=oi 3 3) (e:=107) (l:=List.replicate 48 0) (ys:=a0) (zs:=a0.take 48++(List.replicate 48 0).drop (a0.take 48).length) (by kernel_rfl) Aix (by kernel_rfl) (by kernel_rfl) (by simp) rfl) ?_;refine An (tn_ ?_);refine wr_ ?_;refine Ab ?_;refine Aa 10 ?_;refine rsl (.agg ((tyA 47).av (Fa 47 (a0.take 48++(List.replicate 48 0).drop (a0.take 48).length)))) (Awl (N:=47) (ty:=107) (i:=oi 3 3) (e:=0) (l:=a0.take 48++(List.replicate 48 0).drop (a0.take 48).length) (xs:=[Fa 47 (a0.take 48++(List.replicate 48 0).drop (a0.take 48).length)]) (by kernel_rfl) (by kernel_rfl) rfl rfl) ?_;refine Al5 (oi 2 1) (oi 2 1) (.arr 107 (tyA 47) [Fa 47 (a0.take 48++(List.replicate 48 0).drop (a0.take 48).length)]) (Awu (N:=47) (ty:=107) (i:=oi 2 1) (e:=0) (l:=List.replicate 48 0) (l2:=a0.take 48++(List.replicate 48 0).drop (a0.take 48).length) (xs:=[Fa 47 (List.replicate 48 0)]) (by kernel_rfl) (by kernel_rfl) rfl rfl (by kernel_rfl) rfl) ?_;refine An (tn_ ?_);refine wr_ ?_;refine Ah ?_;obtain rfl:=zj h;exact A0 [.agg ((tyA 47).av (Fa 47 (a0.take 48++(List.replicate 48 0).drop (a0.take 48).length)))] (Gm (Auo 47 (a0.take 48++(List.replicate 48 0).drop (a0.take 48).length)) As)
def J0:AC :=
 (.seq (rg [xo 26 (qb .lss (tm 25) (tm 24))])
 (.seq (.cond (tm 26)
  .skip
  (.exit 0))
 (.seq (.block 1 (.seq (rg [xo 27 (qm (tm 25)),xo 28 (qx 1 (tm 23) (tm 25)),xo 29 (ql (tm 28)),xo 7 (qm (tm 27)),xo 8 (qm (tm 29))])
 (.seq (.region [xo 30 (qm (tm 8)),xo 31 (qc 75 [tm 30] [[some .int]]),xo 32 (qm (tm 1)),xo 33 (qm (tm 7)),xo 34 (qx 1 (tm 32) (tm 33)),xo 35 (ql (tm 34)),xo 36 (qc 75 [tm 35] [[some .int]]),xo 37 (.i (.cmp true 51 (tm 31) (tm 36)))] true [(1,5)])
 (.cond (tm 37)
  (.seq (rg [xo 6 (qm (cb false))])
  .ret)
  .skip))))
 (rg [xo 38 (qb .add (tm 25) (ci 1)),xo 25 (qm (tm 38))]))))
def Nq:AC :=
 (.seq (rg [xo 6 (qm (cb false))])
 (.seq (.seq (rg [xo 9 (qm (tm 1)),xo 10 (.i (.len (tm 9))),xo 11 (qm (tm 2)),xo 12 (qb .gtr (tm 10) (tm 11)),xo 13 (qm (tm 12)),⟨some 14,some (13,false),qm (tm 0)⟩,⟨some 15,some (13,false),qm (tm 1)⟩,⟨some 16,some (13,false),qm (tm 2)⟩,⟨some 17,some (13,false),qc 73 [tm 14,tm 15,tm 16] [[],[some (.slice .int)],[]]⟩,⟨some 18,some (13,false),.i (.not (tm 17))⟩,xo 19 (.i (.pick (tm 13) (cb true) (tm 18)))])
 (.cond (tm 19)
  (.seq (rg [xo 6 (qm (cb false))])
  .ret)
  .skip))
 (.seq (.seq (rg [xo 20 (qm (tm 0)),xo 21 (qm (tm 1)),xo 22 (qm (tm 2)),xo 23 (qc 74 [tm 20,tm 21,tm 22] [[],[some (.slice .int)],[]]),xo 24 (.i (.len (tm 23))),xo 25 (qm (ci 0))])
 (.block 0 (.loop J0)))
 (.seq (rg [xo 39 (qm (tm 0)),xo 40 (qm (tm 1)),xo 41 (qm (tm 2)),xo 42 (qc 74 [tm 39,tm 40,tm 41] [[],[some (.slice .int)],[]]),xo 43 (.i (.len (tm 42))),xo 44 (qm (tm 1)),xo 45 (.i (.len (tm 44))),xo 46 (qb .eql (tm 43) (tm 45)),xo 6 (qm (tm 46))])
 .ret))))
def Wt:List Res:=[.tmp 6]
theorem Xv:Am Tryz.prog Tryz.f57=some (Nq,Wt):=by kernel_rfl
theorem V2:A5 Tryz.prog 57=true:=by kernel_rfl
def C4 (y10:List (List Int)) (a1:List (List Int)) (l11_m25:Nat):Option (Ctl Nat (Ctl Unit Bool)) :=
 cond (decide (((l11_m25:Nat):Int)<((y10.length:Nat):Int)))
 (Option.bind (y10[l11_m25]?) fun x17 =>
 Option.bind (Ks x17) fun y19 =>
 Option.bind (a1[l11_m25]?) fun x20 =>
 Option.bind (Ks x20) fun y21 =>
 og (y19.length=47+1∧y21.length=47+1) <|
 cond (!(y19==y21))
  (some (Ctl.out (Ctl.out false)))
  (og (l11_m25+1<4611686018427387904) <|
  some (Ctl.next (l11_m25+1))))
 (some (Ctl.out (Ctl.next ())))
def Ez (a0:Int) (a1:List (List Int)) (a2:Int):Option Bool :=
 Option.bind (cond (decide (a2<((a1.length:Nat):Int)))
  (some true)
  (Option.bind (D2 a0 a1 a2) fun y5 =>
  some (!y5))) fun l3_m19 =>
cond l3_m19
 (some false)
 (Do (Option.bind (Ej a0 a1 a2) fun y10 =>
  A4 (fun s_:Nat=>C4 y10 a1 s_) 4611686018427387904 0) fun _ =>
 Option.bind (Ej a0 a1 a2) fun y27 =>
 some (((y27.length:Nat):Int)==((a1.length:Nat):Int)))
def Vb (r:Bool):RV:=⟨false,[(false,[.sc (.bool r)])]⟩
theorem We {a0:Int} {a1:List (List Int)} {a2:Int} {r:Bool} (h:Ez a0 a1 a2=some r):Ax Tryz.prog Tab 57 [ai a0,.tree (.slice .int) a1,ai a2] (Vb r):=by
 refine Ar (by kernel_rfl) Tryz.func57 Xv (n:=47) (by kernel_rfl) (by simp) (tl:=[(0,ai a0),(1,.tree (.slice .int) a1),(2,ai a2)]) rfl ?_;unfold Nq;unfold Ez at h;refine Aj ?_;refine Ab ?_;refine Aw h (fun (l3_m19:Bool) S_=>S_=⟨Ao [(0,ai a0),(1,.tree (.slice .int) a1),(2,ai a2),(19,.bool l3_m19)],Ak (Aq []),2⟩) ?_ ?_
 ·intro v_ h;rcases Ad h with ⟨q4,h⟩ | ⟨q4,h⟩
  ·have q4_:=of_decide_eq_true q4;refine Aa 13 ?_;refine rz0 (.tree (.slice .int) a1) ?_;refine rz0 (ai ((a1.length:Nat):Int)) ?_;refine rz0 (ai a2) ?_;refine rz0 (.bool (decide (a2<((a1.length:Nat):Int)))) ?_;refine rz0 (.bool (decide (a2<((a1.length:Nat):Int)))) ?_;refine zs q4 ?_;refine zs q4 ?_;refine zs q4 ?_;refine zs q4 ?_;refine zs q4 ?_;refine rs0 (.bool true) (zT q4) ?_;refine An (tn_ ?_);obtain rfl:=zj h;exact ⟨_,Ac [],rfl⟩
  have q4_:=of_decide_eq_false q4;obtain ⟨y5,h5,h⟩:=Ae h;refine Aa 13 ?_;refine rz0 (.tree (.slice .int) a1) ?_;refine rz0 (ai ((a1.length:Nat):Int)) ?_;refine rz0 (ai a2) ?_;refine rz0 (.bool (decide (a2<((a1.length:Nat):Int)))) ?_;refine rz0 (.bool (decide (a2<((a1.length:Nat):Int)))) ?_;refine rs0 (ai a0) (zg q4) ?_;refine rs0 (.tree (.slice .int) a1) (zg q4) ?_;refine rs0 (ai a2) (zg q4) ?_;refine Bs (.bool y5) [] [ai a0,.tree (.slice .int) a1,ai a2] _ (caps:=[]) (args0:=[ai a0,.tree (.slice .int) a1,ai a2]) (Bf (by kernel_rfl) q4) (by kernel_rfl) (T6 h5) Tg ?_;refine rs0 (.bool (!y5)) (zg q4) ?_;refine rs0 (.bool (!y5)) (zF q4) ?_;refine An (tn_ ?_);obtain rfl:=zj h;exact ⟨_,Ac [],rfl⟩
 rintro l3_m19 _ rfl h
 (try dsimp only at h);rcases Ad h with ⟨q6,h⟩ | ⟨q6,h⟩
 ·refine Af q6 ?_;refine Aj ?_;refine Ah (tr_ ?_);obtain rfl:=zj h;exact A0 [.bool false] (Ap rfl zl As)
 refine Ag q6 ?_;refine Ai (tn_ ?_);refine wr_ ?_;refine Bh h (fun (_:Unit) S_=>S_=⟨Ao [(0,ai a0),(1,.tree (.slice .int) a1),(2,ai a2)],Ak (Aq []),2⟩) ?_ ?_
 ·intro v_ h hk8;refine Ab ?_;obtain ⟨y10,h10,h⟩:=Ae h;refine Aa 8 ?_;refine rz0 (ai a0) ?_;refine rz0 (.tree (.slice .int) a1) ?_;refine rz0 (ai a2) ?_;refine Jq (.own (oi 368 5) (.slice .int) 0 y10.length) [(oi 368 5,some (.mat 66 (oi 369 5) .int y10)),(oi 369 5,some (.pool 3 .int y10))] [] [ai a0,.tree (.slice .int) a1,ai a2] (caps:=[]) trivial (Oe h10) Ou trivial (.cons (.ren (by kernel_rfl)) (.cons (.ren (by kernel_rfl)) (.cons (.ren (by kernel_rfl)) .nil))) (B8 (by kernel_rfl) (by kernel_rfl) trivial) ?_;refine rsB 2 ?_;refine An (tn_ ?_);refine wr_ ?_;refine Al ?_;refine A3 h (fun (l11_m25:Nat) S_=>S_=⟨Ao [(0,ai a0),(1,.tree (.slice .int) a1),(2,ai a2),(23,.own (oi 0 1) (.slice .int) 0 y10.length),(24,ai ((y10.length:Nat):Int)),(25,ai ((l11_m25:Nat):Int))],Ak (Aq [(oi 0 1,.mat 66 (oi 1 1) .int y10),(oi 1 1,.pool 3 .int y10)]),2⟩) ⟨_,Ac [(oi 0 1,oi 368 5),(oi 1 1,oi 369 5)],rfl⟩ ?_;rintro n_ l11_m25 _ c_ rfl h hn11
  (try dsimp only at h);unfold C4 at h;unfold J0;refine Aj ?_;refine Ab ?_;rcases Ad h with ⟨q14,h⟩ | ⟨q14,h⟩
  ·have q14_:=of_decide_eq_true q14;refine Af q14 ?_;refine Ai (tn_ ?_);refine wr_ ?_;refine Ab ?_;refine Al ?_;refine Ab ?_;obtain ⟨x17,e17,h⟩:=Ae h;refine Aa 8 ?_;refine rz0 (ai ((l11_m25:Nat):Int)) ?_;refine rs0 (.elt (oi 0 1) l11_m25 0) (zo (t:=.slice .int) (o:=oi 0 1) (len:=y10.length) (k:=.i64) (m:=((l11_m25:Nat):Int)) (Ay _) (Av e17)) ?_;refine rsl (.own (kid (oi 1 1) l11_m25) .int 0 x17.length) (F0 (o:=oi 0 1) (p:=oi 1 1) (e1:=66) (u:=.int) (xss:=y10) (row:=x17) (j:=l11_m25) (by kernel_rfl) (by kernel_rfl) e17) ?_;refine rsB 2 ?_;refine An (tn_ ?_);refine wr_ ?_;refine Ab ?_;obtain ⟨y19,h19,h⟩:=Ae h;obtain ⟨x20,e20,h⟩:=Ae h;obtain ⟨y21,h21,h⟩:=Ae h;obtain ⟨g22,h⟩:=Au h;refine A1 16 ?_;refine dz0 (.own (kid (oi 1 1) l11_m25) .int 0 x17.length) ?_;refine Da (.agg ((tyA 47).av (Fa 47 y19))) [] [.own (kid (oi 1 1) l11_m25) .int 0 x17.length] _ (caps:=[]) (args0:=[.tree .int x17]) trivial (Hy (Th (e:=3) (u:=.int) (xs:=x17) ((Ail (Anf (t:=.int) (off:=0) (len:=x17.length) 0 rfl (by kernel_rfl))).trans (Bo (by kernel_rfl) e17)) rfl) Xi) (Yb h19) X1 ?_;refine dz0 (.tree (.slice .int) a1) ?_;refine dz0 (ai ((l11_m25:Nat):Int)) ?_;refine ds0 (.telt none (.slice .int) x20 0) (zi (t:=.slice .int) (xs:=a1) (k:=.i64) (m:=((l11_m25:Nat):Int)) (Ay _) e20) ?_;refine dz0 (.tree .int x20) ?_;refine Da (.agg ((tyA 47).av (Fa 47 y21))) [] [.tree .int x20] _ (caps:=[]) (args0:=[.tree .int x20]) trivial (by kernel_rfl) (Yb h21) X1 ?_;refine ds0 (.bool (!(y19==y21))) (Awf (N:=47) (l:=y19) (l':=y21) (by kernel_rfl) (by kernel_rfl) g22) ?_;refine F2 (Bc (by kernel_rfl)) (tn_ ?_);refine wr_ ?_;rcases Ad h with ⟨q23,h⟩ | ⟨q23,h⟩
   ·refine Af q23 ?_;refine Aj ?_;refine Ah (br_ (tr_ (tr_ (br_ (tr_ ?_)))));obtain rfl:=zj h;have h:=hn11
    (try dsimp only at h);obtain rfl:=zj h;have h:=hk8
    (try dsimp only at h);obtain rfl:=zj h;exact A0 [.bool false] (Ap rfl zl As)
   refine Ag q23 ?_;refine Ai (bn_ (tn_ ?_));refine wr_ ?_;obtain ⟨g25,h⟩:=Au h;refine Aa 18 ?_;refine rs0 (ai ((l11_m25+1:Nat):Int)) (za g25) ?_;refine rsB 1 ?_;refine An (tn_ ?_);obtain rfl:=zj h;exact ⟨l11_m25+1,_,Ac [],rfl,hn11⟩
  have q14_:=of_decide_eq_false q14;refine Ag q14 ?_;refine Az (te_ (te_ (be_ (tn_ ?_))));obtain rfl:=zj h;have h:=hn11
  (try dsimp only at h);obtain rfl:=zj h;exact ⟨(),_,rfl,Ac [],rfl⟩
 rintro _ _ rfl h
 (try dsimp only at h);refine Ab ?_;obtain ⟨y27,h27,h⟩:=Ae h;refine Aa 11 ?_;refine rz0 (ai a0) ?_;refine rz0 (.tree (.slice .int) a1) ?_;refine rz0 (ai a2) ?_;refine Jq (.own (oi 672 5) (.slice .int) 0 y27.length) [(oi 672 5,some (.mat 66 (oi 673 5) .int y27)),(oi 673 5,some (.pool 3 .int y27))] [] [ai a0,.tree (.slice .int) a1,ai a2] (caps:=[]) trivial (Oe h27) Ou trivial (.cons (.ren (by kernel_rfl)) (.cons (.ren (by kernel_rfl)) (.cons (.ren (by kernel_rfl)) .nil))) (B8 (by kernel_rfl) (by kernel_rfl) trivial) ?_;refine rsB 5 ?_;refine An (tn_ ?_);refine wr_ ?_;refine Ah ?_;obtain rfl:=zj h;exact A0 [.bool (((y27.length:Nat):Int)==((a1.length:Nat):Int))] (Ap rfl zl As)
def L6:AC :=
 (.seq (rg [xo 3 (.i (.box 36 (tm 1))),xo 4 (qm (cb false))])
 (.seq (rg [xo 5 (qm (tm 0)),xo 6 (qc 55 [tm 5] [[]]),xo 7 (qm (tm 6)),⟨some 8,some (7,true),qf 0 (tm 3)⟩,⟨some 9,some (7,true),ql (tm 8)⟩,⟨some 10,some (7,true),qf 1 (tm 3)⟩,⟨some 11,some (7,true),ql (tm 10)⟩,⟨some 12,some (7,true),qc 56 [tm 9,tm 11] [[],[]]⟩,xo 13 (.i (.pick (tm 7) (tm 12) (cb false))),xo 14 (qm (tm 13)),⟨some 15,some (14,true),qm (tm 0)⟩,⟨some 16,some (14,true),qf 2 (tm 3)⟩,⟨some 17,some (14,true),ql (tm 16)⟩,⟨some 18,some (14,true),qf 0 (tm 3)⟩,⟨some 19,some (14,true),ql (tm 18)⟩,⟨some 20,some (14,true),qf 1 (tm 3)⟩,⟨some 21,some (14,true),ql (tm 20)⟩,⟨some 22,some (14,true),qb .add (tm 19) (tm 21)⟩,⟨some 23,some (14,true),qc 57 [tm 15,tm 17,tm 22] [[],[some (.slice .int)],[]]⟩,xo 24 (.i (.pick (tm 14) (tm 23) (cb false))),xo 4 (qm (tm 24))])
 .ret))
def Wj:List Res:=[.tmp 4]
theorem V6:Am Tryz.prog Tryz.f31=some (L6,Wj):=by kernel_rfl
theorem Ua:A5 Tryz.prog 31=true:=by kernel_rfl
def D5 (a0:Int) (a1_0:Int) (a1_1:Int) (a1_2:List (List Int)):Option Bool :=
 Option.bind (Option.bind (F9 a0) fun y3 =>
 cond y3
  (Option.bind (Je a1_0 a1_1) fun y5 =>
  cond y5
   (Option.bind (Ez a0 a1_2 (wI (a1_0+a1_1))) fun y7 =>
   some y7)
   (some false))
  (some false)) fun l2_m4 =>
some l2_m4
def Td (r:Bool):RV:=⟨false,[(false,[.sc (.bool r)])]⟩
theorem Sh {a0:Int} {a1_0:Int} {a1_1:Int} {a1_2:List (List Int)} {r:Bool} (h:D5 a0 a1_0 a1_1 a1_2=some r):Ax Tryz.prog Tab 31 [ai a0,.agg [ai a1_0,ai a1_1,.tree (.slice .int) a1_2]] (Td r):=by
 refine Ar (by kernel_rfl) Tryz.func31 V6 (n:=25) (by kernel_rfl) (by simp) (tl:=[(0,ai a0),(1,.agg [ai a1_0,ai a1_1,.tree (.slice .int) a1_2])]) rfl ?_;unfold L6;unfold D5 at h;refine Aj ?_;refine Aw h (fun (l2_m4:Bool) S_=>S_=⟨Ao [(4,.bool l2_m4)],Ak (Aq []),2⟩) ?_ ?_
 ·intro v_ h;obtain ⟨y3,h3,h⟩:=Ae h;rcases Ad h with ⟨q4,h⟩ | ⟨q4,h⟩
  ·obtain ⟨y5,h5,h⟩:=Ae h;rcases Ad h with ⟨q6,h⟩ | ⟨q6,h⟩
   ·obtain ⟨y7,h7,h⟩:=Ae h;refine Aa 24 ?_;refine rz0 (ai a0) ?_;refine zc (.bool y3) [] [ai a0] (Fl h3) ?_;refine rz0 (.bool y3) ?_;refine rs0 (.box (oi 3 1) 0) (zg q4) ?_;refine rsl (ai a1_0) (zg q4) ?_;refine rs0 (.box (oi 3 1) 1) (zg q4) ?_;refine rsl (ai a1_1) (zg q4) ?_;refine Bs (.bool y5) [] [ai a1_0,ai a1_1] _ (caps:=[]) (args0:=[ai a1_0,ai a1_1]) (Bf (by kernel_rfl) q4) (by kernel_rfl) (Ui h5) Vn ?_;refine rs0 (.bool y5) (zT q4) ?_;refine rz0 (.bool y5) ?_;refine rs0 (ai a0) (zg q6) ?_;refine rs0 (.box (oi 3 1) 2) (zg q6) ?_;refine rsl (.tree (.slice .int) a1_2) (zg q6) ?_;refine rs0 (.box (oi 3 1) 0) (zg q6) ?_;refine rsl (ai a1_0) (zg q6) ?_;refine rs0 (.box (oi 3 1) 1) (zg q6) ?_;refine rsl (ai a1_1) (zg q6) ?_;refine rs0 (ai (wI (a1_0+a1_1))) (zg q6) ?_;refine Bs (.bool y7) [] [ai a0,.tree (.slice .int) a1_2,ai (wI (a1_0+a1_1))] _ (caps:=[]) (args0:=[ai a0,.tree (.slice .int) a1_2,ai (wI (a1_0+a1_1))]) (Bf (by kernel_rfl) q6) (by kernel_rfl) (We h7) V2 ?_;refine rs0 (.bool y7) (zT q6) ?_;refine rsB 1 ?_;refine An (tn_ ?_);obtain rfl:=zj h;exact ⟨_,Ac [],rfl⟩
   refine Aa 24 ?_;refine rz0 (ai a0) ?_;refine zc (.bool y3) [] [ai a0] (Fl h3) ?_;refine rz0 (.bool y3) ?_;refine rs0 (.box (oi 3 1) 0) (zg q4) ?_;refine rsl (ai a1_0) (zg q4) ?_;refine rs0 (.box (oi 3 1) 1) (zg q4) ?_;refine rsl (ai a1_1) (zg q4) ?_;refine Bs (.bool y5) [] [ai a1_0,ai a1_1] _ (caps:=[]) (args0:=[ai a1_0,ai a1_1]) (Bf (by kernel_rfl) q4) (by kernel_rfl) (Ui h5) Vn ?_;refine rs0 (.bool y5) (zT q4) ?_;refine rz0 (.bool y5) ?_;refine zs q6 ?_;refine zs q6 ?_;refine zs q6 ?_;refine zs q6 ?_;refine zs q6 ?_;refine zs q6 ?_;refine zs q6 ?_;refine zs q6 ?_;refine zs q6 ?_;refine rs0 (.bool false) (zF q6) ?_;refine rsB 1 ?_;refine An (tn_ ?_);obtain rfl:=zj h;exact ⟨_,Ac [],rfl⟩
  refine Aa 24 ?_;refine rz0 (ai a0) ?_;refine zc (.bool y3) [] [ai a0] (Fl h3) ?_;refine rz0 (.bool y3) ?_;refine zs q4 ?_;refine zs q4 ?_;refine zs q4 ?_;refine zs q4 ?_;refine zs q4 ?_;refine rs0 (.bool false) (zF q4) ?_;refine rsB 12 ?_;refine An (tn_ ?_);obtain rfl:=zj h;exact ⟨_,Ac [],rfl⟩
 rintro l2_m4 _ rfl h
 (try dsimp only at h);refine Ah ?_;obtain rfl:=zj h;exact A0 [.bool l2_m4] (Ap rfl zl As)
end
end Go.Proofs.YtodopnonpadpfaaGreatDoor
