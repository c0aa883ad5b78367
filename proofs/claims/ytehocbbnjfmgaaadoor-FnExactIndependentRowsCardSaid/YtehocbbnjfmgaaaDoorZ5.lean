/- Lemmas on the program and on partial functions that stand in place of its code (part 5); no condition beyond those that each one states. -/
import Derived.Test.YtehocbbnjfmgaaaDoorZ4
import Derived.Shelf.SlicesE.Delete
namespace Go.Proofs.YtehocbbnjfmgaaaDoor
section
open Go.RowKit Go.Deep
set_option maxRecDepth 4000
def Lf:AC :=
 (.seq (.seq (rg [xo 6 (qm (tm 5)),xo 7 (qm (tm 0)),xo 8 (qb .lss (tm 6) (tm 7))])
 (.cond (tm 8)
  .skip
  (.exit 0)))
 (.seq (.block 1 (.seq (rg [xo 11 (qm (tm 1)),xo 12 (qm (tm 5)),xo 13 (qb .mul (tm 11) (tm 12)),xo 14 (qm (tm 0)),xo 15 (qb .rem (tm 13) (tm 14)),xo 16 (qb .eql (tm 15) (ci 1))])
 (.cond (tm 16)
  (.seq (rg [xo 17 (qm (tm 5)),xo 4 (qm (tm 17))])
  .ret)
  .skip)))
 (rg [xo 9 (qm (tm 5)),xo 10 (qb .add (tm 9) (ci 1)),xo 5 (qm (tm 10))])))
def Pd:AC :=
 (.seq (rg [xo 4 (qm (ci 0))])
 (.seq (.seq (rg [xo 5 (qm (ci 1))])
 (.block 0 (.loop Lf)))
 (.seq (rg [xo 4 (qm (ci 0))])
 .ret)))
def Zh:List Res:=[.tmp 4]
theorem Yr:Ap Tryd.prog Tryd.f52=some (Pd,Zh):=by kernel_rfl
def Ld (a0:Int) (a1:Int) (l4_m5:Nat):Option (Ctl Nat (Ctl Unit Int)) :=
 cond (decide (((l4_m5:Nat):Int)<a0))
 (og (a0≠0) <|
 cond ((Int.tmod (wI (a1*((l4_m5:Nat):Int))) a0)==1)
  (some (Ctl.out (Ctl.out ((l4_m5:Nat):Int))))
  (og (l4_m5+1<4611686018427387904) <|
  some (Ctl.next (l4_m5+1))))
 (some (Ctl.out (Ctl.next ())))
def Gp (a0:Int) (a1:Int):Option Int :=
 M9 (A1 (fun s_:Nat=>Ld a0 a1 s_) 4611686018427387904 1) fun _ =>
some 0
def V8 (r:Int):RV:=⟨false,[(false,[.sc (.int .i64 r)])]⟩
theorem Wq {a0:Int} {a1:Int} {r:Int} (h:Gp a0 a1=some r):A6 Tryd.prog Tab 52 [ai a0,ai a1] (V8 r):=by
 refine A5 (by kernel_rfl) Tryd.func52 Yr (n:=18) (by kernel_rfl) (by simp) (tl:=[(0,ai a0),(1,ai a1)]) rfl ?_;unfold Pd;unfold Gp at h;refine Am ?_;refine Ds h (fun (_:Unit) S_=>S_=⟨Al [],Af (Ao []),2⟩) ?_ ?_
 ·intro v_ h hk2;refine Am ?_;refine Ai ?_;refine Az h (fun (l4_m5:Nat) S_=>S_=⟨Al [(0,ai a0),(1,ai a1),(5,ai ((l4_m5:Nat):Int))],Af (Ao []),2⟩) ⟨_,Ac [],rfl⟩ ?_;rintro n_ l4_m5 _ c_ rfl h hn4
  (try dsimp only at h);unfold Ld at h;unfold Lf;refine Ab ?_;refine Am ?_;rcases Ad h with ⟨q7,h⟩ | ⟨q7,h⟩
  ·have q7_:=of_decide_eq_true q7;refine Ag q7 ?_;refine Aj (tn_ ?_);refine wr_ ?_;refine Ab ?_;refine Ai ?_;refine Ab ?_;obtain ⟨g10,h⟩:=Aq h;refine Aa 11 ?_;refine rz0 (ai a1) ?_;refine rz0 (ai ((l4_m5:Nat):Int)) ?_;refine rz0 (ai (wI (a1*((l4_m5:Nat):Int)))) ?_;refine rz0 (ai a0) ?_;refine rs0 (ai (Int.tmod (wI (a1*((l4_m5:Nat):Int))) a0)) (Lr (k:=.i64) (a:=wI (a1*((l4_m5:Nat):Int))) (b:=a0) (by kernel_rfl) (by kernel_rfl) g10) ?_;refine rsB 1 ?_;refine As (tn_ ?_);refine wr_ ?_;rcases Ad h with ⟨q11,h⟩ | ⟨q11,h⟩
   ·refine Ag q11 ?_;refine Am ?_;refine Ak (br_ (tr_ (tr_ (br_ (tr_ ?_)))));obtain rfl:=zj h;have h:=hn4
    (try dsimp only at h);obtain rfl:=zj h;have h:=hk2
    (try dsimp only at h);obtain rfl:=zj h;exact Bl [ai ((l4_m5:Nat):Int)] (A7 rfl zl A8)
   refine Ah q11 ?_;refine Aj (bn_ (tn_ ?_));refine wr_ ?_;obtain ⟨g13,h⟩:=Aq h;refine Aa 14 ?_;refine rz0 (ai ((l4_m5:Nat):Int)) ?_;refine rs0 (ai ((l4_m5+1:Nat):Int)) (za g13) ?_;refine rsB 1 ?_;refine As (tn_ ?_);obtain rfl:=zj h;exact ⟨l4_m5+1,_,Ac [],rfl,hn4⟩
  have q7_:=of_decide_eq_false q7;refine Ah q7 ?_;refine Ax (te_ (te_ (be_ (tn_ ?_))));obtain rfl:=zj h;have h:=hn4
  (try dsimp only at h);obtain rfl:=zj h;exact ⟨(),_,rfl,Ac [],rfl⟩
 rintro _ _ rfl h
 (try dsimp only at h);refine Am ?_;refine Ak ?_;obtain rfl:=zj h;exact Bl [ai 0] (A7 rfl zl A8)
def O8:AC :=
 (.seq (rg [xo 6 (qm (ci 0))])
 (.seq (rg [xo 7 (qm (tm 1)),xo 8 (qm (tm 0)),xo 9 (qb .add (tm 7) (tm 8)),xo 10 (qm (tm 2)),xo 11 (qb .sub (tm 9) (tm 10)),xo 12 (qm (tm 0)),xo 13 (qb .rem (tm 11) (tm 12)),xo 6 (qm (tm 13))])
 .ret))
def Zk:List Res:=[.tmp 6]
theorem Yj:Ap Tryd.prog Tryd.f54=some (O8,Zk):=by kernel_rfl
theorem Wz:A2 Tryd.prog 54=true:=by kernel_rfl
def Gw (a0:Int) (a1:Int) (a2:Int):Option Int :=
 og (a0≠0) <|
some (Int.tmod (wI ((wI (a1+a0)) - a2)) a0)
def Vv (r:Int):RV:=⟨false,[(false,[.sc (.int .i64 r)])]⟩
theorem Wf {a0:Int} {a1:Int} {a2:Int} {r:Int} (h:Gw a0 a1 a2=some r):A6 Tryd.prog Tab 54 [ai a0,ai a1,ai a2] (Vv r):=by
 refine A5 (by kernel_rfl) Tryd.func54 Yj (n:=14) (by kernel_rfl) (by simp) (tl:=[(0,ai a0),(1,ai a1),(2,ai a2)]) rfl ?_;unfold O8;unfold Gw at h;refine Am ?_;refine Ab ?_;obtain ⟨g3,h⟩:=Aq h;refine Aa 10 ?_;refine rz0 (ai a1) ?_;refine rz0 (ai a0) ?_;refine rz0 (ai (wI (a1+a0))) ?_;refine rz0 (ai a2) ?_;refine rz0 (ai (wI ((wI (a1+a0)) - a2))) ?_;refine rz0 (ai a0) ?_;refine rs0 (ai (Int.tmod (wI ((wI (a1+a0)) - a2)) a0)) (Lr (k:=.i64) (a:=wI ((wI (a1+a0)) - a2)) (b:=a0) (by kernel_rfl) (by kernel_rfl) g3) ?_;refine rsB 1 ?_;refine As (tn_ ?_);refine wr_ ?_;refine Ak ?_;obtain rfl:=zj h;exact Bl [ai (Int.tmod (wI ((wI (a1+a0)) - a2)) a0)] (A7 rfl zl A8)
def Iv:AC :=
 (.seq (rg [xo 143 (qb .lss (tm 142) (tm 141))])
 (.seq (.cond (tm 143)
  .skip
  (.exit 10))
 (.seq (.block 11 (.seq (rg [xo 144 (qm (tm 142)),xo 18 (qm (tm 144))])
 (.region [xo 145 (qm (tm 7)),xo 146 (qm (tm 16)),xo 147 (qx 1 (tm 145) (tm 146)),xo 148 (ql (tm 147)),xo 149 (qm (tm 18)),xo 150 (qm (tm 0)),xo 151 (qm (tm 7)),xo 152 (qm (tm 16)),xo 153 (qx 1 (tm 151) (tm 152)),xo 154 (ql (tm 153)),xo 155 (qm (tm 18)),xo 156 (qx 1 (tm 154) (tm 155)),xo 157 (ql (tm 156)),xo 158 (qm (tm 0)),xo 159 (qm (tm 17)),xo 160 (qm (tm 7)),xo 161 (qm (tm 10)),xo 162 (qx 1 (tm 160) (tm 161)),xo 163 (ql (tm 162)),xo 164 (qm (tm 18)),xo 165 (qx 1 (tm 163) (tm 164)),xo 166 (ql (tm 165)),xo 167 (qc 53 [tm 158,tm 159,tm 166] [[],[],[]]),xo 168 (qc 54 [tm 150,tm 157,tm 167] [[],[],[]]),xo 169 (qx 1 (tm 148) (tm 149)),xn (qs (tm 169) (tm 168))] true [(3,22),(9,22),(12,22),(3,23)])))
 (rg [xo 170 (qb .add (tm 142) (ci 1)),xo 142 (qm (tm 170))]))))
def Il:AC :=
 (.seq (rg [xo 115 (qb .lss (tm 114) (tm 113))])
 (.seq (.cond (tm 115)
  .skip
  (.exit 8))
 (.seq (.block 9 (.seq (rg [xo 116 (qm (tm 114)),xo 16 (qm (tm 116))])
 (.seq (.seq (rg [xo 117 (qm (tm 16)),xo 118 (qm (tm 10)),xo 119 (qb .eql (tm 117) (tm 118)),xo 120 (qm (tm 119)),⟨some 121,some (120,false),qm (tm 7)⟩,⟨some 122,some (120,false),qm (tm 16)⟩,⟨some 123,some (120,false),qx 1 (tm 121) (tm 122)⟩,⟨some 124,some (120,false),ql (tm 123)⟩,⟨some 125,some (120,false),qm (tm 11)⟩,⟨some 126,some (120,false),qx 1 (tm 124) (tm 125)⟩,⟨some 127,some (120,false),ql (tm 126)⟩,⟨some 128,some (120,false),qb .eql (tm 127) (ci 0)⟩,xo 129 (.i (.pick (tm 120) (cb true) (tm 128)))])
 (.cond (tm 129)
  (.exit 9)
  .skip))
 (.seq (rg [xo 130 (qm (tm 7)),xo 131 (qm (tm 16)),xo 132 (qx 1 (tm 130) (tm 131)),xo 133 (ql (tm 132)),xo 134 (qm (tm 11)),xo 135 (qx 1 (tm 133) (tm 134)),xo 136 (ql (tm 135)),xo 17 (qm (tm 136))])
 (.seq (rg [xo 137 (qm (tm 7)),xo 138 (qm (tm 16)),xo 139 (qx 1 (tm 137) (tm 138)),xo 140 (ql (tm 139)),xo 141 (.i (.len (tm 140))),xo 142 (qm (ci 0))])
 (.block 10 (.loop Iv)))))))
 (rg [xo 171 (qb .add (tm 114) (ci 1)),xo 114 (qm (tm 171))]))))
def Je:AC :=
 (.seq (rg [xo 93 (qb .lss (tm 92) (tm 91))])
 (.seq (.cond (tm 93)
  .skip
  (.exit 6))
 (.seq (.block 7 (.seq (rg [xo 94 (qm (tm 92)),xo 15 (qm (tm 94))])
 (.region [xo 95 (qm (tm 7)),xo 96 (qm (tm 10)),xo 97 (qx 1 (tm 95) (tm 96)),xo 98 (ql (tm 97)),xo 99 (qm (tm 15)),xo 100 (qm (tm 0)),xo 101 (qm (tm 7)),xo 102 (qm (tm 10)),xo 103 (qx 1 (tm 101) (tm 102)),xo 104 (ql (tm 103)),xo 105 (qm (tm 15)),xo 106 (qx 1 (tm 104) (tm 105)),xo 107 (ql (tm 106)),xo 108 (qm (tm 14)),xo 109 (qc 53 [tm 100,tm 107,tm 108] [[],[],[]]),xo 110 (qx 1 (tm 98) (tm 99)),xn (qs (tm 110) (tm 109))] true [(3,14)])))
 (rg [xo 111 (qb .add (tm 92) (ci 1)),xo 92 (qm (tm 111))]))))
def It:AC :=
 (.seq (.seq (rg [xo 43 (qm (tm 12)),xo 44 (qm (tm 7)),xo 45 (.i (.len (tm 44))),xo 46 (qb .lss (tm 43) (tm 45)),xo 47 (qm (tm 46)),⟨some 48,some (47,true),qm (tm 7)⟩,⟨some 49,some (47,true),qm (tm 12)⟩,⟨some 50,some (47,true),qx 1 (tm 48) (tm 49)⟩,⟨some 51,some (47,true),ql (tm 50)⟩,⟨some 52,some (47,true),qm (tm 11)⟩,⟨some 53,some (47,true),qx 1 (tm 51) (tm 52)⟩,⟨some 54,some (47,true),ql (tm 53)⟩,⟨some 55,some (47,true),qb .eql (tm 54) (ci 0)⟩,xo 56 (.i (.pick (tm 47) (tm 55) (cb false)))])
 (.cond (tm 56)
  .skip
  (.exit 4)))
 (.block 5 (rg [xo 57 (qm (tm 12)),xo 58 (qb .add (tm 57) (ci 1)),xo 12 (qm (tm 58))])))
def I7:AC :=
 (.seq (.seq (rg [xo 31 (qm (tm 11)),xo 32 (qm (tm 1)),xo 33 (qb .lss (tm 31) (tm 32)),xo 34 (qm (tm 33)),⟨some 35,some (34,true),qm (tm 10)⟩,⟨some 36,some (34,true),qm (tm 7)⟩,⟨some 37,some (34,true),.i (.len (tm 36))⟩,⟨some 38,some (34,true),qb .lss (tm 35) (tm 37)⟩,xo 39 (.i (.pick (tm 34) (tm 38) (cb false)))])
 (.cond (tm 39)
  .skip
  (.exit 2)))
 (.seq (.block 3 (.seq (rg [xo 42 (qm (tm 10)),xo 12 (qm (tm 42))])
 (.seq (.block 4 (.loop It))
 (.seq (.seq (rg [xo 59 (qm (tm 12)),xo 60 (qm (tm 7)),xo 61 (.i (.len (tm 60))),xo 62 (qb .eql (tm 59) (tm 61))])
 (.cond (tm 62)
  (.exit 3)
  .skip))
 (.seq (rg [xo 63 (qm (tm 7)),xo 64 (qm (tm 10)),xo 65 (qx 1 (tm 63) (tm 64)),xo 66 (ql (tm 65)),xo 13 (qm (tm 66))])
 (.seq (rg [xo 67 (qm (tm 7)),xo 68 (qm (tm 10)),xo 69 (qm (tm 7)),xo 70 (qm (tm 12)),xo 71 (qx 1 (tm 69) (tm 70)),xo 72 (ql (tm 71)),xo 73 (qx 1 (tm 67) (tm 68)),xn (qs (tm 73) (tm 72))])
 (.seq (rg [xo 74 (qm (tm 7)),xo 75 (qm (tm 12)),xo 76 (qm (tm 13)),xo 77 (qx 1 (tm 74) (tm 75)),xn (qs (tm 77) (tm 76))])
 (.seq (rg [xo 78 (qm (tm 0)),xo 79 (qm (tm 7)),xo 80 (qm (tm 10)),xo 81 (qx 1 (tm 79) (tm 80)),xo 82 (ql (tm 81)),xo 83 (qm (tm 11)),xo 84 (qx 1 (tm 82) (tm 83)),xo 85 (ql (tm 84)),xo 86 (qc 52 [tm 78,tm 85] [[],[]]),xo 14 (qm (tm 86))])
 (.seq (.seq (rg [xo 87 (qm (tm 7)),xo 88 (qm (tm 10)),xo 89 (qx 1 (tm 87) (tm 88)),xo 90 (ql (tm 89)),xo 91 (.i (.len (tm 90))),xo 92 (qm (ci 0))])
 (.block 6 (.loop Je)))
 (.seq (.seq (rg [xo 112 (qm (tm 7)),xo 113 (.i (.len (tm 112))),xo 114 (qm (ci 0))])
 (.block 8 (.loop Il)))
 (rg [xo 172 (qm (tm 10)),xo 173 (qb .add (tm 172) (ci 1)),xo 10 (qm (tm 173))])))))))))))
 (rg [xo 40 (qm (tm 11)),xo 41 (qb .add (tm 40) (ci 1)),xo 11 (qm (tm 41))])))
def Iy:AC :=
 (.seq (rg [xo 22 (qb .lss (tm 21) (tm 20))])
 (.seq (.cond (tm 22)
  .skip
  (.exit 0))
 (.seq (.block 1 (.seq (rg [xo 23 (qx 1 (tm 19) (tm 21)),xo 24 (ql (tm 23)),xo 9 (qm (tm 24))])
 (rg [xo 25 (qm (tm 7)),xo 26 (qm (tm 9)),xo 27 (qc 24 [tm 26] [[some .int]]),xo 28 (.mkV 39 (.slice .int) 1 [tm 27]),xo 29 (.appV 39 (.slice .int) 24 (tm 25) (tm 28)),xo 7 (qm (tm 29))])))
 (rg [xo 30 (qb .add (tm 21) (ci 1)),xo 21 (qm (tm 30))]))))
def Lc:AC :=
 (.seq (rg [xo 6 (qm (.cst .nils))])
 (.seq (rg [xo 7 (qm (.cst .nils))])
 (.seq (.seq (rg [xo 19 (qm (tm 2)),xo 20 (.i (.len (tm 19))),xo 21 (qm (ci 0))])
 (.block 0 (.loop Iy)))
 (.seq (rg [xo 10 (qm (ci 0))])
 (.seq (.seq (rg [xo 11 (qm (ci 0))])
 (.block 2 (.loop I7)))
 (.seq (rg [xo 174 (qm (tm 7)),xo 175 (qm (tm 10)),xo 176 (.slice 1 (tm 174) none (some (tm 175)) none),xo 6 (qm (tm 176))])
 .ret))))))
def R9:List Res:=[.tmp 6]
theorem Sg:Ap Tryd.prog Tryd.f27=some (Lc,R9):=by kernel_rfl
theorem P8:A2 Tryd.prog 27=true:=by kernel_rfl
def Ca (a2:List (List Int)) (l6_m21:Nat) (l6_m7:List (List Int)):Option (Ctl (Nat×List (List Int)) (List (List Int))) :=
 cond (decide (((l6_m21:Nat):Int)<((a2.length:Nat):Int)))
 (Option.bind (a2[l6_m21]?) fun x12 =>
 Option.bind (Fl x12) fun y13 =>
 og (l6_m7.length+1<=1073741824∧(l6_m7.length+1)*24<=140737488355328) <|
 og (l6_m21+1<4611686018427387904) <|
 some (Ctl.next (l6_m21+1,l6_m7++[y13])))
 (some (Ctl.out l6_m7))
def Cc (l19_m7:List (List Int)) (l19_m11:Nat) (l27_m12:Nat):Option (Ctl Nat Nat) :=
 Option.bind (cond (decide (((l27_m12:Nat):Int)<((l19_m7.length:Nat):Int)))
  (Option.bind (l19_m7[l27_m12]?) fun x31 =>
  Option.bind (x31[l19_m11]?) fun x32 =>
  some (x32==0))
  (some false)) fun l29_m56 =>
cond l29_m56
 (og (l27_m12+1<4611686018427387904) <|
 some (Ctl.next (l27_m12+1)))
 (some (Ctl.out l27_m12))
def C3 (x44:List Int) (l19_m10:Nat) (a0:Int) (y46:Int) (l49_m92:Nat) (l49_m7:List (List Int)):Option (Ctl (Nat×List (List Int)) (List (List Int))) :=
 cond (decide (((l49_m92:Nat):Int)<((x44.length:Nat):Int)))
 (Option.bind (l49_m7[l19_m10]?) fun x55 =>
 Option.bind (x55[l49_m92]?) fun x56 =>
 Option.bind (Fr a0 x56 y46) fun y57 =>
 og (l49_m92+1<4611686018427387904) <|
 some (Ctl.next (l49_m92+1,l49_m7.set l19_m10 (x55.set l49_m92 y57))))
 (some (Ctl.out l49_m7))
def C6 (x74:List Int) (l61_m114:Nat) (l19_m10:Nat) (a0:Int) (x75:Int) (l77_m142:Nat) (l77_m7:List (List Int)):Option (Ctl (Nat×List (List Int)) (List (List Int))) :=
 cond (decide (((l77_m142:Nat):Int)<((x74.length:Nat):Int)))
 (Option.bind (l77_m7[l61_m114]?) fun x83 =>
 Option.bind (x83[l77_m142]?) fun x84 =>
 Option.bind (l77_m7[l19_m10]?) fun x85 =>
 Option.bind (x85[l77_m142]?) fun x86 =>
 Option.bind (Fr a0 x75 x86) fun y87 =>
 Option.bind (Gw a0 x84 y87) fun y88 =>
 og (l77_m142+1<4611686018427387904) <|
 some (Ctl.next (l77_m142+1,l77_m7.set l61_m114 (x83.set l77_m142 y88))))
 (some (Ctl.out l77_m7))
def C1 (l47_m7:List (List Int)) (l19_m10:Nat) (l19_m11:Nat) (a0:Int) (l61_m114:Nat) (l61_m7:List (List Int)):Option (Ctl (Nat×List (List Int)) (List (List Int))) :=
 cond (decide (((l61_m114:Nat):Int)<((l47_m7.length:Nat):Int)))
 (Option.bind (Option.bind (cond (((l61_m114:Nat):Int)==((l19_m10:Nat):Int))
       (some true)
       (Option.bind (l61_m7[l61_m114]?) fun x70 =>
       Option.bind (x70[l19_m11]?) fun x71 =>
       some (x71==0))) fun l68_m129 =>
  cond l68_m129
   (some l61_m7)
   (Option.bind (l61_m7[l61_m114]?) fun x74 =>
   Option.bind (x74[l19_m11]?) fun x75 =>
   A1 (fun s_:Nat×List (List Int)=>C6 x74 l61_m114 l19_m10 a0 x75 s_.1 s_.2) 4611686018427387904 (0,l61_m7))) fun l65_m7 =>
 og (l61_m114+1<4611686018427387904) <|
 some (Ctl.next (l61_m114+1,l65_m7)))
 (some (Ctl.out l61_m7))
def Bw (a1:Int) (a0:Int) (l19_m10:Nat) (l19_m11:Nat) (l19_m7:List (List Int)):Option (Ctl (Nat×Nat×List (List Int)) (Nat×List (List Int))) :=
 Option.bind (cond (decide (((l19_m11:Nat):Int)<a1))
  (some (decide (((l19_m10:Nat):Int)<((l19_m7.length:Nat):Int))))
  (some false)) fun l21_m39 =>
cond l21_m39
 (Option.bind (Option.bind (A1 (fun s_:Nat=>Cc l19_m7 l19_m11 s_) 4611686018427387904 l19_m10) fun l26_m12 =>
  cond (((l26_m12:Nat):Int)==((l19_m7.length:Nat):Int))
   (some (l19_m10,l19_m7))
   (Option.bind (l19_m7[l19_m10]?) fun x39 =>
   Option.bind (l19_m7[l26_m12]?) fun x41 =>
   Option.bind (((l19_m7.set l19_m10 x41).set l26_m12 x39)[l19_m10]?) fun x44 =>
   Option.bind (x44[l19_m11]?) fun x45 =>
   Option.bind (Gp a0 x45) fun y46 =>
   Option.bind (A1 (fun s_:Nat×List (List Int)=>C3 x44 l19_m10 a0 y46 s_.1 s_.2) 4611686018427387904 (0,(l19_m7.set l19_m10 x41).set l26_m12 x39)) fun l47_m7 =>
   Option.bind (A1 (fun s_:Nat×List (List Int)=>C1 l47_m7 l19_m10 l19_m11 a0 s_.1 s_.2) 4611686018427387904 (0,l47_m7)) fun l59_m7 =>
   og (l19_m10+1<4611686018427387904) <|
   some (l19_m10+1,l59_m7))) fun (l24_m10,l24_m7) =>
 og (l19_m11+1<4611686018427387904) <|
 some (Ctl.next (l24_m10,l19_m11+1,l24_m7)))
 (some (Ctl.out (l19_m10,l19_m7)))
def Ei (a0:Int) (a1:Int) (a2:List (List Int)):Option (List (List Int)) :=
 Option.bind (A1 (fun s_:Nat×List (List Int)=>Ca a2 s_.1 s_.2) 4611686018427387904 (0,([]:List (List Int)))) fun l4_m7 =>
Option.bind (A1 (fun s_:Nat×Nat×List (List Int)=>Bw a1 a0 s_.1 s_.2.1 s_.2.2) 4611686018427387904 (0,0,l4_m7)) fun (l17_m10,l17_m7) =>
og ((0:Int)<=0∧0<=((l17_m10:Nat):Int)∧((l17_m10:Nat):Int)<=((l17_m7.length:Nat):Int)) <|
some (l17_m7.take l17_m10)
theorem P9 {a0:Int} {a1:Int} {a2:List (List Int)} {r:List (List Int)} (h:Ei a0 a1 a2=some r):Eg Tryd.prog Tab 27 [ai a0,ai a1,.tree (.slice .int) a2] [] (.own (oi 0 1) (.slice .int) 0 r.length) [(oi 0 1,.mat 39 (oi 1 1) .int r),(oi 1 1,.pool 3 .int r)]:=by
 refine Cn (by kernel_rfl) Tryd.func27 Sg (n:=177) (by kernel_rfl) (by simp) (tl:=[(0,ai a0),(1,ai a1),(2,.tree (.slice .int) a2)]) rfl (by kernel_rfl) trivial ⟨⟨3,.tail _ (.head _)⟩,⟨trivial,trivial⟩⟩ ?_;unfold Lc;unfold Ei at h;refine Am ?_;refine Am ?_;refine Ay h (fun (l4_m7:List (List Int)) S_=>S_=⟨Al [(0,ai a0),(1,ai a1),(7,.own (oi 0 1) (.slice .int) 0 l4_m7.length)],Af (Ao [(oi 0 1,.mat 39 (oi 1 1) .int l4_m7),(oi 1 1,.pool 3 .int l4_m7)]),2⟩) ?_ ?_
 ·intro v_ h;refine Am ?_;refine Ai ?_;refine Az h (fun t_ S_=>∃ (l6_m21:Nat),∃ (l6_m7:List (List Int)),t_=(l6_m21,l6_m7)∧S_=⟨Al [(0,ai a0),(1,ai a1),(7,.own (oi 0 1) (.slice .int) 0 l6_m7.length),(19,.tree (.slice .int) a2),(20,ai ((a2.length:Nat):Int)),(21,ai ((l6_m21:Nat):Int))],Af (Ao [(oi 0 1,.mat 39 (oi 1 1) .int l6_m7),(oi 1 1,.pool 3 .int l6_m7)]),2⟩) ⟨_,(Te 7 39 (.slice .int) (by kernel_rfl)).trans ((Oe (e1:=39) (n:=0) 9000 (oi 7 6) 3 .int (by kernel_rfl) (by kernel_rfl) rfl (by kernel_rfl) (by kernel_rfl)).trans (Ac [(oi 0 1,oi 7 6),(oi 1 1,oi 9000 7)])),⟨0,([]:List (List Int)),rfl,rfl⟩⟩ ?_;rintro n_ _ _ c_ ⟨l6_m21,l6_m7,rfl,rfl⟩ h hn6
  (try dsimp only at h);unfold Ca at h;unfold Iy;refine Am ?_;refine Ab ?_;rcases Ad h with ⟨q9,h⟩ | ⟨q9,h⟩
  ·have q9_:=of_decide_eq_true q9;refine Ag q9 ?_;refine Aj (tn_ ?_);refine wr_ ?_;refine Ab ?_;refine Ai ?_;refine Ab ?_;obtain ⟨x12,e12,h⟩:=Ae h;refine Aa 6 ?_;refine rs0 (.telt none (.slice .int) x12 0) (zi (t:=.slice .int) (xs:=a2) (k:=.i64) (m:=((l6_m21:Nat):Int)) (A0 _) e12) ?_;refine rsB 2 ?_;refine As (tn_ ?_);refine wr_ ?_;obtain ⟨y13,h13,h⟩:=Ae h;obtain ⟨g14,h⟩:=Aq h;refine Aa 12 ?_;refine rz0 (.own (oi 0 1) (.slice .int) 0 l6_m7.length) ?_;refine rz0 (.tree .int x12) ?_;refine zc (.own (oi 432 8) .int 0 y13.length) [(oi 432 8,some (.arr 3 .int y13))] [.tree .int x12] (Nl h13) ?_;refine Akk (.own (oi 28 9) (.slice .int) 0 1) (oi 28 9) (.vec 39 1 1 ([.own (oi 432 8) .int 0 y13.length])) trivial (Aer (by kernel_rfl)) ?_;refine rs2 (.own (oi 0 10) (.slice .int) 0 (l6_m7.length+1)) (oi 0 1) (oi 0 10) (.vec 39 1 (l6_m7.length+1) (hdL (oi 1 1) .int l6_m7++[.own (oi 432 8) .int 0 y13.length])) (Y9 (u:=.int) (t':=.slice .int) (t2:=.slice .int) (o:=oi 0 1) (q:=oi 28 9) (e2:=39) (p:=oi 1 1) (xss:=l6_m7) (cs:=[.own (oi 432 8) .int 0 y13.length]) (len:=l6_m7.length) (by kernel_rfl) (by kernel_rfl) rfl (by kernel_rfl) (by kernel_rfl) rfl g14) ?_;refine rsB 1 ?_;refine As (bn_ (tn_ ?_));refine ⟨_,Q8 (e1:=39) (e:=3) (u:=.int) (n:=l6_m7.length+1) (len:=y13.length) (row:=y13) (ys:=y13) (xss:=l6_m7) 9000 (oi 0 10) (oi 1 1) (oi 432 8) (by kernel_rfl) (by kernel_rfl) rfl (by kernel_rfl) (by kernel_rfl) (Ad7 rfl) (Aep rfl) (by kernel_rfl) (by kernel_rfl) (by kernel_rfl),?_⟩;obtain ⟨g15,h⟩:=Aq h;refine Aa 15 ?_;refine rs0 (ai ((l6_m21+1:Nat):Int)) (za g15) ?_;refine rsB 1 ?_;refine As (tn_ ?_);obtain rfl:=zj h;exact ⟨(l6_m21+1,l6_m7++[y13]),_,(Bn 7 (.own (oi 0 10) (.slice .int) 0 (l6_m7.length+1)) (.own (oi 0 10) (.slice .int) 0 ((l6_m7++[y13]).length)) (by kernel_rfl) (congrArg (fun z_=>((.own (oi 0 10) (.slice .int) 0 z_):AV)) ((by simp):l6_m7.length+1=(l6_m7++[y13]).length))).trans (Ac [(oi 0 1,oi 0 10),(oi 1 1,oi 9000 12)]),⟨l6_m21+1,l6_m7++[y13],rfl,rfl⟩,hn6⟩
  have q9_:=of_decide_eq_false q9;refine Ah q9 ?_;refine Ax (te_ (te_ (be_ (tn_ ?_))));obtain rfl:=zj h;have h:=hn6
  (try dsimp only at h);obtain rfl:=zj h;exact ⟨_,Ac [],rfl⟩
 rintro l4_m7 _ rfl h
 (try dsimp only at h);refine Am ?_;refine Ay h (fun t_ S_=>∃ (l17_m10:Nat),∃ (l17_m7:List (List Int)),t_=(l17_m10,l17_m7)∧S_=⟨Al [(7,.own (oi 0 1) (.slice .int) 0 l17_m7.length),(10,ai ((l17_m10:Nat):Int))],Af (Ao [(oi 0 1,.mat 39 (oi 1 1) .int l17_m7),(oi 1 1,.pool 3 .int l17_m7)]),2⟩) ?_ ?_
 ·intro v_ h;refine Am ?_;refine Ai ?_;refine Az h (fun t_ S_=>∃ (l19_m10:Nat),∃ (l19_m11:Nat),∃ (l19_m7:List (List Int)),t_=(l19_m10,l19_m11,l19_m7)∧S_=⟨Al [(0,ai a0),(1,ai a1),(7,.own (oi 0 1) (.slice .int) 0 l19_m7.length),(10,ai ((l19_m10:Nat):Int)),(11,ai ((l19_m11:Nat):Int))],Af (Ao [(oi 0 1,.mat 39 (oi 1 1) .int l19_m7),(oi 1 1,.pool 3 .int l19_m7)]),2⟩) ⟨_,Ac [],⟨0,0,l4_m7,rfl,rfl⟩⟩ ?_;rintro n_ _ _ c_ ⟨l19_m10,l19_m11,l19_m7,rfl,rfl⟩ h hn19
  (try dsimp only at h);unfold Bw at h;unfold I7;refine Ab ?_;refine Ay h (fun (l21_m39:Bool) S_=>S_=⟨Al [(0,ai a0),(1,ai a1),(7,.own (oi 0 1) (.slice .int) 0 l19_m7.length),(10,ai ((l19_m10:Nat):Int)),(11,ai ((l19_m11:Nat):Int)),(39,.bool l21_m39)],Af (Ao [(oi 0 1,.mat 39 (oi 1 1) .int l19_m7),(oi 1 1,.pool 3 .int l19_m7)]),2⟩) ?_ ?_
  ·intro v_ h;rcases Ad h with ⟨q22,h⟩ | ⟨q22,h⟩
   ·have q22_:=of_decide_eq_true q22;refine Aa 11 ?_;refine rz0 (ai ((l19_m11:Nat):Int)) ?_;refine rz0 (ai a1) ?_;refine rz0 (.bool (decide (((l19_m11:Nat):Int)<a1))) ?_;refine rz0 (.bool (decide (((l19_m11:Nat):Int)<a1))) ?_;refine rs0 (ai ((l19_m10:Nat):Int)) (zg q22) ?_;refine rs0 (.own (oi 0 1) (.slice .int) 0 l19_m7.length) (zg q22) ?_;refine rs0 (ai ((l19_m7.length:Nat):Int)) (zg q22) ?_;refine rs0 (.bool (decide (((l19_m10:Nat):Int)<((l19_m7.length:Nat):Int)))) (zg q22) ?_;refine rs0 (.bool (decide (((l19_m10:Nat):Int)<((l19_m7.length:Nat):Int)))) (zT q22) ?_;refine As (tn_ ?_);obtain rfl:=zj h;exact ⟨_,Ac [],rfl⟩
   have q22_:=of_decide_eq_false q22;refine Aa 11 ?_;refine rz0 (ai ((l19_m11:Nat):Int)) ?_;refine rz0 (ai a1) ?_;refine rz0 (.bool (decide (((l19_m11:Nat):Int)<a1))) ?_;refine rz0 (.bool (decide (((l19_m11:Nat):Int)<a1))) ?_;refine zs q22 ?_;refine zs q22 ?_;refine zs q22 ?_;refine zs q22 ?_;refine rs0 (.bool false) (zF q22) ?_;refine As (tn_ ?_);obtain rfl:=zj h;exact ⟨_,Ac [],rfl⟩
  rintro l21_m39 _ rfl h
  (try dsimp only at h);rcases Ad h with ⟨q23,h⟩ | ⟨q23,h⟩
  ·refine Ag q23 ?_;refine Aj (tn_ ?_);refine wr_ ?_;refine Ay h (fun t_ S_=>∃ (l24_m10:Nat),∃ (l24_m7:List (List Int)),t_=(l24_m10,l24_m7)∧S_=⟨Al [(0,ai a0),(1,ai a1),(7,.own (oi 0 1) (.slice .int) 0 l24_m7.length),(10,ai ((l24_m10:Nat):Int)),(11,ai ((l19_m11:Nat):Int))],Af (Ao [(oi 0 1,.mat 39 (oi 1 1) .int l24_m7),(oi 1 1,.pool 3 .int l24_m7)]),2⟩) ?_ ?_
   ·intro v_ h;refine Ai ?_;refine Am ?_;refine Ay h (fun (l26_m12:Nat) S_=>S_=⟨Al [(0,ai a0),(1,ai a1),(7,.own (oi 0 1) (.slice .int) 0 l19_m7.length),(10,ai ((l19_m10:Nat):Int)),(11,ai ((l19_m11:Nat):Int)),(12,ai ((l26_m12:Nat):Int))],Af (Ao [(oi 0 1,.mat 39 (oi 1 1) .int l19_m7),(oi 1 1,.pool 3 .int l19_m7)]),2⟩) ?_ ?_
    ·intro v_ h;refine Ai ?_;refine Az h (fun (l27_m12:Nat) S_=>S_=⟨Al [(0,ai a0),(1,ai a1),(7,.own (oi 0 1) (.slice .int) 0 l19_m7.length),(10,ai ((l19_m10:Nat):Int)),(11,ai ((l19_m11:Nat):Int)),(12,ai ((l27_m12:Nat):Int))],Af (Ao [(oi 0 1,.mat 39 (oi 1 1) .int l19_m7),(oi 1 1,.pool 3 .int l19_m7)]),2⟩) ⟨_,Ac [],rfl⟩ ?_;rintro n_ l27_m12 _ c_ rfl h hn27
     (try dsimp only at h);unfold Cc at h;unfold It;refine Ab ?_;refine Ay h (fun (l29_m56:Bool) S_=>S_=⟨Al [(0,ai a0),(1,ai a1),(7,.own (oi 0 1) (.slice .int) 0 l19_m7.length),(10,ai ((l19_m10:Nat):Int)),(11,ai ((l19_m11:Nat):Int)),(12,ai ((l27_m12:Nat):Int)),(56,.bool l29_m56)],Af (Ao [(oi 0 1,.mat 39 (oi 1 1) .int l19_m7),(oi 1 1,.pool 3 .int l19_m7)]),2⟩) ?_ ?_
     ·intro v_ h;rcases Ad h with ⟨q30,h⟩ | ⟨q30,h⟩
      ·have q30_:=of_decide_eq_true q30;obtain ⟨x31,e31,h⟩:=Ae h;obtain ⟨x32,e32,h⟩:=Ae h;refine Aa 16 ?_;refine rz0 (ai ((l27_m12:Nat):Int)) ?_;refine rz0 (.own (oi 0 1) (.slice .int) 0 l19_m7.length) ?_;refine rz0 (ai ((l19_m7.length:Nat):Int)) ?_;refine rz0 (.bool (decide (((l27_m12:Nat):Int)<((l19_m7.length:Nat):Int)))) ?_;refine rz0 (.bool (decide (((l27_m12:Nat):Int)<((l19_m7.length:Nat):Int)))) ?_;refine rs0 (.own (oi 0 1) (.slice .int) 0 l19_m7.length) (zg q30) ?_;refine rs0 (ai ((l27_m12:Nat):Int)) (zg q30) ?_;refine rs0 (.elt (oi 0 1) l27_m12 0) (Lp (by kernel_rfl) q30 (zo (t:=.slice .int) (o:=oi 0 1) (len:=l19_m7.length) (k:=.i64) (m:=((l27_m12:Nat):Int)) (A0 _) (At e31))) ?_;refine rsl (.own (kid (oi 1 1) l27_m12) .int 0 x31.length) (Lp (by kernel_rfl) q30 (Eo (o:=oi 0 1) (p:=oi 1 1) (e1:=39) (u:=.int) (xss:=l19_m7) (row:=x31) (j:=l27_m12) (by kernel_rfl) (by kernel_rfl) e31)) ?_;refine rs0 (ai ((l19_m11:Nat):Int)) (zg q30) ?_;refine rs0 (.elt (kid (oi 1 1) l27_m12) l19_m11 0) (Lp (by kernel_rfl) q30 (zo (t:=.int) (o:=kid (oi 1 1) l27_m12) (len:=x31.length) (k:=.i64) (m:=((l19_m11:Nat):Int)) (A0 _) (At e32))) ?_;refine rsl (ai x32) (Lp (by kernel_rfl) q30 (Ip (i:=kid (oi 1 1) l27_m12) (j:=l19_m11) (k:=0) (e:=3) (t:=.int) (xs:=x31) (by kernel_rfl) (Be (by kernel_rfl) e31) e32 (by kernel_rfl))) ?_;refine rs0 (.bool (x32==0)) (zg q30) ?_;refine rs0 (.bool (x32==0)) (zT q30) ?_;refine As (tn_ ?_);obtain rfl:=zj h;exact ⟨_,Ac [],rfl⟩
      have q30_:=of_decide_eq_false q30;refine Aa 16 ?_;refine rz0 (ai ((l27_m12:Nat):Int)) ?_;refine rz0 (.own (oi 0 1) (.slice .int) 0 l19_m7.length) ?_;refine rz0 (ai ((l19_m7.length:Nat):Int)) ?_;refine rz0 (.bool (decide (((l27_m12:Nat):Int)<((l19_m7.length:Nat):Int)))) ?_;refine rz0 (.bool (decide (((l27_m12:Nat):Int)<((l19_m7.length:Nat):Int)))) ?_;refine zs q30 ?_;refine zs q30 ?_;refine zs q30 ?_;refine zs q30 ?_;refine zs q30 ?_;refine zs q30 ?_;refine zs q30 ?_;refine zs q30 ?_;refine rs0 (.bool false) (zF q30) ?_;refine As (tn_ ?_);obtain rfl:=zj h;exact ⟨_,Ac [],rfl⟩
     rintro l29_m56 _ rfl h
     (try dsimp only at h);rcases Ad h with ⟨q33,h⟩ | ⟨q33,h⟩
     ·refine Ag q33 ?_;refine Aj (tn_ ?_);refine wr_ ?_;refine Ai ?_;obtain ⟨g34,h⟩:=Aq h;refine Aa 5 ?_;refine rz0 (ai ((l27_m12:Nat):Int)) ?_;refine rs0 (ai ((l27_m12+1:Nat):Int)) (za g34) ?_;refine rsB 1 ?_;refine As (bn_ (tn_ ?_));obtain rfl:=zj h;exact ⟨l27_m12+1,_,Ac [],rfl,hn27⟩
     refine Ah q33 ?_;refine Ax (te_ (te_ (be_ (tn_ ?_))));obtain rfl:=zj h;have h:=hn27
     (try dsimp only at h);obtain rfl:=zj h;exact ⟨_,Ac [],rfl⟩
    rintro l26_m12 _ rfl h
    (try dsimp only at h);refine Ab ?_;refine Am ?_;rcases Ad h with ⟨q37,h⟩ | ⟨q37,h⟩
    ·refine Ag q37 ?_;refine Ax (te_ (be_ (tn_ ?_)));obtain rfl:=zj h;exact ⟨_,Ac [],⟨l19_m10,l19_m7,rfl,rfl⟩⟩
    refine Ah q37 ?_;refine Aj (tn_ ?_);refine wr_ ?_;refine Ab ?_;obtain ⟨x39,e39,h⟩:=Ae h;refine Aa 11 ?_;refine rz0 (.own (oi 0 1) (.slice .int) 0 l19_m7.length) ?_;refine rz0 (ai ((l19_m10:Nat):Int)) ?_;refine rs0 (.elt (oi 0 1) l19_m10 0) (zo (t:=.slice .int) (o:=oi 0 1) (len:=l19_m7.length) (k:=.i64) (m:=((l19_m10:Nat):Int)) (A0 _) (At e39)) ?_;refine rsl (.own (kid (oi 1 1) l19_m10) .int 0 x39.length) (Eo (o:=oi 0 1) (p:=oi 1 1) (e1:=39) (u:=.int) (xss:=l19_m7) (row:=x39) (j:=l19_m10) (by kernel_rfl) (by kernel_rfl) e39) ?_;refine rsB 1 ?_;refine As (tn_ ?_);refine wr_ ?_;refine Ab ?_;obtain ⟨x41,e41,h⟩:=Ae h;refine Aa 19 ?_;refine rz0 (.own (oi 0 1) (.slice .int) 0 l19_m7.length) ?_;refine rz0 (ai ((l19_m10:Nat):Int)) ?_;refine rz0 (.own (oi 0 1) (.slice .int) 0 l19_m7.length) ?_;refine rz0 (ai ((l26_m12:Nat):Int)) ?_;refine rs0 (.elt (oi 0 1) l26_m12 0) (zo (t:=.slice .int) (o:=oi 0 1) (len:=l19_m7.length) (k:=.i64) (m:=((l26_m12:Nat):Int)) (A0 _) (At e41)) ?_;refine rsl (.own (kid (oi 1 1) l26_m12) .int 0 x41.length) (Eo (o:=oi 0 1) (p:=oi 1 1) (e1:=39) (u:=.int) (xss:=l19_m7) (row:=x41) (j:=l26_m12) (by kernel_rfl) (by kernel_rfl) e41) ?_;refine rs0 (.elt (oi 0 1) l19_m10 0) (zo (t:=.slice .int) (o:=oi 0 1) (len:=l19_m7.length) (k:=.i64) (m:=((l19_m10:Nat):Int)) (A0 _) (At e39)) ?_;refine Afl (oi 0 1) (oi 0 1) (.vec 39 1 l19_m7.length ((hdL (oi 1 1) .int l19_m7).set l19_m10 (.own (kid (oi 1 1) l26_m12) .int 0 x41.length))) (Aaj (o:=oi 0 1) (e1:=39) (m:=l19_m7.length) (cs:=hdL (oi 1 1) .int l19_m7) (v:=.own (kid (oi 1 1) l26_m12) .int 0 x41.length) (j:=l19_m10) (by kernel_rfl) (by kernel_rfl) (by kernel_rfl) rfl (by rw [Dj]; exact At e39)) ?_;refine As (tn_ ?_);refine wr_ ?_;refine Ab ?_;refine Aa 24 ?_;refine rz0 (.own (oi 0 1) (.slice .int) 0 l19_m7.length) ?_;refine rz0 (ai ((l26_m12:Nat):Int)) ?_;refine rz0 (.own (kid (oi 1 1) l19_m10) .int 0 x39.length) ?_;refine rs0 (.elt (oi 0 1) l26_m12 0) (zo (t:=.slice .int) (o:=oi 0 1) (len:=l19_m7.length) (k:=.i64) (m:=((l26_m12:Nat):Int)) (A0 _) (At e41)) ?_;refine Afl (oi 0 1) (oi 0 1) (.vec 39 1 l19_m7.length (((hdL (oi 1 1) .int l19_m7).set l19_m10 (.own (kid (oi 1 1) l26_m12) .int 0 x41.length)).set l26_m12 (.own (kid (oi 1 1) l19_m10) .int 0 x39.length))) (Aaj (o:=oi 0 1) (e1:=39) (m:=l19_m7.length) (cs:=(hdL (oi 1 1) .int l19_m7).set l19_m10 (.own (kid (oi 1 1) l26_m12) .int 0 x41.length)) (v:=.own (kid (oi 1 1) l19_m10) .int 0 x39.length) (j:=l26_m12) (by kernel_rfl) (by kernel_rfl) (by kernel_rfl) rfl (by rw [List.length_set,Dj]; exact At e41)) ?_;refine As (tn_ ?_);refine ⟨_,U3 (e1:=39) (e:=3) (u:=.int) (xss:=l19_m7) (i:=l19_m10) (j:=l26_m12) (n:=l19_m7.length) (li:=x39.length) (lj:=x41.length) (ri:=x39) (rj:=x41) 9000 (oi 0 1) (oi 1 1) (by kernel_rfl) (by kernel_rfl) rfl (by kernel_rfl) e39 e41 rfl rfl (by kernel_rfl) (by kernel_rfl),?_⟩;refine Ab ?_;obtain ⟨x44,e44,h⟩:=Ae h;obtain ⟨x45,e45,h⟩:=Ae h;obtain ⟨y46,h46,h⟩:=Ae h;refine Aa 35 ?_;refine rz0 (ai a0) ?_;refine rz0 (.own (oi 0 1) (.slice .int) 0 l19_m7.length) ?_;refine rz0 (ai ((l19_m10:Nat):Int)) ?_;refine rs0 (.elt (oi 0 1) l19_m10 0) (zo (t:=.slice .int) (o:=oi 0 1) (len:=l19_m7.length) (k:=.i64) (m:=((l19_m10:Nat):Int)) (A0 _) (Nat.lt_of_lt_of_le (At e44) (Nat.le_of_eq (Eq.symm (Eq.trans (b:=l19_m7.length) rfl (by simp)))))) ?_;refine rsl (.own (kid (oi 9000 24) l19_m10) .int 0 x44.length) (Eo (o:=oi 0 1) (p:=oi 9000 24) (e1:=39) (u:=.int) (xss:=(l19_m7.set l19_m10 x41).set l26_m12 x39) (row:=x44) (j:=l19_m10) (by kernel_rfl) (by kernel_rfl) e44) ?_;refine rz0 (ai ((l19_m11:Nat):Int)) ?_;refine rs0 (.elt (kid (oi 9000 24) l19_m10) l19_m11 0) (zo (t:=.int) (o:=kid (oi 9000 24) l19_m10) (len:=x44.length) (k:=.i64) (m:=((l19_m11:Nat):Int)) (A0 _) (At e45)) ?_;refine rsl (ai x45) (Ip (i:=kid (oi 9000 24) l19_m10) (j:=l19_m11) (k:=0) (e:=3) (t:=.int) (xs:=x44) (by kernel_rfl) (Be (by kernel_rfl) e44) e45 (by kernel_rfl)) ?_;refine zc (ai y46) [] [ai a0,ai x45] (Wq h46) ?_;refine rsB 1 ?_;refine As (tn_ ?_);refine wr_ ?_;refine Ay h (fun (l47_m7:List (List Int)) S_=>S_=⟨Al [(0,ai a0),(1,ai a1),(7,.own (oi 0 1) (.slice .int) 0 l47_m7.length),(10,ai ((l19_m10:Nat):Int)),(11,ai ((l19_m11:Nat):Int))],Af (Ao [(oi 0 1,.mat 39 (oi 1 1) .int l47_m7),(oi 1 1,.pool 3 .int l47_m7)]),2⟩) ?_ ?_
    ·intro v_ h;refine Ab ?_;refine Aa 41 ?_;refine rz0 (.own (oi 0 1) (.slice .int) 0 l19_m7.length) ?_;refine rz0 (ai ((l19_m10:Nat):Int)) ?_;refine rs0 (.elt (oi 0 1) l19_m10 0) (zo (t:=.slice .int) (o:=oi 0 1) (len:=l19_m7.length) (k:=.i64) (m:=((l19_m10:Nat):Int)) (A0 _) (Nat.lt_of_lt_of_le (At e44) (Nat.le_of_eq (Eq.symm (Eq.trans (b:=l19_m7.length) rfl (by simp)))))) ?_;refine rsl (.own (kid (oi 9000 24) l19_m10) .int 0 x44.length) (Eo (o:=oi 0 1) (p:=oi 9000 24) (e1:=39) (u:=.int) (xss:=(l19_m7.set l19_m10 x41).set l26_m12 x39) (row:=x44) (j:=l19_m10) (by kernel_rfl) (by kernel_rfl) e44) ?_;refine rsB 2 ?_;refine As (tn_ ?_);refine wr_ ?_;refine Ai ?_;refine Az h (fun t_ S_=>∃ (l49_m92:Nat),∃ (l49_m7:List (List Int)),t_=(l49_m92,l49_m7)∧S_=⟨Al [(0,ai a0),(1,ai a1),(7,.own (oi 0 1) (.slice .int) 0 l49_m7.length),(10,ai ((l19_m10:Nat):Int)),(11,ai ((l19_m11:Nat):Int)),(14,ai y46),(91,ai ((x44.length:Nat):Int)),(92,ai ((l49_m92:Nat):Int))],Af (Ao [(oi 0 1,.mat 39 (oi 1 1) .int l49_m7),(oi 1 1,.pool 3 .int l49_m7)]),2⟩) ⟨_,(Bn 7 (.own (oi 0 1) (.slice .int) 0 l19_m7.length) (.own (oi 0 1) (.slice .int) 0 (((l19_m7.set l19_m10 x41).set l26_m12 x39).length)) (by kernel_rfl) (congrArg (fun z_=>((.own (oi 0 1) (.slice .int) 0 z_):AV)) ((Eq.trans (b:=l19_m7.length) rfl (by simp)):l19_m7.length=((l19_m7.set l19_m10 x41).set l26_m12 x39).length))).trans (Ac [(oi 1 1,oi 9000 24)]),⟨0,(l19_m7.set l19_m10 x41).set l26_m12 x39,rfl,rfl⟩⟩ ?_;rintro n_ _ _ c_ ⟨l49_m92,l49_m7,rfl,rfl⟩ h hn49
     (try dsimp only at h);unfold C3 at h;unfold Je;refine Am ?_;refine Ab ?_;rcases Ad h with ⟨q52,h⟩ | ⟨q52,h⟩
     ·have q52_:=of_decide_eq_true q52;refine Ag q52 ?_;refine Aj (tn_ ?_);refine wr_ ?_;refine Ab ?_;refine Ai ?_;refine Am ?_;obtain ⟨x55,e55,h⟩:=Ae h;obtain ⟨x56,e56,h⟩:=Ae h;obtain ⟨y57,h57,h⟩:=Ae h;refine Bb 22 ?_;refine dz0 (.own (oi 0 1) (.slice .int) 0 l49_m7.length) ?_;refine dz0 (ai ((l19_m10:Nat):Int)) ?_;refine ds0 (.elt (oi 0 1) l19_m10 0) (zo (t:=.slice .int) (o:=oi 0 1) (len:=l49_m7.length) (k:=.i64) (m:=((l19_m10:Nat):Int)) (A0 _) (At e55)) ?_;refine dsl (.own (kid (oi 1 1) l19_m10) .int 0 x55.length) (Eo (o:=oi 0 1) (p:=oi 1 1) (e1:=39) (u:=.int) (xss:=l49_m7) (row:=x55) (j:=l19_m10) (by kernel_rfl) (by kernel_rfl) e55) ?_;refine dz0 (ai ((l49_m92:Nat):Int)) ?_;refine dz0 (ai a0) ?_;refine dz0 (.own (oi 0 1) (.slice .int) 0 l49_m7.length) ?_;refine dz0 (ai ((l19_m10:Nat):Int)) ?_;refine ds0 (.elt (oi 0 1) l19_m10 0) (zo (t:=.slice .int) (o:=oi 0 1) (len:=l49_m7.length) (k:=.i64) (m:=((l19_m10:Nat):Int)) (A0 _) (At e55)) ?_;refine dsl (.own (kid (oi 1 1) l19_m10) .int 0 x55.length) (Eo (o:=oi 0 1) (p:=oi 1 1) (e1:=39) (u:=.int) (xss:=l49_m7) (row:=x55) (j:=l19_m10) (by kernel_rfl) (by kernel_rfl) e55) ?_;refine dz0 (ai ((l49_m92:Nat):Int)) ?_;refine ds0 (.elt (kid (oi 1 1) l19_m10) l49_m92 0) (zo (t:=.int) (o:=kid (oi 1 1) l19_m10) (len:=x55.length) (k:=.i64) (m:=((l49_m92:Nat):Int)) (A0 _) (At e56)) ?_;refine dsl (ai x56) (Ip (i:=kid (oi 1 1) l19_m10) (j:=l49_m92) (k:=0) (e:=3) (t:=.int) (xs:=x55) (by kernel_rfl) (Xt.trans (Be (by kernel_rfl) e55)) e56 (by kernel_rfl)) ?_;refine dz0 (ai y46) ?_;refine Fw (ai y57) [] [ai a0,ai x56,ai y46] _ (caps:=[]) (args0:=[ai a0,ai x56,ai y46]) trivial (by kernel_rfl) (Ny h57) Nm ?_;refine ds0 (.elt (kid (oi 1 1) l19_m10) l49_m92 0) (zo (t:=.int) (o:=kid (oi 1 1) l19_m10) (len:=x55.length) (k:=.i64) (m:=((l49_m92:Nat):Int)) (A0 _) (At e56)) ?_;refine Aca (kid (oi 1 1) l19_m10) (kid (oi 1 1) l19_m10) (.arr 3 .int (x55.set l49_m92 y57)) (Tl (i:=kid (oi 1 1) l19_m10) (j:=l49_m92) (k:=0) (e:=3) (t:=.int) (xs:=x55) (cs:=[ai y57]) (x1:=y57) (by kernel_rfl) (Xt.trans (Be (by kernel_rfl) e55)) e56 (by kernel_rfl) (by kernel_rfl)) ?_;refine Ae3 (Vg (o:=oi 0 1) (p:=oi 1 1) (e1:=39) (e:=3) (u:=.int) (xss:=l49_m7) (k:=l19_m10) (row:=x55) (row':=x55.set l49_m92 y57) (by kernel_rfl) rfl (by kernel_rfl) e55 List.length_set) ?_;refine Ky (Bx (by kernel_rfl)) (bn_ (tn_ ?_));refine wr_ ?_;obtain ⟨g58,h⟩:=Aq h;refine Aa 24 ?_;refine rs0 (ai ((l49_m92+1:Nat):Int)) (za g58) ?_;refine rsB 1 ?_;refine As (tn_ ?_);obtain rfl:=zj h;exact ⟨(l49_m92+1,l49_m7.set l19_m10 (x55.set l49_m92 y57)),_,(Bn 7 (.own (oi 0 1) (.slice .int) 0 l49_m7.length) (.own (oi 0 1) (.slice .int) 0 ((l49_m7.set l19_m10 (x55.set l49_m92 y57)).length)) (by kernel_rfl) (congrArg (fun z_=>((.own (oi 0 1) (.slice .int) 0 z_):AV)) ((Eq.trans (b:=l49_m7.length) rfl List.length_set.symm):l49_m7.length=(l49_m7.set l19_m10 (x55.set l49_m92 y57)).length))).trans (Ac []),⟨l49_m92+1,l49_m7.set l19_m10 (x55.set l49_m92 y57),rfl,rfl⟩,hn49⟩
     have q52_:=of_decide_eq_false q52;refine Ah q52 ?_;refine Ax (te_ (te_ (be_ (tn_ ?_))));obtain rfl:=zj h;have h:=hn49
     (try dsimp only at h);obtain rfl:=zj h;exact ⟨_,Ac [],rfl⟩
    rintro l47_m7 _ rfl h
    (try dsimp only at h);refine Ay h (fun (l59_m7:List (List Int)) S_=>S_=⟨Al [(0,ai a0),(1,ai a1),(7,.own (oi 0 1) (.slice .int) 0 l59_m7.length),(10,ai ((l19_m10:Nat):Int)),(11,ai ((l19_m11:Nat):Int))],Af (Ao [(oi 0 1,.mat 39 (oi 1 1) .int l59_m7),(oi 1 1,.pool 3 .int l59_m7)]),2⟩) ?_ ?_
    ·intro v_ h;refine Am ?_;refine Ai ?_;refine Az h (fun t_ S_=>∃ (l61_m114:Nat),∃ (l61_m7:List (List Int)),t_=(l61_m114,l61_m7)∧S_=⟨Al [(0,ai a0),(1,ai a1),(7,.own (oi 0 1) (.slice .int) 0 l61_m7.length),(10,ai ((l19_m10:Nat):Int)),(11,ai ((l19_m11:Nat):Int)),(113,ai ((l47_m7.length:Nat):Int)),(114,ai ((l61_m114:Nat):Int))],Af (Ao [(oi 0 1,.mat 39 (oi 1 1) .int l61_m7),(oi 1 1,.pool 3 .int l61_m7)]),2⟩) ⟨_,Ac [],⟨0,l47_m7,rfl,rfl⟩⟩ ?_;rintro n_ _ _ c_ ⟨l61_m114,l61_m7,rfl,rfl⟩ h hn61
     (try dsimp only at h);unfold C1 at h;unfold Il;refine Am ?_;refine Ab ?_;rcases Ad h with ⟨q64,h⟩ | ⟨q64,h⟩
     ·have q64_:=of_decide_eq_true q64;refine Ag q64 ?_;refine Aj (tn_ ?_);refine wr_ ?_;refine Ay h (fun (l65_m7:List (List Int)) S_=>S_=⟨Al [(0,ai a0),(1,ai a1),(7,.own (oi 0 1) (.slice .int) 0 l65_m7.length),(10,ai ((l19_m10:Nat):Int)),(11,ai ((l19_m11:Nat):Int)),(113,ai ((l47_m7.length:Nat):Int)),(114,ai ((l61_m114:Nat):Int))],Af (Ao [(oi 0 1,.mat 39 (oi 1 1) .int l65_m7),(oi 1 1,.pool 3 .int l65_m7)]),2⟩) ?_ ?_
      ·intro v_ h;refine Ai ?_;refine Am ?_;refine Ab ?_;refine Ay h (fun (l68_m129:Bool) S_=>S_=⟨Al [(0,ai a0),(1,ai a1),(7,.own (oi 0 1) (.slice .int) 0 l61_m7.length),(10,ai ((l19_m10:Nat):Int)),(11,ai ((l19_m11:Nat):Int)),(16,ai ((l61_m114:Nat):Int)),(113,ai ((l47_m7.length:Nat):Int)),(114,ai ((l61_m114:Nat):Int)),(129,.bool l68_m129)],Af (Ao [(oi 0 1,.mat 39 (oi 1 1) .int l61_m7),(oi 1 1,.pool 3 .int l61_m7)]),2⟩) ?_ ?_
       ·intro v_ h;rcases Ad h with ⟨q69,h⟩ | ⟨q69,h⟩
        ·refine Aa 18 ?_;refine rz0 (ai ((l61_m114:Nat):Int)) ?_;refine rz0 (ai ((l19_m10:Nat):Int)) ?_;refine rz0 (.bool (((l61_m114:Nat):Int)==((l19_m10:Nat):Int))) ?_;refine rz0 (.bool (((l61_m114:Nat):Int)==((l19_m10:Nat):Int))) ?_;refine zs q69 ?_;refine zs q69 ?_;refine zs q69 ?_;refine zs q69 ?_;refine zs q69 ?_;refine zs q69 ?_;refine zs q69 ?_;refine zs q69 ?_;refine rs0 (.bool true) (zT q69) ?_;refine As (tn_ ?_);obtain rfl:=zj h;exact ⟨_,Ac [],rfl⟩
        obtain ⟨x70,e70,h⟩:=Ae h;obtain ⟨x71,e71,h⟩:=Ae h;refine Aa 18 ?_;refine rz0 (ai ((l61_m114:Nat):Int)) ?_;refine rz0 (ai ((l19_m10:Nat):Int)) ?_;refine rz0 (.bool (((l61_m114:Nat):Int)==((l19_m10:Nat):Int))) ?_;refine rz0 (.bool (((l61_m114:Nat):Int)==((l19_m10:Nat):Int))) ?_;refine rs0 (.own (oi 0 1) (.slice .int) 0 l61_m7.length) (zg q69) ?_;refine rs0 (ai ((l61_m114:Nat):Int)) (zg q69) ?_;refine rs0 (.elt (oi 0 1) l61_m114 0) (Lp (by kernel_rfl) q69 (zo (t:=.slice .int) (o:=oi 0 1) (len:=l61_m7.length) (k:=.i64) (m:=((l61_m114:Nat):Int)) (A0 _) (At e70))) ?_;refine rsl (.own (kid (oi 1 1) l61_m114) .int 0 x70.length) (Lp (by kernel_rfl) q69 (Eo (o:=oi 0 1) (p:=oi 1 1) (e1:=39) (u:=.int) (xss:=l61_m7) (row:=x70) (j:=l61_m114) (by kernel_rfl) (by kernel_rfl) e70)) ?_;refine rs0 (ai ((l19_m11:Nat):Int)) (zg q69) ?_;refine rs0 (.elt (kid (oi 1 1) l61_m114) l19_m11 0) (Lp (by kernel_rfl) q69 (zo (t:=.int) (o:=kid (oi 1 1) l61_m114) (len:=x70.length) (k:=.i64) (m:=((l19_m11:Nat):Int)) (A0 _) (At e71))) ?_;refine rsl (ai x71) (Lp (by kernel_rfl) q69 (Ip (i:=kid (oi 1 1) l61_m114) (j:=l19_m11) (k:=0) (e:=3) (t:=.int) (xs:=x70) (by kernel_rfl) (Be (by kernel_rfl) e70) e71 (by kernel_rfl))) ?_;refine rs0 (.bool (x71==0)) (zg q69) ?_;refine rs0 (.bool (x71==0)) (zF q69) ?_;refine As (tn_ ?_);obtain rfl:=zj h;exact ⟨_,Ac [],rfl⟩
       rintro l68_m129 _ rfl h
       (try dsimp only at h);rcases Ad h with ⟨q72,h⟩ | ⟨q72,h⟩
       ·refine Ag q72 ?_;refine Ax (te_ (be_ (tn_ ?_)));obtain rfl:=zj h;exact ⟨_,Ac [],rfl⟩
       refine Ah q72 ?_;refine Aj (tn_ ?_);refine wr_ ?_;refine Ab ?_;obtain ⟨x74,e74,h⟩:=Ae h;obtain ⟨x75,e75,h⟩:=Ae h;refine Aa 10 ?_;refine rz0 (.own (oi 0 1) (.slice .int) 0 l61_m7.length) ?_;refine rz0 (ai ((l61_m114:Nat):Int)) ?_;refine rs0 (.elt (oi 0 1) l61_m114 0) (zo (t:=.slice .int) (o:=oi 0 1) (len:=l61_m7.length) (k:=.i64) (m:=((l61_m114:Nat):Int)) (A0 _) (At e74)) ?_;refine rsl (.own (kid (oi 1 1) l61_m114) .int 0 x74.length) (Eo (o:=oi 0 1) (p:=oi 1 1) (e1:=39) (u:=.int) (xss:=l61_m7) (row:=x74) (j:=l61_m114) (by kernel_rfl) (by kernel_rfl) e74) ?_;refine rz0 (ai ((l19_m11:Nat):Int)) ?_;refine rs0 (.elt (kid (oi 1 1) l61_m114) l19_m11 0) (zo (t:=.int) (o:=kid (oi 1 1) l61_m114) (len:=x74.length) (k:=.i64) (m:=((l19_m11:Nat):Int)) (A0 _) (At e75)) ?_;refine rsl (ai x75) (Ip (i:=kid (oi 1 1) l61_m114) (j:=l19_m11) (k:=0) (e:=3) (t:=.int) (xs:=x74) (by kernel_rfl) (Be (by kernel_rfl) e74) e75 (by kernel_rfl)) ?_;refine rsB 1 ?_;refine As (tn_ ?_);refine wr_ ?_;refine Ab ?_;refine Aa 16 ?_;refine rz0 (.own (oi 0 1) (.slice .int) 0 l61_m7.length) ?_;refine rz0 (ai ((l61_m114:Nat):Int)) ?_;refine rs0 (.elt (oi 0 1) l61_m114 0) (zo (t:=.slice .int) (o:=oi 0 1) (len:=l61_m7.length) (k:=.i64) (m:=((l61_m114:Nat):Int)) (A0 _) (At e74)) ?_;refine rsl (.own (kid (oi 1 1) l61_m114) .int 0 x74.length) (Eo (o:=oi 0 1) (p:=oi 1 1) (e1:=39) (u:=.int) (xss:=l61_m7) (row:=x74) (j:=l61_m114) (by kernel_rfl) (by kernel_rfl) e74) ?_;refine rsB 2 ?_;refine As (tn_ ?_);refine wr_ ?_;refine Ai ?_;refine Az h (fun t_ S_=>∃ (l77_m142:Nat),∃ (l77_m7:List (List Int)),t_=(l77_m142,l77_m7)∧S_=⟨Al [(0,ai a0),(1,ai a1),(7,.own (oi 0 1) (.slice .int) 0 l77_m7.length),(10,ai ((l19_m10:Nat):Int)),(11,ai ((l19_m11:Nat):Int)),(16,ai ((l61_m114:Nat):Int)),(17,ai x75),(113,ai ((l47_m7.length:Nat):Int)),(114,ai ((l61_m114:Nat):Int)),(141,ai ((x74.length:Nat):Int)),(142,ai ((l77_m142:Nat):Int))],Af (Ao [(oi 0 1,.mat 39 (oi 1 1) .int l77_m7),(oi 1 1,.pool 3 .int l77_m7)]),2⟩) ⟨_,Ac [],⟨0,l61_m7,rfl,rfl⟩⟩ ?_;rintro n_ _ _ c_ ⟨l77_m142,l77_m7,rfl,rfl⟩ h hn77
       (try dsimp only at h);unfold C6 at h;unfold Iv;refine Am ?_;refine Ab ?_;rcases Ad h with ⟨q80,h⟩ | ⟨q80,h⟩
       ·have q80_:=of_decide_eq_true q80;refine Ag q80 ?_;refine Aj (tn_ ?_);refine wr_ ?_;refine Ab ?_;refine Ai ?_;refine Am ?_;obtain ⟨x83,e83,h⟩:=Ae h;obtain ⟨x84,e84,h⟩:=Ae h;obtain ⟨x85,e85,h⟩:=Ae h;obtain ⟨x86,e86,h⟩:=Ae h;obtain ⟨y87,h87,h⟩:=Ae h;obtain ⟨y88,h88,h⟩:=Ae h;refine Bb 31 ?_;refine dz0 (.own (oi 0 1) (.slice .int) 0 l77_m7.length) ?_;refine dz0 (ai ((l61_m114:Nat):Int)) ?_;refine ds0 (.elt (oi 0 1) l61_m114 0) (zo (t:=.slice .int) (o:=oi 0 1) (len:=l77_m7.length) (k:=.i64) (m:=((l61_m114:Nat):Int)) (A0 _) (At e83)) ?_;refine dsl (.own (kid (oi 1 1) l61_m114) .int 0 x83.length) (Eo (o:=oi 0 1) (p:=oi 1 1) (e1:=39) (u:=.int) (xss:=l77_m7) (row:=x83) (j:=l61_m114) (by kernel_rfl) (by kernel_rfl) e83) ?_;refine dz0 (ai ((l77_m142:Nat):Int)) ?_;refine dz0 (ai a0) ?_;refine dz0 (.own (oi 0 1) (.slice .int) 0 l77_m7.length) ?_;refine dz0 (ai ((l61_m114:Nat):Int)) ?_;refine ds0 (.elt (oi 0 1) l61_m114 0) (zo (t:=.slice .int) (o:=oi 0 1) (len:=l77_m7.length) (k:=.i64) (m:=((l61_m114:Nat):Int)) (A0 _) (At e83)) ?_;refine dsl (.own (kid (oi 1 1) l61_m114) .int 0 x83.length) (Eo (o:=oi 0 1) (p:=oi 1 1) (e1:=39) (u:=.int) (xss:=l77_m7) (row:=x83) (j:=l61_m114) (by kernel_rfl) (by kernel_rfl) e83) ?_;refine dz0 (ai ((l77_m142:Nat):Int)) ?_;refine ds0 (.elt (kid (oi 1 1) l61_m114) l77_m142 0) (zo (t:=.int) (o:=kid (oi 1 1) l61_m114) (len:=x83.length) (k:=.i64) (m:=((l77_m142:Nat):Int)) (A0 _) (At e84)) ?_;refine dsl (ai x84) (Ip (i:=kid (oi 1 1) l61_m114) (j:=l77_m142) (k:=0) (e:=3) (t:=.int) (xs:=x83) (by kernel_rfl) (Xt.trans (Be (by kernel_rfl) e83)) e84 (by kernel_rfl)) ?_;refine dz0 (ai a0) ?_;refine dz0 (ai x75) ?_;refine dz0 (.own (oi 0 1) (.slice .int) 0 l77_m7.length) ?_;refine dz0 (ai ((l19_m10:Nat):Int)) ?_;refine ds0 (.elt (oi 0 1) l19_m10 0) (zo (t:=.slice .int) (o:=oi 0 1) (len:=l77_m7.length) (k:=.i64) (m:=((l19_m10:Nat):Int)) (A0 _) (At e85)) ?_;refine dsl (.own (kid (oi 1 1) l19_m10) .int 0 x85.length) (Eo (o:=oi 0 1) (p:=oi 1 1) (e1:=39) (u:=.int) (xss:=l77_m7) (row:=x85) (j:=l19_m10) (by kernel_rfl) (by kernel_rfl) e85) ?_;refine dz0 (ai ((l77_m142:Nat):Int)) ?_;refine ds0 (.elt (kid (oi 1 1) l19_m10) l77_m142 0) (zo (t:=.int) (o:=kid (oi 1 1) l19_m10) (len:=x85.length) (k:=.i64) (m:=((l77_m142:Nat):Int)) (A0 _) (At e86)) ?_;refine dsl (ai x86) (Ip (i:=kid (oi 1 1) l19_m10) (j:=l77_m142) (k:=0) (e:=3) (t:=.int) (xs:=x85) (by kernel_rfl) (Xt.trans (Be (by kernel_rfl) e85)) e86 (by kernel_rfl)) ?_;refine Fw (ai y87) [] [ai a0,ai x75,ai x86] _ (caps:=[]) (args0:=[ai a0,ai x75,ai x86]) trivial (by kernel_rfl) (Ny h87) Nm ?_;refine Fw (ai y88) [] [ai a0,ai x84,ai y87] _ (caps:=[]) (args0:=[ai a0,ai x84,ai y87]) trivial (by kernel_rfl) (Wf h88) Wz ?_;refine ds0 (.elt (kid (oi 1 1) l61_m114) l77_m142 0) (zo (t:=.int) (o:=kid (oi 1 1) l61_m114) (len:=x83.length) (k:=.i64) (m:=((l77_m142:Nat):Int)) (A0 _) (At e84)) ?_;refine Aca (kid (oi 1 1) l61_m114) (kid (oi 1 1) l61_m114) (.arr 3 .int (x83.set l77_m142 y88)) (Tl (i:=kid (oi 1 1) l61_m114) (j:=l77_m142) (k:=0) (e:=3) (t:=.int) (xs:=x83) (cs:=[ai y88]) (x1:=y88) (by kernel_rfl) (Xt.trans (Be (by kernel_rfl) e83)) e84 (by kernel_rfl) (by kernel_rfl)) ?_;refine Ae3 (Vg (o:=oi 0 1) (p:=oi 1 1) (e1:=39) (e:=3) (u:=.int) (xss:=l77_m7) (k:=l61_m114) (row:=x83) (row':=x83.set l77_m142 y88) (by kernel_rfl) rfl (by kernel_rfl) e83 List.length_set) ?_;refine Ky (Bx (by kernel_rfl)) (bn_ (tn_ ?_));refine wr_ ?_;obtain ⟨g89,h⟩:=Aq h;refine Aa 33 ?_;refine rs0 (ai ((l77_m142+1:Nat):Int)) (za g89) ?_;refine rsB 1 ?_;refine As (tn_ ?_);obtain rfl:=zj h;exact ⟨(l77_m142+1,l77_m7.set l61_m114 (x83.set l77_m142 y88)),_,(Bn 7 (.own (oi 0 1) (.slice .int) 0 l77_m7.length) (.own (oi 0 1) (.slice .int) 0 ((l77_m7.set l61_m114 (x83.set l77_m142 y88)).length)) (by kernel_rfl) (congrArg (fun z_=>((.own (oi 0 1) (.slice .int) 0 z_):AV)) ((Eq.trans (b:=l77_m7.length) rfl List.length_set.symm):l77_m7.length=(l77_m7.set l61_m114 (x83.set l77_m142 y88)).length))).trans (Ac []),⟨l77_m142+1,l77_m7.set l61_m114 (x83.set l77_m142 y88),rfl,rfl⟩,hn77⟩
       have q80_:=of_decide_eq_false q80;refine Ah q80 ?_;refine Ax (te_ (te_ (be_ (bn_ (tn_ ?_)))));obtain rfl:=zj h;have h:=hn77
       (try dsimp only at h);obtain rfl:=zj h;exact ⟨_,Ac [],rfl⟩
      rintro l65_m7 _ rfl h
      (try dsimp only at h);obtain ⟨g90,h⟩:=Aq h;refine Aa 4 ?_;refine rs0 (ai ((l61_m114+1:Nat):Int)) (za g90) ?_;refine rsB 1 ?_;refine As (tn_ ?_);obtain rfl:=zj h;exact ⟨(l61_m114+1,l65_m7),_,Ac [],⟨l61_m114+1,l65_m7,rfl,rfl⟩,hn61⟩
     have q64_:=of_decide_eq_false q64;refine Ah q64 ?_;refine Ax (te_ (te_ (be_ (tn_ ?_))));obtain rfl:=zj h;have h:=hn61
     (try dsimp only at h);obtain rfl:=zj h;exact ⟨_,Ac [],rfl⟩
    rintro l59_m7 _ rfl h
    (try dsimp only at h);obtain ⟨g91,h⟩:=Aq h;refine Aa 5 ?_;refine rz0 (ai ((l19_m10:Nat):Int)) ?_;refine rs0 (ai ((l19_m10+1:Nat):Int)) (za g91) ?_;refine rsB 1 ?_;refine As (bn_ (tn_ ?_));obtain rfl:=zj h;exact ⟨_,Ac [],⟨l19_m10+1,l59_m7,rfl,rfl⟩⟩
   rintro _ _ ⟨l24_m10,l24_m7,rfl,rfl⟩ h
   (try dsimp only at h);obtain ⟨g92,h⟩:=Aq h;refine Aa 5 ?_;refine rz0 (ai ((l19_m11:Nat):Int)) ?_;refine rs0 (ai ((l19_m11+1:Nat):Int)) (za g92) ?_;refine rsB 1 ?_;refine As (tn_ ?_);obtain rfl:=zj h;exact ⟨(l24_m10,l19_m11+1,l24_m7),_,Ac [],⟨l24_m10,l19_m11+1,l24_m7,rfl,rfl⟩,hn19⟩
  refine Ah q23 ?_;refine Ax (te_ (te_ (be_ (tn_ ?_))));obtain rfl:=zj h;have h:=hn19
  (try dsimp only at h);obtain rfl:=zj h;exact ⟨_,Ac [],⟨l19_m10,l19_m7,rfl,rfl⟩⟩
 rintro _ _ ⟨l17_m10,l17_m7,rfl,rfl⟩ h
 (try dsimp only at h);refine Ab ?_;obtain ⟨g94,h⟩:=Aq h;refine Aa 6 ?_;refine rz0 (.own (oi 0 1) (.slice .int) 0 l17_m7.length) ?_;refine rz0 (ai ((l17_m10:Nat):Int)) ?_;refine rs0 (.own (oi 0 1) (.slice .int) 0 l17_m10) (Aim (t:=.slice .int) (i:=oi 0 1) (off:=0) (len:=l17_m7.length) (l:=0) (h:=((l17_m10:Nat):Int)) (by kernel_rfl) (by kernel_rfl) (by kernel_rfl) rfl g94 rfl (by omega)) ?_;refine rsB 1 ?_;refine As (tn_ ?_);refine wr_ ?_;refine Ak ?_;obtain rfl:=zj h;exact Gq [.own (oi 0 1) (.slice .int) 0 ((l17_m7.take l17_m10).length)] ((Acz (e1:=39) (e:=3) (u:=.int) (xss:=l17_m7) (n:=l17_m7.length) (k:=l17_m10) 9000 (oi 0 1) (oi 1 1) (by kernel_rfl) (by kernel_rfl) rfl (by kernel_rfl) (by omega) (by kernel_rfl) (by kernel_rfl) (by kernel_rfl)).trans ((Bn 6 (.own (oi 0 1) (.slice .int) 0 l17_m10) (.own (oi 0 1) (.slice .int) 0 ((l17_m7.take l17_m10).length)) (by kernel_rfl) (congrArg (fun z_=>((.own (oi 0 1) (.slice .int) 0 z_):AV)) ((Aee (by omega)):l17_m10=(l17_m7.take l17_m10).length))).trans (Ac (tl:=[(6,.own (oi 0 1) (.slice .int) 0 (l17_m7.take l17_m10).length)]) (g:=2) [(oi 1 1,oi 9000 6)])))
def Le:AC :=
 (.seq (.seq (rg [xo 10 (qm (tm 2)),xo 11 (qb .gtr (tm 10) (ci 0))])
 (.cond (tm 11)
  .skip
  (.exit 0)))
 (.seq (.block 1 (.seq (.seq (rg [xo 14 (qm (tm 2)),xo 15 (qb .rem (tm 14) (ci 2)),xo 16 (qb .eql (tm 15) (ci 1))])
 (.cond (tm 16)
  (rg [xo 17 (qm (tm 7)),xo 18 (qm (tm 1)),xo 19 (qb .mul (tm 17) (tm 18)),xo 20 (qm (tm 0)),xo 21 (qb .rem (tm 19) (tm 20)),xo 7 (qm (tm 21))])
  .skip))
 (rg [xo 22 (qm (tm 1)),xo 23 (qm (tm 1)),xo 24 (qb .mul (tm 22) (tm 23)),xo 25 (qm (tm 0)),xo 26 (qb .rem (tm 24) (tm 25)),xo 1 (qm (tm 26))])))
 (rg [xo 12 (qm (tm 2)),xo 13 (qb .quo (tm 12) (ci 2)),xo 2 (qm (tm 13))])))
def Pu:AC :=
 (.seq (rg [xo 6 (qm (ci 0))])
 (.seq (rg [xo 8 (qm (tm 0)),xo 9 (qb .rem (ci 1) (tm 8)),xo 7 (qm (tm 9))])
 (.seq (.block 0 (.loop Le))
 (.seq (rg [xo 27 (qm (tm 7)),xo 6 (qm (tm 27))])
 .ret))))
def Zo:List Res:=[.tmp 6]
theorem Zp:Ap Tryd.prog Tryd.f63=some (Pu,Zo):=by kernel_rfl
def Ln (a0:Int) (l5_m1:Int) (l5_m2:Int) (l5_m7:Int):Option (Ctl (Int×Int×Int) Int) :=
 cond (decide (0<l5_m2))
 (Option.bind (cond ((Int.tmod l5_m2 2)==1)
   (og (a0≠0) <|
   some (Int.tmod (wI (l5_m7*l5_m1)) a0))
   (some l5_m7)) fun l10_m7 =>
 og (a0≠0) <|
 some (Ctl.next (Int.tmod (wI (l5_m1*l5_m1)) a0,wI (Int.tdiv l5_m2 2),l10_m7)))
 (some (Ctl.out l5_m7))
def Kt (a0:Int) (a1:Int) (a2:Int):Option Int :=
 og (a0≠0) <|
Option.bind (A1 (fun s_:Int×Int×Int=>Ln a0 s_.1 s_.2.1 s_.2.2) 4611686018427387904 (a1,a2,Int.tmod 1 a0)) fun l4_m7 =>
some l4_m7
def W6 (r:Int):RV:=⟨false,[(false,[.sc (.int .i64 r)])]⟩
theorem Wh {a0:Int} {a1:Int} {a2:Int} {r:Int} (h:Kt a0 a1 a2=some r):A6 Tryd.prog Tab 63 [ai a0,ai a1,ai a2] (W6 r):=by
 refine A5 (by kernel_rfl) Tryd.func63 Zp (n:=28) (by kernel_rfl) (by simp) (tl:=[(0,ai a0),(1,ai a1),(2,ai a2)]) rfl ?_;unfold Pu;unfold Kt at h;refine Am ?_;refine Ab ?_;obtain ⟨g3,h⟩:=Aq h;refine Aa 5 ?_;refine rz0 (ai a0) ?_;refine rs0 (ai (Int.tmod 1 a0)) (Lr (k:=.i64) (a:=1) (b:=a0) (by kernel_rfl) (by kernel_rfl) g3) ?_;refine rsB 1 ?_;refine As (tn_ ?_);refine wr_ ?_;refine Ay h (fun (l4_m7:Int) S_=>S_=⟨Al [(7,ai l4_m7)],Af (Ao []),2⟩) ?_ ?_
 ·intro v_ h;refine Ai ?_;refine Az h (fun t_ S_=>∃ (l5_m1:Int),∃ (l5_m2:Int),∃ (l5_m7:Int),t_=(l5_m1,l5_m2,l5_m7)∧S_=⟨Al [(0,ai a0),(1,ai l5_m1),(2,ai l5_m2),(7,ai l5_m7)],Af (Ao []),2⟩) ⟨_,Ac [],⟨a1,a2,Int.tmod 1 a0,rfl,rfl⟩⟩ ?_;rintro n_ _ _ c_ ⟨l5_m1,l5_m2,l5_m7,rfl,rfl⟩ h hn5
  (try dsimp only at h);unfold Ln at h;unfold Le;refine Ab ?_;refine Am ?_;rcases Ad h with ⟨q8,h⟩ | ⟨q8,h⟩
  ·have q8_:=of_decide_eq_true q8;refine Ag q8 ?_;refine Aj (tn_ ?_);refine wr_ ?_;refine Ab ?_;refine Ai ?_;refine Ay h (fun (l10_m7:Int) S_=>S_=⟨Al [(0,ai a0),(1,ai l5_m1),(2,ai l5_m2),(7,ai l10_m7)],Af (Ao []),2⟩) ?_ ?_
   ·intro v_ h;refine Ab ?_;refine Aa 7 ?_;refine rz0 (ai l5_m2) ?_;refine rs0 (ai (Int.tmod l5_m2 2)) (Lr (k:=.i64) (a:=l5_m2) (b:=2) (by kernel_rfl) (by kernel_rfl) (by decide)) ?_;refine rsB 1 ?_;refine As (tn_ ?_);refine wr_ ?_;rcases Ad h with ⟨q12,h⟩ | ⟨q12,h⟩
    ·refine Ag q12 ?_;obtain ⟨g13,h⟩:=Aq h;refine Aa 13 ?_;refine rz0 (ai l5_m7) ?_;refine rz0 (ai l5_m1) ?_;refine rz0 (ai (wI (l5_m7*l5_m1))) ?_;refine rz0 (ai a0) ?_;refine rs0 (ai (Int.tmod (wI (l5_m7*l5_m1)) a0)) (Lr (k:=.i64) (a:=wI (l5_m7*l5_m1)) (b:=a0) (by kernel_rfl) (by kernel_rfl) g13) ?_;refine rsB 1 ?_;refine As (tn_ ?_);obtain rfl:=zj h;exact ⟨_,Ac [],rfl⟩
    refine Ah q12 ?_;refine Aj (tn_ ?_);obtain rfl:=zj h;exact ⟨_,Ac [],rfl⟩
   rintro l10_m7 _ rfl h
   (try dsimp only at h);obtain ⟨g14,h⟩:=Aq h;refine Aa 8 ?_;refine rz0 (ai l5_m1) ?_;refine rz0 (ai l5_m1) ?_;refine rz0 (ai (wI (l5_m1*l5_m1))) ?_;refine rz0 (ai a0) ?_;refine rs0 (ai (Int.tmod (wI (l5_m1*l5_m1)) a0)) (Lr (k:=.i64) (a:=wI (l5_m1*l5_m1)) (b:=a0) (by kernel_rfl) (by kernel_rfl) g14) ?_;refine rsB 1 ?_;refine As (bn_ (tn_ ?_));refine wr_ ?_;refine Aa 11 ?_;refine rz0 (ai l5_m2) ?_;refine rs0 (ai (wI (Int.tdiv l5_m2 2))) (Amv (k:=.i64) (a:=l5_m2) (b:=2) (by kernel_rfl) (by kernel_rfl) (by decide)) ?_;refine rsB 1 ?_;refine As (tn_ ?_);obtain rfl:=zj h;exact ⟨(Int.tmod (wI (l5_m1*l5_m1)) a0,wI (Int.tdiv l5_m2 2),l10_m7),_,Ac [],⟨Int.tmod (wI (l5_m1*l5_m1)) a0,wI (Int.tdiv l5_m2 2),l10_m7,rfl,rfl⟩,hn5⟩
  have q8_:=of_decide_eq_false q8;refine Ah q8 ?_;refine Ax (te_ (te_ (be_ (tn_ ?_))));obtain rfl:=zj h;have h:=hn5
  (try dsimp only at h);obtain rfl:=zj h;exact ⟨_,Ac [],rfl⟩
 rintro l4_m7 _ rfl h
 (try dsimp only at h);refine Am ?_;refine Ak ?_;obtain rfl:=zj h;exact Bl [ai l4_m7] (A7 rfl zl A8)
def Vp:AC :=
 (.seq (rg [xo 2 (qm (ci 0))])
 (.seq (.seq (rg [xo 3 (qm (tm 0))])
 (.cond (tm 3)
  (.seq (rg [xo 2 (qm (ci 1))])
  .ret)
  .skip))
 (.seq (rg [xo 2 (qm (ci 0))])
 .ret)))
def Ads:List Res:=[.tmp 2]
theorem Adb:Ap Tryd.prog Tryd.f64=some (Vp,Ads):=by kernel_rfl
def N1 (a0:Bool):Option Int :=
 cond a0
 (some 1)
 (some 0)
def Aaz (r:Int):RV:=⟨false,[(false,[.sc (.int .i64 r)])]⟩
theorem Abt {a0:Bool} {r:Int} (h:N1 a0=some r):A6 Tryd.prog Tab 64 [.bool a0] (Aaz r):=by
 refine A5 (by kernel_rfl) Tryd.func64 Adb (n:=4) (by kernel_rfl) (by simp) (tl:=[(0,.bool a0)]) rfl ?_;unfold Vp;unfold N1 at h;refine Am ?_;refine Ab ?_;refine Am ?_;rcases Ad h with ⟨q4,h⟩ | ⟨q4,h⟩
 ·refine Ag q4 ?_;refine Am ?_;refine Ak (tr_ ?_);obtain rfl:=zj h;exact Bl [ai 1] (A7 rfl zl A8)
 refine Ah q4 ?_;refine Aj (tn_ ?_);refine wr_ ?_;refine Am ?_;refine Ak ?_;obtain rfl:=zj h;exact Bl [ai 0] (A7 rfl zl A8)
def L2:AC :=
 (.seq (rg [xo 4 (qm (ci 0))])
 (.seq (rg [xo 5 (qm (tm 0)),xo 6 (qm (tm 1)),xo 7 (qm (tm 0)),xo 8 (qb .sub (tm 7) (ci 2)),xo 9 (qm (tm 0)),xo 10 (qb .eql (tm 9) (ci 2)),xo 11 (qc 64 [tm 10] [[]]),xo 12 (qb .add (tm 8) (tm 11)),xo 13 (qc 63 [tm 5,tm 6,tm 12] [[],[],[]]),xo 4 (qm (tm 13))])
 .ret))
def Tr:List Res:=[.tmp 4]
theorem Tj:Ap Tryd.prog Tryd.f45=some (L2,Tr):=by kernel_rfl
def Fi (a0:Int) (a1:Int):Option Int :=
 Option.bind (N1 (a0==2)) fun y3 =>
Option.bind (Kt a0 a1 (wI (wI (a0 - 2)+y3))) fun y4 =>
some y4
def Rv (r:Int):RV:=⟨false,[(false,[.sc (.int .i64 r)])]⟩
theorem Sk {a0:Int} {a1:Int} {r:Int} (h:Fi a0 a1=some r):A6 Tryd.prog Tab 45 [ai a0,ai a1] (Rv r):=by
 refine A5 (by kernel_rfl) Tryd.func45 Tj (n:=14) (by kernel_rfl) (by simp) (tl:=[(0,ai a0),(1,ai a1)]) rfl ?_;unfold L2;unfold Fi at h;refine Am ?_;refine Ab ?_;obtain ⟨y3,h3,h⟩:=Ae h;obtain ⟨y4,h4,h⟩:=Ae h;refine Aa 12 ?_;refine rz0 (ai a0) ?_;refine rz0 (ai a1) ?_;refine rz0 (ai a0) ?_;refine rz0 (ai (wI (a0 - 2))) ?_;refine rz0 (ai a0) ?_;refine rz0 (.bool (a0==2)) ?_;refine zc (ai y3) [] [.bool (a0==2)] (Abt h3) ?_;refine rz0 (ai (wI (wI (a0 - 2)+y3))) ?_;refine zc (ai y4) [] [ai a0,ai a1,ai (wI (wI (a0 - 2)+y3))] (Wh h4) ?_;refine rsB 1 ?_;refine As (tn_ ?_);refine wr_ ?_;refine Ak ?_;obtain rfl:=zj h;exact Bl [ai y4] (A7 rfl zl A8)
def Ic:AC :=
 (.seq (rg [xo 13 (qb .lss (tm 12) (tm 11))])
 (.seq (.cond (tm 13)
  .skip
  (.exit 0))
 (.seq (.block 1 (.seq (rg [xo 14 (qm (tm 12)),xo 15 (qx 1 (tm 10) (tm 12)),xo 16 (ql (tm 15)),xo 8 (qm (tm 14)),xo 9 (qm (tm 16))])
 (rg [xo 17 (qm (tm 1)),xo 18 (qm (tm 8)),xo 19 (qm (tm 0)),xo 20 (qm (tm 1)),xo 21 (qm (tm 8)),xo 22 (qx 1 (tm 20) (tm 21)),xo 23 (ql (tm 22)),xo 24 (qm (tm 2)),xo 25 (qm (tm 9)),xo 26 (qb .mul (tm 24) (tm 25)),xo 27 (qb .add (tm 23) (tm 26)),xo 28 (qc 62 [tm 19,tm 27] [[],[]]),xo 29 (qx 1 (tm 17) (tm 18)),xn (qs (tm 29) (tm 28))])))
 (rg [xo 30 (qb .add (tm 12) (ci 1)),xo 12 (qm (tm 30))]))))
def Lm:AC :=
 (.seq (rg [xo 10 (qm (tm 3)),xo 11 (.i (.len (tm 10))),xo 12 (qm (ci 0))])
 (.block 0 (.loop Ic)))
def Se:List Res:=[]
theorem R2:Ap Tryd.prog Tryd.f44=some (Lm,Se):=by kernel_rfl
theorem Kg:A2 Tryd.prog 44=true:=by kernel_rfl
def Ec (a3:List Int) (a0:Int) (a2:Int) (l3_m12:Nat) (l3_m1:List Int):Option (Ctl (Nat×List Int) (List Int)) :=
 cond (decide (((l3_m12:Nat):Int)<((a3.length:Nat):Int)))
 (Option.bind (a3[l3_m12]?) fun x9 =>
 Option.bind (l3_m1[l3_m12]?) fun x10 =>
 Option.bind (I4 a0 (wI (x10+wI (a2*x9)))) fun y11 =>
 og (l3_m12+1<4611686018427387904) <|
 some (Ctl.next (l3_m12+1,l3_m1.set l3_m12 y11)))
 (some (Ctl.out l3_m1))
def Dd (a0:Int) (a1:List Int) (a2:Int) (a3:List Int):Option (List Int) :=
 A1 (fun s_:Nat×List Int=>Ec a3 a0 a2 s_.1 s_.2) 4611686018427387904 (0,a1)
theorem Kk {a0:Int} {a1:List Int} {a2:Int} {a3:List Int} {r:List Int} (h:Dd a0 a1 a2 a3=some r) {n_a1:Nat} (hn_a1:n_a1=a1.length):Eg Tryd.prog Tab 44 [ai a0,.own (oi 0 0) .int 0 n_a1,ai a2,.tree .int a3] [(oi 0 0,.arr 3 .int a1)] (.tup []) [(oi 0 0,.arr 3 .int r)]:=by
 refine Cn (by kernel_rfl) Tryd.func44 R2 (n:=31) (by kernel_rfl) (by simp) (tl:=[(0,ai a0),(1,.own (oi 0 0) .int 0 n_a1),(2,ai a2),(3,.tree .int a3)]) rfl (by kernel_rfl) ⟨trivial,trivial⟩ ⟨trivial,trivial⟩ ?_;unfold Lm;unfold Dd at h;refine Am ?_;refine Ai ?_;refine Az h (fun t_ S_=>∃ (l3_m12:Nat),∃ (l3_m1:List Int),t_=(l3_m12,l3_m1)∧S_=⟨Al [(0,ai a0),(1,.own (oi 0 0) .int 0 l3_m1.length),(2,ai a2),(10,.tree .int a3),(11,ai ((a3.length:Nat):Int)),(12,ai ((l3_m12:Nat):Int))],Af (Ao [(oi 0 0,.arr 3 .int l3_m1)]),2⟩) ⟨_,(Bn 1 (.own (oi 0 0) .int 0 n_a1) (.own (oi 0 0) .int 0 a1.length) (by kernel_rfl) (congrArg (fun z_=>((.own (oi 0 0) .int 0 z_):AV)) (hn_a1:n_a1=a1.length))).trans (Ac []),⟨0,a1,rfl,rfl⟩⟩ ?_;rintro n_ _ _ c_ ⟨l3_m12,l3_m1,rfl,rfl⟩ h hn3
 (try dsimp only at h);unfold Ec at h;unfold Ic;refine Am ?_;refine Ab ?_;rcases Ad h with ⟨q6,h⟩ | ⟨q6,h⟩
 ·have q6_:=of_decide_eq_true q6;refine Ag q6 ?_;refine Aj (tn_ ?_);refine wr_ ?_;refine Ab ?_;refine Ai ?_;refine Ab ?_;obtain ⟨x9,e9,h⟩:=Ae h;refine Aa 8 ?_;refine rz0 (ai ((l3_m12:Nat):Int)) ?_;refine rs0 (.telt none .int x9 0) (zi (t:=.int) (xs:=a3) (k:=.i64) (m:=((l3_m12:Nat):Int)) (A0 _) e9) ?_;refine rsB 3 ?_;refine As (tn_ ?_);refine wr_ ?_;obtain ⟨x10,e10,h⟩:=Ae h;obtain ⟨y11,h11,h⟩:=Ae h;refine Aa 22 ?_;refine rz0 (.own (oi 0 0) .int 0 l3_m1.length) ?_;refine rz0 (ai ((l3_m12:Nat):Int)) ?_;refine rz0 (ai a0) ?_;refine rz0 (.own (oi 0 0) .int 0 l3_m1.length) ?_;refine rz0 (ai ((l3_m12:Nat):Int)) ?_;refine rs0 (.elt (oi 0 0) l3_m12 0) (zo (t:=.int) (o:=oi 0 0) (len:=l3_m1.length) (k:=.i64) (m:=((l3_m12:Nat):Int)) (A0 _) (At e10)) ?_;refine rsl (ai x10) (Ip (i:=oi 0 0) (j:=l3_m12) (k:=0) (e:=3) (t:=.int) (xs:=l3_m1) (by kernel_rfl) (by kernel_rfl) e10 (by kernel_rfl)) ?_;refine rz0 (ai a2) ?_;refine rz0 (ai x9) ?_;refine rz0 (ai (wI (a2*x9))) ?_;refine rz0 (ai (wI (x10+wI (a2*x9)))) ?_;refine zc (ai y11) [] [ai a0,ai (wI (x10+wI (a2*x9)))] (Abo h11) ?_;refine rs0 (.elt (oi 0 0) l3_m12 0) (zo (t:=.int) (o:=oi 0 0) (len:=l3_m1.length) (k:=.i64) (m:=((l3_m12:Nat):Int)) (A0 _) (At e10)) ?_;refine Afl (oi 0 0) (oi 0 0) (.arr 3 .int (l3_m1.set l3_m12 y11)) (Tl (i:=oi 0 0) (j:=l3_m12) (k:=0) (e:=3) (t:=.int) (xs:=l3_m1) (cs:=[ai y11]) (x1:=y11) (by kernel_rfl) (by kernel_rfl) e10 (by kernel_rfl) (by kernel_rfl)) ?_;refine As (bn_ (tn_ ?_));refine wr_ ?_;obtain ⟨g12,h⟩:=Aq h;refine Aa 24 ?_;refine rs0 (ai ((l3_m12+1:Nat):Int)) (za g12) ?_;refine rsB 1 ?_;refine As (tn_ ?_);obtain rfl:=zj h;exact ⟨(l3_m12+1,l3_m1.set l3_m12 y11),_,(Bn 1 (.own (oi 0 0) .int 0 l3_m1.length) (.own (oi 0 0) .int 0 ((l3_m1.set l3_m12 y11).length)) (by kernel_rfl) (congrArg (fun z_=>((.own (oi 0 0) .int 0 z_):AV)) (((rfl:l3_m1.length=l3_m1.length).trans List.length_set.symm):l3_m1.length=(l3_m1.set l3_m12 y11).length))).trans (Ac []),⟨l3_m12+1,l3_m1.set l3_m12 y11,rfl,rfl⟩,hn3⟩
 have q6_:=of_decide_eq_false q6;refine Ah q6 ?_;refine Ax (te_ (te_ (be_ ?_)));obtain rfl:=zj h;have h:=hn3
 (try dsimp only at h);obtain rfl:=zj h;exact Gq [] (Ac (tl:=[]) (g:=2) [])
def Ka:AC :=
 (.seq (rg [xo 12 (qb .lss (tm 11) (tm 10))])
 (.seq (.cond (tm 12)
  .skip
  (.exit 0))
 (.seq (.block 1 (.seq (rg [xo 13 (qx 1 (tm 9) (tm 11)),xo 14 (ql (tm 13)),xo 5 (qm (tm 14))])
 (rg [xo 15 (qm (tm 3)),xo 16 (qm (tm 5)),xo 17 (qc 55 [tm 16] [[some .int]]),xo 18 (.mkV 39 (.slice .int) 1 [tm 17]),xo 19 (.appV 39 (.slice .int) 24 (tm 15) (tm 18)),xo 3 (qm (tm 19))])))
 (rg [xo 20 (qb .add (tm 11) (ci 1)),xo 11 (qm (tm 20))]))))
def Nu:AC :=
 (.seq (rg [xo 2 (qm (.cst .nils))])
 (.seq (rg [xo 6 (qm (tm 0)),xo 7 (.i (.len (tm 6))),xo 8 (.makeV 39 (.slice .int) 24 [.nils] (ci 0) (tm 7)),xo 3 (qm (tm 8))])
 (.seq (.seq (rg [xo 9 (qm (tm 0)),xo 10 (.i (.len (tm 9))),xo 11 (qm (ci 0))])
 (.block 0 (.loop Ka)))
 (.seq (rg [xo 21 (qm (tm 3)),xo 2 (qm (tm 21))])
 .ret))))
def Vz:List Res:=[.tmp 2]
theorem Wl:Ap Tryd.prog Tryd.f29=some (Nu,Vz):=by kernel_rfl
theorem Ie:A2 Tryd.prog 29=true:=by kernel_rfl
def Cy (a0:List (List Int)) (l7_m11:Nat) (l7_m3:List (List Int)):Option (Ctl (Nat×List (List Int)) (List (List Int))) :=
 cond (decide (((l7_m11:Nat):Int)<((a0.length:Nat):Int)))
 (Option.bind (a0[l7_m11]?) fun x13 =>
 Option.bind (Fm x13) fun y14 =>
 og (l7_m3.length+1<=1073741824∧(l7_m3.length+1)*24<=140737488355328) <|
 og (l7_m11+1<4611686018427387904) <|
 some (Ctl.next (l7_m11+1,l7_m3++[y14])))
 (some (Ctl.out l7_m3))
def Do (a0:List (List Int)):Option (List (List Int)) :=
 og (0<=(0:Int)∧(0:Int)<=((a0.length:Nat):Int)∧((a0.length:Nat):Int)<=1073741824∧(24:Int)*((a0.length:Nat):Int)<=140737488355328) <|
Option.bind (A1 (fun s_:Nat×List (List Int)=>Cy a0 s_.1 s_.2) 4611686018427387904 (0,List.replicate 0 ([]:List Int))) fun l5_m3 =>
some l5_m3
theorem Id {a0:List (List Int)} {r:List (List Int)} (h:Do a0=some r):Eg Tryd.prog Tab 29 [.tree (.slice .int) a0] [] (.own (oi 0 1) (.slice .int) 0 r.length) [(oi 0 1,.mat 39 (oi 1 1) .int r),(oi 1 1,.pool 3 .int r)]:=by
 refine Cn (by kernel_rfl) Tryd.func29 Wl (n:=22) (by kernel_rfl) (by simp) (tl:=[(0,.tree (.slice .int) a0)]) rfl (by kernel_rfl) trivial ⟨⟨3,.tail _ (.head _)⟩,⟨trivial,trivial⟩⟩ ?_;unfold Nu;unfold Do at h;refine Am ?_;refine Ab ?_;obtain ⟨g4,h⟩:=Aq h;refine Aa 6 ?_;refine rz0 (.tree (.slice .int) a0) ?_;refine rz0 (ai ((a0.length:Nat):Int)) ?_;refine Acw (.own (oi 128 4) (.slice .int) 0 0) (oi 128 4) 39 3 .int (List.replicate 0 ([]:List Int)) trivial (Ya (j:=0) (k:=.i64) (k':=.i64) (m:=0) (c:=((a0.length:Nat):Int)) 3 (by kernel_rfl) (by kernel_rfl) g4 (by kernel_rfl) rfl) (by kernel_rfl) (by rw [List.length_replicate]) (by kernel_rfl) ?_;refine rsB 1 ?_;refine As (tn_ ?_);refine wr_ ?_;refine Ay h (fun (l5_m3:List (List Int)) S_=>S_=⟨Al [(3,.own (oi 0 1) (.slice .int) 0 l5_m3.length)],Af (Ao [(oi 0 1,.mat 39 (oi 1 1) .int l5_m3),(oi 1 1,.pool 3 .int l5_m3)]),2⟩) ?_ ?_
 ·intro v_ h;refine Am ?_;refine Ai ?_;refine Az h (fun t_ S_=>∃ (l7_m11:Nat),∃ (l7_m3:List (List Int)),t_=(l7_m11,l7_m3)∧S_=⟨Al [(3,.own (oi 0 1) (.slice .int) 0 l7_m3.length),(9,.tree (.slice .int) a0),(10,ai ((a0.length:Nat):Int)),(11,ai ((l7_m11:Nat):Int))],Af (Ao [(oi 0 1,.mat 39 (oi 1 1) .int l7_m3),(oi 1 1,.pool 3 .int l7_m3)]),2⟩) ⟨_,(Bn 3 (.own (oi 128 4) (.slice .int) 0 0) (.own (oi 128 4) (.slice .int) 0 ((List.replicate 0 ([]:List Int)).length)) (by kernel_rfl) (congrArg (fun z_=>((.own (oi 128 4) (.slice .int) 0 z_):AV)) (List.length_replicate.symm:0=(List.replicate 0 ([]:List Int)).length))).trans (Ac [(oi 0 1,oi 128 4),(oi 1 1,oi 128 4)]),⟨0,List.replicate 0 ([]:List Int),rfl,rfl⟩⟩ ?_;rintro n_ _ _ c_ ⟨l7_m11,l7_m3,rfl,rfl⟩ h hn7
  (try dsimp only at h);unfold Cy at h;unfold Ka;refine Am ?_;refine Ab ?_;rcases Ad h with ⟨q10,h⟩ | ⟨q10,h⟩
  ·have q10_:=of_decide_eq_true q10;refine Ag q10 ?_;refine Aj (tn_ ?_);refine wr_ ?_;refine Ab ?_;refine Ai ?_;refine Ab ?_;obtain ⟨x13,e13,h⟩:=Ae h;refine Aa 6 ?_;refine rs0 (.telt none (.slice .int) x13 0) (zi (t:=.slice .int) (xs:=a0) (k:=.i64) (m:=((l7_m11:Nat):Int)) (A0 _) e13) ?_;refine rsB 2 ?_;refine As (tn_ ?_);refine wr_ ?_;obtain ⟨y14,h14,h⟩:=Ae h;obtain ⟨g15,h⟩:=Aq h;refine Aa 12 ?_;refine rz0 (.own (oi 0 1) (.slice .int) 0 l7_m3.length) ?_;refine rz0 (.tree .int x13) ?_;refine zc (.own (oi 272 8) .int 0 y14.length) [(oi 272 8,some (.arr 3 .int y14))] [.tree .int x13] (Np h14) ?_;refine Akk (.own (oi 18 9) (.slice .int) 0 1) (oi 18 9) (.vec 39 1 1 ([.own (oi 272 8) .int 0 y14.length])) trivial (Aer (by kernel_rfl)) ?_;refine rs2 (.own (oi 0 10) (.slice .int) 0 (l7_m3.length+1)) (oi 0 1) (oi 0 10) (.vec 39 1 (l7_m3.length+1) (hdL (oi 1 1) .int l7_m3++[.own (oi 272 8) .int 0 y14.length])) (Y9 (u:=.int) (t':=.slice .int) (t2:=.slice .int) (o:=oi 0 1) (q:=oi 18 9) (e2:=39) (p:=oi 1 1) (xss:=l7_m3) (cs:=[.own (oi 272 8) .int 0 y14.length]) (len:=l7_m3.length) (by kernel_rfl) (by kernel_rfl) rfl (by kernel_rfl) (by kernel_rfl) rfl g15) ?_;refine rsB 1 ?_;refine As (bn_ (tn_ ?_));refine ⟨_,Q8 (e1:=39) (e:=3) (u:=.int) (n:=l7_m3.length+1) (len:=y14.length) (row:=y14) (ys:=y14) (xss:=l7_m3) 9000 (oi 0 10) (oi 1 1) (oi 272 8) (by kernel_rfl) (by kernel_rfl) rfl (by kernel_rfl) (by kernel_rfl) (Ad7 rfl) (Aep rfl) (by kernel_rfl) (by kernel_rfl) (by kernel_rfl),?_⟩;obtain ⟨g16,h⟩:=Aq h;refine Aa 15 ?_;refine rs0 (ai ((l7_m11+1:Nat):Int)) (za g16) ?_;refine rsB 1 ?_;refine As (tn_ ?_);obtain rfl:=zj h;exact ⟨(l7_m11+1,l7_m3++[y14]),_,(Bn 3 (.own (oi 0 10) (.slice .int) 0 (l7_m3.length+1)) (.own (oi 0 10) (.slice .int) 0 ((l7_m3++[y14]).length)) (by kernel_rfl) (congrArg (fun z_=>((.own (oi 0 10) (.slice .int) 0 z_):AV)) ((by simp):l7_m3.length+1=(l7_m3++[y14]).length))).trans (Ac [(oi 0 1,oi 0 10),(oi 1 1,oi 9000 12)]),⟨l7_m11+1,l7_m3++[y14],rfl,rfl⟩,hn7⟩
  have q10_:=of_decide_eq_false q10;refine Ah q10 ?_;refine Ax (te_ (te_ (be_ (tn_ ?_))));obtain rfl:=zj h;have h:=hn7
  (try dsimp only at h);obtain rfl:=zj h;exact ⟨_,Ac [],rfl⟩
 rintro l5_m3 _ rfl h
 (try dsimp only at h);refine Am ?_;refine Ak ?_;obtain rfl:=zj h;exact Gq [.own (oi 0 1) (.slice .int) 0 l5_m3.length] (Ac (tl:=[(2,.own (oi 0 1) (.slice .int) 0 l5_m3.length)]) (g:=2) [])
def En:AC :=
 (.seq (rg [xo 44 (qb .lss (tm 43) (tm 42))])
   (.seq (.cond (tm 44)
    .skip
    (.exit 1))
   (.seq (.block 2 (.seq (rg [xo 45 (qm (tm 43)),xo 46 (qx 1 (tm 41) (tm 43)),xo 47 (ql (tm 46)),xo 7 (qm (tm 45)),xo 8 (qm (tm 47))])
   (.region [xo 48 (qm (tm 2)),xo 49 (qf 1 (tm 3)),xo 50 (ql (tm 49)),xo 51 (qx 1 (tm 48) (tm 50)),xo 52 (ql (tm 51)),xo 53 (qm (tm 7)),xo 54 (qm (tm 8)),xo 55 (qm (tm 6)),xo 56 (qb .mul (tm 54) (tm 55)),xo 57 (qm (tm 1)),xo 58 (qb .rem (tm 56) (tm 57)),xo 59 (qx 1 (tm 52) (tm 53)),xn (qs (tm 59) (tm 58))] true [])))
   (rg [xo 60 (qb .add (tm 43) (ci 1)),xo 43 (qm (tm 60))]))))
def Fv:AC :=
 (.seq (rg [xo 3 (.i (.box 70 (tm 0)))])
 (.seq (rg [xo 9 (qf 0 (tm 3)),xo 10 (ql (tm 9))])
 (.block 0 (.seq (rg [xo 12 (qb .eql (tm 10) (ci 0)),xo 11 (qm (tm 12))])
 (.cond (tm 11)
  (.region [xo 13 (qm (tm 2)),xo 14 (qf 1 (tm 3)),xo 15 (ql (tm 14)),xo 16 (qm (tm 2)),xo 17 (qf 2 (tm 3)),xo 18 (ql (tm 17)),xo 19 (qm (tm 2)),xo 20 (qf 2 (tm 3)),xo 21 (ql (tm 20)),xo 22 (qx 1 (tm 19) (tm 21)),xo 23 (ql (tm 22)),xo 24 (qm (tm 2)),xo 25 (qf 1 (tm 3)),xo 26 (ql (tm 25)),xo 27 (qx 1 (tm 24) (tm 26)),xo 28 (ql (tm 27)),xo 29 (qx 1 (tm 13) (tm 15)),xn (qs (tm 29) (tm 23)),xo 30 (qx 1 (tm 16) (tm 18)),xn (qs (tm 30) (tm 28))] true [(5,17)])
  (.seq (rg [xo 32 (qb .eql (tm 10) (ci 1)),xo 31 (qm (tm 32))])
  (.cond (tm 31)
   (.seq (rg [xo 33 (qm (tm 1)),xo 34 (qf 3 (tm 3)),xo 35 (ql (tm 34)),xo 36 (qc 45 [tm 33,tm 35] [[],[]]),xo 6 (qm (tm 36))])
   (.seq (rg [xo 37 (qm (tm 2)),xo 38 (qf 1 (tm 3)),xo 39 (ql (tm 38)),xo 40 (qx 1 (tm 37) (tm 39)),xo 41 (ql (tm 40)),xo 42 (.i (.len (tm 41))),xo 43 (qm (ci 0))])
   (.block 1 (.loop En))))
   (.seq (rg [xo 62 (qb .eql (tm 10) (ci 2)),xo 61 (qm (tm 62))])
   (.cond (tm 61)
    (.region [xo 63 (qm (tm 1)),xo 64 (qm (tm 2)),xo 65 (qf 1 (tm 3)),xo 66 (ql (tm 65)),xo 67 (qx 1 (tm 64) (tm 66)),xo 68 (ql (tm 67)),xo 69 (qf 3 (tm 3)),xo 70 (ql (tm 69)),xo 71 (.i (.neg (tm 70))),xo 72 (qm (tm 2)),xo 73 (qf 2 (tm 3)),xo 74 (ql (tm 73)),xo 75 (qx 1 (tm 72) (tm 74)),xo 76 (ql (tm 75)),xo 77 (qc 44 [tm 63,tm 68,tm 71,tm 76] [[],[some .int],[],[some .int]])] true [])
    .skip)))))))))
def Jf:List Res:=[]
theorem Jg:Ap Tryd.prog Tryd.f67=some (Fv,Jf):=by kernel_rfl
theorem Fe:A2 Tryd.prog 67=true:=by kernel_rfl
def Bv (x13:List Int) (a0_1:Int) (a1:Int) (y11:Int) (l14_m43:Nat) (l14_m2:List (List Int)):Option (Ctl (Nat×List (List Int)) (List (List Int))) :=
 cond (decide (((l14_m43:Nat):Int)<((x13.length:Nat):Int)))
 (Option.bind (Q7 l14_m2 a0_1) fun x20 =>
 og (0<=((l14_m43:Nat):Int)∧l14_m43<x13.length) <|
 Option.bind (x20[l14_m43]?) fun x22 =>
 og (a1≠0) <|
 og (l14_m43+1<4611686018427387904) <|
 some (Ctl.next (l14_m43+1,l14_m2.set a0_1.toNat (x20.set l14_m43 (Int.tmod (wI (x22*y11)) a1)))))
 (some (Ctl.out l14_m2))
def A4 (a0_0:Int) (a0_1:Int) (a0_2:Int) (a0_3:Int) (a1:Int) (a2:List (List Int)):Option (List (List Int)) :=
 cond (a0_0==0)
 (Option.bind (Q7 a2 a0_2) fun x6 =>
 Option.bind (Q7 a2 a0_1) fun x7 =>
 some ((a2.set a0_1.toNat x6).set a0_2.toNat x7))
 (cond (a0_0==1)
  (Option.bind (Fi a1 a0_3) fun y11 =>
  Option.bind (Q7 a2 a0_1) fun x13 =>
  A1 (fun s_:Nat×List (List Int)=>Bv x13 a0_1 a1 y11 s_.1 s_.2) 4611686018427387904 (0,a2))
  (cond (a0_0==2)
   (Option.bind (Q7 a2 a0_1) fun x27 =>
   Option.bind (Q7 a2 a0_2) fun x28 =>
   og (a0_1.toNat≠a0_2.toNat) <|
   Option.bind (Dd a1 x27 (wI (0 - a0_3)) x28) fun y30 =>
   og (y30.length=x27.length) <|
   some (a2.set a0_1.toNat y30))
   (some a2)))
theorem E6 {a0_0:Int} {a0_1:Int} {a0_2:Int} {a0_3:Int} {a1:Int} {a2:List (List Int)} {r:List (List Int)} (h:A4 a0_0 a0_1 a0_2 a0_3 a1 a2=some r) {n_a2:Nat} (hn_a2:n_a2=a2.length):Eg Tryd.prog Tab 67 [.agg [ai a0_0,ai a0_1,ai a0_2,ai a0_3],ai a1,.own (oi 0 0) (.slice .int) 0 n_a2] [(oi 0 0,.mat 39 (oi 1 0) .int a2),(oi 1 0,.pool 3 .int a2)] (.tup []) [(oi 0 0,.mat 39 (oi 0 1) .int r),(oi 0 1,.pool 3 .int r)]:=by
 refine Cn (by kernel_rfl) Tryd.func67 Jg (n:=78) (by kernel_rfl) (by simp) (tl:=[(0,.agg [ai a0_0,ai a0_1,ai a0_2,ai a0_3]),(1,ai a1),(2,.own (oi 0 0) (.slice .int) 0 n_a2)]) rfl (by kernel_rfl) ⟨⟨3,.tail _ (.head _)⟩,⟨trivial,trivial⟩⟩ ⟨⟨3,.tail _ (.head _)⟩,⟨trivial,trivial⟩⟩ ?_;unfold Fv;unfold A4 at h;refine Am ?_;refine Am ?_;refine Ai ?_;refine Am ?_;rcases Ad h with ⟨q5,h⟩ | ⟨q5,h⟩
 ·refine Ag q5 ?_;obtain ⟨x6,f6,h⟩:=Ae h;obtain ⟨p6,b6,e6⟩:=Ew f6;obtain ⟨x7,f7,h⟩:=Ae h;obtain ⟨p7,b7,e7⟩:=Ew f7;refine Bb 26 ?_;refine dz0 (.own (oi 0 0) (.slice .int) 0 n_a2) ?_;refine dz0 (.box (oi 3 1) 1) ?_;refine dzl (ai a0_1) ?_;refine dz0 (.own (oi 0 0) (.slice .int) 0 n_a2) ?_;refine dz0 (.box (oi 3 1) 2) ?_;refine dzl (ai a0_2) ?_;refine dz0 (.own (oi 0 0) (.slice .int) 0 n_a2) ?_;refine dz0 (.box (oi 3 1) 2) ?_;refine dzl (ai a0_2) ?_;refine ds0 (.elt (oi 0 0) a0_2.toNat 0) (zo (t:=.slice .int) (o:=oi 0 0) (len:=n_a2) (k:=.i64) (m:=a0_2) p6 (Nat.lt_of_lt_of_le (At e6) (Nat.le_of_eq (Eq.symm hn_a2)))) ?_;refine dsl (.own (kid (oi 1 0) a0_2.toNat) .int 0 x6.length) (Eo (o:=oi 0 0) (p:=oi 1 0) (e1:=39) (u:=.int) (xss:=a2) (row:=x6) (j:=a0_2.toNat) (by kernel_rfl) (by kernel_rfl) e6) ?_;refine dz0 (.own (oi 0 0) (.slice .int) 0 n_a2) ?_;refine dz0 (.box (oi 3 1) 1) ?_;refine dzl (ai a0_1) ?_;refine ds0 (.elt (oi 0 0) a0_1.toNat 0) (zo (t:=.slice .int) (o:=oi 0 0) (len:=n_a2) (k:=.i64) (m:=a0_1) p7 (Nat.lt_of_lt_of_le (At e7) (Nat.le_of_eq (Eq.symm hn_a2)))) ?_;refine dsl (.own (kid (oi 1 0) a0_1.toNat) .int 0 x7.length) (Eo (o:=oi 0 0) (p:=oi 1 0) (e1:=39) (u:=.int) (xss:=a2) (row:=x7) (j:=a0_1.toNat) (by kernel_rfl) (by kernel_rfl) e7) ?_;refine ds0 (.elt (oi 0 0) a0_1.toNat 0) (zo (t:=.slice .int) (o:=oi 0 0) (len:=n_a2) (k:=.i64) (m:=a0_1) p7 (Nat.lt_of_lt_of_le (At e7) (Nat.le_of_eq (Eq.symm hn_a2)))) ?_;refine Aca (oi 0 0) (oi 0 0) (.vec 39 1 n_a2 ((hdL (oi 1 0) .int a2).set a0_1.toNat (.own (kid (oi 1 0) a0_2.toNat) .int 0 x6.length))) (Aaj (o:=oi 0 0) (e1:=39) (m:=n_a2) (cs:=hdL (oi 1 0) .int a2) (v:=.own (kid (oi 1 0) a0_2.toNat) .int 0 x6.length) (j:=a0_1.toNat) (by kernel_rfl) (Amu (by kernel_rfl) hn_a2) (by kernel_rfl) rfl (by rw [Dj]; exact At e7)) ?_;refine ds0 (.elt (oi 0 0) a0_2.toNat 0) (zo (t:=.slice .int) (o:=oi 0 0) (len:=n_a2) (k:=.i64) (m:=a0_2) p6 (Nat.lt_of_lt_of_le (At e6) (Nat.le_of_eq (Eq.symm hn_a2)))) ?_;refine Aca (oi 0 0) (oi 0 0) (.vec 39 1 n_a2 (((hdL (oi 1 0) .int a2).set a0_1.toNat (.own (kid (oi 1 0) a0_2.toNat) .int 0 x6.length)).set a0_2.toNat (.own (kid (oi 1 0) a0_1.toNat) .int 0 x7.length))) (Aaj (o:=oi 0 0) (e1:=39) (m:=n_a2) (cs:=(hdL (oi 1 0) .int a2).set a0_1.toNat (.own (kid (oi 1 0) a0_2.toNat) .int 0 x6.length)) (v:=.own (kid (oi 1 0) a0_1.toNat) .int 0 x7.length) (j:=a0_2.toNat) (by kernel_rfl) (by kernel_rfl) (by kernel_rfl) rfl (by rw [List.length_set,Dj]; exact At e6)) ?_;refine Ky (Bx (by kernel_rfl)) (bn_ ?_);obtain rfl:=zj h;exact Gq [] ((U3 (e1:=39) (e:=3) (u:=.int) (xss:=a2) (i:=a0_1.toNat) (j:=a0_2.toNat) (n:=n_a2) (li:=x7.length) (lj:=x6.length) (ri:=x7) (rj:=x6) 9000 (oi 0 0) (oi 1 0) (by kernel_rfl) (by kernel_rfl) hn_a2 (by kernel_rfl) e7 e6 rfl rfl (by kernel_rfl) (by kernel_rfl)).trans (Ac (tl:=[]) (g:=2) [(oi 0 1,oi 9000 26)]))
 refine Ah q5 ?_;refine Am ?_;rcases Ad h with ⟨q9,h⟩ | ⟨q9,h⟩
 ·refine Ag q9 ?_;refine Ab ?_;obtain ⟨y11,h11,h⟩:=Ae h;refine Aa 13 ?_;refine rz0 (ai a1) ?_;refine rz0 (.box (oi 3 1) 3) ?_;refine rzl (ai a0_3) ?_;refine zc (ai y11) [] [ai a1,ai a0_3] (Sk h11) ?_;refine rsB 1 ?_;refine As (tn_ ?_);refine wr_ ?_;refine Ab ?_;obtain ⟨x13,f13,h⟩:=Ae h;obtain ⟨p13,b13,e13⟩:=Ew f13;refine Aa 20 ?_;refine rz0 (.own (oi 0 0) (.slice .int) 0 n_a2) ?_;refine rz0 (.box (oi 3 1) 1) ?_;refine rzl (ai a0_1) ?_;refine rs0 (.elt (oi 0 0) a0_1.toNat 0) (zo (t:=.slice .int) (o:=oi 0 0) (len:=n_a2) (k:=.i64) (m:=a0_1) p13 (Nat.lt_of_lt_of_le (At e13) (Nat.le_of_eq (Eq.symm hn_a2)))) ?_;refine rsl (.own (kid (oi 1 0) a0_1.toNat) .int 0 x13.length) (Eo (o:=oi 0 0) (p:=oi 1 0) (e1:=39) (u:=.int) (xss:=a2) (row:=x13) (j:=a0_1.toNat) (by kernel_rfl) (by kernel_rfl) e13) ?_;refine rsB 2 ?_;refine As (tn_ ?_);refine wr_ ?_;refine Ai ?_;refine Az h (fun t_ S_=>∃ (l14_m43:Nat),∃ (l14_m2:List (List Int)),t_=(l14_m43,l14_m2)∧S_=⟨Al [(1,ai a1),(2,.own (oi 0 0) (.slice .int) 0 l14_m2.length),(3,.box (oi 1 1) 0),(6,ai y11),(41,.own (kid (oi 0 1) a0_1.toNat) .int 0 x13.length),(42,ai ((x13.length:Nat):Int)),(43,ai ((l14_m43:Nat):Int))],Af (Ao [(oi 0 0,.mat 39 (oi 0 1) .int l14_m2),(oi 0 1,.pool 3 .int l14_m2),(oi 1 1,.cells 70 [ai a0_0,ai a0_1,ai a0_2,ai a0_3])]),2⟩) ⟨_,(Bn 2 (.own (oi 0 0) (.slice .int) 0 n_a2) (.own (oi 0 0) (.slice .int) 0 a2.length) (by kernel_rfl) (congrArg (fun z_=>((.own (oi 0 0) (.slice .int) 0 z_):AV)) (hn_a2:n_a2=a2.length))).trans (Ac [(oi 0 1,oi 1 0),(oi 1 1,oi 3 1)]),⟨0,a2,rfl,rfl⟩⟩ ?_;rintro n_ _ _ c_ ⟨l14_m43,l14_m2,rfl,rfl⟩ h hn14
  (try dsimp only at h);unfold Bv at h;unfold En;refine Am ?_;refine Ab ?_;rcases Ad h with ⟨q17,h⟩ | ⟨q17,h⟩
  ·have q17_:=of_decide_eq_true q17;refine Ag q17 ?_;refine Aj (tn_ ?_);refine wr_ ?_;refine Ab ?_;refine Ai ?_;refine Ab ?_;obtain ⟨x20,f20,h⟩:=Ae h;obtain ⟨p20,b20,e20⟩:=Ew f20;obtain ⟨g21,h⟩:=Aq h;obtain ⟨x22,e22,h⟩:=Ae h;refine Aa 8 ?_;refine rz0 (ai ((l14_m43:Nat):Int)) ?_;refine rs0 (.elt (kid (oi 0 1) a0_1.toNat) l14_m43 0) (Aly (t:=.int) (o:=kid (oi 0 1) a0_1.toNat) (off:=0) (len:=x13.length) (k:=.i64) (m:=((l14_m43:Nat):Int)) (by kernel_rfl) (by kernel_rfl) rfl g21.1 (Nat.zero_add _) g21.2) ?_;refine rsl (ai x22) (Ip (i:=kid (oi 0 1) a0_1.toNat) (j:=l14_m43) (k:=0) (e:=3) (t:=.int) (xs:=x20) (by kernel_rfl) (Be (by kernel_rfl) e20) e22 (by kernel_rfl)) ?_;refine rsB 2 ?_;refine As (tn_ ?_);refine wr_ ?_;obtain ⟨g23,h⟩:=Aq h;refine Bb 21 ?_;refine dz0 (.own (oi 0 0) (.slice .int) 0 l14_m2.length) ?_;refine dz0 (.box (oi 1 1) 1) ?_;refine dzl (ai a0_1) ?_;refine ds0 (.elt (oi 0 0) a0_1.toNat 0) (zo (t:=.slice .int) (o:=oi 0 0) (len:=l14_m2.length) (k:=.i64) (m:=a0_1) p20 (At e20)) ?_;refine dsl (.own (kid (oi 0 1) a0_1.toNat) .int 0 x20.length) (Eo (o:=oi 0 0) (p:=oi 0 1) (e1:=39) (u:=.int) (xss:=l14_m2) (row:=x20) (j:=a0_1.toNat) (by kernel_rfl) (by kernel_rfl) e20) ?_;refine dz0 (ai ((l14_m43:Nat):Int)) ?_;refine dz0 (ai x22) ?_;refine dz0 (ai y11) ?_;refine dz0 (ai (wI (x22*y11))) ?_;refine dz0 (ai a1) ?_;refine ds0 (ai (Int.tmod (wI (x22*y11)) a1)) (Lr (k:=.i64) (a:=wI (x22*y11)) (b:=a1) (by kernel_rfl) (by kernel_rfl) g23) ?_;refine ds0 (.elt (kid (oi 0 1) a0_1.toNat) l14_m43 0) (zo (t:=.int) (o:=kid (oi 0 1) a0_1.toNat) (len:=x20.length) (k:=.i64) (m:=((l14_m43:Nat):Int)) (A0 _) (At e22)) ?_;refine Aca (kid (oi 0 1) a0_1.toNat) (kid (oi 0 1) a0_1.toNat) (.arr 3 .int (x20.set l14_m43 (Int.tmod (wI (x22*y11)) a1))) (Tl (i:=kid (oi 0 1) a0_1.toNat) (j:=l14_m43) (k:=0) (e:=3) (t:=.int) (xs:=x20) (cs:=[ai (Int.tmod (wI (x22*y11)) a1)]) (x1:=Int.tmod (wI (x22*y11)) a1) (by kernel_rfl) (Xt.trans (Be (by kernel_rfl) e20)) e22 (by kernel_rfl) (by kernel_rfl)) ?_;refine Ae3 (Vg (o:=oi 0 0) (p:=oi 0 1) (e1:=39) (e:=3) (u:=.int) (xss:=l14_m2) (k:=a0_1.toNat) (row:=x20) (row':=x20.set l14_m43 (Int.tmod (wI (x22*y11)) a1)) (by kernel_rfl) rfl (by kernel_rfl) e20 List.length_set) ?_;refine Ky (Bx (by kernel_rfl)) (bn_ (tn_ ?_));refine wr_ ?_;obtain ⟨g24,h⟩:=Aq h;refine Aa 23 ?_;refine rs0 (ai ((l14_m43+1:Nat):Int)) (za g24) ?_;refine rsB 1 ?_;refine As (tn_ ?_);obtain rfl:=zj h;exact ⟨(l14_m43+1,l14_m2.set a0_1.toNat (x20.set l14_m43 (Int.tmod (wI (x22*y11)) a1))),_,(Bn 2 (.own (oi 0 0) (.slice .int) 0 l14_m2.length) (.own (oi 0 0) (.slice .int) 0 ((l14_m2.set a0_1.toNat (x20.set l14_m43 (Int.tmod (wI (x22*y11)) a1))).length)) (by kernel_rfl) (congrArg (fun z_=>((.own (oi 0 0) (.slice .int) 0 z_):AV)) ((Eq.trans (b:=l14_m2.length) rfl List.length_set.symm):l14_m2.length=(l14_m2.set a0_1.toNat (x20.set l14_m43 (Int.tmod (wI (x22*y11)) a1))).length))).trans (Ac []),⟨l14_m43+1,l14_m2.set a0_1.toNat (x20.set l14_m43 (Int.tmod (wI (x22*y11)) a1)),rfl,rfl⟩,hn14⟩
  have q17_:=of_decide_eq_false q17;refine Ah q17 ?_;refine Ax (te_ (te_ (be_ (bn_ ?_))));obtain rfl:=zj h;have h:=hn14
  (try dsimp only at h);obtain rfl:=zj h;exact Gq [] (Ac (tl:=[]) (g:=2) [])
 refine Ah q9 ?_;refine Am ?_;rcases Ad h with ⟨q26,h⟩ | ⟨q26,h⟩
 ·refine Ag q26 ?_;obtain ⟨x27,f27,h⟩:=Ae h;obtain ⟨p27,b27,e27⟩:=Ew f27;obtain ⟨x28,f28,h⟩:=Ae h;obtain ⟨p28,b28,e28⟩:=Ew f28;obtain ⟨g29,h⟩:=Aq h;obtain ⟨y30,h30,h⟩:=Ae h;obtain ⟨g31,h⟩:=Aq h;refine Bb 25 ?_;refine dz0 (ai a1) ?_;refine dz0 (.own (oi 0 0) (.slice .int) 0 n_a2) ?_;refine dz0 (.box (oi 3 1) 1) ?_;refine dzl (ai a0_1) ?_;refine ds0 (.elt (oi 0 0) a0_1.toNat 0) (zo (t:=.slice .int) (o:=oi 0 0) (len:=n_a2) (k:=.i64) (m:=a0_1) p27 (Nat.lt_of_lt_of_le (At e27) (Nat.le_of_eq (Eq.symm hn_a2)))) ?_;refine dsl (.own (kid (oi 1 0) a0_1.toNat) .int 0 x27.length) (Eo (o:=oi 0 0) (p:=oi 1 0) (e1:=39) (u:=.int) (xss:=a2) (row:=x27) (j:=a0_1.toNat) (by kernel_rfl) (by kernel_rfl) e27) ?_;refine dz0 (.box (oi 3 1) 3) ?_;refine dzl (ai a0_3) ?_;refine dz0 (ai (wI (0 - a0_3))) ?_;refine dz0 (.own (oi 0 0) (.slice .int) 0 n_a2) ?_;refine dz0 (.box (oi 3 1) 2) ?_;refine dzl (ai a0_2) ?_;refine ds0 (.elt (oi 0 0) a0_2.toNat 0) (zo (t:=.slice .int) (o:=oi 0 0) (len:=n_a2) (k:=.i64) (m:=a0_2) p28 (Nat.lt_of_lt_of_le (At e28) (Nat.le_of_eq (Eq.symm hn_a2)))) ?_;refine dsl (.own (kid (oi 1 0) a0_2.toNat) .int 0 x28.length) (Eo (o:=oi 0 0) (p:=oi 1 0) (e1:=39) (u:=.int) (xss:=a2) (row:=x28) (j:=a0_2.toNat) (by kernel_rfl) (by kernel_rfl) e28) ?_;refine S6 (.tup []) [(kid (oi 1 0) a0_1.toNat,some (.arr 3 .int y30)),(kid (oi 1 0) a0_1.toNat,none)] [(oi 0 0,kid (oi 1 0) a0_1.toNat)] [ai a1,.own (kid (oi 1 0) a0_1.toNat) .int 0 x27.length,ai (wI (0 - a0_3)),.own (kid (oi 1 0) a0_2.toNat) .int 0 x28.length] (caps:=[]) trivial (Kk h30 rfl) Kg ⟨Xa (by kernel_rfl) e27,trivial⟩ (.cons (.ren (by kernel_rfl)) (.cons (.ren (by kernel_rfl)) (.cons (.ren (by kernel_rfl)) (.cons (.gnd (by kernel_rfl) (Qa (e:=3) (u:=.int) (xs:=x28) ((Aj8 (L:=[kid (oi 1 0) a0_1.toNat]) (by kernel_rfl) ⟨Alo g29,trivial⟩).trans ((Mw (Acg (t:=.int) (off:=0) (len:=x28.length) 3 rfl (by kernel_rfl))).trans (Be (by kernel_rfl) e28))) rfl)) .nil)))) (A9 (by kernel_rfl) (by kernel_rfl) ⟨.arg (by simp [AV.nmsL,AV.nms,Bc]),trivial⟩) (Ame (Acg (t:=.int) (off:=0) (len:=x27.length) 1 rfl (by kernel_rfl)) Alm) ?_;refine Ae3 (Vg (o:=oi 0 0) (p:=oi 1 0) (e1:=39) (e:=3) (u:=.int) (xss:=a2) (k:=a0_1.toNat) (row:=x27) (row':=y30) (by kernel_rfl) rfl (by kernel_rfl) e27 g31) ?_;refine Ky (Bx (by kernel_rfl)) (bn_ ?_);obtain rfl:=zj h;exact Gq [] (Ac (tl:=[]) (g:=2) [(oi 0 1,oi 1 0)])
 refine Ah q26 ?_;refine Aj (bn_ ?_);obtain rfl:=zj h;exact Gq [] (Ac (tl:=[]) (g:=2) [(oi 0 1,oi 1 0)])
def Jd:AC :=
 (.seq (rg [xo 4 (.i (.box 70 (tm 0)))])
 (.seq (.seq (rg [xo 5 (.i (.ld false 4 (tm 4))),xo 6 (qf 1 (tm 4)),xo 7 (ql (tm 6)),xo 8 (qf 1 (tm 4)),xo 9 (ql (tm 8)),xo 10 (.build [.int .i64 0,.int .i64 0,.int .i64 0,.int .i64 0] [(0,1,ci 0),(1,1,tm 7),(2,1,tm 9)]),xo 11 (.i (.cmp false 7 (tm 5) (tm 10)))])
 (.cond (tm 11)
  .ret
  .skip))
 (.seq (rg [xo 12 (.i (.ld false 4 (tm 4))),xo 13 (ql (tm 1)),xo 14 (ql (tm 2)),xo 15 (qc 67 [tm 12,tm 13,tm 14] [[none,none,none,none],[],[some (.slice .int)]])])
 (rg [xo 16 (.i (.ld false 4 (tm 4))),xo 17 (ql (tm 1)),xo 18 (ql (tm 3)),xo 19 (qc 67 [tm 16,tm 17,tm 18] [[none,none,none,none],[],[some (.slice .int)]])]))))
def Og:List Res:=[]
theorem Ok:Ap Tryd.prog Tryd.f66=some (Jd,Og):=by kernel_rfl
theorem Fy:A2 Tryd.prog 66=true:=by kernel_rfl
def Bd (a0_0:Int) (a0_1:Int) (a0_2:Int) (a0_3:Int) (c0_0:Int) (c1_0:List (List Int)) (c2_0:List (List Int)):Option (List (List Int)×List (List Int)) :=
 cond ([a0_0,a0_1,a0_2,a0_3]==[0,a0_1,a0_1,0])
 (some (c1_0,c2_0))
 (Option.bind (A4 a0_0 a0_1 a0_2 a0_3 c0_0 c1_0) fun y7 =>
 og (y7.length=c1_0.length) <|
 Option.bind (A4 a0_0 a0_1 a0_2 a0_3 c0_0 c2_0) fun y9 =>
 og (y9.length=c2_0.length) <|
 some (y7,y9))
theorem Fz {a0_0:Int} {a0_1:Int} {a0_2:Int} {a0_3:Int} {c0_0:Int} {c1_0:List (List Int)} {c2_0:List (List Int)} {r:List (List Int)×List (List Int)} (h:Bd a0_0 a0_1 a0_2 a0_3 c0_0 c1_0 c2_0=some r):Eg Tryd.prog Tab 66 [.agg [ai a0_0,ai a0_1,ai a0_2,ai a0_3],.box (oi 0 0) 0,.box (oi 1 0) 0,.box (oi 4 0) 0] [(oi 0 0,.cells 3 [ai c0_0]),(oi 1 0,.cells 22 [.own (oi 2 0) (.slice .int) 0 c1_0.length]),(oi 2 0,.mat 39 (oi 3 0) .int c1_0),(oi 3 0,.pool 3 .int c1_0),(oi 4 0,.cells 22 [.own (oi 5 0) (.slice .int) 0 c2_0.length]),(oi 5 0,.mat 39 (oi 6 0) .int c2_0),(oi 6 0,.pool 3 .int c2_0)] (.tup []) [(oi 0 0,.cells 3 [ai c0_0]),(oi 1 0,.cells 22 [.own (oi 2 0) (.slice .int) 0 r.1.length]),(oi 2 0,.mat 39 (oi 0 1) .int r.1),(oi 0 1,.pool 3 .int r.1),(oi 4 0,.cells 22 [.own (oi 5 0) (.slice .int) 0 r.2.length]),(oi 5 0,.mat 39 (oi 1 1) .int r.2),(oi 1 1,.pool 3 .int r.2)]:=by
 refine Cn (by kernel_rfl) Tryd.func66 Ok (n:=20) (by kernel_rfl) (by simp) (tl:=[(0,.agg [ai a0_0,ai a0_1,ai a0_2,ai a0_3]),(1,.box (oi 0 0) 0),(2,.box (oi 1 0) 0),(3,.box (oi 4 0) 0)]) rfl (by kernel_rfl) ⟨trivial,⟨trivial,⟨⟨3,.tail _ (.tail _ (.tail _ (.head _)))⟩,⟨trivial,⟨trivial,⟨⟨3,.tail _ (.tail _ (.tail _ (.tail _ (.tail _ (.tail _ (.head _))))))⟩,⟨trivial,trivial⟩⟩⟩⟩⟩⟩⟩ ⟨trivial,⟨trivial,⟨⟨3,.tail _ (.tail _ (.tail _ (.head _)))⟩,⟨trivial,⟨trivial,⟨⟨3,.tail _ (.tail _ (.tail _ (.tail _ (.tail _ (.tail _ (.head _))))))⟩,⟨trivial,trivial⟩⟩⟩⟩⟩⟩⟩ ?_;unfold Jd;unfold Bd at h;refine Am ?_;refine Ab ?_;refine Am ?_;rcases Ad h with ⟨q5,h⟩ | ⟨q5,h⟩
 ·refine Ag q5 ?_;refine Ak (tr_ ?_);obtain rfl:=zj h;exact Gq [] (Ac (tl:=[]) (g:=2) [(oi 0 1,oi 3 0),(oi 1 1,oi 6 0)])
 refine Ah q5 ?_;refine Aj (tn_ ?_);refine wr_ ?_;refine Ab ?_;obtain ⟨y7,h7,h⟩:=Ae h;obtain ⟨g8,h⟩:=Aq h;refine Aa 13 ?_;refine rzl (.agg [ai a0_0,ai a0_1,ai a0_2,ai a0_3]) ?_;refine rzl (ai c0_0) ?_;refine rzl (.own (oi 2 0) (.slice .int) 0 c1_0.length) ?_;refine Dn (.tup []) [(oi 2 0,some (.mat 39 (oi 240 12) .int y7)),(oi 240 12,some (.pool 3 .int y7)),(oi 2 0,none),(oi 3 0,some (.pool 3 .int []))] [(oi 0 0,oi 2 0),(oi 1 0,oi 3 0)] [.agg [ai a0_0,ai a0_1,ai a0_2,ai a0_3],ai c0_0,.own (oi 2 0) (.slice .int) 0 c1_0.length] (caps:=[]) trivial (E6 h7 rfl) Fe ⟨by kernel_rfl,⟨by kernel_rfl,trivial⟩⟩ (.cons (.ren (by kernel_rfl)) (.cons (.ren (by kernel_rfl)) (.cons (.ren (by kernel_rfl)) .nil))) (A9 (by kernel_rfl) (by kernel_rfl) ⟨Bj (by kernel_rfl),⟨E0 (o:=oi 2 0) (p:=oi 3 0) (e1:=39) (m:=c1_0.length) (u:=.int) (xss:=c1_0) (Bj (by kernel_rfl)) (by kernel_rfl),trivial⟩⟩) ?_;refine As (tn_ ?_);refine wr_ ?_;obtain ⟨y9,h9,h⟩:=Ae h;obtain ⟨g10,h⟩:=Aq h;refine Aa 17 ?_;refine rzl (.agg [ai a0_0,ai a0_1,ai a0_2,ai a0_3]) ?_;refine rzl (ai c0_0) ?_;refine rzl (.own (oi 5 0) (.slice .int) 0 c2_0.length) ?_;refine Dn (.tup []) [(oi 5 0,some (.mat 39 (oi 304 16) .int y9)),(oi 304 16,some (.pool 3 .int y9)),(oi 5 0,none),(oi 6 0,some (.pool 3 .int []))] [(oi 0 0,oi 5 0),(oi 1 0,oi 6 0)] [.agg [ai a0_0,ai a0_1,ai a0_2,ai a0_3],ai c0_0,.own (oi 5 0) (.slice .int) 0 c2_0.length] (caps:=[]) trivial (E6 h9 rfl) Fe ⟨by kernel_rfl,⟨by kernel_rfl,trivial⟩⟩ (.cons (.ren (by kernel_rfl)) (.cons (.ren (by kernel_rfl)) (.cons (.ren (by kernel_rfl)) .nil))) (A9 (by kernel_rfl) (by kernel_rfl) ⟨Bj (by kernel_rfl),⟨E0 (o:=oi 5 0) (p:=oi 6 0) (e1:=39) (m:=c2_0.length) (u:=.int) (xss:=c2_0) (Bj (by kernel_rfl)) (by kernel_rfl),trivial⟩⟩) ?_;refine As ?_;obtain rfl:=zj h;exact Gq [] ((Ke (oi 1 0) (.cells 22 [.own (oi 2 0) (.slice .int) 0 c1_0.length]) (.cells 22 [.own (oi 2 0) (.slice .int) 0 y7.length]) (by kernel_rfl) (congrArg (fun z_=>(.cells 22 [.own (oi 2 0) (.slice .int) 0 z_]:Ob)) (g8.symm:c1_0.length=y7.length))).trans ((Ke (oi 4 0) (.cells 22 [.own (oi 5 0) (.slice .int) 0 c2_0.length]) (.cells 22 [.own (oi 5 0) (.slice .int) 0 y9.length]) (by kernel_rfl) (congrArg (fun z_=>(.cells 22 [.own (oi 5 0) (.slice .int) 0 z_]:Ob)) (g10.symm:c2_0.length=y9.length))).trans (Ac (tl:=[]) (g:=2) [(oi 0 1,oi 240 12),(oi 1 1,oi 304 16)])))
def Hr:AC :=
 (.seq (rg [xo 66 (qb .lss (tm 65) (tm 64))])
 (.seq (.cond (tm 66)
  .skip
  (.exit 4))
 (.seq (.block 5 (.seq (rg [xo 67 (qm (tm 65)),xo 13 (qm (tm 67))])
 (.seq (rg [xo 68 (qm (tm 13)),xo 69 (qm (tm 9)),xo 70 (qb .neq (tm 68) (tm 69)),xo 71 (qm (tm 70)),⟨some 72,some (71,true),ql (tm 5)⟩,⟨some 73,some (71,true),qm (tm 13)⟩,⟨some 74,some (71,true),qx 1 (tm 72) (tm 73)⟩,⟨some 75,some (71,true),ql (tm 74)⟩,⟨some 76,some (71,true),qm (tm 11)⟩,⟨some 77,some (71,true),qx 1 (tm 75) (tm 76)⟩,⟨some 78,some (71,true),ql (tm 77)⟩,⟨some 79,some (71,true),qb .neq (tm 78) (ci 0)⟩,xo 80 (.i (.pick (tm 71) (tm 79) (cb false)))])
 (.cond (tm 80)
  (rg [xo 81 (qm (tm 10)),xo 82 (qm (tm 13)),xo 83 (qm (tm 9)),xo 84 (ql (tm 5)),xo 85 (qm (tm 13)),xo 86 (qx 1 (tm 84) (tm 85)),xo 87 (ql (tm 86)),xo 88 (qm (tm 11)),xo 89 (qx 1 (tm 87) (tm 88)),xo 90 (ql (tm 89)),xo 91 (.build [.int .i64 0,.int .i64 0,.int .i64 0,.int .i64 0] [(0,1,ci 2),(1,1,tm 82),(2,1,tm 83),(3,1,tm 90)]),xo 92 (.call (tm 81) [tm 91] [[none,none,none,none]])])
  .skip))))
 (rg [xo 93 (qb .add (tm 65) (ci 1)),xo 65 (qm (tm 93))]))))
def Hw:AC :=
 (.seq (.seq (rg [xo 27 (qm (tm 12)),xo 28 (ql (tm 5)),xo 29 (.i (.len (tm 28))),xo 30 (qb .lss (tm 27) (tm 29)),xo 31 (qm (tm 30)),⟨some 32,some (31,true),ql (tm 5)⟩,⟨some 33,some (31,true),qm (tm 12)⟩,⟨some 34,some (31,true),qx 1 (tm 32) (tm 33)⟩,⟨some 35,some (31,true),ql (tm 34)⟩,⟨some 36,some (31,true),qm (tm 11)⟩,⟨some 37,some (31,true),qx 1 (tm 35) (tm 36)⟩,⟨some 38,some (31,true),ql (tm 37)⟩,⟨some 39,some (31,true),qb .eql (tm 38) (ci 0)⟩,xo 40 (.i (.pick (tm 31) (tm 39) (cb false)))])
 (.cond (tm 40)
  .skip
  (.exit 2)))
 (.block 3 (rg [xo 41 (qm (tm 12)),xo 42 (qb .add (tm 41) (ci 1)),xo 12 (qm (tm 42))])))
def Hx:AC :=
 (.seq (.seq (rg [xo 15 (qm (tm 11)),xo 16 (qm (tm 2)),xo 17 (qb .lss (tm 15) (tm 16)),xo 18 (qm (tm 17)),⟨some 19,some (18,true),qm (tm 9)⟩,⟨some 20,some (18,true),ql (tm 5)⟩,⟨some 21,some (18,true),.i (.len (tm 20))⟩,⟨some 22,some (18,true),qb .lss (tm 19) (tm 21)⟩,xo 23 (.i (.pick (tm 18) (tm 22) (cb false)))])
 (.cond (tm 23)
  .skip
  (.exit 0)))
 (.seq (.block 1 (.seq (rg [xo 26 (qm (tm 9)),xo 12 (qm (tm 26))])
 (.seq (.block 2 (.loop Hw))
 (.seq (.seq (rg [xo 43 (qm (tm 12)),xo 44 (ql (tm 5)),xo 45 (.i (.len (tm 44))),xo 46 (qb .eql (tm 43) (tm 45))])
 (.cond (tm 46)
  (.exit 1)
  .skip))
 (.seq (rg [xo 47 (qm (tm 10)),xo 48 (qm (tm 9)),xo 49 (qm (tm 12)),xo 50 (.build [.int .i64 0,.int .i64 0,.int .i64 0,.int .i64 0] [(0,1,ci 0),(1,1,tm 48),(2,1,tm 49)]),xo 51 (.call (tm 47) [tm 50] [[none,none,none,none]])])
 (.seq (rg [xo 52 (qm (tm 10)),xo 53 (qm (tm 9)),xo 54 (ql (tm 5)),xo 55 (qm (tm 9)),xo 56 (qx 1 (tm 54) (tm 55)),xo 57 (ql (tm 56)),xo 58 (qm (tm 11)),xo 59 (qx 1 (tm 57) (tm 58)),xo 60 (ql (tm 59)),xo 61 (.build [.int .i64 0,.int .i64 0,.int .i64 0,.int .i64 0] [(0,1,ci 1),(1,1,tm 53),(3,1,tm 60)]),xo 62 (.call (tm 52) [tm 61] [[none,none,none,none]])])
 (.seq (.seq (rg [xo 63 (ql (tm 5)),xo 64 (.i (.len (tm 63))),xo 65 (qm (ci 0))])
 (.block 4 (.loop Hr)))
 (rg [xo 94 (qm (tm 9)),xo 95 (qb .add (tm 94) (ci 1)),xo 9 (qm (tm 95))]))))))))
 (rg [xo 24 (qm (tm 11)),xo 25 (qb .add (tm 24) (ci 1)),xo 11 (qm (tm 25))])))
def J1:AC :=
 (.seq (rg [xo 4 (.i (.box 3 (tm 0))),xo 5 (.i (.box 22 (tm 1))),xo 7 (.i (.box 22 (tm 3))),xo 8 (qm (ci 0))])
 (.seq (rg [xo 9 (qm (ci 0))])
 (.seq (rg [xo 14 (.i (.mkfn 66 [tm 4,tm 5,tm 7])),xo 10 (qm (tm 14))])
 (.seq (.seq (rg [xo 11 (qm (ci 0))])
 (.block 0 (.loop Hx)))
 (.seq (rg [xo 96 (qm (tm 9)),xo 8 (qm (tm 96))])
 .ret)))))
def Qk:List Res:=[.tmp 8]
theorem Qn:Ap Tryd.prog Tryd.f58=some (J1,Qk):=by kernel_rfl
theorem P3:A2 Tryd.prog 58=true:=by kernel_rfl
def B3 (l7_p0:List (List Int)) (l7_m11:Nat) (l15_m12:Nat):Option (Ctl Nat Nat) :=
 Option.bind (cond (decide (((l15_m12:Nat):Int)<((l7_p0.length:Nat):Int)))
  (Option.bind (l7_p0[l15_m12]?) fun x19 =>
  Option.bind (x19[l7_m11]?) fun x20 =>
  some (x20==0))
  (some false)) fun l17_m40 =>
cond l17_m40
 (og (l15_m12+1<4611686018427387904) <|
 some (Ctl.next (l15_m12+1)))
 (some (Ctl.out l15_m12))
def Cu (y31:List (List Int)×List (List Int)) (l7_m9:Nat) (l7_m11:Nat) (a0:Int) (l34_m65:Nat) (l34_p0:List (List Int)) (l34_p2:List (List Int)):Option (Ctl (Nat×List (List Int)×List (List Int)) (List (List Int)×List (List Int))) :=
 cond (decide (((l34_m65:Nat):Int)<((y31.1.length:Nat):Int)))
 (Option.bind (Option.bind (cond (((l34_m65:Nat):Int) !=((l7_m9:Nat):Int))
       (Option.bind (l34_p0[l34_m65]?) fun x42 =>
       Option.bind (x42[l7_m11]?) fun x43 =>
       some (x43 !=0))
       (some false)) fun l40_m80 =>
  cond l40_m80
   (Option.bind (l34_p0[l34_m65]?) fun x45 =>
   Option.bind (x45[l7_m11]?) fun x46 =>
   Option.bind (Bd 2 ((l34_m65:Nat):Int) ((l7_m9:Nat):Int) x46 a0 l34_p0 l34_p2) fun y47 =>
   some (y47.1,y47.2))
   (some (l34_p0,l34_p2))) fun (l38_p0,l38_p2) =>
 og (l34_m65+1<4611686018427387904) <|
 some (Ctl.next (l34_m65+1,l38_p0,l38_p2)))
 (some (Ctl.out (l34_p0,l34_p2)))
def Bt (a2:Int) (a0:Int) (l7_m9:Nat) (l7_m11:Nat) (l7_p0:List (List Int)) (l7_p2:List (List Int)):Option (Ctl (Nat×Nat×List (List Int)×List (List Int)) (Nat×List (List Int)×List (List Int))) :=
 Option.bind (cond (decide (((l7_m11:Nat):Int)<a2))
  (some (decide (((l7_m9:Nat):Int)<((l7_p0.length:Nat):Int))))
  (some false)) fun l9_m23 =>
cond l9_m23
 (Option.bind (Option.bind (A1 (fun s_:Nat=>B3 l7_p0 l7_m11 s_) 4611686018427387904 l7_m9) fun l14_m12 =>
  cond (((l14_m12:Nat):Int)==((l7_p0.length:Nat):Int))
   (some (l7_m9,l7_p0,l7_p2))
   (Option.bind (Bd 0 ((l7_m9:Nat):Int) ((l14_m12:Nat):Int) 0 a0 l7_p0 l7_p2) fun y27 =>
   Option.bind (y27.1[l7_m9]?) fun x29 =>
   Option.bind (x29[l7_m11]?) fun x30 =>
   Option.bind (Bd 1 ((l7_m9:Nat):Int) 0 x30 a0 y27.1 y27.2) fun y31 =>
   Option.bind (A1 (fun s_:Nat×List (List Int)×List (List Int)=>Cu y31 l7_m9 l7_m11 a0 s_.1 s_.2.1 s_.2.2) 4611686018427387904 (0,y31.1,y31.2)) fun (l32_p0,l32_p2) =>
   og (l7_m9+1<4611686018427387904) <|
   some (l7_m9+1,l32_p0,l32_p2))) fun (l12_m9,l12_p0,l12_p2) =>
 og (l7_m11+1<4611686018427387904) <|
 some (Ctl.next (l12_m9,l7_m11+1,l12_p0,l12_p2)))
 (some (Ctl.out (l7_m9,l7_p0,l7_p2)))
def Dt (a0:Int) (a1:List (List Int)) (a2:Int) (a3:List (List Int)):Option (List (List Int)×List (List Int)×Nat) :=
 Option.bind (A1 (fun s_:Nat×Nat×List (List Int)×List (List Int)=>Bt a2 a0 s_.1 s_.2.1 s_.2.2.1 s_.2.2.2) 4611686018427387904 (0,0,a1,a3)) fun (l5_m9,l5_p0,l5_p2) =>
some (l5_p0,l5_p2,l5_m9)
theorem Ox {a0:Int} {a1:List (List Int)} {a2:Int} {a3:List (List Int)} {r:List (List Int)×List (List Int)×Nat} (h:Dt a0 a1 a2 a3=some r) {n_a1:Nat} (hn_a1:n_a1=a1.length) {n_a3:Nat} (hn_a3:n_a3=a3.length):Eg Tryd.prog Tab 58 [ai a0,.own (oi 0 0) (.slice .int) 0 n_a1,ai a2,.own (oi 2 0) (.slice .int) 0 n_a3] [(oi 0 0,.mat 39 (oi 1 0) .int a1),(oi 1 0,.pool 3 .int a1),(oi 2 0,.mat 39 (oi 3 0) .int a3),(oi 3 0,.pool 3 .int a3)] (ai ((r.2.2:Nat):Int)) [(oi 0 0,.mat 39 (oi 0 1) .int r.1),(oi 0 1,.pool 3 .int r.1),(oi 2 0,.mat 39 (oi 1 1) .int r.2.1),(oi 1 1,.pool 3 .int r.2.1)]:=by
 refine Cn (by kernel_rfl) Tryd.func58 Qn (n:=97) (by kernel_rfl) (by simp) (tl:=[(0,ai a0),(1,.own (oi 0 0) (.slice .int) 0 n_a1),(2,ai a2),(3,.own (oi 2 0) (.slice .int) 0 n_a3)]) rfl (by kernel_rfl) ⟨⟨3,.tail _ (.head _)⟩,⟨trivial,⟨⟨3,.tail _ (.tail _ (.tail _ (.head _)))⟩,⟨trivial,trivial⟩⟩⟩⟩ ⟨⟨3,.tail _ (.head _)⟩,⟨trivial,⟨⟨3,.tail _ (.tail _ (.tail _ (.head _)))⟩,⟨trivial,trivial⟩⟩⟩⟩ ?_;unfold J1;unfold Dt at h;refine Am ?_;refine Am ?_;refine Am ?_;refine Ay h (fun t_ S_=>∃ (l5_m9:Nat),∃ (l5_p0:List (List Int)),∃ (l5_p2:List (List Int)),t_=(l5_m9,l5_p0,l5_p2)∧S_=⟨Al [(9,ai ((l5_m9:Nat):Int))],Af (Ao [(oi 0 0,.mat 39 (oi 0 1) .int l5_p0),(oi 0 1,.pool 3 .int l5_p0),(oi 2 0,.mat 39 (oi 1 1) .int l5_p2),(oi 1 1,.pool 3 .int l5_p2)]),2⟩) ?_ ?_
 ·intro v_ h;refine Am ?_;refine Ai ?_;refine Az h (fun t_ S_=>∃ (l7_m9:Nat),∃ (l7_m11:Nat),∃ (l7_p0:List (List Int)),∃ (l7_p2:List (List Int)),t_=(l7_m9,l7_m11,l7_p0,l7_p2)∧S_=⟨Al [(2,ai a2),(5,.box (oi 0 1) 0),(9,ai ((l7_m9:Nat):Int)),(10,.fn 66 [.box (oi 1 1) 0,.box (oi 0 1) 0,.box (oi 2 1) 0]),(11,ai ((l7_m11:Nat):Int))],Af (Ao [(oi 0 1,.cells 22 [.own (oi 0 0) (.slice .int) 0 l7_p0.length]),(oi 1 1,.cells 3 [ai a0]),(oi 2 1,.cells 22 [.own (oi 2 0) (.slice .int) 0 l7_p2.length]),(oi 0 0,.mat 39 (oi 3 1) .int l7_p0),(oi 3 1,.pool 3 .int l7_p0),(oi 2 0,.mat 39 (oi 4 1) .int l7_p2),(oi 4 1,.pool 3 .int l7_p2)]),2⟩) ⟨_,(Ke (oi 5 2) (.cells 22 [.own (oi 0 0) (.slice .int) 0 n_a1]) (.cells 22 [.own (oi 0 0) (.slice .int) 0 a1.length]) (by kernel_rfl) (congrArg (fun z_=>(.cells 22 [.own (oi 0 0) (.slice .int) 0 z_]:Ob)) (hn_a1:n_a1=a1.length))).trans ((Ke (oi 7 3) (.cells 22 [.own (oi 2 0) (.slice .int) 0 n_a3]) (.cells 22 [.own (oi 2 0) (.slice .int) 0 a3.length]) (by kernel_rfl) (congrArg (fun z_=>(.cells 22 [.own (oi 2 0) (.slice .int) 0 z_]:Ob)) (hn_a3:n_a3=a3.length))).trans (Ac [(oi 0 1,oi 5 2),(oi 3 1,oi 1 0),(oi 1 1,oi 4 1),(oi 2 1,oi 7 3),(oi 4 1,oi 3 0)])),⟨0,0,a1,a3,rfl,rfl⟩⟩ ?_;rintro n_ _ _ c_ ⟨l7_m9,l7_m11,l7_p0,l7_p2,rfl,rfl⟩ h hn7
  (try dsimp only at h);unfold Bt at h;unfold Hx;refine Ab ?_;refine Ay h (fun (l9_m23:Bool) S_=>S_=⟨Al [(2,ai a2),(5,.box (oi 0 1) 0),(9,ai ((l7_m9:Nat):Int)),(10,.fn 66 [.box (oi 1 1) 0,.box (oi 0 1) 0,.box (oi 2 1) 0]),(11,ai ((l7_m11:Nat):Int)),(23,.bool l9_m23)],Af (Ao [(oi 0 1,.cells 22 [.own (oi 0 0) (.slice .int) 0 l7_p0.length]),(oi 1 1,.cells 3 [ai a0]),(oi 2 1,.cells 22 [.own (oi 2 0) (.slice .int) 0 l7_p2.length]),(oi 0 0,.mat 39 (oi 3 1) .int l7_p0),(oi 3 1,.pool 3 .int l7_p0),(oi 2 0,.mat 39 (oi 4 1) .int l7_p2),(oi 4 1,.pool 3 .int l7_p2)]),2⟩) ?_ ?_
  ·intro v_ h;rcases Ad h with ⟨q10,h⟩ | ⟨q10,h⟩
   ·have q10_:=of_decide_eq_true q10;refine Aa 11 ?_;refine rz0 (ai ((l7_m11:Nat):Int)) ?_;refine rz0 (ai a2) ?_;refine rz0 (.bool (decide (((l7_m11:Nat):Int)<a2))) ?_;refine rz0 (.bool (decide (((l7_m11:Nat):Int)<a2))) ?_;refine rs0 (ai ((l7_m9:Nat):Int)) (zg q10) ?_;refine rsl (.own (oi 0 0) (.slice .int) 0 l7_p0.length) (zg q10) ?_;refine rs0 (ai ((l7_p0.length:Nat):Int)) (zg q10) ?_;refine rs0 (.bool (decide (((l7_m9:Nat):Int)<((l7_p0.length:Nat):Int)))) (zg q10) ?_;refine rs0 (.bool (decide (((l7_m9:Nat):Int)<((l7_p0.length:Nat):Int)))) (zT q10) ?_;refine As (tn_ ?_);obtain rfl:=zj h;exact ⟨_,Ac [],rfl⟩
   have q10_:=of_decide_eq_false q10;refine Aa 11 ?_;refine rz0 (ai ((l7_m11:Nat):Int)) ?_;refine rz0 (ai a2) ?_;refine rz0 (.bool (decide (((l7_m11:Nat):Int)<a2))) ?_;refine rz0 (.bool (decide (((l7_m11:Nat):Int)<a2))) ?_;refine zs q10 ?_;refine zs q10 ?_;refine zs q10 ?_;refine zs q10 ?_;refine rs0 (.bool false) (zF q10) ?_;refine As (tn_ ?_);obtain rfl:=zj h;exact ⟨_,Ac [],rfl⟩
  rintro l9_m23 _ rfl h
  (try dsimp only at h);rcases Ad h with ⟨q11,h⟩ | ⟨q11,h⟩
  ·refine Ag q11 ?_;refine Aj (tn_ ?_);refine wr_ ?_;refine Ay h (fun t_ S_=>∃ (l12_m9:Nat),∃ (l12_p0:List (List Int)),∃ (l12_p2:List (List Int)),t_=(l12_m9,l12_p0,l12_p2)∧S_=⟨Al [(2,ai a2),(5,.box (oi 0 1) 0),(9,ai ((l12_m9:Nat):Int)),(10,.fn 66 [.box (oi 1 1) 0,.box (oi 0 1) 0,.box (oi 2 1) 0]),(11,ai ((l7_m11:Nat):Int))],Af (Ao [(oi 0 1,.cells 22 [.own (oi 0 0) (.slice .int) 0 l12_p0.length]),(oi 1 1,.cells 3 [ai a0]),(oi 2 1,.cells 22 [.own (oi 2 0) (.slice .int) 0 l12_p2.length]),(oi 0 0,.mat 39 (oi 3 1) .int l12_p0),(oi 3 1,.pool 3 .int l12_p0),(oi 2 0,.mat 39 (oi 4 1) .int l12_p2),(oi 4 1,.pool 3 .int l12_p2)]),2⟩) ?_ ?_
   ·intro v_ h;refine Ai ?_;refine Am ?_;refine Ay h (fun (l14_m12:Nat) S_=>S_=⟨Al [(2,ai a2),(5,.box (oi 0 1) 0),(9,ai ((l7_m9:Nat):Int)),(10,.fn 66 [.box (oi 1 1) 0,.box (oi 0 1) 0,.box (oi 2 1) 0]),(11,ai ((l7_m11:Nat):Int)),(12,ai ((l14_m12:Nat):Int))],Af (Ao [(oi 0 1,.cells 22 [.own (oi 0 0) (.slice .int) 0 l7_p0.length]),(oi 1 1,.cells 3 [ai a0]),(oi 2 1,.cells 22 [.own (oi 2 0) (.slice .int) 0 l7_p2.length]),(oi 0 0,.mat 39 (oi 3 1) .int l7_p0),(oi 3 1,.pool 3 .int l7_p0),(oi 2 0,.mat 39 (oi 4 1) .int l7_p2),(oi 4 1,.pool 3 .int l7_p2)]),2⟩) ?_ ?_
    ·intro v_ h;refine Ai ?_;refine Az h (fun (l15_m12:Nat) S_=>S_=⟨Al [(2,ai a2),(5,.box (oi 0 1) 0),(9,ai ((l7_m9:Nat):Int)),(10,.fn 66 [.box (oi 1 1) 0,.box (oi 0 1) 0,.box (oi 2 1) 0]),(11,ai ((l7_m11:Nat):Int)),(12,ai ((l15_m12:Nat):Int))],Af (Ao [(oi 0 1,.cells 22 [.own (oi 0 0) (.slice .int) 0 l7_p0.length]),(oi 1 1,.cells 3 [ai a0]),(oi 2 1,.cells 22 [.own (oi 2 0) (.slice .int) 0 l7_p2.length]),(oi 0 0,.mat 39 (oi 3 1) .int l7_p0),(oi 3 1,.pool 3 .int l7_p0),(oi 2 0,.mat 39 (oi 4 1) .int l7_p2),(oi 4 1,.pool 3 .int l7_p2)]),2⟩) ⟨_,Ac [],rfl⟩ ?_;rintro n_ l15_m12 _ c_ rfl h hn15
     (try dsimp only at h);unfold B3 at h;unfold Hw;refine Ab ?_;refine Ay h (fun (l17_m40:Bool) S_=>S_=⟨Al [(2,ai a2),(5,.box (oi 0 1) 0),(9,ai ((l7_m9:Nat):Int)),(10,.fn 66 [.box (oi 1 1) 0,.box (oi 0 1) 0,.box (oi 2 1) 0]),(11,ai ((l7_m11:Nat):Int)),(12,ai ((l15_m12:Nat):Int)),(40,.bool l17_m40)],Af (Ao [(oi 0 1,.cells 22 [.own (oi 0 0) (.slice .int) 0 l7_p0.length]),(oi 1 1,.cells 3 [ai a0]),(oi 2 1,.cells 22 [.own (oi 2 0) (.slice .int) 0 l7_p2.length]),(oi 0 0,.mat 39 (oi 3 1) .int l7_p0),(oi 3 1,.pool 3 .int l7_p0),(oi 2 0,.mat 39 (oi 4 1) .int l7_p2),(oi 4 1,.pool 3 .int l7_p2)]),2⟩) ?_ ?_
     ·intro v_ h;rcases Ad h with ⟨q18,h⟩ | ⟨q18,h⟩
      ·have q18_:=of_decide_eq_true q18;obtain ⟨x19,e19,h⟩:=Ae h;obtain ⟨x20,e20,h⟩:=Ae h;refine Aa 16 ?_;refine rz0 (ai ((l15_m12:Nat):Int)) ?_;refine rzl (.own (oi 0 0) (.slice .int) 0 l7_p0.length) ?_;refine rz0 (ai ((l7_p0.length:Nat):Int)) ?_;refine rz0 (.bool (decide (((l15_m12:Nat):Int)<((l7_p0.length:Nat):Int)))) ?_;refine rz0 (.bool (decide (((l15_m12:Nat):Int)<((l7_p0.length:Nat):Int)))) ?_;refine rsl (.own (oi 0 0) (.slice .int) 0 l7_p0.length) (zg q18) ?_;refine rs0 (ai ((l15_m12:Nat):Int)) (zg q18) ?_;refine rs0 (.elt (oi 0 0) l15_m12 0) (Lp (by kernel_rfl) q18 (zo (t:=.slice .int) (o:=oi 0 0) (len:=l7_p0.length) (k:=.i64) (m:=((l15_m12:Nat):Int)) (A0 _) (At e19))) ?_;refine rsl (.own (kid (oi 3 1) l15_m12) .int 0 x19.length) (Lp (by kernel_rfl) q18 (Eo (o:=oi 0 0) (p:=oi 3 1) (e1:=39) (u:=.int) (xss:=l7_p0) (row:=x19) (j:=l15_m12) (by kernel_rfl) (by kernel_rfl) e19)) ?_;refine rs0 (ai ((l7_m11:Nat):Int)) (zg q18) ?_;refine rs0 (.elt (kid (oi 3 1) l15_m12) l7_m11 0) (Lp (by kernel_rfl) q18 (zo (t:=.int) (o:=kid (oi 3 1) l15_m12) (len:=x19.length) (k:=.i64) (m:=((l7_m11:Nat):Int)) (A0 _) (At e20))) ?_;refine rsl (ai x20) (Lp (by kernel_rfl) q18 (Ip (i:=kid (oi 3 1) l15_m12) (j:=l7_m11) (k:=0) (e:=3) (t:=.int) (xs:=x19) (by kernel_rfl) (Be (by kernel_rfl) e19) e20 (by kernel_rfl))) ?_;refine rs0 (.bool (x20==0)) (zg q18) ?_;refine rs0 (.bool (x20==0)) (zT q18) ?_;refine As (tn_ ?_);obtain rfl:=zj h;exact ⟨_,Ac [],rfl⟩
      have q18_:=of_decide_eq_false q18;refine Aa 16 ?_;refine rz0 (ai ((l15_m12:Nat):Int)) ?_;refine rzl (.own (oi 0 0) (.slice .int) 0 l7_p0.length) ?_;refine rz0 (ai ((l7_p0.length:Nat):Int)) ?_;refine rz0 (.bool (decide (((l15_m12:Nat):Int)<((l7_p0.length:Nat):Int)))) ?_;refine rz0 (.bool (decide (((l15_m12:Nat):Int)<((l7_p0.length:Nat):Int)))) ?_;refine zs q18 ?_;refine zs q18 ?_;refine zs q18 ?_;refine zs q18 ?_;refine zs q18 ?_;refine zs q18 ?_;refine zs q18 ?_;refine zs q18 ?_;refine rs0 (.bool false) (zF q18) ?_;refine As (tn_ ?_);obtain rfl:=zj h;exact ⟨_,Ac [],rfl⟩
     rintro l17_m40 _ rfl h
     (try dsimp only at h);rcases Ad h with ⟨q21,h⟩ | ⟨q21,h⟩
     ·refine Ag q21 ?_;refine Aj (tn_ ?_);refine wr_ ?_;refine Ai ?_;obtain ⟨g22,h⟩:=Aq h;refine Aa 5 ?_;refine rz0 (ai ((l15_m12:Nat):Int)) ?_;refine rs0 (ai ((l15_m12+1:Nat):Int)) (za g22) ?_;refine rsB 1 ?_;refine As (bn_ (tn_ ?_));obtain rfl:=zj h;exact ⟨l15_m12+1,_,Ac [],rfl,hn15⟩
     refine Ah q21 ?_;refine Ax (te_ (te_ (be_ (tn_ ?_))));obtain rfl:=zj h;have h:=hn15
     (try dsimp only at h);obtain rfl:=zj h;exact ⟨_,Ac [],rfl⟩
    rintro l14_m12 _ rfl h
    (try dsimp only at h);refine Ab ?_;refine Am ?_;rcases Ad h with ⟨q25,h⟩ | ⟨q25,h⟩
    ·refine Ag q25 ?_;refine Ax (te_ (be_ (tn_ ?_)));obtain rfl:=zj h;exact ⟨_,Ac [],⟨l7_m9,l7_p0,l7_p2,rfl,rfl⟩⟩
    refine Ah q25 ?_;refine Aj (tn_ ?_);refine wr_ ?_;refine Ab ?_;obtain ⟨y27,h27,h⟩:=Ae h;refine Aa 11 ?_;refine rz0 (.fn 66 [.box (oi 1 1) 0,.box (oi 0 1) 0,.box (oi 2 1) 0]) ?_;refine rz0 (ai ((l7_m9:Nat):Int)) ?_;refine rz0 (ai ((l14_m12:Nat):Int)) ?_;refine rz0 (.agg [ai 0,ai ((l7_m9:Nat):Int),ai ((l14_m12:Nat):Int),ai 0]) ?_;refine Dn (.tup []) [(oi 1 1,some (.cells 3 [ai a0])),(oi 0 1,some (.cells 22 [.own (oi 0 0) (.slice .int) 0 y27.1.length])),(oi 0 0,some (.mat 39 (oi 816 10) .int y27.1)),(oi 816 10,some (.pool 3 .int y27.1)),(oi 2 1,some (.cells 22 [.own (oi 2 0) (.slice .int) 0 y27.2.length])),(oi 2 0,some (.mat 39 (oi 817 10) .int y27.2)),(oi 817 10,some (.pool 3 .int y27.2)),(oi 1 1,none),(oi 0 1,none),(oi 0 0,none),(oi 3 1,some (.pool 3 .int [])),(oi 2 1,none),(oi 2 0,none),(oi 4 1,some (.pool 3 .int []))] [(oi 0 0,oi 1 1),(oi 1 0,oi 0 1),(oi 2 0,oi 0 0),(oi 3 0,oi 3 1),(oi 4 0,oi 2 1),(oi 5 0,oi 2 0),(oi 6 0,oi 4 1)] [.agg [ai 0,ai ((l7_m9:Nat):Int),ai ((l14_m12:Nat):Int),ai 0],.box (oi 1 1) 0,.box (oi 0 1) 0,.box (oi 2 1) 0] (caps:=[.box (oi 1 1) 0,.box (oi 0 1) 0,.box (oi 2 1) 0]) trivial (Fz h27) Fy ⟨by kernel_rfl,⟨by kernel_rfl,⟨by kernel_rfl,⟨by kernel_rfl,⟨by kernel_rfl,⟨by kernel_rfl,⟨by kernel_rfl,trivial⟩⟩⟩⟩⟩⟩⟩ (.cons (.ren (by kernel_rfl)) (.cons (.ren (by kernel_rfl)) (.cons (.ren (by kernel_rfl)) (.cons (.ren (by kernel_rfl)) .nil)))) (A9 (by kernel_rfl) (by kernel_rfl) ⟨Bj (by kernel_rfl),⟨Bj (by kernel_rfl),⟨Ek (k:=oi 0 1) (ty:=22) (cs:=[.own (oi 0 0) (.slice .int) 0 l7_p0.length]) (Bj (by kernel_rfl)) (by kernel_rfl) (by kernel_rfl),⟨E0 (o:=oi 0 0) (p:=oi 3 1) (e1:=39) (m:=l7_p0.length) (u:=.int) (xss:=l7_p0) (Ek (k:=oi 0 1) (ty:=22) (cs:=[.own (oi 0 0) (.slice .int) 0 l7_p0.length]) (Bj (by kernel_rfl)) (by kernel_rfl) (by kernel_rfl)) (by kernel_rfl),⟨Bj (by kernel_rfl),⟨Ek (k:=oi 2 1) (ty:=22) (cs:=[.own (oi 2 0) (.slice .int) 0 l7_p2.length]) (Bj (by kernel_rfl)) (by kernel_rfl) (by kernel_rfl),⟨E0 (o:=oi 2 0) (p:=oi 4 1) (e1:=39) (m:=l7_p2.length) (u:=.int) (xss:=l7_p2) (Ek (k:=oi 2 1) (ty:=22) (cs:=[.own (oi 2 0) (.slice .int) 0 l7_p2.length]) (Bj (by kernel_rfl)) (by kernel_rfl) (by kernel_rfl)) (by kernel_rfl),trivial⟩⟩⟩⟩⟩⟩⟩) ?_;refine As (tn_ ?_);refine wr_ ?_;refine Ab ?_;obtain ⟨x29,e29,h⟩:=Ae h;obtain ⟨x30,e30,h⟩:=Ae h;obtain ⟨y31,h31,h⟩:=Ae h;refine Aa 22 ?_;refine rz0 (.fn 66 [.box (oi 1 1) 0,.box (oi 0 1) 0,.box (oi 2 1) 0]) ?_;refine rz0 (ai ((l7_m9:Nat):Int)) ?_;refine rzl (.own (oi 0 0) (.slice .int) 0 y27.1.length) ?_;refine rz0 (ai ((l7_m9:Nat):Int)) ?_;refine rs0 (.elt (oi 0 0) l7_m9 0) (zo (t:=.slice .int) (o:=oi 0 0) (len:=y27.1.length) (k:=.i64) (m:=((l7_m9:Nat):Int)) (A0 _) (At e29)) ?_;refine rsl (.own (kid (oi 816 10) l7_m9) .int 0 x29.length) (Eo (o:=oi 0 0) (p:=oi 816 10) (e1:=39) (u:=.int) (xss:=y27.1) (row:=x29) (j:=l7_m9) (by kernel_rfl) (by kernel_rfl) e29) ?_;refine rz0 (ai ((l7_m11:Nat):Int)) ?_;refine rs0 (.elt (kid (oi 816 10) l7_m9) l7_m11 0) (zo (t:=.int) (o:=kid (oi 816 10) l7_m9) (len:=x29.length) (k:=.i64) (m:=((l7_m11:Nat):Int)) (A0 _) (At e30)) ?_;refine rsl (ai x30) (Ip (i:=kid (oi 816 10) l7_m9) (j:=l7_m11) (k:=0) (e:=3) (t:=.int) (xs:=x29) (by kernel_rfl) (Be (by kernel_rfl) e29) e30 (by kernel_rfl)) ?_;refine rz0 (.agg [ai 1,ai ((l7_m9:Nat):Int),ai 0,ai x30]) ?_;refine Dn (.tup []) [(oi 1 1,some (.cells 3 [ai a0])),(oi 0 1,some (.cells 22 [.own (oi 0 0) (.slice .int) 0 y31.1.length])),(oi 0 0,some (.mat 39 (oi 992 21) .int y31.1)),(oi 992 21,some (.pool 3 .int y31.1)),(oi 2 1,some (.cells 22 [.own (oi 2 0) (.slice .int) 0 y31.2.length])),(oi 2 0,some (.mat 39 (oi 993 21) .int y31.2)),(oi 993 21,some (.pool 3 .int y31.2)),(oi 1 1,none),(oi 0 1,none),(oi 0 0,none),(oi 816 10,some (.pool 3 .int [])),(oi 2 1,none),(oi 2 0,none),(oi 817 10,some (.pool 3 .int []))] [(oi 0 0,oi 1 1),(oi 1 0,oi 0 1),(oi 2 0,oi 0 0),(oi 3 0,oi 816 10),(oi 4 0,oi 2 1),(oi 5 0,oi 2 0),(oi 6 0,oi 817 10)] [.agg [ai 1,ai ((l7_m9:Nat):Int),ai 0,ai x30],.box (oi 1 1) 0,.box (oi 0 1) 0,.box (oi 2 1) 0] (caps:=[.box (oi 1 1) 0,.box (oi 0 1) 0,.box (oi 2 1) 0]) trivial (Fz h31) Fy ⟨by kernel_rfl,⟨by kernel_rfl,⟨by kernel_rfl,⟨by kernel_rfl,⟨by kernel_rfl,⟨by kernel_rfl,⟨by kernel_rfl,trivial⟩⟩⟩⟩⟩⟩⟩ (.cons (.ren (by kernel_rfl)) (.cons (.ren (by kernel_rfl)) (.cons (.ren (by kernel_rfl)) (.cons (.ren (by kernel_rfl)) .nil)))) (A9 (by kernel_rfl) (by kernel_rfl) ⟨Bj (by kernel_rfl),⟨Bj (by kernel_rfl),⟨Ek (k:=oi 0 1) (ty:=22) (cs:=[.own (oi 0 0) (.slice .int) 0 y27.1.length]) (Bj (by kernel_rfl)) (by kernel_rfl) (by kernel_rfl),⟨E0 (o:=oi 0 0) (p:=oi 816 10) (e1:=39) (m:=y27.1.length) (u:=.int) (xss:=y27.1) (Ek (k:=oi 0 1) (ty:=22) (cs:=[.own (oi 0 0) (.slice .int) 0 y27.1.length]) (Bj (by kernel_rfl)) (by kernel_rfl) (by kernel_rfl)) (by kernel_rfl),⟨Bj (by kernel_rfl),⟨Ek (k:=oi 2 1) (ty:=22) (cs:=[.own (oi 2 0) (.slice .int) 0 y27.2.length]) (Bj (by kernel_rfl)) (by kernel_rfl) (by kernel_rfl),⟨E0 (o:=oi 2 0) (p:=oi 817 10) (e1:=39) (m:=y27.2.length) (u:=.int) (xss:=y27.2) (Ek (k:=oi 2 1) (ty:=22) (cs:=[.own (oi 2 0) (.slice .int) 0 y27.2.length]) (Bj (by kernel_rfl)) (by kernel_rfl) (by kernel_rfl)) (by kernel_rfl),trivial⟩⟩⟩⟩⟩⟩⟩) ?_;refine As (tn_ ?_);refine wr_ ?_;refine Ay h (fun t_ S_=>∃ (l32_p0:List (List Int)),∃ (l32_p2:List (List Int)),t_=(l32_p0,l32_p2)∧S_=⟨Al [(2,ai a2),(5,.box (oi 0 1) 0),(9,ai ((l7_m9:Nat):Int)),(10,.fn 66 [.box (oi 1 1) 0,.box (oi 0 1) 0,.box (oi 2 1) 0]),(11,ai ((l7_m11:Nat):Int))],Af (Ao [(oi 0 1,.cells 22 [.own (oi 0 0) (.slice .int) 0 l32_p0.length]),(oi 1 1,.cells 3 [ai a0]),(oi 2 1,.cells 22 [.own (oi 2 0) (.slice .int) 0 l32_p2.length]),(oi 0 0,.mat 39 (oi 3 1) .int l32_p0),(oi 3 1,.pool 3 .int l32_p0),(oi 2 0,.mat 39 (oi 4 1) .int l32_p2),(oi 4 1,.pool 3 .int l32_p2)]),2⟩) ?_ ?_
    ·intro v_ h;refine Am ?_;refine Ai ?_;refine Az h (fun t_ S_=>∃ (l34_m65:Nat),∃ (l34_p0:List (List Int)),∃ (l34_p2:List (List Int)),t_=(l34_m65,l34_p0,l34_p2)∧S_=⟨Al [(2,ai a2),(5,.box (oi 0 1) 0),(9,ai ((l7_m9:Nat):Int)),(10,.fn 66 [.box (oi 1 1) 0,.box (oi 0 1) 0,.box (oi 2 1) 0]),(11,ai ((l7_m11:Nat):Int)),(64,ai ((y31.1.length:Nat):Int)),(65,ai ((l34_m65:Nat):Int))],Af (Ao [(oi 0 1,.cells 22 [.own (oi 0 0) (.slice .int) 0 l34_p0.length]),(oi 1 1,.cells 3 [ai a0]),(oi 2 1,.cells 22 [.own (oi 2 0) (.slice .int) 0 l34_p2.length]),(oi 0 0,.mat 39 (oi 3 1) .int l34_p0),(oi 3 1,.pool 3 .int l34_p0),(oi 2 0,.mat 39 (oi 4 1) .int l34_p2),(oi 4 1,.pool 3 .int l34_p2)]),2⟩) ⟨_,Ac [(oi 3 1,oi 992 21),(oi 4 1,oi 993 21)],⟨0,y31.1,y31.2,rfl,rfl⟩⟩ ?_;rintro n_ _ _ c_ ⟨l34_m65,l34_p0,l34_p2,rfl,rfl⟩ h hn34
     (try dsimp only at h);unfold Cu at h;unfold Hr;refine Am ?_;refine Ab ?_;rcases Ad h with ⟨q37,h⟩ | ⟨q37,h⟩
     ·have q37_:=of_decide_eq_true q37;refine Ag q37 ?_;refine Aj (tn_ ?_);refine wr_ ?_;refine Ay h (fun t_ S_=>∃ (l38_p0:List (List Int)),∃ (l38_p2:List (List Int)),t_=(l38_p0,l38_p2)∧S_=⟨Al [(2,ai a2),(5,.box (oi 0 1) 0),(9,ai ((l7_m9:Nat):Int)),(10,.fn 66 [.box (oi 1 1) 0,.box (oi 0 1) 0,.box (oi 2 1) 0]),(11,ai ((l7_m11:Nat):Int)),(64,ai ((y31.1.length:Nat):Int)),(65,ai ((l34_m65:Nat):Int))],Af (Ao [(oi 0 1,.cells 22 [.own (oi 0 0) (.slice .int) 0 l38_p0.length]),(oi 1 1,.cells 3 [ai a0]),(oi 2 1,.cells 22 [.own (oi 2 0) (.slice .int) 0 l38_p2.length]),(oi 0 0,.mat 39 (oi 3 1) .int l38_p0),(oi 3 1,.pool 3 .int l38_p0),(oi 2 0,.mat 39 (oi 4 1) .int l38_p2),(oi 4 1,.pool 3 .int l38_p2)]),2⟩) ?_ ?_
      ·intro v_ h;refine Ai ?_;refine Am ?_;refine Ay h (fun (l40_m80:Bool) S_=>S_=⟨Al [(2,ai a2),(5,.box (oi 0 1) 0),(9,ai ((l7_m9:Nat):Int)),(10,.fn 66 [.box (oi 1 1) 0,.box (oi 0 1) 0,.box (oi 2 1) 0]),(11,ai ((l7_m11:Nat):Int)),(13,ai ((l34_m65:Nat):Int)),(64,ai ((y31.1.length:Nat):Int)),(65,ai ((l34_m65:Nat):Int)),(80,.bool l40_m80)],Af (Ao [(oi 0 1,.cells 22 [.own (oi 0 0) (.slice .int) 0 l34_p0.length]),(oi 1 1,.cells 3 [ai a0]),(oi 2 1,.cells 22 [.own (oi 2 0) (.slice .int) 0 l34_p2.length]),(oi 0 0,.mat 39 (oi 3 1) .int l34_p0),(oi 3 1,.pool 3 .int l34_p0),(oi 2 0,.mat 39 (oi 4 1) .int l34_p2),(oi 4 1,.pool 3 .int l34_p2)]),2⟩) ?_ ?_
       ·intro v_ h;rcases Ad h with ⟨q41,h⟩ | ⟨q41,h⟩
        ·obtain ⟨x42,e42,h⟩:=Ae h;obtain ⟨x43,e43,h⟩:=Ae h;refine Aa 18 ?_;refine rz0 (ai ((l34_m65:Nat):Int)) ?_;refine rz0 (ai ((l7_m9:Nat):Int)) ?_;refine rz0 (.bool (((l34_m65:Nat):Int) !=((l7_m9:Nat):Int))) ?_;refine rz0 (.bool (((l34_m65:Nat):Int) !=((l7_m9:Nat):Int))) ?_;refine rsl (.own (oi 0 0) (.slice .int) 0 l34_p0.length) (zg q41) ?_;refine rs0 (ai ((l34_m65:Nat):Int)) (zg q41) ?_;refine rs0 (.elt (oi 0 0) l34_m65 0) (Lp (by kernel_rfl) q41 (zo (t:=.slice .int) (o:=oi 0 0) (len:=l34_p0.length) (k:=.i64) (m:=((l34_m65:Nat):Int)) (A0 _) (At e42))) ?_;refine rsl (.own (kid (oi 3 1) l34_m65) .int 0 x42.length) (Lp (by kernel_rfl) q41 (Eo (o:=oi 0 0) (p:=oi 3 1) (e1:=39) (u:=.int) (xss:=l34_p0) (row:=x42) (j:=l34_m65) (by kernel_rfl) (by kernel_rfl) e42)) ?_;refine rs0 (ai ((l7_m11:Nat):Int)) (zg q41) ?_;refine rs0 (.elt (kid (oi 3 1) l34_m65) l7_m11 0) (Lp (by kernel_rfl) q41 (zo (t:=.int) (o:=kid (oi 3 1) l34_m65) (len:=x42.length) (k:=.i64) (m:=((l7_m11:Nat):Int)) (A0 _) (At e43))) ?_;refine rsl (ai x43) (Lp (by kernel_rfl) q41 (Ip (i:=kid (oi 3 1) l34_m65) (j:=l7_m11) (k:=0) (e:=3) (t:=.int) (xs:=x42) (by kernel_rfl) (Be (by kernel_rfl) e42) e43 (by kernel_rfl))) ?_;refine rs0 (.bool (x43 !=0)) (zg q41) ?_;refine rs0 (.bool (x43 !=0)) (zT q41) ?_;refine As (tn_ ?_);obtain rfl:=zj h;exact ⟨_,Ac [],rfl⟩
        refine Aa 18 ?_;refine rz0 (ai ((l34_m65:Nat):Int)) ?_;refine rz0 (ai ((l7_m9:Nat):Int)) ?_;refine rz0 (.bool (((l34_m65:Nat):Int) !=((l7_m9:Nat):Int))) ?_;refine rz0 (.bool (((l34_m65:Nat):Int) !=((l7_m9:Nat):Int))) ?_;refine zs q41 ?_;refine zs q41 ?_;refine zs q41 ?_;refine zs q41 ?_;refine zs q41 ?_;refine zs q41 ?_;refine zs q41 ?_;refine zs q41 ?_;refine rs0 (.bool false) (zF q41) ?_;refine As (tn_ ?_);obtain rfl:=zj h;exact ⟨_,Ac [],rfl⟩
       rintro l40_m80 _ rfl h
       (try dsimp only at h);rcases Ad h with ⟨q44,h⟩ | ⟨q44,h⟩
       ·refine Ag q44 ?_;obtain ⟨x45,e45,h⟩:=Ae h;obtain ⟨x46,e46,h⟩:=Ae h;obtain ⟨y47,h47,h⟩:=Ae h;refine Aa 14 ?_;refine rz0 (.fn 66 [.box (oi 1 1) 0,.box (oi 0 1) 0,.box (oi 2 1) 0]) ?_;refine rz0 (ai ((l34_m65:Nat):Int)) ?_;refine rz0 (ai ((l7_m9:Nat):Int)) ?_;refine rzl (.own (oi 0 0) (.slice .int) 0 l34_p0.length) ?_;refine rz0 (ai ((l34_m65:Nat):Int)) ?_;refine rs0 (.elt (oi 0 0) l34_m65 0) (zo (t:=.slice .int) (o:=oi 0 0) (len:=l34_p0.length) (k:=.i64) (m:=((l34_m65:Nat):Int)) (A0 _) (At e45)) ?_;refine rsl (.own (kid (oi 3 1) l34_m65) .int 0 x45.length) (Eo (o:=oi 0 0) (p:=oi 3 1) (e1:=39) (u:=.int) (xss:=l34_p0) (row:=x45) (j:=l34_m65) (by kernel_rfl) (by kernel_rfl) e45) ?_;refine rz0 (ai ((l7_m11:Nat):Int)) ?_;refine rs0 (.elt (kid (oi 3 1) l34_m65) l7_m11 0) (zo (t:=.int) (o:=kid (oi 3 1) l34_m65) (len:=x45.length) (k:=.i64) (m:=((l7_m11:Nat):Int)) (A0 _) (At e46)) ?_;refine rsl (ai x46) (Ip (i:=kid (oi 3 1) l34_m65) (j:=l7_m11) (k:=0) (e:=3) (t:=.int) (xs:=x45) (by kernel_rfl) (Be (by kernel_rfl) e45) e46 (by kernel_rfl)) ?_;refine rz0 (.agg [ai 2,ai ((l34_m65:Nat):Int),ai ((l7_m9:Nat):Int),ai x46]) ?_;refine Dn (.tup []) [(oi 1 1,some (.cells 3 [ai a0])),(oi 0 1,some (.cells 22 [.own (oi 0 0) (.slice .int) 0 y47.1.length])),(oi 0 0,some (.mat 39 (oi 1472 13) .int y47.1)),(oi 1472 13,some (.pool 3 .int y47.1)),(oi 2 1,some (.cells 22 [.own (oi 2 0) (.slice .int) 0 y47.2.length])),(oi 2 0,some (.mat 39 (oi 1473 13) .int y47.2)),(oi 1473 13,some (.pool 3 .int y47.2)),(oi 1 1,none),(oi 0 1,none),(oi 0 0,none),(oi 3 1,some (.pool 3 .int [])),(oi 2 1,none),(oi 2 0,none),(oi 4 1,some (.pool 3 .int []))] [(oi 0 0,oi 1 1),(oi 1 0,oi 0 1),(oi 2 0,oi 0 0),(oi 3 0,oi 3 1),(oi 4 0,oi 2 1),(oi 5 0,oi 2 0),(oi 6 0,oi 4 1)] [.agg [ai 2,ai ((l34_m65:Nat):Int),ai ((l7_m9:Nat):Int),ai x46],.box (oi 1 1) 0,.box (oi 0 1) 0,.box (oi 2 1) 0] (caps:=[.box (oi 1 1) 0,.box (oi 0 1) 0,.box (oi 2 1) 0]) trivial (Fz h47) Fy ⟨by kernel_rfl,⟨by kernel_rfl,⟨by kernel_rfl,⟨by kernel_rfl,⟨by kernel_rfl,⟨by kernel_rfl,⟨by kernel_rfl,trivial⟩⟩⟩⟩⟩⟩⟩ (.cons (.ren (by kernel_rfl)) (.cons (.ren (by kernel_rfl)) (.cons (.ren (by kernel_rfl)) (.cons (.ren (by kernel_rfl)) .nil)))) (A9 (by kernel_rfl) (by kernel_rfl) ⟨Bj (by kernel_rfl),⟨Bj (by kernel_rfl),⟨Ek (k:=oi 0 1) (ty:=22) (cs:=[.own (oi 0 0) (.slice .int) 0 l34_p0.length]) (Bj (by kernel_rfl)) (by kernel_rfl) (by kernel_rfl),⟨E0 (o:=oi 0 0) (p:=oi 3 1) (e1:=39) (m:=l34_p0.length) (u:=.int) (xss:=l34_p0) (Ek (k:=oi 0 1) (ty:=22) (cs:=[.own (oi 0 0) (.slice .int) 0 l34_p0.length]) (Bj (by kernel_rfl)) (by kernel_rfl) (by kernel_rfl)) (by kernel_rfl),⟨Bj (by kernel_rfl),⟨Ek (k:=oi 2 1) (ty:=22) (cs:=[.own (oi 2 0) (.slice .int) 0 l34_p2.length]) (Bj (by kernel_rfl)) (by kernel_rfl) (by kernel_rfl),⟨E0 (o:=oi 2 0) (p:=oi 4 1) (e1:=39) (m:=l34_p2.length) (u:=.int) (xss:=l34_p2) (Ek (k:=oi 2 1) (ty:=22) (cs:=[.own (oi 2 0) (.slice .int) 0 l34_p2.length]) (Bj (by kernel_rfl)) (by kernel_rfl) (by kernel_rfl)) (by kernel_rfl),trivial⟩⟩⟩⟩⟩⟩⟩) ?_;refine As (bn_ (tn_ ?_));obtain rfl:=zj h;exact ⟨_,Ac [(oi 3 1,oi 1472 13),(oi 4 1,oi 1473 13)],⟨y47.1,y47.2,rfl,rfl⟩⟩
       refine Ah q44 ?_;refine Aj (bn_ (tn_ ?_));obtain rfl:=zj h;exact ⟨_,Ac [],⟨l34_p0,l34_p2,rfl,rfl⟩⟩
      rintro _ _ ⟨l38_p0,l38_p2,rfl,rfl⟩ h
      (try dsimp only at h);obtain ⟨g48,h⟩:=Aq h;refine Aa 4 ?_;refine rs0 (ai ((l34_m65+1:Nat):Int)) (za g48) ?_;refine rsB 1 ?_;refine As (tn_ ?_);obtain rfl:=zj h;exact ⟨(l34_m65+1,l38_p0,l38_p2),_,Ac [],⟨l34_m65+1,l38_p0,l38_p2,rfl,rfl⟩,hn34⟩
     have q37_:=of_decide_eq_false q37;refine Ah q37 ?_;refine Ax (te_ (te_ (be_ (tn_ ?_))));obtain rfl:=zj h;have h:=hn34
     (try dsimp only at h);obtain rfl:=zj h;exact ⟨_,Ac [],⟨l34_p0,l34_p2,rfl,rfl⟩⟩
    rintro _ _ ⟨l32_p0,l32_p2,rfl,rfl⟩ h
    (try dsimp only at h);obtain ⟨g49,h⟩:=Aq h;refine Aa 5 ?_;refine rz0 (ai ((l7_m9:Nat):Int)) ?_;refine rs0 (ai ((l7_m9+1:Nat):Int)) (za g49) ?_;refine rsB 1 ?_;refine As (bn_ (tn_ ?_));obtain rfl:=zj h;exact ⟨_,Ac [],⟨l7_m9+1,l32_p0,l32_p2,rfl,rfl⟩⟩
   rintro _ _ ⟨l12_m9,l12_p0,l12_p2,rfl,rfl⟩ h
   (try dsimp only at h);obtain ⟨g50,h⟩:=Aq h;refine Aa 5 ?_;refine rz0 (ai ((l7_m11:Nat):Int)) ?_;refine rs0 (ai ((l7_m11+1:Nat):Int)) (za g50) ?_;refine rsB 1 ?_;refine As (tn_ ?_);obtain rfl:=zj h;exact ⟨(l12_m9,l7_m11+1,l12_p0,l12_p2),_,Ac [],⟨l12_m9,l7_m11+1,l12_p0,l12_p2,rfl,rfl⟩,hn7⟩
  refine Ah q11 ?_;refine Ax (te_ (te_ (be_ (tn_ ?_))));obtain rfl:=zj h;have h:=hn7
  (try dsimp only at h);obtain rfl:=zj h;exact ⟨_,Ac [(oi 0 1,oi 3 1),(oi 1 1,oi 4 1)],⟨l7_m9,l7_p0,l7_p2,rfl,rfl⟩⟩
 rintro _ _ ⟨l5_m9,l5_p0,l5_p2,rfl,rfl⟩ h
 (try dsimp only at h);refine Am ?_;refine Ak ?_;obtain rfl:=zj h;exact Gq [ai ((l5_m9:Nat):Int)] (Ac (tl:=[(8,ai ((l5_m9:Nat):Int))]) (g:=2) [])
end
section
open Go.RowKit Go.Deep
end
section
open Go.RowKit Go.Deep
def GN (G:World->Prop) (n:Nat) (w:World):Prop:=G w∧n<=w.heap.size
def AV.toR (R:Nat->Prop):AV->AV
 | .tree t xs=>.ftr R t xs
 | c=>c
def RL.toR (R:Nat->Prop):RL->RL
 | .frz c=>.frz (c.toR R)
 | .imm c=>.imm (c.toR R)
 | l=>l
def RV.toR (R:Nat->Prop) (r:RV):RV:=⟨r.tup,r.ps.map fun p=>(p.1,p.2.map (RL.toR R))⟩
section
variable {P:Program} {G:World->Prop} {f:FuncId} {args:List AV} {r:RV} {n:Nat} {R:Nat->Prop}
theorem Ahj (h:A6 P G f args r):A6 P (GN G n) f args r:=fun w im vs hG hr=>h w im vs (fun w' hb=>(hG w' hb).1) hr
theorem Amg {ol us:List (Oid×Ob)} {v:AV} (h:Eg P G f args ol v us):Eg P (GN G n) f args ol v us:=by
 intro θ i w0 ob σ K w vs hM h1 h2 h3 h4 h5;refine (h θ i w0 ob σ K w vs ⟨hM.below,fun w' hb=>(hM.inv w' hb).1,hM.gen,hM.lt,hM.cap,hM.inj,hM.obs⟩ h1 h2 h3 h4 h5).mono ?_;rintro e w' ⟨u,rfl,σ',q1,q2,q3⟩;exact ⟨u,rfl,σ',q1,⟨q2.below,hM.inv,q2.gen,q2.lt,q2.cap,q2.inj,q2.obs⟩,q3⟩
theorem Aey {c:AV} (h:c.gndB=true):(c.toR R).gndB=true:=by
 cases c <;> first | exact h | rfl
theorem Aec {c:AV} {im im':Nat->Prop} {w:World} {u:Value} (hg:c.gndB=true) (h1:∀ b,im b->im' b) (h2:∀ b,im b->R b) (h:AV.Rep (fun _=>none) im w c u):AV.Rep (fun _=>none) im' w (c.toR R) u:=by
 cases c <;> first | exact Iq h1 _ hg _ h | skip
 obtain ⟨A,c,l,e,hs⟩:=h;exact ⟨A,c,l,e,Bu (fun b _ hb=>⟨h1 b hb,h2 b hb⟩) hs⟩
theorem Hj {lo:Nat} {im im':Nat->Prop} {vs:List Value} {w:World} (hR:∀ b,lo<=b->R b) (him:∀ b,im' b->im b):∀ {rs:List RL} {us:List Value} {ls:List Loc},(∀ l∈rs,l.isI=true->∀ b,im' b->R b)->RL.RepL lo im' vs w rs us ls->RL.RepL lo im vs w (rs.map (RL.toR R)) us ls
 | [],_,_,_,h=>h
 | .sc c :: _,_,_,hI,⟨u,us',e,q1,q2,q3⟩=>⟨u,us',e,(by cases c <;> first | exact q1 | cases q2),q2,Hj hR him (fun l hl=>hI l (List.mem_cons_of_mem _ hl)) q3⟩
 | .new _ _ _ :: _,_,_,hI,⟨l,ls',us',e1,e2,q1,q2,q3,q4⟩=>⟨l,ls',us',e1,e2,q1,q2,q3,Hj hR him (fun l hl=>hI l (List.mem_cons_of_mem _ hl)) q4⟩
 | .newM _ _ _ _ :: _,_,_,hI,⟨l,kl,ls',us',ks,e1,e2,q,q4⟩=>⟨l,kl,ls',us',ks,e1,e2,q,Hj hR him (fun l hl=>hI l (List.mem_cons_of_mem _ hl)) q4⟩
 | .arg _ _ :: _,_,_,hI,⟨u,us',e,q1,q3⟩=>⟨u,us',e,q1,Hj hR him (fun l hl=>hI l (List.mem_cons_of_mem _ hl)) q3⟩
 | .argS _ _ _ _ _ :: _,_,_,hI,⟨A,m,c,us',e,q1,q3⟩=>⟨A,m,c,us',e,q1,Hj hR him (fun l hl=>hI l (List.mem_cons_of_mem _ hl)) q3⟩
 | .frz c :: _,_,_,hI,⟨u,us',e,q1,q2,q3⟩=>⟨u,us',e,Aec q2 (fun _ h=>h) (fun b hb=>hR b hb) q1,Aey q2,Hj hR him (fun l hl=>hI l (List.mem_cons_of_mem _ hl)) q3⟩
 | .imm c :: _,_,_,hI,⟨u,us',e,q1,q2,q3⟩=>⟨u,us',e,Aec q2 (fun b hb=>hb.imp (him b) id) (fun b hb=>hb.elim (hI _ List.mem_cons_self rfl b) (hR b)) q1,Aey q2,Hj hR him (fun l hl=>hI l (List.mem_cons_of_mem _ hl)) q3⟩
theorem Ua:∀ (ps:List (Bool×List RL)) (us:List Value),Ge (ps.map fun p=>(p.1,p.2.map (RL.toR R))) us=Ge ps us
 | [],_=>rfl
 | (b,rs) :: ps,us=>by simp only [List.map_cons,Ge,List.length_map,Ua ps]
theorem U7 (r:RV):(r.toR R).leaves=r.leaves.map (RL.toR R):=by
 simp only [RV.leaves,RV.toR,List.flatMap_map,List.map_flatMap]
theorem Al4 (l:RL):(l.toR R).fi=l.fi:=by cases l <;> rfl
theorem Ajk {lo:Nat} {im im':Nat->Prop} {vs:List Value} {w:World} {u:Value} (hR:∀ b,lo<=b->R b) (him:∀ b,im' b->im b) (hI:(∃ l∈r.leaves,l.isI=true)->∀ b,im' b->R b) (h:r.Rep lo im' vs w u):(r.toR R).Rep lo im vs w u:=by
 obtain ⟨us,ls,q1,⟨q2,q3⟩,q4⟩:=h;refine ⟨us,ls,by rw [U7]; exact Hj hR him (fun l hl hi=>hI ⟨l,hl,hi⟩) q1,⟨q2,fun ⟨c,hc,hd⟩=>q3 ?_⟩,?_⟩
 ·rw [U7] at hc;obtain ⟨l,hl,e⟩:=List.mem_map.1 hc;subst e;rw [Al4] at hd;exact ⟨l,hl,hd⟩
 ·rw [q4]; simp only [RV.toR,Ua]
mutual
def AV.unR (R:Nat->Prop):AV->AV->Prop
 | .tree t xs,d=>d=.ftr R t xs
 | .agg cs,d=>∃ ds,d=.agg ds∧AV.unRL R cs ds
 | c,d=>c.scal=true∧d=c
def AV.unRL (R:Nat->Prop):List AV->List AV->Prop
 | [],ds=>ds=[]
 | c :: cs,ds=>∃ d ds',ds=d :: ds'∧AV.unR R c d∧AV.unRL R cs ds'
end
mutual
theorem Aj3 {im:Nat->Prop} {w:World}:∀ (c d:AV) (u:Value),AV.unR R c d->AV.Rep (fun _=>none) im w d u->AV.Rep (fun _=>none) (fun b=>im b∧R b) w c u
 | .tree t xs,d,u,h,hr=>by
  have h:d=.ftr R t xs:=h;subst h;exact hr
 | .agg cs,d,u,⟨ds,e,h⟩,hr=>by
  subst e;obtain ⟨us,e,hr⟩:=hr;exact ⟨us,e,Vm cs ds us h hr⟩
 | .int ..,d,u,⟨_,e⟩,hr=>by subst e; exact hr
 | .bool ..,d,u,⟨_,e⟩,hr=>by subst e; exact hr
 | .str ..,d,u,⟨_,e⟩,hr=>by subst e; exact hr
 | .nils,d,u,⟨_,e⟩,hr=>by subst e; exact hr
 | .any,d,u,⟨h,_⟩,_=>by cases h
 | .mtree ..,d,u,⟨h,_⟩,_=>by cases h
 | .ftr ..,d,u,⟨h,_⟩,_=>by cases h
 | .mp _,d,u,⟨h,_⟩,_=>by cases h
 | .tup _,d,u,⟨h,_⟩,_=>by cases h
 | .fn ..,d,u,⟨h,_⟩,_=>by cases h
 | .ref _,d,u,⟨h,_⟩,_=>by cases h
 | .own ..,d,u,⟨h,_⟩,_=>by cases h
 | .box ..,d,u,⟨h,_⟩,_=>by cases h
 | .elt ..,d,u,⟨h,_⟩,_=>by cases h
 | .sla ..,d,u,⟨h,_⟩,_=>by cases h
 | .telt ..,d,u,⟨h,_⟩,_=>by cases h
 | .giv ..,d,u,⟨h,_⟩,_=>by cases h
 | .abool ..,d,u,⟨h,_⟩,_=>by cases h
theorem Vm {im:Nat->Prop} {w:World}:∀ (cs ds:List AV) (us:List Value),AV.unRL R cs ds->AV.RepL (fun _=>none) im w ds us->AV.RepL (fun _=>none) (fun b=>im b∧R b) w cs us
 | [],ds,us,h,hr=>by obtain rfl:ds=[]:=h; exact hr
 | c :: cs,ds,us,⟨d,ds',e,h1,h2⟩,hr=>by
  subst e;obtain ⟨u,us',e,r1,r2⟩:=hr;exact ⟨u,us',e,Aj3 c d u h1 r1,Vm cs ds' us' h2 r2⟩
end
theorem Ami {args':List AV} (hR:∀ b,n<=b->R b) (hu:AV.unRL R args args') (h:A6 P G f args r):A6 P (GN G n) f args' (r.toR R):=by
 intro w im vs hG hr;have hn:n<=w.heap.size:=(hG w (Below.refl _ _)).2;refine (h w (fun b=>im b∧R b) vs (fun w' hb=>(hG w' hb).1) (Vm _ _ _ hu hr)).mono ?_;rintro e w' ⟨u,rfl,hb,hrv⟩;exact ⟨u,rfl,hb,Ajk (fun b hb=>hR b (Nat.le_trans hn hb)) (fun _ h=>h.1) (fun _ _ h=>h.2) hrv⟩
theorem Aj0 {p:Bool} {n:Nat} {d:Option Nat} {gd:Option (Nat×Bool)} {fo:Opd} {xs:List Opd} {tys:List (List (Option Ty))} {f:Nat->AV} {ob:Oid->Option Ob} {F:FuncId} {caps args:List AV} {rv:RV} {r:AV×List (Oid×Option Ob)}
  (hgd:Ph gd f) (hfo:fo.ev f=.fn F caps) (hg:AV.gndBL ((xs++caps.map Opd.cst).map (Opd.ev f))=true) (hn:Lv tys ((xs++caps.map Opd.cst).map (Opd.ev f))=args) (hb:A2 P F=true) (hc:A6 P G F args rv) (hr:rv.out (Ct ((d.getD 0,0),n)) ((xs++caps.map Opd.cst).map (Opd.ev f))=r) :
  Dp P G p n ⟨d,gd,.call fo xs tys⟩ f ob (1,r.1,r.2):=by
 subst hn;have key:EvR P G p f ob ((d.getD 0,0),n) (.call fo xs tys) (1,r.1,r.2):=.inr ⟨fo,xs,tys,F,caps,rfl,hfo,.inl ⟨rfl,hb,_,rv,.inr ⟨rfl,hg⟩,hc,hr⟩⟩;unfold Dp;cases gd with
 | none=>exact key
 | some sb=>exact ⟨true,T6 hgd,by rw [if_pos rfl]; exact key⟩
end
-- rows of things that nobody writes
theorem Aez {m:Option (Nat->Prop)} {t:Ty} (xs:List t.D):(tvC m t xs).length=xs.length*t.size:=by
 unfold tvC
 induction xs with
 | nil=>simp
 | cons x xs ih=>rw [List.flatMap_cons,List.length_append,ih,D7,List.length_cons,Nat.succ_mul]; omega
theorem Ajb {m:Option (Nat->Prop)} {t:Ty} (xs ys:List t.D):tvC m t (xs++ys)=tvC m t xs++tvC m t ys:=by simp [tvC]
theorem avM_one (m:Option (Nat->Prop)):∀ (t:Ty) (x:t.D),∀ c∈t.avM m x,c.one=true
 | .int,_,c,h=>by obtain rfl:=List.mem_singleton.1 h; rfl
 | .bool,_,c,h=>by obtain rfl:=List.mem_singleton.1 h; rfl
 | .str,_,c,h=>by obtain rfl:=List.mem_singleton.1 h; rfl
 | .slice _,_,c,h=>by obtain rfl:=List.mem_singleton.1 h; cases m <;> rfl
 | .pair a b,x,c,h=>by
  rcases List.mem_append.1 h with h | h
  ·exact avM_one m a _ c h
  ·exact avM_one m b _ c h
theorem Ach {ob:Oid->Option Ob} (m:Option (Nat->Prop)):∀ (t:Ty) (x:t.D),rdC ob t (t.avM m x)=some x
 | .int,_=>rfl
 | .bool,_=>rfl
 | .str,_=>rfl
 | .slice t,xs=>by
  have:Ej ob t (trM m t xs)=some xs:=by cases m <;> simp only [trM,Ej,Ty.eq?_self,Cq]
  simp only [Ty.avM,rdC,this]
 | .pair a b,x=>by
  have h1:(a.avM m x.1++b.avM m x.2).take a.size=a.avM m x.1:=List.take_left' (D7 m a x.1);have h2:(a.avM m x.1++b.avM m x.2).drop a.size=b.avM m x.2:=List.drop_left' (D7 m a x.1);simp only [Ty.avM,rdC,h1,h2,Ach m a,Ach m b]
theorem Xu {ob:Oid->Option Ob} {m:Option (Nat->Prop)} {t:Ty}:∀ (xs:List t.D),Mh (rdC ob t) t.size xs.length (tvC m t xs)=some xs
 | []=>rfl
 | x :: xs=>by
  have h1:(tvC m t (x :: xs)).take t.size=t.avM m x:=List.take_left' (D7 m t x);have h2:(tvC m t (x :: xs)).drop t.size=tvC m t xs:=List.drop_left' (D7 m t x);simp only [List.length_cons,Mh,h1,h2,Ach,Xu xs]
section
variable {ob:Oid->Option Ob}
theorem Ams {n len:Nat} {o:Oid} {e:TypeId} {m:Option (Nat->Prop)} {t:Ty} {xs:List t.D} (ho:ob o=some (.vec e t.size xs.length (tvC m t xs))) (hl:len=xs.length):gnd ob (n+1) (.own o t 0 len)=some (.tree t xs):=by
 subst hl
 have:Aa7 ob t.size (rdC ob t) (.own o t 0 xs.length)=some xs:=by
  simp only [Aa7,ho];rw [if_pos ⟨trivial,by omega⟩,Nat.zero_mul,List.drop_zero,List.take_of_length_le (by rw [Aez]; exact Nat.le_refl _)];exact Xu xs
 simp only [gnd,ho,this,Option.map_some]
end
theorem Ah8 {G:World->Prop} {tl:List (Nat×AV)} {ol:List (Oid×Option Ob)} {g:Nat} (o:Oid) (e:TypeId) (m:Option (Nat->Prop)) (t:Ty) (xs:List t.D) {N:Nat} (h:Af ol o=some (.vec e t.size N (tvC m t xs))) (hN:N=xs.length):WeakG G ⟨Al tl,Af ol,g⟩ ⟨Al tl,Af ((o,some (.tv e m t xs)) :: ol),g⟩:=by
 subst hN
 have:Af ((o,some (.tv e m t xs)) :: ol)=Af ol:=by
  funext i;show (if i=o then some (.vec e t.size xs.length (tvC m t xs)) else Af ol i)=Af ol i;by_cases hi:i=o
  ·rw [if_pos hi,hi,h]
  ·rw [if_neg hi]
 rw [this]; exact WeakG.refl _
section
variable {n:Nat} {d:Option Nat} {f:Nat->AV} {ob:Oid->Option Ob}
end
-- results
inductive Aby (R:Nat->Prop) (ob:Oid->Option Ob):AV->AV->Prop
 | ftr {t:Ty} {xs:List t.D}:Aby R ob (.ftr R t xs) (.tree t xs)
 | nil {t:Ty}:Aby R ob .nils (.tree t [])
 | arr {i:Oid} {t u:Ty} {e:TypeId} {xs:List u.D} {len:Nat}:ob i=some (.arr e u xs)->len=xs.length->Aby R ob (.own i t 0 len) (.tree u xs)
 | mat {o p:Oid} {e1 e:TypeId} {u:Ty} {xss:List (List u.D)} {len:Nat}:ob o=some (.vec e1 1 xss.length (hdL p u xss))->(∀ k row,xss[k]? =some row->ob (kid p k)=some (.arr e u row))->len=xss.length->Aby R ob (.own o (.slice u) 0 len) (.tree (.slice u) xss)
 | tv {o:Oid} {e:TypeId} {t:Ty} {xs:List t.D} {len:Nat}:ob o=some (.vec e t.size xs.length (tvC (some R) t xs))->len=xs.length->Aby R ob (.own o t 0 len) (.tree t xs)
section
variable {G:World->Prop} {w0 w:World} {ob:Oid->Option Ob} {σ:Oid->Option Loc} {K:Nat->Prop}
theorem U8 {im im':Nat->Prop} {i:Oid} {t:Ty} {off len:Nat} {v:Value} (h:AV.Rep σ im w (.own i t off len) v):AV.Rep σ im' w (.own i t off len) v:=h
theorem Aip {im im':Nat->Prop} {p:Oid} {u:Ty} {xss:List (List u.D)} {vs:List Value} (h:AV.RepL σ im w (hdL p u xss) vs):AV.RepL σ im' w (hdL p u xss) vs:=by
 have key:∀ (l:List (List u.D×Nat)) (vs:List Value),AV.RepL σ im w (l.map fun x=>.own (kid p x.2) u 0 x.1.length) vs->AV.RepL σ im' w (l.map fun x=>.own (kid p x.2) u 0 x.1.length) vs:=by
  intro l
  induction l with
  | nil=>intro vs h; exact h
  | cons x l ih=>rintro vs ⟨v,vs',e,h1,h2⟩; exact ⟨v,vs',e,U8 h1,ih vs' h2⟩
 exact key _ _ h
theorem Adm {im R:Nat->Prop}:∀ (t:Ty) (x:t.D) (vs:List Value),AV.RepL σ im w (t.avM (some R) x) vs->AV.RepL σ R w (t.av x) vs
 | .int,_,_,⟨v,vs',e,h1,h2⟩=>⟨v,vs',e,h1,h2⟩
 | .bool,_,_,⟨v,vs',e,h1,h2⟩=>⟨v,vs',e,h1,h2⟩
 | .str,_,_,⟨v,vs',e,h1,h2⟩=>⟨v,vs',e,h1,h2⟩
 | .slice t,xs,_,⟨v,vs',e,⟨A,c,l,e1,hs⟩,h2⟩=>⟨v,vs',e,⟨A,c,l,e1,Bu (fun b _ hb=>hb.2) hs⟩,h2⟩
 | .pair a b,x,vs,h=>by
  have hl:=h.length;have h1:=h.take a.size;have h2:=h.drop a.size;have e1:((Ty.pair a b).avM (some R) x).take a.size=a.avM (some R) x.1:=List.take_left' (D7 _ a x.1);have e2:((Ty.pair a b).avM (some R) x).drop a.size=b.avM (some R) x.2:=List.drop_left' (D7 _ a x.1);rw [e1] at h1;rw [e2] at h2;have:=(Adm a x.1 _ h1).append (Adm b x.2 _ h2);rw [List.take_append_drop] at this;exact this
theorem Ahg {im R:Nat->Prop} {t:Ty}:∀ (xs:List t.D) (vs:List Value),AV.RepL σ im w (tvC (some R) t xs) vs->AV.RepL σ R w (tvC none t xs) vs
 | [],_,h=>h
 | x :: xs,vs,h=>by
  have h1:=h.take t.size;have h2:=h.drop t.size;have e1:(tvC (some R) t (x :: xs)).take t.size=t.avM (some R) x:=List.take_left' (D7 _ t x);have e2:(tvC (some R) t (x :: xs)).drop t.size=tvC (some R) t xs:=List.drop_left' (D7 _ t x);rw [e1] at h1;rw [e2] at h2
  have hav:∀ (t:Ty) (x:t.D),t.avM none x=t.av x:=by
   intro t
   induction t with
   | pair a b ha hb=>intro x; simp only [Ty.avM,Ty.av,ha,hb]
   | _=>intro x; rfl
  have h1':=Adm t x _ h1;rw [← hav] at h1';have:=h1'.append (Ahg xs _ h2);rw [List.take_append_drop] at this;exact this
theorem Ahz {R:Nat->Prop} (hM:Mem0 G w0 ob σ K w) (hR:∀ b,w0.heap.size<=b->R b) {c d:AV} {v:Value} (h:Aby R ob c d) (hr:AV.Rep σ (imm ob σ) w c v):AV.Rep (fun _=>none) R w d v:=by
 cases h with
 | ftr=>obtain ⟨A,c,l,e,hs⟩:=hr; exact ⟨A,c,l,e,Bu (fun b _ hb=>hb.2) hs⟩
 | nil=>exact ⟨none,0,[],hr,by simp,by simp [maxLen],fun _=>[],by simp,fun h=>absurd h (by simp)⟩
 | @arr i t u e xs len h1 h2 =>
  refine Im (ob:=fun j=>if j=i then some (.arr e u xs) else none) (σ:=σ) (im:=R) (lo:=w0.heap.size) (fun j o l hj hl=>?_) (fun _ hb=>hb) (fun j o b c s _ hs=>hR b (hM.lt j b c s hs).1) 1 _ _ _ (Qa (e:=e) (if_pos rfl) h2) (U8 hr);split at hj
  ·rename_i e'; subst e';obtain rfl:=osj hj;exact hM.obs j _ l h1 hl
  ·cases hj
 | @mat o p e1 e u xss len h1 h2 h3 =>
  refine Im (ob:=fun j=>match ob j with | some (.arr e u xs)=>some (.arr e u xs) | _=>if j=o then some (.vec e1 1 xss.length (hdL p u xss)) else none) (σ:=σ) (im:=R) (lo:=w0.heap.size) (fun j q l hj hl=>?_) (fun _ hb=>hb) (fun j o b c s _ hs=>hR b (hM.lt j b c s hs).1) 1 _ _ _ (D9 (p:=p) (e1:=e1) (e:=e) (by simp only [h1]; rw [if_pos trivial]) (fun k row hk=>by simp only [h2 k row hk]) h3) (U8 hr);split at hj
  ·rename_i e' u' xs' hj';obtain rfl:=osj hj;exact hM.obs j _ l hj' hl
  ·split at hj
   ·rename_i e'; subst e';obtain rfl:=osj hj;obtain ⟨vs,g1,g2,g3⟩:=hM.obs j _ l h1 hl;exact ⟨vs,g1,Aip g2,g3⟩
   ·cases hj
 | @tv o e t xs len h1 h2 =>
  refine Im (ob:=fun j=>if j=o then some (.vec e t.size xs.length (tvC none t xs)) else none) (σ:=σ) (im:=R) (lo:=w0.heap.size) (fun j q l hj hl=>?_) (fun _ hb=>hb) (fun j o b c s _ hs=>hR b (hM.lt j b c s hs).1) 1 _ _ _ (Ams (m:=none) (e:=e) (if_pos rfl) h2) (U8 hr);split at hj
  ·rename_i e'; subst e';obtain rfl:=osj hj;obtain ⟨vs,g1,g2,g3⟩:=hM.obs j _ l h1 hl;exact ⟨vs,g1,Ahg xs vs g2,g3⟩
  ·cases hj
def RL.zl:Bool->AV->RL
 | true,d=>.frz d
 | false,d=>.imm d
def zR (z:Bool) (im:Nat->Prop) (n:Nat) (b:Nat):Prop:=if z then n<=b else im b∨n<=b
theorem Akz {z:Bool} {im:Nat->Prop} {n b:Nat} (h:n<=b):zR z im n b:=by cases z; exact .inr h; exact h
def Abv (R:Nat->Prop) (z:Bool) (ob:Oid->Option Ob) (c:AV) (l:RL):Prop:=(c.scal=true∧l=.sc c)∨∃ d,l=.zl z d∧d.gndB=true∧Aby R ob c d
def Jv (R:Nat->Prop) (z:Bool) (ob:Oid->Option Ob):List AV->List RL->Prop
 | [],ls=>ls=[]
 | c :: cs,ls=>∃ l ls',ls=l :: ls'∧Abv R z ob c l∧Jv R z ob cs ls'
def K4 (R:Nat->Prop) (z:Bool) (ob:Oid->Option Ob):List (Bool×List AV)->List (Bool×List RL)->Prop
 | [],ps=>ps=[]
 | (b,cs) :: r,ps=>∃ ls ps',ps=(b,ls) :: ps'∧Jv R z ob cs ls∧(b=false->cs.length=1)∧K4 R z ob r ps'
def Akw:List (Bool×List AV)->List AV
 | []=>[]
 | (b,cs) :: r=>(if b then .agg cs else cs.headD .any) :: Akw r
def Ajy (R:Nat->Prop) (z:Bool) (rs:List Res) (S:St) (r:RV):Prop :=
 ∃ gs ps,Res.evL S.tm S.ob rs=some (Akw gs)∧K4 R z S.ob gs ps∧r=⟨decide (rs.length≠1),ps⟩
theorem Rp {z:Bool} (hM:Mem0 G w0 ob σ K w) {im:Nat->Prop} {vs0:List Value}:∀ {cs:List AV} {ls:List RL} {us:List Value},Jv (zR z im w0.heap.size) z ob cs ls->AV.RepL σ (imm ob σ) w cs us->RL.RepL w0.heap.size im vs0 w ls us []∧ls.length=us.length
 | [],ls,us,h,hr=>by obtain rfl:ls=[]:=h; exact ⟨⟨hr,rfl⟩,by rw [show us=[] from hr]; rfl⟩
 | c :: cs,ls,us,⟨l,ls',e,h1,h2⟩,⟨u,us',e',r1,r2⟩=>by
  subst e e';obtain ⟨q1,q2⟩:=Rp hM (im:=im) (vs0:=vs0) h2 r2;refine ⟨?_,by simp [q2]⟩;rcases h1 with ⟨a1,rfl⟩ | ⟨d,rfl,a1,a2⟩
  ·exact ⟨u,us',rfl,(by cases c <;> first | exact r1 | cases a1),a1,q1⟩
  ·have hr:=Ahz hM (fun _ h=>Akz h) a2 r1;cases z with
   | true=>exact ⟨u,us',rfl,Iq (fun b h=>h) _ a1 _ hr,a1,q1⟩
   | false=>exact ⟨u,us',rfl,Iq (fun b h=>h) _ a1 _ hr,a1,q1⟩
theorem Z5 {lo:Nat} {im:Nat->Prop} {vs:List Value} {w:World}:∀ {rs:List RL} {us:List Value} {rs':List RL} {us':List Value},(∀ l∈rs,(∃ c,l=.sc c)∨(∃ d,l=.frz d)∨∃ d,l=.imm d)->RL.RepL lo im vs w rs us []->RL.RepL lo im vs w rs' us' []->RL.RepL lo im vs w (rs++rs') (us++us') []
 | [],_,_,_,_,⟨e,_⟩,h=>by subst e; exact h
 | l :: rs,us,rs',us',hk,h,h'=>by
  have hk':=fun l hl=>hk l (List.mem_cons_of_mem _ hl)
  rcases hk l List.mem_cons_self with ⟨c,rfl⟩ | ⟨d,rfl⟩ | ⟨d,rfl⟩ <;> obtain ⟨u,us1,rfl,q1,q2,q3⟩:=h <;> exact ⟨u,us1++us',rfl,q1,q2,Z5 hk' q3 h'⟩
theorem Py {R:Nat->Prop} {z:Bool}:∀ {cs:List AV} {ls:List RL},Jv R z ob cs ls->∀ l∈ls,(∃ c,l=.sc c)∨(∃ d,l=.frz d)∨∃ d,l=.imm d
 | [],ls,h,l,hl=>by rw [show ls=[] from h] at hl; cases hl
 | c :: cs,ls,⟨l0,ls',e,h1,h2⟩,l,hl=>by
  subst e;rcases List.mem_cons.1 hl with rfl | hl
  ·rcases h1 with ⟨_,rfl⟩ | ⟨d,rfl,_⟩
   ·exact .inl ⟨_,rfl⟩
   ·cases z with
    | true=>exact .inr (.inl ⟨_,rfl⟩)
    | false=>exact .inr (.inr ⟨_,rfl⟩)
  ·exact Py h2 l hl
theorem Vs {z:Bool} (hM:Mem0 G w0 ob σ K w) {im:Nat->Prop} {vs0:List Value}:∀ {gs:List (Bool×List AV)} {ps:List (Bool×List RL)} {us:List Value},K4 (zR z im w0.heap.size) z ob gs ps->AV.RepL σ (imm ob σ) w (Akw gs) us->∃ vs,RL.RepL w0.heap.size im vs0 w (ps.flatMap (·.2)) vs []∧Ge ps vs=us
 | [],ps,us,h,hr=>by
  obtain rfl:ps=[]:=h;exact ⟨[],⟨rfl,rfl⟩,hr.symm⟩
 | (b,cs) :: gs,ps,us,⟨ls,ps',e,h1,h2,h3⟩,⟨u,us',e',r1,r2⟩=>by
  subst e e';obtain ⟨vs,q1,q2⟩:=Vs hM (im:=im) (vs0:=vs0) h3 r2
  have key:∀ ws:List Value,AV.RepL σ (imm ob σ) w cs ws->(if b then Value.agg ws.toArray else ws.headD undef)=u->∃ vs,RL.RepL w0.heap.size im vs0 w (((b,ls) :: ps').flatMap (·.2)) vs []∧Ge ((b,ls) :: ps') vs=u :: us':=fun ws hw hu=>by
   obtain ⟨a1,a2⟩:=Rp hM (im:=im) (vs0:=vs0) h1 hw;refine ⟨ws++vs,Z5 (Py h1) a1 q1,?_⟩;simp only [Ge];rw [List.drop_left' a2.symm,q2,List.take_left' a2.symm];congr 1;cases b with
   | true=>exact hu
   | false =>
    have hl:=h2 rfl;rw [← hw.length] at hl;cases ws with
    | nil=>simp at hl
    | cons w0 ws=>exact hu
  cases b with
  | true =>
   obtain ⟨ws,e1,e2⟩:=r1;exact key ws e2 (by rw [e1]; rfl)
  | false =>
   have hl:=h2 rfl;obtain ⟨c,rfl⟩:=List.length_eq_one_iff.1 hl;exact key [u] ⟨u,[],rfl,r1,rfl⟩ rfl
end
theorem Aaa {P:Program} [IsP P] {G:World->Prop} (hfol:P.follows .mixedOrders=true) {g:FuncId} {fn:Func} (hf:P.funcs[g]? =some fn) {ac:AC} {rs:List Res} (hc0:Ap P fn=some (ac,rs)) {args:List AV} {args':(Nat->Prop)->List AV} {r:RV} {n:Nat} (z:Bool) (hN:fn.ntmps=n) (hn:∀ R,(args' R).length<=n) {tl:(Nat->Prop)->List (Nat×AV)} (htl:∀ R,tmL 0 (args' R)=tl R) (ha:∀ (R im:Nat->Prop) (w:World) (us:List Value),(∀ b,im b->z=false->R b)->AV.RepL (fun _=>none) im w args us->AV.RepL (fun _=>none) im w (args' R) us)
  (h:∀ (n:Nat) (R:Nat->Prop),(∀ b,n<=b->R b)->awp P (GN G n) ac (fun e S=>∃ S',WeakG (GN G n) S S'∧(e=.normal∨e=.ret)∧Ajy R z rs S' r) ⟨Al (tl R),Af [],1⟩):A6 P G g args r:=by
 subst hN
 have h0:∃ c,fn.body=some c∧AC.of P fn.ntmps c=some ac∧Res.ofL P fn.results.toList=some rs:=by
  unfold Ap at hc0;split at hc0
  ·rename_i c hb;split at hc0
   ·rename_i ac' rs' h1 h2;obtain ⟨rfl,rfl⟩:=Prod.mk.inj (osj hc0);exact ⟨c,hb,h1,h2⟩
   ·cases hc0
  ·cases hc0
 obtain ⟨c,hb,hc,hrs⟩:=h0;intro w im vs hG hargs
 replace h:=h w.heap.size (zR z im w.heap.size) fun _ h=>Akz h
 replace hn:=hn (zR z im w.heap.size)
 rw [← htl,← St.init_eq] at h
 replace hargs:=ha (zR z im w.heap.size) im w vs (fun b hb e=>by subst e; exact .inl hb) hargs
 generalize args' (zR z im w.heap.size)=args at h hn hargs;have hlen:vs.length=args.length:=hargs.length
 have hany:∀ (cs:List AV) (us:List Value),AV.RepL (fun _=>none) im w cs us->AV.RepL (fun _=>none) (imm (fun _=>none) (fun _=>none)) w cs us:=fun cs us h' =>
  AV.RepL.later ⟨fun _ _ h=>h,(fun _ _ _ _ _ _ _ h=>by cases h),fun _ _ _=>rfl,Nat.le_refl _⟩ cs us h'
 have hreps:L0 (GN G w.heap.size) w ⟨fun _=>none,fun _=>False,w,fun _ _ h=>(nomatch h)⟩ fn.ntmps (St.init args) { tmps:=vs.toArray++Array.replicate (fn.ntmps - vs.toArray.size) undef,defers:=[] } w:=by
  refine ⟨⟨fun _=>none,⟨Below.refl _ _,fun w' hb=>⟨hG w' hb,hb.size⟩,(fun _ _ h=>by cases h),(fun _ _ _ _ h=>by cases h),(fun _ _ _ _ h=>by cases h),(fun _ _ _ _ _ _ _ _ _ h=>by cases h),(fun _ _ _ h=>by cases h)⟩,fun t=>?_,⟨fun _ _ h=>h,fun _ _ h=>h.elim,fun _ _ h=>h.elim,Nat.le_refl _⟩⟩,by simp; omega,rfl,fun i h=>absurd rfl h⟩;simp only [St.init,gDg];cases ht:args[t]? with
  | none=>trivial
  | some c =>
   obtain ⟨v,hv,hr⟩:=(hany _ _ hargs).get ht;have hlt:t<vs.length:=(gSi.1 hv).1
   have e:(vs.toArray++Array.replicate (fn.ntmps - vs.toArray.size) undef).getD t undef=v:=by
    rw [Array.getD_eq_getD_getElem?,Array.getElem?_append_left (by simpa using hlt)];simp [hv]
   rw [e];exact hr
 refine calls_of_wp hf hb (Code.wp_mono (fun e a' w' hq=>?_) (Qh hfol c ac _ _ _ w hc h hreps));obtain ⟨e',S0,rfl,⟨S',hweak,hend,gs,ps,h1,h2,h4⟩,hr⟩:=hq
 replace hr:=hweak _ _ _ _ _ hr
 obtain ⟨σ,hM,hF,_⟩:=hr.ex
 have hrun:∀ (vars:List ResultVar) (rs:List Res) (avs:List AV),Res.ofL P vars=some rs->Res.evL S'.tm S'.ob rs=some avs ->
   ∃ us,(vars.mapM (Aa2 a'.tmps)).run P w'=.ok us w'∧AV.RepL σ (imm S'.ob σ) w' avs us∧us.length=vars.length∧rs.length=vars.length:=by
  intro vars
  induction vars with
  | nil =>
   intro rs avs q1 q2;obtain rfl:[]=rs:=osj q1;obtain rfl:[]=avs:=osj q2;exact ⟨[],rfl,rfl,rfl,rfl⟩
  | cons v vars ih =>
   intro rs avs q1 q2;simp only [Res.ofL] at q1;split at q1
   ·rename_i x xs p1 p2;obtain rfl:=osj q1;simp only [Res.evL] at q2;split at q2
    ·rename_i y ys p3 p4;obtain rfl:=osj q2;obtain ⟨u,r1,r2⟩:=Res.run hM hF p1 p3;obtain ⟨us,r3,r4,r5,r6⟩:=ih _ _ p2 p4;refine ⟨u :: us,?_,⟨u,us,rfl,r2,r4⟩,by simp [r5],by simp [r6]⟩;rw [List.mapM_cons,Sem.run_bind,r1];simp only [Result.andThen_ok,Sem.run_bind,r3,Sem.run_pure]
    ·cases q2
   ·cases q1
 obtain ⟨us,u1,u2,u3,u4⟩:=hrun fn.results.toList rs _ hrs h1;obtain ⟨vs',f1,f3⟩:=Vs (im:=im) (vs0:=vs) hM h2 u2;have hres:(results fn a'.tmps).run P w'=.ok (if fn.results.size=1 then us.headD undef else .tuple us.toArray) w':=Mb u1 (by rw [u3]; simp)
 have hrv:r.Rep w.heap.size im vs w' (if fn.results.size=1 then us.headD undef else .tuple us.toArray):=by
  subst h4;refine ⟨vs',[],f1,⟨trivial,fun _=>rfl⟩,?_⟩;simp only [f3];have:rs.length=fn.results.size:=by rw [u4]; simp
  rw [this];by_cases h1:fn.results.size=1 <;> simp [h1]
 have fin:∃ u,(results fn a'.tmps).run P w'=.ok u w'∧∃ v,Ending.returned u=.returned v∧Below w.heap.size w w'∧r.Rep w.heap.size im vs w' v:=⟨_,hres,_,rfl,hM.below,hrv⟩
 rcases hend with rfl | rfl
 ·exact ⟨hr.defers,fin⟩
 ·exact ⟨hr.defers,fin⟩
theorem Ahf {P:Program} [IsP P] {G:World->Prop} (hfol:P.follows .mixedOrders=true) {g:FuncId} {fn:Func} (hf:P.funcs[g]? =some fn) {ac:AC} {rs:List Res} (hc0:Ap P fn=some (ac,rs)) {args:List AV} {r:RV} {n:Nat} (hN:fn.ntmps=n) (hn:args.length<=n) {tl:List (Nat×AV)} (htl:tmL 0 args=tl)
  (h:∀ (n:Nat) (R:Nat->Prop),(∀ b,n<=b->R b)->awp P (GN G n) ac (fun e S=>∃ S',WeakG (GN G n) S S'∧(e=.normal∨e=.ret)∧Ajy R true rs S' r) ⟨Al tl,Af [],1⟩):A6 P G g args r :=
 Aaa hfol hf hc0 (args':=fun _=>args) true hN (fun _=>hn) (tl:=fun _=>tl) (fun _=>htl) (fun _ _ _ _ _ h=>h) h
mutual
theorem Ahy {R im:Nat->Prop} {w:World} (hR:∀ b,im b->R b):∀ (c d:AV) (u:Value),AV.unR R c d->AV.Rep (fun _=>none) im w c u->AV.Rep (fun _=>none) im w d u
 | .tree t xs,d,u,h,⟨A,c,l,e,hs⟩=>by
  have h:d=.ftr R t xs:=h;subst h;exact ⟨A,c,l,e,Bu (fun b _ hb=>⟨hb,hR b hb⟩) hs⟩
 | .agg cs,d,u,⟨ds,e,h⟩,hr=>by
  subst e;obtain ⟨us,e,hr⟩:=hr;exact ⟨us,e,Re hR cs ds us h hr⟩
 | .int ..,d,u,⟨_,e⟩,hr=>by subst e; exact hr
 | .bool ..,d,u,⟨_,e⟩,hr=>by subst e; exact hr
 | .str ..,d,u,⟨_,e⟩,hr=>by subst e; exact hr
 | .nils,d,u,⟨_,e⟩,hr=>by subst e; exact hr
 | .any,d,u,⟨h,_⟩,_=>by cases h
 | .mtree ..,d,u,⟨h,_⟩,_=>by cases h
 | .ftr ..,d,u,⟨h,_⟩,_=>by cases h
 | .mp _,d,u,⟨h,_⟩,_=>by cases h
 | .tup _,d,u,⟨h,_⟩,_=>by cases h
 | .fn ..,d,u,⟨h,_⟩,_=>by cases h
 | .ref _,d,u,⟨h,_⟩,_=>by cases h
 | .own ..,d,u,⟨h,_⟩,_=>by cases h
 | .box ..,d,u,⟨h,_⟩,_=>by cases h
 | .elt ..,d,u,⟨h,_⟩,_=>by cases h
 | .sla ..,d,u,⟨h,_⟩,_=>by cases h
 | .telt ..,d,u,⟨h,_⟩,_=>by cases h
 | .giv ..,d,u,⟨h,_⟩,_=>by cases h
 | .abool ..,d,u,⟨h,_⟩,_=>by cases h
theorem Re {R im:Nat->Prop} {w:World} (hR:∀ b,im b->R b):∀ (cs ds:List AV) (us:List Value),AV.unRL R cs ds->AV.RepL (fun _=>none) im w cs us->AV.RepL (fun _=>none) im w ds us
 | [],ds,us,h,hr=>by obtain rfl:ds=[]:=h; exact hr
 | c :: cs,ds,us,⟨d,ds',e,h1,h2⟩,hr=>by
  subst e;obtain ⟨u,us',e,r1,r2⟩:=hr;exact ⟨u,us',e,Ahy hR c d u h1 r1,Re hR cs ds' us' h2 r2⟩
end
theorem Agr {P:Program} [IsP P] {G:World->Prop} (hfol:P.follows .mixedOrders=true) {g:FuncId} {fn:Func} (hf:P.funcs[g]? =some fn) {ac:AC} {rs:List Res} (hc0:Ap P fn=some (ac,rs)) {args:List AV} (args':(Nat->Prop)->List AV) {r:RV} {n:Nat} (hN:fn.ntmps=n) (hn:∀ R,(args' R).length<=n) (hu:∀ R,AV.unRL R args (args' R)) {tl:(Nat->Prop)->List (Nat×AV)} (htl:∀ R,tmL 0 (args' R)=tl R)
  (h:∀ (n:Nat) (R:Nat->Prop),(∀ b,n<=b->R b)->awp P (GN G n) ac (fun e S=>∃ S',WeakG (GN G n) S S'∧(e=.normal∨e=.ret)∧Ajy R false rs S' r) ⟨Al (tl R),Af [],1⟩):A6 P G g args r :=
 Aaa hfol hf hc0 false hN hn htl (fun R im w us hR hr=>Re (fun b hb=>hR b hb rfl) _ _ _ (hu R) hr) h
theorem Ahh {G:World->Prop} {R:Nat->Prop} {z:Bool} {rs:List Res} {tm:Nat->AV} {ob:Oid->Option Ob} {g:Nat} {r:RV} (gs:List (Bool×List AV)) {e:AE} (h2:K4 R z ob gs r.ps) (he:e=.normal∨e=.ret:=by simp) (h1:Res.evL tm ob rs=some (Akw gs):=by kernel_rfl) (h4:r.tup=decide (rs.length≠1):=by kernel_rfl):∃ S',WeakG G ⟨tm,ob,g⟩ S'∧(e=.normal∨e=.ret)∧Ajy R z rs S' r :=
 ⟨_,WeakG.refl _,he,gs,r.ps,h1,h2,by cases r; cases h4; rfl⟩
section
variable {R:Nat->Prop} {z:Bool} {ob:Oid->Option Ob}
theorem Add:K4 R z ob [] []:=rfl
theorem Ah6 {cs:List AV} {r:List (Bool×List AV)} {ls:List RL} {ps:List (Bool×List RL)} (h1:Jv R z ob cs ls) (h2:K4 R z ob r ps):K4 R z ob ((true,cs) :: r) ((true,ls) :: ps):=⟨ls,ps,rfl,h1,(fun h=>by cases h),h2⟩
theorem Acp {c:AV} {r:List (Bool×List AV)} {l:RL} {ps:List (Bool×List RL)} (h1:Abv R z ob c l) (h2:K4 R z ob r ps):K4 R z ob ((false,[c]) :: r) ((false,[l]) :: ps):=⟨[l],ps,rfl,⟨l,[],rfl,h1,rfl⟩,fun _=>rfl,h2⟩
theorem Agu:Jv R z ob [] []:=rfl
theorem Mk {c:AV} {cs:List AV} {l:RL} {ls:List RL} (h1:Abv R z ob c l) (h2:Jv R z ob cs ls):Jv R z ob (c :: cs) (l :: ls):=⟨l,ls,rfl,h1,h2⟩
theorem Xp {c:AV} (h:c.scal=true:=by kernel_rfl):Abv R z ob c (.sc c):=.inl ⟨h,rfl⟩
theorem Ab9 {c:AV} {t:Ty} {xs:List t.D} (h:Aby R ob c (.tree t xs)):Abv R z ob c (.zl z (.tree t xs)):=.inr ⟨_,rfl,rfl,h⟩
end
section
variable {P:Program} {G:World->Prop} {g k d:Nat} {gd:Option (Nat×Bool)} {xs:List X} {tl:List (Nat×AV)} {ol:List (Oid×Option Ob)} {bad:List (Nat×Nat)} {ra:List Rec} {da:List (List Oid)} {Kf:List (Nat×AV)->List (Oid×Option Ob)->Prop}
variable {fo:Opd} {ys:List Opd} {tys:List (List (Option Ty))} {F:FuncId} {caps:List AV} {rv:RV}
theorem Alg (v:AV) (us:List (Oid×Option Ob)) (zs args:List AV) (hgd:Ph gd (Al tl)) (hc:A6 P G F args rv) (hb:A2 P F=true) (h3:XD P G bad g (k+1) xs ((d,v) :: tl) (us.reverseAux ol) ((1,v,us) :: ra) ((rdX (Al tl) (Af ol) ⟨some d,gd,.call fo ys tys⟩) :: da) Kf) (hg:AV.gndBL zs=true:=by kernel_rfl) (hfo:fo.ev (Al tl)=.fn F caps:=by kernel_rfl) (hz:(ys++caps.map Opd.cst).map (Opd.ev (Al tl))=zs:=by kernel_rfl) (hn:Lv tys zs=args:=by kernel_rfl) (hr:rv.out (Ct ((d,0),g+k)) zs=(v,us):=by kernel_rfl) (hx:Fb us=true:=by rfl):XD P G bad g k (⟨some d,gd,.call fo ys tys⟩ :: xs) tl ol ra da Kf:=by
 subst hz;exact Abq 1 v us (Aj0 (P:=P) (G:=G) (p:=false) (n:=g+k) (d:=some d) hgd hfo hg hn hb hc hr) h3 hx
end
end
section
open Go.RowKit Go.Deep
section
variable {σ:Oid->Option Loc} {im:Nat->Prop} {w:World}
end
section
variable {n:Nat} {d:Option Nat} {f:Nat->AV} {ob:Oid->Option Ob}
end
end
section
open Go.RowKit Go.Deep
end
section
open Go.RowKit Go.Deep Go.Shelf Go.Sort
theorem Mem0.rows {G:World->Prop} {w0 w:World} {ob ob':Oid->Option Ob} {σ:Oid->Option Loc} {K:Nat->Prop} (hm:Mem0 G w0 ob σ K w) {p:Oid} (hg:¬ K p.2) (o:Oid) (ρ:Nat->Oid) {e1 e:TypeId} {u:Ty} {cs:List AV} {xss:List (List u.D)} {n:Nat} (hso:σ o≠none) (ho:ob o=some (.vec e1 1 n cs)) (hn:n=xss.length)
  (hrow:∀ k row,xss[k]? =some row->cs[k]? =some (.own (ρ k) u 0 row.length)∧ob (ρ k)=some (.arr e u row))
  (hinj:∀ j k,j<xss.length->k<xss.length->ρ j=ρ k->j=k)
  (h1:ob' o=some (.vec e1 1 n (hdL p u xss))) (h2:∀ k row,xss[k]? =some row->ob' (kid p k)=some (.arr e u row))
  (h3:∀ i,i≠o->(∀ k,k<xss.length->i≠kid p k)->ob' i=none∨(ob' i=ob i∧∀ k,k<xss.length->i≠ρ k)) :
  ∃ σ',Later σ σ' (imm ob σ) (imm ob' σ') w w∧Mem0 G w0 ob' σ' (fun n=>K n∨n=p.2) w:=by
 have hfr:∀ i:Oid,i.2=p.2->σ i=none:=fun i hi=>Goes.fresh hm (by rw [hi]; exact hg)
 have hog:o.2≠p.2:=fun e=>hso (hfr o e)
 have hop:∀ k,o≠kid p k:=fun k e=>hog (by rw [e]; rfl)
 let σ':Oid->Option Loc:=fun i=>if i.1.1=p.1.1∧i.2=p.2∧i.1.2≠0∧i.1.2 - 1<xss.length then σ (ρ (i.1.2 - 1)) else σ i
 have hσk:∀ k,k<xss.length->σ' (kid p k)=σ (ρ k):=fun k hk=>by
  simp only [σ'];rw [if_pos ⟨rfl,rfl,by simp [kid],by simp [kid,hk]⟩];simp [kid]
 have hσo:∀ i,(∀ k,k<xss.length->i≠kid p k)->σ' i=σ i:=fun i hi=>by
  simp only [σ'];rw [if_neg];rintro ⟨e1,e2,e3,e4⟩;refine hi (i.1.2 - 1) e4 ?_;obtain ⟨⟨i1,i2⟩,i3⟩:=i;simp only [kid] at *;subst e1 e2;rw [show i2 - 1+1=i2 by omega]
 have hloc:∀ i l,σ i=some l->σ' i=some l:=fun i l hi=>by
  rw [hσo i fun k _ e=>by rw [e,hfr (kid p k) rfl] at hi; cases hi]; exact hi
 have hρ:∀ k,k<xss.length->∃ ys,ob (ρ k)=some (.arr e u ys):=fun k hk=>⟨_,(hrow k _ (gEg hk)).2⟩
 have hcase:∀ i,i=o∨(∃ k,k<xss.length∧i=kid p k)∨(i≠o∧∀ k,k<xss.length->i≠kid p k):=fun i=>by
  by_cases a1:i=o
  ·exact .inl a1
  ·by_cases a2:∃ k,k<xss.length∧i=kid p k
   ·exact .inr (.inl a2)
   ·exact .inr (.inr ⟨a1,fun k hk e=>a2 ⟨k,hk,e⟩⟩)
 have hwas:∀ i x,ob' i=some x->∃ i0 x0,ob i0=some x0∧σ' i=σ i0∧((i=o∧i0=o)∨(∃ k,k<xss.length∧i=kid p k∧i0=ρ k)∨(i0=i∧i≠o∧(∀ k,k<xss.length->i≠kid p k)∧ob' i=ob i∧∀ k,k<xss.length->i≠ρ k)):=by
  intro i x hx;rcases hcase i with rfl | ⟨k,hk,rfl⟩ | ⟨a1,a2⟩
  ·exact ⟨i,_,ho,hσo i fun k _=>hop k,.inl ⟨rfl,rfl⟩⟩
  ·obtain ⟨ys,h⟩:=hρ k hk;exact ⟨ρ k,_,h,hσk k hk,.inr (.inl ⟨k,hk,rfl,rfl⟩)⟩
  ·rcases h3 i a1 a2 with h | ⟨h,h'⟩
   ·rw [h] at hx; cases hx
   ·exact ⟨i,x,by rw [← h]; exact hx,hσo i a2,.inr (.inr ⟨rfl,a1,a2,h,h'⟩)⟩
 have him:∀ b,imm ob σ b->imm ob' σ' b:=by
  intro b hb i x c s' hx hs;obtain ⟨i0,x0,g1,g2,_⟩:=hwas i x hx;rw [g2] at hs;exact hb i0 x0 c s' g1 hs
 have hL:Later σ σ' (imm ob σ) (imm ob' σ') w w:=⟨hloc,fun b _ hb=>him b hb,fun _ _ _=>rfl,Nat.le_refl _⟩
 refine ⟨σ',hL,⟨hm.below,hm.inv,fun i l hi=>?_,fun i b c s' hi=>?_,fun i b c s' hi=>?_,fun i j b c s' c' s2 x y hi hj e1 e2=>?_,fun i x l hx hl=>?_⟩⟩
 ·simp only [σ'] at hi;split at hi
  ·rename_i h; exact .inr h.2.1
  ·exact .inl (hm.gen i l hi)
 ·simp only [σ'] at hi;split at hi
  ·exact hm.lt _ b c s' hi
  ·exact hm.lt i b c s' hi
 ·simp only [σ'] at hi;split at hi
  ·exact hm.cap _ b c s' hi
  ·exact hm.cap i b c s' hi
 ·obtain ⟨i0,x0,g1,g2,g3⟩:=hwas i x hi;obtain ⟨j0,y0,k1,k2,k3⟩:=hwas j y hj;rw [g2] at e1;rw [k2] at e2;have e0:=hm.inj i0 j0 b c s' c' s2 x0 y0 g1 k1 e1 e2
  have hoρ:∀ k,k<xss.length->o≠ρ k:=fun k hk e=>by
   obtain ⟨ys,h⟩:=hρ k hk;rw [← e,ho] at h; cases h
  rcases g3 with ⟨rfl,rfl⟩ | ⟨k,hk,rfl,rfl⟩ | ⟨rfl,a1,a2,a3,a4⟩ <;> rcases k3 with ⟨rfl,rfl⟩ | ⟨k',hk',rfl,rfl⟩ | ⟨rfl,b1,b2,b3,b4⟩
  ·rfl
  ·exact absurd e0 (hoρ k' hk')
  ·exact e0
  ·exact absurd e0.symm (hoρ k hk)
  ·rw [hinj k k' hk hk' e0]
  ·exact absurd e0.symm (b4 k hk)
  ·exact e0
  ·exact absurd e0 (a4 k' hk')
  ·exact e0
 ·rcases hcase i with rfl | ⟨k,hk,rfl⟩ | ⟨a1,a2⟩
  ·rw [h1] at hx;obtain rfl:=osj hx;rw [hσo i fun k _=>hop k] at hl;obtain ⟨vs,p1,p2,p3,p4⟩:=hm.obs i _ l ho hl;refine ⟨vs,p1,AV.RepL.of_get ?_ fun k c v hc hv=>?_,p3,p4⟩
   ·rw [Dj,← hn];have:=p1.1;omega
   ·rw [Cl] at hc;obtain ⟨row,hk,rfl⟩:=oms.1 hc;have hlt:=(gSi.1 hk).1;obtain ⟨q1,q2⟩:=hrow k row hk;obtain ⟨v',hv',hr'⟩:=p2.get q1;rw [hv] at hv';obtain rfl:=osj hv';have hs:=hσk k hlt;rcases hr' with ⟨g,q⟩ | ⟨b,cap,g,q⟩ | ⟨lc,g,q⟩
    ·exact .inl ⟨hs.trans g,q⟩
    ·exact .inr (.inl ⟨b,cap,hs.trans g,q⟩)
    ·exact .inr (.inr ⟨lc,hs.trans g,q⟩)
  ·rw [h2 k _ (gEg hk)] at hx;obtain rfl:=osj hx;obtain ⟨_,q2⟩:=hrow k _ (gEg hk);rw [hσk k hk] at hl;exact hm.obs _ _ l q2 hl
  ·rcases h3 i a1 a2 with h | ⟨h,_⟩
   ·rw [h] at hx; cases hx
   ·rw [hσo i a2] at hl;exact (hm.obs i x l (by rw [← h]; exact hx) hl).later hL fun _ _ _ _=>rfl
abbrev Afp:={v:Value // v.oneCell'=true}
instance:Inhabited Afp:=⟨⟨.slice none 0 0,rfl⟩⟩
def Ly (vs:List Value) (h:∀ v∈vs,v.oneCell'=true):List Afp:=vs.attach.map fun x=>⟨x.1,h _ x.2⟩
theorem Agi (vs:List Value) (h:∀ v∈vs,v.oneCell'=true):(Ly vs h).map Subtype.val=vs:=by
 unfold Ly;rw [List.map_map];exact List.attach_map_subtype_val vs
theorem Kc (vs:List Value) (h:∀ v∈vs,v.oneCell'=true):(Ly vs h).length=vs.length:=by simp [Ly]
theorem Ag0 (vs:List Value) (h:∀ v∈vs,v.oneCell'=true) (j:Nat) (hj:j<vs.length):(((Ly vs h).toArray)[j]!).1=vs[j]:=by
 have hl:j<(Ly vs h).length:=by rw [Kc]; exact hj
 rw [getElem!_pos (Ly vs h).toArray j (by simpa using hl)];simp [Ly]
theorem Air {α:Type} [Inhabited α] (enc:α->Value) (l:List α) (cur:Array Value) (m:Nat) (h1:m<=l.length) (h2:m<=cur.size):(putCells enc 0 l.toArray cur).toList.take m=(l.take m).map enc:=by
 apply List.ext_getElem?;intro j;rw [List.getElem?_take,List.getElem?_map,List.getElem?_take];by_cases hj:j<m
 ·rw [if_pos hj,if_pos hj,Array.getElem?_toList];simp only [putCells,Array.getElem?_mapIdx];rw [Array.getElem?_eq_getElem (by omega),gEg (by omega)];simp only [Option.map_some];rw [if_pos ⟨Nat.zero_le _,by simp; omega⟩,Nat.sub_zero,getElem!_pos l.toArray j (by simp; omega)];simp
 ·rw [if_neg hj,if_neg hj]; rfl
theorem Ag2 {α:Type} [Inhabited α] (enc:α->Value) (w:World) (q b:Nat) (d:Array α):Only b w (putRow enc (Sort.ahead w q) b 0 d):=by
 refine ⟨rfl,rfl,rfl,by simp [putRow,mapBlock,Sort.ahead],fun k _ hk=>?_⟩;simp only [putRow,mapBlock,Sort.ahead,Array.getElem?_modify];rw [if_neg (fun e=>hk e.symm)]
theorem Alv {α:Type} [Inhabited α] (enc:α->Value) (w:World) (q b:Nat) (d:Array α) {cur:Array Value} {e:TypeId} (h:w.heap[b]? =some (.cells cur e (0,0))):(putRow enc (Sort.ahead w q) b 0 d).heap[b]? =some (.cells (putCells enc 0 d cur) e (0,0)):=by
 simp only [putRow,mapBlock,Sort.ahead,Array.getElem?_modify,if_true,h,Option.map_some,onCells]
def De {α:Type} (xs:List α) (a b:Int):Option (List α):=if 0<=a∧b=a+1∧a<xs.length then some (xs.eraseIdx a.toNat) else none
theorem T7 {θ:Oid->Oid}:∀ (cs:List AV) (k:Nat),(AV.renL θ cs)[k]? =(cs[k]?).map (AV.ren θ)
 | [],_=>rfl
 | c :: cs,0=>rfl
 | c :: cs,k+1=>by
  show (AV.renL θ cs)[k]? =_;rw [T7 cs k]; rfl
theorem Aap {θ:Oid->Oid}:∀ (cs:List AV),(AV.renL θ cs).length=cs.length
 | []=>rfl
 | _ :: cs=>congrArg (·+1) (Aap cs)
theorem Akt {P:Program} {G:World->Prop} {ν:Ren} (L:SlLaysE.n45 P ν) (hz:∀ w,(zeroValue (ν.t 23)).run P w=.ok (.slice none 0 0) w) (hi1:(P.info? (ν.t 23)).map (·.size)=some 1) {e1 e:TypeId} {u t:Ty} {xss r:List (List u.D)} {a b:Int} (h:De xss a b=some r) {n:Nat} (hn:n=xss.length) :
  Eg P G (ν.f 45) [.own (oi 0 0) t 0 n,ai a,ai b] [(oi 0 0,.mat e1 (oi 1 0) u xss),(oi 1 0,.pool e u xss)] (.own (oi 0 0) t 0 r.length) [(oi 0 0,.mat e1 (oi 0 1) u r),(oi 0 1,.pool e u r)]:=by
 intro θ i w0 ob σ K w vs hm hi hq hij hσ hr;obtain ⟨i0,hi0,hz1⟩:=oms.1 hi1
 obtain ⟨k,hk,rfl,rfl,rfl⟩:∃ k:Nat,k<xss.length∧a=(k:Int)∧b=((k+1:Nat):Int)∧r=xss.eraseIdx k:=by
  unfold De at h;split at h
  ·rename_i hc;refine ⟨a.toNat,by omega,by omega,by omega,(osj h).symm⟩
  ·cases h
 subst hn;have hlr:(xss.eraseIdx k).length=xss.length - 1:=by rw [List.length_eraseIdx,if_pos hk]
 have hO:ob (θ (oi 0 0))=some (.vec e1 1 xss.length (AV.renL θ (hdL (oi 1 0) u xss))):=hq (oi 0 0,.vec e1 1 xss.length (hdL (oi 1 0) u xss)) (by simp [exL])
 have hmemk:∀ j row,xss[j]? =some row->(kid (oi 1 0) j,Ob.arr e u row)∈exL [(oi 0 0,.mat e1 (oi 1 0) u xss),(oi 1 0,.pool e u xss)]:=fun j row hj=>by
  simp only [exL,List.append_nil];exact List.mem_cons_of_mem _ (List.mem_map.2 ⟨(row,j),by rw [List.mem_zipIdx_iff_getElem?]; exact hj,rfl⟩)
 have hkid:∀ j row,xss[j]? =some row->ob (θ (kid (oi 1 0) j))=some (.arr e u row):=fun j row hj=>hq _ (hmemk j row hj)
 have hcs:∀ j,(AV.renL θ (hdL (oi 1 0) u xss))[j]? =(xss[j]?).map fun row=>AV.own (θ (kid (oi 1 0) j)) u 0 row.length:=fun j=>by
  rw [T7,Cl];cases xss[j]? <;> rfl
 have hcl:(AV.renL θ (hdL (oi 1 0) u xss)).length=xss.length:=by rw [Aap,Dj]
 generalize AV.renL θ (hdL (oi 1 0) u xss)=cs at hO hcs hcl;have hOl:σ (θ (oi 0 0))≠none:=hσ _ (List.mem_map.2 ⟨(oi 0 0,.vec e1 1 xss.length (hdL (oi 1 0) u xss)),by simp [exL],rfl⟩);have hr:AV.RepL σ (Aal θ [(oi 0 0,.mat e1 (oi 1 0) u xss),(oi 1 0,.pool e u xss)] σ) w [AV.own (θ (oi 0 0)) t 0 xss.length,ai (k:Int),ai ((k+1:Nat):Int)] vs:=hr;obtain ⟨v0,_,rfl,r0,v1,_,rfl,r1,v2,_,rfl,r2,rfl⟩:=hr;obtain rfl:v1=.int .i64 (k:Int):=r1;obtain rfl:v2=.int .i64 ((k+1:Nat):Int):=r2;rcases r0 with ⟨_,_,h0,_⟩ | ⟨b,cap,hσO,hcap,rfl⟩ | ⟨_,_,h0,_⟩
 ·omega
 ·obtain ⟨vs,hown,hrep,hone,hsz⟩:=hm.obs _ _ _ hO hσO;have ht1:t.size=1:=hsz b cap t.size rfl;rcases hown.2 with ⟨h0,_⟩ | ⟨g,cap',cur,e',hlo,hgh,hnc,hcm,hszc,htake⟩
  ·cases h0
  ·obtain ⟨rfl,rfl⟩:g=b∧cap'=cap:=by
    have:(Value.slice (some ⟨b,0,none⟩) xss.length cap)=.slice (some ⟨g,0,none⟩) xss.length cap':=e';cases this; exact ⟨rfl,rfl⟩
   have hvl:vs.length=xss.length:=by have:=hown.1; omega
   have hcell:∀ j (hj:j<vs.length),w.cell? ⟨g,j,none⟩=some vs[j]:=fun j hj=>by
    rw [cell_of_row w g j cur e1 (0,0) hgh,← Array.getElem?_toList];have h5:(cur.toList.take (xss.length*1))[j]? =vs[j]?:=by rw [htake]
    rw [List.getElem?_take,if_pos (by omega)] at h5;rw [h5,gEg hj]
   have hH:Holds Subtype.val w g 0 (Ly vs hone).toArray:=fun j hj=>by
    have hj':j<vs.length:=by simpa [Kc] using hj
    rw [Nat.zero_add,Ag0 vs hone j hj'];exact ⟨hcell j hj',frozen_of_row w g j cur e1 hgh⟩
   have hd:(Ly vs hone).toArray.size=xss.length:=by simp [Kc,hvl]
   have hC:=AnyE.slices_Delete L (Subtype.val:Afp->Value) (fun x=>x.2) ⟨.slice none 0 0,rfl⟩ hz i0 hi0 hz1 g 0 cap' k (k+1) (Ly vs hone).toArray w hH (by rw [hd]; exact hnc) (by have:maxLen=9223372036854775807:=rfl; omega) (by omega) (by rw [hd]; omega);rw [hd] at hC;have e0:(Value.slice (some ⟨g,0*t.size,none⟩) xss.length (cap' - 0))=.slice (some ⟨g,0,none⟩) xss.length cap':=by rw [Nat.zero_mul,Nat.sub_zero]
   rw [e0];refine hC.mono ?_;rintro ee w' ⟨rfl,q,rfl⟩;refine ⟨_,rfl,?_⟩
   have hlist:((Ly vs hone).toArray.toList.take k++(Ly vs hone).toArray.toList.drop (k+1)++List.replicate (k+1 - k) (⟨.slice none 0 0,rfl⟩:Afp)).take (xss.length - 1)=(Ly vs hone).take k++(Ly vs hone).drop (k+1):=by
    rw [List.take_append_of_le_length (by simp [Kc]; omega),List.take_of_length_le (by simp [Kc]; omega)]
   obtain ⟨W,hW⟩:∃ W,W=putRow (Subtype.val:Afp->Value) (Sort.ahead w q) g 0 ((Ly vs hone).toArray.toList.take k++(Ly vs hone).toArray.toList.drop (k+1)++List.replicate (k+1 - k) (⟨.slice none 0 0,rfl⟩:Afp)).toArray:=⟨_,rfl⟩
   have hOnly:Only g w W:=by rw [hW]; exact Ag2 _ _ _ _ _
   have hblk:∃ cur',W.heap[g]? =some (.cells cur' e1 (0,0))∧cur'.size=cur.size∧cur'.toList.take (xss.length - 1)=vs.eraseIdx k:=by
    refine ⟨_,by rw [hW]; exact Alv _ _ _ _ _ hgh,by simp [putCells],?_⟩;rw [Air _ _ _ _ (by simp [Kc]; omega) (by omega),hlist,List.map_append,List.map_take,List.map_drop,Agi,List.eraseIdx_eq_take_drop_succ]
   rw [← hW]
   clear hW hlist hC hH hcell
   obtain ⟨cur',hW1,hW2,hW3⟩:=hblk
   have hvr:AV.RepL σ (imm ob σ) w (cs.eraseIdx k) (vs.eraseIdx k):=by
    rw [List.eraseIdx_eq_take_drop_succ,List.eraseIdx_eq_take_drop_succ];exact (hrep.take k).append (hrep.drop (k+1))
   have hL1:=Later.swap (i':=θ (oi 0 0)) (o':=.vec e1 1 (xss.length - 1) (cs.eraseIdx k)) hO hσO (.inl ⟨rfl,rfl,rfl⟩) hOnly;have hm1:=hm.swap (i':=θ (oi 0 0)) (o':=.vec e1 1 (xss.length - 1) (cs.eraseIdx k)) (K':=K) hO hσO (.inl ⟨rfl,rfl,rfl⟩) hOnly (fun _ h=>h) (hm.gen _ _ hσO) (hm.cap _ _ _ _ hσO) ⟨vs.eraseIdx k,⟨by rw [List.length_eraseIdx,if_pos (by omega),hvl,Nat.mul_one],.inr ⟨g,cap',cur',rfl,hlo,hW1,by omega,hcm,by omega,by rw [Nat.mul_one]; exact hW3⟩⟩,AV.RepL.later hL1 _ _ hvr,fun v hv=>hone v (List.mem_of_mem_eraseIdx hv),fun _ _ _ e=>by cases e; exact ht1⟩
   have hob1:∀ x,upd (upd ob (θ (oi 0 0)) none) (θ (oi 0 0)) (some (.vec e1 1 (xss.length - 1) (cs.eraseIdx k))) x=if x=θ (oi 0 0) then some (.vec e1 1 (xss.length - 1) (cs.eraseIdx k)) else ob x:=fun x=>by
    unfold upd;split <;> rfl
   have hσ1:∀ x,upd σ (θ (oi 0 0)) (some (.at_ g cap' t.size)) x=σ x:=fun x=>by
    unfold upd;split
    ·rename_i hx; rw [hx]; exact hσO.symm
    ·rfl
   generalize upd (upd ob (θ (oi 0 0)) none) (θ (oi 0 0)) (some (.vec e1 1 (xss.length - 1) (cs.eraseIdx k)))=ob1 at hL1 hm1 hob1;generalize upd σ (θ (oi 0 0)) (some (.at_ g cap' t.size))=σ1 at hL1 hm1 hσ1
   -- the rows under new names
   have hKO:K (θ (oi 0 0)).2:=hm.gen _ _ hσO;have hOi:(θ (oi 0 0)).2≠i.2:=fun e=>hi (by rw [← e]; exact hKO)
   have hnm0:B0 θ i (oi 0 0)=θ (oi 0 0):=rfl;have hnmk:∀ j,B0 θ i (kid (oi 0 1) j)=kid ((i.1.1*16,0),i.2) j:=fun j=>rfl
   have hinus:∀ j,j∈nmL [(oi 0 0,Ob.mat e1 (oi 0 1) u (xss.eraseIdx k)),(oi 0 1,Ob.pool e u (xss.eraseIdx k))]->j=oi 0 0∨∃ m,m<(xss.eraseIdx k).length∧j=kid (oi 0 1) m:=fun j hj=>by
    simp only [nmL,exL,List.append_nil,List.map_cons,List.mem_cons,List.map_map,List.mem_map] at hj;rcases hj with rfl | ⟨⟨row,m⟩,hx,rfl⟩
    ·exact .inl rfl
    ·rw [List.mem_zipIdx_iff_getElem?] at hx;exact .inr ⟨m,(gSi.1 hx).1,rfl⟩
   have hkin:∀ m row,(xss.eraseIdx k)[m]? =some row->(kid (oi 0 1) m,Ob.arr e u row)∈exL [(oi 0 0,Ob.mat e1 (oi 0 1) u (xss.eraseIdx k)),(oi 0 1,Ob.pool e u (xss.eraseIdx k))]:=fun m row hm'=>by
    simp only [exL,List.append_nil];exact List.mem_cons_of_mem _ (List.mem_map.2 ⟨(row,m),by rw [List.mem_zipIdx_iff_getElem?]; exact hm',rfl⟩)
   obtain ⟨u1,u2⟩:=Aed (θ:=θ) (i:=i) (ol:=[(oi 0 0,Ob.mat e1 (oi 1 0) u xss),(oi 1 0,Ob.pool e u xss)]) (us:=[(oi 0 0,Ob.mat e1 (oi 0 1) u (xss.eraseIdx k)),(oi 0 1,Ob.pool e u (xss.eraseIdx k))]) (ob:=ob)
    (Ah4 (by simp [Bi,Ob.isPool]) (by simp [Bk,Ob.isPool]) (by simp)) (fun j hj j' hj' e=>by
     rcases hinus j hj with rfl | ⟨m,_,rfl⟩ <;> rcases hinus j' hj' with rfl | ⟨m',_,rfl⟩
     ·rfl
     ·rw [hnm0,hnmk] at e; exact absurd (by rw [e]; rfl) hOi
     ·rw [hnm0,hnmk] at e; exact absurd (by rw [← e]; rfl) hOi
     ·rw [hnmk,hnmk] at e; rw [D6 e])
   generalize Ar (Hp θ i [(oi 0 0,Ob.mat e1 (oi 1 0) u xss),(oi 1 0,Ob.pool e u xss)] [(oi 0 0,Ob.mat e1 (oi 0 1) u (xss.eraseIdx k)),(oi 0 1,Ob.pool e u (xss.eraseIdx k))]) ob=ob2 at u1 u2
   let at_:Nat->Nat:=fun j=>if j<k then j else j+1
   have hget:∀ j,(xss.eraseIdx k)[j]? =xss[at_ j]?:=fun j=>by simp only [at_,List.getElem?_eraseIdx]; split <;> rfl
   have hatl:∀ j,j<(xss.eraseIdx k).length->at_ j<xss.length:=fun j hj=>by simp only [at_]; split <;> omega
   have hnin:∀ j,j<xss.length->kid (oi 1 0) j∈nmL [(oi 0 0,Ob.mat e1 (oi 1 0) u xss),(oi 1 0,Ob.pool e u xss)]:=fun j hj=>List.mem_map.2 ⟨_,hmemk j _ (gEg hj),rfl⟩
   have hOin:oi 0 0∈nmL [(oi 0 0,Ob.mat e1 (oi 1 0) u xss),(oi 1 0,Ob.pool e u xss)]:=by simp [nmL,exL]
   have hne:∀ j,j<xss.length->θ (kid (oi 1 0) j)≠θ (oi 0 0):=fun j hj e=>by
    have:=hij _ _ (hnin j hj) hOin e;simp [kid] at this
   obtain ⟨σ2,hL2,hm2⟩:=Mem0.rows (ob':=ob2) hm1 (p:=((i.1.1*16,0),i.2)) hi (θ (oi 0 0)) (fun j=>θ (kid (oi 1 0) (at_ j))) (e1:=e1) (e:=e) (u:=u) (cs:=cs.eraseIdx k) (xss:=xss.eraseIdx k) (n:=xss.length - 1) (by rw [hσ1]; exact hOl) (by rw [hob1,if_pos rfl]) hlr.symm
    (fun j row hj=>by
     rw [hget] at hj;have hlt:=(gSi.1 hj).1;refine ⟨?_,by rw [hob1,if_neg (hne _ hlt)]; exact hkid _ _ hj⟩;have:(cs.eraseIdx k)[j]? =cs[at_ j]?:=by simp only [at_,List.getElem?_eraseIdx]; split <;> rfl
     rw [this,hcs,hj]; rfl)
    (fun j j' hj hj' e=>by
     have:=D6 (hij _ _ (hnin _ (hatl j hj)) (hnin _ (hatl j' hj')) e);simp only [at_] at this;split at this <;> split at this <;> omega)
    (by
     have:=u1 (oi 0 0) (.vec e1 1 (xss.eraseIdx k).length (hdL (oi 0 1) u (xss.eraseIdx k))) (by simp [exL]);rw [hnm0] at this;rw [this]
     have hh:AV.renL (B0 θ i) (hdL (oi 0 1) u (xss.eraseIdx k))=hdL ((i.1.1*16,0),i.2) u (xss.eraseIdx k):=by
      apply List.ext_getElem?;intro j;rw [T7,Cl,Cl];cases (xss.eraseIdx k)[j]? <;> rfl
     show some (Ob.vec e1 1 (xss.eraseIdx k).length (AV.renL (B0 θ i) (hdL (oi 0 1) u (xss.eraseIdx k))))=_;rw [hh,hlr])
    (fun j row hj=>by
     have:=u1 _ _ (hkin j row hj);rw [hnmk] at this;exact this)
    (fun x hx1 hx2=>by
     have:=u2 x fun j hj e=>by
      rcases hinus j hj with rfl | ⟨m,hm',rfl⟩
      ·exact hx1 e.symm
      ·exact hx2 m hm' e.symm
     rw [this];split
     ·exact .inl rfl
     ·rename_i hx3;refine .inr ⟨by rw [hob1,if_neg hx1],fun j hj e=>hx3 ?_⟩;rw [e];exact List.mem_map.2 ⟨_,hnin _ (hatl j hj),rfl⟩)
   refine ⟨σ2,hL1.trans hL2,hm2,.inr (.inl ⟨g,cap',?_,by omega,?_⟩)⟩
   ·show σ2 (B0 θ i (oi 0 0))=_;rw [hnm0];exact hL2.loc _ _ (by rw [hσ1]; exact hσO)
   ·rw [Nat.zero_mul,Nat.sub_zero,hlr,show k+1 - k=1 by omega]
 ·exact absurd rfl h0
end
section
open Go.RowKit Go.Deep Go.Shelf
def Acf:Go.Shelf.Ren:=⟨fun | 45=>28 | n=>n,fun | 22=>22 | 23=>39 | n=>n,fun n=>n⟩
theorem Al9:SlLaysE.n45 Tryd.prog Acf where
 mixed:=by kernel_rfl
 f45:=⟨Tryd.f28.name,by decide,Tryd.func28.trans (congrArg some (by kernel_rfl))⟩
 t0:=Tryd.underlying0
 a0:=Tryd.isAgg0
 z0:=Tryd.sizeOf0
 v0:=Tryd.zeroValue0
 t3:=Tryd.underlying3
 a3:=Tryd.isAgg3
 z3:=Tryd.sizeOf3
 v3:=Tryd.zeroValue3
 t4:=Tryd.underlying4
 a4:=Tryd.isAgg4
 z4:=Tryd.sizeOf4
 v4:=Tryd.zeroValue4
 t22:=Tryd.underlying22
 a22:=Tryd.isAgg22
 z22:=Tryd.sizeOf22
 v22:=Tryd.zeroValue22
 a23:=Tryd.isAgg39
 z23:=Tryd.sizeOf39
theorem Qy:A2 Tryd.prog 28=true:=by kernel_rfl
theorem Q4 {a0 r:List (List Int)} {a1 a2:Int} (h:De a0 a1 a2=some r) {n_a0:Nat} (hn_a0:n_a0=a0.length) :
  Eg Tryd.prog Tab 28 [.own (oi 0 0) (.slice .int) 0 n_a0,ai a1,ai a2] [(oi 0 0,.mat 39 (oi 1 0) .int a0),(oi 1 0,.pool 3 .int a0)] (.own (oi 0 0) (.slice .int) 0 r.length) [(oi 0 0,.mat 39 (oi 0 1) .int r),(oi 0 1,.pool 3 .int r)] :=
 Akt Al9 (fun w=>by rfl) (by kernel_rfl) h hn_a0
end
end Go.Proofs.YtehocbbnjfmgaaaDoor
