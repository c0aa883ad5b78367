/- Lemmas on the program and on partial functions that stand in place of its code (part 5); no condition beyond those that each one states. -/
import Derived.Test.YtodopnonpadpfaaDoorZ4
namespace Go.Proofs.YtodopnonpadpfaaDoor
section
open Go.RowKit Go.Deep
set_option maxRecDepth 4000
def Oe:AC :=
 (.seq (.seq (rg [xo 6 (qm (tm 5)),xo 7 (qm (tm 0)),xo 8 (qb .lss (tm 6) (tm 7))])
 (.cond (tm 8)
  .skip
  (.exit 0)))
 (.seq (.block 1 (.seq (rg [xo 11 (qm (tm 1)),xo 12 (qm (tm 5)),xo 13 (qb .mul (tm 11) (tm 12)),xo 14 (qm (tm 0)),xo 15 (qb .rem (tm 13) (tm 14)),xo 16 (qb .eql (tm 15) (ci 1))])
 (.cond (tm 16)
  (.seq (rg [xo 17 (qm (tm 5)),xo 4 (qm (tm 17))])
  .ret)
  .skip)))
 (rg [xo 9 (qm (tm 5)),xo 10 (qb .add (tm 9) (ci 1)),xo 5 (qm (tm 10))])))
def Vs:AC :=
 (.seq (rg [xo 4 (qm (ci 0))])
 (.seq (.seq (rg [xo 5 (qm (ci 1))])
 (.block 0 (.loop Oe)))
 (.seq (rg [xo 4 (qm (ci 0))])
 .ret)))
def Agk:List Res:=[.tmp 4]
theorem Agu:Am Tryd.prog Tryd.f86=some (Vs,Agk):=by kernel_rfl
def Od (a0:Int) (a1:Int) (l4_m5:Nat):Option (Ctl Nat (Ctl Unit Int)) :=
 cond (decide (((l4_m5:Nat):Int)<a0))
 (og (a0≠0) <|
 cond ((Int.tmod (wI (a1*((l4_m5:Nat):Int))) a0)==1)
  (some (Ctl.out (Ctl.out ((l4_m5:Nat):Int))))
  (og (l4_m5+1<4611686018427387904) <|
  some (Ctl.next (l4_m5+1))))
 (some (Ctl.out (Ctl.next ())))
def Ib (a0:Int) (a1:Int):Option Int :=
 Du (A7 (fun s_:Nat=>Od a0 a1 s_) 4611686018427387904 1) fun _ =>
some 0
def Adl (r:Int):RV:=⟨false,[(false,[.sc (.int .i64 r)])]⟩
theorem Adb {a0:Int} {a1:Int} {r:Int} (h:Ib a0 a1=some r):Aw Tryd.prog Tab 86 [ai a0,ai a1] (Adl r):=by
 refine At (by kernel_rfl) Tryd.func86 Agu (n:=18) (by kernel_rfl) (by simp) (tl:=[(0,ai a0),(1,ai a1)]) rfl ?_;unfold Vs;unfold Ib at h;refine Ak ?_;refine Bj h (fun (_:Unit) S_=>S_=⟨An [],Aj (Ap []),2⟩) ?_ ?_
 ·intro v_ h hk2;refine Ak ?_;refine Al ?_;refine A6 h (fun (l4_m5:Nat) S_=>S_=⟨An [(0,ai a0),(1,ai a1),(5,ai ((l4_m5:Nat):Int))],Aj (Ap []),2⟩) ⟨_,Ac [],rfl⟩ ?_;rintro n_ l4_m5 _ c_ rfl h hn4
  (try dsimp only at h);unfold Od at h;unfold Oe;refine Ab ?_;refine Ak ?_;rcases Ad h with ⟨q7,h⟩ | ⟨q7,h⟩
  ·have q7_:=of_decide_eq_true q7;refine Af q7 ?_;refine Ai (tn_ ?_);refine wr_ ?_;refine Ab ?_;refine Al ?_;refine Ab ?_;obtain ⟨g10,h⟩:=Av h;refine Aa 11 ?_;refine rz0 (ai a1) ?_;refine rz0 (ai ((l4_m5:Nat):Int)) ?_;refine rz0 (ai (wI (a1*((l4_m5:Nat):Int)))) ?_;refine rz0 (ai a0) ?_;refine rs0 (ai (Int.tmod (wI (a1*((l4_m5:Nat):Int))) a0)) (Rn (k:=.i64) (a:=wI (a1*((l4_m5:Nat):Int))) (b:=a0) (by kernel_rfl) (by kernel_rfl) g10) ?_;refine rsB 1 ?_;refine Ao (tn_ ?_);refine wr_ ?_;rcases Ad h with ⟨q11,h⟩ | ⟨q11,h⟩
   ·refine Af q11 ?_;refine Ak ?_;refine Ah (br_ (tr_ (tr_ (br_ (tr_ ?_)))));obtain rfl:=zj h;have h:=hn4
    (try dsimp only at h);obtain rfl:=zj h;have h:=hk2
    (try dsimp only at h);obtain rfl:=zj h;exact A3 [ai ((l4_m5:Nat):Int)] (Aq rfl zl Ar)
   refine Ae q11 ?_;refine Ai (bn_ (tn_ ?_));refine wr_ ?_;obtain ⟨g13,h⟩:=Av h;refine Aa 14 ?_;refine rz0 (ai ((l4_m5:Nat):Int)) ?_;refine rs0 (ai ((l4_m5+1:Nat):Int)) (za g13) ?_;refine rsB 1 ?_;refine Ao (tn_ ?_);obtain rfl:=zj h;exact ⟨l4_m5+1,_,Ac [],rfl,hn4⟩
  have q7_:=of_decide_eq_false q7;refine Ae q7 ?_;refine Az (te_ (te_ (be_ (tn_ ?_))));obtain rfl:=zj h;have h:=hn4
  (try dsimp only at h);obtain rfl:=zj h;exact ⟨(),_,rfl,Ac [],rfl⟩
 rintro _ _ rfl h
 (try dsimp only at h);refine Ak ?_;refine Ah ?_;obtain rfl:=zj h;exact A3 [ai 0] (Aq rfl zl Ar)
def Uv:AC :=
 (.seq (rg [xo 6 (qm (ci 0))])
 (.seq (rg [xo 7 (qm (tm 1)),xo 8 (qm (tm 0)),xo 9 (qb .add (tm 7) (tm 8)),xo 10 (qm (tm 2)),xo 11 (qb .sub (tm 9) (tm 10)),xo 12 (qm (tm 0)),xo 13 (qb .rem (tm 11) (tm 12)),xo 6 (qm (tm 13))])
 .ret))
def Ag5:List Res:=[.tmp 6]
theorem Ag0:Am Tryd.prog Tryd.f88=some (Uv,Ag5):=by kernel_rfl
theorem Adt:A8 Tryd.prog 88=true:=by kernel_rfl
def Ia (a0:Int) (a1:Int) (a2:Int):Option Int :=
 og (a0≠0) <|
some (Int.tmod (wI ((wI (a1+a0)) - a2)) a0)
def Adx (r:Int):RV:=⟨false,[(false,[.sc (.int .i64 r)])]⟩
theorem Aco {a0:Int} {a1:Int} {a2:Int} {r:Int} (h:Ia a0 a1 a2=some r):Aw Tryd.prog Tab 88 [ai a0,ai a1,ai a2] (Adx r):=by
 refine At (by kernel_rfl) Tryd.func88 Ag0 (n:=14) (by kernel_rfl) (by simp) (tl:=[(0,ai a0),(1,ai a1),(2,ai a2)]) rfl ?_;unfold Uv;unfold Ia at h;refine Ak ?_;refine Ab ?_;obtain ⟨g3,h⟩:=Av h;refine Aa 10 ?_;refine rz0 (ai a1) ?_;refine rz0 (ai a0) ?_;refine rz0 (ai (wI (a1+a0))) ?_;refine rz0 (ai a2) ?_;refine rz0 (ai (wI ((wI (a1+a0)) - a2))) ?_;refine rz0 (ai a0) ?_;refine rs0 (ai (Int.tmod (wI ((wI (a1+a0)) - a2)) a0)) (Rn (k:=.i64) (a:=wI ((wI (a1+a0)) - a2)) (b:=a0) (by kernel_rfl) (by kernel_rfl) g3) ?_;refine rsB 1 ?_;refine Ao (tn_ ?_);refine wr_ ?_;refine Ah ?_;obtain rfl:=zj h;exact A3 [ai (Int.tmod (wI ((wI (a1+a0)) - a2)) a0)] (Aq rfl zl Ar)
def Kh:AC :=
 (.seq (rg [xo 143 (qb .lss (tm 142) (tm 141))])
 (.seq (.cond (tm 143)
  .skip
  (.exit 10))
 (.seq (.block 11 (.seq (rg [xo 144 (qm (tm 142)),xo 18 (qm (tm 144))])
 (.region [xo 145 (qm (tm 7)),xo 146 (qm (tm 16)),xo 147 (qx 1 (tm 145) (tm 146)),xo 148 (ql (tm 147)),xo 149 (qm (tm 18)),xo 150 (qm (tm 0)),xo 151 (qm (tm 7)),xo 152 (qm (tm 16)),xo 153 (qx 1 (tm 151) (tm 152)),xo 154 (ql (tm 153)),xo 155 (qm (tm 18)),xo 156 (qx 1 (tm 154) (tm 155)),xo 157 (ql (tm 156)),xo 158 (qm (tm 0)),xo 159 (qm (tm 17)),xo 160 (qm (tm 7)),xo 161 (qm (tm 10)),xo 162 (qx 1 (tm 160) (tm 161)),xo 163 (ql (tm 162)),xo 164 (qm (tm 18)),xo 165 (qx 1 (tm 163) (tm 164)),xo 166 (ql (tm 165)),xo 167 (qc 87 [tm 158,tm 159,tm 166] [[],[],[]]),xo 168 (qc 88 [tm 150,tm 157,tm 167] [[],[],[]]),xo 169 (qx 1 (tm 148) (tm 149)),xn (qs (tm 169) (tm 168))] true [(3,22),(9,22),(12,22),(3,23)])))
 (rg [xo 170 (qb .add (tm 142) (ci 1)),xo 142 (qm (tm 170))]))))
def Le:AC :=
 (.seq (rg [xo 115 (qb .lss (tm 114) (tm 113))])
 (.seq (.cond (tm 115)
  .skip
  (.exit 8))
 (.seq (.block 9 (.seq (rg [xo 116 (qm (tm 114)),xo 16 (qm (tm 116))])
 (.seq (.seq (rg [xo 117 (qm (tm 16)),xo 118 (qm (tm 10)),xo 119 (qb .eql (tm 117) (tm 118)),xo 120 (qm (tm 119)),⟨some 121,some (120,false),qm (tm 7)⟩,⟨some 122,some (120,false),qm (tm 16)⟩,⟨some 123,some (120,false),qx 1 (tm 121) (tm 122)⟩,⟨some 124,some (120,false),ql (tm 123)⟩,⟨some 125,some (120,false),qm (tm 11)⟩,⟨some 126,some (120,false),qx 1 (tm 124) (tm 125)⟩,⟨some 127,some (120,false),ql (tm 126)⟩,⟨some 128,some (120,false),qb .eql (tm 127) (ci 0)⟩,xo 129 (.i (.pick (tm 120) (cb true) (tm 128)))])
 (.cond (tm 129)
  (.exit 9)
  .skip))
 (.seq (rg [xo 130 (qm (tm 7)),xo 131 (qm (tm 16)),xo 132 (qx 1 (tm 130) (tm 131)),xo 133 (ql (tm 132)),xo 134 (qm (tm 11)),xo 135 (qx 1 (tm 133) (tm 134)),xo 136 (ql (tm 135)),xo 17 (qm (tm 136))])
 (.seq (rg [xo 137 (qm (tm 7)),xo 138 (qm (tm 16)),xo 139 (qx 1 (tm 137) (tm 138)),xo 140 (ql (tm 139)),xo 141 (.i (.len (tm 140))),xo 142 (qm (ci 0))])
 (.block 10 (.loop Kh)))))))
 (rg [xo 171 (qb .add (tm 114) (ci 1)),xo 114 (qm (tm 171))]))))
def J9:AC :=
 (.seq (rg [xo 93 (qb .lss (tm 92) (tm 91))])
 (.seq (.cond (tm 93)
  .skip
  (.exit 6))
 (.seq (.block 7 (.seq (rg [xo 94 (qm (tm 92)),xo 15 (qm (tm 94))])
 (.region [xo 95 (qm (tm 7)),xo 96 (qm (tm 10)),xo 97 (qx 1 (tm 95) (tm 96)),xo 98 (ql (tm 97)),xo 99 (qm (tm 15)),xo 100 (qm (tm 0)),xo 101 (qm (tm 7)),xo 102 (qm (tm 10)),xo 103 (qx 1 (tm 101) (tm 102)),xo 104 (ql (tm 103)),xo 105 (qm (tm 15)),xo 106 (qx 1 (tm 104) (tm 105)),xo 107 (ql (tm 106)),xo 108 (qm (tm 14)),xo 109 (qc 87 [tm 100,tm 107,tm 108] [[],[],[]]),xo 110 (qx 1 (tm 98) (tm 99)),xn (qs (tm 110) (tm 109))] true [(3,14)])))
 (rg [xo 111 (qb .add (tm 92) (ci 1)),xo 92 (qm (tm 111))]))))
def Ld:AC :=
 (.seq (.seq (rg [xo 43 (qm (tm 12)),xo 44 (qm (tm 7)),xo 45 (.i (.len (tm 44))),xo 46 (qb .lss (tm 43) (tm 45)),xo 47 (qm (tm 46)),⟨some 48,some (47,true),qm (tm 7)⟩,⟨some 49,some (47,true),qm (tm 12)⟩,⟨some 50,some (47,true),qx 1 (tm 48) (tm 49)⟩,⟨some 51,some (47,true),ql (tm 50)⟩,⟨some 52,some (47,true),qm (tm 11)⟩,⟨some 53,some (47,true),qx 1 (tm 51) (tm 52)⟩,⟨some 54,some (47,true),ql (tm 53)⟩,⟨some 55,some (47,true),qb .eql (tm 54) (ci 0)⟩,xo 56 (.i (.pick (tm 47) (tm 55) (cb false)))])
 (.cond (tm 56)
  .skip
  (.exit 4)))
 (.block 5 (rg [xo 57 (qm (tm 12)),xo 58 (qb .add (tm 57) (ci 1)),xo 12 (qm (tm 58))])))
def Ka:AC :=
 (.seq (.seq (rg [xo 31 (qm (tm 11)),xo 32 (qm (tm 1)),xo 33 (qb .lss (tm 31) (tm 32)),xo 34 (qm (tm 33)),⟨some 35,some (34,true),qm (tm 10)⟩,⟨some 36,some (34,true),qm (tm 7)⟩,⟨some 37,some (34,true),.i (.len (tm 36))⟩,⟨some 38,some (34,true),qb .lss (tm 35) (tm 37)⟩,xo 39 (.i (.pick (tm 34) (tm 38) (cb false)))])
 (.cond (tm 39)
  .skip
  (.exit 2)))
 (.seq (.block 3 (.seq (rg [xo 42 (qm (tm 10)),xo 12 (qm (tm 42))])
 (.seq (.block 4 (.loop Ld))
 (.seq (.seq (rg [xo 59 (qm (tm 12)),xo 60 (qm (tm 7)),xo 61 (.i (.len (tm 60))),xo 62 (qb .eql (tm 59) (tm 61))])
 (.cond (tm 62)
  (.exit 3)
  .skip))
 (.seq (rg [xo 63 (qm (tm 7)),xo 64 (qm (tm 10)),xo 65 (qx 1 (tm 63) (tm 64)),xo 66 (ql (tm 65)),xo 13 (qm (tm 66))])
 (.seq (rg [xo 67 (qm (tm 7)),xo 68 (qm (tm 10)),xo 69 (qm (tm 7)),xo 70 (qm (tm 12)),xo 71 (qx 1 (tm 69) (tm 70)),xo 72 (ql (tm 71)),xo 73 (qx 1 (tm 67) (tm 68)),xn (qs (tm 73) (tm 72))])
 (.seq (rg [xo 74 (qm (tm 7)),xo 75 (qm (tm 12)),xo 76 (qm (tm 13)),xo 77 (qx 1 (tm 74) (tm 75)),xn (qs (tm 77) (tm 76))])
 (.seq (rg [xo 78 (qm (tm 0)),xo 79 (qm (tm 7)),xo 80 (qm (tm 10)),xo 81 (qx 1 (tm 79) (tm 80)),xo 82 (ql (tm 81)),xo 83 (qm (tm 11)),xo 84 (qx 1 (tm 82) (tm 83)),xo 85 (ql (tm 84)),xo 86 (qc 86 [tm 78,tm 85] [[],[]]),xo 14 (qm (tm 86))])
 (.seq (.seq (rg [xo 87 (qm (tm 7)),xo 88 (qm (tm 10)),xo 89 (qx 1 (tm 87) (tm 88)),xo 90 (ql (tm 89)),xo 91 (.i (.len (tm 90))),xo 92 (qm (ci 0))])
 (.block 6 (.loop J9)))
 (.seq (.seq (rg [xo 112 (qm (tm 7)),xo 113 (.i (.len (tm 112))),xo 114 (qm (ci 0))])
 (.block 8 (.loop Le)))
 (rg [xo 172 (qm (tm 10)),xo 173 (qb .add (tm 172) (ci 1)),xo 10 (qm (tm 173))])))))))))))
 (rg [xo 40 (qm (tm 11)),xo 41 (qb .add (tm 40) (ci 1)),xo 11 (qm (tm 41))])))
def Lf:AC :=
 (.seq (rg [xo 22 (qb .lss (tm 21) (tm 20))])
 (.seq (.cond (tm 22)
  .skip
  (.exit 0))
 (.seq (.block 1 (.seq (rg [xo 23 (qx 1 (tm 19) (tm 21)),xo 24 (ql (tm 23)),xo 9 (qm (tm 24))])
 (rg [xo 25 (qm (tm 7)),xo 26 (qm (tm 9)),xo 27 (qc 85 [tm 26] [[some .int]]),xo 28 (.mkV 79 (.slice .int) 1 [tm 27]),xo 29 (.appV 79 (.slice .int) 24 (tm 25) (tm 28)),xo 7 (qm (tm 29))])))
 (rg [xo 30 (qb .add (tm 21) (ci 1)),xo 21 (qm (tm 30))]))))
def N4:AC :=
 (.seq (rg [xo 6 (qm (.cst .nils))])
 (.seq (rg [xo 7 (qm (.cst .nils))])
 (.seq (.seq (rg [xo 19 (qm (tm 2)),xo 20 (.i (.len (tm 19))),xo 21 (qm (ci 0))])
 (.block 0 (.loop Lf)))
 (.seq (rg [xo 10 (qm (ci 0))])
 (.seq (.seq (rg [xo 11 (qm (ci 0))])
 (.block 2 (.loop Ka)))
 (.seq (rg [xo 174 (qm (tm 7)),xo 175 (qm (tm 10)),xo 176 (.slice 1 (tm 174) none (some (tm 175)) none),xo 6 (qm (tm 176))])
 .ret))))))
def Yi:List Res:=[.tmp 6]
theorem Xr:Am Tryd.prog Tryd.f70=some (N4,Yi):=by kernel_rfl
theorem Ws:A8 Tryd.prog 70=true:=by kernel_rfl
def Cm (a2:List (List Int)) (l6_m21:Nat) (l6_m7:List (List Int)):Option (Ctl (Nat×List (List Int)) (List (List Int))) :=
 cond (decide (((l6_m21:Nat):Int)<((a2.length:Nat):Int)))
 (Option.bind (a2[l6_m21]?) fun x12 =>
 Option.bind (H5 x12) fun y13 =>
 og (l6_m7.length+1<=1073741824∧(l6_m7.length+1)*24<=140737488355328) <|
 og (l6_m21+1<4611686018427387904) <|
 some (Ctl.next (l6_m21+1,l6_m7++[y13])))
 (some (Ctl.out l6_m7))
def Cj (l19_m7:List (List Int)) (l19_m11:Nat) (l27_m12:Nat):Option (Ctl Nat Nat) :=
 Option.bind (cond (decide (((l27_m12:Nat):Int)<((l19_m7.length:Nat):Int)))
  (Option.bind (l19_m7[l27_m12]?) fun x31 =>
  Option.bind (x31[l19_m11]?) fun x32 =>
  some (x32==0))
  (some false)) fun l29_m56 =>
cond l29_m56
 (og (l27_m12+1<4611686018427387904) <|
 some (Ctl.next (l27_m12+1)))
 (some (Ctl.out l27_m12))
def Dg (x44:List Int) (l19_m10:Nat) (a0:Int) (y46:Int) (l49_m92:Nat) (l49_m7:List (List Int)):Option (Ctl (Nat×List (List Int)) (List (List Int))) :=
 cond (decide (((l49_m92:Nat):Int)<((x44.length:Nat):Int)))
 (Option.bind (l49_m7[l19_m10]?) fun x55 =>
 Option.bind (x55[l49_m92]?) fun x56 =>
 Option.bind (Gt a0 x56 y46) fun y57 =>
 og (l49_m92+1<4611686018427387904) <|
 some (Ctl.next (l49_m92+1,l49_m7.set l19_m10 (x55.set l49_m92 y57))))
 (some (Ctl.out l49_m7))
def Di (x74:List Int) (l61_m114:Nat) (l19_m10:Nat) (a0:Int) (x75:Int) (l77_m142:Nat) (l77_m7:List (List Int)):Option (Ctl (Nat×List (List Int)) (List (List Int))) :=
 cond (decide (((l77_m142:Nat):Int)<((x74.length:Nat):Int)))
 (Option.bind (l77_m7[l61_m114]?) fun x83 =>
 Option.bind (x83[l77_m142]?) fun x84 =>
 Option.bind (l77_m7[l19_m10]?) fun x85 =>
 Option.bind (x85[l77_m142]?) fun x86 =>
 Option.bind (Gt a0 x75 x86) fun y87 =>
 Option.bind (Ia a0 x84 y87) fun y88 =>
 og (l77_m142+1<4611686018427387904) <|
 some (Ctl.next (l77_m142+1,l77_m7.set l61_m114 (x83.set l77_m142 y88))))
 (some (Ctl.out l77_m7))
def Dk (l47_m7:List (List Int)) (l19_m10:Nat) (l19_m11:Nat) (a0:Int) (l61_m114:Nat) (l61_m7:List (List Int)):Option (Ctl (Nat×List (List Int)) (List (List Int))) :=
 cond (decide (((l61_m114:Nat):Int)<((l47_m7.length:Nat):Int)))
 (Option.bind (Option.bind (cond (((l61_m114:Nat):Int)==((l19_m10:Nat):Int))
       (some true)
       (Option.bind (l61_m7[l61_m114]?) fun x70 =>
       Option.bind (x70[l19_m11]?) fun x71 =>
       some (x71==0))) fun l68_m129 =>
  cond l68_m129
   (some l61_m7)
   (Option.bind (l61_m7[l61_m114]?) fun x74 =>
   Option.bind (x74[l19_m11]?) fun x75 =>
   A7 (fun s_:Nat×List (List Int)=>Di x74 l61_m114 l19_m10 a0 x75 s_.1 s_.2) 4611686018427387904 (0,l61_m7))) fun l65_m7 =>
 og (l61_m114+1<4611686018427387904) <|
 some (Ctl.next (l61_m114+1,l65_m7)))
 (some (Ctl.out l61_m7))
def B7 (a1:Int) (a0:Int) (l19_m10:Nat) (l19_m11:Nat) (l19_m7:List (List Int)):Option (Ctl (Nat×Nat×List (List Int)) (Nat×List (List Int))) :=
 Option.bind (cond (decide (((l19_m11:Nat):Int)<a1))
  (some (decide (((l19_m10:Nat):Int)<((l19_m7.length:Nat):Int))))
  (some false)) fun l21_m39 =>
cond l21_m39
 (Option.bind (Option.bind (A7 (fun s_:Nat=>Cj l19_m7 l19_m11 s_) 4611686018427387904 l19_m10) fun l26_m12 =>
  cond (((l26_m12:Nat):Int)==((l19_m7.length:Nat):Int))
   (some (l19_m10,l19_m7))
   (Option.bind (l19_m7[l19_m10]?) fun x39 =>
   Option.bind (l19_m7[l26_m12]?) fun x41 =>
   Option.bind (((l19_m7.set l19_m10 x41).set l26_m12 x39)[l19_m10]?) fun x44 =>
   Option.bind (x44[l19_m11]?) fun x45 =>
   Option.bind (Ib a0 x45) fun y46 =>
   Option.bind (A7 (fun s_:Nat×List (List Int)=>Dg x44 l19_m10 a0 y46 s_.1 s_.2) 4611686018427387904 (0,(l19_m7.set l19_m10 x41).set l26_m12 x39)) fun l47_m7 =>
   Option.bind (A7 (fun s_:Nat×List (List Int)=>Dk l47_m7 l19_m10 l19_m11 a0 s_.1 s_.2) 4611686018427387904 (0,l47_m7)) fun l59_m7 =>
   og (l19_m10+1<4611686018427387904) <|
   some (l19_m10+1,l59_m7))) fun (l24_m10,l24_m7) =>
 og (l19_m11+1<4611686018427387904) <|
 some (Ctl.next (l24_m10,l19_m11+1,l24_m7)))
 (some (Ctl.out (l19_m10,l19_m7)))
def Fk (a0:Int) (a1:Int) (a2:List (List Int)):Option (List (List Int)) :=
 Option.bind (A7 (fun s_:Nat×List (List Int)=>Cm a2 s_.1 s_.2) 4611686018427387904 (0,([]:List (List Int)))) fun l4_m7 =>
Option.bind (A7 (fun s_:Nat×Nat×List (List Int)=>B7 a1 a0 s_.1 s_.2.1 s_.2.2) 4611686018427387904 (0,0,l4_m7)) fun (l17_m10,l17_m7) =>
og ((0:Int)<=0∧0<=((l17_m10:Nat):Int)∧((l17_m10:Nat):Int)<=((l17_m7.length:Nat):Int)) <|
some (l17_m7.take l17_m10)
theorem Wv {a0:Int} {a1:Int} {a2:List (List Int)} {r:List (List Int)} (h:Fk a0 a1 a2=some r):Id Tryd.prog Tab 70 [ai a0,ai a1,.tree (.slice .int) a2] [] (.own (oi 0 1) (.slice .int) 0 r.length) [(oi 0 1,.mat 79 (oi 1 1) .int r),(oi 1 1,.pool 3 .int r)]:=by
 refine Gv (by kernel_rfl) Tryd.func70 Xr (n:=177) (by kernel_rfl) (by simp) (tl:=[(0,ai a0),(1,ai a1),(2,.tree (.slice .int) a2)]) rfl (by kernel_rfl) trivial ⟨⟨3,.tail _ (.head _)⟩,⟨trivial,trivial⟩⟩ ?_;unfold N4;unfold Fk at h;refine Ak ?_;refine Ak ?_;refine Ax h (fun (l4_m7:List (List Int)) S_=>S_=⟨An [(0,ai a0),(1,ai a1),(7,.own (oi 0 1) (.slice .int) 0 l4_m7.length)],Aj (Ap [(oi 0 1,.mat 79 (oi 1 1) .int l4_m7),(oi 1 1,.pool 3 .int l4_m7)]),2⟩) ?_ ?_
 ·intro v_ h;refine Ak ?_;refine Al ?_;refine A6 h (fun t_ S_=>∃ (l6_m21:Nat),∃ (l6_m7:List (List Int)),t_=(l6_m21,l6_m7)∧S_=⟨An [(0,ai a0),(1,ai a1),(7,.own (oi 0 1) (.slice .int) 0 l6_m7.length),(19,.tree (.slice .int) a2),(20,ai ((a2.length:Nat):Int)),(21,ai ((l6_m21:Nat):Int))],Aj (Ap [(oi 0 1,.mat 79 (oi 1 1) .int l6_m7),(oi 1 1,.pool 3 .int l6_m7)]),2⟩) ⟨_,(Ak7 7 79 (.slice .int) (by kernel_rfl)).trans ((Ake (e1:=79) (n:=0) 9000 (oi 7 6) 3 .int (by kernel_rfl) (by kernel_rfl) rfl (by kernel_rfl) (by kernel_rfl)).trans (Ac [(oi 0 1,oi 7 6),(oi 1 1,oi 9000 7)])),⟨0,([]:List (List Int)),rfl,rfl⟩⟩ ?_;rintro n_ _ _ c_ ⟨l6_m21,l6_m7,rfl,rfl⟩ h hn6
  (try dsimp only at h);unfold Cm at h;unfold Lf;refine Ak ?_;refine Ab ?_;rcases Ad h with ⟨q9,h⟩ | ⟨q9,h⟩
  ·have q9_:=of_decide_eq_true q9;refine Af q9 ?_;refine Ai (tn_ ?_);refine wr_ ?_;refine Ab ?_;refine Al ?_;refine Ab ?_;obtain ⟨x12,e12,h⟩:=Ag h;refine Aa 6 ?_;refine rs0 (.telt none (.slice .int) x12 0) (zi (t:=.slice .int) (xs:=a2) (k:=.i64) (m:=((l6_m21:Nat):Int)) (Ay _) e12) ?_;refine rsB 2 ?_;refine Ao (tn_ ?_);refine wr_ ?_;obtain ⟨y13,h13,h⟩:=Ag h;obtain ⟨g14,h⟩:=Av h;refine Aa 12 ?_;refine rz0 (.own (oi 0 1) (.slice .int) 0 l6_m7.length) ?_;refine rz0 (.tree .int x12) ?_;refine zc (.own (oi 432 8) .int 0 y13.length) [(oi 432 8,some (.arr 3 .int y13))] [.tree .int x12] (Aef h13) ?_;refine Aul (.own (oi 28 9) (.slice .int) 0 1) (oi 28 9) (.vec 79 1 1 ([.own (oi 432 8) .int 0 y13.length])) trivial (Apv (by kernel_rfl)) ?_;refine rs2 (.own (oi 0 10) (.slice .int) 0 (l6_m7.length+1)) (oi 0 1) (oi 0 10) (.vec 79 1 (l6_m7.length+1) (hdL (oi 1 1) .int l6_m7++[.own (oi 432 8) .int 0 y13.length])) (Amz (u:=.int) (t':=.slice .int) (t2:=.slice .int) (o:=oi 0 1) (q:=oi 28 9) (e2:=79) (p:=oi 1 1) (xss:=l6_m7) (cs:=[.own (oi 432 8) .int 0 y13.length]) (len:=l6_m7.length) (by kernel_rfl) (by kernel_rfl) rfl (by kernel_rfl) (by kernel_rfl) rfl g14) ?_;refine rsB 1 ?_;refine Ao (bn_ (tn_ ?_));refine ⟨_,Ae9 (e1:=79) (e:=3) (u:=.int) (n:=l6_m7.length+1) (len:=y13.length) (row:=y13) (ys:=y13) (xss:=l6_m7) 9000 (oi 0 10) (oi 1 1) (oi 432 8) (by kernel_rfl) (by kernel_rfl) rfl (by kernel_rfl) (by kernel_rfl) (Ao7 rfl) (Aqg rfl) (by kernel_rfl) (by kernel_rfl) (by kernel_rfl),?_⟩;obtain ⟨g15,h⟩:=Av h;refine Aa 15 ?_;refine rs0 (ai ((l6_m21+1:Nat):Int)) (za g15) ?_;refine rsB 1 ?_;refine Ao (tn_ ?_);obtain rfl:=zj h;exact ⟨(l6_m21+1,l6_m7++[y13]),_,(B1 7 (.own (oi 0 10) (.slice .int) 0 (l6_m7.length+1)) (.own (oi 0 10) (.slice .int) 0 ((l6_m7++[y13]).length)) (by kernel_rfl) (congrArg (fun z_=>((.own (oi 0 10) (.slice .int) 0 z_):AV)) ((by simp):l6_m7.length+1=(l6_m7++[y13]).length))).trans (Ac [(oi 0 1,oi 0 10),(oi 1 1,oi 9000 12)]),⟨l6_m21+1,l6_m7++[y13],rfl,rfl⟩,hn6⟩
  have q9_:=of_decide_eq_false q9;refine Ae q9 ?_;refine Az (te_ (te_ (be_ (tn_ ?_))));obtain rfl:=zj h;have h:=hn6
  (try dsimp only at h);obtain rfl:=zj h;exact ⟨_,Ac [],rfl⟩
 rintro l4_m7 _ rfl h
 (try dsimp only at h);refine Ak ?_;refine Ax h (fun t_ S_=>∃ (l17_m10:Nat),∃ (l17_m7:List (List Int)),t_=(l17_m10,l17_m7)∧S_=⟨An [(7,.own (oi 0 1) (.slice .int) 0 l17_m7.length),(10,ai ((l17_m10:Nat):Int))],Aj (Ap [(oi 0 1,.mat 79 (oi 1 1) .int l17_m7),(oi 1 1,.pool 3 .int l17_m7)]),2⟩) ?_ ?_
 ·intro v_ h;refine Ak ?_;refine Al ?_;refine A6 h (fun t_ S_=>∃ (l19_m10:Nat),∃ (l19_m11:Nat),∃ (l19_m7:List (List Int)),t_=(l19_m10,l19_m11,l19_m7)∧S_=⟨An [(0,ai a0),(1,ai a1),(7,.own (oi 0 1) (.slice .int) 0 l19_m7.length),(10,ai ((l19_m10:Nat):Int)),(11,ai ((l19_m11:Nat):Int))],Aj (Ap [(oi 0 1,.mat 79 (oi 1 1) .int l19_m7),(oi 1 1,.pool 3 .int l19_m7)]),2⟩) ⟨_,Ac [],⟨0,0,l4_m7,rfl,rfl⟩⟩ ?_;rintro n_ _ _ c_ ⟨l19_m10,l19_m11,l19_m7,rfl,rfl⟩ h hn19
  (try dsimp only at h);unfold B7 at h;unfold Ka;refine Ab ?_;refine Ax h (fun (l21_m39:Bool) S_=>S_=⟨An [(0,ai a0),(1,ai a1),(7,.own (oi 0 1) (.slice .int) 0 l19_m7.length),(10,ai ((l19_m10:Nat):Int)),(11,ai ((l19_m11:Nat):Int)),(39,.bool l21_m39)],Aj (Ap [(oi 0 1,.mat 79 (oi 1 1) .int l19_m7),(oi 1 1,.pool 3 .int l19_m7)]),2⟩) ?_ ?_
  ·intro v_ h;rcases Ad h with ⟨q22,h⟩ | ⟨q22,h⟩
   ·have q22_:=of_decide_eq_true q22;refine Aa 11 ?_;refine rz0 (ai ((l19_m11:Nat):Int)) ?_;refine rz0 (ai a1) ?_;refine rz0 (.bool (decide (((l19_m11:Nat):Int)<a1))) ?_;refine rz0 (.bool (decide (((l19_m11:Nat):Int)<a1))) ?_;refine rs0 (ai ((l19_m10:Nat):Int)) (zg q22) ?_;refine rs0 (.own (oi 0 1) (.slice .int) 0 l19_m7.length) (zg q22) ?_;refine rs0 (ai ((l19_m7.length:Nat):Int)) (zg q22) ?_;refine rs0 (.bool (decide (((l19_m10:Nat):Int)<((l19_m7.length:Nat):Int)))) (zg q22) ?_;refine rs0 (.bool (decide (((l19_m10:Nat):Int)<((l19_m7.length:Nat):Int)))) (zT q22) ?_;refine Ao (tn_ ?_);obtain rfl:=zj h;exact ⟨_,Ac [],rfl⟩
   have q22_:=of_decide_eq_false q22;refine Aa 11 ?_;refine rz0 (ai ((l19_m11:Nat):Int)) ?_;refine rz0 (ai a1) ?_;refine rz0 (.bool (decide (((l19_m11:Nat):Int)<a1))) ?_;refine rz0 (.bool (decide (((l19_m11:Nat):Int)<a1))) ?_;refine zs q22 ?_;refine zs q22 ?_;refine zs q22 ?_;refine zs q22 ?_;refine rs0 (.bool false) (zF q22) ?_;refine Ao (tn_ ?_);obtain rfl:=zj h;exact ⟨_,Ac [],rfl⟩
  rintro l21_m39 _ rfl h
  (try dsimp only at h);rcases Ad h with ⟨q23,h⟩ | ⟨q23,h⟩
  ·refine Af q23 ?_;refine Ai (tn_ ?_);refine wr_ ?_;refine Ax h (fun t_ S_=>∃ (l24_m10:Nat),∃ (l24_m7:List (List Int)),t_=(l24_m10,l24_m7)∧S_=⟨An [(0,ai a0),(1,ai a1),(7,.own (oi 0 1) (.slice .int) 0 l24_m7.length),(10,ai ((l24_m10:Nat):Int)),(11,ai ((l19_m11:Nat):Int))],Aj (Ap [(oi 0 1,.mat 79 (oi 1 1) .int l24_m7),(oi 1 1,.pool 3 .int l24_m7)]),2⟩) ?_ ?_
   ·intro v_ h;refine Al ?_;refine Ak ?_;refine Ax h (fun (l26_m12:Nat) S_=>S_=⟨An [(0,ai a0),(1,ai a1),(7,.own (oi 0 1) (.slice .int) 0 l19_m7.length),(10,ai ((l19_m10:Nat):Int)),(11,ai ((l19_m11:Nat):Int)),(12,ai ((l26_m12:Nat):Int))],Aj (Ap [(oi 0 1,.mat 79 (oi 1 1) .int l19_m7),(oi 1 1,.pool 3 .int l19_m7)]),2⟩) ?_ ?_
    ·intro v_ h;refine Al ?_;refine A6 h (fun (l27_m12:Nat) S_=>S_=⟨An [(0,ai a0),(1,ai a1),(7,.own (oi 0 1) (.slice .int) 0 l19_m7.length),(10,ai ((l19_m10:Nat):Int)),(11,ai ((l19_m11:Nat):Int)),(12,ai ((l27_m12:Nat):Int))],Aj (Ap [(oi 0 1,.mat 79 (oi 1 1) .int l19_m7),(oi 1 1,.pool 3 .int l19_m7)]),2⟩) ⟨_,Ac [],rfl⟩ ?_;rintro n_ l27_m12 _ c_ rfl h hn27
     (try dsimp only at h);unfold Cj at h;unfold Ld;refine Ab ?_;refine Ax h (fun (l29_m56:Bool) S_=>S_=⟨An [(0,ai a0),(1,ai a1),(7,.own (oi 0 1) (.slice .int) 0 l19_m7.length),(10,ai ((l19_m10:Nat):Int)),(11,ai ((l19_m11:Nat):Int)),(12,ai ((l27_m12:Nat):Int)),(56,.bool l29_m56)],Aj (Ap [(oi 0 1,.mat 79 (oi 1 1) .int l19_m7),(oi 1 1,.pool 3 .int l19_m7)]),2⟩) ?_ ?_
     ·intro v_ h;rcases Ad h with ⟨q30,h⟩ | ⟨q30,h⟩
      ·have q30_:=of_decide_eq_true q30;obtain ⟨x31,e31,h⟩:=Ag h;obtain ⟨x32,e32,h⟩:=Ag h;refine Aa 16 ?_;refine rz0 (ai ((l27_m12:Nat):Int)) ?_;refine rz0 (.own (oi 0 1) (.slice .int) 0 l19_m7.length) ?_;refine rz0 (ai ((l19_m7.length:Nat):Int)) ?_;refine rz0 (.bool (decide (((l27_m12:Nat):Int)<((l19_m7.length:Nat):Int)))) ?_;refine rz0 (.bool (decide (((l27_m12:Nat):Int)<((l19_m7.length:Nat):Int)))) ?_;refine rs0 (.own (oi 0 1) (.slice .int) 0 l19_m7.length) (zg q30) ?_;refine rs0 (ai ((l27_m12:Nat):Int)) (zg q30) ?_;refine rs0 (.elt (oi 0 1) l27_m12 0) (Fl (by kernel_rfl) q30 (zo (t:=.slice .int) (o:=oi 0 1) (len:=l19_m7.length) (k:=.i64) (m:=((l27_m12:Nat):Int)) (Ay _) (Au e31))) ?_;refine rsl (.own (kid (oi 1 1) l27_m12) .int 0 x31.length) (Fl (by kernel_rfl) q30 (F0 (o:=oi 0 1) (p:=oi 1 1) (e1:=79) (u:=.int) (xss:=l19_m7) (row:=x31) (j:=l27_m12) (by kernel_rfl) (by kernel_rfl) e31)) ?_;refine rs0 (ai ((l19_m11:Nat):Int)) (zg q30) ?_;refine rs0 (.elt (kid (oi 1 1) l27_m12) l19_m11 0) (Fl (by kernel_rfl) q30 (zo (t:=.int) (o:=kid (oi 1 1) l27_m12) (len:=x31.length) (k:=.i64) (m:=((l19_m11:Nat):Int)) (Ay _) (Au e32))) ?_;refine rsl (ai x32) (Fl (by kernel_rfl) q30 (Dd (i:=kid (oi 1 1) l27_m12) (j:=l19_m11) (k:=0) (e:=3) (t:=.int) (xs:=x31) (by kernel_rfl) (Bp (by kernel_rfl) e31) e32 (by kernel_rfl))) ?_;refine rs0 (.bool (x32==0)) (zg q30) ?_;refine rs0 (.bool (x32==0)) (zT q30) ?_;refine Ao (tn_ ?_);obtain rfl:=zj h;exact ⟨_,Ac [],rfl⟩
      have q30_:=of_decide_eq_false q30;refine Aa 16 ?_;refine rz0 (ai ((l27_m12:Nat):Int)) ?_;refine rz0 (.own (oi 0 1) (.slice .int) 0 l19_m7.length) ?_;refine rz0 (ai ((l19_m7.length:Nat):Int)) ?_;refine rz0 (.bool (decide (((l27_m12:Nat):Int)<((l19_m7.length:Nat):Int)))) ?_;refine rz0 (.bool (decide (((l27_m12:Nat):Int)<((l19_m7.length:Nat):Int)))) ?_;refine zs q30 ?_;refine zs q30 ?_;refine zs q30 ?_;refine zs q30 ?_;refine zs q30 ?_;refine zs q30 ?_;refine zs q30 ?_;refine zs q30 ?_;refine rs0 (.bool false) (zF q30) ?_;refine Ao (tn_ ?_);obtain rfl:=zj h;exact ⟨_,Ac [],rfl⟩
     rintro l29_m56 _ rfl h
     (try dsimp only at h);rcases Ad h with ⟨q33,h⟩ | ⟨q33,h⟩
     ·refine Af q33 ?_;refine Ai (tn_ ?_);refine wr_ ?_;refine Al ?_;obtain ⟨g34,h⟩:=Av h;refine Aa 5 ?_;refine rz0 (ai ((l27_m12:Nat):Int)) ?_;refine rs0 (ai ((l27_m12+1:Nat):Int)) (za g34) ?_;refine rsB 1 ?_;refine Ao (bn_ (tn_ ?_));obtain rfl:=zj h;exact ⟨l27_m12+1,_,Ac [],rfl,hn27⟩
     refine Ae q33 ?_;refine Az (te_ (te_ (be_ (tn_ ?_))));obtain rfl:=zj h;have h:=hn27
     (try dsimp only at h);obtain rfl:=zj h;exact ⟨_,Ac [],rfl⟩
    rintro l26_m12 _ rfl h
    (try dsimp only at h);refine Ab ?_;refine Ak ?_;rcases Ad h with ⟨q37,h⟩ | ⟨q37,h⟩
    ·refine Af q37 ?_;refine Az (te_ (be_ (tn_ ?_)));obtain rfl:=zj h;exact ⟨_,Ac [],⟨l19_m10,l19_m7,rfl,rfl⟩⟩
    refine Ae q37 ?_;refine Ai (tn_ ?_);refine wr_ ?_;refine Ab ?_;obtain ⟨x39,e39,h⟩:=Ag h;refine Aa 11 ?_;refine rz0 (.own (oi 0 1) (.slice .int) 0 l19_m7.length) ?_;refine rz0 (ai ((l19_m10:Nat):Int)) ?_;refine rs0 (.elt (oi 0 1) l19_m10 0) (zo (t:=.slice .int) (o:=oi 0 1) (len:=l19_m7.length) (k:=.i64) (m:=((l19_m10:Nat):Int)) (Ay _) (Au e39)) ?_;refine rsl (.own (kid (oi 1 1) l19_m10) .int 0 x39.length) (F0 (o:=oi 0 1) (p:=oi 1 1) (e1:=79) (u:=.int) (xss:=l19_m7) (row:=x39) (j:=l19_m10) (by kernel_rfl) (by kernel_rfl) e39) ?_;refine rsB 1 ?_;refine Ao (tn_ ?_);refine wr_ ?_;refine Ab ?_;obtain ⟨x41,e41,h⟩:=Ag h;refine Aa 19 ?_;refine rz0 (.own (oi 0 1) (.slice .int) 0 l19_m7.length) ?_;refine rz0 (ai ((l19_m10:Nat):Int)) ?_;refine rz0 (.own (oi 0 1) (.slice .int) 0 l19_m7.length) ?_;refine rz0 (ai ((l26_m12:Nat):Int)) ?_;refine rs0 (.elt (oi 0 1) l26_m12 0) (zo (t:=.slice .int) (o:=oi 0 1) (len:=l19_m7.length) (k:=.i64) (m:=((l26_m12:Nat):Int)) (Ay _) (Au e41)) ?_;refine rsl (.own (kid (oi 1 1) l26_m12) .int 0 x41.length) (F0 (o:=oi 0 1) (p:=oi 1 1) (e1:=79) (u:=.int) (xss:=l19_m7) (row:=x41) (j:=l26_m12) (by kernel_rfl) (by kernel_rfl) e41) ?_;refine rs0 (.elt (oi 0 1) l19_m10 0) (zo (t:=.slice .int) (o:=oi 0 1) (len:=l19_m7.length) (k:=.i64) (m:=((l19_m10:Nat):Int)) (Ay _) (Au e39)) ?_;refine Ahf (oi 0 1) (oi 0 1) (.vec 79 1 l19_m7.length ((hdL (oi 1 1) .int l19_m7).set l19_m10 (.own (kid (oi 1 1) l26_m12) .int 0 x41.length))) (Ait (o:=oi 0 1) (e1:=79) (m:=l19_m7.length) (cs:=hdL (oi 1 1) .int l19_m7) (v:=.own (kid (oi 1 1) l26_m12) .int 0 x41.length) (j:=l19_m10) (by kernel_rfl) (by kernel_rfl) (by kernel_rfl) rfl (by rw [Fd]; exact Au e39)) ?_;refine Ao (tn_ ?_);refine wr_ ?_;refine Ab ?_;refine Aa 24 ?_;refine rz0 (.own (oi 0 1) (.slice .int) 0 l19_m7.length) ?_;refine rz0 (ai ((l26_m12:Nat):Int)) ?_;refine rz0 (.own (kid (oi 1 1) l19_m10) .int 0 x39.length) ?_;refine rs0 (.elt (oi 0 1) l26_m12 0) (zo (t:=.slice .int) (o:=oi 0 1) (len:=l19_m7.length) (k:=.i64) (m:=((l26_m12:Nat):Int)) (Ay _) (Au e41)) ?_;refine Ahf (oi 0 1) (oi 0 1) (.vec 79 1 l19_m7.length (((hdL (oi 1 1) .int l19_m7).set l19_m10 (.own (kid (oi 1 1) l26_m12) .int 0 x41.length)).set l26_m12 (.own (kid (oi 1 1) l19_m10) .int 0 x39.length))) (Ait (o:=oi 0 1) (e1:=79) (m:=l19_m7.length) (cs:=(hdL (oi 1 1) .int l19_m7).set l19_m10 (.own (kid (oi 1 1) l26_m12) .int 0 x41.length)) (v:=.own (kid (oi 1 1) l19_m10) .int 0 x39.length) (j:=l26_m12) (by kernel_rfl) (by kernel_rfl) (by kernel_rfl) rfl (by rw [List.length_set,Fd]; exact Au e41)) ?_;refine Ao (tn_ ?_);refine ⟨_,Abx (e1:=79) (e:=3) (u:=.int) (xss:=l19_m7) (i:=l19_m10) (j:=l26_m12) (n:=l19_m7.length) (li:=x39.length) (lj:=x41.length) (ri:=x39) (rj:=x41) 9000 (oi 0 1) (oi 1 1) (by kernel_rfl) (by kernel_rfl) rfl (by kernel_rfl) e39 e41 rfl rfl (by kernel_rfl) (by kernel_rfl),?_⟩;refine Ab ?_;obtain ⟨x44,e44,h⟩:=Ag h;obtain ⟨x45,e45,h⟩:=Ag h;obtain ⟨y46,h46,h⟩:=Ag h;refine Aa 35 ?_;refine rz0 (ai a0) ?_;refine rz0 (.own (oi 0 1) (.slice .int) 0 l19_m7.length) ?_;refine rz0 (ai ((l19_m10:Nat):Int)) ?_;refine rs0 (.elt (oi 0 1) l19_m10 0) (zo (t:=.slice .int) (o:=oi 0 1) (len:=l19_m7.length) (k:=.i64) (m:=((l19_m10:Nat):Int)) (Ay _) (Nat.lt_of_lt_of_le (Au e44) (Nat.le_of_eq (Eq.symm (Eq.trans (b:=l19_m7.length) rfl (by simp)))))) ?_;refine rsl (.own (kid (oi 9000 24) l19_m10) .int 0 x44.length) (F0 (o:=oi 0 1) (p:=oi 9000 24) (e1:=79) (u:=.int) (xss:=(l19_m7.set l19_m10 x41).set l26_m12 x39) (row:=x44) (j:=l19_m10) (by kernel_rfl) (by kernel_rfl) e44) ?_;refine rz0 (ai ((l19_m11:Nat):Int)) ?_;refine rs0 (.elt (kid (oi 9000 24) l19_m10) l19_m11 0) (zo (t:=.int) (o:=kid (oi 9000 24) l19_m10) (len:=x44.length) (k:=.i64) (m:=((l19_m11:Nat):Int)) (Ay _) (Au e45)) ?_;refine rsl (ai x45) (Dd (i:=kid (oi 9000 24) l19_m10) (j:=l19_m11) (k:=0) (e:=3) (t:=.int) (xs:=x44) (by kernel_rfl) (Bp (by kernel_rfl) e44) e45 (by kernel_rfl)) ?_;refine zc (ai y46) [] [ai a0,ai x45] (Adb h46) ?_;refine rsB 1 ?_;refine Ao (tn_ ?_);refine wr_ ?_;refine Ax h (fun (l47_m7:List (List Int)) S_=>S_=⟨An [(0,ai a0),(1,ai a1),(7,.own (oi 0 1) (.slice .int) 0 l47_m7.length),(10,ai ((l19_m10:Nat):Int)),(11,ai ((l19_m11:Nat):Int))],Aj (Ap [(oi 0 1,.mat 79 (oi 1 1) .int l47_m7),(oi 1 1,.pool 3 .int l47_m7)]),2⟩) ?_ ?_
    ·intro v_ h;refine Ab ?_;refine Aa 41 ?_;refine rz0 (.own (oi 0 1) (.slice .int) 0 l19_m7.length) ?_;refine rz0 (ai ((l19_m10:Nat):Int)) ?_;refine rs0 (.elt (oi 0 1) l19_m10 0) (zo (t:=.slice .int) (o:=oi 0 1) (len:=l19_m7.length) (k:=.i64) (m:=((l19_m10:Nat):Int)) (Ay _) (Nat.lt_of_lt_of_le (Au e44) (Nat.le_of_eq (Eq.symm (Eq.trans (b:=l19_m7.length) rfl (by simp)))))) ?_;refine rsl (.own (kid (oi 9000 24) l19_m10) .int 0 x44.length) (F0 (o:=oi 0 1) (p:=oi 9000 24) (e1:=79) (u:=.int) (xss:=(l19_m7.set l19_m10 x41).set l26_m12 x39) (row:=x44) (j:=l19_m10) (by kernel_rfl) (by kernel_rfl) e44) ?_;refine rsB 2 ?_;refine Ao (tn_ ?_);refine wr_ ?_;refine Al ?_;refine A6 h (fun t_ S_=>∃ (l49_m92:Nat),∃ (l49_m7:List (List Int)),t_=(l49_m92,l49_m7)∧S_=⟨An [(0,ai a0),(1,ai a1),(7,.own (oi 0 1) (.slice .int) 0 l49_m7.length),(10,ai ((l19_m10:Nat):Int)),(11,ai ((l19_m11:Nat):Int)),(14,ai y46),(91,ai ((x44.length:Nat):Int)),(92,ai ((l49_m92:Nat):Int))],Aj (Ap [(oi 0 1,.mat 79 (oi 1 1) .int l49_m7),(oi 1 1,.pool 3 .int l49_m7)]),2⟩) ⟨_,(B1 7 (.own (oi 0 1) (.slice .int) 0 l19_m7.length) (.own (oi 0 1) (.slice .int) 0 (((l19_m7.set l19_m10 x41).set l26_m12 x39).length)) (by kernel_rfl) (congrArg (fun z_=>((.own (oi 0 1) (.slice .int) 0 z_):AV)) ((Eq.trans (b:=l19_m7.length) rfl (by simp)):l19_m7.length=((l19_m7.set l19_m10 x41).set l26_m12 x39).length))).trans (Ac [(oi 1 1,oi 9000 24)]),⟨0,(l19_m7.set l19_m10 x41).set l26_m12 x39,rfl,rfl⟩⟩ ?_;rintro n_ _ _ c_ ⟨l49_m92,l49_m7,rfl,rfl⟩ h hn49
     (try dsimp only at h);unfold Dg at h;unfold J9;refine Ak ?_;refine Ab ?_;rcases Ad h with ⟨q52,h⟩ | ⟨q52,h⟩
     ·have q52_:=of_decide_eq_true q52;refine Af q52 ?_;refine Ai (tn_ ?_);refine wr_ ?_;refine Ab ?_;refine Al ?_;refine Ak ?_;obtain ⟨x55,e55,h⟩:=Ag h;obtain ⟨x56,e56,h⟩:=Ag h;obtain ⟨y57,h57,h⟩:=Ag h;refine A4 22 ?_;refine dz0 (.own (oi 0 1) (.slice .int) 0 l49_m7.length) ?_;refine dz0 (ai ((l19_m10:Nat):Int)) ?_;refine ds0 (.elt (oi 0 1) l19_m10 0) (zo (t:=.slice .int) (o:=oi 0 1) (len:=l49_m7.length) (k:=.i64) (m:=((l19_m10:Nat):Int)) (Ay _) (Au e55)) ?_;refine dsl (.own (kid (oi 1 1) l19_m10) .int 0 x55.length) (F0 (o:=oi 0 1) (p:=oi 1 1) (e1:=79) (u:=.int) (xss:=l49_m7) (row:=x55) (j:=l19_m10) (by kernel_rfl) (by kernel_rfl) e55) ?_;refine dz0 (ai ((l49_m92:Nat):Int)) ?_;refine dz0 (ai a0) ?_;refine dz0 (.own (oi 0 1) (.slice .int) 0 l49_m7.length) ?_;refine dz0 (ai ((l19_m10:Nat):Int)) ?_;refine ds0 (.elt (oi 0 1) l19_m10 0) (zo (t:=.slice .int) (o:=oi 0 1) (len:=l49_m7.length) (k:=.i64) (m:=((l19_m10:Nat):Int)) (Ay _) (Au e55)) ?_;refine dsl (.own (kid (oi 1 1) l19_m10) .int 0 x55.length) (F0 (o:=oi 0 1) (p:=oi 1 1) (e1:=79) (u:=.int) (xss:=l49_m7) (row:=x55) (j:=l19_m10) (by kernel_rfl) (by kernel_rfl) e55) ?_;refine dz0 (ai ((l49_m92:Nat):Int)) ?_;refine ds0 (.elt (kid (oi 1 1) l19_m10) l49_m92 0) (zo (t:=.int) (o:=kid (oi 1 1) l19_m10) (len:=x55.length) (k:=.i64) (m:=((l49_m92:Nat):Int)) (Ay _) (Au e56)) ?_;refine dsl (ai x56) (Dd (i:=kid (oi 1 1) l19_m10) (j:=l49_m92) (k:=0) (e:=3) (t:=.int) (xs:=x55) (by kernel_rfl) (Aft.trans (Bp (by kernel_rfl) e55)) e56 (by kernel_rfl)) ?_;refine dz0 (ai y46) ?_;refine D3 (ai y57) [] [ai a0,ai x56,ai y46] _ (caps:=[]) (args0:=[ai a0,ai x56,ai y46]) trivial (by kernel_rfl) (Rk h57) Rf ?_;refine ds0 (.elt (kid (oi 1 1) l19_m10) l49_m92 0) (zo (t:=.int) (o:=kid (oi 1 1) l19_m10) (len:=x55.length) (k:=.i64) (m:=((l49_m92:Nat):Int)) (Ay _) (Au e56)) ?_;refine Yw (kid (oi 1 1) l19_m10) (kid (oi 1 1) l19_m10) (.arr 3 .int (x55.set l49_m92 y57)) (Afo (i:=kid (oi 1 1) l19_m10) (j:=l49_m92) (k:=0) (e:=3) (t:=.int) (xs:=x55) (cs:=[ai y57]) (x1:=y57) (by kernel_rfl) (Aft.trans (Bp (by kernel_rfl) e55)) e56 (by kernel_rfl) (by kernel_rfl)) ?_;refine Amh (Agj (o:=oi 0 1) (p:=oi 1 1) (e1:=79) (e:=3) (u:=.int) (xss:=l49_m7) (k:=l19_m10) (row:=x55) (row':=x55.set l49_m92 y57) (by kernel_rfl) rfl (by kernel_rfl) e55 List.length_set) ?_;refine Gw (Bf (by kernel_rfl)) (bn_ (tn_ ?_));refine wr_ ?_;obtain ⟨g58,h⟩:=Av h;refine Aa 24 ?_;refine rs0 (ai ((l49_m92+1:Nat):Int)) (za g58) ?_;refine rsB 1 ?_;refine Ao (tn_ ?_);obtain rfl:=zj h;exact ⟨(l49_m92+1,l49_m7.set l19_m10 (x55.set l49_m92 y57)),_,(B1 7 (.own (oi 0 1) (.slice .int) 0 l49_m7.length) (.own (oi 0 1) (.slice .int) 0 ((l49_m7.set l19_m10 (x55.set l49_m92 y57)).length)) (by kernel_rfl) (congrArg (fun z_=>((.own (oi 0 1) (.slice .int) 0 z_):AV)) ((Eq.trans (b:=l49_m7.length) rfl List.length_set.symm):l49_m7.length=(l49_m7.set l19_m10 (x55.set l49_m92 y57)).length))).trans (Ac []),⟨l49_m92+1,l49_m7.set l19_m10 (x55.set l49_m92 y57),rfl,rfl⟩,hn49⟩
     have q52_:=of_decide_eq_false q52;refine Ae q52 ?_;refine Az (te_ (te_ (be_ (tn_ ?_))));obtain rfl:=zj h;have h:=hn49
     (try dsimp only at h);obtain rfl:=zj h;exact ⟨_,Ac [],rfl⟩
    rintro l47_m7 _ rfl h
    (try dsimp only at h);refine Ax h (fun (l59_m7:List (List Int)) S_=>S_=⟨An [(0,ai a0),(1,ai a1),(7,.own (oi 0 1) (.slice .int) 0 l59_m7.length),(10,ai ((l19_m10:Nat):Int)),(11,ai ((l19_m11:Nat):Int))],Aj (Ap [(oi 0 1,.mat 79 (oi 1 1) .int l59_m7),(oi 1 1,.pool 3 .int l59_m7)]),2⟩) ?_ ?_
    ·intro v_ h;refine Ak ?_;refine Al ?_;refine A6 h (fun t_ S_=>∃ (l61_m114:Nat),∃ (l61_m7:List (List Int)),t_=(l61_m114,l61_m7)∧S_=⟨An [(0,ai a0),(1,ai a1),(7,.own (oi 0 1) (.slice .int) 0 l61_m7.length),(10,ai ((l19_m10:Nat):Int)),(11,ai ((l19_m11:Nat):Int)),(113,ai ((l47_m7.length:Nat):Int)),(114,ai ((l61_m114:Nat):Int))],Aj (Ap [(oi 0 1,.mat 79 (oi 1 1) .int l61_m7),(oi 1 1,.pool 3 .int l61_m7)]),2⟩) ⟨_,Ac [],⟨0,l47_m7,rfl,rfl⟩⟩ ?_;rintro n_ _ _ c_ ⟨l61_m114,l61_m7,rfl,rfl⟩ h hn61
     (try dsimp only at h);unfold Dk at h;unfold Le;refine Ak ?_;refine Ab ?_;rcases Ad h with ⟨q64,h⟩ | ⟨q64,h⟩
     ·have q64_:=of_decide_eq_true q64;refine Af q64 ?_;refine Ai (tn_ ?_);refine wr_ ?_;refine Ax h (fun (l65_m7:List (List Int)) S_=>S_=⟨An [(0,ai a0),(1,ai a1),(7,.own (oi 0 1) (.slice .int) 0 l65_m7.length),(10,ai ((l19_m10:Nat):Int)),(11,ai ((l19_m11:Nat):Int)),(113,ai ((l47_m7.length:Nat):Int)),(114,ai ((l61_m114:Nat):Int))],Aj (Ap [(oi 0 1,.mat 79 (oi 1 1) .int l65_m7),(oi 1 1,.pool 3 .int l65_m7)]),2⟩) ?_ ?_
      ·intro v_ h;refine Al ?_;refine Ak ?_;refine Ab ?_;refine Ax h (fun (l68_m129:Bool) S_=>S_=⟨An [(0,ai a0),(1,ai a1),(7,.own (oi 0 1) (.slice .int) 0 l61_m7.length),(10,ai ((l19_m10:Nat):Int)),(11,ai ((l19_m11:Nat):Int)),(16,ai ((l61_m114:Nat):Int)),(113,ai ((l47_m7.length:Nat):Int)),(114,ai ((l61_m114:Nat):Int)),(129,.bool l68_m129)],Aj (Ap [(oi 0 1,.mat 79 (oi 1 1) .int l61_m7),(oi 1 1,.pool 3 .int l61_m7)]),2⟩) ?_ ?_
       ·intro v_ h;rcases Ad h with ⟨q69,h⟩ | ⟨q69,h⟩
        ·refine Aa 18 ?_;refine rz0 (ai ((l61_m114:Nat):Int)) ?_;refine rz0 (ai ((l19_m10:Nat):Int)) ?_;refine rz0 (.bool (((l61_m114:Nat):Int)==((l19_m10:Nat):Int))) ?_;refine rz0 (.bool (((l61_m114:Nat):Int)==((l19_m10:Nat):Int))) ?_;refine zs q69 ?_;refine zs q69 ?_;refine zs q69 ?_;refine zs q69 ?_;refine zs q69 ?_;refine zs q69 ?_;refine zs q69 ?_;refine zs q69 ?_;refine rs0 (.bool true) (zT q69) ?_;refine Ao (tn_ ?_);obtain rfl:=zj h;exact ⟨_,Ac [],rfl⟩
        obtain ⟨x70,e70,h⟩:=Ag h;obtain ⟨x71,e71,h⟩:=Ag h;refine Aa 18 ?_;refine rz0 (ai ((l61_m114:Nat):Int)) ?_;refine rz0 (ai ((l19_m10:Nat):Int)) ?_;refine rz0 (.bool (((l61_m114:Nat):Int)==((l19_m10:Nat):Int))) ?_;refine rz0 (.bool (((l61_m114:Nat):Int)==((l19_m10:Nat):Int))) ?_;refine rs0 (.own (oi 0 1) (.slice .int) 0 l61_m7.length) (zg q69) ?_;refine rs0 (ai ((l61_m114:Nat):Int)) (zg q69) ?_;refine rs0 (.elt (oi 0 1) l61_m114 0) (Fl (by kernel_rfl) q69 (zo (t:=.slice .int) (o:=oi 0 1) (len:=l61_m7.length) (k:=.i64) (m:=((l61_m114:Nat):Int)) (Ay _) (Au e70))) ?_;refine rsl (.own (kid (oi 1 1) l61_m114) .int 0 x70.length) (Fl (by kernel_rfl) q69 (F0 (o:=oi 0 1) (p:=oi 1 1) (e1:=79) (u:=.int) (xss:=l61_m7) (row:=x70) (j:=l61_m114) (by kernel_rfl) (by kernel_rfl) e70)) ?_;refine rs0 (ai ((l19_m11:Nat):Int)) (zg q69) ?_;refine rs0 (.elt (kid (oi 1 1) l61_m114) l19_m11 0) (Fl (by kernel_rfl) q69 (zo (t:=.int) (o:=kid (oi 1 1) l61_m114) (len:=x70.length) (k:=.i64) (m:=((l19_m11:Nat):Int)) (Ay _) (Au e71))) ?_;refine rsl (ai x71) (Fl (by kernel_rfl) q69 (Dd (i:=kid (oi 1 1) l61_m114) (j:=l19_m11) (k:=0) (e:=3) (t:=.int) (xs:=x70) (by kernel_rfl) (Bp (by kernel_rfl) e70) e71 (by kernel_rfl))) ?_;refine rs0 (.bool (x71==0)) (zg q69) ?_;refine rs0 (.bool (x71==0)) (zF q69) ?_;refine Ao (tn_ ?_);obtain rfl:=zj h;exact ⟨_,Ac [],rfl⟩
       rintro l68_m129 _ rfl h
       (try dsimp only at h);rcases Ad h with ⟨q72,h⟩ | ⟨q72,h⟩
       ·refine Af q72 ?_;refine Az (te_ (be_ (tn_ ?_)));obtain rfl:=zj h;exact ⟨_,Ac [],rfl⟩
       refine Ae q72 ?_;refine Ai (tn_ ?_);refine wr_ ?_;refine Ab ?_;obtain ⟨x74,e74,h⟩:=Ag h;obtain ⟨x75,e75,h⟩:=Ag h;refine Aa 10 ?_;refine rz0 (.own (oi 0 1) (.slice .int) 0 l61_m7.length) ?_;refine rz0 (ai ((l61_m114:Nat):Int)) ?_;refine rs0 (.elt (oi 0 1) l61_m114 0) (zo (t:=.slice .int) (o:=oi 0 1) (len:=l61_m7.length) (k:=.i64) (m:=((l61_m114:Nat):Int)) (Ay _) (Au e74)) ?_;refine rsl (.own (kid (oi 1 1) l61_m114) .int 0 x74.length) (F0 (o:=oi 0 1) (p:=oi 1 1) (e1:=79) (u:=.int) (xss:=l61_m7) (row:=x74) (j:=l61_m114) (by kernel_rfl) (by kernel_rfl) e74) ?_;refine rz0 (ai ((l19_m11:Nat):Int)) ?_;refine rs0 (.elt (kid (oi 1 1) l61_m114) l19_m11 0) (zo (t:=.int) (o:=kid (oi 1 1) l61_m114) (len:=x74.length) (k:=.i64) (m:=((l19_m11:Nat):Int)) (Ay _) (Au e75)) ?_;refine rsl (ai x75) (Dd (i:=kid (oi 1 1) l61_m114) (j:=l19_m11) (k:=0) (e:=3) (t:=.int) (xs:=x74) (by kernel_rfl) (Bp (by kernel_rfl) e74) e75 (by kernel_rfl)) ?_;refine rsB 1 ?_;refine Ao (tn_ ?_);refine wr_ ?_;refine Ab ?_;refine Aa 16 ?_;refine rz0 (.own (oi 0 1) (.slice .int) 0 l61_m7.length) ?_;refine rz0 (ai ((l61_m114:Nat):Int)) ?_;refine rs0 (.elt (oi 0 1) l61_m114 0) (zo (t:=.slice .int) (o:=oi 0 1) (len:=l61_m7.length) (k:=.i64) (m:=((l61_m114:Nat):Int)) (Ay _) (Au e74)) ?_;refine rsl (.own (kid (oi 1 1) l61_m114) .int 0 x74.length) (F0 (o:=oi 0 1) (p:=oi 1 1) (e1:=79) (u:=.int) (xss:=l61_m7) (row:=x74) (j:=l61_m114) (by kernel_rfl) (by kernel_rfl) e74) ?_;refine rsB 2 ?_;refine Ao (tn_ ?_);refine wr_ ?_;refine Al ?_;refine A6 h (fun t_ S_=>∃ (l77_m142:Nat),∃ (l77_m7:List (List Int)),t_=(l77_m142,l77_m7)∧S_=⟨An [(0,ai a0),(1,ai a1),(7,.own (oi 0 1) (.slice .int) 0 l77_m7.length),(10,ai ((l19_m10:Nat):Int)),(11,ai ((l19_m11:Nat):Int)),(16,ai ((l61_m114:Nat):Int)),(17,ai x75),(113,ai ((l47_m7.length:Nat):Int)),(114,ai ((l61_m114:Nat):Int)),(141,ai ((x74.length:Nat):Int)),(142,ai ((l77_m142:Nat):Int))],Aj (Ap [(oi 0 1,.mat 79 (oi 1 1) .int l77_m7),(oi 1 1,.pool 3 .int l77_m7)]),2⟩) ⟨_,Ac [],⟨0,l61_m7,rfl,rfl⟩⟩ ?_;rintro n_ _ _ c_ ⟨l77_m142,l77_m7,rfl,rfl⟩ h hn77
       (try dsimp only at h);unfold Di at h;unfold Kh;refine Ak ?_;refine Ab ?_;rcases Ad h with ⟨q80,h⟩ | ⟨q80,h⟩
       ·have q80_:=of_decide_eq_true q80;refine Af q80 ?_;refine Ai (tn_ ?_);refine wr_ ?_;refine Ab ?_;refine Al ?_;refine Ak ?_;obtain ⟨x83,e83,h⟩:=Ag h;obtain ⟨x84,e84,h⟩:=Ag h;obtain ⟨x85,e85,h⟩:=Ag h;obtain ⟨x86,e86,h⟩:=Ag h;obtain ⟨y87,h87,h⟩:=Ag h;obtain ⟨y88,h88,h⟩:=Ag h;refine A4 31 ?_;refine dz0 (.own (oi 0 1) (.slice .int) 0 l77_m7.length) ?_;refine dz0 (ai ((l61_m114:Nat):Int)) ?_;refine ds0 (.elt (oi 0 1) l61_m114 0) (zo (t:=.slice .int) (o:=oi 0 1) (len:=l77_m7.length) (k:=.i64) (m:=((l61_m114:Nat):Int)) (Ay _) (Au e83)) ?_;refine dsl (.own (kid (oi 1 1) l61_m114) .int 0 x83.length) (F0 (o:=oi 0 1) (p:=oi 1 1) (e1:=79) (u:=.int) (xss:=l77_m7) (row:=x83) (j:=l61_m114) (by kernel_rfl) (by kernel_rfl) e83) ?_;refine dz0 (ai ((l77_m142:Nat):Int)) ?_;refine dz0 (ai a0) ?_;refine dz0 (.own (oi 0 1) (.slice .int) 0 l77_m7.length) ?_;refine dz0 (ai ((l61_m114:Nat):Int)) ?_;refine ds0 (.elt (oi 0 1) l61_m114 0) (zo (t:=.slice .int) (o:=oi 0 1) (len:=l77_m7.length) (k:=.i64) (m:=((l61_m114:Nat):Int)) (Ay _) (Au e83)) ?_;refine dsl (.own (kid (oi 1 1) l61_m114) .int 0 x83.length) (F0 (o:=oi 0 1) (p:=oi 1 1) (e1:=79) (u:=.int) (xss:=l77_m7) (row:=x83) (j:=l61_m114) (by kernel_rfl) (by kernel_rfl) e83) ?_;refine dz0 (ai ((l77_m142:Nat):Int)) ?_;refine ds0 (.elt (kid (oi 1 1) l61_m114) l77_m142 0) (zo (t:=.int) (o:=kid (oi 1 1) l61_m114) (len:=x83.length) (k:=.i64) (m:=((l77_m142:Nat):Int)) (Ay _) (Au e84)) ?_;refine dsl (ai x84) (Dd (i:=kid (oi 1 1) l61_m114) (j:=l77_m142) (k:=0) (e:=3) (t:=.int) (xs:=x83) (by kernel_rfl) (Aft.trans (Bp (by kernel_rfl) e83)) e84 (by kernel_rfl)) ?_;refine dz0 (ai a0) ?_;refine dz0 (ai x75) ?_;refine dz0 (.own (oi 0 1) (.slice .int) 0 l77_m7.length) ?_;refine dz0 (ai ((l19_m10:Nat):Int)) ?_;refine ds0 (.elt (oi 0 1) l19_m10 0) (zo (t:=.slice .int) (o:=oi 0 1) (len:=l77_m7.length) (k:=.i64) (m:=((l19_m10:Nat):Int)) (Ay _) (Au e85)) ?_;refine dsl (.own (kid (oi 1 1) l19_m10) .int 0 x85.length) (F0 (o:=oi 0 1) (p:=oi 1 1) (e1:=79) (u:=.int) (xss:=l77_m7) (row:=x85) (j:=l19_m10) (by kernel_rfl) (by kernel_rfl) e85) ?_;refine dz0 (ai ((l77_m142:Nat):Int)) ?_;refine ds0 (.elt (kid (oi 1 1) l19_m10) l77_m142 0) (zo (t:=.int) (o:=kid (oi 1 1) l19_m10) (len:=x85.length) (k:=.i64) (m:=((l77_m142:Nat):Int)) (Ay _) (Au e86)) ?_;refine dsl (ai x86) (Dd (i:=kid (oi 1 1) l19_m10) (j:=l77_m142) (k:=0) (e:=3) (t:=.int) (xs:=x85) (by kernel_rfl) (Aft.trans (Bp (by kernel_rfl) e85)) e86 (by kernel_rfl)) ?_;refine D3 (ai y87) [] [ai a0,ai x75,ai x86] _ (caps:=[]) (args0:=[ai a0,ai x75,ai x86]) trivial (by kernel_rfl) (Rk h87) Rf ?_;refine D3 (ai y88) [] [ai a0,ai x84,ai y87] _ (caps:=[]) (args0:=[ai a0,ai x84,ai y87]) trivial (by kernel_rfl) (Aco h88) Adt ?_;refine ds0 (.elt (kid (oi 1 1) l61_m114) l77_m142 0) (zo (t:=.int) (o:=kid (oi 1 1) l61_m114) (len:=x83.length) (k:=.i64) (m:=((l77_m142:Nat):Int)) (Ay _) (Au e84)) ?_;refine Yw (kid (oi 1 1) l61_m114) (kid (oi 1 1) l61_m114) (.arr 3 .int (x83.set l77_m142 y88)) (Afo (i:=kid (oi 1 1) l61_m114) (j:=l77_m142) (k:=0) (e:=3) (t:=.int) (xs:=x83) (cs:=[ai y88]) (x1:=y88) (by kernel_rfl) (Aft.trans (Bp (by kernel_rfl) e83)) e84 (by kernel_rfl) (by kernel_rfl)) ?_;refine Amh (Agj (o:=oi 0 1) (p:=oi 1 1) (e1:=79) (e:=3) (u:=.int) (xss:=l77_m7) (k:=l61_m114) (row:=x83) (row':=x83.set l77_m142 y88) (by kernel_rfl) rfl (by kernel_rfl) e83 List.length_set) ?_;refine Gw (Bf (by kernel_rfl)) (bn_ (tn_ ?_));refine wr_ ?_;obtain ⟨g89,h⟩:=Av h;refine Aa 33 ?_;refine rs0 (ai ((l77_m142+1:Nat):Int)) (za g89) ?_;refine rsB 1 ?_;refine Ao (tn_ ?_);obtain rfl:=zj h;exact ⟨(l77_m142+1,l77_m7.set l61_m114 (x83.set l77_m142 y88)),_,(B1 7 (.own (oi 0 1) (.slice .int) 0 l77_m7.length) (.own (oi 0 1) (.slice .int) 0 ((l77_m7.set l61_m114 (x83.set l77_m142 y88)).length)) (by kernel_rfl) (congrArg (fun z_=>((.own (oi 0 1) (.slice .int) 0 z_):AV)) ((Eq.trans (b:=l77_m7.length) rfl List.length_set.symm):l77_m7.length=(l77_m7.set l61_m114 (x83.set l77_m142 y88)).length))).trans (Ac []),⟨l77_m142+1,l77_m7.set l61_m114 (x83.set l77_m142 y88),rfl,rfl⟩,hn77⟩
       have q80_:=of_decide_eq_false q80;refine Ae q80 ?_;refine Az (te_ (te_ (be_ (bn_ (tn_ ?_)))));obtain rfl:=zj h;have h:=hn77
       (try dsimp only at h);obtain rfl:=zj h;exact ⟨_,Ac [],rfl⟩
      rintro l65_m7 _ rfl h
      (try dsimp only at h);obtain ⟨g90,h⟩:=Av h;refine Aa 4 ?_;refine rs0 (ai ((l61_m114+1:Nat):Int)) (za g90) ?_;refine rsB 1 ?_;refine Ao (tn_ ?_);obtain rfl:=zj h;exact ⟨(l61_m114+1,l65_m7),_,Ac [],⟨l61_m114+1,l65_m7,rfl,rfl⟩,hn61⟩
     have q64_:=of_decide_eq_false q64;refine Ae q64 ?_;refine Az (te_ (te_ (be_ (tn_ ?_))));obtain rfl:=zj h;have h:=hn61
     (try dsimp only at h);obtain rfl:=zj h;exact ⟨_,Ac [],rfl⟩
    rintro l59_m7 _ rfl h
    (try dsimp only at h);obtain ⟨g91,h⟩:=Av h;refine Aa 5 ?_;refine rz0 (ai ((l19_m10:Nat):Int)) ?_;refine rs0 (ai ((l19_m10+1:Nat):Int)) (za g91) ?_;refine rsB 1 ?_;refine Ao (bn_ (tn_ ?_));obtain rfl:=zj h;exact ⟨_,Ac [],⟨l19_m10+1,l59_m7,rfl,rfl⟩⟩
   rintro _ _ ⟨l24_m10,l24_m7,rfl,rfl⟩ h
   (try dsimp only at h);obtain ⟨g92,h⟩:=Av h;refine Aa 5 ?_;refine rz0 (ai ((l19_m11:Nat):Int)) ?_;refine rs0 (ai ((l19_m11+1:Nat):Int)) (za g92) ?_;refine rsB 1 ?_;refine Ao (tn_ ?_);obtain rfl:=zj h;exact ⟨(l24_m10,l19_m11+1,l24_m7),_,Ac [],⟨l24_m10,l19_m11+1,l24_m7,rfl,rfl⟩,hn19⟩
  refine Ae q23 ?_;refine Az (te_ (te_ (be_ (tn_ ?_))));obtain rfl:=zj h;have h:=hn19
  (try dsimp only at h);obtain rfl:=zj h;exact ⟨_,Ac [],⟨l19_m10,l19_m7,rfl,rfl⟩⟩
 rintro _ _ ⟨l17_m10,l17_m7,rfl,rfl⟩ h
 (try dsimp only at h);refine Ab ?_;obtain ⟨g94,h⟩:=Av h;refine Aa 6 ?_;refine rz0 (.own (oi 0 1) (.slice .int) 0 l17_m7.length) ?_;refine rz0 (ai ((l17_m10:Nat):Int)) ?_;refine rs0 (.own (oi 0 1) (.slice .int) 0 l17_m10) (Ajf (t:=.slice .int) (i:=oi 0 1) (off:=0) (len:=l17_m7.length) (l:=0) (h:=((l17_m10:Nat):Int)) (by kernel_rfl) (by kernel_rfl) (by kernel_rfl) rfl g94 rfl (by omega)) ?_;refine rsB 1 ?_;refine Ao (tn_ ?_);refine wr_ ?_;refine Ah ?_;obtain rfl:=zj h;exact Mq [.own (oi 0 1) (.slice .int) 0 ((l17_m7.take l17_m10).length)] ((Akh (e1:=79) (e:=3) (u:=.int) (xss:=l17_m7) (n:=l17_m7.length) (k:=l17_m10) 9000 (oi 0 1) (oi 1 1) (by kernel_rfl) (by kernel_rfl) rfl (by kernel_rfl) (by omega) (by kernel_rfl) (by kernel_rfl) (by kernel_rfl)).trans ((B1 6 (.own (oi 0 1) (.slice .int) 0 l17_m10) (.own (oi 0 1) (.slice .int) 0 ((l17_m7.take l17_m10).length)) (by kernel_rfl) (congrArg (fun z_=>((.own (oi 0 1) (.slice .int) 0 z_):AV)) ((Al4 (by omega)):l17_m10=(l17_m7.take l17_m10).length))).trans (Ac (tl:=[(6,.own (oi 0 1) (.slice .int) 0 (l17_m7.take l17_m10).length)]) (g:=2) [(oi 1 1,oi 9000 6)])))
def Oa:AC :=
 (.seq (.seq (rg [xo 10 (qm (tm 2)),xo 11 (qb .gtr (tm 10) (ci 0))])
 (.cond (tm 11)
  .skip
  (.exit 0)))
 (.seq (.block 1 (.seq (.seq (rg [xo 14 (qm (tm 2)),xo 15 (qb .rem (tm 14) (ci 2)),xo 16 (qb .eql (tm 15) (ci 1))])
 (.cond (tm 16)
  (rg [xo 17 (qm (tm 7)),xo 18 (qm (tm 1)),xo 19 (qb .mul (tm 17) (tm 18)),xo 20 (qm (tm 0)),xo 21 (qb .rem (tm 19) (tm 20)),xo 7 (qm (tm 21))])
  .skip))
 (rg [xo 22 (qm (tm 1)),xo 23 (qm (tm 1)),xo 24 (qb .mul (tm 22) (tm 23)),xo 25 (qm (tm 0)),xo 26 (qb .rem (tm 24) (tm 25)),xo 1 (qm (tm 26))])))
 (rg [xo 12 (qm (tm 2)),xo 13 (qb .quo (tm 12) (ci 2)),xo 2 (qm (tm 13))])))
def U6:AC :=
 (.seq (rg [xo 6 (qm (ci 0))])
 (.seq (rg [xo 8 (qm (tm 0)),xo 9 (qb .rem (ci 1) (tm 8)),xo 7 (qm (tm 9))])
 (.seq (.block 0 (.loop Oa))
 (.seq (rg [xo 27 (qm (tm 7)),xo 6 (qm (tm 27))])
 .ret))))
def Age:List Res:=[.tmp 6]
theorem Ago:Am Tryd.prog Tryd.f101=some (U6,Age):=by kernel_rfl
def N6 (a0:Int) (l5_m1:Int) (l5_m2:Int) (l5_m7:Int):Option (Ctl (Int×Int×Int) Int) :=
 cond (decide (0<l5_m2))
 (Option.bind (cond ((Int.tmod l5_m2 2)==1)
   (og (a0≠0) <|
   some (Int.tmod (wI (l5_m7*l5_m1)) a0))
   (some l5_m7)) fun l10_m7 =>
 og (a0≠0) <|
 some (Ctl.next (Int.tmod (wI (l5_m1*l5_m1)) a0,wI (Int.tdiv l5_m2 2),l10_m7)))
 (some (Ctl.out l5_m7))
def Nk (a0:Int) (a1:Int) (a2:Int):Option Int :=
 og (a0≠0) <|
Option.bind (A7 (fun s_:Int×Int×Int=>N6 a0 s_.1 s_.2.1 s_.2.2) 4611686018427387904 (a1,a2,Int.tmod 1 a0)) fun l4_m7 =>
some l4_m7
def Aex (r:Int):RV:=⟨false,[(false,[.sc (.int .i64 r)])]⟩
theorem Ad3 {a0:Int} {a1:Int} {a2:Int} {r:Int} (h:Nk a0 a1 a2=some r):Aw Tryd.prog Tab 101 [ai a0,ai a1,ai a2] (Aex r):=by
 refine At (by kernel_rfl) Tryd.func101 Ago (n:=28) (by kernel_rfl) (by simp) (tl:=[(0,ai a0),(1,ai a1),(2,ai a2)]) rfl ?_;unfold U6;unfold Nk at h;refine Ak ?_;refine Ab ?_;obtain ⟨g3,h⟩:=Av h;refine Aa 5 ?_;refine rz0 (ai a0) ?_;refine rs0 (ai (Int.tmod 1 a0)) (Rn (k:=.i64) (a:=1) (b:=a0) (by kernel_rfl) (by kernel_rfl) g3) ?_;refine rsB 1 ?_;refine Ao (tn_ ?_);refine wr_ ?_;refine Ax h (fun (l4_m7:Int) S_=>S_=⟨An [(7,ai l4_m7)],Aj (Ap []),2⟩) ?_ ?_
 ·intro v_ h;refine Al ?_;refine A6 h (fun t_ S_=>∃ (l5_m1:Int),∃ (l5_m2:Int),∃ (l5_m7:Int),t_=(l5_m1,l5_m2,l5_m7)∧S_=⟨An [(0,ai a0),(1,ai l5_m1),(2,ai l5_m2),(7,ai l5_m7)],Aj (Ap []),2⟩) ⟨_,Ac [],⟨a1,a2,Int.tmod 1 a0,rfl,rfl⟩⟩ ?_;rintro n_ _ _ c_ ⟨l5_m1,l5_m2,l5_m7,rfl,rfl⟩ h hn5
  (try dsimp only at h);unfold N6 at h;unfold Oa;refine Ab ?_;refine Ak ?_;rcases Ad h with ⟨q8,h⟩ | ⟨q8,h⟩
  ·have q8_:=of_decide_eq_true q8;refine Af q8 ?_;refine Ai (tn_ ?_);refine wr_ ?_;refine Ab ?_;refine Al ?_;refine Ax h (fun (l10_m7:Int) S_=>S_=⟨An [(0,ai a0),(1,ai l5_m1),(2,ai l5_m2),(7,ai l10_m7)],Aj (Ap []),2⟩) ?_ ?_
   ·intro v_ h;refine Ab ?_;refine Aa 7 ?_;refine rz0 (ai l5_m2) ?_;refine rs0 (ai (Int.tmod l5_m2 2)) (Rn (k:=.i64) (a:=l5_m2) (b:=2) (by kernel_rfl) (by kernel_rfl) (by decide)) ?_;refine rsB 1 ?_;refine Ao (tn_ ?_);refine wr_ ?_;rcases Ad h with ⟨q12,h⟩ | ⟨q12,h⟩
    ·refine Af q12 ?_;obtain ⟨g13,h⟩:=Av h;refine Aa 13 ?_;refine rz0 (ai l5_m7) ?_;refine rz0 (ai l5_m1) ?_;refine rz0 (ai (wI (l5_m7*l5_m1))) ?_;refine rz0 (ai a0) ?_;refine rs0 (ai (Int.tmod (wI (l5_m7*l5_m1)) a0)) (Rn (k:=.i64) (a:=wI (l5_m7*l5_m1)) (b:=a0) (by kernel_rfl) (by kernel_rfl) g13) ?_;refine rsB 1 ?_;refine Ao (tn_ ?_);obtain rfl:=zj h;exact ⟨_,Ac [],rfl⟩
    refine Ae q12 ?_;refine Ai (tn_ ?_);obtain rfl:=zj h;exact ⟨_,Ac [],rfl⟩
   rintro l10_m7 _ rfl h
   (try dsimp only at h);obtain ⟨g14,h⟩:=Av h;refine Aa 8 ?_;refine rz0 (ai l5_m1) ?_;refine rz0 (ai l5_m1) ?_;refine rz0 (ai (wI (l5_m1*l5_m1))) ?_;refine rz0 (ai a0) ?_;refine rs0 (ai (Int.tmod (wI (l5_m1*l5_m1)) a0)) (Rn (k:=.i64) (a:=wI (l5_m1*l5_m1)) (b:=a0) (by kernel_rfl) (by kernel_rfl) g14) ?_;refine rsB 1 ?_;refine Ao (bn_ (tn_ ?_));refine wr_ ?_;refine Aa 11 ?_;refine rz0 (ai l5_m2) ?_;refine rs0 (ai (wI (Int.tdiv l5_m2 2))) (Auy (k:=.i64) (a:=l5_m2) (b:=2) (by kernel_rfl) (by kernel_rfl) (by decide)) ?_;refine rsB 1 ?_;refine Ao (tn_ ?_);obtain rfl:=zj h;exact ⟨(Int.tmod (wI (l5_m1*l5_m1)) a0,wI (Int.tdiv l5_m2 2),l10_m7),_,Ac [],⟨Int.tmod (wI (l5_m1*l5_m1)) a0,wI (Int.tdiv l5_m2 2),l10_m7,rfl,rfl⟩,hn5⟩
  have q8_:=of_decide_eq_false q8;refine Ae q8 ?_;refine Az (te_ (te_ (be_ (tn_ ?_))));obtain rfl:=zj h;have h:=hn5
  (try dsimp only at h);obtain rfl:=zj h;exact ⟨_,Ac [],rfl⟩
 rintro l4_m7 _ rfl h
 (try dsimp only at h);refine Ak ?_;refine Ah ?_;obtain rfl:=zj h;exact A3 [ai l4_m7] (Aq rfl zl Ar)
def Zh:AC :=
 (.seq (rg [xo 2 (qm (ci 0))])
 (.seq (.seq (rg [xo 3 (qm (tm 0))])
 (.cond (tm 3)
  (.seq (rg [xo 2 (qm (ci 1))])
  .ret)
  .skip))
 (.seq (rg [xo 2 (qm (ci 0))])
 .ret)))
def Aln:List Res:=[.tmp 2]
theorem Alh:Am Tryd.prog Tryd.f102=some (Zh,Aln):=by kernel_rfl
def Tc (a0:Bool):Option Int :=
 cond a0
 (some 1)
 (some 0)
def Ah8 (r:Int):RV:=⟨false,[(false,[.sc (.int .i64 r)])]⟩
theorem Ai6 {a0:Bool} {r:Int} (h:Tc a0=some r):Aw Tryd.prog Tab 102 [.bool a0] (Ah8 r):=by
 refine At (by kernel_rfl) Tryd.func102 Alh (n:=4) (by kernel_rfl) (by simp) (tl:=[(0,.bool a0)]) rfl ?_;unfold Zh;unfold Tc at h;refine Ak ?_;refine Ab ?_;refine Ak ?_;rcases Ad h with ⟨q4,h⟩ | ⟨q4,h⟩
 ·refine Af q4 ?_;refine Ak ?_;refine Ah (tr_ ?_);obtain rfl:=zj h;exact A3 [ai 1] (Aq rfl zl Ar)
 refine Ae q4 ?_;refine Ai (tn_ ?_);refine wr_ ?_;refine Ak ?_;refine Ah ?_;obtain rfl:=zj h;exact A3 [ai 0] (Aq rfl zl Ar)
def Pt:AC :=
 (.seq (rg [xo 4 (qm (ci 0))])
 (.seq (rg [xo 5 (qm (tm 0)),xo 6 (qm (tm 1)),xo 7 (qm (tm 0)),xo 8 (qb .sub (tm 7) (ci 2)),xo 9 (qm (tm 0)),xo 10 (qb .eql (tm 9) (ci 2)),xo 11 (qc 102 [tm 10] [[]]),xo 12 (qb .add (tm 8) (tm 11)),xo 13 (qc 101 [tm 5,tm 6,tm 12] [[],[],[]]),xo 4 (qm (tm 13))])
 .ret))
def Aav:List Res:=[.tmp 4]
theorem Zn:Am Tryd.prog Tryd.f99=some (Pt,Aav):=by kernel_rfl
def F4 (a0:Int) (a1:Int):Option Int :=
 Option.bind (Tc (a0==2)) fun y3 =>
Option.bind (Nk a0 a1 (wI (wI (a0 - 2)+y3))) fun y4 =>
some y4
def X3 (r:Int):RV:=⟨false,[(false,[.sc (.int .i64 r)])]⟩
theorem X6 {a0:Int} {a1:Int} {r:Int} (h:F4 a0 a1=some r):Aw Tryd.prog Tab 99 [ai a0,ai a1] (X3 r):=by
 refine At (by kernel_rfl) Tryd.func99 Zn (n:=14) (by kernel_rfl) (by simp) (tl:=[(0,ai a0),(1,ai a1)]) rfl ?_;unfold Pt;unfold F4 at h;refine Ak ?_;refine Ab ?_;obtain ⟨y3,h3,h⟩:=Ag h;obtain ⟨y4,h4,h⟩:=Ag h;refine Aa 12 ?_;refine rz0 (ai a0) ?_;refine rz0 (ai a1) ?_;refine rz0 (ai a0) ?_;refine rz0 (ai (wI (a0 - 2))) ?_;refine rz0 (ai a0) ?_;refine rz0 (.bool (a0==2)) ?_;refine zc (ai y3) [] [.bool (a0==2)] (Ai6 h3) ?_;refine rz0 (ai (wI (wI (a0 - 2)+y3))) ?_;refine zc (ai y4) [] [ai a0,ai a1,ai (wI (wI (a0 - 2)+y3))] (Ad3 h4) ?_;refine rsB 1 ?_;refine Ao (tn_ ?_);refine wr_ ?_;refine Ah ?_;obtain rfl:=zj h;exact A3 [ai y4] (Aq rfl zl Ar)
def K5:AC :=
 (.seq (rg [xo 13 (qb .lss (tm 12) (tm 11))])
 (.seq (.cond (tm 13)
  .skip
  (.exit 0))
 (.seq (.block 1 (.seq (rg [xo 14 (qm (tm 12)),xo 15 (qx 1 (tm 10) (tm 12)),xo 16 (ql (tm 15)),xo 8 (qm (tm 14)),xo 9 (qm (tm 16))])
 (rg [xo 17 (qm (tm 1)),xo 18 (qm (tm 8)),xo 19 (qm (tm 0)),xo 20 (qm (tm 1)),xo 21 (qm (tm 8)),xo 22 (qx 1 (tm 20) (tm 21)),xo 23 (ql (tm 22)),xo 24 (qm (tm 2)),xo 25 (qm (tm 9)),xo 26 (qb .mul (tm 24) (tm 25)),xo 27 (qb .add (tm 23) (tm 26)),xo 28 (qc 103 [tm 19,tm 27] [[],[]]),xo 29 (qx 1 (tm 17) (tm 18)),xn (qs (tm 29) (tm 28))])))
 (rg [xo 30 (qb .add (tm 12) (ci 1)),xo 12 (qm (tm 30))]))))
def N8:AC :=
 (.seq (rg [xo 10 (qm (tm 3)),xo 11 (.i (.len (tm 10))),xo 12 (qm (ci 0))])
 (.block 0 (.loop K5)))
def Xq:List Res:=[]
theorem Xs:Am Tryd.prog Tryd.f100=some (N8,Xq):=by kernel_rfl
theorem Wi:A8 Tryd.prog 100=true:=by kernel_rfl
def Fg (a3:List Int) (a0:Int) (a2:Int) (l3_m12:Nat) (l3_m1:List Int):Option (Ctl (Nat×List Int) (List Int)) :=
 cond (decide (((l3_m12:Nat):Int)<((a3.length:Nat):Int)))
 (Option.bind (a3[l3_m12]?) fun x9 =>
 Option.bind (l3_m1[l3_m12]?) fun x10 =>
 Option.bind (Km a0 (wI (x10+wI (a2*x9)))) fun y11 =>
 og (l3_m12+1<4611686018427387904) <|
 some (Ctl.next (l3_m12+1,l3_m1.set l3_m12 y11)))
 (some (Ctl.out l3_m1))
def Fr (a0:Int) (a1:List Int) (a2:Int) (a3:List Int):Option (List Int) :=
 A7 (fun s_:Nat×List Int=>Fg a3 a0 a2 s_.1 s_.2) 4611686018427387904 (0,a1)
theorem Wz {a0:Int} {a1:List Int} {a2:Int} {a3:List Int} {r:List Int} (h:Fr a0 a1 a2 a3=some r) {n_a1:Nat} (hn_a1:n_a1=a1.length):Id Tryd.prog Tab 100 [ai a0,.own (oi 0 0) .int 0 n_a1,ai a2,.tree .int a3] [(oi 0 0,.arr 3 .int a1)] (.tup []) [(oi 0 0,.arr 3 .int r)]:=by
 refine Gv (by kernel_rfl) Tryd.func100 Xs (n:=31) (by kernel_rfl) (by simp) (tl:=[(0,ai a0),(1,.own (oi 0 0) .int 0 n_a1),(2,ai a2),(3,.tree .int a3)]) rfl (by kernel_rfl) ⟨trivial,trivial⟩ ⟨trivial,trivial⟩ ?_;unfold N8;unfold Fr at h;refine Ak ?_;refine Al ?_;refine A6 h (fun t_ S_=>∃ (l3_m12:Nat),∃ (l3_m1:List Int),t_=(l3_m12,l3_m1)∧S_=⟨An [(0,ai a0),(1,.own (oi 0 0) .int 0 l3_m1.length),(2,ai a2),(10,.tree .int a3),(11,ai ((a3.length:Nat):Int)),(12,ai ((l3_m12:Nat):Int))],Aj (Ap [(oi 0 0,.arr 3 .int l3_m1)]),2⟩) ⟨_,(B1 1 (.own (oi 0 0) .int 0 n_a1) (.own (oi 0 0) .int 0 a1.length) (by kernel_rfl) (congrArg (fun z_=>((.own (oi 0 0) .int 0 z_):AV)) (hn_a1:n_a1=a1.length))).trans (Ac []),⟨0,a1,rfl,rfl⟩⟩ ?_;rintro n_ _ _ c_ ⟨l3_m12,l3_m1,rfl,rfl⟩ h hn3
 (try dsimp only at h);unfold Fg at h;unfold K5;refine Ak ?_;refine Ab ?_;rcases Ad h with ⟨q6,h⟩ | ⟨q6,h⟩
 ·have q6_:=of_decide_eq_true q6;refine Af q6 ?_;refine Ai (tn_ ?_);refine wr_ ?_;refine Ab ?_;refine Al ?_;refine Ab ?_;obtain ⟨x9,e9,h⟩:=Ag h;refine Aa 8 ?_;refine rz0 (ai ((l3_m12:Nat):Int)) ?_;refine rs0 (.telt none .int x9 0) (zi (t:=.int) (xs:=a3) (k:=.i64) (m:=((l3_m12:Nat):Int)) (Ay _) e9) ?_;refine rsB 3 ?_;refine Ao (tn_ ?_);refine wr_ ?_;obtain ⟨x10,e10,h⟩:=Ag h;obtain ⟨y11,h11,h⟩:=Ag h;refine Aa 22 ?_;refine rz0 (.own (oi 0 0) .int 0 l3_m1.length) ?_;refine rz0 (ai ((l3_m12:Nat):Int)) ?_;refine rz0 (ai a0) ?_;refine rz0 (.own (oi 0 0) .int 0 l3_m1.length) ?_;refine rz0 (ai ((l3_m12:Nat):Int)) ?_;refine rs0 (.elt (oi 0 0) l3_m12 0) (zo (t:=.int) (o:=oi 0 0) (len:=l3_m1.length) (k:=.i64) (m:=((l3_m12:Nat):Int)) (Ay _) (Au e10)) ?_;refine rsl (ai x10) (Dd (i:=oi 0 0) (j:=l3_m12) (k:=0) (e:=3) (t:=.int) (xs:=l3_m1) (by kernel_rfl) (by kernel_rfl) e10 (by kernel_rfl)) ?_;refine rz0 (ai a2) ?_;refine rz0 (ai x9) ?_;refine rz0 (ai (wI (a2*x9))) ?_;refine rz0 (ai (wI (x10+wI (a2*x9)))) ?_;refine zc (ai y11) [] [ai a0,ai (wI (x10+wI (a2*x9)))] (Ajz h11) ?_;refine rs0 (.elt (oi 0 0) l3_m12 0) (zo (t:=.int) (o:=oi 0 0) (len:=l3_m1.length) (k:=.i64) (m:=((l3_m12:Nat):Int)) (Ay _) (Au e10)) ?_;refine Ahf (oi 0 0) (oi 0 0) (.arr 3 .int (l3_m1.set l3_m12 y11)) (Afo (i:=oi 0 0) (j:=l3_m12) (k:=0) (e:=3) (t:=.int) (xs:=l3_m1) (cs:=[ai y11]) (x1:=y11) (by kernel_rfl) (by kernel_rfl) e10 (by kernel_rfl) (by kernel_rfl)) ?_;refine Ao (bn_ (tn_ ?_));refine wr_ ?_;obtain ⟨g12,h⟩:=Av h;refine Aa 24 ?_;refine rs0 (ai ((l3_m12+1:Nat):Int)) (za g12) ?_;refine rsB 1 ?_;refine Ao (tn_ ?_);obtain rfl:=zj h;exact ⟨(l3_m12+1,l3_m1.set l3_m12 y11),_,(B1 1 (.own (oi 0 0) .int 0 l3_m1.length) (.own (oi 0 0) .int 0 ((l3_m1.set l3_m12 y11).length)) (by kernel_rfl) (congrArg (fun z_=>((.own (oi 0 0) .int 0 z_):AV)) (((rfl:l3_m1.length=l3_m1.length).trans List.length_set.symm):l3_m1.length=(l3_m1.set l3_m12 y11).length))).trans (Ac []),⟨l3_m12+1,l3_m1.set l3_m12 y11,rfl,rfl⟩,hn3⟩
 have q6_:=of_decide_eq_false q6;refine Ae q6 ?_;refine Az (te_ (te_ (be_ ?_)));obtain rfl:=zj h;have h:=hn3
 (try dsimp only at h);obtain rfl:=zj h;exact Mq [] (Ac (tl:=[]) (g:=2) [])
def M2:AC :=
 (.seq (rg [xo 12 (qb .lss (tm 11) (tm 10))])
 (.seq (.cond (tm 12)
  .skip
  (.exit 0))
 (.seq (.block 1 (.seq (rg [xo 13 (qx 1 (tm 9) (tm 11)),xo 14 (ql (tm 13)),xo 5 (qm (tm 14))])
 (rg [xo 15 (qm (tm 3)),xo 16 (qm (tm 5)),xo 17 (qc 96 [tm 16] [[some .int]]),xo 18 (.mkV 79 (.slice .int) 1 [tm 17]),xo 19 (.appV 79 (.slice .int) 24 (tm 15) (tm 18)),xo 3 (qm (tm 19))])))
 (rg [xo 20 (qb .add (tm 11) (ci 1)),xo 11 (qm (tm 20))]))))
def Rv:AC :=
 (.seq (rg [xo 2 (qm (.cst .nils))])
 (.seq (rg [xo 6 (qm (tm 0)),xo 7 (.i (.len (tm 6))),xo 8 (.makeV 79 (.slice .int) 24 [.nils] (ci 0) (tm 7)),xo 3 (qm (tm 8))])
 (.seq (.seq (rg [xo 9 (qm (tm 0)),xo 10 (.i (.len (tm 9))),xo 11 (qm (ci 0))])
 (.block 0 (.loop M2)))
 (.seq (rg [xo 21 (qm (tm 3)),xo 2 (qm (tm 21))])
 .ret))))
def Ad7:List Res:=[.tmp 2]
theorem Acu:Am Tryd.prog Tryd.f90=some (Rv,Ad7):=by kernel_rfl
theorem Aa4:A8 Tryd.prog 90=true:=by kernel_rfl
def De (a0:List (List Int)) (l7_m11:Nat) (l7_m3:List (List Int)):Option (Ctl (Nat×List (List Int)) (List (List Int))) :=
 cond (decide (((l7_m11:Nat):Int)<((a0.length:Nat):Int)))
 (Option.bind (a0[l7_m11]?) fun x13 =>
 Option.bind (Hv x13) fun y14 =>
 og (l7_m3.length+1<=1073741824∧(l7_m3.length+1)*24<=140737488355328) <|
 og (l7_m11+1<4611686018427387904) <|
 some (Ctl.next (l7_m11+1,l7_m3++[y14])))
 (some (Ctl.out l7_m3))
def Hh (a0:List (List Int)):Option (List (List Int)) :=
 og (0<=(0:Int)∧(0:Int)<=((a0.length:Nat):Int)∧((a0.length:Nat):Int)<=1073741824∧(24:Int)*((a0.length:Nat):Int)<=140737488355328) <|
Option.bind (A7 (fun s_:Nat×List (List Int)=>De a0 s_.1 s_.2) 4611686018427387904 (0,List.replicate 0 ([]:List Int))) fun l5_m3 =>
some l5_m3
theorem Aat {a0:List (List Int)} {r:List (List Int)} (h:Hh a0=some r):Id Tryd.prog Tab 90 [.tree (.slice .int) a0] [] (.own (oi 0 1) (.slice .int) 0 r.length) [(oi 0 1,.mat 79 (oi 1 1) .int r),(oi 1 1,.pool 3 .int r)]:=by
 refine Gv (by kernel_rfl) Tryd.func90 Acu (n:=22) (by kernel_rfl) (by simp) (tl:=[(0,.tree (.slice .int) a0)]) rfl (by kernel_rfl) trivial ⟨⟨3,.tail _ (.head _)⟩,⟨trivial,trivial⟩⟩ ?_;unfold Rv;unfold Hh at h;refine Ak ?_;refine Ab ?_;obtain ⟨g4,h⟩:=Av h;refine Aa 6 ?_;refine rz0 (.tree (.slice .int) a0) ?_;refine rz0 (ai ((a0.length:Nat):Int)) ?_;refine Akd (.own (oi 128 4) (.slice .int) 0 0) (oi 128 4) 79 3 .int (List.replicate 0 ([]:List Int)) trivial (Agi (j:=0) (k:=.i64) (k':=.i64) (m:=0) (c:=((a0.length:Nat):Int)) 3 (by kernel_rfl) (by kernel_rfl) g4 (by kernel_rfl) rfl) (by kernel_rfl) (by rw [List.length_replicate]) (by kernel_rfl) ?_;refine rsB 1 ?_;refine Ao (tn_ ?_);refine wr_ ?_;refine Ax h (fun (l5_m3:List (List Int)) S_=>S_=⟨An [(3,.own (oi 0 1) (.slice .int) 0 l5_m3.length)],Aj (Ap [(oi 0 1,.mat 79 (oi 1 1) .int l5_m3),(oi 1 1,.pool 3 .int l5_m3)]),2⟩) ?_ ?_
 ·intro v_ h;refine Ak ?_;refine Al ?_;refine A6 h (fun t_ S_=>∃ (l7_m11:Nat),∃ (l7_m3:List (List Int)),t_=(l7_m11,l7_m3)∧S_=⟨An [(3,.own (oi 0 1) (.slice .int) 0 l7_m3.length),(9,.tree (.slice .int) a0),(10,ai ((a0.length:Nat):Int)),(11,ai ((l7_m11:Nat):Int))],Aj (Ap [(oi 0 1,.mat 79 (oi 1 1) .int l7_m3),(oi 1 1,.pool 3 .int l7_m3)]),2⟩) ⟨_,(B1 3 (.own (oi 128 4) (.slice .int) 0 0) (.own (oi 128 4) (.slice .int) 0 ((List.replicate 0 ([]:List Int)).length)) (by kernel_rfl) (congrArg (fun z_=>((.own (oi 128 4) (.slice .int) 0 z_):AV)) (List.length_replicate.symm:0=(List.replicate 0 ([]:List Int)).length))).trans (Ac [(oi 0 1,oi 128 4),(oi 1 1,oi 128 4)]),⟨0,List.replicate 0 ([]:List Int),rfl,rfl⟩⟩ ?_;rintro n_ _ _ c_ ⟨l7_m11,l7_m3,rfl,rfl⟩ h hn7
  (try dsimp only at h);unfold De at h;unfold M2;refine Ak ?_;refine Ab ?_;rcases Ad h with ⟨q10,h⟩ | ⟨q10,h⟩
  ·have q10_:=of_decide_eq_true q10;refine Af q10 ?_;refine Ai (tn_ ?_);refine wr_ ?_;refine Ab ?_;refine Al ?_;refine Ab ?_;obtain ⟨x13,e13,h⟩:=Ag h;refine Aa 6 ?_;refine rs0 (.telt none (.slice .int) x13 0) (zi (t:=.slice .int) (xs:=a0) (k:=.i64) (m:=((l7_m11:Nat):Int)) (Ay _) e13) ?_;refine rsB 2 ?_;refine Ao (tn_ ?_);refine wr_ ?_;obtain ⟨y14,h14,h⟩:=Ag h;obtain ⟨g15,h⟩:=Av h;refine Aa 12 ?_;refine rz0 (.own (oi 0 1) (.slice .int) 0 l7_m3.length) ?_;refine rz0 (.tree .int x13) ?_;refine zc (.own (oi 272 8) .int 0 y14.length) [(oi 272 8,some (.arr 3 .int y14))] [.tree .int x13] (Aem h14) ?_;refine Aul (.own (oi 18 9) (.slice .int) 0 1) (oi 18 9) (.vec 79 1 1 ([.own (oi 272 8) .int 0 y14.length])) trivial (Apv (by kernel_rfl)) ?_;refine rs2 (.own (oi 0 10) (.slice .int) 0 (l7_m3.length+1)) (oi 0 1) (oi 0 10) (.vec 79 1 (l7_m3.length+1) (hdL (oi 1 1) .int l7_m3++[.own (oi 272 8) .int 0 y14.length])) (Amz (u:=.int) (t':=.slice .int) (t2:=.slice .int) (o:=oi 0 1) (q:=oi 18 9) (e2:=79) (p:=oi 1 1) (xss:=l7_m3) (cs:=[.own (oi 272 8) .int 0 y14.length]) (len:=l7_m3.length) (by kernel_rfl) (by kernel_rfl) rfl (by kernel_rfl) (by kernel_rfl) rfl g15) ?_;refine rsB 1 ?_;refine Ao (bn_ (tn_ ?_));refine ⟨_,Ae9 (e1:=79) (e:=3) (u:=.int) (n:=l7_m3.length+1) (len:=y14.length) (row:=y14) (ys:=y14) (xss:=l7_m3) 9000 (oi 0 10) (oi 1 1) (oi 272 8) (by kernel_rfl) (by kernel_rfl) rfl (by kernel_rfl) (by kernel_rfl) (Ao7 rfl) (Aqg rfl) (by kernel_rfl) (by kernel_rfl) (by kernel_rfl),?_⟩;obtain ⟨g16,h⟩:=Av h;refine Aa 15 ?_;refine rs0 (ai ((l7_m11+1:Nat):Int)) (za g16) ?_;refine rsB 1 ?_;refine Ao (tn_ ?_);obtain rfl:=zj h;exact ⟨(l7_m11+1,l7_m3++[y14]),_,(B1 3 (.own (oi 0 10) (.slice .int) 0 (l7_m3.length+1)) (.own (oi 0 10) (.slice .int) 0 ((l7_m3++[y14]).length)) (by kernel_rfl) (congrArg (fun z_=>((.own (oi 0 10) (.slice .int) 0 z_):AV)) ((by simp):l7_m3.length+1=(l7_m3++[y14]).length))).trans (Ac [(oi 0 1,oi 0 10),(oi 1 1,oi 9000 12)]),⟨l7_m11+1,l7_m3++[y14],rfl,rfl⟩,hn7⟩
  have q10_:=of_decide_eq_false q10;refine Ae q10 ?_;refine Az (te_ (te_ (be_ (tn_ ?_))));obtain rfl:=zj h;have h:=hn7
  (try dsimp only at h);obtain rfl:=zj h;exact ⟨_,Ac [],rfl⟩
 rintro l5_m3 _ rfl h
 (try dsimp only at h);refine Ak ?_;refine Ah ?_;obtain rfl:=zj h;exact Mq [.own (oi 0 1) (.slice .int) 0 l5_m3.length] (Ac (tl:=[(2,.own (oi 0 1) (.slice .int) 0 l5_m3.length)]) (g:=2) [])
def Fq:AC :=
 (.seq (rg [xo 44 (qb .lss (tm 43) (tm 42))])
   (.seq (.cond (tm 44)
    .skip
    (.exit 1))
   (.seq (.block 2 (.seq (rg [xo 45 (qm (tm 43)),xo 46 (qx 1 (tm 41) (tm 43)),xo 47 (ql (tm 46)),xo 7 (qm (tm 45)),xo 8 (qm (tm 47))])
   (.region [xo 48 (qm (tm 2)),xo 49 (qf 1 (tm 3)),xo 50 (ql (tm 49)),xo 51 (qx 1 (tm 48) (tm 50)),xo 52 (ql (tm 51)),xo 53 (qm (tm 7)),xo 54 (qm (tm 8)),xo 55 (qm (tm 6)),xo 56 (qb .mul (tm 54) (tm 55)),xo 57 (qm (tm 1)),xo 58 (qb .rem (tm 56) (tm 57)),xo 59 (qx 1 (tm 52) (tm 53)),xn (qs (tm 59) (tm 58))] true [])))
   (rg [xo 60 (qb .add (tm 43) (ci 1)),xo 43 (qm (tm 60))]))))
def G0:AC :=
 (.seq (rg [xo 3 (.i (.box 129 (tm 0)))])
 (.seq (rg [xo 9 (qf 0 (tm 3)),xo 10 (ql (tm 9))])
 (.block 0 (.seq (rg [xo 12 (qb .eql (tm 10) (ci 0)),xo 11 (qm (tm 12))])
 (.cond (tm 11)
  (.region [xo 13 (qm (tm 2)),xo 14 (qf 1 (tm 3)),xo 15 (ql (tm 14)),xo 16 (qm (tm 2)),xo 17 (qf 2 (tm 3)),xo 18 (ql (tm 17)),xo 19 (qm (tm 2)),xo 20 (qf 2 (tm 3)),xo 21 (ql (tm 20)),xo 22 (qx 1 (tm 19) (tm 21)),xo 23 (ql (tm 22)),xo 24 (qm (tm 2)),xo 25 (qf 1 (tm 3)),xo 26 (ql (tm 25)),xo 27 (qx 1 (tm 24) (tm 26)),xo 28 (ql (tm 27)),xo 29 (qx 1 (tm 13) (tm 15)),xn (qs (tm 29) (tm 23)),xo 30 (qx 1 (tm 16) (tm 18)),xn (qs (tm 30) (tm 28))] true [(5,17)])
  (.seq (rg [xo 32 (qb .eql (tm 10) (ci 1)),xo 31 (qm (tm 32))])
  (.cond (tm 31)
   (.seq (rg [xo 33 (qm (tm 1)),xo 34 (qf 3 (tm 3)),xo 35 (ql (tm 34)),xo 36 (qc 99 [tm 33,tm 35] [[],[]]),xo 6 (qm (tm 36))])
   (.seq (rg [xo 37 (qm (tm 2)),xo 38 (qf 1 (tm 3)),xo 39 (ql (tm 38)),xo 40 (qx 1 (tm 37) (tm 39)),xo 41 (ql (tm 40)),xo 42 (.i (.len (tm 41))),xo 43 (qm (ci 0))])
   (.block 1 (.loop Fq))))
   (.seq (rg [xo 62 (qb .eql (tm 10) (ci 2)),xo 61 (qm (tm 62))])
   (.cond (tm 61)
    (.region [xo 63 (qm (tm 1)),xo 64 (qm (tm 2)),xo 65 (qf 1 (tm 3)),xo 66 (ql (tm 65)),xo 67 (qx 1 (tm 64) (tm 66)),xo 68 (ql (tm 67)),xo 69 (qf 3 (tm 3)),xo 70 (ql (tm 69)),xo 71 (.i (.neg (tm 70))),xo 72 (qm (tm 2)),xo 73 (qf 2 (tm 3)),xo 74 (ql (tm 73)),xo 75 (qx 1 (tm 72) (tm 74)),xo 76 (ql (tm 75)),xo 77 (qc 100 [tm 63,tm 68,tm 71,tm 76] [[],[some .int],[],[some .int]])] true [])
    .skip)))))))))
def Lg:List Res:=[]
theorem Lh:Am Tryd.prog Tryd.f98=some (G0,Lg):=by kernel_rfl
theorem Gg:A8 Tryd.prog 98=true:=by kernel_rfl
def B5 (x13:List Int) (a0_1:Int) (a1:Int) (y11:Int) (l14_m43:Nat) (l14_m2:List (List Int)):Option (Ctl (Nat×List (List Int)) (List (List Int))) :=
 cond (decide (((l14_m43:Nat):Int)<((x13.length:Nat):Int)))
 (Option.bind (Fz l14_m2 a0_1) fun x20 =>
 og (0<=((l14_m43:Nat):Int)∧l14_m43<x13.length) <|
 Option.bind (x20[l14_m43]?) fun x22 =>
 og (a1≠0) <|
 og (l14_m43+1<4611686018427387904) <|
 some (Ctl.next (l14_m43+1,l14_m2.set a0_1.toNat (x20.set l14_m43 (Int.tmod (wI (x22*y11)) a1)))))
 (some (Ctl.out l14_m2))
def Be (a0_0:Int) (a0_1:Int) (a0_2:Int) (a0_3:Int) (a1:Int) (a2:List (List Int)):Option (List (List Int)) :=
 cond (a0_0==0)
 (Option.bind (Fz a2 a0_2) fun x6 =>
 Option.bind (Fz a2 a0_1) fun x7 =>
 some ((a2.set a0_1.toNat x6).set a0_2.toNat x7))
 (cond (a0_0==1)
  (Option.bind (F4 a1 a0_3) fun y11 =>
  Option.bind (Fz a2 a0_1) fun x13 =>
  A7 (fun s_:Nat×List (List Int)=>B5 x13 a0_1 a1 y11 s_.1 s_.2) 4611686018427387904 (0,a2))
  (cond (a0_0==2)
   (Option.bind (Fz a2 a0_1) fun x27 =>
   Option.bind (Fz a2 a0_2) fun x28 =>
   og (a0_1.toNat≠a0_2.toNat) <|
   Option.bind (Fr a1 x27 (wI (0 - a0_3)) x28) fun y30 =>
   og (y30.length=x27.length) <|
   some (a2.set a0_1.toNat y30))
   (some a2)))
theorem F6 {a0_0:Int} {a0_1:Int} {a0_2:Int} {a0_3:Int} {a1:Int} {a2:List (List Int)} {r:List (List Int)} (h:Be a0_0 a0_1 a0_2 a0_3 a1 a2=some r) {n_a2:Nat} (hn_a2:n_a2=a2.length):Id Tryd.prog Tab 98 [.agg [ai a0_0,ai a0_1,ai a0_2,ai a0_3],ai a1,.own (oi 0 0) (.slice .int) 0 n_a2] [(oi 0 0,.mat 79 (oi 1 0) .int a2),(oi 1 0,.pool 3 .int a2)] (.tup []) [(oi 0 0,.mat 79 (oi 0 1) .int r),(oi 0 1,.pool 3 .int r)]:=by
 refine Gv (by kernel_rfl) Tryd.func98 Lh (n:=78) (by kernel_rfl) (by simp) (tl:=[(0,.agg [ai a0_0,ai a0_1,ai a0_2,ai a0_3]),(1,ai a1),(2,.own (oi 0 0) (.slice .int) 0 n_a2)]) rfl (by kernel_rfl) ⟨⟨3,.tail _ (.head _)⟩,⟨trivial,trivial⟩⟩ ⟨⟨3,.tail _ (.head _)⟩,⟨trivial,trivial⟩⟩ ?_;unfold G0;unfold Be at h;refine Ak ?_;refine Ak ?_;refine Al ?_;refine Ak ?_;rcases Ad h with ⟨q5,h⟩ | ⟨q5,h⟩
 ·refine Af q5 ?_;obtain ⟨x6,f6,h⟩:=Ag h;obtain ⟨p6,b6,e6⟩:=Bg f6;obtain ⟨x7,f7,h⟩:=Ag h;obtain ⟨p7,b7,e7⟩:=Bg f7;refine A4 26 ?_;refine dz0 (.own (oi 0 0) (.slice .int) 0 n_a2) ?_;refine dz0 (.box (oi 3 1) 1) ?_;refine dzl (ai a0_1) ?_;refine dz0 (.own (oi 0 0) (.slice .int) 0 n_a2) ?_;refine dz0 (.box (oi 3 1) 2) ?_;refine dzl (ai a0_2) ?_;refine dz0 (.own (oi 0 0) (.slice .int) 0 n_a2) ?_;refine dz0 (.box (oi 3 1) 2) ?_;refine dzl (ai a0_2) ?_;refine ds0 (.elt (oi 0 0) a0_2.toNat 0) (zo (t:=.slice .int) (o:=oi 0 0) (len:=n_a2) (k:=.i64) (m:=a0_2) p6 (Nat.lt_of_lt_of_le (Au e6) (Nat.le_of_eq (Eq.symm hn_a2)))) ?_;refine dsl (.own (kid (oi 1 0) a0_2.toNat) .int 0 x6.length) (F0 (o:=oi 0 0) (p:=oi 1 0) (e1:=79) (u:=.int) (xss:=a2) (row:=x6) (j:=a0_2.toNat) (by kernel_rfl) (by kernel_rfl) e6) ?_;refine dz0 (.own (oi 0 0) (.slice .int) 0 n_a2) ?_;refine dz0 (.box (oi 3 1) 1) ?_;refine dzl (ai a0_1) ?_;refine ds0 (.elt (oi 0 0) a0_1.toNat 0) (zo (t:=.slice .int) (o:=oi 0 0) (len:=n_a2) (k:=.i64) (m:=a0_1) p7 (Nat.lt_of_lt_of_le (Au e7) (Nat.le_of_eq (Eq.symm hn_a2)))) ?_;refine dsl (.own (kid (oi 1 0) a0_1.toNat) .int 0 x7.length) (F0 (o:=oi 0 0) (p:=oi 1 0) (e1:=79) (u:=.int) (xss:=a2) (row:=x7) (j:=a0_1.toNat) (by kernel_rfl) (by kernel_rfl) e7) ?_;refine ds0 (.elt (oi 0 0) a0_1.toNat 0) (zo (t:=.slice .int) (o:=oi 0 0) (len:=n_a2) (k:=.i64) (m:=a0_1) p7 (Nat.lt_of_lt_of_le (Au e7) (Nat.le_of_eq (Eq.symm hn_a2)))) ?_;refine Yw (oi 0 0) (oi 0 0) (.vec 79 1 n_a2 ((hdL (oi 1 0) .int a2).set a0_1.toNat (.own (kid (oi 1 0) a0_2.toNat) .int 0 x6.length))) (Ait (o:=oi 0 0) (e1:=79) (m:=n_a2) (cs:=hdL (oi 1 0) .int a2) (v:=.own (kid (oi 1 0) a0_2.toNat) .int 0 x6.length) (j:=a0_1.toNat) (by kernel_rfl) (Aus (by kernel_rfl) hn_a2) (by kernel_rfl) rfl (by rw [Fd]; exact Au e7)) ?_;refine ds0 (.elt (oi 0 0) a0_2.toNat 0) (zo (t:=.slice .int) (o:=oi 0 0) (len:=n_a2) (k:=.i64) (m:=a0_2) p6 (Nat.lt_of_lt_of_le (Au e6) (Nat.le_of_eq (Eq.symm hn_a2)))) ?_;refine Yw (oi 0 0) (oi 0 0) (.vec 79 1 n_a2 (((hdL (oi 1 0) .int a2).set a0_1.toNat (.own (kid (oi 1 0) a0_2.toNat) .int 0 x6.length)).set a0_2.toNat (.own (kid (oi 1 0) a0_1.toNat) .int 0 x7.length))) (Ait (o:=oi 0 0) (e1:=79) (m:=n_a2) (cs:=(hdL (oi 1 0) .int a2).set a0_1.toNat (.own (kid (oi 1 0) a0_2.toNat) .int 0 x6.length)) (v:=.own (kid (oi 1 0) a0_1.toNat) .int 0 x7.length) (j:=a0_2.toNat) (by kernel_rfl) (by kernel_rfl) (by kernel_rfl) rfl (by rw [List.length_set,Fd]; exact Au e6)) ?_;refine Gw (Bf (by kernel_rfl)) (bn_ ?_);obtain rfl:=zj h;exact Mq [] ((Abx (e1:=79) (e:=3) (u:=.int) (xss:=a2) (i:=a0_1.toNat) (j:=a0_2.toNat) (n:=n_a2) (li:=x7.length) (lj:=x6.length) (ri:=x7) (rj:=x6) 9000 (oi 0 0) (oi 1 0) (by kernel_rfl) (by kernel_rfl) hn_a2 (by kernel_rfl) e7 e6 rfl rfl (by kernel_rfl) (by kernel_rfl)).trans (Ac (tl:=[]) (g:=2) [(oi 0 1,oi 9000 26)]))
 refine Ae q5 ?_;refine Ak ?_;rcases Ad h with ⟨q9,h⟩ | ⟨q9,h⟩
 ·refine Af q9 ?_;refine Ab ?_;obtain ⟨y11,h11,h⟩:=Ag h;refine Aa 13 ?_;refine rz0 (ai a1) ?_;refine rz0 (.box (oi 3 1) 3) ?_;refine rzl (ai a0_3) ?_;refine zc (ai y11) [] [ai a1,ai a0_3] (X6 h11) ?_;refine rsB 1 ?_;refine Ao (tn_ ?_);refine wr_ ?_;refine Ab ?_;obtain ⟨x13,f13,h⟩:=Ag h;obtain ⟨p13,b13,e13⟩:=Bg f13;refine Aa 20 ?_;refine rz0 (.own (oi 0 0) (.slice .int) 0 n_a2) ?_;refine rz0 (.box (oi 3 1) 1) ?_;refine rzl (ai a0_1) ?_;refine rs0 (.elt (oi 0 0) a0_1.toNat 0) (zo (t:=.slice .int) (o:=oi 0 0) (len:=n_a2) (k:=.i64) (m:=a0_1) p13 (Nat.lt_of_lt_of_le (Au e13) (Nat.le_of_eq (Eq.symm hn_a2)))) ?_;refine rsl (.own (kid (oi 1 0) a0_1.toNat) .int 0 x13.length) (F0 (o:=oi 0 0) (p:=oi 1 0) (e1:=79) (u:=.int) (xss:=a2) (row:=x13) (j:=a0_1.toNat) (by kernel_rfl) (by kernel_rfl) e13) ?_;refine rsB 2 ?_;refine Ao (tn_ ?_);refine wr_ ?_;refine Al ?_;refine A6 h (fun t_ S_=>∃ (l14_m43:Nat),∃ (l14_m2:List (List Int)),t_=(l14_m43,l14_m2)∧S_=⟨An [(1,ai a1),(2,.own (oi 0 0) (.slice .int) 0 l14_m2.length),(3,.box (oi 1 1) 0),(6,ai y11),(41,.own (kid (oi 0 1) a0_1.toNat) .int 0 x13.length),(42,ai ((x13.length:Nat):Int)),(43,ai ((l14_m43:Nat):Int))],Aj (Ap [(oi 0 0,.mat 79 (oi 0 1) .int l14_m2),(oi 0 1,.pool 3 .int l14_m2),(oi 1 1,.cells 129 [ai a0_0,ai a0_1,ai a0_2,ai a0_3])]),2⟩) ⟨_,(B1 2 (.own (oi 0 0) (.slice .int) 0 n_a2) (.own (oi 0 0) (.slice .int) 0 a2.length) (by kernel_rfl) (congrArg (fun z_=>((.own (oi 0 0) (.slice .int) 0 z_):AV)) (hn_a2:n_a2=a2.length))).trans (Ac [(oi 0 1,oi 1 0),(oi 1 1,oi 3 1)]),⟨0,a2,rfl,rfl⟩⟩ ?_;rintro n_ _ _ c_ ⟨l14_m43,l14_m2,rfl,rfl⟩ h hn14
  (try dsimp only at h);unfold B5 at h;unfold Fq;refine Ak ?_;refine Ab ?_;rcases Ad h with ⟨q17,h⟩ | ⟨q17,h⟩
  ·have q17_:=of_decide_eq_true q17;refine Af q17 ?_;refine Ai (tn_ ?_);refine wr_ ?_;refine Ab ?_;refine Al ?_;refine Ab ?_;obtain ⟨x20,f20,h⟩:=Ag h;obtain ⟨p20,b20,e20⟩:=Bg f20;obtain ⟨g21,h⟩:=Av h;obtain ⟨x22,e22,h⟩:=Ag h;refine Aa 8 ?_;refine rz0 (ai ((l14_m43:Nat):Int)) ?_;refine rs0 (.elt (kid (oi 0 1) a0_1.toNat) l14_m43 0) (At8 (t:=.int) (o:=kid (oi 0 1) a0_1.toNat) (off:=0) (len:=x13.length) (k:=.i64) (m:=((l14_m43:Nat):Int)) (by kernel_rfl) (by kernel_rfl) rfl g21.1 (Nat.zero_add _) g21.2) ?_;refine rsl (ai x22) (Dd (i:=kid (oi 0 1) a0_1.toNat) (j:=l14_m43) (k:=0) (e:=3) (t:=.int) (xs:=x20) (by kernel_rfl) (Bp (by kernel_rfl) e20) e22 (by kernel_rfl)) ?_;refine rsB 2 ?_;refine Ao (tn_ ?_);refine wr_ ?_;obtain ⟨g23,h⟩:=Av h;refine A4 21 ?_;refine dz0 (.own (oi 0 0) (.slice .int) 0 l14_m2.length) ?_;refine dz0 (.box (oi 1 1) 1) ?_;refine dzl (ai a0_1) ?_;refine ds0 (.elt (oi 0 0) a0_1.toNat 0) (zo (t:=.slice .int) (o:=oi 0 0) (len:=l14_m2.length) (k:=.i64) (m:=a0_1) p20 (Au e20)) ?_;refine dsl (.own (kid (oi 0 1) a0_1.toNat) .int 0 x20.length) (F0 (o:=oi 0 0) (p:=oi 0 1) (e1:=79) (u:=.int) (xss:=l14_m2) (row:=x20) (j:=a0_1.toNat) (by kernel_rfl) (by kernel_rfl) e20) ?_;refine dz0 (ai ((l14_m43:Nat):Int)) ?_;refine dz0 (ai x22) ?_;refine dz0 (ai y11) ?_;refine dz0 (ai (wI (x22*y11))) ?_;refine dz0 (ai a1) ?_;refine ds0 (ai (Int.tmod (wI (x22*y11)) a1)) (Rn (k:=.i64) (a:=wI (x22*y11)) (b:=a1) (by kernel_rfl) (by kernel_rfl) g23) ?_;refine ds0 (.elt (kid (oi 0 1) a0_1.toNat) l14_m43 0) (zo (t:=.int) (o:=kid (oi 0 1) a0_1.toNat) (len:=x20.length) (k:=.i64) (m:=((l14_m43:Nat):Int)) (Ay _) (Au e22)) ?_;refine Yw (kid (oi 0 1) a0_1.toNat) (kid (oi 0 1) a0_1.toNat) (.arr 3 .int (x20.set l14_m43 (Int.tmod (wI (x22*y11)) a1))) (Afo (i:=kid (oi 0 1) a0_1.toNat) (j:=l14_m43) (k:=0) (e:=3) (t:=.int) (xs:=x20) (cs:=[ai (Int.tmod (wI (x22*y11)) a1)]) (x1:=Int.tmod (wI (x22*y11)) a1) (by kernel_rfl) (Aft.trans (Bp (by kernel_rfl) e20)) e22 (by kernel_rfl) (by kernel_rfl)) ?_;refine Amh (Agj (o:=oi 0 0) (p:=oi 0 1) (e1:=79) (e:=3) (u:=.int) (xss:=l14_m2) (k:=a0_1.toNat) (row:=x20) (row':=x20.set l14_m43 (Int.tmod (wI (x22*y11)) a1)) (by kernel_rfl) rfl (by kernel_rfl) e20 List.length_set) ?_;refine Gw (Bf (by kernel_rfl)) (bn_ (tn_ ?_));refine wr_ ?_;obtain ⟨g24,h⟩:=Av h;refine Aa 23 ?_;refine rs0 (ai ((l14_m43+1:Nat):Int)) (za g24) ?_;refine rsB 1 ?_;refine Ao (tn_ ?_);obtain rfl:=zj h;exact ⟨(l14_m43+1,l14_m2.set a0_1.toNat (x20.set l14_m43 (Int.tmod (wI (x22*y11)) a1))),_,(B1 2 (.own (oi 0 0) (.slice .int) 0 l14_m2.length) (.own (oi 0 0) (.slice .int) 0 ((l14_m2.set a0_1.toNat (x20.set l14_m43 (Int.tmod (wI (x22*y11)) a1))).length)) (by kernel_rfl) (congrArg (fun z_=>((.own (oi 0 0) (.slice .int) 0 z_):AV)) ((Eq.trans (b:=l14_m2.length) rfl List.length_set.symm):l14_m2.length=(l14_m2.set a0_1.toNat (x20.set l14_m43 (Int.tmod (wI (x22*y11)) a1))).length))).trans (Ac []),⟨l14_m43+1,l14_m2.set a0_1.toNat (x20.set l14_m43 (Int.tmod (wI (x22*y11)) a1)),rfl,rfl⟩,hn14⟩
  have q17_:=of_decide_eq_false q17;refine Ae q17 ?_;refine Az (te_ (te_ (be_ (bn_ ?_))));obtain rfl:=zj h;have h:=hn14
  (try dsimp only at h);obtain rfl:=zj h;exact Mq [] (Ac (tl:=[]) (g:=2) [])
 refine Ae q9 ?_;refine Ak ?_;rcases Ad h with ⟨q26,h⟩ | ⟨q26,h⟩
 ·refine Af q26 ?_;obtain ⟨x27,f27,h⟩:=Ag h;obtain ⟨p27,b27,e27⟩:=Bg f27;obtain ⟨x28,f28,h⟩:=Ag h;obtain ⟨p28,b28,e28⟩:=Bg f28;obtain ⟨g29,h⟩:=Av h;obtain ⟨y30,h30,h⟩:=Ag h;obtain ⟨g31,h⟩:=Av h;refine A4 25 ?_;refine dz0 (ai a1) ?_;refine dz0 (.own (oi 0 0) (.slice .int) 0 n_a2) ?_;refine dz0 (.box (oi 3 1) 1) ?_;refine dzl (ai a0_1) ?_;refine ds0 (.elt (oi 0 0) a0_1.toNat 0) (zo (t:=.slice .int) (o:=oi 0 0) (len:=n_a2) (k:=.i64) (m:=a0_1) p27 (Nat.lt_of_lt_of_le (Au e27) (Nat.le_of_eq (Eq.symm hn_a2)))) ?_;refine dsl (.own (kid (oi 1 0) a0_1.toNat) .int 0 x27.length) (F0 (o:=oi 0 0) (p:=oi 1 0) (e1:=79) (u:=.int) (xss:=a2) (row:=x27) (j:=a0_1.toNat) (by kernel_rfl) (by kernel_rfl) e27) ?_;refine dz0 (.box (oi 3 1) 3) ?_;refine dzl (ai a0_3) ?_;refine dz0 (ai (wI (0 - a0_3))) ?_;refine dz0 (.own (oi 0 0) (.slice .int) 0 n_a2) ?_;refine dz0 (.box (oi 3 1) 2) ?_;refine dzl (ai a0_2) ?_;refine ds0 (.elt (oi 0 0) a0_2.toNat 0) (zo (t:=.slice .int) (o:=oi 0 0) (len:=n_a2) (k:=.i64) (m:=a0_2) p28 (Nat.lt_of_lt_of_le (Au e28) (Nat.le_of_eq (Eq.symm hn_a2)))) ?_;refine dsl (.own (kid (oi 1 0) a0_2.toNat) .int 0 x28.length) (F0 (o:=oi 0 0) (p:=oi 1 0) (e1:=79) (u:=.int) (xss:=a2) (row:=x28) (j:=a0_2.toNat) (by kernel_rfl) (by kernel_rfl) e28) ?_;refine Aqa (.tup []) [(kid (oi 1 0) a0_1.toNat,some (.arr 3 .int y30)),(kid (oi 1 0) a0_1.toNat,none)] [(oi 0 0,kid (oi 1 0) a0_1.toNat)] [ai a1,.own (kid (oi 1 0) a0_1.toNat) .int 0 x27.length,ai (wI (0 - a0_3)),.own (kid (oi 1 0) a0_2.toNat) .int 0 x28.length] (caps:=[]) trivial (Wz h30 rfl) Wi ⟨Ano (by kernel_rfl) e27,trivial⟩ (.cons (.ren (by kernel_rfl)) (.cons (.ren (by kernel_rfl)) (.cons (.ren (by kernel_rfl)) (.cons (.gnd (by kernel_rfl) (Agx (e:=3) (u:=.int) (xs:=x28) ((Asi (L:=[kid (oi 1 0) a0_1.toNat]) (by kernel_rfl) ⟨At2 g29,trivial⟩).trans ((Agq (Aku (t:=.int) (off:=0) (len:=x28.length) 3 rfl (by kernel_rfl))).trans (Bp (by kernel_rfl) e28))) rfl)) .nil)))) (Ca (by kernel_rfl) (by kernel_rfl) ⟨.arg (by simp [AV.nmsL,AV.nms,Bn]),trivial⟩) (At1 (Aku (t:=.int) (off:=0) (len:=x27.length) 1 rfl (by kernel_rfl)) Atu) ?_;refine Amh (Agj (o:=oi 0 0) (p:=oi 1 0) (e1:=79) (e:=3) (u:=.int) (xss:=a2) (k:=a0_1.toNat) (row:=x27) (row':=y30) (by kernel_rfl) rfl (by kernel_rfl) e27 g31) ?_;refine Gw (Bf (by kernel_rfl)) (bn_ ?_);obtain rfl:=zj h;exact Mq [] (Ac (tl:=[]) (g:=2) [(oi 0 1,oi 1 0)])
 refine Ae q26 ?_;refine Ai (bn_ ?_);obtain rfl:=zj h;exact Mq [] (Ac (tl:=[]) (g:=2) [(oi 0 1,oi 1 0)])
def Kw:AC :=
 (.seq (rg [xo 4 (.i (.box 129 (tm 0)))])
 (.seq (.seq (rg [xo 5 (.i (.ld false 4 (tm 4))),xo 6 (qf 1 (tm 4)),xo 7 (ql (tm 6)),xo 8 (qf 1 (tm 4)),xo 9 (ql (tm 8)),xo 10 (.build [.int .i64 0,.int .i64 0,.int .i64 0,.int .i64 0] [(0,1,ci 0),(1,1,tm 7),(2,1,tm 9)]),xo 11 (.i (.cmp false 7 (tm 5) (tm 10)))])
 (.cond (tm 11)
  .ret
  .skip))
 (.seq (rg [xo 12 (.i (.ld false 4 (tm 4))),xo 13 (ql (tm 1)),xo 14 (ql (tm 2)),xo 15 (qc 98 [tm 12,tm 13,tm 14] [[none,none,none,none],[],[some (.slice .int)]])])
 (rg [xo 16 (.i (.ld false 4 (tm 4))),xo 17 (ql (tm 1)),xo 18 (ql (tm 3)),xo 19 (qc 98 [tm 16,tm 17,tm 18] [[none,none,none,none],[],[some (.slice .int)]])]))))
def Sx:List Res:=[]
theorem Sw:Am Tryd.prog Tryd.f97=some (Kw,Sx):=by kernel_rfl
theorem G2:A8 Tryd.prog 97=true:=by kernel_rfl
def Bl (a0_0:Int) (a0_1:Int) (a0_2:Int) (a0_3:Int) (c0_0:Int) (c1_0:List (List Int)) (c2_0:List (List Int)):Option (List (List Int)×List (List Int)) :=
 cond ([a0_0,a0_1,a0_2,a0_3]==[0,a0_1,a0_1,0])
 (some (c1_0,c2_0))
 (Option.bind (Be a0_0 a0_1 a0_2 a0_3 c0_0 c1_0) fun y7 =>
 og (y7.length=c1_0.length) <|
 Option.bind (Be a0_0 a0_1 a0_2 a0_3 c0_0 c2_0) fun y9 =>
 og (y9.length=c2_0.length) <|
 some (y7,y9))
theorem G4 {a0_0:Int} {a0_1:Int} {a0_2:Int} {a0_3:Int} {c0_0:Int} {c1_0:List (List Int)} {c2_0:List (List Int)} {r:List (List Int)×List (List Int)} (h:Bl a0_0 a0_1 a0_2 a0_3 c0_0 c1_0 c2_0=some r):Id Tryd.prog Tab 97 [.agg [ai a0_0,ai a0_1,ai a0_2,ai a0_3],.box (oi 0 0) 0,.box (oi 1 0) 0,.box (oi 4 0) 0] [(oi 0 0,.cells 3 [ai c0_0]),(oi 1 0,.cells 25 [.own (oi 2 0) (.slice .int) 0 c1_0.length]),(oi 2 0,.mat 79 (oi 3 0) .int c1_0),(oi 3 0,.pool 3 .int c1_0),(oi 4 0,.cells 25 [.own (oi 5 0) (.slice .int) 0 c2_0.length]),(oi 5 0,.mat 79 (oi 6 0) .int c2_0),(oi 6 0,.pool 3 .int c2_0)] (.tup []) [(oi 0 0,.cells 3 [ai c0_0]),(oi 1 0,.cells 25 [.own (oi 2 0) (.slice .int) 0 r.1.length]),(oi 2 0,.mat 79 (oi 0 1) .int r.1),(oi 0 1,.pool 3 .int r.1),(oi 4 0,.cells 25 [.own (oi 5 0) (.slice .int) 0 r.2.length]),(oi 5 0,.mat 79 (oi 1 1) .int r.2),(oi 1 1,.pool 3 .int r.2)]:=by
 refine Gv (by kernel_rfl) Tryd.func97 Sw (n:=20) (by kernel_rfl) (by simp) (tl:=[(0,.agg [ai a0_0,ai a0_1,ai a0_2,ai a0_3]),(1,.box (oi 0 0) 0),(2,.box (oi 1 0) 0),(3,.box (oi 4 0) 0)]) rfl (by kernel_rfl) ⟨trivial,⟨trivial,⟨⟨3,.tail _ (.tail _ (.tail _ (.head _)))⟩,⟨trivial,⟨trivial,⟨⟨3,.tail _ (.tail _ (.tail _ (.tail _ (.tail _ (.tail _ (.head _))))))⟩,⟨trivial,trivial⟩⟩⟩⟩⟩⟩⟩ ⟨trivial,⟨trivial,⟨⟨3,.tail _ (.tail _ (.tail _ (.head _)))⟩,⟨trivial,⟨trivial,⟨⟨3,.tail _ (.tail _ (.tail _ (.tail _ (.tail _ (.tail _ (.head _))))))⟩,⟨trivial,trivial⟩⟩⟩⟩⟩⟩⟩ ?_;unfold Kw;unfold Bl at h;refine Ak ?_;refine Ab ?_;refine Ak ?_;rcases Ad h with ⟨q5,h⟩ | ⟨q5,h⟩
 ·refine Af q5 ?_;refine Ah (tr_ ?_);obtain rfl:=zj h;exact Mq [] (Ac (tl:=[]) (g:=2) [(oi 0 1,oi 3 0),(oi 1 1,oi 6 0)])
 refine Ae q5 ?_;refine Ai (tn_ ?_);refine wr_ ?_;refine Ab ?_;obtain ⟨y7,h7,h⟩:=Ag h;obtain ⟨g8,h⟩:=Av h;refine Aa 13 ?_;refine rzl (.agg [ai a0_0,ai a0_1,ai a0_2,ai a0_3]) ?_;refine rzl (ai c0_0) ?_;refine rzl (.own (oi 2 0) (.slice .int) 0 c1_0.length) ?_;refine Ks (.tup []) [(oi 2 0,some (.mat 79 (oi 240 12) .int y7)),(oi 240 12,some (.pool 3 .int y7)),(oi 2 0,none),(oi 3 0,some (.pool 3 .int []))] [(oi 0 0,oi 2 0),(oi 1 0,oi 3 0)] [.agg [ai a0_0,ai a0_1,ai a0_2,ai a0_3],ai c0_0,.own (oi 2 0) (.slice .int) 0 c1_0.length] (caps:=[]) trivial (F6 h7 rfl) Gg ⟨by kernel_rfl,⟨by kernel_rfl,trivial⟩⟩ (.cons (.ren (by kernel_rfl)) (.cons (.ren (by kernel_rfl)) (.cons (.ren (by kernel_rfl)) .nil))) (Ca (by kernel_rfl) (by kernel_rfl) ⟨Cc (by kernel_rfl),⟨Ip (o:=oi 2 0) (p:=oi 3 0) (e1:=79) (m:=c1_0.length) (u:=.int) (xss:=c1_0) (Cc (by kernel_rfl)) (by kernel_rfl),trivial⟩⟩) ?_;refine Ao (tn_ ?_);refine wr_ ?_;obtain ⟨y9,h9,h⟩:=Ag h;obtain ⟨g10,h⟩:=Av h;refine Aa 17 ?_;refine rzl (.agg [ai a0_0,ai a0_1,ai a0_2,ai a0_3]) ?_;refine rzl (ai c0_0) ?_;refine rzl (.own (oi 5 0) (.slice .int) 0 c2_0.length) ?_;refine Ks (.tup []) [(oi 5 0,some (.mat 79 (oi 304 16) .int y9)),(oi 304 16,some (.pool 3 .int y9)),(oi 5 0,none),(oi 6 0,some (.pool 3 .int []))] [(oi 0 0,oi 5 0),(oi 1 0,oi 6 0)] [.agg [ai a0_0,ai a0_1,ai a0_2,ai a0_3],ai c0_0,.own (oi 5 0) (.slice .int) 0 c2_0.length] (caps:=[]) trivial (F6 h9 rfl) Gg ⟨by kernel_rfl,⟨by kernel_rfl,trivial⟩⟩ (.cons (.ren (by kernel_rfl)) (.cons (.ren (by kernel_rfl)) (.cons (.ren (by kernel_rfl)) .nil))) (Ca (by kernel_rfl) (by kernel_rfl) ⟨Cc (by kernel_rfl),⟨Ip (o:=oi 5 0) (p:=oi 6 0) (e1:=79) (m:=c2_0.length) (u:=.int) (xss:=c2_0) (Cc (by kernel_rfl)) (by kernel_rfl),trivial⟩⟩) ?_;refine Ao ?_;obtain rfl:=zj h;exact Mq [] ((Vp (oi 1 0) (.cells 25 [.own (oi 2 0) (.slice .int) 0 c1_0.length]) (.cells 25 [.own (oi 2 0) (.slice .int) 0 y7.length]) (by kernel_rfl) (congrArg (fun z_=>(.cells 25 [.own (oi 2 0) (.slice .int) 0 z_]:Ob)) (g8.symm:c1_0.length=y7.length))).trans ((Vp (oi 4 0) (.cells 25 [.own (oi 5 0) (.slice .int) 0 c2_0.length]) (.cells 25 [.own (oi 5 0) (.slice .int) 0 y9.length]) (by kernel_rfl) (congrArg (fun z_=>(.cells 25 [.own (oi 5 0) (.slice .int) 0 z_]:Ob)) (g10.symm:c2_0.length=y9.length))).trans (Ac (tl:=[]) (g:=2) [(oi 0 1,oi 240 12),(oi 1 1,oi 304 16)])))
def Jo:AC :=
 (.seq (rg [xo 66 (qb .lss (tm 65) (tm 64))])
 (.seq (.cond (tm 66)
  .skip
  (.exit 4))
 (.seq (.block 5 (.seq (rg [xo 67 (qm (tm 65)),xo 13 (qm (tm 67))])
 (.seq (rg [xo 68 (qm (tm 13)),xo 69 (qm (tm 9)),xo 70 (qb .neq (tm 68) (tm 69)),xo 71 (qm (tm 70)),⟨some 72,some (71,true),ql (tm 5)⟩,⟨some 73,some (71,true),qm (tm 13)⟩,⟨some 74,some (71,true),qx 1 (tm 72) (tm 73)⟩,⟨some 75,some (71,true),ql (tm 74)⟩,⟨some 76,some (71,true),qm (tm 11)⟩,⟨some 77,some (71,true),qx 1 (tm 75) (tm 76)⟩,⟨some 78,some (71,true),ql (tm 77)⟩,⟨some 79,some (71,true),qb .neq (tm 78) (ci 0)⟩,xo 80 (.i (.pick (tm 71) (tm 79) (cb false)))])
 (.cond (tm 80)
  (rg [xo 81 (qm (tm 10)),xo 82 (qm (tm 13)),xo 83 (qm (tm 9)),xo 84 (ql (tm 5)),xo 85 (qm (tm 13)),xo 86 (qx 1 (tm 84) (tm 85)),xo 87 (ql (tm 86)),xo 88 (qm (tm 11)),xo 89 (qx 1 (tm 87) (tm 88)),xo 90 (ql (tm 89)),xo 91 (.build [.int .i64 0,.int .i64 0,.int .i64 0,.int .i64 0] [(0,1,ci 2),(1,1,tm 82),(2,1,tm 83),(3,1,tm 90)]),xo 92 (.call (tm 81) [tm 91] [[none,none,none,none]])])
  .skip))))
 (rg [xo 93 (qb .add (tm 65) (ci 1)),xo 65 (qm (tm 93))]))))
def Jm:AC :=
 (.seq (.seq (rg [xo 27 (qm (tm 12)),xo 28 (ql (tm 5)),xo 29 (.i (.len (tm 28))),xo 30 (qb .lss (tm 27) (tm 29)),xo 31 (qm (tm 30)),⟨some 32,some (31,true),ql (tm 5)⟩,⟨some 33,some (31,true),qm (tm 12)⟩,⟨some 34,some (31,true),qx 1 (tm 32) (tm 33)⟩,⟨some 35,some (31,true),ql (tm 34)⟩,⟨some 36,some (31,true),qm (tm 11)⟩,⟨some 37,some (31,true),qx 1 (tm 35) (tm 36)⟩,⟨some 38,some (31,true),ql (tm 37)⟩,⟨some 39,some (31,true),qb .eql (tm 38) (ci 0)⟩,xo 40 (.i (.pick (tm 31) (tm 39) (cb false)))])
 (.cond (tm 40)
  .skip
  (.exit 2)))
 (.block 3 (rg [xo 41 (qm (tm 12)),xo 42 (qb .add (tm 41) (ci 1)),xo 12 (qm (tm 42))])))
def Jq:AC :=
 (.seq (.seq (rg [xo 15 (qm (tm 11)),xo 16 (qm (tm 2)),xo 17 (qb .lss (tm 15) (tm 16)),xo 18 (qm (tm 17)),⟨some 19,some (18,true),qm (tm 9)⟩,⟨some 20,some (18,true),ql (tm 5)⟩,⟨some 21,some (18,true),.i (.len (tm 20))⟩,⟨some 22,some (18,true),qb .lss (tm 19) (tm 21)⟩,xo 23 (.i (.pick (tm 18) (tm 22) (cb false)))])
 (.cond (tm 23)
  .skip
  (.exit 0)))
 (.seq (.block 1 (.seq (rg [xo 26 (qm (tm 9)),xo 12 (qm (tm 26))])
 (.seq (.block 2 (.loop Jm))
 (.seq (.seq (rg [xo 43 (qm (tm 12)),xo 44 (ql (tm 5)),xo 45 (.i (.len (tm 44))),xo 46 (qb .eql (tm 43) (tm 45))])
 (.cond (tm 46)
  (.exit 1)
  .skip))
 (.seq (rg [xo 47 (qm (tm 10)),xo 48 (qm (tm 9)),xo 49 (qm (tm 12)),xo 50 (.build [.int .i64 0,.int .i64 0,.int .i64 0,.int .i64 0] [(0,1,ci 0),(1,1,tm 48),(2,1,tm 49)]),xo 51 (.call (tm 47) [tm 50] [[none,none,none,none]])])
 (.seq (rg [xo 52 (qm (tm 10)),xo 53 (qm (tm 9)),xo 54 (ql (tm 5)),xo 55 (qm (tm 9)),xo 56 (qx 1 (tm 54) (tm 55)),xo 57 (ql (tm 56)),xo 58 (qm (tm 11)),xo 59 (qx 1 (tm 57) (tm 58)),xo 60 (ql (tm 59)),xo 61 (.build [.int .i64 0,.int .i64 0,.int .i64 0,.int .i64 0] [(0,1,ci 1),(1,1,tm 53),(3,1,tm 60)]),xo 62 (.call (tm 52) [tm 61] [[none,none,none,none]])])
 (.seq (.seq (rg [xo 63 (ql (tm 5)),xo 64 (.i (.len (tm 63))),xo 65 (qm (ci 0))])
 (.block 4 (.loop Jo)))
 (rg [xo 94 (qm (tm 9)),xo 95 (qb .add (tm 94) (ci 1)),xo 9 (qm (tm 95))]))))))))
 (rg [xo 24 (qm (tm 11)),xo 25 (qb .add (tm 24) (ci 1)),xo 11 (qm (tm 25))])))
def M6:AC :=
 (.seq (rg [xo 4 (.i (.box 3 (tm 0))),xo 5 (.i (.box 25 (tm 1))),xo 7 (.i (.box 25 (tm 3))),xo 8 (qm (ci 0))])
 (.seq (rg [xo 9 (qm (ci 0))])
 (.seq (rg [xo 14 (.i (.mkfn 97 [tm 4,tm 5,tm 7])),xo 10 (qm (tm 14))])
 (.seq (.seq (rg [xo 11 (qm (ci 0))])
 (.block 0 (.loop Jq)))
 (.seq (rg [xo 96 (qm (tm 9)),xo 8 (qm (tm 96))])
 .ret)))))
def Wo:List Res:=[.tmp 8]
theorem Wk:Am Tryd.prog Tryd.f91=some (M6,Wo):=by kernel_rfl
theorem Vf:A8 Tryd.prog 91=true:=by kernel_rfl
def Cf (l7_p0:List (List Int)) (l7_m11:Nat) (l15_m12:Nat):Option (Ctl Nat Nat) :=
 Option.bind (cond (decide (((l15_m12:Nat):Int)<((l7_p0.length:Nat):Int)))
  (Option.bind (l7_p0[l15_m12]?) fun x19 =>
  Option.bind (x19[l7_m11]?) fun x20 =>
  some (x20==0))
  (some false)) fun l17_m40 =>
cond l17_m40
 (og (l15_m12+1<4611686018427387904) <|
 some (Ctl.next (l15_m12+1)))
 (some (Ctl.out l15_m12))
def C7 (y31:List (List Int)×List (List Int)) (l7_m9:Nat) (l7_m11:Nat) (a0:Int) (l34_m65:Nat) (l34_p0:List (List Int)) (l34_p2:List (List Int)):Option (Ctl (Nat×List (List Int)×List (List Int)) (List (List Int)×List (List Int))) :=
 cond (decide (((l34_m65:Nat):Int)<((y31.1.length:Nat):Int)))
 (Option.bind (Option.bind (cond (((l34_m65:Nat):Int) !=((l7_m9:Nat):Int))
       (Option.bind (l34_p0[l34_m65]?) fun x42 =>
       Option.bind (x42[l7_m11]?) fun x43 =>
       some (x43 !=0))
       (some false)) fun l40_m80 =>
  cond l40_m80
   (Option.bind (l34_p0[l34_m65]?) fun x45 =>
   Option.bind (x45[l7_m11]?) fun x46 =>
   Option.bind (Bl 2 ((l34_m65:Nat):Int) ((l7_m9:Nat):Int) x46 a0 l34_p0 l34_p2) fun y47 =>
   some (y47.1,y47.2))
   (some (l34_p0,l34_p2))) fun (l38_p0,l38_p2) =>
 og (l34_m65+1<4611686018427387904) <|
 some (Ctl.next (l34_m65+1,l38_p0,l38_p2)))
 (some (Ctl.out (l34_p0,l34_p2)))
def Bv (a2:Int) (a0:Int) (l7_m9:Nat) (l7_m11:Nat) (l7_p0:List (List Int)) (l7_p2:List (List Int)):Option (Ctl (Nat×Nat×List (List Int)×List (List Int)) (Nat×List (List Int)×List (List Int))) :=
 Option.bind (cond (decide (((l7_m11:Nat):Int)<a2))
  (some (decide (((l7_m9:Nat):Int)<((l7_p0.length:Nat):Int))))
  (some false)) fun l9_m23 =>
cond l9_m23
 (Option.bind (Option.bind (A7 (fun s_:Nat=>Cf l7_p0 l7_m11 s_) 4611686018427387904 l7_m9) fun l14_m12 =>
  cond (((l14_m12:Nat):Int)==((l7_p0.length:Nat):Int))
   (some (l7_m9,l7_p0,l7_p2))
   (Option.bind (Bl 0 ((l7_m9:Nat):Int) ((l14_m12:Nat):Int) 0 a0 l7_p0 l7_p2) fun y27 =>
   Option.bind (y27.1[l7_m9]?) fun x29 =>
   Option.bind (x29[l7_m11]?) fun x30 =>
   Option.bind (Bl 1 ((l7_m9:Nat):Int) 0 x30 a0 y27.1 y27.2) fun y31 =>
   Option.bind (A7 (fun s_:Nat×List (List Int)×List (List Int)=>C7 y31 l7_m9 l7_m11 a0 s_.1 s_.2.1 s_.2.2) 4611686018427387904 (0,y31.1,y31.2)) fun (l32_p0,l32_p2) =>
   og (l7_m9+1<4611686018427387904) <|
   some (l7_m9+1,l32_p0,l32_p2))) fun (l12_m9,l12_p0,l12_p2) =>
 og (l7_m11+1<4611686018427387904) <|
 some (Ctl.next (l12_m9,l7_m11+1,l12_p0,l12_p2)))
 (some (Ctl.out (l7_m9,l7_p0,l7_p2)))
def Em (a0:Int) (a1:List (List Int)) (a2:Int) (a3:List (List Int)):Option (List (List Int)×List (List Int)×Nat) :=
 Option.bind (A7 (fun s_:Nat×Nat×List (List Int)×List (List Int)=>Bv a2 a0 s_.1 s_.2.1 s_.2.2.1 s_.2.2.2) 4611686018427387904 (0,0,a1,a3)) fun (l5_m9,l5_p0,l5_p2) =>
some (l5_p0,l5_p2,l5_m9)
theorem Vq {a0:Int} {a1:List (List Int)} {a2:Int} {a3:List (List Int)} {r:List (List Int)×List (List Int)×Nat} (h:Em a0 a1 a2 a3=some r) {n_a1:Nat} (hn_a1:n_a1=a1.length) {n_a3:Nat} (hn_a3:n_a3=a3.length):Id Tryd.prog Tab 91 [ai a0,.own (oi 0 0) (.slice .int) 0 n_a1,ai a2,.own (oi 2 0) (.slice .int) 0 n_a3] [(oi 0 0,.mat 79 (oi 1 0) .int a1),(oi 1 0,.pool 3 .int a1),(oi 2 0,.mat 79 (oi 3 0) .int a3),(oi 3 0,.pool 3 .int a3)] (ai ((r.2.2:Nat):Int)) [(oi 0 0,.mat 79 (oi 0 1) .int r.1),(oi 0 1,.pool 3 .int r.1),(oi 2 0,.mat 79 (oi 1 1) .int r.2.1),(oi 1 1,.pool 3 .int r.2.1)]:=by
 refine Gv (by kernel_rfl) Tryd.func91 Wk (n:=97) (by kernel_rfl) (by simp) (tl:=[(0,ai a0),(1,.own (oi 0 0) (.slice .int) 0 n_a1),(2,ai a2),(3,.own (oi 2 0) (.slice .int) 0 n_a3)]) rfl (by kernel_rfl) ⟨⟨3,.tail _ (.head _)⟩,⟨trivial,⟨⟨3,.tail _ (.tail _ (.tail _ (.head _)))⟩,⟨trivial,trivial⟩⟩⟩⟩ ⟨⟨3,.tail _ (.head _)⟩,⟨trivial,⟨⟨3,.tail _ (.tail _ (.tail _ (.head _)))⟩,⟨trivial,trivial⟩⟩⟩⟩ ?_;unfold M6;unfold Em at h;refine Ak ?_;refine Ak ?_;refine Ak ?_;refine Ax h (fun t_ S_=>∃ (l5_m9:Nat),∃ (l5_p0:List (List Int)),∃ (l5_p2:List (List Int)),t_=(l5_m9,l5_p0,l5_p2)∧S_=⟨An [(9,ai ((l5_m9:Nat):Int))],Aj (Ap [(oi 0 0,.mat 79 (oi 0 1) .int l5_p0),(oi 0 1,.pool 3 .int l5_p0),(oi 2 0,.mat 79 (oi 1 1) .int l5_p2),(oi 1 1,.pool 3 .int l5_p2)]),2⟩) ?_ ?_
 ·intro v_ h;refine Ak ?_;refine Al ?_;refine A6 h (fun t_ S_=>∃ (l7_m9:Nat),∃ (l7_m11:Nat),∃ (l7_p0:List (List Int)),∃ (l7_p2:List (List Int)),t_=(l7_m9,l7_m11,l7_p0,l7_p2)∧S_=⟨An [(2,ai a2),(5,.box (oi 0 1) 0),(9,ai ((l7_m9:Nat):Int)),(10,.fn 97 [.box (oi 1 1) 0,.box (oi 0 1) 0,.box (oi 2 1) 0]),(11,ai ((l7_m11:Nat):Int))],Aj (Ap [(oi 0 1,.cells 25 [.own (oi 0 0) (.slice .int) 0 l7_p0.length]),(oi 1 1,.cells 3 [ai a0]),(oi 2 1,.cells 25 [.own (oi 2 0) (.slice .int) 0 l7_p2.length]),(oi 0 0,.mat 79 (oi 3 1) .int l7_p0),(oi 3 1,.pool 3 .int l7_p0),(oi 2 0,.mat 79 (oi 4 1) .int l7_p2),(oi 4 1,.pool 3 .int l7_p2)]),2⟩) ⟨_,(Vp (oi 5 2) (.cells 25 [.own (oi 0 0) (.slice .int) 0 n_a1]) (.cells 25 [.own (oi 0 0) (.slice .int) 0 a1.length]) (by kernel_rfl) (congrArg (fun z_=>(.cells 25 [.own (oi 0 0) (.slice .int) 0 z_]:Ob)) (hn_a1:n_a1=a1.length))).trans ((Vp (oi 7 3) (.cells 25 [.own (oi 2 0) (.slice .int) 0 n_a3]) (.cells 25 [.own (oi 2 0) (.slice .int) 0 a3.length]) (by kernel_rfl) (congrArg (fun z_=>(.cells 25 [.own (oi 2 0) (.slice .int) 0 z_]:Ob)) (hn_a3:n_a3=a3.length))).trans (Ac [(oi 0 1,oi 5 2),(oi 3 1,oi 1 0),(oi 1 1,oi 4 1),(oi 2 1,oi 7 3),(oi 4 1,oi 3 0)])),⟨0,0,a1,a3,rfl,rfl⟩⟩ ?_;rintro n_ _ _ c_ ⟨l7_m9,l7_m11,l7_p0,l7_p2,rfl,rfl⟩ h hn7
  (try dsimp only at h);unfold Bv at h;unfold Jq;refine Ab ?_;refine Ax h (fun (l9_m23:Bool) S_=>S_=⟨An [(2,ai a2),(5,.box (oi 0 1) 0),(9,ai ((l7_m9:Nat):Int)),(10,.fn 97 [.box (oi 1 1) 0,.box (oi 0 1) 0,.box (oi 2 1) 0]),(11,ai ((l7_m11:Nat):Int)),(23,.bool l9_m23)],Aj (Ap [(oi 0 1,.cells 25 [.own (oi 0 0) (.slice .int) 0 l7_p0.length]),(oi 1 1,.cells 3 [ai a0]),(oi 2 1,.cells 25 [.own (oi 2 0) (.slice .int) 0 l7_p2.length]),(oi 0 0,.mat 79 (oi 3 1) .int l7_p0),(oi 3 1,.pool 3 .int l7_p0),(oi 2 0,.mat 79 (oi 4 1) .int l7_p2),(oi 4 1,.pool 3 .int l7_p2)]),2⟩) ?_ ?_
  ·intro v_ h;rcases Ad h with ⟨q10,h⟩ | ⟨q10,h⟩
   ·have q10_:=of_decide_eq_true q10;refine Aa 11 ?_;refine rz0 (ai ((l7_m11:Nat):Int)) ?_;refine rz0 (ai a2) ?_;refine rz0 (.bool (decide (((l7_m11:Nat):Int)<a2))) ?_;refine rz0 (.bool (decide (((l7_m11:Nat):Int)<a2))) ?_;refine rs0 (ai ((l7_m9:Nat):Int)) (zg q10) ?_;refine rsl (.own (oi 0 0) (.slice .int) 0 l7_p0.length) (zg q10) ?_;refine rs0 (ai ((l7_p0.length:Nat):Int)) (zg q10) ?_;refine rs0 (.bool (decide (((l7_m9:Nat):Int)<((l7_p0.length:Nat):Int)))) (zg q10) ?_;refine rs0 (.bool (decide (((l7_m9:Nat):Int)<((l7_p0.length:Nat):Int)))) (zT q10) ?_;refine Ao (tn_ ?_);obtain rfl:=zj h;exact ⟨_,Ac [],rfl⟩
   have q10_:=of_decide_eq_false q10;refine Aa 11 ?_;refine rz0 (ai ((l7_m11:Nat):Int)) ?_;refine rz0 (ai a2) ?_;refine rz0 (.bool (decide (((l7_m11:Nat):Int)<a2))) ?_;refine rz0 (.bool (decide (((l7_m11:Nat):Int)<a2))) ?_;refine zs q10 ?_;refine zs q10 ?_;refine zs q10 ?_;refine zs q10 ?_;refine rs0 (.bool false) (zF q10) ?_;refine Ao (tn_ ?_);obtain rfl:=zj h;exact ⟨_,Ac [],rfl⟩
  rintro l9_m23 _ rfl h
  (try dsimp only at h);rcases Ad h with ⟨q11,h⟩ | ⟨q11,h⟩
  ·refine Af q11 ?_;refine Ai (tn_ ?_);refine wr_ ?_;refine Ax h (fun t_ S_=>∃ (l12_m9:Nat),∃ (l12_p0:List (List Int)),∃ (l12_p2:List (List Int)),t_=(l12_m9,l12_p0,l12_p2)∧S_=⟨An [(2,ai a2),(5,.box (oi 0 1) 0),(9,ai ((l12_m9:Nat):Int)),(10,.fn 97 [.box (oi 1 1) 0,.box (oi 0 1) 0,.box (oi 2 1) 0]),(11,ai ((l7_m11:Nat):Int))],Aj (Ap [(oi 0 1,.cells 25 [.own (oi 0 0) (.slice .int) 0 l12_p0.length]),(oi 1 1,.cells 3 [ai a0]),(oi 2 1,.cells 25 [.own (oi 2 0) (.slice .int) 0 l12_p2.length]),(oi 0 0,.mat 79 (oi 3 1) .int l12_p0),(oi 3 1,.pool 3 .int l12_p0),(oi 2 0,.mat 79 (oi 4 1) .int l12_p2),(oi 4 1,.pool 3 .int l12_p2)]),2⟩) ?_ ?_
   ·intro v_ h;refine Al ?_;refine Ak ?_;refine Ax h (fun (l14_m12:Nat) S_=>S_=⟨An [(2,ai a2),(5,.box (oi 0 1) 0),(9,ai ((l7_m9:Nat):Int)),(10,.fn 97 [.box (oi 1 1) 0,.box (oi 0 1) 0,.box (oi 2 1) 0]),(11,ai ((l7_m11:Nat):Int)),(12,ai ((l14_m12:Nat):Int))],Aj (Ap [(oi 0 1,.cells 25 [.own (oi 0 0) (.slice .int) 0 l7_p0.length]),(oi 1 1,.cells 3 [ai a0]),(oi 2 1,.cells 25 [.own (oi 2 0) (.slice .int) 0 l7_p2.length]),(oi 0 0,.mat 79 (oi 3 1) .int l7_p0),(oi 3 1,.pool 3 .int l7_p0),(oi 2 0,.mat 79 (oi 4 1) .int l7_p2),(oi 4 1,.pool 3 .int l7_p2)]),2⟩) ?_ ?_
    ·intro v_ h;refine Al ?_;refine A6 h (fun (l15_m12:Nat) S_=>S_=⟨An [(2,ai a2),(5,.box (oi 0 1) 0),(9,ai ((l7_m9:Nat):Int)),(10,.fn 97 [.box (oi 1 1) 0,.box (oi 0 1) 0,.box (oi 2 1) 0]),(11,ai ((l7_m11:Nat):Int)),(12,ai ((l15_m12:Nat):Int))],Aj (Ap [(oi 0 1,.cells 25 [.own (oi 0 0) (.slice .int) 0 l7_p0.length]),(oi 1 1,.cells 3 [ai a0]),(oi 2 1,.cells 25 [.own (oi 2 0) (.slice .int) 0 l7_p2.length]),(oi 0 0,.mat 79 (oi 3 1) .int l7_p0),(oi 3 1,.pool 3 .int l7_p0),(oi 2 0,.mat 79 (oi 4 1) .int l7_p2),(oi 4 1,.pool 3 .int l7_p2)]),2⟩) ⟨_,Ac [],rfl⟩ ?_;rintro n_ l15_m12 _ c_ rfl h hn15
     (try dsimp only at h);unfold Cf at h;unfold Jm;refine Ab ?_;refine Ax h (fun (l17_m40:Bool) S_=>S_=⟨An [(2,ai a2),(5,.box (oi 0 1) 0),(9,ai ((l7_m9:Nat):Int)),(10,.fn 97 [.box (oi 1 1) 0,.box (oi 0 1) 0,.box (oi 2 1) 0]),(11,ai ((l7_m11:Nat):Int)),(12,ai ((l15_m12:Nat):Int)),(40,.bool l17_m40)],Aj (Ap [(oi 0 1,.cells 25 [.own (oi 0 0) (.slice .int) 0 l7_p0.length]),(oi 1 1,.cells 3 [ai a0]),(oi 2 1,.cells 25 [.own (oi 2 0) (.slice .int) 0 l7_p2.length]),(oi 0 0,.mat 79 (oi 3 1) .int l7_p0),(oi 3 1,.pool 3 .int l7_p0),(oi 2 0,.mat 79 (oi 4 1) .int l7_p2),(oi 4 1,.pool 3 .int l7_p2)]),2⟩) ?_ ?_
     ·intro v_ h;rcases Ad h with ⟨q18,h⟩ | ⟨q18,h⟩
      ·have q18_:=of_decide_eq_true q18;obtain ⟨x19,e19,h⟩:=Ag h;obtain ⟨x20,e20,h⟩:=Ag h;refine Aa 16 ?_;refine rz0 (ai ((l15_m12:Nat):Int)) ?_;refine rzl (.own (oi 0 0) (.slice .int) 0 l7_p0.length) ?_;refine rz0 (ai ((l7_p0.length:Nat):Int)) ?_;refine rz0 (.bool (decide (((l15_m12:Nat):Int)<((l7_p0.length:Nat):Int)))) ?_;refine rz0 (.bool (decide (((l15_m12:Nat):Int)<((l7_p0.length:Nat):Int)))) ?_;refine rsl (.own (oi 0 0) (.slice .int) 0 l7_p0.length) (zg q18) ?_;refine rs0 (ai ((l15_m12:Nat):Int)) (zg q18) ?_;refine rs0 (.elt (oi 0 0) l15_m12 0) (Fl (by kernel_rfl) q18 (zo (t:=.slice .int) (o:=oi 0 0) (len:=l7_p0.length) (k:=.i64) (m:=((l15_m12:Nat):Int)) (Ay _) (Au e19))) ?_;refine rsl (.own (kid (oi 3 1) l15_m12) .int 0 x19.length) (Fl (by kernel_rfl) q18 (F0 (o:=oi 0 0) (p:=oi 3 1) (e1:=79) (u:=.int) (xss:=l7_p0) (row:=x19) (j:=l15_m12) (by kernel_rfl) (by kernel_rfl) e19)) ?_;refine rs0 (ai ((l7_m11:Nat):Int)) (zg q18) ?_;refine rs0 (.elt (kid (oi 3 1) l15_m12) l7_m11 0) (Fl (by kernel_rfl) q18 (zo (t:=.int) (o:=kid (oi 3 1) l15_m12) (len:=x19.length) (k:=.i64) (m:=((l7_m11:Nat):Int)) (Ay _) (Au e20))) ?_;refine rsl (ai x20) (Fl (by kernel_rfl) q18 (Dd (i:=kid (oi 3 1) l15_m12) (j:=l7_m11) (k:=0) (e:=3) (t:=.int) (xs:=x19) (by kernel_rfl) (Bp (by kernel_rfl) e19) e20 (by kernel_rfl))) ?_;refine rs0 (.bool (x20==0)) (zg q18) ?_;refine rs0 (.bool (x20==0)) (zT q18) ?_;refine Ao (tn_ ?_);obtain rfl:=zj h;exact ⟨_,Ac [],rfl⟩
      have q18_:=of_decide_eq_false q18;refine Aa 16 ?_;refine rz0 (ai ((l15_m12:Nat):Int)) ?_;refine rzl (.own (oi 0 0) (.slice .int) 0 l7_p0.length) ?_;refine rz0 (ai ((l7_p0.length:Nat):Int)) ?_;refine rz0 (.bool (decide (((l15_m12:Nat):Int)<((l7_p0.length:Nat):Int)))) ?_;refine rz0 (.bool (decide (((l15_m12:Nat):Int)<((l7_p0.length:Nat):Int)))) ?_;refine zs q18 ?_;refine zs q18 ?_;refine zs q18 ?_;refine zs q18 ?_;refine zs q18 ?_;refine zs q18 ?_;refine zs q18 ?_;refine zs q18 ?_;refine rs0 (.bool false) (zF q18) ?_;refine Ao (tn_ ?_);obtain rfl:=zj h;exact ⟨_,Ac [],rfl⟩
     rintro l17_m40 _ rfl h
     (try dsimp only at h);rcases Ad h with ⟨q21,h⟩ | ⟨q21,h⟩
     ·refine Af q21 ?_;refine Ai (tn_ ?_);refine wr_ ?_;refine Al ?_;obtain ⟨g22,h⟩:=Av h;refine Aa 5 ?_;refine rz0 (ai ((l15_m12:Nat):Int)) ?_;refine rs0 (ai ((l15_m12+1:Nat):Int)) (za g22) ?_;refine rsB 1 ?_;refine Ao (bn_ (tn_ ?_));obtain rfl:=zj h;exact ⟨l15_m12+1,_,Ac [],rfl,hn15⟩
     refine Ae q21 ?_;refine Az (te_ (te_ (be_ (tn_ ?_))));obtain rfl:=zj h;have h:=hn15
     (try dsimp only at h);obtain rfl:=zj h;exact ⟨_,Ac [],rfl⟩
    rintro l14_m12 _ rfl h
    (try dsimp only at h);refine Ab ?_;refine Ak ?_;rcases Ad h with ⟨q25,h⟩ | ⟨q25,h⟩
    ·refine Af q25 ?_;refine Az (te_ (be_ (tn_ ?_)));obtain rfl:=zj h;exact ⟨_,Ac [],⟨l7_m9,l7_p0,l7_p2,rfl,rfl⟩⟩
    refine Ae q25 ?_;refine Ai (tn_ ?_);refine wr_ ?_;refine Ab ?_;obtain ⟨y27,h27,h⟩:=Ag h;refine Aa 11 ?_;refine rz0 (.fn 97 [.box (oi 1 1) 0,.box (oi 0 1) 0,.box (oi 2 1) 0]) ?_;refine rz0 (ai ((l7_m9:Nat):Int)) ?_;refine rz0 (ai ((l14_m12:Nat):Int)) ?_;refine rz0 (.agg [ai 0,ai ((l7_m9:Nat):Int),ai ((l14_m12:Nat):Int),ai 0]) ?_;refine Ks (.tup []) [(oi 1 1,some (.cells 3 [ai a0])),(oi 0 1,some (.cells 25 [.own (oi 0 0) (.slice .int) 0 y27.1.length])),(oi 0 0,some (.mat 79 (oi 816 10) .int y27.1)),(oi 816 10,some (.pool 3 .int y27.1)),(oi 2 1,some (.cells 25 [.own (oi 2 0) (.slice .int) 0 y27.2.length])),(oi 2 0,some (.mat 79 (oi 817 10) .int y27.2)),(oi 817 10,some (.pool 3 .int y27.2)),(oi 1 1,none),(oi 0 1,none),(oi 0 0,none),(oi 3 1,some (.pool 3 .int [])),(oi 2 1,none),(oi 2 0,none),(oi 4 1,some (.pool 3 .int []))] [(oi 0 0,oi 1 1),(oi 1 0,oi 0 1),(oi 2 0,oi 0 0),(oi 3 0,oi 3 1),(oi 4 0,oi 2 1),(oi 5 0,oi 2 0),(oi 6 0,oi 4 1)] [.agg [ai 0,ai ((l7_m9:Nat):Int),ai ((l14_m12:Nat):Int),ai 0],.box (oi 1 1) 0,.box (oi 0 1) 0,.box (oi 2 1) 0] (caps:=[.box (oi 1 1) 0,.box (oi 0 1) 0,.box (oi 2 1) 0]) trivial (G4 h27) G2 ⟨by kernel_rfl,⟨by kernel_rfl,⟨by kernel_rfl,⟨by kernel_rfl,⟨by kernel_rfl,⟨by kernel_rfl,⟨by kernel_rfl,trivial⟩⟩⟩⟩⟩⟩⟩ (.cons (.ren (by kernel_rfl)) (.cons (.ren (by kernel_rfl)) (.cons (.ren (by kernel_rfl)) (.cons (.ren (by kernel_rfl)) .nil)))) (Ca (by kernel_rfl) (by kernel_rfl) ⟨Cc (by kernel_rfl),⟨Cc (by kernel_rfl),⟨Fp (k:=oi 0 1) (ty:=25) (cs:=[.own (oi 0 0) (.slice .int) 0 l7_p0.length]) (Cc (by kernel_rfl)) (by kernel_rfl) (by kernel_rfl),⟨Ip (o:=oi 0 0) (p:=oi 3 1) (e1:=79) (m:=l7_p0.length) (u:=.int) (xss:=l7_p0) (Fp (k:=oi 0 1) (ty:=25) (cs:=[.own (oi 0 0) (.slice .int) 0 l7_p0.length]) (Cc (by kernel_rfl)) (by kernel_rfl) (by kernel_rfl)) (by kernel_rfl),⟨Cc (by kernel_rfl),⟨Fp (k:=oi 2 1) (ty:=25) (cs:=[.own (oi 2 0) (.slice .int) 0 l7_p2.length]) (Cc (by kernel_rfl)) (by kernel_rfl) (by kernel_rfl),⟨Ip (o:=oi 2 0) (p:=oi 4 1) (e1:=79) (m:=l7_p2.length) (u:=.int) (xss:=l7_p2) (Fp (k:=oi 2 1) (ty:=25) (cs:=[.own (oi 2 0) (.slice .int) 0 l7_p2.length]) (Cc (by kernel_rfl)) (by kernel_rfl) (by kernel_rfl)) (by kernel_rfl),trivial⟩⟩⟩⟩⟩⟩⟩) ?_;refine Ao (tn_ ?_);refine wr_ ?_;refine Ab ?_;obtain ⟨x29,e29,h⟩:=Ag h;obtain ⟨x30,e30,h⟩:=Ag h;obtain ⟨y31,h31,h⟩:=Ag h;refine Aa 22 ?_;refine rz0 (.fn 97 [.box (oi 1 1) 0,.box (oi 0 1) 0,.box (oi 2 1) 0]) ?_;refine rz0 (ai ((l7_m9:Nat):Int)) ?_;refine rzl (.own (oi 0 0) (.slice .int) 0 y27.1.length) ?_;refine rz0 (ai ((l7_m9:Nat):Int)) ?_;refine rs0 (.elt (oi 0 0) l7_m9 0) (zo (t:=.slice .int) (o:=oi 0 0) (len:=y27.1.length) (k:=.i64) (m:=((l7_m9:Nat):Int)) (Ay _) (Au e29)) ?_;refine rsl (.own (kid (oi 816 10) l7_m9) .int 0 x29.length) (F0 (o:=oi 0 0) (p:=oi 816 10) (e1:=79) (u:=.int) (xss:=y27.1) (row:=x29) (j:=l7_m9) (by kernel_rfl) (by kernel_rfl) e29) ?_;refine rz0 (ai ((l7_m11:Nat):Int)) ?_;refine rs0 (.elt (kid (oi 816 10) l7_m9) l7_m11 0) (zo (t:=.int) (o:=kid (oi 816 10) l7_m9) (len:=x29.length) (k:=.i64) (m:=((l7_m11:Nat):Int)) (Ay _) (Au e30)) ?_;refine rsl (ai x30) (Dd (i:=kid (oi 816 10) l7_m9) (j:=l7_m11) (k:=0) (e:=3) (t:=.int) (xs:=x29) (by kernel_rfl) (Bp (by kernel_rfl) e29) e30 (by kernel_rfl)) ?_;refine rz0 (.agg [ai 1,ai ((l7_m9:Nat):Int),ai 0,ai x30]) ?_;refine Ks (.tup []) [(oi 1 1,some (.cells 3 [ai a0])),(oi 0 1,some (.cells 25 [.own (oi 0 0) (.slice .int) 0 y31.1.length])),(oi 0 0,some (.mat 79 (oi 992 21) .int y31.1)),(oi 992 21,some (.pool 3 .int y31.1)),(oi 2 1,some (.cells 25 [.own (oi 2 0) (.slice .int) 0 y31.2.length])),(oi 2 0,some (.mat 79 (oi 993 21) .int y31.2)),(oi 993 21,some (.pool 3 .int y31.2)),(oi 1 1,none),(oi 0 1,none),(oi 0 0,none),(oi 816 10,some (.pool 3 .int [])),(oi 2 1,none),(oi 2 0,none),(oi 817 10,some (.pool 3 .int []))] [(oi 0 0,oi 1 1),(oi 1 0,oi 0 1),(oi 2 0,oi 0 0),(oi 3 0,oi 816 10),(oi 4 0,oi 2 1),(oi 5 0,oi 2 0),(oi 6 0,oi 817 10)] [.agg [ai 1,ai ((l7_m9:Nat):Int),ai 0,ai x30],.box (oi 1 1) 0,.box (oi 0 1) 0,.box (oi 2 1) 0] (caps:=[.box (oi 1 1) 0,.box (oi 0 1) 0,.box (oi 2 1) 0]) trivial (G4 h31) G2 ⟨by kernel_rfl,⟨by kernel_rfl,⟨by kernel_rfl,⟨by kernel_rfl,⟨by kernel_rfl,⟨by kernel_rfl,⟨by kernel_rfl,trivial⟩⟩⟩⟩⟩⟩⟩ (.cons (.ren (by kernel_rfl)) (.cons (.ren (by kernel_rfl)) (.cons (.ren (by kernel_rfl)) (.cons (.ren (by kernel_rfl)) .nil)))) (Ca (by kernel_rfl) (by kernel_rfl) ⟨Cc (by kernel_rfl),⟨Cc (by kernel_rfl),⟨Fp (k:=oi 0 1) (ty:=25) (cs:=[.own (oi 0 0) (.slice .int) 0 y27.1.length]) (Cc (by kernel_rfl)) (by kernel_rfl) (by kernel_rfl),⟨Ip (o:=oi 0 0) (p:=oi 816 10) (e1:=79) (m:=y27.1.length) (u:=.int) (xss:=y27.1) (Fp (k:=oi 0 1) (ty:=25) (cs:=[.own (oi 0 0) (.slice .int) 0 y27.1.length]) (Cc (by kernel_rfl)) (by kernel_rfl) (by kernel_rfl)) (by kernel_rfl),⟨Cc (by kernel_rfl),⟨Fp (k:=oi 2 1) (ty:=25) (cs:=[.own (oi 2 0) (.slice .int) 0 y27.2.length]) (Cc (by kernel_rfl)) (by kernel_rfl) (by kernel_rfl),⟨Ip (o:=oi 2 0) (p:=oi 817 10) (e1:=79) (m:=y27.2.length) (u:=.int) (xss:=y27.2) (Fp (k:=oi 2 1) (ty:=25) (cs:=[.own (oi 2 0) (.slice .int) 0 y27.2.length]) (Cc (by kernel_rfl)) (by kernel_rfl) (by kernel_rfl)) (by kernel_rfl),trivial⟩⟩⟩⟩⟩⟩⟩) ?_;refine Ao (tn_ ?_);refine wr_ ?_;refine Ax h (fun t_ S_=>∃ (l32_p0:List (List Int)),∃ (l32_p2:List (List Int)),t_=(l32_p0,l32_p2)∧S_=⟨An [(2,ai a2),(5,.box (oi 0 1) 0),(9,ai ((l7_m9:Nat):Int)),(10,.fn 97 [.box (oi 1 1) 0,.box (oi 0 1) 0,.box (oi 2 1) 0]),(11,ai ((l7_m11:Nat):Int))],Aj (Ap [(oi 0 1,.cells 25 [.own (oi 0 0) (.slice .int) 0 l32_p0.length]),(oi 1 1,.cells 3 [ai a0]),(oi 2 1,.cells 25 [.own (oi 2 0) (.slice .int) 0 l32_p2.length]),(oi 0 0,.mat 79 (oi 3 1) .int l32_p0),(oi 3 1,.pool 3 .int l32_p0),(oi 2 0,.mat 79 (oi 4 1) .int l32_p2),(oi 4 1,.pool 3 .int l32_p2)]),2⟩) ?_ ?_
    ·intro v_ h;refine Ak ?_;refine Al ?_;refine A6 h (fun t_ S_=>∃ (l34_m65:Nat),∃ (l34_p0:List (List Int)),∃ (l34_p2:List (List Int)),t_=(l34_m65,l34_p0,l34_p2)∧S_=⟨An [(2,ai a2),(5,.box (oi 0 1) 0),(9,ai ((l7_m9:Nat):Int)),(10,.fn 97 [.box (oi 1 1) 0,.box (oi 0 1) 0,.box (oi 2 1) 0]),(11,ai ((l7_m11:Nat):Int)),(64,ai ((y31.1.length:Nat):Int)),(65,ai ((l34_m65:Nat):Int))],Aj (Ap [(oi 0 1,.cells 25 [.own (oi 0 0) (.slice .int) 0 l34_p0.length]),(oi 1 1,.cells 3 [ai a0]),(oi 2 1,.cells 25 [.own (oi 2 0) (.slice .int) 0 l34_p2.length]),(oi 0 0,.mat 79 (oi 3 1) .int l34_p0),(oi 3 1,.pool 3 .int l34_p0),(oi 2 0,.mat 79 (oi 4 1) .int l34_p2),(oi 4 1,.pool 3 .int l34_p2)]),2⟩) ⟨_,Ac [(oi 3 1,oi 992 21),(oi 4 1,oi 993 21)],⟨0,y31.1,y31.2,rfl,rfl⟩⟩ ?_;rintro n_ _ _ c_ ⟨l34_m65,l34_p0,l34_p2,rfl,rfl⟩ h hn34
     (try dsimp only at h);unfold C7 at h;unfold Jo;refine Ak ?_;refine Ab ?_;rcases Ad h with ⟨q37,h⟩ | ⟨q37,h⟩
     ·have q37_:=of_decide_eq_true q37;refine Af q37 ?_;refine Ai (tn_ ?_);refine wr_ ?_;refine Ax h (fun t_ S_=>∃ (l38_p0:List (List Int)),∃ (l38_p2:List (List Int)),t_=(l38_p0,l38_p2)∧S_=⟨An [(2,ai a2),(5,.box (oi 0 1) 0),(9,ai ((l7_m9:Nat):Int)),(10,.fn 97 [.box (oi 1 1) 0,.box (oi 0 1) 0,.box (oi 2 1) 0]),(11,ai ((l7_m11:Nat):Int)),(64,ai ((y31.1.length:Nat):Int)),(65,ai ((l34_m65:Nat):Int))],Aj (Ap [(oi 0 1,.cells 25 [.own (oi 0 0) (.slice .int) 0 l38_p0.length]),(oi 1 1,.cells 3 [ai a0]),(oi 2 1,.cells 25 [.own (oi 2 0) (.slice .int) 0 l38_p2.length]),(oi 0 0,.mat 79 (oi 3 1) .int l38_p0),(oi 3 1,.pool 3 .int l38_p0),(oi 2 0,.mat 79 (oi 4 1) .int l38_p2),(oi 4 1,.pool 3 .int l38_p2)]),2⟩) ?_ ?_
      ·intro v_ h;refine Al ?_;refine Ak ?_;refine Ax h (fun (l40_m80:Bool) S_=>S_=⟨An [(2,ai a2),(5,.box (oi 0 1) 0),(9,ai ((l7_m9:Nat):Int)),(10,.fn 97 [.box (oi 1 1) 0,.box (oi 0 1) 0,.box (oi 2 1) 0]),(11,ai ((l7_m11:Nat):Int)),(13,ai ((l34_m65:Nat):Int)),(64,ai ((y31.1.length:Nat):Int)),(65,ai ((l34_m65:Nat):Int)),(80,.bool l40_m80)],Aj (Ap [(oi 0 1,.cells 25 [.own (oi 0 0) (.slice .int) 0 l34_p0.length]),(oi 1 1,.cells 3 [ai a0]),(oi 2 1,.cells 25 [.own (oi 2 0) (.slice .int) 0 l34_p2.length]),(oi 0 0,.mat 79 (oi 3 1) .int l34_p0),(oi 3 1,.pool 3 .int l34_p0),(oi 2 0,.mat 79 (oi 4 1) .int l34_p2),(oi 4 1,.pool 3 .int l34_p2)]),2⟩) ?_ ?_
       ·intro v_ h;rcases Ad h with ⟨q41,h⟩ | ⟨q41,h⟩
        ·obtain ⟨x42,e42,h⟩:=Ag h;obtain ⟨x43,e43,h⟩:=Ag h;refine Aa 18 ?_;refine rz0 (ai ((l34_m65:Nat):Int)) ?_;refine rz0 (ai ((l7_m9:Nat):Int)) ?_;refine rz0 (.bool (((l34_m65:Nat):Int) !=((l7_m9:Nat):Int))) ?_;refine rz0 (.bool (((l34_m65:Nat):Int) !=((l7_m9:Nat):Int))) ?_;refine rsl (.own (oi 0 0) (.slice .int) 0 l34_p0.length) (zg q41) ?_;refine rs0 (ai ((l34_m65:Nat):Int)) (zg q41) ?_;refine rs0 (.elt (oi 0 0) l34_m65 0) (Fl (by kernel_rfl) q41 (zo (t:=.slice .int) (o:=oi 0 0) (len:=l34_p0.length) (k:=.i64) (m:=((l34_m65:Nat):Int)) (Ay _) (Au e42))) ?_;refine rsl (.own (kid (oi 3 1) l34_m65) .int 0 x42.length) (Fl (by kernel_rfl) q41 (F0 (o:=oi 0 0) (p:=oi 3 1) (e1:=79) (u:=.int) (xss:=l34_p0) (row:=x42) (j:=l34_m65) (by kernel_rfl) (by kernel_rfl) e42)) ?_;refine rs0 (ai ((l7_m11:Nat):Int)) (zg q41) ?_;refine rs0 (.elt (kid (oi 3 1) l34_m65) l7_m11 0) (Fl (by kernel_rfl) q41 (zo (t:=.int) (o:=kid (oi 3 1) l34_m65) (len:=x42.length) (k:=.i64) (m:=((l7_m11:Nat):Int)) (Ay _) (Au e43))) ?_;refine rsl (ai x43) (Fl (by kernel_rfl) q41 (Dd (i:=kid (oi 3 1) l34_m65) (j:=l7_m11) (k:=0) (e:=3) (t:=.int) (xs:=x42) (by kernel_rfl) (Bp (by kernel_rfl) e42) e43 (by kernel_rfl))) ?_;refine rs0 (.bool (x43 !=0)) (zg q41) ?_;refine rs0 (.bool (x43 !=0)) (zT q41) ?_;refine Ao (tn_ ?_);obtain rfl:=zj h;exact ⟨_,Ac [],rfl⟩
        refine Aa 18 ?_;refine rz0 (ai ((l34_m65:Nat):Int)) ?_;refine rz0 (ai ((l7_m9:Nat):Int)) ?_;refine rz0 (.bool (((l34_m65:Nat):Int) !=((l7_m9:Nat):Int))) ?_;refine rz0 (.bool (((l34_m65:Nat):Int) !=((l7_m9:Nat):Int))) ?_;refine zs q41 ?_;refine zs q41 ?_;refine zs q41 ?_;refine zs q41 ?_;refine zs q41 ?_;refine zs q41 ?_;refine zs q41 ?_;refine zs q41 ?_;refine rs0 (.bool false) (zF q41) ?_;refine Ao (tn_ ?_);obtain rfl:=zj h;exact ⟨_,Ac [],rfl⟩
       rintro l40_m80 _ rfl h
       (try dsimp only at h);rcases Ad h with ⟨q44,h⟩ | ⟨q44,h⟩
       ·refine Af q44 ?_;obtain ⟨x45,e45,h⟩:=Ag h;obtain ⟨x46,e46,h⟩:=Ag h;obtain ⟨y47,h47,h⟩:=Ag h;refine Aa 14 ?_;refine rz0 (.fn 97 [.box (oi 1 1) 0,.box (oi 0 1) 0,.box (oi 2 1) 0]) ?_;refine rz0 (ai ((l34_m65:Nat):Int)) ?_;refine rz0 (ai ((l7_m9:Nat):Int)) ?_;refine rzl (.own (oi 0 0) (.slice .int) 0 l34_p0.length) ?_;refine rz0 (ai ((l34_m65:Nat):Int)) ?_;refine rs0 (.elt (oi 0 0) l34_m65 0) (zo (t:=.slice .int) (o:=oi 0 0) (len:=l34_p0.length) (k:=.i64) (m:=((l34_m65:Nat):Int)) (Ay _) (Au e45)) ?_;refine rsl (.own (kid (oi 3 1) l34_m65) .int 0 x45.length) (F0 (o:=oi 0 0) (p:=oi 3 1) (e1:=79) (u:=.int) (xss:=l34_p0) (row:=x45) (j:=l34_m65) (by kernel_rfl) (by kernel_rfl) e45) ?_;refine rz0 (ai ((l7_m11:Nat):Int)) ?_;refine rs0 (.elt (kid (oi 3 1) l34_m65) l7_m11 0) (zo (t:=.int) (o:=kid (oi 3 1) l34_m65) (len:=x45.length) (k:=.i64) (m:=((l7_m11:Nat):Int)) (Ay _) (Au e46)) ?_;refine rsl (ai x46) (Dd (i:=kid (oi 3 1) l34_m65) (j:=l7_m11) (k:=0) (e:=3) (t:=.int) (xs:=x45) (by kernel_rfl) (Bp (by kernel_rfl) e45) e46 (by kernel_rfl)) ?_;refine rz0 (.agg [ai 2,ai ((l34_m65:Nat):Int),ai ((l7_m9:Nat):Int),ai x46]) ?_;refine Ks (.tup []) [(oi 1 1,some (.cells 3 [ai a0])),(oi 0 1,some (.cells 25 [.own (oi 0 0) (.slice .int) 0 y47.1.length])),(oi 0 0,some (.mat 79 (oi 1472 13) .int y47.1)),(oi 1472 13,some (.pool 3 .int y47.1)),(oi 2 1,some (.cells 25 [.own (oi 2 0) (.slice .int) 0 y47.2.length])),(oi 2 0,some (.mat 79 (oi 1473 13) .int y47.2)),(oi 1473 13,some (.pool 3 .int y47.2)),(oi 1 1,none),(oi 0 1,none),(oi 0 0,none),(oi 3 1,some (.pool 3 .int [])),(oi 2 1,none),(oi 2 0,none),(oi 4 1,some (.pool 3 .int []))] [(oi 0 0,oi 1 1),(oi 1 0,oi 0 1),(oi 2 0,oi 0 0),(oi 3 0,oi 3 1),(oi 4 0,oi 2 1),(oi 5 0,oi 2 0),(oi 6 0,oi 4 1)] [.agg [ai 2,ai ((l34_m65:Nat):Int),ai ((l7_m9:Nat):Int),ai x46],.box (oi 1 1) 0,.box (oi 0 1) 0,.box (oi 2 1) 0] (caps:=[.box (oi 1 1) 0,.box (oi 0 1) 0,.box (oi 2 1) 0]) trivial (G4 h47) G2 ⟨by kernel_rfl,⟨by kernel_rfl,⟨by kernel_rfl,⟨by kernel_rfl,⟨by kernel_rfl,⟨by kernel_rfl,⟨by kernel_rfl,trivial⟩⟩⟩⟩⟩⟩⟩ (.cons (.ren (by kernel_rfl)) (.cons (.ren (by kernel_rfl)) (.cons (.ren (by kernel_rfl)) (.cons (.ren (by kernel_rfl)) .nil)))) (Ca (by kernel_rfl) (by kernel_rfl) ⟨Cc (by kernel_rfl),⟨Cc (by kernel_rfl),⟨Fp (k:=oi 0 1) (ty:=25) (cs:=[.own (oi 0 0) (.slice .int) 0 l34_p0.length]) (Cc (by kernel_rfl)) (by kernel_rfl) (by kernel_rfl),⟨Ip (o:=oi 0 0) (p:=oi 3 1) (e1:=79) (m:=l34_p0.length) (u:=.int) (xss:=l34_p0) (Fp (k:=oi 0 1) (ty:=25) (cs:=[.own (oi 0 0) (.slice .int) 0 l34_p0.length]) (Cc (by kernel_rfl)) (by kernel_rfl) (by kernel_rfl)) (by kernel_rfl),⟨Cc (by kernel_rfl),⟨Fp (k:=oi 2 1) (ty:=25) (cs:=[.own (oi 2 0) (.slice .int) 0 l34_p2.length]) (Cc (by kernel_rfl)) (by kernel_rfl) (by kernel_rfl),⟨Ip (o:=oi 2 0) (p:=oi 4 1) (e1:=79) (m:=l34_p2.length) (u:=.int) (xss:=l34_p2) (Fp (k:=oi 2 1) (ty:=25) (cs:=[.own (oi 2 0) (.slice .int) 0 l34_p2.length]) (Cc (by kernel_rfl)) (by kernel_rfl) (by kernel_rfl)) (by kernel_rfl),trivial⟩⟩⟩⟩⟩⟩⟩) ?_;refine Ao (bn_ (tn_ ?_));obtain rfl:=zj h;exact ⟨_,Ac [(oi 3 1,oi 1472 13),(oi 4 1,oi 1473 13)],⟨y47.1,y47.2,rfl,rfl⟩⟩
       refine Ae q44 ?_;refine Ai (bn_ (tn_ ?_));obtain rfl:=zj h;exact ⟨_,Ac [],⟨l34_p0,l34_p2,rfl,rfl⟩⟩
      rintro _ _ ⟨l38_p0,l38_p2,rfl,rfl⟩ h
      (try dsimp only at h);obtain ⟨g48,h⟩:=Av h;refine Aa 4 ?_;refine rs0 (ai ((l34_m65+1:Nat):Int)) (za g48) ?_;refine rsB 1 ?_;refine Ao (tn_ ?_);obtain rfl:=zj h;exact ⟨(l34_m65+1,l38_p0,l38_p2),_,Ac [],⟨l34_m65+1,l38_p0,l38_p2,rfl,rfl⟩,hn34⟩
     have q37_:=of_decide_eq_false q37;refine Ae q37 ?_;refine Az (te_ (te_ (be_ (tn_ ?_))));obtain rfl:=zj h;have h:=hn34
     (try dsimp only at h);obtain rfl:=zj h;exact ⟨_,Ac [],⟨l34_p0,l34_p2,rfl,rfl⟩⟩
    rintro _ _ ⟨l32_p0,l32_p2,rfl,rfl⟩ h
    (try dsimp only at h);obtain ⟨g49,h⟩:=Av h;refine Aa 5 ?_;refine rz0 (ai ((l7_m9:Nat):Int)) ?_;refine rs0 (ai ((l7_m9+1:Nat):Int)) (za g49) ?_;refine rsB 1 ?_;refine Ao (bn_ (tn_ ?_));obtain rfl:=zj h;exact ⟨_,Ac [],⟨l7_m9+1,l32_p0,l32_p2,rfl,rfl⟩⟩
   rintro _ _ ⟨l12_m9,l12_p0,l12_p2,rfl,rfl⟩ h
   (try dsimp only at h);obtain ⟨g50,h⟩:=Av h;refine Aa 5 ?_;refine rz0 (ai ((l7_m11:Nat):Int)) ?_;refine rs0 (ai ((l7_m11+1:Nat):Int)) (za g50) ?_;refine rsB 1 ?_;refine Ao (tn_ ?_);obtain rfl:=zj h;exact ⟨(l12_m9,l7_m11+1,l12_p0,l12_p2),_,Ac [],⟨l12_m9,l7_m11+1,l12_p0,l12_p2,rfl,rfl⟩,hn7⟩
  refine Ae q11 ?_;refine Az (te_ (te_ (be_ (tn_ ?_))));obtain rfl:=zj h;have h:=hn7
  (try dsimp only at h);obtain rfl:=zj h;exact ⟨_,Ac [(oi 0 1,oi 3 1),(oi 1 1,oi 4 1)],⟨l7_m9,l7_p0,l7_p2,rfl,rfl⟩⟩
 rintro _ _ ⟨l5_m9,l5_p0,l5_p2,rfl,rfl⟩ h
 (try dsimp only at h);refine Ak ?_;refine Ah ?_;obtain rfl:=zj h;exact Mq [ai ((l5_m9:Nat):Int)] (Ac (tl:=[(8,ai ((l5_m9:Nat):Int))]) (g:=2) [])
end
section
open Go.RowKit Go.Deep
set_option maxRecDepth 4000
def Lt:AC :=
 (.seq (.seq (rg [xo 12 (qm (tm 5)),xo 13 (qm (tm 0)),xo 14 (.i (.len (tm 13))),xo 15 (qb .lss (tm 12) (tm 14))])
 (.cond (tm 15)
  .skip
  (.exit 0)))
 (.seq (.block 1 (.seq (rg [xo 18 (qm (tm 0)),xo 19 (qm (tm 5)),xo 20 (qx 1 (tm 18) (tm 19)),xo 21 (ql (tm 20)),xo 22 (qm (tm 1)),xo 23 (qc 45 [tm 21,tm 22] [[some .int],[]]),xo 1 (qm (tm 23))])
 (.seq (rg [xo 24 (qm (tm 1)),xo 25 (qb .lss (tm 24) (ci 0))])
 (.cond (tm 25)
  (.seq (rg [xo 4 (qm (ci (-1)))])
  .ret)
  .skip))))
 (rg [xo 16 (qm (tm 5)),xo 17 (qb .add (tm 16) (ci 1)),xo 5 (qm (tm 17))])))
def Ou:AC :=
 (.seq (rg [xo 4 (qm (ci 0))])
 (.seq (rg [xo 6 (qm (tm 1)),xo 7 (qm (tm 0)),xo 8 (.i (.len (tm 7))),xo 9 (qb .sub (tm 6) (tm 8)),xo 1 (qm (tm 9))])
 (.seq (.seq (rg [xo 10 (qm (tm 1)),xo 11 (qb .lss (tm 10) (ci 0))])
 (.cond (tm 11)
  (.seq (rg [xo 4 (qm (ci (-1)))])
  .ret)
  .skip))
 (.seq (.seq (rg [xo 5 (qm (ci 0))])
 (.block 0 (.loop Lt)))
 (.seq (rg [xo 26 (qm (tm 1)),xo 4 (qm (tm 26))])
 .ret)))))
def Acf:List Res:=[.tmp 4]
theorem Aa5:Am Tryd.prog Tryd.f26=some (Ou,Acf):=by kernel_rfl
def D2 (a0:List (List Int)) (l9_m1:Int) (l9_m5:Nat):Option (Ctl (Int×Nat) (Ctl Int Int)) :=
 cond (decide (((l9_m5:Nat):Int)<((a0.length:Nat):Int)))
 (Option.bind (a0[l9_m5]?) fun x15 =>
 Option.bind (G7 x15 l9_m1) fun y16 =>
 cond (decide (y16<0))
  (some (Ctl.out (Ctl.out (-1))))
  (og (l9_m5+1<4611686018427387904) <|
  some (Ctl.next (y16,l9_m5+1))))
 (some (Ctl.out (Ctl.next l9_m1)))
def Gk (a0:List (List Int)) (a1:Int):Option Int :=
 cond (decide (wI (a1 - ((a0.length:Nat):Int))<0))
 (some (-1))
 (Du (A7 (fun s_:Int×Nat=>D2 a0 s_.1 s_.2) 4611686018427387904 (wI (a1 - ((a0.length:Nat):Int)),0)) fun l7_m1 =>
 some l7_m1)
def X5 (r:Int):RV:=⟨false,[(false,[.sc (.int .i64 r)])]⟩
theorem X9 {a0:List (List Int)} {a1:Int} {r:Int} (h:Gk a0 a1=some r):Aw Tryd.prog Tab 26 [.tree (.slice .int) a0,ai a1] (X5 r):=by
 refine At (by kernel_rfl) Tryd.func26 Aa5 (n:=27) (by kernel_rfl) (by simp) (tl:=[(0,.tree (.slice .int) a0),(1,ai a1)]) rfl ?_;unfold Ou;unfold Gk at h;refine Ak ?_;refine Ak ?_;refine Ab ?_;refine Ak ?_;rcases Ad h with ⟨q5,h⟩ | ⟨q5,h⟩
 ·have q5_:=of_decide_eq_true q5;refine Af q5 ?_;refine Ak ?_;refine Ah (tr_ ?_);obtain rfl:=zj h;exact A3 [ai (-1)] (Aq rfl zl Ar)
 have q5_:=of_decide_eq_false q5;refine Ae q5 ?_;refine Ai (tn_ ?_);refine wr_ ?_;refine Bj h (fun (l7_m1:Int) S_=>S_=⟨An [(1,ai l7_m1)],Aj (Ap []),2⟩) ?_ ?_
 ·intro v_ h hk7;refine Ak ?_;refine Al ?_;refine A6 h (fun t_ S_=>∃ (l9_m1:Int),∃ (l9_m5:Nat),t_=(l9_m1,l9_m5)∧S_=⟨An [(0,.tree (.slice .int) a0),(1,ai l9_m1),(5,ai ((l9_m5:Nat):Int))],Aj (Ap []),2⟩) ⟨_,Ac [],⟨wI (a1 - ((a0.length:Nat):Int)),0,rfl,rfl⟩⟩ ?_;rintro n_ _ _ c_ ⟨l9_m1,l9_m5,rfl,rfl⟩ h hn9
  (try dsimp only at h);unfold D2 at h;unfold Lt;refine Ab ?_;refine Ak ?_;rcases Ad h with ⟨q12,h⟩ | ⟨q12,h⟩
  ·have q12_:=of_decide_eq_true q12;refine Af q12 ?_;refine Ai (tn_ ?_);refine wr_ ?_;refine Ab ?_;refine Al ?_;refine Ab ?_;obtain ⟨x15,e15,h⟩:=Ag h;obtain ⟨y16,h16,h⟩:=Ag h;refine Aa 13 ?_;refine rz0 (.tree (.slice .int) a0) ?_;refine rz0 (ai ((l9_m5:Nat):Int)) ?_;refine rs0 (.telt none (.slice .int) x15 0) (zi (t:=.slice .int) (xs:=a0) (k:=.i64) (m:=((l9_m5:Nat):Int)) (Ay _) e15) ?_;refine rz0 (.tree .int x15) ?_;refine rz0 (ai l9_m1) ?_;refine zc (ai y16) [] [.tree .int x15,ai l9_m1] (Y3 h16) ?_;refine rsB 1 ?_;refine Ao (tn_ ?_);refine wr_ ?_;refine Ak ?_;rcases Ad h with ⟨q18,h⟩ | ⟨q18,h⟩
   ·have q18_:=of_decide_eq_true q18;refine Af q18 ?_;refine Ak ?_;refine Ah (br_ (tr_ (tr_ (br_ (tr_ ?_)))));obtain rfl:=zj h;have h:=hn9
    (try dsimp only at h);obtain rfl:=zj h;have h:=hk7
    (try dsimp only at h);obtain rfl:=zj h;exact A3 [ai (-1)] (Aq rfl zl Ar)
   have q18_:=of_decide_eq_false q18;refine Ae q18 ?_;refine Ai (bn_ (tn_ ?_));refine wr_ ?_;obtain ⟨g20,h⟩:=Av h;refine Aa 18 ?_;refine rz0 (ai ((l9_m5:Nat):Int)) ?_;refine rs0 (ai ((l9_m5+1:Nat):Int)) (za g20) ?_;refine rsB 1 ?_;refine Ao (tn_ ?_);obtain rfl:=zj h;exact ⟨(y16,l9_m5+1),_,Ac [],⟨y16,l9_m5+1,rfl,rfl⟩,hn9⟩
  have q12_:=of_decide_eq_false q12;refine Ae q12 ?_;refine Az (te_ (te_ (be_ (tn_ ?_))));obtain rfl:=zj h;have h:=hn9
  (try dsimp only at h);obtain rfl:=zj h;exact ⟨l9_m1,_,rfl,Ac [],rfl⟩
 rintro l7_m1 _ rfl h
 (try dsimp only at h);refine Ak ?_;refine Ah ?_;obtain rfl:=zj h;exact A3 [ai l7_m1] (Aq rfl zl Ar)
def L2:AC :=
 (.seq (.seq (rg [xo 8 (qm (tm 4)),xo 9 (qm (tm 0)),xo 10 (.i (.len (tm 9))),xo 11 (qb .lss (tm 8) (tm 10))])
 (.cond (tm 11)
  .skip
  (.exit 0)))
 (.seq (.block 1 (rg [xo 14 (qm (tm 3)),xo 15 (qm (tm 4)),xo 16 (qm (tm 0)),xo 17 (qm (tm 4)),xo 18 (qx 1 (tm 16) (tm 17)),xo 19 (ql (tm 18)),xo 20 (qc 54 [tm 19] [[some .int]]),xo 21 (qx 1 (tm 14) (tm 15)),xn (qs (tm 21) (tm 20))]))
 (rg [xo 12 (qm (tm 4)),xo 13 (qb .add (tm 12) (ci 1)),xo 4 (qm (tm 13))])))
def P3:AC :=
 (.seq (rg [xo 2 (qm (.cst .nils))])
 (.seq (rg [xo 5 (qm (tm 0)),xo 6 (.i (.len (tm 5))),xo 7 (.makeV 79 (.slice .int) 24 [.nils] (tm 6) (tm 6)),xo 3 (qm (tm 7))])
 (.seq (.seq (rg [xo 4 (qm (ci 0))])
 (.block 0 (.loop L2)))
 (.seq (rg [xo 22 (qm (tm 3)),xo 2 (qm (tm 22))])
 .ret))))
def Aaj:List Res:=[.tmp 2]
theorem Yt:Am Tryd.prog Tryd.f33=some (P3,Aaj):=by kernel_rfl
theorem Xz:A8 Tryd.prog 33=true:=by kernel_rfl
def D1 (a0:List (List Int)) (l7_m4:Nat) (l7_m3:List (List Int)):Option (Ctl (Nat×List (List Int)) (List (List Int))) :=
 cond (decide (((l7_m4:Nat):Int)<((a0.length:Nat):Int)))
 (Option.bind (a0[l7_m4]?) fun x12 =>
 Option.bind (Hf x12) fun y13 =>
 Option.bind (l7_m3[l7_m4]?) fun x14 =>
 og (l7_m4+1<4611686018427387904) <|
 some (Ctl.next (l7_m4+1,l7_m3.set l7_m4 y13)))
 (some (Ctl.out l7_m3))
def Ge (a0:List (List Int)):Option (List (List Int)) :=
 og (0<=((a0.length:Nat):Int)∧((a0.length:Nat):Int)<=((a0.length:Nat):Int)∧((a0.length:Nat):Int)<=1073741824∧(24:Int)*((a0.length:Nat):Int)<=140737488355328) <|
Option.bind (A7 (fun s_:Nat×List (List Int)=>D1 a0 s_.1 s_.2) 4611686018427387904 (0,List.replicate a0.length ([]:List Int))) fun l5_m3 =>
some l5_m3
theorem X1 {a0:List (List Int)} {r:List (List Int)} (h:Ge a0=some r):Id Tryd.prog Tab 33 [.tree (.slice .int) a0] [] (.own (oi 0 1) (.slice .int) 0 r.length) [(oi 0 1,.mat 79 (oi 1 1) .int r),(oi 1 1,.pool 3 .int r)]:=by
 refine Gv (by kernel_rfl) Tryd.func33 Yt (n:=23) (by kernel_rfl) (by simp) (tl:=[(0,.tree (.slice .int) a0)]) rfl (by kernel_rfl) trivial ⟨⟨3,.tail _ (.head _)⟩,⟨trivial,trivial⟩⟩ ?_;unfold P3;unfold Ge at h;refine Ak ?_;refine Ab ?_;obtain ⟨g4,h⟩:=Av h;refine Aa 6 ?_;refine rz0 (.tree (.slice .int) a0) ?_;refine rz0 (ai ((a0.length:Nat):Int)) ?_;refine Akd (.own (oi 112 4) (.slice .int) 0 a0.length) (oi 112 4) 79 3 .int (List.replicate a0.length ([]:List Int)) trivial (Agi (j:=a0.length) (k:=.i64) (k':=.i64) (m:=((a0.length:Nat):Int)) (c:=((a0.length:Nat):Int)) 3 (by kernel_rfl) (by kernel_rfl) g4 (by kernel_rfl) rfl) (by kernel_rfl) (by rw [List.length_replicate]) (by kernel_rfl) ?_;refine rsB 1 ?_;refine Ao (tn_ ?_);refine wr_ ?_;refine Ax h (fun (l5_m3:List (List Int)) S_=>S_=⟨An [(3,.own (oi 0 1) (.slice .int) 0 l5_m3.length)],Aj (Ap [(oi 0 1,.mat 79 (oi 1 1) .int l5_m3),(oi 1 1,.pool 3 .int l5_m3)]),2⟩) ?_ ?_
 ·intro v_ h;refine Ak ?_;refine Al ?_;refine A6 h (fun t_ S_=>∃ (l7_m4:Nat),∃ (l7_m3:List (List Int)),t_=(l7_m4,l7_m3)∧S_=⟨An [(0,.tree (.slice .int) a0),(3,.own (oi 0 1) (.slice .int) 0 l7_m3.length),(4,ai ((l7_m4:Nat):Int))],Aj (Ap [(oi 0 1,.mat 79 (oi 1 1) .int l7_m3),(oi 1 1,.pool 3 .int l7_m3)]),2⟩) ⟨_,(B1 3 (.own (oi 112 4) (.slice .int) 0 a0.length) (.own (oi 112 4) (.slice .int) 0 ((List.replicate a0.length ([]:List Int)).length)) (by kernel_rfl) (congrArg (fun z_=>((.own (oi 112 4) (.slice .int) 0 z_):AV)) (List.length_replicate.symm:a0.length=(List.replicate a0.length ([]:List Int)).length))).trans (Ac [(oi 0 1,oi 112 4),(oi 1 1,oi 112 4)]),⟨0,List.replicate a0.length ([]:List Int),rfl,rfl⟩⟩ ?_;rintro n_ _ _ c_ ⟨l7_m4,l7_m3,rfl,rfl⟩ h hn7
  (try dsimp only at h);unfold D1 at h;unfold L2;refine Ab ?_;refine Ak ?_;rcases Ad h with ⟨q10,h⟩ | ⟨q10,h⟩
  ·have q10_:=of_decide_eq_true q10;refine Af q10 ?_;refine Ai (tn_ ?_);refine wr_ ?_;refine Ab ?_;refine Al ?_;obtain ⟨x12,e12,h⟩:=Ag h;obtain ⟨y13,h13,h⟩:=Ag h;obtain ⟨x14,e14,h⟩:=Ag h;refine Aa 15 ?_;refine rz0 (.own (oi 0 1) (.slice .int) 0 l7_m3.length) ?_;refine rz0 (ai ((l7_m4:Nat):Int)) ?_;refine rz0 (.tree (.slice .int) a0) ?_;refine rz0 (ai ((l7_m4:Nat):Int)) ?_;refine rs0 (.telt none (.slice .int) x12 0) (zi (t:=.slice .int) (xs:=a0) (k:=.i64) (m:=((l7_m4:Nat):Int)) (Ay _) e12) ?_;refine rz0 (.tree .int x12) ?_;refine zc (.own (oi 320 12) .int 0 y13.length) [(oi 320 12,some (.arr 3 .int y13))] [.tree .int x12] (Yy h13) ?_;refine rs0 (.elt (oi 0 1) l7_m4 0) (zo (t:=.slice .int) (o:=oi 0 1) (len:=l7_m3.length) (k:=.i64) (m:=((l7_m4:Nat):Int)) (Ay _) (Au e14)) ?_;refine Ahf (oi 0 1) (oi 0 1) (.vec 79 1 l7_m3.length ((hdL (oi 1 1) .int l7_m3).set l7_m4 (.own (oi 320 12) .int 0 y13.length))) (Ait (o:=oi 0 1) (e1:=79) (m:=l7_m3.length) (cs:=hdL (oi 1 1) .int l7_m3) (v:=.own (oi 320 12) .int 0 y13.length) (j:=l7_m4) (by kernel_rfl) (by kernel_rfl) (by kernel_rfl) rfl (by rw [Fd]; exact Au e14)) ?_;refine Ao (bn_ (tn_ ?_));refine ⟨_,Anv (e1:=79) (e:=3) (u:=.int) (n:=l7_m3.length) (len:=y13.length) (row:=y13) (ys:=y13) (xss:=l7_m3) (j:=l7_m4) 9000 (oi 0 1) (oi 1 1) (oi 320 12) (by kernel_rfl) (by kernel_rfl) rfl (by kernel_rfl) (by kernel_rfl) (Ao7 rfl) (Aqg rfl) (by kernel_rfl) (by kernel_rfl) (by kernel_rfl),?_⟩;obtain ⟨g15,h⟩:=Av h;refine Aa 19 ?_;refine rz0 (ai ((l7_m4:Nat):Int)) ?_;refine rs0 (ai ((l7_m4+1:Nat):Int)) (za g15) ?_;refine rsB 1 ?_;refine Ao (tn_ ?_);obtain rfl:=zj h;exact ⟨(l7_m4+1,l7_m3.set l7_m4 y13),_,(B1 3 (.own (oi 0 1) (.slice .int) 0 l7_m3.length) (.own (oi 0 1) (.slice .int) 0 ((l7_m3.set l7_m4 y13).length)) (by kernel_rfl) (congrArg (fun z_=>((.own (oi 0 1) (.slice .int) 0 z_):AV)) ((Eq.trans (b:=l7_m3.length) rfl List.length_set.symm):l7_m3.length=(l7_m3.set l7_m4 y13).length))).trans (Ac [(oi 1 1,oi 9000 15)]),⟨l7_m4+1,l7_m3.set l7_m4 y13,rfl,rfl⟩,hn7⟩
  have q10_:=of_decide_eq_false q10;refine Ae q10 ?_;refine Az (te_ (te_ (be_ (tn_ ?_))));obtain rfl:=zj h;have h:=hn7
  (try dsimp only at h);obtain rfl:=zj h;exact ⟨_,Ac [],rfl⟩
 rintro l5_m3 _ rfl h
 (try dsimp only at h);refine Ak ?_;refine Ah ?_;obtain rfl:=zj h;exact Mq [.own (oi 0 1) (.slice .int) 0 l5_m3.length] (Ac (tl:=[(2,.own (oi 0 1) (.slice .int) 0 l5_m3.length)]) (g:=2) [])
def Ly:AC :=
 (.seq (.seq (rg [xo 11 (qm (tm 5)),xo 12 (qm (tm 0)),xo 13 (.i (.len (tm 12))),xo 14 (qb .lss (tm 11) (tm 13))])
 (.cond (tm 14)
  .skip
  (.exit 0)))
 (.seq (.block 1 (.seq (.region [xo 17 (qm (tm 0)),xo 18 (qm (tm 5)),xo 19 (qx 1 (tm 17) (tm 18)),xo 20 (ql (tm 19)),xo 21 (qm (tm 1)),xo 22 (qm (tm 5)),xo 23 (qx 1 (tm 21) (tm 22)),xo 24 (ql (tm 23)),xo 25 (qc 66 [tm 20,tm 24] [[some .int],[some .int]]),xo 26 (.i (.not (tm 25)))] true [])
 (.cond (tm 26)
  (.seq (rg [xo 4 (qm (cb false))])
  .ret)
  .skip)))
 (rg [xo 15 (qm (tm 5)),xo 16 (qb .add (tm 15) (ci 1)),xo 5 (qm (tm 16))])))
def Om:AC :=
 (.seq (rg [xo 4 (qm (cb false))])
 (.seq (.seq (rg [xo 6 (qm (tm 0)),xo 7 (.i (.len (tm 6))),xo 8 (qm (tm 1)),xo 9 (.i (.len (tm 8))),xo 10 (qb .neq (tm 7) (tm 9))])
 (.cond (tm 10)
  (.seq (rg [xo 4 (qm (cb false))])
  .ret)
  .skip))
 (.seq (.seq (rg [xo 5 (qm (ci 0))])
 (.block 0 (.loop Ly)))
 (.seq (rg [xo 4 (qm (cb true))])
 .ret))))
def Abe:List Res:=[.tmp 4]
theorem Aa0:Am Tryd.prog Tryd.f39=some (Om,Abe):=by kernel_rfl
def Dz (a0:List (List Int)) (a1:List (List Int)) (l8_m5:Nat):Option (Ctl Nat (Ctl Unit Bool)) :=
 cond (decide (((l8_m5:Nat):Int)<((a0.length:Nat):Int)))
 (Option.bind (a0[l8_m5]?) fun x14 =>
 Option.bind (a1[l8_m5]?) fun x15 =>
 Option.bind (G9 x14 x15) fun y16 =>
 cond (!y16)
  (some (Ctl.out (Ctl.out false)))
  (og (l8_m5+1<4611686018427387904) <|
  some (Ctl.next (l8_m5+1))))
 (some (Ctl.out (Ctl.next ())))
def F8 (a0:List (List Int)) (a1:List (List Int)):Option Bool :=
 cond (((a0.length:Nat):Int) !=((a1.length:Nat):Int))
 (some false)
 (Du (A7 (fun s_:Nat=>Dz a0 a1 s_) 4611686018427387904 0) fun _ =>
 some true)
def Yj (r:Bool):RV:=⟨false,[(false,[.sc (.bool r)])]⟩
theorem X8 {a0:List (List Int)} {a1:List (List Int)} {r:Bool} (h:F8 a0 a1=some r):Aw Tryd.prog Tab 39 [.tree (.slice .int) a0,.tree (.slice .int) a1] (Yj r):=by
 refine At (by kernel_rfl) Tryd.func39 Aa0 (n:=27) (by kernel_rfl) (by simp) (tl:=[(0,.tree (.slice .int) a0),(1,.tree (.slice .int) a1)]) rfl ?_;unfold Om;unfold F8 at h;refine Ak ?_;refine Ab ?_;refine Ak ?_;rcases Ad h with ⟨q4,h⟩ | ⟨q4,h⟩
 ·refine Af q4 ?_;refine Ak ?_;refine Ah (tr_ ?_);obtain rfl:=zj h;exact A3 [.bool false] (Aq rfl zl Ar)
 refine Ae q4 ?_;refine Ai (tn_ ?_);refine wr_ ?_;refine Bj h (fun (_:Unit) S_=>S_=⟨An [],Aj (Ap []),2⟩) ?_ ?_
 ·intro v_ h hk6;refine Ak ?_;refine Al ?_;refine A6 h (fun (l8_m5:Nat) S_=>S_=⟨An [(0,.tree (.slice .int) a0),(1,.tree (.slice .int) a1),(5,ai ((l8_m5:Nat):Int))],Aj (Ap []),2⟩) ⟨_,Ac [],rfl⟩ ?_;rintro n_ l8_m5 _ c_ rfl h hn8
  (try dsimp only at h);unfold Dz at h;unfold Ly;refine Ab ?_;refine Ak ?_;rcases Ad h with ⟨q11,h⟩ | ⟨q11,h⟩
  ·have q11_:=of_decide_eq_true q11;refine Af q11 ?_;refine Ai (tn_ ?_);refine wr_ ?_;refine Ab ?_;refine Al ?_;refine Ab ?_;obtain ⟨x14,e14,h⟩:=Ag h;obtain ⟨x15,e15,h⟩:=Ag h;obtain ⟨y16,h16,h⟩:=Ag h;refine A4 16 ?_;refine dz0 (.tree (.slice .int) a0) ?_;refine dz0 (ai ((l8_m5:Nat):Int)) ?_;refine ds0 (.telt none (.slice .int) x14 0) (zi (t:=.slice .int) (xs:=a0) (k:=.i64) (m:=((l8_m5:Nat):Int)) (Ay _) e14) ?_;refine dz0 (.tree .int x14) ?_;refine dz0 (.tree (.slice .int) a1) ?_;refine dz0 (ai ((l8_m5:Nat):Int)) ?_;refine ds0 (.telt none (.slice .int) x15 0) (zi (t:=.slice .int) (xs:=a1) (k:=.i64) (m:=((l8_m5:Nat):Int)) (Ay _) e15) ?_;refine dz0 (.tree .int x15) ?_;refine D3 (.bool y16) [] [.tree .int x14,.tree .int x15] _ (caps:=[]) (args0:=[.tree .int x14,.tree .int x15]) trivial (by kernel_rfl) (Yz h16) Yx ?_;refine dz0 (.bool (!y16)) ?_;refine Gw (Bf (by kernel_rfl)) (tn_ ?_);refine wr_ ?_;rcases Ad h with ⟨q17,h⟩ | ⟨q17,h⟩
   ·refine Af q17 ?_;refine Ak ?_;refine Ah (br_ (tr_ (tr_ (br_ (tr_ ?_)))));obtain rfl:=zj h;have h:=hn8
    (try dsimp only at h);obtain rfl:=zj h;have h:=hk6
    (try dsimp only at h);obtain rfl:=zj h;exact A3 [.bool false] (Aq rfl zl Ar)
   refine Ae q17 ?_;refine Ai (bn_ (tn_ ?_));refine wr_ ?_;obtain ⟨g19,h⟩:=Av h;refine Aa 19 ?_;refine rz0 (ai ((l8_m5:Nat):Int)) ?_;refine rs0 (ai ((l8_m5+1:Nat):Int)) (za g19) ?_;refine rsB 1 ?_;refine Ao (tn_ ?_);obtain rfl:=zj h;exact ⟨l8_m5+1,_,Ac [],rfl,hn8⟩
  have q11_:=of_decide_eq_false q11;refine Ae q11 ?_;refine Az (te_ (te_ (be_ (tn_ ?_))));obtain rfl:=zj h;have h:=hn8
  (try dsimp only at h);obtain rfl:=zj h;exact ⟨(),_,rfl,Ac [],rfl⟩
 rintro _ _ rfl h
 (try dsimp only at h);refine Ak ?_;refine Ah ?_;obtain rfl:=zj h;exact A3 [.bool true] (Aq rfl zl Ar)
def Lp:AC :=
 (.seq (rg [xo 2 (.i (.box 27 (tm 0))),xo 4 (qm (ci 0))])
 (.seq (rg [xo 5 (qf 2 (tm 2)),xo 6 (ql (tm 5)),xo 7 (qm (tm 1)),xo 8 (qc 26 [tm 6,tm 7] [[some (.slice .int)],[]]),xo 1 (qm (tm 8))])
 (.seq (.seq (rg [xo 9 (qm (tm 1)),xo 10 (qb .lss (tm 9) (ci 0))])
 (.cond (tm 10)
  (.seq (rg [xo 4 (qm (ci (-1)))])
  .ret)
  .skip))
 (.seq (rg [xo 11 (qm (tm 1)),xo 4 (qm (tm 11))])
 .ret))))
def Ug:List Res:=[.tmp 4]
theorem T3:Am Tryd.prog Tryd.f16=some (Lp,Ug):=by kernel_rfl
def Ef (a0_0:Int) (a0_1:Int) (a0_2:List (List Int)) (a1:Int):Option Int :=
 Option.bind (Gk a0_2 a1) fun y3 =>
cond (decide (y3<0))
 (some (-1))
 (some y3)
def So (r:Int):RV:=⟨false,[(false,[.sc (.int .i64 r)])]⟩
theorem Ta {a0_0:Int} {a0_1:Int} {a0_2:List (List Int)} {a1:Int} {r:Int} (h:Ef a0_0 a0_1 a0_2 a1=some r):Aw Tryd.prog Tab 16 [.agg [ai a0_0,ai a0_1,.tree (.slice .int) a0_2],ai a1] (So r):=by
 refine At (by kernel_rfl) Tryd.func16 T3 (n:=12) (by kernel_rfl) (by simp) (tl:=[(0,.agg [ai a0_0,ai a0_1,.tree (.slice .int) a0_2]),(1,ai a1)]) rfl ?_;unfold Lp;unfold Ef at h;refine Ak ?_;refine Ab ?_;obtain ⟨y3,h3,h⟩:=Ag h;refine Aa 8 ?_;refine rz0 (.box (oi 2 1) 2) ?_;refine rzl (.tree (.slice .int) a0_2) ?_;refine rz0 (ai a1) ?_;refine zc (ai y3) [] [.tree (.slice .int) a0_2,ai a1] (X9 h3) ?_;refine rsB 1 ?_;refine Ao (tn_ ?_);refine wr_ ?_;refine Ab ?_;refine Ak ?_;rcases Ad h with ⟨q6,h⟩ | ⟨q6,h⟩
 ·have q6_:=of_decide_eq_true q6;refine Af q6 ?_;refine Ak ?_;refine Ah (tr_ ?_);obtain rfl:=zj h;exact A3 [ai (-1)] (Aq rfl zl Ar)
 have q6_:=of_decide_eq_false q6;refine Ae q6 ?_;refine Ai (tn_ ?_);refine wr_ ?_;refine Ak ?_;refine Ah ?_;obtain rfl:=zj h;exact A3 [ai y3] (Aq rfl zl Ar)
def Lj:AC :=
 (.seq (rg [xo 1 (.i (.box 27 (tm 0))),xo 2 (.i (.alloc 35 [.int .i64 0,.int .i64 0,.nils]))])
 (.seq (rg [xo 3 (.i (.alloc 35 [.int .i64 0,.int .i64 0,.nils]))])
 (.seq (rg [xo 4 (qf 0 (tm 1)),xo 5 (ql (tm 4)),xo 6 (qf 0 (tm 3)),xn (qs (tm 6) (tm 5))])
 (.seq (rg [xo 7 (qf 1 (tm 1)),xo 8 (ql (tm 7)),xo 9 (qf 1 (tm 3)),xn (qs (tm 9) (tm 8))])
 (.seq (rg [xo 10 (qf 2 (tm 1)),xo 11 (ql (tm 10)),xo 12 (qc 33 [tm 11] [[some (.slice .int)]]),xo 13 (qf 2 (tm 3)),xn (qs (tm 13) (tm 12))])
 (.seq (rg [xo 14 (.i (.ld false 3 (tm 3))),xn (.st false 3 (tm 2) (tm 14))])
 .ret))))))
def Uo:List Res:=[.cell 2 false 3]
theorem Ux:Am Tryd.prog Tryd.f19=some (Lj,Uo):=by kernel_rfl
theorem Tj:A8 Tryd.prog 19=true:=by kernel_rfl
def Eb (a0_0:Int) (a0_1:Int) (a0_2:List (List Int)):Option (List (List Int)) :=
 Option.bind (Ge a0_2) fun y7 =>
some y7
theorem S8 {a0_0:Int} {a0_1:Int} {a0_2:List (List Int)} {r:List (List Int)} (h:Eb a0_0 a0_1 a0_2=some r):Id Tryd.prog Tab 19 [.agg [ai a0_0,ai a0_1,.tree (.slice .int) a0_2]] [] (.agg [ai a0_0,ai a0_1,.own (oi 1 1) (.slice .int) 0 r.length]) [(oi 0 1,.cells 35 [ai a0_0,ai a0_1,.own (oi 1 1) (.slice .int) 0 r.length]),(oi 1 1,.mat 79 (oi 2 1) .int r),(oi 2 1,.pool 3 .int r)]:=by
 refine Gv (by kernel_rfl) Tryd.func19 Ux (n:=15) (by kernel_rfl) (by simp) (tl:=[(0,.agg [ai a0_0,ai a0_1,.tree (.slice .int) a0_2])]) rfl (by kernel_rfl) trivial ⟨trivial,⟨⟨3,.tail _ (.tail _ (.head _))⟩,⟨trivial,trivial⟩⟩⟩ ?_;unfold Lj;unfold Eb at h;refine Ak ?_;refine Ak ?_;refine Ak ?_;refine Ak ?_;refine Ab ?_;obtain ⟨y7,h7,h⟩:=Ag h;refine Aa 17 ?_;refine rz0 (.box (oi 1 1) 2) ?_;refine rzl (.tree (.slice .int) a0_2) ?_;refine Ks (.own (oi 192 14) (.slice .int) 0 y7.length) [(oi 192 14,some (.mat 79 (oi 193 14) .int y7)),(oi 193 14,some (.pool 3 .int y7))] [] [.tree (.slice .int) a0_2] (caps:=[]) trivial (X1 h7) Xz trivial (.cons (.ren (by kernel_rfl)) .nil) (Ca (by kernel_rfl) (by kernel_rfl) trivial) ?_;refine rsB 2 ?_;refine Ao (tn_ ?_);refine wr_ ?_;refine Ak ?_;refine Ah ?_;obtain rfl:=zj h;exact Mq [.agg [ai a0_0,ai a0_1,.own (oi 1 1) (.slice .int) 0 y7.length]] (Ac (tl:=[(2,.box (oi 0 1) 0)]) (g:=2) [(oi 0 1,oi 2 2),(oi 1 1,oi 192 14),(oi 2 1,oi 193 14)])
def Lk:AC :=
 (.seq (rg [xo 2 (.i (.box 35 (tm 0))),xo 3 (.i (.box 35 (tm 1))),xo 4 (qm (cb false))])
 (.seq (.seq (rg [xo 5 (qf 0 (tm 2)),xo 6 (ql (tm 5)),xo 7 (qf 0 (tm 3)),xo 8 (ql (tm 7)),xo 9 (qb .neq (tm 6) (tm 8))])
 (.cond (tm 9)
  (.seq (rg [xo 4 (qm (cb false))])
  .ret)
  .skip))
 (.seq (.seq (rg [xo 10 (qf 1 (tm 2)),xo 11 (ql (tm 10)),xo 12 (qf 1 (tm 3)),xo 13 (ql (tm 12)),xo 14 (qb .neq (tm 11) (tm 13))])
 (.cond (tm 14)
  (.seq (rg [xo 4 (qm (cb false))])
  .ret)
  .skip))
 (.seq (.seq (rg [xo 15 (qf 2 (tm 2)),xo 16 (ql (tm 15)),xo 17 (qf 2 (tm 3)),xo 18 (ql (tm 17)),xo 19 (qc 39 [tm 16,tm 18] [[some (.slice .int)],[some (.slice .int)]]),xo 20 (.i (.not (tm 19)))])
 (.cond (tm 20)
  (.seq (rg [xo 4 (qm (cb false))])
  .ret)
  .skip))
 (.seq (rg [xo 4 (qm (cb true))])
 .ret)))))
def U2:List Res:=[.tmp 4]
theorem Ui:Am Tryd.prog Tryd.f22=some (Lk,U2):=by kernel_rfl
def D9 (a0_0:Int) (a0_1:Int) (a0_2:List (List Int)) (a1_0:Int) (a1_1:Int) (a1_2:List (List Int)):Option Bool :=
 cond (a0_0 !=a1_0)
 (some false)
 (cond (a0_1 !=a1_1)
  (some false)
  (Option.bind (F8 a0_2 a1_2) fun y12 =>
  cond (!y12)
   (some false)
   (some true)))
def Sk (r:Bool):RV:=⟨false,[(false,[.sc (.bool r)])]⟩
theorem Sm {a0_0:Int} {a0_1:Int} {a0_2:List (List Int)} {a1_0:Int} {a1_1:Int} {a1_2:List (List Int)} {r:Bool} (h:D9 a0_0 a0_1 a0_2 a1_0 a1_1 a1_2=some r):Aw Tryd.prog Tab 22 [.agg [ai a0_0,ai a0_1,.tree (.slice .int) a0_2],.agg [ai a1_0,ai a1_1,.tree (.slice .int) a1_2]] (Sk r):=by
 refine At (by kernel_rfl) Tryd.func22 Ui (n:=21) (by kernel_rfl) (by simp) (tl:=[(0,.agg [ai a0_0,ai a0_1,.tree (.slice .int) a0_2]),(1,.agg [ai a1_0,ai a1_1,.tree (.slice .int) a1_2])]) rfl ?_;unfold Lk;unfold D9 at h;refine Ak ?_;refine Ab ?_;refine Ak ?_;rcases Ad h with ⟨q4,h⟩ | ⟨q4,h⟩
 ·refine Af q4 ?_;refine Ak ?_;refine Ah (tr_ ?_);obtain rfl:=zj h;exact A3 [.bool false] (Aq rfl zl Ar)
 refine Ae q4 ?_;refine Ai (tn_ ?_);refine wr_ ?_;refine Ab ?_;refine Ak ?_;rcases Ad h with ⟨q8,h⟩ | ⟨q8,h⟩
 ·refine Af q8 ?_;refine Ak ?_;refine Ah (tr_ ?_);obtain rfl:=zj h;exact A3 [.bool false] (Aq rfl zl Ar)
 refine Ae q8 ?_;refine Ai (tn_ ?_);refine wr_ ?_;refine Ab ?_;refine Ab ?_;obtain ⟨y12,h12,h⟩:=Ag h;refine Aa 20 ?_;refine rz0 (.box (oi 2 1) 2) ?_;refine rzl (.tree (.slice .int) a0_2) ?_;refine rz0 (.box (oi 3 2) 2) ?_;refine rzl (.tree (.slice .int) a1_2) ?_;refine zc (.bool y12) [] [.tree (.slice .int) a0_2,.tree (.slice .int) a1_2] (X8 h12) ?_;refine rsB 1 ?_;refine Ao (tn_ ?_);refine wr_ ?_;rcases Ad h with ⟨q13,h⟩ | ⟨q13,h⟩
 ·refine Af q13 ?_;refine Ak ?_;refine Ah (tr_ ?_);obtain rfl:=zj h;exact A3 [.bool false] (Aq rfl zl Ar)
 refine Ae q13 ?_;refine Ai (tn_ ?_);refine wr_ ?_;refine Ak ?_;refine Ah ?_;obtain rfl:=zj h;exact A3 [.bool true] (Aq rfl zl Ar)
def M9:AC :=
 (.seq (rg [xo 12 (qb .lss (tm 11) (tm 10))])
 (.seq (.cond (tm 12)
  .skip
  (.exit 0))
 (.seq (.block 1 (.seq (rg [xo 13 (qx 1 (tm 9) (tm 11)),xo 14 (ql (tm 13)),xo 8 (qm (tm 14))])
 (.seq (rg [xo 15 (qm (tm 8)),xo 16 (.i (.len (tm 15))),xo 17 (qm (tm 1)),xo 18 (qb .neq (tm 16) (tm 17)),xo 19 (qm (tm 18)),⟨some 20,some (19,false),qm (tm 0)⟩,⟨some 21,some (19,false),qm (tm 8)⟩,⟨some 22,some (19,false),qc 83 [tm 20,tm 21] [[],[some .int]]⟩,⟨some 23,some (19,false),.i (.not (tm 22))⟩,xo 24 (.i (.pick (tm 19) (cb true) (tm 23)))])
 (.cond (tm 24)
  (.seq (rg [xo 6 (qm (cb false))])
  .ret)
  .skip))))
 (rg [xo 25 (qb .add (tm 11) (ci 1)),xo 11 (qm (tm 25))]))))
def Rr:AC :=
 (.seq (rg [xo 6 (qm (cb false))])
 (.seq (.seq (rg [xo 9 (qm (tm 2)),xo 10 (.i (.len (tm 9))),xo 11 (qm (ci 0))])
 (.block 0 (.loop M9)))
 (.seq (rg [xo 6 (qm (cb true))])
 .ret)))
def Aes:List Res:=[.tmp 6]
theorem Acv:Am Tryd.prog Tryd.f68=some (Rr,Aes):=by kernel_rfl
theorem Ph:A8 Tryd.prog 68=true:=by kernel_rfl
def Gx (a2:List (List Int)) (a1:Int) (a0:Int) (l4_m11:Nat):Option (Ctl Nat (Ctl Unit Bool)) :=
 cond (decide (((l4_m11:Nat):Int)<((a2.length:Nat):Int)))
 (Option.bind (a2[l4_m11]?) fun x10 =>
 Option.bind (cond (((x10.length:Nat):Int) !=a1)
   (some true)
   (Option.bind (Jf a0 x10) fun y13 =>
   some (!y13))) fun l11_m24 =>
 cond l11_m24
  (some (Ctl.out (Ctl.out false)))
  (og (l4_m11+1<4611686018427387904) <|
  some (Ctl.next (l4_m11+1))))
 (some (Ctl.out (Ctl.next ())))
def Hi (a0:Int) (a1:Int) (a2:List (List Int)):Option Bool :=
 Du (A7 (fun s_:Nat=>Gx a2 a1 a0 s_) 4611686018427387904 0) fun _ =>
some true
def Z3 (r:Bool):RV:=⟨false,[(false,[.sc (.bool r)])]⟩
theorem Pf {a0:Int} {a1:Int} {a2:List (List Int)} {r:Bool} (h:Hi a0 a1 a2=some r):Aw Tryd.prog Tab 68 [ai a0,ai a1,.tree (.slice .int) a2] (Z3 r):=by
 refine At (by kernel_rfl) Tryd.func68 Acv (n:=26) (by kernel_rfl) (by simp) (tl:=[(0,ai a0),(1,ai a1),(2,.tree (.slice .int) a2)]) rfl ?_;unfold Rr;unfold Hi at h;refine Ak ?_;refine Bj h (fun (_:Unit) S_=>S_=⟨An [],Aj (Ap []),2⟩) ?_ ?_
 ·intro v_ h hk2;refine Ak ?_;refine Al ?_;refine A6 h (fun (l4_m11:Nat) S_=>S_=⟨An [(0,ai a0),(1,ai a1),(9,.tree (.slice .int) a2),(10,ai ((a2.length:Nat):Int)),(11,ai ((l4_m11:Nat):Int))],Aj (Ap []),2⟩) ⟨_,Ac [],rfl⟩ ?_;rintro n_ l4_m11 _ c_ rfl h hn4
  (try dsimp only at h);unfold Gx at h;unfold M9;refine Ak ?_;refine Ab ?_;rcases Ad h with ⟨q7,h⟩ | ⟨q7,h⟩
  ·have q7_:=of_decide_eq_true q7;refine Af q7 ?_;refine Ai (tn_ ?_);refine wr_ ?_;refine Ab ?_;refine Al ?_;refine Ab ?_;obtain ⟨x10,e10,h⟩:=Ag h;refine Aa 6 ?_;refine rs0 (.telt none (.slice .int) x10 0) (zi (t:=.slice .int) (xs:=a2) (k:=.i64) (m:=((l4_m11:Nat):Int)) (Ay _) e10) ?_;refine rsB 2 ?_;refine Ao (tn_ ?_);refine wr_ ?_;refine Ax h (fun (l11_m24:Bool) S_=>S_=⟨An [(0,ai a0),(1,ai a1),(9,.tree (.slice .int) a2),(10,ai ((a2.length:Nat):Int)),(11,ai ((l4_m11:Nat):Int)),(24,.bool l11_m24)],Aj (Ap []),2⟩) ?_ ?_
   ·intro v_ h;rcases Ad h with ⟨q12,h⟩ | ⟨q12,h⟩
    ·refine Aa 16 ?_;refine rz0 (.tree .int x10) ?_;refine rz0 (ai ((x10.length:Nat):Int)) ?_;refine rz0 (ai a1) ?_;refine rz0 (.bool (((x10.length:Nat):Int) !=a1)) ?_;refine rz0 (.bool (((x10.length:Nat):Int) !=a1)) ?_;refine zs q12 ?_;refine zs q12 ?_;refine zs q12 ?_;refine zs q12 ?_;refine rs0 (.bool true) (zT q12) ?_;refine Ao (tn_ ?_);obtain rfl:=zj h;exact ⟨_,Ac [],rfl⟩
    obtain ⟨y13,h13,h⟩:=Ag h;refine Aa 16 ?_;refine rz0 (.tree .int x10) ?_;refine rz0 (ai ((x10.length:Nat):Int)) ?_;refine rz0 (ai a1) ?_;refine rz0 (.bool (((x10.length:Nat):Int) !=a1)) ?_;refine rz0 (.bool (((x10.length:Nat):Int) !=a1)) ?_;refine rs0 (ai a0) (zg q12) ?_;refine rs0 (.tree .int x10) (zg q12) ?_;refine B3 (.bool y13) [] [ai a0,.tree .int x10] _ (caps:=[]) (args0:=[ai a0,.tree .int x10]) (Bi (by kernel_rfl) q12) (by kernel_rfl) (Ags h13) Ahp ?_;refine rs0 (.bool (!y13)) (zg q12) ?_;refine rs0 (.bool (!y13)) (zF q12) ?_;refine Ao (tn_ ?_);obtain rfl:=zj h;exact ⟨_,Ac [],rfl⟩
   rintro l11_m24 _ rfl h
   (try dsimp only at h);rcases Ad h with ⟨q14,h⟩ | ⟨q14,h⟩
   ·refine Af q14 ?_;refine Ak ?_;refine Ah (br_ (tr_ (tr_ (br_ (tr_ ?_)))));obtain rfl:=zj h;have h:=hn4
    (try dsimp only at h);obtain rfl:=zj h;have h:=hk2
    (try dsimp only at h);obtain rfl:=zj h;exact A3 [.bool false] (Aq rfl zl Ar)
   refine Ae q14 ?_;refine Ai (bn_ (tn_ ?_));refine wr_ ?_;obtain ⟨g16,h⟩:=Av h;refine Aa 4 ?_;refine rs0 (ai ((l4_m11+1:Nat):Int)) (za g16) ?_;refine rsB 1 ?_;refine Ao (tn_ ?_);obtain rfl:=zj h;exact ⟨l4_m11+1,_,Ac [],rfl,hn4⟩
  have q7_:=of_decide_eq_false q7;refine Ae q7 ?_;refine Az (te_ (te_ (be_ (tn_ ?_))));obtain rfl:=zj h;have h:=hn4
  (try dsimp only at h);obtain rfl:=zj h;exact ⟨(),_,rfl,Ac [],rfl⟩
 rintro _ _ rfl h
 (try dsimp only at h);refine Ak ?_;refine Ah ?_;obtain rfl:=zj h;exact A3 [.bool true] (Aq rfl zl Ar)
def Nb:AC :=
 (.seq (rg [xo 14 (qb .lss (tm 13) (tm 12))])
 (.seq (.cond (tm 14)
  .skip
  (.exit 0))
 (.seq (.block 1 (.seq (rg [xo 15 (qm (tm 13)),xo 5 (qm (tm 15))])
 (.seq (.region [xo 16 (qm (tm 0)),xo 17 (qm (tm 5)),xo 18 (qx 1 (tm 16) (tm 17)),xo 19 (ql (tm 18)),xo 20 (qm (tm 1)),xo 21 (qm (tm 5)),xo 22 (qx 1 (tm 20) (tm 21)),xo 23 (ql (tm 22)),xo 24 (qb .neq (tm 19) (tm 23))] true [])
 (.cond (tm 24)
  (.seq (rg [xo 4 (qm (cb false))])
  .ret)
  .skip))))
 (rg [xo 25 (qb .add (tm 13) (ci 1)),xo 13 (qm (tm 25))]))))
def R3:AC :=
 (.seq (rg [xo 4 (qm (cb false))])
 (.seq (.seq (rg [xo 6 (qm (tm 0)),xo 7 (.i (.len (tm 6))),xo 8 (qm (tm 1)),xo 9 (.i (.len (tm 8))),xo 10 (qb .neq (tm 7) (tm 9))])
 (.cond (tm 10)
  (.seq (rg [xo 4 (qm (cb false))])
  .ret)
  .skip))
 (.seq (.seq (rg [xo 11 (qm (tm 0)),xo 12 (.i (.len (tm 11))),xo 13 (qm (ci 0))])
 (.block 0 (.loop Nb)))
 (.seq (rg [xo 4 (qm (cb true))])
 .ret))))
def Adq:List Res:=[.tmp 4]
theorem Ads:Am Tryd.prog Tryd.f84=some (R3,Adq):=by kernel_rfl
theorem Y1:A8 Tryd.prog 84=true:=by kernel_rfl
def Ev (a0:List Int) (a1:List Int) (l8_m13:Nat):Option (Ctl Nat (Ctl Unit Bool)) :=
 cond (decide (((l8_m13:Nat):Int)<((a0.length:Nat):Int)))
 (Option.bind (a0[l8_m13]?) fun x15 =>
 Option.bind (a1[l8_m13]?) fun x16 =>
 cond (x15 !=x16)
  (some (Ctl.out (Ctl.out false)))
  (og (l8_m13+1<4611686018427387904) <|
  some (Ctl.next (l8_m13+1))))
 (some (Ctl.out (Ctl.next ())))
def Hk (a0:List Int) (a1:List Int):Option Bool :=
 cond (((a0.length:Nat):Int) !=((a1.length:Nat):Int))
 (some false)
 (Du (A7 (fun s_:Nat=>Ev a0 a1 s_) 4611686018427387904 0) fun _ =>
 some true)
def Ab8 (r:Bool):RV:=⟨false,[(false,[.sc (.bool r)])]⟩
theorem Acg {a0:List Int} {a1:List Int} {r:Bool} (h:Hk a0 a1=some r):Aw Tryd.prog Tab 84 [.tree .int a0,.tree .int a1] (Ab8 r):=by
 refine At (by kernel_rfl) Tryd.func84 Ads (n:=26) (by kernel_rfl) (by simp) (tl:=[(0,.tree .int a0),(1,.tree .int a1)]) rfl ?_;unfold R3;unfold Hk at h;refine Ak ?_;refine Ab ?_;refine Ak ?_;rcases Ad h with ⟨q4,h⟩ | ⟨q4,h⟩
 ·refine Af q4 ?_;refine Ak ?_;refine Ah (tr_ ?_);obtain rfl:=zj h;exact A3 [.bool false] (Aq rfl zl Ar)
 refine Ae q4 ?_;refine Ai (tn_ ?_);refine wr_ ?_;refine Bj h (fun (_:Unit) S_=>S_=⟨An [],Aj (Ap []),2⟩) ?_ ?_
 ·intro v_ h hk6;refine Ak ?_;refine Al ?_;refine A6 h (fun (l8_m13:Nat) S_=>S_=⟨An [(0,.tree .int a0),(1,.tree .int a1),(12,ai ((a0.length:Nat):Int)),(13,ai ((l8_m13:Nat):Int))],Aj (Ap []),2⟩) ⟨_,Ac [],rfl⟩ ?_;rintro n_ l8_m13 _ c_ rfl h hn8
  (try dsimp only at h);unfold Ev at h;unfold Nb;refine Ak ?_;refine Ab ?_;rcases Ad h with ⟨q11,h⟩ | ⟨q11,h⟩
  ·have q11_:=of_decide_eq_true q11;refine Af q11 ?_;refine Ai (tn_ ?_);refine wr_ ?_;refine Ab ?_;refine Al ?_;refine Ak ?_;refine Ab ?_;obtain ⟨x15,e15,h⟩:=Ag h;obtain ⟨x16,e16,h⟩:=Ag h;refine A4 14 ?_;refine dz0 (.tree .int a0) ?_;refine dz0 (ai ((l8_m13:Nat):Int)) ?_;refine ds0 (.telt none .int x15 0) (zi (t:=.int) (xs:=a0) (k:=.i64) (m:=((l8_m13:Nat):Int)) (Ay _) e15) ?_;refine dz0 (ai x15) ?_;refine dz0 (.tree .int a1) ?_;refine dz0 (ai ((l8_m13:Nat):Int)) ?_;refine ds0 (.telt none .int x16 0) (zi (t:=.int) (xs:=a1) (k:=.i64) (m:=((l8_m13:Nat):Int)) (Ay _) e16) ?_;refine dz0 (ai x16) ?_;refine dz0 (.bool (x15 !=x16)) ?_;refine Gw (Bf (by kernel_rfl)) (tn_ ?_);refine wr_ ?_;rcases Ad h with ⟨q17,h⟩ | ⟨q17,h⟩
   ·refine Af q17 ?_;refine Ak ?_;refine Ah (br_ (tr_ (tr_ (br_ (tr_ ?_)))));obtain rfl:=zj h;have h:=hn8
    (try dsimp only at h);obtain rfl:=zj h;have h:=hk6
    (try dsimp only at h);obtain rfl:=zj h;exact A3 [.bool false] (Aq rfl zl Ar)
   refine Ae q17 ?_;refine Ai (bn_ (tn_ ?_));refine wr_ ?_;obtain ⟨g19,h⟩:=Av h;refine Aa 16 ?_;refine rs0 (ai ((l8_m13+1:Nat):Int)) (za g19) ?_;refine rsB 1 ?_;refine Ao (tn_ ?_);obtain rfl:=zj h;exact ⟨l8_m13+1,_,Ac [],rfl,hn8⟩
  have q11_:=of_decide_eq_false q11;refine Ae q11 ?_;refine Az (te_ (te_ (be_ (tn_ ?_))));obtain rfl:=zj h;have h:=hn8
  (try dsimp only at h);obtain rfl:=zj h;exact ⟨(),_,rfl,Ac [],rfl⟩
 rintro _ _ rfl h
 (try dsimp only at h);refine Ak ?_;refine Ah ?_;obtain rfl:=zj h;exact A3 [.bool true] (Aq rfl zl Ar)
def Mg:AC :=
 (.seq (rg [xo 14 (qb .lss (tm 13) (tm 12))])
 (.seq (.cond (tm 14)
  .skip
  (.exit 0))
 (.seq (.block 1 (.seq (rg [xo 15 (qm (tm 13)),xo 5 (qm (tm 15))])
 (.seq (.region [xo 16 (qm (tm 0)),xo 17 (qm (tm 5)),xo 18 (qx 1 (tm 16) (tm 17)),xo 19 (ql (tm 18)),xo 20 (qm (tm 1)),xo 21 (qm (tm 5)),xo 22 (qx 1 (tm 20) (tm 21)),xo 23 (ql (tm 22)),xo 24 (qc 84 [tm 19,tm 23] [[some .int],[some .int]]),xo 25 (.i (.not (tm 24)))] true [])
 (.cond (tm 25)
  (.seq (rg [xo 4 (qm (cb false))])
  .ret)
  .skip))))
 (rg [xo 26 (qb .add (tm 13) (ci 1)),xo 13 (qm (tm 26))]))))
def Rg:AC :=
 (.seq (rg [xo 4 (qm (cb false))])
 (.seq (.seq (rg [xo 6 (qm (tm 0)),xo 7 (.i (.len (tm 6))),xo 8 (qm (tm 1)),xo 9 (.i (.len (tm 8))),xo 10 (qb .neq (tm 7) (tm 9))])
 (.cond (tm 10)
  (.seq (rg [xo 4 (qm (cb false))])
  .ret)
  .skip))
 (.seq (.seq (rg [xo 11 (qm (tm 0)),xo 12 (.i (.len (tm 11))),xo 13 (qm (ci 0))])
 (.block 0 (.loop Mg)))
 (.seq (rg [xo 4 (qm (cb true))])
 .ret))))
def Aed:List Res:=[.tmp 4]
theorem Ac0:Am Tryd.prog Tryd.f69=some (Rg,Aed):=by kernel_rfl
theorem Acj:A8 Tryd.prog 69=true:=by kernel_rfl
def E0 (a0:List (List Int)) (a1:List (List Int)) (l8_m13:Nat):Option (Ctl Nat (Ctl Unit Bool)) :=
 cond (decide (((l8_m13:Nat):Int)<((a0.length:Nat):Int)))
 (Option.bind (a0[l8_m13]?) fun x15 =>
 Option.bind (a1[l8_m13]?) fun x16 =>
 Option.bind (Hk x15 x16) fun y17 =>
 cond (!y17)
  (some (Ctl.out (Ctl.out false)))
  (og (l8_m13+1<4611686018427387904) <|
  some (Ctl.next (l8_m13+1))))
 (some (Ctl.out (Ctl.next ())))
def Hc (a0:List (List Int)) (a1:List (List Int)):Option Bool :=
 cond (((a0.length:Nat):Int) !=((a1.length:Nat):Int))
 (some false)
 (Du (A7 (fun s_:Nat=>E0 a0 a1 s_) 4611686018427387904 0) fun _ =>
 some true)
def Abl (r:Bool):RV:=⟨false,[(false,[.sc (.bool r)])]⟩
theorem Abn {a0:List (List Int)} {a1:List (List Int)} {r:Bool} (h:Hc a0 a1=some r):Aw Tryd.prog Tab 69 [.tree (.slice .int) a0,.tree (.slice .int) a1] (Abl r):=by
 refine At (by kernel_rfl) Tryd.func69 Ac0 (n:=27) (by kernel_rfl) (by simp) (tl:=[(0,.tree (.slice .int) a0),(1,.tree (.slice .int) a1)]) rfl ?_;unfold Rg;unfold Hc at h;refine Ak ?_;refine Ab ?_;refine Ak ?_;rcases Ad h with ⟨q4,h⟩ | ⟨q4,h⟩
 ·refine Af q4 ?_;refine Ak ?_;refine Ah (tr_ ?_);obtain rfl:=zj h;exact A3 [.bool false] (Aq rfl zl Ar)
 refine Ae q4 ?_;refine Ai (tn_ ?_);refine wr_ ?_;refine Bj h (fun (_:Unit) S_=>S_=⟨An [],Aj (Ap []),2⟩) ?_ ?_
 ·intro v_ h hk6;refine Ak ?_;refine Al ?_;refine A6 h (fun (l8_m13:Nat) S_=>S_=⟨An [(0,.tree (.slice .int) a0),(1,.tree (.slice .int) a1),(12,ai ((a0.length:Nat):Int)),(13,ai ((l8_m13:Nat):Int))],Aj (Ap []),2⟩) ⟨_,Ac [],rfl⟩ ?_;rintro n_ l8_m13 _ c_ rfl h hn8
  (try dsimp only at h);unfold E0 at h;unfold Mg;refine Ak ?_;refine Ab ?_;rcases Ad h with ⟨q11,h⟩ | ⟨q11,h⟩
  ·have q11_:=of_decide_eq_true q11;refine Af q11 ?_;refine Ai (tn_ ?_);refine wr_ ?_;refine Ab ?_;refine Al ?_;refine Ak ?_;refine Ab ?_;obtain ⟨x15,e15,h⟩:=Ag h;obtain ⟨x16,e16,h⟩:=Ag h;obtain ⟨y17,h17,h⟩:=Ag h;refine A4 15 ?_;refine dz0 (.tree (.slice .int) a0) ?_;refine dz0 (ai ((l8_m13:Nat):Int)) ?_;refine ds0 (.telt none (.slice .int) x15 0) (zi (t:=.slice .int) (xs:=a0) (k:=.i64) (m:=((l8_m13:Nat):Int)) (Ay _) e15) ?_;refine dz0 (.tree .int x15) ?_;refine dz0 (.tree (.slice .int) a1) ?_;refine dz0 (ai ((l8_m13:Nat):Int)) ?_;refine ds0 (.telt none (.slice .int) x16 0) (zi (t:=.slice .int) (xs:=a1) (k:=.i64) (m:=((l8_m13:Nat):Int)) (Ay _) e16) ?_;refine dz0 (.tree .int x16) ?_;refine D3 (.bool y17) [] [.tree .int x15,.tree .int x16] _ (caps:=[]) (args0:=[.tree .int x15,.tree .int x16]) trivial (by kernel_rfl) (Acg h17) Y1 ?_;refine dz0 (.bool (!y17)) ?_;refine Gw (Bf (by kernel_rfl)) (tn_ ?_);refine wr_ ?_;rcases Ad h with ⟨q18,h⟩ | ⟨q18,h⟩
   ·refine Af q18 ?_;refine Ak ?_;refine Ah (br_ (tr_ (tr_ (br_ (tr_ ?_)))));obtain rfl:=zj h;have h:=hn8
    (try dsimp only at h);obtain rfl:=zj h;have h:=hk6
    (try dsimp only at h);obtain rfl:=zj h;exact A3 [.bool false] (Aq rfl zl Ar)
   refine Ae q18 ?_;refine Ai (bn_ (tn_ ?_));refine wr_ ?_;obtain ⟨g20,h⟩:=Av h;refine Aa 17 ?_;refine rs0 (ai ((l8_m13+1:Nat):Int)) (za g20) ?_;refine rsB 1 ?_;refine Ao (tn_ ?_);obtain rfl:=zj h;exact ⟨l8_m13+1,_,Ac [],rfl,hn8⟩
  have q11_:=of_decide_eq_false q11;refine Ae q11 ?_;refine Az (te_ (te_ (be_ (tn_ ?_))));obtain rfl:=zj h;have h:=hn8
  (try dsimp only at h);obtain rfl:=zj h;exact ⟨(),_,rfl,Ac [],rfl⟩
 rintro _ _ rfl h
 (try dsimp only at h);refine Ak ?_;refine Ah ?_;obtain rfl:=zj h;exact A3 [.bool true] (Aq rfl zl Ar)
def Rb:AC :=
 (.seq (rg [xo 3 (.i (.box 91 (tm 1))),xo 4 (qm (cb false))])
 (.seq (.region [xo 5 (qm (tm 0)),xo 6 (qc 42 [tm 5] [[]]),xo 7 (qm (tm 6)),⟨some 8,some (7,true),qf 0 (tm 3)⟩,⟨some 9,some (7,true),ql (tm 8)⟩,⟨some 10,some (7,true),qc 51 [tm 9,ci 0,ci 24] [[],[],[]]⟩,xo 11 (.i (.pick (tm 7) (tm 10) (cb false))),xo 12 (qm (tm 11)),⟨some 13,some (12,true),qf 1 (tm 3)⟩,⟨some 14,some (12,true),ql (tm 13)⟩,⟨some 15,some (12,true),.i (.len (tm 14))⟩,⟨some 16,some (12,true),qf 0 (tm 3)⟩,⟨some 17,some (12,true),ql (tm 16)⟩,⟨some 18,some (12,true),qb .leq (tm 15) (tm 17)⟩,xo 19 (.i (.pick (tm 12) (tm 18) (cb false))),xo 20 (qm (tm 19)),⟨some 21,some (20,true),qm (tm 0)⟩,⟨some 22,some (20,true),qf 0 (tm 3)⟩,⟨some 23,some (20,true),ql (tm 22)⟩,⟨some 24,some (20,true),qf 1 (tm 3)⟩,⟨some 25,some (20,true),ql (tm 24)⟩,⟨some 26,some (20,true),qc 68 [tm 21,tm 23,tm 25] [[],[],[some (.slice .int)]]⟩,xo 27 (.i (.pick (tm 20) (tm 26) (cb false))),xo 28 (qm (tm 27)),⟨some 29,some (28,true),qm (tm 0)⟩,⟨some 30,some (28,true),qf 0 (tm 3)⟩,⟨some 31,some (28,true),ql (tm 30)⟩,⟨some 32,some (28,true),qf 1 (tm 3)⟩,⟨some 33,some (28,true),ql (tm 32)⟩,⟨some 34,some (28,true),qc 70 [tm 29,tm 31,tm 33] [[],[],[some (.slice .int)]]⟩,⟨some 35,some (28,true),qf 1 (tm 3)⟩,⟨some 36,some (28,true),ql (tm 35)⟩,⟨some 37,some (28,true),qc 69 [tm 34,tm 36] [[some (.slice .int)],[some (.slice .int)]]⟩,xo 38 (.i (.pick (tm 28) (tm 37) (cb false))),xo 4 (qm (tm 38))] true [(29,31)])
 .ret))
def Adp:List Res:=[.tmp 4]
theorem Adu:Am Tryd.prog Tryd.f52=some (Rb,Adp):=by kernel_rfl
theorem Zr:A8 Tryd.prog 52=true:=by kernel_rfl
def Iw (a0:Int) (a1_0:Int) (a1_1:List (List Int)):Option Bool :=
 Option.bind (Option.bind (Eg a0) fun y3 =>
 cond y3
  (Option.bind (Bz a1_0 0 24) fun y5 =>
  cond y5
   (cond (decide (((a1_1.length:Nat):Int)<=a1_0))
    (Option.bind (Hi a0 a1_0 a1_1) fun y8 =>
    cond y8
     (Option.bind (Fk a0 a1_0 a1_1) fun y10 =>
     Option.bind (Hc y10 a1_1) fun y11 =>
     some y11)
     (some false))
    (some false))
   (some false))
  (some false)) fun l2_m4 =>
some l2_m4
def Aa6 (r:Bool):RV:=⟨false,[(false,[.sc (.bool r)])]⟩
set_option maxHeartbeats 1600000 in
theorem Z6 {a0:Int} {a1_0:Int} {a1_1:List (List Int)} {r:Bool} (h:Iw a0 a1_0 a1_1=some r):Aw Tryd.prog Tab 52 [ai a0,.agg [ai a1_0,.tree (.slice .int) a1_1]] (Aa6 r):=by
 refine At (by kernel_rfl) Tryd.func52 Adu (n:=39) (by kernel_rfl) (by simp) (tl:=[(0,ai a0),(1,.agg [ai a1_0,.tree (.slice .int) a1_1])]) rfl ?_;unfold Rb;unfold Iw at h;refine Ak ?_;refine Ax h (fun (l2_m4:Bool) S_=>S_=⟨An [(4,.bool l2_m4)],Aj (Ap []),2⟩) ?_ ?_
 ·intro v_ h;obtain ⟨y3,h3,h⟩:=Ag h;rcases Ad h with ⟨q4,h⟩ | ⟨q4,h⟩
  ·obtain ⟨y5,h5,h⟩:=Ag h;rcases Ad h with ⟨q6,h⟩ | ⟨q6,h⟩
   ·rcases Ad h with ⟨q7,h⟩ | ⟨q7,h⟩
    ·have q7_:=of_decide_eq_true q7;obtain ⟨y8,h8,h⟩:=Ag h;rcases Ad h with ⟨q9,h⟩ | ⟨q9,h⟩
     ·obtain ⟨y10,h10,h⟩:=Ag h;obtain ⟨y11,h11,h⟩:=Ag h;refine A4 38 ?_;refine dz0 (ai a0) ?_;refine D3 (.bool y3) [] [ai a0] _ (caps:=[]) (args0:=[ai a0]) trivial (by kernel_rfl) (Cx h3) E7 ?_;refine dz0 (.bool y3) ?_;refine ds0 (.box (oi 3 1) 0) (zg q4) ?_;refine dsl (ai a1_0) (zg q4) ?_;refine D3 (.bool y5) [] [ai a1_0,ai 0,ai 24] _ (caps:=[]) (args0:=[ai a1_0,ai 0,ai 24]) (Bi (by kernel_rfl) q4) (by kernel_rfl) (Bm h5) Fj ?_;refine ds0 (.bool y5) (zT q4) ?_;refine dz0 (.bool y5) ?_;refine ds0 (.box (oi 3 1) 1) (zg q6) ?_;refine dsl (.tree (.slice .int) a1_1) (zg q6) ?_;refine ds0 (ai ((a1_1.length:Nat):Int)) (zg q6) ?_;refine ds0 (.box (oi 3 1) 0) (zg q6) ?_;refine dsl (ai a1_0) (zg q6) ?_;refine ds0 (.bool (decide (((a1_1.length:Nat):Int)<=a1_0))) (zg q6) ?_;refine ds0 (.bool (decide (((a1_1.length:Nat):Int)<=a1_0))) (zT q6) ?_;refine dz0 (.bool (decide (((a1_1.length:Nat):Int)<=a1_0))) ?_;refine ds0 (ai a0) (zg q7) ?_;refine ds0 (.box (oi 3 1) 0) (zg q7) ?_;refine dsl (ai a1_0) (zg q7) ?_;refine ds0 (.box (oi 3 1) 1) (zg q7) ?_;refine dsl (.tree (.slice .int) a1_1) (zg q7) ?_;refine D3 (.bool y8) [] [ai a0,ai a1_0,.tree (.slice .int) a1_1] _ (caps:=[]) (args0:=[ai a0,ai a1_0,.tree (.slice .int) a1_1]) (Bi (by kernel_rfl) q7) (by kernel_rfl) (Pf h8) Ph ?_;refine ds0 (.bool y8) (zT q7) ?_;refine dz0 (.bool y8) ?_;refine ds0 (ai a0) (zg q9) ?_;refine ds0 (.box (oi 3 1) 0) (zg q9) ?_;refine dsl (ai a1_0) (zg q9) ?_;refine ds0 (.box (oi 3 1) 1) (zg q9) ?_;refine dsl (.tree (.slice .int) a1_1) (zg q9) ?_;refine Aqa (.own (oi 544 32) (.slice .int) 0 y10.length) [(oi 544 32,some (.mat 79 (oi 545 32) .int y10)),(oi 545 32,some (.pool 3 .int y10))] [] [ai a0,ai a1_0,.tree (.slice .int) a1_1] (caps:=[]) (Bi (by kernel_rfl) q9) (Wv h10) Ws trivial (.cons (.ren (by kernel_rfl)) (.cons (.ren (by kernel_rfl)) (.cons (.ren (by kernel_rfl)) .nil))) (Ca (by kernel_rfl) (by kernel_rfl) trivial) (Atq (by kernel_rfl)) ?_;refine ds0 (.box (oi 3 1) 1) (zg q9) ?_;refine dsl (.tree (.slice .int) a1_1) (zg q9) ?_;refine D3 (.bool y11) [] [.own (oi 544 32) (.slice .int) 0 y10.length,.tree (.slice .int) a1_1] _ (caps:=[]) (args0:=[.tree (.slice .int) y10,.tree (.slice .int) a1_1]) (Bi (by kernel_rfl) q9) (U1 (Aqr (p:=oi 545 32) (e1:=79) (e:=3) (u:=.int) (xss:=y10) (by kernel_rfl) (Akp (t:=.slice .int) (off:=0) (len:=y10.length) (i:=oi 544 32) (e1:=79) (z:=1) (m:=y10.length) 0 rfl (by kernel_rfl) (by kernel_rfl) (Afi (by kernel_rfl))) rfl) (U1 (by kernel_rfl) Akx)) (Abn h11) Acj ?_;refine ds0 (.bool y11) (zT q9) ?_;refine dz0 (.bool y11) ?_;refine Gw ⟨At5 (by kernel_rfl),trivial⟩ (tn_ ?_);obtain rfl:=zj h;exact ⟨_,Ac [],rfl⟩
     refine A4 38 ?_;refine dz0 (ai a0) ?_;refine D3 (.bool y3) [] [ai a0] _ (caps:=[]) (args0:=[ai a0]) trivial (by kernel_rfl) (Cx h3) E7 ?_;refine dz0 (.bool y3) ?_;refine ds0 (.box (oi 3 1) 0) (zg q4) ?_;refine dsl (ai a1_0) (zg q4) ?_;refine D3 (.bool y5) [] [ai a1_0,ai 0,ai 24] _ (caps:=[]) (args0:=[ai a1_0,ai 0,ai 24]) (Bi (by kernel_rfl) q4) (by kernel_rfl) (Bm h5) Fj ?_;refine ds0 (.bool y5) (zT q4) ?_;refine dz0 (.bool y5) ?_;refine ds0 (.box (oi 3 1) 1) (zg q6) ?_;refine dsl (.tree (.slice .int) a1_1) (zg q6) ?_;refine ds0 (ai ((a1_1.length:Nat):Int)) (zg q6) ?_;refine ds0 (.box (oi 3 1) 0) (zg q6) ?_;refine dsl (ai a1_0) (zg q6) ?_;refine ds0 (.bool (decide (((a1_1.length:Nat):Int)<=a1_0))) (zg q6) ?_;refine ds0 (.bool (decide (((a1_1.length:Nat):Int)<=a1_0))) (zT q6) ?_;refine dz0 (.bool (decide (((a1_1.length:Nat):Int)<=a1_0))) ?_;refine ds0 (ai a0) (zg q7) ?_;refine ds0 (.box (oi 3 1) 0) (zg q7) ?_;refine dsl (ai a1_0) (zg q7) ?_;refine ds0 (.box (oi 3 1) 1) (zg q7) ?_;refine dsl (.tree (.slice .int) a1_1) (zg q7) ?_;refine D3 (.bool y8) [] [ai a0,ai a1_0,.tree (.slice .int) a1_1] _ (caps:=[]) (args0:=[ai a0,ai a1_0,.tree (.slice .int) a1_1]) (Bi (by kernel_rfl) q7) (by kernel_rfl) (Pf h8) Ph ?_;refine ds0 (.bool y8) (zT q7) ?_;refine dz0 (.bool y8) ?_;refine ds0 (.tup []) (Bx (by kernel_rfl) q9) ?_;refine ds0 (.tup []) (Bx (by kernel_rfl) q9) ?_;refine ds0 (.tup []) (Bx (by kernel_rfl) q9) ?_;refine ds0 (.tup []) (Bx (by kernel_rfl) q9) ?_;refine ds0 (.tup []) (Bx (by kernel_rfl) q9) ?_;refine ds0 (.tup []) (Bx (by kernel_rfl) q9) ?_;refine ds0 (.tup []) (Bx (by kernel_rfl) q9) ?_;refine ds0 (.tup []) (Bx (by kernel_rfl) q9) ?_;refine ds0 (.tup []) (Bx (by kernel_rfl) q9) ?_;refine ds0 (.bool false) (zF q9) ?_;refine dz0 (.bool false) ?_;refine Gw (Bf (by kernel_rfl)) (tn_ ?_);obtain rfl:=zj h;exact ⟨_,Ac [],rfl⟩
    have q7_:=of_decide_eq_false q7;refine A4 38 ?_;refine dz0 (ai a0) ?_;refine D3 (.bool y3) [] [ai a0] _ (caps:=[]) (args0:=[ai a0]) trivial (by kernel_rfl) (Cx h3) E7 ?_;refine dz0 (.bool y3) ?_;refine ds0 (.box (oi 3 1) 0) (zg q4) ?_;refine dsl (ai a1_0) (zg q4) ?_;refine D3 (.bool y5) [] [ai a1_0,ai 0,ai 24] _ (caps:=[]) (args0:=[ai a1_0,ai 0,ai 24]) (Bi (by kernel_rfl) q4) (by kernel_rfl) (Bm h5) Fj ?_;refine ds0 (.bool y5) (zT q4) ?_;refine dz0 (.bool y5) ?_;refine ds0 (.box (oi 3 1) 1) (zg q6) ?_;refine dsl (.tree (.slice .int) a1_1) (zg q6) ?_;refine ds0 (ai ((a1_1.length:Nat):Int)) (zg q6) ?_;refine ds0 (.box (oi 3 1) 0) (zg q6) ?_;refine dsl (ai a1_0) (zg q6) ?_;refine ds0 (.bool (decide (((a1_1.length:Nat):Int)<=a1_0))) (zg q6) ?_;refine ds0 (.bool (decide (((a1_1.length:Nat):Int)<=a1_0))) (zT q6) ?_;refine dz0 (.bool (decide (((a1_1.length:Nat):Int)<=a1_0))) ?_;refine ds0 (.tup []) (Bx (by kernel_rfl) q7) ?_;refine ds0 (.tup []) (Bx (by kernel_rfl) q7) ?_;refine ds0 (.tup []) (Bx (by kernel_rfl) q7) ?_;refine ds0 (.tup []) (Bx (by kernel_rfl) q7) ?_;refine ds0 (.tup []) (Bx (by kernel_rfl) q7) ?_;refine ds0 (.tup []) (Bx (by kernel_rfl) q7) ?_;refine ds0 (.bool false) (zF q7) ?_;refine dz0 (.bool false) ?_;refine dz0 (.tup []) ?_;refine dz0 (.tup []) ?_;refine dz0 (.tup []) ?_;refine dz0 (.tup []) ?_;refine dz0 (.tup []) ?_;refine dz0 (.tup []) ?_;refine dz0 (.tup []) ?_;refine dz0 (.tup []) ?_;refine dz0 (.tup []) ?_;refine dz0 (.bool false) ?_;refine dz0 (.bool false) ?_;refine Gw (Bf (by kernel_rfl)) (tn_ ?_);obtain rfl:=zj h;exact ⟨_,Ac [],rfl⟩
   refine A4 38 ?_;refine dz0 (ai a0) ?_;refine D3 (.bool y3) [] [ai a0] _ (caps:=[]) (args0:=[ai a0]) trivial (by kernel_rfl) (Cx h3) E7 ?_;refine dz0 (.bool y3) ?_;refine ds0 (.box (oi 3 1) 0) (zg q4) ?_;refine dsl (ai a1_0) (zg q4) ?_;refine D3 (.bool y5) [] [ai a1_0,ai 0,ai 24] _ (caps:=[]) (args0:=[ai a1_0,ai 0,ai 24]) (Bi (by kernel_rfl) q4) (by kernel_rfl) (Bm h5) Fj ?_;refine ds0 (.bool y5) (zT q4) ?_;refine dz0 (.bool y5) ?_;refine ds0 (.tup []) (Bx (by kernel_rfl) q6) ?_;refine ds0 (.tup []) (Bx (by kernel_rfl) q6) ?_;refine ds0 (.tup []) (Bx (by kernel_rfl) q6) ?_;refine ds0 (.tup []) (Bx (by kernel_rfl) q6) ?_;refine ds0 (.tup []) (Bx (by kernel_rfl) q6) ?_;refine ds0 (.tup []) (Bx (by kernel_rfl) q6) ?_;refine ds0 (.bool false) (zF q6) ?_;refine dz0 (.bool false) ?_;refine dz0 (.tup []) ?_;refine dz0 (.tup []) ?_;refine dz0 (.tup []) ?_;refine dz0 (.tup []) ?_;refine dz0 (.tup []) ?_;refine dz0 (.tup []) ?_;refine dz0 (.bool false) ?_;refine dz0 (.bool false) ?_;refine dz0 (.tup []) ?_;refine dz0 (.tup []) ?_;refine dz0 (.tup []) ?_;refine dz0 (.tup []) ?_;refine dz0 (.tup []) ?_;refine dz0 (.tup []) ?_;refine dz0 (.tup []) ?_;refine dz0 (.tup []) ?_;refine dz0 (.tup []) ?_;refine dz0 (.bool false) ?_;refine dz0 (.bool false) ?_;refine Gw (Bf (by kernel_rfl)) (tn_ ?_);obtain rfl:=zj h;exact ⟨_,Ac [],rfl⟩
  refine A4 38 ?_;refine dz0 (ai a0) ?_;refine D3 (.bool y3) [] [ai a0] _ (caps:=[]) (args0:=[ai a0]) trivial (by kernel_rfl) (Cx h3) E7 ?_;refine dz0 (.bool y3) ?_;refine ds0 (.tup []) (Bx (by kernel_rfl) q4) ?_;refine ds0 (.tup []) (Bx (by kernel_rfl) q4) ?_;refine ds0 (.tup []) (Bx (by kernel_rfl) q4) ?_;refine ds0 (.bool false) (zF q4) ?_;refine dz0 (.bool false) ?_;refine dz0 (.tup []) ?_;refine dz0 (.tup []) ?_;refine dz0 (.tup []) ?_;refine dz0 (.tup []) ?_;refine dz0 (.tup []) ?_;refine dz0 (.tup []) ?_;refine dz0 (.bool false) ?_;refine dz0 (.bool false) ?_;refine dz0 (.tup []) ?_;refine dz0 (.tup []) ?_;refine dz0 (.tup []) ?_;refine dz0 (.tup []) ?_;refine dz0 (.tup []) ?_;refine dz0 (.tup []) ?_;refine dz0 (.bool false) ?_;refine dz0 (.bool false) ?_;refine dz0 (.tup []) ?_;refine dz0 (.tup []) ?_;refine dz0 (.tup []) ?_;refine dz0 (.tup []) ?_;refine dz0 (.tup []) ?_;refine dz0 (.tup []) ?_;refine dz0 (.tup []) ?_;refine dz0 (.tup []) ?_;refine dz0 (.tup []) ?_;refine dz0 (.bool false) ?_;refine dz0 (.bool false) ?_;refine Gw (Bf (by kernel_rfl)) (tn_ ?_);obtain rfl:=zj h;exact ⟨_,Ac [],rfl⟩
 rintro l2_m4 _ rfl h
 (try dsimp only at h);refine Ah ?_;obtain rfl:=zj h;exact A3 [.bool l2_m4] (Aq rfl zl Ar)
def Rh:AC :=
 (.seq (rg [xo 3 (.i (.box 35 (tm 1))),xo 4 (qm (cb false))])
 (.seq (rg [xo 5 (qf 0 (tm 3)),xo 6 (ql (tm 5)),xo 7 (qc 51 [tm 6,ci 0,ci 24] [[],[],[]]),xo 8 (qm (tm 7)),⟨some 9,some (8,true),qf 1 (tm 3)⟩,⟨some 10,some (8,true),ql (tm 9)⟩,⟨some 11,some (8,true),qf 0 (tm 3)⟩,⟨some 12,some (8,true),ql (tm 11)⟩,⟨some 13,some (8,true),qb .sub (ci 24) (tm 12)⟩,⟨some 14,some (8,true),qc 51 [tm 10,ci 0,tm 13] [[],[],[]]⟩,xo 15 (.i (.pick (tm 8) (tm 14) (cb false))),xo 16 (qm (tm 15)),⟨some 17,some (16,true),qm (tm 0)⟩,⟨some 18,some (16,true),qf 0 (tm 3)⟩,⟨some 19,some (16,true),ql (tm 18)⟩,⟨some 20,some (16,true),qf 1 (tm 3)⟩,⟨some 21,some (16,true),ql (tm 20)⟩,⟨some 22,some (16,true),qb .add (tm 19) (tm 21)⟩,⟨some 23,some (16,true),qf 2 (tm 3)⟩,⟨some 24,some (16,true),ql (tm 23)⟩,⟨some 25,some (16,true),.build [.int .i64 0,.nils] [(0,1,tm 22),(1,1,tm 24)]⟩,⟨some 26,some (16,true),qc 52 [tm 17,tm 25] [[],[none,some (.slice .int)]]⟩,xo 27 (.i (.pick (tm 16) (tm 26) (cb false))),xo 4 (qm (tm 27))])
 .ret))
def Ado:List Res:=[.tmp 4]
theorem Aey:Am Tryd.prog Tryd.f31=some (Rh,Ado):=by kernel_rfl
theorem K1:A8 Tryd.prog 31=true:=by kernel_rfl
def He (a0:Int) (a1_0:Int) (a1_1:Int) (a1_2:List (List Int)):Option Bool :=
 Option.bind (Option.bind (Bz a1_0 0 24) fun y3 =>
 cond y3
  (Option.bind (Bz a1_1 0 (wI (24 - a1_0))) fun y5 =>
  cond y5
   (Option.bind (Iw a0 (wI (a1_0+a1_1)) a1_2) fun y7 =>
   some y7)
   (some false))
  (some false)) fun l2_m4 =>
some l2_m4
def Aab (r:Bool):RV:=⟨false,[(false,[.sc (.bool r)])]⟩
theorem Kl {a0:Int} {a1_0:Int} {a1_1:Int} {a1_2:List (List Int)} {r:Bool} (h:He a0 a1_0 a1_1 a1_2=some r):Aw Tryd.prog Tab 31 [ai a0,.agg [ai a1_0,ai a1_1,.tree (.slice .int) a1_2]] (Aab r):=by
 refine At (by kernel_rfl) Tryd.func31 Aey (n:=28) (by kernel_rfl) (by simp) (tl:=[(0,ai a0),(1,.agg [ai a1_0,ai a1_1,.tree (.slice .int) a1_2])]) rfl ?_;unfold Rh;unfold He at h;refine Ak ?_;refine Ax h (fun (l2_m4:Bool) S_=>S_=⟨An [(4,.bool l2_m4)],Aj (Ap []),2⟩) ?_ ?_
 ·intro v_ h;obtain ⟨y3,h3,h⟩:=Ag h;rcases Ad h with ⟨q4,h⟩ | ⟨q4,h⟩
  ·obtain ⟨y5,h5,h⟩:=Ag h;rcases Ad h with ⟨q6,h⟩ | ⟨q6,h⟩
   ·obtain ⟨y7,h7,h⟩:=Ag h;refine Aa 27 ?_;refine rz0 (.box (oi 3 1) 0) ?_;refine rzl (ai a1_0) ?_;refine zc (.bool y3) [] [ai a1_0,ai 0,ai 24] (Bm h3) ?_;refine rz0 (.bool y3) ?_;refine rs0 (.box (oi 3 1) 1) (zg q4) ?_;refine rsl (ai a1_1) (zg q4) ?_;refine rs0 (.box (oi 3 1) 0) (zg q4) ?_;refine rsl (ai a1_0) (zg q4) ?_;refine rs0 (ai (wI (24 - a1_0))) (zg q4) ?_;refine B3 (.bool y5) [] [ai a1_1,ai 0,ai (wI (24 - a1_0))] _ (caps:=[]) (args0:=[ai a1_1,ai 0,ai (wI (24 - a1_0))]) (Bi (by kernel_rfl) q4) (by kernel_rfl) (Bm h5) Fj ?_;refine rs0 (.bool y5) (zT q4) ?_;refine rz0 (.bool y5) ?_;refine rs0 (ai a0) (zg q6) ?_;refine rs0 (.box (oi 3 1) 0) (zg q6) ?_;refine rsl (ai a1_0) (zg q6) ?_;refine rs0 (.box (oi 3 1) 1) (zg q6) ?_;refine rsl (ai a1_1) (zg q6) ?_;refine rs0 (ai (wI (a1_0+a1_1))) (zg q6) ?_;refine rs0 (.box (oi 3 1) 2) (zg q6) ?_;refine rsl (.tree (.slice .int) a1_2) (zg q6) ?_;refine rs0 (.agg [ai (wI (a1_0+a1_1)),.tree (.slice .int) a1_2]) (zg q6) ?_;refine B3 (.bool y7) [] [ai a0,.agg [ai (wI (a1_0+a1_1)),.tree (.slice .int) a1_2]] _ (caps:=[]) (args0:=[ai a0,.agg [ai (wI (a1_0+a1_1)),.tree (.slice .int) a1_2]]) (Bi (by kernel_rfl) q6) (by kernel_rfl) (Z6 h7) Zr ?_;refine rs0 (.bool y7) (zT q6) ?_;refine rsB 1 ?_;refine Ao (tn_ ?_);obtain rfl:=zj h;exact ⟨_,Ac [],rfl⟩
   refine Aa 27 ?_;refine rz0 (.box (oi 3 1) 0) ?_;refine rzl (ai a1_0) ?_;refine zc (.bool y3) [] [ai a1_0,ai 0,ai 24] (Bm h3) ?_;refine rz0 (.bool y3) ?_;refine rs0 (.box (oi 3 1) 1) (zg q4) ?_;refine rsl (ai a1_1) (zg q4) ?_;refine rs0 (.box (oi 3 1) 0) (zg q4) ?_;refine rsl (ai a1_0) (zg q4) ?_;refine rs0 (ai (wI (24 - a1_0))) (zg q4) ?_;refine B3 (.bool y5) [] [ai a1_1,ai 0,ai (wI (24 - a1_0))] _ (caps:=[]) (args0:=[ai a1_1,ai 0,ai (wI (24 - a1_0))]) (Bi (by kernel_rfl) q4) (by kernel_rfl) (Bm h5) Fj ?_;refine rs0 (.bool y5) (zT q4) ?_;refine rz0 (.bool y5) ?_;refine zs q6 ?_;refine zs q6 ?_;refine zs q6 ?_;refine zs q6 ?_;refine zs q6 ?_;refine zs q6 ?_;refine zs q6 ?_;refine zs q6 ?_;refine zs q6 ?_;refine zs q6 ?_;refine rs0 (.bool false) (zF q6) ?_;refine rsB 1 ?_;refine Ao (tn_ ?_);obtain rfl:=zj h;exact ⟨_,Ac [],rfl⟩
  refine Aa 27 ?_;refine rz0 (.box (oi 3 1) 0) ?_;refine rzl (ai a1_0) ?_;refine zc (.bool y3) [] [ai a1_0,ai 0,ai 24] (Bm h3) ?_;refine rz0 (.bool y3) ?_;refine zs q4 ?_;refine zs q4 ?_;refine zs q4 ?_;refine zs q4 ?_;refine zs q4 ?_;refine zs q4 ?_;refine rs0 (.bool false) (zF q4) ?_;refine rsB 13 ?_;refine Ao (tn_ ?_);obtain rfl:=zj h;exact ⟨_,Ac [],rfl⟩
 rintro l2_m4 _ rfl h
 (try dsimp only at h);refine Ah ?_;obtain rfl:=zj h;exact A3 [.bool l2_m4] (Aq rfl zl Ar)
def W9:AC :=
 (.seq (rg [xo 4 (qm (cb false))])
 (.seq (rg [xo 5 (qm (tm 0)),xo 6 (qc 55 [tm 5,ci 0,ci 24] [[],[],[]]),xo 7 (qm (tm 6)),⟨some 8,some (7,true),qm (tm 1)⟩,⟨some 9,some (7,true),qc 55 [tm 8,ci 0,ci 24] [[],[],[]]⟩,xo 10 (.i (.pick (tm 7) (tm 9) (cb false))),xo 11 (qm (tm 10)),⟨some 12,some (11,true),qm (tm 0)⟩,⟨some 13,some (11,true),qm (tm 1)⟩,⟨some 14,some (11,true),qb .add (tm 12) (tm 13)⟩,⟨some 15,some (11,true),qb .leq (tm 14) (ci 24)⟩,xo 16 (.i (.pick (tm 11) (tm 15) (cb false))),xo 4 (qm (tm 16))])
 .ret))
def Aiu:List Res:=[.tmp 4]
theorem Ajs:Am Tryd.prog Tryd.f61=some (W9,Aiu):=by kernel_rfl
theorem T8:A8 Tryd.prog 61=true:=by kernel_rfl
def I3 (a0:Int) (a1:Int):Option Bool :=
 Option.bind (Option.bind (B2 a0 0 24) fun y3 =>
 cond y3
  (Option.bind (B2 a1 0 24) fun y5 =>
  cond y5
   (some (decide (wI (a0+a1)<=24)))
   (some false))
  (some false)) fun l2_m4 =>
some l2_m4
def Af1 (r:Bool):RV:=⟨false,[(false,[.sc (.bool r)])]⟩
theorem Vl {a0:Int} {a1:Int} {r:Bool} (h:I3 a0 a1=some r):Aw Tryd.prog Tab 61 [ai a0,ai a1] (Af1 r):=by
 refine At (by kernel_rfl) Tryd.func61 Ajs (n:=17) (by kernel_rfl) (by simp) (tl:=[(0,ai a0),(1,ai a1)]) rfl ?_;unfold W9;unfold I3 at h;refine Ak ?_;refine Ax h (fun (l2_m4:Bool) S_=>S_=⟨An [(4,.bool l2_m4)],Aj (Ap []),2⟩) ?_ ?_
 ·intro v_ h;obtain ⟨y3,h3,h⟩:=Ag h;rcases Ad h with ⟨q4,h⟩ | ⟨q4,h⟩
  ·obtain ⟨y5,h5,h⟩:=Ag h;rcases Ad h with ⟨q6,h⟩ | ⟨q6,h⟩
   ·refine Aa 15 ?_;refine rz0 (ai a0) ?_;refine zc (.bool y3) [] [ai a0,ai 0,ai 24] (Bq h3) ?_;refine rz0 (.bool y3) ?_;refine rs0 (ai a1) (zg q4) ?_;refine B3 (.bool y5) [] [ai a1,ai 0,ai 24] _ (caps:=[]) (args0:=[ai a1,ai 0,ai 24]) (Bi (by kernel_rfl) q4) (by kernel_rfl) (Bq h5) Kt ?_;refine rs0 (.bool y5) (zT q4) ?_;refine rz0 (.bool y5) ?_;refine rs0 (ai a0) (zg q6) ?_;refine rs0 (ai a1) (zg q6) ?_;refine rs0 (ai (wI (a0+a1))) (zg q6) ?_;refine rs0 (.bool (decide (wI (a0+a1)<=24))) (zg q6) ?_;refine rs0 (.bool (decide (wI (a0+a1)<=24))) (zT q6) ?_;refine rsB 1 ?_;refine Ao (tn_ ?_);obtain rfl:=zj h;exact ⟨_,Ac [],rfl⟩
   refine Aa 15 ?_;refine rz0 (ai a0) ?_;refine zc (.bool y3) [] [ai a0,ai 0,ai 24] (Bq h3) ?_;refine rz0 (.bool y3) ?_;refine rs0 (ai a1) (zg q4) ?_;refine B3 (.bool y5) [] [ai a1,ai 0,ai 24] _ (caps:=[]) (args0:=[ai a1,ai 0,ai 24]) (Bi (by kernel_rfl) q4) (by kernel_rfl) (Bq h5) Kt ?_;refine rs0 (.bool y5) (zT q4) ?_;refine rz0 (.bool y5) ?_;refine zs q6 ?_;refine zs q6 ?_;refine zs q6 ?_;refine zs q6 ?_;refine rs0 (.bool false) (zF q6) ?_;refine rsB 1 ?_;refine Ao (tn_ ?_);obtain rfl:=zj h;exact ⟨_,Ac [],rfl⟩
  refine Aa 15 ?_;refine rz0 (ai a0) ?_;refine zc (.bool y3) [] [ai a0,ai 0,ai 24] (Bq h3) ?_;refine rz0 (.bool y3) ?_;refine zs q4 ?_;refine zs q4 ?_;refine rs0 (.bool false) (zF q4) ?_;refine rsB 7 ?_;refine Ao (tn_ ?_);obtain rfl:=zj h;exact ⟨_,Ac [],rfl⟩
 rintro l2_m4 _ rfl h
 (try dsimp only at h);refine Ah ?_;obtain rfl:=zj h;exact A3 [.bool l2_m4] (Aq rfl zl Ar)
def I4:AC :=
 (.seq (rg [xo 12 (qb .lss (tm 11) (tm 10))])
 (.seq (.cond (tm 12)
  .skip
  (.exit 0))
 (.seq (.block 1 (.seq (rg [xo 13 (qx 1 (tm 9) (tm 11)),xo 14 (ql (tm 13)),xo 8 (qm (tm 14))])
 (.seq (rg [xo 15 (qm (tm 0)),xo 16 (qm (tm 8)),xo 17 (qm (tm 2)),xo 18 (qc 89 [tm 15,tm 16,tm 17] [[],[some .int],[]]),xo 19 (.i (.not (tm 18)))])
 (.cond (tm 19)
  (.seq (rg [xo 6 (qm (cb false))])
  .ret)
  .skip))))
 (rg [xo 20 (qb .add (tm 11) (ci 1)),xo 11 (qm (tm 20))]))))
def L1:AC :=
 (.seq (rg [xo 6 (qm (cb false))])
 (.seq (.seq (rg [xo 9 (qm (tm 1)),xo 10 (.i (.len (tm 9))),xo 11 (qm (ci 0))])
 (.block 0 (.loop I4)))
 (.seq (rg [xo 6 (qm (cb true))])
 .ret)))
def Uc:List Res:=[.tmp 6]
theorem Vu:Am Tryd.prog Tryd.f74=some (L1,Uc):=by kernel_rfl
theorem Sc:A8 Tryd.prog 74=true:=by kernel_rfl
def Ee (a1:List (List Int)) (a0:Int) (a2:Int) (l4_m11:Nat):Option (Ctl Nat (Ctl Unit Bool)) :=
 cond (decide (((l4_m11:Nat):Int)<((a1.length:Nat):Int)))
 (Option.bind (a1[l4_m11]?) fun x10 =>
 Option.bind (Fs a0 x10 a2) fun y12 =>
 cond (!y12)
  (some (Ctl.out (Ctl.out false)))
  (og (l4_m11+1<4611686018427387904) <|
  some (Ctl.next (l4_m11+1))))
 (some (Ctl.out (Ctl.next ())))
def Ed (a0:Int) (a1:List (List Int)) (a2:Int):Option Bool :=
 Du (A7 (fun s_:Nat=>Ee a1 a0 a2 s_) 4611686018427387904 0) fun _ =>
some true
def Td (r:Bool):RV:=⟨false,[(false,[.sc (.bool r)])]⟩
theorem S6 {a0:Int} {a1:List (List Int)} {a2:Int} {r:Bool} (h:Ed a0 a1 a2=some r):Aw Tryd.prog Tab 74 [ai a0,.tree (.slice .int) a1,ai a2] (Td r):=by
 refine At (by kernel_rfl) Tryd.func74 Vu (n:=21) (by kernel_rfl) (by simp) (tl:=[(0,ai a0),(1,.tree (.slice .int) a1),(2,ai a2)]) rfl ?_;unfold L1;unfold Ed at h;refine Ak ?_;refine Bj h (fun (_:Unit) S_=>S_=⟨An [],Aj (Ap []),2⟩) ?_ ?_
 ·intro v_ h hk2;refine Ak ?_;refine Al ?_;refine A6 h (fun (l4_m11:Nat) S_=>S_=⟨An [(0,ai a0),(2,ai a2),(9,.tree (.slice .int) a1),(10,ai ((a1.length:Nat):Int)),(11,ai ((l4_m11:Nat):Int))],Aj (Ap []),2⟩) ⟨_,Ac [],rfl⟩ ?_;rintro n_ l4_m11 _ c_ rfl h hn4
  (try dsimp only at h);unfold Ee at h;unfold I4;refine Ak ?_;refine Ab ?_;rcases Ad h with ⟨q7,h⟩ | ⟨q7,h⟩
  ·have q7_:=of_decide_eq_true q7;refine Af q7 ?_;refine Ai (tn_ ?_);refine wr_ ?_;refine Ab ?_;refine Al ?_;refine Ab ?_;obtain ⟨x10,e10,h⟩:=Ag h;refine Aa 6 ?_;refine rs0 (.telt none (.slice .int) x10 0) (zi (t:=.slice .int) (xs:=a1) (k:=.i64) (m:=((l4_m11:Nat):Int)) (Ay _) e10) ?_;refine rsB 2 ?_;refine Ao (tn_ ?_);refine wr_ ?_;refine Ab ?_;obtain ⟨y12,h12,h⟩:=Ag h;refine Aa 11 ?_;refine rz0 (ai a0) ?_;refine rz0 (.tree .int x10) ?_;refine rz0 (ai a2) ?_;refine zc (.bool y12) [] [ai a0,.tree .int x10,ai a2] (W0 h12) ?_;refine rsB 1 ?_;refine Ao (tn_ ?_);refine wr_ ?_;rcases Ad h with ⟨q13,h⟩ | ⟨q13,h⟩
   ·refine Af q13 ?_;refine Ak ?_;refine Ah (br_ (tr_ (tr_ (br_ (tr_ ?_)))));obtain rfl:=zj h;have h:=hn4
    (try dsimp only at h);obtain rfl:=zj h;have h:=hk2
    (try dsimp only at h);obtain rfl:=zj h;exact A3 [.bool false] (Aq rfl zl Ar)
   refine Ae q13 ?_;refine Ai (bn_ (tn_ ?_));refine wr_ ?_;obtain ⟨g15,h⟩:=Av h;refine Aa 13 ?_;refine rs0 (ai ((l4_m11+1:Nat):Int)) (za g15) ?_;refine rsB 1 ?_;refine Ao (tn_ ?_);obtain rfl:=zj h;exact ⟨l4_m11+1,_,Ac [],rfl,hn4⟩
  have q7_:=of_decide_eq_false q7;refine Ae q7 ?_;refine Az (te_ (te_ (be_ (tn_ ?_))));obtain rfl:=zj h;have h:=hn4
  (try dsimp only at h);obtain rfl:=zj h;exact ⟨(),_,rfl,Ac [],rfl⟩
 rintro _ _ rfl h
 (try dsimp only at h);refine Ak ?_;refine Ah ?_;obtain rfl:=zj h;exact A3 [.bool true] (Aq rfl zl Ar)
def Pc:AC :=
 (.seq (rg [xo 6 (qm (.cst .nils))])
 (.seq (rg [xo 10 (qm (tm 1)),xo 11 (qc 90 [tm 10] [[some (.slice .int)]]),xo 7 (qm (tm 11))])
 (.seq (rg [xo 12 (qm (tm 7)),xo 13 (.i (.len (tm 12))),xo 14 (.makeV 79 (.slice .int) 24 [.nils] (tm 13) (tm 13)),xo 8 (qm (tm 14))])
 (.seq (rg [xo 15 (qm (tm 0)),xo 16 (qm (tm 7)),xo 17 (qm (tm 2)),xo 18 (qm (tm 8)),xo 19 (qc 91 [tm 15,tm 16,tm 17,tm 18] [[],[some (.slice .int)],[],[some (.slice .int)]]),xo 9 (qm (tm 19))])
 (.seq (rg [xo 20 (qm (tm 7)),xo 21 (qm (tm 9)),xo 22 (qm (tm 9)),xo 23 (.slice 1 (tm 20) none (some (tm 21)) (some (tm 22))),xo 6 (qm (tm 23))])
 .ret)))))
def Abp:List Res:=[.tmp 6]
theorem Ab7:Am Tryd.prog Tryd.f75=some (Pc,Abp):=by kernel_rfl
theorem N0:A8 Tryd.prog 75=true:=by kernel_rfl
def Et (a0:Int) (a1:List (List Int)) (a2:Int):Option (List (List Int)) :=
 Option.bind (Hh a1) fun y4 =>
og (0<=((y4.length:Nat):Int)∧((y4.length:Nat):Int)<=((y4.length:Nat):Int)∧((y4.length:Nat):Int)<=1073741824∧(24:Int)*((y4.length:Nat):Int)<=140737488355328) <|
Option.bind (Em a0 y4 a2 (List.replicate y4.length ([]:List Int))) fun y8 =>
og (y8.1.length=y4.length) <|
og (y8.2.1.length=y4.length) <|
og ((0:Int)<=((y8.2.2:Nat):Int)∧((y8.2.2:Nat):Int)<=((y8.2.2:Nat):Int)∧((y8.2.2:Nat):Int)<=((y4.length:Nat):Int)) <|
some (y8.1.take y8.2.2)
theorem N1 {a0:Int} {a1:List (List Int)} {a2:Int} {r:List (List Int)} (h:Et a0 a1 a2=some r):Id Tryd.prog Tab 75 [ai a0,.tree (.slice .int) a1,ai a2] [] (.own (oi 0 1) (.slice .int) 0 r.length) [(oi 0 1,.mat 79 (oi 1 1) .int r),(oi 1 1,.pool 3 .int r)]:=by
 refine Gv (by kernel_rfl) Tryd.func75 Ab7 (n:=24) (by kernel_rfl) (by simp) (tl:=[(0,ai a0),(1,.tree (.slice .int) a1),(2,ai a2)]) rfl (by kernel_rfl) trivial ⟨⟨3,.tail _ (.head _)⟩,⟨trivial,trivial⟩⟩ ?_;unfold Pc;unfold Et at h;refine Ak ?_;refine Ab ?_;obtain ⟨y4,h4,h⟩:=Ag h;refine Aa 5 ?_;refine rz0 (.tree (.slice .int) a1) ?_;refine Ks (.own (oi 176 3) (.slice .int) 0 y4.length) [(oi 176 3,some (.mat 79 (oi 177 3) .int y4)),(oi 177 3,some (.pool 3 .int y4))] [] [.tree (.slice .int) a1] (caps:=[]) trivial (Aat h4) Aa4 trivial (.cons (.ren (by kernel_rfl)) .nil) (Ca (by kernel_rfl) (by kernel_rfl) trivial) ?_;refine rsB 1 ?_;refine Ao (tn_ ?_);refine wr_ ?_;refine Ab ?_;obtain ⟨g6,h⟩:=Av h;refine Aa 9 ?_;refine rz0 (.own (oi 176 3) (.slice .int) 0 y4.length) ?_;refine rz0 (ai ((y4.length:Nat):Int)) ?_;refine Akd (.own (oi 224 7) (.slice .int) 0 y4.length) (oi 224 7) 79 3 .int (List.replicate y4.length ([]:List Int)) trivial (Agi (j:=y4.length) (k:=.i64) (k':=.i64) (m:=((y4.length:Nat):Int)) (c:=((y4.length:Nat):Int)) 3 (by kernel_rfl) (by kernel_rfl) g6 (by kernel_rfl) rfl) (by kernel_rfl) (by rw [List.length_replicate]) (by kernel_rfl) ?_;refine rsB 1 ?_;refine Ao (tn_ ?_);refine wr_ ?_;refine Ab ?_;obtain ⟨y8,h8,h⟩:=Ag h;obtain ⟨g9,h⟩:=Av h;obtain ⟨g10,h⟩:=Av h;refine Aa 15 ?_;refine rz0 (ai a0) ?_;refine rz0 (.own (oi 176 3) (.slice .int) 0 y4.length) ?_;refine rz0 (ai a2) ?_;refine rz0 (.own (oi 224 7) (.slice .int) 0 y4.length) ?_;refine Ks (ai ((y8.2.2:Nat):Int)) [(oi 176 3,some (.mat 79 (oi 304 13) .int y8.1)),(oi 304 13,some (.pool 3 .int y8.1)),(oi 224 7,some (.mat 79 (oi 305 13) .int y8.2.1)),(oi 305 13,some (.pool 3 .int y8.2.1)),(oi 176 3,none),(oi 177 3,some (.pool 3 .int [])),(oi 224 7,none),(oi 224 7,some (.pool 3 .int []))] [(oi 0 0,oi 176 3),(oi 1 0,oi 177 3),(oi 2 0,oi 224 7),(oi 3 0,oi 224 7)] [ai a0,.own (oi 176 3) (.slice .int) 0 y4.length,ai a2,.own (oi 224 7) (.slice .int) 0 y4.length] (caps:=[]) trivial (Vq h8 rfl List.length_replicate.symm) Vf ⟨by kernel_rfl,⟨by kernel_rfl,⟨by kernel_rfl,⟨by kernel_rfl,trivial⟩⟩⟩⟩ (.cons (.ren (by kernel_rfl)) (.cons (.ren (by kernel_rfl)) (.cons (.ren (by kernel_rfl)) (.cons (.ren (by kernel_rfl)) .nil)))) (Ca (by kernel_rfl) (by kernel_rfl) ⟨Cc (by kernel_rfl),⟨Ip (o:=oi 176 3) (p:=oi 177 3) (e1:=79) (m:=y4.length) (u:=.int) (xss:=y4) (Cc (by kernel_rfl)) (by kernel_rfl),⟨Cc (by kernel_rfl),⟨Ip (o:=oi 224 7) (p:=oi 224 7) (e1:=79) (m:=(List.replicate y4.length ([]:List Int)).length) (u:=.int) (xss:=List.replicate y4.length ([]:List Int)) (Cc (by kernel_rfl)) (by kernel_rfl),trivial⟩⟩⟩⟩) ?_;refine rsB 1 ?_;refine Ao (tn_ ?_);refine wr_ ?_;refine Ab ?_;obtain ⟨g12,h⟩:=Av h;refine Aa 20 ?_;refine rz0 (.own (oi 176 3) (.slice .int) 0 y4.length) ?_;refine rz0 (ai ((y8.2.2:Nat):Int)) ?_;refine rz0 (ai ((y8.2.2:Nat):Int)) ?_;refine rs2 (.own (oi 23 18) (.slice .int) 0 y8.2.2) (oi 176 3) (oi 23 18) (.vec 79 1 y8.2.2 ((hdL (oi 304 13) .int y8.1).take y8.2.2)) (Ans (t:=.slice .int) (len:=y4.length) (kh:=.i64) (km:=.i64) (h:=((y8.2.2:Nat):Int)) (m:=((y8.2.2:Nat):Int)) (j:=y8.2.2) (i:=oi 176 3) (N:=y8.1.length) (e:=79) (cs:=hdL (oi 304 13) .int y8.1) (by kernel_rfl) (by kernel_rfl) (by kernel_rfl) (by kernel_rfl) rfl g12 rfl (by have z_:y4.length=y8.1.length:=g9.symm; omega)) ?_;refine rsB 1 ?_;refine Ao (tn_ ?_);refine ⟨_,Alt (e1:=79) (e:=3) (u:=.int) (xss:=y8.1) (k:=y8.2.2) 9000 (oi 23 18) (oi 304 13) (by kernel_rfl) (by kernel_rfl) (by kernel_rfl) (by have z_:y4.length=y8.1.length:=g9.symm; omega) (by kernel_rfl) (by kernel_rfl),?_⟩;refine Ah ?_;obtain rfl:=zj h;exact Mq [.own (oi 0 1) (.slice .int) 0 ((y8.1.take y8.2.2).length)] ((B1 6 (.own (oi 23 18) (.slice .int) 0 y8.2.2) (.own (oi 23 18) (.slice .int) 0 ((y8.1.take y8.2.2).length)) (by kernel_rfl) (congrArg (fun z_=>((.own (oi 23 18) (.slice .int) 0 z_):AV)) ((Al4 (by have z_:y4.length=y8.1.length:=g9.symm; omega)):y8.2.2=(y8.1.take y8.2.2).length))).trans (Ac (tl:=[(6,.own (oi 0 1) (.slice .int) 0 (y8.1.take y8.2.2).length)]) (g:=2) [(oi 0 1,oi 23 18),(oi 1 1,oi 9000 20)]))
def Ab6:AC :=
 (.seq (rg [⟨some 2,none,.makeA 111 (.pair .int (.pair .int (.pair .int (.pair .int (.pair .int (.pair .int (.pair .int (.pair .int (.pair .int (.pair .int (.pair .int (.pair .int (.pair .int (.pair .int (.pair .int (.pair .int (.pair .int (.pair .int (.pair .int (.pair .int (.pair .int (.pair .int (.pair .int (.pair .int (.pair .int (.pair .int (.pair .int (.pair .int (.pair .int (.pair .int (.pair .int (.pair .int (.pair .int (.pair .int (.pair .int (.pair .int (.pair .int (.pair .int (.pair .int (.pair .int (.pair .int (.pair .int (.pair .int T5)))))))))))))))))))))))))))))))))))))))))))⟩])
 (.seq (rg [xo 4 (.build [.int .i64 0,.int .i64 0,.int .i64 0,.int .i64 0,.int .i64 0,.int .i64 0,.int .i64 0,.int .i64 0,.int .i64 0,.int .i64 0,.int .i64 0,.int .i64 0,.int .i64 0,.int .i64 0,.int .i64 0,.int .i64 0,.int .i64 0,.int .i64 0,.int .i64 0,.int .i64 0,.int .i64 0,.int .i64 0,.int .i64 0,.int .i64 0,.int .i64 0,.int .i64 0,.int .i64 0,.int .i64 0,.int .i64 0,.int .i64 0,.int .i64 0,.int .i64 0,.int .i64 0,.int .i64 0,.int .i64 0,.int .i64 0,.int .i64 0,.int .i64 0,.int .i64 0,.int .i64 0,.int .i64 0,.int .i64 0,.int .i64 0,.int .i64 0,.int .i64 0,.int .i64 0,.int .i64 0,.int .i64 0] []),⟨some 3,none,.makeA 111 (.pair .int (.pair .int (.pair .int (.pair .int (.pair .int (.pair .int (.pair .int (.pair .int (.pair .int (.pair .int (.pair .int (.pair .int (.pair .int (.pair .int (.pair .int (.pair .int (.pair .int (.pair .int (.pair .int (.pair .int (.pair .int (.pair .int (.pair .int (.pair .int (.pair .int (.pair .int (.pair .int (.pair .int (.pair .int (.pair .int (.pair .int (.pair .int (.pair .int (.pair .int (.pair .int (.pair .int (.pair .int (.pair .int (.pair .int (.pair .int (.pair .int (.pair .int (.pair .int T5)))))))))))))))))))))))))))))))))))))))))))⟩,xn (.st false 48 (tm 3) (tm 4))])
 (.seq (rg [xo 5 (.slA 48 (tm 3)),xo 6 (qm (tm 0)),xo 7 (.copy (tm 5) (tm 6))])
 (.seq (rg [xo 8 (.i (.ld false 48 (tm 3))),xn (.st false 48 (tm 2) (tm 8))])
 .ret))))
def Ak0:List Res:=[.cell 2 false 48]
theorem Akb:Am Tryd.prog Tryd.f76=some (Ab6,Ak0):=by kernel_rfl
theorem Xo:A8 Tryd.prog 76=true:=by kernel_rfl
def Kb (a0:List Int):Option (List Int) :=
 some (a0.take 48++(List.replicate 48 0).drop (a0.take 48).length)
def Aih (r:List Int):RV:=⟨false,[(true,((tyA 47).av (Fe 47 r)).map .sc)]⟩
theorem Xj {a0:List Int} {r:List Int} (h:Kb a0=some r):Aw Tryd.prog Tab 76 [.tree .int a0] (Aih r):=by
 refine At (by kernel_rfl) Tryd.func76 Akb (n:=9) (by kernel_rfl) (by simp) (tl:=[(0,.tree .int a0)]) rfl ?_;unfold Ab6;unfold Kb at h;refine Ak ?_;refine Ak ?_;refine Ab ?_;refine Aa 8 ?_;refine rsl (.sla (oi 3 3) 0 48) (Au0 (N:=47) (i:=oi 3 3) (j:=0) (e:=111) (xs:=[Fe 47 (List.replicate 48 0)]) (by kernel_rfl) (by kernel_rfl) (by kernel_rfl)) ?_;refine rz0 (.tree .int a0) ?_;refine rs2 (ai (((a0.take 48).length:Nat):Int)) (oi 3 3) (oi 3 3) (.arr 111 (tyA 47) [Fe 47 (a0.take 48++(List.replicate 48 0).drop (a0.take 48).length)]) (Arx (N:=47) (i:=oi 3 3) (e:=111) (l:=List.replicate 48 0) (ys:=a0) (zs:=a0.take 48++(List.replicate 48 0).drop (a0.take 48).length) (by kernel_rfl) Ahs (by kernel_rfl) (by kernel_rfl) (by simp) rfl) ?_;refine Ao (tn_ ?_);refine wr_ ?_;refine Ab ?_;refine Aa 10 ?_;refine rsl (.agg ((tyA 47).av (Fe 47 (a0.take 48++(List.replicate 48 0).drop (a0.take 48).length)))) (Au3 (N:=47) (ty:=111) (i:=oi 3 3) (e:=0) (l:=a0.take 48++(List.replicate 48 0).drop (a0.take 48).length) (xs:=[Fe 47 (a0.take 48++(List.replicate 48 0).drop (a0.take 48).length)]) (by kernel_rfl) (by kernel_rfl) rfl rfl) ?_;refine Ahf (oi 2 1) (oi 2 1) (.arr 111 (tyA 47) [Fe 47 (a0.take 48++(List.replicate 48 0).drop (a0.take 48).length)]) (Auz (N:=47) (ty:=111) (i:=oi 2 1) (e:=0) (l:=List.replicate 48 0) (l2:=a0.take 48++(List.replicate 48 0).drop (a0.take 48).length) (xs:=[Fe 47 (List.replicate 48 0)]) (by kernel_rfl) (by kernel_rfl) rfl rfl (by kernel_rfl) rfl) ?_;refine Ao (tn_ ?_);refine wr_ ?_;refine Ah ?_;obtain rfl:=zj h;exact A3 [.agg ((tyA 47).av (Fe 47 (a0.take 48++(List.replicate 48 0).drop (a0.take 48).length)))] (Gh (As2 47 (a0.take 48++(List.replicate 48 0).drop (a0.take 48).length)) Ar)
def Jj:AC :=
 (.seq (rg [xo 26 (qb .lss (tm 25) (tm 24))])
 (.seq (.cond (tm 26)
  .skip
  (.exit 0))
 (.seq (.block 1 (.seq (rg [xo 27 (qm (tm 25)),xo 28 (qx 1 (tm 23) (tm 25)),xo 29 (ql (tm 28)),xo 7 (qm (tm 27)),xo 8 (qm (tm 29))])
 (.seq (.region [xo 30 (qm (tm 8)),xo 31 (qc 76 [tm 30] [[some .int]]),xo 32 (qm (tm 1)),xo 33 (qm (tm 7)),xo 34 (qx 1 (tm 32) (tm 33)),xo 35 (ql (tm 34)),xo 36 (qc 76 [tm 35] [[some .int]]),xo 37 (.i (.cmp true 51 (tm 31) (tm 36)))] true [(1,5)])
 (.cond (tm 37)
  (.seq (rg [xo 6 (qm (cb false))])
  .ret)
  .skip))))
 (rg [xo 38 (qb .add (tm 25) (ci 1)),xo 25 (qm (tm 38))]))))
def Mb:AC :=
 (.seq (rg [xo 6 (qm (cb false))])
 (.seq (.seq (rg [xo 9 (qm (tm 1)),xo 10 (.i (.len (tm 9))),xo 11 (qm (tm 2)),xo 12 (qb .gtr (tm 10) (tm 11)),xo 13 (qm (tm 12)),⟨some 14,some (13,false),qm (tm 0)⟩,⟨some 15,some (13,false),qm (tm 1)⟩,⟨some 16,some (13,false),qm (tm 2)⟩,⟨some 17,some (13,false),qc 74 [tm 14,tm 15,tm 16] [[],[some (.slice .int)],[]]⟩,⟨some 18,some (13,false),.i (.not (tm 17))⟩,xo 19 (.i (.pick (tm 13) (cb true) (tm 18)))])
 (.cond (tm 19)
  (.seq (rg [xo 6 (qm (cb false))])
  .ret)
  .skip))
 (.seq (.seq (rg [xo 20 (qm (tm 0)),xo 21 (qm (tm 1)),xo 22 (qm (tm 2)),xo 23 (qc 75 [tm 20,tm 21,tm 22] [[],[some (.slice .int)],[]]),xo 24 (.i (.len (tm 23))),xo 25 (qm (ci 0))])
 (.block 0 (.loop Jj)))
 (.seq (rg [xo 39 (qm (tm 0)),xo 40 (qm (tm 1)),xo 41 (qm (tm 2)),xo 42 (qc 75 [tm 39,tm 40,tm 41] [[],[some (.slice .int)],[]]),xo 43 (.i (.len (tm 42))),xo 44 (qm (tm 1)),xo 45 (.i (.len (tm 44))),xo 46 (qb .eql (tm 43) (tm 45)),xo 6 (qm (tm 46))])
 .ret))))
def W5:List Res:=[.tmp 6]
theorem Vw:Am Tryd.prog Tryd.f62=some (Mb,W5):=by kernel_rfl
theorem U8:A8 Tryd.prog 62=true:=by kernel_rfl
def C9 (y10:List (List Int)) (a1:List (List Int)) (l11_m25:Nat):Option (Ctl Nat (Ctl Unit Bool)) :=
 cond (decide (((l11_m25:Nat):Int)<((y10.length:Nat):Int)))
 (Option.bind (y10[l11_m25]?) fun x17 =>
 Option.bind (Kb x17) fun y19 =>
 Option.bind (a1[l11_m25]?) fun x20 =>
 Option.bind (Kb x20) fun y21 =>
 og (y19.length=47+1∧y21.length=47+1) <|
 cond (!(y19==y21))
  (some (Ctl.out (Ctl.out false)))
  (og (l11_m25+1<4611686018427387904) <|
  some (Ctl.next (l11_m25+1))))
 (some (Ctl.out (Ctl.next ())))
def E6 (a0:Int) (a1:List (List Int)) (a2:Int):Option Bool :=
 Option.bind (cond (decide (a2<((a1.length:Nat):Int)))
  (some true)
  (Option.bind (Ed a0 a1 a2) fun y5 =>
  some (!y5))) fun l3_m19 =>
cond l3_m19
 (some false)
 (Du (Option.bind (Et a0 a1 a2) fun y10 =>
  A7 (fun s_:Nat=>C9 y10 a1 s_) 4611686018427387904 0) fun _ =>
 Option.bind (Et a0 a1 a2) fun y27 =>
 some (((y27.length:Nat):Int)==((a1.length:Nat):Int)))
def Vj (r:Bool):RV:=⟨false,[(false,[.sc (.bool r)])]⟩
theorem Uk {a0:Int} {a1:List (List Int)} {a2:Int} {r:Bool} (h:E6 a0 a1 a2=some r):Aw Tryd.prog Tab 62 [ai a0,.tree (.slice .int) a1,ai a2] (Vj r):=by
 refine At (by kernel_rfl) Tryd.func62 Vw (n:=47) (by kernel_rfl) (by simp) (tl:=[(0,ai a0),(1,.tree (.slice .int) a1),(2,ai a2)]) rfl ?_;unfold Mb;unfold E6 at h;refine Ak ?_;refine Ab ?_;refine Ax h (fun (l3_m19:Bool) S_=>S_=⟨An [(0,ai a0),(1,.tree (.slice .int) a1),(2,ai a2),(19,.bool l3_m19)],Aj (Ap []),2⟩) ?_ ?_
 ·intro v_ h;rcases Ad h with ⟨q4,h⟩ | ⟨q4,h⟩
  ·have q4_:=of_decide_eq_true q4;refine Aa 13 ?_;refine rz0 (.tree (.slice .int) a1) ?_;refine rz0 (ai ((a1.length:Nat):Int)) ?_;refine rz0 (ai a2) ?_;refine rz0 (.bool (decide (a2<((a1.length:Nat):Int)))) ?_;refine rz0 (.bool (decide (a2<((a1.length:Nat):Int)))) ?_;refine zs q4 ?_;refine zs q4 ?_;refine zs q4 ?_;refine zs q4 ?_;refine zs q4 ?_;refine rs0 (.bool true) (zT q4) ?_;refine Ao (tn_ ?_);obtain rfl:=zj h;exact ⟨_,Ac [],rfl⟩
  have q4_:=of_decide_eq_false q4;obtain ⟨y5,h5,h⟩:=Ag h;refine Aa 13 ?_;refine rz0 (.tree (.slice .int) a1) ?_;refine rz0 (ai ((a1.length:Nat):Int)) ?_;refine rz0 (ai a2) ?_;refine rz0 (.bool (decide (a2<((a1.length:Nat):Int)))) ?_;refine rz0 (.bool (decide (a2<((a1.length:Nat):Int)))) ?_;refine rs0 (ai a0) (zg q4) ?_;refine rs0 (.tree (.slice .int) a1) (zg q4) ?_;refine rs0 (ai a2) (zg q4) ?_;refine B3 (.bool y5) [] [ai a0,.tree (.slice .int) a1,ai a2] _ (caps:=[]) (args0:=[ai a0,.tree (.slice .int) a1,ai a2]) (Bi (by kernel_rfl) q4) (by kernel_rfl) (S6 h5) Sc ?_;refine rs0 (.bool (!y5)) (zg q4) ?_;refine rs0 (.bool (!y5)) (zF q4) ?_;refine Ao (tn_ ?_);obtain rfl:=zj h;exact ⟨_,Ac [],rfl⟩
 rintro l3_m19 _ rfl h
 (try dsimp only at h);rcases Ad h with ⟨q6,h⟩ | ⟨q6,h⟩
 ·refine Af q6 ?_;refine Ak ?_;refine Ah (tr_ ?_);obtain rfl:=zj h;exact A3 [.bool false] (Aq rfl zl Ar)
 refine Ae q6 ?_;refine Ai (tn_ ?_);refine wr_ ?_;refine Bj h (fun (_:Unit) S_=>S_=⟨An [(0,ai a0),(1,.tree (.slice .int) a1),(2,ai a2)],Aj (Ap []),2⟩) ?_ ?_
 ·intro v_ h hk8;refine Ab ?_;obtain ⟨y10,h10,h⟩:=Ag h;refine Aa 8 ?_;refine rz0 (ai a0) ?_;refine rz0 (.tree (.slice .int) a1) ?_;refine rz0 (ai a2) ?_;refine Ks (.own (oi 368 5) (.slice .int) 0 y10.length) [(oi 368 5,some (.mat 79 (oi 369 5) .int y10)),(oi 369 5,some (.pool 3 .int y10))] [] [ai a0,.tree (.slice .int) a1,ai a2] (caps:=[]) trivial (N1 h10) N0 trivial (.cons (.ren (by kernel_rfl)) (.cons (.ren (by kernel_rfl)) (.cons (.ren (by kernel_rfl)) .nil))) (Ca (by kernel_rfl) (by kernel_rfl) trivial) ?_;refine rsB 2 ?_;refine Ao (tn_ ?_);refine wr_ ?_;refine Al ?_;refine A6 h (fun (l11_m25:Nat) S_=>S_=⟨An [(0,ai a0),(1,.tree (.slice .int) a1),(2,ai a2),(23,.own (oi 0 1) (.slice .int) 0 y10.length),(24,ai ((y10.length:Nat):Int)),(25,ai ((l11_m25:Nat):Int))],Aj (Ap [(oi 0 1,.mat 79 (oi 1 1) .int y10),(oi 1 1,.pool 3 .int y10)]),2⟩) ⟨_,Ac [(oi 0 1,oi 368 5),(oi 1 1,oi 369 5)],rfl⟩ ?_;rintro n_ l11_m25 _ c_ rfl h hn11
  (try dsimp only at h);unfold C9 at h;unfold Jj;refine Ak ?_;refine Ab ?_;rcases Ad h with ⟨q14,h⟩ | ⟨q14,h⟩
  ·have q14_:=of_decide_eq_true q14;refine Af q14 ?_;refine Ai (tn_ ?_);refine wr_ ?_;refine Ab ?_;refine Al ?_;refine Ab ?_;obtain ⟨x17,e17,h⟩:=Ag h;refine Aa 8 ?_;refine rz0 (ai ((l11_m25:Nat):Int)) ?_;refine rs0 (.elt (oi 0 1) l11_m25 0) (zo (t:=.slice .int) (o:=oi 0 1) (len:=y10.length) (k:=.i64) (m:=((l11_m25:Nat):Int)) (Ay _) (Au e17)) ?_;refine rsl (.own (kid (oi 1 1) l11_m25) .int 0 x17.length) (F0 (o:=oi 0 1) (p:=oi 1 1) (e1:=79) (u:=.int) (xss:=y10) (row:=x17) (j:=l11_m25) (by kernel_rfl) (by kernel_rfl) e17) ?_;refine rsB 2 ?_;refine Ao (tn_ ?_);refine wr_ ?_;refine Ab ?_;obtain ⟨y19,h19,h⟩:=Ag h;obtain ⟨x20,e20,h⟩:=Ag h;obtain ⟨y21,h21,h⟩:=Ag h;obtain ⟨g22,h⟩:=Av h;refine A4 16 ?_;refine dz0 (.own (kid (oi 1 1) l11_m25) .int 0 x17.length) ?_;refine D3 (.agg ((tyA 47).av (Fe 47 y19))) [] [.own (kid (oi 1 1) l11_m25) .int 0 x17.length] _ (caps:=[]) (args0:=[.tree .int x17]) trivial (U1 (Agx (e:=3) (u:=.int) (xs:=x17) ((Agq (Aku (t:=.int) (off:=0) (len:=x17.length) 0 rfl (by kernel_rfl))).trans (Bp (by kernel_rfl) e17)) rfl) Akx) (Xj h19) Xo ?_;refine dz0 (.tree (.slice .int) a1) ?_;refine dz0 (ai ((l11_m25:Nat):Int)) ?_;refine ds0 (.telt none (.slice .int) x20 0) (zi (t:=.slice .int) (xs:=a1) (k:=.i64) (m:=((l11_m25:Nat):Int)) (Ay _) e20) ?_;refine dz0 (.tree .int x20) ?_;refine D3 (.agg ((tyA 47).av (Fe 47 y21))) [] [.tree .int x20] _ (caps:=[]) (args0:=[.tree .int x20]) trivial (by kernel_rfl) (Xj h21) Xo ?_;refine ds0 (.bool (!(y19==y21))) (Atz (N:=47) (l:=y19) (l':=y21) (by kernel_rfl) (by kernel_rfl) g22) ?_;refine Gw (Bf (by kernel_rfl)) (tn_ ?_);refine wr_ ?_;rcases Ad h with ⟨q23,h⟩ | ⟨q23,h⟩
   ·refine Af q23 ?_;refine Ak ?_;refine Ah (br_ (tr_ (tr_ (br_ (tr_ ?_)))));obtain rfl:=zj h;have h:=hn11
    (try dsimp only at h);obtain rfl:=zj h;have h:=hk8
    (try dsimp only at h);obtain rfl:=zj h;exact A3 [.bool false] (Aq rfl zl Ar)
   refine Ae q23 ?_;refine Ai (bn_ (tn_ ?_));refine wr_ ?_;obtain ⟨g25,h⟩:=Av h;refine Aa 18 ?_;refine rs0 (ai ((l11_m25+1:Nat):Int)) (za g25) ?_;refine rsB 1 ?_;refine Ao (tn_ ?_);obtain rfl:=zj h;exact ⟨l11_m25+1,_,Ac [],rfl,hn11⟩
  have q14_:=of_decide_eq_false q14;refine Ae q14 ?_;refine Az (te_ (te_ (be_ (tn_ ?_))));obtain rfl:=zj h;have h:=hn11
  (try dsimp only at h);obtain rfl:=zj h;exact ⟨(),_,rfl,Ac [],rfl⟩
 rintro _ _ rfl h
 (try dsimp only at h);refine Ab ?_;obtain ⟨y27,h27,h⟩:=Ag h;refine Aa 11 ?_;refine rz0 (ai a0) ?_;refine rz0 (.tree (.slice .int) a1) ?_;refine rz0 (ai a2) ?_;refine Ks (.own (oi 672 5) (.slice .int) 0 y27.length) [(oi 672 5,some (.mat 79 (oi 673 5) .int y27)),(oi 673 5,some (.pool 3 .int y27))] [] [ai a0,.tree (.slice .int) a1,ai a2] (caps:=[]) trivial (N1 h27) N0 trivial (.cons (.ren (by kernel_rfl)) (.cons (.ren (by kernel_rfl)) (.cons (.ren (by kernel_rfl)) .nil))) (Ca (by kernel_rfl) (by kernel_rfl) trivial) ?_;refine rsB 5 ?_;refine Ao (tn_ ?_);refine wr_ ?_;refine Ah ?_;obtain rfl:=zj h;exact A3 [.bool (((y27.length:Nat):Int)==((a1.length:Nat):Int))] (Aq rfl zl Ar)
def Lz:AC :=
 (.seq (rg [xo 3 (.i (.box 35 (tm 1))),xo 4 (qm (cb false))])
 (.seq (rg [xo 5 (qm (tm 0)),xo 6 (qc 43 [tm 5] [[]]),xo 7 (qm (tm 6)),⟨some 8,some (7,true),qf 0 (tm 3)⟩,⟨some 9,some (7,true),ql (tm 8)⟩,⟨some 10,some (7,true),qf 1 (tm 3)⟩,⟨some 11,some (7,true),ql (tm 10)⟩,⟨some 12,some (7,true),qc 61 [tm 9,tm 11] [[],[]]⟩,xo 13 (.i (.pick (tm 7) (tm 12) (cb false))),xo 14 (qm (tm 13)),⟨some 15,some (14,true),qm (tm 0)⟩,⟨some 16,some (14,true),qf 2 (tm 3)⟩,⟨some 17,some (14,true),ql (tm 16)⟩,⟨some 18,some (14,true),qf 0 (tm 3)⟩,⟨some 19,some (14,true),ql (tm 18)⟩,⟨some 20,some (14,true),qf 1 (tm 3)⟩,⟨some 21,some (14,true),ql (tm 20)⟩,⟨some 22,some (14,true),qb .add (tm 19) (tm 21)⟩,⟨some 23,some (14,true),qc 62 [tm 15,tm 17,tm 22] [[],[some (.slice .int)],[]]⟩,xo 24 (.i (.pick (tm 14) (tm 23) (cb false))),xo 4 (qm (tm 24))])
 .ret))
def Un:List Res:=[.tmp 4]
theorem T2:Am Tryd.prog Tryd.f36=some (Lz,Un):=by kernel_rfl
theorem Tm:A8 Tryd.prog 36=true:=by kernel_rfl
def D8 (a0:Int) (a1_0:Int) (a1_1:Int) (a1_2:List (List Int)):Option Bool :=
 Option.bind (Option.bind (Dr a0) fun y3 =>
 cond y3
  (Option.bind (I3 a1_0 a1_1) fun y5 =>
  cond y5
   (Option.bind (E6 a0 a1_2 (wI (a1_0+a1_1))) fun y7 =>
   some y7)
   (some false))
  (some false)) fun l2_m4 =>
some l2_m4
def Si (r:Bool):RV:=⟨false,[(false,[.sc (.bool r)])]⟩
theorem Th {a0:Int} {a1_0:Int} {a1_1:Int} {a1_2:List (List Int)} {r:Bool} (h:D8 a0 a1_0 a1_1 a1_2=some r):Aw Tryd.prog Tab 36 [ai a0,.agg [ai a1_0,ai a1_1,.tree (.slice .int) a1_2]] (Si r):=by
 refine At (by kernel_rfl) Tryd.func36 T2 (n:=25) (by kernel_rfl) (by simp) (tl:=[(0,ai a0),(1,.agg [ai a1_0,ai a1_1,.tree (.slice .int) a1_2])]) rfl ?_;unfold Lz;unfold D8 at h;refine Ak ?_;refine Ax h (fun (l2_m4:Bool) S_=>S_=⟨An [(4,.bool l2_m4)],Aj (Ap []),2⟩) ?_ ?_
 ·intro v_ h;obtain ⟨y3,h3,h⟩:=Ag h;rcases Ad h with ⟨q4,h⟩ | ⟨q4,h⟩
  ·obtain ⟨y5,h5,h⟩:=Ag h;rcases Ad h with ⟨q6,h⟩ | ⟨q6,h⟩
   ·obtain ⟨y7,h7,h⟩:=Ag h;refine Aa 24 ?_;refine rz0 (ai a0) ?_;refine zc (.bool y3) [] [ai a0] (C2 h3) ?_;refine rz0 (.bool y3) ?_;refine rs0 (.box (oi 3 1) 0) (zg q4) ?_;refine rsl (ai a1_0) (zg q4) ?_;refine rs0 (.box (oi 3 1) 1) (zg q4) ?_;refine rsl (ai a1_1) (zg q4) ?_;refine B3 (.bool y5) [] [ai a1_0,ai a1_1] _ (caps:=[]) (args0:=[ai a1_0,ai a1_1]) (Bi (by kernel_rfl) q4) (by kernel_rfl) (Vl h5) T8 ?_;refine rs0 (.bool y5) (zT q4) ?_;refine rz0 (.bool y5) ?_;refine rs0 (ai a0) (zg q6) ?_;refine rs0 (.box (oi 3 1) 2) (zg q6) ?_;refine rsl (.tree (.slice .int) a1_2) (zg q6) ?_;refine rs0 (.box (oi 3 1) 0) (zg q6) ?_;refine rsl (ai a1_0) (zg q6) ?_;refine rs0 (.box (oi 3 1) 1) (zg q6) ?_;refine rsl (ai a1_1) (zg q6) ?_;refine rs0 (ai (wI (a1_0+a1_1))) (zg q6) ?_;refine B3 (.bool y7) [] [ai a0,.tree (.slice .int) a1_2,ai (wI (a1_0+a1_1))] _ (caps:=[]) (args0:=[ai a0,.tree (.slice .int) a1_2,ai (wI (a1_0+a1_1))]) (Bi (by kernel_rfl) q6) (by kernel_rfl) (Uk h7) U8 ?_;refine rs0 (.bool y7) (zT q6) ?_;refine rsB 1 ?_;refine Ao (tn_ ?_);obtain rfl:=zj h;exact ⟨_,Ac [],rfl⟩
   refine Aa 24 ?_;refine rz0 (ai a0) ?_;refine zc (.bool y3) [] [ai a0] (C2 h3) ?_;refine rz0 (.bool y3) ?_;refine rs0 (.box (oi 3 1) 0) (zg q4) ?_;refine rsl (ai a1_0) (zg q4) ?_;refine rs0 (.box (oi 3 1) 1) (zg q4) ?_;refine rsl (ai a1_1) (zg q4) ?_;refine B3 (.bool y5) [] [ai a1_0,ai a1_1] _ (caps:=[]) (args0:=[ai a1_0,ai a1_1]) (Bi (by kernel_rfl) q4) (by kernel_rfl) (Vl h5) T8 ?_;refine rs0 (.bool y5) (zT q4) ?_;refine rz0 (.bool y5) ?_;refine zs q6 ?_;refine zs q6 ?_;refine zs q6 ?_;refine zs q6 ?_;refine zs q6 ?_;refine zs q6 ?_;refine zs q6 ?_;refine zs q6 ?_;refine zs q6 ?_;refine rs0 (.bool false) (zF q6) ?_;refine rsB 1 ?_;refine Ao (tn_ ?_);obtain rfl:=zj h;exact ⟨_,Ac [],rfl⟩
  refine Aa 24 ?_;refine rz0 (ai a0) ?_;refine zc (.bool y3) [] [ai a0] (C2 h3) ?_;refine rz0 (.bool y3) ?_;refine zs q4 ?_;refine zs q4 ?_;refine zs q4 ?_;refine zs q4 ?_;refine zs q4 ?_;refine rs0 (.bool false) (zF q4) ?_;refine rsB 12 ?_;refine Ao (tn_ ?_);obtain rfl:=zj h;exact ⟨_,Ac [],rfl⟩
 rintro l2_m4 _ rfl h
 (try dsimp only at h);refine Ah ?_;obtain rfl:=zj h;exact A3 [.bool l2_m4] (Aq rfl zl Ar)
end
end Go.Proofs.YtodopnonpadpfaaDoor
