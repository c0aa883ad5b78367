/- Lemmas on the program and on partial functions that stand in place of its code (part 6); no condition beyond those that each one states. -/
import Derived.Test.YtkaollfdhoaihaaDoorZ5
namespace Go.Proofs.YtkaollfdhoaihaaDoor
open Go.RowKit Go.Deep
set_option maxRecDepth 4000
def m_spec_fdInv_l1:AC :=
 (.seq (.seq (rg [xo 6 (qm (tm 5)),xo 7 (qm (tm 0)),xo 8 (qb .lss (tm 6) (tm 7))])
 (.cond (tm 8)
  .skip
  (.exit 0)))
 (.seq (.block 1 (.seq (rg [xo 11 (qm (tm 1)),xo 12 (qm (tm 5)),xo 13 (qb .mul (tm 11) (tm 12)),xo 14 (qm (tm 0)),xo 15 (qb .rem (tm 13) (tm 14)),xo 16 (qb .eql (tm 15) (ci 1))])
 (.cond (tm 16)
  (.seq (rg [xo 17 (qm (tm 5)),xo 4 (qm (tm 17))])
  .ret)
  .skip)))
 (rg [xo 9 (qm (tm 5)),xo 10 (qb .add (tm 9) (ci 1)),xo 5 (qm (tm 10))])))
def m_spec_fdInv:AC :=
 (.seq (rg [xo 4 (qm (ci 0))])
 (.seq (.seq (rg [xo 5 (qm (ci 1))])
 (.block 0 (.loop m_spec_fdInv_l1)))
 (.seq (rg [xo 4 (qm (ci 0))])
 .ret)))
def r_spec_fdInv:List Res:=[.tmp 4]
theorem c_spec_fdInv:compiled Tryd.prog Tryd.f78=some (m_spec_fdInv,r_spec_fdInv):=by kernel_rfl
def L_spec_fdInv_l1 (a0:Int) (a1:Int) (l4_m5:Nat):Option (Ctl Nat (Ctl Unit Int)) :=
 cond (decide (((l4_m5:Nat):Int)<a0))
 (og (a0≠0) <|
 cond ((Int.tmod (IntKind.i64.wrap (a1*((l4_m5:Nat):Int))) a0)==1)
  (some (Ctl.out (Ctl.out ((l4_m5:Nat):Int))))
  (og (l4_m5+1<4611686018427387904) <|
  some (Ctl.next (l4_m5+1))))
 (some (Ctl.out (Ctl.next ())))
def L_spec_fdInv (a0:Int) (a1:Int):Option Int :=
 seqC (loopM (fun s_:Nat=>L_spec_fdInv_l1 a0 a1 s_) 4611686018427387904 1) fun _ =>
some 0
def rv_spec_fdInv (r:Int):RV:=⟨false,[(false,[.sc (.int .i64 r)])]⟩
theorem ok_spec_fdInv {a0:Int} {a1:Int} {r:Int} (h:L_spec_fdInv a0 a1=some r):CallOK Tryd.prog Tab 78 [(ai a0),(ai a1)] (rv_spec_fdInv r):=by
 refine call_of_ (by kernel_rfl) Tryd.func78 c_spec_fdInv (n:=18) (by kernel_rfl) (by simp) (tl:=[(0,(ai a0)),(1,(ai a1))]) rfl ?_
 unfold m_spec_fdInv
 unfold L_spec_fdInv at h
 refine seqR ?_
 refine awp_seqC h (fun (_:Unit) S_=>S_=⟨mkTm [],mkOb (someL []),2⟩) ?_ ?_
 ·intro v_ h hk2
  refine seqR ?_
  refine awp_block_ ?_
  refine awp_loopL h (fun (l4_m5:Nat) S_=>S_=⟨mkTm [(0,(ai a0)),(1,(ai a1)),(5,(ai ((l4_m5:Nat):Int)))],mkOb (someL []),2⟩) ⟨_,(weak_ren []),rfl⟩ ?_
  rintro n_ l4_m5 _ c_ rfl h hn4
  (try dsimp only at h)
  unfold L_spec_fdInv_l1 at h
  unfold m_spec_fdInv_l1
  refine awp_seqv_ ?_
  refine seqR ?_
  rcases cond_some h with ⟨q7,h⟩ | ⟨q7,h⟩
  ·have q7_:=of_decide_eq_true q7
   refine awp_condT_ q7 ?_
   refine awp_skip_ (tn_ ?_)
   refine wr_ ?_
   refine awp_seqv_ ?_
   refine awp_block_ ?_
   refine awp_seqv_ ?_
   obtain ⟨g10,h⟩:=og_some h
   refine awp_region_ 11 ?_
   refine rz0 (ai a1) ?_
   refine rz0 (ai ((l4_m5:Nat):Int)) ?_
   refine rz0 (ai (IntKind.i64.wrap (a1*((l4_m5:Nat):Int)))) ?_
   refine rz0 (ai a0) ?_
   refine rs0 (ai (Int.tmod (IntKind.i64.wrap (a1*((l4_m5:Nat):Int))) a0)) (s_rem (k:=.i64) (a:=IntKind.i64.wrap (a1*((l4_m5:Nat):Int))) (b:=a0) (by kernel_rfl) (by kernel_rfl) g10) ?_
   refine rsB 1 ?_
   refine rnil (tn_ ?_)
   refine wr_ ?_
   rcases cond_some h with ⟨q11,h⟩ | ⟨q11,h⟩
   ·refine awp_condT_ q11 ?_
    refine seqR ?_
    refine awp_ret_ (br_ (tr_ (tr_ (br_ (tr_ ?_)))))
    obtain rfl:=zj h
    have h:=hn4
    (try dsimp only at h)
    obtain rfl:=zj h
    have h:=hk2
    (try dsimp only at h)
    obtain rfl:=zj h
    exact ret_ [(ai ((l4_m5:Nat):Int))] (p_one rfl zl p_nil)
   refine awp_condF_ q11 ?_
   refine awp_skip_ (bn_ (tn_ ?_))
   refine wr_ ?_
   obtain ⟨g13,h⟩:=og_some h
   refine awp_region_ 14 ?_
   refine rz0 (ai ((l4_m5:Nat):Int)) ?_
   refine rs0 (ai ((l4_m5+1:Nat):Int)) (za g13) ?_
   refine rsB 1 ?_
   refine rnil (tn_ ?_)
   obtain rfl:=zj h
   exact ⟨l4_m5+1,_,(weak_ren []),rfl,hn4⟩
  have q7_:=of_decide_eq_false q7
  refine awp_condF_ q7 ?_
  refine awp_exit_ (te_ (te_ (be_ (tn_ ?_))))
  obtain rfl:=zj h
  have h:=hn4
  (try dsimp only at h)
  obtain rfl:=zj h
  exact ⟨(),_,rfl,(weak_ren []),rfl⟩
 rintro _ _ rfl h
 (try dsimp only at h)
 refine seqR ?_
 refine awp_ret_ ?_
 obtain rfl:=zj h
 exact ret_ [(ai 0)] (p_one rfl zl p_nil)
def m_spec_fdNeg:AC :=
 (.seq (rg [xo 4 (qm (ci 0))])
 (.seq (rg [xo 5 (qm (tm 0)),xo 6 (qm (tm 1)),xo 7 (qb .sub (tm 5) (tm 6)),xo 8 (qm (tm 0)),xo 9 (qb .rem (tm 7) (tm 8)),xo 4 (qm (tm 9))])
 .ret))
def r_spec_fdNeg:List Res:=[.tmp 4]
theorem c_spec_fdNeg:compiled Tryd.prog Tryd.f76=some (m_spec_fdNeg,r_spec_fdNeg):=by kernel_rfl
theorem hb_spec_fdNeg:hasBody Tryd.prog 76=true:=by kernel_rfl
def L_spec_fdNeg (a0:Int) (a1:Int):Option Int :=
 og (a0≠0) <|
some (Int.tmod (IntKind.i64.wrap (a0 - a1)) a0)
def rv_spec_fdNeg (r:Int):RV:=⟨false,[(false,[.sc (.int .i64 r)])]⟩
theorem ok_spec_fdNeg {a0:Int} {a1:Int} {r:Int} (h:L_spec_fdNeg a0 a1=some r):CallOK Tryd.prog Tab 76 [(ai a0),(ai a1)] (rv_spec_fdNeg r):=by
 refine call_of_ (by kernel_rfl) Tryd.func76 c_spec_fdNeg (n:=10) (by kernel_rfl) (by simp) (tl:=[(0,(ai a0)),(1,(ai a1))]) rfl ?_
 unfold m_spec_fdNeg
 unfold L_spec_fdNeg at h
 refine seqR ?_
 refine awp_seqv_ ?_
 obtain ⟨g3,h⟩:=og_some h
 refine awp_region_ 8 ?_
 refine rz0 (ai a0) ?_
 refine rz0 (ai a1) ?_
 refine rz0 (ai (IntKind.i64.wrap (a0 - a1))) ?_
 refine rz0 (ai a0) ?_
 refine rs0 (ai (Int.tmod (IntKind.i64.wrap (a0 - a1)) a0)) (s_rem (k:=.i64) (a:=IntKind.i64.wrap (a0 - a1)) (b:=a0) (by kernel_rfl) (by kernel_rfl) g3) ?_
 refine rsB 1 ?_
 refine rnil (tn_ ?_)
 refine wr_ ?_
 refine awp_ret_ ?_
 obtain rfl:=zj h
 exact ret_ [(ai (Int.tmod (IntKind.i64.wrap (a0 - a1)) a0))] (p_one rfl zl p_nil)
def m_spec_fdSub:AC :=
 (.seq (rg [xo 6 (qm (ci 0))])
 (.seq (rg [xo 7 (qm (tm 1)),xo 8 (qm (tm 0)),xo 9 (qb .add (tm 7) (tm 8)),xo 10 (qm (tm 2)),xo 11 (qb .sub (tm 9) (tm 10)),xo 12 (qm (tm 0)),xo 13 (qb .rem (tm 11) (tm 12)),xo 6 (qm (tm 13))])
 .ret))
def r_spec_fdSub:List Res:=[.tmp 6]
theorem c_spec_fdSub:compiled Tryd.prog Tryd.f80=some (m_spec_fdSub,r_spec_fdSub):=by kernel_rfl
theorem hb_spec_fdSub:hasBody Tryd.prog 80=true:=by kernel_rfl
def L_spec_fdSub (a0:Int) (a1:Int) (a2:Int):Option Int :=
 og (a0≠0) <|
some (Int.tmod (IntKind.i64.wrap ((IntKind.i64.wrap (a1+a0)) - a2)) a0)
def rv_spec_fdSub (r:Int):RV:=⟨false,[(false,[.sc (.int .i64 r)])]⟩
theorem ok_spec_fdSub {a0:Int} {a1:Int} {a2:Int} {r:Int} (h:L_spec_fdSub a0 a1 a2=some r):CallOK Tryd.prog Tab 80 [(ai a0),(ai a1),(ai a2)] (rv_spec_fdSub r):=by
 refine call_of_ (by kernel_rfl) Tryd.func80 c_spec_fdSub (n:=14) (by kernel_rfl) (by simp) (tl:=[(0,(ai a0)),(1,(ai a1)),(2,(ai a2))]) rfl ?_
 unfold m_spec_fdSub
 unfold L_spec_fdSub at h
 refine seqR ?_
 refine awp_seqv_ ?_
 obtain ⟨g3,h⟩:=og_some h
 refine awp_region_ 10 ?_
 refine rz0 (ai a1) ?_
 refine rz0 (ai a0) ?_
 refine rz0 (ai (IntKind.i64.wrap (a1+a0))) ?_
 refine rz0 (ai a2) ?_
 refine rz0 (ai (IntKind.i64.wrap ((IntKind.i64.wrap (a1+a0)) - a2))) ?_
 refine rz0 (ai a0) ?_
 refine rs0 (ai (Int.tmod (IntKind.i64.wrap ((IntKind.i64.wrap (a1+a0)) - a2)) a0)) (s_rem (k:=.i64) (a:=IntKind.i64.wrap ((IntKind.i64.wrap (a1+a0)) - a2)) (b:=a0) (by kernel_rfl) (by kernel_rfl) g3) ?_
 refine rsB 1 ?_
 refine rnil (tn_ ?_)
 refine wr_ ?_
 refine awp_ret_ ?_
 obtain rfl:=zj h
 exact ret_ [(ai (Int.tmod (IntKind.i64.wrap ((IntKind.i64.wrap (a1+a0)) - a2)) a0))] (p_one rfl zl p_nil)
def m_spec_spReduce_l6:AC :=
 (.seq (rg [xo 143 (qb .lss (tm 142) (tm 141))])
 (.seq (.cond (tm 143)
  .skip
  (.exit 10))
 (.seq (.block 11 (.seq (rg [xo 144 (qm (tm 142)),xo 18 (qm (tm 144))])
 (.region [xo 145 (qm (tm 7)),xo 146 (qm (tm 16)),xo 147 (qx 1 (tm 145) (tm 146)),xo 148 (ql (tm 147)),xo 149 (qm (tm 18)),xo 150 (qm (tm 0)),xo 151 (qm (tm 7)),xo 152 (qm (tm 16)),xo 153 (qx 1 (tm 151) (tm 152)),xo 154 (ql (tm 153)),xo 155 (qm (tm 18)),xo 156 (qx 1 (tm 154) (tm 155)),xo 157 (ql (tm 156)),xo 158 (qm (tm 0)),xo 159 (qm (tm 17)),xo 160 (qm (tm 7)),xo 161 (qm (tm 10)),xo 162 (qx 1 (tm 160) (tm 161)),xo 163 (ql (tm 162)),xo 164 (qm (tm 18)),xo 165 (qx 1 (tm 163) (tm 164)),xo 166 (ql (tm 165)),xo 167 (qc 79 [(tm 158),(tm 159),(tm 166)] [[],[],[]]),xo 168 (qc 80 [(tm 150),(tm 157),(tm 167)] [[],[],[]]),xo 169 (qx 1 (tm 148) (tm 149)),xn (qs (tm 169) (tm 168))] true [(3,22),(9,22),(12,22),(3,23)])))
 (rg [xo 170 (qb .add (tm 142) (ci 1)),xo 142 (qm (tm 170))]))))
def m_spec_spReduce_l5:AC :=
 (.seq (rg [xo 115 (qb .lss (tm 114) (tm 113))])
 (.seq (.cond (tm 115)
  .skip
  (.exit 8))
 (.seq (.block 9 (.seq (rg [xo 116 (qm (tm 114)),xo 16 (qm (tm 116))])
 (.seq (.seq (rg [xo 117 (qm (tm 16)),xo 118 (qm (tm 10)),xo 119 (qb .eql (tm 117) (tm 118)),xo 120 (qm (tm 119)),⟨(some 121),(some (120,false)),(qm (tm 7))⟩,⟨(some 122),(some (120,false)),(qm (tm 16))⟩,⟨(some 123),(some (120,false)),(qx 1 (tm 121) (tm 122))⟩,⟨(some 124),(some (120,false)),(ql (tm 123))⟩,⟨(some 125),(some (120,false)),(qm (tm 11))⟩,⟨(some 126),(some (120,false)),(qx 1 (tm 124) (tm 125))⟩,⟨(some 127),(some (120,false)),(ql (tm 126))⟩,⟨(some 128),(some (120,false)),(qb .eql (tm 127) (ci 0))⟩,xo 129 (.i (.pick (tm 120) (cb true) (tm 128)))])
 (.cond (tm 129)
  (.exit 9)
  .skip))
 (.seq (rg [xo 130 (qm (tm 7)),xo 131 (qm (tm 16)),xo 132 (qx 1 (tm 130) (tm 131)),xo 133 (ql (tm 132)),xo 134 (qm (tm 11)),xo 135 (qx 1 (tm 133) (tm 134)),xo 136 (ql (tm 135)),xo 17 (qm (tm 136))])
 (.seq (rg [xo 137 (qm (tm 7)),xo 138 (qm (tm 16)),xo 139 (qx 1 (tm 137) (tm 138)),xo 140 (ql (tm 139)),xo 141 (.i (.len (tm 140))),xo 142 (qm (ci 0))])
 (.block 10 (.loop m_spec_spReduce_l6)))))))
 (rg [xo 171 (qb .add (tm 114) (ci 1)),xo 114 (qm (tm 171))]))))
def m_spec_spReduce_l4:AC :=
 (.seq (rg [xo 93 (qb .lss (tm 92) (tm 91))])
 (.seq (.cond (tm 93)
  .skip
  (.exit 6))
 (.seq (.block 7 (.seq (rg [xo 94 (qm (tm 92)),xo 15 (qm (tm 94))])
 (.region [xo 95 (qm (tm 7)),xo 96 (qm (tm 10)),xo 97 (qx 1 (tm 95) (tm 96)),xo 98 (ql (tm 97)),xo 99 (qm (tm 15)),xo 100 (qm (tm 0)),xo 101 (qm (tm 7)),xo 102 (qm (tm 10)),xo 103 (qx 1 (tm 101) (tm 102)),xo 104 (ql (tm 103)),xo 105 (qm (tm 15)),xo 106 (qx 1 (tm 104) (tm 105)),xo 107 (ql (tm 106)),xo 108 (qm (tm 14)),xo 109 (qc 79 [(tm 100),(tm 107),(tm 108)] [[],[],[]]),xo 110 (qx 1 (tm 98) (tm 99)),xn (qs (tm 110) (tm 109))] true [(3,14)])))
 (rg [xo 111 (qb .add (tm 92) (ci 1)),xo 92 (qm (tm 111))]))))
def m_spec_spReduce_l3:AC :=
 (.seq (.seq (rg [xo 43 (qm (tm 12)),xo 44 (qm (tm 7)),xo 45 (.i (.len (tm 44))),xo 46 (qb .lss (tm 43) (tm 45)),xo 47 (qm (tm 46)),⟨(some 48),(some (47,true)),(qm (tm 7))⟩,⟨(some 49),(some (47,true)),(qm (tm 12))⟩,⟨(some 50),(some (47,true)),(qx 1 (tm 48) (tm 49))⟩,⟨(some 51),(some (47,true)),(ql (tm 50))⟩,⟨(some 52),(some (47,true)),(qm (tm 11))⟩,⟨(some 53),(some (47,true)),(qx 1 (tm 51) (tm 52))⟩,⟨(some 54),(some (47,true)),(ql (tm 53))⟩,⟨(some 55),(some (47,true)),(qb .eql (tm 54) (ci 0))⟩,xo 56 (.i (.pick (tm 47) (tm 55) (cb false)))])
 (.cond (tm 56)
  .skip
  (.exit 4)))
 (.block 5 (rg [xo 57 (qm (tm 12)),xo 58 (qb .add (tm 57) (ci 1)),xo 12 (qm (tm 58))])))
def m_spec_spReduce_l2:AC :=
 (.seq (.seq (rg [xo 31 (qm (tm 11)),xo 32 (qm (tm 1)),xo 33 (qb .lss (tm 31) (tm 32)),xo 34 (qm (tm 33)),⟨(some 35),(some (34,true)),(qm (tm 10))⟩,⟨(some 36),(some (34,true)),(qm (tm 7))⟩,⟨(some 37),(some (34,true)),(.i (.len (tm 36)))⟩,⟨(some 38),(some (34,true)),(qb .lss (tm 35) (tm 37))⟩,xo 39 (.i (.pick (tm 34) (tm 38) (cb false)))])
 (.cond (tm 39)
  .skip
  (.exit 2)))
 (.seq (.block 3 (.seq (rg [xo 42 (qm (tm 10)),xo 12 (qm (tm 42))])
 (.seq (.block 4 (.loop m_spec_spReduce_l3))
 (.seq (.seq (rg [xo 59 (qm (tm 12)),xo 60 (qm (tm 7)),xo 61 (.i (.len (tm 60))),xo 62 (qb .eql (tm 59) (tm 61))])
 (.cond (tm 62)
  (.exit 3)
  .skip))
 (.seq (rg [xo 63 (qm (tm 7)),xo 64 (qm (tm 10)),xo 65 (qx 1 (tm 63) (tm 64)),xo 66 (ql (tm 65)),xo 13 (qm (tm 66))])
 (.seq (rg [xo 67 (qm (tm 7)),xo 68 (qm (tm 10)),xo 69 (qm (tm 7)),xo 70 (qm (tm 12)),xo 71 (qx 1 (tm 69) (tm 70)),xo 72 (ql (tm 71)),xo 73 (qx 1 (tm 67) (tm 68)),xn (qs (tm 73) (tm 72))])
 (.seq (rg [xo 74 (qm (tm 7)),xo 75 (qm (tm 12)),xo 76 (qm (tm 13)),xo 77 (qx 1 (tm 74) (tm 75)),xn (qs (tm 77) (tm 76))])
 (.seq (rg [xo 78 (qm (tm 0)),xo 79 (qm (tm 7)),xo 80 (qm (tm 10)),xo 81 (qx 1 (tm 79) (tm 80)),xo 82 (ql (tm 81)),xo 83 (qm (tm 11)),xo 84 (qx 1 (tm 82) (tm 83)),xo 85 (ql (tm 84)),xo 86 (qc 78 [(tm 78),(tm 85)] [[],[]]),xo 14 (qm (tm 86))])
 (.seq (.seq (rg [xo 87 (qm (tm 7)),xo 88 (qm (tm 10)),xo 89 (qx 1 (tm 87) (tm 88)),xo 90 (ql (tm 89)),xo 91 (.i (.len (tm 90))),xo 92 (qm (ci 0))])
 (.block 6 (.loop m_spec_spReduce_l4)))
 (.seq (.seq (rg [xo 112 (qm (tm 7)),xo 113 (.i (.len (tm 112))),xo 114 (qm (ci 0))])
 (.block 8 (.loop m_spec_spReduce_l5)))
 (rg [xo 172 (qm (tm 10)),xo 173 (qb .add (tm 172) (ci 1)),xo 10 (qm (tm 173))])))))))))))
 (rg [xo 40 (qm (tm 11)),xo 41 (qb .add (tm 40) (ci 1)),xo 11 (qm (tm 41))])))
def m_spec_spReduce_l1:AC :=
 (.seq (rg [xo 22 (qb .lss (tm 21) (tm 20))])
 (.seq (.cond (tm 22)
  .skip
  (.exit 0))
 (.seq (.block 1 (.seq (rg [xo 23 (qx 1 (tm 19) (tm 21)),xo 24 (ql (tm 23)),xo 9 (qm (tm 24))])
 (rg [xo 25 (qm (tm 7)),xo 26 (qm (tm 9)),xo 27 (qc 41 [(tm 26)] [[(some .int)]]),xo 28 (.mkV 23 (.slice .int) 1 [(tm 27)]),xo 29 (.appV 23 (.slice .int) 24 (tm 25) (tm 28)),xo 7 (qm (tm 29))])))
 (rg [xo 30 (qb .add (tm 21) (ci 1)),xo 21 (qm (tm 30))]))))
def m_spec_spReduce:AC :=
 (.seq (rg [xo 6 (qm (.cst .nils))])
 (.seq (rg [xo 7 (qm (.cst .nils))])
 (.seq (.seq (rg [xo 19 (qm (tm 2)),xo 20 (.i (.len (tm 19))),xo 21 (qm (ci 0))])
 (.block 0 (.loop m_spec_spReduce_l1)))
 (.seq (rg [xo 10 (qm (ci 0))])
 (.seq (.seq (rg [xo 11 (qm (ci 0))])
 (.block 2 (.loop m_spec_spReduce_l2)))
 (.seq (rg [xo 174 (qm (tm 7)),xo 175 (qm (tm 10)),xo 176 (.slice 1 (tm 174) none (some (tm 175)) none),xo 6 (qm (tm 176))])
 .ret))))))
def r_spec_spReduce:List Res:=[.tmp 6]
theorem c_spec_spReduce:compiled Tryd.prog Tryd.f45=some (m_spec_spReduce,r_spec_spReduce):=by kernel_rfl
theorem hb_spec_spReduce:hasBody Tryd.prog 45=true:=by kernel_rfl
def L_spec_spReduce_l1 (a2:List (List Int)) (l6_m21:Nat) (l6_m7:List (List Int)):Option (Ctl (Nat×List (List Int)) (List (List Int))) :=
 cond (decide (((l6_m21:Nat):Int)<((a2.length:Nat):Int)))
 (Option.bind (a2[l6_m21]?) fun x12 =>
 Option.bind (L_spec_l1Own x12) fun y13 =>
 og (l6_m7.length+1<=1073741824∧(l6_m7.length+1)*24<=140737488355328) <|
 og (l6_m21+1<4611686018427387904) <|
 some (Ctl.next (l6_m21+1,l6_m7++[y13])))
 (some (Ctl.out l6_m7))
def L_spec_spReduce_l3 (l19_m7:List (List Int)) (l19_m11:Nat) (l27_m12:Nat):Option (Ctl Nat Nat) :=
 Option.bind (cond (decide (((l27_m12:Nat):Int)<((l19_m7.length:Nat):Int)))
  (Option.bind (l19_m7[l27_m12]?) fun x31 =>
  Option.bind (x31[l19_m11]?) fun x32 =>
  some (x32==0))
  (some false)) fun l29_m56 =>
cond l29_m56
 (og (l27_m12+1<4611686018427387904) <|
 some (Ctl.next (l27_m12+1)))
 (some (Ctl.out l27_m12))
def L_spec_spReduce_l4 (x44:List Int) (l19_m10:Nat) (a0:Int) (y46:Int) (l49_m92:Nat) (l49_m7:List (List Int)):Option (Ctl (Nat×List (List Int)) (List (List Int))) :=
 cond (decide (((l49_m92:Nat):Int)<((x44.length:Nat):Int)))
 (Option.bind (l49_m7[l19_m10]?) fun x55 =>
 Option.bind (x55[l49_m92]?) fun x56 =>
 Option.bind (L_spec_fdMul a0 x56 y46) fun y57 =>
 og (l49_m92+1<4611686018427387904) <|
 some (Ctl.next (l49_m92+1,l49_m7.set l19_m10 (x55.set l49_m92 y57))))
 (some (Ctl.out l49_m7))
def L_spec_spReduce_l6 (x74:List Int) (l61_m114:Nat) (l19_m10:Nat) (a0:Int) (x75:Int) (l77_m142:Nat) (l77_m7:List (List Int)):Option (Ctl (Nat×List (List Int)) (List (List Int))) :=
 cond (decide (((l77_m142:Nat):Int)<((x74.length:Nat):Int)))
 (Option.bind (l77_m7[l61_m114]?) fun x83 =>
 Option.bind (x83[l77_m142]?) fun x84 =>
 Option.bind (l77_m7[l19_m10]?) fun x85 =>
 Option.bind (x85[l77_m142]?) fun x86 =>
 Option.bind (L_spec_fdMul a0 x75 x86) fun y87 =>
 Option.bind (L_spec_fdSub a0 x84 y87) fun y88 =>
 og (l77_m142+1<4611686018427387904) <|
 some (Ctl.next (l77_m142+1,l77_m7.set l61_m114 (x83.set l77_m142 y88))))
 (some (Ctl.out l77_m7))
def L_spec_spReduce_l5 (l47_m7:List (List Int)) (l19_m10:Nat) (l19_m11:Nat) (a0:Int) (l61_m114:Nat) (l61_m7:List (List Int)):Option (Ctl (Nat×List (List Int)) (List (List Int))) :=
 cond (decide (((l61_m114:Nat):Int)<((l47_m7.length:Nat):Int)))
 (Option.bind (Option.bind (cond (((l61_m114:Nat):Int)==((l19_m10:Nat):Int))
       (some true)
       (Option.bind (l61_m7[l61_m114]?) fun x70 =>
       Option.bind (x70[l19_m11]?) fun x71 =>
       some (x71==0))) fun l68_m129 =>
  cond l68_m129
   (some l61_m7)
   (Option.bind (l61_m7[l61_m114]?) fun x74 =>
   Option.bind (x74[l19_m11]?) fun x75 =>
   loopM (fun s_:Nat×List (List Int)=>L_spec_spReduce_l6 x74 l61_m114 l19_m10 a0 x75 s_.1 s_.2) 4611686018427387904 (0,l61_m7))) fun l65_m7 =>
 og (l61_m114+1<4611686018427387904) <|
 some (Ctl.next (l61_m114+1,l65_m7)))
 (some (Ctl.out l61_m7))
def L_spec_spReduce_l2 (a1:Int) (a0:Int) (l19_m10:Nat) (l19_m11:Nat) (l19_m7:List (List Int)):Option (Ctl (Nat×Nat×List (List Int)) (Nat×List (List Int))) :=
 Option.bind (cond (decide (((l19_m11:Nat):Int)<a1))
  (some (decide (((l19_m10:Nat):Int)<((l19_m7.length:Nat):Int))))
  (some false)) fun l21_m39 =>
cond l21_m39
 (Option.bind (Option.bind (loopM (fun s_:Nat=>L_spec_spReduce_l3 l19_m7 l19_m11 s_) 4611686018427387904 l19_m10) fun l26_m12 =>
  cond (((l26_m12:Nat):Int)==((l19_m7.length:Nat):Int))
   (some (l19_m10,l19_m7))
   (Option.bind (l19_m7[l19_m10]?) fun x39 =>
   Option.bind (l19_m7[l26_m12]?) fun x41 =>
   Option.bind (((l19_m7.set l19_m10 x41).set l26_m12 x39)[l19_m10]?) fun x44 =>
   Option.bind (x44[l19_m11]?) fun x45 =>
   Option.bind (L_spec_fdInv a0 x45) fun y46 =>
   Option.bind (loopM (fun s_:Nat×List (List Int)=>L_spec_spReduce_l4 x44 l19_m10 a0 y46 s_.1 s_.2) 4611686018427387904 (0,(l19_m7.set l19_m10 x41).set l26_m12 x39)) fun l47_m7 =>
   Option.bind (loopM (fun s_:Nat×List (List Int)=>L_spec_spReduce_l5 l47_m7 l19_m10 l19_m11 a0 s_.1 s_.2) 4611686018427387904 (0,l47_m7)) fun l59_m7 =>
   og (l19_m10+1<4611686018427387904) <|
   some (l19_m10+1,l59_m7))) fun (l24_m10,l24_m7) =>
 og (l19_m11+1<4611686018427387904) <|
 some (Ctl.next (l24_m10,l19_m11+1,l24_m7)))
 (some (Ctl.out (l19_m10,l19_m7)))
def L_spec_spReduce (a0:Int) (a1:Int) (a2:List (List Int)):Option (List (List Int)) :=
 Option.bind (loopM (fun s_:Nat×List (List Int)=>L_spec_spReduce_l1 a2 s_.1 s_.2) 4611686018427387904 (0,([]:List (List Int)))) fun l4_m7 =>
Option.bind (loopM (fun s_:Nat×Nat×List (List Int)=>L_spec_spReduce_l2 a1 a0 s_.1 s_.2.1 s_.2.2) 4611686018427387904 (0,0,l4_m7)) fun (l17_m10,l17_m7) =>
og ((0:Int)<=0∧0<=((l17_m10:Nat):Int)∧((l17_m10:Nat):Int)<=((l17_m7.length:Nat):Int)) <|
some (l17_m7.take l17_m10)
theorem ok_spec_spReduce {a0:Int} {a1:Int} {a2:List (List Int)} {r:List (List Int)} (h:L_spec_spReduce a0 a1 a2=some r):CallM Tryd.prog Tab 45 [(ai a0),(ai a1),(.tree (.slice .int) a2)] [] (.own (oi 0 1) (.slice .int) 0 r.length) [((oi 0 1),.mat 23 (oi 1 1) .int r),((oi 1 1),.pool 3 .int r)]:=by
 refine callM_of_ (by kernel_rfl) Tryd.func45 c_spec_spReduce (n:=177) (by kernel_rfl) (by simp) (tl:=[(0,(ai a0)),(1,(ai a1)),(2,(.tree (.slice .int) a2))]) rfl (by kernel_rfl) trivial ⟨⟨3,(.tail _ (.head _))⟩,⟨trivial,trivial⟩⟩ ?_
 unfold m_spec_spReduce
 unfold L_spec_spReduce at h
 refine seqR ?_
 refine seqR ?_
 refine awp_seqB h (fun (l4_m7:List (List Int)) S_=>S_=⟨mkTm [(0,(ai a0)),(1,(ai a1)),(7,(.own (oi 0 1) (.slice .int) 0 l4_m7.length))],mkOb (someL [((oi 0 1),.mat 23 (oi 1 1) .int l4_m7),((oi 1 1),.pool 3 .int l4_m7)]),2⟩) ?_ ?_
 ·intro v_ h
  refine seqR ?_
  refine awp_block_ ?_
  refine awp_loopL h (fun t_ S_=>∃ (l6_m21:Nat),∃ (l6_m7:List (List Int)),t_=(l6_m21,l6_m7)∧S_=⟨mkTm [(0,(ai a0)),(1,(ai a1)),(7,(.own (oi 0 1) (.slice .int) 0 l6_m7.length)),(19,(.tree (.slice .int) a2)),(20,(ai ((a2.length:Nat):Int))),(21,(ai ((l6_m21:Nat):Int)))],mkOb (someL [((oi 0 1),.mat 23 (oi 1 1) .int l6_m7),((oi 1 1),.pool 3 .int l6_m7)]),2⟩) ⟨_,((weak_nilV_ 7 23 (.slice .int) (by kernel_rfl)).trans ((weak_none_ (e1:=23) (n:=0) 9000 (oi 7 6) 3 .int (by kernel_rfl) (by kernel_rfl) rfl (by kernel_rfl) (by kernel_rfl)).trans (weak_ren [((oi 0 1),(oi 7 6)),((oi 1 1),(oi 9000 7))]))),⟨0,([]:List (List Int)),rfl,rfl⟩⟩ ?_
  rintro n_ _ _ c_ ⟨l6_m21,l6_m7,rfl,rfl⟩ h hn6
  (try dsimp only at h)
  unfold L_spec_spReduce_l1 at h
  unfold m_spec_spReduce_l1
  refine seqR ?_
  refine awp_seqv_ ?_
  rcases cond_some h with ⟨q9,h⟩ | ⟨q9,h⟩
  ·have q9_:=of_decide_eq_true q9
   refine awp_condT_ q9 ?_
   refine awp_skip_ (tn_ ?_)
   refine wr_ ?_
   refine awp_seqv_ ?_
   refine awp_block_ ?_
   refine awp_seqv_ ?_
   obtain ⟨x12,e12,h⟩:=ob_some h
   refine awp_region_ 6 ?_
   refine rs0 (.telt (.slice .int) x12 0) (zi (t:=(.slice .int)) (xs:=a2) (k:=.i64) (m:=((l6_m21:Nat):Int)) (nat_nn _) e12) ?_
   refine rsB 2 ?_
   refine rnil (tn_ ?_)
   refine wr_ ?_
   obtain ⟨y13,h13,h⟩:=ob_some h
   obtain ⟨g14,h⟩:=og_some h
   refine awp_region_ 12 ?_
   refine rz0 (.own (oi 0 1) (.slice .int) 0 l6_m7.length) ?_
   refine rz0 (.tree .int x12) ?_
   refine zc (.own (oi 432 8) .int 0 y13.length) [((oi 432 8),some (.arr 3 .int y13))] [(.tree .int x12)] (ok_spec_l1Own h13) ?_
   refine rmkV (.own (oi 28 9) (.slice .int) 0 1) (oi 28 9) (.vec 23 1 1 ([(.own (oi 432 8) .int 0 y13.length)])) trivial (s_mkV (by kernel_rfl)) ?_
   refine rs2 (.own (oi 0 10) (.slice .int) 0 (l6_m7.length+1)) (oi 0 1) (oi 0 10) (.vec 23 1 (l6_m7.length+1) (hdL (oi 1 1) .int l6_m7++[(.own (oi 432 8) .int 0 y13.length)])) (s_appVO (u:=.int) (t':=(.slice .int)) (t2:=(.slice .int)) (o:=(oi 0 1)) (q:=(oi 28 9)) (e2:=23) (p:=(oi 1 1)) (xss:=l6_m7) (cs:=[(.own (oi 432 8) .int 0 y13.length)]) (len:=l6_m7.length) (by kernel_rfl) (by kernel_rfl) rfl (by kernel_rfl) (by kernel_rfl) rfl g14) ?_
   refine rsB 1 ?_
   refine rnil (bn_ (tn_ ?_))
   refine ⟨_,weak_app_ (e1:=23) (e:=3) (u:=.int) (n:=l6_m7.length+1) (len:=y13.length) (row:=y13) (ys:=y13) (xss:=l6_m7) 9000 (oi 0 10) (oi 1 1) (oi 432 8) (by kernel_rfl) (by kernel_rfl) rfl (by kernel_rfl) (by kernel_rfl) (tw_le rfl) (tw_eq rfl) (by kernel_rfl) (by kernel_rfl) (by kernel_rfl),?_⟩
   obtain ⟨g15,h⟩:=og_some h
   refine awp_region_ 15 ?_
   refine rs0 (ai ((l6_m21+1:Nat):Int)) (za g15) ?_
   refine rsB 1 ?_
   refine rnil (tn_ ?_)
   obtain rfl:=zj h
   exact ⟨(l6_m21+1,l6_m7++[y13]),_,((weak_tm_ 7 (.own (oi 0 10) (.slice .int) 0 (l6_m7.length+1)) (.own (oi 0 10) (.slice .int) 0 ((l6_m7++[y13]).length)) (by kernel_rfl) (congrArg (fun z_=>((.own (oi 0 10) (.slice .int) 0 z_):AV)) ((by simp):l6_m7.length+1=(l6_m7++[y13]).length))).trans (weak_ren [((oi 0 1),(oi 0 10)),((oi 1 1),(oi 9000 12))])),⟨l6_m21+1,l6_m7++[y13],rfl,rfl⟩,hn6⟩
  have q9_:=of_decide_eq_false q9
  refine awp_condF_ q9 ?_
  refine awp_exit_ (te_ (te_ (be_ (tn_ ?_))))
  obtain rfl:=zj h
  have h:=hn6
  (try dsimp only at h)
  obtain rfl:=zj h
  exact ⟨_,(weak_ren []),rfl⟩
 rintro l4_m7 _ rfl h
 (try dsimp only at h)
 refine seqR ?_
 refine awp_seqB h (fun t_ S_=>∃ (l17_m10:Nat),∃ (l17_m7:List (List Int)),t_=(l17_m10,l17_m7)∧S_=⟨mkTm [(7,(.own (oi 0 1) (.slice .int) 0 l17_m7.length)),(10,(ai ((l17_m10:Nat):Int)))],mkOb (someL [((oi 0 1),.mat 23 (oi 1 1) .int l17_m7),((oi 1 1),.pool 3 .int l17_m7)]),2⟩) ?_ ?_
 ·intro v_ h
  refine seqR ?_
  refine awp_block_ ?_
  refine awp_loopL h (fun t_ S_=>∃ (l19_m10:Nat),∃ (l19_m11:Nat),∃ (l19_m7:List (List Int)),t_=(l19_m10,l19_m11,l19_m7)∧S_=⟨mkTm [(0,(ai a0)),(1,(ai a1)),(7,(.own (oi 0 1) (.slice .int) 0 l19_m7.length)),(10,(ai ((l19_m10:Nat):Int))),(11,(ai ((l19_m11:Nat):Int)))],mkOb (someL [((oi 0 1),.mat 23 (oi 1 1) .int l19_m7),((oi 1 1),.pool 3 .int l19_m7)]),2⟩) ⟨_,(weak_ren []),⟨0,0,l4_m7,rfl,rfl⟩⟩ ?_
  rintro n_ _ _ c_ ⟨l19_m10,l19_m11,l19_m7,rfl,rfl⟩ h hn19
  (try dsimp only at h)
  unfold L_spec_spReduce_l2 at h
  unfold m_spec_spReduce_l2
  refine awp_seqv_ ?_
  refine awp_seqB h (fun (l21_m39:Bool) S_=>S_=⟨mkTm [(0,(ai a0)),(1,(ai a1)),(7,(.own (oi 0 1) (.slice .int) 0 l19_m7.length)),(10,(ai ((l19_m10:Nat):Int))),(11,(ai ((l19_m11:Nat):Int))),(39,(.bool l21_m39))],mkOb (someL [((oi 0 1),.mat 23 (oi 1 1) .int l19_m7),((oi 1 1),.pool 3 .int l19_m7)]),2⟩) ?_ ?_
  ·intro v_ h
   rcases cond_some h with ⟨q22,h⟩ | ⟨q22,h⟩
   ·have q22_:=of_decide_eq_true q22
    refine awp_region_ 11 ?_
    refine rz0 (ai ((l19_m11:Nat):Int)) ?_
    refine rz0 (ai a1) ?_
    refine rz0 (.bool (decide (((l19_m11:Nat):Int)<a1))) ?_
    refine rz0 (.bool (decide (((l19_m11:Nat):Int)<a1))) ?_
    refine rs0 (ai ((l19_m10:Nat):Int)) (zg q22) ?_
    refine rs0 (.own (oi 0 1) (.slice .int) 0 l19_m7.length) (zg q22) ?_
    refine rs0 (ai ((l19_m7.length:Nat):Int)) (zg q22) ?_
    refine rs0 (.bool (decide (((l19_m10:Nat):Int)<((l19_m7.length:Nat):Int)))) (zg q22) ?_
    refine rs0 (.bool (decide (((l19_m10:Nat):Int)<((l19_m7.length:Nat):Int)))) (zT q22) ?_
    refine rnil (tn_ ?_)
    obtain rfl:=zj h
    exact ⟨_,(weak_ren []),rfl⟩
   have q22_:=of_decide_eq_false q22
   refine awp_region_ 11 ?_
   refine rz0 (ai ((l19_m11:Nat):Int)) ?_
   refine rz0 (ai a1) ?_
   refine rz0 (.bool (decide (((l19_m11:Nat):Int)<a1))) ?_
   refine rz0 (.bool (decide (((l19_m11:Nat):Int)<a1))) ?_
   refine zs q22 ?_
   refine zs q22 ?_
   refine zs q22 ?_
   refine zs q22 ?_
   refine rs0 (.bool false) (zF q22) ?_
   refine rnil (tn_ ?_)
   obtain rfl:=zj h
   exact ⟨_,(weak_ren []),rfl⟩
  rintro l21_m39 _ rfl h
  (try dsimp only at h)
  rcases cond_some h with ⟨q23,h⟩ | ⟨q23,h⟩
  ·refine awp_condT_ q23 ?_
   refine awp_skip_ (tn_ ?_)
   refine wr_ ?_
   refine awp_seqB h (fun t_ S_=>∃ (l24_m10:Nat),∃ (l24_m7:List (List Int)),t_=(l24_m10,l24_m7)∧S_=⟨mkTm [(0,(ai a0)),(1,(ai a1)),(7,(.own (oi 0 1) (.slice .int) 0 l24_m7.length)),(10,(ai ((l24_m10:Nat):Int))),(11,(ai ((l19_m11:Nat):Int)))],mkOb (someL [((oi 0 1),.mat 23 (oi 1 1) .int l24_m7),((oi 1 1),.pool 3 .int l24_m7)]),2⟩) ?_ ?_
   ·intro v_ h
    refine awp_block_ ?_
    refine seqR ?_
    refine awp_seqB h (fun (l26_m12:Nat) S_=>S_=⟨mkTm [(0,(ai a0)),(1,(ai a1)),(7,(.own (oi 0 1) (.slice .int) 0 l19_m7.length)),(10,(ai ((l19_m10:Nat):Int))),(11,(ai ((l19_m11:Nat):Int))),(12,(ai ((l26_m12:Nat):Int)))],mkOb (someL [((oi 0 1),.mat 23 (oi 1 1) .int l19_m7),((oi 1 1),.pool 3 .int l19_m7)]),2⟩) ?_ ?_
    ·intro v_ h
     refine awp_block_ ?_
     refine awp_loopL h (fun (l27_m12:Nat) S_=>S_=⟨mkTm [(0,(ai a0)),(1,(ai a1)),(7,(.own (oi 0 1) (.slice .int) 0 l19_m7.length)),(10,(ai ((l19_m10:Nat):Int))),(11,(ai ((l19_m11:Nat):Int))),(12,(ai ((l27_m12:Nat):Int)))],mkOb (someL [((oi 0 1),.mat 23 (oi 1 1) .int l19_m7),((oi 1 1),.pool 3 .int l19_m7)]),2⟩) ⟨_,(weak_ren []),rfl⟩ ?_
     rintro n_ l27_m12 _ c_ rfl h hn27
     (try dsimp only at h)
     unfold L_spec_spReduce_l3 at h
     unfold m_spec_spReduce_l3
     refine awp_seqv_ ?_
     refine awp_seqB h (fun (l29_m56:Bool) S_=>S_=⟨mkTm [(0,(ai a0)),(1,(ai a1)),(7,(.own (oi 0 1) (.slice .int) 0 l19_m7.length)),(10,(ai ((l19_m10:Nat):Int))),(11,(ai ((l19_m11:Nat):Int))),(12,(ai ((l27_m12:Nat):Int))),(56,(.bool l29_m56))],mkOb (someL [((oi 0 1),.mat 23 (oi 1 1) .int l19_m7),((oi 1 1),.pool 3 .int l19_m7)]),2⟩) ?_ ?_
     ·intro v_ h
      rcases cond_some h with ⟨q30,h⟩ | ⟨q30,h⟩
      ·have q30_:=of_decide_eq_true q30
       obtain ⟨x31,e31,h⟩:=ob_some h
       obtain ⟨x32,e32,h⟩:=ob_some h
       refine awp_region_ 16 ?_
       refine rz0 (ai ((l27_m12:Nat):Int)) ?_
       refine rz0 (.own (oi 0 1) (.slice .int) 0 l19_m7.length) ?_
       refine rz0 (ai ((l19_m7.length:Nat):Int)) ?_
       refine rz0 (.bool (decide (((l27_m12:Nat):Int)<((l19_m7.length:Nat):Int)))) ?_
       refine rz0 (.bool (decide (((l27_m12:Nat):Int)<((l19_m7.length:Nat):Int)))) ?_
       refine rs0 (.own (oi 0 1) (.slice .int) 0 l19_m7.length) (zg q30) ?_
       refine rs0 (ai ((l27_m12:Nat):Int)) (zg q30) ?_
       refine rs0 (.elt (oi 0 1) l27_m12 0) (s_gd (by kernel_rfl) q30 (zo (t:=(.slice .int)) (o:=(oi 0 1)) (len:=l19_m7.length) (k:=.i64) (m:=((l27_m12:Nat):Int)) (nat_nn _) (getN_lt e31))) ?_
       refine rsl (.own (kid (oi 1 1) l27_m12) .int 0 x31.length) (s_gd (by kernel_rfl) q30 (s_ldM (o:=(oi 0 1)) (p:=(oi 1 1)) (e1:=23) (u:=.int) (xss:=l19_m7) (row:=x31) (j:=l27_m12) (by kernel_rfl) (by kernel_rfl) e31)) ?_
       refine rs0 (ai ((l19_m11:Nat):Int)) (zg q30) ?_
       refine rs0 (.elt (kid (oi 1 1) l27_m12) l19_m11 0) (s_gd (by kernel_rfl) q30 (zo (t:=.int) (o:=(kid (oi 1 1) l27_m12)) (len:=x31.length) (k:=.i64) (m:=((l19_m11:Nat):Int)) (nat_nn _) (getN_lt e32))) ?_
       refine rsl (ai x32) (s_gd (by kernel_rfl) q30 (s_ldE (i:=(kid (oi 1 1) l27_m12)) (j:=l19_m11) (k:=0) (e:=3) (t:=.int) (xs:=x31) (by kernel_rfl) (mkOb_kid (by kernel_rfl) e31) e32 (by kernel_rfl))) ?_
       refine rs0 (.bool (x32==0)) (zg q30) ?_
       refine rs0 (.bool (x32==0)) (zT q30) ?_
       refine rnil (tn_ ?_)
       obtain rfl:=zj h
       exact ⟨_,(weak_ren []),rfl⟩
      have q30_:=of_decide_eq_false q30
      refine awp_region_ 16 ?_
      refine rz0 (ai ((l27_m12:Nat):Int)) ?_
      refine rz0 (.own (oi 0 1) (.slice .int) 0 l19_m7.length) ?_
      refine rz0 (ai ((l19_m7.length:Nat):Int)) ?_
      refine rz0 (.bool (decide (((l27_m12:Nat):Int)<((l19_m7.length:Nat):Int)))) ?_
      refine rz0 (.bool (decide (((l27_m12:Nat):Int)<((l19_m7.length:Nat):Int)))) ?_
      refine zs q30 ?_
      refine zs q30 ?_
      refine zs q30 ?_
      refine zs q30 ?_
      refine zs q30 ?_
      refine zs q30 ?_
      refine zs q30 ?_
      refine zs q30 ?_
      refine rs0 (.bool false) (zF q30) ?_
      refine rnil (tn_ ?_)
      obtain rfl:=zj h
      exact ⟨_,(weak_ren []),rfl⟩
     rintro l29_m56 _ rfl h
     (try dsimp only at h)
     rcases cond_some h with ⟨q33,h⟩ | ⟨q33,h⟩
     ·refine awp_condT_ q33 ?_
      refine awp_skip_ (tn_ ?_)
      refine wr_ ?_
      refine awp_block_ ?_
      obtain ⟨g34,h⟩:=og_some h
      refine awp_region_ 5 ?_
      refine rz0 (ai ((l27_m12:Nat):Int)) ?_
      refine rs0 (ai ((l27_m12+1:Nat):Int)) (za g34) ?_
      refine rsB 1 ?_
      refine rnil (bn_ (tn_ ?_))
      obtain rfl:=zj h
      exact ⟨l27_m12+1,_,(weak_ren []),rfl,hn27⟩
     refine awp_condF_ q33 ?_
     refine awp_exit_ (te_ (te_ (be_ (tn_ ?_))))
     obtain rfl:=zj h
     have h:=hn27
     (try dsimp only at h)
     obtain rfl:=zj h
     exact ⟨_,(weak_ren []),rfl⟩
    rintro l26_m12 _ rfl h
    (try dsimp only at h)
    refine awp_seqv_ ?_
    refine seqR ?_
    rcases cond_some h with ⟨q37,h⟩ | ⟨q37,h⟩
    ·refine awp_condT_ q37 ?_
     refine awp_exit_ (te_ (be_ (tn_ ?_)))
     obtain rfl:=zj h
     exact ⟨_,(weak_ren []),⟨l19_m10,l19_m7,rfl,rfl⟩⟩
    refine awp_condF_ q37 ?_
    refine awp_skip_ (tn_ ?_)
    refine wr_ ?_
    refine awp_seqv_ ?_
    obtain ⟨x39,e39,h⟩:=ob_some h
    refine awp_region_ 11 ?_
    refine rz0 (.own (oi 0 1) (.slice .int) 0 l19_m7.length) ?_
    refine rz0 (ai ((l19_m10:Nat):Int)) ?_
    refine rs0 (.elt (oi 0 1) l19_m10 0) (zo (t:=(.slice .int)) (o:=(oi 0 1)) (len:=l19_m7.length) (k:=.i64) (m:=((l19_m10:Nat):Int)) (nat_nn _) (getN_lt e39)) ?_
    refine rsl (.own (kid (oi 1 1) l19_m10) .int 0 x39.length) (s_ldM (o:=(oi 0 1)) (p:=(oi 1 1)) (e1:=23) (u:=.int) (xss:=l19_m7) (row:=x39) (j:=l19_m10) (by kernel_rfl) (by kernel_rfl) e39) ?_
    refine rsB 1 ?_
    refine rnil (tn_ ?_)
    refine wr_ ?_
    refine awp_seqv_ ?_
    obtain ⟨x41,e41,h⟩:=ob_some h
    refine awp_region_ 19 ?_
    refine rz0 (.own (oi 0 1) (.slice .int) 0 l19_m7.length) ?_
    refine rz0 (ai ((l19_m10:Nat):Int)) ?_
    refine rz0 (.own (oi 0 1) (.slice .int) 0 l19_m7.length) ?_
    refine rz0 (ai ((l26_m12:Nat):Int)) ?_
    refine rs0 (.elt (oi 0 1) l26_m12 0) (zo (t:=(.slice .int)) (o:=(oi 0 1)) (len:=l19_m7.length) (k:=.i64) (m:=((l26_m12:Nat):Int)) (nat_nn _) (getN_lt e41)) ?_
    refine rsl (.own (kid (oi 1 1) l26_m12) .int 0 x41.length) (s_ldM (o:=(oi 0 1)) (p:=(oi 1 1)) (e1:=23) (u:=.int) (xss:=l19_m7) (row:=x41) (j:=l26_m12) (by kernel_rfl) (by kernel_rfl) e41) ?_
    refine rs0 (.elt (oi 0 1) l19_m10 0) (zo (t:=(.slice .int)) (o:=(oi 0 1)) (len:=l19_m7.length) (k:=.i64) (m:=((l19_m10:Nat):Int)) (nat_nn _) (getN_lt e39)) ?_
    refine rsn2 (oi 0 1) (oi 0 1) (.vec 23 1 l19_m7.length ((hdL (oi 1 1) .int l19_m7).set l19_m10 (.own (kid (oi 1 1) l26_m12) .int 0 x41.length))) (s_stV (o:=(oi 0 1)) (e1:=23) (m:=l19_m7.length) (cs:=hdL (oi 1 1) .int l19_m7) (v:=(.own (kid (oi 1 1) l26_m12) .int 0 x41.length)) (j:=l19_m10) (by kernel_rfl) (by kernel_rfl) (by kernel_rfl) rfl (by rw [hdL_len]; exact getN_lt e39)) ?_
    refine rnil (tn_ ?_)
    refine wr_ ?_
    refine awp_seqv_ ?_
    refine awp_region_ 24 ?_
    refine rz0 (.own (oi 0 1) (.slice .int) 0 l19_m7.length) ?_
    refine rz0 (ai ((l26_m12:Nat):Int)) ?_
    refine rz0 (.own (kid (oi 1 1) l19_m10) .int 0 x39.length) ?_
    refine rs0 (.elt (oi 0 1) l26_m12 0) (zo (t:=(.slice .int)) (o:=(oi 0 1)) (len:=l19_m7.length) (k:=.i64) (m:=((l26_m12:Nat):Int)) (nat_nn _) (getN_lt e41)) ?_
    refine rsn2 (oi 0 1) (oi 0 1) (.vec 23 1 l19_m7.length (((hdL (oi 1 1) .int l19_m7).set l19_m10 (.own (kid (oi 1 1) l26_m12) .int 0 x41.length)).set l26_m12 (.own (kid (oi 1 1) l19_m10) .int 0 x39.length))) (s_stV (o:=(oi 0 1)) (e1:=23) (m:=l19_m7.length) (cs:=(hdL (oi 1 1) .int l19_m7).set l19_m10 (.own (kid (oi 1 1) l26_m12) .int 0 x41.length)) (v:=(.own (kid (oi 1 1) l19_m10) .int 0 x39.length)) (j:=l26_m12) (by kernel_rfl) (by kernel_rfl) (by kernel_rfl) rfl (by rw [List.length_set,hdL_len]; exact getN_lt e41)) ?_
    refine rnil (tn_ ?_)
    refine ⟨_,weak_swap_ (e1:=23) (e:=3) (u:=.int) (xss:=l19_m7) (i:=l19_m10) (j:=l26_m12) (n:=l19_m7.length) (li:=x39.length) (lj:=x41.length) (ri:=x39) (rj:=x41) 9000 (oi 0 1) (oi 1 1) (by kernel_rfl) (by kernel_rfl) rfl (by kernel_rfl) e39 e41 rfl rfl (by kernel_rfl) (by kernel_rfl),?_⟩
    refine awp_seqv_ ?_
    obtain ⟨x44,e44,h⟩:=ob_some h
    obtain ⟨x45,e45,h⟩:=ob_some h
    obtain ⟨y46,h46,h⟩:=ob_some h
    refine awp_region_ 35 ?_
    refine rz0 (ai a0) ?_
    refine rz0 (.own (oi 0 1) (.slice .int) 0 l19_m7.length) ?_
    refine rz0 (ai ((l19_m10:Nat):Int)) ?_
    refine rs0 (.elt (oi 0 1) l19_m10 0) (zo (t:=(.slice .int)) (o:=(oi 0 1)) (len:=l19_m7.length) (k:=.i64) (m:=((l19_m10:Nat):Int)) (nat_nn _) (Nat.lt_of_lt_of_le (getN_lt e44) (Nat.le_of_eq (Eq.symm (Eq.trans (b:=l19_m7.length) rfl (by simp)))))) ?_
    refine rsl (.own (kid (oi 9000 24) l19_m10) .int 0 x44.length) (s_ldM (o:=(oi 0 1)) (p:=(oi 9000 24)) (e1:=23) (u:=.int) (xss:=(l19_m7.set l19_m10 x41).set l26_m12 x39) (row:=x44) (j:=l19_m10) (by kernel_rfl) (by kernel_rfl) e44) ?_
    refine rz0 (ai ((l19_m11:Nat):Int)) ?_
    refine rs0 (.elt (kid (oi 9000 24) l19_m10) l19_m11 0) (zo (t:=.int) (o:=(kid (oi 9000 24) l19_m10)) (len:=x44.length) (k:=.i64) (m:=((l19_m11:Nat):Int)) (nat_nn _) (getN_lt e45)) ?_
    refine rsl (ai x45) (s_ldE (i:=(kid (oi 9000 24) l19_m10)) (j:=l19_m11) (k:=0) (e:=3) (t:=.int) (xs:=x44) (by kernel_rfl) (mkOb_kid (by kernel_rfl) e44) e45 (by kernel_rfl)) ?_
    refine zc (ai y46) [] [(ai a0),(ai x45)] (ok_spec_fdInv h46) ?_
    refine rsB 1 ?_
    refine rnil (tn_ ?_)
    refine wr_ ?_
    refine awp_seqB h (fun (l47_m7:List (List Int)) S_=>S_=⟨mkTm [(0,(ai a0)),(1,(ai a1)),(7,(.own (oi 0 1) (.slice .int) 0 l47_m7.length)),(10,(ai ((l19_m10:Nat):Int))),(11,(ai ((l19_m11:Nat):Int)))],mkOb (someL [((oi 0 1),.mat 23 (oi 1 1) .int l47_m7),((oi 1 1),.pool 3 .int l47_m7)]),2⟩) ?_ ?_
    ·intro v_ h
     refine awp_seqv_ ?_
     refine awp_region_ 41 ?_
     refine rz0 (.own (oi 0 1) (.slice .int) 0 l19_m7.length) ?_
     refine rz0 (ai ((l19_m10:Nat):Int)) ?_
     refine rs0 (.elt (oi 0 1) l19_m10 0) (zo (t:=(.slice .int)) (o:=(oi 0 1)) (len:=l19_m7.length) (k:=.i64) (m:=((l19_m10:Nat):Int)) (nat_nn _) (Nat.lt_of_lt_of_le (getN_lt e44) (Nat.le_of_eq (Eq.symm (Eq.trans (b:=l19_m7.length) rfl (by simp)))))) ?_
     refine rsl (.own (kid (oi 9000 24) l19_m10) .int 0 x44.length) (s_ldM (o:=(oi 0 1)) (p:=(oi 9000 24)) (e1:=23) (u:=.int) (xss:=(l19_m7.set l19_m10 x41).set l26_m12 x39) (row:=x44) (j:=l19_m10) (by kernel_rfl) (by kernel_rfl) e44) ?_
     refine rsB 2 ?_
     refine rnil (tn_ ?_)
     refine wr_ ?_
     refine awp_block_ ?_
     refine awp_loopL h (fun t_ S_=>∃ (l49_m92:Nat),∃ (l49_m7:List (List Int)),t_=(l49_m92,l49_m7)∧S_=⟨mkTm [(0,(ai a0)),(1,(ai a1)),(7,(.own (oi 0 1) (.slice .int) 0 l49_m7.length)),(10,(ai ((l19_m10:Nat):Int))),(11,(ai ((l19_m11:Nat):Int))),(14,(ai y46)),(91,(ai ((x44.length:Nat):Int))),(92,(ai ((l49_m92:Nat):Int)))],mkOb (someL [((oi 0 1),.mat 23 (oi 1 1) .int l49_m7),((oi 1 1),.pool 3 .int l49_m7)]),2⟩) ⟨_,((weak_tm_ 7 (.own (oi 0 1) (.slice .int) 0 l19_m7.length) (.own (oi 0 1) (.slice .int) 0 (((l19_m7.set l19_m10 x41).set l26_m12 x39).length)) (by kernel_rfl) (congrArg (fun z_=>((.own (oi 0 1) (.slice .int) 0 z_):AV)) ((Eq.trans (b:=l19_m7.length) rfl (by simp)):l19_m7.length=((l19_m7.set l19_m10 x41).set l26_m12 x39).length))).trans (weak_ren [((oi 1 1),(oi 9000 24))])),⟨0,(l19_m7.set l19_m10 x41).set l26_m12 x39,rfl,rfl⟩⟩ ?_
     rintro n_ _ _ c_ ⟨l49_m92,l49_m7,rfl,rfl⟩ h hn49
     (try dsimp only at h)
     unfold L_spec_spReduce_l4 at h
     unfold m_spec_spReduce_l4
     refine seqR ?_
     refine awp_seqv_ ?_
     rcases cond_some h with ⟨q52,h⟩ | ⟨q52,h⟩
     ·have q52_:=of_decide_eq_true q52
      refine awp_condT_ q52 ?_
      refine awp_skip_ (tn_ ?_)
      refine wr_ ?_
      refine awp_seqv_ ?_
      refine awp_block_ ?_
      refine seqR ?_
      obtain ⟨x55,e55,h⟩:=ob_some h
      obtain ⟨x56,e56,h⟩:=ob_some h
      obtain ⟨y57,h57,h⟩:=ob_some h
      refine awp_regionD_ 22 ?_
      refine dz0 (.own (oi 0 1) (.slice .int) 0 l49_m7.length) ?_
      refine dz0 (ai ((l19_m10:Nat):Int)) ?_
      refine ds0 (.elt (oi 0 1) l19_m10 0) (zo (t:=(.slice .int)) (o:=(oi 0 1)) (len:=l49_m7.length) (k:=.i64) (m:=((l19_m10:Nat):Int)) (nat_nn _) (getN_lt e55)) ?_
      refine dsl (.own (kid (oi 1 1) l19_m10) .int 0 x55.length) (s_ldM (o:=(oi 0 1)) (p:=(oi 1 1)) (e1:=23) (u:=.int) (xss:=l49_m7) (row:=x55) (j:=l19_m10) (by kernel_rfl) (by kernel_rfl) e55) ?_
      refine dz0 (ai ((l49_m92:Nat):Int)) ?_
      refine dz0 (ai a0) ?_
      refine dz0 (.own (oi 0 1) (.slice .int) 0 l49_m7.length) ?_
      refine dz0 (ai ((l19_m10:Nat):Int)) ?_
      refine ds0 (.elt (oi 0 1) l19_m10 0) (zo (t:=(.slice .int)) (o:=(oi 0 1)) (len:=l49_m7.length) (k:=.i64) (m:=((l19_m10:Nat):Int)) (nat_nn _) (getN_lt e55)) ?_
      refine dsl (.own (kid (oi 1 1) l19_m10) .int 0 x55.length) (s_ldM (o:=(oi 0 1)) (p:=(oi 1 1)) (e1:=23) (u:=.int) (xss:=l49_m7) (row:=x55) (j:=l19_m10) (by kernel_rfl) (by kernel_rfl) e55) ?_
      refine dz0 (ai ((l49_m92:Nat):Int)) ?_
      refine ds0 (.elt (kid (oi 1 1) l19_m10) l49_m92 0) (zo (t:=.int) (o:=(kid (oi 1 1) l19_m10)) (len:=x55.length) (k:=.i64) (m:=((l49_m92:Nat):Int)) (nat_nn _) (getN_lt e56)) ?_
      refine dsl (ai x56) (s_ldE (i:=(kid (oi 1 1) l19_m10)) (j:=l49_m92) (k:=0) (e:=3) (t:=.int) (xs:=x55) (by kernel_rfl) (only1.trans (mkOb_kid (by kernel_rfl) e55)) e56 (by kernel_rfl)) ?_
      refine dz0 (ai y46) ?_
      refine dcall (ai y57) [] [(ai a0),(ai x56),(ai y46)] _ (caps:=[]) (args0:=[(ai a0),(ai x56),(ai y46)]) trivial (by kernel_rfl) (ok_spec_fdMul h57) hb_spec_fdMul ?_
      refine ds0 (.elt (kid (oi 1 1) l19_m10) l49_m92 0) (zo (t:=.int) (o:=(kid (oi 1 1) l19_m10)) (len:=x55.length) (k:=.i64) (m:=((l49_m92:Nat):Int)) (nat_nn _) (getN_lt e56)) ?_
      refine dsn2 (kid (oi 1 1) l19_m10) (kid (oi 1 1) l19_m10) (.arr 3 .int (x55.set l49_m92 y57)) (s_stE (i:=(kid (oi 1 1) l19_m10)) (j:=l49_m92) (k:=0) (e:=3) (t:=.int) (xs:=x55) (cs:=[(ai y57)]) (x1:=y57) (by kernel_rfl) (only1.trans (mkOb_kid (by kernel_rfl) e55)) e56 (by kernel_rfl) (by kernel_rfl)) ?_
      refine xd_ob (ob_row (o:=(oi 0 1)) (p:=(oi 1 1)) (e1:=23) (e:=3) (u:=.int) (xss:=l49_m7) (k:=l19_m10) (row:=x55) (row':=x55.set l49_m92 y57) (by kernel_rfl) rfl (by kernel_rfl) e55 List.length_set) ?_
      refine dnil (badB_spec (by kernel_rfl)) (bn_ (tn_ ?_))
      refine wr_ ?_
      obtain ⟨g58,h⟩:=og_some h
      refine awp_region_ 24 ?_
      refine rs0 (ai ((l49_m92+1:Nat):Int)) (za g58) ?_
      refine rsB 1 ?_
      refine rnil (tn_ ?_)
      obtain rfl:=zj h
      exact ⟨(l49_m92+1,l49_m7.set l19_m10 (x55.set l49_m92 y57)),_,((weak_tm_ 7 (.own (oi 0 1) (.slice .int) 0 l49_m7.length) (.own (oi 0 1) (.slice .int) 0 ((l49_m7.set l19_m10 (x55.set l49_m92 y57)).length)) (by kernel_rfl) (congrArg (fun z_=>((.own (oi 0 1) (.slice .int) 0 z_):AV)) ((Eq.trans (b:=l49_m7.length) rfl List.length_set.symm):l49_m7.length=(l49_m7.set l19_m10 (x55.set l49_m92 y57)).length))).trans (weak_ren [])),⟨l49_m92+1,l49_m7.set l19_m10 (x55.set l49_m92 y57),rfl,rfl⟩,hn49⟩
     have q52_:=of_decide_eq_false q52
     refine awp_condF_ q52 ?_
     refine awp_exit_ (te_ (te_ (be_ (tn_ ?_))))
     obtain rfl:=zj h
     have h:=hn49
     (try dsimp only at h)
     obtain rfl:=zj h
     exact ⟨_,(weak_ren []),rfl⟩
    rintro l47_m7 _ rfl h
    (try dsimp only at h)
    refine awp_seqB h (fun (l59_m7:List (List Int)) S_=>S_=⟨mkTm [(0,(ai a0)),(1,(ai a1)),(7,(.own (oi 0 1) (.slice .int) 0 l59_m7.length)),(10,(ai ((l19_m10:Nat):Int))),(11,(ai ((l19_m11:Nat):Int)))],mkOb (someL [((oi 0 1),.mat 23 (oi 1 1) .int l59_m7),((oi 1 1),.pool 3 .int l59_m7)]),2⟩) ?_ ?_
    ·intro v_ h
     refine seqR ?_
     refine awp_block_ ?_
     refine awp_loopL h (fun t_ S_=>∃ (l61_m114:Nat),∃ (l61_m7:List (List Int)),t_=(l61_m114,l61_m7)∧S_=⟨mkTm [(0,(ai a0)),(1,(ai a1)),(7,(.own (oi 0 1) (.slice .int) 0 l61_m7.length)),(10,(ai ((l19_m10:Nat):Int))),(11,(ai ((l19_m11:Nat):Int))),(113,(ai ((l47_m7.length:Nat):Int))),(114,(ai ((l61_m114:Nat):Int)))],mkOb (someL [((oi 0 1),.mat 23 (oi 1 1) .int l61_m7),((oi 1 1),.pool 3 .int l61_m7)]),2⟩) ⟨_,(weak_ren []),⟨0,l47_m7,rfl,rfl⟩⟩ ?_
     rintro n_ _ _ c_ ⟨l61_m114,l61_m7,rfl,rfl⟩ h hn61
     (try dsimp only at h)
     unfold L_spec_spReduce_l5 at h
     unfold m_spec_spReduce_l5
     refine seqR ?_
     refine awp_seqv_ ?_
     rcases cond_some h with ⟨q64,h⟩ | ⟨q64,h⟩
     ·have q64_:=of_decide_eq_true q64
      refine awp_condT_ q64 ?_
      refine awp_skip_ (tn_ ?_)
      refine wr_ ?_
      refine awp_seqB h (fun (l65_m7:List (List Int)) S_=>S_=⟨mkTm [(0,(ai a0)),(1,(ai a1)),(7,(.own (oi 0 1) (.slice .int) 0 l65_m7.length)),(10,(ai ((l19_m10:Nat):Int))),(11,(ai ((l19_m11:Nat):Int))),(113,(ai ((l47_m7.length:Nat):Int))),(114,(ai ((l61_m114:Nat):Int)))],mkOb (someL [((oi 0 1),.mat 23 (oi 1 1) .int l65_m7),((oi 1 1),.pool 3 .int l65_m7)]),2⟩) ?_ ?_
      ·intro v_ h
       refine awp_block_ ?_
       refine seqR ?_
       refine awp_seqv_ ?_
       refine awp_seqB h (fun (l68_m129:Bool) S_=>S_=⟨mkTm [(0,(ai a0)),(1,(ai a1)),(7,(.own (oi 0 1) (.slice .int) 0 l61_m7.length)),(10,(ai ((l19_m10:Nat):Int))),(11,(ai ((l19_m11:Nat):Int))),(16,(ai ((l61_m114:Nat):Int))),(113,(ai ((l47_m7.length:Nat):Int))),(114,(ai ((l61_m114:Nat):Int))),(129,(.bool l68_m129))],mkOb (someL [((oi 0 1),.mat 23 (oi 1 1) .int l61_m7),((oi 1 1),.pool 3 .int l61_m7)]),2⟩) ?_ ?_
       ·intro v_ h
        rcases cond_some h with ⟨q69,h⟩ | ⟨q69,h⟩
        ·refine awp_region_ 18 ?_
         refine rz0 (ai ((l61_m114:Nat):Int)) ?_
         refine rz0 (ai ((l19_m10:Nat):Int)) ?_
         refine rz0 (.bool (((l61_m114:Nat):Int)==((l19_m10:Nat):Int))) ?_
         refine rz0 (.bool (((l61_m114:Nat):Int)==((l19_m10:Nat):Int))) ?_
         refine zs q69 ?_
         refine zs q69 ?_
         refine zs q69 ?_
         refine zs q69 ?_
         refine zs q69 ?_
         refine zs q69 ?_
         refine zs q69 ?_
         refine zs q69 ?_
         refine rs0 (.bool true) (zT q69) ?_
         refine rnil (tn_ ?_)
         obtain rfl:=zj h
         exact ⟨_,(weak_ren []),rfl⟩
        obtain ⟨x70,e70,h⟩:=ob_some h
        obtain ⟨x71,e71,h⟩:=ob_some h
        refine awp_region_ 18 ?_
        refine rz0 (ai ((l61_m114:Nat):Int)) ?_
        refine rz0 (ai ((l19_m10:Nat):Int)) ?_
        refine rz0 (.bool (((l61_m114:Nat):Int)==((l19_m10:Nat):Int))) ?_
        refine rz0 (.bool (((l61_m114:Nat):Int)==((l19_m10:Nat):Int))) ?_
        refine rs0 (.own (oi 0 1) (.slice .int) 0 l61_m7.length) (zg q69) ?_
        refine rs0 (ai ((l61_m114:Nat):Int)) (zg q69) ?_
        refine rs0 (.elt (oi 0 1) l61_m114 0) (s_gd (by kernel_rfl) q69 (zo (t:=(.slice .int)) (o:=(oi 0 1)) (len:=l61_m7.length) (k:=.i64) (m:=((l61_m114:Nat):Int)) (nat_nn _) (getN_lt e70))) ?_
        refine rsl (.own (kid (oi 1 1) l61_m114) .int 0 x70.length) (s_gd (by kernel_rfl) q69 (s_ldM (o:=(oi 0 1)) (p:=(oi 1 1)) (e1:=23) (u:=.int) (xss:=l61_m7) (row:=x70) (j:=l61_m114) (by kernel_rfl) (by kernel_rfl) e70)) ?_
        refine rs0 (ai ((l19_m11:Nat):Int)) (zg q69) ?_
        refine rs0 (.elt (kid (oi 1 1) l61_m114) l19_m11 0) (s_gd (by kernel_rfl) q69 (zo (t:=.int) (o:=(kid (oi 1 1) l61_m114)) (len:=x70.length) (k:=.i64) (m:=((l19_m11:Nat):Int)) (nat_nn _) (getN_lt e71))) ?_
        refine rsl (ai x71) (s_gd (by kernel_rfl) q69 (s_ldE (i:=(kid (oi 1 1) l61_m114)) (j:=l19_m11) (k:=0) (e:=3) (t:=.int) (xs:=x70) (by kernel_rfl) (mkOb_kid (by kernel_rfl) e70) e71 (by kernel_rfl))) ?_
        refine rs0 (.bool (x71==0)) (zg q69) ?_
        refine rs0 (.bool (x71==0)) (zF q69) ?_
        refine rnil (tn_ ?_)
        obtain rfl:=zj h
        exact ⟨_,(weak_ren []),rfl⟩
       rintro l68_m129 _ rfl h
       (try dsimp only at h)
       rcases cond_some h with ⟨q72,h⟩ | ⟨q72,h⟩
       ·refine awp_condT_ q72 ?_
        refine awp_exit_ (te_ (be_ (tn_ ?_)))
        obtain rfl:=zj h
        exact ⟨_,(weak_ren []),rfl⟩
       refine awp_condF_ q72 ?_
       refine awp_skip_ (tn_ ?_)
       refine wr_ ?_
       refine awp_seqv_ ?_
       obtain ⟨x74,e74,h⟩:=ob_some h
       obtain ⟨x75,e75,h⟩:=ob_some h
       refine awp_region_ 10 ?_
       refine rz0 (.own (oi 0 1) (.slice .int) 0 l61_m7.length) ?_
       refine rz0 (ai ((l61_m114:Nat):Int)) ?_
       refine rs0 (.elt (oi 0 1) l61_m114 0) (zo (t:=(.slice .int)) (o:=(oi 0 1)) (len:=l61_m7.length) (k:=.i64) (m:=((l61_m114:Nat):Int)) (nat_nn _) (getN_lt e74)) ?_
       refine rsl (.own (kid (oi 1 1) l61_m114) .int 0 x74.length) (s_ldM (o:=(oi 0 1)) (p:=(oi 1 1)) (e1:=23) (u:=.int) (xss:=l61_m7) (row:=x74) (j:=l61_m114) (by kernel_rfl) (by kernel_rfl) e74) ?_
       refine rz0 (ai ((l19_m11:Nat):Int)) ?_
       refine rs0 (.elt (kid (oi 1 1) l61_m114) l19_m11 0) (zo (t:=.int) (o:=(kid (oi 1 1) l61_m114)) (len:=x74.length) (k:=.i64) (m:=((l19_m11:Nat):Int)) (nat_nn _) (getN_lt e75)) ?_
       refine rsl (ai x75) (s_ldE (i:=(kid (oi 1 1) l61_m114)) (j:=l19_m11) (k:=0) (e:=3) (t:=.int) (xs:=x74) (by kernel_rfl) (mkOb_kid (by kernel_rfl) e74) e75 (by kernel_rfl)) ?_
       refine rsB 1 ?_
       refine rnil (tn_ ?_)
       refine wr_ ?_
       refine awp_seqv_ ?_
       refine awp_region_ 16 ?_
       refine rz0 (.own (oi 0 1) (.slice .int) 0 l61_m7.length) ?_
       refine rz0 (ai ((l61_m114:Nat):Int)) ?_
       refine rs0 (.elt (oi 0 1) l61_m114 0) (zo (t:=(.slice .int)) (o:=(oi 0 1)) (len:=l61_m7.length) (k:=.i64) (m:=((l61_m114:Nat):Int)) (nat_nn _) (getN_lt e74)) ?_
       refine rsl (.own (kid (oi 1 1) l61_m114) .int 0 x74.length) (s_ldM (o:=(oi 0 1)) (p:=(oi 1 1)) (e1:=23) (u:=.int) (xss:=l61_m7) (row:=x74) (j:=l61_m114) (by kernel_rfl) (by kernel_rfl) e74) ?_
       refine rsB 2 ?_
       refine rnil (tn_ ?_)
       refine wr_ ?_
       refine awp_block_ ?_
       refine awp_loopL h (fun t_ S_=>∃ (l77_m142:Nat),∃ (l77_m7:List (List Int)),t_=(l77_m142,l77_m7)∧S_=⟨mkTm [(0,(ai a0)),(1,(ai a1)),(7,(.own (oi 0 1) (.slice .int) 0 l77_m7.length)),(10,(ai ((l19_m10:Nat):Int))),(11,(ai ((l19_m11:Nat):Int))),(16,(ai ((l61_m114:Nat):Int))),(17,(ai x75)),(113,(ai ((l47_m7.length:Nat):Int))),(114,(ai ((l61_m114:Nat):Int))),(141,(ai ((x74.length:Nat):Int))),(142,(ai ((l77_m142:Nat):Int)))],mkOb (someL [((oi 0 1),.mat 23 (oi 1 1) .int l77_m7),((oi 1 1),.pool 3 .int l77_m7)]),2⟩) ⟨_,(weak_ren []),⟨0,l61_m7,rfl,rfl⟩⟩ ?_
       rintro n_ _ _ c_ ⟨l77_m142,l77_m7,rfl,rfl⟩ h hn77
       (try dsimp only at h)
       unfold L_spec_spReduce_l6 at h
       unfold m_spec_spReduce_l6
       refine seqR ?_
       refine awp_seqv_ ?_
       rcases cond_some h with ⟨q80,h⟩ | ⟨q80,h⟩
       ·have q80_:=of_decide_eq_true q80
        refine awp_condT_ q80 ?_
        refine awp_skip_ (tn_ ?_)
        refine wr_ ?_
        refine awp_seqv_ ?_
        refine awp_block_ ?_
        refine seqR ?_
        obtain ⟨x83,e83,h⟩:=ob_some h
        obtain ⟨x84,e84,h⟩:=ob_some h
        obtain ⟨x85,e85,h⟩:=ob_some h
        obtain ⟨x86,e86,h⟩:=ob_some h
        obtain ⟨y87,h87,h⟩:=ob_some h
        obtain ⟨y88,h88,h⟩:=ob_some h
        refine awp_regionD_ 31 ?_
        refine dz0 (.own (oi 0 1) (.slice .int) 0 l77_m7.length) ?_
        refine dz0 (ai ((l61_m114:Nat):Int)) ?_
        refine ds0 (.elt (oi 0 1) l61_m114 0) (zo (t:=(.slice .int)) (o:=(oi 0 1)) (len:=l77_m7.length) (k:=.i64) (m:=((l61_m114:Nat):Int)) (nat_nn _) (getN_lt e83)) ?_
        refine dsl (.own (kid (oi 1 1) l61_m114) .int 0 x83.length) (s_ldM (o:=(oi 0 1)) (p:=(oi 1 1)) (e1:=23) (u:=.int) (xss:=l77_m7) (row:=x83) (j:=l61_m114) (by kernel_rfl) (by kernel_rfl) e83) ?_
        refine dz0 (ai ((l77_m142:Nat):Int)) ?_
        refine dz0 (ai a0) ?_
        refine dz0 (.own (oi 0 1) (.slice .int) 0 l77_m7.length) ?_
        refine dz0 (ai ((l61_m114:Nat):Int)) ?_
        refine ds0 (.elt (oi 0 1) l61_m114 0) (zo (t:=(.slice .int)) (o:=(oi 0 1)) (len:=l77_m7.length) (k:=.i64) (m:=((l61_m114:Nat):Int)) (nat_nn _) (getN_lt e83)) ?_
        refine dsl (.own (kid (oi 1 1) l61_m114) .int 0 x83.length) (s_ldM (o:=(oi 0 1)) (p:=(oi 1 1)) (e1:=23) (u:=.int) (xss:=l77_m7) (row:=x83) (j:=l61_m114) (by kernel_rfl) (by kernel_rfl) e83) ?_
        refine dz0 (ai ((l77_m142:Nat):Int)) ?_
        refine ds0 (.elt (kid (oi 1 1) l61_m114) l77_m142 0) (zo (t:=.int) (o:=(kid (oi 1 1) l61_m114)) (len:=x83.length) (k:=.i64) (m:=((l77_m142:Nat):Int)) (nat_nn _) (getN_lt e84)) ?_
        refine dsl (ai x84) (s_ldE (i:=(kid (oi 1 1) l61_m114)) (j:=l77_m142) (k:=0) (e:=3) (t:=.int) (xs:=x83) (by kernel_rfl) (only1.trans (mkOb_kid (by kernel_rfl) e83)) e84 (by kernel_rfl)) ?_
        refine dz0 (ai a0) ?_
        refine dz0 (ai x75) ?_
        refine dz0 (.own (oi 0 1) (.slice .int) 0 l77_m7.length) ?_
        refine dz0 (ai ((l19_m10:Nat):Int)) ?_
        refine ds0 (.elt (oi 0 1) l19_m10 0) (zo (t:=(.slice .int)) (o:=(oi 0 1)) (len:=l77_m7.length) (k:=.i64) (m:=((l19_m10:Nat):Int)) (nat_nn _) (getN_lt e85)) ?_
        refine dsl (.own (kid (oi 1 1) l19_m10) .int 0 x85.length) (s_ldM (o:=(oi 0 1)) (p:=(oi 1 1)) (e1:=23) (u:=.int) (xss:=l77_m7) (row:=x85) (j:=l19_m10) (by kernel_rfl) (by kernel_rfl) e85) ?_
        refine dz0 (ai ((l77_m142:Nat):Int)) ?_
        refine ds0 (.elt (kid (oi 1 1) l19_m10) l77_m142 0) (zo (t:=.int) (o:=(kid (oi 1 1) l19_m10)) (len:=x85.length) (k:=.i64) (m:=((l77_m142:Nat):Int)) (nat_nn _) (getN_lt e86)) ?_
        refine dsl (ai x86) (s_ldE (i:=(kid (oi 1 1) l19_m10)) (j:=l77_m142) (k:=0) (e:=3) (t:=.int) (xs:=x85) (by kernel_rfl) (only1.trans (mkOb_kid (by kernel_rfl) e85)) e86 (by kernel_rfl)) ?_
        refine dcall (ai y87) [] [(ai a0),(ai x75),(ai x86)] _ (caps:=[]) (args0:=[(ai a0),(ai x75),(ai x86)]) trivial (by kernel_rfl) (ok_spec_fdMul h87) hb_spec_fdMul ?_
        refine dcall (ai y88) [] [(ai a0),(ai x84),(ai y87)] _ (caps:=[]) (args0:=[(ai a0),(ai x84),(ai y87)]) trivial (by kernel_rfl) (ok_spec_fdSub h88) hb_spec_fdSub ?_
        refine ds0 (.elt (kid (oi 1 1) l61_m114) l77_m142 0) (zo (t:=.int) (o:=(kid (oi 1 1) l61_m114)) (len:=x83.length) (k:=.i64) (m:=((l77_m142:Nat):Int)) (nat_nn _) (getN_lt e84)) ?_
        refine dsn2 (kid (oi 1 1) l61_m114) (kid (oi 1 1) l61_m114) (.arr 3 .int (x83.set l77_m142 y88)) (s_stE (i:=(kid (oi 1 1) l61_m114)) (j:=l77_m142) (k:=0) (e:=3) (t:=.int) (xs:=x83) (cs:=[(ai y88)]) (x1:=y88) (by kernel_rfl) (only1.trans (mkOb_kid (by kernel_rfl) e83)) e84 (by kernel_rfl) (by kernel_rfl)) ?_
        refine xd_ob (ob_row (o:=(oi 0 1)) (p:=(oi 1 1)) (e1:=23) (e:=3) (u:=.int) (xss:=l77_m7) (k:=l61_m114) (row:=x83) (row':=x83.set l77_m142 y88) (by kernel_rfl) rfl (by kernel_rfl) e83 List.length_set) ?_
        refine dnil (badB_spec (by kernel_rfl)) (bn_ (tn_ ?_))
        refine wr_ ?_
        obtain ⟨g89,h⟩:=og_some h
        refine awp_region_ 33 ?_
        refine rs0 (ai ((l77_m142+1:Nat):Int)) (za g89) ?_
        refine rsB 1 ?_
        refine rnil (tn_ ?_)
        obtain rfl:=zj h
        exact ⟨(l77_m142+1,l77_m7.set l61_m114 (x83.set l77_m142 y88)),_,((weak_tm_ 7 (.own (oi 0 1) (.slice .int) 0 l77_m7.length) (.own (oi 0 1) (.slice .int) 0 ((l77_m7.set l61_m114 (x83.set l77_m142 y88)).length)) (by kernel_rfl) (congrArg (fun z_=>((.own (oi 0 1) (.slice .int) 0 z_):AV)) ((Eq.trans (b:=l77_m7.length) rfl List.length_set.symm):l77_m7.length=(l77_m7.set l61_m114 (x83.set l77_m142 y88)).length))).trans (weak_ren [])),⟨l77_m142+1,l77_m7.set l61_m114 (x83.set l77_m142 y88),rfl,rfl⟩,hn77⟩
       have q80_:=of_decide_eq_false q80
       refine awp_condF_ q80 ?_
       refine awp_exit_ (te_ (te_ (be_ (bn_ (tn_ ?_)))))
       obtain rfl:=zj h
       have h:=hn77
       (try dsimp only at h)
       obtain rfl:=zj h
       exact ⟨_,(weak_ren []),rfl⟩
      rintro l65_m7 _ rfl h
      (try dsimp only at h)
      obtain ⟨g90,h⟩:=og_some h
      refine awp_region_ 4 ?_
      refine rs0 (ai ((l61_m114+1:Nat):Int)) (za g90) ?_
      refine rsB 1 ?_
      refine rnil (tn_ ?_)
      obtain rfl:=zj h
      exact ⟨(l61_m114+1,l65_m7),_,(weak_ren []),⟨l61_m114+1,l65_m7,rfl,rfl⟩,hn61⟩
     have q64_:=of_decide_eq_false q64
     refine awp_condF_ q64 ?_
     refine awp_exit_ (te_ (te_ (be_ (tn_ ?_))))
     obtain rfl:=zj h
     have h:=hn61
     (try dsimp only at h)
     obtain rfl:=zj h
     exact ⟨_,(weak_ren []),rfl⟩
    rintro l59_m7 _ rfl h
    (try dsimp only at h)
    obtain ⟨g91,h⟩:=og_some h
    refine awp_region_ 5 ?_
    refine rz0 (ai ((l19_m10:Nat):Int)) ?_
    refine rs0 (ai ((l19_m10+1:Nat):Int)) (za g91) ?_
    refine rsB 1 ?_
    refine rnil (bn_ (tn_ ?_))
    obtain rfl:=zj h
    exact ⟨_,(weak_ren []),⟨l19_m10+1,l59_m7,rfl,rfl⟩⟩
   rintro _ _ ⟨l24_m10,l24_m7,rfl,rfl⟩ h
   (try dsimp only at h)
   obtain ⟨g92,h⟩:=og_some h
   refine awp_region_ 5 ?_
   refine rz0 (ai ((l19_m11:Nat):Int)) ?_
   refine rs0 (ai ((l19_m11+1:Nat):Int)) (za g92) ?_
   refine rsB 1 ?_
   refine rnil (tn_ ?_)
   obtain rfl:=zj h
   exact ⟨(l24_m10,l19_m11+1,l24_m7),_,(weak_ren []),⟨l24_m10,l19_m11+1,l24_m7,rfl,rfl⟩,hn19⟩
  refine awp_condF_ q23 ?_
  refine awp_exit_ (te_ (te_ (be_ (tn_ ?_))))
  obtain rfl:=zj h
  have h:=hn19
  (try dsimp only at h)
  obtain rfl:=zj h
  exact ⟨_,(weak_ren []),⟨l19_m10,l19_m7,rfl,rfl⟩⟩
 rintro _ _ ⟨l17_m10,l17_m7,rfl,rfl⟩ h
 (try dsimp only at h)
 refine awp_seqv_ ?_
 obtain ⟨g94,h⟩:=og_some h
 refine awp_region_ 6 ?_
 refine rz0 (.own (oi 0 1) (.slice .int) 0 l17_m7.length) ?_
 refine rz0 (ai ((l17_m10:Nat):Int)) ?_
 refine rs0 (.own (oi 0 1) (.slice .int) 0 l17_m10) (s_sliceO (t:=(.slice .int)) (i:=(oi 0 1)) (off:=0) (len:=l17_m7.length) (l:=0) (h:=((l17_m10:Nat):Int)) (by kernel_rfl) (by kernel_rfl) (by kernel_rfl) rfl g94 rfl (by omega)) ?_
 refine rsB 1 ?_
 refine rnil (tn_ ?_)
 refine wr_ ?_
 refine awp_ret_ ?_
 obtain rfl:=zj h
 exact retM_ [(.own (oi 0 1) (.slice .int) 0 ((l17_m7.take l17_m10).length))] ((weak_cutM_ (e1:=23) (e:=3) (u:=.int) (xss:=l17_m7) (n:=l17_m7.length) (k:=l17_m10) 9000 (oi 0 1) (oi 1 1) (by kernel_rfl) (by kernel_rfl) rfl (by kernel_rfl) (by omega) (by kernel_rfl) (by kernel_rfl) (by kernel_rfl)).trans ((weak_tm_ 6 (.own (oi 0 1) (.slice .int) 0 l17_m10) (.own (oi 0 1) (.slice .int) 0 ((l17_m7.take l17_m10).length)) (by kernel_rfl) (congrArg (fun z_=>((.own (oi 0 1) (.slice .int) 0 z_):AV)) ((cut_len (by omega)):l17_m10=(l17_m7.take l17_m10).length))).trans (weak_ren (tl:=[(6,(.own (oi 0 1) (.slice .int) 0 (l17_m7.take l17_m10).length))]) (g:=2) [((oi 1 1),(oi 9000 6))])))
def m_impl_power_l1:AC :=
 (.seq (.seq (rg [xo 10 (qm (tm 2)),xo 11 (qb .gtr (tm 10) (ci 0))])
 (.cond (tm 11)
  .skip
  (.exit 0)))
 (.seq (.block 1 (.seq (.seq (rg [xo 14 (qm (tm 2)),xo 15 (qb .rem (tm 14) (ci 2)),xo 16 (qb .eql (tm 15) (ci 1))])
 (.cond (tm 16)
  (rg [xo 17 (qm (tm 7)),xo 18 (qm (tm 1)),xo 19 (qb .mul (tm 17) (tm 18)),xo 20 (qm (tm 0)),xo 21 (qb .rem (tm 19) (tm 20)),xo 7 (qm (tm 21))])
  .skip))
 (rg [xo 22 (qm (tm 1)),xo 23 (qm (tm 1)),xo 24 (qb .mul (tm 22) (tm 23)),xo 25 (qm (tm 0)),xo 26 (qb .rem (tm 24) (tm 25)),xo 1 (qm (tm 26))])))
 (rg [xo 12 (qm (tm 2)),xo 13 (qb .quo (tm 12) (ci 2)),xo 2 (qm (tm 13))])))
def m_impl_power:AC :=
 (.seq (rg [xo 6 (qm (ci 0))])
 (.seq (rg [xo 8 (qm (tm 0)),xo 9 (qb .rem (ci 1) (tm 8)),xo 7 (qm (tm 9))])
 (.seq (.block 0 (.loop m_impl_power_l1))
 (.seq (rg [xo 27 (qm (tm 7)),xo 6 (qm (tm 27))])
 .ret))))
def r_impl_power:List Res:=[.tmp 6]
theorem c_impl_power:compiled Tryd.prog Tryd.f96=some (m_impl_power,r_impl_power):=by kernel_rfl
def L_impl_power_l1 (a0:Int) (l5_m1:Int) (l5_m2:Int) (l5_m7:Int):Option (Ctl (Int×Int×Int) Int) :=
 cond (decide (0<l5_m2))
 (Option.bind (cond ((Int.tmod l5_m2 2)==1)
   (og (a0≠0) <|
   some (Int.tmod (IntKind.i64.wrap (l5_m7*l5_m1)) a0))
   (some l5_m7)) fun l10_m7 =>
 og (a0≠0) <|
 some (Ctl.next (Int.tmod (IntKind.i64.wrap (l5_m1*l5_m1)) a0,IntKind.i64.wrap (Int.tdiv l5_m2 2),l10_m7)))
 (some (Ctl.out l5_m7))
def L_impl_power (a0:Int) (a1:Int) (a2:Int):Option Int :=
 og (a0≠0) <|
Option.bind (loopM (fun s_:Int×Int×Int=>L_impl_power_l1 a0 s_.1 s_.2.1 s_.2.2) 4611686018427387904 (a1,a2,Int.tmod 1 a0)) fun l4_m7 =>
some l4_m7
def rv_impl_power (r:Int):RV:=⟨false,[(false,[.sc (.int .i64 r)])]⟩
theorem ok_impl_power {a0:Int} {a1:Int} {a2:Int} {r:Int} (h:L_impl_power a0 a1 a2=some r):CallOK Tryd.prog Tab 96 [(ai a0),(ai a1),(ai a2)] (rv_impl_power r):=by
 refine call_of_ (by kernel_rfl) Tryd.func96 c_impl_power (n:=28) (by kernel_rfl) (by simp) (tl:=[(0,(ai a0)),(1,(ai a1)),(2,(ai a2))]) rfl ?_
 unfold m_impl_power
 unfold L_impl_power at h
 refine seqR ?_
 refine awp_seqv_ ?_
 obtain ⟨g3,h⟩:=og_some h
 refine awp_region_ 5 ?_
 refine rz0 (ai a0) ?_
 refine rs0 (ai (Int.tmod 1 a0)) (s_rem (k:=.i64) (a:=1) (b:=a0) (by kernel_rfl) (by kernel_rfl) g3) ?_
 refine rsB 1 ?_
 refine rnil (tn_ ?_)
 refine wr_ ?_
 refine awp_seqB h (fun (l4_m7:Int) S_=>S_=⟨mkTm [(7,(ai l4_m7))],mkOb (someL []),2⟩) ?_ ?_
 ·intro v_ h
  refine awp_block_ ?_
  refine awp_loopL h (fun t_ S_=>∃ (l5_m1:Int),∃ (l5_m2:Int),∃ (l5_m7:Int),t_=(l5_m1,l5_m2,l5_m7)∧S_=⟨mkTm [(0,(ai a0)),(1,(ai l5_m1)),(2,(ai l5_m2)),(7,(ai l5_m7))],mkOb (someL []),2⟩) ⟨_,(weak_ren []),⟨a1,a2,Int.tmod 1 a0,rfl,rfl⟩⟩ ?_
  rintro n_ _ _ c_ ⟨l5_m1,l5_m2,l5_m7,rfl,rfl⟩ h hn5
  (try dsimp only at h)
  unfold L_impl_power_l1 at h
  unfold m_impl_power_l1
  refine awp_seqv_ ?_
  refine seqR ?_
  rcases cond_some h with ⟨q8,h⟩ | ⟨q8,h⟩
  ·have q8_:=of_decide_eq_true q8
   refine awp_condT_ q8 ?_
   refine awp_skip_ (tn_ ?_)
   refine wr_ ?_
   refine awp_seqv_ ?_
   refine awp_block_ ?_
   refine awp_seqB h (fun (l10_m7:Int) S_=>S_=⟨mkTm [(0,(ai a0)),(1,(ai l5_m1)),(2,(ai l5_m2)),(7,(ai l10_m7))],mkOb (someL []),2⟩) ?_ ?_
   ·intro v_ h
    refine awp_seqv_ ?_
    refine awp_region_ 7 ?_
    refine rz0 (ai l5_m2) ?_
    refine rs0 (ai (Int.tmod l5_m2 2)) (s_rem (k:=.i64) (a:=l5_m2) (b:=2) (by kernel_rfl) (by kernel_rfl) (by decide)) ?_
    refine rsB 1 ?_
    refine rnil (tn_ ?_)
    refine wr_ ?_
    rcases cond_some h with ⟨q12,h⟩ | ⟨q12,h⟩
    ·refine awp_condT_ q12 ?_
     obtain ⟨g13,h⟩:=og_some h
     refine awp_region_ 13 ?_
     refine rz0 (ai l5_m7) ?_
     refine rz0 (ai l5_m1) ?_
     refine rz0 (ai (IntKind.i64.wrap (l5_m7*l5_m1))) ?_
     refine rz0 (ai a0) ?_
     refine rs0 (ai (Int.tmod (IntKind.i64.wrap (l5_m7*l5_m1)) a0)) (s_rem (k:=.i64) (a:=IntKind.i64.wrap (l5_m7*l5_m1)) (b:=a0) (by kernel_rfl) (by kernel_rfl) g13) ?_
     refine rsB 1 ?_
     refine rnil (tn_ ?_)
     obtain rfl:=zj h
     exact ⟨_,(weak_ren []),rfl⟩
    refine awp_condF_ q12 ?_
    refine awp_skip_ (tn_ ?_)
    obtain rfl:=zj h
    exact ⟨_,(weak_ren []),rfl⟩
   rintro l10_m7 _ rfl h
   (try dsimp only at h)
   obtain ⟨g14,h⟩:=og_some h
   refine awp_region_ 8 ?_
   refine rz0 (ai l5_m1) ?_
   refine rz0 (ai l5_m1) ?_
   refine rz0 (ai (IntKind.i64.wrap (l5_m1*l5_m1))) ?_
   refine rz0 (ai a0) ?_
   refine rs0 (ai (Int.tmod (IntKind.i64.wrap (l5_m1*l5_m1)) a0)) (s_rem (k:=.i64) (a:=IntKind.i64.wrap (l5_m1*l5_m1)) (b:=a0) (by kernel_rfl) (by kernel_rfl) g14) ?_
   refine rsB 1 ?_
   refine rnil (bn_ (tn_ ?_))
   refine wr_ ?_
   refine awp_region_ 11 ?_
   refine rz0 (ai l5_m2) ?_
   refine rs0 (ai (IntKind.i64.wrap (Int.tdiv l5_m2 2))) (s_quo (k:=.i64) (a:=l5_m2) (b:=2) (by kernel_rfl) (by kernel_rfl) (by decide)) ?_
   refine rsB 1 ?_
   refine rnil (tn_ ?_)
   obtain rfl:=zj h
   exact ⟨(Int.tmod (IntKind.i64.wrap (l5_m1*l5_m1)) a0,IntKind.i64.wrap (Int.tdiv l5_m2 2),l10_m7),_,(weak_ren []),⟨Int.tmod (IntKind.i64.wrap (l5_m1*l5_m1)) a0,IntKind.i64.wrap (Int.tdiv l5_m2 2),l10_m7,rfl,rfl⟩,hn5⟩
  have q8_:=of_decide_eq_false q8
  refine awp_condF_ q8 ?_
  refine awp_exit_ (te_ (te_ (be_ (tn_ ?_))))
  obtain rfl:=zj h
  have h:=hn5
  (try dsimp only at h)
  obtain rfl:=zj h
  exact ⟨_,(weak_ren []),rfl⟩
 rintro l4_m7 _ rfl h
 (try dsimp only at h)
 refine seqR ?_
 refine awp_ret_ ?_
 obtain rfl:=zj h
 exact ret_ [(ai l4_m7)] (p_one rfl zl p_nil)
def m_impl_bit:AC :=
 (.seq (rg [xo 2 (qm (ci 0))])
 (.seq (.seq (rg [xo 3 (qm (tm 0))])
 (.cond (tm 3)
  (.seq (rg [xo 2 (qm (ci 1))])
  .ret)
  .skip))
 (.seq (rg [xo 2 (qm (ci 0))])
 .ret)))
def r_impl_bit:List Res:=[.tmp 2]
theorem c_impl_bit:compiled Tryd.prog Tryd.f97=some (m_impl_bit,r_impl_bit):=by kernel_rfl
def L_impl_bit (a0:Bool):Option Int :=
 cond a0
 (some 1)
 (some 0)
def rv_impl_bit (r:Int):RV:=⟨false,[(false,[.sc (.int .i64 r)])]⟩
theorem ok_impl_bit {a0:Bool} {r:Int} (h:L_impl_bit a0=some r):CallOK Tryd.prog Tab 97 [(.bool a0)] (rv_impl_bit r):=by
 refine call_of_ (by kernel_rfl) Tryd.func97 c_impl_bit (n:=4) (by kernel_rfl) (by simp) (tl:=[(0,(.bool a0))]) rfl ?_
 unfold m_impl_bit
 unfold L_impl_bit at h
 refine seqR ?_
 refine awp_seqv_ ?_
 refine seqR ?_
 rcases cond_some h with ⟨q4,h⟩ | ⟨q4,h⟩
 ·refine awp_condT_ q4 ?_
  refine seqR ?_
  refine awp_ret_ (tr_ ?_)
  obtain rfl:=zj h
  exact ret_ [(ai 1)] (p_one rfl zl p_nil)
 refine awp_condF_ q4 ?_
 refine awp_skip_ (tn_ ?_)
 refine wr_ ?_
 refine seqR ?_
 refine awp_ret_ ?_
 obtain rfl:=zj h
 exact ret_ [(ai 0)] (p_one rfl zl p_nil)
def m_impl_inverse:AC :=
 (.seq (rg [xo 4 (qm (ci 0))])
 (.seq (rg [xo 5 (qm (tm 0)),xo 6 (qm (tm 1)),xo 7 (qm (tm 0)),xo 8 (qb .sub (tm 7) (ci 2)),xo 9 (qm (tm 0)),xo 10 (qb .eql (tm 9) (ci 2)),xo 11 (qc 97 [(tm 10)] [[]]),xo 12 (qb .add (tm 8) (tm 11)),xo 13 (qc 96 [(tm 5),(tm 6),(tm 12)] [[],[],[]]),xo 4 (qm (tm 13))])
 .ret))
def r_impl_inverse:List Res:=[.tmp 4]
theorem c_impl_inverse:compiled Tryd.prog Tryd.f94=some (m_impl_inverse,r_impl_inverse):=by kernel_rfl
def L_impl_inverse (a0:Int) (a1:Int):Option Int :=
 Option.bind (L_impl_bit (a0==2)) fun y3 =>
Option.bind (L_impl_power a0 a1 (IntKind.i64.wrap (IntKind.i64.wrap (a0 - 2)+y3))) fun y4 =>
some y4
def rv_impl_inverse (r:Int):RV:=⟨false,[(false,[.sc (.int .i64 r)])]⟩
theorem ok_impl_inverse {a0:Int} {a1:Int} {r:Int} (h:L_impl_inverse a0 a1=some r):CallOK Tryd.prog Tab 94 [(ai a0),(ai a1)] (rv_impl_inverse r):=by
 refine call_of_ (by kernel_rfl) Tryd.func94 c_impl_inverse (n:=14) (by kernel_rfl) (by simp) (tl:=[(0,(ai a0)),(1,(ai a1))]) rfl ?_
 unfold m_impl_inverse
 unfold L_impl_inverse at h
 refine seqR ?_
 refine awp_seqv_ ?_
 obtain ⟨y3,h3,h⟩:=ob_some h
 obtain ⟨y4,h4,h⟩:=ob_some h
 refine awp_region_ 12 ?_
 refine rz0 (ai a0) ?_
 refine rz0 (ai a1) ?_
 refine rz0 (ai a0) ?_
 refine rz0 (ai (IntKind.i64.wrap (a0 - 2))) ?_
 refine rz0 (ai a0) ?_
 refine rz0 (.bool (a0==2)) ?_
 refine zc (ai y3) [] [(.bool (a0==2))] (ok_impl_bit h3) ?_
 refine rz0 (ai (IntKind.i64.wrap (IntKind.i64.wrap (a0 - 2)+y3))) ?_
 refine zc (ai y4) [] [(ai a0),(ai a1),(ai (IntKind.i64.wrap (IntKind.i64.wrap (a0 - 2)+y3)))] (ok_impl_power h4) ?_
 refine rsB 1 ?_
 refine rnil (tn_ ?_)
 refine wr_ ?_
 refine awp_ret_ ?_
 obtain rfl:=zj h
 exact ret_ [(ai y4)] (p_one rfl zl p_nil)
def m_impl_addTimes_l1:AC :=
 (.seq (rg [xo 13 (qb .lss (tm 12) (tm 11))])
 (.seq (.cond (tm 13)
  .skip
  (.exit 0))
 (.seq (.block 1 (.seq (rg [xo 14 (qm (tm 12)),xo 15 (qx 1 (tm 10) (tm 12)),xo 16 (ql (tm 15)),xo 8 (qm (tm 14)),xo 9 (qm (tm 16))])
 (rg [xo 17 (qm (tm 1)),xo 18 (qm (tm 8)),xo 19 (qm (tm 0)),xo 20 (qm (tm 1)),xo 21 (qm (tm 8)),xo 22 (qx 1 (tm 20) (tm 21)),xo 23 (ql (tm 22)),xo 24 (qm (tm 2)),xo 25 (qm (tm 9)),xo 26 (qb .mul (tm 24) (tm 25)),xo 27 (qb .add (tm 23) (tm 26)),xo 28 (qc 50 [(tm 19),(tm 27)] [[],[]]),xo 29 (qx 1 (tm 17) (tm 18)),xn (qs (tm 29) (tm 28))])))
 (rg [xo 30 (qb .add (tm 12) (ci 1)),xo 12 (qm (tm 30))]))))
def m_impl_addTimes:AC :=
 (.seq (rg [xo 10 (qm (tm 3)),xo 11 (.i (.len (tm 10))),xo 12 (qm (ci 0))])
 (.block 0 (.loop m_impl_addTimes_l1)))
def r_impl_addTimes:List Res:=[]
theorem c_impl_addTimes:compiled Tryd.prog Tryd.f95=some (m_impl_addTimes,r_impl_addTimes):=by kernel_rfl
theorem hb_impl_addTimes:hasBody Tryd.prog 95=true:=by kernel_rfl
def L_impl_addTimes_l1 (a3:List Int) (a0:Int) (a2:Int) (l3_m12:Nat) (l3_m1:List Int):Option (Ctl (Nat×List Int) (List Int)) :=
 cond (decide (((l3_m12:Nat):Int)<((a3.length:Nat):Int)))
 (Option.bind (a3[l3_m12]?) fun x9 =>
 Option.bind (l3_m1[l3_m12]?) fun x10 =>
 Option.bind (L_impl_mod a0 (IntKind.i64.wrap (x10+IntKind.i64.wrap (a2*x9)))) fun y11 =>
 og (l3_m12+1<4611686018427387904) <|
 some (Ctl.next (l3_m12+1,l3_m1.set l3_m12 y11)))
 (some (Ctl.out l3_m1))
def L_impl_addTimes (a0:Int) (a1:List Int) (a2:Int) (a3:List Int):Option (List Int) :=
 loopM (fun s_:Nat×List Int=>L_impl_addTimes_l1 a3 a0 a2 s_.1 s_.2) 4611686018427387904 (0,a1)
theorem ok_impl_addTimes {a0:Int} {a1:List Int} {a2:Int} {a3:List Int} {r:List Int} (h:L_impl_addTimes a0 a1 a2 a3=some r) {n_a1:Nat} (hn_a1:n_a1=a1.length):CallM Tryd.prog Tab 95 [(ai a0),(.own (oi 0 0) .int 0 n_a1),(ai a2),(.tree .int a3)] [((oi 0 0),.arr 3 .int a1)] (.tup []) [((oi 0 0),.arr 3 .int r)]:=by
 refine callM_of_ (by kernel_rfl) Tryd.func95 c_impl_addTimes (n:=31) (by kernel_rfl) (by simp) (tl:=[(0,(ai a0)),(1,(.own (oi 0 0) .int 0 n_a1)),(2,(ai a2)),(3,(.tree .int a3))]) rfl (by kernel_rfl) ⟨trivial,trivial⟩ ⟨trivial,trivial⟩ ?_
 unfold m_impl_addTimes
 unfold L_impl_addTimes at h
 refine seqR ?_
 refine awp_block_ ?_
 refine awp_loopL h (fun t_ S_=>∃ (l3_m12:Nat),∃ (l3_m1:List Int),t_=(l3_m12,l3_m1)∧S_=⟨mkTm [(0,(ai a0)),(1,(.own (oi 0 0) .int 0 l3_m1.length)),(2,(ai a2)),(10,(.tree .int a3)),(11,(ai ((a3.length:Nat):Int))),(12,(ai ((l3_m12:Nat):Int)))],mkOb (someL [((oi 0 0),.arr 3 .int l3_m1)]),2⟩) ⟨_,((weak_tm_ 1 (.own (oi 0 0) .int 0 n_a1) (.own (oi 0 0) .int 0 a1.length) (by kernel_rfl) (congrArg (fun z_=>((.own (oi 0 0) .int 0 z_):AV)) (hn_a1:n_a1=a1.length))).trans (weak_ren [])),⟨0,a1,rfl,rfl⟩⟩ ?_
 rintro n_ _ _ c_ ⟨l3_m12,l3_m1,rfl,rfl⟩ h hn3
 (try dsimp only at h)
 unfold L_impl_addTimes_l1 at h
 unfold m_impl_addTimes_l1
 refine seqR ?_
 refine awp_seqv_ ?_
 rcases cond_some h with ⟨q6,h⟩ | ⟨q6,h⟩
 ·have q6_:=of_decide_eq_true q6
  refine awp_condT_ q6 ?_
  refine awp_skip_ (tn_ ?_)
  refine wr_ ?_
  refine awp_seqv_ ?_
  refine awp_block_ ?_
  refine awp_seqv_ ?_
  obtain ⟨x9,e9,h⟩:=ob_some h
  refine awp_region_ 8 ?_
  refine rz0 (ai ((l3_m12:Nat):Int)) ?_
  refine rs0 (.telt .int x9 0) (zi (t:=.int) (xs:=a3) (k:=.i64) (m:=((l3_m12:Nat):Int)) (nat_nn _) e9) ?_
  refine rsB 3 ?_
  refine rnil (tn_ ?_)
  refine wr_ ?_
  obtain ⟨x10,e10,h⟩:=ob_some h
  obtain ⟨y11,h11,h⟩:=ob_some h
  refine awp_region_ 22 ?_
  refine rz0 (.own (oi 0 0) .int 0 l3_m1.length) ?_
  refine rz0 (ai ((l3_m12:Nat):Int)) ?_
  refine rz0 (ai a0) ?_
  refine rz0 (.own (oi 0 0) .int 0 l3_m1.length) ?_
  refine rz0 (ai ((l3_m12:Nat):Int)) ?_
  refine rs0 (.elt (oi 0 0) l3_m12 0) (zo (t:=.int) (o:=(oi 0 0)) (len:=l3_m1.length) (k:=.i64) (m:=((l3_m12:Nat):Int)) (nat_nn _) (getN_lt e10)) ?_
  refine rsl (ai x10) (s_ldE (i:=(oi 0 0)) (j:=l3_m12) (k:=0) (e:=3) (t:=.int) (xs:=l3_m1) (by kernel_rfl) (by kernel_rfl) e10 (by kernel_rfl)) ?_
  refine rz0 (ai a2) ?_
  refine rz0 (ai x9) ?_
  refine rz0 (ai (IntKind.i64.wrap (a2*x9))) ?_
  refine rz0 (ai (IntKind.i64.wrap (x10+IntKind.i64.wrap (a2*x9)))) ?_
  refine zc (ai y11) [] [(ai a0),(ai (IntKind.i64.wrap (x10+IntKind.i64.wrap (a2*x9))))] (ok_impl_mod h11) ?_
  refine rs0 (.elt (oi 0 0) l3_m12 0) (zo (t:=.int) (o:=(oi 0 0)) (len:=l3_m1.length) (k:=.i64) (m:=((l3_m12:Nat):Int)) (nat_nn _) (getN_lt e10)) ?_
  refine rsn2 (oi 0 0) (oi 0 0) (.arr 3 .int (l3_m1.set l3_m12 y11)) (s_stE (i:=(oi 0 0)) (j:=l3_m12) (k:=0) (e:=3) (t:=.int) (xs:=l3_m1) (cs:=[(ai y11)]) (x1:=y11) (by kernel_rfl) (by kernel_rfl) e10 (by kernel_rfl) (by kernel_rfl)) ?_
  refine rnil (bn_ (tn_ ?_))
  refine wr_ ?_
  obtain ⟨g12,h⟩:=og_some h
  refine awp_region_ 24 ?_
  refine rs0 (ai ((l3_m12+1:Nat):Int)) (za g12) ?_
  refine rsB 1 ?_
  refine rnil (tn_ ?_)
  obtain rfl:=zj h
  exact ⟨(l3_m12+1,l3_m1.set l3_m12 y11),_,((weak_tm_ 1 (.own (oi 0 0) .int 0 l3_m1.length) (.own (oi 0 0) .int 0 ((l3_m1.set l3_m12 y11).length)) (by kernel_rfl) (congrArg (fun z_=>((.own (oi 0 0) .int 0 z_):AV)) (((rfl:l3_m1.length=l3_m1.length).trans List.length_set.symm):l3_m1.length=(l3_m1.set l3_m12 y11).length))).trans (weak_ren [])),⟨l3_m12+1,l3_m1.set l3_m12 y11,rfl,rfl⟩,hn3⟩
 have q6_:=of_decide_eq_false q6
 refine awp_condF_ q6 ?_
 refine awp_exit_ (te_ (te_ (be_ ?_)))
 obtain rfl:=zj h
 have h:=hn3
 (try dsimp only at h)
 obtain rfl:=zj h
 exact retM_ [] (weak_ren (tl:=[]) (g:=2) [])
def m_impl_clones_l1:AC :=
 (.seq (rg [xo 12 (qb .lss (tm 11) (tm 10))])
 (.seq (.cond (tm 12)
  .skip
  (.exit 0))
 (.seq (.block 1 (.seq (rg [xo 13 (qx 1 (tm 9) (tm 11)),xo 14 (ql (tm 13)),xo 5 (qm (tm 14))])
 (rg [xo 15 (qm (tm 3)),xo 16 (qm (tm 5)),xo 17 (qc 49 [(tm 16)] [[(some .int)]]),xo 18 (.mkV 23 (.slice .int) 1 [(tm 17)]),xo 19 (.appV 23 (.slice .int) 24 (tm 15) (tm 18)),xo 3 (qm (tm 19))])))
 (rg [xo 20 (qb .add (tm 11) (ci 1)),xo 11 (qm (tm 20))]))))
def m_impl_clones:AC :=
 (.seq (rg [xo 2 (qm (.cst .nils))])
 (.seq (rg [xo 6 (qm (tm 0)),xo 7 (.i (.len (tm 6))),xo 8 (.makeV 23 (.slice .int) 24 [.nils] (ci 0) (tm 7)),xo 3 (qm (tm 8))])
 (.seq (.seq (rg [xo 9 (qm (tm 0)),xo 10 (.i (.len (tm 9))),xo 11 (qm (ci 0))])
 (.block 0 (.loop m_impl_clones_l1)))
 (.seq (rg [xo 21 (qm (tm 3)),xo 2 (qm (tm 21))])
 .ret))))
def r_impl_clones:List Res:=[.tmp 2]
theorem c_impl_clones:compiled Tryd.prog Tryd.f85=some (m_impl_clones,r_impl_clones):=by kernel_rfl
theorem hb_impl_clones:hasBody Tryd.prog 85=true:=by kernel_rfl
def L_impl_clones_l1 (a0:List (List Int)) (l7_m11:Nat) (l7_m3:List (List Int)):Option (Ctl (Nat×List (List Int)) (List (List Int))) :=
 cond (decide (((l7_m11:Nat):Int)<((a0.length:Nat):Int)))
 (Option.bind (a0[l7_m11]?) fun x13 =>
 Option.bind (L_impl_clone x13) fun y14 =>
 og (l7_m3.length+1<=1073741824∧(l7_m3.length+1)*24<=140737488355328) <|
 og (l7_m11+1<4611686018427387904) <|
 some (Ctl.next (l7_m11+1,l7_m3++[y14])))
 (some (Ctl.out l7_m3))
def L_impl_clones (a0:List (List Int)):Option (List (List Int)) :=
 og (0<=(0:Int)∧(0:Int)<=((a0.length:Nat):Int)∧((a0.length:Nat):Int)<=1073741824∧(24:Int)*((a0.length:Nat):Int)<=140737488355328) <|
Option.bind (loopM (fun s_:Nat×List (List Int)=>L_impl_clones_l1 a0 s_.1 s_.2) 4611686018427387904 (0,List.replicate 0 ([]:List Int))) fun l5_m3 =>
some l5_m3
theorem ok_impl_clones {a0:List (List Int)} {r:List (List Int)} (h:L_impl_clones a0=some r):CallM Tryd.prog Tab 85 [(.tree (.slice .int) a0)] [] (.own (oi 0 1) (.slice .int) 0 r.length) [((oi 0 1),.mat 23 (oi 1 1) .int r),((oi 1 1),.pool 3 .int r)]:=by
 refine callM_of_ (by kernel_rfl) Tryd.func85 c_impl_clones (n:=22) (by kernel_rfl) (by simp) (tl:=[(0,(.tree (.slice .int) a0))]) rfl (by kernel_rfl) trivial ⟨⟨3,(.tail _ (.head _))⟩,⟨trivial,trivial⟩⟩ ?_
 unfold m_impl_clones
 unfold L_impl_clones at h
 refine seqR ?_
 refine awp_seqv_ ?_
 obtain ⟨g4,h⟩:=og_some h
 refine awp_region_ 6 ?_
 refine rz0 (.tree (.slice .int) a0) ?_
 refine rz0 (ai ((a0.length:Nat):Int)) ?_
 refine rmakeM (.own (oi 128 4) (.slice .int) 0 0) (oi 128 4) 23 3 .int (List.replicate 0 ([]:List Int)) trivial (s_makeM (j:=0) (k:=.i64) (k':=.i64) (m:=0) (c:=((a0.length:Nat):Int)) 3 (by kernel_rfl) (by kernel_rfl) g4 (by kernel_rfl) rfl) (by kernel_rfl) (by rw [List.length_replicate]) (by kernel_rfl) ?_
 refine rsB 1 ?_
 refine rnil (tn_ ?_)
 refine wr_ ?_
 refine awp_seqB h (fun (l5_m3:List (List Int)) S_=>S_=⟨mkTm [(3,(.own (oi 0 1) (.slice .int) 0 l5_m3.length))],mkOb (someL [((oi 0 1),.mat 23 (oi 1 1) .int l5_m3),((oi 1 1),.pool 3 .int l5_m3)]),2⟩) ?_ ?_
 ·intro v_ h
  refine seqR ?_
  refine awp_block_ ?_
  refine awp_loopL h (fun t_ S_=>∃ (l7_m11:Nat),∃ (l7_m3:List (List Int)),t_=(l7_m11,l7_m3)∧S_=⟨mkTm [(3,(.own (oi 0 1) (.slice .int) 0 l7_m3.length)),(9,(.tree (.slice .int) a0)),(10,(ai ((a0.length:Nat):Int))),(11,(ai ((l7_m11:Nat):Int)))],mkOb (someL [((oi 0 1),.mat 23 (oi 1 1) .int l7_m3),((oi 1 1),.pool 3 .int l7_m3)]),2⟩) ⟨_,((weak_tm_ 3 (.own (oi 128 4) (.slice .int) 0 0) (.own (oi 128 4) (.slice .int) 0 ((List.replicate 0 ([]:List Int)).length)) (by kernel_rfl) (congrArg (fun z_=>((.own (oi 128 4) (.slice .int) 0 z_):AV)) (List.length_replicate.symm:0=(List.replicate 0 ([]:List Int)).length))).trans (weak_ren [((oi 0 1),(oi 128 4)),((oi 1 1),(oi 128 4))])),⟨0,List.replicate 0 ([]:List Int),rfl,rfl⟩⟩ ?_
  rintro n_ _ _ c_ ⟨l7_m11,l7_m3,rfl,rfl⟩ h hn7
  (try dsimp only at h)
  unfold L_impl_clones_l1 at h
  unfold m_impl_clones_l1
  refine seqR ?_
  refine awp_seqv_ ?_
  rcases cond_some h with ⟨q10,h⟩ | ⟨q10,h⟩
  ·have q10_:=of_decide_eq_true q10
   refine awp_condT_ q10 ?_
   refine awp_skip_ (tn_ ?_)
   refine wr_ ?_
   refine awp_seqv_ ?_
   refine awp_block_ ?_
   refine awp_seqv_ ?_
   obtain ⟨x13,e13,h⟩:=ob_some h
   refine awp_region_ 6 ?_
   refine rs0 (.telt (.slice .int) x13 0) (zi (t:=(.slice .int)) (xs:=a0) (k:=.i64) (m:=((l7_m11:Nat):Int)) (nat_nn _) e13) ?_
   refine rsB 2 ?_
   refine rnil (tn_ ?_)
   refine wr_ ?_
   obtain ⟨y14,h14,h⟩:=ob_some h
   obtain ⟨g15,h⟩:=og_some h
   refine awp_region_ 12 ?_
   refine rz0 (.own (oi 0 1) (.slice .int) 0 l7_m3.length) ?_
   refine rz0 (.tree .int x13) ?_
   refine zc (.own (oi 272 8) .int 0 y14.length) [((oi 272 8),some (.arr 3 .int y14))] [(.tree .int x13)] (ok_impl_clone h14) ?_
   refine rmkV (.own (oi 18 9) (.slice .int) 0 1) (oi 18 9) (.vec 23 1 1 ([(.own (oi 272 8) .int 0 y14.length)])) trivial (s_mkV (by kernel_rfl)) ?_
   refine rs2 (.own (oi 0 10) (.slice .int) 0 (l7_m3.length+1)) (oi 0 1) (oi 0 10) (.vec 23 1 (l7_m3.length+1) (hdL (oi 1 1) .int l7_m3++[(.own (oi 272 8) .int 0 y14.length)])) (s_appVO (u:=.int) (t':=(.slice .int)) (t2:=(.slice .int)) (o:=(oi 0 1)) (q:=(oi 18 9)) (e2:=23) (p:=(oi 1 1)) (xss:=l7_m3) (cs:=[(.own (oi 272 8) .int 0 y14.length)]) (len:=l7_m3.length) (by kernel_rfl) (by kernel_rfl) rfl (by kernel_rfl) (by kernel_rfl) rfl g15) ?_
   refine rsB 1 ?_
   refine rnil (bn_ (tn_ ?_))
   refine ⟨_,weak_app_ (e1:=23) (e:=3) (u:=.int) (n:=l7_m3.length+1) (len:=y14.length) (row:=y14) (ys:=y14) (xss:=l7_m3) 9000 (oi 0 10) (oi 1 1) (oi 272 8) (by kernel_rfl) (by kernel_rfl) rfl (by kernel_rfl) (by kernel_rfl) (tw_le rfl) (tw_eq rfl) (by kernel_rfl) (by kernel_rfl) (by kernel_rfl),?_⟩
   obtain ⟨g16,h⟩:=og_some h
   refine awp_region_ 15 ?_
   refine rs0 (ai ((l7_m11+1:Nat):Int)) (za g16) ?_
   refine rsB 1 ?_
   refine rnil (tn_ ?_)
   obtain rfl:=zj h
   exact ⟨(l7_m11+1,l7_m3++[y14]),_,((weak_tm_ 3 (.own (oi 0 10) (.slice .int) 0 (l7_m3.length+1)) (.own (oi 0 10) (.slice .int) 0 ((l7_m3++[y14]).length)) (by kernel_rfl) (congrArg (fun z_=>((.own (oi 0 10) (.slice .int) 0 z_):AV)) ((by simp):l7_m3.length+1=(l7_m3++[y14]).length))).trans (weak_ren [((oi 0 1),(oi 0 10)),((oi 1 1),(oi 9000 12))])),⟨l7_m11+1,l7_m3++[y14],rfl,rfl⟩,hn7⟩
  have q10_:=of_decide_eq_false q10
  refine awp_condF_ q10 ?_
  refine awp_exit_ (te_ (te_ (be_ (tn_ ?_))))
  obtain rfl:=zj h
  have h:=hn7
  (try dsimp only at h)
  obtain rfl:=zj h
  exact ⟨_,(weak_ren []),rfl⟩
 rintro l5_m3 _ rfl h
 (try dsimp only at h)
 refine seqR ?_
 refine awp_ret_ ?_
 obtain rfl:=zj h
 exact retM_ [(.own (oi 0 1) (.slice .int) 0 l5_m3.length)] (weak_ren (tl:=[(2,(.own (oi 0 1) (.slice .int) 0 l5_m3.length))]) (g:=2) [])
def m_impl_rowOperation_apply_l1:AC :=
 (.seq (rg [xo 44 (qb .lss (tm 43) (tm 42))])
   (.seq (.cond (tm 44)
    .skip
    (.exit 1))
   (.seq (.block 2 (.seq (rg [xo 45 (qm (tm 43)),xo 46 (qx 1 (tm 41) (tm 43)),xo 47 (ql (tm 46)),xo 7 (qm (tm 45)),xo 8 (qm (tm 47))])
   (.region [xo 48 (qm (tm 2)),xo 49 (qf 1 (tm 3)),xo 50 (ql (tm 49)),xo 51 (qx 1 (tm 48) (tm 50)),xo 52 (ql (tm 51)),xo 53 (qm (tm 7)),xo 54 (qm (tm 8)),xo 55 (qm (tm 6)),xo 56 (qb .mul (tm 54) (tm 55)),xo 57 (qm (tm 1)),xo 58 (qb .rem (tm 56) (tm 57)),xo 59 (qx 1 (tm 52) (tm 53)),xn (qs (tm 59) (tm 58))] true [])))
   (rg [xo 60 (qb .add (tm 43) (ci 1)),xo 43 (qm (tm 60))]))))
def m_impl_rowOperation_apply:AC :=
 (.seq (rg [xo 3 (.i (.box 104 (tm 0)))])
 (.seq (rg [xo 9 (qf 0 (tm 3)),xo 10 (ql (tm 9))])
 (.block 0 (.seq (rg [xo 12 (qb .eql (tm 10) (ci 0)),xo 11 (qm (tm 12))])
 (.cond (tm 11)
  (.region [xo 13 (qm (tm 2)),xo 14 (qf 1 (tm 3)),xo 15 (ql (tm 14)),xo 16 (qm (tm 2)),xo 17 (qf 2 (tm 3)),xo 18 (ql (tm 17)),xo 19 (qm (tm 2)),xo 20 (qf 2 (tm 3)),xo 21 (ql (tm 20)),xo 22 (qx 1 (tm 19) (tm 21)),xo 23 (ql (tm 22)),xo 24 (qm (tm 2)),xo 25 (qf 1 (tm 3)),xo 26 (ql (tm 25)),xo 27 (qx 1 (tm 24) (tm 26)),xo 28 (ql (tm 27)),xo 29 (qx 1 (tm 13) (tm 15)),xn (qs (tm 29) (tm 23)),xo 30 (qx 1 (tm 16) (tm 18)),xn (qs (tm 30) (tm 28))] true [(5,17)])
  (.seq (rg [xo 32 (qb .eql (tm 10) (ci 1)),xo 31 (qm (tm 32))])
  (.cond (tm 31)
   (.seq (rg [xo 33 (qm (tm 1)),xo 34 (qf 3 (tm 3)),xo 35 (ql (tm 34)),xo 36 (qc 94 [(tm 33),(tm 35)] [[],[]]),xo 6 (qm (tm 36))])
   (.seq (rg [xo 37 (qm (tm 2)),xo 38 (qf 1 (tm 3)),xo 39 (ql (tm 38)),xo 40 (qx 1 (tm 37) (tm 39)),xo 41 (ql (tm 40)),xo 42 (.i (.len (tm 41))),xo 43 (qm (ci 0))])
   (.block 1 (.loop m_impl_rowOperation_apply_l1))))
   (.seq (rg [xo 62 (qb .eql (tm 10) (ci 2)),xo 61 (qm (tm 62))])
   (.cond (tm 61)
    (.region [xo 63 (qm (tm 1)),xo 64 (qm (tm 2)),xo 65 (qf 1 (tm 3)),xo 66 (ql (tm 65)),xo 67 (qx 1 (tm 64) (tm 66)),xo 68 (ql (tm 67)),xo 69 (qf 3 (tm 3)),xo 70 (ql (tm 69)),xo 71 (.i (.neg (tm 70))),xo 72 (qm (tm 2)),xo 73 (qf 2 (tm 3)),xo 74 (ql (tm 73)),xo 75 (qx 1 (tm 72) (tm 74)),xo 76 (ql (tm 75)),xo 77 (qc 95 [(tm 63),(tm 68),(tm 71),(tm 76)] [[],[(some .int)],[],[(some .int)]])] true [])
    .skip)))))))))
def r_impl_rowOperation_apply:List Res:=[]
theorem c_impl_rowOperation_apply:compiled Tryd.prog Tryd.f93=some (m_impl_rowOperation_apply,r_impl_rowOperation_apply):=by kernel_rfl
theorem hb_impl_rowOperation_apply:hasBody Tryd.prog 93=true:=by kernel_rfl
def L_impl_rowOperation_apply_l1 (x13:List Int) (a0_1:Int) (a1:Int) (y11:Int) (l14_m43:Nat) (l14_m2:List (List Int)):Option (Ctl (Nat×List (List Int)) (List (List Int))) :=
 cond (decide (((l14_m43:Nat):Int)<((x13.length:Nat):Int)))
 (Option.bind (getI l14_m2 a0_1) fun x20 =>
 og (0<=((l14_m43:Nat):Int)∧l14_m43<x13.length) <|
 Option.bind (x20[l14_m43]?) fun x22 =>
 og (a1≠0) <|
 og (l14_m43+1<4611686018427387904) <|
 some (Ctl.next (l14_m43+1,l14_m2.set a0_1.toNat (x20.set l14_m43 (Int.tmod (IntKind.i64.wrap (x22*y11)) a1)))))
 (some (Ctl.out l14_m2))
def L_impl_rowOperation_apply (a0_0:Int) (a0_1:Int) (a0_2:Int) (a0_3:Int) (a1:Int) (a2:List (List Int)):Option (List (List Int)) :=
 cond (a0_0==0)
 (Option.bind (getI a2 a0_2) fun x6 =>
 Option.bind (getI a2 a0_1) fun x7 =>
 some ((a2.set a0_1.toNat x6).set a0_2.toNat x7))
 (cond (a0_0==1)
  (Option.bind (L_impl_inverse a1 a0_3) fun y11 =>
  Option.bind (getI a2 a0_1) fun x13 =>
  loopM (fun s_:Nat×List (List Int)=>L_impl_rowOperation_apply_l1 x13 a0_1 a1 y11 s_.1 s_.2) 4611686018427387904 (0,a2))
  (cond (a0_0==2)
   (Option.bind (getI a2 a0_1) fun x27 =>
   Option.bind (getI a2 a0_2) fun x28 =>
   og (a0_1.toNat≠a0_2.toNat) <|
   Option.bind (L_impl_addTimes a1 x27 (IntKind.i64.wrap (0 - a0_3)) x28) fun y30 =>
   og (y30.length=x27.length) <|
   some (a2.set a0_1.toNat y30))
   (some a2)))
theorem ok_impl_rowOperation_apply {a0_0:Int} {a0_1:Int} {a0_2:Int} {a0_3:Int} {a1:Int} {a2:List (List Int)} {r:List (List Int)} (h:L_impl_rowOperation_apply a0_0 a0_1 a0_2 a0_3 a1 a2=some r) {n_a2:Nat} (hn_a2:n_a2=a2.length):CallM Tryd.prog Tab 93 [(.agg [(ai a0_0),(ai a0_1),(ai a0_2),(ai a0_3)]),(ai a1),(.own (oi 0 0) (.slice .int) 0 n_a2)] [((oi 0 0),.mat 23 (oi 1 0) .int a2),((oi 1 0),.pool 3 .int a2)] (.tup []) [((oi 0 0),.mat 23 (oi 0 1) .int r),((oi 0 1),.pool 3 .int r)]:=by
 refine callM_of_ (by kernel_rfl) Tryd.func93 c_impl_rowOperation_apply (n:=78) (by kernel_rfl) (by simp) (tl:=[(0,(.agg [(ai a0_0),(ai a0_1),(ai a0_2),(ai a0_3)])),(1,(ai a1)),(2,(.own (oi 0 0) (.slice .int) 0 n_a2))]) rfl (by kernel_rfl) ⟨⟨3,(.tail _ (.head _))⟩,⟨trivial,trivial⟩⟩ ⟨⟨3,(.tail _ (.head _))⟩,⟨trivial,trivial⟩⟩ ?_
 unfold m_impl_rowOperation_apply
 unfold L_impl_rowOperation_apply at h
 refine seqR ?_
 refine seqR ?_
 refine awp_block_ ?_
 refine seqR ?_
 rcases cond_some h with ⟨q5,h⟩ | ⟨q5,h⟩
 ·refine awp_condT_ q5 ?_
  obtain ⟨x6,f6,h⟩:=ob_some h
  obtain ⟨p6,b6,e6⟩:=getI_some f6
  obtain ⟨x7,f7,h⟩:=ob_some h
  obtain ⟨p7,b7,e7⟩:=getI_some f7
  refine awp_regionD_ 26 ?_
  refine dz0 (.own (oi 0 0) (.slice .int) 0 n_a2) ?_
  refine dz0 (.box (oi 3 1) 1) ?_
  refine dzl (ai a0_1) ?_
  refine dz0 (.own (oi 0 0) (.slice .int) 0 n_a2) ?_
  refine dz0 (.box (oi 3 1) 2) ?_
  refine dzl (ai a0_2) ?_
  refine dz0 (.own (oi 0 0) (.slice .int) 0 n_a2) ?_
  refine dz0 (.box (oi 3 1) 2) ?_
  refine dzl (ai a0_2) ?_
  refine ds0 (.elt (oi 0 0) a0_2.toNat 0) (zo (t:=(.slice .int)) (o:=(oi 0 0)) (len:=n_a2) (k:=.i64) (m:=a0_2) p6 (Nat.lt_of_lt_of_le (getN_lt e6) (Nat.le_of_eq (Eq.symm hn_a2)))) ?_
  refine dsl (.own (kid (oi 1 0) a0_2.toNat) .int 0 x6.length) (s_ldM (o:=(oi 0 0)) (p:=(oi 1 0)) (e1:=23) (u:=.int) (xss:=a2) (row:=x6) (j:=a0_2.toNat) (by kernel_rfl) (by kernel_rfl) e6) ?_
  refine dz0 (.own (oi 0 0) (.slice .int) 0 n_a2) ?_
  refine dz0 (.box (oi 3 1) 1) ?_
  refine dzl (ai a0_1) ?_
  refine ds0 (.elt (oi 0 0) a0_1.toNat 0) (zo (t:=(.slice .int)) (o:=(oi 0 0)) (len:=n_a2) (k:=.i64) (m:=a0_1) p7 (Nat.lt_of_lt_of_le (getN_lt e7) (Nat.le_of_eq (Eq.symm hn_a2)))) ?_
  refine dsl (.own (kid (oi 1 0) a0_1.toNat) .int 0 x7.length) (s_ldM (o:=(oi 0 0)) (p:=(oi 1 0)) (e1:=23) (u:=.int) (xss:=a2) (row:=x7) (j:=a0_1.toNat) (by kernel_rfl) (by kernel_rfl) e7) ?_
  refine ds0 (.elt (oi 0 0) a0_1.toNat 0) (zo (t:=(.slice .int)) (o:=(oi 0 0)) (len:=n_a2) (k:=.i64) (m:=a0_1) p7 (Nat.lt_of_lt_of_le (getN_lt e7) (Nat.le_of_eq (Eq.symm hn_a2)))) ?_
  refine dsn2 (oi 0 0) (oi 0 0) (.vec 23 1 n_a2 ((hdL (oi 1 0) .int a2).set a0_1.toNat (.own (kid (oi 1 0) a0_2.toNat) .int 0 x6.length))) (s_stV (o:=(oi 0 0)) (e1:=23) (m:=n_a2) (cs:=hdL (oi 1 0) .int a2) (v:=(.own (kid (oi 1 0) a0_2.toNat) .int 0 x6.length)) (j:=a0_1.toNat) (by kernel_rfl) (vec_n (by kernel_rfl) hn_a2) (by kernel_rfl) rfl (by rw [hdL_len]; exact getN_lt e7)) ?_
  refine ds0 (.elt (oi 0 0) a0_2.toNat 0) (zo (t:=(.slice .int)) (o:=(oi 0 0)) (len:=n_a2) (k:=.i64) (m:=a0_2) p6 (Nat.lt_of_lt_of_le (getN_lt e6) (Nat.le_of_eq (Eq.symm hn_a2)))) ?_
  refine dsn2 (oi 0 0) (oi 0 0) (.vec 23 1 n_a2 (((hdL (oi 1 0) .int a2).set a0_1.toNat (.own (kid (oi 1 0) a0_2.toNat) .int 0 x6.length)).set a0_2.toNat (.own (kid (oi 1 0) a0_1.toNat) .int 0 x7.length))) (s_stV (o:=(oi 0 0)) (e1:=23) (m:=n_a2) (cs:=(hdL (oi 1 0) .int a2).set a0_1.toNat (.own (kid (oi 1 0) a0_2.toNat) .int 0 x6.length)) (v:=(.own (kid (oi 1 0) a0_1.toNat) .int 0 x7.length)) (j:=a0_2.toNat) (by kernel_rfl) (by kernel_rfl) (by kernel_rfl) rfl (by rw [List.length_set,hdL_len]; exact getN_lt e6)) ?_
  refine dnil (badB_spec (by kernel_rfl)) (bn_ ?_)
  obtain rfl:=zj h
  exact retM_ [] ((weak_swap_ (e1:=23) (e:=3) (u:=.int) (xss:=a2) (i:=a0_1.toNat) (j:=a0_2.toNat) (n:=n_a2) (li:=x7.length) (lj:=x6.length) (ri:=x7) (rj:=x6) 9000 (oi 0 0) (oi 1 0) (by kernel_rfl) (by kernel_rfl) hn_a2 (by kernel_rfl) e7 e6 rfl rfl (by kernel_rfl) (by kernel_rfl)).trans (weak_ren (tl:=[]) (g:=2) [((oi 0 1),(oi 9000 26))]))
 refine awp_condF_ q5 ?_
 refine seqR ?_
 rcases cond_some h with ⟨q9,h⟩ | ⟨q9,h⟩
 ·refine awp_condT_ q9 ?_
  refine awp_seqv_ ?_
  obtain ⟨y11,h11,h⟩:=ob_some h
  refine awp_region_ 13 ?_
  refine rz0 (ai a1) ?_
  refine rz0 (.box (oi 3 1) 3) ?_
  refine rzl (ai a0_3) ?_
  refine zc (ai y11) [] [(ai a1),(ai a0_3)] (ok_impl_inverse h11) ?_
  refine rsB 1 ?_
  refine rnil (tn_ ?_)
  refine wr_ ?_
  refine awp_seqv_ ?_
  obtain ⟨x13,f13,h⟩:=ob_some h
  obtain ⟨p13,b13,e13⟩:=getI_some f13
  refine awp_region_ 20 ?_
  refine rz0 (.own (oi 0 0) (.slice .int) 0 n_a2) ?_
  refine rz0 (.box (oi 3 1) 1) ?_
  refine rzl (ai a0_1) ?_
  refine rs0 (.elt (oi 0 0) a0_1.toNat 0) (zo (t:=(.slice .int)) (o:=(oi 0 0)) (len:=n_a2) (k:=.i64) (m:=a0_1) p13 (Nat.lt_of_lt_of_le (getN_lt e13) (Nat.le_of_eq (Eq.symm hn_a2)))) ?_
  refine rsl (.own (kid (oi 1 0) a0_1.toNat) .int 0 x13.length) (s_ldM (o:=(oi 0 0)) (p:=(oi 1 0)) (e1:=23) (u:=.int) (xss:=a2) (row:=x13) (j:=a0_1.toNat) (by kernel_rfl) (by kernel_rfl) e13) ?_
  refine rsB 2 ?_
  refine rnil (tn_ ?_)
  refine wr_ ?_
  refine awp_block_ ?_
  refine awp_loopL h (fun t_ S_=>∃ (l14_m43:Nat),∃ (l14_m2:List (List Int)),t_=(l14_m43,l14_m2)∧S_=⟨mkTm [(1,(ai a1)),(2,(.own (oi 0 0) (.slice .int) 0 l14_m2.length)),(3,(.box (oi 1 1) 0)),(6,(ai y11)),(41,(.own (kid (oi 0 1) a0_1.toNat) .int 0 x13.length)),(42,(ai ((x13.length:Nat):Int))),(43,(ai ((l14_m43:Nat):Int)))],mkOb (someL [((oi 0 0),.mat 23 (oi 0 1) .int l14_m2),((oi 0 1),.pool 3 .int l14_m2),((oi 1 1),.cells 104 [(ai a0_0),(ai a0_1),(ai a0_2),(ai a0_3)])]),2⟩) ⟨_,((weak_tm_ 2 (.own (oi 0 0) (.slice .int) 0 n_a2) (.own (oi 0 0) (.slice .int) 0 a2.length) (by kernel_rfl) (congrArg (fun z_=>((.own (oi 0 0) (.slice .int) 0 z_):AV)) (hn_a2:n_a2=a2.length))).trans (weak_ren [((oi 0 1),(oi 1 0)),((oi 1 1),(oi 3 1))])),⟨0,a2,rfl,rfl⟩⟩ ?_
  rintro n_ _ _ c_ ⟨l14_m43,l14_m2,rfl,rfl⟩ h hn14
  (try dsimp only at h)
  unfold L_impl_rowOperation_apply_l1 at h
  unfold m_impl_rowOperation_apply_l1
  refine seqR ?_
  refine awp_seqv_ ?_
  rcases cond_some h with ⟨q17,h⟩ | ⟨q17,h⟩
  ·have q17_:=of_decide_eq_true q17
   refine awp_condT_ q17 ?_
   refine awp_skip_ (tn_ ?_)
   refine wr_ ?_
   refine awp_seqv_ ?_
   refine awp_block_ ?_
   refine awp_seqv_ ?_
   obtain ⟨x20,f20,h⟩:=ob_some h
   obtain ⟨p20,b20,e20⟩:=getI_some f20
   obtain ⟨g21,h⟩:=og_some h
   obtain ⟨x22,e22,h⟩:=ob_some h
   refine awp_region_ 8 ?_
   refine rz0 (ai ((l14_m43:Nat):Int)) ?_
   refine rs0 (.elt (kid (oi 0 1) a0_1.toNat) l14_m43 0) (s_idxP (t:=.int) (o:=(kid (oi 0 1) a0_1.toNat)) (off:=0) (len:=x13.length) (k:=.i64) (m:=((l14_m43:Nat):Int)) (by kernel_rfl) (by kernel_rfl) rfl g21.1 (Nat.zero_add _) g21.2) ?_
   refine rsl (ai x22) (s_ldE (i:=(kid (oi 0 1) a0_1.toNat)) (j:=l14_m43) (k:=0) (e:=3) (t:=.int) (xs:=x20) (by kernel_rfl) (mkOb_kid (by kernel_rfl) e20) e22 (by kernel_rfl)) ?_
   refine rsB 2 ?_
   refine rnil (tn_ ?_)
   refine wr_ ?_
   obtain ⟨g23,h⟩:=og_some h
   refine awp_regionD_ 21 ?_
   refine dz0 (.own (oi 0 0) (.slice .int) 0 l14_m2.length) ?_
   refine dz0 (.box (oi 1 1) 1) ?_
   refine dzl (ai a0_1) ?_
   refine ds0 (.elt (oi 0 0) a0_1.toNat 0) (zo (t:=(.slice .int)) (o:=(oi 0 0)) (len:=l14_m2.length) (k:=.i64) (m:=a0_1) p20 (getN_lt e20)) ?_
   refine dsl (.own (kid (oi 0 1) a0_1.toNat) .int 0 x20.length) (s_ldM (o:=(oi 0 0)) (p:=(oi 0 1)) (e1:=23) (u:=.int) (xss:=l14_m2) (row:=x20) (j:=a0_1.toNat) (by kernel_rfl) (by kernel_rfl) e20) ?_
   refine dz0 (ai ((l14_m43:Nat):Int)) ?_
   refine dz0 (ai x22) ?_
   refine dz0 (ai y11) ?_
   refine dz0 (ai (IntKind.i64.wrap (x22*y11))) ?_
   refine dz0 (ai a1) ?_
   refine ds0 (ai (Int.tmod (IntKind.i64.wrap (x22*y11)) a1)) (s_rem (k:=.i64) (a:=IntKind.i64.wrap (x22*y11)) (b:=a1) (by kernel_rfl) (by kernel_rfl) g23) ?_
   refine ds0 (.elt (kid (oi 0 1) a0_1.toNat) l14_m43 0) (zo (t:=.int) (o:=(kid (oi 0 1) a0_1.toNat)) (len:=x20.length) (k:=.i64) (m:=((l14_m43:Nat):Int)) (nat_nn _) (getN_lt e22)) ?_
   refine dsn2 (kid (oi 0 1) a0_1.toNat) (kid (oi 0 1) a0_1.toNat) (.arr 3 .int (x20.set l14_m43 (Int.tmod (IntKind.i64.wrap (x22*y11)) a1))) (s_stE (i:=(kid (oi 0 1) a0_1.toNat)) (j:=l14_m43) (k:=0) (e:=3) (t:=.int) (xs:=x20) (cs:=[(ai (Int.tmod (IntKind.i64.wrap (x22*y11)) a1))]) (x1:=Int.tmod (IntKind.i64.wrap (x22*y11)) a1) (by kernel_rfl) (only1.trans (mkOb_kid (by kernel_rfl) e20)) e22 (by kernel_rfl) (by kernel_rfl)) ?_
   refine xd_ob (ob_row (o:=(oi 0 0)) (p:=(oi 0 1)) (e1:=23) (e:=3) (u:=.int) (xss:=l14_m2) (k:=a0_1.toNat) (row:=x20) (row':=x20.set l14_m43 (Int.tmod (IntKind.i64.wrap (x22*y11)) a1)) (by kernel_rfl) rfl (by kernel_rfl) e20 List.length_set) ?_
   refine dnil (badB_spec (by kernel_rfl)) (bn_ (tn_ ?_))
   refine wr_ ?_
   obtain ⟨g24,h⟩:=og_some h
   refine awp_region_ 23 ?_
   refine rs0 (ai ((l14_m43+1:Nat):Int)) (za g24) ?_
   refine rsB 1 ?_
   refine rnil (tn_ ?_)
   obtain rfl:=zj h
   exact ⟨(l14_m43+1,l14_m2.set a0_1.toNat (x20.set l14_m43 (Int.tmod (IntKind.i64.wrap (x22*y11)) a1))),_,((weak_tm_ 2 (.own (oi 0 0) (.slice .int) 0 l14_m2.length) (.own (oi 0 0) (.slice .int) 0 ((l14_m2.set a0_1.toNat (x20.set l14_m43 (Int.tmod (IntKind.i64.wrap (x22*y11)) a1))).length)) (by kernel_rfl) (congrArg (fun z_=>((.own (oi 0 0) (.slice .int) 0 z_):AV)) ((Eq.trans (b:=l14_m2.length) rfl List.length_set.symm):l14_m2.length=(l14_m2.set a0_1.toNat (x20.set l14_m43 (Int.tmod (IntKind.i64.wrap (x22*y11)) a1))).length))).trans (weak_ren [])),⟨l14_m43+1,l14_m2.set a0_1.toNat (x20.set l14_m43 (Int.tmod (IntKind.i64.wrap (x22*y11)) a1)),rfl,rfl⟩,hn14⟩
  have q17_:=of_decide_eq_false q17
  refine awp_condF_ q17 ?_
  refine awp_exit_ (te_ (te_ (be_ (bn_ ?_))))
  obtain rfl:=zj h
  have h:=hn14
  (try dsimp only at h)
  obtain rfl:=zj h
  exact retM_ [] (weak_ren (tl:=[]) (g:=2) [])
 refine awp_condF_ q9 ?_
 refine seqR ?_
 rcases cond_some h with ⟨q26,h⟩ | ⟨q26,h⟩
 ·refine awp_condT_ q26 ?_
  obtain ⟨x27,f27,h⟩:=ob_some h
  obtain ⟨p27,b27,e27⟩:=getI_some f27
  obtain ⟨x28,f28,h⟩:=ob_some h
  obtain ⟨p28,b28,e28⟩:=getI_some f28
  obtain ⟨g29,h⟩:=og_some h
  obtain ⟨y30,h30,h⟩:=ob_some h
  obtain ⟨g31,h⟩:=og_some h
  refine awp_regionD_ 25 ?_
  refine dz0 (ai a1) ?_
  refine dz0 (.own (oi 0 0) (.slice .int) 0 n_a2) ?_
  refine dz0 (.box (oi 3 1) 1) ?_
  refine dzl (ai a0_1) ?_
  refine ds0 (.elt (oi 0 0) a0_1.toNat 0) (zo (t:=(.slice .int)) (o:=(oi 0 0)) (len:=n_a2) (k:=.i64) (m:=a0_1) p27 (Nat.lt_of_lt_of_le (getN_lt e27) (Nat.le_of_eq (Eq.symm hn_a2)))) ?_
  refine dsl (.own (kid (oi 1 0) a0_1.toNat) .int 0 x27.length) (s_ldM (o:=(oi 0 0)) (p:=(oi 1 0)) (e1:=23) (u:=.int) (xss:=a2) (row:=x27) (j:=a0_1.toNat) (by kernel_rfl) (by kernel_rfl) e27) ?_
  refine dz0 (.box (oi 3 1) 3) ?_
  refine dzl (ai a0_3) ?_
  refine dz0 (ai (IntKind.i64.wrap (0 - a0_3))) ?_
  refine dz0 (.own (oi 0 0) (.slice .int) 0 n_a2) ?_
  refine dz0 (.box (oi 3 1) 2) ?_
  refine dzl (ai a0_2) ?_
  refine ds0 (.elt (oi 0 0) a0_2.toNat 0) (zo (t:=(.slice .int)) (o:=(oi 0 0)) (len:=n_a2) (k:=.i64) (m:=a0_2) p28 (Nat.lt_of_lt_of_le (getN_lt e28) (Nat.le_of_eq (Eq.symm hn_a2)))) ?_
  refine dsl (.own (kid (oi 1 0) a0_2.toNat) .int 0 x28.length) (s_ldM (o:=(oi 0 0)) (p:=(oi 1 0)) (e1:=23) (u:=.int) (xss:=a2) (row:=x28) (j:=a0_2.toNat) (by kernel_rfl) (by kernel_rfl) e28) ?_
  refine dcallM (.tup []) [((kid (oi 1 0) a0_1.toNat),some (.arr 3 .int y30)),((kid (oi 1 0) a0_1.toNat),none)] [((oi 0 0),(kid (oi 1 0) a0_1.toNat))] [(ai a1),(.own (kid (oi 1 0) a0_1.toNat) .int 0 x27.length),(ai (IntKind.i64.wrap (0 - a0_3))),(.own (kid (oi 1 0) a0_2.toNat) .int 0 x28.length)] (caps:=[]) trivial (ok_impl_addTimes h30 rfl) hb_impl_addTimes ⟨(entAt_kid (by kernel_rfl) e27),trivial⟩ (.cons (.ren (by kernel_rfl)) (.cons (.ren (by kernel_rfl)) (.cons (.ren (by kernel_rfl)) (.cons (.gnd (by kernel_rfl) (gd_own (e:=3) (u:=.int) (xs:=x28) ((less_ne (L:=[(kid (oi 1 0) a0_1.toNat)]) (by kernel_rfl) ⟨(kid_ne g29),trivial⟩).trans ((only_in (rd_own (t:=.int) (off:=0) (len:=x28.length) 3 rfl (by kernel_rfl))).trans (mkOb_kid (by kernel_rfl) e28))) rfl)) .nil)))) (reachL_mem (by kernel_rfl) (by kernel_rfl) ⟨(.arg (by simp [AV.nmsL,AV.nms,renF])),trivial⟩) (rd_arr (rd_own (t:=.int) (off:=0) (len:=x27.length) 1 rfl (by kernel_rfl)) rd_nil) ?_
  refine xd_ob (ob_row (o:=(oi 0 0)) (p:=(oi 1 0)) (e1:=23) (e:=3) (u:=.int) (xss:=a2) (k:=a0_1.toNat) (row:=x27) (row':=y30) (by kernel_rfl) rfl (by kernel_rfl) e27 g31) ?_
  refine dnil (badB_spec (by kernel_rfl)) (bn_ ?_)
  obtain rfl:=zj h
  exact retM_ [] (weak_ren (tl:=[]) (g:=2) [((oi 0 1),(oi 1 0))])
 refine awp_condF_ q26 ?_
 refine awp_skip_ (bn_ ?_)
 obtain rfl:=zj h
 exact retM_ [] (weak_ren (tl:=[]) (g:=2) [((oi 0 1),(oi 1 0))])
def m_impl_reduction_1:AC :=
 (.seq (rg [xo 4 (.i (.box 104 (tm 0)))])
 (.seq (.seq (rg [xo 5 (.i (.ld false 4 (tm 4))),xo 6 (qf 1 (tm 4)),xo 7 (ql (tm 6)),xo 8 (qf 1 (tm 4)),xo 9 (ql (tm 8)),xo 10 (.build [(.int .i64 0),(.int .i64 0),(.int .i64 0),(.int .i64 0)] [(0,1,(ci 0)),(1,1,(tm 7)),(2,1,(tm 9))]),xo 11 (.i (.cmp false 7 (tm 5) (tm 10)))])
 (.cond (tm 11)
  .ret
  .skip))
 (.seq (rg [xo 12 (.i (.ld false 4 (tm 4))),xo 13 (ql (tm 1)),xo 14 (ql (tm 2)),xo 15 (qc 93 [(tm 12),(tm 13),(tm 14)] [[none,none,none,none],[],[(some (.slice .int))]])])
 (rg [xo 16 (.i (.ld false 4 (tm 4))),xo 17 (ql (tm 1)),xo 18 (ql (tm 3)),xo 19 (qc 93 [(tm 16),(tm 17),(tm 18)] [[none,none,none,none],[],[(some (.slice .int))]])]))))
def r_impl_reduction_1:List Res:=[]
theorem c_impl_reduction_1:compiled Tryd.prog Tryd.f92=some (m_impl_reduction_1,r_impl_reduction_1):=by kernel_rfl
theorem hb_impl_reduction_1:hasBody Tryd.prog 92=true:=by kernel_rfl
def L_impl_reduction_1 (a0_0:Int) (a0_1:Int) (a0_2:Int) (a0_3:Int) (c0_0:Int) (c1_0:List (List Int)) (c2_0:List (List Int)):Option (List (List Int)×List (List Int)) :=
 cond ([a0_0,a0_1,a0_2,a0_3]==[0,a0_1,a0_1,0])
 (some (c1_0,c2_0))
 (Option.bind (L_impl_rowOperation_apply a0_0 a0_1 a0_2 a0_3 c0_0 c1_0) fun y7 =>
 og (y7.length=c1_0.length) <|
 Option.bind (L_impl_rowOperation_apply a0_0 a0_1 a0_2 a0_3 c0_0 c2_0) fun y9 =>
 og (y9.length=c2_0.length) <|
 some (y7,y9))
theorem ok_impl_reduction_1 {a0_0:Int} {a0_1:Int} {a0_2:Int} {a0_3:Int} {c0_0:Int} {c1_0:List (List Int)} {c2_0:List (List Int)} {r:List (List Int)×List (List Int)} (h:L_impl_reduction_1 a0_0 a0_1 a0_2 a0_3 c0_0 c1_0 c2_0=some r):CallM Tryd.prog Tab 92 [(.agg [(ai a0_0),(ai a0_1),(ai a0_2),(ai a0_3)]),(.box (oi 0 0) 0),(.box (oi 1 0) 0),(.box (oi 4 0) 0)] [((oi 0 0),.cells 3 [(ai c0_0)]),((oi 1 0),.cells 27 [(.own (oi 2 0) (.slice .int) 0 c1_0.length)]),((oi 2 0),.mat 23 (oi 3 0) .int c1_0),((oi 3 0),.pool 3 .int c1_0),((oi 4 0),.cells 27 [(.own (oi 5 0) (.slice .int) 0 c2_0.length)]),((oi 5 0),.mat 23 (oi 6 0) .int c2_0),((oi 6 0),.pool 3 .int c2_0)] (.tup []) [((oi 0 0),.cells 3 [(ai c0_0)]),((oi 1 0),.cells 27 [(.own (oi 2 0) (.slice .int) 0 r.1.length)]),((oi 2 0),.mat 23 (oi 0 1) .int r.1),((oi 0 1),.pool 3 .int r.1),((oi 4 0),.cells 27 [(.own (oi 5 0) (.slice .int) 0 r.2.length)]),((oi 5 0),.mat 23 (oi 1 1) .int r.2),((oi 1 1),.pool 3 .int r.2)]:=by
 refine callM_of_ (by kernel_rfl) Tryd.func92 c_impl_reduction_1 (n:=20) (by kernel_rfl) (by simp) (tl:=[(0,(.agg [(ai a0_0),(ai a0_1),(ai a0_2),(ai a0_3)])),(1,(.box (oi 0 0) 0)),(2,(.box (oi 1 0) 0)),(3,(.box (oi 4 0) 0))]) rfl (by kernel_rfl) ⟨trivial,⟨trivial,⟨⟨3,(.tail _ (.tail _ (.tail _ (.head _))))⟩,⟨trivial,⟨trivial,⟨⟨3,(.tail _ (.tail _ (.tail _ (.tail _ (.tail _ (.tail _ (.head _)))))))⟩,⟨trivial,trivial⟩⟩⟩⟩⟩⟩⟩ ⟨trivial,⟨trivial,⟨⟨3,(.tail _ (.tail _ (.tail _ (.head _))))⟩,⟨trivial,⟨trivial,⟨⟨3,(.tail _ (.tail _ (.tail _ (.tail _ (.tail _ (.tail _ (.head _)))))))⟩,⟨trivial,trivial⟩⟩⟩⟩⟩⟩⟩ ?_
 unfold m_impl_reduction_1
 unfold L_impl_reduction_1 at h
 refine seqR ?_
 refine awp_seqv_ ?_
 refine seqR ?_
 rcases cond_some h with ⟨q5,h⟩ | ⟨q5,h⟩
 ·refine awp_condT_ q5 ?_
  refine awp_ret_ (tr_ ?_)
  obtain rfl:=zj h
  exact retM_ [] (weak_ren (tl:=[]) (g:=2) [((oi 0 1),(oi 3 0)),((oi 1 1),(oi 6 0))])
 refine awp_condF_ q5 ?_
 refine awp_skip_ (tn_ ?_)
 refine wr_ ?_
 refine awp_seqv_ ?_
 obtain ⟨y7,h7,h⟩:=ob_some h
 obtain ⟨g8,h⟩:=og_some h
 refine awp_region_ 13 ?_
 refine rzl (.agg [(ai a0_0),(ai a0_1),(ai a0_2),(ai a0_3)]) ?_
 refine rzl (ai c0_0) ?_
 refine rzl (.own (oi 2 0) (.slice .int) 0 c1_0.length) ?_
 refine rcallM (.tup []) [((oi 2 0),some (.mat 23 (oi 240 12) .int y7)),((oi 240 12),some (.pool 3 .int y7)),((oi 2 0),none),((oi 3 0),some (.pool 3 .int []))] [((oi 0 0),(oi 2 0)),((oi 1 0),(oi 3 0))] [(.agg [(ai a0_0),(ai a0_1),(ai a0_2),(ai a0_3)]),(ai c0_0),(.own (oi 2 0) (.slice .int) 0 c1_0.length)] (caps:=[]) trivial (ok_impl_rowOperation_apply h7 rfl) hb_impl_rowOperation_apply ⟨(by kernel_rfl),⟨(by kernel_rfl),trivial⟩⟩ (.cons (.ren (by kernel_rfl)) (.cons (.ren (by kernel_rfl)) (.cons (.ren (by kernel_rfl)) .nil))) (reachL_mem (by kernel_rfl) (by kernel_rfl) ⟨(re_arg (by kernel_rfl)),⟨re_rows (o:=(oi 2 0)) (p:=(oi 3 0)) (e1:=23) (m:=c1_0.length) (u:=.int) (xss:=c1_0) (re_arg (by kernel_rfl)) (by kernel_rfl),trivial⟩⟩) ?_
 refine rnil (tn_ ?_)
 refine wr_ ?_
 obtain ⟨y9,h9,h⟩:=ob_some h
 obtain ⟨g10,h⟩:=og_some h
 refine awp_region_ 17 ?_
 refine rzl (.agg [(ai a0_0),(ai a0_1),(ai a0_2),(ai a0_3)]) ?_
 refine rzl (ai c0_0) ?_
 refine rzl (.own (oi 5 0) (.slice .int) 0 c2_0.length) ?_
 refine rcallM (.tup []) [((oi 5 0),some (.mat 23 (oi 304 16) .int y9)),((oi 304 16),some (.pool 3 .int y9)),((oi 5 0),none),((oi 6 0),some (.pool 3 .int []))] [((oi 0 0),(oi 5 0)),((oi 1 0),(oi 6 0))] [(.agg [(ai a0_0),(ai a0_1),(ai a0_2),(ai a0_3)]),(ai c0_0),(.own (oi 5 0) (.slice .int) 0 c2_0.length)] (caps:=[]) trivial (ok_impl_rowOperation_apply h9 rfl) hb_impl_rowOperation_apply ⟨(by kernel_rfl),⟨(by kernel_rfl),trivial⟩⟩ (.cons (.ren (by kernel_rfl)) (.cons (.ren (by kernel_rfl)) (.cons (.ren (by kernel_rfl)) .nil))) (reachL_mem (by kernel_rfl) (by kernel_rfl) ⟨(re_arg (by kernel_rfl)),⟨re_rows (o:=(oi 5 0)) (p:=(oi 6 0)) (e1:=23) (m:=c2_0.length) (u:=.int) (xss:=c2_0) (re_arg (by kernel_rfl)) (by kernel_rfl),trivial⟩⟩) ?_
 refine rnil ?_
 obtain rfl:=zj h
 exact retM_ [] ((weak_ob_ (oi 1 0) (.cells 27 [(.own (oi 2 0) (.slice .int) 0 c1_0.length)]) (.cells 27 [(.own (oi 2 0) (.slice .int) 0 y7.length)]) (by kernel_rfl) (congrArg (fun z_=>(.cells 27 [(.own (oi 2 0) (.slice .int) 0 z_)]:Ob)) (g8.symm:c1_0.length=y7.length))).trans ((weak_ob_ (oi 4 0) (.cells 27 [(.own (oi 5 0) (.slice .int) 0 c2_0.length)]) (.cells 27 [(.own (oi 5 0) (.slice .int) 0 y9.length)]) (by kernel_rfl) (congrArg (fun z_=>(.cells 27 [(.own (oi 5 0) (.slice .int) 0 z_)]:Ob)) (g10.symm:c2_0.length=y9.length))).trans (weak_ren (tl:=[]) (g:=2) [((oi 0 1),(oi 240 12)),((oi 1 1),(oi 304 16))])))
def m_impl_reduction_l3:AC :=
 (.seq (rg [xo 66 (qb .lss (tm 65) (tm 64))])
 (.seq (.cond (tm 66)
  .skip
  (.exit 4))
 (.seq (.block 5 (.seq (rg [xo 67 (qm (tm 65)),xo 13 (qm (tm 67))])
 (.seq (rg [xo 68 (qm (tm 13)),xo 69 (qm (tm 9)),xo 70 (qb .neq (tm 68) (tm 69)),xo 71 (qm (tm 70)),⟨(some 72),(some (71,true)),(ql (tm 5))⟩,⟨(some 73),(some (71,true)),(qm (tm 13))⟩,⟨(some 74),(some (71,true)),(qx 1 (tm 72) (tm 73))⟩,⟨(some 75),(some (71,true)),(ql (tm 74))⟩,⟨(some 76),(some (71,true)),(qm (tm 11))⟩,⟨(some 77),(some (71,true)),(qx 1 (tm 75) (tm 76))⟩,⟨(some 78),(some (71,true)),(ql (tm 77))⟩,⟨(some 79),(some (71,true)),(qb .neq (tm 78) (ci 0))⟩,xo 80 (.i (.pick (tm 71) (tm 79) (cb false)))])
 (.cond (tm 80)
  (rg [xo 81 (qm (tm 10)),xo 82 (qm (tm 13)),xo 83 (qm (tm 9)),xo 84 (ql (tm 5)),xo 85 (qm (tm 13)),xo 86 (qx 1 (tm 84) (tm 85)),xo 87 (ql (tm 86)),xo 88 (qm (tm 11)),xo 89 (qx 1 (tm 87) (tm 88)),xo 90 (ql (tm 89)),xo 91 (.build [(.int .i64 0),(.int .i64 0),(.int .i64 0),(.int .i64 0)] [(0,1,(ci 2)),(1,1,(tm 82)),(2,1,(tm 83)),(3,1,(tm 90))]),xo 92 (.call (tm 81) [(tm 91)] [[none,none,none,none]])])
  .skip))))
 (rg [xo 93 (qb .add (tm 65) (ci 1)),xo 65 (qm (tm 93))]))))
def m_impl_reduction_l2:AC :=
 (.seq (.seq (rg [xo 27 (qm (tm 12)),xo 28 (ql (tm 5)),xo 29 (.i (.len (tm 28))),xo 30 (qb .lss (tm 27) (tm 29)),xo 31 (qm (tm 30)),⟨(some 32),(some (31,true)),(ql (tm 5))⟩,⟨(some 33),(some (31,true)),(qm (tm 12))⟩,⟨(some 34),(some (31,true)),(qx 1 (tm 32) (tm 33))⟩,⟨(some 35),(some (31,true)),(ql (tm 34))⟩,⟨(some 36),(some (31,true)),(qm (tm 11))⟩,⟨(some 37),(some (31,true)),(qx 1 (tm 35) (tm 36))⟩,⟨(some 38),(some (31,true)),(ql (tm 37))⟩,⟨(some 39),(some (31,true)),(qb .eql (tm 38) (ci 0))⟩,xo 40 (.i (.pick (tm 31) (tm 39) (cb false)))])
 (.cond (tm 40)
  .skip
  (.exit 2)))
 (.block 3 (rg [xo 41 (qm (tm 12)),xo 42 (qb .add (tm 41) (ci 1)),xo 12 (qm (tm 42))])))
def m_impl_reduction_l1:AC :=
 (.seq (.seq (rg [xo 15 (qm (tm 11)),xo 16 (qm (tm 2)),xo 17 (qb .lss (tm 15) (tm 16)),xo 18 (qm (tm 17)),⟨(some 19),(some (18,true)),(qm (tm 9))⟩,⟨(some 20),(some (18,true)),(ql (tm 5))⟩,⟨(some 21),(some (18,true)),(.i (.len (tm 20)))⟩,⟨(some 22),(some (18,true)),(qb .lss (tm 19) (tm 21))⟩,xo 23 (.i (.pick (tm 18) (tm 22) (cb false)))])
 (.cond (tm 23)
  .skip
  (.exit 0)))
 (.seq (.block 1 (.seq (rg [xo 26 (qm (tm 9)),xo 12 (qm (tm 26))])
 (.seq (.block 2 (.loop m_impl_reduction_l2))
 (.seq (.seq (rg [xo 43 (qm (tm 12)),xo 44 (ql (tm 5)),xo 45 (.i (.len (tm 44))),xo 46 (qb .eql (tm 43) (tm 45))])
 (.cond (tm 46)
  (.exit 1)
  .skip))
 (.seq (rg [xo 47 (qm (tm 10)),xo 48 (qm (tm 9)),xo 49 (qm (tm 12)),xo 50 (.build [(.int .i64 0),(.int .i64 0),(.int .i64 0),(.int .i64 0)] [(0,1,(ci 0)),(1,1,(tm 48)),(2,1,(tm 49))]),xo 51 (.call (tm 47) [(tm 50)] [[none,none,none,none]])])
 (.seq (rg [xo 52 (qm (tm 10)),xo 53 (qm (tm 9)),xo 54 (ql (tm 5)),xo 55 (qm (tm 9)),xo 56 (qx 1 (tm 54) (tm 55)),xo 57 (ql (tm 56)),xo 58 (qm (tm 11)),xo 59 (qx 1 (tm 57) (tm 58)),xo 60 (ql (tm 59)),xo 61 (.build [(.int .i64 0),(.int .i64 0),(.int .i64 0),(.int .i64 0)] [(0,1,(ci 1)),(1,1,(tm 53)),(3,1,(tm 60))]),xo 62 (.call (tm 52) [(tm 61)] [[none,none,none,none]])])
 (.seq (.seq (rg [xo 63 (ql (tm 5)),xo 64 (.i (.len (tm 63))),xo 65 (qm (ci 0))])
 (.block 4 (.loop m_impl_reduction_l3)))
 (rg [xo 94 (qm (tm 9)),xo 95 (qb .add (tm 94) (ci 1)),xo 9 (qm (tm 95))]))))))))
 (rg [xo 24 (qm (tm 11)),xo 25 (qb .add (tm 24) (ci 1)),xo 11 (qm (tm 25))])))
def m_impl_reduction:AC :=
 (.seq (rg [xo 4 (.i (.box 3 (tm 0))),xo 5 (.i (.box 27 (tm 1))),xo 7 (.i (.box 27 (tm 3))),xo 8 (qm (ci 0))])
 (.seq (rg [xo 9 (qm (ci 0))])
 (.seq (rg [xo 14 (.i (.mkfn 92 [(tm 4),(tm 5),(tm 7)])),xo 10 (qm (tm 14))])
 (.seq (.seq (rg [xo 11 (qm (ci 0))])
 (.block 0 (.loop m_impl_reduction_l1)))
 (.seq (rg [xo 96 (qm (tm 9)),xo 8 (qm (tm 96))])
 .ret)))))
def r_impl_reduction:List Res:=[.tmp 8]
theorem c_impl_reduction:compiled Tryd.prog Tryd.f87=some (m_impl_reduction,r_impl_reduction):=by kernel_rfl
theorem hb_impl_reduction:hasBody Tryd.prog 87=true:=by kernel_rfl
def L_impl_reduction_l2 (l7_p0:List (List Int)) (l7_m11:Nat) (l15_m12:Nat):Option (Ctl Nat Nat) :=
 Option.bind (cond (decide (((l15_m12:Nat):Int)<((l7_p0.length:Nat):Int)))
  (Option.bind (l7_p0[l15_m12]?) fun x19 =>
  Option.bind (x19[l7_m11]?) fun x20 =>
  some (x20==0))
  (some false)) fun l17_m40 =>
cond l17_m40
 (og (l15_m12+1<4611686018427387904) <|
 some (Ctl.next (l15_m12+1)))
 (some (Ctl.out l15_m12))
def L_impl_reduction_l3 (y31:List (List Int)×List (List Int)) (l7_m9:Nat) (l7_m11:Nat) (a0:Int) (l34_m65:Nat) (l34_p0:List (List Int)) (l34_p2:List (List Int)):Option (Ctl (Nat×List (List Int)×List (List Int)) (List (List Int)×List (List Int))) :=
 cond (decide (((l34_m65:Nat):Int)<((y31.1.length:Nat):Int)))
 (Option.bind (Option.bind (cond (((l34_m65:Nat):Int) !=((l7_m9:Nat):Int))
       (Option.bind (l34_p0[l34_m65]?) fun x42 =>
       Option.bind (x42[l7_m11]?) fun x43 =>
       some (x43 !=0))
       (some false)) fun l40_m80 =>
  cond l40_m80
   (Option.bind (l34_p0[l34_m65]?) fun x45 =>
   Option.bind (x45[l7_m11]?) fun x46 =>
   Option.bind (L_impl_reduction_1 2 ((l34_m65:Nat):Int) ((l7_m9:Nat):Int) x46 a0 l34_p0 l34_p2) fun y47 =>
   some (y47.1,y47.2))
   (some (l34_p0,l34_p2))) fun (l38_p0,l38_p2) =>
 og (l34_m65+1<4611686018427387904) <|
 some (Ctl.next (l34_m65+1,l38_p0,l38_p2)))
 (some (Ctl.out (l34_p0,l34_p2)))
def L_impl_reduction_l1 (a2:Int) (a0:Int) (l7_m9:Nat) (l7_m11:Nat) (l7_p0:List (List Int)) (l7_p2:List (List Int)):Option (Ctl (Nat×Nat×List (List Int)×List (List Int)) (Nat×List (List Int)×List (List Int))) :=
 Option.bind (cond (decide (((l7_m11:Nat):Int)<a2))
  (some (decide (((l7_m9:Nat):Int)<((l7_p0.length:Nat):Int))))
  (some false)) fun l9_m23 =>
cond l9_m23
 (Option.bind (Option.bind (loopM (fun s_:Nat=>L_impl_reduction_l2 l7_p0 l7_m11 s_) 4611686018427387904 l7_m9) fun l14_m12 =>
  cond (((l14_m12:Nat):Int)==((l7_p0.length:Nat):Int))
   (some (l7_m9,l7_p0,l7_p2))
   (Option.bind (L_impl_reduction_1 0 ((l7_m9:Nat):Int) ((l14_m12:Nat):Int) 0 a0 l7_p0 l7_p2) fun y27 =>
   Option.bind (y27.1[l7_m9]?) fun x29 =>
   Option.bind (x29[l7_m11]?) fun x30 =>
   Option.bind (L_impl_reduction_1 1 ((l7_m9:Nat):Int) 0 x30 a0 y27.1 y27.2) fun y31 =>
   Option.bind (loopM (fun s_:Nat×List (List Int)×List (List Int)=>L_impl_reduction_l3 y31 l7_m9 l7_m11 a0 s_.1 s_.2.1 s_.2.2) 4611686018427387904 (0,y31.1,y31.2)) fun (l32_p0,l32_p2) =>
   og (l7_m9+1<4611686018427387904) <|
   some (l7_m9+1,l32_p0,l32_p2))) fun (l12_m9,l12_p0,l12_p2) =>
 og (l7_m11+1<4611686018427387904) <|
 some (Ctl.next (l12_m9,l7_m11+1,l12_p0,l12_p2)))
 (some (Ctl.out (l7_m9,l7_p0,l7_p2)))
def L_impl_reduction (a0:Int) (a1:List (List Int)) (a2:Int) (a3:List (List Int)):Option (List (List Int)×List (List Int)×Nat) :=
 Option.bind (loopM (fun s_:Nat×Nat×List (List Int)×List (List Int)=>L_impl_reduction_l1 a2 a0 s_.1 s_.2.1 s_.2.2.1 s_.2.2.2) 4611686018427387904 (0,0,a1,a3)) fun (l5_m9,l5_p0,l5_p2) =>
some (l5_p0,l5_p2,l5_m9)
theorem ok_impl_reduction {a0:Int} {a1:List (List Int)} {a2:Int} {a3:List (List Int)} {r:List (List Int)×List (List Int)×Nat} (h:L_impl_reduction a0 a1 a2 a3=some r) {n_a1:Nat} (hn_a1:n_a1=a1.length) {n_a3:Nat} (hn_a3:n_a3=a3.length):CallM Tryd.prog Tab 87 [(ai a0),(.own (oi 0 0) (.slice .int) 0 n_a1),(ai a2),(.own (oi 2 0) (.slice .int) 0 n_a3)] [((oi 0 0),.mat 23 (oi 1 0) .int a1),((oi 1 0),.pool 3 .int a1),((oi 2 0),.mat 23 (oi 3 0) .int a3),((oi 3 0),.pool 3 .int a3)] (ai ((r.2.2:Nat):Int)) [((oi 0 0),.mat 23 (oi 0 1) .int r.1),((oi 0 1),.pool 3 .int r.1),((oi 2 0),.mat 23 (oi 1 1) .int r.2.1),((oi 1 1),.pool 3 .int r.2.1)]:=by
 refine callM_of_ (by kernel_rfl) Tryd.func87 c_impl_reduction (n:=97) (by kernel_rfl) (by simp) (tl:=[(0,(ai a0)),(1,(.own (oi 0 0) (.slice .int) 0 n_a1)),(2,(ai a2)),(3,(.own (oi 2 0) (.slice .int) 0 n_a3))]) rfl (by kernel_rfl) ⟨⟨3,(.tail _ (.head _))⟩,⟨trivial,⟨⟨3,(.tail _ (.tail _ (.tail _ (.head _))))⟩,⟨trivial,trivial⟩⟩⟩⟩ ⟨⟨3,(.tail _ (.head _))⟩,⟨trivial,⟨⟨3,(.tail _ (.tail _ (.tail _ (.head _))))⟩,⟨trivial,trivial⟩⟩⟩⟩ ?_
 unfold m_impl_reduction
 unfold L_impl_reduction at h
 refine seqR ?_
 refine seqR ?_
 refine seqR ?_
 refine awp_seqB h (fun t_ S_=>∃ (l5_m9:Nat),∃ (l5_p0:List (List Int)),∃ (l5_p2:List (List Int)),t_=(l5_m9,l5_p0,l5_p2)∧S_=⟨mkTm [(9,(ai ((l5_m9:Nat):Int)))],mkOb (someL [((oi 0 0),.mat 23 (oi 0 1) .int l5_p0),((oi 0 1),.pool 3 .int l5_p0),((oi 2 0),.mat 23 (oi 1 1) .int l5_p2),((oi 1 1),.pool 3 .int l5_p2)]),2⟩) ?_ ?_
 ·intro v_ h
  refine seqR ?_
  refine awp_block_ ?_
  refine awp_loopL h (fun t_ S_=>∃ (l7_m9:Nat),∃ (l7_m11:Nat),∃ (l7_p0:List (List Int)),∃ (l7_p2:List (List Int)),t_=(l7_m9,l7_m11,l7_p0,l7_p2)∧S_=⟨mkTm [(2,(ai a2)),(5,(.box (oi 0 1) 0)),(9,(ai ((l7_m9:Nat):Int))),(10,(.fn 92 [(.box (oi 1 1) 0),(.box (oi 0 1) 0),(.box (oi 2 1) 0)])),(11,(ai ((l7_m11:Nat):Int)))],mkOb (someL [((oi 0 1),.cells 27 [(.own (oi 0 0) (.slice .int) 0 l7_p0.length)]),((oi 1 1),.cells 3 [(ai a0)]),((oi 2 1),.cells 27 [(.own (oi 2 0) (.slice .int) 0 l7_p2.length)]),((oi 0 0),.mat 23 (oi 3 1) .int l7_p0),((oi 3 1),.pool 3 .int l7_p0),((oi 2 0),.mat 23 (oi 4 1) .int l7_p2),((oi 4 1),.pool 3 .int l7_p2)]),2⟩) ⟨_,((weak_ob_ (oi 5 2) (.cells 27 [(.own (oi 0 0) (.slice .int) 0 n_a1)]) (.cells 27 [(.own (oi 0 0) (.slice .int) 0 a1.length)]) (by kernel_rfl) (congrArg (fun z_=>(.cells 27 [(.own (oi 0 0) (.slice .int) 0 z_)]:Ob)) (hn_a1:n_a1=a1.length))).trans ((weak_ob_ (oi 7 3) (.cells 27 [(.own (oi 2 0) (.slice .int) 0 n_a3)]) (.cells 27 [(.own (oi 2 0) (.slice .int) 0 a3.length)]) (by kernel_rfl) (congrArg (fun z_=>(.cells 27 [(.own (oi 2 0) (.slice .int) 0 z_)]:Ob)) (hn_a3:n_a3=a3.length))).trans (weak_ren [((oi 0 1),(oi 5 2)),((oi 3 1),(oi 1 0)),((oi 1 1),(oi 4 1)),((oi 2 1),(oi 7 3)),((oi 4 1),(oi 3 0))]))),⟨0,0,a1,a3,rfl,rfl⟩⟩ ?_
  rintro n_ _ _ c_ ⟨l7_m9,l7_m11,l7_p0,l7_p2,rfl,rfl⟩ h hn7
  (try dsimp only at h)
  unfold L_impl_reduction_l1 at h
  unfold m_impl_reduction_l1
  refine awp_seqv_ ?_
  refine awp_seqB h (fun (l9_m23:Bool) S_=>S_=⟨mkTm [(2,(ai a2)),(5,(.box (oi 0 1) 0)),(9,(ai ((l7_m9:Nat):Int))),(10,(.fn 92 [(.box (oi 1 1) 0),(.box (oi 0 1) 0),(.box (oi 2 1) 0)])),(11,(ai ((l7_m11:Nat):Int))),(23,(.bool l9_m23))],mkOb (someL [((oi 0 1),.cells 27 [(.own (oi 0 0) (.slice .int) 0 l7_p0.length)]),((oi 1 1),.cells 3 [(ai a0)]),((oi 2 1),.cells 27 [(.own (oi 2 0) (.slice .int) 0 l7_p2.length)]),((oi 0 0),.mat 23 (oi 3 1) .int l7_p0),((oi 3 1),.pool 3 .int l7_p0),((oi 2 0),.mat 23 (oi 4 1) .int l7_p2),((oi 4 1),.pool 3 .int l7_p2)]),2⟩) ?_ ?_
  ·intro v_ h
   rcases cond_some h with ⟨q10,h⟩ | ⟨q10,h⟩
   ·have q10_:=of_decide_eq_true q10
    refine awp_region_ 11 ?_
    refine rz0 (ai ((l7_m11:Nat):Int)) ?_
    refine rz0 (ai a2) ?_
    refine rz0 (.bool (decide (((l7_m11:Nat):Int)<a2))) ?_
    refine rz0 (.bool (decide (((l7_m11:Nat):Int)<a2))) ?_
    refine rs0 (ai ((l7_m9:Nat):Int)) (zg q10) ?_
    refine rsl (.own (oi 0 0) (.slice .int) 0 l7_p0.length) (zg q10) ?_
    refine rs0 (ai ((l7_p0.length:Nat):Int)) (zg q10) ?_
    refine rs0 (.bool (decide (((l7_m9:Nat):Int)<((l7_p0.length:Nat):Int)))) (zg q10) ?_
    refine rs0 (.bool (decide (((l7_m9:Nat):Int)<((l7_p0.length:Nat):Int)))) (zT q10) ?_
    refine rnil (tn_ ?_)
    obtain rfl:=zj h
    exact ⟨_,(weak_ren []),rfl⟩
   have q10_:=of_decide_eq_false q10
   refine awp_region_ 11 ?_
   refine rz0 (ai ((l7_m11:Nat):Int)) ?_
   refine rz0 (ai a2) ?_
   refine rz0 (.bool (decide (((l7_m11:Nat):Int)<a2))) ?_
   refine rz0 (.bool (decide (((l7_m11:Nat):Int)<a2))) ?_
   refine zs q10 ?_
   refine zs q10 ?_
   refine zs q10 ?_
   refine zs q10 ?_
   refine rs0 (.bool false) (zF q10) ?_
   refine rnil (tn_ ?_)
   obtain rfl:=zj h
   exact ⟨_,(weak_ren []),rfl⟩
  rintro l9_m23 _ rfl h
  (try dsimp only at h)
  rcases cond_some h with ⟨q11,h⟩ | ⟨q11,h⟩
  ·refine awp_condT_ q11 ?_
   refine awp_skip_ (tn_ ?_)
   refine wr_ ?_
   refine awp_seqB h (fun t_ S_=>∃ (l12_m9:Nat),∃ (l12_p0:List (List Int)),∃ (l12_p2:List (List Int)),t_=(l12_m9,l12_p0,l12_p2)∧S_=⟨mkTm [(2,(ai a2)),(5,(.box (oi 0 1) 0)),(9,(ai ((l12_m9:Nat):Int))),(10,(.fn 92 [(.box (oi 1 1) 0),(.box (oi 0 1) 0),(.box (oi 2 1) 0)])),(11,(ai ((l7_m11:Nat):Int)))],mkOb (someL [((oi 0 1),.cells 27 [(.own (oi 0 0) (.slice .int) 0 l12_p0.length)]),((oi 1 1),.cells 3 [(ai a0)]),((oi 2 1),.cells 27 [(.own (oi 2 0) (.slice .int) 0 l12_p2.length)]),((oi 0 0),.mat 23 (oi 3 1) .int l12_p0),((oi 3 1),.pool 3 .int l12_p0),((oi 2 0),.mat 23 (oi 4 1) .int l12_p2),((oi 4 1),.pool 3 .int l12_p2)]),2⟩) ?_ ?_
   ·intro v_ h
    refine awp_block_ ?_
    refine seqR ?_
    refine awp_seqB h (fun (l14_m12:Nat) S_=>S_=⟨mkTm [(2,(ai a2)),(5,(.box (oi 0 1) 0)),(9,(ai ((l7_m9:Nat):Int))),(10,(.fn 92 [(.box (oi 1 1) 0),(.box (oi 0 1) 0),(.box (oi 2 1) 0)])),(11,(ai ((l7_m11:Nat):Int))),(12,(ai ((l14_m12:Nat):Int)))],mkOb (someL [((oi 0 1),.cells 27 [(.own (oi 0 0) (.slice .int) 0 l7_p0.length)]),((oi 1 1),.cells 3 [(ai a0)]),((oi 2 1),.cells 27 [(.own (oi 2 0) (.slice .int) 0 l7_p2.length)]),((oi 0 0),.mat 23 (oi 3 1) .int l7_p0),((oi 3 1),.pool 3 .int l7_p0),((oi 2 0),.mat 23 (oi 4 1) .int l7_p2),((oi 4 1),.pool 3 .int l7_p2)]),2⟩) ?_ ?_
    ·intro v_ h
     refine awp_block_ ?_
     refine awp_loopL h (fun (l15_m12:Nat) S_=>S_=⟨mkTm [(2,(ai a2)),(5,(.box (oi 0 1) 0)),(9,(ai ((l7_m9:Nat):Int))),(10,(.fn 92 [(.box (oi 1 1) 0),(.box (oi 0 1) 0),(.box (oi 2 1) 0)])),(11,(ai ((l7_m11:Nat):Int))),(12,(ai ((l15_m12:Nat):Int)))],mkOb (someL [((oi 0 1),.cells 27 [(.own (oi 0 0) (.slice .int) 0 l7_p0.length)]),((oi 1 1),.cells 3 [(ai a0)]),((oi 2 1),.cells 27 [(.own (oi 2 0) (.slice .int) 0 l7_p2.length)]),((oi 0 0),.mat 23 (oi 3 1) .int l7_p0),((oi 3 1),.pool 3 .int l7_p0),((oi 2 0),.mat 23 (oi 4 1) .int l7_p2),((oi 4 1),.pool 3 .int l7_p2)]),2⟩) ⟨_,(weak_ren []),rfl⟩ ?_
     rintro n_ l15_m12 _ c_ rfl h hn15
     (try dsimp only at h)
     unfold L_impl_reduction_l2 at h
     unfold m_impl_reduction_l2
     refine awp_seqv_ ?_
     refine awp_seqB h (fun (l17_m40:Bool) S_=>S_=⟨mkTm [(2,(ai a2)),(5,(.box (oi 0 1) 0)),(9,(ai ((l7_m9:Nat):Int))),(10,(.fn 92 [(.box (oi 1 1) 0),(.box (oi 0 1) 0),(.box (oi 2 1) 0)])),(11,(ai ((l7_m11:Nat):Int))),(12,(ai ((l15_m12:Nat):Int))),(40,(.bool l17_m40))],mkOb (someL [((oi 0 1),.cells 27 [(.own (oi 0 0) (.slice .int) 0 l7_p0.length)]),((oi 1 1),.cells 3 [(ai a0)]),((oi 2 1),.cells 27 [(.own (oi 2 0) (.slice .int) 0 l7_p2.length)]),((oi 0 0),.mat 23 (oi 3 1) .int l7_p0),((oi 3 1),.pool 3 .int l7_p0),((oi 2 0),.mat 23 (oi 4 1) .int l7_p2),((oi 4 1),.pool 3 .int l7_p2)]),2⟩) ?_ ?_
     ·intro v_ h
      rcases cond_some h with ⟨q18,h⟩ | ⟨q18,h⟩
      ·have q18_:=of_decide_eq_true q18
       obtain ⟨x19,e19,h⟩:=ob_some h
       obtain ⟨x20,e20,h⟩:=ob_some h
       refine awp_region_ 16 ?_
       refine rz0 (ai ((l15_m12:Nat):Int)) ?_
       refine rzl (.own (oi 0 0) (.slice .int) 0 l7_p0.length) ?_
       refine rz0 (ai ((l7_p0.length:Nat):Int)) ?_
       refine rz0 (.bool (decide (((l15_m12:Nat):Int)<((l7_p0.length:Nat):Int)))) ?_
       refine rz0 (.bool (decide (((l15_m12:Nat):Int)<((l7_p0.length:Nat):Int)))) ?_
       refine rsl (.own (oi 0 0) (.slice .int) 0 l7_p0.length) (zg q18) ?_
       refine rs0 (ai ((l15_m12:Nat):Int)) (zg q18) ?_
       refine rs0 (.elt (oi 0 0) l15_m12 0) (s_gd (by kernel_rfl) q18 (zo (t:=(.slice .int)) (o:=(oi 0 0)) (len:=l7_p0.length) (k:=.i64) (m:=((l15_m12:Nat):Int)) (nat_nn _) (getN_lt e19))) ?_
       refine rsl (.own (kid (oi 3 1) l15_m12) .int 0 x19.length) (s_gd (by kernel_rfl) q18 (s_ldM (o:=(oi 0 0)) (p:=(oi 3 1)) (e1:=23) (u:=.int) (xss:=l7_p0) (row:=x19) (j:=l15_m12) (by kernel_rfl) (by kernel_rfl) e19)) ?_
       refine rs0 (ai ((l7_m11:Nat):Int)) (zg q18) ?_
       refine rs0 (.elt (kid (oi 3 1) l15_m12) l7_m11 0) (s_gd (by kernel_rfl) q18 (zo (t:=.int) (o:=(kid (oi 3 1) l15_m12)) (len:=x19.length) (k:=.i64) (m:=((l7_m11:Nat):Int)) (nat_nn _) (getN_lt e20))) ?_
       refine rsl (ai x20) (s_gd (by kernel_rfl) q18 (s_ldE (i:=(kid (oi 3 1) l15_m12)) (j:=l7_m11) (k:=0) (e:=3) (t:=.int) (xs:=x19) (by kernel_rfl) (mkOb_kid (by kernel_rfl) e19) e20 (by kernel_rfl))) ?_
       refine rs0 (.bool (x20==0)) (zg q18) ?_
       refine rs0 (.bool (x20==0)) (zT q18) ?_
       refine rnil (tn_ ?_)
       obtain rfl:=zj h
       exact ⟨_,(weak_ren []),rfl⟩
      have q18_:=of_decide_eq_false q18
      refine awp_region_ 16 ?_
      refine rz0 (ai ((l15_m12:Nat):Int)) ?_
      refine rzl (.own (oi 0 0) (.slice .int) 0 l7_p0.length) ?_
      refine rz0 (ai ((l7_p0.length:Nat):Int)) ?_
      refine rz0 (.bool (decide (((l15_m12:Nat):Int)<((l7_p0.length:Nat):Int)))) ?_
      refine rz0 (.bool (decide (((l15_m12:Nat):Int)<((l7_p0.length:Nat):Int)))) ?_
      refine zs q18 ?_
      refine zs q18 ?_
      refine zs q18 ?_
      refine zs q18 ?_
      refine zs q18 ?_
      refine zs q18 ?_
      refine zs q18 ?_
      refine zs q18 ?_
      refine rs0 (.bool false) (zF q18) ?_
      refine rnil (tn_ ?_)
      obtain rfl:=zj h
      exact ⟨_,(weak_ren []),rfl⟩
     rintro l17_m40 _ rfl h
     (try dsimp only at h)
     rcases cond_some h with ⟨q21,h⟩ | ⟨q21,h⟩
     ·refine awp_condT_ q21 ?_
      refine awp_skip_ (tn_ ?_)
      refine wr_ ?_
      refine awp_block_ ?_
      obtain ⟨g22,h⟩:=og_some h
      refine awp_region_ 5 ?_
      refine rz0 (ai ((l15_m12:Nat):Int)) ?_
      refine rs0 (ai ((l15_m12+1:Nat):Int)) (za g22) ?_
      refine rsB 1 ?_
      refine rnil (bn_ (tn_ ?_))
      obtain rfl:=zj h
      exact ⟨l15_m12+1,_,(weak_ren []),rfl,hn15⟩
     refine awp_condF_ q21 ?_
     refine awp_exit_ (te_ (te_ (be_ (tn_ ?_))))
     obtain rfl:=zj h
     have h:=hn15
     (try dsimp only at h)
     obtain rfl:=zj h
     exact ⟨_,(weak_ren []),rfl⟩
    rintro l14_m12 _ rfl h
    (try dsimp only at h)
    refine awp_seqv_ ?_
    refine seqR ?_
    rcases cond_some h with ⟨q25,h⟩ | ⟨q25,h⟩
    ·refine awp_condT_ q25 ?_
     refine awp_exit_ (te_ (be_ (tn_ ?_)))
     obtain rfl:=zj h
     exact ⟨_,(weak_ren []),⟨l7_m9,l7_p0,l7_p2,rfl,rfl⟩⟩
    refine awp_condF_ q25 ?_
    refine awp_skip_ (tn_ ?_)
    refine wr_ ?_
    refine awp_seqv_ ?_
    obtain ⟨y27,h27,h⟩:=ob_some h
    refine awp_region_ 11 ?_
    refine rz0 (.fn 92 [(.box (oi 1 1) 0),(.box (oi 0 1) 0),(.box (oi 2 1) 0)]) ?_
    refine rz0 (ai ((l7_m9:Nat):Int)) ?_
    refine rz0 (ai ((l14_m12:Nat):Int)) ?_
    refine rz0 (.agg [(ai 0),(ai ((l7_m9:Nat):Int)),(ai ((l14_m12:Nat):Int)),(ai 0)]) ?_
    refine rcallM (.tup []) [((oi 1 1),some (.cells 3 [(ai a0)])),((oi 0 1),some (.cells 27 [(.own (oi 0 0) (.slice .int) 0 y27.1.length)])),((oi 0 0),some (.mat 23 (oi 816 10) .int y27.1)),((oi 816 10),some (.pool 3 .int y27.1)),((oi 2 1),some (.cells 27 [(.own (oi 2 0) (.slice .int) 0 y27.2.length)])),((oi 2 0),some (.mat 23 (oi 817 10) .int y27.2)),((oi 817 10),some (.pool 3 .int y27.2)),((oi 1 1),none),((oi 0 1),none),((oi 0 0),none),((oi 3 1),some (.pool 3 .int [])),((oi 2 1),none),((oi 2 0),none),((oi 4 1),some (.pool 3 .int []))] [((oi 0 0),(oi 1 1)),((oi 1 0),(oi 0 1)),((oi 2 0),(oi 0 0)),((oi 3 0),(oi 3 1)),((oi 4 0),(oi 2 1)),((oi 5 0),(oi 2 0)),((oi 6 0),(oi 4 1))] [(.agg [(ai 0),(ai ((l7_m9:Nat):Int)),(ai ((l14_m12:Nat):Int)),(ai 0)]),(.box (oi 1 1) 0),(.box (oi 0 1) 0),(.box (oi 2 1) 0)] (caps:=[(.box (oi 1 1) 0),(.box (oi 0 1) 0),(.box (oi 2 1) 0)]) trivial (ok_impl_reduction_1 h27) hb_impl_reduction_1 ⟨(by kernel_rfl),⟨(by kernel_rfl),⟨(by kernel_rfl),⟨(by kernel_rfl),⟨(by kernel_rfl),⟨(by kernel_rfl),⟨(by kernel_rfl),trivial⟩⟩⟩⟩⟩⟩⟩ (.cons (.ren (by kernel_rfl)) (.cons (.ren (by kernel_rfl)) (.cons (.ren (by kernel_rfl)) (.cons (.ren (by kernel_rfl)) .nil)))) (reachL_mem (by kernel_rfl) (by kernel_rfl) ⟨(re_arg (by kernel_rfl)),⟨(re_arg (by kernel_rfl)),⟨(re_cells (k:=(oi 0 1)) (ty:=27) (cs:=[(.own (oi 0 0) (.slice .int) 0 l7_p0.length)]) (re_arg (by kernel_rfl)) (by kernel_rfl) (by kernel_rfl)),⟨re_rows (o:=(oi 0 0)) (p:=(oi 3 1)) (e1:=23) (m:=l7_p0.length) (u:=.int) (xss:=l7_p0) (re_cells (k:=(oi 0 1)) (ty:=27) (cs:=[(.own (oi 0 0) (.slice .int) 0 l7_p0.length)]) (re_arg (by kernel_rfl)) (by kernel_rfl) (by kernel_rfl)) (by kernel_rfl),⟨(re_arg (by kernel_rfl)),⟨(re_cells (k:=(oi 2 1)) (ty:=27) (cs:=[(.own (oi 2 0) (.slice .int) 0 l7_p2.length)]) (re_arg (by kernel_rfl)) (by kernel_rfl) (by kernel_rfl)),⟨re_rows (o:=(oi 2 0)) (p:=(oi 4 1)) (e1:=23) (m:=l7_p2.length) (u:=.int) (xss:=l7_p2) (re_cells (k:=(oi 2 1)) (ty:=27) (cs:=[(.own (oi 2 0) (.slice .int) 0 l7_p2.length)]) (re_arg (by kernel_rfl)) (by kernel_rfl) (by kernel_rfl)) (by kernel_rfl),trivial⟩⟩⟩⟩⟩⟩⟩) ?_
    refine rnil (tn_ ?_)
    refine wr_ ?_
    refine awp_seqv_ ?_
    obtain ⟨x29,e29,h⟩:=ob_some h
    obtain ⟨x30,e30,h⟩:=ob_some h
    obtain ⟨y31,h31,h⟩:=ob_some h
    refine awp_region_ 22 ?_
    refine rz0 (.fn 92 [(.box (oi 1 1) 0),(.box (oi 0 1) 0),(.box (oi 2 1) 0)]) ?_
    refine rz0 (ai ((l7_m9:Nat):Int)) ?_
    refine rzl (.own (oi 0 0) (.slice .int) 0 y27.1.length) ?_
    refine rz0 (ai ((l7_m9:Nat):Int)) ?_
    refine rs0 (.elt (oi 0 0) l7_m9 0) (zo (t:=(.slice .int)) (o:=(oi 0 0)) (len:=y27.1.length) (k:=.i64) (m:=((l7_m9:Nat):Int)) (nat_nn _) (getN_lt e29)) ?_
    refine rsl (.own (kid (oi 816 10) l7_m9) .int 0 x29.length) (s_ldM (o:=(oi 0 0)) (p:=(oi 816 10)) (e1:=23) (u:=.int) (xss:=y27.1) (row:=x29) (j:=l7_m9) (by kernel_rfl) (by kernel_rfl) e29) ?_
    refine rz0 (ai ((l7_m11:Nat):Int)) ?_
    refine rs0 (.elt (kid (oi 816 10) l7_m9) l7_m11 0) (zo (t:=.int) (o:=(kid (oi 816 10) l7_m9)) (len:=x29.length) (k:=.i64) (m:=((l7_m11:Nat):Int)) (nat_nn _) (getN_lt e30)) ?_
    refine rsl (ai x30) (s_ldE (i:=(kid (oi 816 10) l7_m9)) (j:=l7_m11) (k:=0) (e:=3) (t:=.int) (xs:=x29) (by kernel_rfl) (mkOb_kid (by kernel_rfl) e29) e30 (by kernel_rfl)) ?_
    refine rz0 (.agg [(ai 1),(ai ((l7_m9:Nat):Int)),(ai 0),(ai x30)]) ?_
    refine rcallM (.tup []) [((oi 1 1),some (.cells 3 [(ai a0)])),((oi 0 1),some (.cells 27 [(.own (oi 0 0) (.slice .int) 0 y31.1.length)])),((oi 0 0),some (.mat 23 (oi 992 21) .int y31.1)),((oi 992 21),some (.pool 3 .int y31.1)),((oi 2 1),some (.cells 27 [(.own (oi 2 0) (.slice .int) 0 y31.2.length)])),((oi 2 0),some (.mat 23 (oi 993 21) .int y31.2)),((oi 993 21),some (.pool 3 .int y31.2)),((oi 1 1),none),((oi 0 1),none),((oi 0 0),none),((oi 816 10),some (.pool 3 .int [])),((oi 2 1),none),((oi 2 0),none),((oi 817 10),some (.pool 3 .int []))] [((oi 0 0),(oi 1 1)),((oi 1 0),(oi 0 1)),((oi 2 0),(oi 0 0)),((oi 3 0),(oi 816 10)),((oi 4 0),(oi 2 1)),((oi 5 0),(oi 2 0)),((oi 6 0),(oi 817 10))] [(.agg [(ai 1),(ai ((l7_m9:Nat):Int)),(ai 0),(ai x30)]),(.box (oi 1 1) 0),(.box (oi 0 1) 0),(.box (oi 2 1) 0)] (caps:=[(.box (oi 1 1) 0),(.box (oi 0 1) 0),(.box (oi 2 1) 0)]) trivial (ok_impl_reduction_1 h31) hb_impl_reduction_1 ⟨(by kernel_rfl),⟨(by kernel_rfl),⟨(by kernel_rfl),⟨(by kernel_rfl),⟨(by kernel_rfl),⟨(by kernel_rfl),⟨(by kernel_rfl),trivial⟩⟩⟩⟩⟩⟩⟩ (.cons (.ren (by kernel_rfl)) (.cons (.ren (by kernel_rfl)) (.cons (.ren (by kernel_rfl)) (.cons (.ren (by kernel_rfl)) .nil)))) (reachL_mem (by kernel_rfl) (by kernel_rfl) ⟨(re_arg (by kernel_rfl)),⟨(re_arg (by kernel_rfl)),⟨(re_cells (k:=(oi 0 1)) (ty:=27) (cs:=[(.own (oi 0 0) (.slice .int) 0 y27.1.length)]) (re_arg (by kernel_rfl)) (by kernel_rfl) (by kernel_rfl)),⟨re_rows (o:=(oi 0 0)) (p:=(oi 816 10)) (e1:=23) (m:=y27.1.length) (u:=.int) (xss:=y27.1) (re_cells (k:=(oi 0 1)) (ty:=27) (cs:=[(.own (oi 0 0) (.slice .int) 0 y27.1.length)]) (re_arg (by kernel_rfl)) (by kernel_rfl) (by kernel_rfl)) (by kernel_rfl),⟨(re_arg (by kernel_rfl)),⟨(re_cells (k:=(oi 2 1)) (ty:=27) (cs:=[(.own (oi 2 0) (.slice .int) 0 y27.2.length)]) (re_arg (by kernel_rfl)) (by kernel_rfl) (by kernel_rfl)),⟨re_rows (o:=(oi 2 0)) (p:=(oi 817 10)) (e1:=23) (m:=y27.2.length) (u:=.int) (xss:=y27.2) (re_cells (k:=(oi 2 1)) (ty:=27) (cs:=[(.own (oi 2 0) (.slice .int) 0 y27.2.length)]) (re_arg (by kernel_rfl)) (by kernel_rfl) (by kernel_rfl)) (by kernel_rfl),trivial⟩⟩⟩⟩⟩⟩⟩) ?_
    refine rnil (tn_ ?_)
    refine wr_ ?_
    refine awp_seqB h (fun t_ S_=>∃ (l32_p0:List (List Int)),∃ (l32_p2:List (List Int)),t_=(l32_p0,l32_p2)∧S_=⟨mkTm [(2,(ai a2)),(5,(.box (oi 0 1) 0)),(9,(ai ((l7_m9:Nat):Int))),(10,(.fn 92 [(.box (oi 1 1) 0),(.box (oi 0 1) 0),(.box (oi 2 1) 0)])),(11,(ai ((l7_m11:Nat):Int)))],mkOb (someL [((oi 0 1),.cells 27 [(.own (oi 0 0) (.slice .int) 0 l32_p0.length)]),((oi 1 1),.cells 3 [(ai a0)]),((oi 2 1),.cells 27 [(.own (oi 2 0) (.slice .int) 0 l32_p2.length)]),((oi 0 0),.mat 23 (oi 3 1) .int l32_p0),((oi 3 1),.pool 3 .int l32_p0),((oi 2 0),.mat 23 (oi 4 1) .int l32_p2),((oi 4 1),.pool 3 .int l32_p2)]),2⟩) ?_ ?_
    ·intro v_ h
     refine seqR ?_
     refine awp_block_ ?_
     refine awp_loopL h (fun t_ S_=>∃ (l34_m65:Nat),∃ (l34_p0:List (List Int)),∃ (l34_p2:List (List Int)),t_=(l34_m65,l34_p0,l34_p2)∧S_=⟨mkTm [(2,(ai a2)),(5,(.box (oi 0 1) 0)),(9,(ai ((l7_m9:Nat):Int))),(10,(.fn 92 [(.box (oi 1 1) 0),(.box (oi 0 1) 0),(.box (oi 2 1) 0)])),(11,(ai ((l7_m11:Nat):Int))),(64,(ai ((y31.1.length:Nat):Int))),(65,(ai ((l34_m65:Nat):Int)))],mkOb (someL [((oi 0 1),.cells 27 [(.own (oi 0 0) (.slice .int) 0 l34_p0.length)]),((oi 1 1),.cells 3 [(ai a0)]),((oi 2 1),.cells 27 [(.own (oi 2 0) (.slice .int) 0 l34_p2.length)]),((oi 0 0),.mat 23 (oi 3 1) .int l34_p0),((oi 3 1),.pool 3 .int l34_p0),((oi 2 0),.mat 23 (oi 4 1) .int l34_p2),((oi 4 1),.pool 3 .int l34_p2)]),2⟩) ⟨_,(weak_ren [((oi 3 1),(oi 992 21)),((oi 4 1),(oi 993 21))]),⟨0,y31.1,y31.2,rfl,rfl⟩⟩ ?_
     rintro n_ _ _ c_ ⟨l34_m65,l34_p0,l34_p2,rfl,rfl⟩ h hn34
     (try dsimp only at h)
     unfold L_impl_reduction_l3 at h
     unfold m_impl_reduction_l3
     refine seqR ?_
     refine awp_seqv_ ?_
     rcases cond_some h with ⟨q37,h⟩ | ⟨q37,h⟩
     ·have q37_:=of_decide_eq_true q37
      refine awp_condT_ q37 ?_
      refine awp_skip_ (tn_ ?_)
      refine wr_ ?_
      refine awp_seqB h (fun t_ S_=>∃ (l38_p0:List (List Int)),∃ (l38_p2:List (List Int)),t_=(l38_p0,l38_p2)∧S_=⟨mkTm [(2,(ai a2)),(5,(.box (oi 0 1) 0)),(9,(ai ((l7_m9:Nat):Int))),(10,(.fn 92 [(.box (oi 1 1) 0),(.box (oi 0 1) 0),(.box (oi 2 1) 0)])),(11,(ai ((l7_m11:Nat):Int))),(64,(ai ((y31.1.length:Nat):Int))),(65,(ai ((l34_m65:Nat):Int)))],mkOb (someL [((oi 0 1),.cells 27 [(.own (oi 0 0) (.slice .int) 0 l38_p0.length)]),((oi 1 1),.cells 3 [(ai a0)]),((oi 2 1),.cells 27 [(.own (oi 2 0) (.slice .int) 0 l38_p2.length)]),((oi 0 0),.mat 23 (oi 3 1) .int l38_p0),((oi 3 1),.pool 3 .int l38_p0),((oi 2 0),.mat 23 (oi 4 1) .int l38_p2),((oi 4 1),.pool 3 .int l38_p2)]),2⟩) ?_ ?_
      ·intro v_ h
       refine awp_block_ ?_
       refine seqR ?_
       refine awp_seqB h (fun (l40_m80:Bool) S_=>S_=⟨mkTm [(2,(ai a2)),(5,(.box (oi 0 1) 0)),(9,(ai ((l7_m9:Nat):Int))),(10,(.fn 92 [(.box (oi 1 1) 0),(.box (oi 0 1) 0),(.box (oi 2 1) 0)])),(11,(ai ((l7_m11:Nat):Int))),(13,(ai ((l34_m65:Nat):Int))),(64,(ai ((y31.1.length:Nat):Int))),(65,(ai ((l34_m65:Nat):Int))),(80,(.bool l40_m80))],mkOb (someL [((oi 0 1),.cells 27 [(.own (oi 0 0) (.slice .int) 0 l34_p0.length)]),((oi 1 1),.cells 3 [(ai a0)]),((oi 2 1),.cells 27 [(.own (oi 2 0) (.slice .int) 0 l34_p2.length)]),((oi 0 0),.mat 23 (oi 3 1) .int l34_p0),((oi 3 1),.pool 3 .int l34_p0),((oi 2 0),.mat 23 (oi 4 1) .int l34_p2),((oi 4 1),.pool 3 .int l34_p2)]),2⟩) ?_ ?_
       ·intro v_ h
        rcases cond_some h with ⟨q41,h⟩ | ⟨q41,h⟩
        ·obtain ⟨x42,e42,h⟩:=ob_some h
         obtain ⟨x43,e43,h⟩:=ob_some h
         refine awp_region_ 18 ?_
         refine rz0 (ai ((l34_m65:Nat):Int)) ?_
         refine rz0 (ai ((l7_m9:Nat):Int)) ?_
         refine rz0 (.bool (((l34_m65:Nat):Int) !=((l7_m9:Nat):Int))) ?_
         refine rz0 (.bool (((l34_m65:Nat):Int) !=((l7_m9:Nat):Int))) ?_
         refine rsl (.own (oi 0 0) (.slice .int) 0 l34_p0.length) (zg q41) ?_
         refine rs0 (ai ((l34_m65:Nat):Int)) (zg q41) ?_
         refine rs0 (.elt (oi 0 0) l34_m65 0) (s_gd (by kernel_rfl) q41 (zo (t:=(.slice .int)) (o:=(oi 0 0)) (len:=l34_p0.length) (k:=.i64) (m:=((l34_m65:Nat):Int)) (nat_nn _) (getN_lt e42))) ?_
         refine rsl (.own (kid (oi 3 1) l34_m65) .int 0 x42.length) (s_gd (by kernel_rfl) q41 (s_ldM (o:=(oi 0 0)) (p:=(oi 3 1)) (e1:=23) (u:=.int) (xss:=l34_p0) (row:=x42) (j:=l34_m65) (by kernel_rfl) (by kernel_rfl) e42)) ?_
         refine rs0 (ai ((l7_m11:Nat):Int)) (zg q41) ?_
         refine rs0 (.elt (kid (oi 3 1) l34_m65) l7_m11 0) (s_gd (by kernel_rfl) q41 (zo (t:=.int) (o:=(kid (oi 3 1) l34_m65)) (len:=x42.length) (k:=.i64) (m:=((l7_m11:Nat):Int)) (nat_nn _) (getN_lt e43))) ?_
         refine rsl (ai x43) (s_gd (by kernel_rfl) q41 (s_ldE (i:=(kid (oi 3 1) l34_m65)) (j:=l7_m11) (k:=0) (e:=3) (t:=.int) (xs:=x42) (by kernel_rfl) (mkOb_kid (by kernel_rfl) e42) e43 (by kernel_rfl))) ?_
         refine rs0 (.bool (x43 !=0)) (zg q41) ?_
         refine rs0 (.bool (x43 !=0)) (zT q41) ?_
         refine rnil (tn_ ?_)
         obtain rfl:=zj h
         exact ⟨_,(weak_ren []),rfl⟩
        refine awp_region_ 18 ?_
        refine rz0 (ai ((l34_m65:Nat):Int)) ?_
        refine rz0 (ai ((l7_m9:Nat):Int)) ?_
        refine rz0 (.bool (((l34_m65:Nat):Int) !=((l7_m9:Nat):Int))) ?_
        refine rz0 (.bool (((l34_m65:Nat):Int) !=((l7_m9:Nat):Int))) ?_
        refine zs q41 ?_
        refine zs q41 ?_
        refine zs q41 ?_
        refine zs q41 ?_
        refine zs q41 ?_
        refine zs q41 ?_
        refine zs q41 ?_
        refine zs q41 ?_
        refine rs0 (.bool false) (zF q41) ?_
        refine rnil (tn_ ?_)
        obtain rfl:=zj h
        exact ⟨_,(weak_ren []),rfl⟩
       rintro l40_m80 _ rfl h
       (try dsimp only at h)
       rcases cond_some h with ⟨q44,h⟩ | ⟨q44,h⟩
       ·refine awp_condT_ q44 ?_
        obtain ⟨x45,e45,h⟩:=ob_some h
        obtain ⟨x46,e46,h⟩:=ob_some h
        obtain ⟨y47,h47,h⟩:=ob_some h
        refine awp_region_ 14 ?_
        refine rz0 (.fn 92 [(.box (oi 1 1) 0),(.box (oi 0 1) 0),(.box (oi 2 1) 0)]) ?_
        refine rz0 (ai ((l34_m65:Nat):Int)) ?_
        refine rz0 (ai ((l7_m9:Nat):Int)) ?_
        refine rzl (.own (oi 0 0) (.slice .int) 0 l34_p0.length) ?_
        refine rz0 (ai ((l34_m65:Nat):Int)) ?_
        refine rs0 (.elt (oi 0 0) l34_m65 0) (zo (t:=(.slice .int)) (o:=(oi 0 0)) (len:=l34_p0.length) (k:=.i64) (m:=((l34_m65:Nat):Int)) (nat_nn _) (getN_lt e45)) ?_
        refine rsl (.own (kid (oi 3 1) l34_m65) .int 0 x45.length) (s_ldM (o:=(oi 0 0)) (p:=(oi 3 1)) (e1:=23) (u:=.int) (xss:=l34_p0) (row:=x45) (j:=l34_m65) (by kernel_rfl) (by kernel_rfl) e45) ?_
        refine rz0 (ai ((l7_m11:Nat):Int)) ?_
        refine rs0 (.elt (kid (oi 3 1) l34_m65) l7_m11 0) (zo (t:=.int) (o:=(kid (oi 3 1) l34_m65)) (len:=x45.length) (k:=.i64) (m:=((l7_m11:Nat):Int)) (nat_nn _) (getN_lt e46)) ?_
        refine rsl (ai x46) (s_ldE (i:=(kid (oi 3 1) l34_m65)) (j:=l7_m11) (k:=0) (e:=3) (t:=.int) (xs:=x45) (by kernel_rfl) (mkOb_kid (by kernel_rfl) e45) e46 (by kernel_rfl)) ?_
        refine rz0 (.agg [(ai 2),(ai ((l34_m65:Nat):Int)),(ai ((l7_m9:Nat):Int)),(ai x46)]) ?_
        refine rcallM (.tup []) [((oi 1 1),some (.cells 3 [(ai a0)])),((oi 0 1),some (.cells 27 [(.own (oi 0 0) (.slice .int) 0 y47.1.length)])),((oi 0 0),some (.mat 23 (oi 1472 13) .int y47.1)),((oi 1472 13),some (.pool 3 .int y47.1)),((oi 2 1),some (.cells 27 [(.own (oi 2 0) (.slice .int) 0 y47.2.length)])),((oi 2 0),some (.mat 23 (oi 1473 13) .int y47.2)),((oi 1473 13),some (.pool 3 .int y47.2)),((oi 1 1),none),((oi 0 1),none),((oi 0 0),none),((oi 3 1),some (.pool 3 .int [])),((oi 2 1),none),((oi 2 0),none),((oi 4 1),some (.pool 3 .int []))] [((oi 0 0),(oi 1 1)),((oi 1 0),(oi 0 1)),((oi 2 0),(oi 0 0)),((oi 3 0),(oi 3 1)),((oi 4 0),(oi 2 1)),((oi 5 0),(oi 2 0)),((oi 6 0),(oi 4 1))] [(.agg [(ai 2),(ai ((l34_m65:Nat):Int)),(ai ((l7_m9:Nat):Int)),(ai x46)]),(.box (oi 1 1) 0),(.box (oi 0 1) 0),(.box (oi 2 1) 0)] (caps:=[(.box (oi 1 1) 0),(.box (oi 0 1) 0),(.box (oi 2 1) 0)]) trivial (ok_impl_reduction_1 h47) hb_impl_reduction_1 ⟨(by kernel_rfl),⟨(by kernel_rfl),⟨(by kernel_rfl),⟨(by kernel_rfl),⟨(by kernel_rfl),⟨(by kernel_rfl),⟨(by kernel_rfl),trivial⟩⟩⟩⟩⟩⟩⟩ (.cons (.ren (by kernel_rfl)) (.cons (.ren (by kernel_rfl)) (.cons (.ren (by kernel_rfl)) (.cons (.ren (by kernel_rfl)) .nil)))) (reachL_mem (by kernel_rfl) (by kernel_rfl) ⟨(re_arg (by kernel_rfl)),⟨(re_arg (by kernel_rfl)),⟨(re_cells (k:=(oi 0 1)) (ty:=27) (cs:=[(.own (oi 0 0) (.slice .int) 0 l34_p0.length)]) (re_arg (by kernel_rfl)) (by kernel_rfl) (by kernel_rfl)),⟨re_rows (o:=(oi 0 0)) (p:=(oi 3 1)) (e1:=23) (m:=l34_p0.length) (u:=.int) (xss:=l34_p0) (re_cells (k:=(oi 0 1)) (ty:=27) (cs:=[(.own (oi 0 0) (.slice .int) 0 l34_p0.length)]) (re_arg (by kernel_rfl)) (by kernel_rfl) (by kernel_rfl)) (by kernel_rfl),⟨(re_arg (by kernel_rfl)),⟨(re_cells (k:=(oi 2 1)) (ty:=27) (cs:=[(.own (oi 2 0) (.slice .int) 0 l34_p2.length)]) (re_arg (by kernel_rfl)) (by kernel_rfl) (by kernel_rfl)),⟨re_rows (o:=(oi 2 0)) (p:=(oi 4 1)) (e1:=23) (m:=l34_p2.length) (u:=.int) (xss:=l34_p2) (re_cells (k:=(oi 2 1)) (ty:=27) (cs:=[(.own (oi 2 0) (.slice .int) 0 l34_p2.length)]) (re_arg (by kernel_rfl)) (by kernel_rfl) (by kernel_rfl)) (by kernel_rfl),trivial⟩⟩⟩⟩⟩⟩⟩) ?_
        refine rnil (bn_ (tn_ ?_))
        obtain rfl:=zj h
        exact ⟨_,(weak_ren [((oi 3 1),(oi 1472 13)),((oi 4 1),(oi 1473 13))]),⟨y47.1,y47.2,rfl,rfl⟩⟩
       refine awp_condF_ q44 ?_
       refine awp_skip_ (bn_ (tn_ ?_))
       obtain rfl:=zj h
       exact ⟨_,(weak_ren []),⟨l34_p0,l34_p2,rfl,rfl⟩⟩
      rintro _ _ ⟨l38_p0,l38_p2,rfl,rfl⟩ h
      (try dsimp only at h)
      obtain ⟨g48,h⟩:=og_some h
      refine awp_region_ 4 ?_
      refine rs0 (ai ((l34_m65+1:Nat):Int)) (za g48) ?_
      refine rsB 1 ?_
      refine rnil (tn_ ?_)
      obtain rfl:=zj h
      exact ⟨(l34_m65+1,l38_p0,l38_p2),_,(weak_ren []),⟨l34_m65+1,l38_p0,l38_p2,rfl,rfl⟩,hn34⟩
     have q37_:=of_decide_eq_false q37
     refine awp_condF_ q37 ?_
     refine awp_exit_ (te_ (te_ (be_ (tn_ ?_))))
     obtain rfl:=zj h
     have h:=hn34
     (try dsimp only at h)
     obtain rfl:=zj h
     exact ⟨_,(weak_ren []),⟨l34_p0,l34_p2,rfl,rfl⟩⟩
    rintro _ _ ⟨l32_p0,l32_p2,rfl,rfl⟩ h
    (try dsimp only at h)
    obtain ⟨g49,h⟩:=og_some h
    refine awp_region_ 5 ?_
    refine rz0 (ai ((l7_m9:Nat):Int)) ?_
    refine rs0 (ai ((l7_m9+1:Nat):Int)) (za g49) ?_
    refine rsB 1 ?_
    refine rnil (bn_ (tn_ ?_))
    obtain rfl:=zj h
    exact ⟨_,(weak_ren []),⟨l7_m9+1,l32_p0,l32_p2,rfl,rfl⟩⟩
   rintro _ _ ⟨l12_m9,l12_p0,l12_p2,rfl,rfl⟩ h
   (try dsimp only at h)
   obtain ⟨g50,h⟩:=og_some h
   refine awp_region_ 5 ?_
   refine rz0 (ai ((l7_m11:Nat):Int)) ?_
   refine rs0 (ai ((l7_m11+1:Nat):Int)) (za g50) ?_
   refine rsB 1 ?_
   refine rnil (tn_ ?_)
   obtain rfl:=zj h
   exact ⟨(l12_m9,l7_m11+1,l12_p0,l12_p2),_,(weak_ren []),⟨l12_m9,l7_m11+1,l12_p0,l12_p2,rfl,rfl⟩,hn7⟩
  refine awp_condF_ q11 ?_
  refine awp_exit_ (te_ (te_ (be_ (tn_ ?_))))
  obtain rfl:=zj h
  have h:=hn7
  (try dsimp only at h)
  obtain rfl:=zj h
  exact ⟨_,(weak_ren [((oi 0 1),(oi 3 1)),((oi 1 1),(oi 4 1))]),⟨l7_m9,l7_p0,l7_p2,rfl,rfl⟩⟩
 rintro _ _ ⟨l5_m9,l5_p0,l5_p2,rfl,rfl⟩ h
 (try dsimp only at h)
 refine seqR ?_
 refine awp_ret_ ?_
 obtain rfl:=zj h
 exact retM_ [(ai ((l5_m9:Nat):Int))] (weak_ren (tl:=[(8,(ai ((l5_m9:Nat):Int)))]) (g:=2) [])
end Go.Proofs.YtkaollfdhoaihaaDoor
namespace Go.Proofs.YtkaollfdhoaihaaDoor
open Go.RowKit Go.Deep
set_option maxRecDepth 4000
def m_laws_eqIntSS_l1:AC :=
 (.seq (.seq (rg [xo 11 (qm (tm 5)),xo 12 (qm (tm 0)),xo 13 (.i (.len (tm 12))),xo 14 (qb .lss (tm 11) (tm 13))])
 (.cond (tm 14)
  .skip
  (.exit 0)))
 (.seq (.block 1 (.seq (.region [xo 17 (qm (tm 0)),xo 18 (qm (tm 5)),xo 19 (qx 1 (tm 17) (tm 18)),xo 20 (ql (tm 19)),xo 21 (qm (tm 1)),xo 22 (qm (tm 5)),xo 23 (qx 1 (tm 21) (tm 22)),xo 24 (ql (tm 23)),xo 25 (qc 17 [(tm 20),(tm 24)] [[(some .int)],[(some .int)]]),xo 26 (.i (.not (tm 25)))] true [])
 (.cond (tm 26)
  (.seq (rg [xo 4 (qm (cb false))])
  .ret)
  .skip)))
 (rg [xo 15 (qm (tm 5)),xo 16 (qb .add (tm 15) (ci 1)),xo 5 (qm (tm 16))])))
def m_laws_eqIntSS:AC :=
 (.seq (rg [xo 4 (qm (cb false))])
 (.seq (.seq (rg [xo 6 (qm (tm 0)),xo 7 (.i (.len (tm 6))),xo 8 (qm (tm 1)),xo 9 (.i (.len (tm 8))),xo 10 (qb .neq (tm 7) (tm 9))])
 (.cond (tm 10)
  (.seq (rg [xo 4 (qm (cb false))])
  .ret)
  .skip))
 (.seq (.seq (rg [xo 5 (qm (ci 0))])
 (.block 0 (.loop m_laws_eqIntSS_l1)))
 (.seq (rg [xo 4 (qm (cb true))])
 .ret))))
def r_laws_eqIntSS:List Res:=[.tmp 4]
theorem c_laws_eqIntSS:compiled Tryd.prog Tryd.f32=some (m_laws_eqIntSS,r_laws_eqIntSS):=by kernel_rfl
def L_laws_eqIntSS_l1 (a0:List (List Int)) (a1:List (List Int)) (l8_m5:Nat):Option (Ctl Nat (Ctl Unit Bool)) :=
 cond (decide (((l8_m5:Nat):Int)<((a0.length:Nat):Int)))
 (Option.bind (a0[l8_m5]?) fun x14 =>
 Option.bind (a1[l8_m5]?) fun x15 =>
 Option.bind (L_laws_eqIntS x14 x15) fun y16 =>
 cond (!y16)
  (some (Ctl.out (Ctl.out false)))
  (og (l8_m5+1<4611686018427387904) <|
  some (Ctl.next (l8_m5+1))))
 (some (Ctl.out (Ctl.next ())))
def L_laws_eqIntSS (a0:List (List Int)) (a1:List (List Int)):Option Bool :=
 cond (((a0.length:Nat):Int) !=((a1.length:Nat):Int))
 (some false)
 (seqC (loopM (fun s_:Nat=>L_laws_eqIntSS_l1 a0 a1 s_) 4611686018427387904 0) fun _ =>
 some true)
def rv_laws_eqIntSS (r:Bool):RV:=⟨false,[(false,[.sc (.bool r)])]⟩
theorem ok_laws_eqIntSS {a0:List (List Int)} {a1:List (List Int)} {r:Bool} (h:L_laws_eqIntSS a0 a1=some r):CallOK Tryd.prog Tab 32 [(.tree (.slice .int) a0),(.tree (.slice .int) a1)] (rv_laws_eqIntSS r):=by
 refine call_of_ (by kernel_rfl) Tryd.func32 c_laws_eqIntSS (n:=27) (by kernel_rfl) (by simp) (tl:=[(0,(.tree (.slice .int) a0)),(1,(.tree (.slice .int) a1))]) rfl ?_
 unfold m_laws_eqIntSS
 unfold L_laws_eqIntSS at h
 refine seqR ?_
 refine awp_seqv_ ?_
 refine seqR ?_
 rcases cond_some h with ⟨q4,h⟩ | ⟨q4,h⟩
 ·refine awp_condT_ q4 ?_
  refine seqR ?_
  refine awp_ret_ (tr_ ?_)
  obtain rfl:=zj h
  exact ret_ [(.bool false)] (p_one rfl zl p_nil)
 refine awp_condF_ q4 ?_
 refine awp_skip_ (tn_ ?_)
 refine wr_ ?_
 refine awp_seqC h (fun (_:Unit) S_=>S_=⟨mkTm [],mkOb (someL []),2⟩) ?_ ?_
 ·intro v_ h hk6
  refine seqR ?_
  refine awp_block_ ?_
  refine awp_loopL h (fun (l8_m5:Nat) S_=>S_=⟨mkTm [(0,(.tree (.slice .int) a0)),(1,(.tree (.slice .int) a1)),(5,(ai ((l8_m5:Nat):Int)))],mkOb (someL []),2⟩) ⟨_,(weak_ren []),rfl⟩ ?_
  rintro n_ l8_m5 _ c_ rfl h hn8
  (try dsimp only at h)
  unfold L_laws_eqIntSS_l1 at h
  unfold m_laws_eqIntSS_l1
  refine awp_seqv_ ?_
  refine seqR ?_
  rcases cond_some h with ⟨q11,h⟩ | ⟨q11,h⟩
  ·have q11_:=of_decide_eq_true q11
   refine awp_condT_ q11 ?_
   refine awp_skip_ (tn_ ?_)
   refine wr_ ?_
   refine awp_seqv_ ?_
   refine awp_block_ ?_
   refine awp_seqv_ ?_
   obtain ⟨x14,e14,h⟩:=ob_some h
   obtain ⟨x15,e15,h⟩:=ob_some h
   obtain ⟨y16,h16,h⟩:=ob_some h
   refine awp_regionD_ 16 ?_
   refine dz0 (.tree (.slice .int) a0) ?_
   refine dz0 (ai ((l8_m5:Nat):Int)) ?_
   refine ds0 (.telt (.slice .int) x14 0) (zi (t:=(.slice .int)) (xs:=a0) (k:=.i64) (m:=((l8_m5:Nat):Int)) (nat_nn _) e14) ?_
   refine dz0 (.tree .int x14) ?_
   refine dz0 (.tree (.slice .int) a1) ?_
   refine dz0 (ai ((l8_m5:Nat):Int)) ?_
   refine ds0 (.telt (.slice .int) x15 0) (zi (t:=(.slice .int)) (xs:=a1) (k:=.i64) (m:=((l8_m5:Nat):Int)) (nat_nn _) e15) ?_
   refine dz0 (.tree .int x15) ?_
   refine dcall (.bool y16) [] [(.tree .int x14),(.tree .int x15)] _ (caps:=[]) (args0:=[(.tree .int x14),(.tree .int x15)]) trivial (by kernel_rfl) (ok_laws_eqIntS h16) hb_laws_eqIntS ?_
   refine dz0 (.bool (!y16)) ?_
   refine dnil (badB_spec (by kernel_rfl)) (tn_ ?_)
   refine wr_ ?_
   rcases cond_some h with ⟨q17,h⟩ | ⟨q17,h⟩
   ·refine awp_condT_ q17 ?_
    refine seqR ?_
    refine awp_ret_ (br_ (tr_ (tr_ (br_ (tr_ ?_)))))
    obtain rfl:=zj h
    have h:=hn8
    (try dsimp only at h)
    obtain rfl:=zj h
    have h:=hk6
    (try dsimp only at h)
    obtain rfl:=zj h
    exact ret_ [(.bool false)] (p_one rfl zl p_nil)
   refine awp_condF_ q17 ?_
   refine awp_skip_ (bn_ (tn_ ?_))
   refine wr_ ?_
   obtain ⟨g19,h⟩:=og_some h
   refine awp_region_ 19 ?_
   refine rz0 (ai ((l8_m5:Nat):Int)) ?_
   refine rs0 (ai ((l8_m5+1:Nat):Int)) (za g19) ?_
   refine rsB 1 ?_
   refine rnil (tn_ ?_)
   obtain rfl:=zj h
   exact ⟨l8_m5+1,_,(weak_ren []),rfl,hn8⟩
  have q11_:=of_decide_eq_false q11
  refine awp_condF_ q11 ?_
  refine awp_exit_ (te_ (te_ (be_ (tn_ ?_))))
  obtain rfl:=zj h
  have h:=hn8
  (try dsimp only at h)
  obtain rfl:=zj h
  exact ⟨(),_,rfl,(weak_ren []),rfl⟩
 rintro _ _ rfl h
 (try dsimp only at h)
 refine seqR ?_
 refine awp_ret_ ?_
 obtain rfl:=zj h
 exact ret_ [(.bool true)] (p_one rfl zl p_nil)
def m_laws_markIntSS_l1:AC :=
 (.seq (.seq (rg [xo 6 (qm (tm 5)),xo 7 (qm (tm 0)),xo 8 (.i (.len (tm 7))),xo 9 (qb .lss (tm 6) (tm 8))])
 (.cond (tm 9)
  .skip
  (.exit 0)))
 (.seq (.block 1 (rg [xo 12 (qm (tm 0)),xo 13 (qm (tm 5)),xo 14 (qx 1 (tm 12) (tm 13)),xo 15 (ql (tm 14)),xo 16 (qm (tm 1)),xo 17 (qc 18 [(tm 15),(tm 16)] [[(some .int)],[]]),xo 1 (qm (tm 17))]))
 (rg [xo 10 (qm (tm 5)),xo 11 (qb .add (tm 10) (ci 1)),xo 5 (qm (tm 11))])))
def m_laws_markIntSS:AC :=
 (.seq (rg [xo 4 (qm (ci 0))])
 (.seq (.seq (rg [xo 5 (qm (ci 0))])
 (.block 0 (.loop m_laws_markIntSS_l1)))
 (.seq (rg [xo 18 (qm (tm 1)),xo 4 (qm (tm 18))])
 .ret)))
def r_laws_markIntSS:List Res:=[.tmp 4]
theorem c_laws_markIntSS:compiled Tryd.prog Tryd.f35=some (m_laws_markIntSS,r_laws_markIntSS):=by kernel_rfl
theorem hb_laws_markIntSS:hasBody Tryd.prog 35=true:=by kernel_rfl
def L_laws_markIntSS_l1  (l5_m1:Int) (l5_m5:Nat) (l5_m0:List (List Int)):Option (Ctl (Int×Nat×List (List Int)) (Int×List (List Int))) :=
 cond (decide (((l5_m5:Nat):Int)<((l5_m0.length:Nat):Int)))
 (Option.bind (l5_m0[l5_m5]?) fun x10 =>
 Option.bind (L_laws_markIntS x10 l5_m1) fun y11 =>
 og (y11.1.length=x10.length) <|
 og (l5_m5+1<4611686018427387904) <|
 some (Ctl.next (y11.2,l5_m5+1,l5_m0.set l5_m5 y11.1)))
 (some (Ctl.out (l5_m1,l5_m0)))
def L_laws_markIntSS (a0:List (List Int)) (a1:Int):Option (List (List Int)×Int) :=
 Option.bind (loopM (fun s_:Int×Nat×List (List Int)=>L_laws_markIntSS_l1 s_.1 s_.2.1 s_.2.2) 4611686018427387904 (a1,0,a0)) fun (l3_m1,l3_p0) =>
some (l3_p0,l3_m1)
theorem ok_laws_markIntSS {a0:List (List Int)} {a1:Int} {r:List (List Int)×Int} (h:L_laws_markIntSS a0 a1=some r) {n_a0:Nat} (hn_a0:n_a0=a0.length):CallM Tryd.prog Tab 35 [(.own (oi 0 0) (.slice .int) 0 n_a0),(ai a1)] [((oi 0 0),.mat 23 (oi 1 0) .int a0),((oi 1 0),.pool 3 .int a0)] (ai r.2) [((oi 0 0),.mat 23 (oi 0 1) .int r.1),((oi 0 1),.pool 3 .int r.1)]:=by
 refine callM_of_ (by kernel_rfl) Tryd.func35 c_laws_markIntSS (n:=19) (by kernel_rfl) (by simp) (tl:=[(0,(.own (oi 0 0) (.slice .int) 0 n_a0)),(1,(ai a1))]) rfl (by kernel_rfl) ⟨⟨3,(.tail _ (.head _))⟩,⟨trivial,trivial⟩⟩ ⟨⟨3,(.tail _ (.head _))⟩,⟨trivial,trivial⟩⟩ ?_
 unfold m_laws_markIntSS
 unfold L_laws_markIntSS at h
 refine seqR ?_
 refine awp_seqB h (fun t_ S_=>∃ (l3_m1:Int),∃ (l3_p0:List (List Int)),t_=(l3_m1,l3_p0)∧S_=⟨mkTm [(1,(ai l3_m1))],mkOb (someL [((oi 0 0),.mat 23 (oi 0 1) .int l3_p0),((oi 0 1),.pool 3 .int l3_p0)]),2⟩) ?_ ?_
 ·intro v_ h
  refine seqR ?_
  refine awp_block_ ?_
  refine awp_loopL h (fun t_ S_=>∃ (l5_m1:Int),∃ (l5_m5:Nat),∃ (l5_m0:List (List Int)),t_=(l5_m1,l5_m5,l5_m0)∧S_=⟨mkTm [(0,(.own (oi 0 0) (.slice .int) 0 l5_m0.length)),(1,(ai l5_m1)),(5,(ai ((l5_m5:Nat):Int)))],mkOb (someL [((oi 0 0),.mat 23 (oi 0 1) .int l5_m0),((oi 0 1),.pool 3 .int l5_m0)]),2⟩) ⟨_,((weak_tm_ 0 (.own (oi 0 0) (.slice .int) 0 n_a0) (.own (oi 0 0) (.slice .int) 0 a0.length) (by kernel_rfl) (congrArg (fun z_=>((.own (oi 0 0) (.slice .int) 0 z_):AV)) (hn_a0:n_a0=a0.length))).trans (weak_ren [((oi 0 1),(oi 1 0))])),⟨a1,0,a0,rfl,rfl⟩⟩ ?_
  rintro n_ _ _ c_ ⟨l5_m1,l5_m5,l5_m0,rfl,rfl⟩ h hn5
  (try dsimp only at h)
  unfold L_laws_markIntSS_l1 at h
  unfold m_laws_markIntSS_l1
  refine awp_seqv_ ?_
  refine seqR ?_
  rcases cond_some h with ⟨q8,h⟩ | ⟨q8,h⟩
  ·have q8_:=of_decide_eq_true q8
   refine awp_condT_ q8 ?_
   refine awp_skip_ (tn_ ?_)
   refine wr_ ?_
   refine awp_seqv_ ?_
   refine awp_block_ ?_
   obtain ⟨x10,e10,h⟩:=ob_some h
   obtain ⟨y11,h11,h⟩:=ob_some h
   obtain ⟨g12,h⟩:=og_some h
   refine awp_region_ 13 ?_
   refine rz0 (.own (oi 0 0) (.slice .int) 0 l5_m0.length) ?_
   refine rz0 (ai ((l5_m5:Nat):Int)) ?_
   refine rs0 (.elt (oi 0 0) l5_m5 0) (zo (t:=(.slice .int)) (o:=(oi 0 0)) (len:=l5_m0.length) (k:=.i64) (m:=((l5_m5:Nat):Int)) (nat_nn _) (getN_lt e10)) ?_
   refine rsl (.own (kid (oi 0 1) l5_m5) .int 0 x10.length) (s_ldM (o:=(oi 0 0)) (p:=(oi 0 1)) (e1:=23) (u:=.int) (xss:=l5_m0) (row:=x10) (j:=l5_m5) (by kernel_rfl) (by kernel_rfl) e10) ?_
   refine rz0 (ai l5_m1) ?_
   refine rcallM (ai y11.2) [((kid (oi 0 1) l5_m5),some (.arr 3 .int y11.1)),((kid (oi 0 1) l5_m5),none)] [((oi 0 0),(kid (oi 0 1) l5_m5))] [(.own (kid (oi 0 1) l5_m5) .int 0 x10.length),(ai l5_m1)] (caps:=[]) trivial (ok_laws_markIntS h11 rfl) hb_laws_markIntS ⟨(entAt_kid (by kernel_rfl) e10),trivial⟩ (.cons (.ren (by kernel_rfl)) (.cons (.ren (by kernel_rfl)) .nil)) (reachL_mem (by kernel_rfl) (by kernel_rfl) ⟨(.arg (by simp [AV.nmsL,AV.nms,renF])),trivial⟩) ?_
   refine xw_ob (ob_row (o:=(oi 0 0)) (p:=(oi 0 1)) (e1:=23) (e:=3) (u:=.int) (xss:=l5_m0) (k:=l5_m5) (row:=x10) (row':=y11.1) (by kernel_rfl) rfl (by kernel_rfl) e10 g12) ?_
   refine rsB 1 ?_
   refine rnil (bn_ (tn_ ?_))
   refine wr_ ?_
   obtain ⟨g13,h⟩:=og_some h
   refine awp_region_ 16 ?_
   refine rz0 (ai ((l5_m5:Nat):Int)) ?_
   refine rs0 (ai ((l5_m5+1:Nat):Int)) (za g13) ?_
   refine rsB 1 ?_
   refine rnil (tn_ ?_)
   obtain rfl:=zj h
   exact ⟨(y11.2,l5_m5+1,l5_m0.set l5_m5 y11.1),_,((weak_tm_ 0 (.own (oi 0 0) (.slice .int) 0 l5_m0.length) (.own (oi 0 0) (.slice .int) 0 ((l5_m0.set l5_m5 y11.1).length)) (by kernel_rfl) (congrArg (fun z_=>((.own (oi 0 0) (.slice .int) 0 z_):AV)) ((Eq.trans (b:=l5_m0.length) rfl List.length_set.symm):l5_m0.length=(l5_m0.set l5_m5 y11.1).length))).trans (weak_ren [])),⟨y11.2,l5_m5+1,l5_m0.set l5_m5 y11.1,rfl,rfl⟩,hn5⟩
  have q8_:=of_decide_eq_false q8
  refine awp_condF_ q8 ?_
  refine awp_exit_ (te_ (te_ (be_ (tn_ ?_))))
  obtain rfl:=zj h
  have h:=hn5
  (try dsimp only at h)
  obtain rfl:=zj h
  exact ⟨_,(weak_ren []),⟨l5_m1,l5_m0,rfl,rfl⟩⟩
 rintro _ _ ⟨l3_m1,l3_p0,rfl,rfl⟩ h
 (try dsimp only at h)
 refine seqR ?_
 refine awp_ret_ ?_
 obtain rfl:=zj h
 exact retM_ [(ai l3_m1)] (weak_ren (tl:=[(4,(ai l3_m1))]) (g:=2) [])
def m_laws_heldIntSS_l1:AC :=
 (.seq (.seq (rg [xo 6 (qm (tm 5)),xo 7 (qm (tm 0)),xo 8 (.i (.len (tm 7))),xo 9 (qb .lss (tm 6) (tm 8))])
 (.cond (tm 9)
  .skip
  (.exit 0)))
 (.seq (.block 1 (.seq (rg [xo 12 (qm (tm 0)),xo 13 (qm (tm 5)),xo 14 (qx 1 (tm 12) (tm 13)),xo 15 (ql (tm 14)),xo 16 (qm (tm 1)),xo 17 (qc 19 [(tm 15),(tm 16)] [[(some .int)],[]]),xo 1 (qm (tm 17))])
 (.seq (rg [xo 18 (qm (tm 1)),xo 19 (qb .lss (tm 18) (ci 0))])
 (.cond (tm 19)
  (.seq (rg [xo 4 (qm (ci (-1)))])
  .ret)
  .skip))))
 (rg [xo 10 (qm (tm 5)),xo 11 (qb .add (tm 10) (ci 1)),xo 5 (qm (tm 11))])))
def m_laws_heldIntSS:AC :=
 (.seq (rg [xo 4 (qm (ci 0))])
 (.seq (.seq (rg [xo 5 (qm (ci 0))])
 (.block 0 (.loop m_laws_heldIntSS_l1)))
 (.seq (rg [xo 20 (qm (tm 1)),xo 4 (qm (tm 20))])
 .ret)))
def r_laws_heldIntSS:List Res:=[.tmp 4]
theorem c_laws_heldIntSS:compiled Tryd.prog Tryd.f36=some (m_laws_heldIntSS,r_laws_heldIntSS):=by kernel_rfl
def L_laws_heldIntSS_l1 (a0:List (List Int)) (l4_m1:Int) (l4_m5:Nat):Option (Ctl (Int×Nat) (Ctl Int Int)) :=
 cond (decide (((l4_m5:Nat):Int)<((a0.length:Nat):Int)))
 (Option.bind (a0[l4_m5]?) fun x10 =>
 Option.bind (L_laws_heldIntS x10 l4_m1) fun y11 =>
 cond (decide (y11<0))
  (some (Ctl.out (Ctl.out (-1))))
  (og (l4_m5+1<4611686018427387904) <|
  some (Ctl.next (y11,l4_m5+1))))
 (some (Ctl.out (Ctl.next l4_m1)))
def L_laws_heldIntSS (a0:List (List Int)) (a1:Int):Option Int :=
 seqC (loopM (fun s_:Int×Nat=>L_laws_heldIntSS_l1 a0 s_.1 s_.2) 4611686018427387904 (a1,0)) fun l2_m1 =>
some l2_m1
def rv_laws_heldIntSS (r:Int):RV:=⟨false,[(false,[.sc (.int .i64 r)])]⟩
theorem ok_laws_heldIntSS {a0:List (List Int)} {a1:Int} {r:Int} (h:L_laws_heldIntSS a0 a1=some r):CallOK Tryd.prog Tab 36 [(.tree (.slice .int) a0),(ai a1)] (rv_laws_heldIntSS r):=by
 refine call_of_ (by kernel_rfl) Tryd.func36 c_laws_heldIntSS (n:=21) (by kernel_rfl) (by simp) (tl:=[(0,(.tree (.slice .int) a0)),(1,(ai a1))]) rfl ?_
 unfold m_laws_heldIntSS
 unfold L_laws_heldIntSS at h
 refine seqR ?_
 refine awp_seqC h (fun (l2_m1:Int) S_=>S_=⟨mkTm [(1,(ai l2_m1))],mkOb (someL []),2⟩) ?_ ?_
 ·intro v_ h hk2
  refine seqR ?_
  refine awp_block_ ?_
  refine awp_loopL h (fun t_ S_=>∃ (l4_m1:Int),∃ (l4_m5:Nat),t_=(l4_m1,l4_m5)∧S_=⟨mkTm [(0,(.tree (.slice .int) a0)),(1,(ai l4_m1)),(5,(ai ((l4_m5:Nat):Int)))],mkOb (someL []),2⟩) ⟨_,(weak_ren []),⟨a1,0,rfl,rfl⟩⟩ ?_
  rintro n_ _ _ c_ ⟨l4_m1,l4_m5,rfl,rfl⟩ h hn4
  (try dsimp only at h)
  unfold L_laws_heldIntSS_l1 at h
  unfold m_laws_heldIntSS_l1
  refine awp_seqv_ ?_
  refine seqR ?_
  rcases cond_some h with ⟨q7,h⟩ | ⟨q7,h⟩
  ·have q7_:=of_decide_eq_true q7
   refine awp_condT_ q7 ?_
   refine awp_skip_ (tn_ ?_)
   refine wr_ ?_
   refine awp_seqv_ ?_
   refine awp_block_ ?_
   refine awp_seqv_ ?_
   obtain ⟨x10,e10,h⟩:=ob_some h
   obtain ⟨y11,h11,h⟩:=ob_some h
   refine awp_region_ 13 ?_
   refine rz0 (.tree (.slice .int) a0) ?_
   refine rz0 (ai ((l4_m5:Nat):Int)) ?_
   refine rs0 (.telt (.slice .int) x10 0) (zi (t:=(.slice .int)) (xs:=a0) (k:=.i64) (m:=((l4_m5:Nat):Int)) (nat_nn _) e10) ?_
   refine rz0 (.tree .int x10) ?_
   refine rz0 (ai l4_m1) ?_
   refine zc (ai y11) [] [(.tree .int x10),(ai l4_m1)] (ok_laws_heldIntS h11) ?_
   refine rsB 1 ?_
   refine rnil (tn_ ?_)
   refine wr_ ?_
   refine seqR ?_
   rcases cond_some h with ⟨q13,h⟩ | ⟨q13,h⟩
   ·have q13_:=of_decide_eq_true q13
    refine awp_condT_ q13 ?_
    refine seqR ?_
    refine awp_ret_ (br_ (tr_ (tr_ (br_ (tr_ ?_)))))
    obtain rfl:=zj h
    have h:=hn4
    (try dsimp only at h)
    obtain rfl:=zj h
    have h:=hk2
    (try dsimp only at h)
    obtain rfl:=zj h
    exact ret_ [(ai (-1))] (p_one rfl zl p_nil)
   have q13_:=of_decide_eq_false q13
   refine awp_condF_ q13 ?_
   refine awp_skip_ (bn_ (tn_ ?_))
   refine wr_ ?_
   obtain ⟨g15,h⟩:=og_some h
   refine awp_region_ 18 ?_
   refine rz0 (ai ((l4_m5:Nat):Int)) ?_
   refine rs0 (ai ((l4_m5+1:Nat):Int)) (za g15) ?_
   refine rsB 1 ?_
   refine rnil (tn_ ?_)
   obtain rfl:=zj h
   exact ⟨(y11,l4_m5+1),_,(weak_ren []),⟨y11,l4_m5+1,rfl,rfl⟩,hn4⟩
  have q7_:=of_decide_eq_false q7
  refine awp_condF_ q7 ?_
  refine awp_exit_ (te_ (te_ (be_ (tn_ ?_))))
  obtain rfl:=zj h
  have h:=hn4
  (try dsimp only at h)
  obtain rfl:=zj h
  exact ⟨l4_m1,_,rfl,(weak_ren []),rfl⟩
 rintro l2_m1 _ rfl h
 (try dsimp only at h)
 refine seqR ?_
 refine awp_ret_ ?_
 obtain rfl:=zj h
 exact ret_ [(ai l2_m1)] (p_one rfl zl p_nil)
def m_laws_eqRelation:AC :=
 (.seq (rg [xo 2 (.i (.box 29 (tm 0))),xo 3 (.i (.box 29 (tm 1))),xo 4 (qm (cb false))])
 (.seq (.seq (rg [xo 5 (qf 0 (tm 2)),xo 6 (ql (tm 5)),xo 7 (qf 0 (tm 3)),xo 8 (ql (tm 7)),xo 9 (qb .neq (tm 6) (tm 8))])
 (.cond (tm 9)
  (.seq (rg [xo 4 (qm (cb false))])
  .ret)
  .skip))
 (.seq (.seq (rg [xo 10 (qf 1 (tm 2)),xo 11 (ql (tm 10)),xo 12 (qf 1 (tm 3)),xo 13 (ql (tm 12)),xo 14 (qb .neq (tm 11) (tm 13))])
 (.cond (tm 14)
  (.seq (rg [xo 4 (qm (cb false))])
  .ret)
  .skip))
 (.seq (.seq (rg [xo 15 (qf 2 (tm 2)),xo 16 (ql (tm 15)),xo 17 (qf 2 (tm 3)),xo 18 (ql (tm 17)),xo 19 (qc 32 [(tm 16),(tm 18)] [[(some (.slice .int))],[(some (.slice .int))]]),xo 20 (.i (.not (tm 19)))])
 (.cond (tm 20)
  (.seq (rg [xo 4 (qm (cb false))])
  .ret)
  .skip))
 (.seq (rg [xo 4 (qm (cb true))])
 .ret)))))
def r_laws_eqRelation:List Res:=[.tmp 4]
theorem c_laws_eqRelation:compiled Tryd.prog Tryd.f9=some (m_laws_eqRelation,r_laws_eqRelation):=by kernel_rfl
theorem hb_laws_eqRelation:hasBody Tryd.prog 9=true:=by kernel_rfl
def L_laws_eqRelation (a0_0:Int) (a0_1:Int) (a0_2:List (List Int)) (a1_0:Int) (a1_1:Int) (a1_2:List (List Int)):Option Bool :=
 cond (a0_0 !=a1_0)
 (some false)
 (cond (a0_1 !=a1_1)
  (some false)
  (Option.bind (L_laws_eqIntSS a0_2 a1_2) fun y12 =>
  cond (!y12)
   (some false)
   (some true)))
def rv_laws_eqRelation (r:Bool):RV:=⟨false,[(false,[.sc (.bool r)])]⟩
theorem ok_laws_eqRelation {a0_0:Int} {a0_1:Int} {a0_2:List (List Int)} {a1_0:Int} {a1_1:Int} {a1_2:List (List Int)} {r:Bool} (h:L_laws_eqRelation a0_0 a0_1 a0_2 a1_0 a1_1 a1_2=some r):CallOK Tryd.prog Tab 9 [(.agg [(ai a0_0),(ai a0_1),(.tree (.slice .int) a0_2)]),(.agg [(ai a1_0),(ai a1_1),(.tree (.slice .int) a1_2)])] (rv_laws_eqRelation r):=by
 refine call_of_ (by kernel_rfl) Tryd.func9 c_laws_eqRelation (n:=21) (by kernel_rfl) (by simp) (tl:=[(0,(.agg [(ai a0_0),(ai a0_1),(.tree (.slice .int) a0_2)])),(1,(.agg [(ai a1_0),(ai a1_1),(.tree (.slice .int) a1_2)]))]) rfl ?_
 unfold m_laws_eqRelation
 unfold L_laws_eqRelation at h
 refine seqR ?_
 refine awp_seqv_ ?_
 refine seqR ?_
 rcases cond_some h with ⟨q4,h⟩ | ⟨q4,h⟩
 ·refine awp_condT_ q4 ?_
  refine seqR ?_
  refine awp_ret_ (tr_ ?_)
  obtain rfl:=zj h
  exact ret_ [(.bool false)] (p_one rfl zl p_nil)
 refine awp_condF_ q4 ?_
 refine awp_skip_ (tn_ ?_)
 refine wr_ ?_
 refine awp_seqv_ ?_
 refine seqR ?_
 rcases cond_some h with ⟨q8,h⟩ | ⟨q8,h⟩
 ·refine awp_condT_ q8 ?_
  refine seqR ?_
  refine awp_ret_ (tr_ ?_)
  obtain rfl:=zj h
  exact ret_ [(.bool false)] (p_one rfl zl p_nil)
 refine awp_condF_ q8 ?_
 refine awp_skip_ (tn_ ?_)
 refine wr_ ?_
 refine awp_seqv_ ?_
 refine awp_seqv_ ?_
 obtain ⟨y12,h12,h⟩:=ob_some h
 refine awp_region_ 20 ?_
 refine rz0 (.box (oi 2 1) 2) ?_
 refine rzl (.tree (.slice .int) a0_2) ?_
 refine rz0 (.box (oi 3 2) 2) ?_
 refine rzl (.tree (.slice .int) a1_2) ?_
 refine zc (.bool y12) [] [(.tree (.slice .int) a0_2),(.tree (.slice .int) a1_2)] (ok_laws_eqIntSS h12) ?_
 refine rsB 1 ?_
 refine rnil (tn_ ?_)
 refine wr_ ?_
 rcases cond_some h with ⟨q13,h⟩ | ⟨q13,h⟩
 ·refine awp_condT_ q13 ?_
  refine seqR ?_
  refine awp_ret_ (tr_ ?_)
  obtain rfl:=zj h
  exact ret_ [(.bool false)] (p_one rfl zl p_nil)
 refine awp_condF_ q13 ?_
 refine awp_skip_ (tn_ ?_)
 refine wr_ ?_
 refine seqR ?_
 refine awp_ret_ ?_
 obtain rfl:=zj h
 exact ret_ [(.bool true)] (p_one rfl zl p_nil)
def m_laws_markRelation:AC :=
 (.seq (rg [xo 2 (.i (.box 29 (tm 0))),xo 4 (qm (ci 0))])
 (.seq (rg [xo 5 (qf 2 (tm 2)),xo 6 (ql (tm 5)),xo 7 (qm (tm 1)),xo 8 (qc 35 [(tm 6),(tm 7)] [[(some (.slice .int))],[]]),xo 1 (qm (tm 8))])
 (.seq (rg [xo 9 (qm (tm 1)),xo 4 (qm (tm 9))])
 .ret)))
def r_laws_markRelation:List Res:=[.tmp 4]
theorem c_laws_markRelation:compiled Tryd.prog Tryd.f12=some (m_laws_markRelation,r_laws_markRelation):=by kernel_rfl
theorem hb_laws_markRelation:hasBody Tryd.prog 12=true:=by kernel_rfl
def L_laws_markRelation (a0_0:Int) (a0_1:Int) (a0_2:List (List Int)) (a1:Int):Option (List (List Int)×Int) :=
 Option.bind (L_laws_markIntSS a0_2 a1) fun y4 =>
og (y4.1.length=(a0_2.length)) <|
some (y4.1,y4.2)
theorem ok_laws_markRelation {a0_0:Int} {a0_1:Int} {a0_2:List (List Int)} {a1:Int} {r:List (List Int)×Int} (h:L_laws_markRelation a0_0 a0_1 a0_2 a1=some r) {n_a0_2:Nat} (hn_a0_2:n_a0_2=a0_2.length):CallM Tryd.prog Tab 12 [(.agg [(ai a0_0),(ai a0_1),(.own (oi 0 0) (.slice .int) 0 n_a0_2)]),(ai a1)] [((oi 0 0),.mat 23 (oi 1 0) .int a0_2),((oi 1 0),.pool 3 .int a0_2)] (ai r.2) [((oi 0 0),.mat 23 (oi 0 1) .int r.1),((oi 0 1),.pool 3 .int r.1)]:=by
 refine callM_of_ (by kernel_rfl) Tryd.func12 c_laws_markRelation (n:=10) (by kernel_rfl) (by simp) (tl:=[(0,(.agg [(ai a0_0),(ai a0_1),(.own (oi 0 0) (.slice .int) 0 n_a0_2)])),(1,(ai a1))]) rfl (by kernel_rfl) ⟨⟨3,(.tail _ (.head _))⟩,⟨trivial,trivial⟩⟩ ⟨⟨3,(.tail _ (.head _))⟩,⟨trivial,trivial⟩⟩ ?_
 unfold m_laws_markRelation
 unfold L_laws_markRelation at h
 (try rw [← hn_a0_2] at h)
 refine seqR ?_
 refine awp_seqv_ ?_
 obtain ⟨y4,h4,h⟩:=ob_some h
 obtain ⟨g5,h⟩:=og_some h
 refine awp_region_ 8 ?_
 refine rz0 (.box (oi 2 1) 2) ?_
 refine rzl (.own (oi 0 0) (.slice .int) 0 n_a0_2) ?_
 refine rz0 (ai a1) ?_
 refine rcallM (ai y4.2) [((oi 0 0),some (.mat 23 (oi 128 6) .int y4.1)),((oi 128 6),some (.pool 3 .int y4.1)),((oi 0 0),none),((oi 1 0),some (.pool 3 .int []))] [] [(.own (oi 0 0) (.slice .int) 0 n_a0_2),(ai a1)] (caps:=[]) trivial (ok_laws_markIntSS h4 hn_a0_2) hb_laws_markIntSS ⟨(by kernel_rfl),⟨(by kernel_rfl),trivial⟩⟩ (.cons (.ren (by kernel_rfl)) (.cons (.ren (by kernel_rfl)) .nil)) (reachL_mem (by kernel_rfl) (by kernel_rfl) ⟨(re_arg (by kernel_rfl)),⟨re_rows (o:=(oi 0 0)) (p:=(oi 1 0)) (e1:=23) (m:=a0_2.length) (u:=.int) (xss:=a0_2) (re_arg (by kernel_rfl)) (by kernel_rfl),trivial⟩⟩) ?_
 refine rsB 1 ?_
 refine rnil (tn_ ?_)
 refine wr_ ?_
 refine seqR ?_
 refine awp_ret_ ?_
 obtain rfl:=zj h
 exact retM_ [(ai y4.2)] (weak_ren (tl:=[(4,(ai y4.2))]) (g:=2) [((oi 0 1),(oi 128 6))])
def m_laws_heldRelation:AC :=
 (.seq (rg [xo 2 (.i (.box 29 (tm 0))),xo 4 (qm (ci 0))])
 (.seq (rg [xo 5 (qf 2 (tm 2)),xo 6 (ql (tm 5)),xo 7 (qm (tm 1)),xo 8 (qc 36 [(tm 6),(tm 7)] [[(some (.slice .int))],[]]),xo 1 (qm (tm 8))])
 (.seq (.seq (rg [xo 9 (qm (tm 1)),xo 10 (qb .lss (tm 9) (ci 0))])
 (.cond (tm 10)
  (.seq (rg [xo 4 (qm (ci (-1)))])
  .ret)
  .skip))
 (.seq (rg [xo 11 (qm (tm 1)),xo 4 (qm (tm 11))])
 .ret))))
def r_laws_heldRelation:List Res:=[.tmp 4]
theorem c_laws_heldRelation:compiled Tryd.prog Tryd.f13=some (m_laws_heldRelation,r_laws_heldRelation):=by kernel_rfl
theorem hb_laws_heldRelation:hasBody Tryd.prog 13=true:=by kernel_rfl
def L_laws_heldRelation (a0_0:Int) (a0_1:Int) (a0_2:List (List Int)) (a1:Int):Option Int :=
 Option.bind (L_laws_heldIntSS a0_2 a1) fun y3 =>
cond (decide (y3<0))
 (some (-1))
 (some y3)
def rv_laws_heldRelation (r:Int):RV:=⟨false,[(false,[.sc (.int .i64 r)])]⟩
theorem ok_laws_heldRelation {a0_0:Int} {a0_1:Int} {a0_2:List (List Int)} {a1:Int} {r:Int} (h:L_laws_heldRelation a0_0 a0_1 a0_2 a1=some r):CallOK Tryd.prog Tab 13 [(.agg [(ai a0_0),(ai a0_1),(.tree (.slice .int) a0_2)]),(ai a1)] (rv_laws_heldRelation r):=by
 refine call_of_ (by kernel_rfl) Tryd.func13 c_laws_heldRelation (n:=12) (by kernel_rfl) (by simp) (tl:=[(0,(.agg [(ai a0_0),(ai a0_1),(.tree (.slice .int) a0_2)])),(1,(ai a1))]) rfl ?_
 unfold m_laws_heldRelation
 unfold L_laws_heldRelation at h
 refine seqR ?_
 refine awp_seqv_ ?_
 obtain ⟨y3,h3,h⟩:=ob_some h
 refine awp_region_ 8 ?_
 refine rz0 (.box (oi 2 1) 2) ?_
 refine rzl (.tree (.slice .int) a0_2) ?_
 refine rz0 (ai a1) ?_
 refine zc (ai y3) [] [(.tree (.slice .int) a0_2),(ai a1)] (ok_laws_heldIntSS h3) ?_
 refine rsB 1 ?_
 refine rnil (tn_ ?_)
 refine wr_ ?_
 refine awp_seqv_ ?_
 refine seqR ?_
 rcases cond_some h with ⟨q6,h⟩ | ⟨q6,h⟩
 ·have q6_:=of_decide_eq_true q6
  refine awp_condT_ q6 ?_
  refine seqR ?_
  refine awp_ret_ (tr_ ?_)
  obtain rfl:=zj h
  exact ret_ [(ai (-1))] (p_one rfl zl p_nil)
 have q6_:=of_decide_eq_false q6
 refine awp_condF_ q6 ?_
 refine awp_skip_ (tn_ ?_)
 refine wr_ ?_
 refine seqR ?_
 refine awp_ret_ ?_
 obtain rfl:=zj h
 exact ret_ [(ai y3)] (p_one rfl zl p_nil)
def m_impl_reduced:AC :=
 (.seq (rg [xo 6 (qm (.cst .nils))])
 (.seq (rg [xo 10 (qm (tm 1)),xo 11 (qc 85 [(tm 10)] [[(some (.slice .int))]]),xo 7 (qm (tm 11))])
 (.seq (rg [xo 12 (qm (tm 7)),xo 13 (.i (.len (tm 12))),xo 14 (.makeV 23 (.slice .int) 24 [.nils] (tm 13) (tm 13)),xo 8 (qm (tm 14))])
 (.seq (rg [xo 15 (qm (tm 0)),xo 16 (qm (tm 7)),xo 17 (qm (tm 2)),xo 18 (qm (tm 8)),xo 19 (qc 87 [(tm 15),(tm 16),(tm 17),(tm 18)] [[],[(some (.slice .int))],[],[(some (.slice .int))]]),xo 9 (qm (tm 19))])
 (.seq (rg [xo 20 (qm (tm 7)),xo 21 (qm (tm 9)),xo 22 (qm (tm 9)),xo 23 (.slice 1 (tm 20) none (some (tm 21)) (some (tm 22))),xo 6 (qm (tm 23))])
 .ret)))))
def r_impl_reduced:List Res:=[.tmp 6]
theorem c_impl_reduced:compiled Tryd.prog Tryd.f70=some (m_impl_reduced,r_impl_reduced):=by kernel_rfl
theorem hb_impl_reduced:hasBody Tryd.prog 70=true:=by kernel_rfl
def L_impl_reduced (a0:Int) (a1:List (List Int)) (a2:Int):Option (List (List Int)) :=
 Option.bind (L_impl_clones a1) fun y4 =>
og (0<=((y4.length:Nat):Int)∧((y4.length:Nat):Int)<=((y4.length:Nat):Int)∧((y4.length:Nat):Int)<=1073741824∧(24:Int)*((y4.length:Nat):Int)<=140737488355328) <|
Option.bind (L_impl_reduction a0 y4 a2 (List.replicate y4.length ([]:List Int))) fun y8 =>
og (y8.1.length=y4.length) <|
og (y8.2.1.length=y4.length) <|
og ((0:Int)<=((y8.2.2:Nat):Int)∧((y8.2.2:Nat):Int)<=((y8.2.2:Nat):Int)∧((y8.2.2:Nat):Int)<=((y4.length:Nat):Int)) <|
some (y8.1.take y8.2.2)
theorem ok_impl_reduced {a0:Int} {a1:List (List Int)} {a2:Int} {r:List (List Int)} (h:L_impl_reduced a0 a1 a2=some r):CallM Tryd.prog Tab 70 [(ai a0),(.tree (.slice .int) a1),(ai a2)] [] (.own (oi 0 1) (.slice .int) 0 r.length) [((oi 0 1),.mat 23 (oi 1 1) .int r),((oi 1 1),.pool 3 .int r)]:=by
 refine callM_of_ (by kernel_rfl) Tryd.func70 c_impl_reduced (n:=24) (by kernel_rfl) (by simp) (tl:=[(0,(ai a0)),(1,(.tree (.slice .int) a1)),(2,(ai a2))]) rfl (by kernel_rfl) trivial ⟨⟨3,(.tail _ (.head _))⟩,⟨trivial,trivial⟩⟩ ?_
 unfold m_impl_reduced
 unfold L_impl_reduced at h
 refine seqR ?_
 refine awp_seqv_ ?_
 obtain ⟨y4,h4,h⟩:=ob_some h
 refine awp_region_ 5 ?_
 refine rz0 (.tree (.slice .int) a1) ?_
 refine rcallM (.own (oi 176 3) (.slice .int) 0 y4.length) [((oi 176 3),some (.mat 23 (oi 177 3) .int y4)),((oi 177 3),some (.pool 3 .int y4))] [] [(.tree (.slice .int) a1)] (caps:=[]) trivial (ok_impl_clones h4) hb_impl_clones trivial (.cons (.ren (by kernel_rfl)) .nil) (reachL_mem (by kernel_rfl) (by kernel_rfl) trivial) ?_
 refine rsB 1 ?_
 refine rnil (tn_ ?_)
 refine wr_ ?_
 refine awp_seqv_ ?_
 obtain ⟨g6,h⟩:=og_some h
 refine awp_region_ 9 ?_
 refine rz0 (.own (oi 176 3) (.slice .int) 0 y4.length) ?_
 refine rz0 (ai ((y4.length:Nat):Int)) ?_
 refine rmakeM (.own (oi 224 7) (.slice .int) 0 y4.length) (oi 224 7) 23 3 .int (List.replicate y4.length ([]:List Int)) trivial (s_makeM (j:=y4.length) (k:=.i64) (k':=.i64) (m:=((y4.length:Nat):Int)) (c:=((y4.length:Nat):Int)) 3 (by kernel_rfl) (by kernel_rfl) g6 (by kernel_rfl) rfl) (by kernel_rfl) (by rw [List.length_replicate]) (by kernel_rfl) ?_
 refine rsB 1 ?_
 refine rnil (tn_ ?_)
 refine wr_ ?_
 refine awp_seqv_ ?_
 obtain ⟨y8,h8,h⟩:=ob_some h
 obtain ⟨g9,h⟩:=og_some h
 obtain ⟨g10,h⟩:=og_some h
 refine awp_region_ 15 ?_
 refine rz0 (ai a0) ?_
 refine rz0 (.own (oi 176 3) (.slice .int) 0 y4.length) ?_
 refine rz0 (ai a2) ?_
 refine rz0 (.own (oi 224 7) (.slice .int) 0 y4.length) ?_
 refine rcallM (ai ((y8.2.2:Nat):Int)) [((oi 176 3),some (.mat 23 (oi 304 13) .int y8.1)),((oi 304 13),some (.pool 3 .int y8.1)),((oi 224 7),some (.mat 23 (oi 305 13) .int y8.2.1)),((oi 305 13),some (.pool 3 .int y8.2.1)),((oi 176 3),none),((oi 177 3),some (.pool 3 .int [])),((oi 224 7),none),((oi 224 7),some (.pool 3 .int []))] [((oi 0 0),(oi 176 3)),((oi 1 0),(oi 177 3)),((oi 2 0),(oi 224 7)),((oi 3 0),(oi 224 7))] [(ai a0),(.own (oi 176 3) (.slice .int) 0 y4.length),(ai a2),(.own (oi 224 7) (.slice .int) 0 y4.length)] (caps:=[]) trivial (ok_impl_reduction h8 rfl List.length_replicate.symm) hb_impl_reduction ⟨(by kernel_rfl),⟨(by kernel_rfl),⟨(by kernel_rfl),⟨(by kernel_rfl),trivial⟩⟩⟩⟩ (.cons (.ren (by kernel_rfl)) (.cons (.ren (by kernel_rfl)) (.cons (.ren (by kernel_rfl)) (.cons (.ren (by kernel_rfl)) .nil)))) (reachL_mem (by kernel_rfl) (by kernel_rfl) ⟨(re_arg (by kernel_rfl)),⟨re_rows (o:=(oi 176 3)) (p:=(oi 177 3)) (e1:=23) (m:=y4.length) (u:=.int) (xss:=y4) (re_arg (by kernel_rfl)) (by kernel_rfl),⟨(re_arg (by kernel_rfl)),⟨re_rows (o:=(oi 224 7)) (p:=(oi 224 7)) (e1:=23) (m:=(List.replicate y4.length ([]:List Int)).length) (u:=.int) (xss:=List.replicate y4.length ([]:List Int)) (re_arg (by kernel_rfl)) (by kernel_rfl),trivial⟩⟩⟩⟩) ?_
 refine rsB 1 ?_
 refine rnil (tn_ ?_)
 refine wr_ ?_
 refine awp_seqv_ ?_
 obtain ⟨g12,h⟩:=og_some h
 refine awp_region_ 20 ?_
 refine rz0 (.own (oi 176 3) (.slice .int) 0 y4.length) ?_
 refine rz0 (ai ((y8.2.2:Nat):Int)) ?_
 refine rz0 (ai ((y8.2.2:Nat):Int)) ?_
 refine rs2 (.own (oi 23 18) (.slice .int) 0 y8.2.2) (oi 176 3) (oi 23 18) (.vec 23 1 y8.2.2 ((hdL (oi 304 13) .int y8.1).take y8.2.2)) (s_slice3V (t:=(.slice .int)) (len:=y4.length) (kh:=.i64) (km:=.i64) (h:=((y8.2.2:Nat):Int)) (m:=((y8.2.2:Nat):Int)) (j:=y8.2.2) (i:=(oi 176 3)) (N:=y8.1.length) (e:=23) (cs:=hdL (oi 304 13) .int y8.1) (by kernel_rfl) (by kernel_rfl) (by kernel_rfl) (by kernel_rfl) rfl g12 rfl (by have z_:y4.length=y8.1.length:=g9.symm; omega)) ?_
 refine rsB 1 ?_
 refine rnil (tn_ ?_)
 refine ⟨_,weak_cut3_ (e1:=23) (e:=3) (u:=.int) (xss:=y8.1) (k:=y8.2.2) 9000 (oi 23 18) (oi 304 13) (by kernel_rfl) (by kernel_rfl) (by kernel_rfl) (by have z_:y4.length=y8.1.length:=g9.symm; omega) (by kernel_rfl) (by kernel_rfl),?_⟩
 refine awp_ret_ ?_
 obtain rfl:=zj h
 exact retM_ [(.own (oi 0 1) (.slice .int) 0 ((y8.1.take y8.2.2).length))] ((weak_tm_ 6 (.own (oi 23 18) (.slice .int) 0 y8.2.2) (.own (oi 23 18) (.slice .int) 0 ((y8.1.take y8.2.2).length)) (by kernel_rfl) (congrArg (fun z_=>((.own (oi 23 18) (.slice .int) 0 z_):AV)) ((cut_len (by have z_:y4.length=y8.1.length:=g9.symm; omega)):y8.2.2=(y8.1.take y8.2.2).length))).trans (weak_ren (tl:=[(6,(.own (oi 0 1) (.slice .int) 0 (y8.1.take y8.2.2).length))]) (g:=2) [((oi 0 1),(oi 23 18)),((oi 1 1),(oi 9000 20))]))
end Go.Proofs.YtkaollfdhoaihaaDoor
