/- Lemmas on the program and on partial functions that stand in place of its code (part 5); no condition beyond those that each one states. -/
import Derived.Test.YtjnaikadmjocbaaDoorZ4
import Derived.Shelf.SortM.Plain
import Derived.Shelf.SortM.SortNone
import Derived.RangeFuncBox
import Derived.RangeFuncLeaves
import Derived.Shelf.Abstract
import Derived.WalkKit
import Derived.OwnWalkIn
import Derived.TacticsInMore
import Derived.LoopNIn
import Derived.LoopIn
import Derived.Maps.AppendAt
import Derived.Lib.SlKeysI
namespace Go.Proofs.YtjnaikadmjocbaaDoor
open Go.RowKit Go.Deep
set_option maxRecDepth 4000
def K6:AC :=
 (.seq (.seq (rg [xm 7 6,xm 8 1,xs1 9 7 8])
 (.cond (tm 9)
  .skip
  (.exit 0)))
 (.seq (.block 1 (.seq (rg [xm 12 0,xm 13 6,xo 14 (qc 64 [tm 12,tm 13] [[some .int],[]]),xo 15 (.i (.not (tm 14)))])
 (.cond (tm 15)
  (rg [xm 16 5,xm 17 6,xo 18 (.mkS 3 .int [tm 17]),xo 19 (.append 3 .int 8 (tm 16) (tm 18)),xm 5 19])
  .skip)))
 (rg [xm 10 6,xa 11 10,xm 6 11])))
def Nq:AC :=
 (.seq (rg [xo 4 (qm (.cst .nils))])
 (.seq (rg [xo 5 (qm (.cst .nils))])
 (.seq (.seq (rg [xo 6 (qm (ci 0))])
 (.block 0 (.loop K6)))
 (.seq (rg [xm 20 5,xm 4 20])
 .ret))))
def W6:List Res:=[.tmp 4]
theorem Wg:At Tryd.prog Tryd.f38=some (Nq,W6):=by kernel_rfl
def Ec (a1:Int) (a0:List Int) (u0:Nat) (u1:List Int):Option (Ctl (Nat×List Int) (List Int)) :=
 cond (decide ((u0:Int)<a1))
 (((Fw a0 (u0:Int)).bind fun y11 =>
  cond (!y11)
   (og (u1.length+1<=1073741824∧(u1.length+1)*8<=140737488355328) <|
   some (u1++([(u0:Int)])))
   (some u1)).bind fun u2 =>
 og (u0+1<4611686018427387904) <|
 some (Ctl.next (u0+1,u2)))
 (some (Ctl.out u1))
def E3 (a0:List Int) (a1:Int):Option (List Int) :=
 (A0 (fun s_:Nat×List Int=>Ec a1 a0 s_.1 s_.2) 4611686018427387904 (0,[])).bind fun u0 =>
some u0
def V2 (r:List Int):RV:=⟨false,[(false,[.new 3 .int r])]⟩
theorem M4 {a0:List Int} {a1:Int} {r:List Int} (h:E3 a0 a1=some r):A7 Tryd.prog Tab 38 [tI a0,ai a1] (V2 r):=by
 refine A3 (by kernel_rfl) Tryd.func38 Wg (n:=21) (by kernel_rfl) (by simp) rfl ?_;unfold Nq;unfold E3 at h;refine An (An (Aw h (fun (u3:List Int) S_=>S_=⟨Am [(5,oI 0 1 u3.length)],Ah (Aq [(oi 0 1,.arr 3 .int u3)]),2⟩) ?_ ?_))
 ·intro v_ h;refine An (Aj (A1 h (fun t_ S_=>∃ (u0:Nat),∃ (u1:List Int),t_=(u0,u1)∧S_=⟨Am [(0,tI a0),(1,ai a1),(5,oI 0 1 u1.length),(6,an u0)],Ah (Aq [(oi 0 1,.arr 3 .int u1)]),2⟩) ⟨_,(Il 5 3 .int rfl (by kernel_rfl)).trans (Ac [(oi 0 1,oi 5 4)]),⟨0,[],rfl,rfl⟩⟩ ?_));rintro n_ _ _ c_ ⟨u0,u1,rfl,rfl⟩ h hn5
  (try dsimp only at h);unfold Ec at h;unfold K6;refine Ab (An ?_);rcases Ad h with ⟨q8,h⟩ | ⟨q8,h⟩
  ·have q8_:=of_decide_eq_true q8;refine Ag q8 (Ak (tn_ (wr_ (Aw h (fun (u2:List Int) S_=>S_=⟨Am [(0,tI a0),(1,ai a1),(5,oI 0 1 u2.length),(6,an u0)],Ah (Aq [(oi 0 1,.arr 3 .int u2)]),2⟩) ?_ ?_))))
   ·intro v_ h;refine Aj (Ab ?_);obtain ⟨y11,h11,h⟩:=Ae h;refine Aa 9 (rsB 2 (zc (.bool y11) [] [tI a0,an u0] (N0 h11) (rsB 1 (Ar (tn_ (wr_ ?_))))));rcases Ad h with ⟨q12,h⟩ | ⟨q12,h⟩
    ·refine Ag q12 ?_;obtain ⟨g13,h⟩:=As h;refine Aa 14 (rsB 3 (zB (oi 0 1) (oi 18 11) u1 ((u0:Int)) g13 (rsB 1 (Ar (bn_ (tn_ ?_))))));obtain rfl:=zj h;exact ⟨_,Ac [(oi 0 1,oi 0 12)],rfl⟩
    refine Af q12 (Ak (bn_ (tn_ ?_)));obtain rfl:=zj h;exact ⟨_,Ac [],rfl⟩
   rintro u2 _ rfl h
   (try dsimp only at h);obtain ⟨g14,h⟩:=As h;refine Aa 5 (rsB 1 (zA g14 (rsB 1 (Ar (tn_ ?_)))));obtain rfl:=zj h;exact ⟨(u0+1,u2),_,Ac [],⟨u0+1,u2,rfl,rfl⟩,hn5⟩
  have q8_:=of_decide_eq_false q8;refine Af q8 (Az (te_ (te_ (be_ (tn_ ?_)))));obtain rfl:=zj h;have h:=hn5
  (try dsimp only at h);obtain rfl:=zj h;exact ⟨_,Ac [],rfl⟩
 rintro u3 _ rfl h
 (try dsimp only at h);refine An (Al ?_);obtain rfl:=zj h;exact Bh [oI 0 1 u3.length] (A5 rfl (Md (by kernel_rfl) rfl) A4)
def Kn:AC :=
 (.seq (.seq (rg [xm 4 3,xm 5 0,xn1 6 5,xs1 7 4 6,xm 8 7,⟨some 9,some (8,true),qm (tm 0)⟩,⟨some 10,some (8,true),qm (tm 3)⟩,⟨some 11,some (8,true),qx 1 (tm 9) (tm 10)⟩,⟨some 12,some (8,true),ql (tm 11)⟩,⟨some 13,some (8,true),qb .eql (tm 12) (ci 0)⟩,xo 14 (.i (.pick (tm 8) (tm 13) (cb false)))])
 (.cond (tm 14)
  .skip
  (.exit 0)))
 (.block 1 (rg [xm 15 3,xa 16 15,xm 3 16])))
def N5:AC :=
 (.seq (rg [xo 2 (qm (ci 0))])
 (.seq (rg [xo 3 (qm (ci 0))])
 (.seq (.block 0 (.loop Kn))
 (.seq (rg [xm 17 3,xm 2 17])
 .ret))))
def Wr:List Res:=[.tmp 2]
theorem Xi:At Tryd.prog Tryd.f66=some (N5,Wr):=by kernel_rfl
theorem U3:A9 Tryd.prog 66=true:=by kernel_rfl
def D7 (a0:List Int) (u0:Nat):Option (Ctl Nat Nat) :=
 (cond (decide ((u0:Int)<(a0.length:Int)))
  ((a0[u0]?).bind fun x8 =>
  some (x8==0))
  (some false)).bind fun u1 =>
cond u1
 (og (u0+1<4611686018427387904) <|
 some (Ctl.next (u0+1)))
 (some (Ctl.out u0))
def Gf (a0:List Int):Option Int :=
 (A0 (fun s_:Nat=>D7 a0 s_) 4611686018427387904 0).bind fun u0 =>
some (u0:Int)
def Uh (r:Int):RV:=⟨false,[(false,[.sc (.int .i64 r)])]⟩
theorem Vt {a0:List Int} {r:Int} (h:Gf a0=some r):A7 Tryd.prog Tab 66 [tI a0] (Uh r):=by
 refine A3 (by kernel_rfl) Tryd.func66 Xi (n:=18) (by kernel_rfl) (by simp) rfl ?_;unfold N5;unfold Gf at h;refine An (An (Aw h (fun (u1:Nat) S_=>S_=⟨Am [(3,an u1)],Ah (Aq []),2⟩) ?_ ?_))
 ·intro v_ h;refine Aj (A1 h (fun (u0:Nat) S_=>S_=⟨Am [(0,tI a0),(3,an u0)],Ah (Aq []),2⟩) ⟨_,Ac [],rfl⟩ ?_);rintro n_ u0 _ c_ rfl h hn4
  (try dsimp only at h);unfold D7 at h;unfold Kn;refine Ab (Aw h (fun (u2:Bool) S_=>S_=⟨Am [(0,tI a0),(3,an u0),(14,.bool u2)],Ah (Aq []),2⟩) ?_ ?_)
  ·intro v_ h;rcases Ad h with ⟨q7,h⟩ | ⟨q7,h⟩
   ·have q7_:=of_decide_eq_true q7;obtain ⟨x8,e8,h⟩:=Ae h;refine Aa 13 (rsB 5 (rs0 (tI a0) (zg q7) (rs0 (an u0) (zg q7) (rs0 (.telt none .int x8 0) (Js (by kernel_rfl) q7 (zi (t:=.int) (xs:=a0) (k:=.i64) (m:=(u0:Int)) (E5 _) e8)) (rs0 (ai x8) (zg q7) (rs0 (.bool (x8==0)) (zg q7) (rs0 (.bool (x8==0)) (zT q7) (Ar (tn_ ?_)))))))));obtain rfl:=zj h;exact ⟨_,Ac [],rfl⟩
   have q7_:=of_decide_eq_false q7;refine Aa 13 (rsB 5 (zs q7 (zs q7 (zs q7 (zs q7 (zs q7 (rs0 (.bool false) (zF q7) (Ar (tn_ ?_)))))))));obtain rfl:=zj h;exact ⟨_,Ac [],rfl⟩
  rintro u2 _ rfl h
  (try dsimp only at h);rcases Ad h with ⟨q9,h⟩ | ⟨q9,h⟩
  ·refine Ag q9 (Ak (tn_ (wr_ (Aj ?_))));obtain ⟨g10,h⟩:=As h;refine Aa 5 (rsB 1 (zA g10 (rsB 1 (Ar (bn_ (tn_ ?_))))));obtain rfl:=zj h;exact ⟨u0+1,_,Ac [],rfl,hn4⟩
  refine Af q9 (Az (te_ (te_ (be_ (tn_ ?_)))));obtain rfl:=zj h;have h:=hn4
  (try dsimp only at h);obtain rfl:=zj h;exact ⟨_,Ac [],rfl⟩
 rintro u1 _ rfl h
 (try dsimp only at h);refine An (Al ?_);obtain rfl:=zj h;exact Bh [an u1] (A5 rfl zl A4)
def Hr:AC :=
 (.seq (rg [xs1 66 65 64])
 (.seq (.cond (tm 66)
  .skip
  (.exit 4))
 (.seq (.block 5 (.seq (rg [xm 67 65,xx 68 1 63 65,xl 69 68,xm 18 67,xm 19 69])
 (.seq (.seq (rg [xm 70 19,xo 71 (qc 66 [tm 70] [[some .int]]),xm 72 18,xo 73 (qb .neq (tm 71) (tm 72))])
 (.cond (tm 73)
  (.seq (rg [xo 74 (.build [.int .i64 0,.nils] []),xn (.st false 2 (tm 8) (tm 74)),xo 9 (qm (cb false))])
  .ret)
  .skip))
 (.region [xf 75 1 17,xl 76 75,xm 77 19,xm 78 3,xn1 79 78,xo 80 (.slice 1 (tm 77) (some (tm 79)) none none),xo 81 (qc 54 [tm 80] [[some .int]]),xo 82 (.mkV 35 sI 1 [tm 81]),xo 83 (.appV 35 sI 24 (tm 76) (tm 82)),xf 84 1 17,xn (qs (tm 84) (tm 83))] true [(1,6),(1,7)]))))
 (rg [xa 85 65,xm 65 85]))))
def Hx:AC :=
 (.seq (rg [xs1 41 40 39])
 (.seq (.cond (tm 41)
  .skip
  (.exit 2))
 (.seq (.block 3 (.seq (rg [xx 42 1 38 40,xl 43 42,xm 16 43])
 (rg [xm 44 14,xm 45 13,xm 46 16,xx 47 1 45 46,xl 48 47,xo 49 (.mkS 3 .int [tm 48]),xo 50 (.append 3 .int 8 (tm 44) (tm 49)),xm 14 50])))
 (rg [xa 51 40,xm 40 51]))))
def Hs:AC :=
 (.seq (rg [xs1 32 31 30])
 (.seq (.cond (tm 32)
  .skip
  (.exit 0))
 (.seq (.block 1 (.seq (rg [xx 33 1 29 31,xl 34 33,xm 13 34])
 (.seq (rg [xo 14 (qm (.cst .nils))])
 (.seq (.seq (rg [xm 35 3,xo 36 (qc 54 [tm 35] [[some .int]]),xm 37 10,xo 38 (.append 3 .int 8 (tm 36) (tm 37)),xn1 39 38,xo 40 (qm (ci 0))])
 (.block 2 (.loop Hx)))
 (rg [xm 52 11,xm 53 14,xo 54 (.mkV 35 sI 1 [tm 53]),xo 55 (.appV 35 sI 24 (tm 52) (tm 54)),xm 11 55])))))
 (rg [xa 56 31,xm 31 56]))))
def Jw:AC :=
 (.seq (rg [xo 8 (.i (.alloc 39 [.int .i64 0,.nils])),xo 9 (qm (cb false))])
 (.seq (.seq (rg [xm 20 3,xn1 21 20,xm 22 2,xn1 23 22,xo 24 (qb .neq (tm 21) (tm 23))])
 (.cond (tm 24)
  (.seq (rg [xo 25 (.build [.int .i64 0,.nils] []),xn (.st false 2 (tm 8) (tm 25)),xo 9 (qm (cb false))])
  .ret)
  .skip))
 (.seq (rg [xm 26 3,xm 27 1,xo 28 (qc 38 [tm 26,tm 27] [[some .int],[]]),xm 10 28])
 (.seq (rg [xo 11 (qm (.cst .nils))])
 (.seq (.seq (rg [xm 29 2,xn1 30 29,xo 31 (qm (ci 0))])
 (.block 0 (.loop Hs)))
 (.seq (rg [xm 57 10,xn1 58 57,xo 59 (.build [.int .i64 0,.nils] [(0,1,tm 58)]),xo 17 (.i (.alloc 39 [.int .i64 0,.nils])),xn (.st false 2 (tm 17) (tm 59))])
 (.seq (.seq (rg [xm 60 0,xm 61 1,xm 62 11,xo 63 (qc 65 [tm 60,tm 61,tm 62] [[],[],[some sI]]),xn1 64 63,xo 65 (qm (ci 0))])
 (.block 4 (.loop Hr)))
 (.seq (rg [xo 86 (.i (.ld false 2 (tm 17))),xn (.st false 2 (tm 8) (tm 86)),xo 9 (qm (cb true))])
 .ret))))))))
def P0:List Res:=[.cell 8 false 2,.tmp 9]
theorem Ps:At Tryd.prog Tryd.f41=some (Jw,P0):=by kernel_rfl
theorem Of:A9 Tryd.prog 41=true:=by kernel_rfl
def Ca (y22 y8 x18:List Int) (u0:Nat) (u1:List Int):Option (Ctl (Nat×List Int) (List Int)) :=
 cond (decide ((u0:Int)<(((y22++y8).length:Nat):Int)))
 (((y22++y8)[u0]?).bind fun x30 =>
 (F4 x18 x30).bind fun x31 =>
 og (u1.length+1<=1073741824∧(u1.length+1)*8<=140737488355328) <|
 og (u0+1<4611686018427387904) <|
 some (Ctl.next (u0+1,u1++([x31]))))
 (some (Ctl.out u1))
def Cd (a2:LL) (a3 y8:List Int) (u0:Nat) (u1:LL):Option (Ctl (Nat×LL) (LL)) :=
 cond (decide ((u0:Int)<(a2.length:Int)))
 (((a2[u0]?).bind fun x18 =>
  ((Ew a3).bind fun y22 =>
   og (y22.length+y8.length<=1073741824∧(y22.length+y8.length)*8<=140737488355328) <|
   A0 (fun s_:Nat×List Int=>Ca y22 y8 x18 s_.1 s_.2) 4611686018427387904 (0,[])).bind fun u2 =>
  og (u1.length+1<=1073741824∧(u1.length+1)*24<=140737488355328) <|
  some (u1++[u2])).bind fun u3 =>
 og (u0+1<4611686018427387904) <|
 some (Ctl.next (u0+1,u3)))
 (some (Ctl.out u1))
def Bk (y39:LL) (a3:List Int) (u0:Nat) (u1:LL):Option (Ctl (Nat×LL) (Ctl (LL) (Bool×Nat×LL))) :=
 cond (decide ((u0:Int)<(y39.length:Int)))
 ((y39[u0]?).bind fun x46 =>
 (Gf x46).bind fun y49 =>
 cond (y49 !=(u0:Int))
  (some (Ctl.out (Ctl.out (false,0,([]:LL)))))
  (og ((0:Int)<=(a3.length:Int)∧(a3.length:Int)<=(x46.length:Int)∧(x46.length:Int)<=(x46.length:Int)) <|
  (Ew (x46.drop a3.length)).bind fun y53 =>
  og (u1.length+1<=1073741824∧(u1.length+1)*24<=140737488355328) <|
  og (u0+1<4611686018427387904) <|
  some (Ctl.next (u0+1,u1++[y53]))))
 (some (Ctl.out (Ctl.next u1)))
def C4 (a0 a1:Int) (a2:LL) (a3:List Int):Option (Bool×Nat×LL) :=
 cond ((a3.length:Int) !=(a2.length:Int))
 (some (false,0,([]:LL)))
 ((E3 a3 a1).bind fun y8 =>
 (A0 (fun s_:Nat×LL=>Cd a2 a3 y8 s_.1 s_.2) 4611686018427387904 (0,([]:LL))).bind fun u0 =>
 Km ((E1 a0 a1 u0).bind fun y39 =>
  A0 (fun s_:Nat×LL=>Bk y39 a3 s_.1 s_.2) 4611686018427387904 (0,([]:LL))) fun u1 =>
 some (true,y8.length,u1))
theorem Oz {a0 a1:Int} {a2:LL} {a3:List Int} {r:Bool×Nat×LL} (h:C4 a0 a1 a2 a3=some r):G7 Tryd.prog Tab 41 [ai a0,ai a1,tS a2,tI a3] [] (.tup [.agg [an r.2.1,oS 1 1 r.2.2.length],.bool r.1]) [(oi 0 1,.cells 39 [an r.2.1,oS 1 1 r.2.2.length]),(oi 1 1,.mat 35 (oi 2 1) .int r.2.2),(oi 2 1,.pool 3 .int r.2.2)]:=by
 refine Eb (by kernel_rfl) Tryd.func41 Ps (n:=87) (by kernel_rfl) (by simp) rfl (by kernel_rfl) trivial ⟨trivial,⟨⟨3,.tail _ (.tail _ (.head _))⟩,⟨trivial,trivial⟩⟩⟩ ?_;unfold Jw;unfold C4 at h;refine An (Ab (An ?_));rcases Ad h with ⟨q5,h⟩ | ⟨q5,h⟩
 ·refine Ag q5 (An (Al (tr_ ?_)));obtain rfl:=zj h;exact H7 [.agg [an (0),oS 1 1 ((([]:LL)).length)],.bool false] ((C6 9000 (oi 8 1) 1 39 [ai 0,.nils] [ai 0,oS 9000 11 0] 35 sI (by kernel_rfl) (by kernel_rfl) (by kernel_rfl)).trans ((D5 (e1:=35) (n:=0) 9000 (oi 9000 11) 3 .int (by kernel_rfl) (by kernel_rfl) rfl (by kernel_rfl) (by kernel_rfl)).trans (Ac (tl:=[(8,.box (oi 0 1) 0),(9,.bool false)]) (g:=2) [(oi 0 1,oi 8 1),(oi 1 1,oi 9000 11),(oi 2 1,oi 9000 12)])))
 refine Af q5 (Ak (tn_ (wr_ (Ab ?_))));obtain ⟨y8,h8,h⟩:=Ae h;refine Aa 12 (rsB 2 (zc (oI 448 10 y8.length) [nI 448 10 y8] [tI a3,ai a1] (M4 h8) (rsB 1 (Ar (tn_ (wr_ (An (Aw h (fun (u7:LL) S_=>S_=⟨Am [(0,ai a0),(1,ai a1),(3,tI a3),(8,.box (oi 0 1) 0),(10,oI 1 1 y8.length),(11,oS 2 1 u7.length)],Ah (Aq [(oi 0 1,.cells 39 [ai 0,.nils]),(oi 1 1,.arr 3 .int y8),(oi 2 1,.mat 35 (oi 3 1) .int u7),(oi 3 1,.pool 3 .int u7)]),2⟩) ?_ ?_))))))))
 ·intro v_ h;refine An (Aj (A1 h (fun t_ S_=>∃ (u4:Nat),∃ (u0:LL),t_=(u4,u0)∧S_=⟨Am [(0,ai a0),(1,ai a1),(3,tI a3),(8,.box (oi 0 1) 0),(10,oI 1 1 y8.length),(11,oS 2 1 u0.length),(29,tS a2),(30,an a2.length),(31,an u4)],Ah (Aq [(oi 0 1,.cells 39 [ai 0,.nils]),(oi 1 1,.arr 3 .int y8),(oi 2 1,.mat 35 (oi 3 1) .int u0),(oi 3 1,.pool 3 .int u0)]),2⟩) ⟨_,(Ol 11 35 sI (by kernel_rfl)).trans ((D5 (e1:=35) (n:=0) 9000 (oi 11 16) 3 .int (by kernel_rfl) (by kernel_rfl) rfl (by kernel_rfl) (by kernel_rfl)).trans (Ac [(oi 0 1,oi 8 1),(oi 1 1,oi 448 10),(oi 2 1,oi 11 16),(oi 3 1,oi 9000 17)])),⟨0,([]:LL),rfl,rfl⟩⟩ ?_));rintro n_ _ _ c_ ⟨u4,u0,rfl,rfl⟩ h hn12
  (try dsimp only at h);unfold Cd at h;unfold Hs;refine An (Ab ?_);rcases Ad h with ⟨q15,h⟩ | ⟨q15,h⟩
  ·have q15_:=of_decide_eq_true q15;refine Ag q15 (Ak (tn_ (wr_ (Aw h (fun (u8:LL) S_=>S_=⟨Am [(0,ai a0),(1,ai a1),(3,tI a3),(8,.box (oi 0 1) 0),(10,oI 1 1 y8.length),(11,oS 2 1 u8.length),(29,tS a2),(30,an a2.length),(31,an u4)],Ah (Aq [(oi 0 1,.cells 39 [ai 0,.nils]),(oi 1 1,.arr 3 .int y8),(oi 2 1,.mat 35 (oi 3 1) .int u8),(oi 3 1,.pool 3 .int u8)]),2⟩) ?_ ?_))))
   ·intro v_ h;refine Aj (Ab ?_);obtain ⟨x18,e18,h⟩:=Ae h;refine Aa 6 (zI sI e18 (rsB 2 (Ar (tn_ (wr_ (An (Aw h (fun (u3:List Int) S_=>S_=⟨Am [(0,ai a0),(1,ai a1),(3,tI a3),(8,.box (oi 0 1) 0),(10,oI 1 1 y8.length),(11,oS 2 1 u0.length),(14,oI 4 1 u3.length),(29,tS a2),(30,an a2.length),(31,an u4)],Ah (Aq [(oi 0 1,.cells 39 [ai 0,.nils]),(oi 1 1,.arr 3 .int y8),(oi 2 1,.mat 35 (oi 3 1) .int u0),(oi 3 1,.pool 3 .int u0),(oi 4 1,.arr 3 .int u3)]),2⟩) ?_ ?_)))))))
    ·intro v_ h;refine Ab ?_;obtain ⟨y22,h22,h⟩:=Ae h;obtain ⟨g23,h⟩:=As h;refine Aa 13 (rsB 1 (zc (oI 576 8 y22.length) [nI 576 8 y22] [tI a3] (Ka h22) (rsB 1 (rs2 (oI 576 10 ((y22++y8).length)) (oi 576 8) (oi 576 10) (.arr 3 .int (y22++y8)) (Ok (t:=.int) (t':=.int) (xs:=y22) (ys:=y8) (zs:=y22++y8) (j:=oi 576 8) (len:=y22.length) (c:=oI 1 1 y8.length) (by kernel_rfl) (by kernel_rfl) rfl (by kernel_rfl) (Ac8 (e:=3) (by kernel_rfl) rfl) rfl g23) (rsB 2 (Ar (tn_ (wr_ (Aj (A1 h (fun t_ S_=>∃ (u5:Nat),∃ (u6:List Int),t_=(u5,u6)∧S_=⟨Am [(0,ai a0),(1,ai a1),(3,tI a3),(8,.box (oi 0 1) 0),(10,oI 1 1 y8.length),(11,oS 2 1 u0.length),(13,tI x18),(14,oI 4 1 u6.length),(29,tS a2),(30,an a2.length),(31,an u4),(38,oI 5 1 ((y22++y8).length)),(39,an ((y22++y8).length)),(40,an u5)],Ah (Aq [(oi 0 1,.cells 39 [ai 0,.nils]),(oi 1 1,.arr 3 .int y8),(oi 2 1,.mat 35 (oi 3 1) .int u0),(oi 3 1,.pool 3 .int u0),(oi 4 1,.arr 3 .int u6),(oi 5 1,.arr 3 .int (y22++y8))]),2⟩) ⟨_,(Il 14 3 .int rfl (by kernel_rfl)).trans (Ac [(oi 4 1,oi 14 13),(oi 5 1,oi 576 10)]),⟨0,[],rfl,rfl⟩⟩ ?_))))))))));rintro n_ _ _ c_ ⟨u5,u6,rfl,rfl⟩ h hn24
     (try dsimp only at h);unfold Ca at h;unfold Hx;refine An (Ab ?_);rcases Ad h with ⟨q27,h⟩ | ⟨q27,h⟩
     ·have q27_:=of_decide_eq_true q27;refine Ag q27 (Ak (tn_ (wr_ (Ab (Aj (Ab ?_))))));obtain ⟨x30,e30,h⟩:=Ae h;refine Aa 6 (rs0 (.elt (oi 5 1) u5 0) (zo (t:=.int) (o:=oi 5 1) (len:=(y22++y8).length) (k:=.i64) (m:=(u5:Int)) (E5 _) (Ax e30)) (zE (oi 5 1) e30 (rsB 1 (Ar (tn_ (wr_ ?_))))));obtain ⟨x31,f31,h⟩:=Ae h;obtain ⟨p31,b31,e31⟩:=Bv f31;obtain ⟨g32,h⟩:=As h;refine Aa 14 (rsB 3 (rs0 (.telt none .int x31 0) (zi (t:=.int) (xs:=x18) (k:=.i64) (m:=x30) p31 e31) (rsB 2 (zB (oi 4 1) (oi 49 11) u6 (x31) g32 (rsB 1 (Ar (bn_ (tn_ (wr_ ?_)))))))));obtain ⟨g33,h⟩:=As h;refine Aa 16 (zA g33 (rsB 1 (Ar (tn_ ?_))));obtain rfl:=zj h;exact ⟨(u5+1,u6++([x31])),_,Ac [(oi 4 1,oi 4 12)],⟨u5+1,u6++([x31]),rfl,rfl⟩,hn24⟩
     have q27_:=of_decide_eq_false q27;refine Af q27 (Az (te_ (te_ (be_ (tn_ ?_)))));obtain rfl:=zj h;have h:=hn24
     (try dsimp only at h);obtain rfl:=zj h;exact ⟨_,Ac [],rfl⟩
    rintro u3 _ rfl h
    (try dsimp only at h);obtain ⟨g34,h⟩:=As h;refine Aa 7 (rsB 2 (Ajf (oS 54 4 1) (oi 54 4) (.vec 35 1 1 ([oI 4 1 u3.length])) trivial (X3 (by kernel_rfl)) (zV (oi 2 1) (oi 54 4) (oi 3 1) u0 [oI 4 1 u3.length] g34 (rsB 1 (Ar (bn_ (tn_ ?_)))))));obtain rfl:=zj h;exact ⟨_,(Ir (e1:=35) (e:=3) (u:=.int) (n:=u0.length+1) (len:=u3.length) (row:=u3) (ys:=u3) (xss:=u0) 9000 (oi 2 5) (oi 3 1) (oi 4 1) (by kernel_rfl) (by kernel_rfl) rfl (by kernel_rfl) (by kernel_rfl) (Uf rfl) (T7 rfl) (by kernel_rfl) (by kernel_rfl) (by kernel_rfl)).trans ((Br 11 (oS 2 5 (u0.length+1)) (oS 2 5 ((u0++[u3]).length)) (by kernel_rfl) (congrArg (fun z_=>((oS 2 5 z_):AV)) ((by simp):u0.length+1=(u0++[u3]).length))).trans (Ac [(oi 2 1,oi 2 5),(oi 3 1,oi 9000 7)])),rfl⟩
   rintro u8 _ rfl h
   (try dsimp only at h);obtain ⟨g35,h⟩:=As h;refine Aa 4 (zA g35 (rsB 1 (Ar (tn_ ?_))));obtain rfl:=zj h;exact ⟨(u4+1,u8),_,Ac [],⟨u4+1,u8,rfl,rfl⟩,hn12⟩
  have q15_:=of_decide_eq_false q15;refine Af q15 (Az (te_ (te_ (be_ (tn_ ?_)))));obtain rfl:=zj h;have h:=hn12
  (try dsimp only at h);obtain rfl:=zj h;exact ⟨_,Ac [],rfl⟩
 rintro u7 _ rfl h
 (try dsimp only at h);refine An (C7 h (fun (u9:LL) S_=>S_=⟨Am [(8,.box (oi 0 1) 0),(17,.box (oi 1 1) 0)],Ah (Aq [(oi 0 1,.cells 39 [ai 0,.nils]),(oi 1 1,.cells 39 [an y8.length,oS 2 1 u9.length]),(oi 2 1,.mat 35 (oi 3 1) .int u9),(oi 3 1,.pool 3 .int u9)]),2⟩) ?_ ?_)
 ·intro v_ h hk37;refine Ab ?_;obtain ⟨y39,h39,h⟩:=Ae h;refine Aa 13 (rsB 3 (Hf (oS 1008 10 y39.length) [(oi 1008 10,some (.mat 35 (oi 1009 10) .int y39)),(oi 1009 10,some (.pool 3 .int y39))] [] [ai a0,ai a1,oS 2 1 u7.length] (caps:=[]) trivial (Q0 h39) Ri trivial (.cons (.ren (by kernel_rfl)) (.cons (.ren (by kernel_rfl)) (.cons (.gnd (by kernel_rfl) (D4 (p:=oi 3 1) (e1:=35) (e:=3) (u:=.int) (xss:=u7) ((G3 (by kernel_rfl) (by kernel_rfl) (by kernel_rfl)).trans (by kernel_rfl)) (Kx (by kernel_rfl) (by kernel_rfl) (Bn (by kernel_rfl)) (by kernel_rfl)) rfl)) .nil))) (Bl (by kernel_rfl) (by kernel_rfl) trivial) (rsB 2 (Ar (tn_ (wr_ (Aj (A1 h (fun t_ S_=>∃ (u2:Nat),∃ (u1:LL),t_=(u2,u1)∧S_=⟨Am [(3,tI a3),(8,.box (oi 0 1) 0),(17,.box (oi 1 1) 0),(63,oS 2 1 y39.length),(64,an y39.length),(65,an u2)],Ah (Aq [(oi 0 1,.cells 39 [ai 0,.nils]),(oi 1 1,.cells 39 [an y8.length,oS 4 1 u1.length]),(oi 2 1,.mat 35 (oi 3 1) .int y39),(oi 3 1,.pool 3 .int y39),(oi 4 1,.mat 35 (oi 5 1) .int u1),(oi 5 1,.pool 3 .int u1)]),2⟩) ⟨_,(C6 9000 (oi 17 5) 1 39 [an y8.length,.nils] [an y8.length,oS 9000 13 0] 35 sI (by kernel_rfl) (by kernel_rfl) (by kernel_rfl)).trans ((D5 (e1:=35) (n:=0) 9000 (oi 9000 13) 3 .int (by kernel_rfl) (by kernel_rfl) rfl (by kernel_rfl) (by kernel_rfl)).trans (Ac [(oi 1 1,oi 17 5),(oi 4 1,oi 9000 13),(oi 5 1,oi 9000 14),(oi 2 1,oi 1008 10),(oi 3 1,oi 1009 10)])),⟨0,([]:LL),rfl,rfl⟩⟩ ?_))))))));rintro n_ _ _ c_ ⟨u2,u1,rfl,rfl⟩ h hn40
  (try dsimp only at h);unfold Bk at h;unfold Hr;refine An (Ab ?_);rcases Ad h with ⟨q43,h⟩ | ⟨q43,h⟩
  ·have q43_:=of_decide_eq_true q43;refine Ag q43 (Ak (tn_ (wr_ (Ab (Aj (Ab ?_))))));obtain ⟨x46,e46,h⟩:=Ae h;refine Aa 8 (rsB 1 (zO (oi 2 1) sI y39.length (Ax e46) (rsl (.own (kid (oi 3 1) u2) .int 0 x46.length) (Hk (o:=oi 2 1) (p:=oi 3 1) (e1:=35) (u:=.int) (xss:=y39) (row:=x46) (j:=u2) (by kernel_rfl) (by kernel_rfl) e46) (rsB 2 (Ar (tn_ (wr_ (Ab (Ab ?_)))))))));obtain ⟨y49,h49,h⟩:=Ae h;refine Aa 12 (rsB 1 (Bq (ai y49) [] [.own (kid (oi 3 1) u2) .int 0 x46.length] _ (caps:=[]) (args0:=[tI x46]) trivial (Ao (Bj (e:=3) (u:=.int) (xs:=x46) (B4 (by kernel_rfl) e46) rfl) Ba) (Vt h49) U3 (rsB 2 (Ar (tn_ (wr_ ?_))))));rcases Ad h with ⟨q50,h⟩ | ⟨q50,h⟩
   ·refine Ag q50 (An (Al (tr_ (br_ (tr_ (tr_ (br_ (tr_ ?_))))))));obtain rfl:=zj h;have h:=hn40
    (try dsimp only at h);obtain rfl:=zj h;have h:=hk37
    (try dsimp only at h);obtain rfl:=zj h;exact H7 [.agg [an (0),oS 1 1 ((([]:LL)).length)],.bool false] ((C6 9000 (oi 0 1) 1 39 [ai 0,.nils] [ai 0,oS 9000 15 0] 35 sI (by kernel_rfl) (by kernel_rfl) (by kernel_rfl)).trans ((D5 (e1:=35) (n:=0) 9000 (oi 9000 15) 3 .int (by kernel_rfl) (by kernel_rfl) rfl (by kernel_rfl) (by kernel_rfl)).trans (Ac (tl:=[(8,.box (oi 0 1) 0),(9,.bool false)]) (g:=2) [(oi 1 1,oi 9000 15),(oi 2 1,oi 9000 16)])))
   refine Af q50 (Ak (tn_ (wr_ ?_)));obtain ⟨g52,h⟩:=As h;obtain ⟨y53,h53,h⟩:=Ae h;obtain ⟨g54,h⟩:=As h;refine Bi 23 (dz0 (.box (oi 1 1) 1) (dzl (oS 4 1 u1.length) (dz0 (.own (kid (oi 3 1) u2) .int 0 x46.length) (dz0 (tI a3) (dz0 (an a3.length) (ds0 (.own (kid (oi 3 1) u2) .int a3.length (x46.length - a3.length)) (Ab1 (t:=.int) (i:=kid (oi 3 1) u2) (off:=0) (len:=x46.length) (l:=(a3.length:Int)) (h:=(x46.length:Int)) (by kernel_rfl) (by kernel_rfl) (by kernel_rfl) rfl g52 (Nat.zero_add _) (by omega)) (Rv (oI 1296 18 y53.length) [nI 1296 18 y53] [.own (kid (oi 3 1) u2) .int a3.length (x46.length - a3.length)] _ (caps:=[]) (args0:=[tI (x46.drop a3.length)]) trivial (Ao (Ald (e:=3) (u:=.int) (xs:=x46) ((Na (Aei (t:=.int) (off:=a3.length) (len:=x46.length - a3.length) 0 rfl (by kernel_rfl))).trans (B4 (by kernel_rfl) e46)) (by omega) (by rw [List.take_of_length_le (by rw [List.length_drop]; omega)])) Ba) (Ka h53) W2 (Al9 (oS 82 19 1) (oi 82 19) (.vec 35 1 1 ([oI 1296 18 y53.length])) trivial (X3 (by kernel_rfl)) (dzV (oi 4 1) (oi 82 19) (oi 5 1) u1 [oI 1296 18 y53.length] g54 (dz0 (.box (oi 1 1) 1) (Aa9 (oi 1 1) (oi 1 1) (.cells 39 [an y8.length,oS 4 20 (u1.length+1)]) (by kernel_rfl) (Nm (Cn (by kernel_rfl)) (bn_ (tn_ ⟨_,Ir (e1:=35) (e:=3) (u:=.int) (n:=u1.length+1) (len:=y53.length) (row:=y53) (ys:=y53) (xss:=u1) 9000 (oi 4 20) (oi 5 1) (oi 1296 18) (by kernel_rfl) (by kernel_rfl) rfl (by kernel_rfl) (by kernel_rfl) (Uf rfl) (T7 rfl) (by kernel_rfl) (by kernel_rfl) (by kernel_rfl),?_⟩))))))))))))));obtain ⟨g55,h⟩:=As h;refine Aa 26 (zA g55 (rsB 1 (Ar (tn_ ?_))));obtain rfl:=zj h;exact ⟨(u2+1,u1++[y53]),_,(Ms (oi 1 1) (.cells 39 [an y8.length,oS 4 20 (u1.length+1)]) (.cells 39 [an y8.length,oS 4 20 ((u1++[y53]).length)]) (by kernel_rfl) (congrArg (fun z_=>(.cells 39 [an y8.length,oS 4 20 z_]:Ob)) ((by simp):u1.length+1=(u1++[y53]).length))).trans (Ac [(oi 4 1,oi 4 20),(oi 5 1,oi 9000 23)]),⟨u2+1,u1++[y53],rfl,rfl⟩,hn40⟩
  have q43_:=of_decide_eq_false q43;refine Af q43 (Az (te_ (te_ (be_ (tn_ ?_)))));obtain rfl:=zj h;have h:=hn40
  (try dsimp only at h);obtain rfl:=zj h;exact ⟨u1,_,rfl,Ac [(oi 2 1,oi 4 1),(oi 3 1,oi 5 1)],rfl⟩
 rintro u9 _ rfl h
 (try dsimp only at h);refine An (Al ?_);obtain rfl:=zj h;exact H7 [.agg [an y8.length,oS 1 1 u9.length],.bool true] (Ac (tl:=[(8,.box (oi 0 1) 0),(9,.bool true)]) (g:=2) [(oi 1 1,oi 2 1),(oi 2 1,oi 3 1)])
def Fz:AC :=
 (.seq (rg [xs1 9 8 7])
 (.seq (.cond (tm 9)
  .skip
  (.exit 0))
 (.seq (.block 1 (.seq (rg [xm 10 8,xm 5 10])
 (.seq (rg [xm 11 1,xm 12 0,xm 13 5,xx 14 1 12 13,xl 15 14,xo 16 (qb .eql (tm 11) (tm 15))])
 (.cond (tm 16)
  (.seq (rg [xm 17 5,xm 4 17])
  .ret)
  .skip))))
 (rg [xa 18 8,xm 8 18]))))
def G1:AC :=
 (.seq (rg [xo 4 (qm (ci 0))])
 (.seq (.seq (rg [xm 6 0,xn1 7 6,xo 8 (qm (ci 0))])
 (.block 0 (.loop Fz)))
 (.seq (rg [xo 4 (qm (ci (-1)))])
 .ret)))
def Le:List Res:=[.tmp 4]
theorem Lj:At Tryd.prog Tryd.f75=some (G1,Le):=by kernel_rfl
def A8 (a0:List Int) (a1:Int) (u0:Nat):Option (Ctl Nat (Ctl Unit Int)) :=
 cond (decide ((u0:Int)<(a0.length:Int)))
 ((a0[u0]?).bind fun x11 =>
 cond (a1==x11)
  (some (Ctl.out (Ctl.out (u0:Int))))
  (og (u0+1<4611686018427387904) <|
  some (Ctl.next (u0+1))))
 (some (Ctl.out (Ctl.next ())))
def Bm (a0:List Int) (a1:Int):Option Int :=
 Km (A0 (fun s_:Nat=>A8 a0 a1 s_) 4611686018427387904 0) fun _ =>
some (-1)
def Kq (r:Int):RV:=⟨false,[(false,[.sc (.int .i64 r)])]⟩
theorem Gs {a0:List Int} {a1 r:Int} (h:Bm a0 a1=some r):A7 Tryd.prog Tab 75 [tI a0,ai a1] (Kq r):=by
 refine A3 (by kernel_rfl) Tryd.func75 Lj (n:=19) (by kernel_rfl) (by simp) rfl ?_;unfold G1;unfold Bm at h;refine An (C7 h (fun (_:Unit) S_=>S_=⟨Am [],Ah (Aq []),2⟩) ?_ ?_)
 ·intro v_ h hk2;refine An (Aj (A1 h (fun (u0:Nat) S_=>S_=⟨Am [(0,tI a0),(1,ai a1),(7,an a0.length),(8,an u0)],Ah (Aq []),2⟩) ⟨_,Ac [],rfl⟩ ?_));rintro n_ u0 _ c_ rfl h hn4
  (try dsimp only at h);unfold A8 at h;unfold Fz;refine An (Ab ?_);rcases Ad h with ⟨q7,h⟩ | ⟨q7,h⟩
  ·have q7_:=of_decide_eq_true q7;refine Ag q7 (Ak (tn_ (wr_ (Ab (Aj (An (Ab ?_)))))));obtain ⟨x11,e11,h⟩:=Ae h;refine Aa 11 (rsB 3 (zI .int e11 (rsB 2 (Ar (tn_ (wr_ ?_))))));rcases Ad h with ⟨q12,h⟩ | ⟨q12,h⟩
   ·refine Ag q12 (An (Al (br_ (tr_ (tr_ (br_ (tr_ ?_)))))));obtain rfl:=zj h;have h:=hn4
    (try dsimp only at h);obtain rfl:=zj h;have h:=hk2
    (try dsimp only at h);obtain rfl:=zj h;exact Bh [an u0] (A5 rfl zl A4)
   refine Af q12 (Ak (bn_ (tn_ (wr_ ?_))));obtain ⟨g14,h⟩:=As h;refine Aa 13 (zA g14 (rsB 1 (Ar (tn_ ?_))));obtain rfl:=zj h;exact ⟨u0+1,_,Ac [],rfl,hn4⟩
  have q7_:=of_decide_eq_false q7;refine Af q7 (Az (te_ (te_ (be_ (tn_ ?_)))));obtain rfl:=zj h;have h:=hn4
  (try dsimp only at h);obtain rfl:=zj h;exact ⟨(),_,rfl,Ac [],rfl⟩
 rintro _ _ rfl h
 (try dsimp only at h);refine An (Al ?_);obtain rfl:=zj h;exact Bh [ai (-1)] (A5 rfl zl A4)
def Fy:AC :=
 (.seq (rg [xo 4 (qm (cb false))])
 (.seq (rg [xm 5 0,xm 6 1,xo 7 (qc 75 [tm 5,tm 6] [[some .int],[]]),xo 8 (qb .geq (tm 7) (ci 0)),xm 4 8])
 .ret))
def Jq:List Res:=[.tmp 4]
theorem Jr:At Tryd.prog Tryd.f68=some (Fy,Jq):=by kernel_rfl
def B1 (a0:List Int) (a1:Int):Option Bool :=
 (Bm a0 a1).bind fun y3 =>
some (decide (0<=y3))
def Iz (r:Bool):RV:=⟨false,[(false,[.sc (.bool r)])]⟩
theorem I2 {a0:List Int} {a1:Int} {r:Bool} (h:B1 a0 a1=some r):A7 Tryd.prog Tab 68 [tI a0,ai a1] (Iz r):=by
 refine A3 (by kernel_rfl) Tryd.func68 Jr (n:=9) (by kernel_rfl) (by simp) rfl ?_;unfold Fy;unfold B1 at h;refine An (Ab ?_);obtain ⟨y3,h3,h⟩:=Ae h;refine Aa 7 (rsB 2 (zc (ai y3) [] [tI a0,ai a1] (Gs h3) (rsB 2 (Ar (tn_ (wr_ (Al ?_)))))));obtain rfl:=zj h;exact Bh [.bool (decide (0<=y3))] (A5 rfl zl A4)
def Kh:AC :=
 (.seq (rg [xs1 12 11 10])
 (.seq (.cond (tm 12)
  .skip
  (.exit 0))
 (.seq (.block 1 (.seq (rg [xx 13 1 9 11,xl 14 13,xm 7 14])
 (.seq (rg [xm 15 1,xm 16 7,xo 17 (qc 68 [tm 15,tm 16] [[some .int],[]]),xo 18 (.i (.not (tm 17)))])
 (.cond (tm 18)
  (rg [xm 19 5,xm 20 7,xo 21 (.mkS 3 .int [tm 20]),xo 22 (.append 3 .int 8 (tm 19) (tm 21)),xm 5 22])
  .skip))))
 (rg [xa 23 11,xm 11 23]))))
def Np:AC :=
 (.seq (rg [xo 4 (qm (.cst .nils))])
 (.seq (rg [xo 8 (.mkS 3 .int []),xm 5 8])
 (.seq (.seq (rg [xm 9 0,xn1 10 9,xo 11 (qm (ci 0))])
 (.block 0 (.loop Kh)))
 (.seq (rg [xm 24 5,xm 4 24])
 .ret))))
def Wb:List Res:=[.tmp 4]
theorem Wi:At Tryd.prog Tryd.f45=some (Np,Wb):=by kernel_rfl
theorem Vc:A9 Tryd.prog 45=true:=by kernel_rfl
def Eh (a0 a1:List Int) (u1:Nat) (u0:List Int):Option (Ctl (Nat×List Int) (List Int)) :=
 cond (decide ((u1:Int)<(a0.length:Int)))
 (((a0[u1]?).bind fun x11 =>
  (B1 a1 x11).bind fun y13 =>
  cond (!y13)
   (og (u0.length+1<=1073741824∧(u0.length+1)*8<=140737488355328) <|
   some (u0++([x11])))
   (some u0)).bind fun u2 =>
 og (u1+1<4611686018427387904) <|
 some (Ctl.next (u1+1,u2)))
 (some (Ctl.out u0))
def F3 (a0 a1:List Int):Option (List Int) :=
 (A0 (fun s_:Nat×List Int=>Eh a0 a1 s_.1 s_.2) 4611686018427387904 (0,[])).bind fun u0 =>
some u0
def V5 (r:List Int):RV:=⟨false,[(false,[.new 3 .int r])]⟩
theorem Ur {a0 a1 r:List Int} (h:F3 a0 a1=some r):A7 Tryd.prog Tab 45 [tI a0,tI a1] (V5 r):=by
 refine A3 (by kernel_rfl) Tryd.func45 Wi (n:=25) (by kernel_rfl) (by simp) rfl ?_;unfold Np;unfold F3 at h;refine An (An (Aw h (fun (u3:List Int) S_=>S_=⟨Am [(5,oI 0 1 u3.length)],Ah (Aq [(oi 0 1,.arr 3 .int u3)]),2⟩) ?_ ?_))
 ·intro v_ h;refine An (Aj (A1 h (fun t_ S_=>∃ (u0:Nat),∃ (u1:List Int),t_=(u0,u1)∧S_=⟨Am [(1,tI a1),(5,oI 0 1 u1.length),(9,tI a0),(10,an a0.length),(11,an u0)],Ah (Aq [(oi 0 1,.arr 3 .int u1)]),2⟩) ⟨_,Ac [(oi 0 1,oi 8 2)],⟨0,[],rfl,rfl⟩⟩ ?_));rintro n_ _ _ c_ ⟨u0,u1,rfl,rfl⟩ h hn5
  (try dsimp only at h);unfold Eh at h;unfold Kh;refine An (Ab ?_);rcases Ad h with ⟨q8,h⟩ | ⟨q8,h⟩
  ·have q8_:=of_decide_eq_true q8;refine Ag q8 (Ak (tn_ (wr_ (Aw h (fun (u2:List Int) S_=>S_=⟨Am [(1,tI a1),(5,oI 0 1 u2.length),(9,tI a0),(10,an a0.length),(11,an u0)],Ah (Aq [(oi 0 1,.arr 3 .int u2)]),2⟩) ?_ ?_))))
   ·intro v_ h;refine Aj (Ab ?_);obtain ⟨x11,e11,h⟩:=Ae h;refine Aa 6 (zI .int e11 (rsB 2 (Ar (tn_ (wr_ (Ab ?_))))));obtain ⟨y13,h13,h⟩:=Ae h;refine Aa 10 (rsB 2 (zc (.bool y13) [] [tI a1,ai x11] (I2 h13) (rsB 1 (Ar (tn_ (wr_ ?_))))));rcases Ad h with ⟨q14,h⟩ | ⟨q14,h⟩
    ·refine Ag q14 ?_;obtain ⟨g15,h⟩:=As h;refine Aa 15 (rsB 3 (zB (oi 0 1) (oi 21 12) u1 (x11) g15 (rsB 1 (Ar (bn_ (tn_ ?_))))));obtain rfl:=zj h;exact ⟨_,Ac [(oi 0 1,oi 0 13)],rfl⟩
    refine Af q14 (Ak (bn_ (tn_ ?_)));obtain rfl:=zj h;exact ⟨_,Ac [],rfl⟩
   rintro u2 _ rfl h
   (try dsimp only at h);obtain ⟨g16,h⟩:=As h;refine Aa 4 (zA g16 (rsB 1 (Ar (tn_ ?_))));obtain rfl:=zj h;exact ⟨(u0+1,u2),_,Ac [],⟨u0+1,u2,rfl,rfl⟩,hn5⟩
  have q8_:=of_decide_eq_false q8;refine Af q8 (Az (te_ (te_ (be_ (tn_ ?_)))));obtain rfl:=zj h;have h:=hn5
  (try dsimp only at h);obtain rfl:=zj h;exact ⟨_,Ac [],rfl⟩
 rintro u3 _ rfl h
 (try dsimp only at h);refine An (Al ?_);obtain rfl:=zj h;exact Bh [oI 0 1 u3.length] (A5 rfl (Md (by kernel_rfl) rfl) A4)
end Go.Proofs.YtjnaikadmjocbaaDoor

namespace Go.Proofs.YtjnaikadmjocbaaDoor
open Go.RowKit Go.Deep
end Go.Proofs.YtjnaikadmjocbaaDoor
namespace Go.Proofs.YtjnaikadmjocbaaDoor
open Go.RowKit Go.Deep
section
variable {P:Program} {G:World->Prop} {f:FuncId} {args:List AV} {r:RV} {n:Nat} {R:Nat->Prop}
mutual
def AV.unR (R:Nat->Prop):AV->AV->Prop
 | .tree t xs,d=>d=.ftr R t xs
 | .agg cs,d=>∃ ds,d=.agg ds∧AV.unRL R cs ds
 | c,d=>c.scal=true∧d=c
def AV.unRL (R:Nat->Prop):List AV->List AV->Prop
 | [],ds=>ds=[]
 | c :: cs,ds=>∃ d ds',ds=d :: ds'∧AV.unR R c d∧AV.unRL R cs ds'
end
mutual
theorem Aj2 {im:Nat->Prop} {w:World}:∀ (c d:AV) (u:Value),AV.unR R c d->AV.Rep (fun _=>none) im w d u->AV.Rep (fun _=>none) (fun b=>im b∧R b) w c u
 | .tree t xs,d,u,h,hr=>by
  have h:d=.ftr R t xs:=h;subst h;exact hr
 | .agg cs,d,u,⟨ds,e,h⟩,hr=>by
  subst e;obtain ⟨us,e,hr⟩:=hr;exact ⟨us,e,Acb cs ds us h hr⟩
 | .int ..,d,u,⟨_,e⟩,hr=>by subst e; exact hr
 | .bool ..,d,u,⟨_,e⟩,hr=>by subst e; exact hr
 | .str ..,d,u,⟨_,e⟩,hr=>by subst e; exact hr
 | .nils,d,u,⟨_,e⟩,hr=>by subst e; exact hr
 | .any,d,u,⟨h,_⟩,_=>by cases h
 | .mtree ..,d,u,⟨h,_⟩,_=>by cases h
 | .ftr ..,d,u,⟨h,_⟩,_=>by cases h
 | .mp _,d,u,⟨h,_⟩,_=>by cases h
 | .tup _,d,u,⟨h,_⟩,_=>by cases h
 | .fn ..,d,u,⟨h,_⟩,_=>by cases h
 | .ref _,d,u,⟨h,_⟩,_=>by cases h
 | .own ..,d,u,⟨h,_⟩,_=>by cases h
 | .box ..,d,u,⟨h,_⟩,_=>by cases h
 | .elt ..,d,u,⟨h,_⟩,_=>by cases h
 | .sla ..,d,u,⟨h,_⟩,_=>by cases h
 | .telt ..,d,u,⟨h,_⟩,_=>by cases h
 | .giv ..,d,u,⟨h,_⟩,_=>by cases h
 | .abool ..,d,u,⟨h,_⟩,_=>by cases h
theorem Acb {im:Nat->Prop} {w:World}:∀ (cs ds:List AV) (us:List Value),AV.unRL R cs ds->AV.RepL (fun _=>none) im w ds us->AV.RepL (fun _=>none) (fun b=>im b∧R b) w cs us
 | [],ds,us,h,hr=>by obtain rfl:ds=[]:=h; exact hr
 | c :: cs,ds,us,⟨d,ds',e,h1,h2⟩,hr=>by
  subst e;obtain ⟨u,us',e,r1,r2⟩:=hr;exact ⟨u,us',e,Aj2 c d u h1 r1,Acb cs ds' us' h2 r2⟩
end
end
-- rows of things that nobody writes
section
variable {ob:Oid->Option Ob}
end
section
variable {n:Nat} {d:Option Nat} {f:Nat->AV} {ob:Oid->Option Ob}
end
-- results
section
variable {G:World->Prop} {w0 w:World} {ob:Oid->Option Ob} {σ:Oid->Option Loc} {K:Nat->Prop}
end
mutual
theorem Aja {R im:Nat->Prop} {w:World} (hR:∀ b,im b->R b):∀ (c d:AV) (u:Value),AV.unR R c d->AV.Rep (fun _=>none) im w c u->AV.Rep (fun _=>none) im w d u
 | .tree t xs,d,u,h,⟨A,c,l,e,hs⟩=>by
  have h:d=.ftr R t xs:=h;subst h;exact ⟨A,c,l,e,Ch (fun b _ hb=>⟨hb,hR b hb⟩) hs⟩
 | .agg cs,d,u,⟨ds,e,h⟩,hr=>by
  subst e;obtain ⟨us,e,hr⟩:=hr;exact ⟨us,e,Xu hR cs ds us h hr⟩
 | .int ..,d,u,⟨_,e⟩,hr=>by subst e; exact hr
 | .bool ..,d,u,⟨_,e⟩,hr=>by subst e; exact hr
 | .str ..,d,u,⟨_,e⟩,hr=>by subst e; exact hr
 | .nils,d,u,⟨_,e⟩,hr=>by subst e; exact hr
 | .any,d,u,⟨h,_⟩,_=>by cases h
 | .mtree ..,d,u,⟨h,_⟩,_=>by cases h
 | .ftr ..,d,u,⟨h,_⟩,_=>by cases h
 | .mp _,d,u,⟨h,_⟩,_=>by cases h
 | .tup _,d,u,⟨h,_⟩,_=>by cases h
 | .fn ..,d,u,⟨h,_⟩,_=>by cases h
 | .ref _,d,u,⟨h,_⟩,_=>by cases h
 | .own ..,d,u,⟨h,_⟩,_=>by cases h
 | .box ..,d,u,⟨h,_⟩,_=>by cases h
 | .elt ..,d,u,⟨h,_⟩,_=>by cases h
 | .sla ..,d,u,⟨h,_⟩,_=>by cases h
 | .telt ..,d,u,⟨h,_⟩,_=>by cases h
 | .giv ..,d,u,⟨h,_⟩,_=>by cases h
 | .abool ..,d,u,⟨h,_⟩,_=>by cases h
theorem Xu {R im:Nat->Prop} {w:World} (hR:∀ b,im b->R b):∀ (cs ds:List AV) (us:List Value),AV.unRL R cs ds->AV.RepL (fun _=>none) im w cs us->AV.RepL (fun _=>none) im w ds us
 | [],ds,us,h,hr=>by obtain rfl:ds=[]:=h; exact hr
 | c :: cs,ds,us,⟨d,ds',e,h1,h2⟩,hr=>by
  subst e;obtain ⟨u,us',e,r1,r2⟩:=hr;exact ⟨u,us',e,Aja hR c d u h1 r1,Xu hR cs ds' us' h2 r2⟩
end
section
variable {R:Nat->Prop} {z:Bool} {ob:Oid->Option Ob}
end
section
variable {P:Program} {G:World->Prop} {g k d:Nat} {gd:Option (Nat×Bool)} {xs:List X} {tl:List (Nat×AV)} {ol:List (Oid×Option Ob)} {bad:List (Nat×Nat)} {ra:List Rec} {da:List (List Oid)} {Kf:List (Nat×AV)->List (Oid×Option Ob)->Prop}
variable {fo:Opd} {ys:List Opd} {tys:List (List (Option Ty))} {F:FuncId} {caps:List AV} {rv:RV}
end
end Go.Proofs.YtjnaikadmjocbaaDoor
namespace Go.Proofs.YtjnaikadmjocbaaDoor
open Go.RowKit Go.Deep
section
variable {σ:Oid->Option Loc} {im:Nat->Prop} {w:World}
end
section
variable {n:Nat} {d:Option Nat} {f:Nat->AV} {ob:Oid->Option Ob}
end
end Go.Proofs.YtjnaikadmjocbaaDoor
namespace Go.Proofs.YtjnaikadmjocbaaDoor
open Go.RowKit Go.Deep
end Go.Proofs.YtjnaikadmjocbaaDoor
namespace Go.Proofs.YtjnaikadmjocbaaDoor
open Go.RowKit Go.Deep
section
variable {n:Nat} {d:Option Nat} {f:Nat->AV} {ob:Oid->Option Ob}
end
end Go.Proofs.YtjnaikadmjocbaaDoor
namespace Go.Proofs.YtjnaikadmjocbaaDoor
open Go.RowKit Go.Deep
end Go.Proofs.YtjnaikadmjocbaaDoor
namespace Go.Proofs.YtjnaikadmjocbaaDoor
open Go.RowKit Go.Deep
section
variable {n:Nat} {d:Option Nat} {f:Nat->AV} {ob:Oid->Option Ob}
end
end Go.Proofs.YtjnaikadmjocbaaDoor
namespace Go.Proofs.YtjnaikadmjocbaaDoor
open Go.RowKit Go.Deep
section
variable {P:Program} {G:World->Prop} (hfol:P.follows .mixedOrders=true) {g:FuncId} {fn:Func} (hf:P.funcs[g]? =some fn) {ac:AC} {rs:List Res} (hc:At P fn=some (ac,rs)) {args:List AV} {r:RV} {n:Nat}
include hfol hf hc
end
section
variable {σ:Oid->Option Loc} {im:Nat->Prop} {w:World} {θ:Oid->Oid} {t:Ty} {xs:List t.D}
end
section
variable {ob:Oid->Option Ob} {n:Nat} {k:Oid} {c:AV} {cs:List AV}
end
end Go.Proofs.YtjnaikadmjocbaaDoor
namespace Go.Proofs.YtjnaikadmjocbaaDoor
open Go.RowKit Go.Deep
set_option maxRecDepth 4000
def L2:AC :=
 (.seq (rg [xo 2 (.i (.box 37 (tm 0))),xo 4 (qm (ci 0))])
 (.seq (rg [xf 5 1 2,xl 6 5,xm 7 1,xo 8 (qc 25 [tm 6,tm 7] [[some sI],[]]),xm 1 8])
 (.seq (.seq (rg [xm 9 1,xo 10 (qb .lss (tm 9) (ci 0))])
 (.cond (tm 10)
  (.seq (rg [xo 4 (qm (ci (-1)))])
  .ret)
  .skip))
 (.seq (rg [xm 11 1,xm 4 11])
 .ret))))
def Se:List Res:=[.tmp 4]
theorem Sr:At Tryd.prog Tryd.f14=some (L2,Se):=by kernel_rfl
def Ez (u1:Int) (u0:LL) (a1:Int):Option Int :=
 (Fd u0 a1).bind fun y3 =>
cond (decide (y3<0))
 (some (-1))
 (some y3)
def Rd (r:Int):RV:=⟨false,[(false,[.sc (.int .i64 r)])]⟩
theorem Qm {u1:Int} {u0:LL} {a1 r:Int} (h:Ez u1 u0 a1=some r):A7 Tryd.prog Tab 14 [.agg [ai u1,tS u0],ai a1] (Rd r):=by
 refine A3 (by kernel_rfl) Tryd.func14 Sr (n:=12) (by kernel_rfl) (by simp) rfl ?_;unfold L2;unfold Ez at h;refine An (Ab ?_);obtain ⟨y3,h3,h⟩:=Ae h;refine Aa 8 (rsB 3 (zc (ai y3) [] [tS u0,ai a1] (Sh h3) (rsB 1 (Ar (tn_ (wr_ (Ab (An ?_))))))));rcases Ad h with ⟨q6,h⟩ | ⟨q6,h⟩
 ·have q6_:=of_decide_eq_true q6;refine Ag q6 (An (Al (tr_ ?_)));obtain rfl:=zj h;exact Bh [ai (-1)] (A5 rfl zl A4)
 have q6_:=of_decide_eq_false q6;refine Af q6 (Ak (tn_ (wr_ (An (Al ?_)))));obtain rfl:=zj h;exact Bh [ai y3] (A5 rfl zl A4)
def Lq:AC :=
 (.seq (rg [xo 1 (.i (.box 37 (tm 0))),xo 2 (.i (.alloc 39 [.int .i64 0,.nils]))])
 (.seq (rg [xo 3 (.i (.alloc 39 [.int .i64 0,.nils]))])
 (.seq (rg [xf 4 0 1,xl 5 4,xf 6 0 3,xn (qs (tm 6) (tm 5))])
 (.seq (rg [xf 7 1 1,xl 8 7,xo 9 (qc 29 [tm 8] [[some sI]]),xf 10 1 3,xn (qs (tm 10) (tm 9))])
 (.seq (rg [xo 11 (.i (.ld false 2 (tm 3))),xn (.st false 2 (tm 2) (tm 11))])
 .ret)))))
def R6:List Res:=[.cell 2 false 2]
theorem Sq:At Tryd.prog Tryd.f17=some (Lq,R6):=by kernel_rfl
theorem Fo:A9 Tryd.prog 17=true:=by kernel_rfl
def Ck (u1:Int) (u0:LL):Option (LL) :=
 (Fe u0).bind fun y6 =>
some y6
theorem Fp {u0:Int} {u1 r:LL} (h:Ck u0 u1=some r):G7 Tryd.prog Tab 17 [.agg [ai u0,tS u1]] [] (.agg [ai u0,oS 1 1 r.length]) [(oi 0 1,.cells 39 [ai u0,oS 1 1 r.length]),(oi 1 1,.mat 35 (oi 2 1) .int r),(oi 2 1,.pool 3 .int r)]:=by
 refine Eb (by kernel_rfl) Tryd.func17 Sq (n:=12) (by kernel_rfl) (by simp) rfl (by kernel_rfl) trivial ⟨trivial,⟨⟨3,.tail _ (.tail _ (.head _))⟩,⟨trivial,trivial⟩⟩⟩ ?_;unfold Lq;unfold Ck at h;refine An (An (An (Ab ?_)));obtain ⟨y6,h6,h⟩:=Ae h;refine Aa 13 (rsB 2 (Hf (oS 144 10 y6.length) [(oi 144 10,some (.mat 35 (oi 145 10) .int y6)),(oi 145 10,some (.pool 3 .int y6))] [] [tS u1] (caps:=[]) trivial (Sw h6) Sn trivial (.cons (.ren (by kernel_rfl)) .nil) (Bl (by kernel_rfl) (by kernel_rfl) trivial) (rsB 2 (Ar (tn_ (wr_ (An (Al ?_))))))));obtain rfl:=zj h;exact H7 [.agg [ai u0,oS 1 1 y6.length]] (Ac (tl:=[(2,.box (oi 0 1) 0)]) (g:=2) [(oi 0 1,oi 2 2),(oi 1 1,oi 144 10),(oi 2 1,oi 145 10)])
def Lr:AC :=
 (.seq (rg [xo 2 (.i (.box 39 (tm 0))),xo 3 (.i (.box 39 (tm 1))),xo 4 (qm (cb false))])
 (.seq (.seq (rg [xf 5 0 2,xl 6 5,xf 7 0 3,xl 8 7,xo 9 (qb .neq (tm 6) (tm 8))])
 (.cond (tm 9)
  (.seq (rg [xo 4 (qm (cb false))])
  .ret)
  .skip))
 (.seq (.seq (rg [xf 10 1 2,xl 11 10,xf 12 1 3,xl 13 12,xo 14 (qc 9 [tm 11,tm 13] [[some sI],[some sI]]),xo 15 (.i (.not (tm 14)))])
 (.cond (tm 15)
  (.seq (rg [xo 4 (qm (cb false))])
  .ret)
  .skip))
 (.seq (rg [xo 4 (qm (cb true))])
 .ret))))
def R9:List Res:=[.tmp 4]
theorem R7:At Tryd.prog Tryd.f20=some (Lr,R9):=by kernel_rfl
theorem Cp:A9 Tryd.prog 20=true:=by kernel_rfl
def Cj (u0:Int) (u1:LL) (u2:Int) (u3:LL):Option Bool :=
 cond (u0 !=u2)
 (some false)
 ((Fc u1 u3).bind fun y8 =>
 cond (!y8)
  (some false)
  (some true))
def Qu (r:Bool):RV:=⟨false,[(false,[.sc (.bool r)])]⟩
theorem Co {u2:Int} {u0:LL} {u3:Int} {u1:LL} {r:Bool} (h:Cj u2 u0 u3 u1=some r):A7 Tryd.prog Tab 20 [.agg [ai u2,tS u0],.agg [ai u3,tS u1]] (Qu r):=by
 refine A3 (by kernel_rfl) Tryd.func20 R7 (n:=16) (by kernel_rfl) (by simp) rfl ?_;unfold Lr;unfold Cj at h;refine An (Ab (An ?_));rcases Ad h with ⟨q4,h⟩ | ⟨q4,h⟩
 ·refine Ag q4 (An (Al (tr_ ?_)));obtain rfl:=zj h;exact Bh [.bool false] (A5 rfl zl A4)
 refine Af q4 (Ak (tn_ (wr_ (Ab (Ab ?_)))));obtain ⟨y8,h8,h⟩:=Ae h;refine Aa 15 (rsB 4 (zc (.bool y8) [] [tS u0,tS u1] (R5 h8) (rsB 1 (Ar (tn_ (wr_ ?_))))));rcases Ad h with ⟨q9,h⟩ | ⟨q9,h⟩
 ·refine Ag q9 (An (Al (tr_ ?_)));obtain rfl:=zj h;exact Bh [.bool false] (A5 rfl zl A4)
 refine Af q9 (Ak (tn_ (wr_ (An (Al ?_)))));obtain rfl:=zj h;exact Bh [.bool true] (A5 rfl zl A4)
def Jv:AC :=
 (.seq (rg [xo 2 (.i (.box 39 (tm 0))),xo 4 (qm (ci 0))])
 (.seq (rg [xf 5 1 2,xl 6 5,xm 7 1,xo 8 (qc 12 [tm 6,tm 7] [[some sI],[]]),xm 1 8])
 (.seq (rg [xm 9 1,xm 4 9])
 .ret)))
def Pm:List Res:=[.tmp 4]
theorem O2:At Tryd.prog Tryd.f22=some (Jv,Pm):=by kernel_rfl
theorem I0:A9 Tryd.prog 22=true:=by kernel_rfl
def C5 (u1:Int) (u0:LL) (a1:Int):Option (LL×Int) :=
 (Ed u0 a1).bind fun y4 =>
og (y4.1.length=(u0.length)) <|
some (y4.1,y4.2)
theorem I4 {u1:Int} {u0:LL} {a1:Int} {r:LL×Int} (h:C5 u1 u0 a1=some r) {n_a0_1:Nat} (hn_a0_1:n_a0_1=u0.length):G7 Tryd.prog Tab 22 [.agg [ai u1,oS 0 0 n_a0_1],ai a1] [(oi 0 0,.mat 35 (oi 1 0) .int u0),(oi 1 0,.pool 3 .int u0)] (ai r.2) [(oi 0 0,.mat 35 (oi 0 1) .int r.1),(oi 0 1,.pool 3 .int r.1)]:=by
 refine Eb (by kernel_rfl) Tryd.func22 O2 (n:=10) (by kernel_rfl) (by simp) rfl (by kernel_rfl) ⟨⟨3,.tail _ (.head _)⟩,⟨trivial,trivial⟩⟩ ⟨⟨3,.tail _ (.head _)⟩,⟨trivial,trivial⟩⟩ ?_;unfold Jv;unfold C5 at h
 (try rw [← hn_a0_1] at h)
 refine An (Ab ?_);obtain ⟨y4,h4,h⟩:=Ae h;obtain ⟨g5,h⟩:=As h;refine Aa 8 (rsB 3 (Hf (ai y4.2) [(oi 0 0,some (.mat 35 (oi 128 6) .int y4.1)),(oi 128 6,some (.pool 3 .int y4.1)),(oi 0 0,none),(oi 1 0,some (.pool 3 .int []))] [] [oS 0 0 n_a0_1,ai a1] (caps:=[]) trivial (Pv h4 hn_a0_1) P3 ⟨by kernel_rfl,⟨by kernel_rfl,trivial⟩⟩ (.cons (.ren (by kernel_rfl)) (.cons (.ren (by kernel_rfl)) .nil)) (Bl (by kernel_rfl) (by kernel_rfl) ⟨Mz (by kernel_rfl),⟨Aah (o:=oi 0 0) (p:=oi 1 0) (e1:=35) (m:=u0.length) (u:=.int) (xss:=u0) (Mz (by kernel_rfl)) (by kernel_rfl),trivial⟩⟩) (rsB 1 (Ar (tn_ (wr_ (An (Al ?_))))))));obtain rfl:=zj h;exact H7 [ai y4.2] (Ac (tl:=[(4,ai y4.2)]) (g:=2) [(oi 0 1,oi 128 6)])
def J6:AC :=
 (.seq (rg [xo 2 (.i (.box 39 (tm 0))),xo 4 (qm (ci 0))])
 (.seq (rg [xf 5 1 2,xl 6 5,xm 7 1,xo 8 (qc 13 [tm 6,tm 7] [[some sI],[]]),xm 1 8])
 (.seq (.seq (rg [xm 9 1,xo 10 (qb .lss (tm 9) (ci 0))])
 (.cond (tm 10)
  (.seq (rg [xo 4 (qm (ci (-1)))])
  .ret)
  .skip))
 (.seq (rg [xm 11 1,xm 4 11])
 .ret))))
def Pq:List Res:=[.tmp 4]
theorem Qc:At Tryd.prog Tryd.f24=some (J6,Pq):=by kernel_rfl
theorem Iy:A9 Tryd.prog 24=true:=by kernel_rfl
def C2 (u1:Int) (u0:LL) (a1:Int):Option Int :=
 (En u0 a1).bind fun y3 =>
cond (decide (y3<0))
 (some (-1))
 (some y3)
def On (r:Int):RV:=⟨false,[(false,[.sc (.int .i64 r)])]⟩
theorem Ji {u1:Int} {u0:LL} {a1 r:Int} (h:C2 u1 u0 a1=some r):A7 Tryd.prog Tab 24 [.agg [ai u1,tS u0],ai a1] (On r):=by
 refine A3 (by kernel_rfl) Tryd.func24 Qc (n:=12) (by kernel_rfl) (by simp) rfl ?_;unfold J6;unfold C2 at h;refine An (Ab ?_);obtain ⟨y3,h3,h⟩:=Ae h;refine Aa 8 (rsB 3 (zc (ai y3) [] [tS u0,ai a1] (Pt h3) (rsB 1 (Ar (tn_ (wr_ (Ab (An ?_))))))));rcases Ad h with ⟨q6,h⟩ | ⟨q6,h⟩
 ·have q6_:=of_decide_eq_true q6;refine Ag q6 (An (Al (tr_ ?_)));obtain rfl:=zj h;exact Bh [ai (-1)] (A5 rfl zl A4)
 have q6_:=of_decide_eq_false q6;refine Af q6 (Ak (tn_ (wr_ (An (Al ?_)))));obtain rfl:=zj h;exact Bh [ai y3] (A5 rfl zl A4)
def Kp:AC :=
 (.seq (rg [xs1 26 25 24])
 (.seq (.cond (tm 26)
  .skip
  (.exit 0))
 (.seq (.block 1 (.seq (rg [xx 27 1 23 25,xl 28 27,xm 6 28])
 (.seq (rg [xm 29 6,xn1 30 29,xf 31 0 3,xl 32 31,xo 33 (qb .neq (tm 30) (tm 32)),xm 34 33,⟨some 35,some (34,false),qm (tm 0)⟩,⟨some 36,some (34,false),qm (tm 6)⟩,⟨some 37,some (34,false),qc 62 [tm 35,tm 36] [[],[some .int]]⟩,⟨some 38,some (34,false),.i (.not (tm 37))⟩,xo 39 (.i (.pick (tm 34) (cb true) (tm 38)))])
 (.cond (tm 39)
  (.seq (rg [xo 4 (qm (cb false))])
  .ret)
  .skip))))
 (rg [xa 40 25,xm 25 40]))))
def N1:AC :=
 (.seq (rg [xo 3 (.i (.box 39 (tm 1))),xo 4 (qm (cb false))])
 (.seq (.seq (rg [xm 7 0,xo 8 (qc 61 [tm 7] [[]]),xo 9 (.i (.not (tm 8))),xm 10 9,⟨some 11,some (10,false),qf 0 (tm 3)⟩,⟨some 12,some (10,false),ql (tm 11)⟩,⟨some 13,some (10,false),qc 37 [tm 12,ci 0,ci 24] [[],[],[]]⟩,⟨some 14,some (10,false),.i (.not (tm 13))⟩,xo 15 (.i (.pick (tm 10) (cb true) (tm 14))),xm 16 15,⟨some 17,some (16,false),qf 1 (tm 3)⟩,⟨some 18,some (16,false),ql (tm 17)⟩,⟨some 19,some (16,false),.i (.len (tm 18))⟩,⟨some 20,some (16,false),qb .gtr (tm 19) (ci 24)⟩,xo 21 (.i (.pick (tm 16) (cb true) (tm 20)))])
 (.cond (tm 21)
  (.seq (rg [xo 4 (qm (cb false))])
  .ret)
  .skip))
 (.seq (.seq (rg [xf 22 1 3,xl 23 22,xn1 24 23,xo 25 (qm (ci 0))])
 (.block 0 (.loop Kp)))
 (.seq (rg [xo 4 (qm (cb true))])
 .ret))))
def Xd:List Res:=[.tmp 4]
theorem W7:At Tryd.prog Tryd.f35=some (N1,Xd):=by kernel_rfl
def Fq (u1:LL) (u2 a0:Int) (u0:Nat):Option (Ctl Nat (Ctl Unit Bool)) :=
 cond (decide ((u0:Int)<(u1.length:Int)))
 ((u1[u0]?).bind fun x18 =>
 (cond ((x18.length:Int) !=u2)
   (some true)
   ((Hm a0 x18).bind fun y21 =>
   some (!y21))).bind fun u3 =>
 cond u3
  (some (Ctl.out (Ctl.out false)))
  (og (u0+1<4611686018427387904) <|
  some (Ctl.next (u0+1))))
 (some (Ctl.out (Ctl.next ())))
def F7 (a0 u0:Int) (u1:LL):Option Bool :=
 ((Ge a0).bind fun y4 =>
 cond (!y4)
  (some true)
  ((Df u0 0 24).bind fun y6 =>
  cond (!y6)
   (some true)
   (some (decide (24<(u1.length:Int)))))).bind fun u2 =>
cond u2
 (some false)
 (Km (A0 (fun s_:Nat=>Fq u1 u0 a0 s_) 4611686018427387904 0) fun _ =>
 some true)
def Vi (r:Bool):RV:=⟨false,[(false,[.sc (.bool r)])]⟩
theorem Ea {a0 u1:Int} {u0:LL} {r:Bool} (h:F7 a0 u1 u0=some r):A7 Tryd.prog Tab 35 [ai a0,.agg [ai u1,tS u0]] (Vi r):=by
 refine A3 (by kernel_rfl) Tryd.func35 W7 (n:=41) (by kernel_rfl) (by simp) rfl ?_;unfold N1;unfold F7 at h;refine An (Ab (Aw h (fun (u3:Bool) S_=>S_=⟨Am [(0,ai a0),(3,.box (oi 0 1) 0),(21,.bool u3)],Ah (Aq [(oi 0 1,.cells 39 [ai u1,tS u0])]),2⟩) ?_ ?_))
 ·intro v_ h;obtain ⟨y4,h4,h⟩:=Ae h;rcases Ad h with ⟨q5,h⟩ | ⟨q5,h⟩
  ·refine Aa 18 (rsB 1 (zc (.bool y4) [] [ai a0] (Jg h4) (rsB 2 (zs q5 (zs q5 (zs q5 (zs q5 (rs0 (.bool true) (zT q5) (rsB 6 (Ar (tn_ ?_)))))))))));obtain rfl:=zj h;exact ⟨_,Ac [(oi 0 1,oi 3 1)],rfl⟩
  obtain ⟨y6,h6,h⟩:=Ae h;rcases Ad h with ⟨q7,h⟩ | ⟨q7,h⟩
  ·refine Aa 18 (rsB 1 (zc (.bool y4) [] [ai a0] (Jg h4) (rsB 2 (rs0 (.box (oi 3 1) 0) (zg q5) (rsl (ai u1) (zg q5) (Bq (.bool y6) [] [ai u1,ai 0,ai 24] _ (caps:=[]) (args0:=[ai u1,ai 0,ai 24]) (Cf (by kernel_rfl) q5) (by kernel_rfl) (B5 h6) Es (rs0 (.bool (!y6)) (zg q5) (rs0 (.bool (!y6)) (zF q5) (rsB 1 (zs q7 (zs q7 (zs q7 (zs q7 (rs0 (.bool true) (zT q7) (Ar (tn_ ?_))))))))))))))));obtain rfl:=zj h;exact ⟨_,Ac [(oi 0 1,oi 3 1)],rfl⟩
  refine Aa 18 (rsB 1 (zc (.bool y4) [] [ai a0] (Jg h4) (rsB 2 (rs0 (.box (oi 3 1) 0) (zg q5) (rsl (ai u1) (zg q5) (Bq (.bool y6) [] [ai u1,ai 0,ai 24] _ (caps:=[]) (args0:=[ai u1,ai 0,ai 24]) (Cf (by kernel_rfl) q5) (by kernel_rfl) (B5 h6) Es (rs0 (.bool (!y6)) (zg q5) (rs0 (.bool (!y6)) (zF q5) (rsB 1 (rs0 (.box (oi 3 1) 1) (zg q7) (rsl (tS u0) (zg q7) (rs0 (an u0.length) (zg q7) (rs0 (.bool (decide (24<(u0.length:Int)))) (zg q7) (rs0 (.bool (decide (24<(u0.length:Int)))) (zF q7) (Ar (tn_ ?_))))))))))))))));obtain rfl:=zj h;exact ⟨_,Ac [(oi 0 1,oi 3 1)],rfl⟩
 rintro u3 _ rfl h
 (try dsimp only at h);rcases Ad h with ⟨q8,h⟩ | ⟨q8,h⟩
 ·refine Ag q8 (An (Al (tr_ ?_)));obtain rfl:=zj h;exact Bh [.bool false] (A5 rfl zl A4)
 refine Af q8 (Ak (tn_ (wr_ (C7 h (fun (_:Unit) S_=>S_=⟨Am [],Ah (Aq []),2⟩) ?_ ?_))))
 ·intro v_ h hk10;refine An (Aj (A1 h (fun (u2:Nat) S_=>S_=⟨Am [(0,ai a0),(3,.box (oi 0 1) 0),(23,tS u0),(24,an u0.length),(25,an u2)],Ah (Aq [(oi 0 1,.cells 39 [ai u1,tS u0])]),2⟩) ⟨_,Ac [],rfl⟩ ?_));rintro n_ u2 _ c_ rfl h hn12
  (try dsimp only at h);unfold Fq at h;unfold Kp;refine An (Ab ?_);rcases Ad h with ⟨q15,h⟩ | ⟨q15,h⟩
  ·have q15_:=of_decide_eq_true q15;refine Ag q15 (Ak (tn_ (wr_ (Ab (Aj (Ab ?_))))));obtain ⟨x18,e18,h⟩:=Ae h;refine Aa 6 (zI sI e18 (rsB 2 (Ar (tn_ (wr_ (Aw h (fun (u4:Bool) S_=>S_=⟨Am [(0,ai a0),(3,.box (oi 0 1) 0),(23,tS u0),(24,an u0.length),(25,an u2),(39,.bool u4)],Ah (Aq [(oi 0 1,.cells 39 [ai u1,tS u0])]),2⟩) ?_ ?_))))))
   ·intro v_ h;rcases Ad h with ⟨q20,h⟩ | ⟨q20,h⟩
    ·refine Aa 17 (rsB 6 (zs q20 (zs q20 (zs q20 (zs q20 (rs0 (.bool true) (zT q20) (Ar (tn_ ?_))))))));obtain rfl:=zj h;exact ⟨_,Ac [],rfl⟩
    obtain ⟨y21,h21,h⟩:=Ae h;refine Aa 17 (rsB 6 (rs0 (ai a0) (zg q20) (rs0 (tI x18) (zg q20) (Bq (.bool y21) [] [ai a0,tI x18] _ (caps:=[]) (args0:=[ai a0,tI x18]) (Cf (by kernel_rfl) q20) (by kernel_rfl) (Aav h21) Aai (rs0 (.bool (!y21)) (zg q20) (rs0 (.bool (!y21)) (zF q20) (Ar (tn_ ?_))))))));obtain rfl:=zj h;exact ⟨_,Ac [],rfl⟩
   rintro u4 _ rfl h
   (try dsimp only at h);rcases Ad h with ⟨q22,h⟩ | ⟨q22,h⟩
   ·refine Ag q22 (An (Al (br_ (tr_ (tr_ (br_ (tr_ ?_)))))));obtain rfl:=zj h;have h:=hn12
    (try dsimp only at h);obtain rfl:=zj h;have h:=hk10
    (try dsimp only at h);obtain rfl:=zj h;exact Bh [.bool false] (A5 rfl zl A4)
   refine Af q22 (Ak (bn_ (tn_ (wr_ ?_))));obtain ⟨g24,h⟩:=As h;refine Aa 4 (zA g24 (rsB 1 (Ar (tn_ ?_))));obtain rfl:=zj h;exact ⟨u2+1,_,Ac [],rfl,hn12⟩
  have q15_:=of_decide_eq_false q15;refine Af q15 (Az (te_ (te_ (be_ (tn_ ?_)))));obtain rfl:=zj h;have h:=hn12
  (try dsimp only at h);obtain rfl:=zj h;exact ⟨(),_,rfl,Ac [],rfl⟩
 rintro _ _ rfl h
 (try dsimp only at h);refine An (Al ?_);obtain rfl:=zj h;exact Bh [.bool true] (A5 rfl zl A4)
def I3:AC :=
 (.seq (rg [xs1 12 11 10])
 (.seq (.cond (tm 12)
  .skip
  (.exit 0))
 (.seq (.block 1 (.seq (rg [xm 13 11,xx 14 1 9 11,xl 15 14,xm 7 13,xm 8 15])
 (.seq (rg [xm 16 8,xm 17 1,xm 18 2,xo 19 (qc 37 [tm 16,tm 17,tm 18] [[],[],[]]),xo 20 (.i (.not (tm 19))),xm 21 20,⟨some 22,some (21,false),qm (tm 7)⟩,⟨some 23,some (21,false),qb .gtr (tm 22) (ci 0)⟩,⟨some 24,some (21,false),qm (tm 23)⟩,⟨some 25,some (24,true),qm (tm 0)⟩,⟨some 26,some (24,true),qm (tm 7)⟩,⟨some 27,some (24,true),qb .sub (tm 26) (ci 1)⟩,⟨some 28,some (24,true),qx 1 (tm 25) (tm 27)⟩,⟨some 29,some (24,true),ql (tm 28)⟩,⟨some 30,some (24,true),qm (tm 8)⟩,⟨some 31,some (24,true),qb .geq (tm 29) (tm 30)⟩,⟨some 32,some (21,false),.i (.pick (tm 24) (tm 31) (cb false))⟩,xo 33 (.i (.pick (tm 21) (cb true) (tm 32)))])
 (.cond (tm 33)
  (.seq (rg [xo 6 (qm (cb false))])
  .ret)
  .skip))))
 (rg [xa 34 11,xm 11 34]))))
def Lt:AC :=
 (.seq (rg [xo 6 (qm (cb false))])
 (.seq (.seq (rg [xm 9 0,xn1 10 9,xo 11 (qm (ci 0))])
 (.block 0 (.loop I3)))
 (.seq (rg [xo 6 (qm (cb true))])
 .ret)))
def Sk:List Res:=[.tmp 6]
theorem Sm:At Tryd.prog Tryd.f63=some (Lt,Sk):=by kernel_rfl
def Er (a0:List Int) (a1 a2:Int) (u0:Nat):Option (Ctl Nat (Ctl Unit Bool)) :=
 cond (decide ((u0:Int)<(a0.length:Int)))
 ((a0[u0]?).bind fun x10 =>
 ((Df x10 a1 a2).bind fun y12 =>
  cond (!y12)
   (some true)
   (cond (decide (0<(u0:Int)))
    ((F4 a0 (wI ((u0:Int) - 1))).bind fun x15 =>
    some (decide (x10<=x15)))
    (some false))).bind fun u1 =>
 cond u1
  (some (Ctl.out (Ctl.out false)))
  (og (u0+1<4611686018427387904) <|
  some (Ctl.next (u0+1))))
 (some (Ctl.out (Ctl.next ())))
def Gi (a0:List Int) (a1 a2:Int):Option Bool :=
 Km (A0 (fun s_:Nat=>Er a0 a1 a2 s_) 4611686018427387904 0) fun _ =>
some true
def Ro (r:Bool):RV:=⟨false,[(false,[.sc (.bool r)])]⟩
theorem Qo {a0:List Int} {a1 a2:Int} {r:Bool} (h:Gi a0 a1 a2=some r):A7 Tryd.prog Tab 63 [tI a0,ai a1,ai a2] (Ro r):=by
 refine A3 (by kernel_rfl) Tryd.func63 Sm (n:=35) (by kernel_rfl) (by simp) rfl ?_;unfold Lt;unfold Gi at h;refine An (C7 h (fun (_:Unit) S_=>S_=⟨Am [],Ah (Aq []),2⟩) ?_ ?_)
 ·intro v_ h hk2;refine An (Aj (A1 h (fun (u0:Nat) S_=>S_=⟨Am [(0,tI a0),(1,ai a1),(2,ai a2),(9,tI a0),(10,an a0.length),(11,an u0)],Ah (Aq []),2⟩) ⟨_,Ac [],rfl⟩ ?_));rintro n_ u0 _ c_ rfl h hn4
  (try dsimp only at h);unfold Er at h;unfold I3;refine An (Ab ?_);rcases Ad h with ⟨q7,h⟩ | ⟨q7,h⟩
  ·have q7_:=of_decide_eq_true q7;refine Ag q7 (Ak (tn_ (wr_ (Ab (Aj (Ab ?_))))));obtain ⟨x10,e10,h⟩:=Ae h;refine Aa 8 (rsB 1 (zI .int e10 (rsB 3 (Ar (tn_ (wr_ (Aw h (fun (u1:Bool) S_=>S_=⟨Am [(0,tI a0),(1,ai a1),(2,ai a2),(9,tI a0),(10,an a0.length),(11,an u0),(33,.bool u1)],Ah (Aq []),2⟩) ?_ ?_)))))))
   ·intro v_ h;obtain ⟨y12,h12,h⟩:=Ae h;rcases Ad h with ⟨q13,h⟩ | ⟨q13,h⟩
    ·refine Aa 26 (rsB 3 (zc (.bool y12) [] [ai x10,ai a1,ai a2] (B5 h12) (rsB 2 (zs q13 (zs q13 (zs q13 (rs0 (.tup []) (E9 (by kernel_rfl)) (rs0 (.tup []) (E9 (by kernel_rfl)) (rs0 (.tup []) (E9 (by kernel_rfl)) (rs0 (.tup []) (E9 (by kernel_rfl)) (rs0 (.tup []) (E9 (by kernel_rfl)) (rs0 (.tup []) (E9 (by kernel_rfl)) (rs0 (.tup []) (E9 (by kernel_rfl)) (zs q13 (rs0 (.bool true) (zT q13) (Ar (tn_ ?_)))))))))))))))));obtain rfl:=zj h;exact ⟨_,Ac [],rfl⟩
    rcases Ad h with ⟨q14,h⟩ | ⟨q14,h⟩
    ·have q14_:=of_decide_eq_true q14;obtain ⟨x15,f15,h⟩:=Ae h;obtain ⟨p15,b15,e15⟩:=Bv f15;refine Aa 26 (rsB 3 (zc (.bool y12) [] [ai x10,ai a1,ai a2] (B5 h12) (rsB 2 (rs0 (an u0) (zg q13) (rs0 (.bool (decide (0<(u0:Int)))) (zg q13) (rs0 (.bool (decide (0<(u0:Int)))) (zg q13) (rs0 (tI a0) (zg q14) (rs0 (an u0) (zg q14) (rs0 (ai (wI ((u0:Int) - 1))) (zg q14) (rs0 (.telt none .int x15 0) (Js (by kernel_rfl) q14 (zi (t:=.int) (xs:=a0) (k:=.i64) (m:=wI ((u0:Int) - 1)) p15 e15)) (rs0 (ai x15) (zg q14) (rs0 (ai x10) (zg q14) (rs0 (.bool (decide (x10<=x15))) (zg q14) (rs0 (.bool (decide (x10<=x15))) (Js (by kernel_rfl) q13 (zT q14)) (rs0 (.bool (decide (x10<=x15))) (zF q13) (Ar (tn_ ?_)))))))))))))))));obtain rfl:=zj h;exact ⟨_,Ac [],rfl⟩
    have q14_:=of_decide_eq_false q14;refine Aa 26 (rsB 3 (zc (.bool y12) [] [ai x10,ai a1,ai a2] (B5 h12) (rsB 2 (rs0 (an u0) (zg q13) (rs0 (.bool (decide (0<(u0:Int)))) (zg q13) (rs0 (.bool (decide (0<(u0:Int)))) (zg q13) (zs q14 (zs q14 (zs q14 (zs q14 (zs q14 (zs q14 (zs q14 (rs0 (.bool false) (Js (by kernel_rfl) q13 (zF q14)) (rs0 (.bool false) (zF q13) (Ar (tn_ ?_)))))))))))))))));obtain rfl:=zj h;exact ⟨_,Ac [],rfl⟩
   rintro u1 _ rfl h
   (try dsimp only at h);rcases Ad h with ⟨q16,h⟩ | ⟨q16,h⟩
   ·refine Ag q16 (An (Al (br_ (tr_ (tr_ (br_ (tr_ ?_)))))));obtain rfl:=zj h;have h:=hn4
    (try dsimp only at h);obtain rfl:=zj h;have h:=hk2
    (try dsimp only at h);obtain rfl:=zj h;exact Bh [.bool false] (A5 rfl zl A4)
   refine Af q16 (Ak (bn_ (tn_ (wr_ ?_))));obtain ⟨g18,h⟩:=As h;refine Aa 4 (zA g18 (rsB 1 (Ar (tn_ ?_))));obtain rfl:=zj h;exact ⟨u0+1,_,Ac [],rfl,hn4⟩
  have q7_:=of_decide_eq_false q7;refine Af q7 (Az (te_ (te_ (be_ (tn_ ?_)))));obtain rfl:=zj h;have h:=hn4
  (try dsimp only at h);obtain rfl:=zj h;exact ⟨(),_,rfl,Ac [],rfl⟩
 rintro _ _ rfl h
 (try dsimp only at h);refine An (Al ?_);obtain rfl:=zj h;exact Bh [.bool true] (A5 rfl zl A4)
def Ml:AC :=
 (.seq (rg [xo 4 (qm (cb false))])
 (.seq (rg [xm 5 0,xm 6 1,xo 7 (qb .sub (tm 6) (ci 1)),xo 8 (qc 63 [tm 5,ci 0,tm 7] [[some .int],[],[]]),xm 4 8])
 .ret))
def Ts:List Res:=[.tmp 4]
theorem Uy:At Tryd.prog Tryd.f36=some (Ml,Ts):=by kernel_rfl
theorem Gh:A9 Tryd.prog 36=true:=by kernel_rfl
def Fh (a0:List Int) (a1:Int):Option Bool :=
 (Gi a0 0 (wI (a1 - 1))).bind fun y3 =>
some y3
def Sf (r:Bool):RV:=⟨false,[(false,[.sc (.bool r)])]⟩
theorem Gj {a0:List Int} {a1:Int} {r:Bool} (h:Fh a0 a1=some r):A7 Tryd.prog Tab 36 [tI a0,ai a1] (Sf r):=by
 refine A3 (by kernel_rfl) Tryd.func36 Uy (n:=9) (by kernel_rfl) (by simp) rfl ?_;unfold Ml;unfold Fh at h;refine An (Ab ?_);obtain ⟨y3,h3,h⟩:=Ae h;refine Aa 7 (rsB 3 (zc (.bool y3) [] [tI a0,ai 0,ai (wI (a1 - 1))] (Qo h3) (rsB 1 (Ar (tn_ (wr_ (Al ?_)))))));obtain rfl:=zj h;exact Bh [.bool y3] (A5 rfl zl A4)
def K8:AC :=
 (.seq (rg [xs1 11 10 9])
 (.seq (.cond (tm 11)
  .skip
  (.exit 0))
 (.seq (.block 1 (.seq (rg [xx 12 1 8 10,xl 13 12,xm 7 13])
 (.seq (rg [xm 14 1,xm 15 7,xo 16 (qc 64 [tm 14,tm 15] [[some .int],[]]),xo 17 (.i (.not (tm 16)))])
 (.cond (tm 17)
  (rg [xm 18 5,xm 19 7,xo 20 (.mkS 3 .int [tm 19]),xo 21 (.append 3 .int 8 (tm 18) (tm 20)),xm 5 21])
  .skip))))
 (rg [xa 22 10,xm 10 22]))))
def N3:AC :=
 (.seq (rg [xo 4 (qm (.cst .nils))])
 (.seq (rg [xo 5 (qm (.cst .nils))])
 (.seq (.seq (rg [xm 8 0,xn1 9 8,xo 10 (qm (ci 0))])
 (.block 0 (.loop K8)))
 (.seq (rg [xm 23 5,xm 4 23])
 .ret))))
def W5:List Res:=[.tmp 4]
theorem V8:At Tryd.prog Tryd.f40=some (N3,W5):=by kernel_rfl
theorem Mh:A9 Tryd.prog 40=true:=by kernel_rfl
def Em (a0 a1:List Int) (u1:Nat) (u0:List Int):Option (Ctl (Nat×List Int) (List Int)) :=
 cond (decide ((u1:Int)<(a0.length:Int)))
 (((a0[u1]?).bind fun x11 =>
  (Fw a1 x11).bind fun y13 =>
  cond (!y13)
   (og (u0.length+1<=1073741824∧(u0.length+1)*8<=140737488355328) <|
   some (u0++([x11])))
   (some u0)).bind fun u2 =>
 og (u1+1<4611686018427387904) <|
 some (Ctl.next (u1+1,u2)))
 (some (Ctl.out u0))
def F2 (a0 a1:List Int):Option (List Int) :=
 (A0 (fun s_:Nat×List Int=>Em a0 a1 s_.1 s_.2) 4611686018427387904 (0,[])).bind fun u0 =>
some u0
def T2 (r:List Int):RV:=⟨false,[(false,[.new 3 .int r])]⟩
theorem Mv {a0 a1 r:List Int} (h:F2 a0 a1=some r):A7 Tryd.prog Tab 40 [tI a0,tI a1] (T2 r):=by
 refine A3 (by kernel_rfl) Tryd.func40 V8 (n:=24) (by kernel_rfl) (by simp) rfl ?_;unfold N3;unfold F2 at h;refine An (An (Aw h (fun (u3:List Int) S_=>S_=⟨Am [(5,oI 0 1 u3.length)],Ah (Aq [(oi 0 1,.arr 3 .int u3)]),2⟩) ?_ ?_))
 ·intro v_ h;refine An (Aj (A1 h (fun t_ S_=>∃ (u0:Nat),∃ (u1:List Int),t_=(u0,u1)∧S_=⟨Am [(1,tI a1),(5,oI 0 1 u1.length),(8,tI a0),(9,an a0.length),(10,an u0)],Ah (Aq [(oi 0 1,.arr 3 .int u1)]),2⟩) ⟨_,(Il 5 3 .int rfl (by kernel_rfl)).trans (Ac [(oi 0 1,oi 5 6)]),⟨0,[],rfl,rfl⟩⟩ ?_));rintro n_ _ _ c_ ⟨u0,u1,rfl,rfl⟩ h hn5
  (try dsimp only at h);unfold Em at h;unfold K8;refine An (Ab ?_);rcases Ad h with ⟨q8,h⟩ | ⟨q8,h⟩
  ·have q8_:=of_decide_eq_true q8;refine Ag q8 (Ak (tn_ (wr_ (Aw h (fun (u2:List Int) S_=>S_=⟨Am [(1,tI a1),(5,oI 0 1 u2.length),(8,tI a0),(9,an a0.length),(10,an u0)],Ah (Aq [(oi 0 1,.arr 3 .int u2)]),2⟩) ?_ ?_))))
   ·intro v_ h;refine Aj (Ab ?_);obtain ⟨x11,e11,h⟩:=Ae h;refine Aa 6 (zI .int e11 (rsB 2 (Ar (tn_ (wr_ (Ab ?_))))));obtain ⟨y13,h13,h⟩:=Ae h;refine Aa 10 (rsB 2 (zc (.bool y13) [] [tI a1,ai x11] (N0 h13) (rsB 1 (Ar (tn_ (wr_ ?_))))));rcases Ad h with ⟨q14,h⟩ | ⟨q14,h⟩
    ·refine Ag q14 ?_;obtain ⟨g15,h⟩:=As h;refine Aa 15 (rsB 3 (zB (oi 0 1) (oi 20 12) u1 (x11) g15 (rsB 1 (Ar (bn_ (tn_ ?_))))));obtain rfl:=zj h;exact ⟨_,Ac [(oi 0 1,oi 0 13)],rfl⟩
    refine Af q14 (Ak (bn_ (tn_ ?_)));obtain rfl:=zj h;exact ⟨_,Ac [],rfl⟩
   rintro u2 _ rfl h
   (try dsimp only at h);obtain ⟨g16,h⟩:=As h;refine Aa 4 (zA g16 (rsB 1 (Ar (tn_ ?_))));obtain rfl:=zj h;exact ⟨(u0+1,u2),_,Ac [],⟨u0+1,u2,rfl,rfl⟩,hn5⟩
  have q8_:=of_decide_eq_false q8;refine Af q8 (Az (te_ (te_ (be_ (tn_ ?_)))));obtain rfl:=zj h;have h:=hn5
  (try dsimp only at h);obtain rfl:=zj h;exact ⟨_,Ac [],rfl⟩
 rintro u3 _ rfl h
 (try dsimp only at h);refine An (Al ?_);obtain rfl:=zj h;exact Bh [oI 0 1 u3.length] (A5 rfl (Md (by kernel_rfl) rfl) A4)
def L1:AC :=
 (.seq (.seq (rg [xm 7 5,xm 8 0,xn1 9 8,xs1 10 7 9,xm 11 10,⟨some 12,some (11,true),qm (tm 0)⟩,⟨some 13,some (11,true),qm (tm 5)⟩,⟨some 14,some (11,true),qx 1 (tm 12) (tm 13)⟩,⟨some 15,some (11,true),ql (tm 14)⟩,⟨some 16,some (11,true),qm (tm 1)⟩,⟨some 17,some (11,true),qb .lss (tm 15) (tm 16)⟩,xo 18 (.i (.pick (tm 11) (tm 17) (cb false)))])
 (.cond (tm 18)
  .skip
  (.exit 0)))
 (.block 1 (rg [xm 19 5,xa 20 19,xm 5 20])))
def Pd:AC :=
 (.seq (rg [xo 4 (qm (.cst .nils))])
 (.seq (rg [xo 5 (qm (ci 0))])
 (.seq (.block 0 (.loop L1))
 (.seq (.seq (rg [xm 21 5,xm 22 0,xn1 23 22,xs1 24 21 23,xm 25 24,⟨some 26,some (25,true),qm (tm 0)⟩,⟨some 27,some (25,true),qm (tm 5)⟩,⟨some 28,some (25,true),qx 1 (tm 26) (tm 27)⟩,⟨some 29,some (25,true),ql (tm 28)⟩,⟨some 30,some (25,true),qm (tm 1)⟩,⟨some 31,some (25,true),qb .eql (tm 29) (tm 30)⟩,xo 32 (.i (.pick (tm 25) (tm 31) (cb false)))])
 (.cond (tm 32)
  (.seq (rg [xm 33 0,xm 4 33])
  .ret)
  .skip))
 (.seq (rg [xo 34 (.mkS 3 .int []),xm 35 0,xm 36 5,xo 37 (.slice 1 (tm 35) none (some (tm 36)) none),xo 38 (.append 3 .int 8 (tm 34) (tm 37)),xm 6 38])
 (.seq (rg [xm 39 6,xm 40 1,xo 41 (.mkS 3 .int [tm 40]),xo 42 (.append 3 .int 8 (tm 39) (tm 41)),xm 6 42])
 (.seq (rg [xm 43 6,xm 44 0,xm 45 5,xo 46 (.slice 1 (tm 44) (some (tm 45)) none none),xo 47 (.append 3 .int 8 (tm 43) (tm 46)),xm 4 47])
 .ret)))))))
def Y6:List Res:=[.tmp 4]
theorem Yk:At Tryd.prog Tryd.f39=some (Pd,Y6):=by kernel_rfl
theorem Nx:A9 Tryd.prog 39=true:=by kernel_rfl
def E2 (a0:List Int) (a1:Int) (u0:Nat):Option (Ctl Nat Nat) :=
 (cond (decide ((u0:Int)<(a0.length:Int)))
  ((a0[u0]?).bind fun x8 =>
  some (decide (x8<a1)))
  (some false)).bind fun u1 =>
cond u1
 (og (u0+1<4611686018427387904) <|
 some (Ctl.next (u0+1)))
 (some (Ctl.out u0))
def G0 (a0:List Int) (a1:Int):Option (Sum Unit (List Int)) :=
 (A0 (fun s_:Nat=>E2 a0 a1 s_) 4611686018427387904 0).bind fun u0 =>
(cond (decide ((u0:Int)<(a0.length:Int)))
  ((a0[u0]?).bind fun x14 =>
  some (x14==a1))
  (some false)).bind fun u1 =>
cond u1
 (some (.inl ()))
 (og ((0:Int)<=0∧0<=(u0:Int)∧(u0:Int)<=(a0.length:Int)∧(a0.length:Int)<=(a0.length:Int)) <|
 og (0+((a0.take u0).length)<=1073741824∧(0+((a0.take u0).length))*8<=140737488355328) <|
 og (((a0.take u0).length)+1<=1073741824∧(((a0.take u0).length)+1)*8<=140737488355328) <|
 og ((0:Int)<=(u0:Int)∧(u0:Int)<=(a0.length:Int)∧(a0.length:Int)<=(a0.length:Int)∧(a0.length:Int)<=(a0.length:Int)) <|
 og ((((a0.take u0)++([a1])).length)+((a0.drop u0).length)<=1073741824∧((((a0.take u0)++([a1])).length)+((a0.drop u0).length))*8<=140737488355328) <|
 some (.inr (((a0.take u0)++([a1]))++(a0.drop u0))))
def W9:Sum Unit (List Int)->RV
 | .inl r=>⟨false,[(false,[.arg 0 none])]⟩
 | .inr r=>⟨false,[(false,[.new 3 .int r])]⟩
theorem Nw {a0:List Int} {a1:Int} {r:Sum Unit (List Int)} (h:G0 a0 a1=some r):A7 Tryd.prog Tab 39 [tI a0,ai a1] (W9 r):=by
 refine Adk (by kernel_rfl) Tryd.func39 Yk (n:=48) (by kernel_rfl) (by simp) ?_;intro im_ w_ vs_ hvs_;obtain ⟨u0,_,rfl,_,⟨u1,_,rfl,_,rfl⟩⟩:=hvs_;change awp _ _ _ _ ⟨Am [(0,.giv u0 .int a0),(1,ai a1)],Ah [],1⟩;unfold Pd;unfold G0 at h;refine An (An (Aw h (fun (u2:Nat) S_=>S_=⟨Am [(0,.giv u0 .int a0),(1,ai a1),(5,an u2)],Ah (Aq []),2⟩) ?_ ?_))
 ·intro v_ h;refine Aj (A1 h (fun (u3:Nat) S_=>S_=⟨Am [(0,.giv u0 .int a0),(1,ai a1),(5,an u3)],Ah (Aq []),2⟩) ⟨_,Ac [],rfl⟩ ?_);rintro n_ u3 _ c_ rfl h hn4
  (try dsimp only at h);unfold E2 at h;unfold L1;refine Ab (Aw h (fun (u4:Bool) S_=>S_=⟨Am [(0,.giv u0 .int a0),(1,ai a1),(5,an u3),(18,.bool u4)],Ah (Aq []),2⟩) ?_ ?_)
  ·intro v_ h;rcases Ad h with ⟨q7,h⟩ | ⟨q7,h⟩
   ·have q7_:=of_decide_eq_true q7;obtain ⟨x8,e8,h⟩:=Ae h;refine Aa 14 (rsB 5 (rs0 (.giv u0 .int a0) (zg q7) (rs0 (an u3) (zg q7) (rs0 (.telt none .int x8 0) (Js (by kernel_rfl) q7 (zi (t:=.int) (xs:=a0) (k:=.i64) (m:=(u3:Int)) (E5 _) e8)) (rs0 (ai x8) (zg q7) (rs0 (ai a1) (zg q7) (rs0 (.bool (decide (x8<a1))) (zg q7) (rs0 (.bool (decide (x8<a1))) (zT q7) (Ar (tn_ ?_))))))))));obtain rfl:=zj h;exact ⟨_,Ac [],rfl⟩
   have q7_:=of_decide_eq_false q7;refine Aa 14 (rsB 5 (zs q7 (zs q7 (zs q7 (zs q7 (zs q7 (zs q7 (rs0 (.bool false) (zF q7) (Ar (tn_ ?_))))))))));obtain rfl:=zj h;exact ⟨_,Ac [],rfl⟩
  rintro u4 _ rfl h
  (try dsimp only at h);rcases Ad h with ⟨q9,h⟩ | ⟨q9,h⟩
  ·refine Ag q9 (Ak (tn_ (wr_ (Aj ?_))));obtain ⟨g10,h⟩:=As h;refine Aa 5 (rsB 1 (zA g10 (rsB 1 (Ar (bn_ (tn_ ?_))))));obtain rfl:=zj h;exact ⟨u3+1,_,Ac [],rfl,hn4⟩
  refine Af q9 (Az (te_ (te_ (be_ (tn_ ?_)))));obtain rfl:=zj h;have h:=hn4
  (try dsimp only at h);obtain rfl:=zj h;exact ⟨_,Ac [],rfl⟩
 rintro u2 _ rfl h
 (try dsimp only at h);refine Ab (Aw h (fun (u5:Bool) S_=>S_=⟨Am [(0,.giv u0 .int a0),(1,ai a1),(5,an u2),(32,.bool u5)],Ah (Aq []),2⟩) ?_ ?_)
 ·intro v_ h;rcases Ad h with ⟨q13,h⟩ | ⟨q13,h⟩
  ·have q13_:=of_decide_eq_true q13;obtain ⟨x14,e14,h⟩:=Ae h;refine Aa 14 (rsB 5 (rs0 (.giv u0 .int a0) (zg q13) (rs0 (an u2) (zg q13) (rs0 (.telt none .int x14 0) (Js (by kernel_rfl) q13 (zi (t:=.int) (xs:=a0) (k:=.i64) (m:=(u2:Int)) (E5 _) e14)) (rs0 (ai x14) (zg q13) (rs0 (ai a1) (zg q13) (rs0 (.bool (x14==a1)) (zg q13) (rs0 (.bool (x14==a1)) (zT q13) (Ar (tn_ ?_))))))))));obtain rfl:=zj h;exact ⟨_,Ac [],rfl⟩
  have q13_:=of_decide_eq_false q13;refine Aa 14 (rsB 5 (zs q13 (zs q13 (zs q13 (zs q13 (zs q13 (zs q13 (rs0 (.bool false) (zF q13) (Ar (tn_ ?_))))))))));obtain rfl:=zj h;exact ⟨_,Ac [],rfl⟩
 rintro u5 _ rfl h
 (try dsimp only at h);rcases Ad h with ⟨q15,h⟩ | ⟨q15,h⟩
 ·refine Ag q15 (An (Al (tr_ ?_)));obtain rfl:=zj h;exact Bh [.giv u0 .int a0] (A5 rfl (Amg rfl) A4)
 refine Af q15 (Ak (tn_ (wr_ (Ab ?_))));obtain ⟨g18,h⟩:=As h;obtain ⟨g19,h⟩:=As h;refine Aa 8 (rsB 3 (rs0 (tI (a0.take u2)) (Abi (t:=.int) (xs:=a0) (zs:=a0.take u2) (l:=0) (h:=(u2:Int)) (m:=(a0.length:Int)) (by kernel_rfl) (by kernel_rfl) (by kernel_rfl) (by kernel_rfl) rfl g18 rfl) (rs2 (oI 34 6 ((a0.take u2).length)) (oi 34 2) (oi 34 6) (.arr 3 .int (a0.take u2)) (Ok (t:=.int) (t':=.int) (xs:=[]) (ys:=a0.take u2) (zs:=a0.take u2) (j:=oi 34 2) (len:=0) (c:=tI (a0.take u2)) (by kernel_rfl) (by kernel_rfl) rfl (by kernel_rfl) Tc rfl g19) (rsB 1 (Ar (tn_ (wr_ (Ab ?_))))))));obtain ⟨g21,h⟩:=As h;refine Aa 13 (rsB 3 (rs2 (oI 34 11 (((a0.take u2)++([a1])).length)) (oi 34 6) (oi 34 11) (.arr 3 .int ((a0.take u2)++([a1]))) (Ok (t:=.int) (t':=.int) (xs:=a0.take u2) (ys:=[a1]) (zs:=(a0.take u2)++([a1])) (j:=oi 34 6) (len:=(a0.take u2).length) (c:=oI 41 10 1) (by kernel_rfl) (by kernel_rfl) rfl (by kernel_rfl) (Ac8 (e:=3) (by kernel_rfl) rfl) rfl g21) (rsB 1 (Ar (tn_ (wr_ (Ab ?_)))))));obtain ⟨g23,h⟩:=As h;obtain ⟨g24,h⟩:=As h;refine Aa 19 (rsB 3 (rs0 (tI (a0.drop u2)) (Abi (t:=.int) (xs:=a0) (zs:=a0.drop u2) (l:=(u2:Int)) (h:=(a0.length:Int)) (m:=(a0.length:Int)) (by kernel_rfl) (by kernel_rfl) (by kernel_rfl) (by kernel_rfl) rfl g23 (by first | (rw [show (a0.length:Int).toNat=a0.length from rfl,List.take_length]; done) | (rw [show (a0.length:Int).toNat=a0.length from rfl,List.take_length]; rfl))) (rs2 (oI 34 17 ((((a0.take u2)++([a1]))++(a0.drop u2)).length)) (oi 34 11) (oi 34 17) (.arr 3 .int (((a0.take u2)++([a1]))++(a0.drop u2))) (Ok (t:=.int) (t':=.int) (xs:=(a0.take u2)++([a1])) (ys:=a0.drop u2) (zs:=((a0.take u2)++([a1]))++(a0.drop u2)) (j:=oi 34 11) (len:=((a0.take u2)++([a1])).length) (c:=tI (a0.drop u2)) (by kernel_rfl) (by kernel_rfl) rfl (by kernel_rfl) Tc rfl g24) (rsB 1 (Ar (tn_ (wr_ (Al ?_))))))));obtain rfl:=zj h;exact Bh [oI 34 17 ((((a0.take u2)++([a1]))++(a0.drop u2)).length)] (A5 rfl (Md (by kernel_rfl) rfl) A4)
def Lx:AC :=
 (.seq (rg [xo 3 (.i (.box 39 (tm 1))),xo 4 (qm (cb false))])
 (.seq (rg [xm 5 0,xo 6 (qc 55 [tm 5] [[]]),xm 7 6,⟨some 8,some (7,true),qf 0 (tm 3)⟩,⟨some 9,some (7,true),ql (tm 8)⟩,⟨some 10,some (7,true),qc 44 [tm 9,ci 0,ci 24] [[],[],[]]⟩,xo 11 (.i (.pick (tm 7) (tm 10) (cb false))),xm 12 11,⟨some 13,some (12,true),qf 1 (tm 3)⟩,⟨some 14,some (12,true),ql (tm 13)⟩,⟨some 15,some (12,true),.i (.len (tm 14))⟩,⟨some 16,some (12,true),qb .leq (tm 15) (ci 24)⟩,xo 17 (.i (.pick (tm 12) (tm 16) (cb false))),xm 18 17,⟨some 19,some (18,true),qm (tm 0)⟩,⟨some 20,some (18,true),qf 1 (tm 3)⟩,⟨some 21,some (18,true),ql (tm 20)⟩,⟨some 22,some (18,true),qf 0 (tm 3)⟩,⟨some 23,some (18,true),ql (tm 22)⟩,⟨some 24,some (18,true),qc 67 [tm 19,tm 21,tm 23] [[],[some sI],[]]⟩,xo 25 (.i (.pick (tm 18) (tm 24) (cb false))),xm 4 25])
 .ret))
def Sj:List Res:=[.tmp 4]
theorem Sz:At Tryd.prog Tryd.f42=some (Lx,Sj):=by kernel_rfl
def Ex (a0 u0:Int) (u1:LL):Option Bool :=
 ((Jd a0).bind fun y3 =>
 cond y3
  ((Dg u0 0 24).bind fun y5 =>
  cond y5
   (cond (decide ((u1.length:Int)<=24))
    ((Du a0 u1 u0).bind fun y8 =>
    some y8)
    (some false))
   (some false))
  (some false)).bind fun u2 =>
some u2
def Rl (r:Bool):RV:=⟨false,[(false,[.sc (.bool r)])]⟩
theorem Qt {a0 u0:Int} {u1:LL} {r:Bool} (h:Ex a0 u0 u1=some r):A7 Tryd.prog Tab 42 [ai a0,.agg [ai u0,tS u1]] (Rl r):=by
 refine A3 (by kernel_rfl) Tryd.func42 Sz (n:=26) (by kernel_rfl) (by simp) rfl ?_;unfold Lx;unfold Ex at h;refine An (Aw h (fun (u2:Bool) S_=>S_=⟨Am [(4,.bool u2)],Ah (Aq []),2⟩) ?_ ?_)
 ·intro v_ h;obtain ⟨y3,h3,h⟩:=Ae h;rcases Ad h with ⟨q4,h⟩ | ⟨q4,h⟩
  ·obtain ⟨y5,h5,h⟩:=Ae h;rcases Ad h with ⟨q6,h⟩ | ⟨q6,h⟩
   ·rcases Ad h with ⟨q7,h⟩ | ⟨q7,h⟩
    ·have q7_:=of_decide_eq_true q7;obtain ⟨y8,h8,h⟩:=Ae h;refine Aa 25 (rsB 1 (zc (.bool y3) [] [ai a0] (Gg h3) (rsB 1 (rs0 (.box (oi 3 1) 0) (zg q4) (rsl (ai u0) (zg q4) (Bq (.bool y5) [] [ai u0,ai 0,ai 24] _ (caps:=[]) (args0:=[ai u0,ai 0,ai 24]) (Cf (by kernel_rfl) q4) (by kernel_rfl) (Bz h5) C1 (rs0 (.bool y5) (zT q4) (rsB 1 (rs0 (.box (oi 3 1) 1) (zg q6) (rsl (tS u1) (zg q6) (rs0 (an u1.length) (zg q6) (rs0 (.bool (decide ((u1.length:Int)<=24))) (zg q6) (rs0 (.bool (decide ((u1.length:Int)<=24))) (zT q6) (rsB 1 (rs0 (ai a0) (zg q7) (rs0 (.box (oi 3 1) 1) (zg q7) (rsl (tS u1) (zg q7) (rs0 (.box (oi 3 1) 0) (zg q7) (rsl (ai u0) (zg q7) (Bq (.bool y8) [] [ai a0,tS u1,ai u0] _ (caps:=[]) (args0:=[ai a0,tS u1,ai u0]) (Cf (by kernel_rfl) q7) (by kernel_rfl) (Oh h8) Ox (rs0 (.bool y8) (zT q7) (rsB 1 (Ar (tn_ ?_))))))))))))))))))))))));obtain rfl:=zj h;exact ⟨_,Ac [],rfl⟩
    have q7_:=of_decide_eq_false q7;refine Aa 25 (rsB 1 (zc (.bool y3) [] [ai a0] (Gg h3) (rsB 1 (rs0 (.box (oi 3 1) 0) (zg q4) (rsl (ai u0) (zg q4) (Bq (.bool y5) [] [ai u0,ai 0,ai 24] _ (caps:=[]) (args0:=[ai u0,ai 0,ai 24]) (Cf (by kernel_rfl) q4) (by kernel_rfl) (Bz h5) C1 (rs0 (.bool y5) (zT q4) (rsB 1 (rs0 (.box (oi 3 1) 1) (zg q6) (rsl (tS u1) (zg q6) (rs0 (an u1.length) (zg q6) (rs0 (.bool (decide ((u1.length:Int)<=24))) (zg q6) (rs0 (.bool (decide ((u1.length:Int)<=24))) (zT q6) (rsB 1 (zs q7 (zs q7 (zs q7 (zs q7 (zs q7 (zs q7 (rs0 (.bool false) (zF q7) (rsB 1 (Ar (tn_ ?_))))))))))))))))))))))));obtain rfl:=zj h;exact ⟨_,Ac [],rfl⟩
   refine Aa 25 (rsB 1 (zc (.bool y3) [] [ai a0] (Gg h3) (rsB 1 (rs0 (.box (oi 3 1) 0) (zg q4) (rsl (ai u0) (zg q4) (Bq (.bool y5) [] [ai u0,ai 0,ai 24] _ (caps:=[]) (args0:=[ai u0,ai 0,ai 24]) (Cf (by kernel_rfl) q4) (by kernel_rfl) (Bz h5) C1 (rs0 (.bool y5) (zT q4) (rsB 1 (zs q6 (zs q6 (zs q6 (zs q6 (rs0 (.bool false) (zF q6) (rsB 9 (Ar (tn_ ?_))))))))))))))));obtain rfl:=zj h;exact ⟨_,Ac [],rfl⟩
  refine Aa 25 (rsB 1 (zc (.bool y3) [] [ai a0] (Gg h3) (rsB 1 (zs q4 (zs q4 (zs q4 (rs0 (.bool false) (zF q4) (rsB 15 (Ar (tn_ ?_))))))))));obtain rfl:=zj h;exact ⟨_,Ac [],rfl⟩
 rintro u2 _ rfl h
 (try dsimp only at h);refine Al ?_;obtain rfl:=zj h;exact Bh [.bool u2] (A5 rfl zl A4)
def Ht:AC :=
 (.seq (rg [xs1 10 9 8])
 (.seq (.cond (tm 10)
  .skip
  (.exit 0))
 (.seq (.block 1 (.seq (rg [xm 11 9,xx 12 1 7 9,xl 13 12,xm 5 11,xm 6 13])
 (.seq (rg [xm 14 6,xm 15 1,xo 16 (qb .sub (tm 15) (ci 1)),xo 17 (qc 44 [tm 14,ci 0,tm 16] [[],[],[]]),xo 18 (.i (.not (tm 17))),xm 19 18,⟨some 20,some (19,false),qm (tm 5)⟩,⟨some 21,some (19,false),qb .gtr (tm 20) (ci 0)⟩,⟨some 22,some (19,false),qm (tm 21)⟩,⟨some 23,some (22,true),qm (tm 0)⟩,⟨some 24,some (22,true),qm (tm 5)⟩,⟨some 25,some (22,true),qb .sub (tm 24) (ci 1)⟩,⟨some 26,some (22,true),qx 1 (tm 23) (tm 25)⟩,⟨some 27,some (22,true),ql (tm 26)⟩,⟨some 28,some (22,true),qm (tm 6)⟩,⟨some 29,some (22,true),qb .geq (tm 27) (tm 28)⟩,⟨some 30,some (19,false),.i (.pick (tm 22) (tm 29) (cb false))⟩,xo 31 (.i (.pick (tm 19) (cb true) (tm 30)))])
 (.cond (tm 31)
  (.seq (rg [xo 4 (qm (cb false))])
  .ret)
  .skip))))
 (rg [xa 32 9,xm 9 32]))))
def Jy:AC :=
 (.seq (rg [xo 4 (qm (cb false))])
 (.seq (.seq (rg [xm 7 0,xn1 8 7,xo 9 (qm (ci 0))])
 (.block 0 (.loop Ht)))
 (.seq (rg [xo 4 (qm (cb true))])
 .ret)))
def Pb:List Res:=[.tmp 4]
theorem Qa:At Tryd.prog Tryd.f43=some (Jy,Pb):=by kernel_rfl
def Dt (a0:List Int) (a1:Int) (u0:Nat):Option (Ctl Nat (Ctl Unit Bool)) :=
 cond (decide ((u0:Int)<(a0.length:Int)))
 ((a0[u0]?).bind fun x10 =>
 ((Dg x10 0 (wI (a1 - 1))).bind fun y12 =>
  cond (!y12)
   (some true)
   (cond (decide (0<(u0:Int)))
    ((F4 a0 (wI ((u0:Int) - 1))).bind fun x15 =>
    some (decide (x10<=x15)))
    (some false))).bind fun u1 =>
 cond u1
  (some (Ctl.out (Ctl.out false)))
  (og (u0+1<4611686018427387904) <|
  some (Ctl.next (u0+1))))
 (some (Ctl.out (Ctl.next ())))
def Dx (a0:List Int) (a1:Int):Option Bool :=
 Km (A0 (fun s_:Nat=>Dt a0 a1 s_) 4611686018427387904 0) fun _ =>
some true
def Oc (r:Bool):RV:=⟨false,[(false,[.sc (.bool r)])]⟩
theorem Dm {a0:List Int} {a1:Int} {r:Bool} (h:Dx a0 a1=some r):A7 Tryd.prog Tab 43 [tI a0,ai a1] (Oc r):=by
 refine A3 (by kernel_rfl) Tryd.func43 Qa (n:=33) (by kernel_rfl) (by simp) rfl ?_;unfold Jy;unfold Dx at h;refine An (C7 h (fun (_:Unit) S_=>S_=⟨Am [],Ah (Aq []),2⟩) ?_ ?_)
 ·intro v_ h hk2;refine An (Aj (A1 h (fun (u0:Nat) S_=>S_=⟨Am [(0,tI a0),(1,ai a1),(7,tI a0),(8,an a0.length),(9,an u0)],Ah (Aq []),2⟩) ⟨_,Ac [],rfl⟩ ?_));rintro n_ u0 _ c_ rfl h hn4
  (try dsimp only at h);unfold Dt at h;unfold Ht;refine An (Ab ?_);rcases Ad h with ⟨q7,h⟩ | ⟨q7,h⟩
  ·have q7_:=of_decide_eq_true q7;refine Ag q7 (Ak (tn_ (wr_ (Ab (Aj (Ab ?_))))));obtain ⟨x10,e10,h⟩:=Ae h;refine Aa 8 (rsB 1 (zI .int e10 (rsB 3 (Ar (tn_ (wr_ (Aw h (fun (u1:Bool) S_=>S_=⟨Am [(0,tI a0),(1,ai a1),(7,tI a0),(8,an a0.length),(9,an u0),(31,.bool u1)],Ah (Aq []),2⟩) ?_ ?_)))))))
   ·intro v_ h;obtain ⟨y12,h12,h⟩:=Ae h;rcases Ad h with ⟨q13,h⟩ | ⟨q13,h⟩
    ·refine Aa 26 (rsB 3 (zc (.bool y12) [] [ai x10,ai 0,ai (wI (a1 - 1))] (Bz h12) (rsB 2 (zs q13 (zs q13 (zs q13 (rs0 (.tup []) (E9 (by kernel_rfl)) (rs0 (.tup []) (E9 (by kernel_rfl)) (rs0 (.tup []) (E9 (by kernel_rfl)) (rs0 (.tup []) (E9 (by kernel_rfl)) (rs0 (.tup []) (E9 (by kernel_rfl)) (rs0 (.tup []) (E9 (by kernel_rfl)) (rs0 (.tup []) (E9 (by kernel_rfl)) (zs q13 (rs0 (.bool true) (zT q13) (Ar (tn_ ?_)))))))))))))))));obtain rfl:=zj h;exact ⟨_,Ac [],rfl⟩
    rcases Ad h with ⟨q14,h⟩ | ⟨q14,h⟩
    ·have q14_:=of_decide_eq_true q14;obtain ⟨x15,f15,h⟩:=Ae h;obtain ⟨p15,b15,e15⟩:=Bv f15;refine Aa 26 (rsB 3 (zc (.bool y12) [] [ai x10,ai 0,ai (wI (a1 - 1))] (Bz h12) (rsB 2 (rs0 (an u0) (zg q13) (rs0 (.bool (decide (0<(u0:Int)))) (zg q13) (rs0 (.bool (decide (0<(u0:Int)))) (zg q13) (rs0 (tI a0) (zg q14) (rs0 (an u0) (zg q14) (rs0 (ai (wI ((u0:Int) - 1))) (zg q14) (rs0 (.telt none .int x15 0) (Js (by kernel_rfl) q14 (zi (t:=.int) (xs:=a0) (k:=.i64) (m:=wI ((u0:Int) - 1)) p15 e15)) (rs0 (ai x15) (zg q14) (rs0 (ai x10) (zg q14) (rs0 (.bool (decide (x10<=x15))) (zg q14) (rs0 (.bool (decide (x10<=x15))) (Js (by kernel_rfl) q13 (zT q14)) (rs0 (.bool (decide (x10<=x15))) (zF q13) (Ar (tn_ ?_)))))))))))))))));obtain rfl:=zj h;exact ⟨_,Ac [],rfl⟩
    have q14_:=of_decide_eq_false q14;refine Aa 26 (rsB 3 (zc (.bool y12) [] [ai x10,ai 0,ai (wI (a1 - 1))] (Bz h12) (rsB 2 (rs0 (an u0) (zg q13) (rs0 (.bool (decide (0<(u0:Int)))) (zg q13) (rs0 (.bool (decide (0<(u0:Int)))) (zg q13) (zs q14 (zs q14 (zs q14 (zs q14 (zs q14 (zs q14 (zs q14 (rs0 (.bool false) (Js (by kernel_rfl) q13 (zF q14)) (rs0 (.bool false) (zF q13) (Ar (tn_ ?_)))))))))))))))));obtain rfl:=zj h;exact ⟨_,Ac [],rfl⟩
   rintro u1 _ rfl h
   (try dsimp only at h);rcases Ad h with ⟨q16,h⟩ | ⟨q16,h⟩
   ·refine Ag q16 (An (Al (br_ (tr_ (tr_ (br_ (tr_ ?_)))))));obtain rfl:=zj h;have h:=hn4
    (try dsimp only at h);obtain rfl:=zj h;have h:=hk2
    (try dsimp only at h);obtain rfl:=zj h;exact Bh [.bool false] (A5 rfl zl A4)
   refine Af q16 (Ak (bn_ (tn_ (wr_ ?_))));obtain ⟨g18,h⟩:=As h;refine Aa 4 (zA g18 (rsB 1 (Ar (tn_ ?_))));obtain rfl:=zj h;exact ⟨u0+1,_,Ac [],rfl,hn4⟩
  have q7_:=of_decide_eq_false q7;refine Af q7 (Az (te_ (te_ (be_ (tn_ ?_)))));obtain rfl:=zj h;have h:=hn4
  (try dsimp only at h);obtain rfl:=zj h;exact ⟨(),_,rfl,Ac [],rfl⟩
 rintro _ _ rfl h
 (try dsimp only at h);refine An (Al ?_);obtain rfl:=zj h;exact Bh [.bool true] (A5 rfl zl A4)
def H9:AC :=
 (.seq (rg [xs1 36 35 34])
 (.seq (.cond (tm 36)
  .skip
  (.exit 2))
 (.seq (.block 3 (.seq (rg [xm 37 35,xx 38 1 33 35,xl 39 38,xm 13 37,xm 14 39])
 (.seq (.block 4 (.seq (rg [xm 62 11,xm 63 2,xo 64 (qb .eql (tm 62) (tm 63)),xm 65 64,⟨some 66,some (65,true),qm (tm 13)⟩,⟨some 67,some (65,true),qm (tm 3)⟩,⟨some 68,some (65,true),qb .eql (tm 66) (tm 67)⟩,xo 69 (.i (.pick (tm 65) (tm 68) (cb false))),xm 61 69])
 (.cond (tm 61)
  (rg [xm 70 9,xm 14 70])
  (.seq (rg [xm 72 11,xm 73 2,xo 74 (qb .eql (tm 72) (tm 73)),xm 71 74])
  (.cond (tm 71)
   (rg [xm 75 14,xm 76 9,xo 77 (qb .mul (tm 75) (tm 76)),xm 14 77])
   (.seq (rg [xm 79 13,xm 80 3,xo 81 (qb .eql (tm 79) (tm 80)),xm 78 81])
   (.cond (tm 78)
    (rg [xm 82 14,xo 83 (.i (.neg (tm 82))),xm 84 9,xo 85 (qb .mul (tm 83) (tm 84)),xm 14 85])
    (.region [xm 40 14,xm 41 0,xm 42 1,xm 43 2,xx 44 1 42 43,xl 45 44,xm 46 13,xx 47 1 45 46,xl 48 47,xm 49 1,xm 50 11,xx 51 1 49 50,xl 52 51,xm 53 3,xx 54 1 52 53,xl 55 54,xo 56 (qb .mul (tm 48) (tm 55)),xo 57 (qc 72 [tm 41,tm 56] [[],[]]),xm 58 9,xo 59 (qb .mul (tm 57) (tm 58)),xo 60 (qb .sub (tm 40) (tm 59)),xm 14 60] true []))))))))
 (.region [xm 86 10,xm 87 11,xx 88 1 86 87,xl 89 88,xm 90 13,xm 91 0,xm 92 14,xo 93 (qc 72 [tm 91,tm 92] [[],[]]),xx 94 1 89 90,xn (qs (tm 94) (tm 93))] true [(3,7)]))))
 (rg [xa 95 35,xm 35 95]))))
def H6:AC :=
 (.seq (rg [xs1 29 28 27])
 (.seq (.cond (tm 29)
  .skip
  (.exit 0))
 (.seq (.block 1 (.seq (rg [xm 30 28,xx 31 1 26 28,xl 32 31,xm 11 30,xm 12 32])
 (.seq (rg [xm 33 12,xn1 34 33,xo 35 (qm (ci 0))])
 (.block 2 (.loop H9)))))
 (rg [xa 96 28,xm 28 96]))))
def Kv:AC :=
 (.seq (rg [xo 8 (qm (.cst .nils))])
 (.seq (rg [xm 15 0,xm 16 1,xm 17 2,xx 18 1 16 17,xl 19 18,xm 20 3,xx 21 1 19 20,xl 22 21,xo 23 (qc 70 [tm 15,tm 22] [[],[]]),xm 9 23])
 (.seq (rg [xm 24 1,xo 25 (qc 71 [tm 24] [[some sI]]),xm 10 25])
 (.seq (.seq (rg [xm 26 1,xn1 27 26,xo 28 (qm (ci 0))])
 (.block 0 (.loop H6)))
 (.seq (rg [xm 97 10,xm 8 97])
 .ret)))))
def Qp:List Res:=[.tmp 8]
theorem Q2:At Tryd.prog Tryd.f48=some (Kv,Qp):=by kernel_rfl
theorem P9:A9 Tryd.prog 48=true:=by kernel_rfl
def C9 (x17:List Int) (u1:Nat) (a2 a3 y6:Int) (x4:List Int) (a0:Int) (u0:Nat) (u2:LL):Option (Ctl (Nat×LL) (LL)) :=
 cond (decide ((u0:Int)<(x17.length:Int)))
 ((x17[u0]?).bind fun x25 =>
 ((cond ((u1:Int)==a2)
       (some ((u0:Int)==a3))
       (some false)).bind fun u3 =>
  cond u3
   (some y6)
   (cond ((u1:Int)==a2)
    (some (wI (x25*y6)))
    (cond ((u0:Int)==a3)
     (some (wI ((wI (0 - x25))*y6)))
     ((x4[u0]?).bind fun x34 =>
     (F4 x17 a3).bind fun x35 =>
     (D3 a0 (wI (x34*x35))).bind fun y36 =>
     some (wI (x25 - (wI (y36*y6)))))))).bind fun u4 =>
 (u2[u1]?).bind fun x37 =>
 (D3 a0 u4).bind fun y38 =>
 (x37[u0]?).bind fun x39 =>
 og (u0+1<4611686018427387904) <|
 some (Ctl.next (u0+1,u2.set u1 (x37.set u0 y38))))
 (some (Ctl.out u2))
def C8 (a1:LL) (a2 a3 y6:Int) (x4:List Int) (a0:Int) (u0:Nat) (u1:LL):Option (Ctl (Nat×LL) (LL)) :=
 cond (decide ((u0:Int)<(a1.length:Int)))
 (((a1[u0]?).bind fun x17 =>
  A0 (fun s_:Nat×LL=>C9 x17 u0 a2 a3 y6 x4 a0 s_.1 s_.2) 4611686018427387904 (0,u1)).bind fun u2 =>
 og (u0+1<4611686018427387904) <|
 some (Ctl.next (u0+1,u2)))
 (some (Ctl.out u1))
def D9 (a0:Int) (a1:LL) (a2 a3:Int):Option (LL) :=
 (F4 a1 a2).bind fun x4 =>
(F4 x4 a3).bind fun x5 =>
(Fk a0 x5).bind fun y6 =>
(Ga a1).bind fun y8 =>
(A0 (fun s_:Nat×LL=>C8 a1 a2 a3 y6 x4 a0 s_.1 s_.2) 4611686018427387904 (0,y8)).bind fun u0 =>
some u0
theorem Qi {a0:Int} {a1:LL} {a2 a3:Int} {r:LL} (h:D9 a0 a1 a2 a3=some r):G7 Tryd.prog Tab 48 [ai a0,tS a1,ai a2,ai a3] [] (oS 0 1 r.length) [(oi 0 1,.mat 35 (oi 1 1) .int r),(oi 1 1,.pool 3 .int r)]:=by
 refine Eb (by kernel_rfl) Tryd.func48 Q2 (n:=98) (by kernel_rfl) (by simp) rfl (by kernel_rfl) trivial ⟨⟨3,.tail _ (.head _)⟩,⟨trivial,trivial⟩⟩ ?_;unfold Kv;unfold D9 at h;refine An (Ab ?_);obtain ⟨x4,f4,h⟩:=Ae h;obtain ⟨p4,b4,e4⟩:=Bv f4;obtain ⟨x5,f5,h⟩:=Ae h;obtain ⟨p5,b5,e5⟩:=Bv f5;obtain ⟨y6,h6,h⟩:=Ae h;refine Aa 12 (rsB 3 (rs0 (.telt none sI x4 0) (zi (t:=sI) (xs:=a1) (k:=.i64) (m:=a2) p4 e4) (rsB 2 (rs0 (.telt none .int x5 0) (zi (t:=.int) (xs:=x4) (k:=.i64) (m:=a3) p5 e5) (rsB 1 (zc (ai y6) [] [ai a0,ai x5] (S4 h6) (rsB 1 (Ar (tn_ (wr_ (Ab ?_)))))))))));obtain ⟨y8,h8,h⟩:=Ae h;refine Aa 15 (rsB 1 (Hf (oS 400 13 y8.length) [(oi 400 13,some (.mat 35 (oi 401 13) .int y8)),(oi 401 13,some (.pool 3 .int y8))] [] [tS a1] (caps:=[]) trivial (Ui h8) Ul trivial (.cons (.ren (by kernel_rfl)) .nil) (Bl (by kernel_rfl) (by kernel_rfl) trivial) (rsB 1 (Ar (tn_ (wr_ (Aw h (fun (u3:LL) S_=>S_=⟨Am [(10,oS 0 1 u3.length)],Ah (Aq [(oi 0 1,.mat 35 (oi 1 1) .int u3),(oi 1 1,.pool 3 .int u3)]),2⟩) ?_ ?_)))))))
 ·intro v_ h;refine An (Aj (A1 h (fun t_ S_=>∃ (u0:Nat),∃ (u4:LL),t_=(u0,u4)∧S_=⟨Am [(0,ai a0),(1,tS a1),(2,ai a2),(3,ai a3),(9,ai y6),(10,oS 0 1 u4.length),(26,tS a1),(27,an a1.length),(28,an u0)],Ah (Aq [(oi 0 1,.mat 35 (oi 1 1) .int u4),(oi 1 1,.pool 3 .int u4)]),2⟩) ⟨_,Ac [(oi 0 1,oi 400 13),(oi 1 1,oi 401 13)],⟨0,y8,rfl,rfl⟩⟩ ?_));rintro n_ _ _ c_ ⟨u0,u4,rfl,rfl⟩ h hn11
  (try dsimp only at h);unfold C8 at h;unfold H6;refine An (Ab ?_);rcases Ad h with ⟨q14,h⟩ | ⟨q14,h⟩
  ·have q14_:=of_decide_eq_true q14;refine Ag q14 (Ak (tn_ (wr_ (Aw h (fun (u5:LL) S_=>S_=⟨Am [(0,ai a0),(1,tS a1),(2,ai a2),(3,ai a3),(9,ai y6),(10,oS 0 1 u5.length),(26,tS a1),(27,an a1.length),(28,an u0)],Ah (Aq [(oi 0 1,.mat 35 (oi 1 1) .int u5),(oi 1 1,.pool 3 .int u5)]),2⟩) ?_ ?_))))
   ·intro v_ h;refine Aj (Ab ?_);obtain ⟨x17,e17,h⟩:=Ae h;refine Aa 8 (rsB 1 (zI sI e17 (rsB 3 (Ar (tn_ (wr_ (An (Aj (A1 h (fun t_ S_=>∃ (u1:Nat),∃ (u2:LL),t_=(u1,u2)∧S_=⟨Am [(0,ai a0),(1,tS a1),(2,ai a2),(3,ai a3),(9,ai y6),(10,oS 0 1 u2.length),(11,an u0),(26,tS a1),(27,an a1.length),(28,an u0),(33,tI x17),(34,an x17.length),(35,an u1)],Ah (Aq [(oi 0 1,.mat 35 (oi 1 1) .int u2),(oi 1 1,.pool 3 .int u2)]),2⟩) ⟨_,Ac [],⟨0,u4,rfl,rfl⟩⟩ ?_)))))))));rintro n_ _ _ c_ ⟨u1,u2,rfl,rfl⟩ h hn19
    (try dsimp only at h);unfold C9 at h;unfold H9;refine An (Ab ?_);rcases Ad h with ⟨q22,h⟩ | ⟨q22,h⟩
    ·have q22_:=of_decide_eq_true q22;refine Ag q22 (Ak (tn_ (wr_ (Ab (Aj (Ab ?_))))));obtain ⟨x25,e25,h⟩:=Ae h;refine Aa 8 (rsB 1 (zI .int e25 (rsB 3 (Ar (tn_ (wr_ (Aw h (fun (u6:Int) S_=>S_=⟨Am [(0,ai a0),(1,tS a1),(2,ai a2),(3,ai a3),(9,ai y6),(10,oS 0 1 u2.length),(11,an u0),(13,an u1),(14,ai u6),(26,tS a1),(27,an a1.length),(28,an u0),(33,tI x17),(34,an x17.length),(35,an u1)],Ah (Aq [(oi 0 1,.mat 35 (oi 1 1) .int u2),(oi 1 1,.pool 3 .int u2)]),2⟩) ?_ ?_)))))))
     ·intro v_ h;refine Aj (Aw h (fun (u7:Bool) S_=>S_=⟨Am [(0,ai a0),(1,tS a1),(2,ai a2),(3,ai a3),(9,ai y6),(10,oS 0 1 u2.length),(11,an u0),(13,an u1),(14,ai x25),(26,tS a1),(27,an a1.length),(28,an u0),(33,tI x17),(34,an x17.length),(35,an u1),(61,.bool u7)],Ah (Aq [(oi 0 1,.mat 35 (oi 1 1) .int u2),(oi 1 1,.pool 3 .int u2)]),2⟩) ?_ ?_)
      ·intro v_ h;rcases Ad h with ⟨q28,h⟩ | ⟨q28,h⟩
       ·refine Aa 17 (rsB 4 (rs0 (an u1) (zg q28) (rs0 (ai a3) (zg q28) (rs0 (.bool ((u1:Int)==a3)) (zg q28) (rs0 (.bool ((u1:Int)==a3)) (zT q28) (rsB 1 (Ar (tn_ ?_))))))));obtain rfl:=zj h;exact ⟨_,Ac [],rfl⟩
       refine Aa 17 (rsB 4 (zs q28 (zs q28 (zs q28 (rs0 (.bool false) (zF q28) (rsB 1 (Ar (tn_ ?_))))))));obtain rfl:=zj h;exact ⟨_,Ac [],rfl⟩
      rintro u7 _ rfl h
      (try dsimp only at h);rcases Ad h with ⟨q29,h⟩ | ⟨q29,h⟩
      ·refine Ag q29 (Aa 4 (rsB 2 (Ar (bn_ (tn_ ?_)))));obtain rfl:=zj h;exact ⟨_,Ac [],rfl⟩
      refine Af q29 (An ?_);rcases Ad h with ⟨q31,h⟩ | ⟨q31,h⟩
      ·refine Ag q31 (Aa 10 (rsB 4 (Ar (bn_ (tn_ ?_)))));obtain rfl:=zj h;exact ⟨_,Ac [],rfl⟩
      refine Af q31 (An ?_);rcases Ad h with ⟨q33,h⟩ | ⟨q33,h⟩
      ·refine Ag q33 (Aa 15 (rsB 5 (Ar (bn_ (tn_ ?_)))));obtain rfl:=zj h;exact ⟨_,Ac [],rfl⟩
      refine Af q33 ?_;obtain ⟨x34,e34,h⟩:=Ae h;obtain ⟨x35,f35,h⟩:=Ae h;obtain ⟨p35,b35,e35⟩:=Bv f35;obtain ⟨y36,h36,h⟩:=Ae h;refine Bi 32 (dz0 (ai x25) (dz0 (ai a0) (dz0 (tS a1) (dz0 (ai a2) (ds0 (.telt none sI x4 0) (zi (t:=sI) (xs:=a1) (k:=.i64) (m:=a2) p4 e4) (dz0 (tI x4) (dz0 (an u1) (dzI .int e34 (dz0 (ai x34) (dz0 (tS a1) (dz0 (an u0) (dzI sI e17 (dz0 (tI x17) (dz0 (ai a3) (ds0 (.telt none .int x35 0) (zi (t:=.int) (xs:=x17) (k:=.i64) (m:=a3) p35 e35) (dz0 (ai x35) (dz0 (ai (wI (x34*x35))) (dzc (ai y36) [] [ai a0,ai (wI (x34*x35))] (Rt h36) (dz0 (ai y6) (dz0 (ai (wI (y36*y6))) (dz0 (ai (wI (x25 - (wI (y36*y6))))) (dz0 (ai (wI (x25 - (wI (y36*y6))))) (Nm (Cn (by kernel_rfl)) (bn_ (tn_ ?_)))))))))))))))))))))))));obtain rfl:=zj h;exact ⟨_,Ac [],rfl⟩
     rintro u6 _ rfl h
     (try dsimp only at h);obtain ⟨x37,e37,h⟩:=Ae h;obtain ⟨y38,h38,h⟩:=Ae h;obtain ⟨x39,e39,h⟩:=Ae h;refine Bi 12 (dz0 (oS 0 1 u2.length) (dz0 (an u0) (dzO (oi 0 1) sI u2.length (Ax e37) (dsl (.own (kid (oi 1 1) u0) .int 0 x37.length) (Hk (o:=oi 0 1) (p:=oi 1 1) (e1:=35) (u:=.int) (xss:=u2) (row:=x37) (j:=u0) (by kernel_rfl) (by kernel_rfl) e37) (dz0 (an u1) (dz0 (ai a0) (dz0 (ai u6) (dzc (ai y38) [] [ai a0,ai u6] (Rt h38) (ds0 (.elt (kid (oi 1 1) u0) u1 0) (zo (t:=.int) (o:=kid (oi 1 1) u0) (len:=x37.length) (k:=.i64) (m:=(u1:Int)) (E5 _) (Ax e39)) (Aa9 (kid (oi 1 1) u0) (kid (oi 1 1) u0) (.arr 3 .int (x37.set u1 y38)) (Aa4 (i:=kid (oi 1 1) u0) (j:=u1) (k:=0) (e:=3) (t:=.int) (xs:=x37) (cs:=[ai y38]) (x1:=y38) (by kernel_rfl) (X2.trans (B4 (by kernel_rfl) e37)) e39 (by kernel_rfl) (by kernel_rfl)) (Aio (Zg (o:=oi 0 1) (p:=oi 1 1) (e1:=35) (e:=3) (u:=.int) (xss:=u2) (k:=u0) (row:=x37) (row':=x37.set u1 y38) (by kernel_rfl) rfl (by kernel_rfl) e37 List.length_set) (Nm (Cn (by kernel_rfl)) (bn_ (tn_ (wr_ ?_)))))))))))))));obtain ⟨g40,h⟩:=As h;refine Aa 14 (zA g40 (rsB 1 (Ar (tn_ ?_))));obtain rfl:=zj h;exact ⟨(u1+1,u2.set u0 (x37.set u1 y38)),_,(Br 10 (oS 0 1 u2.length) (oS 0 1 ((u2.set u0 (x37.set u1 y38)).length)) (by kernel_rfl) (congrArg (fun z_=>((oS 0 1 z_):AV)) ((Eq.trans (b:=u2.length) rfl List.length_set.symm):u2.length=(u2.set u0 (x37.set u1 y38)).length))).trans (Ac []),⟨u1+1,u2.set u0 (x37.set u1 y38),rfl,rfl⟩,hn19⟩
    have q22_:=of_decide_eq_false q22;refine Af q22 (Az (te_ (te_ (be_ (bn_ (tn_ ?_))))));obtain rfl:=zj h;have h:=hn19
    (try dsimp only at h);obtain rfl:=zj h;exact ⟨_,Ac [],rfl⟩
   rintro u5 _ rfl h
   (try dsimp only at h);obtain ⟨g41,h⟩:=As h;refine Aa 4 (zA g41 (rsB 1 (Ar (tn_ ?_))));obtain rfl:=zj h;exact ⟨(u0+1,u5),_,Ac [],⟨u0+1,u5,rfl,rfl⟩,hn11⟩
  have q14_:=of_decide_eq_false q14;refine Af q14 (Az (te_ (te_ (be_ (tn_ ?_)))));obtain rfl:=zj h;have h:=hn11
  (try dsimp only at h);obtain rfl:=zj h;exact ⟨_,Ac [],rfl⟩
 rintro u3 _ rfl h
 (try dsimp only at h);refine An (Al ?_);obtain rfl:=zj h;exact H7 [oS 0 1 u3.length] (Ac (tl:=[(8,oS 0 1 u3.length)]) (g:=2) [])
def I1:AC :=
 (.seq (rg [xs1 12 11 10])
 (.seq (.cond (tm 12)
  .skip
  (.exit 0))
 (.seq (.block 1 (.seq (rg [xx 13 1 9 11,xl 14 13,xm 7 14])
 (rg [xm 15 5,xm 16 1,xm 17 7,xo 18 (qc 75 [tm 16,tm 17] [[some .int],[]]),xo 19 (.mkS 3 .int [tm 18]),xo 20 (.append 3 .int 8 (tm 15) (tm 19)),xm 5 20])))
 (rg [xa 21 11,xm 11 21]))))
def Lz:AC :=
 (.seq (rg [xo 4 (qm (.cst .nils))])
 (.seq (rg [xo 8 (.mkS 3 .int []),xm 5 8])
 (.seq (.seq (rg [xm 9 0,xn1 10 9,xo 11 (qm (ci 0))])
 (.block 0 (.loop I1)))
 (.seq (rg [xm 22 5,xm 4 22])
 .ret))))
def So:List Res:=[.tmp 4]
theorem Sp:At Tryd.prog Tryd.f50=some (Lz,So):=by kernel_rfl
theorem K9:A9 Tryd.prog 50=true:=by kernel_rfl
def Cq (a0 a1:List Int) (u0:Nat) (u1:List Int):Option (Ctl (Nat×List Int) (List Int)) :=
 cond (decide ((u0:Int)<(a0.length:Int)))
 ((a0[u0]?).bind fun x11 =>
 (Bm a1 x11).bind fun y12 =>
 og (u1.length+1<=1073741824∧(u1.length+1)*8<=140737488355328) <|
 og (u0+1<4611686018427387904) <|
 some (Ctl.next (u0+1,u1++([y12]))))
 (some (Ctl.out u1))
def Ds (a0 a1:List Int):Option (List Int) :=
 (A0 (fun s_:Nat×List Int=>Cq a0 a1 s_.1 s_.2) 4611686018427387904 (0,[])).bind fun u0 =>
some u0
def Rh (r:List Int):RV:=⟨false,[(false,[.new 3 .int r])]⟩
theorem K4 {a0 a1 r:List Int} (h:Ds a0 a1=some r):A7 Tryd.prog Tab 50 [tI a0,tI a1] (Rh r):=by
 refine A3 (by kernel_rfl) Tryd.func50 Sp (n:=23) (by kernel_rfl) (by simp) rfl ?_;unfold Lz;unfold Ds at h;refine An (An (Aw h (fun (u2:List Int) S_=>S_=⟨Am [(5,oI 0 1 u2.length)],Ah (Aq [(oi 0 1,.arr 3 .int u2)]),2⟩) ?_ ?_))
 ·intro v_ h;refine An (Aj (A1 h (fun t_ S_=>∃ (u1:Nat),∃ (u0:List Int),t_=(u1,u0)∧S_=⟨Am [(1,tI a1),(5,oI 0 1 u0.length),(9,tI a0),(10,an a0.length),(11,an u1)],Ah (Aq [(oi 0 1,.arr 3 .int u0)]),2⟩) ⟨_,Ac [(oi 0 1,oi 8 2)],⟨0,[],rfl,rfl⟩⟩ ?_));rintro n_ _ _ c_ ⟨u1,u0,rfl,rfl⟩ h hn5
  (try dsimp only at h);unfold Cq at h;unfold I1;refine An (Ab ?_);rcases Ad h with ⟨q8,h⟩ | ⟨q8,h⟩
  ·have q8_:=of_decide_eq_true q8;refine Ag q8 (Ak (tn_ (wr_ (Ab (Aj (Ab ?_))))));obtain ⟨x11,e11,h⟩:=Ae h;refine Aa 6 (zI .int e11 (rsB 2 (Ar (tn_ (wr_ ?_)))));obtain ⟨y12,h12,h⟩:=Ae h;obtain ⟨g13,h⟩:=As h;refine Aa 13 (rsB 3 (zc (ai y12) [] [tI a1,ai x11] (Gs h12) (rsB 1 (zB (oi 0 1) (oi 19 10) u0 (y12) g13 (rsB 1 (Ar (bn_ (tn_ (wr_ ?_)))))))));obtain ⟨g14,h⟩:=As h;refine Aa 15 (zA g14 (rsB 1 (Ar (tn_ ?_))));obtain rfl:=zj h;exact ⟨(u1+1,u0++([y12])),_,Ac [(oi 0 1,oi 0 11)],⟨u1+1,u0++([y12]),rfl,rfl⟩,hn5⟩
  have q8_:=of_decide_eq_false q8;refine Af q8 (Az (te_ (te_ (be_ (tn_ ?_)))));obtain rfl:=zj h;have h:=hn5
  (try dsimp only at h);obtain rfl:=zj h;exact ⟨_,Ac [],rfl⟩
 rintro u2 _ rfl h
 (try dsimp only at h);refine An (Al ?_);obtain rfl:=zj h;exact Bh [oI 0 1 u2.length] (A5 rfl (Md (by kernel_rfl) rfl) A4)
def Gq:AC :=
 (.seq (rg [xs1 98 97 96])
 (.seq (.cond (tm 98)
  .skip
  (.exit 2))
 (.seq (.block 3 (.seq (rg [xm 99 97,xx 100 1 95 97,xl 101 100,xm 19 99,xm 20 101])
 (rg [xm 102 18,xm 103 14,xm 104 19,xx 105 1 103 104,xl 106 105,xm 107 20,xx 108 1 102 106,xn (qs (tm 108) (tm 107))])))
 (rg [xa 109 97,xm 97 109]))))
def Gu:AC :=
 (.seq (rg [xs1 82 81 80])
 (.seq (.cond (tm 82)
  .skip
  (.exit 0))
 (.seq (.block 1 (.seq (rg [xm 83 81,xx 84 1 79 81,xl 85 84,xm 16 83,xm 17 85])
 (.seq (rg [xm 86 13,xo 87 (.make 3 .int 8 (tm 86) (tm 86)),xm 18 87])
 (.seq (rg [xm 88 18,xm 89 17,xx 90 1 88 89,xn (qs (tm 90) (ci 1))])
 (.seq (.seq (rg [xf 91 1 7,xl 92 91,xm 93 16,xx 94 1 92 93,xl 95 94,xn1 96 95,xo 97 (qm (ci 0))])
 (.block 2 (.loop Gq)))
 (rg [xm 110 15,xm 111 18,xo 112 (.mkV 35 sI 1 [tm 111]),xo 113 (.appV 35 sI 24 (tm 110) (tm 112)),xm 15 113]))))))
 (rg [xa 114 81,xm 81 114]))))
def Hn:AC :=
 (.seq (rg [xo 7 (.i (.box 39 (tm 2))),xo 10 (qm (.cst .nils)),xo 11 (.i (.alloc 39 [.int .i64 0,.nils])),xo 12 (qm (cb false))])
 (.seq (rg [xf 24 1 7,xl 25 24,xn1 26 25,xf 27 0 7,xl 28 27,xo 29 (qb .add (tm 26) (tm 28)),xm 13 29])
 (.seq (.seq (rg [xm 30 0,xo 31 (.i (.ld false 2 (tm 7))),xo 32 (qc 35 [tm 30,tm 31] [[],[none,some sI]]),xo 33 (.i (.not (tm 32))),xm 34 33,⟨some 35,some (34,false),qm (tm 1)⟩,⟨some 36,some (34,false),.i (.len (tm 35))⟩,⟨some 37,some (34,false),qf 1 (tm 7)⟩,⟨some 38,some (34,false),ql (tm 37)⟩,⟨some 39,some (34,false),.i (.len (tm 38))⟩,⟨some 40,some (34,false),qb .neq (tm 36) (tm 39)⟩,xo 41 (.i (.pick (tm 34) (cb true) (tm 40))),xm 42 41,⟨some 43,some (42,false),qm (tm 1)⟩,⟨some 44,some (42,false),qm (tm 13)⟩,⟨some 45,some (42,false),qc 36 [tm 43,tm 44] [[some .int],[]]⟩,⟨some 46,some (42,false),.i (.not (tm 45))⟩,xo 47 (.i (.pick (tm 42) (cb true) (tm 46))),xm 48 47,⟨some 49,some (48,false),qm (tm 3)⟩,⟨some 50,some (48,false),qm (tm 1)⟩,⟨some 51,some (48,false),.i (.len (tm 50))⟩,⟨some 52,some (48,false),qb .sub (tm 51) (ci 1)⟩,⟨some 53,some (48,false),qc 37 [tm 49,ci 0,tm 52] [[],[],[]]⟩,⟨some 54,some (48,false),.i (.not (tm 53))⟩,xo 55 (.i (.pick (tm 48) (cb true) (tm 54))),xm 56 55,⟨some 57,some (56,false),qm (tm 4)⟩,⟨some 58,some (56,false),qf 0 (tm 7)⟩,⟨some 59,some (56,false),ql (tm 58)⟩,⟨some 60,some (56,false),qb .sub (tm 59) (ci 1)⟩,⟨some 61,some (56,false),qc 37 [tm 57,ci 0,tm 60] [[],[],[]]⟩,⟨some 62,some (56,false),.i (.not (tm 61))⟩,xo 63 (.i (.pick (tm 56) (cb true) (tm 62))),xm 64 63,⟨some 65,some (64,false),qf 1 (tm 7)⟩,⟨some 66,some (64,false),ql (tm 65)⟩,⟨some 67,some (64,false),qm (tm 3)⟩,⟨some 68,some (64,false),qx 1 (tm 66) (tm 67)⟩,⟨some 69,some (64,false),ql (tm 68)⟩,⟨some 70,some (64,false),qm (tm 4)⟩,⟨some 71,some (64,false),qx 1 (tm 69) (tm 70)⟩,⟨some 72,some (64,false),ql (tm 71)⟩,⟨some 73,some (64,false),qb .eql (tm 72) (ci 0)⟩,xo 74 (.i (.pick (tm 64) (cb true) (tm 73)))])
 (.cond (tm 74)
  (.seq (rg [xo 75 (.build [.int .i64 0,.nils] []),xo 10 (qm (.cst .nils)),xn (.st false 2 (tm 11) (tm 75)),xo 12 (qm (cb false))])
  .ret)
  .skip))
 (.seq (rg [xm 76 1,xm 77 13,xo 78 (qc 38 [tm 76,tm 77] [[some .int],[]]),xm 14 78])
 (.seq (rg [xo 15 (qm (.cst .nils))])
 (.seq (.seq (rg [xm 79 1,xn1 80 79,xo 81 (qm (ci 0))])
 (.block 0 (.loop Gu)))
 (.seq (.region [xm 115 1,xm 116 1,xm 117 3,xx 118 1 116 117,xl 119 118,xo 120 (.mkS 3 .int [tm 119]),xo 121 (qc 40 [tm 115,tm 120] [[some .int],[some .int]]),xm 122 14,xm 123 4,xx 124 1 122 123,xl 125 124,xo 126 (qc 39 [tm 121,tm 125] [[some .int],[]]),xm 21 126] true [(6,10)])
 (.seq (rg [xm 128 0,xm 129 13,xm 130 15,xm 131 21,xo 132 (qc 41 [tm 128,tm 129,tm 130,tm 131] [[],[],[some sI],[some .int]]),xm 127 132,xo 133 (.i (.extr 0 (tm 127))),xo 134 (.i (.extr 1 (tm 127))),xo 22 (.i (.alloc 39 [.int .i64 0,.nils])),xn (.st false 2 (tm 22) (tm 133)),xm 23 134])
 (.seq (.region [xm 135 21,xo 136 (.i (.ld false 2 (tm 22))),xm 137 23,xm 10 135,xn (.st false 2 (tm 11) (tm 136)),xm 12 137] true [])
 .ret)))))))))
def Mj:List Res:=[.tmp 10,.cell 11 false 2,.tmp 12]
theorem M8:At Tryd.prog Tryd.f15=some (Hn,Mj):=by kernel_rfl
theorem L8:A9 Tryd.prog 15=true:=by kernel_rfl
def Cc (x37 y20:List Int) (u0:Nat) (u1:List Int):Option (Ctl (Nat×List Int) (List Int)) :=
 cond (decide ((u0:Int)<(x37.length:Int)))
 ((x37[u0]?).bind fun x44 =>
 (y20[u0]?).bind fun x45 =>
 (F4 u1 x45).bind fun x46 =>
 og (u0+1<4611686018427387904) <|
 some (Ctl.next (u0+1,u1.set x45.toNat x44)))
 (some (Ctl.out u1))
def Cb (a1:List Int) (u0:LL) (u1:Int) (y20:List Int) (u2:Nat) (u3:LL):Option (Ctl (Nat×LL) (LL)) :=
 cond (decide ((u2:Int)<(a1.length:Int)))
 (((a1[u2]?).bind fun x30 =>
  og (0<=wI ((u0.length:Int)+u1)∧wI ((u0.length:Int)+u1)<=wI ((u0.length:Int)+u1)∧wI ((u0.length:Int)+u1)<=1073741824∧(8:Int)*(wI ((u0.length:Int)+u1))<=140737488355328) <|
  (F4 (List.replicate ((wI ((u0.length:Int)+u1)).toNat) (0:Int)) x30).bind fun x34 =>
  ((u0[u2]?).bind fun x37 =>
   A0 (fun s_:Nat×List Int=>Cc x37 y20 s_.1 s_.2) 4611686018427387904 (0,(List.replicate ((wI ((u0.length:Int)+u1)).toNat) (0:Int)).set x30.toNat 1)).bind fun u4 =>
  og (u3.length+1<=1073741824∧(u3.length+1)*24<=140737488355328) <|
  some (u3++[u4])).bind fun u5 =>
 og (u2+1<4611686018427387904) <|
 some (Ctl.next (u2+1,u5)))
 (some (Ctl.out u3))
def Cz (a0:Int) (a1:List Int) (u1:Int) (u0:LL) (a3 a4:Int):Option (Bool×List Int×Nat×LL) :=
 ((F7 a0 u1 u0).bind fun y6 =>
 cond (!y6)
  (some true)
  (cond ((a1.length:Int) !=(u0.length:Int))
   (some true)
   ((Fh a1 (wI ((u0.length:Int)+u1))).bind fun y9 =>
   cond (!y9)
    (some true)
    ((Df a3 0 (wI ((a1.length:Int) - 1))).bind fun y11 =>
    cond (!y11)
     (some true)
     ((Df a4 0 (wI (u1 - 1))).bind fun y13 =>
     cond (!y13)
      (some true)
      ((F4 u0 a3).bind fun x15 =>
      (F4 x15 a4).bind fun x16 =>
      some (x16==0))))))).bind fun u3 =>
cond u3
 (some (false,[],0,([]:LL)))
 ((E3 a1 (wI ((u0.length:Int)+u1))).bind fun y20 =>
 (A0 (fun s_:Nat×LL=>Cb a1 u0 u1 y20 s_.1 s_.2) 4611686018427387904 (0,([]:LL))).bind fun u4 =>
 ((F4 a1 a3).bind fun x51 =>
  (F2 a1 ([x51])).bind fun y52 =>
  (F4 y20 a4).bind fun x53 =>
  (G0 y52 x53).bind fun y54 =>
  (Sum.elim (fun z54_0 =>
  some y52) (fun z54_1 =>
  some z54_1)) y54).bind fun u2 =>
 (C4 a0 (wI ((u0.length:Int)+u1)) u4 u2).bind fun y56 =>
 some (y56.1,u2,y56.2.1,y56.2.2))
theorem L7 {a0:Int} {a1:List Int} {u1:Int} {u0:LL} {a3 a4:Int} {r:Bool×List Int×Nat×LL} (h:Cz a0 a1 u1 u0 a3 a4=some r):G7 Tryd.prog Tab 15 [ai a0,tI a1,.agg [ai u1,tS u0],ai a3,ai a4] [] (.tup [oI 0 1 r.2.1.length,.agg [an r.2.2.1,oS 2 1 r.2.2.2.length],.bool r.1]) [(oi 0 1,.arr 3 .int r.2.1),(oi 1 1,.cells 39 [an r.2.2.1,oS 2 1 r.2.2.2.length]),(oi 2 1,.mat 35 (oi 3 1) .int r.2.2.2),(oi 3 1,.pool 3 .int r.2.2.2)]:=by
 refine Eb (by kernel_rfl) Tryd.func15 M8 (n:=138) (by kernel_rfl) (by simp) rfl (by kernel_rfl) trivial ⟨trivial,⟨trivial,⟨⟨3,.tail _ (.tail _ (.tail _ (.head _)))⟩,⟨trivial,trivial⟩⟩⟩⟩ ?_;unfold Hn;unfold Cz at h;refine An (An (Ab (Aw h (fun (ua:Bool) S_=>S_=⟨Am [(0,ai a0),(1,tI a1),(3,ai a3),(4,ai a4),(7,.box (oi 0 1) 0),(11,.box (oi 1 1) 0),(13,ai (wI ((u0.length:Int)+u1))),(74,.bool ua)],Ah (Aq [(oi 0 1,.cells 39 [ai u1,tS u0]),(oi 1 1,.cells 39 [ai 0,.nils])]),2⟩) ?_ ?_)))
 ·intro v_ h;obtain ⟨y6,h6,h⟩:=Ae h;rcases Ad h with ⟨q7,h⟩ | ⟨q7,h⟩
  ·refine Aa 57 (rsB 2 (zc (.bool y6) [] [ai a0,.agg [ai u1,tS u0]] (Ea h6) (rsB 2 (zs q7 (zs q7 (zs q7 (zs q7 (zs q7 (zs q7 (rs0 (.bool true) (zT q7) (rsB 33 (Ar (tn_ ?_)))))))))))));obtain rfl:=zj h;exact ⟨_,Ac [(oi 0 1,oi 7 1),(oi 1 1,oi 11 3)],rfl⟩
  rcases Ad h with ⟨q8,h⟩ | ⟨q8,h⟩
  ·refine Aa 57 (rsB 2 (zc (.bool y6) [] [ai a0,.agg [ai u1,tS u0]] (Ea h6) (rsB 2 (rs0 (tI a1) (zg q7) (rs0 (an a1.length) (zg q7) (rs0 (.box (oi 7 1) 1) (zg q7) (rsl (tS u0) (zg q7) (rs0 (an u0.length) (zg q7) (rs0 (.bool ((a1.length:Int) !=(u0.length:Int))) (zg q7) (rs0 (.bool ((a1.length:Int) !=(u0.length:Int))) (zF q7) (rsB 1 (zs q8 (zs q8 (zs q8 (zs q8 (rs0 (.bool true) (zT q8) (rsB 27 (Ar (tn_ ?_)))))))))))))))))));obtain rfl:=zj h;exact ⟨_,Ac [(oi 0 1,oi 7 1),(oi 1 1,oi 11 3)],rfl⟩
  obtain ⟨y9,h9,h⟩:=Ae h;rcases Ad h with ⟨q10,h⟩ | ⟨q10,h⟩
  ·refine Aa 57 (rsB 2 (zc (.bool y6) [] [ai a0,.agg [ai u1,tS u0]] (Ea h6) (rsB 2 (rs0 (tI a1) (zg q7) (rs0 (an a1.length) (zg q7) (rs0 (.box (oi 7 1) 1) (zg q7) (rsl (tS u0) (zg q7) (rs0 (an u0.length) (zg q7) (rs0 (.bool ((a1.length:Int) !=(u0.length:Int))) (zg q7) (rs0 (.bool ((a1.length:Int) !=(u0.length:Int))) (zF q7) (rsB 1 (rs0 (tI a1) (zg q8) (rs0 (ai (wI ((u0.length:Int)+u1))) (zg q8) (Bq (.bool y9) [] [tI a1,ai (wI ((u0.length:Int)+u1))] _ (caps:=[]) (args0:=[tI a1,ai (wI ((u0.length:Int)+u1))]) (Cf (by kernel_rfl) q8) (by kernel_rfl) (Gj h9) Gh (rs0 (.bool (!y9)) (zg q8) (rs0 (.bool (!y9)) (zF q8) (rsB 1 (zs q10 (zs q10 (zs q10 (zs q10 (zs q10 (zs q10 (rs0 (.bool true) (zT q10) (rsB 19 (Ar (tn_ ?_)))))))))))))))))))))))))));obtain rfl:=zj h;exact ⟨_,Ac [(oi 0 1,oi 7 1),(oi 1 1,oi 11 3)],rfl⟩
  obtain ⟨y11,h11,h⟩:=Ae h;rcases Ad h with ⟨q12,h⟩ | ⟨q12,h⟩
  ·refine Aa 57 (rsB 2 (zc (.bool y6) [] [ai a0,.agg [ai u1,tS u0]] (Ea h6) (rsB 2 (rs0 (tI a1) (zg q7) (rs0 (an a1.length) (zg q7) (rs0 (.box (oi 7 1) 1) (zg q7) (rsl (tS u0) (zg q7) (rs0 (an u0.length) (zg q7) (rs0 (.bool ((a1.length:Int) !=(u0.length:Int))) (zg q7) (rs0 (.bool ((a1.length:Int) !=(u0.length:Int))) (zF q7) (rsB 1 (rs0 (tI a1) (zg q8) (rs0 (ai (wI ((u0.length:Int)+u1))) (zg q8) (Bq (.bool y9) [] [tI a1,ai (wI ((u0.length:Int)+u1))] _ (caps:=[]) (args0:=[tI a1,ai (wI ((u0.length:Int)+u1))]) (Cf (by kernel_rfl) q8) (by kernel_rfl) (Gj h9) Gh (rs0 (.bool (!y9)) (zg q8) (rs0 (.bool (!y9)) (zF q8) (rsB 1 (rs0 (ai a3) (zg q10) (rs0 (tI a1) (zg q10) (rs0 (an a1.length) (zg q10) (rs0 (ai (wI ((a1.length:Int) - 1))) (zg q10) (Bq (.bool y11) [] [ai a3,ai 0,ai (wI ((a1.length:Int) - 1))] _ (caps:=[]) (args0:=[ai a3,ai 0,ai (wI ((a1.length:Int) - 1))]) (Cf (by kernel_rfl) q10) (by kernel_rfl) (B5 h11) Es (rs0 (.bool (!y11)) (zg q10) (rs0 (.bool (!y11)) (zF q10) (rsB 1 (zs q12 (zs q12 (zs q12 (zs q12 (zs q12 (zs q12 (rs0 (.bool true) (zT q12) (rsB 11 (Ar (tn_ ?_)))))))))))))))))))))))))))))))))));obtain rfl:=zj h;exact ⟨_,Ac [(oi 0 1,oi 7 1),(oi 1 1,oi 11 3)],rfl⟩
  obtain ⟨y13,h13,h⟩:=Ae h;rcases Ad h with ⟨q14,h⟩ | ⟨q14,h⟩
  ·refine Aa 57 (rsB 2 (zc (.bool y6) [] [ai a0,.agg [ai u1,tS u0]] (Ea h6) (rsB 2 (rs0 (tI a1) (zg q7) (rs0 (an a1.length) (zg q7) (rs0 (.box (oi 7 1) 1) (zg q7) (rsl (tS u0) (zg q7) (rs0 (an u0.length) (zg q7) (rs0 (.bool ((a1.length:Int) !=(u0.length:Int))) (zg q7) (rs0 (.bool ((a1.length:Int) !=(u0.length:Int))) (zF q7) (rsB 1 (rs0 (tI a1) (zg q8) (rs0 (ai (wI ((u0.length:Int)+u1))) (zg q8) (Bq (.bool y9) [] [tI a1,ai (wI ((u0.length:Int)+u1))] _ (caps:=[]) (args0:=[tI a1,ai (wI ((u0.length:Int)+u1))]) (Cf (by kernel_rfl) q8) (by kernel_rfl) (Gj h9) Gh (rs0 (.bool (!y9)) (zg q8) (rs0 (.bool (!y9)) (zF q8) (rsB 1 (rs0 (ai a3) (zg q10) (rs0 (tI a1) (zg q10) (rs0 (an a1.length) (zg q10) (rs0 (ai (wI ((a1.length:Int) - 1))) (zg q10) (Bq (.bool y11) [] [ai a3,ai 0,ai (wI ((a1.length:Int) - 1))] _ (caps:=[]) (args0:=[ai a3,ai 0,ai (wI ((a1.length:Int) - 1))]) (Cf (by kernel_rfl) q10) (by kernel_rfl) (B5 h11) Es (rs0 (.bool (!y11)) (zg q10) (rs0 (.bool (!y11)) (zF q10) (rsB 1 (rs0 (ai a4) (zg q12) (rs0 (.box (oi 7 1) 0) (zg q12) (rsl (ai u1) (zg q12) (rs0 (ai (wI (u1 - 1))) (zg q12) (Bq (.bool y13) [] [ai a4,ai 0,ai (wI (u1 - 1))] _ (caps:=[]) (args0:=[ai a4,ai 0,ai (wI (u1 - 1))]) (Cf (by kernel_rfl) q12) (by kernel_rfl) (B5 h13) Es (rs0 (.bool (!y13)) (zg q12) (rs0 (.bool (!y13)) (zF q12) (rsB 1 (zs q14 (zs q14 (zs q14 (zs q14 (zs q14 (zs q14 (zs q14 (zs q14 (zs q14 (rs0 (.bool true) (zT q14) (Ar (tn_ ?_)))))))))))))))))))))))))))))))))))))))))))));obtain rfl:=zj h;exact ⟨_,Ac [(oi 0 1,oi 7 1),(oi 1 1,oi 11 3)],rfl⟩
  obtain ⟨x15,f15,h⟩:=Ae h;obtain ⟨p15,b15,e15⟩:=Bv f15;obtain ⟨x16,f16,h⟩:=Ae h;obtain ⟨p16,b16,e16⟩:=Bv f16;refine Aa 57 (rsB 2 (zc (.bool y6) [] [ai a0,.agg [ai u1,tS u0]] (Ea h6) (rsB 2 (rs0 (tI a1) (zg q7) (rs0 (an a1.length) (zg q7) (rs0 (.box (oi 7 1) 1) (zg q7) (rsl (tS u0) (zg q7) (rs0 (an u0.length) (zg q7) (rs0 (.bool ((a1.length:Int) !=(u0.length:Int))) (zg q7) (rs0 (.bool ((a1.length:Int) !=(u0.length:Int))) (zF q7) (rsB 1 (rs0 (tI a1) (zg q8) (rs0 (ai (wI ((u0.length:Int)+u1))) (zg q8) (Bq (.bool y9) [] [tI a1,ai (wI ((u0.length:Int)+u1))] _ (caps:=[]) (args0:=[tI a1,ai (wI ((u0.length:Int)+u1))]) (Cf (by kernel_rfl) q8) (by kernel_rfl) (Gj h9) Gh (rs0 (.bool (!y9)) (zg q8) (rs0 (.bool (!y9)) (zF q8) (rsB 1 (rs0 (ai a3) (zg q10) (rs0 (tI a1) (zg q10) (rs0 (an a1.length) (zg q10) (rs0 (ai (wI ((a1.length:Int) - 1))) (zg q10) (Bq (.bool y11) [] [ai a3,ai 0,ai (wI ((a1.length:Int) - 1))] _ (caps:=[]) (args0:=[ai a3,ai 0,ai (wI ((a1.length:Int) - 1))]) (Cf (by kernel_rfl) q10) (by kernel_rfl) (B5 h11) Es (rs0 (.bool (!y11)) (zg q10) (rs0 (.bool (!y11)) (zF q10) (rsB 1 (rs0 (ai a4) (zg q12) (rs0 (.box (oi 7 1) 0) (zg q12) (rsl (ai u1) (zg q12) (rs0 (ai (wI (u1 - 1))) (zg q12) (Bq (.bool y13) [] [ai a4,ai 0,ai (wI (u1 - 1))] _ (caps:=[]) (args0:=[ai a4,ai 0,ai (wI (u1 - 1))]) (Cf (by kernel_rfl) q12) (by kernel_rfl) (B5 h13) Es (rs0 (.bool (!y13)) (zg q12) (rs0 (.bool (!y13)) (zF q12) (rsB 1 (rs0 (.box (oi 7 1) 1) (zg q14) (rsl (tS u0) (zg q14) (rs0 (ai a3) (zg q14) (rs0 (.telt none sI x15 0) (Js (by kernel_rfl) q14 (zi (t:=sI) (xs:=u0) (k:=.i64) (m:=a3) p15 e15)) (rs0 (tI x15) (zg q14) (rs0 (ai a4) (zg q14) (rs0 (.telt none .int x16 0) (Js (by kernel_rfl) q14 (zi (t:=.int) (xs:=x15) (k:=.i64) (m:=a4) p16 e16)) (rs0 (ai x16) (zg q14) (rs0 (.bool (x16==0)) (zg q14) (rs0 (.bool (x16==0)) (zF q14) (Ar (tn_ ?_)))))))))))))))))))))))))))))))))))))))))))));obtain rfl:=zj h;exact ⟨_,Ac [(oi 0 1,oi 7 1),(oi 1 1,oi 11 3)],rfl⟩
 rintro ua _ rfl h
 (try dsimp only at h);rcases Ad h with ⟨q17,h⟩ | ⟨q17,h⟩
 ·refine Ag q17 (An (Al (tr_ ?_)));obtain rfl:=zj h;exact H7 [oI 0 1 ((([]:List Int)).length),.agg [an (0),oS 2 1 ((([]:LL)).length)],.bool false] ((C6 9000 (oi 1 1) 1 39 [ai 0,.nils] [ai 0,oS 9000 6 0] 35 sI (by kernel_rfl) (by kernel_rfl) (by kernel_rfl)).trans ((D5 (e1:=35) (n:=0) 9000 (oi 9000 6) 3 .int (by kernel_rfl) (by kernel_rfl) rfl (by kernel_rfl) (by kernel_rfl)).trans ((Il 10 3 .int rfl (by kernel_rfl)).trans (Ac (tl:=[(10,oI 0 1 (([]:List Int)).length),(11,.box (oi 1 1) 0),(12,.bool false)]) (g:=2) [(oi 0 1,oi 10 8),(oi 2 1,oi 9000 6),(oi 3 1,oi 9000 7)]))))
 refine Af q17 (Ak (tn_ (wr_ (Ab ?_))));obtain ⟨y20,h20,h⟩:=Ae h;refine Aa 6 (rsB 2 (zc (oI 1248 4 y20.length) [nI 1248 4 y20] [tI a1,ai (wI ((u0.length:Int)+u1))] (M4 h20) (rsB 1 (Ar (tn_ (wr_ (An (Aw h (fun (u5:LL) S_=>S_=⟨Am [(0,ai a0),(1,tI a1),(3,ai a3),(4,ai a4),(11,.box (oi 0 1) 0),(13,ai (wI ((u0.length:Int)+u1))),(14,oI 1 1 y20.length),(15,oS 2 1 u5.length)],Ah (Aq [(oi 0 1,.cells 39 [ai 0,.nils]),(oi 1 1,.arr 3 .int y20),(oi 2 1,.mat 35 (oi 3 1) .int u5),(oi 3 1,.pool 3 .int u5)]),2⟩) ?_ ?_))))))))
 ·intro v_ h;refine An (Aj (A1 h (fun t_ S_=>∃ (u6:Nat),∃ (u2:LL),t_=(u6,u2)∧S_=⟨Am [(0,ai a0),(1,tI a1),(3,ai a3),(4,ai a4),(7,.box (oi 0 1) 0),(11,.box (oi 1 1) 0),(13,ai (wI ((u0.length:Int)+u1))),(14,oI 2 1 y20.length),(15,oS 3 1 u2.length),(79,tI a1),(80,an a1.length),(81,an u6)],Ah (Aq [(oi 0 1,.cells 39 [ai u1,tS u0]),(oi 1 1,.cells 39 [ai 0,.nils]),(oi 2 1,.arr 3 .int y20),(oi 3 1,.mat 35 (oi 4 1) .int u2),(oi 4 1,.pool 3 .int u2)]),2⟩) ⟨_,(Ol 15 35 sI (by kernel_rfl)).trans ((D5 (e1:=35) (n:=0) 9000 (oi 15 10) 3 .int (by kernel_rfl) (by kernel_rfl) rfl (by kernel_rfl) (by kernel_rfl)).trans (Ac [(oi 2 1,oi 1248 4),(oi 3 1,oi 15 10),(oi 4 1,oi 9000 11)])),⟨0,([]:LL),rfl,rfl⟩⟩ ?_));rintro n_ _ _ c_ ⟨u6,u2,rfl,rfl⟩ h hn24
  (try dsimp only at h);unfold Cb at h;unfold Gu;refine An (Ab ?_);rcases Ad h with ⟨q27,h⟩ | ⟨q27,h⟩
  ·have q27_:=of_decide_eq_true q27;refine Ag q27 (Ak (tn_ (wr_ (Aw h (fun (u7:LL) S_=>S_=⟨Am [(0,ai a0),(1,tI a1),(3,ai a3),(4,ai a4),(7,.box (oi 0 1) 0),(11,.box (oi 1 1) 0),(13,ai (wI ((u0.length:Int)+u1))),(14,oI 2 1 y20.length),(15,oS 3 1 u7.length),(79,tI a1),(80,an a1.length),(81,an u6)],Ah (Aq [(oi 0 1,.cells 39 [ai u1,tS u0]),(oi 1 1,.cells 39 [ai 0,.nils]),(oi 2 1,.arr 3 .int y20),(oi 3 1,.mat 35 (oi 4 1) .int u7),(oi 4 1,.pool 3 .int u7)]),2⟩) ?_ ?_))))
   ·intro v_ h;refine Aj (Ab ?_);obtain ⟨x30,e30,h⟩:=Ae h;refine Aa 8 (rsB 1 (zI .int e30 (rsB 3 (Ar (tn_ (wr_ (Ab ?_)))))));obtain ⟨g32,h⟩:=As h;refine Aa 11 (rsB 1 (rs1 (oI 87 9 ((wI ((u0.length:Int)+u1)).toNat)) (oi 87 9) (.arr 3 .int (List.replicate ((wI ((u0.length:Int)+u1)).toNat) (0:Int))) (Zw (t:=.int) (k:=.i64) (k':=.i64) (m:=wI ((u0.length:Int)+u1)) (m':=wI ((u0.length:Int)+u1)) (by kernel_rfl) (by kernel_rfl) g32 rfl) (rsB 1 (Ar (tn_ (wr_ (Ab ?_)))))));obtain ⟨x34,f34,h⟩:=Ae h;obtain ⟨p34,b34,e34⟩:=Bv f34;refine Aa 15 (rsB 2 (rs0 (.elt (oi 87 9) x30.toNat 0) (zo (t:=.int) (o:=oi 87 9) (len:=(wI ((u0.length:Int)+u1)).toNat) (k:=.i64) (m:=x30) p34 (Nat.lt_of_lt_of_le (Ax e34) (Nat.le_of_eq (Eq.symm List.length_replicate.symm)))) (zS (oi 87 9) (1) e34 (Ar (tn_ (wr_ (Aw h (fun (u4:List Int) S_=>S_=⟨Am [(0,ai a0),(1,tI a1),(3,ai a3),(4,ai a4),(7,.box (oi 0 1) 0),(11,.box (oi 1 1) 0),(13,ai (wI ((u0.length:Int)+u1))),(14,oI 2 1 y20.length),(15,oS 3 1 u2.length),(18,oI 5 1 u4.length),(79,tI a1),(80,an a1.length),(81,an u6)],Ah (Aq [(oi 0 1,.cells 39 [ai u1,tS u0]),(oi 1 1,.cells 39 [ai 0,.nils]),(oi 2 1,.arr 3 .int y20),(oi 3 1,.mat 35 (oi 4 1) .int u2),(oi 4 1,.pool 3 .int u2),(oi 5 1,.arr 3 .int u4)]),2⟩) ?_ ?_)))))))
    ·intro v_ h;refine Ab ?_;obtain ⟨x37,e37,h⟩:=Ae h;refine Aa 22 (rsB 3 (zI sI e37 (rsB 3 (Ar (tn_ (wr_ (Aj (A1 h (fun t_ S_=>∃ (u9:Nat),∃ (u3:List Int),t_=(u9,u3)∧S_=⟨Am [(0,ai a0),(1,tI a1),(3,ai a3),(4,ai a4),(7,.box (oi 0 1) 0),(11,.box (oi 1 1) 0),(13,ai (wI ((u0.length:Int)+u1))),(14,oI 2 1 y20.length),(15,oS 3 1 u2.length),(18,oI 5 1 u3.length),(79,tI a1),(80,an a1.length),(81,an u6),(95,tI x37),(96,an x37.length),(97,an u9)],Ah (Aq [(oi 0 1,.cells 39 [ai u1,tS u0]),(oi 1 1,.cells 39 [ai 0,.nils]),(oi 2 1,.arr 3 .int y20),(oi 3 1,.mat 35 (oi 4 1) .int u2),(oi 4 1,.pool 3 .int u2),(oi 5 1,.arr 3 .int u3)]),2⟩) ⟨_,(Br 18 (oI 87 9 ((wI ((u0.length:Int)+u1)).toNat)) (oI 87 9 (((List.replicate ((wI ((u0.length:Int)+u1)).toNat) (0:Int)).set x30.toNat 1).length)) (by kernel_rfl) (congrArg (fun z_=>((oI 87 9 z_):AV)) ((List.length_replicate.symm.trans List.length_set.symm):(wI ((u0.length:Int)+u1)).toNat=((List.replicate ((wI ((u0.length:Int)+u1)).toNat) (0:Int)).set x30.toNat 1).length))).trans (Ac [(oi 5 1,oi 87 9)]),⟨0,(List.replicate ((wI ((u0.length:Int)+u1)).toNat) (0:Int)).set x30.toNat 1,rfl,rfl⟩⟩ ?_))))))));rintro n_ _ _ c_ ⟨u9,u3,rfl,rfl⟩ h hn38
     (try dsimp only at h);unfold Cc at h;unfold Gq;refine An (Ab ?_);rcases Ad h with ⟨q41,h⟩ | ⟨q41,h⟩
     ·have q41_:=of_decide_eq_true q41;refine Ag q41 (Ak (tn_ (wr_ (Ab (Aj (Ab ?_))))));obtain ⟨x44,e44,h⟩:=Ae h;refine Aa 8 (rsB 1 (zI .int e44 (rsB 3 (Ar (tn_ (wr_ ?_))))));obtain ⟨x45,e45,h⟩:=Ae h;obtain ⟨x46,f46,h⟩:=Ae h;obtain ⟨p46,b46,e46⟩:=Bv f46;refine Aa 16 (rsB 3 (zO (oi 2 1) .int y20.length (Ax e45) (zE (oi 2 1) e45 (rsB 1 (rs0 (.elt (oi 5 1) x45.toNat 0) (zo (t:=.int) (o:=oi 5 1) (len:=u3.length) (k:=.i64) (m:=x45) p46 (Ax e46)) (zS (oi 5 1) (x44) e46 (Ar (bn_ (tn_ (wr_ ?_))))))))));obtain ⟨g47,h⟩:=As h;refine Aa 18 (zA g47 (rsB 1 (Ar (tn_ ?_))));obtain rfl:=zj h;exact ⟨(u9+1,u3.set x45.toNat x44),_,(Br 18 (oI 5 1 u3.length) (oI 5 1 ((u3.set x45.toNat x44).length)) (by kernel_rfl) (congrArg (fun z_=>((oI 5 1 z_):AV)) (((rfl:u3.length=u3.length).trans List.length_set.symm):u3.length=(u3.set x45.toNat x44).length))).trans (Ac []),⟨u9+1,u3.set x45.toNat x44,rfl,rfl⟩,hn38⟩
     have q41_:=of_decide_eq_false q41;refine Af q41 (Az (te_ (te_ (be_ (tn_ ?_)))));obtain rfl:=zj h;have h:=hn38
     (try dsimp only at h);obtain rfl:=zj h;exact ⟨_,Ac [],rfl⟩
    rintro u4 _ rfl h
    (try dsimp only at h);obtain ⟨g48,h⟩:=As h;refine Aa 7 (rsB 2 (Ajf (oS 112 4 1) (oi 112 4) (.vec 35 1 1 ([oI 5 1 u4.length])) trivial (X3 (by kernel_rfl)) (zV (oi 3 1) (oi 112 4) (oi 4 1) u2 [oI 5 1 u4.length] g48 (rsB 1 (Ar (bn_ (tn_ ?_)))))));obtain rfl:=zj h;exact ⟨_,(Ir (e1:=35) (e:=3) (u:=.int) (n:=u2.length+1) (len:=u4.length) (row:=u4) (ys:=u4) (xss:=u2) 9000 (oi 3 5) (oi 4 1) (oi 5 1) (by kernel_rfl) (by kernel_rfl) rfl (by kernel_rfl) (by kernel_rfl) (Uf rfl) (T7 rfl) (by kernel_rfl) (by kernel_rfl) (by kernel_rfl)).trans ((Br 15 (oS 3 5 (u2.length+1)) (oS 3 5 ((u2++[u4]).length)) (by kernel_rfl) (congrArg (fun z_=>((oS 3 5 z_):AV)) ((by simp):u2.length+1=(u2++[u4]).length))).trans (Ac [(oi 3 1,oi 3 5),(oi 4 1,oi 9000 7)])),rfl⟩
   rintro u7 _ rfl h
   (try dsimp only at h);obtain ⟨g49,h⟩:=As h;refine Aa 4 (zA g49 (rsB 1 (Ar (tn_ ?_))));obtain rfl:=zj h;exact ⟨(u6+1,u7),_,Ac [],⟨u6+1,u7,rfl,rfl⟩,hn24⟩
  have q27_:=of_decide_eq_false q27;refine Af q27 (Az (te_ (te_ (be_ (tn_ ?_)))));obtain rfl:=zj h;have h:=hn24
  (try dsimp only at h);obtain rfl:=zj h;exact ⟨_,Ac [(oi 0 1,oi 1 1),(oi 1 1,oi 2 1),(oi 2 1,oi 3 1),(oi 3 1,oi 4 1)],rfl⟩
 rintro u5 _ rfl h
 (try dsimp only at h);refine Aw h (fun (u8:List Int) S_=>S_=⟨Am [(0,ai a0),(11,.box (oi 0 1) 0),(13,ai (wI ((u0.length:Int)+u1))),(15,oS 1 1 u5.length),(21,oI 3 1 u8.length)],Ah (Aq [(oi 0 1,.cells 39 [ai 0,.nils]),(oi 1 1,.mat 35 (oi 2 1) .int u5),(oi 2 1,.pool 3 .int u5),(oi 3 1,.arr 3 .int u8)]),2⟩) ?_ ?_
 ·intro v_ h;obtain ⟨x51,f51,h⟩:=Ae h;obtain ⟨p51,b51,e51⟩:=Bv f51;obtain ⟨y52,h52,h⟩:=Ae h;obtain ⟨x53,f53,h⟩:=Ae h;obtain ⟨p53,b53,e53⟩:=Bv f53;obtain ⟨y54,h54,h⟩:=Ae h;rcases y54 with z54_0 | z54_1
  ·(try simp only [Sum.elim_inl,Sum.elim_inr] at h)
   refine Bi 15 (dz0 (tI a1) (dz0 (tI a1) (dz0 (ai a3) (ds0 (.telt none .int x51 0) (zi (t:=.int) (xs:=a1) (k:=.i64) (m:=a3) p51 e51) (dz0 (ai x51) (ds1 (oI 120 7 1) (oi 120 7) (.arr 3 .int ([x51])) (by kernel_rfl) (Rv (oI 1936 8 y52.length) [nI 1936 8 y52] [tI a1,oI 120 7 1] _ (caps:=[]) (args0:=[tI a1,tI ([x51])]) trivial (Ao (by kernel_rfl) (Ao (Bj (e:=3) (by kernel_rfl) rfl) Ba)) (Mv h52) Mh (dz0 (oI 1 1 y20.length) (dz0 (ai a4) (ds0 (.elt (oi 1 1) a4.toNat 0) (zo (t:=.int) (o:=oi 1 1) (len:=y20.length) (k:=.i64) (m:=a4) p53 (Ax e53)) (dzE (oi 1 1) e53 (Rv (oI 1936 8 y52.length) [] [oI 1936 8 y52.length,ai x53] _ (caps:=[]) (args0:=[tI y52,ai x53]) trivial (Ao (Bj (e:=3) (by kernel_rfl) rfl) (Ao (by kernel_rfl) Ba)) (Nw h54) Nx (dz0 (oI 1936 8 y52.length) (Nm (Cn (by kernel_rfl)) (tn_ ?_)))))))))))))));obtain rfl:=zj h;exact ⟨_,Ac [(oi 1 1,oi 2 1),(oi 2 1,oi 3 1),(oi 3 1,oi 1936 8)],rfl⟩
  (try simp only [Sum.elim_inl,Sum.elim_inr] at h)
  refine Bi 15 (dz0 (tI a1) (dz0 (tI a1) (dz0 (ai a3) (ds0 (.telt none .int x51 0) (zi (t:=.int) (xs:=a1) (k:=.i64) (m:=a3) p51 e51) (dz0 (ai x51) (ds1 (oI 120 7 1) (oi 120 7) (.arr 3 .int ([x51])) (by kernel_rfl) (Rv (oI 1936 8 y52.length) [nI 1936 8 y52] [tI a1,oI 120 7 1] _ (caps:=[]) (args0:=[tI a1,tI ([x51])]) trivial (Ao (by kernel_rfl) (Ao (Bj (e:=3) (by kernel_rfl) rfl) Ba)) (Mv h52) Mh (dz0 (oI 1 1 y20.length) (dz0 (ai a4) (ds0 (.elt (oi 1 1) a4.toNat 0) (zo (t:=.int) (o:=oi 1 1) (len:=y20.length) (k:=.i64) (m:=a4) p53 (Ax e53)) (dzE (oi 1 1) e53 (Rv (oI 2016 13 z54_1.length) [nI 2016 13 z54_1] [oI 1936 8 y52.length,ai x53] _ (caps:=[]) (args0:=[tI y52,ai x53]) trivial (Ao (Bj (e:=3) (by kernel_rfl) rfl) (Ao (by kernel_rfl) Ba)) (Nw h54) Nx (dz0 (oI 2016 13 z54_1.length) (Nm (Cn (by kernel_rfl)) (tn_ ?_)))))))))))))));obtain rfl:=zj h;exact ⟨_,Ac [(oi 1 1,oi 2 1),(oi 2 1,oi 3 1),(oi 3 1,oi 2016 13)],rfl⟩
 rintro u8 _ rfl h
 (try dsimp only at h);refine Ab ?_;obtain ⟨y56,h56,h⟩:=Ae h;refine Aa 13 (rsB 4 (Hf (.tup [.agg [an y56.2.1,oS 2113 6 y56.2.2.length],.bool y56.1]) [(oi 2112 6,some (.cells 39 [an y56.2.1,oS 2113 6 y56.2.2.length])),(oi 2113 6,some (.mat 35 (oi 2114 6) .int y56.2.2)),(oi 2114 6,some (.pool 3 .int y56.2.2))] [] [ai a0,ai (wI ((u0.length:Int)+u1)),oS 1 1 u5.length,oI 3 1 u8.length] (caps:=[]) trivial (Oz h56) Of trivial (.cons (.ren (by kernel_rfl)) (.cons (.ren (by kernel_rfl)) (.cons (.gnd (by kernel_rfl) (D4 (p:=oi 2 1) (e1:=35) (e:=3) (u:=.int) (xss:=u5) ((G3 (by kernel_rfl) (by kernel_rfl) (by kernel_rfl)).trans (by kernel_rfl)) (Kx (by kernel_rfl) (by kernel_rfl) (Bn (by kernel_rfl)) (by kernel_rfl)) rfl)) (.cons (.gnd (by kernel_rfl) (Bj (e:=3) ((G3 (by kernel_rfl) (by kernel_rfl) (by kernel_rfl)).trans (by kernel_rfl)) rfl)) .nil)))) (Bl (by kernel_rfl) (by kernel_rfl) trivial) (rsB 6 (Ar (tn_ (wr_ (Ab (Bi 19 (dsB 6 (Nm (Cn (by kernel_rfl)) (tn_ (wr_ (Al ?_)))))))))))));obtain rfl:=zj h;exact H7 [oI 0 1 u8.length,.agg [an y56.2.1,oS 2 1 y56.2.2.length],.bool y56.1] (Ac (tl:=[(10,oI 0 1 u8.length),(11,.box (oi 1 1) 0),(12,.bool y56.1)]) (g:=2) [(oi 0 1,oi 3 1),(oi 1 1,oi 0 1),(oi 2 1,oi 2113 6),(oi 3 1,oi 2114 6)])
end Go.Proofs.YtjnaikadmjocbaaDoor

namespace Go.Proofs.YtjnaikadmjocbaaDoor
open Go.RowKit Go.Deep Go.Shelf Go.Sort
def Aik:Go.Shelf.Ren:=⟨fun | 5=>90 | 8=>97 | 7=>96 | 19=>107 | 20=>108 | 10=>98 | 11=>99 | 12=>100 | 13=>101 | 14=>102 | 15=>103 | 16=>104 | 17=>105 | 18=>106 | 30=>109 | 31=>110 | 32=>111 | 33=>112 | 34=>113 | 35=>114 | 40=>115 | n=>n,fun | 23=>35 | 25=>3 | 3=>3 | 32=>101 | 22=>35 | 0=>0 | 44=>110 | 46=>112 | 4=>4 | 36=>104 | 35=>103 | 41=>107 | 5=>5 | 9=>9 | 53=>113 | 57=>117 | 63=>119 | 64=>120 | n=>n,fun n=>n⟩
theorem Abw:SlLaysM.n5 Tryd.prog Aik where
  mixed:=by kernel_rfl
  f5:=⟨Tryd.f90.name,by decide,Tryd.func90.trans (congrArg some (by kernel_rfl))⟩
  f7:=⟨Tryd.f96.name,by decide,Tryd.func96.trans (congrArg some (by kernel_rfl))⟩
  f8:=Tryd.func97.trans (congrArg some (by kernel_rfl))
  f10:=⟨Tryd.f98.name,by decide,Tryd.func98.trans (congrArg some (by kernel_rfl))⟩
  f11:=⟨Tryd.f99.name,by decide,Tryd.func99.trans (congrArg some (by kernel_rfl))⟩
  f12:=⟨Tryd.f100.name,by decide,Tryd.func100.trans (congrArg some (by kernel_rfl))⟩
  f13:=⟨Tryd.f101.name,by decide,Tryd.func101.trans (congrArg some (by kernel_rfl))⟩
  f14:=⟨Tryd.f102.name,by decide,Tryd.func102.trans (congrArg some (by kernel_rfl))⟩
  f15:=⟨Tryd.f103.name,by decide,Tryd.func103.trans (congrArg some (by kernel_rfl))⟩
  f16:=⟨Tryd.f104.name,by decide,Tryd.func104.trans (congrArg some (by kernel_rfl))⟩
  f17:=⟨Tryd.f105.name,by decide,Tryd.func105.trans (congrArg some (by kernel_rfl))⟩
  f18:=⟨Tryd.f106.name,by decide,Tryd.func106.trans (congrArg some (by kernel_rfl))⟩
  f19:=Tryd.func107.trans (congrArg some (by kernel_rfl))
  f20:=Tryd.func108.trans (congrArg some (by kernel_rfl))
  f30:=⟨Tryd.f109.name,by decide,Tryd.func109.trans (congrArg some (by kernel_rfl))⟩
  f31:=Tryd.func110.trans (congrArg some (by kernel_rfl))
  f32:=Tryd.func111.trans (congrArg some (by kernel_rfl))
  f33:=⟨Tryd.f112.name,by decide,Tryd.func112.trans (congrArg some (by kernel_rfl))⟩
  f34:=⟨Tryd.f113.name,by decide,Tryd.func113.trans (congrArg some (by kernel_rfl))⟩
  f35:=⟨Tryd.f114.name,by decide,Tryd.func114.trans (congrArg some (by kernel_rfl))⟩
  f40:=⟨Tryd.f115.name,by decide,Tryd.func115.trans (congrArg some (by kernel_rfl))⟩
  t0:=Tryd.underlying0
  a0:=Tryd.isAgg0
  z0:=Tryd.sizeOf0
  v0:=Tryd.zeroValue0
  t3:=Tryd.underlying3
  a3:=Tryd.isAgg3
  z3:=Tryd.sizeOf3
  v3:=Tryd.zeroValue3
  t4:=Tryd.underlying4
  a4:=Tryd.isAgg4
  z4:=Tryd.sizeOf4
  v4:=Tryd.zeroValue4
  t5:=Tryd.underlying5
  a5:=Tryd.isAgg5
  z5:=Tryd.sizeOf5
  v5:=Tryd.zeroValue5
  t9:=Tryd.underlying9
  a9:=Tryd.isAgg9
  z9:=Tryd.sizeOf9
  v9:=Tryd.zeroValue9
  t22:=Tryd.underlying35
  a22:=Tryd.isAgg35
  z22:=Tryd.sizeOf35
  v22:=Tryd.zeroValue35
  t23:=Tryd.underlying35
  a23:=Tryd.isAgg35
  z23:=Tryd.sizeOf35
  v23:=Tryd.zeroValue35
  t25:=Tryd.underlying3
  a25:=Tryd.isAgg3
  z25:=Tryd.sizeOf3
  v25:=Tryd.zeroValue3
  t32:=Tryd.underlying101
  a32:=Tryd.isAgg101
  z32:=Tryd.sizeOf101
  v32:=Tryd.zeroValue101
  t35:=Tryd.underlying103
  a35:=Tryd.isAgg103
  z35:=Tryd.sizeOf103
  v35:=Tryd.zeroValue103
  t36:=Tryd.underlying104
  a36:=Tryd.isAgg104
  z36:=Tryd.sizeOf104
  v36:=Tryd.zeroValue104
  t41:=Tryd.underlying107
  a41:=Tryd.isAgg107
  z41:=Tryd.sizeOf107
  v41:=Tryd.zeroValue107
  t44:=Tryd.underlying110
  a44:=Tryd.isAgg110
  z44:=Tryd.sizeOf110
  v44:=Tryd.zeroValue110
  t46:=Tryd.underlying112
  a46:=Tryd.isAgg112
  z46:=Tryd.sizeOf112
  v46:=Tryd.zeroValue112
  t53:=Tryd.underlying113
  a53:=Tryd.isAgg113
  z53:=Tryd.sizeOf113
  v53:=Tryd.zeroValue113
  t57:=Tryd.underlying117
  a57:=Tryd.isAgg117
  z57:=Tryd.sizeOf117
  v57:=Tryd.zeroValue117
  t63:=Tryd.underlying119
  a63:=Tryd.isAgg119
  z63:=Tryd.sizeOf119
  v63:=Tryd.zeroValue119
  t64:=Tryd.underlying120
  a64:=Tryd.isAgg120
  z64:=Tryd.sizeOf120
  v64:=Tryd.zeroValue120
end Go.Proofs.YtjnaikadmjocbaaDoor

namespace Go.Proofs.YtjnaikadmjocbaaDoor
open Go.RowKit Go.Deep Go.Shelf Go.Sort
attribute [local go_sem] Oper.semAt_some

def Jn (f:Nat->Int) (k:Nat):List Int:=(List.range k).map f
theorem Uv (f:Nat->Int) (k:Nat):Jn f (k+1)=Jn f k++[f k]:=by simp [Jn,List.range_succ]
theorem Aae (f:Nat->Int) (k:Nat):(Jn f k).length=k:=by simp [Jn]
theorem Agt (zs:List Int):Jn (fun j=>zs[j]?.getD 0) zs.length=zs:=by
  apply List.ext_getElem
  · simp [Jn]
  · intro i h1 h2;simp [Jn,h2]
theorem Aeg (zs:List Int) {k:Nat} (hk:k<=zs.length):Jn (fun j=>zs[j]?.getD 0) k=zs.take k:=by
  apply List.ext_getElem
  · simp [Jn,hk]
  · intro i h1 h2;have:i<zs.length:=by simp [Jn] at h1; omega
    simp [Jn,this]

set_option maxRecDepth 100000 in
set_option maxHeartbeats 2000000 in
theorem Ada (F:Fence) (n:Nat) (h7:F.fn 91) (hro:F.round=none) (hn:1<=n) (l Bs n₀ b off len cap:Nat) (zs:List Int) (hreach:len*8<=140737488351232) (hb:b<n₀) (J Jx:List Int->World->Prop)
    (hY:∀ pre x W,J pre W->pre.length<len->YieldAt F (n - 1) Tryd.prog l #[.int .i64 x] W fun e W' =>
      (e=.returned (.bool true)∧J (pre++[x]) W'∧Below n₀ W W')∨(e=.returned (.bool false)∧Jx (pre++[x]) W'))
    (W:World) (hBs:W.cell? ⟨Bs,0,none⟩=some (.slice (some ⟨b,off,none⟩) len cap)) (hc:∀ j,j<len->W.cell? ⟨b,off+j,none⟩=some (.int .i64 (zs[j]?.getD 0))) (h0:J [] W) :
    CallsIn F n Tryd.prog 91 #[.func (.yield l) #[] #[],.pointer (some ⟨Bs,0,none⟩)] W fun e W'=>(∃ v,e=.returned v) ∧
      ((∃ ys,ys=Jn (fun j=>zs[j]?.getD 0) len∧J ys W')∨(∃ pre,(∃ k,k<=len∧pre=Jn (fun j=>zs[j]?.getD 0) k)∧Jx pre W')):=by
  refine callsIn_of_wp Tryd.func91 rfl h7 ?_ hro;simp only [Tryd.ntmps91,List.size_toArray,List.length_cons,List.length_nil,Nat.reduceAdd,Nat.reduceSub,Array.replicate_succ,Array.replicate_zero,List.push_toArray,List.append_toArray,List.nil_append,List.cons_append]
  gi_wp2
  gi_loopw [7] (fun i wr=>∃ k:Nat,k<=len∧i=.int .i64 k∧J (Jn (fun j=>zs[j]?.getD 0) k) wr∧Below n₀ W wr)
    (fun i _=>len - (intOf i).toNat)
  case atStart=>exact ⟨0,Nat.zero_le _,rfl,h0,Below.refl _ _⟩
  case round =>
    obtain ⟨k,hk,rfl,hJs,hnx⟩:=hrel;have hcx:k<len->wr.cell? ⟨b,off+k,none⟩=some (.int .i64 (zs[k]?.getD 0)):=fun h=>(hnx.cell (p:=⟨b,off+k,none⟩) hb).trans (hc k h)
    by_cases hlt:k<len
    · obtain ⟨fn,tmps,assign,body,hy,hR⟩:=hY _ (zs[k]?.getD 0) wr hJs (by rw [Aae]; exact hlt);have hcx':=hcx hlt
      gi_wp2
      refine hR.mono ?_;rintro e W3 (⟨rfl,hJ3,hk3⟩ | ⟨rfl,hJx3⟩)
      · gi_wp2
        go_roundw
        case rel=>exact ⟨k+1,by omega,by simp,by rw [Uv]; exact hJ3,hnx.trans hk3⟩
        case measure=>simp [intOf]; omega
      · gi_wp2
        refine bodyPost_ret (results_none rfl _ _ _) rfl ?_;exact ⟨⟨_,rfl⟩,.inr ⟨_,⟨k+1,by omega,(Uv _ _).symm⟩,hJx3⟩⟩
    · obtain rfl:k=len:=by omega
      gi_wp2
      go_end0
      exact ⟨⟨_,rfl⟩,.inl ⟨_,rfl,hJs⟩⟩

/-- The slice value sv holds the numbers zs, in a block below n₀; or there are none and the length is nil. -/
def IntsS (n₀:Nat) (W:World) (sv:Value) (zs:List Int):Prop :=
  (∃ A cap,sv=.slice A 0 cap∧zs=[])∨∃ b off cap,sv=.slice (some ⟨b,off,none⟩) zs.length cap∧b<n₀∧∀ j,j<zs.length->W.cell? ⟨b,off+j,none⟩=some (.int .i64 (zs[j]?.getD 0))
theorem IntsS.below {n₀:Nat} {A B:World} (h:Below n₀ A B) {sv:Value} {zs:List Int}:IntsS n₀ A sv zs->IntsS n₀ B sv zs
  | .inl e=>.inl e
  | .inr ⟨b,off,cap,e,hb,hc⟩=>.inr ⟨b,off,cap,e,hb,fun j hj=>(h.cell (p:=⟨b,off+j,none⟩) hb).trans (hc j hj)⟩

set_option maxRecDepth 100000 in
set_option maxHeartbeats 1000000 in
theorem U0 (F:Fence) (n:Nat) (h7:F.fn 91) (hro:F.round=none) (l Bs:Nat) (J:List Int->World->Prop) (A:Option Addr) (cap:Nat) (W:World) (hBs:W.cell? ⟨Bs,0,none⟩=some (.slice A 0 cap)) (h0:J [] W) :
    CallsIn F n Tryd.prog 91 #[.func (.yield l) #[] #[],.pointer (some ⟨Bs,0,none⟩)] W fun e W'=>(∃ v,e=.returned v)∧J [] W':=by
  refine callsIn_of_wp Tryd.func91 rfl h7 ?_ hro;simp only [Tryd.ntmps91,List.size_toArray,List.length_cons,List.length_nil,Nat.reduceAdd,Nat.reduceSub,Array.replicate_succ,Array.replicate_zero,List.push_toArray,List.append_toArray,List.nil_append,List.cons_append]
  gi_wp2
  gi_loopw [7] (fun i wr=>i=.int .i64 0∧J [] wr) (fun _ _=>0)
  case atStart=>exact ⟨rfl,h0⟩
  case round =>
    obtain ⟨rfl,hJs⟩:=hrel
    gi_wp2
    go_end0
    exact ⟨⟨_,rfl⟩,hJs⟩

set_option maxHeartbeats 1000000 in
theorem Ag3 (F:Fence) (n:Nat) (h5:F.fn 74) (hro:F.round=none) (a:Option Addr) (len cap:Nat) (w:World) :
    CallsIn F n Tryd.prog 74 #[.slice a len cap] w fun e w'=>e=.returned (.func (.func 91) #[] #[.pointer (some ⟨w.heap.size,0,none⟩)])∧w'=w.alloc (.cells #[.slice a len cap] 35):=by
  refine callsIn_of_wp Tryd.func74 rfl h5 ?_ hro;simp only [Tryd.ntmps74,List.size_toArray,List.length_cons,List.length_nil,Nat.reduceAdd,Nat.reduceSub,Array.replicate_succ,Array.replicate_zero,List.push_toArray,List.append_toArray,List.nil_append,List.cons_append]
  gi_wp2
  go_ret
  exact ⟨rfl,rfl⟩

theorem Yu (F:Fence) (n:Nat) (h7:F.fn 91) (hro:F.round=none) (hn:1<=n) (Bs n₀:Nat) (sv:Value) (zs:List Int) (hreach:zs.length*8<=140737488351232) (w:World) (hBs:Bs<w.heap.size) (hn₀:n₀<=w.heap.size)
    (hc:w.cell? ⟨Bs,0,none⟩=some sv) (hI:IntsS n₀ w sv zs) :
    SeqStopsK F n Tryd.prog 91 #[.pointer (some ⟨Bs,0,none⟩)] (fun x:Int=> #[Value.int .i64 x]) (Below n₀) (fun ys=>ys=zs) (fun pre=>pre <+: zs) zs.length w:=fun l J Jx W hW _ _ hY h0=>by
  have hc':=(hW.cell (p:=⟨Bs,0,none⟩) hBs).trans hc;rcases hI.below (hW.mono hn₀) with ⟨A,cap,rfl,rfl⟩ | ⟨b,off,cap,rfl,hb,hcs⟩
  · exact (U0 F n h7 hro l Bs J A cap W hc' h0).mono fun e W' ⟨he,hj⟩=>⟨he,.inl ⟨_,rfl,hj⟩⟩
  · refine (Ada F n h7 hro hn l Bs n₀ b off zs.length cap zs hreach hb J Jx hY W hc' hcs h0).mono ?_;rintro e W' ⟨he,⟨ys,rfl,hj⟩ | ⟨pre,⟨k,hk,rfl⟩,hj⟩⟩
    · exact ⟨he,.inl ⟨_,Agt zs,hj⟩⟩
    · exact ⟨he,.inr ⟨_,by rw [Aeg zs hk]; exact List.take_prefix _ _,hj⟩⟩

theorem Amf:(Tryd.prog.info? 3).map (fun i=>(i.zero,i.size,i.bytes))=some (some (.int .i64 0),1,8):=by kernel_rfl

set_option maxRecDepth 100000 in
set_option maxHeartbeats 2000000 in
theorem Aas (F:Fence) (n:Nat) (h3:F.fn 95) (h5:F.fn 91) (hro:F.round=none) (hn:3<=n) (Bs:Nat) (sv:Value) (zs:List Int) (hreach:zs.length*8<=140737488351232) (w:World) (hBs:Bs<w.heap.size) (hc0:w.cell? ⟨Bs,0,none⟩=some sv) (hI:IntsS w.heap.size w sv zs) :
    CallsIn F n Tryd.prog 95 #[.slice none 0 0,.func (.func 91) #[] #[.pointer (some ⟨Bs,0,none⟩)]] w fun e W'=>∃ v,e=.returned v∧W'.ownsRow w.heap.size 3 1 v zs.length (zs.map (Value.int .i64))∧(v=.slice none 0 0↔zs=[])∧Below w.heap.size w W':=by
  have h1:1<=n:=by omega
  have hM:maxLen=9223372036854775807:=rfl;obtain ⟨i0,hi,hz0,hz1,hz2⟩:=info_parts Amf;refine callsIn_of_wp_marks Tryd.func95 rfl h3 ?_ hro;simp only [Tryd.ntmps95,List.size_toArray,List.length_cons,List.length_nil,Nat.reduceAdd,Nat.reduceSub,Array.replicate_succ,Array.replicate_zero,List.push_toArray,List.append_toArray,List.nil_append,List.cons_append]
  gi_wp2
  have bO:=Boxed.new w 35 (.slice none 0 0);have hB0:Below w.heap.size w (w.alloc (.cells #[.slice none 0 0] 35)):=(Below.refl _ w).alloc (Nat.le_refl _) _
  refine wpIn_rangeFunc_ownG hro h1 (gf:=91) (lb:= #[.pointer (some ⟨Bs,0,none⟩)]) rfl h5 (enters_of Tryd.func91 (by kernel_rfl) rfl)
    (Yu F (n - 1) h5 hro (by omega) Bs w.heap.size sv zs hreach _ (by simp; omega) (by simp) ((hB0.cell (p:=⟨Bs,0,none⟩) hBs).trans hc0) (hI.below hB0)) belowK_t (belowK_b (by simp)) (Below.refl _ _) (fun _=>rfl)
    (fun pre W=>(∃ v,Boxed W w.heap.size 35 v∧W.ownsRow w.heap.size 3 1 v pre.length (pre.map (Value.int .i64))∧(v=.slice none 0 0↔pre=[]))∧Below w.heap.size w W)
    (fun _ _ _=>False)
    (OwnFrom.and (Own.from (holdsRow_own w.heap.size w.heap.size 35 3 1 (fun pre=>pre.length) (fun pre=>pre.map (Value.int .i64)) (fun pre v=>v=.slice none 0 0↔pre=[])) _) (ownFrom_below (Nat.le_refl _) (by simp)))
    (fun _ _ _ _ _ hs _ _=>hs)
    ⟨⟨_,bO,World.ownsRow_nil _ _ _ _,by simp⟩,hB0⟩
    (fun x=>{ tmps:= #[.slice none 0 0,.func (.func 91) #[] #[.pointer (some ⟨Bs,0,none⟩)],.pointer (some ⟨w.heap.size,0,none⟩),undef,.slice none 0 0,.int .i64 x,.func (.func 91) #[] #[.pointer (some ⟨Bs,0,none⟩)],.int .i64 x,undef,undef,undef,undef,undef],defers:=[] }) ?assign ?body ?done ?stop
  case assign =>
    intro l x W K hK
    gi_wp2
    exact hK
  case body =>
    rintro l pre x W ⟨⟨v,hv,hrow,hnil⟩,hB⟩ hlt;have hc:=hv.cell
    gi_wp2_with (gi_at_builtin; refine wpListIn_append_own _ rfl _ _ 35 rfl w.heap.size 3 i0 (.int .i64 0) 1 8 Tryd.underlying35 hi hz0 hz1 hz2 rfl (by decide) _ _ _ rfl (hrow.alloc _) ⟨W.heap.size,0,none⟩ 1 1 [.int .i64 x] rfl rfl (cell_one_new _ _ _) (by simp [Value.oneCell']) (by omega) (by omega) (by have:=hB.size; simp; omega) ?_; intro v' w1 hown' hgrow _; obtain ⟨g',cap',rfl⟩:=ownsRow_succ hown'; obtain ⟨hv1,hv2,hr2,hk2,hb2⟩:=hv.appended (by decide) hrow hB.size (Nat.le_refl _) hown' hgrow; have hc1:=hv1.cell; have hf1:=hv1.frozen)
    exact ⟨hk2.from _,hb2,⟨_,hv2,by simpa using hr2,by simp⟩,hB.trans hb2⟩
  case done =>
    rintro D ys W hD rfl ⟨⟨v,hv,hrow,hnil⟩,hB⟩ hK;have hc:=hv.cell
    gi_wp2
    refine ⟨by simp,.inl ⟨_,_,rfl,run_takeDeferred hK,?_⟩⟩;exact ⟨_,results_tmp rfl _ _ _,v,rfl,ownsRow_putObj hrow _ hK rfl,hnil,hB.trans (belowK_b (w:=w) (Nat.le_refl _) W D _ _ (by simp at hD; omega) hK rfl rfl)⟩
  case stop =>
    rintro D c pre W _ _ h _;exact h.elim

set_option maxHeartbeats 1000000 in
theorem Adp (F:Fence) (n:Nat) (h8:F.fn 89) (h3:F.fn 95) (h5:F.fn 91) (hro:F.round=none) (hn:4<=n) (Bs:Nat) (sv:Value) (zs:List Int) (hreach:zs.length*8<=140737488351232) (w:World) (hBs:Bs<w.heap.size) (hc0:w.cell? ⟨Bs,0,none⟩=some sv) (hI:IntsS w.heap.size w sv zs) :
    CallsIn F n Tryd.prog 89 #[.func (.func 91) #[] #[.pointer (some ⟨Bs,0,none⟩)]] w fun e W'=>∃ v,e=.returned v∧W'.ownsRow w.heap.size 3 1 v zs.length (zs.map (Value.int .i64))∧(v=.slice none 0 0↔zs=[])∧Below w.heap.size w W':=by
  have h1:1<=n:=by omega
  have hA:=Aas F (n - 1) h3 h5 hro (by omega) Bs sv zs hreach w hBs hc0 hI;refine callsIn_of_wp Tryd.func89 rfl h8 ?_ hro;simp only [Tryd.ntmps89,List.size_toArray,List.length_cons,List.length_nil,Nat.reduceAdd,Nat.reduceSub,Array.replicate_succ,Array.replicate_zero,List.push_toArray,List.append_toArray,List.nil_append,List.cons_append]
  gi_wp2_with (gi_at_call 95; refine hA.mono ?_; rintro e w' ⟨v,rfl,hrow,hnil,hb⟩)
  go_ret
  exact ⟨v,rfl,hrow,hnil,hb⟩

set_option maxHeartbeats 1000000 in
theorem Af9 (F:Fence) (n:Nat) (h6:F.fn 73) (h8:F.fn 89) (h3:F.fn 95) (h5:F.fn 91) (h9:F.fn 90) (hro:F.round=none) (hn:5<=n) (Bs:Nat) (sv:Value) (zs:List Int) (hreach:zs.length*8<=140737488351232) (w:World) (hBs:Bs<w.heap.size) (hc0:w.cell? ⟨Bs,0,none⟩=some sv) (hI:IntsS w.heap.size w sv zs)
    (hs1:∀ (blk off cap:Nat) (ss:List Int) (W:World),Holds encZ W blk off ss.toArray->blk<W.heap.size->ss.length<4611686018427387904 ->
      CallsIn F (n - 1) Tryd.prog 90 #[.slice (some ⟨blk,off,none⟩) ss.length cap] W fun e w'=>e=.returned (.tuple #[])∧∃ k os,w'=grow (putRow encZ (Sort.ahead W k) blk off (ss.mergeSort fun x y=>decide (x<=y)).toArray) os)
    (hs2:∀ (p:Option Addr) (cap:Nat) (W:World),CallsIn F (n - 1) Tryd.prog 90 #[.slice p 0 cap] W fun e w'=>e=.returned (.tuple #[])∧w'=W) :
    CallsIn F n Tryd.prog 73 #[.func (.func 91) #[] #[.pointer (some ⟨Bs,0,none⟩)]] w fun e W'=>∃ v,e=.returned v∧W'.ownsRow w.heap.size 3 1 v zs.length ((zs.mergeSort fun x y=>decide (x<=y)).map (Value.int .i64))∧Below w.heap.size w W':=by
  have h1:1<=n:=by omega
  have hA:=Adp F (n - 1) h8 h3 h5 hro (by omega) Bs sv zs hreach w hBs hc0 hI;refine callsIn_of_wp Tryd.func73 rfl h6 ?_ hro;simp only [Tryd.ntmps73,List.size_toArray,List.length_cons,List.length_nil,Nat.reduceAdd,Nat.reduceSub,Array.replicate_succ,Array.replicate_zero,List.push_toArray,List.append_toArray,List.nil_append,List.cons_append]
  gi_wp2_with (gi_at_call 89; refine hA.mono ?_; rintro e W ⟨v,rfl,hrow,hnil,hb⟩)
  rcases hrow.2 with ⟨rfl,hz⟩ | ⟨gb,cap,cur,rfl,hbase,hgb,r1,r2,r3,r4⟩
  · have hss:zs=[]:=List.eq_nil_of_length_eq_zero hz;subst hss
    gi_wp2_with (gi_at_call 90; refine (hs2 none 0 W).mono ?_; rintro e w' ⟨rfl,rfl⟩)
    go_ret
    exact ⟨.slice none 0 0,rfl,by simpa using hrow,hb⟩
  · have hH:Holds encZ W gb 0 zs.toArray:=holds_of_block_i hgb (by simpa using r4);have hgl:gb<W.heap.size:=(Array.getElem?_eq_some_iff.1 hgb).1;have hsz:zs.length<4611686018427387904:=by omega
    have cS:=hs1 gb 0 cap zs W hH hgl hsz
    gi_wp2_with (gi_at_call 90; refine cS.mono ?_; rintro e w' ⟨rfl,nn,os,rfl⟩)
    go_ret
    exact ⟨_,rfl,ownsRow_sorted_i (by simp) hbase hgb r1 r2 r3,hb.grown (grownBy_sorted_i _) hb.size (fun j hj=>by cases hj; exact hbase)⟩

set_option maxHeartbeats 1000000 in
theorem Aek (a:Option Addr) (len cap:Nat) (zs:List Int) (hreach:zs.length*8<=140737488351232) (w:World) (hI:IntsS w.heap.size w (.slice a len cap) zs) :
    Calls Tryd.prog 49 #[.slice a len cap] w fun e W'=>∃ v,e=.returned v∧W'.ownsRow w.heap.size 3 1 v zs.length ((zs.mergeSort fun x y=>decide (x<=y)).map (Value.int .i64))∧Below w.heap.size w W':=by
  refine (callsIn_wide (n:=7)).1 ?_;have hB0:Below w.heap.size w (w.alloc (.cells #[.slice a len cap] 35)):=(Below.refl _ w).alloc (Nat.le_refl _) _;have bN:=Boxed.new w 35 (.slice a len cap);have hV:=Ag3 Fence.wide 6 trivial rfl a len cap w
  have hI1:IntsS (w.alloc (.cells #[.slice a len cap] 35)).heap.size (w.alloc (.cells #[.slice a len cap] 35)) (.slice a len cap) zs:=by
    rcases hI.below hB0 with h | ⟨b,off,c,e,hb,hc⟩
    · exact .inl h
    · exact .inr ⟨b,off,c,e,by simp; omega,hc⟩
  have hS:=Af9 Fence.wide 6 trivial trivial trivial trivial trivial rfl (by omega) w.heap.size _ zs hreach _ (by simp) bN.cell hI1
    (fun blk off cap ss W hH hblk hsz=>callsIn_wide.2 (AnyM.slices_Sort_int Abw blk off cap ss W hH hblk hsz))
    (fun p cap W=>callsIn_wide.2 (AnyM.slices_Sort_int_none Abw p cap W))
  have hf1:Fence.wide.fn 74:=trivial;have hf2:Fence.wide.fn 73:=trivial;refine callsIn_of_wp Tryd.func49 rfl trivial ?_ rfl;simp only [Tryd.ntmps49,List.size_toArray,List.length_cons,List.length_nil,Nat.reduceAdd,Nat.reduceSub,Array.replicate_succ,Array.replicate_zero,List.push_toArray,List.append_toArray,List.nil_append,List.cons_append]
  gi_wp2_with (first
    | (gi_at_call 74; refine hV.mono ?_; rintro e w' ⟨rfl,rfl⟩)
    | (gi_at_call 73; refine hS.mono ?_; rintro e w' ⟨v,rfl,hrow,hb⟩))
  go_ret
  exact ⟨v,rfl,by obtain ⟨q1,q2⟩:=hrow; exact ⟨q1,q2.imp id (fun ⟨g,c,cur,e,hg,r⟩=>⟨g,c,cur,e,by simp at hg; omega,r⟩)⟩,hB0.trans (hb.mono (by simp))⟩

def Bb (xs:List Int):List Int:=xs.mergeSort fun x y=>decide (x<=y)
def De (a0:List Int):Option (List Int):=og (a0.length*8<=140737488355328∧a0.length<=1073741824) (some (Bb a0))
def Mt (r:List Int):RV:=⟨false,[(false,[.new 3 .int r])]⟩
theorem M6:A9 Tryd.prog 49=true:=by kernel_rfl
theorem Mp {a0:List Int} {r:List Int} (h:De a0=some r):A7 Tryd.prog Tab 49 [.tree .int a0] (Mt r):=by
  unfold De og at h;split at h
  · rename_i hlen;obtain rfl:=osj h;intro w im vs hG hr;obtain ⟨u1,_,rfl,h1,h2⟩:=hr;obtain rfl:_=[]:=h2;obtain ⟨A,c,l,rfl,hl1,hl2,f,-,hf⟩:=h1
    have hI:IntsS w.heap.size w (.slice A a0.length c) a0:=by
      by_cases h0:a0=[]
      · subst h0; exact .inl ⟨A,c,rfl,rfl⟩
      · have hp:0<a0.length:=(by cases a0 with | nil=>exact absurd rfl h0 | cons _ _=>simp)
        obtain ⟨ad,rfl,-,hm⟩:=hf hp;obtain ⟨b,off,sp⟩:=ad;have hc0:w.cell? ⟨b,off,sp⟩=some (.int .i64 a0[0]):=by have:=(hm 0 hp).1; simpa [Addr.add] using this
        obtain rfl:sp=none:=World.cell?_spot hc0;refine .inr ⟨b,off,c,rfl,World.block_lt_of_cell? w _ hc0,fun j hj=>?_⟩;have:=(hm j hj).1;rw [gEg hj,Option.getD_some];rw [show (⟨b,off+j,none⟩:Addr)=(⟨b,off,none⟩:Addr).add (j*Ty.int.size) from by simp [Addr.add,Ty.size]];exact this
    refine (Aek A a0.length c a0 (by omega) w hI).mono ?_;rintro e w' ⟨v,rfl,hrow,hb⟩;refine ⟨v,rfl,hb,?_⟩;have hlen':(Bb a0).length=a0.length:=List.length_mergeSort _
    have hcells:Ty.int.cells (Bb a0)=(Bb a0).map (Value.int .i64):=by
      show List.flatMap _ _=_
      induction Bb a0 with
      | nil=>rfl
      | cons x xs ih=>rw [List.flatMap_cons,ih]; rfl
    obtain ⟨l,hlv,hls⟩:∃ l:Loc,v=l.val (Bb a0).length∧∀ b c s,l=.at_ b c s->s=Ty.int.size:=by
      rcases hrow.2 with ⟨rfl,h0⟩ | ⟨g,cap,cur,rfl,_⟩
      · exact ⟨.nil,rfl,fun _ _ _ h=>by cases h⟩
      · exact ⟨.at_ g cap 1,by rw [hlen']; rfl,fun _ _ _ h=>by cases h; rfl⟩
    refine ⟨[v],[l],⟨l,[],[],by rw [hlv],rfl,rfl,?_,hls,rfl,rfl⟩,⟨⟨fun _ _ _ _ _ _ h=>(by cases h),trivial⟩,fun ⟨x,hx,hxf⟩=>?_⟩,rfl⟩
    · rw [← hlv,hcells,hlen']; exact ⟨hrow.1,hrow.2.imp id fun ⟨g,c,cur,q1,q2,q3,q4,q5,q6,q7⟩=>⟨g,c,cur,q1,q2,q3,q4,q5,Nat.le_of_eq q6.symm,q7⟩⟩
    · simp [Mt,RV.leaves] at hx;subst hx;cases hxf
  · cases h
end Go.Proofs.YtjnaikadmjocbaaDoor

namespace Go.Proofs.YtjnaikadmjocbaaDoor
open Go.RowKit Go.Deep
set_option maxRecDepth 4000
def Gt:AC :=
 (.seq (rg [xs1 119 118 117])
 (.seq (.cond (tm 119)
  .skip
  (.exit 0))
 (.seq (.block 1 (.seq (rg [xx 120 1 116 118,xl 121 120,xm 23 121])
 (.region [xf 122 1 20,xl 123 122,xm 124 17,xm 125 23,xx 126 1 124 125,xl 127 126,xm 128 21,xo 129 (qc 51 [tm 127,tm 128] [[some .int],[some .int]]),xo 130 (.mkV 35 sI 1 [tm 129]),xo 131 (.appV 35 sI 24 (tm 123) (tm 130)),xf 132 1 20,xn (qs (tm 132) (tm 131))] true [(1,7),(1,8)])))
 (rg [xa 133 118,xm 118 133]))))
def Hw:AC :=
 (.seq (rg [xo 7 (.i (.box 39 (tm 2))),xo 10 (qm (.cst .nils)),xo 11 (.i (.alloc 39 [.int .i64 0,.nils])),xo 12 (qm (cb false))])
 (.seq (.seq (rg [xm 24 0,xo 25 (.i (.ld false 2 (tm 7))),xo 26 (qc 42 [tm 24,tm 25] [[],[none,some sI]]),xo 27 (.i (.not (tm 26)))])
 (.cond (tm 27)
  (.seq (rg [xo 28 (.build [.int .i64 0,.nils] []),xo 10 (qm (.cst .nils)),xn (.st false 2 (tm 11) (tm 28)),xo 12 (qm (cb false))])
  .ret)
  .skip))
 (.seq (rg [xf 29 1 7,xl 30 29,xn1 31 30,xf 32 0 7,xl 33 32,xo 34 (qb .add (tm 31) (tm 33)),xm 13 34])
 (.seq (.seq (rg [xm 35 1,xm 36 13,xo 37 (qc 43 [tm 35,tm 36] [[some .int],[]]),xo 38 (.i (.not (tm 37))),xm 39 38,⟨some 40,some (39,false),qm (tm 1)⟩,⟨some 41,some (39,false),.i (.len (tm 40))⟩,⟨some 42,some (39,false),qf 1 (tm 7)⟩,⟨some 43,some (39,false),ql (tm 42)⟩,⟨some 44,some (39,false),.i (.len (tm 43))⟩,⟨some 45,some (39,false),qb .neq (tm 41) (tm 44)⟩,xo 46 (.i (.pick (tm 39) (cb true) (tm 45))),xm 47 46,⟨some 48,some (47,false),qm (tm 3)⟩,⟨some 49,some (47,false),qf 1 (tm 7)⟩,⟨some 50,some (47,false),ql (tm 49)⟩,⟨some 51,some (47,false),.i (.len (tm 50))⟩,⟨some 52,some (47,false),qb .sub (tm 51) (ci 1)⟩,⟨some 53,some (47,false),qc 44 [tm 48,ci 0,tm 52] [[],[],[]]⟩,⟨some 54,some (47,false),.i (.not (tm 53))⟩,xo 55 (.i (.pick (tm 47) (cb true) (tm 54))),xm 56 55,⟨some 57,some (56,false),qm (tm 4)⟩,⟨some 58,some (56,false),qf 0 (tm 7)⟩,⟨some 59,some (56,false),ql (tm 58)⟩,⟨some 60,some (56,false),qb .sub (tm 59) (ci 1)⟩,⟨some 61,some (56,false),qc 44 [tm 57,ci 0,tm 60] [[],[],[]]⟩,⟨some 62,some (56,false),.i (.not (tm 61))⟩,xo 63 (.i (.pick (tm 56) (cb true) (tm 62))),xm 64 63,⟨some 65,some (64,false),qf 1 (tm 7)⟩,⟨some 66,some (64,false),ql (tm 65)⟩,⟨some 67,some (64,false),qm (tm 3)⟩,⟨some 68,some (64,false),qx 1 (tm 66) (tm 67)⟩,⟨some 69,some (64,false),ql (tm 68)⟩,⟨some 70,some (64,false),qm (tm 4)⟩,⟨some 71,some (64,false),qx 1 (tm 69) (tm 70)⟩,⟨some 72,some (64,false),ql (tm 71)⟩,⟨some 73,some (64,false),qb .eql (tm 72) (ci 0)⟩,xo 74 (.i (.pick (tm 64) (cb true) (tm 73)))])
 (.cond (tm 74)
  (.seq (rg [xo 75 (.build [.int .i64 0,.nils] []),xo 10 (qm (.cst .nils)),xn (.st false 2 (tm 11) (tm 75)),xo 12 (qm (cb false))])
  .ret)
  .skip))
 (.seq (rg [xm 76 13,xo 77 (qc 46 [tm 76] [[]]),xm 78 1,xo 79 (qc 45 [tm 77,tm 78] [[some .int],[some .int]]),xm 14 79])
 (.seq (rg [xm 80 1,xo 81 (qc 47 [tm 80] [[some .int]]),xm 82 14,xo 83 (qc 47 [tm 82] [[some .int]]),xm 15 81,xm 16 83])
 (.seq (.region [xm 84 15,xm 85 3,xm 86 16,xm 87 4,xm 88 14,xm 89 4,xx 90 1 88 89,xl 91 90,xm 92 1,xm 93 3,xx 94 1 92 93,xl 95 94,xx 96 1 84 85,xn (qs (tm 96) (tm 91)),xx 97 1 86 87,xn (qs (tm 97) (tm 95))] true [])
 (.seq (rg [xm 98 0,xf 99 1 7,xl 100 99,xm 101 3,xm 102 4,xo 103 (qc 48 [tm 98,tm 100,tm 101,tm 102] [[],[some sI],[],[]]),xm 17 103])
 (.seq (rg [xm 104 15,xo 105 (qc 49 [tm 104] [[some .int]]),xm 106 16,xo 107 (qc 49 [tm 106] [[some .int]]),xm 18 105,xm 19 107])
 (.seq (rg [xf 108 0 7,xl 109 108,xo 110 (.build [.int .i64 0,.nils] [(0,1,tm 109)]),xo 20 (.i (.alloc 39 [.int .i64 0,.nils])),xn (.st false 2 (tm 20) (tm 110))])
 (.seq (rg [xm 111 19,xm 112 16,xo 113 (qc 50 [tm 111,tm 112] [[some .int],[some .int]]),xm 21 113])
 (.seq (.seq (rg [xm 114 18,xm 115 15,xo 116 (qc 50 [tm 114,tm 115] [[some .int],[some .int]]),xn1 117 116,xo 118 (qm (ci 0))])
 (.block 0 (.loop Gt)))
 (.seq (.region [xm 134 18,xo 135 (.i (.ld false 2 (tm 20))),xm 10 134,xn (.st false 2 (tm 11) (tm 135)),xo 12 (qm (cb true))] true [])
 .ret)))))))))))))
def M2:List Res:=[.tmp 10,.cell 11 false 2,.tmp 12]
theorem Mr:At Tryd.prog Tryd.f18=some (Hw,M2):=by kernel_rfl
theorem G9:A9 Tryd.prog 18=true:=by kernel_rfl
def Bu (y43:List Int) (y34:LL) (y40:List Int) (u0:Nat) (u1:LL):Option (Ctl (Nat×LL) (LL)) :=
 cond (decide ((u0:Int)<(y43.length:Int)))
 ((y43[u0]?).bind fun x50 =>
 (F4 y34 x50).bind fun x51 =>
 (Gc x51 y40).bind fun y52 =>
 og (u1.length+1<=1073741824∧(u1.length+1)*24<=140737488355328) <|
 og (u0+1<4611686018427387904) <|
 some (Ctl.next (u0+1,u1++[y52])))
 (some (Ctl.out u1))
def Ce (a0:Int) (a1:List Int) (u1:Int) (u0:LL) (a3 a4:Int):Option (Bool×List Int×Int×LL) :=
 (Ex a0 u1 u0).bind fun y5 =>
cond (!y5)
 (some (false,[],0,([]:LL)))
 (((Dx a1 (wI ((u0.length:Int)+u1))).bind fun y11 =>
  cond (!y11)
   (some true)
   (cond ((a1.length:Int) !=(u0.length:Int))
    (some true)
    ((Dg a3 0 (wI ((u0.length:Int) - 1))).bind fun y14 =>
    cond (!y14)
     (some true)
     ((Dg a4 0 (wI (u1 - 1))).bind fun y16 =>
     cond (!y16)
      (some true)
      ((F4 u0 a3).bind fun x18 =>
      (F4 x18 a4).bind fun x19 =>
      some (x19==0)))))).bind fun u2 =>
 cond u2
  (some (false,[],0,([]:LL)))
  ((H1 (wI ((u0.length:Int)+u1))).bind fun y23 =>
  (F3 y23 a1).bind fun y24 =>
  (Ev a1).bind fun y26 =>
  (Ev y24).bind fun y27 =>
  (F4 y24 a4).bind fun x29 =>
  (F4 a1 a3).bind fun x30 =>
  (F4 y26 a3).bind fun x31 =>
  (F4 y27 a4).bind fun x32 =>
  (D9 a0 u0 a3 a4).bind fun y34 =>
  (De (y26.set a3.toNat x29)).bind fun y36 =>
  (De (y27.set a4.toNat x30)).bind fun y37 =>
  (Ds y37 (y27.set a4.toNat x30)).bind fun y40 =>
  ((Ds y36 (y26.set a3.toNat x29)).bind fun y43 =>
   A0 (fun s_:Nat×LL=>Bu y43 y34 y40 s_.1 s_.2) 4611686018427387904 (0,([]:LL))).bind fun u3 =>
  some (true,y36,u1,u3)))
theorem Ha {a0:Int} {a1:List Int} {u1:Int} {u0:LL} {a3 a4:Int} {r:Bool×List Int×Int×LL} (h:Ce a0 a1 u1 u0 a3 a4=some r):G7 Tryd.prog Tab 18 [ai a0,tI a1,.agg [ai u1,tS u0],ai a3,ai a4] [] (.tup [oI 0 1 r.2.1.length,.agg [ai r.2.2.1,oS 2 1 r.2.2.2.length],.bool r.1]) [(oi 0 1,.arr 3 .int r.2.1),(oi 1 1,.cells 39 [ai r.2.2.1,oS 2 1 r.2.2.2.length]),(oi 2 1,.mat 35 (oi 3 1) .int r.2.2.2),(oi 3 1,.pool 3 .int r.2.2.2)]:=by
 refine Eb (by kernel_rfl) Tryd.func18 Mr (n:=136) (by kernel_rfl) (by simp) rfl (by kernel_rfl) trivial ⟨trivial,⟨trivial,⟨⟨3,.tail _ (.tail _ (.tail _ (.head _)))⟩,⟨trivial,trivial⟩⟩⟩⟩ ?_;unfold Hw;unfold Ce at h;refine An (Ab (Ab ?_));obtain ⟨y5,h5,h⟩:=Ae h;refine Aa 9 (rsB 2 (zc (.bool y5) [] [ai a0,.agg [ai u1,tS u0]] (Qt h5) (rsB 1 (Ar (tn_ (wr_ ?_))))));rcases Ad h with ⟨q6,h⟩ | ⟨q6,h⟩
 ·refine Ag q6 (An (Al (tr_ ?_)));obtain rfl:=zj h;exact H7 [oI 0 1 ((([]:List Int)).length),.agg [ai 0,oS 2 1 ((([]:LL)).length)],.bool false] ((C6 9000 (oi 11 3) 1 39 [ai 0,.nils] [ai 0,oS 9000 13 0] 35 sI (by kernel_rfl) (by kernel_rfl) (by kernel_rfl)).trans ((D5 (e1:=35) (n:=0) 9000 (oi 9000 13) 3 .int (by kernel_rfl) (by kernel_rfl) rfl (by kernel_rfl) (by kernel_rfl)).trans ((Il 10 3 .int rfl (by kernel_rfl)).trans (Ac (tl:=[(10,oI 0 1 (([]:List Int)).length),(11,.box (oi 1 1) 0),(12,.bool false)]) (g:=2) [(oi 0 1,oi 10 15),(oi 1 1,oi 11 3),(oi 2 1,oi 9000 13),(oi 3 1,oi 9000 14)]))))
 refine Af q6 (Ak (tn_ (wr_ (An (Ab (Aw h (fun (u5:Bool) S_=>S_=⟨Am [(0,ai a0),(1,tI a1),(3,ai a3),(4,ai a4),(7,.box (oi 0 1) 0),(11,.box (oi 1 1) 0),(13,ai (wI ((u0.length:Int)+u1))),(74,.bool u5)],Ah (Aq [(oi 0 1,.cells 39 [ai u1,tS u0]),(oi 1 1,.cells 39 [ai 0,.nils])]),2⟩) ?_ ?_))))))
 ·intro v_ h;obtain ⟨y11,h11,h⟩:=Ae h;rcases Ad h with ⟨q12,h⟩ | ⟨q12,h⟩
  ·refine Aa 56 (rsB 2 (zc (.bool y11) [] [tI a1,ai (wI ((u0.length:Int)+u1))] (Dm h11) (rsB 2 (zs q12 (zs q12 (zs q12 (zs q12 (zs q12 (zs q12 (rs0 (.bool true) (zT q12) (rsB 28 (Ar (tn_ ?_)))))))))))));obtain rfl:=zj h;exact ⟨_,Ac [(oi 0 1,oi 7 1),(oi 1 1,oi 11 3)],rfl⟩
  rcases Ad h with ⟨q13,h⟩ | ⟨q13,h⟩
  ·refine Aa 56 (rsB 2 (zc (.bool y11) [] [tI a1,ai (wI ((u0.length:Int)+u1))] (Dm h11) (rsB 2 (rs0 (tI a1) (zg q12) (rs0 (an a1.length) (zg q12) (rs0 (.box (oi 7 1) 1) (zg q12) (rsl (tS u0) (zg q12) (rs0 (an u0.length) (zg q12) (rs0 (.bool ((a1.length:Int) !=(u0.length:Int))) (zg q12) (rs0 (.bool ((a1.length:Int) !=(u0.length:Int))) (zF q12) (rsB 1 (zs q13 (zs q13 (zs q13 (zs q13 (zs q13 (zs q13 (zs q13 (rs0 (.bool true) (zT q13) (rsB 19 (Ar (tn_ ?_))))))))))))))))))))));obtain rfl:=zj h;exact ⟨_,Ac [(oi 0 1,oi 7 1),(oi 1 1,oi 11 3)],rfl⟩
  obtain ⟨y14,h14,h⟩:=Ae h;rcases Ad h with ⟨q15,h⟩ | ⟨q15,h⟩
  ·refine Aa 56 (rsB 2 (zc (.bool y11) [] [tI a1,ai (wI ((u0.length:Int)+u1))] (Dm h11) (rsB 2 (rs0 (tI a1) (zg q12) (rs0 (an a1.length) (zg q12) (rs0 (.box (oi 7 1) 1) (zg q12) (rsl (tS u0) (zg q12) (rs0 (an u0.length) (zg q12) (rs0 (.bool ((a1.length:Int) !=(u0.length:Int))) (zg q12) (rs0 (.bool ((a1.length:Int) !=(u0.length:Int))) (zF q12) (rsB 1 (rs0 (ai a3) (zg q13) (rs0 (.box (oi 7 1) 1) (zg q13) (rsl (tS u0) (zg q13) (rs0 (an u0.length) (zg q13) (rs0 (ai (wI ((u0.length:Int) - 1))) (zg q13) (Bq (.bool y14) [] [ai a3,ai 0,ai (wI ((u0.length:Int) - 1))] _ (caps:=[]) (args0:=[ai a3,ai 0,ai (wI ((u0.length:Int) - 1))]) (Cf (by kernel_rfl) q13) (by kernel_rfl) (Bz h14) C1 (rs0 (.bool (!y14)) (zg q13) (rs0 (.bool (!y14)) (zF q13) (rsB 1 (zs q15 (zs q15 (zs q15 (zs q15 (zs q15 (zs q15 (rs0 (.bool true) (zT q15) (rsB 11 (Ar (tn_ ?_))))))))))))))))))))))))))))));obtain rfl:=zj h;exact ⟨_,Ac [(oi 0 1,oi 7 1),(oi 1 1,oi 11 3)],rfl⟩
  obtain ⟨y16,h16,h⟩:=Ae h;rcases Ad h with ⟨q17,h⟩ | ⟨q17,h⟩
  ·refine Aa 56 (rsB 2 (zc (.bool y11) [] [tI a1,ai (wI ((u0.length:Int)+u1))] (Dm h11) (rsB 2 (rs0 (tI a1) (zg q12) (rs0 (an a1.length) (zg q12) (rs0 (.box (oi 7 1) 1) (zg q12) (rsl (tS u0) (zg q12) (rs0 (an u0.length) (zg q12) (rs0 (.bool ((a1.length:Int) !=(u0.length:Int))) (zg q12) (rs0 (.bool ((a1.length:Int) !=(u0.length:Int))) (zF q12) (rsB 1 (rs0 (ai a3) (zg q13) (rs0 (.box (oi 7 1) 1) (zg q13) (rsl (tS u0) (zg q13) (rs0 (an u0.length) (zg q13) (rs0 (ai (wI ((u0.length:Int) - 1))) (zg q13) (Bq (.bool y14) [] [ai a3,ai 0,ai (wI ((u0.length:Int) - 1))] _ (caps:=[]) (args0:=[ai a3,ai 0,ai (wI ((u0.length:Int) - 1))]) (Cf (by kernel_rfl) q13) (by kernel_rfl) (Bz h14) C1 (rs0 (.bool (!y14)) (zg q13) (rs0 (.bool (!y14)) (zF q13) (rsB 1 (rs0 (ai a4) (zg q15) (rs0 (.box (oi 7 1) 0) (zg q15) (rsl (ai u1) (zg q15) (rs0 (ai (wI (u1 - 1))) (zg q15) (Bq (.bool y16) [] [ai a4,ai 0,ai (wI (u1 - 1))] _ (caps:=[]) (args0:=[ai a4,ai 0,ai (wI (u1 - 1))]) (Cf (by kernel_rfl) q15) (by kernel_rfl) (Bz h16) C1 (rs0 (.bool (!y16)) (zg q15) (rs0 (.bool (!y16)) (zF q15) (rsB 1 (zs q17 (zs q17 (zs q17 (zs q17 (zs q17 (zs q17 (zs q17 (zs q17 (zs q17 (rs0 (.bool true) (zT q17) (Ar (tn_ ?_))))))))))))))))))))))))))))))))))))))));obtain rfl:=zj h;exact ⟨_,Ac [(oi 0 1,oi 7 1),(oi 1 1,oi 11 3)],rfl⟩
  obtain ⟨x18,f18,h⟩:=Ae h;obtain ⟨p18,b18,e18⟩:=Bv f18;obtain ⟨x19,f19,h⟩:=Ae h;obtain ⟨p19,b19,e19⟩:=Bv f19;refine Aa 56 (rsB 2 (zc (.bool y11) [] [tI a1,ai (wI ((u0.length:Int)+u1))] (Dm h11) (rsB 2 (rs0 (tI a1) (zg q12) (rs0 (an a1.length) (zg q12) (rs0 (.box (oi 7 1) 1) (zg q12) (rsl (tS u0) (zg q12) (rs0 (an u0.length) (zg q12) (rs0 (.bool ((a1.length:Int) !=(u0.length:Int))) (zg q12) (rs0 (.bool ((a1.length:Int) !=(u0.length:Int))) (zF q12) (rsB 1 (rs0 (ai a3) (zg q13) (rs0 (.box (oi 7 1) 1) (zg q13) (rsl (tS u0) (zg q13) (rs0 (an u0.length) (zg q13) (rs0 (ai (wI ((u0.length:Int) - 1))) (zg q13) (Bq (.bool y14) [] [ai a3,ai 0,ai (wI ((u0.length:Int) - 1))] _ (caps:=[]) (args0:=[ai a3,ai 0,ai (wI ((u0.length:Int) - 1))]) (Cf (by kernel_rfl) q13) (by kernel_rfl) (Bz h14) C1 (rs0 (.bool (!y14)) (zg q13) (rs0 (.bool (!y14)) (zF q13) (rsB 1 (rs0 (ai a4) (zg q15) (rs0 (.box (oi 7 1) 0) (zg q15) (rsl (ai u1) (zg q15) (rs0 (ai (wI (u1 - 1))) (zg q15) (Bq (.bool y16) [] [ai a4,ai 0,ai (wI (u1 - 1))] _ (caps:=[]) (args0:=[ai a4,ai 0,ai (wI (u1 - 1))]) (Cf (by kernel_rfl) q15) (by kernel_rfl) (Bz h16) C1 (rs0 (.bool (!y16)) (zg q15) (rs0 (.bool (!y16)) (zF q15) (rsB 1 (rs0 (.box (oi 7 1) 1) (zg q17) (rsl (tS u0) (zg q17) (rs0 (ai a3) (zg q17) (rs0 (.telt none sI x18 0) (Js (by kernel_rfl) q17 (zi (t:=sI) (xs:=u0) (k:=.i64) (m:=a3) p18 e18)) (rs0 (tI x18) (zg q17) (rs0 (ai a4) (zg q17) (rs0 (.telt none .int x19 0) (Js (by kernel_rfl) q17 (zi (t:=.int) (xs:=x18) (k:=.i64) (m:=a4) p19 e19)) (rs0 (ai x19) (zg q17) (rs0 (.bool (x19==0)) (zg q17) (rs0 (.bool (x19==0)) (zF q17) (Ar (tn_ ?_))))))))))))))))))))))))))))))))))))))));obtain rfl:=zj h;exact ⟨_,Ac [(oi 0 1,oi 7 1),(oi 1 1,oi 11 3)],rfl⟩
 rintro u5 _ rfl h
 (try dsimp only at h);rcases Ad h with ⟨q20,h⟩ | ⟨q20,h⟩
 ·refine Ag q20 (An (Al (tr_ ?_)));obtain rfl:=zj h;exact H7 [oI 0 1 ((([]:List Int)).length),.agg [ai 0,oS 2 1 ((([]:LL)).length)],.bool false] ((C6 9000 (oi 1 1) 1 39 [ai 0,.nils] [ai 0,oS 9000 6 0] 35 sI (by kernel_rfl) (by kernel_rfl) (by kernel_rfl)).trans ((D5 (e1:=35) (n:=0) 9000 (oi 9000 6) 3 .int (by kernel_rfl) (by kernel_rfl) rfl (by kernel_rfl) (by kernel_rfl)).trans ((Il 10 3 .int rfl (by kernel_rfl)).trans (Ac (tl:=[(10,oI 0 1 (([]:List Int)).length),(11,.box (oi 1 1) 0),(12,.bool false)]) (g:=2) [(oi 0 1,oi 10 8),(oi 2 1,oi 9000 6),(oi 3 1,oi 9000 7)]))))
 refine Af q20 (Ak (tn_ (wr_ (Ab ?_))));obtain ⟨y23,h23,h⟩:=Ae h;obtain ⟨y24,h24,h⟩:=Ae h;refine Aa 7 (rsB 1 (zc (oI 1232 3 y23.length) [nI 1232 3 y23] [ai (wI ((u0.length:Int)+u1))] (Zh h23) (rsB 1 (Bq (oI 1264 5 y24.length) [nI 1264 5 y24] [oI 1232 3 y23.length,tI a1] _ (caps:=[]) (args0:=[tI y23,tI a1]) trivial (Ao (Bj (e:=3) (by kernel_rfl) rfl) (Ao (by kernel_rfl) Ba)) (Ur h24) Vc (rsB 1 (Ar (tn_ (wr_ (Ab ?_)))))))));obtain ⟨y26,h26,h⟩:=Ae h;obtain ⟨y27,h27,h⟩:=Ae h;refine Aa 13 (rsB 1 (zc (oI 1296 8 y26.length) [nI 1296 8 y26] [tI a1] (J9 h26) (rsB 1 (Bq (oI 1328 10 y27.length) [nI 1328 10 y27] [oI 1264 5 y24.length] _ (caps:=[]) (args0:=[tI y24]) trivial (Ao (Bj (e:=3) (by kernel_rfl) rfl) Ba) (J9 h27) We (rsB 2 (Ar (tn_ (wr_ (Ab ?_)))))))));obtain ⟨x29,f29,h⟩:=Ae h;obtain ⟨p29,b29,e29⟩:=Bv f29;obtain ⟨x30,f30,h⟩:=Ae h;obtain ⟨p30,b30,e30⟩:=Bv f30;obtain ⟨x31,f31,h⟩:=Ae h;obtain ⟨p31,b31,e31⟩:=Bv f31;obtain ⟨x32,f32,h⟩:=Ae h;obtain ⟨p32,b32,e32⟩:=Bv f32;refine Bi 29 (dz0 (oI 1296 8 y26.length) (dz0 (ai a3) (dz0 (oI 1328 10 y27.length) (dz0 (ai a4) (dz0 (oI 1264 5 y24.length) (dz0 (ai a4) (ds0 (.elt (oi 1264 5) a4.toNat 0) (zo (t:=.int) (o:=oi 1264 5) (len:=y24.length) (k:=.i64) (m:=a4) p29 (Ax e29)) (dzE (oi 1264 5) e29 (dz0 (tI a1) (dz0 (ai a3) (ds0 (.telt none .int x30 0) (zi (t:=.int) (xs:=a1) (k:=.i64) (m:=a3) p30 e30) (dz0 (ai x30) (ds0 (.elt (oi 1296 8) a3.toNat 0) (zo (t:=.int) (o:=oi 1296 8) (len:=y26.length) (k:=.i64) (m:=a3) p31 (Ax e31)) (dzS (oi 1296 8) (x29) e31 (ds0 (.elt (oi 1328 10) a4.toNat 0) (zo (t:=.int) (o:=oi 1328 10) (len:=y27.length) (k:=.i64) (m:=a4) p32 (Ax e32)) (dzS (oi 1328 10) (x30) e32 (Nm (Cn (by kernel_rfl)) (tn_ (wr_ (Ab ?_))))))))))))))))))));obtain ⟨y34,h34,h⟩:=Ae h;refine Aa 36 (rsB 5 (Hf (oS 1648 34 y34.length) [(oi 1648 34,some (.mat 35 (oi 1649 34) .int y34)),(oi 1649 34,some (.pool 3 .int y34))] [] [ai a0,tS u0,ai a3,ai a4] (caps:=[]) trivial (Qi h34) P9 trivial (.cons (.ren (by kernel_rfl)) (.cons (.ren (by kernel_rfl)) (.cons (.ren (by kernel_rfl)) (.cons (.ren (by kernel_rfl)) .nil)))) (Bl (by kernel_rfl) (by kernel_rfl) trivial) (rsB 1 (Ar (tn_ (wr_ (Ab ?_)))))));obtain ⟨y36,h36,h⟩:=Ae h;obtain ⟨y37,h37,h⟩:=Ae h;refine Aa 42 (rsB 1 (Bq (oI 1680 37 y36.length) [nI 1680 37 y36] [oI 1296 8 y26.length] _ (caps:=[]) (args0:=[tI (y26.set a3.toNat x29)]) trivial (Ao (Bj (e:=3) (by kernel_rfl) ((rfl:y26.length=y26.length).trans List.length_set.symm)) Ba) (Mp h36) M6 (rsB 1 (Bq (oI 1712 39 y37.length) [nI 1712 39 y37] [oI 1328 10 y27.length] _ (caps:=[]) (args0:=[tI (y27.set a4.toNat x30)]) trivial (Ao (Bj (e:=3) (by kernel_rfl) ((rfl:y27.length=y27.length).trans List.length_set.symm)) Ba) (Mp h37) M6 (rsB 2 (Ar (tn_ (wr_ (An (Ab ?_))))))))));obtain ⟨y40,h40,h⟩:=Ae h;refine Aa 51 (rsB 2 (Bq (oI 1808 49 y40.length) [nI 1808 49 y40] [oI 1712 39 y37.length,oI 1328 10 y27.length] _ (caps:=[]) (args0:=[tI y37,tI (y27.set a4.toNat x30)]) trivial (Ao (Bj (e:=3) (by kernel_rfl) rfl) (Ao (Bj (e:=3) (by kernel_rfl) ((rfl:y27.length=y27.length).trans List.length_set.symm)) Ba)) (K4 h40) K9 (rsB 1 (Ar (tn_ (wr_ (Aw h (fun (u3:LL) S_=>S_=⟨Am [(11,.box (oi 0 1) 0),(18,oI 1 1 y36.length),(20,.box (oi 2 1) 0)],Ah (Aq [(oi 0 1,.cells 39 [ai 0,.nils]),(oi 1 1,.arr 3 .int y36),(oi 2 1,.cells 39 [ai u1,oS 3 1 u3.length]),(oi 3 1,.mat 35 (oi 4 1) .int u3),(oi 4 1,.pool 3 .int u3)]),2⟩) ?_ ?_)))))))
 ·intro v_ h;refine Ab ?_;obtain ⟨y43,h43,h⟩:=Ae h;refine Aa 56 (rsB 2 (Bq (oI 1856 53 y43.length) [nI 1856 53 y43] [oI 1680 37 y36.length,oI 1296 8 y26.length] _ (caps:=[]) (args0:=[tI y36,tI (y26.set a3.toNat x29)]) trivial (Ao (Bj (e:=3) (by kernel_rfl) rfl) (Ao (Bj (e:=3) (by kernel_rfl) ((rfl:y26.length=y26.length).trans List.length_set.symm)) Ba)) (K4 h43) K9 (rsB 2 (Ar (tn_ (wr_ (Aj (A1 h (fun t_ S_=>∃ (u4:Nat),∃ (u2:LL),t_=(u4,u2)∧S_=⟨Am [(11,.box (oi 0 1) 0),(17,oS 1 1 y34.length),(18,oI 3 1 y36.length),(20,.box (oi 4 1) 0),(21,oI 5 1 y40.length),(116,oI 6 1 y43.length),(117,an y43.length),(118,an u4)],Ah (Aq [(oi 0 1,.cells 39 [ai 0,.nils]),(oi 1 1,.mat 35 (oi 2 1) .int y34),(oi 2 1,.pool 3 .int y34),(oi 3 1,.arr 3 .int y36),(oi 4 1,.cells 39 [ai u1,oS 7 1 u2.length]),(oi 5 1,.arr 3 .int y40),(oi 6 1,.arr 3 .int y43),(oi 7 1,.mat 35 (oi 8 1) .int u2),(oi 8 1,.pool 3 .int u2)]),2⟩) ⟨_,(C6 9000 (oi 20 45) 1 39 [ai u1,.nils] [ai u1,oS 9000 56 0] 35 sI (by kernel_rfl) (by kernel_rfl) (by kernel_rfl)).trans ((D5 (e1:=35) (n:=0) 9000 (oi 9000 56) 3 .int (by kernel_rfl) (by kernel_rfl) rfl (by kernel_rfl) (by kernel_rfl)).trans (Ac [(oi 0 1,oi 1 1),(oi 1 1,oi 1648 34),(oi 2 1,oi 1649 34),(oi 3 1,oi 1680 37),(oi 4 1,oi 20 45),(oi 7 1,oi 9000 56),(oi 8 1,oi 9000 57),(oi 5 1,oi 1808 49),(oi 6 1,oi 1856 53)])),⟨0,([]:LL),rfl,rfl⟩⟩ ?_))))))));rintro n_ _ _ c_ ⟨u4,u2,rfl,rfl⟩ h hn44
  (try dsimp only at h);unfold Bu at h;unfold Gt;refine An (Ab ?_);rcases Ad h with ⟨q47,h⟩ | ⟨q47,h⟩
  ·have q47_:=of_decide_eq_true q47;refine Ag q47 (Ak (tn_ (wr_ (Ab (Aj (Ab ?_))))));obtain ⟨x50,e50,h⟩:=Ae h;refine Aa 6 (zO (oi 6 1) .int y43.length (Ax e50) (zE (oi 6 1) e50 (rsB 1 (Ar (tn_ (wr_ ?_))))));obtain ⟨x51,f51,h⟩:=Ae h;obtain ⟨p51,b51,e51⟩:=Bv f51;obtain ⟨y52,h52,h⟩:=Ae h;obtain ⟨g53,h⟩:=As h;refine Bi 18 (dz0 (.box (oi 4 1) 1) (dzl (oS 7 1 u2.length) (dz0 (oS 1 1 y34.length) (dz0 (ai x50) (ds0 (.elt (oi 1 1) x50.toNat 0) (zo (t:=sI) (o:=oi 1 1) (len:=y34.length) (k:=.i64) (m:=x50) p51 (Ax e51)) (dsl (.own (kid (oi 2 1) x50.toNat) .int 0 x51.length) (Hk (o:=oi 1 1) (p:=oi 2 1) (e1:=35) (u:=.int) (xss:=y34) (row:=x51) (j:=x50.toNat) (by kernel_rfl) (by kernel_rfl) e51) (dz0 (oI 5 1 y40.length) (Rv (oI 2064 13 y52.length) [nI 2064 13 y52] [.own (kid (oi 2 1) x50.toNat) .int 0 x51.length,oI 5 1 y40.length] _ (caps:=[]) (args0:=[tI x51,tI y40]) trivial (Ao (Bj (e:=3) (u:=.int) (xs:=x51) ((Na (Aei (t:=.int) (off:=0) (len:=x51.length) 0 rfl (by kernel_rfl))).trans (B4 (by kernel_rfl) e51)) rfl) (Ao (Bj (e:=3) ((Na (Aei (t:=.int) (off:=0) (len:=y40.length) 1 rfl (by kernel_rfl))).trans (by kernel_rfl)) rfl) Ba)) (Tn h52) Vw (Al9 (oS 130 14 1) (oi 130 14) (.vec 35 1 1 ([oI 2064 13 y52.length])) trivial (X3 (by kernel_rfl)) (dzV (oi 7 1) (oi 130 14) (oi 8 1) u2 [oI 2064 13 y52.length] g53 (dz0 (.box (oi 4 1) 1) (Aa9 (oi 4 1) (oi 4 1) (.cells 39 [ai u1,oS 7 15 (u2.length+1)]) (by kernel_rfl) (Nm (Cn (by kernel_rfl)) (bn_ (tn_ ⟨_,Ir (e1:=35) (e:=3) (u:=.int) (n:=u2.length+1) (len:=y52.length) (row:=y52) (ys:=y52) (xss:=u2) 9000 (oi 7 15) (oi 8 1) (oi 2064 13) (by kernel_rfl) (by kernel_rfl) rfl (by kernel_rfl) (by kernel_rfl) (Uf rfl) (T7 rfl) (by kernel_rfl) (by kernel_rfl) (by kernel_rfl),?_⟩)))))))))))))));obtain ⟨g54,h⟩:=As h;refine Aa 21 (zA g54 (rsB 1 (Ar (tn_ ?_))));obtain rfl:=zj h;exact ⟨(u4+1,u2++[y52]),_,(Ms (oi 4 1) (.cells 39 [ai u1,oS 7 15 (u2.length+1)]) (.cells 39 [ai u1,oS 7 15 ((u2++[y52]).length)]) (by kernel_rfl) (congrArg (fun z_=>(.cells 39 [ai u1,oS 7 15 z_]:Ob)) ((by simp):u2.length+1=(u2++[y52]).length))).trans (Ac [(oi 7 1,oi 7 15),(oi 8 1,oi 9000 18)]),⟨u4+1,u2++[y52],rfl,rfl⟩,hn44⟩
  have q47_:=of_decide_eq_false q47;refine Af q47 (Az (te_ (te_ (be_ (tn_ ?_)))));obtain rfl:=zj h;have h:=hn44
  (try dsimp only at h);obtain rfl:=zj h;exact ⟨_,Ac [(oi 1 1,oi 3 1),(oi 2 1,oi 4 1),(oi 3 1,oi 7 1),(oi 4 1,oi 8 1)],rfl⟩
 rintro u3 _ rfl h
 (try dsimp only at h);refine Ab (Bi 7 (dsB 5 (Nm (Cn (by kernel_rfl)) (tn_ (wr_ (Al ?_))))));obtain rfl:=zj h;exact H7 [oI 0 1 y36.length,.agg [ai u1,oS 2 1 u3.length],.bool true] (Ac (tl:=[(10,oI 0 1 y36.length),(11,.box (oi 1 1) 0),(12,.bool true)]) (g:=2) [(oi 0 1,oi 1 1),(oi 1 1,oi 0 1),(oi 2 1,oi 3 1),(oi 3 1,oi 4 1)])
def E8:AC :=
 (.seq (rg [xo 7 (.i (.box 37 (tm 2))),xo 10 (qm (cb false))])
 (.seq (.seq (rg [xm 26 1,xn1 27 26,xo 28 (qb .gtr (tm 27) (ci 1048576))])
 (.cond (tm 28)
  (.seq (rg [xo 10 (qm (cb true))])
  .ret)
  .skip))
 (.seq (rg [xo 11 (qm (ci 1048576))])
 (.seq (rg [xo 29 (.i (.ld false 2 (tm 7))),xm 30 11,xo 31 (qc 14 [tm 29,tm 30] [[none,some sI],[]]),xm 11 31])
 (.seq (.seq (rg [xm 32 11,xo 33 (qb .lss (tm 32) (ci 0))])
 (.cond (tm 33)
  (.seq (rg [xo 10 (qm (cb true))])
  .ret)
  .skip))
 (.seq (.region [xm 35 0,xm 36 1,xo 37 (qc 16 [tm 36] [[some .int]]),xo 38 (.i (.ld false 2 (tm 7))),xo 39 (qc 17 [tm 38] [[none,some sI]]),xm 40 3,xm 41 4,xo 42 (qc 15 [tm 35,tm 37,tm 39,tm 40,tm 41] [[],[some .int],[none,some sI],[],[]]),xm 34 42,xo 43 (.i (.extr 0 (tm 34))),xo 44 (.i (.extr 1 (tm 34))),xo 45 (.i (.extr 2 (tm 34))),xo 13 (.i (.alloc 39 [.int .i64 0,.nils])),xm 12 43,xn (.st false 2 (tm 13) (tm 44)),xm 14 45] true [(2,3),(2,12),(4,12),(7,12)])
 (.seq (rg [xm 46 1,xo 47 (qc 16 [tm 46] [[some .int]]),xm 15 47])
 (.seq (rg [xo 48 (.i (.ld false 2 (tm 7))),xo 49 (qc 17 [tm 48] [[none,some sI]]),xo 16 (.i (.alloc 39 [.int .i64 0,.nils])),xn (.st false 2 (tm 16) (tm 49))])
 (.seq (rg [xm 51 0,xm 52 15,xo 53 (.i (.ld false 2 (tm 16))),xm 54 3,xm 55 4,xo 56 (qc 18 [tm 51,tm 52,tm 53,tm 54,tm 55] [[],[some .int],[none,some sI],[],[]]),xm 50 56,xo 57 (.i (.extr 0 (tm 50))),xo 58 (.i (.extr 1 (tm 50))),xo 59 (.i (.extr 2 (tm 50))),xo 18 (.i (.alloc 39 [.int .i64 0,.nils])),xm 17 57,xn (.st false 2 (tm 18) (tm 58)),xm 19 59])
 (.seq (.seq (rg [xm 60 17,xm 61 12,xo 62 (qc 19 [tm 60,tm 61] [[some .int],[some .int]]),xo 63 (.i (.not (tm 62))),xm 64 63,⟨some 65,some (64,false),.i (.ld false 2 (tm 18))⟩,⟨some 66,some (64,false),.i (.ld false 2 (tm 13))⟩,⟨some 67,some (64,false),qc 20 [tm 65,tm 66] [[none,some sI],[none,some sI]]⟩,⟨some 68,some (64,false),.i (.not (tm 67))⟩,xo 69 (.i (.pick (tm 64) (cb true) (tm 68))),xm 70 69,⟨some 71,some (70,false),qm (tm 19)⟩,⟨some 72,some (70,false),qm (tm 14)⟩,⟨some 73,some (70,false),.i (.cmp true 0 (tm 71) (tm 72))⟩,xo 74 (.i (.pick (tm 70) (cb true) (tm 73)))])
 (.cond (tm 74)
  (.seq (rg [xo 10 (qm (cb false))])
  .ret)
  .skip))
 (.seq (.seq (rg [xm 75 15,xm 76 1,xo 77 (qc 16 [tm 76] [[some .int]]),xo 78 (qc 19 [tm 75,tm 77] [[some .int],[some .int]]),xo 79 (.i (.not (tm 78)))])
 (.cond (tm 79)
  (.seq (rg [xo 10 (qm (cb false))])
  .ret)
  .skip))
 (.seq (.seq (.region [xo 80 (.i (.ld false 2 (tm 16))),xo 81 (.i (.ld false 2 (tm 7))),xo 82 (qc 17 [tm 81] [[none,some sI]]),xo 83 (qc 20 [tm 80,tm 82] [[none,some sI],[none,some sI]]),xo 84 (.i (.not (tm 83)))] true [(0,2)])
 (.cond (tm 84)
  (.seq (rg [xo 10 (qm (cb false))])
  .ret)
  .skip))
 (.seq (rg [xo 20 (qm (ci 1))])
 (.seq (rg [xm 85 15,xm 86 20,xo 87 (qc 21 [tm 85,tm 86] [[some .int],[]]),xm 20 87])
 (.seq (rg [xo 88 (.i (.ld false 2 (tm 16))),xm 89 20,xo 90 (qc 22 [tm 88,tm 89] [[none,some sI],[]]),xm 20 90])
 (.seq (.seq (rg [xm 91 20,xo 92 (qb .lss (tm 91) (ci 0)),xm 93 92,⟨some 94,some (93,false),qm (tm 17)⟩,⟨some 95,some (93,false),qm (tm 12)⟩,⟨some 96,some (93,false),qc 19 [tm 94,tm 95] [[some .int],[some .int]]⟩,⟨some 97,some (93,false),.i (.not (tm 96))⟩,xo 98 (.i (.pick (tm 93) (cb true) (tm 97))),xm 99 98,⟨some 100,some (99,false),.i (.ld false 2 (tm 18))⟩,⟨some 101,some (99,false),.i (.ld false 2 (tm 13))⟩,⟨some 102,some (99,false),qc 20 [tm 100,tm 101] [[none,some sI],[none,some sI]]⟩,⟨some 103,some (99,false),.i (.not (tm 102))⟩,xo 104 (.i (.pick (tm 99) (cb true) (tm 103))),xm 105 104,⟨some 106,some (105,false),qm (tm 19)⟩,⟨some 107,some (105,false),qm (tm 14)⟩,⟨some 108,some (105,false),.i (.cmp true 0 (tm 106) (tm 107))⟩,xo 109 (.i (.pick (tm 105) (cb true) (tm 108)))])
 (.cond (tm 109)
  (.seq (rg [xo 10 (qm (cb false))])
  .ret)
  .skip))
 (.seq (rg [xo 21 (qm (ci 1))])
 (.seq (rg [xm 110 17,xm 111 21,xo 112 (qc 21 [tm 110,tm 111] [[some .int],[]]),xm 21 112])
 (.seq (rg [xo 113 (.i (.ld false 2 (tm 18))),xm 114 21,xo 115 (qc 22 [tm 113,tm 114] [[none,some sI],[]]),xm 21 115])
 (.seq (rg [xo 22 (qm (ci 1))])
 (.seq (rg [xm 116 17,xm 117 22,xo 118 (qc 23 [tm 116,tm 117] [[some .int],[]]),xm 22 118])
 (.seq (.seq (rg [xm 119 22,xo 120 (qb .lss (tm 119) (ci 0))])
 (.cond (tm 120)
  (.seq (rg [xo 10 (qm (cb false))])
  .ret)
  .skip))
 (.seq (rg [xo 121 (.i (.ld false 2 (tm 18))),xm 122 22,xo 123 (qc 24 [tm 121,tm 122] [[none,some sI],[]]),xm 22 123])
 (.seq (.seq (rg [xm 124 22,xo 125 (qb .lss (tm 124) (ci 0))])
 (.cond (tm 125)
  (.seq (rg [xo 10 (qm (cb false))])
  .ret)
  .skip))
 (.seq (.seq (rg [xm 126 22,xm 127 21,xo 128 (qb .neq (tm 126) (tm 127))])
 (.cond (tm 128)
  (.seq (rg [xo 10 (qm (cb false))])
  .ret)
  .skip))
 (.seq (.region [xm 130 0,xm 131 1,xo 132 (qc 16 [tm 131] [[some .int]]),xo 133 (.i (.ld false 2 (tm 7))),xo 134 (qc 17 [tm 133] [[none,some sI]]),xm 135 3,xm 136 4,xo 137 (qc 18 [tm 130,tm 132,tm 134,tm 135,tm 136] [[],[some .int],[none,some sI],[],[]]),xm 129 137,xo 138 (.i (.extr 0 (tm 129))),xo 139 (.i (.extr 1 (tm 129))),xo 140 (.i (.extr 2 (tm 129))),xo 24 (.i (.alloc 39 [.int .i64 0,.nils])),xm 23 138,xn (.st false 2 (tm 24) (tm 139)),xm 25 140] true [(2,3),(2,12),(4,12),(7,12)])
 (.seq (.seq (rg [xm 141 23,xm 142 12,xo 143 (qc 19 [tm 141,tm 142] [[some .int],[some .int]]),xo 144 (.i (.not (tm 143))),xm 145 144,⟨some 146,some (145,false),.i (.ld false 2 (tm 24))⟩,⟨some 147,some (145,false),.i (.ld false 2 (tm 13))⟩,⟨some 148,some (145,false),qc 20 [tm 146,tm 147] [[none,some sI],[none,some sI]]⟩,⟨some 149,some (145,false),.i (.not (tm 148))⟩,xo 150 (.i (.pick (tm 145) (cb true) (tm 149))),xm 151 150,⟨some 152,some (151,false),qm (tm 25)⟩,⟨some 153,some (151,false),qm (tm 14)⟩,⟨some 154,some (151,false),.i (.cmp true 0 (tm 152) (tm 153))⟩,xo 155 (.i (.pick (tm 151) (cb true) (tm 154)))])
 (.cond (tm 155)
  (.seq (rg [xo 10 (qm (cb false))])
  .ret)
  .skip))
 (.seq (rg [xo 22 (qm (ci 1))])
 (.seq (rg [xm 156 17,xm 157 22,xo 158 (qc 23 [tm 156,tm 157] [[some .int],[]]),xm 22 158])
 (.seq (.seq (rg [xm 159 22,xo 160 (qb .lss (tm 159) (ci 0))])
 (.cond (tm 160)
  (.seq (rg [xo 10 (qm (cb false))])
  .ret)
  .skip))
 (.seq (rg [xo 161 (.i (.ld false 2 (tm 18))),xm 162 22,xo 163 (qc 24 [tm 161,tm 162] [[none,some sI],[]]),xm 22 163])
 (.seq (.seq (rg [xm 164 22,xo 165 (qb .lss (tm 164) (ci 0))])
 (.cond (tm 165)
  (.seq (rg [xo 10 (qm (cb false))])
  .ret)
  .skip))
 (.seq (.seq (rg [xm 166 22,xm 167 21,xo 168 (qb .neq (tm 166) (tm 167))])
 (.cond (tm 168)
  (.seq (rg [xo 10 (qm (cb false))])
  .ret)
  .skip))
 (.seq (rg [xo 10 (qm (cb true))])
 .ret))))))))))))))))))))))))))))))))))
def Ii:List Res:=[.tmp 10]
theorem Ie:At Tryd.prog Tryd.f4=some (E8,Ii):=by kernel_rfl
def Bp (a0:Int) (a1:List Int) (u0:Int) (u1:LL) (a3 a4:Int):Option Bool :=
 cond (decide (1048576<(a1.length:Int)))
 (some true)
 ((Ez u0 u1 1048576).bind fun y8 =>
 cond (decide (y8<0))
  (some true)
  ((Cy a1).bind fun y14 =>
  (Ck u0 u1).bind fun y15 =>
  (Cz a0 y14 u0 y15 a3 a4).bind fun y16 =>
  (Cy a1).bind fun y18 =>
  (Ck u0 u1).bind fun y20 =>
  (Ce a0 y18 u0 y20 a3 a4).bind fun y22 =>
  ((Cv y22.2.1 y16.2.1).bind fun y25 =>
   cond (!y25)
    (some true)
    ((Cj y22.2.2.1 y22.2.2.2 (y16.2.2.1:Int) y16.2.2.2).bind fun y27 =>
    cond (!y27)
     (some true)
     (some (y22.1 !=y16.1)))).bind fun u2 =>
  cond u2
   (some false)
   ((Cy a1).bind fun y33 =>
   (Cv y18 y33).bind fun y34 =>
   cond (!y34)
    (some false)
    ((Ck u0 u1).bind fun y39 =>
    (Cj u0 y20 u0 y39).bind fun y40 =>
    cond (!y40)
     (some false)
     ((B7 y18 1).bind fun y45 =>
     og (y45.1.length=y18.length) <|
     (C5 u0 y20 y45.2).bind fun y48 =>
     og (y48.1.length=y20.length) <|
     (cond (decide (y48.2<0))
       (some true)
       ((Cv y22.2.1 y16.2.1).bind fun y53 =>
       cond (!y53)
        (some true)
        ((Cj y22.2.2.1 y22.2.2.2 (y16.2.2.1:Int) y16.2.2.2).bind fun y55 =>
        cond (!y55)
         (some true)
         (some (y22.1 !=y16.1))))).bind fun u3 =>
     cond u3
      (some false)
      ((B7 y22.2.1 1).bind fun y61 =>
      og (y61.1.length=y22.2.1.length) <|
      (C5 y22.2.2.1 y22.2.2.2 y61.2).bind fun y64 =>
      og (y64.1.length=y22.2.2.2.length) <|
      (B6 y61.1 1).bind fun y68 =>
      cond (decide (y68<0))
       (some false)
       ((C2 y22.2.2.1 y64.1 y68).bind fun y74 =>
       cond (decide (y74<0))
        (some false)
        (cond (y74 !=y64.2)
         (some false)
         ((Cy a1).bind fun y84 =>
         (Ck u0 u1).bind fun y85 =>
         (Ce a0 y84 u0 y85 a3 a4).bind fun y86 =>
         ((Cv y86.2.1 y16.2.1).bind fun y89 =>
          cond (!y89)
           (some true)
           ((Cj y86.2.2.1 y86.2.2.2 (y16.2.2.1:Int) y16.2.2.2).bind fun y91 =>
           cond (!y91)
            (some true)
            (some (y86.1 !=y16.1)))).bind fun u4 =>
         cond u4
          (some false)
          ((B6 y61.1 1).bind fun y97 =>
          cond (decide (y97<0))
           (some false)
           ((C2 y22.2.2.1 y64.1 y97).bind fun y103 =>
           cond (decide (y103<0))
            (some false)
            (cond (y103 !=y64.2)
             (some false)
             (some true)))))))))))))
def H3 (r:Bool):RV:=⟨false,[(false,[.sc (.bool r)])]⟩
set_option maxHeartbeats 4800000 in
theorem H5 {a0:Int} {a1:List Int} {u0:Int} {u1:LL} {a3 a4:Int} {r:Bool} (h:Bp a0 a1 u0 u1 a3 a4=some r):A7 Tryd.prog Tab 4 [ai a0,tI a1,.agg [ai u0,tS u1],ai a3,ai a4] (H3 r):=by
 refine A3 (by kernel_rfl) Tryd.func4 Ie (n:=169) (by kernel_rfl) (by simp) rfl ?_;unfold E8;unfold Bp at h;refine An (Ab (An ?_));rcases Ad h with ⟨q4,h⟩ | ⟨q4,h⟩
 ·have q4_:=of_decide_eq_true q4;refine Ag q4 (An (Al (tr_ ?_)));obtain rfl:=zj h;exact Bh [.bool true] (A5 rfl zl A4)
 have q4_:=of_decide_eq_false q4;refine Af q4 (Ak (tn_ (wr_ (An (Ab ?_)))));obtain ⟨y8,h8,h⟩:=Ae h;refine Aa 11 (rsB 2 (zc (ai y8) [] [.agg [ai u0,tS u1],ai 1048576] (Qm h8) (rsB 1 (Ar (tn_ (wr_ (Ab (An ?_))))))));rcases Ad h with ⟨q11,h⟩ | ⟨q11,h⟩
 ·have q11_:=of_decide_eq_true q11;refine Ag q11 (An (Al (tr_ ?_)));obtain rfl:=zj h;exact Bh [.bool true] (A5 rfl zl A4)
 have q11_:=of_decide_eq_false q11;refine Af q11 (Ak (tn_ (wr_ (Ab ?_))));obtain ⟨y14,h14,h⟩:=Ae h;obtain ⟨y15,h15,h⟩:=Ae h;obtain ⟨y16,h16,h⟩:=Ae h;refine Bi 29 (dz0 (ai a0) (dz0 (tI a1) (dzc (oI 592 15 y14.length) [nI 592 15 y14] [tI a1] (Fg h14) (dzl (.agg [ai u0,tS u1]) (Vu (.agg [ai u0,oS 625 17 y15.length]) [(oi 624 17,some (.cells 39 [ai u0,oS 625 17 y15.length])),(oi 625 17,some (.mat 35 (oi 626 17) .int y15)),(oi 626 17,some (.pool 3 .int y15))] [] [.agg [ai u0,tS u1]] (caps:=[]) trivial (Fp h15) Fo trivial (.cons (.ren (by kernel_rfl)) .nil) (Bl (by kernel_rfl) (by kernel_rfl) trivial) (Vv (by kernel_rfl)) (dz0 (ai a3) (dz0 (ai a4) (Vu (.tup [oI 672 20 y16.2.1.length,.agg [an y16.2.2.1,oS 674 20 y16.2.2.2.length],.bool y16.1]) [nI 672 20 y16.2.1,(oi 673 20,some (.cells 39 [an y16.2.2.1,oS 674 20 y16.2.2.2.length])),(oi 674 20,some (.mat 35 (oi 675 20) .int y16.2.2.2)),(oi 675 20,some (.pool 3 .int y16.2.2.2))] [] [ai a0,oI 592 15 y14.length,.agg [ai u0,oS 625 17 y15.length],ai a3,ai a4] (caps:=[]) trivial (L7 h16) L8 trivial (.cons (.ren (by kernel_rfl)) (.cons (.gnd (by kernel_rfl) (Bj (e:=3) ((G3 (by kernel_rfl) (by kernel_rfl) (by kernel_rfl)).trans (by kernel_rfl)) rfl)) (.cons (.agg (.cons (.ren (by kernel_rfl)) (.cons (.gnd (by kernel_rfl) (D4 (p:=oi 626 17) (e1:=35) (e:=3) (u:=.int) (xss:=y15) ((G3 (by kernel_rfl) (by kernel_rfl) (by kernel_rfl)).trans (by kernel_rfl)) (Kx (by kernel_rfl) (by kernel_rfl) (Lf [ai u0,oS 625 17 y15.length] (t:=sI) (off:=0) (len:=y15.length) (i:=oi 625 17) (e1:=35) (z:=1) (m:=y15.length) 2 1 rfl (by kernel_rfl) rfl (by kernel_rfl) (Bn (by kernel_rfl))) (by kernel_rfl)) rfl)) .nil))) (.cons (.ren (by kernel_rfl)) (.cons (.ren (by kernel_rfl)) .nil))))) (Bl (by kernel_rfl) (by kernel_rfl) trivial) (Vv (by kernel_rfl)) (dz0 (.tup [oI 672 20 y16.2.1.length,.agg [an y16.2.2.1,oS 674 20 y16.2.2.2.length],.bool y16.1]) (dz0 (oI 672 20 y16.2.1.length) (dz0 (.agg [an y16.2.2.1,oS 674 20 y16.2.2.2.length]) (dz0 (.bool y16.1) (ds1 (.box (oi 13 25) 0) (oi 13 25) (.cells 39 [ai 0,.nils]) (by kernel_rfl) (dz0 (oI 672 20 y16.2.1.length) (Aa9 (oi 13 25) (oi 13 25) (.cells 39 [an y16.2.2.1,oS 674 20 y16.2.2.2.length]) (by kernel_rfl) (dz0 (.bool y16.1) (Nm ⟨Afy (by kernel_rfl),⟨Afy (by kernel_rfl),⟨Y2 (by kernel_rfl),⟨Y2 (by kernel_rfl),trivial⟩⟩⟩⟩ (tn_ ?_))))))))))))))))));refine wr_ (Ab ?_);obtain ⟨y18,h18,h⟩:=Ae h;refine Aa 32 (rsB 1 (zc (oI 752 30 y18.length) [nI 752 30 y18] [tI a1] (Fg h18) (rsB 1 (Ar (tn_ (wr_ (Ab ?_)))))));obtain ⟨y20,h20,h⟩:=Ae h;refine Aa 36 (rsB 1 (Hf (.agg [ai u0,oS 785 33 y20.length]) [(oi 784 33,some (.cells 39 [ai u0,oS 785 33 y20.length])),(oi 785 33,some (.mat 35 (oi 786 33) .int y20)),(oi 786 33,some (.pool 3 .int y20))] [] [.agg [ai u0,tS u1]] (caps:=[]) trivial (Fp h20) Fo trivial (.cons (.ren (by kernel_rfl)) .nil) (Bl (by kernel_rfl) (by kernel_rfl) trivial) (rsB 2 (Ar (tn_ (wr_ (Ab ?_)))))));obtain ⟨y22,h22,h⟩:=Ae h;refine Aa 50 (rsB 5 (Hf (.tup [oI 896 41 y22.2.1.length,.agg [ai y22.2.2.1,oS 898 41 y22.2.2.2.length],.bool y22.1]) [nI 896 41 y22.2.1,(oi 897 41,some (.cells 39 [ai y22.2.2.1,oS 898 41 y22.2.2.2.length])),(oi 898 41,some (.mat 35 (oi 899 41) .int y22.2.2.2)),(oi 899 41,some (.pool 3 .int y22.2.2.2))] [] [ai a0,oI 752 30 y18.length,.agg [ai u0,oS 785 33 y20.length],ai a3,ai a4] (caps:=[]) trivial (Ha h22) G9 trivial (.cons (.ren (by kernel_rfl)) (.cons (.gnd (by kernel_rfl) (Bj (e:=3) ((G3 (by kernel_rfl) (by kernel_rfl) (by kernel_rfl)).trans (by kernel_rfl)) rfl)) (.cons (.agg (.cons (.ren (by kernel_rfl)) (.cons (.gnd (by kernel_rfl) (D4 (p:=oi 786 33) (e1:=35) (e:=3) (u:=.int) (xss:=y20) ((G3 (by kernel_rfl) (by kernel_rfl) (by kernel_rfl)).trans (by kernel_rfl)) (Kx (by kernel_rfl) (by kernel_rfl) (Bn (by kernel_rfl)) (by kernel_rfl)) rfl)) .nil))) (.cons (.ren (by kernel_rfl)) (.cons (.ren (by kernel_rfl)) .nil))))) (Bl (by kernel_rfl) (by kernel_rfl) trivial) (rsB 8 (Ar (tn_ (wr_ (Ab (Aw h (fun (u2:Bool) S_=>S_=⟨Am [(0,ai a0),(1,tI a1),(3,ai a3),(4,ai a4),(7,.box (oi 0 1) 0),(12,oI 1 1 y16.2.1.length),(13,.box (oi 2 1) 0),(14,.bool y16.1),(15,oI 3 1 y18.length),(16,.box (oi 4 1) 0),(17,oI 5 1 y22.2.1.length),(18,.box (oi 6 1) 0),(19,.bool y22.1),(74,.bool u2)],Ah (Aq [(oi 0 1,.cells 37 [ai u0,tS u1]),(oi 1 1,.arr 3 .int y16.2.1),(oi 2 1,.cells 39 [an y16.2.2.1,oS 7 1 y16.2.2.2.length]),(oi 3 1,.arr 3 .int y18),(oi 4 1,.cells 39 [ai u0,oS 9 1 y20.length]),(oi 5 1,.arr 3 .int y22.2.1),(oi 6 1,.cells 39 [ai y22.2.2.1,oS 11 1 y22.2.2.2.length]),(oi 7 1,.mat 35 (oi 8 1) .int y16.2.2.2),(oi 8 1,.pool 3 .int y16.2.2.2),(oi 9 1,.mat 35 (oi 10 1) .int y20),(oi 10 1,.pool 3 .int y20),(oi 11 1,.mat 35 (oi 12 1) .int y22.2.2.2),(oi 12 1,.pool 3 .int y22.2.2.2)]),2⟩) ?_ ?_))))))))
 ·intro v_ h;obtain ⟨y25,h25,h⟩:=Ae h;rcases Ad h with ⟨q26,h⟩ | ⟨q26,h⟩
  ·refine Aa 65 (rsB 2 (Bq (.bool y25) [] [oI 896 41 y22.2.1.length,oI 672 20 y16.2.1.length] _ (caps:=[]) (args0:=[tI y22.2.1,tI y16.2.1]) trivial (Ao (Bj (e:=3) (by kernel_rfl) rfl) (Ao (Bj (e:=3) (by kernel_rfl) rfl) Ba)) (B0 h25) B3 (rsB 2 (zs q26 (zs q26 (zs q26 (zs q26 (rs0 (.bool true) (zT q26) (rsB 5 (Ar (tn_ ?_)))))))))));obtain rfl:=zj h;exact ⟨_,Ac [(oi 0 1,oi 7 1),(oi 1 1,oi 672 20),(oi 2 1,oi 13 25),(oi 7 1,oi 674 20),(oi 8 1,oi 675 20),(oi 3 1,oi 752 30),(oi 4 1,oi 16 34),(oi 9 1,oi 785 33),(oi 10 1,oi 786 33),(oi 5 1,oi 896 41),(oi 6 1,oi 18 46),(oi 11 1,oi 898 41),(oi 12 1,oi 899 41)],rfl⟩
  obtain ⟨y27,h27,h⟩:=Ae h;rcases Ad h with ⟨q28,h⟩ | ⟨q28,h⟩
  ·refine Aa 65 (rsB 2 (Bq (.bool y25) [] [oI 896 41 y22.2.1.length,oI 672 20 y16.2.1.length] _ (caps:=[]) (args0:=[tI y22.2.1,tI y16.2.1]) trivial (Ao (Bj (e:=3) (by kernel_rfl) rfl) (Ao (Bj (e:=3) (by kernel_rfl) rfl) Ba)) (B0 h25) B3 (rsB 2 (rsl (.agg [ai y22.2.2.1,oS 898 41 y22.2.2.2.length]) (zg q26) (rsl (.agg [an y16.2.2.1,oS 674 20 y16.2.2.2.length]) (zg q26) (Bq (.bool y27) [] [.agg [ai y22.2.2.1,oS 898 41 y22.2.2.2.length],.agg [an y16.2.2.1,oS 674 20 y16.2.2.2.length]] _ (caps:=[]) (args0:=[.agg [ai y22.2.2.1,tS y22.2.2.2],.agg [an y16.2.2.1,tS y16.2.2.2]]) (Cf (by kernel_rfl) q26) (Ao (F1 (Ao (by kernel_rfl) (Ao (D4 (p:=oi 899 41) (e1:=35) (e:=3) (u:=.int) (xss:=y22.2.2.2) (by kernel_rfl) (Bn (by kernel_rfl)) rfl) Ba))) (Ao (F1 (Ao (by kernel_rfl) (Ao (D4 (p:=oi 675 20) (e1:=35) (e:=3) (u:=.int) (xss:=y16.2.2.2) (by kernel_rfl) (Bn (by kernel_rfl)) rfl) Ba))) Ba)) (Co h27) Cp (rs0 (.bool (!y27)) (zg q26) (rs0 (.bool (!y27)) (zF q26) (rsB 1 (zs q28 (zs q28 (zs q28 (rs0 (.bool true) (zT q28) (Ar (tn_ ?_)))))))))))))));obtain rfl:=zj h;exact ⟨_,Ac [(oi 0 1,oi 7 1),(oi 1 1,oi 672 20),(oi 2 1,oi 13 25),(oi 7 1,oi 674 20),(oi 8 1,oi 675 20),(oi 3 1,oi 752 30),(oi 4 1,oi 16 34),(oi 9 1,oi 785 33),(oi 10 1,oi 786 33),(oi 5 1,oi 896 41),(oi 6 1,oi 18 46),(oi 11 1,oi 898 41),(oi 12 1,oi 899 41)],rfl⟩
  refine Aa 65 (rsB 2 (Bq (.bool y25) [] [oI 896 41 y22.2.1.length,oI 672 20 y16.2.1.length] _ (caps:=[]) (args0:=[tI y22.2.1,tI y16.2.1]) trivial (Ao (Bj (e:=3) (by kernel_rfl) rfl) (Ao (Bj (e:=3) (by kernel_rfl) rfl) Ba)) (B0 h25) B3 (rsB 2 (rsl (.agg [ai y22.2.2.1,oS 898 41 y22.2.2.2.length]) (zg q26) (rsl (.agg [an y16.2.2.1,oS 674 20 y16.2.2.2.length]) (zg q26) (Bq (.bool y27) [] [.agg [ai y22.2.2.1,oS 898 41 y22.2.2.2.length],.agg [an y16.2.2.1,oS 674 20 y16.2.2.2.length]] _ (caps:=[]) (args0:=[.agg [ai y22.2.2.1,tS y22.2.2.2],.agg [an y16.2.2.1,tS y16.2.2.2]]) (Cf (by kernel_rfl) q26) (Ao (F1 (Ao (by kernel_rfl) (Ao (D4 (p:=oi 899 41) (e1:=35) (e:=3) (u:=.int) (xss:=y22.2.2.2) (by kernel_rfl) (Bn (by kernel_rfl)) rfl) Ba))) (Ao (F1 (Ao (by kernel_rfl) (Ao (D4 (p:=oi 675 20) (e1:=35) (e:=3) (u:=.int) (xss:=y16.2.2.2) (by kernel_rfl) (Bn (by kernel_rfl)) rfl) Ba))) Ba)) (Co h27) Cp (rs0 (.bool (!y27)) (zg q26) (rs0 (.bool (!y27)) (zF q26) (rsB 1 (rs0 (.bool y22.1) (zg q28) (rs0 (.bool y16.1) (zg q28) (rs0 (.bool (y22.1 !=y16.1)) (zg q28) (rs0 (.bool (y22.1 !=y16.1)) (zF q28) (Ar (tn_ ?_)))))))))))))));obtain rfl:=zj h;exact ⟨_,Ac [(oi 0 1,oi 7 1),(oi 1 1,oi 672 20),(oi 2 1,oi 13 25),(oi 7 1,oi 674 20),(oi 8 1,oi 675 20),(oi 3 1,oi 752 30),(oi 4 1,oi 16 34),(oi 9 1,oi 785 33),(oi 10 1,oi 786 33),(oi 5 1,oi 896 41),(oi 6 1,oi 18 46),(oi 11 1,oi 898 41),(oi 12 1,oi 899 41)],rfl⟩
 rintro u2 _ rfl h
 (try dsimp only at h);rcases Ad h with ⟨q29,h⟩ | ⟨q29,h⟩
 ·refine Ag q29 (An (Al (tr_ ?_)));obtain rfl:=zj h;exact Bh [.bool false] (A5 rfl zl A4)
 refine Af q29 (Ak (tn_ (wr_ (Ab (Ab ?_)))));obtain ⟨y33,h33,h⟩:=Ae h;obtain ⟨y34,h34,h⟩:=Ae h;refine Aa 7 (rsB 2 (zc (oI 1232 4 y33.length) [nI 1232 4 y33] [tI a1] (Fg h33) (Bq (.bool y34) [] [oI 3 1 y18.length,oI 1232 4 y33.length] _ (caps:=[]) (args0:=[tI y18,tI y33]) trivial (Ao (Bj (e:=3) (by kernel_rfl) rfl) (Ao (Bj (e:=3) (by kernel_rfl) rfl) Ba)) (B0 h34) B3 (rsB 1 (Ar (tn_ (wr_ ?_)))))));rcases Ad h with ⟨q35,h⟩ | ⟨q35,h⟩
 ·refine Ag q35 (An (Al (tr_ ?_)));obtain rfl:=zj h;exact Bh [.bool false] (A5 rfl zl A4)
 refine Af q35 (Ak (tn_ (wr_ (Ab (Ab ?_)))));obtain ⟨y39,h39,h⟩:=Ae h;obtain ⟨y40,h40,h⟩:=Ae h;refine Bi 12 (dzl (.agg [ai u0,oS 9 1 y20.length]) (dzl (.agg [ai u0,tS u1]) (Vu (.agg [ai u0,oS 1313 9 y39.length]) [(oi 1312 9,some (.cells 39 [ai u0,oS 1313 9 y39.length])),(oi 1313 9,some (.mat 35 (oi 1314 9) .int y39)),(oi 1314 9,some (.pool 3 .int y39))] [] [.agg [ai u0,tS u1]] (caps:=[]) trivial (Fp h39) Fo trivial (.cons (.ren (by kernel_rfl)) .nil) (Bl (by kernel_rfl) (by kernel_rfl) trivial) (Vv (by kernel_rfl)) (Rv (.bool y40) [] [.agg [ai u0,oS 9 1 y20.length],.agg [ai u0,oS 1313 9 y39.length]] _ (caps:=[]) (args0:=[.agg [ai u0,tS y20],.agg [ai u0,tS y39]]) trivial (Ao (F1 (Ao (by kernel_rfl) (Ao (D4 (p:=oi 10 1) (e1:=35) (e:=3) (u:=.int) (xss:=y20) ((Na (Aet [ai u0,oS 9 1 y20.length] (t:=sI) (off:=0) (len:=y20.length) 0 1 rfl (by kernel_rfl) rfl)).trans (by kernel_rfl)) (Lf [ai u0,oS 9 1 y20.length] (t:=sI) (off:=0) (len:=y20.length) (i:=oi 9 1) (e1:=35) (z:=1) (m:=y20.length) 0 1 rfl (by kernel_rfl) rfl (by kernel_rfl) (Bn (by kernel_rfl))) rfl) Ba))) (Ao (F1 (Ao (by kernel_rfl) (Ao (D4 (p:=oi 1314 9) (e1:=35) (e:=3) (u:=.int) (xss:=y39) ((Na (Aet [ai u0,oS 1313 9 y39.length] (t:=sI) (off:=0) (len:=y39.length) 1 1 rfl (by kernel_rfl) rfl)).trans (by kernel_rfl)) (Lf [ai u0,oS 1313 9 y39.length] (t:=sI) (off:=0) (len:=y39.length) (i:=oi 1313 9) (e1:=35) (z:=1) (m:=y39.length) 1 1 rfl (by kernel_rfl) rfl (by kernel_rfl) (Bn (by kernel_rfl))) rfl) Ba))) Ba)) (Co h40) Cp (dz0 (.bool (!y40)) (Nm ⟨Al2 (by kernel_rfl),trivial⟩ (tn_ (wr_ ?_))))))));rcases Ad h with ⟨q41,h⟩ | ⟨q41,h⟩
 ·refine Ag q41 (An (Al (tr_ ?_)));obtain rfl:=zj h;exact Bh [.bool false] (A5 rfl zl A4)
 refine Af q41 (Ak (tn_ (wr_ (An (Ab ?_)))));obtain ⟨y45,h45,h⟩:=Ae h;obtain ⟨g46,h⟩:=As h;refine Aa 17 (rsB 2 (Hf (ai y45.2) [nI 3 1 y45.1,(oi 3 1,none)] [(oi 0 0,oi 3 1)] [oI 3 1 y18.length,ai 1] (caps:=[]) trivial (Hc h45 rfl) Hh ⟨by kernel_rfl,trivial⟩ (.cons (.ren (by kernel_rfl)) (.cons (.ren (by kernel_rfl)) .nil)) (Bl (by kernel_rfl) (by kernel_rfl) ⟨Mz (by kernel_rfl),trivial⟩) (rsB 1 (Ar (tn_ (wr_ (Ab ?_)))))));obtain ⟨y48,h48,h⟩:=Ae h;obtain ⟨g49,h⟩:=As h;refine Aa 21 (rsB 2 (Hf (ai y48.2) [(oi 9 1,some (.mat 35 (oi 1440 19) .int y48.1)),(oi 1440 19,some (.pool 3 .int y48.1)),(oi 9 1,none),(oi 10 1,some (.pool 3 .int []))] [(oi 0 0,oi 9 1),(oi 1 0,oi 10 1)] [.agg [ai u0,oS 9 1 y20.length],ai y45.2] (caps:=[]) trivial (I4 h48 rfl) I0 ⟨by kernel_rfl,⟨by kernel_rfl,trivial⟩⟩ (.cons (.agg (.cons (.ren (by kernel_rfl)) (.cons (.ren (by kernel_rfl)) .nil))) (.cons (.ren (by kernel_rfl)) .nil)) (Bl (by kernel_rfl) (by kernel_rfl) ⟨Mz (by kernel_rfl),⟨Aah (o:=oi 9 1) (p:=oi 10 1) (e1:=35) (m:=y20.length) (u:=.int) (xss:=y20) (Mz (by kernel_rfl)) (by kernel_rfl),trivial⟩⟩) (rsB 1 (Ar (tn_ (wr_ (Ab (Aw h (fun (u3:Bool) S_=>S_=⟨Am [(0,ai a0),(1,tI a1),(3,ai a3),(4,ai a4),(7,.box (oi 0 1) 0),(12,oI 1 1 y16.2.1.length),(13,.box (oi 2 1) 0),(14,.bool y16.1),(17,oI 3 1 y22.2.1.length),(18,.box (oi 4 1) 0),(109,.bool u3)],Ah (Aq [(oi 0 1,.cells 37 [ai u0,tS u1]),(oi 1 1,.arr 3 .int y16.2.1),(oi 2 1,.cells 39 [an y16.2.2.1,oS 5 1 y16.2.2.2.length]),(oi 3 1,.arr 3 .int y22.2.1),(oi 4 1,.cells 39 [ai y22.2.2.1,oS 7 1 y22.2.2.2.length]),(oi 5 1,.mat 35 (oi 6 1) .int y16.2.2.2),(oi 6 1,.pool 3 .int y16.2.2.2),(oi 7 1,.mat 35 (oi 8 1) .int y22.2.2.2),(oi 8 1,.pool 3 .int y22.2.2.2)]),2⟩) ?_ ?_))))))))
 ·intro v_ h;rcases Ad h with ⟨q52,h⟩ | ⟨q52,h⟩
  ·have q52_:=of_decide_eq_true q52;refine Aa 40 (rsB 3 (zs q52 (zs q52 (zs q52 (zs q52 (rs0 (.bool true) (zT q52) (rsB 11 (Ar (tn_ ?_)))))))));obtain rfl:=zj h;exact ⟨_,Ac [(oi 5 1,oi 7 1),(oi 6 1,oi 8 1),(oi 3 1,oi 5 1),(oi 4 1,oi 6 1),(oi 7 1,oi 11 1),(oi 8 1,oi 12 1)],rfl⟩
  have q52_:=of_decide_eq_false q52;obtain ⟨y53,h53,h⟩:=Ae h;rcases Ad h with ⟨q54,h⟩ | ⟨q54,h⟩
  ·refine Aa 40 (rsB 3 (rs0 (oI 5 1 y22.2.1.length) (zg q52) (rs0 (oI 1 1 y16.2.1.length) (zg q52) (Bq (.bool y53) [] [oI 5 1 y22.2.1.length,oI 1 1 y16.2.1.length] _ (caps:=[]) (args0:=[tI y22.2.1,tI y16.2.1]) (Cf (by kernel_rfl) q52) (Ao (Bj (e:=3) (by kernel_rfl) rfl) (Ao (Bj (e:=3) (by kernel_rfl) rfl) Ba)) (B0 h53) B3 (rs0 (.bool (!y53)) (zg q52) (rs0 (.bool (!y53)) (zF q52) (rsB 1 (zs q54 (zs q54 (zs q54 (zs q54 (rs0 (.bool true) (zT q54) (rsB 5 (Ar (tn_ ?_)))))))))))))));obtain rfl:=zj h;exact ⟨_,Ac [(oi 5 1,oi 7 1),(oi 6 1,oi 8 1),(oi 3 1,oi 5 1),(oi 4 1,oi 6 1),(oi 7 1,oi 11 1),(oi 8 1,oi 12 1)],rfl⟩
  obtain ⟨y55,h55,h⟩:=Ae h;rcases Ad h with ⟨q56,h⟩ | ⟨q56,h⟩
  ·refine Aa 40 (rsB 3 (rs0 (oI 5 1 y22.2.1.length) (zg q52) (rs0 (oI 1 1 y16.2.1.length) (zg q52) (Bq (.bool y53) [] [oI 5 1 y22.2.1.length,oI 1 1 y16.2.1.length] _ (caps:=[]) (args0:=[tI y22.2.1,tI y16.2.1]) (Cf (by kernel_rfl) q52) (Ao (Bj (e:=3) (by kernel_rfl) rfl) (Ao (Bj (e:=3) (by kernel_rfl) rfl) Ba)) (B0 h53) B3 (rs0 (.bool (!y53)) (zg q52) (rs0 (.bool (!y53)) (zF q52) (rsB 1 (rsl (.agg [ai y22.2.2.1,oS 11 1 y22.2.2.2.length]) (zg q54) (rsl (.agg [an y16.2.2.1,oS 7 1 y16.2.2.2.length]) (zg q54) (Bq (.bool y55) [] [.agg [ai y22.2.2.1,oS 11 1 y22.2.2.2.length],.agg [an y16.2.2.1,oS 7 1 y16.2.2.2.length]] _ (caps:=[]) (args0:=[.agg [ai y22.2.2.1,tS y22.2.2.2],.agg [an y16.2.2.1,tS y16.2.2.2]]) (Cf (by kernel_rfl) q54) (Ao (F1 (Ao (by kernel_rfl) (Ao (D4 (p:=oi 12 1) (e1:=35) (e:=3) (u:=.int) (xss:=y22.2.2.2) (by kernel_rfl) (Bn (by kernel_rfl)) rfl) Ba))) (Ao (F1 (Ao (by kernel_rfl) (Ao (D4 (p:=oi 8 1) (e1:=35) (e:=3) (u:=.int) (xss:=y16.2.2.2) (by kernel_rfl) (Bn (by kernel_rfl)) rfl) Ba))) Ba)) (Co h55) Cp (rs0 (.bool (!y55)) (zg q54) (rs0 (.bool (!y55)) (zF q54) (rsB 1 (zs q56 (zs q56 (zs q56 (rs0 (.bool true) (zT q56) (Ar (tn_ ?_)))))))))))))))))));obtain rfl:=zj h;exact ⟨_,Ac [(oi 5 1,oi 7 1),(oi 6 1,oi 8 1),(oi 3 1,oi 5 1),(oi 4 1,oi 6 1),(oi 7 1,oi 11 1),(oi 8 1,oi 12 1)],rfl⟩
  refine Aa 40 (rsB 3 (rs0 (oI 5 1 y22.2.1.length) (zg q52) (rs0 (oI 1 1 y16.2.1.length) (zg q52) (Bq (.bool y53) [] [oI 5 1 y22.2.1.length,oI 1 1 y16.2.1.length] _ (caps:=[]) (args0:=[tI y22.2.1,tI y16.2.1]) (Cf (by kernel_rfl) q52) (Ao (Bj (e:=3) (by kernel_rfl) rfl) (Ao (Bj (e:=3) (by kernel_rfl) rfl) Ba)) (B0 h53) B3 (rs0 (.bool (!y53)) (zg q52) (rs0 (.bool (!y53)) (zF q52) (rsB 1 (rsl (.agg [ai y22.2.2.1,oS 11 1 y22.2.2.2.length]) (zg q54) (rsl (.agg [an y16.2.2.1,oS 7 1 y16.2.2.2.length]) (zg q54) (Bq (.bool y55) [] [.agg [ai y22.2.2.1,oS 11 1 y22.2.2.2.length],.agg [an y16.2.2.1,oS 7 1 y16.2.2.2.length]] _ (caps:=[]) (args0:=[.agg [ai y22.2.2.1,tS y22.2.2.2],.agg [an y16.2.2.1,tS y16.2.2.2]]) (Cf (by kernel_rfl) q54) (Ao (F1 (Ao (by kernel_rfl) (Ao (D4 (p:=oi 12 1) (e1:=35) (e:=3) (u:=.int) (xss:=y22.2.2.2) (by kernel_rfl) (Bn (by kernel_rfl)) rfl) Ba))) (Ao (F1 (Ao (by kernel_rfl) (Ao (D4 (p:=oi 8 1) (e1:=35) (e:=3) (u:=.int) (xss:=y16.2.2.2) (by kernel_rfl) (Bn (by kernel_rfl)) rfl) Ba))) Ba)) (Co h55) Cp (rs0 (.bool (!y55)) (zg q54) (rs0 (.bool (!y55)) (zF q54) (rsB 1 (rs0 (.bool y22.1) (zg q56) (rs0 (.bool y16.1) (zg q56) (rs0 (.bool (y22.1 !=y16.1)) (zg q56) (rs0 (.bool (y22.1 !=y16.1)) (zF q56) (Ar (tn_ ?_)))))))))))))))))));obtain rfl:=zj h;exact ⟨_,Ac [(oi 5 1,oi 7 1),(oi 6 1,oi 8 1),(oi 3 1,oi 5 1),(oi 4 1,oi 6 1),(oi 7 1,oi 11 1),(oi 8 1,oi 12 1)],rfl⟩
 rintro u3 _ rfl h
 (try dsimp only at h);rcases Ad h with ⟨q57,h⟩ | ⟨q57,h⟩
 ·refine Ag q57 (An (Al (tr_ ?_)));obtain rfl:=zj h;exact Bh [.bool false] (A5 rfl zl A4)
 refine Af q57 (Ak (tn_ (wr_ (An (Ab ?_)))));obtain ⟨y61,h61,h⟩:=Ae h;obtain ⟨g62,h⟩:=As h;refine Aa 7 (rsB 2 (Hf (ai y61.2) [nI 3 1 y61.1,(oi 3 1,none)] [(oi 0 0,oi 3 1)] [oI 3 1 y22.2.1.length,ai 1] (caps:=[]) trivial (Hc h61 rfl) Hh ⟨by kernel_rfl,trivial⟩ (.cons (.ren (by kernel_rfl)) (.cons (.ren (by kernel_rfl)) .nil)) (Bl (by kernel_rfl) (by kernel_rfl) ⟨Mz (by kernel_rfl),trivial⟩) (rsB 1 (Ar (tn_ (wr_ (Ab ?_)))))));obtain ⟨y64,h64,h⟩:=Ae h;obtain ⟨g65,h⟩:=As h;refine Aa 11 (rsB 2 (Hf (ai y64.2) [(oi 7 1,some (.mat 35 (oi 1840 9) .int y64.1)),(oi 1840 9,some (.pool 3 .int y64.1)),(oi 7 1,none),(oi 8 1,some (.pool 3 .int []))] [(oi 0 0,oi 7 1),(oi 1 0,oi 8 1)] [.agg [ai y22.2.2.1,oS 7 1 y22.2.2.2.length],ai y61.2] (caps:=[]) trivial (I4 h64 rfl) I0 ⟨by kernel_rfl,⟨by kernel_rfl,trivial⟩⟩ (.cons (.agg (.cons (.ren (by kernel_rfl)) (.cons (.ren (by kernel_rfl)) .nil))) (.cons (.ren (by kernel_rfl)) .nil)) (Bl (by kernel_rfl) (by kernel_rfl) ⟨Mz (by kernel_rfl),⟨Aah (o:=oi 7 1) (p:=oi 8 1) (e1:=35) (m:=y22.2.2.2.length) (u:=.int) (xss:=y22.2.2.2) (Mz (by kernel_rfl)) (by kernel_rfl),trivial⟩⟩) (rsB 1 (Ar (tn_ (wr_ (An (Ab ?_))))))));obtain ⟨y68,h68,h⟩:=Ae h;refine Aa 16 (rsB 2 (Bq (ai y68) [] [oI 3 1 y22.2.1.length,ai 1] _ (caps:=[]) (args0:=[tI y61.1,ai 1]) trivial (Ao (Bj (e:=3) (by kernel_rfl) g62.symm) (Ao (by kernel_rfl) Ba)) (He h68) Kz (rsB 1 (Ar (tn_ (wr_ (Ab (An ?_))))))));rcases Ad h with ⟨q71,h⟩ | ⟨q71,h⟩
 ·have q71_:=of_decide_eq_true q71;refine Ag q71 (An (Al (tr_ ?_)));obtain rfl:=zj h;exact Bh [.bool false] (A5 rfl zl A4)
 have q71_:=of_decide_eq_false q71;refine Af q71 (Ak (tn_ (wr_ (Ab ?_))));obtain ⟨y74,h74,h⟩:=Ae h;refine Aa 22 (rsB 2 (Bq (ai y74) [] [.agg [ai y22.2.2.1,oS 7 1 y22.2.2.2.length],ai y68] _ (caps:=[]) (args0:=[.agg [ai y22.2.2.1,tS y64.1],ai y68]) trivial (Ao (F1 (Ao (by kernel_rfl) (Ao (D4 (p:=oi 1840 9) (e1:=35) (e:=3) (u:=.int) (xss:=y64.1) (by kernel_rfl) (Bn (by kernel_rfl)) g65.symm) Ba))) (Ao (by kernel_rfl) Ba)) (Ji h74) Iy (rsB 1 (Ar (tn_ (wr_ (Ab (An ?_))))))));rcases Ad h with ⟨q77,h⟩ | ⟨q77,h⟩
 ·have q77_:=of_decide_eq_true q77;refine Ag q77 (An (Al (tr_ ?_)));obtain rfl:=zj h;exact Bh [.bool false] (A5 rfl zl A4)
 have q77_:=of_decide_eq_false q77;refine Af q77 (Ak (tn_ (wr_ (Ab (An ?_)))));rcases Ad h with ⟨q81,h⟩ | ⟨q81,h⟩
 ·refine Ag q81 (An (Al (tr_ ?_)));obtain rfl:=zj h;exact Bh [.bool false] (A5 rfl zl A4)
 refine Af q81 (Ak (tn_ (wr_ (Ab ?_))));obtain ⟨y84,h84,h⟩:=Ae h;obtain ⟨y85,h85,h⟩:=Ae h;obtain ⟨y86,h86,h⟩:=Ae h;refine Bi 43 (dz0 (ai a0) (dz0 (tI a1) (dzc (oI 2112 29 y84.length) [nI 2112 29 y84] [tI a1] (Fg h84) (dzl (.agg [ai u0,tS u1]) (Vu (.agg [ai u0,oS 2145 31 y85.length]) [(oi 2144 31,some (.cells 39 [ai u0,oS 2145 31 y85.length])),(oi 2145 31,some (.mat 35 (oi 2146 31) .int y85)),(oi 2146 31,some (.pool 3 .int y85))] [] [.agg [ai u0,tS u1]] (caps:=[]) trivial (Fp h85) Fo trivial (.cons (.ren (by kernel_rfl)) .nil) (Bl (by kernel_rfl) (by kernel_rfl) trivial) (Vv (by kernel_rfl)) (dz0 (ai a3) (dz0 (ai a4) (Vu (.tup [oI 2192 34 y86.2.1.length,.agg [ai y86.2.2.1,oS 2194 34 y86.2.2.2.length],.bool y86.1]) [nI 2192 34 y86.2.1,(oi 2193 34,some (.cells 39 [ai y86.2.2.1,oS 2194 34 y86.2.2.2.length])),(oi 2194 34,some (.mat 35 (oi 2195 34) .int y86.2.2.2)),(oi 2195 34,some (.pool 3 .int y86.2.2.2))] [] [ai a0,oI 2112 29 y84.length,.agg [ai u0,oS 2145 31 y85.length],ai a3,ai a4] (caps:=[]) trivial (Ha h86) G9 trivial (.cons (.ren (by kernel_rfl)) (.cons (.gnd (by kernel_rfl) (Bj (e:=3) ((G3 (by kernel_rfl) (by kernel_rfl) (by kernel_rfl)).trans (by kernel_rfl)) rfl)) (.cons (.agg (.cons (.ren (by kernel_rfl)) (.cons (.gnd (by kernel_rfl) (D4 (p:=oi 2146 31) (e1:=35) (e:=3) (u:=.int) (xss:=y85) ((G3 (by kernel_rfl) (by kernel_rfl) (by kernel_rfl)).trans (by kernel_rfl)) (Kx (by kernel_rfl) (by kernel_rfl) (Lf [ai u0,oS 2145 31 y85.length] (t:=sI) (off:=0) (len:=y85.length) (i:=oi 2145 31) (e1:=35) (z:=1) (m:=y85.length) 2 1 rfl (by kernel_rfl) rfl (by kernel_rfl) (Bn (by kernel_rfl))) (by kernel_rfl)) rfl)) .nil))) (.cons (.ren (by kernel_rfl)) (.cons (.ren (by kernel_rfl)) .nil))))) (Bl (by kernel_rfl) (by kernel_rfl) trivial) (Vv (by kernel_rfl)) (dz0 (.tup [oI 2192 34 y86.2.1.length,.agg [ai y86.2.2.1,oS 2194 34 y86.2.2.2.length],.bool y86.1]) (dz0 (oI 2192 34 y86.2.1.length) (dz0 (.agg [ai y86.2.2.1,oS 2194 34 y86.2.2.2.length]) (dz0 (.bool y86.1) (ds1 (.box (oi 24 39) 0) (oi 24 39) (.cells 39 [ai 0,.nils]) (by kernel_rfl) (dz0 (oI 2192 34 y86.2.1.length) (Aa9 (oi 24 39) (oi 24 39) (.cells 39 [ai y86.2.2.1,oS 2194 34 y86.2.2.2.length]) (by kernel_rfl) (dz0 (.bool y86.1) (Nm ⟨Afy (by kernel_rfl),⟨Afy (by kernel_rfl),⟨Y2 (by kernel_rfl),⟨Y2 (by kernel_rfl),trivial⟩⟩⟩⟩ (tn_ ?_))))))))))))))))));refine wr_ (Ab (Aw h (fun (u4:Bool) S_=>S_=⟨Am [(17,oI 0 1 y61.1.length),(18,.box (oi 1 1) 0),(21,ai y64.2),(155,.bool u4)],Ah (Aq [(oi 0 1,.arr 3 .int y61.1),(oi 1 1,.cells 39 [ai y22.2.2.1,oS 2 1 y64.1.length]),(oi 2 1,.mat 35 (oi 3 1) .int y64.1),(oi 3 1,.pool 3 .int y64.1)]),2⟩) ?_ ?_))
 ·intro v_ h;obtain ⟨y89,h89,h⟩:=Ae h;rcases Ad h with ⟨q90,h⟩ | ⟨q90,h⟩
  ·refine Aa 58 (rsB 2 (Bq (.bool y89) [] [oI 2192 34 y86.2.1.length,oI 1 1 y16.2.1.length] _ (caps:=[]) (args0:=[tI y86.2.1,tI y16.2.1]) trivial (Ao (Bj (e:=3) (by kernel_rfl) rfl) (Ao (Bj (e:=3) (by kernel_rfl) rfl) Ba)) (B0 h89) B3 (rsB 2 (zs q90 (zs q90 (zs q90 (zs q90 (rs0 (.bool true) (zT q90) (rsB 5 (Ar (tn_ ?_)))))))))));obtain rfl:=zj h;exact ⟨_,(Br 17 (oI 3 1 y22.2.1.length) (oI 3 1 y61.1.length) (by kernel_rfl) (congrArg (fun z_=>((oI 3 1 z_):AV)) (g62.symm:y22.2.1.length=y61.1.length))).trans ((Ms (oi 4 1) (.cells 39 [ai y22.2.2.1,oS 7 1 y22.2.2.2.length]) (.cells 39 [ai y22.2.2.1,oS 7 1 y64.1.length]) (by kernel_rfl) (congrArg (fun z_=>(.cells 39 [ai y22.2.2.1,oS 7 1 z_]:Ob)) (g65.symm:y22.2.2.2.length=y64.1.length))).trans (Ac [(oi 0 1,oi 3 1),(oi 1 1,oi 4 1),(oi 2 1,oi 7 1),(oi 3 1,oi 1840 9)])),rfl⟩
  obtain ⟨y91,h91,h⟩:=Ae h;rcases Ad h with ⟨q92,h⟩ | ⟨q92,h⟩
  ·refine Aa 58 (rsB 2 (Bq (.bool y89) [] [oI 2192 34 y86.2.1.length,oI 1 1 y16.2.1.length] _ (caps:=[]) (args0:=[tI y86.2.1,tI y16.2.1]) trivial (Ao (Bj (e:=3) (by kernel_rfl) rfl) (Ao (Bj (e:=3) (by kernel_rfl) rfl) Ba)) (B0 h89) B3 (rsB 2 (rsl (.agg [ai y86.2.2.1,oS 2194 34 y86.2.2.2.length]) (zg q90) (rsl (.agg [an y16.2.2.1,oS 5 1 y16.2.2.2.length]) (zg q90) (Bq (.bool y91) [] [.agg [ai y86.2.2.1,oS 2194 34 y86.2.2.2.length],.agg [an y16.2.2.1,oS 5 1 y16.2.2.2.length]] _ (caps:=[]) (args0:=[.agg [ai y86.2.2.1,tS y86.2.2.2],.agg [an y16.2.2.1,tS y16.2.2.2]]) (Cf (by kernel_rfl) q90) (Ao (F1 (Ao (by kernel_rfl) (Ao (D4 (p:=oi 2195 34) (e1:=35) (e:=3) (u:=.int) (xss:=y86.2.2.2) (by kernel_rfl) (Bn (by kernel_rfl)) rfl) Ba))) (Ao (F1 (Ao (by kernel_rfl) (Ao (D4 (p:=oi 6 1) (e1:=35) (e:=3) (u:=.int) (xss:=y16.2.2.2) (by kernel_rfl) (Bn (by kernel_rfl)) rfl) Ba))) Ba)) (Co h91) Cp (rs0 (.bool (!y91)) (zg q90) (rs0 (.bool (!y91)) (zF q90) (rsB 1 (zs q92 (zs q92 (zs q92 (rs0 (.bool true) (zT q92) (Ar (tn_ ?_)))))))))))))));obtain rfl:=zj h;exact ⟨_,(Br 17 (oI 3 1 y22.2.1.length) (oI 3 1 y61.1.length) (by kernel_rfl) (congrArg (fun z_=>((oI 3 1 z_):AV)) (g62.symm:y22.2.1.length=y61.1.length))).trans ((Ms (oi 4 1) (.cells 39 [ai y22.2.2.1,oS 7 1 y22.2.2.2.length]) (.cells 39 [ai y22.2.2.1,oS 7 1 y64.1.length]) (by kernel_rfl) (congrArg (fun z_=>(.cells 39 [ai y22.2.2.1,oS 7 1 z_]:Ob)) (g65.symm:y22.2.2.2.length=y64.1.length))).trans (Ac [(oi 0 1,oi 3 1),(oi 1 1,oi 4 1),(oi 2 1,oi 7 1),(oi 3 1,oi 1840 9)])),rfl⟩
  refine Aa 58 (rsB 2 (Bq (.bool y89) [] [oI 2192 34 y86.2.1.length,oI 1 1 y16.2.1.length] _ (caps:=[]) (args0:=[tI y86.2.1,tI y16.2.1]) trivial (Ao (Bj (e:=3) (by kernel_rfl) rfl) (Ao (Bj (e:=3) (by kernel_rfl) rfl) Ba)) (B0 h89) B3 (rsB 2 (rsl (.agg [ai y86.2.2.1,oS 2194 34 y86.2.2.2.length]) (zg q90) (rsl (.agg [an y16.2.2.1,oS 5 1 y16.2.2.2.length]) (zg q90) (Bq (.bool y91) [] [.agg [ai y86.2.2.1,oS 2194 34 y86.2.2.2.length],.agg [an y16.2.2.1,oS 5 1 y16.2.2.2.length]] _ (caps:=[]) (args0:=[.agg [ai y86.2.2.1,tS y86.2.2.2],.agg [an y16.2.2.1,tS y16.2.2.2]]) (Cf (by kernel_rfl) q90) (Ao (F1 (Ao (by kernel_rfl) (Ao (D4 (p:=oi 2195 34) (e1:=35) (e:=3) (u:=.int) (xss:=y86.2.2.2) (by kernel_rfl) (Bn (by kernel_rfl)) rfl) Ba))) (Ao (F1 (Ao (by kernel_rfl) (Ao (D4 (p:=oi 6 1) (e1:=35) (e:=3) (u:=.int) (xss:=y16.2.2.2) (by kernel_rfl) (Bn (by kernel_rfl)) rfl) Ba))) Ba)) (Co h91) Cp (rs0 (.bool (!y91)) (zg q90) (rs0 (.bool (!y91)) (zF q90) (rsB 1 (rs0 (.bool y86.1) (zg q92) (rs0 (.bool y16.1) (zg q92) (rs0 (.bool (y86.1 !=y16.1)) (zg q92) (rs0 (.bool (y86.1 !=y16.1)) (zF q92) (Ar (tn_ ?_)))))))))))))));obtain rfl:=zj h;exact ⟨_,(Br 17 (oI 3 1 y22.2.1.length) (oI 3 1 y61.1.length) (by kernel_rfl) (congrArg (fun z_=>((oI 3 1 z_):AV)) (g62.symm:y22.2.1.length=y61.1.length))).trans ((Ms (oi 4 1) (.cells 39 [ai y22.2.2.1,oS 7 1 y22.2.2.2.length]) (.cells 39 [ai y22.2.2.1,oS 7 1 y64.1.length]) (by kernel_rfl) (congrArg (fun z_=>(.cells 39 [ai y22.2.2.1,oS 7 1 z_]:Ob)) (g65.symm:y22.2.2.2.length=y64.1.length))).trans (Ac [(oi 0 1,oi 3 1),(oi 1 1,oi 4 1),(oi 2 1,oi 7 1),(oi 3 1,oi 1840 9)])),rfl⟩
 rintro u4 _ rfl h
 (try dsimp only at h);rcases Ad h with ⟨q93,h⟩ | ⟨q93,h⟩
 ·refine Ag q93 (An (Al (tr_ ?_)));obtain rfl:=zj h;exact Bh [.bool false] (A5 rfl zl A4)
 refine Af q93 (Ak (tn_ (wr_ (An (Ab ?_)))));obtain ⟨y97,h97,h⟩:=Ae h;refine Aa 7 (rsB 2 (Bq (ai y97) [] [oI 0 1 y61.1.length,ai 1] _ (caps:=[]) (args0:=[tI y61.1,ai 1]) trivial (Ao (Bj (e:=3) (by kernel_rfl) rfl) (Ao (by kernel_rfl) Ba)) (He h97) Kz (rsB 1 (Ar (tn_ (wr_ (Ab (An ?_))))))));rcases Ad h with ⟨q100,h⟩ | ⟨q100,h⟩
 ·have q100_:=of_decide_eq_true q100;refine Ag q100 (An (Al (tr_ ?_)));obtain rfl:=zj h;exact Bh [.bool false] (A5 rfl zl A4)
 have q100_:=of_decide_eq_false q100;refine Af q100 (Ak (tn_ (wr_ (Ab ?_))));obtain ⟨y103,h103,h⟩:=Ae h;refine Aa 13 (rsB 2 (Bq (ai y103) [] [.agg [ai y22.2.2.1,oS 2 1 y64.1.length],ai y97] _ (caps:=[]) (args0:=[.agg [ai y22.2.2.1,tS y64.1],ai y97]) trivial (Ao (F1 (Ao (by kernel_rfl) (Ao (D4 (p:=oi 3 1) (e1:=35) (e:=3) (u:=.int) (xss:=y64.1) (by kernel_rfl) (Bn (by kernel_rfl)) rfl) Ba))) (Ao (by kernel_rfl) Ba)) (Ji h103) Iy (rsB 1 (Ar (tn_ (wr_ (Ab (An ?_))))))));rcases Ad h with ⟨q106,h⟩ | ⟨q106,h⟩
 ·have q106_:=of_decide_eq_true q106;refine Ag q106 (An (Al (tr_ ?_)));obtain rfl:=zj h;exact Bh [.bool false] (A5 rfl zl A4)
 have q106_:=of_decide_eq_false q106;refine Af q106 (Ak (tn_ (wr_ (Ab (An ?_)))));rcases Ad h with ⟨q110,h⟩ | ⟨q110,h⟩
 ·refine Ag q110 (An (Al (tr_ ?_)));obtain rfl:=zj h;exact Bh [.bool false] (A5 rfl zl A4)
 refine Af q110 (Ak (tn_ (wr_ (An (Al ?_)))));obtain rfl:=zj h;exact Bh [.bool true] (A5 rfl zl A4)
end Go.Proofs.YtjnaikadmjocbaaDoor

