/- Lemmas on the program and on partial functions that stand in place of its code (part 5); no condition beyond those that each one states. -/
import Derived.Test.YtjlcpiemabfpiaaGreatDoorZ4
import Derived.Deep.DeepAppendRoom
import Derived.Deep.RegionHeld3
import Derived.Lib.SplitLaws
import Derived.Lib.Join
import Derived.Shelf.Strings.Search3
import Derived.RangeFuncBox
import Derived.RangeFuncWrites
import Derived.RangeFuncLeaves
import Derived.RangeFuncCalls
import Derived.Shelf.Abstract
import Derived.Shelf.RegionOpen
import Derived.WalkKit
import Derived.OwnWalkIn
import Derived.TacticsInMore
import Derived.LoopNIn
import Derived.LoopIn
import Derived.Maps.AppendAt
import Derived.Lib.AtoiAllCases
import Derived.RangeFuncNested
namespace Go.Proofs.YtjlcpiemabfpiaaGreatDoor
section
open Go.RowKit Go.Deep
set_option maxRecDepth 4000
set_option maxHeartbeats 4800000
variable {cA cB cC:Int} {dA:ByteArray} {bA:Bool} {hA:Int×Int} {aA aB:List Int} {gA:List (Int×Int×(List Int)×List Int)} {iA:List Int×List Int}
def F2 (u0 u1:Int) (u2:ByteArray):Option Bool :=
 (cond (!(u2.toList==(⟨#[]⟩:ByteArray).toList))
  (some true)
  ((Cn u0 1 14).bind fun y5 =>
  some (!y5))).bind fun u3 =>
cond u3
 (some false)
 (cond (u0==1)
  ((Cn u1 0 12).bind fun y13 =>
  some y13)
  ((cond (u0==7)
    (some (u0==7))
    (some (u0==13))).bind fun u4 =>
  cond u4
   ((Cn u1 0 96).bind fun y19 =>
   some y19)
   (some (u1==0))))
theorem P0 (h:F2 cA cB dA=some bA):cK 45 [.agg [ai cA,ai cB,.str dA]] (At bA):=by
 refine cO Tryz.func45 (Am (Ab (sqF h (fun u3=>sT [(1,.box (oi 0 1) 0),(11,.bool u3)] [(oi 0 1,.cells 69 [ai cA,ai cB,.str dA])]) ?_ fun u3 h=>kQ h (fun _ h=>Am (Af (tr_ (jS h)))) fun _ h=>skW (Ab (Am (Ai (Am (kQ h (fun _ h=>Ab (Aa 10 (rsT 2 (rcH h C0 fun y13 h=>rsT 1 (rnW (Af (br_ (tr_ (jS h))))))))) fun _ h=>sqF h (fun u4=>sT [(1,.box (oi 0 1) 0),(19,.bool u4)] [(oi 0 1,.cells 69 [ai cA,ai cB,.str dA])]) (fun _ h=>Am (kQ h (fun _ h=>Ba (tn_ (jE []))) fun _ h=>Aa 10 (rsT 2 (A0 (tn_ (jE [])))))) fun u4 h=>kQ h (fun _ h=>Ab (Aa 6 (rsT 2 (rcH h C0 fun y19 h=>rsT 1 (rnW (Af (br_ (tr_ (jS h))))))))) fun _ h=>Ba (bn_ (tn_ (wr_ (Am (Af (jS h))))))))))))));intro _ h;refine Aa 12 (rsT 4 ?_);rcases Co h with ⟨q4,h⟩|⟨q4,h⟩
 ·exact rq 6 q4 (rsT 5 (A0 (tn_ (jE [(oi 0 1,oi 1 1)]))))
 exact rq 6 q4 (rsT 2 (rcH h C0 fun y5 h=>rsT 2 (A0 (tn_ (jE [(oi 0 1,oi 1 1)])))))
def H2 (a0:Int):Option (Int×Int) :=
 cond (a0==2)
 (some (2,2))
 ((cond (a0==3)
   (some (a0==3))
   (some (a0==11))).bind fun u0 =>
 cond u0
  (some (1,2))
  ((cond (a0==4)
    (some (a0==4))
    (some (a0==12))).bind fun u1 =>
  cond u1
   (some (1,0))
   ((cond (a0==5)
     (some (a0==5))
     (some (a0==9))).bind fun u2 =>
   cond u2
    (some (2,1))
    ((cond (a0==6)
      (some (a0==6))
      (some (a0==10))).bind fun u3 =>
    cond u3
     (some (0,1))
     (some (1,1))))))
def Oz (r:Int×Int):RV:=⟨true,[(false,[.sc (.int .i64 r.1)]),(false,[.sc (.int .i64 r.2)])]⟩
theorem Ot (h:H2 cA=some hA):cK 46 [ai cA] (Oz hA):=by
 exact cO Tryz.func46 (Am (Ab (Am (Ai (Am (kQ h (fun _ h=>Am (Af (br_ (tr_ (jS h))))) fun _ h=>sqF h (fun u0=>sT [(4,ai cA),(7,.bool u0)] []) (fun _ h=>Am (kQ h (fun _ h=>Ba (tn_ (jE []))) fun _ h=>Aa 10 (rsT 2 (A0 (tn_ (jE [])))))) fun u0 h=>kQ h (fun _ h=>Am (Af (br_ (tr_ (jS h))))) fun _ h=>sqF h (fun u1=>sT [(4,ai cA),(10,.bool u1)] []) (fun _ h=>Am (kQ h (fun _ h=>Ba (tn_ (jE []))) fun _ h=>Aa 6 (rsT 2 (A0 (tn_ (jE [])))))) fun u1 h=>kQ h (fun _ h=>Am (Af (br_ (tr_ (jS h))))) fun _ h=>sqF h (fun u2=>sT [(4,ai cA),(13,.bool u2)] []) (fun _ h=>Am (kQ h (fun _ h=>Ba (tn_ (jE []))) fun _ h=>Aa 6 (rsT 2 (A0 (tn_ (jE [])))))) fun u2 h=>kQ h (fun _ h=>Am (Af (br_ (tr_ (jS h))))) fun _ h=>sqF h (fun u3=>sT [(16,.bool u3)] []) (fun _ h=>Am (kQ h (fun _ h=>Ba (tn_ (jE []))) fun _ h=>Aa 6 (rsT 2 (A0 (tn_ (jE [])))))) fun u3 h=>kQ h (fun _ h=>Am (Af (br_ (tr_ (jS h))))) fun _ h=>Ba (bn_ (tn_ (wr_ (Am (Af (jS h))))))))))))
def Ez (u0 u3:Int) (u1 u2:List Int) (a1:Int):Option Bool :=
 ((Cn u0 3 14).bind fun y4 =>
 cond (!y4)
  (some true)
  ((F2 u0 u3 (⟨#[]⟩:ByteArray)).bind fun y6 =>
  some (!y6))).bind fun u4 =>
cond u4
 (some false)
 ((H2 u0).bind fun y10 =>
 (cond ((u1.length:Int)==y10.1)
   (cond ((u2.length:Int)==y10.2)
    ((Dm u1 0 (wI (a1 - 1))).bind fun y14 =>
    cond y14
     ((Dm u2 0 (wI (a1 - 1))).bind fun y16 =>
     some y16)
     (some false))
    (some false))
   (some false)).bind fun u5 =>
 some u5)
theorem Pq (h:Ez cA cB aA aB cC=some bA):cK 27 [.agg [ai cA,ai cB,tI aA,tI aB],ai cC] (At bA):=by
 refine cO Tryz.func27 (Am (Ab (sqF h (fun u4=>sT [(1,ai cC),(2,.box (oi 0 1) 0),(19,.bool u4)] [(oi 0 1,.cells 37 [ai cA,ai cB,tI aA,tI aB])]) ?_ ?_)))
 ·intro _ h;refine Aa 16 (rsT 2 (rcH h C0 fun y4 h=>rsT 2 ?_));rcases Co h with ⟨q5,h⟩|⟨q5,h⟩
  ·exact rq 11 q5 (rsT 8 (A0 (tn_ (jE [(oi 0 1,oi 2 1)]))))
  exact rq 11 q5 (rsT 5 (rcH h P0 fun y6 h=>rsT 2 (A0 (tn_ (jE [(oi 0 1,oi 2 1)])))))
 intro u4 h;refine kQ h (fun _ h=>Am (Af (tr_ (jS h)))) fun _ h=>skW (Ab (Aa 10 (rsT 2 (rcH h Ot fun y10 h=>rsT 5 (rnW (sqF h (fun u5=>sT [(4,.bool u5)] []) ?_ fun u5 h=>Af (jS h)))))))
 intro _ h;refine Aa 37 (rsT 6 (kR h 31 (fun _ h=>rsT 7 ?_) fun _ h=>rsT 21 (A0 (tn_ (jE [])))));rcases Co h with ⟨q13,h⟩|⟨q13,h⟩
 ·refine rq 38 q13 (rsT 4 (rcH h F1 fun y14 h=>rsT 2 ?_));rcases Co h with ⟨q15,h⟩|⟨q15,h⟩
  ·exact rq 45 q15 (rsT 4 (rcH h F1 fun y16 h=>rsT 2 (A0 (tn_ (jE [])))))
  exact rq 45 q15 (rsT 7 (A0 (tn_ (jE []))))
 exact rq 38 q13 (rsT 14 (A0 (tn_ (jE []))))
def Hd (u2:List Int) (u0:Nat) (u1:List Int):Option (Ctl (Nat×List Int) (List Int)) :=
 cond (decide ((u0:Int)<(u2.length:Int)))
 ((u2[u0]?).bind fun x14 =>
 (Kg u1 x14).bind fun x15 =>
 og (u0+1<4611686018427387904) <|
 some (Ctl.next (u0+1,u1.set x14.toNat (wI (x15+1)))))
 (some (Ctl.out u1))
def Hf (u2:List Int) (u0:Nat) (u1:List Int):Option (Ctl (Nat×List Int) (List Int)) :=
 cond (decide ((u0:Int)<(u2.length:Int)))
 ((u2[u0]?).bind fun x25 =>
 (Kg u1 x25).bind fun x26 =>
 og (u0+1<4611686018427387904) <|
 some (Ctl.next (u0+1,u1.set x25.toNat (wI (x26+1)))))
 (some (Ctl.out u1))
def Hb (x36:Int×Int×(List Int)×List Int) (u0:Nat) (u1:List Int):Option (Ctl (Nat×List Int) (List Int)) :=
 cond (decide ((u0:Int)<(x36.2.2.2.length:Int)))
 ((x36.2.2.2[u0]?).bind fun x45 =>
 (Kg u1 x45).bind fun x46 =>
 og (u0+1<4611686018427387904) <|
 some (Ctl.next (u0+1,u1.set x45.toNat (wI (x46+1)))))
 (some (Ctl.out u1))
def Gy (x36:Int×Int×(List Int)×List Int) (u2:List Int) (u0:Nat) (u1:List Int):Option (Ctl (Nat×List Int) (List Int×List Int)) :=
 cond (decide ((u0:Int)<(x36.2.2.1.length:Int)))
 ((x36.2.2.1[u0]?).bind fun x55 =>
 (Kg u1 x55).bind fun x56 =>
 og (u0+1<4611686018427387904) <|
 some (Ctl.next (u0+1,u1.set x55.toNat (wI (x56+1)))))
 (some (Ctl.out (u2,u1)))
def Dp (u1:List (Int×Int×(List Int)×List Int)) (u0:Nat) (u2 u3:List Int):Option (Ctl (Nat×List Int×List Int) (List Int×List Int)) :=
 cond (decide ((u0:Int)<(u1.length:Int)))
 (((u1[u0]?).bind fun x36 =>
  (Az (fun s_:Nat×List Int=>Hb x36 s_.1 s_.2) 4611686018427387904 (0,u2)).bind fun u4 =>
  Az (fun s_:Nat×List Int=>Gy x36 u4 s_.1 s_.2) 4611686018427387904 (0,u3)).bind fun (u5,u6) =>
 og (u0+1<4611686018427387904) <|
 some (Ctl.next (u0+1,u5,u6)))
 (some (Ctl.out (u2,u3)))
def Ds (u0:Int) (u1:List (Int×Int×(List Int)×List Int)) (u2 u3:List Int):Option (List Int×List Int) :=
 og (0<=u0/\u0<=u0/\u0<=1073741824/\(8:Int)*u0<=140737488355328) <|
og (0<=u0/\u0<=u0/\u0<=1073741824/\(8:Int)*u0<=140737488355328) <|
(Az (fun s_:Nat×List Int=>Hd u2 s_.1 s_.2) 4611686018427387904 (0,List.replicate u0.toNat (0:Int))).bind fun u4 =>
(Az (fun s_:Nat×List Int=>Hf u3 s_.1 s_.2) 4611686018427387904 (0,List.replicate u0.toNat (0:Int))).bind fun u5 =>
(Az (fun s_:Nat×List Int×List Int=>Dp u1 s_.1 s_.2.1 s_.2.2) 4611686018427387904 (0,u4,u5)).bind fun (u6,u7) =>
some (u6,u7)
def M5 (r:List Int×List Int):RV:=⟨true,[(false,[.new 3 .int r.1]),(false,[.new 3 .int r.2])]⟩
theorem Mi (h:Ds cA gA aA aB=some iA):cK 28 [.agg [ai cA,.tree Y4 gA,tI aA,tI aB]] (M5 iA):=by
 refine cO Tryz.func28 (Am (Ab (Aa 8 (rsT 2 ?_))));obtain ⟨g3,h⟩:=Ax h;refine rs1 (oI 18 6 cA.toNat) (oi 18 6) (.arr 3 .int (List.replicate cA.toNat (0:Int))) (W9 (t:=.int) (k:=.i64) (k':=.i64) (m:=cA) (m':=cA) kr kr g3 rfl) (rsT 1 (rnW (Ab (Aa 12 (rsT 2 ?_)))));obtain ⟨g5,h⟩:=Ax h;refine rs1 (oI 21 10 cA.toNat) (oi 21 10) (.arr 3 .int (List.replicate cA.toNat (0:Int))) (W9 (t:=.int) (k:=.i64) (k':=.i64) (m:=cA) (m':=cA) kr kr g5 rfl) (rsT 1 (rnW (sqF h (fun u8=>sT [(1,.box (oi 0 1) 0),(4,oI 1 1 u8.length),(5,oI 2 1 ((List.replicate cA.toNat (0:Int)).length))] [(oi 0 1,.cells 25 [ai cA,.tree Y4 gA,tI aA,tI aB]),(oi 1 1,.arr 3 .int u8),(oi 2 1,.arr 3 .int (List.replicate cA.toNat (0:Int)))]) ?_ ?_)))
 ·intro _ h;refine Am (Ai (lpF h (fun (ui,u2)=>sT [(1,.box (oi 0 1) 0),(4,oI 1 1 u2.length),(5,oI 2 1 ((List.replicate cA.toNat (0:Int)).length)),(23,tI aA),(24,an aA.length),(25,an ui)] [(oi 0 1,.cells 25 [ai cA,.tree Y4 gA,tI aA,tI aB]),(oi 1 1,.arr 3 .int u2),(oi 2 1,.arr 3 .int (List.replicate cA.toNat (0:Int)))]) ((wL 4 (List.length_replicate.symm:cA.toNat=(List.replicate cA.toNat (0:Int)).length)).trans ((wL 5 (List.length_replicate.symm:cA.toNat=(List.replicate cA.toNat (0:Int)).length)).trans (Av [(oi 0 1,oi 1 1),(oi 1 1,oi 18 6),(oi 2 1,oi 21 10)]))) ?_));rintro n_ ⟨ui,u2⟩ c_ h hn8;refine Am (Ab (kQ h (fun _ h=>skW (Ab (Ai (Ab (Aa 6 (riH .int h fun x14 _ h=>rsT 2 (rnW (Aa 13 (rsT 2 ?_))))))))) fun _ h=>lxT (have h:=jO h hn8;jE [])));obtain ⟨x15,f15,h⟩:=Au h;obtain ⟨p15,b15,e15⟩:=E5 f15;refine rs0 (.elt (oi 1 1) x14.toNat 0) (zo (t:=.int) (o:=oi 1 1) (len:=u2.length) (k:=.i64) (m:=x14) p15 (Ay e15)) (zE (oi 1 1) e15 (rsT 1 (rs0 (.elt (oi 1 1) x14.toNat 0) (zo (t:=.int) (o:=oi 1 1) (len:=u2.length) (k:=.i64) (m:=x14) p15 (Ay e15)) (zS (oi 1 1) (wI (x15+1)) e15 (A0 (bn_ (tn_ (wr_ (Aa 15 (raH h fun h=>rsT 1 (A0 (tn_ ?_))))))))))));obtain rfl:=zj h;exact jLw hn8 ((wL 4 (((rfl:u2.length=u2.length).trans List.length_set.symm):u2.length=(u2.set x14.toNat (wI (x15+1))).length)).trans (Av []))
 intro u8 h;refine sqF h (fun ue=>sT [(1,.box (oi 0 1) 0),(4,oI 1 1 u8.length),(5,oI 2 1 ue.length)] [(oi 0 1,.cells 25 [ai cA,.tree Y4 gA,tI aA,tI aB]),(oi 1 1,.arr 3 .int u8),(oi 2 1,.arr 3 .int ue)]) ?_ ?_
 ·intro _ h;refine Am (Ai (lpF h (fun (uj,u3)=>sT [(1,.box (oi 0 1) 0),(4,oI 1 1 u8.length),(5,oI 2 1 u3.length),(37,tI aB),(38,an aB.length),(39,an uj)] [(oi 0 1,.cells 25 [ai cA,.tree Y4 gA,tI aA,tI aB]),(oi 1 1,.arr 3 .int u8),(oi 2 1,.arr 3 .int u3)]) (Av []) ?_));rintro n_ ⟨uj,u3⟩ c_ h hn19;refine Am (Ab (kQ h (fun _ h=>skW (Ab (Ai (Ab (Aa 6 (riH .int h fun x25 _ h=>rsT 2 (rnW (Aa 13 (rsT 2 ?_))))))))) fun _ h=>lxT (have h:=jO h hn19;jE [])));obtain ⟨x26,f26,h⟩:=Au h;obtain ⟨p26,b26,e26⟩:=E5 f26;refine rs0 (.elt (oi 2 1) x25.toNat 0) (zo (t:=.int) (o:=oi 2 1) (len:=u3.length) (k:=.i64) (m:=x25) p26 (Ay e26)) (zE (oi 2 1) e26 (rsT 1 (rs0 (.elt (oi 2 1) x25.toNat 0) (zo (t:=.int) (o:=oi 2 1) (len:=u3.length) (k:=.i64) (m:=x25) p26 (Ay e26)) (zS (oi 2 1) (wI (x26+1)) e26 (A0 (bn_ (tn_ (wr_ (Aa 15 (raH h fun h=>rsT 1 (A0 (tn_ ?_))))))))))));obtain rfl:=zj h;exact jLw hn19 ((wL 5 (((rfl:u3.length=u3.length).trans List.length_set.symm):u3.length=(u3.set x25.toNat (wI (x26+1))).length)).trans (Av []))
 intro ue h;refine sqF h (fun (uc,ud)=>sT [(4,oI 0 1 uc.length),(5,oI 1 1 ud.length)] [(oi 0 1,.arr 3 .int uc),(oi 1 1,.arr 3 .int ud)]) ?_ ?_
 ·intro _ h;refine Am (Ai (lpF h (fun (ua,uf,u9)=>sT [(4,oI 0 1 uf.length),(5,oI 1 1 u9.length),(51,.tree Y4 gA),(52,an gA.length),(53,an ua)] [(oi 0 1,.arr 3 .int uf),(oi 1 1,.arr 3 .int u9)]) (Av [(oi 0 1,oi 1 1),(oi 1 1,oi 2 1)]) ?_));rintro n_ ⟨ua,uf,u9⟩ c_ h hn30;refine Am (Ab (kQ h (fun _ h=>skW (sqF h (fun (ug,uh)=>sT [(4,oI 0 1 ug.length),(5,oI 1 1 uh.length),(51,.tree Y4 gA),(52,an gA.length),(53,an ua)] [(oi 0 1,.arr 3 .int ug),(oi 1 1,.arr 3 .int uh)]) ?_ ?_)) fun _ h=>lxT (have h:=jO h hn30;jE [])))
  ·intro _ h;refine Ai (Ab (Aa 7 (riH Y4 h fun x36 _ h=>rsB 3 (rnW (sqF h (fun ub=>sT [(4,oI 0 1 ub.length),(5,oI 1 1 u9.length),(11,.box (oi 2 1) 0),(51,.tree Y4 gA),(52,an gA.length),(53,an ua)] [(oi 0 1,.arr 3 .int ub),(oi 1 1,.arr 3 .int u9),(oi 2 1,.cells 37 [ai x36.1,ai x36.2.1,tI x36.2.2.1,tI x36.2.2.2])]) ?_ ?_)))))
   ·intro _ h;refine Am (Ai (lpF h (fun (uk,u4)=>sT [(4,oI 0 1 u4.length),(5,oI 1 1 u9.length),(11,.box (oi 2 1) 0),(51,.tree Y4 gA),(52,an gA.length),(53,an ua),(58,tI x36.2.2.2),(59,an x36.2.2.2.length),(60,an uk)] [(oi 0 1,.arr 3 .int u4),(oi 1 1,.arr 3 .int u9),(oi 2 1,.cells 37 [ai x36.1,ai x36.2.1,tI x36.2.2.1,tI x36.2.2.2])]) (Av [(oi 2 1,oi 11 5)]) ?_));rintro n_ ⟨uk,u4⟩ c_ h hn39;refine Am (Ab (kQ h (fun _ h=>skW (Ab (Ai (Ab (Aa 6 (riH .int h fun x45 _ h=>rsT 2 (rnW (Aa 13 (rsT 2 ?_))))))))) fun _ h=>lxT (have h:=jO h hn39;jE [])));obtain ⟨x46,f46,h⟩:=Au h;obtain ⟨p46,b46,e46⟩:=E5 f46;refine rs0 (.elt (oi 0 1) x45.toNat 0) (zo (t:=.int) (o:=oi 0 1) (len:=u4.length) (k:=.i64) (m:=x45) p46 (Ay e46)) (zE (oi 0 1) e46 (rsT 1 (rs0 (.elt (oi 0 1) x45.toNat 0) (zo (t:=.int) (o:=oi 0 1) (len:=u4.length) (k:=.i64) (m:=x45) p46 (Ay e46)) (zS (oi 0 1) (wI (x46+1)) e46 (A0 (bn_ (tn_ (wr_ (Aa 15 (raH h fun h=>rsT 1 (A0 (tn_ ?_))))))))))));obtain rfl:=zj h;exact jLw hn39 ((wL 4 (((rfl:u4.length=u4.length).trans List.length_set.symm):u4.length=(u4.set x45.toNat (wI (x46+1))).length)).trans (Av []))
   intro ub h;refine Am (Ai (lpF h (fun (ul,u5)=>sT [(4,oI 0 1 ub.length),(5,oI 1 1 u5.length),(51,.tree Y4 gA),(52,an gA.length),(53,an ua),(72,tI x36.2.2.1),(73,an x36.2.2.1.length),(74,an ul)] [(oi 0 1,.arr 3 .int ub),(oi 1 1,.arr 3 .int u5)]) (Av []) ?_));rintro n_ ⟨ul,u5⟩ c_ h hn49;refine Am (Ab (kQ h (fun _ h=>skW (Ab (Ai (Ab (Aa 6 (riH .int h fun x55 _ h=>rsT 2 (rnW (Aa 13 (rsT 2 ?_))))))))) fun _ h=>H6 (te_ (te_ (be_ (bn_ (tn_ (have h:=jO h hn49;jE []))))))));obtain ⟨x56,f56,h⟩:=Au h;obtain ⟨p56,b56,e56⟩:=E5 f56;refine rs0 (.elt (oi 1 1) x55.toNat 0) (zo (t:=.int) (o:=oi 1 1) (len:=u5.length) (k:=.i64) (m:=x55) p56 (Ay e56)) (zE (oi 1 1) e56 (rsT 1 (rs0 (.elt (oi 1 1) x55.toNat 0) (zo (t:=.int) (o:=oi 1 1) (len:=u5.length) (k:=.i64) (m:=x55) p56 (Ay e56)) (zS (oi 1 1) (wI (x56+1)) e56 (A0 (bn_ (tn_ (wr_ (Aa 15 (raH h fun h=>rsT 1 (A0 (tn_ ?_))))))))))));obtain rfl:=zj h;exact jLw hn49 ((wL 5 (((rfl:u5.length=u5.length).trans List.length_set.symm):u5.length=(u5.set x55.toNat (wI (x56+1))).length)).trans (Av []))
  rintro ⟨ug,uh⟩ h;exact Aa 4 (raH h fun h=>rsT 1 (A0 (tn_ (jL []))))
 rintro ⟨uc,ud⟩ h;exact Am (Af (jR h [oI 0 1 uc.length,oI 1 1 ud.length] (Rh rfl (Ue kr rfl) (Rh rfl (Ue kr rfl) Y3))))
def Fa (u1:List (Int×Int×(List Int)×List Int)) (u2:Int) (u0:Nat):Option (Ctl Nat (Ctl Unit Bool)) :=
 cond (decide ((u0:Int)<(u1.length:Int)))
 ((u1[u0]?).bind fun x22 =>
 (Ez x22.1 x22.2.1 x22.2.2.1 x22.2.2.2 u2).bind fun y24 =>
 cond (!y24)
  (some (Ctl.out (Ctl.out false)))
  (og (u0+1<4611686018427387904) <|
  some (Ctl.next (u0+1))))
 (some (Ctl.out (Ctl.next ())))
def D3 (y29:List Int×List Int) (u0:Nat):Option (Ctl Nat (Ctl Unit Bool)) :=
 cond (decide ((u0:Int)<(y29.1.length:Int)))
 ((y29.1[u0]?).bind fun x39 =>
 (y29.2[u0]?).bind fun x40 =>
 cond ((wI (x39+x40))==0)
  (some (Ctl.out (Ctl.out false)))
  (og (u0+1<4611686018427387904) <|
  some (Ctl.next (u0+1))))
 (some (Ctl.out (Ctl.next ())))
def Gx (u0:Int) (u1:List (Int×Int×(List Int)×List Int)) (u2 u3:List Int):Option Bool :=
 ((Cn u0 0 100).bind fun y4 =>
 cond (!y4)
  (some true)
  (cond (decide (60<(u1.length:Int)))
   (some true)
   (cond (decide (12<(u2.length:Int)))
    (some true)
    (cond (decide (12<(u3.length:Int)))
     (some true)
     ((Dm u2 0 (wI (u0 - 1))).bind fun y9 =>
     cond (!y9)
      (some true)
      ((Dm u3 0 (wI (u0 - 1))).bind fun y11 =>
      some (!y11))))))).bind fun u4 =>
cond u4
 (some false)
 (Mm (Az (fun s_:Nat=>Fa u1 u0 s_) 4611686018427387904 0) fun _ =>
 (Ds u0 u1 u2 u3).bind fun y29 =>
 Mm (Az (fun s_:Nat=>D3 y29 s_) 4611686018427387904 0) fun _ =>
 some true)
theorem Ny (h:Gx cA gA aA aB=some bA):cK 14 [.agg [ai cA,.tree Y4 gA,tI aA,tI aB]] (At bA):=by
 refine cO Tryz.func14 (Am (Ab (sqF h (fun u5=>sT [(1,.box (oi 0 1) 0),(47,.bool u5)] [(oi 0 1,.cells 25 [ai cA,.tree Y4 gA,tI aA,tI aB])]) ?_ ?_)))
 ·intro _ h;refine Aa 43 (rsT 2 (rcH h C0 fun y4 h=>rsT 2 (kR h 12 (fun _ h=>rsT 35 (A0 (tn_ (jE [(oi 0 1,oi 1 1)])))) fun _ h=>rsT 6 (kR h 18 (fun _ h=>rsT 29 (A0 (tn_ (jE [(oi 0 1,oi 1 1)])))) fun _ h=>rsT 6 (kR h 24 (fun _ h=>rsT 23 (A0 (tn_ (jE [(oi 0 1,oi 1 1)])))) fun _ h=>rsT 6 ?_)))));rcases Co h with ⟨q8,h⟩|⟨q8,h⟩
  ·exact rq 30 q8 (rsT 17 (A0 (tn_ (jE [(oi 0 1,oi 1 1)]))))
  refine rq 30 q8 (rsT 5 (rcH h F1 fun y9 h=>rsT 3 ?_));rcases Co h with ⟨q10,h⟩|⟨q10,h⟩
  ·exact rq 39 q10 (rsT 8 (A0 (tn_ (jE [(oi 0 1,oi 1 1)]))))
  exact rq 39 q10 (rsT 5 (rcH h F1 fun y11 h=>rsT 2 (A0 (tn_ (jE [(oi 0 1,oi 1 1)])))))
 intro u5 h;refine kQ h (fun _ h=>Am (Af (tr_ (jS h)))) fun _ h=>skW (sqC h (fun _=>sT [(1,.box (oi 0 1) 0)] [(oi 0 1,.cells 25 [ai cA,.tree Y4 gA,tI aA,tI aB])]) (fun _ h hk14=>Am (Ai (lpF h (fun u6=>sT [(1,.box (oi 0 1) 0),(49,.tree Y4 gA),(50,an gA.length),(51,an u6)] [(oi 0 1,.cells 25 [ai cA,.tree Y4 gA,tI aA,tI aB])]) (Av []) (fun n_ u6 c_ h hn16=>Am (Ab (kQ h (fun _ h=>skW (Ab (Ai (Ab (Aa 7 (riH Y4 h fun x22 _ h=>rsB 3 (rnW (Ab (Aa 12 (rsT 3 (rcH h Pq fun y24 h=>rsT 1 (rnW (kQ h (fun _ h=>Am (Af (br_ (tr_ (tr_ (br_ (tr_ (have h:=jO h hn16;(have h:=jO h hk14;jS h))))))))) fun _ h=>Ba (bn_ (tn_ (wr_ (Aa 14 (raH h fun h=>rsT 1 (A0 (tn_ (jL []))))))))))))))))))))) fun _ h=>lxT (have h:=jO h hn16;jC []))))))) ?_)
 intro _ h;refine Ab (Aa 9 (rsT 1 (rcH h Mi fun y29 h=>rsT 5 (rnW (sqC h (fun _=>sT [] []) ?_ fun _ h=>Am (Af (jS h)))))));intro _ h hk30;refine Am (Ai (lpF h (fun u4=>sT [(5,oI 0 1 y29.1.length),(6,oI 1 1 y29.2.length),(67,an y29.1.length),(68,an u4)] [(oi 0 1,.arr 3 .int y29.1),(oi 1 1,.arr 3 .int y29.2)]) (Av [(oi 0 1,oi 1008 3),(oi 1 1,oi 1009 3)]) ?_));intro n_ u4 c_ h hn32;refine Am (Ab (kQ h (fun _ h=>skW (Ab (Ai (Am (Ab (Bq 15 (dz0 (oI 0 1 y29.1.length) (dz0 (an u4) ?_)))))))) fun _ h=>lxT (have h:=jO h hn32;jC [])));obtain ⟨x39,e39,h⟩:=Au h;refine dzO (oi 0 1) .int y29.1.length (Ay e39) (dzE (oi 0 1) e39 (dz0 (oI 1 1 y29.2.length) (dz0 (an u4) ?_)));obtain ⟨x40,e40,h⟩:=Au h;exact dzO (oi 1 1) .int y29.2.length (Ay e40) (dzE (oi 1 1) e40 (dz0 (ai (wI (x39+x40))) (dz0 (.bool ((wI (x39+x40))==0)) (N3 (Cp kr) (tn_ (wr_ (kQ h (fun _ h=>Am (Af (br_ (tr_ (tr_ (br_ (tr_ (have h:=jO h hn32;(have h:=jO h hk30;jS h))))))))) fun _ h=>Ba (bn_ (tn_ (wr_ (Aa 17 (raH h fun h=>rsT 1 (A0 (tn_ (jL [])))))))))))))))
end


section
open Go.RowKit Go.Deep
end
section
open Go.RowKit Go.Deep
section
variable {n:Nat} {d:Option Nat} {f:Nat->AV} {ob:Oid->Option Ob}
end
end
section
open Go.RowKit Go.Deep
def AV.isGiv:AV->Bool
 | .giv _ _ _=>true
 | _=>false
def Ob.hpGB (D:List Oid):Ob->Bool
 | .cells _ cs=>cs.all fun c=>c.hpB D||c.isGiv
 | _=>false
theorem Af5 {D:List Oid} {E:Oid->Prop} (hd:∀ i,i∈D->E i) (o:Ob) (h:o.hpGB D=true):o.hpG E:=by
 cases o with
 | cells ty cs =>
  simp only [Ob.hpGB,List.all_eq_true,Bool.or_eq_true] at h;intro c hc;rcases h c hc with h1|h1
  ·exact .inl (AV.hp_mono hd _ (AV.hpB_P c h1))
  ·cases c with
   | giv u t xs=>exact .inr ⟨u,t,xs,rfl⟩
   | _=>cases h1
 | _=>cases h
def Aer (ol us:List (Oid×Ob)) (args:List AV) (v:AV):Bool :=
 (Ex ol&&(Ex us&&((ol.all fun q=>q.1.2==0)&&((us.all fun q=>q.1.2==1||(!q.2.isPool&&(A9 ol).contains q.1))&&(ndB (A9 us)&&ndB (Bf us))))))&&((ol.all fun q=>q.2.clo1 (A9 ol))&&((us.all fun q=>q.2.hp1 (A9 us)||q.2.hpGB (A9 us))&&(AV.cloL (A9 ol) args&&AV.hpB (A9 us) v)))
def Aak (D:List Oid) (ol:List (Oid×Ob)):List (Oid×Ob)->Prop
 | []=>True
 | q :: r=>(q.2.hp1 D=true∨q∈ol)/\Aak D ol r
theorem R8 {D:List Oid} {ol:List (Oid×Ob)}:∀ {l:List (Oid×Ob)},Aak D ol l->∀ q∈l,q.2.hp1 D=true∨q∈ol
 | _ :: _,h,q,hq=>by
  rcases List.mem_cons.1 hq with rfl|hq
  ·exact h.1
  ·exact R8 h.2 q hq
theorem Gv {p:Oid} {ty:TypeId} {cs:List AV}:∀ {l:List (Oid×Ob)},(p,Ob.cells ty cs)∈l->(p,Ob.cells ty cs)∈exL l
 | (q,o) :: r,h=>by
  rcases List.mem_cons.1 h with e|h
  ·obtain ⟨rfl,rfl⟩:=Prod.mk.inj e;exact List.mem_cons_self
  ·have:=Gv h;cases o <;> simp only [exL,List.mem_append,List.mem_cons] <;> first|exact .inr this
section
variable {P:Program} {G:World->Prop} (hfol:P.follows .mixedOrders=true) {g:FuncId} {fn:Func} (hf:P.funcs[g]? =some fn) {ac:AC} {rs:List Res} (hc:Cj P fn=some (ac,rs)) {args:List AV} {r:RV} {n:Nat}
include hfol hf hc
theorem Pg [IsP P] (hN:fn.ntmps=n) (hn:args.length<=n) {tl:List (Nat×AV)} (htl:tmL 0 args=tl) {ol us:List (Oid×Ob)} {v:AV} (hB:Aer ol us args v=true) (hm1:Ti ol ol) (hm2:Ti us us) (hgv:Aak (A9 us) ol us)
  (h:awp P G ac (fun e S=>∃ S',WeakG G S S'/\(e=.normal∨e=.ret)/\(∃ rvs,Res.evL S'.tm S'.ob rs=some rvs/\v=Sv rvs)/\∀ q∈exL us,S'.ob q.1=some q.2) ⟨Ak tl,Ag (Br ol),1⟩):I3 P G g args ol v us:=by
 simp only [Aer,Bool.and_eq_true] at hB;obtain ⟨⟨a1,a2,a3,a4,a5,a6⟩,b1,b2,b3,b4⟩:=hB;rw [List.all_eq_true] at a3 a4 b1 b2
 have h0:∀ {l:List (Oid×Ob)},Ex l=true->∀ q∈l,q.1.1.2=0:=fun h q hq=>by
  unfold Ex at h;rw [List.all_eq_true] at h;have:=h q hq;simp only [Bool.and_eq_true,beq_iff_eq] at this;exact this.1
 refine Acx hfol hf hc hN hn (fun q hq=>?_) (Abi (Cy a5) (Cy a6) (h0 a2)) (fun q hq=>?_) (AV.cloPL_mono (fun i hi=>Hj hi) _ (AV.cloPL_of args b3)) (AV.hp_mono (fun i hi=>Hj hi) _ (AV.hpB_P v b4)) ?_
 ·rcases E0 hq with ⟨p,e,u,xss,k,row,m1,m2,rfl⟩|⟨o,m1,m2,m3⟩
  ·have:=a3 _ m1;rw [beq_iff_eq] at this;exact ⟨this,trivial⟩
  ·have:=a3 _ m1;refine ⟨by simpa using this,?_⟩;rw [m3];by_cases hmt:∃ e p u xss,o=.mat e p u xss
   ·obtain ⟨e,p,u,xss,rfl⟩:=hmt;obtain ⟨e',hp⟩:=K5 hm1 _ _ _ _ _ m1;exact Aa4 xss fun k hk=>Y6 hp k hk
   ·exact cloP_mono (fun i hi=>Hj hi) _ (Ae9 o (b1 _ m1) m2 fun e p u xss h=>hmt ⟨e,p,u,xss,h⟩)
 ·rcases E0 hq with ⟨p,e,u,xss,k,row,m1,m2,rfl⟩|⟨o,m1,m2,m3⟩
  ·have:=a4 _ m1;simp only [Ob.isPool,Bool.not_true,Bool.false_and,Bool.or_false,beq_iff_eq] at this;exact ⟨.inl this,.inl trivial⟩
  ·have:=a4 _ m1;simp only [Bool.or_eq_true,Bool.and_eq_true,beq_iff_eq] at this;refine ⟨this.imp id fun h=>Hj (List.contains_iff_mem.1 h.2),?_⟩;by_cases hmt:∃ e p u xss,o=.mat e p u xss
   ·obtain ⟨e,p,u,xss,rfl⟩:=hmt;obtain ⟨e',hp⟩:=K5 hm2 _ _ _ _ _ m1;rw [m3];exact .inl (Afy xss fun k hk=>Y6 hp k hk)
   ·rcases R8 hgv _ m1 with hp1|hin
    ·rw [m3];exact .inl (hp_mono (fun i hi=>Hj hi) _ (Aeu o hp1 m2 fun e p u xss h=>hmt ⟨e,p,u,xss,h⟩))
    ·have hb:=b2 _ m1;simp only [Bool.or_eq_true] at hb;rcases hb with hp1|hg
     ·rw [m3];exact .inl (hp_mono (fun i hi=>Hj hi) _ (Aeu o hp1 m2 fun e p u xss h=>hmt ⟨e,p,u,xss,h⟩))
     ·have hG:=Af5 (E:=(·∈nmL us)) (fun i hi=>Hj hi) o hg;cases o with
      | cells ty cs =>
       obtain ⟨q1,q2⟩:=q;dsimp only [Ob.exp] at m3;subst m3;exact .inr ⟨Gv hin,hG⟩
      | _=>exact hG.elim
 ·rw [X6,htl];exact h
end
def Eb (j:Oid) (k:Nat) (t:Ty) (xs:List t.D) (q:Oid×Ob):Oid×Ob :=
 (q.1,if q.1=j then (match q.2 with | .cells ty cs=>.cells ty (cs.set k (.tree t xs))|o=>o) else q.2)
def Aeb (l:List (Oid×Ob)):Bool:=Ex l&&(ndB (A9 l)&&ndB (Bf l))
theorem Yi {l:List (Oid×Ob)} (h:Aeb l=true):(nmL l).Nodup:=by
 simp only [Aeb,Bool.and_eq_true] at h;refine Abi (Cy h.2.1) (Cy h.2.2) fun q hq=>?_
 have h1:=h.1;unfold Ex at h1;rw [List.all_eq_true] at h1;have:=h1 q hq;simp only [Bool.and_eq_true,beq_iff_eq] at this;exact this.1
theorem Jv {j:Oid} {k:Nat} {t:Ty} {xs:List t.D}:∀ (l:List (Oid×Ob)),exL (l.map (Eb j k t xs))=(exL l).map (Eb j k t xs)
 | []=>rfl
 | (p,o) :: r=>by
  have ih:=Jv (j:=j) (k:=k) (t:=t) (xs:=xs) r
  have hs:∀ (p:Oid) (o:Ob),(∀ ty cs,o≠.cells ty cs)->Eb j k t xs (p,o)=(p,o):=fun p o ho=>by
   simp only [Eb];split
   ·cases o with
    | cells ty cs=>exact absurd rfl (ho ty cs)
    | _=>rfl
   ·rfl
  cases o with
  | pool e u xss =>
   rw [List.map_cons,hs p _ (fun _ _ h=>by cases h)];simp only [exL,List.map_append,ih];congr 1;rw [List.map_map];exact (List.map_congr_left fun x _=>(hs _ _ (fun _ _ h=>by cases h)).symm)
  | mat e q u xss =>
   rw [List.map_cons,hs p _ (fun _ _ h=>by cases h)];simp only [exL,List.map_cons,ih];rw [hs p _ (fun _ _ h=>by cases h)]
  | tv e m t' ys =>
   rw [List.map_cons,hs p _ (fun _ _ h=>by cases h)];simp only [exL,List.map_cons,ih];rw [hs p _ (fun _ _ h=>by cases h)]
  | cells ty cs =>
   by_cases hp:p=j
   ·subst hp;simp only [List.map_cons,Eb,if_true,exL];rw [← ih]
   ·simp only [List.map_cons,Eb,if_neg hp,exL];rw [← ih]
  | arr e u ys =>
   rw [List.map_cons,hs p _ (fun _ _ h=>by cases h)];simp only [exL,List.map_cons,ih];rw [hs p _ (fun _ _ h=>by cases h)]
  | map e u ys =>
   rw [List.map_cons,hs p _ (fun _ _ h=>by cases h)];simp only [exL,List.map_cons,ih];rw [hs p _ (fun _ _ h=>by cases h)]
  | vec e sz n cs =>
   rw [List.map_cons,hs p _ (fun _ _ h=>by cases h)];simp only [exL,List.map_cons,ih];rw [hs p _ (fun _ _ h=>by cases h)]
theorem Acd {j:Oid} {k:Nat} {t:Ty} {xs:List t.D} (l:List (Oid×Ob)):nmL (l.map (Eb j k t xs))=nmL l:=by
 unfold nmL;rw [Jv,List.map_map];exact List.map_congr_left fun q _=>rfl
section
variable {σ:Oid->Option Loc} {im:Nat->Prop} {w:World} {θ:Oid->Oid} {t:Ty} {xs:List t.D}
theorem Vz {u:Value}:∀ {cs:List AV} {k:Nat} {vs:List Value},cs[k]? =some (.giv u t xs)->AV.RepL σ im w (AV.renL θ (cs.set k (.tree t xs))) vs->vs[k]? =some u->AV.RepL σ im w (AV.renL θ cs) vs
 | c :: cs,0,_,hk,⟨v,us,e,h1,h2⟩,hu=>by
  obtain rfl:=osj hk;subst e;obtain rfl:=osj hu;exact ⟨v,us,rfl,⟨rfl,h1⟩,h2⟩
 | c :: cs,k+1,_,hk,⟨v,us,e,h1,h2⟩,hu=>by
  subst e;exact ⟨v,us,rfl,h1,Vz (cs:=cs) (k:=k) (by simpa using hk) h2 (by simpa using hu)⟩
theorem Nq {u:Value}:∀ {cs:List AV} {k:Nat} {vs:List Value},cs[k]? =some (.giv u t xs)->AV.RepL σ im w cs vs->AV.RepL σ im w (cs.set k (.tree t xs)) vs
 | c :: cs,0,_,hk,⟨v,us,e,h1,h2⟩=>by
  obtain rfl:=osj hk;exact ⟨v,us,e,h1.2,h2⟩
 | c :: cs,k+1,_,hk,⟨v,us,e,h1,h2⟩=>⟨v,us,e,h1,Nq (cs:=cs) (k:=k) (by simpa using hk) h2⟩
theorem Vv:∀ {cs:List AV} {k:Nat},AV.renL θ (cs.set k (.tree t xs))=(AV.renL θ cs).set k (.tree t xs)
 | [],_=>rfl
 | _ :: _,0=>rfl
 | c :: cs,k+1=>by simp only [List.set_cons_succ,AV.renL,Vv (cs:=cs) (k:=k)]
theorem P6 {c:AV}:∀ {cs:List AV} {k:Nat},cs[k]? =some c->(AV.renL θ cs)[k]? =some (c.ren θ)
 | _ :: _,0,h=>by obtain rfl:=osj h;rfl
 | _ :: cs,k+1,h=>by simp only [AV.renL,List.getElem?_cons_succ];exact P6 (cs:=cs) (k:=k) (by simpa using h)
end
theorem Rl:∀ {L:List (Oid×Option Ob)} {a b:Oid->Option Ob} {x:Oid},((∃ u∈L,u.1=x)∨a x=b x)->Ae L a x=Ae L b x
 | [],_,_,_,h=>by
  rcases h with ⟨u,hu,_⟩|h
  ·cases hu
  ·exact h
 | y :: L,a,b,x,h=>by
  show Ae L (upd a y.1 y.2) x=Ae L (upd b y.1 y.2) x;refine Rl ?_;by_cases e:x=y.1
  ·exact .inr (by subst e;simp [upd])
  ·rcases h with ⟨u,hu,hx⟩|h
   ·rcases List.mem_cons.1 hu with rfl|hu
    ·exact absurd hx.symm e
    ·exact .inl ⟨u,hu,hx⟩
   ·exact .inr (by simp [upd,e,h])
theorem Xy {a b:Oid->Option Ob} {σ:Oid->Option Loc} (h:∀ x,(∃ o,a x=some o)↔∃ o,b x=some o):imm a σ=imm b σ:=by
 funext c;refine propext ⟨fun H i o cp s hi=>?_,fun H i o cp s hi=>?_⟩
 ·obtain ⟨o',h'⟩:=(h i).2 ⟨o,hi⟩;exact H i o' cp s h'
 ·obtain ⟨o',h'⟩:=(h i).1 ⟨o,hi⟩;exact H i o' cp s h'
theorem Kr {P:Program} {G:World->Prop} {F:FuncId} {args:List AV} {v:AV} (ol us:Value->List (Oid×Ob)) {ol' us':List (Oid×Ob)} (j:Oid) (k:Nat) {ty:TypeId} {t:Ty} {xs:List t.D} {cs:Value->List AV} (h:∀ u,I3 P G F args (ol u) v (us u))
  (hj:∀ u,(j,Ob.cells ty (cs u))∈ol u) (hj2:∀ u,(j,Ob.cells ty (cs u))∈us u) (hk:∀ u,(cs u)[k]? =some (.giv u t xs):=by intro _;rfl)
  (h1:∀ u,(ol u).map (Eb j k t xs)=ol':=by intro _;kernel_rfl) (h2:∀ u,(us u).map (Eb j k t xs)=us':=by intro _;kernel_rfl) (hn1:∀ u,Aeb (ol u)=true:=by intro _;kernel_rfl) (hn2:∀ u,Aeb (us u)=true:=by intro _;kernel_rfl):I3 P G F args ol' v us':=by
 intro θ i w0 ob σ K w vs hM hi hob hinj hloc hargs;have hT:∀ u,Eb j k t xs (j,Ob.cells ty (cs u))=(j,.cells ty ((cs u).set k (.tree t xs))):=fun u=>by simp [Eb]
 have hmem:∀ u,(j,Ob.cells ty ((cs u).set k (.tree t xs)))∈exL ol':=fun u=>by
  refine Gv ?_;rw [← h1 u,← hT u];exact List.mem_map.2 ⟨_,hj u,rfl⟩
 have hnm:∀ u,nmL ol'=nmL (ol u):=fun u=>by rw [← h1 u,Acd]
 have hjn:j∈nmL ol':=List.mem_map.2 ⟨_,hmem (.bool true),rfl⟩;have hobj:∀ u,ob (θ j)=some (.cells ty (AV.renL θ ((cs u).set k (.tree t xs)))):=fun u=>hob _ (hmem u)
 cases hs:σ (θ j) with
 | none=>exact absurd hs (hloc j hjn)
 | some l =>
 have hR:=hM.obs _ _ l (hobj (.bool true)) hs;cases l with
 | nil=>exact hR.elim
 | at_ b cp sz =>
 obtain ⟨vs0,g1,g2,g3⟩:=hR
 obtain ⟨u,hu,_⟩:∃ u,vs0[k]? =some u/\True:=by
  have hlt:k<(cs (.bool true)).length:=(gSi.1 (hk (.bool true))).1;have hg:((cs (.bool true)).set k (.tree t xs))[k]? =some (.tree t xs):=by rw [List.getElem?_set_self hlt]
  obtain ⟨u,hu,_⟩:=g2.get (P6 (θ:=θ) hg);exact ⟨u,hu,trivial⟩
 have hcs:AV.renL θ ((cs (.bool true)).set k (.tree t xs))=AV.renL θ ((cs u).set k (.tree t xs)):=by
  have:=(hobj (.bool true)).symm.trans (hobj u);exact (Ob.cells.inj (osj this)).2
 rw [hcs] at g2;have hRG:=Vz (hk u) g2 hu
 let ob1:Oid->Option Ob:=fun x=>if x=θ j then some (.cells ty (AV.renL θ (cs u))) else ob x
 have hob1j:ob1 (θ j)=some (.cells ty (AV.renL θ (cs u))):=if_pos rfl;have hob1n:∀ x,x≠θ j->ob1 x=ob x:=fun x hx=>if_neg hx
 have hdom:∀ x,(∃ o,ob1 x=some o)↔∃ o,ob x=some o:=fun x=>by
  by_cases e:x=θ j
  ·subst e;exact ⟨fun _=>⟨_,hobj u⟩,fun _=>⟨_,hob1j⟩⟩
  ·rw [hob1n x e]
 have him:imm ob1 σ=imm ob σ:=Xy hdom
 have hM1:Mem0 G w0 ob1 σ K w:=by
  refine ⟨hM.below,hM.inv,hM.gen,hM.lt,hM.cap,fun i1 i2 b c s c' s' o o' e1 e2=>?_,fun x o l ho hl=>?_⟩
  ·obtain ⟨p1,q1⟩:=(hdom i1).1 ⟨o,e1⟩;obtain ⟨p2,q2⟩:=(hdom i2).1 ⟨o',e2⟩;exact hM.inj i1 i2 b c s c' s' _ _ q1 q2
  ·rw [him];by_cases e:x=θ j
   ·subst e;rw [hob1j] at ho;obtain rfl:=osj ho;rw [hs] at hl;obtain rfl:=osj hl;exact ⟨vs0,g1,hRG,g3⟩
   ·rw [hob1n x e] at ho;exact hM.obs x o l ho hl
 have hq:∀ q∈exL (ol u),ob1 (θ q.1)=some (q.2.ren θ):=fun q hq=>by
  have hqn:q.1∈nmL (ol u):=List.mem_map.2 ⟨q,hq,rfl⟩;by_cases e:q.1=j
  ·have hin:=Gv (hj u);have:q=(j,Ob.cells ty (cs u)):=Fu (Yi (hn1 u)) hq hin e;subst this;exact hob1j
  ·have hne:θ q.1≠θ j:=fun e'=>e (hinj _ _ (hnm u▸hqn) hjn e')
   rw [hob1n _ hne];refine hob q ?_;have:Eb j k t xs q=q:=by simp [Eb,e]
   rw [← h1 u,Jv,← this];exact List.mem_map.2 ⟨q,hq,rfl⟩
 have himO:Ra θ (ol u) σ=Ra θ ol' σ:=by
  funext c;refine propext ⟨fun H q hq' cp s=>?_,fun H q hq' cp s=>?_⟩
  ·have:q.1∈nmL (ol u):=hnm u▸List.mem_map.2 ⟨q,hq',rfl⟩;obtain ⟨q2,hq2,e⟩:=List.mem_map.1 this;rw [← e];exact H q2 hq2 cp s
  ·have:q.1∈nmL ol':=(hnm u).symm▸List.mem_map.2 ⟨q,hq',rfl⟩;obtain ⟨q2,hq2,e⟩:=List.mem_map.1 this;rw [← e];exact H q2 hq2 cp s
 refine (h u θ i w0 ob1 σ K w vs hM1 hi hq (fun a b ha hb=>hinj a b ((hnm u).symm▸ha) ((hnm u).symm▸hb)) (fun a ha=>hloc a ((hnm u).symm▸ha)) (himO▸hargs)).mono ?_;rintro e w' ⟨uu,he,σ',hL,hM2,hv⟩
 -- the objects behind
 have hkill:∀ x,Ae ((exL (ol u)).map fun q=>(θ q.1,none)) ob1 x=Ae ((exL (ol u)).map fun q=>(θ q.1,none)) ob x:=fun x=>by
  refine Rl ?_;by_cases e:x=θ j
  ·exact .inl ⟨(θ j,none),List.mem_map.2 ⟨_,Gv (hj u),rfl⟩,e.symm⟩
  ·exact .inr (hob1n x e)
 have hnames:((exL ol').map fun q=>(θ q.1,(none:Option Ob)))=(exL (ol u)).map fun q=>(θ q.1,none):=by
  rw [← h1 u,Jv,List.map_map];exact List.map_congr_left fun q _=>rfl
 have hrel:∀ (L:List (Oid×Ob)) (a c:Oid->Option Ob),(∀ q∈L,q∈exL (us u))->(∀ x,c x=a x∨∃ c2,a x=some (.cells ty c2)/\c2[k]? =some (.giv u t xs)/\c x=some (.cells ty (c2.set k (.tree t xs)))) ->
   ∀ x,Ae ((L.map (Eb j k t xs)).map fun q=>(Bk θ i q.1,some (q.2.ren (Bk θ i)))) c x=Ae (L.map fun q=>(Bk θ i q.1,some (q.2.ren (Bk θ i)))) a x ∨
    ∃ c2,Ae (L.map fun q=>(Bk θ i q.1,some (q.2.ren (Bk θ i)))) a x=some (.cells ty c2)/\c2[k]? =some (.giv u t xs)/\Ae ((L.map (Eb j k t xs)).map fun q=>(Bk θ i q.1,some (q.2.ren (Bk θ i)))) c x=some (.cells ty (c2.set k (.tree t xs))):=by
  intro L
  induction L with
  | nil=>exact fun a c _ H=>H
  | cons q L ih =>
   intro a c hL' H;refine ih _ _ (fun q' hq'=>hL' q' (List.mem_cons_of_mem _ hq')) fun x=>?_
   by_cases e:x=Bk θ i q.1
   ·subst e;simp only [upd,Eb,if_true];by_cases ej:q.1=j
    ·have:q=(j,Ob.cells ty (cs u)):=Fu (Yi (hn2 u)) (hL' q List.mem_cons_self) (Gv (hj2 u)) ej;subst this;refine .inr ⟨AV.renL (Bk θ i) (cs u),rfl,P6 (hk u),?_⟩;simp only [if_true,Ob.ren,Vv]
    ·rw [if_neg ej];exact .inl rfl
   ·have:Bk θ i (Eb j k t xs q).1=Bk θ i q.1:=rfl;simp only [upd];rw [if_neg (by rw [this];exact e),if_neg e];exact H x
 have hfin:∀ x,Ae (Fr θ i ol' us') ob x=Ae (Fr θ i (ol u) (us u)) ob1 x∨∃ c2,Ae (Fr θ i (ol u) (us u)) ob1 x=some (.cells ty c2)/\c2[k]? =some (.giv u t xs)/\Ae (Fr θ i ol' us') ob x=some (.cells ty (c2.set k (.tree t xs))):=by
  have:=hrel (exL (us u)) (Ae ((exL (ol u)).map fun q=>(θ q.1,none)) ob1) (Ae ((exL ol').map fun q=>(θ q.1,none)) ob) (fun _ hq=>hq) (fun x=>.inl (by rw [hnames,hkill x]));rw [← Jv,h2 u] at this;intro x;have hx:=this x;simp only [Fr,Ae,List.foldl_append] at hx ⊢;exact hx
 generalize hf1:Ae (Fr θ i (ol u) (us u)) ob1=f1 at hL hM2 hv hfin;generalize Ae (Fr θ i ol' us') ob=f2 at hfin ⊢
 have hdom2:∀ x,(∃ o,f2 x=some o)↔∃ o,f1 x=some o:=fun x=>by
  rcases hfin x with e|⟨c2,e1,_,e2⟩
  ·rw [e]
  ·exact ⟨fun _=>⟨_,e1⟩,fun _=>⟨_,e2⟩⟩
 have him2:imm f2 σ'=imm f1 σ':=Xy hdom2;refine ⟨uu,he,σ',?_,?_,?_⟩
 ·rw [him2,← him];exact hL
 ·refine ⟨hM2.below,hM2.inv,hM2.gen,hM2.lt,hM2.cap,fun i1 i2 b c s c' s' o o' e1 e2=>?_,fun x o l ho hl=>?_⟩
  ·obtain ⟨p1,q1⟩:=(hdom2 i1).1 ⟨o,e1⟩;obtain ⟨p2,q2⟩:=(hdom2 i2).1 ⟨o',e2⟩;exact hM2.inj i1 i2 b c s c' s' _ _ q1 q2
  ·rw [him2];rcases hfin x with e|⟨c2,e1,e3,e2⟩
   ·rw [e] at ho;exact hM2.obs x o l ho hl
   ·rw [e2] at ho;obtain rfl:=osj ho;have hr:=hM2.obs x _ l e1 hl;cases l with
    | nil=>exact hr.elim
    | at_ b c s =>
     obtain ⟨vs2,k1,k2,k3⟩:=hr;exact ⟨vs2,k1,Nq e3 k2,k3⟩
 ·rw [him2];exact hv
section
variable {ob:Oid->Option Ob} {n:Nat} {k:Oid} {c:AV} {cs:List AV}
end
theorem Adq {f:Nat->AV} {ob:Oid->Option Ob} {n:Nat} {d:Option Nat} {e:TypeId} {t:Ty} {by_:Nat} {l c:Opd} {k k':IntKind} {m m':Int} {j:Nat} (hl:l.ev f=.int k m) (hc:c.ev f=.int k' m') (h:0<=m/\m<=m'/\m'<=1073741824/\(by_:Int)*m'<=140737488355328) (hj:m.toNat=j) :
  Bi n ⟨d,none,.make e t by_ l c⟩ f ob=some (1,.own ((d.getD 0,0),n) t 0 (List.replicate j t.dflt).length,[(((d.getD 0,0),n),some (.arr e t (List.replicate j t.dflt)))]):=by
 rw [List.length_replicate];exact W9 hl hc h hj
end
section
open Go.RowKit Go.Deep
set_option maxRecDepth 4000
set_option maxHeartbeats 4800000
variable {cA cB cC:Int} {bA:Bool} {aA aB aC aD:List Int} {gA gB:List (Int×Int×(List Int)×List Int)} {jA:List Bool} {kA:Bool×List Bool×Int}
def E4 (a0:Int):Option Bool :=
 (C4 a0 3 14).bind fun y3 =>
some y3
theorem Ki (h:E4 cA=some bA):cK 53 [ai cA] (At bA):=by
 exact cO Tryz.func53 (Am (Ab (Aa 5 (rsT 1 (rcH h Fm fun y3 h=>rsT 1 (rnW (Af (jS h))))))))
def Cw (a0:Int):Option Bool :=
 (cond (a0==7)
  (some true)
  (some (a0==13))).bind fun u0 =>
some u0
theorem H9 (h:Cw cA=some bA):cK 58 [ai cA] (At bA):=by
 exact cO Tryz.func58 (Am (sqF h (fun u0=>sT [(2,.bool u0)] []) (fun _ h=>Aa 9 (rsT 3 (kR h 5 (fun _ h=>rsT 4 (A0 (tn_ (jE [])))) fun _ h=>rsT 4 (A0 (tn_ (jE [])))))) fun u0 h=>Af (jS h)))
def Di (a0 a1:Int):Option Bool :=
 (Cw a0).bind fun y4 =>
cond y4
 ((C4 a1 0 96).bind fun y7 =>
 some y7)
 (some (a1==0))
theorem Hz (h:Di cA cB=some bA):cK 54 [ai cA,ai cB] (At bA):=by
 exact cO Tryz.func54 (Am (Ab (Ab (Aa 4 (rsT 1 (rcH h H9 fun y4 h=>rnW (kQ h (fun _ h=>Ab (Aa 7 (rsT 1 (rcH h Fm fun y7 h=>rsT 1 (rnW (Af (tr_ (jS h)))))))) fun _ h=>skW (Am (Af (jS h))))))))))
def He:AC :=
 (.seq (rg [xo 1 (.i (.box 37 (tm 0))),xo 2 (qm (cb false))])
 (.seq (.seq (rg [xf 3 0 1,xl 4 3,xo 5 (qc 53 [tm 4] [[]]),xo 6 (.i (.not (tm 5))),xm 7 6,⟨some 8,some (7,false),qf 0 (tm 1)⟩,⟨some 9,some (7,false),ql (tm 8)⟩,⟨some 10,some (7,false),qf 1 (tm 1)⟩,⟨some 11,some (7,false),ql (tm 10)⟩,⟨some 12,some (7,false),qc 54 [tm 9,tm 11] [[],[]]⟩,⟨some 13,some (7,false),.i (.not (tm 12))⟩,xo 14 (.i (.pick (tm 7) (cb true) (tm 13)))])
 (.cond (tm 14)
  (.seq (rg [xo 2 (qm (cb false))])
  .ret)
  .skip))
 (.seq (.region [xf 15 0 1,xl 16 15,xo 17 (qc 55 [tm 16] [[]]),xf 18 2 1,xl 19 18,xn1 20 19,xf 21 3 1,xl 22 21,xn1 23 22,xo 24 (.build [.int .i64 0,.int .i64 0] [(0,1,tm 20),(1,1,tm 23)]),xo 25 (.i (.cmp false 5 (tm 17) (tm 24))),xm 2 25] true [(2,4),(2,7)])
 .ret)))
def K8:List Res:=[.tmp 2]
theorem K0:Cj Tryz.prog Tryz.f37=some (He,K8):=by kernel_rfl
def Do (u0 u1:Int) (u2 u3:List Int):Option Bool :=
 ((E4 u0).bind fun y4 =>
 cond (!y4)
  (some true)
  ((Di u0 u1).bind fun y6 =>
  some (!y6))).bind fun u4 =>
cond u4
 (some false)
 ((D0 u0).bind fun y10 =>
 some ([y10.1,y10.2]==[(u2.length:Int),(u3.length:Int)]))
theorem Kh (h:Do cA cB aA aB=some bA):cK 37 [.agg [ai cA,ai cB,tI aA,tI aB]] (At bA):=by
 refine Uq kr Tryz.func37 K0 (n:=26) kr (by simp) rfl ?_;unfold He;refine Am (Ab (sqF h (fun u4=>sT [(1,.box (oi 0 1) 0),(14,.bool u4)] [(oi 0 1,.cells 37 [ai cA,ai cB,tI aA,tI aB])]) ?_ fun u4 h=>kQ h (fun _ h=>Am (Af (tr_ (jS h)))) fun _ h=>skW (Ab (Bq 14 (ds0 (.box (oi 0 1) 0) kr (dsl (ai cA) kr (dcH h Is fun y10 h=>dsT 9 (N3 (Cp kr) (tn_ (wr_ (Af (jS h))))))))))));intro _ h;refine Aa 15 (rsT 2 (rcH h Ki fun y4 h=>rsT 2 ?_));rcases Co h with ⟨q5,h⟩|⟨q5,h⟩
 ·exact rq 7 q5 (rsT 7 (A0 (tn_ (jE [(oi 0 1,oi 1 1)]))))
 exact rq 7 q5 (rsT 4 (rcH h Hz fun y6 h=>rsT 2 (A0 (tn_ (jE [(oi 0 1,oi 1 1)])))))
def Cv (a0:List Int) (u3:Int) (u0:Nat) (u2:Bool) (u1:Int) (l3_p3:List Bool):Option (Ctl (Nat×Bool×Int×List Bool) (Bool×List Bool×Int)) :=
 cond (decide ((u0:Int)<(a0.length:Int)))
 (((a0[u0]?).bind fun x9 =>
  (C4 x9 0 (wI (u3 - 1))).bind fun y12 =>
  cond (!y12)
   (some (false,u1,l3_p3))
   ((Kg l3_p3 x9).bind fun x16 =>
   cond (!x16)
    (some (u2,wI (u1+1),l3_p3.set x9.toNat true))
    (some (u2,u1,l3_p3)))).bind fun (u4,u5,l7_p3) =>
 og (u0+1<4611686018427387904) <|
 some (Ctl.next (u0+1,u4,u5,l7_p3)))
 (some (Ctl.out (u2,l3_p3,u1)))
def Bb (a0:List Int) (u0:Int) (u4:List (Int×Int×(List Int)×List Int)) (u5 u6:List Int) (u1:Bool) (u2:List Bool) (u3:Int):Option (Bool×List Bool×Int) :=
 Az (fun s_:Nat×Bool×Int×List Bool=>Cv a0 u0 s_.1 s_.2.1 s_.2.2.1 s_.2.2.2) 4611686018427387904 (0,u1,u3,u2)
theorem Cc {u_c0_1:Value} {u_c0_2:Value} {u_c0_3:Value} {a0:List Int} {u0:Int} {u1:List (Int×Int×(List Int)×List Int)} {u2 u3:List Int} {u6:Bool} {u4:List Bool} {u7:Int} {r:Bool×List Bool×Int} (h:Bb a0 u0 u1 u2 u3 u6 u4 u7=some r):I3 Tryz.prog Tab 39 [tI a0,.box (oi 0 0) 0,.box (oi 1 0) 0,.box (oi 2 0) 0,.box (oi 4 0) 0] [(oi 0 0,.cells 25 [ai u0,.giv u_c0_1 Y4 u1,.giv u_c0_2 .int u2,.giv u_c0_3 .int u3]),(oi 1 0,.cells 4 [.bool u6]),(oi 2 0,.cells 62 [.own (oi 3 0) .bool 0 u4.length]),(oi 3 0,.arr 4 .bool u4),(oi 4 0,.cells 3 [ai u7])] (.tup []) [(oi 0 0,.cells 25 [ai u0,.giv u_c0_1 Y4 u1,.giv u_c0_2 .int u2,.giv u_c0_3 .int u3]),(oi 1 0,.cells 4 [.bool r.1]),(oi 2 0,.cells 62 [.own (oi 3 0) .bool 0 r.2.1.length]),(oi 3 0,.arr 4 .bool r.2.1),(oi 4 0,.cells 3 [ai r.2.2])]:=by
 refine Pg kr Tryz.func39 (Oa kr) (n:=31) kr (by simp) (tl:=[(0,tI a0),(1,.box (oi 0 0) 0),(2,.box (oi 1 0) 0),(3,.box (oi 2 0) 0),(4,.box (oi 4 0) 0)]) rfl kr ⟨trivial,⟨trivial,⟨trivial,⟨trivial,⟨trivial,trivial⟩⟩⟩⟩⟩ ⟨trivial,⟨trivial,⟨trivial,⟨trivial,⟨trivial,trivial⟩⟩⟩⟩⟩ ⟨.inr (.head _),⟨.inl kr,⟨.inl kr,⟨.inl kr,⟨.inl kr,trivial⟩⟩⟩⟩⟩ (Am (Ai (lpF h (fun (u5,u8,u9,l3_p3)=>sT [(1,.box (oi 0 0) 0),(2,.box (oi 1 0) 0),(3,.box (oi 2 0) 0),(4,.box (oi 4 0) 0),(8,tI a0),(9,an a0.length),(10,an u5)] [(oi 0 0,.cells 25 [ai u0,.giv u_c0_1 Y4 u1,.giv u_c0_2 .int u2,.giv u_c0_3 .int u3]),(oi 1 0,.cells 4 [.bool u8]),(oi 2 0,.cells 62 [.own (oi 3 0) .bool 0 l3_p3.length]),(oi 4 0,.cells 3 [ai u9]),(oi 3 0,.arr 4 .bool l3_p3)]) (Av []) ?_)));rintro n_ ⟨u5,u8,u9,l3_p3⟩ c_ h hn3;refine Am (Ab (kQ h (fun _ h=>skW (sqF h (fun (ua,ub,l7_p3)=>sT [(1,.box (oi 0 0) 0),(2,.box (oi 1 0) 0),(3,.box (oi 2 0) 0),(4,.box (oi 4 0) 0),(8,tI a0),(9,an a0.length),(10,an u5)] [(oi 0 0,.cells 25 [ai u0,.giv u_c0_1 Y4 u1,.giv u_c0_2 .int u2,.giv u_c0_3 .int u3]),(oi 1 0,.cells 4 [.bool ua]),(oi 2 0,.cells 62 [.own (oi 3 0) .bool 0 l7_p3.length]),(oi 4 0,.cells 3 [ai ub]),(oi 3 0,.arr 4 .bool l7_p3)]) ?_ ?_)) fun _ h=>H6 (te_ (te_ (be_ (have h:=jO h hn3;(by obtain rfl:=osj h;exact Aew [] (Av (tl:=[]) (g:=2) []))))))))
 ·intro _ h;refine Ai (Ab (Aa 6 (riH .int h fun x9 _ h=>rsT 2 (rnW (Ab (Ab (Aa 12 (rsT 4 (rcH h Fm fun y12 h=>rsT 1 (rnW (kQ h (fun _ h=>Am (H6 (te_ (be_ (tn_ (jE [])))))) fun _ h=>skW (Ab (Aa 17 (rsT 2 ?_))))))))))))));obtain ⟨x16,f16,h⟩:=Au h;obtain ⟨p16,b16,e16⟩:=E5 f16;exact rs0 (.elt (oi 3 0) x9.toNat 0) (zo (t:=.bool) (o:=oi 3 0) (len:=l3_p3.length) (k:=.i64) (m:=x9) p16 (Ay e16)) (rsl (.bool x16) (Gn (i:=oi 3 0) (j:=x9.toNat) (k:=0) (e:=4) (t:=.bool) (xs:=l3_p3) kr kr e16 kr) (rsT 1 (rnW (kQ h (fun _ h=>Ab (Aa 21 (rsT 2 (rs0 (.elt (oi 3 0) x9.toNat 0) (zo (t:=.bool) (o:=oi 3 0) (len:=l3_p3.length) (k:=.i64) (m:=x9) p16 (Ay e16)) (Agd (oi 3 0) (oi 3 0) (.arr 4 .bool (l3_p3.set x9.toNat true)) (Ae3 (i:=oi 3 0) (j:=x9.toNat) (k:=0) (e:=4) (t:=.bool) (xs:=l3_p3) (cs:=[.bool true]) (x1:=true) kr kr e16 kr kr) (rnW (Aa 24 (rsB 3 (A0 (bn_ (tn_ (by obtain rfl:=osj h;exact (Aar (oi 2 0) (.cells 62 [.own (oi 3 0) .bool 0 l3_p3.length]) (.cells 62 [.own (oi 3 0) .bool 0 ((l3_p3.set x9.toNat true).length)]) kr (congrArg (fun z_=>(.cells 62 [.own (oi 3 0) .bool 0 z_]:Ob)) (((rfl:l3_p3.length=l3_p3.length).trans List.length_set.symm):l3_p3.length=(l3_p3.set x9.toNat true).length))).trans (Av []))))))))))))) fun _ h=>Ba (bn_ (tn_ (jE [])))))))
 rintro ⟨ua,ub,l7_p3⟩ h;exact Aa 4 (raH h fun h=>rsT 1 (A0 (tn_ (jL []))))
def A5 (u1:List (Int×Int×(List Int)×List Int)) (u2:Int) (u3:List (Int×Int×(List Int)×List Int)) (u4 u5:List Int) (u0:Nat) (u6:Bool) (u7:Int) (l8_p3:List Bool):Option (Ctl (Nat×Bool×Int×List Bool) (Bool×List Bool×Int)) :=
 cond (decide ((u0:Int)<(u1.length:Int)))
 ((u1[u0]?).bind fun x14 =>
 (Bb x14.2.2.1 u2 u3 u4 u5 u6 l8_p3 u7).bind fun y16 =>
 (Bb x14.2.2.2 u2 u3 u4 u5 y16.1 y16.2.1 y16.2.2).bind fun y17 =>
 og (u0+1<4611686018427387904) <|
 some (Ctl.next (u0+1,y17.1,y17.2.2,y17.2.1)))
 (some (Ctl.out (u6,l8_p3,u7)))
def Ap (ua:Int) (u4:List (Int×Int×(List Int)×List Int)) (u5 u6:List Int) (u0:Int) (u1:List (Int×Int×(List Int)×List Int)) (u2 u3:List Int) (u7:Bool) (u8:List Bool) (u9:Int):Option (Bool×List Bool×Int) :=
 (Bb u5 u0 u1 u2 u3 u7 u8 u9).bind fun y4 =>
(Bb u6 u0 u1 u2 u3 y4.1 y4.2.1 y4.2.2).bind fun y6 =>
Az (fun s_:Nat×Bool×Int×List Bool=>A5 u4 u0 u1 u2 u3 s_.1 s_.2.1 s_.2.2.1 s_.2.2.2) 4611686018427387904 (0,y6.1,y6.2.2,y6.2.1)
theorem C9 {u_a1_0_1:Value} {u_a1_0_2:Value} {u_a1_0_3:Value} {u8:Int} {u4:List (Int×Int×(List Int)×List Int)} {u5 u6:List Int} {u0:Int} {u1:List (Int×Int×(List Int)×List Int)} {u2 u3:List Int} {u9:Bool} {u7:List Bool} {ua:Int} {r:Bool×List Bool×Int} (h:Ap u8 u4 u5 u6 u0 u1 u2 u3 u9 u7 ua=some r):I3 Tryz.prog Tab 38 [.agg [ai u8,.tree Y4 u4,tI u5,tI u6],.fn 39 [.box (oi 0 0) 0,.box (oi 1 0) 0,.box (oi 2 0) 0,.box (oi 4 0) 0]] [(oi 0 0,.cells 25 [ai u0,.giv u_a1_0_1 Y4 u1,.giv u_a1_0_2 .int u2,.giv u_a1_0_3 .int u3]),(oi 1 0,.cells 4 [.bool u9]),(oi 2 0,.cells 62 [.own (oi 3 0) .bool 0 u7.length]),(oi 3 0,.arr 4 .bool u7),(oi 4 0,.cells 3 [ai ua])] (.tup []) [(oi 0 0,.cells 25 [ai u0,.giv u_a1_0_1 Y4 u1,.giv u_a1_0_2 .int u2,.giv u_a1_0_3 .int u3]),(oi 1 0,.cells 4 [.bool r.1]),(oi 2 0,.cells 62 [.own (oi 3 0) .bool 0 r.2.1.length]),(oi 3 0,.arr 4 .bool r.2.1),(oi 4 0,.cells 3 [ai r.2.2])]:=by
 refine Pg kr Tryz.func38 (Oa kr) (n:=30) kr (by simp) (tl:=[(0,.agg [ai u8,.tree Y4 u4,tI u5,tI u6]),(1,.fn 39 [.box (oi 0 0) 0,.box (oi 1 0) 0,.box (oi 2 0) 0,.box (oi 4 0) 0])]) rfl kr ⟨trivial,⟨trivial,⟨trivial,⟨trivial,⟨trivial,trivial⟩⟩⟩⟩⟩ ⟨trivial,⟨trivial,⟨trivial,⟨trivial,⟨trivial,trivial⟩⟩⟩⟩⟩ ⟨.inr (.head _),⟨.inl kr,⟨.inl kr,⟨.inl kr,⟨.inl kr,trivial⟩⟩⟩⟩⟩ (Am (Ab (Aa 6 (rsT 3 ?_))));obtain ⟨y4,h4,h⟩:=Au h;refine Pf (.tup []) [(oi 0 0,some (.cells 25 [ai u0,.giv u_a1_0_1 Y4 u1,.giv u_a1_0_2 .int u2,.giv u_a1_0_3 .int u3])),(oi 1 0,some (.cells 4 [.bool y4.1])),(oi 2 0,some (.cells 62 [.own (oi 3 0) .bool 0 y4.2.1.length])),(oi 3 0,some (.arr 4 .bool y4.2.1)),(oi 4 0,some (.cells 3 [ai y4.2.2])),(oi 0 0,none),(oi 1 0,none),(oi 2 0,none),(oi 3 0,none),(oi 4 0,none)] [] [tI u5,.box (oi 0 0) 0,.box (oi 1 0) 0,.box (oi 2 0) 0,.box (oi 4 0) 0] (caps:=[.box (oi 0 0) 0,.box (oi 1 0) 0,.box (oi 2 0) 0,.box (oi 4 0) 0]) trivial (Cc (u_c0_1:=u_a1_0_1) (u_c0_2:=u_a1_0_2) (u_c0_3:=u_a1_0_3) h4) kr ⟨kr,⟨kr,⟨kr,⟨kr,⟨kr,trivial⟩⟩⟩⟩⟩ (.cons (.ren kr) (.cons (.ren kr) (.cons (.ren kr) (.cons (.ren kr) (.cons (.ren kr) .nil))))) (Ft kr kr ⟨Ci kr,⟨Ci kr,⟨Ci kr,⟨Jc (k:=oi 2 0) (ty:=62) (cs:=[.own (oi 3 0) .bool 0 u7.length]) (Ci kr) kr kr,⟨Ci kr,trivial⟩⟩⟩⟩⟩) (rnW (Ab (Aa 10 (rsT 3 ?_))));obtain ⟨y6,h6,h⟩:=Au h;refine Pf (.tup []) [(oi 0 0,some (.cells 25 [ai u0,.giv u_a1_0_1 Y4 u1,.giv u_a1_0_2 .int u2,.giv u_a1_0_3 .int u3])),(oi 1 0,some (.cells 4 [.bool y6.1])),(oi 2 0,some (.cells 62 [.own (oi 3 0) .bool 0 y6.2.1.length])),(oi 3 0,some (.arr 4 .bool y6.2.1)),(oi 4 0,some (.cells 3 [ai y6.2.2])),(oi 0 0,none),(oi 1 0,none),(oi 2 0,none),(oi 3 0,none),(oi 4 0,none)] [] [tI u6,.box (oi 0 0) 0,.box (oi 1 0) 0,.box (oi 2 0) 0,.box (oi 4 0) 0] (caps:=[.box (oi 0 0) 0,.box (oi 1 0) 0,.box (oi 2 0) 0,.box (oi 4 0) 0]) trivial (Cc (u_c0_1:=u_a1_0_1) (u_c0_2:=u_a1_0_2) (u_c0_3:=u_a1_0_3) h6) kr ⟨kr,⟨kr,⟨kr,⟨kr,⟨kr,trivial⟩⟩⟩⟩⟩ (.cons (.ren kr) (.cons (.ren kr) (.cons (.ren kr) (.cons (.ren kr) (.cons (.ren kr) .nil))))) (Ft kr kr ⟨Ci kr,⟨Ci kr,⟨Ci kr,⟨Jc (k:=oi 2 0) (ty:=62) (cs:=[.own (oi 3 0) .bool 0 y4.2.1.length]) (Ci kr) kr kr,⟨Ci kr,trivial⟩⟩⟩⟩⟩) (rnW (Am (Ai (lpF h (fun (ub,uc,ud,l8_p3)=>sT [(1,.fn 39 [.box (oi 0 0) 0,.box (oi 1 0) 0,.box (oi 2 0) 0,.box (oi 4 0) 0]),(15,.tree Y4 u4),(16,an u4.length),(17,an ub)] [(oi 0 0,.cells 25 [ai u0,.giv u_a1_0_1 Y4 u1,.giv u_a1_0_2 .int u2,.giv u_a1_0_3 .int u3]),(oi 1 0,.cells 4 [.bool uc]),(oi 2 0,.cells 62 [.own (oi 3 0) .bool 0 l8_p3.length]),(oi 4 0,.cells 3 [ai ud]),(oi 3 0,.arr 4 .bool l8_p3)]) (Av []) ?_))));rintro n_ ⟨ub,uc,ud,l8_p3⟩ c_ h hn8;refine Am (Ab (kQ h (fun _ h=>skW (Ab (Ai (Ab (Aa 7 (riH Y4 h fun x14 _ h=>rsB 3 (rnW (Ab (Aa 11 (rsT 3 ?_)))))))))) fun _ h=>H6 (te_ (te_ (be_ (have h:=jO h hn8;(by obtain rfl:=osj h;exact Aew [] (Av (tl:=[]) (g:=2) []))))))));obtain ⟨y16,h16,h⟩:=Au h;refine Pf (.tup []) [(oi 0 0,some (.cells 25 [ai u0,.giv u_a1_0_1 Y4 u1,.giv u_a1_0_2 .int u2,.giv u_a1_0_3 .int u3])),(oi 1 0,some (.cells 4 [.bool y16.1])),(oi 2 0,some (.cells 62 [.own (oi 3 0) .bool 0 y16.2.1.length])),(oi 3 0,some (.arr 4 .bool y16.2.1)),(oi 4 0,some (.cells 3 [ai y16.2.2])),(oi 0 0,none),(oi 1 0,none),(oi 2 0,none),(oi 3 0,none),(oi 4 0,none)] [] [tI x14.2.2.1,.box (oi 0 0) 0,.box (oi 1 0) 0,.box (oi 2 0) 0,.box (oi 4 0) 0] (caps:=[.box (oi 0 0) 0,.box (oi 1 0) 0,.box (oi 2 0) 0,.box (oi 4 0) 0]) trivial (Cc (u_c0_1:=u_a1_0_1) (u_c0_2:=u_a1_0_2) (u_c0_3:=u_a1_0_3) h16) kr ⟨kr,⟨kr,⟨kr,⟨kr,⟨kr,trivial⟩⟩⟩⟩⟩ (.cons (.ren kr) (.cons (.ren kr) (.cons (.ren kr) (.cons (.ren kr) (.cons (.ren kr) .nil))))) (Ft kr kr ⟨Ci kr,⟨Ci kr,⟨Ci kr,⟨Jc (k:=oi 2 0) (ty:=62) (cs:=[.own (oi 3 0) .bool 0 l8_p3.length]) (Ci kr) kr kr,⟨Ci kr,trivial⟩⟩⟩⟩⟩) (rnW (Aa 15 (rsT 3 ?_)));obtain ⟨y17,h17,h⟩:=Au h;exact Pf (.tup []) [(oi 0 0,some (.cells 25 [ai u0,.giv u_a1_0_1 Y4 u1,.giv u_a1_0_2 .int u2,.giv u_a1_0_3 .int u3])),(oi 1 0,some (.cells 4 [.bool y17.1])),(oi 2 0,some (.cells 62 [.own (oi 3 0) .bool 0 y17.2.1.length])),(oi 3 0,some (.arr 4 .bool y17.2.1)),(oi 4 0,some (.cells 3 [ai y17.2.2])),(oi 0 0,none),(oi 1 0,none),(oi 2 0,none),(oi 3 0,none),(oi 4 0,none)] [] [tI x14.2.2.2,.box (oi 0 0) 0,.box (oi 1 0) 0,.box (oi 2 0) 0,.box (oi 4 0) 0] (caps:=[.box (oi 0 0) 0,.box (oi 1 0) 0,.box (oi 2 0) 0,.box (oi 4 0) 0]) trivial (Cc (u_c0_1:=u_a1_0_1) (u_c0_2:=u_a1_0_2) (u_c0_3:=u_a1_0_3) h17) kr ⟨kr,⟨kr,⟨kr,⟨kr,⟨kr,trivial⟩⟩⟩⟩⟩ (.cons (.ren kr) (.cons (.ren kr) (.cons (.ren kr) (.cons (.ren kr) (.cons (.ren kr) .nil))))) (Ft kr kr ⟨Ci kr,⟨Ci kr,⟨Ci kr,⟨Jc (k:=oi 2 0) (ty:=62) (cs:=[.own (oi 3 0) .bool 0 y16.2.1.length]) (Ci kr) kr kr,⟨Ci kr,trivial⟩⟩⟩⟩⟩) (A0 (bn_ (tn_ (wr_ (Aa 17 (raH h fun h=>rsT 1 (A0 (tn_ (jL [])))))))))
theorem Db (h:Ap cA gA aA aB cB gB aC aD bA jA cC=some kA):I3 Tryz.prog Tab 38 [.agg [ai cA,.tree Y4 gA,tI aA,tI aB],.fn 39 [.box (oi 0 0) 0,.box (oi 1 0) 0,.box (oi 2 0) 0,.box (oi 4 0) 0]] [(oi 0 0,.cells 25 [ai cB,.tree Y4 gB,tI aC,tI aD]),(oi 1 0,.cells 4 [.bool bA]),(oi 2 0,.cells 62 [.own (oi 3 0) .bool 0 jA.length]),(oi 3 0,.arr 4 .bool jA),(oi 4 0,.cells 3 [ai cC])] (.tup []) [(oi 0 0,.cells 25 [ai cB,.tree Y4 gB,tI aC,tI aD]),(oi 1 0,.cells 4 [.bool kA.1]),(oi 2 0,.cells 62 [.own (oi 3 0) .bool 0 kA.2.1.length]),(oi 3 0,.arr 4 .bool kA.2.1),(oi 4 0,.cells 3 [ai kA.2.2])] :=
 Kr (fun u_a1_0_1=>[(oi 0 0,.cells 25 [ai cB,.giv u_a1_0_1 Y4 gB,tI aC,tI aD]),(oi 1 0,.cells 4 [.bool bA]),(oi 2 0,.cells 62 [.own (oi 3 0) .bool 0 jA.length]),(oi 3 0,.arr 4 .bool jA),(oi 4 0,.cells 3 [ai cC])]) (fun u_a1_0_1=>[(oi 0 0,.cells 25 [ai cB,.giv u_a1_0_1 Y4 gB,tI aC,tI aD]),(oi 1 0,.cells 4 [.bool kA.1]),(oi 2 0,.cells 62 [.own (oi 3 0) .bool 0 kA.2.1.length]),(oi 3 0,.arr 4 .bool kA.2.1),(oi 4 0,.cells 3 [ai kA.2.2])]) (oi 0 0) 1 (t:=Y4) (xs:=gB) (fun u_a1_0_1=>Kr (fun u_a1_0_2=>[(oi 0 0,.cells 25 [ai cB,.giv u_a1_0_1 Y4 gB,.giv u_a1_0_2 .int aC,tI aD]),(oi 1 0,.cells 4 [.bool bA]),(oi 2 0,.cells 62 [.own (oi 3 0) .bool 0 jA.length]),(oi 3 0,.arr 4 .bool jA),(oi 4 0,.cells 3 [ai cC])]) (fun u_a1_0_2=>[(oi 0 0,.cells 25 [ai cB,.giv u_a1_0_1 Y4 gB,.giv u_a1_0_2 .int aC,tI aD]),(oi 1 0,.cells 4 [.bool kA.1]),(oi 2 0,.cells 62 [.own (oi 3 0) .bool 0 kA.2.1.length]),(oi 3 0,.arr 4 .bool kA.2.1),(oi 4 0,.cells 3 [ai kA.2.2])]) (oi 0 0) 2 (t:=.int) (xs:=aC) (fun u_a1_0_2=>Kr (fun u_a1_0_3=>[(oi 0 0,.cells 25 [ai cB,.giv u_a1_0_1 Y4 gB,.giv u_a1_0_2 .int aC,.giv u_a1_0_3 .int aD]),(oi 1 0,.cells 4 [.bool bA]),(oi 2 0,.cells 62 [.own (oi 3 0) .bool 0 jA.length]),(oi 3 0,.arr 4 .bool jA),(oi 4 0,.cells 3 [ai cC])]) (fun u_a1_0_3=>[(oi 0 0,.cells 25 [ai cB,.giv u_a1_0_1 Y4 gB,.giv u_a1_0_2 .int aC,.giv u_a1_0_3 .int aD]),(oi 1 0,.cells 4 [.bool kA.1]),(oi 2 0,.cells 62 [.own (oi 3 0) .bool 0 kA.2.1.length]),(oi 3 0,.arr 4 .bool kA.2.1),(oi 4 0,.cells 3 [ai kA.2.2])]) (oi 0 0) 3 (t:=.int) (xs:=aD) (fun u_a1_0_3=>C9 (u_a1_0_1:=u_a1_0_1) (u_a1_0_2:=u_a1_0_2) (u_a1_0_3:=u_a1_0_3) h) (fun _=>.head _) (fun _=>.head _)) (fun _=>.head _) (fun _=>.head _)) (fun _=>.head _) (fun _=>.head _)
def Da (u1:List (Int×Int×(List Int)×List Int)) (u0:Nat):Option (Ctl Nat (Ctl Unit Bool)) :=
 cond (decide ((u0:Int)<(u1.length:Int)))
 ((u1[u0]?).bind fun x18 =>
 (Do x18.1 x18.2.1 x18.2.2.1 x18.2.2.2).bind fun y20 =>
 cond (!y20)
  (some (Ctl.out (Ctl.out false)))
  (og (u0+1<4611686018427387904) <|
  some (Ctl.next (u0+1))))
 (some (Ctl.out (Ctl.next ())))
def Ea (u0:Int) (u1:List (Int×Int×(List Int)×List Int)) (u2 u3:List Int):Option Bool :=
 ((C4 u0 0 100).bind fun y4 =>
 cond (!y4)
  (some true)
  (cond (decide (60<(u1.length:Int)))
   (some true)
   (cond (decide (12<(u2.length:Int)))
    (some true)
    (some (decide (12<(u3.length:Int))))))).bind fun u4 =>
cond u4
 (some false)
 (Mm (Az (fun s_:Nat=>Da u1 s_) 4611686018427387904 0) fun _ =>
 og (0<=u0/\u0<=u0/\u0<=1073741824/\(1:Int)*u0<=140737488355328) <|
 (Ap u0 u1 u2 u3 u0 u1 u2 u3 true (List.replicate u0.toNat (false:Bool)) 0).bind fun y27 =>
 (cond y27.1
   (some (y27.2.2==u0))
   (some false)).bind fun u5 =>
 some u5)
theorem I6 (h:Ea cA gA aA aB=some bA):cK 17 [.agg [ai cA,.tree Y4 gA,tI aA,tI aB]] (At bA):=by
 refine cO Tryz.func17 (Am (Ab (sqF h (fun u4=>sT [(1,.box (oi 0 1) 0),(29,.bool u4)] [(oi 0 1,.cells 25 [ai cA,.tree Y4 gA,tI aA,tI aB])]) (fun _ h=>Aa 25 (rsT 2 (rcH h Fm fun y4 h=>rsT 2 (kR h 12 (fun _ h=>rsT 17 (A0 (tn_ (jE [(oi 0 1,oi 1 1)])))) fun _ h=>rsT 6 (kR h 18 (fun _ h=>rsT 11 (A0 (tn_ (jE [(oi 0 1,oi 1 1)])))) fun _ h=>rsT 6 (kR h 24 (fun _ h=>rsT 5 (A0 (tn_ (jE [(oi 0 1,oi 1 1)])))) fun _ h=>rsT 5 (A0 (tn_ (jE [(oi 0 1,oi 1 1)]))))))))) ?_)));intro u4 h;refine kQ h (fun _ h=>Am (Af (tr_ (jS h)))) fun _ h=>skW (sqC h (fun _=>sT [(1,.box (oi 0 1) 0)] [(oi 0 1,.cells 25 [ai cA,.tree Y4 gA,tI aA,tI aB])]) (fun _ h hk10=>Am (Ai (lpF h (fun u5=>sT [(1,.box (oi 0 1) 0),(31,.tree Y4 gA),(32,an gA.length),(33,an u5)] [(oi 0 1,.cells 25 [ai cA,.tree Y4 gA,tI aA,tI aB])]) (Av []) (fun n_ u5 c_ h hn12=>Am (Ab (kQ h (fun _ h=>skW (Ab (Ai (Ab (Aa 7 (riH Y4 h fun x18 _ h=>rsB 3 (rnW (Ab (Aa 10 (rsT 1 (rcH h Kh fun y20 h=>rsT 1 (rnW (kQ h (fun _ h=>Am (Af (br_ (tr_ (tr_ (br_ (tr_ (have h:=jO h hn12;(have h:=jO h hk10;jS h))))))))) fun _ h=>Ba (bn_ (tn_ (wr_ (Aa 12 (raH h fun h=>rsT 1 (A0 (tn_ (jL []))))))))))))))))))))) fun _ h=>lxT (have h:=jO h hn12;jC []))))))) ?_)
 intro _ h;refine Ab (Aa 11 (rsT 2 ?_));obtain ⟨g25,h⟩:=Ax h;exact rs1 (.own (oi 43 4) .bool 0 ((List.replicate cA.toNat (false:Bool)).length)) (oi 43 4) (.arr 4 .bool (List.replicate cA.toNat (false:Bool))) (Adq (t:=.bool) (k:=.i64) (k':=.i64) (m:=cA) (m':=cA) kr kr g25 rfl) (rsB 6 (rnW (Ab (Aa 14 (rsT 2 (rcM h [(oi 0 0,oi 0 1),(oi 1 0,oi 6 6),(oi 2 0,oi 5 5),(oi 3 0,oi 43 4),(oi 4 0,oi 7 7)] [.agg [ai cA,.tree Y4 gA,tI aA,tI aB],.fn 39 [.box (oi 0 1) 0,.box (oi 6 6) 0,.box (oi 5 5) 0,.box (oi 7 7) 0]] Db ⟨kr,⟨kr,⟨kr,⟨kr,⟨kr,trivial⟩⟩⟩⟩⟩ (aR kr) (Ft kr kr ⟨Ci kr,⟨Ci kr,⟨Ci kr,⟨Jc (k:=oi 5 5) (ty:=62) (cs:=[.own (oi 43 4) .bool 0 ((List.replicate cA.toNat (false:Bool)).length)]) (Ci kr) kr kr,⟨Ci kr,trivial⟩⟩⟩⟩⟩) fun y27 h=>rnW (sqF h (fun u6=>sT [(2,.bool u6)] []) (fun _ h=>Aa 22 (rsT 2 (kR h 48 (fun _ h=>rsT 6 (A0 (tn_ (jE [])))) fun _ h=>rsT 6 (A0 (tn_ (jE [])))))) fun u6 h=>Af (jS h))))))))
end


section
abbrev Edg:=Int×Int×List Int×List Int
def Q7 (e:Edg):Prop:=e.2.2.1.length<=1048576/\e.2.2.2.length<=1048576
theorem Ab7 (e:Edg) (h:Q7 e):Fz e.1 e.2.1 e.2.2.1 e.2.2.2 e.1 e.2.1 e.2.2.1 e.2.2.2=some true:=by
 unfold Fz;rw [bne_self_eq_false,cond_false,bne_self_eq_false,cond_false,Ls _ (by have:=h.1;omega),obs,Ls _ (by have:=h.2;omega)];rfl
theorem Ze (l:List Edg) (hl:l.length<=1048576) (hc:∀ x∈l,Q7 x):Fi l l=some true:=by
 unfold Fi;rw [bne_self_eq_false,cond_false]
 have h:Az (fun s_:Nat=>D5 l l s_) 4611686018427387904 0=some (Ctl.next ()):=by
  refine Dz l.length (fun i=>i) oM _ rfl (fun i hi=>?_) ?_
  ·have hx:=gEg hi;have hk:=hc _ (List.getElem_mem hi)
   try dsimp only
   unfold D5;rw [B5 oM,cond_true,hx,obs,obs,Ab7 _ hk,obs,Bool.not_true,cond_false,Aj oM]
  ·try dsimp only
   unfold D5;rw [B0 oM,cond_false]
 rw [h];rfl
theorem Zn (w:Int) (es:List Edg) (xs ys:List Int) (h1:es.length<=1048576) (h2:∀ x∈es,Q7 x) (h3:xs.length<=1048576) (h4:ys.length<=1048576):Hi w es xs ys w es xs ys=some true:=by
 unfold Hi;rw [bne_self_eq_false,cond_false,Ze es h1 h2,obs,Ls xs oM,obs,Ls ys oM];rfl
def edK (e:Edg):Bool:=inR e.1 3 14&&((if e.1=7∨e.1=13 then inR e.2.1 0 96 else e.2.1==0)&&(((e.2.2.1.length:Nat):Int)==(gwV e.1).1&&((e.2.2.2.length:Nat):Int)==(gwV e.1).2))
def Cu (W:Int) (xs:List Int):Bool:=xs.all fun x=>inR x 0 (W - 1)
theorem Gs {e:Edg} (h:edK e=true):e.2.2.1.length<=2/\e.2.2.2.length<=2:=by
 unfold edK at h;simp only [Bool.and_eq_true,beq_iff_eq] at h
 have:(gwV e.1).1<=2/\(gwV e.1).2<=2:=by
  unfold gwV;repeat' split
  all_goals decide
 omega
theorem Aci (e:Edg):Do e.1 e.2.1 e.2.2.1 e.2.2.2=some (edK e):=by
 unfold Do E4 Di Cw D0 edK;simp only [Qu,obs];cases hr:inR e.1 3 14
 ·rfl
 have hb:=Bn.1 hr;rw [Aj hb]
 have hl:∀ a b c d:Int,([a,b]==[c,d])=(c==a&&d==b):=by
  intro a b c d;show ((a==c)&&((b==d)&&true))=_;rw [Bool.and_true,BEq.comm (a:=a),BEq.comm (a:=b)]
 by_cases h7:e.1=7
 ·rw [h7];simp only [Int.reduceBEq,cond_true,obs,true_or,if_true,Bool.not_true,cond_false,Bool.true_and,hl];cases inR e.2.1 0 96 <;> rfl
 by_cases h13:e.1=13
 ·rw [h13];simp only [Int.reduceBEq,cond_true,cond_false,obs,or_true,if_true,Bool.not_true,Bool.true_and,hl];cases inR e.2.1 0 96 <;> rfl
 rw [if_neg oM,beq_eq_false_iff_ne.2 h7,beq_eq_false_iff_ne.2 h13];simp only [cond_false,obs,Bool.not_true,Bool.true_and,hl];cases e.2.1==0 <;> rfl
theorem Sd (k:Int) (h:3<=k/\k<=14):H2 k=some (gwV k):=by
 have hk:k=3∨k=4∨k=5∨k=6∨k=7∨k=8∨k=9∨k=10∨k=11∨k=12∨k=13∨k=14:=by omega
 rcases hk with rfl|rfl|rfl|rfl|rfl|rfl|rfl|rfl|rfl|rfl|rfl|rfl <;> rfl
theorem Abv (e:Edg) {W:Int} (hW:0<=W/\W<=100):Ez e.1 e.2.1 e.2.2.1 e.2.2.2 W=some (edK e&&(Cu W e.2.2.1&&Cu W e.2.2.2)):=by
 have hv:inR e.1 3 14=true->F2 e.1 e.2.1 (⟨#[]⟩:ByteArray)=some (if e.1=7∨e.1=13 then inR e.2.1 0 96 else e.2.1==0):=by
  intro hr;have hb:=Bn.1 hr;unfold F2;rw [show (!((⟨#[]⟩:ByteArray).toList==(⟨#[]⟩:ByteArray).toList))=false by simp,cond_false,Il,Bn.2 (show (1:Int)<=e.1/\e.1<=14 by omega),obs,obs,Bool.not_true,cond_false,beq_eq_false_iff_ne.2 (show e.1≠1 by omega),cond_false];by_cases h7:e.1=7
  ·rw [h7];simp [Il]
  by_cases h13:e.1=13
  ·rw [h13];simp [Il]
  rw [if_neg oM,beq_eq_false_iff_ne.2 h7,beq_eq_false_iff_ne.2 h13];rfl
 cases hk:edK e
 ·unfold Ez;unfold edK at hk;rw [Il,obs];cases hr:inR e.1 3 14
  ·rfl
  rw [hr,Bool.true_and] at hk;rw [hv hr,Bool.not_true,cond_false,obs];cases hq:(if e.1=7∨e.1=13 then inR e.2.1 0 96 else e.2.1==0)
  ·rfl
  rw [hq,Bool.true_and] at hk;rw [obs,Bool.not_true,cond_false,Sd _ (Bn.1 hr),obs];cases h1:((e.2.2.1.length:Nat):Int)==(gwV e.1).1
  ·rfl
  rw [h1,Bool.true_and] at hk;rw [hk];rfl
 ·have hle:=Gs hk;unfold Ez;unfold edK at hk;simp only [Bool.and_eq_true] at hk;obtain ⟨hr,hq,h1,h2⟩:=hk;rw [Il,obs,hr,Bool.not_true,cond_false,hv hr,hq,obs,obs,Bool.not_true,cond_false,Sd _ (Bn.1 hr),obs,h1,h2,cond_true,cond_true,Gk oM oM,Of _ _ _ oM,obs,Of _ _ _ oM];unfold Cu;cases (e.2.2.1.all fun x=>inR x 0 (W - 1)) <;> cases (e.2.2.2.all fun x=>inR x 0 (W - 1)) <;> rfl
end
section
open Go.RowKit Go.Deep
abbrev Bp:Ty:=.pair .int (.pair .int (.pair (.slice .int) (.slice .int)))
theorem Aal {R:Nat->Prop} {w:World} {A:Option Addr} {c:Nat} {xs:List (Int×Int×List Int×List Int)} {l:List Addr} (h:Sl R w Bp A c xs l) (h0:0<xs.length) :
  ∃ (b o:Nat) (f:Nat->List Addr),A=some ⟨b,o,none⟩/\l=(List.range xs.length).flatMap f/\∀ (k:Nat) (hk:k<xs.length),∃ A2 c2 l2 A3 c3 l3,
   w.cell? ⟨b,o+k*4,none⟩=some (.int .i64 xs[k].1)/\w.cell? ⟨b,o+k*4+1,none⟩=some (.int .i64 xs[k].2.1)/\w.cell? ⟨b,o+k*4+2,none⟩=some (.slice A2 xs[k].2.2.1.length c2)/\w.cell? ⟨b,o+k*4+3,none⟩=some (.slice A3 xs[k].2.2.2.length c3) /\
   Sl R w .int A2 c2 xs[k].2.2.1 l2/\Sl R w .int A3 c3 xs[k].2.2.2 l3/\f k=⟨b,o+k*4,none⟩ :: ⟨b,o+k*4+1,none⟩ :: (l2++l3):=by
 obtain ⟨b,o,f,rfl,hr,_,e,hf⟩:=Ab6 h h0;refine ⟨b,o,f,rfl,e,fun k hk=>?_⟩;obtain ⟨_,_,⟨h0,rfl⟩,⟨_,_,⟨h1,rfl⟩,⟨l2,l3,⟨A2,c2,h2,s2⟩,⟨A3,c3,h3,s3⟩,rfl⟩,rfl⟩,e⟩:=hf k hk;simp only [A4,Ty.size,Nat.reduceAdd] at h0 h1 h2 h3 e;exact ⟨A2,c2,l2,A3,c3,l3,h0,h1,by simpa [Nat.add_assoc] using h2,by simpa [Nat.add_assoc] using h3,s2,s3,by simpa [Nat.add_assoc] using e⟩
end
section
open Go.RowKit Go.Deep
theorem Fw {P:Program} (w:World) (base:Nat) (t ty e:TypeId) (i:TypeInfo) (z:Value) (size bytes:Nat) (ht:P.underlying t=some (.slice e)) (hi:P.info? e=some i) (hz:i.zero=some z)
  (hsize:i.size=size) (hby:i.bytes=bytes) (hzs:z.cells.size=size) (hsz:0<size) (v:Value) (n:Nat) (xs:List Value) (hown:w.ownsRow base e size v n xs)
  (a:Addr) (m c:Nat) (news:List Value) (hl:news.length=m*size) (hnews:∀ j u,news[j]? =some u->w.cell? (a.add j)=some u) (h1:∀ u∈news,u.oneCell'=true)
  (h63:n+m<=maxLen) (hbytes:(n+m)*bytes<=140737488355328) (hbase:base<=w.heap.size) :
  ∃ v' w',(Builtin.append_ #[t,t] ty #[v,.slice (some a) m c]).run P w=.ok v' w'/\w'.ownsRow base e size v' (n+m) (xs++news)/\w.grownBy w' v.ownBlock/\∀ g',v'.ownBlock=some g'->v.ownBlock=some g'∨w.heap.size<=g':=by
 obtain ⟨v',w',hr,h2,h3,_⟩:=run_append_own (P:=P) w base t ty e i z size bytes ht hi hz hsize hby hzs hsz v n xs hown a m c news hl hnews h1 h63 hbytes hbase;refine ⟨v',w',hr,h2,h3,fun g' hg'=>?_⟩;rcases hown.2 with ⟨rfl,rfl⟩|⟨g,cap,cur,rfl,_,hg,hnc,hcm,hcs,htake⟩
 ·obtain rfl:xs=[]:=List.eq_nil_of_length_eq_zero (by simpa using hown.1);obtain ⟨v2,w2,hr2,k2,_,_⟩:=run_append_own (P:=P) w w.heap.size t ty e i z size bytes ht hi hz hsize hby hzs hsz (.slice none 0 0) 0 [] (World.ownsRow_nil w _ e size) a m c news hl hnews h1 h63 hbytes (Nat.le_refl _);rw [hr] at hr2;injection hr2 with e1 e2
  subst e1 e2;exact .inr (k2.lt g' hg').1
 ·by_cases hroom:n+m<=cap
  ·obtain ⟨w2,hr2,_⟩:=run_append_own_spare (P:=P) w base t ty e i size ht hi hsize g n cap xs hown a m c news hl hnews h1 hroom;rw [hr] at hr2;injection hr2 with e1 e2
   subst e1 e2;exact .inl hg'
  ·have holds:∀ j u,xs[j]? =some u->w.cell? ((⟨g,0,none⟩:Addr).add j)=some u:=hown.cells (g:=g) rfl;have hr2:=run_append_grow (P:=P) w t ty e i z ht hi hz ⟨g,0,none⟩ n cap xs (by rw [hsize];exact hown.1) holds a m c news (by rw [hsize];exact hl) hnews oM (by simp only [maxLen] at h63;omega) (growslice_fits oM (by rw [hby];exact hbytes));rw [hr] at hr2;injection hr2 with e1 e2
   subst e1;simp only [Value.ownBlock,Option.some.injEq] at hg';exact .inr oM
def GrowV (lo:Nat) (w:World) (e:TypeId) (t:Ty) (v:Value) (xs:List t.D):Prop :=
 ∃ (cs:List Value) (f:Nat->List Addr),w.ownsRow lo e t.size v xs.length cs/\(∀ (j:Nat) (hj:j<xs.length),Ty.Val (fun b=>lo<=b/\some b≠v.ownBlock) w t ((cs.drop (j*t.size)).take t.size) (xs[j]'hj) (f j))/\Fresh w lo ((List.range xs.length).flatMap f)
section
variable {lo:Nat} {w w' w0:World} {e:TypeId} {t:Ty} {v:Value} {xs:List t.D}
theorem GrowV.nil (lo:Nat) (w:World) (e:TypeId) (t:Ty):GrowV lo w e t (.slice none 0 0) [] :=
 ⟨[],fun _=>[],World.ownsRow_nil w lo e t.size,fun j hj=>absurd hj (by simp),by simpa using Fresh.nil w lo⟩
theorem Dw {sz n:Nat} {cs:List Value} (h:w.ownsRow lo e sz v n cs) (hb:Below w.heap.size w w'):w'.ownsRow lo e sz v n cs:=by
 refine ⟨h.1,?_⟩;rcases h.2 with hn|⟨g,cap,cur,rfl,hb',hg,rest⟩
 ·exact .inl hn
 ·exact .inr ⟨g,cap,cur,rfl,hb',(hb.block g (Array.getElem?_eq_some_iff.1 hg).1).trans hg,rest⟩
theorem GrowV.below (h:GrowV lo w e t v xs) (hb:Below w.heap.size w w'):GrowV lo w' e t v xs:=by
 obtain ⟨cs,f,h1,h2,h3⟩:=h;exact ⟨cs,f,Dw h1 hb,fun j hj=>J6 (h2 j hj) hb,h3.below hb⟩
theorem GrowV.len (h:GrowV lo w e t v xs):∃ A c,v=.slice A xs.length c/\xs.length<=c/\c<=maxLen:=by
 obtain ⟨cs,f,h1,_⟩:=h;rcases h1.2 with ⟨rfl,hn⟩|⟨g,cap,cur,rfl,_,_,h2,h3,_⟩
 ·exact ⟨none,0,by rw [hn],by omega,by simp [maxLen]⟩
 ·exact ⟨_,cap,rfl,h2,h3⟩
theorem GrowV.lt (h:GrowV lo w e t v xs):∀ k,v.ownBlock=some k->lo<=k/\k<w.heap.size:=by
 obtain ⟨cs,f,h1,_⟩:=h;exact fun k hk=>h1.lt k hk
theorem GrowV.done (h:GrowV lo w e t v xs):∃ A c l,v=.slice A xs.length c/\Sl (Bu lo) w t A c xs l/\Fresh w lo l:=by
 obtain ⟨cs,f,h1,h2,h3⟩:=h;have hv:v=v:=rfl;rcases h1.2 with ⟨rfl,hn⟩|⟨g,cap,cur,rfl,hlo,hg,hc,hm,hs,htake⟩
 ·refine ⟨none,0,[],by rw [hn],⟨by omega,by simp [maxLen],fun _=>[],by simp,fun h=>absurd h oM⟩,Fresh.nil w lo⟩
 ·have hcell:∀ i,i<xs.length*t.size->w.cell? ⟨g,i,none⟩=some (cs.getD i undef):=fun i hi=>by
   have hi':i<cs.length:=by rw [h1.1];exact hi
   have:=h1.cells (g:=g) rfl i _ (gEg hi');rw [A4,Nat.zero_add] at this;rw [this,gDg,gEg hi'];rfl
  obtain ⟨fl,q1,q2,q3⟩:=Ad2 (R:=Bu lo) (n:=xs.length) hcell rfl (fun j hj _=>by
   have hsz:(j+1)*t.size<=xs.length*t.size:=Nat.mul_le_mul_right _ hj;rw [Nat.succ_mul] at hsz
   have e1:((List.range t.size).map fun i=>cs.getD (j*t.size+i) undef)=(cs.drop (j*t.size)).take t.size:=by
    have hl:=h1.1;refine List.ext_getElem (by simp;omega) fun i h1 h2=>?_
    simp only [List.length_map,List.length_range] at h1;simp only [List.getElem_map,List.getElem_range,List.getElem_take,List.getElem_drop];rw [gDg,gEg oM];rfl
   rw [e1];exact (h2 j hj).mono fun _ _ hb=>hb.1) _ (Nat.le_refl _) h3.1 (fun p hp=>by
    obtain ⟨j,hj,hpj⟩:=List.mem_flatMap.1 hp;have:=((h2 j (List.mem_range.1 hj)).leaf p hpj).1.2;exact fun e=>this (by rw [e];rfl))
  refine ⟨_,cap,_,rfl,⟨hc,hm,fl,rfl,fun _=>⟨_,rfl,hlo,fun i hi=>?_⟩⟩,q2,fun p hp=>?_⟩
  ·rw [A4,Nat.zero_add];exact q1 i hi hi
  ·rcases q3 p hp with ⟨j,_,rfl⟩|h
   ·exact ⟨hlo,(Array.getElem?_eq_some_iff.1 hg).1,by simp [World.frozen?,hg]⟩
   ·exact h3.2 p h
theorem GrowV.push {cs:List Value} {x:t.D} {l:List Addr} (h:GrowV lo w0 e t v xs) (hb:Below w0.heap.size w0 w) (hlo:lo<=w0.heap.size) (hv:Ty.Val (Bu w0.heap.size) w t cs x l) (hf:Fresh w w0.heap.size l) :
  ∃ olds,w.ownsRow lo e t.size v xs.length olds/\∀ v' w',w'.ownsRow lo e t.size v' (xs.length+1) (olds++cs)->w.grownBy w' v.ownBlock->(∀ g',v'.ownBlock=some g'->v.ownBlock=some g'∨w.heap.size<=g')->GrowV lo w' e t v' (xs++[x]):=by
 have hlt0:=h.lt;obtain ⟨olds,f,h1,h2,h3⟩:=h;refine ⟨olds,Dw h1 hb,fun v' w' hown hg hwh=>?_⟩;have hl:=hv.length;have hol:=h1.1;have hmul:∀ j,j<xs.length->(j+1)*t.size<=xs.length*t.size:=fun j hj=>Nat.mul_le_mul_right _ hj
 have hv':Ty.Val (fun b=>lo<=b/\some b≠v.ownBlock) w t cs x l:=hv.mono fun b _ (hr:w0.heap.size<=b)=>⟨by omega,fun e=>by have:=(hlt0 b e.symm).2;omega⟩
 have keep:∀ {cs:List Value} {y:t.D} {l:List Addr},Ty.Val (fun b=>lo<=b/\some b≠v.ownBlock) w t cs y l->Ty.Val (fun b=>lo<=b/\some b≠v'.ownBlock) w' t cs y l:=fun {cs y l} h=>by
  have h':Ty.Val (fun b=>(lo<=b/\some b≠v.ownBlock)/\b<w.heap.size) w t cs y l:=h.mono fun b hb hr=>⟨hr,hb⟩
  have h'':=h'.keep (w':=w') (fun p u hr hc _=>hg.cell hc hr.1.2);exact h''.mono fun b _ hr=>⟨hr.1.1,fun e=>(hwh b e.symm).elim (fun q=>hr.1.2 q.symm) (fun q=>by have:=hr.2;omega)⟩
 refine ⟨olds++cs,fun j=>if j=xs.length then l else f j,by simpa using hown,fun j hj=>?_,?_⟩
 ·by_cases e:j=xs.length
  ·subst e
   have e2:(((olds++cs).drop (xs.length*t.size)).take t.size)=cs:=by
    rw [List.drop_append_of_le_length oM,List.drop_of_length_le oM,List.nil_append,List.take_of_length_le oM]
   rw [e2]
   simpa using keep hv'
  ·have hj':j<xs.length:=by simp at hj;omega
   have:=hmul j hj';rw [Nat.succ_mul] at this
   have e2:(((olds++cs).drop (j*t.size)).take t.size)=((olds.drop (j*t.size)).take t.size):=by
    rw [List.drop_append_of_le_length oM,List.take_append_of_le_length (by rw [List.length_drop];omega)]
   rw [e2,List.getElem_append_left hj'];simp only [if_neg e];exact keep (J6 (h2 j hj') hb)
 ·have e1:(List.range (xs++[x]).length).flatMap (fun j=>if j=xs.length then l else f j)=(List.range xs.length).flatMap f++l:=by
   rw [List.length_append,List.length_singleton,C6];simp only [if_true];congr 1;rw [List.flatMap_def,List.flatMap_def];congr 1;exact List.map_congr_left fun j hj=>if_neg (by have:=List.mem_range.1 hj;omega)
  rw [e1];have hF:Fresh w lo ((List.range xs.length).flatMap f++l):=Fresh.append h3 hb hf hlo;refine ⟨hF.1,fun p hp=>?_⟩;obtain ⟨q1,q2,q3⟩:=hF.2 p hp
  have hne:some p.block≠v.ownBlock:=by
   rcases List.mem_append.1 hp with h|h
   ·obtain ⟨j,hj,hpj⟩:=List.mem_flatMap.1 h;exact ((h2 j (List.mem_range.1 hj)).leaf p hpj).1.2
   ·exact (hv'.leaf p h).1.2
  exact ⟨q1,Nat.lt_of_lt_of_le q2 hg.size,(World.frozen?_of_block (hg.block _ q2 hne)).trans q3⟩
end
variable {P:Program} {ops:Array Oper} {rest:List Oper} {o:Oper} {a:Act} {Q:Exit->Act->World->Prop}
theorem U8 {lo:Nat} {w w0:World} {e:TypeId} {t:Ty} {v:Value} {xs:List t.D} {cs:List Value} {y:t.D} {l:List Addr} {K:Act->World->Prop} (s x:Operand) (ty:TypeId) (ho:o.op=.call { callee:=.builtin .append,args:= #[s,x],argTypes:= #[ty,ty] }) (bytes:Nat) {z:Value} (ht:P.underlying ty=some (.slice e))
  (hinfo:(P.info? e).map (fun i=>(i.zero,i.size,i.bytes))=some (some z,t.size,bytes)) (hzs:z.cells.size=t.size) (hsz:0<t.size) (hs:a.eval s=v) (h:GrowV lo w0 e t v xs) (hb:Below w0.heap.size w0 w) (hlo:lo<=w0.heap.size) (hv:Ty.Val (Bu w0.heap.size) w t cs y l) (hf:Fresh w w0.heap.size l)
  {ad:Addr} {c:Nat} (hx:a.eval x=.slice (some ad) 1 c) (hc:∀ j u,cs[j]? =some u->w.cell? (ad.add j)=some u) (h1:∀ u∈cs,u.oneCell'=true) (hbytes:(xs.length+1)*bytes<=140737488355328) (h63:xs.length+1<=maxLen)
  (hK:∀ v' w',GrowV lo w' e t v' (xs++[y])->Below lo w w'->w.grownBy w' v.ownBlock->K (a.put o.dst v') w'):o.wp P a w K Q:=by
 obtain ⟨i,hi,hz,hsize,hby⟩:=info_parts hinfo;obtain ⟨olds,hown,hpush⟩:=h.push hb hlo hv hf;have hl:cs.length=1*t.size:=by rw [hv.length,Nat.one_mul]
 obtain ⟨v',w',hr,h2,h3,h4⟩:=Fw (P:=P) w lo ty o.type e i z t.size bytes ht hi hz hsize hby hzs hsz v xs.length olds hown ad 1 c cs hl hc h1 h63 hbytes (Nat.le_trans hlo hb.size);have hlt:=(h.below hb).lt;unfold Oper.wp execOp;simp only [ho,resolve,invoke,builtin,Sem.run_bind,Sem.run_pure,Result.andThen_ok,List.map_toArray,List.map_cons,List.map_nil,hs,hx,hr];exact hK v' w' (hpush v' w' h2 h3 h4) ((Below.refl lo w).grown h3 (Nat.le_trans hlo hb.size) (fun k hk=>(hlt k hk).1)) h3
theorem Tw {lo:Nat} {w w0:World} {e:TypeId} {t:Ty} {v:Value} {xs:List t.D} {cs:List Value} {y:t.D} {l:List Addr} (hgd:o.guard=none) (s x:Operand) (ty:TypeId) (ho:o.op=.call { callee:=.builtin .append,args:= #[s,x],argTypes:= #[ty,ty] }) (bytes:Nat) {z:Value} (ht:P.underlying ty=some (.slice e))
  (hinfo:(P.info? e).map (fun i=>(i.zero,i.size,i.bytes))=some (some z,t.size,bytes)) (hzs:z.cells.size=t.size) (hsz:0<t.size) (hs:a.eval s=v) (h:GrowV lo w0 e t v xs) (hb:Below w0.heap.size w0 w) (hlo:lo<=w0.heap.size) (hv:Ty.Val (Bu w0.heap.size) w t cs y l) (hf:Fresh w w0.heap.size l)
  {ad:Addr} {c:Nat} (hx:a.eval x=.slice (some ad) 1 c) (hc:∀ j u,cs[j]? =some u->w.cell? (ad.add j)=some u) (h1:∀ u∈cs,u.oneCell'=true) (hbytes:(xs.length+1)*bytes<=140737488355328) (h63:xs.length+1<=maxLen)
  (hL:∀ v' w',GrowV lo w' e t v' (xs++[y])->Below lo w w'->w.grownBy w' v.ownBlock->wpList P ops Q rest (a.put o.dst v') w'):wpList P ops Q (o :: rest) a w :=
 wpList_plain hgd fun _ hK=>U8 s x ty ho bytes ht hinfo hzs hsz hs h hb hlo hv hf hx hc h1 hbytes h63 fun v' w' g1 g2 g3=>hK _ _ (hL v' w' g1 g2 g3)
end
section
open Go.RowKit Go.Deep
section
variable {lo:Nat} {w w' w0:World} {e:TypeId} {t:Ty} {v:Value} {xs:List t.D}
end
section
variable {P:Program} {ops:Array Oper} {o:Oper} {a:Act} {Q:Exit->Act->World->Prop}
end
end
section
open Go.RowKit Go.Deep
theorem om {p:Prop} (h:p:=by first|(simp;done)|omega|(simp;omega)):p:=h
theorem bw {p:Prop} (h:p:=by repeat (first|with_reducible exact Below.refl _ _|((with_reducible refine Below.setCell ?_ ?_ _);rotate_left;focus (first|(simp;done)|omega|(simp;omega)))|((with_reducible refine Below.alloc ?_ ?_ _);rotate_left;focus (first|(simp;done)|omega|(simp;omega)))|(with_reducible refine Below.drew ?_)|(with_reducible refine below_draws_ ?_ _)|((with_reducible refine Below.trans ?_ (Below.mono hb_w1 ?_));rotate_left;focus (first|(simp;done)|omega|(simp;omega)))|((with_reducible refine Below.trans ?_ (Below.mono hb_w2 ?_));rotate_left;focus (first|(simp;done)|omega|(simp;omega)))|((with_reducible refine Below.trans ?_ (Below.mono hb_w3 ?_));rotate_left;focus (first|(simp;done)|omega|(simp;omega)))|((with_reducible refine Below.trans ?_ (Below.mono hb_w4 ?_));rotate_left;focus (first|(simp;done)|omega|(simp;omega)))|((with_reducible refine Below.trans ?_ (Below.mono hb_w5 ?_));rotate_left;focus (first|(simp;done)|omega|(simp;omega)))|((with_reducible refine Below.trans ?_ (Below.mono hb_w6 ?_));rotate_left;focus (first|(simp;done)|omega|(simp;omega)))|((with_reducible refine Below.trans ?_ (Below.mono hb_w7 ?_));rotate_left;focus (first|(simp;done)|omega|(simp;omega)))|((with_reducible refine Below.trans ?_ (Below.mono hb_w8 ?_));rotate_left;focus (first|(simp;done)|omega|(simp;omega)))|((with_reducible refine Below.trans ?_ (Below.mono hb_w9 ?_));rotate_left;focus (first|(simp;done)|omega|(simp;omega)))|((with_reducible refine Below.trans ?_ (Below.mono hb_w10 ?_));rotate_left;focus (first|(simp;done)|omega|(simp;omega)))|((with_reducible refine Below.trans ?_ (Below.mono hb_w11 ?_));rotate_left;focus (first|(simp;done)|omega|(simp;omega)))|((with_reducible refine Below.trans ?_ (Below.mono hb_w12 ?_));rotate_left;focus (first|(simp;done)|omega|(simp;omega)))|((with_reducible refine Below.trans ?_ (Below.mono hb_w13 ?_));rotate_left;focus (first|(simp;done)|omega|(simp;omega)))|((with_reducible refine Below.trans ?_ (Below.mono hb_w14 ?_));rotate_left;focus (first|(simp;done)|omega|(simp;omega)))|((with_reducible refine Below.trans ?_ (Below.mono hb_w15 ?_));rotate_left;focus (first|(simp;done)|omega|(simp;omega)))|((with_reducible refine Below.trans ?_ (Below.mono hb_w16 ?_));rotate_left;focus (first|(simp;done)|omega|(simp;omega)))|((with_reducible refine Below.trans ?_ (Below.mono hb_w17 ?_));rotate_left;focus (first|(simp;done)|omega|(simp;omega)))|((with_reducible refine Below.trans ?_ (Below.mono hb_w18 ?_));rotate_left;focus (first|(simp;done)|omega|(simp;omega)))|((with_reducible refine Below.trans ?_ (Below.mono hb_w19 ?_));rotate_left;focus (first|(simp;done)|omega|(simp;omega)))|((with_reducible refine Below.trans ?_ (Below.mono hb_w20 ?_));rotate_left;focus (first|(simp;done)|omega|(simp;omega)))|((with_reducible refine Below.trans ?_ (Below.mono hb_w21 ?_));rotate_left;focus (first|(simp;done)|omega|(simp;omega)))|((with_reducible refine Below.trans ?_ (Below.mono hb_w22 ?_));rotate_left;focus (first|(simp;done)|omega|(simp;omega)))|((with_reducible refine Below.trans ?_ (Below.mono hb_w23 ?_));rotate_left;focus (first|(simp;done)|omega|(simp;omega)))|((with_reducible refine Below.trans ?_ (Below.mono hb_w24 ?_));rotate_left;focus (first|(simp;done)|omega|(simp;omega)))|((with_reducible refine Below.trans ?_ (Below.mono hb_w25 ?_));rotate_left;focus (first|(simp;done)|omega|(simp;omega)))|((with_reducible refine Below.trans ?_ (Below.mono hb_w26 ?_));rotate_left;focus (first|(simp;done)|omega|(simp;omega)))|((with_reducible refine Below.trans ?_ (Below.mono hb_w27 ?_));rotate_left;focus (first|(simp;done)|omega|(simp;omega)))|((with_reducible refine Below.trans ?_ (Below.mono hb_w28 ?_));rotate_left;focus (first|(simp;done)|omega|(simp;omega)))|((with_reducible refine Below.trans ?_ (Below.mono hb_w29 ?_));rotate_left;focus (first|(simp;done)|omega|(simp;omega)))|((with_reducible refine Below.trans ?_ (Below.mono hb_w30 ?_));rotate_left;focus (first|(simp;done)|omega|(simp;omega))))):p:=h
theorem Fg {w:World} {p q:Addr} {v u:Value} (h:w.cell? q=some u) (hne:q.block≠p.block):(w.setCell p v).cell? q=some u :=
 ((Marked.setCell w p v).cell q (World.block_lt_of_cell? _ _ h) (fun e=>hne (by rw [List.mem_singleton.1 e]))).trans h
theorem Bc {w:World} {vs:Array Value} {T:TypeId} {i:Nat} {v:Value} (h:vs[i]? =some v):(w.alloc (.cells vs T)).cell? ⟨w.heap.size,i,none⟩=some v:=by
 simp [World.cell?_alloc_new,h]
theorem Pi {P:Program} {G:World->Prop} {g:FuncId} {args:List AV} {n:Int} {vs:List Value} {w:World} (h:Bs P G g args ⟨false,[(false,[.sc (.int .i64 n)])]⟩) (hG:∀ w',Below w.heap.size w w'->G w') (hr:AV.RepL (fun _=>none) (fun _=>True) w args vs):Calls P g vs.toArray w fun e w'=>e=.returned (.int .i64 n)/\Below w.heap.size w w':=by
 refine (h w (fun _=>True) vs hG hr).mono ?_;rintro e w' ⟨u,rfl,hb,us,ls,h1,_,rfl⟩;obtain ⟨u1,us1,rfl,h2,_,rfl,rfl⟩:=h1;obtain rfl:u1=.int .i64 n:=h2;exact ⟨rfl,hb⟩
theorem Ht {P:Program} {G:World->Prop} {g:FuncId} {args:List AV} {b:Bool} {vs:List Value} {w:World} (h:Bs P G g args ⟨false,[(false,[.sc (.bool b)])]⟩) (hG:∀ w',Below w.heap.size w w'->G w') (hr:AV.RepL (fun _=>none) (fun _=>True) w args vs):Calls P g vs.toArray w fun e w'=>e=.returned (.bool b)/\Below w.heap.size w w':=by
 refine (h w (fun _=>True) vs hG hr).mono ?_;rintro e w' ⟨u,rfl,hb,us,ls,h1,_,rfl⟩;obtain ⟨u1,us1,rfl,h2,_,rfl,rfl⟩:=h1;obtain rfl:u1=.bool b:=h2;exact ⟨rfl,hb⟩
theorem Wv {α:Type} (f:α->Nat) (M:Nat):∀ (xs:List α),(∀ x∈xs,f x<=M)->(xs.map f).sum<=xs.length*M
 | [],_=>by simp
 | x :: xs,h=>by
  simp only [List.map_cons,List.sum_cons,List.length_cons,Nat.succ_mul];have:=Wv f M xs fun y hy=>h y (List.mem_cons_of_mem _ hy)
  have:=h x List.mem_cons_self;omega
theorem Vf (x:List Int):(Ty.slice Ty.int).cnt x=x.length:=by
 show (x.map fun _=>1).sum=_;rw [List.map_const',List.sum_replicate_nat];omega
end
section
open Go.RowKit Go.Deep
theorem Sp {w:World} {T:TypeId} {v0 v1 v2 v3:Value}:∀ j u,[v0,v1,v2,v3][j]? =some u->(w.alloc (.cells #[v0,v1,v2,v3] T)).cell? ((⟨w.heap.size,0,none⟩:Addr).add j)=some u:=fun j u h=>by
 rw [A4,Nat.zero_add];exact Bc (by simpa using h)
theorem Ad1 {a b:Int} {A B:Option Addr} {n c k d:Nat}:∀ u∈[Value.int .i64 a,.int .i64 b,.slice A n c,.slice B k d],u.oneCell'=true:=fun u hu=>by
 simp only [List.mem_cons,List.not_mem_nil,or_false] at hu;rcases hu with rfl|rfl|rfl|rfl <;> rfl
section
variable {w:World} {X lo:Nat} {v:Value}
theorem Ah {R:Nat->Prop} {t:Ty} {A:Option Addr} {c:Nat} {xs:List t.D} {l:List Addr} (h:Sl R w t A c xs l) (hR:∀ b,R b->b≠X) (i:Nat) (u:Value):Sl R (w.setCell ⟨X,i,none⟩ u) t A c xs l :=
 Lx h fun p q hr hc _=>Fg hc (hR _ hr)
theorem Aw {l:List Addr} (h:Fresh w lo l) (p:Addr) (u:Value):Fresh (w.setCell p u) lo l :=
 ⟨h.1,fun q hq=>⟨(h.2 q hq).1,by simpa [World.setCell] using (h.2 q hq).2.1,by rw [World.frozen?_setCell];exact (h.2 q hq).2.2⟩⟩
theorem As {i j:Nat} {u q:Value} (hne:i≠j) (h:w.cell? ⟨X,i,none⟩=some u):(w.setCell ⟨X,j,none⟩ q).cell? ⟨X,i,none⟩=some u :=
 (World.cell?_setCell_other _ _ _ _ (fun e=>hne (by injection e with _ e2 _;exact e2.symm))).trans h
theorem Acb {e:TypeId} {t:Ty} {zs:List t.D} (h:GrowV lo w e t v zs) (hX:X<lo) (i:Nat) (u:Value):GrowV lo (w.setCell ⟨X,i,none⟩ u) e t v zs:=by
 obtain ⟨cs,f,h1,h2,h3⟩:=h;exact ⟨cs,f,ownsRow_setCell_below h1 hX u,fun j hj=>(h2 j hj).keep (fun p q hr hc _=>Fg hc (by have:=hr.1;show p.block≠X;omega)),Aw h3 _ _⟩
end
theorem Bw (R:Nat->Prop) (w:World) (t:Ty):Sl R w t none 0 [] []:=⟨by simp,by simp [maxLen],fun _=>[],by simp,fun h=>absurd h (by simp)⟩
theorem Rg {w:World} {lo0 lo:Nat} {l m:List Addr} (h0:lo0<=lo) (hm:Fresh w lo0 m) (hl:Fresh w lo l) (hlt:∀ p∈m,p.block<lo):Fresh w lo0 (l++m):=by
 refine ⟨List.nodup_append.2 ⟨hl.1,hm.1,fun a ha b hb e=>?_⟩,fun p hp=>?_⟩
 ·subst e;have h1:=(hl.2 a ha).1;have h2:=hlt a hb;omega
 ·rcases List.mem_append.1 hp with h|h
  ·exact ⟨Nat.le_trans h0 (hl.2 p h).1,(hl.2 p h).2⟩
  ·exact hm.2 p h
end
section
open Go.RowKit Go.Deep
set_option maxRecDepth 4000
set_option maxHeartbeats 4800000
variable {aA aB:List Int} {dA:ByteArray} {eA:List ByteArray} {cA cB:Int} {bA:Bool} {gA:List (Int×Int×(List Int)×List Int)}
def Em (a0:List Int) (u1:ByteArray) (u0:Nat):Option (Ctl (ByteArray×Nat) ByteArray) :=
 cond (decide ((u0:Int)<(a0.length:Int)))
 ((a0[u0]?).bind fun x11 =>
 (cond (decide (0<(u0:Int)))
   (og (u1.size+(⟨#[44]⟩:ByteArray).size<=9223372036854775807) <|
   some (u1++(⟨#[44]⟩:ByteArray)))
   (some u1)).bind fun u2 =>
 (B8 4096 x11).bind fun y16 =>
 og (u2.size+y16.size<=9223372036854775807) <|
 og (u0+1<4611686018427387904) <|
 some (Ctl.next (u2++y16,u0+1)))
 (some (Ctl.out u1))
def C8 (a0:List Int):Option ByteArray :=
 (Az (fun s_:ByteArray×Nat=>Em a0 s_.1 s_.2) 4611686018427387904 ((⟨#[]⟩:ByteArray),0)).bind fun u0 =>
some u0
theorem Ff (h:C8 aA=some dA):cK 30 [tI aA] (Cm dA):=by
 refine cO Tryz.func30 (Am (Am (sqF h (fun u3=>sT [(3,.str u3)] []) ?_ fun u3 h=>Am (Af (jS h)))));intro _ h;refine Am (Ai (lpF h (fun (u0,u2)=>sT [(3,.str u0),(6,tI aA),(7,an aA.length),(8,an u2)] []) (Av []) ?_));rintro n_ ⟨u0,u2⟩ c_ h hn5;refine Am (Ab (kQ h (fun _ h=>skW (Ab (Ai (Ab (Aa 8 (rsT 1 (riH .int h fun x11 _ h=>rsT 3 (rnW (sqF h (fun u1=>sT [(3,.str u1),(5,ai x11),(6,tI aA),(7,an aA.length),(8,an u2)] []) ?_ ?_))))))))) fun _ h=>lxT (have h:=jO h hn5;jE [])))
 ·intro _ h;refine Am (kQ h (fun _ h=>Aa 13 (rsT 1 ?_)) fun _ h=>Ba (tn_ (jE [])));obtain ⟨g15,h⟩:=Ax h;exact rs0 (.str (u0++(⟨#[44]⟩:ByteArray))) (Cr (a:=u0) (b:=(⟨#[44]⟩:ByteArray)) kr kr g15) (rsT 1 (A0 (tn_ (jE []))))
 intro u1 h;refine Aa 7 (rsT 2 (rcH h (H0 4096) fun y16 h=>?_));obtain ⟨g17,h⟩:=Ax h;exact rs0 (.str (u1++y16)) (Cr (a:=u1) (b:=y16) kr kr g17) (rsT 1 (A0 (bn_ (tn_ (wr_ (Aa 9 (raH h fun h=>rsT 1 (A0 (tn_ (jL []))))))))))
def Eh  : Option (List ByteArray) :=
 some ([(⟨#[99,111,112,121]⟩:ByteArray),(⟨#[100,105,115,99,97,114,100]⟩:ByteArray),(⟨#[97,100,100]⟩:ByteArray),(⟨#[122,101,114,111]⟩:ByteArray),(⟨#[115,99,97,108,101]⟩:ByteArray),(⟨#[100,101,108,97,121]⟩:ByteArray),(⟨#[99,111,99,111,112,121]⟩:ByteArray),(⟨#[99,111,100,105,115,99,97,114,100]⟩:ByteArray),(⟨#[99,111,97,100,100]⟩:ByteArray),(⟨#[99,111,122,101,114,111]⟩:ByteArray),(⟨#[99,111,115,99,97,108,101]⟩:ByteArray),(⟨#[99,111,100,101,108,97,121]⟩:ByteArray)])
theorem I1 (h:Eh=some eA):cK 25 [] (Gl eA):=by
 exact cO Tryz.func25 (Am (Am (Af (jR h [.own (oi 1 2) .str 0 12] (Rh rfl (Ue kr rfl) Y3)))))
def E2 (a0:Int):Option Bool :=
 (cond (a0==7)
  (some true)
  (some (a0==13))).bind fun u0 =>
some u0
theorem Mh (h:E2 cA=some bA):cK 31 [ai cA] (At bA):=by
 exact cO Tryz.func31 (Am (sqF h (fun u0=>sT [(2,.bool u0)] []) (fun _ h=>Aa 9 (rsT 3 (kR h 5 (fun _ h=>rsT 4 (A0 (tn_ (jE [])))) fun _ h=>rsT 4 (A0 (tn_ (jE [])))))) fun u0 h=>Af (jS h)))
def Dg (u2:List (Int×Int×(List Int)×List Int)) (u0:ByteArray) (u1:Nat):Option (Ctl (ByteArray×Nat) ByteArray) :=
 cond (decide ((u1:Int)<(u2.length:Int)))
 ((u2[u1]?).bind fun x18 =>
 (Eh).bind fun y20 =>
 (Kg y20 (wI (x18.1 - 3))).bind fun x21 =>
 (Kg y20 (wI (x18.1 - 3))).bind fun x22 =>
 og ((⟨#[124]⟩:ByteArray).size+x22.size<=9223372036854775807) <|
 og (u0.size+((⟨#[124]⟩:ByteArray)++x22).size<=9223372036854775807) <|
 ((E2 x18.1).bind fun y27 =>
  cond y27
   ((B8 4096 x18.2.1).bind fun y29 =>
   og ((⟨#[58]⟩:ByteArray).size+y29.size<=9223372036854775807) <|
   og ((u0++((⟨#[124]⟩:ByteArray)++x22)).size+((⟨#[58]⟩:ByteArray)++y29).size<=9223372036854775807) <|
   some ((u0++((⟨#[124]⟩:ByteArray)++x22))++((⟨#[58]⟩:ByteArray)++y29)))
   (some (u0++((⟨#[124]⟩:ByteArray)++x22)))).bind fun u3 =>
 (C8 x18.2.2.1).bind fun y32 =>
 og ((⟨#[40]⟩:ByteArray).size+y32.size<=9223372036854775807) <|
 og (((⟨#[40]⟩:ByteArray)++y32).size+(⟨#[62]⟩:ByteArray).size<=9223372036854775807) <|
 (C8 x18.2.2.2).bind fun y35 =>
 og ((((⟨#[40]⟩:ByteArray)++y32)++(⟨#[62]⟩:ByteArray)).size+y35.size<=9223372036854775807) <|
 og (((((⟨#[40]⟩:ByteArray)++y32)++(⟨#[62]⟩:ByteArray))++y35).size+(⟨#[41]⟩:ByteArray).size<=9223372036854775807) <|
 og (u3.size+(((((⟨#[40]⟩:ByteArray)++y32)++(⟨#[62]⟩:ByteArray))++y35)++(⟨#[41]⟩:ByteArray)).size<=9223372036854775807) <|
 og (u1+1<4611686018427387904) <|
 some (Ctl.next (u3++(((((⟨#[40]⟩:ByteArray)++y32)++(⟨#[62]⟩:ByteArray))++y35)++(⟨#[41]⟩:ByteArray)),u1+1)))
 (some (Ctl.out u0))
def Hu (u0:Int) (u1:List (Int×Int×(List Int)×List Int)) (u2 u3:List Int):Option ByteArray :=
 (B8 4096 u0).bind fun y3 =>
og (y3.size+(⟨#[124]⟩:ByteArray).size<=9223372036854775807) <|
(C8 u2).bind fun y5 =>
og ((y3++(⟨#[124]⟩:ByteArray)).size+y5.size<=9223372036854775807) <|
og (((y3++(⟨#[124]⟩:ByteArray))++y5).size+(⟨#[124]⟩:ByteArray).size<=9223372036854775807) <|
(C8 u3).bind fun y8 =>
og ((((y3++(⟨#[124]⟩:ByteArray))++y5)++(⟨#[124]⟩:ByteArray)).size+y8.size<=9223372036854775807) <|
(Az (fun s_:ByteArray×Nat=>Dg u1 s_.1 s_.2) 4611686018427387904 ((((y3++(⟨#[124]⟩:ByteArray))++y5)++(⟨#[124]⟩:ByteArray))++y8,0)).bind fun u4 =>
some u4
theorem Pt (h:Hu cA gA aA aB=some dA):cK 15 [.agg [ai cA,.tree Y4 gA,tI aA,tI aB]] (Cm dA):=by
 refine cO Tryz.func15 (Am (Ab (Bq 17 (dz0 (.box (oi 1 1) 0) (dzl (ai cA) (dcH h (H0 4096) fun y3 h=>?_))))));obtain ⟨g4,h⟩:=Ax h;refine ds0 (.str (y3++(⟨#[124]⟩:ByteArray))) (Cr (a:=y3) (b:=(⟨#[124]⟩:ByteArray)) kr kr g4) (dz0 (.box (oi 1 1) 2) (dzl (tI aA) (dcH h Ff fun y5 h=>?_)));obtain ⟨g6,h⟩:=Ax h;refine ds0 (.str ((y3++(⟨#[124]⟩:ByteArray))++y5)) (Cr (a:=y3++(⟨#[124]⟩:ByteArray)) (b:=y5) kr kr g6) ?_;obtain ⟨g7,h⟩:=Ax h;refine ds0 (.str (((y3++(⟨#[124]⟩:ByteArray))++y5)++(⟨#[124]⟩:ByteArray))) (Cr (a:=(y3++(⟨#[124]⟩:ByteArray))++y5) (b:=(⟨#[124]⟩:ByteArray)) kr kr g7) (dz0 (.box (oi 1 1) 3) (dzl (tI aB) (dcH h Ff fun y8 h=>?_)));obtain ⟨g9,h⟩:=Ax h;refine ds0 (.str ((((y3++(⟨#[124]⟩:ByteArray))++y5)++(⟨#[124]⟩:ByteArray))++y8)) (Cr (a:=((y3++(⟨#[124]⟩:ByteArray))++y5)++(⟨#[124]⟩:ByteArray)) (b:=y8) kr kr g9) (dz0 (.str ((((y3++(⟨#[124]⟩:ByteArray))++y5)++(⟨#[124]⟩:ByteArray))++y8)) (N3 (Cp kr) (tn_ (wr_ (sqF h (fun u7=>sT [(3,.str u7)] []) ?_ fun u7 h=>Am (Af (jS h)))))));intro _ h;refine Am (Ai (lpF h (fun (u0,u6)=>sT [(3,.str u0),(20,.tree Y4 gA),(21,an gA.length),(22,an u6)] []) (Av []) ?_));rintro n_ ⟨u0,u6⟩ c_ h hn12;refine Am (Ab (kQ h (fun _ h=>skW (Ab (Ai (Ab (Aa 7 (riH Y4 h fun x18 _ h=>rsB 3 (rnW (Ab (Bq 17 (dz0 (.str u0) (dcH h I1 fun y20 h=>dsT 3 ?_))))))))))) fun _ h=>lxT (have h:=jO h hn12;jE [])));obtain ⟨x21,f21,h⟩:=Au h;obtain ⟨p21,b21,e21⟩:=E5 f21;refine ds0 (.elt (oi 432 8) ((wI (x18.1 - 3)).toNat) 0) (zo (t:=.str) (o:=oi 432 8) (len:=y20.length) (k:=.i64) (m:=wI (x18.1 - 3)) p21 (Ay e21)) ?_;obtain ⟨x22,f22,h⟩:=Au h;obtain ⟨p22,b22,e22⟩:=E5 f22;refine dsl (.str x22) (Gn (i:=oi 432 8) (j:=(wI (x18.1 - 3)).toNat) (k:=0) (e:=9) (t:=.str) (xs:=y20) kr kr e22 kr) ?_;obtain ⟨g23,h⟩:=Ax h;refine ds0 (.str ((⟨#[124]⟩:ByteArray)++x22)) (Cr (a:=(⟨#[124]⟩:ByteArray)) (b:=x22) kr kr g23) ?_;obtain ⟨g24,h⟩:=Ax h;refine ds0 (.str (u0++((⟨#[124]⟩:ByteArray)++x22))) (Cr (a:=u0) (b:=(⟨#[124]⟩:ByteArray)++x22) kr kr g24) (dz0 (.str (u0++((⟨#[124]⟩:ByteArray)++x22))) (N3 (Cp kr) (tn_ (wr_ (sqF h (fun u2=>sT [(3,.str u2),(5,.box (oi 0 1) 0),(20,.tree Y4 gA),(21,an gA.length),(22,an u6)] [(oi 0 1,.cells 37 [ai x18.1,ai x18.2.1,tI x18.2.2.1,tI x18.2.2.2])]) ?_ ?_)))))
 ·intro _ h;refine Ab (Aa 20 (rsT 2 (rcH h Mh fun y27 h=>rnW (kQ h (fun _ h=>Aa 27 (rsT 3 (rcH h (H0 4096) fun y29 h=>?_))) fun _ h=>Ba (tn_ (jE [(oi 0 1,oi 5 5)]))))));obtain ⟨g30,h⟩:=Ax h;refine rs0 (.str ((⟨#[58]⟩:ByteArray)++y29)) (Cr (a:=(⟨#[58]⟩:ByteArray)) (b:=y29) kr kr g30) ?_;obtain ⟨g31,h⟩:=Ax h;exact rs0 (.str ((u0++((⟨#[124]⟩:ByteArray)++x22))++((⟨#[58]⟩:ByteArray)++y29))) (Cr (a:=u0++((⟨#[124]⟩:ByteArray)++x22)) (b:=(⟨#[58]⟩:ByteArray)++y29) kr kr g31) (rsT 1 (A0 (tn_ (jE [(oi 0 1,oi 5 5)]))))
 intro u2 h;refine Bq 15 (dsT 3 (dcH h Ff fun y32 h=>?_));obtain ⟨g33,h⟩:=Ax h;refine ds0 (.str ((⟨#[40]⟩:ByteArray)++y32)) (Cr (a:=(⟨#[40]⟩:ByteArray)) (b:=y32) kr kr g33) ?_;obtain ⟨g34,h⟩:=Ax h;refine ds0 (.str (((⟨#[40]⟩:ByteArray)++y32)++(⟨#[62]⟩:ByteArray))) (Cr (a:=(⟨#[40]⟩:ByteArray)++y32) (b:=(⟨#[62]⟩:ByteArray)) kr kr g34) (dz0 (.box (oi 0 1) 3) (dzl (tI x18.2.2.2) (dcH h Ff fun y35 h=>?_)));obtain ⟨g36,h⟩:=Ax h;refine ds0 (.str ((((⟨#[40]⟩:ByteArray)++y32)++(⟨#[62]⟩:ByteArray))++y35)) (Cr (a:=((⟨#[40]⟩:ByteArray)++y32)++(⟨#[62]⟩:ByteArray)) (b:=y35) kr kr g36) ?_;obtain ⟨g37,h⟩:=Ax h;refine ds0 (.str (((((⟨#[40]⟩:ByteArray)++y32)++(⟨#[62]⟩:ByteArray))++y35)++(⟨#[41]⟩:ByteArray))) (Cr (a:=(((⟨#[40]⟩:ByteArray)++y32)++(⟨#[62]⟩:ByteArray))++y35) (b:=(⟨#[41]⟩:ByteArray)) kr kr g37) ?_;obtain ⟨g38,h⟩:=Ax h;exact ds0 (.str (u2++(((((⟨#[40]⟩:ByteArray)++y32)++(⟨#[62]⟩:ByteArray))++y35)++(⟨#[41]⟩:ByteArray)))) (Cr (a:=u2) (b:=((((⟨#[40]⟩:ByteArray)++y32)++(⟨#[62]⟩:ByteArray))++y35)++(⟨#[41]⟩:ByteArray)) kr kr g38) (dz0 (.str (u2++(((((⟨#[40]⟩:ByteArray)++y32)++(⟨#[62]⟩:ByteArray))++y35)++(⟨#[41]⟩:ByteArray)))) (N3 (Cp kr) (bn_ (tn_ (wr_ (Aa 17 (raH h fun h=>rsT 1 (A0 (tn_ (jL []))))))))))
def Dh  : Option (List ByteArray) :=
 some ([(⟨#[]⟩:ByteArray),(⟨#[105,100]⟩:ByteArray),(⟨#[115,119,97,112]⟩:ByteArray),(⟨#[99,111,112,121]⟩:ByteArray),(⟨#[100,105,115,99,97,114,100]⟩:ByteArray),(⟨#[97,100,100]⟩:ByteArray),(⟨#[122,101,114,111]⟩:ByteArray),(⟨#[115,99,97,108,101]⟩:ByteArray),(⟨#[100,101,108,97,121]⟩:ByteArray),(⟨#[99,111,99,111,112,121]⟩:ByteArray),(⟨#[99,111,100,105,115,99,97,114,100]⟩:ByteArray),(⟨#[99,111,97,100,100]⟩:ByteArray),(⟨#[99,111,122,101,114,111]⟩:ByteArray),(⟨#[99,111,115,99,97,108,101]⟩:ByteArray),(⟨#[99,111,100,101,108,97,121]⟩:ByteArray)])
theorem Ho (h:Dh=some eA):cK 57 [] (Gl eA):=by
 exact cO Tryz.func57 (Am (Am (Af (jR h [.own (oi 1 2) .str 0 15] (Rh rfl (Ue kr rfl) Y3)))))
def Es (u1 u2:Int) (u3 u4:List Int):Option ByteArray :=
 (Dh).bind fun y3 =>
(Kg y3 u1).bind fun x4 =>
((Cw u1).bind fun y7 =>
 cond y7
  ((Bj u2).bind fun y9 =>
  og ((⟨#[58]⟩:ByteArray).size+y9.size<=9223372036854775807) <|
  og (x4.size+((⟨#[58]⟩:ByteArray)++y9).size<=9223372036854775807) <|
  some (x4++((⟨#[58]⟩:ByteArray)++y9)))
  (some x4)).bind fun u0 =>
og (u0.size+(⟨#[40]⟩:ByteArray).size<=9223372036854775807) <|
(Ca u3).bind fun y14 =>
og ((u0++(⟨#[40]⟩:ByteArray)).size+y14.size<=9223372036854775807) <|
og (((u0++(⟨#[40]⟩:ByteArray))++y14).size+(⟨#[62]⟩:ByteArray).size<=9223372036854775807) <|
(Ca u4).bind fun y17 =>
og ((((u0++(⟨#[40]⟩:ByteArray))++y14)++(⟨#[62]⟩:ByteArray)).size+y17.size<=9223372036854775807) <|
og (((((u0++(⟨#[40]⟩:ByteArray))++y14)++(⟨#[62]⟩:ByteArray))++y17).size+(⟨#[41]⟩:ByteArray).size<=9223372036854775807) <|
some (((((u0++(⟨#[40]⟩:ByteArray))++y14)++(⟨#[62]⟩:ByteArray))++y17)++(⟨#[41]⟩:ByteArray))
theorem L8 (h:Es cA cB aA aB=some dA):cK 42 [.agg [ai cA,ai cB,tI aA,tI aB]] (Cm dA):=by
 refine cO Tryz.func42 (Am (Ab (Bq 9 (dcH h Ho fun y3 h=>dz0 (.box (oi 1 1) 0) (dzl (ai cA) ?_)))));obtain ⟨x4,f4,h⟩:=Au h;obtain ⟨p4,b4,e4⟩:=E5 f4;refine ds0 (.elt (oi 64 3) cA.toNat 0) (zo (t:=.str) (o:=oi 64 3) (len:=y3.length) (k:=.i64) (m:=cA) p4 (Ay e4)) (dsl (.str x4) (Gn (i:=oi 64 3) (j:=cA.toNat) (k:=0) (e:=9) (t:=.str) (xs:=y3) kr kr e4 kr) (dz0 (.str x4) (N3 (Cp kr) (tn_ (wr_ (sqF h (fun u0=>sT [(1,.box (oi 0 1) 0),(3,.str u0)] [(oi 0 1,.cells 37 [ai cA,ai cB,tI aA,tI aB])]) ?_ ?_))))))
 ·intro _ h;refine Ab (Aa 12 (rsT 2 (rcH h H9 fun y7 h=>rnW (kQ h (fun _ h=>Aa 19 (rsT 3 (rcH h E3 fun y9 h=>?_))) fun _ h=>Ba (tn_ (jE [(oi 0 1,oi 1 1)]))))));obtain ⟨g10,h⟩:=Ax h;refine rs0 (.str ((⟨#[58]⟩:ByteArray)++y9)) (Cr (a:=(⟨#[58]⟩:ByteArray)) (b:=y9) kr kr g10) ?_;obtain ⟨g11,h⟩:=Ax h;exact rs0 (.str (x4++((⟨#[58]⟩:ByteArray)++y9))) (Cr (a:=x4) (b:=(⟨#[58]⟩:ByteArray)++y9) kr kr g11) (rsT 1 (A0 (tn_ (jE [(oi 0 1,oi 1 1)]))))
 intro u0 h;refine Ab (Bq 15 (dz0 (.str u0) ?_));obtain ⟨g13,h⟩:=Ax h;refine ds0 (.str (u0++(⟨#[40]⟩:ByteArray))) (Cr (a:=u0) (b:=(⟨#[40]⟩:ByteArray)) kr kr g13) (dz0 (.box (oi 0 1) 2) (dzl (tI aA) (dcH h Fb fun y14 h=>?_)));obtain ⟨g15,h⟩:=Ax h;refine ds0 (.str ((u0++(⟨#[40]⟩:ByteArray))++y14)) (Cr (a:=u0++(⟨#[40]⟩:ByteArray)) (b:=y14) kr kr g15) ?_;obtain ⟨g16,h⟩:=Ax h;refine ds0 (.str (((u0++(⟨#[40]⟩:ByteArray))++y14)++(⟨#[62]⟩:ByteArray))) (Cr (a:=(u0++(⟨#[40]⟩:ByteArray))++y14) (b:=(⟨#[62]⟩:ByteArray)) kr kr g16) (dz0 (.box (oi 0 1) 3) (dzl (tI aB) (dcH h Fb fun y17 h=>?_)));obtain ⟨g18,h⟩:=Ax h;refine ds0 (.str ((((u0++(⟨#[40]⟩:ByteArray))++y14)++(⟨#[62]⟩:ByteArray))++y17)) (Cr (a:=((u0++(⟨#[40]⟩:ByteArray))++y14)++(⟨#[62]⟩:ByteArray)) (b:=y17) kr kr g18) ?_;obtain ⟨g19,h⟩:=Ax h;exact ds0 (.str (((((u0++(⟨#[40]⟩:ByteArray))++y14)++(⟨#[62]⟩:ByteArray))++y17)++(⟨#[41]⟩:ByteArray))) (Cr (a:=(((u0++(⟨#[40]⟩:ByteArray))++y14)++(⟨#[62]⟩:ByteArray))++y17) (b:=(⟨#[41]⟩:ByteArray)) kr kr g19) (dz0 (.str (((((u0++(⟨#[40]⟩:ByteArray))++y14)++(⟨#[62]⟩:ByteArray))++y17)++(⟨#[41]⟩:ByteArray))) (N3 (Cp kr) (tn_ (wr_ (Af (jS h))))))
def Bv (u2:List (Int×Int×(List Int)×List Int)) (u0:Nat) (u1:List ByteArray):Option (Ctl (Nat×List ByteArray) (List ByteArray)) :=
 cond (decide ((u0:Int)<(u2.length:Int)))
 ((u2[u0]?).bind fun x14 =>
 (Es x14.1 x14.2.1 x14.2.2.1 x14.2.2.2).bind fun y15 =>
 og (u1.length+1<=1073741824/\(u1.length+1)*16<=140737488355328) <|
 og (u0+1<4611686018427387904) <|
 some (Ctl.next (u0+1,u1++([y15]))))
 (some (Ctl.out u1))
def Fk (u0:Int) (u1:List (Int×Int×(List Int)×List Int)) (u2 u3:List Int):Option ByteArray :=
 (Bj u0).bind fun y3 =>
(Ca u2).bind fun y4 =>
(Ca u3).bind fun y5 =>
(Az (fun s_:Nat×List ByteArray=>Bv u1 s_.1 s_.2) 4611686018427387904 (0,[y3,y4,y5])).bind fun u4 =>
(De u4 (⟨#[124]⟩:ByteArray)).bind fun y19 =>
some y19
theorem Kv (h:Fk cA gA aA aB=some dA):cK 18 [.agg [ai cA,.tree Y4 gA,tI aA,tI aB]] (Cm dA):=by
 refine cO Tryz.func18 (Am (Ab (Bq 14 (dz0 (.box (oi 1 1) 0) (dzl (ai cA) (dcH h E3 fun y3 h=>dz0 (.box (oi 1 1) 2) (dzl (tI aA) (dcH h Fb fun y4 h=>dz0 (.box (oi 1 1) 3) (dzl (tI aB) (dcH h Fb fun y5 h=>ds1 (.own (oi 15 12) .str 0 3) (oi 15 12) (.arr 9 .str ([y3,y4,y5])) kr (dz0 (.own (oi 15 12) .str 0 3) (N3 (Cp kr) (tn_ (wr_ (sqF h (fun u2=>sT [(3,.own (oi 0 1) .str 0 u2.length)] [(oi 0 1,.arr 9 .str u2)]) ?_ fun u2 h=>Ab (Aa 5 (rsT 1 (rcG h [.own (oi 0 1) .str 0 u2.length,.str (⟨#[124]⟩:ByteArray)] I4 (Oh (Wk (e:=9) kr rfl) (Oh kr Abn)) fun y19 h=>rsT 1 (rnW (Af (jS h)))))))))))))))))))));intro _ h;refine Am (Ai (lpF h (fun (u6,u0)=>sT [(3,.own (oi 0 1) .str 0 u0.length),(17,.tree Y4 gA),(18,an gA.length),(19,an u6)] [(oi 0 1,.arr 9 .str u0)]) (Av [(oi 0 1,oi 15 12)]) ?_));rintro n_ ⟨u6,u0⟩ c_ h hn8;refine Am (Ab (kQ h (fun _ h=>skW (Ab (Ai (Ab (Aa 7 (riH Y4 h fun x14 _ h=>rsB 3 (rnW (Aa 13 (rsT 2 (rcH h L8 fun y15 h=>rsB 1 ?_)))))))))) fun _ h=>lxT (have h:=jO h hn8;jE [])));obtain ⟨g16,h⟩:=Ax h;exact rs2 (.own (oi 0 11) .str 0 ((u0++([y15])).length)) (oi 0 1) (oi 0 11) (.arr 9 .str (u0++([y15]))) (Qg (t:=.str) (t':=.str) (xs:=u0) (ys:=[y15]) (zs:=u0++([y15])) (j:=oi 0 1) (len:=u0.length) (c:=.own (oi 26 10) .str 0 1) kr kr rfl kr (Ow (e:=9) kr rfl) rfl g16) (rsT 1 (A0 (bn_ (tn_ (wr_ (Aa 15 (raH h fun h=>rsT 1 (A0 (tn_ (jL [(oi 0 1,oi 0 11)]))))))))))
end


section
def ba (l:List UInt8):ByteArray:=⟨l.toArray⟩
theorem Cl (a b:List UInt8):ba a++ba b=ba (a++b):=by
 apply ByteArray.ext;simp [ba]
theorem Bg (a:List UInt8):(ba a).size=a.length:=by simp [ba,ByteArray.size]
theorem D2 (a:List UInt8):(ba a).data.toList=a:=by simp [ba]
def dg (n:Int):List UInt8:=Lib.decDigits n.toNat
theorem Yk:∀ n,(Lib.decDigits n).length<=n+1:=by
 intro n
 induction n using Nat.strongRecOn with
 | _ n ih =>
  rw [Lib.decDigits];split
  ·simp
  ·rw [List.length_append,List.length_singleton];have:=ih (n / 10) oM;omega
theorem Kb:∀ n,∀ c∈Lib.decDigits n,48<=c.toNat/\c.toNat<=57:=by
 intro n
 induction n using Nat.strongRecOn with
 | _ n ih =>
  intro c hc;rw [Lib.decDigits] at hc;split at hc
  ·obtain rfl:=List.mem_singleton.1 hc;have e:(UInt8.ofNat (48+n)).toNat=(48+n) % 256:=UInt8.toNat_ofNat';omega
  ·rcases List.mem_append.1 hc with h|h
   ·exact ih (n / 10) oM c h
   ·obtain rfl:=List.mem_singleton.1 h;have e:(UInt8.ofNat (48+n % 10)).toNat=(48+n % 10) % 256:=UInt8.toNat_ofNat';omega
theorem Aes {n:Int} (h:0<=n/\n<=1000):Bj n=some (ba (dg n)):=by
 obtain ⟨m,rfl⟩:=Int.eq_ofNat_of_zero_le h.1;unfold Bj Ago;rw [Aj oM,show Lib.itoa (m:Int)=Lib.decDigits m from by unfold Lib.itoa;rw [if_neg oM];rfl];rfl
theorem Aea:∀ (k n m:Nat),n<10 ^ (k+1)->n<=1000000->B8 (k+1+m) (n:Int)=some (ba (Lib.decDigits n)):=by
 intro k;have hw:∀ d:Fin 10,IntKind.u8.wrap (48+(d.val:Int))=((48+d.val:Nat):Int):=by decide
 have hb:∀ d:Nat,d<10->strOfNums [IntKind.u8.wrap (wI (48+(d:Int)))]=ba [UInt8.ofNat (48+d)]:=fun d hd=>by
  rw [Gk oM oM,hw ⟨d,hd⟩];rfl
 induction k with
 | zero =>
  intro n m h _;rw [show 0+1+m=m+1 by omega];unfold B8 Fc;rw [B5 (show (n:Int)<10 by omega),cond_true,hb n oM,Lib.decDigits,dif_pos oM]
 | succ k ih =>
  intro n m h hm;rw [show k+1+1+m=(k+1+m)+1 by omega];unfold B8 Fc;by_cases h10:n<10
  ·rw [B5 (show (n:Int)<10 by omega),cond_true,hb n oM,Lib.decDigits,dif_pos oM]
  ·have hq:Int.tdiv (n:Int) 10=((n / 10:Nat):Int):=by rw [Int.tdiv_eq_ediv_of_nonneg oM];rfl
   have hr:Int.tmod (n:Int) 10=((n % 10:Nat):Int):=by rw [Int.tmod_eq_emod_of_nonneg oM];rfl
   have hl:=Yk (n / 10);rw [B0 (show ¬ (n:Int)<10 by omega),cond_false,hq,hr,Gk (n:=((n / 10:Nat):Int)) oM oM,ih (n / 10) m (by rw [Nat.pow_succ] at h;omega) oM,obs,hb (n % 10) oM,Aj (by rw [Bg,Bg];simp;omega),Cl];congr 2
   conv=>rhs;rw [Lib.decDigits,dif_neg h10]
theorem Aac {n:Int} (h:0<=n/\n<=1000):B8 4096 n=some (ba (dg n)):=by
 obtain ⟨k,rfl⟩:=Int.eq_ofNat_of_zero_le h.1;exact Aea 3 k 4092 oM oM
theorem S7 {α:Type} (f:α->List UInt8) (c:Nat):∀ (xs:List α),(∀ x∈xs,(f x).length<=c)->(xs.flatMap f).length<=c*xs.length
 | [],_=>by simp
 | x :: xs,h=>by
  rw [List.flatMap_cons,List.length_append,List.length_cons,Nat.mul_succ];have:=h x (by simp);have:=S7 f c xs fun y hy=>h y (by simp [hy])
  omega
theorem H1 {n:Int} (h:0<=n/\n<=100):(dg n).length<=101:=by
 have:=Yk n.toNat;unfold dg;omega
theorem Un (xs:List (List UInt8)) (sep:List UInt8) (c:Nat) (h:∀ x∈xs,x.length<=c):(Lib.join xs sep).length<=(c+sep.length)*xs.length:=by
 cases xs with
 | nil=>simp [Lib.join_nil]
 | cons x r =>
  rw [Lib.join_cons,List.length_append];have h1:=h x (by simp)
  have h2:(Lib.joinTail sep r).length<=(sep.length+c)*r.length:=by
   unfold Lib.joinTail;have:=S7 (fun y=>sep++y) (sep.length+c) r (fun y hy=>by rw [List.length_append];have:=h y (by simp [hy]);omega)
   rwa [List.flatMap_def] at this
  rw [List.length_cons,Nat.mul_succ,Nat.add_comm c];omega
theorem Aab (xs:List (List UInt8)) (sep:List UInt8):Zm (xs.map ba) (ba sep)=ba (Lib.join xs sep):=by
 unfold Zm;rw [List.map_map,D2];congr 3
 conv=>rhs;rw [← List.map_id xs]
 exact List.map_congr_left fun x _=>D2 x
def Ey (xs:List Int):Prop:=∀ n∈xs,0<=n/\n<100
theorem L7 {xs:List Int} (h:Ey xs) (hl:xs.length<=100):Ca xs=some (ba (Lib.join (xs.map dg) [44])):=by
 unfold Ca;have hloop:=Mv (body:=fun s_:Nat×List ByteArray=>Dd xs s_.1 s_.2) xs (fun n=>ba (dg n)) [] (F:=4611686018427387904) oM (xs.map fun n=>ba (dg n)) (fun i x hx=>?_) ?_
 ·have hjl:(Lib.join (xs.map dg) [44]).length<=(101+1)*xs.length:=by
   have:=Un (xs.map dg) [44] 101 (fun x hx=>by obtain ⟨n,hn,rfl⟩:=List.mem_map.1 hx;have:=h n hn;exact H1 oM)
   simpa using this
  have e:=Aab (xs.map dg) [44];rw [List.map_map] at e;rw [show Az (fun s_:Nat×List ByteArray=>Dd xs s_.1 s_.2) 4611686018427387904 (0,[])=some (xs.map fun n=>ba (dg n)) by simpa using hloop,obs];unfold De;rw [show (⟨#[44]⟩:ByteArray)=ba [44] from rfl,show xs.map (fun n=>ba (dg n))=xs.map (ba∘dg) from rfl,e,Aj (by rw [Bg,List.length_map];omega),obs]
 ·have:=Ay hx;have hn:=h x (List.mem_of_getElem? hx)
  try dsimp only
  unfold Dd;rw [B5 oM,cond_true,hx,obs,Aes oM,obs,Aj (by simp;omega),Aj oM]
 ·try dsimp only
  unfold Dd;rw [B0 oM,cond_false,List.nil_append]
end
section
def Dj (c:UInt8):List UInt8->List (List UInt8)
 | []=>[[]]
 | b :: l=>if b=c then [] :: Dj c l else match Dj c l with
  | []=>[[b]]
  | h :: t=>(b :: h) :: t
section
variable {c:UInt8}
theorem Sq:∀ l:List UInt8,Dj c l≠[]
 | []=>by simp [Dj]
 | b :: l=>by
  unfold Dj;split
  ·simp
  ·split <;> simp
theorem Gc (l:List UInt8):Dj c (c :: l)=[] :: Dj c l:=by
 conv=>lhs;unfold Dj
 rw [if_pos rfl]
theorem E7 {b:UInt8} (hb:b≠c) (l:List UInt8):∃ h t,Dj c l=h :: t/\Dj c (b :: l)=(b :: h) :: t:=by
 cases hs:Dj c l with
 | nil=>exact absurd hs (Sq l)
 | cons h t =>
  refine ⟨h,t,rfl,?_⟩;unfold Dj;rw [if_neg hb,hs]
theorem Eo:∀ {l:List UInt8},c∉l->Dj c l=[l]
 | [],_=>rfl
 | b :: l,h=>by
  have hb:b≠c:=fun e=>h (by simp [e])
  obtain ⟨x,t,h1,h2⟩:=E7 hb l;rw [Eo (fun e=>h (by simp [e]))] at h1;obtain ⟨rfl,rfl⟩:=List.cons.inj h1;exact h2
theorem D6:∀ {a:List UInt8} (r:List UInt8),c∉a->Dj c (a++c :: r)=a :: Dj c r
 | [],r,_=>Gc r
 | b :: a,r,h=>by
  have hb:b≠c:=fun e=>h (by simp [e])
  obtain ⟨x,t,h1,h2⟩:=E7 hb (a++c :: r);rw [D6 r (fun e=>h (by simp [e]))] at h1;obtain ⟨rfl,rfl⟩:=List.cons.inj h1;exact h2
theorem Sk:∀ {xs:List (List UInt8)},xs≠[]->(∀ x∈xs,c∉x)->Dj c (Lib.join xs [c])=xs
 | [],h,_=>absurd rfl h
 | [x],_,h=>by rw [Lib.join_one];exact Eo (h x (by simp))
 | x :: y :: r,_,h=>by
  have ih:=Sk (xs:=y :: r) (by simp) (fun z hz=>h z (by simp [hz]));rw [Lib.join_cons] at ih ⊢;have e:Lib.joinTail [c] (y :: r)=c :: (y++Lib.joinTail [c] r):=by simp [Lib.joinTail]
  rw [e,D6 _ (h x (by simp)),ih]
theorem Jp:∀ l:List UInt8,(Dj c l).length=l.count c+1
 | []=>rfl
 | b :: l=>by
  by_cases hb:b=c
  ·replace hb:=hb.symm
   subst hb;rw [Gc,List.length_cons,Jp l,List.count_cons_self]
  ·obtain ⟨x,t,h1,h2⟩:=E7 hb l;rw [h2,List.count_cons_of_ne hb,← Jp l,h1,List.length_cons,List.length_cons]
theorem Gb:∀ (l:List UInt8) (x:List UInt8),x∈Dj c l->x.length<=l.length
 | [],x,h=>by
  obtain rfl:=List.mem_singleton.1 h;simp
 | b :: l,x,h=>by
  by_cases hb:b=c
  ·replace hb:=hb.symm
   subst hb;rw [Gc] at h;rcases List.mem_cons.1 h with rfl|h
   ·simp
   ·have:=Gb l x h;rw [List.length_cons];omega
  ·obtain ⟨y,t,h1,h2⟩:=E7 hb l;rw [h2] at h;rcases List.mem_cons.1 h with rfl|h
   ·have:=Gb l y (by rw [h1];simp);simp only [List.length_cons];omega
   ·have:=Gb l x (by rw [h1];simp [h]);rw [List.length_cons];omega
theorem Uo {b:UInt8} (hb:b≠c) (l:List UInt8):∀ n,∃ h t,Lib.splitK [c] 0 n l=h :: t/\Lib.splitK [c] 0 n (b :: l)=(b :: h) :: t
 | 0=>⟨l,[],rfl,rfl⟩
 | n+1=>by
  have hp:([c]:List UInt8).isPrefixOf (b :: l)=false:=by simp [List.isPrefixOf,Ne.symm hb]
  have hge:=Lib.index_ge l [c]
  have hi:Lib.index (b :: l) [c]=if Lib.index l [c]== -1 then -1 else Lib.index l [c]+1:=by
   conv=>lhs;unfold Lib.index
   rw [hp,if_neg Bool.false_ne_true]
  unfold Lib.splitK;rw [hi];by_cases h0:Lib.index l [c]= -1
  ·rw [h0];exact ⟨l,[],rfl,rfl⟩
  ·have h1:(Lib.index l [c]== -1)=false:=beq_eq_false_iff_ne.2 h0;have h2:(Lib.index l [c]+1== -1)=false:=beq_eq_false_iff_ne.2 oM;rw [h1];simp only [Bool.false_eq_true,if_false,h2];refine ⟨_,_,rfl,?_⟩;rw [show (Lib.index l [c]+1).toNat+0=((Lib.index l [c]).toNat+0)+1 by omega,List.take_succ_cons,show (Lib.index l [c]+1).toNat+([c]:List UInt8).length=((Lib.index l [c]).toNat+([c]:List UInt8).length)+1 by simp;omega,List.drop_succ_cons,Nat.add_zero]
theorem Jm:∀ l:List UInt8,Lib.splitK [c] 0 (l.count c) l=Dj c l
 | []=>rfl
 | b :: l=>by
  by_cases hb:b=c
  ·replace hb:=hb.symm
   subst hb;have hp:([c]:List UInt8).isPrefixOf (c :: l)=true:=by simp [List.isPrefixOf]
   have hi:Lib.index (c :: l) [c]=0:=by unfold Lib.index;rw [hp];rfl
   rw [List.count_cons_self,Gc];unfold Lib.splitK;rw [hi,if_neg (by decide)];rw [← Jm l];rfl
  ·obtain ⟨h,t,h1,h2⟩:=Uo hb l (l.count c);obtain ⟨h',t',h3,h4⟩:=E7 hb l;rw [Jm l] at h1;obtain ⟨rfl,rfl⟩:=List.cons.inj (h1.symm.trans h3);rw [List.count_cons_of_ne hb,h2,h4]
end
end
section
open Go.RowKit Go.Deep
set_option maxRecDepth 4000
set_option maxHeartbeats 4800000
variable {dA:ByteArray} {cA:Int} {aA:List Int} {lA:Int×Int×List Int×List Int}
def Ek (y4:List ByteArray) (a0:ByteArray) (u0:Nat):Option (Ctl Nat (Ctl Unit Int)) :=
 cond (decide ((u0:Int)<(y4.length:Int)))
 ((y4[u0]?).bind fun x11 =>
 cond (x11.toList==a0.toList)
  (some (Ctl.out (Ctl.out (u0:Int))))
  (og (u0+1<4611686018427387904) <|
  some (Ctl.next (u0+1))))
 (some (Ctl.out (Ctl.next ())))
def Cb (a0:ByteArray):Option Int :=
 Mm ((Dh).bind fun y4 =>
 Az (fun s_:Nat=>Ek y4 a0 s_) 4611686018427387904 0) fun _ =>
some 17
theorem Qr (h:Cb dA=some cA):cK 52 [.str dA] (Jj cA):=by
 refine cO Tryz.func52 (Am (sqC h (fun _=>sT [] []) ?_ fun _ h=>Am (Af (jS h))));intro _ h hk2;refine Ab (Aa 5 (rcH h Ho fun y4 h=>rsT 2 (rnW (Ai (lpF h (fun u0=>sT [(0,.str dA),(5,.own (oi 0 1) .str 0 y4.length),(6,an y4.length),(7,an u0)] [(oi 0 1,.arr 9 .str y4)]) (Av [(oi 0 1,oi 80 2)]) ?_)))));intro n_ u0 c_ h hn5;refine Am (Ab (kQ h (fun _ h=>skW (Ab (Ai (Ab (Aa 8 (rsT 1 ?_)))))) fun _ h=>lxT (have h:=jO h hn5;jC [])));obtain ⟨x11,e11,h⟩:=Au h;exact zO (oi 0 1) .str y4.length (Ay e11) (rsl (.str x11) (Gn (i:=oi 0 1) (j:=u0) (k:=0) (e:=9) (t:=.str) (xs:=y4) kr kr e11 kr) (rsT 2 (rnW (Am (kQ h (fun _ h=>Am (Af (br_ (tr_ (tr_ (br_ (tr_ (have h:=jO h hn5;(have h:=jO h hk2;jS h))))))))) fun _ h=>Ba (bn_ (tn_ (wr_ (Aa 13 (raH h fun h=>rsT 1 (A0 (tn_ (jL [])))))))))))))
def B6 (y9:List ByteArray) (u0:Nat) (u1:List Int):Option (Ctl (Nat×List Int) (List Int)) :=
 cond (decide ((u0:Int)<(y9.length:Int)))
 ((y9[u0]?).bind fun x16 =>
 (Bo x16).bind fun y17 =>
 og (u1.length+1<=1073741824/\(u1.length+1)*8<=140737488355328) <|
 og (u0+1<4611686018427387904) <|
 some (Ctl.next (u0+1,u1++([y17]))))
 (some (Ctl.out u1))
def B9 (a0:ByteArray):Option (List Int) :=
 cond (a0.toList==(⟨#[]⟩:ByteArray).toList)
 (some [])
 (((Cf a0 44).bind fun y9 =>
  Az (fun s_:Nat×List Int=>B6 y9 s_.1 s_.2) 4611686018427387904 (0,[])).bind fun u0 =>
 some u0)
def Qe (r:List Int):RV:=⟨false,[(false,[.frz (tI r)])]⟩
theorem Hh (h:B9 dA=some aA):cK 12 [.str dA] (Qe aA):=by
 refine cZ Tryz.func12 fun zn_ nz_ hz_=>Am (Am (Ab (Am (kQ h (fun _ h=>Am (Af (tr_ (jZ h [(false,[.nils])] (Adc (Jb (t:=.int) (xs:=[]) .nil) Pb))))) fun _ h=>skW (sqF h (fun u0=>sT [(3,oI 0 1 u0.length)] [(oi 0 1,.arr 3 .int u0)]) ?_ fun u0 h=>Am (Af (jZ h [(false,[oI 0 1 u0.length])] (Adc (Jb (.arr (e:=3) kr rfl)) Pb))))))))
 intro _ h;refine Ab (Aa 9 (rsT 1 (rcH h (fun h=>Qb (Dt h)) fun y9 h=>rsT 2 (rnW (Ai (lpF h (fun (u2,u1)=>sT [(3,oI 0 1 u1.length),(10,.own (oi 1 1) .str 0 y9.length),(11,an y9.length),(12,an u2)] [(oi 0 1,.arr 3 .int u1),(oi 1 1,.arr 9 .str y9)]) ((Sf 3 3 .int rfl kr).trans (Av [(oi 0 1,oi 3 9),(oi 1 1,oi 160 6)])) ?_))))));rintro n_ ⟨u2,u1⟩ c_ h hn10;refine Am (Ab (kQ h (fun _ h=>skW (Ab (Ai (Ab (Aa 6 ?_))))) fun _ h=>lxT (have h:=jO h hn10;jE [])));obtain ⟨x16,e16,h⟩:=Au h;refine zO (oi 1 1) .str y9.length (Ay e16) (rsl (.str x16) (Gn (i:=oi 1 1) (j:=u2) (k:=0) (e:=9) (t:=.str) (xs:=y9) kr kr e16 kr) (rsT 1 (rnW (Aa 12 (rsT 2 (rcH h (fun h=>Qb (G6 h)) fun y17 h=>rsB 1 ?_))))));obtain ⟨g18,h⟩:=Ax h;exact zB (oi 0 1) (oi 19 9) u1 (y17) g18 (rsT 1 (A0 (bn_ (tn_ (wr_ (Aa 14 (raH h fun h=>rsT 1 (A0 (tn_ (jL [(oi 0 1,oi 0 10)]))))))))))
def Ep (y25:List ByteArray) (y17:List ByteArray) (u0:Nat) (u1:Int):Option (Ctl (Nat×Int) Int) :=
 cond (decide ((u0:Int)<(y25.length:Int)))
 (((y25[u0]?).bind fun x32 =>
  (y17[0]?).bind fun x34 =>
  cond (x32.toList==x34.toList)
   (some (wI (3+(u0:Int))))
   (some u1)).bind fun u2 =>
 og (u0+1<4611686018427387904) <|
 some (Ctl.next (u0+1,u2)))
 (some (Ctl.out u1))
def Dy (a0:ByteArray):Option (Int×Int×List Int×List Int) :=
 (Cf a0 40).bind fun y4 =>
(cond ((y4.length:Int) !=2)
  (some true)
  ((y4[1]?).bind fun x8 =>
  some (x8.toList==(⟨#[]⟩:ByteArray).toList))).bind fun u0 =>
cond u0
 (some (-1,0,[],[]))
 ((y4[1]?).bind fun x12 =>
 og ((0:Int)<=0/\0<=wI ((x12.size:Int) - 1)/\wI ((x12.size:Int) - 1)<=(x12.size:Int)) <|
 (Cf (x12.extract 0 ((wI ((x12.size:Int) - 1)).toNat)) 62).bind fun y14 =>
 (y4[0]?).bind fun x16 =>
 (Cf x16 58).bind fun y17 =>
 (cond ((y14.length:Int) !=2)
   (some true)
   (some (decide (2<(y17.length:Int))))).bind fun u1 =>
 cond u1
  (some (-1,0,[],[]))
  (((Eh).bind fun y25 =>
   Az (fun s_:Nat×Int=>Ep y25 y17 s_.1 s_.2) 4611686018427387904 (0,-1)).bind fun u2 =>
  (cond ((y17.length:Int)==2)
    ((y17[1]?).bind fun x40 =>
    (Bo x40).bind fun y41 =>
    some y41)
    (some 0)).bind fun u3 =>
  (y14[0]?).bind fun x43 =>
  (B9 x43).bind fun y44 =>
  (y14[1]?).bind fun x46 =>
  (B9 x46).bind fun y47 =>
  some (u2,u3,y44,y47)))
def O9 (r:Int×Int×List Int×List Int):RV:=⟨false,[(true,[.sc (.int .i64 r.1),.sc (.int .i64 r.2.1),.frz (tI r.2.2.1),.frz (tI r.2.2.2)])]⟩
theorem Qj (h:Dy dA=some lA):cK 13 [.str dA] (O9 lA):=by
 refine cZ Tryz.func13 fun zn_ nz_ hz_=>Am (Am (Ab (Aa 8 (rsT 1 (rcH h (fun h=>Qb (Dt h)) fun y4 h=>rsT 1 (rnW (Ab (sqF h (fun u3=>sT [(2,.box (oi 0 1) 0),(3,.box (oi 1 1) 0),(4,.own (oi 2 1) .str 0 y4.length),(20,.bool u3)] [(oi 0 1,.cells 37 [ai 0,ai 0,.nils,.nils]),(oi 1 1,.cells 37 [ai (-1),ai 0,.nils,.nils]),(oi 2 1,.arr 9 .str y4)]) ?_ ?_))))))))
 ·intro _ h;refine Aa 17 (rsT 4 ?_);rcases Co h with ⟨q7,h⟩|⟨q7,h⟩
  ·exact rq 15 q7 (rsT 5 (A0 (tn_ (jE [(oi 0 1,oi 2 1),(oi 1 1,oi 3 3),(oi 2 1,oi 176 6)]))))
  refine rq 15 q7 (rsT 1 ?_);obtain ⟨x8,e8,h⟩:=Au h;exact rs0 (.elt (oi 176 6) 1 0) (G5 (t:=.str) (o:=oi 176 6) (len:=y4.length) (k:=.i64) (m:=1) kr kr rfl (by decide) rfl (Ay e8)) (rsl (.str x8) (Gn (i:=oi 176 6) (j:=1) (k:=0) (e:=9) (t:=.str) (xs:=y4) kr kr e8 kr) (rsT 2 (A0 (tn_ (jE [(oi 0 1,oi 2 1),(oi 1 1,oi 3 3),(oi 2 1,oi 176 6)])))))
 intro u3 h;refine kQ h (fun _ h=>Am (Af (tr_ (jZ h [(true,[ai (-1),ai 0,.nils,.nils])] (Ws (E1 Sm (E1 Sm (E1 (Jb (t:=.int) (xs:=[]) .nil) (E1 (Jb (t:=.int) (xs:=[]) .nil) Wb)))) Pb))))) fun _ h=>skW (Ab (Bq 13 (dz0 (.own (oi 2 1) .str 0 y4.length) ?_)))
 obtain ⟨x12,e12,h⟩:=Au h;refine ds0 (.elt (oi 2 1) 1 0) (G5 (t:=.str) (o:=oi 2 1) (len:=y4.length) (k:=.i64) (m:=1) kr kr rfl (by decide) rfl (Ay e12)) (dsl (.str x12) (Gn (i:=oi 2 1) (j:=1) (k:=0) (e:=9) (t:=.str) (xs:=y4) kr kr e12 kr) (dz0 (.own (oi 2 1) .str 0 y4.length) (ds0 (.elt (oi 2 1) 1 0) (G5 (t:=.str) (o:=oi 2 1) (len:=y4.length) (k:=.i64) (m:=1) kr kr rfl (by decide) rfl (Ay e12)) (dsl (.str x12) (Gn (i:=oi 2 1) (j:=1) (k:=0) (e:=9) (t:=.str) (xs:=y4) kr kr e12 kr) (dz0 (an x12.size) (dz0 (ai (wI ((x12.size:Int) - 1))) ?_))))));obtain ⟨g13,h⟩:=Ax h;obtain ⟨y14,h14,h⟩:=Au h;refine ds0 (.str (x12.extract 0 ((wI ((x12.size:Int) - 1)).toNat))) (Z9 (s:=x12) (l:=0) (h:=wI ((x12.size:Int) - 1)) kr kr kr g13) (dzc (.own (oi 496 11) .str 0 y14.length) [(oi 496 11,some (.arr 9 .str y14))] [.str (x12.extract 0 ((wI ((x12.size:Int) - 1)).toNat)),.int .u8 62] (Qb (Dt h14)) (dz0 (.own (oi 496 11) .str 0 y14.length) (N3 (Cp kr) (tn_ (wr_ (Ab (Aa 18 (rsT 1 ?_))))))));obtain ⟨x16,e16,h⟩:=Au h;refine rs0 (.elt (oi 2 1) 0 0) (G5 (t:=.str) (o:=oi 2 1) (len:=y4.length) (k:=.i64) (m:=0) kr kr rfl (by decide) rfl (Ay e16)) (rsl (.str x16) (Gn (i:=oi 2 1) (j:=0) (k:=0) (e:=9) (t:=.str) (xs:=y4) kr kr e16 kr) (rcH h (fun h=>Qb (Dt h)) fun y17 h=>rsT 1 (rnW (Ab (sqF h (fun u4=>sT [(2,.box (oi 0 1) 0),(3,.box (oi 1 1) 0),(5,.own (oi 2 1) .str 0 y14.length),(6,.own (oi 3 1) .str 0 y17.length),(43,.bool u4)] [(oi 0 1,.cells 37 [ai 0,ai 0,.nils,.nils]),(oi 1 1,.cells 37 [ai (-1),ai 0,.nils,.nils]),(oi 2 1,.arr 9 .str y14),(oi 3 1,.arr 9 .str y17)]) (fun _ h=>Aa 26 (rsT 4 (kR h 39 (fun _ h=>rsT 4 (A0 (tn_ (jE [(oi 2 1,oi 496 11),(oi 3 1,oi 560 16)])))) fun _ h=>rsT 4 (A0 (tn_ (jE [(oi 2 1,oi 496 11),(oi 3 1,oi 560 16)])))))) ?_)))));intro u4 h;refine kQ h (fun _ h=>Am (Af (tr_ (jZ h [(true,[ai (-1),ai 0,.nils,.nils])] (Ws (E1 Sm (E1 Sm (E1 (Jb (t:=.int) (xs:=[]) .nil) (E1 (Jb (t:=.int) (xs:=[]) .nil) Wb)))) Pb))))) fun _ h=>skW (sqF h (fun u0=>sT [(2,.box (oi 0 1) 0),(3,.box (oi 1 1) 0),(5,.own (oi 2 1) .str 0 y14.length),(6,.own (oi 3 1) .str 0 y17.length)] [(oi 0 1,.cells 37 [ai 0,ai 0,.nils,.nils]),(oi 1 1,.cells 37 [ai u0,ai 0,.nils,.nils]),(oi 2 1,.arr 9 .str y14),(oi 3 1,.arr 9 .str y17)]) ?_ ?_)
 ·intro _ h;refine Ab (Aa 5 (rcH h (fun h=>Qb (I1 h)) fun y25 h=>rsT 2 (rnW (Ai (lpF h (fun (u1,u5)=>sT [(2,.box (oi 0 1) 0),(3,.box (oi 1 1) 0),(5,.own (oi 2 1) .str 0 y14.length),(6,.own (oi 3 1) .str 0 y17.length),(45,.own (oi 4 1) .str 0 y25.length),(46,an y25.length),(47,an u1)] [(oi 0 1,.cells 37 [ai 0,ai 0,.nils,.nils]),(oi 1 1,.cells 37 [ai u5,ai 0,.nils,.nils]),(oi 2 1,.arr 9 .str y14),(oi 3 1,.arr 9 .str y17),(oi 4 1,.arr 9 .str y25)]) (Av [(oi 4 1,oi 720 2)]) ?_)))));rintro n_ ⟨u1,u5⟩ c_ h hn26;refine Am (Ab (kQ h (fun _ h=>skW (sqF h (fun u6=>sT [(2,.box (oi 0 1) 0),(3,.box (oi 1 1) 0),(5,.own (oi 2 1) .str 0 y14.length),(6,.own (oi 3 1) .str 0 y17.length),(45,.own (oi 4 1) .str 0 y25.length),(46,an y25.length),(47,an u1)] [(oi 0 1,.cells 37 [ai 0,ai 0,.nils,.nils]),(oi 1 1,.cells 37 [ai u6,ai 0,.nils,.nils]),(oi 2 1,.arr 9 .str y14),(oi 3 1,.arr 9 .str y17),(oi 4 1,.arr 9 .str y25)]) ?_ fun u6 h=>Aa 4 (raH h fun h=>rsT 1 (A0 (tn_ (jL [])))))) fun _ h=>lxT (have h:=jO h hn26;jE [])));intro _ h;refine Ai (Ab (Aa 8 (rsT 1 ?_)));obtain ⟨x32,e32,h⟩:=Au h;refine zO (oi 4 1) .str y25.length (Ay e32) (rsl (.str x32) (Gn (i:=oi 4 1) (j:=u1) (k:=0) (e:=9) (t:=.str) (xs:=y25) kr kr e32 kr) (rsT 2 (rnW (Ab (Aa 13 (rsT 2 ?_))))));obtain ⟨x34,e34,h⟩:=Au h;exact rs0 (.elt (oi 3 1) 0 0) (G5 (t:=.str) (o:=oi 3 1) (len:=y17.length) (k:=.i64) (m:=0) kr kr rfl (by decide) rfl (Ay e34)) (rsl (.str x34) (Gn (i:=oi 3 1) (j:=0) (k:=0) (e:=9) (t:=.str) (xs:=y17) kr kr e34 kr) (rsT 1 (rnW (kQ h (fun _ h=>Aa 17 (rsB 4 (A0 (bn_ (tn_ (jE [])))))) fun _ h=>Ba (bn_ (tn_ (jE [])))))))
 intro u0 h;refine sqF h (fun u2=>sT [(2,.box (oi 0 1) 0),(3,.box (oi 1 1) 0),(5,.own (oi 2 1) .str 0 y14.length)] [(oi 0 1,.cells 37 [ai 0,ai 0,.nils,.nils]),(oi 1 1,.cells 37 [ai u0,ai u2,.nils,.nils]),(oi 2 1,.arr 9 .str y14)]) ?_ ?_
 ·intro _ h;refine Am (kQ h (fun _ h=>Aa 11 (rsT 1 ?_)) fun _ h=>Ba (tn_ (jE [])));obtain ⟨x40,e40,h⟩:=Au h;exact rs0 (.elt (oi 3 1) 1 0) (G5 (t:=.str) (o:=oi 3 1) (len:=y17.length) (k:=.i64) (m:=1) kr kr rfl (by decide) rfl (Ay e40)) (rsl (.str x40) (Gn (i:=oi 3 1) (j:=1) (k:=0) (e:=9) (t:=.str) (xs:=y17) kr kr e40 kr) (rcH h (fun h=>Qb (G6 h)) fun y41 h=>rsB 2 (A0 (tn_ (jE [])))))
 intro u2 h;refine Ab (Aa 8 (rsT 1 ?_));obtain ⟨x43,e43,h⟩:=Au h;refine rs0 (.elt (oi 2 1) 0 0) (G5 (t:=.str) (o:=oi 2 1) (len:=y14.length) (k:=.i64) (m:=0) kr kr rfl (by decide) rfl (Ay e43)) (rsl (.str x43) (Gn (i:=oi 2 1) (j:=0) (k:=0) (e:=9) (t:=.str) (xs:=y14) kr kr e43 kr) (rcH h (fun h=>Aeq hz_ (Hh h)) fun y44 h=>rsB 2 (rnW (Ab (Aa 14 (rsT 1 ?_))))));obtain ⟨x46,e46,h⟩:=Au h;exact rs0 (.elt (oi 2 1) 1 0) (G5 (t:=.str) (o:=oi 2 1) (len:=y14.length) (k:=.i64) (m:=1) kr kr rfl (by decide) rfl (Ay e46)) (rsl (.str x46) (Gn (i:=oi 2 1) (j:=1) (k:=0) (e:=9) (t:=.str) (xs:=y14) kr kr e46 kr) (rcH h (fun h=>Aeq hz_ (Hh h)) fun y47 h=>rsB 2 (rnW (Am (Af (jZ h [(true,[ai u0,ai u2,.ftr nz_ .int y44,.ftr nz_ .int y47])] (Ws (E1 Sm (E1 Sm (E1 (Jb .ftr) (E1 (Jb .ftr) Wb)))) Pb)))))))
end


section
theorem Gp (s:ByteArray):ba s.data.toList=s:=by
 apply ByteArray.ext;simp [ba]
theorem Aeh (s:ByteArray) (c:UInt8):Ur s (⟨#[c]⟩:ByteArray)=(Dj c s.data.toList).map ba:=by
 unfold Ur;have h:=Lib.splitB_data (⟨#[c]⟩:ByteArray) 0 (Lib.countB s (⟨#[c]⟩:ByteArray)) s;have hc:Lib.countB s (⟨#[c]⟩:ByteArray)=s.data.toList.count c:=Lib.count_one c _;rw [hc] at h ⊢;rw [show (⟨#[c]⟩:ByteArray).data.toList=[c] from rfl,Jm] at h;rw [← h,List.map_map]
 conv=>lhs;rw [← List.map_id (Lib.splitB _ _ _ _)]
 exact List.map_congr_left fun x _=>(Gp x).symm
theorem Sh {c:UInt8} (b:UInt8):∀ l:List UInt8,∃ i x,Dj c l=i++[x]/\Dj c (l++[b])=if b=c then i++[x,[]] else i++[x++[b]]
 | []=>⟨[],[],rfl,by
  by_cases h:b=c
  ·rw [if_pos h];subst h;exact Gc []
  ·rw [if_neg h];exact Eo (l:=[b]) (by simp [Ne.symm h])⟩
 | a :: l=>by
  obtain ⟨i,x,h1,h2⟩:=Sh b l;by_cases ha:a=c
  ·replace ha:=ha.symm
   subst ha;refine ⟨[] :: i,x,by rw [Gc,h1];rfl,?_⟩;rw [List.cons_append,Gc,h2];split <;> rfl
  ·obtain ⟨h,t,g1,g2⟩:=E7 ha l;obtain ⟨h',t',g3,g4⟩:=E7 ha (l++[b]);rw [List.cons_append,g4,g2];rw [h1] at g1;rw [h2] at g3;cases i with
   | nil =>
    obtain ⟨rfl,rfl⟩:=List.cons.inj g1;refine ⟨[],a :: x,rfl,?_⟩;by_cases hb:b=c
    ·rw [if_pos hb] at g3 ⊢;obtain ⟨rfl,rfl⟩:=List.cons.inj g3;rfl
    ·rw [if_neg hb] at g3 ⊢;obtain ⟨rfl,rfl⟩:=List.cons.inj g3;rfl
   | cons y i =>
    obtain ⟨rfl,rfl⟩:=List.cons.inj g1;refine ⟨(a :: y) :: i,x,rfl,?_⟩;by_cases hb:b=c
    ·rw [if_pos hb] at g3 ⊢;obtain ⟨rfl,rfl⟩:=List.cons.inj g3;rfl
    ·rw [if_neg hb] at g3 ⊢;obtain ⟨rfl,rfl⟩:=List.cons.inj g3;rfl
theorem Xs (l:List UInt8) (i:Nat):(ba l)[i]? =l[i]?:=by
 by_cases h:i<l.length
 ·rw [ByteArray.getElem?_lt' _ _ (by rw [Bg];exact h),gEg h];rfl
 ·rw [ByteArray.getElem?_ge' _ _ (by rw [Bg];exact h),List.getElem?_eq_none oM]
theorem S9 (l:List UInt8) (a b:Nat):(ba l).extract a b=ba ((l.drop a).take (b - a)):=ByteArray.extract_mk l a b
theorem Ei (l:List UInt8) (c:UInt8) (hl:l.length<=1048577):Cf (ba l) ((c.toNat:Nat):Int)=some ((Dj c l).map ba):=by
 unfold Cf
 have key:∃ r,Az (fun s_:Nat×Nat×List ByteArray=>D1 (ba l) ((c.toNat:Nat):Int) s_.1 s_.2.1 s_.2.2) 4611686018427387904 (0,0,[])=some r/\∃ ini x,Dj c l=ini++[x]/\r.2=ini.map ba/\r.1+x.length=l.length/\x=l.drop r.1/\ini.length<=l.length:=by
  refine G0 (F:=4611686018427387904) (s0:=((0,0,[]):Nat×Nat×List ByteArray)) (Post:=fun r:Nat×List ByteArray=>∃ ini x,Dj c l=ini++[x]/\r.2=ini.map ba/\r.1+x.length=l.length/\x=l.drop r.1/\ini.length<=l.length) l.length (fun (i:Nat) (st:Nat×Nat×List ByteArray)=>st.2.1=i/\∃ ini x,Dj c (l.take i)=ini++[x]/\st.2.2=ini.map ba/\st.1+x.length=i/\x=(l.take i).drop st.1/\ini.length<=i) oM ⟨rfl,[],[],rfl,rfl,rfl,by simp,Nat.le_refl _⟩ ?_ ?_
  ·rintro i ⟨fr,i',out⟩ hi ⟨h1,ini,x,h2,h3,h4,h5,h6⟩;dsimp only at h1 h3 h4 h5;subst h1 h3;have hx:=gEg hi;have hlen:=Jp (c:=c) (l.take i');have hcl:=List.count_le_length (a:=c) (l:=l.take i');rw [h2,List.length_append,List.length_singleton] at hlen;rw [List.length_take] at hcl;obtain ⟨ini',x',g1,g2⟩:=Sh (c:=c) l[i'] (l.take i');obtain ⟨rfl,he⟩:=List.append_inj' (h2.symm.trans g1) rfl;obtain rfl:=(List.cons.inj he).1;have htk:l.take (i'+1)=l.take i'++[l[i']]:=by rw [List.take_add_one,hx];rfl
   refine .inl ?_
   try dsimp only
   unfold D1;rw [Bg,B5 oM,cond_true,Xs,hx,obs];by_cases hb:l[i']=c
   ·rw [if_pos hb] at g2;rw [beq_iff_eq.2 (by rw [hb]),cond_true,Aj oM,Aj (by rw [List.length_map];omega),Aj oM,obs];refine ⟨_,Aj oM _,rfl,ini++[x],[],by rw [htk,g2];simp,?_,by simp,?_,by simp;omega⟩
    ·dsimp only;rw [List.map_append,List.map_singleton,S9,h5];congr 3;rw [List.drop_take]
    ·dsimp only;rw [List.drop_eq_nil_of_le (by rw [List.length_take];omega)]
   ·rw [if_neg hb] at g2;rw [beq_eq_false_iff_ne.2 (fun e=>hb (UInt8.toNat_inj.1 oM)),cond_false,obs];refine ⟨_,Aj oM _,rfl,ini,x++[l[i']],by rw [htk,g2],rfl,by simp;omega,?_,by omega⟩;dsimp only;rw [htk,List.drop_append_of_le_length (by rw [List.length_take];omega),← h5]
  ·rintro ⟨fr,i',out⟩ ⟨h1,ini,x,h2,h3,h4,h5,h6⟩;dsimp only at h1 h3 h4 h5;subst h1 h3;rw [List.take_length] at h2 h5
   try dsimp only
   unfold D1;rw [Bg,B0 oM,cond_false];exact ⟨_,rfl,ini,x,h2,rfl,h4,h5,h6⟩
 obtain ⟨⟨fr,out⟩,h1,ini,x,h2,h3,h4,h5,h6⟩:=key;dsimp only at h3 h4 h5;subst h3;rw [h1,obs,h2];show og _ _=_;rw [Bg,Aj oM,Aj (by rw [List.length_map];omega),S9,List.map_append,List.map_singleton,h5,List.take_of_length_le (by rw [List.length_drop];omega)]
theorem Adn (l:List UInt8) (c:UInt8) (hl:l.length<=1048577):Dr (ba l) (⟨#[c]⟩:ByteArray)=some ((Dj c l).map ba):=by
 unfold Dr;rw [Aj ⟨by rw [Bg];omega,by show 1<=1;omega⟩,Aeh,D2]
theorem Af9 {c:UInt8} (n:Int) (h:c.toNat<48):c∉dg n:=fun hm=>by
 have:=Kb _ c hm;omega
theorem rd1:∀ i:Fin 10,Bo (ba [UInt8.ofNat (48+i.val)])=some (i.val:Int):=by decide +kernel
theorem rd2:∀ i:Fin 100,10<=i.val->Bo (ba [UInt8.ofNat (48+i.val / 10),UInt8.ofNat (48+i.val % 10)])=some (i.val:Int):=by decide +kernel
theorem Q0 {n:Int} (h:0<=n/\n<100):Bo (ba (dg n))=some n:=by
 obtain ⟨k,rfl⟩:=Int.eq_ofNat_of_zero_le h.1;unfold dg;rw [show ((k:Int)).toNat=k from rfl];by_cases h10:k<10
 ·rw [Lib.decDigits_one h10];exact rd1 ⟨k,h10⟩
 ·rw [Lib.decDigits_two h10 oM];exact rd2 ⟨k,by omega⟩ (by show 10<=k;omega)
theorem Js (l:List UInt8):∃ r,Bo (ba l)=some r:=by
 unfold Bo;rw [Il,obs,Bg];cases h:inR ((l.length:Nat):Int) 1 6
 ·exact ⟨_,rfl⟩
 have hb:=Bn.1 h
 have key:∃ r,Az (fun s_:Int×Nat=>En (ba l) s_.1 s_.2) 4611686018427387904 (0,0)=some r/\True:=by
  refine G0 (F:=4611686018427387904) (s0:=((0,0):Int×Nat)) (Post:=fun _=>True) l.length (fun (i:Nat) (st:Int×Nat)=>st.2=i) oM rfl ?_ ?_
  ·rintro i ⟨v,i'⟩ hi h1;dsimp only at h1;subst h1;have hx:=gEg hi
   try dsimp only
   unfold En;rw [Bg,B5 oM,cond_true,Xs,hx];simp only [obs];cases decide (((l[i'].toNat:Nat):Int)<48)
   ·cases decide ((57:Int)<((l[i'].toNat:Nat):Int))
    ·simp only [cond_false,obs];rw [Aj oM];exact .inl ⟨_,rfl,rfl⟩
    ·exact .inr ⟨_,rfl,trivial⟩
   ·exact .inr ⟨_,rfl,trivial⟩
  ·rintro ⟨v,i'⟩ h1;dsimp only at h1;subst h1
   try dsimp only
   unfold En;rw [Bg,B0 oM,cond_false];exact ⟨_,rfl,trivial⟩
 obtain ⟨r,hr,-⟩:=key;rw [hr,Xs,gEg oM];simp only [Bool.not_true,cond_false,obs];cases (((l[0].toNat:Nat):Int)==48) <;> cases decide ((1:Int)<((l.length:Nat):Int)) <;> cases r <;> exact ⟨_,rfl⟩
end
section
def N2 (es:List Edg) (xs ys:List Int):List Int:=xs++(ys++es.flatMap fun e=>e.2.2.1++e.2.2.2)
def D8 (W:Int) (es:List Edg) (xs ys:List Int):Bool :=
 inR W 0 100&&(decide (es.length<=60)&&(decide (xs.length<=12)&&(decide (ys.length<=12)&&(es.all edK&&(Cu W (N2 es xs ys)&&(List.range W.toNat).all fun j:Nat=>decide ((j:Int)∈N2 es xs ys))))))
def Du (W:Int) (S:List Int):List Bool:=(List.range W.toNat).map fun j:Nat=>decide ((j:Int)∈S)
def Ic (W:Int) (S:List Int):Int:=((Du W S).count true:Nat)
def Fv (W:Int) (S:List Int):List Int:=(List.range W.toNat).map fun j:Nat=>((S.count (j:Int):Nat):Int)
section
variable {W:Int} {S:List Int} {x:Int}
theorem Jg:(Du W S).length=W.toNat:=by simp [Du]
theorem Xx:0<=Ic W S/\Ic W S<=W.toNat:=by
 have:=List.count_le_length (a:=true) (l:=Du W S);rw [Jg] at this;unfold Ic;omega
theorem Adb (h:inR x 0 (W - 1)=false):Du W (S++[x])=Du W S:=by
 unfold Du;refine List.map_congr_left fun j hj=>?_
 have hj:=List.mem_range.1 hj;have hx:=Zv.1 h;have hne:(j:Int)≠x:=by omega
 simp [hne]
theorem Vj (h:inR x 0 (W - 1)=true):Kg (Du W S) x=some (decide (x∈S)):=by
 have hx:=Bn.1 h;rw [Qt hx.1];unfold Du;rw [List.getElem?_map,List.getElem?_range oM,Option.map_some,Int.toNat_of_nonneg hx.1]
theorem Vu (h:inR x 0 (W - 1)=true):(Du W S).set x.toNat true=Du W (S++[x]):=by
 have hx:=Bn.1 h;refine List.ext_getElem (by rw [List.length_set,Jg,Jg]) fun i h1 h2=>?_
 rw [List.getElem_set];simp only [Du,List.getElem_map,List.getElem_range];by_cases hi:x.toNat=i
 ·have:(i:Int)=x:=by omega
  simp [this,hi]
 ·have:¬ (i:Int)=x:=by omega
  simp [this,hi]
theorem Y7 (h:x∈S):Du W (S++[x])=Du W S:=by
 unfold Du;refine List.map_congr_left fun j _=>?_
 have:(j:Int)∈S++[x]↔(j:Int)∈S:=by
  rw [List.mem_append,List.mem_singleton];exact ⟨fun h'=>h'.elim id fun h'=>h'▸h,.inl⟩
 simp only [this]
theorem Aax (h:inR x 0 (W - 1)=true) (hn:x∉S):Ic W (S++[x])=Ic W S+1:=by
 have hx:=Bn.1 h;unfold Ic;rw [← Vu h,List.count_set (by rw [Jg];omega)];have hg:=Vj (S:=S) h;rw [Qt hx.1,decide_eq_false hn] at hg;have hg2:=(gSi.1 hg).2;rw [hg2];simp
theorem Ol {xs:List Int}:Cu W (S++xs)=(Cu W S&&Cu W xs):=by unfold Cu;rw [List.all_append]
theorem Yc:Cu W [x]=inR x 0 (W - 1):=by simp [Cu]
theorem Im (hW:0<=W/\W<=100) (es:List Edg) (a b xs:List Int) (hl:xs.length<=1048576):Bb xs W es a b (Cu W S) (Du W S) (Ic W S)=some (Cu W (S++xs),Du W (S++xs),Ic W (S++xs)):=by
 unfold Bb;refine Dz xs.length (fun i=>(i,Cu W (S++xs.take i),Ic W (S++xs.take i),Du W (S++xs.take i))) oM _ (by simp) (fun i hi=>?_) ?_
 ·have hx:=gEg hi
  try dsimp only
  unfold Cv;rw [B5 oM,cond_true,hx,obs,Gk (n:=W - 1) oM oM,Qu,obs,List.take_add_one,hx,Option.toList,← List.append_assoc];have hc:=Xx (W:=W) (S:=S++xs.take i);generalize xs[i]=x at *;generalize S++xs.take i=T at *;cases hr:inR x 0 (W - 1)
  ·rw [Bool.not_false,cond_true,obs,Ol,Yc,hr,Bool.and_false,Ic,Ic,Adb hr];exact Aj oM _
  ·rw [Bool.not_true,cond_false,Vj hr,obs,Ol,Yc,hr,Bool.and_true];by_cases hm:x∈T
   ·rw [decide_eq_true hm,Bool.not_true,cond_false,obs,Ic,Ic,Y7 hm];exact Aj oM _
   ·rw [decide_eq_false hm,Bool.not_false,cond_true,obs,Gk oM oM,Aax hr hm,Vu hr];exact Aj oM _
 ·try dsimp only
  unfold Cv;rw [B0 oM,cond_false,List.take_length]
theorem Vk:Du W []=List.replicate W.toNat false:=by
 unfold Du;rw [List.eq_replicate_iff];simp
theorem Aaq:Ic W []=0:=by
 unfold Ic;rw [Vk,List.count_replicate];simp
theorem Adh (hW:0<=W/\W<=100) (es:List Edg) (xs ys:List Int) (h1:es.length<=1048576) (h2:∀ e∈es,Q7 e) (h3:xs.length<=1048576) (h4:ys.length<=1048576) :
  Ap W es xs ys W es xs ys true (List.replicate W.toNat (false:Bool)) 0=some (Cu W (N2 es xs ys),Du W (N2 es xs ys),Ic W (N2 es xs ys)):=by
 unfold Ap;have e1:=Im (S:=[]) hW es xs ys xs h3;rw [Vk,Aaq,List.nil_append] at e1;rw [show (true:Bool)=Cu W [] from rfl,e1,obs]
 try dsimp only
 rw [Im hW es xs ys ys h4,obs]
 try dsimp only
 refine Dz es.length (fun i=>(i,Cu W (xs++(ys++(es.take i).flatMap fun e=>e.2.2.1++e.2.2.2)),Ic W (xs++(ys++(es.take i).flatMap fun e=>e.2.2.1++e.2.2.2)),Du W (xs++(ys++(es.take i).flatMap fun e=>e.2.2.1++e.2.2.2)))) oM _ (by simp) (fun i hi=>?_) ?_
 ·have hx:=gEg hi;have hk:=h2 _ (List.getElem_mem hi)
  try dsimp only
  unfold A5;rw [B5 oM,cond_true,hx,obs,Im hW es xs ys _ hk.1,obs]
  try dsimp only
  rw [Im hW es xs ys _ hk.2,obs,Aj oM,List.take_add_one,hx,Option.toList,List.flatMap_append];simp only [List.flatMap_cons,List.flatMap_nil,List.append_nil,List.append_assoc]
 ·try dsimp only
  unfold A5;rw [B0 oM,cond_false,List.take_length];rfl
theorem Ack:(Ic W S==W)=(if 0<=W then (List.range W.toNat).all fun j:Nat=>decide ((j:Int)∈S) else false):=by
 by_cases hW:0<=W
 ·rw [if_pos hW,Bool.eq_iff_iff,beq_iff_eq];have hlen:=Jg (W:=W) (S:=S);have:Ic W S=W↔(Du W S).count true=(Du W S).length:=by unfold Ic;rw [hlen];omega
  rw [this,List.count_eq_length,List.all_eq_true];unfold Du;simp only [List.mem_map,List.mem_range,decide_eq_true_eq];constructor
  ·intro h j hj;have:=h _ ⟨j,hj,rfl⟩;exact of_decide_eq_true this.symm
  ·rintro h b ⟨j,hj,rfl⟩;exact (decide_eq_true (h j hj)).symm
 ·rw [if_neg hW];have:=Xx (W:=W) (S:=S);exact beq_eq_false_iff_ne.2 oM
theorem Zf (W:Int) (es:List Edg) (xs ys:List Int) (h1:es.length<=1048576) (h2:∀ e∈es,Q7 e):Ea W es xs ys=some (D8 W es xs ys):=by
 unfold Ea D8;rw [Qu,obs];cases hW:inR W 0 100
 ·rfl
 have hb:=Bn.1 hW;rw [Bool.not_true,cond_false];rcases Nat.lt_or_ge 60 es.length with n1|n1
 ·rw [B5 (show (60:Int)<((es.length:Nat):Int) by omega),B0 (show ¬ es.length<=60 by omega)];rfl
 rw [B0 (show ¬ (60:Int)<((es.length:Nat):Int) by omega),B5 n1,cond_false];rcases Nat.lt_or_ge 12 xs.length with n2|n2
 ·rw [B5 (show (12:Int)<((xs.length:Nat):Int) by omega),B0 (show ¬ xs.length<=12 by omega)];rfl
 rw [B0 (show ¬ (12:Int)<((xs.length:Nat):Int) by omega),B5 n2,cond_false];rcases Nat.lt_or_ge 12 ys.length with n3|n3
 ·rw [B5 (show (12:Int)<((ys.length:Nat):Int) by omega),B0 (show ¬ ys.length<=12 by omega)];rfl
 rw [B0 (show ¬ (12:Int)<((ys.length:Nat):Int) by omega),B5 n3,obs,cond_false,Bool.true_and,Bool.true_and,Bool.true_and,Bool.true_and];rw [Kd es edK (.next ()) (.out false) oM (fun i x h=>?_) ?_]
 ·cases he:es.all edK
  ·rfl
  rw [if_pos rfl,Bool.true_and];show (og _ _:Option Bool)=_;rw [Aj oM,Adh hb es xs ys h1 h2 oM oM,obs]
  try dsimp only
  rw [Ack,if_pos hb.1];cases Cu W (N2 es xs ys) <;> rfl
 ·unfold Da;rw [B0 oM,cond_false]
 ·have:=Ay h;unfold Da;rw [B5 oM,cond_true,h,obs,Aci,obs,Aj oM];cases edK x <;> rfl
theorem Adl:Fv W []=List.replicate W.toNat 0:=by
 unfold Fv;rw [List.eq_replicate_iff];simp
theorem Aek (h:inR x 0 (W - 1)=true):Kg (Fv W S) x=some ((S.count x:Nat):Int):=by
 have hx:=Bn.1 h;rw [Qt hx.1];unfold Fv;rw [List.getElem?_map,List.getElem?_range oM,Option.map_some,Int.toNat_of_nonneg hx.1]
theorem Aeg (h:inR x 0 (W - 1)=true):(Fv W S).set x.toNat (((S.count x:Nat):Int)+1)=Fv W (S++[x]):=by
 have hx:=Bn.1 h;refine List.ext_getElem (by simp [Fv]) fun i h1 h2=>?_
 rw [List.getElem_set];simp only [Fv,List.getElem_map,List.getElem_range,List.count_append,List.count_singleton];by_cases hi:x.toNat=i
 ·have:(i:Int)=x:=by omega
  simp [this,hi]
 ·have:¬ x=(i:Int):=by omega
  simp [this,hi]
theorem Lm {ρ:Type} {body:Nat×List Int->Option (Ctl (Nat×List Int) ρ)} (xs:List Int) (f:List Int->ρ)
  (hb:∀ i s,body (i,s)=cond (decide (((i:Nat):Int)<((xs.length:Nat):Int))) (Option.bind (xs[i]?) fun x=>Option.bind (Kg s x) fun y=>og (i+1<4611686018427387904)<|some (Ctl.next (i+1,s.set x.toNat (wI (y+1))))) (some (Ctl.out (f s))))
  (hr:Cu W xs=true) (hl:(S++xs).length<=1000000):Az body 4611686018427387904 (0,Fv W S)=some (f (Fv W (S++xs))):=by
 rw [List.length_append] at hl;refine Dz xs.length (fun i=>(i,Fv W (S++xs.take i))) oM _ (by simp) (fun i hi=>?_) ?_
 ·have hx:=gEg hi;have hin:inR xs[i] 0 (W - 1)=true:=List.all_eq_true.1 hr _ (List.getElem_mem hi);have hc:=List.count_le_length (a:=xs[i]) (l:=S++xs.take i);rw [List.length_append,List.length_take] at hc
  try dsimp only
  rw [hb,B5 oM,cond_true,hx,obs,Aek hin,obs,Aj oM,Gk oM oM,Aeg hin,List.take_add_one,hx,Option.toList,List.append_assoc]
 ·try dsimp only
  rw [hb,B0 oM,cond_false,List.take_length]
def Hl (es:List Edg) (xs:List Int):List Int:=xs++es.flatMap fun e=>e.2.2.2
def Lv (es:List Edg) (ys:List Int):List Int:=ys++es.flatMap fun e=>e.2.2.1
theorem R4 {es:List Edg} (h:∀ e∈es,edK e=true) (hl:es.length<=60) (k:Nat):(((es.take k).flatMap fun e=>e.2.2.1):List Int).length<=120/\(((es.take k).flatMap fun e=>e.2.2.2):List Int).length<=120:=by
 have key:∀ (l:List Edg),(∀ e∈l,edK e=true)->((l.flatMap fun e=>e.2.2.1):List Int).length<=2*l.length/\((l.flatMap fun e=>e.2.2.2):List Int).length<=2*l.length:=by
  intro l
  induction l with
  | nil=>simp
  | cons e l ih =>
   intro h;have h1:=Gs (h e (by simp));have h2:=ih fun e he=>h e (by simp [he])
   simp only [List.flatMap_cons,List.length_append,List.length_cons];omega
 have:=key (es.take k) fun e he=>h e (List.mem_of_mem_take he)
 rw [List.length_take] at this;omega
theorem Xn (hW:0<=W/\W<=100) (es:List Edg) (xs ys:List Int) (h1:es.length<=60) (h2:∀ e∈es,edK e=true) (h3:xs.length<=12) (h4:ys.length<=12)
  (r1:Cu W xs=true) (r2:Cu W ys=true) (r3:∀ e∈es,Cu W e.2.2.1=true/\Cu W e.2.2.2=true):Ds W es xs ys=some (Fv W (Hl es xs),Fv W (Lv es ys)):=by
 unfold Ds
 rw [Aj oM,Aj oM,← Adl,
  Lm (body:=fun s_:Nat×List Int=>Hd xs s_.1 s_.2) xs (fun s=>s) (fun _ _=>rfl) r1 (by simp;omega),obs,
  Lm (body:=fun s_:Nat×List Int=>Hf ys s_.1 s_.2) ys (fun s=>s) (fun _ _=>rfl) r2 (by simp;omega),obs,List.nil_append,List.nil_append]
 have h:Az (fun s_:Nat×List Int×List Int=>Dp es s_.1 s_.2.1 s_.2.2) 4611686018427387904 (0,Fv W xs,Fv W ys)=some (Fv W (Hl es xs),Fv W (Lv es ys)):=by
  refine Dz es.length (fun i=>(i,Fv W (Hl (es.take i) xs),Fv W (Lv (es.take i) ys))) oM _ (by simp [Hl,Lv]) (fun i hi=>?_) ?_
  ·have hx:=gEg hi;have hk:=Gs (h2 _ (List.getElem_mem hi));obtain ⟨k1,k2⟩:=r3 _ (List.getElem_mem hi);have hle:=R4 h2 h1 i
   try dsimp only
   unfold Dp
   rw [B5 oM,cond_true,hx,obs,Lm (body:=fun s_:Nat×List Int=>Hb es[i] s_.1 s_.2) es[i].2.2.2 (fun s=>s) (fun _ _=>rfl) k2 (by simp only [Hl,List.length_append];omega),obs,
    Lm (body:=fun s_:Nat×List Int=>Gy es[i] _ s_.1 s_.2) es[i].2.2.1 (fun s=>(_,s)) (fun _ _=>rfl) k1 (by simp only [Lv,List.length_append];omega),obs]
   try dsimp only
   rw [Aj oM];unfold Hl Lv;rw [List.take_add_one,hx,Option.toList,List.flatMap_append,List.flatMap_append];simp only [List.flatMap_cons,List.flatMap_nil,List.append_nil,List.append_assoc]
  ·try dsimp only
   unfold Dp;rw [B0 oM,cond_false,List.take_length]
 rw [h];rfl
theorem Xt (W:Int) (es:List Edg) (xs ys:List Int):Cu W (N2 es xs ys)=(Cu W xs&&(Cu W ys&&es.all fun e=>Cu W e.2.2.1&&Cu W e.2.2.2)):=by
 unfold N2;rw [Ol,Ol];congr 2;unfold Cu;rw [List.all_flatMap];simp only [List.all_append]
theorem Aef (es:List Edg) (xs ys:List Int) (j:Int):(j∈N2 es xs ys)↔(j∈Hl es xs∨j∈Lv es ys):=by
 unfold N2 Hl Lv;simp only [List.mem_append,List.mem_flatMap];constructor
 ·rintro (h|h|⟨e,he,h|h⟩)
  ·exact .inl (.inl h)
  ·exact .inr (.inl h)
  ·exact .inr (.inr ⟨e,he,h⟩)
  ·exact .inl (.inr ⟨e,he,h⟩)
 ·rintro ((h|⟨e,he,h⟩)|(h|⟨e,he,h⟩))
  ·exact .inl h
  ·exact .inr (.inr ⟨e,he,.inr h⟩)
  ·exact .inr (.inl h)
  ·exact .inr (.inr ⟨e,he,.inl h⟩)
theorem Z2 (W:Int) (es:List Edg) (xs ys:List Int):Gx W es xs ys=some (D8 W es xs ys):=by
 unfold Gx D8;rw [Il,obs];cases hW:inR W 0 100
 ·rfl
 have hb:=Bn.1 hW;rw [Bool.not_true,cond_false];rcases Nat.lt_or_ge 60 es.length with n1|n1
 ·rw [B5 (show (60:Int)<((es.length:Nat):Int) by omega),B0 (show ¬ es.length<=60 by omega)];rfl
 rw [B0 (show ¬ (60:Int)<((es.length:Nat):Int) by omega),B5 n1,cond_false];rcases Nat.lt_or_ge 12 xs.length with n2|n2
 ·rw [B5 (show (12:Int)<((xs.length:Nat):Int) by omega),B0 (show ¬ xs.length<=12 by omega)];rfl
 rw [B0 (show ¬ (12:Int)<((xs.length:Nat):Int) by omega),B5 n2,cond_false];rcases Nat.lt_or_ge 12 ys.length with n3|n3
 ·rw [B5 (show (12:Int)<((ys.length:Nat):Int) by omega),B0 (show ¬ ys.length<=12 by omega)];rfl
 rw [B0 (show ¬ (12:Int)<((ys.length:Nat):Int) by omega),B5 n3,cond_false,Bool.true_and,Bool.true_and,Bool.true_and,Bool.true_and,Gk oM oM,Of xs _ _ oM,obs,Of ys _ _ oM,Xt];show Option.bind (cond (!Cu W xs) (some true) (Option.bind (some (Cu W ys)) fun y11=>some (!y11))) _=_;cases r1:Cu W xs
 ·rw [Bool.false_and,Bool.false_and,Bool.and_false];rfl
 cases r2:Cu W ys
 ·rw [Bool.false_and,Bool.and_false,Bool.false_and,Bool.and_false];rfl
 rw [Bool.not_true,cond_false,obs,obs,Bool.not_true,cond_false,Bool.true_and,Bool.true_and];rw [Kd es (fun e=>edK e&&(Cu W e.2.2.1&&Cu W e.2.2.2)) (.next ()) (.out false) oM (fun i x h=>?_) ?_]
 ·have hsplit:(es.all fun e=>edK e&&(Cu W e.2.2.1&&Cu W e.2.2.2))=(es.all edK&&es.all fun e=>Cu W e.2.2.1&&Cu W e.2.2.2):=by
   clear n1
   induction es with
   | nil=>rfl
   | cons e es ih=>simp only [List.all_cons,ih];cases edK e <;> cases (Cu W e.2.2.1&&Cu W e.2.2.2) <;> simp
  rw [hsplit];cases he:es.all edK
  ·rfl
  cases hr:es.all fun e=>Cu W e.2.2.1&&Cu W e.2.2.2
  ·rfl
  rw [Bool.true_and,if_pos rfl,Bool.true_and];have hk:=List.all_eq_true.1 he;show Option.bind (Ds W es xs ys) _=_;rw [Xn hb es xs ys n1 hk n2 n3 r1 r2 (fun e h=>by have:=List.all_eq_true.1 hr e h;simpa using this),obs];show Mm (Az (fun s_:Nat=>D3 (Fv W (Hl es xs),Fv W (Lv es ys)) s_) 4611686018427387904 0) (fun _=>some true)=_;have hlen:((Fv W (Hl es xs)).length:Nat)=W.toNat:=by simp [Fv]
  rw [Kd (List.range W.toNat) (fun j:Nat=>decide ((j:Int)∈N2 es xs ys)) (.next ()) (.out false) (by simp;omega) (fun i x h=>?_) ?_,X2]
  ·rw [Bool.true_and]
  ·unfold D3;rw [List.length_range,hlen,B0 oM,cond_false]
  ·have hi:=Ay h;rw [List.length_range] at hi;rw [List.getElem?_range hi] at h;obtain rfl:=osj h;have hle:=R4 hk n1 es.length;rw [List.take_length] at hle;have hc1:=List.count_le_length (a:=(i:Int)) (l:=Hl es xs);have hc2:=List.count_le_length (a:=(i:Int)) (l:=Lv es ys);have hL1:(Hl es xs).length=xs.length+(es.flatMap fun e=>e.2.2.2).length:=List.length_append;have hL2:(Lv es ys).length=ys.length+(es.flatMap fun e=>e.2.2.1).length:=List.length_append;unfold D3
   try dsimp only
   rw [show (Fv W (Hl es xs))[i]? =some (((Hl es xs).count (i:Int):Nat):Int) from by simp [Fv,hi],show (Fv W (Lv es ys))[i]? =some (((Lv es ys).count (i:Int):Nat):Int) from by simp [Fv,hi]];have e1:=List.count_eq_zero (a:=(i:Int)) (l:=Hl es xs);have e2:=List.count_eq_zero (a:=(i:Int)) (l:=Lv es ys);have e3:=Aef es xs ys (i:Int);rw [hlen,B5 oM,cond_true,obs,obs,Gk oM oM,Aj oM];by_cases hm:(i:Int)∈N2 es xs ys
   ·rw [decide_eq_true hm,if_pos rfl,beq_eq_false_iff_ne.2 ?_,cond_false];intro h0;rcases e3.1 hm with h|h
    ·exact (e1.1 oM) h
    ·exact (e2.1 oM) h
   ·rw [decide_eq_false hm,if_neg Bool.false_ne_true,beq_iff_eq.2 ?_,cond_true];have q1:=e1.2 fun h=>hm (e3.2 (.inl h))
    have q2:=e2.2 fun h=>hm (e3.2 (.inr h))
    omega
 ·unfold Fa;rw [B0 oM,cond_false]
 ·have:=Ay h;unfold Fa;rw [B5 oM,cond_true,h,obs,Abv x hb,obs,Aj oM];cases (edK x&&(Cu W x.2.2.1&&Cu W x.2.2.2)) <;> rfl
end
end
section
def jn (xs:List Int):List UInt8:=Lib.join (xs.map dg) [44]
theorem Tu:jn []=[]:=rfl
theorem Adu {xs:List Int} (x:Int) (h:xs≠[]):jn (xs++[x])=(jn xs++[44])++dg x:=by
 unfold jn;cases xs with
 | nil=>exact absurd rfl h
 | cons y r =>
  rw [List.cons_append,List.map_cons,List.map_cons,Lib.join_cons,Lib.join_cons,List.map_append];simp [Lib.joinTail,List.append_assoc]
theorem Afi (x:Int):jn [x]=dg x:=by unfold jn;rw [List.map_cons,List.map_nil,Lib.join_one]
theorem Ew {xs:List Int} (h:Ey xs):(jn xs).length<=102*xs.length:=by
 have:=Un (xs.map dg) [44] 101 (fun x hx=>by obtain ⟨n,hn,rfl⟩:=List.mem_map.1 hx;have:=h n hn;exact H1 oM)
 simpa [jn] using this
theorem Ee {α:Type} {a b:List UInt8} (h:a.length+b.length<=10000000) (k:Option α):og ((ba a).size+(ba b).size<=9223372036854775807) k=k:=Aj (by rw [Bg,Bg];omega) k
theorem Md {xs:List Int} (h:Ey xs) (hl:xs.length<=100):C8 xs=some (ba (jn xs)):=by
 unfold C8
 have hloop:Az (fun s_:ByteArray×Nat=>Em xs s_.1 s_.2) 4611686018427387904 ((⟨#[]⟩:ByteArray),0)=some (ba (jn xs)):=by
  refine Dz xs.length (fun i=>(ba (jn (xs.take i)),i)) oM _ rfl (fun i hi=>?_) ?_
  ·have hx:=gEg hi;have hn:=h _ (List.getElem_mem hi);have h1:=Ew (xs:=xs.take i) fun n hn=>h n (List.mem_of_mem_take hn)
   rw [List.length_take] at h1;have h2:=H1 (n:=xs[i]) oM
   try dsimp only
   unfold Em;rw [B5 oM,cond_true,hx,obs,Aac oM,show (⟨#[44]⟩:ByteArray)=ba [44] from rfl,List.take_add_one,hx,Option.toList];by_cases h0:i=0
   ·subst h0;rw [B0 oM,cond_false,obs,obs,List.take_zero,Tu,Ee (by simp;omega),Aj oM,Cl,List.nil_append,List.nil_append,Afi]
   ·rw [B5 oM,cond_true,Ee (by simp;omega),obs,obs,Cl,Ee (by simp;omega),Aj oM,Cl,Adu _ (by
     intro h;have:=congrArg List.length h;rw [List.length_take,List.length_nil] at this;omega)]
  ·try dsimp only
   unfold Em;rw [B0 oM,cond_false,List.take_length]
 rw [hloop];rfl
def Nn:List (List UInt8):=[[99,111,112,121],[100,105,115,99,97,114,100],[97,100,100],[122,101,114,111],[115,99,97,108,101],[100,101,108,97,121],[99,111,99,111,112,121],[99,111,100,105,115,99,97,114,100],[99,111,97,100,100],[99,111,122,101,114,111],[99,111,115,99,97,108,101],[99,111,100,101,108,97,121]]
def D9 (k:Int):List UInt8:=Nn.getD (k.toNat - 3) []
def scl (k:Int):Bool:=k==7||k==13
theorem Xz:∃ ws,Dh=some ws/\∀ k:Int,3<=k/\k<=14->Kg ws k=some (ba (D9 k)):=by
 refine ⟨_,rfl,fun k h=>?_⟩;have hk:k=3∨k=4∨k=5∨k=6∨k=7∨k=8∨k=9∨k=10∨k=11∨k=12∨k=13∨k=14:=by omega
 rcases hk with rfl|rfl|rfl|rfl|rfl|rfl|rfl|rfl|rfl|rfl|rfl|rfl <;> rfl
theorem Adv:∃ ws,Eh=some ws/\∀ k:Int,3<=k/\k<=14->Kg ws (k - 3)=some (ba (D9 k)):=by
 refine ⟨_,rfl,fun k h=>?_⟩;have hk:k=3∨k=4∨k=5∨k=6∨k=7∨k=8∨k=9∨k=10∨k=11∨k=12∨k=13∨k=14:=by omega
 rcases hk with rfl|rfl|rfl|rfl|rfl|rfl|rfl|rfl|rfl|rfl|rfl|rfl <;> rfl
theorem Mx {k:Int} (h:3<=k/\k<=14):(D9 k).length<=9:=by
 have hk:k=3∨k=4∨k=5∨k=6∨k=7∨k=8∨k=9∨k=10∨k=11∨k=12∨k=13∨k=14:=by omega
 rcases hk with rfl|rfl|rfl|rfl|rfl|rfl|rfl|rfl|rfl|rfl|rfl|rfl <;> decide
theorem Acs (k:Int):Cw k=some (scl k):=by
 unfold Cw scl;cases k==7 <;> rfl
theorem Ab1 (k:Int):E2 k=some (scl k):=by
 unfold E2 scl;cases k==7 <;> rfl
theorem J8 {e:Edg} (h:edK e=true):3<=e.1/\e.1<=14:=by
 unfold edK at h;simp only [Bool.and_eq_true] at h;exact Bn.1 h.1
theorem L6 {e:Edg} (h:edK e=true) (hs:scl e.1=true):0<=e.2.1/\e.2.1<=96:=by
 unfold edK at h;simp only [Bool.and_eq_true] at h;have h2:=h.2.1;unfold scl at hs;simp only [Bool.or_eq_true,beq_iff_eq] at hs;rw [if_pos hs] at h2;exact Bn.1 h2
def Fs (e:Edg):List UInt8:=if scl e.1 then D9 e.1++([58]++dg e.2.1) else D9 e.1
def Bm (e:Edg):List UInt8:=((((Fs e++[40])++jn e.2.2.1)++[62])++jn e.2.2.2)++[41]
theorem Ib {e:Edg} (h:edK e=true):(Fs e).length<=111:=by
 have h1:=Mx (J8 h);unfold Fs;split
 ·rename_i hs;have h2:=H1 (n:=e.2.1) (by have:=L6 h hs;omega);simp only [List.length_append,List.length_cons,List.length_nil];omega
 ·omega
theorem M8 {e:Edg} (h:edK e=true) (h1:Ey e.2.2.1) (h2:Ey e.2.2.2):(Bm e).length<=600:=by
 have:=Ib h;have:=Gs h;have:=Ew h1;have:=Ew h2;unfold Bm;simp only [List.length_append,List.length_cons,List.length_nil];omega
theorem Abt {n:Int} (h:0<=n/\n<=1000):Bj n=some (ba (dg n)):=by
 exact Aes h
theorem Xm {e:Edg} (h:edK e=true) (h1:Ey e.2.2.1) (h2:Ey e.2.2.2):Es e.1 e.2.1 e.2.2.1 e.2.2.2=some (ba (Bm e)):=by
 obtain ⟨ws,hw,hk⟩:=Xz;have hr:=J8 h;have hl:=Gs h;have w1:=Mx hr;have w2:=Ib h;have j1:=Ew h1;have j2:=Ew h2;have c1:Ca e.2.2.1=some (ba (jn e.2.2.1)):=L7 h1 oM;have c2:Ca e.2.2.2=some (ba (jn e.2.2.2)):=L7 h2 oM;unfold Es;rw [hw,obs,hk _ hr,obs,Acs,obs,c1,c2,show (⟨#[58]⟩:ByteArray)=ba [58] from rfl,show (⟨#[40]⟩:ByteArray)=ba [40] from rfl,show (⟨#[62]⟩:ByteArray)=ba [62] from rfl,show (⟨#[41]⟩:ByteArray)=ba [41] from rfl]
 have key:(cond (scl e.1) (Option.bind (Bj e.2.1) fun y9=>og ((ba [58]).size+y9.size<=9223372036854775807)<|og ((ba (D9 e.1)).size+(ba [58]++y9).size<=9223372036854775807)<|some (ba (D9 e.1)++(ba [58]++y9))) (some (ba (D9 e.1))))=some (ba (Fs e)):=by
  unfold Fs;cases hs:scl e.1
  ·rfl
  ·have hv:=L6 h hs;have h3:=H1 (n:=e.2.1) oM;rw [cond_true,Abt oM,obs,Ee (by simp;omega),Cl,Ee (by simp;omega),Cl,if_pos rfl]
 rw [key,obs,Ee (by simp;omega),obs];change (og ((ba (Fs e)++ba [40]).size+(ba (jn e.2.2.1)).size<=9223372036854775807) _)=_;rw [Cl,Ee (by simp;omega),Cl,Ee (by simp;omega),obs];change (og (((ba ((Fs e++[40])++jn e.2.2.1))++ba [62]).size+(ba (jn e.2.2.2)).size<=9223372036854775807) (og ((((ba ((Fs e++[40])++jn e.2.2.1))++ba [62])++ba (jn e.2.2.2)).size+(ba [41]).size<=9223372036854775807) (some ((((ba ((Fs e++[40])++jn e.2.2.1))++ba [62])++ba (jn e.2.2.2))++ba [41]))))=_;rw [Cl,Ee (by simp;omega),Cl,Ee (by simp;omega),Cl];rfl
theorem Wi {e:Edg} (h:edK e=true) (h1:Ey e.2.2.1) (h2:Ey e.2.2.2) {T:List UInt8} (hT:T.length<=1000000) {i:Nat} (hi:i<1000) (es:List Edg) (he:es[i]? =some e) :
  Dg es (ba T) i=some (Ctl.next (ba (T++124 :: Bm e),i+1)):=by
 obtain ⟨ws,hw,hk⟩:=Adv;have hr:=J8 h;have hl:=Gs h;have w1:=Mx hr;have w2:=Ib h;have j1:=Ew h1;have j2:=Ew h2;have:=Ay he;unfold Dg;rw [B5 oM,cond_true,he,obs,hw,obs,Gk oM oM,hk _ hr,obs,obs,Ab1,Md h1 oM,Md h2 oM,show (⟨#[58]⟩:ByteArray)=ba [58] from rfl,show (⟨#[40]⟩:ByteArray)=ba [40] from rfl,show (⟨#[62]⟩:ByteArray)=ba [62] from rfl,show (⟨#[41]⟩:ByteArray)=ba [41] from rfl,show (⟨#[124]⟩:ByteArray)=ba [124] from rfl];rw [Ee (by simp;omega),Cl,Ee (by simp;omega),Cl,obs]
 have key:(cond (scl e.1) (Option.bind (B8 4096 e.2.1) fun y29=>og ((ba [58]).size+y29.size<=9223372036854775807)<|og ((ba (T++([124]++D9 e.1))).size+(ba [58]++y29).size<=9223372036854775807)<|some (ba (T++([124]++D9 e.1))++(ba [58]++y29))) (some (ba (T++([124]++D9 e.1)))))=some (ba (T++124 :: Fs e)):=by
  unfold Fs;cases hs:scl e.1
  ·rfl
  ·have hv:=L6 h hs;have h3:=H1 (n:=e.2.1) oM;rw [cond_true,Aac oM,obs,Ee (by simp;omega),Cl,Ee (by simp;omega),Cl,if_pos rfl];simp [List.append_assoc]
 rw [key,obs,obs,Ee (by simp;omega),Cl,Ee (by simp;omega),obs,Cl,Ee (by simp;omega),Cl,Ee (by simp;omega),Cl,Ee (by simp;omega),Aj oM,Cl];unfold Bm;simp [List.append_assoc]
def O8 (W:Int) (xs ys:List Int):List UInt8:=(((dg W++[124])++jn xs)++[124])++jn ys
def Df (W:Int) (es:List Edg) (xs ys:List Int):List UInt8:=O8 W xs ys++es.flatMap fun e=>124 :: Bm e
structure O4 (W:Int) (es:List Edg) (xs ys:List Int):Prop where
 w:0<=W/\W<=100
 n:es.length<=60
 nx:xs.length<=12
 ny:ys.length<=12
 k:∀ e∈es,edK e=true
 rx:Ey xs
 ry:Ey ys
 re:∀ e∈es,Ey e.2.2.1/\Ey e.2.2.2
theorem Ke {W:Int} {xs:List Int} (hW:W<=100) (h:Cu W xs=true):Ey xs:=fun n hn=>by
 have:=Bn.1 (List.all_eq_true.1 h n hn);omega
theorem F8 {W:Int} {es:List Edg} {xs ys:List Int} (h:D8 W es xs ys=true):O4 W es xs ys:=by
 unfold D8 at h;simp only [Bool.and_eq_true,decide_eq_true_eq,Xt,List.all_eq_true] at h;obtain ⟨h1,h2,h3,h4,h5,⟨h6,h7,h8⟩,_⟩:=h;have hw:=Bn.1 h1;exact ⟨hw,h2,h3,h4,h5,Ke hw.2 h6,Ke hw.2 h7,fun e he=>⟨Ke hw.2 (h8 e he).1,Ke hw.2 (h8 e he).2⟩⟩
section
variable {W:Int} {es:List Edg} {xs ys:List Int}
theorem Up (g:O4 W es xs ys):(O8 W xs ys).length<=3000:=by
 have h1:=Ew g.rx;have h2:=Ew g.ry;have h3:=H1 (n:=W) g.w;have h4:=g.nx;have h5:=g.ny;unfold O8;simp only [List.length_append,List.length_cons,List.length_nil];omega
theorem Je (g:O4 W es xs ys) (i:Nat):((es.take i).flatMap fun e=>124 :: Bm e).length<=601*60:=by
 have h1:=S7 (fun e=>124 :: Bm e) 601 (es.take i) fun e he=>by
  have:=List.mem_of_mem_take he;have:=M8 (g.k e this) (g.re e this).1 (g.re e this).2;rw [List.length_cons];omega
 have h2:=g.n;rw [List.length_take] at h1;omega
theorem Aaa (g:O4 W es xs ys):Hu W es xs ys=some (ba (Df W es xs ys)):=by
 have h0:=Up g;have h3:=H1 (n:=W) g.w;have h4:=g.nx;have h5:=g.ny;have hn:=g.n;have hwd:=g.w;have h1:=Ew g.rx;have h2:=Ew g.ry;unfold Hu;rw [Aac oM,obs,Md g.rx oM,Md g.ry oM,show (⟨#[124]⟩:ByteArray)=ba [124] from rfl,Ee (by simp;omega),obs,Cl,Ee (by simp;omega),Cl,Ee (by simp;omega),obs,Cl,Ee (by simp;omega),Cl]
 have hloop:Az (fun s_:ByteArray×Nat=>Dg es s_.1 s_.2) 4611686018427387904 (ba (O8 W xs ys),0)=some (ba (Df W es xs ys)):=by
  refine Dz es.length (fun i=>(ba (O8 W xs ys++(es.take i).flatMap fun e=>124 :: Bm e),i)) oM _ (by simp) (fun i hi=>?_) ?_
  ·have hx:=gEg hi;have hm:=List.getElem_mem hi;have hle:=Je g i
   try dsimp only
   rw [Wi (g.k _ hm) (g.re _ hm).1 (g.re _ hm).2 (by rw [List.length_append];omega) oM es hx,List.take_add_one,hx,Option.toList,List.flatMap_append];simp only [List.flatMap_cons,List.flatMap_nil,List.append_nil,List.append_assoc]
  ·try dsimp only
   unfold Dg;rw [B0 oM,cond_false,List.take_length];rfl
 exact (congrArg (fun z=>Option.bind z fun l10_m3=>some l10_m3) hloop)
theorem Uf (g:O4 W es xs ys):Fk W es xs ys=some (ba (Df W es xs ys)):=by
 have h0:=Up g;have h3:=H1 (n:=W) g.w;have h4:=g.nx;have h5:=g.ny;have hn:=g.n;have hwd:=g.w;unfold Fk;rw [Abt oM,obs,L7 g.rx oM,obs,L7 g.ry oM,obs];have hloop:=Mv (body:=fun s_:Nat×List ByteArray=>Bv es s_.1 s_.2) es (fun e=>ba (Bm e)) [ba (dg W),ba (jn xs),ba (jn ys)] (F:=4611686018427387904) oM ([ba (dg W),ba (jn xs),ba (jn ys)]++es.map fun e=>ba (Bm e)) (fun i x hx=>?_) ?_
 ·have e0:[ba (dg W),ba (jn xs),ba (jn ys)]++es.map (fun e=>ba (Bm e))=(dg W :: jn xs :: jn ys :: es.map Bm).map ba:=by simp
  have e1:=Aab (dg W :: jn xs :: jn ys :: es.map Bm) [124]
  have e2:Lib.join (dg W :: jn xs :: jn ys :: es.map Bm) [124]=Df W es xs ys:=by
   rw [Lib.join_cons];unfold Df O8 Lib.joinTail;simp only [List.map_cons,List.flatten_cons,List.map_map,List.append_assoc,List.flatMap_def];rfl
  have h6:=Je g es.length;rw [List.take_length] at h6;have h7:(Df W es xs ys).length<=100000:=by unfold Df;rw [List.length_append];omega
  show Option.bind (Az (fun s_:Nat×List ByteArray=>Bv es s_.1 s_.2) 4611686018427387904 (0,[ba (dg W),ba (jn xs),ba (jn ys)])) _=_;rw [show Az (fun s_:Nat×List ByteArray=>Bv es s_.1 s_.2) 4611686018427387904 (0,[ba (dg W),ba (jn xs),ba (jn ys)])=some ([ba (dg W),ba (jn xs),ba (jn ys)]++es.map fun e=>ba (Bm e)) by simpa using hloop,obs];unfold De;rw [e0,show (⟨#[124]⟩:ByteArray)=ba [124] from rfl,e1,e2,Aj ⟨by simp;omega,by rw [Bg];omega⟩,obs]
 ·have:=Ay hx;have hm:=List.mem_of_getElem? hx
  try dsimp only
  unfold Bv;rw [B5 oM,cond_true,hx,obs,Xm (g.k _ hm) (g.re _ hm).1 (g.re _ hm).2,obs,Aj (by simp;omega),Aj oM]
 ·try dsimp only
  unfold Bv;rw [B0 oM,cond_false]
end
end
section
open Go.RowKit Go.Deep Go.Shelf
def Aau:Go.Shelf.Ren:=⟨fun|143=>64|219=>76|217=>91|225=>92|224=>93|267=>94|266=>103|314=>104|n=>n,fun|9=>9|3=>3|4=>4|5=>5|46=>120|146=>136|51=>129|n=>n,fun|1=>0|n=>n⟩
theorem Vi:Lays.n143 Tryz.prog Aau where
  mixed:=by kernel_rfl
  f143:=Tryz.func64.trans (congrArg some (by kernel_rfl))
  f217:=Tryz.func91.trans (congrArg some (by kernel_rfl))
  f219:=Tryz.func76.trans (congrArg some (by kernel_rfl))
  f224:=Tryz.func93.trans (congrArg some (by kernel_rfl))
  f225:=Tryz.func92.trans (congrArg some (by kernel_rfl))
  f266:=Tryz.func103.trans (congrArg some (by kernel_rfl))
  f267:=Tryz.func94.trans (congrArg some (by kernel_rfl))
  f314:=Tryz.func104.trans (congrArg some (by kernel_rfl))
  t3:=Tryz.underlying3
  a3:=Tryz.isAgg3
  z3:=Tryz.sizeOf3
  v3:=Tryz.zeroValue3
  t4:=Tryz.underlying4
  a4:=Tryz.isAgg4
  z4:=Tryz.sizeOf4
  v4:=Tryz.zeroValue4
  t5:=Tryz.underlying5
  a5:=Tryz.isAgg5
  z5:=Tryz.sizeOf5
  v5:=Tryz.zeroValue5
  t9:=Tryz.underlying9
  a9:=Tryz.isAgg9
  z9:=Tryz.sizeOf9
  v9:=Tryz.zeroValue9
  t46:=Tryz.underlying120
  a46:=Tryz.isAgg120
  z46:=Tryz.sizeOf120
  v46:=Tryz.zeroValue120
  t51:=Tryz.underlying129
  a51:=Tryz.isAgg129
  z51:=Tryz.sizeOf129
  v51:=Tryz.zeroValue129
  t146:=Tryz.underlying136
  a146:=Tryz.isAgg136
  z146:=Tryz.sizeOf136
  v146:=Tryz.zeroValue136
  g1:=by kernel_rfl
end

section
open Go.RowKit Go.Deep Go.Shelf
attribute [local go_sem] Oper.semAt_some
theorem H8 (c:UInt8):∀ l:List UInt8,(c∉l/\Lib.indexByte l c= -1)∨∃ a r,l=a++c :: r/\c∉a/\Lib.indexByte l c=a.length
 | []=>.inl ⟨by simp,rfl⟩
 | b :: l=>by
  by_cases hb:b=c
  ·subst hb;exact .inr ⟨[],l,rfl,by simp,by simp [Lib.indexByte]⟩
  ·rcases H8 c l with ⟨h1,h2⟩|⟨a,r,rfl,h1,h2⟩
   ·exact .inl ⟨by simp [h1,Ne.symm hb],by simp [Lib.indexByte,hb,h2]⟩
   ·refine .inr ⟨b :: a,r,rfl,by simp [h1,Ne.symm hb],?_⟩;simp [Lib.indexByte,hb,h2]
def bya (l:List UInt8):ByteArray:=⟨l.toArray⟩
def Ce (c:UInt8) (s:ByteArray):List ByteArray:=(Dj c s.data.toList).map bya
theorem S4 (s sep:ByteArray) (w:World):Calls Tryz.prog 67 #[.string s,.string sep,.int .i64 0] w fun e w'=>e=.returned (.func (.func 82) #[] #[.pointer (some ⟨w.heap.size+1,0,none⟩),.pointer (some ⟨w.heap.size,0,none⟩),.pointer (some ⟨w.heap.size+2,0,none⟩)])/\w'=((w.alloc (.cells #[.string s] 9)).alloc (.cells #[.string sep] 9)).alloc (.cells #[.int .i64 0] 3):=by
 go_enter Tryz.func67,Tryz.ntmps67
 go_wp2
 go_ret
 exact ⟨rfl,rfl⟩
theorem Ss (s sep:ByteArray) (w:World):Calls Tryz.prog 49 #[.string s,.string sep] w fun e w'=>e=.returned (.func (.func 82) #[] #[.pointer (some ⟨w.heap.size+1,0,none⟩),.pointer (some ⟨w.heap.size,0,none⟩),.pointer (some ⟨w.heap.size+2,0,none⟩)])/\w'=((w.alloc (.cells #[.string s] 9)).alloc (.cells #[.string sep] 9)).alloc (.cells #[.int .i64 0] 3):=by
 go_enter Tryz.func49,Tryz.ntmps49
 go_wp2_with (go_at_call 67;refine (S4 s sep _).mono ?_;rintro e w1 ⟨rfl,rfl⟩)
 go_ret
 exact ⟨rfl,rfl⟩
theorem Y0 (t:ByteArray) (i j:Nat) (l:List UInt8) (h:(t.data.toList.take j).drop i=l):t.extract i j=bya l:=by
 apply ByteArray.ext;apply Array.ext';rw [← h];simp [bya,ByteArray.data_extract,List.drop_take]
def KeepB (n0:Nat) (W W':World):Prop:=W.heap.size<=W'.heap.size/\∀ b,n0<=b->b<n0+3->W'.heap[b]? =W.heap[b]?
def Aep (n0:Nat) (W:World):Nat:=match W.cell? ⟨n0,0,none⟩ with|some (.string t)=>t.size|_=>0
set_option maxRecDepth 100000 in
set_option maxHeartbeats 2000000 in
theorem Aam (n l n0:Nat) (s:ByteArray) (J:List ByteArray->World->Prop) (Jx:World->Prop) (hJ:∀ pre W v,J pre W->J pre (W.setCell ⟨n0,0,none⟩ v))
  (hY:∀ pre x W,J pre W->x∈Ce 44 s->pre.length<(Ce 44 s).length->YieldAt Fence.wide (n - 1) Tryz.prog l #[.string x] W fun e W'=>(e=.returned (.bool true)/\J (pre++[x]) W'/\KeepB n0 W W')∨(e=.returned (.bool false)/\Jx W'))
  (W:World) (hs:s.size<=1073741824) (b0:Boxed W n0 9 (.string s)) (b1:Boxed W (n0+1) 9 (.string ⟨#[44]⟩)) (b2:Boxed W (n0+2) 3 (.int .i64 0)) (h0:J [] W) :
  CallsIn Fence.wide n Tryz.prog 82 #[.func (.yield l) #[] #[],.pointer (some ⟨n0+1,0,none⟩),.pointer (some ⟨n0,0,none⟩),.pointer (some ⟨n0+2,0,none⟩)] W fun e W'=>(∃ v,e=.returned v)/\(J (Ce 44 s) W'∨Jx W'):=by
 refine callsIn_of_wp Tryz.func82 rfl trivial ?_ rfl;simp only [Tryz.ntmps82,List.size_toArray,List.length_cons,List.length_nil,Nat.reduceAdd,Nat.reduceSub,Array.replicate_succ,Array.replicate_zero,List.push_toArray,List.append_toArray,List.nil_append,List.cons_append];have c1:=b1.cell
 gi_wp2
 gi_loopw [] (fun wr=>∃ pre t,Boxed wr n0 9 (.string t)/\Boxed wr (n0+1) 9 (.string ⟨#[44]⟩)/\Boxed wr (n0+2) 3 (.int .i64 0)/\J pre wr/\Ce 44 s=pre++Ce 44 t/\t.size<=s.size) (fun wr=>Aep n0 wr)
 case atStart=>exact ⟨[],s,b0,b1,b2,h0,rfl,Nat.le_refl _⟩
 case round =>
  obtain ⟨pre,t,d0,d1,d2,hJp,hsp,hts⟩:=hrel;have e0:=d0.cell;have e1:=d1.cell;have e2:=d2.cell;have f0:=d0.frozen;rcases H8 44 t.data.toList with ⟨hno,hi⟩|⟨a,r,hl,hna,hi⟩
  ·have hone:Ce 44 t=[t]:=by unfold Ce;rw [Eo hno];rfl
   obtain ⟨fn,tmps,assign,body,hy,hR⟩:=hY pre t wr hJp (by rw [hsp,hone];simp) (by rw [hsp,hone];simp)
   gi_wp2
   refine ⟨trivial,fun h=>(by cases h),?_⟩;refine (callsIn_wide.2 (Any.strings_Index_one Vi t 44 _)).mono ?_;rintro e w' ⟨rfl,rfl⟩;rw [hi]
   gi_wp2
   refine ⟨fun h=>(by cases h),?_⟩;refine hR.mono ?_;rintro e W' (⟨rfl,hJ',-⟩|⟨rfl,hJx'⟩)
   ·gi_wp2
    go_end0
    exact ⟨⟨_,rfl⟩,.inl (by rw [hsp,hone];exact hJ')⟩
   ·gi_wp2
    go_end0
    exact ⟨⟨_,rfl⟩,.inr hJx'⟩
  ·have hsz:t.size=a.length+(r.length+1):=by
    have:t.data.toList.length=t.size:=Array.length_toList;rw [← this,hl,List.length_append,List.length_cons]
   have hx1:t.extract 0 a.length=bya a:=Y0 _ _ _ _ (by rw [hl,List.drop_zero,List.take_left]);have hx2:t.extract (a.length+1) t.size=bya r:=Y0 _ _ _ _ (by rw [hl,hsz,List.take_of_length_le (by rw [List.length_append,List.length_cons];omega),List.drop_append,List.drop_of_length_le oM,Nat.add_sub_cancel_left];rfl);have hspl:Ce 44 t=bya a :: Ce 44 (bya r):=by unfold Ce;rw [hl,D6 _ hna];rfl
   obtain ⟨fn,tmps,assign,body,hy,hR⟩:=hY pre (bya a) wr hJp (by rw [hsp,hspl];simp) (by rw [hsp,hspl];simp)
   gi_wp2
   refine ⟨trivial,fun h=>(by cases h),?_⟩;refine (callsIn_wide.2 (Any.strings_Index_one Vi t 44 _)).mono ?_;rintro e w' ⟨rfl,rfl⟩;rw [hi]
   gi_wp2
   refine ⟨fun h=>(by cases h),?_⟩;refine hR.mono ?_;rintro e W' (⟨rfl,hJ',hk⟩|⟨rfl,hJx'⟩)
   ·have g0:Boxed W' n0 9 (.string t):=(hk.2 n0 oM oM).trans d0;have g1:Boxed W' (n0+1) 9 (.string ⟨#[44]⟩):=(hk.2 (n0+1) oM oM).trans d1;have g2:Boxed W' (n0+2) 3 (.int .i64 0):=(hk.2 (n0+2) oM oM).trans d2;have i0:=g0.cell;have i1:=g1.cell;have i2:=g2.cell;have j0:=g0.frozen
    gi_wp2
    rw [← hsz,hx2];have k0:=g0.set (.string (bya r));refine ⟨⟨pre++[bya a],bya r,k0,(Below.heap_setCell W' ⟨n0,0,none⟩ _ (n0+1) (by simp)).trans g1,(Below.heap_setCell W' ⟨n0,0,none⟩ _ (n0+2) (by simp)).trans g2,hJ _ _ _ hJ',by rw [hsp,hspl,List.append_assoc];rfl,?_⟩,?_⟩
    ·have:(bya r).size=r.length:=rfl;omega
    ·have:(bya r).size=r.length:=rfl;unfold Aep;rw [k0.cell,e0];show (bya r).size<t.size;omega
   ·gi_wp2
    exact bodyPost_ret (results_none rfl _ _ _) rfl ⟨⟨_,rfl⟩,.inr hJx'⟩
def LoopAt (w:World) (r:Loop) (W:World):Prop:=W.heap[w.heap.size+1]? =some (.loop r)/\W.heap[w.heap.size]? =some (.deferred (some []))
theorem LoopAt.set {w W:World} {r:Loop} {n0:Nat} (h:LoopAt w r W) (hn:n0<w.heap.size) (v:Value):LoopAt w r (W.setCell ⟨n0,0,none⟩ v) :=
 ⟨(Below.heap_setCell W ⟨n0,0,none⟩ v _ (show w.heap.size+1≠n0 by omega)).trans h.1,(Below.heap_setCell W ⟨n0,0,none⟩ v _ (show w.heap.size≠n0 by omega)).trans h.2⟩
theorem LoopAt.turn {w W:World} {r:Loop} (r':Loop) (h:LoopAt w r W):LoopAt w r' (W.putObj (w.heap.size+1) (.loop r')) :=
 ⟨World.putObj_heap_same (Array.getElem?_eq_some_iff.1 h.1).1,(World.putObj_heap_other oM).trans h.2⟩
theorem LoopAt.kept {w W W':World} {r:Loop} (h:LoopAt w r W) (hk:KeepsFrom w.heap.size W W'):LoopAt w r W':=⟨hk.same _ _ oM h.1 rfl,hk.same _ _ (Nat.le_refl _) h.2 rfl⟩
theorem KeepB.put {w W:World} {n0:Nat} (hn0:n0+3<=w.heap.size) (o:Obj):KeepB n0 W (W.putObj (w.heap.size+1) o):=⟨by simp,fun b _ hb=>World.putObj_heap_other oM⟩
theorem KeepB.trans {n0:Nat} {A B C:World} (h:KeepB n0 A B) (k:KeepB n0 B C):KeepB n0 A C:=⟨Nat.le_trans h.1 k.1,fun b h1 h2=>(k.2 b h1 h2).trans (h.2 b h1 h2)⟩
set_option maxHeartbeats 1000000 in
theorem Vl {n:Nat} {g:Operand} {ps:Array Tmp} {assign body:Code} {Q:Exit->Act->World->Prop} {a:Act} {w:World} (n0:Nat) (s:ByteArray) (hn0:n0+3<=w.heap.size) (hps:ps.size=1)
  (hg:a.eval g=.func (.func 82) #[] #[.pointer (some ⟨n0+1,0,none⟩),.pointer (some ⟨n0,0,none⟩),.pointer (some ⟨n0+2,0,none⟩)]) (hs:s.size<=1073741824)
  (b0:Boxed w n0 9 (.string s)) (b1:Boxed w (n0+1) 9 (.string ⟨#[44]⟩)) (b2:Boxed w (n0+2) 3 (.int .i64 0))
  (G:List ByteArray->World->Prop) (H:World->Prop) (hG:OwnFrom w.heap.size G) (hH:OwnFrom w.heap.size (fun (_:Unit)=>H)) (hGb:∀ pre W v,G pre W->G pre (W.setCell ⟨n0,0,none⟩ v)) (h0:G [] w) (a₁:ByteArray->Act)
  (hassign:∀ (l:Nat) (x:ByteArray) (W:World) (K:Act->World->Prop),K (a₁ x) W->assign.wpIn (Fence.wide.inRound l) (n - 1 - 1) Tryz.prog (Exit.then K (fun _ _ _=>False)) { tmps:=(ps.zip #[.string x]).foldl (fun t (p,v)=>t.setIfInBounds p v) a.tmps,defers:=[] } W)
  (hbody:∀ (l:Nat) (pre:List ByteArray) (x:ByteArray) (W:World),G pre W->x∈Ce 44 s->pre.length<(Ce 44 s).length->body.wpIn (Fence.wide.inRound l) (n - 1 - 1) Tryz.prog (fun e _ W'=>match e with | .normal=>KeepsFrom w.heap.size W W'/\KeepB n0 W W'/\G (pre++[x]) W' | .ret=>KeepsFrom w.heap.size W W'/\H W'|_=>False) (a₁ x) W)
  (hdone:∀ (D:Nat) (W:World),w.heap.size<=D->G (Ce 44 s) W->W.heap[D]? =some (.deferred (some []))->Q .normal { a with defers:={ target:=.collected D,args:= #[] } :: a.defers } W)
  (hstop:∀ (D:Nat) (W:World),w.heap.size<=D->H W->W.heap[D]? =some (.deferred (some []))->Code.ret.wpIn Fence.wide n Tryz.prog Q { a with defers:={ target:=.collected D,args:= #[] } :: a.defers } W) :
  (Code.rangeFunc g ps assign body).wpIn Fence.wide n Tryz.prog Q a w:=by
 refine wpIn_rangeFunc fun fn hfn=>?_
 let rec_:LoopState->Option Code->Loop:=fun st pe=>{ state:=st,pending:=pe,fn,tmps:=a.tmps,params:=ps,assign,body,defers:=w.heap.size }
 have hW1:LoopAt w (rec_ .ready none) ((w.alloc (.deferred (some []))).alloc (.loop (rec_ .ready none))) :=
  ⟨by have:=World.alloc_heap_new (w.alloc (.deferred (some []))) (.loop (rec_ .ready none));rwa [World.size_alloc] at this,(Below.heap_alloc _ _ _ (by simp)).trans (World.alloc_heap_new w _)⟩
 have hold:∀ b,b<w.heap.size->((w.alloc (.deferred (some []))).alloc (.loop (rec_ .ready none))).heap[b]? =w.heap[b]?:=fun b hb=>(Below.heap_alloc _ _ _ (by simp;omega)).trans (Below.heap_alloc w _ _ hb)
 refine ⟨w.heap.size+1,[{ target:=.collected w.heap.size,args:= #[] }],_,{ target:=.fn (.func 82) #[.pointer (some ⟨n0+1,0,none⟩),.pointer (some ⟨n0,0,none⟩),.pointer (some ⟨n0+2,0,none⟩)],args:= #[.func (.yield (w.heap.size+1)) #[] #[]] },_,82,
  #[.func (.yield (w.heap.size+1)) #[] #[],.pointer (some ⟨n0+1,0,none⟩),.pointer (some ⟨n0,0,none⟩),.pointer (some ⟨n0+2,0,none⟩)],_,run_enterLoop_outer _ _ _ _ _,by simp only [resolve,hg];simp [go_sem];rfl,fun _ _=>trivial,by simp [invoke,go_sem,enters_of Tryz.func82 (by kernel_rfl) rfl];rfl,fun h=>(by cases h),?_⟩
 refine (Aam (n - 1) (w.heap.size+1) n0 s (fun pre W=>G pre W/\LoopAt w (rec_ .ready none) W) (fun W=>H W/\LoopAt w (rec_ .done (some .ret)) W) (fun pre W v h=>⟨hGb pre W v h.1,h.2.set oM v⟩) ?_ _ hs
  ((hold n0 oM).trans b0) ((hold (n0+1) oM).trans b1) ((hold (n0+2) oM).trans b2) ⟨hG.alloc _ (hG.alloc _ h0),hW1⟩).mono ?_
 ·rintro pre x W ⟨hi,hl⟩ hx hn;have hb:=hl.turn (rec_ .busy none);refine ⟨fn,_,assign,body,run_yield hl.1 (by simp [rec_,hps]),roundIn_of_wpIn hfn (hassign _ x W _ ⟨_,run_beginRound hl.1 rfl,?_⟩)⟩;refine wpIn_mono (hbody _ pre x _ (hG.putObj _ hi oM hl.1 rfl) hx hn) ?_;rintro e a3 W3 hp;cases e with
  | normal =>
   obtain ⟨k1,k2,k3⟩:=hp;have hl3:=hb.kept k1;exact ⟨_,_,run_endRound none hl3.1,.inl ⟨rfl,⟨hG.putObj _ k3 oM hl3.1 rfl,hl3.turn _⟩,((KeepB.put hn0 _).trans k2).trans (KeepB.put hn0 _)⟩⟩
  | ret =>
   obtain ⟨k1,k3⟩:=hp;have hl3:=hb.kept k1;exact ⟨_,_,run_endRound (some .ret) hl3.1,.inr ⟨rfl,hH.putObj (s:=()) _ k3 oM hl3.1 rfl,hl3.turn _⟩⟩
  | _=>exact hp.elim
 ·rintro e W2 ⟨⟨v,rfl⟩,⟨hi,hl⟩|⟨hi,hl⟩⟩
  ·exact ⟨none,_,run_endLoop hl.1 (by simp [rec_]),hdone _ _ (Nat.le_refl _) (hG.putObj _ hi oM hl.1 rfl) (hl.turn (rec_ .exhausted none)).2⟩
  ·exact ⟨some .ret,_,run_endLoop hl.1 (by simp [rec_]),hstop _ _ (Nat.le_refl _) (hH.putObj (s:=()) _ hi oM hl.1 rfl) (hl.turn (rec_ .exhausted (some .ret))).2⟩
end
section
def Fp (x:ByteArray):Int×Bool:=match C7 x with|some r=>r|none=>(0,false)
theorem Afo (s:ByteArray): -9223372036854775808<=(Tv s).1/\(Tv s).1<=9223372036854775807:=by
 unfold Tv;cases h:Lib.atoiAll s.data.toList with
 | ok v=>exact Lib.atoiAll_bounds h
 | range=>exact Lib.atoiSat_bounds _
 | _=>exact ⟨by show (-9223372036854775808:Int)<=0;omega,by show (0:Int)<=9223372036854775807;omega⟩
theorem Yo {x:ByteArray} (h:x.size<=1073741824):C7 x=some (Fp x):=by
 have key:∃ r,C7 x=some r:=by
  unfold C7 Fl;rw [Aj h,obs];cases (Tv x).2
  ·by_cases h4:((x.size:Nat):Int)<=4
   ·unfold Bj;rw [B5 h4,Aj (Afo x)];exact ⟨_,rfl⟩
   ·rw [B0 h4];exact ⟨_,rfl⟩
  ·exact ⟨_,rfl⟩
 obtain ⟨r,hr⟩:=key;unfold Fp;rw [hr]
end
section
open Go.RowKit Go.Deep Go.Shelf
attribute [local go_sem] Oper.semAt_some
def nlV (s:ByteArray):List Int×Bool:=if s.toList.isEmpty then ([],true) else if (Ce 44 s).all fun x=>(Fp x).2 then ((Ce 44 s).map fun x=>(Fp x).1,true) else ([],false)
theorem Rq {c:UInt8} {s x:ByteArray} (h:x∈Ce c s):x.size<=s.size:=by
 obtain ⟨l,hl,rfl⟩:=List.mem_map.1 h;have:=Gb _ _ hl;have e:s.data.toList.length=s.size:=Array.length_toList;have e2:(bya l).size=l.length:=rfl;omega
theorem L2 (c:UInt8) (s:ByteArray):(Ce c s).length<=s.size+1:=by
 unfold Ce;rw [List.length_map,Jp];have e:s.data.toList.length=s.size:=Array.length_toList;have:=List.count_le_length (a:=c) (l:=s.data.toList);omega
theorem K3 (x:ByteArray) (w:World) (hx:x.size<=1073741824) (tab:Tab w):Calls Tryz.prog 33 #[.string x] w fun e w'=>e=.returned (.tuple #[.int .i64 (Fp x).1,.bool (Fp x).2])/\Below w.heap.size w w':=by
 refine (P4 (Yo hx) w (fun _=>True) [.string x] (fun _ hb=>tab.below hb) ⟨_,_,rfl,rfl,rfl⟩).mono ?_;rintro e w' ⟨u,rfl,hb,hv⟩;obtain ⟨us,ls,ho,hf,rfl⟩:=hv;obtain ⟨v1,_,rfl,q1,_,v2,_,rfl,q2,_,rfl,rfl⟩:=ho;obtain rfl:v1=.int .i64 (Fp x).1:=q1;obtain rfl:v2=.bool (Fp x).2:=q2;exact ⟨rfl,hb⟩
theorem Aga:(Tryz.prog.info? 3).map (fun i=>(i.zero,i.size,i.bytes))=some (some (.int .i64 0),1,8):=by kernel_rfl
theorem Acq {F:Fence} {n:Nat} {ops:Array Oper} {rest:List Oper} {o:Oper} {a:Act} {Q:Exit->Act->World->Prop} {w:World} (hg:o.guard=none) (s x:Operand) (hop:o.op=.call { callee:=.builtin .append,args:= #[s,x],argTypes:= #[23,23] }) {base k b c:Nat} {v:Value} {xs:List Value} {z:Int} (hs:a.eval s=v) (hown:w.ownsRow base 3 1 v k xs)
  (hx:a.eval x=.slice (some ⟨b,0,none⟩) 1 c) (hc:w.cell? ⟨b,0,none⟩=some (.int .i64 z)) (hk:k<=1073741824) (hb:base<=w.heap.size)
  (hK:∀ v' w',w'.ownsRow base 3 1 v' (k+1) (xs++[.int .i64 z])->w.grownBy w' v.ownBlock->(∀ g,v'.ownBlock=some g->v.ownBlock=some g∨w.heap.size<=g)->wpListIn F n Tryz.prog ops Q rest (a.put o.dst v') w'):wpListIn F n Tryz.prog ops Q (o :: rest) a w:=by
 obtain ⟨i0,hi,hz0,hz1,hz2⟩:=info_parts Aga
 obtain ⟨v',w',hr,r1,r2,r3⟩:=Fw (P:=Tryz.prog) w base 23 o.type 3 i0 (.int .i64 0) 1 8 Tryz.underlying23 hi hz0 hz1 hz2 rfl (by decide) v k xs hown ⟨b,0,none⟩ 1 c [.int .i64 z] rfl (fun j u hj=>by
  cases j with
  | zero=>obtain rfl:=osj hj;exact hc
  | succ j=>cases hj) (by simp [Value.oneCell']) (by simp only [maxLen];omega) oM hb
 refine wpListIn_plain hg fun K hK'=>?_
 unfold Oper.wpIn;refine ⟨by simp [Oper.about,hop,resolve,Target.leads,Sem.run_pure],?_⟩;rw [Oper.semAt_plain F _ _ (by rw [hop];intro c hc';cases hc')];simp [execOp,hop,resolve,invoke,builtin,hs,hx,hr,Result.andThen];exact hK' _ _ (hK v' w' r1 r2 r3)
theorem Aat {w:World} {lo sz n:Nat} {e:TypeId} {v:Value} {cs:List Value} (h:w.ownsRow lo e sz v n cs):∃ A c,v=.slice A n c:=by
 rcases h.2 with ⟨rfl,hn⟩|⟨g,cap,cur,rfl,_⟩
 ·exact ⟨none,0,by rw [hn]⟩
 ·exact ⟨_,_,rfl⟩
theorem M2 {W:World} {t:TypeId} {v:Value} {B:Nat} (h:W.heap.size=B):Boxed (W.alloc (.cells #[v] t)) B t v:=h▸Boxed.new W t v
theorem Ab3 {W:World} {e:TypeId} {lo B:Nat} (h:W.heap.size=B) (hb:lo<=B):(W.alloc (.cells #[] e)).ownsRow lo e 1 (.slice (some ⟨B,0,none⟩) 0 0) 0 []:=by
 subst h;exact World.ownsRow_made W #[] 0 hb (by simp [maxLen]) (by simp)
theorem L4 {W W':World} (h:Below W.heap.size W W'):KeepsOthers W W':=⟨h.size,fun k _ hk _=>(h.block k (Array.getElem?_eq_some_iff.1 hk).1).trans hk⟩
theorem Boxed.below {W W':World} {B:Nat} {t:TypeId} {v:Value} (h:Boxed W B t v) (hb:Below W.heap.size W W'):Boxed W' B t v:=(hb.block B h.lt).trans h
set_option maxRecDepth 100000 in
set_option maxHeartbeats 2000000 in
theorem Pn (s:ByteArray) (w:World) (hs:s.size<=1073741823) (tab:Tab w):Calls Tryz.prog 34 #[.string s] w fun e w'=>∃ v,e=.returned (.tuple #[v,.bool (nlV s).2])/\w'.ownsRow w.heap.size 3 1 v (nlV s).1.length ((nlV s).1.map (Value.int .i64))/\Below w.heap.size w w':=by
 refine (callsIn_wide (n:=9)).1 ?_;refine callsIn_of_wp_marks Tryz.func34 rfl trivial ?_ rfl;simp only [Tryz.ntmps34,List.size_toArray,List.length_cons,List.length_nil,Nat.reduceAdd,Nat.reduceSub,Array.replicate_succ,Array.replicate_zero,List.push_toArray,List.append_toArray,List.nil_append,List.cons_append];cases h0:s.toList.isEmpty
 ·gi_wp2_with (refine ⟨trivial,?_⟩;gi_at_call 49;refine (callsIn_wide.2 (Ss s _ _)).mono ?_;rintro e w1 ⟨rfl,rfl⟩)
  have hsz:(((((((w.alloc (.cells #[.slice none 0 0] 23)).alloc (.cells #[.bool false] 4)).alloc (.cells #[] 3)).alloc (.cells #[.slice (some ⟨w.heap.size+1+1,0,none⟩) 0 0] 23)).alloc (.cells #[.string s] 9)).alloc (.cells #[.string ⟨#[44]⟩] 9)).alloc (.cells #[.int .i64 0] 3)).heap.size=w.heap.size+7:=by simp
  have hb0:Below w.heap.size w (((((((w.alloc (.cells #[.slice none 0 0] 23)).alloc (.cells #[.bool false] 4)).alloc (.cells #[] 3)).alloc (.cells #[.slice (some ⟨w.heap.size+1+1,0,none⟩) 0 0] 23)).alloc (.cells #[.string s] 9)).alloc (.cells #[.string ⟨#[44]⟩] 9)).alloc (.cells #[.int .i64 0] 3)):=(by repeat (first|with_reducible exact Below.refl _ _|((with_reducible refine Below.setCell ?_ ?_ _);rotate_left;focus (first|(simp;done)|omega|(simp;omega)))|((with_reducible refine Below.alloc ?_ ?_ _);rotate_left;focus (first|(simp;done)|omega|(simp;omega)))|(with_reducible refine Below.drew ?_)|(with_reducible refine below_draws_ ?_ _)))
  have x0:Boxed (((((((w.alloc (.cells #[.slice none 0 0] 23)).alloc (.cells #[.bool false] 4)).alloc (.cells #[] 3)).alloc (.cells #[.slice (some ⟨w.heap.size+1+1,0,none⟩) 0 0] 23)).alloc (.cells #[.string s] 9)).alloc (.cells #[.string ⟨#[44]⟩] 9)).alloc (.cells #[.int .i64 0] 3)) (w.heap.size+1+1+1+1) 9 (.string s):=((M2 (by simp)).alloc _).alloc _;have x1:Boxed (((((((w.alloc (.cells #[.slice none 0 0] 23)).alloc (.cells #[.bool false] 4)).alloc (.cells #[] 3)).alloc (.cells #[.slice (some ⟨w.heap.size+1+1,0,none⟩) 0 0] 23)).alloc (.cells #[.string s] 9)).alloc (.cells #[.string ⟨#[44]⟩] 9)).alloc (.cells #[.int .i64 0] 3)) (w.heap.size+1+1+1+1+1) 9 (.string ⟨#[44]⟩):=(M2 (by simp)).alloc _;have x2:Boxed (((((((w.alloc (.cells #[.slice none 0 0] 23)).alloc (.cells #[.bool false] 4)).alloc (.cells #[] 3)).alloc (.cells #[.slice (some ⟨w.heap.size+1+1,0,none⟩) 0 0] 23)).alloc (.cells #[.string s] 9)).alloc (.cells #[.string ⟨#[44]⟩] 9)).alloc (.cells #[.int .i64 0] 3)) (w.heap.size+1+1+1+1+2) 3 (.int .i64 0):=M2 (by simp);have xo:Boxed (((((((w.alloc (.cells #[.slice none 0 0] 23)).alloc (.cells #[.bool false] 4)).alloc (.cells #[] 3)).alloc (.cells #[.slice (some ⟨w.heap.size+1+1,0,none⟩) 0 0] 23)).alloc (.cells #[.string s] 9)).alloc (.cells #[.string ⟨#[44]⟩] 9)).alloc (.cells #[.int .i64 0] 3)) (w.heap.size+1+1+1) 23 (.slice (some ⟨w.heap.size+1+1,0,none⟩) 0 0):=(((M2 (by simp)).alloc _).alloc _).alloc _;have xa:Boxed (((((((w.alloc (.cells #[.slice none 0 0] 23)).alloc (.cells #[.bool false] 4)).alloc (.cells #[] 3)).alloc (.cells #[.slice (some ⟨w.heap.size+1+1,0,none⟩) 0 0] 23)).alloc (.cells #[.string s] 9)).alloc (.cells #[.string ⟨#[44]⟩] 9)).alloc (.cells #[.int .i64 0] 3)) w.heap.size 23 (.slice none 0 0):=((((((M2 (by simp)).alloc _).alloc _).alloc _).alloc _).alloc _).alloc _;have xb:Boxed (((((((w.alloc (.cells #[.slice none 0 0] 23)).alloc (.cells #[.bool false] 4)).alloc (.cells #[] 3)).alloc (.cells #[.slice (some ⟨w.heap.size+1+1,0,none⟩) 0 0] 23)).alloc (.cells #[.string s] 9)).alloc (.cells #[.string ⟨#[44]⟩] 9)).alloc (.cells #[.int .i64 0] 3)) (w.heap.size+1) 4 (.bool false):=(((((M2 (by simp)).alloc _).alloc _).alloc _).alloc _).alloc _;have xr:(((((((w.alloc (.cells #[.slice none 0 0] 23)).alloc (.cells #[.bool false] 4)).alloc (.cells #[] 3)).alloc (.cells #[.slice (some ⟨w.heap.size+1+1,0,none⟩) 0 0] 23)).alloc (.cells #[.string s] 9)).alloc (.cells #[.string ⟨#[44]⟩] 9)).alloc (.cells #[.int .i64 0] 3)).ownsRow w.heap.size 3 1 (.slice (some ⟨w.heap.size+1+1,0,none⟩) 0 0) 0 []:=((((Ab3 (by simp) oM).alloc _).alloc _).alloc _).alloc _;generalize (((((((w.alloc (.cells #[.slice none 0 0] 23)).alloc (.cells #[.bool false] 4)).alloc (.cells #[] 3)).alloc (.cells #[.slice (some ⟨w.heap.size+1+1,0,none⟩) 0 0] 23)).alloc (.cells #[.string s] 9)).alloc (.cells #[.string ⟨#[44]⟩] 9)).alloc (.cells #[.int .i64 0] 3))=wB at *
  refine Vl (w.heap.size+1+1+1+1) s oM rfl rfl oM x0 x1 x2
   (fun pre W=>(∃ v,Boxed W (w.heap.size+1+1+1) 23 v/\W.ownsRow w.heap.size 3 1 v pre.length (pre.map fun x=>Value.int .i64 (Fp x).1)/\∀ g,v.ownBlock=some g->g<w.heap.size+4∨w.heap.size+7<=g)/\Boxed W w.heap.size 23 (.slice none 0 0)/\Boxed W (w.heap.size+1) 4 (.bool false)/\(∀ x∈pre,(Fp x).2=true)/\Below w.heap.size w W/\w.heap.size+7<=W.heap.size)
   (fun W=>Boxed W w.heap.size 23 (.slice none 0 0)/\Boxed W (w.heap.size+1) 4 (.bool false)/\(∃ x∈Ce 44 s,(Fp x).2=false)/\Below w.heap.size w W)
   ?_ ?_ ?_ ⟨⟨_,xo,xr,fun g e=>by simp [Value.ownBlock] at e;omega⟩,xa,xb,fun x h=>absurd h (by simp),hb0,by omega⟩
   (fun x=>{ tmps:= #[.string s,undef,.pointer (some ⟨w.heap.size,0,none⟩),.pointer (some ⟨w.heap.size+1,0,none⟩),.pointer (some ⟨w.heap.size+1+1+1,0,none⟩),.string x,undef,undef,.slice (some ⟨w.heap.size+1+1,0,none⟩) 0 0,.string s,.bool false,undef,.string s,.func (.func 82) #[] #[.pointer (some ⟨w.heap.size+1+1+1+1+1,0,none⟩),.pointer (some ⟨w.heap.size+1+1+1+1,0,none⟩),.pointer (some ⟨w.heap.size+1+1+1+1+2,0,none⟩)],.string x,undef,undef,undef,undef,undef,undef,undef,undef,undef,undef,undef,undef],defers:=[] }) ?assign ?body ?done ?stop
  ·rintro pre A B row ⟨h1,h3,h4,h5,h6,h7⟩ hg hr;have hr':=fun r e=>(hr r e).2
   exact ⟨holdsRow_own w.heap.size (w.heap.size+1+1+1) 23 3 1 (fun pre:List ByteArray=>pre.length) (fun pre=>pre.map fun x=>Value.int .i64 (Fp x).1) (fun _ v=>∀ g,v.ownBlock=some g->g<w.heap.size+4∨w.heap.size+7<=g) pre A B row h1 hg hr',boxed_own (β:=Unit) _ _ (fun _=>_) () A B row h3 hg hr',boxed_own (β:=Unit) _ _ (fun _=>_) () A B row h4 hg hr',h5,ownFrom_below (β:=Unit) (Nat.le_refl _) oM () A B row h6 hg hr,Nat.le_trans h7 hg.size⟩
  ·rintro _ A B row ⟨h3,h4,h5,h6⟩ hg hr;have hr':=fun r e=>(hr r e).2
   exact ⟨boxed_own (β:=Unit) _ _ (fun _=>_) () A B row h3 hg hr',boxed_own (β:=Unit) _ _ (fun _=>_) () A B row h4 hg hr',h5,ownFrom_below (β:=Unit) (Nat.le_refl _) oM () A B row h6 hg hr⟩
  ·rintro pre W v ⟨⟨v1,h1,h1r,h1w⟩,h3,h4,h5,h6,h7⟩;exact ⟨⟨v1,Boxed.other h1 oM v,h1r.kept (grownBy_setCell' W _ v) (.inr fun e=>by have:=h1w _ e;omega),h1w⟩,Boxed.other h3 oM v,Boxed.other h4 oM v,h5,h6.setCell (p:=⟨w.heap.size+1+1+1+1,0,none⟩) (show w.heap.size<=w.heap.size+1+1+1+1 by omega) v,by simpa [World.setCell] using h7⟩
  case assign =>
   intro l x W K hK
   gi_wp2
   exact hK
  case body =>
   rintro l pre x W ⟨⟨v,hv,hrow,hwh⟩,h3,h4,h5,h6,h7⟩ hx hn;have hxs:=Rq hx;have hlen:=L2 44 s;cases hok:(Fp x).2
   ·gi_wp2_with (refine ⟨trivial,?_⟩;gi_at_call 33;refine (CallsIn.inRound l (callsIn_wide.2 (K3 x _ oM (tab.below h6)))).mono ?_;rintro e W3 ⟨rfl,hb3⟩;rw [hok];have y3:=Boxed.below h3 hb3;have y4:=Boxed.below h4 hb3;have c3:=y3.cell;have f3:=y3.frozen;have c4:=y4.cell;have f4:=y4.frozen;have yv:=Boxed.below hv hb3;have yr:=Dw hrow hb3;have cv:=yv.cell;have hz3:=hb3.size)
    refine ⟨((L4 hb3).trans ((KeepsOthers.setCell _ _ _).trans (KeepsOthers.setCell _ _ _))).from _,(y3.set _).other oM _,(y4.other oM _).set _,⟨x,hx,hok⟩,?_⟩;exact ((h6.trans (hb3.mono h6.size)).setCell (p:=⟨w.heap.size,0,none⟩) (Nat.le_refl _) _).setCell (p:=⟨w.heap.size+1,0,none⟩) (show w.heap.size<=w.heap.size+1 by omega) _
   ·gi_wp2_with (first|(refine ⟨trivial,?_⟩;gi_at_call 33;refine (CallsIn.inRound l (callsIn_wide.2 (K3 x _ oM (tab.below h6)))).mono ?_;rintro e W3 ⟨rfl,hb3⟩;rw [hok];have y3:=Boxed.below h3 hb3;have y4:=Boxed.below h4 hb3;have c3:=y3.cell;have f3:=y3.frozen;have c4:=y4.cell;have f4:=y4.frozen;have yv:=Boxed.below hv hb3;have yr:=Dw hrow hb3;have cv:=yv.cell;have hz3:=hb3.size)|(gi_at_builtin;refine Acq (w:=W3.alloc (.cells #[.int .i64 (Fp x).1] 3)) (base:=w.heap.size) (k:=pre.length) (v:=v) (b:=W3.heap.size) (c:=1) (z:=(Fp x).1) rfl (.tmp 22) (.tmp 24) rfl rfl (yr.alloc _) rfl (by simp) oM (by have:=h6.size;simp;omega) ?_;intro v' w1 hown' hgrow hwh';obtain ⟨g',cap',rfl⟩:=ownsRow_succ hown';obtain ⟨hv1,hv2,hr2,hk2,hb2⟩:=yv.appended (by decide) yr (by have:=h6.size;omega) oM hown' hgrow;have hc1:=hv1.cell;have hf1:=hv1.frozen))
    have hbl:∀ b,b<W3.heap.size->v.ownBlock≠some b->b≠w.heap.size+1+1+1->(w1.setCell ⟨w.heap.size+1+1+1,0,none⟩ (.slice (some ⟨g',0,none⟩) (pre.length+1) cap')).heap[b]? =W3.heap[b]?:=fun b h1 h2 h3=>(Below.heap_setCell _ _ _ b h3).trans ((hgrow.block b (by simp;omega) (fun e=>h2 e.symm)).trans (Below.heap_alloc _ _ _ h1))
    have hx3:some w.heap.size≠v.ownBlock:=Boxed.not_row y3 (by decide) yr;have hx4:some (w.heap.size+1)≠v.ownBlock:=Boxed.not_row y4 (by decide) yr;have hz6:=h6.size;refine ⟨((L4 hb3).trans hk2).from _,⟨Nat.le_trans hz3 hb2.size,fun b h1 h2=>(hbl b oM (fun e=>by have:=hwh b e;omega) oM).trans (hb3.block b oM)⟩,⟨_,hv2,hr2,fun g e=>?_⟩,(hbl _ oM (fun e=>hx3 e.symm) oM).trans y3,(hbl _ oM (fun e=>hx4 e.symm) oM).trans y4,fun z hz=>hz.elim (h5 z) (fun e=>e▸hok),h6.trans ((hb3.mono hz6).trans hb2),Nat.le_trans h7 (Nat.le_trans hz3 (by have h:=hb2.size;simpa [World.setCell] using h))⟩;rcases hwh' g e with e2|e2
    ·exact hwh g e2
    ·rw [World.size_alloc] at e2;omega
  case done =>
   rintro D W hD ⟨⟨v,hv,hrow,hwh⟩,h3,h4,h5,h6,h7⟩ hK;have c1:=Boxed.cell hv;have c3:=Boxed.cell h3;have f3:=Boxed.frozen h3;have c4:=Boxed.cell h4;have f4:=Boxed.frozen h4;have e:nlV s=((Ce 44 s).map fun x=>(Fp x).1,true):=by unfold nlV;rw [h0,if_neg Bool.false_ne_true,if_pos (List.all_eq_true.2 h5)]
   have hx3:some w.heap.size≠v.ownBlock:=Boxed.not_row h3 (by decide) hrow;have hx4:some (w.heap.size+1)≠v.ownBlock:=Boxed.not_row h4 (by decide) hrow;have hrow2:=(hrow.kept (grownBy_setCell' W w.heap.size v) (.inr hx3.symm)).kept (grownBy_setCell' _ (w.heap.size+1) (.bool true)) (.inr hx4.symm);have y3:Boxed ((W.setCell ⟨w.heap.size,0,none⟩ v).setCell ⟨w.heap.size+1,0,none⟩ (.bool true)) w.heap.size 23 v:=Boxed.other (Boxed.set v h3) oM _;have y4:Boxed ((W.setCell ⟨w.heap.size,0,none⟩ v).setCell ⟨w.heap.size+1,0,none⟩ (.bool true)) (w.heap.size+1) 4 (.bool true):=Boxed.set _ (Boxed.other h4 oM _);have hK2:=((KeepsOthers.setCell W ⟨w.heap.size,0,none⟩ v).trans (KeepsOthers.setCell _ ⟨w.heap.size+1,0,none⟩ (.bool true))).same D _ hK rfl;have hvn:∃ A c,v=.slice A (Ce 44 s).length c:=(Aat hrow)
   obtain ⟨A,c,rfl⟩:=hvn
   gi_wp2
   have q3:=cell_kept y3.cell (grownBy_putObj' _ D (.deferred none)) (fun r e=>by cases e;exact ⟨_,hK2,rfl⟩);have q4:=cell_kept y4.cell (grownBy_putObj' _ D (.deferred none)) (fun r e=>by cases e;exact ⟨_,hK2,rfl⟩);refine ⟨by simp,.inl ⟨_,_,rfl,run_takeDeferred hK2,?_⟩⟩;refine ⟨.tuple #[.slice A (Ce 44 s).length c,.bool true],by simp [results,Tryz.results34,go_sem,q3,q4],?_⟩;rw [e];refine ⟨_,rfl,?_,?_⟩
   ·simpa [Function.comp_def] using ownsRow_putObj hrow2 _ hK2 rfl
   ·exact ((h6.setCell (p:=⟨w.heap.size,0,none⟩) (Nat.le_refl _) _).setCell (p:=⟨w.heap.size+1,0,none⟩) (show w.heap.size<=w.heap.size+1 by omega) _).trans (belowK_b (w:=w) (Nat.le_refl _) _ D _ _ oM hK2 rfl rfl)
  case stop =>
   rintro D W hD ⟨h3,h4,⟨x,hx,hxb⟩,h6⟩ hK
   have e:nlV s=([],false):=by
    unfold nlV;rw [h0,if_neg Bool.false_ne_true,if_neg (fun h=>by rw [List.all_eq_true.1 h x hx] at hxb;cases hxb)]
   gi_wp2
   have q3:=cell_kept (Boxed.cell h3) (grownBy_putObj' _ D (.deferred none)) (fun r e=>by cases e;exact ⟨_,hK,rfl⟩);have q4:=cell_kept (Boxed.cell h4) (grownBy_putObj' _ D (.deferred none)) (fun r e=>by cases e;exact ⟨_,hK,rfl⟩);refine ⟨by simp,.inl ⟨_,_,rfl,run_takeDeferred hK,?_⟩⟩;refine ⟨.tuple #[.slice none 0 0,.bool false],by simp [results,Tryz.results34,go_sem,q3,q4],?_⟩;rw [e];exact ⟨_,rfl,World.ownsRow_nil _ _ _ _,h6.trans (belowK_b (w:=w) (Nat.le_refl _) _ D _ _ oM hK rfl rfl)⟩
 ·have e:nlV s=([],true):=by unfold nlV;rw [h0,if_pos rfl]
  gi_wp2
  refine ⟨.tuple #[.slice (some ⟨w.heap.size+1+1,0,none⟩) 0 0,.bool true],by simp [results,Tryz.results34,go_sem],?_⟩;rw [e];exact ⟨_,rfl,(Ab3 (by simp) oM).alloc _,by repeat (first|with_reducible exact Below.refl _ _|((with_reducible refine Below.setCell ?_ ?_ _);rotate_left;focus (first|(simp;done)|omega|(simp;omega)))|((with_reducible refine Below.alloc ?_ ?_ _);rotate_left;focus (first|(simp;done)|omega|(simp;omega)))|(with_reducible refine Below.drew ?_)|(with_reducible refine below_draws_ ?_ _))⟩
theorem Z0 {lo:Nat} {w:World} {e:TypeId} {v:Value} {xs:List Int} (h:w.ownsRow lo e 1 v xs.length (xs.map (Value.int .i64))):GrowV lo w e .int v xs:=by
 refine ⟨_,fun _=>[],h,fun j hj=>?_,by rw [show ((List.range xs.length).flatMap fun _=>([]:List Addr))=[] from List.flatMap_eq_nil_iff.2 fun _ _=>rfl];exact Fresh.nil w lo⟩
 have e1:(((xs.map (Value.int .i64)).drop (j*1)).take 1)=[.int .i64 xs[j]]:=by
  rw [Nat.mul_one,List.drop_eq_getElem_cons (by simpa using hj),List.take_succ_cons,List.take_zero,List.getElem_map]
 show Ty.Val _ w .int (((xs.map (Value.int .i64)).drop (j*1)).take 1) xs[j] [];rw [e1];exact ⟨rfl,rfl⟩
theorem Q4 (s:ByteArray) (w:World) (hs:s.size<=1073741823) (tab:Tab w):Calls Tryz.prog 34 #[.string s] w fun e w'=>∃ A c l,e=.returned (.tuple #[.slice A (nlV s).1.length c,.bool (nlV s).2])/\Sl (Bu w.heap.size) w' .int A c (nlV s).1 l/\Fresh w' w.heap.size l/\Below w.heap.size w w':=by
 refine (Pn s w hs tab).mono ?_;rintro e w' ⟨v,rfl,hr,hb⟩;obtain ⟨A,c,l,rfl,hsl,hf⟩:=(Z0 hr).done;exact ⟨A,c,l,rfl,hsl,hf,hb⟩
def Ch (a0:ByteArray):Option (List Int×Bool):=og (a0.size<=1073741823) (some (nlV a0))
end
end Go.Proofs.YtjlcpiemabfpiaaGreatDoor
