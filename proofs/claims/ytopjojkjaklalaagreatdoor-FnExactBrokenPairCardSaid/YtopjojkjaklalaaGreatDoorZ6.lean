/- Lemmas on the program and on partial functions that stand in place of its code (part 6); no condition beyond those that each one states. -/
import Derived.Test.YtopjojkjaklalaaGreatDoorZ5
namespace Go.Proofs.YtopjojkjaklalaaGreatDoor
open Go.RowKit Go.Deep
set_option maxRecDepth 4000
set_option maxHeartbeats 4800000
variable {aA aB:List Int} {bA bB bC bD bE:Int} {dA dB:LL} {pA:Int×Int×LL}
def Ix (a0:List Int) (u0:Nat):Option (Ctl Nat Nat) :=
 (cond (decide ((u0:Int)<(a0.length:Int)))
  ((a0[u0]?).bind fun x8 =>
  some (x8==0))
  (some false)).bind fun u1 =>
cond u1
 (og (u0+1<4611686018427387904) <|
 some (Ctl.next (u0+1)))
 (some (Ctl.out u0))
def Hb (a0:List Int):Option Int :=
 (Aq (fun s_:Nat=>Ix a0 s_) 4611686018427387904 0).bind fun u0 =>
some (u0:Int)
theorem N5 (h:Hb aA=some bA):cK 129 [tI aA] (A3 bA):=by
 refine cO Tryz.func129 (Ae (Ae (sqF h (fun u1=>sT [(3,an u1)] []) ?_ fun u1 h=>Ae (Ac (jS h)))));intro _ h;refine Ad (lpF h (fun u0=>sT [(0,tI aA),(3,an u0)] []) (Ag []) ?_);intro n_ u0 c_ h hn4;refine Ab (sqF h (fun u2=>sT [(0,tI aA),(3,an u0),(14,.bool u2)] []) ?_ fun u2 h=>kQ h (fun _ h=>skW (Ad (Aa 5 (rsT 1 (raH h fun h=>rsT 1 (Ap (bn_ (tn_ (jL []))))))))) fun _ h=>lxT (have h:=jO h hn4;jE []));intro _ h;refine Aa 13 (rsT 5 ?_);rcases A0 h with ⟨q7,h⟩|⟨q7,h⟩
 ·exact rq 8 q7 (rsT 2 (riH .int h fun x8 _ h=>rsT 3 (Ap (tn_ (jE [])))))
 exact rq 8 q7 (rsT 6 (Ap (tn_ (jE []))))
def Iu (a1:Int) (u0:Nat) (u1:List Int):Option (Ctl (Nat×List Int) (List Int)) :=
 cond (decide ((u0:Int)<(a1.toNat:Int)))
 ((u1[u0]?).bind fun x15 =>
 og (u0+1<4611686018427387904) <|
 some (Ctl.next (u0+1,u1.set u0 (-1))))
 (some (Ctl.out u1))
def Iy (y4:LL) (u0:Nat) (u1:List Int):Option (Ctl (Nat×List Int) (List Int)) :=
 cond (decide ((u0:Int)<(y4.length:Int)))
 ((y4[u0]?).bind fun x25 =>
 (Hb x25).bind fun y26 =>
 (Cb u1 y26).bind fun x27 =>
 og (u0+1<4611686018427387904) <|
 some (Ctl.next (u0+1,u1.set y26.toNat (u0:Int))))
 (some (Ctl.out u1))
def I0 (y4:LL) (u2:Nat) (a0:Int) (u0:Nat) (u1:List Int):Option (Ctl (Nat×List Int) (List Int)) :=
 cond (decide ((u0:Int)<(y4.length:Int)))
 ((y4[u0]?).bind fun x53 =>
 (Hb x53).bind fun y54 =>
 (x53[u2]?).bind fun x55 =>
 (Fb a0 x55).bind fun y56 =>
 (Cb u1 y54).bind fun x57 =>
 og (u0+1<4611686018427387904) <|
 some (Ctl.next (u0+1,u1.set y54.toNat y56)))
 (some (Ctl.out u1))
def I9 (a1:Int) (u2:List Int) (y4:LL) (a0:Int) (u0:Nat) (u1:LL):Option (Ctl (Nat×LL) (LL)) :=
 cond (decide ((u0:Int)<a1))
 (((u2[u0]?).bind fun x39 =>
  cond (decide (0<=x39))
   (some u1)
   (og (0<=a1/\a1<=a1/\a1<=1073741824/\(8:Int)*a1<=140737488355328) <|
   ((List.replicate a1.toNat (0:Int))[u0]?).bind fun x44 =>
   (Aq (fun s_:Nat×List Int=>I0 y4 u0 a0 s_.1 s_.2) 4611686018427387904 (0,(List.replicate a1.toNat (0:Int)).set u0 1)).bind fun u3 =>
   og (u1.length+1<=1073741824/\(u1.length+1)*24<=140737488355328) <|
   some (u1++[u3]))).bind fun u4 =>
 og (u0+1<4611686018427387904) <|
 some (Ctl.next (u0+1,u4)))
 (some (Ctl.out u1))
def Ju (a0 a1:Int) (a2:LL):Option (LL) :=
 (D2 a0 a1 a2).bind fun y4 =>
og (0<=a1/\a1<=a1/\a1<=1073741824/\(8:Int)*a1<=140737488355328) <|
(Aq (fun s_:Nat×List Int=>Iu a1 s_.1 s_.2) 4611686018427387904 (0,List.replicate a1.toNat (0:Int))).bind fun u0 =>
(Aq (fun s_:Nat×List Int=>Iy y4 s_.1 s_.2) 4611686018427387904 (0,u0)).bind fun u1 =>
(Aq (fun s_:Nat×LL=>I9 a1 u1 y4 a0 s_.1 s_.2) 4611686018427387904 (0,([]:LL))).bind fun u2 =>
(D2 a0 a1 u2).bind fun y62 =>
some y62
theorem Si (h:Ju bA bB dA=some dB):D1 Tryz.prog Tab 133 [ai bA,ai bB,tS dA] [] (oS 0 1 dB.length) [(oi 0 1,.mat 42 (oi 1 1) .int dB),(oi 1 1,.pool 3 .int dB)]:=by
 refine Br kr Tryz.func133 (B6 kr) (n:=89) kr (by simp) rfl kr trivial ⟨⟨3,.tail _ (.head _)⟩,⟨trivial,trivial⟩⟩ (Ae (Ab (Aa 7 (rsT 3 (rcM h [] [ai bA,ai bB,tS dA] I2 trivial (aR kr) (Ay kr kr trivial) fun y4 h=>rsT 1 (rnW (Ab (Aa 10 (rsT 1 ?_)))))))));obtain ⟨g6,h⟩:=Ak h;refine rs1 (oI 22 8 bB.toNat) (oi 22 8) (.arr 3 .int (List.replicate bB.toNat (0:Int))) (Ot (t:=.int) (k:=.i64) (k':=.i64) (m:=bB) (m':=bB) kr kr g6 rfl) (rsT 1 (rnW (sqF h (fun ub=>sT [(0,ai bA),(1,ai bB),(7,oS 0 1 y4.length),(8,oI 2 1 ub.length)] [(oi 0 1,.mat 42 (oi 1 1) .int y4),(oi 1 1,.pool 3 .int y4),(oi 2 1,.arr 3 .int ub)]) ?_ ?_)))
 ·intro _ h;refine Ae (Ad (lpF h (fun (uc,u5)=>sT [(0,ai bA),(1,ai bB),(7,oS 0 1 y4.length),(8,oI 2 1 u5.length),(24,an bB.toNat),(25,an uc)] [(oi 0 1,.mat 42 (oi 1 1) .int y4),(oi 1 1,.pool 3 .int y4),(oi 2 1,.arr 3 .int u5)]) ((wL 8 (List.length_replicate.symm:bB.toNat=(List.replicate bB.toNat (0:Int)).length)).trans (Ag [(oi 0 1,oi 320 5),(oi 1 1,oi 321 5),(oi 2 1,oi 22 8)])) ?_));rintro n_ ⟨uc,u5⟩ c_ h hn9;refine Ae (Ab (kQ h (fun _ h=>skW (Ab (Ad (Ae (Aa 9 (rsT 2 ?_)))))) fun _ h=>lxT (have h:=jO h hn9;jE [])));obtain ⟨x15,e15,h⟩:=Ah h;refine zO (oi 2 1) .int u5.length (Ai e15) (zS (oi 2 1) (-1) e15 (Ap (bn_ (tn_ (wr_ (Aa 11 (raH h fun h=>rsT 1 (Ap (tn_ ?_)))))))));obtain rfl:=zj h;exact jLw hn9 ((wL 8 (((rfl:u5.length=u5.length).trans List.length_set.symm):u5.length=(u5.set uc (-1)).length)).trans (Ag []))
 intro ub h;refine sqF h (fun u1=>sT [(0,ai bA),(1,ai bB),(7,oS 0 1 y4.length),(8,oI 2 1 u1.length)] [(oi 0 1,.mat 42 (oi 1 1) .int y4),(oi 1 1,.pool 3 .int y4),(oi 2 1,.arr 3 .int u1)]) ?_ ?_
 ·intro _ h;refine Ae (Ad (lpF h (fun (u8,u6)=>sT [(0,ai bA),(1,ai bB),(7,oS 0 1 y4.length),(8,oI 2 1 u6.length),(32,oS 0 1 y4.length),(33,an y4.length),(34,an u8)] [(oi 0 1,.mat 42 (oi 1 1) .int y4),(oi 1 1,.pool 3 .int y4),(oi 2 1,.arr 3 .int u6)]) (Ag []) ?_));rintro n_ ⟨u8,u6⟩ c_ h hn19;refine Ae (Ab (kQ h (fun _ h=>skW (Ab (Ad (Ab (Aa 8 (rsT 1 ?_)))))) fun _ h=>lxT (have h:=jO h hn19;jE [])));obtain ⟨x25,e25,h⟩:=Ah h;refine zO (oi 0 1) sI y4.length (Ai e25) (rsl (.own (kid (oi 1 1) u8) .int 0 x25.length) (D6 (o:=oi 0 1) (p:=oi 1 1) (e1:=42) (u:=.int) (xss:=y4) (row:=x25) (j:=u8) kr kr e25) (rsT 2 (rnW (Aa 14 (rsT 2 (rcG h [.own (kid (oi 1 1) u8) .int 0 x25.length] N5 (Al (Bl (e:=3) (u:=.int) (xs:=x25) (Bc kr e25) rfl) Bg) fun y26 h=>rsT 1 ?_))))));obtain ⟨x27,f27,h⟩:=Ah h;obtain ⟨p27,b27,e27⟩:=Ar f27;refine rs0 (.elt (oi 2 1) y26.toNat 0) (zo (t:=.int) (o:=oi 2 1) (len:=u6.length) (k:=.i64) (m:=y26) p27 (Ai e27)) (zS (oi 2 1) ((u8:Int)) e27 (Ap (bn_ (tn_ (wr_ (Aa 16 (raH h fun h=>rsT 1 (Ap (tn_ ?_)))))))));obtain rfl:=zj h;exact jLw hn19 ((wL 8 (((rfl:u6.length=u6.length).trans List.length_set.symm):u6.length=(u6.set y26.toNat (u8:Int)).length)).trans (Ag []))
 intro u1 h;refine Ae (sqF h (fun u9=>sT [(0,ai bA),(1,ai bB),(12,oS 0 1 u9.length)] [(oi 0 1,.mat 42 (oi 1 1) .int u9),(oi 1 1,.pool 3 .int u9)]) ?_ fun u9 h=>Ab (Aa 7 (rsT 3 (rcM h [] [ai bA,ai bB,oS 0 1 u9.length] I2 trivial (.cons (.ren kr) (.cons (.ren kr) (.cons (.gnd kr (La (p:=oi 1 1) (e1:=42) (e:=3) (u:=.int) (xss:=u9) ((Mn kr kr kr).trans kr) (Xu kr kr (Cc kr) kr) rfl)) .nil))) (Ay kr kr trivial) fun y62 h=>rsT 1 (rnW (Ac (by obtain rfl:=osj h;exact E4 [oS 0 1 y62.length] (Ag (tl:=[(6,oS 0 1 y62.length)]) (g:=2) [(oi 0 1,oi 1408 5),(oi 1 1,oi 1409 5)]))))))));intro _ h;refine Ae (Ad (lpF h (fun (u2,u0)=>sT [(0,ai bA),(1,ai bB),(7,oS 0 1 y4.length),(8,oI 2 1 u1.length),(12,oS 3 1 u0.length),(13,an u2)] [(oi 0 1,.mat 42 (oi 1 1) .int y4),(oi 1 1,.pool 3 .int y4),(oi 2 1,.arr 3 .int u1),(oi 3 1,.mat 42 (oi 4 1) .int u0),(oi 4 1,.pool 3 .int u0)]) ((Og 12 42 sI kr).trans ((Ex (e1:=42) (n:=0) 9000 (oi 12 4) 3 .int kr kr rfl kr kr).trans (Ag [(oi 3 1,oi 12 4),(oi 4 1,oi 9000 5)]))) ?_));rintro n_ ⟨u2,u0⟩ c_ h hn32;refine Ab (Ae (kQ h (fun _ h=>skW (sqF h (fun ua=>sT [(0,ai bA),(1,ai bB),(7,oS 0 1 y4.length),(8,oI 2 1 u1.length),(12,oS 3 1 ua.length),(13,an u2)] [(oi 0 1,.mat 42 (oi 1 1) .int y4),(oi 1 1,.pool 3 .int y4),(oi 2 1,.arr 3 .int u1),(oi 3 1,.mat 42 (oi 4 1) .int ua),(oi 4 1,.pool 3 .int ua)]) ?_ fun ua h=>Aa 5 (rsT 1 (raH h fun h=>rsT 1 (Ap (tn_ (jL []))))))) fun _ h=>lxT (have h:=jO h hn32;jE [(oi 0 1,oi 3 1),(oi 1 1,oi 4 1)])));intro _ h;refine Ad (Ab (Ab (Aa 10 (rsT 2 ?_))));obtain ⟨x39,e39,h⟩:=Ah h;refine zO (oi 2 1) .int u1.length (Ai e39) (zE (oi 2 1) e39 (rsT 1 (rnW (kQ h (fun _ h=>Dv (te_ (be_ (tn_ (jE []))))) fun _ h=>skW (Ab (Aa 13 (rsT 1 ?_)))))));obtain ⟨g42,h⟩:=Ak h;refine rs1 (oI 56 11 bB.toNat) (oi 56 11) (.arr 3 .int (List.replicate bB.toNat (0:Int))) (Ot (t:=.int) (k:=.i64) (k':=.i64) (m:=bB) (m':=bB) kr kr g42 rfl) (rsT 1 (rnW (Ab (Aa 17 (rsT 2 ?_)))));obtain ⟨x44,e44,h⟩:=Ah h;refine rs0 (.elt (oi 56 11) u2 0) (zo (t:=.int) (o:=oi 56 11) (len:=bB.toNat) (k:=.i64) (m:=(u2:Int)) (Cu _) (Nat.lt_of_lt_of_le (Ai e44) (Nat.le_of_eq (Eq.symm List.length_replicate.symm)))) (zS (oi 56 11) (1) e44 (rnW (sqF h (fun u4=>sT [(0,ai bA),(1,ai bB),(7,oS 0 1 y4.length),(8,oI 2 1 u1.length),(12,oS 3 1 u0.length),(13,an u2),(14,oI 5 1 u4.length)] [(oi 0 1,.mat 42 (oi 1 1) .int y4),(oi 1 1,.pool 3 .int y4),(oi 2 1,.arr 3 .int u1),(oi 3 1,.mat 42 (oi 4 1) .int u0),(oi 4 1,.pool 3 .int u0),(oi 5 1,.arr 3 .int u4)]) ?_ ?_)))
 ·intro _ h;refine Ae (Ad (lpF h (fun (u3,u7)=>sT [(0,ai bA),(1,ai bB),(7,oS 0 1 y4.length),(8,oI 2 1 u1.length),(12,oS 3 1 u0.length),(13,an u2),(14,oI 5 1 u7.length),(60,oS 0 1 y4.length),(61,an y4.length),(62,an u3)] [(oi 0 1,.mat 42 (oi 1 1) .int y4),(oi 1 1,.pool 3 .int y4),(oi 2 1,.arr 3 .int u1),(oi 3 1,.mat 42 (oi 4 1) .int u0),(oi 4 1,.pool 3 .int u0),(oi 5 1,.arr 3 .int u7)]) ((wL 14 ((List.length_replicate.symm.trans List.length_set.symm):bB.toNat=((List.replicate bB.toNat (0:Int)).set u2 1).length)).trans (Ag [(oi 5 1,oi 56 11)])) ?_));rintro n_ ⟨u3,u7⟩ c_ h hn47;refine Ae (Ab (kQ h (fun _ h=>skW (Ab (Ad (Ab (Aa 8 (rsT 1 ?_)))))) fun _ h=>lxT (have h:=jO h hn47;jE [])));obtain ⟨x53,e53,h⟩:=Ah h;refine zO (oi 0 1) sI y4.length (Ai e53) (rsl (.own (kid (oi 1 1) u3) .int 0 x53.length) (D6 (o:=oi 0 1) (p:=oi 1 1) (e1:=42) (u:=.int) (xss:=y4) (row:=x53) (j:=u3) kr kr e53) (rsT 2 (rnW (Ao 22 (dsT 3 (dzO (oi 0 1) sI y4.length (Ai e53) (dsl (.own (kid (oi 1 1) u3) .int 0 x53.length) (D6 (o:=oi 0 1) (p:=oi 1 1) (e1:=42) (u:=.int) (xss:=y4) (row:=x53) (j:=u3) kr kr e53) (dcG h [.own (kid (oi 1 1) u3) .int 0 x53.length] N5 (Al (Bl (e:=3) (u:=.int) (xs:=x53) ((Fj (P3 (t:=.int) (off:=0) (len:=x53.length) 0 rfl kr)).trans (Bc kr e53)) rfl) Bg) fun y54 h=>dz0 (ai bA) (dz0 (.own (kid (oi 1 1) u3) .int 0 x53.length) (dz0 (an u2) ?_))))))))));obtain ⟨x55,e55,h⟩:=Ah h;refine ds0 (.elt (kid (oi 1 1) u3) u2 0) (zo (t:=.int) (o:=kid (oi 1 1) u3) (len:=x53.length) (k:=.i64) (m:=(u2:Int)) (Cu _) (Ai e55)) (dsl (ai x55) (H5 (i:=kid (oi 1 1) u3) (j:=u2) (k:=0) (e:=3) (t:=.int) (xs:=x53) kr (Z8.trans (Bc kr e53)) e55 kr) (dcH h P2 fun y56 h=>?_));obtain ⟨x57,f57,h⟩:=Ah h;obtain ⟨p57,b57,e57⟩:=Ar f57;refine ds0 (.elt (oi 5 1) y54.toNat 0) (zo (t:=.int) (o:=oi 5 1) (len:=u7.length) (k:=.i64) (m:=y54) p57 (Ai e57)) (dzS (oi 5 1) (y56) e57 (Co (As kr) (bn_ (tn_ (wr_ (Aa 24 (raH h fun h=>rsT 1 (Ap (tn_ ?_)))))))));obtain rfl:=zj h;exact jLw hn47 ((wL 14 (((rfl:u7.length=u7.length).trans List.length_set.symm):u7.length=(u7.set y54.toNat y56).length)).trans (Ag []))
 intro u4 h;refine Aa 7 (rsT 2 (Lq (oS 83 4 1) (oi 83 4) (.vec 42 1 1 ([oI 5 1 u4.length])) trivial (Dt kr) ?_));obtain ⟨g59,h⟩:=Ak h;refine zV (oi 3 1) (oi 83 4) (oi 4 1) u0 [oI 5 1 u4.length] g59 (rsT 1 (Ap (bn_ (tn_ ?_))));obtain rfl:=zj h;exact (El (e1:=42) (e:=3) (u:=.int) (n:=u0.length+1) (len:=u4.length) (row:=u4) (ys:=u4) (xss:=u0) 9000 (oi 3 5) (oi 4 1) (oi 5 1) kr kr rfl kr kr (Nm rfl) (Nn rfl) kr kr kr).trans ((wL 12 ((by simp):u0.length+1=(u0++[u4]).length)).trans (Ag [(oi 3 1,oi 3 5),(oi 4 1,oi 9000 7)]))
def J6 (x12 a3:List Int) (u2:Nat) (a0:Int) (u0:Nat) (u1:List Int):Option (Ctl (Nat×List Int) (List Int)) :=
 cond (decide ((u0:Int)<(x12.length:Int)))
 ((x12[u0]?).bind fun x20 =>
 (u1[u0]?).bind fun x21 =>
 (a3[u2]?).bind fun x22 =>
 og (a0≠0) <|
 og (u0+1<4611686018427387904) <|
 some (Ctl.next (u0+1,u1.set u0 (Int.tmod (wI (x21+wI (x22*x20))) a0))))
 (some (Ctl.out u1))
def J3 (a2:LL) (a3:List Int) (a0:Int) (u0:Nat) (u1:List Int):Option (Ctl (Nat×List Int) (List Int)) :=
 cond (decide ((u0:Int)<(a2.length:Int)))
 (((a2[u0]?).bind fun x12 =>
  Aq (fun s_:Nat×List Int=>J6 x12 a3 u0 a0 s_.1 s_.2) 4611686018427387904 (0,u1)).bind fun u2 =>
 og (u0+1<4611686018427387904) <|
 some (Ctl.next (u0+1,u2)))
 (some (Ctl.out u1))
def I4 (a0 a1:Int) (a2:LL) (a3:List Int):Option (List Int) :=
 og (0<=a1/\a1<=a1/\a1<=1073741824/\(8:Int)*a1<=140737488355328) <|
(Aq (fun s_:Nat×List Int=>J3 a2 a3 a0 s_.1 s_.2) 4611686018427387904 (0,List.replicate a1.toNat (0:Int))).bind fun u0 =>
some u0
theorem P0 (h:I4 bA bB dA aA=some aB):cK 93 [ai bA,ai bB,tS dA,tI aA] (Bs aB):=by
 refine cO Tryz.func93 (Ae (Ab (Aa 5 (rsT 1 ?_))));obtain ⟨g3,h⟩:=Ak h;refine rs1 (oI 15 3 bB.toNat) (oi 15 3) (.arr 3 .int (List.replicate bB.toNat (0:Int))) (Ot (t:=.int) (k:=.i64) (k':=.i64) (m:=bB) (m':=bB) kr kr g3 rfl) (rsT 1 (rnW (sqF h (fun u3=>sT [(9,oI 0 1 u3.length)] [(oi 0 1,.arr 3 .int u3)]) ?_ fun u3 h=>Ae (Ac (jR h [oI 0 1 u3.length] (Db rfl (Cv kr rfl) E6))))));intro _ h;refine Ae (Ad (lpF h (fun (u1,u4)=>sT [(0,ai bA),(3,tI aA),(9,oI 0 1 u4.length),(16,tS dA),(17,an dA.length),(18,an u1)] [(oi 0 1,.arr 3 .int u4)]) ((wL 9 (List.length_replicate.symm:bB.toNat=(List.replicate bB.toNat (0:Int)).length)).trans (Ag [(oi 0 1,oi 15 3)])) ?_));rintro n_ ⟨u1,u4⟩ c_ h hn6;refine Ae (Ab (kQ h (fun _ h=>skW (sqF h (fun u5=>sT [(0,ai bA),(3,tI aA),(9,oI 0 1 u5.length),(16,tS dA),(17,an dA.length),(18,an u1)] [(oi 0 1,.arr 3 .int u5)]) ?_ fun u5 h=>Aa 4 (raH h fun h=>rsT 1 (Ap (tn_ (jL [])))))) fun _ h=>lxT (have h:=jO h hn6;jE [])));intro _ h;refine Ad (Ab (Aa 8 (rsT 1 (riH sI h fun x12 _ h=>rsT 3 (rnW (Ae (Ad (lpF h (fun (u2,u0)=>sT [(0,ai bA),(3,tI aA),(9,oI 0 1 u0.length),(10,an u1),(16,tS dA),(17,an dA.length),(18,an u1),(23,tI x12),(24,an x12.length),(25,an u2)] [(oi 0 1,.arr 3 .int u0)]) (Ag []) ?_))))))));rintro n_ ⟨u2,u0⟩ c_ h hn14;refine Ae (Ab (kQ h (fun _ h=>skW (Ab (Ad (Ab (Aa 8 (rsT 1 (riH .int h fun x20 _ h=>rsT 3 (rnW (Ao 25 (dz0 (oI 0 1 u0.length) (dz0 (an u2) (dz0 (oI 0 1 u0.length) (dz0 (an u2) ?_))))))))))))) fun _ h=>Dv (te_ (te_ (be_ (bn_ (tn_ (have h:=jO h hn14;jE []))))))));obtain ⟨x21,e21,h⟩:=Ah h;refine dzO (oi 0 1) .int u0.length (Ai e21) (dzE (oi 0 1) e21 (dz0 (tI aA) (dz0 (an u1) (diH .int h fun x22 _ h=>dsT 5 ?_))));obtain ⟨g23,h⟩:=Ak h;refine ds0 (ai (Int.tmod (wI (x21+wI (x22*x20))) bA)) (Pb (k:=.i64) (a:=wI (x21+wI (x22*x20))) (b:=bA) kr kr g23) (dzO (oi 0 1) .int u0.length (Ai e21) (dzS (oi 0 1) (Int.tmod (wI (x21+wI (x22*x20))) bA) e21 (Co (As kr) (bn_ (tn_ (wr_ (Aa 27 (raH h fun h=>rsT 1 (Ap (tn_ ?_))))))))));obtain rfl:=zj h;exact jLw hn14 ((wL 9 (((rfl:u0.length=u0.length).trans List.length_set.symm):u0.length=(u0.set u2 (Int.tmod (wI (x21+wI (x22*x20))) bA)).length)).trans (Ag []))
def Ko (a0 a1 a2:Int) (a3:LL):Option (Int×Int×LL) :=
 (D2 a0 (wI (a1+a2)) a3).bind fun y3 =>
some (a1,a2,y3)
def Ck (r:Int×Int×LL):RV:=⟨false,[(true,[.sc (.int .i64 r.1),.sc (.int .i64 r.2.1),.frz (tS r.2.2)])]⟩
theorem Qw (h:Ko bA bB bC dA=some pA):cK 134 [ai bA,ai bB,ai bC,tS dA] (Ck pA):=by
 exact cZ Tryz.func134 fun zn_ nz_ hz_=>Ae (Ab (Aa 12 (rsT 7 (rcM h [] [ai bA,ai (wI (bB+bC)),tS dA] (fun h=>Sy (I2 h)) trivial (aR kr) (Ay kr kr trivial) fun y3 h=>rsB 2 (rnW (Ac (jZ h [(true,[ai bB,ai bC,oS 256 9 y3.length])] (Ea (Aw B2 (Aw B2 (Aw (Bp (.mat (p:=oi 257 9) (e1:=42) (e:=3) kr (Cc kr) rfl)) Ee))) B8))))))))
def Ft (u3:LL) (u1:Nat) (u4:Int) (u0:Nat) (u2:LL):Option (Ctl (Nat×LL) (LL)) :=
 cond (decide ((u0:Int)<(u3.length:Int)))
 ((u3[u0]?).bind fun x21 =>
 (u2[u1]?).bind fun x22 =>
 (Cb x21 (wI (u4+(u1:Int)))).bind fun x23 =>
 og (x22.length+1<=1073741824/\(x22.length+1)*8<=140737488355328) <|
 og (u0+1<4611686018427387904) <|
 some (Ctl.next (u0+1,u2.set u1 (x22++([x23])))))
 (some (Ctl.out u2))
def Fn (u3:LL) (u1:Nat) (a0:Int) (u0:Nat) (u2:LL):Option (Ctl (Nat×LL) (LL)) :=
 cond (decide ((u0:Int)<(u3.length:Int)))
 ((u3[u0]?).bind fun x33 =>
 (u2[u1]?).bind fun x34 =>
 (x33[u1]?).bind fun x35 =>
 (Fb a0 x35).bind fun y36 =>
 og (x34.length+1<=1073741824/\(x34.length+1)*8<=140737488355328) <|
 og (u0+1<4611686018427387904) <|
 some (Ctl.next (u0+1,u2.set u1 (x34++([y36])))))
 (some (Ctl.out u2))
def Jd (u2:Int) (u3:LL) (u4:Int) (u5:LL) (a0:Int) (u0:Nat) (u1:LL):Option (Ctl (Nat×LL) (LL)) :=
 cond (decide ((u0:Int)<(u2.toNat:Int)))
 (((Aq (fun s_:Nat×LL=>Ft u3 u0 u4 s_.1 s_.2) 4611686018427387904 (0,u1)).bind fun u6 =>
  Aq (fun s_:Nat×LL=>Fn u5 u0 a0 s_.1 s_.2) 4611686018427387904 (0,u6)).bind fun u7 =>
 og (u0+1<4611686018427387904) <|
 some (Ctl.next (u0+1,u7)))
 (some (Ctl.out u1))
def Je (y43 u1:LL) (a0 u2:Int) (u0 u5:Int) (u6:LL) (u3:Nat) (u4:LL):Option (Ctl (Nat×LL) (LL)) :=
 cond (decide ((u3:Int)<(y43.length:Int)))
 ((y43[u3]?).bind fun x50 =>
 og ((0:Int)<=0/\0<=(u1.length:Int)/\(u1.length:Int)<=(x50.length:Int)) <|
 (I4 a0 (wI (u2+u0)) u1 (x50.take u1.length)).bind fun y53 =>
 og ((0:Int)<=(u1.length:Int)/\(u1.length:Int)<=(x50.length:Int)/\(x50.length:Int)<=(x50.length:Int)) <|
 (I4 a0 (wI (u0+u5)) u6 (x50.drop u1.length)).bind fun y56 =>
 og ((0:Int)<=0/\0<=u2/\u2<=(y53.length:Int)) <|
 (Fi (y53.take u2.toNat)).bind fun y58 =>
 og ((0:Int)<=u0/\u0<=(y56.length:Int)/\(y56.length:Int)<=(y56.length:Int)) <|
 og (y58.length+(((y56.drop u0.toNat).take (((y56.length:Int) - u0).toNat)).length)<=1073741824/\(y58.length+(((y56.drop u0.toNat).take (((y56.length:Int) - u0).toNat)).length))*8<=140737488355328) <|
 og (u4.length+1<=1073741824/\(u4.length+1)*24<=140737488355328) <|
 og (u3+1<4611686018427387904) <|
 some (Ctl.next (u3+1,u4++[y58++((y56.drop u0.toNat).take (((y56.length:Int) - u0).toNat))])))
 (some (Ctl.out u4))
def Fv (a0 u1 u0:Int) (u2:LL) (u7 u4:Int) (u3:LL):Option (Int×Int×LL) :=
 og (0<=u0/\u0<=u0/\u0<=1073741824/\(24:Int)*u0<=140737488355328) <|
(Aq (fun s_:Nat×LL=>Jd u0 u2 u1 u3 a0 s_.1 s_.2) 4611686018427387904 (0,List.replicate u0.toNat ([]:List Int))).bind fun u5 =>
((Ju a0 (wI ((u2.length:Int)+(u3.length:Int))) u5).bind fun y43 =>
 Aq (fun s_:Nat×LL=>Je y43 u2 a0 u1 u0 u4 u3 s_.1 s_.2) 4611686018427387904 (0,([]:LL))).bind fun u6 =>
(Ko a0 u1 u4 u6).bind fun y64 =>
some (y64.1,y64.2.1,y64.2.2)
theorem Vq (h:Fv bA bB bC dA bD bE dB=some pA):cK 96 [ai bA,.agg [ai bB,ai bC,tS dA],.agg [ai bD,ai bE,tS dB]] (Ck pA):=by
 refine cZ Tryz.func96 fun zn_ nz_ hz_=>Ae (Ae (Ab (Aa 10 (rsT 1 ?_))))
 obtain ⟨g4,h⟩:=Ak h;refine Afi (oS 352 8 bC.toNat) (oi 352 8) 42 3 .int (List.replicate bC.toNat ([]:List Int)) trivial (Zn (j:=bC.toNat) (k:=.i64) (k':=.i64) (m:=bC) (c:=bC) 3 kr kr g4 kr rfl) kr (by rw [List.length_replicate]) kr (rsT 1 (rnW (sqF h (fun ub=>sT [(0,ai bA),(4,.box (oi 0 1) 0),(5,.box (oi 1 1) 0),(6,.box (oi 2 1) 0),(7,ai bC),(8,oS 3 1 ub.length)] [(oi 0 1,.cells 36 [ai bB,ai bC,tS dA]),(oi 1 1,.cells 36 [ai bD,ai bE,tS dB]),(oi 2 1,.cells 36 [ai 0,ai 0,.nils]),(oi 3 1,.mat 42 (oi 4 1) .int ub),(oi 4 1,.pool 3 .int ub)]) ?_ ?_)))
 ·intro _ h;refine Ae (Ad (lpF h (fun (u1,ud)=>sT [(0,ai bA),(4,.box (oi 0 1) 0),(5,.box (oi 1 1) 0),(6,.box (oi 2 1) 0),(7,ai bC),(8,oS 3 1 ud.length),(24,an bC.toNat),(25,an u1)] [(oi 0 1,.cells 36 [ai bB,ai bC,tS dA]),(oi 1 1,.cells 36 [ai bD,ai bE,tS dB]),(oi 2 1,.cells 36 [ai 0,ai 0,.nils]),(oi 3 1,.mat 42 (oi 4 1) .int ud),(oi 4 1,.pool 3 .int ud)]) ((wL 8 (List.length_replicate.symm:bC.toNat=(List.replicate bC.toNat ([]:List Int)).length)).trans (Ag [(oi 0 1,oi 4 1),(oi 1 1,oi 5 2),(oi 2 1,oi 6 3),(oi 3 1,oi 352 8),(oi 4 1,oi 352 8)])) ?_));rintro n_ ⟨u1,ud⟩ c_ h hn7
  (try dsimp only at h);refine Ae (Ab (kQ h (fun q10 h=>?_) fun q10 h=>?_))
  ·have q10_:=of_decide_eq_true q10;refine skW (sqF h (fun ue=>sT [(0,ai bA),(4,.box (oi 0 1) 0),(5,.box (oi 1 1) 0),(6,.box (oi 2 1) 0),(7,ai bC),(8,oS 3 1 ue.length),(24,an bC.toNat),(25,an u1)] [(oi 0 1,.cells 36 [ai bB,ai bC,tS dA]),(oi 1 1,.cells 36 [ai bD,ai bE,tS dB]),(oi 2 1,.cells 36 [ai 0,ai 0,.nils]),(oi 3 1,.mat 42 (oi 4 1) .int ue),(oi 4 1,.pool 3 .int ue)]) ?_ ?_)
   ·intro _ h;refine Ad (Ae (sqF h (fun uf=>sT [(0,ai bA),(4,.box (oi 0 1) 0),(5,.box (oi 1 1) 0),(6,.box (oi 2 1) 0),(7,ai bC),(8,oS 3 1 uf.length),(9,an u1),(24,an bC.toNat),(25,an u1)] [(oi 0 1,.cells 36 [ai bB,ai bC,tS dA]),(oi 1 1,.cells 36 [ai bD,ai bE,tS dB]),(oi 2 1,.cells 36 [ai 0,ai 0,.nils]),(oi 3 1,.mat 42 (oi 4 1) .int uf),(oi 4 1,.pool 3 .int uf)]) ?_ ?_))
    ·intro _ h;refine Ae (Ad (lpF h (fun (ug,u4)=>sT [(0,ai bA),(4,.box (oi 0 1) 0),(5,.box (oi 1 1) 0),(6,.box (oi 2 1) 0),(7,ai bC),(8,oS 3 1 u4.length),(9,an u1),(24,an bC.toNat),(25,an u1),(29,tS dA),(30,an dA.length),(31,an ug)] [(oi 0 1,.cells 36 [ai bB,ai bC,tS dA]),(oi 1 1,.cells 36 [ai bD,ai bE,tS dB]),(oi 2 1,.cells 36 [ai 0,ai 0,.nils]),(oi 3 1,.mat 42 (oi 4 1) .int u4),(oi 4 1,.pool 3 .int u4)]) (Ag []) ?_));rintro n_ ⟨ug,u4⟩ c_ h hn15
     (try dsimp only at h);refine Ae (Ab (kQ h (fun q18 h=>?_) fun q18 h=>?_))
     ·have q18_:=of_decide_eq_true q18;refine skW (Ab (Ad (Ab (Aa 6 (riH sI h fun x21 _ h=>rsT 2 (rnW (Ao 23 (dz0 (oS 3 1 u4.length) (dz0 (an u1) (dz0 (oS 3 1 u4.length) (dz0 (an u1) ?_)))))))))));obtain ⟨x22,e22,h⟩:=Ah h;refine dzO (oi 3 1) sI u4.length (Ai e22) (dsl (.own (kid (oi 4 1) u1) .int 0 x22.length) (D6 (o:=oi 3 1) (p:=oi 4 1) (e1:=42) (u:=.int) (xss:=u4) (row:=x22) (j:=u1) kr kr e22) (dsT 5 ?_));obtain ⟨x23,f23,h⟩:=Ah h;obtain ⟨p23,b23,e23⟩:=Ar f23;refine ds0 (.telt none .int x23 0) (zi (t:=.int) (xs:=x21) (k:=.i64) (m:=wI (bB+(u1:Int))) p23 e23) (dz0 (ai x23) (ds1 (oI 48 19 1) (oi 48 19) (.arr 3 .int ([x23])) kr ?_));obtain ⟨g24,h⟩:=Ak h;refine ds2 (.own (kid (oi 4 20) u1) .int 0 ((x22++([x23])).length)) (kid (oi 4 1) u1) (kid (oi 4 20) u1) (.arr 3 .int (x22++([x23]))) (P5 (t:=.int) (t':=.int) (xs:=x22) (ys:=[x23]) (zs:=x22++([x23])) (j:=kid (oi 4 1) u1) (len:=x22.length) (c:=oI 48 19 1) kr ((Fj (L:=[kid (oi 4 1) u1,oi 48 19]) List.mem_cons_self).trans (Bc kr e22)) rfl kr (Jf (e:=3) kr rfl) rfl g24) (dzO (oi 3 1) sI u4.length (Ai e22) (Oz (oi 3 1) (oi 3 1) (.vec 42 1 u4.length ((hdL (oi 4 1) .int u4).set u1 (.own (kid (oi 4 20) u1) .int 0 ((x22++([x23])).length)))) (Abq (o:=oi 3 1) (e1:=42) (m:=u4.length) (cs:=hdL (oi 4 1) .int u4) (v:=.own (kid (oi 4 20) u1) .int 0 ((x22++([x23])).length)) (j:=u1) kr kr kr rfl (by rw [C7];exact Ai e22)) (Co (As kr) (bn_ (tn_ ⟨_,Abk (e1:=42) (e:=3) (u:=.int) (n:=u4.length) (len:=(x22++([x23])).length) (row:=x22++([x23])) (ys:=x22++([x23])) (xss:=u4) (j:=u1) 9000 (oi 3 1) (oi 4 1) (kid (oi 4 20) u1) kr kr rfl kr (by repeat first|exact Ahe|refine entAt_sk rfl ?_) (Nm rfl) (Nn rfl) kr kr kr,?_⟩)))));refine Aa 26 ?_;obtain ⟨g25,h⟩:=Ak h;refine zA g25 (rsT 1 (Ap (tn_ ?_)));obtain rfl:=zj h;exact jLw hn15 ((wL 8 ((Eq.trans (b:=u4.length) rfl List.length_set.symm):u4.length=(u4.set u1 (x22++([x23]))).length)).trans (Ag [(oi 4 1,oi 9000 23)]))
     have q18_:=of_decide_eq_false q18;refine lxT ?_;have h:=jO h hn15
     (try dsimp only at h);exact jE []
    intro uf h
    (try dsimp only at h);refine Ae (Ad (lpF h (fun (uh,u5)=>sT [(0,ai bA),(4,.box (oi 0 1) 0),(5,.box (oi 1 1) 0),(6,.box (oi 2 1) 0),(7,ai bC),(8,oS 3 1 u5.length),(9,an u1),(24,an bC.toNat),(25,an u1),(53,tS dB),(54,an dB.length),(55,an uh)] [(oi 0 1,.cells 36 [ai bB,ai bC,tS dA]),(oi 1 1,.cells 36 [ai bD,ai bE,tS dB]),(oi 2 1,.cells 36 [ai 0,ai 0,.nils]),(oi 3 1,.mat 42 (oi 4 1) .int u5),(oi 4 1,.pool 3 .int u5)]) (Ag []) ?_));rintro n_ ⟨uh,u5⟩ c_ h hn27
    (try dsimp only at h);refine Ae (Ab (kQ h (fun q30 h=>?_) fun q30 h=>?_))
    ·have q30_:=of_decide_eq_true q30;refine skW (Ab (Ad (Ab (Aa 6 (riH sI h fun x33 _ h=>rsT 2 (rnW (Ao 22 (dsT 4 ?_))))))));obtain ⟨x34,e34,h⟩:=Ah h;refine dzO (oi 3 1) sI u5.length (Ai e34) (dsl (.own (kid (oi 4 1) u1) .int 0 x34.length) (D6 (o:=oi 3 1) (p:=oi 4 1) (e1:=42) (u:=.int) (xss:=u5) (row:=x34) (j:=u1) kr kr e34) (dz0 (ai bA) (dz0 (tI x33) (dz0 (an u1) (diH .int h fun x35 _ h=>dz0 (ai x35) (dcH h (fun h=>Gb (P2 h)) fun y36 h=>ds1 (oI 71 18 1) (oi 71 18) (.arr 3 .int ([y36])) kr ?_))))));obtain ⟨g37,h⟩:=Ak h;refine ds2 (.own (kid (oi 4 19) u1) .int 0 ((x34++([y36])).length)) (kid (oi 4 1) u1) (kid (oi 4 19) u1) (.arr 3 .int (x34++([y36]))) (P5 (t:=.int) (t':=.int) (xs:=x34) (ys:=[y36]) (zs:=x34++([y36])) (j:=kid (oi 4 1) u1) (len:=x34.length) (c:=oI 71 18 1) kr ((Fj (L:=[kid (oi 4 1) u1,oi 71 18]) List.mem_cons_self).trans (Bc kr e34)) rfl kr (Jf (e:=3) kr rfl) rfl g37) (dzO (oi 3 1) sI u5.length (Ai e34) (Oz (oi 3 1) (oi 3 1) (.vec 42 1 u5.length ((hdL (oi 4 1) .int u5).set u1 (.own (kid (oi 4 19) u1) .int 0 ((x34++([y36])).length)))) (Abq (o:=oi 3 1) (e1:=42) (m:=u5.length) (cs:=hdL (oi 4 1) .int u5) (v:=.own (kid (oi 4 19) u1) .int 0 ((x34++([y36])).length)) (j:=u1) kr kr kr rfl (by rw [C7];exact Ai e34)) (Co (As kr) (bn_ (tn_ ⟨_,Abk (e1:=42) (e:=3) (u:=.int) (n:=u5.length) (len:=(x34++([y36])).length) (row:=x34++([y36])) (ys:=x34++([y36])) (xss:=u5) (j:=u1) 9000 (oi 3 1) (oi 4 1) (kid (oi 4 19) u1) kr kr rfl kr (by repeat first|exact Ahe|refine entAt_sk rfl ?_) (Nm rfl) (Nn rfl) kr kr kr,?_⟩)))));refine Aa 25 ?_;obtain ⟨g38,h⟩:=Ak h;refine zA g38 (rsT 1 (Ap (tn_ ?_)));obtain rfl:=zj h;exact jLw hn27 ((wL 8 ((Eq.trans (b:=u5.length) rfl List.length_set.symm):u5.length=(u5.set u1 (x34++([y36]))).length)).trans (Ag [(oi 4 1,oi 9000 22)]))
    have q30_:=of_decide_eq_false q30;refine Dv (te_ (te_ (be_ (bn_ (tn_ ?_)))));have h:=jO h hn27
    (try dsimp only at h);exact jE []
   intro ue h
   (try dsimp only at h);refine Aa 4 ?_;obtain ⟨g39,h⟩:=Ak h;exact zA g39 (rsT 1 (Ap (tn_ (jL []))))
  have q10_:=of_decide_eq_false q10;refine lxT ?_;have h:=jO h hn7
  (try dsimp only at h);exact jE []
 intro ub h
 (try dsimp only at h);refine Ae (sqF h (fun uc=>sT [(0,ai bA),(4,.box (oi 0 1) 0),(5,.box (oi 1 1) 0),(6,.box (oi 2 1) 0),(14,oS 3 1 uc.length)] [(oi 0 1,.cells 36 [ai bB,ai bC,tS dA]),(oi 1 1,.cells 36 [ai bD,ai bE,tS dB]),(oi 2 1,.cells 36 [ai 0,ai 0,.nils]),(oi 3 1,.mat 42 (oi 4 1) .int uc),(oi 4 1,.pool 3 .int uc)]) ?_ ?_)
 ·intro _ h;refine Ab (Aa 15 (rsT 9 (rcM h [] [ai bA,ai (wI ((dA.length:Int)+(dB.length:Int))),oS 3 1 ub.length] (fun h=>Sy (Si h)) trivial (.cons (.ren kr) (.cons (.ren kr) (.cons (.gnd kr (La (p:=oi 4 1) (e1:=42) (e:=3) (u:=.int) (xss:=ub) ((Mn kr kr kr).trans kr) (Xu kr kr (Cc kr) kr) rfl)) .nil))) (Ay kr kr trivial) fun y43 h=>rsT 2 (rnW (Ad (lpF h (fun (u9,ua)=>sT [(0,ai bA),(4,.box (oi 0 1) 0),(5,.box (oi 1 1) 0),(6,.box (oi 2 1) 0),(7,ai bC),(14,oS 3 1 ua.length),(85,oS 5 1 y43.length),(86,an y43.length),(87,an u9)] [(oi 0 1,.cells 36 [ai bB,ai bC,tS dA]),(oi 1 1,.cells 36 [ai bD,ai bE,tS dB]),(oi 2 1,.cells 36 [ai 0,ai 0,.nils]),(oi 3 1,.mat 42 (oi 4 1) .int ua),(oi 4 1,.pool 3 .int ua),(oi 5 1,.mat 42 (oi 6 1) .int y43),(oi 6 1,.pool 3 .int y43)]) ((Og 14 42 sI kr).trans ((Ex (e1:=42) (n:=0) 9000 (oi 14 15) 3 .int kr kr rfl kr kr).trans (Ag [(oi 3 1,oi 14 15),(oi 4 1,oi 9000 16),(oi 5 1,oi 1360 12),(oi 6 1,oi 1361 12)]))) ?_))))));rintro n_ ⟨u9,ua⟩ c_ h hn44
  (try dsimp only at h);refine Ae (Ab (kQ h (fun q47 h=>?_) fun q47 h=>?_))
  ·have q47_:=of_decide_eq_true q47;refine skW (Ab (Ad (Ab (Aa 6 ?_))));obtain ⟨x50,e50,h⟩:=Ah h;refine zO (oi 5 1) sI y43.length (Ai e50) (rsl (.own (kid (oi 6 1) u9) .int 0 x50.length) (D6 (o:=oi 5 1) (p:=oi 6 1) (e1:=42) (u:=.int) (xss:=y43) (row:=x50) (j:=u9) kr kr e50) (rsT 1 (rnW (Ab (Ao 20 (dsT 11 ?_))))));obtain ⟨g52,h⟩:=Ak h;obtain ⟨y53,h53,h⟩:=Ah h;refine ds0 (.own (kid (oi 6 1) u9) .int 0 dA.length) (G5 (t:=.int) (i:=kid (oi 6 1) u9) (off:=0) (len:=x50.length) (l:=0) (h:=(dA.length:Int)) kr kr kr rfl g52 rfl oM) (My (oI 1648 18 y53.length) [nI 1648 18 y53] [ai bA,ai (wI (bB+bC)),tS dA,.own (kid (oi 6 1) u9) .int 0 dA.length] _ (caps:=[]) (args0:=[ai bA,ai (wI (bB+bC)),tS dA,tI (x50.take dA.length)]) trivial (Al kr (Al kr (Al kr (Al (Afz (e:=3) (u:=.int) (xs:=x50) ((Fj (P3 (t:=.int) (off:=0) (len:=dA.length) 3 rfl kr)).trans (Bc kr e50)) oM) Bg)))) (Gb (P0 h53)) kr (dz0 (oI 1648 18 y53.length) (Co (As kr) (tn_ (wr_ (Ab (Ao 34 (dsT 11 ?_))))))));obtain ⟨g55,h⟩:=Ak h;obtain ⟨y56,h56,h⟩:=Ah h;refine ds0 (.own (kid (oi 6 1) u9) .int dA.length (x50.length - dA.length)) (G5 (t:=.int) (i:=kid (oi 6 1) u9) (off:=0) (len:=x50.length) (l:=(dA.length:Int)) (h:=(x50.length:Int)) kr kr kr rfl g55 (Nat.zero_add _) oM) (My (oI 1856 32 y56.length) [nI 1856 32 y56] [ai bA,ai (wI (bC+bE)),tS dB,.own (kid (oi 6 1) u9) .int dA.length (x50.length - dA.length)] _ (caps:=[]) (args0:=[ai bA,ai (wI (bC+bE)),tS dB,tI (x50.drop dA.length)]) trivial (Al kr (Al kr (Al kr (Al (Aqc (e:=3) (u:=.int) (xs:=x50) ((Fj (P3 (t:=.int) (off:=dA.length) (len:=x50.length - dA.length) 3 rfl kr)).trans (Bc kr e50)) oM (by rw [List.take_of_length_le (by rw [List.length_drop];omega)])) Bg)))) (Gb (P0 h56)) kr (dz0 (oI 1856 32 y56.length) (Co (As kr) (tn_ (wr_ (Ao 47 (dsT 4 ?_)))))));obtain ⟨g57,h⟩:=Ak h;obtain ⟨y58,h58,h⟩:=Ah h;obtain ⟨g59,h⟩:=Ak h;obtain ⟨g60,h⟩:=Ak h;obtain ⟨g61,h⟩:=Ak h;refine ds0 (oI 1648 18 bB.toNat) (G5 (t:=.int) (i:=oi 1648 18) (off:=0) (len:=y53.length) (l:=0) (h:=bB) kr kr kr rfl g57 rfl oM) (My (oI 1952 39 y58.length) [nI 1952 39 y58] [oI 1648 18 bB.toNat] _ (caps:=[]) (args0:=[tI (y53.take bB.toNat)]) trivial (Al (Afz (e:=3) kr oM) Bg) (Gb (Jy h58)) kr (dz0 (oI 1856 32 y56.length) (dz0 (ai bC) (ds0 (.own (oi 1856 32) .int bC.toNat (((y56.length:Int) - bC).toNat)) (G5 (t:=.int) (i:=oi 1856 32) (off:=0) (len:=y56.length) (l:=bC) (h:=(y56.length:Int)) kr kr kr rfl g59 (Nat.zero_add _) oM) (ds2 (oI 1952 43 ((y58++((y56.drop bC.toNat).take (((y56.length:Int) - bC).toNat))).length)) (oi 1952 39) (oi 1952 43) (.arr 3 .int (y58++((y56.drop bC.toNat).take (((y56.length:Int) - bC).toNat)))) (P5 (t:=.int) (t':=.int) (xs:=y58) (ys:=(y56.drop bC.toNat).take (((y56.length:Int) - bC).toNat)) (zs:=y58++((y56.drop bC.toNat).take (((y56.length:Int) - bC).toNat))) (j:=oi 1952 39) (len:=y58.length) (c:=.own (oi 1856 32) .int bC.toNat (((y56.length:Int) - bC).toNat)) kr kr rfl kr (Av2 (e:=3) (t:=.int) (xs:=y56) kr oM rfl) rfl g60) (Alg (oS 127 44 1) (oi 127 44) (.vec 42 1 1 ([oI 1952 43 ((y58++((y56.drop bC.toNat).take (((y56.length:Int) - bC).toNat))).length)])) trivial (Dt kr) (dzV (oi 3 1) (oi 127 44) (oi 4 1) ua [oI 1952 43 ((y58++((y56.drop bC.toNat).take (((y56.length:Int) - bC).toNat))).length)] g61 (dz0 (oS 3 45 (ua.length+1)) (Co (As kr) (bn_ (tn_ ⟨_,El (e1:=42) (e:=3) (u:=.int) (n:=ua.length+1) (len:=(y58++((y56.drop bC.toNat).take (((y56.length:Int) - bC).toNat))).length) (row:=y58++((y56.drop bC.toNat).take (((y56.length:Int) - bC).toNat))) (ys:=y58++((y56.drop bC.toNat).take (((y56.length:Int) - bC).toNat))) (xss:=ua) 9000 (oi 3 45) (oi 4 1) (oi 1952 43) kr kr rfl kr kr (Nm rfl) (Nn rfl) kr kr kr,Aa 50 ?_⟩)))))))))));obtain ⟨g62,h⟩:=Ak h;refine zA g62 (rsT 1 (Ap (tn_ ?_)));obtain rfl:=zj h;exact jLw hn44 ((wL 14 ((by simp):ua.length+1=(ua++[y58++((y56.drop bC.toNat).take (((y56.length:Int) - bC).toNat))]).length)).trans (Ag [(oi 3 1,oi 3 45),(oi 4 1,oi 9000 47)]))
  have q47_:=of_decide_eq_false q47;refine lxT ?_;have h:=jO h hn44
  (try dsimp only at h);exact jE []
 intro uc h
 (try dsimp only at h);exact Ab (Aa 10 (rsT 6 (rcG h [ai bA,ai bB,ai bE,oS 3 1 uc.length] (fun h=>Fc hz_ (Qw h)) (Al kr (Al kr (Al kr (Al (La (p:=oi 4 1) (e1:=42) (e:=3) (u:=.int) (xss:=uc) kr (Cc kr) rfl) Bg)))) fun y64 h=>rsB 1 (rnW (Ac (jZ h [(true,[ai y64.1,ai y64.2.1,.ftr nz_ sI y64.2.2])] (Ea (Aw B2 (Aw B2 (Aw (Bp .ftr) Ee))) B8)))))))
def Kh (x12:List Int) (u1 u3:Int) (u0:Nat) (u2:List Int):Option (Ctl (Nat×List Int) (List Int)) :=
 cond (decide ((u0:Int)<(x12.length:Int)))
 (((x12[u0]?).bind fun x23 =>
  cond (decide ((u0:Int)<u1))
   ((u2[u0]?).bind fun x26 =>
   some (u2.set u0 x23))
   ((Cb u2 (wI ((wI (wI (u1+u3)+(u0:Int))) - u1))).bind fun x27 =>
   (Cb u2 (wI ((wI (wI (u1+u3)+(u0:Int))) - u1))).bind fun x28 =>
   some (u2.set ((wI ((wI (wI (u1+u3)+(u0:Int))) - u1)).toNat) x23))).bind fun u4 =>
 og (u0+1<4611686018427387904) <|
 some (Ctl.next (u0+1,u4)))
 (some (Ctl.out u2))
def Kl (u6:LL) (u0 u1:Int) (u2 u3:Int) (u4:Nat) (u5:LL):Option (Ctl (Nat×LL) (LL)) :=
 cond (decide ((u4:Int)<(u6.length:Int)))
 (((u6[u4]?).bind fun x12 =>
  og (0<=wI (wI (u0+u1)+wI (u2+u3))/\wI (wI (u0+u1)+wI (u2+u3))<=wI (wI (u0+u1)+wI (u2+u3))/\wI (wI (u0+u1)+wI (u2+u3))<=1073741824/\(8:Int)*(wI (wI (u0+u1)+wI (u2+u3)))<=140737488355328) <|
  (Aq (fun s_:Nat×List Int=>Kh x12 u0 u1 s_.1 s_.2) 4611686018427387904 (0,List.replicate ((wI (wI (u0+u1)+wI (u2+u3))).toNat) (0:Int))).bind fun u7 =>
  og (u5.length+1<=1073741824/\(u5.length+1)*24<=140737488355328) <|
  some (u5++[u7])).bind fun u8 =>
 og (u4+1<4611686018427387904) <|
 some (Ctl.next (u4+1,u8)))
 (some (Ctl.out u5))
def Kj (x40:List Int) (u1 u3 u4:Int) (u0:Nat) (u2:List Int):Option (Ctl (Nat×List Int) (List Int)) :=
 cond (decide ((u0:Int)<(x40.length:Int)))
 (((x40[u0]?).bind fun x51 =>
  cond (decide ((u0:Int)<u1))
   ((Cb u2 (wI (u3+(u0:Int)))).bind fun x54 =>
   (Cb u2 (wI (u3+(u0:Int)))).bind fun x55 =>
   some (u2.set ((wI (u3+(u0:Int))).toNat) x51))
   ((Cb u2 (wI ((wI (wI (wI (u3+u1)+u4)+(u0:Int))) - u1))).bind fun x56 =>
   (Cb u2 (wI ((wI (wI (wI (u3+u1)+u4)+(u0:Int))) - u1))).bind fun x57 =>
   some (u2.set ((wI ((wI (wI (wI (u3+u1)+u4)+(u0:Int))) - u1)).toNat) x51))).bind fun u5 =>
 og (u0+1<4611686018427387904) <|
 some (Ctl.next (u0+1,u5)))
 (some (Ctl.out u2))
def Ka (u6:LL) (u0 u1:Int) (u2 u3:Int) (u4:Nat) (u5:LL):Option (Ctl (Nat×LL) (LL)) :=
 cond (decide ((u4:Int)<(u6.length:Int)))
 (((u6[u4]?).bind fun x40 =>
  og (0<=wI (wI (u0+u1)+wI (u2+u3))/\wI (wI (u0+u1)+wI (u2+u3))<=wI (wI (u0+u1)+wI (u2+u3))/\wI (wI (u0+u1)+wI (u2+u3))<=1073741824/\(8:Int)*(wI (wI (u0+u1)+wI (u2+u3)))<=140737488355328) <|
  (Aq (fun s_:Nat×List Int=>Kj x40 u1 u0 u2 s_.1 s_.2) 4611686018427387904 (0,List.replicate ((wI (wI (u0+u1)+wI (u2+u3))).toNat) (0:Int))).bind fun u7 =>
  og (u5.length+1<=1073741824/\(u5.length+1)*24<=140737488355328) <|
  some (u5++[u7])).bind fun u8 =>
 og (u4+1<4611686018427387904) <|
 some (Ctl.next (u4+1,u8)))
 (some (Ctl.out u5))
def Gy (a0 u0 u1:Int) (u4:LL) (u2 u3:Int) (u5:LL):Option (Int×Int×LL) :=
 (Aq (fun s_:Nat×LL=>Kl u4 u0 u2 u1 u3 s_.1 s_.2) 4611686018427387904 (0,([]:LL))).bind fun u6 =>
(Aq (fun s_:Nat×LL=>Ka u5 u0 u2 u1 u3 s_.1 s_.2) 4611686018427387904 (0,u6)).bind fun u7 =>
(Ko a0 (wI (u0+u2)) (wI (u1+u3)) u7).bind fun y62 =>
some (y62.1,y62.2.1,y62.2.2)
theorem Wo (h:Gy bA bB bC dA bD bE dB=some pA):cK 97 [ai bA,.agg [ai bB,ai bC,tS dA],.agg [ai bD,ai bE,tS dB]] (Ck pA):=by
 refine cZ Tryz.func97 fun zn_ nz_ hz_=>Ae (Ab (Ao 16 (dsT 12 (Co (As kr) (tn_ (wr_ (Ae (sqF h (fun uh=>sT [(0,ai bA),(4,.box (oi 0 1) 0),(5,.box (oi 1 1) 0),(6,.box (oi 2 1) 0),(7,ai (wI (bB+bD))),(8,ai (wI (bC+bE))),(9,oS 3 1 uh.length)] [(oi 0 1,.cells 36 [ai bB,ai bC,tS dA]),(oi 1 1,.cells 36 [ai bD,ai bE,tS dB]),(oi 2 1,.cells 36 [ai 0,ai 0,.nils]),(oi 3 1,.mat 42 (oi 4 1) .int uh),(oi 4 1,.pool 3 .int uh)]) ?_ ?_))))))))
 ·intro _ h;refine Ae (Ad (lpF h (fun (ue,u6)=>sT [(0,ai bA),(4,.box (oi 0 1) 0),(5,.box (oi 1 1) 0),(6,.box (oi 2 1) 0),(7,ai (wI (bB+bD))),(8,ai (wI (bC+bE))),(9,oS 3 1 u6.length),(31,tS dA),(32,an dA.length),(33,an ue)] [(oi 0 1,.cells 36 [ai bB,ai bC,tS dA]),(oi 1 1,.cells 36 [ai bD,ai bE,tS dB]),(oi 2 1,.cells 36 [ai 0,ai 0,.nils]),(oi 3 1,.mat 42 (oi 4 1) .int u6),(oi 4 1,.pool 3 .int u6)]) ((Og 9 42 sI kr).trans ((Ex (e1:=42) (n:=0) 9000 (oi 9 21) 3 .int kr kr rfl kr kr).trans (Ag [(oi 0 1,oi 4 1),(oi 1 1,oi 5 2),(oi 2 1,oi 6 3),(oi 3 1,oi 9 21),(oi 4 1,oi 9000 22)]))) ?_));rintro n_ ⟨ue,u6⟩ c_ h hn6;refine Ae (Ab (kQ h (fun _ h=>skW (sqF h (fun ui=>sT [(0,ai bA),(4,.box (oi 0 1) 0),(5,.box (oi 1 1) 0),(6,.box (oi 2 1) 0),(7,ai (wI (bB+bD))),(8,ai (wI (bC+bE))),(9,oS 3 1 ui.length),(31,tS dA),(32,an dA.length),(33,an ue)] [(oi 0 1,.cells 36 [ai bB,ai bC,tS dA]),(oi 1 1,.cells 36 [ai bD,ai bE,tS dB]),(oi 2 1,.cells 36 [ai 0,ai 0,.nils]),(oi 3 1,.mat 42 (oi 4 1) .int ui),(oi 4 1,.pool 3 .int ui)]) ?_ fun ui h=>Aa 4 (raH h fun h=>rsT 1 (Ap (tn_ (jL [])))))) fun _ h=>lxT (have h:=jO h hn6;jE [])));intro _ h;refine Ad (Ab (Aa 6 (riH sI h fun x12 _ h=>rsT 2 (rnW (Ab (Aa 11 (rsT 3 ?_)))))));obtain ⟨g14,h⟩:=Ak h;refine rs1 (oI 40 9 ((wI (wI (bB+bD)+wI (bC+bE))).toNat)) (oi 40 9) (.arr 3 .int (List.replicate ((wI (wI (bB+bD)+wI (bC+bE))).toNat) (0:Int))) (Ot (t:=.int) (k:=.i64) (k':=.i64) (m:=wI (wI (bB+bD)+wI (bC+bE))) (m':=wI (wI (bB+bD)+wI (bC+bE))) kr kr g14 rfl) (rsT 1 (rnW (sqF h (fun ua=>sT [(0,ai bA),(4,.box (oi 0 1) 0),(5,.box (oi 1 1) 0),(6,.box (oi 2 1) 0),(7,ai (wI (bB+bD))),(8,ai (wI (bC+bE))),(9,oS 3 1 u6.length),(12,oI 5 1 ua.length),(31,tS dA),(32,an dA.length),(33,an ue)] [(oi 0 1,.cells 36 [ai bB,ai bC,tS dA]),(oi 1 1,.cells 36 [ai bD,ai bE,tS dB]),(oi 2 1,.cells 36 [ai 0,ai 0,.nils]),(oi 3 1,.mat 42 (oi 4 1) .int u6),(oi 4 1,.pool 3 .int u6),(oi 5 1,.arr 3 .int ua)]) ?_ ?_)))
  ·intro _ h;refine Ae (Ad (lpF h (fun (ud,u8)=>sT [(0,ai bA),(4,.box (oi 0 1) 0),(5,.box (oi 1 1) 0),(6,.box (oi 2 1) 0),(7,ai (wI (bB+bD))),(8,ai (wI (bC+bE))),(9,oS 3 1 u6.length),(12,oI 5 1 u8.length),(31,tS dA),(32,an dA.length),(33,an ue),(41,tI x12),(42,an x12.length),(43,an ud)] [(oi 0 1,.cells 36 [ai bB,ai bC,tS dA]),(oi 1 1,.cells 36 [ai bD,ai bE,tS dB]),(oi 2 1,.cells 36 [ai 0,ai 0,.nils]),(oi 3 1,.mat 42 (oi 4 1) .int u6),(oi 4 1,.pool 3 .int u6),(oi 5 1,.arr 3 .int u8)]) ((wL 12 (List.length_replicate.symm:(wI (wI (bB+bD)+wI (bC+bE))).toNat=(List.replicate ((wI (wI (bB+bD)+wI (bC+bE))).toNat) (0:Int)).length)).trans (Ag [(oi 5 1,oi 40 9)])) ?_));rintro n_ ⟨ud,u8⟩ c_ h hn17;refine Ae (Ab (kQ h (fun _ h=>skW (sqF h (fun uk=>sT [(0,ai bA),(4,.box (oi 0 1) 0),(5,.box (oi 1 1) 0),(6,.box (oi 2 1) 0),(7,ai (wI (bB+bD))),(8,ai (wI (bC+bE))),(9,oS 3 1 u6.length),(12,oI 5 1 uk.length),(31,tS dA),(32,an dA.length),(33,an ue),(41,tI x12),(42,an x12.length),(43,an ud)] [(oi 0 1,.cells 36 [ai bB,ai bC,tS dA]),(oi 1 1,.cells 36 [ai bD,ai bE,tS dB]),(oi 2 1,.cells 36 [ai 0,ai 0,.nils]),(oi 3 1,.mat 42 (oi 4 1) .int u6),(oi 4 1,.pool 3 .int u6),(oi 5 1,.arr 3 .int uk)]) ?_ fun uk h=>Aa 4 (raH h fun h=>rsT 1 (Ap (tn_ (jL [])))))) fun _ h=>lxT (have h:=jO h hn17;jE [])));intro _ h;refine Ad (Ab (Aa 8 (rsT 1 (riH .int h fun x23 _ h=>rsT 3 (rnW (Ae (kQ h (fun _ h=>?_) fun _ h=>?_)))))))
   ·refine Aa 17 (rsT 3 ?_);obtain ⟨x26,e26,h⟩:=Ah h;refine zO (oi 5 1) .int u8.length (Ai e26) (zS (oi 5 1) (x23) e26 (Ap (bn_ (tn_ ?_))));obtain rfl:=zj h;exact (wL 12 (((rfl:u8.length=u8.length).trans List.length_set.symm):u8.length=(u8.set ud x23).length)).trans (Ag [])
   refine Aa 22 (rsT 8 ?_);obtain ⟨x27,f27,h⟩:=Ah h;obtain ⟨p27,b27,e27⟩:=Ar f27;refine rs0 (.elt (oi 5 1) ((wI ((wI (wI (bB+bD)+(ud:Int))) - bB)).toNat) 0) (zo (t:=.int) (o:=oi 5 1) (len:=u8.length) (k:=.i64) (m:=wI ((wI (wI (bB+bD)+(ud:Int))) - bB)) p27 (Ai e27)) ?_;obtain ⟨x28,f28,h⟩:=Ah h;obtain ⟨p28,b28,e28⟩:=Ar f28;refine zS (oi 5 1) (x23) e28 (Ap (bn_ (tn_ ?_)));obtain rfl:=zj h;exact (wL 12 (((rfl:u8.length=u8.length).trans List.length_set.symm):u8.length=(u8.set ((wI ((wI (wI (bB+bD)+(ud:Int))) - bB)).toNat) x23).length)).trans (Ag [])
  intro ua h;refine Aa 7 (rsT 2 (Lq (oS 68 4 1) (oi 68 4) (.vec 42 1 1 ([oI 5 1 ua.length])) trivial (Dt kr) ?_));obtain ⟨g30,h⟩:=Ak h;refine zV (oi 3 1) (oi 68 4) (oi 4 1) u6 [oI 5 1 ua.length] g30 (rsT 1 (Ap (bn_ (tn_ ?_))));obtain rfl:=zj h;exact (El (e1:=42) (e:=3) (u:=.int) (n:=u6.length+1) (len:=ua.length) (row:=ua) (ys:=ua) (xss:=u6) 9000 (oi 3 5) (oi 4 1) (oi 5 1) kr kr rfl kr kr (Nm rfl) (Nn rfl) kr kr kr).trans ((wL 9 ((by simp):u6.length+1=(u6++[ua]).length)).trans (Ag [(oi 3 1,oi 3 5),(oi 4 1,oi 9000 7)]))
 intro uh h;refine sqF h (fun uf=>sT [(0,ai bA),(6,.box (oi 0 1) 0),(7,ai (wI (bB+bD))),(8,ai (wI (bC+bE))),(9,oS 1 1 uf.length)] [(oi 0 1,.cells 36 [ai 0,ai 0,.nils]),(oi 1 1,.mat 42 (oi 2 1) .int uf),(oi 2 1,.pool 3 .int uf)]) ?_ fun uf h=>Ab (Aa 8 (rsT 4 (rcG h [ai bA,ai (wI (bB+bD)),ai (wI (bC+bE)),oS 1 1 uf.length] (fun h=>Fc hz_ (Qw h)) (Al kr (Al kr (Al kr (Al (La (p:=oi 2 1) (e1:=42) (e:=3) (u:=.int) (xss:=uf) kr (Cc kr) rfl) Bg)))) fun y62 h=>rsB 1 (rnW (Ac (jZ h [(true,[ai y62.1,ai y62.2.1,.ftr nz_ sI y62.2.2])] (Ea (Aw B2 (Aw B2 (Aw (Bp .ftr) Ee))) B8)))))))
 intro _ h;refine Ae (Ad (lpF h (fun (ug,u7)=>sT [(0,ai bA),(4,.box (oi 0 1) 0),(5,.box (oi 1 1) 0),(6,.box (oi 2 1) 0),(7,ai (wI (bB+bD))),(8,ai (wI (bC+bE))),(9,oS 3 1 u7.length),(72,tS dB),(73,an dB.length),(74,an ug)] [(oi 0 1,.cells 36 [ai bB,ai bC,tS dA]),(oi 1 1,.cells 36 [ai bD,ai bE,tS dB]),(oi 2 1,.cells 36 [ai 0,ai 0,.nils]),(oi 3 1,.mat 42 (oi 4 1) .int u7),(oi 4 1,.pool 3 .int u7)]) (Ag []) ?_));rintro n_ ⟨ug,u7⟩ c_ h hn34;refine Ae (Ab (kQ h (fun _ h=>skW (sqF h (fun uj=>sT [(0,ai bA),(4,.box (oi 0 1) 0),(5,.box (oi 1 1) 0),(6,.box (oi 2 1) 0),(7,ai (wI (bB+bD))),(8,ai (wI (bC+bE))),(9,oS 3 1 uj.length),(72,tS dB),(73,an dB.length),(74,an ug)] [(oi 0 1,.cells 36 [ai bB,ai bC,tS dA]),(oi 1 1,.cells 36 [ai bD,ai bE,tS dB]),(oi 2 1,.cells 36 [ai 0,ai 0,.nils]),(oi 3 1,.mat 42 (oi 4 1) .int uj),(oi 4 1,.pool 3 .int uj)]) ?_ fun uj h=>Aa 4 (raH h fun h=>rsT 1 (Ap (tn_ (jL [])))))) fun _ h=>lxT (have h:=jO h hn34;jE [(oi 0 1,oi 2 1),(oi 1 1,oi 3 1),(oi 2 1,oi 4 1)])));intro _ h;refine Ad (Ab (Aa 6 (riH sI h fun x40 _ h=>rsT 2 (rnW (Ab (Aa 11 (rsT 3 ?_)))))));obtain ⟨g42,h⟩:=Ak h;refine rs1 (oI 81 9 ((wI (wI (bB+bD)+wI (bC+bE))).toNat)) (oi 81 9) (.arr 3 .int (List.replicate ((wI (wI (bB+bD)+wI (bC+bE))).toNat) (0:Int))) (Ot (t:=.int) (k:=.i64) (k':=.i64) (m:=wI (wI (bB+bD)+wI (bC+bE))) (m':=wI (wI (bB+bD)+wI (bC+bE))) kr kr g42 rfl) (rsT 1 (rnW (sqF h (fun ub=>sT [(0,ai bA),(4,.box (oi 0 1) 0),(5,.box (oi 1 1) 0),(6,.box (oi 2 1) 0),(7,ai (wI (bB+bD))),(8,ai (wI (bC+bE))),(9,oS 3 1 u7.length),(17,oI 5 1 ub.length),(72,tS dB),(73,an dB.length),(74,an ug)] [(oi 0 1,.cells 36 [ai bB,ai bC,tS dA]),(oi 1 1,.cells 36 [ai bD,ai bE,tS dB]),(oi 2 1,.cells 36 [ai 0,ai 0,.nils]),(oi 3 1,.mat 42 (oi 4 1) .int u7),(oi 4 1,.pool 3 .int u7),(oi 5 1,.arr 3 .int ub)]) ?_ ?_)))
 ·intro _ h;refine Ae (Ad (lpF h (fun (uc,u9)=>sT [(0,ai bA),(4,.box (oi 0 1) 0),(5,.box (oi 1 1) 0),(6,.box (oi 2 1) 0),(7,ai (wI (bB+bD))),(8,ai (wI (bC+bE))),(9,oS 3 1 u7.length),(17,oI 5 1 u9.length),(72,tS dB),(73,an dB.length),(74,an ug),(82,tI x40),(83,an x40.length),(84,an uc)] [(oi 0 1,.cells 36 [ai bB,ai bC,tS dA]),(oi 1 1,.cells 36 [ai bD,ai bE,tS dB]),(oi 2 1,.cells 36 [ai 0,ai 0,.nils]),(oi 3 1,.mat 42 (oi 4 1) .int u7),(oi 4 1,.pool 3 .int u7),(oi 5 1,.arr 3 .int u9)]) ((wL 17 (List.length_replicate.symm:(wI (wI (bB+bD)+wI (bC+bE))).toNat=(List.replicate ((wI (wI (bB+bD)+wI (bC+bE))).toNat) (0:Int)).length)).trans (Ag [(oi 5 1,oi 81 9)])) ?_));rintro n_ ⟨uc,u9⟩ c_ h hn45;refine Ae (Ab (kQ h (fun _ h=>skW (sqF h (fun ul=>sT [(0,ai bA),(4,.box (oi 0 1) 0),(5,.box (oi 1 1) 0),(6,.box (oi 2 1) 0),(7,ai (wI (bB+bD))),(8,ai (wI (bC+bE))),(9,oS 3 1 u7.length),(17,oI 5 1 ul.length),(72,tS dB),(73,an dB.length),(74,an ug),(82,tI x40),(83,an x40.length),(84,an uc)] [(oi 0 1,.cells 36 [ai bB,ai bC,tS dA]),(oi 1 1,.cells 36 [ai bD,ai bE,tS dB]),(oi 2 1,.cells 36 [ai 0,ai 0,.nils]),(oi 3 1,.mat 42 (oi 4 1) .int u7),(oi 4 1,.pool 3 .int u7),(oi 5 1,.arr 3 .int ul)]) ?_ fun ul h=>Aa 4 (raH h fun h=>rsT 1 (Ap (tn_ (jL [])))))) fun _ h=>lxT (have h:=jO h hn45;jE [])));intro _ h;refine Ad (Ab (Aa 8 (rsT 1 (riH .int h fun x51 _ h=>rsT 3 (rnW (Ae (kQ h (fun _ h=>?_) fun _ h=>?_)))))))
  ·refine Aa 20 (rsT 6 ?_);obtain ⟨x54,f54,h⟩:=Ah h;obtain ⟨p54,b54,e54⟩:=Ar f54;refine rs0 (.elt (oi 5 1) ((wI (bB+(uc:Int))).toNat) 0) (zo (t:=.int) (o:=oi 5 1) (len:=u9.length) (k:=.i64) (m:=wI (bB+(uc:Int))) p54 (Ai e54)) ?_;obtain ⟨x55,f55,h⟩:=Ah h;obtain ⟨p55,b55,e55⟩:=Ar f55;refine zS (oi 5 1) (x51) e55 (Ap (bn_ (tn_ ?_)));obtain rfl:=zj h;exact (wL 17 (((rfl:u9.length=u9.length).trans List.length_set.symm):u9.length=(u9.set ((wI (bB+(uc:Int))).toNat) x51).length)).trans (Ag [])
  refine Aa 25 (rsT 11 ?_);obtain ⟨x56,f56,h⟩:=Ah h;obtain ⟨p56,b56,e56⟩:=Ar f56;refine rs0 (.elt (oi 5 1) ((wI ((wI (wI (wI (bB+bD)+bC)+(uc:Int))) - bD)).toNat) 0) (zo (t:=.int) (o:=oi 5 1) (len:=u9.length) (k:=.i64) (m:=wI ((wI (wI (wI (bB+bD)+bC)+(uc:Int))) - bD)) p56 (Ai e56)) ?_;obtain ⟨x57,f57,h⟩:=Ah h;obtain ⟨p57,b57,e57⟩:=Ar f57;refine zS (oi 5 1) (x51) e57 (Ap (bn_ (tn_ ?_)));obtain rfl:=zj h;exact (wL 17 (((rfl:u9.length=u9.length).trans List.length_set.symm):u9.length=(u9.set ((wI ((wI (wI (wI (bB+bD)+bC)+(uc:Int))) - bD)).toNat) x51).length)).trans (Ag [])
 intro ub h;refine Aa 7 (rsT 2 (Lq (oS 115 4 1) (oi 115 4) (.vec 42 1 1 ([oI 5 1 ub.length])) trivial (Dt kr) ?_));obtain ⟨g59,h⟩:=Ak h;refine zV (oi 3 1) (oi 115 4) (oi 4 1) u7 [oI 5 1 ub.length] g59 (rsT 1 (Ap (bn_ (tn_ ?_))));obtain rfl:=zj h;exact (El (e1:=42) (e:=3) (u:=.int) (n:=u7.length+1) (len:=ub.length) (row:=ub) (ys:=ub) (xss:=u7) 9000 (oi 3 5) (oi 4 1) (oi 5 1) kr kr rfl kr kr (Nm rfl) (Nn rfl) kr kr kr).trans ((wL 9 ((by simp):u7.length+1=(u7++[ub]).length)).trans (Ag [(oi 3 1,oi 3 5),(oi 4 1,oi 9000 7)]))
end Go.Proofs.YtopjojkjaklalaaGreatDoor


namespace Go.Proofs.YtopjojkjaklalaaGreatDoor
open Go.RowKit Go.Deep
set_option maxRecDepth 4000
set_option maxHeartbeats 4800000
variable {dA dB:LL} {aA aB aC:List Int} {bA bB bC bD:Int} {cA:Bool} {qA:List (Int×Int×(List Int)×List Int)} {rA:List Int×List Int} {sA:Int×(List (Int×Int×(List Int)×List Int))×List Int×List Int} {gA:ByteArray}
def Gn (a0:LL) (a1:List Int) (u0:Nat) (u1:List Int):Option (Ctl (Nat×List Int) (List Int)) :=
 cond (decide ((u0:Int)<(a0.length:Int)))
 ((a0[u0]?).bind fun x11 =>
 (Hb x11).bind fun y12 =>
 (Cb a1 y12).bind fun x13 =>
 og (u1.length+1<=1073741824/\(u1.length+1)*8<=140737488355328) <|
 og (u0+1<4611686018427387904) <|
 some (Ctl.next (u0+1,u1++([x13]))))
 (some (Ctl.out u1))
def J1 (a0:LL) (a1:List Int):Option (List Int) :=
 (Aq (fun s_:Nat×List Int=>Gn a0 a1 s_.1 s_.2) 4611686018427387904 (0,[])).bind fun u0 =>
some u0
theorem Wr (h:J1 dA aA=some aB):cK 94 [tS dA,tI aA] (Bs aB):=by
 refine cO Tryz.func94 (Ae (Ae (sqF h (fun u0=>sT [(5,oI 0 1 u0.length)] [(oi 0 1,.arr 3 .int u0)]) ?_ fun u0 h=>Ae (Ac (jR h [oI 0 1 u0.length] (Db rfl (Cv kr rfl) E6))))));intro _ h;refine Ae (Ad (lpF h (fun (u2,u1)=>sT [(1,tI aA),(5,oI 0 1 u1.length),(8,tS dA),(9,an dA.length),(10,an u2)] [(oi 0 1,.arr 3 .int u1)]) ((Aew 5 3 .int rfl kr).trans (Ag [(oi 0 1,oi 5 6)])) ?_));rintro n_ ⟨u2,u1⟩ c_ h hn5;refine Ae (Ab (kQ h (fun _ h=>skW (Ab (Ad (Ab (Aa 6 (riH sI h fun x11 _ h=>rsT 2 (rnW (Aa 15 (rsT 3 (rcH h N5 fun y12 h=>?_)))))))))) fun _ h=>lxT (have h:=jO h hn5;jE [])));obtain ⟨x13,f13,h⟩:=Ah h;obtain ⟨p13,b13,e13⟩:=Ar f13;refine rs0 (.telt none .int x13 0) (zi (t:=.int) (xs:=aA) (k:=.i64) (m:=y12) p13 e13) (rsB 2 ?_);obtain ⟨g14,h⟩:=Ak h;exact zB (oi 0 1) (oi 20 12) u1 (x13) g14 (rsT 1 (Ap (bn_ (tn_ (wr_ (Aa 17 (raH h fun h=>rsT 1 (Ap (tn_ (jL [(oi 0 1,oi 0 13)]))))))))))
def Nv (a0:Int) (a1:LL) (a2:List Int):Option Bool :=
 (J1 a1 a2).bind fun y3 =>
(I4 a0 (a2.length:Int) a1 y3).bind fun y4 =>
(Js y4 a2).bind fun y5 =>
some y5
theorem Adr (h:Nv bA dA aA=some cA):cK 56 [ai bA,tS dA,tI aA] (An cA):=by
 exact cO Tryz.func56 (Ae (Ab (Aa 13 (rsT 6 (rcH h Wr fun y3 h=>rcG h [ai bA,an aA.length,tS dA,oI 208 8 y3.length] P0 (Al kr (Al kr (Al kr (Al (Bl (e:=3) kr rfl) Bg)))) fun y4 h=>rsT 1 (rcG h [oI 224 9 y4.length,tI aA] Sr (Al (Bl (e:=3) kr rfl) (Al kr Bg)) fun y5 h=>rsT 1 (rnW (Ac (jS h)))))))))
def Fm (a1:LL) (a0:Int) (a2:LL) (u0:Nat):Option (Ctl Nat (Ctl Unit (List Int))) :=
 cond (decide ((u0:Int)<(a1.length:Int)))
 ((a1[u0]?).bind fun x10 =>
 (Nv a0 a2 x10).bind fun y12 =>
 cond (!y12)
  (some (Ctl.out (Ctl.out x10)))
  (og (u0+1<4611686018427387904) <|
  some (Ctl.next (u0+1))))
 (some (Ctl.out (Ctl.next ())))
def F9 (a0:Int) (a1 a2:LL):Option (List Int) :=
 Di (Aq (fun s_:Nat=>Fm a1 a0 a2 s_) 4611686018427387904 0) fun _ =>
some []
def V0 (r:List Int):RV:=⟨false,[(false,[.imm (tI r)])]⟩
theorem Wj (h:F9 bA dA dB=some aA):cK 27 [ai bA,tS dA,tS dB] (V0 aA):=by
 exact Ait kr Tryz.func27 (B6 kr) (fun nz_=>[ai bA,.ftr nz_ sI dA,.ftr nz_ sI dB]) (n:=22) kr (fun _=>by simp) (fun _=>⟨_,_,rfl,⟨rfl,rfl⟩,⟨_,_,rfl,rfl,⟨_,_,rfl,rfl,rfl⟩⟩⟩) (tl:=fun nz_=>[(0,ai bA),(1,.ftr nz_ sI dA),(2,.ftr nz_ sI dB)]) (fun _=>rfl) fun zn_ nz_ hz_=>Ae (sqC h (fun _=>sT [] []) (fun _ h hk2=>Ae (Ad (lpF h (fun u0=>sT [(0,ai bA),(2,.ftr nz_ sI dB),(9,.ftr nz_ sI dA),(10,an dA.length),(11,an u0)] []) (Ag []) (fun n_ u0 c_ h hn4=>Ae (Ab (kQ h (fun _ h=>skW (Ab (Ad (Ab (Aa 6 (riH sI h fun x10 _ h=>rsT 2 (rnW (Ab (Aa 11 (rsT 3 (rcH h (fun h=>Gb (Adr h)) fun y12 h=>rsT 1 (rnW (kQ h (fun _ h=>Ae (Ac (br_ (tr_ (tr_ (br_ (tr_ (have h:=jO h hn4;(have h:=jO h hk2;jZ h [(false,[.ftr nz_ .int x10])] (Ji (Bp .ftr) B8)))))))))) fun _ h=>Az (bn_ (tn_ (wr_ (Aa 13 (raH h fun h=>rsT 1 (Ap (tn_ (jL []))))))))))))))))))))) fun _ h=>lxT (have h:=jO h hn4;jC []))))))) fun _ h=>Ae (Ac (jZ h [(false,[.nils])] (Ji (Bp (t:=.int) (xs:=[]) .nil) B8))))
def Tv (u0 u3:Int) (u1 u2:List Int) (a1:Int):Option Bool :=
 ((B7 u0 3 14).bind fun y4 =>
 cond (!y4)
  (some true)
  ((Jw u0 u3 (⟨#[]⟩:ByteArray)).bind fun y6 =>
  some (!y6))).bind fun u4 =>
cond u4
 (some false)
 ((G7 u0).bind fun y10 =>
 (cond ((u1.length:Int)==y10.1)
   (cond ((u2.length:Int)==y10.2)
    ((Fa u1 0 (wI (a1 - 1))).bind fun y14 =>
    cond y14
     ((Fa u2 0 (wI (a1 - 1))).bind fun y16 =>
     some y16)
     (some false))
    (some false))
   (some false)).bind fun u5 =>
 some u5)
theorem Ab7 (h:Tv bA bB aA aB bC=some cA):cK 168 [.agg [ai bA,ai bB,tI aA,tI aB],ai bC] (An cA):=by
 refine cO Tryz.func168 (Ae (Ab (sqF h (fun u4=>sT [(1,ai bC),(2,.box (oi 0 1) 0),(19,.bool u4)] [(oi 0 1,.cells 206 [ai bA,ai bB,tI aA,tI aB])]) ?_ ?_)))
 ·intro _ h;refine Aa 16 (rsT 2 (rcH h Cl fun y4 h=>rsT 2 ?_));rcases A0 h with ⟨q5,h⟩|⟨q5,h⟩
  ·exact rq 11 q5 (rsT 8 (Ap (tn_ (jE [(oi 0 1,oi 2 1)]))))
  exact rq 11 q5 (rsT 5 (rcH h Rt fun y6 h=>rsT 2 (Ap (tn_ (jE [(oi 0 1,oi 2 1)])))))
 intro u4 h;refine kQ h (fun _ h=>Ae (Ac (tr_ (jS h)))) fun _ h=>skW (Ab (Aa 10 (rsT 2 (rcH h N6 fun y10 h=>rsT 5 (rnW (sqF h (fun u5=>sT [(4,.bool u5)] []) ?_ fun u5 h=>Ac (jS h)))))))
 intro _ h;refine Aa 37 (rsT 6 (kR h 31 (fun _ h=>rsT 7 ?_) fun _ h=>rsT 21 (Ap (tn_ (jE [])))));rcases A0 h with ⟨q13,h⟩|⟨q13,h⟩
 ·refine rq 38 q13 (rsT 4 (rcH h Jm fun y14 h=>rsT 2 ?_));rcases A0 h with ⟨q15,h⟩|⟨q15,h⟩
  ·exact rq 45 q15 (rsT 4 (rcH h Jm fun y16 h=>rsT 2 (Ap (tn_ (jE [])))))
  exact rq 45 q15 (rsT 7 (Ap (tn_ (jE []))))
 exact rq 38 q13 (rsT 14 (Ap (tn_ (jE []))))
def U3 (u2:List Int) (u0:Nat) (u1:List Int):Option (Ctl (Nat×List Int) (List Int)) :=
 cond (decide ((u0:Int)<(u2.length:Int)))
 ((u2[u0]?).bind fun x14 =>
 (Cb u1 x14).bind fun x15 =>
 og (u0+1<4611686018427387904) <|
 some (Ctl.next (u0+1,u1.set x14.toNat (wI (x15+1)))))
 (some (Ctl.out u1))
def Uj (u2:List Int) (u0:Nat) (u1:List Int):Option (Ctl (Nat×List Int) (List Int)) :=
 cond (decide ((u0:Int)<(u2.length:Int)))
 ((u2[u0]?).bind fun x25 =>
 (Cb u1 x25).bind fun x26 =>
 og (u0+1<4611686018427387904) <|
 some (Ctl.next (u0+1,u1.set x25.toNat (wI (x26+1)))))
 (some (Ctl.out u1))
def T5 (x36:Int×Int×(List Int)×List Int) (u0:Nat) (u1:List Int):Option (Ctl (Nat×List Int) (List Int)) :=
 cond (decide ((u0:Int)<(x36.2.2.2.length:Int)))
 ((x36.2.2.2[u0]?).bind fun x45 =>
 (Cb u1 x45).bind fun x46 =>
 og (u0+1<4611686018427387904) <|
 some (Ctl.next (u0+1,u1.set x45.toNat (wI (x46+1)))))
 (some (Ctl.out u1))
def Uh (x36:Int×Int×(List Int)×List Int) (u2:List Int) (u0:Nat) (u1:List Int):Option (Ctl (Nat×List Int) (List Int×List Int)) :=
 cond (decide ((u0:Int)<(x36.2.2.1.length:Int)))
 ((x36.2.2.1[u0]?).bind fun x55 =>
 (Cb u1 x55).bind fun x56 =>
 og (u0+1<4611686018427387904) <|
 some (Ctl.next (u0+1,u1.set x55.toNat (wI (x56+1)))))
 (some (Ctl.out (u2,u1)))
def Uy (u1:List (Int×Int×(List Int)×List Int)) (u0:Nat) (u2 u3:List Int):Option (Ctl (Nat×List Int×List Int) (List Int×List Int)) :=
 cond (decide ((u0:Int)<(u1.length:Int)))
 (((u1[u0]?).bind fun x36 =>
  (Aq (fun s_:Nat×List Int=>T5 x36 s_.1 s_.2) 4611686018427387904 (0,u2)).bind fun u4 =>
  Aq (fun s_:Nat×List Int=>Uh x36 u4 s_.1 s_.2) 4611686018427387904 (0,u3)).bind fun (u5,u6) =>
 og (u0+1<4611686018427387904) <|
 some (Ctl.next (u0+1,u5,u6)))
 (some (Ctl.out (u2,u3)))
def Rb (u0:Int) (u1:List (Int×Int×(List Int)×List Int)) (u2 u3:List Int):Option (List Int×List Int) :=
 og (0<=u0/\u0<=u0/\u0<=1073741824/\(8:Int)*u0<=140737488355328) <|
og (0<=u0/\u0<=u0/\u0<=1073741824/\(8:Int)*u0<=140737488355328) <|
(Aq (fun s_:Nat×List Int=>U3 u2 s_.1 s_.2) 4611686018427387904 (0,List.replicate u0.toNat (0:Int))).bind fun u4 =>
(Aq (fun s_:Nat×List Int=>Uj u3 s_.1 s_.2) 4611686018427387904 (0,List.replicate u0.toNat (0:Int))).bind fun u5 =>
(Aq (fun s_:Nat×List Int×List Int=>Uy u1 s_.1 s_.2.1 s_.2.2) 4611686018427387904 (0,u4,u5)).bind fun (u6,u7) =>
some (u6,u7)
def W4 (r:List Int×List Int):RV:=⟨true,[(false,[.new 3 .int r.1]),(false,[.new 3 .int r.2])]⟩
theorem Xc (h:Rb bA qA aA aB=some rA):cK 169 [.agg [ai bA,.tree Yb qA,tI aA,tI aB]] (W4 rA):=by
 refine cO Tryz.func169 (Ae (Ab (Aa 8 (rsT 2 ?_))));obtain ⟨g3,h⟩:=Ak h;refine rs1 (oI 18 6 bA.toNat) (oi 18 6) (.arr 3 .int (List.replicate bA.toNat (0:Int))) (Ot (t:=.int) (k:=.i64) (k':=.i64) (m:=bA) (m':=bA) kr kr g3 rfl) (rsT 1 (rnW (Ab (Aa 12 (rsT 2 ?_)))));obtain ⟨g5,h⟩:=Ak h;refine rs1 (oI 21 10 bA.toNat) (oi 21 10) (.arr 3 .int (List.replicate bA.toNat (0:Int))) (Ot (t:=.int) (k:=.i64) (k':=.i64) (m:=bA) (m':=bA) kr kr g5 rfl) (rsT 1 (rnW (sqF h (fun u8=>sT [(1,.box (oi 0 1) 0),(4,oI 1 1 u8.length),(5,oI 2 1 ((List.replicate bA.toNat (0:Int)).length))] [(oi 0 1,.cells 181 [ai bA,.tree Yb qA,tI aA,tI aB]),(oi 1 1,.arr 3 .int u8),(oi 2 1,.arr 3 .int (List.replicate bA.toNat (0:Int)))]) ?_ ?_)))
 ·intro _ h;refine Ae (Ad (lpF h (fun (ui,u2)=>sT [(1,.box (oi 0 1) 0),(4,oI 1 1 u2.length),(5,oI 2 1 ((List.replicate bA.toNat (0:Int)).length)),(23,tI aA),(24,an aA.length),(25,an ui)] [(oi 0 1,.cells 181 [ai bA,.tree Yb qA,tI aA,tI aB]),(oi 1 1,.arr 3 .int u2),(oi 2 1,.arr 3 .int (List.replicate bA.toNat (0:Int)))]) ((wL 4 (List.length_replicate.symm:bA.toNat=(List.replicate bA.toNat (0:Int)).length)).trans ((wL 5 (List.length_replicate.symm:bA.toNat=(List.replicate bA.toNat (0:Int)).length)).trans (Ag [(oi 0 1,oi 1 1),(oi 1 1,oi 18 6),(oi 2 1,oi 21 10)]))) ?_));rintro n_ ⟨ui,u2⟩ c_ h hn8;refine Ae (Ab (kQ h (fun _ h=>skW (Ab (Ad (Ab (Aa 6 (riH .int h fun x14 _ h=>rsT 2 (rnW (Aa 13 (rsT 2 ?_))))))))) fun _ h=>lxT (have h:=jO h hn8;jE [])));obtain ⟨x15,f15,h⟩:=Ah h;obtain ⟨p15,b15,e15⟩:=Ar f15;refine rs0 (.elt (oi 1 1) x14.toNat 0) (zo (t:=.int) (o:=oi 1 1) (len:=u2.length) (k:=.i64) (m:=x14) p15 (Ai e15)) (zE (oi 1 1) e15 (rsT 1 (rs0 (.elt (oi 1 1) x14.toNat 0) (zo (t:=.int) (o:=oi 1 1) (len:=u2.length) (k:=.i64) (m:=x14) p15 (Ai e15)) (zS (oi 1 1) (wI (x15+1)) e15 (Ap (bn_ (tn_ (wr_ (Aa 15 (raH h fun h=>rsT 1 (Ap (tn_ ?_))))))))))));obtain rfl:=zj h;exact jLw hn8 ((wL 4 (((rfl:u2.length=u2.length).trans List.length_set.symm):u2.length=(u2.set x14.toNat (wI (x15+1))).length)).trans (Ag []))
 intro u8 h;refine sqF h (fun ue=>sT [(1,.box (oi 0 1) 0),(4,oI 1 1 u8.length),(5,oI 2 1 ue.length)] [(oi 0 1,.cells 181 [ai bA,.tree Yb qA,tI aA,tI aB]),(oi 1 1,.arr 3 .int u8),(oi 2 1,.arr 3 .int ue)]) ?_ ?_
 ·intro _ h;refine Ae (Ad (lpF h (fun (uj,u3)=>sT [(1,.box (oi 0 1) 0),(4,oI 1 1 u8.length),(5,oI 2 1 u3.length),(37,tI aB),(38,an aB.length),(39,an uj)] [(oi 0 1,.cells 181 [ai bA,.tree Yb qA,tI aA,tI aB]),(oi 1 1,.arr 3 .int u8),(oi 2 1,.arr 3 .int u3)]) (Ag []) ?_));rintro n_ ⟨uj,u3⟩ c_ h hn19;refine Ae (Ab (kQ h (fun _ h=>skW (Ab (Ad (Ab (Aa 6 (riH .int h fun x25 _ h=>rsT 2 (rnW (Aa 13 (rsT 2 ?_))))))))) fun _ h=>lxT (have h:=jO h hn19;jE [])));obtain ⟨x26,f26,h⟩:=Ah h;obtain ⟨p26,b26,e26⟩:=Ar f26;refine rs0 (.elt (oi 2 1) x25.toNat 0) (zo (t:=.int) (o:=oi 2 1) (len:=u3.length) (k:=.i64) (m:=x25) p26 (Ai e26)) (zE (oi 2 1) e26 (rsT 1 (rs0 (.elt (oi 2 1) x25.toNat 0) (zo (t:=.int) (o:=oi 2 1) (len:=u3.length) (k:=.i64) (m:=x25) p26 (Ai e26)) (zS (oi 2 1) (wI (x26+1)) e26 (Ap (bn_ (tn_ (wr_ (Aa 15 (raH h fun h=>rsT 1 (Ap (tn_ ?_))))))))))));obtain rfl:=zj h;exact jLw hn19 ((wL 5 (((rfl:u3.length=u3.length).trans List.length_set.symm):u3.length=(u3.set x25.toNat (wI (x26+1))).length)).trans (Ag []))
 intro ue h;refine sqF h (fun (uc,ud)=>sT [(4,oI 0 1 uc.length),(5,oI 1 1 ud.length)] [(oi 0 1,.arr 3 .int uc),(oi 1 1,.arr 3 .int ud)]) ?_ ?_
 ·intro _ h;refine Ae (Ad (lpF h (fun (ua,uf,u9)=>sT [(4,oI 0 1 uf.length),(5,oI 1 1 u9.length),(51,.tree Yb qA),(52,an qA.length),(53,an ua)] [(oi 0 1,.arr 3 .int uf),(oi 1 1,.arr 3 .int u9)]) (Ag [(oi 0 1,oi 1 1),(oi 1 1,oi 2 1)]) ?_));rintro n_ ⟨ua,uf,u9⟩ c_ h hn30;refine Ae (Ab (kQ h (fun _ h=>skW (sqF h (fun (ug,uh)=>sT [(4,oI 0 1 ug.length),(5,oI 1 1 uh.length),(51,.tree Yb qA),(52,an qA.length),(53,an ua)] [(oi 0 1,.arr 3 .int ug),(oi 1 1,.arr 3 .int uh)]) ?_ ?_)) fun _ h=>lxT (have h:=jO h hn30;jE [])))
  ·intro _ h;refine Ad (Ab (Aa 7 (riH Yb h fun x36 _ h=>rsB 3 (rnW (sqF h (fun ub=>sT [(4,oI 0 1 ub.length),(5,oI 1 1 u9.length),(11,.box (oi 2 1) 0),(51,.tree Yb qA),(52,an qA.length),(53,an ua)] [(oi 0 1,.arr 3 .int ub),(oi 1 1,.arr 3 .int u9),(oi 2 1,.cells 206 [ai x36.1,ai x36.2.1,tI x36.2.2.1,tI x36.2.2.2])]) ?_ ?_)))))
   ·intro _ h;refine Ae (Ad (lpF h (fun (uk,u4)=>sT [(4,oI 0 1 u4.length),(5,oI 1 1 u9.length),(11,.box (oi 2 1) 0),(51,.tree Yb qA),(52,an qA.length),(53,an ua),(58,tI x36.2.2.2),(59,an x36.2.2.2.length),(60,an uk)] [(oi 0 1,.arr 3 .int u4),(oi 1 1,.arr 3 .int u9),(oi 2 1,.cells 206 [ai x36.1,ai x36.2.1,tI x36.2.2.1,tI x36.2.2.2])]) (Ag [(oi 2 1,oi 11 5)]) ?_));rintro n_ ⟨uk,u4⟩ c_ h hn39;refine Ae (Ab (kQ h (fun _ h=>skW (Ab (Ad (Ab (Aa 6 (riH .int h fun x45 _ h=>rsT 2 (rnW (Aa 13 (rsT 2 ?_))))))))) fun _ h=>lxT (have h:=jO h hn39;jE [])));obtain ⟨x46,f46,h⟩:=Ah h;obtain ⟨p46,b46,e46⟩:=Ar f46;refine rs0 (.elt (oi 0 1) x45.toNat 0) (zo (t:=.int) (o:=oi 0 1) (len:=u4.length) (k:=.i64) (m:=x45) p46 (Ai e46)) (zE (oi 0 1) e46 (rsT 1 (rs0 (.elt (oi 0 1) x45.toNat 0) (zo (t:=.int) (o:=oi 0 1) (len:=u4.length) (k:=.i64) (m:=x45) p46 (Ai e46)) (zS (oi 0 1) (wI (x46+1)) e46 (Ap (bn_ (tn_ (wr_ (Aa 15 (raH h fun h=>rsT 1 (Ap (tn_ ?_))))))))))));obtain rfl:=zj h;exact jLw hn39 ((wL 4 (((rfl:u4.length=u4.length).trans List.length_set.symm):u4.length=(u4.set x45.toNat (wI (x46+1))).length)).trans (Ag []))
   intro ub h;refine Ae (Ad (lpF h (fun (ul,u5)=>sT [(4,oI 0 1 ub.length),(5,oI 1 1 u5.length),(51,.tree Yb qA),(52,an qA.length),(53,an ua),(72,tI x36.2.2.1),(73,an x36.2.2.1.length),(74,an ul)] [(oi 0 1,.arr 3 .int ub),(oi 1 1,.arr 3 .int u5)]) (Ag []) ?_));rintro n_ ⟨ul,u5⟩ c_ h hn49;refine Ae (Ab (kQ h (fun _ h=>skW (Ab (Ad (Ab (Aa 6 (riH .int h fun x55 _ h=>rsT 2 (rnW (Aa 13 (rsT 2 ?_))))))))) fun _ h=>Dv (te_ (te_ (be_ (bn_ (tn_ (have h:=jO h hn49;jE []))))))));obtain ⟨x56,f56,h⟩:=Ah h;obtain ⟨p56,b56,e56⟩:=Ar f56;refine rs0 (.elt (oi 1 1) x55.toNat 0) (zo (t:=.int) (o:=oi 1 1) (len:=u5.length) (k:=.i64) (m:=x55) p56 (Ai e56)) (zE (oi 1 1) e56 (rsT 1 (rs0 (.elt (oi 1 1) x55.toNat 0) (zo (t:=.int) (o:=oi 1 1) (len:=u5.length) (k:=.i64) (m:=x55) p56 (Ai e56)) (zS (oi 1 1) (wI (x56+1)) e56 (Ap (bn_ (tn_ (wr_ (Aa 15 (raH h fun h=>rsT 1 (Ap (tn_ ?_))))))))))));obtain rfl:=zj h;exact jLw hn49 ((wL 5 (((rfl:u5.length=u5.length).trans List.length_set.symm):u5.length=(u5.set x55.toNat (wI (x56+1))).length)).trans (Ag []))
  rintro ⟨ug,uh⟩ h;exact Aa 4 (raH h fun h=>rsT 1 (Ap (tn_ (jL []))))
 rintro ⟨uc,ud⟩ h;exact Ae (Ac (jR h [oI 0 1 uc.length,oI 1 1 ud.length] (Db rfl (Cv kr rfl) (Db rfl (Cv kr rfl) E6))))
def U6 (u1:List (Int×Int×(List Int)×List Int)) (u2:Int) (u0:Nat):Option (Ctl Nat (Ctl Unit Bool)) :=
 cond (decide ((u0:Int)<(u1.length:Int)))
 ((u1[u0]?).bind fun x22 =>
 (Tv x22.1 x22.2.1 x22.2.2.1 x22.2.2.2 u2).bind fun y24 =>
 cond (!y24)
  (some (Ctl.out (Ctl.out false)))
  (og (u0+1<4611686018427387904) <|
  some (Ctl.next (u0+1))))
 (some (Ctl.out (Ctl.next ())))
def V9 (y29:List Int×List Int) (u0:Nat):Option (Ctl Nat (Ctl Unit Bool)) :=
 cond (decide ((u0:Int)<(y29.1.length:Int)))
 ((y29.1[u0]?).bind fun x39 =>
 (y29.2[u0]?).bind fun x40 =>
 cond ((wI (x39+x40))==0)
  (some (Ctl.out (Ctl.out false)))
  (og (u0+1<4611686018427387904) <|
  some (Ctl.next (u0+1))))
 (some (Ctl.out (Ctl.next ())))
def Cz (u0:Int) (u1:List (Int×Int×(List Int)×List Int)) (u2 u3:List Int):Option Bool :=
 ((B7 u0 0 100).bind fun y4 =>
 cond (!y4)
  (some true)
  (cond (decide (60<(u1.length:Int)))
   (some true)
   (cond (decide (12<(u2.length:Int)))
    (some true)
    (cond (decide (12<(u3.length:Int)))
     (some true)
     ((Fa u2 0 (wI (u0 - 1))).bind fun y9 =>
     cond (!y9)
      (some true)
      ((Fa u3 0 (wI (u0 - 1))).bind fun y11 =>
      some (!y11))))))).bind fun u4 =>
cond u4
 (some false)
 (Di (Aq (fun s_:Nat=>U6 u1 u0 s_) 4611686018427387904 0) fun _ =>
 (Rb u0 u1 u2 u3).bind fun y29 =>
 Di (Aq (fun s_:Nat=>V9 y29 s_) 4611686018427387904 0) fun _ =>
 some true)
theorem Zk (h:Cz bA qA aA aB=some cA):cK 164 [.agg [ai bA,.tree Yb qA,tI aA,tI aB]] (An cA):=by
 refine cO Tryz.func164 (Ae (Ab (sqF h (fun u5=>sT [(1,.box (oi 0 1) 0),(47,.bool u5)] [(oi 0 1,.cells 181 [ai bA,.tree Yb qA,tI aA,tI aB])]) ?_ ?_)))
 ·intro _ h;refine Aa 43 (rsT 2 (rcH h Cl fun y4 h=>rsT 2 (kR h 12 (fun _ h=>rsT 35 (Ap (tn_ (jE [(oi 0 1,oi 1 1)])))) fun _ h=>rsT 6 (kR h 18 (fun _ h=>rsT 29 (Ap (tn_ (jE [(oi 0 1,oi 1 1)])))) fun _ h=>rsT 6 (kR h 24 (fun _ h=>rsT 23 (Ap (tn_ (jE [(oi 0 1,oi 1 1)])))) fun _ h=>rsT 6 ?_)))));rcases A0 h with ⟨q8,h⟩|⟨q8,h⟩
  ·exact rq 30 q8 (rsT 17 (Ap (tn_ (jE [(oi 0 1,oi 1 1)]))))
  refine rq 30 q8 (rsT 5 (rcH h Jm fun y9 h=>rsT 3 ?_));rcases A0 h with ⟨q10,h⟩|⟨q10,h⟩
  ·exact rq 39 q10 (rsT 8 (Ap (tn_ (jE [(oi 0 1,oi 1 1)]))))
  exact rq 39 q10 (rsT 5 (rcH h Jm fun y11 h=>rsT 2 (Ap (tn_ (jE [(oi 0 1,oi 1 1)])))))
 intro u5 h;refine kQ h (fun _ h=>Ae (Ac (tr_ (jS h)))) fun _ h=>skW (sqC h (fun _=>sT [(1,.box (oi 0 1) 0)] [(oi 0 1,.cells 181 [ai bA,.tree Yb qA,tI aA,tI aB])]) (fun _ h hk14=>Ae (Ad (lpF h (fun u6=>sT [(1,.box (oi 0 1) 0),(49,.tree Yb qA),(50,an qA.length),(51,an u6)] [(oi 0 1,.cells 181 [ai bA,.tree Yb qA,tI aA,tI aB])]) (Ag []) (fun n_ u6 c_ h hn16=>Ae (Ab (kQ h (fun _ h=>skW (Ab (Ad (Ab (Aa 7 (riH Yb h fun x22 _ h=>rsB 3 (rnW (Ab (Aa 12 (rsT 3 (rcH h Ab7 fun y24 h=>rsT 1 (rnW (kQ h (fun _ h=>Ae (Ac (br_ (tr_ (tr_ (br_ (tr_ (have h:=jO h hn16;(have h:=jO h hk14;jS h))))))))) fun _ h=>Az (bn_ (tn_ (wr_ (Aa 14 (raH h fun h=>rsT 1 (Ap (tn_ (jL []))))))))))))))))))))) fun _ h=>lxT (have h:=jO h hn16;jC []))))))) ?_)
 intro _ h;refine Ab (Aa 9 (rsT 1 (rcH h Xc fun y29 h=>rsT 5 (rnW (sqC h (fun _=>sT [] []) ?_ fun _ h=>Ae (Ac (jS h)))))));intro _ h hk30;refine Ae (Ad (lpF h (fun u4=>sT [(5,oI 0 1 y29.1.length),(6,oI 1 1 y29.2.length),(67,an y29.1.length),(68,an u4)] [(oi 0 1,.arr 3 .int y29.1),(oi 1 1,.arr 3 .int y29.2)]) (Ag [(oi 0 1,oi 1008 3),(oi 1 1,oi 1009 3)]) ?_));intro n_ u4 c_ h hn32;refine Ae (Ab (kQ h (fun _ h=>skW (Ab (Ad (Ae (Ab (Ao 15 (dz0 (oI 0 1 y29.1.length) (dz0 (an u4) ?_)))))))) fun _ h=>lxT (have h:=jO h hn32;jC [])));obtain ⟨x39,e39,h⟩:=Ah h;refine dzO (oi 0 1) .int y29.1.length (Ai e39) (dzE (oi 0 1) e39 (dz0 (oI 1 1 y29.2.length) (dz0 (an u4) ?_)));obtain ⟨x40,e40,h⟩:=Ah h;exact dzO (oi 1 1) .int y29.2.length (Ai e40) (dzE (oi 1 1) e40 (dz0 (ai (wI (x39+x40))) (dz0 (.bool ((wI (x39+x40))==0)) (Co (As kr) (tn_ (wr_ (kQ h (fun _ h=>Ae (Ac (br_ (tr_ (tr_ (br_ (tr_ (have h:=jO h hn32;(have h:=jO h hk30;jS h))))))))) fun _ h=>Az (bn_ (tn_ (wr_ (Aa 17 (raH h fun h=>rsT 1 (Ap (tn_ (jL [])))))))))))))))
def Ii (u1:List (Int×Int×(List Int)×List Int)) (a0:Int) (u0:Nat):Option (Ctl Nat (Ctl Unit Bool)) :=
 cond (decide ((u0:Int)<(u1.length:Int)))
 ((u1[u0]?).bind fun x17 =>
 cond (decide (a0<=x17.2.1))
  (some (Ctl.out (Ctl.out false)))
  (og (u0+1<4611686018427387904) <|
  some (Ctl.next (u0+1))))
 (some (Ctl.out (Ctl.next ())))
def Mb (a0 u1:Int) (u0:List (Int×Int×(List Int)×List Int)) (u2 u3:List Int):Option Bool :=
 ((Hd a0).bind fun y4 =>
 cond (!y4)
  (some true)
  ((Cz u1 u0 u2 u3).bind fun y6 =>
  some (!y6))).bind fun u4 =>
cond u4
 (some false)
 (Di (Aq (fun s_:Nat=>Ii u0 a0 s_) 4611686018427387904 0) fun _ =>
 some true)
theorem Acd (h:Mb bA bB qA aA aB=some cA):cK 161 [ai bA,.agg [ai bB,.tree Yb qA,tI aA,tI aB]] (An cA):=by
 refine cO Tryz.func161 (Ae (Ab (sqF h (fun u4=>sT [(0,ai bA),(3,.box (oi 0 1) 0),(14,.bool u4)] [(oi 0 1,.cells 181 [ai bB,.tree Yb qA,tI aA,tI aB])]) ?_ fun u4 h=>kQ h (fun _ h=>Ae (Ac (tr_ (jS h)))) fun _ h=>skW (sqC h (fun _=>sT [] []) (fun _ h hk9=>Ae (Ad (lpF h (fun u5=>sT [(0,ai bA),(16,.tree Yb qA),(17,an qA.length),(18,an u5)] []) (Ag []) (fun n_ u5 c_ h hn11=>Ae (Ab (kQ h (fun _ h=>skW (Ab (Ad (Ab (Aa 7 (riH Yb h fun x17 _ h=>rsB 3 (rnW (Ae (kQ h (fun _ h=>Ae (Ac (br_ (tr_ (tr_ (br_ (tr_ (have h:=jO h hn11;(have h:=jO h hk9;jS h))))))))) fun _ h=>Az (bn_ (tn_ (wr_ (Aa 13 (raH h fun h=>rsT 1 (Ap (tn_ (jL []))))))))))))))))) fun _ h=>lxT (have h:=jO h hn11;jC []))))))) fun _ h=>Ae (Ac (jS h))))));intro _ h;refine Aa 11 (rsT 1 (rcH h Oc fun y4 h=>rsT 2 ?_));rcases A0 h with ⟨q5,h⟩|⟨q5,h⟩
 ·exact rq 10 q5 (rsT 4 (Ap (tn_ (jE [(oi 0 1,oi 3 1)]))))
 exact rq 10 q5 (rsT 1 (rcH h Zk fun y6 h=>rsT 2 (Ap (tn_ (jE [(oi 0 1,oi 3 1)])))))
def Hp (u1:List (Int×Int×(List Int)×List Int)) (u0:Nat):Option (Ctl Nat (Ctl Unit Bool)) :=
 cond (decide ((u0:Int)<(u1.length:Int)))
 ((u1[u0]?).bind fun x15 =>
 (Cf x15.1).bind fun y17 =>
 cond (!y17)
  (some (Ctl.out (Ctl.out false)))
  (og (u0+1<4611686018427387904) <|
  some (Ctl.next (u0+1))))
 (some (Ctl.out (Ctl.next ())))
def F7 (a0 u1:Int) (u0:List (Int×Int×(List Int)×List Int)) (u2 u3:List Int):Option Bool :=
 (Mb a0 u1 u0 u2 u3).bind fun y4 =>
cond (!y4)
 (some false)
 (Di (Aq (fun s_:Nat=>Hp u0 s_) 4611686018427387904 0) fun _ =>
 some true)
theorem Zh (h:F7 bA bB qA aA aB=some cA):cK 152 [ai bA,.agg [ai bB,.tree Yb qA,tI aA,tI aB]] (An cA):=by
 exact cO Tryz.func152 (Ae (Ab (Ab (Aa 7 (rsT 2 (rcH h Acd fun y4 h=>rsT 1 (rnW (kQ h (fun _ h=>Ae (Ac (tr_ (jS h)))) fun _ h=>skW (sqC h (fun _=>sT [] []) (fun _ h hk7=>Ae (Ad (lpF h (fun u4=>sT [(12,.tree Yb qA),(13,an qA.length),(14,an u4)] []) (Ag []) (fun n_ u4 c_ h hn9=>Ae (Ab (kQ h (fun _ h=>skW (Ab (Ad (Ab (Aa 7 (riH Yb h fun x15 _ h=>rsB 3 (rnW (Ab (Aa 11 (rsT 2 (rcH h Kn fun y17 h=>rsT 1 (rnW (kQ h (fun _ h=>Ae (Ac (br_ (tr_ (tr_ (br_ (tr_ (have h:=jO h hn9;(have h:=jO h hk7;jS h))))))))) fun _ h=>Az (bn_ (tn_ (wr_ (Aa 13 (raH h fun h=>rsT 1 (Ap (tn_ (jL []))))))))))))))))))))) fun _ h=>lxT (have h:=jO h hn9;jC []))))))) fun _ h=>Ae (Ac (jS h)))))))))))
def Ng (a2 a3:List Int) (a0:Int) (u0:Nat) (u1:List Int):Option (Ctl (Nat×List Int) (List Int)) :=
 cond (decide ((u0:Int)<(a2.length:Int)))
 ((a2[u0]?).bind fun x12 =>
 (Cb u1 x12).bind fun x13 =>
 (a3[u0]?).bind fun x14 =>
 (Do a0 x13 x14).bind fun y15 =>
 og (u0+1<4611686018427387904) <|
 some (Ctl.next (u0+1,u1.set x12.toNat y15)))
 (some (Ctl.out u1))
def Cm (a0 a1:Int) (a2 a3:List Int):Option (List Int) :=
 og (0<=a1/\a1<=a1/\a1<=1073741824/\(8:Int)*a1<=140737488355328) <|
(Aq (fun s_:Nat×List Int=>Ng a2 a3 a0 s_.1 s_.2) 4611686018427387904 (0,List.replicate a1.toNat (0:Int))).bind fun u0 =>
some u0
def Adx (r:List Int):RV:=⟨false,[(false,[.frz (tI r)])]⟩
theorem Jp (h:Cm bA bB aA aB=some aC):cK 165 [ai bA,ai bB,tI aA,tI aB] (Adx aC):=by
 refine cZ Tryz.func165 fun zn_ nz_ hz_=>Ae (Ab (Aa 5 (rsT 1 ?_)))
 obtain ⟨g3,h⟩:=Ak h;refine rs1 (oI 13 3 bB.toNat) (oi 13 3) (.arr 3 .int (List.replicate bB.toNat (0:Int))) (Ot (t:=.int) (k:=.i64) (k':=.i64) (m:=bB) (m':=bB) kr kr g3 rfl) (rsT 1 (rnW (sqF h (fun u1=>sT [(9,oI 0 1 u1.length)] [(oi 0 1,.arr 3 .int u1)]) ?_ fun u1 h=>Ae (Ac (jZ h [(false,[oI 0 1 u1.length])] (Ji (Bp (.arr (e:=3) kr rfl)) B8))))));intro _ h;refine Ae (Ad (lpF h (fun (u2,u0)=>sT [(0,ai bA),(3,tI aB),(9,oI 0 1 u0.length),(14,tI aA),(15,an aA.length),(16,an u2)] [(oi 0 1,.arr 3 .int u0)]) ((wL 9 (List.length_replicate.symm:bB.toNat=(List.replicate bB.toNat (0:Int)).length)).trans (Ag [(oi 0 1,oi 13 3)])) ?_));rintro n_ ⟨u2,u0⟩ c_ h hn6;refine Ae (Ab (kQ h (fun _ h=>skW (Ab (Ad (Ab (Aa 8 (rsT 1 (riH .int h fun x12 _ h=>rsT 3 (rnW (Ao 22 (dsT 5 ?_)))))))))) fun _ h=>lxT (have h:=jO h hn6;jE [])));obtain ⟨x13,f13,h⟩:=Ah h;obtain ⟨p13,b13,e13⟩:=Ar f13;refine ds0 (.elt (oi 0 1) x12.toNat 0) (zo (t:=.int) (o:=oi 0 1) (len:=u0.length) (k:=.i64) (m:=x12) p13 (Ai e13)) (dzE (oi 0 1) e13 (dz0 (tI aB) (dz0 (an u2) (diH .int h fun x14 _ h=>dz0 (ai x14) (dcH h (fun h=>Gb (Adv h)) fun y15 h=>ds0 (.elt (oi 0 1) x12.toNat 0) (zo (t:=.int) (o:=oi 0 1) (len:=u0.length) (k:=.i64) (m:=x12) p13 (Ai e13)) (dzS (oi 0 1) (y15) e13 (Co (As kr) (bn_ (tn_ (wr_ (Aa 24 (raH h fun h=>rsT 1 (Ap (tn_ ?_))))))))))))));obtain rfl:=zj h;exact jLw hn6 ((wL 9 (((rfl:u0.length=u0.length).trans List.length_set.symm):u0.length=(u0.set x12.toNat y15).length)).trans (Ag []))
def Ha (a0 a1:Int) (u3 u6:Int) (u4 u5:List Int):Option (LL) :=
 (cond (decide (9<=u3))
  (some (u5,u4,wI (wI (u3 - 9)+3)))
  (some (u4,u5,u3))).bind fun (u1,u0,u2) =>
cond (u2==3)
 ((u0[0]?).bind fun x12 =>
 (u1[0]?).bind fun x13 =>
 (Cm a0 a1 ([x12,x13]) ([1,wI (a0 - 1)])).bind fun y14 =>
 (u0[1]?).bind fun x15 =>
 (Cm a0 a1 ([x15,x13]) ([1,wI (a0 - 1)])).bind fun y16 =>
 some ([y14,y16]))
 (cond (u2==5)
  ((u0[0]?).bind fun x20 =>
  (u1[0]?).bind fun x21 =>
  (u1[1]?).bind fun x22 =>
  (Cm a0 a1 ([x20,x21,x22]) ([1,wI (a0 - 1),wI (a0 - 1)])).bind fun y23 =>
  some ([y23]))
  (cond (u2==6)
   ((u0[0]?).bind fun x27 =>
   (Cm a0 a1 ([x27]) ([1])).bind fun y28 =>
   some ([y28]))
   (cond (u2==7)
    ((u0[0]?).bind fun x32 =>
    (u1[0]?).bind fun x33 =>
    (Fb a0 u6).bind fun y34 =>
    (Cm a0 a1 ([x32,x33]) ([1,y34])).bind fun y35 =>
    some ([y35]))
    (some []))))
def Ss (r:LL):RV:=⟨false,[(false,[.frz (tS r)])]⟩
theorem Z5 (h:Ha bA bB bC bD aA aB=some dA):cK 162 [ai bA,ai bB,.agg [ai bC,ai bD,tI aA,tI aB]] (Ss dA):=by
 refine cZ Tryz.func162 fun zn_ nz_ hz_=>Ae (Ab (Ao 9 (dsT 6 (Co (As kr) (tn_ (wr_ (Ae (sqF h (fun (u0,u2,u6)=>sT [(0,ai bA),(1,ai bB),(5,.box (oi 0 1) 0),(7,tI u0),(8,tI u2),(9,ai u6)] [(oi 0 1,.cells 206 [ai bC,ai bD,tI aA,tI aB])]) (fun _ h=>Ae (kQ h (fun _ h=>Ao 24 (dsT 10 (Co (As kr) (tn_ (jE [(oi 0 1,oi 5 1)]))))) fun _ h=>Az (tn_ (jE [(oi 0 1,oi 5 1)])))) ?_))))))))
 rintro ⟨u0,u2,u6⟩ h;exact Ab (Ae (Ad (Ae (kQ h (fun _ h=>Ab (Ao 33 (dsT 3 (diH .int h fun x12 _ h=>ds0 (ai x12) kr (ds0 (tI u0) kr (diH .int h fun x13 e13 h=>ds0 (ai x13) kr (ds1 (oI 36 13 2) (oi 36 13) (.arr 3 .int ([x12,x13])) kr (ds0 (ai bA) kr (ds0 (ai (wI (bA - 1))) kr (ds1 (oI 39 16 2) (oi 39 16) (.arr 3 .int ([1,wI (bA - 1)])) kr (dcG h [ai bA,ai bB,oI 36 13 2,oI 39 16 2] (fun h=>Fc hz_ (Jp h)) (Al kr (Al kr (Al (Bl (e:=3) kr rfl) (Al (Bl (e:=3) kr rfl) Bg)))) fun y14 h=>ds0 (ai bA) kr (ds0 (ai bB) kr (ds0 (tI u2) kr (diH .int h fun x15 _ h=>ds0 (ai x15) kr (ds0 (tI u0) kr (diE .int e13 (ds0 (ai x13) kr (ds1 (oI 49 26 2) (oi 49 26) (.arr 3 .int ([x15,x13])) kr (ds0 (ai bA) kr (ds0 (ai (wI (bA - 1))) kr (ds1 (oI 52 29 2) (oi 52 29) (.arr 3 .int ([1,wI (bA - 1)])) kr (dcG h [ai bA,ai bB,oI 49 26 2,oI 52 29 2] (fun h=>Fc hz_ (Jp h)) (Al kr (Al kr (Al (Bl (e:=3) kr rfl) (Al (Bl (e:=3) kr rfl) Bg)))) fun y16 h=>Alg (oS 54 31 2) (oi 54 31) (.vec 42 1 2 (tvC (some nz_) sI ([y14,y16]))) trivial (Dt kr) (ds0 (oS 54 31 2) kr (Co (As kr) (tn_ (⟨_,Dc (N:=2) (oi 54 31) 42 (some nz_) sI ([y14,y16]) kr rfl,Ac (br_ (tr_ (jZ h [(false,[oS 54 31 2])] (Ji (Bp (.tv (e:=42) kr rfl)) B8))))⟩)))))))))))))))))))))))))) fun _ h=>Ae (kQ h (fun _ h=>Ab (Ao 27 (ds0 (ai bA) kr (ds0 (ai bB) kr (ds0 (tI u2) kr (diH .int h fun x20 _ h=>ds0 (ai x20) kr (ds0 (tI u0) kr (diH .int h fun x21 _ h=>ds0 (ai x21) kr (ds0 (tI u0) kr (diH .int h fun x22 _ h=>ds0 (ai x22) kr (ds1 (oI 68 18 3) (oi 68 18) (.arr 3 .int ([x20,x21,x22])) kr (dsT 4 (ds1 (oI 73 23 3) (oi 73 23) (.arr 3 .int ([1,wI (bA - 1),wI (bA - 1)])) kr (dcG h [ai bA,ai bB,oI 68 18 3,oI 73 23 3] (fun h=>Fc hz_ (Jp h)) (Al kr (Al kr (Al (Bl (e:=3) kr rfl) (Al (Bl (e:=3) kr rfl) Bg)))) fun y23 h=>Alg (oS 75 25 1) (oi 75 25) (.vec 42 1 1 (tvC (some nz_) sI ([y23]))) trivial (Dt kr) (ds0 (oS 75 25 1) kr (Co (As kr) (tn_ (⟨_,Dc (N:=1) (oi 75 25) 42 (some nz_) sI ([y23]) kr rfl,Ac (br_ (tr_ (jZ h [(false,[oS 75 25 1])] (Ji (Bp (.tv (e:=42) kr rfl)) B8))))⟩)))))))))))))))))) fun _ h=>Ae (kQ h (fun _ h=>Ab (Aa 19 (rsT 3 (riH .int h fun x27 _ h=>rsB 3 (rcG h [ai bA,ai bB,oI 83 14 1,oI 84 15 1] (fun h=>Fc hz_ (Jp h)) (Al kr (Al kr (Al (Bl (e:=3) kr rfl) (Al (Bl (e:=3) kr rfl) Bg)))) fun y28 h=>Lq (oS 86 17 1) (oi 86 17) (.vec 42 1 1 (tvC (some nz_) sI ([y28]))) trivial (Dt kr) (rsT 1 (Ap (tn_ (⟨_,Dc (N:=1) (oi 86 17) 42 (some nz_) sI ([y28]) kr rfl,Ac (br_ (tr_ (jZ h [(false,[oS 86 17 1])] (Ji (Bp (.tv (e:=42) kr rfl)) B8))))⟩))))))))) fun _ h=>Ae (kQ h (fun _ h=>Ab (Ao 28 (dsT 3 (diH .int h fun x32 _ h=>ds0 (ai x32) kr (ds0 (tI u0) kr (diH .int h fun x33 _ h=>ds0 (ai x33) kr (ds1 (oI 97 19 2) (oi 97 19) (.arr 3 .int ([x32,x33])) kr (ds0 (ai bA) kr (ds0 (.box (oi 0 1) 1) kr (dsl (ai bD) kr (dcH h (fun h=>Gb (P2 h)) fun y34 h=>ds1 (oI 102 24 2) (oi 102 24) (.arr 3 .int ([1,y34])) kr (dcG h [ai bA,ai bB,oI 97 19 2,oI 102 24 2] (fun h=>Fc hz_ (Jp h)) (Al kr (Al kr (Al (Bl (e:=3) kr rfl) (Al (Bl (e:=3) kr rfl) Bg)))) fun y35 h=>Alg (oS 104 26 1) (oi 104 26) (.vec 42 1 1 (tvC (some nz_) sI ([y35]))) trivial (Dt kr) (ds0 (oS 104 26 1) kr (Co (As kr) (tn_ (⟨_,Dc (N:=1) (oi 104 26) 42 (some nz_) sI ([y35]) kr rfl,Ac (br_ (tr_ (jZ h [(false,[oS 104 26 1])] (Ji (Bp (.tv (e:=42) kr rfl)) B8))))⟩)))))))))))))))) fun _ h=>Az (bn_ (tn_ (wr_ (Ae (Ac (jZ h [(false,[.nils])] (Ji (Bp (t:=sI) (xs:=[]) .nil) B8))))))))))))))
def Eu (u2:List (Int×Int×(List Int)×List Int)) (a0 u3:Int) (u0:Nat) (u1:LL):Option (Ctl (Nat×LL) (LL)) :=
 cond (decide ((u0:Int)<(u2.length:Int)))
 ((u2[u0]?).bind fun x12 =>
 (Ha a0 u3 x12.1 x12.2.1 x12.2.2.1 x12.2.2.2).bind fun y13 =>
 og (u1.length+y13.length<=1073741824/\(u1.length+y13.length)*24<=140737488355328) <|
 og (u0+1<4611686018427387904) <|
 some (Ctl.next (u0+1,u1++y13)))
 (some (Ctl.out u1))
def E7 (a0 u0:Int) (u1:List (Int×Int×(List Int)×List Int)) (u3 u4:List Int):Option (LL) :=
 (Aq (fun s_:Nat×LL=>Eu u1 a0 u0 s_.1 s_.2) 4611686018427387904 (0,[])).bind fun u2 =>
(Ju a0 u0 u2).bind fun y17 =>
some y17
theorem Xe (h:E7 bA bB qA aA aB=some dA):D1 Tryz.prog Tab 153 [ai bA,.agg [ai bB,.tree Yb qA,tI aA,tI aB]] [] (oS 0 1 dA.length) [(oi 0 1,.mat 42 (oi 1 1) .int dA),(oi 1 1,.pool 3 .int dA)]:=by
 refine Br kr Tryz.func153 (B6 kr) (n:=28) kr (by simp) rfl kr trivial ⟨⟨3,.tail _ (.head _)⟩,⟨trivial,trivial⟩⟩ (Ae (Ae (sqF h (fun u3=>sT [(0,ai bA),(3,.box (oi 0 1) 0),(5,oS 1 1 u3.length)] [(oi 0 1,.cells 181 [ai bB,.tree Yb qA,tI aA,tI aB]),(oi 1 1,.tv 42 none sI u3)]) ?_ fun u3 h=>Ab (Aa 8 (rsT 4 (rcM h [] [ai bA,ai bB,oS 1 1 u3.length] Si trivial (.cons (.ren kr) (.cons (.ren kr) (.cons (.gnd kr (Ahh (e:=42) (m:=none) (t:=sI) (xs:=u3) ((Mn kr kr kr).trans kr) rfl)) .nil))) (Ay kr kr trivial) fun y17 h=>rsT 1 (rnW (Ac (by obtain rfl:=osj h;exact E4 [oS 0 1 y17.length] (Ag (tl:=[(4,oS 0 1 y17.length)]) (g:=2) [(oi 0 1,oi 432 6),(oi 1 1,oi 433 6)]))))))))));intro _ h;refine Ae (Ad (lpF h (fun (u6,u0)=>sT [(0,ai bA),(3,.box (oi 0 1) 0),(5,oS 1 1 u0.length),(9,.tree Yb qA),(10,an qA.length),(11,an u6)] [(oi 0 1,.cells 181 [ai bB,.tree Yb qA,tI aA,tI aB]),(oi 1 1,.tv 42 none sI u0)]) ((X6 5 42 none sI kr).trans (Ag [(oi 0 1,oi 3 1),(oi 1 1,oi 5 8)])) ?_));rintro n_ ⟨u6,u0⟩ c_ h hn6;refine Ae (Ab (kQ h (fun _ h=>skW (Ab (Ad (Ab (Aa 7 (riH Yb h fun x12 _ h=>rsB 3 (rnW (Aa 15 (rsT 5 (rcH h Z5 fun y13 h=>?_)))))))))) fun _ h=>lxT (have h:=jO h hn6;jE [])));obtain ⟨g14,h⟩:=Ak h;refine rs2 (oS 1 13 (u0.length+y13.length)) (oi 1 1) (oi 1 13) (.vec 42 1 (u0.length+y13.length) (tvC none sI (u0++y13))) (Als (o:=oi 1 1) (t:=sI) (t':=sI) (len:=u0.length) (N:=u0.length) (m:=none) (xs:=u0) (ys:=y13) kr kr rfl rfl (Am7 kr) g14) (rsT 1 (Ap (bn_ (tn_ ⟨_,Dc (N:=u0.length+y13.length) (oi 1 13) 42 none sI (u0++y13) kr (by simp),Aa 17 (raH h fun h=>rsT 1 (Ap (tn_ ?_)))⟩))));obtain rfl:=zj h;exact jLw hn6 ((wL 5 ((by simp):u0.length+y13.length=(u0++y13).length)).trans (Ag [(oi 1 1,oi 1 13)]))
def I1 (a0 a1:List Int) (u0:Nat) (u1:List Int):Option (Ctl (Nat×List Int) (List Int)) :=
 cond (decide ((u0:Int)<(a0.length:Int)))
 ((a0[u0]?).bind fun x11 =>
 (Cb a1 x11).bind fun x12 =>
 og (u1.length+1<=1073741824/\(u1.length+1)*8<=140737488355328) <|
 og (u0+1<4611686018427387904) <|
 some (Ctl.next (u0+1,u1++([x12]))))
 (some (Ctl.out u1))
def Jq (a0 a1:List Int):Option (List Int) :=
 (Aq (fun s_:Nat×List Int=>I1 a0 a1 s_.1 s_.2) 4611686018427387904 (0,[])).bind fun u0 =>
some u0
theorem Aat (h:Jq aA aB=some aC):cK 154 [tI aA,tI aB] (Bs aC):=by
 refine cO Tryz.func154 (Ae (Ae (sqF h (fun u0=>sT [(5,oI 0 1 u0.length)] [(oi 0 1,.arr 3 .int u0)]) ?_ fun u0 h=>Ae (Ac (jR h [oI 0 1 u0.length] (Db rfl (Cv kr rfl) E6))))));intro _ h;refine Ae (Ad (lpF h (fun (u2,u1)=>sT [(1,tI aB),(5,oI 0 1 u1.length),(8,tI aA),(9,an aA.length),(10,an u2)] [(oi 0 1,.arr 3 .int u1)]) ((Aew 5 3 .int rfl kr).trans (Ag [(oi 0 1,oi 5 6)])) ?_));rintro n_ ⟨u2,u1⟩ c_ h hn5;refine Ae (Ab (kQ h (fun _ h=>skW (Ab (Ad (Ab (Aa 6 (riH .int h fun x11 _ h=>rsT 2 (rnW (Aa 14 (rsT 3 ?_))))))))) fun _ h=>lxT (have h:=jO h hn5;jE [])));obtain ⟨x12,f12,h⟩:=Ah h;obtain ⟨p12,b12,e12⟩:=Ar f12;refine rs0 (.telt none .int x12 0) (zi (t:=.int) (xs:=aB) (k:=.i64) (m:=x11) p12 e12) (rsB 2 ?_);obtain ⟨g13,h⟩:=Ak h;exact zB (oi 0 1) (oi 19 11) u1 (x12) g13 (rsT 1 (Ap (bn_ (tn_ (wr_ (Aa 16 (raH h fun h=>rsT 1 (Ap (tn_ (jL [(oi 0 1,oi 0 12)]))))))))))
def K5 (a0:Int) (u1:Nat) (u0:List Int):Option (Ctl (Nat×List Int) (List Int)) :=
 cond (decide ((u1:Int)<a0))
 (og (u0.length+1<=1073741824/\(u0.length+1)*8<=140737488355328) <|
 og (u0.length+1<=1073741824/\(u0.length+1)*8<=140737488355328) <|
 og (u1+1<4611686018427387904) <|
 some (Ctl.next (u1+1,u0++([(u1:Int)]))))
 (some (Ctl.out u0))
def O2 (a0:Int):Option (Int×(List (Int×Int×(List Int)×List Int))×List Int×List Int) :=
 (Aq (fun s_:Nat×List Int=>K5 a0 s_.1 s_.2) 4611686018427387904 (0,[])).bind fun u0 =>
some (a0,[],u0,u0)
def Vg (r:Int×(List (Int×Int×(List Int)×List Int))×List Int×List Int):RV:=⟨false,[(true,[.sc (.int .i64 r.1),.frz (.tree Yb r.2.1),.frz (tI r.2.2.1),.frz (tI r.2.2.2)])]⟩
theorem Afx (h:O2 bA=some sA):cK 155 [ai bA] (Vg sA):=by
 refine cZ Tryz.func155 fun zn_ nz_ hz_=>Ae (Ae (sqF h (fun u0=>sT [(2,.box (oi 0 1) 0),(3,.box (oi 1 1) 0)] [(oi 0 1,.cells 181 [ai 0,.nils,.nils,.nils]),(oi 1 1,.cells 181 [ai bA,.nils,oI 2 1 u0.length,oI 3 1 u0.length]),(oi 2 1,.arr 3 .int u0),(oi 3 1,.arr 3 .int u0)]) ?_ fun u0 h=>Ae (Ac (jZ h [(true,[ai bA,.nils,oI 2 1 u0.length,oI 3 1 u0.length])] (Ea (Aw B2 (Aw (Bp (t:=Yb) (xs:=[]) .nil) (Aw (Bp (.arr (e:=3) kr rfl)) (Aw (Bp (.arr (e:=3) kr rfl)) Ee)))) B8)))))
 intro _ h;refine Ae (Ad (lpF h (fun (u2,u1)=>sT [(0,ai bA),(2,.box (oi 0 1) 0),(3,.box (oi 1 1) 0),(4,an u2)] [(oi 0 1,.cells 181 [ai 0,.nils,.nils,.nils]),(oi 1 1,.cells 181 [ai bA,.nils,oI 2 1 u1.length,oI 3 1 u1.length]),(oi 2 1,.arr 3 .int u1),(oi 3 1,.arr 3 .int u1)]) ((C0 9000 (oi 3 4) 2 181 [ai bA,.nils,.nils,.nils] [ai bA,.nils,oI 9000 7 0,.nils] 3 .int rfl kr kr kr).trans ((C0 9001 (oi 3 4) 3 181 [ai bA,.nils,oI 9000 7 0,.nils] [ai bA,.nils,oI 9000 7 0,oI 9001 8 0] 3 .int rfl kr kr kr).trans (Ag [(oi 0 1,oi 2 1),(oi 1 1,oi 3 4),(oi 2 1,oi 9000 7),(oi 3 1,oi 9001 8)]))) ?_));rintro n_ ⟨u2,u1⟩ c_ h hn5;refine Ab (Ae (kQ h (fun _ h=>skW (Ab (Ad (Ab (Aa 12 (rsB 4 ?_)))))) fun _ h=>lxT (have h:=jO h hn5;jE [])));obtain ⟨g11,h⟩:=Ak h;refine zB (oi 2 1) (oi 15 8) u1 ((u2:Int)) g11 (rsB 2 (rnW (Aa 19 (rsB 4 ?_))));obtain ⟨g12,h⟩:=Ak h;exact zB (oi 3 1) (oi 21 15) u1 ((u2:Int)) g12 (rsB 2 (Ap (bn_ (tn_ (wr_ (Aa 22 (rsT 1 (raH h fun h=>rsT 1 (Ap (tn_ (jL [(oi 2 1,oi 2 9),(oi 3 1,oi 3 16)])))))))))))
def W6 (y12:Int×Int) (u2:Nat) (u0 u1:List Int):Option (Ctl (Nat×List Int×List Int) (List Int×List Int)) :=
 cond (decide ((u2:Int)<wI (y12.1+y12.2)))
 ((cond (decide ((u2:Int)<y12.1))
   (og (u0.length+1<=1073741824/\(u0.length+1)*8<=140737488355328) <|
   og (u0.length+1<=1073741824/\(u0.length+1)*8<=140737488355328) <|
   some (u0++([(u2:Int)]),u1))
   (og (u1.length+1<=1073741824/\(u1.length+1)*8<=140737488355328) <|
   og (u1.length+1<=1073741824/\(u1.length+1)*8<=140737488355328) <|
   some (u0,u1++([(u2:Int)])))).bind fun (u3,u4) =>
 og (u2+1<4611686018427387904) <|
 some (Ctl.next (u2+1,u3,u4)))
 (some (Ctl.out (u0,u1)))
def Md (u0 u1:Int) (u4:ByteArray):Option (Int×(List (Int×Int×(List Int)×List Int))×List Int×List Int) :=
 cond (u0==1)
 ((O2 u1).bind fun y7 =>
 some (y7.1,y7.2.1,y7.2.2.1,y7.2.2.2))
 (cond (u0==2)
  (some (2,[],[0,1],[1,0]))
  ((G7 u0).bind fun y12 =>
  (Aq (fun s_:Nat×List Int×List Int=>W6 y12 s_.1 s_.2.1 s_.2.2) 4611686018427387904 (0,[],[])).bind fun (u2,u3) =>
  some (wI (y12.1+y12.2),[(u0,u1,u2,u3)],u2,u3)))
theorem Ach (h:Md bA bB gA=some sA):cK 131 [.agg [ai bA,ai bB,.str gA]] (Vg sA):=by
 refine cZ Tryz.func131 fun zn_ nz_ hz_=>Ae (Ab (Ae (Ad (Ae (kQ h (fun _ h=>Ab (Aa 11 (rsT 2 (rcH h (fun h=>Fc hz_ (Afx h)) fun y7 h=>rsB 1 (rnW (Ac (br_ (tr_ (jZ h [(true,[ai y7.1,.ftr nz_ Yb y7.2.1,.ftr nz_ .int y7.2.2.1,.ftr nz_ .int y7.2.2.2])] (Ea (Aw B2 (Aw (Bp .ftr) (Aw (Bp .ftr) (Aw (Bp .ftr) Ee)))) B8)))))))))) fun _ h=>Ae (kQ h (fun _ h=>Ae (Ac (br_ (tr_ (jZ h [(true,[ai 2,.nils,oI 17 9 2,oI 18 10 2])] (Ea (Aw B2 (Aw (Bp (t:=Yb) (xs:=[]) .nil) (Aw (Bp (.arr (e:=3) kr rfl)) (Aw (Bp (.arr (e:=3) kr rfl)) Ee)))) B8)))))) fun _ h=>Az (bn_ (tn_ (wr_ (Ab (Aa 17 (rsT 2 (rcH h (fun h=>Gb (N6 h)) fun y12 h=>rsT 5 (rnW (Ae (Ae (sqF h (fun (u4,u5)=>sT [(2,.box (oi 0 1) 0),(5,.box (oi 1 1) 0),(6,.box (oi 2 1) 0)] [(oi 0 1,.cells 181 [ai 0,.nils,.nils,.nils]),(oi 1 1,.cells 181 [ai (wI (y12.1+y12.2)),.nils,oI 3 1 u4.length,oI 4 1 u5.length]),(oi 2 1,.cells 206 [ai bA,ai bB,.ftr nz_ .int u4,.ftr nz_ .int u5]),(oi 3 1,.arr 3 .int u4),(oi 4 1,.arr 3 .int u5)]) ?_ ?_)))))))))))))))))
 ·intro _ h;refine Ae (Ad (lpF h (fun (u6,u2,u3)=>sT [(2,.box (oi 0 1) 0),(3,ai y12.1),(4,ai y12.2),(5,.box (oi 1 1) 0),(6,.box (oi 2 1) 0),(7,an u6)] [(oi 0 1,.cells 181 [ai 0,.nils,.nils,.nils]),(oi 1 1,.cells 181 [ai (wI (y12.1+y12.2)),.nils,oI 3 1 u2.length,oI 4 1 u3.length]),(oi 2 1,.cells 206 [ai bA,ai bB,oI 5 1 u2.length,oI 6 1 u3.length]),(oi 3 1,.arr 3 .int u2),(oi 4 1,.arr 3 .int u3),(oi 5 1,.arr 3 .int u2),(oi 6 1,.arr 3 .int u3)]) ((C0 9000 (oi 5 21) 2 181 [ai (wI (y12.1+y12.2)),.nils,.nils,.nils] [ai (wI (y12.1+y12.2)),.nils,oI 9000 31 0,.nils] 3 .int rfl kr kr kr).trans ((C0 9001 (oi 5 21) 3 181 [ai (wI (y12.1+y12.2)),.nils,oI 9000 31 0,.nils] [ai (wI (y12.1+y12.2)),.nils,oI 9000 31 0,oI 9001 32 0] 3 .int rfl kr kr kr).trans ((C0 9002 (oi 6 28) 2 206 [ai bA,ai bB,.nils,.nils] [ai bA,ai bB,oI 9002 33 0,.nils] 3 .int rfl kr kr kr).trans ((C0 9003 (oi 6 28) 3 206 [ai bA,ai bB,oI 9002 33 0,.nils] [ai bA,ai bB,oI 9002 33 0,oI 9003 34 0] 3 .int rfl kr kr kr).trans (Ag [(oi 0 1,oi 2 2),(oi 1 1,oi 5 21),(oi 3 1,oi 9000 31),(oi 4 1,oi 9001 32),(oi 2 1,oi 6 28),(oi 5 1,oi 9002 33),(oi 6 1,oi 9003 34)]))))) ?_));rintro n_ ⟨u6,u2,u3⟩ c_ h hn17;refine Ab (Ae (kQ h (fun _ h=>skW (sqF h (fun (u7,u8)=>sT [(2,.box (oi 0 1) 0),(3,ai y12.1),(4,ai y12.2),(5,.box (oi 1 1) 0),(6,.box (oi 2 1) 0),(7,an u6)] [(oi 0 1,.cells 181 [ai 0,.nils,.nils,.nils]),(oi 1 1,.cells 181 [ai (wI (y12.1+y12.2)),.nils,oI 3 1 u7.length,oI 4 1 u8.length]),(oi 2 1,.cells 206 [ai bA,ai bB,oI 5 1 u7.length,oI 6 1 u8.length]),(oi 3 1,.arr 3 .int u7),(oi 4 1,.arr 3 .int u8),(oi 5 1,.arr 3 .int u7),(oi 6 1,.arr 3 .int u8)]) ?_ ?_)) fun _ h=>lxT (have h:=jO h hn17;(by obtain rfl:=osj h;exact ((Abj hz_ (ty:=206) (cs:=[ai bA,ai bB,oI 5 1 u2.length,oI 6 1 u3.length]) (t':=.int) (len:=u2.length) (e:=3) (t:=.int) (xs:=u2) (oi 2 1) (oi 5 1) 2 kr rfl kr rfl rfl).trans (Abj hz_ (ty:=206) (cs:=[ai bA,ai bB,.ftr nz_ .int u2,oI 6 1 u3.length]) (t':=.int) (len:=u3.length) (e:=3) (t:=.int) (xs:=u3) (oi 2 1) (oi 6 1) 3 kr rfl kr rfl rfl)).trans (Ag [])))))
  ·intro _ h;refine Ad (Ae (kQ h (fun _ h=>?_) fun _ h=>?_))
   ·refine Ab (Aa 17 (rsB 4 ?_));obtain ⟨g25,h⟩:=Ak h;refine zB (oi 3 1) (oi 48 13) u2 ((u6:Int)) g25 (rsB 2 (rnW (Aa 24 (rsB 4 ?_))));obtain ⟨g26,h⟩:=Ak h;exact zB (oi 5 1) (oi 54 20) u2 ((u6:Int)) g26 (rsB 2 (Ap (bn_ (tn_ (jE [(oi 3 1,oi 3 14),(oi 5 1,oi 5 21)])))))
   refine Ab (Aa 17 (rsB 4 ?_));obtain ⟨g28,h⟩:=Ak h;refine zB (oi 4 1) (oi 60 13) u3 ((u6:Int)) g28 (rsB 2 (rnW (Aa 24 (rsB 4 ?_))));obtain ⟨g29,h⟩:=Ak h;exact zB (oi 6 1) (oi 66 20) u3 ((u6:Int)) g29 (rsB 2 (Ap (bn_ (tn_ (jE [(oi 4 1,oi 4 14),(oi 6 1,oi 6 21)])))))
  rintro ⟨u7,u8⟩ h;exact Aa 5 (rsT 1 (raH h fun h=>rsT 1 (Ap (tn_ (jL [])))))
 rintro ⟨u4,u5⟩ h;exact Ab (Aa 6 (rsT 1 (Lq (.own (oi 70 3) Yb 0 1) (oi 70 3) (.vec 206 4 1 (tvC (some nz_) Yb ([(bA,bB,u4,u5)]))) trivial (Dt kr) (rsB 2 (Ap (tn_ ⟨_,Dc (N:=1) (oi 70 3) 206 (some nz_) Yb ([(bA,bB,u4,u5)]) kr rfl,Ae (Ac (jZ h [(true,[ai (wI (y12.1+y12.2)),.own (oi 70 3) Yb 0 1,oI 3 1 u4.length,oI 4 1 u5.length])] (Ea (Aw B2 (Aw (Bp (.tv (e:=206) kr rfl)) (Aw (Bp (.arr (e:=3) kr rfl)) (Aw (Bp (.arr (e:=3) kr rfl)) Ee)))) B8)))⟩))))))
end Go.Proofs.YtopjojkjaklalaaGreatDoor


namespace Go.Proofs.YtopjojkjaklalaaGreatDoor
open Go.RowKit Go.Deep
set_option maxRecDepth 4000
set_option maxHeartbeats 4800000
variable {bA bB bC:Int} {qA:List (Int×Int×(List Int)×List Int)} {aA aB:List Int} {tA:Int×Int×LL×Bool} {gA:ByteArray} {pA:Int×Int×LL} {hA:List (Int×Int×ByteArray)} {dA:LL} {uA:List Int×List Int×Bool}
def C4 (y13:LL) (y8 u2:List Int) (u0:Nat) (u1:LL):Option (Ctl (Nat×LL) (LL)) :=
 cond (decide ((u0:Int)<(y13.length:Int)))
 ((y13[u0]?).bind fun x20 =>
 (Jq (y8++u2) x20).bind fun y21 =>
 og (u1.length+1<=1073741824/\(u1.length+1)*24<=140737488355328) <|
 og (u0+1<4611686018427387904) <|
 some (Ctl.next (u0+1,u1++[y21])))
 (some (Ctl.out u1))
def Es (a0 u2:Int) (u3:List (Int×Int×(List Int)×List Int)) (u1 u0:List Int):Option (Int×Int×LL×Bool) :=
 (F7 a0 u2 u3 u1 u0).bind fun y4 =>
cond (!y4)
 (some (0,0,[],false))
 ((Fi u1).bind fun y8 =>
 og (y8.length+u0.length<=1073741824/\(y8.length+u0.length)*8<=140737488355328) <|
 ((E7 a0 u2 u3 u1 u0).bind fun y13 =>
  Aq (fun s_:Nat×LL=>C4 y13 y8 u0 s_.1 s_.2) 4611686018427387904 (0,([]:LL))).bind fun u4 =>
 (Ko a0 (u1.length:Int) (u0.length:Int) u4).bind fun y25 =>
 some (y25.1,y25.2.1,y25.2.2,true))
def Rc (r:Int×Int×LL×Bool):RV:=⟨true,[(true,[.sc (.int .i64 r.1),.sc (.int .i64 r.2.1),.frz (tS r.2.2.1)]),(false,[.sc (.bool r.2.2.2)])]⟩
theorem Yo (h:Es bA bB qA aA aB=some tA):cK 130 [ai bA,.agg [ai bB,.tree Yb qA,tI aA,tI aB]] (Rc tA):=by
 refine cZ Tryz.func130 fun zn_ nz_ hz_=>Ae (Ab (Ab (Aa 8 (rsT 2 (rcH h (fun h=>Gb (Zh h)) fun y4 h=>rsT 1 (rnW (kQ h (fun _ h=>Ae (Ac (tr_ (jZ h [(true,[ai 0,ai 0,.nils]),(false,[.bool false])] (Ea (Aw B2 (Aw B2 (Aw (Bp (t:=sI) (xs:=[]) .nil) Ee))) (Ji B2 B8)))))) fun _ h=>skW (Ab (Ao 15 (dz0 (.box (oi 3 1) 2) (dzl (tI aA) (dcH h (fun h=>Gb (Jy h)) fun y8 h=>dz0 (.box (oi 3 1) 3) (dzl (tI aB) ?_)))))))))))))
 obtain ⟨g9,h⟩:=Ak h;refine ds2 (oI 272 13 ((y8++aB).length)) (oi 272 10) (oi 272 13) (.arr 3 .int (y8++aB)) (P5 (t:=.int) (t':=.int) (xs:=y8) (ys:=aB) (zs:=y8++aB) (j:=oi 272 10) (len:=y8.length) (c:=tI aB) kr kr rfl kr J2 rfl g9) (dz0 (oI 272 13 ((y8++aB).length)) (Co (As kr) (tn_ (wr_ (Ae (sqF h (fun u3=>sT [(0,ai bA),(3,.box (oi 0 1) 0),(4,.box (oi 1 1) 0),(7,oS 2 1 u3.length)] [(oi 0 1,.cells 181 [ai bB,.tree Yb qA,tI aA,tI aB]),(oi 1 1,.cells 36 [ai 0,ai 0,.nils]),(oi 2 1,.mat 42 (oi 3 1) .int u3),(oi 3 1,.pool 3 .int u3)]) ?_ fun u3 h=>Ab (Aa 13 (rsT 8 (rcG h [ai bA,an aA.length,an aB.length,oS 2 1 u3.length] (fun h=>Fc hz_ (Qw h)) (Al kr (Al kr (Al kr (Al (La (p:=oi 3 1) (e1:=42) (e:=3) (u:=.int) (xss:=u3) kr (Cc kr) rfl) Bg)))) fun y25 h=>rsB 2 (rnW (Ac (jZ h [(true,[ai y25.1,ai y25.2.1,.ftr nz_ sI y25.2.2]),(false,[.bool true])] (Ea (Aw B2 (Aw B2 (Aw (Bp .ftr) Ee))) (Ji B2 B8))))))))))))));intro _ h;refine Ab (Aa 21 (rsT 2 (rcM h [] [ai bA,.agg [ai bB,.tree Yb qA,tI aA,tI aB]] (fun h=>Sy (Xe h)) trivial (aR kr) (Ay kr kr trivial) fun y13 h=>rsT 2 (rnW (Ad (lpF h (fun (u6,u1)=>sT [(0,ai bA),(3,.box (oi 0 1) 0),(4,.box (oi 1 1) 0),(6,oI 2 1 ((y8++aB).length)),(7,oS 3 1 u1.length),(23,oS 5 1 y13.length),(24,an y13.length),(25,an u6)] [(oi 0 1,.cells 181 [ai bB,.tree Yb qA,tI aA,tI aB]),(oi 1 1,.cells 36 [ai 0,ai 0,.nils]),(oi 2 1,.arr 3 .int (y8++aB)),(oi 3 1,.mat 42 (oi 4 1) .int u1),(oi 4 1,.pool 3 .int u1),(oi 5 1,.mat 42 (oi 6 1) .int y13),(oi 6 1,.pool 3 .int y13)]) ((Og 7 42 sI kr).trans ((Ex (e1:=42) (n:=0) 9000 (oi 7 21) 3 .int kr kr rfl kr kr).trans (Ag [(oi 0 1,oi 3 1),(oi 1 1,oi 4 2),(oi 2 1,oi 272 13),(oi 3 1,oi 7 21),(oi 4 1,oi 9000 22),(oi 5 1,oi 368 18),(oi 6 1,oi 369 18)]))) ?_))))));rintro n_ ⟨u6,u1⟩ c_ h hn14;refine Ae (Ab (kQ h (fun _ h=>skW (Ab (Ad (Ab (Aa 6 ?_))))) fun _ h=>lxT (have h:=jO h hn14;jE [(oi 2 1,oi 3 1),(oi 3 1,oi 4 1)])));obtain ⟨x20,e20,h⟩:=Ah h;refine zO (oi 5 1) sI y13.length (Ai e20) (rsl (.own (kid (oi 6 1) u6) .int 0 x20.length) (D6 (o:=oi 5 1) (p:=oi 6 1) (e1:=42) (u:=.int) (xss:=y13) (row:=x20) (j:=u6) kr kr e20) (rsT 1 (rnW (Aa 13 (rsT 3 (rcG h [oI 2 1 ((y8++aB).length),.own (kid (oi 6 1) u6) .int 0 x20.length] (fun h=>Gb (Aat h)) (Al (Bl (e:=3) kr rfl) (Al (Bl (e:=3) (u:=.int) (xs:=x20) (Bc kr e20) rfl) Bg)) fun y21 h=>Lq (oS 33 10 1) (oi 33 10) (.vec 42 1 1 ([oI 512 9 y21.length])) trivial (Dt kr) ?_))))));obtain ⟨g22,h⟩:=Ak h;refine zV (oi 3 1) (oi 33 10) (oi 4 1) u1 [oI 512 9 y21.length] g22 (rsT 1 (Ap (bn_ (tn_ ⟨_,El (e1:=42) (e:=3) (u:=.int) (n:=u1.length+1) (len:=y21.length) (row:=y21) (ys:=y21) (xss:=u1) 9000 (oi 3 11) (oi 4 1) (oi 512 9) kr kr rfl kr kr (Nm rfl) (Nn rfl) kr kr kr,Aa 16 (raH h fun h=>rsT 1 (Ap (tn_ ?_)))⟩))));obtain rfl:=zj h;exact jLw hn14 ((wL 7 ((by simp):u1.length+1=(u1++[y21]).length)).trans (Ag [(oi 3 1,oi 3 11),(oi 4 1,oi 9000 13)]))
def Bo (a0 u0 u1:Int) (u2:ByteArray):Option (Int×Int×LL) :=
 (Md u0 u1 u2).bind fun y3 =>
(Es a0 y3.1 y3.2.1 y3.2.2.1 y3.2.2.2).bind fun y4 =>
some (y4.1,y4.2.1,y4.2.2.1)
theorem Acz (h:Bo bA bB bC gA=some pA):cK 95 [ai bA,.agg [ai bB,ai bC,.str gA]] (Ck pA):=by
 exact cZ Tryz.func95 fun zn_ nz_ hz_=>Ae (Ab (Aa 13 (rsT 2 (rcH h (fun h=>Fc hz_ (Ach h)) fun y3 h=>rcH h (fun h=>Fc hz_ (Yo h)) fun y4 h=>rsB 6 (rnW (Ae (Ac (jZ h [(true,[ai y4.1,ai y4.2.1,.ftr nz_ sI y4.2.2.1])] (Ea (Aw B2 (Aw B2 (Aw (Bp .ftr) Ee))) B8)))))))))
def Fy (u2:List (Int×Int×ByteArray)) (a0:Int) (u1:Nat) (u0:List (Int×Int×LL)):Option (Ctl (Nat×(List (Int×Int×LL))) (Ctl (List (Int×Int×LL)) (Int×Int×LL×Bool))) :=
 cond (decide ((u1:Int)<(u2.length:Int)))
 (Di ((u2[u1]?).bind fun x16 =>
  (Cf x16.1).bind fun y19 =>
  cond (!y19)
   (some (Ctl.out (Ctl.out (Ctl.out (0,0,[],false)))))
   ((cond (x16.1 !=15)
     (some (x16.1 !=16))
     (some false)).bind fun u3 =>
   cond u3
    ((Bo a0 x16.1 x16.2.1 x16.2.2).bind fun y27 =>
    og (u0.length+1<=1073741824/\(u0.length+1)*40<=140737488355328) <|
    some (Ctl.next (u0++[y27])))
    ((Cb u0 (wI ((u0.length:Int) - 2))).bind fun x30 =>
    (Cb u0 (wI ((u0.length:Int) - 2))).bind fun x31 =>
    (Cb u0 (wI ((u0.length:Int) - 1))).bind fun x32 =>
    (Cb u0 (wI ((u0.length:Int) - 1))).bind fun x33 =>
    og ((0:Int)<=0/\0<=wI ((u0.length:Int) - 2)/\wI ((u0.length:Int) - 2)<=(u0.length:Int)) <|
    cond (x16.1==15)
     ((Fv a0 x31.1 x31.2.1 x31.2.2 x33.1 x33.2.1 x33.2.2).bind fun y38 =>
     og ((wI ((u0.length:Int) - 2)).toNat<=u0.length/\(wI ((u0.length:Int) - 2)).toNat+1<=1073741824/\((wI ((u0.length:Int) - 2)).toNat+1)*40<=140737488355328) <|
     some (Ctl.next (u0.take ((wI ((u0.length:Int) - 2)).toNat)++[y38])))
     ((Gy a0 x31.1 x31.2.1 x31.2.2 x33.1 x33.2.1 x33.2.2).bind fun y40 =>
     og ((wI ((u0.length:Int) - 2)).toNat<=u0.length/\(wI ((u0.length:Int) - 2)).toNat+1<=1073741824/\((wI ((u0.length:Int) - 2)).toNat+1)*40<=140737488355328) <|
     some (Ctl.next (u0.take ((wI ((u0.length:Int) - 2)).toNat)++[y40])))))) fun u4 =>
 og (u1+1<4611686018427387904) <|
 some (Ctl.next (u1+1,u4)))
 (some (Ctl.out (Ctl.next u0)))
def Ps (a0:Int) (u0:List (Int×Int×ByteArray)):Option (Int×Int×LL×Bool) :=
 (Jv a0 u0).bind fun y4 =>
cond (!y4)
 (some (0,0,[],false))
 (Di (Aq (fun s_:Nat×(List (Int×Int×LL))=>Fy u0 a0 s_.1 s_.2) 4611686018427387904 (0,[])) fun u1 =>
 (u1[0]?).bind fun x44 =>
 some (x44.1,x44.2.1,x44.2.2,true))
theorem Aby (h:Ps bA hA=some tA):cK 57 [ai bA,.agg [.tree Y8 hA]] (Rc tA):=by
 refine cZ Tryz.func57 fun zn_ nz_ hz_=>Ae (Ab (Ab (Aa 8 (rsT 2 (rcH h (fun h=>Gb (R5 h)) fun y4 h=>rsT 1 (rnW (kQ h (fun _ h=>Ae (Ac (tr_ (jZ h [(true,[ai 0,ai 0,.nils]),(false,[.bool false])] (Ea (Aw B2 (Aw B2 (Aw (Bp (t:=sI) (xs:=[]) .nil) Ee))) (Ji B2 B8)))))) fun _ h=>skW (Ae (sqC h (fun u2=>sT [(4,.box (oi 0 1) 0),(6,.own (oi 1 1) Y9 0 u2.length)] [(oi 0 1,.cells 36 [ai 0,ai 0,.nils]),(oi 1 1,.tv 36 (some nz_) Y9 u2)]) ?_ ?_)))))))))
 ·intro _ h hk8;refine Ae (Ad (lpF h (fun (u3,u0)=>sT [(0,ai bA),(4,.box (oi 0 1) 0),(6,.own (oi 1 1) Y9 0 u0.length),(17,.tree Y8 hA),(18,an hA.length),(19,an u3)] [(oi 0 1,.cells 36 [ai 0,ai 0,.nils]),(oi 1 1,.tv 36 (some nz_) Y9 u0)]) ((X6 6 36 (some nz_) Y9 kr).trans (Ag [(oi 0 1,oi 4 2),(oi 1 1,oi 6 13)])) ?_));rintro n_ ⟨u3,u0⟩ c_ h hn10
  (try dsimp only at h);refine Ae (Ab (kQ h (fun q13 h=>?_) fun q13 h=>?_))
  ·have q13_:=of_decide_eq_true q13;refine skW (sqC h (fun u4=>sT [(0,ai bA),(4,.box (oi 0 1) 0),(6,.own (oi 1 1) Y9 0 u4.length),(17,.tree Y8 hA),(18,an hA.length),(19,an u3)] [(oi 0 1,.cells 36 [ai 0,ai 0,.nils]),(oi 1 1,.tv 36 (some nz_) Y9 u4)]) ?_ ?_)
   ·intro _ h hk14;refine Ad (Ab (Aa 7 (riH Y8 h fun x16 _ h=>rsB 3 (rnW (Ab (Ab (Aa 11 (rsT 2 (rcH h (fun h=>Gb (Kn h)) fun y19 h=>rsT 1 (rnW (kQ h (fun _ h=>?_) fun _ h=>?_)))))))))))
    ·refine Ae (Ac (tr_ (br_ (tr_ (tr_ (br_ (tr_ ?_)))))));have h:=jO h hk14
     (try dsimp only at h);have h:=jO h hn10
     (try dsimp only at h);have h:=jO h hk8
     (try dsimp only at h);exact jZ h [(true,[ai 0,ai 0,.nils]),(false,[.bool false])] (Ea (Aw B2 (Aw B2 (Aw (Bp (t:=sI) (xs:=[]) .nil) Ee))) (Ji B2 B8))
    refine skW (Ab (sqF h (fun u5=>sT [(0,ai bA),(4,.box (oi 0 1) 0),(6,.own (oi 1 1) Y9 0 u0.length),(8,.box (oi 2 1) 0),(17,.tree Y8 hA),(18,an hA.length),(19,an u3),(35,.bool u5)] [(oi 0 1,.cells 36 [ai 0,ai 0,.nils]),(oi 1 1,.tv 36 (some nz_) Y9 u0),(oi 2 1,.cells 117 [ai x16.1,ai x16.2.1,.str x16.2.2])]) (fun _ h=>Aa 19 (rsT 4 (kR h 31 (fun _ h=>rsT 4 (Ap (tn_ (jE [(oi 2 1,oi 8 5)])))) fun _ h=>rsT 4 (Ap (tn_ (jE [(oi 2 1,oi 8 5)])))))) ?_));intro u5 h
    (try dsimp only at h);refine kQ h (fun _ h=>?_) fun _ h=>?_
    ·refine Ab (Aa 9 (rsT 3 (rcH h (fun h=>Fc hz_ (Acz h)) fun y27 h=>Lq (.own (oi 40 6) Y9 0 1) (oi 40 6) (.vec 36 3 1 (tvC (some nz_) Y9 ([y27]))) trivial (Dt kr) ?_)));obtain ⟨g28,h⟩:=Ak h;refine rs2 (.own (oi 1 7) Y9 0 (u0.length+1)) (oi 1 1) (oi 1 7) (.vec 36 3 (u0.length+1) (tvC (some nz_) Y9 (u0++[y27]))) (Zo (t':=Y9) (t:=Y9) (t2:=Y9) (e2:=36) (q:=oi 40 6) (m:=some nz_) (z:=y27) (o:=oi 1 1) (xs:=u0) (len:=u0.length) kr kr rfl kr kr g28) (rsT 1 (Ap (tn_ ⟨_,Dc (N:=u0.length+1) (oi 1 7) 36 (some nz_) Y9 (u0++[y27]) kr (by simp),Dv (te_ (be_ (tn_ ?_)))⟩)));obtain rfl:=zj h;exact ⟨_,rfl,(wL 6 ((by simp):u0.length+1=(u0++[y27]).length)).trans (Ag [(oi 1 1,oi 1 7)])⟩
    refine skW (Ab (Ao 18 (dsT 4 ?_)));obtain ⟨x30,f30,h⟩:=Ah h;obtain ⟨p30,b30,e30⟩:=Ar f30;refine ds0 (.elt (oi 1 1) ((wI ((u0.length:Int) - 2)).toNat) 0) (zo (t:=Y9) (o:=oi 1 1) (len:=u0.length) (k:=.i64) (m:=wI ((u0.length:Int) - 2)) p30 (Ai e30)) ?_;obtain ⟨x31,f31,h⟩:=Ah h;obtain ⟨p31,b31,e31⟩:=Ar f31;refine dsl (.agg [ai x31.1,ai x31.2.1,.ftr nz_ sI x31.2.2]) (Wa (o:=oi 1 1) (k:=0) (e1:=36) (N:=List.length u0) (t:=Y9) (m:=some nz_) (xs:=u0) (z:=x31) kr kr e31 kr (Nat.le_of_ble_eq_true kr)) (dz0 (.own (oi 1 1) Y9 0 u0.length) (dz0 (.own (oi 1 1) Y9 0 u0.length) (dz0 (an u0.length) (dz0 (ai (wI ((u0.length:Int) - 1))) ?_))));obtain ⟨x32,f32,h⟩:=Ah h;obtain ⟨p32,b32,e32⟩:=Ar f32;refine ds0 (.elt (oi 1 1) ((wI ((u0.length:Int) - 1)).toNat) 0) (zo (t:=Y9) (o:=oi 1 1) (len:=u0.length) (k:=.i64) (m:=wI ((u0.length:Int) - 1)) p32 (Ai e32)) ?_;obtain ⟨x33,f33,h⟩:=Ah h;obtain ⟨p33,b33,e33⟩:=Ar f33;refine dsl (.agg [ai x33.1,ai x33.2.1,.ftr nz_ sI x33.2.2]) (Wa (o:=oi 1 1) (k:=0) (e1:=36) (N:=List.length u0) (t:=Y9) (m:=some nz_) (xs:=u0) (z:=x33) kr kr e33 kr (Nat.le_of_ble_eq_true kr)) (ds1 (.box (oi 9 14) 0) (oi 9 14) (.cells 36 [ai 0,ai 0,.nils]) kr (ds1 (.box (oi 10 15) 0) (oi 10 15) (.cells 36 [ai 0,ai 0,.nils]) kr (Oz (oi 9 14) (oi 9 14) (.cells 36 [ai x31.1,ai x31.2.1,.ftr nz_ sI x31.2.2]) kr (Oz (oi 10 15) (oi 10 15) (.cells 36 [ai x33.1,ai x33.2.1,.ftr nz_ sI x33.2.2]) kr (Co (As kr) (tn_ (wr_ (Ab (Aa 24 (rsT 4 ?_))))))))));obtain ⟨g35,h⟩:=Ak h;refine rs0 (.own (oi 1 1) Y9 0 ((wI ((u0.length:Int) - 2)).toNat)) (G5 (t:=Y9) (i:=oi 1 1) (off:=0) (len:=u0.length) (l:=0) (h:=wI ((u0.length:Int) - 2)) kr kr kr rfl g35 rfl oM) (rsT 1 (rnW (Ae (kQ h (fun _ h=>?_) fun _ h=>?_))))
    ·refine Aa 35 (rsT 4 (rcH h (fun h=>Fc hz_ (Vq h)) fun y38 h=>Lq (.own (oi 67 32) Y9 0 1) (oi 67 32) (.vec 36 3 1 (tvC (some nz_) Y9 ([y38]))) trivial (Dt kr) ?_));obtain ⟨g39,h⟩:=Ak h;refine rs2 (.own (oi 1 33) Y9 0 ((wI ((u0.length:Int) - 2)).toNat+1)) (oi 1 1) (oi 1 33) (.vec 36 3 ((wI ((u0.length:Int) - 2)).toNat+1) (tvC (some nz_) Y9 (u0.take ((wI ((u0.length:Int) - 2)).toNat)++[y38]))) (Zw (o:=oi 1 1) (q:=oi 67 32) (e2:=36) (t:=Y9) (t':=Y9) (t2:=Y9) (len:=(wI ((u0.length:Int) - 2)).toNat) (N:=u0.length) (m:=some nz_) (xs:=u0) (z:=y38) kr kr rfl kr kr g39) (rsT 1 (Ap (bn_ (tn_ ?_))));obtain rfl:=zj h;exact ⟨_,rfl,(Dc (N:=(wI ((u0.length:Int) - 2)).toNat+1) (oi 1 33) 36 (some nz_) Y9 (u0.take ((wI ((u0.length:Int) - 2)).toNat)++[y38]) kr (So rfl g39)).trans ((wL 6 ((So rfl g39):(wI ((u0.length:Int) - 2)).toNat+1=(u0.take ((wI ((u0.length:Int) - 2)).toNat)++[y38]).length)).trans (Ag [(oi 1 1,oi 1 33)]))⟩
    refine Aa 35 (rsT 4 (rcH h (fun h=>Fc hz_ (Wo h)) fun y40 h=>Lq (.own (oi 74 32) Y9 0 1) (oi 74 32) (.vec 36 3 1 (tvC (some nz_) Y9 ([y40]))) trivial (Dt kr) ?_));obtain ⟨g41,h⟩:=Ak h;refine rs2 (.own (oi 1 33) Y9 0 ((wI ((u0.length:Int) - 2)).toNat+1)) (oi 1 1) (oi 1 33) (.vec 36 3 ((wI ((u0.length:Int) - 2)).toNat+1) (tvC (some nz_) Y9 (u0.take ((wI ((u0.length:Int) - 2)).toNat)++[y40]))) (Zw (o:=oi 1 1) (q:=oi 74 32) (e2:=36) (t:=Y9) (t':=Y9) (t2:=Y9) (len:=(wI ((u0.length:Int) - 2)).toNat) (N:=u0.length) (m:=some nz_) (xs:=u0) (z:=y40) kr kr rfl kr kr g41) (rsT 1 (Ap (bn_ (tn_ ?_))));obtain rfl:=zj h;exact ⟨_,rfl,(Dc (N:=(wI ((u0.length:Int) - 2)).toNat+1) (oi 1 33) 36 (some nz_) Y9 (u0.take ((wI ((u0.length:Int) - 2)).toNat)++[y40]) kr (So rfl g41)).trans ((wL 6 ((So rfl g41):(wI ((u0.length:Int) - 2)).toNat+1=(u0.take ((wI ((u0.length:Int) - 2)).toNat)++[y40]).length)).trans (Ag [(oi 1 1,oi 1 33)]))⟩
   intro u4 h
   (try dsimp only at h);refine Aa 4 ?_;obtain ⟨g42,h⟩:=Ak h;exact zA g42 (rsT 1 (Ap (tn_ (jL []))))
  have q13_:=of_decide_eq_false q13;refine lxT ?_;have h:=jO h hn10
  (try dsimp only at h);exact jC []
 intro u2 h
 (try dsimp only at h);refine Ab (Aa 7 (rsT 1 ?_));obtain ⟨x44,e44,h⟩:=Ah h;exact rs0 (.elt (oi 1 1) 0 0) (Wn (t:=Y9) (o:=oi 1 1) (len:=u2.length) (k:=.i64) (m:=0) kr kr rfl (by decide) rfl (Ai e44)) (rsl (.agg [ai x44.1,ai x44.2.1,.ftr nz_ sI x44.2.2]) (Wa (o:=oi 1 1) (k:=0) (e1:=36) (N:=List.length u2) (t:=Y9) (m:=some nz_) (xs:=u2) (z:=x44) kr kr e44 kr (Nat.le_of_ble_eq_true kr)) (rsB 2 (rnW (Ac (jZ h [(true,[ai x44.1,ai x44.2.1,.ftr nz_ sI x44.2.2]),(false,[.bool true])] (Ea (Aw B2 (Aw B2 (Aw (Bp .ftr) Ee))) (Ji B2 B8)))))))
def Mp (a0:Int) (u1:ByteArray) (u0:List (Int×Int×ByteArray)) (u2 u3:Int) (u4:LL):Option (Int×Int×LL) :=
 (Ps a0 u0).bind fun y3 =>
some (y3.1,y3.2.1,y3.2.2.1)
theorem Aaf (h:Mp bA gA hA bB bC dA=some pA):cK 28 [ai bA,.agg [.str gA,.tree Y8 hA,ai bB,ai bC,tS dA]] (Ck pA):=by
 exact cZ Tryz.func28 fun zn_ nz_ hz_=>Ae (Ab (Aa 13 (rsT 3 (rcH h (fun h=>Fc hz_ (Aby h)) fun y3 h=>rsB 6 (rnW (Ae (Ac (jZ h [(true,[ai y3.1,ai y3.2.1,.ftr nz_ sI y3.2.2.1])] (Ea (Aw B2 (Aw B2 (Aw (Bp .ftr) Ee))) B8)))))))))
def Ht (a0:Int) (u2:ByteArray) (u3:List (Int×Int×ByteArray)) (u0 u4:Int) (u1:LL):Option (List Int×List Int×Bool) :=
 (Ej a0 u2 u3 u0 u4 u1).bind fun y4 =>
cond (!y4)
 (some ([],[],false))
 ((Mp a0 u2 u3 u0 u4 u1).bind fun y8 =>
 (F9 a0 y8.2.2 u1).bind fun y9 =>
 cond ((y9.length:Int)==0)
  (some ([],[],false))
  (og ((0:Int)<=0/\0<=u0/\u0<=(y9.length:Int)/\(y9.length:Int)<=(y9.length:Int)) <|
  (Fi (y9.take u0.toNat)).bind fun y17 =>
  og ((0:Int)<=u0/\u0<=(y9.length:Int)/\(y9.length:Int)<=(y9.length:Int)/\(y9.length:Int)<=(y9.length:Int)) <|
  (Fi (y9.drop u0.toNat)).bind fun y19 =>
  some (y17,y19,true)))
def Uo (r:List Int×List Int×Bool):RV:=⟨true,[(false,[.new 3 .int r.1]),(false,[.new 3 .int r.2.1]),(false,[.sc (.bool r.2.2)])]⟩
theorem Ub (h:Ht bA gA hA bB bC dA=some uA):cK 10 [ai bA,.agg [.str gA,.tree Y8 hA,ai bB,ai bC,tS dA]] (Uo uA):=by
 refine cO Tryz.func10 (Ae (Ab (Ab (Aa 9 (rsT 2 (rcH h Aau fun y4 h=>rsT 1 (rnW (kQ h (fun _ h=>Ae (Ac (tr_ (jR h [.nils,.nils,.bool false] (Db rfl (T4 rfl) (Db rfl (T4 rfl) (Db rfl zl E6))))))) fun _ h=>skW (Ab (Ao 19 (dz0 (ai bA) (dz0 (ai bA) (dzl (.agg [.str gA,.tree Y8 hA,ai bB,ai bC,tS dA]) (dcH h Aaf fun y8 h=>dsT 4 ?_))))))))))))));obtain ⟨y9,h9,h⟩:=Ah h;refine Av1 (tI y9) [] [ai bA,tS y8.2.2,tS dA] _ (caps:=[]) trivial (Wj h9) kr (dz0 (tI y9) (Co (As kr) (tn_ (wr_ (Ab (Ae (kQ h (fun _ h=>Ae (Ac (tr_ (jR h [.nils,.nils,.bool false] (Db rfl (T4 rfl) (Db rfl (T4 rfl) (Db rfl zl E6))))))) fun _ h=>skW (Ae (Ab (Ao 37 (dz0 (tI y9) (dz0 (ai bB) ?_))))))))))));obtain ⟨g16,h⟩:=Ak h;obtain ⟨y17,h17,h⟩:=Ah h;obtain ⟨g18,h⟩:=Ak h;obtain ⟨y19,h19,h⟩:=Ah h;exact ds0 (tI (y9.take bB.toNat)) (Aix (t:=.int) (xs:=y9) (zs:=y9.take bB.toNat) (l:=0) (h:=bB) (m:=(y9.length:Int)) kr kr kr kr rfl g16 rfl) (dzc (oI 496 29 y17.length) [nI 496 29 y17] [tI (y9.take bB.toNat)] (Jy h17) (dz0 (tI y9) (dz0 (ai bB) (ds0 (tI (y9.drop bB.toNat)) (Aix (t:=.int) (xs:=y9) (zs:=y9.drop bB.toNat) (l:=bB) (h:=(y9.length:Int)) (m:=(y9.length:Int)) kr kr kr kr rfl g18 (by first|(rw [show (y9.length:Int).toNat=y9.length from rfl,List.take_length];done)|(rw [show (y9.length:Int).toNat=y9.length from rfl,List.take_length];rfl))) (dzc (oI 560 33 y19.length) [nI 560 33 y19] [tI (y9.drop bB.toNat)] (Jy h19) (dsT 3 (Co (As kr) (tn_ (wr_ (Ac (jR h [oI 496 29 y17.length,oI 560 33 y19.length,.bool true] (Db rfl (Cv kr rfl) (Db rfl (Cv kr rfl) (Db rfl zl E6))))))))))))))
end Go.Proofs.YtopjojkjaklalaaGreatDoor


namespace Go.Proofs.YtopjojkjaklalaaGreatDoor
open Go.RowKit Go.Deep
set_option maxRecDepth 4000
set_option maxHeartbeats 4800000
variable {bA:Int} {gA:ByteArray}
def Gq  (u0:Int) (u1:ByteArray):Option (Ctl (Int×ByteArray) ByteArray) :=
 cond (decide (0<u0))
 (og ((strOfNums [IntKind.u8.wrap (wI (48+Int.tmod u0 10))]).size+u1.size<=9223372036854775807) <|
 some (Ctl.next (wI (Int.tdiv u0 10),(strOfNums [IntKind.u8.wrap (wI (48+Int.tmod u0 10))])++u1)))
 (some (Ctl.out u1))
def Jz (a0:Int):Option ByteArray :=
 cond (decide (a0<=0))
 (some (⟨#[109,48]⟩:ByteArray))
 ((Aq (fun s_:Int×ByteArray=>Gq s_.1 s_.2) 4611686018427387904 (a0,(⟨#[]⟩:ByteArray))).bind fun u0 =>
 og ((⟨#[109]⟩:ByteArray).size+u0.size<=9223372036854775807) <|
 some ((⟨#[109]⟩:ByteArray)++u0))
theorem W0 (h:Jz bA=some gA):D1 Tryz.prog Tab 100 [ai bA] [] (.str gA) []:=by
 refine Br kr Tryz.func100 (B6 kr) (n:=20) kr (by simp) rfl kr trivial trivial (Ae (Ab (Ae (kQ h (fun _ h=>Ae (Ac (tr_ (by obtain rfl:=osj h;exact E4 [.str ((⟨#[109,48]⟩:ByteArray))] (Ag (tl:=[(2,.str ((⟨#[109,48]⟩:ByteArray)))]) (g:=2) []))))) fun _ h=>skW (Ae (sqF h (fun u1=>sT [(3,.str u1)] []) ?_ ?_))))))
 ·intro _ h;refine Ad (lpF h (fun (u0,u2)=>sT [(0,ai u0),(3,.str u2)] []) (Ag []) ?_);rintro n_ ⟨u0,u2⟩ c_ h hn9;refine Ab (Ae (kQ h (fun _ h=>skW (Ad (Ab (Aa 13 (rsT 1 (rs0 (ai (Int.tmod u0 10)) (Pb (k:=.i64) (a:=u0) (b:=10) kr kr (by decide)) (rsT 2 (Lq (oI 12 8 1) (oi 12 8) (.vec 5 1 1 [.int .u8 (IntKind.u8.wrap (wI (48+Int.tmod u0 10)))]) trivial (Dt kr) (rsT 2 ?_))))))))) fun _ h=>lxT (have h:=jO h hn9;jE [])));obtain ⟨g14,h⟩:=Ak h;exact rs0 (.str ((strOfNums [IntKind.u8.wrap (wI (48+Int.tmod u0 10))])++u2)) (Ap4 (a:=strOfNums [IntKind.u8.wrap (wI (48+Int.tmod u0 10))]) (b:=u2) kr kr g14) (rsT 1 (rnW (Aa 16 (rsT 1 (rs0 (ai (wI (Int.tdiv u0 10))) (Avq (k:=.i64) (a:=u0) (b:=10) kr kr (by decide)) (rsT 1 (Ap (bn_ (tn_ (jL []))))))))))
 intro u1 h;refine Ab (Aa 5 (rsT 1 ?_));obtain ⟨g16,h⟩:=Ak h;refine rs0 (.str ((⟨#[109]⟩:ByteArray)++u1)) (Ap4 (a:=(⟨#[109]⟩:ByteArray)) (b:=u1) kr kr g16) (rsT 1 (rnW (Ac ?_)));obtain rfl:=zj h;exact E4 [.str ((⟨#[109]⟩:ByteArray)++u1)] (Ag (tl:=[(2,.str ((⟨#[109]⟩:ByteArray)++u1))]) (g:=2) [])
end Go.Proofs.YtopjojkjaklalaaGreatDoor


namespace Go.Proofs.YtopjojkjaklalaaGreatDoor
open Go.RowKit Go.Deep
def grV (k v:Int):List (List Int):=if k=3 then [[1,1,1]] else if k=4 then [[1]] else if k=5 then [[1,0,1],[0,1,1]] else if k=7 then [[1,v]] else []
def Ajf (w w':World) (e:Ending) (xss:List (List Int)):Prop:=(∃ A c l,e=.returned (.slice A xss.length c)/\Sl (fun b=>w.heap.size<=b) w' (.slice .int) A c xss l)/\Below w.heap.size w w'
theorem Zm {R:Nat->Prop} {w:World} {b:Nat} {xss:List (List Int)} {c:Nat} (hR:R b) (hc:xss.length<=c/\c<=maxLen) (g:Nat->Nat)
  (h:∀ (i:Nat) (hi:i<xss.length),w.cell? ⟨b,i,none⟩=some (.slice (some ⟨g i,0,none⟩) xss[i].length xss[i].length)/\R (g i)/\xss[i].length<=maxLen/\∀ (j:Nat) (hj:j<xss[i].length),w.cell? ⟨g i,j,none⟩=some (.int .i64 xss[i][j])):∃ l,Sl R w (.slice .int) (some ⟨b,0,none⟩) c xss l:=by
 have ea:∀ (b i:Nat),(⟨b,0,none⟩:Addr).add (i*1)=⟨b,i,none⟩:=fun b i=>by
  by_cases h:i=0 <;> simp [Addr.add,h]
 refine ⟨_,hc.1,hc.2,fun i=>(List.range (xss.getD i []).length).flatMap fun j=>[⟨g i,j,none⟩],rfl,fun _=>⟨_,rfl,hR,fun i hi=>?_⟩⟩;obtain ⟨h1,h2,h3,h4⟩:=h i hi;have e:xss.getD i []=xss[i]:=by rw [gDg,gEg hi];rfl
 refine ⟨some ⟨g i,0,none⟩,xss[i].length,by rw [show Ty.size (.slice .int)=1 from rfl,ea];exact h1,Nat.le_refl _,h3,fun j=>[⟨g i,j,none⟩],by dsimp only;rw [e],fun _=>⟨_,rfl,h2,fun j hj=>?_⟩⟩;rw [show Ty.size .int=1 from rfl,ea];exact ⟨h4 j hj,rfl⟩
theorem Mc {w:World} {cs:Array Value} {t:TypeId} {b j:Nat} (hb:b=w.heap.size):(w.alloc (.cells cs t)).cell? ⟨b,j,none⟩=cs[j]?:=by subst hb;exact World.cell?_alloc_new _ _ _ _
theorem S5 {w:World} {o:Obj} {b j:Nat} (hb:b<w.heap.size):(w.alloc o).cell? ⟨b,j,none⟩=w.cell? ⟨b,j,none⟩:=World.cell?_alloc_lt _ _ _ hb
theorem gr3 (v:Int) (w:World):Calls Tryz.prog 127 #[.int .i64 3,.int .i64 v] w fun e w'=>Ajf w w' e [[1,1,1]]:=by
 go_enter Tryz.func127,Tryz.ntmps127
 go_wp2
 refine bodyPost_ret (v:=.slice (some ⟨w.heap.size+1,0,none⟩) 1 1) (by simp [results,Tryz.results127,go_sem]) rfl ?_
 obtain ⟨l,hl⟩:=Zm (R:=fun b=>w.heap.size<=b) (w:=(w.alloc (Obj.cells #[Value.int IntKind.i64 1,Value.int IntKind.i64 1,Value.int IntKind.i64 1] 3)).alloc (Obj.cells #[Value.slice (some ⟨w.heap.size,0,none⟩) 3 3] 42)) (b:=w.heap.size+1) (xss:=[[1,1,1]]) (c:=1) (Nat.le_succ _) ⟨Nat.le_refl _,by simp [maxLen]⟩ (fun i=>w.heap.size) (fun i hi=>by
  obtain rfl:i=0:=by simp at hi;omega
  refine ⟨by rw [Mc (by simp)];rfl,Nat.le_refl _,by simp [maxLen],fun j hj=>?_⟩;rcases (show j=0∨j=1∨j=2 by simp at hj;omega) with rfl|rfl|rfl <;> (rw [S5 (by simp <;> omega),Mc rfl];rfl))
 exact ⟨⟨_,_,l,rfl,hl⟩,by repeat (first|with_reducible exact Below.refl _ _|((with_reducible refine Below.setCell ?_ ?_ _);rotate_left;focus (first|(simp;done)|omega|(simp;omega)))|((with_reducible refine Below.alloc ?_ ?_ _);rotate_left;focus (first|(simp;done)|omega|(simp;omega)))|(with_reducible refine Below.drew ?_)|(with_reducible refine below_draws_ ?_ _))⟩
theorem gr4 (v:Int) (w:World):Calls Tryz.prog 127 #[.int .i64 4,.int .i64 v] w fun e w'=>Ajf w w' e [[1]]:=by
 go_enter Tryz.func127,Tryz.ntmps127
 go_wp2
 refine bodyPost_ret (v:=.slice (some ⟨w.heap.size+1,0,none⟩) 1 1) (by simp [results,Tryz.results127,go_sem]) rfl ?_
 obtain ⟨l,hl⟩:=Zm (R:=fun b=>w.heap.size<=b) (w:=(w.alloc (Obj.cells #[Value.int IntKind.i64 1] 3)).alloc (Obj.cells #[Value.slice (some ⟨w.heap.size,0,none⟩) 1 1] 42)) (b:=w.heap.size+1) (xss:=[[1]]) (c:=1) (Nat.le_succ _) ⟨Nat.le_refl _,by simp [maxLen]⟩ (fun i=>w.heap.size) (fun i hi=>by
  obtain rfl:i=0:=by simp at hi;omega
  refine ⟨by rw [Mc (by simp)];rfl,Nat.le_refl _,by simp [maxLen],fun j hj=>?_⟩;obtain rfl:j=0:=by simp at hj;omega
  rw [S5 (by simp <;> omega),Mc rfl];rfl)
 exact ⟨⟨_,_,l,rfl,hl⟩,by repeat (first|with_reducible exact Below.refl _ _|((with_reducible refine Below.setCell ?_ ?_ _);rotate_left;focus (first|(simp;done)|omega|(simp;omega)))|((with_reducible refine Below.alloc ?_ ?_ _);rotate_left;focus (first|(simp;done)|omega|(simp;omega)))|(with_reducible refine Below.drew ?_)|(with_reducible refine below_draws_ ?_ _))⟩
theorem gr7 (v:Int) (w:World):Calls Tryz.prog 127 #[.int .i64 7,.int .i64 v] w fun e w'=>Ajf w w' e [[1,v]]:=by
 go_enter Tryz.func127,Tryz.ntmps127
 go_wp2
 refine bodyPost_ret (v:=.slice (some ⟨w.heap.size+1,0,none⟩) 1 1) (by simp [results,Tryz.results127,go_sem]) rfl ?_
 obtain ⟨l,hl⟩:=Zm (R:=fun b=>w.heap.size<=b) (w:=(w.alloc (Obj.cells #[Value.int IntKind.i64 1,Value.int IntKind.i64 v] 3)).alloc (Obj.cells #[Value.slice (some ⟨w.heap.size,0,none⟩) 2 2] 42)) (b:=w.heap.size+1) (xss:=[[1,v]]) (c:=1) (Nat.le_succ _) ⟨Nat.le_refl _,by simp [maxLen]⟩ (fun i=>w.heap.size) (fun i hi=>by
  obtain rfl:i=0:=by simp at hi;omega
  refine ⟨by rw [Mc (by simp)];rfl,Nat.le_refl _,by simp [maxLen],fun j hj=>?_⟩;rcases (show j=0∨j=1 by simp at hj;omega) with rfl|rfl <;> (rw [S5 (by simp <;> omega),Mc rfl];rfl))
 exact ⟨⟨_,_,l,rfl,hl⟩,by repeat (first|with_reducible exact Below.refl _ _|((with_reducible refine Below.setCell ?_ ?_ _);rotate_left;focus (first|(simp;done)|omega|(simp;omega)))|((with_reducible refine Below.alloc ?_ ?_ _);rotate_left;focus (first|(simp;done)|omega|(simp;omega)))|(with_reducible refine Below.drew ?_)|(with_reducible refine below_draws_ ?_ _))⟩
theorem gr5 (v:Int) (w:World):Calls Tryz.prog 127 #[.int .i64 5,.int .i64 v] w fun e w'=>Ajf w w' e [[1,0,1],[0,1,1]]:=by
 go_enter Tryz.func127,Tryz.ntmps127
 go_wp2
 refine bodyPost_ret (v:=.slice (some ⟨w.heap.size+2,0,none⟩) 2 2) (by simp [results,Tryz.results127,go_sem]) rfl ?_
 obtain ⟨l,hl⟩:=Zm (R:=fun b=>w.heap.size<=b) (w:=((w.alloc (Obj.cells #[Value.int IntKind.i64 1,Value.int IntKind.i64 0,Value.int IntKind.i64 1] 3)).alloc (Obj.cells #[Value.int IntKind.i64 0,Value.int IntKind.i64 1,Value.int IntKind.i64 1] 3)).alloc (Obj.cells #[Value.slice (some ⟨w.heap.size,0,none⟩) 3 3,Value.slice (some ⟨w.heap.size+1,0,none⟩) 3 3] 42)) (b:=w.heap.size+2) (xss:=[[1,0,1],[0,1,1]]) (c:=2) oM ⟨Nat.le_refl _,by simp [maxLen]⟩ (fun i=>w.heap.size+i) (fun i hi=>by
  rcases (show i=0∨i=1 by simp at hi;omega) with rfl|rfl
  ·refine ⟨by rw [Mc (by simp)];rfl,Nat.le_add_right _ _,by simp [maxLen],fun j hj=>?_⟩;rcases (show j=0∨j=1∨j=2 by simp at hj;omega) with rfl|rfl|rfl <;> (rw [S5 (by simp <;> omega),S5 (by simp <;> omega),Mc (by simp)];rfl)
  ·refine ⟨by rw [Mc (by simp)];rfl,Nat.le_add_right _ _,by simp [maxLen],fun j hj=>?_⟩;rcases (show j=0∨j=1∨j=2 by simp at hj;omega) with rfl|rfl|rfl <;> (rw [S5 (by simp <;> omega),Mc (by simp)];rfl))
 exact ⟨⟨_,_,l,rfl,hl⟩,by repeat (first|with_reducible exact Below.refl _ _|((with_reducible refine Below.setCell ?_ ?_ _);rotate_left;focus (first|(simp;done)|omega|(simp;omega)))|((with_reducible refine Below.alloc ?_ ?_ _);rotate_left;focus (first|(simp;done)|omega|(simp;omega)))|(with_reducible refine Below.drew ?_)|(with_reducible refine below_draws_ ?_ _))⟩
theorem Ap9 (w:World):Ajf w w (.returned (.slice none 0 0)) []:=⟨⟨none,0,[],rfl,by simp,by simp [maxLen],fun _=>[],by simp,fun h=>absurd h (by simp)⟩,Below.refl _ _⟩
theorem gr6 (v:Int) (w:World):Calls Tryz.prog 127 #[.int .i64 6,.int .i64 v] w fun e w'=>Ajf w w' e []:=by
 go_enter Tryz.func127,Tryz.ntmps127
 go_wp2
 refine bodyPost_ret (v:=.slice none 0 0) (by simp [results,Tryz.results127,go_sem]) rfl ?_;exact Ap9 _
theorem gr8 (v:Int) (w:World):Calls Tryz.prog 127 #[.int .i64 8,.int .i64 v] w fun e w'=>Ajf w w' e []:=by
 go_enter Tryz.func127,Tryz.ntmps127
 go_wp2
 refine bodyPost_ret (v:=.slice none 0 0) (by simp [results,Tryz.results127,go_sem]) rfl ?_;exact Ap9 _
theorem Awe (k v:Int) (h:3<=k/\k<=8) (w:World):Calls Tryz.prog 127 #[.int .i64 k,.int .i64 v] w fun e w'=>Ajf w w' e (grV k v):=by
 rcases (show k=3∨k=4∨k=5∨k=6∨k=7∨k=8 by omega) with rfl|rfl|rfl|rfl|rfl|rfl
 ·exact gr3 v w
 ·exact gr4 v w
 ·exact gr5 v w
 ·exact gr6 v w
 ·exact gr7 v w
 ·exact gr8 v w
def H8 (a0 a1:Int):Option (List (List Int)):=og (3<=a0/\a0<=8) (some (grV a0 a1))
def Rk (r:List (List Int)):RV:=⟨false,[(false,[.frz (.tree (.slice .int) r)])]⟩
theorem Lt {a0 a1:Int} {r:List (List Int)} (h:H8 a0 a1=some r):Cr Tryz.prog Tab 127 [.int .i64 a0,.int .i64 a1] (Rk r):=by
 obtain ⟨hb,h⟩:=Ak h;obtain rfl:=osj h;intro w im vs hG hr;obtain ⟨u1,_,rfl,h1,u2,_,rfl,h2,h3⟩:=hr;obtain rfl:_=[]:=h3;obtain rfl:u1=.int .i64 a0:=h1;obtain rfl:u2=.int .i64 a1:=h2;refine (Awe a0 a1 hb w).mono ?_;rintro e w' ⟨⟨A,c,l,rfl,hs⟩,hbl⟩;exact ⟨_,rfl,hbl,[_],[],⟨_,[],rfl,⟨A,c,l,rfl,hs⟩,rfl,rfl,rfl⟩,⟨trivial,fun _=>rfl⟩,rfl⟩
end Go.Proofs.YtopjojkjaklalaaGreatDoor
namespace Go.Proofs.YtopjojkjaklalaaGreatDoor
open Go.RowKit Go.Deep
mutual
def AV.unT (R:Nat->Prop):AV->AV->Prop
 | .tree t xs,d=>d=.ftr R t xs
 | .agg cs,d=>∃ ds,d=.agg ds/\AV.unTL R cs ds
 | .fn f cs,d=>∃ ds,d=.fn f ds/\AV.unTL R cs ds
 | c,d=>d=c
def AV.unTL (R:Nat->Prop):List AV->List AV->Prop
 | [],ds=>ds=[]
 | c :: cs,ds=>∃ d ds',ds=d :: ds'/\AV.unT R c d/\AV.unTL R cs ds'
end
mutual
theorem Auc {σ:Oid->Option Loc} {R im im':Nat->Prop} {w:World} (hm:∀ (c:AV) (u:Value),AV.Rep σ im w c u->AV.Rep σ im' w c u) (hR:∀ b,im b->im' b/\R b):∀ (c d:AV) (u:Value),AV.unT R c d->AV.Rep σ im w c u->AV.Rep σ im' w d u
 | .tree t xs,d,u,h,⟨A,c,l,e,hs⟩=>by
  have h:d=.ftr R t xs:=h;subst h;exact ⟨A,c,l,e,Bz (fun b _ hb=>hR b hb) hs⟩
 | .agg cs,d,u,⟨ds,e,h⟩,hr=>by
  subst e;obtain ⟨us,e,hr⟩:=hr;exact ⟨us,e,Va hm hR cs ds us h hr⟩
 | .fn f cs,d,u,⟨ds,e,h⟩,hr=>by
  subst e;obtain ⟨us,e,hr⟩:=hr;exact ⟨us,e,Va hm hR cs ds us h hr⟩
 | .int ..,d,u,h,hr | .bool ..,d,u,h,hr | .str ..,d,u,h,hr | .err ..,d,u,h,hr | .nils,d,u,h,hr | .any,d,u,h,hr | .mtree ..,d,u,h,hr | .ftr ..,d,u,h,hr | .mp _,d,u,h,hr | .tup _,d,u,h,hr | .ref _,d,u,h,hr
 | .own ..,d,u,h,hr | .box ..,d,u,h,hr | .elt ..,d,u,h,hr | .sla ..,d,u,h,hr | .telt ..,d,u,h,hr | .giv ..,d,u,h,hr | .abool ..,d,u,h,hr=>by obtain rfl:d=_:=h;exact hm _ u hr
theorem Va {σ:Oid->Option Loc} {R im im':Nat->Prop} {w:World} (hm:∀ (c:AV) (u:Value),AV.Rep σ im w c u->AV.Rep σ im' w c u) (hR:∀ b,im b->im' b/\R b):∀ (cs ds:List AV) (us:List Value),AV.unTL R cs ds->AV.RepL σ im w cs us->AV.RepL σ im' w ds us
 | [],ds,us,h,hr=>by obtain rfl:ds=[]:=h;exact hr
 | c :: cs,ds,us,⟨d,ds',e,h1,h2⟩,hr=>by
  subst e;obtain ⟨u,us',e,r1,r2⟩:=hr;exact ⟨u,us',e,Auc hm hR c d u h1 r1,Va hm hR cs ds' us' h2 r2⟩
end
theorem Ag1 {σ:Oid->Option Loc} {im:Nat->Prop} {w:World}:∀ (cs:List AV) (vs:List Value),AV.RepL σ im w cs vs->AV.RepL σ im w (cs.map AV.un) vs
 | [],_,h=>h
 | _ :: cs,_,⟨u,us,e,h1,h2⟩=>⟨u,us,e,Abt h1,Ag1 cs us h2⟩
theorem Alp {R:Nat->Prop}:∀ (t:Ty) (x:t.D),(t.avM (some R) x).map AV.un=t.avM none x
 | .int,_=>rfl
 | .bool,_=>rfl
 | .str,_=>rfl
 | .slice t,xs=>rfl
 | .pair a b,x=>by simp only [Ty.avM,List.map_append,Alp a,Alp b]
theorem Apv {R:Nat->Prop} {t:Ty} (xs:List t.D):(tvC (some R) t xs).map AV.un=tvC none t xs:=by
 unfold tvC;rw [List.map_flatMap];congr 1;funext x;exact Alp t x
theorem Agr {R:Nat->Prop} {D:Oid->Prop}:∀ (t:Ty) (x:t.D),∀ c∈t.avM (some R) x,c.hp D∨∃ (t:Ty) (xs:List t.D),c=.ftr R t xs
 | .int,_,c,h=>by obtain rfl:=List.mem_singleton.1 h;exact .inl trivial
 | .bool,_,c,h=>by obtain rfl:=List.mem_singleton.1 h;exact .inl trivial
 | .str,_,c,h=>by obtain rfl:=List.mem_singleton.1 h;exact .inl trivial
 | .slice t,xs,c,h=>by obtain rfl:=List.mem_singleton.1 h;exact .inr ⟨t,xs,rfl⟩
 | .pair a b,x,c,h=>(List.mem_append.1 h).elim (Agr a x.1 c) (Agr b x.2 c)
theorem Ah7 {P:Program} [IsP P] {G:World->Prop} (hfol:P.follows .mixedOrders=true) {g:FuncId} {fn:Func} (hf:P.funcs[g]? =some fn) {ac:AC} {rs:List Res} (hc:Ci P fn=some (ac,rs)) {args0:List AV} (args:(Nat->Prop)->List AV) {n:Nat} (hN:fn.ntmps=n) (hn:∀ R,(args R).length<=n)
  {tl:(Nat->Prop)->List (Nat×AV)} (htl:∀ R,tmL 0 (args R)=tl R) {e:TypeId} {t t':Ty} {xs:List t.D} (hu:∀ R,AV.unTL R args0 (args R)) (hcl:∀ R,AV.cloL [] (args R)=true) (hrn:∀ R θ,AV.renL θ (args R)=args R)
  (h:∀ R,awp P G ac (fun en S=>∃ S',WeakG G S S'/\(en=.normal∨en=.ret)/\(∃ rvs,Res.evL S'.tm S'.ob rs=some rvs/\AV.own (oi 0 1) t' 0 xs.length=Ady rvs)/\∀ q∈exL [(oi 0 1,Ob.tv e (some R) t xs)],S'.ob q.1=some q.2) ⟨Am (tl R),Aj (B9 []),1⟩):Wh P G g args0 (.own (oi 0 1) t' 0 xs.length) [(oi 0 1,.tv e none t xs)]:=by
 intro i w0 ob σ K w vs hM hi hargs;unfold Ci at hc;split at hc
 ·rename_i c hb;split at hc
  ·rename_i ac' rs' h1 h2;obtain ⟨rfl,rfl⟩:=Prod.mk.inj (osj hc)
   have hU:Avp P G (imm ob σ) g (args (imm ob σ)) [] (.own (oi 0 1) t' 0 xs.length) [(oi 0 1,.tv e (some (imm ob σ)) t xs)]:=by
    refine Ajd hfol hf hb h1 h2 (by have:=hn (imm ob σ);omega) (fun q hq=>by cases hq) (by simp [nmL,exL]) (fun q hq=>?_) (AV.cloPL_of _ (hcl _)) (show oi 0 1∈nmL _ by simp [nmL,exL]) ?_
    ·obtain rfl:=List.mem_singleton.1 hq;refine ⟨.inl rfl,.inr (.inr fun c hc=>?_)⟩;obtain ⟨x,_,hx⟩:=List.mem_flatMap.1 hc;exact Agr t x c hx
    ·have:=h (imm ob σ);rw [← htl,← Agn] at this;exact this
   refine (hU (fun j=>j) i w0 ob σ K w vs (fun _ h=>h) hM hi (fun q hq=>by cases hq) (fun _ _ hj=>by cases hj) (fun _ hj=>by cases hj) ?_).mono ?_
   ·rw [hrn];have hO:∀ b,imm ob σ b->Ad1 (fun j=>j) [] σ b:=fun b _ q hq=>by cases hq
    have hL:Later σ σ (imm ob σ) (Ad1 (fun j=>j) [] σ) w w:=⟨fun _ _ h=>h,fun b _ hb=>hO b hb,fun _ _ _=>rfl,Nat.le_refl _⟩
    exact Va (fun c u hr=>AV.Rep.later hL c u hr) (fun b hb=>⟨hO b hb,hb⟩) _ _ _ (hu _) hargs
   ·rintro en w' ⟨u,rfl,σ',k1,k2,k3⟩;have ea:Ax (Ie (fun j=>j) i [] [(oi 0 1,.tv e (some (imm ob σ)) t xs)]) ob=upd ob (Bu (fun j=>j) i (oi 0 1)) (some ((Ob.vec e t.size xs.length (tvC (some (imm ob σ)) t xs)).ren (Bu (fun j=>j) i))):=rfl;have eb:Ax (Ie (fun j=>j) i [] [(oi 0 1,.tv e none t xs)]) ob=upd ob (Bu (fun j=>j) i (oi 0 1)) (some ((Ob.vec e t.size xs.length (tvC none t xs)).ren (Bu (fun j=>j) i))):=rfl;rw [ea] at k1 k2;generalize Bu (fun j=>j) i (oi 0 1)=ν at *
    have hd:∀ x,(∃ o,upd ob ν (some ((Ob.vec e t.size xs.length (tvC none t xs)).ren (Bu (fun j=>j) i))) x=some o)↔∃ o,upd ob ν (some ((Ob.vec e t.size xs.length (tvC (some (imm ob σ)) t xs)).ren (Bu (fun j=>j) i))) x=some o:=fun x=>by
     unfold upd;by_cases hx:x=ν
     ·simp [hx]
     ·simp [hx]
    refine ⟨u,rfl,?_⟩;rw [eb];have him:=Au2 (σ:=σ') hd;refine ⟨σ',by rw [him];exact k1,⟨k2.below,k2.inv,k2.gen,k2.lt,k2.cap,fun a b bl c s c' s' o o' ha hb'=>?_,fun a o l ha hl=>?_⟩,?_⟩
    ·obtain ⟨o1,h1⟩:=(hd a).1 ⟨o,ha⟩;obtain ⟨o2,h2⟩:=(hd b).1 ⟨o',hb'⟩;exact k2.inj a b bl c s c' s' o1 o2 h1 h2
    ·rw [him];by_cases hx:a=ν
     ·subst hx;have ha':some ((Ob.vec e t.size xs.length (tvC none t xs)).ren (Bu (fun j=>j) i))=some o:=by rw [← ha];simp [upd]
      obtain rfl:=osj ha';have hr:=k2.obs a ((Ob.vec e t.size xs.length (tvC (some (imm ob σ)) t xs)).ren (Bu (fun j=>j) i)) l (by simp [upd]) hl;cases l with
      | nil =>
       obtain ⟨vs1,q1,q2,q3⟩:=hr;refine ⟨vs1,q1,?_,q3⟩;have:=Ag1 _ _ q2;rw [Qv,Apv] at this;rw [Qv];exact this
      | at_ b c s =>
       obtain ⟨vs1,q1,q2,q3⟩:=hr;refine ⟨vs1,q1,?_,q3⟩;have:=Ag1 _ _ q2;rw [Qv,Apv] at this;rw [Qv];exact this
     ·refine k2.obs a o l ?_ hl;rw [← ha];simp [upd,hx]
    ·exact him▸k3
  ·cases hc
 ·cases hc
theorem Ag2 {P:Program} {G:World->Prop} {f:FuncId} {args:List AV} {n:Nat} {us:List (Oid×Ob)} {v:AV} (h:Wh P G f args v us):Wh P (GN G n) f args v us:=by
 intro i w0 ob σ K w vs hM h1 h2;refine (h i w0 ob σ K w vs ⟨hM.below,fun w' hb=>(hM.inv w' hb).1,hM.gen,hM.lt,hM.cap,hM.inj,hM.obs⟩ h1 h2).mono ?_;rintro e w' ⟨u,rfl,σ',q1,q2,q3⟩;exact ⟨u,rfl,σ',q1,⟨q2.below,hM.inv,q2.gen,q2.lt,q2.cap,q2.inj,q2.obs⟩,q3⟩
theorem Al0 {P:Program} {G:World->Prop} {n:Nat} {d:Option Nat} {gd:Option (Nat×Bool)} {fo:Opd} {xs:List Opd} {tys:List (List (Option Ty))} {f:Nat->AV} {ob:Oid->Option Ob} {F0 F:FuncId} {caps args:List AV} {v:AV} {us:List (Oid×Ob)}
  (hgd:Q1 gd f) (hfo:fo.ev f=.fn F0 caps) (hF:Pr F0=F) (hz:(C3 F0 xs (caps.map Opd.cst)).map (Opd.ev f)=args) (h5:∀ q∈exL us,q.1.2=1∨(q.1.2=0/\q.1∈nmL [])) (hb:Ch P F=true) (hc:Wh P G F args v us) :
  E5 P G false n ⟨d,gd,.call fo xs tys⟩ f ob (2,v.ren (Bu (fun j=>j) ((d.getD 0,0),n)),Ie (fun j=>j) ((d.getD 0,0),n) [] us):=by
 have hN:Alz P G f ob ((d.getD 0,0),n) (Pr F0) (C3 F0 xs (caps.map Opd.cst)) (v.ren (Bu (fun j=>j) ((d.getD 0,0),n)),Ie (fun j=>j) ((d.getD 0,0),n) [] us):=by
  subst hF hz;refine .inr ⟨hb,v,us,hc,fun j hj=>?_,rfl⟩;obtain ⟨q,hq,rfl⟩:=List.mem_map.1 hj;rcases h5 q hq with h|⟨_,h⟩
  ·rw [h];decide
  ·cases h
 have key:EvR P G false f ob ((d.getD 0,0),n) (.call fo xs tys) (2,v.ren (Bu (fun j=>j) ((d.getD 0,0),n)),Ie (fun j=>j) ((d.getD 0,0),n) [] us):=.inr ⟨fo,xs,tys,F0,caps,rfl,hfo,.inr ⟨rfl,rfl,hN⟩⟩;unfold E5;cases gd with
 | none=>exact key
 | some sb=>exact ⟨true,Xs hgd,by rw [if_pos rfl];exact key⟩
section
variable {P:Program} {G:World->Prop} {g k d:Nat} {gd:Option (Nat×Bool)} {xs:List X} {tl:List (Nat×AV)} {ol:List (Oid×Option Ob)} {bad:List (Nat×Nat)} {ra:List Rec} {da:List (List Oid)} {Kf:List (Nat×AV)->List (Oid×Option Ob)->Prop}
variable {fo:Opd} {ys:List Opd} {tys:List (List (Option Ty))} {F:FuncId} {caps:List AV}
theorem Aqe (v:AV) (ul:List (Oid×Option Ob)) {args:List AV} {us:List (Oid×Ob)} {v0:AV} (hgd:Q1 gd (Am tl)) (hc:Wh P G F args v0 us) (hb:Ch P F=true) (h3:XW P G g (k+1) xs ((d,v) :: tl) (ul++ol) Kf) (m:Nat:=0) (hfo:fo.ev (Am tl)=.fn (F+m) caps:=by kernel_rfl) (hz:(C3 (F+m) ys (caps.map Opd.cst)).map (Opd.ev (Am tl))=args:=by kernel_rfl) (hB:X2 [] [] us (g+k) ol=true:=by kernel_rfl) (hF:Pr (F+m)=F:=by kernel_rfl) (hv:v0.ren (Bu (fun j=>j) ((d,0),g+k))=v:=by kernel_rfl) (hu:B9 (Pv (Bu (fun j=>j) ((d,0),g+k)) us)=ul:=by kernel_rfl):XW P G g k (⟨some d,gd,.call fo ys tys⟩ :: xs) tl ol Kf:=by
 subst hv hu;obtain ⟨_,_,q3,q4⟩:=Wb hB trivial;exact Agp 2 _ _ _ (Al0 (n:=g+k) (d:=some d) hgd hfo hF hz q3 hb hc) (q4 ((d,0),g+k) rfl) h3
theorem Art (v:AV) (ul:List (Oid×Option Ob)) {args:List AV} {us:List (Oid×Ob)} {v0:AV} (hgd:Q1 gd (Am tl)) (hc:Wh P G F args v0 us) (hb:Ch P F=true) (h3:XD P G bad g (k+1) xs ((d,v) :: tl) (ul++ol) ((2,v,Ie (Ba []) ((d,0),g+k) [] us) :: ra) ((rdX (Am tl) (Aj ol) ⟨some d,gd,.call fo ys tys⟩) :: da) Kf) (m:Nat:=0) (hfo:fo.ev (Am tl)=.fn (F+m) caps:=by kernel_rfl) (hz:(C3 (F+m) ys (caps.map Opd.cst)).map (Opd.ev (Am tl))=args:=by kernel_rfl) (hB:X2 [] [] us (g+k) ol=true:=by kernel_rfl) (hF:Pr (F+m)=F:=by kernel_rfl) (hv:v0.ren (Bu (fun j=>j) ((d,0),g+k))=v:=by kernel_rfl) (hu:B9 (Pv (Bu (fun j=>j) ((d,0),g+k)) us)=ul:=by kernel_rfl):XD P G bad g k (⟨some d,gd,.call fo ys tys⟩ :: xs) tl ol ra da Kf:=by
 subst hv hu;obtain ⟨_,_,q3,q4⟩:=Wb hB trivial;exact Aj7 2 _ _ _ (Al0 (n:=g+k) (d:=some d) hgd hfo hF hz q3 hb hc) (q4 ((d,0),g+k) rfl) h3
end
end Go.Proofs.YtopjojkjaklalaaGreatDoor
namespace Go.Proofs.YtopjojkjaklalaaGreatDoor
open Go.RowKit Go.Deep
theorem Aiy (A:Option Addr):A.map (·.add (0*1))=A:=by
 cases A with
 | none=>rfl
 | some a=>simp [Addr.add]
def Bf (a0_0:Int) (_:Int) (_:List (List Int)) (a1:List Int):Option Nat:=og (0<=a0_0/\a0_0<=a1.length) (some a0_0.toNat)
def Gx (r:Nat):RV:=⟨false,[(false,[.argS 1 none 1 0 r])]⟩
theorem Eb {a0_0 a0_1:Int} {a0_2:List (List Int)} {a1:List Int} {r:Nat} (h:Bf a0_0 a0_1 a0_2 a1=some r):Cr Tryz.prog Tab 52 [.agg [.int .i64 a0_0,.int .i64 a0_1,.tree (.slice .int) a0_2],.tree .int a1] (Gx r):=by
 obtain ⟨hb,h⟩:=Ak h;obtain rfl:=osj h;intro w im vs hG hr;obtain ⟨u1,_,rfl,h1,u2,_,rfl,h2,h3⟩:=hr;obtain rfl:_=[]:=h3;obtain ⟨us,rfl,v1,_,rfl,e1,v2,_,rfl,e2,v3,_,rfl,e3,e4⟩:=h1;obtain rfl:_=[]:=e4;obtain rfl:v1=.int .i64 a0_0:=e1;obtain rfl:v2=.int .i64 a0_1:=e2;obtain ⟨A,c,ls,rfl,hS⟩:=h2;have hc:a1.length<=c/\c<=maxLen:=⟨hS.1,hS.2.1⟩
 go_enter Tryz.func52,Tryz.ntmps52
 go_wp2
 go_ret
 refine ⟨_,rfl,by repeat (first|with_reducible exact Below.refl _ _|((with_reducible refine Below.setCell ?_ ?_ _);rotate_left;focus (first|(simp;done)|omega|(simp;omega)))|((with_reducible refine Below.alloc ?_ ?_ _);rotate_left;focus (first|(simp;done)|omega|(simp;omega)))|(with_reducible refine Below.drew ?_)|(with_reducible refine below_draws_ ?_ _)),[_],[],⟨A,a1.length,c,[],?_,rfl,rfl,rfl⟩,⟨trivial,fun _=>rfl⟩,rfl⟩;show [Value.slice A a0_0.toNat c]=[Value.slice (if c=0 then A else A.map (·.add (0*1))) (a0_0.toNat - 0) (c - 0)];rw [Aiy,ite_self,Nat.sub_zero,Nat.sub_zero]
def Bd (a0_0:Int) (_:Int) (_:List (List Int)) (a1:List Int):Option (Nat×Nat):=og (0<=a0_0/\a0_0<=a1.length) (some (a0_0.toNat,a1.length))
def F6 (r:Nat×Nat):RV:=⟨false,[(false,[.argS 1 none 1 r.1 r.2])]⟩
theorem D0 {a0_0 a0_1:Int} {a0_2:List (List Int)} {a1:List Int} {r:Nat×Nat} (h:Bd a0_0 a0_1 a0_2 a1=some r):Cr Tryz.prog Tab 53 [.agg [.int .i64 a0_0,.int .i64 a0_1,.tree (.slice .int) a0_2],.tree .int a1] (F6 r):=by
 obtain ⟨hb,h⟩:=Ak h;obtain rfl:=osj h;intro w im vs hG hr;obtain ⟨u1,_,rfl,h1,u2,_,rfl,h2,h3⟩:=hr;obtain rfl:_=[]:=h3;obtain ⟨us,rfl,v1,_,rfl,e1,v2,_,rfl,e2,v3,_,rfl,e3,e4⟩:=h1;obtain rfl:_=[]:=e4;obtain rfl:v1=.int .i64 a0_0:=e1;obtain rfl:v2=.int .i64 a0_1:=e2;obtain ⟨A,c,ls,rfl,hS⟩:=h2;have hc:a1.length<=c/\c<=maxLen:=⟨hS.1,hS.2.1⟩
 go_enter Tryz.func53,Tryz.ntmps53
 go_wp2
 ·subst h
  go_ret
  refine ⟨_,rfl,by repeat (first|with_reducible exact Below.refl _ _|((with_reducible refine Below.setCell ?_ ?_ _);rotate_left;focus (first|(simp;done)|omega|(simp;omega)))|((with_reducible refine Below.alloc ?_ ?_ _);rotate_left;focus (first|(simp;done)|omega|(simp;omega)))|(with_reducible refine Below.drew ?_)|(with_reducible refine below_draws_ ?_ _)),[_],[],⟨A,a1.length,a0_0.toNat,[],?_,rfl,rfl,rfl⟩,⟨trivial,fun _=>rfl⟩,rfl⟩;show [Value.slice A (a1.length - a0_0.toNat) 0]=[Value.slice (if a0_0.toNat=a0_0.toNat then A else A.map (·.add (a0_0.toNat*1))) (a1.length - a0_0.toNat) (a0_0.toNat - a0_0.toNat)];rw [if_pos rfl,Nat.sub_self]
 ·go_ret
  refine ⟨_,rfl,by repeat (first|with_reducible exact Below.refl _ _|((with_reducible refine Below.setCell ?_ ?_ _);rotate_left;focus (first|(simp;done)|omega|(simp;omega)))|((with_reducible refine Below.alloc ?_ ?_ _);rotate_left;focus (first|(simp;done)|omega|(simp;omega)))|(with_reducible refine Below.drew ?_)|(with_reducible refine below_draws_ ?_ _)),[_],[],⟨A,a1.length,c,[],?_,rfl,rfl,rfl⟩,⟨trivial,fun _=>rfl⟩,rfl⟩;show [Value.slice (A.map (·.add a0_0.toNat)) (a1.length - a0_0.toNat) (c - a0_0.toNat)]=[Value.slice (if c=a0_0.toNat then A else A.map (·.add (a0_0.toNat*1))) (a1.length - a0_0.toNat) (c - a0_0.toNat)];rw [if_neg h,Nat.mul_one]
theorem Tg {t:Ty} {xs:List t.D} {sz l h:Nat} (h1:t.size=sz) (h2:l<=h) (h3:h<=xs.length):AV.part sz l h (.tree t xs)=.tree t ((xs.take h).drop l):=if_pos ⟨h1,h2,h3⟩
theorem Ge {a0_0 a0_1:Int} {a0_2:List (List Int)} {a1:List Int} {r:Nat} (h:Bf a0_0 a0_1 a0_2 a1=some r) {mk:Nat->Oid} {x:AV}:(Gx r).out mk [x,.tree .int a1]=(.tree .int (a1.take r),[]):=by
 obtain ⟨hb,h⟩:=Ak h;obtain rfl:=osj h;have e:=Tg (t:=.int) (xs:=a1) (sz:=1) rfl (Nat.zero_le a0_0.toNat) (show a0_0.toNat<=a1.length by omega);rw [List.drop_zero] at e;exact congrArg (fun z=>(z,([]:List (Oid×Option Ob)))) e
theorem F5 {a0_0 a0_1:Int} {a0_2:List (List Int)} {a1:List Int} {r:Nat×Nat} (h:Bd a0_0 a0_1 a0_2 a1=some r) {mk:Nat->Oid} {x:AV}:(F6 r).out mk [x,.tree .int a1]=(.tree .int (a1.drop r.1),[]):=by
 obtain ⟨hb,h⟩:=Ak h;obtain rfl:=osj h;have e:=Tg (t:=.int) (xs:=a1) (sz:=1) rfl (show a0_0.toNat<=a1.length by omega) (Nat.le_refl a1.length);rw [List.take_length] at e;exact congrArg (fun z=>(z,([]:List (Oid×Option Ob)))) e
theorem Ag8 {R:Nat->Prop} {t:Ty} {xs:List t.D} {sz l h:Nat} (h1:t.size=sz) (h2:l<=h) (h3:h<=xs.length):AV.part sz l h (.ftr R t xs)=.ftr R t ((xs.take h).drop l):=if_pos ⟨h1,h2,h3⟩
theorem Qc {a0_0 a0_1:Int} {a0_2:List (List Int)} {a1:List Int} {r:Nat} (h:Bf a0_0 a0_1 a0_2 a1=some r) {R:Nat->Prop} {mk:Nat->Oid} {x:AV}:(Gx r).out mk [x,.ftr R .int a1]=(.ftr R .int (a1.take r),[]):=by
 obtain ⟨hb,h⟩:=Ak h;obtain rfl:=osj h;have e:=Ag8 (R:=R) (t:=.int) (xs:=a1) (sz:=1) rfl (Nat.zero_le a0_0.toNat) (show a0_0.toNat<=a1.length by omega);rw [List.drop_zero] at e;exact congrArg (fun z=>(z,([]:List (Oid×Option Ob)))) e
theorem Pm {a0_0 a0_1:Int} {a0_2:List (List Int)} {a1:List Int} {r:Nat×Nat} (h:Bd a0_0 a0_1 a0_2 a1=some r) {R:Nat->Prop} {mk:Nat->Oid} {x:AV}:(F6 r).out mk [x,.ftr R .int a1]=(.ftr R .int (a1.drop r.1),[]):=by
 obtain ⟨hb,h⟩:=Ak h;obtain rfl:=osj h;have e:=Ag8 (R:=R) (t:=.int) (xs:=a1) (sz:=1) rfl (show a0_0.toNat<=a1.length by omega) (Nat.le_refl a1.length);rw [List.take_length] at e;exact congrArg (fun z=>(z,([]:List (Oid×Option Ob)))) e
end Go.Proofs.YtopjojkjaklalaaGreatDoor
namespace Go.Proofs.YtopjojkjaklalaaGreatDoor
open Go.RowKit Go.Deep
set_option maxRecDepth 4000
set_option maxHeartbeats 4800000
variable {bA bB bC:Int} {aA aB:List Int} {dA dB:LL} {pA:Int×Int×LL}
def Dn (a0:Int):Option (List Int) :=
 og (0<=a0/\a0<=a0/\a0<=1073741824/\(8:Int)*a0<=140737488355328) <|
some (List.replicate a0.toNat (0:Int))
theorem Fl (h:Dn bA=some aA):cK 116 [ai bA] (Bs aA):=by
 refine cO Tryz.func116 (Ae (Ab (Aa 5 (rsT 1 ?_))));obtain ⟨g3,h⟩:=Ak h;exact rs1 (oI 4 3 bA.toNat) (oi 4 3) (.arr 3 .int (List.replicate bA.toNat (0:Int))) (Ot (t:=.int) (k:=.i64) (k':=.i64) (m:=bA) (m':=bA) kr kr g3 rfl) (rsT 1 (rnW (Ac (jR h [oI 4 3 bA.toNat] (Db rfl (Cv kr List.length_replicate.symm) E6)))))
def Kr (a0 a1:Int):Option (List Int) :=
 (Dn a0).bind fun y3 =>
(Cb y3 a1).bind fun x5 =>
some (y3.set a1.toNat 1)
theorem Qu (h:Kr bA bB=some aA):cK 148 [ai bA,ai bB] (Bs aA):=by
 refine cO Tryz.func148 (Ae (Ab (Aa 5 (rsT 1 (rcH h Fl fun y3 h=>rsT 1 (rnW (Ab (Aa 9 (rsT 2 ?_)))))))));obtain ⟨x5,f5,h⟩:=Ah h;obtain ⟨p5,b5,e5⟩:=Ar f5;exact rs0 (.elt (oi 112 3) bB.toNat 0) (zo (t:=.int) (o:=oi 112 3) (len:=y3.length) (k:=.i64) (m:=bB) p5 (Ai e5)) (zS (oi 112 3) (1) e5 (rnW (Ae (Ac (jR h [oI 112 3 y3.length] (Db rfl (Cv kr ((rfl:y3.length=y3.length).trans List.length_set.symm)) E6))))))
def Eg (a0:Int) (u0:Nat) (u1:LL):Option (Ctl (Nat×LL) (LL)) :=
 cond (decide ((u0:Int)<a0))
 ((Kr a0 (u0:Int)).bind fun y12 =>
 og (u1.length+1<=1073741824/\(u1.length+1)*24<=140737488355328) <|
 og (u0+1<4611686018427387904) <|
 some (Ctl.next (u0+1,u1++[y12])))
 (some (Ctl.out u1))
def Fo (a0:Int):Option (LL) :=
 (Aq (fun s_:Nat×LL=>Eg a0 s_.1 s_.2) 4611686018427387904 (0,([]:LL))).bind fun u0 =>
some u0
theorem R1 (h:Fo bA=some dA):D1 Tryz.prog Tab 147 [ai bA] [] (oS 0 1 dA.length) [(oi 0 1,.mat 42 (oi 1 1) .int dA),(oi 1 1,.pool 3 .int dA)]:=by
 refine Br kr Tryz.func147 (B6 kr) (n:=18) kr (by simp) rfl kr trivial ⟨⟨3,.tail _ (.head _)⟩,⟨trivial,trivial⟩⟩ (Ae (Ab (Aa 4 (Lq (oS 5 2 0) (oi 5 2) (.vec 42 1 0 []) trivial (Dt kr) (rsT 1 (Ap (tn_ ⟨_,Ex (e1:=42) (n:=0) 9000 (oi 5 2) 3 .int kr kr rfl kr kr,sqF h (fun u1=>sT [(3,oS 0 1 u1.length)] [(oi 0 1,.mat 42 (oi 1 1) .int u1),(oi 1 1,.pool 3 .int u1)]) ?_ fun u1 h=>Ae (Ac (by obtain rfl:=osj h;exact E4 [oS 0 1 u1.length] (Ag (tl:=[(2,oS 0 1 u1.length)]) (g:=2) [])))⟩)))))));intro _ h;refine Ae (Ad (lpF h (fun (u2,u0)=>sT [(0,ai bA),(3,oS 0 1 u0.length),(6,ai bA),(7,an u2)] [(oi 0 1,.mat 42 (oi 1 1) .int u0),(oi 1 1,.pool 3 .int u0)]) (Ag [(oi 0 1,oi 5 2),(oi 1 1,oi 9000 4)]) ?_));rintro n_ ⟨u2,u0⟩ c_ h hn6;refine Ae (Ab (kQ h (fun _ h=>skW (Ab (Ad (Ae (Aa 12 (rsT 3 (rcH h Qu fun y12 h=>Lq (oS 14 9 1) (oi 14 9) (.vec 42 1 1 ([oI 208 8 y12.length])) trivial (Dt kr) ?_))))))) fun _ h=>lxT (have h:=jO h hn6;jE [])));obtain ⟨g13,h⟩:=Ak h;refine zV (oi 0 1) (oi 14 9) (oi 1 1) u0 [oI 208 8 y12.length] g13 (rsT 1 (Ap (bn_ (tn_ ⟨_,El (e1:=42) (e:=3) (u:=.int) (n:=u0.length+1) (len:=y12.length) (row:=y12) (ys:=y12) (xss:=u0) 9000 (oi 0 10) (oi 1 1) (oi 208 8) kr kr rfl kr kr (Nm rfl) (Nn rfl) kr kr kr,Aa 15 (raH h fun h=>rsT 1 (Ap (tn_ ?_)))⟩))));obtain rfl:=zj h;exact jLw hn6 ((wL 3 ((by simp):u0.length+1=(u0++[y12]).length)).trans (Ag [(oi 0 1,oi 0 10),(oi 1 1,oi 9000 12)]))
def L4 (a0:LL) (u0:Nat) (u1:List Int):Option (Ctl (Nat×List Int) (List Int)) :=
 cond (decide ((u0:Int)<(a0.length:Int)))
 ((a0[u0]?).bind fun x11 =>
 og (u1.length+x11.length<=1073741824/\(u1.length+x11.length)*8<=140737488355328) <|
 og (u0+1<4611686018427387904) <|
 some (Ctl.next (u0+1,u1++x11)))
 (some (Ctl.out u1))
def Cw (a0:LL):Option (List Int) :=
 (Aq (fun s_:Nat×List Int=>L4 a0 s_.1 s_.2) 4611686018427387904 (0,[])).bind fun u0 =>
some u0
theorem Ib (h:Cw dA=some aA):cK 120 [tS dA] (Bs aA):=by
 refine cO Tryz.func120 (Ae (Ae (sqF h (fun u1=>sT [(3,oI 0 1 u1.length)] [(oi 0 1,.arr 3 .int u1)]) ?_ fun u1 h=>Ae (Ac (jR h [oI 0 1 u1.length] (Db rfl (Cv kr rfl) E6))))));intro _ h;refine Ae (Ad (lpF h (fun (u2,u0)=>sT [(3,oI 0 1 u0.length),(7,tS dA),(8,an dA.length),(9,an u2)] [(oi 0 1,.arr 3 .int u0)]) (Ag [(oi 0 1,oi 6 2)]) ?_));rintro n_ ⟨u2,u0⟩ c_ h hn5;refine Ae (Ab (kQ h (fun _ h=>skW (Ab (Ad (Ab (Aa 6 (riH sI h fun x11 _ h=>rsT 2 (rnW (Aa 10 (rsT 2 ?_))))))))) fun _ h=>lxT (have h:=jO h hn5;jE [])));obtain ⟨g12,h⟩:=Ak h;exact rs2 (oI 0 8 ((u0++x11).length)) (oi 0 1) (oi 0 8) (.arr 3 .int (u0++x11)) (P5 (t:=.int) (t':=.int) (xs:=u0) (ys:=x11) (zs:=u0++x11) (j:=oi 0 1) (len:=u0.length) (c:=tI x11) kr kr rfl kr J2 rfl g12) (rsT 1 (Ap (bn_ (tn_ (wr_ (Aa 12 (raH h fun h=>rsT 1 (Ap (tn_ (jL [(oi 0 1,oi 0 8)]))))))))))
def Jt (a0:Int) (a1:LL) (a2:Int):Option (LL) :=
 (Jj a1).bind fun y4 =>
(Fo (a1.length:Int)).bind fun y5 =>
(F8 a0 y4 a2 y5).bind fun y7 =>
og (y7.1.length=y4.length) <|
og (y7.2.1.length=y5.length) <|
og ((0:Int)<=(y7.2.2:Int)/\(y7.2.2:Int)<=(y5.length:Int)/\(y5.length:Int)<=(y5.length:Int)) <|
(Ep a0 (y7.2.1.drop y7.2.2) (a1.length:Int)).bind fun y12 =>
some y12
theorem Aa0 (h:Jt bA dA bB=some dB):D1 Tryz.prog Tab 118 [ai bA,tS dA,ai bB] [] (oS 0 1 dB.length) [(oi 0 1,.mat 42 (oi 1 1) .int dB),(oi 1 1,.pool 3 .int dB)]:=by
 refine Br kr Tryz.func118 (B6 kr) (n:=27) kr (by simp) rfl kr trivial ⟨⟨3,.tail _ (.head _)⟩,⟨trivial,trivial⟩⟩ (Ae (Ab (Aa 9 (rsT 1 (rcM h [] [tS dA] Su trivial (aR kr) (Ay kr kr trivial) fun y4 h=>rsT 2 (rcM h [] [an dA.length] R1 trivial (aR kr) (Ay kr kr trivial) fun y5 h=>rsT 2 (rnW (Ab (Aa 15 (rsT 4 (rcM h [(oi 0 0,oi 176 3),(oi 1 0,oi 177 3),(oi 2 0,oi 224 6),(oi 3 0,oi 225 6)] [ai bA,oS 176 3 y4.length,ai bB,oS 224 6 y5.length] (fun h=>O9 h rfl rfl) ⟨kr,⟨kr,⟨kr,⟨kr,trivial⟩⟩⟩⟩ (aR kr) (Ay kr kr ⟨Bh kr,⟨Gm (o:=oi 176 3) (p:=oi 177 3) (e1:=42) (m:=y4.length) (u:=.int) (xss:=y4) (Bh kr) kr,⟨Bh kr,⟨Gm (o:=oi 224 6) (p:=oi 225 6) (e1:=42) (m:=y5.length) (u:=.int) (xss:=y5) (Bh kr) kr,trivial⟩⟩⟩⟩) fun y7 h=>rsT 1 (rnW (Ab (Aa 23 (rsT 3 ?_)))))))))))))));obtain ⟨g8,h⟩:=Ak h;obtain ⟨g9,h⟩:=Ak h;obtain ⟨g11,h⟩:=Ak h;obtain ⟨y12,h12,h⟩:=Ah h;refine rs0 (.own (oi 224 6) sI y7.2.2 (y5.length - y7.2.2)) (G5 (t:=sI) (i:=oi 224 6) (off:=0) (len:=y5.length) (l:=(y7.2.2:Int)) (h:=(y5.length:Int)) kr kr kr rfl g11 (Nat.zero_add _) oM) (rsT 2 (L0 (oS 416 21 y12.length) [(oi 416 21,some (.mat 42 (oi 417 21) .int y12)),(oi 417 21,some (.pool 3 .int y12))] [] [ai bA,.own (oi 224 6) sI y7.2.2 (y5.length - y7.2.2),an dA.length] (caps:=[]) trivial (J0 h12) kr trivial (.cons (.ren kr) (.cons (.gnd kr (As6 (p:=oi 305 13) (e1:=42) (e:=3) (u:=.int) (xss:=y7.2.1) (ys:=y7.2.1.drop y7.2.2) ((Mn kr kr kr).trans kr) (Xu kr kr (Cc kr) kr) (by have z_:y5.length=y7.2.1.length:=g9.symm;omega) (List.take_of_length_le (by rw [List.length_drop];have z_:y5.length=y7.2.1.length:=g9.symm;omega)))) (.cons (.ren kr) .nil))) (Ay kr kr trivial) (rsT 1 (rnW (Ac ?_)))));obtain rfl:=zj h;exact E4 [oS 0 1 y12.length] (Ag (tl:=[(6,oS 0 1 y12.length)]) (g:=2) [(oi 0 1,oi 416 21),(oi 1 1,oi 417 21)])
def K6 (a2:LL) (a1:List Int) (a0:Int) (u0:Nat) (u1:List Int):Option (Ctl (Nat×List Int) (List Int)) :=
 cond (decide ((u0:Int)<(a2.length:Int)))
 ((a2[u0]?).bind fun x12 =>
 (a1[u0]?).bind fun x13 =>
 (Bv a0 u1 x13 x12).bind fun y14 =>
 og (y14.length=u1.length) <|
 og (u0+1<4611686018427387904) <|
 some (Ctl.next (u0+1,y14)))
 (some (Ctl.out u1))
def H2 (a0:Int) (a1:List Int) (a2:LL) (a3:Int):Option (List Int) :=
 (Dn a3).bind fun y3 =>
(Aq (fun s_:Nat×List Int=>K6 a2 a1 a0 s_.1 s_.2) 4611686018427387904 (0,y3)).bind fun u0 =>
some u0
theorem Rf (h:H2 bA aA dA bB=some aB):cK 119 [ai bA,tI aA,tS dA,ai bB] (Bs aB):=by
 refine cO Tryz.func119 (Ae (Ab (Aa 5 (rsT 1 (rcH h Fl fun y3 h=>rsT 1 (rnW (sqF h (fun u1=>sT [(9,oI 0 1 u1.length)] [(oi 0 1,.arr 3 .int u1)]) ?_ fun u1 h=>Ae (Ac (jR h [oI 0 1 u1.length] (Db rfl (Cv kr rfl) E6))))))))));intro _ h;refine Ae (Ad (lpF h (fun (u2,u0)=>sT [(0,ai bA),(1,tI aA),(9,oI 0 1 u0.length),(14,tS dA),(15,an dA.length),(16,an u2)] [(oi 0 1,.arr 3 .int u0)]) (Ag [(oi 0 1,oi 208 3)]) ?_));rintro n_ ⟨u2,u0⟩ c_ h hn6;refine Ae (Ab (kQ h (fun _ h=>skW (Ab (Ad (Ab (Aa 8 (rsT 1 (riH sI h fun x12 _ h=>rsT 3 (rnW (Aa 16 (rsT 4 (riH .int h fun x13 _ h=>rsT 2 (rcM h [(oi 0 0,oi 0 1)] [ai bA,oI 0 1 u0.length,ai x13,tI x12] (fun h=>Ir h rfl) ⟨kr,trivial⟩ (aR kr) (Ay kr kr ⟨Bh kr,trivial⟩) fun y14 h=>Ap (bn_ (tn_ (wr_ (Aa 18 ?_)))))))))))))))) fun _ h=>lxT (have h:=jO h hn6;jE [])));obtain ⟨g15,h⟩:=Ak h;obtain ⟨g16,h⟩:=Ak h;refine zA g16 (rsT 1 (Ap (tn_ ?_)));obtain rfl:=zj h;exact jLw hn6 ((wL 9 (g15.symm:u0.length=y14.length)).trans (Ag []))
def Bq (a0 a1 a2:Int) (a3:LL):Option (Int×Int×LL) :=
 (Ep a0 a3 (wI (a1+a2))).bind fun y3 =>
some (a1,a2,y3)
theorem Ek (h:Bq bA bB bC dA=some pA):cK 121 [ai bA,ai bB,ai bC,tS dA] (Ck pA):=by
 exact cZ Tryz.func121 fun zn_ nz_ hz_=>Ae (Ab (Aa 12 (rsT 7 (rcM h [] [ai bA,tS dA,ai (wI (bB+bC))] (fun h=>Sy (J0 h)) trivial (aR kr) (Ay kr kr trivial) fun y3 h=>rsB 2 (rnW (Ac (jZ h [(true,[ai bB,ai bC,oS 256 9 y3.length])] (Ea (Aw B2 (Aw B2 (Aw (Bp (.mat (p:=oi 257 9) (e1:=42) (e:=3) kr (Cc kr) rfl)) Ee))) B8))))))))
end Go.Proofs.YtopjojkjaklalaaGreatDoor


namespace Go.Proofs.YtopjojkjaklalaaGreatDoor
open Go.RowKit Go.Deep
set_option maxRecDepth 4000
set_option maxHeartbeats 4800000
variable {bA bB bC bD bE bF:Int} {pA:Int×Int×LL} {aA aB:List Int} {dA dB dC dD:LL}
def C2 (a0:Int) (u0:Nat) (u1:LL):Option (Ctl (Nat×LL) (LL)) :=
 cond (decide ((u0:Int)<a0))
 ((Kr a0 (u0:Int)).bind fun y11 =>
 (Kr a0 (u0:Int)).bind fun y12 =>
 (Cw ([y11,y12])).bind fun y13 =>
 og (u1.length+1<=1073741824/\(u1.length+1)*24<=140737488355328) <|
 og (u0+1<4611686018427387904) <|
 some (Ctl.next (u0+1,u1++[y13])))
 (some (Ctl.out u1))
def Dx (a0:Int):Option (Int×Int×LL) :=
 (Aq (fun s_:Nat×LL=>C2 a0 s_.1 s_.2) 4611686018427387904 (0,([]:LL))).bind fun u0 =>
some (a0,a0,u0)
theorem Pp (h:Dx bA=some pA):cK 124 [ai bA] (Ck pA):=by
 refine cZ Tryz.func124 fun zn_ nz_ hz_=>Ae (Ae (sqF h (fun u1=>sT [(2,.box (oi 0 1) 0),(3,.box (oi 1 1) 0)] [(oi 0 1,.cells 36 [ai 0,ai 0,.nils]),(oi 1 1,.cells 36 [ai bA,ai bA,oS 2 1 u1.length]),(oi 2 1,.mat 42 (oi 3 1) .int u1),(oi 3 1,.pool 3 .int u1)]) ?_ fun u1 h=>Ae (Ac (jZ h [(true,[ai bA,ai bA,oS 2 1 u1.length])] (Ea (Aw B2 (Aw B2 (Aw (Bp (.mat (p:=oi 3 1) (e1:=42) (e:=3) kr (Cc kr) rfl)) Ee))) B8)))))
 intro _ h;refine Ae (Ad (lpF h (fun (u2,u0)=>sT [(0,ai bA),(2,.box (oi 0 1) 0),(3,.box (oi 1 1) 0),(8,ai bA),(9,an u2)] [(oi 0 1,.cells 36 [ai 0,ai 0,.nils]),(oi 1 1,.cells 36 [ai bA,ai bA,oS 2 1 u0.length]),(oi 2 1,.mat 42 (oi 3 1) .int u0),(oi 3 1,.pool 3 .int u0)]) ((Zj 9000 (oi 3 5) 2 36 [ai bA,ai bA,.nils] [ai bA,ai bA,oS 9000 9 0] 42 sI kr kr kr).trans ((Ex (e1:=42) (n:=0) 9000 (oi 9000 9) 3 .int kr kr rfl kr kr).trans (Ag [(oi 0 1,oi 2 1),(oi 1 1,oi 3 5),(oi 2 1,oi 9000 9),(oi 3 1,oi 9000 10)]))) ?_));rintro n_ ⟨u2,u0⟩ c_ h hn5;refine Ae (Ab (kQ h (fun _ h=>skW (Ab (Ad (Ae (Ao 19 (dsT 4 (dcH h (fun h=>Gb (Qu h)) fun y11 h=>dz0 (ai bA) (dz0 (an u2) (dcH h (fun h=>Gb (Qu h)) fun y12 h=>dsU (tS ([y11,y12])) [(oi 256 9,none),(oi 304 12,none)] (Ack (t:=.int) (yss:=[y11,y12]) (Dp (t:=.int) (c:=oI 256 9 y11.length) (ys:=y11) kr (Jf (e:=3) kr rfl) (Dp (t:=.int) (c:=oI 304 12 y12.length) (ys:=y12) kr (Jf (e:=3) kr rfl) Qy)) kr) (dcH h (fun h=>Gb (Ib h)) fun y13 h=>Alg (oS 22 15 1) (oi 22 15) (.vec 42 1 1 ([oI 336 14 y13.length])) trivial (Dt kr) ?_)))))))))) fun _ h=>lxT (have h:=jO h hn5;jE [])));obtain ⟨g14,h⟩:=Ak h;refine dzV (oi 2 1) (oi 22 15) (oi 3 1) u0 [oI 336 14 y13.length] g14 (dz0 (.box (oi 1 1) 2) (Oz (oi 1 1) (oi 1 1) (.cells 36 [ai bA,ai bA,oS 2 16 (u0.length+1)]) kr (Co (As kr) (bn_ (tn_ ⟨_,El (e1:=42) (e:=3) (u:=.int) (n:=u0.length+1) (len:=y13.length) (row:=y13) (ys:=y13) (xss:=u0) 9000 (oi 2 16) (oi 3 1) (oi 336 14) kr kr rfl kr kr (Nm rfl) (Nn rfl) kr kr kr,Aa 22 (raH h fun h=>rsT 1 (Ap (tn_ ?_)))⟩)))));obtain rfl:=zj h;exact jLw hn5 ((Sv (oi 1 1) (.cells 36 [ai bA,ai bA,oS 2 16 (u0.length+1)]) (.cells 36 [ai bA,ai bA,oS 2 16 ((u0++[y13]).length)]) kr (congrArg (fun z_=>(.cells 36 [ai bA,ai bA,oS 2 16 z_]:Ob)) ((by simp):u0.length+1=(u0++[y13]).length))).trans (Ag [(oi 2 1,oi 2 16),(oi 3 1,oi 9000 19)]))
def Lm (a0:Int):Option Int :=
 (B0 a0 3 8).bind fun y4 =>
cond y4
 (some (wI ((wI (a0+9)) - 3)))
 ((B0 a0 9 14).bind fun y8 =>
 cond y8
  (some (wI (wI (a0 - 9)+3)))
  (some a0))
theorem Ox (h:Lm bA=some bB):cK 125 [ai bA] (A3 bB):=by
 exact cO Tryz.func125 (Ae (Ab (Ad (Ab (Aa 5 (rsT 1 (rcH h C1 fun y4 h=>rsT 1 (rnW (kQ h (fun _ h=>Ae (Ac (br_ (tr_ (jS h))))) fun _ h=>Ab (Aa 8 (rsT 1 (rcH h C1 fun y8 h=>rsT 1 (rnW (kQ h (fun _ h=>Ae (Ac (br_ (tr_ (jS h))))) fun _ h=>Az (bn_ (tn_ (wr_ (Ae (Ac (jS h))))))))))))))))))))
def O3 (a0:List Int) (u0 u1:Int) (u2:LL):Option (List Int) :=
 (Bd u0 u1 u2 a0).bind fun y3 =>
(Bf u0 u1 u2 a0).bind fun y4 =>
(Cw ([a0.drop y3.1,a0.take y4])).bind fun y5 =>
some y5
theorem Ux (h:O3 aA bA bB dA=some aB):cK 149 [tI aA,.ref [ai bA,ai bB,tS dA]] (Bs aB):=by
 refine cO Tryz.func149 (Ae (Ab (Ao 11 (dz0 (.agg [ai bA,ai bB,tS dA]) (dz0 (tI aA) ?_)))));obtain ⟨y3,h3,h⟩:=Ah h;refine My (tI (aA.drop y3.1)) [] [.agg [ai bA,ai bB,tS dA],tI aA] _ (caps:=[]) (args0:=[.agg [ai bA,ai bB,tS dA],tI aA]) trivial kr (D0 h3) kr (hr:=F5 h3) (dz0 (.agg [ai bA,ai bB,tS dA]) (dz0 (tI aA) ?_));obtain ⟨y4,h4,h⟩:=Ah h;exact My (tI (aA.take y4)) [] [.agg [ai bA,ai bB,tS dA],tI aA] _ (caps:=[]) (args0:=[.agg [ai bA,ai bB,tS dA],tI aA]) trivial kr (Eb h4) kr (hr:=Ge h4) (dsU (tS ([aA.drop y3.1,aA.take y4])) [] (Ack (t:=.int) (yss:=[aA.drop y3.1,aA.take y4]) (Dp (t:=.int) (c:=tI (aA.drop y3.1)) (ys:=aA.drop y3.1) kr J2 (Dp (t:=.int) (c:=tI (aA.take y4)) (ys:=aA.take y4) kr J2 Qy)) kr) (dcH h Ib fun y5 h=>dz0 (oI 176 9 y5.length) (Co (As kr) (tn_ (wr_ (Ac (jR h [oI 176 9 y5.length] (Db rfl (Cv kr rfl) E6))))))))
def Ga (u2:LL) (u3 u4:Int) (u5:LL) (u0:Nat) (u1:LL):Option (Ctl (Nat×LL) (LL)) :=
 cond (decide ((u0:Int)<(u2.length:Int)))
 ((u2[u0]?).bind fun x12 =>
 (O3 x12 u3 u4 u5).bind fun y13 =>
 og (u1.length+1<=1073741824/\(u1.length+1)*24<=140737488355328) <|
 og (u0+1<4611686018427387904) <|
 some (Ctl.next (u0+1,u1++[y13])))
 (some (Ctl.out u1))
def Dg (u5 u6:Int) (u0:LL) (u1 u2:Int) (u3:LL):Option (LL) :=
 (Aq (fun s_:Nat×LL=>Ga u0 u1 u2 u3 s_.1 s_.2) 4611686018427387904 (0,([]:LL))).bind fun u4 =>
some u4
theorem G6 (h:Dg bA bB dA bC bD dB=some dC):D1 Tryz.prog Tab 115 [.agg [ai bA,ai bB,tS dA],.fn 149 [.ref [ai bC,ai bD,tS dB]]] [] (oS 0 1 dC.length) [(oi 0 1,.mat 42 (oi 1 1) .int dC),(oi 1 1,.pool 3 .int dC)]:=by
 refine Br kr Tryz.func115 (B6 kr) (n:=24) kr (by simp) rfl kr trivial ⟨⟨3,.tail _ (.head _)⟩,⟨trivial,trivial⟩⟩ (Ae (Ab (Aa 5 (Lq (oS 8 3 0) (oi 8 3) (.vec 42 1 0 []) trivial (Dt kr) (rsT 1 (Ap (tn_ ⟨_,Ex (e1:=42) (n:=0) 9000 (oi 8 3) 3 .int kr kr rfl kr kr,sqF h (fun u4=>sT [(5,oS 0 1 u4.length)] [(oi 0 1,.mat 42 (oi 1 1) .int u4),(oi 1 1,.pool 3 .int u4)]) ?_ fun u4 h=>Ae (Ac (by obtain rfl:=osj h;exact E4 [oS 0 1 u4.length] (Ag (tl:=[(4,oS 0 1 u4.length)]) (g:=2) [])))⟩)))))));intro _ h;refine Ae (Ad (lpF h (fun (u8,u0)=>sT [(1,.fn 149 [.ref [ai bC,ai bD,tS dB]]),(5,oS 0 1 u0.length),(10,tS dA),(11,an dA.length),(12,an u8)] [(oi 0 1,.mat 42 (oi 1 1) .int u0),(oi 1 1,.pool 3 .int u0)]) (Ag [(oi 0 1,oi 8 3),(oi 1 1,oi 9000 5)]) ?_));rintro n_ ⟨u8,u0⟩ c_ h hn6;refine Ae (Ab (kQ h (fun _ h=>skW (Ab (Ad (Ab (Aa 6 (riH sI h fun x12 _ h=>rsT 2 (rnW (Aa 13 (rsT 3 ?_))))))))) fun _ h=>lxT (have h:=jO h hn6;jE [])));obtain ⟨y13,h13,h⟩:=Ah h;refine Jk (oI 304 9 y13.length) [nI 304 9 y13] [tI x12,.ref [ai bC,ai bD,tS dB]] _ (caps:=[.ref [ai bC,ai bD,tS dB]]) (args0:=[tI x12,.ref [ai bC,ai bD,tS dB]]) trivial kr (Ux h13) kr (Lq (oS 20 10 1) (oi 20 10) (.vec 42 1 1 ([oI 304 9 y13.length])) trivial (Dt kr) ?_);obtain ⟨g14,h⟩:=Ak h;refine zV (oi 0 1) (oi 20 10) (oi 1 1) u0 [oI 304 9 y13.length] g14 (rsT 1 (Ap (bn_ (tn_ ⟨_,El (e1:=42) (e:=3) (u:=.int) (n:=u0.length+1) (len:=y13.length) (row:=y13) (ys:=y13) (xss:=u0) 9000 (oi 0 11) (oi 1 1) (oi 304 9) kr kr rfl kr kr (Nm rfl) (Nn rfl) kr kr kr,Aa 16 (raH h fun h=>rsT 1 (Ap (tn_ ?_)))⟩))));obtain rfl:=zj h;exact jLw hn6 ((wL 5 ((by simp):u0.length+1=(u0++[y13]).length)).trans (Ag [(oi 0 1,oi 0 11),(oi 1 1,oi 9000 13)]))
def M8 (a0 u0 u1:Int) (u2:LL):Option (Int×Int×LL) :=
 (Dg u0 u1 u2 u0 u1 u2).bind fun y3 =>
(Bq a0 u1 u0 y3).bind fun y4 =>
some (y4.1,y4.2.1,y4.2.2)
theorem Wm (h:M8 bA bB bC dA=some pA):cK 126 [ai bA,.agg [ai bB,ai bC,tS dA]] (Ck pA):=by
 exact cZ Tryz.func126 fun zn_ nz_ hz_=>Ae (Ab (Ao 13 (dsT 7 (dcM h [] [.agg [ai bB,ai bC,tS dA],.fn 149 [.box (oi 3 1) 0]] (fun h=>Sy (G6 h)) trivial (.cons (.ren kr) (.cons (.gnd kr (Avh (Al (Akj (ty:=36) (cs:=[ai bB,ai bC,tS dA]) (es:=[ai bB,ai bC,tS dA]) ((Mn kr kr kr).trans kr) kr (Al kr (Al kr (Al kr Bg)))) Bg))) .nil)) (Ay kr kr trivial) (Aj4 kr) fun y3 h=>dcG h [ai bA,ai bC,ai bB,oS 192 10 y3.length] (fun h=>Fc hz_ (Ek h)) (Al kr (Al kr (Al kr (Al (La (p:=oi 193 10) (e1:=42) (e:=3) (u:=.int) (xss:=y3) kr (Aar (t:=sI) (off:=0) (len:=y3.length) (i:=oi 192 10) (e1:=42) (z:=1) (m:=y3.length) 3 rfl kr kr (Cc kr)) rfl) Bg)))) fun y4 h=>Oz (oi 4 2) (oi 4 2) (.cells 36 [ai y4.1,ai y4.2.1,.ftr nz_ sI y4.2.2]) kr (Co ⟨Alm kr,⟨Alm kr,trivial⟩⟩ (tn_ (wr_ (Ac (jZ h [(true,[ai y4.1,ai y4.2.1,.ftr nz_ sI y4.2.2])] (Ea (Aw B2 (Aw B2 (Aw (Bp .ftr) Ee))) B8))))))))))
def M9 (a0:List Int) (u0 u1:Int) (u2:LL) (u3 u4:Int) (u5:LL):Option (List Int) :=
 (Bf u0 u1 u2 a0).bind fun y3 =>
(Dn u3).bind fun y4 =>
(Bd u0 u1 u2 a0).bind fun y5 =>
(Dn u4).bind fun y6 =>
(Cw ([a0.take y3,y4,a0.drop y5.1,y6])).bind fun y7 =>
some y7
theorem Wx (h:M9 aA bA bB dA bC bD dB=some aB):cK 122 [tI aA,.ref [ai bA,ai bB,tS dA],.ref [ai bC,ai bD,tS dB]] (Bs aB):=by
 refine cO Tryz.func122 (Ae (Ab (Ao 17 (dz0 (.agg [ai bA,ai bB,tS dA]) (dz0 (tI aA) ?_)))));obtain ⟨y3,h3,h⟩:=Ah h;refine My (tI (aA.take y3)) [] [.agg [ai bA,ai bB,tS dA],tI aA] _ (caps:=[]) (args0:=[.agg [ai bA,ai bB,tS dA],tI aA]) trivial kr (Eb h3) kr (hr:=Ge h3) (dz0 (.ref [ai bC,ai bD,tS dB]) (dz0 (ai bC) (dcH h Fl fun y4 h=>dz0 (.agg [ai bA,ai bB,tS dA]) (dz0 (tI aA) ?_))));obtain ⟨y5,h5,h⟩:=Ah h;exact My (tI (aA.drop y5.1)) [] [.agg [ai bA,ai bB,tS dA],tI aA] _ (caps:=[]) (args0:=[.agg [ai bA,ai bB,tS dA],tI aA]) trivial kr (D0 h5) kr (hr:=F5 h5) (dz0 (.ref [ai bD,tS dB]) (dz0 (ai bD) (dcH h Fl fun y6 h=>dsU (tS ([aA.take y3,y4,aA.drop y5.1,y6])) [(oi 160 7,none),(oi 256 13,none)] (Ack (t:=.int) (yss:=[aA.take y3,y4,aA.drop y5.1,y6]) (Dp (t:=.int) (c:=tI (aA.take y3)) (ys:=aA.take y3) kr J2 (Dp (t:=.int) (c:=oI 160 7 y4.length) (ys:=y4) kr (Jf (e:=3) kr rfl) (Dp (t:=.int) (c:=tI (aA.drop y5.1)) (ys:=aA.drop y5.1) kr J2 (Dp (t:=.int) (c:=oI 256 13 y6.length) (ys:=y6) kr (Jf (e:=3) kr rfl) Qy)))) kr) (dcH h Ib fun y7 h=>dz0 (oI 288 15 y7.length) (Co (As kr) (tn_ (wr_ (Ac (jR h [oI 288 15 y7.length] (Db rfl (Cv kr rfl) E6))))))))))
def Bx (u2:LL) (u3 u4:Int) (u5:LL) (u6 u7:Int) (u8:LL) (u0:Nat) (u1:LL):Option (Ctl (Nat×LL) (LL)) :=
 cond (decide ((u0:Int)<(u2.length:Int)))
 ((u2[u0]?).bind fun x12 =>
 (M9 x12 u3 u4 u5 u6 u7 u8).bind fun y13 =>
 og (u1.length+1<=1073741824/\(u1.length+1)*24<=140737488355328) <|
 og (u0+1<4611686018427387904) <|
 some (Ctl.next (u0+1,u1++[y13])))
 (some (Ctl.out u1))
def Bm (u8 u9:Int) (u0:LL) (u1 u2:Int) (u3:LL) (u4 u5:Int) (u6:LL):Option (LL) :=
 (Aq (fun s_:Nat×LL=>Bx u0 u1 u2 u3 u4 u5 u6 s_.1 s_.2) 4611686018427387904 (0,([]:LL))).bind fun u7 =>
some u7
theorem Hy (h:Bm bA bB dA bC bD dB bE bF dC=some dD):D1 Tryz.prog Tab 115 [.agg [ai bA,ai bB,tS dA],.fn 122 [.ref [ai bC,ai bD,tS dB],.ref [ai bE,ai bF,tS dC]]] [] (oS 0 1 dD.length) [(oi 0 1,.mat 42 (oi 1 1) .int dD),(oi 1 1,.pool 3 .int dD)]:=by
 refine Br kr Tryz.func115 (B6 kr) (n:=24) kr (by simp) rfl kr trivial ⟨⟨3,.tail _ (.head _)⟩,⟨trivial,trivial⟩⟩ (Ae (Ab (Aa 5 (Lq (oS 8 3 0) (oi 8 3) (.vec 42 1 0 []) trivial (Dt kr) (rsT 1 (Ap (tn_ ⟨_,Ex (e1:=42) (n:=0) 9000 (oi 8 3) 3 .int kr kr rfl kr kr,sqF h (fun u7=>sT [(5,oS 0 1 u7.length)] [(oi 0 1,.mat 42 (oi 1 1) .int u7),(oi 1 1,.pool 3 .int u7)]) ?_ fun u7 h=>Ae (Ac (by obtain rfl:=osj h;exact E4 [oS 0 1 u7.length] (Ag (tl:=[(4,oS 0 1 u7.length)]) (g:=2) [])))⟩)))))));intro _ h;refine Ae (Ad (lpF h (fun (ub,u0)=>sT [(1,.fn 122 [.ref [ai bC,ai bD,tS dB],.ref [ai bE,ai bF,tS dC]]),(5,oS 0 1 u0.length),(10,tS dA),(11,an dA.length),(12,an ub)] [(oi 0 1,.mat 42 (oi 1 1) .int u0),(oi 1 1,.pool 3 .int u0)]) (Ag [(oi 0 1,oi 8 3),(oi 1 1,oi 9000 5)]) ?_));rintro n_ ⟨ub,u0⟩ c_ h hn6;refine Ae (Ab (kQ h (fun _ h=>skW (Ab (Ad (Ab (Aa 6 (riH sI h fun x12 _ h=>rsT 2 (rnW (Aa 13 (rsT 3 ?_))))))))) fun _ h=>lxT (have h:=jO h hn6;jE [])));obtain ⟨y13,h13,h⟩:=Ah h;refine Jk (oI 304 9 y13.length) [nI 304 9 y13] [tI x12,.ref [ai bC,ai bD,tS dB],.ref [ai bE,ai bF,tS dC]] _ (caps:=[.ref [ai bC,ai bD,tS dB],.ref [ai bE,ai bF,tS dC]]) (args0:=[tI x12,.ref [ai bC,ai bD,tS dB],.ref [ai bE,ai bF,tS dC]]) trivial kr (Wx h13) kr (Lq (oS 20 10 1) (oi 20 10) (.vec 42 1 1 ([oI 304 9 y13.length])) trivial (Dt kr) ?_);obtain ⟨g14,h⟩:=Ak h;refine zV (oi 0 1) (oi 20 10) (oi 1 1) u0 [oI 304 9 y13.length] g14 (rsT 1 (Ap (bn_ (tn_ ⟨_,El (e1:=42) (e:=3) (u:=.int) (n:=u0.length+1) (len:=y13.length) (row:=y13) (ys:=y13) (xss:=u0) 9000 (oi 0 11) (oi 1 1) (oi 304 9) kr kr rfl kr kr (Nm rfl) (Nn rfl) kr kr kr,Aa 16 (raH h fun h=>rsT 1 (Ap (tn_ ?_)))⟩))));obtain rfl:=zj h;exact jLw hn6 ((wL 5 ((by simp):u0.length+1=(u0++[y13]).length)).trans (Ag [(oi 0 1,oi 0 11),(oi 1 1,oi 9000 13)]))
def Nf (a0:List Int) (u3 u4:Int) (u5:LL) (u0 u1:Int) (u2:LL):Option (List Int) :=
 (Dn u3).bind fun y3 =>
(Bf u0 u1 u2 a0).bind fun y4 =>
(Dn u4).bind fun y5 =>
(Bd u0 u1 u2 a0).bind fun y6 =>
(Cw ([y3,a0.take y4,y5,a0.drop y6.1])).bind fun y7 =>
some y7
theorem Xp (h:Nf aA bA bB dA bC bD dB=some aB):cK 123 [tI aA,.ref [ai bA,ai bB,tS dA],.ref [ai bC,ai bD,tS dB]] (Bs aB):=by
 refine cO Tryz.func123 (Ae (Ab (Ao 17 (dz0 (.ref [ai bA,ai bB,tS dA]) (dz0 (ai bA) (dcH h Fl fun y3 h=>dz0 (.agg [ai bC,ai bD,tS dB]) (dz0 (tI aA) ?_)))))));obtain ⟨y4,h4,h⟩:=Ah h;refine My (tI (aA.take y4)) [] [.agg [ai bC,ai bD,tS dB],tI aA] _ (caps:=[]) (args0:=[.agg [ai bC,ai bD,tS dB],tI aA]) trivial kr (Eb h4) kr (hr:=Ge h4) (dz0 (.ref [ai bB,tS dA]) (dz0 (ai bB) (dcH h Fl fun y5 h=>dz0 (.agg [ai bC,ai bD,tS dB]) (dz0 (tI aA) ?_))));obtain ⟨y6,h6,h⟩:=Ah h;exact My (tI (aA.drop y6.1)) [] [.agg [ai bC,ai bD,tS dB],tI aA] _ (caps:=[]) (args0:=[.agg [ai bC,ai bD,tS dB],tI aA]) trivial kr (D0 h6) kr (hr:=F5 h6) (dsU (tS ([y3,aA.take y4,y5,aA.drop y6.1])) [(oi 112 4,none),(oi 208 10,none)] (Ack (t:=.int) (yss:=[y3,aA.take y4,y5,aA.drop y6.1]) (Dp (t:=.int) (c:=oI 112 4 y3.length) (ys:=y3) kr (Jf (e:=3) kr rfl) (Dp (t:=.int) (c:=tI (aA.take y4)) (ys:=aA.take y4) kr J2 (Dp (t:=.int) (c:=oI 208 10 y5.length) (ys:=y5) kr (Jf (e:=3) kr rfl) (Dp (t:=.int) (c:=tI (aA.drop y6.1)) (ys:=aA.drop y6.1) kr J2 Qy)))) kr) (dcH h Ib fun y7 h=>dz0 (oI 288 15 y7.length) (Co (As kr) (tn_ (wr_ (Ac (jR h [oI 288 15 y7.length] (Db rfl (Cv kr rfl) E6))))))))
def Bw (u2:LL) (u3 u4:Int) (u5:LL) (u6 u7:Int) (u8:LL) (u0:Nat) (u1:LL):Option (Ctl (Nat×LL) (LL)) :=
 cond (decide ((u0:Int)<(u2.length:Int)))
 ((u2[u0]?).bind fun x11 =>
 (Nf x11 u3 u4 u5 u6 u7 u8).bind fun y12 =>
 og (u1.length+1<=1073741824/\(u1.length+1)*24<=140737488355328) <|
 og (u0+1<4611686018427387904) <|
 some (Ctl.next (u0+1,u1++[y12])))
 (some (Ctl.out u1))
def Bj (u8 u9:Int) (u0:LL) (u1 u2:Int) (u3:LL) (u4 u5:Int) (u6:LL):Option (LL) :=
 (Aq (fun s_:Nat×LL=>Bw u0 u1 u2 u3 u4 u5 u6 s_.1 s_.2) 4611686018427387904 (0,([]:LL))).bind fun u7 =>
some u7
theorem Hz (h:Bj bA bB dA bC bD dB bE bF dC=some dD):cK 115 [.agg [ai bA,ai bB,tS dA],.fn 123 [.ref [ai bC,ai bD,tS dB],.ref [ai bE,ai bF,tS dC]]] (Ss dD):=by
 refine cZ Tryz.func115 fun zn_ nz_ hz_=>Ae (Ab (Aa 5 (Lq (oS 8 3 0) (oi 8 3) (.vec 42 1 0 []) trivial (Dt kr) (rsT 1 (Ap (tn_ ⟨_,Ex (e1:=42) (n:=0) 9000 (oi 8 3) 3 .int kr kr rfl kr kr,sqF h (fun u7=>sT [(5,oS 0 1 u7.length)] [(oi 0 1,.mat 42 (oi 1 1) .int u7),(oi 1 1,.pool 3 .int u7)]) ?_ fun u7 h=>Ae (Ac (jZ h [(false,[oS 0 1 u7.length])] (Ji (Bp (.mat (p:=oi 1 1) (e1:=42) (e:=3) kr (Cc kr) rfl)) B8)))⟩))))))
 intro _ h;refine Ae (Ad (lpF h (fun (ub,u0)=>sT [(1,.fn 123 [.ref [ai bC,ai bD,tS dB],.ref [ai bE,ai bF,tS dC]]),(5,oS 0 1 u0.length),(10,tS dA),(11,an dA.length),(12,an ub)] [(oi 0 1,.mat 42 (oi 1 1) .int u0),(oi 1 1,.pool 3 .int u0)]) (Ag [(oi 0 1,oi 8 3),(oi 1 1,oi 9000 5)]) ?_));rintro n_ ⟨ub,u0⟩ c_ h hn5;refine Ae (Ab (kQ h (fun _ h=>skW (Ab (Ad (Ab (Aa 6 (riH sI h fun x11 _ h=>rsT 2 (rnW (Aa 13 (rsT 3 ?_))))))))) fun _ h=>lxT (have h:=jO h hn5;jE [])));obtain ⟨y12,h12,h⟩:=Ah h;refine Jk (oI 304 9 y12.length) [nI 304 9 y12] [tI x11,.ref [ai bC,ai bD,tS dB],.ref [ai bE,ai bF,tS dC]] _ (caps:=[.ref [ai bC,ai bD,tS dB],.ref [ai bE,ai bF,tS dC]]) (args0:=[tI x11,.ref [ai bC,ai bD,tS dB],.ref [ai bE,ai bF,tS dC]]) trivial kr (Gb (Xp h12)) kr (Lq (oS 20 10 1) (oi 20 10) (.vec 42 1 1 ([oI 304 9 y12.length])) trivial (Dt kr) ?_);obtain ⟨g13,h⟩:=Ak h;refine zV (oi 0 1) (oi 20 10) (oi 1 1) u0 [oI 304 9 y12.length] g13 (rsT 1 (Ap (bn_ (tn_ ⟨_,El (e1:=42) (e:=3) (u:=.int) (n:=u0.length+1) (len:=y12.length) (row:=y12) (ys:=y12) (xss:=u0) 9000 (oi 0 11) (oi 1 1) (oi 304 9) kr kr rfl kr kr (Nm rfl) (Nn rfl) kr kr kr,Aa 16 (raH h fun h=>rsT 1 (Ap (tn_ ?_)))⟩))));obtain rfl:=zj h;exact jLw hn5 ((wL 5 ((by simp):u0.length+1=(u0++[y12]).length)).trans (Ag [(oi 0 1,oi 0 11),(oi 1 1,oi 9000 13)]))
def Jn (a0 u0 u1:Int) (u4:LL) (u2 u3:Int) (u5:LL):Option (Int×Int×LL) :=
 (Bm u0 u1 u4 u0 u1 u4 u2 u3 u5).bind fun y3 =>
(Bj u2 u3 u5 u0 u1 u4 u2 u3 u5).bind fun y5 =>
og (y3.length+y5.length<=1073741824/\(y3.length+y5.length)*24<=140737488355328) <|
(Bq a0 (wI (u0+u2)) (wI (u1+u3)) (y3++y5)).bind fun y8 =>
some (y8.1,y8.2.1,y8.2.2)
theorem Aaz (h:Jn bA bB bC dA bD bE dB=some pA):cK 88 [ai bA,.agg [ai bB,ai bC,tS dA],.agg [ai bD,ai bE,tS dB]] (Ck pA):=by
 refine cZ Tryz.func88 fun zn_ nz_ hz_=>Ae (Ab (Aa 8 (rsT 2 (rcM h [] [.agg [ai bB,ai bC,tS dA],.fn 122 [.box (oi 4 1) 0,.box (oi 5 2) 0]] (fun h=>Sy (Hy h)) trivial (.cons (.ren kr) (.cons (.gnd kr (Avh (Al (Akj (ty:=36) (cs:=[ai bB,ai bC,tS dA]) (es:=[ai bB,ai bC,tS dA]) ((Mn kr kr kr).trans kr) kr (Al kr (Al kr (Al kr Bg)))) (Al (Akj (ty:=36) (cs:=[ai bD,ai bE,tS dB]) (es:=[ai bD,ai bE,tS dB]) ((Mn kr kr kr).trans kr) kr (Al kr (Al kr (Al kr Bg)))) Bg)))) .nil)) (Ay kr kr trivial) fun y3 h=>rsT 1 (rnW (Ab (Aa 14 (rsT 3 (rcH h (fun h=>Fc hz_ (Hz h)) fun y5 h=>?_)))))))))
 obtain ⟨g6,h⟩:=Ak h;exact rs2 (oS 160 12 (y3.length+y5.length)) (oi 160 6) (oi 160 12) (.vec 42 1 (y3.length+y5.length) (hdL (oi 161 6) .int y3++tvC (some nz_) sI y5)) (Auo (o:=oi 160 6) (p:=oi 161 6) (e1:=42) (u:=.int) (t':=sI) (len:=y3.length) (N:=y3.length) (m:=some nz_) (xss:=y3) (ys:=y5) kr kr rfl rfl (Awm kr) g6) (rsT 1 (rnW (Ab (Aa 28 (rsT 12 (rcG h [ai bA,ai (wI (bB+bD)),ai (wI (bC+bE)),oS 160 12 (y3.length+y5.length)] (fun h=>Fc hz_ (Ek h)) (Al kr (Al kr (Al kr (Al (Awd (p:=oi 161 6) (e1:=42) (e:=3) (u:=.int) (m:=some nz_) (xss:=y3) (ys:=y5) (N:=y3.length+y5.length) kr (Cc kr) rfl rfl) Bg)))) fun y8 h=>rsB 1 (rnW (Ac (jZ h [(true,[ai y8.1,ai y8.2.1,.ftr nz_ sI y8.2.2])] (Ea (Aw B2 (Aw B2 (Aw (Bp .ftr) Ee))) B8))))))))))
def Bi (u2:LL) (u3 u4:Int) (u5:LL) (u0:Nat) (u1:LL):Option (Ctl (Nat×LL) (LL)) :=
 cond (decide ((u0:Int)<(u2.length:Int)))
 ((u2[u0]?).bind fun x12 =>
 (Bd u3 u4 u5 x12).bind fun y13 =>
 og (u1.length+1<=1073741824/\(u1.length+1)*24<=140737488355328) <|
 og (u0+1<4611686018427387904) <|
 some (Ctl.next (u0+1,u1++[x12.drop y13.1])))
 (some (Ctl.out u1))
def A8 (u5 u6:Int) (u0:LL) (u1 u2:Int) (u3:LL):Option (LL) :=
 (Aq (fun s_:Nat×LL=>Bi u0 u1 u2 u3 s_.1 s_.2) 4611686018427387904 (0,([]:List (List Int)))).bind fun u4 =>
some u4
theorem Cj (h:A8 bA bB dA bC bD dB=some dC):Wh Tryz.prog Tab 115 [.agg [ai bA,ai bB,tS dA],.fn 1000053 [.agg [ai bC,ai bD,tS dB]]] (oS 0 1 dC.length) [(oi 0 1,.tv 42 none sI dC)]:=by
 refine Ah7 kr Tryz.func115 (B6 kr) (fun nz_=>[.agg [ai bA,ai bB,.ftr nz_ sI dA],.fn 1000053 [.agg [ai bC,ai bD,.ftr nz_ sI dB]]]) (n:=24) kr (fun _=>by simp) (tl:=fun nz_=>[(0,.agg [ai bA,ai bB,.ftr nz_ sI dA]),(1,.fn 1000053 [.agg [ai bC,ai bD,.ftr nz_ sI dB]])]) (fun _=>rfl) (fun _=>⟨_,_,rfl,⟨_,rfl,⟨_,_,rfl,rfl,⟨_,_,rfl,rfl,⟨_,_,rfl,rfl,rfl⟩⟩⟩⟩,⟨_,_,rfl,⟨_,rfl,⟨_,_,rfl,⟨_,rfl,⟨_,_,rfl,rfl,⟨_,_,rfl,rfl,⟨_,_,rfl,rfl,rfl⟩⟩⟩⟩,rfl⟩⟩,rfl⟩⟩) (fun _=>by kernel_rfl) (fun _ _=>rfl) fun nz_=>Ae (Ab (Aa 5 (Lq (oS 8 3 0) (oi 8 3) (.vec 42 1 0 (tvC (some nz_) sI ([]:List (List Int)))) trivial (Dt kr) (rsT 1 (Ap (tn_ ⟨_,Dc (N:=0) (oi 8 3) 42 (some nz_) sI ([]:List (List Int)) kr rfl,sqF h (fun u5=>sT [(5,oS 0 1 u5.length)] [(oi 0 1,.tv 42 (some nz_) sI u5)]) ?_ fun u5 h=>Ae (Ac (by obtain rfl:=osj h;exact E4 [oS 0 1 u5.length] (Ag (tl:=[(4,oS 0 1 u5.length)]) (g:=2) [])))⟩))))))
 intro _ h;refine Ae (Ad (lpF h (fun (u8,u0)=>sT [(1,.fn 1000053 [.agg [ai bC,ai bD,.ftr nz_ sI dB]]),(5,oS 0 1 u0.length),(10,.ftr nz_ sI dA),(11,an dA.length),(12,an u8)] [(oi 0 1,.tv 42 (some nz_) sI u0)]) (Ag [(oi 0 1,oi 8 3)]) ?_));rintro n_ ⟨u8,u0⟩ c_ h hn6;refine Ae (Ab (kQ h (fun _ h=>skW (Ab (Ad (Ab (Aa 6 (riH sI h fun x12 _ h=>rsT 2 (rnW (Aa 13 (rsT 3 ?_))))))))) fun _ h=>lxT (have h:=jO h hn6;jE [])));obtain ⟨y13,h13,h⟩:=Ah h;refine Jk (.ftr nz_ .int (x12.drop y13.1)) [] [.agg [ai bC,ai bD,.ftr nz_ sI dB],.ftr nz_ .int x12] _ (caps:=[.agg [ai bC,ai bD,.ftr nz_ sI dB]]) (args0:=[.agg [ai bC,ai bD,tS dB],tI x12]) trivial kr (D0 h13) kr (hr:=Pm h13) (m:=1000000) (Lq (oS 20 10 1) (oi 20 10) (.vec 42 1 1 (tvC (some nz_) sI ([x12.drop y13.1]))) trivial (Dt kr) ?_);obtain ⟨g14,h⟩:=Ak h;refine rs2 (oS 0 11 (u0.length+1)) (oi 0 1) (oi 0 11) (.vec 42 1 (u0.length+1) (tvC (some nz_) sI (u0++[x12.drop y13.1]))) (Zo (t':=sI) (t:=sI) (t2:=sI) (e2:=42) (q:=oi 20 10) (m:=some nz_) (z:=x12.drop y13.1) (o:=oi 0 1) (xs:=u0) (len:=u0.length) kr kr rfl kr kr g14) (rsT 1 (Ap (bn_ (tn_ ⟨_,Dc (N:=u0.length+1) (oi 0 11) 42 (some nz_) sI (u0++[x12.drop y13.1]) kr (by simp),Aa 15 (raH h fun h=>rsT 1 (Ap (tn_ ?_)))⟩))));obtain rfl:=zj h;exact jLw hn6 ((wL 5 ((by simp):u0.length+1=(u0++[x12.drop y13.1]).length)).trans (Ag [(oi 0 1,oi 0 11)]))
def Bk (u2:LL) (u3 u4:Int) (u5:LL) (u0:Nat) (u1:LL):Option (Ctl (Nat×LL) (LL)) :=
 cond (decide ((u0:Int)<(u2.length:Int)))
 ((u2[u0]?).bind fun x12 =>
 (Bf u3 u4 u5 x12).bind fun y13 =>
 og (u1.length+1<=1073741824/\(u1.length+1)*24<=140737488355328) <|
 og (u0+1<4611686018427387904) <|
 some (Ctl.next (u0+1,u1++[x12.take y13])))
 (some (Ctl.out u1))
def A9 (u5 u6:Int) (u0:LL) (u1 u2:Int) (u3:LL):Option (LL) :=
 (Aq (fun s_:Nat×LL=>Bk u0 u1 u2 u3 s_.1 s_.2) 4611686018427387904 (0,([]:List (List Int)))).bind fun u4 =>
some u4
theorem Cn (h:A9 bA bB dA bC bD dB=some dC):Wh Tryz.prog Tab 115 [.agg [ai bA,ai bB,tS dA],.fn 1000052 [.agg [ai bC,ai bD,tS dB]]] (oS 0 1 dC.length) [(oi 0 1,.tv 42 none sI dC)]:=by
 refine Ah7 kr Tryz.func115 (B6 kr) (fun nz_=>[.agg [ai bA,ai bB,.ftr nz_ sI dA],.fn 1000052 [.agg [ai bC,ai bD,.ftr nz_ sI dB]]]) (n:=24) kr (fun _=>by simp) (tl:=fun nz_=>[(0,.agg [ai bA,ai bB,.ftr nz_ sI dA]),(1,.fn 1000052 [.agg [ai bC,ai bD,.ftr nz_ sI dB]])]) (fun _=>rfl) (fun _=>⟨_,_,rfl,⟨_,rfl,⟨_,_,rfl,rfl,⟨_,_,rfl,rfl,⟨_,_,rfl,rfl,rfl⟩⟩⟩⟩,⟨_,_,rfl,⟨_,rfl,⟨_,_,rfl,⟨_,rfl,⟨_,_,rfl,rfl,⟨_,_,rfl,rfl,⟨_,_,rfl,rfl,rfl⟩⟩⟩⟩,rfl⟩⟩,rfl⟩⟩) (fun _=>by kernel_rfl) (fun _ _=>rfl) fun nz_=>Ae (Ab (Aa 5 (Lq (oS 8 3 0) (oi 8 3) (.vec 42 1 0 (tvC (some nz_) sI ([]:List (List Int)))) trivial (Dt kr) (rsT 1 (Ap (tn_ ⟨_,Dc (N:=0) (oi 8 3) 42 (some nz_) sI ([]:List (List Int)) kr rfl,sqF h (fun u5=>sT [(5,oS 0 1 u5.length)] [(oi 0 1,.tv 42 (some nz_) sI u5)]) ?_ fun u5 h=>Ae (Ac (by obtain rfl:=osj h;exact E4 [oS 0 1 u5.length] (Ag (tl:=[(4,oS 0 1 u5.length)]) (g:=2) [])))⟩))))))
 intro _ h;refine Ae (Ad (lpF h (fun (u8,u0)=>sT [(1,.fn 1000052 [.agg [ai bC,ai bD,.ftr nz_ sI dB]]),(5,oS 0 1 u0.length),(10,.ftr nz_ sI dA),(11,an dA.length),(12,an u8)] [(oi 0 1,.tv 42 (some nz_) sI u0)]) (Ag [(oi 0 1,oi 8 3)]) ?_));rintro n_ ⟨u8,u0⟩ c_ h hn6;refine Ae (Ab (kQ h (fun _ h=>skW (Ab (Ad (Ab (Aa 6 (riH sI h fun x12 _ h=>rsT 2 (rnW (Aa 13 (rsT 3 ?_))))))))) fun _ h=>lxT (have h:=jO h hn6;jE [])));obtain ⟨y13,h13,h⟩:=Ah h;refine Jk (.ftr nz_ .int (x12.take y13)) [] [.agg [ai bC,ai bD,.ftr nz_ sI dB],.ftr nz_ .int x12] _ (caps:=[.agg [ai bC,ai bD,.ftr nz_ sI dB]]) (args0:=[.agg [ai bC,ai bD,tS dB],tI x12]) trivial kr (Eb h13) kr (hr:=Qc h13) (m:=1000000) (Lq (oS 20 10 1) (oi 20 10) (.vec 42 1 1 (tvC (some nz_) sI ([x12.take y13]))) trivial (Dt kr) ?_);obtain ⟨g14,h⟩:=Ak h;refine rs2 (oS 0 11 (u0.length+1)) (oi 0 1) (oi 0 11) (.vec 42 1 (u0.length+1) (tvC (some nz_) sI (u0++[x12.take y13]))) (Zo (t':=sI) (t:=sI) (t2:=sI) (e2:=42) (q:=oi 20 10) (m:=some nz_) (z:=x12.take y13) (o:=oi 0 1) (xs:=u0) (len:=u0.length) kr kr rfl kr kr g14) (rsT 1 (Ap (bn_ (tn_ ⟨_,Dc (N:=u0.length+1) (oi 0 11) 42 (some nz_) sI (u0++[x12.take y13]) kr (by simp),Aa 15 (raH h fun h=>rsT 1 (Ap (tn_ ?_)))⟩))));obtain rfl:=zj h;exact jLw hn6 ((wL 5 ((by simp):u0.length+1=(u0++[x12.take y13]).length)).trans (Ag [(oi 0 1,oi 0 11)]))
def J8 (y6:LL) (a0:Int) (u0:Nat) (u1:LL):Option (Ctl (Nat×LL) (LL)) :=
 cond (decide ((u0:Int)<(y6.length:Int)))
 ((y6[u0]?).bind fun x13 =>
 (Dn (x13.length:Int)).bind fun y15 =>
 (Bv a0 y15 (-1) x13).bind fun y17 =>
 og (y17.length=y15.length) <|
 og (u1.length+([y17]).length<=1073741824/\(u1.length+([y17]).length)*24<=140737488355328) <|
 og (u0+1<4611686018427387904) <|
 some (Ctl.next (u0+1,u1++([y17]))))
 (some (Ctl.out u1))
def Kd (y27 y22:LL) (a0 u2:Int) (y23:LL) (u3:Int) (u0:Nat) (u1:LL):Option (Ctl (Nat×LL) (LL)) :=
 cond (decide ((u0:Int)<(y27.length:Int)))
 ((y27[u0]?).bind fun x34 =>
 og ((0:Int)<=0/\0<=(y22.length:Int)/\(y22.length:Int)<=(x34.length:Int)) <|
 (H2 a0 (x34.take y22.length) y22 u2).bind fun y37 =>
 og ((0:Int)<=(y22.length:Int)/\(y22.length:Int)<=(x34.length:Int)/\(x34.length:Int)<=(x34.length:Int)) <|
 (H2 a0 (x34.drop y22.length) y23 u3).bind fun y40 =>
 (Cw ([y37,y40])).bind fun y41 =>
 og (u1.length+1<=1073741824/\(u1.length+1)*24<=140737488355328) <|
 og (u0+1<4611686018427387904) <|
 some (Ctl.next (u0+1,u1++[y41])))
 (some (Ctl.out u1))
def Gz (a0 u0 u2:Int) (u3:LL) (u4 u1:Int) (u5:LL):Option (Int×Int×LL) :=
 (A8 u0 u2 u3 u0 u2 u3).bind fun y3 =>
((A9 u4 u1 u5 u4 u1 u5).bind fun y6 =>
 Aq (fun s_:Nat×LL=>J8 y6 a0 s_.1 s_.2) 4611686018427387904 (0,y3)).bind fun u6 =>
(A9 u0 u2 u3 u0 u2 u3).bind fun y22 =>
(A8 u4 u1 u5 u4 u1 u5).bind fun y23 =>
((Jt a0 u6 u2).bind fun y27 =>
 Aq (fun s_:Nat×LL=>Kd y27 y22 a0 u0 y23 u1 s_.1 s_.2) 4611686018427387904 (0,([]:LL))).bind fun u7 =>
(Bq a0 u0 u1 u7).bind fun y45 =>
some (y45.1,y45.2.1,y45.2.2)
theorem W1 (h:Gz bA bB bC dA bD bE dB=some pA):cK 87 [ai bA,.agg [ai bB,ai bC,tS dA],.agg [ai bD,ai bE,tS dB]] (Ck pA):=by
 refine cZ Tryz.func87 fun zn_ nz_ hz_=>Ae (Ab (Aa 9 (rsT 3 ?_)))
 obtain ⟨y3,h3,h⟩:=Ah h;refine Aqe (oS 336 7 y3.length) [(oi 336 7,some (.tv 42 none sI y3))] (caps:=[]) trivial (Ag2 (Cj h3)) kr (rsT 1 (rnW (sqF h (fun ua=>sT [(0,ai bA),(4,.box (oi 0 1) 0),(5,.box (oi 1 1) 0),(6,.box (oi 2 1) 0),(7,oS 3 1 ua.length)] [(oi 0 1,.cells 36 [ai bB,ai bC,tS dA]),(oi 1 1,.cells 36 [ai bD,ai bE,tS dB]),(oi 2 1,.cells 36 [ai 0,ai 0,.nils]),(oi 3 1,.tv 42 none sI ua)]) ?_ ?_)))
 ·intro _ h;refine Ab (Aa 15 (rsT 3 ?_));obtain ⟨y6,h6,h⟩:=Ah h;refine Aqe (oS 400 12 y6.length) [(oi 400 12,some (.tv 42 none sI y6))] (caps:=[]) trivial (Ag2 (Cn h6)) kr (rsT 2 (rnW (Ad (lpF h (fun (ub,u1)=>sT [(0,ai bA),(4,.box (oi 0 1) 0),(5,.box (oi 1 1) 0),(6,.box (oi 2 1) 0),(7,oS 3 1 u1.length),(25,oS 4 1 y6.length),(26,an y6.length),(27,an ub)] [(oi 0 1,.cells 36 [ai bB,ai bC,tS dA]),(oi 1 1,.cells 36 [ai bD,ai bE,tS dB]),(oi 2 1,.cells 36 [ai 0,ai 0,.nils]),(oi 3 1,.tv 42 none sI u1),(oi 4 1,.tv 42 none sI y6)]) (Ag [(oi 0 1,oi 4 1),(oi 1 1,oi 5 2),(oi 2 1,oi 6 3),(oi 3 1,oi 336 7),(oi 4 1,oi 400 12)]) ?_))));rintro n_ ⟨ub,u1⟩ c_ h hn7
  (try dsimp only at h);refine Ae (Ab (kQ h (fun q10 h=>?_) fun q10 h=>?_))
  ·have q10_:=of_decide_eq_true q10;refine skW (Ab (Ad (Ab (Aa 6 ?_))));obtain ⟨x13,e13,h⟩:=Ah h;refine zO (oi 4 1) sI y6.length (Ai e13) (rsl (tI x13) (Wa (o:=oi 4 1) (k:=0) (e1:=42) (N:=List.length y6) (t:=sI) (m:=none) (xs:=y6) (z:=x13) kr kr e13 kr) (rsT 1 (rnW (Ab (Aa 10 (rsT 2 (rcH h (fun h=>Gb (Fl h)) fun y15 h=>rsT 1 (rnW (Ab (Aa 14 (rsT 3 (rcM h [(oi 0 0,oi 528 8)] [ai bA,oI 528 8 y15.length,ai (-1),tI x13] (fun h=>Sy (Ir h rfl)) ⟨kr,trivial⟩ (aR kr) (Ay kr kr ⟨Bh kr,trivial⟩) fun y17 h=>Ap (tn_ ?_)))))))))))));obtain ⟨g18,h⟩:=Ak h;refine ⟨_,Aj9 (e:=3) (t:=.int) (xs:=y17) 10 (oi 528 8) kr kr g18.symm,Aa 19 (rsT 2 (rsU (tS ([y17])) [] (Ack (t:=.int) (yss:=[y17]) (Dp (t:=.int) (c:=tI y17) (ys:=y17) kr J2 Qy) kr) ?_))⟩;obtain ⟨g19,h⟩:=Ak h;refine rs2 (oS 3 17 (u1.length+([y17]).length)) (oi 3 1) (oi 3 17) (.vec 42 1 (u1.length+([y17]).length) (tvC none sI (u1++([y17])))) (Als (o:=oi 3 1) (t:=sI) (t':=sI) (len:=u1.length) (N:=u1.length) (m:=none) (xs:=u1) (ys:=[y17]) kr kr rfl rfl (Am7 kr) g19) (rsT 1 (Ap (bn_ (tn_ ⟨_,Dc (N:=u1.length+([y17]).length) (oi 3 17) 42 none sI (u1++([y17])) kr (by simp),Aa 21 ?_⟩))));obtain ⟨g20,h⟩:=Ak h;refine zA g20 (rsT 1 (Ap (tn_ ?_)));obtain rfl:=zj h;exact jLw hn7 ((wL 7 ((by simp):u1.length+([y17]).length=(u1++([y17])).length)).trans (Ag [(oi 3 1,oi 3 17)]))
  have q10_:=of_decide_eq_false q10;refine lxT ?_;have h:=jO h hn7
  (try dsimp only at h);exact jE []
 intro ua h
 (try dsimp only at h);refine Ab (Ao 12 (dsT 3 ?_));obtain ⟨y22,h22,h⟩:=Ah h;refine Art (oS 736 5 y22.length) [(oi 736 5,some (.tv 42 none sI y22))] (caps:=[]) trivial (Ag2 (Cn h22)) kr (dzl (.agg [ai bD,ai bE,tS dB]) (dzl (.agg [ai bD,ai bE,tS dB]) (dz0 (.fn 1000053 [.agg [ai bD,ai bE,tS dB]]) ?_)));obtain ⟨y23,h23,h⟩:=Ah h;refine Art (oS 800 9 y23.length) [(oi 800 9,some (.tv 42 none sI y23))] (caps:=[]) trivial (Ag2 (Cj h23)) kr (dz0 (oS 736 5 y22.length) (dz0 (oS 800 9 y23.length) (Co ⟨Aku kr,⟨Aku kr,trivial⟩⟩ (tn_ (wr_ (Ab (Aa 14 (Lq (oS 51 12 0) (oi 51 12) (.vec 42 1 0 []) trivial (Dt kr) (rsT 1 (Ap (tn_ ⟨_,Ex (e1:=42) (n:=0) 9000 (oi 51 12) 3 .int kr kr rfl kr kr,sqF h (fun u9=>sT [(0,ai bA),(4,.box (oi 0 1) 0),(5,.box (oi 1 1) 0),(6,.box (oi 2 1) 0),(13,oS 3 1 u9.length)] [(oi 0 1,.cells 36 [ai bB,ai bC,tS dA]),(oi 1 1,.cells 36 [ai bD,ai bE,tS dB]),(oi 2 1,.cells 36 [ai 0,ai 0,.nils]),(oi 3 1,.mat 42 (oi 4 1) .int u9),(oi 4 1,.pool 3 .int u9)]) ?_ ?_⟩)))))))))))
 ·intro _ h;refine Ab (Aa 22 (rsT 4 (rcM h [] [ai bA,oS 3 1 ua.length,ai bC] (fun h=>Sy (Aa0 h)) trivial (.cons (.ren kr) (.cons (.gnd kr (Ahh (e:=42) (m:=none) (t:=sI) (xs:=ua) ((Mn kr kr kr).trans kr) rfl)) (.cons (.ren kr) .nil))) (Ay kr kr trivial) fun y27 h=>rsT 2 (rnW (Ad (lpF h (fun (u3,u6)=>sT [(0,ai bA),(4,.box (oi 0 1) 0),(5,.box (oi 1 1) 0),(6,.box (oi 2 1) 0),(11,oS 3 1 y22.length),(12,oS 4 1 y23.length),(13,oS 5 1 u6.length),(56,oS 7 1 y27.length),(57,an y27.length),(58,an u3)] [(oi 0 1,.cells 36 [ai bB,ai bC,tS dA]),(oi 1 1,.cells 36 [ai bD,ai bE,tS dB]),(oi 2 1,.cells 36 [ai 0,ai 0,.nils]),(oi 3 1,.tv 42 none sI y22),(oi 4 1,.tv 42 none sI y23),(oi 5 1,.mat 42 (oi 6 1) .int u6),(oi 6 1,.pool 3 .int u6),(oi 7 1,.mat 42 (oi 8 1) .int y27),(oi 8 1,.pool 3 .int y27)]) (Ag [(oi 3 1,oi 736 5),(oi 4 1,oi 800 9),(oi 5 1,oi 51 12),(oi 6 1,oi 9000 14),(oi 7 1,oi 896 19),(oi 8 1,oi 897 19)]) ?_))))));rintro n_ ⟨u3,u6⟩ c_ h hn28
  (try dsimp only at h);refine Ae (Ab (kQ h (fun q31 h=>?_) fun q31 h=>?_))
  ·have q31_:=of_decide_eq_true q31;refine skW (Ab (Ad (Ab (Aa 6 ?_))));obtain ⟨x34,e34,h⟩:=Ah h;refine zO (oi 7 1) sI y27.length (Ai e34) (rsl (.own (kid (oi 8 1) u3) .int 0 x34.length) (D6 (o:=oi 7 1) (p:=oi 8 1) (e1:=42) (u:=.int) (xss:=y27) (row:=x34) (j:=u3) kr kr e34) (rsT 1 (rnW (Ab (Ao 16 (dsT 4 ?_))))));obtain ⟨g36,h⟩:=Ak h;obtain ⟨y37,h37,h⟩:=Ah h;refine ds0 (.own (kid (oi 8 1) u3) .int 0 y22.length) (G5 (t:=.int) (i:=kid (oi 8 1) u3) (off:=0) (len:=x34.length) (l:=0) (h:=(y22.length:Int)) kr kr kr rfl g36 rfl oM) (dz0 (oS 3 1 y22.length) (dz0 (.box (oi 0 1) 0) (dzl (ai bB) (My (oI 1120 14 y37.length) [nI 1120 14 y37] [ai bA,.own (kid (oi 8 1) u3) .int 0 y22.length,oS 3 1 y22.length,ai bB] _ (caps:=[]) (args0:=[ai bA,tI (x34.take y22.length),tS y22,ai bB]) trivial (Al kr (Al (Afz (e:=3) (u:=.int) (xs:=x34) ((Fj (P3 (t:=.int) (off:=0) (len:=y22.length) 1 rfl kr)).trans (Bc kr e34)) oM) (Al (Ahh (e:=42) (m:=none) (t:=sI) (xs:=y22) ((Fj (P3 (t:=sI) (off:=0) (len:=y22.length) 2 rfl kr)).trans kr) rfl) (Al kr Bg)))) (Gb (Rf h37)) kr (dz0 (oI 1120 14 y37.length) (Co (As kr) (tn_ (wr_ (Ab (Ao 26 (dsT 4 ?_)))))))))));obtain ⟨g39,h⟩:=Ak h;obtain ⟨y40,h40,h⟩:=Ah h;refine ds0 (.own (kid (oi 8 1) u3) .int y22.length (x34.length - y22.length)) (G5 (t:=.int) (i:=kid (oi 8 1) u3) (off:=0) (len:=x34.length) (l:=(y22.length:Int)) (h:=(x34.length:Int)) kr kr kr rfl g39 (Nat.zero_add _) oM) (dz0 (oS 4 1 y23.length) (dz0 (.box (oi 1 1) 1) (dzl (ai bE) (My (oI 1264 24 y40.length) [nI 1264 24 y40] [ai bA,.own (kid (oi 8 1) u3) .int y22.length (x34.length - y22.length),oS 4 1 y23.length,ai bE] _ (caps:=[]) (args0:=[ai bA,tI (x34.drop y22.length),tS y23,ai bE]) trivial (Al kr (Al (Aqc (e:=3) (u:=.int) (xs:=x34) ((Fj (P3 (t:=.int) (off:=y22.length) (len:=x34.length - y22.length) 1 rfl kr)).trans (Bc kr e34)) oM (by rw [List.take_of_length_le (by rw [List.length_drop];omega)])) (Al (Ahh (e:=42) (m:=none) (t:=sI) (xs:=y23) ((Fj (P3 (t:=sI) (off:=0) (len:=y23.length) 2 rfl kr)).trans kr) rfl) (Al kr Bg)))) (Gb (Rf h40)) kr (dz0 (oI 1264 24 y40.length) (Co (As kr) (tn_ (wr_ (Aa 34 (rsT 3 (rsU (tS ([y37,y40])) [(oi 1120 14,none),(oi 1264 24,none)] (Ack (t:=.int) (yss:=[y37,y40]) (Dp (t:=.int) (c:=oI 1120 14 y37.length) (ys:=y37) kr (Jf (e:=3) kr rfl) (Dp (t:=.int) (c:=oI 1264 24 y40.length) (ys:=y40) kr (Jf (e:=3) kr rfl) Qy)) kr) (rcH h (fun h=>Gb (Ib h)) fun y41 h=>Lq (oS 85 31 1) (oi 85 31) (.vec 42 1 1 ([oI 1344 30 y41.length])) trivial (Dt kr) ?_))))))))))));obtain ⟨g42,h⟩:=Ak h;refine zV (oi 5 1) (oi 85 31) (oi 6 1) u6 [oI 1344 30 y41.length] g42 (rsT 1 (Ap (bn_ (tn_ ⟨_,El (e1:=42) (e:=3) (u:=.int) (n:=u6.length+1) (len:=y41.length) (row:=y41) (ys:=y41) (xss:=u6) 9000 (oi 5 32) (oi 6 1) (oi 1344 30) kr kr rfl kr kr (Nm rfl) (Nn rfl) kr kr kr,Aa 37 ?_⟩))));obtain ⟨g43,h⟩:=Ak h;refine zA g43 (rsT 1 (Ap (tn_ ?_)));obtain rfl:=zj h;exact jLw hn28 ((wL 13 ((by simp):u6.length+1=(u6++[y41]).length)).trans (Ag [(oi 5 1,oi 5 32),(oi 6 1,oi 9000 34)]))
  have q31_:=of_decide_eq_false q31;refine lxT ?_;have h:=jO h hn28
  (try dsimp only at h);exact jE [(oi 3 1,oi 5 1),(oi 4 1,oi 6 1)]
 intro u9 h
 (try dsimp only at h);exact Ab (Aa 10 (rsT 6 (rcG h [ai bA,ai bB,ai bE,oS 3 1 u9.length] (fun h=>Fc hz_ (Ek h)) (Al kr (Al kr (Al kr (Al (La (p:=oi 4 1) (e1:=42) (e:=3) (u:=.int) (xss:=u9) kr (Cc kr) rfl) Bg)))) fun y45 h=>rsB 1 (rnW (Ac (jZ h [(true,[ai y45.1,ai y45.2.1,.ftr nz_ sI y45.2.2])] (Ea (Aw B2 (Aw B2 (Aw (Bp .ftr) Ee))) B8)))))))
end Go.Proofs.YtopjojkjaklalaaGreatDoor


namespace Go.Proofs.YtopjojkjaklalaaGreatDoor
open Go.RowKit Go.Deep
set_option maxRecDepth 4000
set_option maxHeartbeats 4800000
variable {bA bB bC bD bE:Int} {gA:ByteArray} {pA:Int×Int×LL} {hA:List (Int×Int×ByteArray)} {aA:List Int} {cA:Bool} {dA dB:LL} {vA:List Int×Bool} {wA:Sum Unit (List Int)}
def A5 (a0 u0 u1:Int) (u2:ByteArray):Option (Int×Int×LL) :=
 cond (u0==1)
 ((Dx u1).bind fun y6 =>
 some (y6.1,y6.2.1,y6.2.2))
 (cond (u0==2)
  ((Bq a0 2 2 ([[1,0,0,1],[0,1,1,0]])).bind fun y10 =>
  some (y10.1,y10.2.1,y10.2.2))
  (cond (decide (9<=u0))
   ((Lm u0).bind fun y14 =>
   (Dj y14).bind fun y15 =>
   (Lm u0).bind fun y17 =>
   (H8 y17 u1).bind fun y18 =>
   (Bq a0 y15.1 y15.2 y18).bind fun y19 =>
   (M8 a0 y19.1 y19.2.1 y19.2.2).bind fun y20 =>
   some (y20.1,y20.2.1,y20.2.2))
   ((Dj u0).bind fun y22 =>
   (H8 u0 u1).bind fun y24 =>
   (Bq a0 y22.1 y22.2 y24).bind fun y25 =>
   some (y25.1,y25.2.1,y25.2.2))))
theorem Sq (h:A5 bA bB bC gA=some pA):cK 89 [ai bA,.agg [ai bB,ai bC,.str gA]] (Ck pA):=by
 exact cZ Tryz.func89 fun zn_ nz_ hz_=>Ae (Ab (Ad (Ae (kQ h (fun _ h=>Ab (Aa 11 (rsT 2 (rcH h (fun h=>Fc hz_ (Pp h)) fun y6 h=>rsB 1 (rnW (Ac (br_ (tr_ (jZ h [(true,[ai y6.1,ai y6.2.1,.ftr nz_ sI y6.2.2])] (Ea (Aw B2 (Aw B2 (Aw (Bp .ftr) Ee))) B8)))))))))) fun _ h=>Ae (kQ h (fun _ h=>Ab (Aa 17 (rsB 3 (rsU (tS ([[1,0,0,1],[0,1,1,0]])) [(oi 19 12,none),(oi 20 13,none)] (Ack (t:=.int) (yss:=[[1,0,0,1],[0,1,1,0]]) (Dp (t:=.int) (c:=oI 19 12 4) (ys:=[1,0,0,1]) kr (Jf (e:=3) kr rfl) (Dp (t:=.int) (c:=oI 20 13 4) (ys:=[0,1,1,0]) kr (Jf (e:=3) kr rfl) Qy)) kr) (rcH h (fun h=>Fc hz_ (Ek h)) fun y10 h=>rsB 1 (rnW (Ac (br_ (tr_ (jZ h [(true,[ai y10.1,ai y10.2.1,.ftr nz_ sI y10.2.2])] (Ea (Aw B2 (Aw B2 (Aw (Bp .ftr) Ee))) B8))))))))))) fun _ h=>Ae (kQ h (fun _ h=>Ab (Aa 21 (rsT 2 (rcH h (fun h=>Gb (Ox h)) fun y14 h=>rcH h (fun h=>Gb (Gl h)) fun y15 h=>rsB 2 (rnW (Ab (Ao 36 (dsT 8 (dcH h (fun h=>Gb (Ox h)) fun y17 h=>ds0 (.box (oi 3 1) 1) kr (dsl (ai bC) kr (dcH h (fun h=>Fc hz_ (Lt h)) fun y18 h=>dcH h (fun h=>Fc hz_ (Ek h)) fun y19 h=>dcH h (fun h=>Fc hz_ (Wm h)) fun y20 h=>Oz (oi 4 2) (oi 4 2) (.cells 36 [ai y20.1,ai y20.2.1,.ftr nz_ sI y20.2.2]) kr (Co (As kr) (tn_ (wr_ (Ac (br_ (tr_ (jZ h [(true,[ai y20.1,ai y20.2.1,.ftr nz_ sI y20.2.2])] (Ea (Aw B2 (Aw B2 (Aw (Bp .ftr) Ee))) B8))))))))))))))))))) fun _ h=>Az (bn_ (tn_ (wr_ (Ab (Aa 20 (rsT 2 (rcH h (fun h=>Gb (Gl h)) fun y22 h=>rsB 2 (rnW (Ab (Ao 32 (dsT 9 (dcH h (fun h=>Fc hz_ (Lt h)) fun y24 h=>dcH h (fun h=>Fc hz_ (Ek h)) fun y25 h=>Oz (oi 4 2) (oi 4 2) (.cells 36 [ai y25.1,ai y25.2.1,.ftr nz_ sI y25.2.2]) kr (Co (As kr) (tn_ (wr_ (Ac (jZ h [(true,[ai y25.1,ai y25.2.1,.ftr nz_ sI y25.2.2])] (Ea (Aw B2 (Aw B2 (Aw (Bp .ftr) Ee))) B8))))))))))))))))))))))))
def F2 (u2:List (Int×Int×ByteArray)) (a0:Int) (u1:Nat) (u0:List (Int×Int×LL)):Option (Ctl (Nat×(List (Int×Int×LL))) (List (Int×Int×LL))) :=
 cond (decide ((u1:Int)<(u2.length:Int)))
 (((u2[u1]?).bind fun x11 =>
  cond (x11.1==15)
   (og ((0:Int)<=0/\0<=wI ((wI ((u0.length:Int) - 1)) - 1)/\wI ((wI ((u0.length:Int) - 1)) - 1)<=(u0.length:Int)) <|
   (Cb u0 (wI ((wI ((u0.length:Int) - 1)) - 1))).bind fun x17 =>
   (Cb u0 (wI ((wI ((u0.length:Int) - 1)) - 1))).bind fun x18 =>
   (Cb u0 (wI ((u0.length:Int) - 1))).bind fun x19 =>
   (Cb u0 (wI ((u0.length:Int) - 1))).bind fun x20 =>
   (Gz a0 x18.1 x18.2.1 x18.2.2 x20.1 x20.2.1 x20.2.2).bind fun y21 =>
   og ((wI ((wI ((u0.length:Int) - 1)) - 1)).toNat<=u0.length/\(wI ((wI ((u0.length:Int) - 1)) - 1)).toNat+1<=1073741824/\((wI ((wI ((u0.length:Int) - 1)) - 1)).toNat+1)*40<=140737488355328) <|
   some (u0.take ((wI ((wI ((u0.length:Int) - 1)) - 1)).toNat)++[y21]))
   (cond (x11.1==16)
    (og ((0:Int)<=0/\0<=wI ((wI ((u0.length:Int) - 1)) - 1)/\wI ((wI ((u0.length:Int) - 1)) - 1)<=(u0.length:Int)) <|
    (Cb u0 (wI ((wI ((u0.length:Int) - 1)) - 1))).bind fun x26 =>
    (Cb u0 (wI ((wI ((u0.length:Int) - 1)) - 1))).bind fun x27 =>
    (Cb u0 (wI ((u0.length:Int) - 1))).bind fun x28 =>
    (Cb u0 (wI ((u0.length:Int) - 1))).bind fun x29 =>
    (Jn a0 x27.1 x27.2.1 x27.2.2 x29.1 x29.2.1 x29.2.2).bind fun y30 =>
    og ((wI ((wI ((u0.length:Int) - 1)) - 1)).toNat<=u0.length/\(wI ((wI ((u0.length:Int) - 1)) - 1)).toNat+1<=1073741824/\((wI ((wI ((u0.length:Int) - 1)) - 1)).toNat+1)*40<=140737488355328) <|
    some (u0.take ((wI ((wI ((u0.length:Int) - 1)) - 1)).toNat)++[y30]))
    ((A5 a0 x11.1 x11.2.1 x11.2.2).bind fun y32 =>
    og (u0.length+1<=1073741824/\(u0.length+1)*40<=140737488355328) <|
    some (u0++[y32])))).bind fun u3 =>
 og (u1+1<4611686018427387904) <|
 some (Ctl.next (u1+1,u3)))
 (some (Ctl.out u0))
def Mm (a0:Int) (u0:List (Int×Int×ByteArray)):Option (Int×Int×LL) :=
 (Aq (fun s_:Nat×(List (Int×Int×LL))=>F2 u0 a0 s_.1 s_.2) 4611686018427387904 (0,[])).bind fun u1 =>
(u1[0]?).bind fun x36 =>
some (x36.1,x36.2.1,x36.2.2)
theorem Adf (h:Mm bA hA=some pA):cK 49 [ai bA,.agg [.tree Y8 hA]] (Ck pA):=by
 refine cZ Tryz.func49 fun zn_ nz_ hz_=>Ae (Ab (Aa 5 (Lq (.own (oi 9 3) Y9 0 0) (oi 9 3) (.vec 36 3 0 (tvC (some nz_) Y9 [])) trivial (Dt kr) (rsT 1 (Ap (tn_ ⟨_,Dc (N:=0) (oi 9 3) 36 (some nz_) Y9 [] kr rfl,sqF h (fun u2=>sT [(4,.box (oi 0 1) 0),(5,.own (oi 1 1) Y9 0 u2.length)] [(oi 0 1,.cells 36 [ai 0,ai 0,.nils]),(oi 1 1,.tv 36 (some nz_) Y9 u2)]) ?_ ?_⟩))))))
 ·intro _ h;refine Ae (Ad (lpF h (fun (u3,u0)=>sT [(0,ai bA),(4,.box (oi 0 1) 0),(5,.own (oi 1 1) Y9 0 u0.length),(11,.tree Y8 hA),(12,an hA.length),(13,an u3)] [(oi 0 1,.cells 36 [ai 0,ai 0,.nils]),(oi 1 1,.tv 36 (some nz_) Y9 u0)]) (Ag [(oi 0 1,oi 4 2),(oi 1 1,oi 9 3)]) ?_));rintro n_ ⟨u3,u0⟩ c_ h hn5
  (try dsimp only at h);refine Ae (Ab (kQ h (fun q8 h=>?_) fun q8 h=>?_))
  ·have q8_:=of_decide_eq_true q8;refine skW (sqF h (fun u4=>sT [(0,ai bA),(4,.box (oi 0 1) 0),(5,.own (oi 1 1) Y9 0 u4.length),(11,.tree Y8 hA),(12,an hA.length),(13,an u3)] [(oi 0 1,.cells 36 [ai 0,ai 0,.nils]),(oi 1 1,.tv 36 (some nz_) Y9 u4)]) ?_ ?_)
   ·intro _ h;refine Ad (Ab (Aa 7 (riH Y8 h fun x11 _ h=>rsB 3 (rnW (Ae (Ae (Ad (Ae (kQ h (fun _ h=>?_) fun _ h=>?_)))))))))
    ·refine Ao 33 (dz0 (.own (oi 1 1) Y9 0 u0.length) (dz0 (ai (wI ((u0.length:Int) - 1))) (dz0 (ai (wI ((wI ((u0.length:Int) - 1)) - 1))) ?_)));obtain ⟨g16,h⟩:=Ak h;obtain ⟨x17,f17,h⟩:=Ah h;obtain ⟨p17,b17,e17⟩:=Ar f17;obtain ⟨x18,f18,h⟩:=Ah h;obtain ⟨p18,b18,e18⟩:=Ar f18;obtain ⟨x19,f19,h⟩:=Ah h;obtain ⟨p19,b19,e19⟩:=Ar f19;obtain ⟨x20,f20,h⟩:=Ah h;obtain ⟨p20,b20,e20⟩:=Ar f20;obtain ⟨y21,h21,h⟩:=Ah h;obtain ⟨g22,h⟩:=Ak h;refine ds0 (.own (oi 1 1) Y9 0 ((wI ((wI ((u0.length:Int) - 1)) - 1)).toNat)) (G5 (t:=Y9) (i:=oi 1 1) (off:=0) (len:=u0.length) (l:=0) (h:=wI ((wI ((u0.length:Int) - 1)) - 1)) kr kr kr rfl g16 rfl oM) (dsT 4 (ds0 (.elt (oi 1 1) ((wI ((wI ((u0.length:Int) - 1)) - 1)).toNat) 0) (zo (t:=Y9) (o:=oi 1 1) (len:=u0.length) (k:=.i64) (m:=wI ((wI ((u0.length:Int) - 1)) - 1)) p17 (Ai e17)) (dsl (.agg [ai x18.1,ai x18.2.1,.ftr nz_ sI x18.2.2]) (Wa (o:=oi 1 1) (k:=0) (e1:=36) (N:=List.length u0) (t:=Y9) (m:=some nz_) (xs:=u0) (z:=x18) kr kr e18 kr (Nat.le_of_ble_eq_true kr)) (dz0 (.own (oi 1 1) Y9 0 u0.length) (dz0 (ai (wI ((u0.length:Int) - 1))) (ds0 (.elt (oi 1 1) ((wI ((u0.length:Int) - 1)).toNat) 0) (zo (t:=Y9) (o:=oi 1 1) (len:=u0.length) (k:=.i64) (m:=wI ((u0.length:Int) - 1)) p19 (Ai e19)) (dsl (.agg [ai x20.1,ai x20.2.1,.ftr nz_ sI x20.2.2]) (Wa (o:=oi 1 1) (k:=0) (e1:=36) (N:=List.length u0) (t:=Y9) (m:=some nz_) (xs:=u0) (z:=x20) kr kr e20 kr (Nat.le_of_ble_eq_true kr)) (My (.agg [ai y21.1,ai y21.2.1,.ftr nz_ sI y21.2.2]) [] [ai bA,.agg [ai x18.1,ai x18.2.1,.ftr nz_ sI x18.2.2],.agg [ai x20.1,ai x20.2.1,.ftr nz_ sI x20.2.2]] _ (caps:=[]) (args0:=[ai bA,.agg [ai x18.1,ai x18.2.1,tS x18.2.2],.agg [ai x20.1,ai x20.2.1,tS x20.2.2]]) trivial kr (Fc hz_ (W1 h21)) kr (Alg (.own (oi 45 30) Y9 0 1) (oi 45 30) (.vec 36 3 1 (tvC (some nz_) Y9 ([y21]))) trivial (Dt kr) (ds2 (.own (oi 1 31) Y9 0 ((wI ((wI ((u0.length:Int) - 1)) - 1)).toNat+1)) (oi 1 1) (oi 1 31) (.vec 36 3 ((wI ((wI ((u0.length:Int) - 1)) - 1)).toNat+1) (tvC (some nz_) Y9 (u0.take ((wI ((wI ((u0.length:Int) - 1)) - 1)).toNat)++[y21]))) (Zw (o:=oi 1 1) (q:=oi 45 30) (e2:=36) (t:=Y9) (t':=Y9) (t2:=Y9) (len:=(wI ((wI ((u0.length:Int) - 1)) - 1)).toNat) (N:=u0.length) (m:=some nz_) (xs:=u0) (z:=y21) kr kr rfl kr kr g22) ?_))))))))));refine dz0 (.own (oi 1 31) Y9 0 ((wI ((wI ((u0.length:Int) - 1)) - 1)).toNat+1)) (Co (As kr) (bn_ (bn_ (tn_ ?_))));obtain rfl:=zj h;exact (Dc (N:=(wI ((wI ((u0.length:Int) - 1)) - 1)).toNat+1) (oi 1 31) 36 (some nz_) Y9 (u0.take ((wI ((wI ((u0.length:Int) - 1)) - 1)).toNat)++[y21]) kr (So rfl g22)).trans ((wL 5 ((So rfl g22):(wI ((wI ((u0.length:Int) - 1)) - 1)).toNat+1=(u0.take ((wI ((wI ((u0.length:Int) - 1)) - 1)).toNat)++[y21]).length)).trans (Ag [(oi 1 1,oi 1 31)]))
    refine Ae (kQ h (fun _ h=>?_) fun _ h=>?_)
    ·refine Ao 35 (dz0 (.own (oi 1 1) Y9 0 u0.length) (dz0 (ai (wI ((u0.length:Int) - 1))) (dz0 (ai (wI ((wI ((u0.length:Int) - 1)) - 1))) ?_)));obtain ⟨g25,h⟩:=Ak h;obtain ⟨x26,f26,h⟩:=Ah h;obtain ⟨p26,b26,e26⟩:=Ar f26;obtain ⟨x27,f27,h⟩:=Ah h;obtain ⟨p27,b27,e27⟩:=Ar f27;obtain ⟨x28,f28,h⟩:=Ah h;obtain ⟨p28,b28,e28⟩:=Ar f28;obtain ⟨x29,f29,h⟩:=Ah h;obtain ⟨p29,b29,e29⟩:=Ar f29;obtain ⟨y30,h30,h⟩:=Ah h;obtain ⟨g31,h⟩:=Ak h;refine ds0 (.own (oi 1 1) Y9 0 ((wI ((wI ((u0.length:Int) - 1)) - 1)).toNat)) (G5 (t:=Y9) (i:=oi 1 1) (off:=0) (len:=u0.length) (l:=0) (h:=wI ((wI ((u0.length:Int) - 1)) - 1)) kr kr kr rfl g25 rfl oM) (dsT 4 (ds0 (.elt (oi 1 1) ((wI ((wI ((u0.length:Int) - 1)) - 1)).toNat) 0) (zo (t:=Y9) (o:=oi 1 1) (len:=u0.length) (k:=.i64) (m:=wI ((wI ((u0.length:Int) - 1)) - 1)) p26 (Ai e26)) (dsl (.agg [ai x27.1,ai x27.2.1,.ftr nz_ sI x27.2.2]) (Wa (o:=oi 1 1) (k:=0) (e1:=36) (N:=List.length u0) (t:=Y9) (m:=some nz_) (xs:=u0) (z:=x27) kr kr e27 kr (Nat.le_of_ble_eq_true kr)) (dz0 (.own (oi 1 1) Y9 0 u0.length) (dz0 (ai (wI ((u0.length:Int) - 1))) (ds0 (.elt (oi 1 1) ((wI ((u0.length:Int) - 1)).toNat) 0) (zo (t:=Y9) (o:=oi 1 1) (len:=u0.length) (k:=.i64) (m:=wI ((u0.length:Int) - 1)) p28 (Ai e28)) (dsl (.agg [ai x29.1,ai x29.2.1,.ftr nz_ sI x29.2.2]) (Wa (o:=oi 1 1) (k:=0) (e1:=36) (N:=List.length u0) (t:=Y9) (m:=some nz_) (xs:=u0) (z:=x29) kr kr e29 kr (Nat.le_of_ble_eq_true kr)) (My (.agg [ai y30.1,ai y30.2.1,.ftr nz_ sI y30.2.2]) [] [ai bA,.agg [ai x27.1,ai x27.2.1,.ftr nz_ sI x27.2.2],.agg [ai x29.1,ai x29.2.1,.ftr nz_ sI x29.2.2]] _ (caps:=[]) (args0:=[ai bA,.agg [ai x27.1,ai x27.2.1,tS x27.2.2],.agg [ai x29.1,ai x29.2.1,tS x29.2.2]]) trivial kr (Fc hz_ (Aaz h30)) kr (Alg (.own (oi 64 32) Y9 0 1) (oi 64 32) (.vec 36 3 1 (tvC (some nz_) Y9 ([y30]))) trivial (Dt kr) (ds2 (.own (oi 1 33) Y9 0 ((wI ((wI ((u0.length:Int) - 1)) - 1)).toNat+1)) (oi 1 1) (oi 1 33) (.vec 36 3 ((wI ((wI ((u0.length:Int) - 1)) - 1)).toNat+1) (tvC (some nz_) Y9 (u0.take ((wI ((wI ((u0.length:Int) - 1)) - 1)).toNat)++[y30]))) (Zw (o:=oi 1 1) (q:=oi 64 32) (e2:=36) (t:=Y9) (t':=Y9) (t2:=Y9) (len:=(wI ((wI ((u0.length:Int) - 1)) - 1)).toNat) (N:=u0.length) (m:=some nz_) (xs:=u0) (z:=y30) kr kr rfl kr kr g31) ?_))))))))));refine dz0 (.own (oi 1 33) Y9 0 ((wI ((wI ((u0.length:Int) - 1)) - 1)).toNat+1)) (Co (As kr) (bn_ (bn_ (tn_ ?_))));obtain rfl:=zj h;exact (Dc (N:=(wI ((wI ((u0.length:Int) - 1)) - 1)).toNat+1) (oi 1 33) 36 (some nz_) Y9 (u0.take ((wI ((wI ((u0.length:Int) - 1)) - 1)).toNat)++[y30]) kr (So rfl g31)).trans ((wL 5 ((So rfl g31):(wI ((wI ((u0.length:Int) - 1)) - 1)).toNat+1=(u0.take ((wI ((wI ((u0.length:Int) - 1)) - 1)).toNat)++[y30]).length)).trans (Ag [(oi 1 1,oi 1 33)]))
    refine Aa 24 (rsT 3 (rcH h (fun h=>Fc hz_ (Sq h)) fun y32 h=>Lq (.own (oi 26 21) Y9 0 1) (oi 26 21) (.vec 36 3 1 (tvC (some nz_) Y9 ([y32]))) trivial (Dt kr) ?_));obtain ⟨g33,h⟩:=Ak h;refine rs2 (.own (oi 1 22) Y9 0 (u0.length+1)) (oi 1 1) (oi 1 22) (.vec 36 3 (u0.length+1) (tvC (some nz_) Y9 (u0++[y32]))) (Zo (t':=Y9) (t:=Y9) (t2:=Y9) (e2:=36) (q:=oi 26 21) (m:=some nz_) (z:=y32) (o:=oi 1 1) (xs:=u0) (len:=u0.length) kr kr rfl kr kr g33) (rsT 1 (Ap (bn_ (bn_ (tn_ ?_)))));obtain rfl:=zj h;exact (Dc (N:=u0.length+1) (oi 1 22) 36 (some nz_) Y9 (u0++[y32]) kr (by simp)).trans ((wL 5 ((by simp):u0.length+1=(u0++[y32]).length)).trans (Ag [(oi 1 1,oi 1 22)]))
   intro u4 h
   (try dsimp only at h);refine Aa 4 ?_;obtain ⟨g34,h⟩:=Ak h;exact zA g34 (rsT 1 (Ap (tn_ (jL []))))
  have q8_:=of_decide_eq_false q8;refine lxT ?_;have h:=jO h hn5
  (try dsimp only at h);exact jE []
 intro u2 h
 (try dsimp only at h);refine Ab (Aa 6 (rsT 1 ?_));obtain ⟨x36,e36,h⟩:=Ah h;exact rs0 (.elt (oi 1 1) 0 0) (Wn (t:=Y9) (o:=oi 1 1) (len:=u2.length) (k:=.i64) (m:=0) kr kr rfl (by decide) rfl (Ai e36)) (rsl (.agg [ai x36.1,ai x36.2.1,.ftr nz_ sI x36.2.2]) (Wa (o:=oi 1 1) (k:=0) (e1:=36) (N:=List.length u2) (t:=Y9) (m:=some nz_) (xs:=u2) (z:=x36) kr kr e36 kr (Nat.le_of_ble_eq_true kr)) (rsB 1 (rnW (Ac (jZ h [(true,[ai x36.1,ai x36.2.1,.ftr nz_ sI x36.2.2])] (Ea (Aw B2 (Aw B2 (Aw (Bp .ftr) Ee))) B8))))))
def Lk (a0:List Int) (u0:Nat):Option (Ctl Nat (Ctl Unit Int)) :=
 cond (decide ((u0:Int)<(a0.length:Int)))
 ((a0[u0]?).bind fun x10 =>
 cond (x10 !=0)
  (some (Ctl.out (Ctl.out (u0:Int))))
  (og (u0+1<4611686018427387904) <|
  some (Ctl.next (u0+1))))
 (some (Ctl.out (Ctl.next ())))
def Mv (a0:List Int):Option Int :=
 Di (Aq (fun s_:Nat=>Lk a0 s_) 4611686018427387904 0) fun _ =>
some (a0.length:Int)
theorem V7 (h:Mv aA=some bA):cK 150 [tI aA] (A3 bA):=by
 exact cO Tryz.func150 (Ae (sqC h (fun _=>sT [(0,tI aA)] []) (fun _ h hk2=>Ae (Ad (lpF h (fun u0=>sT [(0,tI aA),(5,tI aA),(6,an aA.length),(7,an u0)] []) (Ag []) (fun n_ u0 c_ h hn4=>Ae (Ab (kQ h (fun _ h=>skW (Ab (Ad (Ab (Aa 8 (rsT 1 (riH .int h fun x10 _ h=>rsT 3 (rnW (Ae (kQ h (fun _ h=>Ae (Ac (br_ (tr_ (tr_ (br_ (tr_ (have h:=jO h hn4;(have h:=jO h hk2;jS h))))))))) fun _ h=>Az (bn_ (tn_ (wr_ (Aa 12 (raH h fun h=>rsT 1 (Ap (tn_ (jL [])))))))))))))))))) fun _ h=>lxT (have h:=jO h hn4;jC []))))))) fun _ h=>Ae (Ac (jS h))))
def Pt (a0:List Int):Option Bool :=
 (Mv a0).bind fun y3 =>
some (y3==(a0.length:Int))
theorem Acr (h:Pt aA=some cA):cK 151 [tI aA] (An cA):=by
 exact cO Tryz.func151 (Ae (Ab (Aa 8 (rsT 1 (rcH h V7 fun y3 h=>rsT 4 (rnW (Ac (jS h))))))))
def E3 (a1:LL) (a0:Int) (u0:Nat) (u1 u2:List Int):Option (Ctl (Nat×List Int×List Int) (List Int×List Int)) :=
 cond (decide ((u0:Int)<(a1.length:Int)))
 ((a1[u0]?).bind fun x13 =>
 (Mv x13).bind fun y15 =>
 (Cb u1 y15).bind fun x16 =>
 og (u2.length+1<=1073741824/\(u2.length+1)*8<=140737488355328) <|
 (Bv a0 u1 (wI (0 - x16)) x13).bind fun y19 =>
 og (y19.length=u1.length) <|
 og (u0+1<4611686018427387904) <|
 some (Ctl.next (u0+1,y19,u2++([x16]))))
 (some (Ctl.out (u1,u2)))
def Kg (a0:Int) (a1:LL) (a2:List Int):Option (List Int×Bool) :=
 (Iz a2).bind fun y3 =>
(Aq (fun s_:Nat×List Int×List Int=>E3 a1 a0 s_.1 s_.2.1 s_.2.2) 4611686018427387904 (0,y3,[])).bind fun (u0,u1) =>
(Pt u0).bind fun y23 =>
some (u1,y23)
def Ts (r:List Int×Bool):RV:=⟨true,[(false,[.new 3 .int r.1]),(false,[.sc (.bool r.2)])]⟩
theorem To (h:Kg bA dA aA=some vA):cK 128 [ai bA,tS dA,tI aA] (Ts vA):=by
 refine cO Tryz.func128 (Ae (Ab (Aa 6 (rsT 1 (rcH h Py fun y3 h=>rsT 1 (rnW (Ae (sqF h (fun (u1,u2)=>sT [(8,oI 0 1 u1.length),(9,oI 1 1 u2.length)] [(oi 0 1,.arr 3 .int u1),(oi 1 1,.arr 3 .int u2)]) ?_ ?_))))))))
 ·intro _ h;refine Ae (Ad (lpF h (fun (u4,u0,u3)=>sT [(0,ai bA),(8,oI 0 1 u0.length),(9,oI 1 1 u3.length),(16,tS dA),(17,an dA.length),(18,an u4)] [(oi 0 1,.arr 3 .int u0),(oi 1 1,.arr 3 .int u3)]) (Ag [(oi 0 1,oi 224 4),(oi 1 1,oi 15 6)]) ?_));rintro n_ ⟨u4,u0,u3⟩ c_ h hn7;refine Ae (Ab (kQ h (fun _ h=>skW (Ab (Ad (Ab (Aa 6 (riH sI h fun x13 _ h=>rsT 2 (rnW (Ab (Aa 12 (rsT 2 (rcH h V7 fun y15 h=>?_))))))))))) fun _ h=>lxT (have h:=jO h hn7;jE [])));obtain ⟨x16,f16,h⟩:=Ah h;obtain ⟨p16,b16,e16⟩:=Ar f16;refine rs0 (.elt (oi 0 1) y15.toNat 0) (zo (t:=.int) (o:=oi 0 1) (len:=u0.length) (k:=.i64) (m:=y15) p16 (Ai e16)) (zE (oi 0 1) e16 (rsT 1 (rnW (Ab (Aa 17 (rsB 3 ?_))))));obtain ⟨g18,h⟩:=Ak h;refine zB (oi 1 1) (oi 29 14) u3 (x16) g18 (rsT 1 (rnW (Aa 23 (rsT 5 (rcM h [(oi 0 0,oi 0 1)] [ai bA,oI 0 1 u0.length,ai (wI (0 - x16)),tI x13] (fun h=>Ir h rfl) ⟨kr,trivial⟩ (aR kr) (Ay kr kr ⟨Bh kr,trivial⟩) fun y19 h=>Ap (bn_ (tn_ (wr_ (Aa 25 ?_)))))))));obtain ⟨g20,h⟩:=Ak h;obtain ⟨g21,h⟩:=Ak h;refine zA g21 (rsT 1 (Ap (tn_ ?_)));obtain rfl:=zj h;exact jLw hn7 ((wL 8 (g20.symm:u0.length=y19.length)).trans (Ag [(oi 1 1,oi 1 15)]))
 rintro ⟨u1,u2⟩ h;exact Ab (Aa 7 (rsT 2 (rcG h [oI 0 1 u1.length] Acr (Al (Bl (e:=3) kr rfl) Bg) fun y23 h=>rsT 2 (rnW (Ac (jR h [oI 1 1 u2.length,.bool y23] (Db rfl (Cv kr rfl) (Db rfl zl E6))))))))
def K4 (a0 u1 u2:Int) (u0:LL) (a2:List Int):Option Bool :=
 (Kg a0 u0 a2).bind fun y3 =>
some y3.2
theorem Yz (h:K4 bA bB bC dA aA=some cA):cK 90 [ai bA,.agg [ai bB,ai bC,tS dA],tI aA] (An cA):=by
 exact cO Tryz.func90 (Ae (Ab (Aa 13 (rsT 4 (rcH h To fun y3 h=>rsT 5 (rnW (Ae (Ac (jS h)))))))))
def Hn (u1:LL) (a0 u2 u3:Int) (u4:LL) (u0:Nat):Option (Ctl Nat (Ctl Unit (Sum Unit (List Int)))) :=
 cond (decide ((u0:Int)<(u1.length:Int)))
 ((u1[u0]?).bind fun x10 =>
 (K4 a0 u2 u3 u4 x10).bind fun y12 =>
 cond (!y12)
  (some (Ctl.out (Ctl.out (.inr x10))))
  (og (u0+1<4611686018427387904) <|
  some (Ctl.next (u0+1))))
 (some (Ctl.out (Ctl.next ())))
def Kw (a0 u0 u1:Int) (u2:LL) (u4 u5:Int) (u3:LL):Option (Sum Unit (List Int)) :=
 Di (Aq (fun s_:Nat=>Hn u3 a0 u0 u1 u2 s_) 4611686018427387904 0) fun _ =>
some (.inl ())
def Yu:Sum Unit (List Int)->RV
 | .inl _=>⟨false,[(false,[.sc .nils])]⟩
 | .inr r=>⟨false,[(false,[.imm (tI r)])]⟩
theorem Re (h:Kw bA bB bC dA bD bE dB=some wA):cK 50 [ai bA,.agg [ai bB,ai bC,tS dA],.agg [ai bD,ai bE,tS dB]] (Yu wA):=by
 exact Ait kr Tryz.func50 (B6 kr) (fun nz_=>[ai bA,.agg [ai bB,ai bC,.ftr nz_ sI dA],.agg [ai bD,ai bE,.ftr nz_ sI dB]]) (n:=23) kr (fun _=>by simp) (fun _=>⟨_,_,rfl,⟨rfl,rfl⟩,⟨_,_,rfl,⟨_,rfl,⟨_,_,rfl,⟨rfl,rfl⟩,⟨_,_,rfl,⟨rfl,rfl⟩,⟨_,_,rfl,rfl,rfl⟩⟩⟩⟩,⟨_,_,rfl,⟨_,rfl,⟨_,_,rfl,⟨rfl,rfl⟩,⟨_,_,rfl,⟨rfl,rfl⟩,⟨_,_,rfl,rfl,rfl⟩⟩⟩⟩,rfl⟩⟩⟩) (tl:=fun nz_=>[(0,ai bA),(1,.agg [ai bB,ai bC,.ftr nz_ sI dA]),(2,.agg [ai bD,ai bE,.ftr nz_ sI dB])]) (fun _=>rfl) fun zn_ nz_ hz_=>Ae (sqC h (fun _=>sT [] []) (fun _ h hk2=>Ae (Ad (lpF h (fun u6=>sT [(0,ai bA),(4,.box (oi 0 1) 0),(10,.ftr nz_ sI dB),(11,an dB.length),(12,an u6)] [(oi 0 1,.cells 36 [ai bB,ai bC,.ftr nz_ sI dA])]) (Ag [(oi 0 1,oi 4 1)]) (fun n_ u6 c_ h hn4=>Ae (Ab (kQ h (fun _ h=>skW (Ab (Ad (Ab (Aa 6 (riH sI h fun x10 _ h=>rsT 2 (rnW (Ab (Aa 11 (rsT 3 (rcH h (fun h=>Gb (Yz h)) fun y12 h=>rsT 1 (rnW (kQ h (fun _ h=>Ae (Ac (br_ (tr_ (tr_ (br_ (tr_ (have h:=jO h hn4;(have h:=jO h hk2;jZ h [(false,[.ftr nz_ .int x10])] (Ji (Bp .ftr) B8)))))))))) fun _ h=>Az (bn_ (tn_ (wr_ (Aa 13 (raH h fun h=>rsT 1 (Ap (tn_ (jL []))))))))))))))))))))) fun _ h=>lxT (have h:=jO h hn4;jC []))))))) fun _ h=>Ae (Ac (jZ h [(false,[.nils])] (Ji B2 B8))))
end Go.Proofs.YtopjojkjaklalaaGreatDoor


