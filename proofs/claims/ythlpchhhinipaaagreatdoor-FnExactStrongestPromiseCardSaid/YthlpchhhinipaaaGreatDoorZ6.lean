/- Lemmas on the program and on partial functions that stand in place of its code (part 6); no condition beyond those that each one states. -/
import Derived.Test.YthlpchhhinipaaaGreatDoorZ5
namespace Go.Proofs.YthlpchhhinipaaaGreatDoor
open Go.RowKit Go.Deep
set_option maxRecDepth 4000
set_option maxHeartbeats 4800000
variable {bA bB bC:Int} {gA:ByteArray} {cA:Bool} {mA:Int×Int} {nA:List (ByteArray×Int×Int×List (Int×Int×ByteArray))} {hA:List (Int×Int×ByteArray)} {oA:List Int×List Int×List Int×Bool} {lA:Int×Int×Bool} {dA:LL}
def Jk (u0 u1:Int) (u2:ByteArray):Option Bool :=
 (cond (!(u2.toList==(⟨#[]⟩:ByteArray).toList))
  (some true)
  ((Cb u0 1 14).bind fun y5 =>
  some (!y5))).bind fun u3 =>
cond u3
 (some false)
 (cond (u0==1)
  ((Cb u1 0 12).bind fun y13 =>
  some y13)
  ((cond (u0==7)
    (some (u0==7))
    (some (u0==13))).bind fun u4 =>
  cond u4
   ((Cb u1 0 96).bind fun y19 =>
   some y19)
   (some (u1==0))))
theorem R2 (h:Jk bA bB gA=some cA):cK 97 [.agg [ai bA,ai bB,.str gA]] (Ao cA):=by
 refine cO Tryz.func97 (Ae (Ab (sqF h (fun u3=>sT [(1,.box (oi 0 1) 0),(11,.bool u3)] [(oi 0 1,.cells 88 [ai bA,ai bB,.str gA])]) ?_ fun u3 h=>kQ h (fun _ h=>Ae (Ac (tr_ (jS h)))) fun _ h=>skW (Ab (Ae (Ad (Ae (kQ h (fun _ h=>Ab (Aa 10 (rsT 2 (rcH h Co fun y13 h=>rsT 1 (rnW (Ac (br_ (tr_ (jS h))))))))) fun _ h=>sqF h (fun u4=>sT [(1,.box (oi 0 1) 0),(19,.bool u4)] [(oi 0 1,.cells 88 [ai bA,ai bB,.str gA])]) (fun _ h=>Ae (kQ h (fun _ h=>Ay (tn_ (jE []))) fun _ h=>Aa 10 (rsT 2 (Ap (tn_ (jE [])))))) fun u4 h=>kQ h (fun _ h=>Ab (Aa 6 (rsT 2 (rcH h Co fun y19 h=>rsT 1 (rnW (Ac (br_ (tr_ (jS h))))))))) fun _ h=>Ay (bn_ (tn_ (wr_ (Ae (Ac (jS h))))))))))))));intro _ h;refine Aa 12 (rsT 4 ?_);rcases A0 h with ⟨q4,h⟩|⟨q4,h⟩
 ·exact rq 6 q4 (rsT 5 (Ap (tn_ (jE [(oi 0 1,oi 1 1)]))))
 exact rq 6 q4 (rsT 2 (rcH h Co fun y5 h=>rsT 2 (Ap (tn_ (jE [(oi 0 1,oi 1 1)])))))
def G4 (a0:Int):Option (Int×Int) :=
 cond (a0==2)
 (some (2,2))
 ((cond (a0==3)
   (some (a0==3))
   (some (a0==11))).bind fun u0 =>
 cond u0
  (some (1,2))
  ((cond (a0==4)
    (some (a0==4))
    (some (a0==12))).bind fun u1 =>
  cond u1
   (some (1,0))
   ((cond (a0==5)
     (some (a0==5))
     (some (a0==9))).bind fun u2 =>
   cond u2
    (some (2,1))
    ((cond (a0==6)
      (some (a0==6))
      (some (a0==10))).bind fun u3 =>
    cond u3
     (some (0,1))
     (some (1,1))))))
def Sv (r:Int×Int):RV:=⟨true,[(false,[.sc (.int .i64 r.1)]),(false,[.sc (.int .i64 r.2)])]⟩
theorem Ou (h:G4 bA=some mA):cK 145 [ai bA] (Sv mA):=by
 exact cO Tryz.func145 (Ae (Ab (Ae (Ad (Ae (kQ h (fun _ h=>Ae (Ac (br_ (tr_ (jS h))))) fun _ h=>sqF h (fun u0=>sT [(4,ai bA),(7,.bool u0)] []) (fun _ h=>Ae (kQ h (fun _ h=>Ay (tn_ (jE []))) fun _ h=>Aa 10 (rsT 2 (Ap (tn_ (jE [])))))) fun u0 h=>kQ h (fun _ h=>Ae (Ac (br_ (tr_ (jS h))))) fun _ h=>sqF h (fun u1=>sT [(4,ai bA),(10,.bool u1)] []) (fun _ h=>Ae (kQ h (fun _ h=>Ay (tn_ (jE []))) fun _ h=>Aa 6 (rsT 2 (Ap (tn_ (jE [])))))) fun u1 h=>kQ h (fun _ h=>Ae (Ac (br_ (tr_ (jS h))))) fun _ h=>sqF h (fun u2=>sT [(4,ai bA),(13,.bool u2)] []) (fun _ h=>Ae (kQ h (fun _ h=>Ay (tn_ (jE []))) fun _ h=>Aa 6 (rsT 2 (Ap (tn_ (jE [])))))) fun u2 h=>kQ h (fun _ h=>Ae (Ac (br_ (tr_ (jS h))))) fun _ h=>sqF h (fun u3=>sT [(16,.bool u3)] []) (fun _ h=>Ae (kQ h (fun _ h=>Ay (tn_ (jE []))) fun _ h=>Aa 6 (rsT 2 (Ap (tn_ (jE [])))))) fun u3 h=>kQ h (fun _ h=>Ae (Ac (br_ (tr_ (jS h))))) fun _ h=>Ay (bn_ (tn_ (wr_ (Ae (Ac (jS h))))))))))))
def F2 (u0 u1:Int) (u2:ByteArray):Option (Int×Int) :=
 cond (u0==1)
 (some (u1,u1))
 ((G4 u0).bind fun y7 =>
 some (y7.1,y7.2))
theorem Zf (h:F2 bA bB gA=some mA):cK 98 [.agg [ai bA,ai bB,.str gA]] (Sv mA):=by
 exact cO Tryz.func98 (Ae (Ab (Ae (kQ h (fun _ h=>Ab (An 13 (dsT 6 (Ct (As kr) (tn_ (wr_ (Ac (tr_ (jS h))))))))) fun _ h=>skW (Ab (Aa 14 (rsT 2 (rcH h Ou fun y7 h=>rsT 4 (rnW (Ac (jS h)))))))))))
def Io (a0:List (ByteArray×Int×Int×List (Int×Int×ByteArray))) (a1:ByteArray) (u0:Nat):Option (Ctl Nat (Ctl Unit Int)) :=
 cond (decide ((u0:Int)<(a0.length:Int)))
 ((a0[u0]?).bind fun x10 =>
 cond (x10.1.toList==a1.toList)
  (some (Ctl.out (Ctl.out (u0:Int))))
  (og (u0+1<4611686018427387904) <|
  some (Ctl.next (u0+1))))
 (some (Ctl.out (Ctl.next ())))
def Jo (a0:List (ByteArray×Int×Int×List (Int×Int×ByteArray))) (a1:ByteArray):Option Int :=
 Dn (Aq (fun s_:Nat=>Io a0 a1 s_) 4611686018427387904 0) fun _ =>
some (-1)
theorem Ab0 (h:Jo nA gA=some bA):cK 58 [.tree Ye nA,.str gA] (A3 bA):=by
 exact cO Tryz.func58 (Ae (sqC h (fun _=>sT [] []) (fun _ h hk2=>Ae (Ad (lpF h (fun u0=>sT [(1,.str gA),(7,.tree Ye nA),(8,an nA.length),(9,an u0)] []) (Ag []) (fun n_ u0 c_ h hn4=>Ae (Ab (kQ h (fun _ h=>skW (Ab (Ad (Ab (Aa 9 (rsT 1 (riH Ye h fun x10 _ h=>rsB 4 (rnW (Ae (kQ h (fun _ h=>Ae (Ac (br_ (tr_ (tr_ (br_ (tr_ (have h:=jO h hn4;(have h:=jO h hk2;jS h))))))))) fun _ h=>Ay (bn_ (tn_ (wr_ (Aa 15 (raH h fun h=>rsT 1 (Ap (tn_ (jL [])))))))))))))))))) fun _ h=>lxT (have h:=jO h hn4;jC []))))))) fun _ h=>Ae (Ac (jS h))))
def Ip (u4:List (Int×Int×ByteArray)) (a0:List (ByteArray×Int×Int×List (Int×Int×ByteArray))) (u1:Nat) (u0 u2 u3:List Int):Option (Ctl (Nat×List Int×List Int×List Int) (Ctl (List Int×List Int×List Int) (List Int×List Int×List Int×Bool))) :=
 cond (decide ((u1:Int)<(u4.length:Int)))
 (Dn ((u4[u1]?).bind fun x16 =>
  ((Jk x16.1 x16.2.1 x16.2.2).bind fun y19 =>
   cond y19
    (some true)
    (some (x16.1==17))).bind fun u7 =>
  cond u7
   ((F2 x16.1 x16.2.1 x16.2.2).bind fun y23 =>
   Dn (cond (x16.1==17)
     ((Jo a0 x16.2.2).bind fun y28 =>
     (cond (decide (y28<0))
       (some true)
       (some (x16.2.1 !=0))).bind fun u8 =>
     cond u8
      (some (Ctl.out (Ctl.out (Ctl.out (Ctl.out (u0,u2,u3,false))))))
      ((Cl a0 y28).bind fun x34 =>
      some (Ctl.next (x34.2.1,x34.2.2.1))))
     (some (Ctl.next (y23.1,y23.2)))) fun (u9,ua) =>
   og (u0.length+1<=1073741824/\(u0.length+1)*8<=140737488355328) <|
   og (u2.length+1<=1073741824/\(u2.length+1)*8<=140737488355328) <|
   og (u3.length+1<=1073741824/\(u3.length+1)*8<=140737488355328) <|
   some (Ctl.next (u0++([(u1:Int)]),u2++([u9]),u3++([ua]))))
   ((cond (x16.1 !=15)
     (cond (x16.1 !=16)
      (some true)
      (cond (!(x16.2.2.toList==(⟨#[]⟩:ByteArray).toList))
       (some true)
       (cond (x16.2.1 !=0)
        (some true)
        (cond (decide ((u1:Int)<2))
         (some true)
         ((Cl u0 (wI ((u1:Int) - 1))).bind fun x48 =>
         (Cl u0 (wI ((u1:Int) - 1))).bind fun x49 =>
         some (decide (x49<1)))))))
     (cond (!(x16.2.2.toList==(⟨#[]⟩:ByteArray).toList))
      (some true)
      (cond (x16.2.1 !=0)
       (some true)
       (cond (decide ((u1:Int)<2))
        (some true)
        ((Cl u0 (wI ((u1:Int) - 1))).bind fun x53 =>
        (Cl u0 (wI ((u1:Int) - 1))).bind fun x54 =>
        some (decide (x54<1))))))).bind fun ub =>
   cond ub
    (some (Ctl.out (Ctl.out (Ctl.out (u0,u2,u3,false)))))
    ((Cl u0 (wI ((u1:Int) - 1))).bind fun x59 =>
    (Cl u0 (wI ((u1:Int) - 1))).bind fun x60 =>
    (Cl u2 (wI (x60 - 1))).bind fun x62 =>
    (Cl u2 (wI (x60 - 1))).bind fun x63 =>
    (Cl u2 (wI ((u1:Int) - 1))).bind fun x64 =>
    (Cl u2 (wI ((u1:Int) - 1))).bind fun x65 =>
    (Cl u3 (wI (x60 - 1))).bind fun x66 =>
    (Cl u3 (wI (x60 - 1))).bind fun x67 =>
    (Cl u3 (wI ((u1:Int) - 1))).bind fun x68 =>
    (Cl u3 (wI ((u1:Int) - 1))).bind fun x69 =>
    Dn (cond (x16.1==15)
      (cond (x67 !=x65)
       (some (Ctl.out (Ctl.out (Ctl.out (Ctl.out (u0,u2,u3,false))))))
       (some (Ctl.next (x63,x69))))
      (some (Ctl.next (wI (x63+x65),wI (x67+x69))))) fun (u5,u6) =>
    (cond (decide (12<u5))
      (some true)
      (some (decide (12<u6)))).bind fun uc =>
    cond uc
     (some (Ctl.out (Ctl.out (Ctl.out (u0,u2,u3,false)))))
     ((Cl u0 (wI (x60 - 1))).bind fun x83 =>
     (Cl u0 (wI (x60 - 1))).bind fun x84 =>
     og (u0.length+1<=1073741824/\(u0.length+1)*8<=140737488355328) <|
     og (u2.length+1<=1073741824/\(u2.length+1)*8<=140737488355328) <|
     og (u3.length+1<=1073741824/\(u3.length+1)*8<=140737488355328) <|
     some (Ctl.next (u0++([x84]),u2++([u5]),u3++([u6]))))))) fun (ud,ue,uf) =>
 og (u1+1<4611686018427387904) <|
 some (Ctl.next (u1+1,ud,ue,uf)))
 (some (Ctl.out (Ctl.next (u0,u2,u3))))
def Mb (a0:List (ByteArray×Int×Int×List (Int×Int×ByteArray))) (u0:List (Int×Int×ByteArray)):Option (List Int×List Int×List Int×Bool) :=
 (Cb (u0.length:Int) 1 400).bind fun y5 =>
cond (!y5)
 (some ([],[],[],false))
 (Dn (Aq (fun s_:Nat×List Int×List Int×List Int=>Ip u0 a0 s_.1 s_.2.1 s_.2.2.1 s_.2.2.2) 4611686018427387904 (0,[],[],[])) fun (u1,u2,u3) =>
 (Cl u1 (wI ((u0.length:Int) - 1))).bind fun x91 =>
 (Cl u1 (wI ((u0.length:Int) - 1))).bind fun x92 =>
 some (u1,u2,u3,x92==0))
def Sy (r:List Int×List Int×List Int×Bool):RV:=⟨true,[(true,[.new 3 .int r.1,.new 3 .int r.2.1,.new 3 .int r.2.2.1]),(false,[.sc (.bool r.2.2.2)])]⟩
theorem Aas (h:Mb nA hA=some oA):cK 54 [.tree Ye nA,.agg [.tree Y8 hA]] (Sy oA):=by
 refine cO Tryz.func54 (Ae (Ae (Ab (Ab (Aa 10 (rsT 3 (rcH h Co fun y5 h=>rsT 1 (rnW (kQ h (fun _ h=>Ae (Ac (tr_ (jR h [.agg [.nils,.nils,.nils],.bool false] (Ta (D5 (Af9 rfl) (D5 (Af9 rfl) (D5 (Af9 rfl) T2))) (F1 rfl zl Fc)))))) fun _ h=>skW (sqC h (fun (u5,u6,u7)=>sT [(3,.box (oi 0 1) 0),(4,.box (oi 1 1) 0),(6,.box (oi 2 1) 0)] [(oi 0 1,.cells 37 [.tree Y8 hA]),(oi 1 1,.cells 83 [.nils,.nils,.nils]),(oi 2 1,.cells 83 [oI 3 1 u5.length,oI 4 1 u6.length,oI 5 1 u7.length]),(oi 3 1,.arr 3 .int u5),(oi 4 1,.arr 3 .int u6),(oi 5 1,.arr 3 .int u7)]) ?_ ?_))))))))))
 ·intro _ h hk8;refine Ae (Ad (lpF h (fun (u0,u4,u1,u2)=>sT [(0,.tree Ye nA),(3,.box (oi 0 1) 0),(4,.box (oi 1 1) 0),(6,.box (oi 2 1) 0),(23,.tree Y8 hA),(24,an hA.length),(25,an u0)] [(oi 0 1,.cells 37 [.tree Y8 hA]),(oi 1 1,.cells 83 [.nils,.nils,.nils]),(oi 2 1,.cells 83 [oI 3 1 u4.length,oI 4 1 u1.length,oI 5 1 u2.length]),(oi 3 1,.arr 3 .int u4),(oi 4 1,.arr 3 .int u1),(oi 5 1,.arr 3 .int u2)]) ((Cj 9000 (oi 6 4) 0 83 [.nils,.nils,.nils] [oI 9000 14 0,.nils,.nils] 3 .int rfl kr kr kr).trans ((Cj 9001 (oi 6 4) 1 83 [oI 9000 14 0,.nils,.nils] [oI 9000 14 0,oI 9001 15 0,.nils] 3 .int rfl kr kr kr).trans ((Cj 9002 (oi 6 4) 2 83 [oI 9000 14 0,oI 9001 15 0,.nils] [oI 9000 14 0,oI 9001 15 0,oI 9002 16 0] 3 .int rfl kr kr kr).trans (Ag [(oi 0 1,oi 3 1),(oi 1 1,oi 4 2),(oi 2 1,oi 6 4),(oi 3 1,oi 9000 14),(oi 4 1,oi 9001 15),(oi 5 1,oi 9002 16)])))) ?_));rintro n_ ⟨u0,u4,u1,u2⟩ c_ h hn10;refine Ae (Ab (kQ h (fun _ h=>skW (sqC h (fun (ua,ub,uc)=>sT [(0,.tree Ye nA),(3,.box (oi 0 1) 0),(4,.box (oi 1 1) 0),(6,.box (oi 2 1) 0),(23,.tree Y8 hA),(24,an hA.length),(25,an u0)] [(oi 0 1,.cells 37 [.tree Y8 hA]),(oi 1 1,.cells 83 [.nils,.nils,.nils]),(oi 2 1,.cells 83 [oI 3 1 ua.length,oI 4 1 ub.length,oI 5 1 uc.length]),(oi 3 1,.arr 3 .int ua),(oi 4 1,.arr 3 .int ub),(oi 5 1,.arr 3 .int uc)]) ?_ ?_)) fun _ h=>lxT (have h:=jO h hn10;jC [])))
  ·intro _ h hk14;refine Ad (Ab (Aa 9 (rsT 1 (riH Y8 h fun x16 _ h=>rsB 4 (rnW (Ab (sqF h (fun uf=>sT [(0,.tree Ye nA),(3,.box (oi 0 1) 0),(4,.box (oi 1 1) 0),(6,.box (oi 2 1) 0),(7,an u0),(8,.box (oi 3 1) 0),(23,.tree Y8 hA),(24,an hA.length),(25,an u0),(36,.bool uf)] [(oi 0 1,.cells 37 [.tree Y8 hA]),(oi 1 1,.cells 83 [.nils,.nils,.nils]),(oi 2 1,.cells 83 [oI 4 1 u4.length,oI 5 1 u1.length,oI 6 1 u2.length]),(oi 3 1,.cells 88 [ai x16.1,ai x16.2.1,.str x16.2.2]),(oi 4 1,.arr 3 .int u4),(oi 5 1,.arr 3 .int u1),(oi 6 1,.arr 3 .int u2)]) (fun _ h=>Aa 16 (rsT 1 (rcH h R2 fun y19 h=>rsT 1 (kR h 32 (fun _ h=>rsT 4 (Ap (tn_ (jE [(oi 4 1,oi 3 1),(oi 5 1,oi 4 1),(oi 6 1,oi 5 1),(oi 3 1,oi 8 6)])))) fun _ h=>rsT 4 (Ap (tn_ (jE [(oi 4 1,oi 3 1),(oi 5 1,oi 4 1),(oi 6 1,oi 5 1),(oi 3 1,oi 8 6)]))))))) ?_)))))));intro uf h;refine kQ h (fun _ h=>?_) fun _ h=>?_
   ·refine Ab (Aa 9 (rsT 1 (rcH h Zf fun y23 h=>rsT 5 (rnW (sqC h (fun (ud,ue)=>sT [(0,.tree Ye nA),(3,.box (oi 0 1) 0),(4,.box (oi 1 1) 0),(6,.box (oi 2 1) 0),(7,an u0),(9,ai ud),(10,ai ue),(23,.tree Y8 hA),(24,an hA.length),(25,an u0)] [(oi 0 1,.cells 37 [.tree Y8 hA]),(oi 1 1,.cells 83 [.nils,.nils,.nils]),(oi 2 1,.cells 83 [oI 3 1 u4.length,oI 4 1 u1.length,oI 5 1 u2.length]),(oi 3 1,.arr 3 .int u4),(oi 4 1,.arr 3 .int u1),(oi 5 1,.arr 3 .int u2)]) ?_ ?_)))))
    ·intro _ h hk24;refine Ae (kQ h (fun _ h=>Ab (Aa 17 (rsT 3 (rcH h Ab0 fun y28 h=>rsT 1 (rnW (Ab (sqF h (fun ug=>sT [(0,.tree Ye nA),(3,.box (oi 0 1) 0),(4,.box (oi 1 1) 0),(6,.box (oi 2 1) 0),(7,an u0),(11,ai y28),(23,.tree Y8 hA),(24,an hA.length),(25,an u0),(55,.bool ug)] [(oi 0 1,.cells 37 [.tree Y8 hA]),(oi 1 1,.cells 83 [.nils,.nils,.nils]),(oi 2 1,.cells 83 [oI 3 1 u4.length,oI 4 1 u1.length,oI 5 1 u2.length]),(oi 3 1,.arr 3 .int u4),(oi 4 1,.arr 3 .int u1),(oi 5 1,.arr 3 .int u2)]) (fun _ h=>Aa 24 (rsT 3 (kR h 51 (fun _ h=>rsT 4 (Ap (tn_ (jE [(oi 3 1,oi 4 1),(oi 4 1,oi 5 1),(oi 5 1,oi 6 1)])))) fun _ h=>rsT 4 (Ap (tn_ (jE [(oi 3 1,oi 4 1),(oi 4 1,oi 5 1),(oi 5 1,oi 6 1)])))))) ?_))))))) fun _ h=>Ay (tn_ (jC [(oi 3 1,oi 4 1),(oi 4 1,oi 5 1),(oi 5 1,oi 6 1)])));intro ug h;refine kQ h (fun _ h=>Ae (Ac (tr_ (tr_ (tr_ (br_ (tr_ (tr_ (br_ (tr_ (have h:=jO h hk24;(have h:=jO h hk14;(have h:=jO h hn10;(have h:=jO h hk8;jR h [.agg [oI 3 1 u4.length,oI 4 1 u1.length,oI 5 1 u2.length],.bool false] (Ta (D5 (Dc kr rfl) (D5 (Dc kr rfl) (D5 (Dc kr rfl) T2))) (F1 rfl zl Fc)))))))))))))))) fun _ h=>skW (An 14 (dz0 (.tree Ye nA) (dz0 (ai y28) ?_)))
     obtain ⟨x34,f34,h⟩:=Ah h;obtain ⟨p34,b34,e34⟩:=Ax f34;exact ds0 (.telt none Ye x34 0) (zi (t:=Ye) (xs:=nA) (k:=.i64) (m:=y28) p34 e34) (dsT 4 (ds0 (.telt none Ye x34 0) (zi (t:=Ye) (xs:=nA) (k:=.i64) (m:=y28) p34 e34) (dz0 (.telt none Ye x34 2) (dz0 (ai x34.2.2.1) (dz0 (ai x34.2.1) (dz0 (ai x34.2.2.1) (Ct (As kr) (tn_ (jC [])))))))))
    rintro ⟨ud,ue⟩ h;refine Ab (Aa 9 (rsB 4 ?_));obtain ⟨g36,h⟩:=Ak h;refine zB (oi 3 1) (oi 70 5) u4 ((u0:Int)) g36 (rsB 2 (rnW (Ab (Aa 16 (rsB 4 ?_)))));obtain ⟨g38,h⟩:=Ak h;refine zB (oi 4 1) (oi 76 12) u1 (ud) g38 (rsB 2 (rnW (Ab (Aa 23 (rsB 4 ?_)))));obtain ⟨g40,h⟩:=Ak h;exact zB (oi 5 1) (oi 82 19) u2 (ue) g40 (rsB 2 (rnW (D2 (te_ (be_ (tn_ (jC [(oi 3 1,oi 3 6),(oi 4 1,oi 4 13),(oi 5 1,oi 5 20)])))))))
   refine skW (Ab (sqF h (fun uh=>sT [(0,.tree Ye nA),(3,.box (oi 0 1) 0),(4,.box (oi 1 1) 0),(6,.box (oi 2 1) 0),(7,an u0),(8,.box (oi 3 1) 0),(23,.tree Y8 hA),(24,an hA.length),(25,an u0),(115,.bool uh)] [(oi 0 1,.cells 37 [.tree Y8 hA]),(oi 1 1,.cells 83 [.nils,.nils,.nils]),(oi 2 1,.cells 83 [oI 4 1 u4.length,oI 5 1 u1.length,oI 6 1 u2.length]),(oi 3 1,.cells 88 [ai x16.1,ai x16.2.1,.str x16.2.2]),(oi 4 1,.arr 3 .int u4),(oi 5 1,.arr 3 .int u1),(oi 6 1,.arr 3 .int u2)]) ?_ ?_))
   ·intro _ h;refine Aa 33 (rsT 4 (kR h 88 (fun _ h=>?_) fun _ h=>?_))
    ·refine rsT 5 (kR h 93 (fun _ h=>rsT 22 (Ap (tn_ (jE [])))) fun _ h=>rsT 5 (kR h 98 (fun _ h=>rsT 17 (Ap (tn_ (jE [])))) fun _ h=>rsT 5 (kR h 103 (fun _ h=>rsT 12 (Ap (tn_ (jE [])))) fun _ h=>rsT 4 ?_)));rcases A0 h with ⟨q47,h⟩|⟨q47,h⟩
     ·exact rq 107 q47 (rsT 8 (Ap (tn_ (jE []))))
     refine rq 107 q47 (rsT 4 ?_);obtain ⟨x48,f48,h⟩:=Ah h;obtain ⟨p48,b48,e48⟩:=Ax f48;refine rs0 (.elt (oi 4 1) ((wI ((u0:Int) - 1)).toNat) 0) (zo (t:=.int) (o:=oi 4 1) (len:=u4.length) (k:=.i64) (m:=wI ((u0:Int) - 1)) p48 (Ai e48)) ?_;obtain ⟨x49,f49,h⟩:=Ah h;obtain ⟨p49,b49,e49⟩:=Ax f49;exact zE (oi 4 1) e49 (rsT 2 (Ap (tn_ (jE []))))
    refine rsT 10 (kR h 98 (fun _ h=>rsT 17 (Ap (tn_ (jE [])))) fun _ h=>rsT 5 (kR h 103 (fun _ h=>rsT 12 (Ap (tn_ (jE [])))) fun _ h=>rsT 4 ?_));rcases A0 h with ⟨q52,h⟩|⟨q52,h⟩
    ·exact rq 107 q52 (rsT 8 (Ap (tn_ (jE []))))
    refine rq 107 q52 (rsT 4 ?_);obtain ⟨x53,f53,h⟩:=Ah h;obtain ⟨p53,b53,e53⟩:=Ax f53;refine rs0 (.elt (oi 4 1) ((wI ((u0:Int) - 1)).toNat) 0) (zo (t:=.int) (o:=oi 4 1) (len:=u4.length) (k:=.i64) (m:=wI ((u0:Int) - 1)) p53 (Ai e53)) ?_;obtain ⟨x54,f54,h⟩:=Ah h;obtain ⟨p54,b54,e54⟩:=Ax f54;exact zE (oi 4 1) e54 (rsT 2 (Ap (tn_ (jE []))))
   intro uh h;refine kQ h (fun _ h=>Ae (Ac (tr_ (br_ (tr_ (tr_ (br_ (tr_ (have h:=jO h hk14;(have h:=jO h hn10;(have h:=jO h hk8;jR h [.agg [oI 4 1 u4.length,oI 5 1 u1.length,oI 6 1 u2.length],.bool false] (Ta (D5 (Dc kr rfl) (D5 (Dc kr rfl) (D5 (Dc kr rfl) T2))) (F1 rfl zl Fc))))))))))))) fun _ h=>skW (Ae (Ab (Aa 12 (rsT 3 ?_))))
   obtain ⟨x59,f59,h⟩:=Ah h;obtain ⟨p59,b59,e59⟩:=Ax f59;refine rs0 (.elt (oi 4 1) ((wI ((u0:Int) - 1)).toNat) 0) (zo (t:=.int) (o:=oi 4 1) (len:=u4.length) (k:=.i64) (m:=wI ((u0:Int) - 1)) p59 (Ai e59)) ?_;obtain ⟨x60,f60,h⟩:=Ah h;obtain ⟨p60,b60,e60⟩:=Ax f60;refine zE (oi 4 1) e60 (rsT 2 (rnW (Ab (An 36 (dz0 (.box (oi 2 1) 1) (dzl (oI 5 1 u1.length) (dz0 (ai (wI (x60 - 1))) ?_)))))));obtain ⟨x62,f62,h⟩:=Ah h;obtain ⟨p62,b62,e62⟩:=Ax f62;refine ds0 (.elt (oi 5 1) ((wI (x60 - 1)).toNat) 0) (zo (t:=.int) (o:=oi 5 1) (len:=u1.length) (k:=.i64) (m:=wI (x60 - 1)) p62 (Ai e62)) ?_;obtain ⟨x63,f63,h⟩:=Ah h;obtain ⟨p63,b63,e63⟩:=Ax f63;refine dzE (oi 5 1) e63 (dz0 (.box (oi 2 1) 1) (dzl (oI 5 1 u1.length) (dz0 (ai (wI ((u0:Int) - 1))) ?_)));obtain ⟨x64,f64,h⟩:=Ah h;obtain ⟨p64,b64,e64⟩:=Ax f64;refine ds0 (.elt (oi 5 1) ((wI ((u0:Int) - 1)).toNat) 0) (zo (t:=.int) (o:=oi 5 1) (len:=u1.length) (k:=.i64) (m:=wI ((u0:Int) - 1)) p64 (Ai e64)) ?_;obtain ⟨x65,f65,h⟩:=Ah h;obtain ⟨p65,b65,e65⟩:=Ax f65;refine dzE (oi 5 1) e65 (dsT 4 ?_);obtain ⟨x66,f66,h⟩:=Ah h;obtain ⟨p66,b66,e66⟩:=Ax f66;refine ds0 (.elt (oi 6 1) ((wI (x60 - 1)).toNat) 0) (zo (t:=.int) (o:=oi 6 1) (len:=u2.length) (k:=.i64) (m:=wI (x60 - 1)) p66 (Ai e66)) ?_;obtain ⟨x67,f67,h⟩:=Ah h;obtain ⟨p67,b67,e67⟩:=Ax f67;refine dzE (oi 6 1) e67 (dz0 (.box (oi 2 1) 2) (dzl (oI 6 1 u2.length) (dz0 (ai (wI ((u0:Int) - 1))) ?_)));obtain ⟨x68,f68,h⟩:=Ah h;obtain ⟨p68,b68,e68⟩:=Ax f68;refine ds0 (.elt (oi 6 1) ((wI ((u0:Int) - 1)).toNat) 0) (zo (t:=.int) (o:=oi 6 1) (len:=u2.length) (k:=.i64) (m:=wI ((u0:Int) - 1)) p68 (Ai e68)) ?_;obtain ⟨x69,f69,h⟩:=Ah h;obtain ⟨p69,b69,e69⟩:=Ax f69;refine dzE (oi 6 1) e69 (dz0 (ai (wI (x67+x69))) (dz0 (ai (wI (x63+x65))) (dz0 (ai (wI (x67+x69))) (Ct (As kr) (tn_ (wr_ (sqC h (fun (u8,u9)=>sT [(0,.tree Ye nA),(3,.box (oi 0 1) 0),(4,.box (oi 1 1) 0),(6,.box (oi 2 1) 0),(13,ai (wI (x60 - 1))),(14,ai u8),(15,ai u9),(23,.tree Y8 hA),(24,an hA.length),(25,an u0)] [(oi 0 1,.cells 37 [.tree Y8 hA]),(oi 1 1,.cells 83 [.nils,.nils,.nils]),(oi 2 1,.cells 83 [oI 3 1 u4.length,oI 4 1 u1.length,oI 5 1 u2.length]),(oi 3 1,.arr 3 .int u4),(oi 4 1,.arr 3 .int u1),(oi 5 1,.arr 3 .int u2)]) (fun _ h hk70=>Ae (kQ h (fun _ h=>Ab (Ab (An 50 (dsT 3 (ds0 (.elt (oi 6 1) ((wI (x60 - 1)).toNat) 0) (zo (t:=.int) (o:=oi 6 1) (len:=u2.length) (k:=.i64) (m:=wI (x60 - 1)) p66 (Ai e66)) (dsl (ai x67) (Hw (i:=oi 6 1) (j:=(wI (x60 - 1)).toNat) (k:=0) (e:=3) (t:=.int) (xs:=u2) kr kr e67 kr) (ds0 (.box (oi 2 1) 1) kr (dsl (oI 5 1 u1.length) kr (ds0 (ai (wI ((u0:Int) - 1))) kr (ds0 (.elt (oi 5 1) ((wI ((u0:Int) - 1)).toNat) 0) (zo (t:=.int) (o:=oi 5 1) (len:=u1.length) (k:=.i64) (m:=wI ((u0:Int) - 1)) p64 (Ai e64)) (dsl (ai x65) (Hw (i:=oi 5 1) (j:=(wI ((u0:Int) - 1)).toNat) (k:=0) (e:=3) (t:=.int) (xs:=u1) kr kr e65 kr) (ds0 (.bool (x67 !=x65)) kr (Ct (As kr) (tn_ (wr_ (kQ h (fun _ h=>Ae (Ac (tr_ (tr_ (br_ (tr_ (tr_ (br_ (tr_ (have h:=jO h hk70;(have h:=jO h hk14;(have h:=jO h hn10;(have h:=jO h hk8;jR h [.agg [oI 4 1 u4.length,oI 5 1 u1.length,oI 6 1 u2.length],.bool false] (Ta (D5 (Dc kr rfl) (D5 (Dc kr rfl) (D5 (Dc kr rfl) T2))) (F1 rfl zl Fc))))))))))))))) fun _ h=>skW (An 62 (dsT 3 (ds0 (.elt (oi 5 1) ((wI (x60 - 1)).toNat) 0) (zo (t:=.int) (o:=oi 5 1) (len:=u1.length) (k:=.i64) (m:=wI (x60 - 1)) p62 (Ai e62)) (dsl (ai x63) (Hw (i:=oi 5 1) (j:=(wI (x60 - 1)).toNat) (k:=0) (e:=3) (t:=.int) (xs:=u1) kr kr e63 kr) (ds0 (.box (oi 2 1) 2) kr (dsl (oI 6 1 u2.length) kr (ds0 (ai (wI ((u0:Int) - 1))) kr (ds0 (.elt (oi 6 1) ((wI ((u0:Int) - 1)).toNat) 0) (zo (t:=.int) (o:=oi 6 1) (len:=u2.length) (k:=.i64) (m:=wI ((u0:Int) - 1)) p68 (Ai e68)) (dsl (ai x69) (Hw (i:=oi 6 1) (j:=(wI ((u0:Int) - 1)).toNat) (k:=0) (e:=3) (t:=.int) (xs:=u2) kr kr e69 kr) (ds0 (ai x63) kr (ds0 (ai x69) kr (Ct (As kr) (tn_ (jC [(oi 3 1,oi 4 1),(oi 4 1,oi 5 1),(oi 5 1,oi 6 1)])))))))))))))))))))))))))))))) fun _ h=>Ay (tn_ (jC [(oi 3 1,oi 4 1),(oi 4 1,oi 5 1),(oi 5 1,oi 6 1)])))) ?_)))))));rintro ⟨u8,u9⟩ h;refine Ab (sqF h (fun ui=>sT [(0,.tree Ye nA),(3,.box (oi 0 1) 0),(4,.box (oi 1 1) 0),(6,.box (oi 2 1) 0),(13,ai (wI (x60 - 1))),(14,ai u8),(15,ai u9),(23,.tree Y8 hA),(24,an hA.length),(25,an u0),(177,.bool ui)] [(oi 0 1,.cells 37 [.tree Y8 hA]),(oi 1 1,.cells 83 [.nils,.nils,.nils]),(oi 2 1,.cells 83 [oI 3 1 u4.length,oI 4 1 u1.length,oI 5 1 u2.length]),(oi 3 1,.arr 3 .int u4),(oi 4 1,.arr 3 .int u1),(oi 5 1,.arr 3 .int u2)]) (fun _ h=>Aa 8 (rsT 3 (kR h 174 (fun _ h=>rsT 3 (Ap (tn_ (jE [])))) fun _ h=>rsT 3 (Ap (tn_ (jE [])))))) ?_);intro ui h;refine kQ h (fun _ h=>Ae (Ac (tr_ (br_ (tr_ (tr_ (br_ (tr_ (have h:=jO h hk14;(have h:=jO h hn10;(have h:=jO h hk8;jR h [.agg [oI 3 1 u4.length,oI 4 1 u1.length,oI 5 1 u2.length],.bool false] (Ta (D5 (Dc kr rfl) (D5 (Dc kr rfl) (D5 (Dc kr rfl) T2))) (F1 rfl zl Fc))))))))))))) fun _ h=>skW (Ab (An 13 (dsT 5 ?_)))
   obtain ⟨x83,f83,h⟩:=Ah h;obtain ⟨p83,b83,e83⟩:=Ax f83;refine ds0 (.elt (oi 3 1) ((wI (x60 - 1)).toNat) 0) (zo (t:=.int) (o:=oi 3 1) (len:=u4.length) (k:=.i64) (m:=wI (x60 - 1)) p83 (Ai e83)) ?_;obtain ⟨x84,f84,h⟩:=Ah h;obtain ⟨p84,b84,e84⟩:=Ax f84;refine dzE (oi 3 1) e84 (ds1 (oI 186 9 1) (oi 186 9) (.arr 3 .int ([x84])) kr ?_);obtain ⟨g85,h⟩:=Ak h;refine dzB (oi 3 1) (oi 186 9) u4 (x84) g85 (dz0 (.box (oi 2 1) 0) (M9 (oi 2 1) (oi 2 1) (.cells 83 [oI 3 10 ((u4++([x84])).length),oI 4 1 u1.length,oI 5 1 u2.length]) kr (Ct (As kr) (tn_ (wr_ (Ab (Aa 20 (rsB 4 ?_))))))));obtain ⟨g87,h⟩:=Ak h;refine zB (oi 4 1) (oi 192 16) u1 (u8) g87 (rsB 2 (rnW (Aa 27 (rsB 4 ?_))));obtain ⟨g88,h⟩:=Ak h;exact zB (oi 5 1) (oi 198 23) u2 (u9) g88 (rsB 2 (Ap (bn_ (tn_ (jC [(oi 3 1,oi 3 10),(oi 4 1,oi 4 17),(oi 5 1,oi 5 24)])))))
  rintro ⟨ua,ub,uc⟩ h;exact Aa 4 (raH h fun h=>rsT 1 (Ap (tn_ (jL []))))
 rintro ⟨u5,u6,u7⟩ h;refine Ab (An 14 (dsT 7 ?_));obtain ⟨x91,f91,h⟩:=Ah h;obtain ⟨p91,b91,e91⟩:=Ax f91;refine ds0 (.elt (oi 3 1) ((wI ((hA.length:Int) - 1)).toNat) 0) (zo (t:=.int) (o:=oi 3 1) (len:=u5.length) (k:=.i64) (m:=wI ((hA.length:Int) - 1)) p91 (Ai e91)) ?_;obtain ⟨x92,f92,h⟩:=Ah h;obtain ⟨p92,b92,e92⟩:=Ax f92;exact dzE (oi 3 1) e92 (dz0 (.bool (x92==0)) (M9 (oi 1 1) (oi 1 1) (.cells 83 [oI 3 1 u5.length,oI 4 1 u6.length,oI 5 1 u7.length]) kr (dz0 (.bool (x92==0)) (Ct (As kr) (tn_ (wr_ (Ac (jR h [.agg [oI 3 1 u5.length,oI 4 1 u6.length,oI 5 1 u7.length],.bool (x92==0)] (Ta (D5 (Dc kr rfl) (D5 (Dc kr rfl) (D5 (Dc kr rfl) T2))) (F1 rfl zl Fc))))))))))
def Je (u0:List (Int×Int×ByteArray)):Option (List Int×List Int×List Int×Bool) :=
 (Mb ([]) u0).bind fun y3 =>
some (y3.1,y3.2.1,y3.2.2.1,y3.2.2.2)
theorem Sh (h:Je hA=some oA):cK 115 [.agg [.tree Y8 hA]] (Sy oA):=by
 exact cO Tryz.func115 (Ae (Ab (Aa 10 (rsT 1 (rcH h Aas fun y3 h=>rsB 4 (rnW (Ac (jR h [.agg [oI 80 5 y3.1.length,oI 81 5 y3.2.1.length,oI 82 5 y3.2.2.1.length],.bool y3.2.2.2] (Ta (D5 (Dc kr rfl) (D5 (Dc kr rfl) (D5 (Dc kr rfl) T2))) (F1 rfl zl Fc))))))))))
def Mc (u0:List (Int×Int×ByteArray)):Option (Int×Int×Bool) :=
 (Je u0).bind fun y3 =>
cond (!y3.2.2.2)
 (some (0,0,false))
 ((Cl y3.2.1 (wI ((u0.length:Int) - 1))).bind fun x10 =>
 (Cl y3.2.1 (wI ((u0.length:Int) - 1))).bind fun x11 =>
 (Cl y3.2.2.1 (wI ((u0.length:Int) - 1))).bind fun x12 =>
 (Cl y3.2.2.1 (wI ((u0.length:Int) - 1))).bind fun x13 =>
 some (x11,x13,true))
def Ac2 (r:Int×Int×Bool):RV:=⟨true,[(false,[.sc (.int .i64 r.1)]),(false,[.sc (.int .i64 r.2.1)]),(false,[.sc (.bool r.2.2)])]⟩
theorem Aah (h:Mc hA=some lA):cK 77 [.agg [.tree Y8 hA]] (Ac2 lA):=by
 refine cO Tryz.func77 (Ae (Ab (Aa 13 (rsT 1 (rcH h Sh fun y3 h=>rsB 6 (rnW (Ab (Ae (kQ h (fun _ h=>Ae (Ac (tr_ (jS h)))) fun _ h=>skW (Ae (Ab (An 33 (dsT 3 ?_)))))))))))));obtain ⟨x10,f10,h⟩:=Ah h;obtain ⟨p10,b10,e10⟩:=Ax f10;refine ds0 (.elt (oi 161 6) ((wI ((hA.length:Int) - 1)).toNat) 0) (zo (t:=.int) (o:=oi 161 6) (len:=y3.2.1.length) (k:=.i64) (m:=wI ((hA.length:Int) - 1)) p10 (Ai e10)) ?_;obtain ⟨x11,f11,h⟩:=Ah h;obtain ⟨p11,b11,e11⟩:=Ax f11;refine dzE (oi 161 6) e11 (dz0 (.box (oi 5 10) 2) (dzl (oI 162 6 y3.2.2.1.length) (dz0 (ai (wI ((hA.length:Int) - 1))) ?_)));obtain ⟨x12,f12,h⟩:=Ah h;obtain ⟨p12,b12,e12⟩:=Ax f12;refine ds0 (.elt (oi 162 6) ((wI ((hA.length:Int) - 1)).toNat) 0) (zo (t:=.int) (o:=oi 162 6) (len:=y3.2.2.1.length) (k:=.i64) (m:=wI ((hA.length:Int) - 1)) p12 (Ai e12)) ?_;obtain ⟨x13,f13,h⟩:=Ah h;obtain ⟨p13,b13,e13⟩:=Ax f13;exact dzE (oi 162 6) e13 (dz0 (ai x11) (dz0 (ai x13) (dz0 (.bool true) (Ct (As kr) (tn_ (wr_ (Ac (jS h))))))))
def Ii (u1:List (Int×Int×ByteArray)) (a0:Int) (u0:Nat):Option (Ctl Nat (Ctl Unit Bool)) :=
 cond (decide ((u0:Int)<(u1.length:Int)))
 ((u1[u0]?).bind fun x18 =>
 (cond (x18.1==7)
   (some (decide (a0<=x18.2.1)))
   (cond (x18.1==13)
    (some (decide (a0<=x18.2.1)))
    (some false))).bind fun u2 =>
 cond u2
  (some (Ctl.out (Ctl.out false)))
  (og (u0+1<4611686018427387904) <|
  some (Ctl.next (u0+1))))
 (some (Ctl.out (Ctl.next ())))
def Jr (a0:Int) (u0:List (Int×Int×ByteArray)):Option Bool :=
 (Je u0).bind fun y4 =>
(cond (!y4.2.2.2)
  (some true)
  ((G1 a0).bind fun y7 =>
  some (!y7))).bind fun u1 =>
cond u1
 (some false)
 (Dn (Aq (fun s_:Nat=>Ii u0 a0 s_) 4611686018427387904 0) fun _ =>
 some true)
theorem R9 (h:Jr bA hA=some cA):cK 79 [ai bA,.agg [.tree Y8 hA]] (Ao cA):=by
 refine cO Tryz.func79 (Ae (Ab (Ab (Aa 11 (rsT 1 (rcH h Sh fun y4 h=>rsB 6 (rnW (sqF h (fun u2=>sT [(0,ai bA),(3,.box (oi 0 1) 0),(20,.bool u2)] [(oi 0 1,.cells 37 [.tree Y8 hA])]) ?_ fun u2 h=>kQ h (fun _ h=>Ae (Ac (tr_ (jS h)))) fun _ h=>skW (sqC h (fun _=>sT [] []) (fun _ h hk10=>Ae (Ad (lpF h (fun u1=>sT [(0,ai bA),(22,.tree Y8 hA),(23,an hA.length),(24,an u1)] []) (Ag []) (fun n_ u1 c_ h hn12=>Ae (Ab (kQ h (fun _ h=>skW (Ab (Ad (Ab (Aa 7 (riH Y8 h fun x18 _ h=>rsB 3 (rnW (sqF h (fun u3=>sT [(0,ai bA),(22,.tree Y8 hA),(23,an hA.length),(24,an u1),(41,.bool u3)] []) (fun _ h=>Aa 21 (rsT 4 (kR h 31 (fun _ h=>rsT 10 (Ap (tn_ (jE [])))) fun _ h=>rsT 5 (kR h 36 (fun _ h=>rsT 5 (Ap (tn_ (jE [])))) fun _ h=>rsT 5 (Ap (tn_ (jE []))))))) fun u3 h=>kQ h (fun _ h=>Ae (Ac (br_ (tr_ (tr_ (br_ (tr_ (have h:=jO h hn12;(have h:=jO h hk10;jS h))))))))) fun _ h=>Ay (bn_ (tn_ (wr_ (Aa 4 (raH h fun h=>rsT 1 (Ap (tn_ (jL [])))))))))))))))) fun _ h=>lxT (have h:=jO h hn12;jC []))))))) fun _ h=>Ae (Ac (jS h)))))))))));intro _ h;refine Aa 18 (rsT 3 ?_);rcases A0 h with ⟨q6,h⟩|⟨q6,h⟩
 ·exact rq 16 q6 (rsT 4 (Ap (tn_ (jE [(oi 0 1,oi 3 1)]))))
 exact rq 16 q6 (rsT 1 (rcH h Oj fun y7 h=>rsT 2 (Ap (tn_ (jE [(oi 0 1,oi 3 1)])))))
def Ci (a0:Int):Option Bool :=
 (cond (a0 !=8)
  (some (a0 !=14))
  (some false)).bind fun u0 =>
some u0
theorem Kd (h:Ci bA=some cA):cK 95 [ai bA] (Ao cA):=by
 exact cO Tryz.func95 (Ae (sqF h (fun u0=>sT [(2,.bool u0)] []) (fun _ h=>Aa 9 (rsT 3 (kR h 5 (fun _ h=>rsT 4 (Ap (tn_ (jE [])))) fun _ h=>rsT 4 (Ap (tn_ (jE [])))))) fun u0 h=>Ac (jS h)))
def E8 (u1:List (Int×Int×ByteArray)) (u0:Nat):Option (Ctl Nat (Ctl Unit Bool)) :=
 cond (decide ((u0:Int)<(u1.length:Int)))
 ((u1[u0]?).bind fun x10 =>
 (Ci x10.1).bind fun y12 =>
 cond (!y12)
  (some (Ctl.out (Ctl.out false)))
  (og (u0+1<4611686018427387904) <|
  some (Ctl.next (u0+1))))
 (some (Ctl.out (Ctl.next ())))
def Hg (u0:List (Int×Int×ByteArray)):Option Bool :=
 Dn (Aq (fun s_:Nat=>E8 u0 s_) 4611686018427387904 0) fun _ =>
some true
theorem Ul (h:Hg hA=some cA):cK 53 [.agg [.tree Y8 hA]] (Ao cA):=by
 exact cO Tryz.func53 (Ae (sqC h (fun _=>sT [] []) (fun _ h hk2=>Ae (Ad (lpF h (fun u1=>sT [(6,.tree Y8 hA),(7,an hA.length),(8,an u1)] []) (Ag []) (fun n_ u1 c_ h hn4=>Ae (Ab (kQ h (fun _ h=>skW (Ab (Ad (Ab (Aa 7 (riH Y8 h fun x10 _ h=>rsB 3 (rnW (Ab (Aa 11 (rsT 2 (rcH h Kd fun y12 h=>rsT 1 (rnW (kQ h (fun _ h=>Ae (Ac (br_ (tr_ (tr_ (br_ (tr_ (have h:=jO h hn4;(have h:=jO h hk2;jS h))))))))) fun _ h=>Ay (bn_ (tn_ (wr_ (Aa 13 (raH h fun h=>rsT 1 (Ap (tn_ (jL []))))))))))))))))))))) fun _ h=>lxT (have h:=jO h hn4;jC []))))))) fun _ h=>Ae (Ac (jS h))))
def El (a0:Int) (u3:ByteArray) (u0:List (Int×Int×ByteArray)) (u1 u2:Int) (u4:LL):Option Bool :=
 (Mc u0).bind fun y3 =>
(cond y3.2.2
  ((Me u3).bind fun y6 =>
  cond y6
   ((Jr a0 u0).bind fun y8 =>
   cond y8
    ((Hg u0).bind fun y10 =>
    cond y10
     ((Ma a0 u1 u2 u4).bind fun y12 =>
     cond y12
      (cond (u1==y3.1)
       (some (u2==y3.2.1))
       (some false))
      (some false))
     (some false))
    (some false))
   (some false))
  (some false)).bind fun u5 =>
some u5
theorem Aa1 (h:El bA gA hA bB bC dA=some cA):cK 42 [ai bA,.agg [.str gA,.tree Y8 hA,ai bB,ai bC,tS dA]] (Ao cA):=by
 refine cO Tryz.func42 (Ae (Ab (Aa 13 (rsT 2 (rcH h Aah fun y3 h=>rsT 7 (rnW (sqF h (fun u5=>sT [(4,.bool u5)] []) ?_ fun u5 h=>Ac (jS h))))))));intro _ h;refine Aa 51 (rsT 2 ?_);rcases A0 h with ⟨q5,h⟩|⟨q5,h⟩
 ·refine rq 16 q5 (rsT 2 (rcH h Acf fun y6 h=>rsT 2 ?_));rcases A0 h with ⟨q7,h⟩|⟨q7,h⟩
  ·refine rq 21 q7 (rsT 3 (rcH h R9 fun y8 h=>rsT 2 ?_));rcases A0 h with ⟨q9,h⟩|⟨q9,h⟩
   ·refine rq 27 q9 (rsT 2 (rcH h Ul fun y10 h=>rsT 2 ?_));rcases A0 h with ⟨q11,h⟩|⟨q11,h⟩
    ·exact rq 32 q11 (rsT 3 (rcH h Acm fun y12 h=>rsT 2 (kR h 38 (fun _ h=>rsT 7 (kR h 45 (fun _ h=>rsT 7 (Ap (tn_ (jE [])))) fun _ h=>rsT 7 (Ap (tn_ (jE []))))) fun _ h=>rsT 14 (Ap (tn_ (jE []))))))
    exact rq 32 q11 (rsT 20 (Ap (tn_ (jE []))))
   exact rq 27 q9 (rsT 25 (Ap (tn_ (jE []))))
  exact rq 21 q7 (rsT 31 (Ap (tn_ (jE []))))
 exact rq 16 q5 (rsT 36 (Ap (tn_ (jE []))))
end Go.Proofs.YthlpchhhinipaaaGreatDoor


namespace Go.Proofs.YthlpchhhinipaaaGreatDoor
open Go.RowKit Go.Deep
set_option maxRecDepth 4000
set_option maxHeartbeats 4800000
variable {bA:Int} {gA:ByteArray}
def Gc  (u0:Int) (u1:ByteArray):Option (Ctl (Int×ByteArray) ByteArray) :=
 cond (decide (0<u0))
 (og ((strOfNums [IntKind.u8.wrap (wI (48+Int.tmod u0 10))]).size+u1.size<=9223372036854775807) <|
 some (Ctl.next (wI (Int.tdiv u0 10),(strOfNums [IntKind.u8.wrap (wI (48+Int.tmod u0 10))])++u1)))
 (some (Ctl.out u1))
def Gy (a0:Int):Option ByteArray :=
 cond (decide (a0<=0))
 (some (⟨#[109,48]⟩:ByteArray))
 ((Aq (fun s_:Int×ByteArray=>Gc s_.1 s_.2) 4611686018427387904 (a0,(⟨#[]⟩:ByteArray))).bind fun u0 =>
 og ((⟨#[109]⟩:ByteArray).size+u0.size<=9223372036854775807) <|
 some ((⟨#[109]⟩:ByteArray)++u0))
theorem Qo (h:Gy bA=some gA):Cm Tryz.prog Tab 36 [ai bA] [] (.str gA) []:=by
 refine Bg kr Tryz.func36 (Bt kr) (n:=20) kr (by simp) rfl kr trivial trivial (Ae (Ab (Ae (kQ h (fun _ h=>Ae (Ac (tr_ (by obtain rfl:=osj h;exact Cz [.str ((⟨#[109,48]⟩:ByteArray))] (Ag (tl:=[(2,.str ((⟨#[109,48]⟩:ByteArray)))]) (g:=2) []))))) fun _ h=>skW (Ae (sqF h (fun u1=>sT [(3,.str u1)] []) ?_ ?_))))))
 ·intro _ h;refine Ad (lpF h (fun (u0,u2)=>sT [(0,ai u0),(3,.str u2)] []) (Ag []) ?_);rintro n_ ⟨u0,u2⟩ c_ h hn9;refine Ab (Ae (kQ h (fun _ h=>skW (Ad (Ab (Aa 13 (rsT 1 (rs0 (ai (Int.tmod u0 10)) (O0 (k:=.i64) (a:=u0) (b:=10) kr kr (by decide)) (rsT 2 (Lu (oI 12 8 1) (oi 12 8) (.vec 5 1 1 [.int .u8 (IntKind.u8.wrap (wI (48+Int.tmod u0 10)))]) trivial (Ej kr) (rsT 2 ?_))))))))) fun _ h=>lxT (have h:=jO h hn9;jE [])));obtain ⟨g14,h⟩:=Ak h;exact rs0 (.str ((strOfNums [IntKind.u8.wrap (wI (48+Int.tmod u0 10))])++u2)) (Ao4 (a:=strOfNums [IntKind.u8.wrap (wI (48+Int.tmod u0 10))]) (b:=u2) kr kr g14) (rsT 1 (rnW (Aa 16 (rsT 1 (rs0 (ai (wI (Int.tdiv u0 10))) (Au7 (k:=.i64) (a:=u0) (b:=10) kr kr (by decide)) (rsT 1 (Ap (bn_ (tn_ (jL []))))))))))
 intro u1 h;refine Ab (Aa 5 (rsT 1 ?_));obtain ⟨g16,h⟩:=Ak h;refine rs0 (.str ((⟨#[109]⟩:ByteArray)++u1)) (Ao4 (a:=(⟨#[109]⟩:ByteArray)) (b:=u1) kr kr g16) (rsT 1 (rnW (Ac ?_)));obtain rfl:=zj h;exact Cz [.str ((⟨#[109]⟩:ByteArray)++u1)] (Ag (tl:=[(2,.str ((⟨#[109]⟩:ByteArray)++u1))]) (g:=2) [])
end Go.Proofs.YthlpchhhinipaaaGreatDoor


namespace Go.Proofs.YthlpchhhinipaaaGreatDoor
open Go.RowKit Go.Deep
end Go.Proofs.YthlpchhhinipaaaGreatDoor
namespace Go.Proofs.YthlpchhhinipaaaGreatDoor
open Go.RowKit Go.Deep
section
variable {n:Nat} {d:Option Nat} {f:Nat->AV} {ob:Oid->Option Ob}
theorem Afy {y:Opd} {t:Ty} {ys:List t.D} (h:y.ev f=.tree t ys):Xg ob t (y.ev f)=some (ys.length,tvC none t ys):=by
 have e:t.avM none=t.av:=by
  funext x
  have key:∀ (t:Ty) (x:t.D),t.avM none x=t.av x:=by
   intro t
   induction t with
   | pair a b i1 i2=>intro x;simp only [Ty.avM,Ty.av,i1,i2]
   | _=>intro x;rfl
  exact key t x
 rw [h];simp only [Xg,Ty.eq?_self,Ch,tvC,e]
theorem Am2 {x y:Opd} {o:Oid} {e1:TypeId} {t t':Ty} {b len N:Nat} {m:Option (Nat->Prop)} {xs ys:List t.D} (hx:x.ev f=.own o t' 0 len) (hob:ob o=some (.vec e1 t.size N (tvC m t xs))) (hl:len=xs.length) (hN:N=xs.length) (hy:Xg ob t (y.ev f)=some (ys.length,tvC m t ys)) (h:len+ys.length<=1073741824/\(len+ys.length)*b<=140737488355328) :
  A9 n ⟨d,none,.appV e1 t b x y⟩ f ob=some (2,.own (o.1,n) t 0 (len+ys.length),[(o,none),((o.1,n),some (.vec e1 t.size (len+ys.length) (tvC m t (xs++ys))))]):=by
 subst hl hN;have h1:List.take (xs.length*t.size) (tvC m t xs)=tvC m t xs:=List.take_of_length_le (by rw [Ns];exact Nat.le_refl _);simp only [A9,ev,La,hx,hy,hob,true_and,Nat.le_refl,if_true,h1,h.1,h.2,and_self,Zt]
end
end Go.Proofs.YthlpchhhinipaaaGreatDoor
namespace Go.Proofs.YthlpchhhinipaaaGreatDoor
open Go.RowKit Go.Deep
def Tz:List (Oid×Option Ob)->Oid->List Oid->Option (Ob×List Oid)
 | [],_,_=>none
 | (j,o) :: r,p,L=>match o with
  | some (.pool e u xss)=>if p.1.1=j.1.1/\p.2=j.2 then some (.pool e u xss,L) else Tz r p L
  | none=>if p.1.1=j.1.1/\p.2=j.2/\j.1.2≠0 then Tz r p (j :: L) else Tz r p L
  | some _=>if p.1.1=j.1.1/\p.2=j.2/\j.1.2≠0 then none else Tz r p L
theorem Qc {e:TypeId} {u:Ty} {xss:List (List u.D)} {p:Oid} {L':List Oid}:∀ {ol:List (Oid×Option Ob)} {L:List Oid},Tz ol p L=some (.pool e u xss,L')->(∀ x∈L,x∈L')/\∀ k,kid p k∉L'->Hb ol (kid p k)=(xss[k]?).map (.arr e u)
 | [],_,h=>by cases h
 | (j,o) :: r,L,h=>by
  have hk:∀ k,¬ (p.1.1=j.1.1/\p.2=j.2/\j.1.2≠0)->kid p k≠j:=fun k hn ej=>hn (by subst ej;exact ⟨rfl,rfl,by simp [kid]⟩)
  cases o with
  | none =>
   simp only [Tz] at h;split at h
   ·obtain ⟨i1,i2⟩:=Qc h;refine ⟨fun x hx=>i1 x (List.mem_cons_of_mem _ hx),fun k hkn=>?_⟩;simp only [Hb];rw [if_neg (fun e=>hkn (by rw [e];exact i1 _ List.mem_cons_self))];exact i2 k hkn
   ·rename_i hn;obtain ⟨i1,i2⟩:=Qc h;refine ⟨i1,fun k hkn=>?_⟩;simp only [Hb];rw [if_neg (hk k hn)];exact i2 k hkn
  | some o =>
   cases o with
   | pool e' u' xss' =>
    simp only [Tz] at h;split at h
    ·rename_i hc;obtain ⟨h1,rfl⟩:=Prod.mk.inj (osj h);obtain ⟨rfl,rfl,he⟩:=Ob.pool.inj h1;obtain rfl:=eq_of_heq he;refine ⟨fun _ hx=>hx,fun k _=>?_⟩;simp only [Hb];rw [if_pos ⟨by simpa [kid] using hc.1,by simpa [kid] using hc.2,by simp [kid]⟩];simp [kid]
    ·rename_i hc;obtain ⟨i1,i2⟩:=Qc h;refine ⟨i1,fun k hkn=>?_⟩;simp only [Hb];rw [if_neg (fun h'=>hc ⟨h'.1,h'.2.1⟩)];exact i2 k hkn
   | _ =>
    simp only [Tz] at h;split at h
    ·cases h
    ·rename_i hn;obtain ⟨i1,i2⟩:=Qc h;refine ⟨i1,fun k hkn=>?_⟩;simp only [Hb];rw [if_neg (hk k hn)];exact i2 k hkn
theorem Ape {e:TypeId} {u:Ty} {xss:List (List u.D)} {p:Oid} {L:List Oid} {ol:List (Oid×Option Ob)} (h:Tz ol p []=some (.pool e u xss,L)) {k:Nat} {row:List u.D} (hk:kid p k∉L) (hx:xss[k]? =some row):Aj ol (kid p k)=some (.arr e u row):=by
 rw [Kz,(Qc h).2 k hk,hx];rfl
theorem Aao {G:World->Prop} {tl:List (Nat×AV)} {ol:List (Oid×Option Ob)} {g:Nat} (s:Nat) (o p q:Oid) {e1 e:TypeId} {u:Ty} {xss:List (List u.D)} {j n len:Nat} {row ys:List u.D} (hfl:u.flat=true) (ho:Aj ol o=some (.vec e1 1 n ((hdL p u xss).set j (.own q u 0 len)))) (hn:n=xss.length) (hp:Tz ol p []=some (.pool e u xss,[kid p j])) (hq:Hb ol q=some (.arr e u ys)) (hl:len<=ys.length) (hr:row=ys.take len)
  (hqp:(q.1.1==p.1.1&&q.2==p.2&&q.1.2 !=0)=false) (hog:(o.2==g)=false) (hfr:Od g ((q,none) :: (p,some (.pool e u [])) :: ol)=true) :
  WeakG G ⟨Am tl,Aj ol,g⟩ ⟨Am tl,Aj ((o,some (.mat e1 ((s,0),g) u (xss.set j row))) :: (((s,0),g),some (.pool e u (xss.set j row))) :: (q,none) :: (p,some (.pool e u [])) :: ol),g+1⟩:=by
 obtain ⟨r1,r2,r3⟩:=Abo hl hr;have hqk:∀ k,q≠kid p k:=fun k e=>by rw [e] at hqp;simp [kid] at hqp
 have hq':Aj ol q=some (.arr e u ys):=by rw [Kz,hq];rfl
 refine J9 s o (fun k=>if k=j then q else kid p k) [(q,none),(p,some (.pool e u []))] hfl ho (by rw [List.length_set];exact hn) (fun k row' hk=>?_) (fun a b ha hb hab=>?_) hog hfr (fun i _=>?_)
 ·rw [List.getElem?_set] at hk ⊢;by_cases h:j=k
  ·subst h;rw [if_pos rfl] at hk ⊢;split at hk
   ·rename_i hlt;obtain rfl:=osj hk;rw [C8,if_pos hlt,if_pos rfl,r1];exact ⟨rfl,ys,hq',hl,hr⟩
   ·cases hk
  ·rw [if_neg h] at hk ⊢;rw [Eh,hk,if_neg (fun e=>h e.symm)];exact ⟨rfl,row',Ape hp (fun hm=>h (Fm (List.mem_singleton.1 hm)).symm) hk,Nat.le_refl _,(List.take_length).symm⟩
 ·by_cases h1:a=j <;> by_cases h2:b=j
  ·rw [h1,h2]
  ·rw [if_pos h1,if_neg h2] at hab;exact absurd hab (hqk b)
  ·rw [if_neg h1,if_pos h2] at hab;exact absurd hab.symm (hqk a)
  ·rw [if_neg h1,if_neg h2] at hab;exact Fm hab
 ·simp only [List.cons_append,List.nil_append,Kj];by_cases h1:i=q
  ·rw [if_pos h1];exact .inl rfl
  ·rw [if_neg h1,Ly];split
   ·exact .inl rfl
   ·rename_i h2;refine .inr ⟨rfl,fun k _=>?_⟩;split
    ·exact h1
    ·intro e;exact h2 (by rw [e];exact ⟨rfl,rfl,by simp [kid]⟩)
end Go.Proofs.YthlpchhhinipaaaGreatDoor
namespace Go.Proofs.YthlpchhhinipaaaGreatDoor
open Go.RowKit Go.Deep
theorem Ahf {q:Oid} {e:TypeId} {u:Ty} {xs:List u.D} {r:List (Oid×Option Ob)}:Hb ((q,some (.arr e u xs)) :: r) q=some (.arr e u xs):=by simp [Hb]
theorem Ac8 {α:Type} {g:List AV->Option α} {sz n:Nat} {d:List AV} {ys:List α} (hd:I8 g sz n d=some ys):∀ {m:Nat} {c:List AV} {xs:List α},c.length=m*sz->I8 g sz m c=some xs->I8 g sz (m+n) (c++d)=some (xs++ys)
 | 0,c,xs,hc,h=>by
  obtain rfl:c=[]:=List.eq_nil_of_length_eq_zero oM;simp only [I8,Option.some.injEq] at h;subst h
  simpa using hd
 | m+1,c,xs,hc,h=>by
  have hl:sz<=c.length:=by rw [hc,Nat.succ_mul];omega
  rw [show m+1+n=(m+n)+1 by omega];simp only [I8] at h ⊢;rw [List.take_append_of_le_length hl,List.drop_append_of_le_length hl];cases h1:g (c.take sz) with
  | none=>rw [h1] at h;cases h
  | some x =>
   rw [h1] at h;cases h2:I8 g sz m (c.drop sz) with
   | none=>rw [h2] at h;cases h
   | some zs =>
    rw [h2] at h;obtain rfl:=osj h;rw [Ac8 hd (m:=m) (c:=c.drop sz) (xs:=zs) (by rw [List.length_drop,hc,Nat.succ_mul];omega) h2];rfl
theorem Avc {n:Nat} {ob:Oid->Option Ob} {o p:Oid} {e1 e:TypeId} {u:Ty} {m:Option (Nat->Prop)} {xss ys:List (List u.D)} {len N:Nat} (ho:ob o=some (.vec e1 1 N (hdL p u xss++tvC m (.slice u) ys))) (hk:∀ k row,xss[k]? =some row->ob (kid p k)=some (.arr e u row)) (hN:N=xss.length+ys.length) (hl:len=N):gnd ob (n+1) (.own o (.slice u) 0 len)=some (.tree (.slice u) (xss++ys)):=by
 subst hl hN
 have h1:I8 (rdC ob (.slice u)) 1 xss.length (hdL p u xss)=some xss:=by
  have:=Qv (g:=rdC ob (.slice u)) (cs:=hdL p u xss) (xs:=xss) (by rw [C8]) (fun k c x hc hx=>by
   rw [Eh,hx] at hc;obtain rfl:=osj hc;have:=hk _ x hx;simp only [rdC,Ea,this,Nat.zero_add,Nat.le_refl,if_true,Ty.eq?_self,Ch,List.drop_zero,List.take_length])
  exact this
 have h2:I8 (rdC ob (.slice u)) 1 ys.length (tvC m (.slice u) ys)=some ys:=Wx (t:=.slice u) ys;have h3:=Ac8 h2 (m:=xss.length) (by rw [C8,Nat.mul_one]) h1
 have key:Yp ob 1 (rdC ob (.slice u)) (.own o (.slice u) 0 (xss.length+ys.length))=some (xss++ys):=by
  simp only [Yp,ho];rw [if_pos ⟨trivial,by omega⟩,Nat.zero_mul,List.drop_zero,List.take_of_length_le (by simp only [List.length_append,C8,Ns,Ty.size];omega)];exact h3
 simp only [gnd,ho,Ty.size,key,Option.map_some]
section
variable {n:Nat} {d:Option Nat} {f:Nat->AV} {ob:Oid->Option Ob}
theorem At6 {x y:Opd} {o p:Oid} {e1:TypeId} {u t':Ty} {b len N:Nat} {m:Option (Nat->Prop)} {xss ys:List (List u.D)} (hx:x.ev f=.own o t' 0 len) (hob:ob o=some (.vec e1 1 N (hdL p u xss))) (hN:N=xss.length) (hl:len=N) (hy:Xg ob (.slice u) (y.ev f)=some (ys.length,tvC m (.slice u) ys)) (h:len+ys.length<=1073741824/\(len+ys.length)*b<=140737488355328) :
  A9 n ⟨d,none,.appV e1 (.slice u) b x y⟩ f ob=some (2,.own (o.1,n) (.slice u) 0 (len+ys.length),[(o,none),((o.1,n),some (.vec e1 1 (len+ys.length) (hdL p u xss++tvC m (.slice u) ys)))]):=by
 subst hl hN;have h1:List.take (xss.length*1) (hdL p u xss)=hdL p u xss:=by rw [Nat.mul_one];exact List.take_of_length_le (by rw [C8];exact Nat.le_refl _)
 simp only [A9,ev,La,hx,hy,hob,Ty.size,true_and,Nat.le_refl,if_true,h1,h.1,h.2,and_self]
end
end Go.Proofs.YthlpchhhinipaaaGreatDoor
namespace Go.Proofs.YthlpchhhinipaaaGreatDoor
open Go.RowKit Go.Deep
section
variable {P:Program} {G:World->Prop} (hfol:P.follows .mixedOrders=true) {g:FuncId} {fn:Func} (hf:P.funcs[g]? =some fn) {ac:AC} {rs:List Res} (hc:C0 P fn=some (ac,rs)) {args:List AV} {r:RV} {n:Nat}
include hfol hf hc
end
section
variable {σ:Oid->Option Loc} {im:Nat->Prop} {w:World} {θ:Oid->Oid} {t:Ty} {xs:List t.D}
end
theorem Atp {a b:Oid->Option Ob} {σ:Oid->Option Loc} (h:∀ x,(∃ o,a x=some o)↔∃ o,b x=some o):imm a σ=imm b σ:=by
 funext c;refine propext ⟨fun H i o cp s hi=>?_,fun H i o cp s hi=>?_⟩
 ·obtain ⟨o',h'⟩:=(h i).2 ⟨o,hi⟩;exact H i o' cp s h'
 ·obtain ⟨o',h'⟩:=(h i).1 ⟨o,hi⟩;exact H i o' cp s h'
section
variable {ob:Oid->Option Ob} {n:Nat} {k:Oid} {c:AV} {cs:List AV}
end
end Go.Proofs.YthlpchhhinipaaaGreatDoor
namespace Go.Proofs.YthlpchhhinipaaaGreatDoor
open Go.RowKit Go.Deep
theorem Akc {G:World->Prop} {tl:List (Nat×AV)} {ol:List (Oid×Option Ob)} {g:Nat} (d:Nat) (o:Oid) {e:TypeId} {t:Ty} {xs:List t.D} {len:Nat} (hd:Am tl d=.own o t 0 len) (ho:Aj ol o=some (.arr e t xs)) (hl:len=xs.length) :
  WeakG G ⟨Am tl,Aj ol,g⟩ ⟨Am ((d,.tree t xs) :: tl),Aj ((o,none) :: ol),g⟩:=by
 refine Aqm (S:=⟨Am tl,Aj ol,g⟩) (obD:=fun i=>if i=o then Aj ol i else none) (fun i x hx=>?_) (fun i x hx=>?_) fun t'=>?_
 ·rw [Kj] at hx;split at hx
  ·cases hx
  ·exact hx
 ·split at hx
  ·rename_i hc;exact ⟨hx,by rw [Kj,if_pos hc]⟩
  ·cases hx
 ·by_cases ht:t'=d
  ·subst ht;refine .inr ⟨1,?_⟩;show gnd _ 1 (Am tl t')=some (Am _ t');rw [hd,show Am ((t',AV.tree t xs) :: tl) t'=.tree t xs from if_pos rfl];exact C2 (e:=e) (by rw [if_pos rfl];exact ho) hl
  ·exact .inl (if_neg ht)
section
variable {G:World->Prop} {n:Nat} {R:Nat->Prop}
theorem Aoa (hR:∀ b,n<=b->R b) {S:St} {ob':Oid->Option Ob} {tm':Nat->AV} {q:Oid} {e:TypeId} {t:Ty} {xs:List t.D} (hq:S.ob q=some (.arr e t xs))
  (h1:∀ i o',ob' i=some o'->i≠q/\∃ o,S.ob i=some o/\(o'=o∨∃ ty cs k t',o=.cells ty cs/\o'=.cells ty (cs.set k (.ftr R t xs))/\cs[k]? =some (.own q t' 0 xs.length)))
  (h3:∀ j,tm' j=S.tm j∨(tm' j=.ftr R t xs/\∃ t',S.tm j=.own q t' 0 xs.length)):WeakG (GN G n) S ⟨tm',ob',S.gen⟩:=by
 intro w0 B N a w hr;obtain ⟨σ,hm,hf,hB⟩:=hr.ex;have hn:n<=w0.heap.size:=(hm.inv w0 (Below.refl _ _)).2
 have him:∀ b,imm S.ob σ b->imm ob' σ b:=fun b hb i o c s ho=>by
  obtain ⟨_,o1,h,_⟩:=h1 i o ho;exact hb i o1 c s h
 have hL:Later σ σ (imm S.ob σ) (imm ob' σ) w w:=⟨fun _ _ h=>h,fun b _ hb=>him b hb,fun _ _ _=>rfl,Nat.le_refl _⟩
 have key:∀ (t':Ty) (v:Value),AV.Rep σ (imm S.ob σ) w (.own q t' 0 xs.length) v->AV.Rep σ (imm ob' σ) w (.ftr R t xs) v:=by
  intro t' v hv
  have:AV.Rep (fun _=>none) (fun b=>imm ob' σ b/\R b) w (.tree t xs) v:=by
   refine Kw (ob:=fun j=>if j=q then some (.arr e t xs) else none) (σ:=σ) (im:=fun b=>imm ob' σ b/\R b) (lo:=w0.heap.size) (fun j z l hj hl=>?_) (fun _ hb=>hb) (fun j z b c s hj hs=>?_) 1 _ _ _ (C2 (e:=e) (if_pos rfl) rfl) (Ab2 hv)
   ·split at hj
    ·rename_i e';subst e';obtain rfl:=osj hj;exact hm.obs j _ l hq hl
    ·cases hj
   ·split at hj
    ·rename_i e';subst e';refine ⟨fun j' z' c' s' hj' hs'=>?_,hR b (Nat.le_trans hn (hm.lt j b c s hs).1)⟩;obtain ⟨hne,o1,hj1,_⟩:=h1 j' z' hj';exact hne (hm.inj j j' b c s c' s' _ o1 hq hj1 hs hs').symm
    ·cases hj
  exact this
 refine ⟨⟨σ,⟨hm.below,hm.inv,hm.gen,hm.lt,hm.cap,fun i j b c s c' s' x y hi hj=>?_,fun i x l hi hl=>?_⟩,fun t'=>?_,hB.trans hL⟩,hr.size,hr.defers,fun i hi=>?_⟩
 ·obtain ⟨_,o1,g1,_⟩:=h1 i x hi;obtain ⟨_,o2,g2,_⟩:=h1 j y hj;exact hm.inj i j b c s c' s' o1 o2 g1 g2
 ·obtain ⟨_,o1,g1,g2⟩:=h1 i x hi;rcases g2 with rfl|⟨ty,cs,k,t',rfl,rfl,hk⟩
  ·exact (hm.obs i x l g1 hl).later hL fun _ _ _ _=>rfl
  ·have h0:=(hm.obs i _ l g1 hl)
   cases l with
   | nil=>exact h0
   | at_ b c s =>
    obtain ⟨vs,e1,e2,e3⟩:=h0;refine ⟨vs,e1,?_,e3⟩;obtain ⟨v,hv,hrv⟩:=e2.get hk;have h2:=(AV.RepL.later hL _ _ e2).set (k:=k) (key t' v hrv)
    have e4:vs.set k v=vs:=by
     obtain ⟨hlt,rfl⟩:=gSi.1 hv;exact List.set_getElem_self hlt
    rwa [e4] at h2
 ·rcases h3 t' with e'|⟨e',t2,e2⟩
  ·show AV.Rep σ (imm ob' σ) w (tm' t') _;rw [e'];exact AV.Rep.later hL _ _ (hf t')
  ·show AV.Rep σ (imm ob' σ) w (tm' t') _;rw [e'];have:=hf t';rw [e2] at this;exact key t2 _ this
 ·refine hr.obg i fun hn=>hi ?_
  cases hx:ob' i with
  | none=>exact hx
  | some x =>
   obtain ⟨_,o1,g1,_⟩:=h1 i x hx;rw [g1] at hn;cases hn
theorem Acc (hR:∀ b,n<=b->R b) {tl:List (Nat×AV)} {ol:List (Oid×Option Ob)} {g:Nat} (i q:Oid) (k:Nat) {ty e:TypeId} {cs ds:List AV} {t t':Ty} {xs:List t.D} {len:Nat} (hi:Aj ol i=some (.cells ty cs)) (hk:cs[k]? =some (.own q t' 0 len)) (hq:Aj ol q=some (.arr e t xs)) (hl:len=xs.length) (hd:cs.set k (.ftr R t xs)=ds) :
  WeakG (GN G n) ⟨Am tl,Aj ol,g⟩ ⟨Am tl,Aj ((q,none) :: (i,some (.cells ty ds)) :: ol),g⟩:=by
 subst hl hd;refine Aoa (S:=⟨Am tl,Aj ol,g⟩) hR hq (fun j o' hj=>?_) fun j=>.inl rfl
 rw [Kj] at hj;split at hj
 ·cases hj
 ·rename_i hne;refine ⟨hne,?_⟩;by_cases hji:j=i
  ·subst hji;refine ⟨_,hi,.inr ⟨ty,cs,k,t',rfl,?_,hk⟩⟩;have:Aj ((j,some (.cells ty (cs.set k (.ftr R t xs)))) :: ol) j=some (.cells ty (cs.set k (.ftr R t xs))):=by simp [Aj]
   exact osj (hj.symm.trans this)
  ·refine ⟨o',?_,.inl rfl⟩;have:Aj ((i,some (.cells ty (cs.set k (.ftr R t xs)))) :: ol) j=Aj ol j:=by simp [Aj,hji]
   exact this.symm.trans hj
end
theorem Ae2 {α:Type} {xs:List α} {z:α} {N len b:Nat} (hN:N=xs.length) (h:len<=N/\len+1<=1073741824/\(len+1)*b<=140737488355328):len+1=(xs.take len++[z]).length:=by
 rw [List.length_append,List.length_take,List.length_singleton];omega
theorem Aox {m:Option (Nat->Prop)} {t:Ty} {xs:List t.D} {k:Nat} (hk:k<=xs.length):(tvC m t xs).take (k*t.size)=tvC m t (xs.take k):=by
 conv=>lhs;rw [← List.take_append_drop k xs,Zt]
 rw [List.take_append_of_le_length (by rw [Ns,List.length_take,Nat.min_eq_left hk];exact Nat.le_refl _)];exact List.take_of_length_le (by rw [Ns,List.length_take,Nat.min_eq_left hk];exact Nat.le_refl _)
theorem Alt {n:Nat} {d:Option Nat} {f:Nat->AV} {ob:Oid->Option Ob} {x y:Opd} {o q:Oid} {e1 e2:TypeId} {t t' t2:Ty} {b len N:Nat} {m:Option (Nat->Prop)} {xs:List t.D} {z:t.D} (hx:x.ev f=.own o t' 0 len) (hob:ob o=some (.vec e1 t.size N (tvC m t xs))) (hN:N=xs.length) (hy:y.ev f=.own q t2 0 1) (hq:ob q=some (.vec e2 t.size 1 (tvC m t [z]))) (h:len<=N/\len+1<=1073741824/\(len+1)*b<=140737488355328) :
  A9 n ⟨d,none,.appV e1 t b x y⟩ f ob=some (2,.own (o.1,n) t 0 (len+1),[(o,none),((o.1,n),some (.vec e1 t.size (len+1) (tvC m t (xs.take len++[z]))))]):=by
 have h1:List.take (len*t.size) (tvC m t xs)=tvC m t (xs.take len):=Aox (hN▸h.1);have h2:List.take (1*t.size) (List.drop (0*t.size) (tvC m t [z]))=tvC m t [z]:=by rw [Nat.zero_mul,List.drop_zero];exact List.take_of_length_le (by rw [Ns];exact Nat.le_refl _)
 simp only [A9,ev,La,hx,hy,Xg,hq,hob,true_and,Nat.zero_add,Nat.le_refl,if_true,h1,h2,h.1,h.2.1,h.2.2,and_self,Zt]
mutual
def AV.unS (R:Nat->Prop):AV->AV->Prop
 | .tree t xs,d=>d=.ftr R t xs
 | .agg cs,d=>∃ ds,d=.agg ds/\AV.unSL R cs ds
 | .ref cs,d=>∃ ds,d=.ref ds/\AV.unSL R cs ds
 | c,d=>c.scal=true/\d=c
def AV.unSL (R:Nat->Prop):List AV->List AV->Prop
 | [],ds=>ds=[]
 | c :: cs,ds=>∃ d ds',ds=d :: ds'/\AV.unS R c d/\AV.unSL R cs ds'
end
mutual
theorem Asv {R im:Nat->Prop} {w:World} (hR:∀ b,im b->R b):∀ (c d:AV) (u:Value),AV.unS R c d->AV.Rep (fun _=>none) im w c u->AV.Rep (fun _=>none) im w d u
 | .tree t xs,d,u,h,⟨A,c,l,e,hs⟩=>by
  have h:d=.ftr R t xs:=h;subst h;exact ⟨A,c,l,e,B4 (fun b _ hb=>⟨hb,hR b hb⟩) hs⟩
 | .agg cs,d,u,⟨ds,e,h⟩,hr=>by
  subst e;obtain ⟨us,e,hr⟩:=hr;exact ⟨us,e,Aa6 hR cs ds us h hr⟩
 | .ref cs,d,u,⟨ds,e,h⟩,hr=>by
  subst e;obtain ⟨b,k,vs,e1,e2,e3,hr⟩:=hr;exact ⟨b,k,vs,e1,e2,e3,Aa6 hR cs ds vs h hr⟩
 | .int ..,d,u,⟨_,e⟩,hr=>by subst e;exact hr
 | .bool ..,d,u,⟨_,e⟩,hr=>by subst e;exact hr
 | .str ..,d,u,⟨_,e⟩,hr=>by subst e;exact hr
 | .err ..,d,u,⟨h,e⟩,hr=>by first|(cases h;done)|(subst e;exact hr)
 | .nils,d,u,⟨_,e⟩,hr=>by subst e;exact hr
 | .any,d,u,⟨h,_⟩,_=>by cases h
 | .mtree ..,d,u,⟨h,_⟩,_=>by cases h
 | .ftr ..,d,u,⟨h,_⟩,_=>by cases h
 | .mp _,d,u,⟨h,_⟩,_=>by cases h
 | .tup _,d,u,⟨h,_⟩,_=>by cases h
 | .fn ..,d,u,⟨h,_⟩,_=>by cases h
 | .own ..,d,u,⟨h,_⟩,_=>by cases h
 | .box ..,d,u,⟨h,_⟩,_=>by cases h
 | .elt ..,d,u,⟨h,_⟩,_=>by cases h
 | .sla ..,d,u,⟨h,_⟩,_=>by cases h
 | .telt ..,d,u,⟨h,_⟩,_=>by cases h
 | .giv ..,d,u,⟨h,_⟩,_=>by cases h
 | .abool ..,d,u,⟨h,_⟩,_=>by cases h
theorem Aa6 {R im:Nat->Prop} {w:World} (hR:∀ b,im b->R b):∀ (cs ds:List AV) (us:List Value),AV.unSL R cs ds->AV.RepL (fun _=>none) im w cs us->AV.RepL (fun _=>none) im w ds us
 | [],ds,us,h,hr=>by obtain rfl:ds=[]:=h;exact hr
 | c :: cs,ds,us,⟨d,ds',e,h1,h2⟩,hr=>by
  subst e;obtain ⟨u,us',e,r1,r2⟩:=hr;exact ⟨u,us',e,Asv hR c d u h1 r1,Aa6 hR cs ds' us' h2 r2⟩
end
end Go.Proofs.YthlpchhhinipaaaGreatDoor
namespace Go.Proofs.YthlpchhhinipaaaGreatDoor
open Go.RowKit Go.Deep
set_option maxRecDepth 4000
set_option maxHeartbeats 4800000
variable {aA aB:List Int} {bA bB bC bD bE:Int} {dA dB:LL} {pA:Int×Int×LL}
def H9 (a0:List Int) (u0:Nat):Option (Ctl Nat Nat) :=
 (cond (decide ((u0:Int)<(a0.length:Int)))
  ((a0[u0]?).bind fun x8 =>
  some (x8==0))
  (some false)).bind fun u1 =>
cond u1
 (og (u0+1<4611686018427387904) <|
 some (Ctl.next (u0+1)))
 (some (Ctl.out u0))
def Jq (a0:List Int):Option Int :=
 (Aq (fun s_:Nat=>H9 a0 s_) 4611686018427387904 0).bind fun u0 =>
some (u0:Int)
theorem Rv (h:Jq aA=some bA):cK 147 [tI aA] (A3 bA):=by
 refine cO Tryz.func147 (Ae (Ae (sqF h (fun u1=>sT [(3,an u1)] []) ?_ fun u1 h=>Ae (Ac (jS h)))));intro _ h;refine Ad (lpF h (fun u0=>sT [(0,tI aA),(3,an u0)] []) (Ag []) ?_);intro n_ u0 c_ h hn4;refine Ab (sqF h (fun u2=>sT [(0,tI aA),(3,an u0),(14,.bool u2)] []) ?_ fun u2 h=>kQ h (fun _ h=>skW (Ad (Aa 5 (rsT 1 (raH h fun h=>rsT 1 (Ap (bn_ (tn_ (jL []))))))))) fun _ h=>lxT (have h:=jO h hn4;jE []));intro _ h;refine Aa 13 (rsT 5 ?_);rcases A0 h with ⟨q7,h⟩|⟨q7,h⟩
 ·exact rq 8 q7 (rsT 2 (riH .int h fun x8 _ h=>rsT 3 (Ap (tn_ (jE [])))))
 exact rq 8 q7 (rsT 6 (Ap (tn_ (jE []))))
def Im (a1:Int) (u0:Nat) (u1:List Int):Option (Ctl (Nat×List Int) (List Int)) :=
 cond (decide ((u0:Int)<(a1.toNat:Int)))
 ((u1[u0]?).bind fun x15 =>
 og (u0+1<4611686018427387904) <|
 some (Ctl.next (u0+1,u1.set u0 (-1))))
 (some (Ctl.out u1))
def Il (y4:LL) (u0:Nat) (u1:List Int):Option (Ctl (Nat×List Int) (List Int)) :=
 cond (decide ((u0:Int)<(y4.length:Int)))
 ((y4[u0]?).bind fun x25 =>
 (Jq x25).bind fun y26 =>
 (Cl u1 y26).bind fun x27 =>
 og (u0+1<4611686018427387904) <|
 some (Ctl.next (u0+1,u1.set y26.toNat (u0:Int))))
 (some (Ctl.out u1))
def Ix (y4:LL) (u2:Nat) (a0:Int) (u0:Nat) (u1:List Int):Option (Ctl (Nat×List Int) (List Int)) :=
 cond (decide ((u0:Int)<(y4.length:Int)))
 ((y4[u0]?).bind fun x53 =>
 (Jq x53).bind fun y54 =>
 (x53[u2]?).bind fun x55 =>
 (E7 a0 x55).bind fun y56 =>
 (Cl u1 y54).bind fun x57 =>
 og (u0+1<4611686018427387904) <|
 some (Ctl.next (u0+1,u1.set y54.toNat y56)))
 (some (Ctl.out u1))
def Ij (a1:Int) (u2:List Int) (y4:LL) (a0:Int) (u0:Nat) (u1:LL):Option (Ctl (Nat×LL) (LL)) :=
 cond (decide ((u0:Int)<a1))
 (((u2[u0]?).bind fun x39 =>
  cond (decide (0<=x39))
   (some u1)
   (og (0<=a1/\a1<=a1/\a1<=1073741824/\(8:Int)*a1<=140737488355328) <|
   ((List.replicate a1.toNat (0:Int))[u0]?).bind fun x44 =>
   (Aq (fun s_:Nat×List Int=>Ix y4 u0 a0 s_.1 s_.2) 4611686018427387904 (0,(List.replicate a1.toNat (0:Int)).set u0 1)).bind fun u3 =>
   og (u1.length+1<=1073741824/\(u1.length+1)*24<=140737488355328) <|
   some (u1++[u3]))).bind fun u4 =>
 og (u0+1<4611686018427387904) <|
 some (Ctl.next (u0+1,u4)))
 (some (Ctl.out u1))
def Jm (a0 a1:Int) (a2:LL):Option (LL) :=
 (D7 a0 a1 a2).bind fun y4 =>
og (0<=a1/\a1<=a1/\a1<=1073741824/\(8:Int)*a1<=140737488355328) <|
(Aq (fun s_:Nat×List Int=>Im a1 s_.1 s_.2) 4611686018427387904 (0,List.replicate a1.toNat (0:Int))).bind fun u0 =>
(Aq (fun s_:Nat×List Int=>Il y4 s_.1 s_.2) 4611686018427387904 (0,u0)).bind fun u1 =>
(Aq (fun s_:Nat×LL=>Ij a1 u1 y4 a0 s_.1 s_.2) 4611686018427387904 (0,([]:LL))).bind fun u2 =>
(D7 a0 a1 u2).bind fun y62 =>
some y62
theorem Sk (h:Jm bA bB dA=some dB):Cm Tryz.prog Tab 100 [ai bA,ai bB,tS dA] [] (oS 0 1 dB.length) [(oi 0 1,.mat 81 (oi 1 1) .int dB),(oi 1 1,.pool 3 .int dB)]:=by
 refine Bg kr Tryz.func100 (Bt kr) (n:=89) kr (by simp) rfl kr trivial ⟨⟨3,.tail _ (.head _)⟩,⟨trivial,trivial⟩⟩ (Ae (Ab (Aa 7 (rsT 3 (rcM h [] [ai bA,ai bB,tS dA] Ie trivial (aR kr) (Ar kr kr trivial) fun y4 h=>rsT 1 (rnW (Ab (Aa 10 (rsT 1 ?_)))))))));obtain ⟨g6,h⟩:=Ak h;refine rs1 (oI 22 8 bB.toNat) (oi 22 8) (.arr 3 .int (List.replicate bB.toNat (0:Int))) (N3 (t:=.int) (k:=.i64) (k':=.i64) (m:=bB) (m':=bB) kr kr g6 rfl) (rsT 1 (rnW (sqF h (fun ub=>sT [(0,ai bA),(1,ai bB),(7,oS 0 1 y4.length),(8,oI 2 1 ub.length)] [(oi 0 1,.mat 81 (oi 1 1) .int y4),(oi 1 1,.pool 3 .int y4),(oi 2 1,.arr 3 .int ub)]) ?_ ?_)))
 ·intro _ h;refine Ae (Ad (lpF h (fun (uc,u5)=>sT [(0,ai bA),(1,ai bB),(7,oS 0 1 y4.length),(8,oI 2 1 u5.length),(24,an bB.toNat),(25,an uc)] [(oi 0 1,.mat 81 (oi 1 1) .int y4),(oi 1 1,.pool 3 .int y4),(oi 2 1,.arr 3 .int u5)]) ((wL 8 (List.length_replicate.symm:bB.toNat=(List.replicate bB.toNat (0:Int)).length)).trans (Ag [(oi 0 1,oi 320 5),(oi 1 1,oi 321 5),(oi 2 1,oi 22 8)])) ?_));rintro n_ ⟨uc,u5⟩ c_ h hn9;refine Ae (Ab (kQ h (fun _ h=>skW (Ab (Ad (Ae (Aa 9 (rsT 2 ?_)))))) fun _ h=>lxT (have h:=jO h hn9;jE [])));obtain ⟨x15,e15,h⟩:=Ah h;refine zO (oi 2 1) .int u5.length (Ai e15) (zS (oi 2 1) (-1) e15 (Ap (bn_ (tn_ (wr_ (Aa 11 (raH h fun h=>rsT 1 (Ap (tn_ ?_)))))))));obtain rfl:=zj h;exact jLw hn9 ((wL 8 (((rfl:u5.length=u5.length).trans List.length_set.symm):u5.length=(u5.set uc (-1)).length)).trans (Ag []))
 intro ub h;refine sqF h (fun u1=>sT [(0,ai bA),(1,ai bB),(7,oS 0 1 y4.length),(8,oI 2 1 u1.length)] [(oi 0 1,.mat 81 (oi 1 1) .int y4),(oi 1 1,.pool 3 .int y4),(oi 2 1,.arr 3 .int u1)]) ?_ ?_
 ·intro _ h;refine Ae (Ad (lpF h (fun (u8,u6)=>sT [(0,ai bA),(1,ai bB),(7,oS 0 1 y4.length),(8,oI 2 1 u6.length),(32,oS 0 1 y4.length),(33,an y4.length),(34,an u8)] [(oi 0 1,.mat 81 (oi 1 1) .int y4),(oi 1 1,.pool 3 .int y4),(oi 2 1,.arr 3 .int u6)]) (Ag []) ?_));rintro n_ ⟨u8,u6⟩ c_ h hn19;refine Ae (Ab (kQ h (fun _ h=>skW (Ab (Ad (Ab (Aa 8 (rsT 1 ?_)))))) fun _ h=>lxT (have h:=jO h hn19;jE [])));obtain ⟨x25,e25,h⟩:=Ah h;refine zO (oi 0 1) sI y4.length (Ai e25) (rsl (.own (kid (oi 1 1) u8) .int 0 x25.length) (Ec (o:=oi 0 1) (p:=oi 1 1) (e1:=81) (u:=.int) (xss:=y4) (row:=x25) (j:=u8) kr kr e25) (rsT 2 (rnW (Aa 14 (rsT 2 (rcG h [.own (kid (oi 1 1) u8) .int 0 x25.length] Rv (Al (C2 (e:=3) (u:=.int) (xs:=x25) (Be kr e25) rfl) Bz) fun y26 h=>rsT 1 ?_))))));obtain ⟨x27,f27,h⟩:=Ah h;obtain ⟨p27,b27,e27⟩:=Ax f27;refine rs0 (.elt (oi 2 1) y26.toNat 0) (zo (t:=.int) (o:=oi 2 1) (len:=u6.length) (k:=.i64) (m:=y26) p27 (Ai e27)) (zS (oi 2 1) ((u8:Int)) e27 (Ap (bn_ (tn_ (wr_ (Aa 16 (raH h fun h=>rsT 1 (Ap (tn_ ?_)))))))));obtain rfl:=zj h;exact jLw hn19 ((wL 8 (((rfl:u6.length=u6.length).trans List.length_set.symm):u6.length=(u6.set y26.toNat (u8:Int)).length)).trans (Ag []))
 intro u1 h;refine Ae (sqF h (fun u9=>sT [(0,ai bA),(1,ai bB),(12,oS 0 1 u9.length)] [(oi 0 1,.mat 81 (oi 1 1) .int u9),(oi 1 1,.pool 3 .int u9)]) ?_ fun u9 h=>Ab (Aa 7 (rsT 3 (rcM h [] [ai bA,ai bB,oS 0 1 u9.length] Ie trivial (.cons (.ren kr) (.cons (.ren kr) (.cons (.gnd kr (F6 (p:=oi 1 1) (e1:=81) (e:=3) (u:=.int) (xss:=u9) ((E0 kr kr kr).trans kr) (H8 kr kr (Br kr) kr) rfl)) .nil))) (Ar kr kr trivial) fun y62 h=>rsT 1 (rnW (Ac (by obtain rfl:=osj h;exact Cz [oS 0 1 y62.length] (Ag (tl:=[(6,oS 0 1 y62.length)]) (g:=2) [(oi 0 1,oi 1408 5),(oi 1 1,oi 1409 5)]))))))));intro _ h;refine Ae (Ad (lpF h (fun (u2,u0)=>sT [(0,ai bA),(1,ai bB),(7,oS 0 1 y4.length),(8,oI 2 1 u1.length),(12,oS 3 1 u0.length),(13,an u2)] [(oi 0 1,.mat 81 (oi 1 1) .int y4),(oi 1 1,.pool 3 .int y4),(oi 2 1,.arr 3 .int u1),(oi 3 1,.mat 81 (oi 4 1) .int u0),(oi 4 1,.pool 3 .int u0)]) ((Lz 12 81 sI kr).trans ((Dk (e1:=81) (n:=0) 9000 (oi 12 4) 3 .int kr kr rfl kr kr).trans (Ag [(oi 3 1,oi 12 4),(oi 4 1,oi 9000 5)]))) ?_));rintro n_ ⟨u2,u0⟩ c_ h hn32;refine Ab (Ae (kQ h (fun _ h=>skW (sqF h (fun ua=>sT [(0,ai bA),(1,ai bB),(7,oS 0 1 y4.length),(8,oI 2 1 u1.length),(12,oS 3 1 ua.length),(13,an u2)] [(oi 0 1,.mat 81 (oi 1 1) .int y4),(oi 1 1,.pool 3 .int y4),(oi 2 1,.arr 3 .int u1),(oi 3 1,.mat 81 (oi 4 1) .int ua),(oi 4 1,.pool 3 .int ua)]) ?_ fun ua h=>Aa 5 (rsT 1 (raH h fun h=>rsT 1 (Ap (tn_ (jL []))))))) fun _ h=>lxT (have h:=jO h hn32;jE [(oi 0 1,oi 3 1),(oi 1 1,oi 4 1)])));intro _ h;refine Ad (Ab (Ab (Aa 10 (rsT 2 ?_))));obtain ⟨x39,e39,h⟩:=Ah h;refine zO (oi 2 1) .int u1.length (Ai e39) (zE (oi 2 1) e39 (rsT 1 (rnW (kQ h (fun _ h=>D2 (te_ (be_ (tn_ (jE []))))) fun _ h=>skW (Ab (Aa 13 (rsT 1 ?_)))))));obtain ⟨g42,h⟩:=Ak h;refine rs1 (oI 56 11 bB.toNat) (oi 56 11) (.arr 3 .int (List.replicate bB.toNat (0:Int))) (N3 (t:=.int) (k:=.i64) (k':=.i64) (m:=bB) (m':=bB) kr kr g42 rfl) (rsT 1 (rnW (Ab (Aa 17 (rsT 2 ?_)))));obtain ⟨x44,e44,h⟩:=Ah h;refine rs0 (.elt (oi 56 11) u2 0) (zo (t:=.int) (o:=oi 56 11) (len:=bB.toNat) (k:=.i64) (m:=(u2:Int)) (C1 _) (Nat.lt_of_lt_of_le (Ai e44) (Nat.le_of_eq (Eq.symm List.length_replicate.symm)))) (zS (oi 56 11) (1) e44 (rnW (sqF h (fun u4=>sT [(0,ai bA),(1,ai bB),(7,oS 0 1 y4.length),(8,oI 2 1 u1.length),(12,oS 3 1 u0.length),(13,an u2),(14,oI 5 1 u4.length)] [(oi 0 1,.mat 81 (oi 1 1) .int y4),(oi 1 1,.pool 3 .int y4),(oi 2 1,.arr 3 .int u1),(oi 3 1,.mat 81 (oi 4 1) .int u0),(oi 4 1,.pool 3 .int u0),(oi 5 1,.arr 3 .int u4)]) ?_ ?_)))
 ·intro _ h;refine Ae (Ad (lpF h (fun (u3,u7)=>sT [(0,ai bA),(1,ai bB),(7,oS 0 1 y4.length),(8,oI 2 1 u1.length),(12,oS 3 1 u0.length),(13,an u2),(14,oI 5 1 u7.length),(60,oS 0 1 y4.length),(61,an y4.length),(62,an u3)] [(oi 0 1,.mat 81 (oi 1 1) .int y4),(oi 1 1,.pool 3 .int y4),(oi 2 1,.arr 3 .int u1),(oi 3 1,.mat 81 (oi 4 1) .int u0),(oi 4 1,.pool 3 .int u0),(oi 5 1,.arr 3 .int u7)]) ((wL 14 ((List.length_replicate.symm.trans List.length_set.symm):bB.toNat=((List.replicate bB.toNat (0:Int)).set u2 1).length)).trans (Ag [(oi 5 1,oi 56 11)])) ?_));rintro n_ ⟨u3,u7⟩ c_ h hn47;refine Ae (Ab (kQ h (fun _ h=>skW (Ab (Ad (Ab (Aa 8 (rsT 1 ?_)))))) fun _ h=>lxT (have h:=jO h hn47;jE [])));obtain ⟨x53,e53,h⟩:=Ah h;refine zO (oi 0 1) sI y4.length (Ai e53) (rsl (.own (kid (oi 1 1) u3) .int 0 x53.length) (Ec (o:=oi 0 1) (p:=oi 1 1) (e1:=81) (u:=.int) (xss:=y4) (row:=x53) (j:=u3) kr kr e53) (rsT 2 (rnW (An 22 (dsT 3 (dzO (oi 0 1) sI y4.length (Ai e53) (dsl (.own (kid (oi 1 1) u3) .int 0 x53.length) (Ec (o:=oi 0 1) (p:=oi 1 1) (e1:=81) (u:=.int) (xss:=y4) (row:=x53) (j:=u3) kr kr e53) (dcG h [.own (kid (oi 1 1) u3) .int 0 x53.length] Rv (Al (C2 (e:=3) (u:=.int) (xs:=x53) ((E6 (Pz (t:=.int) (off:=0) (len:=x53.length) 0 rfl kr)).trans (Be kr e53)) rfl) Bz) fun y54 h=>dz0 (ai bA) (dz0 (.own (kid (oi 1 1) u3) .int 0 x53.length) (dz0 (an u2) ?_))))))))));obtain ⟨x55,e55,h⟩:=Ah h;refine ds0 (.elt (kid (oi 1 1) u3) u2 0) (zo (t:=.int) (o:=kid (oi 1 1) u3) (len:=x53.length) (k:=.i64) (m:=(u2:Int)) (C1 _) (Ai e55)) (dsl (ai x55) (Hw (i:=kid (oi 1 1) u3) (j:=u2) (k:=0) (e:=3) (t:=.int) (xs:=x53) kr (Z5.trans (Be kr e53)) e55 kr) (dcH h Pm fun y56 h=>?_));obtain ⟨x57,f57,h⟩:=Ah h;obtain ⟨p57,b57,e57⟩:=Ax f57;refine ds0 (.elt (oi 5 1) y54.toNat 0) (zo (t:=.int) (o:=oi 5 1) (len:=u7.length) (k:=.i64) (m:=y54) p57 (Ai e57)) (dzS (oi 5 1) (y56) e57 (Ct (As kr) (bn_ (tn_ (wr_ (Aa 24 (raH h fun h=>rsT 1 (Ap (tn_ ?_)))))))));obtain rfl:=zj h;exact jLw hn47 ((wL 14 (((rfl:u7.length=u7.length).trans List.length_set.symm):u7.length=(u7.set y54.toNat y56).length)).trans (Ag []))
 intro u4 h;refine Aa 7 (rsT 2 (Lu (oS 83 4 1) (oi 83 4) (.vec 81 1 1 ([oI 5 1 u4.length])) trivial (Ej kr) ?_));obtain ⟨g59,h⟩:=Ak h;refine zV (oi 3 1) (oi 83 4) (oi 4 1) u0 [oI 5 1 u4.length] g59 (rsT 1 (Ap (bn_ (tn_ ?_))));obtain rfl:=zj h;exact (D3 (e1:=81) (e:=3) (u:=.int) (n:=u0.length+1) (len:=u4.length) (row:=u4) (ys:=u4) (xss:=u0) 9000 (oi 3 5) (oi 4 1) (oi 5 1) kr kr rfl kr kr (M6 rfl) (M2 rfl) kr kr kr).trans ((wL 12 ((by simp):u0.length+1=(u0++[u4]).length)).trans (Ag [(oi 3 1,oi 3 5),(oi 4 1,oi 9000 7)]))
def Ju (x12 a3:List Int) (u2:Nat) (a0:Int) (u0:Nat) (u1:List Int):Option (Ctl (Nat×List Int) (List Int)) :=
 cond (decide ((u0:Int)<(x12.length:Int)))
 ((x12[u0]?).bind fun x20 =>
 (u1[u0]?).bind fun x21 =>
 (a3[u2]?).bind fun x22 =>
 og (a0≠0) <|
 og (u0+1<4611686018427387904) <|
 some (Ctl.next (u0+1,u1.set u0 (Int.tmod (wI (x21+wI (x22*x20))) a0))))
 (some (Ctl.out u1))
def Js (a2:LL) (a3:List Int) (a0:Int) (u0:Nat) (u1:List Int):Option (Ctl (Nat×List Int) (List Int)) :=
 cond (decide ((u0:Int)<(a2.length:Int)))
 (((a2[u0]?).bind fun x12 =>
  Aq (fun s_:Nat×List Int=>Ju x12 a3 u0 a0 s_.1 s_.2) 4611686018427387904 (0,u1)).bind fun u2 =>
 og (u0+1<4611686018427387904) <|
 some (Ctl.next (u0+1,u2)))
 (some (Ctl.out u1))
def Kt (a0 a1:Int) (a2:LL) (a3:List Int):Option (List Int) :=
 og (0<=a1/\a1<=a1/\a1<=1073741824/\(8:Int)*a1<=140737488355328) <|
(Aq (fun s_:Nat×List Int=>Js a2 a3 a0 s_.1 s_.2) 4611686018427387904 (0,List.replicate a1.toNat (0:Int))).bind fun u0 =>
some u0
theorem T3 (h:Kt bA bB dA aA=some aB):cK 101 [ai bA,ai bB,tS dA,tI aA] (B1 aB):=by
 refine cO Tryz.func101 (Ae (Ab (Aa 5 (rsT 1 ?_))));obtain ⟨g3,h⟩:=Ak h;refine rs1 (oI 15 3 bB.toNat) (oi 15 3) (.arr 3 .int (List.replicate bB.toNat (0:Int))) (N3 (t:=.int) (k:=.i64) (k':=.i64) (m:=bB) (m':=bB) kr kr g3 rfl) (rsT 1 (rnW (sqF h (fun u3=>sT [(9,oI 0 1 u3.length)] [(oi 0 1,.arr 3 .int u3)]) ?_ fun u3 h=>Ae (Ac (jR h [oI 0 1 u3.length] (F1 rfl (Dc kr rfl) Fc))))));intro _ h;refine Ae (Ad (lpF h (fun (u1,u4)=>sT [(0,ai bA),(3,tI aA),(9,oI 0 1 u4.length),(16,tS dA),(17,an dA.length),(18,an u1)] [(oi 0 1,.arr 3 .int u4)]) ((wL 9 (List.length_replicate.symm:bB.toNat=(List.replicate bB.toNat (0:Int)).length)).trans (Ag [(oi 0 1,oi 15 3)])) ?_));rintro n_ ⟨u1,u4⟩ c_ h hn6;refine Ae (Ab (kQ h (fun _ h=>skW (sqF h (fun u5=>sT [(0,ai bA),(3,tI aA),(9,oI 0 1 u5.length),(16,tS dA),(17,an dA.length),(18,an u1)] [(oi 0 1,.arr 3 .int u5)]) ?_ fun u5 h=>Aa 4 (raH h fun h=>rsT 1 (Ap (tn_ (jL [])))))) fun _ h=>lxT (have h:=jO h hn6;jE [])));intro _ h;refine Ad (Ab (Aa 8 (rsT 1 (riH sI h fun x12 _ h=>rsT 3 (rnW (Ae (Ad (lpF h (fun (u2,u0)=>sT [(0,ai bA),(3,tI aA),(9,oI 0 1 u0.length),(10,an u1),(16,tS dA),(17,an dA.length),(18,an u1),(23,tI x12),(24,an x12.length),(25,an u2)] [(oi 0 1,.arr 3 .int u0)]) (Ag []) ?_))))))));rintro n_ ⟨u2,u0⟩ c_ h hn14;refine Ae (Ab (kQ h (fun _ h=>skW (Ab (Ad (Ab (Aa 8 (rsT 1 (riH .int h fun x20 _ h=>rsT 3 (rnW (An 25 (dz0 (oI 0 1 u0.length) (dz0 (an u2) (dz0 (oI 0 1 u0.length) (dz0 (an u2) ?_))))))))))))) fun _ h=>D2 (te_ (te_ (be_ (bn_ (tn_ (have h:=jO h hn14;jE []))))))));obtain ⟨x21,e21,h⟩:=Ah h;refine dzO (oi 0 1) .int u0.length (Ai e21) (dzE (oi 0 1) e21 (dz0 (tI aA) (dz0 (an u1) (diH .int h fun x22 _ h=>dsT 5 ?_))));obtain ⟨g23,h⟩:=Ak h;refine ds0 (ai (Int.tmod (wI (x21+wI (x22*x20))) bA)) (O0 (k:=.i64) (a:=wI (x21+wI (x22*x20))) (b:=bA) kr kr g23) (dzO (oi 0 1) .int u0.length (Ai e21) (dzS (oi 0 1) (Int.tmod (wI (x21+wI (x22*x20))) bA) e21 (Ct (As kr) (bn_ (tn_ (wr_ (Aa 27 (raH h fun h=>rsT 1 (Ap (tn_ ?_))))))))));obtain rfl:=zj h;exact jLw hn14 ((wL 9 (((rfl:u0.length=u0.length).trans List.length_set.symm):u0.length=(u0.set u2 (Int.tmod (wI (x21+wI (x22*x20))) bA)).length)).trans (Ag []))
def Km (a0 a1 a2:Int) (a3:LL):Option (Int×Int×LL) :=
 (D7 a0 (wI (a1+a2)) a3).bind fun y3 =>
some (a1,a2,y3)
def Iy (r:Int×Int×LL):RV:=⟨false,[(true,[.sc (.int .i64 r.1),.sc (.int .i64 r.2.1),.frz (tS r.2.2)])]⟩
theorem Q9 (h:Km bA bB bC dA=some pA):cK 103 [ai bA,ai bB,ai bC,tS dA] (Iy pA):=by
 exact cZ Tryz.func103 fun zn_ nz_ hz_=>Ae (Ab (Aa 12 (rsT 7 (rcM h [] [ai bA,ai (wI (bB+bC)),tS dA] (fun h=>Aj6 (Ie h)) trivial (aR kr) (Ar kr kr trivial) fun y3 h=>rsB 2 (rnW (Ac (jZ h [(true,[ai bB,ai bC,oS 256 9 y3.length])] (Gq (Az Cq (Az Cq (Az (B2 (.mat (p:=oi 257 9) (e1:=81) (e:=3) kr (Br kr) rfl)) Gk))) Dm))))))))
def Fo (u3:LL) (u1:Nat) (u4:Int) (u0:Nat) (u2:LL):Option (Ctl (Nat×LL) (LL)) :=
 cond (decide ((u0:Int)<(u3.length:Int)))
 ((u3[u0]?).bind fun x21 =>
 (u2[u1]?).bind fun x22 =>
 (Cl x21 (wI (u4+(u1:Int)))).bind fun x23 =>
 og (x22.length+1<=1073741824/\(x22.length+1)*8<=140737488355328) <|
 og (u0+1<4611686018427387904) <|
 some (Ctl.next (u0+1,u2.set u1 (x22++([x23])))))
 (some (Ctl.out u2))
def Fk (u3:LL) (u1:Nat) (a0:Int) (u0:Nat) (u2:LL):Option (Ctl (Nat×LL) (LL)) :=
 cond (decide ((u0:Int)<(u3.length:Int)))
 ((u3[u0]?).bind fun x33 =>
 (u2[u1]?).bind fun x34 =>
 (x33[u1]?).bind fun x35 =>
 (E7 a0 x35).bind fun y36 =>
 og (x34.length+1<=1073741824/\(x34.length+1)*8<=140737488355328) <|
 og (u0+1<4611686018427387904) <|
 some (Ctl.next (u0+1,u2.set u1 (x34++([y36])))))
 (some (Ctl.out u2))
def I7 (u2:Int) (u3:LL) (u4:Int) (u5:LL) (a0:Int) (u0:Nat) (u1:LL):Option (Ctl (Nat×LL) (LL)) :=
 cond (decide ((u0:Int)<(u2.toNat:Int)))
 (((Aq (fun s_:Nat×LL=>Fo u3 u0 u4 s_.1 s_.2) 4611686018427387904 (0,u1)).bind fun u6 =>
  Aq (fun s_:Nat×LL=>Fk u5 u0 a0 s_.1 s_.2) 4611686018427387904 (0,u6)).bind fun u7 =>
 og (u0+1<4611686018427387904) <|
 some (Ctl.next (u0+1,u7)))
 (some (Ctl.out u1))
def I4 (y43 u1:LL) (a0 u2:Int) (u0 u5:Int) (u6:LL) (u3:Nat) (u4:LL):Option (Ctl (Nat×LL) (LL)) :=
 cond (decide ((u3:Int)<(y43.length:Int)))
 ((y43[u3]?).bind fun x50 =>
 og ((0:Int)<=0/\0<=(u1.length:Int)/\(u1.length:Int)<=(x50.length:Int)) <|
 (Kt a0 (wI (u2+u0)) u1 (x50.take u1.length)).bind fun y53 =>
 og ((0:Int)<=(u1.length:Int)/\(u1.length:Int)<=(x50.length:Int)/\(x50.length:Int)<=(x50.length:Int)) <|
 (Kt a0 (wI (u0+u5)) u6 (x50.drop u1.length)).bind fun y56 =>
 og ((0:Int)<=0/\0<=u2/\u2<=(y53.length:Int)) <|
 (Gn (y53.take u2.toNat)).bind fun y58 =>
 og ((0:Int)<=u0/\u0<=(y56.length:Int)/\(y56.length:Int)<=(y56.length:Int)) <|
 og (y58.length+(((y56.drop u0.toNat).take (((y56.length:Int) - u0).toNat)).length)<=1073741824/\(y58.length+(((y56.drop u0.toNat).take (((y56.length:Int) - u0).toNat)).length))*8<=140737488355328) <|
 og (u4.length+1<=1073741824/\(u4.length+1)*24<=140737488355328) <|
 og (u3+1<4611686018427387904) <|
 some (Ctl.next (u3+1,u4++[y58++((y56.drop u0.toNat).take (((y56.length:Int) - u0).toNat))])))
 (some (Ctl.out u4))
def F7 (a0 u1 u0:Int) (u2:LL) (u7 u4:Int) (u3:LL):Option (Int×Int×LL) :=
 og (0<=u0/\u0<=u0/\u0<=1073741824/\(24:Int)*u0<=140737488355328) <|
(Aq (fun s_:Nat×LL=>I7 u0 u2 u1 u3 a0 s_.1 s_.2) 4611686018427387904 (0,List.replicate u0.toNat ([]:List Int))).bind fun u5 =>
((Jm a0 (wI ((u2.length:Int)+(u3.length:Int))) u5).bind fun y43 =>
 Aq (fun s_:Nat×LL=>I4 y43 u2 a0 u1 u0 u4 u3 s_.1 s_.2) 4611686018427387904 (0,([]:LL))).bind fun u6 =>
(Km a0 u1 u4 u6).bind fun y64 =>
some (y64.1,y64.2.1,y64.2.2)
theorem V4 (h:F7 bA bB bC dA bD bE dB=some pA):cK 56 [ai bA,.agg [ai bB,ai bC,tS dA],.agg [ai bD,ai bE,tS dB]] (Iy pA):=by
 refine cZ Tryz.func56 fun zn_ nz_ hz_=>Ae (Ae (Ab (Aa 10 (rsT 1 ?_))))
 obtain ⟨g4,h⟩:=Ak h;refine Agi (oS 352 8 bC.toNat) (oi 352 8) 81 3 .int (List.replicate bC.toNat ([]:List Int)) trivial (Zj (j:=bC.toNat) (k:=.i64) (k':=.i64) (m:=bC) (c:=bC) 3 kr kr g4 kr rfl) kr (by rw [List.length_replicate]) kr (rsT 1 (rnW (sqF h (fun ub=>sT [(0,ai bA),(4,.box (oi 0 1) 0),(5,.box (oi 1 1) 0),(6,.box (oi 2 1) 0),(7,ai bC),(8,oS 3 1 ub.length)] [(oi 0 1,.cells 30 [ai bB,ai bC,tS dA]),(oi 1 1,.cells 30 [ai bD,ai bE,tS dB]),(oi 2 1,.cells 30 [ai 0,ai 0,.nils]),(oi 3 1,.mat 81 (oi 4 1) .int ub),(oi 4 1,.pool 3 .int ub)]) ?_ ?_)))
 ·intro _ h;refine Ae (Ad (lpF h (fun (u1,ud)=>sT [(0,ai bA),(4,.box (oi 0 1) 0),(5,.box (oi 1 1) 0),(6,.box (oi 2 1) 0),(7,ai bC),(8,oS 3 1 ud.length),(24,an bC.toNat),(25,an u1)] [(oi 0 1,.cells 30 [ai bB,ai bC,tS dA]),(oi 1 1,.cells 30 [ai bD,ai bE,tS dB]),(oi 2 1,.cells 30 [ai 0,ai 0,.nils]),(oi 3 1,.mat 81 (oi 4 1) .int ud),(oi 4 1,.pool 3 .int ud)]) ((wL 8 (List.length_replicate.symm:bC.toNat=(List.replicate bC.toNat ([]:List Int)).length)).trans (Ag [(oi 0 1,oi 4 1),(oi 1 1,oi 5 2),(oi 2 1,oi 6 3),(oi 3 1,oi 352 8),(oi 4 1,oi 352 8)])) ?_));rintro n_ ⟨u1,ud⟩ c_ h hn7
  (try dsimp only at h);refine Ae (Ab (kQ h (fun q10 h=>?_) fun q10 h=>?_))
  ·have q10_:=of_decide_eq_true q10;refine skW (sqF h (fun ue=>sT [(0,ai bA),(4,.box (oi 0 1) 0),(5,.box (oi 1 1) 0),(6,.box (oi 2 1) 0),(7,ai bC),(8,oS 3 1 ue.length),(24,an bC.toNat),(25,an u1)] [(oi 0 1,.cells 30 [ai bB,ai bC,tS dA]),(oi 1 1,.cells 30 [ai bD,ai bE,tS dB]),(oi 2 1,.cells 30 [ai 0,ai 0,.nils]),(oi 3 1,.mat 81 (oi 4 1) .int ue),(oi 4 1,.pool 3 .int ue)]) ?_ ?_)
   ·intro _ h;refine Ad (Ae (sqF h (fun uf=>sT [(0,ai bA),(4,.box (oi 0 1) 0),(5,.box (oi 1 1) 0),(6,.box (oi 2 1) 0),(7,ai bC),(8,oS 3 1 uf.length),(9,an u1),(24,an bC.toNat),(25,an u1)] [(oi 0 1,.cells 30 [ai bB,ai bC,tS dA]),(oi 1 1,.cells 30 [ai bD,ai bE,tS dB]),(oi 2 1,.cells 30 [ai 0,ai 0,.nils]),(oi 3 1,.mat 81 (oi 4 1) .int uf),(oi 4 1,.pool 3 .int uf)]) ?_ ?_))
    ·intro _ h;refine Ae (Ad (lpF h (fun (ug,u4)=>sT [(0,ai bA),(4,.box (oi 0 1) 0),(5,.box (oi 1 1) 0),(6,.box (oi 2 1) 0),(7,ai bC),(8,oS 3 1 u4.length),(9,an u1),(24,an bC.toNat),(25,an u1),(29,tS dA),(30,an dA.length),(31,an ug)] [(oi 0 1,.cells 30 [ai bB,ai bC,tS dA]),(oi 1 1,.cells 30 [ai bD,ai bE,tS dB]),(oi 2 1,.cells 30 [ai 0,ai 0,.nils]),(oi 3 1,.mat 81 (oi 4 1) .int u4),(oi 4 1,.pool 3 .int u4)]) (Ag []) ?_));rintro n_ ⟨ug,u4⟩ c_ h hn15
     (try dsimp only at h);refine Ae (Ab (kQ h (fun q18 h=>?_) fun q18 h=>?_))
     ·have q18_:=of_decide_eq_true q18;refine skW (Ab (Ad (Ab (Aa 6 (riH sI h fun x21 _ h=>rsT 2 (rnW (An 23 (dz0 (oS 3 1 u4.length) (dz0 (an u1) (dz0 (oS 3 1 u4.length) (dz0 (an u1) ?_)))))))))));obtain ⟨x22,e22,h⟩:=Ah h;refine dzO (oi 3 1) sI u4.length (Ai e22) (dsl (.own (kid (oi 4 1) u1) .int 0 x22.length) (Ec (o:=oi 3 1) (p:=oi 4 1) (e1:=81) (u:=.int) (xss:=u4) (row:=x22) (j:=u1) kr kr e22) (dsT 5 ?_));obtain ⟨x23,f23,h⟩:=Ah h;obtain ⟨p23,b23,e23⟩:=Ax f23;refine ds0 (.telt none .int x23 0) (zi (t:=.int) (xs:=x21) (k:=.i64) (m:=wI (bB+(u1:Int))) p23 e23) (dz0 (ai x23) (ds1 (oI 48 19 1) (oi 48 19) (.arr 3 .int ([x23])) kr ?_));obtain ⟨g24,h⟩:=Ak h;refine ds2 (.own (kid (oi 4 20) u1) .int 0 ((x22++([x23])).length)) (kid (oi 4 1) u1) (kid (oi 4 20) u1) (.arr 3 .int (x22++([x23]))) (Nh (t:=.int) (t':=.int) (xs:=x22) (ys:=[x23]) (zs:=x22++([x23])) (j:=kid (oi 4 1) u1) (len:=x22.length) (c:=oI 48 19 1) kr ((E6 (L:=[kid (oi 4 1) u1,oi 48 19]) List.mem_cons_self).trans (Be kr e22)) rfl kr (I2 (e:=3) kr rfl) rfl g24) (dzO (oi 3 1) sI u4.length (Ai e22) (M9 (oi 3 1) (oi 3 1) (.vec 81 1 u4.length ((hdL (oi 4 1) .int u4).set u1 (.own (kid (oi 4 20) u1) .int 0 ((x22++([x23])).length)))) (Aal (o:=oi 3 1) (e1:=81) (m:=u4.length) (cs:=hdL (oi 4 1) .int u4) (v:=.own (kid (oi 4 20) u1) .int 0 ((x22++([x23])).length)) (j:=u1) kr kr kr rfl (by rw [C8];exact Ai e22)) (Ct (As kr) (bn_ (tn_ ⟨_,Aao (e1:=81) (e:=3) (u:=.int) (n:=u4.length) (len:=(x22++([x23])).length) (row:=x22++([x23])) (ys:=x22++([x23])) (xss:=u4) (j:=u1) 9000 (oi 3 1) (oi 4 1) (kid (oi 4 20) u1) kr kr rfl kr (by repeat first|exact Ahf|refine entAt_sk rfl ?_) (M6 rfl) (M2 rfl) kr kr kr,?_⟩)))));refine Aa 26 ?_;obtain ⟨g25,h⟩:=Ak h;refine zA g25 (rsT 1 (Ap (tn_ ?_)));obtain rfl:=zj h;exact jLw hn15 ((wL 8 ((Eq.trans (b:=u4.length) rfl List.length_set.symm):u4.length=(u4.set u1 (x22++([x23]))).length)).trans (Ag [(oi 4 1,oi 9000 23)]))
     have q18_:=of_decide_eq_false q18;refine lxT ?_;have h:=jO h hn15
     (try dsimp only at h);exact jE []
    intro uf h
    (try dsimp only at h);refine Ae (Ad (lpF h (fun (uh,u5)=>sT [(0,ai bA),(4,.box (oi 0 1) 0),(5,.box (oi 1 1) 0),(6,.box (oi 2 1) 0),(7,ai bC),(8,oS 3 1 u5.length),(9,an u1),(24,an bC.toNat),(25,an u1),(53,tS dB),(54,an dB.length),(55,an uh)] [(oi 0 1,.cells 30 [ai bB,ai bC,tS dA]),(oi 1 1,.cells 30 [ai bD,ai bE,tS dB]),(oi 2 1,.cells 30 [ai 0,ai 0,.nils]),(oi 3 1,.mat 81 (oi 4 1) .int u5),(oi 4 1,.pool 3 .int u5)]) (Ag []) ?_));rintro n_ ⟨uh,u5⟩ c_ h hn27
    (try dsimp only at h);refine Ae (Ab (kQ h (fun q30 h=>?_) fun q30 h=>?_))
    ·have q30_:=of_decide_eq_true q30;refine skW (Ab (Ad (Ab (Aa 6 (riH sI h fun x33 _ h=>rsT 2 (rnW (An 22 (dsT 4 ?_))))))));obtain ⟨x34,e34,h⟩:=Ah h;refine dzO (oi 3 1) sI u5.length (Ai e34) (dsl (.own (kid (oi 4 1) u1) .int 0 x34.length) (Ec (o:=oi 3 1) (p:=oi 4 1) (e1:=81) (u:=.int) (xss:=u5) (row:=x34) (j:=u1) kr kr e34) (dz0 (ai bA) (dz0 (tI x33) (dz0 (an u1) (diH .int h fun x35 _ h=>dz0 (ai x35) (dcH h (fun h=>Oc (Pm h)) fun y36 h=>ds1 (oI 71 18 1) (oi 71 18) (.arr 3 .int ([y36])) kr ?_))))));obtain ⟨g37,h⟩:=Ak h;refine ds2 (.own (kid (oi 4 19) u1) .int 0 ((x34++([y36])).length)) (kid (oi 4 1) u1) (kid (oi 4 19) u1) (.arr 3 .int (x34++([y36]))) (Nh (t:=.int) (t':=.int) (xs:=x34) (ys:=[y36]) (zs:=x34++([y36])) (j:=kid (oi 4 1) u1) (len:=x34.length) (c:=oI 71 18 1) kr ((E6 (L:=[kid (oi 4 1) u1,oi 71 18]) List.mem_cons_self).trans (Be kr e34)) rfl kr (I2 (e:=3) kr rfl) rfl g37) (dzO (oi 3 1) sI u5.length (Ai e34) (M9 (oi 3 1) (oi 3 1) (.vec 81 1 u5.length ((hdL (oi 4 1) .int u5).set u1 (.own (kid (oi 4 19) u1) .int 0 ((x34++([y36])).length)))) (Aal (o:=oi 3 1) (e1:=81) (m:=u5.length) (cs:=hdL (oi 4 1) .int u5) (v:=.own (kid (oi 4 19) u1) .int 0 ((x34++([y36])).length)) (j:=u1) kr kr kr rfl (by rw [C8];exact Ai e34)) (Ct (As kr) (bn_ (tn_ ⟨_,Aao (e1:=81) (e:=3) (u:=.int) (n:=u5.length) (len:=(x34++([y36])).length) (row:=x34++([y36])) (ys:=x34++([y36])) (xss:=u5) (j:=u1) 9000 (oi 3 1) (oi 4 1) (kid (oi 4 19) u1) kr kr rfl kr (by repeat first|exact Ahf|refine entAt_sk rfl ?_) (M6 rfl) (M2 rfl) kr kr kr,?_⟩)))));refine Aa 25 ?_;obtain ⟨g38,h⟩:=Ak h;refine zA g38 (rsT 1 (Ap (tn_ ?_)));obtain rfl:=zj h;exact jLw hn27 ((wL 8 ((Eq.trans (b:=u5.length) rfl List.length_set.symm):u5.length=(u5.set u1 (x34++([y36]))).length)).trans (Ag [(oi 4 1,oi 9000 22)]))
    have q30_:=of_decide_eq_false q30;refine D2 (te_ (te_ (be_ (bn_ (tn_ ?_)))));have h:=jO h hn27
    (try dsimp only at h);exact jE []
   intro ue h
   (try dsimp only at h);refine Aa 4 ?_;obtain ⟨g39,h⟩:=Ak h;exact zA g39 (rsT 1 (Ap (tn_ (jL []))))
  have q10_:=of_decide_eq_false q10;refine lxT ?_;have h:=jO h hn7
  (try dsimp only at h);exact jE []
 intro ub h
 (try dsimp only at h);refine Ae (sqF h (fun uc=>sT [(0,ai bA),(4,.box (oi 0 1) 0),(5,.box (oi 1 1) 0),(6,.box (oi 2 1) 0),(14,oS 3 1 uc.length)] [(oi 0 1,.cells 30 [ai bB,ai bC,tS dA]),(oi 1 1,.cells 30 [ai bD,ai bE,tS dB]),(oi 2 1,.cells 30 [ai 0,ai 0,.nils]),(oi 3 1,.mat 81 (oi 4 1) .int uc),(oi 4 1,.pool 3 .int uc)]) ?_ ?_)
 ·intro _ h;refine Ab (Aa 15 (rsT 9 (rcM h [] [ai bA,ai (wI ((dA.length:Int)+(dB.length:Int))),oS 3 1 ub.length] (fun h=>Aj6 (Sk h)) trivial (.cons (.ren kr) (.cons (.ren kr) (.cons (.gnd kr (F6 (p:=oi 4 1) (e1:=81) (e:=3) (u:=.int) (xss:=ub) ((E0 kr kr kr).trans kr) (H8 kr kr (Br kr) kr) rfl)) .nil))) (Ar kr kr trivial) fun y43 h=>rsT 2 (rnW (Ad (lpF h (fun (u9,ua)=>sT [(0,ai bA),(4,.box (oi 0 1) 0),(5,.box (oi 1 1) 0),(6,.box (oi 2 1) 0),(7,ai bC),(14,oS 3 1 ua.length),(85,oS 5 1 y43.length),(86,an y43.length),(87,an u9)] [(oi 0 1,.cells 30 [ai bB,ai bC,tS dA]),(oi 1 1,.cells 30 [ai bD,ai bE,tS dB]),(oi 2 1,.cells 30 [ai 0,ai 0,.nils]),(oi 3 1,.mat 81 (oi 4 1) .int ua),(oi 4 1,.pool 3 .int ua),(oi 5 1,.mat 81 (oi 6 1) .int y43),(oi 6 1,.pool 3 .int y43)]) ((Lz 14 81 sI kr).trans ((Dk (e1:=81) (n:=0) 9000 (oi 14 15) 3 .int kr kr rfl kr kr).trans (Ag [(oi 3 1,oi 14 15),(oi 4 1,oi 9000 16),(oi 5 1,oi 1360 12),(oi 6 1,oi 1361 12)]))) ?_))))));rintro n_ ⟨u9,ua⟩ c_ h hn44
  (try dsimp only at h);refine Ae (Ab (kQ h (fun q47 h=>?_) fun q47 h=>?_))
  ·have q47_:=of_decide_eq_true q47;refine skW (Ab (Ad (Ab (Aa 6 ?_))));obtain ⟨x50,e50,h⟩:=Ah h;refine zO (oi 5 1) sI y43.length (Ai e50) (rsl (.own (kid (oi 6 1) u9) .int 0 x50.length) (Ec (o:=oi 5 1) (p:=oi 6 1) (e1:=81) (u:=.int) (xss:=y43) (row:=x50) (j:=u9) kr kr e50) (rsT 1 (rnW (Ab (An 20 (dsT 11 ?_))))));obtain ⟨g52,h⟩:=Ak h;obtain ⟨y53,h53,h⟩:=Ah h;refine ds0 (.own (kid (oi 6 1) u9) .int 0 dA.length) (Jj (t:=.int) (i:=kid (oi 6 1) u9) (off:=0) (len:=x50.length) (l:=0) (h:=(dA.length:Int)) kr kr kr rfl g52 rfl oM) (O4 (oI 1648 18 y53.length) [nI 1648 18 y53] [ai bA,ai (wI (bB+bC)),tS dA,.own (kid (oi 6 1) u9) .int 0 dA.length] _ (caps:=[]) (args0:=[ai bA,ai (wI (bB+bC)),tS dA,tI (x50.take dA.length)]) trivial (Al kr (Al kr (Al kr (Al (Afe (e:=3) (u:=.int) (xs:=x50) ((E6 (Pz (t:=.int) (off:=0) (len:=dA.length) 3 rfl kr)).trans (Be kr e50)) oM) Bz)))) (Oc (T3 h53)) kr (dz0 (oI 1648 18 y53.length) (Ct (As kr) (tn_ (wr_ (Ab (An 34 (dsT 11 ?_))))))));obtain ⟨g55,h⟩:=Ak h;obtain ⟨y56,h56,h⟩:=Ah h;refine ds0 (.own (kid (oi 6 1) u9) .int dA.length (x50.length - dA.length)) (Jj (t:=.int) (i:=kid (oi 6 1) u9) (off:=0) (len:=x50.length) (l:=(dA.length:Int)) (h:=(x50.length:Int)) kr kr kr rfl g55 (Nat.zero_add _) oM) (O4 (oI 1856 32 y56.length) [nI 1856 32 y56] [ai bA,ai (wI (bC+bE)),tS dB,.own (kid (oi 6 1) u9) .int dA.length (x50.length - dA.length)] _ (caps:=[]) (args0:=[ai bA,ai (wI (bC+bE)),tS dB,tI (x50.drop dA.length)]) trivial (Al kr (Al kr (Al kr (Al (Aor (e:=3) (u:=.int) (xs:=x50) ((E6 (Pz (t:=.int) (off:=dA.length) (len:=x50.length - dA.length) 3 rfl kr)).trans (Be kr e50)) oM (by rw [List.take_of_length_le (by rw [List.length_drop];omega)])) Bz)))) (Oc (T3 h56)) kr (dz0 (oI 1856 32 y56.length) (Ct (As kr) (tn_ (wr_ (An 47 (dsT 4 ?_)))))));obtain ⟨g57,h⟩:=Ak h;obtain ⟨y58,h58,h⟩:=Ah h;obtain ⟨g59,h⟩:=Ak h;obtain ⟨g60,h⟩:=Ak h;obtain ⟨g61,h⟩:=Ak h;refine ds0 (oI 1648 18 bB.toNat) (Jj (t:=.int) (i:=oi 1648 18) (off:=0) (len:=y53.length) (l:=0) (h:=bB) kr kr kr rfl g57 rfl oM) (O4 (oI 1952 39 y58.length) [nI 1952 39 y58] [oI 1648 18 bB.toNat] _ (caps:=[]) (args0:=[tI (y53.take bB.toNat)]) trivial (Al (Afe (e:=3) kr oM) Bz) (Oc (Mk h58)) kr (dz0 (oI 1856 32 y56.length) (dz0 (ai bC) (ds0 (.own (oi 1856 32) .int bC.toNat (((y56.length:Int) - bC).toNat)) (Jj (t:=.int) (i:=oi 1856 32) (off:=0) (len:=y56.length) (l:=bC) (h:=(y56.length:Int)) kr kr kr rfl g59 (Nat.zero_add _) oM) (ds2 (oI 1952 43 ((y58++((y56.drop bC.toNat).take (((y56.length:Int) - bC).toNat))).length)) (oi 1952 39) (oi 1952 43) (.arr 3 .int (y58++((y56.drop bC.toNat).take (((y56.length:Int) - bC).toNat)))) (Nh (t:=.int) (t':=.int) (xs:=y58) (ys:=(y56.drop bC.toNat).take (((y56.length:Int) - bC).toNat)) (zs:=y58++((y56.drop bC.toNat).take (((y56.length:Int) - bC).toNat))) (j:=oi 1952 39) (len:=y58.length) (c:=.own (oi 1856 32) .int bC.toNat (((y56.length:Int) - bC).toNat)) kr kr rfl kr (Awn (e:=3) (t:=.int) (xs:=y56) kr oM rfl) rfl g60) (Aps (oS 127 44 1) (oi 127 44) (.vec 81 1 1 ([oI 1952 43 ((y58++((y56.drop bC.toNat).take (((y56.length:Int) - bC).toNat))).length)])) trivial (Ej kr) (dzV (oi 3 1) (oi 127 44) (oi 4 1) ua [oI 1952 43 ((y58++((y56.drop bC.toNat).take (((y56.length:Int) - bC).toNat))).length)] g61 (dz0 (oS 3 45 (ua.length+1)) (Ct (As kr) (bn_ (tn_ ⟨_,D3 (e1:=81) (e:=3) (u:=.int) (n:=ua.length+1) (len:=(y58++((y56.drop bC.toNat).take (((y56.length:Int) - bC).toNat))).length) (row:=y58++((y56.drop bC.toNat).take (((y56.length:Int) - bC).toNat))) (ys:=y58++((y56.drop bC.toNat).take (((y56.length:Int) - bC).toNat))) (xss:=ua) 9000 (oi 3 45) (oi 4 1) (oi 1952 43) kr kr rfl kr kr (M6 rfl) (M2 rfl) kr kr kr,Aa 50 ?_⟩)))))))))));obtain ⟨g62,h⟩:=Ak h;refine zA g62 (rsT 1 (Ap (tn_ ?_)));obtain rfl:=zj h;exact jLw hn44 ((wL 14 ((by simp):ua.length+1=(ua++[y58++((y56.drop bC.toNat).take (((y56.length:Int) - bC).toNat))]).length)).trans (Ag [(oi 3 1,oi 3 45),(oi 4 1,oi 9000 47)]))
  have q47_:=of_decide_eq_false q47;refine lxT ?_;have h:=jO h hn44
  (try dsimp only at h);exact jE []
 intro uc h
 (try dsimp only at h);exact Ab (Aa 10 (rsT 6 (rcG h [ai bA,ai bB,ai bE,oS 3 1 uc.length] (fun h=>Jh hz_ (Q9 h)) (Al kr (Al kr (Al kr (Al (F6 (p:=oi 4 1) (e1:=81) (e:=3) (u:=.int) (xss:=uc) kr (Br kr) rfl) Bz)))) fun y64 h=>rsB 1 (rnW (Ac (jZ h [(true,[ai y64.1,ai y64.2.1,.ftr nz_ sI y64.2.2])] (Gq (Az Cq (Az Cq (Az (B2 .ftr) Gk))) Dm)))))))
def Kh (x12:List Int) (u1 u3:Int) (u0:Nat) (u2:List Int):Option (Ctl (Nat×List Int) (List Int)) :=
 cond (decide ((u0:Int)<(x12.length:Int)))
 (((x12[u0]?).bind fun x23 =>
  cond (decide ((u0:Int)<u1))
   ((u2[u0]?).bind fun x26 =>
   some (u2.set u0 x23))
   ((Cl u2 (wI ((wI (wI (u1+u3)+(u0:Int))) - u1))).bind fun x27 =>
   (Cl u2 (wI ((wI (wI (u1+u3)+(u0:Int))) - u1))).bind fun x28 =>
   some (u2.set ((wI ((wI (wI (u1+u3)+(u0:Int))) - u1)).toNat) x23))).bind fun u4 =>
 og (u0+1<4611686018427387904) <|
 some (Ctl.next (u0+1,u4)))
 (some (Ctl.out u2))
def J6 (u6:LL) (u0 u1:Int) (u2 u3:Int) (u4:Nat) (u5:LL):Option (Ctl (Nat×LL) (LL)) :=
 cond (decide ((u4:Int)<(u6.length:Int)))
 (((u6[u4]?).bind fun x12 =>
  og (0<=wI (wI (u0+u1)+wI (u2+u3))/\wI (wI (u0+u1)+wI (u2+u3))<=wI (wI (u0+u1)+wI (u2+u3))/\wI (wI (u0+u1)+wI (u2+u3))<=1073741824/\(8:Int)*(wI (wI (u0+u1)+wI (u2+u3)))<=140737488355328) <|
  (Aq (fun s_:Nat×List Int=>Kh x12 u0 u1 s_.1 s_.2) 4611686018427387904 (0,List.replicate ((wI (wI (u0+u1)+wI (u2+u3))).toNat) (0:Int))).bind fun u7 =>
  og (u5.length+1<=1073741824/\(u5.length+1)*24<=140737488355328) <|
  some (u5++[u7])).bind fun u8 =>
 og (u4+1<4611686018427387904) <|
 some (Ctl.next (u4+1,u8)))
 (some (Ctl.out u5))
def Kg (x40:List Int) (u1 u3 u4:Int) (u0:Nat) (u2:List Int):Option (Ctl (Nat×List Int) (List Int)) :=
 cond (decide ((u0:Int)<(x40.length:Int)))
 (((x40[u0]?).bind fun x51 =>
  cond (decide ((u0:Int)<u1))
   ((Cl u2 (wI (u3+(u0:Int)))).bind fun x54 =>
   (Cl u2 (wI (u3+(u0:Int)))).bind fun x55 =>
   some (u2.set ((wI (u3+(u0:Int))).toNat) x51))
   ((Cl u2 (wI ((wI (wI (wI (u3+u1)+u4)+(u0:Int))) - u1))).bind fun x56 =>
   (Cl u2 (wI ((wI (wI (wI (u3+u1)+u4)+(u0:Int))) - u1))).bind fun x57 =>
   some (u2.set ((wI ((wI (wI (wI (u3+u1)+u4)+(u0:Int))) - u1)).toNat) x51))).bind fun u5 =>
 og (u0+1<4611686018427387904) <|
 some (Ctl.next (u0+1,u5)))
 (some (Ctl.out u2))
def J8 (u6:LL) (u0 u1:Int) (u2 u3:Int) (u4:Nat) (u5:LL):Option (Ctl (Nat×LL) (LL)) :=
 cond (decide ((u4:Int)<(u6.length:Int)))
 (((u6[u4]?).bind fun x40 =>
  og (0<=wI (wI (u0+u1)+wI (u2+u3))/\wI (wI (u0+u1)+wI (u2+u3))<=wI (wI (u0+u1)+wI (u2+u3))/\wI (wI (u0+u1)+wI (u2+u3))<=1073741824/\(8:Int)*(wI (wI (u0+u1)+wI (u2+u3)))<=140737488355328) <|
  (Aq (fun s_:Nat×List Int=>Kg x40 u1 u0 u2 s_.1 s_.2) 4611686018427387904 (0,List.replicate ((wI (wI (u0+u1)+wI (u2+u3))).toNat) (0:Int))).bind fun u7 =>
  og (u5.length+1<=1073741824/\(u5.length+1)*24<=140737488355328) <|
  some (u5++[u7])).bind fun u8 =>
 og (u4+1<4611686018427387904) <|
 some (Ctl.next (u4+1,u8)))
 (some (Ctl.out u5))
def Gw (a0 u0 u1:Int) (u4:LL) (u2 u3:Int) (u5:LL):Option (Int×Int×LL) :=
 (Aq (fun s_:Nat×LL=>J6 u4 u0 u2 u1 u3 s_.1 s_.2) 4611686018427387904 (0,([]:LL))).bind fun u6 =>
(Aq (fun s_:Nat×LL=>J8 u5 u0 u2 u1 u3 s_.1 s_.2) 4611686018427387904 (0,u6)).bind fun u7 =>
(Km a0 (wI (u0+u2)) (wI (u1+u3)) u7).bind fun y62 =>
some (y62.1,y62.2.1,y62.2.2)
theorem Ww (h:Gw bA bB bC dA bD bE dB=some pA):cK 57 [ai bA,.agg [ai bB,ai bC,tS dA],.agg [ai bD,ai bE,tS dB]] (Iy pA):=by
 refine cZ Tryz.func57 fun zn_ nz_ hz_=>Ae (Ab (An 16 (dsT 12 (Ct (As kr) (tn_ (wr_ (Ae (sqF h (fun uh=>sT [(0,ai bA),(4,.box (oi 0 1) 0),(5,.box (oi 1 1) 0),(6,.box (oi 2 1) 0),(7,ai (wI (bB+bD))),(8,ai (wI (bC+bE))),(9,oS 3 1 uh.length)] [(oi 0 1,.cells 30 [ai bB,ai bC,tS dA]),(oi 1 1,.cells 30 [ai bD,ai bE,tS dB]),(oi 2 1,.cells 30 [ai 0,ai 0,.nils]),(oi 3 1,.mat 81 (oi 4 1) .int uh),(oi 4 1,.pool 3 .int uh)]) ?_ ?_))))))))
 ·intro _ h;refine Ae (Ad (lpF h (fun (ue,u6)=>sT [(0,ai bA),(4,.box (oi 0 1) 0),(5,.box (oi 1 1) 0),(6,.box (oi 2 1) 0),(7,ai (wI (bB+bD))),(8,ai (wI (bC+bE))),(9,oS 3 1 u6.length),(31,tS dA),(32,an dA.length),(33,an ue)] [(oi 0 1,.cells 30 [ai bB,ai bC,tS dA]),(oi 1 1,.cells 30 [ai bD,ai bE,tS dB]),(oi 2 1,.cells 30 [ai 0,ai 0,.nils]),(oi 3 1,.mat 81 (oi 4 1) .int u6),(oi 4 1,.pool 3 .int u6)]) ((Lz 9 81 sI kr).trans ((Dk (e1:=81) (n:=0) 9000 (oi 9 21) 3 .int kr kr rfl kr kr).trans (Ag [(oi 0 1,oi 4 1),(oi 1 1,oi 5 2),(oi 2 1,oi 6 3),(oi 3 1,oi 9 21),(oi 4 1,oi 9000 22)]))) ?_));rintro n_ ⟨ue,u6⟩ c_ h hn6;refine Ae (Ab (kQ h (fun _ h=>skW (sqF h (fun ui=>sT [(0,ai bA),(4,.box (oi 0 1) 0),(5,.box (oi 1 1) 0),(6,.box (oi 2 1) 0),(7,ai (wI (bB+bD))),(8,ai (wI (bC+bE))),(9,oS 3 1 ui.length),(31,tS dA),(32,an dA.length),(33,an ue)] [(oi 0 1,.cells 30 [ai bB,ai bC,tS dA]),(oi 1 1,.cells 30 [ai bD,ai bE,tS dB]),(oi 2 1,.cells 30 [ai 0,ai 0,.nils]),(oi 3 1,.mat 81 (oi 4 1) .int ui),(oi 4 1,.pool 3 .int ui)]) ?_ fun ui h=>Aa 4 (raH h fun h=>rsT 1 (Ap (tn_ (jL [])))))) fun _ h=>lxT (have h:=jO h hn6;jE [])));intro _ h;refine Ad (Ab (Aa 6 (riH sI h fun x12 _ h=>rsT 2 (rnW (Ab (Aa 11 (rsT 3 ?_)))))));obtain ⟨g14,h⟩:=Ak h;refine rs1 (oI 40 9 ((wI (wI (bB+bD)+wI (bC+bE))).toNat)) (oi 40 9) (.arr 3 .int (List.replicate ((wI (wI (bB+bD)+wI (bC+bE))).toNat) (0:Int))) (N3 (t:=.int) (k:=.i64) (k':=.i64) (m:=wI (wI (bB+bD)+wI (bC+bE))) (m':=wI (wI (bB+bD)+wI (bC+bE))) kr kr g14 rfl) (rsT 1 (rnW (sqF h (fun ua=>sT [(0,ai bA),(4,.box (oi 0 1) 0),(5,.box (oi 1 1) 0),(6,.box (oi 2 1) 0),(7,ai (wI (bB+bD))),(8,ai (wI (bC+bE))),(9,oS 3 1 u6.length),(12,oI 5 1 ua.length),(31,tS dA),(32,an dA.length),(33,an ue)] [(oi 0 1,.cells 30 [ai bB,ai bC,tS dA]),(oi 1 1,.cells 30 [ai bD,ai bE,tS dB]),(oi 2 1,.cells 30 [ai 0,ai 0,.nils]),(oi 3 1,.mat 81 (oi 4 1) .int u6),(oi 4 1,.pool 3 .int u6),(oi 5 1,.arr 3 .int ua)]) ?_ ?_)))
  ·intro _ h;refine Ae (Ad (lpF h (fun (ud,u8)=>sT [(0,ai bA),(4,.box (oi 0 1) 0),(5,.box (oi 1 1) 0),(6,.box (oi 2 1) 0),(7,ai (wI (bB+bD))),(8,ai (wI (bC+bE))),(9,oS 3 1 u6.length),(12,oI 5 1 u8.length),(31,tS dA),(32,an dA.length),(33,an ue),(41,tI x12),(42,an x12.length),(43,an ud)] [(oi 0 1,.cells 30 [ai bB,ai bC,tS dA]),(oi 1 1,.cells 30 [ai bD,ai bE,tS dB]),(oi 2 1,.cells 30 [ai 0,ai 0,.nils]),(oi 3 1,.mat 81 (oi 4 1) .int u6),(oi 4 1,.pool 3 .int u6),(oi 5 1,.arr 3 .int u8)]) ((wL 12 (List.length_replicate.symm:(wI (wI (bB+bD)+wI (bC+bE))).toNat=(List.replicate ((wI (wI (bB+bD)+wI (bC+bE))).toNat) (0:Int)).length)).trans (Ag [(oi 5 1,oi 40 9)])) ?_));rintro n_ ⟨ud,u8⟩ c_ h hn17;refine Ae (Ab (kQ h (fun _ h=>skW (sqF h (fun uk=>sT [(0,ai bA),(4,.box (oi 0 1) 0),(5,.box (oi 1 1) 0),(6,.box (oi 2 1) 0),(7,ai (wI (bB+bD))),(8,ai (wI (bC+bE))),(9,oS 3 1 u6.length),(12,oI 5 1 uk.length),(31,tS dA),(32,an dA.length),(33,an ue),(41,tI x12),(42,an x12.length),(43,an ud)] [(oi 0 1,.cells 30 [ai bB,ai bC,tS dA]),(oi 1 1,.cells 30 [ai bD,ai bE,tS dB]),(oi 2 1,.cells 30 [ai 0,ai 0,.nils]),(oi 3 1,.mat 81 (oi 4 1) .int u6),(oi 4 1,.pool 3 .int u6),(oi 5 1,.arr 3 .int uk)]) ?_ fun uk h=>Aa 4 (raH h fun h=>rsT 1 (Ap (tn_ (jL [])))))) fun _ h=>lxT (have h:=jO h hn17;jE [])));intro _ h;refine Ad (Ab (Aa 8 (rsT 1 (riH .int h fun x23 _ h=>rsT 3 (rnW (Ae (kQ h (fun _ h=>?_) fun _ h=>?_)))))))
   ·refine Aa 17 (rsT 3 ?_);obtain ⟨x26,e26,h⟩:=Ah h;refine zO (oi 5 1) .int u8.length (Ai e26) (zS (oi 5 1) (x23) e26 (Ap (bn_ (tn_ ?_))));obtain rfl:=zj h;exact (wL 12 (((rfl:u8.length=u8.length).trans List.length_set.symm):u8.length=(u8.set ud x23).length)).trans (Ag [])
   refine Aa 22 (rsT 8 ?_);obtain ⟨x27,f27,h⟩:=Ah h;obtain ⟨p27,b27,e27⟩:=Ax f27;refine rs0 (.elt (oi 5 1) ((wI ((wI (wI (bB+bD)+(ud:Int))) - bB)).toNat) 0) (zo (t:=.int) (o:=oi 5 1) (len:=u8.length) (k:=.i64) (m:=wI ((wI (wI (bB+bD)+(ud:Int))) - bB)) p27 (Ai e27)) ?_;obtain ⟨x28,f28,h⟩:=Ah h;obtain ⟨p28,b28,e28⟩:=Ax f28;refine zS (oi 5 1) (x23) e28 (Ap (bn_ (tn_ ?_)));obtain rfl:=zj h;exact (wL 12 (((rfl:u8.length=u8.length).trans List.length_set.symm):u8.length=(u8.set ((wI ((wI (wI (bB+bD)+(ud:Int))) - bB)).toNat) x23).length)).trans (Ag [])
  intro ua h;refine Aa 7 (rsT 2 (Lu (oS 68 4 1) (oi 68 4) (.vec 81 1 1 ([oI 5 1 ua.length])) trivial (Ej kr) ?_));obtain ⟨g30,h⟩:=Ak h;refine zV (oi 3 1) (oi 68 4) (oi 4 1) u6 [oI 5 1 ua.length] g30 (rsT 1 (Ap (bn_ (tn_ ?_))));obtain rfl:=zj h;exact (D3 (e1:=81) (e:=3) (u:=.int) (n:=u6.length+1) (len:=ua.length) (row:=ua) (ys:=ua) (xss:=u6) 9000 (oi 3 5) (oi 4 1) (oi 5 1) kr kr rfl kr kr (M6 rfl) (M2 rfl) kr kr kr).trans ((wL 9 ((by simp):u6.length+1=(u6++[ua]).length)).trans (Ag [(oi 3 1,oi 3 5),(oi 4 1,oi 9000 7)]))
 intro uh h;refine sqF h (fun uf=>sT [(0,ai bA),(6,.box (oi 0 1) 0),(7,ai (wI (bB+bD))),(8,ai (wI (bC+bE))),(9,oS 1 1 uf.length)] [(oi 0 1,.cells 30 [ai 0,ai 0,.nils]),(oi 1 1,.mat 81 (oi 2 1) .int uf),(oi 2 1,.pool 3 .int uf)]) ?_ fun uf h=>Ab (Aa 8 (rsT 4 (rcG h [ai bA,ai (wI (bB+bD)),ai (wI (bC+bE)),oS 1 1 uf.length] (fun h=>Jh hz_ (Q9 h)) (Al kr (Al kr (Al kr (Al (F6 (p:=oi 2 1) (e1:=81) (e:=3) (u:=.int) (xss:=uf) kr (Br kr) rfl) Bz)))) fun y62 h=>rsB 1 (rnW (Ac (jZ h [(true,[ai y62.1,ai y62.2.1,.ftr nz_ sI y62.2.2])] (Gq (Az Cq (Az Cq (Az (B2 .ftr) Gk))) Dm)))))))
 intro _ h;refine Ae (Ad (lpF h (fun (ug,u7)=>sT [(0,ai bA),(4,.box (oi 0 1) 0),(5,.box (oi 1 1) 0),(6,.box (oi 2 1) 0),(7,ai (wI (bB+bD))),(8,ai (wI (bC+bE))),(9,oS 3 1 u7.length),(72,tS dB),(73,an dB.length),(74,an ug)] [(oi 0 1,.cells 30 [ai bB,ai bC,tS dA]),(oi 1 1,.cells 30 [ai bD,ai bE,tS dB]),(oi 2 1,.cells 30 [ai 0,ai 0,.nils]),(oi 3 1,.mat 81 (oi 4 1) .int u7),(oi 4 1,.pool 3 .int u7)]) (Ag []) ?_));rintro n_ ⟨ug,u7⟩ c_ h hn34;refine Ae (Ab (kQ h (fun _ h=>skW (sqF h (fun uj=>sT [(0,ai bA),(4,.box (oi 0 1) 0),(5,.box (oi 1 1) 0),(6,.box (oi 2 1) 0),(7,ai (wI (bB+bD))),(8,ai (wI (bC+bE))),(9,oS 3 1 uj.length),(72,tS dB),(73,an dB.length),(74,an ug)] [(oi 0 1,.cells 30 [ai bB,ai bC,tS dA]),(oi 1 1,.cells 30 [ai bD,ai bE,tS dB]),(oi 2 1,.cells 30 [ai 0,ai 0,.nils]),(oi 3 1,.mat 81 (oi 4 1) .int uj),(oi 4 1,.pool 3 .int uj)]) ?_ fun uj h=>Aa 4 (raH h fun h=>rsT 1 (Ap (tn_ (jL [])))))) fun _ h=>lxT (have h:=jO h hn34;jE [(oi 0 1,oi 2 1),(oi 1 1,oi 3 1),(oi 2 1,oi 4 1)])));intro _ h;refine Ad (Ab (Aa 6 (riH sI h fun x40 _ h=>rsT 2 (rnW (Ab (Aa 11 (rsT 3 ?_)))))));obtain ⟨g42,h⟩:=Ak h;refine rs1 (oI 81 9 ((wI (wI (bB+bD)+wI (bC+bE))).toNat)) (oi 81 9) (.arr 3 .int (List.replicate ((wI (wI (bB+bD)+wI (bC+bE))).toNat) (0:Int))) (N3 (t:=.int) (k:=.i64) (k':=.i64) (m:=wI (wI (bB+bD)+wI (bC+bE))) (m':=wI (wI (bB+bD)+wI (bC+bE))) kr kr g42 rfl) (rsT 1 (rnW (sqF h (fun ub=>sT [(0,ai bA),(4,.box (oi 0 1) 0),(5,.box (oi 1 1) 0),(6,.box (oi 2 1) 0),(7,ai (wI (bB+bD))),(8,ai (wI (bC+bE))),(9,oS 3 1 u7.length),(17,oI 5 1 ub.length),(72,tS dB),(73,an dB.length),(74,an ug)] [(oi 0 1,.cells 30 [ai bB,ai bC,tS dA]),(oi 1 1,.cells 30 [ai bD,ai bE,tS dB]),(oi 2 1,.cells 30 [ai 0,ai 0,.nils]),(oi 3 1,.mat 81 (oi 4 1) .int u7),(oi 4 1,.pool 3 .int u7),(oi 5 1,.arr 3 .int ub)]) ?_ ?_)))
 ·intro _ h;refine Ae (Ad (lpF h (fun (uc,u9)=>sT [(0,ai bA),(4,.box (oi 0 1) 0),(5,.box (oi 1 1) 0),(6,.box (oi 2 1) 0),(7,ai (wI (bB+bD))),(8,ai (wI (bC+bE))),(9,oS 3 1 u7.length),(17,oI 5 1 u9.length),(72,tS dB),(73,an dB.length),(74,an ug),(82,tI x40),(83,an x40.length),(84,an uc)] [(oi 0 1,.cells 30 [ai bB,ai bC,tS dA]),(oi 1 1,.cells 30 [ai bD,ai bE,tS dB]),(oi 2 1,.cells 30 [ai 0,ai 0,.nils]),(oi 3 1,.mat 81 (oi 4 1) .int u7),(oi 4 1,.pool 3 .int u7),(oi 5 1,.arr 3 .int u9)]) ((wL 17 (List.length_replicate.symm:(wI (wI (bB+bD)+wI (bC+bE))).toNat=(List.replicate ((wI (wI (bB+bD)+wI (bC+bE))).toNat) (0:Int)).length)).trans (Ag [(oi 5 1,oi 81 9)])) ?_));rintro n_ ⟨uc,u9⟩ c_ h hn45;refine Ae (Ab (kQ h (fun _ h=>skW (sqF h (fun ul=>sT [(0,ai bA),(4,.box (oi 0 1) 0),(5,.box (oi 1 1) 0),(6,.box (oi 2 1) 0),(7,ai (wI (bB+bD))),(8,ai (wI (bC+bE))),(9,oS 3 1 u7.length),(17,oI 5 1 ul.length),(72,tS dB),(73,an dB.length),(74,an ug),(82,tI x40),(83,an x40.length),(84,an uc)] [(oi 0 1,.cells 30 [ai bB,ai bC,tS dA]),(oi 1 1,.cells 30 [ai bD,ai bE,tS dB]),(oi 2 1,.cells 30 [ai 0,ai 0,.nils]),(oi 3 1,.mat 81 (oi 4 1) .int u7),(oi 4 1,.pool 3 .int u7),(oi 5 1,.arr 3 .int ul)]) ?_ fun ul h=>Aa 4 (raH h fun h=>rsT 1 (Ap (tn_ (jL [])))))) fun _ h=>lxT (have h:=jO h hn45;jE [])));intro _ h;refine Ad (Ab (Aa 8 (rsT 1 (riH .int h fun x51 _ h=>rsT 3 (rnW (Ae (kQ h (fun _ h=>?_) fun _ h=>?_)))))))
  ·refine Aa 20 (rsT 6 ?_);obtain ⟨x54,f54,h⟩:=Ah h;obtain ⟨p54,b54,e54⟩:=Ax f54;refine rs0 (.elt (oi 5 1) ((wI (bB+(uc:Int))).toNat) 0) (zo (t:=.int) (o:=oi 5 1) (len:=u9.length) (k:=.i64) (m:=wI (bB+(uc:Int))) p54 (Ai e54)) ?_;obtain ⟨x55,f55,h⟩:=Ah h;obtain ⟨p55,b55,e55⟩:=Ax f55;refine zS (oi 5 1) (x51) e55 (Ap (bn_ (tn_ ?_)));obtain rfl:=zj h;exact (wL 17 (((rfl:u9.length=u9.length).trans List.length_set.symm):u9.length=(u9.set ((wI (bB+(uc:Int))).toNat) x51).length)).trans (Ag [])
  refine Aa 25 (rsT 11 ?_);obtain ⟨x56,f56,h⟩:=Ah h;obtain ⟨p56,b56,e56⟩:=Ax f56;refine rs0 (.elt (oi 5 1) ((wI ((wI (wI (wI (bB+bD)+bC)+(uc:Int))) - bD)).toNat) 0) (zo (t:=.int) (o:=oi 5 1) (len:=u9.length) (k:=.i64) (m:=wI ((wI (wI (wI (bB+bD)+bC)+(uc:Int))) - bD)) p56 (Ai e56)) ?_;obtain ⟨x57,f57,h⟩:=Ah h;obtain ⟨p57,b57,e57⟩:=Ax f57;refine zS (oi 5 1) (x51) e57 (Ap (bn_ (tn_ ?_)));obtain rfl:=zj h;exact (wL 17 (((rfl:u9.length=u9.length).trans List.length_set.symm):u9.length=(u9.set ((wI ((wI (wI (wI (bB+bD)+bC)+(uc:Int))) - bD)).toNat) x51).length)).trans (Ag [])
 intro ub h;refine Aa 7 (rsT 2 (Lu (oS 115 4 1) (oi 115 4) (.vec 81 1 1 ([oI 5 1 ub.length])) trivial (Ej kr) ?_));obtain ⟨g59,h⟩:=Ak h;refine zV (oi 3 1) (oi 115 4) (oi 4 1) u7 [oI 5 1 ub.length] g59 (rsT 1 (Ap (bn_ (tn_ ?_))));obtain rfl:=zj h;exact (D3 (e1:=81) (e:=3) (u:=.int) (n:=u7.length+1) (len:=ub.length) (row:=ub) (ys:=ub) (xss:=u7) 9000 (oi 3 5) (oi 4 1) (oi 5 1) kr kr rfl kr kr (M6 rfl) (M2 rfl) kr kr kr).trans ((wL 9 ((by simp):u7.length+1=(u7++[ub]).length)).trans (Ag [(oi 3 1,oi 3 5),(oi 4 1,oi 9000 7)]))
end Go.Proofs.YthlpchhhinipaaaGreatDoor


namespace Go.Proofs.YthlpchhhinipaaaGreatDoor
open Go.RowKit Go.Deep
set_option maxRecDepth 4000
set_option maxHeartbeats 4800000
variable {bA bB bC bD:Int} {aA aB aC:List Int} {cA:Bool} {qA:List (Int×Int×(List Int)×List Int)} {rA:List Int×List Int} {dA:LL} {sA:Int×(List (Int×Int×(List Int)×List Int))×List Int×List Int} {gA:ByteArray}
def T8 (u0 u3:Int) (u1 u2:List Int) (a1:Int):Option Bool :=
 ((Cb u0 3 14).bind fun y4 =>
 cond (!y4)
  (some true)
  ((Jk u0 u3 (⟨#[]⟩:ByteArray)).bind fun y6 =>
  some (!y6))).bind fun u4 =>
cond u4
 (some false)
 ((G4 u0).bind fun y10 =>
 (cond ((u1.length:Int)==y10.1)
   (cond ((u2.length:Int)==y10.2)
    ((E3 u1 0 (wI (a1 - 1))).bind fun y14 =>
    cond y14
     ((E3 u2 0 (wI (a1 - 1))).bind fun y16 =>
     some y16)
     (some false))
    (some false))
   (some false)).bind fun u5 =>
 some u5)
theorem Aa7 (h:T8 bA bB aA aB bC=some cA):cK 188 [.agg [ai bA,ai bB,tI aA,tI aB],ai bC] (Ao cA):=by
 refine cO Tryz.func188 (Ae (Ab (sqF h (fun u4=>sT [(1,ai bC),(2,.box (oi 0 1) 0),(19,.bool u4)] [(oi 0 1,.cells 171 [ai bA,ai bB,tI aA,tI aB])]) ?_ ?_)))
 ·intro _ h;refine Aa 16 (rsT 2 (rcH h Co fun y4 h=>rsT 2 ?_));rcases A0 h with ⟨q5,h⟩|⟨q5,h⟩
  ·exact rq 11 q5 (rsT 8 (Ap (tn_ (jE [(oi 0 1,oi 2 1)]))))
  exact rq 11 q5 (rsT 5 (rcH h R2 fun y6 h=>rsT 2 (Ap (tn_ (jE [(oi 0 1,oi 2 1)])))))
 intro u4 h;refine kQ h (fun _ h=>Ae (Ac (tr_ (jS h)))) fun _ h=>skW (Ab (Aa 10 (rsT 2 (rcH h Ou fun y10 h=>rsT 5 (rnW (sqF h (fun u5=>sT [(4,.bool u5)] []) ?_ fun u5 h=>Ac (jS h)))))))
 intro _ h;refine Aa 37 (rsT 6 (kR h 31 (fun _ h=>rsT 7 ?_) fun _ h=>rsT 21 (Ap (tn_ (jE [])))));rcases A0 h with ⟨q13,h⟩|⟨q13,h⟩
 ·refine rq 38 q13 (rsT 4 (rcH h Jn fun y14 h=>rsT 2 ?_));rcases A0 h with ⟨q15,h⟩|⟨q15,h⟩
  ·exact rq 45 q15 (rsT 4 (rcH h Jn fun y16 h=>rsT 2 (Ap (tn_ (jE [])))))
  exact rq 45 q15 (rsT 7 (Ap (tn_ (jE []))))
 exact rq 38 q13 (rsT 14 (Ap (tn_ (jE []))))
def U3 (u2:List Int) (u0:Nat) (u1:List Int):Option (Ctl (Nat×List Int) (List Int)) :=
 cond (decide ((u0:Int)<(u2.length:Int)))
 ((u2[u0]?).bind fun x14 =>
 (Cl u1 x14).bind fun x15 =>
 og (u0+1<4611686018427387904) <|
 some (Ctl.next (u0+1,u1.set x14.toNat (wI (x15+1)))))
 (some (Ctl.out u1))
def Ud (u2:List Int) (u0:Nat) (u1:List Int):Option (Ctl (Nat×List Int) (List Int)) :=
 cond (decide ((u0:Int)<(u2.length:Int)))
 ((u2[u0]?).bind fun x25 =>
 (Cl u1 x25).bind fun x26 =>
 og (u0+1<4611686018427387904) <|
 some (Ctl.next (u0+1,u1.set x25.toNat (wI (x26+1)))))
 (some (Ctl.out u1))
def U8 (x36:Int×Int×(List Int)×List Int) (u0:Nat) (u1:List Int):Option (Ctl (Nat×List Int) (List Int)) :=
 cond (decide ((u0:Int)<(x36.2.2.2.length:Int)))
 ((x36.2.2.2[u0]?).bind fun x45 =>
 (Cl u1 x45).bind fun x46 =>
 og (u0+1<4611686018427387904) <|
 some (Ctl.next (u0+1,u1.set x45.toNat (wI (x46+1)))))
 (some (Ctl.out u1))
def Uq (x36:Int×Int×(List Int)×List Int) (u2:List Int) (u0:Nat) (u1:List Int):Option (Ctl (Nat×List Int) (List Int×List Int)) :=
 cond (decide ((u0:Int)<(x36.2.2.1.length:Int)))
 ((x36.2.2.1[u0]?).bind fun x55 =>
 (Cl u1 x55).bind fun x56 =>
 og (u0+1<4611686018427387904) <|
 some (Ctl.next (u0+1,u1.set x55.toNat (wI (x56+1)))))
 (some (Ctl.out (u2,u1)))
def Uh (u1:List (Int×Int×(List Int)×List Int)) (u0:Nat) (u2 u3:List Int):Option (Ctl (Nat×List Int×List Int) (List Int×List Int)) :=
 cond (decide ((u0:Int)<(u1.length:Int)))
 (((u1[u0]?).bind fun x36 =>
  (Aq (fun s_:Nat×List Int=>U8 x36 s_.1 s_.2) 4611686018427387904 (0,u2)).bind fun u4 =>
  Aq (fun s_:Nat×List Int=>Uq x36 u4 s_.1 s_.2) 4611686018427387904 (0,u3)).bind fun (u5,u6) =>
 og (u0+1<4611686018427387904) <|
 some (Ctl.next (u0+1,u5,u6)))
 (some (Ctl.out (u2,u3)))
def Rm (u0:Int) (u1:List (Int×Int×(List Int)×List Int)) (u2 u3:List Int):Option (List Int×List Int) :=
 og (0<=u0/\u0<=u0/\u0<=1073741824/\(8:Int)*u0<=140737488355328) <|
og (0<=u0/\u0<=u0/\u0<=1073741824/\(8:Int)*u0<=140737488355328) <|
(Aq (fun s_:Nat×List Int=>U3 u2 s_.1 s_.2) 4611686018427387904 (0,List.replicate u0.toNat (0:Int))).bind fun u4 =>
(Aq (fun s_:Nat×List Int=>Ud u3 s_.1 s_.2) 4611686018427387904 (0,List.replicate u0.toNat (0:Int))).bind fun u5 =>
(Aq (fun s_:Nat×List Int×List Int=>Uh u1 s_.1 s_.2.1 s_.2.2) 4611686018427387904 (0,u4,u5)).bind fun (u6,u7) =>
some (u6,u7)
def W4 (r:List Int×List Int):RV:=⟨true,[(false,[.new 3 .int r.1]),(false,[.new 3 .int r.2])]⟩
theorem W7 (h:Rm bA qA aA aB=some rA):cK 189 [.agg [ai bA,.tree Yb qA,tI aA,tI aB]] (W4 rA):=by
 refine cO Tryz.func189 (Ae (Ab (Aa 8 (rsT 2 ?_))));obtain ⟨g3,h⟩:=Ak h;refine rs1 (oI 18 6 bA.toNat) (oi 18 6) (.arr 3 .int (List.replicate bA.toNat (0:Int))) (N3 (t:=.int) (k:=.i64) (k':=.i64) (m:=bA) (m':=bA) kr kr g3 rfl) (rsT 1 (rnW (Ab (Aa 12 (rsT 2 ?_)))));obtain ⟨g5,h⟩:=Ak h;refine rs1 (oI 21 10 bA.toNat) (oi 21 10) (.arr 3 .int (List.replicate bA.toNat (0:Int))) (N3 (t:=.int) (k:=.i64) (k':=.i64) (m:=bA) (m':=bA) kr kr g5 rfl) (rsT 1 (rnW (sqF h (fun u8=>sT [(1,.box (oi 0 1) 0),(4,oI 1 1 u8.length),(5,oI 2 1 ((List.replicate bA.toNat (0:Int)).length))] [(oi 0 1,.cells 131 [ai bA,.tree Yb qA,tI aA,tI aB]),(oi 1 1,.arr 3 .int u8),(oi 2 1,.arr 3 .int (List.replicate bA.toNat (0:Int)))]) ?_ ?_)))
 ·intro _ h;refine Ae (Ad (lpF h (fun (ui,u2)=>sT [(1,.box (oi 0 1) 0),(4,oI 1 1 u2.length),(5,oI 2 1 ((List.replicate bA.toNat (0:Int)).length)),(23,tI aA),(24,an aA.length),(25,an ui)] [(oi 0 1,.cells 131 [ai bA,.tree Yb qA,tI aA,tI aB]),(oi 1 1,.arr 3 .int u2),(oi 2 1,.arr 3 .int (List.replicate bA.toNat (0:Int)))]) ((wL 4 (List.length_replicate.symm:bA.toNat=(List.replicate bA.toNat (0:Int)).length)).trans ((wL 5 (List.length_replicate.symm:bA.toNat=(List.replicate bA.toNat (0:Int)).length)).trans (Ag [(oi 0 1,oi 1 1),(oi 1 1,oi 18 6),(oi 2 1,oi 21 10)]))) ?_));rintro n_ ⟨ui,u2⟩ c_ h hn8;refine Ae (Ab (kQ h (fun _ h=>skW (Ab (Ad (Ab (Aa 6 (riH .int h fun x14 _ h=>rsT 2 (rnW (Aa 13 (rsT 2 ?_))))))))) fun _ h=>lxT (have h:=jO h hn8;jE [])));obtain ⟨x15,f15,h⟩:=Ah h;obtain ⟨p15,b15,e15⟩:=Ax f15;refine rs0 (.elt (oi 1 1) x14.toNat 0) (zo (t:=.int) (o:=oi 1 1) (len:=u2.length) (k:=.i64) (m:=x14) p15 (Ai e15)) (zE (oi 1 1) e15 (rsT 1 (rs0 (.elt (oi 1 1) x14.toNat 0) (zo (t:=.int) (o:=oi 1 1) (len:=u2.length) (k:=.i64) (m:=x14) p15 (Ai e15)) (zS (oi 1 1) (wI (x15+1)) e15 (Ap (bn_ (tn_ (wr_ (Aa 15 (raH h fun h=>rsT 1 (Ap (tn_ ?_))))))))))));obtain rfl:=zj h;exact jLw hn8 ((wL 4 (((rfl:u2.length=u2.length).trans List.length_set.symm):u2.length=(u2.set x14.toNat (wI (x15+1))).length)).trans (Ag []))
 intro u8 h;refine sqF h (fun ue=>sT [(1,.box (oi 0 1) 0),(4,oI 1 1 u8.length),(5,oI 2 1 ue.length)] [(oi 0 1,.cells 131 [ai bA,.tree Yb qA,tI aA,tI aB]),(oi 1 1,.arr 3 .int u8),(oi 2 1,.arr 3 .int ue)]) ?_ ?_
 ·intro _ h;refine Ae (Ad (lpF h (fun (uj,u3)=>sT [(1,.box (oi 0 1) 0),(4,oI 1 1 u8.length),(5,oI 2 1 u3.length),(37,tI aB),(38,an aB.length),(39,an uj)] [(oi 0 1,.cells 131 [ai bA,.tree Yb qA,tI aA,tI aB]),(oi 1 1,.arr 3 .int u8),(oi 2 1,.arr 3 .int u3)]) (Ag []) ?_));rintro n_ ⟨uj,u3⟩ c_ h hn19;refine Ae (Ab (kQ h (fun _ h=>skW (Ab (Ad (Ab (Aa 6 (riH .int h fun x25 _ h=>rsT 2 (rnW (Aa 13 (rsT 2 ?_))))))))) fun _ h=>lxT (have h:=jO h hn19;jE [])));obtain ⟨x26,f26,h⟩:=Ah h;obtain ⟨p26,b26,e26⟩:=Ax f26;refine rs0 (.elt (oi 2 1) x25.toNat 0) (zo (t:=.int) (o:=oi 2 1) (len:=u3.length) (k:=.i64) (m:=x25) p26 (Ai e26)) (zE (oi 2 1) e26 (rsT 1 (rs0 (.elt (oi 2 1) x25.toNat 0) (zo (t:=.int) (o:=oi 2 1) (len:=u3.length) (k:=.i64) (m:=x25) p26 (Ai e26)) (zS (oi 2 1) (wI (x26+1)) e26 (Ap (bn_ (tn_ (wr_ (Aa 15 (raH h fun h=>rsT 1 (Ap (tn_ ?_))))))))))));obtain rfl:=zj h;exact jLw hn19 ((wL 5 (((rfl:u3.length=u3.length).trans List.length_set.symm):u3.length=(u3.set x25.toNat (wI (x26+1))).length)).trans (Ag []))
 intro ue h;refine sqF h (fun (uc,ud)=>sT [(4,oI 0 1 uc.length),(5,oI 1 1 ud.length)] [(oi 0 1,.arr 3 .int uc),(oi 1 1,.arr 3 .int ud)]) ?_ ?_
 ·intro _ h;refine Ae (Ad (lpF h (fun (ua,uf,u9)=>sT [(4,oI 0 1 uf.length),(5,oI 1 1 u9.length),(51,.tree Yb qA),(52,an qA.length),(53,an ua)] [(oi 0 1,.arr 3 .int uf),(oi 1 1,.arr 3 .int u9)]) (Ag [(oi 0 1,oi 1 1),(oi 1 1,oi 2 1)]) ?_));rintro n_ ⟨ua,uf,u9⟩ c_ h hn30;refine Ae (Ab (kQ h (fun _ h=>skW (sqF h (fun (ug,uh)=>sT [(4,oI 0 1 ug.length),(5,oI 1 1 uh.length),(51,.tree Yb qA),(52,an qA.length),(53,an ua)] [(oi 0 1,.arr 3 .int ug),(oi 1 1,.arr 3 .int uh)]) ?_ ?_)) fun _ h=>lxT (have h:=jO h hn30;jE [])))
  ·intro _ h;refine Ad (Ab (Aa 7 (riH Yb h fun x36 _ h=>rsB 3 (rnW (sqF h (fun ub=>sT [(4,oI 0 1 ub.length),(5,oI 1 1 u9.length),(11,.box (oi 2 1) 0),(51,.tree Yb qA),(52,an qA.length),(53,an ua)] [(oi 0 1,.arr 3 .int ub),(oi 1 1,.arr 3 .int u9),(oi 2 1,.cells 171 [ai x36.1,ai x36.2.1,tI x36.2.2.1,tI x36.2.2.2])]) ?_ ?_)))))
   ·intro _ h;refine Ae (Ad (lpF h (fun (uk,u4)=>sT [(4,oI 0 1 u4.length),(5,oI 1 1 u9.length),(11,.box (oi 2 1) 0),(51,.tree Yb qA),(52,an qA.length),(53,an ua),(58,tI x36.2.2.2),(59,an x36.2.2.2.length),(60,an uk)] [(oi 0 1,.arr 3 .int u4),(oi 1 1,.arr 3 .int u9),(oi 2 1,.cells 171 [ai x36.1,ai x36.2.1,tI x36.2.2.1,tI x36.2.2.2])]) (Ag [(oi 2 1,oi 11 5)]) ?_));rintro n_ ⟨uk,u4⟩ c_ h hn39;refine Ae (Ab (kQ h (fun _ h=>skW (Ab (Ad (Ab (Aa 6 (riH .int h fun x45 _ h=>rsT 2 (rnW (Aa 13 (rsT 2 ?_))))))))) fun _ h=>lxT (have h:=jO h hn39;jE [])));obtain ⟨x46,f46,h⟩:=Ah h;obtain ⟨p46,b46,e46⟩:=Ax f46;refine rs0 (.elt (oi 0 1) x45.toNat 0) (zo (t:=.int) (o:=oi 0 1) (len:=u4.length) (k:=.i64) (m:=x45) p46 (Ai e46)) (zE (oi 0 1) e46 (rsT 1 (rs0 (.elt (oi 0 1) x45.toNat 0) (zo (t:=.int) (o:=oi 0 1) (len:=u4.length) (k:=.i64) (m:=x45) p46 (Ai e46)) (zS (oi 0 1) (wI (x46+1)) e46 (Ap (bn_ (tn_ (wr_ (Aa 15 (raH h fun h=>rsT 1 (Ap (tn_ ?_))))))))))));obtain rfl:=zj h;exact jLw hn39 ((wL 4 (((rfl:u4.length=u4.length).trans List.length_set.symm):u4.length=(u4.set x45.toNat (wI (x46+1))).length)).trans (Ag []))
   intro ub h;refine Ae (Ad (lpF h (fun (ul,u5)=>sT [(4,oI 0 1 ub.length),(5,oI 1 1 u5.length),(51,.tree Yb qA),(52,an qA.length),(53,an ua),(72,tI x36.2.2.1),(73,an x36.2.2.1.length),(74,an ul)] [(oi 0 1,.arr 3 .int ub),(oi 1 1,.arr 3 .int u5)]) (Ag []) ?_));rintro n_ ⟨ul,u5⟩ c_ h hn49;refine Ae (Ab (kQ h (fun _ h=>skW (Ab (Ad (Ab (Aa 6 (riH .int h fun x55 _ h=>rsT 2 (rnW (Aa 13 (rsT 2 ?_))))))))) fun _ h=>D2 (te_ (te_ (be_ (bn_ (tn_ (have h:=jO h hn49;jE []))))))));obtain ⟨x56,f56,h⟩:=Ah h;obtain ⟨p56,b56,e56⟩:=Ax f56;refine rs0 (.elt (oi 1 1) x55.toNat 0) (zo (t:=.int) (o:=oi 1 1) (len:=u5.length) (k:=.i64) (m:=x55) p56 (Ai e56)) (zE (oi 1 1) e56 (rsT 1 (rs0 (.elt (oi 1 1) x55.toNat 0) (zo (t:=.int) (o:=oi 1 1) (len:=u5.length) (k:=.i64) (m:=x55) p56 (Ai e56)) (zS (oi 1 1) (wI (x56+1)) e56 (Ap (bn_ (tn_ (wr_ (Aa 15 (raH h fun h=>rsT 1 (Ap (tn_ ?_))))))))))));obtain rfl:=zj h;exact jLw hn49 ((wL 5 (((rfl:u5.length=u5.length).trans List.length_set.symm):u5.length=(u5.set x55.toNat (wI (x56+1))).length)).trans (Ag []))
  rintro ⟨ug,uh⟩ h;exact Aa 4 (raH h fun h=>rsT 1 (Ap (tn_ (jL []))))
 rintro ⟨uc,ud⟩ h;exact Ae (Ac (jR h [oI 0 1 uc.length,oI 1 1 ud.length] (F1 rfl (Dc kr rfl) (F1 rfl (Dc kr rfl) Fc))))
def Vv (u1:List (Int×Int×(List Int)×List Int)) (u2:Int) (u0:Nat):Option (Ctl Nat (Ctl Unit Bool)) :=
 cond (decide ((u0:Int)<(u1.length:Int)))
 ((u1[u0]?).bind fun x22 =>
 (T8 x22.1 x22.2.1 x22.2.2.1 x22.2.2.2 u2).bind fun y24 =>
 cond (!y24)
  (some (Ctl.out (Ctl.out false)))
  (og (u0+1<4611686018427387904) <|
  some (Ctl.next (u0+1))))
 (some (Ctl.out (Ctl.next ())))
def Ve (y29:List Int×List Int) (u0:Nat):Option (Ctl Nat (Ctl Unit Bool)) :=
 cond (decide ((u0:Int)<(y29.1.length:Int)))
 ((y29.1[u0]?).bind fun x39 =>
 (y29.2[u0]?).bind fun x40 =>
 cond ((wI (x39+x40))==0)
  (some (Ctl.out (Ctl.out false)))
  (og (u0+1<4611686018427387904) <|
  some (Ctl.next (u0+1))))
 (some (Ctl.out (Ctl.next ())))
def C5 (u0:Int) (u1:List (Int×Int×(List Int)×List Int)) (u2 u3:List Int):Option Bool :=
 ((Cb u0 0 100).bind fun y4 =>
 cond (!y4)
  (some true)
  (cond (decide (60<(u1.length:Int)))
   (some true)
   (cond (decide (12<(u2.length:Int)))
    (some true)
    (cond (decide (12<(u3.length:Int)))
     (some true)
     ((E3 u2 0 (wI (u0 - 1))).bind fun y9 =>
     cond (!y9)
      (some true)
      ((E3 u3 0 (wI (u0 - 1))).bind fun y11 =>
      some (!y11))))))).bind fun u4 =>
cond u4
 (some false)
 (Dn (Aq (fun s_:Nat=>Vv u1 u0 s_) 4611686018427387904 0) fun _ =>
 (Rm u0 u1 u2 u3).bind fun y29 =>
 Dn (Aq (fun s_:Nat=>Ve y29 s_) 4611686018427387904 0) fun _ =>
 some true)
theorem Ym (h:C5 bA qA aA aB=some cA):cK 183 [.agg [ai bA,.tree Yb qA,tI aA,tI aB]] (Ao cA):=by
 refine cO Tryz.func183 (Ae (Ab (sqF h (fun u5=>sT [(1,.box (oi 0 1) 0),(47,.bool u5)] [(oi 0 1,.cells 131 [ai bA,.tree Yb qA,tI aA,tI aB])]) ?_ ?_)))
 ·intro _ h;refine Aa 43 (rsT 2 (rcH h Co fun y4 h=>rsT 2 (kR h 12 (fun _ h=>rsT 35 (Ap (tn_ (jE [(oi 0 1,oi 1 1)])))) fun _ h=>rsT 6 (kR h 18 (fun _ h=>rsT 29 (Ap (tn_ (jE [(oi 0 1,oi 1 1)])))) fun _ h=>rsT 6 (kR h 24 (fun _ h=>rsT 23 (Ap (tn_ (jE [(oi 0 1,oi 1 1)])))) fun _ h=>rsT 6 ?_)))));rcases A0 h with ⟨q8,h⟩|⟨q8,h⟩
  ·exact rq 30 q8 (rsT 17 (Ap (tn_ (jE [(oi 0 1,oi 1 1)]))))
  refine rq 30 q8 (rsT 5 (rcH h Jn fun y9 h=>rsT 3 ?_));rcases A0 h with ⟨q10,h⟩|⟨q10,h⟩
  ·exact rq 39 q10 (rsT 8 (Ap (tn_ (jE [(oi 0 1,oi 1 1)]))))
  exact rq 39 q10 (rsT 5 (rcH h Jn fun y11 h=>rsT 2 (Ap (tn_ (jE [(oi 0 1,oi 1 1)])))))
 intro u5 h;refine kQ h (fun _ h=>Ae (Ac (tr_ (jS h)))) fun _ h=>skW (sqC h (fun _=>sT [(1,.box (oi 0 1) 0)] [(oi 0 1,.cells 131 [ai bA,.tree Yb qA,tI aA,tI aB])]) (fun _ h hk14=>Ae (Ad (lpF h (fun u6=>sT [(1,.box (oi 0 1) 0),(49,.tree Yb qA),(50,an qA.length),(51,an u6)] [(oi 0 1,.cells 131 [ai bA,.tree Yb qA,tI aA,tI aB])]) (Ag []) (fun n_ u6 c_ h hn16=>Ae (Ab (kQ h (fun _ h=>skW (Ab (Ad (Ab (Aa 7 (riH Yb h fun x22 _ h=>rsB 3 (rnW (Ab (Aa 12 (rsT 3 (rcH h Aa7 fun y24 h=>rsT 1 (rnW (kQ h (fun _ h=>Ae (Ac (br_ (tr_ (tr_ (br_ (tr_ (have h:=jO h hn16;(have h:=jO h hk14;jS h))))))))) fun _ h=>Ay (bn_ (tn_ (wr_ (Aa 14 (raH h fun h=>rsT 1 (Ap (tn_ (jL []))))))))))))))))))))) fun _ h=>lxT (have h:=jO h hn16;jC []))))))) ?_)
 intro _ h;refine Ab (Aa 9 (rsT 1 (rcH h W7 fun y29 h=>rsT 5 (rnW (sqC h (fun _=>sT [] []) ?_ fun _ h=>Ae (Ac (jS h)))))));intro _ h hk30;refine Ae (Ad (lpF h (fun u4=>sT [(5,oI 0 1 y29.1.length),(6,oI 1 1 y29.2.length),(67,an y29.1.length),(68,an u4)] [(oi 0 1,.arr 3 .int y29.1),(oi 1 1,.arr 3 .int y29.2)]) (Ag [(oi 0 1,oi 1008 3),(oi 1 1,oi 1009 3)]) ?_));intro n_ u4 c_ h hn32;refine Ae (Ab (kQ h (fun _ h=>skW (Ab (Ad (Ae (Ab (An 15 (dz0 (oI 0 1 y29.1.length) (dz0 (an u4) ?_)))))))) fun _ h=>lxT (have h:=jO h hn32;jC [])));obtain ⟨x39,e39,h⟩:=Ah h;refine dzO (oi 0 1) .int y29.1.length (Ai e39) (dzE (oi 0 1) e39 (dz0 (oI 1 1 y29.2.length) (dz0 (an u4) ?_)));obtain ⟨x40,e40,h⟩:=Ah h;exact dzO (oi 1 1) .int y29.2.length (Ai e40) (dzE (oi 1 1) e40 (dz0 (ai (wI (x39+x40))) (dz0 (.bool ((wI (x39+x40))==0)) (Ct (As kr) (tn_ (wr_ (kQ h (fun _ h=>Ae (Ac (br_ (tr_ (tr_ (br_ (tr_ (have h:=jO h hn32;(have h:=jO h hk30;jS h))))))))) fun _ h=>Ay (bn_ (tn_ (wr_ (Aa 17 (raH h fun h=>rsT 1 (Ap (tn_ (jL [])))))))))))))))
def Iz (u1:List (Int×Int×(List Int)×List Int)) (a0:Int) (u0:Nat):Option (Ctl Nat (Ctl Unit Bool)) :=
 cond (decide ((u0:Int)<(u1.length:Int)))
 ((u1[u0]?).bind fun x17 =>
 cond (decide (a0<=x17.2.1))
  (some (Ctl.out (Ctl.out false)))
  (og (u0+1<4611686018427387904) <|
  some (Ctl.next (u0+1))))
 (some (Ctl.out (Ctl.next ())))
def Mh (a0 u1:Int) (u0:List (Int×Int×(List Int)×List Int)) (u2 u3:List Int):Option Bool :=
 ((G1 a0).bind fun y4 =>
 cond (!y4)
  (some true)
  ((C5 u1 u0 u2 u3).bind fun y6 =>
  some (!y6))).bind fun u4 =>
cond u4
 (some false)
 (Dn (Aq (fun s_:Nat=>Iz u0 a0 s_) 4611686018427387904 0) fun _ =>
 some true)
theorem Add (h:Mh bA bB qA aA aB=some cA):cK 173 [ai bA,.agg [ai bB,.tree Yb qA,tI aA,tI aB]] (Ao cA):=by
 refine cO Tryz.func173 (Ae (Ab (sqF h (fun u4=>sT [(0,ai bA),(3,.box (oi 0 1) 0),(14,.bool u4)] [(oi 0 1,.cells 131 [ai bB,.tree Yb qA,tI aA,tI aB])]) ?_ fun u4 h=>kQ h (fun _ h=>Ae (Ac (tr_ (jS h)))) fun _ h=>skW (sqC h (fun _=>sT [] []) (fun _ h hk9=>Ae (Ad (lpF h (fun u5=>sT [(0,ai bA),(16,.tree Yb qA),(17,an qA.length),(18,an u5)] []) (Ag []) (fun n_ u5 c_ h hn11=>Ae (Ab (kQ h (fun _ h=>skW (Ab (Ad (Ab (Aa 7 (riH Yb h fun x17 _ h=>rsB 3 (rnW (Ae (kQ h (fun _ h=>Ae (Ac (br_ (tr_ (tr_ (br_ (tr_ (have h:=jO h hn11;(have h:=jO h hk9;jS h))))))))) fun _ h=>Ay (bn_ (tn_ (wr_ (Aa 13 (raH h fun h=>rsT 1 (Ap (tn_ (jL []))))))))))))))))) fun _ h=>lxT (have h:=jO h hn11;jC []))))))) fun _ h=>Ae (Ac (jS h))))));intro _ h;refine Aa 11 (rsT 1 (rcH h Oj fun y4 h=>rsT 2 ?_));rcases A0 h with ⟨q5,h⟩|⟨q5,h⟩
 ·exact rq 10 q5 (rsT 4 (Ap (tn_ (jE [(oi 0 1,oi 3 1)]))))
 exact rq 10 q5 (rsT 1 (rcH h Ym fun y6 h=>rsT 2 (Ap (tn_ (jE [(oi 0 1,oi 3 1)])))))
def Hd (u1:List (Int×Int×(List Int)×List Int)) (u0:Nat):Option (Ctl Nat (Ctl Unit Bool)) :=
 cond (decide ((u0:Int)<(u1.length:Int)))
 ((u1[u0]?).bind fun x15 =>
 (Ci x15.1).bind fun y17 =>
 cond (!y17)
  (some (Ctl.out (Ctl.out false)))
  (og (u0+1<4611686018427387904) <|
  some (Ctl.next (u0+1))))
 (some (Ctl.out (Ctl.next ())))
def Fw (a0 u1:Int) (u0:List (Int×Int×(List Int)×List Int)) (u2 u3:List Int):Option Bool :=
 (Mh a0 u1 u0 u2 u3).bind fun y4 =>
cond (!y4)
 (some false)
 (Dn (Aq (fun s_:Nat=>Hd u0 s_) 4611686018427387904 0) fun _ =>
 some true)
theorem Zc (h:Fw bA bB qA aA aB=some cA):cK 148 [ai bA,.agg [ai bB,.tree Yb qA,tI aA,tI aB]] (Ao cA):=by
 exact cO Tryz.func148 (Ae (Ab (Ab (Aa 7 (rsT 2 (rcH h Add fun y4 h=>rsT 1 (rnW (kQ h (fun _ h=>Ae (Ac (tr_ (jS h)))) fun _ h=>skW (sqC h (fun _=>sT [] []) (fun _ h hk7=>Ae (Ad (lpF h (fun u4=>sT [(12,.tree Yb qA),(13,an qA.length),(14,an u4)] []) (Ag []) (fun n_ u4 c_ h hn9=>Ae (Ab (kQ h (fun _ h=>skW (Ab (Ad (Ab (Aa 7 (riH Yb h fun x15 _ h=>rsB 3 (rnW (Ab (Aa 11 (rsT 2 (rcH h Kd fun y17 h=>rsT 1 (rnW (kQ h (fun _ h=>Ae (Ac (br_ (tr_ (tr_ (br_ (tr_ (have h:=jO h hn9;(have h:=jO h hk7;jS h))))))))) fun _ h=>Ay (bn_ (tn_ (wr_ (Aa 13 (raH h fun h=>rsT 1 (Ap (tn_ (jL []))))))))))))))))))))) fun _ h=>lxT (have h:=jO h hn9;jC []))))))) fun _ h=>Ae (Ac (jS h)))))))))))
def Nc (a2 a3:List Int) (a0:Int) (u0:Nat) (u1:List Int):Option (Ctl (Nat×List Int) (List Int)) :=
 cond (decide ((u0:Int)<(a2.length:Int)))
 ((a2[u0]?).bind fun x12 =>
 (Cl u1 x12).bind fun x13 =>
 (a3[u0]?).bind fun x14 =>
 (Dq a0 x13 x14).bind fun y15 =>
 og (u0+1<4611686018427387904) <|
 some (Ctl.next (u0+1,u1.set x12.toNat y15)))
 (some (Ctl.out u1))
def Cn (a0 a1:Int) (a2 a3:List Int):Option (List Int) :=
 og (0<=a1/\a1<=a1/\a1<=1073741824/\(8:Int)*a1<=140737488355328) <|
(Aq (fun s_:Nat×List Int=>Nc a2 a3 a0 s_.1 s_.2) 4611686018427387904 (0,List.replicate a1.toNat (0:Int))).bind fun u0 =>
some u0
def Adw (r:List Int):RV:=⟨false,[(false,[.frz (tI r)])]⟩
theorem Jf (h:Cn bA bB aA aB=some aC):cK 184 [ai bA,ai bB,tI aA,tI aB] (Adw aC):=by
 refine cZ Tryz.func184 fun zn_ nz_ hz_=>Ae (Ab (Aa 5 (rsT 1 ?_)))
 obtain ⟨g3,h⟩:=Ak h;refine rs1 (oI 13 3 bB.toNat) (oi 13 3) (.arr 3 .int (List.replicate bB.toNat (0:Int))) (N3 (t:=.int) (k:=.i64) (k':=.i64) (m:=bB) (m':=bB) kr kr g3 rfl) (rsT 1 (rnW (sqF h (fun u1=>sT [(9,oI 0 1 u1.length)] [(oi 0 1,.arr 3 .int u1)]) ?_ fun u1 h=>Ae (Ac (jZ h [(false,[oI 0 1 u1.length])] (J2 (B2 (.arr (e:=3) kr rfl)) Dm))))));intro _ h;refine Ae (Ad (lpF h (fun (u2,u0)=>sT [(0,ai bA),(3,tI aB),(9,oI 0 1 u0.length),(14,tI aA),(15,an aA.length),(16,an u2)] [(oi 0 1,.arr 3 .int u0)]) ((wL 9 (List.length_replicate.symm:bB.toNat=(List.replicate bB.toNat (0:Int)).length)).trans (Ag [(oi 0 1,oi 13 3)])) ?_));rintro n_ ⟨u2,u0⟩ c_ h hn6;refine Ae (Ab (kQ h (fun _ h=>skW (Ab (Ad (Ab (Aa 8 (rsT 1 (riH .int h fun x12 _ h=>rsT 3 (rnW (An 22 (dsT 5 ?_)))))))))) fun _ h=>lxT (have h:=jO h hn6;jE [])));obtain ⟨x13,f13,h⟩:=Ah h;obtain ⟨p13,b13,e13⟩:=Ax f13;refine ds0 (.elt (oi 0 1) x12.toNat 0) (zo (t:=.int) (o:=oi 0 1) (len:=u0.length) (k:=.i64) (m:=x12) p13 (Ai e13)) (dzE (oi 0 1) e13 (dz0 (tI aB) (dz0 (an u2) (diH .int h fun x14 _ h=>dz0 (ai x14) (dcH h (fun h=>Oc (Adu h)) fun y15 h=>ds0 (.elt (oi 0 1) x12.toNat 0) (zo (t:=.int) (o:=oi 0 1) (len:=u0.length) (k:=.i64) (m:=x12) p13 (Ai e13)) (dzS (oi 0 1) (y15) e13 (Ct (As kr) (bn_ (tn_ (wr_ (Aa 24 (raH h fun h=>rsT 1 (Ap (tn_ ?_))))))))))))));obtain rfl:=zj h;exact jLw hn6 ((wL 9 (((rfl:u0.length=u0.length).trans List.length_set.symm):u0.length=(u0.set x12.toNat y15).length)).trans (Ag []))
def G0 (a0 a1:Int) (u3 u6:Int) (u4 u5:List Int):Option (LL) :=
 (cond (decide (9<=u3))
  (some (u5,u4,wI (wI (u3 - 9)+3)))
  (some (u4,u5,u3))).bind fun (u1,u0,u2) =>
cond (u2==3)
 ((u0[0]?).bind fun x12 =>
 (u1[0]?).bind fun x13 =>
 (Cn a0 a1 ([x12,x13]) ([1,wI (a0 - 1)])).bind fun y14 =>
 (u0[1]?).bind fun x15 =>
 (Cn a0 a1 ([x15,x13]) ([1,wI (a0 - 1)])).bind fun y16 =>
 some ([y14,y16]))
 (cond (u2==5)
  ((u0[0]?).bind fun x20 =>
  (u1[0]?).bind fun x21 =>
  (u1[1]?).bind fun x22 =>
  (Cn a0 a1 ([x20,x21,x22]) ([1,wI (a0 - 1),wI (a0 - 1)])).bind fun y23 =>
  some ([y23]))
  (cond (u2==6)
   ((u0[0]?).bind fun x27 =>
   (Cn a0 a1 ([x27]) ([1])).bind fun y28 =>
   some ([y28]))
   (cond (u2==7)
    ((u0[0]?).bind fun x32 =>
    (u1[0]?).bind fun x33 =>
    (E7 a0 u6).bind fun y34 =>
    (Cn a0 a1 ([x32,x33]) ([1,y34])).bind fun y35 =>
    some ([y35]))
    (some []))))
def Oh (r:LL):RV:=⟨false,[(false,[.frz (tS r)])]⟩
theorem Ac5 (h:G0 bA bB bC bD aA aB=some dA):cK 174 [ai bA,ai bB,.agg [ai bC,ai bD,tI aA,tI aB]] (Oh dA):=by
 refine cZ Tryz.func174 fun zn_ nz_ hz_=>Ae (Ab (An 9 (dsT 6 (Ct (As kr) (tn_ (wr_ (Ae (sqF h (fun (u0,u2,u6)=>sT [(0,ai bA),(1,ai bB),(5,.box (oi 0 1) 0),(7,tI u0),(8,tI u2),(9,ai u6)] [(oi 0 1,.cells 171 [ai bC,ai bD,tI aA,tI aB])]) (fun _ h=>Ae (kQ h (fun _ h=>An 24 (dsT 10 (Ct (As kr) (tn_ (jE [(oi 0 1,oi 5 1)]))))) fun _ h=>Ay (tn_ (jE [(oi 0 1,oi 5 1)])))) ?_))))))))
 rintro ⟨u0,u2,u6⟩ h;exact Ab (Ae (Ad (Ae (kQ h (fun _ h=>Ab (An 33 (dsT 3 (diH .int h fun x12 _ h=>ds0 (ai x12) kr (ds0 (tI u0) kr (diH .int h fun x13 e13 h=>ds0 (ai x13) kr (ds1 (oI 36 13 2) (oi 36 13) (.arr 3 .int ([x12,x13])) kr (ds0 (ai bA) kr (ds0 (ai (wI (bA - 1))) kr (ds1 (oI 39 16 2) (oi 39 16) (.arr 3 .int ([1,wI (bA - 1)])) kr (dcG h [ai bA,ai bB,oI 36 13 2,oI 39 16 2] (fun h=>Jh hz_ (Jf h)) (Al kr (Al kr (Al (C2 (e:=3) kr rfl) (Al (C2 (e:=3) kr rfl) Bz)))) fun y14 h=>ds0 (ai bA) kr (ds0 (ai bB) kr (ds0 (tI u2) kr (diH .int h fun x15 _ h=>ds0 (ai x15) kr (ds0 (tI u0) kr (diE .int e13 (ds0 (ai x13) kr (ds1 (oI 49 26 2) (oi 49 26) (.arr 3 .int ([x15,x13])) kr (ds0 (ai bA) kr (ds0 (ai (wI (bA - 1))) kr (ds1 (oI 52 29 2) (oi 52 29) (.arr 3 .int ([1,wI (bA - 1)])) kr (dcG h [ai bA,ai bB,oI 49 26 2,oI 52 29 2] (fun h=>Jh hz_ (Jf h)) (Al kr (Al kr (Al (C2 (e:=3) kr rfl) (Al (C2 (e:=3) kr rfl) Bz)))) fun y16 h=>Aps (oS 54 31 2) (oi 54 31) (.vec 81 1 2 (tvC (some nz_) sI ([y14,y16]))) trivial (Ej kr) (ds0 (oS 54 31 2) kr (Ct (As kr) (tn_ (⟨_,E4 (N:=2) (oi 54 31) 81 (some nz_) sI ([y14,y16]) kr rfl,Ac (br_ (tr_ (jZ h [(false,[oS 54 31 2])] (J2 (B2 (.tv (e:=81) kr rfl)) Dm))))⟩)))))))))))))))))))))))))) fun _ h=>Ae (kQ h (fun _ h=>Ab (An 27 (ds0 (ai bA) kr (ds0 (ai bB) kr (ds0 (tI u2) kr (diH .int h fun x20 _ h=>ds0 (ai x20) kr (ds0 (tI u0) kr (diH .int h fun x21 _ h=>ds0 (ai x21) kr (ds0 (tI u0) kr (diH .int h fun x22 _ h=>ds0 (ai x22) kr (ds1 (oI 68 18 3) (oi 68 18) (.arr 3 .int ([x20,x21,x22])) kr (dsT 4 (ds1 (oI 73 23 3) (oi 73 23) (.arr 3 .int ([1,wI (bA - 1),wI (bA - 1)])) kr (dcG h [ai bA,ai bB,oI 68 18 3,oI 73 23 3] (fun h=>Jh hz_ (Jf h)) (Al kr (Al kr (Al (C2 (e:=3) kr rfl) (Al (C2 (e:=3) kr rfl) Bz)))) fun y23 h=>Aps (oS 75 25 1) (oi 75 25) (.vec 81 1 1 (tvC (some nz_) sI ([y23]))) trivial (Ej kr) (ds0 (oS 75 25 1) kr (Ct (As kr) (tn_ (⟨_,E4 (N:=1) (oi 75 25) 81 (some nz_) sI ([y23]) kr rfl,Ac (br_ (tr_ (jZ h [(false,[oS 75 25 1])] (J2 (B2 (.tv (e:=81) kr rfl)) Dm))))⟩)))))))))))))))))) fun _ h=>Ae (kQ h (fun _ h=>Ab (Aa 19 (rsT 3 (riH .int h fun x27 _ h=>rsB 3 (rcG h [ai bA,ai bB,oI 83 14 1,oI 84 15 1] (fun h=>Jh hz_ (Jf h)) (Al kr (Al kr (Al (C2 (e:=3) kr rfl) (Al (C2 (e:=3) kr rfl) Bz)))) fun y28 h=>Lu (oS 86 17 1) (oi 86 17) (.vec 81 1 1 (tvC (some nz_) sI ([y28]))) trivial (Ej kr) (rsT 1 (Ap (tn_ (⟨_,E4 (N:=1) (oi 86 17) 81 (some nz_) sI ([y28]) kr rfl,Ac (br_ (tr_ (jZ h [(false,[oS 86 17 1])] (J2 (B2 (.tv (e:=81) kr rfl)) Dm))))⟩))))))))) fun _ h=>Ae (kQ h (fun _ h=>Ab (An 28 (dsT 3 (diH .int h fun x32 _ h=>ds0 (ai x32) kr (ds0 (tI u0) kr (diH .int h fun x33 _ h=>ds0 (ai x33) kr (ds1 (oI 97 19 2) (oi 97 19) (.arr 3 .int ([x32,x33])) kr (ds0 (ai bA) kr (ds0 (.box (oi 0 1) 1) kr (dsl (ai bD) kr (dcH h (fun h=>Oc (Pm h)) fun y34 h=>ds1 (oI 102 24 2) (oi 102 24) (.arr 3 .int ([1,y34])) kr (dcG h [ai bA,ai bB,oI 97 19 2,oI 102 24 2] (fun h=>Jh hz_ (Jf h)) (Al kr (Al kr (Al (C2 (e:=3) kr rfl) (Al (C2 (e:=3) kr rfl) Bz)))) fun y35 h=>Aps (oS 104 26 1) (oi 104 26) (.vec 81 1 1 (tvC (some nz_) sI ([y35]))) trivial (Ej kr) (ds0 (oS 104 26 1) kr (Ct (As kr) (tn_ (⟨_,E4 (N:=1) (oi 104 26) 81 (some nz_) sI ([y35]) kr rfl,Ac (br_ (tr_ (jZ h [(false,[oS 104 26 1])] (J2 (B2 (.tv (e:=81) kr rfl)) Dm))))⟩)))))))))))))))) fun _ h=>Ay (bn_ (tn_ (wr_ (Ae (Ac (jZ h [(false,[.nils])] (J2 (B2 (t:=sI) (xs:=[]) .nil) Dm))))))))))))))
def Et (u2:List (Int×Int×(List Int)×List Int)) (a0 u3:Int) (u0:Nat) (u1:LL):Option (Ctl (Nat×LL) (LL)) :=
 cond (decide ((u0:Int)<(u2.length:Int)))
 ((u2[u0]?).bind fun x12 =>
 (G0 a0 u3 x12.1 x12.2.1 x12.2.2.1 x12.2.2.2).bind fun y13 =>
 og (u1.length+y13.length<=1073741824/\(u1.length+y13.length)*24<=140737488355328) <|
 og (u0+1<4611686018427387904) <|
 some (Ctl.next (u0+1,u1++y13)))
 (some (Ctl.out u1))
def E1 (a0 u0:Int) (u1:List (Int×Int×(List Int)×List Int)) (u3 u4:List Int):Option (LL) :=
 (Aq (fun s_:Nat×LL=>Et u1 a0 u0 s_.1 s_.2) 4611686018427387904 (0,[])).bind fun u2 =>
(Jm a0 u0 u2).bind fun y17 =>
some y17
theorem Xc (h:E1 bA bB qA aA aB=some dA):Cm Tryz.prog Tab 149 [ai bA,.agg [ai bB,.tree Yb qA,tI aA,tI aB]] [] (oS 0 1 dA.length) [(oi 0 1,.mat 81 (oi 1 1) .int dA),(oi 1 1,.pool 3 .int dA)]:=by
 refine Bg kr Tryz.func149 (Bt kr) (n:=28) kr (by simp) rfl kr trivial ⟨⟨3,.tail _ (.head _)⟩,⟨trivial,trivial⟩⟩ (Ae (Ae (sqF h (fun u3=>sT [(0,ai bA),(3,.box (oi 0 1) 0),(5,oS 1 1 u3.length)] [(oi 0 1,.cells 131 [ai bB,.tree Yb qA,tI aA,tI aB]),(oi 1 1,.tv 81 none sI u3)]) ?_ fun u3 h=>Ab (Aa 8 (rsT 4 (rcM h [] [ai bA,ai bB,oS 1 1 u3.length] Sk trivial (.cons (.ren kr) (.cons (.ren kr) (.cons (.gnd kr (Ah1 (e:=81) (m:=none) (t:=sI) (xs:=u3) ((E0 kr kr kr).trans kr) rfl)) .nil))) (Ar kr kr trivial) fun y17 h=>rsT 1 (rnW (Ac (by obtain rfl:=osj h;exact Cz [oS 0 1 y17.length] (Ag (tl:=[(4,oS 0 1 y17.length)]) (g:=2) [(oi 0 1,oi 432 6),(oi 1 1,oi 433 6)]))))))))));intro _ h;refine Ae (Ad (lpF h (fun (u6,u0)=>sT [(0,ai bA),(3,.box (oi 0 1) 0),(5,oS 1 1 u0.length),(9,.tree Yb qA),(10,an qA.length),(11,an u6)] [(oi 0 1,.cells 131 [ai bB,.tree Yb qA,tI aA,tI aB]),(oi 1 1,.tv 81 none sI u0)]) ((Yg 5 81 none sI kr).trans (Ag [(oi 0 1,oi 3 1),(oi 1 1,oi 5 8)])) ?_));rintro n_ ⟨u6,u0⟩ c_ h hn6;refine Ae (Ab (kQ h (fun _ h=>skW (Ab (Ad (Ab (Aa 7 (riH Yb h fun x12 _ h=>rsB 3 (rnW (Aa 15 (rsT 5 (rcH h Ac5 fun y13 h=>?_)))))))))) fun _ h=>lxT (have h:=jO h hn6;jE [])));obtain ⟨g14,h⟩:=Ak h;refine rs2 (oS 1 13 (u0.length+y13.length)) (oi 1 1) (oi 1 13) (.vec 81 1 (u0.length+y13.length) (tvC none sI (u0++y13))) (Am2 (o:=oi 1 1) (t:=sI) (t':=sI) (len:=u0.length) (N:=u0.length) (m:=none) (xs:=u0) (ys:=y13) kr kr rfl rfl (Afy kr) g14) (rsT 1 (Ap (bn_ (tn_ ⟨_,E4 (N:=u0.length+y13.length) (oi 1 13) 81 none sI (u0++y13) kr (by simp),Aa 17 (raH h fun h=>rsT 1 (Ap (tn_ ?_)))⟩))));obtain rfl:=zj h;exact jLw hn6 ((wL 5 ((by simp):u0.length+y13.length=(u0++y13).length)).trans (Ag [(oi 1 1,oi 1 13)]))
def Iw (a0 a1:List Int) (u0:Nat) (u1:List Int):Option (Ctl (Nat×List Int) (List Int)) :=
 cond (decide ((u0:Int)<(a0.length:Int)))
 ((a0[u0]?).bind fun x11 =>
 (Cl a1 x11).bind fun x12 =>
 og (u1.length+1<=1073741824/\(u1.length+1)*8<=140737488355328) <|
 og (u0+1<4611686018427387904) <|
 some (Ctl.next (u0+1,u1++([x12]))))
 (some (Ctl.out u1))
def Jp (a0 a1:List Int):Option (List Int) :=
 (Aq (fun s_:Nat×List Int=>Iw a0 a1 s_.1 s_.2) 4611686018427387904 (0,[])).bind fun u0 =>
some u0
theorem Abq (h:Jp aA aB=some aC):cK 150 [tI aA,tI aB] (B1 aC):=by
 refine cO Tryz.func150 (Ae (Ae (sqF h (fun u0=>sT [(5,oI 0 1 u0.length)] [(oi 0 1,.arr 3 .int u0)]) ?_ fun u0 h=>Ae (Ac (jR h [oI 0 1 u0.length] (F1 rfl (Dc kr rfl) Fc))))));intro _ h;refine Ae (Ad (lpF h (fun (u2,u1)=>sT [(1,tI aB),(5,oI 0 1 u1.length),(8,tI aA),(9,an aA.length),(10,an u2)] [(oi 0 1,.arr 3 .int u1)]) ((An8 5 3 .int rfl kr).trans (Ag [(oi 0 1,oi 5 6)])) ?_));rintro n_ ⟨u2,u1⟩ c_ h hn5;refine Ae (Ab (kQ h (fun _ h=>skW (Ab (Ad (Ab (Aa 6 (riH .int h fun x11 _ h=>rsT 2 (rnW (Aa 14 (rsT 3 ?_))))))))) fun _ h=>lxT (have h:=jO h hn5;jE [])));obtain ⟨x12,f12,h⟩:=Ah h;obtain ⟨p12,b12,e12⟩:=Ax f12;refine rs0 (.telt none .int x12 0) (zi (t:=.int) (xs:=aB) (k:=.i64) (m:=x11) p12 e12) (rsB 2 ?_);obtain ⟨g13,h⟩:=Ak h;exact zB (oi 0 1) (oi 19 11) u1 (x12) g13 (rsT 1 (Ap (bn_ (tn_ (wr_ (Aa 16 (raH h fun h=>rsT 1 (Ap (tn_ (jL [(oi 0 1,oi 0 12)]))))))))))
def Li (a0:Int) (u1:Nat) (u0:List Int):Option (Ctl (Nat×List Int) (List Int)) :=
 cond (decide ((u1:Int)<a0))
 (og (u0.length+1<=1073741824/\(u0.length+1)*8<=140737488355328) <|
 og (u0.length+1<=1073741824/\(u0.length+1)*8<=140737488355328) <|
 og (u1+1<4611686018427387904) <|
 some (Ctl.next (u1+1,u0++([(u1:Int)]))))
 (some (Ctl.out u0))
def O9 (a0:Int):Option (Int×(List (Int×Int×(List Int)×List Int))×List Int×List Int) :=
 (Aq (fun s_:Nat×List Int=>Li a0 s_.1 s_.2) 4611686018427387904 (0,[])).bind fun u0 =>
some (a0,[],u0,u0)
def Vg (r:Int×(List (Int×Int×(List Int)×List Int))×List Int×List Int):RV:=⟨false,[(true,[.sc (.int .i64 r.1),.frz (.tree Yb r.2.1),.frz (tI r.2.2.1),.frz (tI r.2.2.2)])]⟩
theorem Ae9 (h:O9 bA=some sA):cK 151 [ai bA] (Vg sA):=by
 refine cZ Tryz.func151 fun zn_ nz_ hz_=>Ae (Ae (sqF h (fun u0=>sT [(2,.box (oi 0 1) 0),(3,.box (oi 1 1) 0)] [(oi 0 1,.cells 131 [ai 0,.nils,.nils,.nils]),(oi 1 1,.cells 131 [ai bA,.nils,oI 2 1 u0.length,oI 3 1 u0.length]),(oi 2 1,.arr 3 .int u0),(oi 3 1,.arr 3 .int u0)]) ?_ fun u0 h=>Ae (Ac (jZ h [(true,[ai bA,.nils,oI 2 1 u0.length,oI 3 1 u0.length])] (Gq (Az Cq (Az (B2 (t:=Yb) (xs:=[]) .nil) (Az (B2 (.arr (e:=3) kr rfl)) (Az (B2 (.arr (e:=3) kr rfl)) Gk)))) Dm)))))
 intro _ h;refine Ae (Ad (lpF h (fun (u2,u1)=>sT [(0,ai bA),(2,.box (oi 0 1) 0),(3,.box (oi 1 1) 0),(4,an u2)] [(oi 0 1,.cells 131 [ai 0,.nils,.nils,.nils]),(oi 1 1,.cells 131 [ai bA,.nils,oI 2 1 u1.length,oI 3 1 u1.length]),(oi 2 1,.arr 3 .int u1),(oi 3 1,.arr 3 .int u1)]) ((Cj 9000 (oi 3 4) 2 131 [ai bA,.nils,.nils,.nils] [ai bA,.nils,oI 9000 7 0,.nils] 3 .int rfl kr kr kr).trans ((Cj 9001 (oi 3 4) 3 131 [ai bA,.nils,oI 9000 7 0,.nils] [ai bA,.nils,oI 9000 7 0,oI 9001 8 0] 3 .int rfl kr kr kr).trans (Ag [(oi 0 1,oi 2 1),(oi 1 1,oi 3 4),(oi 2 1,oi 9000 7),(oi 3 1,oi 9001 8)]))) ?_));rintro n_ ⟨u2,u1⟩ c_ h hn5;refine Ab (Ae (kQ h (fun _ h=>skW (Ab (Ad (Ab (Aa 12 (rsB 4 ?_)))))) fun _ h=>lxT (have h:=jO h hn5;jE [])));obtain ⟨g11,h⟩:=Ak h;refine zB (oi 2 1) (oi 15 8) u1 ((u2:Int)) g11 (rsB 2 (rnW (Aa 19 (rsB 4 ?_))));obtain ⟨g12,h⟩:=Ak h;exact zB (oi 3 1) (oi 21 15) u1 ((u2:Int)) g12 (rsB 2 (Ap (bn_ (tn_ (wr_ (Aa 22 (rsT 1 (raH h fun h=>rsT 1 (Ap (tn_ (jL [(oi 2 1,oi 2 9),(oi 3 1,oi 3 16)])))))))))))
def Xu (y12:Int×Int) (u2:Nat) (u0 u1:List Int):Option (Ctl (Nat×List Int×List Int) (List Int×List Int)) :=
 cond (decide ((u2:Int)<wI (y12.1+y12.2)))
 ((cond (decide ((u2:Int)<y12.1))
   (og (u0.length+1<=1073741824/\(u0.length+1)*8<=140737488355328) <|
   og (u0.length+1<=1073741824/\(u0.length+1)*8<=140737488355328) <|
   some (u0++([(u2:Int)]),u1))
   (og (u1.length+1<=1073741824/\(u1.length+1)*8<=140737488355328) <|
   og (u1.length+1<=1073741824/\(u1.length+1)*8<=140737488355328) <|
   some (u0,u1++([(u2:Int)])))).bind fun (u3,u4) =>
 og (u2+1<4611686018427387904) <|
 some (Ctl.next (u2+1,u3,u4)))
 (some (Ctl.out (u0,u1)))
def Mq (u0 u1:Int) (u4:ByteArray):Option (Int×(List (Int×Int×(List Int)×List Int))×List Int×List Int) :=
 cond (u0==1)
 ((O9 u1).bind fun y7 =>
 some (y7.1,y7.2.1,y7.2.2.1,y7.2.2.2))
 (cond (u0==2)
  (some (2,[],[0,1],[1,0]))
  ((G4 u0).bind fun y12 =>
  (Aq (fun s_:Nat×List Int×List Int=>Xu y12 s_.1 s_.2.1 s_.2.2) 4611686018427387904 (0,[],[])).bind fun (u2,u3) =>
  some (wI (y12.1+y12.2),[(u0,u1,u2,u3)],u2,u3)))
theorem Abn (h:Mq bA bB gA=some sA):cK 105 [.agg [ai bA,ai bB,.str gA]] (Vg sA):=by
 refine cZ Tryz.func105 fun zn_ nz_ hz_=>Ae (Ab (Ae (Ad (Ae (kQ h (fun _ h=>Ab (Aa 11 (rsT 2 (rcH h (fun h=>Jh hz_ (Ae9 h)) fun y7 h=>rsB 1 (rnW (Ac (br_ (tr_ (jZ h [(true,[ai y7.1,.ftr nz_ Yb y7.2.1,.ftr nz_ .int y7.2.2.1,.ftr nz_ .int y7.2.2.2])] (Gq (Az Cq (Az (B2 .ftr) (Az (B2 .ftr) (Az (B2 .ftr) Gk)))) Dm)))))))))) fun _ h=>Ae (kQ h (fun _ h=>Ae (Ac (br_ (tr_ (jZ h [(true,[ai 2,.nils,oI 17 9 2,oI 18 10 2])] (Gq (Az Cq (Az (B2 (t:=Yb) (xs:=[]) .nil) (Az (B2 (.arr (e:=3) kr rfl)) (Az (B2 (.arr (e:=3) kr rfl)) Gk)))) Dm)))))) fun _ h=>Ay (bn_ (tn_ (wr_ (Ab (Aa 17 (rsT 2 (rcH h (fun h=>Oc (Ou h)) fun y12 h=>rsT 5 (rnW (Ae (Ae (sqF h (fun (u4,u5)=>sT [(2,.box (oi 0 1) 0),(5,.box (oi 1 1) 0),(6,.box (oi 2 1) 0)] [(oi 0 1,.cells 131 [ai 0,.nils,.nils,.nils]),(oi 1 1,.cells 131 [ai (wI (y12.1+y12.2)),.nils,oI 3 1 u4.length,oI 4 1 u5.length]),(oi 2 1,.cells 171 [ai bA,ai bB,.ftr nz_ .int u4,.ftr nz_ .int u5]),(oi 3 1,.arr 3 .int u4),(oi 4 1,.arr 3 .int u5)]) ?_ ?_)))))))))))))))))
 ·intro _ h;refine Ae (Ad (lpF h (fun (u6,u2,u3)=>sT [(2,.box (oi 0 1) 0),(3,ai y12.1),(4,ai y12.2),(5,.box (oi 1 1) 0),(6,.box (oi 2 1) 0),(7,an u6)] [(oi 0 1,.cells 131 [ai 0,.nils,.nils,.nils]),(oi 1 1,.cells 131 [ai (wI (y12.1+y12.2)),.nils,oI 3 1 u2.length,oI 4 1 u3.length]),(oi 2 1,.cells 171 [ai bA,ai bB,oI 5 1 u2.length,oI 6 1 u3.length]),(oi 3 1,.arr 3 .int u2),(oi 4 1,.arr 3 .int u3),(oi 5 1,.arr 3 .int u2),(oi 6 1,.arr 3 .int u3)]) ((Cj 9000 (oi 5 21) 2 131 [ai (wI (y12.1+y12.2)),.nils,.nils,.nils] [ai (wI (y12.1+y12.2)),.nils,oI 9000 31 0,.nils] 3 .int rfl kr kr kr).trans ((Cj 9001 (oi 5 21) 3 131 [ai (wI (y12.1+y12.2)),.nils,oI 9000 31 0,.nils] [ai (wI (y12.1+y12.2)),.nils,oI 9000 31 0,oI 9001 32 0] 3 .int rfl kr kr kr).trans ((Cj 9002 (oi 6 28) 2 171 [ai bA,ai bB,.nils,.nils] [ai bA,ai bB,oI 9002 33 0,.nils] 3 .int rfl kr kr kr).trans ((Cj 9003 (oi 6 28) 3 171 [ai bA,ai bB,oI 9002 33 0,.nils] [ai bA,ai bB,oI 9002 33 0,oI 9003 34 0] 3 .int rfl kr kr kr).trans (Ag [(oi 0 1,oi 2 2),(oi 1 1,oi 5 21),(oi 3 1,oi 9000 31),(oi 4 1,oi 9001 32),(oi 2 1,oi 6 28),(oi 5 1,oi 9002 33),(oi 6 1,oi 9003 34)]))))) ?_));rintro n_ ⟨u6,u2,u3⟩ c_ h hn17;refine Ab (Ae (kQ h (fun _ h=>skW (sqF h (fun (u7,u8)=>sT [(2,.box (oi 0 1) 0),(3,ai y12.1),(4,ai y12.2),(5,.box (oi 1 1) 0),(6,.box (oi 2 1) 0),(7,an u6)] [(oi 0 1,.cells 131 [ai 0,.nils,.nils,.nils]),(oi 1 1,.cells 131 [ai (wI (y12.1+y12.2)),.nils,oI 3 1 u7.length,oI 4 1 u8.length]),(oi 2 1,.cells 171 [ai bA,ai bB,oI 5 1 u7.length,oI 6 1 u8.length]),(oi 3 1,.arr 3 .int u7),(oi 4 1,.arr 3 .int u8),(oi 5 1,.arr 3 .int u7),(oi 6 1,.arr 3 .int u8)]) ?_ ?_)) fun _ h=>lxT (have h:=jO h hn17;(by obtain rfl:=osj h;exact ((Acc hz_ (ty:=171) (cs:=[ai bA,ai bB,oI 5 1 u2.length,oI 6 1 u3.length]) (t':=.int) (len:=u2.length) (e:=3) (t:=.int) (xs:=u2) (oi 2 1) (oi 5 1) 2 kr rfl kr rfl rfl).trans (Acc hz_ (ty:=171) (cs:=[ai bA,ai bB,.ftr nz_ .int u2,oI 6 1 u3.length]) (t':=.int) (len:=u3.length) (e:=3) (t:=.int) (xs:=u3) (oi 2 1) (oi 6 1) 3 kr rfl kr rfl rfl)).trans (Ag [])))))
  ·intro _ h;refine Ad (Ae (kQ h (fun _ h=>?_) fun _ h=>?_))
   ·refine Ab (Aa 17 (rsB 4 ?_));obtain ⟨g25,h⟩:=Ak h;refine zB (oi 3 1) (oi 48 13) u2 ((u6:Int)) g25 (rsB 2 (rnW (Aa 24 (rsB 4 ?_))));obtain ⟨g26,h⟩:=Ak h;exact zB (oi 5 1) (oi 54 20) u2 ((u6:Int)) g26 (rsB 2 (Ap (bn_ (tn_ (jE [(oi 3 1,oi 3 14),(oi 5 1,oi 5 21)])))))
   refine Ab (Aa 17 (rsB 4 ?_));obtain ⟨g28,h⟩:=Ak h;refine zB (oi 4 1) (oi 60 13) u3 ((u6:Int)) g28 (rsB 2 (rnW (Aa 24 (rsB 4 ?_))));obtain ⟨g29,h⟩:=Ak h;exact zB (oi 6 1) (oi 66 20) u3 ((u6:Int)) g29 (rsB 2 (Ap (bn_ (tn_ (jE [(oi 4 1,oi 4 14),(oi 6 1,oi 6 21)])))))
  rintro ⟨u7,u8⟩ h;exact Aa 5 (rsT 1 (raH h fun h=>rsT 1 (Ap (tn_ (jL [])))))
 rintro ⟨u4,u5⟩ h;exact Ab (Aa 6 (rsT 1 (Lu (.own (oi 70 3) Yb 0 1) (oi 70 3) (.vec 171 4 1 (tvC (some nz_) Yb ([(bA,bB,u4,u5)]))) trivial (Ej kr) (rsB 2 (Ap (tn_ ⟨_,E4 (N:=1) (oi 70 3) 171 (some nz_) Yb ([(bA,bB,u4,u5)]) kr rfl,Ae (Ac (jZ h [(true,[ai (wI (y12.1+y12.2)),.own (oi 70 3) Yb 0 1,oI 3 1 u4.length,oI 4 1 u5.length])] (Gq (Az Cq (Az (B2 (.tv (e:=171) kr rfl)) (Az (B2 (.arr (e:=3) kr rfl)) (Az (B2 (.arr (e:=3) kr rfl)) Gk)))) Dm)))⟩))))))
end Go.Proofs.YthlpchhhinipaaaGreatDoor


namespace Go.Proofs.YthlpchhhinipaaaGreatDoor
open Go.RowKit Go.Deep
set_option maxRecDepth 4000
set_option maxHeartbeats 4800000
variable {bA bB bC:Int} {qA:List (Int×Int×(List Int)×List Int)} {aA aB:List Int} {tA:Int×Int×LL×Bool} {gA:ByteArray} {pA:Int×Int×LL} {hA hB:List (Int×Int×ByteArray)} {dA dB:LL} {uA:ByteArray×(List (Int×Int×ByteArray))×Int×Int×LL} {vA:ByteArray×(List (Int×Int×ByteArray))×Int×Int×LL×Bool}
def C7 (y13:LL) (y8 u2:List Int) (u0:Nat) (u1:LL):Option (Ctl (Nat×LL) (LL)) :=
 cond (decide ((u0:Int)<(y13.length:Int)))
 ((y13[u0]?).bind fun x20 =>
 (Jp (y8++u2) x20).bind fun y21 =>
 og (u1.length+1<=1073741824/\(u1.length+1)*24<=140737488355328) <|
 og (u0+1<4611686018427387904) <|
 some (Ctl.next (u0+1,u1++[y21])))
 (some (Ctl.out u1))
def Ev (a0 u2:Int) (u3:List (Int×Int×(List Int)×List Int)) (u1 u0:List Int):Option (Int×Int×LL×Bool) :=
 (Fw a0 u2 u3 u1 u0).bind fun y4 =>
cond (!y4)
 (some (0,0,[],false))
 ((Gn u1).bind fun y8 =>
 og (y8.length+u0.length<=1073741824/\(y8.length+u0.length)*8<=140737488355328) <|
 ((E1 a0 u2 u3 u1 u0).bind fun y13 =>
  Aq (fun s_:Nat×LL=>C7 y13 y8 u0 s_.1 s_.2) 4611686018427387904 (0,([]:LL))).bind fun u4 =>
 (Km a0 (u1.length:Int) (u0.length:Int) u4).bind fun y25 =>
 some (y25.1,y25.2.1,y25.2.2,true))
def Ri (r:Int×Int×LL×Bool):RV:=⟨true,[(true,[.sc (.int .i64 r.1),.sc (.int .i64 r.2.1),.frz (tS r.2.2.1)]),(false,[.sc (.bool r.2.2.2)])]⟩
theorem Za (h:Ev bA bB qA aA aB=some tA):cK 104 [ai bA,.agg [ai bB,.tree Yb qA,tI aA,tI aB]] (Ri tA):=by
 refine cZ Tryz.func104 fun zn_ nz_ hz_=>Ae (Ab (Ab (Aa 8 (rsT 2 (rcH h (fun h=>Oc (Zc h)) fun y4 h=>rsT 1 (rnW (kQ h (fun _ h=>Ae (Ac (tr_ (jZ h [(true,[ai 0,ai 0,.nils]),(false,[.bool false])] (Gq (Az Cq (Az Cq (Az (B2 (t:=sI) (xs:=[]) .nil) Gk))) (J2 Cq Dm)))))) fun _ h=>skW (Ab (An 15 (dz0 (.box (oi 3 1) 2) (dzl (tI aA) (dcH h (fun h=>Oc (Mk h)) fun y8 h=>dz0 (.box (oi 3 1) 3) (dzl (tI aB) ?_)))))))))))))
 obtain ⟨g9,h⟩:=Ak h;refine ds2 (oI 272 13 ((y8++aB).length)) (oi 272 10) (oi 272 13) (.arr 3 .int (y8++aB)) (Nh (t:=.int) (t':=.int) (xs:=y8) (ys:=aB) (zs:=y8++aB) (j:=oi 272 10) (len:=y8.length) (c:=tI aB) kr kr rfl kr Hm rfl g9) (dz0 (oI 272 13 ((y8++aB).length)) (Ct (As kr) (tn_ (wr_ (Ae (sqF h (fun u3=>sT [(0,ai bA),(3,.box (oi 0 1) 0),(4,.box (oi 1 1) 0),(7,oS 2 1 u3.length)] [(oi 0 1,.cells 131 [ai bB,.tree Yb qA,tI aA,tI aB]),(oi 1 1,.cells 30 [ai 0,ai 0,.nils]),(oi 2 1,.mat 81 (oi 3 1) .int u3),(oi 3 1,.pool 3 .int u3)]) ?_ fun u3 h=>Ab (Aa 13 (rsT 8 (rcG h [ai bA,an aA.length,an aB.length,oS 2 1 u3.length] (fun h=>Jh hz_ (Q9 h)) (Al kr (Al kr (Al kr (Al (F6 (p:=oi 3 1) (e1:=81) (e:=3) (u:=.int) (xss:=u3) kr (Br kr) rfl) Bz)))) fun y25 h=>rsB 2 (rnW (Ac (jZ h [(true,[ai y25.1,ai y25.2.1,.ftr nz_ sI y25.2.2]),(false,[.bool true])] (Gq (Az Cq (Az Cq (Az (B2 .ftr) Gk))) (J2 Cq Dm))))))))))))));intro _ h;refine Ab (Aa 21 (rsT 2 (rcM h [] [ai bA,.agg [ai bB,.tree Yb qA,tI aA,tI aB]] (fun h=>Aj6 (Xc h)) trivial (aR kr) (Ar kr kr trivial) fun y13 h=>rsT 2 (rnW (Ad (lpF h (fun (u6,u1)=>sT [(0,ai bA),(3,.box (oi 0 1) 0),(4,.box (oi 1 1) 0),(6,oI 2 1 ((y8++aB).length)),(7,oS 3 1 u1.length),(23,oS 5 1 y13.length),(24,an y13.length),(25,an u6)] [(oi 0 1,.cells 131 [ai bB,.tree Yb qA,tI aA,tI aB]),(oi 1 1,.cells 30 [ai 0,ai 0,.nils]),(oi 2 1,.arr 3 .int (y8++aB)),(oi 3 1,.mat 81 (oi 4 1) .int u1),(oi 4 1,.pool 3 .int u1),(oi 5 1,.mat 81 (oi 6 1) .int y13),(oi 6 1,.pool 3 .int y13)]) ((Lz 7 81 sI kr).trans ((Dk (e1:=81) (n:=0) 9000 (oi 7 21) 3 .int kr kr rfl kr kr).trans (Ag [(oi 0 1,oi 3 1),(oi 1 1,oi 4 2),(oi 2 1,oi 272 13),(oi 3 1,oi 7 21),(oi 4 1,oi 9000 22),(oi 5 1,oi 368 18),(oi 6 1,oi 369 18)]))) ?_))))));rintro n_ ⟨u6,u1⟩ c_ h hn14;refine Ae (Ab (kQ h (fun _ h=>skW (Ab (Ad (Ab (Aa 6 ?_))))) fun _ h=>lxT (have h:=jO h hn14;jE [(oi 2 1,oi 3 1),(oi 3 1,oi 4 1)])));obtain ⟨x20,e20,h⟩:=Ah h;refine zO (oi 5 1) sI y13.length (Ai e20) (rsl (.own (kid (oi 6 1) u6) .int 0 x20.length) (Ec (o:=oi 5 1) (p:=oi 6 1) (e1:=81) (u:=.int) (xss:=y13) (row:=x20) (j:=u6) kr kr e20) (rsT 1 (rnW (Aa 13 (rsT 3 (rcG h [oI 2 1 ((y8++aB).length),.own (kid (oi 6 1) u6) .int 0 x20.length] (fun h=>Oc (Abq h)) (Al (C2 (e:=3) kr rfl) (Al (C2 (e:=3) (u:=.int) (xs:=x20) (Be kr e20) rfl) Bz)) fun y21 h=>Lu (oS 33 10 1) (oi 33 10) (.vec 81 1 1 ([oI 512 9 y21.length])) trivial (Ej kr) ?_))))));obtain ⟨g22,h⟩:=Ak h;refine zV (oi 3 1) (oi 33 10) (oi 4 1) u1 [oI 512 9 y21.length] g22 (rsT 1 (Ap (bn_ (tn_ ⟨_,D3 (e1:=81) (e:=3) (u:=.int) (n:=u1.length+1) (len:=y21.length) (row:=y21) (ys:=y21) (xss:=u1) 9000 (oi 3 11) (oi 4 1) (oi 512 9) kr kr rfl kr kr (M6 rfl) (M2 rfl) kr kr kr,Aa 16 (raH h fun h=>rsT 1 (Ap (tn_ ?_)))⟩))));obtain rfl:=zj h;exact jLw hn14 ((wL 7 ((by simp):u1.length+1=(u1++[y21]).length)).trans (Ag [(oi 3 1,oi 3 11),(oi 4 1,oi 9000 13)]))
def Bp (a0 u0 u1:Int) (u2:ByteArray):Option (Int×Int×LL) :=
 (Mq u0 u1 u2).bind fun y3 =>
(Ev a0 y3.1 y3.2.1 y3.2.2.1 y3.2.2.2).bind fun y4 =>
some (y4.1,y4.2.1,y4.2.2.1)
theorem Aaf (h:Bp bA bB bC gA=some pA):cK 59 [ai bA,.agg [ai bB,ai bC,.str gA]] (Iy pA):=by
 exact cZ Tryz.func59 fun zn_ nz_ hz_=>Ae (Ab (Aa 13 (rsT 2 (rcH h (fun h=>Jh hz_ (Abn h)) fun y3 h=>rcH h (fun h=>Jh hz_ (Za h)) fun y4 h=>rsB 6 (rnW (Ae (Ac (jZ h [(true,[ai y4.1,ai y4.2.1,.ftr nz_ sI y4.2.2.1])] (Gq (Az Cq (Az Cq (Az (B2 .ftr) Gk))) Dm)))))))))
def Fy (u2:List (Int×Int×ByteArray)) (a0:Int) (u1:Nat) (u0:List (Int×Int×LL)):Option (Ctl (Nat×(List (Int×Int×LL))) (Ctl (List (Int×Int×LL)) (Int×Int×LL×Bool))) :=
 cond (decide ((u1:Int)<(u2.length:Int)))
 (Dn ((u2[u1]?).bind fun x16 =>
  (Ci x16.1).bind fun y19 =>
  cond (!y19)
   (some (Ctl.out (Ctl.out (Ctl.out (0,0,[],false)))))
   ((cond (x16.1 !=15)
     (some (x16.1 !=16))
     (some false)).bind fun u3 =>
   cond u3
    ((Bp a0 x16.1 x16.2.1 x16.2.2).bind fun y27 =>
    og (u0.length+1<=1073741824/\(u0.length+1)*40<=140737488355328) <|
    some (Ctl.next (u0++[y27])))
    ((Cl u0 (wI ((u0.length:Int) - 2))).bind fun x30 =>
    (Cl u0 (wI ((u0.length:Int) - 2))).bind fun x31 =>
    (Cl u0 (wI ((u0.length:Int) - 1))).bind fun x32 =>
    (Cl u0 (wI ((u0.length:Int) - 1))).bind fun x33 =>
    og ((0:Int)<=0/\0<=wI ((u0.length:Int) - 2)/\wI ((u0.length:Int) - 2)<=(u0.length:Int)) <|
    cond (x16.1==15)
     ((F7 a0 x31.1 x31.2.1 x31.2.2 x33.1 x33.2.1 x33.2.2).bind fun y38 =>
     og ((wI ((u0.length:Int) - 2)).toNat<=u0.length/\(wI ((u0.length:Int) - 2)).toNat+1<=1073741824/\((wI ((u0.length:Int) - 2)).toNat+1)*40<=140737488355328) <|
     some (Ctl.next (u0.take ((wI ((u0.length:Int) - 2)).toNat)++[y38])))
     ((Gw a0 x31.1 x31.2.1 x31.2.2 x33.1 x33.2.1 x33.2.2).bind fun y40 =>
     og ((wI ((u0.length:Int) - 2)).toNat<=u0.length/\(wI ((u0.length:Int) - 2)).toNat+1<=1073741824/\((wI ((u0.length:Int) - 2)).toNat+1)*40<=140737488355328) <|
     some (Ctl.next (u0.take ((wI ((u0.length:Int) - 2)).toNat)++[y40])))))) fun u4 =>
 og (u1+1<4611686018427387904) <|
 some (Ctl.next (u1+1,u4)))
 (some (Ctl.out (Ctl.next u0)))
def P4 (a0:Int) (u0:List (Int×Int×ByteArray)):Option (Int×Int×LL×Bool) :=
 (Jr a0 u0).bind fun y4 =>
cond (!y4)
 (some (0,0,[],false))
 (Dn (Aq (fun s_:Nat×(List (Int×Int×LL))=>Fy u0 a0 s_.1 s_.2) 4611686018427387904 (0,[])) fun u1 =>
 (u1[0]?).bind fun x44 =>
 some (x44.1,x44.2.1,x44.2.2,true))
theorem Abd (h:P4 bA hA=some tA):cK 83 [ai bA,.agg [.tree Y8 hA]] (Ri tA):=by
 refine cZ Tryz.func83 fun zn_ nz_ hz_=>Ae (Ab (Ab (Aa 8 (rsT 2 (rcH h (fun h=>Oc (R9 h)) fun y4 h=>rsT 1 (rnW (kQ h (fun _ h=>Ae (Ac (tr_ (jZ h [(true,[ai 0,ai 0,.nils]),(false,[.bool false])] (Gq (Az Cq (Az Cq (Az (B2 (t:=sI) (xs:=[]) .nil) Gk))) (J2 Cq Dm)))))) fun _ h=>skW (Ae (sqC h (fun u2=>sT [(4,.box (oi 0 1) 0),(6,.own (oi 1 1) Y9 0 u2.length)] [(oi 0 1,.cells 30 [ai 0,ai 0,.nils]),(oi 1 1,.tv 30 (some nz_) Y9 u2)]) ?_ ?_)))))))))
 ·intro _ h hk8;refine Ae (Ad (lpF h (fun (u3,u0)=>sT [(0,ai bA),(4,.box (oi 0 1) 0),(6,.own (oi 1 1) Y9 0 u0.length),(17,.tree Y8 hA),(18,an hA.length),(19,an u3)] [(oi 0 1,.cells 30 [ai 0,ai 0,.nils]),(oi 1 1,.tv 30 (some nz_) Y9 u0)]) ((Yg 6 30 (some nz_) Y9 kr).trans (Ag [(oi 0 1,oi 4 2),(oi 1 1,oi 6 13)])) ?_));rintro n_ ⟨u3,u0⟩ c_ h hn10
  (try dsimp only at h);refine Ae (Ab (kQ h (fun q13 h=>?_) fun q13 h=>?_))
  ·have q13_:=of_decide_eq_true q13;refine skW (sqC h (fun u4=>sT [(0,ai bA),(4,.box (oi 0 1) 0),(6,.own (oi 1 1) Y9 0 u4.length),(17,.tree Y8 hA),(18,an hA.length),(19,an u3)] [(oi 0 1,.cells 30 [ai 0,ai 0,.nils]),(oi 1 1,.tv 30 (some nz_) Y9 u4)]) ?_ ?_)
   ·intro _ h hk14;refine Ad (Ab (Aa 7 (riH Y8 h fun x16 _ h=>rsB 3 (rnW (Ab (Ab (Aa 11 (rsT 2 (rcH h (fun h=>Oc (Kd h)) fun y19 h=>rsT 1 (rnW (kQ h (fun _ h=>?_) fun _ h=>?_)))))))))))
    ·refine Ae (Ac (tr_ (br_ (tr_ (tr_ (br_ (tr_ ?_)))))));have h:=jO h hk14
     (try dsimp only at h);have h:=jO h hn10
     (try dsimp only at h);have h:=jO h hk8
     (try dsimp only at h);exact jZ h [(true,[ai 0,ai 0,.nils]),(false,[.bool false])] (Gq (Az Cq (Az Cq (Az (B2 (t:=sI) (xs:=[]) .nil) Gk))) (J2 Cq Dm))
    refine skW (Ab (sqF h (fun u5=>sT [(0,ai bA),(4,.box (oi 0 1) 0),(6,.own (oi 1 1) Y9 0 u0.length),(8,.box (oi 2 1) 0),(17,.tree Y8 hA),(18,an hA.length),(19,an u3),(35,.bool u5)] [(oi 0 1,.cells 30 [ai 0,ai 0,.nils]),(oi 1 1,.tv 30 (some nz_) Y9 u0),(oi 2 1,.cells 88 [ai x16.1,ai x16.2.1,.str x16.2.2])]) (fun _ h=>Aa 19 (rsT 4 (kR h 31 (fun _ h=>rsT 4 (Ap (tn_ (jE [(oi 2 1,oi 8 5)])))) fun _ h=>rsT 4 (Ap (tn_ (jE [(oi 2 1,oi 8 5)])))))) ?_));intro u5 h
    (try dsimp only at h);refine kQ h (fun _ h=>?_) fun _ h=>?_
    ·refine Ab (Aa 9 (rsT 3 (rcH h (fun h=>Jh hz_ (Aaf h)) fun y27 h=>Lu (.own (oi 40 6) Y9 0 1) (oi 40 6) (.vec 30 3 1 (tvC (some nz_) Y9 ([y27]))) trivial (Ej kr) ?_)));obtain ⟨g28,h⟩:=Ak h;refine rs2 (.own (oi 1 7) Y9 0 (u0.length+1)) (oi 1 1) (oi 1 7) (.vec 30 3 (u0.length+1) (tvC (some nz_) Y9 (u0++[y27]))) (Afq (t':=Y9) (t:=Y9) (t2:=Y9) (e2:=30) (q:=oi 40 6) (m:=some nz_) (z:=y27) (o:=oi 1 1) (xs:=u0) (len:=u0.length) kr kr rfl kr kr g28) (rsT 1 (Ap (tn_ ⟨_,E4 (N:=u0.length+1) (oi 1 7) 30 (some nz_) Y9 (u0++[y27]) kr (by simp),D2 (te_ (be_ (tn_ ?_)))⟩)));obtain rfl:=zj h;exact ⟨_,rfl,(wL 6 ((by simp):u0.length+1=(u0++[y27]).length)).trans (Ag [(oi 1 1,oi 1 7)])⟩
    refine skW (Ab (An 18 (dsT 4 ?_)));obtain ⟨x30,f30,h⟩:=Ah h;obtain ⟨p30,b30,e30⟩:=Ax f30;refine ds0 (.elt (oi 1 1) ((wI ((u0.length:Int) - 2)).toNat) 0) (zo (t:=Y9) (o:=oi 1 1) (len:=u0.length) (k:=.i64) (m:=wI ((u0.length:Int) - 2)) p30 (Ai e30)) ?_;obtain ⟨x31,f31,h⟩:=Ah h;obtain ⟨p31,b31,e31⟩:=Ax f31;refine dsl (.agg [ai x31.1,ai x31.2.1,.ftr nz_ sI x31.2.2]) (Amy (o:=oi 1 1) (k:=0) (e1:=30) (N:=List.length u0) (t:=Y9) (m:=some nz_) (xs:=u0) (z:=x31) kr kr e31 kr (Nat.le_of_ble_eq_true kr)) (dz0 (.own (oi 1 1) Y9 0 u0.length) (dz0 (.own (oi 1 1) Y9 0 u0.length) (dz0 (an u0.length) (dz0 (ai (wI ((u0.length:Int) - 1))) ?_))));obtain ⟨x32,f32,h⟩:=Ah h;obtain ⟨p32,b32,e32⟩:=Ax f32;refine ds0 (.elt (oi 1 1) ((wI ((u0.length:Int) - 1)).toNat) 0) (zo (t:=Y9) (o:=oi 1 1) (len:=u0.length) (k:=.i64) (m:=wI ((u0.length:Int) - 1)) p32 (Ai e32)) ?_;obtain ⟨x33,f33,h⟩:=Ah h;obtain ⟨p33,b33,e33⟩:=Ax f33;refine dsl (.agg [ai x33.1,ai x33.2.1,.ftr nz_ sI x33.2.2]) (Amy (o:=oi 1 1) (k:=0) (e1:=30) (N:=List.length u0) (t:=Y9) (m:=some nz_) (xs:=u0) (z:=x33) kr kr e33 kr (Nat.le_of_ble_eq_true kr)) (ds1 (.box (oi 9 14) 0) (oi 9 14) (.cells 30 [ai 0,ai 0,.nils]) kr (ds1 (.box (oi 10 15) 0) (oi 10 15) (.cells 30 [ai 0,ai 0,.nils]) kr (M9 (oi 9 14) (oi 9 14) (.cells 30 [ai x31.1,ai x31.2.1,.ftr nz_ sI x31.2.2]) kr (M9 (oi 10 15) (oi 10 15) (.cells 30 [ai x33.1,ai x33.2.1,.ftr nz_ sI x33.2.2]) kr (Ct (As kr) (tn_ (wr_ (Ab (Aa 24 (rsT 4 ?_))))))))));obtain ⟨g35,h⟩:=Ak h;refine rs0 (.own (oi 1 1) Y9 0 ((wI ((u0.length:Int) - 2)).toNat)) (Jj (t:=Y9) (i:=oi 1 1) (off:=0) (len:=u0.length) (l:=0) (h:=wI ((u0.length:Int) - 2)) kr kr kr rfl g35 rfl oM) (rsT 1 (rnW (Ae (kQ h (fun _ h=>?_) fun _ h=>?_))))
    ·refine Aa 35 (rsT 4 (rcH h (fun h=>Jh hz_ (V4 h)) fun y38 h=>Lu (.own (oi 67 32) Y9 0 1) (oi 67 32) (.vec 30 3 1 (tvC (some nz_) Y9 ([y38]))) trivial (Ej kr) ?_));obtain ⟨g39,h⟩:=Ak h;refine rs2 (.own (oi 1 33) Y9 0 ((wI ((u0.length:Int) - 2)).toNat+1)) (oi 1 1) (oi 1 33) (.vec 30 3 ((wI ((u0.length:Int) - 2)).toNat+1) (tvC (some nz_) Y9 (u0.take ((wI ((u0.length:Int) - 2)).toNat)++[y38]))) (Alt (o:=oi 1 1) (q:=oi 67 32) (e2:=30) (t:=Y9) (t':=Y9) (t2:=Y9) (len:=(wI ((u0.length:Int) - 2)).toNat) (N:=u0.length) (m:=some nz_) (xs:=u0) (z:=y38) kr kr rfl kr kr g39) (rsT 1 (Ap (bn_ (tn_ ?_))));obtain rfl:=zj h;exact ⟨_,rfl,(E4 (N:=(wI ((u0.length:Int) - 2)).toNat+1) (oi 1 33) 30 (some nz_) Y9 (u0.take ((wI ((u0.length:Int) - 2)).toNat)++[y38]) kr (Ae2 rfl g39)).trans ((wL 6 ((Ae2 rfl g39):(wI ((u0.length:Int) - 2)).toNat+1=(u0.take ((wI ((u0.length:Int) - 2)).toNat)++[y38]).length)).trans (Ag [(oi 1 1,oi 1 33)]))⟩
    refine Aa 35 (rsT 4 (rcH h (fun h=>Jh hz_ (Ww h)) fun y40 h=>Lu (.own (oi 74 32) Y9 0 1) (oi 74 32) (.vec 30 3 1 (tvC (some nz_) Y9 ([y40]))) trivial (Ej kr) ?_));obtain ⟨g41,h⟩:=Ak h;refine rs2 (.own (oi 1 33) Y9 0 ((wI ((u0.length:Int) - 2)).toNat+1)) (oi 1 1) (oi 1 33) (.vec 30 3 ((wI ((u0.length:Int) - 2)).toNat+1) (tvC (some nz_) Y9 (u0.take ((wI ((u0.length:Int) - 2)).toNat)++[y40]))) (Alt (o:=oi 1 1) (q:=oi 74 32) (e2:=30) (t:=Y9) (t':=Y9) (t2:=Y9) (len:=(wI ((u0.length:Int) - 2)).toNat) (N:=u0.length) (m:=some nz_) (xs:=u0) (z:=y40) kr kr rfl kr kr g41) (rsT 1 (Ap (bn_ (tn_ ?_))));obtain rfl:=zj h;exact ⟨_,rfl,(E4 (N:=(wI ((u0.length:Int) - 2)).toNat+1) (oi 1 33) 30 (some nz_) Y9 (u0.take ((wI ((u0.length:Int) - 2)).toNat)++[y40]) kr (Ae2 rfl g41)).trans ((wL 6 ((Ae2 rfl g41):(wI ((u0.length:Int) - 2)).toNat+1=(u0.take ((wI ((u0.length:Int) - 2)).toNat)++[y40]).length)).trans (Ag [(oi 1 1,oi 1 33)]))⟩
   intro u4 h
   (try dsimp only at h);refine Aa 4 ?_;obtain ⟨g42,h⟩:=Ak h;exact zA g42 (rsT 1 (Ap (tn_ (jL []))))
  have q13_:=of_decide_eq_false q13;refine lxT ?_;have h:=jO h hn10
  (try dsimp only at h);exact jC []
 intro u2 h
 (try dsimp only at h);refine Ab (Aa 7 (rsT 1 ?_));obtain ⟨x44,e44,h⟩:=Ah h;exact rs0 (.elt (oi 1 1) 0 0) (Acn (t:=Y9) (o:=oi 1 1) (len:=u2.length) (k:=.i64) (m:=0) kr kr rfl (by decide) rfl (Ai e44)) (rsl (.agg [ai x44.1,ai x44.2.1,.ftr nz_ sI x44.2.2]) (Amy (o:=oi 1 1) (k:=0) (e1:=30) (N:=List.length u2) (t:=Y9) (m:=some nz_) (xs:=u2) (z:=x44) kr kr e44 kr (Nat.le_of_ble_eq_true kr)) (rsB 2 (rnW (Ac (jZ h [(true,[ai x44.1,ai x44.2.1,.ftr nz_ sI x44.2.2]),(false,[.bool true])] (Gq (Az Cq (Az Cq (Az (B2 .ftr) Gk))) (J2 Cq Dm)))))))
def L7 (a0:Int) (u1:ByteArray) (u0:List (Int×Int×ByteArray)) (u2 u3:Int) (u4:LL):Option (Int×Int×LL) :=
 (P4 a0 u0).bind fun y3 =>
some (y3.1,y3.2.1,y3.2.2.1)
theorem Aar (h:L7 bA gA hA bB bC dA=some pA):cK 45 [ai bA,.agg [.str gA,.tree Y8 hA,ai bB,ai bC,tS dA]] (Iy pA):=by
 exact cZ Tryz.func45 fun zn_ nz_ hz_=>Ae (Ab (Aa 13 (rsT 3 (rcH h (fun h=>Jh hz_ (Abd h)) fun y3 h=>rsB 6 (rnW (Ae (Ac (jZ h [(true,[ai y3.1,ai y3.2.1,.ftr nz_ sI y3.2.2.1])] (Gq (Az Cq (Az Cq (Az (B2 .ftr) Gk))) Dm)))))))))
def Q1 (a0:List (Int×Int×ByteArray)):Option (List (Int×Int×ByteArray)) :=
 og (0+a0.length<=1073741824/\(0+a0.length)*32<=140737488355328) <|
some a0
def Adr (r:List (Int×Int×ByteArray)):RV:=⟨false,[(true,[.frz (.tree Y8 r)])]⟩
theorem Adx (h:Q1 hA=some hB):cK 81 [.tree Y8 hA] (Adr hB):=by
 refine cZ Tryz.func81 fun zn_ nz_ hz_=>Ae (Ab (Aa 7 (rsB 2 ?_)))
 obtain ⟨g3,h⟩:=Ak h;exact rs2 (.own (oi 3 4) Y8 0 hA.length) (oi 3 2) (oi 3 4) (.arr 88 Y8 hA) (Nh (t:=Y8) (t':=Y8) (xs:=[]) (ys:=hA) (zs:=hA) (j:=oi 3 2) (len:=0) (c:=.tree Y8 hA) kr kr rfl kr Hm rfl g3) (rsB 2 (rnW (Ac (jZ h [(true,[.own (oi 3 4) Y8 0 hA.length])] (Gq (Az (B2 (.arr (e:=88) kr rfl)) Gk) Dm)))))
def Is (a0:LL) (u0:Nat) (u1:LL):Option (Ctl (Nat×LL) (LL)) :=
 cond (decide ((u0:Int)<(a0.length:Int)))
 ((a0[u0]?).bind fun x11 =>
 (Gn x11).bind fun y12 =>
 og (u1.length+1<=1073741824/\(u1.length+1)*24<=140737488355328) <|
 og (u0+1<4611686018427387904) <|
 some (Ctl.next (u0+1,u1++[y12])))
 (some (Ctl.out u1))
def Mm (a0:LL):Option (LL) :=
 (Aq (fun s_:Nat×LL=>Is a0 s_.1 s_.2) 4611686018427387904 (0,([]:LL))).bind fun u0 =>
some u0
theorem Abw (h:Mm dA=some dB):cK 82 [tS dA] (Oh dB):=by
 refine cZ Tryz.func82 fun zn_ nz_ hz_=>Ae (Ae (sqF h (fun u1=>sT [(3,oS 0 1 u1.length)] [(oi 0 1,.mat 81 (oi 1 1) .int u1),(oi 1 1,.pool 3 .int u1)]) ?_ fun u1 h=>Ae (Ac (jZ h [(false,[oS 0 1 u1.length])] (J2 (B2 (.mat (p:=oi 1 1) (e1:=81) (e:=3) kr (Br kr) rfl)) Dm)))))
 intro _ h;refine Ae (Ad (lpF h (fun (u2,u0)=>sT [(3,oS 0 1 u0.length),(6,tS dA),(7,an dA.length),(8,an u2)] [(oi 0 1,.mat 81 (oi 1 1) .int u0),(oi 1 1,.pool 3 .int u0)]) ((Lz 3 81 sI kr).trans ((Dk (e1:=81) (n:=0) 9000 (oi 3 6) 3 .int kr kr rfl kr kr).trans (Ag [(oi 0 1,oi 3 6),(oi 1 1,oi 9000 7)]))) ?_));rintro n_ ⟨u2,u0⟩ c_ h hn5;refine Ae (Ab (kQ h (fun _ h=>skW (Ab (Ad (Ab (Aa 6 (riH sI h fun x11 _ h=>rsT 2 (rnW (Aa 12 (rsT 2 (rcH h (fun h=>Oc (Mk h)) fun y12 h=>Lu (oS 15 9 1) (oi 15 9) (.vec 81 1 1 ([oI 224 8 y12.length])) trivial (Ej kr) ?_)))))))))) fun _ h=>lxT (have h:=jO h hn5;jE [])));obtain ⟨g13,h⟩:=Ak h;refine zV (oi 0 1) (oi 15 9) (oi 1 1) u0 [oI 224 8 y12.length] g13 (rsT 1 (Ap (bn_ (tn_ ⟨_,D3 (e1:=81) (e:=3) (u:=.int) (n:=u0.length+1) (len:=y12.length) (row:=y12) (ys:=y12) (xss:=u0) 9000 (oi 0 10) (oi 1 1) (oi 224 8) kr kr rfl kr kr (M6 rfl) (M2 rfl) kr kr kr,Aa 15 (raH h fun h=>rsT 1 (Ap (tn_ ?_)))⟩))));obtain rfl:=zj h;exact jLw hn5 ((wL 3 ((by simp):u0.length+1=(u0++[y12]).length)).trans (Ag [(oi 0 1,oi 0 10),(oi 1 1,oi 9000 12)]))
def Ib (u0 u1:Int) (u2:LL):Option (Int×Int×LL) :=
 (Mm u2).bind fun y3 =>
some (u0,u1,y3)
theorem Ua (h:Ib bA bB dA=some pA):cK 44 [.agg [ai bA,ai bB,tS dA]] (Iy pA):=by
 exact cZ Tryz.func44 fun zn_ nz_ hz_=>Ae (Ab (An 12 (dsT 6 (dcH h (fun h=>Jh hz_ (Abw h)) fun y3 h=>dz0 (.agg [ai bA,ai bB,.ftr nz_ sI y3]) (M9 (oi 2 2) (oi 2 2) (.cells 30 [ai bA,ai bB,.ftr nz_ sI y3]) kr (Ct (As kr) (tn_ (wr_ (Ac (jZ h [(true,[ai bA,ai bB,.ftr nz_ sI y3])] (Gq (Az Cq (Az Cq (Az (B2 .ftr) Gk))) Dm)))))))))))
def Ms (u0:ByteArray) (u1:List (Int×Int×ByteArray)) (u2 u3:Int) (u4:LL):Option (ByteArray×(List (Int×Int×ByteArray))×Int×Int×LL) :=
 (Q1 u1).bind fun y3 =>
(Ib u2 u3 u4).bind fun y4 =>
some (u0,y3,y4.1,y4.2.1,y4.2.2)
def Ac3 (r:ByteArray×(List (Int×Int×ByteArray))×Int×Int×LL):RV:=⟨false,[(true,[.sc (.str r.1),.frz (.tree Y8 r.2.1),.sc (.int .i64 r.2.2.1),.sc (.int .i64 r.2.2.2.1),.frz (tS r.2.2.2.2)])]⟩
theorem Aab (h:Ms gA hA bA bB dA=some uA):cK 43 [.agg [.str gA,.tree Y8 hA,ai bA,ai bB,tS dA]] (Ac3 uA):=by
 exact cZ Tryz.func43 fun zn_ nz_ hz_=>Ae (Ab (An 14 (dsT 5 (dcH h (fun h=>Jh hz_ (Adx h)) fun y3 h=>dz0 (.box (oi 1 1) 2) (dzl (.agg [ai bA,ai bB,tS dA]) (dcH h (fun h=>Jh hz_ (Ua h)) fun y4 h=>dz0 (.agg [.str gA,.ftr nz_ Y8 y3,ai y4.1,ai y4.2.1,.ftr nz_ sI y4.2.2]) (M9 (oi 2 2) (oi 2 2) (.cells 51 [.str gA,.ftr nz_ Y8 y3,ai y4.1,ai y4.2.1,.ftr nz_ sI y4.2.2]) kr (Ct (As kr) (tn_ (wr_ (Ac (jZ h [(true,[.str gA,.ftr nz_ Y8 y3,ai y4.1,ai y4.2.1,.ftr nz_ sI y4.2.2])] (Gq (Az Cq (Az (B2 .ftr) (Az Cq (Az Cq (Az (B2 .ftr) Gk))))) Dm)))))))))))))
def D0 (a0:Int) (u0:ByteArray) (u1:List (Int×Int×ByteArray)) (u2 u3:Int) (u4:LL):Option (ByteArray×(List (Int×Int×ByteArray))×Int×Int×LL×Bool) :=
 (El a0 u0 u1 u2 u3 u4).bind fun y4 =>
cond (!y4)
 (some ((⟨#[]⟩:ByteArray),[],0,0,[],false))
 ((Ms u0 u1 u2 u3 u4).bind fun y8 =>
 (L7 a0 u0 u1 u2 u3 u4).bind fun y10 =>
 (Ib y10.1 y10.2.1 y10.2.2).bind fun y11 =>
 some (y8.1,y8.2.1,y11.1,y11.2.1,y11.2.2,true))
def Px (r:ByteArray×(List (Int×Int×ByteArray))×Int×Int×LL×Bool):RV:=⟨true,[(true,[.sc (.str r.1),.frz (.tree Y8 r.2.1),.sc (.int .i64 r.2.2.1),.sc (.int .i64 r.2.2.2.1),.frz (tS r.2.2.2.2.1)]),(false,[.sc (.bool r.2.2.2.2.2)])]⟩
theorem P1 (h:D0 bA gA hA bB bC dA=some vA):cK 22 [ai bA,.agg [.str gA,.tree Y8 hA,ai bB,ai bC,tS dA]] (Px vA):=by
 exact cZ Tryz.func22 fun zn_ nz_ hz_=>Ae (Ab (Ab (Aa 8 (rsT 2 (rcH h (fun h=>Oc (Aa1 h)) fun y4 h=>rsT 1 (rnW (kQ h (fun _ h=>Ae (Ac (tr_ (jZ h [(true,[.str (⟨#[]⟩:ByteArray),.nils,ai 0,ai 0,.nils]),(false,[.bool false])] (Gq (Az Cq (Az (B2 (t:=Y8) (xs:=[]) .nil) (Az Cq (Az Cq (Az (B2 (t:=sI) (xs:=[]) .nil) Gk))))) (J2 Cq Dm)))))) fun _ h=>skW (Ab (Aa 12 (rsT 1 (rcH h (fun h=>Jh hz_ (Aab h)) fun y8 h=>rsB 2 (rnW (Ab (Aa 18 (rsT 2 (rcH h (fun h=>Jh hz_ (Aar h)) fun y10 h=>rcH h (fun h=>Jh hz_ (Ua h)) fun y11 h=>rsB 2 (rnW (Ae (Ac (jZ h [(true,[.str y8.1,.ftr nz_ Y8 y8.2.1,ai y11.1,ai y11.2.1,.ftr nz_ sI y11.2.2]),(false,[.bool true])] (Gq (Az Cq (Az (B2 .ftr) (Az Cq (Az Cq (Az (B2 .ftr) Gk))))) (J2 Cq Dm))))))))))))))))))))))
end Go.Proofs.YthlpchhhinipaaaGreatDoor


namespace Go.Proofs.YthlpchhhinipaaaGreatDoor
open Go.RowKit Go.Deep
def grV (k v:Int):List (List Int):=if k=3 then [[1,1,1]] else if k=4 then [[1]] else if k=5 then [[1,0,1],[0,1,1]] else if k=7 then [[1,v]] else []
def Ahl (w w':World) (e:Ending) (xss:List (List Int)):Prop:=(∃ A c l,e=.returned (.slice A xss.length c)/\Sl (fun b=>w.heap.size<=b) w' (.slice .int) A c xss l)/\Below w.heap.size w w'
theorem Zw {R:Nat->Prop} {w:World} {b:Nat} {xss:List (List Int)} {c:Nat} (hR:R b) (hc:xss.length<=c/\c<=maxLen) (g:Nat->Nat)
  (h:∀ (i:Nat) (hi:i<xss.length),w.cell? ⟨b,i,none⟩=some (.slice (some ⟨g i,0,none⟩) xss[i].length xss[i].length)/\R (g i)/\xss[i].length<=maxLen/\∀ (j:Nat) (hj:j<xss[i].length),w.cell? ⟨g i,j,none⟩=some (.int .i64 xss[i][j])):∃ l,Sl R w (.slice .int) (some ⟨b,0,none⟩) c xss l:=by
 have ea:∀ (b i:Nat),(⟨b,0,none⟩:Addr).add (i*1)=⟨b,i,none⟩:=fun b i=>by
  by_cases h:i=0 <;> simp [Addr.add,h]
 refine ⟨_,hc.1,hc.2,fun i=>(List.range (xss.getD i []).length).flatMap fun j=>[⟨g i,j,none⟩],rfl,fun _=>⟨_,rfl,hR,fun i hi=>?_⟩⟩;obtain ⟨h1,h2,h3,h4⟩:=h i hi;have e:xss.getD i []=xss[i]:=by rw [gDg,gEg hi];rfl
 refine ⟨some ⟨g i,0,none⟩,xss[i].length,by rw [show Ty.size (.slice .int)=1 from rfl,ea];exact h1,Nat.le_refl _,h3,fun j=>[⟨g i,j,none⟩],by dsimp only;rw [e],fun _=>⟨_,rfl,h2,fun j hj=>?_⟩⟩;rw [show Ty.size .int=1 from rfl,ea];exact ⟨h4 j hj,rfl⟩
theorem Mj {w:World} {cs:Array Value} {t:TypeId} {b j:Nat} (hb:b=w.heap.size):(w.alloc (.cells cs t)).cell? ⟨b,j,none⟩=cs[j]?:=by subst hb;exact World.cell?_alloc_new _ _ _ _
theorem Tc {w:World} {o:Obj} {b j:Nat} (hb:b<w.heap.size):(w.alloc o).cell? ⟨b,j,none⟩=w.cell? ⟨b,j,none⟩:=World.cell?_alloc_lt _ _ _ hb
theorem gr3 (v:Int) (w:World):Calls Tryz.prog 144 #[.int .i64 3,.int .i64 v] w fun e w'=>Ahl w w' e [[1,1,1]]:=by
 go_enter Tryz.func144,Tryz.ntmps144
 go_wp2
 refine bodyPost_ret (v:=.slice (some ⟨w.heap.size+1,0,none⟩) 1 1) (by simp [results,Tryz.results144,go_sem]) rfl ?_
 obtain ⟨l,hl⟩:=Zw (R:=fun b=>w.heap.size<=b) (w:=(w.alloc (Obj.cells #[Value.int IntKind.i64 1,Value.int IntKind.i64 1,Value.int IntKind.i64 1] 3)).alloc (Obj.cells #[Value.slice (some ⟨w.heap.size,0,none⟩) 3 3] 81)) (b:=w.heap.size+1) (xss:=[[1,1,1]]) (c:=1) (Nat.le_succ _) ⟨Nat.le_refl _,by simp [maxLen]⟩ (fun i=>w.heap.size) (fun i hi=>by
  obtain rfl:i=0:=by simp at hi;omega
  refine ⟨by rw [Mj (by simp)];rfl,Nat.le_refl _,by simp [maxLen],fun j hj=>?_⟩;rcases (show j=0∨j=1∨j=2 by simp at hj;omega) with rfl|rfl|rfl <;> (rw [Tc (by simp <;> omega),Mj rfl];rfl))
 exact ⟨⟨_,_,l,rfl,hl⟩,by repeat (first|with_reducible exact Below.refl _ _|((with_reducible refine Below.setCell ?_ ?_ _);rotate_left;focus (first|(simp;done)|omega|(simp;omega)))|((with_reducible refine Below.alloc ?_ ?_ _);rotate_left;focus (first|(simp;done)|omega|(simp;omega)))|(with_reducible refine Below.drew ?_)|(with_reducible refine below_draws_ ?_ _))⟩
theorem gr4 (v:Int) (w:World):Calls Tryz.prog 144 #[.int .i64 4,.int .i64 v] w fun e w'=>Ahl w w' e [[1]]:=by
 go_enter Tryz.func144,Tryz.ntmps144
 go_wp2
 refine bodyPost_ret (v:=.slice (some ⟨w.heap.size+1,0,none⟩) 1 1) (by simp [results,Tryz.results144,go_sem]) rfl ?_
 obtain ⟨l,hl⟩:=Zw (R:=fun b=>w.heap.size<=b) (w:=(w.alloc (Obj.cells #[Value.int IntKind.i64 1] 3)).alloc (Obj.cells #[Value.slice (some ⟨w.heap.size,0,none⟩) 1 1] 81)) (b:=w.heap.size+1) (xss:=[[1]]) (c:=1) (Nat.le_succ _) ⟨Nat.le_refl _,by simp [maxLen]⟩ (fun i=>w.heap.size) (fun i hi=>by
  obtain rfl:i=0:=by simp at hi;omega
  refine ⟨by rw [Mj (by simp)];rfl,Nat.le_refl _,by simp [maxLen],fun j hj=>?_⟩;obtain rfl:j=0:=by simp at hj;omega
  rw [Tc (by simp <;> omega),Mj rfl];rfl)
 exact ⟨⟨_,_,l,rfl,hl⟩,by repeat (first|with_reducible exact Below.refl _ _|((with_reducible refine Below.setCell ?_ ?_ _);rotate_left;focus (first|(simp;done)|omega|(simp;omega)))|((with_reducible refine Below.alloc ?_ ?_ _);rotate_left;focus (first|(simp;done)|omega|(simp;omega)))|(with_reducible refine Below.drew ?_)|(with_reducible refine below_draws_ ?_ _))⟩
theorem gr7 (v:Int) (w:World):Calls Tryz.prog 144 #[.int .i64 7,.int .i64 v] w fun e w'=>Ahl w w' e [[1,v]]:=by
 go_enter Tryz.func144,Tryz.ntmps144
 go_wp2
 refine bodyPost_ret (v:=.slice (some ⟨w.heap.size+1,0,none⟩) 1 1) (by simp [results,Tryz.results144,go_sem]) rfl ?_
 obtain ⟨l,hl⟩:=Zw (R:=fun b=>w.heap.size<=b) (w:=(w.alloc (Obj.cells #[Value.int IntKind.i64 1,Value.int IntKind.i64 v] 3)).alloc (Obj.cells #[Value.slice (some ⟨w.heap.size,0,none⟩) 2 2] 81)) (b:=w.heap.size+1) (xss:=[[1,v]]) (c:=1) (Nat.le_succ _) ⟨Nat.le_refl _,by simp [maxLen]⟩ (fun i=>w.heap.size) (fun i hi=>by
  obtain rfl:i=0:=by simp at hi;omega
  refine ⟨by rw [Mj (by simp)];rfl,Nat.le_refl _,by simp [maxLen],fun j hj=>?_⟩;rcases (show j=0∨j=1 by simp at hj;omega) with rfl|rfl <;> (rw [Tc (by simp <;> omega),Mj rfl];rfl))
 exact ⟨⟨_,_,l,rfl,hl⟩,by repeat (first|with_reducible exact Below.refl _ _|((with_reducible refine Below.setCell ?_ ?_ _);rotate_left;focus (first|(simp;done)|omega|(simp;omega)))|((with_reducible refine Below.alloc ?_ ?_ _);rotate_left;focus (first|(simp;done)|omega|(simp;omega)))|(with_reducible refine Below.drew ?_)|(with_reducible refine below_draws_ ?_ _))⟩
theorem gr5 (v:Int) (w:World):Calls Tryz.prog 144 #[.int .i64 5,.int .i64 v] w fun e w'=>Ahl w w' e [[1,0,1],[0,1,1]]:=by
 go_enter Tryz.func144,Tryz.ntmps144
 go_wp2
 refine bodyPost_ret (v:=.slice (some ⟨w.heap.size+2,0,none⟩) 2 2) (by simp [results,Tryz.results144,go_sem]) rfl ?_
 obtain ⟨l,hl⟩:=Zw (R:=fun b=>w.heap.size<=b) (w:=((w.alloc (Obj.cells #[Value.int IntKind.i64 1,Value.int IntKind.i64 0,Value.int IntKind.i64 1] 3)).alloc (Obj.cells #[Value.int IntKind.i64 0,Value.int IntKind.i64 1,Value.int IntKind.i64 1] 3)).alloc (Obj.cells #[Value.slice (some ⟨w.heap.size,0,none⟩) 3 3,Value.slice (some ⟨w.heap.size+1,0,none⟩) 3 3] 81)) (b:=w.heap.size+2) (xss:=[[1,0,1],[0,1,1]]) (c:=2) oM ⟨Nat.le_refl _,by simp [maxLen]⟩ (fun i=>w.heap.size+i) (fun i hi=>by
  rcases (show i=0∨i=1 by simp at hi;omega) with rfl|rfl
  ·refine ⟨by rw [Mj (by simp)];rfl,Nat.le_add_right _ _,by simp [maxLen],fun j hj=>?_⟩;rcases (show j=0∨j=1∨j=2 by simp at hj;omega) with rfl|rfl|rfl <;> (rw [Tc (by simp <;> omega),Tc (by simp <;> omega),Mj (by simp)];rfl)
  ·refine ⟨by rw [Mj (by simp)];rfl,Nat.le_add_right _ _,by simp [maxLen],fun j hj=>?_⟩;rcases (show j=0∨j=1∨j=2 by simp at hj;omega) with rfl|rfl|rfl <;> (rw [Tc (by simp <;> omega),Mj (by simp)];rfl))
 exact ⟨⟨_,_,l,rfl,hl⟩,by repeat (first|with_reducible exact Below.refl _ _|((with_reducible refine Below.setCell ?_ ?_ _);rotate_left;focus (first|(simp;done)|omega|(simp;omega)))|((with_reducible refine Below.alloc ?_ ?_ _);rotate_left;focus (first|(simp;done)|omega|(simp;omega)))|(with_reducible refine Below.drew ?_)|(with_reducible refine below_draws_ ?_ _))⟩
theorem Ap0 (w:World):Ahl w w (.returned (.slice none 0 0)) []:=⟨⟨none,0,[],rfl,by simp,by simp [maxLen],fun _=>[],by simp,fun h=>absurd h (by simp)⟩,Below.refl _ _⟩
theorem gr6 (v:Int) (w:World):Calls Tryz.prog 144 #[.int .i64 6,.int .i64 v] w fun e w'=>Ahl w w' e []:=by
 go_enter Tryz.func144,Tryz.ntmps144
 go_wp2
 refine bodyPost_ret (v:=.slice none 0 0) (by simp [results,Tryz.results144,go_sem]) rfl ?_;exact Ap0 _
theorem gr8 (v:Int) (w:World):Calls Tryz.prog 144 #[.int .i64 8,.int .i64 v] w fun e w'=>Ahl w w' e []:=by
 go_enter Tryz.func144,Tryz.ntmps144
 go_wp2
 refine bodyPost_ret (v:=.slice none 0 0) (by simp [results,Tryz.results144,go_sem]) rfl ?_;exact Ap0 _
theorem Av5 (k v:Int) (h:3<=k/\k<=8) (w:World):Calls Tryz.prog 144 #[.int .i64 k,.int .i64 v] w fun e w'=>Ahl w w' e (grV k v):=by
 rcases (show k=3∨k=4∨k=5∨k=6∨k=7∨k=8 by omega) with rfl|rfl|rfl|rfl|rfl|rfl
 ·exact gr3 v w
 ·exact gr4 v w
 ·exact gr5 v w
 ·exact gr6 v w
 ·exact gr7 v w
 ·exact gr8 v w
def Hs (a0 a1:Int):Option (List (List Int)):=og (3<=a0/\a0<=8) (some (grV a0 a1))
def Rr (r:List (List Int)):RV:=⟨false,[(false,[.frz (.tree (.slice .int) r)])]⟩
theorem Lo {a0 a1:Int} {r:List (List Int)} (h:Hs a0 a1=some r):Dr Tryz.prog Tab 144 [.int .i64 a0,.int .i64 a1] (Rr r):=by
 obtain ⟨hb,h⟩:=Ak h;obtain rfl:=osj h;intro w im vs hG hr;obtain ⟨u1,_,rfl,h1,u2,_,rfl,h2,h3⟩:=hr;obtain rfl:_=[]:=h3;obtain rfl:u1=.int .i64 a0:=h1;obtain rfl:u2=.int .i64 a1:=h2;refine (Av5 a0 a1 hb w).mono ?_;rintro e w' ⟨⟨A,c,l,rfl,hs⟩,hbl⟩;exact ⟨_,rfl,hbl,[_],[],⟨_,[],rfl,⟨A,c,l,rfl,hs⟩,rfl,rfl,rfl⟩,⟨trivial,fun _=>rfl⟩,rfl⟩
end Go.Proofs.YthlpchhhinipaaaGreatDoor
namespace Go.Proofs.YthlpchhhinipaaaGreatDoor
open Go.RowKit Go.Deep
mutual
def AV.unT (R:Nat->Prop):AV->AV->Prop
 | .tree t xs,d=>d=.ftr R t xs
 | .agg cs,d=>∃ ds,d=.agg ds/\AV.unTL R cs ds
 | .fn f cs,d=>∃ ds,d=.fn f ds/\AV.unTL R cs ds
 | c,d=>d=c
def AV.unTL (R:Nat->Prop):List AV->List AV->Prop
 | [],ds=>ds=[]
 | c :: cs,ds=>∃ d ds',ds=d :: ds'/\AV.unT R c d/\AV.unTL R cs ds'
end
mutual
theorem Asq {σ:Oid->Option Loc} {R im im':Nat->Prop} {w:World} (hm:∀ (c:AV) (u:Value),AV.Rep σ im w c u->AV.Rep σ im' w c u) (hR:∀ b,im b->im' b/\R b):∀ (c d:AV) (u:Value),AV.unT R c d->AV.Rep σ im w c u->AV.Rep σ im' w d u
 | .tree t xs,d,u,h,⟨A,c,l,e,hs⟩=>by
  have h:d=.ftr R t xs:=h;subst h;exact ⟨A,c,l,e,B4 (fun b _ hb=>hR b hb) hs⟩
 | .agg cs,d,u,⟨ds,e,h⟩,hr=>by
  subst e;obtain ⟨us,e,hr⟩:=hr;exact ⟨us,e,Vf hm hR cs ds us h hr⟩
 | .fn f cs,d,u,⟨ds,e,h⟩,hr=>by
  subst e;obtain ⟨us,e,hr⟩:=hr;exact ⟨us,e,Vf hm hR cs ds us h hr⟩
 | .int ..,d,u,h,hr | .bool ..,d,u,h,hr | .str ..,d,u,h,hr | .err ..,d,u,h,hr | .nils,d,u,h,hr | .any,d,u,h,hr | .mtree ..,d,u,h,hr | .ftr ..,d,u,h,hr | .mp _,d,u,h,hr | .tup _,d,u,h,hr | .ref _,d,u,h,hr
 | .own ..,d,u,h,hr | .box ..,d,u,h,hr | .elt ..,d,u,h,hr | .sla ..,d,u,h,hr | .telt ..,d,u,h,hr | .giv ..,d,u,h,hr | .abool ..,d,u,h,hr=>by obtain rfl:d=_:=h;exact hm _ u hr
theorem Vf {σ:Oid->Option Loc} {R im im':Nat->Prop} {w:World} (hm:∀ (c:AV) (u:Value),AV.Rep σ im w c u->AV.Rep σ im' w c u) (hR:∀ b,im b->im' b/\R b):∀ (cs ds:List AV) (us:List Value),AV.unTL R cs ds->AV.RepL σ im w cs us->AV.RepL σ im' w ds us
 | [],ds,us,h,hr=>by obtain rfl:ds=[]:=h;exact hr
 | c :: cs,ds,us,⟨d,ds',e,h1,h2⟩,hr=>by
  subst e;obtain ⟨u,us',e,r1,r2⟩:=hr;exact ⟨u,us',e,Asq hm hR c d u h1 r1,Vf hm hR cs ds' us' h2 r2⟩
end
theorem Agm {σ:Oid->Option Loc} {im:Nat->Prop} {w:World}:∀ (cs:List AV) (vs:List Value),AV.RepL σ im w cs vs->AV.RepL σ im w (cs.map AV.un) vs
 | [],_,h=>h
 | _ :: cs,_,⟨u,us,e,h1,h2⟩=>⟨u,us,e,Ade h1,Agm cs us h2⟩
theorem Aks {R:Nat->Prop}:∀ (t:Ty) (x:t.D),(t.avM (some R) x).map AV.un=t.avM none x
 | .int,_=>rfl
 | .bool,_=>rfl
 | .str,_=>rfl
 | .slice t,xs=>rfl
 | .pair a b,x=>by simp only [Ty.avM,List.map_append,Aks a,Aks b]
theorem Api {R:Nat->Prop} {t:Ty} (xs:List t.D):(tvC (some R) t xs).map AV.un=tvC none t xs:=by
 unfold tvC;rw [List.map_flatMap];congr 1;funext x;exact Aks t x
theorem Ag1 {R:Nat->Prop} {D:Oid->Prop}:∀ (t:Ty) (x:t.D),∀ c∈t.avM (some R) x,c.hp D∨∃ (t:Ty) (xs:List t.D),c=.ftr R t xs
 | .int,_,c,h=>by obtain rfl:=List.mem_singleton.1 h;exact .inl trivial
 | .bool,_,c,h=>by obtain rfl:=List.mem_singleton.1 h;exact .inl trivial
 | .str,_,c,h=>by obtain rfl:=List.mem_singleton.1 h;exact .inl trivial
 | .slice t,xs,c,h=>by obtain rfl:=List.mem_singleton.1 h;exact .inr ⟨t,xs,rfl⟩
 | .pair a b,x,c,h=>(List.mem_append.1 h).elim (Ag1 a x.1 c) (Ag1 b x.2 c)
theorem Ai9 {P:Program} [IsP P] {G:World->Prop} (hfol:P.follows .mixedOrders=true) {g:FuncId} {fn:Func} (hf:P.funcs[g]? =some fn) {ac:AC} {rs:List Res} (hc:C0 P fn=some (ac,rs)) {args0:List AV} (args:(Nat->Prop)->List AV) {n:Nat} (hN:fn.ntmps=n) (hn:∀ R,(args R).length<=n)
  {tl:(Nat->Prop)->List (Nat×AV)} (htl:∀ R,tmL 0 (args R)=tl R) {e:TypeId} {t t':Ty} {xs:List t.D} (hu:∀ R,AV.unTL R args0 (args R)) (hcl:∀ R,AV.cloL [] (args R)=true) (hrn:∀ R θ,AV.renL θ (args R)=args R)
  (h:∀ R,awp P G ac (fun en S=>∃ S',WeakG G S S'/\(en=.normal∨en=.ret)/\(∃ rvs,Res.evL S'.tm S'.ob rs=some rvs/\AV.own (oi 0 1) t' 0 xs.length=Adq rvs)/\∀ q∈exL [(oi 0 1,Ob.tv e (some R) t xs)],S'.ob q.1=some q.2) ⟨Am (tl R),Aj (B8 []),1⟩):Ada P G g args0 (.own (oi 0 1) t' 0 xs.length) [(oi 0 1,.tv e none t xs)]:=by
 intro i w0 ob σ K w vs hM hi hargs;unfold C0 at hc;split at hc
 ·rename_i c hb;split at hc
  ·rename_i ac' rs' h1 h2;obtain ⟨rfl,rfl⟩:=Prod.mk.inj (osj hc)
   have hU:Au1 P G (imm ob σ) g (args (imm ob σ)) [] (.own (oi 0 1) t' 0 xs.length) [(oi 0 1,.tv e (some (imm ob σ)) t xs)]:=by
    refine Aht hfol hf hb h1 h2 (by have:=hn (imm ob σ);omega) (fun q hq=>by cases hq) (by simp [nmL,exL]) (fun q hq=>?_) (AV.cloPL_of _ (hcl _)) (show oi 0 1∈nmL _ by simp [nmL,exL]) ?_
    ·obtain rfl:=List.mem_singleton.1 hq;refine ⟨.inl rfl,.inr (.inr fun c hc=>?_)⟩;obtain ⟨x,_,hx⟩:=List.mem_flatMap.1 hc;exact Ag1 t x c hx
    ·have:=h (imm ob σ);rw [← htl,← Afw] at this;exact this
   refine (hU (fun j=>j) i w0 ob σ K w vs (fun _ h=>h) hM hi (fun q hq=>by cases hq) (fun _ _ hj=>by cases hj) (fun _ hj=>by cases hj) ?_).mono ?_
   ·rw [hrn];have hO:∀ b,imm ob σ b->Zh (fun j=>j) [] σ b:=fun b _ q hq=>by cases hq
    have hL:Later σ σ (imm ob σ) (Zh (fun j=>j) [] σ) w w:=⟨fun _ _ h=>h,fun b _ hb=>hO b hb,fun _ _ _=>rfl,Nat.le_refl _⟩
    exact Vf (fun c u hr=>AV.Rep.later hL c u hr) (fun b hb=>⟨hO b hb,hb⟩) _ _ _ (hu _) hargs
   ·rintro en w' ⟨u,rfl,σ',k1,k2,k3⟩;have ea:Aw (Hq (fun j=>j) i [] [(oi 0 1,.tv e (some (imm ob σ)) t xs)]) ob=upd ob (Bo (fun j=>j) i (oi 0 1)) (some ((Ob.vec e t.size xs.length (tvC (some (imm ob σ)) t xs)).ren (Bo (fun j=>j) i))):=rfl;have eb:Aw (Hq (fun j=>j) i [] [(oi 0 1,.tv e none t xs)]) ob=upd ob (Bo (fun j=>j) i (oi 0 1)) (some ((Ob.vec e t.size xs.length (tvC none t xs)).ren (Bo (fun j=>j) i))):=rfl;rw [ea] at k1 k2;generalize Bo (fun j=>j) i (oi 0 1)=ν at *
    have hd:∀ x,(∃ o,upd ob ν (some ((Ob.vec e t.size xs.length (tvC none t xs)).ren (Bo (fun j=>j) i))) x=some o)↔∃ o,upd ob ν (some ((Ob.vec e t.size xs.length (tvC (some (imm ob σ)) t xs)).ren (Bo (fun j=>j) i))) x=some o:=fun x=>by
     unfold upd;by_cases hx:x=ν
     ·simp [hx]
     ·simp [hx]
    refine ⟨u,rfl,?_⟩;rw [eb];have him:=Atp (σ:=σ') hd;refine ⟨σ',by rw [him];exact k1,⟨k2.below,k2.inv,k2.gen,k2.lt,k2.cap,fun a b bl c s c' s' o o' ha hb'=>?_,fun a o l ha hl=>?_⟩,?_⟩
    ·obtain ⟨o1,h1⟩:=(hd a).1 ⟨o,ha⟩;obtain ⟨o2,h2⟩:=(hd b).1 ⟨o',hb'⟩;exact k2.inj a b bl c s c' s' o1 o2 h1 h2
    ·rw [him];by_cases hx:a=ν
     ·subst hx;have ha':some ((Ob.vec e t.size xs.length (tvC none t xs)).ren (Bo (fun j=>j) i))=some o:=by rw [← ha];simp [upd]
      obtain rfl:=osj ha';have hr:=k2.obs a ((Ob.vec e t.size xs.length (tvC (some (imm ob σ)) t xs)).ren (Bo (fun j=>j) i)) l (by simp [upd]) hl;cases l with
      | nil =>
       obtain ⟨vs1,q1,q2,q3⟩:=hr;refine ⟨vs1,q1,?_,q3⟩;have:=Agm _ _ q2;rw [Rf,Api] at this;rw [Rf];exact this
      | at_ b c s =>
       obtain ⟨vs1,q1,q2,q3⟩:=hr;refine ⟨vs1,q1,?_,q3⟩;have:=Agm _ _ q2;rw [Rf,Api] at this;rw [Rf];exact this
     ·refine k2.obs a o l ?_ hl;rw [← ha];simp [upd,hx]
    ·exact him▸k3
  ·cases hc
 ·cases hc
theorem Amp {P:Program} {G:World->Prop} {n:Nat} {d:Option Nat} {gd:Option (Nat×Bool)} {fo:Opd} {xs:List Opd} {tys:List (List (Option Ty))} {f:Nat->AV} {ob:Oid->Option Ob} {F0 F:FuncId} {caps args:List AV} {v:AV} {us:List (Oid×Ob)}
  (hgd:S7 gd f) (hfo:fo.ev f=.fn F0 caps) (hF:Q0 F0=F) (hz:(Dx F0 xs (caps.map Opd.cst)).map (Opd.ev f)=args) (h5:∀ q∈exL us,q.1.2=1∨(q.1.2=0/\q.1∈nmL [])) (hb:Da P F=true) (hc:Ada P G F args v us) :
  Fd P G false n ⟨d,gd,.call fo xs tys⟩ f ob (2,v.ren (Bo (fun j=>j) ((d.getD 0,0),n)),Hq (fun j=>j) ((d.getD 0,0),n) [] us):=by
 have hN:Aml P G f ob ((d.getD 0,0),n) (Q0 F0) (Dx F0 xs (caps.map Opd.cst)) (v.ren (Bo (fun j=>j) ((d.getD 0,0),n)),Hq (fun j=>j) ((d.getD 0,0),n) [] us):=by
  subst hF hz;refine .inr ⟨hb,v,us,hc,fun j hj=>?_,rfl⟩;obtain ⟨q,hq,rfl⟩:=List.mem_map.1 hj;rcases h5 q hq with h|⟨_,h⟩
  ·rw [h];decide
  ·cases h
 have key:EvR P G false f ob ((d.getD 0,0),n) (.call fo xs tys) (2,v.ren (Bo (fun j=>j) ((d.getD 0,0),n)),Hq (fun j=>j) ((d.getD 0,0),n) [] us):=.inr ⟨fo,xs,tys,F0,caps,rfl,hfo,.inr ⟨rfl,rfl,hN⟩⟩;unfold Fd;cases gd with
 | none=>exact key
 | some sb=>exact ⟨true,Adf hgd,by rw [if_pos rfl];exact key⟩
section
variable {P:Program} {G:World->Prop} {g k d:Nat} {gd:Option (Nat×Bool)} {xs:List X} {tl:List (Nat×AV)} {ol:List (Oid×Option Ob)} {bad:List (Nat×Nat)} {ra:List Rec} {da:List (List Oid)} {Kf:List (Nat×AV)->List (Oid×Option Ob)->Prop}
variable {fo:Opd} {ys:List Opd} {tys:List (List (Option Ty))} {F:FuncId} {caps:List AV}
theorem Apc (v:AV) (ul:List (Oid×Option Ob)) {args:List AV} {us:List (Oid×Ob)} {v0:AV} (hgd:S7 gd (Am tl)) (hc:Ada P G F args v0 us) (hb:Da P F=true) (h3:XW P G g (k+1) xs ((d,v) :: tl) (ul++ol) Kf) (m:Nat:=0) (hfo:fo.ev (Am tl)=.fn (F+m) caps:=by kernel_rfl) (hz:(Dx (F+m) ys (caps.map Opd.cst)).map (Opd.ev (Am tl))=args:=by kernel_rfl) (hB:V7 [] [] us (g+k) ol=true:=by kernel_rfl) (hF:Q0 (F+m)=F:=by kernel_rfl) (hv:v0.ren (Bo (fun j=>j) ((d,0),g+k))=v:=by kernel_rfl) (hu:B8 (Oz (Bo (fun j=>j) ((d,0),g+k)) us)=ul:=by kernel_rfl):XW P G g k (⟨some d,gd,.call fo ys tys⟩ :: xs) tl ol Kf:=by
 subst hv hu;obtain ⟨_,_,q3,q4⟩:=Sr hB trivial;exact Agc 2 _ _ _ (Amp (n:=g+k) (d:=some d) hgd hfo hF hz q3 hb hc) (q4 ((d,0),g+k) rfl) h3
theorem App (v:AV) (ul:List (Oid×Option Ob)) {args:List AV} {us:List (Oid×Ob)} {v0:AV} (hgd:S7 gd (Am tl)) (hc:Ada P G F args v0 us) (hb:Da P F=true) (h3:XD P G bad g (k+1) xs ((d,v) :: tl) (ul++ol) ((2,v,Hq (Bc []) ((d,0),g+k) [] us) :: ra) ((rdX (Am tl) (Aj ol) ⟨some d,gd,.call fo ys tys⟩) :: da) Kf) (m:Nat:=0) (hfo:fo.ev (Am tl)=.fn (F+m) caps:=by kernel_rfl) (hz:(Dx (F+m) ys (caps.map Opd.cst)).map (Opd.ev (Am tl))=args:=by kernel_rfl) (hB:V7 [] [] us (g+k) ol=true:=by kernel_rfl) (hF:Q0 (F+m)=F:=by kernel_rfl) (hv:v0.ren (Bo (fun j=>j) ((d,0),g+k))=v:=by kernel_rfl) (hu:B8 (Oz (Bo (fun j=>j) ((d,0),g+k)) us)=ul:=by kernel_rfl):XD P G bad g k (⟨some d,gd,.call fo ys tys⟩ :: xs) tl ol ra da Kf:=by
 subst hv hu;obtain ⟨_,_,q3,q4⟩:=Sr hB trivial;exact Akk 2 _ _ _ (Amp (n:=g+k) (d:=some d) hgd hfo hF hz q3 hb hc) (q4 ((d,0),g+k) rfl) h3
end
end Go.Proofs.YthlpchhhinipaaaGreatDoor
namespace Go.Proofs.YthlpchhhinipaaaGreatDoor
open Go.RowKit Go.Deep
theorem Aqb (A:Option Addr):A.map (·.add (0*1))=A:=by
 cases A with
 | none=>rfl
 | some a=>simp [Addr.add]
def Bh (a0_0:Int) (_:Int) (_:List (List Int)) (a1:List Int):Option Nat:=og (0<=a0_0/\a0_0<=a1.length) (some a0_0.toNat)
def Gj (r:Nat):RV:=⟨false,[(false,[.argS 1 none 1 0 r])]⟩
theorem Eg {a0_0 a0_1:Int} {a0_2:List (List Int)} {a1:List Int} {r:Nat} (h:Bh a0_0 a0_1 a0_2 a1=some r):Dr Tryz.prog Tab 131 [.agg [.int .i64 a0_0,.int .i64 a0_1,.tree (.slice .int) a0_2],.tree .int a1] (Gj r):=by
 obtain ⟨hb,h⟩:=Ak h;obtain rfl:=osj h;intro w im vs hG hr;obtain ⟨u1,_,rfl,h1,u2,_,rfl,h2,h3⟩:=hr;obtain rfl:_=[]:=h3;obtain ⟨us,rfl,v1,_,rfl,e1,v2,_,rfl,e2,v3,_,rfl,e3,e4⟩:=h1;obtain rfl:_=[]:=e4;obtain rfl:v1=.int .i64 a0_0:=e1;obtain rfl:v2=.int .i64 a0_1:=e2;obtain ⟨A,c,ls,rfl,hS⟩:=h2;have hc:a1.length<=c/\c<=maxLen:=⟨hS.1,hS.2.1⟩
 go_enter Tryz.func131,Tryz.ntmps131
 go_wp2
 go_ret
 refine ⟨_,rfl,by repeat (first|with_reducible exact Below.refl _ _|((with_reducible refine Below.setCell ?_ ?_ _);rotate_left;focus (first|(simp;done)|omega|(simp;omega)))|((with_reducible refine Below.alloc ?_ ?_ _);rotate_left;focus (first|(simp;done)|omega|(simp;omega)))|(with_reducible refine Below.drew ?_)|(with_reducible refine below_draws_ ?_ _)),[_],[],⟨A,a1.length,c,[],?_,rfl,rfl,rfl⟩,⟨trivial,fun _=>rfl⟩,rfl⟩;show [Value.slice A a0_0.toNat c]=[Value.slice (if c=0 then A else A.map (·.add (0*1))) (a0_0.toNat - 0) (c - 0)];rw [Aqb,ite_self,Nat.sub_zero,Nat.sub_zero]
def Bf (a0_0:Int) (_:Int) (_:List (List Int)) (a1:List Int):Option (Nat×Nat):=og (0<=a0_0/\a0_0<=a1.length) (some (a0_0.toNat,a1.length))
def Ft (r:Nat×Nat):RV:=⟨false,[(false,[.argS 1 none 1 r.1 r.2])]⟩
theorem Dz {a0_0 a0_1:Int} {a0_2:List (List Int)} {a1:List Int} {r:Nat×Nat} (h:Bf a0_0 a0_1 a0_2 a1=some r):Dr Tryz.prog Tab 130 [.agg [.int .i64 a0_0,.int .i64 a0_1,.tree (.slice .int) a0_2],.tree .int a1] (Ft r):=by
 obtain ⟨hb,h⟩:=Ak h;obtain rfl:=osj h;intro w im vs hG hr;obtain ⟨u1,_,rfl,h1,u2,_,rfl,h2,h3⟩:=hr;obtain rfl:_=[]:=h3;obtain ⟨us,rfl,v1,_,rfl,e1,v2,_,rfl,e2,v3,_,rfl,e3,e4⟩:=h1;obtain rfl:_=[]:=e4;obtain rfl:v1=.int .i64 a0_0:=e1;obtain rfl:v2=.int .i64 a0_1:=e2;obtain ⟨A,c,ls,rfl,hS⟩:=h2;have hc:a1.length<=c/\c<=maxLen:=⟨hS.1,hS.2.1⟩
 go_enter Tryz.func130,Tryz.ntmps130
 go_wp2
 ·subst h
  go_ret
  refine ⟨_,rfl,by repeat (first|with_reducible exact Below.refl _ _|((with_reducible refine Below.setCell ?_ ?_ _);rotate_left;focus (first|(simp;done)|omega|(simp;omega)))|((with_reducible refine Below.alloc ?_ ?_ _);rotate_left;focus (first|(simp;done)|omega|(simp;omega)))|(with_reducible refine Below.drew ?_)|(with_reducible refine below_draws_ ?_ _)),[_],[],⟨A,a1.length,a0_0.toNat,[],?_,rfl,rfl,rfl⟩,⟨trivial,fun _=>rfl⟩,rfl⟩;show [Value.slice A (a1.length - a0_0.toNat) 0]=[Value.slice (if a0_0.toNat=a0_0.toNat then A else A.map (·.add (a0_0.toNat*1))) (a1.length - a0_0.toNat) (a0_0.toNat - a0_0.toNat)];rw [if_pos rfl,Nat.sub_self]
 ·go_ret
  refine ⟨_,rfl,by repeat (first|with_reducible exact Below.refl _ _|((with_reducible refine Below.setCell ?_ ?_ _);rotate_left;focus (first|(simp;done)|omega|(simp;omega)))|((with_reducible refine Below.alloc ?_ ?_ _);rotate_left;focus (first|(simp;done)|omega|(simp;omega)))|(with_reducible refine Below.drew ?_)|(with_reducible refine below_draws_ ?_ _)),[_],[],⟨A,a1.length,c,[],?_,rfl,rfl,rfl⟩,⟨trivial,fun _=>rfl⟩,rfl⟩;show [Value.slice (A.map (·.add a0_0.toNat)) (a1.length - a0_0.toNat) (c - a0_0.toNat)]=[Value.slice (if c=a0_0.toNat then A else A.map (·.add (a0_0.toNat*1))) (a1.length - a0_0.toNat) (c - a0_0.toNat)];rw [if_neg h,Nat.mul_one]
theorem Aeb {t:Ty} {xs:List t.D} {sz l h:Nat} (h1:t.size=sz) (h2:l<=h) (h3:h<=xs.length):AV.part sz l h (.tree t xs)=.tree t ((xs.take h).drop l):=if_pos ⟨h1,h2,h3⟩
theorem Gf {a0_0 a0_1:Int} {a0_2:List (List Int)} {a1:List Int} {r:Nat} (h:Bh a0_0 a0_1 a0_2 a1=some r) {mk:Nat->Oid} {x:AV}:(Gj r).out mk [x,.tree .int a1]=(.tree .int (a1.take r),[]):=by
 obtain ⟨hb,h⟩:=Ak h;obtain rfl:=osj h;have e:=Aeb (t:=.int) (xs:=a1) (sz:=1) rfl (Nat.zero_le a0_0.toNat) (show a0_0.toNat<=a1.length by omega);rw [List.drop_zero] at e;exact congrArg (fun z=>(z,([]:List (Oid×Option Ob)))) e
theorem Fu {a0_0 a0_1:Int} {a0_2:List (List Int)} {a1:List Int} {r:Nat×Nat} (h:Bf a0_0 a0_1 a0_2 a1=some r) {mk:Nat->Oid} {x:AV}:(Ft r).out mk [x,.tree .int a1]=(.tree .int (a1.drop r.1),[]):=by
 obtain ⟨hb,h⟩:=Ak h;obtain rfl:=osj h;have e:=Aeb (t:=.int) (xs:=a1) (sz:=1) rfl (show a0_0.toNat<=a1.length by omega) (Nat.le_refl a1.length);rw [List.take_length] at e;exact congrArg (fun z=>(z,([]:List (Oid×Option Ob)))) e
theorem Ah7 {R:Nat->Prop} {t:Ty} {xs:List t.D} {sz l h:Nat} (h1:t.size=sz) (h2:l<=h) (h3:h<=xs.length):AV.part sz l h (.ftr R t xs)=.ftr R t ((xs.take h).drop l):=if_pos ⟨h1,h2,h3⟩
theorem P7 {a0_0 a0_1:Int} {a0_2:List (List Int)} {a1:List Int} {r:Nat} (h:Bh a0_0 a0_1 a0_2 a1=some r) {R:Nat->Prop} {mk:Nat->Oid} {x:AV}:(Gj r).out mk [x,.ftr R .int a1]=(.ftr R .int (a1.take r),[]):=by
 obtain ⟨hb,h⟩:=Ak h;obtain rfl:=osj h;have e:=Ah7 (R:=R) (t:=.int) (xs:=a1) (sz:=1) rfl (Nat.zero_le a0_0.toNat) (show a0_0.toNat<=a1.length by omega);rw [List.drop_zero] at e;exact congrArg (fun z=>(z,([]:List (Oid×Option Ob)))) e
theorem P2 {a0_0 a0_1:Int} {a0_2:List (List Int)} {a1:List Int} {r:Nat×Nat} (h:Bf a0_0 a0_1 a0_2 a1=some r) {R:Nat->Prop} {mk:Nat->Oid} {x:AV}:(Ft r).out mk [x,.ftr R .int a1]=(.ftr R .int (a1.drop r.1),[]):=by
 obtain ⟨hb,h⟩:=Ak h;obtain rfl:=osj h;have e:=Ah7 (R:=R) (t:=.int) (xs:=a1) (sz:=1) rfl (show a0_0.toNat<=a1.length by omega) (Nat.le_refl a1.length);rw [List.take_length] at e;exact congrArg (fun z=>(z,([]:List (Oid×Option Ob)))) e
end Go.Proofs.YthlpchhhinipaaaGreatDoor
namespace Go.Proofs.YthlpchhhinipaaaGreatDoor
open Go.RowKit Go.Deep
set_option maxRecDepth 4000
set_option maxHeartbeats 4800000
variable {bA bB bC:Int} {aA aB:List Int} {dA dB:LL}
def Dp (a0:Int):Option (List Int) :=
 og (0<=a0/\a0<=a0/\a0<=1073741824/\(8:Int)*a0<=140737488355328) <|
some (List.replicate a0.toNat (0:Int))
theorem Fa (h:Dp bA=some aA):cK 132 [ai bA] (B1 aA):=by
 refine cO Tryz.func132 (Ae (Ab (Aa 5 (rsT 1 ?_))));obtain ⟨g3,h⟩:=Ak h;exact rs1 (oI 4 3 bA.toNat) (oi 4 3) (.arr 3 .int (List.replicate bA.toNat (0:Int))) (N3 (t:=.int) (k:=.i64) (k':=.i64) (m:=bA) (m':=bA) kr kr g3 rfl) (rsT 1 (rnW (Ac (jR h [oI 4 3 bA.toNat] (F1 rfl (Dc kr List.length_replicate.symm) Fc)))))
def Ki (a0 a1:Int):Option (List Int) :=
 (Dp a0).bind fun y3 =>
(Cl y3 a1).bind fun x5 =>
some (y3.set a1.toNat 1)
theorem Q5 (h:Ki bA bB=some aA):cK 168 [ai bA,ai bB] (B1 aA):=by
 refine cO Tryz.func168 (Ae (Ab (Aa 5 (rsT 1 (rcH h Fa fun y3 h=>rsT 1 (rnW (Ab (Aa 9 (rsT 2 ?_)))))))));obtain ⟨x5,f5,h⟩:=Ah h;obtain ⟨p5,b5,e5⟩:=Ax f5;exact rs0 (.elt (oi 112 3) bB.toNat 0) (zo (t:=.int) (o:=oi 112 3) (len:=y3.length) (k:=.i64) (m:=bB) p5 (Ai e5)) (zS (oi 112 3) (1) e5 (rnW (Ae (Ac (jR h [oI 112 3 y3.length] (F1 rfl (Dc kr ((rfl:y3.length=y3.length).trans List.length_set.symm)) Fc))))))
def Ee (a0:Int) (u0:Nat) (u1:LL):Option (Ctl (Nat×LL) (LL)) :=
 cond (decide ((u0:Int)<a0))
 ((Ki a0 (u0:Int)).bind fun y12 =>
 og (u1.length+1<=1073741824/\(u1.length+1)*24<=140737488355328) <|
 og (u0+1<4611686018427387904) <|
 some (Ctl.next (u0+1,u1++[y12])))
 (some (Ctl.out u1))
def Fl (a0:Int):Option (LL) :=
 (Aq (fun s_:Nat×LL=>Ee a0 s_.1 s_.2) 4611686018427387904 (0,([]:LL))).bind fun u0 =>
some u0
theorem Si (h:Fl bA=some dA):Cm Tryz.prog Tab 166 [ai bA] [] (oS 0 1 dA.length) [(oi 0 1,.mat 81 (oi 1 1) .int dA),(oi 1 1,.pool 3 .int dA)]:=by
 refine Bg kr Tryz.func166 (Bt kr) (n:=18) kr (by simp) rfl kr trivial ⟨⟨3,.tail _ (.head _)⟩,⟨trivial,trivial⟩⟩ (Ae (Ab (Aa 4 (Lu (oS 5 2 0) (oi 5 2) (.vec 81 1 0 []) trivial (Ej kr) (rsT 1 (Ap (tn_ ⟨_,Dk (e1:=81) (n:=0) 9000 (oi 5 2) 3 .int kr kr rfl kr kr,sqF h (fun u1=>sT [(3,oS 0 1 u1.length)] [(oi 0 1,.mat 81 (oi 1 1) .int u1),(oi 1 1,.pool 3 .int u1)]) ?_ fun u1 h=>Ae (Ac (by obtain rfl:=osj h;exact Cz [oS 0 1 u1.length] (Ag (tl:=[(2,oS 0 1 u1.length)]) (g:=2) [])))⟩)))))));intro _ h;refine Ae (Ad (lpF h (fun (u2,u0)=>sT [(0,ai bA),(3,oS 0 1 u0.length),(6,ai bA),(7,an u2)] [(oi 0 1,.mat 81 (oi 1 1) .int u0),(oi 1 1,.pool 3 .int u0)]) (Ag [(oi 0 1,oi 5 2),(oi 1 1,oi 9000 4)]) ?_));rintro n_ ⟨u2,u0⟩ c_ h hn6;refine Ae (Ab (kQ h (fun _ h=>skW (Ab (Ad (Ae (Aa 12 (rsT 3 (rcH h Q5 fun y12 h=>Lu (oS 14 9 1) (oi 14 9) (.vec 81 1 1 ([oI 208 8 y12.length])) trivial (Ej kr) ?_))))))) fun _ h=>lxT (have h:=jO h hn6;jE [])));obtain ⟨g13,h⟩:=Ak h;refine zV (oi 0 1) (oi 14 9) (oi 1 1) u0 [oI 208 8 y12.length] g13 (rsT 1 (Ap (bn_ (tn_ ⟨_,D3 (e1:=81) (e:=3) (u:=.int) (n:=u0.length+1) (len:=y12.length) (row:=y12) (ys:=y12) (xss:=u0) 9000 (oi 0 10) (oi 1 1) (oi 208 8) kr kr rfl kr kr (M6 rfl) (M2 rfl) kr kr kr,Aa 15 (raH h fun h=>rsT 1 (Ap (tn_ ?_)))⟩))));obtain rfl:=zj h;exact jLw hn6 ((wL 3 ((by simp):u0.length+1=(u0++[y12]).length)).trans (Ag [(oi 0 1,oi 0 10),(oi 1 1,oi 9000 12)]))
def Lx (a0:LL) (u0:Nat) (u1:List Int):Option (Ctl (Nat×List Int) (List Int)) :=
 cond (decide ((u0:Int)<(a0.length:Int)))
 ((a0[u0]?).bind fun x11 =>
 og (u1.length+x11.length<=1073741824/\(u1.length+x11.length)*8<=140737488355328) <|
 og (u0+1<4611686018427387904) <|
 some (Ctl.next (u0+1,u1++x11)))
 (some (Ctl.out u1))
def C3 (a0:LL):Option (List Int) :=
 (Aq (fun s_:Nat×List Int=>Lx a0 s_.1 s_.2) 4611686018427387904 (0,[])).bind fun u0 =>
some u0
theorem Hz (h:C3 dA=some aA):cK 136 [tS dA] (B1 aA):=by
 refine cO Tryz.func136 (Ae (Ae (sqF h (fun u1=>sT [(3,oI 0 1 u1.length)] [(oi 0 1,.arr 3 .int u1)]) ?_ fun u1 h=>Ae (Ac (jR h [oI 0 1 u1.length] (F1 rfl (Dc kr rfl) Fc))))));intro _ h;refine Ae (Ad (lpF h (fun (u2,u0)=>sT [(3,oI 0 1 u0.length),(7,tS dA),(8,an dA.length),(9,an u2)] [(oi 0 1,.arr 3 .int u0)]) (Ag [(oi 0 1,oi 6 2)]) ?_));rintro n_ ⟨u2,u0⟩ c_ h hn5;refine Ae (Ab (kQ h (fun _ h=>skW (Ab (Ad (Ab (Aa 6 (riH sI h fun x11 _ h=>rsT 2 (rnW (Aa 10 (rsT 2 ?_))))))))) fun _ h=>lxT (have h:=jO h hn5;jE [])));obtain ⟨g12,h⟩:=Ak h;exact rs2 (oI 0 8 ((u0++x11).length)) (oi 0 1) (oi 0 8) (.arr 3 .int (u0++x11)) (Nh (t:=.int) (t':=.int) (xs:=u0) (ys:=x11) (zs:=u0++x11) (j:=oi 0 1) (len:=u0.length) (c:=tI x11) kr kr rfl kr Hm rfl g12) (rsT 1 (Ap (bn_ (tn_ (wr_ (Aa 12 (raH h fun h=>rsT 1 (Ap (tn_ (jL [(oi 0 1,oi 0 8)]))))))))))
def Jg (a0:Int) (a1:LL) (a2:Int):Option (LL) :=
 (Jd a1).bind fun y4 =>
(Fl (a1.length:Int)).bind fun y5 =>
(Fs a0 y4 a2 y5).bind fun y7 =>
og (y7.1.length=y4.length) <|
og (y7.2.1.length=y5.length) <|
og ((0:Int)<=(y7.2.2:Int)/\(y7.2.2:Int)<=(y5.length:Int)/\(y5.length:Int)<=(y5.length:Int)) <|
(Er a0 (y7.2.1.drop y7.2.2) (a1.length:Int)).bind fun y12 =>
some y12
theorem Acd (h:Jg bA dA bB=some dB):Cm Tryz.prog Tab 134 [ai bA,tS dA,ai bB] [] (oS 0 1 dB.length) [(oi 0 1,.mat 81 (oi 1 1) .int dB),(oi 1 1,.pool 3 .int dB)]:=by
 refine Bg kr Tryz.func134 (Bt kr) (n:=27) kr (by simp) rfl kr trivial ⟨⟨3,.tail _ (.head _)⟩,⟨trivial,trivial⟩⟩ (Ae (Ab (Aa 9 (rsT 1 (rcM h [] [tS dA] Sj trivial (aR kr) (Ar kr kr trivial) fun y4 h=>rsT 2 (rcM h [] [an dA.length] Si trivial (aR kr) (Ar kr kr trivial) fun y5 h=>rsT 2 (rnW (Ab (Aa 15 (rsT 4 (rcM h [(oi 0 0,oi 176 3),(oi 1 0,oi 177 3),(oi 2 0,oi 224 6),(oi 3 0,oi 225 6)] [ai bA,oS 176 3 y4.length,ai bB,oS 224 6 y5.length] (fun h=>Ph h rfl rfl) ⟨kr,⟨kr,⟨kr,⟨kr,trivial⟩⟩⟩⟩ (aR kr) (Ar kr kr ⟨Bi kr,⟨Fn (o:=oi 176 3) (p:=oi 177 3) (e1:=81) (m:=y4.length) (u:=.int) (xss:=y4) (Bi kr) kr,⟨Bi kr,⟨Fn (o:=oi 224 6) (p:=oi 225 6) (e1:=81) (m:=y5.length) (u:=.int) (xss:=y5) (Bi kr) kr,trivial⟩⟩⟩⟩) fun y7 h=>rsT 1 (rnW (Ab (Aa 23 (rsT 3 ?_)))))))))))))));obtain ⟨g8,h⟩:=Ak h;obtain ⟨g9,h⟩:=Ak h;obtain ⟨g11,h⟩:=Ak h;obtain ⟨y12,h12,h⟩:=Ah h;refine rs0 (.own (oi 224 6) sI y7.2.2 (y5.length - y7.2.2)) (Jj (t:=sI) (i:=oi 224 6) (off:=0) (len:=y5.length) (l:=(y7.2.2:Int)) (h:=(y5.length:Int)) kr kr kr rfl g11 (Nat.zero_add _) oM) (rsT 2 (Ku (oS 416 21 y12.length) [(oi 416 21,some (.mat 81 (oi 417 21) .int y12)),(oi 417 21,some (.pool 3 .int y12))] [] [ai bA,.own (oi 224 6) sI y7.2.2 (y5.length - y7.2.2),an dA.length] (caps:=[]) trivial (Jy h12) kr trivial (.cons (.ren kr) (.cons (.gnd kr (Ask (p:=oi 305 13) (e1:=81) (e:=3) (u:=.int) (xss:=y7.2.1) (ys:=y7.2.1.drop y7.2.2) ((E0 kr kr kr).trans kr) (H8 kr kr (Br kr) kr) (by have z_:y5.length=y7.2.1.length:=g9.symm;omega) (List.take_of_length_le (by rw [List.length_drop];have z_:y5.length=y7.2.1.length:=g9.symm;omega)))) (.cons (.ren kr) .nil))) (Ar kr kr trivial) (rsT 1 (rnW (Ac ?_)))));obtain rfl:=zj h;exact Cz [oS 0 1 y12.length] (Ag (tl:=[(6,oS 0 1 y12.length)]) (g:=2) [(oi 0 1,oi 416 21),(oi 1 1,oi 417 21)])
def K4 (a2:LL) (a1:List Int) (a0:Int) (u0:Nat) (u1:List Int):Option (Ctl (Nat×List Int) (List Int)) :=
 cond (decide ((u0:Int)<(a2.length:Int)))
 ((a2[u0]?).bind fun x12 =>
 (a1[u0]?).bind fun x13 =>
 (Cc a0 u1 x13 x12).bind fun y14 =>
 og (y14.length=u1.length) <|
 og (u0+1<4611686018427387904) <|
 some (Ctl.next (u0+1,y14)))
 (some (Ctl.out u1))
def H1 (a0:Int) (a1:List Int) (a2:LL) (a3:Int):Option (List Int) :=
 (Dp a3).bind fun y3 =>
(Aq (fun s_:Nat×List Int=>K4 a2 a1 a0 s_.1 s_.2) 4611686018427387904 (0,y3)).bind fun u0 =>
some u0
theorem Ro (h:H1 bA aA dA bB=some aB):cK 135 [ai bA,tI aA,tS dA,ai bB] (B1 aB):=by
 refine cO Tryz.func135 (Ae (Ab (Aa 5 (rsT 1 (rcH h Fa fun y3 h=>rsT 1 (rnW (sqF h (fun u1=>sT [(9,oI 0 1 u1.length)] [(oi 0 1,.arr 3 .int u1)]) ?_ fun u1 h=>Ae (Ac (jR h [oI 0 1 u1.length] (F1 rfl (Dc kr rfl) Fc))))))))));intro _ h;refine Ae (Ad (lpF h (fun (u2,u0)=>sT [(0,ai bA),(1,tI aA),(9,oI 0 1 u0.length),(14,tS dA),(15,an dA.length),(16,an u2)] [(oi 0 1,.arr 3 .int u0)]) (Ag [(oi 0 1,oi 208 3)]) ?_));rintro n_ ⟨u2,u0⟩ c_ h hn6;refine Ae (Ab (kQ h (fun _ h=>skW (Ab (Ad (Ab (Aa 8 (rsT 1 (riH sI h fun x12 _ h=>rsT 3 (rnW (Aa 16 (rsT 4 (riH .int h fun x13 _ h=>rsT 2 (rcM h [(oi 0 0,oi 0 1)] [ai bA,oI 0 1 u0.length,ai x13,tI x12] (fun h=>L2 h rfl) ⟨kr,trivial⟩ (aR kr) (Ar kr kr ⟨Bi kr,trivial⟩) fun y14 h=>Ap (bn_ (tn_ (wr_ (Aa 18 ?_)))))))))))))))) fun _ h=>lxT (have h:=jO h hn6;jE [])));obtain ⟨g15,h⟩:=Ak h;obtain ⟨g16,h⟩:=Ak h;refine zA g16 (rsT 1 (Ap (tn_ ?_)));obtain rfl:=zj h;exact jLw hn6 ((wL 9 (g15.symm:u0.length=y14.length)).trans (Ag []))
def Bu (a0 a1 a2:Int) (a3:LL):Option (LL) :=
 (Er a0 a3 (wI (a1+a2))).bind fun y4 =>
some y4
theorem En (h:Bu bA bB bC dA=some dB):Cm Tryz.prog Tab 137 [ai bA,ai bB,ai bC,tS dA] [] (.agg [ai bB,ai bC,oS 1 1 dB.length]) [(oi 0 1,.cells 30 [ai bB,ai bC,oS 1 1 dB.length]),(oi 1 1,.mat 81 (oi 2 1) .int dB),(oi 2 1,.pool 3 .int dB)]:=by
 refine Bg kr Tryz.func137 (Bt kr) (n:=18) kr (by simp) rfl kr trivial ⟨trivial,⟨⟨3,.tail _ (.tail _ (.head _))⟩,⟨trivial,trivial⟩⟩⟩ (Ae (Ab (Aa 12 (rsT 7 (rcM h [] [ai bA,tS dA,ai (wI (bB+bC))] Jy trivial (aR kr) (Ar kr kr trivial) fun y4 h=>rsB 2 (rnW (Ac ?_)))))));obtain rfl:=zj h;exact Cz [.agg [ai bB,ai bC,oS 1 1 y4.length]] (Ag (tl:=[(8,.box (oi 0 1) 0)]) (g:=2) [(oi 0 1,oi 8 1),(oi 1 1,oi 256 9),(oi 2 1,oi 257 9)])
end Go.Proofs.YthlpchhhinipaaaGreatDoor


