/- Lemmas on the program and on partial functions that stand in place of its code (part 6); no condition beyond those that each one states. -/
import Derived.Test.YthlpchhhinipaaaGreatDoorZ5
import Derived.Laws.Strings
import Derived.KernelRfl
namespace Go.Proofs.YthlpchhhinipaaaGreatDoor
open Go.RowKit Go.Deep List
section
set_option maxRecDepth 4000
set_option maxHeartbeats 4800000
variable{bA bB bC:Int}{gA:ByteArray}{cA:Bool}{mA:Int×Int}{nA:List (ByteArray×Int×Int×List ZB)}{hA:List ZB}{oA:List Int×List Int×List Int×Bool}{lA:Int×Int×Bool}{dA:LL}
def Kw(u0 u1:Int)(u2:ByteArray):Option Bool:=
 (cond (!(u2.toList==(⟨#[]⟩:ByteArray).toList))
  (some true)
  ((Cv u0 1 14).bind fun y5=>
  some (!y5))).bind fun u3=>
cond u3
 (some false)
 (cond (u0==1)
  ((Cv u1 0 12).bind fun y13=>
  some y13)
  ((cond (u0==7)
    (some (u0==7))
    (some (u0==13))).bind fun u4=>
  cond u4
   ((Cv u1 0 96).bind fun y19=>
   some y19)
   (some (u1==0))))
theorem Ub(h:Kw bA bB gA=some cA):cK 97 [.agg [ai bA,ai bB,.str gA]] (An cA):=by
 refine cO Tryz.func97<|Ae<|Ab (sqF h (fun u3=>sT [(1,.box (oi 0 1) 0),(11,.bool u3)] [(oi 0 1,.cells 88 [ai bA,ai bB,.str gA])]) ?_ fun u3 h=>kQ h (fun _ h=>Ae<|Ac<|tr_<|jS h) fun _ h=>skW<|Ab<|Ae<|Ad<|Ae (kQ h (fun _ h=>Ab<|Aa 10<|rsT 2 (rcH h Db fun y13 h=>rsT 1<|rnW<|Ac<|br_<|tr_<|jS h)) fun _ h=>sqF h (fun u4=>sT [(1,.box (oi 0 1) 0),(19,.bool u4)] [(oi 0 1,.cells 88 [ai bA,ai bB,.str gA])]) (fun _ h=>Ae (kQ h (fun _ h=>Ay<|tn_<|jE []) fun _ h=>Aa 10<|rsT 2<|Ao<|tn_<|jE [])) fun u4 h=>kQ h (fun _ h=>Ab<|Aa 6<|rsT 2 (rcH h Db fun y19 h=>rsT 1<|rnW<|Ac<|br_<|tr_<|jS h)) fun _ h=>Ay<|bn_<|tn_<|wr_<|Ae<|Ac<|jS h));intro _ h;refine Aa 12<|rsT 4 ?_;rcases A5 h with ⟨q4,h⟩|⟨q4,h⟩
 ·exact rq 6 q4<|rsT 5<|Ao<|tn_<|jE [(oi 0 1,oi 1 1)]
 exact rq 6 q4<|rsT 2 (rcH h Db fun y5 h=>rsT 2<|Ao<|tn_<|jE [(oi 0 1,oi 1 1)])
def Ib(a0:Int):Option (Int×Int):=
 cond (a0==2)
 (some (2,2))
 ((cond (a0==3)
   (some (a0==3))
   (some (a0==11))).bind fun u0=>
 cond u0
  (some (1,2))
  ((cond (a0==4)
    (some (a0==4))
    (some (a0==12))).bind fun u1=>
  cond u1
   (some (1,0))
   ((cond (a0==5)
     (some (a0==5))
     (some (a0==9))).bind fun u2=>
   cond u2
    (some (2,1))
    ((cond (a0==6)
      (some (a0==6))
      (some (a0==10))).bind fun u3=>
    cond u3
     (some (0,1))
     (some (1,1))))))
def U0(r:Int×Int):RV:=⟨true,[(false,[.sc (.int .i64 r.1)]),(false,[.sc (.int .i64 r.2)])]⟩
theorem Qm(h:Ib bA=some mA):cK 145 [ai bA] (U0 mA):=by
 exact cO Tryz.func145<|Ae<|Ab<|Ae<|Ad<|Ae (kQ h (fun _ h=>Ae<|Ac<|br_<|tr_<|jS h) fun _ h=>sqF h (fun u0=>sT [(4,ai bA),(7,.bool u0)] []) (fun _ h=>Ae (kQ h (fun _ h=>Ay<|tn_<|jE []) fun _ h=>Aa 10<|rsT 2<|Ao<|tn_<|jE [])) fun u0 h=>kQ h (fun _ h=>Ae<|Ac<|br_<|tr_<|jS h) fun _ h=>sqF h (fun u1=>sT [(4,ai bA),(10,.bool u1)] []) (fun _ h=>Ae (kQ h (fun _ h=>Ay<|tn_<|jE []) fun _ h=>Aa 6<|rsT 2<|Ao<|tn_<|jE [])) fun u1 h=>kQ h (fun _ h=>Ae<|Ac<|br_<|tr_<|jS h) fun _ h=>sqF h (fun u2=>sT [(4,ai bA),(13,.bool u2)] []) (fun _ h=>Ae (kQ h (fun _ h=>Ay<|tn_<|jE []) fun _ h=>Aa 6<|rsT 2<|Ao<|tn_<|jE [])) fun u2 h=>kQ h (fun _ h=>Ae<|Ac<|br_<|tr_<|jS h) fun _ h=>sqF h (fun u3=>sT [(16,.bool u3)] []) (fun _ h=>Ae (kQ h (fun _ h=>Ay<|tn_<|jE []) fun _ h=>Aa 6<|rsT 2<|Ao<|tn_<|jE [])) fun u3 h=>kQ h (fun _ h=>Ae<|Ac<|br_<|tr_<|jS h) fun _ h=>Ay<|bn_<|tn_<|wr_<|Ae<|Ac<|jS h)
def Hb(u0 u1:Int)(u2:ByteArray):Option (Int×Int):=
 cond (u0==1)
 (some (u1,u1))
 ((Ib u0).bind fun y7=>
 some (y7.1,y7.2))
theorem Abq(h:Hb bA bB gA=some mA):cK 98 [.agg [ai bA,ai bB,.str gA]] (U0 mA):=by
 exact cO Tryz.func98<|Ae<|Ab<|Ae (kQ h (fun _ h=>Ab<|Al 13<|dsT 6<|Cb (As kr)<|tn_<|wr_<|Ac<|tr_<|jS h) fun _ h=>skW<|Ab<|Aa 14<|rsT 2 (rcH h Qm fun y7 h=>rsT 4<|rnW<|Ac<|jS h))
def C1(a0:List (ByteArray×Int×Int×List ZB))(a1:ByteArray)(u0:Nat):Option (Ctl Nat (Ctl Unit Int)):=
 cond (decide ((u0:Int)<(a0.length:Int)))
 ((a0[u0]?).bind fun x10=>
 cond (x10.1.toList==a1.toList)
  (some (.out (.out (u0:Int))))
  (og (u0+1<4611686018427387904)<|
  some (.next (u0+1))))
 (some (.out (.next ())))
def C7(a0:List (ByteArray×Int×Int×List ZB))(a1:ByteArray):Option Int:=
 Dg (Aq (fun s_:Nat=>C1 a0 a1 s_) 4611686018427387904 0) fun _=>
some (-1)
theorem Pt(h:C7 nA gA=some bA):cK 58 [.tree Ye nA,.str gA] (A8 bA):=by
 exact cO Tryz.func58<|Ae (sqC h (fun _=>sT [] []) (fun _ h hk2=>Ae<|Ad<|lpF h (fun u0=>sT [(1,.str gA),(7,.tree Ye nA),(8,an nA.length),(9,an u0)] []) (Ag []) fun n_ u0 c_ h hn4=>Ae<|Ab (kQ h (fun _ h=>skW<|Ab<|Ad<|Ab<|Aa 9<|rsT 1 (riH Ye h fun x10 _ h=>rsB 4<|rnW<|Ae (kQ h (fun _ h=>Ae<|Ac<|br_<|tr_<|tr_<|br_<|tr_ (have h:=jO h hn4;(have h:=jO h hk2;jS h))) fun _ h=>Ay<|bn_<|tn_<|wr_<|Aa 15 (raH h fun h=>rsT 1<|Ao<|tn_<|jL [])))) fun _ h=>lxT (have h:=jO h hn4;jC []))) fun _ h=>Ae<|Ac<|jS h)
def Kc(u4:List ZB)(a0:List (ByteArray×Int×Int×List ZB))(u1:Nat)(u0 u2 u3:List Int):Option (Ctl (Nat×List Int×List Int×List Int) (Ctl (List Int×List Int×List Int) (List Int×List Int×List Int×Bool))):=
 cond (decide ((u1:Int)<(u4.length:Int)))
 (Dg ((u4[u1]?).bind fun x16=>
  ((Kw x16.1 x16.2.1 x16.2.2).bind fun y19=>
   cond y19
    (some true)
    (some (x16.1==17))).bind fun u7=>
  cond u7
   ((Hb x16.1 x16.2.1 x16.2.2).bind fun y23=>
   Dg (cond (x16.1==17)
     ((C7 a0 x16.2.2).bind fun y28=>
     (cond (decide (y28<0))
       (some true)
       (some (x16.2.1 !=0))).bind fun u8=>
     cond u8
      (some (.out (.out (.out (.out (u0,u2,u3,false))))))
      ((Bz a0 y28).bind fun x34=>
      some (.next (x34.2.1,x34.2.2.1))))
     (some (.next (y23.1,y23.2)))) fun (u9,ua)=>
   og (u0.length+1<=1073741824/\(u0.length+1)*8<=140737488355328)<|
   og (u2.length+1<=1073741824/\(u2.length+1)*8<=140737488355328)<|
   og (u3.length+1<=1073741824/\(u3.length+1)*8<=140737488355328)<|
   some (.next (u0++([(u1:Int)]),u2++([u9]),u3++([ua]))))
   ((cond (x16.1 !=15)
     (cond (x16.1 !=16)
      (some true)
      (cond (!(x16.2.2.toList==(⟨#[]⟩:ByteArray).toList))
       (some true)
       (cond (x16.2.1 !=0)
        (some true)
        (cond (decide ((u1:Int)<2))
         (some true)
         ((Bz u0 (wI ((u1:Int) - 1))).bind fun x48=>
         (Bz u0 (wI ((u1:Int) - 1))).bind fun x49=>
         some (decide (x49<1)))))))
     (cond (!(x16.2.2.toList==(⟨#[]⟩:ByteArray).toList))
      (some true)
      (cond (x16.2.1 !=0)
       (some true)
       (cond (decide ((u1:Int)<2))
        (some true)
        ((Bz u0 (wI ((u1:Int) - 1))).bind fun x53=>
        (Bz u0 (wI ((u1:Int) - 1))).bind fun x54=>
        some (decide (x54<1))))))).bind fun ub=>
   cond ub
    (some (.out (.out (.out (u0,u2,u3,false)))))
    ((Bz u0 (wI ((u1:Int) - 1))).bind fun x59=>
    (Bz u0 (wI ((u1:Int) - 1))).bind fun x60=>
    (Bz u2 (wI (x60 - 1))).bind fun x62=>
    (Bz u2 (wI (x60 - 1))).bind fun x63=>
    (Bz u2 (wI ((u1:Int) - 1))).bind fun x64=>
    (Bz u2 (wI ((u1:Int) - 1))).bind fun x65=>
    (Bz u3 (wI (x60 - 1))).bind fun x66=>
    (Bz u3 (wI (x60 - 1))).bind fun x67=>
    (Bz u3 (wI ((u1:Int) - 1))).bind fun x68=>
    (Bz u3 (wI ((u1:Int) - 1))).bind fun x69=>
    Dg (cond (x16.1==15)
      (cond (x67 !=x65)
       (some (.out (.out (.out (.out (u0,u2,u3,false))))))
       (some (.next (x63,x69))))
      (some (.next (wI (x63+x65),wI (x67+x69))))) fun (u5,u6)=>
    (cond (decide (12<u5))
      (some true)
      (some (decide (12<u6)))).bind fun uc=>
    cond uc
     (some (.out (.out (.out (u0,u2,u3,false)))))
     ((Bz u0 (wI (x60 - 1))).bind fun x83=>
     (Bz u0 (wI (x60 - 1))).bind fun x84=>
     og (u0.length+1<=1073741824/\(u0.length+1)*8<=140737488355328)<|
     og (u2.length+1<=1073741824/\(u2.length+1)*8<=140737488355328)<|
     og (u3.length+1<=1073741824/\(u3.length+1)*8<=140737488355328)<|
     some (.next (u0++([x84]),u2++([u5]),u3++([u6]))))))) fun (ud,ue,uf)=>
 og (u1+1<4611686018427387904)<|
 some (.next (u1+1,ud,ue,uf)))
 (some (.out (.next (u0,u2,u3))))
def H9(a0:List (ByteArray×Int×Int×List ZB))(u0:List ZB):Option (List Int×List Int×List Int×Bool):=
 (Cv (u0.length:Int) 1 400).bind fun y5=>
cond (!y5)
 (some ([],[],[],false))
 (Dg (Aq (fun s_:Nat×List Int×List Int×List Int=>Kc u0 a0 s_.1 s_.2.1 s_.2.2.1 s_.2.2.2) 4611686018427387904 (0,[],[],[])) fun (u1,u2,u3)=>
 (Bz u1 (wI ((u0.length:Int) - 1))).bind fun x91=>
 (Bz u1 (wI ((u0.length:Int) - 1))).bind fun x92=>
 some (u1,u2,u3,x92==0))
def Uq(r:List Int×List Int×List Int×Bool):RV:=⟨true,[(true,[.new 3 .int r.1,.new 3 .int r.2.1,.new 3 .int r.2.2.1]),(false,[.sc (.bool r.2.2.2)])]⟩
theorem Ul(h:H9 nA hA=some oA):cK 54 [.tree Ye nA,.agg [.tree Y8 hA]] (Uq oA):=by
 refine cO Tryz.func54<|Ae<|Ae<|Ab<|Ab<|Aa 10<|rsT 3 (rcH h Db fun y5 h=>rsT 1<|rnW (kQ h (fun _ h=>Ae<|Ac<|tr_<|jR h [.agg [.nils,.nils,.nils],.bool false]<|V7 (E9 (Aoe rfl)<|E9 (Aoe rfl)<|E9 (Aoe rfl) X1)<|H6 rfl zl H0) fun _ h=>skW<|sqC h (fun (u5,u6,u7)=>sT [(3,.box (oi 0 1) 0),(4,.box (oi 1 1) 0),(6,.box (oi 2 1) 0)] [(oi 0 1,.cells 37 [.tree Y8 hA]),(oi 1 1,.cells 83 [.nils,.nils,.nils]),(oi 2 1,.cells 83 [oI 3 1 u5.length,oI 4 1 u6.length,oI 5 1 u7.length]),(oi 3 1,.arr 3 .int u5),(oi 4 1,.arr 3 .int u6),(oi 5 1,.arr 3 .int u7)]) ?_ ?_))
 ·intro _ h hk8;refine Ae<|Ad<|lpF h (fun (u0,u4,u1,u2)=>sT [(0,.tree Ye nA),(3,.box (oi 0 1) 0),(4,.box (oi 1 1) 0),(6,.box (oi 2 1) 0),(23,.tree Y8 hA),(24,an hA.length),(25,an u0)] [(oi 0 1,.cells 37 [.tree Y8 hA]),(oi 1 1,.cells 83 [.nils,.nils,.nils]),(oi 2 1,.cells 83 [oI 3 1 u4.length,oI 4 1 u1.length,oI 5 1 u2.length]),(oi 3 1,.arr 3 .int u4),(oi 4 1,.arr 3 .int u1),(oi 5 1,.arr 3 .int u2)]) ((Dq 9000 (oi 6 4) 0 83 [.nils,.nils,.nils] [oI 9000 14 0,.nils,.nils] 3 .int rfl kr kr kr).trans<|(Dq 9001 (oi 6 4) 1 83 [oI 9000 14 0,.nils,.nils] [oI 9000 14 0,oI 9001 15 0,.nils] 3 .int rfl kr kr kr).trans<|(Dq 9002 (oi 6 4) 2 83 [oI 9000 14 0,oI 9001 15 0,.nils] [oI 9000 14 0,oI 9001 15 0,oI 9002 16 0] 3 .int rfl kr kr kr).trans<|Ag [(oi 0 1,oi 3 1),(oi 1 1,oi 4 2),(oi 2 1,oi 6 4),(oi 3 1,oi 9000 14),(oi 4 1,oi 9001 15),(oi 5 1,oi 9002 16)]) ?_;rintro n_ ⟨u0,u4,u1,u2⟩ c_ h hn10;refine Ae<|Ab (kQ h (fun _ h=>skW<|sqC h (fun (ua,ub,uc)=>sT [(0,.tree Ye nA),(3,.box (oi 0 1) 0),(4,.box (oi 1 1) 0),(6,.box (oi 2 1) 0),(23,.tree Y8 hA),(24,an hA.length),(25,an u0)] [(oi 0 1,.cells 37 [.tree Y8 hA]),(oi 1 1,.cells 83 [.nils,.nils,.nils]),(oi 2 1,.cells 83 [oI 3 1 ua.length,oI 4 1 ub.length,oI 5 1 uc.length]),(oi 3 1,.arr 3 .int ua),(oi 4 1,.arr 3 .int ub),(oi 5 1,.arr 3 .int uc)]) ?_ ?_) fun _ h=>lxT (have h:=jO h hn10;jC []))
  ·intro _ h hk14;refine Ad<|Ab<|Aa 9<|rsT 1 (riH Y8 h fun x16 _ h=>rsB 4<|rnW<|Ab<|sqF h (fun uf=>sT [(0,.tree Ye nA),(3,.box (oi 0 1) 0),(4,.box (oi 1 1) 0),(6,.box (oi 2 1) 0),(7,an u0),(8,.box (oi 3 1) 0),(23,.tree Y8 hA),(24,an hA.length),(25,an u0),(36,.bool uf)] [(oi 0 1,.cells 37 [.tree Y8 hA]),(oi 1 1,.cells 83 [.nils,.nils,.nils]),(oi 2 1,.cells 83 [oI 4 1 u4.length,oI 5 1 u1.length,oI 6 1 u2.length]),(oi 3 1,.cells 88 [ai x16.1,ai x16.2.1,.str x16.2.2]),(oi 4 1,.arr 3 .int u4),(oi 5 1,.arr 3 .int u1),(oi 6 1,.arr 3 .int u2)]) (fun _ h=>Aa 16<|rsT 1 (rcH h Ub fun y19 h=>rsT 1 (kR h 32 (fun _ h=>rsT 4<|Ao<|tn_<|jE [(oi 4 1,oi 3 1),(oi 5 1,oi 4 1),(oi 6 1,oi 5 1),(oi 3 1,oi 8 6)]) fun _ h=>rsT 4<|Ao<|tn_<|jE [(oi 4 1,oi 3 1),(oi 5 1,oi 4 1),(oi 6 1,oi 5 1),(oi 3 1,oi 8 6)]))) ?_);intro uf h;refine kQ h (fun _ h=>?_) fun _ h=>?_
   ·refine Ab<|Aa 9<|rsT 1 (rcH h Abq fun y23 h=>rsT 5<|rnW<|sqC h (fun (ud,ue)=>sT [(0,.tree Ye nA),(3,.box (oi 0 1) 0),(4,.box (oi 1 1) 0),(6,.box (oi 2 1) 0),(7,an u0),(9,ai ud),(10,ai ue),(23,.tree Y8 hA),(24,an hA.length),(25,an u0)] [(oi 0 1,.cells 37 [.tree Y8 hA]),(oi 1 1,.cells 83 [.nils,.nils,.nils]),(oi 2 1,.cells 83 [oI 3 1 u4.length,oI 4 1 u1.length,oI 5 1 u2.length]),(oi 3 1,.arr 3 .int u4),(oi 4 1,.arr 3 .int u1),(oi 5 1,.arr 3 .int u2)]) ?_ ?_)
    ·intro _ h hk24;refine Ae (kQ h (fun _ h=>Ab<|Aa 17<|rsT 3 (rcH h Pt fun y28 h=>rsT 1<|rnW<|Ab<|sqF h (fun ug=>sT [(0,.tree Ye nA),(3,.box (oi 0 1) 0),(4,.box (oi 1 1) 0),(6,.box (oi 2 1) 0),(7,an u0),(11,ai y28),(23,.tree Y8 hA),(24,an hA.length),(25,an u0),(55,.bool ug)] [(oi 0 1,.cells 37 [.tree Y8 hA]),(oi 1 1,.cells 83 [.nils,.nils,.nils]),(oi 2 1,.cells 83 [oI 3 1 u4.length,oI 4 1 u1.length,oI 5 1 u2.length]),(oi 3 1,.arr 3 .int u4),(oi 4 1,.arr 3 .int u1),(oi 5 1,.arr 3 .int u2)]) (fun _ h=>Aa 24<|rsT 3 (kR h 51 (fun _ h=>rsT 4<|Ao<|tn_<|jE [(oi 3 1,oi 4 1),(oi 4 1,oi 5 1),(oi 5 1,oi 6 1)]) fun _ h=>rsT 4<|Ao<|tn_<|jE [(oi 3 1,oi 4 1),(oi 4 1,oi 5 1),(oi 5 1,oi 6 1)])) ?_)) fun _ h=>Ay<|tn_<|jC [(oi 3 1,oi 4 1),(oi 4 1,oi 5 1),(oi 5 1,oi 6 1)]);intro ug h;refine kQ h (fun _ h=>Ae<|Ac<|tr_<|tr_<|tr_<|br_<|tr_<|tr_<|br_<|tr_ (have h:=jO h hk24;(have h:=jO h hk14;(have h:=jO h hn10;(have h:=jO h hk8;jR h [.agg [oI 3 1 u4.length,oI 4 1 u1.length,oI 5 1 u2.length],.bool false]<|V7 (E9 (Ec kr rfl)<|E9 (Ec kr rfl)<|E9 (Ec kr rfl) X1)<|H6 rfl zl H0))))) fun _ h=>skW<|Al 14<|dz0 (.tree Ye nA)<|dz0 (ai y28) ?_
     have ⟨x34,f34,h⟩:=Ah h;have ⟨p34,b34,e34⟩:=Ar f34;exact ds0 (.telt none Ye x34 0) (zi (t:=Ye) (xs:=nA) (k:=.i64) (m:=y28) p34 e34)<|dsT 4<|ds0 (.telt none Ye x34 0) (zi (t:=Ye) (xs:=nA) (k:=.i64) (m:=y28) p34 e34)<|dz0 (.telt none Ye x34 2)<|dz0 (ai x34.2.2.1)<|dz0 (ai x34.2.1)<|dz0 (ai x34.2.2.1)<|Cb (As kr)<|tn_<|jC []
    rintro ⟨ud,ue⟩ h;refine Ab<|Aa 9<|rsB 4 ?_;have ⟨g36,h⟩:=Aj h;refine zB (oi 3 1) (oi 70 5) u4 ((u0:Int)) g36<|rsB 2<|rnW<|Ab<|Aa 16<|rsB 4 ?_;have ⟨g38,h⟩:=Aj h;refine zB (oi 4 1) (oi 76 12) u1 (ud) g38<|rsB 2<|rnW<|Ab<|Aa 23<|rsB 4 ?_;have ⟨g40,h⟩:=Aj h;exact zB (oi 5 1) (oi 82 19) u2 (ue) g40<|rsB 2<|rnW<|D9<|te_<|be_<|tn_<|jC [(oi 3 1,oi 3 6),(oi 4 1,oi 4 13),(oi 5 1,oi 5 20)]
   refine skW<|Ab<|sqF h (fun uh=>sT [(0,.tree Ye nA),(3,.box (oi 0 1) 0),(4,.box (oi 1 1) 0),(6,.box (oi 2 1) 0),(7,an u0),(8,.box (oi 3 1) 0),(23,.tree Y8 hA),(24,an hA.length),(25,an u0),(115,.bool uh)] [(oi 0 1,.cells 37 [.tree Y8 hA]),(oi 1 1,.cells 83 [.nils,.nils,.nils]),(oi 2 1,.cells 83 [oI 4 1 u4.length,oI 5 1 u1.length,oI 6 1 u2.length]),(oi 3 1,.cells 88 [ai x16.1,ai x16.2.1,.str x16.2.2]),(oi 4 1,.arr 3 .int u4),(oi 5 1,.arr 3 .int u1),(oi 6 1,.arr 3 .int u2)]) ?_ ?_
   ·intro _ h;refine Aa 33<|rsT 4 (kR h 88 (fun _ h=>?_) fun _ h=>?_)
    ·refine rsT 5 (kR h 93 (fun _ h=>rsT 22<|Ao<|tn_<|jE []) fun _ h=>rsT 5 (kR h 98 (fun _ h=>rsT 17<|Ao<|tn_<|jE []) fun _ h=>rsT 5 (kR h 103 (fun _ h=>rsT 12<|Ao<|tn_<|jE []) fun _ h=>rsT 4 ?_)));rcases A5 h with ⟨q47,h⟩|⟨q47,h⟩
     ·exact rq 107 q47<|rsT 8<|Ao<|tn_<|jE []
     refine rq 107 q47<|rsT 4 ?_;have ⟨x48,f48,h⟩:=Ah h;have ⟨p48,b48,e48⟩:=Ar f48;refine rs0 (.elt (oi 4 1) ((wI<|(u0:Int) - 1).toNat) 0) (zo (t:=.int) (o:=oi 4 1) (len:=u4.length) (k:=.i64) (m:=wI<|(u0:Int) - 1) p48<|Ai e48) ?_;have ⟨x49,f49,h⟩:=Ah h;have ⟨p49,b49,e49⟩:=Ar f49;exact zE (oi 4 1) e49<|rsT 2<|Ao<|tn_<|jE []
    refine rsT 10 (kR h 98 (fun _ h=>rsT 17<|Ao<|tn_<|jE []) fun _ h=>rsT 5 (kR h 103 (fun _ h=>rsT 12<|Ao<|tn_<|jE []) fun _ h=>rsT 4 ?_));rcases A5 h with ⟨q52,h⟩|⟨q52,h⟩
    ·exact rq 107 q52<|rsT 8<|Ao<|tn_<|jE []
    refine rq 107 q52<|rsT 4 ?_;have ⟨x53,f53,h⟩:=Ah h;have ⟨p53,b53,e53⟩:=Ar f53;refine rs0 (.elt (oi 4 1) ((wI<|(u0:Int) - 1).toNat) 0) (zo (t:=.int) (o:=oi 4 1) (len:=u4.length) (k:=.i64) (m:=wI<|(u0:Int) - 1) p53<|Ai e53) ?_;have ⟨x54,f54,h⟩:=Ah h;have ⟨p54,b54,e54⟩:=Ar f54;exact zE (oi 4 1) e54<|rsT 2<|Ao<|tn_<|jE []
   intro uh h;refine kQ h (fun _ h=>Ae<|Ac<|tr_<|br_<|tr_<|tr_<|br_<|tr_ (have h:=jO h hk14;(have h:=jO h hn10;(have h:=jO h hk8;jR h [.agg [oI 4 1 u4.length,oI 5 1 u1.length,oI 6 1 u2.length],.bool false]<|V7 (E9 (Ec kr rfl)<|E9 (Ec kr rfl)<|E9 (Ec kr rfl) X1)<|H6 rfl zl H0)))) fun _ h=>skW<|Ae<|Ab<|Aa 12<|rsT 3 ?_
   have ⟨x59,f59,h⟩:=Ah h;have ⟨p59,b59,e59⟩:=Ar f59;refine rs0 (.elt (oi 4 1) ((wI<|(u0:Int) - 1).toNat) 0) (zo (t:=.int) (o:=oi 4 1) (len:=u4.length) (k:=.i64) (m:=wI<|(u0:Int) - 1) p59<|Ai e59) ?_;have ⟨x60,f60,h⟩:=Ah h;have ⟨p60,b60,e60⟩:=Ar f60;refine zE (oi 4 1) e60<|rsT 2<|rnW<|Ab<|Al 36<|dz0 (.box (oi 2 1) 1)<|dzl (oI 5 1 u1.length)<|dz0 (ai<|wI<|x60 - 1) ?_;have ⟨x62,f62,h⟩:=Ah h;have ⟨p62,b62,e62⟩:=Ar f62;refine ds0 (.elt (oi 5 1) ((wI<|x60 - 1).toNat) 0) (zo (t:=.int) (o:=oi 5 1) (len:=u1.length) (k:=.i64) (m:=wI<|x60 - 1) p62<|Ai e62) ?_;have ⟨x63,f63,h⟩:=Ah h;have ⟨p63,b63,e63⟩:=Ar f63;refine dzE (oi 5 1) e63<|dz0 (.box (oi 2 1) 1)<|dzl (oI 5 1 u1.length)<|dz0 (ai<|wI<|(u0:Int) - 1) ?_;have ⟨x64,f64,h⟩:=Ah h;have ⟨p64,b64,e64⟩:=Ar f64;refine ds0 (.elt (oi 5 1) ((wI<|(u0:Int) - 1).toNat) 0) (zo (t:=.int) (o:=oi 5 1) (len:=u1.length) (k:=.i64) (m:=wI<|(u0:Int) - 1) p64<|Ai e64) ?_;have ⟨x65,f65,h⟩:=Ah h;have ⟨p65,b65,e65⟩:=Ar f65;refine dzE (oi 5 1) e65<|dsT 4 ?_;have ⟨x66,f66,h⟩:=Ah h;have ⟨p66,b66,e66⟩:=Ar f66;refine ds0 (.elt (oi 6 1) ((wI<|x60 - 1).toNat) 0) (zo (t:=.int) (o:=oi 6 1) (len:=u2.length) (k:=.i64) (m:=wI<|x60 - 1) p66<|Ai e66) ?_;have ⟨x67,f67,h⟩:=Ah h;have ⟨p67,b67,e67⟩:=Ar f67;refine dzE (oi 6 1) e67<|dz0 (.box (oi 2 1) 2)<|dzl (oI 6 1 u2.length)<|dz0 (ai<|wI<|(u0:Int) - 1) ?_;have ⟨x68,f68,h⟩:=Ah h;have ⟨p68,b68,e68⟩:=Ar f68;refine ds0 (.elt (oi 6 1) ((wI<|(u0:Int) - 1).toNat) 0) (zo (t:=.int) (o:=oi 6 1) (len:=u2.length) (k:=.i64) (m:=wI<|(u0:Int) - 1) p68<|Ai e68) ?_;have ⟨x69,f69,h⟩:=Ah h;have ⟨p69,b69,e69⟩:=Ar f69;refine dzE (oi 6 1) e69<|dz0 (ai<|wI<|x67+x69)<|dz0 (ai<|wI<|x63+x65)<|dz0 (ai<|wI<|x67+x69)<|Cb (As kr)<|tn_<|wr_<|sqC h (fun (u8,u9)=>sT [(0,.tree Ye nA),(3,.box (oi 0 1) 0),(4,.box (oi 1 1) 0),(6,.box (oi 2 1) 0),(13,ai<|wI<|x60 - 1),(14,ai u8),(15,ai u9),(23,.tree Y8 hA),(24,an hA.length),(25,an u0)] [(oi 0 1,.cells 37 [.tree Y8 hA]),(oi 1 1,.cells 83 [.nils,.nils,.nils]),(oi 2 1,.cells 83 [oI 3 1 u4.length,oI 4 1 u1.length,oI 5 1 u2.length]),(oi 3 1,.arr 3 .int u4),(oi 4 1,.arr 3 .int u1),(oi 5 1,.arr 3 .int u2)]) (fun _ h hk70=>Ae (kQ h (fun _ h=>Ab<|Ab<|Al 50<|dsT 3<|ds0 (.elt (oi 6 1) ((wI<|x60 - 1).toNat) 0) (zo (t:=.int) (o:=oi 6 1) (len:=u2.length) (k:=.i64) (m:=wI<|x60 - 1) p66<|Ai e66)<|dsl (ai x67) (Hh (i:=oi 6 1) (j:=(wI<|x60 - 1).toNat) (k:=0) (e:=3) (t:=.int) (xs:=u2) kr kr e67 kr)<|ds0 (.box (oi 2 1) 1) kr<|dsl (oI 5 1 u1.length) kr<|ds0 (ai<|wI<|(u0:Int) - 1) kr<|ds0 (.elt (oi 5 1) ((wI<|(u0:Int) - 1).toNat) 0) (zo (t:=.int) (o:=oi 5 1) (len:=u1.length) (k:=.i64) (m:=wI<|(u0:Int) - 1) p64<|Ai e64)<|dsl (ai x65) (Hh (i:=oi 5 1) (j:=(wI<|(u0:Int) - 1).toNat) (k:=0) (e:=3) (t:=.int) (xs:=u1) kr kr e65 kr)<|ds0 (.bool<|x67 !=x65) kr<|Cb (As kr)<|tn_<|wr_ (kQ h (fun _ h=>Ae<|Ac<|tr_<|tr_<|br_<|tr_<|tr_<|br_<|tr_ (have h:=jO h hk70;(have h:=jO h hk14;(have h:=jO h hn10;(have h:=jO h hk8;jR h [.agg [oI 4 1 u4.length,oI 5 1 u1.length,oI 6 1 u2.length],.bool false]<|V7 (E9 (Ec kr rfl)<|E9 (Ec kr rfl)<|E9 (Ec kr rfl) X1)<|H6 rfl zl H0))))) fun _ h=>skW<|Al 62<|dsT 3<|ds0 (.elt (oi 5 1) ((wI<|x60 - 1).toNat) 0) (zo (t:=.int) (o:=oi 5 1) (len:=u1.length) (k:=.i64) (m:=wI<|x60 - 1) p62<|Ai e62)<|dsl (ai x63) (Hh (i:=oi 5 1) (j:=(wI<|x60 - 1).toNat) (k:=0) (e:=3) (t:=.int) (xs:=u1) kr kr e63 kr)<|ds0 (.box (oi 2 1) 2) kr<|dsl (oI 6 1 u2.length) kr<|ds0 (ai<|wI<|(u0:Int) - 1) kr<|ds0 (.elt (oi 6 1) ((wI<|(u0:Int) - 1).toNat) 0) (zo (t:=.int) (o:=oi 6 1) (len:=u2.length) (k:=.i64) (m:=wI<|(u0:Int) - 1) p68<|Ai e68)<|dsl (ai x69) (Hh (i:=oi 6 1) (j:=(wI<|(u0:Int) - 1).toNat) (k:=0) (e:=3) (t:=.int) (xs:=u2) kr kr e69 kr)<|ds0 (ai x63) kr<|ds0 (ai x69) kr<|Cb (As kr)<|tn_<|jC [(oi 3 1,oi 4 1),(oi 4 1,oi 5 1),(oi 5 1,oi 6 1)])) fun _ h=>Ay<|tn_<|jC [(oi 3 1,oi 4 1),(oi 4 1,oi 5 1),(oi 5 1,oi 6 1)])) ?_;rintro ⟨u8,u9⟩ h;refine Ab<|sqF h (fun ui=>sT [(0,.tree Ye nA),(3,.box (oi 0 1) 0),(4,.box (oi 1 1) 0),(6,.box (oi 2 1) 0),(13,ai<|wI<|x60 - 1),(14,ai u8),(15,ai u9),(23,.tree Y8 hA),(24,an hA.length),(25,an u0),(177,.bool ui)] [(oi 0 1,.cells 37 [.tree Y8 hA]),(oi 1 1,.cells 83 [.nils,.nils,.nils]),(oi 2 1,.cells 83 [oI 3 1 u4.length,oI 4 1 u1.length,oI 5 1 u2.length]),(oi 3 1,.arr 3 .int u4),(oi 4 1,.arr 3 .int u1),(oi 5 1,.arr 3 .int u2)]) (fun _ h=>Aa 8<|rsT 3 (kR h 174 (fun _ h=>rsT 3<|Ao<|tn_<|jE []) fun _ h=>rsT 3<|Ao<|tn_<|jE [])) ?_;intro ui h;refine kQ h (fun _ h=>Ae<|Ac<|tr_<|br_<|tr_<|tr_<|br_<|tr_ (have h:=jO h hk14;(have h:=jO h hn10;(have h:=jO h hk8;jR h [.agg [oI 3 1 u4.length,oI 4 1 u1.length,oI 5 1 u2.length],.bool false]<|V7 (E9 (Ec kr rfl)<|E9 (Ec kr rfl)<|E9 (Ec kr rfl) X1)<|H6 rfl zl H0)))) fun _ h=>skW<|Ab<|Al 13<|dsT 5 ?_
   have ⟨x83,f83,h⟩:=Ah h;have ⟨p83,b83,e83⟩:=Ar f83;refine ds0 (.elt (oi 3 1) ((wI<|x60 - 1).toNat) 0) (zo (t:=.int) (o:=oi 3 1) (len:=u4.length) (k:=.i64) (m:=wI<|x60 - 1) p83<|Ai e83) ?_;have ⟨x84,f84,h⟩:=Ah h;have ⟨p84,b84,e84⟩:=Ar f84;refine dzE (oi 3 1) e84<|ds1 (oI 186 9 1) (oi 186 9) (.arr 3 .int<|[x84]) kr ?_;have ⟨g85,h⟩:=Aj h;refine dzB (oi 3 1) (oi 186 9) u4 (x84) g85<|dz0 (.box (oi 2 1) 0)<|J4 (oi 2 1) (oi 2 1) (.cells 83 [oI 3 10<|(u4++([x84])).length,oI 4 1 u1.length,oI 5 1 u2.length]) kr<|Cb (As kr)<|tn_<|wr_<|Ab<|Aa 20<|rsB 4 ?_;have ⟨g87,h⟩:=Aj h;refine zB (oi 4 1) (oi 192 16) u1 (u8) g87<|rsB 2<|rnW<|Aa 27<|rsB 4 ?_;have ⟨g88,h⟩:=Aj h;exact zB (oi 5 1) (oi 198 23) u2 (u9) g88<|rsB 2<|Ao<|bn_<|tn_<|jC [(oi 3 1,oi 3 10),(oi 4 1,oi 4 17),(oi 5 1,oi 5 24)]
  rintro ⟨ua,ub,uc⟩ h;exact Aa 4 (raH h fun h=>rsT 1<|Ao<|tn_<|jL [])
 rintro ⟨u5,u6,u7⟩ h;refine Ab<|Al 14<|dsT 7 ?_;have ⟨x91,f91,h⟩:=Ah h;have ⟨p91,b91,e91⟩:=Ar f91;refine ds0 (.elt (oi 3 1) ((wI<|(hA.length:Int) - 1).toNat) 0) (zo (t:=.int) (o:=oi 3 1) (len:=u5.length) (k:=.i64) (m:=wI<|(hA.length:Int) - 1) p91<|Ai e91) ?_;have ⟨x92,f92,h⟩:=Ah h;have ⟨p92,b92,e92⟩:=Ar f92;exact dzE (oi 3 1) e92<|dz0 (.bool<|x92==0)<|J4 (oi 1 1) (oi 1 1) (.cells 83 [oI 3 1 u5.length,oI 4 1 u6.length,oI 5 1 u7.length]) kr<|dz0 (.bool<|x92==0)<|Cb (As kr)<|tn_<|wr_<|Ac<|jR h [.agg [oI 3 1 u5.length,oI 4 1 u6.length,oI 5 1 u7.length],.bool (x92==0)]<|V7 (E9 (Ec kr rfl)<|E9 (Ec kr rfl)<|E9 (Ec kr rfl) X1)<|H6 rfl zl H0
def Ky(u0:List ZB):Option (List Int×List Int×List Int×Bool):=
 (H9 ([]) u0).bind fun y3=>
some (y3.1,y3.2.1,y3.2.2.1,y3.2.2.2)
theorem Us(h:Ky hA=some oA):cK 115 [.agg [.tree Y8 hA]] (Uq oA):=by
 exact cO Tryz.func115<|Ae<|Ab<|Aa 10<|rsT 1 (rcH h Ul fun y3 h=>rsB 4<|rnW<|Ac<|jR h [.agg [oI 80 5 y3.1.length,oI 81 5 y3.2.1.length,oI 82 5 y3.2.2.1.length],.bool y3.2.2.2]<|V7 (E9 (Ec kr rfl)<|E9 (Ec kr rfl)<|E9 (Ec kr rfl) X1)<|H6 rfl zl H0)
def Ny(u0:List ZB):Option (Int×Int×Bool):=
 (Ky u0).bind fun y3=>
cond (!y3.2.2.2)
 (some (0,0,false))
 ((Bz y3.2.1 (wI ((u0.length:Int) - 1))).bind fun x10=>
 (Bz y3.2.1 (wI ((u0.length:Int) - 1))).bind fun x11=>
 (Bz y3.2.2.1 (wI ((u0.length:Int) - 1))).bind fun x12=>
 (Bz y3.2.2.1 (wI ((u0.length:Int) - 1))).bind fun x13=>
 some (x11,x13,true))
def Adu(r:Int×Int×Bool):RV:=⟨true,[(false,[.sc (.int .i64 r.1)]),(false,[.sc (.int .i64 r.2.1)]),(false,[.sc (.bool r.2.2)])]⟩
theorem Ae4(h:Ny hA=some lA):cK 77 [.agg [.tree Y8 hA]] (Adu lA):=by
 refine cO Tryz.func77<|Ae<|Ab<|Aa 13<|rsT 1 (rcH h Us fun y3 h=>rsB 6<|rnW<|Ab<|Ae (kQ h (fun _ h=>Ae<|Ac<|tr_<|jS h) fun _ h=>skW<|Ae<|Ab<|Al 33<|dsT 3 ?_));have ⟨x10,f10,h⟩:=Ah h;have ⟨p10,b10,e10⟩:=Ar f10;refine ds0 (.elt (oi 161 6) ((wI<|(hA.length:Int) - 1).toNat) 0) (zo (t:=.int) (o:=oi 161 6) (len:=y3.2.1.length) (k:=.i64) (m:=wI<|(hA.length:Int) - 1) p10<|Ai e10) ?_;have ⟨x11,f11,h⟩:=Ah h;have ⟨p11,b11,e11⟩:=Ar f11;refine dzE (oi 161 6) e11<|dz0 (.box (oi 5 10) 2)<|dzl (oI 162 6 y3.2.2.1.length)<|dz0 (ai<|wI<|(hA.length:Int) - 1) ?_;have ⟨x12,f12,h⟩:=Ah h;have ⟨p12,b12,e12⟩:=Ar f12;refine ds0 (.elt (oi 162 6) ((wI<|(hA.length:Int) - 1).toNat) 0) (zo (t:=.int) (o:=oi 162 6) (len:=y3.2.2.1.length) (k:=.i64) (m:=wI<|(hA.length:Int) - 1) p12<|Ai e12) ?_;have ⟨x13,f13,h⟩:=Ah h;have ⟨p13,b13,e13⟩:=Ar f13;exact dzE (oi 162 6) e13<|dz0 (ai x11)<|dz0 (ai x13)<|dz0 (.bool true)<|Cb (As kr)<|tn_<|wr_<|Ac<|jS h
def J3(u1:List ZB)(a0:Int)(u0:Nat):Option (Ctl Nat (Ctl Unit Bool)):=
 cond (decide ((u0:Int)<(u1.length:Int)))
 ((u1[u0]?).bind fun x18=>
 (cond (x18.1==7)
   (some (decide (a0<=x18.2.1)))
   (cond (x18.1==13)
    (some (decide (a0<=x18.2.1)))
    (some false))).bind fun u2=>
 cond u2
  (some (.out (.out false)))
  (og (u0+1<4611686018427387904)<|
  some (.next (u0+1))))
 (some (.out (.next ())))
def Kr(a0:Int)(u0:List ZB):Option Bool:=
 (Ky u0).bind fun y4=>
(cond (!y4.2.2.2)
  (some true)
  ((Gk a0).bind fun y7=>
  some (!y7))).bind fun u1=>
cond u1
 (some false)
 (Dg (Aq (fun s_:Nat=>J3 u0 a0 s_) 4611686018427387904 0) fun _=>
 some true)
theorem Un(h:Kr bA hA=some cA):cK 79 [ai bA,.agg [.tree Y8 hA]] (An cA):=by
 refine cO Tryz.func79<|Ae<|Ab<|Ab<|Aa 11<|rsT 1 (rcH h Us fun y4 h=>rsB 6<|rnW (sqF h (fun u2=>sT [(0,ai bA),(3,.box (oi 0 1) 0),(20,.bool u2)] [(oi 0 1,.cells 37 [.tree Y8 hA])]) ?_ fun u2 h=>kQ h (fun _ h=>Ae<|Ac<|tr_<|jS h) fun _ h=>skW (sqC h (fun _=>sT [] []) (fun _ h hk10=>Ae<|Ad<|lpF h (fun u1=>sT [(0,ai bA),(22,.tree Y8 hA),(23,an hA.length),(24,an u1)] []) (Ag []) fun n_ u1 c_ h hn12=>Ae<|Ab (kQ h (fun _ h=>skW<|Ab<|Ad<|Ab<|Aa 7 (riH Y8 h fun x18 _ h=>rsB 3<|rnW (sqF h (fun u3=>sT [(0,ai bA),(22,.tree Y8 hA),(23,an hA.length),(24,an u1),(41,.bool u3)] []) (fun _ h=>Aa 21<|rsT 4 (kR h 31 (fun _ h=>rsT 10<|Ao<|tn_<|jE []) fun _ h=>rsT 5 (kR h 36 (fun _ h=>rsT 5<|Ao<|tn_<|jE []) fun _ h=>rsT 5<|Ao<|tn_<|jE []))) fun u3 h=>kQ h (fun _ h=>Ae<|Ac<|br_<|tr_<|tr_<|br_<|tr_ (have h:=jO h hn12;(have h:=jO h hk10;jS h))) fun _ h=>Ay<|bn_<|tn_<|wr_<|Aa 4 (raH h fun h=>rsT 1<|Ao<|tn_<|jL [])))) fun _ h=>lxT (have h:=jO h hn12;jC []))) fun _ h=>Ae<|Ac<|jS h)));intro _ h;refine Aa 18<|rsT 3 ?_;rcases A5 h with ⟨q6,h⟩|⟨q6,h⟩
 ·exact rq 16 q6<|rsT 4<|Ao<|tn_<|jE [(oi 0 1,oi 3 1)]
 exact rq 16 q6<|rsT 1 (rcH h Mo fun y7 h=>rsT 2<|Ao<|tn_<|jE [(oi 0 1,oi 3 1)])
def C5(a0:Int):Option Bool:=
 (cond (a0 !=8)
  (some (a0 !=14))
  (some false)).bind fun u0=>
some u0
theorem Lk(h:C5 bA=some cA):cK 95 [ai bA] (An cA):=by
 exact cO Tryz.func95<|Ae (sqF h (fun u0=>sT [(2,.bool u0)] []) (fun _ h=>Aa 9<|rsT 3 (kR h 5 (fun _ h=>rsT 4<|Ao<|tn_<|jE []) fun _ h=>rsT 4<|Ao<|tn_<|jE [])) fun u0 h=>Ac<|jS h)
def Gc(u1:List ZB)(u0:Nat):Option (Ctl Nat (Ctl Unit Bool)):=
 cond (decide ((u0:Int)<(u1.length:Int)))
 ((u1[u0]?).bind fun x10=>
 (C5 x10.1).bind fun y12=>
 cond (!y12)
  (some (.out (.out false)))
  (og (u0+1<4611686018427387904)<|
  some (.next (u0+1))))
 (some (.out (.next ())))
def F8(u0:List ZB):Option Bool:=
 Dg (Aq (fun s_:Nat=>Gc u0 s_) 4611686018427387904 0) fun _=>
some true
theorem Qa(h:F8 hA=some cA):cK 53 [.agg [.tree Y8 hA]] (An cA):=by
 exact cO Tryz.func53<|Ae (sqC h (fun _=>sT [] []) (fun _ h hk2=>Ae<|Ad<|lpF h (fun u1=>sT [(6,.tree Y8 hA),(7,an hA.length),(8,an u1)] []) (Ag []) fun n_ u1 c_ h hn4=>Ae<|Ab (kQ h (fun _ h=>skW<|Ab<|Ad<|Ab<|Aa 7 (riH Y8 h fun x10 _ h=>rsB 3<|rnW<|Ab<|Aa 11<|rsT 2 (rcH h Lk fun y12 h=>rsT 1<|rnW (kQ h (fun _ h=>Ae<|Ac<|br_<|tr_<|tr_<|br_<|tr_ (have h:=jO h hn4;(have h:=jO h hk2;jS h))) fun _ h=>Ay<|bn_<|tn_<|wr_<|Aa 13 (raH h fun h=>rsT 1<|Ao<|tn_<|jL []))))) fun _ h=>lxT (have h:=jO h hn4;jC []))) fun _ h=>Ae<|Ac<|jS h)
def Eg(a0:Int)(u3:ByteArray)(u0:List ZB)(u1 u2:Int)(u4:LL):Option Bool:=
 (Ny u0).bind fun y3=>
(cond y3.2.2
  ((N0 u3).bind fun y6=>
  cond y6
   ((Kr a0 u0).bind fun y8=>
   cond y8
    ((F8 u0).bind fun y10=>
    cond y10
     ((N4 a0 u1 u2 u4).bind fun y12=>
     cond y12
      (cond (u1==y3.1)
       (some (u2==y3.2.1))
       (some false))
      (some false))
     (some false))
    (some false))
   (some false))
  (some false)).bind fun u5=>
some u5
theorem Adb(h:Eg bA gA hA bB bC dA=some cA):cK 42 [ai bA,.agg [.str gA,.tree Y8 hA,ai bB,ai bC,tS dA]] (An cA):=by
 refine cO Tryz.func42<|Ae<|Ab<|Aa 13<|rsT 2 (rcH h Ae4 fun y3 h=>rsT 7<|rnW (sqF h (fun u5=>sT [(4,.bool u5)] []) ?_ fun u5 h=>Ac<|jS h));intro _ h;refine Aa 51<|rsT 2 ?_;rcases A5 h with ⟨q5,h⟩|⟨q5,h⟩
 ·refine rq 16 q5<|rsT 2 (rcH h Aek fun y6 h=>rsT 2 ?_);rcases A5 h with ⟨q7,h⟩|⟨q7,h⟩
  ·refine rq 21 q7<|rsT 3 (rcH h Un fun y8 h=>rsT 2 ?_);rcases A5 h with ⟨q9,h⟩|⟨q9,h⟩
   ·refine rq 27 q9<|rsT 2 (rcH h Qa fun y10 h=>rsT 2 ?_);rcases A5 h with ⟨q11,h⟩|⟨q11,h⟩
    ·exact rq 32 q11<|rsT 3 (rcH h Af3 fun y12 h=>rsT 2 (kR h 38 (fun _ h=>rsT 7 (kR h 45 (fun _ h=>rsT 7<|Ao<|tn_<|jE []) fun _ h=>rsT 7<|Ao<|tn_<|jE [])) fun _ h=>rsT 14<|Ao<|tn_<|jE []))
    exact rq 32 q11<|rsT 20<|Ao<|tn_<|jE []
   exact rq 27 q9<|rsT 25<|Ao<|tn_<|jE []
  exact rq 21 q7<|rsT 31<|Ao<|tn_<|jE []
 exact rq 16 q5<|rsT 36<|Ao<|tn_<|jE []
end
section
set_option maxRecDepth 4000
set_option maxHeartbeats 4800000
variable{bA:Int}{gA:ByteArray}
def Ht  (u0:Int) (u1:ByteArray):Option (Ctl (Int×ByteArray) ByteArray):=
 cond (decide (0<u0))
 (og ((strOfNums [IntKind.u8.wrap (wI (48+Int.tmod u0 10))]).size+u1.size<=9223372036854775807)<|
 some (.next (wI (Int.tdiv u0 10),(strOfNums [IntKind.u8.wrap (wI (48+Int.tmod u0 10))])++u1)))
 (some (.out u1))
def Oz(a0:Int):Option ByteArray:=
 cond (decide (a0<=0))
 (some (⟨#[109,48]⟩:ByteArray))
 ((Aq (fun s_:Int×ByteArray=>Ht s_.1 s_.2) 4611686018427387904 (a0,(⟨#[]⟩:ByteArray))).bind fun u0=>
 og ((⟨#[109]⟩:ByteArray).size+u0.size<=9223372036854775807)<|
 some ((⟨#[109]⟩:ByteArray)++u0))
theorem Aae(h:Oz bA=some gA):Ed Tryz.prog Tab 36 [ai bA] [] (.str gA) []:=by
 refine B8 kr Tryz.func36 (Ck kr) (n:=20) kr fS rfl kr trivial trivial<|Ae<|Ab<|Ae (kQ h (fun _ h=>Ae<|Ac<|tr_ (by obtain rfl:=osj h;exact E4 [.str ((⟨#[109,48]⟩:ByteArray))]<|Ag (tl:=[(2,.str<|(⟨#[109,48]⟩:ByteArray))]) (g:=2) [])) fun _ h=>skW<|Ae<|sqF h (fun u1=>sT [(3,.str u1)] []) ?_ ?_)
 ·intro _ h;refine Ad<|lpF h (fun (u0,u2)=>sT [(0,ai u0),(3,.str u2)] []) (Ag []) ?_;rintro n_ ⟨u0,u2⟩ c_ h hn9;refine Ab (Ae (kQ h (fun _ h=>skW<|Ad<|Ab<|Aa 13<|rsT 1<|rs0 (ai<|Int.tmod u0 10) (Q1 (k:=.i64) (a:=u0) (b:=10) kr kr (by decide))<|rsT 2<|Hd (oI 12 8 1) (oi 12 8) (.vec 5 1 1 [.int .u8 (IntKind.u8.wrap<|wI<|48+Int.tmod u0 10)]) trivial (Co kr)<|rsT 2 ?_) fun _ h=>lxT (have h:=jO h hn9;jE [])));have ⟨g14,h⟩:=Aj h;exact rs0 (.str<|(strOfNums [IntKind.u8.wrap (wI<|48+Int.tmod u0 10)])++u2) (Avr (a:=strOfNums [IntKind.u8.wrap (wI<|48+Int.tmod u0 10)]) (b:=u2) kr kr g14)<|rsT 1<|rnW<|Aa 16<|rsT 1<|rs0 (ai<|wI<|Int.tdiv u0 10) (Ayi (k:=.i64) (a:=u0) (b:=10) kr kr (by decide))<|rsT 1<|Ao<|bn_<|tn_<|jL []
 intro u1 h;refine Ab<|Aa 5<|rsT 1 ?_;have ⟨g16,h⟩:=Aj h;refine rs0 (.str<|(⟨#[109]⟩:ByteArray)++u1) (Avr (a:=(⟨#[109]⟩:ByteArray)) (b:=u1) kr kr g16)<|rsT 1<|rnW<|Ac ?_;cases h;exact E4 [.str ((⟨#[109]⟩:ByteArray)++u1)]<|Ag (tl:=[(2,.str<|(⟨#[109]⟩:ByteArray)++u1)]) (g:=2) []
end
section
theorem Kv(f:Nat->List Addr)(j:Nat):(range (j+1)).flatMap f=(range j).flatMap f++f j:=by rw[range_succ,flatMap_append];simp
theorem Ty.Val.lay{R:NP}{w:World}{g:Nat}:∀{t:Ty} {cs:LV} {x:t.D} {ls:List Addr} {o:Nat},Ty.Val R w t cs x ls->(∀ j,j<cs.length->w.cell? ⟨g,o+j,none⟩=cs[j]?)->ls.Nodup->(∀ p∈ls,p.block≠g) ->
  ∃ l,Ty.Mem R w t ⟨g,o,none⟩ x l/\l.Nodup/\∀ p∈l,(∃ j,o<=j/\j<o+t.size/\p=⟨g,j,none⟩)∨p∈ls
 | .int,_,_,_,o,⟨rfl,_⟩,hc,_,_=>⟨[⟨g,o,none⟩],⟨by simpa using hc 0 fS,rfl⟩,by simp,fun p hp=>.inl ⟨o,fQ _,by simp[Ty.size],by simpa using hp⟩⟩
 | .bool,_,_,_,o,⟨rfl,_⟩,hc,_,_=>⟨[⟨g,o,none⟩],⟨by simpa using hc 0 fS,rfl⟩,by simp,fun p hp=>.inl ⟨o,fQ _,by simp[Ty.size],by simpa using hp⟩⟩
 | .str,_,_,_,o,⟨rfl,_⟩,hc,_,_=>⟨[⟨g,o,none⟩],⟨by simpa using hc 0 fS,rfl⟩,by simp,fun p hp=>.inl ⟨o,fQ _,by simp[Ty.size],by simpa using hp⟩⟩
 | .slice t,_,xs,ls,o,⟨A,c,rfl,he⟩,hc,hn,_=>⟨ls,⟨A,c,by simpa using hc 0 fS,he⟩,hn,fun p hp=>.inr hp⟩
 | .pair t u,_,x,_,o,⟨c1,c2,l1,l2,rfl,h1,h2,rfl⟩,hc,hn,hb=>by
  have ⟨n1,n2,n3⟩:=nodup_append.1 hn;have e1:=h1.length;have e2:=h2.length;have ⟨m1,q1,q2,q3⟩:=Ty.Val.lay (o:=o) h1 (fun j hj=>by rw[hc j (by rw[length_append];omega),getElem?_append_left hj]) n1 (fun p hp=>hb p (mem_append_left _ hp))
  have ⟨m2,r1,r2,r3⟩:=Ty.Val.lay (o:=o+t.size) h2 (fun j hj=>by
   rw[Nat.add_assoc,hc _ (by rw[length_append];omega),getElem?_append_right oM];congr 1;omega) n2 (fun p hp=>hb p (mem_append_right _ hp))
  refine ⟨m1++m2,⟨m1,m2,q1,by rw[Cn];exact r1,rfl⟩,nodup_append.2 ⟨q2,r2,fun a ha b hb' e=>?_⟩,fun p hp=>?_⟩
  ·subst e;rcases q3 a ha with ⟨j,j1,j2,rfl⟩|h
   ·rcases r3 _ hb' with ⟨k,k1,k2,e⟩|h'
    ·injection e with _ e;omega
    ·exact hb _ (mem_append_right _ h') rfl
   ·rcases r3 _ hb' with ⟨k,k1,k2,rfl⟩|h'
    ·exact hb _ (mem_append_left _ h) rfl
    ·exact n3 _ h _ h' rfl
  ·simp only[Ty.size];rcases mem_append.1 hp with h|h
   ·rcases q3 p h with ⟨j,j1,j2,e⟩|h
    ·exact .inl ⟨j,j1,by omega,e⟩
    ·exact .inr (mem_append_left _ h)
   ·rcases r3 p h with ⟨j,j1,j2,e⟩|h
    ·exact .inl ⟨j,by omega,by omega,e⟩
    ·exact .inr (mem_append_right _ h)
def W3(g:Nat):Nat->LV->World->World
 | _,[],w=>w
 | o,v :: vs,w=>W3 g (o+1) vs (w.setCell ⟨g,o,none⟩ v)
theorem Adl{g n:Nat}{tt:TypeId}:∀{vs:LV} {o:Nat} {w:World} {F:Nat->Value},w.rowIs g tt n F->(W3 g o vs w).rowIs g tt n (fun i=>if o<=i/\i<o+vs.length then vs.getD (i - o) undef else F i)
 | [],o,w,F,h=>h.congr fun i _=>by rw[fB (by simp only[length_nil];omega)]
 | v :: vs,o,w,F,h=>(Adl (vs:=vs) (o:=o+1) (h.set o v)).congr fun i _=>by
  simp only[length_cons];by_cases e:i=o
  ·subst e;rw[fB oM,fW rfl,fW oM,Nat.sub_self,getD_cons_zero]
  ·by_cases h2:o+1<=i/\i<o+1+vs.length
   ·rw[fW h2,fW oM,show i - o=(i - (o+1))+1 by omega,getD_cons_succ]
   ·rw[fB h2,fB e,fB oM]
theorem Yn{g:Nat}:∀{vs:LV} {o:Nat} {w0 w:World},Above (g+1) w0 w->Above (g+1) w0 (W3 g o vs w)
 | [],_,_,_,h=>h
 | v :: vs,o,_,_,h=>Yn (vs:=vs) (h.setCell fS v)
theorem X3{g B:Nat}(hg:B<=g):∀{vs:LV} {o:Nat} {w0 w:World},Below B w0 w->Below B w0 (W3 g o vs w)
 | [],_,_,_,h=>h
 | v :: vs,o,_,_,h=>X3 hg (vs:=vs) (h.setCell (by simpa using hg) v)
def LaidV(g:Nat)(tt:TypeId)(t:Ty)(n k:Nat)(xs:List t.D)(w:World):Prop:=
 ∃(F:Nat->Value) (f:Nat->List Addr),w.rowIs g tt (n*t.size) F /\
  (∀(j:Nat) (hj:j<xs.length),j<k->Ty.Val (L4 (g+1)) w t ((range t.size).map fun i=>F (j*t.size+i)) (xs[j]'hj) (f j))/\Fresh w (g+1) ((range k).flatMap f)
section
variable{g n k:Nat}{tt:TypeId}{t:Ty}{xs:List t.D}{w w':World}
theorem Ty.Val.mono{R R':NP}(hR:∀ b,b<w.heap.size->R b->R' b):∀{t:Ty} {cs:LV} {x:t.D} {l:List Addr},Ty.Val R w t cs x l->Ty.Val R' w t cs x l
 | .int,_,_,_,h=>h
 | .bool,_,_,_,h=>h
 | .str,_,_,_,h=>h
 | .slice _,_,_,_,⟨A,c,h,he⟩=>⟨A,c,h,Cc hR he⟩
 | .pair _ _,_,_,_,⟨c1,c2,l1,l2,hc,h1,h2,e⟩=>⟨c1,c2,l1,l2,hc,Ty.Val.mono hR h1,Ty.Val.mono hR h2,e⟩
theorem LaidV.start{F:Nat->Value}(h:w.rowIs g tt (n*t.size) F):LaidV g tt t n 0 xs w:=
 ⟨F,fun _=>[],h,fun _ _ h=>absurd h oM,by simpa using Fresh.nil w (g+1)⟩
theorem LaidV.lt(h:LaidV g tt t n k xs w):g<w.heap.size:=by
 have ⟨_,_,h,_⟩:=h;exact h.lt
theorem LaidV.row(h:LaidV g tt t n k xs w):∃ F,w.rowIs g tt (n*t.size) F:=by
 have ⟨F,_,h,_⟩:=h;exact ⟨F,h⟩
theorem LaidV.below(h:LaidV g tt t n k xs w)(hb:Below w.heap.size w w'):LaidV g tt t n k xs w':=by
 have ⟨F,f,h1,h2,h3⟩:=h;exact ⟨F,f,h1.of_block<|hb.block _ h1.lt,fun j hj hk=>Ahh (h2 j hj hk) hb,h3.below hb⟩
theorem LaidV.step{w1:World}{cs:LV}{l:List Addr}(h:LaidV g tt t n k xs w)(hb:Below w.heap.size w w1)(hk:k<xs.length)
  (hv:Ty.Val (L4 w.heap.size) w1 t cs xs[k] l) (hf:Fresh w1 w.heap.size l):LaidV g tt t n (k+1) xs (W3 g (k*t.size) cs w1):=by
 have hg:=h.lt;have ⟨F,f,h1,h2,h3⟩:=h;have hr:=h1.of_block<|hb.block _ h1.lt;have hl:=hv.length;have hab:Above (g+1) w1 (W3 g (k*t.size) cs w1):=Yn<|Above.refl _ _;have hst:∀ l,Stays (L4<|g+1) w1 (W3 g (k*t.size) cs w1) l:=fun l=>hab.stays (fun _ h=>h) l
 refine ⟨_,fun j=>if j=k then l else f j,Adl hr,fun j hj hk'=>?_,?_⟩
 ·by_cases e:j=k
  ·subst e
   have e2:((range t.size).map fun i=>if j*t.size<=j*t.size+i/\j*t.size+i<j*t.size+cs.length then cs.getD (j*t.size+i - j*t.size) undef else F (j*t.size+i))=cs:=by
    refine ext_getElem (by simp[hl]) fun i h1 h2=>?_
    simp only[length_map,length_range]at h1;simp only[getElem_map,getElem_range];rw[fW oM,Nat.add_sub_cancel_left,gDg,gEg h2,Option.getD_some]
   rw[e2];simp only[if_true];exact (hv.mono (R':=L4<|g+1) fun b _ hb=>by have:w.heap.size<=b:=hb;show g+1<=b;omega).keep<|hst _
  ·have hjk:j<k:=by omega
   have e2:((range t.size).map fun i=>if k*t.size<=j*t.size+i/\j*t.size+i<k*t.size+cs.length then cs.getD (j*t.size+i - k*t.size) undef else F (j*t.size+i))=(range t.size).map fun i=>F (j*t.size+i):=by
    refine map_congr_left fun i hi=>?_
    have hi':=mem_range.1 hi;have:(j+1)*t.size<=k*t.size:=Nat.mul_le_mul_right _ oM;rw[Nat.succ_mul]at this;rw[fB oM]
   rw[e2];simp only[fB e];exact (Ahh (h2 j hj hjk) hb).keep<|hst _
 ·rw[Kv]
  have e1:(range k).flatMap (fun j=>if j=k then l else f j)=(range k).flatMap f:=by
   rw[flatMap_def,flatMap_def];congr 1;exact map_congr_left fun j hj=>fB (by have:=mem_range.1 hj;omega)
  rw[e1];simp only[if_true];exact (Fresh.append h3 hb hf oM).above hab
theorem Axp{F:Nat->Value}{f:Nat->List Addr}(h1:w.rowIs g tt (n*t.size) F)(hn:n=xs.length)(h2:∀(j:Nat) (hj:j<xs.length),j<n->Ty.Val (L4 (g+1)) w t ((range t.size).map fun i=>F (j*t.size+i)) (xs[j]'hj) (f j)):
  ∀ m,m<=n->Fresh w (g+1) ((range m).flatMap f)->∃ fl:Nat->List Addr,(∀(j:Nat) (hj:j<xs.length),j<m->Ty.Mem (L4 (g+1)) w t ⟨g,j*t.size,none⟩ (xs[j]'hj) (fl j))/\((range m).flatMap fl).Nodup /\
   ∀ p∈(range m).flatMap fl,(∃ j,j<m*t.size/\p=⟨g,j,none⟩)∨p∈(range m).flatMap f:=by
 intro m
 induction m with
 | zero=>exact fun _ _=>⟨fun _=>[],fun _ _ h=>absurd h oM,by simp,fun p hp=>by simp at hp⟩
 | succ m ih=>
  intro hm hf;rw[Kv]at hf;have ⟨fl,q1,q2,q3⟩:=ih oM hf.sub1;have hmx:m<xs.length:=by omega
  have hsz:m*t.size+t.size<=n*t.size:=by rw[← Nat.succ_mul];exact Nat.mul_le_mul_right _ hm
  have hbl:∀ p∈f m,p.block≠g:=fun p hp e=>by have:=(hf.2 p<|mem_append_right _ hp).1;omega
  have ⟨l,r1,r2,r3⟩:=(h2 m hmx oM).lay (g:=g) (o:=m*t.size) (fun j hj=>by
   simp only[length_map,length_range]at hj;rw[h1.cell oM,getElem?_map,getElem?_range hj,Option.map_some]) hf.sub2.1 hbl
  refine ⟨fun j=>if j=m then l else fl j,fun j hj hjm=>?_,?_,?_⟩
  ·by_cases e:j=m
   ·subst e;simpa using r1
   ·simpa [e] using q1 j hj oM
  all_goals
   rw[Kv]
   have e1:(range m).flatMap (fun j=>if j=m then l else fl j)=(range m).flatMap fl:=by
    rw[flatMap_def,flatMap_def];congr 1;exact map_congr_left fun j hj=>fB (by have:=mem_range.1 hj;omega)
   rw[e1];simp only[if_true]
  ·refine nodup_append.2 ⟨q2,r2,fun a ha b hb e=>?_⟩;subst e;rcases q3 a ha with ⟨j,j1,rfl⟩|h
   ·rcases r3 _ hb with ⟨k,k1,k2,e⟩|h'
    ·injection e with _ e;omega
    ·exact hbl _ h' rfl
   ·rcases r3 _ hb with ⟨k,k1,k2,rfl⟩|h'
    ·have:=(hf.2 _<|mem_append_left _ h).1;simp at this;omega
    ·exact (nodup_append.1 hf.1).2.2 _ h _ h' rfl
  ·intro p hp;rw[Kv,Nat.succ_mul];rcases mem_append.1 hp with h|h
   ·rcases q3 p h with ⟨j,j1,e⟩|h
    ·exact .inl ⟨j,by omega,e⟩
    ·exact .inr<|mem_append_left _ h
   ·rcases r3 p h with ⟨j,j1,j2,e⟩|h
    ·exact .inl ⟨j,by omega,e⟩
    ·exact .inr<|mem_append_right _ h
theorem LaidV.done(h:LaidV g tt t n n xs w)(hn:n=xs.length)(hc:n<=maxLen){lo:Nat}(hlo:lo<=g):∃ l,Sl (L4 lo) w t (some ⟨g,0,none⟩) n xs l/\Fresh w lo l:=by
 subst hn;have ⟨F,f,h1,h2,h3⟩:=h;have ⟨fl,q1,q2,q3⟩:=Axp h1 rfl h2 _ (fQ _) h3;refine ⟨_,⟨fQ _,hc,fl,rfl,fun _=>⟨_,rfl,hlo,fun i hi=>?_⟩⟩,q2,fun p hp=>?_⟩
 ·rw[Cn,fE];exact (q1 i hi hi).mono fun _ _ hr=>by have:g+1<=_:=hr;show lo<=_;omega
 ·rcases q3 p hp with ⟨j,_,rfl⟩|h
  ·exact ⟨hlo,h1.lt,h1.frozen j⟩
  ·have:=h3.2 p h;exact ⟨by omega,this.2⟩
end
def Laid1(lo:Nat)(w:World)(ls:List Loc)(m:List Addr):Prop:=m.Nodup/\∀ p∈m,lo<=p.block/\p.block<w.heap.size/\w.frozen? p=false/\∃ c s,Loc.at_ p.block c s∈ls
section
variable{w:World}{lo:Nat}{e:TypeId}{t:Ty}
theorem Z4{xs:List t.D}{l:Loc}(hfl:t.flat=true)(h:ownsV w lo e t.size (l.val xs.length) xs.length (t.cells xs)):∃ A c m,l.val xs.length=.slice A xs.length c/\Sl (L4 lo) w t A c xs m/\Laid1 lo w [l] m:=by
 cases l with
 | nil=>
  have h0:xs.length=0:=by
   rcases h.2 with ⟨_,h⟩|⟨g,cap,cur,h,_⟩
   ·exact h
   ·simp[Loc.val]at h
  refine ⟨none,0,[],by simp[Loc.val,h0],⟨by omega,by simp[maxLen],fun _=>[],by simp,fun h=>absurd h oM⟩,nodup_nil,fun p hp=>by cases hp⟩
 | at_ b cap s=>
  have h':=h;rcases h.2 with ⟨h,_⟩|⟨g,cap',cur,hv,hlo,hb,h1,h2,h3,h4⟩
  ·simp[Loc.val]at h
  simp only[Loc.val,Value.slice.injEq,fV,Addr.mk.injEq,true_and,and_true]at hv;obtain ⟨rfl,rfl⟩:=hv;refine ⟨some ⟨b,0,none⟩,cap,(range xs.length).flatMap fun i=>(range t.size).map (((⟨b,0,none⟩:Addr).add<|i*t.size).add ·),rfl,⟨h1,h2,fun i=>(range t.size).map (((⟨b,0,none⟩:Addr).add<|i*t.size).add ·),rfl,fun _=>⟨_,rfl,hlo,fun i hi=>?_⟩⟩,?_⟩
  ·refine Ty.mem_flat hfl fun j hj=>?_
   have hx:(t.enc xs[i])[j]? =some ((t.enc xs[i])[j]'(by rw[Ty.enc_length _ hfl];exact hj)):=gEg _;rw[hx,Cn,Cn,fE];exact Vm hfl h' (gEg _) hx
  rw[An7];refine ⟨?_,?_⟩
  ·exact pairwise_map.2 (List.nodup_range.imp fun hne e=>hne (by injection e))
  ·intro p hp;obtain ⟨j,_,rfl⟩:=mem_map.1 hp;exact ⟨hlo,(Array.getElem?_eq_some_iff.1 hb).1,by simp[World.frozen?,hb],cap,s,by simp⟩
theorem Agq:∀(ms:List (List Addr)),(range ms.length).flatMap (fun i=>ms.getD i [])=ms.flatten:=by
 intro ms;rw[flatMap_def];congr 1;refine ext_getElem fS fun i h1 h2=>?_
 simp[gDg,h2]
theorem Akm{e':TypeId}(hfl:t.flat=true):∀{xss:List (List t.D)} {kl:List Loc} {ks:LV},kl.length=xss.length->(∀(k:Nat) (xs:List t.D) (l:Loc),xss[k]? =some xs->kl[k]? =some l->ks[k]? =some (l.val xs.length)/\ownsV w lo e' t.size (l.val xs.length) xs.length (t.cells xs))->L9 kl ->
  ∃ ms:List (List Addr),ms.length=xss.length/\(∀(k:Nat) (xs:List t.D) (m:List Addr),xss[k]? =some xs->ms[k]? =some m->∃ A c,ks[k]? =some (.slice A xs.length c)/\Sl (L4 lo) w t A c xs m)/\Laid1 lo w kl ms.flatten
 | [],_,_,_,_,_=>⟨[],rfl,fun k xs m h=>by simp at h,nodup_nil,fun p hp=>by simp at hp⟩
 | _ :: _,[],_,h,_,_=>by simp at h
 | xs :: xss,l :: kl,ks,h,hk,hap=>by
  have ⟨k0,o0⟩:=hk 0 xs l rfl rfl;have ⟨A,c,m,e1,e2,n1,e3⟩:=Z4 hfl o0
  have ⟨ms,q1,q2,n2,q3⟩:=Akm (ks:=ks.drop 1) hfl (xss:=xss) (kl:=kl) (by simpa using h) (fun k ys l' hy hl=>by
   have:=hk (k+1) ys l' (by simpa using hy) (by simpa using hl);exact ⟨by rw[getElem?_drop,Nat.add_comm];exact this.1,this.2⟩) hap.2
  refine ⟨m :: ms,by simp[q1],fun k ys m' hy hm=>?_,?_,fun p hp=>?_⟩
  ·cases k with
   | zero=>
    simp at hy hm;subst hy hm;exact ⟨A,c,by rw[k0,e1],e2⟩
   | succ k=>
    have ⟨A',c',h1,h2⟩:=q2 k ys m' (by simpa using hy) (by simpa using hm);rw[getElem?_drop,Nat.add_comm]at h1;exact ⟨A',c',h1,h2⟩
  ·rw[flatten_cons];refine nodup_append.2 ⟨n1,n2,fun a ha b hb e=>?_⟩;subst e;have ⟨_,_,_,c1,s1,g1⟩:=e3 a ha;have ⟨_,_,_,c2,s2,g2⟩:=q3 a hb;exact hap.1 _ _ _ (mem_singleton.1 g1).symm c2 s2 g2
  ·rw[flatten_cons]at hp;rcases mem_append.1 hp with h|h
   ·have ⟨a1,a2,a3,c1,s1,g1⟩:=e3 p h;exact ⟨a1,a2,a3,c1,s1,by rw[mem_singleton.1 g1];exact mem_cons_self⟩
   ·have ⟨a1,a2,a3,c1,s1,g1⟩:=q3 p h;exact ⟨a1,a2,a3,c1,s1,mem_cons_of_mem _ g1⟩
theorem Axl{e':TypeId}{xss:List (List t.D)}{l:Loc}{kl:List Loc}{ks:LV}(hfl:t.flat=true)(hl:kl.length=xss.length)(ho:ownsV w lo e 1 (l.val xss.length) xss.length ks)(hk:∀(k:Nat) (xs:List t.D) (l:Loc),xss[k]? =some xs->kl[k]? =some l->ks[k]? =some (l.val xs.length)/\ownsV w lo e' t.size (l.val xs.length) xs.length (t.cells xs))(hap:L9 (l :: kl)):
  ∃ A c m,l.val xss.length=.slice A xss.length c/\Sl (L4 lo) w (.slice t) A c xss m/\Laid1 lo w (l :: kl) m:=by
 have ⟨ms,q1,q2,n2,q3⟩:=Akm hfl hl hk hap.2
 have hLd:Laid1 lo w (l :: kl) ((range xss.length).flatMap fun i=>ms.getD i []):=by
  rw[← q1,Agq]
  exact ⟨n2,fun p hp=>by
   have ⟨a1,a2,a3,c1,s1,g1⟩:=q3 p hp;exact ⟨a1,a2,a3,c1,s1,mem_cons_of_mem _ g1⟩⟩
 rcases ho.2 with ⟨hv,h0⟩|⟨g,cap,cur,hv,hlo,hb,h1,h2,h3,h4⟩
 ·refine ⟨none,0,_,by rw[hv,h0],⟨by omega,by simp[maxLen],fun i=>ms.getD i [],rfl,fun h=>absurd h oM⟩,hLd⟩
 ·refine ⟨_,cap,_,hv,⟨h1,h2,fun i=>ms.getD i [],rfl,fun _=>⟨_,rfl,hlo,fun i hi=>?_⟩⟩,hLd⟩;obtain ⟨m,hm⟩:∃ m,ms[i]? =some m:=⟨_,gEg oM⟩
  have ⟨A,c,hks,hs⟩:=q2 i _ m (gEg hi) hm;have hgd:ms.getD i []=m:=by rw[gDg,hm];rfl
  show Ty.Mem _ _ _ _ _ (ms.getD i []);rw[hgd];refine ⟨A,c,?_,hs⟩;have hc:=ho.cells (g:=g) (by rw[hv];rfl) i _ hks
  simpa [Ty.size] using hc
end
def RL.Out(lo:Nat)(w:World):List RL->LV->List Addr->Prop
 | [],us,l=>us=[]/\l=[]
 | .sc c :: r,us,l=>∃ u us',us=u :: us'/\AV.Rep (fun _=>none) (fun _=>True) w c u/\RL.Out lo w r us' l
 | .new _ t xs :: r,us,l=>∃ A c m us' l',us=.slice A xs.length c :: us'/\l=m++l'/\Sl (L4 lo) w t A c xs m/\RL.Out lo w r us' l'
 | .newM _ _ u xss :: r,us,l=>∃ A c m us' l',us=.slice A xss.length c :: us'/\l=m++l'/\Sl (L4 lo) w (.slice u) A c xss m/\RL.Out lo w r us' l'
 | .frz c :: r,us,l=>∃ u us',us=u :: us'/\AV.Rep (fun _=>none) (fun b=>lo<=b) w c u/\RL.Out lo w r us' l
 | _ :: _,_,_=>False
def RL.plain:RL->Bool
 | .sc _ | .new .. | .newM .. | .frz _=>true
 | _=>false
theorem X4:∀{a b:List Loc},L9 (a++b)->L9 b
 | [],_,h=>h
 | _ :: a,_,h=>X4 (a:=a) h.2
theorem Abd:∀{a b:List Loc},L9 (a++b)->L9 a
 | [],_,_=>trivial
 | _ :: a,_,h=>⟨fun b c s e c' s' hm=>h.1 b c s e c' s' (mem_append_left _ hm),Abd (a:=a) h.2⟩
theorem Yo:∀{a b:List Loc},L9 (a++b)->∀ n c s c' s',Loc.at_ n c s∈a->Loc.at_ n c' s'∉b
 | l :: a,_,h,n,c,s,c',s',hm=>by
  rcases mem_cons.1 hm with e|hm
  ·exact fun hb=>h.1 n c s e.symm c' s' (mem_append_right _ hb)
  ·exact Yo (a:=a) h.2 n c s c' s' hm
theorem Laid1.append{lo:Nat}{w:World}{a b:List Loc}{l m:List Addr}(h1:Laid1 lo w a l)(h2:Laid1 lo w b m)(hap:L9 (a++b)):Laid1 lo w (a++b) (l++m):=by
 refine ⟨nodup_append.2 ⟨h1.1,h2.1,fun x hx y hy e=>?_⟩,fun p hp=>?_⟩
 ·subst e;have ⟨_,_,_,c1,s1,g1⟩:=h1.2 x hx;have ⟨_,_,_,c2,s2,g2⟩:=h2.2 x hy;exact Yo hap _ _ _ _ _ g1 g2
 ·rcases mem_append.1 hp with h|h
  ·have ⟨a1,a2,a3,c1,s1,g1⟩:=h1.2 p h;exact ⟨a1,a2,a3,c1,s1,mem_append_left _ g1⟩
  ·have ⟨a1,a2,a3,c1,s1,g1⟩:=h2.2 p h;exact ⟨a1,a2,a3,c1,s1,mem_append_right _ g1⟩
theorem RL.out_of{lo:Nat}{im:NP}{vs:LV}{w:World}:∀{rs:List RL} {us:LV} {ls:List Loc},rs.all RL.plain=true->RL.RepL lo im vs w rs us ls->L9 ls->∃ l,RL.Out lo w rs us l/\Laid1 lo w ls l
 | [],us,ls,_,⟨h,_⟩,_=>⟨[],⟨h,rfl⟩,nodup_nil,fun p hp=>by cases hp⟩
 | .sc c :: r,us,ls,hp,⟨u,us',e,h1,h2,h3⟩,hap=>by
  have ⟨l,q1,q2⟩:=RL.out_of (rs:=r) (by simpa [RL.plain] using hp) h3 hap;exact ⟨l,⟨u,us',e,(by cases c <;> first|exact h1|cases h2),q1⟩,q2⟩
 | .new e t xs :: r,us,ls,hp,⟨l,ls',us',e1,e2,h1,h2,_,h3⟩,hap=>by
  subst e1 e2;have ⟨m,q1,q2⟩:=RL.out_of (rs:=r) (by simpa [RL.plain] using hp) h3 hap.2;have ⟨A,c,k,e3,e4,e5⟩:=Z4 h1 h2;exact ⟨k++m,⟨A,c,k,us',m,by rw[e3],rfl,e4,q1⟩,e5.append (a:=[l]) q2 hap⟩
 | .newM e e' u xss :: r,us,ls,hp,⟨l,kl,ls',us',ks,e1,e2,⟨⟨h0,h1⟩,⟨h2,_⟩,h3⟩,h4⟩,hap=>by
  subst e1 e2;have ⟨m,q1,q2⟩:=RL.out_of (rs:=r) (by simpa [RL.plain] using hp) h4 (X4 (a:=l :: kl) hap);have ⟨A,c,k,e3,e4,e5⟩:=Axl h1 h0 h2 (fun k xs l hx hl=>⟨(h3 k xs l hx hl).1,(h3 k xs l hx hl).2.1⟩) (Abd (a:=l :: kl) hap);exact ⟨k++m,⟨A,c,k,us',m,by rw[e3],rfl,e4,q1⟩,e5.append (a:=l :: kl) q2 hap⟩
 | .frz c :: r,us,ls,hp,⟨u,us',e,h1,h2,h3⟩,hap=>by
  have ⟨l,q1,q2⟩:=RL.out_of (rs:=r) (by simpa [RL.plain] using hp) h3 hap;exact ⟨l,⟨u,us',e,h1,q1⟩,q2⟩
 | .arg .. :: _,_,_,hp,_,_=>by simp[RL.plain]at hp
 | .argS .. :: _,_,_,hp,_,_=>by simp[RL.plain]at hp
 | .imm _ :: _,_,_,hp,_,_=>by simp[RL.plain]at hp
theorem RV.out_of{lo:Nat}{im:NP}{vs:LV}{w:World}{r:RV}{u:Value}(h:r.Rep lo im vs w u)(hp:r.leaves.all RL.plain=true):
  ∃ us l,RL.Out lo w r.leaves us l/\Fresh w lo l/\u=(if r.tup then .tuple (Jc r.ps us).toArray else (Jc r.ps us).headD undef):=by
 obtain ⟨us,ls,h1,⟨h2,_⟩,rfl⟩:=h;have ⟨l,q1,q2,q3⟩:=RL.out_of hp h1 h2;exact ⟨us,l,q1,⟨q2,fun p hp=>⟨(q3 p hp).1,(q3 p hp).2.1,(q3 p hp).2.2.1⟩⟩,rfl⟩
section
variable{P:Program}{G:WP}{w0 w:World}{ob:OF}{C:OC}{K:NP}{im:NP}
theorem Am3(hG:∀ w',Below w.heap.size w w'->G w'):Mem0 G w (fun _=>none) (fun _=>none) (fun _=>False) w:=
 ⟨Below.refl _ _,hG,fun _ _ h=>(by cases h),fun _ _ _ _ h=>(by cases h),fun _ _ _ _ h=>(by cases h),fun _ _ _ _ _ _ _ _ _ h=>(by cases h),fun _ _ _ h=>by cases h⟩
abbrev nwN:Oid->Oid:=Cf (Bl []) ((0,0),1)
theorem Vt{g:FuncId}{args:LA}{v:AV}{us:List (Oid×Ob)}{vs:LV}(h:Ed P G g args [] v us)(hG:∀ w',Below w.heap.size w w'->G w')(hr:AV.RepL (fun _=>none) (fun _=>True) w args vs)(hn:AV.renL (Bl []) args=args:=by rfl)(hB:Zh [] [] us 1 []=true:=by kernel_rfl)(hv:v.ren nwN=v:=by kernel_rfl)(hu:Qn nwN us=us:=by kernel_rfl):
  Calls P g vs.toArray w fun e w'=>∃ u,e=.returned u/\Below w.heap.size w w'/\∃ C',Mem0 G w (Am (Cq us)) C' (fun n=>False∨n=1) w'/\AV.Rep C' (imm (Am (Cq us)) C') w' v u:=by
 refine (h (Bl []) ((0,0),1) w _ _ _ w vs (Am3 hG) (fun h=>h) (fun q hq=>by cases hq) (fun j k hj=>by cases hj) (fun j hj=>by cases hj) ?_).mono ?_
 ·rw[hn]
  have e:Abs (Bl []) [] (fun _=>none)=fun _=>True:=by
   funext b;simp[Abs,exL]
  rw[e];exact hr
 ·rintro e w' ⟨u,rfl,C',_,h2,h3⟩;have e:=(Uf hB trivial).2.2.2 ((0,0),1) rfl;have e':(fun _=>none)=Am []:=rfl;rw[e',e]at h2 h3;have e2:M6 (Bl []) []++[]=([]:OL):=rfl;rw[e2,append_nil,hu]at h2 h3;rw[hv]at h3;exact ⟨u,rfl,h2.below,C',h2,h3⟩
def Spots(w0:World)(ob:OF)(C:OC)(w:World)(S:Oid->Prop)(m:List Addr):Prop:=
 m.Nodup/\∀ p∈m,w0.heap.size<=p.block/\p.block<w.heap.size/\w.frozen? p=false/\∃ j o c s,S j/\ob j=some o/\C j=some (.at_ p.block c s)
theorem Spots.fresh{S:Oid->Prop}{m:List Addr}(h:Spots w0 ob C w S m):Fresh w w0.heap.size m:=⟨h.1,fun p hp=>⟨(h.2 p hp).1,(h.2 p hp).2.1,(h.2 p hp).2.2.1⟩⟩
theorem Spots.append{S T:Oid->Prop}{l m:List Addr}(hm:Mem0 G w0 ob C K w)(h1:Spots w0 ob C w S l)(h2:Spots w0 ob C w T m)(hd:∀ i,S i->T i->False):Spots w0 ob C w (fun i=>S i∨T i) (l++m):=by
 refine ⟨nodup_append.2 ⟨h1.1,h2.1,fun x hx y hy e=>?_⟩,fun p hp=>?_⟩
 ·subst e;have ⟨_,_,_,i,o,c,s,g1,g2,g3⟩:=h1.2 x hx;have ⟨_,_,_,j,o',c',s',k1,k2,k3⟩:=h2.2 x hy;have:=hm.inj i j _ _ _ _ _ _ _ g2 k2 g3 k3;subst this;exact hd i g1 k1
 ·rcases mem_append.1 hp with h|h
  ·have ⟨a1,a2,a3,i,o,c,s,g1,g2⟩:=h1.2 p h;exact ⟨a1,a2,a3,i,o,c,s,.inl g1,g2⟩
  ·have ⟨a1,a2,a3,i,o,c,s,g1,g2⟩:=h2.2 p h;exact ⟨a1,a2,a3,i,o,c,s,.inr g1,g2⟩
theorem Afl{ol:OL}{p:Oid}{e:TypeId}{t:Ty}{xss:List (List t.D)}{k:Nat}{xs:List t.D}(hx:xss[k]? =some xs)(h:Gg ol p=some (.pool e t xss)):Am ol (kid p k)=some (.arr e t xs):=by
 rw[L7,Nk h,hx];rfl
theorem Ahj(hm:Mem0 G w0 ob C K w){a:Oid}{e:TypeId}{t:Ty}{xs:List t.D}{v:Value}(ho:ob a=some (.arr e t xs))(hv:AV.Rep C im w (.own a t 0 xs.length) v):
  ∃ A c m,v=.slice A xs.length c/\Sl (L4 w0.heap.size) w t A c xs m/\Spots w0 ob C w (fun i=>i=a) m:=by
 obtain ⟨l,hl,rfl,_⟩:=Xx hv;have ⟨hfl,hw,_⟩:=hm.obs a _ l ho hl;have ⟨A,c,m,e1,e2,n1,e3⟩:=Z4 hfl hw;refine ⟨A,c,m,e1,e2,n1,fun p hp=>?_⟩;have ⟨a1,a2,a3,c,s,h⟩:=e3 p hp;exact ⟨a1,a2,a3,a,_,c,s,rfl,ho,by rw[hl,← mem_singleton.1 h]⟩
theorem Ape:∀ {cs:LA} {vs:LV} {k:Nat} {c:AV},AV.RepL C im w cs vs->cs[k]? =some c->∃ v,vs[k]? =some v/\AV.Rep C im w c v
 | [],_,_,_,_,h=>by simp at h
 | c :: cs,_,0,_,⟨u,us,rfl,h1,_⟩,h=>by obtain rfl:=osj h;exact ⟨u,rfl,h1⟩
 | c :: cs,_,k+1,d,⟨u,us,rfl,_,h2⟩,h=>by
  obtain ⟨v,e,hv⟩:=Ape (k:=k) h2 (by simpa using h);exact ⟨v,by simpa using e,hv⟩
theorem Aaj(hm:Mem0 G w0 ob C K w){a p:Oid}{e e':TypeId}{t:Ty}{xss:List (List t.D)}{v:Value}(ho:ob a=some (.vec e 1 xss.length (hdL p t xss)))(hk:∀(k:Nat) (xs:List t.D),xss[k]? =some xs->ob (kid p k)=some (.arr e' t xs))(hv:AV.Rep C im w (.own a (.slice t) 0 xss.length) v):
  ∃ A c m,v=.slice A xss.length c/\Sl (L4 w0.heap.size) w (.slice t) A c xss m/\Spots w0 ob C w (fun i=>∃ k,i=kid p k) m:=by
 obtain ⟨l,hl,rfl,_⟩:=Xx hv;have ⟨vs,hw,hrep,_⟩:=hm.obs a _ l ho hl
 have hkid:∀(k:Nat) (xs:List t.D),xss[k]? =some xs->∃ v,vs[k]? =some v/\∃ A c m,v=.slice A xs.length c/\Sl (L4 w0.heap.size) w t A c xs m/\Spots w0 ob C w (fun i=>i=kid p k) m:=by
  intro k xs hx
  have ⟨v,e1,e2⟩:=Ape (k:=k) hrep (show (hdL p t xss)[k]? =some (.own (kid p k) t 0 xs.length) by
   unfold hdL;rw[getElem?_map,getElem?_zipIdx,hx];simp)
  exact ⟨v,e1,Ahj hm (hk k xs hx) e2⟩
 have hall:∀ n,n<=xss.length->∃ f:Nat->List Addr,(∀(k:Nat) (xs:List t.D),k<n->xss[k]? =some xs->∃ A c,vs[k]? =some (.slice A xs.length c)/\Sl (L4 w0.heap.size) w t A c xs (f k))/\Spots w0 ob C w (fun i=>∃ k,k<n/\i=kid p k) ((range n).flatMap f):=by
  intro n
  induction n with
  | zero=>exact fun _=>⟨fun _=>[],fun _ _ h=>absurd h oM,nodup_nil,fun p hp=>by cases hp⟩
  | succ n ih=>
   intro hn;have ⟨f,q1,q2⟩:=ih oM;have ⟨v,e1,A,c,m,e2,e3,e4⟩:=hkid n _<|gEg oM;refine ⟨fun j=>if j=n then m else f j,fun k xs hk hx=>?_,?_⟩
   ·by_cases e:k=n
    ·subst e;rw[gEg oM]at hx;cases hx;exact ⟨A,c,by rw[e1,e2],by simpa using e3⟩
    ·have ⟨A',c',h1,h2⟩:=q1 k xs oM hx;exact ⟨A',c',h1,by simpa [e] using h2⟩
   ·rw[Kv]
    have e1:(range n).flatMap (fun j=>if j=n then m else f j)=(range n).flatMap f:=by
     rw[flatMap_def,flatMap_def];congr 1;exact map_congr_left fun j hj=>fB (by have:=mem_range.1 hj;omega)
    rw[e1];simp only[if_true];have:=q2.append hm e4 fun i ⟨k,hk,e⟩ e'=>by have:=Gr<|e.symm.trans e';omega
    exact ⟨this.1,fun x hx=>by
     have ⟨a1,a2,a3,j,o,c,s,g1,g2⟩:=this.2 x hx;refine ⟨a1,a2,a3,j,o,c,s,?_,g2⟩;rcases g1 with ⟨k,hk,e⟩|e
     ·exact ⟨k,by omega,e⟩
     ·exact ⟨n,by omega,e⟩⟩
 have ⟨f,q1,q2⟩:=hall _<|fQ _
 have hS:Spots w0 ob C w (fun i=>∃ k,i=kid p k) ((range xss.length).flatMap f):=⟨q2.1,fun x hx=>by
  have ⟨a1,a2,a3,j,o,c,s,⟨k,_,e⟩,g2⟩:=q2.2 x hx;exact ⟨a1,a2,a3,j,o,c,s,⟨k,e⟩,g2⟩⟩
 rcases hw.2 with ⟨hv,h0⟩|⟨g,cap,cur,hv,hlo,hb,h1,h2,h3,h4⟩
 ·exact ⟨none,0,_,by rw[hv,h0],⟨by omega,by simp[maxLen],f,rfl,fun h=>absurd h oM⟩,hS⟩
 ·refine ⟨_,cap,_,hv,⟨h1,h2,f,rfl,fun _=>⟨_,rfl,hlo,fun i hi=>?_⟩⟩,hS⟩;have ⟨A,c,hks,hs⟩:=q1 i _ hi<|gEg hi;refine ⟨A,c,?_,hs⟩;have hc:=hw.cells (g:=g) (by rw[hv];rfl) i _ hks
  simpa [Ty.size] using hc
end
end
section
section
variable{α β C ρ:Type}
theorem Ag7{body:C->Option (Ctl C ρ)}{Post:ρ->Prop}(n:Nat)(I:Nat->C->Prop)
  (hs:∀ i s,i<n->I i s->(∃ s',body s=some (.next s')/\I (i+1) s')∨∃ r,body s=some (.out r)/\Post r) (he:∀ s,I n s->∃ r,body s=some (.out r)/\Post r):
  ∀(F k:Nat) (s:C),k<=n->n - k<F->I k s->∃ r,Aq body F s=some r/\Post r
 | 0,_,_,_,h,_=>by omega
 | F+1,k,s,hk,h,hi=>by
  have key:(∃ r,body s=some (.out r)/\Post r)->∃ r,Aq body (F+1) s=some r/\Post r:=by
   rintro ⟨r,h1,h2⟩;exact ⟨r,by simp only[Aq,h1,obs,Ctl.then],h2⟩
  rcases Nat.lt_or_ge k n with hlt|hge
  ·rcases hs k s hlt hi with ⟨s',h1,h2⟩|h
   ·have ⟨r,h3,h4⟩:=Ag7 n I hs he F (k+1) s' hlt oM h2;exact ⟨r,by simp only[Aq,h1,obs,Ctl.then];exact h3,h4⟩
   ·exact key h
  ·obtain rfl:k=n:=by omega
   exact key<|he s hi
theorem Jd{body:C->Option (Ctl C ρ)}{Post:ρ->Prop}(n:Nat)(I:Nat->C->Prop){F:Nat}(hn:n<F){s0:C}(h0:I 0 s0)
  (hs:∀ i s,i<n->I i s->(∃ s',body s=some (.next s')/\I (i+1) s')∨∃ r,body s=some (.out r)/\Post r) (he:∀ s,I n s->∃ r,body s=some (.out r)/\Post r):∃ r,Aq body F s0=some r/\Post r:=
 Ag7 n I hs he F 0 s0 (Nat.zero_le _) oM h0
theorem Hy{body:C->Option (Ctl C ρ)}(n:Nat)(I:Nat->C->Prop){F:Nat}(hn:n<F){s0:C}(r:ρ)(h0:I 0 s0)
  (hs:∀ i s,i<n->I i s->(∃ s',body s=some (.next s')/\I (i+1) s')∨body s=some (.out r)) (he:∀ s,I n s->body s=some (.out r)):Aq body F s0=some r:=by
 obtain ⟨r',h1,rfl⟩:=Jd (Post:=fun r'=>r'=r) n I hn h0 (fun i s hi hI=>(hs i s hi hI).imp id fun h=>⟨r,h,rfl⟩) fun s h=>⟨r,he s h,rfl⟩;exact h1
theorem Bg{body:C->Option (Ctl C ρ)}(n:Nat)(S:Nat->C){F:Nat}(hn:n<F){s0:C}(r:ρ)(h0:s0=S 0)(hs:∀ i,i<n->body (S i)=some (.next (S (i+1))))(he:body (S n)=some (.out r)):Aq body F s0=some r:=by
 subst h0;refine Hy n (fun i s=>s=S i) hn r rfl (fun i s hi e=>.inl ?_) (fun s e=>by subst e;exact he);subst e;exact ⟨_,hs i hi,rfl⟩
theorem Id{body:Nat->Option (Ctl Nat ρ)}(xs:List α)(q:α->Bool)(good bad:ρ){F:Nat}(hn:xs.length<F)(hs:∀ i x,xs[i]? =some x->body i=some (if q x then .next (i+1) else .out bad))(he:body xs.length=some (.out good)):Aq body F 0=some (if xs.all q then good else bad):=by
 refine Hy xs.length (fun i s=>s=i/\(xs.take i).all q=true) hn _ ⟨rfl,by simp⟩ ?_ ?_
 ·rintro i s hi ⟨hsi,hq⟩;subst s;have hx:=gEg hi;rw[hs i _ hx];cases hc:q xs[i]
  ·refine .inr ?_
   have:xs.all q=false:=by
    rw[Bool.eq_false_iff];intro ha;rw[all_eq_true]at ha;rw[ha _ (getElem_mem hi)]at hc;cases hc
   rw[this];rfl
  ·refine .inl ⟨i+1,rfl,rfl,?_⟩;rw[take_add_one,all_append,hq,hx];simp[hc]
 ·rintro s ⟨rfl,hq⟩;rw[take_length]at hq;rw[he,hq];rfl
theorem Pq{body:Nat->Option (Ctl Nat ρ)}(xs:List α)(q:α->Bool)(none_:ρ)(g:Nat->ρ){F:Nat}(hn:xs.length<F)(hs:∀ i x,xs[i]? =some x->body i=some (if q x then .out (g i) else .next (i+1)))(he:body xs.length=some (.out none_)):
  (xs.any q=true/\∃ i,i<xs.length/\Aq body F 0=some (g i))∨(xs.any q=false/\Aq body F 0=some none_):=by
 have key:∃ r,Aq body F 0=some r/\((xs.any q=true/\∃ i,i<xs.length/\r=g i)∨(xs.any q=false/\r=none_)):=by
  refine Jd xs.length (fun i s=>s=i/\(xs.take i).any q=false) hn ⟨rfl,by simp⟩ ?_ ?_
  ·rintro i s hi ⟨hsi,hq⟩;subst s;have hx:=gEg hi;rw[hs i _ hx];cases hc:q xs[i]
   ·refine .inl ⟨i+1,rfl,rfl,?_⟩;rw[take_add_one,any_append,hq,hx];simp[hc]
   ·exact .inr ⟨_,rfl,.inl ⟨any_eq_true.2 ⟨_,getElem_mem hi,hc⟩,i,hi,rfl⟩⟩
  ·rintro s ⟨hsi,hq⟩;subst hsi;rw[take_length]at hq;exact ⟨_,he,.inr ⟨hq,rfl⟩⟩
 obtain ⟨r,h,⟨h1,i,hi,rfl⟩|⟨h1,rfl⟩⟩:=key
 ·exact .inl ⟨h1,i,hi,h⟩
 ·exact .inr ⟨h1,h⟩
theorem Dl{body:Nat×List β->Option (Ctl (Nat×List β) ρ)}(xs:List α)(f:α->β)(ys:List β){F:Nat}(hn:xs.length<F)(r:ρ)(hs:∀ i x,xs[i]? =some x->body (i,ys++(xs.take i).map f)=some (.next (i+1,(ys++(xs.take i).map f)++[f x])))(he:body (xs.length,ys++xs.map f)=some (.out r)):Aq body F (0,ys)=some r:=by
 refine Bg xs.length (fun i=>(i,ys++(xs.take i).map f)) hn r fS (fun i hi=>?_) (by rw[take_length];exact he);have hx:=gEg hi;rw[hs i _ hx,take_add_one,hx];simp only[map_append,Option.toList,map_cons,map_nil,append_assoc]
theorem Aa2{xs:List α}{d:α}{i:Nat}(h:i<xs.length):(xs.take i++replicate (xs.length - i) d)[i]? =some d:=by
 have h1:(xs.take i).length=i:=by rw[length_take];omega
 rw[getElem?_append_right oM,h1,Nat.sub_self,getElem?_replicate,fW oM]
theorem Zs{xs:List α}{d x:α}{i:Nat}(h:xs[i]? =some x):(xs.take i++replicate (xs.length - i) d).set i x=xs.take (i+1)++replicate (xs.length - (i+1)) d:=by
 have hi:=(gSi.1 h).1;have e:xs.length - i=(xs.length - (i+1))+1:=by omega
 rw[take_add_one,h,e,replicate_succ,set_append,fB sO];simp[Nat.min_eq_left (Nat.le_of_lt hi)]
theorem Ry{xs ys:List α}{i:Nat}(h:i<xs.length)(hl:ys.length=i):(ys++xs.drop i)[i]? =some xs[i]:=by
 rw[getElem?_append_right oM,hl];simp[getElem?_drop,h]
theorem Sb{xs ys:List α}{y:α}{i:Nat}(h:i<xs.length)(hl:ys.length=i):(ys++xs.drop i).set i y=(ys++[y])++xs.drop (i+1):=by
 rw[set_append,fB oM,hl,Nat.sub_self,drop_eq_getElem_cons h,append_assoc];rfl
end
theorem Bi{n:Int}(h1: -9223372036854775808<=n)(h2:n<9223372036854775808):wI n=n:=Go.IntWalk.i64_in _ oM
theorem Av{p:Prop}[Decidable p](h:p):decide p=true:=decide_eq_true h
theorem At{p:Prop}[Decidable p](h:¬ p):decide p=false:=decide_eq_false h
end
section
theorem A0m:∀ d:Fin 10,strOfNums [IntKind.u8.wrap (wI (48+((d.val:Nat):Int)))]=⟨#[UInt8.ofNat (48+d.val)]⟩:=by
 intro d;apply ByteArray.ext
 revert d
 decide +kernel
theorem Am5{k:Int}(h:0<=k/\k<=9223372036854775807):Oz k=some (Aoc k):=by
 unfold Oz Aoc;by_cases h0:k<=0
 ·rw[Av h0,fW h0];rfl
 rw[fJ h0,fB h0]
 obtain ⟨r,hr,rfl,hs⟩:=Jd (F:=4611686018427387904) (body:=fun s_:Int×ByteArray=>Ht s_.1 s_.2) (s0:=((k,(⟨#[]⟩:ByteArray)):Int×ByteArray)) (Post:=fun r:ByteArray=>r=⟨(Al5 k.toNat []).toArray⟩/\r.size<=64) 63 (fun (i:Nat) (s:Int×ByteArray)=>0<=s.1/\s.1.toNat*2 ^ i<=k.toNat/\s.2.size<=i/\∃ l:List UInt8,s.2=⟨l.toArray⟩/\Al5 s.1.toNat l=Al5 k.toNat []) oM ⟨h.1,by simp,fQ _,[],rfl,rfl⟩ (by
  rintro i ⟨v,t⟩ hi ⟨h1,h2,h3,l,h4,h5⟩;dsimp only at h1 h2 h3 h4 h5
  try dsimp only
  unfold Ht;by_cases hv:0<v
  ·obtain ⟨n,rfl⟩:∃ n:Nat,v=n:=⟨v.toNat,by omega⟩
   have hd:Int.tdiv (n:Int) 10=((n / 10:Nat):Int):=by rw[Int.tdiv_eq_ediv_of_nonneg h1];omega
   have hm:Int.tmod (n:Int) 10=((n % 10:Nat):Int):=by rw[Int.tmod_eq_emod_of_nonneg h1];omega
   have hF:=A0m ⟨n % 10,Nat.mod_lt _ oM⟩;simp only at hF
   have hn:n<=9223372036854775807:=by
    have:n*1<=n*2 ^ i:=Nat.mul_le_mul_left _<|Nat.one_le_two_pow;simp only[fX]at h2;omega
   rw[fH hv,hm,hF,Af (by show 1+t.size<=_;omega),hd,Bi (n:=((n / 10:Nat):Int)) oM oM];refine .inl ⟨_,rfl,by dsimp only;omega,?_,?_,UInt8.ofNat (48+n % 10) :: l,?_,?_⟩
   ·dsimp only;simp only[fX]at h2 ⊢;rw[Nat.pow_succ]
    have:(n / 10)*(2 ^ i*2)<=n*2 ^ i:=by
     rw[Nat.mul_comm (2 ^ i) 2,← Nat.mul_assoc];exact Nat.mul_le_mul_right _ oM
    omega
   ·dsimp only;rw[ByteArray.size_append];show 1+t.size<=i+1;omega
   ·dsimp only;rw[h4];apply ByteArray.ext;simp
   ·dsimp only;rw[← h5];simp only[fX];rw[Al5.eq_def n l,dif_neg oM]
  ·obtain rfl:v=0:=by omega
   rw[At hv];refine .inr ⟨_,rfl,?_,by omega⟩;rw[h4,← h5,Al5.eq_def];rfl) (by
  rintro ⟨v,t⟩ ⟨h1,h2,h3,l,h4,h5⟩;dsimp only at h1 h2 h3 h4 h5
  try dsimp only
  unfold Ht;obtain rfl:v=0:=by omega
  rw[At oM];refine ⟨_,rfl,?_,by omega⟩;rw[h4,← h5,Al5.eq_def];rfl)
 rw[hr,obs,Af (by show 1+ByteArray.size _<=_;omega)];rfl
theorem Yx(k:Int)(hk:0<=k/\k<=9223372036854775807)(w:World)(tab:Tab w):Calls Tryz.prog 36 #[.int .i64 k] w fun e w'=>e=.returned (.string (Aoc k))/\Below w.heap.size w w':=by
 refine (Vt (vs:=[.int .i64 k]) (Aae<|Am5 hk) (fun w' hb=>tab.below hb) ⟨_,_,rfl,rfl,rfl⟩).mono ?_;rintro e w' ⟨u,rfl,hb,C',hm,hv⟩;obtain rfl:u=.string (Aoc k):=hv;exact ⟨rfl,hb⟩
theorem Wa{R:NP}(xs:List ZB)(A:Option Addr)(c:Nat)(l:List Addr)(k:Int)(lo:Nat)(w:World)(h:Sl R w (.pair .int (.pair .int .str)) A c xs l)(hf:Fresh w lo l)(hk:0<=k/\k+l.length<=9223372036854775807){w0:World}(tab:Tab w0)(hb0:Below w0.heap.size w0 w)(hlo:w0.heap.size<=lo):
  Calls Tryz.prog 37 #[.slice A xs.length c,.int .i64 k] w fun e w'=>e=.returned (.int .i64 (k+l.length))/\MarkedAs l k w w':=by
 have hn:=(Qi h).2;have hlen:=Q5 (t:=.pair .int<|.pair .int .str) rfl h;simp only[Ty.size,Nat.reduceAdd]at hlen
 go_enter Tryz.func37,Tryz.ntmps37
 go_wp2
 go_loopw [1,5] (fun m i wr=>∃ j:Nat,j<=xs.length/\i=.int .i64 j/\m=.int .i64 (k+(j:Int)*3)/\MarkedAs (l.take<|j*3) k w wr) fun _ i _=>xs.length - (intOf i).toNat
 case atStart=>exact ⟨0,by omega,rfl,by simp,by simpa using MarkedAs.nil w k⟩
 case round=>
  obtain ⟨j,hj,rfl,rfl,hm⟩:=hrel;by_cases hlt:j<xs.length
  ·obtain ⟨b,o,rfl,hl,hcell⟩:=Re (t:=.pair .int<|.pair .int .str) rfl h oM;have c0:=hcell j hlt 0 (by decide);have c1:=hcell j hlt 1 (by decide);have c2:=hcell j hlt 2 (by decide);obtain ⟨⟨x0,x1,x2⟩,hx⟩:∃ x,x=xs[j]:=⟨_,rfl⟩
   rw[← hx]at c0 c1 c2
   replace c0:w.cell? ⟨b,o+j*3,none⟩=some (.int .i64 x0):=c0
   replace c1:w.cell? ⟨b,o+j*3+1,none⟩=some (.int .i64 x1):=by rw[Nat.add_assoc];exact c1
   replace c2:w.cell? ⟨b,o+j*3+2,none⟩=some (.string x2):=by rw[Nat.add_assoc];exact c2
   have p0:l[j*3]'oM=⟨b,o+j*3,none⟩:=by simp[hl,Ty.size]
   have p1:l[j*3+1]'oM=⟨b,o+j*3+1,none⟩:=by simp[hl,Ty.size,Nat.add_assoc]
   have p2:l[j*3+2]'oM=⟨b,o+j*3+2,none⟩:=by simp[hl,Ty.size,Nat.add_assoc]
   have d0:=hm.cellOf hf (show j*3<=j*3 by omega) oM (by rw[p0];exact c0);have z0:=hm.thaw hf (p:=l[j*3]'oM)<|getElem_mem _;rw[p0]at d0 z0;have d1:=hm.cellOf hf (show j*3<=j*3+1 by omega) oM (by rw[p1];exact c1);have z1:=hm.thaw hf (p:=l[j*3+1]'oM)<|getElem_mem _;rw[p1]at d1 z1;have d2:=hm.cellOf hf (show j*3<=j*3+2 by omega) oM (by rw[p2];exact c2);have z2:=hm.thaw hf (p:=l[j*3+2]'oM)<|getElem_mem _;rw[p2]at d2 z2;have m0:=hm.step hf (show j*3<l.length by omega) (u:=.int .i64 x0) (by rw[p0];exact c0) trivial p0.symm (v:=.int .i64<|k+(j:Int)*3) (by simp only[Wg] <;> (congr 1 <;> omega));have m1:=m0.step hf (show j*3+1<l.length by omega) (u:=.int .i64 x1) (by rw[p1];exact c1) trivial p1.symm (v:=.int .i64<|k+(j:Int)*3+1) (by simp only[Wg] <;> (congr 1 <;> omega));have hM1:=Lib.hid m1;have hTb:∀ w':World,MarkedAs (l.take<|j*3+1+1) k w w'->Tab w':=fun w' m=>tab.below<|hb0.trans<|m.belowAt (fun p hp=>Nat.le_trans hlo (hf.2 p<|mem_of_mem_take hp).1)<|Nat.le_trans hb0.size<|fQ _
   clear hcell hx hm m0 m1
   go_wp2_with fail
   refine (Yx (k+(j:Int)*3+1+1) oM _<|hTb _ hM1.out).mono ?_;rintro e w1 ⟨rfl,hb1⟩;have m2:=hM1.out.below (by simpa using hb1);have d3:=m2.cellOf hf (show j*3+1+1<=j*3+2 by omega) oM (by rw[p2];exact c2);have z3:=m2.thaw hf (p:=l[j*3+2]'oM)<|getElem_mem _;rw[p2]at d3 z3;have hM2:=Lib.hid<|m2.step hf (show j*3+1+1<l.length by omega) (u:=.string x2) (by simp only[show j*3+1+1=j*3+2 from rfl];rw[p2];exact c2) trivial (by simp only[show j*3+1+1=j*3+2 from rfl];exact p2.symm) (v:=.string<|Aoc<|k+(j:Int)*3+1+1) (by simp only[Wg] <;> (congr 2 <;> omega))
   clear m2 hb1 d0 d1 d2 z0 z1 z2
   go_wp2_with fail
   go_roundw
   case rel=>exact ⟨j+1,by omega,by go_num,by congr 1;omega,by simpa [Nat.add_mul,Int.add_assoc] using hM2.out⟩
   case measure=>simp[intOf];omega
  ·obtain rfl:j=xs.length:=by omega
   go_wp2
   go_ret
   rw[take_of_length_le oM]at hm;exact ⟨Vp (by rw[hlen];omega),hm⟩
section
variable{R:NP}{w w1 w2:World}{k:Int}{lo:Nat}{F l r:List Addr}{p:Addr}{u:Value}
theorem MarkedAs.spot(h:MarkedAs F k w w1)(hf:Fresh w lo (F++p :: r))(hu:w.cell? p=some u):w1.cell? p=some u/\w1.frozen? p=false:=by
 have e:(F++p :: r).take F.length=F:=by simp
 have h':MarkedAs ((F++p :: r).take F.length) k w w1:=by rw[e];exact h
 have hi:F.length<(F++p :: r).length:=by simp
 have hg:(F++p :: r)[F.length]'hi=p:=by simp
 have hc:=h'.cellOf hf (fQ _) hi (by rw[hg];exact hu);rw[hg]at hc;exact ⟨hc,h'.thaw hf fS⟩
theorem MarkedAs.spotM(h:MarkedAs F k w w1)(hf:Fresh w lo (F++r))(hp:p∈r)(hu:w.cell? p=some u):w1.cell? p=some u/\w1.frozen? p=false:=
 have hlt:=(hf.2 p (mem_append_right _ hp)).2
 ⟨(h.frame.cell p hlt.1 fun hq=>(nodup_append.1 hf.1).2.2 _ hq _ hp rfl).trans hu,(h.frame.frozen p hlt.1).trans hlt.2⟩
theorem MarkedAs.put{v:Value}(h:MarkedAs F k w w1)(hf:Fresh w lo (F++p :: r))(hu:w.cell? p=some u)(hl:Afj u)(hv:v=Wg u (k+F.length)):MarkedAs (F++[p]) k w (w1.setCell p v):=by
 have e:(F++p :: r).take F.length=F:=by simp
 have h':MarkedAs ((F++p :: r).take F.length) k w w1:=by rw[e];exact h
 have hi:F.length<(F++p :: r).length:=by simp
 have hg:(F++p :: r)[F.length]'hi=p:=by simp
 have:=h'.step hf hi (u:=u) (by rw[hg];exact hu) hl (p:=p) hg.symm hv
 rwa [take_succ_eq_append_getElem hi,e,hg]at this
theorem MarkedAs.rest(h:MarkedAs F k w w1)(hf:Fresh w lo (F++(l++r))):Fresh w1 lo l:=by
 rw[← append_assoc]at hf;exact hf.sub1.sub2.marked h.frame
theorem MarkedAs.sl_{t:Ty}{A:Option Addr}{c:Nat}{xs:List t.D}(h:MarkedAs F k w w1)(hf:Fresh w lo (F++(l++r)))(hs:Sl R w t A c xs l):Sl R w1 t A c xs l:=
 h.keepSl hs fun p hp hq=>(nodup_append.1 hf.1).2.2 _ hq _ (mem_append_left _ hp) rfl
theorem MarkedAs.then_(h:MarkedAs F k w w1)(hf:Fresh w lo (F++(l++r))){k':Int}(hk:k'=k+F.length)(h2:MarkedAs l k' w1 w2):MarkedAs (F++l) k w w2:=by
 subst hk;rw[← append_assoc]at hf;exact h.append h2 hf.sub1
theorem Fresh.next(hf:Fresh w lo (F++(l++r))):Fresh w lo ((F++l)++r):=by rwa [append_assoc]
theorem Fresh.next1(hf:Fresh w lo (F++(p :: r))):Fresh w lo ((F++[p])++r):=by simpa using hf
end
end
section
theorem Pk(b:Bool):Dg (some (if b then Ctl.next () else Ctl.out false)) (fun _:Unit=>some true)=some b:=by cases b <;> rfl
theorem Ro(x lo hi:Int):Cv x lo hi=some (inR x lo hi):=by
 unfold Cv inR;by_cases h:lo<=x <;> simp[h]
theorem P7(x lo hi:Int):Ce x lo hi=some (inR x lo hi):=by
 unfold Ce inR;by_cases h:lo<=x <;> simp[h]
theorem Axg(xs:List Int)(lo hi:Int)(hx:xs.length<=1099511627776):Gb xs lo hi=some (xs.all fun x=>inR x lo hi):=by
 unfold Gb;rw[Id xs (fun x=>inR x lo hi) (.next ()) (.out false) oM (fun i x h=>?_) ?_,Pk]
 ·unfold O4;rw[fJ oM]
 ·have:=Ai h;unfold O4;rw[fH oM,h,obs,Ro,obs,Af oM];cases inR x lo hi <;> rfl
theorem Av5{p:Int}(h:inR p 2 97=false):isF p=false:=by rcases Aqu.1 h with h|h <;> simp[isF] <;> omega
theorem Uh(p:Int):Gk p=some (isF p):=by
 unfold Gk;rw[Ro,obs];cases hr:inR p 2 97
 ·rw[Av5 hr];rfl
 rw[fD,fY];have ⟨h1,h2⟩:=E5.1 hr;obtain ⟨n,rfl⟩:=Int.eq_ofNat_of_zero_le (show 0<=p by omega)
 have h:Aq (fun s_:Nat=>J0 n s_) 4611686018427387904 2=some (if isF n then .next () else .out false):=by
  refine Hy 8 (fun i s=>s=i+2/\Ag6 n s=true) oM _ ⟨rfl,by simp[Ag6,range_succ]⟩ ?_ ?_
  ·rintro i s hi ⟨hs,hd⟩;unfold J0;have hm:((s:Int)*(s:Int))=((s*s:Nat):Int):=by simp
   have hss:s*s<=9*9:=Nat.mul_le_mul oM oM;rw[hm,Bi oM oM];by_cases hle:s*s<=n
   ·rw[fH oM,Af oM,show Int.tmod (n:Int) (s:Int)=((n % s:Nat):Int) from by rw[Int.tmod_eq_emod_of_nonneg oM];rfl];by_cases h0:n % s=0
    ·refine .inr ?_;rw[h0,Ax6 n oM s oM oM hle h0];rfl
    ·refine .inl ⟨s+1,?_,by omega,Amq hd h0⟩;rw[show (((n % s:Nat):Int)==0)=false from by rw[fU];omega,fY,Af oM]
   ·refine .inr ?_;rw[fJ oM,Ahb n oM oM s oM hd oM];rfl
  ·rintro s ⟨hs,hd⟩;obtain rfl:s=10:=by omega
   unfold J0;rw[show wI (((10:Nat):Int)*((10:Nat):Int))=100 from Bi oM oM,fJ oM,Ahb n oM oM 10 oM hd oM];rfl
 rw[h,Pk]
theorem Aj5(p x:Int):Jv p x=some (inR x 0 (p - 1)):=by
 unfold Jv inR;by_cases h:0<=x
 ·simp[h,show (x<p↔x<=p - 1) by omega]
 ·simp[h]
theorem Azw(p:Int)(xs:List Int)(hp:2<=p/\p<=97)(hx:xs.length<=1099511627776):Qt p xs=some (xs.all fun x=>inR x 0 (p - 1)):=by
 unfold Qt;rw[Bi oM oM,Axg _ _ _ hx];rfl
theorem And(p:Int)(xs:List Int)(n:Int)(hx:xs.length<=1099511627776):Lh p xs n=some (((xs.length:Nat):Int)==n&&xs.all fun x=>inR x 0 (p - 1)):=by
 unfold Lh;cases hn:((xs.length:Nat):Int)==n
 ·rw[show (((xs.length:Nat):Int) !=n)=true by simp only[bne,hn,Bool.not_false]];rfl
 rw[show (((xs.length:Nat):Int) !=n)=false by simp only[bne,hn,fD],fY];rw[Id xs (fun x=>inR x 0<|p - 1) (.next ()) (.out false) oM (fun i x h=>?_) ?_,Pk,Bool.true_and]
 ·unfold Lv;rw[fJ oM]
 ·have:=Ai h;unfold Lv;rw[fH oM,h,obs,Aj5,obs,Af oM];cases inR x 0 (p - 1) <;> rfl
theorem Avm{p x:Int}(hp:2<=p/\p<=97):Sy p x=some (x % p):=by
 unfold Sy;rw[Af oM]
 have e1:x.tmod p=if 0<=x∨x % p=0 then x % p else x % p - p:=by
  simp only[Int.tmod_eq_emod,Int.dvd_iff_emod_eq_zero];split <;> simp <;> omega
 have h1:=Int.emod_nonneg x (show p≠0 by omega);have h2:=Int.emod_lt_of_pos x (show 0<p by omega);by_cases h:x.tmod p<0
 ·rw[fH h,obs,Bi oM oM];congr 1;split at e1 <;> omega
 ·rw[fJ h,obs];congr 1;split at e1 <;> omega
theorem Aw8(xs:List Int)(h:xs.length<=1000000):Pf xs=some xs:=by
 unfold Pf;rw[Af oM]
theorem Yv(xs:List Int)(h:xs.length<=1000000):Hk xs=some xs:=by
 unfold Hk;rw[Af oM]
theorem Apj{p x y:Int}(hp:2<=p/\p<=97)(hx:0<=x/\x<p)(hy:0<=y/\y<p):Ee p x y=some ((x+y) % p):=by
 unfold Ee;rw[Af oM,Bi oM oM,Int.tmod_eq_emod_of_nonneg oM]
theorem Aes{p x y:Int}(hp:2<=p/\p<=97)(hx:0<=x/\x<p)(hy:0<=y/\y<p):0<=x*y/\x*y<=10000:=by
 refine ⟨Int.mul_nonneg hx.1 hy.1,?_⟩;have h1:x*y<=97*y:=Int.mul_le_mul_of_nonneg_right oM hy.1;omega
theorem Aou{p x y:Int}(hp:2<=p/\p<=97)(hx:0<=x/\x<p)(hy:0<=y/\y<p):Mb p x y=some ((x*y) % p):=by
 have:=Aes hp hx hy;unfold Mb;rw[Af oM,Bi oM oM,Int.tmod_eq_emod_of_nonneg oM]
end
section
theorem Au9(a b:ByteArray):(a.toList==b.toList)=(a.data.toList==b.data.toList):=by rw[ByteArray.toList_eq,ByteArray.toList_eq]
theorem Anx(s:ByteArray)(i:Nat):s[i]? =s.data.toList[i]?:=by
 by_cases h:i<s.size
 ·rw[getElem?_pos s i h];have h':i<s.data.toList.length:=by simpa using h
  rw[gEg h'];rfl
 ·rw[getElem?_neg s i h,getElem?_eq_none (by simp;exact Nat.le_of_not_lt h)]
theorem Aw1(s:ByteArray):s.size=s.data.toList.length:=by
 show s.data.size=_;exact Array.length_toList.symm
def loB(c:UInt8):Bool:=decide (97<=((c.toNat:Nat):Int))&&decide (((c.toNat:Nat):Int)<=122)
def dgB(c:UInt8):Bool:=decide (48<=((c.toNat:Nat):Int))&&decide (((c.toNat:Nat):Int)<=57)
theorem Ahr(c:UInt8):Jg ((c.toNat:Nat):Int)=some (loB c):=by
 unfold Jg loB;cases decide (97<=((c.toNat:Nat):Int)) <;> rfl
theorem Aqo(c:UInt8):Mv ((c.toNat:Nat):Int)=some (dgB c):=by
 unfold Mv dgB;cases decide (48<=((c.toNat:Nat):Int)) <;> rfl
def Xf:List ByteArray:=[(⟨#[105,100]⟩:ByteArray),(⟨#[115,119,97,112]⟩:ByteArray),(⟨#[99,111,112,121]⟩:ByteArray),(⟨#[100,105,115,99,97,114,100]⟩:ByteArray),(⟨#[97,100,100]⟩:ByteArray),(⟨#[122,101,114,111]⟩:ByteArray),(⟨#[115,99,97,108,101]⟩:ByteArray),(⟨#[100,101,108,97,121]⟩:ByteArray),(⟨#[99,111,99,111,112,121]⟩:ByteArray),(⟨#[99,111,100,105,115,99,97,114,100]⟩:ByteArray),(⟨#[99,111,97,100,100]⟩:ByteArray),(⟨#[99,111,122,101,114,111]⟩:ByteArray),(⟨#[99,111,115,99,97,108,101]⟩:ByteArray),(⟨#[99,111,100,101,108,97,121]⟩:ByteArray)]
theorem Aol:Mq=some Xf:=rfl
theorem Aly:M8=some ((⟨#[]⟩:ByteArray) :: Xf):=rfl
theorem Azy(l:List ByteArray)(hl:l.length<=1000)(s:ByteArray):N2 l s=some (l.any fun x=>x.toList==s.toList):=by
 unfold N2
 have hs:∀ i x,l[i]? =some x->Fh l s i=some (if x.toList==s.toList then Ctl.out (Ctl.out true) else Ctl.next (i+1)):=fun i x h=>by
  have:=Ai h;unfold Fh;rw[fH oM,h,obs,Af oM];cases x.toList==s.toList <;> rfl
 have he:Fh l s l.length=some (Ctl.out<|Ctl.next ()):=by
  unfold Fh;rw[fJ oM]
 rcases Pq (body:=fun s_:Nat=>Fh l s s_) l (fun x=>x.toList==s.toList) (Ctl.next ()) (fun i=>Ctl.out true) (F:=4611686018427387904) oM hs he with ⟨h1,i,hi,h2⟩|⟨h1,h2⟩
 ·rw[h2,h1];rfl
 ·rw[h2,h1];rfl
theorem Atg(s:ByteArray):∃ k:Int,N7 s=some k/\(k !=17)=(((⟨#[]⟩:ByteArray) :: Xf).any fun x=>x.toList==s.toList):=by
 unfold N7;rw[Aly,obs];have hl:((⟨#[]⟩:ByteArray) :: Xf).length=15:=rfl;generalize ((⟨#[]⟩:ByteArray) :: Xf)=l at hl ⊢
 have hs:∀ i x,l[i]? =some x->Fj l s i=some (if x.toList==s.toList then Ctl.out (Ctl.out (i:Int)) else Ctl.next (i+1)):=fun i x h=>by
  have:=Ai h;unfold Fj;rw[fH oM,h,obs,Af oM];cases x.toList==s.toList <;> rfl
 have he:Fj l s l.length=some (Ctl.out<|Ctl.next ()):=by
  unfold Fj;rw[fJ oM]
 rcases Pq (body:=fun s_:Nat=>Fj l s s_) l (fun x=>x.toList==s.toList) (Ctl.next ()) (fun i=>Ctl.out (i:Int)) (F:=4611686018427387904) oM hs he with ⟨h1,i,hi,h2⟩|⟨h1,h2⟩
 ·rw[h2,h1];exact ⟨_,rfl,by rw[bne_iff_ne];omega⟩
 ·rw[h2,h1];exact ⟨_,rfl,rfl⟩
theorem Amz(s:ByteArray):∃ b,Ie s=some b/\N0 s=some b:=by
 unfold Ie N0 Rt;rw[P7,Ro];cases hr:inR ((s.size:Nat):Int) 1 8
 ·exact ⟨false,rfl,rfl⟩
 have hb:=E5.1 hr;have hsz:=Aw1 s;obtain ⟨c,hc⟩:∃ c,s[0]? =some c:=⟨_,getElem?_pos s 0 oM⟩
 have hcl:s.data.toList[0]? =some c:=by rw[← Anx];exact hc
 rw[obs,obs,fD,fY,fY,hc,obs,obs,Ahr,obs,obs];cases hlo:loB c
 ·refine ⟨false,rfl,?_⟩
  have:(decide (((c.toNat:Nat):Int)<97))=true∨decide (122<((c.toNat:Nat):Int))=true:=by
   simp only[decide_eq_true_eq];simp only[loB,Bool.and_eq_false_iff,decide_eq_false_iff_not]at hlo;omega
  rcases this with h|h
  ·rw[h];rfl
  ·rw[h];cases decide (((c.toNat:Nat):Int)<97) <;> rfl
 have hlo':=hlo;simp only[loB,fT,decide_eq_true_eq]at hlo';have ⟨k,hk,hk2⟩:=Atg s;rw[hk,obs,fD,fY,obs,hk2,At (show ¬ ((c.toNat:Nat):Int)<97 by omega),fY,At (show ¬ 122<((c.toNat:Nat):Int) by omega),obs,fY]
 have hne:((⟨#[]⟩:ByteArray).toList==s.toList)=false:=by
  rw[Au9,fU];intro e;rw[← e]at hcl;simp at hcl
 rw[any_cons,hne,Bool.false_or]
 have hI:Aq (fun s_:Nat=>Js s s_) 4611686018427387904 0=some (if s.data.toList.all (fun x=>loB x||dgB x) then Ctl.next () else Ctl.out false):=by
  refine Id s.data.toList (fun x=>loB x||dgB x) (Ctl.next ()) (Ctl.out false) oM (fun i x h=>?_) ?_
  ·have:=Ai h;unfold Js;rw[fH oM,Anx,h,obs,Ahr,obs,obs,Aqo,obs,Af oM];cases loB x <;> cases dgB x <;> rfl
  ·unfold Js;rw[fJ oM]
 have hstep:∀ i x,s.data.toList[i]? =some x->Cl s i=some (if loB x||dgB x then Ctl.next (i+1) else Ctl.out (Ctl.out false)):=fun i x h=>by
  have:=Ai h;unfold Cl;rw[fH oM,Anx,h];simp only[obs];rw[Af oM]
  have e:∀ n:Int,(cond (decide (n<97)) (cond (decide (n<48)) (some true)<|some<|decide (57<n)) (cond (decide (122<n)) (cond (decide (n<48)) (some true)<|some<|decide (57<n))<|some false):Option Bool)=some (!((decide (97<=n)&&decide (n<=122))||(decide (48<=n)&&decide (n<=57)))):=by
   intro n;by_cases h1:n<97
   ·by_cases h2:n<48
    ·rw[Av h1,Av h2,At (show ¬ 97<=n by omega),At (show ¬ 48<=n by omega)];rfl
    ·by_cases h3:57<n
     ·rw[Av h1,At h2,Av h3,At (show ¬ 97<=n by omega),At (show ¬ n<=57 by omega),Bool.and_false];rfl
     ·rw[Av h1,At h2,At h3,At (show ¬ 97<=n by omega),Av (show 48<=n by omega),Av (show n<=57 by omega)];rfl
   ·by_cases h2:122<n
    ·rw[At h1,Av h2,At (show ¬ n<48 by omega),Av (show 57<n by omega),At (show ¬ n<=122 by omega),At (show ¬ n<=57 by omega),Bool.and_false,Bool.and_false];rfl
    ·rw[At h1,At h2,Av (show 97<=n by omega),Av (show n<=122 by omega)];rfl
  have e':=e ((x.toNat:Nat):Int);rw[e',obs];show cond (!(loB x||dgB x)) _ _=_;cases loB x||dgB x <;> rfl
 have hS0:Aq (fun s_:Nat=>Cl s s_) (4611686018427387904+1) 0=some (if s.data.toList.all (fun x=>loB x||dgB x) then Ctl.next () else Ctl.out false):=by
  refine Id s.data.toList (fun x=>loB x||dgB x) (Ctl.next ()) (Ctl.out false) oM hstep ?_;unfold Cl;rw[fJ oM]
 have hS:Aq (fun s_:Nat=>Cl s s_) 4611686018427387904 1=some (if s.data.toList.all (fun x=>loB x||dgB x) then Ctl.next () else Ctl.out false):=by
  rw[← hS0];have h0:Cl s 0=some (Ctl.next 1):=by rw[hstep 0 c hcl,hlo];rfl
  have hu:∀ n,Aq (fun s_:Nat=>Cl s s_) (n+1) 0=Aq (fun s_:Nat=>Cl s s_) n 1:=fun n=>by
   show (Cl s 0).bind _=_;rw[h0];rfl
  exact (hu _).symm
 rw[hI,hS,Aol,obs,Azy Xf (by decide) s];generalize (Xf.any fun x=>x.toList==s.toList)=u;cases s.data.toList.all (fun x=>loB x||dgB x) <;> cases u <;> exact ⟨_,rfl,rfl⟩
end
section
abbrev Nd:=ZB
abbrev Nj(s:ByteArray):Bool:=s.toList==(⟨#[]⟩:ByteArray).toList
def Aby(k v:Int):Bool:=if k=7∨k=13 then inR v 0 96 else v==0
def lfW(n:Nd):Option (Int×Int):=
 if Nj n.2.2=true then
  if n.1=1 then (if 0<=n.2.1/\n.2.1<=12 then some (n.2.1,n.2.1) else none)
  else if n.1=2 then (if n.2.1=0 then some (2,2) else none)
  else if 3<=n.1/\n.1<=14 then (if Aby n.1 n.2.1=true then some (gwV n.1) else none)
  else none
 else none
def okW(w:Int×Int):Prop:=(0<=w.1/\w.1<=12)/\(0<=w.2/\w.2<=12)
theorem Az1(k:Int):okW (gwV k):=by
 unfold gwV
 repeat' split
 all_goals exact ⟨⟨by decide,by decide⟩,⟨by decide,by decide⟩⟩
theorem Ad9{n:Nd}{w:Int×Int}(h:lfW n=some w):okW w:=by
 unfold lfW at h;split at h
 ·split at h
  ·split at h
   next h1=>cases h;exact ⟨h1,h1⟩
   ·cases h
  ·split at h
   ·split at h
    ·cases h;exact ⟨⟨by decide,by decide⟩,⟨by decide,by decide⟩⟩
    ·cases h
   ·split at h
    ·split at h
     ·cases h;exact Az1 _
     ·cases h
    ·cases h
 ·cases h
theorem Sc{n:Nd}{w:Int×Int}(h:lfW n=some w):1<=n.1/\n.1<=14:=by
 unfold lfW at h;split at h
 ·split at h
  ·omega
  ·split at h
   ·omega
   ·split at h
    ·omega
    ·cases h
 ·cases h
def lfL(lib:List (ByteArray×Int×Int×List Nd))(n:Nd):Option (Int×Int):=
 if n.1=17 then (if n.2.1=0 then (lib.find? fun d=>d.1.toList==n.2.2.toList).map fun d=>(d.2.1,d.2.2.1) else none) else lfW n
theorem Awd:lfL []=lfW:=by
 funext n;unfold lfL;by_cases h:n.1=17
 ·rw[fW h];cases hw:lfW n with
  | some w=>have:=Sc hw;omega
  | none=>split <;> rfl
 ·rw[fB h]
theorem Aa4{lib:List (ByteArray×Int×Int×List Nd)}(hl:∀ d∈lib,okW (d.2.1,d.2.2.1))(n:Nd)(w:Int×Int)(h:lfL lib n=some w):okW w:=by
 unfold lfL at h;split at h
 ·split at h
  ·obtain ⟨d,hd,rfl⟩:=oms.1 h;exact hl d<|mem_of_find?_eq_some hd
  ·cases h
 ·exact Ad9 h
section
variable(lf:Nd->Option (Int×Int))
def Cz(n:Nd)(T:List (Int×Int)):Option (List (Int×Int)):=
 if n.1=15∨n.1=16 then
  if n.2.1=0/\Nj n.2.2=true then
   match T with
   | b :: a :: r=>if n.1=15 then (if a.2=b.1 then some ((a.1,b.2) :: r) else none) else (if a.1+b.1<=12/\a.2+b.2<=12 then some ((a.1+b.1,a.2+b.2) :: r) else none)
   | _=>none
  else none
 else (lf n).map (· :: T)
def Hc:List Nd->List (Int×Int)->Option (List (Int×Int))
 | [],T=>some T
 | n :: r,T=>(Cz lf n T).bind (Hc r)
end
section
variable{lf:Nd->Option (Int×Int)}
def okT(T:List (Int×Int)):Prop:=∀ w∈T,okW w
theorem Oi(hlf:∀ n w,lf n=some w->okW w){n:Nd}{T T':List (Int×Int)}(h:Cz lf n T=some T')(hT:okT T):okT T':=by
 unfold Cz at h;split at h
 ·split at h
  ·split at h
   ·rename_i b a r;have ha:=hT a fS;have hb:=hT b fS;have hr:okT r:=fun w hw=>hT w (by simp[hw])
    split at h
    ·split at h
     ·cases h;intro w hw;rcases mem_cons.1 hw with rfl|hw
      ·exact ⟨ha.1,hb.2⟩
      ·exact hr w hw
     ·cases h
    ·split at h
     ·rename_i h1;cases h;intro w hw;rcases mem_cons.1 hw with rfl|hw
      ·have:=ha.1;have:=hb.1;have:=ha.2;have:=hb.2;refine ⟨⟨?_,h1.1⟩,⟨?_,h1.2⟩⟩ <;> (try show (0:Int)<=_+_) <;> omega
      ·exact hr w hw
     ·cases h
   ·cases h
  ·cases h
 ·obtain ⟨w,hw,rfl⟩:=oms.1 h;intro v hv;rcases mem_cons.1 hv with rfl|hv
  ·exact hlf _ _ hw
  ·exact hT v hv
theorem Aet:∀(xs ys:List Nd) (T:List (Int×Int)),Hc lf (xs++ys) T=(Hc lf xs T).bind (Hc lf ys)
 | [],_,_=>rfl
 | n :: r,ys,T=>by
  show (Cz lf n T).bind (Hc lf (r++ys))=((Cz lf n T).bind (Hc lf r)).bind (Hc lf ys);cases Cz lf n T with
  | none=>rfl
  | some T'=>exact Aet r ys T'
theorem J1{xs:List Nd}{k:Nat}{n:Nd}{T:List (Int×Int)}(h:xs[k]? =some n)(hT:Hc lf (xs.take k) []=some T):Hc lf (xs.take (k+1)) []=Cz lf n T:=by
 rw[take_add_one,h,Aet,hT,obs];show (Cz lf n T).bind (Hc lf [])=_;cases Cz lf n T <;> rfl
theorem R7{xs:List Nd}{k:Nat}(h:Hc lf (xs.take k) []=none):Hc lf xs []=none:=by
 rw[← take_append_drop k xs,Aet,h];rfl
theorem Aor{xs:List Nd}{T:List (Int×Int)}(hx:xs≠[])(h:Hc lf xs []=some T):T≠[]:=by
 obtain ⟨k,hk⟩:∃ k,xs.length=k+1:=⟨xs.length - 1,by have:=length_pos_iff.2 hx;omega⟩
 have hl:xs.take xs.length=xs:=take_length;have hn:=gEg (show k<xs.length by omega);cases hp:Hc lf (xs.take k) [] with
 | none=>rw[R7 hp]at h;cases h
 | some T0=>
  have h2:=J1 hn hp;rw[← hk,hl,h]at h2;intro e;subst e;unfold Cz at h2;split at h2
  ·split at h2
   ·split at h2
    ·split at h2 <;> split at h2 <;> cases h2
    ·cases h2
   ·cases h2
  ·cases hw:lf (xs[k]'oM) with
   | none=>rw[hw]at h2;cases h2
   | some w=>rw[hw]at h2;cases h2
end
def tyG(lf:Nd->Option (Int×Int))(xs:List Nd):Option (Int×Int):=
 if 1<=xs.length/\xs.length<=400 then (match Hc lf xs [] with|some [w]=>some w|_=>none) else none
def tyV(xs:List Nd):Option (Int×Int):=tyG lfW xs
theorem Asu(n:Nd):∃ r:Int×Int×Bool,Fm n.1 n.2.1 n.2.2=some r/\match lfW n with|some w=>r=(w.1,w.2,true)|none=>r.2.2=false:=by
 have ⟨k,v,s⟩:=n;dsimp only;unfold Fm lfW;dsimp only;cases hs:Nj s
 ·have hs':(s.toList==(⟨#[]⟩:ByteArray).toList)=false:=hs;rw[hs'];exact ⟨_,rfl,rfl⟩
 have hs':(s.toList==(⟨#[]⟩:ByteArray).toList)=true:=hs;rw[hs',fW rfl,fD,fY];by_cases h1:k=1
 ·subst h1;rw[beq_self_eq_true,fZ,P7,fW rfl];by_cases h2:0<=v/\v<=12
  ·rw[fW h2,E5.2 h2];exact ⟨_,rfl,rfl⟩
  ·rw[fB h2,show inR v 0 12=false by rw[Bool.eq_false_iff];intro e;exact h2 (E5.1 e)];exact ⟨_,rfl,rfl⟩
 rw[fU.2 h1,fY,fB h1];by_cases h2:k=2
 ·subst h2;rw[beq_self_eq_true,fZ,fW rfl];by_cases h3:v=0
  ·subst h3;exact ⟨_,rfl,rfl⟩
  ·rw[fB h3,fU.2 h3];exact ⟨_,rfl,rfl⟩
 rw[fU.2 h2,fY,fB h2];unfold Lo;rw[P7];by_cases h3:3<=k/\k<=14
 ·rw[fW h3,E5.2 h3,obs,obs,fZ];unfold D3 G0 E0;rw[Af h3,obs];by_cases h7:k=7∨k=13
  ·have e:cond (k==7) (some true) (some<|k==13)=some true:=by
    rcases h7 with rfl|rfl <;> rfl
   rw[e,obs,obs,fZ,P7,show Aby k v=inR v 0 96 from fW h7];cases inR v 0 96 <;> exact ⟨_,rfl,rfl⟩
  ·have e:cond (k==7) (some true) (some<|k==13)=some false:=by
    rw[fU.2 (fun e=>h7<|.inl e),fU.2 (fun e=>h7<|.inr e)];rfl
   rw[e,obs,obs,fY,show Aby k v=(v==0) from fB h7];cases v==0 <;> exact ⟨_,rfl,rfl⟩
 ·rw[fB h3,show inR k 3 14=false by rw[Bool.eq_false_iff];intro e;exact h3 (E5.1 e)];exact ⟨_,rfl,rfl⟩
theorem Asl(n:Nd):Kw n.1 n.2.1 n.2.2=some (lfW n).isSome:=by
 have ⟨k,v,s⟩:=n;dsimp only;unfold Kw lfW;dsimp only;cases hs:Nj s
 ·have hs':(s.toList==(⟨#[]⟩:ByteArray).toList)=false:=hs;rw[hs'];rfl
 have hs':(s.toList==(⟨#[]⟩:ByteArray).toList)=true:=hs;rw[hs',fW rfl,fD,fY,Ro,obs];by_cases h0:1<=k/\k<=14
 ·rw[E5.2 h0,obs,fD,fY];by_cases h1:k=1
  ·subst h1;rw[beq_self_eq_true,fZ,Ro,fW rfl];by_cases h2:0<=v/\v<=12
   ·rw[fW h2,E5.2 h2];rfl
   ·rw[fB h2,show inR v 0 12=false by rw[Bool.eq_false_iff];intro e;exact h2 (E5.1 e)];rfl
  rw[fU.2 h1,fY,fB h1];by_cases h7:k=7∨k=13
  ·have e:cond (k==7) (some<|k==7) (some<|k==13)=some true:=by
    rcases h7 with rfl|rfl <;> rfl
   rw[e,obs,fZ,Ro,fB oM,fW oM,show Aby k v=inR v 0 96 from fW h7];cases inR v 0 96 <;> rfl
  ·have e:cond (k==7) (some<|k==7) (some<|k==13)=some false:=by
    rw[fU.2 (fun e=>h7<|.inl e),fU.2 (fun e=>h7<|.inr e)];rfl
   rw[e,obs,fY];by_cases h2:k=2
   ·rw[fW h2];by_cases h3:v=0
    ·rw[fW h3,fF.2 h3];rfl
    ·rw[fB h3,fU.2 h3];rfl
   ·rw[fB h2,fW oM,show Aby k v=(v==0) from fB h7];cases v==0 <;> rfl
 ·rw[show inR k 1 14=false by rw[Bool.eq_false_iff];intro e;exact h0<|E5.1 e,fB oM,fB oM,fB oM];rfl
theorem Avy{n:Nd}{w:Int×Int}(h:lfW n=some w):Hb n.1 n.2.1 n.2.2=some w:=by
 have hk:=Sc h;have ⟨k,v,s⟩:=n;dsimp only at hk ⊢;unfold lfW at h;dsimp only at h;unfold Hb Ib;split at h
 ·split at h
  ·rename_i h1;subst h1;split at h
   ·cases h;rfl
   ·cases h
  ·rename_i h1;rw[fU.2 h1,fY];split at h
   ·rename_i h2;subst h2;split at h
    ·cases h;rfl
    ·cases h
   ·split at h
    ·split at h
     ·cases h;have hk':k=3∨k=4∨k=5∨k=6∨k=7∨k=8∨k=9∨k=10∨k=11∨k=12∨k=13∨k=14:=by omega
      rcases hk' with rfl|rfl|rfl|rfl|rfl|rfl|rfl|rfl|rfl|rfl|rfl|rfl <;> rfl
     ·cases h
    ·cases h
 ·cases h
theorem Acm{lf:Nd->Option (Int×Int)}(hlf:∀ n w,lf n=some w->okW w):∀{xs:List Nd} {T T':List (Int×Int)},Hc lf xs T=some T'->okT T->okT T'
 | [],_,_,h,hT=>by obtain rfl:=osj h;exact hT
 | n :: r,T,T',h,hT=>by
  have h:(Cz lf n T).bind (Hc lf r)=some T':=h;have ⟨T1,h1,h2⟩:=Option.bind_eq_some_iff.1 h;exact Acm hlf h2 (Oi hlf h1 hT)
end
section
theorem A1f{a b:Int×Int}{r:List (Int×Int)}:(b :: a :: r).reverse=r.reverse++[a,b]:=by simp
theorem Awe{a b:Int×Int}{r:List (Int×Int)}:(r.reverse++[a,b])[r.length]? =some a/\(r.reverse++[a,b])[r.length+1]? =some b:=by
 constructor
 ·rw[getElem?_append_right fS,length_reverse,Nat.sub_self];rfl
 ·rw[getElem?_append_right fS,length_reverse,Nat.add_sub_cancel_left];rfl
theorem A0g{k:Int}{a b:Int×Int}(ha:okW a)(hb:okW b):Fk k a.1 a.2 b.1 b.2=some (if k=15 then (a.1,b.2,a.2==b.1) else (a.1+b.1,a.2+b.2,decide (a.1+b.1<=12)&&decide (a.2+b.2<=12))):=by
 have ⟨⟨a1,a2⟩,a3,a4⟩:=ha;have ⟨⟨b1,b2⟩,b3,b4⟩:=hb;unfold Fk Nc;by_cases h:k=15
 ·rw[fW h,fF.2 h];rfl
 ·rw[fB h,fU.2 h,fY,Bi (n:=a.1+b.1) oM oM,Bi (n:=a.2+b.2) oM oM];cases decide (a.1+b.1<=12) <;> rfl
def Aya(leaf:Int->Int->ByteArray->Option (Int×Int×Bool))(a0:List ZB)(l10_m22:Nat)(l10_m6:List (Int×Int)):Option (Ctl (Nat×(List (Int×Int))) (Ctl (List (Int×Int)) (Int×Int×Bool))):=
 cond (decide (((l10_m22:Nat):Int)<((a0.length:Nat):Int)))
 (Dg (Option.bind (a0[l10_m22]?) fun x16=>
  Option.bind (cond (x16.1 !=15)
   (some (x16.1 !=16))
   (some false)) fun l18_m33=>
  cond l18_m33
   (Option.bind (leaf x16.1 x16.2.1 x16.2.2) fun y22=>
   cond (!y22.2.2)
    (some (.out (.out (.out (0,0,false)))))
    (og (l10_m6.length+1<=1073741824/\(l10_m6.length+1)*16<=140737488355328)<|
    some (.next (l10_m6++([(y22.1,y22.2.1)])))))
   (Option.bind (cond (x16.2.1 !=0)
    (some true)
    (cond (!(x16.2.2.toList==(⟨#[]⟩:ByteArray).toList))
     (some true)
     (some (decide (((l10_m6.length:Nat):Int)<2))))) fun l30_m59=>
   cond l30_m59
    (some (.out (.out (.out (0,0,false)))))
    (Option.bind (Bz l10_m6 (wI ((wI (((l10_m6.length:Nat):Int) - 1)) - 1))) fun x37=>
    Option.bind (Bz l10_m6 (wI ((wI (((l10_m6.length:Nat):Int) - 1)) - 1))) fun x38=>
    Option.bind (Bz l10_m6 (wI (((l10_m6.length:Nat):Int) - 1))) fun x39=>
    Option.bind (Bz l10_m6 (wI (((l10_m6.length:Nat):Int) - 1))) fun x40=>
    Option.bind (Fk x16.1 x38.1 x38.2 x40.1 x40.2) fun y41=>
    cond (!y41.2.2)
     (some (.out (.out (.out (0,0,false)))))
     (og ((0:Int)<=0/\0<=wI ((wI (((l10_m6.length:Nat):Int) - 1)) - 1)/\wI ((wI (((l10_m6.length:Nat):Int) - 1)) - 1)<=((l10_m6.length:Nat):Int))<|
     og (((l10_m6.take ((wI ((wI (((l10_m6.length:Nat):Int) - 1)) - 1)).toNat)).length)+1<=1073741824/\(((l10_m6.take ((wI ((wI (((l10_m6.length:Nat):Int) - 1)) - 1)).toNat)).length)+1)*16<=140737488355328)<|
     some (.next ((l10_m6.take ((wI ((wI (((l10_m6.length:Nat):Int) - 1)) - 1)).toNat))++([(y41.1,y41.2.1)]))))))) fun l14_m6=>
 og (l10_m22+1<4611686018427387904)<|
 some (.next (l10_m22+1,l14_m6)))
 (some (.out (.next l10_m6)))
section
variable{lf:Nd->Option (Int×Int)}{leaf:Int->Int->ByteArray->Option (Int×Int×Bool)}
theorem Azx(hlf:∀ n w,lf n=some w->okW w){xs:List Nd}(hleaf:∀ n∈xs,n.1≠15->n.1≠16->∃ r:Int×Int×Bool,leaf n.1 n.2.1 n.2.2=some r/\match lf n with|some w=>r=(w.1,w.2,true)|none=>r.2.2=false)(hx:1<=xs.length/\xs.length<=400):Aq (fun s_:Nat×List (Int×Int)=>Aya leaf xs s_.1 s_.2) 4611686018427387904 (0,[])=some (match Hc lf xs [] with|some T=>Ctl.next T.reverse|none=>Ctl.out (0,0,false)):=by
 refine Hy xs.length (fun k s=>∃ T,s=(k,T.reverse)/\Hc lf (xs.take k) []=some T/\okT T/\T.length<=k) oM _ ⟨[],rfl,rfl,(fun _ h=>by cases h),fQ _⟩ ?_ ?_
 ·rintro k s hk ⟨T,rfl,hT,hok,hlen⟩;have hn:=gEg hk;generalize xs[k]=n at hn;have hnext:=J1 hn hT;have hfail:Cz lf n T=none->Hc lf xs []=none:=fun h=>R7 (k:=k+1) (by rw[hnext,h])
  have hlr:T.reverse.length=T.length:=by simp
  try dsimp only
  unfold Aya;rw[fH oM,hn,obs];by_cases hj:n.1=15∨n.1=16
  ·have e:(cond (n.1 !=15) (some<|n.1 !=16) (some false):Option Bool)=some false:=by
    rcases hj with h|h <;> rw[h] <;> rfl
   rw[e,obs,fY];by_cases hv:n.2.1=0/\Nj n.2.2=true
   ·have hs':(n.2.2.toList==(⟨#[]⟩:ByteArray).toList)=true:=hv.2;rw[hv.1,hs',show ((0:Int) !=0)=false from rfl,fY,fD,fY,obs,hlr]
    match T,hT,hok,hlen,hnext,hfail with
    | [],hT,hok,hlen,hnext,hfail=>
     refine .inr ?_;rw[hfail (by unfold Cz;rw[fW hj,fW hv]),fH fS];rfl
    | [b],hT,hok,hlen,hnext,hfail=>
     refine .inr ?_;rw[hfail (by unfold Cz;rw[fW hj,fW hv]),fH fS];rfl
    | b :: a :: r,hT,hok,hlen,hnext,hfail=>
     have hb:=hok b fS;have ha:=hok a fS;have hl2:(b :: a :: r).length=r.length+2:=by simp
     have w1:wI (((r.length+2:Nat):Int) - 1)=((r.length+1:Nat):Int):=by rw[Bi oM oM];omega
     have w2:wI (((r.length+1:Nat):Int) - 1)=((r.length:Nat):Int):=by rw[Bi oM oM];omega
     have ⟨g1,g2⟩:=Awe (a:=a) (b:=b) (r:=r);rw[hl2,fJ oM,w1,w2,A1f,B9 oM,fX,g1,obs,obs,B9 oM,fX,g2,obs,obs,A0g ha hb,obs];have htake:(r.reverse++[a,b]).take r.length=r.reverse:=take_left' fS
     have hst:Cz lf n (b :: a :: r)=if n.1=15 then (if a.2=b.1 then some ((a.1,b.2) :: r) else none) else (if a.1+b.1<=12/\a.2+b.2<=12 then some ((a.1+b.1,a.2+b.2) :: r) else none):=by
      unfold Cz;rw[fW hj,fW hv]
     have hfin:∀ w:Int×Int,Cz lf n (b :: a :: r)=some (w :: r)->∃ s',(Dg (og ((0:Int)<=0/\0<=((r.length:Nat):Int)/\((r.length:Nat):Int)<=((r.length+2:Nat):Int))<|og ((((r.reverse++[a,b]).take r.length).length)+1<=1073741824/\((((r.reverse++[a,b]).take r.length).length)+1)*16<=140737488355328)<|some (Ctl.next (((r.reverse++[a,b]).take r.length)++([(w.1,w.2)])):Ctl (List<|Int×Int) (Ctl (Nat×(List<|Int×Int))<|Ctl (List<|Int×Int)<|Int×Int×Bool))) fun l14_m6=>og (k+1<4611686018427387904)<|some<|Ctl.next (k+1,l14_m6))=some (.next s')/\∃ T,s'=(k+1,T.reverse)/\Hc lf (xs.take<|k+1) []=some T/\okT T/\T.length<=k+1:=fun w hw=>by
      refine ⟨(k+1,r.reverse++[w]),?_,w :: r,by simp,by rw[hnext,hw],Oi hlf hw hok,by simp at hlen ⊢;omega⟩;rw[Af oM,htake,Af (by simp at hlen ⊢;omega)];simp only[Dg,obs,Ctl.then];rw[Af oM]
     by_cases h15:n.1=15
     ·rw[fW h15];rw[fW h15]at hst;dsimp only;by_cases hab:a.2=b.1
      ·rw[fW hab]at hst;rw[fF.2 hab,fD,fY];exact .inl<|hfin (a.1,b.2) hst
      ·rw[fB hab]at hst;rw[fU.2 hab,hfail hst];exact .inr rfl
     ·rw[fB h15];rw[fB h15]at hst;dsimp only;by_cases hab:a.1+b.1<=12/\a.2+b.2<=12
      ·rw[fW hab]at hst;rw[Av hab.1,Av hab.2,Bool.and_true,fD,fY];exact .inl<|hfin (a.1+b.1,a.2+b.2) hst
      ·rw[fB hab]at hst
       have e:(decide (a.1+b.1<=12)&&decide (a.2+b.2<=12))=false:=by
        rw[Bool.eq_false_iff];intro h;simp only[fT,decide_eq_true_eq]at h;exact hab h
       rw[e,hfail hst];exact .inr rfl
   ·refine .inr ?_;rw[hfail (by unfold Cz;rw[fW hj,fB hv])];by_cases h0:n.2.1=0
    ·have hs':(n.2.2.toList==(⟨#[]⟩:ByteArray).toList)=false:=by
      rw[Bool.eq_false_iff];intro h;exact hv ⟨h0,h⟩
     rw[h0,hs'];rfl
    ·rw[show (n.2.1 !=0)=true by rw[bne_iff_ne];exact h0];rfl
  ·have h15:n.1≠15:=fun e=>hj<|.inl e
   have h16:n.1≠16:=fun e=>hj<|.inr e
   have e:(cond (n.1 !=15) (some<|n.1 !=16) (some false):Option Bool)=some true:=by
    rw[bne_iff_ne.2 h15,fZ,bne_iff_ne.2 h16]
   rw[e,obs,fZ];have hst:Cz lf n T=(lf n).map (· :: T):=fB hj;have ⟨r,hr,hm⟩:=hleaf n (mem_of_getElem? hn) h15 h16;rw[hr,obs];cases hw:lf n with
   | none=>
    rw[hw]at hm hst;dsimp only at hm;rw[hm,hfail hst];exact .inr rfl
   | some w=>
    rw[hw]at hm hst;dsimp only at hm;subst hm;refine .inl ⟨(k+1,T.reverse++[w]),?_,w :: T,by simp,by rw[hnext,hst];rfl,Oi hlf hst hok,by simp;omega⟩;rw[fD,fY,Af (by rw[hlr];omega)];simp only[Dg,obs,Ctl.then];rw[Af oM]
 ·rintro s ⟨T,rfl,hT,hok,hlen⟩;rw[take_length]at hT;rw[hT]
  try dsimp only
  unfold Aya;rw[fJ oM]
theorem Ayv(hlf:∀ n w,lf n=some w->okW w){xs:List Nd}(hleaf:∀ n∈xs,n.1≠15->n.1≠16->∃ r:Int×Int×Bool,leaf n.1 n.2.1 n.2.2=some r/\match lf n with|some w=>r=(w.1,w.2,true)|none=>r.2.2=false):
  ∃ r:Int×Int×Bool,(Option.bind (Ce ((xs.length:Nat):Int) 1 400) fun y4=>cond (!y4) (some (0,0,false)) (Dg (Aq (fun s_:Nat×(List (Int×Int))=>Aya leaf xs s_.1 s_.2) 4611686018427387904 (0,[])) fun l8_m6=>Option.bind (l8_m6[0]?) fun x50=>some (x50.1,x50.2,((l8_m6.length:Nat):Int)==1)))=some r/\match tyG lf xs with|some w=>r=(w.1,w.2,true)|none=>r.2.2=false:=by
 unfold tyG;rw[P7];by_cases hx:1<=xs.length/\xs.length<=400
 ·rw[E5.2 (show (1:Int)<=((xs.length:Nat):Int)/\((xs.length:Nat):Int)<=400 by omega),obs,fD,fY,fW hx,Azx hlf hleaf hx];cases hr:Hc lf xs [] with
  | none=>exact ⟨_,rfl,rfl⟩
  | some T=>
   have hne:=Aor (fun e=>by subst e;simp at hx) hr;dsimp only[Dg,obs,Ctl.then]
   match T,hne with
   | [w],_=>exact ⟨_,rfl,rfl⟩
   | a :: b :: r,_=>
    obtain ⟨c,hc⟩:∃ c,(a :: b :: r).reverse[0]? =some c:=⟨_,gEg fS⟩
    rw[hc];refine ⟨_,rfl,?_⟩;show ((((a :: b :: r).reverse.length:Nat):Int)==1)=false;rw[fU];simp;omega
 ·rw[fB hx,show inR ((xs.length:Nat):Int) 1 400=false by rw[Bool.eq_false_iff];intro e;have:=E5.1 e;exact hx oM];exact ⟨_,rfl,rfl⟩
end
theorem Apn(xs:List Nd):∃ r:Int×Int×Bool,Gd xs=some r/\match tyV xs with|some w=>r=(w.1,w.2,true)|none=>r.2.2=false:=by
 have ⟨r,h,hm⟩:=Ayv (lf:=lfW) (leaf:=Fm) (xs:=xs) (fun _ _ h=>Ad9 h) fun n _ _ _=>Asu n
 refine ⟨r,?_,hm⟩;unfold Gd;rw[show D1 xs=some r from h];rfl
end
section
def SRel(F I O:List Int):Nat->List (Int×Int)->Prop
 | k,[]=>k=0
 | k,w :: T=>∃ j:Nat,j<k/\F[k - 1]? =some (j:Int)/\I[k - 1]? =some w.1/\O[k - 1]? =some w.2/\SRel F I O j T
theorem Ai0{l:List Int}{k:Nat}{x y:Int}(h:l[k]? =some x):(l++[y])[k]? =some x:=by
 rw[getElem?_append_left (gSi.1 h).1];exact h
theorem SRel.app{F I O:List Int}{x y z:Int}:∀{T:List (Int×Int)} {k:Nat},SRel F I O k T->SRel (F++[x]) (I++[y]) (O++[z]) k T
 | [],_,h=>h
 | _ :: _,_,⟨j,h1,h2,h3,h4,h5⟩=>⟨j,h1,Ai0 h2,Ai0 h3,Ai0 h4,h5.app⟩
theorem Mx{l:List Int}{k:Nat}{y:Int}(h:l.length=k):(l++[y])[k+1 - 1]? =some y:=by
 subst h;rw[Nat.add_sub_cancel,getElem?_append_right<|fQ _,Nat.sub_self];rfl
abbrev ScR:=List Int×List Int×List Int×Bool
def Ayp(n:Nat)(t:Option (List (Int×Int)))(r:Ctl (List Int×List Int×List Int) ScR):Prop:=
 match t with
 | some T=>∃ F I O,r=.next (F,I,O)/\F.length=n/\I.length=n/\O.length=n/\okT T/\SRel F I O n T
 | none=>∃ F I O,r=.out (F,I,O,false)
theorem Alt(l:List (ByteArray×Int×Int×List Nd))(hl:l.length<=1048576)(s:ByteArray):(∃(i:Nat) (d:ByteArray×Int×Int×List Nd),C7 l s=some (i:Int)/\l[i]? =some d/\l.find? (fun d=>d.1.toList==s.toList)=some d)∨(C7 l s=some (-1)/\l.find? (fun d=>d.1.toList==s.toList)=none):=by
 unfold C7
 have key:∀ i,i<=l.length->(∀ k (hk:k<l.length),k<i->(l[k].1.toList==s.toList)=false)->(∃(i:Nat) (d:ByteArray×Int×Int×List Nd),l[i]? =some d/\l.find? (fun d=>d.1.toList==s.toList)=some d)∨l.find? (fun d=>d.1.toList==s.toList)=none:=fun i _ _=>by
  cases h:l.find? (fun d=>d.1.toList==s.toList) with
  | none=>exact .inr rfl
  | some d=>
   have ⟨k,hk⟩:=mem_iff_getElem?.1<|mem_of_find?_eq_some h;exact .inl ⟨k,d,hk,rfl⟩
 have hP:∃ r,Aq (fun s_:Nat=>C1 l s s_) 4611686018427387904 0=some r/\((∃(i:Nat) (d:ByteArray×Int×Int×List Nd),r=Ctl.out (i:Int)/\l[i]? =some d/\l.find? (fun d=>d.1.toList==s.toList)=some d)∨(r=Ctl.next ()/\l.find? (fun d=>d.1.toList==s.toList)=none)):=by
  refine Jd (Post:=fun r=>(∃(i:Nat) (d:ByteArray×Int×Int×List Nd),r=Ctl.out (i:Int)/\l[i]? =some d/\l.find? (fun d=>d.1.toList==s.toList)=some d)∨(r=Ctl.next ()/\l.find? (fun d=>d.1.toList==s.toList)=none)) l.length (fun i st=>st=i/\(l.take i).find? (fun d=>d.1.toList==s.toList)=none) oM ⟨rfl,by simp⟩ ?_ ?_
  ·rintro i st hi ⟨rfl,hI⟩;have hx:=gEg hi;unfold C1;rw[fH oM,hx,obs];have e:l.take (st+1)=l.take st++[l[st]]:=by rw[take_add_one,hx];rfl
   cases hb:(l[st].1.toList==s.toList)
   ·rw[fY,Af oM];exact .inl ⟨_,rfl,rfl,by rw[e,find?_append,hI];simp[hb]⟩
   ·refine .inr ⟨_,rfl,.inl ⟨st,l[st],rfl,hx,?_⟩⟩;have e2:l=l.take (st+1)++l.drop (st+1):=(take_append_drop _ _).symm
    conv=>lhs;rw[e2,e]
    rw[find?_append,find?_append,hI];simp[hb]
  ·rintro st ⟨rfl,hI⟩;unfold C1;rw[fJ oM];rw[take_length]at hI;exact ⟨_,rfl,.inr ⟨rfl,hI⟩⟩
 obtain ⟨r,hr,⟨i,d,rfl,h1,h2⟩|⟨rfl,h1⟩⟩:=hP
 ·rw[hr];exact .inl ⟨i,d,rfl,h1,h2⟩
 ·rw[hr];exact .inr ⟨rfl,h1⟩
theorem Ay5{lib:List (ByteArray×Int×Int×List Nd)}(hll:lib.length<=1048576)(hlb:∀ d∈lib,okW (d.2.1,d.2.2.1)){xs:List Nd}(hx:1<=xs.length/\xs.length<=400):∃ r,Aq (fun s_:Nat×List Int×List Int×List Int=>Kc xs lib s_.1 s_.2.1 s_.2.2.1 s_.2.2.2) 4611686018427387904 (0,[],[],[])=some r/\Ayp xs.length (Hc (lfL lib) xs []) r:=by
 refine Jd (Post:=Ayp xs.length<|Hc (lfL lib) xs []) xs.length (fun k s=>∃ F I O T,s=(k,F,I,O)/\F.length=k/\I.length=k/\O.length=k/\Hc (lfL lib) (xs.take k) []=some T/\okT T/\SRel F I O k T) oM ⟨[],[],[],[],rfl,rfl,rfl,rfl,rfl,(fun _ h=>by cases h),rfl⟩ ?_ ?_
 ·rintro k s hk ⟨F,I,O,T,rfl,lF,lI,lO,hT,hok,hS⟩;have hn:=gEg hk;generalize xs[k]=n at hn;have hnext:=J1 hn hT;have hfail:Cz (lfL lib) n T=none->Hc (lfL lib) xs []=none:=fun h=>R7 (k:=k+1) (by rw[hnext,h])
  try dsimp only
  unfold Kc;rw[fH oM,hn,obs,Asl,obs];by_cases hj:n.1=15∨n.1=16
  ·have hnl:lfW n=none:=by
    cases hw:lfW n with
    | none=>rfl
    | some w=>have:=Sc hw;omega
   rw[hnl];have e17:(n.1==17)=false:=by rw[fU];omega
   rw[Option.isSome_none,fY,e17,obs,fY]
   have hst0:Cz (lfL lib) n T=if n.2.1=0/\Nj n.2.2=true then (match T with
     | b :: a :: r=>if n.1=15 then (if a.2=b.1 then some ((a.1,b.2) :: r) else none) else (if a.1+b.1<=12/\a.2+b.2<=12 then some ((a.1+b.1,a.2+b.2) :: r) else none)
     | _=>none) else none:=fW hj
   have hcond:∀ q:Option Bool,(cond (n.1 !=15) (cond (n.1 !=16) (some true) q) q:Option Bool)=q:=fun q=>by
    rcases hj with h|h <;> rw[h] <;> rfl
   rw[hcond];by_cases hv:n.2.1=0/\Nj n.2.2=true
   ·have hs':(n.2.2.toList==(⟨#[]⟩:ByteArray).toList)=true:=hv.2;rw[fW hv]at hst0;rw[hv.1,hs',fD,fY,show ((0:Int) !=0)=false from rfl,fY]
    match T,hT,hok,hS,hnext,hfail,hst0 with
    | [],hT,hok,hS,hnext,hfail,hst0=>
     refine .inr ⟨Ctl.out (F,I,O,false),?_,?_⟩
     ·have:k=0:=hS;rw[Av oM];rfl
     ·rw[hfail hst0];exact ⟨_,_,_,rfl⟩
    | [b],hT,hok,hS,hnext,hfail,hst0=>
     refine .inr ⟨Ctl.out (F,I,O,false),?_,?_⟩
     ·have ⟨j,h1,h2,h3,h4,h5⟩:=hS;have h5:j=0:=h5;subst h5;by_cases h:k<2
      ·rw[Av oM];rfl
      ·have w1:wI ((k:Int) - 1)=((k - 1:Nat):Int):=by rw[Bi oM oM];omega
       rw[fJ oM,w1,B9 oM,fX,h2];rfl
     ·rw[hfail hst0];exact ⟨_,_,_,rfl⟩
    | b :: a :: r,hT,hok,hS,hnext,hfail,hst0=>
     have hb:=hok b fS;have ha:=hok a fS;have ⟨⟨b1,b2⟩,b3,b4⟩:=hb;have ⟨⟨a1,a2⟩,a3,a4⟩:=ha;have ⟨j,h1,h2,h3,h4,j0,g1,g2,g3,g4,g5⟩:=hS;have w1:wI ((k:Int) - 1)=((k - 1:Nat):Int):=by rw[Bi oM oM];omega
     have w2:wI ((j:Int) - 1)=((j - 1:Nat):Int):=by rw[Bi oM oM];omega
     have G:∀(l:List Int) (m:Nat),Bz l ((m:Nat):Int)=l[m]?:=fun l m=>by rw[B9 oM,fX]
     rw[fJ oM,w1];simp only[G,h2,h3,h4,obs,w2,g2,g3,g4];rw[At (show ¬ ((j:Nat):Int)<1 by omega),fY];dsimp only at hst0
     have hfin:∀ w:Int×Int,Cz (lfL lib) n (b :: a :: r)=some (w :: r)->∃ s',(Dg (some (Ctl.next (F++([(j0:Int)]),I++([w.1]),O++([w.2])):Ctl (List Int×List Int×List Int) (Ctl (Nat×List Int×List Int×List Int)<|Ctl (List Int×List Int×List Int) ScR))) fun q=>og (k+1<4611686018427387904)<|some<|Ctl.next (k+1,q.1,q.2.1,q.2.2))=some (.next s')/\∃ F I O T,s'=(k+1,F,I,O)/\F.length=k+1/\I.length=k+1/\O.length=k+1/\Hc (lfL lib) (xs.take<|k+1) []=some T/\okT T/\SRel F I O (k+1) T:=fun w hw=>by
      refine ⟨_,?_,F++[(j0:Int)],I++[w.1],O++[w.2],w :: r,rfl,by simp[lF],by simp[lI],by simp[lO],by rw[hnext,hw],Oi (Aa4 hlb) hw hok,j0,by omega,Mx lF,Mx lI,Mx lO,g5.app⟩;simp only[Dg,obs,Ctl.then];rw[Af oM]
     by_cases h15:n.1=15
     ·rw[fW h15]at hst0;rw[fF.2 h15,fZ];by_cases hab:a.2=b.1
      ·rw[fW hab]at hst0;rw[show (a.2 !=b.1)=false by rw[hab];exact bne_self_eq_false _,fY];simp only[Dg,obs,Ctl.then];rw[At (show ¬ 12<a.1 by omega),At (show ¬ 12<b.2 by omega),fY,obs,fY,Af oM,Af oM,Af oM];exact .inl<|hfin (a.1,b.2) hst0
      ·rw[fB hab]at hst0;rw[bne_iff_ne.2 hab,hfail hst0];exact .inr ⟨_,rfl,_,_,_,rfl⟩
     ·rw[fB h15]at hst0;rw[fU.2 h15,fY,Bi (n:=a.1+b.1) oM oM,Bi (n:=a.2+b.2) oM oM];simp only[Dg,obs,Ctl.then];by_cases hab:a.1+b.1<=12/\a.2+b.2<=12
      ·rw[fW hab]at hst0;rw[At (show ¬ 12<a.1+b.1 by omega),At (show ¬ 12<a.2+b.2 by omega),fY,obs,fY,Af oM,Af oM,Af oM];exact .inl<|hfin (a.1+b.1,a.2+b.2) hst0
      ·rw[fB hab]at hst0;rw[hfail hst0];refine .inr ⟨Ctl.out (F,I,O,false),?_,_,_,_,rfl⟩;by_cases h1:12<a.1+b.1
       ·rw[Av h1];rfl
       ·rw[At h1,Av (show 12<a.2+b.2 by omega)];rfl
   ·rw[fB hv]at hst0;refine .inr ⟨Ctl.out (F,I,O,false),?_,?_⟩
    ·by_cases hn0:Nj n.2.2=true
     ·have hs':(n.2.2.toList==(⟨#[]⟩:ByteArray).toList)=true:=hn0;rw[hs',show (n.2.1 !=0)=true by rw[bne_iff_ne];exact fun e=>hv ⟨e,hn0⟩];rfl
     ·have hs':(n.2.2.toList==(⟨#[]⟩:ByteArray).toList)=false:=by simpa using hn0
      rw[hs'];rfl
    ·rw[hfail hst0];exact ⟨_,_,_,rfl⟩
  ·have hst:Cz (lfL lib) n T=(lfL lib n).map (· :: T):=fB hj;by_cases h17:n.1=17
   ·have hnl:lfW n=none:=by
     cases hw:lfW n with
     | none=>rfl
     | some w=>have:=Sc hw;omega
    have har:Hb n.1 n.2.1 n.2.2=some (1,1):=by
     unfold Hb Ib;rw[h17];rfl
    rw[hnl,Option.isSome_none,fY,fF.2 h17,obs,fZ,har,obs,fZ];have hlf:lfL lib n=if n.2.1=0 then (lib.find? fun d=>d.1.toList==n.2.2.toList).map fun d=>(d.2.1,d.2.2.1) else none:=fW h17
    rcases Alt lib hll n.2.2 with ⟨i,d,h1,h2,h3⟩|⟨h1,h3⟩
    ·have hi:=Ai h2;rw[h1,obs,fJ oM,obs];by_cases hv:n.2.1=0
     ·rw[fW hv,h3]at hlf;have hlf:lfL lib n=some (d.2.1,d.2.2.1):=hlf;rw[hlf]at hst;rw[hv,show ((0:Int) !=0)=false from rfl,fY,B9 oM,fX,h2,obs];simp only[Dg,obs,Ctl.then];rw[Af oM,Af oM,Af oM];simp only[obs,Ctl.then];rw[Af oM];exact .inl ⟨_,rfl,F++[(k:Int)],I++[d.2.1],O++[d.2.2.1],(d.2.1,d.2.2.1) :: T,rfl,by simp[lF],by simp[lI],by simp[lO],by rw[hnext,hst];rfl,Oi (Aa4 hlb) hst hok,k,by omega,Mx lF,Mx lI,Mx lO,hS.app⟩
     ·rw[fB hv]at hlf;rw[hlf]at hst;rw[bne_iff_ne.2 hv,fZ,hfail hst];exact .inr ⟨_,rfl,_,_,_,rfl⟩
    ·have hlf:lfL lib n=none:=by rw[hlf,h3];split <;> rfl
     rw[hlf]at hst;rw[h1,obs,fH oM,obs,fZ,hfail hst];exact .inr ⟨_,rfl,_,_,_,rfl⟩
   have hlw:lfL lib n=lfW n:=fB h17;rw[hlw]at hst;have e17:(n.1==17)=false:=fU.2 h17;cases hw:lfW n with
   | some w=>
    rw[hw]at hst;rw[Option.isSome_some,fZ,obs,fZ,Avy hw,obs,e17,fY];simp only[Dg,obs,Ctl.then];rw[Af oM,Af oM,Af oM];simp only[obs,Ctl.then];rw[Af oM];exact .inl ⟨_,rfl,F++[(k:Int)],I++[w.1],O++[w.2],w :: T,rfl,by simp[lF],by simp[lI],by simp[lO],by rw[hnext,hst];rfl,Oi (Aa4 hlb) hst hok,k,by omega,Mx lF,Mx lI,Mx lO,hS.app⟩
   | none=>
    rw[hw]at hst;rw[Option.isSome_none,fY];refine .inr ⟨Ctl.out (F,I,O,false),?_,?_⟩
    ·have h15:n.1≠15:=fun e=>hj<|.inl e
     have h16:n.1≠16:=fun e=>hj<|.inr e
     rw[e17,obs,fY,bne_iff_ne.2 h15,fZ,bne_iff_ne.2 h16];rfl
    ·rw[hfail hst];exact ⟨_,_,_,rfl⟩
 ·rintro s ⟨F,I,O,T,rfl,lF,lI,lO,hT,hok,hS⟩;rw[take_length]at hT;rw[hT]
  try dsimp only
  unfold Kc;rw[fJ oM];exact ⟨_,rfl,_,_,_,rfl,lF,lI,lO,hok,hS⟩
theorem Akj{lib:List (ByteArray×Int×Int×List Nd)}(hll:lib.length<=1048576)(hlb:∀ d∈lib,okW (d.2.1,d.2.2.1))(xs:List Nd):∃ F I O b,H9 lib xs=some (F,I,O,b)/\match tyG (lfL lib) xs with|some w=>b=true/\I[xs.length - 1]? =some w.1/\O[xs.length - 1]? =some w.2|none=>b=false:=by
 unfold H9 tyG;rw[Ro];by_cases hx:1<=xs.length/\xs.length<=400
 ·rw[E5.2 (show (1:Int)<=((xs.length:Nat):Int)/\((xs.length:Nat):Int)<=400 by omega),obs,fD,fY,fW hx];have ⟨r,hr,hP⟩:=Ay5 hll hlb hx;rw[hr];cases ht:Hc (lfL lib) xs [] with
  | none=>
   rw[ht]at hP;obtain ⟨F,I,O,rfl⟩:=hP;exact ⟨_,_,_,_,rfl,rfl⟩
  | some T=>
   rw[ht]at hP;obtain ⟨F,I,O,rfl,lF,lI,lO,hok,hS⟩:=hP;have hne:=Aor (fun e=>by subst e;simp at hx) ht;have w1:wI (((xs.length:Nat):Int) - 1)=((xs.length - 1:Nat):Int):=by rw[Bi oM oM];omega
   simp only[Dg,obs,Ctl.then]
   match T,hne,hS with
   | w :: T,_,⟨j,h1,h2,h3,h4,h5⟩=>
    rw[w1,B9 oM,fX,h2,obs,obs];refine ⟨F,I,O,_,rfl,?_⟩;cases T with
    | nil=>
     have h5:j=0:=h5;subst h5;exact ⟨rfl,h3,h4⟩
    | cons v T=>
     have ⟨j',h',_⟩:=h5;show ((j:Int)==0)=false;rw[fU];omega
 ·rw[fB hx,show inR ((xs.length:Nat):Int) 1 400=false by rw[Bool.eq_false_iff];intro e;have:=E5.1 e;exact hx oM];exact ⟨_,_,_,_,rfl,rfl⟩
theorem Amd(xs:List Nd):∃ F I O b,Ky xs=some (F,I,O,b)/\match tyV xs with|some w=>b=true/\I[xs.length - 1]? =some w.1/\O[xs.length - 1]? =some w.2|none=>b=false:=by
 have ⟨F,I,O,b,h1,h2⟩:=Akj (lib:=[]) fS (fun d hd=>by cases hd) xs;rw[Awd]at h2;refine ⟨F,I,O,b,?_,h2⟩;unfold Ky;rw[h1];rfl
theorem Ad7(xs:List Nd):Ny xs=some (match tyV xs with|some w=>(w.1,w.2,true)|none=>(0,0,false)):=by
 unfold Ny;have ⟨F,I,O,b,h,hm⟩:=Amd xs;rw[h,obs];cases ht:tyV xs with
 | none=>rw[ht]at hm;dsimp only at hm;subst hm;rfl
 | some w=>
  rw[ht]at hm;obtain ⟨rfl,h1,h2⟩:=hm
  have hx:1<=xs.length/\xs.length<=400:=by
   unfold tyV tyG at ht;split at ht
   ·assumption
   ·cases ht
  have w1:wI (((xs.length:Nat):Int) - 1)=((xs.length - 1:Nat):Int):=by rw[Bi oM oM];omega
  dsimp only;rw[fD,fY,w1,B9 oM,fX,h1,obs,obs,B9 oM,fX,h2];rfl
end
section
def szV(v:Int)(n:Nat):Int:=if v<n then -1 else v - n
theorem Aux(xs:List Int){v:Int}(hv:0<=v/\v<=1048576)(hx:xs.length<=9223372036854775807):Nw xs v=some (szV v xs.length):=by
 unfold Nw szV;rw[Bi oM oM];by_cases h:v<xs.length
 ·rw[Av oM,fW h];rfl
 ·rw[At oM,fB h];rfl
theorem Ar5(xs:List Int)(hx:xs.length<=1073741824):Nz xs=some xs:=by
 unfold Nz;rw[Af oM]
 have h:Aq (fun s_:Nat×List Int=>J6 xs s_.1 s_.2) 4611686018427387904 (0,replicate xs.length (0:Int))=some xs:=by
  refine Bg xs.length (fun i=>(i,xs.take i++replicate (xs.length - i) 0)) oM xs fS (fun i hi=>?_) ?_
  ·have hx:=gEg hi
   try dsimp only
   unfold J6;rw[fH oM,hx,obs,Aa2 hi,obs,Af oM,Zs hx]
  ·try dsimp only
   unfold J6;rw[fJ oM];simp
 rw[h];rfl
theorem At8(xs:List Int)(hx:xs.length<=1073741824):Ns xs xs=some true:=by
 unfold Ns
 have h:Aq (fun s_:Nat=>Ke xs xs s_) 4611686018427387904 0=some (.next ()):=by
  refine Bg xs.length (fun i=>i) oM _ rfl (fun i hi=>?_) ?_
  ·have hx:=gEg hi
   try dsimp only
   unfold Ke;rw[fH oM,hx,obs,obs,bne_self_eq_false,fY,Af oM]
  ·try dsimp only
   unfold Ke;rw[fJ oM]
 rw[h,bne_self_eq_false,fY];rfl
end
section
section
variable{C ρ:Type}
end
def I4(b:Nat)(xss:ZA):Prop:=∀ x∈xss,x.length<=b
def Ou(xss:ZA):Nat:=(xss.map List.length).sum
theorem Arh{xss:ZA}{i:Nat}(h:i<xss.length):Ou (xss.take (i+1))=Ou (xss.take i)+xss[i].length:=by
 unfold Ou;rw[take_add_one,gEg h];simp only[Option.toList,map_append,map_cons,map_nil,sum_append,sum_cons,sum_nil,Nat.add_zero]
theorem Arm(xss:ZA)(hn:xss.length<=1048576)(hb:I4 1048576 xss):Mp xss xss=some true:=by
 unfold Mp
 have h:Aq (fun s_:Nat=>Iv xss xss s_) 4611686018427387904 0=some (.next ()):=by
  refine Bg xss.length (fun i=>i) oM _ rfl (fun i hi=>?_) ?_
  ·have hx:=gEg hi;have:=hb _<|getElem_mem hi
   try dsimp only
   unfold Iv;rw[fH oM,hx,obs,obs,At8 _ oM,obs,fD,fY,Af oM]
  ·try dsimp only
   unfold Iv;rw[fJ oM]
 rw[h,bne_self_eq_false,fY];rfl
def szW(v:Int)(xss:ZA):Int:=if v<xss.length+Ou xss then -1 else v - (xss.length+Ou xss)
theorem A0b{v:Int}{xss:ZA}(hv:v<=1048576)(h:¬ szW v xss<0):xss.length+Ou xss<=1048576/\I4 1048576 xss/\szW v xss=v - (xss.length+Ou xss):=by
 unfold szW at h ⊢;split at h
 ·omega
 rename_i h1;have h2:xss.length+Ou xss<=1048576:=by omega
 refine ⟨h2,fun x hx=>?_,fB h1⟩
 have:∀{l:ZA},x∈l->x.length<=Ou l:=by
  intro l
  induction l with
  | nil=>intro h;cases h
  | cons y r ih=>
   intro h;simp only[Ou,map_cons,sum_cons]at ih ⊢;rcases mem_cons.1 h with rfl|h
   ·omega
   ·have:=ih h;omega
 have:=this hx;omega
theorem Are(xss:ZA){v:Int}(hv:0<=v/\v<=1048576)(hn:xss.length<=9223372036854775807)(hb:I4 9223372036854775807 xss):Ma xss v=some (szW v xss):=by
 unfold Ma;rw[Bi oM oM];by_cases h0:v<xss.length
 ·rw[Av oM,szW,fW oM];rfl
 rw[fJ oM]
 have h:Aq (fun s_:Int×Nat=>Io xss s_.1 s_.2) 4611686018427387904 (v - xss.length,0)=some (if v<xss.length+Ou xss then .out (-1) else .next (v - (xss.length+Ou xss))):=by
  have hm:∀ i,Ou (xss.take i)<=Ou xss:=fun i=>by
   have:Ou xss=Ou (xss.take i)+Ou (xss.drop i):=by
    conv=>lhs;rw[← take_append_drop i xss]
    rw[Ou,map_append,sum_append];rfl
   omega
  refine Hy xss.length (fun i s=>s=(v - xss.length - Ou (xss.take i),i)/\(xss.length:Int)+Ou (xss.take i)<=v) oM _ ⟨by simp[Ou],by simp[Ou];omega⟩ ?_ ?_
  ·rintro i s hi ⟨rfl,h1⟩;have hx:=gEg hi;have hr:=hb _<|getElem_mem hi;have hs:=Arh hi;have hm1:=hm<|i+1
   try dsimp only
   unfold Io;rw[fH oM,hx,obs,Aux _ oM hr,obs,szV];by_cases h2:v - xss.length - Ou (xss.take i)<xss[i].length
   ·refine .inr ?_;rw[fW h2,fW oM];rfl
   ·refine .inl ⟨(v - xss.length - Ou (xss.take<|i+1),i+1),?_,rfl,by omega⟩;rw[fB h2,fJ oM,Af oM,hs,show v - ↑xss.length - ↑(Ou<|List.take i xss) - ↑xss[i].length=v - ↑xss.length - ↑(Ou (List.take i xss)+xss[i].length) by omega]
  ·rintro s ⟨rfl,h1⟩;rw[take_length]at h1 ⊢
   try dsimp only
   unfold Io;rw[fJ oM,fB oM];simp[Int.sub_sub]
 rw[h,szW];split <;> rfl
theorem Arb(xss:ZA)(hn:xss.length<=1048576)(hb:I4 1048576 xss):M1 xss=some xss:=by
 unfold M1;rw[Af oM]
 have h:Aq (fun s_:Nat×ZA=>I0 xss s_.1 s_.2) 4611686018427387904 (0,replicate xss.length ([]:List Int))=some xss:=by
  refine Bg xss.length (fun i=>(i,xss.take i++replicate (xss.length - i) [])) oM xss fS (fun i hi=>?_) ?_
  ·have hx:=gEg hi;have hr:=hb _<|getElem_mem hi
   try dsimp only
   unfold I0;rw[fH oM,hx,obs,Ar5 _ oM,obs,Aa2 hi,obs,Af oM,Zs hx]
  ·try dsimp only
   unfold I0;rw[fJ oM];simp
 rw[h];rfl
theorem Axt{R:NP}{w:World}{t:Ty}{A:Option Addr}{c:Nat}{xss:List (List t.D)}{l:List Addr}(h:Sl R w (.slice t) A c xss l):∀ x∈xss,x.length<=9223372036854775807:=by
 have ⟨_,_,f,_,h4⟩:=h;intro x hx;obtain ⟨i,hi,rfl⟩:=getElem_of_mem hx;have ⟨_,_,_,h5⟩:=h4 oM;have ⟨A',c',_,h6⟩:=h5 i hi;exact (Qi (xs:=xss[i]) h6).2
end
section
def inV(p:Int)(x:List Int):Prop:=∀ a,a∈x->0<=a/\a<p
def VecW(p:Int)(w:Nat)(x:List Int):Prop:=x.length=w/\inV p x
def MatW(p:Int)(w:Nat)(m:ZA):Prop:=∀ x,x∈m->VecW p w x
def Fg(p k:Int)(v:List Int):List Int:=v.map fun a=>a*k % p
def E7(p f:Int)(x v:List Int):List Int:=List.zipWith (fun a b=>(a - f*b) % p) x v
def Ep(m:ZA)(c r:Nat):Nat:=r+(m.drop r).findIdx fun x=>x.getD c 0 !=0
def M3(m:ZA)(r k:Nat):ZA:=(m.set r (m.getD k [])).set k (m.getD r [])
def Ih(p:Int)(c r:Nat)(pr:List Int)(m:ZA):ZA:=m.mapIdx fun i x=>if i=r then pr else E7 p (x.getD c 0) x pr
def Ql(p a:Int):Int:=(((range p.toNat).find? fun (x:Nat)=>a*(x:Int) % p==1).getD 0:Nat)
def prV(p:Int)(c:Nat)(x:List Int):List Int:=Fg p (Ql p (x.getD c 0)) x
def gjS(p:Int)(c:Nat)(s:Nat×ZA):Nat×ZA:=
 if s.1<s.2.length then
  if Ep s.2 c s.1=s.2.length then s
  else (s.1+1,Ih p c s.1 (prV p c (s.2.getD (Ep s.2 c s.1) [])) (M3 s.2 s.1 (Ep s.2 c s.1)))
 else s
def gjT(p:Int)(m:ZA):Nat->Nat×ZA
 | 0=>(0,m)
 | c+1=>gjS p c (gjT p m c)
def gj(p:Int)(n:Nat)(m:ZA):ZA:=(gjT p m n).2.take (gjT p m n).1
theorem Ut{p x:Int}(hp:2<=p):0<=x % p/\x % p<p:=⟨Int.emod_nonneg x oM,Int.emod_lt_of_pos x oM⟩
theorem T5{p k:Int}{w:Nat}{x:List Int}(hp:2<=p)(h:x.length=w):VecW p w (Fg p k x):=
 ⟨by simp[Fg,h],fun a ha=>by obtain ⟨b,_,rfl⟩:=mem_map.1 ha;exact Ut hp⟩
theorem Ang{α β γ:Type}{f:α->β->γ}:∀{x:List α} {v:List β} {c:γ},c∈List.zipWith f x v->∃ a b,c=f a b
 | [],_,_,h=>by simp at h
 | _ :: _,[],_,h=>by simp at h
 | a :: x,b :: v,c,h=>by
  rw[zipWith_cons_cons,mem_cons]at h;rcases h with h|h
  ·exact ⟨a,b,h⟩
  ·exact Ang h
theorem At9{p f:Int}{w:Nat}{x v:List Int}(hp:2<=p)(hx:x.length=w)(hv:v.length=w):VecW p w (E7 p f x v):=
 ⟨by simp[E7,hx,hv],fun a ha=>by obtain ⟨b,c,rfl⟩:=Ang ha;exact Ut hp⟩
theorem Zn{p:Int}{x v:List Int}(hx:inV p x)(hl:x.length<=v.length):E7 p 0 x v=x:=by
 apply ext_getElem
 ·simp[E7];omega
 ·intro i h1 h2;have:=hx x[i]<|getElem_mem h2;simp only[E7,getElem_zipWith,Int.zero_mul,Int.sub_zero];exact Int.emod_eq_of_lt this.1 this.2
theorem Bw{α:Type}{m:List α}{i:Nat}{d x:α}(h:m[i]? =some x):m.getD i d=x:=by rw[gDg,h];rfl
theorem Lw{α:Type}{m:List α}{i:Nat}(h:i<m.length):∃ x,m[i]? =some x:=⟨_,gEg h⟩
theorem U3{m:ZA}{c r:Nat}(h:r<=m.length):Ep m c r<=m.length:=by
 have:=findIdx_le_length (xs:=m.drop r) (p:=fun x=>x.getD c 0 !=0);rw[length_drop]at this;unfold Ep;omega
theorem A0d(m:ZA)(c r:Nat):r<=Ep m c r:=by unfold Ep;omega
theorem Af4{m:ZA}{c r i:Nat}(h1:r<=i)(h2:i<Ep m c r)(hr:r<=m.length):(m.getD i []).getD c 0=0:=by
 have hl:=U3 (c:=c) hr;have h3:i - r<(m.drop r).findIdx fun x=>x.getD c 0 !=0:=by unfold Ep at h2;omega
 have h4:i - r<(m.drop r).length:=by rw[length_drop];omega
 have h5:=not_of_lt_findIdx h3;rw[getElem_drop]at h5
 have e:m[r+(i - r)]'(by rw[length_drop]at h4;omega)=m.getD i []:=by
  rw[gDg,gEg oM];simp only[show r+(i - r)=i by omega,Option.getD_some]
 rw[e]at h5
 simpa using h5
theorem Ae1{m:ZA}{c r:Nat}(h:Ep m c r≠m.length)(hr:r<=m.length):(m.getD (Ep m c r) []).getD c 0≠0:=by
 have hl:=U3 (c:=c) hr;have h4:(m.drop r).findIdx (fun x=>x.getD c 0 !=0)<(m.drop r).length:=by rw[length_drop];unfold Ep at h hl;omega
 have h5:=findIdx_getElem (w:=h4);rw[getElem_drop]at h5
 have e:m[r+(m.drop r).findIdx (fun x=>x.getD c 0 !=0)]'(by rw[length_drop]at h4;omega)=m.getD (Ep m c r) []:=by
  rw[gDg,gEg oM];rfl
 rw[e]at h5
 simpa using h5
theorem S9(m:ZA)(r k:Nat):(M3 m r k).length=m.length:=by simp[M3]
theorem Qr(p:Int)(c r:Nat)(pr:List Int)(m:ZA):(Ih p c r pr m).length=m.length:=by simp[Ih]
theorem Ov{m:ZA}{i:Nat}(h:i<m.length):m.getD i []∈m:=by
 rw[gDg,gEg h];exact getElem_mem h
theorem Ace{p:Int}{w:Nat}{m:ZA}{r k:Nat}(h:MatW p w m)(hr:r<m.length)(hk:k<m.length):MatW p w (M3 m r k):=by
 intro x hx;unfold M3 at hx;rcases mem_or_eq_of_mem_set hx with hx|rfl
 ·rcases mem_or_eq_of_mem_set hx with hx|rfl
  ·exact h x hx
  ·exact h _<|Ov hk
 ·exact h _<|Ov hr
theorem Ayd{p:Int}{w c r:Nat}{m:ZA}{pr:List Int}(hp:2<=p)(h:MatW p w m)(hpr:VecW p w pr):MatW p w (Ih p c r pr m):=by
 intro x hx;unfold Ih at hx;obtain ⟨i,hi,rfl⟩:=mem_mapIdx.1 hx;split
 ·exact hpr
 ·exact At9 hp (h _<|getElem_mem hi).1 hpr.1
theorem A0c{p:Int}{w c:Nat}{s:Nat×ZA}(hp:2<=p)(h:MatW p w s.2)(hr:s.1<=s.2.length):MatW p w (gjS p c s).2/\(gjS p c s).1<=(gjS p c s).2.length/\(gjS p c s).2.length=s.2.length:=by
 unfold gjS;split
 ·rename_i h1;split
  ·exact ⟨h,hr,rfl⟩
  ·rename_i h2;have h3:=U3 (c:=c) hr;have hk:Ep s.2 c s.1<s.2.length:=by omega
   refine ⟨Ayd hp (Ace h h1 hk)<|T5 hp (h _<|Ov hk).1,?_,?_⟩
   ·simp only[Qr,S9];omega
   ·simp only[Qr,S9]
 ·exact ⟨h,hr,rfl⟩
theorem Nn{p:Int}{w:Nat}{m:ZA}(hp:2<=p)(h:MatW p w m):∀ c,MatW p w (gjT p m c).2/\(gjT p m c).1<=(gjT p m c).2.length/\(gjT p m c).2.length=m.length
 | 0=>⟨h,Nat.zero_le _,rfl⟩
 | c+1=>by
  have ⟨h1,h2,h3⟩:=Nn hp h c;have ⟨k1,k2,k3⟩:=A0c (c:=c) hp h1 h2;exact ⟨k1,k2,k3.trans h3⟩
theorem Afw{p:Int}{m:ZA}{c:Nat}(h:¬ (gjT p m c).1<(gjT p m c).2.length):∀ d,c<=d->gjT p m d=gjT p m c
 | 0, h0 => by obtain rfl : c = 0 := by omega
               rfl
 | d+1,h0=>by
  by_cases e:c=d+1
  ·rw[e]
  ·have ih:=Afw h d oM;show gjS p d (gjT p m d)=_;rw[ih];unfold gjS;rw[fB h]
theorem Ajs{p:Int}{n w:Nat}{m:ZA}(hp:2<=p)(h:MatW p w m):(gj p n m).length=(gjT p m n).1:=by
 have ⟨_,h2,_⟩:=Nn hp h n;unfold gj;rw[length_take];omega
theorem U5{p:Int}{n w:Nat}{m:ZA}(hp:2<=p)(h:MatW p w m):MatW p w (gj p n m):=fun x hx=>(Nn hp h n).1 x (mem_of_mem_take hx)
end
section
def Azk(p a:Int):Bool:=match Pc p a with
 | some v=>(v==Ql p a)&&((My p a==some v)&&((decide (0<=v)&&decide (v<p))&&(a*v % p==1)))
 | none=>false
def ivB:Bool:=(range 98).all fun p=> !(isF p)||(range p).all fun a=>a==0||Azk (p:Int) (a:Int)
theorem Ar7:ivB=true:=by kernel_rfl
theorem Aok{p a:Int}(hp:isF p=true)(ha:1<=a/\a<p):Pc p a=some (Ql p a)/\My p a=some (Ql p a)/\0<=Ql p a/\Ql p a<p/\a*Ql p a % p=1:=by
 have hb:=Dh hp;obtain ⟨q,rfl⟩:=Int.eq_ofNat_of_zero_le (show 0<=p by omega);obtain ⟨b,rfl⟩:=Int.eq_ofNat_of_zero_le (show 0<=a by omega);have h1:=all_eq_true.1 Ar7 q<|mem_range.2 oM;rw[hp,fD,Bool.false_or]at h1;have h2:=all_eq_true.1 h1 b<|mem_range.2 oM
 have h3:Azk (q:Int) (b:Int)=true:=by
  rcases (Bool.or_eq_true _ _).mp h2 with h|h
  ·have:b=0:=by simpa using h
   omega
  ·exact h
 unfold Azk at h3;split at h3
 next v hv=>simp only[fT,fF,decide_eq_true_eq]at h3;have ⟨h4,h5,⟨h6,h7⟩,h8⟩:=h3;subst h4;exact ⟨hv,h5,h6,h7,h8⟩
 ·cases h3
end
section
theorem Avv{p x y:Int}(hp:2<=p/\p<=97)(hx:0<=x/\x<p)(hy:0<=y/\y<p):Pj p x y=some ((x - y) % p):=by
 unfold Pj;rw[Af oM,Bi (n:=x+p) oM oM,Bi oM oM,Int.tmod_eq_emod_of_nonneg oM,show x+p - y=x - y+p by omega,Int.add_emod_right]
theorem Aig{ρ:Type}{body:Nat×ZA->Option (Ctl (Nat×ZA) ρ)}{M:ZA}{r:Nat}{x y:List Int}{o:ρ}(hx:M[r]? =some x)(hl:y.length=x.length)(hb:x.length<4611686018427387904)
  (hs:∀ j (h:j<x.length) (z:List Int),z[j]? =some x[j]->body (j,M.set r z)=some (.next (j+1,M.set r (z.set j (y[j]'oM))))) (he:body (x.length,M.set r y)=some (.out o)):
  Aq body 4611686018427387904 (0,M)=some o:=by
 refine Bg x.length (fun j=>(j,M.set r<|y.take j++x.drop j)) hb _ ?_ (fun j hj=>?_) ?_
 ·have ⟨h1,h2⟩:=gSi.1 hx;simp only[take_zero,nil_append,drop_zero];rw[← h2,set_getElem_self]
 ·have h1:(y.take j).length=j:=by rw[length_take];omega
  rw[hs j hj _<|Ry hj h1,Sb hj h1,take_add_one,gEg oM];rfl
 ·rw[drop_length,append_nil,← hl,take_length,hl];exact he
theorem Xy{ρ:Type}{body:Nat×List Int->Option (Ctl (Nat×List Int) ρ)}{x y:List Int}{o:ρ}(hl:y.length=x.length)(hb:x.length<4611686018427387904)
  (hs:∀ j (h:j<x.length) (z:List Int),z[j]? =some x[j]->body (j,z)=some (.next (j+1,z.set j (y[j]'oM)))) (he:body (x.length,y)=some (.out o)):
  Aq body 4611686018427387904 (0,x)=some o:=by
 refine Bg x.length (fun j=>(j,y.take j++x.drop j)) hb _ rfl (fun j hj=>?_) ?_
 ·have h1:(y.take j).length=j:=by rw[length_take];omega
  rw[hs j hj _<|Ry hj h1,Sb hj h1,take_add_one,gEg oM];rfl
 ·rw[drop_length,append_nil,← hl,take_length,hl];exact he
theorem Av2{ρ:Type}{body:Nat×ZA->Option (Ctl (Nat×ZA) ρ)}{M E:ZA}{r:Nat}{pr:List Int}{o:ρ}(hl:E.length=M.length)(hM:M[r]? =some pr)(hE:E[r]? =some pr)
  (hb:M.length<4611686018427387904) (hs:∀ i (h:i<M.length) (s:ZA),s.length=M.length->s[i]? =some M[i]->s[r]? =some pr->body (i,s)=some (.next (i+1,s.set i (E[i]'oM)))) (he:body (M.length,E)=some (.out o)):
  Aq body 4611686018427387904 (0,M)=some o:=by
 refine Bg M.length (fun j=>(j,E.take j++M.drop j)) hb _ rfl (fun j hj=>?_) ?_
 ·have h1:(E.take j).length=j:=by rw[length_take];omega
  rw[hs j hj _ sO (Ry hj h1) ?_,Sb hj h1,take_add_one,gEg oM];rfl;by_cases h2:r<j
  ·rw[getElem?_append_left oM,getElem?_take,fW h2];exact hE
  ·rw[getElem?_append_right oM,h1,getElem?_drop,show j+(r - j)=r by omega];exact hM
 ·rw[drop_length,append_nil,← hl,take_length,hl];exact he
theorem Vl{α:Type}{m:List α}{i:Nat}{x z:α}(h:m[i]? =some x):(m.set i z)[i]? =some z:=by
 rw[getElem?_set_self (Ai h)]
theorem Pu{α:Type}{m:List α}{i:Nat}{x:α}(h:m[i]? =some x):m.set i x=m:=by
 have ⟨h1,h2⟩:=gSi.1 h;rw[← h2,set_getElem_self]
theorem Anh{α:Type}{m:List α}{i j:Nat}{z:α}(h:i≠j):(m.set i z)[j]? =m[j]?:=getElem?_set_ne h
theorem Al7{p k:Int}{x:List Int}{j:Nat}(h:j<(Fg p k x).length):(Fg p k x)[j]=x[j]'(by simpa [Fg] using h)*k % p:=by simp[Fg]
theorem Ak5{p f:Int}{x v:List Int}{j:Nat}(h:j<(E7 p f x v).length):(E7 p f x v)[j]=(x[j]'(by simp[E7]at h;omega) - f*v[j]'(by simp[E7]at h;omega)) % p:=by simp[E7]
theorem Q8{p:Int}{c r:Nat}{pr:List Int}{m:ZA}{i:Nat}(h:i<(Ih p c r pr m).length):
  (Ih p c r pr m)[i]=if i=r then pr else E7 p ((m[i]'(by simpa [Ih] using h)).getD c 0) (m[i]'(by simpa [Ih] using h)) pr:=by simp[Ih]
theorem Pv{p:Int}{w j:Nat}{x:List Int}(hx:VecW p w x)(hj:j<x.length):0<=x[j]/\x[j]<p:=hx.2 _ (getElem_mem hj)
theorem Hl{p:Int}{w j:Nat}{x:List Int}(hx:VecW p w x)(hj:j<w):0<=x.getD j 0/\x.getD j 0<p/\x[j]? =some (x.getD j 0):=by
 have h:j<x.length:=by rw[hx.1];exact hj
 have e:x[j]? =some x[j]:=gEg h;rw[Bw e];exact ⟨(Pv hx h).1,(Pv hx h).2,e⟩
theorem Axz{p f a b:Int}:(a - f*b % p) % p=(a - f*b) % p:=by rw[Int.sub_emod_emod]
section
variable{p:Int}{w:Nat}{m:ZA}
theorem Arx{r:Nat}{x:List Int}{k:Int}(hp:2<=p/\p<=97)(hx:VecW p w x)(hw:w<=100000)(hr:m[r]? =some x)(hk:0<=k/\k<p):
  Aq (fun s_:Nat×ZA=>Hw x r p k s_.1 s_.2) 4611686018427387904 (0,m)=some (m.set r (Fg p k x)):=by
 have hl:=hx.1;refine Aig hr (y:=Fg p k x) (by simp[Fg]) oM (fun j hj z hz=>?_) ?_
 ·have hv:=Pv hx hj
  try dsimp only
  unfold Hw;rw[fH oM,Vl hr,obs,hz,obs,Aou hp hv hk,obs,Af oM,set_set,Al7]
 ·try dsimp only
  unfold Hw;rw[fJ oM]
theorem Ato{i r:Nat}{x v:List Int}{f:Int}(hp:2<=p/\p<=97)(hx:VecW p w x)(hv:VecW p w v)(hw:w<=100000)(hi:m[i]? =some x)(hr:m[r]? =some v)(hn:i≠r)(hf:0<=f/\f<p):
  Aq (fun s_:Nat×ZA=>Hj x i r p f s_.1 s_.2) 4611686018427387904 (0,m)=some (m.set i (E7 p f x v)):=by
 have hl:=hx.1;have hl':=hv.1;refine Aig hi (y:=E7 p f x v) (by simp[E7];omega) oM (fun j hj z hz=>?_) ?_
 ·have h1:=Pv hx hj;have h2:=Pv hv (j:=j) oM
  try dsimp only
  unfold Hj
  rw[fH oM,Vl hi,obs,hz,obs,Anh hn,hr,obs,gEg (show j<v.length by omega),obs,Aou hp hf h2,obs,
   Avv hp h1<|Ut hp.1,obs,Af oM,set_set,Ak5,Axz]
 ·try dsimp only
  unfold Hj;rw[fJ oM]
theorem Ak6{c r:Nat}{pr:List Int}(h:r<m.length):(Ih p c r pr m)[r]? =some pr:=by
 rw[gEg (by rw[Qr];exact h),Q8,fW rfl]
theorem Ar9{M0:ZA}{c r:Nat}{pr:List Int}(hp:2<=p/\p<=97)(hm:MatW p w m)(hw:w<=100000)(hl:m.length<=100000)(hr:m[r]? =some pr)(hc:c<w)(h0:M0.length=m.length):
  Aq (fun s_:Nat×ZA=>Hn M0 r c p s_.1 s_.2) 4611686018427387904 (0,m)=some (Ih p c r pr m):=by
 refine Av2 (E:=Ih p c r pr m) (Qr ..) hr (Ak6<|Ai hr) oM (fun i hi s hs h1 h2=>?_) ?_
 ·have hx:=hm _<|getElem_mem hi;have hv:=hm _<|mem_of_getElem? hr;have ⟨g1,g2,g3⟩:=Hl hx hc;generalize hxe:m[i]=x at *
  try dsimp only
  unfold Hn;rw[fH oM,Q8,hxe];by_cases hir:i=r
  ·subst hir;rw[fW rfl,show (((i:Nat):Int)==((i:Nat):Int))=true from beq_self_eq_true _,fZ,obs,fZ,obs,Af oM,Pu h2]
  ·rw[fB hir,show (((i:Nat):Int)==((r:Nat):Int))=false from by rw[fU];omega,fY,h1,obs,g3,obs,obs];by_cases h0:x.getD c 0=0
   ·rw[h0,show ((0:Int)==0)=true from rfl,fZ,obs,Af oM,Zn hx.2 (by rw[hx.1,hv.1];exact fQ _),Pu h1]
   ·rw[show (x.getD c 0==0)=false from fU.2 h0,fY,obs,g3,obs,Ato hp hx hv hw h1 h2 hir ⟨g1,g2⟩,obs,Af oM]
 ·try dsimp only
  unfold Hn;rw[fJ oM]
theorem Aqe{c r:Nat}{pr y:List Int}:Ih p c r pr (m.set r y)=Ih p c r pr m:=by
 apply ext_getElem
 ·rw[Qr,Qr,length_set]
 ·intro i h1 h2;rw[Q8,Q8];by_cases h:i=r
  ·rw[fW h,fW h]
  ·rw[fB h,fB h];simp only[getElem_set,fB (fun e=>h<|Eq.symm e)]
theorem Ax9{c r:Nat}(hm:MatW p w m)(hc:c<w)(hl:m.length<=100000)(hr:r<=m.length):
  Aq (fun s_:Nat=>Fp m c s_) 4611686018427387904 r=some (Ep m c r):=by
 have hle:=U3 (c:=c) hr;refine Bg ((m.drop r).findIdx fun x=>x.getD c 0 !=0) (fun t=>r+t) (by unfold Ep at hle;omega) _ rfl (fun t ht=>?_) ?_
 ·have h1:r+t<Ep m c r:=by unfold Ep;omega
  have h0:=Af4 (i:=r+t) oM h1 hr;have ⟨x,hx⟩:=Lw (show r+t<m.length by omega);have ⟨g1,g2,g3⟩:=Hl (hm _<|mem_of_getElem? hx) hc;rw[Bw hx]at h0
  try dsimp only
  unfold Fp;rw[fH oM,hx,obs,g3,obs,obs,h0,show ((0:Int)==0)=true from rfl,fZ,Af oM,Nat.add_assoc]
 ·show Fp m c (Ep m c r)=_;unfold Fp;by_cases h:Ep m c r=m.length
  ·rw[fJ oM,obs,fY]
  ·have h0:=Ae1 h hr;have ⟨x,hx⟩:=Lw (show Ep m c r<m.length by omega);have ⟨g1,g2,g3⟩:=Hl (hm _<|mem_of_getElem? hx) hc;rw[Bw hx]at h0;rw[fH oM,hx,obs,g3,obs,obs,fU.2 h0,fY]
theorem As6{r k:Nat}(hr:r<m.length)(hk:k<m.length):(M3 m r k)[r]? =some (m.getD k []):=by
 unfold M3;by_cases h:r=k
 ·subst h;rw[getElem?_set_self (by rw[length_set];exact hr)]
 ·rw[getElem?_set_ne<|Ne.symm h,getElem?_set_self hr]
theorem Avu{n:Nat}(hp:isF p=true)(hm:MatW p w m)(hn:n<=w)(hw:w<=100000)(hl:m.length<=100000):
  Aq (fun s_:Nat×Nat×ZA=>Ea (n:Int) p s_.1 s_.2.1 s_.2.2) 4611686018427387904 (0,0,m)=some (gjT p m n):=by
 have hb:=Dh hp;refine Hy n (fun c s=>s=((gjT p m c).1,c,(gjT p m c).2)) oM _ rfl (fun c s hc hI=>?_) fun s hI=>?_
 ·subst hI;have ⟨hm',hr,hl'⟩:=Nn hb.1 hm c;by_cases hlt:(gjT p m c).1<(gjT p m c).2.length
  ·refine .inl ?_;refine ⟨_,?_,rfl⟩;show Ea _ _ _ _ _=some (Ctl.next ((gjS p c<|gjT p m c).1,c+1,(gjS p c<|gjT p m c).2));generalize gjT p m c=s at *;have ⟨r,M⟩:=s
   try dsimp only at *
   unfold Ea gjS;rw[fH oM,obs,fH oM,Ax9 hm' oM oM hr,obs,fW hlt];by_cases hk:Ep M c r=M.length
   ·rw[hk,beq_self_eq_true,fZ,obs,fW rfl];exact Af oM _
   ·have hle:=U3 (c:=c) hr;have hkl:Ep M c r<M.length:=by omega
    rw[show (((Ep M c r:Nat):Int)==((M.length:Nat):Int))=false from by rw[fU];omega,fY,fB hk];have hnz:=Ae1 hk hr;have ⟨x,hx⟩:=Lw hlt;have ⟨y,hy⟩:=Lw hkl;have hyM:=hm' _<|mem_of_getElem? hy;have ⟨g1,g2,g3⟩:=Hl hyM (show c<w by omega);rw[Bw hy]at hnz;have ⟨i1,_,i2,i3,_⟩:=Aok hp (a:=y.getD c 0) oM;have hs:=As6 hlt hkl;have hpm:=Ace hm' hlt hkl;have hsl:=S9 M r<|Ep M c r;have hsw:(M.set r y).set (Ep M c r) x=M3 M r (Ep M c r):=by unfold M3;rw[Bw hx,Bw hy]
    rw[hx,obs,hy,obs,hsw,Bw hy];rw[Bw hy]at hs;generalize M3 M r (Ep M c r)=W at *;have hpr:VecW p w (Fg p (Ql p<|y.getD c 0) y):=T5 hb.1 hyM.1
    rw[hs,obs,g3,obs,i1,obs,Arx hb hyM hw hs ⟨i2,i3⟩,obs,
     Ar9 hb (w:=w) (m:=W.set r<|Fg p (Ql p<|y.getD c 0) y) (pr:=Fg p (Ql p<|y.getD c 0) y) (fun z hz=>?_) hw (by rw[length_set];omega) (Vl hs) oM rfl,obs,Af oM,obs,Aqe]
    ·exact Af oM _
    ·rcases mem_or_eq_of_mem_set hz with hz|rfl
     ·exact hpm _ hz
     ·exact hpr
  ·refine .inr ?_;rw[Afw hlt n oM];generalize gjT p m c=s at *
   try dsimp only
   unfold Ea;rw[fH oM,obs,fJ oM]
 ·subst hI
  try dsimp only
  unfold Ea;rw[fJ oM,obs,fY]
theorem Awi(hm:MatW p w m)(hw:w<=100000)(hl:m.length<=100000):
  Aq (fun s_:Nat×ZA=>Fr m s_.1 s_.2) 4611686018427387904 (0,([]:ZA))=some m:=by
 have h:=Dl (body:=fun s_:Nat×ZA=>Fr m s_.1 s_.2) m id [] (F:=4611686018427387904) oM m (fun i x h=>?_) ?_
 ·simpa using h
 ·have:=Ai h;have hx:=(hm x<|mem_of_getElem? h).1
  try dsimp only
  unfold Fr;rw[fH oM,h,obs,Yv _ oM,obs,Af sO,Af oM];rfl
 ·try dsimp only
  unfold Fr;rw[fJ oM,map_id,nil_append]
theorem Ta{n:Nat}(hp:isF p=true)(hm:MatW p w m)(hn:n<=w)(hw:w<=100000)(hl:m.length<=100000):E1 p (n:Int) m=some (gj p n m):=by
 have hb:=Dh hp;have ⟨_,h2,h3⟩:=Nn hb.1 hm n;unfold E1;rw[Awi hm hw hl,obs,Avu hp hm hn hw hl,obs];exact Af oM _
end
end
section
theorem Aun{ρ:Type}{body:Nat×ZA×ZA->Option (Ctl (Nat×ZA×ZA) ρ)}{M E A B:ZA}{r:Nat}{pr pa:List Int}{o:ρ}
  (hl:E.length=M.length) (hA:A.length=M.length) (hB:B.length=M.length) (hM:M[r]? =some pr) (hE:E[r]? =some pr) (hM':A[r]? =some pa) (hE':B[r]? =some pa) (hb:M.length<4611686018427387904)
  (hs:∀ i (h:i<M.length) (s t:ZA),s.length=M.length->t.length=M.length->s[i]? =some M[i]->t[i]? =some (A[i]'oM)->s[r]? =some pr->t[r]? =some pa ->
   body (i,s,t)=some (.next (i+1,s.set i (E[i]'oM),t.set i (B[i]'oM)))) (he:body (M.length,E,B)=some (.out o)):
  Aq body 4611686018427387904 (0,M,A)=some o:=by
 have hr:∀{M E:ZA} {pr:List Int} {j:Nat},(E.take j).length=j->M[r]? =some pr->E[r]? =some pr->(E.take j++M.drop j)[r]? =some pr:=by
  intro M E pr j h1 hM hE;by_cases h2:r<j
  ·rw[getElem?_append_left oM,getElem?_take,fW h2];exact hE
  ·rw[getElem?_append_right oM,h1,getElem?_drop,show j+(r - j)=r by omega];exact hM
 refine Bg M.length (fun j=>(j,E.take j++M.drop j,B.take j++A.drop j)) hb _ rfl (fun j hj=>?_) ?_
 ·have h1:(E.take j).length=j:=by rw[length_take];omega
  have h2:(B.take j).length=j:=by rw[length_take];omega
  rw[hs j hj _ _ sO sO (Ry hj h1) (Ry oM h2) (hr h1 hM hE)<|hr h2 hM' hE',Sb hj h1,Sb oM h2,take_add_one,gEg oM,take_add_one,gEg oM];rfl
 ·rw[drop_length,append_nil,← hl,take_length,hl,← hA,drop_length,append_nil,hA,← hB,take_length,hB];exact he
theorem VecW.tk{p:Int}{w u:Nat}{x:List Int}(h:VecW p w x)(hu:u<=w):VecW p u (x.take u):=⟨by rw[length_take,h.1];omega,fun a ha=>h.2 a (mem_of_mem_take ha)⟩
theorem VecW.dr{p:Int}{w u:Nat}{x:List Int}(h:VecW p w x):VecW p (w - u) (x.drop u):=⟨by rw[length_drop,h.1],fun a ha=>h.2 a (mem_of_mem_drop ha)⟩
theorem MatW.tk{p:Int}{w u:Nat}{m:ZA}(h:MatW p w m)(hu:u<=w):MatW p u (m.map (·.take u)):=fun x hx=>by
 obtain ⟨y,hy,rfl⟩:=mem_map.1 hx;exact (h y hy).tk hu
theorem MatW.dr{p:Int}{w u:Nat}{m:ZA}(h:MatW p w m):MatW p (w - u) (m.map (·.drop u)):=fun x hx=>by
 obtain ⟨y,hy,rfl⟩:=mem_map.1 hx;exact (h y hy).dr
section
variable{p:Int}{w:Nat}{m:ZA}
theorem Amt{x v:List Int}{f:Int}(hp:2<=p/\p<=97)(hx:VecW p w x)(hv:VecW p w v)(hw:w<=100000)(hf:0<=f/\f<p):
  Cy p x (wI (0 - f)) v=some (E7 p f x v):=by
 have hl:=hx.1;have hl':=hv.1;unfold Cy;refine Xy (y:=E7 p f x v) (by simp[E7];omega) oM (fun j hj z hz=>?_) ?_
 ·have h1:=Pv hx hj;have h2:=Pv hv (j:=j) oM;have h3:=Aes hp hf h2;have e:(0 - f)*v[j]= -(f*v[j]):=by rw[Int.zero_sub,Int.neg_mul]
  try dsimp only
  unfold De;rw[fH oM,gEg (show j<v.length by omega),obs,hz,obs,Bi (n:=0 - f) oM oM,e,Bi (n:= -(f*v[j])) oM oM,Bi oM oM,Avm hp,obs,Af oM,Ak5];rfl
 ·try dsimp only
  unfold De;rw[fJ oM]
theorem Akv{r k:Nat}{x y:List Int}{b:Int}(hr:m[r]? =some x)(hk:m[k]? =some y):Bm 0 (r:Int) (k:Int) b p m=some (M3 m r k):=by
 unfold Bm M3;rw[show ((0:Int)==0)=true from rfl,fZ,B9 oM,fX,hk,obs,B9 oM,fX,hr,obs,Bw hr,Bw hk]
theorem Aks{r:Nat}{x:List Int}{a b:Int}(hp:isF p=true)(hx:VecW p w x)(hw:w<=100000)(hr:m[r]? =some x)(ha:1<=a/\a<p):
  Bm 1 (r:Int) b a p m=some (m.set r (Fg p (Ql p a) x)):=by
 have ⟨_,i1,i2,i3,_⟩:=Aok hp ha;have hb:=Dh hp;have hl:=hx.1;unfold Bm;rw[show ((1:Int)==0)=false from rfl,fY,show ((1:Int)==1)=true from rfl,fZ,i1,obs,B9 oM,fX,hr,obs];refine Aig hr (y:=Fg p (Ql p a) x) (by simp[Fg]) oM (fun j hj z hz=>?_) ?_
 ·have hv:=Pv hx hj;have h3:=Aes hb hv ⟨i2,i3⟩
  try dsimp only
  unfold Ez;rw[fH oM,B9 oM,fX,Vl hr,obs,Af oM,hz,obs,Af oM,Af oM,set_set,Al7,Bi oM oM,Int.tmod_eq_emod_of_nonneg oM]
 ·try dsimp only
  unfold Ez;rw[fJ oM]
theorem Aka{i r:Nat}{x v:List Int}{f:Int}(hp:2<=p/\p<=97)(hx:VecW p w x)(hv:VecW p w v)(hw:w<=100000)(hi:m[i]? =some x)(hr:m[r]? =some v)(hn:i≠r)(hf:0<=f/\f<p):
  Bm 2 (i:Int) (r:Int) f p m=some (m.set i (E7 p f x v)):=by
 have hl:=hx.1;have hl':=hv.1;unfold Bm
 rw[show ((2:Int)==0)=false from rfl,fY,show ((2:Int)==1)=false from rfl,fY,show ((2:Int)==2)=true from rfl,fZ,B9 oM,fX,hi,obs,B9 oM,fX,hr,obs,
  Af hn,Amt hp hx hv hw hf,obs,Af (by simp[E7];omega)]
theorem Ako{r:Nat}(hr:r<m.length):M3 m r r=m:=by
 have ⟨x,hx⟩:=Lw hr;unfold M3;rw[Bw hx,set_set,Pu hx]
theorem Av4{A:ZA}{r k:Nat}(hA:A.length=m.length)(hr:r<m.length)(hk:k<m.length):B7 0 (r:Int) (k:Int) 0 p m A=some (M3 m r k,M3 A r k):=by
 unfold B7;by_cases h:r=k
 ·subst h;rw[beq_self_eq_true,fZ,Ako hr,Ako oM]
 ·have ⟨x,hx⟩:=Lw hr;have ⟨y,hy⟩:=Lw hk;have ⟨x',hx'⟩:=Lw (show r<A.length by omega);have ⟨y',hy'⟩:=Lw (show k<A.length by omega);rw[show ([(0:Int),(r:Int),(k:Int),0]==[0,(r:Int),(r:Int),0])=false from by rw[fU];intro e;simp at e;omega,fY,Akv hx hy,obs,Af<|S9 ..,Akv hx' hy',obs,Af (S9 ..)]
theorem Axo{A:ZA}{w' r:Nat}{x y:List Int}{a:Int}(hp:isF p=true)(hx:VecW p w x)(hy:VecW p w' y)(hw:w<=100000)(hw':w'<=100000)(hr:m[r]? =some x)(hA:A[r]? =some y)(ha:1<=a/\a<p):
  B7 1 (r:Int) 0 a p m A=some (m.set r (Fg p (Ql p a) x),A.set r (Fg p (Ql p a) y)):=by
 unfold B7;rw[show ([(1:Int),(r:Int),0,a]==[0,(r:Int),(r:Int),0])=false from by rw[fU];intro e;simp at e,fY,Aks hp hx hw hr ha,obs,Af<|length_set ..,Aks hp hy hw' hA ha,obs,Af (length_set ..)]
theorem Axn{A:ZA}{w' i r:Nat}{x v y u:List Int}{f:Int}(hp:2<=p/\p<=97)(hx:VecW p w x)(hv:VecW p w v)(hy:VecW p w' y)(hu:VecW p w' u)(hw:w<=100000)(hw':w'<=100000)
  (hi:m[i]? =some x) (hr:m[r]? =some v) (hi':A[i]? =some y) (hr':A[r]? =some u) (hn:i≠r) (hf:0<=f/\f<p):
  B7 2 (i:Int) (r:Int) f p m A=some (m.set i (E7 p f x v),A.set i (E7 p f y u)):=by
 unfold B7;rw[show ([(2:Int),(i:Int),(r:Int),f]==[0,(i:Int),(i:Int),0])=false from by rw[fU];intro e;simp at e,fY,Aka hp hx hv hw hi hr hn hf,obs,Af<|length_set ..,Aka hp hy hu hw' hi' hr' hn hf,obs,Af (length_set ..)]
def X8(p:Int)(c r:Nat)(pa:List Int)(M A:ZA):ZA:=A.mapIdx fun i x=>if i=r then pa else E7 p ((M.getD i []).getD c 0) x pa
theorem Uj{c r:Nat}{pa:List Int}{M A:ZA}{i:Nat}(h:i<(X8 p c r pa M A).length):
  (X8 p c r pa M A)[i]=if i=r then pa else E7 p ((M.getD i []).getD c 0) (A[i]'(by simpa [X8] using h)) pa:=by simp[X8]
theorem Avj{M0:ZA×ZA}{A:ZA}{w' c r:Nat}{pr pa:List Int}(hp:2<=p/\p<=97)(hm:MatW p w m)(hA:MatW p w' A)(hlA:A.length=m.length)(hw:w<=100000)(hw':w'<=100000)(hl:m.length<=100000)
  (hr:m[r]? =some pr) (hr':A[r]? =some pa) (hc:c<w) (h0:M0.1.length=m.length):
  Aq (fun s_:Nat×ZA×ZA=>Gp M0 r c p s_.1 s_.2.1 s_.2.2) 4611686018427387904 (0,m,A)=some (Ih p c r pr m,X8 p c r pa m A):=by
 have hla:(X8 p c r pa m A).length=m.length:=by simp[X8,hlA]
 have hr2:=Ai hr;refine Aun (E:=Ih p c r pr m) (B:=X8 p c r pa m A) (Qr ..) hlA hla hr (Ak6 hr2) hr' ?_ oM (fun i hi s t hs ht h1 k1 h2 k2=>?_) ?_
 ·rw[gEg oM,Uj,fW rfl]
 ·have hx:=hm _<|getElem_mem hi;have hy:=hA _ (getElem_mem (show i<A.length by omega));have hv:=hm _<|mem_of_getElem? hr;have hu:=hA _<|mem_of_getElem? hr';have ⟨g1,g2,g3⟩:=Hl hx hc;have hD:m.getD i []=m[i]:=Bw<|gEg hi
  try dsimp only
  unfold Gp;rw[fH oM,Q8,Uj,hD];generalize m[i]=x at *;generalize A[i]=y at *;by_cases hir:i=r
  ·subst hir;rw[fW rfl,fW rfl,show (((i:Nat):Int) !=((i:Nat):Int))=false from bne_self_eq_false _,fY,obs,fY,obs,Pu h2,Pu k2];exact Af oM _
  ·rw[fB hir,fB hir,show (((i:Nat):Int) !=((r:Nat):Int))=true from by rw[bne_iff_ne];omega,fZ,h1,obs,g3,obs,obs];by_cases h0:x.getD c 0=0
   ·rw[h0,show ((0:Int) !=0)=false from rfl,fY,obs,Zn hx.2 (by rw[hx.1,hv.1];exact fQ _),Zn hy.2 (by rw[hy.1,hu.1];exact fQ _),Pu h1,Pu k1];exact Af oM _
   ·rw[show (x.getD c 0 !=0)=true from bne_iff_ne.2 h0,fZ,obs,g3,obs,Axn hp hx hv hy hu hw hw' h1 h2 k1 k2 hir ⟨g1,g2⟩,obs,obs];exact Af oM _
 ·try dsimp only
  unfold Gp;rw[fJ oM]
theorem Axk{c r:Nat}(hm:MatW p w m)(hc:c<w)(hl:m.length<=100000)(hr:r<=m.length):
  Aq (fun s_:Nat=>E3 m c s_) 4611686018427387904 r=some (Ep m c r):=by
 have hle:=U3 (c:=c) hr;refine Bg ((m.drop r).findIdx fun x=>x.getD c 0 !=0) (fun t=>r+t) (by unfold Ep at hle;omega) _ rfl (fun t ht=>?_) ?_
 ·have h1:r+t<Ep m c r:=by unfold Ep;omega
  have h0:=Af4 (i:=r+t) oM h1 hr;have ⟨x,hx⟩:=Lw (show r+t<m.length by omega);have ⟨g1,g2,g3⟩:=Hl (hm _<|mem_of_getElem? hx) hc;rw[Bw hx]at h0
  try dsimp only
  unfold E3;rw[fH oM,hx,obs,g3,obs,obs,h0,show ((0:Int)==0)=true from rfl,fZ,Af oM,Nat.add_assoc]
 ·show E3 m c (Ep m c r)=_;unfold E3;by_cases h:Ep m c r=m.length
  ·rw[fJ oM,obs,fY]
  ·have h0:=Ae1 h hr;have ⟨x,hx⟩:=Lw (show Ep m c r<m.length by omega);have ⟨g1,g2,g3⟩:=Hl (hm _<|mem_of_getElem? hx) hc;rw[Bw hx]at h0;rw[fH oM,hx,obs,g3,obs,obs,fU.2 h0,fY]
theorem Vo{x:List Int}{u c:Nat}(h:c<u):(x.take u).getD c 0=x.getD c 0:=by
 rw[gDg,getElem?_take,fW h,gDg]
theorem Asc{u c r:Nat}(h:c<u):Ep (m.map (·.take u)) c r=Ep m c r:=by
 unfold Ep;rw[← map_drop,findIdx_map];congr 2;funext x;exact congrArg (· !=0)<|Vo h
theorem Ue{f:List Int->List Int}(hf:f []=[]){i:Nat}:(m.map f).getD i []=f (m.getD i []):=by
 rw[gDg,getElem?_map,gDg];cases m[i]? with
 | none=>exact hf.symm
 | some x=>rfl
theorem Aov{f:List Int->List Int}(hf:f []=[]){r k:Nat}:(M3 m r k).map f=M3 (m.map f) r k:=by
 unfold M3;rw[map_set,map_set,Ue hf,Ue hf]
theorem Arn{k:Int}{x:List Int}{u:Nat}:(Fg p k x).take u=Fg p k (x.take u):=by simp[Fg,map_take]
theorem Ark{k:Int}{x:List Int}{u:Nat}:(Fg p k x).drop u=Fg p k (x.drop u):=by simp[Fg,map_drop]
theorem Aqs{k:Int}{x v:List Int}{u:Nat}:(E7 p k x v).take u=E7 p k (x.take u) (v.take u):=by simp[E7,take_zipWith]
theorem Arq{k:Int}{x v:List Int}{u:Nat}:(E7 p k x v).drop u=E7 p k (x.drop u) (v.drop u):=by simp[E7,drop_zipWith]
theorem As9{c r u:Nat}{pr:List Int}(h:c<u):(Ih p c r pr m).map (·.take u)=Ih p c r (pr.take u) (m.map (·.take u)):=by
 apply ext_getElem
 ·simp[Ih]
 ·intro i h1 h2;rw[getElem_map,Q8,Q8,getElem_map,Vo h];split
  ·rfl
  ·exact Aqs
theorem Asa{c r u:Nat}{pr:List Int}(h:c<u):(Ih p c r pr m).map (·.drop u)=X8 p c r (pr.drop u) (m.map (·.take u)) (m.map (·.drop u)):=by
 apply ext_getElem
 ·simp[Ih,X8]
 ·intro i h1 h2;rw[getElem_map,Q8,Uj,getElem_map,Ue (f:=(·.take u)) take_nil,Vo h,show m.getD i []=m[i]'(by simpa [Ih] using h1) from Bw (gEg (by simpa [Ih] using h1))];split
  ·rfl
  ·exact Arq
theorem Aug{c r:Nat}{pa y z:List Int}{M A:ZA}:X8 p c r pa (M.set r z) (A.set r y)=X8 p c r pa M A:=by
 apply ext_getElem
 ·simp[X8]
 ·intro i h1 h2;rw[Uj,Uj];by_cases h:i=r
  ·rw[fW h,fW h]
  ·rw[fB h,fB h];simp only[getElem_set,fB (fun e=>h<|Eq.symm e),gDg,getElem?_set_ne (Ne.symm h)]
def rdW(u:Nat)(W:ZA):ZA:=W.map (·.take u)
def alW(u:Nat)(W:ZA):ZA:=W.map (·.drop u)
theorem Atv{n u:Nat}(hp:isF p=true)(hm:MatW p w m)(hn:n<=u)(hu:u<=w)(hw:w<=100000)(hl:m.length<=100000):
  Aq (fun s_:Nat×Nat×ZA×ZA=>Dz (n:Int) p s_.1 s_.2.1 s_.2.2.1 s_.2.2.2) 4611686018427387904 (0,0,rdW u m,alW u m)=some ((gjT p m n).1,rdW u (gjT p m n).2,alW u (gjT p m n).2):=by
 have hb:=Dh hp;refine Hy n (fun c s=>s=((gjT p m c).1,c,rdW u (gjT p m c).2,alW u (gjT p m c).2)) oM _ rfl (fun c s hc hI=>?_) fun s hI=>?_
 ·subst hI;have ⟨hm',hr,hl'⟩:=Nn hb.1 hm c;have hlr:(rdW u (gjT p m c).2).length=(gjT p m c).2.length:=length_map ..;have hla:(alW u (gjT p m c).2).length=(gjT p m c).2.length:=length_map ..;by_cases hlt:(gjT p m c).1<(gjT p m c).2.length
  ·refine .inl ?_;refine ⟨_,?_,rfl⟩;show Dz _ _ _ _ _ _=some (Ctl.next ((gjS p c<|gjT p m c).1,c+1,rdW u (gjS p c<|gjT p m c).2,alW u (gjS p c<|gjT p m c).2));generalize gjT p m c=s at *;have ⟨r,M⟩:=s
   try dsimp only at *
   have hR:MatW p u (rdW u M):=hm'.tk hu;have hA:MatW p (w - u) (alW u M):=hm'.dr;have hpv:Ep (rdW u M) c r=Ep M c r:=Asc oM;unfold Dz gjS;rw[fH oM,obs,fH oM,Axk hR oM oM oM,obs,fW hlt,hlr,hpv];by_cases hk:Ep M c r=M.length
   ·rw[hk,beq_self_eq_true,fZ,obs,fW rfl];exact Af oM _
   ·have hle:=U3 (c:=c) hr;have hkl:Ep M c r<M.length:=by omega
    rw[show (((Ep M c r:Nat):Int)==((M.length:Nat):Int))=false from by rw[fU];omega,fY,fB hk];have hnz:=Ae1 hk hr;have ⟨y,hy⟩:=Lw hkl;have hyM:=hm' _<|mem_of_getElem? hy;have ⟨g1,g2,_⟩:=Hl hyM (show c<w by omega);rw[Bw hy]at hnz;have hs:=As6 hlt hkl;rw[Bw hy]at hs;have hpm:=Ace hm' hlt hkl;have hsl:=S9 M r<|Ep M c r;have e1:M3 (rdW u M) r (Ep M c r)=rdW u (M3 M r<|Ep M c r):=(Aov take_nil).symm;have e2:M3 (alW u M) r (Ep M c r)=alW u (M3 M r<|Ep M c r):=(Aov drop_nil).symm;rw[Av4 oM oM oM,obs,e1,e2,Bw hy];generalize M3 M r (Ep M c r)=W at *;have hs1:(rdW u W)[r]? =some (y.take u):=by simp[rdW,hs]
    have hs2:(alW u W)[r]? =some (y.drop u):=by simp[alW,hs]
    have g4:(y.take u)[c]? =some (y.getD c 0):=by rw[(Hl (hyM.tk hu) (show c<u by omega)).2.2,Vo oM]
    have q1:VecW p u (Fg p (Ql p<|y.getD c 0)<|y.take u):=T5 hb.1 (hyM.tk hu).1;have q2:VecW p (w - u) (Fg p (Ql p<|y.getD c 0)<|y.drop u):=T5 hb.1 hyM.dr.1;have l1:(rdW u W).length=W.length:=length_map ..;have l2:(alW u W).length=W.length:=length_map ..
    try dsimp only
    rw[hs1,obs,g4,obs,Axo hp (hyM.tk hu) hyM.dr oM oM hs1 hs2 oM,obs]
    try dsimp only
    rw[Avj hb (w:=u) (w':=w - u) (pr:=Fg p (Ql p<|y.getD c 0)<|y.take u) (pa:=Fg p (Ql p<|y.getD c 0)<|y.drop u) (fun z hz=>?_) (fun z hz=>?_) (by simp only[length_set];omega) oM oM (by simp only[length_set];omega) (Vl hs1) (Vl hs2) oM rfl,obs]
    ·have e3:rdW u (Ih p c r (prV p c y) W)=Ih p c r (Fg p (Ql p<|y.getD c 0)<|y.take u) (rdW u W):=by
      unfold rdW prV;rw[As9 oM,Arn]
     have e4:alW u (Ih p c r (prV p c y) W)=X8 p c r (Fg p (Ql p<|y.getD c 0)<|y.drop u) (rdW u W) (alW u W):=by
      unfold rdW alW prV;rw[Asa oM,Ark]
     try dsimp only
     rw[Af oM,obs,Aqe,Aug,e3,e4];exact Af oM _
    ·rcases mem_or_eq_of_mem_set hz with hz|rfl
     ·exact hpm.tk hu _ hz
     ·exact q1
    ·rcases mem_or_eq_of_mem_set hz with hz|rfl
     ·exact hpm.dr _ hz
     ·exact q2
  ·refine .inr ?_;rw[Afw hlt n oM];generalize gjT p m c=s at *
   try dsimp only
   unfold Dz;rw[fH oM,obs,hlr,fJ oM]
 ·subst hI
  try dsimp only
  unfold Dz;rw[fJ oM,obs,fY]
theorem Abc{n u:Nat}(hp:isF p=true)(hm:MatW p w m)(hn:n<=u)(hu:u<=w)(hw:w<=100000)(hl:m.length<=100000):Gx p (rdW u m) (n:Int) (alW u m)=some (rdW u (gjT p m n).2,alW u (gjT p m n).2,(gjT p m n).1):=by
 unfold Gx;rw[Atv hp hm hn hu hw hl,obs]
theorem Acv(hm:MatW p w m)(hw:w<=100000)(hl:m.length<=100000):Gj m=some m:=by
 unfold Gj;have h:=Dl (body:=fun s_:Nat×ZA=>Ha m s_.1 s_.2) m id [] (F:=4611686018427387904) oM m (fun i x h=>?_) ?_
 ·rw[Af oM,show replicate 0 ([]:List Int)=[] from rfl,show Aq (fun s_:Nat×ZA=>Ha m s_.1 s_.2) 4611686018427387904 (0,[])=some m by simpa using h];rfl
 ·have:=Ai h;have hx:=(hm x<|mem_of_getElem? h).1
  try dsimp only
  unfold Ha;rw[fH oM,h,obs,Aw8 _ oM,obs,Af sO,Af oM];rfl
 ·try dsimp only
  unfold Ha;rw[fJ oM,map_id,nil_append]
end
end
section
def Xz(p n:Int)(b:ZA):Bool:=b.all fun x=>((x.length:Nat):Int)==n&&x.all fun a=>inR a 0 (p - 1)
theorem Hr{a lo hi:Int}:inR a lo hi=true↔lo<=a/\a<=hi:=by simp[inR]
theorem Aa6{p:Int}{n:Nat}{b:ZA}(h:Xz p n b=true):MatW p n b:=by
 intro x hx;have h1:=all_eq_true.1 h x hx;simp only[fT,fF,all_eq_true,Hr]at h1;exact ⟨by omega,fun a ha=>by have:=h1.2 a ha;omega⟩
theorem Au0(p n:Int)(b:ZA)(hp:2<=p/\p<=97)(hb:b.length<=1048576)(hr:I4 1048576 b):N8 p n b=some (Xz p n b):=by
 unfold N8;rw[Id b (fun x=>((x.length:Nat):Int)==n&&x.all fun a=>inR a 0<|p - 1) (.next ()) (.out false) oM (fun i x h=>?_) ?_,Pk];rfl
 ·unfold Nm;rw[fJ oM]
 ·have:=Ai h;have hx:=hr x<|mem_of_getElem? h;unfold Nm;rw[fH oM,h,obs];cases hc:((x.length:Nat):Int)==n
  ·rw[show (((x.length:Nat):Int) !=n)=true by simp only[bne,hc,Bool.not_false],fZ,obs,fZ,Bool.false_and];rfl
  ·rw[show (((x.length:Nat):Int) !=n)=false by simp only[bne,hc,fD],fY,Azw p x hp oM,obs,obs,Bool.true_and,Af oM];cases x.all fun a=>inR a 0 (p - 1) <;> rfl
theorem Ajt(p n:Int)(b:ZA)(hb:b.length<=1048576)(hr:I4 1048576 b):I5 p b n=some (Xz p n b):=by
 unfold I5;rw[Id b (fun x=>((x.length:Nat):Int)==n&&x.all fun a=>inR a 0<|p - 1) (.next ()) (.out false) oM (fun i x h=>?_) ?_,Pk];rfl
 ·unfold I9;rw[fJ oM]
 ·have:=Ai h;have hx:=hr x<|mem_of_getElem? h;unfold I9;rw[fH oM,h,obs,And p x n oM,obs,Af oM];cases ((x.length:Nat):Int)==n&&x.all fun a=>inR a 0 (p - 1) <;> rfl
theorem Ast(x y:List Int)(hx:x.length<=1048576):Nq x y=some (x==y):=by
 unfold Nq;by_cases h:x.length=y.length
 ·rw[show (((x.length:Nat):Int) !=((y.length:Nat):Int))=false by rw[h];exact bne_self_eq_false _,fY]
  have key:Aq (fun s_:Nat=>Jy x y s_) 4611686018427387904 0=some (if x==y then .next () else .out false):=by
   refine Hy x.length (fun i s=>s=i/\x.take i=y.take i) oM _ ⟨rfl,by simp⟩ ?_ ?_
   ·rintro i s hi ⟨hsi,ht⟩;subst hsi;unfold Jy;rw[fH oM,gEg hi,obs,gEg (show s<y.length by omega),obs];by_cases he:x[s]=y[s]'oM
    ·refine .inl ⟨s+1,?_,rfl,?_⟩
     ·rw[show (x[s] !=y[s]'oM)=false by rw[he];exact bne_self_eq_false _,fY,Af oM]
     ·rw[take_add_one,take_add_one,ht,gEg hi,gEg (show s<y.length by omega),he]
    ·refine .inr ?_;rw[bne_iff_ne.2 he,fZ,show (x==y)=false from by rw[fU];intro e;subst e;exact he rfl];rfl
   ·rintro s ⟨hs,ht⟩;subst hs;rw[take_length,h,take_length]at ht;subst ht;unfold Jy;rw[fJ oM,beq_self_eq_true];rfl
  rw[key];cases x==y <;> rfl
 ·rw[show (((x.length:Nat):Int) !=((y.length:Nat):Int))=true by rw[bne_iff_ne];omega,fZ,show (x==y)=false from by rw[fU];intro e;subst e;exact h rfl]
theorem Avh(x y:ZA)(hx:x.length<=1048576)(hr:I4 1048576 x):N3 x y=some (x==y):=by
 unfold N3;by_cases h:x.length=y.length
 ·rw[show (((x.length:Nat):Int) !=((y.length:Nat):Int))=false by rw[h];exact bne_self_eq_false _,fY]
  have key:Aq (fun s_:Nat=>Jw x y s_) 4611686018427387904 0=some (if x==y then .next () else .out false):=by
   refine Hy x.length (fun i s=>s=i/\x.take i=y.take i) oM _ ⟨rfl,by simp⟩ ?_ ?_
   ·rintro i s hi ⟨hsi,ht⟩;subst hsi;unfold Jw;rw[fH oM,gEg hi,obs,gEg (show s<y.length by omega),obs,Ast _ _<|hr _<|getElem_mem hi,obs];by_cases he:x[s]=y[s]'oM
    ·refine .inl ⟨s+1,?_,rfl,?_⟩
     ·rw[show (x[s]==y[s]'oM)=true by rw[he];exact beq_self_eq_true _,fD,fY,Af oM]
     ·rw[take_add_one,take_add_one,ht,gEg hi,gEg (show s<y.length by omega),he]
    ·refine .inr ?_;rw[fU.2 he,Bool.not_false,fZ,show (x==y)=false from by rw[fU];intro e;subst e;exact he rfl];rfl
   ·rintro s ⟨hs,ht⟩;subst hs;rw[take_length,h,take_length]at ht;subst ht;unfold Jw;rw[fJ oM,beq_self_eq_true];rfl
  rw[key];cases x==y <;> rfl
 ·rw[show (((x.length:Nat):Int) !=((y.length:Nat):Int))=true by rw[bne_iff_ne];omega,fZ,show (x==y)=false from by rw[fU];intro e;subst e;exact h rfl]
theorem Z1{p:Int}{w:Nat}{m:ZA}(hp:isF p=true)(hm:MatW p w m)(hw:w<=100000)(hl:m.length<=100000):Fs p m (w:Int)=some (gj p w m):=by
 have hb:=Dh hp;have ⟨k1,h2,h3⟩:=Nn hb.1 hm w
 have e1:∀{m:ZA},MatW p w m->rdW w m=m:=fun {m} hm=>by
  unfold rdW;exact (map_congr_left (g:=id) fun x hx=>take_of_length_le<|Nat.le_of_eq (hm x hx).1).trans<|map_id _
 have e2:alW w m=replicate m.length []:=by
  unfold alW;rw[eq_replicate_iff];refine ⟨length_map ..,fun b hb=>?_⟩;obtain ⟨x,hx,rfl⟩:=mem_map.1 hb;exact drop_of_length_le<|Nat.le_of_eq (hm x hx).1
 have e3:(alW w (gjT p m w).2).length=m.length:=by rw[← h3];exact length_map ..
 have hR:=Abc hp hm (fQ w) (fQ w) hw hl;rw[e1 hm,e2]at hR;unfold Fs;rw[Acv hm hw hl,obs,Af oM,hR,obs];rw[e1 k1];rw[Af h3,Af e3];exact Af (by dsimp only;omega) _
theorem Ayk(x:List Int):S4 x=some (x.take 48++(replicate 48 0).drop (x.take 48).length):=rfl
theorem Apw(x:List Int):(x.take 48++(replicate 48 (0:Int)).drop (x.take 48).length).length=48:=by simp;omega
theorem Axs{x y:List Int}{n:Nat}(hx:x.length=n)(hy:y.length=n)(hn:n<=48)(h:x.take 48++(replicate 48 (0:Int)).drop (x.take 48).length=y.take 48++(replicate 48 (0:Int)).drop (y.take 48).length):x=y:=by
 rw[take_of_length_le oM,take_of_length_le (show y.length<=48 by omega)]at h;exact (append_inj h oM).1
theorem Amc{p:Int}{n:Nat}(b:ZA)(hp:isF p=true)(hn:n<=48)(hb:b.length<=1048576)(hr:I4 1048576 b):
  Jx p b (n:Int)=some (decide (((b.length:Nat):Int)<=n)&&(Xz p n b&&gj p n b==b)):=by
 unfold Jx;by_cases h1:(n:Int)<b.length
 ·rw[fH h1,obs,fZ,At oM,Bool.false_and]
 rw[fJ h1,Av (show ((b.length:Nat):Int)<=n by omega),Bool.true_and,Ajt p n b hb hr,obs,obs];cases hv:Xz p n b
 ·rw[Bool.not_false,fZ,Bool.false_and]
 have hm:=Aa6 hv;have hp2:=Dh hp;have hl:=(Nn hp2.1 hm n).2;have hgl:=Ajs (n:=n) hp2.1 hm;have hgm:=U5 (n:=n) hp2.1 hm;rw[fD,fY,Z1 hp hm oM oM,obs,obs,Bool.true_and]
 have key:Aq (fun s_:Nat=>Gn (gj p n b) b s_) 4611686018427387904 0=some (if gj p n b==b.take (gj p n b).length then .next () else .out false):=by
  generalize gj p n b=x at *;refine Hy x.length (fun i s=>s=i/\x.take i=b.take i) oM _ ⟨rfl,by simp⟩ ?_ ?_
  ·rintro i s hi ⟨hsi,ht⟩;subst hsi;have hs:s<b.length:=by omega
   unfold Gn;rw[fH oM,gEg hi,obs,Ayk,obs,gEg hs,obs,Ayk,obs,Af ⟨Apw _,Apw _⟩];by_cases he:x[s]=b[s]
   ·refine .inl ⟨s+1,?_,rfl,?_⟩
    ·rw[he,beq_self_eq_true,fD,fY,Af oM]
    ·rw[take_add_one,take_add_one,ht,gEg hi,gEg hs,he]
   ·refine .inr ?_;rw[fU.2 (fun e=>he<|Axs (hgm _<|getElem_mem hi).1 (hm _<|getElem_mem hs).1 hn e),Bool.not_false,fZ,show (x==b.take x.length)=false from ?_]
    ·rfl
    ·rw[fU];intro e;refine he ?_;have e2:=congrArg (fun l=>l[s]?) e;simp only[getElem?_take,fW hi,gEg hi,gEg hs,fV]at e2;exact e2
  ·rintro s ⟨hs,ht⟩;subst hs;rw[take_length]at ht;unfold Gn;rw[fJ oM,← ht,beq_self_eq_true];rfl
 rw[key];by_cases he:gj p n b=b.take (gj p n b).length
 ·rw[show (gj p n b==b.take (gj p n b).length)=true from fF.2 he];show some _=_;congr 1;by_cases hll:(gj p n b).length=b.length
  ·rw[hll,take_length]at he;rw[he,beq_self_eq_true,beq_self_eq_true]
  ·rw[show (gj p n b==b)=false from by rw[fU];exact fun e=>hll<|congrArg List.length e,fU];omega
 ·rw[fU.2 he,show (gj p n b==b)=false from ?_]
  ·rfl
  ·rw[fU];intro e;exact he (by rw[e,take_length])
def On(p l r:Int)(b:ZA):Bool:=isF p&&(inR l 0 24&&(inR r 0 (24 - l)&&(decide (((b.length:Nat):Int)<=l+r)&&(Xz p (l+r) b&&gj p (l+r).toNat b==b))))
theorem Ae7 (p l r:Int) (b:ZA) (hb:b.length<=1048576) (hr:I4 1048576 b):N4 p l r b=some (On p l r b):=by
 unfold N4 On;rw [Ro,obs];cases h1:inR l 0 24
 ·rw [Bool.false_and,Bool.and_false];rfl
 have h1':=Hr.1 h1;rw [cond_true,Bi (n:=24 - l) oM oM,Ro,obs];cases h2:inR r 0 (24 - l)
 ·rw [Bool.false_and,Bool.and_false,Bool.and_false];rfl
 have h2':=Hr.1 h2;rw [cond_true,Bi oM oM];unfold Rk;rw [Uh,obs];cases hp:isF p
 ·rfl
 rw [cond_true,Ro,obs,Hr.2 (show 0<=l+r/\l+r<=24 by omega),cond_true];by_cases h3:((b.length:Nat):Int)<=l+r
 ·obtain ⟨n,hn⟩:=Int.eq_ofNat_of_zero_le (show 0<=l+r by omega);rw [Av h3,cond_true,hn,Au0 p n b (Dh hp) hb hr,obs];cases hv:Xz p (n:Int) b
  ·rfl
  have hm:=Aa6 hv;have hgl:=Ajs (n:=n) (Dh hp).1 hm;have hgm:=U5 (n:=n) (Dh hp).1 hm;have hl:=(Nn (Dh hp).1 hm n).2;rw [cond_true,Ta hp hm (Nat.le_refl n) oM oM,obs,Avh _ _ oM (fun x hx=>by rw [(hgm x hx).1];omega),obs];rfl
 ·rw [At h3];rfl
theorem Ai6(p l r:Int)(b:ZA)(hb:b.length<=1048576)(hr:I4 1048576 b):I3 p l r b=some (On p l r b):=by
 unfold I3 On;rw[show Fo p=some (isF p) from rfl,obs];cases hp:isF p
 ·rfl
 rw[fZ,Bool.true_and]
 have hf:Qz l r=some (inR l 0 24&&inR r 0 (24 - l)):=by
  unfold Qz;rw[P7,obs];cases h1:inR l 0 24
  ·rfl
  have h1':=Hr.1 h1;rw[fZ,P7,obs,Bool.true_and];by_cases h2:0<=r/\r<=24
  ·rw[Hr.2 h2,fZ,obs,Bi oM oM];congr 1;rw[Bool.eq_iff_iff,Hr];simp only[decide_eq_true_eq];omega
  ·rw[show inR r 0 24=false from by rw[Bool.eq_false_iff];exact fun h=>h2<|Hr.1 h,fY,obs];congr 1;symm;rw[Bool.eq_false_iff];intro h;have:=Hr.1 h;exact h2 oM
 rw[hf,obs];cases h1:inR l 0 24
 ·rfl
 have h1':=Hr.1 h1;cases h2:inR r 0 (24 - l)
 ·rfl
 have h2':=Hr.1 h2;have ⟨n,hn⟩:=Int.eq_ofNat_of_zero_le (show 0<=l+r by omega);rw[Bool.true_and,fZ,Bi oM oM,hn,Amc b hp oM hb hr];rfl
structure A0s(p l r:Int)(b:ZA):Prop where
 fp:isF p=true
 hl:0<=l
 hr:0<=r
 hs:l+r<=24
 lb:((b.length:Nat):Int)<=l+r
 mb:MatW p (l+r).toNat b
 rb:gj p (l+r).toNat b=b
theorem Aq9{p l r:Int}{b:ZA}(h:On p l r b=true):A0s p l r b:=by
 unfold On at h;simp only[fT,Hr,decide_eq_true_eq,fF]at h;have ⟨h1,h2,h3,h4,h5,h6⟩:=h;refine ⟨h1,h2.1,h3.1,by omega,h4,?_,h6⟩;have ⟨n,hn⟩:=Int.eq_ofNat_of_zero_le (show 0<=l+r by omega);rw[hn]at h5 ⊢;exact Aa6 h5
theorem Air(l r:Int)(b:ZA){v:Int}(hv:0<=v/\v<=1048576)(hn:b.length<=9223372036854775807)(hb:I4 9223372036854775807 b):Iu l r b v=some (szW v b):=by
 unfold Iu;rw[Are b hv hn hb,obs];by_cases h:szW v b<0
 ·rw[fH h];congr 1;unfold szW at h ⊢;split at h <;> rename_i h'
  ·rw[fW h']
  ·omega
 ·rw[fJ h]
theorem Ais(l r:Int)(b:ZA)(hn:b.length<=1048576)(hb:I4 1048576 b):Ip l r b=some b:=by
 unfold Ip;rw[Arb b hn hb,obs]
theorem Yi(l r:Int)(b:ZA)(hn:b.length<=1048576)(hb:I4 1048576 b):I2 l r b l r b=some true:=by
 unfold I2;rw[bne_self_eq_false,fY,bne_self_eq_false,fY,Arm b hn hb,obs,fD,fY]
end
section
def Is(p:Int)(xs:List Nd):Bool:=xs.all fun n=> !((n.1==7||n.1==13)&&decide (p<=n.2.1))
def U1(xs:List Nd):Bool:=xs.all fun n=> !(n.1==8||n.1==14)
theorem Auo(xs:List Nd)(p:Int)(hx:xs.length<=1073741824):Hx xs p=some (isF p&&((tyV xs).isSome&&Is p xs)):=by
 unfold Hx Kj;have ⟨r,hr,hm⟩:=Apn xs;rw[show Fo p=some (isF p) from rfl,obs,hr];cases hp:isF p
 ·rfl
 have e:r.2.2=(tyV xs).isSome:=by
  cases ht:tyV xs with
  | none=>rw[ht]at hm;exact hm
  | some w=>rw[ht]at hm;dsimp only at hm;rw[hm];rfl
 rw[fD,fY,obs,obs,obs,e,Bool.true_and];cases (tyV xs).isSome
 ·rfl
 rw[fD,fY,Bool.true_and]
 have key:Aq (fun s_:Nat=>Fw xs p s_) 4611686018427387904 0=some (if Is p xs then Ctl.next () else Ctl.out false):=by
  refine Id xs (fun n=> !((n.1==7||n.1==13)&&decide (p<=n.2.1))) (Ctl.next ()) (Ctl.out false) oM (fun i n h=>?_) ?_
  ·have:=Ai h;unfold Fw E0;rw[fH oM,h,obs,Af oM];cases n.1==7 <;> cases n.1==13 <;> cases decide (p<=n.2.1) <;> rfl
  ·unfold Fw;rw[fJ oM]
 rw[key,Pk]
theorem Aml(xs:List Nd)(p:Int)(hx:xs.length<=1073741824):Gf xs p=some ((isF p&&((tyV xs).isSome&&Is p xs))&&U1 xs):=by
 unfold Gf;rw[Auo xs p hx,obs];cases isF p&&((tyV xs).isSome&&Is p xs)
 ·rfl
 rw[fD,fY,Bool.true_and]
 have key:Aq (fun s_:Nat=>Eu xs s_) 4611686018427387904 0=some (if U1 xs then Ctl.next () else Ctl.out false):=by
  refine Id xs (fun n=> !(n.1==8||n.1==14)) (Ctl.next ()) (Ctl.out false) oM (fun i n h=>?_) ?_
  ·have:=Ai h;unfold Eu Jf;rw[fH oM,h,obs,Af oM];cases n.1==8 <;> cases n.1==14 <;> rfl
  ·unfold Eu;rw[fJ oM]
 rw[key,Pk]
theorem X7(xs:List Nd)(p:Int)(hx:xs.length<=1073741824):Kr p xs=some ((tyV xs).isSome&&(isF p&&Is p xs)):=by
 unfold Kr;have ⟨F,I,O,b,h,hm⟩:=Amd xs
 have e:b=(tyV xs).isSome:=by
  cases ht:tyV xs with
  | none=>rw[ht]at hm;exact hm
  | some w=>rw[ht]at hm;exact hm.1
 rw[h,obs,Uh,e];cases (tyV xs).isSome
 ·rfl
 rw[fD,fY,obs,obs];cases hp:isF p
 ·rfl
 rw[fD,fY,Bool.true_and,Bool.true_and]
 have key:Aq (fun s_:Nat=>J3 xs p s_) 4611686018427387904 0=some (if Is p xs then Ctl.next () else Ctl.out false):=by
  refine Id xs (fun n=> !((n.1==7||n.1==13)&&decide (p<=n.2.1))) (Ctl.next ()) (Ctl.out false) oM (fun i n h=>?_) ?_
  ·have:=Ai h;unfold J3;rw[fH oM,h,obs,Af oM];cases n.1==7 <;> cases n.1==13 <;> cases decide (p<=n.2.1) <;> rfl
  ·unfold J3;rw[fJ oM]
 rw[key,Pk]
theorem S8(xs:List Nd)(hx:xs.length<=1073741824):F8 xs=some (U1 xs):=by
 unfold F8
 have key:Aq (fun s_:Nat=>Gc xs s_) 4611686018427387904 0=some (if U1 xs then Ctl.next () else Ctl.out false):=by
  refine Id xs (fun n=> !(n.1==8||n.1==14)) (Ctl.next ()) (Ctl.out false) oM (fun i n h=>?_) ?_
  ·have:=Ai h;unfold Gc C5;rw[fH oM,h,obs,Af oM];rw[show (n.1 !=8)= !(n.1==8) from rfl,show (n.1 !=14)= !(n.1==14) from rfl];cases n.1==8 <;> cases n.1==14 <;> rfl
  ·unfold Gc;rw[fJ oM]
 rw[key,Pk]
theorem A0u(p:Int)(s:ByteArray)(xs:List Nd)(l r:Int)(b:ZA)(hx:xs.length<=1073741824)(hb:b.length<=1048576)(hr:I4 1048576 b):∃ v,Eg p s xs l r b=some v/\Fu p s xs l r b=some v:=by
 unfold Eg Fu;have ⟨nm,n1,n2⟩:=Amz s;have ⟨q,hq,hm⟩:=Apn xs;rw[Ad7,obs,n1,n2,obs,Aml xs p hx,X7 xs p hx,S8 xs hx,Ae7 p l r b hb hr,Ai6 p l r b hb hr,hq];cases ht:tyV xs with
 | none=>
  refine ⟨false,rfl,?_⟩;cases nm
  ·rfl
  rw[Option.isSome_none,Bool.false_and,Bool.and_false,Bool.false_and];rfl
 | some w=>
  rw[ht]at hm;dsimp only at hm;subst hm;rw[Option.isSome_some,Bool.true_and];dsimp only;cases nm
  ·exact ⟨false,rfl,rfl⟩
  generalize isF p=a1;generalize Is p xs=a2;generalize U1 xs=a3;generalize On p l r b=a4
  have e:([w.1,w.2]==[l,r])=cond (l==w.1) (r==w.2) false:=by
   have c1:(w.1==l)=(l==w.1):=Bool.beq_comm;have c2:(w.2==r)=(r==w.2):=Bool.beq_comm;show (w.1==l&&(w.2==r&&(([]:List Int)==[])))=_;rw[c1,c2];cases l==w.1 <;> cases r==w.2 <;> rfl
  simp only[obs,e];cases a1 <;> cases a2 <;> cases a3 <;> cases a4 <;> cases l==w.1 <;> cases r==w.2 <;> exact ⟨_,rfl,rfl⟩
theorem Ag0(xs:List Nd)(hx:xs.length<=1073741824):Mn xs=some xs:=by
 unfold Mn;rw[Af oM]
 have h:Aq (fun s_:Nat×List Nd=>Ir xs s_.1 s_.2) 4611686018427387904 (0,replicate xs.length ((0,0,(⟨#[]⟩:ByteArray)):Nd))=some xs:=by
  refine Bg xs.length (fun i=>(i,xs.take i++replicate (xs.length - i) ((0,0,(⟨#[]⟩:ByteArray)):Nd))) oM xs fS (fun i hi=>?_) ?_
  ·have hx:=gEg hi
   try dsimp only
   unfold Ir Rh;rw[fH oM,hx,obs,obs,Aa2 hi,obs,Af oM,Zs hx]
  ·try dsimp only
   unfold Ir;rw[fJ oM];simp
 rw[h];rfl
theorem Ah0(xs:List Nd)(hx:xs.length<=1073741824):Mc xs xs=some true:=by
 unfold Mc;rw[bne_self_eq_false,fY]
 have h:Aq (fun s_:Nat=>Iw xs xs s_) 4611686018427387904 0=some (Ctl.next ()):=by
  refine Bg xs.length (fun i=>i) oM _ rfl (fun i hi=>?_) ?_
  ·have hx:=gEg hi
   try dsimp only
   unfold Iw Rb;rw[fH oM,hx,obs,obs,bne_self_eq_false,fY,bne_self_eq_false,fY,beq_self_eq_true,fD,fY,obs,fD,fY,Af oM]
  ·try dsimp only
   unfold Iw;rw[fJ oM]
 rw[h];rfl
theorem Ah1(xs:List Nd){v:Int}(hv:0<=v/\v<=1048576)(hx:xs.length<=9223372036854775807)(hs:∀ n∈xs,n.2.2.size<=9223372036854775807):∃ y,M2 xs v=some y/\(y<0∨(0<=y/\y<=v/\((xs.length:Nat):Int)<=v)):=by
 unfold M2;rw[Bi (n:=v - ((xs.length:Nat):Int)) oM oM];by_cases h:v - ((xs.length:Nat):Int)<0
 ·rw[Av h];exact ⟨_,rfl,.inl oM⟩
 rw[fJ h]
 have key:∃ c,Aq (fun s_:Int×Nat=>It xs s_.1 s_.2) 4611686018427387904 (v - ((xs.length:Nat):Int),0)=some c/\((∃ y,c=Ctl.next y/\0<=y/\y<=v)∨∃ y,c=Ctl.out y/\y<0):=by
  refine Jd (Post:=fun c=>(∃ y,c=Ctl.next y/\0<=y/\y<=v)∨∃ y,c=Ctl.out y/\y<0) xs.length (fun k s=>s.2=k/\0<=s.1/\s.1<=v) oM ⟨rfl,by dsimp only;omega,by dsimp only;omega⟩ ?_ ?_
  ·rintro k ⟨y,k'⟩ hk ⟨h1,h2,h3⟩;dsimp only at h1 h2 h3;subst h1;have hn:=gEg hk;have hz:=hs _<|getElem_mem hk
   try dsimp only
   unfold It Rf;rw[fH oM,hn,obs,Bi (n:=y - ((xs[k'].2.2.size:Nat):Int)) oM oM];by_cases h4:y - ((xs[k'].2.2.size:Nat):Int)<0
   ·rw[Av h4];exact .inr ⟨_,rfl,.inr ⟨_,rfl,by omega⟩⟩
   ·rw[fJ h4,obs,fJ h4,Af oM];exact .inl ⟨_,rfl,rfl,by dsimp only;omega,by dsimp only;omega⟩
  ·rintro ⟨y,k'⟩ ⟨h1,h2,h3⟩;dsimp only at h1 h2 h3;subst h1
   try dsimp only
   unfold It;rw[fJ oM];exact ⟨_,rfl,.inl ⟨_,rfl,h2,h3⟩⟩
 obtain ⟨c,hc,⟨y,rfl,h1,h2⟩|⟨y,rfl,h1⟩⟩:=key
 ·rw[hc];exact ⟨_,rfl,.inr ⟨h1,h2,by omega⟩⟩
 ·rw[hc];exact ⟨_,rfl,.inl h1⟩
theorem Agg(s:ByteArray)(xs:List Nd)(l r:Int)(b:ZA){v:Int}(hv:0<=v/\v<=1048576)(h0:s.size<=9223372036854775807)(hx:xs.length<=9223372036854775807)(hs:∀ n∈xs,n.2.2.size<=9223372036854775807)(hb:b.length<=9223372036854775807)(hr:I4 9223372036854775807 b):
  ∃ y,Hq s xs l r b v=some y/\(y<0∨(0<=y/\y<=v/\xs.length<=1048576/\b.length<=1048576/\I4 1048576 b)):=by
 unfold Hq Ia;rw[Bi (n:=v - ((s.size:Nat):Int)) oM oM];by_cases h:v - ((s.size:Nat):Int)<0
 ·rw[Av h];exact ⟨_,rfl,.inl oM⟩
 rw[fJ h];obtain ⟨y,hy,h1|⟨h1,h2,h3⟩⟩:=Ah1 xs (v:=v - ((s.size:Nat):Int)) oM hx hs
 ·rw[hy,obs,Av h1];exact ⟨_,rfl,.inl oM⟩
 ·rw[hy,obs,fJ oM,obs,fJ oM,Air l r b oM hb hr,obs];by_cases h4:szW y b<0
  ·rw[Av h4];exact ⟨_,rfl,.inl oM⟩
  ·have ⟨g1,g2,g3⟩:=A0b oM h4;rw[At h4];exact ⟨_,rfl,.inr ⟨by omega,by omega,by omega,by omega,g2⟩⟩
theorem Agh(s:ByteArray)(xs:List Nd)(l r:Int)(b:ZA)(hx:xs.length<=1048576)(hb:b.length<=1048576)(hr:I4 1048576 b):Lx s xs l r b=some (xs,b):=by
 unfold Lx Nr;rw[Ag0 xs oM,Ais l r b hb hr];rfl
theorem Ags(s:ByteArray)(xs:List Nd)(l r:Int)(b:ZA)(hx:xs.length<=1048576)(hb:b.length<=1048576)(hr:I4 1048576 b):Hp s xs l r b s xs l r b=some true:=by
 unfold Hp N1;rw[Ah0 xs oM,Yi l r b hb hr,beq_self_eq_true];rfl
end
section
theorem Ar2(A:Option Addr):A.map (·.add (0*1))=A:=by
 cases A with
 | none=>rfl
 | some a=>simp[Addr.add]
def Bs(a0_0:Int)(_:Int)(_:ZA)(a1:List Int):Option Nat:=og (0<=a0_0/\a0_0<=a1.length) (some a0_0.toNat)
def Hv(r:Nat):RV:=⟨false,[(false,[.argS 1 none 1 0 r])]⟩
theorem Fb{a0_0 a0_1:Int}{a0_2:ZA}{a1:List Int}{r:Nat}(h:Bs a0_0 a0_1 a0_2 a1=some r):Da Tryz.prog Tab 131 [.agg [.int .i64 a0_0,.int .i64 a0_1,.tree (.slice .int) a0_2],.tree .int a1] (Hv r):=by
 have ⟨hb,h⟩:=Aj h;cases h;intro w im vs hG hr;obtain ⟨u1,_,rfl,h1,u2,_,rfl,h2,h3⟩:=hr;obtain rfl:_=[]:=h3;obtain ⟨us,rfl,v1,_,rfl,e1,v2,_,rfl,e2,v3,_,rfl,e3,e4⟩:=h1;obtain rfl:_=[]:=e4;obtain rfl:v1=.int .i64 a0_0:=e1;obtain rfl:v2=.int .i64 a0_1:=e2;obtain ⟨A,c,ls,rfl,hS⟩:=h2;have hc:a1.length<=c/\c<=maxLen:=⟨hS.1,hS.2.1⟩
 go_enter Tryz.func131,Tryz.ntmps131
 go_wp2
 go_ret
 refine ⟨_,rfl,fG,[_],[],⟨A,a1.length,c,[],?_,rfl,rfl,rfl⟩,⟨trivial,fun _=>rfl⟩,rfl⟩;show [Value.slice A a0_0.toNat c]=[Value.slice (if c=0 then A else A.map (·.add<|0*1)) (a0_0.toNat - 0) (c - 0)];rw[Ar2,ite_self,Nat.sub_zero,Nat.sub_zero]
def Bq(a0_0:Int)(_:Int)(_:ZA)(a1:List Int):Option (Nat×Nat):=og (0<=a0_0/\a0_0<=a1.length) (some (a0_0.toNat,a1.length))
def Gy(r:Nat×Nat):RV:=⟨false,[(false,[.argS 1 none 1 r.1 r.2])]⟩
theorem Ev{a0_0 a0_1:Int}{a0_2:ZA}{a1:List Int}{r:Nat×Nat}(h:Bq a0_0 a0_1 a0_2 a1=some r):Da Tryz.prog Tab 130 [.agg [.int .i64 a0_0,.int .i64 a0_1,.tree (.slice .int) a0_2],.tree .int a1] (Gy r):=by
 have ⟨hb,h⟩:=Aj h;cases h;intro w im vs hG hr;obtain ⟨u1,_,rfl,h1,u2,_,rfl,h2,h3⟩:=hr;obtain rfl:_=[]:=h3;obtain ⟨us,rfl,v1,_,rfl,e1,v2,_,rfl,e2,v3,_,rfl,e3,e4⟩:=h1;obtain rfl:_=[]:=e4;obtain rfl:v1=.int .i64 a0_0:=e1;obtain rfl:v2=.int .i64 a0_1:=e2;obtain ⟨A,c,ls,rfl,hS⟩:=h2;have hc:a1.length<=c/\c<=maxLen:=⟨hS.1,hS.2.1⟩
 go_enter Tryz.func130,Tryz.ntmps130
 go_wp2
 ·subst h
  go_ret
  refine ⟨_,rfl,fG,[_],[],⟨A,a1.length,a0_0.toNat,[],?_,rfl,rfl,rfl⟩,⟨trivial,fun _=>rfl⟩,rfl⟩;show [Value.slice A (a1.length - a0_0.toNat) 0]=[Value.slice (if a0_0.toNat=a0_0.toNat then A else A.map (·.add<|a0_0.toNat*1)) (a1.length - a0_0.toNat) (a0_0.toNat - a0_0.toNat)];rw[fW rfl,Nat.sub_self]
 ·go_ret
  refine ⟨_,rfl,fG,[_],[],⟨A,a1.length,c,[],?_,rfl,rfl,rfl⟩,⟨trivial,fun _=>rfl⟩,rfl⟩;show [Value.slice (A.map (·.add a0_0.toNat)) (a1.length - a0_0.toNat) (c - a0_0.toNat)]=[Value.slice (if c=a0_0.toNat then A else A.map (·.add<|a0_0.toNat*1)) (a1.length - a0_0.toNat) (c - a0_0.toNat)];rw[fB h,Nat.mul_one]
theorem Ag4{t:Ty}{xs:List t.D}{sz l h:Nat}(h1:t.size=sz)(h2:l<=h)(h3:h<=xs.length):AV.part sz l h (.tree t xs)=.tree t ((xs.take h).drop l):=fW ⟨h1,h2,h3⟩
theorem Hm{a0_0 a0_1:Int}{a0_2:ZA}{a1:List Int}{r:Nat}(h:Bs a0_0 a0_1 a0_2 a1=some r){mk:Nat->Oid}{x:AV}:(Hv r).out mk [x,.tree .int a1]=(.tree .int (a1.take r),[]):=by
 have ⟨hb,h⟩:=Aj h;cases h;have e:=Ag4 (t:=.int) (xs:=a1) (sz:=1) rfl (Nat.zero_le a0_0.toNat) (show a0_0.toNat<=a1.length by omega);rw[drop_zero]at e;exact congrArg (fun z=>(z,([]:OL))) e
theorem Gw{a0_0 a0_1:Int}{a0_2:ZA}{a1:List Int}{r:Nat×Nat}(h:Bq a0_0 a0_1 a0_2 a1=some r){mk:Nat->Oid}{x:AV}:(Gy r).out mk [x,.tree .int a1]=(.tree .int (a1.drop r.1),[]):=by
 have ⟨hb,h⟩:=Aj h;cases h;have e:=Ag4 (t:=.int) (xs:=a1) (sz:=1) rfl (show a0_0.toNat<=a1.length by omega)<|fQ a1.length;rw[take_length]at e;exact congrArg (fun z=>(z,([]:OL))) e
theorem Aj8{R:NP}{t:Ty}{xs:List t.D}{sz l h:Nat}(h1:t.size=sz)(h2:l<=h)(h3:h<=xs.length):AV.part sz l h (.ftr R t xs)=.ftr R t ((xs.take h).drop l):=fW ⟨h1,h2,h3⟩
theorem Sn{a0_0 a0_1:Int}{a0_2:ZA}{a1:List Int}{r:Nat}(h:Bs a0_0 a0_1 a0_2 a1=some r){R:NP}{mk:Nat->Oid}{x:AV}:(Hv r).out mk [x,.ftr R .int a1]=(.ftr R .int (a1.take r),[]):=by
 have ⟨hb,h⟩:=Aj h;cases h;have e:=Aj8 (R:=R) (t:=.int) (xs:=a1) (sz:=1) rfl (Nat.zero_le a0_0.toNat) (show a0_0.toNat<=a1.length by omega);rw[drop_zero]at e;exact congrArg (fun z=>(z,([]:OL))) e
theorem Ri{a0_0 a0_1:Int}{a0_2:ZA}{a1:List Int}{r:Nat×Nat}(h:Bq a0_0 a0_1 a0_2 a1=some r){R:NP}{mk:Nat->Oid}{x:AV}:(Gy r).out mk [x,.ftr R .int a1]=(.ftr R .int (a1.drop r.1),[]):=by
 have ⟨hb,h⟩:=Aj h;cases h;have e:=Aj8 (R:=R) (t:=.int) (xs:=a1) (sz:=1) rfl (show a0_0.toNat<=a1.length by omega)<|fQ a1.length;rw[take_length]at e;exact congrArg (fun z=>(z,([]:OL))) e
section
variable{n:Nat}{d:Option Nat}{f:TF}{ob:OF}
theorem Az9{y:Opd}{R:NP}{t:Ty}{ys:List t.D}(h:y.ev f=.ftr R t ys):Wv ob t (y.ev f)=some (ys.length,tvC (some R) t ys):=by
 rw[h];simp only[Wv,Ty.eq?_self,Cx];rfl
theorem Ap4{y:Opd}{t:Ty}{ys:List t.D}(h:y.ev f=.tree t ys):Wv ob t (y.ev f)=some (ys.length,tvC none t ys):=by
 have e:t.avM none=t.av:=by
  funext x
  have key:∀(t:Ty) (x:t.D),t.avM none x=t.av x:=by
   intro t
   induction t with
   | pair a b i1 i2=>intro x;simp only[Ty.avM,Ty.av,i1,i2]
   | _=>intro x;rfl
  exact key t x
 rw[h];simp only[Wv,Ty.eq?_self,Cx,tvC,e]
theorem Aos{x y:Opd}{o:Oid}{e1:TypeId}{t t':Ty}{b len N:Nat}{m:Option NP}{xs ys:List t.D}(hx:x.ev f=.own o t' 0 len)(hob:ob o=some (.vec e1 t.size N (tvC m t xs)))(hl:len=xs.length)(hN:N=xs.length)(hy:Wv ob t (y.ev f)=some (ys.length,tvC m t ys))(h:len+ys.length<=1073741824/\(len+ys.length)*b<=140737488355328):
  Bd n ⟨d,none,.appV e1 t b x y⟩ f ob=some (2,.own (o.1,n) t 0 (len+ys.length),[(o,none),((o.1,n),some (.vec e1 t.size (len+ys.length) (tvC m t (xs++ys))))]):=by
 subst hl hN;have h1:List.take (xs.length*t.size) (tvC m t xs)=tvC m t xs:=take_of_length_le (by rw[Pi];exact fQ _);simp only[Bd,ev,Ms,hx,hy,hob,true_and,fQ,if_true,h1,h.1,h.2,and_self,Aci]
end
def Wb:List (Oid×Option Ob)->Oid->List Oid->Option (Ob×List Oid)
 | [],_,_=>none
 | (j,o) :: r,p,L=>match o with
  | some (.pool e u xss)=>if p.1.1=j.1.1/\p.2=j.2 then some (.pool e u xss,L) else Wb r p L
  | none=>if p.1.1=j.1.1/\p.2=j.2/\j.1.2≠0 then Wb r p (j :: L) else Wb r p L
  | some _=>if p.1.1=j.1.1/\p.2=j.2/\j.1.2≠0 then none else Wb r p L
theorem Rx{e:TypeId}{u:Ty}{xss:List (List u.D)}{p:Oid}{L':List Oid}:∀{ol:OL} {L:List Oid},Wb ol p L=some (.pool e u xss,L')->(∀ x∈L,x∈L')/\∀ k,kid p k∉L'->Im ol (kid p k)=(xss[k]?).map (.arr e u)
 | [],_,h=>by cases h
 | (j,o) :: r,L,h=>by
  have hk:∀ k,¬ (p.1.1=j.1.1/\p.2=j.2/\j.1.2≠0)->kid p k≠j:=fun k hn ej=>hn (by subst ej;exact ⟨rfl,rfl,by simp[kid]⟩)
  cases o with
  | none=>
   simp only[Wb]at h;split at h
   ·have ⟨i1,i2⟩:=Rx h;refine ⟨fun x hx=>i1 x (mem_cons_of_mem _ hx),fun k hkn=>?_⟩;simp only[Im];rw[fB (fun e=>hkn (by rw[e];exact i1 _ mem_cons_self))];exact i2 k hkn
   next hn=>have ⟨i1,i2⟩:=Rx h;refine ⟨i1,fun k hkn=>?_⟩;simp only[Im];rw[fB (hk k hn)];exact i2 k hkn
  | some o=>
   cases o with
   | pool e' u' xss' =>
    simp only[Wb]at h;split at h
    next hc=>obtain ⟨h1,rfl⟩:=Prod.mk.inj (osj h);obtain ⟨rfl,rfl,he⟩:=Ob.pool.inj h1;obtain rfl:=eq_of_heq he;refine ⟨fun _ hx=>hx,fun k _=>?_⟩;simp only[Im];rw[fW ⟨by simpa [kid] using hc.1,by simpa [kid] using hc.2,by simp[kid]⟩];simp[kid]
    next hc=>have ⟨i1,i2⟩:=Rx h;refine ⟨i1,fun k hkn=>?_⟩;simp only[Im];rw[fB (fun h'=>hc ⟨h'.1,h'.2.1⟩)];exact i2 k hkn
   | _=>
    simp only[Wb]at h;split at h
    ·cases h
    next hn=>have ⟨i1,i2⟩:=Rx h;refine ⟨i1,fun k hkn=>?_⟩;simp only[Im];rw[fB (hk k hn)];exact i2 k hkn
theorem As1{e:TypeId}{u:Ty}{xss:List (List u.D)}{p:Oid}{L:List Oid}{ol:OL}(h:Wb ol p []=some (.pool e u xss,L)){k:Nat}{row:List u.D}(hk:kid p k∉L)(hx:xss[k]? =some row):Am ol (kid p k)=some (.arr e u row):=by
 rw[L7,(Rx h).2 k hk,hx];rfl
theorem Aeq{G:WP}{tl:TL}{ol:OL}{g:Nat}(s:Nat)(o p q:Oid){e1 e:TypeId}{u:Ty}{xss:List (List u.D)}{j n len:Nat}{row ys:List u.D}(hfl:u.flat=true)(ho:Am ol o=some (.vec e1 1 n ((hdL p u xss).set j (.own q u 0 len))))(hn:n=xss.length)(hp:Wb ol p []=some (.pool e u xss,[kid p j]))(hq:Im ol q=some (.arr e u ys))(hl:len<=ys.length)(hr:row=ys.take len)
  (hqp:(q.1.1==p.1.1&&q.2==p.2&&q.1.2 !=0)=false) (hog:(o.2==g)=false) (hfr:P4 g ((q,none) :: (p,some (.pool e u [])) :: ol)=true):
  WeakG G ⟨Ap tl,Am ol,g⟩ ⟨Ap tl,Am ((o,some (.mat e1 ((s,0),g) u (xss.set j row))) :: (((s,0),g),some (.pool e u (xss.set j row))) :: (q,none) :: (p,some (.pool e u [])) :: ol),g+1⟩:=by
 have ⟨r1,r2,r3⟩:=Aen hl hr;have hqk:∀ k,q≠kid p k:=fun k e=>by rw[e]at hqp;simp[kid]at hqp
 have hq':Am ol q=some (.arr e u ys):=by rw[L7,hq];rfl
 refine Ll s o (fun k=>if k=j then q else kid p k) [(q,none),(p,some<|.pool e u [])] hfl ho (by rw[length_set];exact hn) (fun k row' hk=>?_) (fun a b ha hb hab=>?_) hog hfr fun i _=>?_
 ·rw[getElem?_set]at hk ⊢;by_cases h:j=k
  ·subst h;rw[fW rfl]at hk ⊢;split at hk
   next hlt=>cases hk;rw[Dy,fW hlt,fW rfl,r1];exact ⟨rfl,ys,hq',hl,hr⟩
   ·cases hk
  ·rw[fB h]at hk ⊢;rw[Fx,hk,fB (fun e=>h e.symm)];exact ⟨rfl,row',As1 hp (fun hm=>h (Gr<|mem_singleton.1 hm).symm) hk,fQ _,(take_length).symm⟩
 ·by_cases h1:a=j <;> by_cases h2:b=j
  ·rw[h1,h2]
  ·rw[fW h1,fB h2]at hab;exact absurd hab<|hqk b
  ·rw[fB h1,fW h2]at hab;exact absurd hab.symm<|hqk a
  ·rw[fB h1,fB h2]at hab;exact Gr hab
 ·simp only[cons_append,nil_append,L3];by_cases h1:i=q
  ·rw[fW h1];exact .inl rfl
  ·rw[fB h1,Ng];split
   ·exact .inl rfl
   ·rename_i h2;refine .inr ⟨rfl,fun k _=>?_⟩;split
    ·exact h1
    ·intro e;exact h2 (by rw[e];exact ⟨rfl,rfl,by simp[kid]⟩)
theorem Al1{q:Oid}{e:TypeId}{u:Ty}{xs:List u.D}{r:OL}:Im ((q,some (.arr e u xs)) :: r) q=some (.arr e u xs):=by simp[Im]
theorem Afi{α:Type}{g:LA->Option α}{sz n:Nat}{d:LA}{ys:List α}(hd:Ki g sz n d=some ys):∀{m:Nat} {c:LA} {xs:List α},c.length=m*sz->Ki g sz m c=some xs->Ki g sz (m+n) (c++d)=some (xs++ys)
 | 0,c,xs,hc,h=>by
  obtain rfl:c=[]:=eq_nil_of_length_eq_zero oM;simp only[Ki,fV]at h;subst h
  simpa using hd
 | m+1,c,xs,hc,h=>by
  have hl:sz<=c.length:=by rw[hc,Nat.succ_mul];omega
  rw[show m+1+n=(m+n)+1 by omega];simp only[Ki]at h ⊢;rw[take_append_of_le_length hl,drop_append_of_le_length hl];cases h1:g (c.take sz) with
  | none=>rw[h1]at h;cases h
  | some x=>
   rw[h1]at h;cases h2:Ki g sz m (c.drop sz) with
   | none=>rw[h2]at h;cases h
   | some zs=>
    rw[h2]at h;cases h;rw[Afi hd (m:=m) (c:=c.drop sz) (xs:=zs) (by rw[length_drop,hc,Nat.succ_mul];omega) h2];rfl
theorem Azm{n:Nat}{ob:OF}{o p:Oid}{e1 e:TypeId}{u:Ty}{m:Option NP}{xss ys:List (List u.D)}{len N:Nat}(ho:ob o=some (.vec e1 1 N (hdL p u xss++tvC m (.slice u) ys)))(hk:∀ k row,xss[k]? =some row->ob (kid p k)=some (.arr e u row))(hN:N=xss.length+ys.length)(hl:len=N):gnd ob (n+1) (.own o (.slice u) 0 len)=some (.tree (.slice u) (xss++ys)):=by
 subst hl hN
 have h1:Ki (rdC ob<|.slice u) 1 xss.length (hdL p u xss)=some xss:=by
  have:=Tf (g:=rdC ob<|.slice u) (cs:=hdL p u xss) (xs:=xss) (by rw[Dy]) (fun k c x hc hx=>by
   rw[Fx,hx]at hc;cases hc;have:=hk _ x hx;simp only[rdC,E6,this,fE,fQ,if_true,Ty.eq?_self,Cx,drop_zero,take_length])
  exact this
 have h2:Ki (rdC ob<|.slice u) 1 ys.length (tvC m (.slice u) ys)=some ys:=Aav (t:=.slice u) ys;have h3:=Afi h2 (m:=xss.length) (by rw[Dy,Nat.mul_one]) h1
 have key:Ab2 ob 1 (rdC ob<|.slice u) (.own o (.slice u) 0<|xss.length+ys.length)=some (xss++ys):=by
  simp only[Ab2,ho];rw[fW ⟨trivial,by omega⟩,Nat.zero_mul,drop_zero,take_of_length_le (by simp only[length_append,Dy,Pi,Ty.size];omega)];exact h3
 simp only[gnd,ho,Ty.size,key,Option.map_some]
section
variable{n:Nat}{d:Option Nat}{f:TF}{ob:OF}
theorem Av9{x y:Opd}{o p:Oid}{e1:TypeId}{u t':Ty}{b len N:Nat}{m:Option NP}{xss ys:List (List u.D)}(hx:x.ev f=.own o t' 0 len)(hob:ob o=some (.vec e1 1 N (hdL p u xss)))(hN:N=xss.length)(hl:len=N)(hy:Wv ob (.slice u) (y.ev f)=some (ys.length,tvC m (.slice u) ys))(h:len+ys.length<=1073741824/\(len+ys.length)*b<=140737488355328):
  Bd n ⟨d,none,.appV e1 (.slice u) b x y⟩ f ob=some (2,.own (o.1,n) (.slice u) 0 (len+ys.length),[(o,none),((o.1,n),some (.vec e1 1 (len+ys.length) (hdL p u xss++tvC m (.slice u) ys)))]):=by
 subst hl hN;have h1:List.take (xss.length*1) (hdL p u xss)=hdL p u xss:=by rw[Nat.mul_one];exact take_of_length_le (by rw[Dy];exact fQ _)
 simp only[Bd,ev,Ms,hx,hy,hob,Ty.size,true_and,fQ,if_true,h1,h.1,h.2,and_self]
end
section
variable{P:Program}{G:WP}(hfol:P.follows .mixedOrders=true){g:FuncId}{fn:Func}(hf:P.funcs[g]? =some fn){ac:AC}{rs:List Res}(hc:C2 P fn=some (ac,rs)){args:LA}{r:RV}{n:Nat}
include hfol hf hc
end
section
variable{C:OC}{im:NP}{w:World}{U:Oid->Oid}{t:Ty}{xs:List t.D}
end
theorem Axd{a b:OF}{C:OC}(h:∀ x,(∃ o,a x=some o)↔∃ o,b x=some o):imm a C=imm b C:=by
 funext c;refine propext ⟨fun H i o cp s hi=>?_,fun H i o cp s hi=>?_⟩
 ·have ⟨o',h'⟩:=(h i).2 ⟨o,hi⟩;exact H i o' cp s h'
 ·have ⟨o',h'⟩:=(h i).1 ⟨o,hi⟩;exact H i o' cp s h'
section
variable{ob:OF}{n:Nat}{k:Oid}{c:AV}{cs:LA}
end
end
end Go.Proofs.YthlpchhhinipaaaGreatDoor
