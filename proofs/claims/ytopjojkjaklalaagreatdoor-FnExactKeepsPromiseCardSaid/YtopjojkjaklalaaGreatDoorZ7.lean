/- Lemmas on the program and on partial functions that stand in place of its code (part 7); no condition beyond those that each one states. -/
import Derived.Test.YtopjojkjaklalaaGreatDoorZ6
import Derived.WalkKit
import Derived.LaidEql
import Derived.Stop.Asserts
import Derived.RowKitTokens
import Derived.Laws.Cells
import Derived.Laws.IdiomCopy
import Derived.BigQuiet
import Derived.Deep.RegionHeld3
import Derived.Laws.Strings
import Derived.KernelRfl
namespace Go.Proofs.YtopjojkjaklalaaGreatDoor
section
open Go.RowKit Go.Deep Go.Extern.Stop Go.Stop Go.Extern
theorem Agp (v:Value) (w:World):(Extern.ReflectliteType.typeOf #[.iface 219 v]).run Tryz.prog w=.ok (.iface 130 (.agg #[.pointer (some ⟨3,219,none⟩)])) w:=by kernel_rfl
theorem X2 (w:World):(callFunc 196 #[.agg #[.pointer (some ⟨3,219,none⟩)]]).run Tryz.prog w=.ok (.value (.bool true)) w:=by kernel_rfl
theorem Abl (v:Value) (w:World):(Go.method 353 130 v "Comparable").run Tryz.prog w=.ok (196,v) w:=by kernel_rfl
theorem Amw:(Tryz.prog.info? 219).map (·.comparable)=some true:=by kernel_rfl
theorem Alz:(Tryz.prog.info? 241).map (·.size)=some 1:=by kernel_rfl
theorem Ant (v:Value) (xT:TypeId) (w:World):(Instr.typeAssert (.iface 63 v) xT 132 true).run Tryz.prog w=.ok (.tuple #[.iface 63 v,.bool true]) w:=run_typeAssert_hasB Tryz.underlying132 (by kernel_rfl) v xT w
theorem Avj (v:Value) (w:World):(Go.method 353 63 v "Is").run Tryz.prog w=.ok (190,v) w:=by kernel_rfl
theorem Aqi {w:World} {p:Addr} {u:Value} (h:w.cell? p=some u) (o:Obj):(w.alloc o).cell? p=some u:=(World.cell?_alloc_lt _ _ _ (World.block_lt_of_cell? w p h)).trans h
set_option maxRecDepth 10000 in
theorem Aul (a c:Value) (p:Addr) (w:World) (hg:w.cell? ⟨0,0,none⟩=some (.iface 219 (.pointer (some p)))) :
  Calls Tryz.prog 190 #[.agg #[a,c],.iface 219 (.pointer (some p))] w fun e w'=>e=.returned (.bool true)/\Below w.heap.size w w':=by
 obtain ⟨i,hi,hcmp⟩:=oms.1 Amw;obtain ⟨j,hj,hjs⟩:=oms.1 Alz;have heq:=run_eql_iface_ptr_same (P:=Tryz.prog) (w.alloc (.cells #[a,c] 63)) p Tryz.underlying55 Tryz.underlying219 hi hcmp hj;have hg2:=Aqi hg (.cells #[a,c] 63)
 go_enter Tryz.func190,Tryz.ntmps190
 go_wp2
 go_ret
 exact ⟨rfl,by repeat (first|with_reducible exact Below.refl _ _|((with_reducible refine Below.setCell ?_ ?_ _);rotate_left;focus (first|(simp;done)|omega|(simp;omega)))|((with_reducible refine Below.alloc ?_ ?_ _);rotate_left;focus (first|(simp;done)|omega|(simp;omega)))|(with_reducible refine Below.drew ?_)|(with_reducible refine below_draws_ ?_ _))⟩
set_option maxRecDepth 10000 in
theorem Av5 (a c:Value) (p:Addr) (w:World) (hg:w.cell? ⟨0,0,none⟩=some (.iface 219 (.pointer (some p)))) :
  Calls Tryz.prog 23 #[.iface 63 (.agg #[a,c]),.iface 219 (.pointer (some p))] w fun e w'=>e=.returned (.bool true)/\Below w.heap.size w w':=by
 have h24:= @run_callFunc_extern Tryz.prog 47 _ Extern.ReflectliteType.typeOf Tryz.func47 (by kernel_rfl) (by kernel_rfl) (by kernel_rfl) (by kernel_rfl);have tT:=Agp;have cT:=X2;have mR:=Abl;have nE:=Ant;have mI:=Avj;have hty:=run_eql_iface_types (P:=Tryz.prog) 63 219 (.agg #[a,c]) (.pointer (some p)) Tryz.underlying55 (by decide) w
 go_enter Tryz.func23,Tryz.ntmps23
 go_wp2
 refine wp_loop_rounds 1 ?_;rw [rounds_succ]
 go_wp2_with (go_at_call 190;refine (Aul a c p _ hg).mono ?_;rintro e w1 ⟨rfl,hb⟩)
 go_ret
 exact ⟨rfl,hb⟩
theorem Al6 (p:Addr) (w:World):Calls Tryz.prog 23 #[.nilIface,.iface 219 (.pointer (some p))] w fun e w'=>e=.returned (.bool false)/\Below w.heap.size w w':=by
 have hn:=run_eql_iface_nil_left (P:=Tryz.prog) w 219 (.pointer (some p)) Tryz.underlying55
 go_enter Tryz.func23,Tryz.ntmps23
 go_wp2
 go_ret
 exact ⟨rfl,Below.refl _ _⟩
def D5 (a0:Int) (a1_0:ByteArray) (a1_1:List (Int×Int×ByteArray)) (a1_2:Int) (a1_3:Int) (a1_4:List (List Int)):Option (Bool×Bool) :=
 Option.bind (F7 a0 a1_0 a1_1 a1_2 a1_3 a1_4) fun y =>
 cond (!y)
 (some (false,false))
 (Option.bind (Kj a0 a1_0 a1_1 a1_2 a1_3 a1_4) fun b=>some (!b,true))
def Ma (r:Bool×Bool):RV:=⟨true,[(false,[.sc (.bool r.1)]),(false,[.sc (.bool r.2)])]⟩
theorem Au6 {a0 l r:Int} {nm:ByteArray} {A B:Option Addr} {n1 c1 n2 c2:Nat} {w:World} {y b:Bool} (hT:Tab w)
  (h1:∀ w',Below w.heap.size w w'->Calls Tryz.prog 22 #[.int .i64 a0,.agg #[.string nm,.slice A n1 c1,.int .i64 l,.int .i64 r,.slice B n2 c2]] w' fun e w2=>e=.returned (.bool y)/\Below w'.heap.size w' w2)
  (h2:y=true->∀ w',Below w.heap.size w w'->Calls Tryz.prog 24 #[.int .i64 a0,.agg #[.string nm,.slice A n1 c1,.int .i64 l,.int .i64 r,.slice B n2 c2]] w' fun e w2=>((b=false/\e=.returned .nilIface)∨(b=true/\∃ x z,e=.returned (.iface 63 (.agg #[x,z]))))/\Below w'.heap.size w' w2) :
  Calls Tryz.prog 8 #[.int .i64 a0,.agg #[.string nm,.slice A n1 c1,.int .i64 l,.int .i64 r,.slice B n2 c2]] w fun e w'=>e=.returned (.tuple #[.bool (y&& !b),.bool y])/\Below w.heap.size w w':=by
 obtain ⟨-,p,hg⟩:=hT;have hb0:Below w.heap.size w (w.alloc (.cells #[.string nm,.slice A n1 c1,.int .i64 l,.int .i64 r,.slice B n2 c2] 38)):=(by repeat (first|with_reducible exact Below.refl _ _|((with_reducible refine Below.setCell ?_ ?_ _);rotate_left;focus (first|(simp;done)|omega|(simp;omega)))|((with_reducible refine Below.alloc ?_ ?_ _);rotate_left;focus (first|(simp;done)|omega|(simp;omega)))|(with_reducible refine Below.drew ?_)|(with_reducible refine below_draws_ ?_ _)))
 cases y
 ·go_enter Tryz.func8,Tryz.ntmps8
  go_wp2_with (go_at_call 22;refine (h1 _ hb0).mono ?_;rintro e w1 ⟨rfl,hb1⟩)
  go_ret2
  exact ⟨rfl,hb0.trans (hb1.mono hb0.size)⟩
 cases b
 ·have h3:∀ w',Below w.heap.size w w'->Calls Tryz.prog 24 #[.int .i64 a0,.agg #[.string nm,.slice A n1 c1,.int .i64 l,.int .i64 r,.slice B n2 c2]] w' fun e w2=>e=.returned .nilIface/\Below w'.heap.size w' w2:=fun w' hb=>(h2 rfl w' hb).mono fun e w2 h=>⟨by rcases h.1 with h|h;exact h.2;exact absurd h.1 (by decide),h.2⟩
  go_enter Tryz.func8,Tryz.ntmps8
  go_wp2_with (go_at_call 22;refine (h1 _ hb0).mono ?_;rintro e w1 ⟨rfl,hb1⟩)
  have bA:Below w.heap.size w w1:=hb0.trans (hb1.mono hb0.size);have k0:=A1 bA hg;have k1:=A1 hb1 (p:=⟨w.heap.size,0,none⟩) (u:=.string nm) (by simp);have k2:=A1 hb1 (p:=⟨w.heap.size,1,none⟩) (u:=.slice A n1 c1) (by simp);have k3:=A1 hb1 (p:=⟨w.heap.size,2,none⟩) (u:=.int .i64 l) (by simp);have k4:=A1 hb1 (p:=⟨w.heap.size,3,none⟩) (u:=.int .i64 r) (by simp);have k5:=A1 hb1 (p:=⟨w.heap.size,4,none⟩) (u:=.slice B n2 c2) (by simp)
  go_region_held3 (fun w'=>Below w1.heap.size w1 w'/\w'.cell? ⟨0,0,none⟩=some (.iface 219 (.pointer (some p)))/\w'.cell? ⟨w.heap.size,0,none⟩=some (.string nm)/\w'.cell? ⟨w.heap.size,1,none⟩=some (.slice A n1 c1)/\w'.cell? ⟨w.heap.size,2,none⟩=some (.int .i64 l)/\w'.cell? ⟨w.heap.size,3,none⟩=some (.int .i64 r)/\w'.cell? ⟨w.heap.size,4,none⟩=some (.slice B n2 c2))
   (first|(go_split_ands;exact ⟨Below.trans (by assumption) (hb3.mono (Below.size (by assumption))),A1 hb3 (by assumption),A1 hb3 (by assumption),A1 hb3 (by assumption),A1 hb3 (by assumption),A1 hb3 (by assumption),A1 hb3 (by assumption)⟩)|(go_split_ands;exact ⟨Below.trans (by assumption) (hb4.mono (Below.size (by assumption))),A1 hb4 (by assumption),A1 hb4 (by assumption),A1 hb4 (by assumption),A1 hb4 (by assumption),A1 hb4 (by assumption),A1 hb4 (by assumption)⟩)|exact ⟨(Below.refl _ _).drew,k0,k1,k2,k3,k4,k5⟩|go_keep)
   (first
    | (go_at_call 24;(try go_split_ands);refine (h3 _ (by exact bA.trans (Below.mono (by assumption) bA.size))).mono ?_;rintro e w3 ⟨rfl,hb3⟩)
    | (go_at_call 23;(try go_split_ands);refine (Al6 p _).mono ?_;rintro e w4 ⟨rfl,hb4⟩))
  go_wp2
  go_ret2
  exact ⟨rfl,bA.trans (Below.mono (by first|assumption|exact Below.trans (by assumption) (hb4.mono (Below.size (by assumption)))) bA.size)⟩
 ·have h3:∀ w',Below w.heap.size w w'->Calls Tryz.prog 24 #[.int .i64 a0,.agg #[.string nm,.slice A n1 c1,.int .i64 l,.int .i64 r,.slice B n2 c2]] w' fun e w2=>(∃ x z,e=.returned (.iface 63 (.agg #[x,z])))/\Below w'.heap.size w' w2:=fun w' hb=>(h2 rfl w' hb).mono fun e w2 h=>⟨by rcases h.1 with h|h;exact absurd h.1 (by decide);exact h.2,h.2⟩
  go_enter Tryz.func8,Tryz.ntmps8
  go_wp2_with (go_at_call 22;refine (h1 _ hb0).mono ?_;rintro e w1 ⟨rfl,hb1⟩)
  have bA:Below w.heap.size w w1:=hb0.trans (hb1.mono hb0.size);have k0:=A1 bA hg;have k1:=A1 hb1 (p:=⟨w.heap.size,0,none⟩) (u:=.string nm) (by simp);have k2:=A1 hb1 (p:=⟨w.heap.size,1,none⟩) (u:=.slice A n1 c1) (by simp);have k3:=A1 hb1 (p:=⟨w.heap.size,2,none⟩) (u:=.int .i64 l) (by simp);have k4:=A1 hb1 (p:=⟨w.heap.size,3,none⟩) (u:=.int .i64 r) (by simp);have k5:=A1 hb1 (p:=⟨w.heap.size,4,none⟩) (u:=.slice B n2 c2) (by simp)
  go_region_held3 (fun w'=>Below w1.heap.size w1 w'/\w'.cell? ⟨0,0,none⟩=some (.iface 219 (.pointer (some p)))/\w'.cell? ⟨w.heap.size,0,none⟩=some (.string nm)/\w'.cell? ⟨w.heap.size,1,none⟩=some (.slice A n1 c1)/\w'.cell? ⟨w.heap.size,2,none⟩=some (.int .i64 l)/\w'.cell? ⟨w.heap.size,3,none⟩=some (.int .i64 r)/\w'.cell? ⟨w.heap.size,4,none⟩=some (.slice B n2 c2))
   (first|(go_split_ands;exact ⟨Below.trans (by assumption) (hb3.mono (Below.size (by assumption))),A1 hb3 (by assumption),A1 hb3 (by assumption),A1 hb3 (by assumption),A1 hb3 (by assumption),A1 hb3 (by assumption),A1 hb3 (by assumption)⟩)|(go_split_ands;exact ⟨Below.trans (by assumption) (hb4.mono (Below.size (by assumption))),A1 hb4 (by assumption),A1 hb4 (by assumption),A1 hb4 (by assumption),A1 hb4 (by assumption),A1 hb4 (by assumption),A1 hb4 (by assumption)⟩)|exact ⟨(Below.refl _ _).drew,k0,k1,k2,k3,k4,k5⟩|go_keep)
   (first
    | (go_at_call 24;(try go_split_ands);refine (h3 _ (by exact bA.trans (Below.mono (by assumption) bA.size))).mono ?_;rintro e w3 ⟨⟨x,z,rfl⟩,hb3⟩)
    | (go_at_call 23;(try go_split_ands);refine (Av5 _ _ p _ (by assumption)).mono ?_;rintro e w4 ⟨rfl,hb4⟩))
  go_wp2
  go_ret2
  exact ⟨rfl,bA.trans (Below.mono (by first|assumption|exact Below.trans (by assumption) (hb4.mono (Below.size (by assumption)))) bA.size)⟩
theorem Ahr {σ:Oid->Option Loc} {im:Nat->Prop} {w w':World} (hb:Below w.heap.size w w'):Later σ σ im im w w':=⟨fun _ _ h=>h,fun _ _ h=>h,fun b hlt _=>hb.block b hlt,hb.size⟩
theorem Rr {a0:Int} {a1_0:ByteArray} {a1_1:List (Int×Int×ByteArray)} {a1_2:Int} {a1_3:Int} {a1_4:List (List Int)} {r:Bool×Bool} (h:D5 a0 a1_0 a1_1 a1_2 a1_3 a1_4=some r):Cd Tryz.prog Tab 8 [ai a0,.agg [.str a1_0,.tree (.pair .int (.pair .int .str)) a1_1,ai a1_2,ai a1_3,.tree (.slice .int) a1_4]] (Ma r):=by
 unfold D5 at h;obtain ⟨y,hy,h⟩:=Ah h;intro w im vs hG hr;have hr0:=hr;obtain ⟨u1,_,rfl,h1,u2,_,rfl,h2,h3⟩:=hr;obtain rfl:_=[]:=h3;obtain rfl:u1=.int .i64 a0:=h1;obtain ⟨us,rfl,v1,_,rfl,e1,v2,_,rfl,e2,v3,_,rfl,e3,v4,_,rfl,e4,v5,_,rfl,e5,e6⟩:=h2;obtain rfl:_=[]:=e6;obtain rfl:v1=.string a1_0:=e1;obtain ⟨A,c1,l1,rfl,s1⟩:=e2;obtain rfl:v3=.int .i64 a1_2:=e3;obtain rfl:v4=.int .i64 a1_3:=e4;obtain ⟨B,c2,l2,rfl,s2⟩:=e5
 have g1:∀ w',Below w.heap.size w w'->Calls Tryz.prog 22 #[.int .i64 a0,.agg #[.string a1_0,.slice A a1_1.length c1,.int .i64 a1_2,.int .i64 a1_3,.slice B a1_4.length c2]] w' fun e w2=>e=.returned (.bool y)/\Below w'.heap.size w' w2:=fun w' hb=>by
  refine (Su hy w' im _ (fun w2 hb2=>hG w2 (hb.trans (hb2.mono hb.size))) (AV.RepL.later (Ahr hb) _ _ hr0)).mono ?_;rintro e w2 ⟨u,rfl,hb2,us,ls,k1,_,rfl⟩;obtain ⟨u1,us1,rfl,k2,_,rfl,rfl⟩:=k1;obtain rfl:u1=.bool y:=k2;exact ⟨rfl,hb2⟩
 have key:∀ b:Bool,(y=true->Kj a0 a1_0 a1_1 a1_2 a1_3 a1_4=some b)->r=(y&& !b,y)->Calls Tryz.prog 8 #[.int .i64 a0,.agg #[.string a1_0,.slice A a1_1.length c1,.int .i64 a1_2,.int .i64 a1_3,.slice B a1_4.length c2]] w fun e w'=>∃ u,e=.returned u/\Below w.heap.size w w'/\(Ma r).Rep w.heap.size im [.int .i64 a0,.agg #[.string a1_0,.slice A a1_1.length c1,.int .i64 a1_2,.int .i64 a1_3,.slice B a1_4.length c2]] w' u:=fun b hb hrb=>by
  subst hrb;refine (Au6 (b:=b) (hG w (Below.refl _ _)) g1 (fun hy' w' hbw=>?_)).mono ?_
  ·refine (Acj (hb hy') w' im _ (fun w2 hb2=>hG w2 (hbw.trans (hb2.mono hbw.size))) (AV.RepL.later (Ahr hbw) _ _ hr0)).mono ?_;rintro e w2 ⟨u,rfl,hb2,us,ls,k1,_,rfl⟩;obtain ⟨u1,us1,rfl,k2,_,rfl,rfl⟩:=k1;refine ⟨?_,hb2⟩;rcases k2 with ⟨rfl,rfl⟩|⟨rfl,t,u,rfl,k3⟩
   ·exact .inl ⟨rfl,rfl⟩
   ·obtain ⟨rfl,k4,_⟩:=k3 _ _ rfl;obtain ⟨us,hl,rfl⟩:=k4 _ rfl
    match us,hl with
    | [x,z],_=>exact .inr ⟨rfl,x,z,rfl⟩
  ·rintro e w' ⟨rfl,hb⟩;exact ⟨_,rfl,hb,[_,_],[],⟨_,[_],rfl,rfl,rfl,_,[],rfl,rfl,rfl,rfl,rfl⟩,⟨trivial,fun _=>rfl⟩,rfl⟩
 cases y
 ·exact key true (fun h=>by cases h) (by have h:=osj h;exact h.symm)
 ·obtain ⟨b,hb,h⟩:=Ah h;exact key b (fun _=>hb) (by have h:=osj h;exact h.symm)
end
section
open Go.RowKit Go.Deep
set_option maxRecDepth 4000
set_option maxHeartbeats 4800000
variable {bA bB bC:Int} {gA:ByteArray} {hA:List (Int×Int×ByteArray)} {dA:LL} {cA:Bool}
def C1 (a0:Int) (u0:ByteArray) (u1:List (Int×Int×ByteArray)) (u2 u3:Int) (u4:LL):Option Bool :=
 (Ge u0 u1 u2 u3 u4 1048576).bind fun y4 =>
cond (decide (y4<0))
 (some true)
 ((Dg u0 u1 u2 u3 u4).bind fun y10 =>
 (Fd a0 y10.1 y10.2.1 y10.2.2.1 y10.2.2.2.1 y10.2.2.2.2).bind fun y11 =>
 (Dg u0 u1 u2 u3 u4).bind fun y13 =>
 (D5 a0 y13.1 y13.2.1 y13.2.2.1 y13.2.2.2.1 y13.2.2.2.2).bind fun y15 =>
 (cond (y15.1 !=y11.1)
   (some true)
   (some (y15.2 !=y11.2))).bind fun u5 =>
 cond u5
  (some false)
  ((Dg u0 u1 u2 u3 u4).bind fun y23 =>
  (F5 y13.1 y13.2.1 y13.2.2.1 y13.2.2.2.1 y13.2.2.2.2 y23.1 y23.2.1 y23.2.2.1 y23.2.2.2.1 y23.2.2.2.2).bind fun y24 =>
  cond (!y24)
   (some false)
   (some true)))
theorem Mx (h:C1 bA gA hA bB bC dA=some cA):cK 3 [ai bA,.agg [.str gA,.tree Y8 hA,ai bB,ai bC,tS dA]] (Al cA):=by
 refine cO Tryz.func3 (Ae (Ae (Ab (Aa 8 (rsT 2 ?_)))));obtain ⟨y4,h4,h⟩:=Ah h;refine zc (ai y4) [] [.agg [.str gA,.tree Y8 hA,ai bB,ai bC,tS dA],ai 1048576] (Sv h4) (rsT 1 (rnW (Ab (Ae (kQ h (fun _ h=>Ae (Ac (tr_ (jS h)))) fun _ h=>skW (Ab (Aa 19 (rsT 2 ?_))))))));obtain ⟨y10,h10,h⟩:=Ah h;refine zc (.agg [.str y10.1,.tree Y8 y10.2.1,ai y10.2.2.1,ai y10.2.2.2.1,tS y10.2.2.2.2]) [] [.agg [.str gA,.tree Y8 hA,ai bB,ai bC,tS dA]] (Ip h10) ?_;obtain ⟨y11,h11,h⟩:=Ah h;refine zc (.tup [.bool y11.1,.bool y11.2]) [] [ai bA,.agg [.str y10.1,.tree Y8 y10.2.1,ai y10.2.2.1,ai y10.2.2.2.1,tS y10.2.2.2.2]] (Q9 h11) (rsT 5 (rnW (Ab (Aa 23 (rsT 1 ?_)))));obtain ⟨y13,h13,h⟩:=Ah h;refine zc (.agg [.str y13.1,.tree Y8 y13.2.1,ai y13.2.2.1,ai y13.2.2.2.1,tS y13.2.2.2.2]) [] [.agg [.str gA,.tree Y8 hA,ai bB,ai bC,tS dA]] (Ip h13) (rsB 2 (rnW (Ab (Aa 31 (rsT 2 ?_)))));obtain ⟨y15,h15,h⟩:=Ah h;refine zc (.tup [.bool y15.1,.bool y15.2]) [] [ai bA,.agg [.str y13.1,.tree Y8 y13.2.1,ai y13.2.2.1,ai y13.2.2.2.1,tS y13.2.2.2.2]] (Rr h15) (rsT 5 (rnW (Ab (sqF h (fun u5=>sT [(3,.box (oi 0 1) 0),(8,.box (oi 1 1) 0),(38,.bool u5)] [(oi 0 1,.cells 29 [.str gA,.tree Y8 hA,ai bB,ai bC,tS dA]),(oi 1 1,.cells 38 [.str y13.1,.tree Y8 y13.2.1,ai y13.2.2.1,ai y13.2.2.2.1,tS y13.2.2.2.2])]) (fun _ h=>Aa 39 (rsT 4 (kR h 34 (fun _ h=>rsT 4 (Ao (tn_ (jE [(oi 0 1,oi 3 1),(oi 1 1,oi 8 21)])))) fun _ h=>rsT 4 (Ao (tn_ (jE [(oi 0 1,oi 3 1),(oi 1 1,oi 8 21)])))))) ?_))));intro u5 h;refine kQ h (fun _ h=>Ae (Ac (tr_ (jS h)))) fun _ h=>skW (Ab (Ab (An 7 (dzl (.agg [.str y13.1,.tree Y8 y13.2.1,ai y13.2.2.1,ai y13.2.2.2.1,tS y13.2.2.2.2]) (dzl (.agg [.str gA,.tree Y8 hA,ai bB,ai bC,tS dA]) ?_)))))
 obtain ⟨y23,h23,h⟩:=Ah h;refine dzc (.agg [.str y23.1,.tree Y8 y23.2.1,ai y23.2.2.1,ai y23.2.2.2.1,tS y23.2.2.2.2]) [] [.agg [.str gA,.tree Y8 hA,ai bB,ai bC,tS dA]] (Ip h23) ?_;obtain ⟨y24,h24,h⟩:=Ah h;exact dzc (.bool y24) [] [.agg [.str y13.1,.tree Y8 y13.2.1,ai y13.2.2.1,ai y13.2.2.2.1,tS y13.2.2.2.2],.agg [.str y23.1,.tree Y8 y23.2.1,ai y23.2.2.1,ai y23.2.2.2.1,tS y23.2.2.2.2]] (Sp h24) (dz0 (.bool (!y24)) (Cm (As kr) (tn_ (wr_ (kQ h (fun _ h=>Ae (Ac (tr_ (jS h)))) fun _ h=>skW (Ae (Ac (jS h))))))))
end


section
section
variable {α β σ ρ:Type}
theorem Ac0 {body:σ->Option (Ctl σ ρ)} {Post:ρ->Prop} (n:Nat) (I:Nat->σ->Prop)
  (hs:∀ i s,i<n->I i s->(∃ s',body s=some (.next s')/\I (i+1) s')∨∃ r,body s=some (.out r)/\Post r) (he:∀ s,I n s->∃ r,body s=some (.out r)/\Post r) :
  ∀ (F k:Nat) (s:σ),k<=n->n - k<F->I k s->∃ r,Ap body F s=some r/\Post r
 | 0,_,_,_,h,_=>by omega
 | F+1,k,s,hk,h,hi=>by
  have key:(∃ r,body s=some (.out r)/\Post r)->∃ r,Ap body (F+1) s=some r/\Post r:=by
   rintro ⟨r,h1,h2⟩;exact ⟨r,by simp only [Ap,h1,obs,Ctl.then],h2⟩
  rcases Nat.lt_or_ge k n with hlt|hge
  ·rcases hs k s hlt hi with ⟨s',h1,h2⟩|h
   ·obtain ⟨r,h3,h4⟩:=Ac0 n I hs he F (k+1) s' hlt oM h2;exact ⟨r,by simp only [Ap,h1,obs,Ctl.then];exact h3,h4⟩
   ·exact key h
  ·obtain rfl:k=n:=by omega
   exact key (he s hi)
theorem K6 {body:σ->Option (Ctl σ ρ)} {Post:ρ->Prop} (n:Nat) (I:Nat->σ->Prop) {F:Nat} (hn:n<F) {s0:σ} (h0:I 0 s0)
  (hs:∀ i s,i<n->I i s->(∃ s',body s=some (.next s')/\I (i+1) s')∨∃ r,body s=some (.out r)/\Post r) (he:∀ s,I n s->∃ r,body s=some (.out r)/\Post r):∃ r,Ap body F s0=some r/\Post r :=
 Ac0 n I hs he F 0 s0 (Nat.zero_le _) oM h0
theorem I1 {body:σ->Option (Ctl σ ρ)} (n:Nat) (I:Nat->σ->Prop) {F:Nat} (hn:n<F) {s0:σ} (r:ρ) (h0:I 0 s0)
  (hs:∀ i s,i<n->I i s->(∃ s',body s=some (.next s')/\I (i+1) s')∨body s=some (.out r)) (he:∀ s,I n s->body s=some (.out r)):Ap body F s0=some r:=by
 obtain ⟨r',h1,rfl⟩:=K6 (Post:=fun r'=>r'=r) n I hn h0 (fun i s hi hI=>(hs i s hi hI).imp id fun h=>⟨r,h,rfl⟩) (fun s h=>⟨r,he s h,rfl⟩);exact h1
theorem A3 {body:σ->Option (Ctl σ ρ)} (n:Nat) (S:Nat->σ) {F:Nat} (hn:n<F) {s0:σ} (r:ρ) (h0:s0=S 0) (hs:∀ i,i<n->body (S i)=some (.next (S (i+1)))) (he:body (S n)=some (.out r)):Ap body F s0=some r:=by
 subst h0;refine I1 n (fun i s=>s=S i) hn r rfl (fun i s hi e=>.inl ?_) (fun s e=>by subst e;exact he);subst e;exact ⟨_,hs i hi,rfl⟩
theorem Fv {body:Nat->Option (Ctl Nat ρ)} (xs:List α) (q:α->Bool) (good bad:ρ) {F:Nat} (hn:xs.length<F) (hs:∀ i x,xs[i]? =some x->body i=some (if q x then .next (i+1) else .out bad)) (he:body xs.length=some (.out good)):Ap body F 0=some (if xs.all q then good else bad):=by
 refine I1 xs.length (fun i s=>s=i/\(xs.take i).all q=true) hn _ ⟨rfl,by simp⟩ ?_ ?_
 ·rintro i s hi ⟨hsi,hq⟩;subst s;have hx:=gEg hi;rw [hs i _ hx];cases hc:q xs[i]
  ·refine .inr ?_
   have:xs.all q=false:=by
    rw [Bool.eq_false_iff];intro ha;rw [List.all_eq_true] at ha;rw [ha _ (List.getElem_mem hi)] at hc;cases hc
   rw [this];rfl
  ·refine .inl ⟨i+1,rfl,rfl,?_⟩;rw [List.take_add_one,List.all_append,hq,hx];simp [hc]
 ·rintro s ⟨rfl,hq⟩;rw [List.take_length] at hq;rw [he,hq];rfl
theorem Ac3 {body:Nat->Option (Ctl Nat ρ)} (xs:List α) (q:α->Bool) (none_:ρ) (g:Nat->ρ) {F:Nat} (hn:xs.length<F) (hs:∀ i x,xs[i]? =some x->body i=some (if q x then .out (g i) else .next (i+1))) (he:body xs.length=some (.out none_)) :
  (xs.any q=true/\∃ i,i<xs.length/\Ap body F 0=some (g i))∨(xs.any q=false/\Ap body F 0=some none_):=by
 have key:∃ r,Ap body F 0=some r/\((xs.any q=true/\∃ i,i<xs.length/\r=g i)∨(xs.any q=false/\r=none_)):=by
  refine K6 xs.length (fun i s=>s=i/\(xs.take i).any q=false) hn ⟨rfl,by simp⟩ ?_ ?_
  ·rintro i s hi ⟨hsi,hq⟩;subst s;have hx:=gEg hi;rw [hs i _ hx];cases hc:q xs[i]
   ·refine .inl ⟨i+1,rfl,rfl,?_⟩;rw [List.take_add_one,List.any_append,hq,hx];simp [hc]
   ·exact .inr ⟨_,rfl,.inl ⟨List.any_eq_true.2 ⟨_,List.getElem_mem hi,hc⟩,i,hi,rfl⟩⟩
  ·rintro s ⟨hsi,hq⟩;subst hsi;rw [List.take_length] at hq;exact ⟨_,he,.inr ⟨hq,rfl⟩⟩
 obtain ⟨r,h,⟨h1,i,hi,rfl⟩|⟨h1,rfl⟩⟩:=key
 ·exact .inl ⟨h1,i,hi,h⟩
 ·exact .inr ⟨h1,h⟩
theorem Dx {body:Nat×List β->Option (Ctl (Nat×List β) ρ)} (xs:List α) (f:α->β) (ys:List β) {F:Nat} (hn:xs.length<F) (r:ρ) (hs:∀ i x,xs[i]? =some x->body (i,ys++(xs.take i).map f)=some (.next (i+1,(ys++(xs.take i).map f)++[f x]))) (he:body (xs.length,ys++xs.map f)=some (.out r)):Ap body F (0,ys)=some r:=by
 refine A3 xs.length (fun i=>(i,ys++(xs.take i).map f)) hn r (by simp) (fun i hi=>?_) (by rw [List.take_length];exact he);have hx:=gEg hi;rw [hs i _ hx,List.take_add_one,hx];simp only [List.map_append,Option.toList,List.map_cons,List.map_nil,List.append_assoc]
theorem Wo {xs:List α} {d:α} {i:Nat} (h:i<xs.length):(xs.take i++List.replicate (xs.length - i) d)[i]? =some d:=by
 have h1:(xs.take i).length=i:=by rw [List.length_take];omega
 rw [List.getElem?_append_right oM,h1,Nat.sub_self,List.getElem?_replicate,if_pos oM]
theorem Vu {xs:List α} {d x:α} {i:Nat} (h:xs[i]? =some x):(xs.take i++List.replicate (xs.length - i) d).set i x=xs.take (i+1)++List.replicate (xs.length - (i+1)) d:=by
 have hi:=(gSi.1 h).1;have e:xs.length - i=(xs.length - (i+1))+1:=by omega
 rw [List.take_add_one,h,e,List.replicate_succ,List.set_append,if_neg (by simp;omega)];simp [Nat.min_eq_left (Nat.le_of_lt hi)]
theorem Ph {xs ys:List α} {i:Nat} (h:i<xs.length) (hl:ys.length=i):(ys++xs.drop i)[i]? =some xs[i]:=by
 rw [List.getElem?_append_right oM,hl];simp [List.getElem?_drop,h]
theorem Pb {xs ys:List α} {y:α} {i:Nat} (h:i<xs.length) (hl:ys.length=i):(ys++xs.drop i).set i y=(ys++[y])++xs.drop (i+1):=by
 rw [List.set_append,if_neg oM,hl,Nat.sub_self,List.drop_eq_getElem_cons h,List.append_assoc];rfl
end
theorem Bc {n:Int} (h1: -9223372036854775808<=n) (h2:n<9223372036854775808):wI n=n:=Go.IntWalk.i64_in _ oM
theorem Ax {p:Prop} [Decidable p] (h:p):decide p=true:=decide_eq_true h
theorem Au {p:Prop} [Decidable p] (h:¬ p):decide p=false:=decide_eq_false h
end
section
theorem Lk (b:Bool):Df (some (if b then Ctl.next () else Ctl.out false)) (fun _:Unit=>some true)=some b:=by cases b <;> rfl
theorem O7 (x lo hi:Int):B7 x lo hi=some (inR x lo hi):=by
 unfold B7 inR;by_cases h:lo<=x <;> simp [h]
theorem Nf (x lo hi:Int):Bw x lo hi=some (inR x lo hi):=by
 unfold Bw inR;by_cases h:lo<=x <;> simp [h]
theorem Asm (xs:List Int) (lo hi:Int) (hx:xs.length<=1099511627776):E9 xs lo hi=some (xs.all fun x=>inR x lo hi):=by
 unfold E9;rw [Fv xs (fun x=>inR x lo hi) (.next ()) (.out false) oM (fun i x h=>?_) ?_,Lk]
 ·unfold Mk;rw [Au oM,cond_false]
 ·have:=Ai h;unfold Mk;rw [Ax oM,cond_true,h,obs,O7,obs,Af oM];cases inR x lo hi <;> rfl
theorem Arf {p:Int} (h:inR p 2 97=false):isF p=false:=by rcases Alx.1 h with h|h <;> simp [isF] <;> omega
theorem Uy (p:Int):Gq p=some (isF p):=by
 unfold Gq;rw [O7,obs];cases hr:inR p 2 97
 ·rw [Arf hr];rfl
 rw [Bool.not_true,cond_false];obtain ⟨h1,h2⟩:=D3.1 hr;obtain ⟨n,rfl⟩:=Int.eq_ofNat_of_zero_le (show 0<=p by omega)
 have h:Ap (fun s_:Nat=>Hw n s_) 4611686018427387904 2=some (if isF n then .next () else .out false):=by
  refine I1 8 (fun i s=>s=i+2/\Ads n s=true) oM _ ⟨rfl,by simp [Ads,List.range_succ]⟩ ?_ ?_
  ·rintro i s hi ⟨hs,hd⟩;unfold Hw;have hm:((s:Int)*(s:Int))=((s*s:Nat):Int):=by simp
   have hss:s*s<=9*9:=Nat.mul_le_mul oM oM;rw [hm,Bc oM oM];by_cases hle:s*s<=n
   ·rw [Ax oM,cond_true,Af oM,show Int.tmod (n:Int) (s:Int)=((n % s:Nat):Int) from by rw [Int.tmod_eq_emod_of_nonneg oM];rfl];by_cases h0:n % s=0
    ·refine .inr ?_;rw [h0,Ar4 n oM s oM oM hle h0];rfl
    ·refine .inl ⟨s+1,?_,by omega,Aju hd h0⟩;rw [show (((n % s:Nat):Int)==0)=false from by rw [beq_eq_false_iff_ne];omega,cond_false,Af oM]
   ·refine .inr ?_;rw [Au oM,cond_false,Add n oM oM s oM hd oM];rfl
  ·rintro s ⟨hs,hd⟩;obtain rfl:s=10:=by omega
   unfold Hw;rw [show wI (((10:Nat):Int)*((10:Nat):Int))=100 from Bc oM oM,Au oM,cond_false,Add n oM oM 10 oM hd oM];rfl
 rw [h,Lk]
theorem Agb (p x:Int):Ig p x=some (inR x 0 (p - 1)):=by
 unfold Ig inR;by_cases h:0<=x
 ·simp [h,show (x<p↔x<=p - 1) by omega]
 ·simp [h]
theorem At4 (p:Int) (xs:List Int) (hp:2<=p/\p<=97) (hx:xs.length<=1099511627776):Oh p xs=some (xs.all fun x=>inR x 0 (p - 1)):=by
 unfold Oh;rw [Bc oM oM,Asm _ _ _ hx];rfl
theorem Ajt (p:Int) (xs:List Int) (n:Int) (hx:xs.length<=1099511627776):Ji p xs n=some (((xs.length:Nat):Int)==n&&xs.all fun x=>inR x 0 (p - 1)):=by
 unfold Ji;cases hn:((xs.length:Nat):Int)==n
 ·rw [show (((xs.length:Nat):Int) !=n)=true by simp only [bne,hn,Bool.not_false]];rfl
 rw [show (((xs.length:Nat):Int) !=n)=false by simp only [bne,hn,Bool.not_true],cond_false];rw [Fv xs (fun x=>inR x 0 (p - 1)) (.next ()) (.out false) oM (fun i x h=>?_) ?_,Lk,Bool.true_and]
 ·unfold Jn;rw [Au oM,cond_false]
 ·have:=Ai h;unfold Jn;rw [Ax oM,cond_true,h,obs,Agb,obs,Af oM];cases inR x 0 (p - 1) <;> rfl
theorem Aqq {p x:Int} (hp:2<=p/\p<=97):Qh p x=some (x % p):=by
 unfold Qh;rw [Af oM]
 have e1:x.tmod p=if 0<=x∨x % p=0 then x % p else x % p - p:=by
  simp only [Int.tmod_eq_emod,Int.dvd_iff_emod_eq_zero];split <;> simp <;> omega
 have h1:=Int.emod_nonneg x (show p≠0 by omega);have h2:=Int.emod_lt_of_pos x (show 0<p by omega);by_cases h:x.tmod p<0
 ·rw [Ax h,cond_true,obs,Bc oM oM];congr 1;split at e1 <;> omega
 ·rw [Au h,cond_false,obs];congr 1;split at e1 <;> omega
theorem Yp (xs:List Int) (h:xs.length<=1000000):Gb xs=some xs:=by
 unfold Gb;rw [Af oM]
theorem Yr (xs:List Int) (h:xs.length<=1000000):Hx xs=some xs:=by
 unfold Hx;rw [Af oM]
theorem Alq {p x y:Int} (hp:2<=p/\p<=97) (hx:0<=x/\x<p) (hy:0<=y/\y<p):Dl p x y=some ((x+y) % p):=by
 unfold Dl;rw [Af oM,Bc oM oM,Int.tmod_eq_emod_of_nonneg oM]
theorem Ab3 {p x y:Int} (hp:2<=p/\p<=97) (hx:0<=x/\x<p) (hy:0<=y/\y<p):0<=x*y/\x*y<=10000:=by
 refine ⟨Int.mul_nonneg hx.1 hy.1,?_⟩;have h1:x*y<=97*y:=Int.mul_le_mul_of_nonneg_right oM hy.1;omega
theorem Ak6 {p x y:Int} (hp:2<=p/\p<=97) (hx:0<=x/\x<p) (hy:0<=y/\y<p):Kv p x y=some ((x*y) % p):=by
 have:=Ab3 hp hx hy;unfold Kv;rw [Af oM,Bc oM oM,Int.tmod_eq_emod_of_nonneg oM]
end
section
theorem Avr (a b:ByteArray):(a.toList==b.toList)=(a.data.toList==b.data.toList):=by rw [ByteArray.toList_eq,ByteArray.toList_eq]
theorem Ai2 (s:ByteArray) (i:Nat):s[i]? =s.data.toList[i]?:=by
 by_cases h:i<s.size
 ·rw [getElem?_pos s i h];have h':i<s.data.toList.length:=by simpa using h
  rw [gEg h'];rfl
 ·rw [getElem?_neg s i h,List.getElem?_eq_none (by simp;exact Nat.le_of_not_lt h)]
theorem Arp (s:ByteArray):s.size=s.data.toList.length:=by
 show s.data.size=_;exact Array.length_toList.symm
def loB (c:UInt8):Bool:=decide (97<=((c.toNat:Nat):Int))&&decide (((c.toNat:Nat):Int)<=122)
def dgB (c:UInt8):Bool:=decide (48<=((c.toNat:Nat):Int))&&decide (((c.toNat:Nat):Int)<=57)
theorem Ac2 (c:UInt8):Hj ((c.toNat:Nat):Int)=some (loB c):=by
 unfold Hj loB;cases decide (97<=((c.toNat:Nat):Int)) <;> rfl
theorem Ams (c:UInt8):Kk ((c.toNat:Nat):Int)=some (dgB c):=by
 unfold Kk dgB;cases decide (48<=((c.toNat:Nat):Int)) <;> rfl
def Te:List ByteArray:=[(⟨#[105,100]⟩:ByteArray),(⟨#[115,119,97,112]⟩:ByteArray),(⟨#[99,111,112,121]⟩:ByteArray),(⟨#[100,105,115,99,97,114,100]⟩:ByteArray),(⟨#[97,100,100]⟩:ByteArray),(⟨#[122,101,114,111]⟩:ByteArray),(⟨#[115,99,97,108,101]⟩:ByteArray),(⟨#[100,101,108,97,121]⟩:ByteArray),(⟨#[99,111,99,111,112,121]⟩:ByteArray),(⟨#[99,111,100,105,115,99,97,114,100]⟩:ByteArray),(⟨#[99,111,97,100,100]⟩:ByteArray),(⟨#[99,111,122,101,114,111]⟩:ByteArray),(⟨#[99,111,115,99,97,108,101]⟩:ByteArray),(⟨#[99,111,100,101,108,97,121]⟩:ByteArray)]
theorem Ajr:Ks=some Te:=rfl
theorem Afv:Lc=some ((⟨#[]⟩:ByteArray) :: Te):=rfl
theorem At2 (l:List ByteArray) (hl:l.length<=1000) (s:ByteArray):Ly l s=some (l.any fun x=>x.toList==s.toList):=by
 unfold Ly
 have hs:∀ i x,l[i]? =some x->Eg l s i=some (if x.toList==s.toList then Ctl.out (Ctl.out true) else Ctl.next (i+1)):=fun i x h=>by
  have:=Ai h;unfold Eg;rw [Ax oM,cond_true,h,obs,Af oM];cases x.toList==s.toList <;> rfl
 have he:Eg l s l.length=some (Ctl.out (Ctl.next ())):=by
  unfold Eg;rw [Au oM,cond_false]
 rcases Ac3 (body:=fun s_:Nat=>Eg l s s_) l (fun x=>x.toList==s.toList) (Ctl.next ()) (fun i=>Ctl.out true) (F:=4611686018427387904) oM hs he with ⟨h1,i,hi,h2⟩|⟨h1,h2⟩
 ·rw [h2,h1];rfl
 ·rw [h2,h1];rfl
theorem Aod (s:ByteArray):∃ k:Int,Ls s=some k/\(k !=17)=(((⟨#[]⟩:ByteArray) :: Te).any fun x=>x.toList==s.toList):=by
 unfold Ls;rw [Afv,obs];have hl:((⟨#[]⟩:ByteArray) :: Te).length=15:=rfl;generalize ((⟨#[]⟩:ByteArray) :: Te)=l at hl ⊢
 have hs:∀ i x,l[i]? =some x->Eh l s i=some (if x.toList==s.toList then Ctl.out (Ctl.out (i:Int)) else Ctl.next (i+1)):=fun i x h=>by
  have:=Ai h;unfold Eh;rw [Ax oM,cond_true,h,obs,Af oM];cases x.toList==s.toList <;> rfl
 have he:Eh l s l.length=some (Ctl.out (Ctl.next ())):=by
  unfold Eh;rw [Au oM,cond_false]
 rcases Ac3 (body:=fun s_:Nat=>Eh l s s_) l (fun x=>x.toList==s.toList) (Ctl.next ()) (fun i=>Ctl.out (i:Int)) (F:=4611686018427387904) oM hs he with ⟨h1,i,hi,h2⟩|⟨h1,h2⟩
 ·rw [h2,h1];exact ⟨_,rfl,by rw [bne_iff_ne];omega⟩
 ·rw [h2,h1];exact ⟨_,rfl,rfl⟩
theorem Ajx (s:ByteArray):∃ b,Lh s=some b/\L1 s=some b:=by
 unfold Lh L1 Om;rw [Nf,O7];cases hr:inR ((s.size:Nat):Int) 1 8
 ·exact ⟨false,rfl,rfl⟩
 have hb:=D3.1 hr;have hsz:=Arp s;obtain ⟨c,hc⟩:∃ c,s[0]? =some c:=⟨_,getElem?_pos s 0 oM⟩
 have hcl:s.data.toList[0]? =some c:=by rw [← Ai2];exact hc
 rw [obs,obs,Bool.not_true,cond_false,cond_false,hc,obs,obs,Ac2,obs,obs];cases hlo:loB c
 ·refine ⟨false,rfl,?_⟩
  have:(decide (((c.toNat:Nat):Int)<97))=true∨decide (122<((c.toNat:Nat):Int))=true:=by
   simp only [decide_eq_true_eq];simp only [loB,Bool.and_eq_false_iff,decide_eq_false_iff_not] at hlo;omega
  rcases this with h|h
  ·rw [h];rfl
  ·rw [h];cases decide (((c.toNat:Nat):Int)<97) <;> rfl
 have hlo':=hlo;simp only [loB,Bool.and_eq_true,decide_eq_true_eq] at hlo';obtain ⟨k,hk,hk2⟩:=Aod s;rw [hk,obs,Bool.not_true,cond_false,obs,hk2,Au (show ¬ ((c.toNat:Nat):Int)<97 by omega),cond_false,Au (show ¬ 122<((c.toNat:Nat):Int) by omega),obs,cond_false]
 have hne:((⟨#[]⟩:ByteArray).toList==s.toList)=false:=by
  rw [Avr,beq_eq_false_iff_ne];intro e;rw [← e] at hcl;simp at hcl
 rw [List.any_cons,hne,Bool.false_or]
 -- the rest of the letters
 have hI:Ap (fun s_:Nat=>H3 s s_) 4611686018427387904 0=some (if s.data.toList.all (fun x=>loB x||dgB x) then Ctl.next () else Ctl.out false):=by
  refine Fv s.data.toList (fun x=>loB x||dgB x) (Ctl.next ()) (Ctl.out false) oM (fun i x h=>?_) ?_
  ·have:=Ai h;unfold H3;rw [Ax oM,cond_true,Ai2,h,obs,Ac2,obs,obs,Ams,obs,Af oM];cases loB x <;> cases dgB x <;> rfl
  ·unfold H3;rw [Au oM,cond_false]
 have hstep:∀ i x,s.data.toList[i]? =some x->Bx s i=some (if loB x||dgB x then Ctl.next (i+1) else Ctl.out (Ctl.out false)):=fun i x h=>by
  have:=Ai h;unfold Bx;rw [Ax oM,cond_true,Ai2,h];simp only [obs];rw [Af oM]
  have e:∀ n:Int,(cond (decide (n<97)) (cond (decide (n<48)) (some true) (some (decide (57<n)))) (cond (decide (122<n)) (cond (decide (n<48)) (some true) (some (decide (57<n)))) (some false)):Option Bool)=some (!((decide (97<=n)&&decide (n<=122))||(decide (48<=n)&&decide (n<=57)))):=by
   intro n;by_cases h1:n<97
   ·by_cases h2:n<48
    ·rw [Ax h1,Ax h2,Au (show ¬ 97<=n by omega),Au (show ¬ 48<=n by omega)];rfl
    ·by_cases h3:57<n
     ·rw [Ax h1,Au h2,Ax h3,Au (show ¬ 97<=n by omega),Au (show ¬ n<=57 by omega),Bool.and_false];rfl
     ·rw [Ax h1,Au h2,Au h3,Au (show ¬ 97<=n by omega),Ax (show 48<=n by omega),Ax (show n<=57 by omega)];rfl
   ·by_cases h2:122<n
    ·rw [Au h1,Ax h2,Au (show ¬ n<48 by omega),Ax (show 57<n by omega),Au (show ¬ n<=122 by omega),Au (show ¬ n<=57 by omega),Bool.and_false,Bool.and_false];rfl
    ·rw [Au h1,Au h2,Ax (show 97<=n by omega),Ax (show n<=122 by omega)];rfl
  have e':=e ((x.toNat:Nat):Int);rw [e',obs];show cond (!(loB x||dgB x)) _ _=_;cases loB x||dgB x <;> rfl
 have hS0:Ap (fun s_:Nat=>Bx s s_) (4611686018427387904+1) 0=some (if s.data.toList.all (fun x=>loB x||dgB x) then Ctl.next () else Ctl.out false):=by
  refine Fv s.data.toList (fun x=>loB x||dgB x) (Ctl.next ()) (Ctl.out false) oM hstep ?_;unfold Bx;rw [Au oM,cond_false]
 have hS:Ap (fun s_:Nat=>Bx s s_) 4611686018427387904 1=some (if s.data.toList.all (fun x=>loB x||dgB x) then Ctl.next () else Ctl.out false):=by
  rw [← hS0];have h0:Bx s 0=some (Ctl.next 1):=by rw [hstep 0 c hcl,hlo];rfl
  have hu:∀ n,Ap (fun s_:Nat=>Bx s s_) (n+1) 0=Ap (fun s_:Nat=>Bx s s_) n 1:=fun n=>by
   show (Bx s 0).bind _=_;rw [h0];rfl
  exact (hu _).symm
 rw [hI,hS,Ajr,obs,At2 Te (by decide) s];generalize (Te.any fun x=>x.toList==s.toList)=u;cases s.data.toList.all (fun x=>loB x||dgB x) <;> cases u <;> exact ⟨_,rfl,rfl⟩
end
section
abbrev Nd:=Int×Int×ByteArray
abbrev K4 (s:ByteArray):Bool:=s.toList==(⟨#[]⟩:ByteArray).toList
def Xu (k v:Int):Bool:=if k=7∨k=13 then inR v 0 96 else v==0
def lfW (n:Nd):Option (Int×Int) :=
 if K4 n.2.2=true then
  if n.1=1 then (if 0<=n.2.1/\n.2.1<=12 then some (n.2.1,n.2.1) else none)
  else if n.1=2 then (if n.2.1=0 then some (2,2) else none)
  else if 3<=n.1/\n.1<=14 then (if Xu n.1 n.2.1=true then some (gwV n.1) else none)
  else none
 else none
def okW (w:Int×Int):Prop:=(0<=w.1/\w.1<=12)/\(0<=w.2/\w.2<=12)
theorem Avd (k:Int):okW (gwV k):=by
 unfold gwV
 repeat' split
 all_goals exact ⟨⟨by decide,by decide⟩,⟨by decide,by decide⟩⟩
theorem Afb {n:Nd} {w:Int×Int} (h:lfW n=some w):okW w:=by
 unfold lfW at h;split at h
 ·split at h
  ·split at h
   ·rename_i h1;obtain rfl:=osj h;exact ⟨h1,h1⟩
   ·cases h
  ·split at h
   ·split at h
    ·obtain rfl:=osj h;exact ⟨⟨by decide,by decide⟩,⟨by decide,by decide⟩⟩
    ·cases h
   ·split at h
    ·split at h
     ·obtain rfl:=osj h;exact Avd _
     ·cases h
    ·cases h
 ·cases h
theorem R4 {n:Nd} {w:Int×Int} (h:lfW n=some w):1<=n.1/\n.1<=14:=by
 unfold lfW at h;split at h
 ·split at h
  ·omega
  ·split at h
   ·omega
   ·split at h
    ·omega
    ·cases h
 ·cases h
def lfL (lib:List (ByteArray×Int×Int×List Nd)) (n:Nd):Option (Int×Int) :=
 if n.1=17 then (if n.2.1=0 then (lib.find? fun d=>d.1.toList==n.2.2.toList).map fun d=>(d.2.1,d.2.2.1) else none) else lfW n
theorem Aq3:lfL []=lfW:=by
 funext n;unfold lfL;by_cases h:n.1=17
 ·rw [if_pos h];cases hw:lfW n with
  | some w=>have:=R4 hw;omega
  | none=>split <;> rfl
 ·rw [if_neg h]
theorem Ajk {lib:List (ByteArray×Int×Int×List Nd)} (hl:∀ d∈lib,okW (d.2.1,d.2.2.1)) (n:Nd) (w:Int×Int) (h:lfL lib n=some w):okW w:=by
 unfold lfL at h;split at h
 ·split at h
  ·obtain ⟨d,hd,rfl⟩:=oms.1 h;exact hl d (List.mem_of_find?_eq_some hd)
  ·cases h
 ·exact Afb h
section
variable (lf:Nd->Option (Int×Int))
def Ec (n:Nd) (T:List (Int×Int)):Option (List (Int×Int)) :=
 if n.1=15∨n.1=16 then
  if n.2.1=0/\K4 n.2.2=true then
   match T with
   | b :: a :: r=>if n.1=15 then (if a.2=b.1 then some ((a.1,b.2) :: r) else none) else (if a.1+b.1<=12/\a.2+b.2<=12 then some ((a.1+b.1,a.2+b.2) :: r) else none)
   | _=>none
  else none
 else (lf n).map (· :: T)
def Js:List Nd->List (Int×Int)->Option (List (Int×Int))
 | [],T=>some T
 | n :: r,T=>(Ec lf n T).bind (Js r)
end
section
variable {lf:Nd->Option (Int×Int)}
def okT (T:List (Int×Int)):Prop:=∀ w∈T,okW w
theorem Nr (hlf:∀ n w,lf n=some w->okW w) {n:Nd} {T T':List (Int×Int)} (h:Ec lf n T=some T') (hT:okT T):okT T':=by
 unfold Ec at h;split at h
 ·split at h
  ·split at h
   ·rename_i b a r;have ha:=hT a (by simp);have hb:=hT b (by simp);have hr:okT r:=fun w hw=>hT w (by simp [hw])
    split at h
    ·split at h
     ·obtain rfl:=osj h;intro w hw;rcases List.mem_cons.1 hw with rfl|hw
      ·exact ⟨ha.1,hb.2⟩
      ·exact hr w hw
     ·cases h
    ·split at h
     ·rename_i h1;obtain rfl:=osj h;intro w hw;rcases List.mem_cons.1 hw with rfl|hw
      ·have:=ha.1;have:=hb.1;have:=ha.2;have:=hb.2;refine ⟨⟨?_,h1.1⟩,⟨?_,h1.2⟩⟩ <;> (try show (0:Int)<=_+_) <;> omega
      ·exact hr w hw
     ·cases h
   ·cases h
  ·cases h
 ·obtain ⟨w,hw,rfl⟩:=oms.1 h;intro v hv;rcases List.mem_cons.1 hv with rfl|hv
  ·exact hlf _ _ hw
  ·exact hT v hv
theorem Ab6:∀ (xs ys:List Nd) (T:List (Int×Int)),Js lf (xs++ys) T=(Js lf xs T).bind (Js lf ys)
 | [],_,_=>rfl
 | n :: r,ys,T=>by
  show (Ec lf n T).bind (Js lf (r++ys))=((Ec lf n T).bind (Js lf r)).bind (Js lf ys);cases Ec lf n T with
  | none=>rfl
  | some T'=>exact Ab6 r ys T'
theorem M5 {xs:List Nd} {k:Nat} {n:Nd} {T:List (Int×Int)} (h:xs[k]? =some n) (hT:Js lf (xs.take k) []=some T):Js lf (xs.take (k+1)) []=Ec lf n T:=by
 rw [List.take_add_one,h,Ab6,hT,obs];show (Ec lf n T).bind (Js lf [])=_;cases Ec lf n T <;> rfl
theorem Sk {xs:List Nd} {k:Nat} (h:Js lf (xs.take k) []=none):Js lf xs []=none:=by
 rw [← List.take_append_drop k xs,Ab6,h];rfl
theorem Akx {xs:List Nd} {T:List (Int×Int)} (hx:xs≠[]) (h:Js lf xs []=some T):T≠[]:=by
 obtain ⟨k,hk⟩:∃ k,xs.length=k+1:=⟨xs.length - 1,by have:=List.length_pos_iff.2 hx;omega⟩
 have hl:xs.take xs.length=xs:=List.take_length;have hn:=gEg (show k<xs.length by omega);cases hp:Js lf (xs.take k) [] with
 | none=>rw [Sk hp] at h;cases h
 | some T0 =>
  have h2:=M5 hn hp;rw [← hk,hl,h] at h2;intro e;subst e;unfold Ec at h2;split at h2
  ·split at h2
   ·split at h2
    ·split at h2 <;> split at h2 <;> cases h2
    ·cases h2
   ·cases h2
  ·cases hw:lf (xs[k]'oM) with
   | none=>rw [hw] at h2;cases h2
   | some w=>rw [hw] at h2;cases h2
end
def tyG (lf:Nd->Option (Int×Int)) (xs:List Nd):Option (Int×Int) :=
 if 1<=xs.length/\xs.length<=400 then (match Js lf xs [] with|some [w]=>some w|_=>none) else none
def tyV (xs:List Nd):Option (Int×Int):=tyG lfW xs
-- leaves on both sides
theorem Aun (n:Nd):∃ r:Int×Int×Bool,Fq n.1 n.2.1 n.2.2=some r/\match lfW n with|some w=>r=(w.1,w.2,true)|none=>r.2.2=false:=by
 obtain ⟨k,v,s⟩:=n;dsimp only;unfold Fq lfW;dsimp only;cases hs:K4 s
 ·have hs':(s.toList==(⟨#[]⟩:ByteArray).toList)=false:=hs;rw [hs'];exact ⟨_,rfl,rfl⟩
 have hs':(s.toList==(⟨#[]⟩:ByteArray).toList)=true:=hs;rw [hs',if_pos rfl,Bool.not_true,cond_false];by_cases h1:k=1
 ·subst h1;rw [beq_self_eq_true,cond_true,Nf,if_pos rfl];by_cases h2:0<=v/\v<=12
  ·rw [if_pos h2,D3.2 h2];exact ⟨_,rfl,rfl⟩
  ·rw [if_neg h2,show inR v 0 12=false by rw [Bool.eq_false_iff];intro e;exact h2 (D3.1 e)];exact ⟨_,rfl,rfl⟩
 rw [beq_eq_false_iff_ne.2 h1,cond_false,if_neg h1];by_cases h2:k=2
 ·subst h2;rw [beq_self_eq_true,cond_true,if_pos rfl];by_cases h3:v=0
  ·subst h3;exact ⟨_,rfl,rfl⟩
  ·rw [if_neg h3,beq_eq_false_iff_ne.2 h3];exact ⟨_,rfl,rfl⟩
 rw [beq_eq_false_iff_ne.2 h2,cond_false,if_neg h2];unfold Jj;rw [Nf];by_cases h3:3<=k/\k<=14
 ·rw [if_pos h3,D3.2 h3,obs,obs,cond_true];unfold Dd Fj Gf;rw [Af h3,obs];by_cases h7:k=7∨k=13
  ·have e:cond (k==7) (some true) (some (k==13))=some true:=by
    rcases h7 with rfl|rfl <;> rfl
   rw [e,obs,obs,cond_true,Nf,show Xu k v=inR v 0 96 from if_pos h7];cases inR v 0 96 <;> exact ⟨_,rfl,rfl⟩
  ·have e:cond (k==7) (some true) (some (k==13))=some false:=by
    rw [beq_eq_false_iff_ne.2 (fun e=>h7 (.inl e)),beq_eq_false_iff_ne.2 (fun e=>h7 (.inr e))];rfl
   rw [e,obs,obs,cond_false,show Xu k v=(v==0) from if_neg h7];cases v==0 <;> exact ⟨_,rfl,rfl⟩
 ·rw [if_neg h3,show inR k 3 14=false by rw [Bool.eq_false_iff];intro e;exact h3 (D3.1 e)];exact ⟨_,rfl,rfl⟩
theorem Aou (n:Nd):I9 n.1 n.2.1 n.2.2=some (lfW n).isSome:=by
 obtain ⟨k,v,s⟩:=n;dsimp only;unfold I9 lfW;dsimp only;cases hs:K4 s
 ·have hs':(s.toList==(⟨#[]⟩:ByteArray).toList)=false:=hs;rw [hs'];rfl
 have hs':(s.toList==(⟨#[]⟩:ByteArray).toList)=true:=hs;rw [hs',if_pos rfl,Bool.not_true,cond_false,O7,obs];by_cases h0:1<=k/\k<=14
 ·rw [D3.2 h0,obs,Bool.not_true,cond_false];by_cases h1:k=1
  ·subst h1;rw [beq_self_eq_true,cond_true,O7,if_pos rfl];by_cases h2:0<=v/\v<=12
   ·rw [if_pos h2,D3.2 h2];rfl
   ·rw [if_neg h2,show inR v 0 12=false by rw [Bool.eq_false_iff];intro e;exact h2 (D3.1 e)];rfl
  rw [beq_eq_false_iff_ne.2 h1,cond_false,if_neg h1];by_cases h7:k=7∨k=13
  ·have e:cond (k==7) (some (k==7)) (some (k==13))=some true:=by
    rcases h7 with rfl|rfl <;> rfl
   rw [e,obs,cond_true,O7,if_neg oM,if_pos oM,show Xu k v=inR v 0 96 from if_pos h7];cases inR v 0 96 <;> rfl
  ·have e:cond (k==7) (some (k==7)) (some (k==13))=some false:=by
    rw [beq_eq_false_iff_ne.2 (fun e=>h7 (.inl e)),beq_eq_false_iff_ne.2 (fun e=>h7 (.inr e))];rfl
   rw [e,obs,cond_false];by_cases h2:k=2
   ·rw [if_pos h2];by_cases h3:v=0
    ·rw [if_pos h3,beq_iff_eq.2 h3];rfl
    ·rw [if_neg h3,beq_eq_false_iff_ne.2 h3];rfl
   ·rw [if_neg h2,if_pos oM,show Xu k v=(v==0) from if_neg h7];cases v==0 <;> rfl
 ·rw [show inR k 1 14=false by rw [Bool.eq_false_iff];intro e;exact h0 (D3.1 e),if_neg oM,if_neg oM,if_neg oM];rfl
theorem Ar8 {n:Nd} {w:Int×Int} (h:lfW n=some w):Fl n.1 n.2.1 n.2.2=some w:=by
 have hk:=R4 h;obtain ⟨k,v,s⟩:=n;dsimp only at hk ⊢;unfold lfW at h;dsimp only at h;unfold Fl Gp;split at h
 ·split at h
  ·rename_i h1;subst h1;split at h
   ·obtain rfl:=osj h;rfl
   ·cases h
  ·rename_i h1;rw [beq_eq_false_iff_ne.2 h1,cond_false];split at h
   ·rename_i h2;subst h2;split at h
    ·obtain rfl:=osj h;rfl
    ·cases h
   ·split at h
    ·split at h
     ·obtain rfl:=osj h;have hk':k=3∨k=4∨k=5∨k=6∨k=7∨k=8∨k=9∨k=10∨k=11∨k=12∨k=13∨k=14:=by omega
      rcases hk' with rfl|rfl|rfl|rfl|rfl|rfl|rfl|rfl|rfl|rfl|rfl|rfl <;> rfl
     ·cases h
    ·cases h
 ·cases h
theorem Ak2 {lf:Nd->Option (Int×Int)} (hlf:∀ n w,lf n=some w->okW w):∀ {xs:List Nd} {T T':List (Int×Int)},Js lf xs T=some T'->okT T->okT T'
 | [],_,_,h,hT=>by obtain rfl:=osj h;exact hT
 | n :: r,T,T',h,hT=>by
  have h:(Ec lf n T).bind (Js lf r)=some T':=h;obtain ⟨T1,h1,h2⟩:=Option.bind_eq_some_iff.1 h;exact Ak2 hlf h2 (Nr hlf h1 hT)
end
section
theorem Awe {a b:Int×Int} {r:List (Int×Int)}:(b :: a :: r).reverse=r.reverse++[a,b]:=by simp
theorem Arz {a b:Int×Int} {r:List (Int×Int)}:(r.reverse++[a,b])[r.length]? =some a/\(r.reverse++[a,b])[r.length+1]? =some b:=by
 constructor
 ·rw [List.getElem?_append_right (by simp),List.length_reverse,Nat.sub_self];rfl
 ·rw [List.getElem?_append_right (by simp),List.length_reverse,Nat.add_sub_cancel_left];rfl
theorem Au2 {k:Int} {a b:Int×Int} (ha:okW a) (hb:okW b):Fr k a.1 a.2 b.1 b.2=some (if k=15 then (a.1,b.2,a.2==b.1) else (a.1+b.1,a.2+b.2,decide (a.1+b.1<=12)&&decide (a.2+b.2<=12))):=by
 obtain ⟨⟨a1,a2⟩,a3,a4⟩:=ha;obtain ⟨⟨b1,b2⟩,b3,b4⟩:=hb;unfold Fr K9;by_cases h:k=15
 ·rw [if_pos h,beq_iff_eq.2 h];rfl
 ·rw [if_neg h,beq_eq_false_iff_ne.2 h,cond_false,Bc (n:=a.1+b.1) oM oM,Bc (n:=a.2+b.2) oM oM];cases decide (a.1+b.1<=12) <;> rfl
def Aru (leaf:Int->Int->ByteArray->Option (Int×Int×Bool)) (a0:List (Int×Int×ByteArray)) (l10_m22:Nat) (l10_m6:List (Int×Int)):Option (Ctl (Nat×(List (Int×Int))) (Ctl (List (Int×Int)) (Int×Int×Bool))) :=
 cond (decide (((l10_m22:Nat):Int)<((a0.length:Nat):Int)))
 (Df (Option.bind (a0[l10_m22]?) fun x16 =>
  Option.bind (cond (x16.1 !=15)
   (some (x16.1 !=16))
   (some false)) fun l18_m33 =>
  cond l18_m33
   (Option.bind (leaf x16.1 x16.2.1 x16.2.2) fun y22 =>
   cond (!y22.2.2)
    (some (Ctl.out (Ctl.out (Ctl.out (0,0,false)))))
    (og (l10_m6.length+1<=1073741824/\(l10_m6.length+1)*16<=140737488355328) <|
    some (Ctl.next (l10_m6++([(y22.1,y22.2.1)])))))
   (Option.bind (cond (x16.2.1 !=0)
    (some true)
    (cond (!(x16.2.2.toList==(⟨#[]⟩:ByteArray).toList))
     (some true)
     (some (decide (((l10_m6.length:Nat):Int)<2))))) fun l30_m59 =>
   cond l30_m59
    (some (Ctl.out (Ctl.out (Ctl.out (0,0,false)))))
    (Option.bind (B6 l10_m6 (wI ((wI (((l10_m6.length:Nat):Int) - 1)) - 1))) fun x37 =>
    Option.bind (B6 l10_m6 (wI ((wI (((l10_m6.length:Nat):Int) - 1)) - 1))) fun x38 =>
    Option.bind (B6 l10_m6 (wI (((l10_m6.length:Nat):Int) - 1))) fun x39 =>
    Option.bind (B6 l10_m6 (wI (((l10_m6.length:Nat):Int) - 1))) fun x40 =>
    Option.bind (Fr x16.1 x38.1 x38.2 x40.1 x40.2) fun y41 =>
    cond (!y41.2.2)
     (some (Ctl.out (Ctl.out (Ctl.out (0,0,false)))))
     (og ((0:Int)<=0/\0<=wI ((wI (((l10_m6.length:Nat):Int) - 1)) - 1)/\wI ((wI (((l10_m6.length:Nat):Int) - 1)) - 1)<=((l10_m6.length:Nat):Int)) <|
     og (((l10_m6.take ((wI ((wI (((l10_m6.length:Nat):Int) - 1)) - 1)).toNat)).length)+1<=1073741824/\(((l10_m6.take ((wI ((wI (((l10_m6.length:Nat):Int) - 1)) - 1)).toNat)).length)+1)*16<=140737488355328) <|
     some (Ctl.next ((l10_m6.take ((wI ((wI (((l10_m6.length:Nat):Int) - 1)) - 1)).toNat))++([(y41.1,y41.2.1)]))))))) fun l14_m6 =>
 og (l10_m22+1<4611686018427387904) <|
 some (Ctl.next (l10_m22+1,l14_m6)))
 (some (Ctl.out (Ctl.next l10_m6)))
section
variable {lf:Nd->Option (Int×Int)} {leaf:Int->Int->ByteArray->Option (Int×Int×Bool)}
theorem Au1 (hlf:∀ n w,lf n=some w->okW w) {xs:List Nd} (hleaf:∀ n∈xs,n.1≠15->n.1≠16->∃ r:Int×Int×Bool,leaf n.1 n.2.1 n.2.2=some r/\match lf n with|some w=>r=(w.1,w.2,true)|none=>r.2.2=false) (hx:1<=xs.length/\xs.length<=400):Ap (fun s_:Nat×List (Int×Int)=>Aru leaf xs s_.1 s_.2) 4611686018427387904 (0,[])=some (match Js lf xs [] with|some T=>Ctl.next T.reverse|none=>Ctl.out (0,0,false)):=by
 refine I1 xs.length (fun k s=>∃ T,s=(k,T.reverse)/\Js lf (xs.take k) []=some T/\okT T/\T.length<=k) oM _ ⟨[],rfl,rfl,(fun _ h=>by cases h),Nat.le_refl _⟩ ?_ ?_
 ·rintro k s hk ⟨T,rfl,hT,hok,hlen⟩;have hn:=gEg hk;generalize xs[k]=n at hn;have hnext:=M5 hn hT;have hfail:Ec lf n T=none->Js lf xs []=none:=fun h=>Sk (k:=k+1) (by rw [hnext,h])
  have hlr:T.reverse.length=T.length:=by simp
  try dsimp only
  unfold Aru;rw [Ax oM,cond_true,hn,obs];by_cases hj:n.1=15∨n.1=16
  ·have e:(cond (n.1 !=15) (some (n.1 !=16)) (some false):Option Bool)=some false:=by
    rcases hj with h|h <;> rw [h] <;> rfl
   rw [e,obs,cond_false];by_cases hv:n.2.1=0/\K4 n.2.2=true
   ·have hs':(n.2.2.toList==(⟨#[]⟩:ByteArray).toList)=true:=hv.2;rw [hv.1,hs',show ((0:Int) !=0)=false from rfl,cond_false,Bool.not_true,cond_false,obs,hlr]
    match T,hT,hok,hlen,hnext,hfail with
    | [],hT,hok,hlen,hnext,hfail =>
     refine .inr ?_;rw [hfail (by unfold Ec;rw [if_pos hj,if_pos hv]),Ax (by simp),cond_true];rfl
    | [b],hT,hok,hlen,hnext,hfail =>
     refine .inr ?_;rw [hfail (by unfold Ec;rw [if_pos hj,if_pos hv]),Ax (by simp),cond_true];rfl
    | b :: a :: r,hT,hok,hlen,hnext,hfail =>
     have hb:=hok b (by simp);have ha:=hok a (by simp);have hl2:(b :: a :: r).length=r.length+2:=by simp
     have w1:wI (((r.length+2:Nat):Int) - 1)=((r.length+1:Nat):Int):=by rw [Bc oM oM];omega
     have w2:wI (((r.length+1:Nat):Int) - 1)=((r.length:Nat):Int):=by rw [Bc oM oM];omega
     obtain ⟨g1,g2⟩:=Arz (a:=a) (b:=b) (r:=r);rw [hl2,Au oM,cond_false,w1,w2,Awe,Bq oM,Int.toNat_natCast,g1,obs,obs,Bq oM,Int.toNat_natCast,g2,obs,obs,Au2 ha hb,obs];have htake:(r.reverse++[a,b]).take r.length=r.reverse:=List.take_left' (by simp)
     have hst:Ec lf n (b :: a :: r)=if n.1=15 then (if a.2=b.1 then some ((a.1,b.2) :: r) else none) else (if a.1+b.1<=12/\a.2+b.2<=12 then some ((a.1+b.1,a.2+b.2) :: r) else none):=by
      unfold Ec;rw [if_pos hj,if_pos hv]
     have hfin:∀ w:Int×Int,Ec lf n (b :: a :: r)=some (w :: r)->∃ s',(Df (og ((0:Int)<=0/\0<=((r.length:Nat):Int)/\((r.length:Nat):Int)<=((r.length+2:Nat):Int)) (og ((((r.reverse++[a,b]).take r.length).length)+1<=1073741824/\((((r.reverse++[a,b]).take r.length).length)+1)*16<=140737488355328) (some (Ctl.next (((r.reverse++[a,b]).take r.length)++([(w.1,w.2)])):Ctl (List (Int×Int)) (Ctl (Nat×(List (Int×Int))) (Ctl (List (Int×Int)) (Int×Int×Bool))))))) fun l14_m6=>og (k+1<4611686018427387904) (some (Ctl.next (k+1,l14_m6))))=some (.next s')/\∃ T,s'=(k+1,T.reverse)/\Js lf (xs.take (k+1)) []=some T/\okT T/\T.length<=k+1:=fun w hw=>by
      refine ⟨(k+1,r.reverse++[w]),?_,w :: r,by simp,by rw [hnext,hw],Nr hlf hw hok,by simp at hlen ⊢;omega⟩;rw [Af oM,htake,Af (by simp at hlen ⊢;omega)];simp only [Df,obs,Ctl.then];rw [Af oM]
     by_cases h15:n.1=15
     ·rw [if_pos h15];rw [if_pos h15] at hst;dsimp only;by_cases hab:a.2=b.1
      ·rw [if_pos hab] at hst;rw [beq_iff_eq.2 hab,Bool.not_true,cond_false];exact .inl (hfin (a.1,b.2) hst)
      ·rw [if_neg hab] at hst;rw [beq_eq_false_iff_ne.2 hab,hfail hst];exact .inr rfl
     ·rw [if_neg h15];rw [if_neg h15] at hst;dsimp only;by_cases hab:a.1+b.1<=12/\a.2+b.2<=12
      ·rw [if_pos hab] at hst;rw [Ax hab.1,Ax hab.2,Bool.and_true,Bool.not_true,cond_false];exact .inl (hfin (a.1+b.1,a.2+b.2) hst)
      ·rw [if_neg hab] at hst
       have e:(decide (a.1+b.1<=12)&&decide (a.2+b.2<=12))=false:=by
        rw [Bool.eq_false_iff];intro h;simp only [Bool.and_eq_true,decide_eq_true_eq] at h;exact hab h
       rw [e,hfail hst];exact .inr rfl
   ·refine .inr ?_;rw [hfail (by unfold Ec;rw [if_pos hj,if_neg hv])];by_cases h0:n.2.1=0
    ·have hs':(n.2.2.toList==(⟨#[]⟩:ByteArray).toList)=false:=by
      rw [Bool.eq_false_iff];intro h;exact hv ⟨h0,h⟩
     rw [h0,hs'];rfl
    ·rw [show (n.2.1 !=0)=true by rw [bne_iff_ne];exact h0];rfl
  ·have h15:n.1≠15:=fun e=>hj (.inl e)
   have h16:n.1≠16:=fun e=>hj (.inr e)
   have e:(cond (n.1 !=15) (some (n.1 !=16)) (some false):Option Bool)=some true:=by
    rw [bne_iff_ne.2 h15,cond_true,bne_iff_ne.2 h16]
   rw [e,obs,cond_true];have hst:Ec lf n T=(lf n).map (· :: T):=if_neg hj;obtain ⟨r,hr,hm⟩:=hleaf n (List.mem_of_getElem? hn) h15 h16;rw [hr,obs];cases hw:lf n with
   | none =>
    rw [hw] at hm hst;dsimp only at hm;rw [hm,hfail hst];exact .inr rfl
   | some w =>
    rw [hw] at hm hst;dsimp only at hm;subst hm;refine .inl ⟨(k+1,T.reverse++[w]),?_,w :: T,by simp,by rw [hnext,hst];rfl,Nr hlf hst hok,by simp;omega⟩;rw [Bool.not_true,cond_false,Af (by rw [hlr];omega)];simp only [Df,obs,Ctl.then];rw [Af oM]
 ·rintro s ⟨T,rfl,hT,hok,hlen⟩;rw [List.take_length] at hT;rw [hT]
  try dsimp only
  unfold Aru;rw [Au oM,cond_false]
theorem Av2 (hlf:∀ n w,lf n=some w->okW w) {xs:List Nd} (hleaf:∀ n∈xs,n.1≠15->n.1≠16->∃ r:Int×Int×Bool,leaf n.1 n.2.1 n.2.2=some r/\match lf n with|some w=>r=(w.1,w.2,true)|none=>r.2.2=false) :
  ∃ r:Int×Int×Bool,(Option.bind (Bw ((xs.length:Nat):Int) 1 400) fun y4=>cond (!y4) (some (0,0,false)) (Df (Ap (fun s_:Nat×(List (Int×Int))=>Aru leaf xs s_.1 s_.2) 4611686018427387904 (0,[])) fun l8_m6=>Option.bind (l8_m6[0]?) fun x50=>some (x50.1,x50.2,((l8_m6.length:Nat):Int)==1)))=some r/\match tyG lf xs with|some w=>r=(w.1,w.2,true)|none=>r.2.2=false:=by
 unfold tyG;rw [Nf];by_cases hx:1<=xs.length/\xs.length<=400
 ·rw [D3.2 (show (1:Int)<=((xs.length:Nat):Int)/\((xs.length:Nat):Int)<=400 by omega),obs,Bool.not_true,cond_false,if_pos hx,Au1 hlf hleaf hx];cases hr:Js lf xs [] with
  | none=>exact ⟨_,rfl,rfl⟩
  | some T =>
   have hne:=Akx (fun e=>by subst e;simp at hx) hr;dsimp only [Df,obs,Ctl.then]
   match T,hne with
   | [w],_=>exact ⟨_,rfl,rfl⟩
   | a :: b :: r,_ =>
    obtain ⟨c,hc⟩:∃ c,(a :: b :: r).reverse[0]? =some c:=⟨_,gEg (by simp)⟩
    rw [hc];refine ⟨_,rfl,?_⟩;show ((((a :: b :: r).reverse.length:Nat):Int)==1)=false;rw [beq_eq_false_iff_ne];simp;omega
 ·rw [if_neg hx,show inR ((xs.length:Nat):Int) 1 400=false by rw [Bool.eq_false_iff];intro e;have:=D3.1 e;exact hx oM];exact ⟨_,rfl,rfl⟩
end
theorem Akh (xs:List Nd):∃ r:Int×Int×Bool,E1 xs=some r/\match tyV xs with|some w=>r=(w.1,w.2,true)|none=>r.2.2=false:=by
 obtain ⟨r,h,hm⟩:=Av2 (lf:=lfW) (leaf:=Fq) (xs:=xs) (fun _ _ h=>Afb h) fun n _ _ _=>Aun n
 refine ⟨r,?_,hm⟩;unfold E1;rw [show C7 xs=some r from h];rfl
end
section
def SRel (F I O:List Int):Nat->List (Int×Int)->Prop
 | k,[]=>k=0
 | k,w :: T=>∃ j:Nat,j<k/\F[k - 1]? =some (j:Int)/\I[k - 1]? =some w.1/\O[k - 1]? =some w.2/\SRel F I O j T
theorem Aft {l:List Int} {k:Nat} {x y:Int} (h:l[k]? =some x):(l++[y])[k]? =some x:=by
 rw [List.getElem?_append_left (gSi.1 h).1];exact h
theorem SRel.app {F I O:List Int} {x y z:Int}:∀ {T:List (Int×Int)} {k:Nat},SRel F I O k T->SRel (F++[x]) (I++[y]) (O++[z]) k T
 | [],_,h=>h
 | _ :: _,_,⟨j,h1,h2,h3,h4,h5⟩=>⟨j,h1,Aft h2,Aft h3,Aft h4,h5.app⟩
theorem J8 {l:List Int} {k:Nat} {y:Int} (h:l.length=k):(l++[y])[k+1 - 1]? =some y:=by
 subst h;rw [Nat.add_sub_cancel,List.getElem?_append_right (Nat.le_refl _),Nat.sub_self];rfl
abbrev ScR:=List Int×List Int×List Int×Bool
def Atk (n:Nat) (t:Option (List (Int×Int))) (r:Ctl (List Int×List Int×List Int) ScR):Prop :=
 match t with
 | some T=>∃ F I O,r=Ctl.next (F,I,O)/\F.length=n/\I.length=n/\O.length=n/\okT T/\SRel F I O n T
 | none=>∃ F I O,r=Ctl.out (F,I,O,false)
theorem Apm (l:List (ByteArray×Int×Int×List Nd)) (hl:l.length<=1048576) (s:ByteArray):(∃ (i:Nat) (d:ByteArray×Int×Int×List Nd),I8 l s=some (i:Int)/\l[i]? =some d/\l.find? (fun d=>d.1.toList==s.toList)=some d)∨(I8 l s=some (-1)/\l.find? (fun d=>d.1.toList==s.toList)=none):=by
 unfold I8
 have key:∀ i,i<=l.length->(∀ k (hk:k<l.length),k<i->(l[k].1.toList==s.toList)=false)->(∃ (i:Nat) (d:ByteArray×Int×Int×List Nd),l[i]? =some d/\l.find? (fun d=>d.1.toList==s.toList)=some d)∨l.find? (fun d=>d.1.toList==s.toList)=none:=fun i _ _=>by
  cases h:l.find? (fun d=>d.1.toList==s.toList) with
  | none=>exact .inr rfl
  | some d =>
   obtain ⟨k,hk⟩:=List.mem_iff_getElem?.1 (List.mem_of_find?_eq_some h);exact .inl ⟨k,d,hk,rfl⟩
 have hP:∃ r,Ap (fun s_:Nat=>H7 l s s_) 4611686018427387904 0=some r/\((∃ (i:Nat) (d:ByteArray×Int×Int×List Nd),r=Ctl.out (i:Int)/\l[i]? =some d/\l.find? (fun d=>d.1.toList==s.toList)=some d)∨(r=Ctl.next ()/\l.find? (fun d=>d.1.toList==s.toList)=none)):=by
  refine K6 (Post:=fun r=>(∃ (i:Nat) (d:ByteArray×Int×Int×List Nd),r=Ctl.out (i:Int)/\l[i]? =some d/\l.find? (fun d=>d.1.toList==s.toList)=some d)∨(r=Ctl.next ()/\l.find? (fun d=>d.1.toList==s.toList)=none)) l.length (fun i st=>st=i/\(l.take i).find? (fun d=>d.1.toList==s.toList)=none) oM ⟨rfl,by simp⟩ ?_ ?_
  ·rintro i st hi ⟨rfl,hI⟩;have hx:=gEg hi;unfold H7;rw [Ax oM,cond_true,hx,obs];have e:l.take (st+1)=l.take st++[l[st]]:=by rw [List.take_add_one,hx];rfl
   cases hb:(l[st].1.toList==s.toList)
   ·rw [cond_false,Af oM];exact .inl ⟨_,rfl,rfl,by rw [e,List.find?_append,hI];simp [hb]⟩
   ·refine .inr ⟨_,rfl,.inl ⟨st,l[st],rfl,hx,?_⟩⟩;have e2:l=l.take (st+1)++l.drop (st+1):=(List.take_append_drop _ _).symm
    conv=>lhs;rw [e2,e]
    rw [List.find?_append,List.find?_append,hI];simp [hb]
  ·rintro st ⟨rfl,hI⟩;unfold H7;rw [Au oM,cond_false];rw [List.take_length] at hI;exact ⟨_,rfl,.inr ⟨rfl,hI⟩⟩
 obtain ⟨r,hr,⟨i,d,rfl,h1,h2⟩|⟨rfl,h1⟩⟩:=hP
 ·rw [hr];exact .inl ⟨i,d,rfl,h1,h2⟩
 ·rw [hr];exact .inr ⟨rfl,h1⟩
theorem Auz {lib:List (ByteArray×Int×Int×List Nd)} (hll:lib.length<=1048576) (hlb:∀ d∈lib,okW (d.2.1,d.2.2.1)) {xs:List Nd} (hx:1<=xs.length/\xs.length<=400):∃ r,Ap (fun s_:Nat×List Int×List Int×List Int=>Ij xs lib s_.1 s_.2.1 s_.2.2.1 s_.2.2.2) 4611686018427387904 (0,[],[],[])=some r/\Atk xs.length (Js (lfL lib) xs []) r:=by
 refine K6 (Post:=Atk xs.length (Js (lfL lib) xs [])) xs.length (fun k s=>∃ F I O T,s=(k,F,I,O)/\F.length=k/\I.length=k/\O.length=k/\Js (lfL lib) (xs.take k) []=some T/\okT T/\SRel F I O k T) oM ⟨[],[],[],[],rfl,rfl,rfl,rfl,rfl,(fun _ h=>by cases h),rfl⟩ ?_ ?_
 ·rintro k s hk ⟨F,I,O,T,rfl,lF,lI,lO,hT,hok,hS⟩;have hn:=gEg hk;generalize xs[k]=n at hn;have hnext:=M5 hn hT;have hfail:Ec (lfL lib) n T=none->Js (lfL lib) xs []=none:=fun h=>Sk (k:=k+1) (by rw [hnext,h])
  try dsimp only
  unfold Ij;rw [Ax oM,cond_true,hn,obs,Aou,obs];by_cases hj:n.1=15∨n.1=16
  ·have hnl:lfW n=none:=by
    cases hw:lfW n with
    | none=>rfl
    | some w=>have:=R4 hw;omega
   rw [hnl];have e17:(n.1==17)=false:=by rw [beq_eq_false_iff_ne];omega
   rw [Option.isSome_none,cond_false,e17,obs,cond_false]
   have hst0:Ec (lfL lib) n T=if n.2.1=0/\K4 n.2.2=true then (match T with
     | b :: a :: r=>if n.1=15 then (if a.2=b.1 then some ((a.1,b.2) :: r) else none) else (if a.1+b.1<=12/\a.2+b.2<=12 then some ((a.1+b.1,a.2+b.2) :: r) else none)
     | _=>none) else none:=if_pos hj
   have hcond:∀ q:Option Bool,(cond (n.1 !=15) (cond (n.1 !=16) (some true) q) q:Option Bool)=q:=fun q=>by
    rcases hj with h|h <;> rw [h] <;> rfl
   rw [hcond];by_cases hv:n.2.1=0/\K4 n.2.2=true
   ·have hs':(n.2.2.toList==(⟨#[]⟩:ByteArray).toList)=true:=hv.2;rw [if_pos hv] at hst0;rw [hv.1,hs',Bool.not_true,cond_false,show ((0:Int) !=0)=false from rfl,cond_false]
    match T,hT,hok,hS,hnext,hfail,hst0 with
    | [],hT,hok,hS,hnext,hfail,hst0 =>
     refine .inr ⟨Ctl.out (F,I,O,false),?_,?_⟩
     ·have:k=0:=hS;rw [Ax oM];rfl
     ·rw [hfail hst0];exact ⟨_,_,_,rfl⟩
    | [b],hT,hok,hS,hnext,hfail,hst0 =>
     refine .inr ⟨Ctl.out (F,I,O,false),?_,?_⟩
     ·obtain ⟨j,h1,h2,h3,h4,h5⟩:=hS;have h5:j=0:=h5;subst h5;by_cases h:k<2
      ·rw [Ax oM];rfl
      ·have w1:wI ((k:Int) - 1)=((k - 1:Nat):Int):=by rw [Bc oM oM];omega
       rw [Au oM,cond_false,w1,Bq oM,Int.toNat_natCast,h2];rfl
     ·rw [hfail hst0];exact ⟨_,_,_,rfl⟩
    | b :: a :: r,hT,hok,hS,hnext,hfail,hst0 =>
     have hb:=hok b (by simp);have ha:=hok a (by simp);obtain ⟨⟨b1,b2⟩,b3,b4⟩:=hb;obtain ⟨⟨a1,a2⟩,a3,a4⟩:=ha;obtain ⟨j,h1,h2,h3,h4,j0,g1,g2,g3,g4,g5⟩:=hS;have w1:wI ((k:Int) - 1)=((k - 1:Nat):Int):=by rw [Bc oM oM];omega
     have w2:wI ((j:Int) - 1)=((j - 1:Nat):Int):=by rw [Bc oM oM];omega
     have G:∀ (l:List Int) (m:Nat),B6 l ((m:Nat):Int)=l[m]?:=fun l m=>by rw [Bq oM,Int.toNat_natCast]
     rw [Au oM,cond_false,w1];simp only [G,h2,h3,h4,obs,w2,g2,g3,g4];rw [Au (show ¬ ((j:Nat):Int)<1 by omega),cond_false];dsimp only at hst0
     have hfin:∀ w:Int×Int,Ec (lfL lib) n (b :: a :: r)=some (w :: r)->∃ s',(Df (some (Ctl.next (F++([(j0:Int)]),I++([w.1]),O++([w.2])):Ctl (List Int×List Int×List Int) (Ctl (Nat×List Int×List Int×List Int) (Ctl (List Int×List Int×List Int) ScR)))) fun q=>og (k+1<4611686018427387904) (some (Ctl.next (k+1,q.1,q.2.1,q.2.2))))=some (.next s')/\∃ F I O T,s'=(k+1,F,I,O)/\F.length=k+1/\I.length=k+1/\O.length=k+1/\Js (lfL lib) (xs.take (k+1)) []=some T/\okT T/\SRel F I O (k+1) T:=fun w hw=>by
      refine ⟨_,?_,F++[(j0:Int)],I++[w.1],O++[w.2],w :: r,rfl,by simp [lF],by simp [lI],by simp [lO],by rw [hnext,hw],Nr (Ajk hlb) hw hok,j0,by omega,J8 lF,J8 lI,J8 lO,g5.app⟩;simp only [Df,obs,Ctl.then];rw [Af oM]
     by_cases h15:n.1=15
     ·rw [if_pos h15] at hst0;rw [beq_iff_eq.2 h15,cond_true];by_cases hab:a.2=b.1
      ·rw [if_pos hab] at hst0;rw [show (a.2 !=b.1)=false by rw [hab];exact bne_self_eq_false _,cond_false];simp only [Df,obs,Ctl.then];rw [Au (show ¬ 12<a.1 by omega),Au (show ¬ 12<b.2 by omega),cond_false,obs,cond_false,Af oM,Af oM,Af oM];exact .inl (hfin (a.1,b.2) hst0)
      ·rw [if_neg hab] at hst0;rw [bne_iff_ne.2 hab,hfail hst0];exact .inr ⟨_,rfl,_,_,_,rfl⟩
     ·rw [if_neg h15] at hst0;rw [beq_eq_false_iff_ne.2 h15,cond_false,Bc (n:=a.1+b.1) oM oM,Bc (n:=a.2+b.2) oM oM];simp only [Df,obs,Ctl.then];by_cases hab:a.1+b.1<=12/\a.2+b.2<=12
      ·rw [if_pos hab] at hst0;rw [Au (show ¬ 12<a.1+b.1 by omega),Au (show ¬ 12<a.2+b.2 by omega),cond_false,obs,cond_false,Af oM,Af oM,Af oM];exact .inl (hfin (a.1+b.1,a.2+b.2) hst0)
      ·rw [if_neg hab] at hst0;rw [hfail hst0];refine .inr ⟨Ctl.out (F,I,O,false),?_,_,_,_,rfl⟩;by_cases h1:12<a.1+b.1
       ·rw [Ax h1];rfl
       ·rw [Au h1,Ax (show 12<a.2+b.2 by omega)];rfl
   ·rw [if_neg hv] at hst0;refine .inr ⟨Ctl.out (F,I,O,false),?_,?_⟩
    ·by_cases hn0:K4 n.2.2=true
     ·have hs':(n.2.2.toList==(⟨#[]⟩:ByteArray).toList)=true:=hn0;rw [hs',show (n.2.1 !=0)=true by rw [bne_iff_ne];exact fun e=>hv ⟨e,hn0⟩];rfl
     ·have hs':(n.2.2.toList==(⟨#[]⟩:ByteArray).toList)=false:=by simpa using hn0
      rw [hs'];rfl
    ·rw [hfail hst0];exact ⟨_,_,_,rfl⟩
  ·have hst:Ec (lfL lib) n T=(lfL lib n).map (· :: T):=if_neg hj;by_cases h17:n.1=17
   ·have hnl:lfW n=none:=by
     cases hw:lfW n with
     | none=>rfl
     | some w=>have:=R4 hw;omega
    have har:Fl n.1 n.2.1 n.2.2=some (1,1):=by
     unfold Fl Gp;rw [h17];rfl
    rw [hnl,Option.isSome_none,cond_false,beq_iff_eq.2 h17,obs,cond_true,har,obs,cond_true];have hlf:lfL lib n=if n.2.1=0 then (lib.find? fun d=>d.1.toList==n.2.2.toList).map fun d=>(d.2.1,d.2.2.1) else none:=if_pos h17
    rcases Apm lib hll n.2.2 with ⟨i,d,h1,h2,h3⟩|⟨h1,h3⟩
    ·have hi:=Ai h2;rw [h1,obs,Au oM,cond_false,obs];by_cases hv:n.2.1=0
     ·rw [if_pos hv,h3] at hlf;have hlf:lfL lib n=some (d.2.1,d.2.2.1):=hlf;rw [hlf] at hst;rw [hv,show ((0:Int) !=0)=false from rfl,cond_false,Bq oM,Int.toNat_natCast,h2,obs];simp only [Df,obs,Ctl.then];rw [Af oM,Af oM,Af oM];simp only [obs,Ctl.then];rw [Af oM];exact .inl ⟨_,rfl,F++[(k:Int)],I++[d.2.1],O++[d.2.2.1],(d.2.1,d.2.2.1) :: T,rfl,by simp [lF],by simp [lI],by simp [lO],by rw [hnext,hst];rfl,Nr (Ajk hlb) hst hok,k,by omega,J8 lF,J8 lI,J8 lO,hS.app⟩
     ·rw [if_neg hv] at hlf;rw [hlf] at hst;rw [bne_iff_ne.2 hv,cond_true,hfail hst];exact .inr ⟨_,rfl,_,_,_,rfl⟩
    ·have hlf:lfL lib n=none:=by rw [hlf,h3];split <;> rfl
     rw [hlf] at hst;rw [h1,obs,Ax oM,cond_true,obs,cond_true,hfail hst];exact .inr ⟨_,rfl,_,_,_,rfl⟩
   have hlw:lfL lib n=lfW n:=if_neg h17;rw [hlw] at hst;have e17:(n.1==17)=false:=beq_eq_false_iff_ne.2 h17;cases hw:lfW n with
   | some w =>
    rw [hw] at hst;rw [Option.isSome_some,cond_true,obs,cond_true,Ar8 hw,obs,e17,cond_false];simp only [Df,obs,Ctl.then];rw [Af oM,Af oM,Af oM];simp only [obs,Ctl.then];rw [Af oM];exact .inl ⟨_,rfl,F++[(k:Int)],I++[w.1],O++[w.2],w :: T,rfl,by simp [lF],by simp [lI],by simp [lO],by rw [hnext,hst];rfl,Nr (Ajk hlb) hst hok,k,by omega,J8 lF,J8 lI,J8 lO,hS.app⟩
   | none =>
    rw [hw] at hst;rw [Option.isSome_none,cond_false];refine .inr ⟨Ctl.out (F,I,O,false),?_,?_⟩
    ·have h15:n.1≠15:=fun e=>hj (.inl e)
     have h16:n.1≠16:=fun e=>hj (.inr e)
     rw [e17,obs,cond_false,bne_iff_ne.2 h15,cond_true,bne_iff_ne.2 h16];rfl
    ·rw [hfail hst];exact ⟨_,_,_,rfl⟩
 ·rintro s ⟨F,I,O,T,rfl,lF,lI,lO,hT,hok,hS⟩;rw [List.take_length] at hT;rw [hT]
  try dsimp only
  unfold Ij;rw [Au oM,cond_false];exact ⟨_,rfl,_,_,_,rfl,lF,lI,lO,hok,hS⟩
theorem Aom {lib:List (ByteArray×Int×Int×List Nd)} (hll:lib.length<=1048576) (hlb:∀ d∈lib,okW (d.2.1,d.2.2.1)) (xs:List Nd):∃ F I O b,Ln lib xs=some (F,I,O,b)/\match tyG (lfL lib) xs with|some w=>b=true/\I[xs.length - 1]? =some w.1/\O[xs.length - 1]? =some w.2|none=>b=false:=by
 unfold Ln tyG;rw [O7];by_cases hx:1<=xs.length/\xs.length<=400
 ·rw [D3.2 (show (1:Int)<=((xs.length:Nat):Int)/\((xs.length:Nat):Int)<=400 by omega),obs,Bool.not_true,cond_false,if_pos hx];obtain ⟨r,hr,hP⟩:=Auz hll hlb hx;rw [hr];cases ht:Js (lfL lib) xs [] with
  | none =>
   rw [ht] at hP;obtain ⟨F,I,O,rfl⟩:=hP;exact ⟨_,_,_,_,rfl,rfl⟩
  | some T =>
   rw [ht] at hP;obtain ⟨F,I,O,rfl,lF,lI,lO,hok,hS⟩:=hP;have hne:=Akx (fun e=>by subst e;simp at hx) ht;have w1:wI (((xs.length:Nat):Int) - 1)=((xs.length - 1:Nat):Int):=by rw [Bc oM oM];omega
   simp only [Df,obs,Ctl.then]
   match T,hne,hS with
   | w :: T,_,⟨j,h1,h2,h3,h4,h5⟩ =>
    rw [w1,Bq oM,Int.toNat_natCast,h2,obs,obs];refine ⟨F,I,O,_,rfl,?_⟩;cases T with
    | nil =>
     have h5:j=0:=h5;subst h5;exact ⟨rfl,h3,h4⟩
    | cons v T =>
     obtain ⟨j',h',_⟩:=h5;show ((j:Int)==0)=false;rw [beq_eq_false_iff_ne];omega
 ·rw [if_neg hx,show inR ((xs.length:Nat):Int) 1 400=false by rw [Bool.eq_false_iff];intro e;have:=D3.1 e;exact hx oM];exact ⟨_,_,_,_,rfl,rfl⟩
theorem Ahx (xs:List Nd):∃ F I O b,I5 xs=some (F,I,O,b)/\match tyV xs with|some w=>b=true/\I[xs.length - 1]? =some w.1/\O[xs.length - 1]? =some w.2|none=>b=false:=by
 obtain ⟨F,I,O,b,h1,h2⟩:=Aom (lib:=[]) (by simp) (fun d hd=>by cases hd) xs;rw [Aq3] at h2;refine ⟨F,I,O,b,?_,h2⟩;unfold I5;rw [h1];rfl
theorem Zm (xs:List Nd):Lz xs=some (match tyV xs with|some w=>(w.1,w.2,true)|none=>(0,0,false)):=by
 unfold Lz;obtain ⟨F,I,O,b,h,hm⟩:=Ahx xs;rw [h,obs];cases ht:tyV xs with
 | none=>rw [ht] at hm;dsimp only at hm;subst hm;rfl
 | some w =>
  rw [ht] at hm;obtain ⟨rfl,h1,h2⟩:=hm
  have hx:1<=xs.length/\xs.length<=400:=by
   unfold tyV tyG at ht;split at ht
   ·assumption
   ·cases ht
  have w1:wI (((xs.length:Nat):Int) - 1)=((xs.length - 1:Nat):Int):=by rw [Bc oM oM];omega
  dsimp only;rw [Bool.not_true,cond_false,w1,Bq oM,Int.toNat_natCast,h1,obs,obs,Bq oM,Int.toNat_natCast,h2];rfl
end
section
def szV (v:Int) (n:Nat):Int:=if v<n then -1 else v - n
theorem An1 (xs:List Int) {v:Int} (hv:0<=v/\v<=1048576) (hx:xs.length<=9223372036854775807):Lj xs v=some (szV v xs.length):=by
 unfold Lj szV;rw [Bc oM oM];by_cases h:v<xs.length
 ·rw [Ax oM,if_pos h];rfl
 ·rw [Au oM,if_neg h];rfl
theorem Aqk (xs:List Int) (hx:xs.length<=1073741824):Lq xs=some xs:=by
 unfold Lq;rw [Af oM]
 have h:Ap (fun s_:Nat×List Int=>Hy xs s_.1 s_.2) 4611686018427387904 (0,List.replicate xs.length (0:Int))=some xs:=by
  refine A3 xs.length (fun i=>(i,xs.take i++List.replicate (xs.length - i) 0)) oM xs (by simp) (fun i hi=>?_) ?_
  ·have hx:=gEg hi
   try dsimp only
   unfold Hy;rw [Ax oM,cond_true,hx,obs,Wo hi,obs,Af oM,Vu hx]
  ·try dsimp only
   unfold Hy;rw [Au oM,cond_false];simp
 rw [h];rfl
theorem Aql (xs:List Int) (hx:xs.length<=1073741824):Lx xs xs=some true:=by
 unfold Lx
 have h:Ap (fun s_:Nat=>Id xs xs s_) 4611686018427387904 0=some (.next ()):=by
  refine A3 xs.length (fun i=>i) oM _ rfl (fun i hi=>?_) ?_
  ·have hx:=gEg hi
   try dsimp only
   unfold Id;rw [Ax oM,cond_true,hx,obs,obs,bne_self_eq_false,cond_false,Af oM]
  ·try dsimp only
   unfold Id;rw [Au oM,cond_false]
 rw [h,bne_self_eq_false,cond_false];rfl
end
section
section
variable {σ ρ:Type}
end
def Il (b:Nat) (xss:List (List Int)):Prop:=∀ x∈xss,x.length<=b
def L5 (xss:List (List Int)):Nat:=(xss.map List.length).sum
theorem Amg {xss:List (List Int)} {i:Nat} (h:i<xss.length):L5 (xss.take (i+1))=L5 (xss.take i)+xss[i].length:=by
 unfold L5;rw [List.take_add_one,gEg h];simp only [Option.toList,List.map_append,List.map_cons,List.map_nil,List.sum_append,List.sum_cons,List.sum_nil,Nat.add_zero]
theorem Amu (xss:List (List Int)) (hn:xss.length<=1048576) (hb:Il 1048576 xss):Kw xss xss=some true:=by
 unfold Kw
 have h:Ap (fun s_:Nat=>Gw xss xss s_) 4611686018427387904 0=some (.next ()):=by
  refine A3 xss.length (fun i=>i) oM _ rfl (fun i hi=>?_) ?_
  ·have hx:=gEg hi;have:=hb _ (List.getElem_mem hi)
   try dsimp only
   unfold Gw;rw [Ax oM,cond_true,hx,obs,obs,Aql _ oM,obs,Bool.not_true,cond_false,Af oM]
  ·try dsimp only
   unfold Gw;rw [Au oM,cond_false]
 rw [h,bne_self_eq_false,cond_false];rfl
def szW (v:Int) (xss:List (List Int)):Int:=if v<xss.length+L5 xss then -1 else v - (xss.length+L5 xss)
theorem Auq {v:Int} {xss:List (List Int)} (hv:v<=1048576) (h:¬ szW v xss<0):xss.length+L5 xss<=1048576/\Il 1048576 xss/\szW v xss=v - (xss.length+L5 xss):=by
 unfold szW at h ⊢;split at h
 ·omega
 rename_i h1;have h2:xss.length+L5 xss<=1048576:=by omega
 refine ⟨h2,fun x hx=>?_,if_neg h1⟩
 have:∀ {l:List (List Int)},x∈l->x.length<=L5 l:=by
  intro l
  induction l with
  | nil=>intro h;cases h
  | cons y r ih =>
   intro h;simp only [L5,List.map_cons,List.sum_cons] at ih ⊢;rcases List.mem_cons.1 h with rfl|h
   ·omega
   ·have:=ih h;omega
 have:=this hx;omega
theorem Amq (xss:List (List Int)) {v:Int} (hv:0<=v/\v<=1048576) (hn:xss.length<=9223372036854775807) (hb:Il 9223372036854775807 xss):Kt xss v=some (szW v xss):=by
 unfold Kt;rw [Bc oM oM];by_cases h0:v<xss.length
 ·rw [Ax oM,szW,if_pos oM];rfl
 rw [Au oM,cond_false]
 have h:Ap (fun s_:Int×Nat=>G4 xss s_.1 s_.2) 4611686018427387904 (v - xss.length,0)=some (if v<xss.length+L5 xss then .out (-1) else .next (v - (xss.length+L5 xss))):=by
  have hm:∀ i,L5 (xss.take i)<=L5 xss:=fun i=>by
   have:L5 xss=L5 (xss.take i)+L5 (xss.drop i):=by
    conv=>lhs;rw [← List.take_append_drop i xss]
    rw [L5,List.map_append,List.sum_append];rfl
   omega
  refine I1 xss.length (fun i s=>s=(v - xss.length - L5 (xss.take i),i)/\(xss.length:Int)+L5 (xss.take i)<=v) oM _ ⟨by simp [L5],by simp [L5];omega⟩ ?_ ?_
  ·rintro i s hi ⟨rfl,h1⟩;have hx:=gEg hi;have hr:=hb _ (List.getElem_mem hi);have hs:=Amg hi;have hm1:=hm (i+1)
   try dsimp only
   unfold G4;rw [Ax oM,cond_true,hx,obs,An1 _ oM hr,obs,szV];by_cases h2:v - xss.length - L5 (xss.take i)<xss[i].length
   ·refine .inr ?_;rw [if_pos h2,if_pos oM];rfl
   ·refine .inl ⟨(v - xss.length - L5 (xss.take (i+1)),i+1),?_,rfl,by omega⟩;rw [if_neg h2,Au oM,cond_false,Af oM,hs,show v - ↑xss.length - ↑(L5 (List.take i xss)) - ↑xss[i].length=v - ↑xss.length - ↑(L5 (List.take i xss)+xss[i].length) by omega]
  ·rintro s ⟨rfl,h1⟩;rw [List.take_length] at h1 ⊢
   try dsimp only
   unfold G4;rw [Au oM,cond_false,if_neg oM];simp [Int.sub_sub]
 rw [h,szW];split <;> rfl
theorem Amm (xss:List (List Int)) (hn:xss.length<=1048576) (hb:Il 1048576 xss):Ko xss=some xss:=by
 unfold Ko;rw [Af oM]
 have h:Ap (fun s_:Nat×List (List Int)=>G7 xss s_.1 s_.2) 4611686018427387904 (0,List.replicate xss.length ([]:List Int))=some xss:=by
  refine A3 xss.length (fun i=>(i,xss.take i++List.replicate (xss.length - i) [])) oM xss (by simp) (fun i hi=>?_) ?_
  ·have hx:=gEg hi;have hr:=hb _ (List.getElem_mem hi)
   try dsimp only
   unfold G7;rw [Ax oM,cond_true,hx,obs,Aqk _ oM,obs,Wo hi,obs,Af oM,Vu hx]
  ·try dsimp only
   unfold G7;rw [Au oM,cond_false];simp
 rw [h];rfl
theorem Asd {R:Nat->Prop} {w:World} {t:Ty} {A:Option Addr} {c:Nat} {xss:List (List t.D)} {l:List Addr} (h:Sl R w (.slice t) A c xss l):∀ x∈xss,x.length<=9223372036854775807:=by
 obtain ⟨_,_,f,_,h4⟩:=h;intro x hx;obtain ⟨i,hi,rfl⟩:=List.getElem_of_mem hx;obtain ⟨_,_,_,h5⟩:=h4 oM;obtain ⟨A',c',_,h6⟩:=h5 i hi;exact (Ah2 (xs:=xss[i]) h6).2
end
section
def inV (p:Int) (x:List Int):Prop:=∀ a,a∈x->0<=a/\a<p
def VecW (p:Int) (w:Nat) (x:List Int):Prop:=x.length=w/\inV p x
def MatW (p:Int) (w:Nat) (m:List (List Int)):Prop:=∀ x,x∈m->VecW p w x
def Ef (p k:Int) (v:List Int):List Int:=v.map fun a=>a*k % p
def Da (p f:Int) (x v:List Int):List Int:=List.zipWith (fun a b=>(a - f*b) % p) x v
def Dq (m:List (List Int)) (c r:Nat):Nat:=r+(m.drop r).findIdx fun x=>x.getD c 0 !=0
def Kz (m:List (List Int)) (r k:Nat):List (List Int):=(m.set r (m.getD k [])).set k (m.getD r [])
def Gu (p:Int) (c r:Nat) (pr:List Int) (m:List (List Int)):List (List Int):=m.mapIdx fun i x=>if i=r then pr else Da p (x.getD c 0) x pr
def Nq (p a:Int):Int:=(((List.range p.toNat).find? fun (x:Nat)=>a*(x:Int) % p==1).getD 0:Nat)
def prV (p:Int) (c:Nat) (x:List Int):List Int:=Ef p (Nq p (x.getD c 0)) x
def gjS (p:Int) (c:Nat) (s:Nat×List (List Int)):Nat×List (List Int) :=
 if s.1<s.2.length then
  if Dq s.2 c s.1=s.2.length then s
  else (s.1+1,Gu p c s.1 (prV p c (s.2.getD (Dq s.2 c s.1) [])) (Kz s.2 s.1 (Dq s.2 c s.1)))
 else s
def gjT (p:Int) (m:List (List Int)):Nat->Nat×List (List Int)
 | 0=>(0,m)
 | c+1=>gjS p c (gjT p m c)
def gj (p:Int) (n:Nat) (m:List (List Int)):List (List Int):=(gjT p m n).2.take (gjT p m n).1
theorem Qz {p x:Int} (hp:2<=p):0<=x % p/\x % p<p:=⟨Int.emod_nonneg x oM,Int.emod_lt_of_pos x oM⟩
theorem Rt {p k:Int} {w:Nat} {x:List Int} (hp:2<=p) (h:x.length=w):VecW p w (Ef p k x) :=
 ⟨by simp [Ef,h],fun a ha=>by obtain ⟨b,_,rfl⟩:=List.mem_map.1 ha;exact Qz hp⟩
theorem Aie {α β γ:Type} {f:α->β->γ}:∀ {x:List α} {v:List β} {c:γ},c∈List.zipWith f x v->∃ a b,c=f a b
 | [],_,_,h=>by simp at h
 | _ :: _,[],_,h=>by simp at h
 | a :: x,b :: v,c,h=>by
  rw [List.zipWith_cons_cons,List.mem_cons] at h;rcases h with h|h
  ·exact ⟨a,b,h⟩
  ·exact Aie h
theorem Af2 {p f:Int} {w:Nat} {x v:List Int} (hp:2<=p) (hx:x.length=w) (hv:v.length=w):VecW p w (Da p f x v) :=
 ⟨by simp [Da,hx,hv],fun a ha=>by obtain ⟨b,c,rfl⟩:=Aie ha;exact Qz hp⟩
theorem Wv {p:Int} {x v:List Int} (hx:inV p x) (hl:x.length<=v.length):Da p 0 x v=x:=by
 apply List.ext_getElem
 ·simp [Da];omega
 ·intro i h1 h2;have:=hx x[i] (List.getElem_mem h2);simp only [Da,List.getElem_zipWith,Int.zero_mul,Int.sub_zero];exact Int.emod_eq_of_lt this.1 this.2
theorem Bg {α:Type} {m:List α} {i:Nat} {d x:α} (h:m[i]? =some x):m.getD i d=x:=by rw [gDg,h];rfl
theorem Ju {α:Type} {m:List α} {i:Nat} (h:i<m.length):∃ x,m[i]? =some x:=⟨_,gEg h⟩
theorem Rm {m:List (List Int)} {c r:Nat} (h:r<=m.length):Dq m c r<=m.length:=by
 have:=List.findIdx_le_length (xs:=m.drop r) (p:=fun x=>x.getD c 0 !=0);rw [List.length_drop] at this;unfold Dq;omega
theorem Atz (m:List (List Int)) (c r:Nat):r<=Dq m c r:=by unfold Dq;omega
theorem Ab9 {m:List (List Int)} {c r i:Nat} (h1:r<=i) (h2:i<Dq m c r) (hr:r<=m.length):(m.getD i []).getD c 0=0:=by
 have hl:=Rm (c:=c) hr;have h3:i - r<(m.drop r).findIdx fun x=>x.getD c 0 !=0:=by unfold Dq at h2;omega
 have h4:i - r<(m.drop r).length:=by rw [List.length_drop];omega
 have h5:=List.not_of_lt_findIdx h3;rw [List.getElem_drop] at h5
 have e:m[r+(i - r)]'(by rw [List.length_drop] at h4;omega)=m.getD i []:=by
  rw [gDg,gEg oM];simp only [show r+(i - r)=i by omega,Option.getD_some]
 rw [e] at h5
 simpa using h5
theorem Ab4 {m:List (List Int)} {c r:Nat} (h:Dq m c r≠m.length) (hr:r<=m.length):(m.getD (Dq m c r) []).getD c 0≠0:=by
 have hl:=Rm (c:=c) hr;have h4:(m.drop r).findIdx (fun x=>x.getD c 0 !=0)<(m.drop r).length:=by rw [List.length_drop];unfold Dq at h hl;omega
 have h5:=List.findIdx_getElem (w:=h4);rw [List.getElem_drop] at h5
 have e:m[r+(m.drop r).findIdx (fun x=>x.getD c 0 !=0)]'(by rw [List.length_drop] at h4;omega)=m.getD (Dq m c r) []:=by
  rw [gDg,gEg oM];rfl
 rw [e] at h5
 simpa using h5
theorem P8 (m:List (List Int)) (r k:Nat):(Kz m r k).length=m.length:=by simp [Kz]
theorem Oj (p:Int) (c r:Nat) (pr:List Int) (m:List (List Int)):(Gu p c r pr m).length=m.length:=by simp [Gu]
theorem Hi {m:List (List Int)} {i:Nat} (h:i<m.length):m.getD i []∈m:=by
 rw [gDg,gEg h];exact List.getElem_mem h
theorem Yt {p:Int} {w:Nat} {m:List (List Int)} {r k:Nat} (h:MatW p w m) (hr:r<m.length) (hk:k<m.length):MatW p w (Kz m r k):=by
 intro x hx;unfold Kz at hx;rcases List.mem_or_eq_of_mem_set hx with hx|rfl
 ·rcases List.mem_or_eq_of_mem_set hx with hx|rfl
  ·exact h x hx
  ·exact h _ (Hi hk)
 ·exact h _ (Hi hr)
theorem Are {p:Int} {w c r:Nat} {m:List (List Int)} {pr:List Int} (hp:2<=p) (h:MatW p w m) (hpr:VecW p w pr):MatW p w (Gu p c r pr m):=by
 intro x hx;unfold Gu at hx;obtain ⟨i,hi,rfl⟩:=List.mem_mapIdx.1 hx;split
 ·exact hpr
 ·exact Af2 hp (h _ (List.getElem_mem hi)).1 hpr.1
theorem Ava {p:Int} {w c:Nat} {s:Nat×List (List Int)} (hp:2<=p) (h:MatW p w s.2) (hr:s.1<=s.2.length):MatW p w (gjS p c s).2/\(gjS p c s).1<=(gjS p c s).2.length/\(gjS p c s).2.length=s.2.length:=by
 unfold gjS;split
 ·rename_i h1;split
  ·exact ⟨h,hr,rfl⟩
  ·rename_i h2;have h3:=Rm (c:=c) hr;have hk:Dq s.2 c s.1<s.2.length:=by omega
   refine ⟨Are hp (Yt h h1 hk) (Rt hp (h _ (Hi hk)).1),?_,?_⟩
   ·simp only [Oj,P8];omega
   ·simp only [Oj,P8]
 ·exact ⟨h,hr,rfl⟩
theorem Lb {p:Int} {w:Nat} {m:List (List Int)} (hp:2<=p) (h:MatW p w m):∀ c,MatW p w (gjT p m c).2/\(gjT p m c).1<=(gjT p m c).2.length/\(gjT p m c).2.length=m.length
 | 0=>⟨h,Nat.zero_le _,rfl⟩
 | c+1=>by
  obtain ⟨h1,h2,h3⟩:=Lb hp h c;obtain ⟨k1,k2,k3⟩:=Ava (c:=c) hp h1 h2;exact ⟨k1,k2,k3.trans h3⟩
theorem Aad {p:Int} {m:List (List Int)} {c:Nat} (h:¬ (gjT p m c).1<(gjT p m c).2.length):∀ d,c<=d->gjT p m d=gjT p m c
 | 0, h0 => by obtain rfl : c = 0 := by omega
               rfl
 | d+1,h0=>by
  by_cases e:c=d+1
  ·rw [e]
  ·have ih:=Aad h d oM;show gjS p d (gjT p m d)=_;rw [ih];unfold gjS;rw [if_neg h]
theorem Adz {p:Int} {n w:Nat} {m:List (List Int)} (hp:2<=p) (h:MatW p w m):(gj p n m).length=(gjT p m n).1:=by
 obtain ⟨_,h2,_⟩:=Lb hp h n;unfold gj;rw [List.length_take];omega
theorem Rj {p:Int} {n w:Nat} {m:List (List Int)} (hp:2<=p) (h:MatW p w m):MatW p w (gj p n m):=fun x hx=>(Lb hp h n).1 x (List.mem_of_mem_take hx)
end
section
def At0 (p a:Int):Bool:=match Mz p a with
 | some v=>(v==Nq p a)&&((Kg p a==some v)&&((decide (0<=v)&&decide (v<p))&&(a*v % p==1)))
 | none=>false
def ivB:Bool:=(List.range 98).all fun p=> !(isF p)||(List.range p).all fun a=>a==0||At0 (p:Int) (a:Int)
theorem Aor:ivB=true:=by kernel_rfl
theorem Ae2 {p a:Int} (hp:isF p=true) (ha:1<=a/\a<p):Mz p a=some (Nq p a)/\Kg p a=some (Nq p a)/\0<=Nq p a/\Nq p a<p/\a*Nq p a % p=1:=by
 have hb:=Ca hp;obtain ⟨q,rfl⟩:=Int.eq_ofNat_of_zero_le (show 0<=p by omega);obtain ⟨b,rfl⟩:=Int.eq_ofNat_of_zero_le (show 0<=a by omega);have h1:=List.all_eq_true.1 Aor q (List.mem_range.2 oM);rw [hp,Bool.not_true,Bool.false_or] at h1;have h2:=List.all_eq_true.1 h1 b (List.mem_range.2 oM)
 have h3:At0 (q:Int) (b:Int)=true:=by
  rcases (Bool.or_eq_true _ _).mp h2 with h|h
  ·have:b=0:=by simpa using h
   omega
  ·exact h
 unfold At0 at h3;split at h3
 ·rename_i v hv;simp only [Bool.and_eq_true,beq_iff_eq,decide_eq_true_eq] at h3;obtain ⟨h4,h5,⟨h6,h7⟩,h8⟩:=h3;subst h4;exact ⟨hv,h5,h6,h7,h8⟩
 ·cases h3
end
section
theorem Ata {p x y:Int} (hp:2<=p/\p<=97) (hx:0<=x/\x<p) (hy:0<=y/\y<p):Mt p x y=some ((x - y) % p):=by
 unfold Mt;rw [Af oM,Bc (n:=x+p) oM oM,Bc oM oM,Int.tmod_eq_emod_of_nonneg oM,show x+p - y=x - y+p by omega,Int.add_emod_right]
theorem Aes {ρ:Type} {body:Nat×List (List Int)->Option (Ctl (Nat×List (List Int)) ρ)} {M:List (List Int)} {r:Nat} {x y:List Int} {o:ρ} (hx:M[r]? =some x) (hl:y.length=x.length) (hb:x.length<4611686018427387904)
  (hs:∀ j (h:j<x.length) (z:List Int),z[j]? =some x[j]->body (j,M.set r z)=some (.next (j+1,M.set r (z.set j (y[j]'oM))))) (he:body (x.length,M.set r y)=some (.out o)) :
  Ap body 4611686018427387904 (0,M)=some o:=by
 refine A3 x.length (fun j=>(j,M.set r (y.take j++x.drop j))) hb _ ?_ (fun j hj=>?_) ?_
 ·obtain ⟨h1,h2⟩:=gSi.1 hx;simp only [List.take_zero,List.nil_append,List.drop_zero];rw [← h2,List.set_getElem_self]
 ·have h1:(y.take j).length=j:=by rw [List.length_take];omega
  rw [hs j hj _ (Ph hj h1),Pb hj h1,List.take_add_one,gEg oM];rfl
 ·rw [List.drop_length,List.append_nil,← hl,List.take_length,hl];exact he
theorem Vi {ρ:Type} {body:Nat×List Int->Option (Ctl (Nat×List Int) ρ)} {x y:List Int} {o:ρ} (hl:y.length=x.length) (hb:x.length<4611686018427387904)
  (hs:∀ j (h:j<x.length) (z:List Int),z[j]? =some x[j]->body (j,z)=some (.next (j+1,z.set j (y[j]'oM)))) (he:body (x.length,y)=some (.out o)) :
  Ap body 4611686018427387904 (0,x)=some o:=by
 refine A3 x.length (fun j=>(j,y.take j++x.drop j)) hb _ rfl (fun j hj=>?_) ?_
 ·have h1:(y.take j).length=j:=by rw [List.length_take];omega
  rw [hs j hj _ (Ph hj h1),Pb hj h1,List.take_add_one,gEg oM];rfl
 ·rw [List.drop_length,List.append_nil,← hl,List.take_length,hl];exact he
theorem Aq9 {ρ:Type} {body:Nat×List (List Int)->Option (Ctl (Nat×List (List Int)) ρ)} {M E:List (List Int)} {r:Nat} {pr:List Int} {o:ρ} (hl:E.length=M.length) (hM:M[r]? =some pr) (hE:E[r]? =some pr)
  (hb:M.length<4611686018427387904) (hs:∀ i (h:i<M.length) (s:List (List Int)),s.length=M.length->s[i]? =some M[i]->s[r]? =some pr->body (i,s)=some (.next (i+1,s.set i (E[i]'oM)))) (he:body (M.length,E)=some (.out o)) :
  Ap body 4611686018427387904 (0,M)=some o:=by
 refine A3 M.length (fun j=>(j,E.take j++M.drop j)) hb _ rfl (fun j hj=>?_) ?_
 ·have h1:(E.take j).length=j:=by rw [List.length_take];omega
  rw [hs j hj _ (by simp;omega) (Ph hj h1) ?_,Pb hj h1,List.take_add_one,gEg oM];rfl;by_cases h2:r<j
  ·rw [List.getElem?_append_left oM,List.getElem?_take,if_pos h2];exact hE
  ·rw [List.getElem?_append_right oM,h1,List.getElem?_drop,show j+(r - j)=r by omega];exact hM
 ·rw [List.drop_length,List.append_nil,← hl,List.take_length,hl];exact he
theorem Sh {α:Type} {m:List α} {i:Nat} {x z:α} (h:m[i]? =some x):(m.set i z)[i]? =some z:=by
 rw [List.getElem?_set_self (Ai h)]
theorem Nv {α:Type} {m:List α} {i:Nat} {x:α} (h:m[i]? =some x):m.set i x=m:=by
 obtain ⟨h1,h2⟩:=gSi.1 h;rw [← h2,List.set_getElem_self]
theorem Aji {α:Type} {m:List α} {i j:Nat} {z:α} (h:i≠j):(m.set i z)[j]? =m[j]?:=List.getElem?_set_ne h
theorem Af1 {p k:Int} {x:List Int} {j:Nat} (h:j<(Ef p k x).length):(Ef p k x)[j]=x[j]'(by simpa [Ef] using h)*k % p:=by simp [Ef]
theorem Ag8 {p f:Int} {x v:List Int} {j:Nat} (h:j<(Da p f x v).length):(Da p f x v)[j]=(x[j]'(by simp [Da] at h;omega) - f*v[j]'(by simp [Da] at h;omega)) % p:=by simp [Da]
theorem Of {p:Int} {c r:Nat} {pr:List Int} {m:List (List Int)} {i:Nat} (h:i<(Gu p c r pr m).length) :
  (Gu p c r pr m)[i]=if i=r then pr else Da p ((m[i]'(by simpa [Gu] using h)).getD c 0) (m[i]'(by simpa [Gu] using h)) pr:=by simp [Gu]
theorem Nt {p:Int} {w j:Nat} {x:List Int} (hx:VecW p w x) (hj:j<x.length):0<=x[j]/\x[j]<p:=hx.2 _ (List.getElem_mem hj)
theorem Cp {p:Int} {w j:Nat} {x:List Int} (hx:VecW p w x) (hj:j<w):0<=x.getD j 0/\x.getD j 0<p/\x[j]? =some (x.getD j 0):=by
 have h:j<x.length:=by rw [hx.1];exact hj
 have e:x[j]? =some x[j]:=gEg h;rw [Bg e];exact ⟨(Nt hx h).1,(Nt hx h).2,e⟩
theorem Asw {p f a b:Int}:(a - f*b % p) % p=(a - f*b) % p:=by rw [Int.sub_emod_emod]
section
variable {p:Int} {w:Nat} {m:List (List Int)}
theorem Anb {r:Nat} {x:List Int} {k:Int} (hp:2<=p/\p<=97) (hx:VecW p w x) (hw:w<=100000) (hr:m[r]? =some x) (hk:0<=k/\k<p) :
  Ap (fun s_:Nat×List (List Int)=>F6 x r p k s_.1 s_.2) 4611686018427387904 (0,m)=some (m.set r (Ef p k x)):=by
 have hl:=hx.1;refine Aes hr (y:=Ef p k x) (by simp [Ef]) oM (fun j hj z hz=>?_) ?_
 ·have hv:=Nt hx hj
  try dsimp only
  unfold F6;rw [Ax oM,cond_true,Sh hr,obs,hz,obs,Ak6 hp hv hk,obs,Af oM,List.set_set,Af1]
 ·try dsimp only
  unfold F6;rw [Au oM,cond_false]
theorem Apq {i r:Nat} {x v:List Int} {f:Int} (hp:2<=p/\p<=97) (hx:VecW p w x) (hv:VecW p w v) (hw:w<=100000) (hi:m[i]? =some x) (hr:m[r]? =some v) (hn:i≠r) (hf:0<=f/\f<p) :
  Ap (fun s_:Nat×List (List Int)=>Gd x i r p f s_.1 s_.2) 4611686018427387904 (0,m)=some (m.set i (Da p f x v)):=by
 have hl:=hx.1;have hl':=hv.1;refine Aes hi (y:=Da p f x v) (by simp [Da];omega) oM (fun j hj z hz=>?_) ?_
 ·have h1:=Nt hx hj;have h2:=Nt hv (j:=j) oM
  try dsimp only
  unfold Gd
  rw [Ax oM,cond_true,Sh hi,obs,hz,obs,Aji hn,hr,obs,gEg (show j<v.length by omega),obs,Ak6 hp hf h2,obs,
   Ata hp h1 (Qz hp.1),obs,Af oM,List.set_set,Ag8,Asw]
 ·try dsimp only
  unfold Gd;rw [Au oM,cond_false]
theorem Afz {c r:Nat} {pr:List Int} (h:r<m.length):(Gu p c r pr m)[r]? =some pr:=by
 rw [gEg (by rw [Oj];exact h),Of,if_pos rfl]
theorem Aoi {M0:List (List Int)} {c r:Nat} {pr:List Int} (hp:2<=p/\p<=97) (hm:MatW p w m) (hw:w<=100000) (hl:m.length<=100000) (hr:m[r]? =some pr) (hc:c<w) (h0:M0.length=m.length) :
  Ap (fun s_:Nat×List (List Int)=>F8 M0 r c p s_.1 s_.2) 4611686018427387904 (0,m)=some (Gu p c r pr m):=by
 refine Aq9 (E:=Gu p c r pr m) (Oj ..) hr (Afz (Ai hr)) oM (fun i hi s hs h1 h2=>?_) ?_
 ·have hx:=hm _ (List.getElem_mem hi);have hv:=hm _ (List.mem_of_getElem? hr);obtain ⟨g1,g2,g3⟩:=Cp hx hc;generalize hxe:m[i]=x at *
  try dsimp only
  unfold F8;rw [Ax oM,cond_true,Of,hxe];by_cases hir:i=r
  ·subst hir;rw [if_pos rfl,show (((i:Nat):Int)==((i:Nat):Int))=true from beq_self_eq_true _,cond_true,obs,cond_true,obs,Af oM,Nv h2]
  ·rw [if_neg hir,show (((i:Nat):Int)==((r:Nat):Int))=false from by rw [beq_eq_false_iff_ne];omega,cond_false,h1,obs,g3,obs,obs];by_cases h0:x.getD c 0=0
   ·rw [h0,show ((0:Int)==0)=true from rfl,cond_true,obs,Af oM,Wv hx.2 (by rw [hx.1,hv.1];exact Nat.le_refl _),Nv h1]
   ·rw [show (x.getD c 0==0)=false from beq_eq_false_iff_ne.2 h0,cond_false,obs,g3,obs,Apq hp hx hv hw h1 h2 hir ⟨g1,g2⟩,obs,Af oM]
 ·try dsimp only
  unfold F8;rw [Au oM,cond_false]
theorem Ajy {c r:Nat} {pr y:List Int}:Gu p c r pr (m.set r y)=Gu p c r pr m:=by
 apply List.ext_getElem
 ·rw [Oj,Oj,List.length_set]
 ·intro i h1 h2;rw [Of,Of];by_cases h:i=r
  ·rw [if_pos h,if_pos h]
  ·rw [if_neg h,if_neg h];simp only [List.getElem_set,if_neg (fun e=>h (Eq.symm e))]
theorem As3 {c r:Nat} (hm:MatW p w m) (hc:c<w) (hl:m.length<=100000) (hr:r<=m.length) :
  Ap (fun s_:Nat=>Ep m c s_) 4611686018427387904 r=some (Dq m c r):=by
 have hle:=Rm (c:=c) hr;refine A3 ((m.drop r).findIdx fun x=>x.getD c 0 !=0) (fun t=>r+t) (by unfold Dq at hle;omega) _ rfl (fun t ht=>?_) ?_
 ·have h1:r+t<Dq m c r:=by unfold Dq;omega
  have h0:=Ab9 (i:=r+t) oM h1 hr;obtain ⟨x,hx⟩:=Ju (show r+t<m.length by omega);obtain ⟨g1,g2,g3⟩:=Cp (hm _ (List.mem_of_getElem? hx)) hc;rw [Bg hx] at h0
  try dsimp only
  unfold Ep;rw [Ax oM,cond_true,hx,obs,g3,obs,obs,h0,show ((0:Int)==0)=true from rfl,cond_true,Af oM,Nat.add_assoc]
 ·show Ep m c (Dq m c r)=_;unfold Ep;by_cases h:Dq m c r=m.length
  ·rw [Au oM,cond_false,obs,cond_false]
  ·have h0:=Ab4 h hr;obtain ⟨x,hx⟩:=Ju (show Dq m c r<m.length by omega);obtain ⟨g1,g2,g3⟩:=Cp (hm _ (List.mem_of_getElem? hx)) hc;rw [Bg hx] at h0;rw [Ax oM,cond_true,hx,obs,g3,obs,obs,beq_eq_false_iff_ne.2 h0,cond_false]
theorem Aq2 {r k:Nat} (hr:r<m.length) (hk:k<m.length):(Kz m r k)[r]? =some (m.getD k []):=by
 unfold Kz;by_cases h:r=k
 ·subst h;rw [List.getElem?_set_self (by rw [List.length_set];exact hr)]
 ·rw [List.getElem?_set_ne (Ne.symm h),List.getElem?_set_self hr]
theorem Aqz {n:Nat} (hp:isF p=true) (hm:MatW p w m) (hn:n<=w) (hw:w<=100000) (hl:m.length<=100000) :
  Ap (fun s_:Nat×Nat×List (List Int)=>Di (n:Int) p s_.1 s_.2.1 s_.2.2) 4611686018427387904 (0,0,m)=some (gjT p m n):=by
 have hb:=Ca hp;refine I1 n (fun c s=>s=((gjT p m c).1,c,(gjT p m c).2)) oM _ rfl (fun c s hc hI=>?_) (fun s hI=>?_)
 ·subst hI;obtain ⟨hm',hr,hl'⟩:=Lb hb.1 hm c;by_cases hlt:(gjT p m c).1<(gjT p m c).2.length
  ·refine .inl ?_;refine ⟨_,?_,rfl⟩;show Di _ _ _ _ _=some (Ctl.next ((gjS p c (gjT p m c)).1,c+1,(gjS p c (gjT p m c)).2));generalize gjT p m c=s at *;obtain ⟨r,M⟩:=s
   try dsimp only at *
   unfold Di gjS;rw [Ax oM,cond_true,obs,Ax oM,cond_true,As3 hm' oM oM hr,obs,if_pos hlt];by_cases hk:Dq M c r=M.length
   ·rw [hk,beq_self_eq_true,cond_true,obs,if_pos rfl];exact Af oM _
   ·have hle:=Rm (c:=c) hr;have hkl:Dq M c r<M.length:=by omega
    rw [show (((Dq M c r:Nat):Int)==((M.length:Nat):Int))=false from by rw [beq_eq_false_iff_ne];omega,cond_false,if_neg hk];have hnz:=Ab4 hk hr;obtain ⟨x,hx⟩:=Ju hlt;obtain ⟨y,hy⟩:=Ju hkl;have hyM:=hm' _ (List.mem_of_getElem? hy);obtain ⟨g1,g2,g3⟩:=Cp hyM (show c<w by omega);rw [Bg hy] at hnz;obtain ⟨i1,_,i2,i3,_⟩:=Ae2 hp (a:=y.getD c 0) oM;have hs:=Aq2 hlt hkl;have hpm:=Yt hm' hlt hkl;have hsl:=P8 M r (Dq M c r);have hsw:(M.set r y).set (Dq M c r) x=Kz M r (Dq M c r):=by unfold Kz;rw [Bg hx,Bg hy]
    rw [hx,obs,hy,obs,hsw,Bg hy];rw [Bg hy] at hs;generalize Kz M r (Dq M c r)=W at *;have hpr:VecW p w (Ef p (Nq p (y.getD c 0)) y):=Rt hb.1 hyM.1
    rw [hs,obs,g3,obs,i1,obs,Anb hb hyM hw hs ⟨i2,i3⟩,obs,
     Aoi hb (w:=w) (m:=W.set r (Ef p (Nq p (y.getD c 0)) y)) (pr:=Ef p (Nq p (y.getD c 0)) y) (fun z hz=>?_) hw (by rw [List.length_set];omega) (Sh hs) oM rfl,obs,Af oM,obs,Ajy]
    ·exact Af oM _
    ·rcases List.mem_or_eq_of_mem_set hz with hz|rfl
     ·exact hpm _ hz
     ·exact hpr
  ·refine .inr ?_;rw [Aad hlt n oM];generalize gjT p m c=s at *
   try dsimp only
   unfold Di;rw [Ax oM,cond_true,obs,Au oM,cond_false]
 ·subst hI
  try dsimp only
  unfold Di;rw [Au oM,cond_false,obs,cond_false]
theorem Ard (hm:MatW p w m) (hw:w<=100000) (hl:m.length<=100000) :
  Ap (fun s_:Nat×List (List Int)=>Em m s_.1 s_.2) 4611686018427387904 (0,([]:List (List Int)))=some m:=by
 have h:=Dx (body:=fun s_:Nat×List (List Int)=>Em m s_.1 s_.2) m id [] (F:=4611686018427387904) oM m (fun i x h=>?_) ?_
 ·simpa using h
 ·have:=Ai h;have hx:=(hm x (List.mem_of_getElem? h)).1
  try dsimp only
  unfold Em;rw [Ax oM,cond_true,h,obs,Yr _ oM,obs,Af (by simp;omega),Af oM];rfl
 ·try dsimp only
  unfold Em;rw [Au oM,cond_false,List.map_id,List.nil_append]
theorem Pv {n:Nat} (hp:isF p=true) (hm:MatW p w m) (hn:n<=w) (hw:w<=100000) (hl:m.length<=100000):D1 p (n:Int) m=some (gj p n m):=by
 have hb:=Ca hp;obtain ⟨_,h2,h3⟩:=Lb hb.1 hm n;unfold D1;rw [Ard hm hw hl,obs,Aqz hp hm hn hw hl,obs];exact Af oM _
end
end
section
theorem Anv {ρ:Type} {body:Nat×List (List Int)×List (List Int)->Option (Ctl (Nat×List (List Int)×List (List Int)) ρ)} {M E A B:List (List Int)} {r:Nat} {pr pa:List Int} {o:ρ}
  (hl:E.length=M.length) (hA:A.length=M.length) (hB:B.length=M.length) (hM:M[r]? =some pr) (hE:E[r]? =some pr) (hM':A[r]? =some pa) (hE':B[r]? =some pa) (hb:M.length<4611686018427387904)
  (hs:∀ i (h:i<M.length) (s t:List (List Int)),s.length=M.length->t.length=M.length->s[i]? =some M[i]->t[i]? =some (A[i]'oM)->s[r]? =some pr->t[r]? =some pa ->
   body (i,s,t)=some (.next (i+1,s.set i (E[i]'oM),t.set i (B[i]'oM)))) (he:body (M.length,E,B)=some (.out o)) :
  Ap body 4611686018427387904 (0,M,A)=some o:=by
 have hr:∀ {M E:List (List Int)} {pr:List Int} {j:Nat},(E.take j).length=j->M[r]? =some pr->E[r]? =some pr->(E.take j++M.drop j)[r]? =some pr:=by
  intro M E pr j h1 hM hE;by_cases h2:r<j
  ·rw [List.getElem?_append_left oM,List.getElem?_take,if_pos h2];exact hE
  ·rw [List.getElem?_append_right oM,h1,List.getElem?_drop,show j+(r - j)=r by omega];exact hM
 refine A3 M.length (fun j=>(j,E.take j++M.drop j,B.take j++A.drop j)) hb _ rfl (fun j hj=>?_) ?_
 ·have h1:(E.take j).length=j:=by rw [List.length_take];omega
  have h2:(B.take j).length=j:=by rw [List.length_take];omega
  rw [hs j hj _ _ (by simp;omega) (by simp;omega) (Ph hj h1) (Ph oM h2) (hr h1 hM hE) (hr h2 hM' hE'),Pb hj h1,Pb oM h2,List.take_add_one,gEg oM,List.take_add_one,gEg oM];rfl
 ·rw [List.drop_length,List.append_nil,← hl,List.take_length,hl,← hA,List.drop_length,List.append_nil,hA,← hB,List.take_length,hB];exact he
theorem VecW.tk {p:Int} {w u:Nat} {x:List Int} (h:VecW p w x) (hu:u<=w):VecW p u (x.take u):=⟨by rw [List.length_take,h.1];omega,fun a ha=>h.2 a (List.mem_of_mem_take ha)⟩
theorem VecW.dr {p:Int} {w u:Nat} {x:List Int} (h:VecW p w x):VecW p (w - u) (x.drop u):=⟨by rw [List.length_drop,h.1],fun a ha=>h.2 a (List.mem_of_mem_drop ha)⟩
theorem MatW.tk {p:Int} {w u:Nat} {m:List (List Int)} (h:MatW p w m) (hu:u<=w):MatW p u (m.map (·.take u)):=fun x hx=>by
 obtain ⟨y,hy,rfl⟩:=List.mem_map.1 hx;exact (h y hy).tk hu
theorem MatW.dr {p:Int} {w u:Nat} {m:List (List Int)} (h:MatW p w m):MatW p (w - u) (m.map (·.drop u)):=fun x hx=>by
 obtain ⟨y,hy,rfl⟩:=List.mem_map.1 hx;exact (h y hy).dr
section
variable {p:Int} {w:Nat} {m:List (List Int)}
theorem Ab2 {x v:List Int} {f:Int} (hp:2<=p/\p<=97) (hx:VecW p w x) (hv:VecW p w v) (hw:w<=100000) (hf:0<=f/\f<p) :
  Bv p x (wI (0 - f)) v=some (Da p f x v):=by
 have hl:=hx.1;have hl':=hv.1;unfold Bv;refine Vi (y:=Da p f x v) (by simp [Da];omega) oM (fun j hj z hz=>?_) ?_
 ·have h1:=Nt hx hj;have h2:=Nt hv (j:=j) oM;have h3:=Ab3 hp hf h2;have e:(0 - f)*v[j]= -(f*v[j]):=by rw [Int.zero_sub,Int.neg_mul]
  try dsimp only
  unfold Cl;rw [Ax oM,cond_true,gEg (show j<v.length by omega),obs,hz,obs,Bc (n:=0 - f) oM oM,e,Bc (n:= -(f*v[j])) oM oM,Bc oM oM,Aqq hp,obs,Af oM,Ag8];rfl
 ·try dsimp only
  unfold Cl;rw [Au oM,cond_false]
theorem Afx {r k:Nat} {x y:List Int} {b:Int} (hr:m[r]? =some x) (hk:m[k]? =some y):Be 0 (r:Int) (k:Int) b p m=some (Kz m r k):=by
 unfold Be Kz;rw [show ((0:Int)==0)=true from rfl,cond_true,Bq oM,Int.toNat_natCast,hk,obs,Bq oM,Int.toNat_natCast,hr,obs,Bg hr,Bg hk]
theorem Ahz {r:Nat} {x:List Int} {a b:Int} (hp:isF p=true) (hx:VecW p w x) (hw:w<=100000) (hr:m[r]? =some x) (ha:1<=a/\a<p) :
  Be 1 (r:Int) b a p m=some (m.set r (Ef p (Nq p a) x)):=by
 obtain ⟨_,i1,i2,i3,_⟩:=Ae2 hp ha;have hb:=Ca hp;have hl:=hx.1;unfold Be;rw [show ((1:Int)==0)=false from rfl,cond_false,show ((1:Int)==1)=true from rfl,cond_true,i1,obs,Bq oM,Int.toNat_natCast,hr,obs];refine Aes hr (y:=Ef p (Nq p a) x) (by simp [Ef]) oM (fun j hj z hz=>?_) ?_
 ·have hv:=Nt hx hj;have h3:=Ab3 hb hv ⟨i2,i3⟩
  try dsimp only
  unfold D0;rw [Ax oM,cond_true,Bq oM,Int.toNat_natCast,Sh hr,obs,Af oM,hz,obs,Af oM,Af oM,List.set_set,Af1,Bc oM oM,Int.tmod_eq_emod_of_nonneg oM]
 ·try dsimp only
  unfold D0;rw [Au oM,cond_false]
theorem Af8 {i r:Nat} {x v:List Int} {f:Int} (hp:2<=p/\p<=97) (hx:VecW p w x) (hv:VecW p w v) (hw:w<=100000) (hi:m[i]? =some x) (hr:m[r]? =some v) (hn:i≠r) (hf:0<=f/\f<p) :
  Be 2 (i:Int) (r:Int) f p m=some (m.set i (Da p f x v)):=by
 have hl:=hx.1;have hl':=hv.1;unfold Be
 rw [show ((2:Int)==0)=false from rfl,cond_false,show ((2:Int)==1)=false from rfl,cond_false,show ((2:Int)==2)=true from rfl,cond_true,Bq oM,Int.toNat_natCast,hi,obs,Bq oM,Int.toNat_natCast,hr,obs,
  Af hn,Ab2 hp hx hv hw hf,obs,Af (by simp [Da];omega)]
theorem Ag7 {r:Nat} (hr:r<m.length):Kz m r r=m:=by
 obtain ⟨x,hx⟩:=Ju hr;unfold Kz;rw [Bg hx,List.set_set,Nv hx]
theorem Arh {A:List (List Int)} {r k:Nat} (hA:A.length=m.length) (hr:r<m.length) (hk:k<m.length):Bm 0 (r:Int) (k:Int) 0 p m A=some (Kz m r k,Kz A r k):=by
 unfold Bm;by_cases h:r=k
 ·subst h;rw [beq_self_eq_true,cond_true,Ag7 hr,Ag7 oM]
 ·obtain ⟨x,hx⟩:=Ju hr;obtain ⟨y,hy⟩:=Ju hk;obtain ⟨x',hx'⟩:=Ju (show r<A.length by omega);obtain ⟨y',hy'⟩:=Ju (show k<A.length by omega);rw [show ([(0:Int),(r:Int),(k:Int),0]==[0,(r:Int),(r:Int),0])=false from by rw [beq_eq_false_iff_ne];intro e;simp at e;omega,cond_false,Afx hx hy,obs,Af (P8 ..),Afx hx' hy',obs,Af (P8 ..)]
theorem Ase {A:List (List Int)} {w' r:Nat} {x y:List Int} {a:Int} (hp:isF p=true) (hx:VecW p w x) (hy:VecW p w' y) (hw:w<=100000) (hw':w'<=100000) (hr:m[r]? =some x) (hA:A[r]? =some y) (ha:1<=a/\a<p) :
  Bm 1 (r:Int) 0 a p m A=some (m.set r (Ef p (Nq p a) x),A.set r (Ef p (Nq p a) y)):=by
 unfold Bm;rw [show ([(1:Int),(r:Int),0,a]==[0,(r:Int),(r:Int),0])=false from by rw [beq_eq_false_iff_ne];intro e;simp at e,cond_false,Ahz hp hx hw hr ha,obs,Af (List.length_set ..),Ahz hp hy hw' hA ha,obs,Af (List.length_set ..)]
theorem Asr {A:List (List Int)} {w' i r:Nat} {x v y u:List Int} {f:Int} (hp:2<=p/\p<=97) (hx:VecW p w x) (hv:VecW p w v) (hy:VecW p w' y) (hu:VecW p w' u) (hw:w<=100000) (hw':w'<=100000)
  (hi:m[i]? =some x) (hr:m[r]? =some v) (hi':A[i]? =some y) (hr':A[r]? =some u) (hn:i≠r) (hf:0<=f/\f<p) :
  Bm 2 (i:Int) (r:Int) f p m A=some (m.set i (Da p f x v),A.set i (Da p f y u)):=by
 unfold Bm;rw [show ([(2:Int),(i:Int),(r:Int),f]==[0,(i:Int),(i:Int),0])=false from by rw [beq_eq_false_iff_ne];intro e;simp at e,cond_false,Af8 hp hx hv hw hi hr hn hf,obs,Af (List.length_set ..),Af8 hp hy hu hw' hi' hr' hn hf,obs,Af (List.length_set ..)]
def Uo (p:Int) (c r:Nat) (pa:List Int) (M A:List (List Int)):List (List Int):=A.mapIdx fun i x=>if i=r then pa else Da p ((M.getD i []).getD c 0) x pa
theorem Re {c r:Nat} {pa:List Int} {M A:List (List Int)} {i:Nat} (h:i<(Uo p c r pa M A).length) :
  (Uo p c r pa M A)[i]=if i=r then pa else Da p ((M.getD i []).getD c 0) (A[i]'(by simpa [Uo] using h)) pa:=by simp [Uo]
theorem Aqs {M0:List (List Int)×List (List Int)} {A:List (List Int)} {w' c r:Nat} {pr pa:List Int} (hp:2<=p/\p<=97) (hm:MatW p w m) (hA:MatW p w' A) (hlA:A.length=m.length) (hw:w<=100000) (hw':w'<=100000) (hl:m.length<=100000)
  (hr:m[r]? =some pr) (hr':A[r]? =some pa) (hc:c<w) (h0:M0.1.length=m.length) :
  Ap (fun s_:Nat×List (List Int)×List (List Int)=>Fh M0 r c p s_.1 s_.2.1 s_.2.2) 4611686018427387904 (0,m,A)=some (Gu p c r pr m,Uo p c r pa m A):=by
 have hla:(Uo p c r pa m A).length=m.length:=by simp [Uo,hlA]
 have hr2:=Ai hr;refine Anv (E:=Gu p c r pr m) (B:=Uo p c r pa m A) (Oj ..) hlA hla hr (Afz hr2) hr' ?_ oM (fun i hi s t hs ht h1 k1 h2 k2=>?_) ?_
 ·rw [gEg oM,Re,if_pos rfl]
 ·have hx:=hm _ (List.getElem_mem hi);have hy:=hA _ (List.getElem_mem (show i<A.length by omega));have hv:=hm _ (List.mem_of_getElem? hr);have hu:=hA _ (List.mem_of_getElem? hr');obtain ⟨g1,g2,g3⟩:=Cp hx hc;have hD:m.getD i []=m[i]:=Bg (gEg hi)
  try dsimp only
  unfold Fh;rw [Ax oM,cond_true,Of,Re,hD];generalize m[i]=x at *;generalize A[i]=y at *;by_cases hir:i=r
  ·subst hir;rw [if_pos rfl,if_pos rfl,show (((i:Nat):Int) !=((i:Nat):Int))=false from bne_self_eq_false _,cond_false,obs,cond_false,obs,Nv h2,Nv k2];exact Af oM _
  ·rw [if_neg hir,if_neg hir,show (((i:Nat):Int) !=((r:Nat):Int))=true from by rw [bne_iff_ne];omega,cond_true,h1,obs,g3,obs,obs];by_cases h0:x.getD c 0=0
   ·rw [h0,show ((0:Int) !=0)=false from rfl,cond_false,obs,Wv hx.2 (by rw [hx.1,hv.1];exact Nat.le_refl _),Wv hy.2 (by rw [hy.1,hu.1];exact Nat.le_refl _),Nv h1,Nv k1];exact Af oM _
   ·rw [show (x.getD c 0 !=0)=true from bne_iff_ne.2 h0,cond_true,obs,g3,obs,Asr hp hx hv hy hu hw hw' h1 h2 k1 k2 hir ⟨g1,g2⟩,obs,obs];exact Af oM _
 ·try dsimp only
  unfold Fh;rw [Au oM,cond_false]
theorem Art {c r:Nat} (hm:MatW p w m) (hc:c<w) (hl:m.length<=100000) (hr:r<=m.length) :
  Ap (fun s_:Nat=>D4 m c s_) 4611686018427387904 r=some (Dq m c r):=by
 have hle:=Rm (c:=c) hr;refine A3 ((m.drop r).findIdx fun x=>x.getD c 0 !=0) (fun t=>r+t) (by unfold Dq at hle;omega) _ rfl (fun t ht=>?_) ?_
 ·have h1:r+t<Dq m c r:=by unfold Dq;omega
  have h0:=Ab9 (i:=r+t) oM h1 hr;obtain ⟨x,hx⟩:=Ju (show r+t<m.length by omega);obtain ⟨g1,g2,g3⟩:=Cp (hm _ (List.mem_of_getElem? hx)) hc;rw [Bg hx] at h0
  try dsimp only
  unfold D4;rw [Ax oM,cond_true,hx,obs,g3,obs,obs,h0,show ((0:Int)==0)=true from rfl,cond_true,Af oM,Nat.add_assoc]
 ·show D4 m c (Dq m c r)=_;unfold D4;by_cases h:Dq m c r=m.length
  ·rw [Au oM,cond_false,obs,cond_false]
  ·have h0:=Ab4 h hr;obtain ⟨x,hx⟩:=Ju (show Dq m c r<m.length by omega);obtain ⟨g1,g2,g3⟩:=Cp (hm _ (List.mem_of_getElem? hx)) hc;rw [Bg hx] at h0;rw [Ax oM,cond_true,hx,obs,g3,obs,obs,beq_eq_false_iff_ne.2 h0,cond_false]
theorem Sf {x:List Int} {u c:Nat} (h:c<u):(x.take u).getD c 0=x.getD c 0:=by
 rw [gDg,List.getElem?_take,if_pos h,gDg]
theorem An3 {u c r:Nat} (h:c<u):Dq (m.map (·.take u)) c r=Dq m c r:=by
 unfold Dq;rw [← List.map_drop,List.findIdx_map];congr 2;funext x;exact congrArg (· !=0) (Sf h)
theorem Rc {f:List Int->List Int} (hf:f []=[]) {i:Nat}:(m.map f).getD i []=f (m.getD i []):=by
 rw [gDg,List.getElem?_map,gDg];cases m[i]? with
 | none=>exact hf.symm
 | some x=>rfl
theorem Ak7 {f:List Int->List Int} (hf:f []=[]) {r k:Nat}:(Kz m r k).map f=Kz (m.map f) r k:=by
 unfold Kz;rw [List.map_set,List.map_set,Rc hf,Rc hf]
theorem Amh {k:Int} {x:List Int} {u:Nat}:(Ef p k x).take u=Ef p k (x.take u):=by simp [Ef,List.map_take]
theorem Ama {k:Int} {x:List Int} {u:Nat}:(Ef p k x).drop u=Ef p k (x.drop u):=by simp [Ef,List.map_drop]
theorem Al4 {k:Int} {x v:List Int} {u:Nat}:(Da p k x v).take u=Da p k (x.take u) (v.take u):=by simp [Da,List.take_zipWith]
theorem Am3 {k:Int} {x v:List Int} {u:Nat}:(Da p k x v).drop u=Da p k (x.drop u) (v.drop u):=by simp [Da,List.drop_zipWith]
theorem Aqu {c r u:Nat} {pr:List Int} (h:c<u):(Gu p c r pr m).map (·.take u)=Gu p c r (pr.take u) (m.map (·.take u)):=by
 apply List.ext_getElem
 ·simp [Gu]
 ·intro i h1 h2;rw [List.getElem_map,Of,Of,List.getElem_map,Sf h];split
  ·rfl
  ·exact Al4
theorem Aoz {c r u:Nat} {pr:List Int} (h:c<u):(Gu p c r pr m).map (·.drop u)=Uo p c r (pr.drop u) (m.map (·.take u)) (m.map (·.drop u)):=by
 apply List.ext_getElem
 ·simp [Gu,Uo]
 ·intro i h1 h2;rw [List.getElem_map,Of,Re,List.getElem_map,Rc (f:=(·.take u)) List.take_nil,Sf h,show m.getD i []=m[i]'(by simpa [Gu] using h1) from Bg (gEg (by simpa [Gu] using h1))];split
  ·rfl
  ·exact Am3
theorem And {c r:Nat} {pa y z:List Int} {M A:List (List Int)}:Uo p c r pa (M.set r z) (A.set r y)=Uo p c r pa M A:=by
 apply List.ext_getElem
 ·simp [Uo]
 ·intro i h1 h2;rw [Re,Re];by_cases h:i=r
  ·rw [if_pos h,if_pos h]
  ·rw [if_neg h,if_neg h];simp only [List.getElem_set,if_neg (fun e=>h (Eq.symm e)),gDg,List.getElem?_set_ne (Ne.symm h)]
def rdW (u:Nat) (W:List (List Int)):List (List Int):=W.map (·.take u)
def alW (u:Nat) (W:List (List Int)):List (List Int):=W.map (·.drop u)
theorem Aph {n u:Nat} (hp:isF p=true) (hm:MatW p w m) (hn:n<=u) (hu:u<=w) (hw:w<=100000) (hl:m.length<=100000) :
  Ap (fun s_:Nat×Nat×List (List Int)×List (List Int)=>C4 (n:Int) p s_.1 s_.2.1 s_.2.2.1 s_.2.2.2) 4611686018427387904 (0,0,rdW u m,alW u m)=some ((gjT p m n).1,rdW u (gjT p m n).2,alW u (gjT p m n).2):=by
 have hb:=Ca hp;refine I1 n (fun c s=>s=((gjT p m c).1,c,rdW u (gjT p m c).2,alW u (gjT p m c).2)) oM _ rfl (fun c s hc hI=>?_) (fun s hI=>?_)
 ·subst hI;obtain ⟨hm',hr,hl'⟩:=Lb hb.1 hm c;have hlr:(rdW u (gjT p m c).2).length=(gjT p m c).2.length:=List.length_map ..;have hla:(alW u (gjT p m c).2).length=(gjT p m c).2.length:=List.length_map ..;by_cases hlt:(gjT p m c).1<(gjT p m c).2.length
  ·refine .inl ?_;refine ⟨_,?_,rfl⟩;show C4 _ _ _ _ _ _=some (Ctl.next ((gjS p c (gjT p m c)).1,c+1,rdW u (gjS p c (gjT p m c)).2,alW u (gjS p c (gjT p m c)).2));generalize gjT p m c=s at *;obtain ⟨r,M⟩:=s
   try dsimp only at *
   have hR:MatW p u (rdW u M):=hm'.tk hu;have hA:MatW p (w - u) (alW u M):=hm'.dr;have hpv:Dq (rdW u M) c r=Dq M c r:=An3 oM;unfold C4 gjS;rw [Ax oM,cond_true,obs,Ax oM,cond_true,Art hR oM oM oM,obs,if_pos hlt,hlr,hpv];by_cases hk:Dq M c r=M.length
   ·rw [hk,beq_self_eq_true,cond_true,obs,if_pos rfl];exact Af oM _
   ·have hle:=Rm (c:=c) hr;have hkl:Dq M c r<M.length:=by omega
    rw [show (((Dq M c r:Nat):Int)==((M.length:Nat):Int))=false from by rw [beq_eq_false_iff_ne];omega,cond_false,if_neg hk];have hnz:=Ab4 hk hr;obtain ⟨y,hy⟩:=Ju hkl;have hyM:=hm' _ (List.mem_of_getElem? hy);obtain ⟨g1,g2,_⟩:=Cp hyM (show c<w by omega);rw [Bg hy] at hnz;have hs:=Aq2 hlt hkl;rw [Bg hy] at hs;have hpm:=Yt hm' hlt hkl;have hsl:=P8 M r (Dq M c r);have e1:Kz (rdW u M) r (Dq M c r)=rdW u (Kz M r (Dq M c r)):=(Ak7 List.take_nil).symm;have e2:Kz (alW u M) r (Dq M c r)=alW u (Kz M r (Dq M c r)):=(Ak7 List.drop_nil).symm;rw [Arh oM oM oM,obs,e1,e2,Bg hy];generalize Kz M r (Dq M c r)=W at *;have hs1:(rdW u W)[r]? =some (y.take u):=by simp [rdW,hs]
    have hs2:(alW u W)[r]? =some (y.drop u):=by simp [alW,hs]
    have g4:(y.take u)[c]? =some (y.getD c 0):=by rw [(Cp (hyM.tk hu) (show c<u by omega)).2.2,Sf oM]
    have q1:VecW p u (Ef p (Nq p (y.getD c 0)) (y.take u)):=Rt hb.1 (hyM.tk hu).1;have q2:VecW p (w - u) (Ef p (Nq p (y.getD c 0)) (y.drop u)):=Rt hb.1 hyM.dr.1;have l1:(rdW u W).length=W.length:=List.length_map ..;have l2:(alW u W).length=W.length:=List.length_map ..
    try dsimp only
    rw [hs1,obs,g4,obs,Ase hp (hyM.tk hu) hyM.dr oM oM hs1 hs2 oM,obs]
    try dsimp only
    rw [Aqs hb (w:=u) (w':=w - u) (pr:=Ef p (Nq p (y.getD c 0)) (y.take u)) (pa:=Ef p (Nq p (y.getD c 0)) (y.drop u)) (fun z hz=>?_) (fun z hz=>?_) (by simp only [List.length_set];omega) oM oM (by simp only [List.length_set];omega) (Sh hs1) (Sh hs2) oM rfl,obs]
    ·have e3:rdW u (Gu p c r (prV p c y) W)=Gu p c r (Ef p (Nq p (y.getD c 0)) (y.take u)) (rdW u W):=by
      unfold rdW prV;rw [Aqu oM,Amh]
     have e4:alW u (Gu p c r (prV p c y) W)=Uo p c r (Ef p (Nq p (y.getD c 0)) (y.drop u)) (rdW u W) (alW u W):=by
      unfold rdW alW prV;rw [Aoz oM,Ama]
     try dsimp only
     rw [Af oM,obs,Ajy,And,e3,e4];exact Af oM _
    ·rcases List.mem_or_eq_of_mem_set hz with hz|rfl
     ·exact hpm.tk hu _ hz
     ·exact q1
    ·rcases List.mem_or_eq_of_mem_set hz with hz|rfl
     ·exact hpm.dr _ hz
     ·exact q2
  ·refine .inr ?_;rw [Aad hlt n oM];generalize gjT p m c=s at *
   try dsimp only
   unfold C4;rw [Ax oM,cond_true,obs,hlr,Au oM,cond_false]
 ·subst hI
  try dsimp only
  unfold C4;rw [Au oM,cond_false,obs,cond_false]
theorem W6 {n u:Nat} (hp:isF p=true) (hm:MatW p w m) (hn:n<=u) (hu:u<=w) (hw:w<=100000) (hl:m.length<=100000):Fo p (rdW u m) (n:Int) (alW u m)=some (rdW u (gjT p m n).2,alW u (gjT p m n).2,(gjT p m n).1):=by
 unfold Fo;rw [Aph hp hm hn hu hw hl,obs]
theorem Ahq (hm:MatW p w m) (hw:w<=100000) (hl:m.length<=100000):Iv m=some m:=by
 unfold Iv;have h:=Dx (body:=fun s_:Nat×List (List Int)=>Fs m s_.1 s_.2) m id [] (F:=4611686018427387904) oM m (fun i x h=>?_) ?_
 ·rw [Af oM,show List.replicate 0 ([]:List Int)=[] from rfl,show Ap (fun s_:Nat×List (List Int)=>Fs m s_.1 s_.2) 4611686018427387904 (0,[])=some m by simpa using h];rfl
 ·have:=Ai h;have hx:=(hm x (List.mem_of_getElem? h)).1
  try dsimp only
  unfold Fs;rw [Ax oM,cond_true,h,obs,Yp _ oM,obs,Af (by simp;omega),Af oM];rfl
 ·try dsimp only
  unfold Fs;rw [Au oM,cond_false,List.map_id,List.nil_append]
end
end
section
def U4 (p n:Int) (b:List (List Int)):Bool:=b.all fun x=>((x.length:Nat):Int)==n&&x.all fun a=>inR a 0 (p - 1)
theorem Gc {a lo hi:Int}:inR a lo hi=true↔lo<=a/\a<=hi:=by simp [inR]
theorem Wu {p:Int} {n:Nat} {b:List (List Int)} (h:U4 p n b=true):MatW p n b:=by
 intro x hx;have h1:=List.all_eq_true.1 h x hx;simp only [Bool.and_eq_true,beq_iff_eq,List.all_eq_true,Gc] at h1;exact ⟨by omega,fun a ha=>by have:=h1.2 a ha;omega⟩
theorem An0 (p n:Int) (b:List (List Int)) (hp:2<=p/\p<=97) (hb:b.length<=1048576) (hr:Il 1048576 b):Lw p n b=some (U4 p n b):=by
 unfold Lw;rw [Fv b (fun x=>((x.length:Nat):Int)==n&&x.all fun a=>inR a 0 (p - 1)) (.next ()) (.out false) oM (fun i x h=>?_) ?_,Lk];rfl
 ·unfold Ld;rw [Au oM,cond_false]
 ·have:=Ai h;have hx:=hr x (List.mem_of_getElem? h);unfold Ld;rw [Ax oM,cond_true,h,obs];cases hc:((x.length:Nat):Int)==n
  ·rw [show (((x.length:Nat):Int) !=n)=true by simp only [bne,hc,Bool.not_false],cond_true,obs,cond_true,Bool.false_and];rfl
  ·rw [show (((x.length:Nat):Int) !=n)=false by simp only [bne,hc,Bool.not_true],cond_false,At4 p x hp oM,obs,obs,Bool.true_and,Af oM];cases x.all fun a=>inR a 0 (p - 1) <;> rfl
theorem Aem (p n:Int) (b:List (List Int)) (hb:b.length<=1048576) (hr:Il 1048576 b):G0 p b n=some (U4 p n b):=by
 unfold G0;rw [Fv b (fun x=>((x.length:Nat):Int)==n&&x.all fun a=>inR a 0 (p - 1)) (.next ()) (.out false) oM (fun i x h=>?_) ?_,Lk];rfl
 ·unfold Hf;rw [Au oM,cond_false]
 ·have:=Ai h;have hx:=hr x (List.mem_of_getElem? h);unfold Hf;rw [Ax oM,cond_true,h,obs,Ajt p x n oM,obs,Af oM];cases ((x.length:Nat):Int)==n&&x.all fun a=>inR a 0 (p - 1) <;> rfl
theorem Af7 (x y:List Int) (hx:x.length<=1048576):I3 x y=some (x==y):=by
 unfold I3;by_cases h:x.length=y.length
 ·rw [show (((x.length:Nat):Int) !=((y.length:Nat):Int))=false by rw [h];exact bne_self_eq_false _,cond_false]
  have key:Ap (fun s_:Nat=>Hv x y s_) 4611686018427387904 0=some (if x==y then .next () else .out false):=by
   refine I1 x.length (fun i s=>s=i/\x.take i=y.take i) oM _ ⟨rfl,by simp⟩ ?_ ?_
   ·rintro i s hi ⟨hsi,ht⟩;subst hsi;unfold Hv;rw [Ax oM,cond_true,gEg hi,obs,gEg (show s<y.length by omega),obs];by_cases he:x[s]=y[s]'oM
    ·refine .inl ⟨s+1,?_,rfl,?_⟩
     ·rw [show (x[s] !=y[s]'oM)=false by rw [he];exact bne_self_eq_false _,cond_false,Af oM]
     ·rw [List.take_add_one,List.take_add_one,ht,gEg hi,gEg (show s<y.length by omega),he]
    ·refine .inr ?_;rw [bne_iff_ne.2 he,cond_true,show (x==y)=false from by rw [beq_eq_false_iff_ne];intro e;subst e;exact he rfl];rfl
   ·rintro s ⟨hs,ht⟩;subst hs;rw [List.take_length,h,List.take_length] at ht;subst ht;unfold Hv;rw [Au oM,cond_false,beq_self_eq_true];rfl
  rw [key];cases x==y <;> rfl
 ·rw [show (((x.length:Nat):Int) !=((y.length:Nat):Int))=true by rw [bne_iff_ne];omega,cond_true,show (x==y)=false from by rw [beq_eq_false_iff_ne];intro e;subst e;exact h rfl]
theorem Aqe (x y:List (List Int)) (hx:x.length<=1048576) (hr:Il 1048576 x):Lg x y=some (x==y):=by
 unfold Lg;by_cases h:x.length=y.length
 ·rw [show (((x.length:Nat):Int) !=((y.length:Nat):Int))=false by rw [h];exact bne_self_eq_false _,cond_false]
  have key:Ap (fun s_:Nat=>Ht x y s_) 4611686018427387904 0=some (if x==y then .next () else .out false):=by
   refine I1 x.length (fun i s=>s=i/\x.take i=y.take i) oM _ ⟨rfl,by simp⟩ ?_ ?_
   ·rintro i s hi ⟨hsi,ht⟩;subst hsi;unfold Ht;rw [Ax oM,cond_true,gEg hi,obs,gEg (show s<y.length by omega),obs,Af7 _ _ (hr _ (List.getElem_mem hi)),obs];by_cases he:x[s]=y[s]'oM
    ·refine .inl ⟨s+1,?_,rfl,?_⟩
     ·rw [show (x[s]==y[s]'oM)=true by rw [he];exact beq_self_eq_true _,Bool.not_true,cond_false,Af oM]
     ·rw [List.take_add_one,List.take_add_one,ht,gEg hi,gEg (show s<y.length by omega),he]
    ·refine .inr ?_;rw [beq_eq_false_iff_ne.2 he,Bool.not_false,cond_true,show (x==y)=false from by rw [beq_eq_false_iff_ne];intro e;subst e;exact he rfl];rfl
   ·rintro s ⟨hs,ht⟩;subst hs;rw [List.take_length,h,List.take_length] at ht;subst ht;unfold Ht;rw [Au oM,cond_false,beq_self_eq_true];rfl
  rw [key];cases x==y <;> rfl
 ·rw [show (((x.length:Nat):Int) !=((y.length:Nat):Int))=true by rw [bne_iff_ne];omega,cond_true,show (x==y)=false from by rw [beq_eq_false_iff_ne];intro e;subst e;exact h rfl]
theorem We {p:Int} {w:Nat} {m:List (List Int)} (hp:isF p=true) (hm:MatW p w m) (hw:w<=100000) (hl:m.length<=100000):Eo p m (w:Int)=some (gj p w m):=by
 have hb:=Ca hp;obtain ⟨k1,h2,h3⟩:=Lb hb.1 hm w
 have e1:∀ {m:List (List Int)},MatW p w m->rdW w m=m:=fun {m} hm=>by
  unfold rdW;exact (List.map_congr_left (g:=id) (fun x hx=>List.take_of_length_le (Nat.le_of_eq (hm x hx).1))).trans (List.map_id _)
 have e2:alW w m=List.replicate m.length []:=by
  unfold alW;rw [List.eq_replicate_iff];refine ⟨List.length_map ..,fun b hb=>?_⟩;obtain ⟨x,hx,rfl⟩:=List.mem_map.1 hb;exact List.drop_of_length_le (Nat.le_of_eq (hm x hx).1)
 have e3:(alW w (gjT p m w).2).length=m.length:=by rw [← h3];exact List.length_map ..
 have hR:=W6 hp hm (Nat.le_refl w) (Nat.le_refl w) hw hl;rw [e1 hm,e2] at hR;unfold Eo;rw [Ahq hm hw hl,obs,Af oM,hR,obs];rw [e1 k1];rw [Af h3,Af e3];exact Af (by dsimp only;omega) _
theorem Ato (x:List Int):Py x=some (x.take 48++(List.replicate 48 0).drop (x.take 48).length):=rfl
theorem Ake (x:List Int):(x.take 48++(List.replicate 48 (0:Int)).drop (x.take 48).length).length=48:=by simp;omega
theorem Asn {x y:List Int} {n:Nat} (hx:x.length=n) (hy:y.length=n) (hn:n<=48) (h:x.take 48++(List.replicate 48 (0:Int)).drop (x.take 48).length=y.take 48++(List.replicate 48 (0:Int)).drop (y.take 48).length):x=y:=by
 rw [List.take_of_length_le oM,List.take_of_length_le (show y.length<=48 by omega)] at h;exact (List.append_inj h oM).1
theorem Ahs {p:Int} {n:Nat} (b:List (List Int)) (hp:isF p=true) (hn:n<=48) (hb:b.length<=1048576) (hr:Il 1048576 b) :
  H9 p b (n:Int)=some (decide (((b.length:Nat):Int)<=n)&&(U4 p n b&&gj p n b==b)):=by
 unfold H9;by_cases h1:(n:Int)<b.length
 ·rw [Ax h1,cond_true,obs,cond_true,Au oM,Bool.false_and]
 rw [Au h1,cond_false,Ax (show ((b.length:Nat):Int)<=n by omega),Bool.true_and,Aem p n b hb hr,obs,obs];cases hv:U4 p n b
 ·rw [Bool.not_false,cond_true,Bool.false_and]
 have hm:=Wu hv;have hp2:=Ca hp;have hl:=(Lb hp2.1 hm n).2;have hgl:=Adz (n:=n) hp2.1 hm;have hgm:=Rj (n:=n) hp2.1 hm;rw [Bool.not_true,cond_false,We hp hm oM oM,obs,obs,Bool.true_and]
 have key:Ap (fun s_:Nat=>Fe (gj p n b) b s_) 4611686018427387904 0=some (if gj p n b==b.take (gj p n b).length then .next () else .out false):=by
  generalize gj p n b=x at *;refine I1 x.length (fun i s=>s=i/\x.take i=b.take i) oM _ ⟨rfl,by simp⟩ ?_ ?_
  ·rintro i s hi ⟨hsi,ht⟩;subst hsi;have hs:s<b.length:=by omega
   unfold Fe;rw [Ax oM,cond_true,gEg hi,obs,Ato,obs,gEg hs,obs,Ato,obs,Af ⟨Ake _,Ake _⟩];by_cases he:x[s]=b[s]
   ·refine .inl ⟨s+1,?_,rfl,?_⟩
    ·rw [he,beq_self_eq_true,Bool.not_true,cond_false,Af oM]
    ·rw [List.take_add_one,List.take_add_one,ht,gEg hi,gEg hs,he]
   ·refine .inr ?_;rw [beq_eq_false_iff_ne.2 (fun e=>he (Asn (hgm _ (List.getElem_mem hi)).1 (hm _ (List.getElem_mem hs)).1 hn e)),Bool.not_false,cond_true,show (x==b.take x.length)=false from ?_]
    ·rfl
    ·rw [beq_eq_false_iff_ne];intro e;refine he ?_;have e2:=congrArg (fun l=>l[s]?) e;simp only [List.getElem?_take,if_pos hi,gEg hi,gEg hs,Option.some.injEq] at e2;exact e2
  ·rintro s ⟨hs,ht⟩;subst hs;rw [List.take_length] at ht;unfold Fe;rw [Au oM,cond_false,← ht,beq_self_eq_true];rfl
 rw [key];by_cases he:gj p n b=b.take (gj p n b).length
 ·rw [show (gj p n b==b.take (gj p n b).length)=true from beq_iff_eq.2 he];show some _=_;congr 1;by_cases hll:(gj p n b).length=b.length
  ·rw [hll,List.take_length] at he;rw [he,beq_self_eq_true,beq_self_eq_true]
  ·rw [show (gj p n b==b)=false from by rw [beq_eq_false_iff_ne];exact fun e=>hll (congrArg List.length e),beq_eq_false_iff_ne];omega
 ·rw [beq_eq_false_iff_ne.2 he,show (gj p n b==b)=false from ?_]
  ·rfl
  ·rw [beq_eq_false_iff_ne];intro e;exact he (by rw [e,List.take_length])
def L7 (p l r:Int) (b:List (List Int)):Bool:=isF p&&(inR l 0 24&&(inR r 0 (24 - l)&&(decide (((b.length:Nat):Int)<=l+r)&&(U4 p (l+r) b&&gj p (l+r).toNat b==b))))
theorem Zd (p l r:Int) (b:List (List Int)) (hb:b.length<=1048576) (hr:Il 1048576 b):Li p l r b=some (L7 p l r b):=by
 unfold Li L7;rw [O7,obs];cases h1:inR l 0 24
 ·rw [Bool.false_and,Bool.and_false];rfl
 have h1':=Gc.1 h1;rw [cond_true,Bc (n:=24 - l) oM oM,O7,obs];cases h2:inR r 0 (24 - l)
 ·rw [Bool.false_and,Bool.and_false,Bool.and_false];rfl
 have h2':=Gc.1 h2;rw [cond_true,Bc oM oM];unfold O8;rw [Uy,obs];cases hp:isF p
 ·rfl
 rw [cond_true,O7,obs,Gc.2 (show 0<=l+r/\l+r<=24 by omega),cond_true];by_cases h3:((b.length:Nat):Int)<=l+r
 ·obtain ⟨n,hn⟩:=Int.eq_ofNat_of_zero_le (show 0<=l+r by omega);rw [Ax h3,cond_true,hn,An0 p n b (Ca hp) hb hr,obs];cases hv:U4 p (n:Int) b
  ·rfl
  have hm:=Wu hv;have hgl:=Adz (n:=n) (Ca hp).1 hm;have hgm:=Rj (n:=n) (Ca hp).1 hm;have hl:=(Lb (Ca hp).1 hm n).2;rw [cond_true,Pv hp hm (Nat.le_refl n) oM oM,obs,Aqe _ _ oM (fun x hx=>by rw [(hgm x hx).1];omega),obs];rfl
 ·rw [Au h3];rfl
theorem Afs (p l r:Int) (b:List (List Int)) (hb:b.length<=1048576) (hr:Il 1048576 b):G8 p l r b=some (L7 p l r b):=by
 unfold G8 L7;rw [show Hr p=some (isF p) from rfl,obs];cases hp:isF p
 ·rfl
 rw [cond_true,Bool.true_and]
 have hf:Oe l r=some (inR l 0 24&&inR r 0 (24 - l)):=by
  unfold Oe;rw [Nf,obs];cases h1:inR l 0 24
  ·rfl
  have h1':=Gc.1 h1;rw [cond_true,Nf,obs,Bool.true_and];by_cases h2:0<=r/\r<=24
  ·rw [Gc.2 h2,cond_true,obs,Bc oM oM];congr 1;rw [Bool.eq_iff_iff,Gc];simp only [decide_eq_true_eq];omega
  ·rw [show inR r 0 24=false from by rw [Bool.eq_false_iff];exact fun h=>h2 (Gc.1 h),cond_false,obs];congr 1;symm;rw [Bool.eq_false_iff];intro h;have:=Gc.1 h;exact h2 oM
 rw [hf,obs];cases h1:inR l 0 24
 ·rfl
 have h1':=Gc.1 h1;cases h2:inR r 0 (24 - l)
 ·rfl
 have h2':=Gc.1 h2;obtain ⟨n,hn⟩:=Int.eq_ofNat_of_zero_le (show 0<=l+r by omega);rw [Bool.true_and,cond_true,Bc oM oM,hn,Ahs b hp oM hb hr];rfl
structure Atw (p l r:Int) (b:List (List Int)):Prop where
 fp:isF p=true
 hl:0<=l
 hr:0<=r
 hs:l+r<=24
 lb:((b.length:Nat):Int)<=l+r
 mb:MatW p (l+r).toNat b
 rb:gj p (l+r).toNat b=b
theorem Ac1 {p l r:Int} {b:List (List Int)} (h:L7 p l r b=true):Atw p l r b:=by
 unfold L7 at h;simp only [Bool.and_eq_true,Gc,decide_eq_true_eq,beq_iff_eq] at h;obtain ⟨h1,h2,h3,h4,h5,h6⟩:=h;refine ⟨h1,h2.1,h3.1,by omega,h4,?_,h6⟩;obtain ⟨n,hn⟩:=Int.eq_ofNat_of_zero_le (show 0<=l+r by omega);rw [hn] at h5 ⊢;exact Wu h5
theorem Afo (l r:Int) (b:List (List Int)) {v:Int} (hv:0<=v/\v<=1048576) (hn:b.length<=9223372036854775807) (hb:Il 9223372036854775807 b):Ha l r b v=some (szW v b):=by
 unfold Ha;rw [Amq b hv hn hb,obs];by_cases h:szW v b<0
 ·rw [Ax h,cond_true];congr 1;unfold szW at h ⊢;split at h <;> rename_i h'
  ·rw [if_pos h']
  ·omega
 ·rw [Au h,cond_false]
theorem Aew (l r:Int) (b:List (List Int)) (hn:b.length<=1048576) (hb:Il 1048576 b):G6 l r b=some b:=by
 unfold G6;rw [Amm b hn hb,obs]
theorem Aet (l r:Int) (b:List (List Int)) (hn:b.length<=1048576) (hb:Il 1048576 b):Hc l r b l r b=some true:=by
 unfold Hc;rw [bne_self_eq_false,cond_false,bne_self_eq_false,cond_false,Amu b hn hb,obs,Bool.not_true,cond_false]
end
section
def Oa (p:Int) (xs:List Nd):Bool:=xs.all fun n=> !((n.1==7||n.1==13)&&decide (p<=n.2.1))
def Xz (xs:List Nd):Bool:=xs.all fun n=> !(n.1==8||n.1==14)
theorem Aot (xs:List Nd) (p:Int) (hx:xs.length<=1073741824):F4 xs p=some (isF p&&((tyV xs).isSome&&Oa p xs)):=by
 unfold F4 Iq;obtain ⟨r,hr,hm⟩:=Akh xs;rw [show Hr p=some (isF p) from rfl,obs,hr];cases hp:isF p
 ·rfl
 have e:r.2.2=(tyV xs).isSome:=by
  cases ht:tyV xs with
  | none=>rw [ht] at hm;exact hm
  | some w=>rw [ht] at hm;dsimp only at hm;rw [hm];rfl
 rw [Bool.not_true,cond_false,obs,obs,obs,e,Bool.true_and];cases (tyV xs).isSome
 ·rfl
 rw [Bool.not_true,cond_false,Bool.true_and]
 have key:Ap (fun s_:Nat=>Eu xs p s_) 4611686018427387904 0=some (if Oa p xs then Ctl.next () else Ctl.out false):=by
  refine Fv xs (fun n=> !((n.1==7||n.1==13)&&decide (p<=n.2.1))) (Ctl.next ()) (Ctl.out false) oM (fun i n h=>?_) ?_
  ·have:=Ai h;unfold Eu Gf;rw [Ax oM,cond_true,h,obs,Af oM];cases n.1==7 <;> cases n.1==13 <;> cases decide (p<=n.2.1) <;> rfl
  ·unfold Eu;rw [Au oM,cond_false]
 rw [key,Lk]
theorem Aig (xs:List Nd) (p:Int) (hx:xs.length<=1073741824):E2 xs p=some ((isF p&&((tyV xs).isSome&&Oa p xs))&&Xz xs):=by
 unfold E2;rw [Aot xs p hx,obs];cases isF p&&((tyV xs).isSome&&Oa p xs)
 ·rfl
 rw [Bool.not_true,cond_false,Bool.true_and]
 have key:Ap (fun s_:Nat=>Dv xs s_) 4611686018427387904 0=some (if Xz xs then Ctl.next () else Ctl.out false):=by
  refine Fv xs (fun n=> !(n.1==8||n.1==14)) (Ctl.next ()) (Ctl.out false) oM (fun i n h=>?_) ?_
  ·have:=Ai h;unfold Dv Ny;rw [Ax oM,cond_true,h,obs,Af oM];cases n.1==8 <;> cases n.1==14 <;> rfl
  ·unfold Dv;rw [Au oM,cond_false]
 rw [key,Lk]
theorem U8 (xs:List Nd) (p:Int) (hx:xs.length<=1073741824):I7 p xs=some ((tyV xs).isSome&&(isF p&&Oa p xs)):=by
 unfold I7;obtain ⟨F,I,O,b,h,hm⟩:=Ahx xs
 have e:b=(tyV xs).isSome:=by
  cases ht:tyV xs with
  | none=>rw [ht] at hm;exact hm
  | some w=>rw [ht] at hm;exact hm.1
 rw [h,obs,Uy,e];cases (tyV xs).isSome
 ·rfl
 rw [Bool.not_true,cond_false,obs,obs];cases hp:isF p
 ·rfl
 rw [Bool.not_true,cond_false,Bool.true_and,Bool.true_and]
 have key:Ap (fun s_:Nat=>H1 xs p s_) 4611686018427387904 0=some (if Oa p xs then Ctl.next () else Ctl.out false):=by
  refine Fv xs (fun n=> !((n.1==7||n.1==13)&&decide (p<=n.2.1))) (Ctl.next ()) (Ctl.out false) oM (fun i n h=>?_) ?_
  ·have:=Ai h;unfold H1;rw [Ax oM,cond_true,h,obs,Af oM];cases n.1==7 <;> cases n.1==13 <;> cases decide (p<=n.2.1) <;> rfl
  ·unfold H1;rw [Au oM,cond_false]
 rw [key,Lk]
theorem Th (xs:List Nd) (hx:xs.length<=1073741824):Gx xs=some (Xz xs):=by
 unfold Gx
 have key:Ap (fun s_:Nat=>E8 xs s_) 4611686018427387904 0=some (if Xz xs then Ctl.next () else Ctl.out false):=by
  refine Fv xs (fun n=> !(n.1==8||n.1==14)) (Ctl.next ()) (Ctl.out false) oM (fun i n h=>?_) ?_
  ·have:=Ai h;unfold E8 Cb;rw [Ax oM,cond_true,h,obs,Af oM];rw [show (n.1 !=8)= !(n.1==8) from rfl,show (n.1 !=14)= !(n.1==14) from rfl];cases n.1==8 <;> cases n.1==14 <;> rfl
  ·unfold E8;rw [Au oM,cond_false]
 rw [key,Lk]
theorem Awa (p:Int) (s:ByteArray) (xs:List Nd) (l r:Int) (b:List (List Int)) (hx:xs.length<=1073741824) (hb:b.length<=1048576) (hr:Il 1048576 b):∃ v,Ed p s xs l r b=some v/\F7 p s xs l r b=some v:=by
 unfold Ed F7;obtain ⟨nm,n1,n2⟩:=Ajx s;obtain ⟨q,hq,hm⟩:=Akh xs;rw [Zm,obs,n1,n2,obs,Aig xs p hx,U8 xs p hx,Th xs hx,Zd p l r b hb hr,Afs p l r b hb hr,hq];cases ht:tyV xs with
 | none =>
  refine ⟨false,rfl,?_⟩;cases nm
  ·rfl
  rw [Option.isSome_none,Bool.false_and,Bool.and_false,Bool.false_and];rfl
 | some w =>
  rw [ht] at hm;dsimp only at hm;subst hm;rw [Option.isSome_some,Bool.true_and];dsimp only;cases nm
  ·exact ⟨false,rfl,rfl⟩
  generalize isF p=a1;generalize Oa p xs=a2;generalize Xz xs=a3;generalize L7 p l r b=a4
  have e:([w.1,w.2]==[l,r])=cond (l==w.1) (r==w.2) false:=by
   have c1:(w.1==l)=(l==w.1):=Bool.beq_comm;have c2:(w.2==r)=(r==w.2):=Bool.beq_comm;show (w.1==l&&(w.2==r&&(([]:List Int)==[])))=_;rw [c1,c2];cases l==w.1 <;> cases r==w.2 <;> rfl
  simp only [obs,e];cases a1 <;> cases a2 <;> cases a3 <;> cases a4 <;> cases l==w.1 <;> cases r==w.2 <;> exact ⟨_,rfl,rfl⟩
-- copies and comparisons
theorem Als (xs:List Nd) (hx:xs.length<=1073741824):Kn xs=some xs:=by
 unfold Kn;rw [Af oM]
 have h:Ap (fun s_:Nat×List Nd=>G9 xs s_.1 s_.2) 4611686018427387904 (0,List.replicate xs.length ((0,0,(⟨#[]⟩:ByteArray)):Nd))=some xs:=by
  refine A3 xs.length (fun i=>(i,xs.take i++List.replicate (xs.length - i) ((0,0,(⟨#[]⟩:ByteArray)):Nd))) oM xs (by simp) (fun i hi=>?_) ?_
  ·have hx:=gEg hi
   try dsimp only
   unfold G9 O9;rw [Ax oM,cond_true,hx,obs,obs,Wo hi,obs,Af oM,Vu hx]
  ·try dsimp only
   unfold G9;rw [Au oM,cond_false];simp
 rw [h];rfl
theorem Aml (xs:List Nd) (hx:xs.length<=1073741824):Kb xs xs=some true:=by
 unfold Kb;rw [bne_self_eq_false,cond_false]
 have h:Ap (fun s_:Nat=>G1 xs xs s_) 4611686018427387904 0=some (Ctl.next ()):=by
  refine A3 xs.length (fun i=>i) oM _ rfl (fun i hi=>?_) ?_
  ·have hx:=gEg hi
   try dsimp only
   unfold G1 Oy;rw [Ax oM,cond_true,hx,obs,obs,bne_self_eq_false,cond_false,bne_self_eq_false,cond_false,beq_self_eq_true,Bool.not_true,cond_false,obs,Bool.not_true,cond_false,Af oM]
  ·try dsimp only
   unfold G1;rw [Au oM,cond_false]
 rw [h];rfl
theorem Amx (xs:List Nd) {v:Int} (hv:0<=v/\v<=1048576) (hx:xs.length<=9223372036854775807) (hs:∀ n∈xs,n.2.2.size<=9223372036854775807):∃ y,Ke xs v=some y/\(y<0∨(0<=y/\y<=v/\((xs.length:Nat):Int)<=v)):=by
 unfold Ke;rw [Bc (n:=v - ((xs.length:Nat):Int)) oM oM];by_cases h:v - ((xs.length:Nat):Int)<0
 ·rw [Ax h];exact ⟨_,rfl,.inl oM⟩
 rw [Au h,cond_false]
 have key:∃ c,Ap (fun s_:Int×Nat=>Gz xs s_.1 s_.2) 4611686018427387904 (v - ((xs.length:Nat):Int),0)=some c/\((∃ y,c=Ctl.next y/\0<=y/\y<=v)∨∃ y,c=Ctl.out y/\y<0):=by
  refine K6 (Post:=fun c=>(∃ y,c=Ctl.next y/\0<=y/\y<=v)∨∃ y,c=Ctl.out y/\y<0) xs.length (fun k s=>s.2=k/\0<=s.1/\s.1<=v) oM ⟨rfl,by dsimp only;omega,by dsimp only;omega⟩ ?_ ?_
  ·rintro k ⟨y,k'⟩ hk ⟨h1,h2,h3⟩;dsimp only at h1 h2 h3;subst h1;have hn:=gEg hk;have hz:=hs _ (List.getElem_mem hk)
   try dsimp only
   unfold Gz Ol;rw [Ax oM,cond_true,hn,obs,Bc (n:=y - ((xs[k'].2.2.size:Nat):Int)) oM oM];by_cases h4:y - ((xs[k'].2.2.size:Nat):Int)<0
   ·rw [Ax h4];exact .inr ⟨_,rfl,.inr ⟨_,rfl,by omega⟩⟩
   ·rw [Au h4,cond_false,obs,Au h4,cond_false,Af oM];exact .inl ⟨_,rfl,rfl,by dsimp only;omega,by dsimp only;omega⟩
  ·rintro ⟨y,k'⟩ ⟨h1,h2,h3⟩;dsimp only at h1 h2 h3;subst h1
   try dsimp only
   unfold Gz;rw [Au oM,cond_false];exact ⟨_,rfl,.inl ⟨_,rfl,h2,h3⟩⟩
 obtain ⟨c,hc,⟨y,rfl,h1,h2⟩|⟨y,rfl,h1⟩⟩:=key
 ·rw [hc];exact ⟨_,rfl,.inr ⟨h1,h2,by omega⟩⟩
 ·rw [hc];exact ⟨_,rfl,.inl h1⟩
theorem Acl (s:ByteArray) (xs:List Nd) (l r:Int) (b:List (List Int)) {v:Int} (hv:0<=v/\v<=1048576) (h0:s.size<=9223372036854775807) (hx:xs.length<=9223372036854775807) (hs:∀ n∈xs,n.2.2.size<=9223372036854775807) (hb:b.length<=9223372036854775807) (hr:Il 9223372036854775807 b) :
  ∃ y,Ge s xs l r b v=some y/\(y<0∨(0<=y/\y<=v/\xs.length<=1048576/\b.length<=1048576/\Il 1048576 b)):=by
 unfold Ge Ok;rw [Bc (n:=v - ((s.size:Nat):Int)) oM oM];by_cases h:v - ((s.size:Nat):Int)<0
 ·rw [Ax h];exact ⟨_,rfl,.inl oM⟩
 rw [Au h,cond_false];obtain ⟨y,hy,h1|⟨h1,h2,h3⟩⟩:=Amx xs (v:=v - ((s.size:Nat):Int)) oM hx hs
 ·rw [hy,obs,Ax h1];exact ⟨_,rfl,.inl oM⟩
 ·rw [hy,obs,Au oM,cond_false,obs,Au oM,cond_false,Afo l r b oM hb hr,obs];by_cases h4:szW y b<0
  ·rw [Ax h4];exact ⟨_,rfl,.inl oM⟩
  ·obtain ⟨g1,g2,g3⟩:=Auq oM h4;rw [Au h4];exact ⟨_,rfl,.inr ⟨by omega,by omega,by omega,by omega,g2⟩⟩
theorem Ach (s:ByteArray) (xs:List Nd) (l r:Int) (b:List (List Int)) (hx:xs.length<=1048576) (hb:b.length<=1048576) (hr:Il 1048576 b):Dg s xs l r b=some (s,xs,l,r,b):=by
 unfold Dg O2;rw [Als xs oM,Aew l r b hb hr];rfl
theorem Aci (s:ByteArray) (xs:List Nd) (l r:Int) (b:List (List Int)) (hx:xs.length<=1048576) (hb:b.length<=1048576) (hr:Il 1048576 b):F5 s xs l r b s xs l r b=some true:=by
 unfold F5 O6;rw [Aml xs oM,Aet l r b hb hr,beq_self_eq_true];rfl
end
section
def Cg (p a b:Int):Prop:=∃ q,a=b+p*q
section
variable {p a b c d:Int}
theorem Cg.rf:Cg p a a:=⟨0,by simp⟩
theorem Cg.of (h:a=b):Cg p a b:=h▸Cg.rf
theorem Cg.symm (h:Cg p a b):Cg p b a:=by obtain ⟨q,rfl⟩:=h;exact ⟨-q,by grind⟩
theorem Cg.trans (h1:Cg p a b) (h2:Cg p b c):Cg p a c:=by obtain ⟨q,rfl⟩:=h1;obtain ⟨r,rfl⟩:=h2;exact ⟨q+r,by grind⟩
theorem Cg.add (h1:Cg p a b) (h2:Cg p c d):Cg p (a+c) (b+d):=by obtain ⟨q,rfl⟩:=h1;obtain ⟨r,rfl⟩:=h2;exact ⟨q+r,by grind⟩
theorem Cg.sub (h1:Cg p a b) (h2:Cg p c d):Cg p (a - c) (b - d):=by obtain ⟨q,rfl⟩:=h1;obtain ⟨r,rfl⟩:=h2;exact ⟨q - r,by grind⟩
theorem Cg.mul (h1:Cg p a b) (h2:Cg p c d):Cg p (a*c) (b*d):=by obtain ⟨q,rfl⟩:=h1;obtain ⟨r,rfl⟩:=h2;exact ⟨q*d+b*r+p*q*r,by grind⟩
theorem Cg.md:Cg p (a % p) a:=⟨-(a / p),by have:=Int.emod_add_mul_ediv a p;grind⟩
theorem Cg.to (h:Cg p a b):a % p=b % p:=by obtain ⟨q,rfl⟩:=h;rw [Int.add_mul_emod_self_left]
theorem Cg.fr (h:a % p=b % p):Cg p a b:=(Cg.md.symm.trans (Cg.of h)).trans Cg.md
theorem Cg.eq (h:Cg p a b) (h1:0<=a/\a<p) (h2:0<=b/\b<p):a=b:=by
 have:=h.to
 rwa [Int.emod_eq_of_lt h1.1 h1.2,Int.emod_eq_of_lt h2.1 h2.2] at this
end
def sm:Nat->(Nat->Int)->Int
 | 0,_=>0
 | k+1,f=>sm k f+f k
section
variable {p:Int} {f g:Nat->Int}
theorem L2:∀ {k:Nat},(∀ i,i<k->Cg p (f i) (g i))->Cg p (sm k f) (sm k g)
 | 0,_=>Cg.rf
 | k+1,h=>(L2 fun i hi=>h i oM).add (h k oM)
theorem U7:∀ {k:Nat},(∀ i,i<k->f i=g i)->sm k f=sm k g
 | 0,_=>rfl
 | k+1,h=>by unfold sm;rw [U7 fun i hi=>h i oM,h k oM]
theorem Ra:∀ {k:Nat},sm k (fun i=>f i+g i)=sm k f+sm k g
 | 0=>rfl
 | k+1=>by unfold sm;rw [Ra];dsimp only;omega
theorem T2 {a:Int}:∀ {k:Nat},sm k (fun i=>a*f i)=a*sm k f
 | 0=>by simp [sm]
 | k+1=>by unfold sm;rw [T2];grind
theorem J4:∀ {k:Nat},(∀ i,i<k->f i=0)->sm k f=0
 | 0,_=>rfl
 | k+1,h=>by unfold sm;rw [J4 fun i hi=>h i oM,h k oM];rfl
theorem O3 {t:Nat}:∀ {k:Nat},t<k->(∀ i,i<k->i≠t->f i=0)->sm k f=f t
 | 0,h,_=>by omega
 | k+1,h,h0=>by
  unfold sm;by_cases e:t=k
  ·subst e;rw [J4 fun i hi=>h0 i oM oM];omega
  ·rw [O3 (t:=t) oM fun i hi=>h0 i oM,h0 k oM oM];omega
end
def en (m:List (List Int)) (i j:Nat):Int:=(m.getD i []).getD j 0
inductive Db (p:Int) (n:Nat) (m:List (List Int)):(Nat->Int)->Prop
 | zero {f:Nat->Int}:(∀ j,j<n->Cg p (f j) 0)->Db p n m f
 | add {f g:Nat->Int} (i:Nat) (k:Int):i<m.length->Db p n m g->(∀ j,j<n->Cg p (f j) (g j+k*en m i j))->Db p n m f
section
variable {p:Int} {n:Nat} {m m':List (List Int)} {f g:Nat->Int}
theorem Co {i:Nat} (h:i<m.length):Db p n m (en m i):=.add i 1 h (.zero (f:=fun _=>0) fun _ _=>Cg.rf) fun _ _=>Cg.of oM
theorem Ev (h:Db p n m f) (hf:∀ j,j<n->Cg p (g j) (f j)):Db p n m g:=by
 cases h with
 | zero h=>exact .zero fun j hj=>(hf j hj).trans (h j hj)
 | add i k hi h hs=>exact .add i k hi h fun j hj=>(hf j hj).trans (hs j hj)
theorem Rd (h:Db p n m f) (hg:Db p n m g):Db p n m (fun j=>f j+g j):=by
 induction hg with
 | zero h0=>exact Ev h fun j hj=>(Cg.rf.add (h0 j hj)).trans (Cg.of oM)
 | add i k hi _ hs ih=>exact .add i k hi ih fun j hj=>(Cg.rf.add (hs j hj)).trans (Cg.of oM)
theorem L3 (a:Int) (h:Db p n m f):Db p n m (fun j=>a*f j):=by
 induction h with
 | zero h0=>exact .zero fun j hj=>(Cg.rf.mul (h0 j hj)).trans (Cg.of oM)
 | add i k hi _ hs ih=>exact .add i (a*k) hi ih fun j hj=>(Cg.rf.mul (hs j hj)).trans (Cg.of (by grind))
theorem Sj (h:∀ i,i<m.length->Db p n m' (en m i)) (hf:Db p n m f):Db p n m' f:=by
 induction hf with
 | zero h0=>exact .zero h0
 | add i k hi _ hs ih=>exact Ev (Rd ih (L3 k (h i hi))) hs
theorem Ad5 {F:Nat->Nat->Int}:∀ {k:Nat},(∀ i,i<k->Db p n m (F i))->Db p n m (fun j=>sm k fun i=>F i j)
 | 0,_=>.zero fun _ _=>Cg.rf
 | k+1,h=>Rd (Ad5 fun i hi=>h i oM) (h k oM)
structure J3 (c r:Nat) (m:List (List Int)) (pv:Nat->Nat):Prop where
 rl:r<=m.length
 lt:∀ i,i<r->pv i<c
 mono:∀ i k,i<k->k<r->pv i<pv k
 low:∀ i,i<r->∀ j,j<pv i->en m i j=0
 one:∀ i,i<r->en m i (pv i)=1
 zero:∀ i,i<r->∀ k,k≠i->en m k (pv i)=0
 tail:∀ i,r<=i->∀ j,j<c->en m i j=0
theorem Qe {i j:Nat} (h:m.length<=i):en m i j=0:=by
 unfold en;rw [gDg (l:=m),List.getElem?_eq_none h];rfl
theorem Aox {pv:Nat->Nat} (h:J3 n m.length m pv) (hs:Db p n m f):∀ j,j<n->Cg p (f j) (sm m.length fun i=>f (pv i)*en m i j):=by
 induction hs with
 | zero h0 =>
  intro j hj;refine (h0 j hj).trans ?_;refine Cg.symm ((L2 (g:=fun _=>0) fun i hi=>?_).trans (Cg.of (J4 fun _ _=>rfl)));exact ((h0 _ (h.lt i hi)).mul Cg.rf).trans (Cg.of oM)
 | @add f g t k ht _ hs ih =>
  intro j hj;refine (hs j hj).trans (((ih j hj).add Cg.rf).trans ?_)
  have e:sm m.length (fun i=>(g (pv i)+k*en m t (pv i))*en m i j)=sm m.length (fun i=>g (pv i)*en m i j)+k*en m t j:=by
   rw [U7 (g:=fun i=>g (pv i)*en m i j+k*(en m t (pv i)*en m i j)) fun i _=>by grind,Ra (f:=fun i=>g (pv i)*en m i j),T2 (f:=fun i=>en m t (pv i)*en m i j),O3 (f:=fun i=>en m t (pv i)*en m i j) ht fun i hi hne=>by rw [h.zero i hi t (Ne.symm hne)];omega,h.one t ht,Int.one_mul]
  rw [← e];exact (L2 fun i hi=>(hs _ (h.lt i hi)).mul Cg.rf).symm
theorem Ak4 {pv:Nat->Nat} (h:J3 n m.length m pv) (hs:Db p n m f) {q:Nat} (hq:q<n) (h0:∀ j,j<q->Cg p (f j) 0) (h1:¬ Cg p (f q) 0):∃ i,i<m.length/\pv i=q:=by
 refine Classical.byContradiction fun hn=>h1 ?_
 refine (Aox h hs q hq).trans ((L2 (g:=fun _=>0) fun i hi=>?_).trans (Cg.of (J4 fun _ _=>rfl)));rcases Nat.lt_trichotomy (pv i) q with hlt|he|hgt
 ·exact ((h0 _ hlt).mul Cg.rf).trans (Cg.of oM)
 ·exact (hn ⟨i,hi,he⟩).elim
 ·exact Cg.of (by rw [h.low i hi q hgt];omega)
theorem Alp {u v:Nat->Nat} {k l:Nat} (hu:∀ i j,i<j->j<k->u i<u j) (hv:∀ i j,i<j->j<l->v i<v j) (h1:∀ i,i<k->∃ t,t<l/\v t=u i) (h2:∀ i,i<l->∃ t,t<k/\u t=v i) :
  ∀ i,i<k->i<l->u i=v i:=by
 intro i
 induction i using Nat.strongRecOn with
 | _ i ih =>
  intro hk hl;obtain ⟨t,ht,e⟩:=h1 i hk;obtain ⟨s,hs,e'⟩:=h2 i hl
  have a1:v i<=u i:=by
   rcases Nat.lt_trichotomy t i with hlt|he|hgt
   ·have:=ih t hlt oM ht;have:=hu t i hlt hk;omega
   ·subst he;omega
   ·have:=hv i t hgt ht;omega
  have a2:u i<=v i:=by
   rcases Nat.lt_trichotomy s i with hlt|he|hgt
   ·have:=ih s hlt hs oM;have:=hv s i hlt hl;omega
   ·subst he;omega
   ·have:=hu i s hgt hs;omega
  omega
theorem Aa2 {u v:Nat->Nat} {k l:Nat} (hu:∀ i j,i<j->j<k->u i<u j) (hv:∀ i j,i<j->j<l->v i<v j) (h1:∀ i,i<k->∃ t,t<l/\v t=u i) (h2:∀ i,i<l->∃ t,t<k/\u t=v i):l<=k:=by
 refine Nat.le_of_not_lt fun hlt=>?_
 obtain ⟨t,ht,e⟩:=h2 k hlt;have:=Alp hu hv h1 h2 t ht oM;have:=hv t k ht hlt;omega
theorem Ao0 (hp:2<=p):¬ Cg p 1 0:=fun h=>by
 have:=h.eq ⟨by omega,by omega⟩ ⟨by omega,by omega⟩;omega
theorem Aku {i j:Nat} (hp:2<=p) (hm:MatW p n m):0<=en m i j/\en m i j<p:=by
 unfold en;by_cases h:i<m.length
 ·have hx:=hm _ (Hi h);generalize m.getD i []=x at hx;by_cases hj:j<x.length
  ·rw [Bg (gEg hj)];exact hx.2 _ (List.getElem_mem hj)
  ·rw [gDg,List.getElem?_eq_none oM];exact ⟨by simp,by simp;omega⟩
 ·rw [gDg (l:=m),List.getElem?_eq_none oM];simp;omega
theorem Asz (hm:MatW p n m) (hm':MatW p n m') (hl:m.length=m'.length) (h:∀ i,i<m.length->∀ j,j<n->en m i j=en m' i j):m=m':=by
 refine List.ext_getElem hl fun i h1 h2=>?_
 have e1:=hm _ (List.getElem_mem h1);have e2:=hm' _ (List.getElem_mem h2);refine List.ext_getElem (e1.1.trans e2.1.symm) fun j k1 k2=>?_
 have:=h i h1 j (by have:=e1.1;omega);unfold en at this;rw [Bg (gEg h1),Bg (gEg h2),Bg (gEg k1),Bg (gEg k2)] at this;exact this
theorem Amn {pv pv':Nat->Nat} (hp:2<=p) (h:J3 n m.length m pv) (h':J3 n m'.length m' pv') (hm:MatW p n m) (hm':MatW p n m') (h1:∀ f,Db p n m f->Db p n m' f) (h2:∀ f,Db p n m' f->Db p n m f):m=m':=by
 have k1:∀ i,i<m.length->∃ t,t<m'.length/\pv' t=pv i:=fun i hi =>
  Ak4 h' (h1 _ (Co hi)) (h.lt i hi) (fun j hj=>Cg.of (h.low i hi j hj)) (by rw [h.one i hi];exact Ao0 hp)
 have k2:∀ i,i<m'.length->∃ t,t<m.length/\pv t=pv' i:=fun i hi =>
  Ak4 h (h2 _ (Co hi)) (h'.lt i hi) (fun j hj=>Cg.of (h'.low i hi j hj)) (by rw [h'.one i hi];exact Ao0 hp)
 have hl:m.length=m'.length:=Nat.le_antisymm (Aa2 h'.mono h.mono k2 k1) (Aa2 h.mono h'.mono k1 k2);have hpv:=Alp h.mono h'.mono k1 k2;refine Asz hm hm' hl fun i hi j hj=>?_
 refine Cg.eq (Cg.symm ((Aox h (h2 _ (Co (i:=i) oM)) j hj).trans (Cg.of ?_))) (Aku hp hm) (Aku hp hm');rw [O3 hi fun t ht hne=>?_,hpv i hi oM,h'.one i oM]
 ·omega
 ·rw [hpv t ht oM,h'.zero t oM i (Ne.symm hne)];omega
theorem Aur {r k i j:Nat} (hr:r<m.length) (hk:k<m.length):en (Kz m r k) i j=if i=k then en m r j else if i=r then en m k j else en m i j:=by
 unfold en Kz;by_cases h1:i=k
 ·subst h1;rw [if_pos rfl,gDg (l:=List.set _ _ _),List.getElem?_set_self (by rw [List.length_set];exact hk)];rfl
 ·rw [if_neg h1,gDg (l:=List.set _ _ _),List.getElem?_set_ne (Ne.symm h1)];by_cases h2:i=r
  ·subst h2;rw [if_pos rfl,List.getElem?_set_self hr];rfl
  ·rw [if_neg h2,List.getElem?_set_ne (Ne.symm h2),← gDg]
theorem Al8 {k:Int} {x:List Int} {j:Nat}:(Ef p k x).getD j 0=x.getD j 0*k % p:=by
 unfold Ef;rw [gDg,List.getElem?_map,gDg];cases x[j]? with
 | none=>simp
 | some a=>rfl
theorem Adq {k:Int} {x v:List Int} {j:Nat} (h:x.length=v.length):(Da p k x v).getD j 0=(x.getD j 0 - k*v.getD j 0) % p:=by
 unfold Da;rw [gDg,List.getElem?_zipWith,gDg,gDg];by_cases hj:j<x.length
 ·rw [gEg hj,gEg (show j<v.length by omega)];rfl
 ·rw [List.getElem?_eq_none (show x.length<=j by omega),List.getElem?_eq_none (show v.length<=j by omega)];simp
theorem Avh {c r i j:Nat} {pr:List Int} (hm:MatW p n m) (hpr:pr.length=n) (hi:i<m.length):en (Gu p c r pr m) i j=if i=r then pr.getD j 0 else (en m i j - en m i c*pr.getD j 0) % p:=by
 have hx:=hm _ (List.getElem_mem hi);unfold en Gu;rw [gDg (l:=List.mapIdx _ _),List.getElem?_mapIdx,gEg hi,Bg (gEg hi)];show (if i=r then pr else Da p (m[i].getD c 0) m[i] pr).getD j 0=_;split
 ·rfl
 ·rw [Adq (by rw [hx.1,hpr])]
def Xa (p:Int):Prop:=∀ a,1<=a->a<p->a*Nq p a % p=1
theorem Asj {c:Nat} {s:Nat×List (List Int)} {pv:Nat->Nat} (hp:2<=p) (hI:Xa p) (hm:MatW p n s.2) (h:J3 c s.1 s.2 pv) :
  (∃ pv',J3 (c+1) (gjS p c s).1 (gjS p c s).2 pv')/\(∀ f,Db p n (gjS p c s).2 f↔Db p n s.2 f):=by
 obtain ⟨r,m⟩:=s;dsimp only at hm h;unfold gjS;dsimp only;by_cases h1:r<m.length
 ·rw [if_pos h1];by_cases h2:Dq m c r=m.length
  ·rw [if_pos h2];refine ⟨⟨pv,h.rl,fun i hi=>Nat.lt_succ_of_lt (h.lt i hi),h.mono,h.low,h.one,h.zero,fun i hi j hj=>?_⟩,fun f=>Iff.rfl⟩;dsimp only at hi ⊢;by_cases hjc:j<c
   ·exact h.tail i hi j hjc
   ·obtain rfl:j=c:=by omega
    by_cases hil:i<m.length
    ·exact Ab9 hi oM h.rl
    ·exact Qe oM
  ·rw [if_neg h2];have hk1:=Rm (c:=c) h.rl;have hk2:=Atz m c r;have hnz:=Ab4 h2 h.rl;have hkl:Dq m c r<m.length:=by omega
   have hx:=hm _ (Hi hkl);have ha:en m (Dq m c r) c≠0:=hnz;generalize hk:Dq m c r=k at *;have hab:=Aku (i:=k) (j:=c) hp hm;have hinv:=hI (en m k c) oM hab.2;generalize hv:Nq p (en m k c)=v at hinv
   have hpr:∀ j,(prV p c (m.getD k [])).getD j 0=en m k j*v % p:=fun j=>by
    unfold prV;rw [Al8];show _*Nq p (en m k c) % p=_;rw [hv];rfl
   have hprl:(prV p c (m.getD k [])).length=n:=(Rt hp hx.1).1;generalize prV p c (m.getD k [])=pr at *;have hW:=Yt hm h1 hkl;have hWl:=P8 m r k;have hWe:∀ i j,en (Kz m r k) i j=if i=k then en m r j else if i=r then en m k j else en m i j:=fun i j=>Aur h1 hkl
   generalize Kz m r k=W at *
   have hE:∀ i j,i<m.length->en (Gu p c r pr W) i j=if i=r then en m k j*v % p else (en W i j - en W i c*(en m k j*v % p)) % p:=fun i j hi=>by
    rw [Avh hW hprl oM,hpr]
   have hEl:=Oj p c r pr W
   have h0:∀ i j,i<m.length->i≠r->en m k j=0->en (Gu p c r pr W) i j=en W i j:=fun i j hi hne h0=>by
    have hb:=Aku (i:=i) (j:=j) hp hW;rw [hE i j hi,if_neg hne,h0,Int.zero_mul,Int.zero_emod,Int.mul_zero,Int.sub_zero,Int.emod_eq_of_lt hb.1 hb.2]
   have hkj:∀ j,j<c->en m k j=0:=fun j hj=>h.tail k oM j hj
   have hkp:∀ i,i<r->en m k (pv i)=0:=fun i hi=>h.zero i hi k oM
   have hcc:en m k c*v % p=1:=hinv
   have hsp:∀ i j,i<m.length->i≠r->Cg p (en (Gu p c r pr W) i j) (en W i j+ -en W i c*en (Gu p c r pr W) r j):=fun i j hi hne=>by
    rw [hE i j hi,if_neg hne,hE r j h1,if_pos rfl];exact Cg.md.trans (Cg.of (by grind))
   have hWr:∀ j,Cg p (en W r j) (en m k c*en (Gu p c r pr W) r j):=fun j=>by
    have e:en W r j=en m k j:=by
     rw [hWe];by_cases e:r=k
     ·rw [if_pos e,e]
     ·rw [if_neg e,if_pos rfl]
    rw [e,hE r j h1,if_pos rfl];obtain ⟨q,hq⟩:=Cg.fr (p:=p) (a:=en m k c*v) (b:=1) (by rw [hcc];exact (Int.emod_eq_of_lt oM oM).symm);refine Cg.trans ⟨-q*en m k j,?_⟩ (Cg.rf.mul Cg.md.symm)
    grind
   refine ⟨⟨fun i=>if i=r then c else pv i,?_,?_,?_,?_,?_,?_,?_⟩,fun f=>⟨Sj fun i hi=>?_,Sj fun i hi=>?_⟩⟩
   ·show r+1<=(Gu p c r pr W).length;omega
   ·intro i hi
    try dsimp only
    split
    ·omega
    ·have:=h.lt i oM;omega
   ·intro i l hil hl
    try dsimp only
    rw [if_neg (by omega:i≠r)];split
    ·exact h.lt i oM
    ·exact h.mono i l hil oM
   ·intro i hi j hj;dsimp only at hj ⊢;by_cases e:i=r
    ·subst e;rw [if_pos rfl] at hj;rw [hE i j h1,if_pos rfl,hkj j hj,Int.zero_mul,Int.zero_emod]
    ·rw [if_neg e] at hj;have:=h.lt i oM;rw [h0 i j oM e (hkj j oM),hWe,if_neg oM,if_neg e];exact h.low i oM j hj
   ·intro i hi;dsimp only;by_cases e:i=r
    ·subst e;rw [if_pos rfl,hE i c h1,if_pos rfl,hcc]
    ·rw [if_neg e,h0 i (pv i) oM e (hkp i oM),hWe,if_neg oM,if_neg e];exact h.one i oM
   ·intro i hi l hl;dsimp only;by_cases hll:l<m.length
    ·by_cases e:i=r
     ·subst e;rw [if_pos rfl,hE l c hll,if_neg hl,hcc,Int.mul_one,Int.sub_self,Int.zero_emod]
     ·rw [if_neg e];by_cases e2:l=r
      ·subst e2;rw [hE l (pv i) hll,if_pos rfl,hkp i oM,Int.zero_mul,Int.zero_emod]
      ·rw [h0 l (pv i) hll e2 (hkp i oM),hWe];by_cases e3:l=k
       ·rw [if_pos e3];exact h.zero i oM r oM
       ·rw [if_neg e3,if_neg e2];exact h.zero i oM l hl
    ·exact Qe oM
   ·intro i hi j hj;dsimp only at hi ⊢;by_cases hil:i<m.length
    ·by_cases e:j=c
     ·subst e;rw [hE i j hil,if_neg oM,hcc,Int.mul_one,Int.sub_self,Int.zero_emod]
     ·rw [h0 i j hil oM (hkj j oM),hWe];by_cases e3:i=k
      ·rw [if_pos e3];exact h.tail r (Nat.le_refl r) j oM
      ·rw [if_neg e3,if_neg oM];exact h.tail i oM j oM
    ·exact Qe oM
   ·have hi:i<m.length:=by dsimp only at hi;omega
    have hrow:∀ t,t<m.length->Db p n m (en W t):=fun t ht=>by
     by_cases e1:t=k
     ·exact Ev (Co h1) fun j hj=>Cg.of (by rw [hWe,if_pos e1])
     ·by_cases e2:t=r
      ·exact Ev (Co hkl) fun j hj=>Cg.of (by rw [hWe,if_neg e1,if_pos e2])
      ·exact Ev (Co ht) fun j hj=>Cg.of (by rw [hWe,if_neg e1,if_neg e2])
    have hr':Db p n m (en (Gu p c r pr W) r):=Ev (L3 v (Co hkl)) fun j hj=>by
     rw [hE r j h1,if_pos rfl];exact Cg.md.trans (Cg.of (by grind))
    by_cases e:i=r
    ·subst e;exact hr'
    ·exact Ev (Rd (hrow i hi) (L3 (-en W i c) hr')) fun j hj=>hsp i j hi e
   ·have hE':∀ t,t<m.length->Db p n (Gu p c r pr W) (en W t):=fun t ht=>by
     by_cases e:t=r
     ·subst e;exact Ev (L3 (en m k c) (Co (i:=t) oM)) fun j hj=>hWr j
     ·refine Ev (Rd (Co (i:=t) oM) (L3 (en W t c) (Co (i:=r) oM))) fun j hj=>?_
      exact Cg.symm (((hsp t j ht e).add Cg.rf).trans (Cg.of (by grind)))
    by_cases e1:i=r
    ·subst e1;exact Ev (hE' k hkl) fun j hj=>Cg.of (by rw [hWe,if_pos rfl])
    ·by_cases e2:i=k
     ·subst e2;exact Ev (hE' r h1) fun j hj=>Cg.of (by rw [hWe,if_neg oM,if_pos rfl])
     ·exact Ev (hE' i hi) fun j hj=>Cg.of (by rw [hWe,if_neg e2,if_neg e1])
 ·rw [if_neg h1];have:=h.rl;refine ⟨⟨pv,h.rl,fun i hi=>Nat.lt_succ_of_lt (h.lt i hi),h.mono,h.low,h.one,h.zero,fun i hi j hj=>Qe (m:=m) (by dsimp only at hi;omega)⟩,fun f=>Iff.rfl⟩
theorem Aez {m:List (List Int)} (hp:2<=p) (hI:Xa p) (hm:MatW p n m):∀ c,(∃ pv,J3 c (gjT p m c).1 (gjT p m c).2 pv)/\∀ f,Db p n (gjT p m c).2 f↔Db p n m f
 | 0=>⟨⟨fun _=>0,Nat.zero_le _,by intro i hi;simp [gjT] at hi,by intro i k _ hk;simp [gjT] at hk,by intro i hi;simp [gjT] at hi,by intro i hi;simp [gjT] at hi,by intro i hi;simp [gjT] at hi,fun _ _ j hj=>by omega⟩,fun _=>Iff.rfl⟩
 | c+1=>by
  obtain ⟨⟨pv,h1⟩,h2⟩:=Aez hp hI hm c;obtain ⟨h3,h4⟩:=Asj hp hI (Lb hp hm c).1 h1;exact ⟨h3,fun f=>(h4 f).trans (h2 f)⟩
theorem Um {r i j:Nat} (h:i<r):en (m.take r) i j=en m i j:=by
 unfold en;rw [gDg (l:=m.take r),List.getElem?_take,if_pos h,← gDg]
theorem Ags {k:Nat} (hk:k<=n) (h:Db p n m f):Db p k m f:=by
 induction h with
 | zero h0=>exact .zero fun j hj=>h0 j oM
 | add i k hi _ hs ih=>exact .add i k hi ih fun j hj=>hs j oM
theorem Aok {c:Nat} (hp:2<=p) (hI:Xa p) (hm:MatW p n m) (hc:c<=n):(∃ pv,J3 c (gj p c m).length (gj p c m) pv)/\∀ f,Db p c (gj p c m) f↔Db p c m f:=by
 obtain ⟨⟨pv,h⟩,h2⟩:=Aez hp hI hm c;have hl:=Adz (n:=c) hp hm;have hrl:=h.rl;refine ⟨⟨pv,Nat.le_refl _,?_,?_,?_,?_,?_,?_⟩,fun f=>Iff.trans (b:=Db p c (gjT p m c).2 f) ⟨Sj fun i hi=>?_,Sj fun i hi=>?_⟩ ⟨Sj fun i hi=>Ags hc ((h2 _).1 (Co hi)),Sj fun i hi=>Ags hc ((h2 _).2 (Co hi))⟩⟩
 ·rw [hl];exact h.lt
 ·rw [hl];exact h.mono
 ·rw [hl];intro i hi j hj;unfold gj;rw [Um hi];exact h.low i hi j hj
 ·rw [hl];intro i hi;unfold gj;rw [Um hi];exact h.one i hi
 ·rw [hl];intro i hi k hk;by_cases hkl:k<(gjT p m c).1
  ·unfold gj;rw [Um hkl];exact h.zero i hi k hk
  ·exact Qe oM
 ·intro i hi j _;exact Qe hi
 ·rw [hl] at hi;exact Ev (Co (i:=i) oM) fun j hj=>Cg.of (by unfold gj;rw [Um hi])
 ·by_cases hir:i<(gjT p m c).1
  ·exact Ev (Co (i:=i) oM) fun j hj=>Cg.of (by unfold gj;rw [Um hir])
  ·exact .zero fun j hj=>Cg.of (h.tail i oM j hj)
theorem R7 (hp:2<=p) (hI:Xa p) (hm:MatW p n m):(∃ pv,J3 n (gj p n m).length (gj p n m) pv)/\∀ f,Db p n (gj p n m) f↔Db p n m f:=Aok hp hI hm (Nat.le_refl n)
theorem Aev {pv:Nat->Nat} (hp:2<=p) (hI:Xa p) (hm:MatW p n m) (hm':MatW p n m') (h:J3 n m'.length m' pv) (hs:∀ f,Db p n m f↔Db p n m' f):gj p n m=m':=by
 obtain ⟨⟨pv',h1⟩,h2⟩:=R7 hp hI hm;exact Amn hp h1 h (Rj hp hm) hm' (fun f hf=>(hs f).1 ((h2 f).1 hf)) fun f hf=>(h2 f).2 ((hs f).2 hf)
theorem Arl (hp:2<=p) (hI:Xa p) (hm:MatW p n m) (hm':MatW p n m') (hs:∀ f,Db p n m f↔Db p n m' f):gj p n m=gj p n m':=by
 obtain ⟨⟨pv',h1⟩,h2⟩:=R7 hp hI hm';exact Aev hp hI hm (Rj hp hm') h1 fun f=>(hs f).trans (h2 f).symm
end
end
section
def E7 (x:List Int):Nat:=x.findIdx fun a=>a !=0
section
variable {p:Int} {n:Nat} {m m' B:List (List Int)} {o:List Int}
theorem An6 {c r i:Nat} {pv:Nat->Nat} (h:J3 c r m pv) (hm:MatW p n m) (hc:c<=n) (hi:i<r):E7 (m.getD i [])=pv i:=by
 have hl:=h.rl;have hx:=(hm _ (Hi (show i<m.length by omega))).1;have hlt:=h.lt i hi;have e:∀ (j:Nat) (hj:j<(m.getD i []).length),(m.getD i [])[j]=en m i j:=fun j hj=>(Bg (gEg hj)).symm
 unfold E7;refine (List.findIdx_eq (show pv i<(m.getD i []).length by omega)).2 ⟨?_,fun j hj=>?_⟩
 ·rw [e,h.one i hi];rfl
 ·rw [e,h.low i hi j hj];rfl
theorem Alv {n':Nat} {f:Nat->Int} {σ:Nat->Nat} (hl:m'.length=m.length) (hσ:∀ j,j<n'->σ j<n) (he:∀ i,i<m.length->∀ j,j<n'->en m' i j=en m i (σ j)) (h:Db p n m f):Db p n' m' (fun j=>f (σ j)):=by
 induction h with
 | zero h0=>exact .zero fun j hj=>h0 _ (hσ j hj)
 | add i k hi _ hs ih=>exact .add i k oM ih fun j hj=>(hs _ (hσ j hj)).trans (Cg.of (by rw [he i hi j hj]))
end
end
section
def N2 (p:Int) (n:Nat) (m:List (List Int)) (f:Nat->Int):Prop:=∀ i,i<m.length->Cg p (sm n fun j=>en m i j*f j) 0
section
variable {p:Int} {n:Nat} {m m':List (List Int)} {f g:Nat->Int}
theorem Am9 (hf:N2 p n m f) (hs:Db p n m g):Cg p (sm n fun j=>g j*f j) 0:=by
 induction hs with
 | zero h0=>exact (L2 (g:=fun _=>0) fun j hj=>((h0 j hj).mul Cg.rf).trans (Cg.of oM)).trans (Cg.of (J4 fun _ _=>rfl))
 | @add f' g' i k hi _ hs ih =>
  have e:sm n (fun j=>(g' j+k*en m i j)*f j)=sm n (fun j=>g' j*f j)+k*sm n (fun j=>en m i j*f j):=by
   rw [U7 (g:=fun j=>g' j*f j+k*(en m i j*f j)) fun j _=>by grind,Ra (f:=fun j=>g' j*f j),T2 (f:=fun j=>en m i j*f j)]
  refine (L2 fun j hj=>(hs j hj).mul Cg.rf).trans ((Cg.of e).trans ?_);exact (ih.add (Cg.rf.mul (hf i hi))).trans (Cg.of oM)
theorem Alh (h:∀ i,i<m'.length->Db p n m (en m' i)) (hf:N2 p n m f):N2 p n m' f:=fun i hi=>Am9 hf (h i hi)
theorem Apf (hf:N2 p n m f) (hg:N2 p n m g):N2 p n m (fun j=>f j+g j):=fun i hi=>by
 refine (Cg.of ?_).trans (((hf i hi).add (hg i hi)).trans (Cg.of oM));rw [U7 (g:=fun j=>en m i j*f j+en m i j*g j) fun j _=>by grind,Ra]
theorem Anx (a:Int) (hf:N2 p n m f):N2 p n m (fun j=>a*f j):=fun i hi=>by
 refine (Cg.of ?_).trans ((Cg.rf.mul (hf i hi)).trans (Cg.of (show a*0=0 by omega)));rw [U7 (g:=fun j=>a*(en m i j*f j)) fun j _=>by grind,T2]
theorem Ar7 (hf:N2 p n m f) (h:∀ j,j<n->Cg p (g j) (f j)):N2 p n m g:=fun i hi=>(L2 fun j hj=>Cg.rf.mul (h j hj)).trans (hf i hi)
theorem Adn (h:∀ i,i<m'.length->N2 p n m (en m' i)) (hs:Db p n m' f):N2 p n m f:=by
 induction hs with
 | zero h0=>exact fun i hi=>(L2 (g:=fun _=>0) fun j hj=>(Cg.rf.mul (h0 j hj)).trans (Cg.of oM)).trans (Cg.of (J4 fun _ _=>rfl))
 | add i k hi _ hs ih=>exact Ar7 (Apf ih (Anx k (h i hi))) hs
def pvs (r:Nat) (pv:Nat->Nat) (j:Nat):Bool:=(List.range r).any fun i=>pv i==j
theorem Ang {r j:Nat} {pv:Nat->Nat} (h:pvs r pv j=true):∃ i,i<r/\pv i=j:=by
 obtain ⟨i,hi,he⟩:=List.any_eq_true.1 h;exact ⟨i,List.mem_range.1 hi,beq_iff_eq.1 he⟩
theorem Aks {r j i:Nat} {pv:Nat->Nat} (h:pvs r pv j=false) (hi:i<r):pv i≠j:=fun e=>by
 have:=List.any_eq_false.1 h i (List.mem_range.2 hi);exact this (beq_iff_eq.2 e)
structure Avw (p:Int) (n:Nat) (R:List (List Int)) (pv:Nat->Nat) (N:List (List Int)):Prop where
 ex:∀ j,j<n->pvs R.length pv j=false->∃ t,t<N.length/\Cg p (en N t j) 1/\(∀ i,i<R.length->Cg p (en N t (pv i)) (-en R i j))/\∀ q,q<n->q≠j->pvs R.length pv q=false->Cg p (en N t q) 0
 all:∀ t,t<N.length->∃ j,j<n/\pvs R.length pv j=false/\Cg p (en N t j) 1/\(∀ i,i<R.length->Cg p (en N t (pv i)) (-en R i j))/\∀ q,q<n->q≠j->pvs R.length pv q=false->Cg p (en N t q) 0
theorem Am6 {R N:List (List Int)} {pv:Nat->Nat} (h:J3 n R.length R pv) (hN:Avw p n R pv N):Db p n N f↔N2 p n R f:=by
 have hd:∀ i k,i<R.length->k<R.length->en R i (pv k)=if k=i then 1 else 0:=fun i k hi hk=>by
  by_cases e:k=i
  ·subst e;rw [if_pos rfl,h.one k hk]
  ·rw [if_neg e,h.zero k hk i (Ne.symm e)]
 have hpi:∀ i k,i<R.length->k<R.length->pv i=pv k->i=k:=fun i k hi hk e=>by
  rcases Nat.lt_trichotomy i k with h1|h1|h1
  ·have:=h.mono i k h1 hk;omega
  ·exact h1
  ·have:=h.mono k i h1 hi;omega
 constructor
 ·refine Adn fun t ht i hi=>?_
  obtain ⟨j,hj,hfr,h1,h2,h3⟩:=hN.all t ht;have hne:pv i≠j:=Aks hfr hi
  have e:Cg p (sm n fun q=>en R i q*en N t q) (sm n fun q=>(if q=j then en R i j else 0)+(if q=pv i then -en R i j else 0)):=by
   refine L2 fun q hq=>?_
   by_cases e1:q=j
   ·subst e1;rw [if_pos rfl,if_neg (Ne.symm hne)];exact (Cg.rf.mul h1).trans (Cg.of oM)
   ·rw [if_neg e1];by_cases e2:q=pv i
    ·subst e2;rw [if_pos rfl,h.one i hi];exact (Cg.rf.mul (h2 i hi)).trans (Cg.of oM)
    ·rw [if_neg e2];cases hf:pvs R.length pv q
     ·exact (Cg.rf.mul (h3 q hq e1 hf)).trans (Cg.of oM)
     ·obtain ⟨k,hk,rfl⟩:=Ang hf;rw [hd i k hi hk,if_neg fun e=>e2 (by rw [e])];exact Cg.of oM
  refine e.trans (Cg.of ?_);rw [Ra,O3 hj fun q _ hq=>if_neg hq,O3 (h.lt i hi) fun q _ hq=>if_neg hq,if_pos rfl,if_pos rfl];omega
 ·intro hf
  have hrow:∀ j,∃ b:Nat->Int,Db p n N b/\(j<n->pvs R.length pv j=false->Cg p (b j) 1/\(∀ i,i<R.length->Cg p (b (pv i)) (-en R i j))/\∀ q,q<n->q≠j->pvs R.length pv q=false->Cg p (b q) 0):=fun j=>by
   by_cases hj:j<n/\pvs R.length pv j=false
   ·obtain ⟨t,ht,h1⟩:=hN.ex j hj.1 hj.2;exact ⟨en N t,Co ht,fun _ _=>h1⟩
   ·exact ⟨fun _=>0,.zero fun _ _=>Cg.rf,fun h1 h2=>(hj ⟨h1,h2⟩).elim⟩
  obtain ⟨b,hb⟩:∃ b:Nat->Nat->Int,∀ j,Db p n N (b j)/\(j<n->pvs R.length pv j=false->Cg p (b j j) 1/\(∀ i,i<R.length->Cg p (b j (pv i)) (-en R i j))/\∀ q,q<n->q≠j->pvs R.length pv q=false->Cg p (b j q) 0) :=
   ⟨fun j=>Classical.choose (hrow j),fun j=>Classical.choose_spec (hrow j)⟩
  have hS:Db p n N (fun q=>sm n fun j=>(if pvs R.length pv j then 0 else f j)*b j q):=Ad5 (F:=fun j q=>(if pvs R.length pv j then 0 else f j)*b j q) fun j _=>L3 _ (hb j).1
  refine Ev hS fun q hq=>Cg.symm ?_
  cases hf':pvs R.length pv q
  ·refine (L2 (g:=fun j=>if j=q then f q else 0) fun j hj=>?_).trans (Cg.of ?_)
   ·by_cases e:j=q
    ·subst e;rw [if_pos rfl,hf',if_neg (by decide)];exact (Cg.rf.mul ((hb j).2 hj hf').1).trans (Cg.of oM)
    ·rw [if_neg e];cases hfj:pvs R.length pv j
     ·exact (Cg.rf.mul (((hb j).2 hj hfj).2.2 q hq (Ne.symm e) hf')).trans (Cg.of oM)
     ·rw [if_pos rfl];exact Cg.of oM
   ·rw [O3 hq fun j _ hj=>if_neg hj,if_pos rfl]
  ·obtain ⟨i,hi,rfl⟩:=Ang hf';refine (L2 (g:=fun j=> -1*(en R i j*f j)+(if j=pv i then f j else 0)) fun j hj=>?_).trans ?_
   ·cases hfj:pvs R.length pv j
    ·have hne:j≠pv i:=fun e=>Aks hfj hi e.symm
     rw [if_neg (by decide),if_neg hne];exact (Cg.rf.mul (((hb j).2 hj hfj).2.1 i hi)).trans (Cg.of (by grind))
    ·obtain ⟨k,hk,rfl⟩:=Ang hfj;rw [if_pos rfl,hd i k hi hk];by_cases e:k=i
     ·subst e;rw [if_pos rfl,if_pos rfl];exact Cg.of oM
     ·rw [if_neg e,if_neg fun e'=>e (hpi k i hk hi e')];exact Cg.of oM
   ·rw [Ra (f:=fun j=> -1*(en R i j*f j)),T2 (f:=fun j=>en R i j*f j),O3 (f:=fun j=>if j=pv i then f j else 0) hq fun j _ hj=>if_neg hj,if_pos rfl];exact ((Cg.rf.mul (hf i hi)).add Cg.rf).trans (Cg.of oM)
theorem Ai4 {c r w:Nat} {pv:Nat->Nat} (h:J3 c r m pv) (hc:c<=w) (hs:Db p w m f):∃ g,Db p w (m.drop r) g/\∀ j,j<w->Cg p (f j) ((sm r fun i=>f (pv i)*en m i j)+g j):=by
 have hd:∀ t j,en (m.drop r) t j=en m (r+t) j:=fun t j=>by
  unfold en;rw [gDg (l:=m.drop r),List.getElem?_drop,← gDg]
 induction hs with
 | zero h0 =>
  refine ⟨fun _=>0,.zero fun _ _=>Cg.rf,fun j hj=>(h0 j hj).trans (Cg.symm ?_)⟩;refine (((L2 (g:=fun _=>0) fun i hi=>?_).trans (Cg.of (J4 fun _ _=>rfl))).add Cg.rf).trans (Cg.of (by dsimp only;omega));exact ((h0 _ (by have:=h.lt i hi;omega)).mul Cg.rf).trans (Cg.of oM)
 | @add f' g' t k ht _ hs ih =>
  obtain ⟨q,hq,he⟩:=ih;have hpw:∀ i,i<r->pv i<w:=fun i hi=>by have:=h.lt i hi;omega
  have e1:∀ j,Cg p (sm r fun i=>f' (pv i)*en m i j) ((sm r fun i=>g' (pv i)*en m i j)+k*sm r fun i=>en m t (pv i)*en m i j):=fun j=>by
   refine (L2 fun i hi=>(hs _ (hpw i hi)).mul Cg.rf).trans (Cg.of ?_);rw [U7 (g:=fun i=>g' (pv i)*en m i j+k*(en m t (pv i)*en m i j)) fun i _=>by grind,Ra (f:=fun i=>g' (pv i)*en m i j),T2 (f:=fun i=>en m t (pv i)*en m i j)]
  by_cases htr:t<r
  ·refine ⟨q,hq,fun j hj=>(hs j hj).trans (((he j hj).add Cg.rf).trans (Cg.symm (((e1 j).add Cg.rf).trans (Cg.of ?_))))⟩;rw [O3 (f:=fun i=>en m t (pv i)*en m i j) htr fun i hi hne=>by rw [h.zero i hi t (Ne.symm hne)];omega,h.one t htr,Int.one_mul];omega
  ·refine ⟨fun j=>q j+k*en m t j,?_,fun j hj=>(hs j hj).trans (((he j hj).add Cg.rf).trans (Cg.symm (((e1 j).add Cg.rf).trans (Cg.of ?_))))⟩
   ·refine Ev (Rd hq (L3 k (Co (i:=t - r) (by rw [List.length_drop];omega)))) fun j _=>Cg.of ?_
    rw [hd,show r+(t - r)=t by omega]
   ·rw [J4 (f:=fun i=>en m t (pv i)*en m i j) fun i hi=>by rw [h.zero i hi t oM];omega];dsimp only;omega
theorem Ame {R:Nat} {A W:List (List Int)} (hp:2<=p) (hI:Xa p) (hW:MatW p (R+n) W) (hl:W.length=n) (hA:A.length=R) (h1:∀ t,t<n->∀ i,i<R->en W t i=en A i t) (h2:∀ t,t<n->∀ j,j<n->en W t (R+j)=if j=t then 1 else 0) :
  Db p n (((gjT p W R).2.drop (gjT p W R).1).map (·.drop R)) f↔N2 p n A f:=by
 obtain ⟨⟨pv,hv⟩,hs⟩:=Aez hp hI hW R
 have hlin:∀ g,Db p (R+n) W g->∀ i,i<R->Cg p (g i) (sm n fun t=>en A i t*g (R+t)):=fun g hg=>by
  induction hg with
  | zero h0 =>
   intro i hi;refine (h0 i oM).trans (Cg.symm ((L2 (g:=fun _=>0) fun t ht=>?_).trans (Cg.of (J4 fun _ _=>rfl))));exact (Cg.rf.mul (h0 _ oM)).trans (Cg.of oM)
  | @add f' g' t k ht _ hs ih =>
   intro i hi;refine (hs i oM).trans (((ih i hi).add Cg.rf).trans (Cg.symm ?_));refine (L2 fun u hu=>Cg.rf.mul (hs (R+u) oM)).trans (Cg.of ?_)
   rw [U7 (g:=fun u=>en A i u*g' (R+u)+k*(en A i u*en W t (R+u))) fun u _=>by grind,Ra (f:=fun u=>en A i u*g' (R+u)),T2 (f:=fun u=>en A i u*en W t (R+u)),
    O3 (f:=fun u=>en A i u*en W t (R+u)) (t:=t) oM fun u hu hne=>by rw [h2 t oM u hu,if_neg hne];omega,h2 t oM t oM,if_pos rfl,h1 t oM i hi,Int.mul_one]
 have hen:∀ t j,t<((gjT p W R).2.drop (gjT p W R).1).length->en (((gjT p W R).2.drop (gjT p W R).1).map (·.drop R)) t j=en (gjT p W R).2 ((gjT p W R).1+t) (R+j):=fun t j ht=>by
  unfold en
  have e1:(((gjT p W R).2.drop (gjT p W R).1).map (·.drop R)).getD t []=((gjT p W R).2.getD ((gjT p W R).1+t) []).drop R:=by
   rw [gDg,List.getElem?_map,List.getElem?_drop,gDg];cases (gjT p W R).2[(gjT p W R).1+t]? with
   | none=>exact (List.drop_nil).symm
   | some x=>rfl
  rw [e1,gDg,List.getElem?_drop,← gDg]
 generalize gjT p W R=G at *;obtain ⟨r,M⟩:=G;dsimp only at *;constructor
 ·refine Adn fun t ht i hi=>?_
  have ht':t<(M.drop r).length:=by simpa using ht
  have h3:=hlin _ ((hs _).1 (Co (i:=r+t) (by rw [List.length_drop] at ht';omega))) i oM;rw [hv.tail (r+t) oM i oM] at h3;refine Cg.trans (Cg.of (U7 fun j hj=>?_)) h3.symm;rw [hen t j ht']
 ·intro hf;have hg:Db p (R+n) W (fun q=>sm n fun t=>f t*en W t q):=Ad5 (F:=fun t q=>f t*en W t q) fun t ht=>L3 _ (Co oM)
  have hq1:∀ i,i<R->Cg p (sm n fun t=>f t*en W t i) 0:=fun i hi=>by
   refine Cg.trans (Cg.of (U7 fun t ht=>?_)) (hf i oM);rw [h1 t ht i hi];exact Int.mul_comm _ _
  have hq2:∀ j,j<n->(sm n fun t=>f t*en W t (R+j))=f j:=fun j hj=>by
   rw [O3 (f:=fun t=>f t*en W t (R+j)) hj fun t ht hne=>by rw [h2 t ht j hj,if_neg (Ne.symm hne)];omega,h2 j hj j hj,if_pos rfl,Int.mul_one]
  obtain ⟨g,hgs,hge⟩:=Ai4 hv (Nat.le_add_right R n) ((hs _).2 hg)
  have hG:Db p (R+n) (M.drop r) (fun q=>sm n fun t=>f t*en W t q):=by
   refine Ev hgs fun q hq=>(hge q hq).trans ?_
   refine ((L2 (g:=fun _=>0) fun i hi=>?_).add Cg.rf).trans (Cg.of ?_)
   ·exact ((hq1 _ (hv.lt i hi)).mul Cg.rf).trans (Cg.of oM)
   ·rw [J4 fun _ _=>rfl];omega
  have hC:=Alv (m':=(M.drop r).map (·.drop R)) (n':=n) (σ:=fun j=>R+j) (List.length_map ..) (fun j hj=>by omega) (fun t ht j hj=>by
   rw [hen t j ht];unfold en;rw [gDg (l:=M.drop r),List.getElem?_drop,← gDg]) hG
  exact Ev hC fun j hj=>Cg.of (hq2 j hj).symm
end
def lv (R:List (List Int)) (i:Nat):Nat:=E7 (R.getD i [])
section
variable {p:Int} {n:Nat} {R:List (List Int)}
theorem Wd {pv:Nat->Nat} (h:J3 n R.length R pv) {w:Nat} (hm:MatW p w R) (hw:n<=w):J3 n R.length R (lv R):=by
 have e:∀ i,i<R.length->lv R i=pv i:=fun i hi=>An6 h hm hw hi
 refine ⟨Nat.le_refl _,fun i hi=>?_,fun i k hik hk=>?_,fun i hi j hj=>?_,fun i hi=>?_,fun i hi k hk=>?_,fun i hi j _=>Qe hi⟩
 ·rw [e i hi];exact h.lt i hi
 ·rw [e i oM,e k hk];exact h.mono i k hik hk
 ·rw [e i hi] at hj;exact h.low i hi j hj
 ·rw [e i hi];exact h.one i hi
 ·rw [e i hi];exact h.zero i hi k hk
end
end
section
section
variable {p:Int} {n:Nat} {m E R F:List (List Int)} {f g u v:Nat->Int}
def Ts (p:Int) (R:List (List Int)) (x:List Int):Nat->List Int
 | 0=>x
 | i+1=>Da p ((Ts p R x i).getD (lv R i) 0) (Ts p R x i) (R.getD i [])
theorem Sa {x:List Int} (hp:2<=p) (hR:MatW p n R) (hx:VecW p n x):∀ i,i<=R.length->VecW p n (Ts p R x i)
 | 0,_=>hx
 | i+1,hi=>Af2 hp (Sa hp hR hx i oM).1 (hR _ (Hi oM)).1
theorem Apt {x:List Int} (hp:2<=p) (hR:MatW p n R) (hx:VecW p n x) (h:J3 n R.length R (lv R)):∀ i,i<=R.length->∀ j,j<n->Cg p ((Ts p R x i).getD j 0) (x.getD j 0 - sm i fun t=>x.getD (lv R t) 0*en R t j)
 | 0,_,j,_=>Cg.of (by show _=_ - 0;rw [Int.sub_zero];rfl)
 | i+1,hi,j,hj=>by
  have ih:=Apt hp hR hx h i oM
  have hk:Cg p ((Ts p R x i).getD (lv R i) 0) (x.getD (lv R i) 0):=by
   refine (ih _ (h.lt i oM)).trans (Cg.of ?_);rw [J4 fun t ht=>by rw [h.zero i oM t oM];omega];omega
  show Cg p ((Da p _ _ _).getD j 0) _;rw [Adq (by rw [(Sa hp hR hx i oM).1,(hR _ (Hi (show i<R.length by omega))).1])];refine Cg.md.trans (((ih j hj).sub (hk.mul Cg.rf)).trans (Cg.of ?_));show _=x.getD j 0 - (sm i _+x.getD (lv R i) 0*en R i j);unfold en;omega
-- the equations from behind
end
end
section
section
variable {p:Int} {n:Nat} {m:List (List Int)}
theorem Aa7 (x:List Int) (hx:x.length<=1000):Gn x=some ((E7 x:Nat):Int):=by
 unfold Gn;have hle:E7 x<=x.length:=List.findIdx_le_length
 have h:Ap (fun s_:Nat=>H0 x s_) 4611686018427387904 0=some (E7 x):=by
  refine A3 (E7 x) (fun i=>i) oM _ rfl (fun i hi=>?_) ?_
  ·have h0:=List.not_of_lt_findIdx hi;have h1:x[i]'oM=0:=by simpa using h0
   try dsimp only
   unfold H0;rw [Ax oM,cond_true,gEg (show i<x.length by omega),obs,obs,h1,show ((0:Int)==0)=true from rfl,cond_true,Af oM]
  ·unfold H0;by_cases h:E7 x=x.length
   ·rw [Au oM,cond_false,obs,cond_false]
   ·have h0:=List.findIdx_getElem (w:=show E7 x<x.length by omega);rw [Ax oM,cond_true,gEg (show E7 x<x.length by omega),obs,obs,show ((x[E7 x]'oM)==0)=false from Bool.eq_false_iff.2 (fun e=>bne_iff_ne.1 h0 (beq_iff_eq.1 e)),cond_false]
 rw [h,obs]
theorem Ap5 (x:List Int) (hx:x.length<=100000):L9 x=some ((E7 x:Nat):Int):=by
 unfold L9;have hle:E7 x<=x.length:=List.findIdx_le_length
 have h:Ap (fun s_:Nat=>Kh x s_) 4611686018427387904 0=some (if E7 x=x.length then .next () else .out ((E7 x:Nat):Int)):=by
  refine A3 (E7 x) (fun i=>i) oM _ rfl (fun i hi=>?_) ?_
  ·have h0:=List.not_of_lt_findIdx hi;have h1:x[i]'oM=0:=by simpa using h0
   try dsimp only
   unfold Kh;rw [Ax oM,cond_true,gEg (show i<x.length by omega),obs,h1,show ((0:Int) !=0)=false from rfl,cond_false,Af oM]
  ·unfold Kh;by_cases h:E7 x=x.length
   ·rw [Au oM,cond_false,if_pos h]
   ·have h0:(x[E7 x]'oM !=0)=true:=List.findIdx_getElem (w:=show E7 x<x.length by omega);rw [Ax oM,cond_true,gEg (show E7 x<x.length by omega),obs,h0,cond_true,if_neg h]
 rw [h];by_cases h2:E7 x=x.length
 ·rw [if_pos h2];show some _=some _;rw [h2]
 ·rw [if_neg h2];rfl
def spV (p:Int) (n:Nat) (m:List (List Int)) (c:List Int):Nat->List Int
 | 0=>List.replicate n 0
 | i+1=>List.zipWith (fun a x=>(a+c.getD i 0*x) % p) (spV p n m c i) (m.getD i [])
theorem Jx {c:List Int} (hp:2<=p) (hm:MatW p n m):∀ i,i<=m.length->VecW p n (spV p n m c i)
 | 0,_=>⟨by simp [spV],fun a ha=>by obtain rfl:=(List.mem_replicate.1 ha).2;omega⟩
 | i+1,hi=>by
  have h1:=Jx (c:=c) hp hm i oM;have h2:=hm _ (Hi (show i<m.length by omega));refine ⟨by unfold spV;rw [List.length_zipWith,h1.1,h2.1];omega,fun a ha=>?_⟩;obtain ⟨b,d,rfl⟩:=Aie ha;exact Qz hp
theorem Atp {c:List Int} (hp:2<=p) (hm:MatW p n m):∀ i,i<=m.length->∀ j,j<n->Cg p ((spV p n m c i).getD j 0) (sm i fun t=>c.getD t 0*en m t j)
 | 0,_,j,_=>Cg.of (by show (List.replicate n (0:Int)).getD j 0=0;rw [gDg,List.getElem?_replicate];split <;> rfl)
 | i+1,hi,j,hj=>by
  have h1:=Jx (c:=c) hp hm i oM;have h2:=hm _ (Hi (show i<m.length by omega))
  have e:(spV p n m c (i+1)).getD j 0=((spV p n m c i).getD j 0+c.getD i 0*en m i j) % p:=by
   have k1:=(Cp h1 hj).2.2;have k2:=(Cp h2 hj).2.2;show (List.zipWith (fun a x=>(a+c.getD i 0*x) % p) (spV p n m c i) (m.getD i [])).getD j 0=_;unfold en;generalize spV p n m c i=X at *;rw [gDg,List.getElem?_zipWith,k1,k2];rfl
  rw [e];exact Cg.md.trans ((Atp hp hm i oM j hj).add Cg.rf)
theorem Ae5 {c:List Int} (hp:2<=p/\p<=97) (hm:MatW p n m) (hc:VecW p m.length c) (hn:n<=1000) (hl:m.length<=1000):H6 p (n:Int) m c=some (spV p n m c m.length):=by
 unfold H6;rw [Af oM,Int.toNat_natCast]
 have key:Ap (fun s_:Nat×List Int=>Jb m c p s_.1 s_.2) 4611686018427387904 (0,List.replicate n 0)=some (spV p n m c m.length):=by
  refine A3 m.length (fun i=>(i,spV p n m c i)) oM _ rfl (fun i hi=>?_) ?_
  ·have h1:=Jx (c:=c) hp.1 hm i oM;have h2:=hm _ (List.getElem_mem hi);have hl1:=h1.1;have hl2:=h2.1;have hcc:=hc.1;have hci:=Nt hc (j:=i) oM
   have hin:Ap (fun s_:Nat×List Int=>Jf m[i] c i p s_.1 s_.2) 4611686018427387904 (0,spV p n m c i)=some (spV p n m c (i+1)):=by
    have hv:=Jx (c:=c) hp.1 hm (i+1) oM;have hvl:=hv.1;refine Vi (y:=spV p n m c (i+1)) oM oM (fun j hj z hz=>?_) ?_
    ·have a1:=Nt h1 hj;have a2:=Nt h2 (j:=j) oM;have a3:=Ab3 hp hci a2
     try dsimp only
     unfold Jf;rw [Ax oM,cond_true,gEg (show j<m[i].length by omega),obs,hz,obs,gEg (show i<c.length by omega),obs,Af oM,Af oM,Bc (n:=c[i]'oM*m[i][j]'oM) oM oM,Bc oM oM,Int.tmod_eq_emod_of_nonneg oM];congr 4;simp only [spV,List.getElem_zipWith,Bg (gEg (show i<c.length by omega)),Bg (m:=m) (gEg hi)]
    ·try dsimp only
     unfold Jf;rw [Au oM,cond_false]
   try dsimp only
   unfold Jb;rw [Ax oM,cond_true,gEg hi,obs,hin,obs,Af oM]
  ·try dsimp only
   unfold Jb;rw [Au oM,cond_false]
 rw [key,obs]
def cvV (m:List (List Int)) (x:List Int) (i:Nat):List Int:=(List.range i).map fun t=>x.getD (lv m t) 0
theorem Aqn {x:List Int} {i:Nat}:(cvV m x i).length=i:=by simp [cvV]
theorem Aq5 {x:List Int} {i:Nat}:cvV m x (i+1)=cvV m x i++[x.getD (lv m i) 0]:=by simp [cvV,List.range_succ]
theorem Atv {i:Nat} (hi:i<m.length):E7 m[i]=lv m i:=by unfold lv;rw [Bg (gEg hi)]
theorem Avm {x:List Int} (h:J3 n m.length m (lv m)) (hx:VecW p n x):VecW p m.length (cvV m x m.length):=by
 refine ⟨Aqn,fun a ha=>?_⟩;obtain ⟨t,ht,rfl⟩:=List.mem_map.1 ha;have:=Cp hx (h.lt t (List.mem_range.1 ht));exact ⟨this.1,this.2.1⟩
theorem Arj {x:List Int} {t:Nat} (ht:t<m.length):(cvV m x m.length).getD t 0=x.getD (lv m t) 0:=by
 unfold cvV;rw [gDg,List.getElem?_map,List.getElem?_range ht];rfl
theorem Ajs {x:List Int} (hm:MatW p n m) (h:J3 n m.length m (lv m)) (hx:VecW p n x) (hn:n<=1000) (hl:m.length<=1000):Jh m x=some (cvV m x m.length):=by
 unfold Jh
 have key:Ap (fun s_:Nat×List Int=>F9 m x s_.1 s_.2) 4611686018427387904 (0,[])=some (cvV m x m.length):=by
  refine A3 m.length (fun i=>(i,cvV m x i)) oM _ rfl (fun i hi=>?_) ?_
  ·have h1:=hm _ (List.getElem_mem hi);have h2:=Cp hx (h.lt i hi);have h3:=Aqn (m:=m) (x:=x) (i:=i)
   try dsimp only
   unfold F9;rw [Ax oM,cond_true,gEg hi,obs,Aa7 _ (by rw [h1.1];exact hn),obs,Bq oM,Int.toNat_natCast,Atv hi,h2.2.2,obs,Af oM,Af oM,Aq5]
  ·try dsimp only
   unfold F9;rw [Au oM,cond_false]
 rw [key];rfl
def Mv (p:Int) (n:Nat) (m:List (List Int)) (x:List Int):Bool:=spV p n m (cvV m x m.length) m.length==x
theorem Ar9 {x:List Int} (hp:2<=p/\p<=97) (hm:MatW p n m) (h:J3 n m.length m (lv m)) (hx:VecW p n x) (hn:n<=1000) (hl:m.length<=1000):M2 p m x=some (Mv p n m x):=by
 unfold M2;have hv:=Avm h hx;have hs:=Jx (c:=cvV m x m.length) hp.1 hm m.length (Nat.le_refl _);rw [Ajs hm h hx hn hl,obs,hx.1,Ae5 hp hm hv hn hl,obs,Af7 _ _ (by rw [hs.1];omega)];rfl
theorem Am1 {x:List Int} (hx:VecW p n x):(((E7 x:Nat):Int)==((x.length:Nat):Int))=true↔∀ j,j<n->Cg p (x.getD j 0) 0:=by
 rw [beq_iff_eq];constructor
 ·intro e j hj;have e2:E7 x=x.length:=by omega
  have g:=Cp hx hj;have h0:=List.not_of_lt_findIdx (xs:=x) (p:=fun a=>a !=0) (i:=j) (by show j<E7 x;rw [e2,hx.1];exact hj);have h1:x[j]'(by rw [hx.1];exact hj)=0:=by simpa using h0
  rw [Bg (gEg (show j<x.length by rw [hx.1];exact hj)),h1];exact Cg.rf
 ·intro H
  have e2:E7 x=x.length:=by
   refine List.findIdx_eq_length.2 fun a ha=>?_
   obtain ⟨j,hj,rfl⟩:=List.mem_iff_getElem.1 ha;have hj':j<n:=by rw [← hx.1];exact hj
   have g:=Cp hx hj';have:=(H j hj').eq ⟨g.1,g.2.1⟩ ⟨by omega,by omega⟩;rw [Bg (gEg hj)] at this;simp [this]
  omega
theorem Ald {a s:Int}:Cg p (a - s) 0↔Cg p s a:=by
 constructor
 ·intro h;exact (Cg.of oM).trans (((Cg.rf (a:=a)).sub h).trans (Cg.of oM))
 ·intro h;exact ((Cg.rf (a:=a)).sub h).trans (Cg.of oM)
theorem Auy {x y:List Int} (hx:VecW p n x) (hy:VecW p n y):(x==y)=true↔∀ j,j<n->Cg p (x.getD j 0) (y.getD j 0):=by
 rw [beq_iff_eq];constructor
 ·rintro rfl j _;exact Cg.rf
 ·intro H;refine List.ext_getElem (by rw [hx.1,hy.1]) fun j h1 h2=>?_
  have hj:j<n:=by rw [← hx.1];exact h1
  have g:=Cp hx hj;have g':=Cp hy hj;have:=(H j hj).eq ⟨g.1,g.2.1⟩ ⟨g'.1,g'.2.1⟩
  rwa [Bg (gEg h1),Bg (gEg h2)] at this
theorem As8 {x:List Int} (hp:2<=p) (hm:MatW p n m) (h:J3 n m.length m (lv m)) (hx:VecW p n x) :
  (((E7 (Ts p m x m.length):Nat):Int)==(((Ts p m x m.length).length:Nat):Int))=Mv p n m x:=by
 rw [Bool.eq_iff_iff,Am1 (Sa hp hm hx _ (Nat.le_refl _))];unfold Mv;rw [Auy (Jx hp hm _ (Nat.le_refl _)) hx]
 have key:∀ j,j<n->(Cg p ((Ts p m x m.length).getD j 0) 0↔Cg p ((spV p n m (cvV m x m.length) m.length).getD j 0) (x.getD j 0)):=fun j hj=>by
  have h1:=Apt hp hm hx h m.length (Nat.le_refl _) j hj;have h2:=(Atp (c:=cvV m x m.length) hp hm m.length (Nat.le_refl _) j hj).trans (L2 (g:=fun t=>x.getD (lv m t) 0*en m t j) fun t ht=>by rw [Arj ht];exact Cg.rf);exact ⟨fun h0=>h2.trans ((Ald).1 (h1.symm.trans h0)),fun h0=>h1.trans ((Ald).2 (h2.symm.trans h0))⟩
 exact ⟨fun H j hj=>(key j hj).1 (H j hj),fun H j hj=>(key j hj).2 (H j hj)⟩
theorem Alt {l r:Int} {x:List Int} (hp:2<=p/\p<=97) (hm:MatW p n m) (h:J3 n m.length m (lv m)) (hx:VecW p n x) (hn:n<=1000) (hl:m.length<=1000):J6 p l r m x=some (Mv p n m x):=by
 unfold J6 Jq;have hxl:=hx.1;rw [Yp x oM,obs]
 have key:Ap (fun s_:Nat×List Int×List Int=>Et m p s_.1 s_.2.1 s_.2.2) 4611686018427387904 (0,x,[])=some (Ts p m x m.length,(List.range m.length).map fun t=>(Ts p m x t).getD (lv m t) 0):=by
  refine A3 m.length (fun i=>(i,Ts p m x i,(List.range i).map fun t=>(Ts p m x t).getD (lv m t) 0)) oM _ rfl (fun i hi=>?_) ?_
  ·have h1:=hm _ (List.getElem_mem hi);have hc:=Sa hp.1 hm hx i oM;have hc':=Sa hp.1 hm hx (i+1) oM;have h2:=Cp hc (h.lt i hi)
   have e:Da p ((Ts p m x i).getD (lv m i) 0) (Ts p m x i) m[i]=Ts p m x (i+1):=by
    show _=Da p _ _ (m.getD i []);rw [Bg (m:=m) (gEg hi)]
   try dsimp only
   unfold Et;rw [Ax oM,cond_true,gEg hi,obs,Ap5 _ (by rw [h1.1];omega),obs,Bq oM,Int.toNat_natCast,Atv hi,h2.2.2,obs,Af (by simp;omega),Ab2 hp hc h1 oM ⟨h2.1,h2.2.1⟩,obs,e,Af (by rw [hc.1,hc'.1]),Af oM,List.range_succ,List.map_append];rfl
  ·try dsimp only
   unfold Et;rw [Au oM,cond_false]
 have hc:=Sa hp.1 hm hx m.length (Nat.le_refl _);rw [key,obs];dsimp only;unfold Ot;rw [Ap5 _ (by rw [hc.1];omega),obs,As8 hp.1 hm h hx];rfl
theorem Arc {l r l' r':Int} {b:List (List Int)} (hp:2<=p/\p<=97) (hm:MatW p n m) (h:J3 n m.length m (lv m)) (hb:MatW p n b) (hn:n<=1000) (hl:m.length<=1000) (hl':b.length<=1000):Gv p l r m l' r' b=some (b.all (Mv p n m)):=by
 unfold Gv
 have key:Ap (fun s_:Nat=>E5 b p m s_) 4611686018427387904 0=some (if b.all (Mv p n m) then Ctl.next () else .out false):=by
  refine Fv b (Mv p n m) _ _ oM (fun i x hx=>?_) ?_
  ·have hi:=Ai hx;unfold E5;rw [Ax oM,cond_true,hx,obs,Ar9 hp hm h (hb x (List.mem_of_getElem? hx)) hn hl,obs,Af oM];cases Mv p n m x <;> rfl
  ·unfold E5;rw [Au oM,cond_false]
 rw [key,Lk]
theorem Aq7 {x:List Int} (hm:MatW p 0 m) (hp:2<=p) (hx:VecW p 0 x):Mv p 0 m x=true:=by
 unfold Mv;rw [beq_iff_eq,List.length_eq_zero_iff.1 (Jx (c:=cvV m x m.length) hp hm m.length (Nat.le_refl _)).1,List.length_eq_zero_iff.1 hx.1]
theorem Asp {l r l' r':Int} {b:List (List Int)} (hp:2<=p/\p<=97) (hm:MatW p n m) (h:J3 n m.length m (lv m)) (hb:MatW p n b) (hn:n<=1000) (hl:m.length<=1000) (hl':b.length<=1000) :
  ∃ z,Ku p l r m l' r' b=some z/\((z=.inl ()/\b.find? (fun x=> !Mv p n m x)=none)∨∃ x:List Int,z=.inr x/\b.find? (fun x=> !Mv p n m x)=some x):=by
 unfold Ku
 have key:∃ c,Ap (fun s_:Nat=>Gy b p l r m s_) 4611686018427387904 0=some c/\((c=Ctl.next ()/\b.find? (fun x=> !Mv p n m x)=none)∨∃ x:List Int,c=Ctl.out (Sum.inr x)/\b.find? (fun x=> !Mv p n m x)=some x):=by
  refine K6 (Post:=fun c=>(c=Ctl.next ()/\b.find? (fun x=> !Mv p n m x)=none)∨∃ x:List Int,c=Ctl.out (Sum.inr x)/\b.find? (fun x=> !Mv p n m x)=some x) b.length (fun i s=>s=i/\(b.take i).find? (fun x=> !Mv p n m x)=none) oM ⟨rfl,by simp⟩ ?_ ?_
  ·rintro i s hi ⟨rfl,hI⟩;have hg:=gEg hi;have hx:=hb _ (List.getElem_mem hi);have e:b.take (s+1)=b.take s++[b[s]]:=by rw [List.take_add_one,hg];rfl
   unfold Gy;rw [Ax oM,cond_true,hg,obs,Alt hp hm h hx hn hl,obs,Af oM];cases hh:Mv p n m b[s]
   ·refine .inr ⟨_,rfl,.inr ⟨_,rfl,?_⟩⟩;have e2:b=b.take (s+1)++b.drop (s+1):=(List.take_append_drop _ _).symm
    conv=>lhs;rw [e2,e]
    rw [List.find?_append,List.find?_append,hI];simp [hh]
   ·exact .inl ⟨_,rfl,rfl,by rw [e,List.find?_append,hI];simp [hh]⟩
  ·rintro s ⟨rfl,hI⟩;unfold Gy;rw [Au oM,cond_false];rw [List.take_length] at hI;exact ⟨_,rfl,.inl ⟨rfl,hI⟩⟩
 obtain ⟨c,hc,h1⟩:=key;rw [hc];rcases h1 with ⟨rfl,h1⟩|⟨x,rfl,h1⟩
 ·exact ⟨_,rfl,.inl ⟨rfl,h1⟩⟩
 ·exact ⟨_,rfl,.inr ⟨x,rfl,h1⟩⟩
theorem Apv {b:List (List Int)} {x:List Int} (hp:2<=p/\p<=97) (hm:MatW p n m) (hb:MatW p n b) (h:b.find? (fun x=> !Mv p n m x)=some x):VecW p n x/\x.length≠0/\b.all (Mv p n m)=false:=by
 have hx:=hb x (List.mem_of_find?_eq_some h);have hh:=List.find?_some h;have hh:Mv p n m x=false:=by simpa using hh
 refine ⟨hx,fun h0=>?_,?_⟩
 ·have hn0:n=0:=by rw [← hx.1];exact h0
  subst hn0;rw [Aq7 hm hp.1 hx] at hh;exact absurd hh (by decide)
 ·rw [List.all_eq_false];exact ⟨x,List.mem_of_find?_eq_some h,by rw [hh];decide⟩
theorem Amr {b:List (List Int)} (h:b.find? (fun x=> !Mv p n m x)=none):b.all (Mv p n m)=true:=by
 rw [List.all_eq_true];intro x hx
 simpa using List.find?_eq_none.1 h x hx
theorem Aqa {s:ByteArray} {xs:List Nd} {l r:Int} {b:List (List Int)} (hx:xs.length<=1073741824) (hb:b.length<=1048576) (hr:Il 1048576 b) (h:Ed p s xs l r b=some true):L7 p l r b=true:=by
 unfold Ed at h;obtain ⟨nm,n1,n2⟩:=Ajx s;rw [Zm,obs,n2,obs,U8 xs p hx,Th xs hx,Zd p l r b hb hr] at h;cases ht:tyV xs with
 | none=>rw [ht] at h;exact absurd h (by simp)
 | some w =>
  rw [ht,Option.isSome_some,Bool.true_and] at h;dsimp only at h;generalize isF p=a1 at h;generalize Oa p xs=a2 at h;generalize Xz xs=a3 at h;cases hg:L7 p l r b
  ·rw [hg] at h;cases nm <;> cases a1 <;> cases a2 <;> cases a3 <;> exact absurd h (by simp)
  ·rfl
theorem Amz {s:ByteArray} {xs:List Nd} {l r:Int} {b:List (List Int)} (hx:xs.length<=1073741824) (hb:b.length<=1048576) (hr:Il 1048576 b) (h:Ed p s xs l r b=some true):isF p=true/\Oa p xs=true/\Xz xs=true/\L7 p l r b=true/\tyV xs=some (l,r):=by
 have hg:=Aqa hx hb hr h;unfold Ed at h;obtain ⟨nm,n1,n2⟩:=Ajx s;rw [Zm,obs,n2,obs,U8 xs p hx,Th xs hx,Zd p l r b hb hr,hg] at h;cases ht:tyV xs with
 | none=>rw [ht] at h;exact absurd h (by simp)
 | some w =>
  rw [ht,Option.isSome_some,Bool.true_and] at h;dsimp only at h;cases h1:l==w.1
  ·rw [h1] at h;generalize isF p=a1 at h;generalize Oa p xs=a2 at h;generalize Xz xs=a3 at h;cases nm <;> cases a1 <;> cases a2 <;> cases a3 <;> exact absurd h (by simp)
  cases h2:r==w.2
  ·rw [h1,h2] at h;generalize isF p=a1 at h;generalize Oa p xs=a2 at h;generalize Xz xs=a3 at h;cases nm <;> cases a1 <;> cases a2 <;> cases a3 <;> exact absurd h (by simp)
  obtain rfl:=beq_iff_eq.1 h1;obtain rfl:=beq_iff_eq.1 h2;rw [h1,h2] at h;generalize isF p=a1 at *;generalize Oa p xs=a2 at *;generalize Xz xs=a3 at *;cases nm <;> cases a1 <;> cases a2 <;> cases a3 <;> first|exact ⟨rfl,rfl,rfl,hg,rfl⟩|exact absurd h (by simp)
theorem Anc {l r:Int} {b:List (List Int)} (G:Atw p l r b):J3 (l+r).toNat b.length b (lv b):=by
 have hp:=Ca G.fp;obtain ⟨⟨pv,h⟩,_⟩:=R7 hp.1 (fun _ h1 h2=>(Ae2 G.fp ⟨h1,h2⟩).2.2.2.2) G.mb;rw [G.rb] at h;exact Wd h G.mb (Nat.le_refl _)
end
end
section
theorem Abe {p:Int} (hp:isF p=true):Xa p:=fun _ h1 h2=>(Ae2 hp ⟨h1,h2⟩).2.2.2.2
theorem Ql {n:Int} (h:0<=n/\n<=1000000):Dk n=some (List.replicate n.toNat 0):=by
 unfold Dk;rw [Af oM]
def bvT (p:Int) (n:Nat) (R:List (List Int)) (j:Nat):Nat->List Int
 | 0=>(List.replicate n 0).set j 1
 | i+1=>(bvT p n R j i).set (lv R i) ((p - en R i j) % p)
def ldT (n:Nat) (R:List (List Int)):Nat->List Int
 | 0=>List.replicate n (-1)
 | i+1=>(ldT n R i).set (lv R i) (i:Int)
def Xd (n:Nat) (R:List (List Int)):List Nat:=(List.range n).filter fun j=> !pvs R.length (lv R) j
def Qn (p:Int) (n:Nat) (R:List (List Int)):List (List Int):=(Xd n R).map fun j=>bvT p n R j R.length
def Ml (p:Int) (n:Nat) (m:List (List Int)):List (List Int):=gj p n (Qn p n (gj p n m))
section
variable {p:Int} {n:Nat} {R m:List (List Int)}
theorem Agt {pv:Nat->Nat} {i j:Nat}:pvs (i+1) pv j=(pvs i pv j||(pv i==j)):=by simp [pvs,List.range_succ]
theorem Aer:∀ i,(ldT n R i).length=n
 | 0=>by simp [ldT]
 | i+1=>by unfold ldT;rw [List.length_set,Aer i]
theorem Ann (hlt:∀ i,i<R.length->lv R i<n) {j:Nat} (hj:j<n):∀ i,i<=R.length->∃ v,(ldT n R i)[j]? =some v/\(decide (0<=v)=pvs i (lv R) j)
 | 0,_=>⟨-1,by simp [ldT,hj],rfl⟩
 | i+1,hi=>by
  obtain ⟨v,h1,h2⟩:=Ann hlt hj i oM;have hl:=Aer (n:=n) (R:=R) i;by_cases e:lv R i=j
  ·refine ⟨(i:Int),?_,?_⟩
   ·unfold ldT;rw [e,List.getElem?_set_self oM]
   ·rw [Agt,beq_iff_eq.2 e,Bool.or_true,Ax oM]
  ·refine ⟨v,?_,?_⟩
   ·unfold ldT;rw [List.getElem?_set_ne e];exact h1
   ·rw [Agt,beq_eq_false_iff_ne.2 e,Bool.or_false];exact h2
theorem Vm {j:Nat}:∀ i,(bvT p n R j i).length=n
 | 0=>by simp [bvT]
 | i+1=>by unfold bvT;rw [List.length_set,Vm i]
theorem Ap0 {j:Nat} (hp:2<=p):∀ i,inV p (bvT p n R j i)
 | 0=>fun a ha=>by
  rcases List.mem_or_eq_of_mem_set ha with ha|rfl
  ·obtain rfl:=(List.mem_replicate.1 ha).2;omega
  ·omega
 | i+1=>fun a ha=>by
  rcases List.mem_or_eq_of_mem_set ha with ha|rfl
  ·exact Ap0 hp i a ha
  ·exact Qz hp
theorem R9 {x:List Int} {i j:Nat} {a:Int} (hi:i<x.length):(x.set i a).getD j 0=if i=j then a else x.getD j 0:=by
 rw [gDg];by_cases e:i=j
 ·subst e;rw [if_pos rfl,List.getElem?_set_self hi];rfl
 ·rw [if_neg e,List.getElem?_set_ne e,← gDg]
theorem Akc {j:Nat} (h:J3 n R.length R (lv R)):∀ i,i<=R.length->∀ t,t<i->(bvT p n R j i).getD (lv R t) 0=(p - en R t j) % p
 | 0,_,t,ht=>by omega
 | i+1,hi,t,ht=>by
  unfold bvT;rw [R9 (by rw [Vm];exact h.lt i oM)];by_cases e:i=t
  ·subst e;rw [if_pos rfl]
  ·have:=h.mono t i oM oM;rw [if_neg oM];exact Akc h i oM t oM
theorem Aaa {j q:Nat} (h:J3 n R.length R (lv R)) (hj:j<n):∀ i,i<=R.length->(∀ t,t<i->lv R t≠q)->(bvT p n R j i).getD q 0=if j=q then 1 else 0
 | 0,_,_=>by
  unfold bvT;rw [R9 (by simpa using hj)];by_cases e:j=q
  ·rw [if_pos e,if_pos e]
  ·rw [if_neg e,if_neg e,gDg,List.getElem?_replicate];split <;> rfl
 | i+1,hi,hq=>by
  unfold bvT;rw [R9 (by rw [Vm];exact h.lt i oM),if_neg (hq i oM)];exact Aaa h hj i oM fun t ht=>hq t oM
theorem Rb (hp:2<=p):MatW p n (Qn p n R):=fun x hx=>by
 obtain ⟨j,_,rfl⟩:=List.mem_map.1 hx;exact ⟨Vm _,Ap0 hp _⟩
theorem Af5:(Qn p n R).length<=n:=by
 unfold Qn Xd;rw [List.length_map];exact Nat.le_trans (List.length_filter_le ..) (by simp)
theorem Asb (hp:2<=p) (h:J3 n R.length R (lv R)):Avw p n R (lv R) (Qn p n R):=by
 have hb:∀ j,j<n->pvs R.length (lv R) j=false->Cg p ((bvT p n R j R.length).getD j 0) 1/\(∀ i,i<R.length->Cg p ((bvT p n R j R.length).getD (lv R i) 0) (-en R i j))/\∀ q,q<n->q≠j->pvs R.length (lv R) q=false->Cg p ((bvT p n R j R.length).getD q 0) 0:=fun j hj hf=>by
  refine ⟨?_,fun i hi=>?_,fun q _ hne hfq=>?_⟩
  ·rw [Aaa h hj _ (Nat.le_refl _) fun t ht=>Aks hf ht,if_pos rfl];exact Cg.rf
  ·rw [Akc h _ (Nat.le_refl _) i hi];exact Cg.md.trans ⟨1,by omega⟩
  ·rw [Aaa h hj _ (Nat.le_refl _) fun t ht=>Aks hfq ht,if_neg (Ne.symm hne)];exact Cg.rf
 have he:∀ t j,(Xd n R)[t]? =some j->∀ q,en (Qn p n R) t q=(bvT p n R j R.length).getD q 0:=fun t j ht q=>by
  unfold en Qn;rw [Bg (x:=bvT p n R j R.length) (by rw [List.getElem?_map,ht];rfl)]
 have hl:(Qn p n R).length=(Xd n R).length:=List.length_map ..;refine ⟨fun j hj hf=>?_,fun t ht=>?_⟩
 ·have hm:j∈Xd n R:=List.mem_filter.2 ⟨List.mem_range.2 hj,by rw [hf];rfl⟩;obtain ⟨t,ht,e⟩:=List.getElem_of_mem hm;have h1:(Xd n R)[t]? =some j:=by rw [gEg ht,e]
  refine ⟨t,by omega,?_⟩;simp only [he t j h1];exact hb j hj hf
 ·obtain ⟨j,hj⟩:=Ju (show t<(Xd n R).length by omega);have hm:=List.mem_filter.1 (List.mem_of_getElem? hj);have hjn:=List.mem_range.1 hm.1;have hf:pvs R.length (lv R) j=false:=by simpa using hm.2
  refine ⟨j,hjn,hf,?_⟩;simp only [he t j hj];exact hb j hjn hf
theorem Ao1 {f:Nat->Int} (hp:isF p=true) (hm:MatW p n m):Db p n (Qn p n (gj p n m)) f↔N2 p n m f:=by
 have hb:=Ca hp;obtain ⟨⟨pv,h1⟩,h2⟩:=R7 hb.1 (Abe hp) hm;have h3:=Wd h1 (Rj hb.1 hm) (Nat.le_refl n);refine (Am6 h3 (Asb hb.1 h3)).trans ⟨Alh fun i hi=>(h2 _).2 (Co hi),Alh fun i hi=>(h2 _).1 (Co hi)⟩
theorem Yv {x:Int} (hp:2<=p/\p<=97) (hx:0<=x/\x<p):E3 p x=some ((p - x) % p):=by
 unfold E3;rw [Af oM,Bc oM oM,Int.tmod_eq_emod_of_nonneg oM]
theorem Aay (hp:isF p=true) (hm:MatW p n m) (hn:n<=1000) (hl:m.length<=100000):I0 p (n:Int) m=some (Ml p n m):=by
 have hb:=Ca hp;obtain ⟨⟨pv,h1⟩,_⟩:=R7 hb.1 (Abe hp) hm;have hRm:=Rj (n:=n) hb.1 hm;have h:=Wd h1 hRm (Nat.le_refl n)
 have hRl:(gj p n m).length<=n:=by
  have:=Aa2 (k:=n) (u:=id) (fun i j h _=>h) h.mono;refine Nat.le_of_not_lt fun hlt=>?_
  have hge:∀ i,i<(gj p n m).length->i<=lv (gj p n m) i:=by
   intro i
   induction i with
   | zero=>intro _;omega
   | succ i ih=>intro hi;have:=ih oM;have:=h.mono i (i+1) oM hi;omega
  have:=hge n hlt;have:=h.lt n hlt;omega
 unfold I0 Ml;rw [Pv hp hm (Nat.le_refl n) oM hl,obs,Af oM,Int.toNat_natCast];generalize gj p n m=R at *
 have l1:Ap (fun s_:Nat×List Int=>Hz (n:Int) s_.1 s_.2) 4611686018427387904 (0,List.replicate n 0)=some (ldT n R 0):=by
  refine Vi (y:=ldT n R 0) (by simp [ldT]) (by simp;omega) (fun j hj z hz=>?_) ?_
  ·simp at hj
   try dsimp only
   unfold Hz;rw [Int.toNat_natCast,Ax oM,cond_true,hz,obs,Af oM];simp [ldT]
  ·try dsimp only
   unfold Hz;rw [Int.toNat_natCast,Au (by simp),cond_false]
 have hrow:∀ i,i<R.length->R[i]? =some (R.getD i [])/\VecW p n (R.getD i []):=fun i hi=>⟨by rw [gEg hi,Bg (gEg hi)],hRm _ (Hi hi)⟩
 have l2:Ap (fun s_:Nat×List Int=>Ii R s_.1 s_.2) 4611686018427387904 (0,ldT n R 0)=some (ldT n R R.length):=by
  refine A3 R.length (fun i=>(i,ldT n R i)) oM _ rfl (fun i hi=>?_) ?_
  ·obtain ⟨g1,g2⟩:=hrow i hi;have hlt:=h.lt i hi;obtain ⟨x,hx⟩:=Ju (m:=ldT n R i) (i:=lv R i) (by rw [Aer];exact hlt)
   try dsimp only
   unfold Ii;rw [Ax oM,cond_true,g1,obs,Aa7 _ (by rw [g2.1];exact hn),obs,Bq oM,Int.toNat_natCast,show (ldT n R i)[E7 (R.getD i [])]? =some x from hx,obs,Af oM];rfl
  ·try dsimp only
   unfold Ii;rw [Au oM,cond_false]
 have l4:∀ j,j<n->Ap (fun s_:Nat×List Int=>Ik R j p s_.1 s_.2) 4611686018427387904 (0,(List.replicate n 0).set j 1)=some (bvT p n R j R.length):=fun j hj=>by
  refine A3 R.length (fun i=>(i,bvT p n R j i)) oM _ rfl (fun i hi=>?_) ?_
  ·obtain ⟨g1,g2⟩:=hrow i hi;have hlt:=h.lt i hi;obtain ⟨q1,q2,q3⟩:=Cp g2 hj;obtain ⟨x,hx⟩:=Ju (m:=bvT p n R j i) (i:=lv R i) (by rw [Vm];exact hlt)
   try dsimp only
   unfold Ik;rw [Ax oM,cond_true,g1,obs,Aa7 _ (by rw [g2.1];exact hn),obs,q3,obs,Yv hb ⟨q1,q2⟩,obs,Bq oM,Int.toNat_natCast,show (bvT p n R j i)[E7 (R.getD i [])]? =some x from hx,obs,Af oM];rfl
  ·try dsimp only
   unfold Ik;rw [Au oM,cond_false]
 have l3:Ap (fun s_:Nat×List (List Int)=>H4 (n:Int) (ldT n R R.length) R p s_.1 s_.2) 4611686018427387904 (0,[])=some (Qn p n R):=by
  refine A3 n (fun k=>(k,((List.range k).filter fun j=> !pvs R.length (lv R) j).map fun j=>bvT p n R j R.length)) oM _ rfl (fun k hk=>?_) ?_
  ·obtain ⟨v,v1,v2⟩:=Ann h.lt hk R.length (Nat.le_refl _)
   have hle:(((List.range k).filter fun j=> !pvs R.length (lv R) j).map fun j=>bvT p n R j R.length).length<=k:=by
    rw [List.length_map];exact Nat.le_trans (List.length_filter_le ..) (by simp)
   try dsimp only
   unfold H4;rw [Ax oM,cond_true,v1,obs,v2,List.range_succ,List.filter_append];cases hc:pvs R.length (lv R) k
   ·rw [cond_false,Af oM,Int.toNat_natCast,List.getElem?_replicate,if_pos hk,obs,l4 k hk,obs,Af oM,obs,Af oM];simp [hc]
   ·rw [cond_true,obs,Af oM];simp [hc]
  ·try dsimp only
   unfold H4;rw [Au oM,cond_false];rfl
 rw [l1,obs,l2,obs,l3,obs,Pv hp (Rb hb.1) (Nat.le_refl n) oM (Nat.le_trans Af5 oM),obs]
def trV (m:List (List Int)) (n:Nat):List (List Int):=(List.range n).map fun j=>m.map fun x=>x.getD j 0
def unV (n k:Nat):List Int:=(List.replicate n 0).set k 1
def idV (n:Nat):List (List Int):=(List.range n).map (unV n)
theorem Akf {k:Nat} (hk:k<n) (hn:n<=1000):J0 (n:Int) (k:Int)=some (unV n k):=by
 unfold J0;rw [Ql oM,obs,Bq oM,Int.toNat_natCast,Int.toNat_natCast,List.getElem?_replicate,if_pos hk,obs];rfl
theorem Ab1 (hn:n<=1000):Ff (n:Int)=some (idV n):=by
 unfold Ff
 have key:Ap (fun s_:Nat×List (List Int)=>D9 (n:Int) s_.1 s_.2) 4611686018427387904 (0,[])=some (idV n):=by
  refine A3 n (fun k=>(k,(List.range k).map (unV n))) oM _ rfl (fun k hk=>?_) ?_
  ·try dsimp only
   unfold D9;rw [Ax oM,cond_true,Akf hk hn,obs,Af (by simp;omega),Af oM,List.range_succ,List.map_append];rfl
  ·try dsimp only
   unfold D9;rw [Au oM,cond_false];rfl
 rw [key,obs]
theorem X8 {k:Nat} (hp:2<=p):VecW p n (unV n k):=⟨by simp [unV],fun a ha=>by
 rcases List.mem_or_eq_of_mem_set ha with ha|rfl
 ·obtain rfl:=(List.mem_replicate.1 ha).2;omega
 ·omega⟩
theorem Ah4 {k j:Nat} (hk:k<n):(unV n k).getD j 0=if j=k then 1 else 0:=by
 unfold unV;rw [R9 (by simpa using hk)];by_cases e:k=j
 ·rw [if_pos e,if_pos e.symm]
 ·rw [if_neg e,if_neg (Ne.symm e),gDg,List.getElem?_replicate];split <;> rfl
def wiV (m:List (List Int)) (n:Nat):List (List Int):=(List.range n).map fun j=>(m.map fun x=>x.getD j 0)++unV n j
theorem Al2 (hp:isF p=true) (hm:MatW p n m) (hn:n<=1000) (hl:m.length<=1000):I4 p (trV m n) (m.length:Int)=some (Ml p n m):=by
 have hb:=Ca hp;have hwl:(wiV m n).length=n:=by simp [wiV]
 have hcol:∀ j,VecW p m.length (m.map fun x=>x.getD j 0):=fun j=>⟨by simp,fun a ha=>by
  obtain ⟨x,hx,rfl⟩:=List.mem_map.1 ha;by_cases hj:j<n
  ·obtain ⟨q1,q2,_⟩:=Cp (hm x hx) hj;exact ⟨q1,q2⟩
  ·have:=(hm x hx).1;rw [gDg,List.getElem?_eq_none oM];simp;omega⟩
 have hW:MatW p (m.length+n) (wiV m n):=fun x hx=>by
  obtain ⟨j,_,rfl⟩:=List.mem_map.1 hx;refine ⟨by rw [List.length_append,(hcol j).1,(X8 (k:=j) (n:=n) hb.1).1],fun a ha=>?_⟩;rcases List.mem_append.1 ha with ha|ha
  ·exact (hcol j).2 a ha
  ·exact (X8 hb.1).2 a ha
 have e1:rdW m.length (wiV m n)=trV m n:=by
  unfold rdW wiV trV;rw [List.map_map];exact List.map_congr_left fun j _=>List.take_left' (by simp)
 have e2:alW m.length (wiV m n)=idV n:=by
  unfold alW wiV idV;rw [List.map_map];exact List.map_congr_left fun j _=>List.drop_left' (by simp)
 obtain ⟨g1,g2,g3⟩:=Lb hb.1 hW m.length;have hred:=W6 hp hW (Nat.le_refl m.length) (show m.length<=m.length+n by omega) oM oM;rw [e1,e2] at hred
 have hmat:MatW p n (((gjT p (wiV m n) m.length).2.drop (gjT p (wiV m n) m.length).1).map (·.drop m.length)):=fun x hx=>by
  obtain ⟨y,hy,rfl⟩:=List.mem_map.1 hx;have:=(g1 y (List.mem_of_mem_drop hy)).dr (u:=m.length)
  rwa [Nat.add_sub_cancel_left] at this
 have hdr:(alW m.length (gjT p (wiV m n) m.length).2).drop (gjT p (wiV m n) m.length).1=((gjT p (wiV m n) m.length).2.drop (gjT p (wiV m n) m.length).1).map (·.drop m.length):=by
  unfold alW;rw [List.map_drop]
 have htm:MatW p m.length (trV m n):=fun x hx=>by
  obtain ⟨j,_,rfl⟩:=List.mem_map.1 hx;exact hcol j
 have htl:(trV m n).length=n:=by simp [trV]
 have hil:(idV n).length=n:=by simp [idV]
 have key:gj p n (((gjT p (wiV m n) m.length).2.drop (gjT p (wiV m n) m.length).1).map (·.drop m.length))=Ml p n m:=by
  refine Arl hb.1 (Abe hp) hmat (Rb hb.1) fun f=>?_
  refine (Ame (A:=m) hb.1 (Abe hp) hW hwl rfl (fun t ht i hi=>?_) fun t ht j hj=>?_).trans (Ao1 hp hm).symm
  ·unfold en;have h1:(wiV m n)[t]? =some ((m.map fun x=>x.getD t 0)++unV n t):=by simp [wiV,ht]
   rw [Bg h1,gDg,List.getElem?_append_left (by simpa using hi),List.getElem?_map,gEg hi,Bg (m:=m) (gEg hi)];rfl
  ·unfold en;have h1:(wiV m n)[t]? =some ((m.map fun x=>x.getD t 0)++unV n t):=by simp [wiV,ht]
   rw [Bg h1,gDg,List.getElem?_append_right (by simp),List.length_map,Nat.add_sub_cancel_left,← gDg,Ah4 ht]
 unfold I4;rw [Ahq htm oM oM,obs,htl,Ab1 hn,obs,hred,obs];have a1:(rdW m.length (gjT p (wiV m n) m.length).2).length=n:=by simp only [rdW,List.length_map];omega
 have a2:(alW m.length (gjT p (wiV m n) m.length).2).length=(idV n).length:=by simp only [alW,List.length_map];omega
 dsimp only;rw [Af a1,Af a2,Af oM,hdr,We hp hmat oM (by simp;omega),obs,key]
theorem Avt (hm:MatW p n m):trV (trV m n) m.length=m:=by
 refine List.ext_getElem (by simp [trV]) fun i h1 h2=>?_
 have hx:=hm _ (List.getElem_mem h2);simp only [trV,List.getElem_map,List.getElem_range,List.map_map];refine List.ext_getElem (by simp [hx.1]) fun j h3 h4=>?_
 simp only [List.length_map,List.length_range] at h3;simp only [List.getElem_map,List.getElem_range,Function.comp_apply,gDg,List.getElem?_map,gEg h2,gEg h4,Option.map_some,Option.getD_some]
theorem Aux (hm:MatW p n m):MatW p m.length (trV m n):=fun x hx=>by
 obtain ⟨j,hj,rfl⟩:=List.mem_map.1 hx;refine ⟨by simp,fun a ha=>?_⟩;obtain ⟨y,hy,rfl⟩:=List.mem_map.1 ha;have:=Cp (hm y hy) (List.mem_range.1 hj);exact ⟨this.1,this.2.1⟩
theorem Ao3:(trV m n).length=n:=by simp [trV]
theorem Aob (hp:isF p=true) (hm:MatW p n m) (hn:n<=1000) (hl:m.length<=1000):I4 p m (n:Int)=some (Ml p m.length (trV m n)):=by
 have:=Al2 (m:=trV m n) (n:=m.length) hp (Aux hm) hl (by rw [Ao3];exact hn)
 rwa [Avt hm,Ao3] at this
end
end
end Go.Proofs.YtopjojkjaklalaaGreatDoor
