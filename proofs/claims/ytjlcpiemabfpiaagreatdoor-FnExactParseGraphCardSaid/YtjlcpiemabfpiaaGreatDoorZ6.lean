/- Lemmas on the program and on partial functions that stand in place of its code (part 6); no condition beyond those that each one states. -/
import Derived.Test.YtjlcpiemabfpiaaGreatDoorZ5
import Derived.Deep.RegionHeld3
namespace Go.Proofs.YtjlcpiemabfpiaaGreatDoor
section
open Go.RowKit Go.Deep
def B7 (a0:ByteArray):Option (Int×Int×List Int×List Int×Bool) :=
 Option.bind (Bx a0 (⟨#[40]⟩:ByteArray)) fun y3 =>
 Option.bind (Bd y3.2.1 (⟨#[41]⟩:ByteArray)) fun y5 =>
 Option.bind (Bx y5.1 (⟨#[62]⟩:ByteArray)) fun y7 =>
 Option.bind (Bx y3.1 (⟨#[58]⟩:ByteArray)) fun y9 =>
 Option.bind (Cb y9.1) fun y11 =>
 Option.bind (cond y9.2.2 (Option.bind (C7 y9.2.1) fun y16=>some (y16.2,y16.1)) (some (true,0))) fun z =>
 Option.bind (Ch y7.1) fun y18 =>
 Option.bind (Ch y7.2.1) fun y20 =>
 some (y11,z.2,y18.1,y20.1,y3.2.2&&(y5.2&&(y7.2.2&&(z.1&&(y18.2&&y20.2)))))
theorem J0 (s sep:ByteArray) {a b:ByteArray} {c:Bool} (h:Dc s sep=(a,b,c)) (hs:s.size<=1073741824) (w:World) (tab:Tab w):Calls Tryz.prog 50 #[.string s,.string sep] w fun e w'=>e=.returned (.tuple #[.string a,.string b,.bool c])/\Below w.heap.size w w':=by
 refine (Oo (r:=(a,b,c)) (by unfold Bx;rw [Aj hs,h]) w (fun _=>True) [.string s,.string sep] (fun _ hb=>tab.below hb) ⟨_,_,rfl,rfl,⟨_,_,rfl,rfl,rfl⟩⟩).mono ?_;rintro e w' ⟨u,rfl,hb,us,ls,ho,_,rfl⟩;obtain ⟨v1,_,rfl,q1,_,v2,_,rfl,q2,_,v3,_,rfl,q3,_,rfl,rfl⟩:=ho;obtain rfl:v1=.string a:=q1;obtain rfl:v2=.string b:=q2;obtain rfl:v3=.bool c:=q3;exact ⟨rfl,hb⟩
theorem X4 (s sep:ByteArray) {a:ByteArray} {c:Bool} (h:Kx s sep=(a,c)) (hs:s.size<=1073741824) (w:World) (tab:Tab w):Calls Tryz.prog 51 #[.string s,.string sep] w fun e w'=>e=.returned (.tuple #[.string a,.bool c])/\Below w.heap.size w w':=by
 refine (I8 (r:=(a,c)) (by unfold Bd;rw [Aj hs,h]) w (fun _=>True) [.string s,.string sep] (fun _ hb=>tab.below hb) ⟨_,_,rfl,rfl,⟨_,_,rfl,rfl,rfl⟩⟩).mono ?_;rintro e w' ⟨u,rfl,hb,us,ls,ho,_,rfl⟩;obtain ⟨v1,_,rfl,q1,_,v3,_,rfl,q3,_,rfl,rfl⟩:=ho;obtain rfl:v1=.string a:=q1;obtain rfl:v3=.bool c:=q3;exact ⟨rfl,hb⟩
theorem P1 (s:ByteArray) {k:Int} (h:Cb s=some k) (w:World) (tab:Tab w):Calls Tryz.prog 52 #[.string s] w fun e w'=>e=.returned (.int .i64 k)/\Below w.heap.size w w' :=
 Pi (vs:=[.string s]) (Qr h) (fun _ hb=>tab.below hb) ⟨_,_,rfl,rfl,rfl⟩
theorem Aa5 (x:ByteArray) {v:Int} {k:Bool} (h:Fp x=(v,k)) (w:World) (hx:x.size<=1073741824) (tab:Tab w):Calls Tryz.prog 33 #[.string x] w fun e w'=>e=.returned (.tuple #[.int .i64 v,.bool k])/\Below w.heap.size w w':=by
 have:=K3 x w hx tab
 rwa [h] at this
theorem R5 (x:ByteArray) {xs:List Int} {k:Bool} (h:nlV x=(xs,k)) (w:World) (hx:x.size<=1073741823) (tab:Tab w):Calls Tryz.prog 34 #[.string x] w fun e w'=>∃ A c l,e=.returned (.tuple #[.slice A xs.length c,.bool k])/\Sl (Bu w.heap.size) w' .int A c xs l/\Fresh w' w.heap.size l/\Below w.heap.size w w':=by
 have:=Q4 x w hx tab
 rwa [h] at this
set_option maxRecDepth 100000 in
set_option maxHeartbeats 4000000 in
theorem Va (x a b r i o nm vl:ByteArray) (b1 b2 b3 k4 k5 k6:Bool) (k v:Int) (xs ys:List Int) (h1:Dc x (⟨#[40]⟩:ByteArray)=(a,b,b1)) (h2:Kx b (⟨#[41]⟩:ByteArray)=(r,b2)) (h3:Dc r (⟨#[62]⟩:ByteArray)=(i,o,b3)) (h4:Dc a (⟨#[58]⟩:ByteArray)=(nm,vl,true)) (h5:Cb nm=some k) (hv:Fp vl=(v,k4)) (hi:nlV i=(xs,k5)) (ho:nlV o=(ys,k6))
  (z1:x.size<=1073741823) (z2:a.size<=1073741823) (z3:b.size<=1073741823) (z4:r.size<=1073741823) (z5:vl.size<=1073741823) (z6:i.size<=1073741823) (z7:o.size<=1073741823) (w:World) (tab:Tab w) :
  Calls Tryz.prog 35 #[.string x] w fun e w'=>∃ B2 d2 m2 B3 d3 m3,e=.returned (.tuple #[.agg #[.int .i64 k,.int .i64 v,.slice B2 xs.length d2,.slice B3 ys.length d3],.bool (b1&&(b2&&(b3&&(k4&&(k5&&k6)))))])/\Sl (Bu w.heap.size) w' .int B2 d2 xs m2/\Sl (Bu w.heap.size) w' .int B3 d3 ys m3/\Fresh w' w.heap.size (m2++m3)/\Below w.heap.size w w':=by
 go_enter Tryz.func35,Tryz.ntmps35
 go_wp2_with fail
 (refine (J0 x ⟨#[40]⟩ h1 oM _ (tab.below (by repeat (first|with_reducible exact Below.refl _ _|((with_reducible refine Below.setCell ?_ ?_ _);rotate_left;focus (first|(simp;done)|omega|(simp;omega)))|((with_reducible refine Below.alloc ?_ ?_ _);rotate_left;focus (first|(simp;done)|omega|(simp;omega)))|(with_reducible refine Below.drew ?_)|(with_reducible refine below_draws_ ?_ _))))).mono ?_;rintro e w1 ⟨rfl,hb_w1⟩;obtain ⟨hc_w1,hf_w1⟩:=A6 hb_w1;have hz_w1:=hb_w1.size;(try simp at hz_w1);have hl_w1_0:w.heap.size<w1.heap.size:=oM);go_wp2_with fail
 (refine (X4 b ⟨#[41]⟩ h2 oM _ (tab.below (by repeat (first|with_reducible exact Below.refl _ _|((with_reducible refine Below.setCell ?_ ?_ _);rotate_left;focus (first|(simp;done)|omega|(simp;omega)))|((with_reducible refine Below.alloc ?_ ?_ _);rotate_left;focus (first|(simp;done)|omega|(simp;omega)))|(with_reducible refine Below.drew ?_)|(with_reducible refine below_draws_ ?_ _)|((with_reducible refine Below.trans ?_ (Below.mono hb_w1 ?_));rotate_left;focus (first|(simp;done)|omega|(simp;omega))))))).mono ?_;rintro e w2 ⟨rfl,hb_w2⟩;obtain ⟨hc_w2,hf_w2⟩:=A6 hb_w2;have hz_w2:=hb_w2.size;(try simp at hz_w2);have hl_w2_0:w.heap.size<w2.heap.size:=oM);go_wp2_with fail
 (refine (J0 r ⟨#[62]⟩ h3 oM _ (tab.below (by repeat (first|with_reducible exact Below.refl _ _|((with_reducible refine Below.setCell ?_ ?_ _);rotate_left;focus (first|(simp;done)|omega|(simp;omega)))|((with_reducible refine Below.alloc ?_ ?_ _);rotate_left;focus (first|(simp;done)|omega|(simp;omega)))|(with_reducible refine Below.drew ?_)|(with_reducible refine below_draws_ ?_ _)|((with_reducible refine Below.trans ?_ (Below.mono hb_w1 ?_));rotate_left;focus (first|(simp;done)|omega|(simp;omega)))|((with_reducible refine Below.trans ?_ (Below.mono hb_w2 ?_));rotate_left;focus (first|(simp;done)|omega|(simp;omega))))))).mono ?_;rintro e w3 ⟨rfl,hb_w3⟩;obtain ⟨hc_w3,hf_w3⟩:=A6 hb_w3;have hz_w3:=hb_w3.size;(try simp at hz_w3);have hl_w3_0:w.heap.size<w3.heap.size:=oM);go_wp2_with fail
 (refine (J0 a ⟨#[58]⟩ h4 oM _ (tab.below (by repeat (first|with_reducible exact Below.refl _ _|((with_reducible refine Below.setCell ?_ ?_ _);rotate_left;focus (first|(simp;done)|omega|(simp;omega)))|((with_reducible refine Below.alloc ?_ ?_ _);rotate_left;focus (first|(simp;done)|omega|(simp;omega)))|(with_reducible refine Below.drew ?_)|(with_reducible refine below_draws_ ?_ _)|((with_reducible refine Below.trans ?_ (Below.mono hb_w1 ?_));rotate_left;focus (first|(simp;done)|omega|(simp;omega)))|((with_reducible refine Below.trans ?_ (Below.mono hb_w2 ?_));rotate_left;focus (first|(simp;done)|omega|(simp;omega)))|((with_reducible refine Below.trans ?_ (Below.mono hb_w3 ?_));rotate_left;focus (first|(simp;done)|omega|(simp;omega))))))).mono ?_;rintro e w4 ⟨rfl,hb_w4⟩;obtain ⟨hc_w4,hf_w4⟩:=A6 hb_w4;have hz_w4:=hb_w4.size;(try simp at hz_w4);have hl_w4_0:w.heap.size<w4.heap.size:=oM);go_wp2_with fail
 (refine (P1 nm h5 _ (tab.below (by repeat (first|with_reducible exact Below.refl _ _|((with_reducible refine Below.setCell ?_ ?_ _);rotate_left;focus (first|(simp;done)|omega|(simp;omega)))|((with_reducible refine Below.alloc ?_ ?_ _);rotate_left;focus (first|(simp;done)|omega|(simp;omega)))|(with_reducible refine Below.drew ?_)|(with_reducible refine below_draws_ ?_ _)|((with_reducible refine Below.trans ?_ (Below.mono hb_w1 ?_));rotate_left;focus (first|(simp;done)|omega|(simp;omega)))|((with_reducible refine Below.trans ?_ (Below.mono hb_w2 ?_));rotate_left;focus (first|(simp;done)|omega|(simp;omega)))|((with_reducible refine Below.trans ?_ (Below.mono hb_w3 ?_));rotate_left;focus (first|(simp;done)|omega|(simp;omega)))|((with_reducible refine Below.trans ?_ (Below.mono hb_w4 ?_));rotate_left;focus (first|(simp;done)|omega|(simp;omega))))))).mono ?_;rintro e w5 ⟨rfl,hb_w5⟩;obtain ⟨hc_w5,hf_w5⟩:=A6 hb_w5;have hz_w5:=hb_w5.size;(try simp at hz_w5);have hl_w5_0:w.heap.size<w5.heap.size:=oM);go_wp2_with fail
 (refine (Aa5 vl hv _ oM (tab.below (by repeat (first|with_reducible exact Below.refl _ _|((with_reducible refine Below.setCell ?_ ?_ _);rotate_left;focus (first|(simp;done)|omega|(simp;omega)))|((with_reducible refine Below.alloc ?_ ?_ _);rotate_left;focus (first|(simp;done)|omega|(simp;omega)))|(with_reducible refine Below.drew ?_)|(with_reducible refine below_draws_ ?_ _)|((with_reducible refine Below.trans ?_ (Below.mono hb_w1 ?_));rotate_left;focus (first|(simp;done)|omega|(simp;omega)))|((with_reducible refine Below.trans ?_ (Below.mono hb_w2 ?_));rotate_left;focus (first|(simp;done)|omega|(simp;omega)))|((with_reducible refine Below.trans ?_ (Below.mono hb_w3 ?_));rotate_left;focus (first|(simp;done)|omega|(simp;omega)))|((with_reducible refine Below.trans ?_ (Below.mono hb_w4 ?_));rotate_left;focus (first|(simp;done)|omega|(simp;omega)))|((with_reducible refine Below.trans ?_ (Below.mono hb_w5 ?_));rotate_left;focus (first|(simp;done)|omega|(simp;omega))))))).mono ?_;rintro e w6 ⟨rfl,hb_w6⟩;obtain ⟨hc_w6,hf_w6⟩:=A6 hb_w6;have hz_w6:=hb_w6.size;(try simp at hz_w6);have hl_w6_0:w.heap.size<w6.heap.size:=oM;have hl_w6_1:w5.heap.size<w6.heap.size:=oM);go_wp2_with fail
 (refine (R5 i hi _ oM (tab.below (by repeat (first|with_reducible exact Below.refl _ _|((with_reducible refine Below.setCell ?_ ?_ _);rotate_left;focus (first|(simp;done)|omega|(simp;omega)))|((with_reducible refine Below.alloc ?_ ?_ _);rotate_left;focus (first|(simp;done)|omega|(simp;omega)))|(with_reducible refine Below.drew ?_)|(with_reducible refine below_draws_ ?_ _)|((with_reducible refine Below.trans ?_ (Below.mono hb_w1 ?_));rotate_left;focus (first|(simp;done)|omega|(simp;omega)))|((with_reducible refine Below.trans ?_ (Below.mono hb_w2 ?_));rotate_left;focus (first|(simp;done)|omega|(simp;omega)))|((with_reducible refine Below.trans ?_ (Below.mono hb_w3 ?_));rotate_left;focus (first|(simp;done)|omega|(simp;omega)))|((with_reducible refine Below.trans ?_ (Below.mono hb_w4 ?_));rotate_left;focus (first|(simp;done)|omega|(simp;omega)))|((with_reducible refine Below.trans ?_ (Below.mono hb_w5 ?_));rotate_left;focus (first|(simp;done)|omega|(simp;omega)))|((with_reducible refine Below.trans ?_ (Below.mono hb_w6 ?_));rotate_left;focus (first|(simp;done)|omega|(simp;omega))))))).mono ?_;rintro e w7 ⟨A7,c7,l7,rfl,t7,f7,hb_w7⟩;obtain ⟨hc_w7,hf_w7⟩:=A6 hb_w7;have hz_w7:=hb_w7.size;(try simp at hz_w7);have hl_w7_0:w.heap.size<w7.heap.size:=oM;have hl_w7_1:w5.heap.size<w7.heap.size:=oM);go_wp2_with fail
 (refine (R5 o ho _ oM (tab.below (by repeat (first|with_reducible exact Below.refl _ _|((with_reducible refine Below.setCell ?_ ?_ _);rotate_left;focus (first|(simp;done)|omega|(simp;omega)))|((with_reducible refine Below.alloc ?_ ?_ _);rotate_left;focus (first|(simp;done)|omega|(simp;omega)))|(with_reducible refine Below.drew ?_)|(with_reducible refine below_draws_ ?_ _)|((with_reducible refine Below.trans ?_ (Below.mono hb_w1 ?_));rotate_left;focus (first|(simp;done)|omega|(simp;omega)))|((with_reducible refine Below.trans ?_ (Below.mono hb_w2 ?_));rotate_left;focus (first|(simp;done)|omega|(simp;omega)))|((with_reducible refine Below.trans ?_ (Below.mono hb_w3 ?_));rotate_left;focus (first|(simp;done)|omega|(simp;omega)))|((with_reducible refine Below.trans ?_ (Below.mono hb_w4 ?_));rotate_left;focus (first|(simp;done)|omega|(simp;omega)))|((with_reducible refine Below.trans ?_ (Below.mono hb_w5 ?_));rotate_left;focus (first|(simp;done)|omega|(simp;omega)))|((with_reducible refine Below.trans ?_ (Below.mono hb_w6 ?_));rotate_left;focus (first|(simp;done)|omega|(simp;omega)))|((with_reducible refine Below.trans ?_ (Below.mono hb_w7 ?_));rotate_left;focus (first|(simp;done)|omega|(simp;omega))))))).mono ?_;rintro e w8 ⟨A8,c8,l8,rfl,t8,f8,hb_w8⟩;obtain ⟨hc_w8,hf_w8⟩:=A6 hb_w8;have hz_w8:=hb_w8.size;(try simp at hz_w8);have hl_w8_0:w.heap.size<w8.heap.size:=oM;have hl_w8_1:w5.heap.size<w8.heap.size:=oM);go_wp2_with fail
 all_goals have hX7:w5.heap.size<(w6.setCell ⟨w5.heap.size,1,none⟩ (.int .i64 v)).heap.size:=(by simp [World.setCell];omega)
 all_goals have hX8:w5.heap.size<(w7.setCell ⟨w5.heap.size,2,none⟩ (.slice A7 xs.length c7)).heap.size:=(by simp [World.setCell];omega)
 all_goals have q7:(w6.setCell ⟨w5.heap.size,1,none⟩ (.int .i64 v)).heap.size<=w7.heap.size:=hb_w7.size
 all_goals have u7:Sl (fun b=>w5.heap.size<b) w8 .int A7 c7 xs l7:=Ad (Ah (Al (fun b _ (h:_<=b)=>by show _<b;omega) t7) (fun b h=>by have h1:w5.heap.size<b:=h;omega) _ _) hb_w8
 all_goals have u8:Sl (fun b=>w5.heap.size<b) w8 .int A8 c8 ys l8:=Al (fun b _ (h:_<=b)=>by show _<b;omega) t8
 all_goals have hF:Fresh w8 w.heap.size (l7++l8):=Fresh.append (Aw (f7.le (by first|(simp;done)|omega|(simp;omega))) _ _) hb_w8 f8 (by first|(simp;done)|omega|(simp;omega))
 all_goals have hnf:w.heap.size≠w5.heap.size:=by omega
 all_goals have g8:∀ i u,w5.cell? ⟨w.heap.size,i,none⟩=some u->(w8.setCell ⟨w5.heap.size,3,none⟩ (.slice A8 ys.length c8)).cell? ⟨w.heap.size,i,none⟩=some u:=fun i u h=>Fg (Ac hb_w8 (Fg (Ac hb_w7 (Fg (Ac hb_w6 (Bh _ h)) hnf)) hnf)) hnf
 all_goals have e0:=g8 0 (.int .i64 0) ((hc_w5 _ _ (by first|(simp;done)|omega|(simp;omega))).trans ((hc_w4 _ _ (by first|(simp;done)|omega|(simp;omega))).trans ((hc_w3 _ _ (by first|(simp;done)|omega|(simp;omega))).trans ((hc_w2 _ _ (by first|(simp;done)|omega|(simp;omega))).trans ((hc_w1 _ _ (by first|(simp;done)|omega|(simp;omega))).trans (by simp))))))
 all_goals have e1:=g8 1 (.int .i64 0) ((hc_w5 _ _ (by first|(simp;done)|omega|(simp;omega))).trans ((hc_w4 _ _ (by first|(simp;done)|omega|(simp;omega))).trans ((hc_w3 _ _ (by first|(simp;done)|omega|(simp;omega))).trans ((hc_w2 _ _ (by first|(simp;done)|omega|(simp;omega))).trans ((hc_w1 _ _ (by first|(simp;done)|omega|(simp;omega))).trans (by simp))))))
 all_goals have e2:=g8 2 (.slice none 0 0) ((hc_w5 _ _ (by first|(simp;done)|omega|(simp;omega))).trans ((hc_w4 _ _ (by first|(simp;done)|omega|(simp;omega))).trans ((hc_w3 _ _ (by first|(simp;done)|omega|(simp;omega))).trans ((hc_w2 _ _ (by first|(simp;done)|omega|(simp;omega))).trans ((hc_w1 _ _ (by first|(simp;done)|omega|(simp;omega))).trans (by simp))))))
 all_goals have e3:=g8 3 (.slice none 0 0) ((hc_w5 _ _ (by first|(simp;done)|omega|(simp;omega))).trans ((hc_w4 _ _ (by first|(simp;done)|omega|(simp;omega))).trans ((hc_w3 _ _ (by first|(simp;done)|omega|(simp;omega))).trans ((hc_w2 _ _ (by first|(simp;done)|omega|(simp;omega))).trans ((hc_w1 _ _ (by first|(simp;done)|omega|(simp;omega))).trans (by simp))))))
 all_goals have b9:Below w.heap.size w (w8.setCell ⟨w5.heap.size,3,none⟩ (.slice A8 ys.length c8)):=(by repeat (first|with_reducible exact Below.refl _ _|((with_reducible refine Below.setCell ?_ ?_ _);rotate_left;focus (first|(simp;done)|omega|(simp;omega)))|((with_reducible refine Below.alloc ?_ ?_ _);rotate_left;focus (first|(simp;done)|omega|(simp;omega)))|(with_reducible refine Below.drew ?_)|(with_reducible refine below_draws_ ?_ _)|((with_reducible refine Below.trans ?_ (Below.mono hb_w1 ?_));rotate_left;focus (first|(simp;done)|omega|(simp;omega)))|((with_reducible refine Below.trans ?_ (Below.mono hb_w2 ?_));rotate_left;focus (first|(simp;done)|omega|(simp;omega)))|((with_reducible refine Below.trans ?_ (Below.mono hb_w3 ?_));rotate_left;focus (first|(simp;done)|omega|(simp;omega)))|((with_reducible refine Below.trans ?_ (Below.mono hb_w4 ?_));rotate_left;focus (first|(simp;done)|omega|(simp;omega)))|((with_reducible refine Below.trans ?_ (Below.mono hb_w5 ?_));rotate_left;focus (first|(simp;done)|omega|(simp;omega)))|((with_reducible refine Below.trans ?_ (Below.mono hb_w6 ?_));rotate_left;focus (first|(simp;done)|omega|(simp;omega)))|((with_reducible refine Below.trans ?_ (Below.mono hb_w7 ?_));rotate_left;focus (first|(simp;done)|omega|(simp;omega)))|((with_reducible refine Below.trans ?_ (Below.mono hb_w8 ?_));rotate_left;focus (first|(simp;done)|omega|(simp;omega)))))
 all_goals have v7:Sl (fun b=>w5.heap.size<b) (w8.setCell ⟨w5.heap.size,3,none⟩ (.slice A8 ys.length c8)) .int A7 c7 xs l7:=Ah u7 (fun b h=>by have h1:w5.heap.size<b:=h;omega) _ _
 all_goals have v8:Sl (fun b=>w5.heap.size<b) (w8.setCell ⟨w5.heap.size,3,none⟩ (.slice A8 ys.length c8)) .int A8 c8 ys l8:=Ah u8 (fun b h=>by have h1:w5.heap.size<b:=h;omega) _ _
 all_goals have vF:=Aw hF ⟨w5.heap.size,3,none⟩ (.slice A8 ys.length c8)
 all_goals have hlt9:w.heap.size<w5.heap.size:=by omega
 all_goals clear u7 u8 hF t7 t8 f7 f8 g8 hX7 hX8 q7 hb_w1 hb_w2 hb_w3 hb_w4 hb_w5 hb_w6 hb_w7 hb_w8 hc_w1 hc_w2 hc_w3 hc_w4 hc_w5 hc_w6 hc_w7 hc_w8 hf_w1 hf_w2 hf_w3 hf_w4 hf_w5 hf_w6 hf_w7 hf_w8
 all_goals generalize (w8.setCell ⟨w5.heap.size,3,none⟩ (.slice A8 ys.length c8))=w9 at *
 all_goals refine bodyPost_ret (v:=.tuple #[.agg #[.int .i64 k,.int .i64 v,.slice A7 xs.length c7,.slice A8 ys.length c8],.bool (b1&&(b2&&(b3&&(k4&&(k5&&k6)))))]) (by simp [results,Tryz.results35,go_sem, *]) rfl ⟨A7,c7,l7,A8,c8,l8,rfl,?_,?_,?_,?_⟩
 all_goals first
  | exact Al (fun b _ h=>by have h1:w5.heap.size<b:=h;show _<=b;omega) (Ah (Ah (Ah (Ah v7 (fun b h=>by have h1:w5.heap.size<b:=h;omega) _ _) (fun b h=>by have h1:w5.heap.size<b:=h;omega) _ _) (fun b h=>by have h1:w5.heap.size<b:=h;omega) _ _) (fun b h=>by have h1:w5.heap.size<b:=h;omega) _ _)
  | exact Al (fun b _ h=>by have h1:w5.heap.size<b:=h;show _<=b;omega) (Ah (Ah (Ah (Ah v8 (fun b h=>by have h1:w5.heap.size<b:=h;omega) _ _) (fun b h=>by have h1:w5.heap.size<b:=h;omega) _ _) (fun b h=>by have h1:w5.heap.size<b:=h;omega) _ _) (fun b h=>by have h1:w5.heap.size<b:=h;omega) _ _)
  | exact Aw (Aw (Aw (Aw vF _ _) _ _) _ _) _ _
  | exact Below.setCell (Below.setCell (Below.setCell (Below.setCell b9 (by simp) _) (by simp) _) (by simp) _) (by simp) _
set_option maxRecDepth 100000 in
set_option maxHeartbeats 4000000 in
theorem Wc (x a b r i o nm vl:ByteArray) (b1 b2 b3 k5 k6:Bool) (k:Int) (xs ys:List Int) (h1:Dc x (⟨#[40]⟩:ByteArray)=(a,b,b1)) (h2:Kx b (⟨#[41]⟩:ByteArray)=(r,b2)) (h3:Dc r (⟨#[62]⟩:ByteArray)=(i,o,b3)) (h4:Dc a (⟨#[58]⟩:ByteArray)=(nm,vl,false)) (h5:Cb nm=some k) (hi:nlV i=(xs,k5)) (ho:nlV o=(ys,k6))
  (z1:x.size<=1073741823) (z2:a.size<=1073741823) (z3:b.size<=1073741823) (z4:r.size<=1073741823) (z6:i.size<=1073741823) (z7:o.size<=1073741823) (w:World) (tab:Tab w) :
  Calls Tryz.prog 35 #[.string x] w fun e w'=>∃ B2 d2 m2 B3 d3 m3,e=.returned (.tuple #[.agg #[.int .i64 k,.int .i64 0,.slice B2 xs.length d2,.slice B3 ys.length d3],.bool (b1&&(b2&&(b3&&(k5&&k6))))])/\Sl (Bu w.heap.size) w' .int B2 d2 xs m2/\Sl (Bu w.heap.size) w' .int B3 d3 ys m3/\Fresh w' w.heap.size (m2++m3)/\Below w.heap.size w w':=by
 go_enter Tryz.func35,Tryz.ntmps35
 go_wp2_with fail
 (refine (J0 x ⟨#[40]⟩ h1 oM _ (tab.below (by repeat (first|with_reducible exact Below.refl _ _|((with_reducible refine Below.setCell ?_ ?_ _);rotate_left;focus (first|(simp;done)|omega|(simp;omega)))|((with_reducible refine Below.alloc ?_ ?_ _);rotate_left;focus (first|(simp;done)|omega|(simp;omega)))|(with_reducible refine Below.drew ?_)|(with_reducible refine below_draws_ ?_ _))))).mono ?_;rintro e w1 ⟨rfl,hb_w1⟩;obtain ⟨hc_w1,hf_w1⟩:=A6 hb_w1;have hz_w1:=hb_w1.size;(try simp at hz_w1);have hl_w1_0:w.heap.size<w1.heap.size:=oM);go_wp2_with fail
 (refine (X4 b ⟨#[41]⟩ h2 oM _ (tab.below (by repeat (first|with_reducible exact Below.refl _ _|((with_reducible refine Below.setCell ?_ ?_ _);rotate_left;focus (first|(simp;done)|omega|(simp;omega)))|((with_reducible refine Below.alloc ?_ ?_ _);rotate_left;focus (first|(simp;done)|omega|(simp;omega)))|(with_reducible refine Below.drew ?_)|(with_reducible refine below_draws_ ?_ _)|((with_reducible refine Below.trans ?_ (Below.mono hb_w1 ?_));rotate_left;focus (first|(simp;done)|omega|(simp;omega))))))).mono ?_;rintro e w2 ⟨rfl,hb_w2⟩;obtain ⟨hc_w2,hf_w2⟩:=A6 hb_w2;have hz_w2:=hb_w2.size;(try simp at hz_w2);have hl_w2_0:w.heap.size<w2.heap.size:=oM);go_wp2_with fail
 (refine (J0 r ⟨#[62]⟩ h3 oM _ (tab.below (by repeat (first|with_reducible exact Below.refl _ _|((with_reducible refine Below.setCell ?_ ?_ _);rotate_left;focus (first|(simp;done)|omega|(simp;omega)))|((with_reducible refine Below.alloc ?_ ?_ _);rotate_left;focus (first|(simp;done)|omega|(simp;omega)))|(with_reducible refine Below.drew ?_)|(with_reducible refine below_draws_ ?_ _)|((with_reducible refine Below.trans ?_ (Below.mono hb_w1 ?_));rotate_left;focus (first|(simp;done)|omega|(simp;omega)))|((with_reducible refine Below.trans ?_ (Below.mono hb_w2 ?_));rotate_left;focus (first|(simp;done)|omega|(simp;omega))))))).mono ?_;rintro e w3 ⟨rfl,hb_w3⟩;obtain ⟨hc_w3,hf_w3⟩:=A6 hb_w3;have hz_w3:=hb_w3.size;(try simp at hz_w3);have hl_w3_0:w.heap.size<w3.heap.size:=oM);go_wp2_with fail
 (refine (J0 a ⟨#[58]⟩ h4 oM _ (tab.below (by repeat (first|with_reducible exact Below.refl _ _|((with_reducible refine Below.setCell ?_ ?_ _);rotate_left;focus (first|(simp;done)|omega|(simp;omega)))|((with_reducible refine Below.alloc ?_ ?_ _);rotate_left;focus (first|(simp;done)|omega|(simp;omega)))|(with_reducible refine Below.drew ?_)|(with_reducible refine below_draws_ ?_ _)|((with_reducible refine Below.trans ?_ (Below.mono hb_w1 ?_));rotate_left;focus (first|(simp;done)|omega|(simp;omega)))|((with_reducible refine Below.trans ?_ (Below.mono hb_w2 ?_));rotate_left;focus (first|(simp;done)|omega|(simp;omega)))|((with_reducible refine Below.trans ?_ (Below.mono hb_w3 ?_));rotate_left;focus (first|(simp;done)|omega|(simp;omega))))))).mono ?_;rintro e w4 ⟨rfl,hb_w4⟩;obtain ⟨hc_w4,hf_w4⟩:=A6 hb_w4;have hz_w4:=hb_w4.size;(try simp at hz_w4);have hl_w4_0:w.heap.size<w4.heap.size:=oM);go_wp2_with fail
 (refine (P1 nm h5 _ (tab.below (by repeat (first|with_reducible exact Below.refl _ _|((with_reducible refine Below.setCell ?_ ?_ _);rotate_left;focus (first|(simp;done)|omega|(simp;omega)))|((with_reducible refine Below.alloc ?_ ?_ _);rotate_left;focus (first|(simp;done)|omega|(simp;omega)))|(with_reducible refine Below.drew ?_)|(with_reducible refine below_draws_ ?_ _)|((with_reducible refine Below.trans ?_ (Below.mono hb_w1 ?_));rotate_left;focus (first|(simp;done)|omega|(simp;omega)))|((with_reducible refine Below.trans ?_ (Below.mono hb_w2 ?_));rotate_left;focus (first|(simp;done)|omega|(simp;omega)))|((with_reducible refine Below.trans ?_ (Below.mono hb_w3 ?_));rotate_left;focus (first|(simp;done)|omega|(simp;omega)))|((with_reducible refine Below.trans ?_ (Below.mono hb_w4 ?_));rotate_left;focus (first|(simp;done)|omega|(simp;omega))))))).mono ?_;rintro e w5 ⟨rfl,hb_w5⟩;obtain ⟨hc_w5,hf_w5⟩:=A6 hb_w5;have hz_w5:=hb_w5.size;(try simp at hz_w5);have hl_w5_0:w.heap.size<w5.heap.size:=oM);go_wp2_with fail
 (refine (R5 i hi _ oM (tab.below (by repeat (first|with_reducible exact Below.refl _ _|((with_reducible refine Below.setCell ?_ ?_ _);rotate_left;focus (first|(simp;done)|omega|(simp;omega)))|((with_reducible refine Below.alloc ?_ ?_ _);rotate_left;focus (first|(simp;done)|omega|(simp;omega)))|(with_reducible refine Below.drew ?_)|(with_reducible refine below_draws_ ?_ _)|((with_reducible refine Below.trans ?_ (Below.mono hb_w1 ?_));rotate_left;focus (first|(simp;done)|omega|(simp;omega)))|((with_reducible refine Below.trans ?_ (Below.mono hb_w2 ?_));rotate_left;focus (first|(simp;done)|omega|(simp;omega)))|((with_reducible refine Below.trans ?_ (Below.mono hb_w3 ?_));rotate_left;focus (first|(simp;done)|omega|(simp;omega)))|((with_reducible refine Below.trans ?_ (Below.mono hb_w4 ?_));rotate_left;focus (first|(simp;done)|omega|(simp;omega)))|((with_reducible refine Below.trans ?_ (Below.mono hb_w5 ?_));rotate_left;focus (first|(simp;done)|omega|(simp;omega))))))).mono ?_;rintro e w7 ⟨A7,c7,l7,rfl,t7,f7,hb_w7⟩;obtain ⟨hc_w7,hf_w7⟩:=A6 hb_w7;have hz_w7:=hb_w7.size;(try simp at hz_w7);have hl_w7_0:w.heap.size<w7.heap.size:=oM;have hl_w7_1:w5.heap.size<w7.heap.size:=oM);go_wp2_with fail
 (refine (R5 o ho _ oM (tab.below (by repeat (first|with_reducible exact Below.refl _ _|((with_reducible refine Below.setCell ?_ ?_ _);rotate_left;focus (first|(simp;done)|omega|(simp;omega)))|((with_reducible refine Below.alloc ?_ ?_ _);rotate_left;focus (first|(simp;done)|omega|(simp;omega)))|(with_reducible refine Below.drew ?_)|(with_reducible refine below_draws_ ?_ _)|((with_reducible refine Below.trans ?_ (Below.mono hb_w1 ?_));rotate_left;focus (first|(simp;done)|omega|(simp;omega)))|((with_reducible refine Below.trans ?_ (Below.mono hb_w2 ?_));rotate_left;focus (first|(simp;done)|omega|(simp;omega)))|((with_reducible refine Below.trans ?_ (Below.mono hb_w3 ?_));rotate_left;focus (first|(simp;done)|omega|(simp;omega)))|((with_reducible refine Below.trans ?_ (Below.mono hb_w4 ?_));rotate_left;focus (first|(simp;done)|omega|(simp;omega)))|((with_reducible refine Below.trans ?_ (Below.mono hb_w5 ?_));rotate_left;focus (first|(simp;done)|omega|(simp;omega)))|((with_reducible refine Below.trans ?_ (Below.mono hb_w7 ?_));rotate_left;focus (first|(simp;done)|omega|(simp;omega))))))).mono ?_;rintro e w8 ⟨A8,c8,l8,rfl,t8,f8,hb_w8⟩;obtain ⟨hc_w8,hf_w8⟩:=A6 hb_w8;have hz_w8:=hb_w8.size;(try simp at hz_w8);have hl_w8_0:w.heap.size<w8.heap.size:=oM;have hl_w8_1:w5.heap.size<w8.heap.size:=oM);go_wp2_with fail
 all_goals have hX7:w5.heap.size<(w5.alloc (.cells #[.int .i64 k,.int .i64 0,.slice none 0 0,.slice none 0 0] 37)).heap.size:=(by simp)
 all_goals have hX8:w5.heap.size<(w7.setCell ⟨w5.heap.size,2,none⟩ (.slice A7 xs.length c7)).heap.size:=(by simp [World.setCell];omega)
 all_goals have q7:(w5.alloc (.cells #[.int .i64 k,.int .i64 0,.slice none 0 0,.slice none 0 0] 37)).heap.size<=w7.heap.size:=hb_w7.size
 all_goals have u7:Sl (fun b=>w5.heap.size<b) w8 .int A7 c7 xs l7:=Ad (Ah (Al (fun b _ (h:_<=b)=>by show _<b;omega) t7) (fun b h=>by have h1:w5.heap.size<b:=h;omega) _ _) hb_w8
 all_goals have u8:Sl (fun b=>w5.heap.size<b) w8 .int A8 c8 ys l8:=Al (fun b _ (h:_<=b)=>by show _<b;omega) t8
 all_goals have hF:Fresh w8 w.heap.size (l7++l8):=Fresh.append (Aw (f7.le (by first|(simp;done)|omega|(simp;omega))) _ _) hb_w8 f8 (by first|(simp;done)|omega|(simp;omega))
 all_goals have hnf:w.heap.size≠w5.heap.size:=by omega
 all_goals have g8:∀ i u,w5.cell? ⟨w.heap.size,i,none⟩=some u->(w8.setCell ⟨w5.heap.size,3,none⟩ (.slice A8 ys.length c8)).cell? ⟨w.heap.size,i,none⟩=some u:=fun i u h=>Fg (Ac hb_w8 (Fg (Ac hb_w7 (Bh _ h)) hnf)) hnf
 all_goals have e0:=g8 0 (.int .i64 0) ((hc_w5 _ _ (by first|(simp;done)|omega|(simp;omega))).trans ((hc_w4 _ _ (by first|(simp;done)|omega|(simp;omega))).trans ((hc_w3 _ _ (by first|(simp;done)|omega|(simp;omega))).trans ((hc_w2 _ _ (by first|(simp;done)|omega|(simp;omega))).trans ((hc_w1 _ _ (by first|(simp;done)|omega|(simp;omega))).trans (by simp))))))
 all_goals have e1:=g8 1 (.int .i64 0) ((hc_w5 _ _ (by first|(simp;done)|omega|(simp;omega))).trans ((hc_w4 _ _ (by first|(simp;done)|omega|(simp;omega))).trans ((hc_w3 _ _ (by first|(simp;done)|omega|(simp;omega))).trans ((hc_w2 _ _ (by first|(simp;done)|omega|(simp;omega))).trans ((hc_w1 _ _ (by first|(simp;done)|omega|(simp;omega))).trans (by simp))))))
 all_goals have e2:=g8 2 (.slice none 0 0) ((hc_w5 _ _ (by first|(simp;done)|omega|(simp;omega))).trans ((hc_w4 _ _ (by first|(simp;done)|omega|(simp;omega))).trans ((hc_w3 _ _ (by first|(simp;done)|omega|(simp;omega))).trans ((hc_w2 _ _ (by first|(simp;done)|omega|(simp;omega))).trans ((hc_w1 _ _ (by first|(simp;done)|omega|(simp;omega))).trans (by simp))))))
 all_goals have e3:=g8 3 (.slice none 0 0) ((hc_w5 _ _ (by first|(simp;done)|omega|(simp;omega))).trans ((hc_w4 _ _ (by first|(simp;done)|omega|(simp;omega))).trans ((hc_w3 _ _ (by first|(simp;done)|omega|(simp;omega))).trans ((hc_w2 _ _ (by first|(simp;done)|omega|(simp;omega))).trans ((hc_w1 _ _ (by first|(simp;done)|omega|(simp;omega))).trans (by simp))))))
 all_goals have b9:Below w.heap.size w (w8.setCell ⟨w5.heap.size,3,none⟩ (.slice A8 ys.length c8)):=(by repeat (first|with_reducible exact Below.refl _ _|((with_reducible refine Below.setCell ?_ ?_ _);rotate_left;focus (first|(simp;done)|omega|(simp;omega)))|((with_reducible refine Below.alloc ?_ ?_ _);rotate_left;focus (first|(simp;done)|omega|(simp;omega)))|(with_reducible refine Below.drew ?_)|(with_reducible refine below_draws_ ?_ _)|((with_reducible refine Below.trans ?_ (Below.mono hb_w1 ?_));rotate_left;focus (first|(simp;done)|omega|(simp;omega)))|((with_reducible refine Below.trans ?_ (Below.mono hb_w2 ?_));rotate_left;focus (first|(simp;done)|omega|(simp;omega)))|((with_reducible refine Below.trans ?_ (Below.mono hb_w3 ?_));rotate_left;focus (first|(simp;done)|omega|(simp;omega)))|((with_reducible refine Below.trans ?_ (Below.mono hb_w4 ?_));rotate_left;focus (first|(simp;done)|omega|(simp;omega)))|((with_reducible refine Below.trans ?_ (Below.mono hb_w5 ?_));rotate_left;focus (first|(simp;done)|omega|(simp;omega)))|((with_reducible refine Below.trans ?_ (Below.mono hb_w7 ?_));rotate_left;focus (first|(simp;done)|omega|(simp;omega)))|((with_reducible refine Below.trans ?_ (Below.mono hb_w8 ?_));rotate_left;focus (first|(simp;done)|omega|(simp;omega)))))
 all_goals have v7:Sl (fun b=>w5.heap.size<b) (w8.setCell ⟨w5.heap.size,3,none⟩ (.slice A8 ys.length c8)) .int A7 c7 xs l7:=Ah u7 (fun b h=>by have h1:w5.heap.size<b:=h;omega) _ _
 all_goals have v8:Sl (fun b=>w5.heap.size<b) (w8.setCell ⟨w5.heap.size,3,none⟩ (.slice A8 ys.length c8)) .int A8 c8 ys l8:=Ah u8 (fun b h=>by have h1:w5.heap.size<b:=h;omega) _ _
 all_goals have vF:=Aw hF ⟨w5.heap.size,3,none⟩ (.slice A8 ys.length c8)
 all_goals have hlt9:w.heap.size<w5.heap.size:=by omega
 all_goals clear u7 u8 hF t7 t8 f7 f8 g8 hX7 hX8 q7 hb_w1 hb_w2 hb_w3 hb_w4 hb_w5 hb_w7 hb_w8 hc_w1 hc_w2 hc_w3 hc_w4 hc_w5 hc_w7 hc_w8 hf_w1 hf_w2 hf_w3 hf_w4 hf_w5 hf_w7 hf_w8
 all_goals generalize (w8.setCell ⟨w5.heap.size,3,none⟩ (.slice A8 ys.length c8))=w9 at *
 all_goals refine bodyPost_ret (v:=.tuple #[.agg #[.int .i64 k,.int .i64 0,.slice A7 xs.length c7,.slice A8 ys.length c8],.bool (b1&&(b2&&(b3&&(k5&&k6))))]) (by simp [results,Tryz.results35,go_sem, *]) rfl ⟨A7,c7,l7,A8,c8,l8,rfl,?_,?_,?_,?_⟩
 all_goals first
  | exact Al (fun b _ h=>by have h1:w5.heap.size<b:=h;show _<=b;omega) (Ah (Ah (Ah (Ah v7 (fun b h=>by have h1:w5.heap.size<b:=h;omega) _ _) (fun b h=>by have h1:w5.heap.size<b:=h;omega) _ _) (fun b h=>by have h1:w5.heap.size<b:=h;omega) _ _) (fun b h=>by have h1:w5.heap.size<b:=h;omega) _ _)
  | exact Al (fun b _ h=>by have h1:w5.heap.size<b:=h;show _<=b;omega) (Ah (Ah (Ah (Ah v8 (fun b h=>by have h1:w5.heap.size<b:=h;omega) _ _) (fun b h=>by have h1:w5.heap.size<b:=h;omega) _ _) (fun b h=>by have h1:w5.heap.size<b:=h;omega) _ _) (fun b h=>by have h1:w5.heap.size<b:=h;omega) _ _)
  | exact Aw (Aw (Aw (Aw vF _ _) _ _) _ _) _ _
  | exact Below.setCell (Below.setCell (Below.setCell (Below.setCell b9 (by simp) _) (by simp) _) (by simp) _) (by simp) _
end
section
theorem Ya (c:UInt8) (l:List UInt8):Ce c (ba l)=(Dj c l).map ba:=by unfold Ce;rw [D2];rfl
theorem Afn (l:List UInt8):(ba l).toList.isEmpty=l.isEmpty:=by rw [Lib.toList_data,D2]
theorem Mw (c:UInt8):∀ l:List UInt8,Lib.index l [c]=Lib.indexByte l c
 | []=>rfl
 | b :: l=>by
  unfold Lib.index Lib.indexByte;rw [Mw c l];by_cases hb:b=c
  ·subst hb;simp [List.isPrefixOf]
  ·simp [List.isPrefixOf,hb,Ne.symm hb]
theorem Oi {c:UInt8} {a:List UInt8} (r:List UInt8) (h:c∉a):Dc (ba (a++c :: r)) (⟨#[c]⟩:ByteArray)=(ba a,ba r,true):=by
 have hi:Lib.index (a++c :: r) [c]=a.length:=by
  rw [Mw];rcases H8 c (a++c :: r) with ⟨h1,_⟩|⟨a',r',e,h1,h2⟩
  ·exact absurd (by simp) h1
  ·rw [h2];have:=D6 r h;rw [e,D6 r' h1] at this;injection this with e1 _
   rw [e1]
 unfold Dc;rw [D2,show (⟨#[c]⟩:ByteArray).data.toList=[c] from rfl];unfold Lib.cut;rw [hi,if_pos oM];have e1:(a++c :: r).take a.length=a:=List.take_left;have e2:(a++c :: r).drop (a.length+1)=r:=by rw [List.drop_append,List.drop_of_length_le oM,Nat.add_sub_cancel_left];rfl
 simp only [Int.toNat_natCast,List.length_singleton,e1,e2];rfl
theorem Vg {c:UInt8} {l:List UInt8} (h:c∉l):Dc (ba l) (⟨#[c]⟩:ByteArray)=(ba l,ba [],false):=by
 have hi:Lib.index l [c]= -1:=by
  rw [Mw];rcases H8 c l with ⟨_,h1⟩|⟨a',r',e,_,_⟩
  ·exact h1
  ·exact absurd (by rw [e];simp) h
 unfold Dc;rw [D2,show (⟨#[c]⟩:ByteArray).data.toList=[c] from rfl];unfold Lib.cut;rw [hi,if_neg oM];rfl
theorem Fo (c:UInt8) (s:ByteArray):(Dc s (⟨#[c]⟩:ByteArray)).1.size<=s.size/\(Dc s (⟨#[c]⟩:ByteArray)).2.1.size<=s.size:=by
 rw [← Gp s];rcases H8 c s.data.toList with ⟨h,_⟩|⟨a,r,e,h,_⟩
 ·rw [Vg h];simp [Bg]
 ·rw [e,Oi r h];simp only [Bg,List.length_append,List.length_cons];omega
theorem Pz (s p:ByteArray):(Kx s p).1.size<=s.size:=by
 unfold Kx Lib.trimSuffix;have e:s.data.toList.length=s.size:=Array.length_toList;show (ba _).size<=_;rw [Bg];split
 ·rw [List.length_take];omega
 ·omega
theorem M1 (x:ByteArray):∃ k,Cb x=some k:=by
 obtain ⟨ws,hws,_⟩:=Xz;have hl:ws.length=15:=by unfold Dh at hws;obtain rfl:=osj hws;rfl
 unfold Cb;rw [hws,obs]
 have:=Y9 (body:=fun s_:Nat=>Ek ws x s_) ws (fun w=>w.toList==x.toList) (Ctl.next ()) (fun i=>Ctl.out ((i:Nat):Int)) (F:=4611686018427387904) oM (fun i w hw=>by
  have:=Ay hw
  try dsimp only
  unfold Ek;rw [B5 oM,cond_true,hw,obs,Aj oM];cases w.toList==x.toList <;> rfl) (by
  try dsimp only
  unfold Ek;rw [B0 oM,cond_false])
 rcases this with ⟨_,i,_,h⟩|⟨_,h⟩ <;> rw [h] <;> exact ⟨_,rfl⟩
def peV (x:ByteArray):Int×Int×List Int×List Int×Bool:=match B7 x with|some r=>r|none=>(0,0,[],[],false)
theorem Agl {x:ByteArray} (h:x.size<=1073741823):B7 x=some (peV x):=by
 have key:∃ r,B7 x=some r:=by
  unfold B7 Bx Bd Ch;have h1:=Fo 40 x;have h2:=Pz (Dc x (⟨#[40]⟩:ByteArray)).2.1 (⟨#[41]⟩:ByteArray);have h3:=Fo 62 (Kx (Dc x (⟨#[40]⟩:ByteArray)).2.1 (⟨#[41]⟩:ByteArray)).1;have h4:=Fo 58 (Dc x (⟨#[40]⟩:ByteArray)).1;rw [Aj oM,obs,Aj oM,obs,Aj oM,obs,Aj oM,obs];obtain ⟨k,hk⟩:=M1 (Dc (Dc x (⟨#[40]⟩:ByteArray)).1 (⟨#[58]⟩:ByteArray)).1;rw [hk,obs,Yo oM,Aj oM,Aj oM];generalize (Dc (Dc x (⟨#[40]⟩:ByteArray)).1 (⟨#[58]⟩:ByteArray)).2.2=b1;generalize (Dc x (⟨#[40]⟩:ByteArray)).2.2=b2;generalize (Kx (Dc x (⟨#[40]⟩:ByteArray)).2.1 (⟨#[41]⟩:ByteArray)).2=b3;generalize (Dc (Kx (Dc x (⟨#[40]⟩:ByteArray)).2.1 (⟨#[41]⟩:ByteArray)).1 (⟨#[62]⟩:ByteArray)).2.2=b4;generalize nlV _=q1;generalize nlV _=q2;generalize Fp _=q3;obtain ⟨x1,b5⟩:=q1;obtain ⟨x2,b6⟩:=q2;obtain ⟨x3,b7⟩:=q3;cases b1 <;> cases b2 <;> cases b3 <;> cases b4 <;> cases b5 <;> cases b7 <;> exact ⟨_,rfl⟩
 obtain ⟨r,hr⟩:=key;unfold peV;rw [hr]
theorem Afp:∀ i:Fin 101,C7 (ba (dg (i.val:Int)))=some ((i.val:Int),true):=by decide +kernel
theorem Tq {n:Int} (h:0<=n/\n<=100):Fp (ba (dg n))=(n,true):=by
 obtain ⟨k,rfl⟩:=Int.eq_ofNat_of_zero_le h.1;unfold Fp;rw [Afp ⟨k,by omega⟩]
theorem Y5 {c:UInt8} (h:c.toNat<44∨57<c.toNat):∀ xs:List Int,c∉Lib.joinTail [44] (xs.map dg)
 | []=>by simp [Lib.joinTail]
 | x :: xs=>by
  rw [List.map_cons,show Lib.joinTail [44] (dg x :: xs.map dg)=44 :: (dg x++Lib.joinTail [44] (xs.map dg)) by simp [Lib.joinTail]];intro hm;rcases List.mem_cons.1 hm with e|hm
  ·subst e;simp at h
  ·rcases List.mem_append.1 hm with hm|hm
   ·have:=Kb _ c hm;omega
   ·exact Y5 h xs hm
theorem Ma {c:UInt8} (h:c.toNat<44∨57<c.toNat):∀ xs:List Int,c∉jn xs
 | []=>by rw [Tu];simp
 | x :: xs=>by
  unfold jn;rw [List.map_cons,Lib.join_cons];intro hm;rcases List.mem_append.1 hm with hm|hm
  ·have:=Kb _ c hm;omega
  ·exact Y5 h xs hm
theorem Agi (n:Int):dg n≠[]:=by
 have key:∀ i:Nat,Lib.decDigits i≠[]:=fun i=>by
  unfold Lib.decDigits;split <;> simp
 exact key _
theorem Aey {xs:List Int} (h:xs≠[]):jn xs≠[]:=by
 cases xs with
 | nil=>exact absurd rfl h
 | cons x xs =>
  unfold jn;rw [List.map_cons,Lib.join_cons];exact fun e=>Agi x (List.append_eq_nil_iff.1 e).1
theorem Adg {xs:List Int} (h:xs≠[]):Dj 44 (jn xs)=xs.map dg :=
 Sk (by simpa using h) (fun x hx=>by
  obtain ⟨n,_,rfl⟩:=List.mem_map.1 hx;exact Af9 n (by decide))
theorem To {xs:List Int} (h:Ey xs):nlV (ba (jn xs))=(xs,true):=by
 unfold nlV;rw [Afn];by_cases h0:xs=[]
 ·subst h0;rw [Tu];rfl
 ·rw [if_neg (by simpa using Aey h0),Ya,Adg h0,List.map_map];have hn:∀ n∈xs,Fp ((ba∘dg) n)=(n,true):=fun n hn=>Tq (by have:=h n hn;omega)
  rw [if_pos (by rw [List.all_map,List.all_eq_true];exact fun n hm=>by show (Fp ((ba∘dg) n)).2=true;rw [hn n hm])];congr 1;rw [List.map_map];refine (List.map_congr_left fun n hm=>?_).trans (List.map_id xs);show (Fp ((ba∘dg) n)).1=_;rw [hn n hm];rfl
theorem Z7:∀ i:Fin 12,Cb (ba (D9 ((i.val:Int)+3)))=some ((i.val:Int)+3):=by decide +kernel
theorem Yv {k:Int} (h:3<=k/\k<=14):Cb (ba (D9 k))=some k:=by
 have:=Z7 ⟨(k - 3).toNat,by omega⟩;have e:(((⟨(k - 3).toNat,by omega⟩:Fin 12).val:Nat):Int)+3=k:=by show ((k - 3).toNat:Int)+3=k;omega
 rwa [e] at this
theorem Abl:∀ i:Fin 12,((D9 ((i.val:Int)+3)).all fun c=>decide (97<=c.toNat/\c.toNat<=122))=true:=by decide +kernel
theorem L1 {k:Int} (h:3<=k/\k<=14) {c:UInt8} (hc:c.toNat<97∨122<c.toNat):c∉D9 k:=fun hm=>by
 have:=Abl ⟨(k - 3).toNat,by omega⟩;have e:(((⟨(k - 3).toNat,by omega⟩:Fin 12).val:Nat):Int)+3=k:=by show ((k - 3).toNat:Int)+3=k;omega
 rw [e] at this;have:=of_decide_eq_true (List.all_eq_true.1 this c hm);omega
theorem Qi {e:Edg} (h:edK e=true) {c:UInt8} (hc:c.toNat<48∨122<c.toNat):c∉Fs e:=by
 have hr:=J8 h;have h1:=L1 hr (c:=c) oM;unfold Fs;split
 ·intro hm;rcases List.mem_append.1 hm with hm|hm
  ·exact h1 hm
  ·rcases List.mem_append.1 hm with hm|hm
   ·obtain rfl:=List.mem_singleton.1 hm;have:(58:UInt8).toNat=58:=rfl;omega
   ·have:=Kb _ c hm;omega
 ·exact h1
theorem Vd {e:Edg} (h:edK e=true) (hs:scl e.1=false):e.2.1=0:=by
 unfold edK at h;simp only [Bool.and_eq_true] at h;have h2:=h.2.1;unfold scl at hs;simp only [Bool.or_eq_false_iff,beq_eq_false_iff_ne] at hs;rw [if_neg (fun e=>e.elim hs.1 hs.2)] at h2
 simpa using h2
theorem Ady (l:List UInt8) (c:UInt8):Kx (ba (l++[c])) (⟨#[c]⟩:ByteArray)=(ba l,true):=by
 unfold Kx;rw [D2,show (⟨#[c]⟩:ByteArray).data.toList=[c] from rfl]
 have hs:Lib.hasSuffix (l++[c]) [c]=true:=by
  unfold Lib.hasSuffix;exact List.isSuffixOf_iff_suffix.2 (List.suffix_append l [c])
 unfold Lib.trimSuffix;rw [hs,if_pos rfl];have e:(l++[c]).take ((l++[c]).length - [c].length)=l:=by simp
 rw [e];rfl
theorem Ab9 {e:Edg} (h:edK e=true) (h1:Ey e.2.2.1) (h2:Ey e.2.2.2):peV (ba (Bm e))=(e.1,e.2.1,e.2.2.1,e.2.2.2,true):=by
 have hr:=J8 h;have hl:=M8 h h1 h2
 have c1:Dc (ba (Bm e)) (⟨#[40]⟩:ByteArray)=(ba (Fs e),ba ((jn e.2.2.1++62 :: jn e.2.2.2)++[41]),true):=by
  have:=Oi (c:=40) ((jn e.2.2.1++62 :: jn e.2.2.2)++[41]) (Qi h (c:=40) (by decide));rw [← this];congr 2;unfold Bm;simp [List.append_assoc]
 have c2:=Ady (jn e.2.2.1++62 :: jn e.2.2.2) 41;have c3:=Oi (c:=62) (jn e.2.2.2) (Ma (c:=62) (by decide) e.2.2.1);unfold peV B7 Bx Bd Ch;have l1:=Ew h1;have l2:=Ew h2;have hk:=Gs h;rw [Aj (by rw [Bg];omega),c1,obs,Aj (by rw [Bg];simp;omega),c2,obs,Aj (by rw [Bg];simp;omega),c3,obs,Aj (by rw [Bg];have:=Ib h;omega),obs];dsimp only;rw [Aj (by rw [Bg];omega),Aj (by rw [Bg];omega),To h1,To h2];unfold Fs;cases hs:scl e.1
 ·rw [if_neg Bool.false_ne_true,Vg (L1 hr (by decide)),Yv hr,Vd h hs];rfl
 ·have hv:=L6 h hs;rw [if_pos rfl,show D9 e.1++([58]++dg e.2.1)=D9 e.1++58 :: dg e.2.1 from rfl,Oi (dg e.2.1) (L1 hr (by decide)),Yv hr,obs];have hsz:(dg e.2.1).length<=101:=H1 oM;dsimp only;rw [Yo (by rw [Bg];omega),Tq oM];rfl
end
section
theorem Pe:(⟨#[]⟩:ByteArray).toList=[]:=by rw [Lib.toList_data]
theorem I9 {x:ByteArray} (h:x.size<=1048577):∃ r,B9 x=some r:=by
 unfold B9;rw [Lib.toList_data];cases x.data.toList==(⟨#[]⟩:ByteArray).toList
 ·rw [cond_false,← Gp x,show ((44:Int))=(((44:UInt8).toNat:Nat):Int) from rfl,Ei _ 44 (by have:x.data.toList.length=x.size:=Array.length_toList;omega),obs];generalize hy:(Dj 44 x.data.toList).map ba=ys
  have hle:ys.length<=1048578:=by
   have e:x.data.toList.length=x.size:=Array.length_toList;have:=List.count_le_length (a:=(44:UInt8)) (l:=x.data.toList);rw [← hy,List.length_map,Jp];omega
  have key:∃ r,Az (fun s_:Nat×List Int=>B6 ys s_.1 s_.2) 4611686018427387904 (0,[])=some r/\True:=by
   refine G0 (F:=4611686018427387904) (s0:=((0,[]):Nat×List Int)) (Post:=fun _=>True) ys.length (fun (i:Nat) (st:Nat×List Int)=>st.1=i/\st.2.length=i) oM ⟨rfl,rfl⟩ ?_ ?_
   ·rintro i ⟨i',out⟩ hi ⟨h1,h2⟩;dsimp only at h1 h2;subst h1;have hx:=gEg hi;obtain ⟨r,hr⟩:=Js ys[i'].data.toList;rw [Gp] at hr;refine .inl ⟨(i'+1,out++[r]),?_,rfl,by simp;omega⟩
    try dsimp only
    unfold B6;rw [B5 oM,cond_true,hx,obs,hr,obs,Aj oM,Aj oM]
   ·rintro ⟨i',out⟩ ⟨h1,h2⟩;dsimp only at h1 h2;subst h1
    try dsimp only
    unfold B6;rw [B0 oM,cond_false];exact ⟨_,rfl,trivial⟩
  obtain ⟨r,hr,-⟩:=key;rw [hr];exact ⟨_,rfl⟩
 ·exact ⟨_,rfl⟩
theorem Qd {xs:List Int} (h:Ey xs) (hl:xs.length<=100):B9 (ba (jn xs))=some xs:=by
 unfold B9;rw [Lib.toList_data,D2];by_cases h0:xs=[]
 ·subst h0;rw [Tu,Pe];rfl
 ·have hb:((jn xs)==(⟨#[]⟩:ByteArray).toList)=false:=by
   rw [Lib.toList_data];exact beq_eq_false_iff_ne.2 (Aey h0)
  have hj:=Ew h;rw [hb,cond_false,show ((44:Int))=(((44:UInt8).toNat:Nat):Int) from rfl,Ei _ 44 oM,obs,Adg h0,List.map_map]
  have key:=Mv (body:=fun s_:Nat×List Int=>B6 (xs.map (ba∘dg)) s_.1 s_.2) xs (fun n=>n) [] (F:=4611686018427387904) oM xs (fun i x hx=>by
   have:=Ay hx;have hm:=h x (List.mem_of_getElem? hx)
   try dsimp only
   unfold B6;rw [List.length_map,B5 oM,cond_true,List.getElem?_map,hx,Option.map_some,obs,Function.comp_apply,Q0 hm,obs,Aj (by simp;omega),Aj oM]) (by
   try dsimp only
   unfold B6;rw [List.length_map,B0 oM,cond_false];simp)
  rw [key];rfl
def opK (ws:List (List UInt8)) (w:List UInt8):Nat->Int
 | 0=> -1
 | n+1=>if ws[n]? =some w then 3+(n:Int) else opK ws w n
theorem Kw (ws:List (List UInt8)) (w:List UInt8) (rest:List ByteArray) (hl:ws.length<=1000):Az (fun s_:Nat×Int=>Ep (ws.map ba) (ba w :: rest) s_.1 s_.2) 4611686018427387904 (0,-1)=some (opK ws w ws.length):=by
 refine Dz ws.length (fun i=>(i,opK ws w i)) oM _ rfl (fun i hi=>?_) ?_
 ·have hx:=gEg hi
  try dsimp only
  unfold Ep;rw [List.length_map,B5 oM,cond_true,List.getElem?_map,hx,Option.map_some,obs,List.getElem?_cons_zero,obs,Lib.toList_data,Lib.toList_data,D2,D2]
  have e:opK ws w (i+1)=if ws[i]=w then 3+(i:Int) else opK ws w i:=by
   show (if ws[i]? =some w then _ else _)=_;rw [hx];simp
  rw [e];by_cases hw:ws[i]=w
  ·rw [if_pos hw,beq_iff_eq.2 hw,cond_true,obs,Gk oM oM,Aj oM]
  ·rw [if_neg hw,beq_eq_false_iff_ne.2 hw,cond_false,obs,Aj oM]
 ·try dsimp only
  unfold Ep;rw [List.length_map,B0 oM,cond_false]
theorem Sa:Eh=some (Nn.map ba):=Eq.trans rfl rfl
theorem Aav:∀ i:Fin 12,opK Nn (D9 ((i.val:Int)+3)) 12=(i.val:Int)+3:=by decide +kernel
def ceV (x:ByteArray):Int×Int×List Int×List Int:=match Dy x with|some r=>r|none=>(0,0,[],[])
theorem Ag0 {x:ByteArray} (h:x.size<=1048576):Dy x=some (ceV x):=by
 have hxl:x.data.toList.length=x.size:=Array.length_toList
 have key:∃ r,Dy x=some r:=by
  unfold Dy;rw [← Gp x,show ((40:Int))=(((40:UInt8).toNat:Nat):Int) from rfl,Ei _ 40 oM,obs];generalize hy:Dj 40 x.data.toList=ys;have hsz:∀ z∈ys,z.length<=x.size:=fun z hz=>by rw [← hy] at hz;have:=Gb _ z hz;omega
  have hne:ys≠[]:=by rw [← hy];exact Sq _
  by_cases hl:ys.length=2
  ·obtain ⟨a,b,rfl⟩:∃ a b,ys=[a,b]:=by
    match ys,hl with
    | [a,b],_=>exact ⟨a,b,rfl⟩
   have ha:=hsz a (by simp);have hb:=hsz b (by simp);simp only [List.map_cons,List.map_nil,List.length_cons,List.length_nil,List.getElem?_cons_succ,List.getElem?_cons_zero,obs];rw [show (((0+1+1:Nat):Int) !=2)=false from rfl,cond_false,obs,Lib.toList_data,D2];by_cases hbe:b=[]
   ·subst hbe;rw [Pe];exact ⟨_,rfl⟩
   ·have hb1:1<=b.length:=by cases b with|nil=>exact absurd rfl hbe|cons _ _=>simp
    rw [show (b==(⟨#[]⟩:ByteArray).toList)=false from by rw [Lib.toList_data];exact beq_eq_false_iff_ne.2 hbe,cond_false,Bg,Gk oM oM,Aj oM,show ((62:Int))=(((62:UInt8).toNat:Nat):Int) from rfl,S9,Ei _ 62 (by simp;omega),obs,show ((58:Int))=(((58:UInt8).toNat:Nat):Int) from rfl,Ei _ 58 oM,obs];generalize hz:Dj 62 _=zs;generalize hu:Dj 58 a=us;have hzs:∀ z∈zs,z.length<=1048576:=fun z h=>by rw [← hz] at h;have:=Gb _ z h;simp at this;omega
    have hus:∀ z∈us,z.length<=1048576:=fun z h=>by rw [← hu] at h;have:=Gb _ z h;omega
    have hune:us≠[]:=by rw [← hu];exact Sq _
    by_cases hz2:zs.length=2
    ·obtain ⟨p,q,rfl⟩:∃ a b,zs=[a,b]:=by
      match zs,hz2 with
      | [a,b],_=>exact ⟨a,b,rfl⟩
     obtain ⟨r1,hr1⟩:=I9 (x:=ba p) (by rw [Bg];have:=hzs p (by simp);omega);obtain ⟨r2,hr2⟩:=I9 (x:=ba q) (by rw [Bg];have:=hzs q (by simp);omega);obtain ⟨u,us,rfl⟩:∃ u us',us=u :: us':=by cases us with|nil=>exact absurd rfl hune|cons u us'=>exact ⟨u,us',rfl⟩
     simp only [List.map_cons,List.map_nil,List.length_cons,List.length_nil,List.getElem?_cons_succ,List.getElem?_cons_zero,obs,Sa,Kw Nn u (us.map ba) (by decide),hr1,hr2];rw [show (((0+1+1:Nat):Int) !=2)=false from rfl,cond_false,obs];cases us with
     | nil=>exact ⟨_,rfl⟩
     | cons v us =>
      obtain ⟨r3,hr3⟩:=Js v;cases us with
      | nil =>
       simp only [List.map_cons,List.map_nil,List.length_cons,List.length_nil,List.getElem?_cons_zero,obs,hr3];exact ⟨_,rfl⟩
      | cons v2 us =>
       rw [B5 (by simp only [List.length_map,List.length_cons];omega),cond_true];exact ⟨_,rfl⟩
    ·have:((((zs.map ba).length:Nat):Int) !=2)=true:=by rw [List.length_map];exact bne_iff_ne.2 oM
     rw [this];exact ⟨_,rfl⟩
  ·have:((((ys.map ba).length:Nat):Int) !=2)=true:=by rw [List.length_map];exact bne_iff_ne.2 oM
   rw [this];exact ⟨_,rfl⟩
 obtain ⟨r,hr⟩:=key;unfold ceV;rw [hr]
theorem Acm {e:Edg} (h:edK e=true) (h1:Ey e.2.2.1) (h2:Ey e.2.2.2):ceV (ba (Bm e))=e:=by
 have hr:=J8 h;have hk:=Gs h;have l1:=Ew h1;have l2:=Ew h2;have hl:=M8 h h1 h2;have hh:=Ib h
 have s1:Dj 40 (Bm e)=[Fs e,(jn e.2.2.1++62 :: jn e.2.2.2)++[41]]:=by
  have e1:Bm e=Fs e++40 :: ((jn e.2.2.1++62 :: jn e.2.2.2)++[41]):=by unfold Bm;simp [List.append_assoc]
  rw [e1,D6 _ (Qi h (by decide)),Eo];intro hm;rcases List.mem_append.1 hm with hm|hm
  ·rcases List.mem_append.1 hm with hm|hm
   ·exact Ma (by decide) _ hm
   ·rcases List.mem_cons.1 hm with hm|hm
    ·exact absurd hm (by decide)
    ·exact Ma (by decide) _ hm
  ·exact absurd (List.mem_singleton.1 hm) (by decide)
 have s2:Dj 62 (jn e.2.2.1++62 :: jn e.2.2.2)=[jn e.2.2.1,jn e.2.2.2]:=by
  rw [D6 _ (Ma (by decide) _),Eo (Ma (by decide) _)]
 obtain ⟨M,hM⟩:∃ M,(jn e.2.2.1++62 :: jn e.2.2.2)++[41]=M:=⟨_,rfl⟩
 have hMl:M.length=(jn e.2.2.1).length+((jn e.2.2.2).length+1)+1:=by rw [← hM];simp only [List.length_append,List.length_cons,List.length_nil]
 have hcut:(M.drop 0).take (M.length - 1 - 0)=jn e.2.2.1++62 :: jn e.2.2.2:=by
  rw [← hM,List.drop_zero,List.length_append,List.length_singleton,Nat.sub_zero,Nat.add_sub_cancel];exact List.take_left
 have hMn:((M.length:Int) - 1).toNat=M.length - 1:=by omega
 have hMe:(M==([]:List UInt8))=false:=beq_eq_false_iff_ne.2 (fun h=>by rw [h] at hMl;simp at hMl);rw [hM] at s1
 have hop:opK Nn (D9 e.1) Nn.length=e.1:=by
  have:=Aav ⟨(e.1 - 3).toNat,by omega⟩;have e':(((⟨(e.1 - 3).toNat,by omega⟩:Fin 12).val:Nat):Int)+3=e.1:=by show ((e.1 - 3).toNat:Int)+3=e.1;omega
  rwa [e'] at this
 unfold ceV Dy;rw [show ((40:Int))=(((40:UInt8).toNat:Nat):Int) from rfl,Ei _ 40 oM,obs,s1];simp only [List.map_cons,List.map_nil,List.length_cons,List.length_nil,List.getElem?_cons_succ,List.getElem?_cons_zero,obs];rw [show (((0+1+1:Nat):Int) !=2)=false from rfl,cond_false,obs,Lib.toList_data,D2,Pe,hMe,cond_false,Bg,Gk oM oM,Aj oM,show ((62:Int))=(((62:UInt8).toNat:Nat):Int) from rfl,S9];rw [hMn,hcut,Ei _ 62 (by simp only [List.length_append,List.length_cons];omega),obs,s2,show ((58:Int))=(((58:UInt8).toNat:Nat):Int) from rfl,Ei _ 58 oM,obs];simp only [List.map_cons,List.map_nil,List.length_cons,List.length_nil,List.getElem?_cons_succ,List.getElem?_cons_zero,obs,Sa,Qd h1 oM,Qd h2 oM];rw [show (((0+1+1:Nat):Int) !=2)=false from rfl,cond_false,obs];unfold Fs;cases hs:scl e.1
 ·rw [if_neg Bool.false_ne_true,Eo (L1 hr (by decide))];simp only [List.map_cons,List.map_nil,List.length_cons,List.length_nil];rw [Kw Nn (D9 e.1) [] (by decide),hop,B0 (by decide),cond_false,obs,show (((0+1:Nat):Int)==2)=false from rfl,cond_false,obs];show (e.1,0,e.2.2.1,e.2.2.2)=e;rw [← Vd h hs]
 ·have hv:=L6 h hs
  rw [if_pos rfl,show D9 e.1++([58]++dg e.2.1)=D9 e.1++58 :: dg e.2.1 from rfl,D6 _ (L1 hr (by decide)),Eo (by
   intro hm;have:=Kb _ _ hm;have:(58:UInt8).toNat=58:=rfl;omega)]
  simp only [List.map_cons,List.map_nil,List.length_cons,List.length_nil,List.getElem?_cons_succ,List.getElem?_cons_zero,obs];rw [Kw Nn (D9 e.1) [ba (dg e.2.1)] (by decide),hop,B0 (by decide),cond_false,obs,show (((0+1+1:Nat):Int)==2)=true from rfl,cond_true,Q0 oM];rfl
end
section
abbrev Grf:=Int×List Edg×List Int×List Int
def rdV (x:ByteArray):Int:=match Bo x with|some r=>r|none=>0
theorem Agy (x:ByteArray):Bo x=some (rdV x):=by
 obtain ⟨r,hr⟩:=Js x.data.toList;rw [Gp] at hr;unfold rdV;rw [hr]
def crV (x:ByteArray):List Int:=match B9 x with|some r=>r|none=>[]
theorem Agu {x:ByteArray} (h:x.size<=1048577):B9 x=some (crV x):=by
 obtain ⟨r,hr⟩:=I9 h;unfold crV;rw [hr]
def Ao (s:ByteArray) (i:Nat):ByteArray:=(Ce 124 s).getD i (ba [])
def pgV (s:ByteArray):Grf×Bool :=
 if (Ce 124 s).length<3 then ((0,[],[],[]),false)
 else if ((Ce 124 s).drop 3).all (fun x=>(peV x).2.2.2.2) then (((Fp (Ao s 0)).1,((Ce 124 s).drop 3).map (fun x=>((peV x).1,(peV x).2.1,(peV x).2.2.1,(peV x).2.2.2.1)),(nlV (Ao s 1)).1,(nlV (Ao s 2)).1),(Fp (Ao s 0)).2&&((nlV (Ao s 1)).2&&(nlV (Ao s 2)).2))
 else ((0,[],[],[]),false)
def psV (s:ByteArray):Grf:=(rdV (Ao s 0),((Ce 124 s).drop 3).map ceV,crV (Ao s 1),crV (Ao s 2))
def I2 (g:Grf) (s:ByteArray):Bool:=D8 g.1 g.2.1 g.2.2.1 g.2.2.2&&((ba (Df g.1 g.2.1 g.2.2.1 g.2.2.2)).toList==s.toList)
def Mf (s:ByteArray):Grf×Bool:=if (pgV s).2&&I2 (pgV s).1 s then ((pgV s).1,true) else ((0,[],[],[]),false)
def spG (s:ByteArray):Grf×Bool:=if inR ((Ce 124 s).length:Int) 3 63&&I2 (psV s) s then (psV s,true) else ((0,[],[],[]),false)
theorem Z5 {e:Edg} (h:edK e=true):(124:UInt8)∉Bm e:=by
 intro hm;unfold Bm at hm;simp only [List.mem_append,List.mem_singleton] at hm;rcases hm with ((((hm|hm)|hm)|hm)|hm)|hm
 ·exact Qi h (by decide) hm
 ·exact absurd hm (by decide)
 ·exact Ma (by decide) _ hm
 ·exact absurd hm (by decide)
 ·exact Ma (by decide) _ hm
 ·exact absurd hm (by decide)
theorem Rd:∀ (es:List Edg) (w:List UInt8),(∀ e∈es,edK e=true)->(124:UInt8)∉w->Dj 124 (w++es.flatMap fun e=>124 :: Bm e)=w :: es.map Bm
 | [],w,_,hw=>by rw [List.flatMap_nil,List.append_nil,Eo hw];rfl
 | e :: es,w,h,hw=>by
  rw [List.flatMap_cons,List.cons_append,D6 _ hw,Rd es (Bm e) (fun x hx=>h x (by simp [hx])) (Z5 (h e (by simp)))];rfl
theorem Ab8 {W:Int} {es:List Edg} {xs ys:List Int} (h:∀ e∈es,edK e=true):Dj 124 (Df W es xs ys)=dg W :: jn xs :: jn ys :: es.map Bm:=by
 have e1:Df W es xs ys=dg W++124 :: (jn xs++124 :: (jn ys++es.flatMap fun e=>124 :: Bm e)):=by unfold Df O8;simp [List.append_assoc]
 rw [e1,D6 _ (fun hm=>by have:=Kb _ _ hm;have:(124:UInt8).toNat=124:=rfl;omega),D6 _ (Ma (by decide) _),Rd es _ h (Ma (by decide) _)]
theorem Pl {W:Int} {es:List Edg} {xs ys:List Int} (h:∀ e∈es,edK e=true):Ce 124 (ba (Df W es xs ys))=ba (dg W) :: ba (jn xs) :: ba (jn ys) :: es.map fun e=>ba (Bm e):=by
 rw [Ya,Ab8 h];simp [Function.comp_def]
theorem Abs {g:Grf} (h:D8 g.1 g.2.1 g.2.2.1 g.2.2.2=true):pgV (ba (Df g.1 g.2.1 g.2.2.1 g.2.2.2))=(g,true):=by
 obtain ⟨W,es,xs,ys⟩:=g;have G:O4 W es xs ys:=F8 h;have hp:=Pl (W:=W) (xs:=xs) (ys:=ys) G.k;have hE:∀ e∈es,peV (ba (Bm e))=(e.1,e.2.1,e.2.2.1,e.2.2.2,true):=fun e he=>Ab9 (G.k e he) (G.re e he).1 (G.re e he).2
 have h0:Ao (ba (Df W es xs ys)) 0=ba (dg W):=by unfold Ao;rw [hp];rfl
 have h1:Ao (ba (Df W es xs ys)) 1=ba (jn xs):=by unfold Ao;rw [hp];rfl
 have h2:Ao (ba (Df W es xs ys)) 2=ba (jn ys):=by unfold Ao;rw [hp];rfl
 unfold pgV;dsimp only;rw [h0,h1,h2,hp,Tq G.w,To G.rx,To G.ry,if_neg (by simp),show (ba (dg W) :: ba (jn xs) :: ba (jn ys) :: es.map fun e=>ba (Bm e)).drop 3=es.map fun e=>ba (Bm e) from rfl];rw [if_pos (by rw [List.all_map,List.all_eq_true];exact fun e he=>by show (peV (ba (Bm e))).2.2.2.2=true;rw [hE e he]),List.map_map]
 have hm:es.map ((fun x=>((peV x).1,(peV x).2.1,(peV x).2.2.1,(peV x).2.2.2.1))∘fun e=>ba (Bm e))=es:=by
  refine (List.map_congr_left fun e he=>?_).trans (List.map_id es);show ((peV (ba (Bm e))).1,(peV (ba (Bm e))).2.1,(peV (ba (Bm e))).2.2.1,(peV (ba (Bm e))).2.2.2.1)=e;rw [hE e he]
 rw [hm];rfl
theorem Agq {n:Int} (h:0<=n/\n<=100):rdV (ba (dg n))=n:=by
 unfold rdV;by_cases h1:n<100
 ·rw [Q0 ⟨h.1,h1⟩]
 ·obtain rfl:n=100:=by omega
  rw [show Bo (ba (dg 100))=some 100 by decide +kernel]
theorem Ac0 {g:Grf} (h:D8 g.1 g.2.1 g.2.2.1 g.2.2.2=true):psV (ba (Df g.1 g.2.1 g.2.2.1 g.2.2.2))=g/\inR ((Ce 124 (ba (Df g.1 g.2.1 g.2.2.1 g.2.2.2))).length:Int) 3 63=true:=by
 obtain ⟨W,es,xs,ys⟩:=g;have G:O4 W es xs ys:=F8 h;have hp:=Pl (W:=W) (xs:=xs) (ys:=ys) G.k;have h0:Ao (ba (Df W es xs ys)) 0=ba (dg W):=by unfold Ao;rw [hp];rfl
 have h1:Ao (ba (Df W es xs ys)) 1=ba (jn xs):=by unfold Ao;rw [hp];rfl
 have h2:Ao (ba (Df W es xs ys)) 2=ba (jn ys):=by unfold Ao;rw [hp];rfl
 have n1:=G.nx;have n2:=G.ny;have n3:=G.n;have cr:∀ zs,Ey zs->zs.length<=100->crV (ba (jn zs))=zs:=fun zs hz hl=>by unfold crV;rw [Qd hz hl]
 constructor
 ·unfold psV;dsimp only;rw [h0,h1,h2,hp,Agq G.w,cr xs G.rx oM,cr ys G.ry oM,show (ba (dg W) :: ba (jn xs) :: ba (jn ys) :: es.map fun e=>ba (Bm e)).drop 3=es.map fun e=>ba (Bm e) from rfl,List.map_map];have hm:es.map (ceV∘fun e=>ba (Bm e))=es:=(List.map_congr_left fun e he=>Acm (G.k e he) (G.re e he).1 (G.re e he).2).trans (List.map_id es);rw [hm]
 ·dsimp only;rw [hp];simp only [List.length_cons,List.length_map];exact Bn.2 oM
theorem Lc {g:Grf} {s:ByteArray} (h:I2 g s=true):D8 g.1 g.2.1 g.2.2.1 g.2.2.2=true/\s=ba (Df g.1 g.2.1 g.2.2.1 g.2.2.2):=by
 unfold I2 at h;simp only [Bool.and_eq_true,beq_iff_eq] at h;refine ⟨h.1,?_⟩;have:=h.2;rw [Lib.toList_data,Lib.toList_data,D2] at this;rw [this,Gp]
theorem Zs (s:ByteArray):Mf s=spG s:=by
 unfold Mf spG;cases hi:((pgV s).2&&I2 (pgV s).1 s)
 ·cases hs:(inR ((Ce 124 s).length:Int) 3 63&&I2 (psV s) s)
  ·rfl
  ·exfalso;simp only [Bool.and_eq_true] at hs;obtain ⟨g1,g2⟩:=Lc hs.2;have e:=Abs g1;rw [← g2] at e;rw [e] at hi;dsimp only at hi;rw [hs.2] at hi;cases hi
 ·simp only [Bool.and_eq_true] at hi;obtain ⟨g1,g2⟩:=Lc hi.2;obtain ⟨e1,e2⟩:=Ac0 g1;rw [← g2] at e1 e2;rw [e1,e2,hi.2];rfl
theorem Nb {c:UInt8}:∀ (l:List UInt8) (n:Nat) (x:List UInt8),x∈(Dj c l).drop n->x.length+n<=l.length
 | l,0,x,h=>Gb l x h
 | [],n+1,x,h=>by simp [Dj] at h
 | b :: l,n+1,x,h=>by
  by_cases hb:b=c
  ·subst hb;rw [Gc,List.drop_succ_cons] at h;have:=Nb l n x h;rw [List.length_cons];omega
  ·obtain ⟨y,t,h1,h2⟩:=E7 hb l;rw [h2,List.drop_succ_cons] at h;have:=Nb l (n+1) x (by rw [h1,List.drop_succ_cons];exact h);rw [List.length_cons];omega
theorem Ms {s x:ByteArray} (h:x∈(Ce 124 s).drop 3):x.size+3<=s.size:=by
 unfold Ce at h;rw [← List.map_drop] at h;obtain ⟨l,hl,rfl⟩:=List.mem_map.1 h;have:=Nb _ 3 l hl;have e:s.data.toList.length=s.size:=Array.length_toList;have e2:(bya l).size=l.length:=rfl;omega
theorem E6 (s:ByteArray) (i:Nat):(Ao s i).size<=s.size:=by
 unfold Ao;rw [gDg];cases h:(Ce 124 s)[i]? with
 | none=>exact Nat.zero_le _
 | some x=>exact Rq (List.mem_of_getElem? h)
theorem Aai (s:ByteArray):(nlV s).1.length<=s.size+1:=by
 unfold nlV;split
 ·simp
 ·split
  ·simp only [List.length_map];exact L2 _ _
  ·simp
theorem Af0 {x:ByteArray} (h:x.size<=1073741823):(peV x).2.2.1.length<=x.size+1/\(peV x).2.2.2.1.length<=x.size+1:=by
 have hp:=Agl h;unfold B7 Bx Bd Ch at hp;have h1:=Fo 40 x;have h2:=Pz (Dc x (⟨#[40]⟩:ByteArray)).2.1 (⟨#[41]⟩:ByteArray);have h3:=Fo 62 (Kx (Dc x (⟨#[40]⟩:ByteArray)).2.1 (⟨#[41]⟩:ByteArray)).1;have h4:=Fo 58 (Dc x (⟨#[40]⟩:ByteArray)).1;rw [Aj oM,obs,Aj oM,obs,Aj oM,obs,Aj oM,obs,Aj oM,Aj oM] at hp;obtain ⟨k,hk⟩:=M1 (Dc (Dc x (⟨#[40]⟩:ByteArray)).1 (⟨#[58]⟩:ByteArray)).1;rw [hk,obs] at hp;obtain ⟨⟨b,z⟩,-,hp⟩:=Option.bind_eq_some_iff.1 hp;simp only [obs] at hp;obtain hp:=osj hp;rw [← hp];dsimp only;have n1:=Aai (Dc (Kx (Dc x (⟨#[40]⟩:ByteArray)).2.1 (⟨#[41]⟩:ByteArray)).1 (⟨#[62]⟩:ByteArray)).1;have n2:=Aai (Dc (Kx (Dc x (⟨#[40]⟩:ByteArray)).2.1 (⟨#[41]⟩:ByteArray)).1 (⟨#[62]⟩:ByteArray)).2.1;omega
theorem Afh {s:ByteArray} (h:s.size<=1048576):(pgV s).1.2.1.length<=1048576/\∀ e∈(pgV s).1.2.1,Q7 e:=by
 unfold pgV;split
 ·simp
 ·split
  ·dsimp only;have hl:=L2 124 s;refine ⟨by rw [List.length_map,List.length_drop];omega,fun e he=>?_⟩;obtain ⟨x,hx,rfl⟩:=List.mem_map.1 he;have hs:=Ms hx;have:=Af0 (x:=x) oM;exact ⟨by dsimp only;omega,by dsimp only;omega⟩
  ·simp
end
section
open Go.RowKit Go.Deep
theorem Gu {R:Nat->Prop} (xs:List Int) (A:Option Addr) (c:Nat) (l:List Addr) (k:Int) (lo:Nat) (w:World) (h:Sl R w .int A c xs l) (hf:Fresh w lo l) (hk:0<=k/\k+l.length<=9223372036854775807) :
  Calls Tryz.prog 22 #[.slice A xs.length c,.int .i64 k] w fun e w'=>e=.returned (.int .i64 (k+l.length))/\MarkedAs l k w w':=by
 have hn:=(My h).2;have hlen:=Nd rfl h;simp only [Ty.size,Nat.mul_one] at hlen
 go_enter Tryz.func22,Tryz.ntmps22
 go_wp2
 go_loopw [1,5] (fun m i wr=>∃ j:Nat,j<=xs.length/\i=.int .i64 j/\m=.int .i64 (k+j)/\MarkedAs (l.take j) k w wr) (fun _ i _=>xs.length - (intOf i).toNat)
 case atStart=>exact ⟨0,by omega,rfl,by simp,MarkedAs.nil w k⟩
 case round =>
  obtain ⟨j,hj,rfl,rfl,hm⟩:=hrel;by_cases hlt:j<xs.length
  ·obtain ⟨b,o,rfl,hl,hcell⟩:=Kn rfl h oM;have hc:=hcell j hlt 0 (by decide);simp only [Ty.size,Nat.mul_one,Nat.add_zero,Ty.enc,List.getElem?_cons_zero] at hc;have hp:l[j]'oM=⟨b,o+j,none⟩:=by simp [hl,Ty.size]
   have hc':=hm.cellOf hf (Nat.le_refl j) oM (by rw [hp];exact hc);have hz:=hm.thaw hf (p:=l[j]'oM) (List.getElem_mem _);rw [hp] at hc' hz;obtain ⟨x,hx⟩:∃ x,x=xs[j]:=⟨_,rfl⟩
   rw [← hx] at hc' hc;have hM:=Lib.hid (hm.step hf oM (u:=.int .i64 x) (by rw [hp];exact hc) trivial hp.symm (v:=.int .i64 (k+j)) rfl)
   clear hcell hx hm
   go_wp2
   go_roundw
   case rel=>exact ⟨j+1,by omega,by go_num,by congr 1;omega,hM.out⟩
   case measure=>simp [intOf];omega
  ·obtain rfl:j=xs.length:=by omega
   go_wp2
   go_ret
   rw [List.take_of_length_le oM] at hm;exact ⟨Kc (by rw [hlen]),hm⟩
theorem Gq {R:Nat->Prop} (xs:List Int) (A:Option Addr) (c:Nat) (l:List Addr) (k:Int) (w:World) (h:Sl R w .int A c xs l) (hh:HeldAs l k w) (hk:0<=k/\k+l.length<=9223372036854775807) :
  Calls Tryz.prog 24 #[.slice A xs.length c,.int .i64 k] w fun e w'=>e=.returned (.int .i64 (k+l.length))/\Below w.heap.size w w':=by
 have hn:=(My h).2;have hlen:=Nd rfl h;simp only [Ty.size,Nat.mul_one] at hlen
 go_enter Tryz.func24,Tryz.ntmps24
 go_wp2
 go_loopw [1,5] (fun m i wr=>∃ j:Nat,j<=xs.length/\i=.int .i64 j/\m=.int .i64 (k+j)/\Below w.heap.size w wr) (fun _ i _=>xs.length - (intOf i).toNat)
 case atStart=>exact ⟨0,by omega,rfl,by simp,by repeat (first|with_reducible exact Below.refl _ _|((with_reducible refine Below.setCell ?_ ?_ _);rotate_left;focus (first|(simp;done)|omega|(simp;omega)))|((with_reducible refine Below.alloc ?_ ?_ _);rotate_left;focus (first|(simp;done)|omega|(simp;omega)))|(with_reducible refine Below.drew ?_)|(with_reducible refine below_draws_ ?_ _))⟩
 case round =>
  obtain ⟨j,hj,rfl,rfl,hbl⟩:=hrel;by_cases hlt:j<xs.length
  ·obtain ⟨b,o,rfl,hl,hcell⟩:=Kn rfl h oM;have hc:=hcell j hlt 0 (by decide);simp only [Ty.size,Nat.mul_one,Nat.add_zero,Ty.enc,List.getElem?_cons_zero] at hc;have hp:l[j]'oM=⟨b,o+j,none⟩:=by simp [hl,Ty.size]
   obtain ⟨u,hu,hm⟩:=hh j oM;rw [hp,hc] at hm;have hx:xs[j]=k+j:=by cases u <;> simp [Nu] at hm;exact hm.2
   have hc1:=Ac hbl hc;rw [hx] at hc1
   clear hcell hc hm hx
   go_wp2
   go_roundw
   case rel=>exact ⟨j+1,by omega,by go_num,by congr 1;omega,hbl⟩
   case measure=>simp [intOf];omega
  ·obtain rfl:j=xs.length:=by omega
   go_wp2
   go_ret
   exact ⟨Kc (by rw [hlen]),hbl⟩
end
section
open Go.RowKit Go.Deep
section
variable {R:Nat->Prop} {w w1 w2:World} {k:Int} {lo:Nat} {F l r:List Addr} {p:Addr} {u:Value}
theorem MarkedAs.spot (h:MarkedAs F k w w1) (hf:Fresh w lo (F++p :: r)) (hu:w.cell? p=some u):w1.cell? p=some u/\w1.frozen? p=false:=by
 have e:(F++p :: r).take F.length=F:=by simp
 have h':MarkedAs ((F++p :: r).take F.length) k w w1:=by rw [e];exact h
 have hi:F.length<(F++p :: r).length:=by simp
 have hg:(F++p :: r)[F.length]'hi=p:=by simp
 have hc:=h'.cellOf hf (Nat.le_refl _) hi (by rw [hg];exact hu);rw [hg] at hc;exact ⟨hc,h'.thaw hf (by simp)⟩
theorem MarkedAs.spotM (h:MarkedAs F k w w1) (hf:Fresh w lo (F++r)) (hp:p∈r) (hu:w.cell? p=some u):w1.cell? p=some u/\w1.frozen? p=false :=
 have hlt:=(hf.2 p (List.mem_append_right _ hp)).2
 ⟨(h.frame.cell p hlt.1 fun hq=>(List.nodup_append.1 hf.1).2.2 _ hq _ hp rfl).trans hu,(h.frame.frozen p hlt.1).trans hlt.2⟩
theorem MarkedAs.put {v:Value} (h:MarkedAs F k w w1) (hf:Fresh w lo (F++p :: r)) (hu:w.cell? p=some u) (hl:Kl u) (hv:v=Nu u (k+F.length)):MarkedAs (F++[p]) k w (w1.setCell p v):=by
 have e:(F++p :: r).take F.length=F:=by simp
 have h':MarkedAs ((F++p :: r).take F.length) k w w1:=by rw [e];exact h
 have hi:F.length<(F++p :: r).length:=by simp
 have hg:(F++p :: r)[F.length]'hi=p:=by simp
 have:=h'.step hf hi (u:=u) (by rw [hg];exact hu) hl (p:=p) hg.symm hv
 rwa [List.take_succ_eq_append_getElem hi,e,hg] at this
theorem MarkedAs.rest (h:MarkedAs F k w w1) (hf:Fresh w lo (F++(l++r))):Fresh w1 lo l:=by
 rw [← List.append_assoc] at hf;exact hf.sub1.sub2.marked h.frame
theorem MarkedAs.sl_ {t:Ty} {A:Option Addr} {c:Nat} {xs:List t.D} (h:MarkedAs F k w w1) (hf:Fresh w lo (F++(l++r))) (hs:Sl R w t A c xs l):Sl R w1 t A c xs l :=
 h.keepSl hs fun p hp hq=>(List.nodup_append.1 hf.1).2.2 _ hq _ (List.mem_append_left _ hp) rfl
theorem MarkedAs.then_ (h:MarkedAs F k w w1) (hf:Fresh w lo (F++(l++r))) {k':Int} (hk:k'=k+F.length) (h2:MarkedAs l k' w1 w2):MarkedAs (F++l) k w w2:=by
 subst hk;rw [← List.append_assoc] at hf;exact h.append h2 hf.sub1
theorem Fresh.next (hf:Fresh w lo (F++(l++r))):Fresh w lo ((F++l)++r):=by rwa [List.append_assoc]
theorem Fresh.next1 (hf:Fresh w lo (F++(p :: r))):Fresh w lo ((F++[p])++r):=by simpa using hf
end
end
section
open Go.RowKit Go.Deep
theorem Mb (f:Nat->List Addr) {j n:Nat} (h:j<n):∃ r,(List.range n).flatMap f=(List.range j).flatMap f++(f j++r):=by
 obtain ⟨d,rfl⟩:∃ d,n=(j+1)+d:=⟨n - (j+1),by omega⟩
 exact ⟨((List.range d).map ((j+1)+·)).flatMap f,by rw [List.range_add,List.flatMap_append,C6,List.append_assoc]⟩
theorem MarkedAs.header_ {l:List Addr} {k:Int} {w w':World} (h:MarkedAs l k w w') {p:Addr} {A:Option Addr} {n c:Nat} (hc:w.cell? p=some (.slice A n c)):w'.cell? p=some (.slice A n c) :=
 (h.kinds p _ hc).1 fun hl=>hl
set_option maxRecDepth 100000 in
set_option maxHeartbeats 1000000 in
theorem Q8 {R:Nat->Prop} (xs:List (Int×Int×List Int×List Int)) (A:Option Addr) (c:Nat) (l:List Addr) (k:Int) (lo:Nat) (w:World) (h:Sl R w Bp A c xs l) (hf:Fresh w lo l) (hk:0<=k/\k+l.length<=9223372036854775807) :
  Calls Tryz.prog 21 #[.slice A xs.length c,.int .i64 k] w fun e w'=>e=.returned (.int .i64 (k+l.length))/\MarkedAs l k w w':=by
 have hn:=(My h).2;rcases Nat.eq_zero_or_pos xs.length with h0|h0
 ·obtain rfl:xs=[]:=List.length_eq_zero_iff.1 h0;obtain ⟨_,_,f,rfl,_⟩:=h
  go_enter Tryz.func21,Tryz.ntmps21
  go_wp2
  go_loopw [1,5] (fun m i wr=>i=.int .i64 0/\m=.int .i64 k/\wr=w) (fun _ i _=>0)
  case atStart=>exact ⟨rfl,rfl,rfl⟩
  case round =>
   obtain ⟨rfl,rfl,rfl⟩:=hrel
   go_wp2
   go_ret
   exact ⟨Kc (by simp),MarkedAs.nil _ k⟩
 obtain ⟨b,o,f,rfl,rfl,hs⟩:=Aal h h0
 go_enter Tryz.func21,Tryz.ntmps21
 go_wp2
 go_loopw [1,5] (fun m i wr=>∃ (j:Nat) (F:List Addr),Hid (F=(List.range j).flatMap f)/\j<=xs.length/\i=.int .i64 j/\m=.int .i64 (k+F.length)/\MarkedAs F k w wr) (fun _ i _=>xs.length - (intOf i).toNat)
 case atStart=>exact ⟨0,[],rfl,by omega,rfl,by simp,MarkedAs.nil w k⟩
 case round =>
  obtain ⟨j,F,hFe,hj,rfl,rfl,hm⟩:=hrel;by_cases hlt:j<xs.length
  ·obtain ⟨A2,c2,l2,A3,c3,l3,e0,e1,e2,e3,s2,s3,hfj⟩:=hs j hlt;obtain ⟨r,hr⟩:=Mb f hlt;rw [← hFe.out,hfj] at hr;have hk2:=hk;have g0:=hf;rw [hr] at g0 hk2;simp only [List.length_append,List.length_cons] at hk2;simp only [List.cons_append,List.append_assoc] at g0;obtain ⟨x,hx⟩:∃ x,x=xs[j]:=⟨_,rfl⟩
   rw [← hx] at e0 e1 e2 e3 s2 s3;have HG:=Lib.hid g0;obtain ⟨z0,y0⟩:=hm.spot HG.out e0;have m1:=hm.put HG.out e0 trivial (v:=.int .i64 (k+F.length)) rfl;have G1:=HG.out.next1;obtain ⟨z1',y1'⟩:=hm.spotM HG.out (by simp) e1;obtain ⟨z1,y1⟩:=m1.spot G1 e1;have m2:=m1.put G1 e1 trivial (v:=.int .i64 (k+F.length+1)) (by simp only [Nu,List.length_append,List.length_cons,List.length_nil];congr 1;omega);have G2:=G1.next1;have d2:=m2.header_ e2;have t2:=m2.sl_ G2 s2;have f2:=m2.rest G2;have HM2:=Lib.hid m2
   clear hs g0 hr hx hf hk h hm m1 m2
   go_wp2_with fail
   refine (Gu x.2.2.1 A2 c2 l2 (k+F.length+1+1) lo _ t2 f2 oM).mono ?_;rintro e w2 ⟨rfl,m3⟩;have m4:=HM2.out.then_ G2 (by simp only [List.length_append,List.length_cons,List.length_nil];omega) m3;have G3:=G2.next;have d3:=m4.header_ e3;have t3:=m4.sl_ G3 s3;have f3:=m4.rest G3;have HM4:=Lib.hid m4
   clear m3 m4 HM2
   go_wp2_with fail
   refine (Gu x.2.2.2 A3 c3 l3 (k+F.length+1+1+l2.length) lo _ t3 f3 oM).mono ?_;rintro e w3 ⟨rfl,m5⟩;have hM:=Lib.hid (HM4.out.then_ G3 (by simp only [List.length_append,List.length_cons,List.length_nil];omega) m5)
   clear m5 HM4
   go_wp2_with fail
   go_roundw
   case rel=>exact ⟨j+1,_,Lib.hid (by rw [C6,← hFe.out,hfj];simp),by omega,by go_num,by simp only [List.length_append,List.length_cons,List.length_nil];congr 1;omega,hM.out⟩
   case measure=>simp [intOf];omega
  ·obtain rfl:j=xs.length:=by omega
   go_wp2
   go_ret
   rw [← hFe.out];exact ⟨rfl,hm⟩
set_option maxRecDepth 100000 in
set_option maxHeartbeats 1000000 in
theorem Q9 {R:Nat->Prop} (xs:List (Int×Int×List Int×List Int)) (A:Option Addr) (c:Nat) (l:List Addr) (k:Int) (w:World) (h:Sl R w Bp A c xs l) (hh:HeldAs l k w) (hk:0<=k/\k+l.length<=9223372036854775807) :
  Calls Tryz.prog 23 #[.slice A xs.length c,.int .i64 k] w fun e w'=>e=.returned (.int .i64 (k+l.length))/\Below w.heap.size w w':=by
 have hn:=(My h).2;rcases Nat.eq_zero_or_pos xs.length with h0|h0
 ·obtain rfl:xs=[]:=List.length_eq_zero_iff.1 h0;obtain ⟨_,_,f,rfl,_⟩:=h
  go_enter Tryz.func23,Tryz.ntmps23
  go_wp2
  go_loopw [1,5] (fun m i wr=>i=.int .i64 0/\m=.int .i64 k/\wr=w) (fun _ i _=>0)
  case atStart=>exact ⟨rfl,rfl,rfl⟩
  case round =>
   obtain ⟨rfl,rfl,rfl⟩:=hrel
   go_wp2
   go_ret
   exact ⟨Kc (by simp),by repeat (first|with_reducible exact Below.refl _ _|((with_reducible refine Below.setCell ?_ ?_ _);rotate_left;focus (first|(simp;done)|omega|(simp;omega)))|((with_reducible refine Below.alloc ?_ ?_ _);rotate_left;focus (first|(simp;done)|omega|(simp;omega)))|(with_reducible refine Below.drew ?_)|(with_reducible refine below_draws_ ?_ _))⟩
 obtain ⟨b,o,f,rfl,rfl,hs⟩:=Aal h h0
 go_enter Tryz.func23,Tryz.ntmps23
 go_wp2
 go_loopw [1,5] (fun m i wr=>∃ (j:Nat) (F:List Addr),Hid (F=(List.range j).flatMap f)/\j<=xs.length/\i=.int .i64 j/\m=.int .i64 (k+F.length)/\Below w.heap.size w wr) (fun _ i _=>xs.length - (intOf i).toNat)
 case atStart=>exact ⟨0,[],rfl,by omega,rfl,by simp,by repeat (first|with_reducible exact Below.refl _ _|((with_reducible refine Below.setCell ?_ ?_ _);rotate_left;focus (first|(simp;done)|omega|(simp;omega)))|((with_reducible refine Below.alloc ?_ ?_ _);rotate_left;focus (first|(simp;done)|omega|(simp;omega)))|(with_reducible refine Below.drew ?_)|(with_reducible refine below_draws_ ?_ _))⟩
 case round =>
  obtain ⟨j,F,hFe,hj,rfl,rfl,hbl⟩:=hrel;by_cases hlt:j<xs.length
  ·obtain ⟨A2,c2,l2,A3,c3,l3,e0,e1,e2,e3,s2,s3,hfj⟩:=hs j hlt;obtain ⟨r,hr⟩:=Mb f hlt;rw [← hFe.out,hfj] at hr;have hk2:=hk;rw [hr] at hh hk2;simp only [List.length_append,List.length_cons] at hk2;have h1:=hh.right.left;obtain ⟨u0,_,q0⟩:=h1 0 (by simp);obtain ⟨u1,_,q1⟩:=h1 1 (by simp);simp only [List.getElem_cons_zero,List.getElem_cons_succ,e0,e1] at q0 q1;have v0:xs[j].1=k+F.length:=by cases u0 <;> simp [Nu] at q0;omega
   have v1:xs[j].2.1=k+F.length+1:=by cases u1 <;> simp [Nu] at q1;omega
   have h2:HeldAs (l2++l3) (k+F.length+1+1) w:=by
    have:=(show HeldAs ([⟨b,o+j*4,none⟩,⟨b,o+j*4+1,none⟩]++(l2++l3)) _ w from h1).right
    simpa [Int.add_assoc] using this
   obtain ⟨x,hx⟩:∃ x,x=xs[j]:=⟨_,rfl⟩
   rw [← hx] at e0 e1 e2 e3 s2 s3 v0 v1;rw [v0] at e0;rw [v1] at e1;have d0:=Ac hbl e0;have d1:=Ac hbl e1;have d2:=Ac hbl e2;have d3:=Ac hbl e3
   clear hr hx hh h1 q0 q1 v0 v1 e0 e1 e2 e3
   go_wp2_with fail
   refine (Gq x.2.2.1 A2 c2 l2 (k+F.length+1+1) _ (by exact Ad s2 hbl) (by exact h2.left.below hbl) oM).mono ?_;rintro e w2 ⟨rfl,hb1⟩;have d3':=Ac hb1 d3;have hb2:=hbl.trans (hb1.mono hbl.size)
   go_wp2_with fail
   refine (Gq x.2.2.2 A3 c3 l3 (k+F.length+1+1+l2.length) _ (by exact Ad s3 hb2) (by exact h2.right.below hb2) oM).mono ?_;rintro e w3 ⟨rfl,hb3⟩
   go_wp2_with fail
   go_roundw
   case rel=>exact ⟨j+1,F++f j,Lib.hid (by rw [C6,← hFe.out]),by omega,by go_num,by rw [hfj];simp only [List.length_append,List.length_cons];congr 1;omega,hb2.trans (hb3.mono hb2.size)⟩
   case measure=>simp [intOf];omega
  ·obtain rfl:j=xs.length:=by omega
   go_wp2
   go_ret
   rw [← hFe.out];exact ⟨rfl,hbl⟩
end
section
open Go.RowKit Go.Deep
set_option maxHeartbeats 1000000 in
theorem Q2 {R1:Nat->Prop} {R2:Nat->Prop} {R3:Nat->Prop} (x0:Int) (x1:List (Int×Int×(List Int)×(List Int))) (A1:Option Addr) (c1:Nat) (l1:List Addr) (x2:List (Int)) (A2:Option Addr) (c2:Nat) (l2:List Addr) (x3:List (Int)) (A3:Option Addr) (c3:Nat) (l3:List Addr) (k:Int) (lo:Nat) (w:World) (s1:Sl R1 w Bp A1 c1 x1 l1) (s2:Sl R2 w .int A2 c2 x2 l2) (s3:Sl R3 w .int A3 c3 x3 l3) (hf:Fresh w lo (l1++(l2++l3))) (hk:0<=k/\k+(l1++(l2++l3)).length<=9223372036854775807) :
  Calls Tryz.prog 7 #[.agg #[.int .i64 x0,.slice A1 x1.length c1,.slice A2 x2.length c2,.slice A3 x3.length c3],.int .i64 k] w fun e w'=>e=.returned (.int .i64 (k+(l1++(l2++l3)).length))/\MarkedAs (l1++(l2++l3)) k w w':=by
 have hL:(l1++(l2++l3)).length=l1.length+l2.length+l3.length:=by simp [Nat.add_assoc]
 have hb0:Below w.heap.size w (w.alloc (.cells #[.int .i64 x0,.slice A1 x1.length c1,.slice A2 x2.length c2,.slice A3 x3.length c3] 25)):=(by repeat (first|with_reducible exact Below.refl _ _|((with_reducible refine Below.setCell ?_ ?_ _);rotate_left;focus (first|(simp;done)|omega|(simp;omega)))|((with_reducible refine Below.alloc ?_ ?_ _);rotate_left;focus (first|(simp;done)|omega|(simp;omega)))|(with_reducible refine Below.drew ?_)|(with_reducible refine below_draws_ ?_ _)))
 have f0:=hf.below hb0;have hbx:w.heap.size<(w.alloc (.cells #[.int .i64 x0,.slice A1 x1.length c1,.slice A2 x2.length c2,.slice A3 x3.length c3] 25)).heap.size:=by simp
 have s1_0:=Ad s1 hb0;have s2_0:=Ad s2 hb0;have s3_0:=Ad s3 hb0;have b2_0:(w.alloc (.cells #[.int .i64 x0,.slice A1 x1.length c1,.slice A2 x2.length c2,.slice A3 x3.length c3] 25)).cell? ⟨w.heap.size,2,none⟩=some (.slice A2 x2.length c2):=by simp
 have b3_0:(w.alloc (.cells #[.int .i64 x0,.slice A1 x1.length c1,.slice A2 x2.length c2,.slice A3 x3.length c3] 25)).cell? ⟨w.heap.size,3,none⟩=some (.slice A3 x3.length c3):=by simp
 have g0:∀ p∈(l1++(l2++l3)),p.block<w.heap.size:=fun p hp=>(hf.2 p hp).2.1
 go_enter Tryz.func7,Tryz.ntmps7
 go_wp2_with fail
 refine (Q8 x1 A1 c1 l1 (k) lo _ s1_0 f0.sub1 oM).mono ?_;rintro e w1 ⟨rfl,m1⟩;have hz1:=m1.size;have s2_1:=m1.keepSl s2_0 (fun p hp hq=>(List.nodup_append.1 f0.1).2.2 _ hq _ (List.mem_append_left _ hp) rfl);have b2_1:w1.cell? ⟨w.heap.size,2,none⟩=some (.slice A2 x2.length c2):=(m1.frame.cell _ (show w.heap.size<_ by omega) (fun hp=>Nat.lt_irrefl w.heap.size (g0 _ (List.mem_append_left _ hp)))).trans b2_0;have s3_1:=m1.keepSl s3_0 (fun p hp hq=>(List.nodup_append.1 f0.1).2.2 _ hq _ (List.mem_append_right _ (hp)) rfl);have b3_1:w1.cell? ⟨w.heap.size,3,none⟩=some (.slice A3 x3.length c3):=(m1.frame.cell _ (show w.heap.size<_ by omega) (fun hp=>Nat.lt_irrefl w.heap.size (g0 _ (List.mem_append_left _ hp)))).trans b3_0;have f1:=f0.sub2.marked m1.frame
 go_wp2_with fail
 refine (Gu x2 A2 c2 l2 (k+l1.length) lo _ s2_1 f1.sub1 oM).mono ?_;rintro e w2 ⟨rfl,m2⟩;have hz2:=m2.size;have s3_2:=m2.keepSl s3_1 (fun p hp hq=>(List.nodup_append.1 f1.1).2.2 _ hq _ (hp) rfl);have b3_2:w2.cell? ⟨w.heap.size,3,none⟩=some (.slice A3 x3.length c3):=(m2.frame.cell _ (show w.heap.size<_ by omega) (fun hp=>Nat.lt_irrefl w.heap.size (g0 _ (List.mem_append_right _ (List.mem_append_left _ hp))))).trans b3_1;have f2:=f1.sub2.marked m2.frame
 go_wp2_with fail
 refine (Gu x3 A3 c3 l3 (k+l1.length+l2.length) lo _ s3_2 f2 oM).mono ?_;rintro e w3 ⟨rfl,m3⟩;have hz3:=m3.size
 go_wp2_with fail
 go_ret
 exact ⟨Kc (by rw [hL];omega),MarkedAs.after hb0 (m1.append (m2.append m3 f1) f0) g0⟩
set_option maxHeartbeats 1000000 in
theorem Kq {R1:Nat->Prop} {R2:Nat->Prop} {R3:Nat->Prop} (x0:Int) (x1:List (Int×Int×(List Int)×(List Int))) (A1:Option Addr) (c1:Nat) (l1:List Addr) (x2:List (Int)) (A2:Option Addr) (c2:Nat) (l2:List Addr) (x3:List (Int)) (A3:Option Addr) (c3:Nat) (l3:List Addr) (k:Int) (w:World) (s1:Sl R1 w Bp A1 c1 x1 l1) (s2:Sl R2 w .int A2 c2 x2 l2) (s3:Sl R3 w .int A3 c3 x3 l3) (hh:HeldAs (l1++(l2++l3)) k w) (hk:0<=k/\k+(l1++(l2++l3)).length<=9223372036854775807) :
  Calls Tryz.prog 8 #[.agg #[.int .i64 x0,.slice A1 x1.length c1,.slice A2 x2.length c2,.slice A3 x3.length c3],.int .i64 k] w fun e w'=>e=.returned (.int .i64 (k+(l1++(l2++l3)).length))/\Below w.heap.size w w':=by
 have hL:(l1++(l2++l3)).length=l1.length+l2.length+l3.length:=by simp [Nat.add_assoc]
 have h1:=hh.left;have hr0:=hh.right;have h2:=hr0.left;have hr1:=hr0.right;have h3:=hr1
 go_enter Tryz.func8,Tryz.ntmps8
 go_wp2_with fail
 (refine (Q9 x1 A1 c1 l1 (k) _ (by exact Ad s1 (by repeat (first|with_reducible exact Below.refl _ _|((with_reducible refine Below.setCell ?_ ?_ _);rotate_left;focus (first|(simp;done)|omega|(simp;omega)))|((with_reducible refine Below.alloc ?_ ?_ _);rotate_left;focus (first|(simp;done)|omega|(simp;omega)))|(with_reducible refine Below.drew ?_)|(with_reducible refine below_draws_ ?_ _)))) (by exact h1.below (by repeat (first|with_reducible exact Below.refl _ _|((with_reducible refine Below.setCell ?_ ?_ _);rotate_left;focus (first|(simp;done)|omega|(simp;omega)))|((with_reducible refine Below.alloc ?_ ?_ _);rotate_left;focus (first|(simp;done)|omega|(simp;omega)))|(with_reducible refine Below.drew ?_)|(with_reducible refine below_draws_ ?_ _)))) oM).mono ?_;rintro e w1 ⟨rfl,hb_w1⟩;obtain ⟨hc_w1,hf_w1⟩:=A6 hb_w1;have hz_w1:=hb_w1.size;(try simp at hz_w1);have hl_w1_0:w.heap.size<w1.heap.size:=oM);go_wp2_with fail
 (refine (Gq x2 A2 c2 l2 (k+l1.length) _ (by exact Ad s2 (by repeat (first|with_reducible exact Below.refl _ _|((with_reducible refine Below.setCell ?_ ?_ _);rotate_left;focus (first|(simp;done)|omega|(simp;omega)))|((with_reducible refine Below.alloc ?_ ?_ _);rotate_left;focus (first|(simp;done)|omega|(simp;omega)))|(with_reducible refine Below.drew ?_)|(with_reducible refine below_draws_ ?_ _)|((with_reducible refine Below.trans ?_ (Below.mono hb_w1 ?_));rotate_left;focus (first|(simp;done)|omega|(simp;omega)))))) (by exact h2.below (by repeat (first|with_reducible exact Below.refl _ _|((with_reducible refine Below.setCell ?_ ?_ _);rotate_left;focus (first|(simp;done)|omega|(simp;omega)))|((with_reducible refine Below.alloc ?_ ?_ _);rotate_left;focus (first|(simp;done)|omega|(simp;omega)))|(with_reducible refine Below.drew ?_)|(with_reducible refine below_draws_ ?_ _)|((with_reducible refine Below.trans ?_ (Below.mono hb_w1 ?_));rotate_left;focus (first|(simp;done)|omega|(simp;omega)))))) oM).mono ?_;rintro e w2 ⟨rfl,hb_w2⟩;obtain ⟨hc_w2,hf_w2⟩:=A6 hb_w2;have hz_w2:=hb_w2.size;(try simp at hz_w2);have hl_w2_0:w.heap.size<w2.heap.size:=oM);go_wp2_with fail
 (refine (Gq x3 A3 c3 l3 (k+l1.length+l2.length) _ (by exact Ad s3 (by repeat (first|with_reducible exact Below.refl _ _|((with_reducible refine Below.setCell ?_ ?_ _);rotate_left;focus (first|(simp;done)|omega|(simp;omega)))|((with_reducible refine Below.alloc ?_ ?_ _);rotate_left;focus (first|(simp;done)|omega|(simp;omega)))|(with_reducible refine Below.drew ?_)|(with_reducible refine below_draws_ ?_ _)|((with_reducible refine Below.trans ?_ (Below.mono hb_w1 ?_));rotate_left;focus (first|(simp;done)|omega|(simp;omega)))|((with_reducible refine Below.trans ?_ (Below.mono hb_w2 ?_));rotate_left;focus (first|(simp;done)|omega|(simp;omega)))))) (by exact h3.below (by repeat (first|with_reducible exact Below.refl _ _|((with_reducible refine Below.setCell ?_ ?_ _);rotate_left;focus (first|(simp;done)|omega|(simp;omega)))|((with_reducible refine Below.alloc ?_ ?_ _);rotate_left;focus (first|(simp;done)|omega|(simp;omega)))|(with_reducible refine Below.drew ?_)|(with_reducible refine below_draws_ ?_ _)|((with_reducible refine Below.trans ?_ (Below.mono hb_w1 ?_));rotate_left;focus (first|(simp;done)|omega|(simp;omega)))|((with_reducible refine Below.trans ?_ (Below.mono hb_w2 ?_));rotate_left;focus (first|(simp;done)|omega|(simp;omega)))))) oM).mono ?_;rintro e w3 ⟨rfl,hb_w3⟩;obtain ⟨hc_w3,hf_w3⟩:=A6 hb_w3;have hz_w3:=hb_w3.size;(try simp at hz_w3);have hl_w3_0:w.heap.size<w3.heap.size:=oM);go_wp2_with fail
 go_ret
 exact ⟨Kc (by rw [hL];omega),by repeat (first|with_reducible exact Below.refl _ _|((with_reducible refine Below.setCell ?_ ?_ _);rotate_left;focus (first|(simp;done)|omega|(simp;omega)))|((with_reducible refine Below.alloc ?_ ?_ _);rotate_left;focus (first|(simp;done)|omega|(simp;omega)))|(with_reducible refine Below.drew ?_)|(with_reducible refine below_draws_ ?_ _)|((with_reducible refine Below.trans ?_ (Below.mono hb_w1 ?_));rotate_left;focus (first|(simp;done)|omega|(simp;omega)))|((with_reducible refine Below.trans ?_ (Below.mono hb_w2 ?_));rotate_left;focus (first|(simp;done)|omega|(simp;omega)))|((with_reducible refine Below.trans ?_ (Below.mono hb_w3 ?_));rotate_left;focus (first|(simp;done)|omega|(simp;omega))))⟩
end
section
open Go.RowKit Go.Deep
section
variable {R1 R2 R3 T1 T2 T3:Nat->Prop} {w:World}
theorem M0 (W:Int) (es:List Edg) (A1:Option Addr) (c1:Nat) (l1:List Addr) (xs:List Int) (A2:Option Addr) (c2:Nat) (l2:List Addr) (ys:List Int) (A3:Option Addr) (c3:Nat) (l3:List Addr) (s1:Sl R1 w Bp A1 c1 es l1) (s2:Sl R2 w .int A2 c2 xs l2) (s3:Sl R3 w .int A3 c3 ys l3):AV.Rep (fun _=>none) (fun _=>True) w (.agg [.int .i64 W,.tree Bp es,.tree .int xs,.tree .int ys]) (.agg #[.int .i64 W,.slice A1 es.length c1,.slice A2 xs.length c2,.slice A3 ys.length c3]) :=
 ⟨_,rfl,⟨_,_,rfl,rfl,⟨_,_,rfl,⟨A1,c1,l1,rfl,Wp s1⟩,⟨_,_,rfl,⟨A2,c2,l2,rfl,Wp s2⟩,⟨_,_,rfl,⟨A3,c3,l3,rfl,Wp s3⟩,rfl⟩⟩⟩⟩⟩
theorem Ju (W:Int) (es:List Edg) (A1:Option Addr) (c1:Nat) (l1:List Addr) (xs:List Int) (A2:Option Addr) (c2:Nat) (l2:List Addr) (ys:List Int) (A3:Option Addr) (c3:Nat) (l3:List Addr) (w:World) (s1:Sl R1 w Bp A1 c1 es l1) (s2:Sl R2 w .int A2 c2 xs l2) (s3:Sl R3 w .int A3 c3 ys l3) (n1:es.length<=1048576) (he:∀ e∈es,Q7 e) {b:Bool} (hg:D8 W es xs ys=b) (tab:Tab w) :
  Calls Tryz.prog 17 #[.agg #[.int .i64 W,.slice A1 es.length c1,.slice A2 xs.length c2,.slice A3 ys.length c3]] w fun e w'=>e=.returned (.bool b)/\Below w.heap.size w w' :=
 Ht (vs:=[.agg #[.int .i64 W,.slice A1 es.length c1,.slice A2 xs.length c2,.slice A3 ys.length c3]]) (I6 (hg▸Zf W es xs ys n1 he)) (fun _ hb=>tab.below hb) ⟨_,_,rfl,M0 W es A1 c1 l1 xs A2 c2 l2 ys A3 c3 l3 s1 s2 s3,rfl⟩
theorem E8 (W:Int) (es:List Edg) (A1:Option Addr) (c1:Nat) (l1:List Addr) (xs:List Int) (A2:Option Addr) (c2:Nat) (l2:List Addr) (ys:List Int) (A3:Option Addr) (c3:Nat) (l3:List Addr) (w:World) (s1:Sl R1 w Bp A1 c1 es l1) (s2:Sl R2 w .int A2 c2 xs l2) (s3:Sl R3 w .int A3 c3 ys l3) {b:Bool} (hg:D8 W es xs ys=b) (tab:Tab w) :
  Calls Tryz.prog 14 #[.agg #[.int .i64 W,.slice A1 es.length c1,.slice A2 xs.length c2,.slice A3 ys.length c3]] w fun e w'=>e=.returned (.bool b)/\Below w.heap.size w w' :=
 Ht (vs:=[.agg #[.int .i64 W,.slice A1 es.length c1,.slice A2 xs.length c2,.slice A3 ys.length c3]]) (Ny (hg▸Z2 W es xs ys)) (fun _ hb=>tab.below hb) ⟨_,_,rfl,M0 W es A1 c1 l1 xs A2 c2 l2 ys A3 c3 l3 s1 s2 s3,rfl⟩
theorem Lk (W:Int) (es:List Edg) (A1:Option Addr) (c1:Nat) (l1:List Addr) (xs:List Int) (A2:Option Addr) (c2:Nat) (l2:List Addr) (ys:List Int) (A3:Option Addr) (c3:Nat) (l3:List Addr) (B1:Option Addr) (d1:Nat) (m1:List Addr) (B2:Option Addr) (d2:Nat) (m2:List Addr) (B3:Option Addr) (d3:Nat) (m3:List Addr) (w:World) (s1:Sl R1 w Bp A1 c1 es l1) (s2:Sl R2 w .int A2 c2 xs l2) (s3:Sl R3 w .int A3 c3 ys l3) (t1:Sl T1 w Bp B1 d1 es m1) (t2:Sl T2 w .int B2 d2 xs m2) (t3:Sl T3 w .int B3 d3 ys m3) (n1:es.length<=1048576) (n2:xs.length<=1048576) (n3:ys.length<=1048576) (hok:∀ x∈es,Q7 x) (tab:Tab w) :
  Calls Tryz.prog 6 #[.agg #[.int .i64 W,.slice A1 es.length c1,.slice A2 xs.length c2,.slice A3 ys.length c3],.agg #[.int .i64 W,.slice B1 es.length d1,.slice B2 xs.length d2,.slice B3 ys.length d3]] w fun e w'=>e=.returned (.bool true)/\Below w.heap.size w w' :=
 Ht (vs:=[.agg #[.int .i64 W,.slice A1 es.length c1,.slice A2 xs.length c2,.slice A3 ys.length c3],.agg #[.int .i64 W,.slice B1 es.length d1,.slice B2 xs.length d2,.slice B3 ys.length d3]]) (Nx (Zn W es xs ys n1 hok n2 n3)) (fun _ hb=>tab.below hb) ⟨_,_,rfl,M0 W es A1 c1 l1 xs A2 c2 l2 ys A3 c3 l3 s1 s2 s3,⟨_,_,rfl,M0 W es B1 d1 m1 xs B2 d2 m2 ys B3 d3 m3 t1 t2 t3,rfl⟩⟩
theorem Qa {P:Program} {G:World->Prop} {g:FuncId} {args:List AV} {b:ByteArray} {vs:List Value} {w:World} (h:Bs P G g args ⟨false,[(false,[.sc (.str b)])]⟩) (hG:∀ w',Below w.heap.size w w'->G w') (hr:AV.RepL (fun _=>none) (fun _=>True) w args vs):Calls P g vs.toArray w fun e w'=>e=.returned (.string b)/\Below w.heap.size w w':=by
 refine (h w (fun _=>True) vs hG hr).mono ?_;rintro e w' ⟨u,rfl,hb,us,ls,h1,_,rfl⟩;obtain ⟨u1,us1,rfl,h2,_,rfl,rfl⟩:=h1;obtain rfl:u1=.string b:=h2;exact ⟨rfl,hb⟩
theorem Vx (W:Int) (es:List Edg) (A1:Option Addr) (c1:Nat) (l1:List Addr) (xs:List Int) (A2:Option Addr) (c2:Nat) (l2:List Addr) (ys:List Int) (A3:Option Addr) (c3:Nat) (l3:List Addr) (w:World) (s1:Sl R1 w Bp A1 c1 es l1) (s2:Sl R2 w .int A2 c2 xs l2) (s3:Sl R3 w .int A3 c3 ys l3) (hg:D8 W es xs ys=true) (tab:Tab w) :
  Calls Tryz.prog 18 #[.agg #[.int .i64 W,.slice A1 es.length c1,.slice A2 xs.length c2,.slice A3 ys.length c3]] w fun e w'=>e=.returned (.string (ba (Df W es xs ys)))/\Below w.heap.size w w' :=
 Qa (vs:=[.agg #[.int .i64 W,.slice A1 es.length c1,.slice A2 xs.length c2,.slice A3 ys.length c3]]) (Kv (Uf (F8 hg))) (fun _ hb=>tab.below hb) ⟨_,_,rfl,M0 W es A1 c1 l1 xs A2 c2 l2 ys A3 c3 l3 s1 s2 s3,rfl⟩
theorem Iy (W:Int) (es:List Edg) (A1:Option Addr) (c1:Nat) (l1:List Addr) (xs:List Int) (A2:Option Addr) (c2:Nat) (l2:List Addr) (ys:List Int) (A3:Option Addr) (c3:Nat) (l3:List Addr) (w:World) (s1:Sl R1 w Bp A1 c1 es l1) (s2:Sl R2 w .int A2 c2 xs l2) (s3:Sl R3 w .int A3 c3 ys l3) (hg:D8 W es xs ys=true) (tab:Tab w) :
  Calls Tryz.prog 15 #[.agg #[.int .i64 W,.slice A1 es.length c1,.slice A2 xs.length c2,.slice A3 ys.length c3]] w fun e w'=>e=.returned (.string (ba (Df W es xs ys)))/\Below w.heap.size w w' :=
 Qa (vs:=[.agg #[.int .i64 W,.slice A1 es.length c1,.slice A2 xs.length c2,.slice A3 ys.length c3]]) (Pt (Aaa (F8 hg))) (fun _ hb=>tab.below hb) ⟨_,_,rfl,M0 W es A1 c1 l1 xs A2 c2 l2 ys A3 c3 l3 s1 s2 s3,rfl⟩
end
theorem Afe (x:ByteArray) (w:World) (tab:Tab w):Calls Tryz.prog 11 #[.string x] w fun e w'=>e=.returned (.int .i64 (rdV x))/\Below w.heap.size w w' :=
 Pi (vs:=[.string x]) (G6 (Agy x)) (fun _ hb=>tab.below hb) ⟨_,_,rfl,rfl,rfl⟩
theorem Rx (n lo hi:Int) (w:World) (tab:Tab w):Calls Tryz.prog 10 #[.int .i64 n,.int .i64 lo,.int .i64 hi] w fun e w'=>e=.returned (.bool (inR n lo hi))/\Below w.heap.size w w' :=
 Ht (vs:=[.int .i64 n,.int .i64 lo,.int .i64 hi]) (C0 (Il n lo hi)) (fun _ hb=>tab.below hb) ⟨_,_,rfl,rfl,⟨_,_,rfl,rfl,⟨_,_,rfl,rfl,rfl⟩⟩⟩
theorem Sn (s:ByteArray) (w:World) (hs:s.size<=1048576) (tab:Tab w):Calls Tryz.prog 32 #[.string s,.string ⟨#[124]⟩] w fun e w'=>∃ B d m,e=.returned (.slice B (Ce 124 s).length d)/\Sl (Bu w.heap.size) w' .str B d (Ce 124 s) m/\Below w.heap.size w w':=by
 have hL:Dr s (⟨#[124]⟩:ByteArray)=some (Ce 124 s):=by
  have:=Adn s.data.toList 124 (by have e:s.data.toList.length=s.size:=Array.length_toList;omega);rw [Gp] at this;exact this
 refine (Mp hL w (fun _=>True) [.string s,.string ⟨#[124]⟩] (fun _ hb=>tab.below hb) ⟨_,_,rfl,rfl,⟨_,_,rfl,rfl,rfl⟩⟩).mono ?_;rintro e w' ⟨u,rfl,hb,us,ls,ho,_,rfl⟩;obtain ⟨v1,_,rfl,⟨B,d,m,rfl,t⟩,_,rfl,rfl⟩:=ho;exact ⟨B,d,m,rfl,t,hb⟩
theorem Ng (s:ByteArray) (w:World) (hs:s.size<=1048576) (tab:Tab w):Calls Tryz.prog 9 #[.string s,.int .u8 124] w fun e w'=>∃ B d m,e=.returned (.slice B (Ce 124 s).length d)/\Sl (Bu w.heap.size) w' .str B d (Ce 124 s) m/\Below w.heap.size w w':=by
 have hL:Cf s 124=some (Ce 124 s):=by
  have:=Ei s.data.toList 124 (by have e:s.data.toList.length=s.size:=Array.length_toList;omega);rw [Gp] at this;exact this
 refine (Dt hL w (fun _=>True) [.string s,.int .u8 124] (fun _ hb=>tab.below hb) ⟨_,_,rfl,rfl,⟨_,_,rfl,rfl,rfl⟩⟩).mono ?_;rintro e w' ⟨u,rfl,hb,hv⟩;obtain ⟨us,ls,ho,hf,rfl⟩:=RV.out_of hv rfl;obtain ⟨B,d,m,_,_,rfl,rfl,t,rfl,rfl⟩:=ho;exact ⟨B,d,m,rfl,t,hb⟩
theorem On (x:ByteArray) (w:World) (hx:x.size<=1048577) (tab:Tab w):Calls Tryz.prog 12 #[.string x] w fun e w'=>∃ B d m,e=.returned (.slice B (crV x).length d)/\Sl (Bu w.heap.size) w' .int B d (crV x) m/\Below w.heap.size w w':=by
 refine (Hh (Agu hx) w (fun _=>True) [.string x] (fun _ hb=>tab.below hb) ⟨_,_,rfl,rfl,rfl⟩).mono ?_;rintro e w' ⟨u,rfl,hb,us,ls,ho,_,rfl⟩;obtain ⟨v1,_,rfl,⟨B,d,m,rfl,t⟩,_,rfl,rfl⟩:=ho;exact ⟨B,d,m,rfl,t,hb⟩
theorem Aaz (x:ByteArray) (w:World) (hx:x.size<=1048576) (tab:Tab w):Calls Tryz.prog 13 #[.string x] w fun e w'=>∃ B2 d2 m2 B3 d3 m3,e=.returned (.agg #[.int .i64 (ceV x).1,.int .i64 (ceV x).2.1,.slice B2 (ceV x).2.2.1.length d2,.slice B3 (ceV x).2.2.2.length d3])/\Sl (Bu w.heap.size) w' .int B2 d2 (ceV x).2.2.1 m2/\Sl (Bu w.heap.size) w' .int B3 d3 (ceV x).2.2.2 m3/\Below w.heap.size w w':=by
 refine (Qj (Ag0 hx) w (fun _=>True) [.string x] (fun _ hb=>tab.below hb) ⟨_,_,rfl,rfl,rfl⟩).mono ?_;rintro e w' ⟨u,rfl,hb,us,ls,ho,_,rfl⟩;obtain ⟨v1,_,rfl,q1,_,v2,_,rfl,q2,_,v3,_,rfl,⟨B2,d2,m2,rfl,t2⟩,_,v4,_,rfl,⟨B3,d3,m3,rfl,t3⟩,_,rfl,rfl⟩:=ho;obtain rfl:v1=.int .i64 (ceV x).1:=q1;obtain rfl:v2=.int .i64 (ceV x).2.1:=q2;exact ⟨B2,d2,m2,B3,d3,m3,rfl,t2,t3,hb⟩
theorem Aa0 (x:ByteArray) (w:World) (hx:x.size<=1073741823) (tab:Tab w):Calls Tryz.prog 35 #[.string x] w fun e w'=>∃ B2 d2 m2 B3 d3 m3,e=.returned (.tuple #[.agg #[.int .i64 (peV x).1,.int .i64 (peV x).2.1,.slice B2 (peV x).2.2.1.length d2,.slice B3 (peV x).2.2.2.1.length d3],.bool (peV x).2.2.2.2])/\Sl (Bu w.heap.size) w' .int B2 d2 (peV x).2.2.1 m2/\Sl (Bu w.heap.size) w' .int B3 d3 (peV x).2.2.2.1 m3/\Fresh w' w.heap.size (m2++m3)/\Below w.heap.size w w':=by
 have hp:=Agl hx;unfold B7 Bx Bd Ch at hp;have q1:=Fo 40 x;rcases h1:Dc x (⟨#[40]⟩:ByteArray) with ⟨a,b,b1⟩
 rw [h1] at hp q1;dsimp only at q1;have q2:=Pz b (⟨#[41]⟩:ByteArray);rcases h2:Kx b (⟨#[41]⟩:ByteArray) with ⟨r,b2⟩
 rw [Aj oM,obs,Aj (by dsimp only;omega),obs] at hp;dsimp only at hp;rw [h2] at hp q2;dsimp only at hp q2;have q3:=Fo 62 r;rcases h3:Dc r (⟨#[62]⟩:ByteArray) with ⟨i,o,b3⟩
 rw [h3] at hp q3;dsimp only at hp q3;have q4:=Fo 58 a;rcases h4:Dc a (⟨#[58]⟩:ByteArray) with ⟨nm,vl,b4⟩
 rw [h4] at hp q4;dsimp only at hp q4;obtain ⟨k,h5⟩:=M1 nm;rcases hv:Fp vl with ⟨v,k4⟩
 rcases hi:nlV i with ⟨xs,k5⟩
 rcases ho:nlV o with ⟨ys,k6⟩
 rw [Aj oM,obs,Aj oM,obs] at hp;dsimp only at hp;rw [h5,obs,Yo oM,Aj oM,Aj oM,hv,hi,ho] at hp;cases b4
 ·have e:peV x=(k,0,xs,ys,b1&&(b2&&(b3&&(k5&&k6)))):=(osj hp).symm;rw [e];exact Wc x a b r i o nm vl b1 b2 b3 k5 k6 k xs ys h1 h2 h3 h4 h5 hi ho hx oM oM oM oM oM w tab
 ·have e:peV x=(k,v,xs,ys,b1&&(b2&&(b3&&(k4&&(k5&&k6))))):=(osj hp).symm;rw [e];exact Va x a b r i o nm vl b1 b2 b3 k4 k5 k6 k v xs ys h1 h2 h3 h4 h5 hv hi ho hx oM oM oM oM oM oM w tab
theorem Abz {R:Nat->Prop} {w:World} {A:Option Addr} {c:Nat} {xs:List ByteArray} {l:List Addr} (h:Sl R w .str A c xs l) (h0:0<xs.length):∃ (b o:Nat),A=some ⟨b,o,none⟩/\R b/\∀ (k:Nat) (hk:k<xs.length),w.cell? ⟨b,o+k,none⟩=some (.string xs[k]):=by
 obtain ⟨b,o,f,rfl,hr,_,e,hf⟩:=Ab6 h h0;refine ⟨b,o,rfl,hr,fun k hk=>?_⟩;have:=(hf k hk).1
 simpa [A4,Ty.size] using this
end
section
open Go.RowKit Go.Deep
def ParR (X lo:Nat) (cnt:Int) (v:Value) (es:List Edg) (B2:Option Addr) (d2:Nat) (xs:List Int) (m2:List Addr) (B3:Option Addr) (d3:Nat) (ys:List Int) (m3:List Addr) (wr:World):Prop :=
 (wr.cell? ⟨X,0,none⟩=some (.int .i64 cnt)/\wr.cell? ⟨X,1,none⟩=some v/\wr.cell? ⟨X,2,none⟩=some (.slice B2 xs.length d2)/\wr.cell? ⟨X,3,none⟩=some (.slice B3 ys.length d3))/\(∀ i,wr.frozen? ⟨X,i,none⟩=false)/\GrowV lo wr 37 Bp v es /\
 Sl (fun b=>X<b/\b<lo) wr .int B2 d2 xs m2/\Sl (fun b=>X<b/\b<lo) wr .int B3 d3 ys m3/\Fresh wr X (m2++m3)/\lo<=wr.heap.size
theorem ParR.step {X lo:Nat} {cnt:Int} {v v':Value} {es es':List Edg} {B2 B3:Option Addr} {d2 d3:Nat} {xs ys:List Int} {m2 m3:List Addr} {wr w5 w6:World} (h:ParR X lo cnt v es B2 d2 xs m2 B3 d3 ys m3 wr) (hX:X<lo) (hb:Below wr.heap.size wr w5) (hg:w5.grownBy w6 v.ownBlock) (hV:GrowV lo w6 37 Bp v' es') :
  ParR X lo cnt v' es' B2 d2 xs m2 B3 d3 ys m3 (w6.setCell ⟨X,1,none⟩ v'):=by
 obtain ⟨⟨c0,c1,c2,c3⟩,zf,hG,u2,u3,f,hlo⟩:=h;have hlt:=hG.lt
 have hk:∀ b,b<lo->w6.heap[b]? =wr.heap[b]?:=fun b hb2=>by
  have h1:=hg.block b (by have:=hb.size;omega) (fun e=>by have:=(hlt b e.symm).1;omega);exact h1.trans (hb.block b oM)
 have hc:∀ (p:Addr) (u:Value),p.block<lo->wr.cell? p=some u->w6.cell? p=some u:=fun p u hp h=>(World.cell?_of_block (hk _ hp)).trans h
 have hfz:∀ (p:Addr),p.block<lo->w6.frozen? p=wr.frozen? p:=fun p hp=>World.frozen?_of_block (hk _ hp)
 have hs6:wr.heap.size<=w6.heap.size:=Nat.le_trans hb.size hg.size
 have keepS:∀ {t:Ty} {A:Option Addr} {c:Nat} {zs:List t.D} {l:List Addr},Sl (fun b=>X<b/\b<lo) wr t A c zs l->Sl (fun b=>X<b/\b<lo) (w6.setCell ⟨X,1,none⟩ v') t A c zs l:=fun h =>
  Ah (Lx h fun p q hr hq _=>hc p q hr.2 hq) (fun b h=>by have:=h.1;omega) _ _
 refine ⟨⟨As (by decide) (hc _ _ hX c0),World.cell?_setCell_same _ _ _ (hc _ _ hX c1),As (by decide) (hc _ _ hX c2),As (by decide) (hc _ _ hX c3)⟩,fun i=>?_,Acb hV hX _ _,keepS u2,keepS u3,?_,by simpa [World.setCell] using Nat.le_trans hlo hs6⟩
 ·rw [World.frozen?_setCell,hfz _ hX];exact zf i
 ·refine ⟨f.1,fun p hp=>?_⟩;obtain ⟨q1,q2,q3⟩:=f.2 p hp
  have hpl:p.block<lo:=by
   rcases List.mem_append.1 hp with h|h
   ·exact (Ip u2 p h).1.2
   ·exact (Ip u3 p h).1.2
  exact ⟨q1,by simpa [World.setCell] using Nat.lt_of_lt_of_le q2 hs6,by rw [World.frozen?_setCell,hfz _ hpl];exact q3⟩
theorem Aeo {w:World} {T:TypeId} {v0 v1 v2 v3:Value} {B:Nat} (h:w.heap.size=B):∀ j u,[v0,v1,v2,v3][j]? =some u->(w.alloc (.cells #[v0,v1,v2,v3] T)).cell? ((⟨B,0,none⟩:Addr).add j)=some u:=by subst h;exact Sp
def edV (x:ByteArray):Edg:=((peV x).1,(peV x).2.1,(peV x).2.2.1,(peV x).2.2.2.1)
set_option maxRecDepth 100000 in
set_option maxHeartbeats 4000000 in
theorem Ud (s:ByteArray) (w:World) (hs:s.size<=1048576) (hn:(Ce 124 s).length<3) (tab:Tab w) :
  Calls Tryz.prog 16 #[.string s] w fun e w'=>e=.returned (.tuple #[.agg #[.int .i64 0,.slice none 0 0,.slice none 0 0,.slice none 0 0],.bool false])/\Below w.heap.size w w':=by
 go_enter Tryz.func16,Tryz.ntmps16
 go_wp2_with fail
 (refine (Sn s _ hs (tab.below (by repeat (first|with_reducible exact Below.refl _ _|((with_reducible refine Below.setCell ?_ ?_ _);rotate_left;focus (first|(simp;done)|omega|(simp;omega)))|((with_reducible refine Below.alloc ?_ ?_ _);rotate_left;focus (first|(simp;done)|omega|(simp;omega)))|(with_reducible refine Below.drew ?_)|(with_reducible refine below_draws_ ?_ _))))).mono ?_;rintro e w1 ⟨B,d,m,rfl,t1,hb_w1⟩;obtain ⟨hc_w1,hf_w1⟩:=A6 hb_w1;have hz_w1:=hb_w1.size;(try simp at hz_w1);have hl_w1_0:w.heap.size<w1.heap.size:=oM);go_wp2_with fail
 refine bodyPost_ret (v:=.tuple #[.agg #[.int .i64 0,.slice none 0 0,.slice none 0 0,.slice none 0 0],.bool false]) (by simp [results,Tryz.results16,go_sem, *]) rfl ⟨rfl,by repeat (first|with_reducible exact Below.refl _ _|((with_reducible refine Below.setCell ?_ ?_ _);rotate_left;focus (first|(simp;done)|omega|(simp;omega)))|((with_reducible refine Below.alloc ?_ ?_ _);rotate_left;focus (first|(simp;done)|omega|(simp;omega)))|(with_reducible refine Below.drew ?_)|(with_reducible refine below_draws_ ?_ _)|((with_reducible refine Below.trans ?_ (Below.mono hb_w1 ?_));rotate_left;focus (first|(simp;done)|omega|(simp;omega))))⟩
set_option maxRecDepth 100000 in
set_option maxHeartbeats 4000000 in
theorem Xh (s:ByteArray) (w:World) (hs:s.size<=1048576) (hn:3<=(Ce 124 s).length) (tab:Tab w) :
  Calls Tryz.prog 16 #[.string s] w fun e w'=>∃ B1 d1 m1 B2 d2 m2 B3 d3 m3,e=.returned (.tuple #[.agg #[.int .i64 (pgV s).1.1,.slice B1 (pgV s).1.2.1.length d1,.slice B2 (pgV s).1.2.2.1.length d2,.slice B3 (pgV s).1.2.2.2.length d3],.bool (pgV s).2])/\Sl (Bu w.heap.size) w' Bp B1 d1 (pgV s).1.2.1 m1/\Sl (Bu w.heap.size) w' .int B2 d2 (pgV s).1.2.2.1 m2/\Sl (Bu w.heap.size) w' .int B3 d3 (pgV s).1.2.2.2 m3/\Fresh w' w.heap.size (m1++(m2++m3))/\Below w.heap.size w w':=by
 obtain ⟨rest,hrest⟩:∃ rest,rest=(Ce 124 s).drop 3:=⟨_,rfl⟩
 have hrl:(Ce 124 s).length=rest.length+3:=by rw [hrest,List.length_drop];omega
 have hsz:∀ i,(Ao s i).size<=s.size:=E6 s;have hrs:∀ x∈rest,x.size<=1048576:=fun x hx=>by rw [hrest] at hx;have:=Ms hx;omega
 have hlen:=L2 124 s;have hrl2:rest.length<=1048576:=by omega
 rcases h1:Fp (Ao s 0) with ⟨W,k0⟩
 rcases h2:nlV (Ao s 1) with ⟨xs,k1⟩
 rcases h3:nlV (Ao s 2) with ⟨ys,k2⟩
 go_enter Tryz.func16,Tryz.ntmps16
 go_wp2_with fail
 refine (Sn s _ hs (tab.below (by repeat (first|with_reducible exact Below.refl _ _|((with_reducible refine Below.setCell ?_ ?_ _);rotate_left;focus (first|(simp;done)|omega|(simp;omega)))|((with_reducible refine Below.alloc ?_ ?_ _);rotate_left;focus (first|(simp;done)|omega|(simp;omega)))|(with_reducible refine Below.drew ?_)|(with_reducible refine below_draws_ ?_ _))))).mono ?_;rintro e w1 ⟨B,d,m,rfl,t1,hb_w1⟩;obtain ⟨b,o,rfl,hRb,hcs⟩:=Abz t1 oM;obtain ⟨hc_w1,hf_w1⟩:=A6 hb_w1;have hz_w1:=hb_w1.size;rw [World.size_alloc] at hz_w1;have hbl:b<w1.heap.size:=World.block_lt_of_cell? _ _ (hcs 0 oM);have p0:w1.cell? ⟨b,o,none⟩=some (.string (Ao s 0)):=by have:=hcs 0 oM;rw [Nat.add_zero] at this;rw [this];congr 2;unfold Ao;rw [gDg,gEg];rfl
 have p1:w1.cell? ⟨b,o+1,none⟩=some (.string (Ao s 1)):=by have:=hcs 1 oM;rw [this];congr 2;unfold Ao;rw [gDg,gEg];rfl
 have p2:w1.cell? ⟨b,o+2,none⟩=some (.string (Ao s 2)):=by have:=hcs 2 oM;rw [this];congr 2;unfold Ao;rw [gDg,gEg];rfl
 have pk:∀ (k:Nat) (hk:k<rest.length),w1.cell? ⟨b,o+3+k,none⟩=some (.string rest[k]):=fun k hk=>by
  have:=hcs (3+k) oM;rw [← Nat.add_assoc] at this;rw [this];congr 2;subst hrest;rw [List.getElem_drop]
 have hdl:=(My t1).1;rw [hrl] at hdl;rw [hrl];have hR:=Lib.hid hrest;have hRL:=Lib.hid hrl;have hS:=Lib.hid hrs;have hs':=Lib.hid hs
 clear hcs t1 hrest hrl hrs hn hlen hs hsz
 go_wp2_with fail
 (refine (Aa5 (Ao s 0) h1 _ (by have:=E6 s 0;have:=hs'.out;omega) (tab.below (by repeat (first|with_reducible exact Below.refl _ _|((with_reducible refine Below.setCell ?_ ?_ _);rotate_left;focus (first|(simp;done)|omega|(simp;omega)))|((with_reducible refine Below.alloc ?_ ?_ _);rotate_left;focus (first|(simp;done)|omega|(simp;omega)))|(with_reducible refine Below.drew ?_)|(with_reducible refine below_draws_ ?_ _)|((with_reducible refine Below.trans ?_ (Below.mono hb_w1 ?_));rotate_left;focus (first|(simp;done)|omega|(simp;omega))))))).mono ?_;rintro e w2 ⟨rfl,hb_w2⟩;obtain ⟨hc_w2,hf_w2⟩:=A6 hb_w2;have hz_w2:=hb_w2.size;(try simp at hz_w2);have hl_w2_0:w.heap.size<w2.heap.size:=oM;have hl_w2_1:b<w2.heap.size:=oM;have hl_w2_2:w1.heap.size<w2.heap.size:=oM);go_wp2_with fail
 (refine (R5 (Ao s 1) h2 _ (by have:=E6 s 1;have:=hs'.out;omega) (tab.below (by repeat (first|with_reducible exact Below.refl _ _|((with_reducible refine Below.setCell ?_ ?_ _);rotate_left;focus (first|(simp;done)|omega|(simp;omega)))|((with_reducible refine Below.alloc ?_ ?_ _);rotate_left;focus (first|(simp;done)|omega|(simp;omega)))|(with_reducible refine Below.drew ?_)|(with_reducible refine below_draws_ ?_ _)|((with_reducible refine Below.trans ?_ (Below.mono hb_w1 ?_));rotate_left;focus (first|(simp;done)|omega|(simp;omega)))|((with_reducible refine Below.trans ?_ (Below.mono hb_w2 ?_));rotate_left;focus (first|(simp;done)|omega|(simp;omega))))))).mono ?_;rintro e w3 ⟨B2,d2,m2,rfl,t2,f2,hb_w3⟩;obtain ⟨hc_w3,hf_w3⟩:=A6 hb_w3;have hz_w3:=hb_w3.size;(try simp at hz_w3);have hl_w3_0:w.heap.size<w3.heap.size:=oM;have hl_w3_1:b<w3.heap.size:=oM;have hl_w3_2:w1.heap.size<w3.heap.size:=oM);go_wp2_with fail
 refine (R5 (Ao s 2) h3 _ (by have:=E6 s 2;have:=hs'.out;omega) (tab.below (by repeat (first|with_reducible exact Below.refl _ _|((with_reducible refine Below.setCell ?_ ?_ _);rotate_left;focus (first|(simp;done)|omega|(simp;omega)))|((with_reducible refine Below.alloc ?_ ?_ _);rotate_left;focus (first|(simp;done)|omega|(simp;omega)))|(with_reducible refine Below.drew ?_)|(with_reducible refine below_draws_ ?_ _)|((with_reducible refine Below.trans ?_ (Below.mono hb_w1 ?_));rotate_left;focus (first|(simp;done)|omega|(simp;omega)))|((with_reducible refine Below.trans ?_ (Below.mono hb_w2 ?_));rotate_left;focus (first|(simp;done)|omega|(simp;omega)))|((with_reducible refine Below.trans ?_ (Below.mono hb_w3 ?_));rotate_left;focus (first|(simp;done)|omega|(simp;omega))))))).mono ?_;rintro e w4 ⟨B3,d3,m3,rfl,t3,f3,hb_w4⟩;obtain ⟨hc_w4,hf_w4⟩:=A6 hb_w4;have hz_w4:w3.heap.size<=w4.heap.size:=(by have h_:=hb_w4.size;(try simp at h_);exact h_)
 have hl_w4_0:w.heap.size<w4.heap.size:=oM;have hl_w4_1:b<w4.heap.size:=oM;have hl_w4_2:w1.heap.size<w4.heap.size:=oM;have hnX:w.heap.size≠w1.heap.size:=by omega
 have hbX:b≠w1.heap.size:=by omega
 have g4:∀ (a i:Nat) (u:Value),a≠w1.heap.size->w1.cell? ⟨a,i,none⟩=some u->(w4.setCell ⟨w1.heap.size,3,none⟩ (.slice B3 ys.length d3)).cell? ⟨a,i,none⟩=some u:=fun a i u hne h=>Fg (Ac hb_w4 (Fg (Ac hb_w3 (Fg (Ac hb_w2 (Bh _ h)) hne)) hne)) hne
 have r0:=g4 w.heap.size 0 (.int .i64 0) hnX ((hc_w1 _ _ (by first|(simp;done)|omega|(simp;omega))).trans (by simp));have r1:=g4 w.heap.size 1 (.slice none 0 0) hnX ((hc_w1 _ _ (by first|(simp;done)|omega|(simp;omega))).trans (by simp));have r2:=g4 w.heap.size 2 (.slice none 0 0) hnX ((hc_w1 _ _ (by first|(simp;done)|omega|(simp;omega))).trans (by simp));have r3:=g4 w.heap.size 3 (.slice none 0 0) hnX ((hc_w1 _ _ (by first|(simp;done)|omega|(simp;omega))).trans (by simp))
 have rf:∀ i,(w4.setCell ⟨w1.heap.size,3,none⟩ (.slice B3 ys.length d3)).frozen? ⟨w.heap.size,i,none⟩=false:=fun i=>by
  rw [World.frozen?_setCell,hf_w4 _ _ (by first|(simp;done)|omega|(simp;omega)),World.frozen?_setCell,hf_w3 _ _ (by first|(simp;done)|omega|(simp;omega)),World.frozen?_setCell,hf_w2 _ _ (by first|(simp;done)|omega|(simp;omega))];exact ((Below.refl _ w1).alloc (Nat.le_refl _) _).frozen (p:=⟨w.heap.size,i,none⟩) (show w.heap.size<w1.heap.size by omega) |>.trans ((hf_w1 _ _ (by first|(simp;done)|omega|(simp;omega))).trans (by simp))
 have pk4:∀ (k:Nat) (hk:k<rest.length),(w4.setCell ⟨w1.heap.size,3,none⟩ (.slice B3 ys.length d3)).cell? ⟨b,o+3+k,none⟩=some (.string rest[k]):=fun k hk=>g4 b _ _ hbX (pk k hk)
 obtain ⟨lo,hlo0⟩:∃ lo,lo=w4.heap.size:=⟨_,rfl⟩
 have hP0:ParR w1.heap.size lo W (.slice none 0 0) ((rest.take 0).map edV) B2 d2 xs m2 B3 d3 ys m3 (w4.setCell ⟨w1.heap.size,3,none⟩ (.slice B3 ys.length d3)):=by
  subst hlo0;have x0:(w4.setCell ⟨w1.heap.size,3,none⟩ (.slice B3 ys.length d3)).cell? ⟨w1.heap.size,0,none⟩=some (.int .i64 W):=As (by decide) (Ac hb_w4 (As (by decide) (Ac hb_w3 (World.cell?_setCell_same _ _ _ (Ac hb_w2 (Bc rfl))))));have x1:(w4.setCell ⟨w1.heap.size,3,none⟩ (.slice B3 ys.length d3)).cell? ⟨w1.heap.size,1,none⟩=some (.slice none 0 0):=As (by decide) (Ac hb_w4 (As (by decide) (Ac hb_w3 (As (by decide) (Ac hb_w2 (Bc rfl))))));have x2:(w4.setCell ⟨w1.heap.size,3,none⟩ (.slice B3 ys.length d3)).cell? ⟨w1.heap.size,2,none⟩=some (.slice B2 xs.length d2):=As (by decide) (Ac hb_w4 (World.cell?_setCell_same _ _ _ (Ac hb_w3 (As (by decide) (Ac hb_w2 (Bc rfl))))));have x3:(w4.setCell ⟨w1.heap.size,3,none⟩ (.slice B3 ys.length d3)).cell? ⟨w1.heap.size,3,none⟩=some (.slice B3 ys.length d3):=World.cell?_setCell_same _ _ _ (Ac hb_w4 (As (by decide) (Ac hb_w3 (As (by decide) (Ac hb_w2 (Bc rfl))))));have hX3:w1.heap.size<(w2.setCell ⟨w1.heap.size,0,none⟩ (.int .i64 W)).heap.size:=by simp [World.setCell];omega
  have hX4:w1.heap.size<(w3.setCell ⟨w1.heap.size,2,none⟩ (.slice B2 xs.length d2)).heap.size:=by simp [World.setCell];omega
  refine ⟨⟨x0,x1,x2,x3⟩,fun i=>?_,GrowV.nil _ _ _ _,?_,?_,?_,by simp [World.setCell]⟩
  ·rw [World.frozen?_setCell,hf_w4 _ _ (by first|(simp;done)|omega|(simp;omega)),World.frozen?_setCell,hf_w3 _ _ (by first|(simp;done)|omega|(simp;omega)),World.frozen?_setCell,hf_w2 _ _ (by first|(simp;done)|omega|(simp;omega))];simp
  ·have a1:Sl (fun b=>w1.heap.size<b/\b<w3.heap.size) w3 .int B2 d2 xs m2:=Al (fun b hb2 (h:_<=b)=>⟨by omega,hb2⟩) t2;have a2:Sl (fun b=>w1.heap.size<b/\b<w4.heap.size) (w3.setCell ⟨w1.heap.size,2,none⟩ (.slice B2 xs.length d2)) .int B2 d2 xs m2:=Al (fun b _ h=>⟨h.1,by have:=h.2;omega⟩) (Ah a1 (fun b h=>by have:=h.1;omega) 2 (.slice B2 xs.length d2));exact Ah (Ad a2 hb_w4) (fun b h=>by have:=h.1;omega) _ _
  ·exact Ah (Al (fun b hb2 (h:_<=b)=>⟨by omega,hb2⟩) t3) (fun b h=>by have:=h.1;omega) _ _
  ·exact Aw (Fresh.append (Aw (f2.le (by first|(simp;done)|omega|(simp;omega))) _ _) hb_w4 f3 (by first|(simp;done)|omega|(simp;omega))) _ _
 have bW:Below w.heap.size w (w4.setCell ⟨w1.heap.size,3,none⟩ (.slice B3 ys.length d3)):=(by repeat (first|with_reducible exact Below.refl _ _|((with_reducible refine Below.setCell ?_ ?_ _);rotate_left;focus (first|(simp;done)|omega|(simp;omega)))|((with_reducible refine Below.alloc ?_ ?_ _);rotate_left;focus (first|(simp;done)|omega|(simp;omega)))|(with_reducible refine Below.drew ?_)|(with_reducible refine below_draws_ ?_ _)|((with_reducible refine Below.trans ?_ (Below.mono hb_w1 ?_));rotate_left;focus (first|(simp;done)|omega|(simp;omega)))|((with_reducible refine Below.trans ?_ (Below.mono hb_w2 ?_));rotate_left;focus (first|(simp;done)|omega|(simp;omega)))|((with_reducible refine Below.trans ?_ (Below.mono hb_w3 ?_));rotate_left;focus (first|(simp;done)|omega|(simp;omega)))|((with_reducible refine Below.trans ?_ (Below.mono hb_w4 ?_));rotate_left;focus (first|(simp;done)|omega|(simp;omega)))))
 have hlo1:w1.heap.size<lo:=by omega
 have hRd:=Lib.hid hR.out
 clear hR g4 p0 p1 p2 pk
 go_wp2_with fail
 case inl hd3 =>
  generalize (w4.setCell ⟨w1.heap.size,3,none⟩ (.slice B3 ys.length d3))=wS at *
  go_loopw [47] (fun i wr=>∃ (k:Nat) (v:Value),k<=rest.length/\i=.int .i64 k/\ParR w1.heap.size lo W v ((rest.take k).map edV) B2 d2 xs m2 B3 d3 ys m3 wr/\(∀ x∈rest.take k,(peV x).2.2.2.2=true)/\Below w1.heap.size wS wr) (fun i _=>rest.length - (intOf i).toNat)
  case atStart=>exact ⟨0,_,by omega,rfl,hP0,by simp,Below.refl _ _⟩
  case round =>
   obtain ⟨k,v,hk,rfl,hR,hall,hbl2⟩:=hrel;by_cases hlt:k<rest.length
   ·exfalso;omega
   ·skip
    obtain rfl:k=rest.length:=by omega
    rw [List.take_length] at hR hall;obtain ⟨⟨z0,z1,z2,z3⟩,zf,hG,u2,u3,f,hlo⟩:=hR;obtain ⟨GA,gc,l,hGe,hsl,hfl⟩:=hG.done;rw [List.length_map] at hGe;subst hGe
    have hF2:Fresh wr w.heap.size (l++(m2++m3)):=Rg oM (f.le oM) hfl (fun p hp=>by
     rcases List.mem_append.1 hp with h|h
     ·exact (Ip u2 p h).1.2
     ·exact (Ip u3 p h).1.2)
    have r0:=(hbl2.cell (show w.heap.size<_ by omega)).trans r0;have r1:=(hbl2.cell (show w.heap.size<_ by omega)).trans r1;have r2:=(hbl2.cell (show w.heap.size<_ by omega)).trans r2;have r3:=(hbl2.cell (show w.heap.size<_ by omega)).trans r3;have rf:∀ i,wr.frozen? ⟨w.heap.size,i,none⟩=false:=fun i=>(hbl2.frozen (show w.heap.size<_ by omega)).trans (rf i)
    have hV:pgV s=((W,rest.map edV,xs,ys),k0&&(k1&&k2)):=by
     unfold pgV;rw [if_neg (by have:=hRL.out;omega),← hRd.out,if_pos (List.all_eq_true.2 hall),h1,h2,h3];rfl
    have hVh:=Lib.hid hV
    clear hV hG
    go_wp2_with fail
    all_goals rw [hVh.out]
    all_goals refine bodyPost_ret (v:=.tuple #[.agg #[.int .i64 W,.slice GA rest.length gc,.slice B2 xs.length d2,.slice B3 ys.length d3],.bool (k0&&(k1&&k2))]) (by clear u2 u3 hsl f hfl hF2 hall;simp [results,Tryz.results16,go_sem, *]) rfl ⟨GA,gc,l,B2,d2,m2,B3,d3,m3,by simp,?_,?_,?_,?_,?_⟩
    all_goals first
     | exact Al (fun b _ h=>by have h1:lo<=b:=h;show _<=b;omega) (Ah (Ah (Ah (Ah hsl (fun b h=>by have h1:lo<=b:=h;omega) _ _) (fun b h=>by have h1:lo<=b:=h;omega) _ _) (fun b h=>by have h1:lo<=b:=h;omega) _ _) (fun b h=>by have h1:lo<=b:=h;omega) _ _)
     | exact Al (fun b _ h=>by have h1:=h.1;show _<=b;omega) (Ah (Ah (Ah (Ah u2 (fun b h=>by have:=h.1;omega) _ _) (fun b h=>by have:=h.1;omega) _ _) (fun b h=>by have:=h.1;omega) _ _) (fun b h=>by have:=h.1;omega) _ _)
     | exact Al (fun b _ h=>by have h1:=h.1;show _<=b;omega) (Ah (Ah (Ah (Ah u3 (fun b h=>by have:=h.1;omega) _ _) (fun b h=>by have:=h.1;omega) _ _) (fun b h=>by have:=h.1;omega) _ _) (fun b h=>by have:=h.1;omega) _ _)
     | exact Aw (Aw (Aw (Aw hF2 _ _) _ _) _ _) _ _
     | exact Below.setCell (Below.setCell (Below.setCell (Below.setCell (bW.trans (hbl2.mono oM)) (by simp) _) (by simp) _) (by simp) _) (by simp) _
 case inr hd3 =>
  generalize (w4.setCell ⟨w1.heap.size,3,none⟩ (.slice B3 ys.length d3))=wS at *
  go_loopw [47] (fun i wr=>∃ (k:Nat) (v:Value),k<=rest.length/\i=.int .i64 k/\ParR w1.heap.size lo W v ((rest.take k).map edV) B2 d2 xs m2 B3 d3 ys m3 wr/\(∀ x∈rest.take k,(peV x).2.2.2.2=true)/\Below w1.heap.size wS wr) (fun i _=>rest.length - (intOf i).toNat)
  case atStart=>exact ⟨0,_,by omega,rfl,hP0,by simp,Below.refl _ _⟩
  case round =>
   obtain ⟨k,v,hk,rfl,hR,hall,hbl2⟩:=hrel;by_cases hlt:k<rest.length
   ·obtain ⟨⟨z0,z1,z2,z3⟩,zf,hG,u2,u3,f,hlo⟩:=id hR;obtain ⟨GA,gc,rfl,hgl,hgm⟩:=hG.len;rw [List.length_map,List.length_take,Nat.min_eq_left hk] at hgl z1 hG hR;obtain ⟨x,hx⟩:∃ x,x=rest[k]:=⟨_,rfl⟩
    have pkx:wr.cell? ⟨b,o+3+k,none⟩=some (.string x):=by rw [hx];exact (hbl2.cell (show b<_ by omega)).trans (pk4 k hlt)
    have hxs:x.size<=1048576:=by rw [hx];exact hS.out _ (List.getElem_mem hlt)
    have bR:Below w.heap.size w wr:=bW.trans (hbl2.mono oM);have tb:=tab.below bR;have hH:=Lib.hid hR;have hltG:=Lib.hid hG.lt;have hA:=Lib.hid hall;have r0:=(hbl2.cell (show w.heap.size<_ by omega)).trans r0;have r1:=(hbl2.cell (show w.heap.size<_ by omega)).trans r1;have r2:=(hbl2.cell (show w.heap.size<_ by omega)).trans r2;have r3:=(hbl2.cell (show w.heap.size<_ by omega)).trans r3;have rf:∀ i,wr.frozen? ⟨w.heap.size,i,none⟩=false:=fun i=>(hbl2.frozen (show w.heap.size<_ by omega)).trans (rf i)
    have hX:Hid (x=rest[k]):=Lib.hid hx;cases hok:(peV x).2.2.2.2
    ·have hV:pgV s=((0,[],[],[]),false):=by
      unfold pgV;rw [if_neg (by have:=hRL.out;omega),← hRd.out,if_neg (fun h=>by have:=List.all_eq_true.1 h x (by rw [hx];exact List.getElem_mem hlt);rw [hok] at this;cases this)]
     have hVh:=Lib.hid hV
     clear hV hR hP0 hG u2 u3 f z0 z1 z2 z3 zf hall pk4 hx
     go_wp2_with (go_at_call 35;refine (Aa0 x _ oM tb).mono ?_;rintro e w7 ⟨C2,q2,n2,C3,q3,n3,rfl,-,-,-,hb_w7⟩;rw [hok];have hz_w7:=hb_w7.size;have hlw7:w.heap.size<w7.heap.size:=oM;have e0:=Ac hb_w7 r0;have e1:=Ac hb_w7 r1;have e2:=Ac hb_w7 r2;have e3:=Ac hb_w7 r3;have ef:∀ i,w7.frozen? ⟨w.heap.size,i,none⟩=false:=(fun i=>(hb_w7.frozen (show w.heap.size<_ by omega)).trans (rf i));have hn7:w7.heap.size≠w.heap.size:=oM;have hm7:w.heap.size≠w7.heap.size:=oM)
     rw [hVh.out];refine bodyPost_ret (v:=.tuple #[.agg #[.int .i64 0,.slice none 0 0,.slice none 0 0,.slice none 0 0],.bool false]) (by simp [results,Tryz.results16,go_sem, *]) rfl ⟨none,0,[],none,0,[],none,0,[],rfl,Bw _ _ _,Bw _ _ _,Bw _ _ _,Fresh.nil _ _,?_⟩;exact bR.trans (by repeat (first|with_reducible exact Below.refl _ _|((with_reducible refine Below.setCell ?_ ?_ _);rotate_left;focus (first|(simp;done)|omega|(simp;omega)))|((with_reducible refine Below.alloc ?_ ?_ _);rotate_left;focus (first|(simp;done)|omega|(simp;omega)))|(with_reducible refine Below.drew ?_)|(with_reducible refine below_draws_ ?_ _)|((with_reducible refine Below.trans ?_ (Below.mono hb_w7 ?_));rotate_left;focus (first|(simp;done)|omega|(simp;omega)))))
    ·have et:(rest.take (k+1)).map edV=(rest.take k).map edV++[edV x]:=by rw [List.take_succ_eq_append_getElem hlt,← hx,List.map_append];rfl
     have hXn:w1.heap.size≠wr.heap.size:=by omega
     have hXm:wr.heap.size≠w1.heap.size:=by omega
     have hetH:=Lib.hid et
     clear hR hP0 u2 u3 f hall pk4 hx et r0 r1 r2 r3 rf
     go_wp2_with (first
      | (go_at_call 35;refine (Aa0 x _ oM tb).mono ?_;rintro e w7 ⟨C2,q2,n2,C3,q3,n3,rfl,v5,v6,f5,hb_w7⟩;rw [hok];have hz_w7:=hb_w7.size;have xw7:=Ac hb_w7 z1;have xf7:=(hb_w7.frozen (p:=⟨w1.heap.size,1,none⟩) (show w1.heap.size<_ by omega)).trans (zf 1);have hX7:w1.heap.size<w7.heap.size:=oM;have hn7:w7.heap.size≠w1.heap.size:=oM;have hm7:w1.heap.size≠w7.heap.size:=oM;have hVal:Hid (∀ W,Below w7.heap.size w7 W->Ty.Val (Bu wr.heap.size) W Bp [.int .i64 (peV x).1,.int .i64 (peV x).2.1,.slice C2 (peV x).2.2.1.length q2,.slice C3 (peV x).2.2.2.1.length q3] (edV x) (n2++n3)):=Lib.hid fun W hb=>⟨[_],_,[],_,rfl,⟨rfl,rfl⟩,⟨[_],_,[],_,rfl,⟨rfl,rfl⟩,⟨[_],_,n2,n3,rfl,⟨C2,q2,rfl,Ad v5 hb⟩,⟨C3,q3,rfl,Ad v6 hb⟩,rfl⟩,rfl⟩,rfl⟩;have hFr:Hid (Fresh w7 wr.heap.size (n2++n3)):=Lib.hid f5;clear v5 v6 f5)
      | (at_builtin;refine Tw (t:=Bp) (y:=edV x) (cs:=[.int .i64 (peV x).1,.int .i64 (peV x).2.1,.slice C2 (peV x).2.2.1.length q2,.slice C3 (peV x).2.2.2.1.length q3]) (l:=n2++n3) (z:=.agg #[.int .i64 0,.int .i64 0,.slice none 0 0,.slice none 0 0]) rfl _ _ 22 rfl 64 Tryz.underlying22 (by kernel_rfl) rfl (by decide) rfl hG (by repeat (first|with_reducible exact Below.refl _ _|((with_reducible refine Below.setCell ?_ ?_ _);rotate_left;focus (first|(simp;done)|omega|(simp;omega)))|((with_reducible refine Below.alloc ?_ ?_ _);rotate_left;focus (first|(simp;done)|omega|(simp;omega)))|(with_reducible refine Below.drew ?_)|(with_reducible refine below_draws_ ?_ _)|((with_reducible refine Below.trans ?_ (Below.mono hb_w7 ?_));rotate_left;focus (first|(simp;done)|omega|(simp;omega))))) hlo (hVal.out _ (by repeat (first|with_reducible exact Below.refl _ _|((with_reducible refine Below.setCell ?_ ?_ _);rotate_left;focus (first|(simp;done)|omega|(simp;omega)))|((with_reducible refine Below.alloc ?_ ?_ _);rotate_left;focus (first|(simp;done)|omega|(simp;omega)))|(with_reducible refine Below.drew ?_)|(with_reducible refine below_draws_ ?_ _)))) (hFr.out.below (by repeat (first|with_reducible exact Below.refl _ _|((with_reducible refine Below.setCell ?_ ?_ _);rotate_left;focus (first|(simp;done)|omega|(simp;omega)))|((with_reducible refine Below.alloc ?_ ?_ _);rotate_left;focus (first|(simp;done)|omega|(simp;omega)))|(with_reducible refine Below.drew ?_)|(with_reducible refine below_draws_ ?_ _)))) rfl (Aeo (by simp)) Ad1 (by rw [List.length_map,List.length_take];omega) (by rw [List.length_map,List.length_take];simp only [maxLen];omega) ?_;intro v' w5 hV5 hb_w5 hgr;obtain ⟨GB,gd,rfl,_,_⟩:=hV5.len;have xw5:=hgr.cell (Bh _ (Bh _ xw7)) (fun e=>by have this:lo<=w1.heap.size/\w1.heap.size<wr.heap.size:=hltG.out _ e.symm;omega);have zw5:w5.frozen? ⟨w1.heap.size,1,none⟩=false:=(World.frozen?_of_block (hgr.block w1.heap.size (Nat.lt_of_lt_of_le hX7 (show Below w7.heap.size w7 _ from (by repeat (first|with_reducible exact Below.refl _ _|((with_reducible refine Below.setCell ?_ ?_ _);rotate_left;focus (first|(simp;done)|omega|(simp;omega)))|((with_reducible refine Below.alloc ?_ ?_ _);rotate_left;focus (first|(simp;done)|omega|(simp;omega)))|(with_reducible refine Below.drew ?_)|(with_reducible refine below_draws_ ?_ _)))).size) (fun e=>by have this:lo<=w1.heap.size/\w1.heap.size<wr.heap.size:=hltG.out _ e.symm;omega))).trans (((show Below w7.heap.size w7 _ from (by repeat (first|with_reducible exact Below.refl _ _|((with_reducible refine Below.setCell ?_ ?_ _);rotate_left;focus (first|(simp;done)|omega|(simp;omega)))|((with_reducible refine Below.alloc ?_ ?_ _);rotate_left;focus (first|(simp;done)|omega|(simp;omega)))|(with_reducible refine Below.drew ?_)|(with_reducible refine below_draws_ ?_ _)))).frozen (p:=⟨w1.heap.size,1,none⟩) hX7).trans xf7)))
     have hl1:((rest.take k).map edV++[edV x]).length=k+1:=by rw [List.length_append,List.length_map,List.length_take,List.length_singleton];omega
     rw [hl1] at hV5;have hB7:Below wr.heap.size wr ((w7.alloc (.cells #[.int .i64 (peV x).1,.int .i64 (peV x).2.1,.slice C2 (peV x).2.2.1.length q2,.slice C3 (peV x).2.2.2.1.length q3] 37)).alloc (.cells #[.int .i64 (peV x).1,.int .i64 (peV x).2.1,.slice C2 (peV x).2.2.1.length q2,.slice C3 (peV x).2.2.2.1.length q3] 37)):=(by repeat (first|with_reducible exact Below.refl _ _|((with_reducible refine Below.setCell ?_ ?_ _);rotate_left;focus (first|(simp;done)|omega|(simp;omega)))|((with_reducible refine Below.alloc ?_ ?_ _);rotate_left;focus (first|(simp;done)|omega|(simp;omega)))|(with_reducible refine Below.drew ?_)|(with_reducible refine below_draws_ ?_ _)|((with_reducible refine Below.trans ?_ (Below.mono hb_w7 ?_));rotate_left;focus (first|(simp;done)|omega|(simp;omega)))))
     have hStep:=hH.out.step hlo1 hB7 hgr hV5;refine ⟨⟨k+1,_,by omega,by congr 1,by rw [hetH.out];exact hStep,fun y hy=>?_,?_⟩,by simp [intOf];omega⟩
     ·rw [List.take_succ_eq_append_getElem hlt,← hX.out] at hy;rcases List.mem_append.1 hy with hy|hy
      ·exact hA.out y hy
      ·rw [List.mem_singleton.1 hy];exact hok
     ·exact Below.setCell (p:=⟨w1.heap.size,1,none⟩) ((hbl2.trans (hB7.mono oM)).trans (hb_w5.mono oM)) (Nat.le_refl _) _
   ·skip
    obtain rfl:k=rest.length:=by omega
    rw [List.take_length] at hR hall;obtain ⟨⟨z0,z1,z2,z3⟩,zf,hG,u2,u3,f,hlo⟩:=hR;obtain ⟨GA,gc,l,hGe,hsl,hfl⟩:=hG.done;rw [List.length_map] at hGe;subst hGe
    have hF2:Fresh wr w.heap.size (l++(m2++m3)):=Rg oM (f.le oM) hfl (fun p hp=>by
     rcases List.mem_append.1 hp with h|h
     ·exact (Ip u2 p h).1.2
     ·exact (Ip u3 p h).1.2)
    have r0:=(hbl2.cell (show w.heap.size<_ by omega)).trans r0;have r1:=(hbl2.cell (show w.heap.size<_ by omega)).trans r1;have r2:=(hbl2.cell (show w.heap.size<_ by omega)).trans r2;have r3:=(hbl2.cell (show w.heap.size<_ by omega)).trans r3;have rf:∀ i,wr.frozen? ⟨w.heap.size,i,none⟩=false:=fun i=>(hbl2.frozen (show w.heap.size<_ by omega)).trans (rf i)
    have hV:pgV s=((W,rest.map edV,xs,ys),k0&&(k1&&k2)):=by
     unfold pgV;rw [if_neg (by have:=hRL.out;omega),← hRd.out,if_pos (List.all_eq_true.2 hall),h1,h2,h3];rfl
    have hVh:=Lib.hid hV
    clear hV hG
    go_wp2_with fail
    all_goals rw [hVh.out]
    all_goals refine bodyPost_ret (v:=.tuple #[.agg #[.int .i64 W,.slice GA rest.length gc,.slice B2 xs.length d2,.slice B3 ys.length d3],.bool (k0&&(k1&&k2))]) (by clear u2 u3 hsl f hfl hF2 hall;simp [results,Tryz.results16,go_sem, *]) rfl ⟨GA,gc,l,B2,d2,m2,B3,d3,m3,by simp,?_,?_,?_,?_,?_⟩
    all_goals first
     | exact Al (fun b _ h=>by have h1:lo<=b:=h;show _<=b;omega) (Ah (Ah (Ah (Ah hsl (fun b h=>by have h1:lo<=b:=h;omega) _ _) (fun b h=>by have h1:lo<=b:=h;omega) _ _) (fun b h=>by have h1:lo<=b:=h;omega) _ _) (fun b h=>by have h1:lo<=b:=h;omega) _ _)
     | exact Al (fun b _ h=>by have h1:=h.1;show _<=b;omega) (Ah (Ah (Ah (Ah u2 (fun b h=>by have:=h.1;omega) _ _) (fun b h=>by have:=h.1;omega) _ _) (fun b h=>by have:=h.1;omega) _ _) (fun b h=>by have:=h.1;omega) _ _)
     | exact Al (fun b _ h=>by have h1:=h.1;show _<=b;omega) (Ah (Ah (Ah (Ah u3 (fun b h=>by have:=h.1;omega) _ _) (fun b h=>by have:=h.1;omega) _ _) (fun b h=>by have:=h.1;omega) _ _) (fun b h=>by have:=h.1;omega) _ _)
     | exact Aw (Aw (Aw (Aw hF2 _ _) _ _) _ _) _ _
     | exact Below.setCell (Below.setCell (Below.setCell (Below.setCell (bW.trans (hbl2.mono oM)) (by simp) _) (by simp) _) (by simp) _) (by simp) _
end
section
open Go.RowKit Go.Deep
theorem P2 (s:ByteArray) (w:World) (hs:s.size<=1048576) (tab:Tab w) :
  Calls Tryz.prog 16 #[.string s] w fun e w'=>∃ B1 d1 m1 B2 d2 m2 B3 d3 m3,e=.returned (.tuple #[.agg #[.int .i64 (pgV s).1.1,.slice B1 (pgV s).1.2.1.length d1,.slice B2 (pgV s).1.2.2.1.length d2,.slice B3 (pgV s).1.2.2.2.length d3],.bool (pgV s).2])/\Sl (Bu w.heap.size) w' Bp B1 d1 (pgV s).1.2.1 m1/\Sl (Bu w.heap.size) w' .int B2 d2 (pgV s).1.2.2.1 m2/\Sl (Bu w.heap.size) w' .int B3 d3 (pgV s).1.2.2.2 m3/\Fresh w' w.heap.size (m1++(m2++m3))/\Below w.heap.size w w':=by
 by_cases h:(Ce 124 s).length<3
 ·refine (Ud s w hs h tab).mono ?_;rintro e w' ⟨rfl,hb⟩;have hV:pgV s=((0,[],[],[]),false):=by unfold pgV;rw [if_pos h]
  rw [hV];exact ⟨none,0,[],none,0,[],none,0,[],rfl,Bw _ _ _,Bw _ _ _,Bw _ _ _,Fresh.nil _ _,hb⟩
 ·exact Xh s w hs oM tab
set_option maxRecDepth 100000 in
set_option maxHeartbeats 4000000 in
theorem K6 (s:ByteArray) (w:World) (hs:s.size<=1048576) (tab:Tab w) :
  Calls Tryz.prog 5 #[.string s] w fun e w'=>∃ B1 d1 m1 B2 d2 m2 B3 d3 m3,e=.returned (.tuple #[.agg #[.int .i64 (Mf s).1.1,.slice B1 (Mf s).1.2.1.length d1,.slice B2 (Mf s).1.2.2.1.length d2,.slice B3 (Mf s).1.2.2.2.length d3],.bool (Mf s).2])/\Sl (Bu w.heap.size) w' Bp B1 d1 (Mf s).1.2.1 m1/\Sl (Bu w.heap.size) w' .int B2 d2 (Mf s).1.2.2.1 m2/\Sl (Bu w.heap.size) w' .int B3 d3 (Mf s).1.2.2.2 m3/\Fresh w' w.heap.size (m1++(m2++m3))/\Below w.heap.size w w':=by
 obtain ⟨hl1,hl2⟩:=Afh hs;have hV:Mf s=if (pgV s).2&&I2 (pgV s).1 s then ((pgV s).1,true) else ((0,[],[],[]),false):=rfl
 have key:=fun (w':World) (hb:Below w.heap.size w w')=>P2 s w' hs (tab.below hb)
 unfold I2 at hV;rcases hP:pgV s with ⟨⟨W,es,xs,ys⟩,ok⟩
 rw [hP] at hV key hl1 hl2;dsimp only at hV key hl1 hl2;rw [hV];have hL1:=Lib.hid hl1;have hL2:=Lib.hid hl2
 clear hV hP hl1 hl2
 cases ok
 ·rw [Bool.false_and,if_neg Bool.false_ne_true];have hK:=Lib.hid key
  clear key
  go_enter Tryz.func5,Tryz.ntmps5
  go_wp2_with fail
  refine (hK.out _ (by repeat (first|with_reducible exact Below.refl _ _|((with_reducible refine Below.setCell ?_ ?_ _);rotate_left;focus (first|(simp;done)|omega|(simp;omega)))|((with_reducible refine Below.alloc ?_ ?_ _);rotate_left;focus (first|(simp;done)|omega|(simp;omega)))|(with_reducible refine Below.drew ?_)|(with_reducible refine below_draws_ ?_ _)))).mono ?_;rintro e w1 ⟨B1,d1,m1,B2,d2,m2,B3,d3,m3,rfl,-,-,-,-,hb_w1⟩;obtain ⟨hc_w1,hf_w1⟩:=A6 hb_w1;have hz_w1:=hb_w1.size;rw [World.size_alloc] at hz_w1;have hl0:w.heap.size<w1.heap.size:=by omega
  have hne1:w1.heap.size≠w.heap.size:=by omega
  have hne2:w.heap.size≠w1.heap.size:=by omega
  go_wp2_with fail
  have r0:w1.cell? ⟨w.heap.size,0,none⟩=some (.int .i64 0):=(hc_w1 _ _ (by first|(simp;done)|omega|(simp;omega))).trans (by simp);have r1:w1.cell? ⟨w.heap.size,1,none⟩=some (.slice none 0 0):=(hc_w1 _ _ (by first|(simp;done)|omega|(simp;omega))).trans (by simp);have r2:w1.cell? ⟨w.heap.size,2,none⟩=some (.slice none 0 0):=(hc_w1 _ _ (by first|(simp;done)|omega|(simp;omega))).trans (by simp);have r3:w1.cell? ⟨w.heap.size,3,none⟩=some (.slice none 0 0):=(hc_w1 _ _ (by first|(simp;done)|omega|(simp;omega))).trans (by simp);refine bodyPost_ret (v:=.tuple #[.agg #[.int .i64 0,.slice none 0 0,.slice none 0 0,.slice none 0 0],.bool false]) (by (try clear hc_w3);(try clear hc_w2);clear hc_w1;simp [results,Tryz.results5,go_sem, *]) rfl ⟨none,0,[],none,0,[],none,0,[],rfl,Bw _ _ _,Bw _ _ _,Bw _ _ _,Fresh.nil _ _,by repeat (first|with_reducible exact Below.refl _ _|((with_reducible refine Below.setCell ?_ ?_ _);rotate_left;focus (first|(simp;done)|omega|(simp;omega)))|((with_reducible refine Below.alloc ?_ ?_ _);rotate_left;focus (first|(simp;done)|omega|(simp;omega)))|(with_reducible refine Below.drew ?_)|(with_reducible refine below_draws_ ?_ _)|((with_reducible refine Below.trans ?_ (Below.mono hb_w1 ?_));rotate_left;focus (first|(simp;done)|omega|(simp;omega))))⟩
 ·have hK:=Lib.hid key
  clear key
  cases hg:D8 W es xs ys
  ·rw [Bool.false_and,Bool.and_false,if_neg Bool.false_ne_true]
   go_enter Tryz.func5,Tryz.ntmps5
   go_wp2_with fail
   refine (hK.out _ (by repeat (first|with_reducible exact Below.refl _ _|((with_reducible refine Below.setCell ?_ ?_ _);rotate_left;focus (first|(simp;done)|omega|(simp;omega)))|((with_reducible refine Below.alloc ?_ ?_ _);rotate_left;focus (first|(simp;done)|omega|(simp;omega)))|(with_reducible refine Below.drew ?_)|(with_reducible refine below_draws_ ?_ _)))).mono ?_;rintro e w1 ⟨B1,d1,m1,B2,d2,m2,B3,d3,m3,rfl,s1,s2,s3,-,hb_w1⟩;obtain ⟨hc_w1,hf_w1⟩:=A6 hb_w1;have hz_w1:=hb_w1.size;rw [World.size_alloc] at hz_w1;have hl0:w.heap.size<w1.heap.size:=by omega
   have hne1:w1.heap.size≠w.heap.size:=by omega
   have hne2:w.heap.size≠w1.heap.size:=by omega
   go_wp2_with fail
   (refine (Ju W es B1 d1 m1 xs B2 d2 m2 ys B3 d3 m3 _ (by exact Ad s1 (by repeat (first|with_reducible exact Below.refl _ _|((with_reducible refine Below.setCell ?_ ?_ _);rotate_left;focus (first|(simp;done)|omega|(simp;omega)))|((with_reducible refine Below.alloc ?_ ?_ _);rotate_left;focus (first|(simp;done)|omega|(simp;omega)))|(with_reducible refine Below.drew ?_)|(with_reducible refine below_draws_ ?_ _)))) (by exact Ad s2 (by repeat (first|with_reducible exact Below.refl _ _|((with_reducible refine Below.setCell ?_ ?_ _);rotate_left;focus (first|(simp;done)|omega|(simp;omega)))|((with_reducible refine Below.alloc ?_ ?_ _);rotate_left;focus (first|(simp;done)|omega|(simp;omega)))|(with_reducible refine Below.drew ?_)|(with_reducible refine below_draws_ ?_ _)))) (by exact Ad s3 (by repeat (first|with_reducible exact Below.refl _ _|((with_reducible refine Below.setCell ?_ ?_ _);rotate_left;focus (first|(simp;done)|omega|(simp;omega)))|((with_reducible refine Below.alloc ?_ ?_ _);rotate_left;focus (first|(simp;done)|omega|(simp;omega)))|(with_reducible refine Below.drew ?_)|(with_reducible refine below_draws_ ?_ _)))) hL1.out hL2.out hg (tab.below (by repeat (first|with_reducible exact Below.refl _ _|((with_reducible refine Below.setCell ?_ ?_ _);rotate_left;focus (first|(simp;done)|omega|(simp;omega)))|((with_reducible refine Below.alloc ?_ ?_ _);rotate_left;focus (first|(simp;done)|omega|(simp;omega)))|(with_reducible refine Below.drew ?_)|(with_reducible refine below_draws_ ?_ _)|((with_reducible refine Below.trans ?_ (Below.mono hb_w1 ?_));rotate_left;focus (first|(simp;done)|omega|(simp;omega))))))).mono ?_;rintro e w2 ⟨rfl,hb_w2⟩;obtain ⟨hc_w2,hf_w2⟩:=A6 hb_w2;have hz_w2:=hb_w2.size;(try simp at hz_w2);have hl_w2_0:w.heap.size<w2.heap.size:=oM;have hl_w2_1:w1.heap.size<w2.heap.size:=oM);go_wp2_with fail
   have r0:w2.cell? ⟨w.heap.size,0,none⟩=some (.int .i64 0):=Ac hb_w2 (Bh _ ((hc_w1 _ _ (by first|(simp;done)|omega|(simp;omega))).trans (by simp)));have r1:w2.cell? ⟨w.heap.size,1,none⟩=some (.slice none 0 0):=Ac hb_w2 (Bh _ ((hc_w1 _ _ (by first|(simp;done)|omega|(simp;omega))).trans (by simp)));have r2:w2.cell? ⟨w.heap.size,2,none⟩=some (.slice none 0 0):=Ac hb_w2 (Bh _ ((hc_w1 _ _ (by first|(simp;done)|omega|(simp;omega))).trans (by simp)));have r3:w2.cell? ⟨w.heap.size,3,none⟩=some (.slice none 0 0):=Ac hb_w2 (Bh _ ((hc_w1 _ _ (by first|(simp;done)|omega|(simp;omega))).trans (by simp)));refine bodyPost_ret (v:=.tuple #[.agg #[.int .i64 0,.slice none 0 0,.slice none 0 0,.slice none 0 0],.bool false]) (by (try clear hc_w3);(try clear hc_w2);clear hc_w1;simp [results,Tryz.results5,go_sem, *]) rfl ⟨none,0,[],none,0,[],none,0,[],rfl,Bw _ _ _,Bw _ _ _,Bw _ _ _,Fresh.nil _ _,by repeat (first|with_reducible exact Below.refl _ _|((with_reducible refine Below.setCell ?_ ?_ _);rotate_left;focus (first|(simp;done)|omega|(simp;omega)))|((with_reducible refine Below.alloc ?_ ?_ _);rotate_left;focus (first|(simp;done)|omega|(simp;omega)))|(with_reducible refine Below.drew ?_)|(with_reducible refine below_draws_ ?_ _)|((with_reducible refine Below.trans ?_ (Below.mono hb_w1 ?_));rotate_left;focus (first|(simp;done)|omega|(simp;omega)))|((with_reducible refine Below.trans ?_ (Below.mono hb_w2 ?_));rotate_left;focus (first|(simp;done)|omega|(simp;omega))))⟩
  ·cases ht:((ba (Df W es xs ys)).toList==s.toList)
   ·rw [Bool.true_and,Bool.true_and,if_neg Bool.false_ne_true]
    go_enter Tryz.func5,Tryz.ntmps5
    go_wp2_with fail
    refine (hK.out _ (by repeat (first|with_reducible exact Below.refl _ _|((with_reducible refine Below.setCell ?_ ?_ _);rotate_left;focus (first|(simp;done)|omega|(simp;omega)))|((with_reducible refine Below.alloc ?_ ?_ _);rotate_left;focus (first|(simp;done)|omega|(simp;omega)))|(with_reducible refine Below.drew ?_)|(with_reducible refine below_draws_ ?_ _)))).mono ?_;rintro e w1 ⟨B1,d1,m1,B2,d2,m2,B3,d3,m3,rfl,s1,s2,s3,hF,hb_w1⟩;obtain ⟨hc_w1,hf_w1⟩:=A6 hb_w1;have hz_w1:=hb_w1.size;rw [World.size_alloc] at hz_w1;have hl0:w.heap.size<w1.heap.size:=by omega
    have hne1:w1.heap.size≠w.heap.size:=by omega
    have hne2:w.heap.size≠w1.heap.size:=by omega
    go_wp2_with fail
    (refine (Ju W es B1 d1 m1 xs B2 d2 m2 ys B3 d3 m3 _ (by exact Ad s1 (by repeat (first|with_reducible exact Below.refl _ _|((with_reducible refine Below.setCell ?_ ?_ _);rotate_left;focus (first|(simp;done)|omega|(simp;omega)))|((with_reducible refine Below.alloc ?_ ?_ _);rotate_left;focus (first|(simp;done)|omega|(simp;omega)))|(with_reducible refine Below.drew ?_)|(with_reducible refine below_draws_ ?_ _)))) (by exact Ad s2 (by repeat (first|with_reducible exact Below.refl _ _|((with_reducible refine Below.setCell ?_ ?_ _);rotate_left;focus (first|(simp;done)|omega|(simp;omega)))|((with_reducible refine Below.alloc ?_ ?_ _);rotate_left;focus (first|(simp;done)|omega|(simp;omega)))|(with_reducible refine Below.drew ?_)|(with_reducible refine below_draws_ ?_ _)))) (by exact Ad s3 (by repeat (first|with_reducible exact Below.refl _ _|((with_reducible refine Below.setCell ?_ ?_ _);rotate_left;focus (first|(simp;done)|omega|(simp;omega)))|((with_reducible refine Below.alloc ?_ ?_ _);rotate_left;focus (first|(simp;done)|omega|(simp;omega)))|(with_reducible refine Below.drew ?_)|(with_reducible refine below_draws_ ?_ _)))) hL1.out hL2.out hg (tab.below (by repeat (first|with_reducible exact Below.refl _ _|((with_reducible refine Below.setCell ?_ ?_ _);rotate_left;focus (first|(simp;done)|omega|(simp;omega)))|((with_reducible refine Below.alloc ?_ ?_ _);rotate_left;focus (first|(simp;done)|omega|(simp;omega)))|(with_reducible refine Below.drew ?_)|(with_reducible refine below_draws_ ?_ _)|((with_reducible refine Below.trans ?_ (Below.mono hb_w1 ?_));rotate_left;focus (first|(simp;done)|omega|(simp;omega))))))).mono ?_;rintro e w2 ⟨rfl,hb_w2⟩;obtain ⟨hc_w2,hf_w2⟩:=A6 hb_w2;have hz_w2:=hb_w2.size;(try simp at hz_w2);have hl_w2_0:w.heap.size<w2.heap.size:=oM;have hl_w2_1:w1.heap.size<w2.heap.size:=oM);go_wp2_with fail
    (refine (Vx W es B1 d1 m1 xs B2 d2 m2 ys B3 d3 m3 _ (by exact Ad s1 (by repeat (first|with_reducible exact Below.refl _ _|((with_reducible refine Below.setCell ?_ ?_ _);rotate_left;focus (first|(simp;done)|omega|(simp;omega)))|((with_reducible refine Below.alloc ?_ ?_ _);rotate_left;focus (first|(simp;done)|omega|(simp;omega)))|(with_reducible refine Below.drew ?_)|(with_reducible refine below_draws_ ?_ _)|((with_reducible refine Below.trans ?_ (Below.mono hb_w2 ?_));rotate_left;focus (first|(simp;done)|omega|(simp;omega)))))) (by exact Ad s2 (by repeat (first|with_reducible exact Below.refl _ _|((with_reducible refine Below.setCell ?_ ?_ _);rotate_left;focus (first|(simp;done)|omega|(simp;omega)))|((with_reducible refine Below.alloc ?_ ?_ _);rotate_left;focus (first|(simp;done)|omega|(simp;omega)))|(with_reducible refine Below.drew ?_)|(with_reducible refine below_draws_ ?_ _)|((with_reducible refine Below.trans ?_ (Below.mono hb_w2 ?_));rotate_left;focus (first|(simp;done)|omega|(simp;omega)))))) (by exact Ad s3 (by repeat (first|with_reducible exact Below.refl _ _|((with_reducible refine Below.setCell ?_ ?_ _);rotate_left;focus (first|(simp;done)|omega|(simp;omega)))|((with_reducible refine Below.alloc ?_ ?_ _);rotate_left;focus (first|(simp;done)|omega|(simp;omega)))|(with_reducible refine Below.drew ?_)|(with_reducible refine below_draws_ ?_ _)|((with_reducible refine Below.trans ?_ (Below.mono hb_w2 ?_));rotate_left;focus (first|(simp;done)|omega|(simp;omega)))))) hg (tab.below (by repeat (first|with_reducible exact Below.refl _ _|((with_reducible refine Below.setCell ?_ ?_ _);rotate_left;focus (first|(simp;done)|omega|(simp;omega)))|((with_reducible refine Below.alloc ?_ ?_ _);rotate_left;focus (first|(simp;done)|omega|(simp;omega)))|(with_reducible refine Below.drew ?_)|(with_reducible refine below_draws_ ?_ _)|((with_reducible refine Below.trans ?_ (Below.mono hb_w1 ?_));rotate_left;focus (first|(simp;done)|omega|(simp;omega)))|((with_reducible refine Below.trans ?_ (Below.mono hb_w2 ?_));rotate_left;focus (first|(simp;done)|omega|(simp;omega))))))).mono ?_;rintro e w3 ⟨rfl,hb_w3⟩;obtain ⟨hc_w3,hf_w3⟩:=A6 hb_w3;have hz_w3:=hb_w3.size;(try simp at hz_w3);have hl_w3_0:w.heap.size<w3.heap.size:=oM;have hl_w3_1:w1.heap.size<w3.heap.size:=oM);go_wp2_with fail
    have r0:w3.cell? ⟨w.heap.size,0,none⟩=some (.int .i64 0):=Ac hb_w3 (Ac hb_w2 (Bh _ ((hc_w1 _ _ (by first|(simp;done)|omega|(simp;omega))).trans (by simp))));have r1:w3.cell? ⟨w.heap.size,1,none⟩=some (.slice none 0 0):=Ac hb_w3 (Ac hb_w2 (Bh _ ((hc_w1 _ _ (by first|(simp;done)|omega|(simp;omega))).trans (by simp))));have r2:w3.cell? ⟨w.heap.size,2,none⟩=some (.slice none 0 0):=Ac hb_w3 (Ac hb_w2 (Bh _ ((hc_w1 _ _ (by first|(simp;done)|omega|(simp;omega))).trans (by simp))));have r3:w3.cell? ⟨w.heap.size,3,none⟩=some (.slice none 0 0):=Ac hb_w3 (Ac hb_w2 (Bh _ ((hc_w1 _ _ (by first|(simp;done)|omega|(simp;omega))).trans (by simp))));refine bodyPost_ret (v:=.tuple #[.agg #[.int .i64 0,.slice none 0 0,.slice none 0 0,.slice none 0 0],.bool false]) (by (try clear hc_w3);(try clear hc_w2);clear hc_w1;simp [results,Tryz.results5,go_sem, *]) rfl ⟨none,0,[],none,0,[],none,0,[],rfl,Bw _ _ _,Bw _ _ _,Bw _ _ _,Fresh.nil _ _,by repeat (first|with_reducible exact Below.refl _ _|((with_reducible refine Below.setCell ?_ ?_ _);rotate_left;focus (first|(simp;done)|omega|(simp;omega)))|((with_reducible refine Below.alloc ?_ ?_ _);rotate_left;focus (first|(simp;done)|omega|(simp;omega)))|(with_reducible refine Below.drew ?_)|(with_reducible refine below_draws_ ?_ _)|((with_reducible refine Below.trans ?_ (Below.mono hb_w1 ?_));rotate_left;focus (first|(simp;done)|omega|(simp;omega)))|((with_reducible refine Below.trans ?_ (Below.mono hb_w2 ?_));rotate_left;focus (first|(simp;done)|omega|(simp;omega)))|((with_reducible refine Below.trans ?_ (Below.mono hb_w3 ?_));rotate_left;focus (first|(simp;done)|omega|(simp;omega))))⟩
   ·rw [Bool.true_and,Bool.true_and,if_pos rfl]
    go_enter Tryz.func5,Tryz.ntmps5
    go_wp2_with fail
    refine (hK.out _ (by repeat (first|with_reducible exact Below.refl _ _|((with_reducible refine Below.setCell ?_ ?_ _);rotate_left;focus (first|(simp;done)|omega|(simp;omega)))|((with_reducible refine Below.alloc ?_ ?_ _);rotate_left;focus (first|(simp;done)|omega|(simp;omega)))|(with_reducible refine Below.drew ?_)|(with_reducible refine below_draws_ ?_ _)))).mono ?_;rintro e w1 ⟨B1,d1,m1,B2,d2,m2,B3,d3,m3,rfl,s1,s2,s3,hF,hb_w1⟩;obtain ⟨hc_w1,hf_w1⟩:=A6 hb_w1;have hz_w1:=hb_w1.size;rw [World.size_alloc] at hz_w1;have hl0:w.heap.size<w1.heap.size:=by omega
    have hne1:w1.heap.size≠w.heap.size:=by omega
    have hne2:w.heap.size≠w1.heap.size:=by omega
    go_wp2_with fail
    (refine (Ju W es B1 d1 m1 xs B2 d2 m2 ys B3 d3 m3 _ (by exact Ad s1 (by repeat (first|with_reducible exact Below.refl _ _|((with_reducible refine Below.setCell ?_ ?_ _);rotate_left;focus (first|(simp;done)|omega|(simp;omega)))|((with_reducible refine Below.alloc ?_ ?_ _);rotate_left;focus (first|(simp;done)|omega|(simp;omega)))|(with_reducible refine Below.drew ?_)|(with_reducible refine below_draws_ ?_ _)))) (by exact Ad s2 (by repeat (first|with_reducible exact Below.refl _ _|((with_reducible refine Below.setCell ?_ ?_ _);rotate_left;focus (first|(simp;done)|omega|(simp;omega)))|((with_reducible refine Below.alloc ?_ ?_ _);rotate_left;focus (first|(simp;done)|omega|(simp;omega)))|(with_reducible refine Below.drew ?_)|(with_reducible refine below_draws_ ?_ _)))) (by exact Ad s3 (by repeat (first|with_reducible exact Below.refl _ _|((with_reducible refine Below.setCell ?_ ?_ _);rotate_left;focus (first|(simp;done)|omega|(simp;omega)))|((with_reducible refine Below.alloc ?_ ?_ _);rotate_left;focus (first|(simp;done)|omega|(simp;omega)))|(with_reducible refine Below.drew ?_)|(with_reducible refine below_draws_ ?_ _)))) hL1.out hL2.out hg (tab.below (by repeat (first|with_reducible exact Below.refl _ _|((with_reducible refine Below.setCell ?_ ?_ _);rotate_left;focus (first|(simp;done)|omega|(simp;omega)))|((with_reducible refine Below.alloc ?_ ?_ _);rotate_left;focus (first|(simp;done)|omega|(simp;omega)))|(with_reducible refine Below.drew ?_)|(with_reducible refine below_draws_ ?_ _)|((with_reducible refine Below.trans ?_ (Below.mono hb_w1 ?_));rotate_left;focus (first|(simp;done)|omega|(simp;omega))))))).mono ?_;rintro e w2 ⟨rfl,hb_w2⟩;obtain ⟨hc_w2,hf_w2⟩:=A6 hb_w2;have hz_w2:=hb_w2.size;(try simp at hz_w2);have hl_w2_0:w.heap.size<w2.heap.size:=oM;have hl_w2_1:w1.heap.size<w2.heap.size:=oM);go_wp2_with fail
    (refine (Vx W es B1 d1 m1 xs B2 d2 m2 ys B3 d3 m3 _ (by exact Ad s1 (by repeat (first|with_reducible exact Below.refl _ _|((with_reducible refine Below.setCell ?_ ?_ _);rotate_left;focus (first|(simp;done)|omega|(simp;omega)))|((with_reducible refine Below.alloc ?_ ?_ _);rotate_left;focus (first|(simp;done)|omega|(simp;omega)))|(with_reducible refine Below.drew ?_)|(with_reducible refine below_draws_ ?_ _)|((with_reducible refine Below.trans ?_ (Below.mono hb_w2 ?_));rotate_left;focus (first|(simp;done)|omega|(simp;omega)))))) (by exact Ad s2 (by repeat (first|with_reducible exact Below.refl _ _|((with_reducible refine Below.setCell ?_ ?_ _);rotate_left;focus (first|(simp;done)|omega|(simp;omega)))|((with_reducible refine Below.alloc ?_ ?_ _);rotate_left;focus (first|(simp;done)|omega|(simp;omega)))|(with_reducible refine Below.drew ?_)|(with_reducible refine below_draws_ ?_ _)|((with_reducible refine Below.trans ?_ (Below.mono hb_w2 ?_));rotate_left;focus (first|(simp;done)|omega|(simp;omega)))))) (by exact Ad s3 (by repeat (first|with_reducible exact Below.refl _ _|((with_reducible refine Below.setCell ?_ ?_ _);rotate_left;focus (first|(simp;done)|omega|(simp;omega)))|((with_reducible refine Below.alloc ?_ ?_ _);rotate_left;focus (first|(simp;done)|omega|(simp;omega)))|(with_reducible refine Below.drew ?_)|(with_reducible refine below_draws_ ?_ _)|((with_reducible refine Below.trans ?_ (Below.mono hb_w2 ?_));rotate_left;focus (first|(simp;done)|omega|(simp;omega)))))) hg (tab.below (by repeat (first|with_reducible exact Below.refl _ _|((with_reducible refine Below.setCell ?_ ?_ _);rotate_left;focus (first|(simp;done)|omega|(simp;omega)))|((with_reducible refine Below.alloc ?_ ?_ _);rotate_left;focus (first|(simp;done)|omega|(simp;omega)))|(with_reducible refine Below.drew ?_)|(with_reducible refine below_draws_ ?_ _)|((with_reducible refine Below.trans ?_ (Below.mono hb_w1 ?_));rotate_left;focus (first|(simp;done)|omega|(simp;omega)))|((with_reducible refine Below.trans ?_ (Below.mono hb_w2 ?_));rotate_left;focus (first|(simp;done)|omega|(simp;omega))))))).mono ?_;rintro e w3 ⟨rfl,hb_w3⟩;obtain ⟨hc_w3,hf_w3⟩:=A6 hb_w3;have hz_w3:=hb_w3.size;(try simp at hz_w3);have hl_w3_0:w.heap.size<w3.heap.size:=oM;have hl_w3_1:w1.heap.size<w3.heap.size:=oM);go_wp2_with fail
    have r0:w3.cell? ⟨w.heap.size,0,none⟩=some (.int .i64 0):=Ac hb_w3 (Ac hb_w2 (Bh _ ((hc_w1 _ _ (by first|(simp;done)|omega|(simp;omega))).trans (by simp))));have r1:w3.cell? ⟨w.heap.size,1,none⟩=some (.slice none 0 0):=Ac hb_w3 (Ac hb_w2 (Bh _ ((hc_w1 _ _ (by first|(simp;done)|omega|(simp;omega))).trans (by simp))));have r2:w3.cell? ⟨w.heap.size,2,none⟩=some (.slice none 0 0):=Ac hb_w3 (Ac hb_w2 (Bh _ ((hc_w1 _ _ (by first|(simp;done)|omega|(simp;omega))).trans (by simp))));have r3:w3.cell? ⟨w.heap.size,3,none⟩=some (.slice none 0 0):=Ac hb_w3 (Ac hb_w2 (Bh _ ((hc_w1 _ _ (by first|(simp;done)|omega|(simp;omega))).trans (by simp))));have u1:Sl (fun b=>w.heap.size<b) w3 Bp B1 d1 es m1:=Al (fun b _ (h:_<=b)=>by have h2:=h;rw [World.size_alloc] at h2;show _<b;omega) (Ad s1 (by repeat (first|with_reducible exact Below.refl _ _|((with_reducible refine Below.setCell ?_ ?_ _);rotate_left;focus (first|(simp;done)|omega|(simp;omega)))|((with_reducible refine Below.alloc ?_ ?_ _);rotate_left;focus (first|(simp;done)|omega|(simp;omega)))|(with_reducible refine Below.drew ?_)|(with_reducible refine below_draws_ ?_ _)|((with_reducible refine Below.trans ?_ (Below.mono hb_w2 ?_));rotate_left;focus (first|(simp;done)|omega|(simp;omega)))|((with_reducible refine Below.trans ?_ (Below.mono hb_w3 ?_));rotate_left;focus (first|(simp;done)|omega|(simp;omega))))));have u2:Sl (fun b=>w.heap.size<b) w3 .int B2 d2 xs m2:=Al (fun b _ (h:_<=b)=>by have h2:=h;rw [World.size_alloc] at h2;show _<b;omega) (Ad s2 (by repeat (first|with_reducible exact Below.refl _ _|((with_reducible refine Below.setCell ?_ ?_ _);rotate_left;focus (first|(simp;done)|omega|(simp;omega)))|((with_reducible refine Below.alloc ?_ ?_ _);rotate_left;focus (first|(simp;done)|omega|(simp;omega)))|(with_reducible refine Below.drew ?_)|(with_reducible refine below_draws_ ?_ _)|((with_reducible refine Below.trans ?_ (Below.mono hb_w2 ?_));rotate_left;focus (first|(simp;done)|omega|(simp;omega)))|((with_reducible refine Below.trans ?_ (Below.mono hb_w3 ?_));rotate_left;focus (first|(simp;done)|omega|(simp;omega))))));have u3:Sl (fun b=>w.heap.size<b) w3 .int B3 d3 ys m3:=Al (fun b _ (h:_<=b)=>by have h2:=h;rw [World.size_alloc] at h2;show _<b;omega) (Ad s3 (by repeat (first|with_reducible exact Below.refl _ _|((with_reducible refine Below.setCell ?_ ?_ _);rotate_left;focus (first|(simp;done)|omega|(simp;omega)))|((with_reducible refine Below.alloc ?_ ?_ _);rotate_left;focus (first|(simp;done)|omega|(simp;omega)))|(with_reducible refine Below.drew ?_)|(with_reducible refine below_draws_ ?_ _)|((with_reducible refine Below.trans ?_ (Below.mono hb_w2 ?_));rotate_left;focus (first|(simp;done)|omega|(simp;omega)))|((with_reducible refine Below.trans ?_ (Below.mono hb_w3 ?_));rotate_left;focus (first|(simp;done)|omega|(simp;omega))))));have uF:Fresh w3 w.heap.size (m1++(m2++m3)):=(hF.below (by repeat (first|with_reducible exact Below.refl _ _|((with_reducible refine Below.setCell ?_ ?_ _);rotate_left;focus (first|(simp;done)|omega|(simp;omega)))|((with_reducible refine Below.alloc ?_ ?_ _);rotate_left;focus (first|(simp;done)|omega|(simp;omega)))|(with_reducible refine Below.drew ?_)|(with_reducible refine below_draws_ ?_ _)|((with_reducible refine Below.trans ?_ (Below.mono hb_w2 ?_));rotate_left;focus (first|(simp;done)|omega|(simp;omega)))|((with_reducible refine Below.trans ?_ (Below.mono hb_w3 ?_));rotate_left;focus (first|(simp;done)|omega|(simp;omega)))))).le (by simp);have bb:Below w.heap.size w w3:=(by repeat (first|with_reducible exact Below.refl _ _|((with_reducible refine Below.setCell ?_ ?_ _);rotate_left;focus (first|(simp;done)|omega|(simp;omega)))|((with_reducible refine Below.alloc ?_ ?_ _);rotate_left;focus (first|(simp;done)|omega|(simp;omega)))|(with_reducible refine Below.drew ?_)|(with_reducible refine below_draws_ ?_ _)|((with_reducible refine Below.trans ?_ (Below.mono hb_w1 ?_));rotate_left;focus (first|(simp;done)|omega|(simp;omega)))|((with_reducible refine Below.trans ?_ (Below.mono hb_w2 ?_));rotate_left;focus (first|(simp;done)|omega|(simp;omega)))|((with_reducible refine Below.trans ?_ (Below.mono hb_w3 ?_));rotate_left;focus (first|(simp;done)|omega|(simp;omega)))))
    clear s1 s2 s3 hF
    refine bodyPost_ret (v:=.tuple #[.agg #[.int .i64 W,.slice B1 es.length d1,.slice B2 xs.length d2,.slice B3 ys.length d3],.bool true]) (by clear hc_w3 hc_w2 hc_w1 u1 u2 u3 uF;simp [results,Tryz.results5,go_sem, *]) rfl ⟨B1,d1,m1,B2,d2,m2,B3,d3,m3,rfl,?_,?_,?_,?_,?_⟩
    ·exact Al (fun b _ h=>by have h1:w.heap.size<b:=h;show _<=b;omega) (Ah (Ah (Ah (Ah u1 (fun b h=>by have h1:w.heap.size<b:=h;omega) _ _) (fun b h=>by have h1:w.heap.size<b:=h;omega) _ _) (fun b h=>by have h1:w.heap.size<b:=h;omega) _ _) (fun b h=>by have h1:w.heap.size<b:=h;omega) _ _)
    ·exact Al (fun b _ h=>by have h1:w.heap.size<b:=h;show _<=b;omega) (Ah (Ah (Ah (Ah u2 (fun b h=>by have h1:w.heap.size<b:=h;omega) _ _) (fun b h=>by have h1:w.heap.size<b:=h;omega) _ _) (fun b h=>by have h1:w.heap.size<b:=h;omega) _ _) (fun b h=>by have h1:w.heap.size<b:=h;omega) _ _)
    ·exact Al (fun b _ h=>by have h1:w.heap.size<b:=h;show _<=b;omega) (Ah (Ah (Ah (Ah u3 (fun b h=>by have h1:w.heap.size<b:=h;omega) _ _) (fun b h=>by have h1:w.heap.size<b:=h;omega) _ _) (fun b h=>by have h1:w.heap.size<b:=h;omega) _ _) (fun b h=>by have h1:w.heap.size<b:=h;omega) _ _)
    ·exact Aw (Aw (Aw (Aw uF _ _) _ _) _ _) _ _
    ·exact bb.trans (by repeat (first|with_reducible exact Below.refl _ _|((with_reducible refine Below.setCell ?_ ?_ _);rotate_left;focus (first|(simp;done)|omega|(simp;omega)))|((with_reducible refine Below.alloc ?_ ?_ _);rotate_left;focus (first|(simp;done)|omega|(simp;omega)))|(with_reducible refine Below.drew ?_)|(with_reducible refine below_draws_ ?_ _)))
end
section
open Go.RowKit Go.Deep
theorem Ty.Val.lay1 {R:Nat->Prop} {w:World} {g:Nat}:∀ {t:Ty} {cs:List Value} {x:t.D} {ls:List Addr} {o:Nat},Ty.Val R w t cs x ls->(∀ j,j<cs.length->w.cell? ⟨g,o+j,none⟩=cs[j]?)->∃ l,Ty.Mem R w t ⟨g,o,none⟩ x l
 | .int,_,_,_,o,⟨rfl,_⟩,hc=>⟨[⟨g,o,none⟩],⟨by simpa using hc 0 (by simp),rfl⟩⟩
 | .bool,_,_,_,o,⟨rfl,_⟩,hc=>⟨[⟨g,o,none⟩],⟨by simpa using hc 0 (by simp),rfl⟩⟩
 | .str,_,_,_,o,⟨rfl,_⟩,hc=>⟨[⟨g,o,none⟩],⟨by simpa using hc 0 (by simp),rfl⟩⟩
 | .slice t,_,xs,ls,o,⟨A,c,rfl,he⟩,hc=>⟨ls,⟨A,c,by simpa using hc 0 (by simp),he⟩⟩
 | .pair t u,_,x,_,o,⟨c1,c2,l1,l2,rfl,h1,h2,rfl⟩,hc=>by
  have e1:=h1.length;have e2:=h2.length;obtain ⟨m1,q1⟩:=Ty.Val.lay1 (o:=o) h1 (fun j hj=>by rw [hc j (by rw [List.length_append];omega),List.getElem?_append_left hj])
  obtain ⟨m2,r1⟩:=Ty.Val.lay1 (o:=o+t.size) h2 (fun j hj=>by
   rw [Nat.add_assoc,hc _ (by rw [List.length_append];omega),List.getElem?_append_right oM];congr 1;omega)
  exact ⟨m1++m2,⟨m1,m2,q1,by rw [A4];exact r1,rfl⟩⟩
def GrowW (lo:Nat) (w:World) (e:TypeId) (t:Ty) (v:Value) (xs:List t.D):Prop :=
 ∃ cs:List Value,w.ownsRow lo e t.size v xs.length cs/\∀ (j:Nat) (hj:j<xs.length),∃ l,Ty.Val (fun b=>lo<=b/\some b≠v.ownBlock) w t ((cs.drop (j*t.size)).take t.size) (xs[j]'hj) l
section
variable {lo:Nat} {w w' w0:World} {e:TypeId} {t:Ty} {v:Value} {xs:List t.D}
theorem GrowW.nil (lo:Nat) (w:World) (e:TypeId) (t:Ty):GrowW lo w e t (.slice none 0 0) []:=⟨[],World.ownsRow_nil w lo e t.size,fun j hj=>absurd hj (by simp)⟩
theorem GrowW.below (h:GrowW lo w e t v xs) (hb:Below w.heap.size w w'):GrowW lo w' e t v xs:=by
 obtain ⟨cs,h1,h2⟩:=h;exact ⟨cs,Dw h1 hb,fun j hj=>(h2 j hj).imp fun l h=>J6 h hb⟩
theorem GrowW.len (h:GrowW lo w e t v xs):∃ A c,v=.slice A xs.length c/\xs.length<=c/\c<=maxLen:=by
 obtain ⟨cs,h1,_⟩:=h;rcases h1.2 with ⟨rfl,hn⟩|⟨g,cap,cur,rfl,_,_,h2,h3,_⟩
 ·exact ⟨none,0,by rw [hn],by omega,by simp [maxLen]⟩
 ·exact ⟨_,cap,rfl,h2,h3⟩
theorem GrowW.lt (h:GrowW lo w e t v xs):∀ k,v.ownBlock=some k->lo<=k/\k<w.heap.size:=by
 obtain ⟨cs,h1,_⟩:=h;exact fun k hk=>h1.lt k hk
theorem GrowW.out {X:Nat} (h:GrowW lo w e t v xs) (hX:X<lo) (i:Nat) (u:Value):GrowW lo (w.setCell ⟨X,i,none⟩ u) e t v xs:=by
 obtain ⟨cs,h1,h2⟩:=h;exact ⟨cs,ownsRow_setCell_below h1 hX u,fun j hj=>(h2 j hj).imp fun l h=>h.keep (fun p q hr hc _=>Fg hc (by have:=hr.1;show p.block≠X;omega))⟩
theorem GrowW.done (h:GrowW lo w e t v xs):∃ A c l,v=.slice A xs.length c/\Sl (Bu lo) w t A c xs l:=by
 obtain ⟨cs,h1,h2⟩:=h;rcases h1.2 with ⟨rfl,hn⟩|⟨g,cap,cur,rfl,hlo,hg,hc,hm,hs,htake⟩
 ·exact ⟨none,0,[],by rw [hn],by omega,by simp [maxLen],fun _=>[],by simp,fun h=>absurd h oM⟩
 ·have key:∀ j:Nat,∃ l,∀ hj:j<xs.length,Ty.Mem (Bu lo) w t ⟨g,j*t.size,none⟩ (xs[j]'hj) l:=fun j=>by
   by_cases hj:j<xs.length
   ·obtain ⟨l,hl⟩:=h2 j hj;have hle:(j+1)*t.size<=xs.length*t.size:=Nat.mul_le_mul_right _ hj;rw [Nat.succ_mul] at hle
    obtain ⟨l',hl'⟩:=(hl.mono fun _ _ hb=>hb.1:Ty.Val (Bu lo) w t _ _ l).lay1 (g:=g) (o:=j*t.size) (fun i hi=>by
     have hi2:i<t.size:=by simp only [List.length_take] at hi;omega
     have hlen:=h1.1;have:=h1.cells (g:=g) rfl (j*t.size+i) cs[j*t.size+i] (gEg oM);rw [A4,Nat.zero_add] at this;rw [this,List.getElem?_take_of_lt hi2,List.getElem?_drop,gEg oM])
    exact ⟨l',fun _=>hl'⟩
   ·exact ⟨[],fun h=>absurd h hj⟩
  refine ⟨_,cap,_,rfl,hc,hm,fun j=>(key j).choose,rfl,fun _=>⟨_,rfl,hlo,fun i hi=>?_⟩⟩;rw [A4,Nat.zero_add];exact (key i).choose_spec hi
theorem GrowW.push {cs:List Value} {x:t.D} {l:List Addr} (h:GrowW lo w0 e t v xs) (hb:Below w0.heap.size w0 w) (hlo:lo<=w0.heap.size) (hv:Ty.Val (Bu w0.heap.size) w t cs x l) :
  ∃ olds,w.ownsRow lo e t.size v xs.length olds/\∀ v' w',w'.ownsRow lo e t.size v' (xs.length+1) (olds++cs)->w.grownBy w' v.ownBlock->(∀ g',v'.ownBlock=some g'->v.ownBlock=some g'∨w.heap.size<=g')->GrowW lo w' e t v' (xs++[x]):=by
 have hlt0:=h.lt;obtain ⟨olds,h1,h2⟩:=h;refine ⟨olds,Dw h1 hb,fun v' w' hown hg hwh=>?_⟩;have hl:=hv.length;have hol:=h1.1;have hmul:∀ j,j<xs.length->(j+1)*t.size<=xs.length*t.size:=fun j hj=>Nat.mul_le_mul_right _ hj
 have hv':Ty.Val (fun b=>lo<=b/\some b≠v.ownBlock) w t cs x l:=hv.mono fun b _ (hr:w0.heap.size<=b)=>⟨by omega,fun e=>by have:=(hlt0 b e.symm).2;omega⟩
 have keep:∀ {cs:List Value} {y:t.D} {l:List Addr},Ty.Val (fun b=>lo<=b/\some b≠v.ownBlock) w t cs y l->Ty.Val (fun b=>lo<=b/\some b≠v'.ownBlock) w' t cs y l:=fun {cs y l} h=>by
  have h':Ty.Val (fun b=>(lo<=b/\some b≠v.ownBlock)/\b<w.heap.size) w t cs y l:=h.mono fun b hb hr=>⟨hr,hb⟩
  have h'':=h'.keep (w':=w') (fun p u hr hc _=>hg.cell hc hr.1.2);exact h''.mono fun b _ hr=>⟨hr.1.1,fun e=>(hwh b e.symm).elim (fun q=>hr.1.2 q.symm) (fun q=>by have:=hr.2;omega)⟩
 refine ⟨olds++cs,by simpa using hown,fun j hj=>?_⟩;by_cases e:j=xs.length
 ·subst e
  have e2:(((olds++cs).drop (xs.length*t.size)).take t.size)=cs:=by
   rw [List.drop_append_of_le_length oM,List.drop_of_length_le oM,List.nil_append,List.take_of_length_le oM]
  rw [e2];exact ⟨l,by simpa using keep hv'⟩
 ·have hj':j<xs.length:=by simp at hj;omega
  have:=hmul j hj';rw [Nat.succ_mul] at this
  have e2:(((olds++cs).drop (j*t.size)).take t.size)=((olds.drop (j*t.size)).take t.size):=by
   rw [List.drop_append_of_le_length oM,List.take_append_of_le_length (by rw [List.length_drop];omega)]
  rw [e2,List.getElem_append_left hj'];obtain ⟨l2,hl2⟩:=h2 j hj';exact ⟨l2,keep (J6 hl2 hb)⟩
end
section
variable {P:Program} {ops:Array Oper} {o:Oper} {a:Act} {Q:Exit->Act->World->Prop}
theorem H3 {lo:Nat} {w w0:World} {e:TypeId} {t:Ty} {v:Value} {xs:List t.D} {cs:List Value} {y:t.D} {l:List Addr} {K:Act->World->Prop} {E:Prop} (hgd:o.guard=none) (s x:Operand) (ty:TypeId) (ho:o.op=.call { callee:=.builtin .append,args:= #[s,x],argTypes:= #[ty,ty] }) (bytes:Nat) {z:Value} (ht:P.underlying ty=some (.slice e))
  (hinfo:(P.info? e).map (fun i=>(i.zero,i.size,i.bytes))=some (some z,t.size,bytes)) (hzs:z.cells.size=t.size) (hsz:0<t.size) (hs:a.eval s=v) (h:GrowW lo w0 e t v xs) (hb:Below w0.heap.size w0 w) (hlo:lo<=w0.heap.size) (hv:Ty.Val (Bu w0.heap.size) w t cs y l)
  {ad:Addr} {c:Nat} (hx:a.eval x=.slice (some ad) 1 c) (hc:∀ j u,cs[j]? =some u->w.cell? (ad.add j)=some u) (h1:∀ u∈cs,u.oneCell'=true) (hbytes:(xs.length+1)*bytes<=140737488355328) (h63:xs.length+1<=maxLen)
  (hK:∀ v' w',GrowW lo w' e t v' (xs++[y])->Below lo w w'->w.grownBy w' v.ownBlock->K (a.put o.dst v') w'):if Region.wanted o (yielded ops a.tmps)=true then Oper.wp P o a w K Q else E:=by
 have hw:Region.wanted o (yielded ops a.tmps)=true:=by simp [Region.wanted,hgd]
 rw [if_pos hw];obtain ⟨i,hi,hz,hsize,hby⟩:=info_parts hinfo;obtain ⟨olds,hown,hpush⟩:=h.push hb hlo hv;have hl:cs.length=1*t.size:=by rw [hv.length,Nat.one_mul]
 obtain ⟨v',w',hr,h2,h3,h4⟩:=Fw (P:=P) w lo ty o.type e i z t.size bytes ht hi hz hsize hby hzs hsz v xs.length olds hown ad 1 c cs hl hc h1 h63 hbytes (Nat.le_trans hlo hb.size);have hlt:=(h.below hb).lt;unfold Oper.wp execOp;simp only [ho,resolve,invoke,builtin,Sem.run_bind,Sem.run_pure,Result.andThen_ok,List.map_toArray,List.map_cons,List.map_nil,hs,hx,hr];exact hK v' w' (hpush v' w' h2 h3 h4) ((Below.refl lo w).grown h3 (Nat.le_trans hlo hb.size) (fun k hk=>(hlt k hk).1)) h3
end
end
end Go.Proofs.YtjlcpiemabfpiaaGreatDoor
