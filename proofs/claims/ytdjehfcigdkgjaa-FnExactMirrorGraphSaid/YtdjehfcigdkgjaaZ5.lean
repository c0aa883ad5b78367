/- Lemmas on the program and on partial functions that stand in place of its code (part 5); no condition beyond those that each one states. -/
import Derived.Test.YtdjehfcigdkgjaaZ4
import Derived.Deep.DeepAppendRoom
import Derived.Deep.RegionHeld3
import Derived.Deep.RegionHeldLaw
import Derived.Deep.DeepCutAuto
namespace Go.Proofs.Ytdjehfcigdkgjaa
section
open Go.RowKit Go.Deep
theorem Jz (f:Nat->List Addr) {j n:Nat} (h:j<n):∃ r,(List.range n).flatMap f=(List.range j).flatMap f++(f j++r):=by
 obtain ⟨d,rfl⟩:∃ d,n=(j+1)+d:=⟨n - (j+1),by omega⟩
 exact ⟨((List.range d).map ((j+1)+·)).flatMap f,by rw [List.range_add,List.flatMap_append,Bz,List.append_assoc]⟩
theorem MarkedAs.header_ {l:List Addr} {k:Int} {w w':World} (h:MarkedAs l k w w') {p:Addr} {A:Option Addr} {n c:Nat} (hc:w.cell? p=some (.slice A n c)):w'.cell? p=some (.slice A n c) :=
 (h.kinds p _ hc).1 fun hl=>hl
set_option maxRecDepth 100000 in
set_option maxHeartbeats 1000000 in
theorem Nr {R:Nat->Prop} (xs:List (Int×Int×List Int×List Int)) (A:Option Addr) (c:Nat) (l:List Addr) (k:Int) (lo:Nat) (w:World) (h:Sl R w As A c xs l) (hf:Fresh w lo l) (hk:0<=k/\k+l.length<=9223372036854775807) :
  Calls Try.prog 22 #[.slice A xs.length c,.int .i64 k] w fun e w'=>e=.returned (.int .i64 (k+l.length))/\MarkedAs l k w w':=by
 have hn:=(Hd h).2;rcases Nat.eq_zero_or_pos xs.length with h0|h0
 ·obtain rfl:xs=[]:=List.length_eq_zero_iff.1 h0;obtain ⟨_,_,f,rfl,_⟩:=h
  go_enter Try.func22,Try.ntmps22
  go_wp2
  go_loopw [1,5] (fun m i wr=>i=.int .i64 0/\m=.int .i64 k/\wr=w) (fun _ i _=>0)
  case atStart=>exact ⟨rfl,rfl,rfl⟩
  case round =>
   obtain ⟨rfl,rfl,rfl⟩:=hrel
   go_wp2
   go_ret
   exact ⟨H7 (by simp),MarkedAs.nil _ k⟩
 obtain ⟨b,o,f,rfl,rfl,hs⟩:=Kq h h0
 go_enter Try.func22,Try.ntmps22
 go_wp2
 go_loopw [1,5] (fun m i wr=>∃ (j:Nat) (F:List Addr),Hid (F=(List.range j).flatMap f)/\j<=xs.length/\i=.int .i64 j/\m=.int .i64 (k+F.length)/\MarkedAs F k w wr) (fun _ i _=>xs.length - (intOf i).toNat)
 case atStart=>exact ⟨0,[],rfl,by omega,rfl,by simp,MarkedAs.nil w k⟩
 case round =>
  obtain ⟨j,F,hFe,hj,rfl,rfl,hm⟩:=hrel;by_cases hlt:j<xs.length
  ·obtain ⟨A2,c2,l2,A3,c3,l3,e0,e1,e2,e3,s2,s3,hfj⟩:=hs j hlt;obtain ⟨r,hr⟩:=Jz f hlt;rw [← hFe.out,hfj] at hr;have hk2:=hk;have g0:=hf;rw [hr] at g0 hk2;simp only [List.length_append,List.length_cons] at hk2;simp only [List.cons_append,List.append_assoc] at g0;obtain ⟨x,hx⟩:∃ x,x=xs[j]:=⟨_,rfl⟩
   rw [← hx] at e0 e1 e2 e3 s2 s3;have HG:=Lib.hid g0;obtain ⟨z0,y0⟩:=hm.spot HG.out e0;have m1:=hm.put HG.out e0 trivial (v:=.int .i64 (k+F.length)) rfl;have G1:=HG.out.next1;obtain ⟨z1',y1'⟩:=hm.spotM HG.out (by simp) e1;obtain ⟨z1,y1⟩:=m1.spot G1 e1;have m2:=m1.put G1 e1 trivial (v:=.int .i64 (k+F.length+1)) (by simp only [Lg,List.length_append,List.length_cons,List.length_nil];congr 1;omega);have G2:=G1.next1;have d2:=m2.header_ e2;have t2:=m2.sl_ G2 s2;have f2:=m2.rest G2;have HM2:=Lib.hid m2
   clear hs g0 hr hx hf hk h hm m1 m2
   go_wp2_with fail
   refine (Fd x.2.2.1 A2 c2 l2 (k+F.length+1+1) lo _ t2 f2 oM).mono ?_;rintro e w2 ⟨rfl,m3⟩;have m4:=HM2.out.then_ G2 (by simp only [List.length_append,List.length_cons,List.length_nil];omega) m3;have G3:=G2.next;have d3:=m4.header_ e3;have t3:=m4.sl_ G3 s3;have f3:=m4.rest G3;have HM4:=Lib.hid m4
   clear m3 m4 HM2
   go_wp2_with fail
   refine (Fd x.2.2.2 A3 c3 l3 (k+F.length+1+1+l2.length) lo _ t3 f3 oM).mono ?_;rintro e w3 ⟨rfl,m5⟩;have hM:=Lib.hid (HM4.out.then_ G3 (by simp only [List.length_append,List.length_cons,List.length_nil];omega) m5)
   clear m5 HM4
   go_wp2_with fail
   go_roundw
   case rel=>exact ⟨j+1,_,Lib.hid (by rw [Bz,← hFe.out,hfj];simp),by omega,by go_num,by simp only [List.length_append,List.length_cons,List.length_nil];congr 1;omega,hM.out⟩
   case measure=>simp [intOf];omega
  ·obtain rfl:j=xs.length:=by omega
   go_wp2
   go_ret
   rw [← hFe.out];exact ⟨rfl,hm⟩
set_option maxRecDepth 100000 in
set_option maxHeartbeats 1000000 in
theorem Nz {R:Nat->Prop} (xs:List (Int×Int×List Int×List Int)) (A:Option Addr) (c:Nat) (l:List Addr) (k:Int) (w:World) (h:Sl R w As A c xs l) (hh:HeldAs l k w) (hk:0<=k/\k+l.length<=9223372036854775807) :
  Calls Try.prog 24 #[.slice A xs.length c,.int .i64 k] w fun e w'=>e=.returned (.int .i64 (k+l.length))/\Below w.heap.size w w':=by
 have hn:=(Hd h).2;rcases Nat.eq_zero_or_pos xs.length with h0|h0
 ·obtain rfl:xs=[]:=List.length_eq_zero_iff.1 h0;obtain ⟨_,_,f,rfl,_⟩:=h
  go_enter Try.func24,Try.ntmps24
  go_wp2
  go_loopw [1,5] (fun m i wr=>i=.int .i64 0/\m=.int .i64 k/\wr=w) (fun _ i _=>0)
  case atStart=>exact ⟨rfl,rfl,rfl⟩
  case round =>
   obtain ⟨rfl,rfl,rfl⟩:=hrel
   go_wp2
   go_ret
   exact ⟨H7 (by simp),by repeat (first|with_reducible exact Below.refl _ _|((with_reducible refine Below.setCell ?_ ?_ _);rotate_left;focus (first|(simp;done)|omega|(simp;omega)))|((with_reducible refine Below.alloc ?_ ?_ _);rotate_left;focus (first|(simp;done)|omega|(simp;omega)))|(with_reducible refine Below.drew ?_)|(with_reducible refine below_draws_ ?_ _))⟩
 obtain ⟨b,o,f,rfl,rfl,hs⟩:=Kq h h0
 go_enter Try.func24,Try.ntmps24
 go_wp2
 go_loopw [1,5] (fun m i wr=>∃ (j:Nat) (F:List Addr),Hid (F=(List.range j).flatMap f)/\j<=xs.length/\i=.int .i64 j/\m=.int .i64 (k+F.length)/\Below w.heap.size w wr) (fun _ i _=>xs.length - (intOf i).toNat)
 case atStart=>exact ⟨0,[],rfl,by omega,rfl,by simp,by repeat (first|with_reducible exact Below.refl _ _|((with_reducible refine Below.setCell ?_ ?_ _);rotate_left;focus (first|(simp;done)|omega|(simp;omega)))|((with_reducible refine Below.alloc ?_ ?_ _);rotate_left;focus (first|(simp;done)|omega|(simp;omega)))|(with_reducible refine Below.drew ?_)|(with_reducible refine below_draws_ ?_ _))⟩
 case round =>
  obtain ⟨j,F,hFe,hj,rfl,rfl,hbl⟩:=hrel;by_cases hlt:j<xs.length
  ·obtain ⟨A2,c2,l2,A3,c3,l3,e0,e1,e2,e3,s2,s3,hfj⟩:=hs j hlt;obtain ⟨r,hr⟩:=Jz f hlt;rw [← hFe.out,hfj] at hr;have hk2:=hk;rw [hr] at hh hk2;simp only [List.length_append,List.length_cons] at hk2;have h1:=hh.right.left;obtain ⟨u0,_,q0⟩:=h1 0 (by simp);obtain ⟨u1,_,q1⟩:=h1 1 (by simp);simp only [List.getElem_cons_zero,List.getElem_cons_succ,e0,e1] at q0 q1;have v0:xs[j].1=k+F.length:=by cases u0 <;> simp [Lg] at q0;omega
   have v1:xs[j].2.1=k+F.length+1:=by cases u1 <;> simp [Lg] at q1;omega
   have h2:HeldAs (l2++l3) (k+F.length+1+1) w:=by
    have:=(show HeldAs ([⟨b,o+j*4,none⟩,⟨b,o+j*4+1,none⟩]++(l2++l3)) _ w from h1).right
    simpa [Int.add_assoc] using this
   obtain ⟨x,hx⟩:∃ x,x=xs[j]:=⟨_,rfl⟩
   rw [← hx] at e0 e1 e2 e3 s2 s3 v0 v1;rw [v0] at e0;rw [v1] at e1;have d0:=Aa hbl e0;have d1:=Aa hbl e1;have d2:=Aa hbl e2;have d3:=Aa hbl e3
   clear hr hx hh h1 q0 q1 v0 v1 e0 e1 e2 e3
   go_wp2_with fail
   refine (Fc x.2.2.1 A2 c2 l2 (k+F.length+1+1) _ (by exact Ab s2 hbl) (by exact h2.left.below hbl) oM).mono ?_;rintro e w2 ⟨rfl,hb1⟩;have d3':=Aa hb1 d3;have hb2:=hbl.trans (hb1.mono hbl.size)
   go_wp2_with fail
   refine (Fc x.2.2.2 A3 c3 l3 (k+F.length+1+1+l2.length) _ (by exact Ab s3 hb2) (by exact h2.right.below hb2) oM).mono ?_;rintro e w3 ⟨rfl,hb3⟩
   go_wp2_with fail
   go_roundw
   case rel=>exact ⟨j+1,F++f j,Lib.hid (by rw [Bz,← hFe.out]),by omega,by go_num,by rw [hfj];simp only [List.length_append,List.length_cons];congr 1;omega,hb2.trans (hb3.mono hb2.size)⟩
   case measure=>simp [intOf];omega
  ·obtain rfl:j=xs.length:=by omega
   go_wp2
   go_ret
   rw [← hFe.out];exact ⟨rfl,hbl⟩
end
section
open Go.RowKit Go.Deep
set_option maxHeartbeats 1000000 in
theorem Ir {R1:Nat->Prop} {R2:Nat->Prop} {R3:Nat->Prop} (x0:Int) (x1:List (Int×Int×(List Int)×(List Int))) (A1:Option Addr) (c1:Nat) (l1:List Addr) (x2:List (Int)) (A2:Option Addr) (c2:Nat) (l2:List Addr) (x3:List (Int)) (A3:Option Addr) (c3:Nat) (l3:List Addr) (k:Int) (lo:Nat) (w:World) (s1:Sl R1 w As A1 c1 x1 l1) (s2:Sl R2 w .int A2 c2 x2 l2) (s3:Sl R3 w .int A3 c3 x3 l3) (hf:Fresh w lo (l1++(l2++l3))) (hk:0<=k/\k+(l1++(l2++l3)).length<=9223372036854775807) :
  Calls Try.prog 9 #[.agg #[.int .i64 x0,.slice A1 x1.length c1,.slice A2 x2.length c2,.slice A3 x3.length c3],.int .i64 k] w fun e w'=>e=.returned (.int .i64 (k+(l1++(l2++l3)).length))/\MarkedAs (l1++(l2++l3)) k w w':=by
 have hL:(l1++(l2++l3)).length=l1.length+l2.length+l3.length:=by simp [Nat.add_assoc]
 have hb0:Below w.heap.size w (w.alloc (.cells #[.int .i64 x0,.slice A1 x1.length c1,.slice A2 x2.length c2,.slice A3 x3.length c3] 29)):=(by repeat (first|with_reducible exact Below.refl _ _|((with_reducible refine Below.setCell ?_ ?_ _);rotate_left;focus (first|(simp;done)|omega|(simp;omega)))|((with_reducible refine Below.alloc ?_ ?_ _);rotate_left;focus (first|(simp;done)|omega|(simp;omega)))|(with_reducible refine Below.drew ?_)|(with_reducible refine below_draws_ ?_ _)))
 have f0:=hf.below hb0;have hbx:w.heap.size<(w.alloc (.cells #[.int .i64 x0,.slice A1 x1.length c1,.slice A2 x2.length c2,.slice A3 x3.length c3] 29)).heap.size:=by simp
 have s1_0:=Ab s1 hb0;have s2_0:=Ab s2 hb0;have s3_0:=Ab s3 hb0;have b2_0:(w.alloc (.cells #[.int .i64 x0,.slice A1 x1.length c1,.slice A2 x2.length c2,.slice A3 x3.length c3] 29)).cell? ⟨w.heap.size,2,none⟩=some (.slice A2 x2.length c2):=by simp
 have b3_0:(w.alloc (.cells #[.int .i64 x0,.slice A1 x1.length c1,.slice A2 x2.length c2,.slice A3 x3.length c3] 29)).cell? ⟨w.heap.size,3,none⟩=some (.slice A3 x3.length c3):=by simp
 have g0:∀ p∈(l1++(l2++l3)),p.block<w.heap.size:=fun p hp=>(hf.2 p hp).2.1
 go_enter Try.func9,Try.ntmps9
 go_wp2_with fail
 refine (Nr x1 A1 c1 l1 (k) lo _ s1_0 f0.sub1 oM).mono ?_;rintro e w1 ⟨rfl,m1⟩;have hz1:=m1.size;have s2_1:=m1.keepSl s2_0 (fun p hp hq=>(List.nodup_append.1 f0.1).2.2 _ hq _ (List.mem_append_left _ hp) rfl);have b2_1:w1.cell? ⟨w.heap.size,2,none⟩=some (.slice A2 x2.length c2):=(m1.frame.cell _ (show w.heap.size<_ by omega) (fun hp=>Nat.lt_irrefl w.heap.size (g0 _ (List.mem_append_left _ hp)))).trans b2_0;have s3_1:=m1.keepSl s3_0 (fun p hp hq=>(List.nodup_append.1 f0.1).2.2 _ hq _ (List.mem_append_right _ (hp)) rfl);have b3_1:w1.cell? ⟨w.heap.size,3,none⟩=some (.slice A3 x3.length c3):=(m1.frame.cell _ (show w.heap.size<_ by omega) (fun hp=>Nat.lt_irrefl w.heap.size (g0 _ (List.mem_append_left _ hp)))).trans b3_0;have f1:=f0.sub2.marked m1.frame
 go_wp2_with fail
 refine (Fd x2 A2 c2 l2 (k+l1.length) lo _ s2_1 f1.sub1 oM).mono ?_;rintro e w2 ⟨rfl,m2⟩;have hz2:=m2.size;have s3_2:=m2.keepSl s3_1 (fun p hp hq=>(List.nodup_append.1 f1.1).2.2 _ hq _ (hp) rfl);have b3_2:w2.cell? ⟨w.heap.size,3,none⟩=some (.slice A3 x3.length c3):=(m2.frame.cell _ (show w.heap.size<_ by omega) (fun hp=>Nat.lt_irrefl w.heap.size (g0 _ (List.mem_append_right _ (List.mem_append_left _ hp))))).trans b3_1;have f2:=f1.sub2.marked m2.frame
 go_wp2_with fail
 refine (Fd x3 A3 c3 l3 (k+l1.length+l2.length) lo _ s3_2 f2 oM).mono ?_;rintro e w3 ⟨rfl,m3⟩;have hz3:=m3.size
 go_wp2_with fail
 go_ret
 exact ⟨H7 (by rw [hL];omega),MarkedAs.after hb0 (m1.append (m2.append m3 f1) f0) g0⟩
set_option maxHeartbeats 1000000 in
theorem Iv {R1:Nat->Prop} {R2:Nat->Prop} {R3:Nat->Prop} (x0:Int) (x1:List (Int×Int×(List Int)×(List Int))) (A1:Option Addr) (c1:Nat) (l1:List Addr) (x2:List (Int)) (A2:Option Addr) (c2:Nat) (l2:List Addr) (x3:List (Int)) (A3:Option Addr) (c3:Nat) (l3:List Addr) (k:Int) (w:World) (s1:Sl R1 w As A1 c1 x1 l1) (s2:Sl R2 w .int A2 c2 x2 l2) (s3:Sl R3 w .int A3 c3 x3 l3) (hh:HeldAs (l1++(l2++l3)) k w) (hk:0<=k/\k+(l1++(l2++l3)).length<=9223372036854775807) :
  Calls Try.prog 10 #[.agg #[.int .i64 x0,.slice A1 x1.length c1,.slice A2 x2.length c2,.slice A3 x3.length c3],.int .i64 k] w fun e w'=>e=.returned (.int .i64 (k+(l1++(l2++l3)).length))/\Below w.heap.size w w':=by
 have hL:(l1++(l2++l3)).length=l1.length+l2.length+l3.length:=by simp [Nat.add_assoc]
 have h1:=hh.left;have hr0:=hh.right;have h2:=hr0.left;have hr1:=hr0.right;have h3:=hr1
 go_enter Try.func10,Try.ntmps10
 go_wp2_with fail
 (refine (Nz x1 A1 c1 l1 (k) _ (by exact Ab s1 (by repeat (first|with_reducible exact Below.refl _ _|((with_reducible refine Below.setCell ?_ ?_ _);rotate_left;focus (first|(simp;done)|omega|(simp;omega)))|((with_reducible refine Below.alloc ?_ ?_ _);rotate_left;focus (first|(simp;done)|omega|(simp;omega)))|(with_reducible refine Below.drew ?_)|(with_reducible refine below_draws_ ?_ _)))) (by exact h1.below (by repeat (first|with_reducible exact Below.refl _ _|((with_reducible refine Below.setCell ?_ ?_ _);rotate_left;focus (first|(simp;done)|omega|(simp;omega)))|((with_reducible refine Below.alloc ?_ ?_ _);rotate_left;focus (first|(simp;done)|omega|(simp;omega)))|(with_reducible refine Below.drew ?_)|(with_reducible refine below_draws_ ?_ _)))) oM).mono ?_;rintro e w1 ⟨rfl,hb_w1⟩;obtain ⟨hc_w1,hf_w1⟩:=B0 hb_w1;have hz_w1:=hb_w1.size;(try simp at hz_w1);have hl_w1_0:w.heap.size<w1.heap.size:=oM);go_wp2_with fail
 (refine (Fc x2 A2 c2 l2 (k+l1.length) _ (by exact Ab s2 (by repeat (first|with_reducible exact Below.refl _ _|((with_reducible refine Below.setCell ?_ ?_ _);rotate_left;focus (first|(simp;done)|omega|(simp;omega)))|((with_reducible refine Below.alloc ?_ ?_ _);rotate_left;focus (first|(simp;done)|omega|(simp;omega)))|(with_reducible refine Below.drew ?_)|(with_reducible refine below_draws_ ?_ _)|((with_reducible refine Below.trans ?_ (Below.mono hb_w1 ?_));rotate_left;focus (first|(simp;done)|omega|(simp;omega)))))) (by exact h2.below (by repeat (first|with_reducible exact Below.refl _ _|((with_reducible refine Below.setCell ?_ ?_ _);rotate_left;focus (first|(simp;done)|omega|(simp;omega)))|((with_reducible refine Below.alloc ?_ ?_ _);rotate_left;focus (first|(simp;done)|omega|(simp;omega)))|(with_reducible refine Below.drew ?_)|(with_reducible refine below_draws_ ?_ _)|((with_reducible refine Below.trans ?_ (Below.mono hb_w1 ?_));rotate_left;focus (first|(simp;done)|omega|(simp;omega)))))) oM).mono ?_;rintro e w2 ⟨rfl,hb_w2⟩;obtain ⟨hc_w2,hf_w2⟩:=B0 hb_w2;have hz_w2:=hb_w2.size;(try simp at hz_w2);have hl_w2_0:w.heap.size<w2.heap.size:=oM);go_wp2_with fail
 (refine (Fc x3 A3 c3 l3 (k+l1.length+l2.length) _ (by exact Ab s3 (by repeat (first|with_reducible exact Below.refl _ _|((with_reducible refine Below.setCell ?_ ?_ _);rotate_left;focus (first|(simp;done)|omega|(simp;omega)))|((with_reducible refine Below.alloc ?_ ?_ _);rotate_left;focus (first|(simp;done)|omega|(simp;omega)))|(with_reducible refine Below.drew ?_)|(with_reducible refine below_draws_ ?_ _)|((with_reducible refine Below.trans ?_ (Below.mono hb_w1 ?_));rotate_left;focus (first|(simp;done)|omega|(simp;omega)))|((with_reducible refine Below.trans ?_ (Below.mono hb_w2 ?_));rotate_left;focus (first|(simp;done)|omega|(simp;omega)))))) (by exact h3.below (by repeat (first|with_reducible exact Below.refl _ _|((with_reducible refine Below.setCell ?_ ?_ _);rotate_left;focus (first|(simp;done)|omega|(simp;omega)))|((with_reducible refine Below.alloc ?_ ?_ _);rotate_left;focus (first|(simp;done)|omega|(simp;omega)))|(with_reducible refine Below.drew ?_)|(with_reducible refine below_draws_ ?_ _)|((with_reducible refine Below.trans ?_ (Below.mono hb_w1 ?_));rotate_left;focus (first|(simp;done)|omega|(simp;omega)))|((with_reducible refine Below.trans ?_ (Below.mono hb_w2 ?_));rotate_left;focus (first|(simp;done)|omega|(simp;omega)))))) oM).mono ?_;rintro e w3 ⟨rfl,hb_w3⟩;obtain ⟨hc_w3,hf_w3⟩:=B0 hb_w3;have hz_w3:=hb_w3.size;(try simp at hz_w3);have hl_w3_0:w.heap.size<w3.heap.size:=oM);go_wp2_with fail
 go_ret
 exact ⟨H7 (by rw [hL];omega),by repeat (first|with_reducible exact Below.refl _ _|((with_reducible refine Below.setCell ?_ ?_ _);rotate_left;focus (first|(simp;done)|omega|(simp;omega)))|((with_reducible refine Below.alloc ?_ ?_ _);rotate_left;focus (first|(simp;done)|omega|(simp;omega)))|(with_reducible refine Below.drew ?_)|(with_reducible refine below_draws_ ?_ _)|((with_reducible refine Below.trans ?_ (Below.mono hb_w1 ?_));rotate_left;focus (first|(simp;done)|omega|(simp;omega)))|((with_reducible refine Below.trans ?_ (Below.mono hb_w2 ?_));rotate_left;focus (first|(simp;done)|omega|(simp;omega)))|((with_reducible refine Below.trans ?_ (Below.mono hb_w3 ?_));rotate_left;focus (first|(simp;done)|omega|(simp;omega))))⟩
end
section
open Go.RowKit Go.Deep
set_option maxHeartbeats 1000000 in
theorem F5 {R1:Nat->Prop} {R2:Nat->Prop} {R3:Nat->Prop} (x0:Int) (x1:List (Int×Int×(List Int)×(List Int))) (A1:Option Addr) (c1:Nat) (l1:List Addr) (x2:List (Int)) (A2:Option Addr) (c2:Nat) (l2:List Addr) (x3:List (Int)) (A3:Option Addr) (c3:Nat) (l3:List Addr) (w:World) (s1:Sl R1 w As A1 c1 x1 l1) (s2:Sl R2 w .int A2 c2 x2 l2) (s3:Sl R3 w .int A3 c3 x3 l3) (n1:x1.length<=1048576) (n2:x2.length<=1048576) (n3:x3.length<=1048576) (hok:∀ x∈x1,Ff x) (tab:Tab w) :
  Calls Try.prog 6 #[.agg #[.int .i64 x0,.slice A1 x1.length c1,.slice A2 x2.length c2,.slice A3 x3.length c3]] w fun e w'=>∃ B1 d1 m1 B2 d2 m2 B3 d3 m3,e=.returned (.agg #[.int .i64 x0,.slice B1 x1.length d1,.slice B2 x2.length d2,.slice B3 x3.length d3])/\Sl (A9 w.heap.size) w' As B1 d1 x1 m1/\Sl (A9 w.heap.size) w' .int B2 d2 x2 m2/\Sl (A9 w.heap.size) w' .int B3 d3 x3 m3/\Fresh w' w.heap.size (m1++(m2++(m3)))/\Below w.heap.size w w':=by
 go_enter Try.func6,Try.ntmps6
 go_wp2_with fail
 (refine (Rk x1 A1 c1 l1 _ (by exact Ab s1 (by repeat (first|with_reducible exact Below.refl _ _|((with_reducible refine Below.setCell ?_ ?_ _);rotate_left;focus (first|(simp;done)|omega|(simp;omega)))|((with_reducible refine Below.alloc ?_ ?_ _);rotate_left;focus (first|(simp;done)|omega|(simp;omega)))|(with_reducible refine Below.drew ?_)|(with_reducible refine below_draws_ ?_ _)))) n1 hok (by exact tab.below (by repeat (first|with_reducible exact Below.refl _ _|((with_reducible refine Below.setCell ?_ ?_ _);rotate_left;focus (first|(simp;done)|omega|(simp;omega)))|((with_reducible refine Below.alloc ?_ ?_ _);rotate_left;focus (first|(simp;done)|omega|(simp;omega)))|(with_reducible refine Below.drew ?_)|(with_reducible refine below_draws_ ?_ _))))).mono ?_;rintro e w1 ⟨g1,d1,m1,rfl,t1,f1,hb_w1⟩;obtain ⟨hc_w1,hf_w1⟩:=B0 hb_w1;have hz_w1:=hb_w1.size;(try simp at hz_w1);have hl_w1_0:w.heap.size<w1.heap.size:=oM;have hl_w1_1:w.heap.size+1<w1.heap.size:=oM;have hl_w1_2:w.heap.size+2<w1.heap.size:=oM);go_wp2_with fail
 (refine (M6 x2 A2 c2 l2 _ (by exact Ab s2 (by repeat (first|with_reducible exact Below.refl _ _|((with_reducible refine Below.setCell ?_ ?_ _);rotate_left;focus (first|(simp;done)|omega|(simp;omega)))|((with_reducible refine Below.alloc ?_ ?_ _);rotate_left;focus (first|(simp;done)|omega|(simp;omega)))|(with_reducible refine Below.drew ?_)|(with_reducible refine below_draws_ ?_ _)|((with_reducible refine Below.trans ?_ (Below.mono hb_w1 ?_));rotate_left;focus (first|(simp;done)|omega|(simp;omega)))))) n2).mono ?_;rintro e w2 ⟨g2,d2,m2,rfl,t2,f2,hb_w2⟩;obtain ⟨hc_w2,hf_w2⟩:=B0 hb_w2;have hz_w2:=hb_w2.size;(try simp at hz_w2);have hl_w2_0:w.heap.size<w2.heap.size:=oM;have hl_w2_1:w.heap.size+1<w2.heap.size:=oM;have hl_w2_2:w.heap.size+2<w2.heap.size:=oM);go_wp2_with fail
 (refine (M6 x3 A3 c3 l3 _ (by exact Ab s3 (by repeat (first|with_reducible exact Below.refl _ _|((with_reducible refine Below.setCell ?_ ?_ _);rotate_left;focus (first|(simp;done)|omega|(simp;omega)))|((with_reducible refine Below.alloc ?_ ?_ _);rotate_left;focus (first|(simp;done)|omega|(simp;omega)))|(with_reducible refine Below.drew ?_)|(with_reducible refine below_draws_ ?_ _)|((with_reducible refine Below.trans ?_ (Below.mono hb_w1 ?_));rotate_left;focus (first|(simp;done)|omega|(simp;omega)))|((with_reducible refine Below.trans ?_ (Below.mono hb_w2 ?_));rotate_left;focus (first|(simp;done)|omega|(simp;omega)))))) n3).mono ?_;rintro e w3 ⟨g3,d3,m3,rfl,t3,f3,hb_w3⟩;obtain ⟨hc_w3,hf_w3⟩:=B0 hb_w3;have hz_w3:=hb_w3.size;(try simp at hz_w3);have hl_w3_0:w.heap.size<w3.heap.size:=oM;have hl_w3_1:w.heap.size+1<w3.heap.size:=oM;have hl_w3_2:w.heap.size+2<w3.heap.size:=oM);go_wp2_with fail
 refine bodyPost_ret (v:=.agg #[.int .i64 x0,.slice (some ⟨g1,0,none⟩) x1.length d1,.slice (some ⟨g2,0,none⟩) x2.length d2,.slice (some ⟨g3,0,none⟩) x3.length d3]) (by simp [results,Try.results6,go_sem, *]) rfl ⟨_,d1,m1,_,d2,m2,_,d3,m3,rfl,?_,?_,?_,?_,?_⟩
 ·exact Ws t1 (by repeat (first|with_reducible exact Above.refl _ _|((with_reducible refine Above.setCell ?_ ?_ _);rotate_left;focus (first|(simp;done)|omega|(simp;omega)))|(with_reducible refine Above.alloc ?_ _)|(with_reducible refine Above.drew ?_)|(with_reducible refine Above.drewN ?_ _)|(with_reducible refine Above.below ?_ hb_w2)|(with_reducible refine Above.below ?_ hb_w3))) (by first|(simp;done)|omega|(simp;omega))
 ·exact Ws t2 (by repeat (first|with_reducible exact Above.refl _ _|((with_reducible refine Above.setCell ?_ ?_ _);rotate_left;focus (first|(simp;done)|omega|(simp;omega)))|(with_reducible refine Above.alloc ?_ _)|(with_reducible refine Above.drew ?_)|(with_reducible refine Above.drewN ?_ _)|(with_reducible refine Above.below ?_ hb_w3))) (by first|(simp;done)|omega|(simp;omega))
 ·exact Ws t3 (by repeat (first|with_reducible exact Above.refl _ _|((with_reducible refine Above.setCell ?_ ?_ _);rotate_left;focus (first|(simp;done)|omega|(simp;omega)))|(with_reducible refine Above.alloc ?_ _)|(with_reducible refine Above.drew ?_)|(with_reducible refine Above.drewN ?_ _))) (by first|(simp;done)|omega|(simp;omega))
 ·have hA:=hb_w3.size;exact Fresh.le (Fresh.append' (w:=w1) f1 (by repeat (first|with_reducible exact Above.refl _ _|((with_reducible refine Above.setCell ?_ ?_ _);rotate_left;focus (first|(simp;done)|omega|(simp;omega)))|(with_reducible refine Above.alloc ?_ _)|(with_reducible refine Above.drew ?_)|(with_reducible refine Above.drewN ?_ _)|(with_reducible refine Above.below ?_ hb_w2)|(with_reducible refine Above.below ?_ hb_w3))) (Fresh.append' (w:=w2) f2 (by repeat (first|with_reducible exact Above.refl _ _|((with_reducible refine Above.setCell ?_ ?_ _);rotate_left;focus (first|(simp;done)|omega|(simp;omega)))|(with_reducible refine Above.alloc ?_ _)|(with_reducible refine Above.drew ?_)|(with_reducible refine Above.drewN ?_ _)|(with_reducible refine Above.below ?_ hb_w3))) (Fresh.above f3 (by repeat (first|with_reducible exact Above.refl _ _|((with_reducible refine Above.setCell ?_ ?_ _);rotate_left;focus (first|(simp;done)|omega|(simp;omega)))|(with_reducible refine Above.alloc ?_ _)|(with_reducible refine Above.drew ?_)|(with_reducible refine Above.drewN ?_ _)))) (by first|(simp;done)|omega|(simp;omega)) (by first|(simp;done)|omega|(simp;omega))) (by first|(simp;done)|omega|(simp;omega)) (by first|(simp;done)|omega|(simp;omega))) (by first|(simp;done)|omega|(simp;omega))
 ·exact (by repeat (first|with_reducible exact Below.refl _ _|((with_reducible refine Below.setCell ?_ ?_ _);rotate_left;focus (first|(simp;done)|omega|(simp;omega)))|((with_reducible refine Below.alloc ?_ ?_ _);rotate_left;focus (first|(simp;done)|omega|(simp;omega)))|(with_reducible refine Below.drew ?_)|(with_reducible refine below_draws_ ?_ _)|((with_reducible refine Below.trans ?_ (Below.mono hb_w1 ?_));rotate_left;focus (first|(simp;done)|omega|(simp;omega)))|((with_reducible refine Below.trans ?_ (Below.mono hb_w2 ?_));rotate_left;focus (first|(simp;done)|omega|(simp;omega)))|((with_reducible refine Below.trans ?_ (Below.mono hb_w3 ?_));rotate_left;focus (first|(simp;done)|omega|(simp;omega)))))
end
section
open Go.RowKit Go.Deep
theorem Kh {P:Program} (w:World) (base:Nat) (t ty e:TypeId) (i:TypeInfo) (z:Value) (size bytes:Nat) (ht:P.underlying t=some (.slice e)) (hi:P.info? e=some i) (hz:i.zero=some z)
  (hsize:i.size=size) (hby:i.bytes=bytes) (hzs:z.cells.size=size) (hsz:0<size) (v:Value) (n:Nat) (xs:List Value) (hown:w.ownsRow base e size v n xs)
  (a:Addr) (m c:Nat) (news:List Value) (hl:news.length=m*size) (hnews:∀ j u,news[j]? =some u->w.cell? (a.add j)=some u) (h1:∀ u∈news,u.oneCell'=true)
  (h63:n+m<=maxLen) (hbytes:(n+m)*bytes<=140737488355328) (hbase:base<=w.heap.size) :
  ∃ v' w',(Builtin.append_ #[t,t] ty #[v,.slice (some a) m c]).run P w=.ok v' w'/\w'.ownsRow base e size v' (n+m) (xs++news)/\w.grownBy w' v.ownBlock/\∀ g',v'.ownBlock=some g'->v.ownBlock=some g'∨w.heap.size<=g':=by
 obtain ⟨v',w',hr,h2,h3,_⟩:=run_append_own (P:=P) w base t ty e i z size bytes ht hi hz hsize hby hzs hsz v n xs hown a m c news hl hnews h1 h63 hbytes hbase;refine ⟨v',w',hr,h2,h3,fun g' hg'=>?_⟩;rcases hown.2 with ⟨rfl,rfl⟩|⟨g,cap,cur,rfl,_,hg,hnc,hcm,hcs,htake⟩
 ·obtain rfl:xs=[]:=List.eq_nil_of_length_eq_zero (by simpa using hown.1);obtain ⟨v2,w2,hr2,k2,_,_⟩:=run_append_own (P:=P) w w.heap.size t ty e i z size bytes ht hi hz hsize hby hzs hsz (.slice none 0 0) 0 [] (World.ownsRow_nil w _ e size) a m c news hl hnews h1 h63 hbytes (Nat.le_refl _);rw [hr] at hr2;injection hr2 with e1 e2
  subst e1 e2;exact .inr (k2.lt g' hg').1
 ·by_cases hroom:n+m<=cap
  ·obtain ⟨w2,hr2,_⟩:=run_append_own_spare (P:=P) w base t ty e i size ht hi hsize g n cap xs hown a m c news hl hnews h1 hroom;rw [hr] at hr2;injection hr2 with e1 e2
   subst e1 e2;exact .inl hg'
  ·have holds:∀ j u,xs[j]? =some u->w.cell? ((⟨g,0,none⟩:Addr).add j)=some u:=hown.cells (g:=g) rfl;have hr2:=run_append_grow (P:=P) w t ty e i z ht hi hz ⟨g,0,none⟩ n cap xs (by rw [hsize];exact hown.1) holds a m c news (by rw [hsize];exact hl) hnews oM (by simp only [maxLen] at h63;omega) (growslice_fits oM (by rw [hby];exact hbytes));rw [hr] at hr2;injection hr2 with e1 e2
   subst e1;simp only [Value.ownBlock,Option.some.injEq] at hg';exact .inr oM
def GrowV (lo:Nat) (w:World) (e:TypeId) (t:Ty) (v:Value) (xs:List t.D):Prop :=
 ∃ (cs:List Value) (f:Nat->List Addr),w.ownsRow lo e t.size v xs.length cs/\(∀ (j:Nat) (hj:j<xs.length),Ty.Val (fun b=>lo<=b/\some b≠v.ownBlock) w t ((cs.drop (j*t.size)).take t.size) (xs[j]'hj) (f j))/\Fresh w lo ((List.range xs.length).flatMap f)
section
variable {lo:Nat} {w w' w0:World} {e:TypeId} {t:Ty} {v:Value} {xs:List t.D}
theorem GrowV.nil (lo:Nat) (w:World) (e:TypeId) (t:Ty):GrowV lo w e t (.slice none 0 0) [] :=
 ⟨[],fun _=>[],World.ownsRow_nil w lo e t.size,fun j hj=>absurd hj (by simp),by simpa using Fresh.nil w lo⟩
theorem Gd {sz n:Nat} {cs:List Value} (h:w.ownsRow lo e sz v n cs) (hb:Below w.heap.size w w'):w'.ownsRow lo e sz v n cs:=by
 refine ⟨h.1,?_⟩;rcases h.2 with hn|⟨g,cap,cur,rfl,hb',hg,rest⟩
 ·exact .inl hn
 ·exact .inr ⟨g,cap,cur,rfl,hb',(hb.block g (Array.getElem?_eq_some_iff.1 hg).1).trans hg,rest⟩
theorem GrowV.below (h:GrowV lo w e t v xs) (hb:Below w.heap.size w w'):GrowV lo w' e t v xs:=by
 obtain ⟨cs,f,h1,h2,h3⟩:=h;exact ⟨cs,f,Gd h1 hb,fun j hj=>Gm (h2 j hj) hb,h3.below hb⟩
theorem GrowV.len (h:GrowV lo w e t v xs):∃ A c,v=.slice A xs.length c/\xs.length<=c/\c<=maxLen:=by
 obtain ⟨cs,f,h1,_⟩:=h;rcases h1.2 with ⟨rfl,hn⟩|⟨g,cap,cur,rfl,_,_,h2,h3,_⟩
 ·exact ⟨none,0,by rw [hn],by omega,by simp [maxLen]⟩
 ·exact ⟨_,cap,rfl,h2,h3⟩
theorem GrowV.lt (h:GrowV lo w e t v xs):∀ k,v.ownBlock=some k->lo<=k/\k<w.heap.size:=by
 obtain ⟨cs,f,h1,_⟩:=h;exact fun k hk=>h1.lt k hk
theorem GrowV.done (h:GrowV lo w e t v xs):∃ A c l,v=.slice A xs.length c/\Sl (A9 lo) w t A c xs l/\Fresh w lo l:=by
 obtain ⟨cs,f,h1,h2,h3⟩:=h;have hv:v=v:=rfl;rcases h1.2 with ⟨rfl,hn⟩|⟨g,cap,cur,rfl,hlo,hg,hc,hm,hs,htake⟩
 ·refine ⟨none,0,[],by rw [hn],⟨by omega,by simp [maxLen],fun _=>[],by simp,fun h=>absurd h oM⟩,Fresh.nil w lo⟩
 ·have hcell:∀ i,i<xs.length*t.size->w.cell? ⟨g,i,none⟩=some (cs.getD i undef):=fun i hi=>by
   have hi':i<cs.length:=by rw [h1.1];exact hi
   have:=h1.cells (g:=g) rfl i _ (gEg hi');rw [Ax,Nat.zero_add] at this;rw [this,gDg,gEg hi'];rfl
  obtain ⟨fl,q1,q2,q3⟩:=Ug (R:=A9 lo) (n:=xs.length) hcell rfl (fun j hj _=>by
   have hsz:(j+1)*t.size<=xs.length*t.size:=Nat.mul_le_mul_right _ hj;rw [Nat.succ_mul] at hsz
   have e1:((List.range t.size).map fun i=>cs.getD (j*t.size+i) undef)=(cs.drop (j*t.size)).take t.size:=by
    have hl:=h1.1;refine List.ext_getElem (by simp;omega) fun i h1 h2=>?_
    simp only [List.length_map,List.length_range] at h1;simp only [List.getElem_map,List.getElem_range,List.getElem_take,List.getElem_drop];rw [gDg,gEg oM];rfl
   rw [e1];exact (h2 j hj).mono fun _ _ hb=>hb.1) _ (Nat.le_refl _) h3.1 (fun p hp=>by
    obtain ⟨j,hj,hpj⟩:=List.mem_flatMap.1 hp;have:=((h2 j (List.mem_range.1 hj)).leaf p hpj).1.2;exact fun e=>this (by rw [e];rfl))
  refine ⟨_,cap,_,rfl,⟨hc,hm,fl,rfl,fun _=>⟨_,rfl,hlo,fun i hi=>?_⟩⟩,q2,fun p hp=>?_⟩
  ·rw [Ax,Nat.zero_add];exact q1 i hi hi
  ·rcases q3 p hp with ⟨j,_,rfl⟩|h
   ·exact ⟨hlo,(Array.getElem?_eq_some_iff.1 hg).1,by simp [World.frozen?,hg]⟩
   ·exact h3.2 p h
theorem GrowV.push {cs:List Value} {x:t.D} {l:List Addr} (h:GrowV lo w0 e t v xs) (hb:Below w0.heap.size w0 w) (hlo:lo<=w0.heap.size) (hv:Ty.Val (A9 w0.heap.size) w t cs x l) (hf:Fresh w w0.heap.size l) :
  ∃ olds,w.ownsRow lo e t.size v xs.length olds/\∀ v' w',w'.ownsRow lo e t.size v' (xs.length+1) (olds++cs)->w.grownBy w' v.ownBlock->(∀ g',v'.ownBlock=some g'->v.ownBlock=some g'∨w.heap.size<=g')->GrowV lo w' e t v' (xs++[x]):=by
 have hlt0:=h.lt;obtain ⟨olds,f,h1,h2,h3⟩:=h;refine ⟨olds,Gd h1 hb,fun v' w' hown hg hwh=>?_⟩;have hl:=hv.length;have hol:=h1.1;have hmul:∀ j,j<xs.length->(j+1)*t.size<=xs.length*t.size:=fun j hj=>Nat.mul_le_mul_right _ hj
 have hv':Ty.Val (fun b=>lo<=b/\some b≠v.ownBlock) w t cs x l:=hv.mono fun b _ (hr:w0.heap.size<=b)=>⟨by omega,fun e=>by have:=(hlt0 b e.symm).2;omega⟩
 have keep:∀ {cs:List Value} {y:t.D} {l:List Addr},Ty.Val (fun b=>lo<=b/\some b≠v.ownBlock) w t cs y l->Ty.Val (fun b=>lo<=b/\some b≠v'.ownBlock) w' t cs y l:=fun {cs y l} h=>by
  have h':Ty.Val (fun b=>(lo<=b/\some b≠v.ownBlock)/\b<w.heap.size) w t cs y l:=h.mono fun b hb hr=>⟨hr,hb⟩
  have h'':=h'.keep (w':=w') (fun p u hr hc _=>hg.cell hc hr.1.2);exact h''.mono fun b _ hr=>⟨hr.1.1,fun e=>(hwh b e.symm).elim (fun q=>hr.1.2 q.symm) (fun q=>by have:=hr.2;omega)⟩
 refine ⟨olds++cs,fun j=>if j=xs.length then l else f j,by simpa using hown,fun j hj=>?_,?_⟩
 ·by_cases e:j=xs.length
  ·subst e
   have e2:(((olds++cs).drop (xs.length*t.size)).take t.size)=cs:=by
    rw [List.drop_append_of_le_length oM,List.drop_of_length_le oM,List.nil_append,List.take_of_length_le oM]
   rw [e2]
   simpa using keep hv'
  ·have hj':j<xs.length:=by simp at hj;omega
   have:=hmul j hj';rw [Nat.succ_mul] at this
   have e2:(((olds++cs).drop (j*t.size)).take t.size)=((olds.drop (j*t.size)).take t.size):=by
    rw [List.drop_append_of_le_length oM,List.take_append_of_le_length (by rw [List.length_drop];omega)]
   rw [e2,List.getElem_append_left hj'];simp only [if_neg e];exact keep (Gm (h2 j hj') hb)
 ·have e1:(List.range (xs++[x]).length).flatMap (fun j=>if j=xs.length then l else f j)=(List.range xs.length).flatMap f++l:=by
   rw [List.length_append,List.length_singleton,Bz];simp only [if_true];congr 1;rw [List.flatMap_def,List.flatMap_def];congr 1;exact List.map_congr_left fun j hj=>if_neg (by have:=List.mem_range.1 hj;omega)
  rw [e1];have hF:Fresh w lo ((List.range xs.length).flatMap f++l):=Fresh.append h3 hb hf hlo;refine ⟨hF.1,fun p hp=>?_⟩;obtain ⟨q1,q2,q3⟩:=hF.2 p hp
  have hne:some p.block≠v.ownBlock:=by
   rcases List.mem_append.1 hp with h|h
   ·obtain ⟨j,hj,hpj⟩:=List.mem_flatMap.1 h;exact ((h2 j (List.mem_range.1 hj)).leaf p hpj).1.2
   ·exact (hv'.leaf p h).1.2
  exact ⟨q1,Nat.lt_of_lt_of_le q2 hg.size,(World.frozen?_of_block (hg.block _ q2 hne)).trans q3⟩
end
variable {P:Program} {ops:Array Oper} {rest:List Oper} {o:Oper} {a:Act} {Q:Exit->Act->World->Prop}
theorem Ra {lo:Nat} {w w0:World} {e:TypeId} {t:Ty} {v:Value} {xs:List t.D} {cs:List Value} {y:t.D} {l:List Addr} {K:Act->World->Prop} (s x:Operand) (ty:TypeId) (ho:o.op=.call { callee:=.builtin .append,args:= #[s,x],argTypes:= #[ty,ty] }) (bytes:Nat) {z:Value} (ht:P.underlying ty=some (.slice e))
  (hinfo:(P.info? e).map (fun i=>(i.zero,i.size,i.bytes))=some (some z,t.size,bytes)) (hzs:z.cells.size=t.size) (hsz:0<t.size) (hs:a.eval s=v) (h:GrowV lo w0 e t v xs) (hb:Below w0.heap.size w0 w) (hlo:lo<=w0.heap.size) (hv:Ty.Val (A9 w0.heap.size) w t cs y l) (hf:Fresh w w0.heap.size l)
  {ad:Addr} {c:Nat} (hx:a.eval x=.slice (some ad) 1 c) (hc:∀ j u,cs[j]? =some u->w.cell? (ad.add j)=some u) (h1:∀ u∈cs,u.oneCell'=true) (hbytes:(xs.length+1)*bytes<=140737488355328) (h63:xs.length+1<=maxLen)
  (hK:∀ v' w',GrowV lo w' e t v' (xs++[y])->Below lo w w'->w.grownBy w' v.ownBlock->K (a.put o.dst v') w'):o.wp P a w K Q:=by
 obtain ⟨i,hi,hz,hsize,hby⟩:=info_parts hinfo;obtain ⟨olds,hown,hpush⟩:=h.push hb hlo hv hf;have hl:cs.length=1*t.size:=by rw [hv.length,Nat.one_mul]
 obtain ⟨v',w',hr,h2,h3,h4⟩:=Kh (P:=P) w lo ty o.type e i z t.size bytes ht hi hz hsize hby hzs hsz v xs.length olds hown ad 1 c cs hl hc h1 h63 hbytes (Nat.le_trans hlo hb.size);have hlt:=(h.below hb).lt;unfold Oper.wp execOp;simp only [ho,resolve,invoke,builtin,Sem.run_bind,Sem.run_pure,Result.andThen_ok,List.map_toArray,List.map_cons,List.map_nil,hs,hx,hr];exact hK v' w' (hpush v' w' h2 h3 h4) ((Below.refl lo w).grown h3 (Nat.le_trans hlo hb.size) (fun k hk=>(hlt k hk).1)) h3
end
section
open Go.RowKit Go.Deep
section
variable {lo:Nat} {w w' w0:World} {e:TypeId} {t:Ty} {v:Value} {xs:List t.D}
theorem Qj {sz n c g i:Nat} {cs:List Value} {v:Value} (h:w.ownsRow lo e sz v n cs) (hv:v=.slice (some ⟨g,0,none⟩) n c) (u:Value):(w.setCell ⟨g,i,none⟩ u).ownsRow lo e sz v n (cs.set i u):=by
 obtain ⟨h1,⟨e1,_⟩|⟨g',cap,cur,e1,hb,hg,a1,a2,a3,a4⟩⟩:=h
 ·rw [hv] at e1;cases e1
 ·rw [hv] at e1;injection e1 with q1 q2 q3
  injection q1 with q1
  injection q1 with q1
  subst q1;have hlt:=lt_of_block hg;have h':w.heap[g]=.cells cur e (0,0):=by simpa [Array.getElem?_eq_getElem hlt] using hg
  refine ⟨by simp [h1],.inr ⟨g,cap,cur.setIfInBounds i u,by rw [hv,q3],hb,?_,a1,a2,by simp [a3],?_⟩⟩
  ·show (w.heap.modify g _)[g]? =_;rw [Array.getElem?_eq_getElem (by simpa using hlt),Array.getElem_modify_self,h'];rfl
  ·rw [← a4,Array.toList_setIfInBounds,List.take_set]
def N2:Nat->List Value->List Value->List Value
 | _,[],cs=>cs
 | o,v :: vs,cs=>N2 (o+1) vs (cs.set o v)
theorem Kg:∀ (vs:List Value) (o:Nat) (cs:List Value) (i:Nat),i<cs.length->(N2 o vs cs)[i]? =if o<=i/\i<o+vs.length then vs[i - o]? else cs[i]?
 | [],o,cs,i,_=>by rw [if_neg (by simp only [List.length_nil];omega)];rfl
 | v :: vs,o,cs,i,hi=>by
  have:=Kg vs (o+1) (cs.set o v) i (by simpa using hi);show (N2 (o+1) vs (cs.set o v))[i]? =_;rw [this];simp only [List.length_cons];by_cases e:i=o
  ·subst e;rw [if_neg oM,if_pos oM,Nat.sub_self,List.getElem?_set_self hi];rfl
  ·by_cases h2:o+1<=i/\i<o+1+vs.length
   ·rw [if_pos h2,if_pos oM,show i - o=(i - (o+1))+1 by omega,List.getElem?_cons_succ]
   ·rw [if_neg h2,if_neg oM,List.getElem?_set_ne oM]
theorem Hr {sz n c g:Nat} {v:Value} (hv:v=.slice (some ⟨g,0,none⟩) n c):∀ {vs:List Value} {o:Nat} {cs:List Value} {w:World},w.ownsRow lo e sz v n cs->(C8 g o vs w).ownsRow lo e sz v n (N2 o vs cs)
 | [],_,_,_,h=>h
 | u :: vs,_,_,_,h=>Hr hv (vs:=vs) (Qj h hv u)
theorem D5 {g:Nat} {p:Addr} (hp:p.block≠g):∀ {vs:List Value} {o:Nat} {w:World},(C8 g o vs w).heap[p.block]? =w.heap[p.block]?
 | [],_,_=>rfl
 | v :: vs,o,w=>(D5 hp (vs:=vs)).trans (Below.heap_setCell w ⟨g,o,none⟩ v p.block hp)
theorem Oz {F G:Nat->List Addr}:∀ (l:List Nat),(∀ j,(F j).Perm (G j))->(l.flatMap F).Perm (l.flatMap G)
 | [],_=>.nil
 | j :: l,h=>by rw [List.flatMap_cons,List.flatMap_cons];exact (h j).append (Oz l h)
theorem GrowV.put {k g c:Nat} (h:GrowV lo w e t v xs) (hv:v=.slice (some ⟨g,0,none⟩) xs.length c) (hk:k<xs.length) :
  ∃ cs l,Ty.Val (fun b=>lo<=b/\some b≠v.ownBlock) w t cs xs[k] l/\(∀ i u,cs[i]? =some u->w.cell? ⟨g,k*t.size+i,none⟩=some u)/\(∀ i,w.frozen? ⟨g,i,none⟩=false) /\
   ∀ w1 cs' y l',Below w.heap.size w w1->Ty.Val (fun b=>lo<=b/\some b≠v.ownBlock) w1 t cs' y l'->l'.Perm l->GrowV lo (C8 g (k*t.size) cs' w1) e t v (xs.set k y):=by
 obtain ⟨cs,f,h1,h2,h3⟩:=h;have hcl:=h1.1;have hmul:∀ j,j<xs.length->(j+1)*t.size<=xs.length*t.size:=fun j hj=>Nat.mul_le_mul_right _ hj
 have hke:=hmul k hk;rw [Nat.succ_mul] at hke;refine ⟨_,f k,h2 k hk,fun i u hu=>?_,fun i=>?_,fun w1 cs' y l' hbw hy hp=>?_⟩
 ·have hi:i<t.size:=by
   have:=(gSi.1 hu).1;simp at this;omega
  rw [List.getElem?_take_of_lt hi,List.getElem?_drop] at hu;have:=h1.cells (g:=g) (by rw [hv];rfl) _ _ hu
  rwa [Ax,Nat.zero_add] at this
 ·rcases h1.2 with ⟨e1,_⟩|⟨g',cap,cur,e1,hb,hg,_⟩
  ·rw [hv] at e1;cases e1
  ·rw [hv] at e1;injection e1 with q1 q2 q3
   injection q1 with q1
   injection q1 with q1
   subst q1;simp [World.frozen?,hg]
 ·replace h1:=Gd h1 hbw
  replace h2:=fun j hj=>Gm (h2 j hj) hbw
  replace h3:=h3.below hbw
  clear hbw
  have hl:=hy.length;have hob:v.ownBlock=some g:=by rw [hv];rfl
  have hne:∀ p:Addr,some p.block≠v.ownBlock->p.block≠g:=fun p hp e=>hp (by rw [hob,e])
  have keep:∀ {cs:List Value} {y:t.D} {l:List Addr},Ty.Val (fun b=>lo<=b/\some b≠v.ownBlock) w1 t cs y l->Ty.Val (fun b=>lo<=b/\some b≠v.ownBlock) (C8 g (k*t.size) cs' w1) t cs y l:=fun {cs y l} h =>
   h.keep (fun p u hr hc _=>by
    have e1:(C8 g (k*t.size) cs' w1).cell? p=w1.cell? p:=World.cell?_of_block (D5 (hne p hr.2));rw [e1];exact hc)
  have seg:∀ j,j<xs.length->j≠k->((N2 (k*t.size) cs' cs).drop (j*t.size)).take t.size=(cs.drop (j*t.size)).take t.size:=fun j hj hjk=>by
   have hje:=hmul j hj;rw [Nat.succ_mul] at hje;refine List.ext_getElem? fun i=>?_
   by_cases hi:i<t.size
   ·rw [List.getElem?_take_of_lt hi,List.getElem?_take_of_lt hi,List.getElem?_drop,List.getElem?_drop,Kg _ _ _ _ oM,if_neg];rintro ⟨q1,q2⟩;rcases Nat.lt_or_gt_of_ne hjk with q|q
    ·have:=Nat.mul_le_mul_right t.size (show j+1<=k from q);rw [Nat.succ_mul] at this;omega
    ·have:=Nat.mul_le_mul_right t.size (show k+1<=j from q);rw [Nat.succ_mul] at this;omega
   ·rw [List.getElem?_eq_none (by simp;omega),List.getElem?_eq_none (by simp;omega)]
  have segk:((N2 (k*t.size) cs' cs).drop (k*t.size)).take t.size=cs':=by
   refine List.ext_getElem? fun i=>?_
   by_cases hi:i<t.size
   ·rw [List.getElem?_take_of_lt hi,List.getElem?_drop,Kg _ _ _ _ oM,if_pos oM,Nat.add_sub_cancel_left]
   ·rw [List.getElem?_eq_none (by simp;omega),List.getElem?_eq_none oM]
  have hxl:(xs.set k y).length=xs.length:=List.length_set ..;refine ⟨_,fun j=>if j=k then l' else f j,by rw [hxl];exact Hr hv h1,fun j hj=>?_,?_⟩
  ·rw [hxl] at hj;by_cases hjk:j=k
   ·subst hjk;rw [segk,List.getElem_set_self]
    simpa using keep hy
   ·rw [seg j hj hjk,List.getElem_set_ne (Ne.symm hjk)];simp only [if_neg hjk];exact keep (h2 j hj)
  ·have hperm:((List.range xs.length).flatMap fun j=>if j=k then l' else f j).Perm ((List.range xs.length).flatMap f):=by
    refine Oz _ fun j=>?_
    by_cases hjk:j=k
    ·subst hjk;simpa using hp
    ·simp [hjk]
   rw [hxl];refine ⟨hperm.nodup_iff.2 h3.1,fun p hpm=>?_⟩;obtain ⟨q1,q2,q3⟩:=h3.2 p (hperm.mem_iff.1 hpm)
   have hpb:some p.block≠v.ownBlock:=by
    obtain ⟨j,hj,hpj⟩:=List.mem_flatMap.1 (hperm.mem_iff.1 hpm);exact ((h2 j (List.mem_range.1 hj)).leaf p hpj).1.2
   exact ⟨q1,by rw [Hi];exact q2,(World.frozen?_of_block (D5 (hne p hpb))).trans q3⟩
end
section
variable {P:Program} {ops:Array Oper} {o:Oper} {a:Act} {Q:Exit->Act->World->Prop}
theorem Bo {lo:Nat} {w w0:World} {e:TypeId} {t:Ty} {v:Value} {xs:List t.D} {cs:List Value} {y:t.D} {l:List Addr} {K:Act->World->Prop} {E:Prop} (hgd:o.guard=none) (s x:Operand) (ty:TypeId) (ho:o.op=.call { callee:=.builtin .append,args:= #[s,x],argTypes:= #[ty,ty] }) (bytes:Nat) {z:Value} (ht:P.underlying ty=some (.slice e))
  (hinfo:(P.info? e).map (fun i=>(i.zero,i.size,i.bytes))=some (some z,t.size,bytes)) (hzs:z.cells.size=t.size) (hsz:0<t.size) (hs:a.eval s=v) (h:GrowV lo w0 e t v xs) (hb:Below w0.heap.size w0 w) (hlo:lo<=w0.heap.size) (hv:Ty.Val (A9 w0.heap.size) w t cs y l) (hf:Fresh w w0.heap.size l)
  {ad:Addr} {c:Nat} (hx:a.eval x=.slice (some ad) 1 c) (hc:∀ j u,cs[j]? =some u->w.cell? (ad.add j)=some u) (h1:∀ u∈cs,u.oneCell'=true) (hbytes:(xs.length+1)*bytes<=140737488355328) (h63:xs.length+1<=maxLen)
  (hK:∀ v' w',GrowV lo w' e t v' (xs++[y])->Below lo w w'->w.grownBy w' v.ownBlock->K (a.put o.dst v') w'):if Region.wanted o (yielded ops a.tmps)=true then Oper.wp P o a w K Q else E:=by
 have hw:Region.wanted o (yielded ops a.tmps)=true:=by simp [Region.wanted,hgd]
 rw [if_pos hw];exact Ra s x ty ho bytes ht hinfo hzs hsz hs h hb hlo hv hf hx hc h1 hbytes h63 hK
end
end
section
def Lj (es:List Edg) (xs ys:List Int):List Int:=xs++(ys++es.flatMap fun e=>e.2.2.1++e.2.2.2)
def Dj (W:Int) (es:List Edg) (xs ys:List Int):Bool :=
 inR W 0 100&&(decide (es.length<=60)&&(decide (xs.length<=12)&&(decide (ys.length<=12)&&(es.all edK&&(B8 W (Lj es xs ys)&&(List.range W.toNat).all fun j:Nat=>decide ((j:Int)∈Lj es xs ys))))))
def Cx (W:Int) (S:List Int):List Bool:=(List.range W.toNat).map fun j:Nat=>decide ((j:Int)∈S)
def Gl (W:Int) (S:List Int):Int:=((Cx W S).count true:Nat)
def Ej (W:Int) (S:List Int):List Int:=(List.range W.toNat).map fun j:Nat=>((S.count (j:Int):Nat):Int)
section
variable {W:Int} {S:List Int} {x:Int}
theorem Hl:(Cx W S).length=W.toNat:=by simp [Cx]
theorem Tv:0<=Gl W S/\Gl W S<=W.toNat:=by
 have:=List.count_le_length (a:=true) (l:=Cx W S);rw [Hl] at this;unfold Gl;omega
theorem We (h:inR x 0 (W - 1)=false):Cx W (S++[x])=Cx W S:=by
 unfold Cx;refine List.map_congr_left fun j hj=>?_
 have hj:=List.mem_range.1 hj;have hx:=Vu.1 h;have hne:(j:Int)≠x:=by omega
 simp [hne]
theorem Qw (h:inR x 0 (W - 1)=true):J5 (Cx W S) x=some (decide (x∈S)):=by
 have hx:=Bw.1 h;rw [Nn hx.1];unfold Cx;rw [List.getElem?_map,List.getElem?_range oM,Option.map_some,Int.toNat_of_nonneg hx.1]
theorem Rn (h:inR x 0 (W - 1)=true):(Cx W S).set x.toNat true=Cx W (S++[x]):=by
 have hx:=Bw.1 h;refine List.ext_getElem (by rw [List.length_set,Hl,Hl]) fun i h1 h2=>?_
 rw [List.getElem_set];simp only [Cx,List.getElem_map,List.getElem_range];by_cases hi:x.toNat=i
 ·have:(i:Int)=x:=by omega
  simp [this,hi]
 ·have:¬ (i:Int)=x:=by omega
  simp [this,hi]
theorem U8 (h:x∈S):Cx W (S++[x])=Cx W S:=by
 unfold Cx;refine List.map_congr_left fun j _=>?_
 have:(j:Int)∈S++[x]↔(j:Int)∈S:=by
  rw [List.mem_append,List.mem_singleton];exact ⟨fun h'=>h'.elim id fun h'=>h'▸h,.inl⟩
 simp only [this]
theorem Xe (h:inR x 0 (W - 1)=true) (hn:x∉S):Gl W (S++[x])=Gl W S+1:=by
 have hx:=Bw.1 h;unfold Gl;rw [← Rn h,List.count_set (by rw [Hl];omega)];have hg:=Qw (S:=S) h;rw [Nn hx.1,decide_eq_false hn] at hg;have hg2:=(gSi.1 hg).2;rw [hg2];simp
theorem L1 {xs:List Int}:B8 W (S++xs)=(B8 W S&&B8 W xs):=by unfold B8;rw [List.all_append]
theorem T9:B8 W [x]=inR x 0 (W - 1):=by simp [B8]
theorem G4 (hW:0<=W/\W<=100) (es:List Edg) (a b xs:List Int) (hl:xs.length<=1048576):Az xs W es a b (B8 W S) (Cx W S) (Gl W S)=some (B8 W (S++xs),Cx W (S++xs),Gl W (S++xs)):=by
 unfold Az;refine Dd xs.length (fun i=>(i,B8 W (S++xs.take i),Gl W (S++xs.take i),Cx W (S++xs.take i))) oM _ (by simp) (fun i hi=>?_) ?_
 ·have hx:=gEg hi
  try dsimp only
  unfold B9;rw [B7 oM,cond_true,hx,obs,D8 (n:=W - 1) oM oM,Hw,obs,List.take_add_one,hx,Option.toList,← List.append_assoc];have hc:=Tv (W:=W) (S:=S++xs.take i);generalize xs[i]=x at *;generalize S++xs.take i=T at *;cases hr:inR x 0 (W - 1)
  ·rw [Bool.not_false,cond_true,obs,L1,T9,hr,Bool.and_false,Gl,Gl,We hr];exact Be oM _
  ·rw [Bool.not_true,cond_false,Qw hr,obs,L1,T9,hr,Bool.and_true];by_cases hm:x∈T
   ·rw [decide_eq_true hm,Bool.not_true,cond_false,obs,Gl,Gl,U8 hm];exact Be oM _
   ·rw [decide_eq_false hm,Bool.not_false,cond_true,obs,D8 oM oM,Xe hr hm,Rn hr];exact Be oM _
 ·try dsimp only
  unfold B9;rw [Bs oM,cond_false,List.take_length]
theorem Qe:Cx W []=List.replicate W.toNat false:=by
 unfold Cx;rw [List.eq_replicate_iff];simp
theorem Wh:Gl W []=0:=by
 unfold Gl;rw [Qe,List.count_replicate];simp
theorem Yn (hW:0<=W/\W<=100) (es:List Edg) (xs ys:List Int) (h1:es.length<=1048576) (h2:∀ e∈es,Ff e) (h3:xs.length<=1048576) (h4:ys.length<=1048576) :
  Ao W es xs ys W es xs ys true (List.replicate W.toNat (false:Bool)) 0=some (B8 W (Lj es xs ys),Cx W (Lj es xs ys),Gl W (Lj es xs ys)):=by
 unfold Ao;have e1:=G4 (S:=[]) hW es xs ys xs h3;rw [Qe,Wh,List.nil_append] at e1;rw [show (true:Bool)=B8 W [] from rfl,e1,obs]
 try dsimp only
 rw [G4 hW es xs ys ys h4,obs]
 try dsimp only
 refine Dd es.length (fun i=>(i,B8 W (xs++(ys++(es.take i).flatMap fun e=>e.2.2.1++e.2.2.2)),Gl W (xs++(ys++(es.take i).flatMap fun e=>e.2.2.1++e.2.2.2)),Cx W (xs++(ys++(es.take i).flatMap fun e=>e.2.2.1++e.2.2.2)))) oM _ (by simp) (fun i hi=>?_) ?_
 ·have hx:=gEg hi;have hk:=h2 _ (List.getElem_mem hi)
  try dsimp only
  unfold Aw;rw [B7 oM,cond_true,hx,obs,G4 hW es xs ys _ hk.1,obs]
  try dsimp only
  rw [G4 hW es xs ys _ hk.2,obs,Be oM,List.take_add_one,hx,Option.toList,List.flatMap_append];simp only [List.flatMap_cons,List.flatMap_nil,List.append_nil,List.append_assoc]
 ·try dsimp only
  unfold Aw;rw [Bs oM,cond_false,List.take_length];rfl
theorem Xw:(Gl W S==W)=(if 0<=W then (List.range W.toNat).all fun j:Nat=>decide ((j:Int)∈S) else false):=by
 by_cases hW:0<=W
 ·rw [if_pos hW,Bool.eq_iff_iff,beq_iff_eq];have hlen:=Hl (W:=W) (S:=S);have:Gl W S=W↔(Cx W S).count true=(Cx W S).length:=by unfold Gl;rw [hlen];omega
  rw [this,List.count_eq_length,List.all_eq_true];unfold Cx;simp only [List.mem_map,List.mem_range,decide_eq_true_eq];constructor
  ·intro h j hj;have:=h _ ⟨j,hj,rfl⟩;exact of_decide_eq_true this.symm
  ·rintro h b ⟨j,hj,rfl⟩;exact (decide_eq_true (h j hj)).symm
 ·rw [if_neg hW];have:=Tv (W:=W) (S:=S);exact beq_eq_false_iff_ne.2 oM
theorem Vr (W:Int) (es:List Edg) (xs ys:List Int) (h1:es.length<=1048576) (h2:∀ e∈es,Ff e):C9 W es xs ys=some (Dj W es xs ys):=by
 unfold C9 Dj;rw [Hw,obs];cases hW:inR W 0 100
 ·rfl
 have hb:=Bw.1 hW;rw [Bool.not_true,cond_false];rcases Nat.lt_or_ge 60 es.length with n1|n1
 ·rw [B7 (show (60:Int)<((es.length:Nat):Int) by omega),Bs (show ¬ es.length<=60 by omega)];rfl
 rw [Bs (show ¬ (60:Int)<((es.length:Nat):Int) by omega),B7 n1,cond_false];rcases Nat.lt_or_ge 12 xs.length with n2|n2
 ·rw [B7 (show (12:Int)<((xs.length:Nat):Int) by omega),Bs (show ¬ xs.length<=12 by omega)];rfl
 rw [Bs (show ¬ (12:Int)<((xs.length:Nat):Int) by omega),B7 n2,cond_false];rcases Nat.lt_or_ge 12 ys.length with n3|n3
 ·rw [B7 (show (12:Int)<((ys.length:Nat):Int) by omega),Bs (show ¬ ys.length<=12 by omega)];rfl
 rw [Bs (show ¬ (12:Int)<((ys.length:Nat):Int) by omega),B7 n3,obs,cond_false,Bool.true_and,Bool.true_and,Bool.true_and,Bool.true_and];rw [H6 es edK (.next ()) (.out false) oM (fun i x h=>?_) ?_]
 ·cases he:es.all edK
  ·rfl
  rw [if_pos rfl,Bool.true_and];show (og _ _:Option Bool)=_;rw [Be oM,Yn hb es xs ys h1 h2 oM oM,obs]
  try dsimp only
  rw [Xw,if_pos hb.1];cases B8 W (Lj es xs ys) <;> rfl
 ·unfold Cj;rw [Bs oM,cond_false]
 ·have:=Bt h;unfold Cj;rw [B7 oM,cond_true,h,obs,V7,obs,Be oM];cases edK x <;> rfl
theorem Yb:Ej W []=List.replicate W.toNat 0:=by
 unfold Ej;rw [List.eq_replicate_iff];simp
theorem Yc (h:inR x 0 (W - 1)=true):J5 (Ej W S) x=some ((S.count x:Nat):Int):=by
 have hx:=Bw.1 h;rw [Nn hx.1];unfold Ej;rw [List.getElem?_map,List.getElem?_range oM,Option.map_some,Int.toNat_of_nonneg hx.1]
theorem Zb (h:inR x 0 (W - 1)=true):(Ej W S).set x.toNat (((S.count x:Nat):Int)+1)=Ej W (S++[x]):=by
 have hx:=Bw.1 h;refine List.ext_getElem (by simp [Ej]) fun i h1 h2=>?_
 rw [List.getElem_set];simp only [Ej,List.getElem_map,List.getElem_range,List.count_append,List.count_singleton];by_cases hi:x.toNat=i
 ·have:(i:Int)=x:=by omega
  simp [this,hi]
 ·have:¬ x=(i:Int):=by omega
  simp [this,hi]
theorem Jo {ρ:Type} {body:Nat×List Int->Option (Ctl (Nat×List Int) ρ)} (xs:List Int) (f:List Int->ρ)
  (hb:∀ i s,body (i,s)=cond (decide (((i:Nat):Int)<((xs.length:Nat):Int))) (Option.bind (xs[i]?) fun x=>Option.bind (J5 s x) fun y=>og (i+1<4611686018427387904)<|some (Ctl.next (i+1,s.set x.toNat (wI (y+1))))) (some (Ctl.out (f s))))
  (hr:B8 W xs=true) (hl:(S++xs).length<=1000000):Ba body 4611686018427387904 (0,Ej W S)=some (f (Ej W (S++xs))):=by
 rw [List.length_append] at hl;refine Dd xs.length (fun i=>(i,Ej W (S++xs.take i))) oM _ (by simp) (fun i hi=>?_) ?_
 ·have hx:=gEg hi;have hin:inR xs[i] 0 (W - 1)=true:=List.all_eq_true.1 hr _ (List.getElem_mem hi);have hc:=List.count_le_length (a:=xs[i]) (l:=S++xs.take i);rw [List.length_append,List.length_take] at hc
  try dsimp only
  rw [hb,B7 oM,cond_true,hx,obs,Yc hin,obs,Be oM,D8 oM oM,Zb hin,List.take_add_one,hx,Option.toList,List.append_assoc]
 ·try dsimp only
  rw [hb,Bs oM,cond_false,List.take_length]
def Fl (es:List Edg) (xs:List Int):List Int:=xs++es.flatMap fun e=>e.2.2.2
def Jy (es:List Edg) (ys:List Int):List Int:=ys++es.flatMap fun e=>e.2.2.1
theorem O0 {es:List Edg} (h:∀ e∈es,edK e=true) (hl:es.length<=60) (k:Nat):(((es.take k).flatMap fun e=>e.2.2.1):List Int).length<=120/\(((es.take k).flatMap fun e=>e.2.2.2):List Int).length<=120:=by
 have key:∀ (l:List Edg),(∀ e∈l,edK e=true)->((l.flatMap fun e=>e.2.2.1):List Int).length<=2*l.length/\((l.flatMap fun e=>e.2.2.2):List Int).length<=2*l.length:=by
  intro l
  induction l with
  | nil=>simp
  | cons e l ih =>
   intro h;have h1:=Jv (h e (by simp));have h2:=ih fun e he=>h e (by simp [he])
   simp only [List.flatMap_cons,List.length_append,List.length_cons];omega
 have:=key (es.take k) fun e he=>h e (List.mem_of_mem_take he)
 rw [List.length_take] at this;omega
theorem Sk (hW:0<=W/\W<=100) (es:List Edg) (xs ys:List Int) (h1:es.length<=60) (h2:∀ e∈es,edK e=true) (h3:xs.length<=12) (h4:ys.length<=12)
  (r1:B8 W xs=true) (r2:B8 W ys=true) (r3:∀ e∈es,B8 W e.2.2.1=true/\B8 W e.2.2.2=true):Cw W es xs ys=some (Ej W (Fl es xs),Ej W (Jy es ys)):=by
 unfold Cw
 rw [Be oM,Be oM,← Yb,
  Jo (body:=fun s_:Nat×List Int=>Fz xs s_.1 s_.2) xs (fun s=>s) (fun _ _=>rfl) r1 (by simp;omega),obs,
  Jo (body:=fun s_:Nat×List Int=>Fk ys s_.1 s_.2) ys (fun s=>s) (fun _ _=>rfl) r2 (by simp;omega),obs,List.nil_append,List.nil_append]
 have h:Ba (fun s_:Nat×List Int×List Int=>Ct es s_.1 s_.2.1 s_.2.2) 4611686018427387904 (0,Ej W xs,Ej W ys)=some (Ej W (Fl es xs),Ej W (Jy es ys)):=by
  refine Dd es.length (fun i=>(i,Ej W (Fl (es.take i) xs),Ej W (Jy (es.take i) ys))) oM _ (by simp [Fl,Jy]) (fun i hi=>?_) ?_
  ·have hx:=gEg hi;have hk:=Jv (h2 _ (List.getElem_mem hi));obtain ⟨k1,k2⟩:=r3 _ (List.getElem_mem hi);have hle:=O0 h2 h1 i
   try dsimp only
   unfold Ct
   rw [B7 oM,cond_true,hx,obs,Jo (body:=fun s_:Nat×List Int=>Fj es[i] s_.1 s_.2) es[i].2.2.2 (fun s=>s) (fun _ _=>rfl) k2 (by simp only [Fl,List.length_append];omega),obs,
    Jo (body:=fun s_:Nat×List Int=>Fn es[i] _ s_.1 s_.2) es[i].2.2.1 (fun s=>(_,s)) (fun _ _=>rfl) k1 (by simp only [Jy,List.length_append];omega),obs]
   try dsimp only
   rw [Be oM];unfold Fl Jy;rw [List.take_add_one,hx,Option.toList,List.flatMap_append,List.flatMap_append];simp only [List.flatMap_cons,List.flatMap_nil,List.append_nil,List.append_assoc]
  ·try dsimp only
   unfold Ct;rw [Bs oM,cond_false,List.take_length]
 rw [h];rfl
theorem T7 (W:Int) (es:List Edg) (xs ys:List Int):B8 W (Lj es xs ys)=(B8 W xs&&(B8 W ys&&es.all fun e=>B8 W e.2.2.1&&B8 W e.2.2.2)):=by
 unfold Lj;rw [L1,L1];congr 2;unfold B8;rw [List.all_flatMap];simp only [List.all_append]
theorem Yq (es:List Edg) (xs ys:List Int) (j:Int):(j∈Lj es xs ys)↔(j∈Fl es xs∨j∈Jy es ys):=by
 unfold Lj Fl Jy;simp only [List.mem_append,List.mem_flatMap];constructor
 ·rintro (h|h|⟨e,he,h|h⟩)
  ·exact .inl (.inl h)
  ·exact .inr (.inl h)
  ·exact .inr (.inr ⟨e,he,h⟩)
  ·exact .inl (.inr ⟨e,he,h⟩)
 ·rintro ((h|⟨e,he,h⟩)|(h|⟨e,he,h⟩))
  ·exact .inl h
  ·exact .inr (.inr ⟨e,he,.inr h⟩)
  ·exact .inr (.inl h)
  ·exact .inr (.inr ⟨e,he,.inl h⟩)
theorem Ut (W:Int) (es:List Edg) (xs ys:List Int):Fv W es xs ys=some (Dj W es xs ys):=by
 unfold Fv Dj;rw [G8,obs];cases hW:inR W 0 100
 ·rfl
 have hb:=Bw.1 hW;rw [Bool.not_true,cond_false];rcases Nat.lt_or_ge 60 es.length with n1|n1
 ·rw [B7 (show (60:Int)<((es.length:Nat):Int) by omega),Bs (show ¬ es.length<=60 by omega)];rfl
 rw [Bs (show ¬ (60:Int)<((es.length:Nat):Int) by omega),B7 n1,cond_false];rcases Nat.lt_or_ge 12 xs.length with n2|n2
 ·rw [B7 (show (12:Int)<((xs.length:Nat):Int) by omega),Bs (show ¬ xs.length<=12 by omega)];rfl
 rw [Bs (show ¬ (12:Int)<((xs.length:Nat):Int) by omega),B7 n2,cond_false];rcases Nat.lt_or_ge 12 ys.length with n3|n3
 ·rw [B7 (show (12:Int)<((ys.length:Nat):Int) by omega),Bs (show ¬ ys.length<=12 by omega)];rfl
 rw [Bs (show ¬ (12:Int)<((ys.length:Nat):Int) by omega),B7 n3,cond_false,Bool.true_and,Bool.true_and,Bool.true_and,Bool.true_and,D8 oM oM,Lx xs _ _ oM,obs,Lx ys _ _ oM,T7];show Option.bind (cond (!B8 W xs) (some true) (Option.bind (some (B8 W ys)) fun y11=>some (!y11))) _=_;cases r1:B8 W xs
 ·rw [Bool.false_and,Bool.false_and,Bool.and_false];rfl
 cases r2:B8 W ys
 ·rw [Bool.false_and,Bool.and_false,Bool.false_and,Bool.and_false];rfl
 rw [Bool.not_true,cond_false,obs,obs,Bool.not_true,cond_false,Bool.true_and,Bool.true_and];rw [H6 es (fun e=>edK e&&(B8 W e.2.2.1&&B8 W e.2.2.2)) (.next ()) (.out false) oM (fun i x h=>?_) ?_]
 ·have hsplit:(es.all fun e=>edK e&&(B8 W e.2.2.1&&B8 W e.2.2.2))=(es.all edK&&es.all fun e=>B8 W e.2.2.1&&B8 W e.2.2.2):=by
   clear n1
   induction es with
   | nil=>rfl
   | cons e es ih=>simp only [List.all_cons,ih];cases edK e <;> cases (B8 W e.2.2.1&&B8 W e.2.2.2) <;> simp
  rw [hsplit];cases he:es.all edK
  ·rfl
  cases hr:es.all fun e=>B8 W e.2.2.1&&B8 W e.2.2.2
  ·rfl
  rw [Bool.true_and,if_pos rfl,Bool.true_and];have hk:=List.all_eq_true.1 he;show Option.bind (Cw W es xs ys) _=_;rw [Sk hb es xs ys n1 hk n2 n3 r1 r2 (fun e h=>by have:=List.all_eq_true.1 hr e h;simpa using this),obs];show Ln (Ba (fun s_:Nat=>C2 (Ej W (Fl es xs),Ej W (Jy es ys)) s_) 4611686018427387904 0) (fun _=>some true)=_;have hlen:((Ej W (Fl es xs)).length:Nat)=W.toNat:=by simp [Ej]
  rw [H6 (List.range W.toNat) (fun j:Nat=>decide ((j:Int)∈Lj es xs ys)) (.next ()) (.out false) (by simp;omega) (fun i x h=>?_) ?_,Tj]
  ·rw [Bool.true_and]
  ·unfold C2;rw [List.length_range,hlen,Bs oM,cond_false]
  ·have hi:=Bt h;rw [List.length_range] at hi;rw [List.getElem?_range hi] at h;obtain rfl:=osj h;have hle:=O0 hk n1 es.length;rw [List.take_length] at hle;have hc1:=List.count_le_length (a:=(i:Int)) (l:=Fl es xs);have hc2:=List.count_le_length (a:=(i:Int)) (l:=Jy es ys);have hL1:(Fl es xs).length=xs.length+(es.flatMap fun e=>e.2.2.2).length:=List.length_append;have hL2:(Jy es ys).length=ys.length+(es.flatMap fun e=>e.2.2.1).length:=List.length_append;unfold C2
   try dsimp only
   rw [show (Ej W (Fl es xs))[i]? =some (((Fl es xs).count (i:Int):Nat):Int) from by simp [Ej,hi],show (Ej W (Jy es ys))[i]? =some (((Jy es ys).count (i:Int):Nat):Int) from by simp [Ej,hi]];have e1:=List.count_eq_zero (a:=(i:Int)) (l:=Fl es xs);have e2:=List.count_eq_zero (a:=(i:Int)) (l:=Jy es ys);have e3:=Yq es xs ys (i:Int);rw [hlen,B7 oM,cond_true,obs,obs,D8 oM oM,Be oM];by_cases hm:(i:Int)∈Lj es xs ys
   ·rw [decide_eq_true hm,if_pos rfl,beq_eq_false_iff_ne.2 ?_,cond_false];intro h0;rcases e3.1 hm with h|h
    ·exact (e1.1 oM) h
    ·exact (e2.1 oM) h
   ·rw [decide_eq_false hm,if_neg Bool.false_ne_true,beq_iff_eq.2 ?_,cond_true];have q1:=e1.2 fun h=>hm (e3.2 (.inl h))
    have q2:=e2.2 fun h=>hm (e3.2 (.inr h))
    omega
 ·unfold Ec;rw [Bs oM,cond_false]
 ·have:=Bt h;unfold Ec;rw [B7 oM,cond_true,h,obs,X8 x hb,obs,Be oM];cases (edK x&&(B8 W x.2.2.1&&B8 W x.2.2.2)) <;> rfl
end
end
section
theorem Qu {a lo hi:Int}:inR a lo hi=true↔lo<=a/\a<=hi:=by simp [inR]
def Ef (k:Int):Int:=if 3<=k/\k<=8 then k+6 else if 9<=k/\k<=14 then k - 6 else k
def Dw (e:Edg):Edg:=(Ef e.1,e.2.1,e.2.2.2,e.2.2.1)
theorem Aak (k:Int):Dk k=some (Ef k):=by
 unfold Dk Ef;rw [G8,G8,obs,obs];by_cases h1:3<=k/\k<=8
 ·rw [if_pos h1,Qu.2 h1,cond_true,D8 oM oM]
 rw [if_neg h1,Bool.eq_false_iff.2 (fun h=>h1 (Qu.1 h)),cond_false];by_cases h2:9<=k/\k<=14
 ·rw [if_pos h2,Qu.2 h2,cond_true,D8 oM oM]
 rw [if_neg h2,Bool.eq_false_iff.2 (fun h=>h2 (Qu.1 h)),cond_false]
theorem Zx (k:Int):Eb k=some (Ef k):=by
 unfold Eb Ef;rw [Hw,Hw,obs,obs];by_cases h1:3<=k/\k<=8
 ·rw [if_pos h1,Qu.2 h1,cond_true,D8 (n:=k+9) oM oM,D8 oM oM];congr 1;omega
 rw [if_neg h1,Bool.eq_false_iff.2 (fun h=>h1 (Qu.1 h)),cond_false];by_cases h2:9<=k/\k<=14
 ·rw [if_pos h2,Qu.2 h2,cond_true,D8 (n:=k - 9) oM oM,D8 oM oM];congr 1;omega
 rw [if_neg h2,Bool.eq_false_iff.2 (fun h=>h2 (Qu.1 h)),cond_false]
def upL (n:Nat):List Int:=(List.range n).map fun j:Nat=>(j:Int)
theorem W9 {n:Nat} {xs:List Int} (h:∀ x∈xs,0<=x/\x<n) (hl:xs.length<=1048576):At xs (upL n)=some xs:=by
 unfold At Ga;rw [Be oM]
 have key:Ba (fun s_:Nat×List Int=>Dc xs (upL n) s_.1 s_.2) 4611686018427387904 (0,[])=some ([]++xs.map fun x=>x):=by
  refine U0 xs (fun x=>x) [] oM _ (fun j x h'=>?_) ?_
  ·have:=Bt h';have hx:=h x (List.mem_of_getElem? h')
   have hg:J5 (upL n) x=some x:=by
    unfold J5;rw [if_pos hx.1];unfold upL;rw [List.getElem?_map,List.getElem?_range oM];simp;omega
   try dsimp only
   unfold Dc;rw [B7 oM,cond_true,h',obs,hg,obs,Be (by simp;omega),Be oM]
  ·try dsimp only
   unfold Dc;rw [Bs oM,cond_false]
 rw [key];simp
theorem Aap {xs:List Int} (h:xs.length<=1048576):Gv xs=some xs:=by
 unfold Gv;rw [Be oM]
theorem Aal {n:Nat} (h:n<=1000):Dv n=some (upL n):=by
 unfold Dv;rw [Yu oM,obs]
 have key:Ba (fun s_:Nat×List Int=>D9 (List.replicate (n:Int).toNat 0) s_.1 s_.2) 4611686018427387904 (0,List.replicate (n:Int).toNat 0)=some (upL n):=by
  have e:(n:Int).toNat=n:=by omega
  rw [e];have hul:∀ i,(upL i).length=i:=fun i=>by simp [upL]
  refine Dd n (fun i=>(i,upL i++(List.replicate n 0).drop i)) oM _ (by simp [upL]) (fun i hi=>?_) ?_
  ·have hi':i<(List.replicate n (0:Int)).length:=by simpa using hi
   have hp:=Vq (ys:=upL i) hi' (hul i)
   try dsimp only
   unfold D9;rw [B7 (by simp;omega),cond_true,hp,obs,Be oM,Vp hi' (hul i)];have e2:upL (i+1)=upL i++[(i:Int)]:=by simp [upL,List.range_succ]
   rw [e2]
  ·try dsimp only
   unfold D9;rw [Bs (by simp),cond_false];simp
 rw [key];rfl
end
section
open Go.RowKit Go.Deep
theorem om {p:Prop} (h:p:=by first|(simp;done)|omega|(simp;omega)):p:=h
theorem bw {p:Prop} (h:p:=by repeat (first|with_reducible exact Below.refl _ _|((with_reducible refine Below.setCell ?_ ?_ _);rotate_left;focus (first|(simp;done)|omega|(simp;omega)))|((with_reducible refine Below.alloc ?_ ?_ _);rotate_left;focus (first|(simp;done)|omega|(simp;omega)))|(with_reducible refine Below.drew ?_)|(with_reducible refine below_draws_ ?_ _)|((with_reducible refine Below.trans ?_ (Below.mono hb_w1 ?_));rotate_left;focus (first|(simp;done)|omega|(simp;omega)))|((with_reducible refine Below.trans ?_ (Below.mono hb_w2 ?_));rotate_left;focus (first|(simp;done)|omega|(simp;omega)))|((with_reducible refine Below.trans ?_ (Below.mono hb_w3 ?_));rotate_left;focus (first|(simp;done)|omega|(simp;omega)))|((with_reducible refine Below.trans ?_ (Below.mono hb_w4 ?_));rotate_left;focus (first|(simp;done)|omega|(simp;omega)))|((with_reducible refine Below.trans ?_ (Below.mono hb_w5 ?_));rotate_left;focus (first|(simp;done)|omega|(simp;omega)))|((with_reducible refine Below.trans ?_ (Below.mono hb_w6 ?_));rotate_left;focus (first|(simp;done)|omega|(simp;omega)))|((with_reducible refine Below.trans ?_ (Below.mono hb_w7 ?_));rotate_left;focus (first|(simp;done)|omega|(simp;omega)))|((with_reducible refine Below.trans ?_ (Below.mono hb_w8 ?_));rotate_left;focus (first|(simp;done)|omega|(simp;omega)))|((with_reducible refine Below.trans ?_ (Below.mono hb_w9 ?_));rotate_left;focus (first|(simp;done)|omega|(simp;omega)))|((with_reducible refine Below.trans ?_ (Below.mono hb_w10 ?_));rotate_left;focus (first|(simp;done)|omega|(simp;omega)))|((with_reducible refine Below.trans ?_ (Below.mono hb_w11 ?_));rotate_left;focus (first|(simp;done)|omega|(simp;omega)))|((with_reducible refine Below.trans ?_ (Below.mono hb_w12 ?_));rotate_left;focus (first|(simp;done)|omega|(simp;omega)))|((with_reducible refine Below.trans ?_ (Below.mono hb_w13 ?_));rotate_left;focus (first|(simp;done)|omega|(simp;omega)))|((with_reducible refine Below.trans ?_ (Below.mono hb_w14 ?_));rotate_left;focus (first|(simp;done)|omega|(simp;omega)))|((with_reducible refine Below.trans ?_ (Below.mono hb_w15 ?_));rotate_left;focus (first|(simp;done)|omega|(simp;omega)))|((with_reducible refine Below.trans ?_ (Below.mono hb_w16 ?_));rotate_left;focus (first|(simp;done)|omega|(simp;omega)))|((with_reducible refine Below.trans ?_ (Below.mono hb_w17 ?_));rotate_left;focus (first|(simp;done)|omega|(simp;omega)))|((with_reducible refine Below.trans ?_ (Below.mono hb_w18 ?_));rotate_left;focus (first|(simp;done)|omega|(simp;omega)))|((with_reducible refine Below.trans ?_ (Below.mono hb_w19 ?_));rotate_left;focus (first|(simp;done)|omega|(simp;omega)))|((with_reducible refine Below.trans ?_ (Below.mono hb_w20 ?_));rotate_left;focus (first|(simp;done)|omega|(simp;omega)))|((with_reducible refine Below.trans ?_ (Below.mono hb_w21 ?_));rotate_left;focus (first|(simp;done)|omega|(simp;omega)))|((with_reducible refine Below.trans ?_ (Below.mono hb_w22 ?_));rotate_left;focus (first|(simp;done)|omega|(simp;omega)))|((with_reducible refine Below.trans ?_ (Below.mono hb_w23 ?_));rotate_left;focus (first|(simp;done)|omega|(simp;omega)))|((with_reducible refine Below.trans ?_ (Below.mono hb_w24 ?_));rotate_left;focus (first|(simp;done)|omega|(simp;omega)))|((with_reducible refine Below.trans ?_ (Below.mono hb_w25 ?_));rotate_left;focus (first|(simp;done)|omega|(simp;omega)))|((with_reducible refine Below.trans ?_ (Below.mono hb_w26 ?_));rotate_left;focus (first|(simp;done)|omega|(simp;omega)))|((with_reducible refine Below.trans ?_ (Below.mono hb_w27 ?_));rotate_left;focus (first|(simp;done)|omega|(simp;omega)))|((with_reducible refine Below.trans ?_ (Below.mono hb_w28 ?_));rotate_left;focus (first|(simp;done)|omega|(simp;omega)))|((with_reducible refine Below.trans ?_ (Below.mono hb_w29 ?_));rotate_left;focus (first|(simp;done)|omega|(simp;omega)))|((with_reducible refine Below.trans ?_ (Below.mono hb_w30 ?_));rotate_left;focus (first|(simp;done)|omega|(simp;omega))))):p:=h
theorem T8 {w:World} {p q:Addr} {v u:Value} (h:w.cell? q=some u) (hne:q.block≠p.block):(w.setCell p v).cell? q=some u :=
 ((Marked.setCell w p v).cell q (World.block_lt_of_cell? _ _ h) (fun e=>hne (by rw [List.mem_singleton.1 e]))).trans h
theorem An {w:World} {vs:Array Value} {T:TypeId} {i:Nat} {v:Value} (h:vs[i]? =some v):(w.alloc (.cells vs T)).cell? ⟨w.heap.size,i,none⟩=some v:=by
 simp [World.cell?_alloc_new,h]
theorem Iy {P:Program} {G:World->Prop} {g:FuncId} {args:List AV} {n:Int} {vs:List Value} {w:World} (h:Dt P G g args ⟨false,[(false,[.sc (.int .i64 n)])]⟩) (hG:∀ w',Below w.heap.size w w'->G w') (hr:AV.RepL (fun _=>none) (fun _=>True) w args vs):Calls P g vs.toArray w fun e w'=>e=.returned (.int .i64 n)/\Below w.heap.size w w':=by
 refine (h w (fun _=>True) vs hG hr).mono ?_;rintro e w' ⟨u,rfl,hb,us,ls,h1,_,rfl⟩;obtain ⟨u1,us1,rfl,h2,_,rfl,rfl⟩:=h1;obtain rfl:u1=.int .i64 n:=h2;exact ⟨rfl,hb⟩
theorem Hy {P:Program} {G:World->Prop} {g:FuncId} {args:List AV} {b:Bool} {vs:List Value} {w:World} (h:Dt P G g args ⟨false,[(false,[.sc (.bool b)])]⟩) (hG:∀ w',Below w.heap.size w w'->G w') (hr:AV.RepL (fun _=>none) (fun _=>True) w args vs):Calls P g vs.toArray w fun e w'=>e=.returned (.bool b)/\Below w.heap.size w w':=by
 refine (h w (fun _=>True) vs hG hr).mono ?_;rintro e w' ⟨u,rfl,hb,us,ls,h1,_,rfl⟩;obtain ⟨u1,us1,rfl,h2,_,rfl,rfl⟩:=h1;obtain rfl:u1=.bool b:=h2;exact ⟨rfl,hb⟩
theorem Sf {α:Type} (f:α->Nat) (M:Nat):∀ (xs:List α),(∀ x∈xs,f x<=M)->(xs.map f).sum<=xs.length*M
 | [],_=>by simp
 | x :: xs,h=>by
  simp only [List.map_cons,List.sum_cons,List.length_cons,Nat.succ_mul];have:=Sf f M xs fun y hy=>h y (List.mem_cons_of_mem _ hy)
  have:=h x List.mem_cons_self;omega
theorem Qg (x:List Int):(Ty.slice Ty.int).cnt x=x.length:=by
 show (x.map fun _=>1).sum=_;rw [List.map_const',List.sum_replicate_nat];omega
end
section
open Go.RowKit Go.Deep
theorem E8 {R:Nat->Prop} (xs:List Int) (A:Option Addr) (c:Nat) (l:List Addr) (w:World) (s:Sl R w .int A c xs l) (hn:xs.length<=1048576) (tab:Tab w) :
  Calls Try.prog 31 #[.slice A xs.length c] w fun e w'=>∃ B d m,e=.returned (.slice B xs.length d)/\Sl (A9 w.heap.size) w' .int B d xs m/\Fresh w' w.heap.size m/\Below w.heap.size w w':=by
 refine (N0 (Aap hn) w (fun _=>True) [.slice A xs.length c] (fun _ hb=>tab.below hb) ⟨_,_,rfl,⟨A,c,l,rfl,Dy s⟩,rfl⟩).mono ?_;rintro e w' ⟨u,rfl,hb,hv⟩;obtain ⟨us,ls,ho,hf,rfl⟩:=RV.out_of hv rfl;obtain ⟨B,d,m,_,_,rfl,rfl,t,rfl,rfl⟩:=ho;exact ⟨B,d,m,rfl,t,by simpa using hf,hb⟩
theorem Ds {R R':Nat->Prop} (xs:List Int) (A:Option Addr) (c:Nat) (l:List Addr) (tl:List Int) (A':Option Addr) (c':Nat) (l':List Addr) (w:World) (s:Sl R w .int A c xs l) (s':Sl R' w .int A' c' tl l') (h:At xs tl=some xs) (tab:Tab w) :
  Calls Try.prog 46 #[.slice A xs.length c,.slice A' tl.length c'] w fun e w'=>∃ B d m,e=.returned (.slice B xs.length d)/\Sl (A9 w.heap.size) w' .int B d xs m/\Fresh w' w.heap.size m/\Below w.heap.size w w':=by
 refine (Nb h w (fun _=>True) [.slice A xs.length c,.slice A' tl.length c'] (fun _ hb=>tab.below hb) ⟨_,_,rfl,⟨A,c,l,rfl,Dy s⟩,⟨_,_,rfl,⟨A',c',l',rfl,Dy s'⟩,rfl⟩⟩).mono ?_;rintro e w' ⟨u,rfl,hb,hv⟩;obtain ⟨us,ls,ho,hf,rfl⟩:=RV.out_of hv rfl;obtain ⟨B,d,m,_,_,rfl,rfl,t,rfl,rfl⟩:=ho;exact ⟨B,d,m,rfl,t,by simpa using hf,hb⟩
theorem G5 {w:World} {T:TypeId} {v0 v1 v2 v3:Value}:∀ j u,[v0,v1,v2,v3][j]? =some u->(w.alloc (.cells #[v0,v1,v2,v3] T)).cell? ((⟨w.heap.size,0,none⟩:Addr).add j)=some u:=fun j u h=>by
 rw [Ax,Nat.zero_add];exact An (by simpa using h)
theorem Pm {a b:Int} {A B:Option Addr} {n c k d:Nat}:∀ u∈[Value.int .i64 a,.int .i64 b,.slice A n c,.slice B k d],u.oneCell'=true:=fun u hu=>by
 simp only [List.mem_cons,List.not_mem_nil,or_false] at hu;rcases hu with rfl|rfl|rfl|rfl <;> rfl
def MovR (w wr:World) (X lo:Nat) (cnt:Int) (v:Value) (es:List Edg) (B2:Option Addr) (d2:Nat) (xs:List Int) (m2:List Addr) (B3:Option Addr) (d3:Nat) (ys:List Int) (m3:List Addr):Prop :=
 (wr.cell? ⟨X,0,none⟩=some (.int .i64 cnt)/\wr.cell? ⟨X,1,none⟩=some v/\wr.cell? ⟨X,2,none⟩=some (.slice B2 xs.length d2)/\wr.cell? ⟨X,3,none⟩=some (.slice B3 ys.length d3))/\(∀ i,wr.frozen? ⟨X,i,none⟩=false) /\
 (w.heap.size<X/\X<lo)/\GrowV lo wr 45 As v es/\Sl (fun b=>w.heap.size+2<=b/\b<lo/\b≠X) wr .int B2 d2 xs m2/\Sl (fun b=>w.heap.size+2<=b/\b<lo/\b≠X) wr .int B3 d3 ys m3/\Fresh wr w.heap.size (m2++m3)/\lo<=wr.heap.size
section
variable {w w4 wr:World} {X lo:Nat} {cnt:Int} {v v':Value} {es es':List Edg} {B2 B3:Option Addr} {d2 d3:Nat} {xs ys:List Int} {m2 m3:List Addr} {R2 R3:Nat->Prop}
theorem Ok (u2:Sl R2 w4 .int B2 d2 xs m2) (u3:Sl R3 w4 .int B3 d3 ys m3) (h2:∀ b,R2 b->w.heap.size+2<=b) (h3:∀ b,R3 b->w.heap.size+2<=b) (f:Fresh w4 w.heap.size (m2++m3)) (hw:w.heap.size<w4.heap.size) (T:TypeId) :
  MovR w (w4.alloc (.cells #[.int .i64 cnt,.slice none 0 0,.slice B2 xs.length d2,.slice B3 ys.length d3] T)) w4.heap.size (w4.heap.size+1) cnt (.slice none 0 0) [] B2 d2 xs m2 B3 d3 ys m3:=by
 have hb:Below w4.heap.size w4 (w4.alloc (.cells #[.int .i64 cnt,.slice none 0 0,.slice B2 xs.length d2,.slice B3 ys.length d3] T)):=(Below.refl _ _).alloc (Nat.le_refl _) _;exact ⟨⟨An rfl,An rfl,An rfl,An rfl⟩,fun i=>by simp,⟨hw,by omega⟩,GrowV.nil _ _ _ _,Ab (Am (fun b hb hr=>⟨h2 b hr,by omega,by omega⟩) u2) hb,Ab (Am (fun b hb hr=>⟨h3 b hr,by omega,by omega⟩) u3) hb,f.below hb,by simp⟩
theorem Ap {R:Nat->Prop} {t:Ty} {A:Option Addr} {c:Nat} {xs:List t.D} {l:List Addr} (h:Sl R w t A c xs l) (hR:∀ b,R b->b≠X) (i:Nat) (u:Value):Sl R (w.setCell ⟨X,i,none⟩ u) t A c xs l :=
 H3 h fun p q hr hc _=>T8 hc (hR _ hr)
theorem A0 {l:List Addr} (h:Fresh w lo l) (p:Addr) (u:Value):Fresh (w.setCell p u) lo l :=
 ⟨h.1,fun q hq=>⟨(h.2 q hq).1,by simpa [World.setCell] using (h.2 q hq).2.1,by rw [World.frozen?_setCell];exact (h.2 q hq).2.2⟩⟩
theorem Bg {i j:Nat} {u q:Value} (hne:i≠j) (h:w.cell? ⟨X,i,none⟩=some u):(w.setCell ⟨X,j,none⟩ q).cell? ⟨X,i,none⟩=some u :=
 (World.cell?_setCell_other _ _ _ _ (fun e=>hne (by injection e with _ e2 _;exact e2.symm))).trans h
theorem Lt {z0 z1 z2 z3:Value} (u2:Sl R2 w4 .int B2 d2 xs m2) (u3:Sl R3 w4 .int B3 d3 ys m3) (h2:∀ b,R2 b->w.heap.size+2<=b/\b≠X) (h3:∀ b,R3 b->w.heap.size+2<=b/\b≠X) (f:Fresh w4 w.heap.size (m2++m3)) (hw:w.heap.size<X/\X<w4.heap.size)
  (c0:w4.cell? ⟨X,0,none⟩=some z0) (c1:w4.cell? ⟨X,1,none⟩=some z1) (c2:w4.cell? ⟨X,2,none⟩=some z2) (c3:w4.cell? ⟨X,3,none⟩=some z3) (zf:∀ i,w4.frozen? ⟨X,i,none⟩=false) :
  MovR w ((((w4.setCell ⟨X,0,none⟩ (.int .i64 cnt)).setCell ⟨X,1,none⟩ (.slice none 0 0)).setCell ⟨X,2,none⟩ (.slice B2 xs.length d2)).setCell ⟨X,3,none⟩ (.slice B3 ys.length d3)) X w4.heap.size cnt (.slice none 0 0) [] B2 d2 xs m2 B3 d3 ys m3:=by
 refine ⟨⟨?_,?_,?_,?_⟩,fun i=>?_,⟨hw.1,hw.2⟩,GrowV.nil _ _ _ _,?_,?_,A0 (A0 (A0 (A0 f _ _) _ _) _ _) _ _,by simp [World.setCell]⟩
 ·exact Bg (by decide) (Bg (by decide) (Bg (by decide) (World.cell?_setCell_same _ _ _ c0)))
 ·exact Bg (by decide) (Bg (by decide) (World.cell?_setCell_same _ _ _ (Bg (by decide) c1)))
 ·exact Bg (by decide) (World.cell?_setCell_same _ _ _ (Bg (by decide) (Bg (by decide) c2)))
 ·exact World.cell?_setCell_same _ _ _ (Bg (by decide) (Bg (by decide) (Bg (by decide) c3)))
 ·simp [World.frozen?_setCell,zf]
 ·exact Ap (Ap (Ap (Ap (Am (fun b hb hr=>⟨(h2 b hr).1,hb,(h2 b hr).2⟩) u2) (fun b h=>h.2.2) _ _) (fun b h=>h.2.2) _ _) (fun b h=>h.2.2) _ _) (fun b h=>h.2.2) _ _
 ·exact Ap (Ap (Ap (Ap (Am (fun b hb hr=>⟨(h3 b hr).1,hb,(h3 b hr).2⟩) u3) (fun b h=>h.2.2) _ _) (fun b h=>h.2.2) _ _) (fun b h=>h.2.2) _ _) (fun b h=>h.2.2) _ _
theorem Cl {e:TypeId} {t:Ty} {zs:List t.D} (h:GrowV lo w e t v zs) (hX:X<lo) (i:Nat) (u:Value):GrowV lo (w.setCell ⟨X,i,none⟩ u) e t v zs:=by
 obtain ⟨cs,f,h1,h2,h3⟩:=h;exact ⟨cs,f,ownsRow_setCell_below h1 hX u,fun j hj=>(h2 j hj).keep (fun p q hr hc _=>T8 hc (by have:=hr.1;show p.block≠X;omega)),A0 h3 _ _⟩
theorem MovR.step {w5 w6:World} (h:MovR w wr X lo cnt v es B2 d2 xs m2 B3 d3 ys m3) (hb:Below wr.heap.size wr w5) (hg:w5.grownBy w6 v.ownBlock) (hV:GrowV lo w6 45 As v' es') :
  MovR w (w6.setCell ⟨X,1,none⟩ v') X lo cnt v' es' B2 d2 xs m2 B3 d3 ys m3:=by
 obtain ⟨⟨c0,c1,c2,c3⟩,zf,⟨hX1,hX2⟩,hG,u2,u3,f,hlo⟩:=h;have hlt:=hG.lt
 have hk:∀ b,b<lo->w6.heap[b]? =wr.heap[b]?:=fun b hb2=>by
  have h1:=hg.block b (by have:=hb.size;omega) (fun e=>by have:=(hlt b e.symm).1;omega);exact h1.trans (hb.block b oM)
 have hc:∀ (p:Addr) (u:Value),p.block<lo->wr.cell? p=some u->w6.cell? p=some u:=fun p u hp h=>(World.cell?_of_block (hk _ hp)).trans h
 have hfz:∀ (p:Addr),p.block<lo->w6.frozen? p=wr.frozen? p:=fun p hp=>World.frozen?_of_block (hk _ hp)
 have hs6:wr.heap.size<=w6.heap.size:=Nat.le_trans hb.size hg.size
 have keepS:∀ {t:Ty} {A:Option Addr} {c:Nat} {zs:List t.D} {l:List Addr},Sl (fun b=>w.heap.size+2<=b/\b<lo/\b≠X) wr t A c zs l->Sl (fun b=>w.heap.size+2<=b/\b<lo/\b≠X) (w6.setCell ⟨X,1,none⟩ v') t A c zs l:=fun h =>
  Ap (H3 h fun p q hr hq _=>hc p q hr.2.1 hq) (fun b h=>h.2.2) _ _
 refine ⟨⟨?_,?_,?_,?_⟩,fun i=>?_,⟨hX1,hX2⟩,?_,keepS u2,keepS u3,?_,by simpa [World.setCell] using Nat.le_trans hlo hs6⟩
 ·exact Bg (by decide) (hc _ _ hX2 c0)
 ·exact World.cell?_setCell_same _ _ _ (hc _ _ hX2 c1)
 ·exact Bg (by decide) (hc _ _ hX2 c2)
 ·exact Bg (by decide) (hc _ _ hX2 c3)
 ·rw [World.frozen?_setCell,hfz _ hX2];exact zf i
 ·exact Cl hV hX2 _ _
 ·refine ⟨f.1,fun p hp=>?_⟩;obtain ⟨q1,q2,q3⟩:=f.2 p hp
  have hpl:p.block<lo:=by
   rcases List.mem_append.1 hp with h|h
   ·exact (Gx u2 p h).1.2.1
   ·exact (Gx u3 p h).1.2.1
  exact ⟨q1,by simpa [World.setCell] using Nat.lt_of_lt_of_le q2 hs6,by rw [World.frozen?_setCell,hfz _ hpl];exact q3⟩
end
set_option maxRecDepth 100000 in
set_option maxHeartbeats 16000000 in
theorem Vw {R1 R2 R3 R4:Nat->Prop} (W cnt:Int) (es:List Edg) (A1:Option Addr) (c1:Nat) (l1:List Addr) (xs:List Int) (A2:Option Addr) (c2:Nat) (l2:List Addr) (ys:List Int) (A3:Option Addr) (c3:Nat) (l3:List Addr) (tl:List Int) (A4:Option Addr) (c4:Nat) (l4:List Addr) (w:World)
  (s1:Sl R1 w As A1 c1 es l1) (s2:Sl R2 w .int A2 c2 xs l2) (s3:Sl R3 w .int A3 c3 ys l3) (s4:Sl R4 w .int A4 c4 tl l4) (n1:es.length<=1048576) (hx:At xs tl=some xs) (hy:At ys tl=some ys) (he:∀ e∈es,At e.2.2.1 tl=some e.2.2.1/\At e.2.2.2 tl=some e.2.2.2) (tab:Tab w) :
  Calls Try.prog 38 #[.agg #[.int .i64 W,.slice A1 es.length c1,.slice A2 xs.length c2,.slice A3 ys.length c3],.int .i64 cnt,.slice A4 tl.length c4] w fun e w'=>∃ v B2 d2 m2 B3 d3 m3 lo,e=.returned (.agg #[.int .i64 cnt,v,.slice B2 xs.length d2,.slice B3 ys.length d3])/\w.heap.size<=lo/\GrowV lo w' 45 As v es/\Sl (fun b=>w.heap.size<=b/\b<lo) w' .int B2 d2 xs m2/\Sl (fun b=>w.heap.size<=b/\b<lo) w' .int B3 d3 ys m3/\Fresh w' w.heap.size (m2++m3)/\Below w.heap.size w w':=by
 go_enter Try.func38,Try.ntmps38
 go_wp2_with fail
 go_cut [7] (fun p7 wx=>∃ (X lo:Nat) (B2:Option Addr) (d2:Nat) (m2:List Addr) (B3:Option Addr) (d3:Nat) (m3:List Addr),p7=.pointer (some ⟨X,0,none⟩)/\w.heap.size+2<=X/\MovR w wx X lo cnt (.slice none 0 0) [] B2 d2 xs m2 B3 d3 ys m3/\Below (w.heap.size+2) ((w.alloc (.cells #[.int .i64 W,.slice A1 es.length c1,.slice A2 xs.length c2,.slice A3 ys.length c3] 29)).alloc (.cells #[.int .i64 0,.slice none 0 0,.slice none 0 0,.slice none 0 0] 29)) wx)
 case first =>
  have hb0:Below w.heap.size w ((w.alloc (.cells #[.int .i64 W,.slice A1 es.length c1,.slice A2 xs.length c2,.slice A3 ys.length c3] 29)).alloc (.cells #[.int .i64 0,.slice none 0 0,.slice none 0 0,.slice none 0 0] 29)):=(by repeat (first|with_reducible exact Below.refl _ _|((with_reducible refine Below.setCell ?_ ?_ _);rotate_left;focus (first|(simp;done)|omega|(simp;omega)))|((with_reducible refine Below.alloc ?_ ?_ _);rotate_left;focus (first|(simp;done)|omega|(simp;omega)))|(with_reducible refine Below.drew ?_)|(with_reducible refine below_draws_ ?_ _)))
  have hsz:((w.alloc (.cells #[.int .i64 W,.slice A1 es.length c1,.slice A2 xs.length c2,.slice A3 ys.length c3] 29)).alloc (.cells #[.int .i64 0,.slice none 0 0,.slice none 0 0,.slice none 0 0] 29)).heap.size=w.heap.size+2:=by simp
  have q2:((w.alloc (.cells #[.int .i64 W,.slice A1 es.length c1,.slice A2 xs.length c2,.slice A3 ys.length c3] 29)).alloc (.cells #[.int .i64 0,.slice none 0 0,.slice none 0 0,.slice none 0 0] 29)).cell? ⟨w.heap.size,2,none⟩=some (.slice A2 xs.length c2):=by simp
  have q3:((w.alloc (.cells #[.int .i64 W,.slice A1 es.length c1,.slice A2 xs.length c2,.slice A3 ys.length c3] 29)).alloc (.cells #[.int .i64 0,.slice none 0 0,.slice none 0 0,.slice none 0 0] 29)).cell? ⟨w.heap.size,3,none⟩=some (.slice A3 ys.length c3):=by simp
  generalize (w.alloc (.cells #[.int .i64 W,.slice A1 es.length c1,.slice A2 xs.length c2,.slice A3 ys.length c3] 29)).alloc (.cells #[.int .i64 0,.slice none 0 0,.slice none 0 0,.slice none 0 0] 29)=w2 at *;have t2:=Ab s2 hb0;have t3:=Ab s3 hb0;have t4:=Ab s4 hb0;have tb:=tab.below hb0
  clear s1 s2 s3 s4 tab hb0
  have hn_w2:w2.heap.size≠w.heap.size:=by omega
  have hm_w2:w.heap.size≠w2.heap.size:=by omega
  have hlt2:w.heap.size+1<w2.heap.size:=by omega
  have hszH:=Lib.hid hsz
  clear hsz
  go_region_held3 (fun w'=>w'.cell? ⟨w.heap.size,2,none⟩=some (.slice A2 xs.length c2)/\w'.cell? ⟨w.heap.size,3,none⟩=some (.slice A3 ys.length c3)) (go_keep)
   (first
    | (go_at_call 46;(with_reducible show Calls _ _ #[.slice A2 xs.length c2,.slice A4 tl.length c4] _ _);(try go_split_ands);refine (Ds xs A2 c2 l2 tl A4 c4 l4 _ (by exact Ab t2 (by repeat (first|with_reducible exact Below.refl _ _|((with_reducible refine Below.setCell ?_ ?_ _);rotate_left;focus (first|(simp;done)|omega|(simp;omega)))|((with_reducible refine Below.alloc ?_ ?_ _);rotate_left;focus (first|(simp;done)|omega|(simp;omega)))|(with_reducible refine Below.drew ?_)|(with_reducible refine below_draws_ ?_ _)))) (by exact Ab t4 (by repeat (first|with_reducible exact Below.refl _ _|((with_reducible refine Below.setCell ?_ ?_ _);rotate_left;focus (first|(simp;done)|omega|(simp;omega)))|((with_reducible refine Below.alloc ?_ ?_ _);rotate_left;focus (first|(simp;done)|omega|(simp;omega)))|(with_reducible refine Below.drew ?_)|(with_reducible refine below_draws_ ?_ _)))) hx (tb.below (by repeat (first|with_reducible exact Below.refl _ _|((with_reducible refine Below.setCell ?_ ?_ _);rotate_left;focus (first|(simp;done)|omega|(simp;omega)))|((with_reducible refine Below.alloc ?_ ?_ _);rotate_left;focus (first|(simp;done)|omega|(simp;omega)))|(with_reducible refine Below.drew ?_)|(with_reducible refine below_draws_ ?_ _))))).mono ?_;rintro e w3 ⟨B2,d2,m2,rfl,u2,f2,hb_w3⟩;have hz_w3:=hb_w3.size;(try simp at hz_w3);have k2:w3.cell? ⟨w.heap.size,2,none⟩=some (.slice A2 xs.length c2):=Aa hb_w3 (by first|assumption|simp [*]);have k3:w3.cell? ⟨w.heap.size,3,none⟩=some (.slice A3 ys.length c3):=Aa hb_w3 (by first|assumption|simp [*]);obtain ⟨hc_w3,hf_w3⟩:=B0 hb_w3;have hn_w3:w3.heap.size≠w.heap.size:=oM;have hm_w3:w.heap.size≠w3.heap.size:=oM;(try have hq_w3_0:w2.heap.size<w3.heap.size:=oM))
    | (go_at_call 46;(with_reducible show Calls _ _ #[.slice A3 ys.length c3,.slice A4 tl.length c4] _ _);(try go_split_ands);refine (Ds ys A3 c3 l3 tl A4 c4 l4 _ (by exact Ab t3 (by repeat (first|with_reducible exact Below.refl _ _|((with_reducible refine Below.setCell ?_ ?_ _);rotate_left;focus (first|(simp;done)|omega|(simp;omega)))|((with_reducible refine Below.alloc ?_ ?_ _);rotate_left;focus (first|(simp;done)|omega|(simp;omega)))|(with_reducible refine Below.drew ?_)|(with_reducible refine below_draws_ ?_ _)|((with_reducible refine Below.trans ?_ (Below.mono hb_w3 ?_));rotate_left;focus (first|(simp;done)|omega|(simp;omega)))))) (by exact Ab t4 (by repeat (first|with_reducible exact Below.refl _ _|((with_reducible refine Below.setCell ?_ ?_ _);rotate_left;focus (first|(simp;done)|omega|(simp;omega)))|((with_reducible refine Below.alloc ?_ ?_ _);rotate_left;focus (first|(simp;done)|omega|(simp;omega)))|(with_reducible refine Below.drew ?_)|(with_reducible refine below_draws_ ?_ _)|((with_reducible refine Below.trans ?_ (Below.mono hb_w3 ?_));rotate_left;focus (first|(simp;done)|omega|(simp;omega)))))) hy (tb.below (by repeat (first|with_reducible exact Below.refl _ _|((with_reducible refine Below.setCell ?_ ?_ _);rotate_left;focus (first|(simp;done)|omega|(simp;omega)))|((with_reducible refine Below.alloc ?_ ?_ _);rotate_left;focus (first|(simp;done)|omega|(simp;omega)))|(with_reducible refine Below.drew ?_)|(with_reducible refine below_draws_ ?_ _)|((with_reducible refine Below.trans ?_ (Below.mono hb_w3 ?_));rotate_left;focus (first|(simp;done)|omega|(simp;omega))))))).mono ?_;rintro e w4 ⟨B3,d3,m3,rfl,u3,f3,hb_w4⟩;have hz_w4:=hb_w4.size;(try simp at hz_w4);have k4:w4.cell? ⟨w.heap.size,2,none⟩=some (.slice A2 xs.length c2):=Aa hb_w4 (by first|assumption|simp [*]);have k5:w4.cell? ⟨w.heap.size,3,none⟩=some (.slice A3 ys.length c3):=Aa hb_w4 (by first|assumption|simp [*]);obtain ⟨hc_w4,hf_w4⟩:=B0 hb_w4;have hn_w4:w4.heap.size≠w.heap.size:=oM;have hm_w4:w.heap.size≠w4.heap.size:=oM;(try have hq_w4_0:w2.heap.size<w4.heap.size:=oM);(try have hq_w4_1:w3.heap.size<w4.heap.size:=oM)))
  all_goals go_wp2_with fail
  all_goals go_meet
  all_goals have U2:Sl (fun b=>A9 _ b/\b<w3.heap.size) w4 .int B2 d2 xs m2:=Ab (Am (fun b hb hr=>⟨hr,hb⟩) u2) (by repeat (first|with_reducible exact Below.refl _ _|((with_reducible refine Below.setCell ?_ ?_ _);rotate_left;focus (first|(simp;done)|omega|(simp;omega)))|((with_reducible refine Below.alloc ?_ ?_ _);rotate_left;focus (first|(simp;done)|omega|(simp;omega)))|(with_reducible refine Below.drew ?_)|(with_reducible refine below_draws_ ?_ _)|((with_reducible refine Below.trans ?_ (Below.mono hb_w4 ?_));rotate_left;focus (first|(simp;done)|omega|(simp;omega)))))
  all_goals have FF:Fresh w4 w.heap.size (m2++m3):=Fresh.append (f2.le (by first|(simp;done)|omega|(simp;omega))) (show Below w3.heap.size w3 w4 from (by repeat (first|with_reducible exact Below.refl _ _|((with_reducible refine Below.setCell ?_ ?_ _);rotate_left;focus (first|(simp;done)|omega|(simp;omega)))|((with_reducible refine Below.alloc ?_ ?_ _);rotate_left;focus (first|(simp;done)|omega|(simp;omega)))|(with_reducible refine Below.drew ?_)|(with_reducible refine below_draws_ ?_ _)|((with_reducible refine Below.trans ?_ (Below.mono hb_w4 ?_));rotate_left;focus (first|(simp;done)|omega|(simp;omega)))))) (f3.le (by first|(simp;done)|omega|(simp;omega))) (by first|(simp;done)|omega|(simp;omega))
  ·exact ⟨_,_,B2,d2,m2,B3,d3,m3,rfl,(by first|(simp;done)|omega|(simp;omega)),Ok U2 u3 (fun b h=>by have h1:=h.1;unfold A9 at h1;(try simp at h1);omega) (fun b h=>by have h1:=h;unfold A9 at h1;(try simp at h1);omega) FF (by first|(simp;done)|omega|(simp;omega)) _,(by rw [← hszH.out];exact (by repeat (first|with_reducible exact Below.refl _ _|((with_reducible refine Below.setCell ?_ ?_ _);rotate_left;focus (first|(simp;done)|omega|(simp;omega)))|((with_reducible refine Below.alloc ?_ ?_ _);rotate_left;focus (first|(simp;done)|omega|(simp;omega)))|(with_reducible refine Below.drew ?_)|(with_reducible refine below_draws_ ?_ _)|((with_reducible refine Below.trans ?_ (Below.mono hb_w3 ?_));rotate_left;focus (first|(simp;done)|omega|(simp;omega)))|((with_reducible refine Below.trans ?_ (Below.mono hb_w4 ?_));rotate_left;focus (first|(simp;done)|omega|(simp;omega))))))⟩
  ·exact ⟨w3.heap.size,_,B2,d2,m2,B3,d3,m3,rfl,(by first|(simp;done)|omega|(simp;omega)),Lt (z0:=.int .i64 0) (z1:=.slice none 0 0) (z2:=.slice none 0 0) (z3:=.slice none 0 0) U2 u3 (fun b h=>by have h1:=h.1;have h2:=h.2;unfold A9 at h1;(try simp at h1);omega) (fun b h=>by have h1:=h;unfold A9 at h1;(try simp at h1);omega) FF (by first|(simp;done)|omega|(simp;omega)) ((hc_w4 _ _ (by first|(simp;done)|omega|(simp;omega))).trans (An rfl)) ((hc_w4 _ _ (by first|(simp;done)|omega|(simp;omega))).trans (An rfl)) ((hc_w4 _ _ (by first|(simp;done)|omega|(simp;omega))).trans (An rfl)) ((hc_w4 _ _ (by first|(simp;done)|omega|(simp;omega))).trans (An rfl)) (fun i=>(hf_w4 _ _ (by first|(simp;done)|omega|(simp;omega))).trans (by simp)),(by rw [← hszH.out];exact (by repeat (first|with_reducible exact Below.refl _ _|((with_reducible refine Below.setCell ?_ ?_ _);rotate_left;focus (first|(simp;done)|omega|(simp;omega)))|((with_reducible refine Below.alloc ?_ ?_ _);rotate_left;focus (first|(simp;done)|omega|(simp;omega)))|(with_reducible refine Below.drew ?_)|(with_reducible refine below_draws_ ?_ _)|((with_reducible refine Below.trans ?_ (Below.mono hb_w3 ?_));rotate_left;focus (first|(simp;done)|omega|(simp;omega)))|((with_reducible refine Below.trans ?_ (Below.mono hb_w4 ?_));rotate_left;focus (first|(simp;done)|omega|(simp;omega))))))⟩
  ·exact ⟨w2.heap.size,_,B2,d2,m2,B3,d3,m3,rfl,(by first|(simp;done)|omega|(simp;omega)),Lt (z0:=.int .i64 0) (z1:=.slice none 0 0) (z2:=.slice none 0 0) (z3:=.slice none 0 0) U2 u3 (fun b h=>by have h1:=h.1;have h2:=h.2;unfold A9 at h1;(try simp at h1);omega) (fun b h=>by have h1:=h;unfold A9 at h1;(try simp at h1);omega) FF (by first|(simp;done)|omega|(simp;omega)) ((hc_w4 _ _ (by first|(simp;done)|omega|(simp;omega))).trans ((hc_w3 _ _ (by first|(simp;done)|omega|(simp;omega))).trans (An rfl))) ((hc_w4 _ _ (by first|(simp;done)|omega|(simp;omega))).trans ((hc_w3 _ _ (by first|(simp;done)|omega|(simp;omega))).trans (An rfl))) ((hc_w4 _ _ (by first|(simp;done)|omega|(simp;omega))).trans ((hc_w3 _ _ (by first|(simp;done)|omega|(simp;omega))).trans (An rfl))) ((hc_w4 _ _ (by first|(simp;done)|omega|(simp;omega))).trans ((hc_w3 _ _ (by first|(simp;done)|omega|(simp;omega))).trans (An rfl))) (fun i=>(hf_w4 _ _ (by first|(simp;done)|omega|(simp;omega))).trans ((hf_w3 _ _ (by first|(simp;done)|omega|(simp;omega))).trans (by simp))),(by rw [← hszH.out];exact (by repeat (first|with_reducible exact Below.refl _ _|((with_reducible refine Below.setCell ?_ ?_ _);rotate_left;focus (first|(simp;done)|omega|(simp;omega)))|((with_reducible refine Below.alloc ?_ ?_ _);rotate_left;focus (first|(simp;done)|omega|(simp;omega)))|(with_reducible refine Below.drew ?_)|(with_reducible refine below_draws_ ?_ _)|((with_reducible refine Below.trans ?_ (Below.mono hb_w3 ?_));rotate_left;focus (first|(simp;done)|omega|(simp;omega)))|((with_reducible refine Below.trans ?_ (Below.mono hb_w4 ?_));rotate_left;focus (first|(simp;done)|omega|(simp;omega))))))⟩
 case rest =>
  obtain ⟨X,lo,B2,d2,m2,B3,d3,m3,rfl,hX,hM,hb⟩:=hcut;have hb0:Below w.heap.size w ((w.alloc (.cells #[.int .i64 W,.slice A1 es.length c1,.slice A2 xs.length c2,.slice A3 ys.length c3] 29)).alloc (.cells #[.int .i64 0,.slice none 0 0,.slice none 0 0,.slice none 0 0] 29)):=(by repeat (first|with_reducible exact Below.refl _ _|((with_reducible refine Below.setCell ?_ ?_ _);rotate_left;focus (first|(simp;done)|omega|(simp;omega)))|((with_reducible refine Below.alloc ?_ ?_ _);rotate_left;focus (first|(simp;done)|omega|(simp;omega)))|(with_reducible refine Below.drew ?_)|(with_reducible refine below_draws_ ?_ _)))
  have hbw:Below w.heap.size w wc:=hb0.trans (hb.mono oM);have q1:wc.cell? ⟨w.heap.size,1,none⟩=some (.slice A1 es.length c1):=(hb.cell (show w.heap.size<_ by omega)).trans (by simp);have r0:wc.cell? ⟨w.heap.size+1,0,none⟩=some (.int .i64 0):=(hb.cell (show w.heap.size+1<_ by omega)).trans (by simp);have r1:wc.cell? ⟨w.heap.size+1,1,none⟩=some (.slice none 0 0):=(hb.cell (show w.heap.size+1<_ by omega)).trans (by simp);have r2:wc.cell? ⟨w.heap.size+1,2,none⟩=some (.slice none 0 0):=(hb.cell (show w.heap.size+1<_ by omega)).trans (by simp);have r3:wc.cell? ⟨w.heap.size+1,3,none⟩=some (.slice none 0 0):=(hb.cell (show w.heap.size+1<_ by omega)).trans (by simp);have rf:∀ i,wc.frozen? ⟨w.heap.size+1,i,none⟩=false:=fun i=>(hb.frozen (show w.heap.size+1<_ by omega)).trans (by simp)
  clear hb hb0
  go_wp2_with fail
  go_loopw [23] (fun i wr=>∃ (k:Nat) (v:Value),k<=es.length/\i=.int .i64 k/\MovR w wr X lo cnt v (es.take k) B2 d2 xs m2 B3 d3 ys m3/\Below (w.heap.size+2) wc wr) (fun i _=>es.length - (intOf i).toNat)
  case atStart=>exact ⟨0,_,by omega,rfl,hM,Below.refl _ _⟩
  case round =>
   obtain ⟨k,v,hk,rfl,hR,hbl⟩:=hrel;have bR:Below w.heap.size w wr:=hbw.trans (hbl.mono oM);by_cases hlt:k<es.length
   ·obtain ⟨⟨z0,z1,z2,z3⟩,zf,⟨hX1,hX2⟩,hG,u2,u3,f,hlo⟩:=id hR;obtain ⟨GA,gc,rfl,hgl,hgm⟩:=hG.len;obtain ⟨b,o,ff,rfl,_,hs⟩:=Kq s1 oM;obtain ⟨A5,c5,l5,A6,c6,l6,e0,e1,e2,e3,t5,t6,_⟩:=hs k hlt;obtain ⟨hp5,hp6⟩:=he _ (List.getElem_mem hlt);obtain ⟨⟨y0,y1,y2,y3⟩,hxk⟩:∃ x,x=es[k]:=⟨_,rfl⟩
    rw [← hxk] at e0 e1 e2 e3 t5 t6 hp5 hp6;dsimp only at e0 e1 e2 e3 t5 t6 hp5 hp6
    replace e0:=Aa bR e0
    replace e1:=Aa bR e1
    replace e2:=Aa bR e2
    replace e3:=Aa bR e3
    have et:es.take (k+1)=es.take k++[(y0,y1,y2,y3)]:=by rw [List.take_succ_eq_append_getElem hlt,hxk]
    rw [List.length_take,Nat.min_eq_left hk] at hgl z1 hG hR;have hH:=Lib.hid hR;have hXn:X≠wr.heap.size:=by omega
    have hXm:wr.heap.size≠X:=by omega
    clear hs hxk he hR u2 u3 f r0 r1 r2 r3 rf hM
    go_wp2_with fail
    have hb6:Below wr.heap.size wr (wr.alloc (.cells #[.int .i64 y0,.int .i64 y1,.slice A5 y2.length c5,.slice A6 y3.length c6] 45)):=(by repeat (first|with_reducible exact Below.refl _ _|((with_reducible refine Below.setCell ?_ ?_ _);rotate_left;focus (first|(simp;done)|omega|(simp;omega)))|((with_reducible refine Below.alloc ?_ ?_ _);rotate_left;focus (first|(simp;done)|omega|(simp;omega)))|(with_reducible refine Below.drew ?_)|(with_reducible refine below_draws_ ?_ _)))
    have hz6:wr.heap.size+1<=(wr.alloc (.cells #[.int .i64 y0,.int .i64 y1,.slice A5 y2.length c5,.slice A6 y3.length c6] 45)).heap.size:=by simp
    have p0:(wr.alloc (.cells #[.int .i64 y0,.int .i64 y1,.slice A5 y2.length c5,.slice A6 y3.length c6] 45)).cell? ⟨wr.heap.size,0,none⟩=some (.int .i64 y0):=An rfl;have p1:(wr.alloc (.cells #[.int .i64 y0,.int .i64 y1,.slice A5 y2.length c5,.slice A6 y3.length c6] 45)).cell? ⟨wr.heap.size,1,none⟩=some (.int .i64 y1):=An rfl;have p2:(wr.alloc (.cells #[.int .i64 y0,.int .i64 y1,.slice A5 y2.length c5,.slice A6 y3.length c6] 45)).cell? ⟨wr.heap.size,2,none⟩=some (.slice A5 y2.length c5):=An rfl;have p3:(wr.alloc (.cells #[.int .i64 y0,.int .i64 y1,.slice A5 y2.length c5,.slice A6 y3.length c6] 45)).cell? ⟨wr.heap.size,3,none⟩=some (.slice A6 y3.length c6):=An rfl;have pX:=Aa hb6 z1;generalize wr.alloc (.cells #[.int .i64 y0,.int .i64 y1,.slice A5 y2.length c5,.slice A6 y3.length c6] 45)=w6 at *;have b6:Below w.heap.size w w6:=bR.trans (hb6.mono bR.size);have T5:=Ab t5 b6;have T6:=Ab t6 b6;have T4:=Ab s4 b6;have tb:=tab.below b6;have hltG:=hG.lt;have hXw6:X<w6.heap.size:=by omega
    refine wp_region_held_drew (S:=fun w'=>w'.cell? ⟨wr.heap.size,0,none⟩=some (.int .i64 y0)/\w'.cell? ⟨wr.heap.size,1,none⟩=some (.int .i64 y1)/\w'.cell? ⟨wr.heap.size,2,none⟩=some (.slice A5 y2.length c5)/\w'.cell? ⟨wr.heap.size,3,none⟩=some (.slice A6 y3.length c6)) (by kernel_rfl) (by (try dsimp only);go_keep) (fun hHeld=>?_);refine wpAnyH_take (i:=0) (v:=?_) rfl (by kernel_rfl) (by kernel_rfl) (by kernel_rfl) (fun _ _ _ h=>h) (Or.inl ⟨by rfl,?_⟩) (by assumption) ?_
    rotate_left
    ·intro w hSw;(try dsimp only at hSw);go_simp;all_goals (try with_reducible rfl)
    (try simp only [Act.put,List.setIfInBounds_toArray,List.set_cons_zero,List.set_cons_succ])
    refine wpAnyH_take (i:=2) (v:=?_) rfl (by kernel_rfl) (by kernel_rfl) (by kernel_rfl) (fun _ _ _ h=>h) (Or.inl ⟨by rfl,?_⟩) (by assumption) ?_
    rotate_left
    ·intro w hSw;(try dsimp only at hSw);go_simp;all_goals (try with_reducible rfl)
    (try simp only [Act.put,List.setIfInBounds_toArray,List.set_cons_zero,List.set_cons_succ])
    refine wpAnyH_take (i:=3) (v:=?_) rfl (by kernel_rfl) (by kernel_rfl) (by kernel_rfl) (fun _ _ _ h=>h) (Or.inl ⟨by rfl,?_⟩) (by assumption) ?_
    rotate_left
    ·intro w hSw;(try dsimp only at hSw);go_simp;all_goals (try with_reducible rfl)
    (try simp only [Act.put,List.setIfInBounds_toArray,List.set_cons_zero,List.set_cons_succ])
    refine wpAnyH_take (i:=4) (v:=?_) rfl (by kernel_rfl) (by kernel_rfl) (by kernel_rfl) (fun _ _ _ h=>h) (Or.inl ⟨by rfl,?_⟩) (by assumption) ?_
    rotate_left
    ·intro w hSw;(try dsimp only at hSw);go_simp;all_goals (try with_reducible rfl)
    (try simp only [Act.put,List.setIfInBounds_toArray,List.set_cons_zero,List.set_cons_succ])
    refine wpAnyH_take (i:=5) (v:=?_) rfl (by kernel_rfl) (by kernel_rfl) (by kernel_rfl) (fun _ _ _ h=>h) (Or.inl ⟨by rfl,?_⟩) (by assumption) ?_
    rotate_left
    ·intro w hSw;(try dsimp only at hSw);go_simp;all_goals (try with_reducible rfl)
    (try simp only [Act.put,List.setIfInBounds_toArray,List.set_cons_zero,List.set_cons_succ])
    refine wpAnyH_take (i:=6) (v:=?_) rfl (by kernel_rfl) (by kernel_rfl) (by kernel_rfl) (fun _ _ _ h=>h) (Or.inl ⟨by rfl,?_⟩) (by assumption) ?_
    rotate_left
    ·intro w hSw;(try dsimp only at hSw);go_simp;all_goals (try with_reducible rfl)
    (try simp only [Act.put,List.setIfInBounds_toArray,List.set_cons_zero,List.set_cons_succ])
    refine wpAnyH_take (i:=7) (v:=?_) rfl (by kernel_rfl) (by kernel_rfl) (by kernel_rfl) (fun _ _ _ h=>h) (Or.inl ⟨by rfl,?_⟩) (by assumption) ?_
    rotate_left
    ·intro w hSw;(try dsimp only at hSw);go_simp;all_goals (try with_reducible rfl)
    (try simp only [Act.put,List.setIfInBounds_toArray,List.set_cons_zero,List.set_cons_succ])
    refine wpAnyH_take (i:=8) (v:=?_) rfl (by kernel_rfl) (by kernel_rfl) (by kernel_rfl) (fun _ _ _ h=>h) (Or.inl ⟨by rfl,?_⟩) (by assumption) ?_
    rotate_left
    ·intro w hSw;(try dsimp only at hSw);go_simp;all_goals (try with_reducible rfl)
    (try simp only [Act.put,List.setIfInBounds_toArray,List.set_cons_zero,List.set_cons_succ])
    refine wpAnyH_take (i:=10) (v:=?_) rfl (by kernel_rfl) (by kernel_rfl) (by kernel_rfl) (fun _ _ _ h=>h) (Or.inl ⟨by rfl,?_⟩) (by assumption) ?_
    rotate_left
    ·intro w hSw;(try dsimp only at hSw);go_simp;all_goals (try with_reducible rfl)
    (try simp only [Act.put,List.setIfInBounds_toArray,List.set_cons_zero,List.set_cons_succ])
    refine wpAnyH_take (i:=11) (v:=?_) rfl (by kernel_rfl) (by kernel_rfl) (by kernel_rfl) (fun _ _ _ h=>h) (Or.inl ⟨by rfl,?_⟩) (by assumption) ?_
    rotate_left
    ·intro w hSw;(try dsimp only at hSw);go_simp;all_goals (try with_reducible rfl)
    (try simp only [Act.put,List.setIfInBounds_toArray,List.set_cons_zero,List.set_cons_succ])
    refine wpAnyH_take (i:=12) (v:=?_) rfl (by kernel_rfl) (by kernel_rfl) (by kernel_rfl) (fun _ _ _ h=>h) (Or.inl ⟨by rfl,?_⟩) (by assumption) ?_
    rotate_left
    ·intro w hSw;(try dsimp only at hSw);go_simp;all_goals (try with_reducible rfl)
    (try simp only [Act.put,List.setIfInBounds_toArray,List.set_cons_zero,List.set_cons_succ])
    refine wpAnyH_ready (rs:=[1,9]) (by kernel_rfl) (by simp) ?_;refine AllReadyH.cons (o:=_) rfl (fun K hK=>?_) ?_
    ·go_simp
     refine hK.out _ _ (by (try dsimp only);go_keep) (fun hHeld=>?_)
     clear hK K
     (try simp only [Act.put,List.setIfInBounds_toArray,List.set_cons_zero,List.set_cons_succ])
     refine wpAnyH_ready (rs:=[9]) (by kernel_rfl) (by simp) ?_;refine AllReadyH.cons (o:=_) rfl (fun K hK=>?_) ?_
     ·(go_simp;(go_at_call 46;(with_reducible show Calls _ _ #[.slice A5 y2.length c5,.slice A4 tl.length c4] _ _);(try go_split_ands);refine (Ds y2 A5 c5 l5 tl A4 c4 l4 _ (by exact Ab T5 (by repeat (first|with_reducible exact Below.refl _ _|((with_reducible refine Below.setCell ?_ ?_ _);rotate_left;focus (first|(simp;done)|omega|(simp;omega)))|((with_reducible refine Below.alloc ?_ ?_ _);rotate_left;focus (first|(simp;done)|omega|(simp;omega)))|(with_reducible refine Below.drew ?_)|(with_reducible refine below_draws_ ?_ _)))) (by exact Ab T4 (by repeat (first|with_reducible exact Below.refl _ _|((with_reducible refine Below.setCell ?_ ?_ _);rotate_left;focus (first|(simp;done)|omega|(simp;omega)))|((with_reducible refine Below.alloc ?_ ?_ _);rotate_left;focus (first|(simp;done)|omega|(simp;omega)))|(with_reducible refine Below.drew ?_)|(with_reducible refine below_draws_ ?_ _)))) hp5 (tb.below (by repeat (first|with_reducible exact Below.refl _ _|((with_reducible refine Below.setCell ?_ ?_ _);rotate_left;focus (first|(simp;done)|omega|(simp;omega)))|((with_reducible refine Below.alloc ?_ ?_ _);rotate_left;focus (first|(simp;done)|omega|(simp;omega)))|(with_reducible refine Below.drew ?_)|(with_reducible refine below_draws_ ?_ _))))).mono ?_;rintro e w3 ⟨B5,d5,m5,rfl,v5,f5,hb_w3⟩;have hz_w3:=hb_w3.size;(try simp at hz_w3);have hXw3:X<w3.heap.size:=oM;have hrw3:wr.heap.size<w3.heap.size:=oM;have sw3_0:w3.cell? ⟨wr.heap.size,0,none⟩=some (.int .i64 y0):=Aa hb_w3 (by first|assumption|simp [*]);have sw3_1:w3.cell? ⟨wr.heap.size,1,none⟩=some (.int .i64 y1):=Aa hb_w3 (by first|assumption|simp [*]);have sw3_2:w3.cell? ⟨wr.heap.size,2,none⟩=some (.slice A5 y2.length c5):=Aa hb_w3 (by first|assumption|simp [*]);have sw3_3:w3.cell? ⟨wr.heap.size,3,none⟩=some (.slice A6 y3.length c6):=Aa hb_w3 (by first|assumption|simp [*]);have xw3:w3.cell? ⟨X,1,none⟩=some (.slice GA k gc):=Aa hb_w3 (by first|assumption|simp [*])))
      refine hK.out _ _ (by (try dsimp only);go_keep) (fun hHeld=>?_)
      clear hK K
      (try simp only [Act.put,List.setIfInBounds_toArray,List.set_cons_zero,List.set_cons_succ])
      refine wpAnyH_ready (rs:=[13]) (by kernel_rfl) (by simp) ?_;refine AllReadyH.cons (o:=_) rfl (fun K hK=>?_) ?_
      ·(go_simp;(go_at_call 46;(with_reducible show Calls _ _ #[.slice A6 y3.length c6,.slice A4 tl.length c4] _ _);(try go_split_ands);refine (Ds y3 A6 c6 l6 tl A4 c4 l4 _ (by exact Ab T6 (by repeat (first|with_reducible exact Below.refl _ _|((with_reducible refine Below.setCell ?_ ?_ _);rotate_left;focus (first|(simp;done)|omega|(simp;omega)))|((with_reducible refine Below.alloc ?_ ?_ _);rotate_left;focus (first|(simp;done)|omega|(simp;omega)))|(with_reducible refine Below.drew ?_)|(with_reducible refine below_draws_ ?_ _)|((with_reducible refine Below.trans ?_ (Below.mono hb_w3 ?_));rotate_left;focus (first|(simp;done)|omega|(simp;omega)))))) (by exact Ab T4 (by repeat (first|with_reducible exact Below.refl _ _|((with_reducible refine Below.setCell ?_ ?_ _);rotate_left;focus (first|(simp;done)|omega|(simp;omega)))|((with_reducible refine Below.alloc ?_ ?_ _);rotate_left;focus (first|(simp;done)|omega|(simp;omega)))|(with_reducible refine Below.drew ?_)|(with_reducible refine below_draws_ ?_ _)|((with_reducible refine Below.trans ?_ (Below.mono hb_w3 ?_));rotate_left;focus (first|(simp;done)|omega|(simp;omega)))))) hp6 (tb.below (by repeat (first|with_reducible exact Below.refl _ _|((with_reducible refine Below.setCell ?_ ?_ _);rotate_left;focus (first|(simp;done)|omega|(simp;omega)))|((with_reducible refine Below.alloc ?_ ?_ _);rotate_left;focus (first|(simp;done)|omega|(simp;omega)))|(with_reducible refine Below.drew ?_)|(with_reducible refine below_draws_ ?_ _)|((with_reducible refine Below.trans ?_ (Below.mono hb_w3 ?_));rotate_left;focus (first|(simp;done)|omega|(simp;omega))))))).mono ?_;rintro e w4 ⟨B6,d6,m6,rfl,v6,f6,hb_w4⟩;have hz_w4:=hb_w4.size;(try simp at hz_w4);have hXw4:X<w4.heap.size:=oM;have hrw4:wr.heap.size<w4.heap.size:=oM;have sw4_0:w4.cell? ⟨wr.heap.size,0,none⟩=some (.int .i64 y0):=Aa hb_w4 (by first|assumption|simp [*]);have sw4_1:w4.cell? ⟨wr.heap.size,1,none⟩=some (.int .i64 y1):=Aa hb_w4 (by first|assumption|simp [*]);have sw4_2:w4.cell? ⟨wr.heap.size,2,none⟩=some (.slice A5 y2.length c5):=Aa hb_w4 (by first|assumption|simp [*]);have sw4_3:w4.cell? ⟨wr.heap.size,3,none⟩=some (.slice A6 y3.length c6):=Aa hb_w4 (by first|assumption|simp [*]);have xw4:w4.cell? ⟨X,1,none⟩=some (.slice GA k gc):=Aa hb_w4 (by first|assumption|simp [*]);have hVal:Hid (∀ W,Below w4.heap.size w4 W->Ty.Val (A9 wr.heap.size) W As [.int .i64 y0,.int .i64 y1,.slice B5 y2.length d5,.slice B6 y3.length d6] (y0,y1,y2,y3) (m5++m6)):=Lib.hid fun W hb=>⟨[_],_,[],_,rfl,⟨rfl,rfl⟩,⟨[_],_,[],_,rfl,⟨rfl,rfl⟩,⟨[_],_,m5,m6,rfl,⟨B5,d5,rfl,Am (fun b _ h=>by have h1:=h;unfold A9 at h1 ⊢;(try simp at h1);omega) (Ab (Ab v5 (by repeat (first|with_reducible exact Below.refl _ _|((with_reducible refine Below.setCell ?_ ?_ _);rotate_left;focus (first|(simp;done)|omega|(simp;omega)))|((with_reducible refine Below.alloc ?_ ?_ _);rotate_left;focus (first|(simp;done)|omega|(simp;omega)))|(with_reducible refine Below.drew ?_)|(with_reducible refine below_draws_ ?_ _)|((with_reducible refine Below.trans ?_ (Below.mono hb_w4 ?_));rotate_left;focus (first|(simp;done)|omega|(simp;omega)))))) hb)⟩,⟨B6,d6,rfl,Am (fun b _ h=>by have h1:=h;unfold A9 at h1 ⊢;(try simp at h1);omega) (Ab v6 hb)⟩,rfl⟩,rfl⟩,rfl⟩;have hFr:Hid (Fresh w4 wr.heap.size (m5++m6)):=Lib.hid (Fresh.append (f5.le (by first|(simp;done)|omega|(simp;omega))) (show Below w3.heap.size w3 w4 from (by repeat (first|with_reducible exact Below.refl _ _|((with_reducible refine Below.setCell ?_ ?_ _);rotate_left;focus (first|(simp;done)|omega|(simp;omega)))|((with_reducible refine Below.alloc ?_ ?_ _);rotate_left;focus (first|(simp;done)|omega|(simp;omega)))|(with_reducible refine Below.drew ?_)|(with_reducible refine below_draws_ ?_ _)|((with_reducible refine Below.trans ?_ (Below.mono hb_w4 ?_));rotate_left;focus (first|(simp;done)|omega|(simp;omega)))))) (f6.le (by first|(simp;done)|omega|(simp;omega))) (by first|(simp;done)|omega|(simp;omega)));clear v5 v6 f5 f6))
       refine hK.out _ _ (by (try dsimp only);go_keep) (fun hHeld=>?_)
       clear hK K
       (try simp only [Act.put,List.setIfInBounds_toArray,List.set_cons_zero,List.set_cons_succ])
       refine wpAnyH_take (i:=14) (v:=?_) rfl (by kernel_rfl) (by kernel_rfl) (by kernel_rfl) (fun _ _ _ h=>h) (Or.inl ⟨by rfl,?_⟩) (by assumption) ?_
       rotate_left
       ·intro w hSw;(try dsimp only at hSw);go_simp;all_goals (try with_reducible rfl)
       (try simp only [Act.put,List.setIfInBounds_toArray,List.set_cons_zero,List.set_cons_succ])
       refine wpAnyH_ready (rs:=[15]) (by kernel_rfl) (by simp) ?_;refine AllReadyH.cons (o:=_) rfl (fun K hK=>?_) ?_
       ·go_simp
        refine hK.out _ _ (by (try dsimp only);go_keep) (fun hHeld=>?_)
        clear hK K
        (try simp only [Act.put,List.setIfInBounds_toArray,List.set_cons_zero,List.set_cons_succ])
        refine wpAnyH_ready (rs:=[16]) (by kernel_rfl) (by simp) ?_;refine AllReadyH.cons (o:=_) rfl (fun K hK=>?_) ?_
        ·(refine Bo (v:=.slice GA k gc) (t:=As) (y:=(y0,y1,y2,y3)) (cs:=[.int .i64 y0,.int .i64 y1,.slice B5 y2.length d5,.slice B6 y3.length d6]) (l:=m5++m6) (z:=.agg #[.int .i64 0,.int .i64 0,.slice none 0 0,.slice none 0 0]) rfl _ _ 27 rfl 64 Try.underlying27 (by kernel_rfl) rfl (by decide) rfl hG (hb6.trans (Below.mono (show Below w6.heap.size w6 _ from (by repeat (first|with_reducible exact Below.refl _ _|((with_reducible refine Below.setCell ?_ ?_ _);rotate_left;focus (first|(simp;done)|omega|(simp;omega)))|((with_reducible refine Below.alloc ?_ ?_ _);rotate_left;focus (first|(simp;done)|omega|(simp;omega)))|(with_reducible refine Below.drew ?_)|(with_reducible refine below_draws_ ?_ _)|((with_reducible refine Below.trans ?_ (Below.mono hb_w3 ?_));rotate_left;focus (first|(simp;done)|omega|(simp;omega)))|((with_reducible refine Below.trans ?_ (Below.mono hb_w4 ?_));rotate_left;focus (first|(simp;done)|omega|(simp;omega)))))) hb6.size)) hlo (hVal.out _ (by repeat (first|with_reducible exact Below.refl _ _|((with_reducible refine Below.setCell ?_ ?_ _);rotate_left;focus (first|(simp;done)|omega|(simp;omega)))|((with_reducible refine Below.alloc ?_ ?_ _);rotate_left;focus (first|(simp;done)|omega|(simp;omega)))|(with_reducible refine Below.drew ?_)|(with_reducible refine below_draws_ ?_ _)))) (hFr.out.below (by repeat (first|with_reducible exact Below.refl _ _|((with_reducible refine Below.setCell ?_ ?_ _);rotate_left;focus (first|(simp;done)|omega|(simp;omega)))|((with_reducible refine Below.alloc ?_ ?_ _);rotate_left;focus (first|(simp;done)|omega|(simp;omega)))|(with_reducible refine Below.drew ?_)|(with_reducible refine below_draws_ ?_ _)))) rfl G5 Pm (by rw [List.length_take];omega) (by rw [List.length_take];simp only [maxLen];omega) ?_;intro v' w5 hV5 hb_w5 hgr;obtain ⟨GB,gd,rfl,_,_⟩:=hV5.len;have xw5:w5.cell? ⟨X,1,none⟩=some (.slice GA k gc):=hgr.cell (Ai _ (by assumption)) (fun e=>by have this:lo<=X/\X<wr.heap.size:=hltG _ e.symm;omega);have zw5:w5.frozen? ⟨X,1,none⟩=false:=(World.frozen?_of_block (hgr.block X (by simp;omega) (fun e=>by have this:lo<=X/\X<wr.heap.size:=hltG _ e.symm;omega))).trans (((hb6.trans (Below.mono (show Below w6.heap.size w6 (w4.alloc (.cells #[.int .i64 y0,.int .i64 y1,.slice B5 y2.length d5,.slice B6 y3.length d6] 45)) from (by repeat (first|with_reducible exact Below.refl _ _|((with_reducible refine Below.setCell ?_ ?_ _);rotate_left;focus (first|(simp;done)|omega|(simp;omega)))|((with_reducible refine Below.alloc ?_ ?_ _);rotate_left;focus (first|(simp;done)|omega|(simp;omega)))|(with_reducible refine Below.drew ?_)|(with_reducible refine below_draws_ ?_ _)|((with_reducible refine Below.trans ?_ (Below.mono hb_w3 ?_));rotate_left;focus (first|(simp;done)|omega|(simp;omega)))|((with_reducible refine Below.trans ?_ (Below.mono hb_w4 ?_));rotate_left;focus (first|(simp;done)|omega|(simp;omega)))))) hb6.size)).frozen (show X<_ by omega)).trans (zf 1));have sw5_0:w5.cell? ⟨wr.heap.size,0,none⟩=some (.int .i64 y0):=hgr.cell (Ai _ (by assumption)) (fun e=>by have this:lo<=wr.heap.size/\wr.heap.size<wr.heap.size:=hltG _ e.symm;omega);have sw5_1:w5.cell? ⟨wr.heap.size,1,none⟩=some (.int .i64 y1):=hgr.cell (Ai _ (by assumption)) (fun e=>by have this:lo<=wr.heap.size/\wr.heap.size<wr.heap.size:=hltG _ e.symm;omega);have sw5_2:w5.cell? ⟨wr.heap.size,2,none⟩=some (.slice A5 y2.length c5):=hgr.cell (Ai _ (by assumption)) (fun e=>by have this:lo<=wr.heap.size/\wr.heap.size<wr.heap.size:=hltG _ e.symm;omega);have sw5_3:w5.cell? ⟨wr.heap.size,3,none⟩=some (.slice A6 y3.length c6):=hgr.cell (Ai _ (by assumption)) (fun e=>by have this:lo<=wr.heap.size/\wr.heap.size<wr.heap.size:=hltG _ e.symm;omega))
         refine hK.out _ _ (by (try dsimp only);go_keep) (fun hHeld=>?_)
         clear hK K
         (try simp only [Act.put,List.setIfInBounds_toArray,List.set_cons_zero,List.set_cons_succ])
         refine wpAnyH_take (i:=17) (v:=?_) rfl (by kernel_rfl) (by kernel_rfl) (by kernel_rfl) (fun _ _ _ h=>h) (Or.inl ⟨by rfl,?_⟩) (by assumption) ?_
         rotate_left
         ·intro w hSw;(try dsimp only at hSw);go_simp;all_goals (try with_reducible rfl)
         (try simp only [Act.put,List.setIfInBounds_toArray,List.set_cons_zero,List.set_cons_succ])
         refine wpAnyH_ready (rs:=[18]) (by kernel_rfl) (by simp) ?_;refine AllReadyH.cons (o:=_) rfl (fun K hK=>?_) ?_
         ·go_simp
          refine hK.out _ _ (by (try dsimp only);go_keep) (fun hHeld=>?_)
          clear hK K
          (try simp only [Act.put,List.setIfInBounds_toArray,List.set_cons_zero,List.set_cons_succ])
          refine wpAnyH_done (by kernel_rfl) ?_ _
          go_wp2_with fail
          have hl1:(es.take k++[(y0,y1,y2,y3)]).length=k+1:=by rw [List.length_append,List.length_take,List.length_singleton];omega
          rw [hl1] at hV5;have hB5:=hb6.trans (Below.mono (show Below w6.heap.size w6 (w4.alloc (.cells #[.int .i64 y0,.int .i64 y1,.slice B5 y2.length d5,.slice B6 y3.length d6] 45)) from (by repeat (first|with_reducible exact Below.refl _ _|((with_reducible refine Below.setCell ?_ ?_ _);rotate_left;focus (first|(simp;done)|omega|(simp;omega)))|((with_reducible refine Below.alloc ?_ ?_ _);rotate_left;focus (first|(simp;done)|omega|(simp;omega)))|(with_reducible refine Below.drew ?_)|(with_reducible refine below_draws_ ?_ _)|((with_reducible refine Below.trans ?_ (Below.mono hb_w3 ?_));rotate_left;focus (first|(simp;done)|omega|(simp;omega)))|((with_reducible refine Below.trans ?_ (Below.mono hb_w4 ?_));rotate_left;focus (first|(simp;done)|omega|(simp;omega)))))) hb6.size);have hStep:=hH.out.step hB5 hgr hV5;refine ⟨⟨k+1,_,by omega,by congr 1,by rw [et];exact hStep,hbl.trans (Below.setCell ((hB5.mono oM).trans (hb_w5.mono oM)) oM _)⟩,?_⟩
          (simp [intOf];omega)
         exact AllReadyH.nil
        exact AllReadyH.nil
       exact AllReadyH.nil
      exact AllReadyH.nil
     exact AllReadyH.nil
    refine AllReadyH.cons (o:=_) rfl (fun K hK=>?_) ?_
    ·(go_simp;(go_at_call 46;(with_reducible show Calls _ _ #[.slice A5 y2.length c5,.slice A4 tl.length c4] _ _);(try go_split_ands);refine (Ds y2 A5 c5 l5 tl A4 c4 l4 _ (by exact Ab T5 (by repeat (first|with_reducible exact Below.refl _ _|((with_reducible refine Below.setCell ?_ ?_ _);rotate_left;focus (first|(simp;done)|omega|(simp;omega)))|((with_reducible refine Below.alloc ?_ ?_ _);rotate_left;focus (first|(simp;done)|omega|(simp;omega)))|(with_reducible refine Below.drew ?_)|(with_reducible refine below_draws_ ?_ _)))) (by exact Ab T4 (by repeat (first|with_reducible exact Below.refl _ _|((with_reducible refine Below.setCell ?_ ?_ _);rotate_left;focus (first|(simp;done)|omega|(simp;omega)))|((with_reducible refine Below.alloc ?_ ?_ _);rotate_left;focus (first|(simp;done)|omega|(simp;omega)))|(with_reducible refine Below.drew ?_)|(with_reducible refine below_draws_ ?_ _)))) hp5 (tb.below (by repeat (first|with_reducible exact Below.refl _ _|((with_reducible refine Below.setCell ?_ ?_ _);rotate_left;focus (first|(simp;done)|omega|(simp;omega)))|((with_reducible refine Below.alloc ?_ ?_ _);rotate_left;focus (first|(simp;done)|omega|(simp;omega)))|(with_reducible refine Below.drew ?_)|(with_reducible refine below_draws_ ?_ _))))).mono ?_;rintro e w3 ⟨B5,d5,m5,rfl,v5,f5,hb_w3⟩;have hz_w3:=hb_w3.size;(try simp at hz_w3);have hXw3:X<w3.heap.size:=oM;have hrw3:wr.heap.size<w3.heap.size:=oM;have sw3_0:w3.cell? ⟨wr.heap.size,0,none⟩=some (.int .i64 y0):=Aa hb_w3 (by first|assumption|simp [*]);have sw3_1:w3.cell? ⟨wr.heap.size,1,none⟩=some (.int .i64 y1):=Aa hb_w3 (by first|assumption|simp [*]);have sw3_2:w3.cell? ⟨wr.heap.size,2,none⟩=some (.slice A5 y2.length c5):=Aa hb_w3 (by first|assumption|simp [*]);have sw3_3:w3.cell? ⟨wr.heap.size,3,none⟩=some (.slice A6 y3.length c6):=Aa hb_w3 (by first|assumption|simp [*]);have xw3:w3.cell? ⟨X,1,none⟩=some (.slice GA k gc):=Aa hb_w3 (by first|assumption|simp [*])))
     refine hK.out _ _ (by (try dsimp only);go_keep) (fun hHeld=>?_)
     clear hK K
     (try simp only [Act.put,List.setIfInBounds_toArray,List.set_cons_zero,List.set_cons_succ])
     refine wpAnyH_ready (rs:=[1,13]) (by kernel_rfl) (by simp) ?_;refine AllReadyH.cons (o:=_) rfl (fun K hK=>?_) ?_
     ·go_simp
      refine hK.out _ _ (by (try dsimp only);go_keep) (fun hHeld=>?_)
      clear hK K
      (try simp only [Act.put,List.setIfInBounds_toArray,List.set_cons_zero,List.set_cons_succ])
      refine wpAnyH_ready (rs:=[13]) (by kernel_rfl) (by simp) ?_;refine AllReadyH.cons (o:=_) rfl (fun K hK=>?_) ?_
      ·(go_simp;(go_at_call 46;(with_reducible show Calls _ _ #[.slice A6 y3.length c6,.slice A4 tl.length c4] _ _);(try go_split_ands);refine (Ds y3 A6 c6 l6 tl A4 c4 l4 _ (by exact Ab T6 (by repeat (first|with_reducible exact Below.refl _ _|((with_reducible refine Below.setCell ?_ ?_ _);rotate_left;focus (first|(simp;done)|omega|(simp;omega)))|((with_reducible refine Below.alloc ?_ ?_ _);rotate_left;focus (first|(simp;done)|omega|(simp;omega)))|(with_reducible refine Below.drew ?_)|(with_reducible refine below_draws_ ?_ _)|((with_reducible refine Below.trans ?_ (Below.mono hb_w3 ?_));rotate_left;focus (first|(simp;done)|omega|(simp;omega)))))) (by exact Ab T4 (by repeat (first|with_reducible exact Below.refl _ _|((with_reducible refine Below.setCell ?_ ?_ _);rotate_left;focus (first|(simp;done)|omega|(simp;omega)))|((with_reducible refine Below.alloc ?_ ?_ _);rotate_left;focus (first|(simp;done)|omega|(simp;omega)))|(with_reducible refine Below.drew ?_)|(with_reducible refine below_draws_ ?_ _)|((with_reducible refine Below.trans ?_ (Below.mono hb_w3 ?_));rotate_left;focus (first|(simp;done)|omega|(simp;omega)))))) hp6 (tb.below (by repeat (first|with_reducible exact Below.refl _ _|((with_reducible refine Below.setCell ?_ ?_ _);rotate_left;focus (first|(simp;done)|omega|(simp;omega)))|((with_reducible refine Below.alloc ?_ ?_ _);rotate_left;focus (first|(simp;done)|omega|(simp;omega)))|(with_reducible refine Below.drew ?_)|(with_reducible refine below_draws_ ?_ _)|((with_reducible refine Below.trans ?_ (Below.mono hb_w3 ?_));rotate_left;focus (first|(simp;done)|omega|(simp;omega))))))).mono ?_;rintro e w4 ⟨B6,d6,m6,rfl,v6,f6,hb_w4⟩;have hz_w4:=hb_w4.size;(try simp at hz_w4);have hXw4:X<w4.heap.size:=oM;have hrw4:wr.heap.size<w4.heap.size:=oM;have sw4_0:w4.cell? ⟨wr.heap.size,0,none⟩=some (.int .i64 y0):=Aa hb_w4 (by first|assumption|simp [*]);have sw4_1:w4.cell? ⟨wr.heap.size,1,none⟩=some (.int .i64 y1):=Aa hb_w4 (by first|assumption|simp [*]);have sw4_2:w4.cell? ⟨wr.heap.size,2,none⟩=some (.slice A5 y2.length c5):=Aa hb_w4 (by first|assumption|simp [*]);have sw4_3:w4.cell? ⟨wr.heap.size,3,none⟩=some (.slice A6 y3.length c6):=Aa hb_w4 (by first|assumption|simp [*]);have xw4:w4.cell? ⟨X,1,none⟩=some (.slice GA k gc):=Aa hb_w4 (by first|assumption|simp [*]);have hVal:Hid (∀ W,Below w4.heap.size w4 W->Ty.Val (A9 wr.heap.size) W As [.int .i64 y0,.int .i64 y1,.slice B5 y2.length d5,.slice B6 y3.length d6] (y0,y1,y2,y3) (m5++m6)):=Lib.hid fun W hb=>⟨[_],_,[],_,rfl,⟨rfl,rfl⟩,⟨[_],_,[],_,rfl,⟨rfl,rfl⟩,⟨[_],_,m5,m6,rfl,⟨B5,d5,rfl,Am (fun b _ h=>by have h1:=h;unfold A9 at h1 ⊢;(try simp at h1);omega) (Ab (Ab v5 (by repeat (first|with_reducible exact Below.refl _ _|((with_reducible refine Below.setCell ?_ ?_ _);rotate_left;focus (first|(simp;done)|omega|(simp;omega)))|((with_reducible refine Below.alloc ?_ ?_ _);rotate_left;focus (first|(simp;done)|omega|(simp;omega)))|(with_reducible refine Below.drew ?_)|(with_reducible refine below_draws_ ?_ _)|((with_reducible refine Below.trans ?_ (Below.mono hb_w4 ?_));rotate_left;focus (first|(simp;done)|omega|(simp;omega)))))) hb)⟩,⟨B6,d6,rfl,Am (fun b _ h=>by have h1:=h;unfold A9 at h1 ⊢;(try simp at h1);omega) (Ab v6 hb)⟩,rfl⟩,rfl⟩,rfl⟩;have hFr:Hid (Fresh w4 wr.heap.size (m5++m6)):=Lib.hid (Fresh.append (f5.le (by first|(simp;done)|omega|(simp;omega))) (show Below w3.heap.size w3 w4 from (by repeat (first|with_reducible exact Below.refl _ _|((with_reducible refine Below.setCell ?_ ?_ _);rotate_left;focus (first|(simp;done)|omega|(simp;omega)))|((with_reducible refine Below.alloc ?_ ?_ _);rotate_left;focus (first|(simp;done)|omega|(simp;omega)))|(with_reducible refine Below.drew ?_)|(with_reducible refine below_draws_ ?_ _)|((with_reducible refine Below.trans ?_ (Below.mono hb_w4 ?_));rotate_left;focus (first|(simp;done)|omega|(simp;omega)))))) (f6.le (by first|(simp;done)|omega|(simp;omega))) (by first|(simp;done)|omega|(simp;omega)));clear v5 v6 f5 f6))
       refine hK.out _ _ (by (try dsimp only);go_keep) (fun hHeld=>?_)
       clear hK K
       (try simp only [Act.put,List.setIfInBounds_toArray,List.set_cons_zero,List.set_cons_succ])
       refine wpAnyH_take (i:=14) (v:=?_) rfl (by kernel_rfl) (by kernel_rfl) (by kernel_rfl) (fun _ _ _ h=>h) (Or.inl ⟨by rfl,?_⟩) (by assumption) ?_
       rotate_left
       ·intro w hSw;(try dsimp only at hSw);go_simp;all_goals (try with_reducible rfl)
       (try simp only [Act.put,List.setIfInBounds_toArray,List.set_cons_zero,List.set_cons_succ])
       refine wpAnyH_ready (rs:=[15]) (by kernel_rfl) (by simp) ?_;refine AllReadyH.cons (o:=_) rfl (fun K hK=>?_) ?_
       ·go_simp
        refine hK.out _ _ (by (try dsimp only);go_keep) (fun hHeld=>?_)
        clear hK K
        (try simp only [Act.put,List.setIfInBounds_toArray,List.set_cons_zero,List.set_cons_succ])
        refine wpAnyH_ready (rs:=[16]) (by kernel_rfl) (by simp) ?_;refine AllReadyH.cons (o:=_) rfl (fun K hK=>?_) ?_
        ·(refine Bo (v:=.slice GA k gc) (t:=As) (y:=(y0,y1,y2,y3)) (cs:=[.int .i64 y0,.int .i64 y1,.slice B5 y2.length d5,.slice B6 y3.length d6]) (l:=m5++m6) (z:=.agg #[.int .i64 0,.int .i64 0,.slice none 0 0,.slice none 0 0]) rfl _ _ 27 rfl 64 Try.underlying27 (by kernel_rfl) rfl (by decide) rfl hG (hb6.trans (Below.mono (show Below w6.heap.size w6 _ from (by repeat (first|with_reducible exact Below.refl _ _|((with_reducible refine Below.setCell ?_ ?_ _);rotate_left;focus (first|(simp;done)|omega|(simp;omega)))|((with_reducible refine Below.alloc ?_ ?_ _);rotate_left;focus (first|(simp;done)|omega|(simp;omega)))|(with_reducible refine Below.drew ?_)|(with_reducible refine below_draws_ ?_ _)|((with_reducible refine Below.trans ?_ (Below.mono hb_w3 ?_));rotate_left;focus (first|(simp;done)|omega|(simp;omega)))|((with_reducible refine Below.trans ?_ (Below.mono hb_w4 ?_));rotate_left;focus (first|(simp;done)|omega|(simp;omega)))))) hb6.size)) hlo (hVal.out _ (by repeat (first|with_reducible exact Below.refl _ _|((with_reducible refine Below.setCell ?_ ?_ _);rotate_left;focus (first|(simp;done)|omega|(simp;omega)))|((with_reducible refine Below.alloc ?_ ?_ _);rotate_left;focus (first|(simp;done)|omega|(simp;omega)))|(with_reducible refine Below.drew ?_)|(with_reducible refine below_draws_ ?_ _)))) (hFr.out.below (by repeat (first|with_reducible exact Below.refl _ _|((with_reducible refine Below.setCell ?_ ?_ _);rotate_left;focus (first|(simp;done)|omega|(simp;omega)))|((with_reducible refine Below.alloc ?_ ?_ _);rotate_left;focus (first|(simp;done)|omega|(simp;omega)))|(with_reducible refine Below.drew ?_)|(with_reducible refine below_draws_ ?_ _)))) rfl G5 Pm (by rw [List.length_take];omega) (by rw [List.length_take];simp only [maxLen];omega) ?_;intro v' w5 hV5 hb_w5 hgr;obtain ⟨GB,gd,rfl,_,_⟩:=hV5.len;have xw5:w5.cell? ⟨X,1,none⟩=some (.slice GA k gc):=hgr.cell (Ai _ (by assumption)) (fun e=>by have this:lo<=X/\X<wr.heap.size:=hltG _ e.symm;omega);have zw5:w5.frozen? ⟨X,1,none⟩=false:=(World.frozen?_of_block (hgr.block X (by simp;omega) (fun e=>by have this:lo<=X/\X<wr.heap.size:=hltG _ e.symm;omega))).trans (((hb6.trans (Below.mono (show Below w6.heap.size w6 (w4.alloc (.cells #[.int .i64 y0,.int .i64 y1,.slice B5 y2.length d5,.slice B6 y3.length d6] 45)) from (by repeat (first|with_reducible exact Below.refl _ _|((with_reducible refine Below.setCell ?_ ?_ _);rotate_left;focus (first|(simp;done)|omega|(simp;omega)))|((with_reducible refine Below.alloc ?_ ?_ _);rotate_left;focus (first|(simp;done)|omega|(simp;omega)))|(with_reducible refine Below.drew ?_)|(with_reducible refine below_draws_ ?_ _)|((with_reducible refine Below.trans ?_ (Below.mono hb_w3 ?_));rotate_left;focus (first|(simp;done)|omega|(simp;omega)))|((with_reducible refine Below.trans ?_ (Below.mono hb_w4 ?_));rotate_left;focus (first|(simp;done)|omega|(simp;omega)))))) hb6.size)).frozen (show X<_ by omega)).trans (zf 1));have sw5_0:w5.cell? ⟨wr.heap.size,0,none⟩=some (.int .i64 y0):=hgr.cell (Ai _ (by assumption)) (fun e=>by have this:lo<=wr.heap.size/\wr.heap.size<wr.heap.size:=hltG _ e.symm;omega);have sw5_1:w5.cell? ⟨wr.heap.size,1,none⟩=some (.int .i64 y1):=hgr.cell (Ai _ (by assumption)) (fun e=>by have this:lo<=wr.heap.size/\wr.heap.size<wr.heap.size:=hltG _ e.symm;omega);have sw5_2:w5.cell? ⟨wr.heap.size,2,none⟩=some (.slice A5 y2.length c5):=hgr.cell (Ai _ (by assumption)) (fun e=>by have this:lo<=wr.heap.size/\wr.heap.size<wr.heap.size:=hltG _ e.symm;omega);have sw5_3:w5.cell? ⟨wr.heap.size,3,none⟩=some (.slice A6 y3.length c6):=hgr.cell (Ai _ (by assumption)) (fun e=>by have this:lo<=wr.heap.size/\wr.heap.size<wr.heap.size:=hltG _ e.symm;omega))
         refine hK.out _ _ (by (try dsimp only);go_keep) (fun hHeld=>?_)
         clear hK K
         (try simp only [Act.put,List.setIfInBounds_toArray,List.set_cons_zero,List.set_cons_succ])
         refine wpAnyH_take (i:=17) (v:=?_) rfl (by kernel_rfl) (by kernel_rfl) (by kernel_rfl) (fun _ _ _ h=>h) (Or.inl ⟨by rfl,?_⟩) (by assumption) ?_
         rotate_left
         ·intro w hSw;(try dsimp only at hSw);go_simp;all_goals (try with_reducible rfl)
         (try simp only [Act.put,List.setIfInBounds_toArray,List.set_cons_zero,List.set_cons_succ])
         refine wpAnyH_ready (rs:=[18]) (by kernel_rfl) (by simp) ?_;refine AllReadyH.cons (o:=_) rfl (fun K hK=>?_) ?_
         ·go_simp
          refine hK.out _ _ (by (try dsimp only);go_keep) (fun hHeld=>?_)
          clear hK K
          (try simp only [Act.put,List.setIfInBounds_toArray,List.set_cons_zero,List.set_cons_succ])
          refine wpAnyH_done (by kernel_rfl) ?_ _
          go_wp2_with fail
          have hl1:(es.take k++[(y0,y1,y2,y3)]).length=k+1:=by rw [List.length_append,List.length_take,List.length_singleton];omega
          rw [hl1] at hV5;have hB5:=hb6.trans (Below.mono (show Below w6.heap.size w6 (w4.alloc (.cells #[.int .i64 y0,.int .i64 y1,.slice B5 y2.length d5,.slice B6 y3.length d6] 45)) from (by repeat (first|with_reducible exact Below.refl _ _|((with_reducible refine Below.setCell ?_ ?_ _);rotate_left;focus (first|(simp;done)|omega|(simp;omega)))|((with_reducible refine Below.alloc ?_ ?_ _);rotate_left;focus (first|(simp;done)|omega|(simp;omega)))|(with_reducible refine Below.drew ?_)|(with_reducible refine below_draws_ ?_ _)|((with_reducible refine Below.trans ?_ (Below.mono hb_w3 ?_));rotate_left;focus (first|(simp;done)|omega|(simp;omega)))|((with_reducible refine Below.trans ?_ (Below.mono hb_w4 ?_));rotate_left;focus (first|(simp;done)|omega|(simp;omega)))))) hb6.size);have hStep:=hH.out.step hB5 hgr hV5;refine ⟨⟨k+1,_,by omega,by congr 1,by rw [et];exact hStep,hbl.trans (Below.setCell ((hB5.mono oM).trans (hb_w5.mono oM)) oM _)⟩,?_⟩
          (simp [intOf];omega)
         exact AllReadyH.nil
        exact AllReadyH.nil
       exact AllReadyH.nil
      exact AllReadyH.nil
     refine AllReadyH.cons (o:=_) rfl (fun K hK=>?_) ?_
     ·(go_simp;(go_at_call 46;(with_reducible show Calls _ _ #[.slice A6 y3.length c6,.slice A4 tl.length c4] _ _);(try go_split_ands);refine (Ds y3 A6 c6 l6 tl A4 c4 l4 _ (by exact Ab T6 (by repeat (first|with_reducible exact Below.refl _ _|((with_reducible refine Below.setCell ?_ ?_ _);rotate_left;focus (first|(simp;done)|omega|(simp;omega)))|((with_reducible refine Below.alloc ?_ ?_ _);rotate_left;focus (first|(simp;done)|omega|(simp;omega)))|(with_reducible refine Below.drew ?_)|(with_reducible refine below_draws_ ?_ _)|((with_reducible refine Below.trans ?_ (Below.mono hb_w3 ?_));rotate_left;focus (first|(simp;done)|omega|(simp;omega)))))) (by exact Ab T4 (by repeat (first|with_reducible exact Below.refl _ _|((with_reducible refine Below.setCell ?_ ?_ _);rotate_left;focus (first|(simp;done)|omega|(simp;omega)))|((with_reducible refine Below.alloc ?_ ?_ _);rotate_left;focus (first|(simp;done)|omega|(simp;omega)))|(with_reducible refine Below.drew ?_)|(with_reducible refine below_draws_ ?_ _)|((with_reducible refine Below.trans ?_ (Below.mono hb_w3 ?_));rotate_left;focus (first|(simp;done)|omega|(simp;omega)))))) hp6 (tb.below (by repeat (first|with_reducible exact Below.refl _ _|((with_reducible refine Below.setCell ?_ ?_ _);rotate_left;focus (first|(simp;done)|omega|(simp;omega)))|((with_reducible refine Below.alloc ?_ ?_ _);rotate_left;focus (first|(simp;done)|omega|(simp;omega)))|(with_reducible refine Below.drew ?_)|(with_reducible refine below_draws_ ?_ _)|((with_reducible refine Below.trans ?_ (Below.mono hb_w3 ?_));rotate_left;focus (first|(simp;done)|omega|(simp;omega))))))).mono ?_;rintro e w4 ⟨B6,d6,m6,rfl,v6,f6,hb_w4⟩;have hz_w4:=hb_w4.size;(try simp at hz_w4);have hXw4:X<w4.heap.size:=oM;have hrw4:wr.heap.size<w4.heap.size:=oM;have sw4_0:w4.cell? ⟨wr.heap.size,0,none⟩=some (.int .i64 y0):=Aa hb_w4 (by first|assumption|simp [*]);have sw4_1:w4.cell? ⟨wr.heap.size,1,none⟩=some (.int .i64 y1):=Aa hb_w4 (by first|assumption|simp [*]);have sw4_2:w4.cell? ⟨wr.heap.size,2,none⟩=some (.slice A5 y2.length c5):=Aa hb_w4 (by first|assumption|simp [*]);have sw4_3:w4.cell? ⟨wr.heap.size,3,none⟩=some (.slice A6 y3.length c6):=Aa hb_w4 (by first|assumption|simp [*]);have xw4:w4.cell? ⟨X,1,none⟩=some (.slice GA k gc):=Aa hb_w4 (by first|assumption|simp [*]);have hVal:Hid (∀ W,Below w4.heap.size w4 W->Ty.Val (A9 wr.heap.size) W As [.int .i64 y0,.int .i64 y1,.slice B5 y2.length d5,.slice B6 y3.length d6] (y0,y1,y2,y3) (m5++m6)):=Lib.hid fun W hb=>⟨[_],_,[],_,rfl,⟨rfl,rfl⟩,⟨[_],_,[],_,rfl,⟨rfl,rfl⟩,⟨[_],_,m5,m6,rfl,⟨B5,d5,rfl,Am (fun b _ h=>by have h1:=h;unfold A9 at h1 ⊢;(try simp at h1);omega) (Ab (Ab v5 (by repeat (first|with_reducible exact Below.refl _ _|((with_reducible refine Below.setCell ?_ ?_ _);rotate_left;focus (first|(simp;done)|omega|(simp;omega)))|((with_reducible refine Below.alloc ?_ ?_ _);rotate_left;focus (first|(simp;done)|omega|(simp;omega)))|(with_reducible refine Below.drew ?_)|(with_reducible refine below_draws_ ?_ _)|((with_reducible refine Below.trans ?_ (Below.mono hb_w4 ?_));rotate_left;focus (first|(simp;done)|omega|(simp;omega)))))) hb)⟩,⟨B6,d6,rfl,Am (fun b _ h=>by have h1:=h;unfold A9 at h1 ⊢;(try simp at h1);omega) (Ab v6 hb)⟩,rfl⟩,rfl⟩,rfl⟩;have hFr:Hid (Fresh w4 wr.heap.size (m5++m6)):=Lib.hid (Fresh.append (f5.le (by first|(simp;done)|omega|(simp;omega))) (show Below w3.heap.size w3 w4 from (by repeat (first|with_reducible exact Below.refl _ _|((with_reducible refine Below.setCell ?_ ?_ _);rotate_left;focus (first|(simp;done)|omega|(simp;omega)))|((with_reducible refine Below.alloc ?_ ?_ _);rotate_left;focus (first|(simp;done)|omega|(simp;omega)))|(with_reducible refine Below.drew ?_)|(with_reducible refine below_draws_ ?_ _)|((with_reducible refine Below.trans ?_ (Below.mono hb_w4 ?_));rotate_left;focus (first|(simp;done)|omega|(simp;omega)))))) (f6.le (by first|(simp;done)|omega|(simp;omega))) (by first|(simp;done)|omega|(simp;omega)));clear v5 v6 f5 f6))
      refine hK.out _ _ (by (try dsimp only);go_keep) (fun hHeld=>?_)
      clear hK K
      (try simp only [Act.put,List.setIfInBounds_toArray,List.set_cons_zero,List.set_cons_succ])
      refine wpAnyH_take (i:=14) (v:=?_) rfl (by kernel_rfl) (by kernel_rfl) (by kernel_rfl) (fun _ _ _ h=>h) (Or.inl ⟨by rfl,?_⟩) (by assumption) ?_
      rotate_left
      ·intro w hSw;(try dsimp only at hSw);go_simp;all_goals (try with_reducible rfl)
      (try simp only [Act.put,List.setIfInBounds_toArray,List.set_cons_zero,List.set_cons_succ])
      refine wpAnyH_ready (rs:=[1,15]) (by kernel_rfl) (by simp) ?_;refine AllReadyH.cons (o:=_) rfl (fun K hK=>?_) ?_
      ·go_simp
       refine hK.out _ _ (by (try dsimp only);go_keep) (fun hHeld=>?_)
       clear hK K
       (try simp only [Act.put,List.setIfInBounds_toArray,List.set_cons_zero,List.set_cons_succ])
       refine wpAnyH_ready (rs:=[15]) (by kernel_rfl) (by simp) ?_;refine AllReadyH.cons (o:=_) rfl (fun K hK=>?_) ?_
       ·go_simp
        refine hK.out _ _ (by (try dsimp only);go_keep) (fun hHeld=>?_)
        clear hK K
        (try simp only [Act.put,List.setIfInBounds_toArray,List.set_cons_zero,List.set_cons_succ])
        refine wpAnyH_ready (rs:=[16]) (by kernel_rfl) (by simp) ?_;refine AllReadyH.cons (o:=_) rfl (fun K hK=>?_) ?_
        ·(refine Bo (v:=.slice GA k gc) (t:=As) (y:=(y0,y1,y2,y3)) (cs:=[.int .i64 y0,.int .i64 y1,.slice B5 y2.length d5,.slice B6 y3.length d6]) (l:=m5++m6) (z:=.agg #[.int .i64 0,.int .i64 0,.slice none 0 0,.slice none 0 0]) rfl _ _ 27 rfl 64 Try.underlying27 (by kernel_rfl) rfl (by decide) rfl hG (hb6.trans (Below.mono (show Below w6.heap.size w6 _ from (by repeat (first|with_reducible exact Below.refl _ _|((with_reducible refine Below.setCell ?_ ?_ _);rotate_left;focus (first|(simp;done)|omega|(simp;omega)))|((with_reducible refine Below.alloc ?_ ?_ _);rotate_left;focus (first|(simp;done)|omega|(simp;omega)))|(with_reducible refine Below.drew ?_)|(with_reducible refine below_draws_ ?_ _)|((with_reducible refine Below.trans ?_ (Below.mono hb_w3 ?_));rotate_left;focus (first|(simp;done)|omega|(simp;omega)))|((with_reducible refine Below.trans ?_ (Below.mono hb_w4 ?_));rotate_left;focus (first|(simp;done)|omega|(simp;omega)))))) hb6.size)) hlo (hVal.out _ (by repeat (first|with_reducible exact Below.refl _ _|((with_reducible refine Below.setCell ?_ ?_ _);rotate_left;focus (first|(simp;done)|omega|(simp;omega)))|((with_reducible refine Below.alloc ?_ ?_ _);rotate_left;focus (first|(simp;done)|omega|(simp;omega)))|(with_reducible refine Below.drew ?_)|(with_reducible refine below_draws_ ?_ _)))) (hFr.out.below (by repeat (first|with_reducible exact Below.refl _ _|((with_reducible refine Below.setCell ?_ ?_ _);rotate_left;focus (first|(simp;done)|omega|(simp;omega)))|((with_reducible refine Below.alloc ?_ ?_ _);rotate_left;focus (first|(simp;done)|omega|(simp;omega)))|(with_reducible refine Below.drew ?_)|(with_reducible refine below_draws_ ?_ _)))) rfl G5 Pm (by rw [List.length_take];omega) (by rw [List.length_take];simp only [maxLen];omega) ?_;intro v' w5 hV5 hb_w5 hgr;obtain ⟨GB,gd,rfl,_,_⟩:=hV5.len;have xw5:w5.cell? ⟨X,1,none⟩=some (.slice GA k gc):=hgr.cell (Ai _ (by assumption)) (fun e=>by have this:lo<=X/\X<wr.heap.size:=hltG _ e.symm;omega);have zw5:w5.frozen? ⟨X,1,none⟩=false:=(World.frozen?_of_block (hgr.block X (by simp;omega) (fun e=>by have this:lo<=X/\X<wr.heap.size:=hltG _ e.symm;omega))).trans (((hb6.trans (Below.mono (show Below w6.heap.size w6 (w4.alloc (.cells #[.int .i64 y0,.int .i64 y1,.slice B5 y2.length d5,.slice B6 y3.length d6] 45)) from (by repeat (first|with_reducible exact Below.refl _ _|((with_reducible refine Below.setCell ?_ ?_ _);rotate_left;focus (first|(simp;done)|omega|(simp;omega)))|((with_reducible refine Below.alloc ?_ ?_ _);rotate_left;focus (first|(simp;done)|omega|(simp;omega)))|(with_reducible refine Below.drew ?_)|(with_reducible refine below_draws_ ?_ _)|((with_reducible refine Below.trans ?_ (Below.mono hb_w3 ?_));rotate_left;focus (first|(simp;done)|omega|(simp;omega)))|((with_reducible refine Below.trans ?_ (Below.mono hb_w4 ?_));rotate_left;focus (first|(simp;done)|omega|(simp;omega)))))) hb6.size)).frozen (show X<_ by omega)).trans (zf 1));have sw5_0:w5.cell? ⟨wr.heap.size,0,none⟩=some (.int .i64 y0):=hgr.cell (Ai _ (by assumption)) (fun e=>by have this:lo<=wr.heap.size/\wr.heap.size<wr.heap.size:=hltG _ e.symm;omega);have sw5_1:w5.cell? ⟨wr.heap.size,1,none⟩=some (.int .i64 y1):=hgr.cell (Ai _ (by assumption)) (fun e=>by have this:lo<=wr.heap.size/\wr.heap.size<wr.heap.size:=hltG _ e.symm;omega);have sw5_2:w5.cell? ⟨wr.heap.size,2,none⟩=some (.slice A5 y2.length c5):=hgr.cell (Ai _ (by assumption)) (fun e=>by have this:lo<=wr.heap.size/\wr.heap.size<wr.heap.size:=hltG _ e.symm;omega);have sw5_3:w5.cell? ⟨wr.heap.size,3,none⟩=some (.slice A6 y3.length c6):=hgr.cell (Ai _ (by assumption)) (fun e=>by have this:lo<=wr.heap.size/\wr.heap.size<wr.heap.size:=hltG _ e.symm;omega))
         refine hK.out _ _ (by (try dsimp only);go_keep) (fun hHeld=>?_)
         clear hK K
         (try simp only [Act.put,List.setIfInBounds_toArray,List.set_cons_zero,List.set_cons_succ])
         refine wpAnyH_take (i:=17) (v:=?_) rfl (by kernel_rfl) (by kernel_rfl) (by kernel_rfl) (fun _ _ _ h=>h) (Or.inl ⟨by rfl,?_⟩) (by assumption) ?_
         rotate_left
         ·intro w hSw;(try dsimp only at hSw);go_simp;all_goals (try with_reducible rfl)
         (try simp only [Act.put,List.setIfInBounds_toArray,List.set_cons_zero,List.set_cons_succ])
         refine wpAnyH_ready (rs:=[18]) (by kernel_rfl) (by simp) ?_;refine AllReadyH.cons (o:=_) rfl (fun K hK=>?_) ?_
         ·go_simp
          refine hK.out _ _ (by (try dsimp only);go_keep) (fun hHeld=>?_)
          clear hK K
          (try simp only [Act.put,List.setIfInBounds_toArray,List.set_cons_zero,List.set_cons_succ])
          refine wpAnyH_done (by kernel_rfl) ?_ _
          go_wp2_with fail
          have hl1:(es.take k++[(y0,y1,y2,y3)]).length=k+1:=by rw [List.length_append,List.length_take,List.length_singleton];omega
          rw [hl1] at hV5;have hB5:=hb6.trans (Below.mono (show Below w6.heap.size w6 (w4.alloc (.cells #[.int .i64 y0,.int .i64 y1,.slice B5 y2.length d5,.slice B6 y3.length d6] 45)) from (by repeat (first|with_reducible exact Below.refl _ _|((with_reducible refine Below.setCell ?_ ?_ _);rotate_left;focus (first|(simp;done)|omega|(simp;omega)))|((with_reducible refine Below.alloc ?_ ?_ _);rotate_left;focus (first|(simp;done)|omega|(simp;omega)))|(with_reducible refine Below.drew ?_)|(with_reducible refine below_draws_ ?_ _)|((with_reducible refine Below.trans ?_ (Below.mono hb_w3 ?_));rotate_left;focus (first|(simp;done)|omega|(simp;omega)))|((with_reducible refine Below.trans ?_ (Below.mono hb_w4 ?_));rotate_left;focus (first|(simp;done)|omega|(simp;omega)))))) hb6.size);have hStep:=hH.out.step hB5 hgr hV5;refine ⟨⟨k+1,_,by omega,by congr 1,by rw [et];exact hStep,hbl.trans (Below.setCell ((hB5.mono oM).trans (hb_w5.mono oM)) oM _)⟩,?_⟩
          (simp [intOf];omega)
         exact AllReadyH.nil
        exact AllReadyH.nil
       exact AllReadyH.nil
      refine AllReadyH.cons (o:=_) rfl (fun K hK=>?_) ?_
      ·go_simp
       refine hK.out _ _ (by (try dsimp only);go_keep) (fun hHeld=>?_)
       clear hK K
       (try simp only [Act.put,List.setIfInBounds_toArray,List.set_cons_zero,List.set_cons_succ])
       refine wpAnyH_ready (rs:=[1]) (by kernel_rfl) (by simp) ?_;refine AllReadyH.cons (o:=_) rfl (fun K hK=>?_) ?_
       ·go_simp
        refine hK.out _ _ (by (try dsimp only);go_keep) (fun hHeld=>?_)
        clear hK K
        (try simp only [Act.put,List.setIfInBounds_toArray,List.set_cons_zero,List.set_cons_succ])
        refine wpAnyH_ready (rs:=[16]) (by kernel_rfl) (by simp) ?_;refine AllReadyH.cons (o:=_) rfl (fun K hK=>?_) ?_
        ·(refine Bo (v:=.slice GA k gc) (t:=As) (y:=(y0,y1,y2,y3)) (cs:=[.int .i64 y0,.int .i64 y1,.slice B5 y2.length d5,.slice B6 y3.length d6]) (l:=m5++m6) (z:=.agg #[.int .i64 0,.int .i64 0,.slice none 0 0,.slice none 0 0]) rfl _ _ 27 rfl 64 Try.underlying27 (by kernel_rfl) rfl (by decide) rfl hG (hb6.trans (Below.mono (show Below w6.heap.size w6 _ from (by repeat (first|with_reducible exact Below.refl _ _|((with_reducible refine Below.setCell ?_ ?_ _);rotate_left;focus (first|(simp;done)|omega|(simp;omega)))|((with_reducible refine Below.alloc ?_ ?_ _);rotate_left;focus (first|(simp;done)|omega|(simp;omega)))|(with_reducible refine Below.drew ?_)|(with_reducible refine below_draws_ ?_ _)|((with_reducible refine Below.trans ?_ (Below.mono hb_w3 ?_));rotate_left;focus (first|(simp;done)|omega|(simp;omega)))|((with_reducible refine Below.trans ?_ (Below.mono hb_w4 ?_));rotate_left;focus (first|(simp;done)|omega|(simp;omega)))))) hb6.size)) hlo (hVal.out _ (by repeat (first|with_reducible exact Below.refl _ _|((with_reducible refine Below.setCell ?_ ?_ _);rotate_left;focus (first|(simp;done)|omega|(simp;omega)))|((with_reducible refine Below.alloc ?_ ?_ _);rotate_left;focus (first|(simp;done)|omega|(simp;omega)))|(with_reducible refine Below.drew ?_)|(with_reducible refine below_draws_ ?_ _)))) (hFr.out.below (by repeat (first|with_reducible exact Below.refl _ _|((with_reducible refine Below.setCell ?_ ?_ _);rotate_left;focus (first|(simp;done)|omega|(simp;omega)))|((with_reducible refine Below.alloc ?_ ?_ _);rotate_left;focus (first|(simp;done)|omega|(simp;omega)))|(with_reducible refine Below.drew ?_)|(with_reducible refine below_draws_ ?_ _)))) rfl G5 Pm (by rw [List.length_take];omega) (by rw [List.length_take];simp only [maxLen];omega) ?_;intro v' w5 hV5 hb_w5 hgr;obtain ⟨GB,gd,rfl,_,_⟩:=hV5.len;have xw5:w5.cell? ⟨X,1,none⟩=some (.slice GA k gc):=hgr.cell (Ai _ (by assumption)) (fun e=>by have this:lo<=X/\X<wr.heap.size:=hltG _ e.symm;omega);have zw5:w5.frozen? ⟨X,1,none⟩=false:=(World.frozen?_of_block (hgr.block X (by simp;omega) (fun e=>by have this:lo<=X/\X<wr.heap.size:=hltG _ e.symm;omega))).trans (((hb6.trans (Below.mono (show Below w6.heap.size w6 (w4.alloc (.cells #[.int .i64 y0,.int .i64 y1,.slice B5 y2.length d5,.slice B6 y3.length d6] 45)) from (by repeat (first|with_reducible exact Below.refl _ _|((with_reducible refine Below.setCell ?_ ?_ _);rotate_left;focus (first|(simp;done)|omega|(simp;omega)))|((with_reducible refine Below.alloc ?_ ?_ _);rotate_left;focus (first|(simp;done)|omega|(simp;omega)))|(with_reducible refine Below.drew ?_)|(with_reducible refine below_draws_ ?_ _)|((with_reducible refine Below.trans ?_ (Below.mono hb_w3 ?_));rotate_left;focus (first|(simp;done)|omega|(simp;omega)))|((with_reducible refine Below.trans ?_ (Below.mono hb_w4 ?_));rotate_left;focus (first|(simp;done)|omega|(simp;omega)))))) hb6.size)).frozen (show X<_ by omega)).trans (zf 1));have sw5_0:w5.cell? ⟨wr.heap.size,0,none⟩=some (.int .i64 y0):=hgr.cell (Ai _ (by assumption)) (fun e=>by have this:lo<=wr.heap.size/\wr.heap.size<wr.heap.size:=hltG _ e.symm;omega);have sw5_1:w5.cell? ⟨wr.heap.size,1,none⟩=some (.int .i64 y1):=hgr.cell (Ai _ (by assumption)) (fun e=>by have this:lo<=wr.heap.size/\wr.heap.size<wr.heap.size:=hltG _ e.symm;omega);have sw5_2:w5.cell? ⟨wr.heap.size,2,none⟩=some (.slice A5 y2.length c5):=hgr.cell (Ai _ (by assumption)) (fun e=>by have this:lo<=wr.heap.size/\wr.heap.size<wr.heap.size:=hltG _ e.symm;omega);have sw5_3:w5.cell? ⟨wr.heap.size,3,none⟩=some (.slice A6 y3.length c6):=hgr.cell (Ai _ (by assumption)) (fun e=>by have this:lo<=wr.heap.size/\wr.heap.size<wr.heap.size:=hltG _ e.symm;omega))
         refine hK.out _ _ (by (try dsimp only);go_keep) (fun hHeld=>?_)
         clear hK K
         (try simp only [Act.put,List.setIfInBounds_toArray,List.set_cons_zero,List.set_cons_succ])
         refine wpAnyH_take (i:=17) (v:=?_) rfl (by kernel_rfl) (by kernel_rfl) (by kernel_rfl) (fun _ _ _ h=>h) (Or.inl ⟨by rfl,?_⟩) (by assumption) ?_
         rotate_left
         ·intro w hSw;(try dsimp only at hSw);go_simp;all_goals (try with_reducible rfl)
         (try simp only [Act.put,List.setIfInBounds_toArray,List.set_cons_zero,List.set_cons_succ])
         refine wpAnyH_ready (rs:=[18]) (by kernel_rfl) (by simp) ?_;refine AllReadyH.cons (o:=_) rfl (fun K hK=>?_) ?_
         ·go_simp
          refine hK.out _ _ (by (try dsimp only);go_keep) (fun hHeld=>?_)
          clear hK K
          (try simp only [Act.put,List.setIfInBounds_toArray,List.set_cons_zero,List.set_cons_succ])
          refine wpAnyH_done (by kernel_rfl) ?_ _
          go_wp2_with fail
          have hl1:(es.take k++[(y0,y1,y2,y3)]).length=k+1:=by rw [List.length_append,List.length_take,List.length_singleton];omega
          rw [hl1] at hV5;have hB5:=hb6.trans (Below.mono (show Below w6.heap.size w6 (w4.alloc (.cells #[.int .i64 y0,.int .i64 y1,.slice B5 y2.length d5,.slice B6 y3.length d6] 45)) from (by repeat (first|with_reducible exact Below.refl _ _|((with_reducible refine Below.setCell ?_ ?_ _);rotate_left;focus (first|(simp;done)|omega|(simp;omega)))|((with_reducible refine Below.alloc ?_ ?_ _);rotate_left;focus (first|(simp;done)|omega|(simp;omega)))|(with_reducible refine Below.drew ?_)|(with_reducible refine below_draws_ ?_ _)|((with_reducible refine Below.trans ?_ (Below.mono hb_w3 ?_));rotate_left;focus (first|(simp;done)|omega|(simp;omega)))|((with_reducible refine Below.trans ?_ (Below.mono hb_w4 ?_));rotate_left;focus (first|(simp;done)|omega|(simp;omega)))))) hb6.size);have hStep:=hH.out.step hB5 hgr hV5;refine ⟨⟨k+1,_,by omega,by congr 1,by rw [et];exact hStep,hbl.trans (Below.setCell ((hB5.mono oM).trans (hb_w5.mono oM)) oM _)⟩,?_⟩
          (simp [intOf];omega)
         exact AllReadyH.nil
        exact AllReadyH.nil
       exact AllReadyH.nil
      exact AllReadyH.nil
     exact AllReadyH.nil
    exact AllReadyH.nil
   ·obtain rfl:k=es.length:=by omega
    rw [List.take_length] at hR;obtain ⟨⟨z0,z1,z2,z3⟩,zf,⟨hX1,hX2⟩,hG,u2,u3,f,hlo⟩:=hR;have r0:=(hbl.cell (show w.heap.size+1<_ by omega)).trans r0;have r1:=(hbl.cell (show w.heap.size+1<_ by omega)).trans r1;have r2:=(hbl.cell (show w.heap.size+1<_ by omega)).trans r2;have r3:=(hbl.cell (show w.heap.size+1<_ by omega)).trans r3;have rf:∀ i,wr.frozen? ⟨w.heap.size+1,i,none⟩=false:=fun i=>(hbl.frozen (show w.heap.size+1<_ by omega)).trans (rf i)
    obtain ⟨GA,gc,rfl,_,_⟩:=hG.len
    go_wp2_with fail
    refine bodyPost_ret (v:=.agg #[.int .i64 cnt,.slice GA es.length gc,.slice B2 xs.length d2,.slice B3 ys.length d3]) (by simp [results,Try.results38,go_sem, *]) rfl ⟨_,B2,d2,m2,B3,d3,m3,lo,rfl,by omega,?_,?_,?_,?_,?_⟩
    ·exact Cl (Cl (Cl (Cl hG oM _ _) oM _ _) oM _ _) oM _ _
    ·exact Am (fun b _ h=>⟨by have:=h.1;omega,h.2.1⟩) (Ap (Ap (Ap (Ap u2 (fun b h=>by have:=h.1;omega) _ _) (fun b h=>by have:=h.1;omega) _ _) (fun b h=>by have:=h.1;omega) _ _) (fun b h=>by have:=h.1;omega) _ _)
    ·exact Am (fun b _ h=>⟨by have:=h.1;omega,h.2.1⟩) (Ap (Ap (Ap (Ap u3 (fun b h=>by have:=h.1;omega) _ _) (fun b h=>by have:=h.1;omega) _ _) (fun b h=>by have:=h.1;omega) _ _) (fun b h=>by have:=h.1;omega) _ _)
    ·exact A0 (A0 (A0 (A0 f _ _) _ _) _ _) _ _
    ·exact bR.trans (by repeat (first|with_reducible exact Below.refl _ _|((with_reducible refine Below.setCell ?_ ?_ _);rotate_left;focus (first|(simp;done)|omega|(simp;omega)))|((with_reducible refine Below.alloc ?_ ?_ _);rotate_left;focus (first|(simp;done)|omega|(simp;omega)))|(with_reducible refine Below.drew ?_)|(with_reducible refine below_draws_ ?_ _)))
end
section
open Go.RowKit Go.Deep
theorem Wm (n:Int) (tl:List Int) (w:World) (h:Dv n=some tl) (tab:Tab w) :
  Calls Try.prog 39 #[.int .i64 n] w fun e w'=>∃ B d m,e=.returned (.slice B tl.length d)/\Sl (A9 w.heap.size) w' .int B d tl m/\Below w.heap.size w w':=by
 refine (Pq h w (fun _=>True) [.int .i64 n] (fun _ hb=>tab.below hb) ⟨_,_,rfl,rfl,rfl⟩).mono ?_;rintro e w' ⟨u,rfl,hb,hv⟩;obtain ⟨us,ls,ho,hf,rfl⟩:=RV.out_of hv rfl;obtain ⟨B,d,m,_,_,rfl,rfl,t,rfl,rfl⟩:=ho;exact ⟨B,d,m,rfl,t,hb⟩
set_option maxRecDepth 100000 in
set_option maxHeartbeats 16000000 in
theorem W3 {R1 R2 R3:Nat->Prop} (W:Int) (es:List Edg) (A1:Option Addr) (c1:Nat) (l1:List Addr) (xs:List Int) (A2:Option Addr) (c2:Nat) (l2:List Addr) (ys:List Int) (A3:Option Addr) (c3:Nat) (l3:List Addr) (tl:List Int) (w:World)
  (s1:Sl R1 w As A1 c1 es l1) (s2:Sl R2 w .int A2 c2 xs l2) (s3:Sl R3 w .int A3 c3 ys l3) (hu:Dv W=some tl) (n1:es.length<=1048576) (hx:At xs tl=some xs) (hy:At ys tl=some ys) (he:∀ e∈es,At e.2.2.1 tl=some e.2.2.1/\At e.2.2.2 tl=some e.2.2.2) (tab:Tab w) :
  Calls Try.prog 18 #[.agg #[.int .i64 W,.slice A1 es.length c1,.slice A2 xs.length c2,.slice A3 ys.length c3]] w fun e w'=>∃ v B2 d2 m2 B3 d3 m3 lo,e=.returned (.agg #[.int .i64 W,v,.slice B2 xs.length d2,.slice B3 ys.length d3])/\w.heap.size<=lo/\GrowV lo w' 45 As v es/\Sl (fun b=>w.heap.size<=b/\b<lo) w' .int B2 d2 xs m2/\Sl (fun b=>w.heap.size<=b/\b<lo) w' .int B3 d3 ys m3/\Fresh w' w.heap.size (m2++m3)/\Below w.heap.size w w':=by
 go_enter Try.func18,Try.ntmps18
 go_wp2_with fail
 have hb0:Below w.heap.size w ((w.alloc (.cells #[.int .i64 W,.slice A1 es.length c1,.slice A2 xs.length c2,.slice A3 ys.length c3] 29)).alloc (.cells #[.int .i64 0,.slice none 0 0,.slice none 0 0,.slice none 0 0] 29)):=(by repeat (first|with_reducible exact Below.refl _ _|((with_reducible refine Below.setCell ?_ ?_ _);rotate_left;focus (first|(simp;done)|omega|(simp;omega)))|((with_reducible refine Below.alloc ?_ ?_ _);rotate_left;focus (first|(simp;done)|omega|(simp;omega)))|(with_reducible refine Below.drew ?_)|(with_reducible refine below_draws_ ?_ _)))
 have q0:((w.alloc (.cells #[.int .i64 W,.slice A1 es.length c1,.slice A2 xs.length c2,.slice A3 ys.length c3] 29)).alloc (.cells #[.int .i64 0,.slice none 0 0,.slice none 0 0,.slice none 0 0] 29)).cell? ⟨w.heap.size,0,none⟩=some (.int .i64 W):=by simp
 have q1:((w.alloc (.cells #[.int .i64 W,.slice A1 es.length c1,.slice A2 xs.length c2,.slice A3 ys.length c3] 29)).alloc (.cells #[.int .i64 0,.slice none 0 0,.slice none 0 0,.slice none 0 0] 29)).cell? ⟨w.heap.size,1,none⟩=some (.slice A1 es.length c1):=by simp
 have q2:((w.alloc (.cells #[.int .i64 W,.slice A1 es.length c1,.slice A2 xs.length c2,.slice A3 ys.length c3] 29)).alloc (.cells #[.int .i64 0,.slice none 0 0,.slice none 0 0,.slice none 0 0] 29)).cell? ⟨w.heap.size,2,none⟩=some (.slice A2 xs.length c2):=by simp
 have q3:((w.alloc (.cells #[.int .i64 W,.slice A1 es.length c1,.slice A2 xs.length c2,.slice A3 ys.length c3] 29)).alloc (.cells #[.int .i64 0,.slice none 0 0,.slice none 0 0,.slice none 0 0] 29)).cell? ⟨w.heap.size,3,none⟩=some (.slice A3 ys.length c3):=by simp
 have r0:((w.alloc (.cells #[.int .i64 W,.slice A1 es.length c1,.slice A2 xs.length c2,.slice A3 ys.length c3] 29)).alloc (.cells #[.int .i64 0,.slice none 0 0,.slice none 0 0,.slice none 0 0] 29)).cell? ⟨w.heap.size+1,0,none⟩=some (.int .i64 0):=by simp
 have r1:((w.alloc (.cells #[.int .i64 W,.slice A1 es.length c1,.slice A2 xs.length c2,.slice A3 ys.length c3] 29)).alloc (.cells #[.int .i64 0,.slice none 0 0,.slice none 0 0,.slice none 0 0] 29)).cell? ⟨w.heap.size+1,1,none⟩=some (.slice none 0 0):=by simp
 have r2:((w.alloc (.cells #[.int .i64 W,.slice A1 es.length c1,.slice A2 xs.length c2,.slice A3 ys.length c3] 29)).alloc (.cells #[.int .i64 0,.slice none 0 0,.slice none 0 0,.slice none 0 0] 29)).cell? ⟨w.heap.size+1,2,none⟩=some (.slice none 0 0):=by simp
 have r3:((w.alloc (.cells #[.int .i64 W,.slice A1 es.length c1,.slice A2 xs.length c2,.slice A3 ys.length c3] 29)).alloc (.cells #[.int .i64 0,.slice none 0 0,.slice none 0 0,.slice none 0 0] 29)).cell? ⟨w.heap.size+1,3,none⟩=some (.slice none 0 0):=by simp
 have rf:∀ i,((w.alloc (.cells #[.int .i64 W,.slice A1 es.length c1,.slice A2 xs.length c2,.slice A3 ys.length c3] 29)).alloc (.cells #[.int .i64 0,.slice none 0 0,.slice none 0 0,.slice none 0 0] 29)).frozen? ⟨w.heap.size+1,i,none⟩=false:=fun i=>by simp
 have hlt2:w.heap.size+1<((w.alloc (.cells #[.int .i64 W,.slice A1 es.length c1,.slice A2 xs.length c2,.slice A3 ys.length c3] 29)).alloc (.cells #[.int .i64 0,.slice none 0 0,.slice none 0 0,.slice none 0 0] 29)).heap.size:=by simp
 generalize (w.alloc (.cells #[.int .i64 W,.slice A1 es.length c1,.slice A2 xs.length c2,.slice A3 ys.length c3] 29)).alloc (.cells #[.int .i64 0,.slice none 0 0,.slice none 0 0,.slice none 0 0] 29)=w2 at *;have t1:=Ab s1 hb0;have t2:=Ab s2 hb0;have t3:=Ab s3 hb0;have tb:=tab.below hb0
 clear s1 s2 s3 tab
 go_region_held3 (fun w'=>w'.cell? ⟨w.heap.size,0,none⟩=some (.int .i64 W)/\w'.cell? ⟨w.heap.size,1,none⟩=some (.slice A1 es.length c1)/\w'.cell? ⟨w.heap.size,2,none⟩=some (.slice A2 xs.length c2)/\w'.cell? ⟨w.heap.size,3,none⟩=some (.slice A3 ys.length c3)) (go_keep)
  (first
   | (go_at_call 39;(try go_split_ands);refine (Wm W tl _ hu (tb.below (by repeat (first|with_reducible exact Below.refl _ _|((with_reducible refine Below.setCell ?_ ?_ _);rotate_left;focus (first|(simp;done)|omega|(simp;omega)))|((with_reducible refine Below.alloc ?_ ?_ _);rotate_left;focus (first|(simp;done)|omega|(simp;omega)))|(with_reducible refine Below.drew ?_)|(with_reducible refine below_draws_ ?_ _))))).mono ?_;rintro e w3 ⟨A4,c4,l4,rfl,t4,hb_w3⟩;have hz_w3:=hb_w3.size;(try simp at hz_w3);have k0:w3.cell? ⟨w.heap.size,0,none⟩=some (.int .i64 W):=Aa hb_w3 (by first|assumption|simp [*]);have k1:w3.cell? ⟨w.heap.size,1,none⟩=some (.slice A1 es.length c1):=Aa hb_w3 (by first|assumption|simp [*]);have k2:w3.cell? ⟨w.heap.size,2,none⟩=some (.slice A2 xs.length c2):=Aa hb_w3 (by first|assumption|simp [*]);have k3:w3.cell? ⟨w.heap.size,3,none⟩=some (.slice A3 ys.length c3):=Aa hb_w3 (by first|assumption|simp [*]))
   | (go_at_call 38;(try go_split_ands);refine (Vw W W es A1 c1 l1 xs A2 c2 l2 ys A3 c3 l3 tl A4 c4 l4 _ (by exact Ab t1 (by repeat (first|with_reducible exact Below.refl _ _|((with_reducible refine Below.setCell ?_ ?_ _);rotate_left;focus (first|(simp;done)|omega|(simp;omega)))|((with_reducible refine Below.alloc ?_ ?_ _);rotate_left;focus (first|(simp;done)|omega|(simp;omega)))|(with_reducible refine Below.drew ?_)|(with_reducible refine below_draws_ ?_ _)|((with_reducible refine Below.trans ?_ (Below.mono hb_w3 ?_));rotate_left;focus (first|(simp;done)|omega|(simp;omega)))))) (by exact Ab t2 (by repeat (first|with_reducible exact Below.refl _ _|((with_reducible refine Below.setCell ?_ ?_ _);rotate_left;focus (first|(simp;done)|omega|(simp;omega)))|((with_reducible refine Below.alloc ?_ ?_ _);rotate_left;focus (first|(simp;done)|omega|(simp;omega)))|(with_reducible refine Below.drew ?_)|(with_reducible refine below_draws_ ?_ _)|((with_reducible refine Below.trans ?_ (Below.mono hb_w3 ?_));rotate_left;focus (first|(simp;done)|omega|(simp;omega)))))) (by exact Ab t3 (by repeat (first|with_reducible exact Below.refl _ _|((with_reducible refine Below.setCell ?_ ?_ _);rotate_left;focus (first|(simp;done)|omega|(simp;omega)))|((with_reducible refine Below.alloc ?_ ?_ _);rotate_left;focus (first|(simp;done)|omega|(simp;omega)))|(with_reducible refine Below.drew ?_)|(with_reducible refine below_draws_ ?_ _)|((with_reducible refine Below.trans ?_ (Below.mono hb_w3 ?_));rotate_left;focus (first|(simp;done)|omega|(simp;omega)))))) (by exact Ab t4 (by repeat (first|with_reducible exact Below.refl _ _|((with_reducible refine Below.setCell ?_ ?_ _);rotate_left;focus (first|(simp;done)|omega|(simp;omega)))|((with_reducible refine Below.alloc ?_ ?_ _);rotate_left;focus (first|(simp;done)|omega|(simp;omega)))|(with_reducible refine Below.drew ?_)|(with_reducible refine below_draws_ ?_ _)))) n1 hx hy he (tb.below (by repeat (first|with_reducible exact Below.refl _ _|((with_reducible refine Below.setCell ?_ ?_ _);rotate_left;focus (first|(simp;done)|omega|(simp;omega)))|((with_reducible refine Below.alloc ?_ ?_ _);rotate_left;focus (first|(simp;done)|omega|(simp;omega)))|(with_reducible refine Below.drew ?_)|(with_reducible refine below_draws_ ?_ _)|((with_reducible refine Below.trans ?_ (Below.mono hb_w3 ?_));rotate_left;focus (first|(simp;done)|omega|(simp;omega))))))).mono ?_;rintro e w4 ⟨v,B2,d2,m2,B3,d3,m3,lo,rfl,hlo,hG,u2,u3,hF,hb_w4⟩;obtain ⟨GA,gc,rfl,_,_⟩:=hG.len;have hz_w4:=hb_w4.size;(try simp at hz_w4);have h0:w4.cell? ⟨w.heap.size,0,none⟩=some (.int .i64 W):=Aa hb_w4 (by first|assumption|simp [*]);have h1:w4.cell? ⟨w.heap.size,1,none⟩=some (.slice A1 es.length c1):=Aa hb_w4 (by first|assumption|simp [*]);have h2:w4.cell? ⟨w.heap.size,2,none⟩=some (.slice A2 xs.length c2):=Aa hb_w4 (by first|assumption|simp [*]);have h3:w4.cell? ⟨w.heap.size,3,none⟩=some (.slice A3 ys.length c3):=Aa hb_w4 (by first|assumption|simp [*]);have hB24:Below w2.heap.size w2 w4:=(by repeat (first|with_reducible exact Below.refl _ _|((with_reducible refine Below.setCell ?_ ?_ _);rotate_left;focus (first|(simp;done)|omega|(simp;omega)))|((with_reducible refine Below.alloc ?_ ?_ _);rotate_left;focus (first|(simp;done)|omega|(simp;omega)))|(with_reducible refine Below.drew ?_)|(with_reducible refine below_draws_ ?_ _)|((with_reducible refine Below.trans ?_ (Below.mono hb_w3 ?_));rotate_left;focus (first|(simp;done)|omega|(simp;omega)))|((with_reducible refine Below.trans ?_ (Below.mono hb_w4 ?_));rotate_left;focus (first|(simp;done)|omega|(simp;omega)))));have z0:=(hB24.cell (show w.heap.size+1<_ by omega)).trans r0;have z1:=(hB24.cell (show w.heap.size+1<_ by omega)).trans r1;have z2:=(hB24.cell (show w.heap.size+1<_ by omega)).trans r2;have z3:=(hB24.cell (show w.heap.size+1<_ by omega)).trans r3;have zf:∀ i,w4.frozen? ⟨w.heap.size+1,i,none⟩=false:=fun i=>(hB24.frozen (show w.heap.size+1<_ by omega)).trans (rf i)))
 all_goals go_wp2_with fail
 have hlo':w3.heap.size<=lo:=hlo;have hz1:=hb0.size;refine bodyPost_ret (v:=.agg #[.int .i64 W,.slice GA es.length gc,.slice B2 xs.length d2,.slice B3 ys.length d3]) (by simp [results,Try.results18,go_sem, *]) rfl ⟨_,B2,d2,m2,B3,d3,m3,lo,rfl,by omega,?_,?_,?_,?_,?_⟩
 ·exact Cl (Cl (Cl (Cl hG oM _ _) oM _ _) oM _ _) oM _ _
 ·exact Am (fun b _ h=>⟨by have h1:w3.heap.size<=b:=h.1;omega,h.2⟩) (Ap (Ap (Ap (Ap u2 (fun b h=>by have h1:w3.heap.size<=b:=h.1;omega) _ _) (fun b h=>by have h1:w3.heap.size<=b:=h.1;omega) _ _) (fun b h=>by have h1:w3.heap.size<=b:=h.1;omega) _ _) (fun b h=>by have h1:w3.heap.size<=b:=h.1;omega) _ _)
 ·exact Am (fun b _ h=>⟨by have h1:w3.heap.size<=b:=h.1;omega,h.2⟩) (Ap (Ap (Ap (Ap u3 (fun b h=>by have h1:w3.heap.size<=b:=h.1;omega) _ _) (fun b h=>by have h1:w3.heap.size<=b:=h.1;omega) _ _) (fun b h=>by have h1:w3.heap.size<=b:=h.1;omega) _ _) (fun b h=>by have h1:w3.heap.size<=b:=h.1;omega) _ _)
 ·exact A0 (A0 (A0 (A0 (hF.le (show w.heap.size<=w3.heap.size by omega)) _ _) _ _) _ _) _ _
 ·exact Below.setCell (Below.setCell (Below.setCell (Below.setCell (hb0.trans (hB24.mono oM)) (by simp) _) (by simp) _) (by simp) _) (by simp) _
end
section
open Go.RowKit Go.Deep
theorem Wr (k:Int) (w:World) (tab:Tab w):Calls Try.prog 19 #[.int .i64 k] w fun e w'=>e=.returned (.int .i64 (Ef k))/\Below w.heap.size w w' :=
 Iy (vs:=[.int .i64 k]) (Jb (Zx k)) (fun _ hb=>tab.below hb) ⟨_,_,rfl,rfl,rfl⟩
theorem Kw (R:Nat->Prop) (w:World) (t:Ty):Sl R w t none 0 [] []:=⟨by simp,by simp [maxLen],fun _=>[],by simp,fun h=>absurd h (by simp)⟩
theorem K5 {R1 R2 R3:Nat->Prop} (W:Int) (es:List Edg) (A1:Option Addr) (c1:Nat) (l1:List Addr) (xs:List Int) (A2:Option Addr) (c2:Nat) (l2:List Addr) (ys:List Int) (A3:Option Addr) (c3:Nat) (l3:List Addr) (w:World)
  (s1:Sl R1 w As A1 c1 es l1) (s2:Sl R2 w .int A2 c2 xs l2) (s3:Sl R3 w .int A3 c3 ys l3) (n1:es.length<=1048576) (he:∀ e∈es,Ff e) {b:Bool} (hg:Dj W es xs ys=b) (tab:Tab w) :
  Calls Try.prog 17 #[.agg #[.int .i64 W,.slice A1 es.length c1,.slice A2 xs.length c2,.slice A3 ys.length c3]] w fun e w'=>e=.returned (.bool b)/\Below w.heap.size w w' :=
 Hy (vs:=[.agg #[.int .i64 W,.slice A1 es.length c1,.slice A2 xs.length c2,.slice A3 ys.length c3]]) (Hg (hg▸Vr W es xs ys n1 he)) (fun _ hb=>tab.below hb) ⟨_,_,rfl,⟨_,rfl,⟨_,_,rfl,rfl,⟨_,_,rfl,⟨A1,c1,l1,rfl,Dy s1⟩,⟨_,_,rfl,⟨A2,c2,l2,rfl,Dy s2⟩,⟨_,_,rfl,⟨A3,c3,l3,rfl,Dy s3⟩,rfl⟩⟩⟩⟩⟩,rfl⟩
theorem K9 {R1 R2 R3:Nat->Prop} (W:Int) (es:List Edg) (A1:Option Addr) (c1:Nat) (l1:List Addr) (xs:List Int) (A2:Option Addr) (c2:Nat) (l2:List Addr) (ys:List Int) (A3:Option Addr) (c3:Nat) (l3:List Addr) (w:World)
  (s1:Sl R1 w As A1 c1 es l1) (s2:Sl R2 w .int A2 c2 xs l2) (s3:Sl R3 w .int A3 c3 ys l3) {b:Bool} (hg:Dj W es xs ys=b) (tab:Tab w) :
  Calls Try.prog 13 #[.agg #[.int .i64 W,.slice A1 es.length c1,.slice A2 xs.length c2,.slice A3 ys.length c3]] w fun e w'=>e=.returned (.bool b)/\Below w.heap.size w w' :=
 Hy (vs:=[.agg #[.int .i64 W,.slice A1 es.length c1,.slice A2 xs.length c2,.slice A3 ys.length c3]]) (Lm (hg▸Ut W es xs ys)) (fun _ hb=>tab.below hb) ⟨_,_,rfl,⟨_,rfl,⟨_,_,rfl,rfl,⟨_,_,rfl,⟨A1,c1,l1,rfl,Dy s1⟩,⟨_,_,rfl,⟨A2,c2,l2,rfl,Dy s2⟩,⟨_,_,rfl,⟨A3,c3,l3,rfl,Dy s3⟩,rfl⟩⟩⟩⟩⟩,rfl⟩
theorem Uq {W:Int} {es:List Edg} {xs ys:List Int} (h:Dj W es xs ys=true):∃ tl,Dv W=some tl/\At xs tl=some xs/\At ys tl=some ys/\∀ e∈es,At e.2.2.1 tl=some e.2.2.1/\At e.2.2.2 tl=some e.2.2.2:=by
 unfold Dj at h;simp only [Bool.and_eq_true,decide_eq_true_eq] at h;obtain ⟨hW,n1,n2,n3,hk,hr,_⟩:=h;have hb:=Bw.1 hW;rw [T7] at hr;simp only [Bool.and_eq_true,List.all_eq_true] at hr hk;obtain ⟨r1,r2,r3⟩:=hr;obtain ⟨n,rfl⟩:∃ n:Nat,W=n:=⟨W.toNat,by omega⟩
 have key:∀ zs:List Int,B8 n zs=true->zs.length<=1048576->At zs (upL n)=some zs:=fun zs hz hl =>
  W9 (fun x hx=>by have:=Bw.1 (List.all_eq_true.1 hz x hx);omega) hl
 exact ⟨upL n,Aal oM,key _ r1 oM,key _ r2 oM,fun e he=>⟨key _ (r3 e he).1 (by have:=(Jv (hk e he)).1;omega),key _ (r3 e he).2 (by have:=(Jv (hk e he)).2;omega)⟩⟩
def Gn {α:Type} (f:α->α) (es:List α) (k:Nat):List α:=(es.take k).map f++es.drop k
section
variable {α:Type} {f:α->α} {es:List α} {k:Nat}
theorem Qr:(Gn f es k).length=es.length:=by unfold Gn;rw [List.length_append,List.length_map,List.length_take,List.length_drop];omega
theorem U3:Gn f es 0=es:=by simp [Gn]
theorem V8:Gn f es es.length=es.map f:=by simp [Gn]
theorem W4 (h:k<es.length):(Gn f es k)[k]'(by rw [Qr];exact h)=es[k]:=by
 unfold Gn;rw [List.getElem_append_right (by simp;omega),List.getElem_drop];congr 1;simp;omega
theorem Vy (h:k<es.length):(Gn f es k).set k (f es[k])=Gn f es (k+1):=by
 have hl:((es.take k).map f).length=k:=by simp;omega
 unfold Gn;rw [List.take_succ_eq_append_getElem h,List.map_append,List.set_append_right _ _ oM,hl,Nat.sub_self,List.drop_eq_getElem_cons h,List.set_cons_zero,List.append_assoc];rfl
end
theorem GrowV.own {lo:Nat} {w:World} {e:TypeId} {t:Ty} {A:Option Addr} {n c:Nat} {xs:List t.D} (h:GrowV lo w e t (.slice A n c) xs) (h0:0<xs.length):∃ g,A=some ⟨g,0,none⟩/\lo<=g/\g<w.heap.size:=by
 obtain ⟨cs,f,h1,_⟩:=id h;rcases h1.2 with ⟨_,e2⟩|⟨g,cap,cur,e1,_⟩
 ·omega
 ·injection e1 with q1 _ _
  subst q1;exact ⟨g,rfl,h.lt g rfl⟩
theorem Sw {w:World} {lo:Nat} {l m:List Addr} (h:l.Perm m) (f:Fresh w lo l):Fresh w lo m:=⟨h.nodup_iff.1 f.1,fun p hp=>f.2 p (h.mem_iff.2 hp)⟩
theorem Vj {w:World} {lo0 lo:Nat} {l m:List Addr} (h0:lo0<=lo) (hm:Fresh w lo0 m) (hl:Fresh w lo l) (hlt:∀ p∈m,p.block<lo):Fresh w lo0 (l++m):=by
 refine ⟨List.nodup_append.2 ⟨hl.1,hm.1,fun a ha b hb e=>?_⟩,fun p hp=>?_⟩
 ·subst e;have h1:=(hl.2 a ha).1;have h2:=hlt a hb;omega
 ·rcases List.mem_append.1 hp with h|h
  ·exact ⟨Nat.le_trans h0 (hl.2 p h).1,(hl.2 p h).2⟩
  ·exact hm.2 p h
def MirR (lo0 X lo:Nat) (W:Int) (v:Value) (es:List Edg) (B2:Option Addr) (d2:Nat) (xs:List Int) (m2:List Addr) (B3:Option Addr) (d3:Nat) (ys:List Int) (m3:List Addr) (wr:World):Prop :=
 (wr.cell? ⟨X,0,none⟩=some (.int .i64 W)/\wr.cell? ⟨X,1,none⟩=some v/\wr.cell? ⟨X,2,none⟩=some (.slice B3 ys.length d3)/\wr.cell? ⟨X,3,none⟩=some (.slice B2 xs.length d2)) /\
 GrowV lo wr 45 As v es/\Sl (fun b=>lo0<=b/\b<lo) wr .int B2 d2 xs m2/\Sl (fun b=>lo0<=b/\b<lo) wr .int B3 d3 ys m3/\Fresh wr lo0 (m2++m3)
theorem Fw {g o:Nat} {vs:List Value} {w:World} {p:Addr} {u:Value} (h:w.cell? p=some u) (hp:p.block≠g):(C8 g o vs w).cell? p=some u:=(World.cell?_of_block (D5 hp)).trans h
theorem MirR.step {lo0 X lo g n c o:Nat} {W:Int} {es es':List Edg} {B2 B3:Option Addr} {d2 d3:Nat} {xs ys:List Int} {m2 m3:List Addr} {wr w6:World} {cs:List Value} (h:MirR lo0 X lo W (.slice (some ⟨g,0,none⟩) n c) es B2 d2 xs m2 B3 d3 ys m3 wr) (hb:Below wr.heap.size wr w6) (hg:lo<=g/\g<X)
  (hV:GrowV lo (C8 g o cs w6) 45 As (.slice (some ⟨g,0,none⟩) n c) es'):MirR lo0 X lo W (.slice (some ⟨g,0,none⟩) n c) es' B2 d2 xs m2 B3 d3 ys m3 (C8 g o cs w6):=by
 obtain ⟨⟨c0,c1,c2,c3⟩,hG,u2,u3,f⟩:=h
 have keepS:∀ {t:Ty} {A:Option Addr} {c:Nat} {zs:List t.D} {l:List Addr},Sl (fun b=>lo0<=b/\b<lo) wr t A c zs l->Sl (fun b=>lo0<=b/\b<lo) (C8 g o cs w6) t A c zs l:=fun h =>
  H3 (Ab h hb) fun p u hr hc _=>Fw hc (by have:=hr.2;omega)
 have hX:X≠g:=by omega
 refine ⟨⟨Fw (Aa hb c0) hX,Fw (Aa hb c1) hX,Fw (Aa hb c2) hX,Fw (Aa hb c3) hX⟩,hV,keepS u2,keepS u3,?_⟩;have f6:=f.below hb;refine ⟨f6.1,fun p hp=>?_⟩;obtain ⟨q1,q2,q3⟩:=f6.2 p hp
 have hpl:p.block<lo:=by
  rcases List.mem_append.1 hp with h|h
  ·exact (Gx u2 p h).1.2
  ·exact (Gx u3 p h).1.2
 exact ⟨q1,by rw [Hi];exact q2,(World.frozen?_of_block (D5 oM)).trans q3⟩
def Vk (W:Int) (es:List Edg) (xs ys:List Int):Int×List Edg×List Int×List Int×Bool:=if Dj W es xs ys then (W,es.map Dw,ys,xs,true) else (0,[],[],[],false)
set_option maxRecDepth 100000 in
set_option maxHeartbeats 4000000 in
theorem Ru {R1 R2 R3:Nat->Prop} (W:Int) (es:List Edg) (A1:Option Addr) (c1:Nat) (l1:List Addr) (xs:List Int) (A2:Option Addr) (c2:Nat) (l2:List Addr) (ys:List Int) (A3:Option Addr) (c3:Nat) (l3:List Addr) (w:World)
  (s1:Sl R1 w As A1 c1 es l1) (s2:Sl R2 w .int A2 c2 xs l2) (s3:Sl R3 w .int A3 c3 ys l3) (n1:es.length<=1048576) (he:∀ e∈es,Ff e) (hg:Dj W es xs ys=true) (tab:Tab w) :
  Calls Try.prog 7 #[.agg #[.int .i64 W,.slice A1 es.length c1,.slice A2 xs.length c2,.slice A3 ys.length c3]] w fun e w'=>∃ B1 d1 m1 B2 d2 m2 B3 d3 m3,e=.returned (.tuple #[.agg #[.int .i64 W,.slice B1 es.length d1,.slice B2 ys.length d2,.slice B3 xs.length d3],.bool true])/\Sl (A9 w.heap.size) w' As B1 d1 (es.map Dw) m1/\Sl (A9 w.heap.size) w' .int B2 d2 ys m2/\Sl (A9 w.heap.size) w' .int B3 d3 xs m3/\Fresh w' w.heap.size (m1++(m2++m3))/\Below w.heap.size w w':=by
 obtain ⟨tl,hu,hx,hy,hm⟩:=Uq hg
 go_enter Try.func7,Try.ntmps7
 go_wp2_with fail
 (refine (K5 W es A1 c1 l1 xs A2 c2 l2 ys A3 c3 l3 _ (by exact Ab s1 (by repeat (first|with_reducible exact Below.refl _ _|((with_reducible refine Below.setCell ?_ ?_ _);rotate_left;focus (first|(simp;done)|omega|(simp;omega)))|((with_reducible refine Below.alloc ?_ ?_ _);rotate_left;focus (first|(simp;done)|omega|(simp;omega)))|(with_reducible refine Below.drew ?_)|(with_reducible refine below_draws_ ?_ _)))) (by exact Ab s2 (by repeat (first|with_reducible exact Below.refl _ _|((with_reducible refine Below.setCell ?_ ?_ _);rotate_left;focus (first|(simp;done)|omega|(simp;omega)))|((with_reducible refine Below.alloc ?_ ?_ _);rotate_left;focus (first|(simp;done)|omega|(simp;omega)))|(with_reducible refine Below.drew ?_)|(with_reducible refine below_draws_ ?_ _)))) (by exact Ab s3 (by repeat (first|with_reducible exact Below.refl _ _|((with_reducible refine Below.setCell ?_ ?_ _);rotate_left;focus (first|(simp;done)|omega|(simp;omega)))|((with_reducible refine Below.alloc ?_ ?_ _);rotate_left;focus (first|(simp;done)|omega|(simp;omega)))|(with_reducible refine Below.drew ?_)|(with_reducible refine below_draws_ ?_ _)))) n1 he hg (tab.below (by repeat (first|with_reducible exact Below.refl _ _|((with_reducible refine Below.setCell ?_ ?_ _);rotate_left;focus (first|(simp;done)|omega|(simp;omega)))|((with_reducible refine Below.alloc ?_ ?_ _);rotate_left;focus (first|(simp;done)|omega|(simp;omega)))|(with_reducible refine Below.drew ?_)|(with_reducible refine below_draws_ ?_ _))))).mono ?_;rintro e w3 ⟨rfl,hb_w3⟩;obtain ⟨hc_w3,hf_w3⟩:=B0 hb_w3;have hz_w3:=hb_w3.size;(try simp at hz_w3);have hl_w3_0:w.heap.size<w3.heap.size:=oM;have hl_w3_1:w.heap.size+1<w3.heap.size:=oM);go_wp2_with fail
 (refine (W3 W es A1 c1 l1 xs A2 c2 l2 ys A3 c3 l3 tl _ (by exact Ab s1 (by repeat (first|with_reducible exact Below.refl _ _|((with_reducible refine Below.setCell ?_ ?_ _);rotate_left;focus (first|(simp;done)|omega|(simp;omega)))|((with_reducible refine Below.alloc ?_ ?_ _);rotate_left;focus (first|(simp;done)|omega|(simp;omega)))|(with_reducible refine Below.drew ?_)|(with_reducible refine below_draws_ ?_ _)|((with_reducible refine Below.trans ?_ (Below.mono hb_w3 ?_));rotate_left;focus (first|(simp;done)|omega|(simp;omega)))))) (by exact Ab s2 (by repeat (first|with_reducible exact Below.refl _ _|((with_reducible refine Below.setCell ?_ ?_ _);rotate_left;focus (first|(simp;done)|omega|(simp;omega)))|((with_reducible refine Below.alloc ?_ ?_ _);rotate_left;focus (first|(simp;done)|omega|(simp;omega)))|(with_reducible refine Below.drew ?_)|(with_reducible refine below_draws_ ?_ _)|((with_reducible refine Below.trans ?_ (Below.mono hb_w3 ?_));rotate_left;focus (first|(simp;done)|omega|(simp;omega)))))) (by exact Ab s3 (by repeat (first|with_reducible exact Below.refl _ _|((with_reducible refine Below.setCell ?_ ?_ _);rotate_left;focus (first|(simp;done)|omega|(simp;omega)))|((with_reducible refine Below.alloc ?_ ?_ _);rotate_left;focus (first|(simp;done)|omega|(simp;omega)))|(with_reducible refine Below.drew ?_)|(with_reducible refine below_draws_ ?_ _)|((with_reducible refine Below.trans ?_ (Below.mono hb_w3 ?_));rotate_left;focus (first|(simp;done)|omega|(simp;omega)))))) hu n1 hx hy hm (tab.below (by repeat (first|with_reducible exact Below.refl _ _|((with_reducible refine Below.setCell ?_ ?_ _);rotate_left;focus (first|(simp;done)|omega|(simp;omega)))|((with_reducible refine Below.alloc ?_ ?_ _);rotate_left;focus (first|(simp;done)|omega|(simp;omega)))|(with_reducible refine Below.drew ?_)|(with_reducible refine below_draws_ ?_ _)|((with_reducible refine Below.trans ?_ (Below.mono hb_w3 ?_));rotate_left;focus (first|(simp;done)|omega|(simp;omega))))))).mono ?_;rintro e w4 ⟨v,B2,d2,m2,B3,d3,m3,lo,rfl,hlo,hG,u2,u3,hF,hb_w4⟩;obtain ⟨hc_w4,hf_w4⟩:=B0 hb_w4;have hz_w4:=hb_w4.size;(try simp at hz_w4);have hl_w4_0:w.heap.size<w4.heap.size:=oM;have hl_w4_1:w.heap.size+1<w4.heap.size:=oM);go_wp2_with fail
 obtain ⟨GA,gc,rfl,hn1,hn2⟩:=hG.len
 go_wp2_with fail
 go_simp
 rename_i hK1;refine hK1 _ _ ?_
 go_wp2_with fail
 have hlt0:=hG.lt;have r0:w4.cell? ⟨w.heap.size+1,0,none⟩=some (.int .i64 0):=(hc_w4 _ _ (by first|(simp;done)|omega|(simp;omega))).trans ((hc_w3 _ _ (by first|(simp;done)|omega|(simp;omega))).trans (by simp));have r1:w4.cell? ⟨w.heap.size+1,1,none⟩=some (.slice none 0 0):=(hc_w4 _ _ (by first|(simp;done)|omega|(simp;omega))).trans ((hc_w3 _ _ (by first|(simp;done)|omega|(simp;omega))).trans (by simp));have r2:w4.cell? ⟨w.heap.size+1,2,none⟩=some (.slice none 0 0):=(hc_w4 _ _ (by first|(simp;done)|omega|(simp;omega))).trans ((hc_w3 _ _ (by first|(simp;done)|omega|(simp;omega))).trans (by simp));have r3:w4.cell? ⟨w.heap.size+1,3,none⟩=some (.slice none 0 0):=(hc_w4 _ _ (by first|(simp;done)|omega|(simp;omega))).trans ((hc_w3 _ _ (by first|(simp;done)|omega|(simp;omega))).trans (by simp));have rf:∀ i,w4.frozen? ⟨w.heap.size+1,i,none⟩=false:=fun i=>(hf_w4 _ _ (by first|(simp;done)|omega|(simp;omega))).trans ((hf_w3 _ _ (by first|(simp;done)|omega|(simp;omega))).trans (by simp))
 go_loopw [22] (fun i wr=>∃ k:Nat,k<=es.length/\i=.int .i64 k/\MirR w3.heap.size w4.heap.size lo W (.slice GA es.length gc) (Gn Dw es k) B2 d2 xs m2 B3 d3 ys m3 wr/\w4.heap.size<wr.heap.size/\Below (w.heap.size+2) w4 wr) (fun i _=>es.length - (intOf i).toNat)
 case atStart =>
  have hbA:∀ o,Below w4.heap.size w4 (w4.alloc o):=fun o=>(Below.refl _ _).alloc (Nat.le_refl _) _
  exact ⟨0,by omega,rfl,⟨⟨An rfl,An rfl,An rfl,An rfl⟩,by rw [U3];exact hG.below (hbA _),Ab u2 (hbA _),Ab u3 (hbA _),hF.below (hbA _)⟩,by simp,(hbA _).mono oM⟩
 case round =>
  obtain ⟨k,hk,rfl,hR,hXs,hbl⟩:=hrel;by_cases hlt:k<es.length
  ·obtain ⟨⟨z0,z1,z2,z3⟩,hGk,v2,v3,f⟩:=id hR;have hl0:(Gn Dw es k).length=es.length:=Qr;obtain ⟨g,rfl,hg1,_⟩:=hGk.own oM;have hgX:g<w4.heap.size:=(hlt0 g rfl).2;obtain ⟨cs,l,hv,hc,hf,hp⟩:=GrowV.put (k:=k) (g:=g) (c:=gc) hGk (by rw [hl0]) oM;rw [W4 hlt] at hv;obtain ⟨⟨y0,y1,y2,y3⟩,hxk⟩:∃ x,x=es[k]:=⟨_,rfl⟩
   rw [← hxk] at hv;obtain ⟨_,_,_,_,rfl,⟨rfl,rfl⟩,⟨_,_,_,_,rfl,⟨rfl,rfl⟩,⟨_,_,m5,m6,rfl,⟨A5,c5,rfl,t5⟩,⟨A6,c6,rfl,t6⟩,rfl⟩,rfl⟩,rfl⟩:=hv;have e0:=hc 0 _ rfl;have e1:=hc 1 _ rfl;have e2:=hc 2 _ rfl;have e3:=hc 3 _ rfl;simp only [Ty.size,Nat.reduceAdd,Nat.add_zero] at e0 e1 e2 e3 hp;have hH:=Lib.hid hR;have hP:=Lib.hid hp;have hgr:g<wr.heap.size:=by omega
   have hX1:w4.heap.size≠g:=by omega
   have hX2:g≠w4.heap.size:=by omega
   have hX3:wr.heap.size≠g:=by omega
   have hX4:g≠wr.heap.size:=by omega
   have hX5:w4.heap.size≠wr.heap.size:=by omega
   have hX6:wr.heap.size≠w4.heap.size:=by omega
   have bw4:Below w.heap.size w w4:=(by repeat (first|with_reducible exact Below.refl _ _|((with_reducible refine Below.setCell ?_ ?_ _);rotate_left;focus (first|(simp;done)|omega|(simp;omega)))|((with_reducible refine Below.alloc ?_ ?_ _);rotate_left;focus (first|(simp;done)|omega|(simp;omega)))|(with_reducible refine Below.drew ?_)|(with_reducible refine below_draws_ ?_ _)|((with_reducible refine Below.trans ?_ (Below.mono hb_w3 ?_));rotate_left;focus (first|(simp;done)|omega|(simp;omega)))|((with_reducible refine Below.trans ?_ (Below.mono hb_w4 ?_));rotate_left;focus (first|(simp;done)|omega|(simp;omega)))))
   have bR:Below w.heap.size w wr:=bw4.trans (hbl.mono oM)
   clear hR hp hc hGk hG r0 r1 r2 r3 rf v2 v3 f u2 u3 hF hlt0 z0 z2 z3
   go_wp2_with fail
   have hb6:Below wr.heap.size wr (wr.alloc (.cells #[.int .i64 y0,.int .i64 y1,.slice A5 y2.length c5,.slice A6 y3.length c6] 45)):=(by repeat (first|with_reducible exact Below.refl _ _|((with_reducible refine Below.setCell ?_ ?_ _);rotate_left;focus (first|(simp;done)|omega|(simp;omega)))|((with_reducible refine Below.alloc ?_ ?_ _);rotate_left;focus (first|(simp;done)|omega|(simp;omega)))|(with_reducible refine Below.drew ?_)|(with_reducible refine below_draws_ ?_ _)))
   have hz6:wr.heap.size+1<=(wr.alloc (.cells #[.int .i64 y0,.int .i64 y1,.slice A5 y2.length c5,.slice A6 y3.length c6] 45)).heap.size:=by simp
   have p0:(wr.alloc (.cells #[.int .i64 y0,.int .i64 y1,.slice A5 y2.length c5,.slice A6 y3.length c6] 45)).cell? ⟨wr.heap.size,0,none⟩=some (.int .i64 y0):=An rfl;have p1:(wr.alloc (.cells #[.int .i64 y0,.int .i64 y1,.slice A5 y2.length c5,.slice A6 y3.length c6] 45)).cell? ⟨wr.heap.size,1,none⟩=some (.int .i64 y1):=An rfl;have p2:(wr.alloc (.cells #[.int .i64 y0,.int .i64 y1,.slice A5 y2.length c5,.slice A6 y3.length c6] 45)).cell? ⟨wr.heap.size,2,none⟩=some (.slice A5 y2.length c5):=An rfl;have p3:(wr.alloc (.cells #[.int .i64 y0,.int .i64 y1,.slice A5 y2.length c5,.slice A6 y3.length c6] 45)).cell? ⟨wr.heap.size,3,none⟩=some (.slice A6 y3.length c6):=An rfl;have q0:=Aa hb6 e0;have q1:=Aa hb6 e1;have q2:=Aa hb6 e2;have q3:=Aa hb6 e3;have pX:=Aa hb6 z1;have f6:∀ i,(wr.alloc (.cells #[.int .i64 y0,.int .i64 y1,.slice A5 y2.length c5,.slice A6 y3.length c6] 45)).frozen? ⟨g,i,none⟩=false:=fun i=>(hb6.frozen (show g<_ by omega)).trans (hf i)
   generalize (wr.alloc (.cells #[.int .i64 y0,.int .i64 y1,.slice A5 y2.length c5,.slice A6 y3.length c6] 45))=w6 at *;have tb:=tab.below (bR.trans (hb6.mono bR.size));have hg6:g<w6.heap.size:=by omega
   clear e0 e1 e2 e3 hf
   go_region_held3 (fun w'=>w'.cell? ⟨wr.heap.size,0,none⟩=some (.int .i64 y0)/\w'.cell? ⟨wr.heap.size,1,none⟩=some (.int .i64 y1)/\w'.cell? ⟨wr.heap.size,2,none⟩=some (.slice A5 y2.length c5)/\w'.cell? ⟨wr.heap.size,3,none⟩=some (.slice A6 y3.length c6)/\w'.cell? ⟨w4.heap.size,1,none⟩=some (.slice (some ⟨g,0,none⟩) es.length gc)) (go_keep)
    (first
     | (go_at_call 19;(try go_split_ands);refine (Wr y0 _ (tb.below (by repeat (first|with_reducible exact Below.refl _ _|((with_reducible refine Below.setCell ?_ ?_ _);rotate_left;focus (first|(simp;done)|omega|(simp;omega)))|((with_reducible refine Below.alloc ?_ ?_ _);rotate_left;focus (first|(simp;done)|omega|(simp;omega)))|(with_reducible refine Below.drew ?_)|(with_reducible refine below_draws_ ?_ _))))).mono ?_;rintro e w7 ⟨rfl,hb_w7⟩;have hz_w7:=hb_w7.size;(try simp at hz_w7);have s7_0:w7.cell? ⟨wr.heap.size,0,none⟩=some (.int .i64 y0):=Aa hb_w7 (by first|assumption|simp [*]);have s7_1:w7.cell? ⟨wr.heap.size,1,none⟩=some (.int .i64 y1):=Aa hb_w7 (by first|assumption|simp [*]);have s7_2:w7.cell? ⟨wr.heap.size,2,none⟩=some (.slice A5 y2.length c5):=Aa hb_w7 (by first|assumption|simp [*]);have s7_3:w7.cell? ⟨wr.heap.size,3,none⟩=some (.slice A6 y3.length c6):=Aa hb_w7 (by first|assumption|simp [*]);have q7_0:w7.cell? ⟨g,k*4,none⟩=some (.int .i64 y0):=Aa hb_w7 (by first|assumption|simp [*]);have q7_1:w7.cell? ⟨g,k*4+1,none⟩=some (.int .i64 y1):=Aa hb_w7 (by first|assumption|simp [*]);have q7_2:w7.cell? ⟨g,k*4+2,none⟩=some (.slice A5 y2.length c5):=Aa hb_w7 (by first|assumption|simp [*]);have q7_3:w7.cell? ⟨g,k*4+3,none⟩=some (.slice A6 y3.length c6):=Aa hb_w7 (by first|assumption|simp [*]);have x7:w7.cell? ⟨w4.heap.size,1,none⟩=some (.slice (some ⟨g,0,none⟩) es.length gc):=Aa hb_w7 (by first|assumption|simp [*]);have f7:∀ i,w7.frozen? ⟨g,i,none⟩=false:=fun i=>(hb_w7.frozen (show g<_ by first|omega|(simp;omega))).trans (by first|exact f6 i|simp [f6])))
   all_goals go_wp2_with fail
   have hb7:Below wr.heap.size wr w7:=hb6.trans (Below.mono (show Below w6.heap.size w6 w7 from (by repeat (first|with_reducible exact Below.refl _ _|((with_reducible refine Below.setCell ?_ ?_ _);rotate_left;focus (first|(simp;done)|omega|(simp;omega)))|((with_reducible refine Below.alloc ?_ ?_ _);rotate_left;focus (first|(simp;done)|omega|(simp;omega)))|(with_reducible refine Below.drew ?_)|(with_reducible refine below_draws_ ?_ _)|((with_reducible refine Below.trans ?_ (Below.mono hb_w7 ?_));rotate_left;focus (first|(simp;done)|omega|(simp;omega)))))) hb6.size);have hV7:=hP.out w7 [.int .i64 (Ef y0),.int .i64 y1,.slice A6 y3.length c6,.slice A5 y2.length c5] (Dw (y0,y1,y2,y3)) (m6++m5) hb7 ⟨[_],_,[],_,rfl,⟨rfl,rfl⟩,⟨[_],_,[],_,rfl,⟨rfl,rfl⟩,⟨[_],_,m6,m5,rfl,⟨A6,c6,rfl,Ab t6 hb7⟩,⟨A5,c5,rfl,Ab t5 hb7⟩,rfl⟩,rfl⟩,rfl⟩ (by simpa using List.perm_append_comm);rw [hxk,Vy hlt] at hV7;have hS:=hH.out.step hb7 ⟨hg1,hgX⟩ hV7;have hz7:=hb7.size;refine ⟨⟨k+1,by omega,by congr 1,hS,by (simp [World.setCell];omega),?_⟩,by simp [intOf];omega⟩;exact Hc (vs:=[.int .i64 (Ef y0),.int .i64 y1,.slice A6 y3.length c6,.slice A5 y2.length c5]) (o:=k*4) (show w.heap.size+2<=g by omega) (hbl.trans (hb7.mono oM))
  ·obtain rfl:k=es.length:=by omega
   rw [V8] at hR;obtain ⟨⟨z0,z1,z2,z3⟩,hGk,v2,v3,f⟩:=hR;obtain ⟨GB,gd,l,hGe,hs,hfl⟩:=hGk.done;rw [List.length_map] at hGe;injection hGe with q1 _ q3
   subst q1 q3;have r0:=(hbl.cell (show w.heap.size+1<_ by omega)).trans r0;have r1:=(hbl.cell (show w.heap.size+1<_ by omega)).trans r1;have r2:=(hbl.cell (show w.heap.size+1<_ by omega)).trans r2;have r3:=(hbl.cell (show w.heap.size+1<_ by omega)).trans r3;have rf:∀ i,wr.frozen? ⟨w.heap.size+1,i,none⟩=false:=fun i=>(hbl.frozen (show w.heap.size+1<_ by omega)).trans (rf i)
   have bw4:Below w.heap.size w w4:=(by repeat (first|with_reducible exact Below.refl _ _|((with_reducible refine Below.setCell ?_ ?_ _);rotate_left;focus (first|(simp;done)|omega|(simp;omega)))|((with_reducible refine Below.alloc ?_ ?_ _);rotate_left;focus (first|(simp;done)|omega|(simp;omega)))|(with_reducible refine Below.drew ?_)|(with_reducible refine below_draws_ ?_ _)|((with_reducible refine Below.trans ?_ (Below.mono hb_w3 ?_));rotate_left;focus (first|(simp;done)|omega|(simp;omega)))|((with_reducible refine Below.trans ?_ (Below.mono hb_w4 ?_));rotate_left;focus (first|(simp;done)|omega|(simp;omega)))))
   have bR:Below w.heap.size w wr:=bw4.trans (hbl.mono oM)
   have hF2:Fresh wr w.heap.size (l++(m3++m2)):=Vj oM (Sw List.perm_append_comm (f.le oM)) hfl (fun p hp=>by
    rcases List.mem_append.1 hp with h|h
    ·exact (Gx v3 p h).1.2
    ·exact (Gx v2 p h).1.2)
   clear hG hlt0 hF u2 u3 hn1 hn2 hGk f hfl
   go_wp2_with fail
   refine bodyPost_ret (v:=.tuple #[.agg #[.int .i64 W,.slice GA es.length gc,.slice B3 ys.length d3,.slice B2 xs.length d2],.bool true]) (by simp [results,Try.results7,go_sem, *]) rfl ⟨GA,gc,l,B3,d3,m3,B2,d2,rfl,?_,?_,m2,?_,?_,?_⟩
   ·exact Am (fun b _ h=>by have h1:lo<=b:=h;show _<=b;omega) (Ap (Ap (Ap (Ap hs (fun b h=>by have h1:lo<=b:=h;omega) _ _) (fun b h=>by have h1:lo<=b:=h;omega) _ _) (fun b h=>by have h1:lo<=b:=h;omega) _ _) (fun b h=>by have h1:lo<=b:=h;omega) _ _)
   ·exact Am (fun b _ h=>by have h1:=h.1;show _<=b;omega) (Ap (Ap (Ap (Ap v3 (fun b h=>by have:=h.1;omega) _ _) (fun b h=>by have:=h.1;omega) _ _) (fun b h=>by have:=h.1;omega) _ _) (fun b h=>by have:=h.1;omega) _ _)
   ·exact Am (fun b _ h=>by have h1:=h.1;show _<=b;omega) (Ap (Ap (Ap (Ap v2 (fun b h=>by have:=h.1;omega) _ _) (fun b h=>by have:=h.1;omega) _ _) (fun b h=>by have:=h.1;omega) _ _) (fun b h=>by have:=h.1;omega) _ _)
   ·exact A0 (A0 (A0 (A0 hF2 _ _) _ _) _ _) _ _
   ·exact bR.trans (by repeat (first|with_reducible exact Below.refl _ _|((with_reducible refine Below.setCell ?_ ?_ _);rotate_left;focus (first|(simp;done)|omega|(simp;omega)))|((with_reducible refine Below.alloc ?_ ?_ _);rotate_left;focus (first|(simp;done)|omega|(simp;omega)))|(with_reducible refine Below.drew ?_)|(with_reducible refine below_draws_ ?_ _)))
end
end Go.Proofs.Ytdjehfcigdkgjaa
