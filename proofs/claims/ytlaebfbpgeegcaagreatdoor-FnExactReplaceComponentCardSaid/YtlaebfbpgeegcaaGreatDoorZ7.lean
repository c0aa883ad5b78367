/- Lemmas on the program and on partial functions that stand in place of its code (part 7); no condition beyond those that each one states. -/
import Derived.Test.YtlaebfbpgeegcaaGreatDoorZ6
import Derived.Deep.DeepAppendRoom
import Derived.Deep.RegionHeld3
import Derived.Deep.DeepCutAuto
namespace Go.Proofs.YtlaebfbpgeegcaaGreatDoor
section
open Go.RowKit Go.Deep
theorem Sq {P:Program} (w:World) (base:Nat) (t ty e:TypeId) (i:TypeInfo) (z:Value) (size bytes:Nat) (ht:P.underlying t=some (.slice e)) (hi:P.info? e=some i) (hz:i.zero=some z)
  (hsize:i.size=size) (hby:i.bytes=bytes) (hzs:z.cells.size=size) (hsz:0<size) (v:Value) (n:Nat) (xs:List Value) (hown:w.ownsRow base e size v n xs)
  (a:Addr) (m c:Nat) (news:List Value) (hl:news.length=m*size) (hnews:∀ j u,news[j]? =some u->w.cell? (a.add j)=some u) (h1:∀ u∈news,u.oneCell'=true)
  (h63:n+m<=maxLen) (hbytes:(n+m)*bytes<=140737488355328) (hbase:base<=w.heap.size) :
  ∃ v' w',(Builtin.append_ #[t,t] ty #[v,.slice (some a) m c]).run P w=.ok v' w'/\w'.ownsRow base e size v' (n+m) (xs++news)/\w.grownBy w' v.ownBlock/\∀ g',v'.ownBlock=some g'->v.ownBlock=some g'∨w.heap.size<=g':=by
 obtain ⟨v',w',hr,h2,h3,_⟩:=run_append_own (P:=P) w base t ty e i z size bytes ht hi hz hsize hby hzs hsz v n xs hown a m c news hl hnews h1 h63 hbytes hbase;refine ⟨v',w',hr,h2,h3,fun g' hg'=>?_⟩;rcases hown.2 with ⟨rfl,rfl⟩|⟨g,cap,cur,rfl,_,hg,hnc,hcm,hcs,htake⟩
 ·obtain rfl:xs=[]:=List.eq_nil_of_length_eq_zero (by simpa using hown.1);obtain ⟨v2,w2,hr2,k2,_,_⟩:=run_append_own (P:=P) w w.heap.size t ty e i z size bytes ht hi hz hsize hby hzs hsz (.slice none 0 0) 0 [] (World.ownsRow_nil w _ e size) a m c news hl hnews h1 h63 hbytes (Nat.le_refl _);rw [hr] at hr2;injection hr2 with e1 e2
  subst e1 e2;exact .inr (k2.lt g' hg').1
 ·by_cases hroom:n+m<=cap
  ·obtain ⟨w2,hr2,_⟩:=run_append_own_spare (P:=P) w base t ty e i size ht hi hsize g n cap xs hown a m c news hl hnews h1 hroom;rw [hr] at hr2;injection hr2 with e1 e2
   subst e1 e2;exact .inl hg'
  ·have holds:∀ j u,xs[j]? =some u->w.cell? ((⟨g,0,none⟩:Addr).add j)=some u:=hown.cells (g:=g) rfl;have hr2:=run_append_grow (P:=P) w t ty e i z ht hi hz ⟨g,0,none⟩ n cap xs (by rw [hsize];exact hown.1) holds a m c news (by rw [hsize];exact hl) hnews oM (by simp only [maxLen] at h63;omega) (growslice_fits oM (by rw [hby];exact hbytes));rw [hr] at hr2;injection hr2 with e1 e2
   subst e1;simp only [Value.ownBlock,Option.some.injEq] at hg';exact .inr oM
def GrowV (lo:Nat) (w:World) (e:TypeId) (t:Ty) (v:Value) (xs:List t.D):Prop :=
 ∃ (cs:List Value) (f:Nat->List Addr),w.ownsRow lo e t.size v xs.length cs/\(∀ (j:Nat) (hj:j<xs.length),Ty.Val (fun b=>lo<=b/\some b≠v.ownBlock) w t ((cs.drop (j*t.size)).take t.size) (xs[j]'hj) (f j))/\Fresh w lo ((List.range xs.length).flatMap f)
section
variable {lo:Nat} {w w' w0:World} {e:TypeId} {t:Ty} {v:Value} {xs:List t.D}
theorem GrowV.lit (w:World) (e:TypeId) (t:Ty) (hb:lo<=w.heap.size):GrowV lo (w.alloc (.cells #[] e)) e t (.slice (some ⟨w.heap.size,0,none⟩) 0 0) [] :=
 ⟨[],fun _=>[],World.ownsRow_made w #[] 0 hb (by simp [maxLen]) (by simp),fun j hj=>absurd hj (by simp),by simpa using Fresh.nil _ lo⟩
theorem P0 {sz n:Nat} {cs:List Value} (h:w.ownsRow lo e sz v n cs) (hb:Below w.heap.size w w'):w'.ownsRow lo e sz v n cs:=by
 refine ⟨h.1,?_⟩;rcases h.2 with hn|⟨g,cap,cur,rfl,hb',hg,rest⟩
 ·exact .inl hn
 ·exact .inr ⟨g,cap,cur,rfl,hb',(hb.block g (Array.getElem?_eq_some_iff.1 hg).1).trans hg,rest⟩
theorem GrowV.below (h:GrowV lo w e t v xs) (hb:Below w.heap.size w w'):GrowV lo w' e t v xs:=by
 obtain ⟨cs,f,h1,h2,h3⟩:=h;exact ⟨cs,f,P0 h1 hb,fun j hj=>O2 (h2 j hj) hb,h3.below hb⟩
theorem GrowV.len (h:GrowV lo w e t v xs):∃ A c,v=.slice A xs.length c/\xs.length<=c/\c<=maxLen:=by
 obtain ⟨cs,f,h1,_⟩:=h;rcases h1.2 with ⟨rfl,hn⟩|⟨g,cap,cur,rfl,_,_,h2,h3,_⟩
 ·exact ⟨none,0,by rw [hn],by omega,by simp [maxLen]⟩
 ·exact ⟨_,cap,rfl,h2,h3⟩
theorem GrowV.lt (h:GrowV lo w e t v xs):∀ k,v.ownBlock=some k->lo<=k/\k<w.heap.size:=by
 obtain ⟨cs,f,h1,_⟩:=h;exact fun k hk=>h1.lt k hk
theorem GrowV.done (h:GrowV lo w e t v xs):∃ A c l,v=.slice A xs.length c/\Sl (Ic lo) w t A c xs l/\Fresh w lo l:=by
 obtain ⟨cs,f,h1,h2,h3⟩:=h;have hv:v=v:=rfl;rcases h1.2 with ⟨rfl,hn⟩|⟨g,cap,cur,rfl,hlo,hg,hc,hm,hs,htake⟩
 ·refine ⟨none,0,[],by rw [hn],⟨by omega,by simp [maxLen],fun _=>[],by simp,fun h=>absurd h oM⟩,Fresh.nil w lo⟩
 ·have hcell:∀ i,i<xs.length*t.size->w.cell? ⟨g,i,none⟩=some (cs.getD i undef):=fun i hi=>by
   have hi':i<cs.length:=by rw [h1.1];exact hi
   have:=h1.cells (g:=g) rfl i _ (gEg hi');rw [Bd,Nat.zero_add] at this;rw [this,gDg,gEg hi'];rfl
  obtain ⟨fl,q1,q2,q3⟩:=Agw (R:=Ic lo) (n:=xs.length) hcell rfl (fun j hj _=>by
   have hsz:(j+1)*t.size<=xs.length*t.size:=Nat.mul_le_mul_right _ hj;rw [Nat.succ_mul] at hsz
   have e1:((List.range t.size).map fun i=>cs.getD (j*t.size+i) undef)=(cs.drop (j*t.size)).take t.size:=by
    have hl:=h1.1;refine List.ext_getElem (by simp;omega) fun i h1 h2=>?_
    simp only [List.length_map,List.length_range] at h1;simp only [List.getElem_map,List.getElem_range,List.getElem_take,List.getElem_drop];rw [gDg,gEg oM];rfl
   rw [e1];exact (h2 j hj).mono fun _ _ hb=>hb.1) _ (Nat.le_refl _) h3.1 (fun p hp=>by
    obtain ⟨j,hj,hpj⟩:=List.mem_flatMap.1 hp;have:=((h2 j (List.mem_range.1 hj)).leaf p hpj).1.2;exact fun e=>this (by rw [e];rfl))
  refine ⟨_,cap,_,rfl,⟨hc,hm,fl,rfl,fun _=>⟨_,rfl,hlo,fun i hi=>?_⟩⟩,q2,fun p hp=>?_⟩
  ·rw [Bd,Nat.zero_add];exact q1 i hi hi
  ·rcases q3 p hp with ⟨j,_,rfl⟩|h
   ·exact ⟨hlo,(Array.getElem?_eq_some_iff.1 hg).1,by simp [World.frozen?,hg]⟩
   ·exact h3.2 p h
theorem GrowV.push {cs:List Value} {x:t.D} {l:List Addr} (h:GrowV lo w0 e t v xs) (hb:Below w0.heap.size w0 w) (hlo:lo<=w0.heap.size) (hv:Ty.Val (Ic w0.heap.size) w t cs x l) (hf:Fresh w w0.heap.size l) :
  ∃ olds,w.ownsRow lo e t.size v xs.length olds/\∀ v' w',w'.ownsRow lo e t.size v' (xs.length+1) (olds++cs)->w.grownBy w' v.ownBlock->(∀ g',v'.ownBlock=some g'->v.ownBlock=some g'∨w.heap.size<=g')->GrowV lo w' e t v' (xs++[x]):=by
 have hlt0:=h.lt;obtain ⟨olds,f,h1,h2,h3⟩:=h;refine ⟨olds,P0 h1 hb,fun v' w' hown hg hwh=>?_⟩;have hl:=hv.length;have hol:=h1.1;have hmul:∀ j,j<xs.length->(j+1)*t.size<=xs.length*t.size:=fun j hj=>Nat.mul_le_mul_right _ hj
 have hv':Ty.Val (fun b=>lo<=b/\some b≠v.ownBlock) w t cs x l:=hv.mono fun b _ (hr:w0.heap.size<=b)=>⟨by omega,fun e=>by have:=(hlt0 b e.symm).2;omega⟩
 have keep:∀ {cs:List Value} {y:t.D} {l:List Addr},Ty.Val (fun b=>lo<=b/\some b≠v.ownBlock) w t cs y l->Ty.Val (fun b=>lo<=b/\some b≠v'.ownBlock) w' t cs y l:=fun {cs y l} h=>by
  have h':Ty.Val (fun b=>(lo<=b/\some b≠v.ownBlock)/\b<w.heap.size) w t cs y l:=h.mono fun b hb hr=>⟨hr,hb⟩
  have h'':=h'.keep (w':=w') (fun p u hr hc _=>hg.cell hc hr.1.2);exact h''.mono fun b _ hr=>⟨hr.1.1,fun e=>(hwh b e.symm).elim (fun q=>hr.1.2 q.symm) (fun q=>by have:=hr.2;omega)⟩
 refine ⟨olds++cs,fun j=>if j=xs.length then l else f j,by simpa using hown,fun j hj=>?_,?_⟩
 ·by_cases e:j=xs.length
  ·subst e
   have e2:(((olds++cs).drop (xs.length*t.size)).take t.size)=cs:=by
    rw [List.drop_append_of_le_length oM,List.drop_of_length_le oM,List.nil_append,List.take_of_length_le oM]
   rw [e2]
   simpa using keep hv'
  ·have hj':j<xs.length:=by simp at hj;omega
   have:=hmul j hj';rw [Nat.succ_mul] at this
   have e2:(((olds++cs).drop (j*t.size)).take t.size)=((olds.drop (j*t.size)).take t.size):=by
    rw [List.drop_append_of_le_length oM,List.take_append_of_le_length (by rw [List.length_drop];omega)]
   rw [e2,List.getElem_append_left hj'];simp only [if_neg e];exact keep (O2 (h2 j hj') hb)
 ·have e1:(List.range (xs++[x]).length).flatMap (fun j=>if j=xs.length then l else f j)=(List.range xs.length).flatMap f++l:=by
   rw [List.length_append,List.length_singleton,Et];simp only [if_true];congr 1;rw [List.flatMap_def,List.flatMap_def];congr 1;exact List.map_congr_left fun j hj=>if_neg (by have:=List.mem_range.1 hj;omega)
  rw [e1];have hF:Fresh w lo ((List.range xs.length).flatMap f++l):=Fresh.append h3 hb hf hlo;refine ⟨hF.1,fun p hp=>?_⟩;obtain ⟨q1,q2,q3⟩:=hF.2 p hp
  have hne:some p.block≠v.ownBlock:=by
   rcases List.mem_append.1 hp with h|h
   ·obtain ⟨j,hj,hpj⟩:=List.mem_flatMap.1 h;exact ((h2 j (List.mem_range.1 hj)).leaf p hpj).1.2
   ·exact (hv'.leaf p h).1.2
  exact ⟨q1,Nat.lt_of_lt_of_le q2 hg.size,(World.frozen?_of_block (hg.block _ q2 hne)).trans q3⟩
end
variable {P:Program} {ops:Array Oper} {rest:List Oper} {o:Oper} {a:Act} {Q:Exit->Act->World->Prop}
theorem Abs {lo:Nat} {w w0:World} {e:TypeId} {t:Ty} {v:Value} {xs:List t.D} {cs:List Value} {y:t.D} {l:List Addr} {K:Act->World->Prop} (s x:Operand) (ty:TypeId) (ho:o.op=.call { callee:=.builtin .append,args:= #[s,x],argTypes:= #[ty,ty] }) (bytes:Nat) {z:Value} (ht:P.underlying ty=some (.slice e))
  (hinfo:(P.info? e).map (fun i=>(i.zero,i.size,i.bytes))=some (some z,t.size,bytes)) (hzs:z.cells.size=t.size) (hsz:0<t.size) (hs:a.eval s=v) (h:GrowV lo w0 e t v xs) (hb:Below w0.heap.size w0 w) (hlo:lo<=w0.heap.size) (hv:Ty.Val (Ic w0.heap.size) w t cs y l) (hf:Fresh w w0.heap.size l)
  {ad:Addr} {c:Nat} (hx:a.eval x=.slice (some ad) 1 c) (hc:∀ j u,cs[j]? =some u->w.cell? (ad.add j)=some u) (h1:∀ u∈cs,u.oneCell'=true) (hbytes:(xs.length+1)*bytes<=140737488355328) (h63:xs.length+1<=maxLen)
  (hK:∀ v' w',GrowV lo w' e t v' (xs++[y])->Below lo w w'->w.grownBy w' v.ownBlock->K (a.put o.dst v') w'):o.wp P a w K Q:=by
 obtain ⟨i,hi,hz,hsize,hby⟩:=info_parts hinfo;obtain ⟨olds,hown,hpush⟩:=h.push hb hlo hv hf;have hl:cs.length=1*t.size:=by rw [hv.length,Nat.one_mul]
 obtain ⟨v',w',hr,h2,h3,h4⟩:=Sq (P:=P) w lo ty o.type e i z t.size bytes ht hi hz hsize hby hzs hsz v xs.length olds hown ad 1 c cs hl hc h1 h63 hbytes (Nat.le_trans hlo hb.size);have hlt:=(h.below hb).lt;unfold Oper.wp execOp;simp only [ho,resolve,invoke,builtin,Sem.run_bind,Sem.run_pure,Result.andThen_ok,List.map_toArray,List.map_cons,List.map_nil,hs,hx,hr];exact hK v' w' (hpush v' w' h2 h3 h4) ((Below.refl lo w).grown h3 (Nat.le_trans hlo hb.size) (fun k hk=>(hlt k hk).1)) h3
theorem Q6 {lo:Nat} {w w0:World} {e:TypeId} {t:Ty} {v:Value} {xs:List t.D} {cs:List Value} {y:t.D} {l:List Addr} (hgd:o.guard=none) (s x:Operand) (ty:TypeId) (ho:o.op=.call { callee:=.builtin .append,args:= #[s,x],argTypes:= #[ty,ty] }) (bytes:Nat) {z:Value} (ht:P.underlying ty=some (.slice e))
  (hinfo:(P.info? e).map (fun i=>(i.zero,i.size,i.bytes))=some (some z,t.size,bytes)) (hzs:z.cells.size=t.size) (hsz:0<t.size) (hs:a.eval s=v) (h:GrowV lo w0 e t v xs) (hb:Below w0.heap.size w0 w) (hlo:lo<=w0.heap.size) (hv:Ty.Val (Ic w0.heap.size) w t cs y l) (hf:Fresh w w0.heap.size l)
  {ad:Addr} {c:Nat} (hx:a.eval x=.slice (some ad) 1 c) (hc:∀ j u,cs[j]? =some u->w.cell? (ad.add j)=some u) (h1:∀ u∈cs,u.oneCell'=true) (hbytes:(xs.length+1)*bytes<=140737488355328) (h63:xs.length+1<=maxLen)
  (hL:∀ v' w',GrowV lo w' e t v' (xs++[y])->Below lo w w'->w.grownBy w' v.ownBlock->wpList P ops Q rest (a.put o.dst v') w'):wpList P ops Q (o :: rest) a w :=
 wpList_plain hgd fun _ hK=>Abs s x ty ho bytes ht hinfo hzs hsz hs h hb hlo hv hf hx hc h1 hbytes h63 fun v' w' g1 g2 g3=>hK _ _ (hL v' w' g1 g2 g3)
end
section
open Go.RowKit Go.Deep
set_option maxRecDepth 100000 in
set_option maxHeartbeats 1000000 in
theorem X3 {R:Nat->Prop} (xs:List (Int×Int×ByteArray)) (A:Option Addr) (c:Nat) (l:List Addr) (k:Int) (w:World) (h:Sl R w (.pair .int (.pair .int .str)) A c xs l) (hh:HeldAs l k w) (hk:0<=k/\k+l.length<=9223372036854775807) (tab:Tab w) :
  Calls Tryz.prog 36 #[.slice A xs.length c,.int .i64 k] w fun e w'=>e=.returned (.int .i64 (k+l.length))/\Below w.heap.size w w':=by
 have hn:=(Hl h).2;have hlen:=Jj (t:=.pair .int (.pair .int .str)) rfl h;simp only [Ty.size,Nat.reduceAdd] at hlen
 go_enter Tryz.func36,Tryz.ntmps36
 go_wp2
 go_loopw [1,5] (fun m i wr=>∃ j:Nat,j<=xs.length/\i=.int .i64 j/\m=.int .i64 (k+(j:Int)*3)/\Below w.heap.size w wr) (fun _ i _=>xs.length - (intOf i).toNat)
 case atStart=>exact ⟨0,by omega,rfl,by simp,by repeat (first|with_reducible exact Below.refl _ _|((with_reducible refine Below.setCell ?_ ?_ _);rotate_left;focus (first|(simp;done)|omega|(simp;omega)))|((with_reducible refine Below.alloc ?_ ?_ _);rotate_left;focus (first|(simp;done)|omega|(simp;omega)))|(with_reducible refine Below.drew ?_)|(with_reducible refine below_draws_ ?_ _))⟩
 case round =>
  obtain ⟨j,hj,rfl,rfl,hbl⟩:=hrel;by_cases hlt:j<xs.length
  ·obtain ⟨b,o,rfl,hl,hcell⟩:=Iv (t:=.pair .int (.pair .int .str)) rfl h oM;have c0:=hcell j hlt 0 (by decide);have c1:=hcell j hlt 1 (by decide);have c2:=hcell j hlt 2 (by decide);obtain ⟨⟨x0,x1,x2⟩,hx⟩:∃ x,x=xs[j]:=⟨_,rfl⟩
   rw [← hx] at c0 c1 c2
   replace c0:w.cell? ⟨b,o+j*3,none⟩=some (.int .i64 x0):=c0
   replace c1:w.cell? ⟨b,o+j*3+1,none⟩=some (.int .i64 x1):=by rw [Nat.add_assoc];exact c1
   replace c2:w.cell? ⟨b,o+j*3+2,none⟩=some (.string x2):=by rw [Nat.add_assoc];exact c2
   have p0:l[j*3]'oM=⟨b,o+j*3,none⟩:=by simp [hl,Ty.size]
   have p1:l[j*3+1]'oM=⟨b,o+j*3+1,none⟩:=by simp [hl,Ty.size,Nat.add_assoc]
   have p2:l[j*3+2]'oM=⟨b,o+j*3+2,none⟩:=by simp [hl,Ty.size,Nat.add_assoc]
   obtain ⟨u0,_,q0⟩:=hh (j*3) oM;rw [p0,c0] at q0;have v0:x0=k+(j:Int)*3:=by cases u0 <;> simp [Jz] at q0;omega
   obtain ⟨u1,_,q1⟩:=hh (j*3+1) oM;rw [p1,c1] at q1;have v1:x1=k+(j:Int)*3+1:=by cases u1 <;> simp [Jz] at q1;omega
   obtain ⟨u2,_,q2⟩:=hh (j*3+2) oM;rw [p2,c2] at q2
   have v2:x2=Vl (k+(j:Int)*3+1+1):=by
    cases u2 <;> simp [Jz] at q2;rw [q2];congr 1;omega
   have d0:=Af hbl c0;have d1:=Af hbl c1;have d2:=Af hbl c2;rw [v0] at d0;rw [v1] at d1;rw [v2] at d2
   clear hcell hx c0 c1 c2 p0 p1 p2 q0 q1 q2 v0 v1 v2
   have tb:=tab.below hbl
   go_wp2_with fail
   go_region_held3 (fun w'=>Below wr.heap.size wr w'/\w'.cell? ⟨b,o+j*3+2,none⟩=some (.string (Vl (k+(j:Int)*3+1+1))))
    (first|((with_reducible show Below _ _ w1/\_);go_split_ands;exact ⟨Below.trans (by assumption) (hb_w1.mono (Below.size (by assumption))),Af hb_w1 (by assumption)⟩)|exact ⟨(Below.refl _ _).drew,d2⟩|go_keep)
    (first|(go_at_call 31;(try go_split_ands);refine (J1 (k+(j:Int)*3+1+1) oM _ (tb.below (by assumption))).mono ?_;rintro e w1 ⟨rfl,hb_w1⟩))
   go_wp2_with fail
   go_roundw
   case rel=>exact ⟨j+1,by omega,by go_num,by congr 1;omega,hbl.trans (Below.mono (by repeat (first|with_reducible exact Below.refl _ _|((with_reducible refine Below.setCell ?_ ?_ _);rotate_left;focus (first|(simp;done)|omega|(simp;omega)))|((with_reducible refine Below.alloc ?_ ?_ _);rotate_left;focus (first|(simp;done)|omega|(simp;omega)))|(with_reducible refine Below.drew ?_)|(with_reducible refine below_draws_ ?_ _)|((with_reducible refine Below.trans ?_ (Below.mono hb_w1 ?_));rotate_left;focus (first|(simp;done)|omega|(simp;omega))))) hbl.size)⟩
   case measure=>simp [intOf];omega
  ·obtain rfl:j=xs.length:=by omega
   go_wp2
   go_ret
   exact ⟨Lb (by rw [hlen];omega),hbl⟩
set_option maxRecDepth 100000 in
set_option maxHeartbeats 1000000 in
theorem Kl {R:Nat->Prop} (xs:List Cp) (A:Option Addr) (c:Nat) (l:List Addr) (k:Int) (w:World) (h:Sl R w Mi A c xs l) (hh:HeldAs l k w) (hk:0<=k/\k+l.length<=9223372036854775807) (tab:Tab w) :
  Calls Tryz.prog 14 #[.slice A xs.length c,.int .i64 k] w fun e w'=>e=.returned (.int .i64 (k+l.length))/\Below w.heap.size w w':=by
 have hn:=(Hl h).2;rcases Nat.eq_zero_or_pos xs.length with h0|h0
 ·obtain rfl:xs=[]:=List.length_eq_zero_iff.1 h0;obtain ⟨_,_,f,rfl,_⟩:=h
  go_enter Tryz.func14,Tryz.ntmps14
  go_wp2
  go_loopw [1,5] (fun m i wr=>i=.int .i64 0/\m=.int .i64 k/\wr=w) (fun _ i _=>0)
  case atStart=>exact ⟨rfl,rfl,rfl⟩
  case round =>
   obtain ⟨rfl,rfl,rfl⟩:=hrel
   go_wp2
   go_ret
   exact ⟨Lb (by simp),by repeat (first|with_reducible exact Below.refl _ _|((with_reducible refine Below.setCell ?_ ?_ _);rotate_left;focus (first|(simp;done)|omega|(simp;omega)))|((with_reducible refine Below.alloc ?_ ?_ _);rotate_left;focus (first|(simp;done)|omega|(simp;omega)))|(with_reducible refine Below.drew ?_)|(with_reducible refine below_draws_ ?_ _))⟩
 obtain ⟨b,o,f,rfl,rfl,hs⟩:=Aay h h0
 go_enter Tryz.func14,Tryz.ntmps14
 go_wp2
 go_loopw [1,5] (fun m i wr=>∃ (j:Nat) (F:List Addr),Hid (F=(List.range j).flatMap f)/\j<=xs.length/\i=.int .i64 j/\m=.int .i64 (k+F.length)/\Below w.heap.size w wr) (fun _ i _=>xs.length - (intOf i).toNat)
 case atStart=>exact ⟨0,[],rfl,by omega,rfl,by simp,by repeat (first|with_reducible exact Below.refl _ _|((with_reducible refine Below.setCell ?_ ?_ _);rotate_left;focus (first|(simp;done)|omega|(simp;omega)))|((with_reducible refine Below.alloc ?_ ?_ _);rotate_left;focus (first|(simp;done)|omega|(simp;omega)))|(with_reducible refine Below.drew ?_)|(with_reducible refine below_draws_ ?_ _))⟩
 case round =>
  obtain ⟨j,F,hFe,hj,rfl,rfl,hbl⟩:=hrel;by_cases hlt:j<xs.length
  ·obtain ⟨A1,c1,l1,A4,c4,l4,e0,e1,e2,e3,e4,s1,s4,hfj⟩:=hs j hlt;obtain ⟨r,hr⟩:=Lc f hlt;rw [← hFe.out,hfj] at hr;have hk2:=hk;rw [hr] at hh hk2;simp only [List.length_append,List.length_cons] at hk2;have h1:=hh.right.left;obtain ⟨u0,_,q0⟩:=h1 0 (by simp);simp only [List.getElem_cons_zero,e0] at q0;have v0:xs[j].1=Vl (k+F.length):=by cases u0 <;> simp [Jz] at q0;exact q0
   have h2:HeldAs (l1++⟨b,o+j*5+2,none⟩ :: ⟨b,o+j*5+3,none⟩ :: l4) (k+F.length+1) w:=by
    have:=(show HeldAs ([⟨b,o+j*5,none⟩]++(l1++⟨b,o+j*5+2,none⟩ :: ⟨b,o+j*5+3,none⟩ :: l4)) _ w from h1).right
    simpa using this
   have h3:=h2.right;obtain ⟨u2,_,q2⟩:=h3 0 (by simp);obtain ⟨u3,_,q3⟩:=h3 1 (by simp);simp only [List.getElem_cons_zero,List.getElem_cons_succ,e2,e3] at q2 q3;have v2:xs[j].2.2.1=k+F.length+1+l1.length:=by cases u2 <;> simp [Jz] at q2;omega
   have v3:xs[j].2.2.2.1=k+F.length+1+l1.length+1:=by cases u3 <;> simp [Jz] at q3;omega
   have h4:HeldAs l4 (k+F.length+1+l1.length+1+1) w:=by
    have:=(show HeldAs ([⟨b,o+j*5+2,none⟩,⟨b,o+j*5+3,none⟩]++l4) _ w from h3).right
    simpa [Int.add_assoc] using this
   obtain ⟨x,hx⟩:∃ x,x=xs[j]:=⟨_,rfl⟩
   rw [← hx] at e0 e1 e2 e3 e4 s1 s4 v0 v2 v3;rw [v0] at e0;rw [v2] at e2;rw [v3] at e3;have d0:=Af hbl e0
   clear hr hx hh h1 q0 q2 q3 v0 v2 v3 e0 hs h
   have tb:=tab.below hbl
   go_wp2_with fail
   go_region_held3 (fun w'=>Below wr.heap.size wr w'/\w'.cell? ⟨b,o+j*5,none⟩=some (.string (Vl (k+F.length))))
    (first|((with_reducible show Below _ _ w1/\_);go_split_ands;exact ⟨Below.trans (by assumption) (hb_w1.mono (Below.size (by assumption))),Af hb_w1 (by assumption)⟩)|exact ⟨(Below.refl _ _).drew,d0⟩|go_keep)
    (first|(go_at_call 31;(try go_split_ands);refine (J1 (k+F.length) oM _ (tb.below (by assumption))).mono ?_;rintro e w1 ⟨rfl,hb_w1⟩))
   have hB1:Below w.heap.size w w1:=hbl.trans (Below.mono (by repeat (first|with_reducible exact Below.refl _ _|((with_reducible refine Below.setCell ?_ ?_ _);rotate_left;focus (first|(simp;done)|omega|(simp;omega)))|((with_reducible refine Below.alloc ?_ ?_ _);rotate_left;focus (first|(simp;done)|omega|(simp;omega)))|(with_reducible refine Below.drew ?_)|(with_reducible refine below_draws_ ?_ _)|((with_reducible refine Below.trans ?_ (Below.mono hb_w1 ?_));rotate_left;focus (first|(simp;done)|omega|(simp;omega))))) hbl.size);have d1:=Af hB1 e1
   go_wp2_with fail
   refine (X3 x.2.1 A1 c1 l1 (k+F.length+1) _ (by exact Ao s1 hB1) (by exact h2.left.below hB1) oM (tab.below hB1)).mono ?_;rintro e w2 ⟨rfl,hb2⟩;have hB2:=hB1.trans (hb2.mono hB1.size);have d2:=Af hB2 e2;have d3:=Af hB2 e3;have d4:=Af hB2 e4
   go_wp2_with fail
   refine (Xk x.2.2.2.2 A4 c4 l4 (k+F.length+1+l1.length+1+1) _ (by exact Ao s4 hB2) (by exact h4.below hB2) oM).mono ?_;rintro e w3 ⟨rfl,hb3⟩
   go_wp2_with fail
   go_roundw
   case rel=>exact ⟨j+1,F++f j,Lib.hid (by rw [Hy,← hFe.out]),by omega,by go_num,by rw [hfj];simp only [List.length_append,List.length_cons];congr 1;omega,hB2.trans (hb3.mono hB2.size)⟩
   case measure=>simp [intOf];omega
  ·obtain rfl:j=xs.length:=by omega
   go_wp2
   go_ret
   rw [← hFe.out];exact ⟨rfl,hbl⟩
end
section
open Go.RowKit Go.Deep
set_option maxRecDepth 4000
set_option maxHeartbeats 4800000
variable {aA:List Int} {bA bB bC bD bE:Int} {cA:Bool} {dA dB:LL} {qA:List Int×Bool} {rA:Sum Unit (List Int)} {gA gB:ByteArray} {hA hB:List (Int×Int×ByteArray)} {jA:(List (Int×Int×ByteArray))×LL}
def H1 (a0:List Int) (u0:Nat):Option (Ctl Nat (Ctl Unit Int)) :=
 cond (decide ((u0:Int)<(a0.length:Int)))
 ((a0[u0]?).bind fun x10 =>
 cond (x10 !=0)
  (some (Ctl.out (Ctl.out (u0:Int))))
  (og (u0+1<4611686018427387904) <|
  some (Ctl.next (u0+1))))
 (some (Ctl.out (Ctl.next ())))
def Jn (a0:List Int):Option Int :=
 Ce (Aq (fun s_:Nat=>H1 a0 s_) 4611686018427387904 0) fun _ =>
some (a0.length:Int)
theorem Rd (h:Jn aA=some bA):cK 120 [tI aA] (A7 bA):=by
 exact cO Tryz.func120 (Ae (sqC h (fun _=>sT [(0,tI aA)] []) (fun _ h hk2=>Ae (Ad (lpF h (fun u0=>sT [(0,tI aA),(5,tI aA),(6,an aA.length),(7,an u0)] []) (Aj []) (fun n_ u0 c_ h hn4=>Ae (Ab (kQ h (fun _ h=>skW (Ab (Ad (Ab (Aa 8 (rsT 1 (riH .int h fun x10 _ h=>rsT 3 (rnW (Ae (kQ h (fun _ h=>Ae (Ac (br_ (tr_ (tr_ (br_ (tr_ (have h:=jO h hn4;(have h:=jO h hk2;jS h))))))))) fun _ h=>Aw (bn_ (tn_ (wr_ (Aa 12 (raH h fun h=>rsT 1 (Ap (tn_ (jL [])))))))))))))))))) fun _ h=>lxT (have h:=jO h hn4;jC []))))))) fun _ h=>Ae (Ac (jS h))))
def L1 (a0:List Int):Option Bool :=
 (Jn a0).bind fun y3 =>
some (y3==(a0.length:Int))
theorem W8 (h:L1 aA=some cA):cK 122 [tI aA] (Ai cA):=by
 exact cO Tryz.func122 (Ae (Ab (Aa 8 (rsT 1 (rcH h Rd fun y3 h=>rsT 4 (rnW (Ac (jS h))))))))
def Dd (a1:LL) (a0:Int) (u0:Nat) (u1 u2:List Int):Option (Ctl (Nat×List Int×List Int) (List Int×List Int)) :=
 cond (decide ((u0:Int)<(a1.length:Int)))
 ((a1[u0]?).bind fun x13 =>
 (Jn x13).bind fun y15 =>
 (Dn u1 y15).bind fun x16 =>
 og (u2.length+1<=1073741824/\(u2.length+1)*8<=140737488355328) <|
 (Ep a0 u1 (wI (0 - x16)) x13).bind fun y19 =>
 og (y19.length=u1.length) <|
 og (u0+1<4611686018427387904) <|
 some (Ctl.next (u0+1,y19,u2++([x16]))))
 (some (Ctl.out (u1,u2)))
def Hf (a0:Int) (a1:LL) (a2:List Int):Option (List Int×Bool) :=
 (Hs a2).bind fun y3 =>
(Aq (fun s_:Nat×List Int×List Int=>Dd a1 a0 s_.1 s_.2.1 s_.2.2) 4611686018427387904 (0,y3,[])).bind fun (u0,u1) =>
(L1 u0).bind fun y23 =>
some (u1,y23)
def Pg (r:List Int×Bool):RV:=⟨true,[(false,[.new 3 .int r.1]),(false,[.sc (.bool r.2)])]⟩
theorem Pm (h:Hf bA dA aA=some qA):cK 109 [ai bA,tS dA,tI aA] (Pg qA):=by
 refine cO Tryz.func109 (Ae (Ab (Aa 6 (rsT 1 (rcH h Px fun y3 h=>rsT 1 (rnW (Ae (sqF h (fun (u1,u2)=>sT [(8,oI 0 1 u1.length),(9,oI 1 1 u2.length)] [(oi 0 1,.arr 3 .int u1),(oi 1 1,.arr 3 .int u2)]) ?_ ?_))))))))
 ·intro _ h;refine Ae (Ad (lpF h (fun (u4,u0,u3)=>sT [(0,ai bA),(8,oI 0 1 u0.length),(9,oI 1 1 u3.length),(16,tS dA),(17,an dA.length),(18,an u4)] [(oi 0 1,.arr 3 .int u0),(oi 1 1,.arr 3 .int u3)]) (Aj [(oi 0 1,oi 224 4),(oi 1 1,oi 15 6)]) ?_));rintro n_ ⟨u4,u0,u3⟩ c_ h hn7;refine Ae (Ab (kQ h (fun _ h=>skW (Ab (Ad (Ab (Aa 6 (riH sI h fun x13 _ h=>rsT 2 (rnW (Ab (Aa 12 (rsT 2 (rcH h Rd fun y15 h=>?_))))))))))) fun _ h=>lxT (have h:=jO h hn7;jE [])));obtain ⟨x16,f16,h⟩:=Am h;obtain ⟨p16,b16,e16⟩:=A5 f16;refine rs0 (.elt (oi 0 1) y15.toNat 0) (zo (t:=.int) (o:=oi 0 1) (len:=u0.length) (k:=.i64) (m:=y15) p16 (An e16)) (zE (oi 0 1) e16 (rsT 1 (rnW (Ab (Aa 17 (rsB 3 ?_))))));obtain ⟨g18,h⟩:=Au h;refine zB (oi 1 1) (oi 29 14) u3 (x16) g18 (rsT 1 (rnW (Aa 23 (rsT 5 (rcM h [(oi 0 0,oi 0 1)] [ai bA,oI 0 1 u0.length,ai (wI (0 - x16)),tI x13] (fun h=>Mz h rfl) ⟨kr,trivial⟩ (aR kr) (Bq kr kr ⟨Bw kr,trivial⟩) fun y19 h=>Ap (bn_ (tn_ (wr_ (Aa 25 ?_)))))))));obtain ⟨g20,h⟩:=Au h;obtain ⟨g21,h⟩:=Au h;refine zA g21 (rsT 1 (Ap (tn_ ?_)));obtain rfl:=zj h;exact jLw hn7 ((wL 8 (g20.symm:u0.length=y19.length)).trans (Aj [(oi 1 1,oi 1 15)]))
 rintro ⟨u1,u2⟩ h;exact Ab (Aa 7 (rsT 2 (rcG h [oI 0 1 u1.length] W8 (Gy (Qc (e:=3) kr rfl) Sc) fun y23 h=>rsT 2 (rnW (Ac (jR h [oI 1 1 u2.length,.bool y23] (Hi rfl (Dg kr rfl) (Hi rfl zl Gq))))))))
def H7 (a0 u1 u2:Int) (u0:LL) (a2:List Int):Option Bool :=
 (Hf a0 u0 a2).bind fun y3 =>
some y3.2
theorem T4 (h:H7 bA bB bC dA aA=some cA):cK 86 [ai bA,.agg [ai bB,ai bC,tS dA],tI aA] (Ai cA):=by
 exact cO Tryz.func86 (Ae (Ab (Aa 13 (rsT 4 (rcH h Pm fun y3 h=>rsT 5 (rnW (Ae (Ac (jS h)))))))))
def Fb (u1:LL) (a0 u2 u3:Int) (u4:LL) (u0:Nat):Option (Ctl Nat (Ctl Unit (Sum Unit (List Int)))) :=
 cond (decide ((u0:Int)<(u1.length:Int)))
 ((u1[u0]?).bind fun x10 =>
 (H7 a0 u2 u3 u4 x10).bind fun y12 =>
 cond (!y12)
  (some (Ctl.out (Ctl.out (.inr x10))))
  (og (u0+1<4611686018427387904) <|
  some (Ctl.next (u0+1))))
 (some (Ctl.out (Ctl.next ())))
def Fr (a0 u0 u1:Int) (u2:LL) (u4 u5:Int) (u3:LL):Option (Sum Unit (List Int)) :=
 Ce (Aq (fun s_:Nat=>Fb u3 a0 u0 u1 u2 s_) 4611686018427387904 0) fun _ =>
some (.inl ())
def T7:Sum Unit (List Int)->RV
 | .inl _=>⟨false,[(false,[.sc .nils])]⟩
 | .inr r=>⟨false,[(false,[.imm (tI r)])]⟩
theorem Nr (h:Fr bA bB bC dA bD bE dB=some rA):cK 56 [ai bA,.agg [ai bB,ai bC,tS dA],.agg [ai bD,ai bE,tS dB]] (T7 rA):=by
 exact Abb kr Tryz.func56 (Ei kr) (fun nz_=>[ai bA,.agg [ai bB,ai bC,.ftr nz_ sI dA],.agg [ai bD,ai bE,.ftr nz_ sI dB]]) (n:=23) kr (fun _=>by simp) (fun _=>⟨_,_,rfl,⟨rfl,rfl⟩,⟨_,_,rfl,⟨_,rfl,⟨_,_,rfl,⟨rfl,rfl⟩,⟨_,_,rfl,⟨rfl,rfl⟩,⟨_,_,rfl,rfl,rfl⟩⟩⟩⟩,⟨_,_,rfl,⟨_,rfl,⟨_,_,rfl,⟨rfl,rfl⟩,⟨_,_,rfl,⟨rfl,rfl⟩,⟨_,_,rfl,rfl,rfl⟩⟩⟩⟩,rfl⟩⟩⟩) (tl:=fun nz_=>[(0,ai bA),(1,.agg [ai bB,ai bC,.ftr nz_ sI dA]),(2,.agg [ai bD,ai bE,.ftr nz_ sI dB])]) (fun _=>rfl) fun zn_ nz_ hz_=>Ae (sqC h (fun _=>sT [] []) (fun _ h hk2=>Ae (Ad (lpF h (fun u6=>sT [(0,ai bA),(4,.box (oi 0 1) 0),(10,.ftr nz_ sI dB),(11,an dB.length),(12,an u6)] [(oi 0 1,.cells 40 [ai bB,ai bC,.ftr nz_ sI dA])]) (Aj [(oi 0 1,oi 4 1)]) (fun n_ u6 c_ h hn4=>Ae (Ab (kQ h (fun _ h=>skW (Ab (Ad (Ab (Aa 6 (riH sI h fun x10 _ h=>rsT 2 (rnW (Ab (Aa 11 (rsT 3 (rcH h (fun h=>Vo (T4 h)) fun y12 h=>rsT 1 (rnW (kQ h (fun _ h=>Ae (Ac (br_ (tr_ (tr_ (br_ (tr_ (have h:=jO h hn4;(have h:=jO h hk2;jZ h [(false,[.ftr nz_ .int x10])] (L4 (Me .ftr) L3)))))))))) fun _ h=>Aw (bn_ (tn_ (wr_ (Aa 13 (raH h fun h=>rsT 1 (Ap (tn_ (jL []))))))))))))))))))))) fun _ h=>lxT (have h:=jO h hn4;jC []))))))) fun _ h=>Ae (Ac (jZ h [(false,[.nils])] (L4 Rj L3))))
def Bz (a0:Int) (u4:ByteArray) (u9:List (Int×Int×ByteArray)) (u0 u1:Int) (u5:LL) (u6:ByteArray) (ua:List (Int×Int×ByteArray)) (u2 u3:Int) (u7:LL):Option Bool :=
 (cond (u4.toList==u6.toList)
  (cond (u0==u2)
   (cond (u1==u3)
    ((Fr a0 u0 u1 u5 u2 u3 u7).bind fun y6 =>
    (Sum.elim (fun z6_0 =>
    some true) (fun z6_1 =>
    og (z6_1.length≠0) <|
    some false)) y6)
    (some false))
   (some false))
  (some false)).bind fun u8 =>
some u8
theorem Kz (h:Bz bA gA hA bB bC dA gB hB bD bE dB=some cA):cK 27 [ai bA,.agg [.str gA,.tree Y6 hA,ai bB,ai bC,tS dA],.agg [.str gB,.tree Y6 hB,ai bD,ai bE,tS dB]] (Ai cA):=by
 refine cO Tryz.func27 (Ae (sqF h (fun ua=>sT [(6,.bool ua)] []) ?_ fun ua h=>Ac (jS h)));intro _ h;refine Aa 37 (rsT 6 (kR h 12 (fun _ h=>rsT 9 (kR h 21 (fun _ h=>rsT 9 ?_) fun _ h=>rsT 18 (Ap (tn_ (jE []))))) fun _ h=>rsT 27 (Ap (tn_ (jE [])))));rcases Ax h with ⟨q5,h⟩|⟨q5,h⟩
 ·obtain ⟨y6,h6,h⟩:=Am h;rcases y6 with z6_0|z6_1
  ·(try simp only [Sum.elim_inl,Sum.elim_inr] at h)
   exact rq 30 q5 (rsT 5 (Ail .nils [] [ai bA,.agg [ai bB,ai bC,tS dA],.agg [ai bD,ai bE,tS dB]] _ (caps:=[]) (Uz kr) (Nr h6) kr (rsT 3 (Ap (tn_ (jE []))))))
  (try simp only [Sum.elim_inl,Sum.elim_inr] at h)
  refine rq 30 q5 (rsT 5 (Ail (tI z6_1) [] [ai bA,.agg [ai bB,ai bC,tS dA],.agg [ai bD,ai bE,tS dB]] _ (caps:=[]) (Uz kr) (Nr h6) kr (rsT 3 (Ap (tn_ ?_)))));obtain ⟨g7,h⟩:=Au h;obtain rfl:=zj h;exact (Wk (p:=true) (n:=z6_1.length) 6 kr g7).trans ((Wk (p:=true) (n:=z6_1.length) 37 kr g7).trans ((Wk (p:=true) (n:=z6_1.length) 38 kr g7).trans (Aj [])))
 exact rq 30 q5 (rsT 9 (Ap (tn_ (jE []))))
def Bf (a0:List (Int×Int×ByteArray)):Option (List (Int×Int×ByteArray)) :=
 og (0+a0.length<=1073741824/\(0+a0.length)*32<=140737488355328) <|
some a0
theorem Gp (h:Bf hA=some hB):cK 87 [.tree Y6 hA] (Np hB):=by
 refine cO Tryz.func87 (Ae (Ab (Ae (Afa (p:=true) (n:=hA.length) kr ?_ ?_))))
 ·intro hz_;obtain rfl:hA=[]:=List.length_eq_zero_iff.1 (hz_ rfl)
  replace h:=Apr (some []:Option (List (Int×Int×ByteArray))) h (by (try unfold Bf);simp [og])
  exact Ae (Ac (tr_ (jR h [.nils] (Hi rfl (Aa0 rfl) Gq))))
 intro _;refine skW (Ab (Aa 8 (rsB 2 ?_)));obtain ⟨g6,h⟩:=Au h;exact rs2 (.own (oi 5 6) Y6 0 hA.length) (oi 5 4) (oi 5 6) (.arr 94 Y6 hA) (Qn (t:=Y6) (t':=Y6) (xs:=[]) (ys:=hA) (zs:=hA) (j:=oi 5 4) (len:=0) (c:=.tree Y6 hA) kr kr rfl kr Ra rfl g6) (rsT 1 (rnW (Ac (jR h [.own (oi 5 6) Y6 0 hA.length] (Hi rfl (Dg kr rfl) Gq)))))
def Jr (u0:List (Int×Int×ByteArray)):Option (List (Int×Int×ByteArray)) :=
 (Bf u0).bind fun y3 =>
some y3
theorem Sn (h:Jr hA=some hB):cK 57 [.agg [.tree Y6 hA]] (Oi hB):=by
 exact cO Tryz.func57 (Ae (Ab (Aa 8 (rsT 2 (rcH h Gp fun y3 h=>rsB 2 (rnW (Ac (jR h [.agg [.own (oi 80 5) Y6 0 y3.length]] (N9 (Cr (Dg kr rfl) Pt) Gq)))))))))
def Bv (u2:ByteArray) (u0:List (Int×Int×ByteArray)) (u3 u4:Int) (u1:LL):Option ((List (Int×Int×ByteArray))×LL) :=
 (Jr u0).bind fun y4 =>
(Gu u1).bind fun y6 =>
some (y4,y6)
theorem Nu (h:Bv gA hA bA bB dA=some jA):Gj Tryz.prog Tab 28 [.agg [.str gA,.tree Y6 hA,ai bA,ai bB,tS dA]] [] (.agg [.str gA,.own (oi 1 1) Y6 0 jA.1.length,ai bA,ai bB,oS 2 1 jA.2.length]) [(oi 0 1,.cells 42 [.str gA,.own (oi 1 1) Y6 0 jA.1.length,ai bA,ai bB,oS 2 1 jA.2.length]),(oi 1 1,.arr 94 Y6 jA.1),(oi 2 1,.mat 87 (oi 3 1) .int jA.2),(oi 3 1,.pool 3 .int jA.2)]:=by
 refine Dh kr Tryz.func28 (Ei kr) (n:=14) kr (by simp) rfl kr trivial ⟨trivial,⟨trivial,⟨⟨3,.tail _ (.tail _ (.tail _ (.head _)))⟩,⟨trivial,trivial⟩⟩⟩⟩ (Ae (Ab (Aa 8 (rsT 2 (rcH h Sn fun y4 h=>rsB 2 (rnW (Ab (Aa 15 (rsT 3 (rcM h [] [tS dA] Ol trivial (aR kr) (Bq kr kr trivial) fun y6 h=>rsB 3 (rnW (Ae (Ac ?_)))))))))))));obtain rfl:=zj h;exact Jm [.agg [.str gA,.own (oi 1 1) Y6 0 y4.length,ai bA,ai bB,oS 2 1 y6.length]] (Aj (tl:=[(2,.box (oi 0 1) 0)]) (g:=2) [(oi 0 1,oi 2 2),(oi 1 1,oi 80 5),(oi 2 1,oi 160 11),(oi 3 1,oi 161 11)])
end


section
open Go.RowKit Go.Deep
set_option maxRecDepth 4000
set_option maxHeartbeats 4800000
variable {aA aB:List Int} {bA bB bC bD bE:Int} {dA dB:LL} {cA:Bool} {gA gB:ByteArray} {hA hB:List (Int×Int×ByteArray)} {sA:Int×Int×LL} {tA:ByteArray×(List (Int×Int×ByteArray))×Int×Int×LL} {pA:List (ByteArray×(List (Int×Int×ByteArray))×Int×Int×LL)} {uA:(List (ByteArray×(List (Int×Int×ByteArray))×Int×Int×LL))×Bool}
def F6 (a0:List Int) (u0:Nat):Option (Ctl Nat Nat) :=
 (cond (decide ((u0:Int)<(a0.length:Int)))
  ((a0[u0]?).bind fun x8 =>
  some (x8==0))
  (some false)).bind fun u1 =>
cond u1
 (og (u0+1<4611686018427387904) <|
 some (Ctl.next (u0+1)))
 (some (Ctl.out u0))
def I9 (a0:List Int):Option Int :=
 (Aq (fun s_:Nat=>F6 a0 s_) 4611686018427387904 0).bind fun u0 =>
some (u0:Int)
theorem Wu (h:I9 aA=some bA):cK 116 [tI aA] (A7 bA):=by
 refine cO Tryz.func116 (Ae (Ae (sqF h (fun u1=>sT [(3,an u1)] []) ?_ fun u1 h=>Ae (Ac (jS h)))));intro _ h;refine Ad (lpF h (fun u0=>sT [(0,tI aA),(3,an u0)] []) (Aj []) ?_);intro n_ u0 c_ h hn4;refine Ab (sqF h (fun u2=>sT [(0,tI aA),(3,an u0),(14,.bool u2)] []) ?_ fun u2 h=>kQ h (fun _ h=>skW (Ad (Aa 5 (rsT 1 (raH h fun h=>rsT 1 (Ap (bn_ (tn_ (jL []))))))))) fun _ h=>lxT (have h:=jO h hn4;jE []));intro _ h;refine Aa 13 (rsT 5 ?_);rcases Ax h with ⟨q7,h⟩|⟨q7,h⟩
 ·exact rq 8 q7 (rsT 2 (riH .int h fun x8 _ h=>rsT 3 (Ap (tn_ (jE [])))))
 exact rq 8 q7 (rsT 6 (Ap (tn_ (jE []))))
def Ef (a0:LL) (a1:List Int) (u0:Nat) (u1:List Int):Option (Ctl (Nat×List Int) (List Int)) :=
 cond (decide ((u0:Int)<(a0.length:Int)))
 ((a0[u0]?).bind fun x11 =>
 (I9 x11).bind fun y12 =>
 (Dn a1 y12).bind fun x13 =>
 og (u1.length+1<=1073741824/\(u1.length+1)*8<=140737488355328) <|
 og (u0+1<4611686018427387904) <|
 some (Ctl.next (u0+1,u1++([x13]))))
 (some (Ctl.out u1))
def G7 (a0:LL) (a1:List Int):Option (List Int) :=
 (Aq (fun s_:Nat×List Int=>Ef a0 a1 s_.1 s_.2) 4611686018427387904 (0,[])).bind fun u0 =>
some u0
theorem Ss (h:G7 dA aA=some aB):cK 97 [tS dA,tI aA] (Fq aB):=by
 refine cO Tryz.func97 (Ae (Ae (sqF h (fun u0=>sT [(5,oI 0 1 u0.length)] [(oi 0 1,.arr 3 .int u0)]) ?_ fun u0 h=>Ae (Ac (jR h [oI 0 1 u0.length] (Hi rfl (Dg kr rfl) Gq))))));intro _ h;refine Ae (Ad (lpF h (fun (u2,u1)=>sT [(1,tI aA),(5,oI 0 1 u1.length),(8,tS dA),(9,an dA.length),(10,an u2)] [(oi 0 1,.arr 3 .int u1)]) ((Ahy 5 3 .int rfl kr).trans (Aj [(oi 0 1,oi 5 6)])) ?_));rintro n_ ⟨u2,u1⟩ c_ h hn5;refine Ae (Ab (kQ h (fun _ h=>skW (Ab (Ad (Ab (Aa 6 (riH sI h fun x11 _ h=>rsT 2 (rnW (Aa 15 (rsT 3 (rcH h Wu fun y12 h=>?_)))))))))) fun _ h=>lxT (have h:=jO h hn5;jE [])));obtain ⟨x13,f13,h⟩:=Am h;obtain ⟨p13,b13,e13⟩:=A5 f13;refine rs0 (.telt none .int x13 0) (zi (t:=.int) (xs:=aA) (k:=.i64) (m:=y12) p13 e13) (rsB 2 ?_);obtain ⟨g14,h⟩:=Au h;exact zB (oi 0 1) (oi 20 12) u1 (x13) g14 (rsT 1 (Ap (bn_ (tn_ (wr_ (Aa 17 (raH h fun h=>rsT 1 (Ap (tn_ (jL [(oi 0 1,oi 0 13)]))))))))))
def Gx (x12 a3:List Int) (u2:Nat) (a0:Int) (u0:Nat) (u1:List Int):Option (Ctl (Nat×List Int) (List Int)) :=
 cond (decide ((u0:Int)<(x12.length:Int)))
 ((x12[u0]?).bind fun x20 =>
 (u1[u0]?).bind fun x21 =>
 (a3[u2]?).bind fun x22 =>
 og (a0≠0) <|
 og (u0+1<4611686018427387904) <|
 some (Ctl.next (u0+1,u1.set u0 (Int.tmod (wI (x21+wI (x22*x20))) a0))))
 (some (Ctl.out u1))
def G6 (a2:LL) (a3:List Int) (a0:Int) (u0:Nat) (u1:List Int):Option (Ctl (Nat×List Int) (List Int)) :=
 cond (decide ((u0:Int)<(a2.length:Int)))
 (((a2[u0]?).bind fun x12 =>
  Aq (fun s_:Nat×List Int=>Gx x12 a3 u0 a0 s_.1 s_.2) 4611686018427387904 (0,u1)).bind fun u2 =>
 og (u0+1<4611686018427387904) <|
 some (Ctl.next (u0+1,u2)))
 (some (Ctl.out u1))
def J4 (a0 a1:Int) (a2:LL) (a3:List Int):Option (List Int) :=
 og (0<=a1/\a1<=a1/\a1<=1073741824/\(8:Int)*a1<=140737488355328) <|
(Aq (fun s_:Nat×List Int=>G6 a2 a3 a0 s_.1 s_.2) 4611686018427387904 (0,List.replicate a1.toNat (0:Int))).bind fun u0 =>
some u0
theorem Xs (h:J4 bA bB dA aA=some aB):cK 96 [ai bA,ai bB,tS dA,tI aA] (Fq aB):=by
 refine cO Tryz.func96 (Ae (Ab (Aa 5 (rsT 1 ?_))));obtain ⟨g3,h⟩:=Au h;refine rs1 (oI 15 3 bB.toNat) (oi 15 3) (.arr 3 .int (List.replicate bB.toNat (0:Int))) (Ad9 (t:=.int) (k:=.i64) (k':=.i64) (m:=bB) (m':=bB) kr kr g3 rfl) (rsT 1 (rnW (sqF h (fun u3=>sT [(9,oI 0 1 u3.length)] [(oi 0 1,.arr 3 .int u3)]) ?_ fun u3 h=>Ae (Ac (jR h [oI 0 1 u3.length] (Hi rfl (Dg kr rfl) Gq))))));intro _ h;refine Ae (Ad (lpF h (fun (u1,u4)=>sT [(0,ai bA),(3,tI aA),(9,oI 0 1 u4.length),(16,tS dA),(17,an dA.length),(18,an u1)] [(oi 0 1,.arr 3 .int u4)]) ((wL 9 (List.length_replicate.symm:bB.toNat=(List.replicate bB.toNat (0:Int)).length)).trans (Aj [(oi 0 1,oi 15 3)])) ?_));rintro n_ ⟨u1,u4⟩ c_ h hn6;refine Ae (Ab (kQ h (fun _ h=>skW (sqF h (fun u5=>sT [(0,ai bA),(3,tI aA),(9,oI 0 1 u5.length),(16,tS dA),(17,an dA.length),(18,an u1)] [(oi 0 1,.arr 3 .int u5)]) ?_ fun u5 h=>Aa 4 (raH h fun h=>rsT 1 (Ap (tn_ (jL [])))))) fun _ h=>lxT (have h:=jO h hn6;jE [])));intro _ h;refine Ad (Ab (Aa 8 (rsT 1 (riH sI h fun x12 _ h=>rsT 3 (rnW (Ae (Ad (lpF h (fun (u2,u0)=>sT [(0,ai bA),(3,tI aA),(9,oI 0 1 u0.length),(10,an u1),(16,tS dA),(17,an dA.length),(18,an u1),(23,tI x12),(24,an x12.length),(25,an u2)] [(oi 0 1,.arr 3 .int u0)]) (Aj []) ?_))))))));rintro n_ ⟨u2,u0⟩ c_ h hn14;refine Ae (Ab (kQ h (fun _ h=>skW (Ab (Ad (Ab (Aa 8 (rsT 1 (riH .int h fun x20 _ h=>rsT 3 (rnW (As 25 (dz0 (oI 0 1 u0.length) (dz0 (an u2) (dz0 (oI 0 1 u0.length) (dz0 (an u2) ?_))))))))))))) fun _ h=>Eu (te_ (te_ (be_ (bn_ (tn_ (have h:=jO h hn14;jE []))))))));obtain ⟨x21,e21,h⟩:=Am h;refine dzO (oi 0 1) .int u0.length (An e21) (dzE (oi 0 1) e21 (dz0 (tI aA) (dz0 (an u1) (diH .int h fun x22 _ h=>dsT 5 ?_))));obtain ⟨g23,h⟩:=Au h;refine ds0 (ai (Int.tmod (wI (x21+wI (x22*x20))) bA)) (Nm (k:=.i64) (a:=wI (x21+wI (x22*x20))) (b:=bA) kr kr g23) (dzO (oi 0 1) .int u0.length (An e21) (dzS (oi 0 1) (Int.tmod (wI (x21+wI (x22*x20))) bA) e21 (D6 (A0 kr) (bn_ (tn_ (wr_ (Aa 27 (raH h fun h=>rsT 1 (Ap (tn_ ?_))))))))));obtain rfl:=zj h;exact jLw hn14 ((wL 9 (((rfl:u0.length=u0.length).trans List.length_set.symm):u0.length=(u0.set u2 (Int.tmod (wI (x21+wI (x22*x20))) bA)).length)).trans (Aj []))
def J9 (a0:Int) (a1:LL) (a2:List Int):Option Bool :=
 (G7 a1 a2).bind fun y3 =>
(J4 a0 (a2.length:Int) a1 y3).bind fun y4 =>
(Gt y4 a2).bind fun y5 =>
some y5
theorem Xm (h:J9 bA dA aA=some cA):cK 72 [ai bA,tS dA,tI aA] (Ai cA):=by
 exact cO Tryz.func72 (Ae (Ab (Aa 13 (rsT 6 (rcH h Ss fun y3 h=>rcG h [ai bA,an aA.length,tS dA,oI 208 8 y3.length] Xs (Gy kr (Gy kr (Gy kr (Gy (Qc (e:=3) kr rfl) Sc)))) fun y4 h=>rsT 1 (rcG h [oI 224 9 y4.length,tI aA] Oa (Gy (Qc (e:=3) kr rfl) (Gy kr Sc)) fun y5 h=>rsT 1 (rnW (Ac (jS h)))))))))
def Do (u1:LL) (a0:Int) (u2:LL) (u0:Nat):Option (Ctl Nat (Ctl Unit Bool)) :=
 cond (decide ((u0:Int)<(u1.length:Int)))
 ((u1[u0]?).bind fun x10 =>
 (J9 a0 u2 x10).bind fun y12 =>
 cond (!y12)
  (some (Ctl.out (Ctl.out false)))
  (og (u0+1<4611686018427387904) <|
  some (Ctl.next (u0+1))))
 (some (Ctl.out (Ctl.next ())))
def E3 (a0 u2 u3:Int) (u0:LL) (u4 u5:Int) (u1:LL):Option Bool :=
 Ce (Aq (fun s_:Nat=>Do u1 a0 u0 s_) 4611686018427387904 0) fun _ =>
some true
theorem Qt (h:E3 bA bB bC dA bD bE dB=some cA):cK 46 [ai bA,.agg [ai bB,ai bC,tS dA],.agg [ai bD,ai bE,tS dB]] (Ai cA):=by
 exact cO Tryz.func46 (Ae (sqC h (fun _=>sT [] []) (fun _ h hk2=>Ae (Ad (lpF h (fun u6=>sT [(0,ai bA),(4,.box (oi 0 1) 0),(10,tS dB),(11,an dB.length),(12,an u6)] [(oi 0 1,.cells 40 [ai bB,ai bC,tS dA])]) (Aj [(oi 0 1,oi 4 1)]) (fun n_ u6 c_ h hn4=>Ae (Ab (kQ h (fun _ h=>skW (Ab (Ad (Ab (Aa 6 (riH sI h fun x10 _ h=>rsT 2 (rnW (Ab (Aa 12 (rsT 4 (rcH h Xm fun y12 h=>rsT 1 (rnW (kQ h (fun _ h=>Ae (Ac (br_ (tr_ (tr_ (br_ (tr_ (have h:=jO h hn4;(have h:=jO h hk2;jS h))))))))) fun _ h=>Aw (bn_ (tn_ (wr_ (Aa 14 (raH h fun h=>rsT 1 (Ap (tn_ (jL []))))))))))))))))))))) fun _ h=>lxT (have h:=jO h hn4;jC []))))))) fun _ h=>Ae (Ac (jS h))))
def Gb (a0:Int) (u4:ByteArray) (u9:List (Int×Int×ByteArray)) (u0 u1:Int) (u5:LL) (u6:ByteArray) (ua:List (Int×Int×ByteArray)) (u2 u3:Int) (u7:LL):Option Bool :=
 (cond (u4.toList==u6.toList)
  (cond (u0==u2)
   (cond (u1==u3)
    ((E3 a0 u0 u1 u5 u2 u3 u7).bind fun y6 =>
    some y6)
    (some false))
   (some false))
  (some false)).bind fun u8 =>
some u8
theorem Xo (h:Gb bA gA hA bB bC dA gB hB bD bE dB=some cA):cK 21 [ai bA,.agg [.str gA,.tree Y6 hA,ai bB,ai bC,tS dA],.agg [.str gB,.tree Y6 hB,ai bD,ai bE,tS dB]] (Ai cA):=by
 refine cO Tryz.func21 (Ae (sqF h (fun ua=>sT [(6,.bool ua)] []) ?_ fun ua h=>Ac (jS h)));intro _ h;refine Aa 36 (rsT 6 (kR h 12 (fun _ h=>rsT 9 (kR h 21 (fun _ h=>rsT 9 ?_) fun _ h=>rsT 17 (Ap (tn_ (jE []))))) fun _ h=>rsT 26 (Ap (tn_ (jE [])))));rcases Ax h with ⟨q5,h⟩|⟨q5,h⟩
 ·exact rq 30 q5 (rsT 5 (rcH h Qt fun y6 h=>rsT 2 (Ap (tn_ (jE [])))))
 exact rq 30 q5 (rsT 8 (Ap (tn_ (jE []))))
def M7 (a0:List (Int×Int×ByteArray)):Option (List (Int×Int×ByteArray)) :=
 og (0+a0.length<=1073741824/\(0+a0.length)*32<=140737488355328) <|
some a0
def Xx (r:List (Int×Int×ByteArray)):RV:=⟨false,[(true,[.frz (.tree Y6 r)])]⟩
theorem Xy (h:M7 hA=some hB):cK 47 [.tree Y6 hA] (Xx hB):=by
 refine cZ Tryz.func47 fun zn_ nz_ hz_=>Ae (Ab (Aa 7 (rsB 2 ?_)))
 obtain ⟨g3,h⟩:=Au h;exact rs2 (.own (oi 3 4) Y6 0 hA.length) (oi 3 2) (oi 3 4) (.arr 94 Y6 hA) (Qn (t:=Y6) (t':=Y6) (xs:=[]) (ys:=hA) (zs:=hA) (j:=oi 3 2) (len:=0) (c:=.tree Y6 hA) kr kr rfl kr Ra rfl g3) (rsB 2 (rnW (Ac (jZ h [(true,[.own (oi 3 4) Y6 0 hA.length])] (Ae6 (J5 (Me (.arr (e:=94) kr rfl)) Afe) L3)))))
def F1 (a0:LL) (u0:Nat) (u1:LL):Option (Ctl (Nat×LL) (LL)) :=
 cond (decide ((u0:Int)<(a0.length:Int)))
 ((a0[u0]?).bind fun x11 =>
 (H2 x11).bind fun y12 =>
 og (u1.length+1<=1073741824/\(u1.length+1)*24<=140737488355328) <|
 og (u0+1<4611686018427387904) <|
 some (Ctl.next (u0+1,u1++[y12])))
 (some (Ctl.out u1))
def Ix (a0:LL):Option (LL) :=
 (Aq (fun s_:Nat×LL=>F1 a0 s_.1 s_.2) 4611686018427387904 (0,([]:LL))).bind fun u0 =>
some u0
def Wg (r:LL):RV:=⟨false,[(false,[.frz (tS r)])]⟩
theorem Xi (h:Ix dA=some dB):cK 73 [tS dA] (Wg dB):=by
 refine cZ Tryz.func73 fun zn_ nz_ hz_=>Ae (Ae (sqF h (fun u1=>sT [(3,oS 0 1 u1.length)] [(oi 0 1,.mat 87 (oi 1 1) .int u1),(oi 1 1,.pool 3 .int u1)]) ?_ fun u1 h=>Ae (Ac (jZ h [(false,[oS 0 1 u1.length])] (L4 (Me (.mat (p:=oi 1 1) (e1:=87) (e:=3) kr (Yl kr) rfl)) L3)))))
 intro _ h;refine Ae (Ad (lpF h (fun (u2,u0)=>sT [(3,oS 0 1 u0.length),(6,tS dA),(7,an dA.length),(8,an u2)] [(oi 0 1,.mat 87 (oi 1 1) .int u0),(oi 1 1,.pool 3 .int u0)]) ((Vd 3 87 sI kr).trans ((U0 (e1:=87) (n:=0) 9000 (oi 3 6) 3 .int kr kr rfl kr kr).trans (Aj [(oi 0 1,oi 3 6),(oi 1 1,oi 9000 7)]))) ?_));rintro n_ ⟨u2,u0⟩ c_ h hn5;refine Ae (Ab (kQ h (fun _ h=>skW (Ab (Ad (Ab (Aa 6 (riH sI h fun x11 _ h=>rsT 2 (rnW (Aa 12 (rsT 2 (rcH h (fun h=>Vo (Pp h)) fun y12 h=>Aha (oS 15 9 1) (oi 15 9) (.vec 87 1 1 ([oI 224 8 y12.length])) trivial (Zb kr) ?_)))))))))) fun _ h=>lxT (have h:=jO h hn5;jE [])));obtain ⟨g13,h⟩:=Au h;refine zV (oi 0 1) (oi 15 9) (oi 1 1) u0 [oI 224 8 y12.length] g13 (rsT 1 (Ap (bn_ (tn_ ⟨_,S6 (e1:=87) (e:=3) (u:=.int) (n:=u0.length+1) (len:=y12.length) (row:=y12) (ys:=y12) (xss:=u0) 9000 (oi 0 10) (oi 1 1) (oi 224 8) kr kr rfl kr kr (Agc rfl) (Aft rfl) kr kr kr,Aa 15 (raH h fun h=>rsT 1 (Ap (tn_ ?_)))⟩))));obtain rfl:=zj h;exact jLw hn5 ((wL 3 ((by simp):u0.length+1=(u0++[y12]).length)).trans (Aj [(oi 0 1,oi 0 10),(oi 1 1,oi 9000 12)]))
def Ng (u0 u1:Int) (u2:LL):Option (Int×Int×LL) :=
 (Ix u2).bind fun y3 =>
some (u0,u1,y3)
def Xw (r:Int×Int×LL):RV:=⟨false,[(true,[.sc (.int .i64 r.1),.sc (.int .i64 r.2.1),.frz (tS r.2.2)])]⟩
theorem X2 (h:Ng bA bB dA=some sA):cK 48 [.agg [ai bA,ai bB,tS dA]] (Xw sA):=by
 exact cZ Tryz.func48 fun zn_ nz_ hz_=>Ae (Ab (As 12 (dsT 6 (dcH h (fun h=>Agq hz_ (Xi h)) fun y3 h=>dz0 (.agg [ai bA,ai bB,.ftr nz_ sI y3]) (Pi (oi 2 2) (oi 2 2) (.cells 40 [ai bA,ai bB,.ftr nz_ sI y3]) kr (D6 (A0 kr) (tn_ (wr_ (Ac (jZ h [(true,[ai bA,ai bB,.ftr nz_ sI y3])] (Ae6 (J5 Rj (J5 Rj (J5 (Me .ftr) Afe))) L3)))))))))))
def Jb (u0:ByteArray) (u1:List (Int×Int×ByteArray)) (u2 u3:Int) (u4:LL):Option (ByteArray×(List (Int×Int×ByteArray))×Int×Int×LL) :=
 (M7 u1).bind fun y3 =>
(Ng u2 u3 u4).bind fun y4 =>
some (u0,y3,y4.1,y4.2.1,y4.2.2)
def Vy (r:ByteArray×(List (Int×Int×ByteArray))×Int×Int×LL):RV:=⟨false,[(true,[.sc (.str r.1),.frz (.tree Y6 r.2.1),.sc (.int .i64 r.2.2.1),.sc (.int .i64 r.2.2.2.1),.frz (tS r.2.2.2.2)])]⟩
theorem Vi (h:Jb gA hA bA bB dA=some tA):cK 22 [.agg [.str gA,.tree Y6 hA,ai bA,ai bB,tS dA]] (Vy tA):=by
 exact cZ Tryz.func22 fun zn_ nz_ hz_=>Ae (Ab (As 14 (dsT 5 (dcH h (fun h=>Agq hz_ (Xy h)) fun y3 h=>dz0 (.box (oi 1 1) 2) (dzl (.agg [ai bA,ai bB,tS dA]) (dcH h (fun h=>Agq hz_ (X2 h)) fun y4 h=>dz0 (.agg [.str gA,.ftr nz_ Y6 y3,ai y4.1,ai y4.2.1,.ftr nz_ sI y4.2.2]) (Pi (oi 2 2) (oi 2 2) (.cells 42 [.str gA,.ftr nz_ Y6 y3,ai y4.1,ai y4.2.1,.ftr nz_ sI y4.2.2]) kr (D6 (A0 kr) (tn_ (wr_ (Ac (jZ h [(true,[.str gA,.ftr nz_ Y6 y3,ai y4.1,ai y4.2.1,.ftr nz_ sI y4.2.2])] (Ae6 (J5 Rj (J5 (Me .ftr) (J5 Rj (J5 Rj (J5 (Me .ftr) Afe))))) L3)))))))))))))
def Bx (a1:List (ByteArray×(List (Int×Int×ByteArray))×Int×Int×LL)) (y11:Int) (u2:ByteArray) (u3:List (Int×Int×ByteArray)) (u4 u5:Int) (u6:LL) (u0:Nat) (u1:List (ByteArray×(List (Int×Int×ByteArray))×Int×Int×LL)):Option (Ctl (Nat×(List (ByteArray×(List (Int×Int×ByteArray))×Int×Int×LL))) (List (ByteArray×(List (Int×Int×ByteArray))×Int×Int×LL))) :=
 cond (decide ((u0:Int)<(a1.length:Int)))
 ((a1[u0]?).bind fun x28 =>
 (cond ((u0:Int)==y11)
   (some (u2,u3,u4,u5,u6))
   (some (x28.1,x28.2.1,x28.2.2.1,x28.2.2.2.1,x28.2.2.2.2))).bind fun (u7,u8,u9,ua,ub) =>
 (Jb u7 u8 u9 ua ub).bind fun y32 =>
 og (u1.length+1<=1073741824/\(u1.length+1)*80<=140737488355328) <|
 og (u0+1<4611686018427387904) <|
 some (Ctl.next (u0+1,u1++[y32])))
 (some (Ctl.out u1))
def Cl (a0:Int) (a1:List (ByteArray×(List (Int×Int×ByteArray))×Int×Int×LL)) (u0:ByteArray) (u1:List (Int×Int×ByteArray)) (u2 u3:Int) (u4:LL):Option ((List (ByteArray×(List (Int×Int×ByteArray))×Int×Int×LL))×Bool) :=
 ((Ka a0 a1).bind fun y4 =>
 cond (!y4)
  (some true)
  ((Cc a0 u0 u1 u2 u3 u4).bind fun y6 =>
  some (!y6))).bind fun u5 =>
cond u5
 (some ([],false))
 ((Dz a1).bind fun y10 =>
 (Bl y10 u0).bind fun y11 =>
 (cond (decide (y11<0))
   (some true)
   ((Dn a1 y11).bind fun x15 =>
   (Gb a0 x15.1 x15.2.1 x15.2.2.1 x15.2.2.2.1 x15.2.2.2.2 u0 u1 u2 u3 u4).bind fun y16 =>
   some (!y16))).bind fun u6 =>
 cond u6
  (some ([],false))
  ((Aq (fun s_:Nat×(List (ByteArray×(List (Int×Int×ByteArray))×Int×Int×LL))=>Bx a1 y11 u0 u1 u2 u3 u4 s_.1 s_.2) 4611686018427387904 (0,[])).bind fun u7 =>
  some (u7,true)))
def Md (r:(List (ByteArray×(List (Int×Int×ByteArray))×Int×Int×LL))×Bool):RV:=⟨true,[(false,[.frz (.tree Yd r.1)]),(false,[.sc (.bool r.2)])]⟩
theorem Ls (h:Cl bA pA gA hA bB bC dA=some uA):cK 6 [ai bA,.tree Yd pA,.agg [.str gA,.tree Y6 hA,ai bB,ai bC,tS dA]] (Md uA):=by
 refine cZ Tryz.func6 fun zn_ nz_ hz_=>Ae (Ab (sqF h (fun u8=>sT [(0,ai bA),(1,.tree Yd pA),(5,.box (oi 0 1) 0),(21,.bool u8)] [(oi 0 1,.cells 42 [.str gA,.tree Y6 hA,ai bB,ai bC,tS dA])]) ?_ ?_))
 ·intro _ h;refine Aa 14 (rsT 2 (rcH h (fun h=>Vo (Xt h)) fun y4 h=>rsT 2 ?_));rcases Ax h with ⟨q5,h⟩|⟨q5,h⟩
  ·exact rq 16 q5 (rsT 5 (Ap (tn_ (jE [(oi 0 1,oi 5 1)]))))
  exact rq 16 q5 (rsT 2 (rcH h (fun h=>Vo (Ot h)) fun y6 h=>rsT 2 (Ap (tn_ (jE [(oi 0 1,oi 5 1)])))))
 intro u8 h;refine kQ h (fun _ h=>Ae (Ac (tr_ (jZ h [(false,[.nils]),(false,[.bool false])] (L4 (Me (t:=Yd) (xs:=[]) .nil) (L4 Rj L3)))))) fun _ h=>skW (Ab (As 8 (dz0 (.tree Yd pA) ?_)))
 obtain ⟨y10,h10,h⟩:=Am h;refine Ai2 (.tree Yb y10) [] [.tree Yd pA] _ (caps:=[]) trivial (Vo (Lj h10)) kr (dz0 (.box (oi 0 1) 0) (dzl (.str gA) (dcH h (fun h=>Vo (Kq h)) fun y11 h=>dz0 (ai y11) (D6 (A0 kr) (tn_ (wr_ (Ab (sqF h (fun u9=>sT [(1,.tree Yd pA),(5,.box (oi 0 1) 0),(8,ai y11),(38,.bool u9)] [(oi 0 1,.cells 42 [.str gA,.tree Y6 hA,ai bB,ai bC,tS dA])]) ?_ ?_))))))))
 ·intro _ h;refine As 20 (dsT 3 ?_);rcases Ax h with ⟨q14,h⟩|⟨q14,h⟩
  ·exact dq 29 q14 (dsT 9 (D6 (A0 kr) (tn_ (jE []))))
  refine dq 29 q14 (dsT 3 ?_);obtain ⟨x15,f15,h⟩:=Am h;obtain ⟨p15,b15,e15⟩:=A5 f15;exact ds0 (.telt none Yd x15 0) (zi (t:=Yd) (xs:=pA) (k:=.i64) (m:=y11) p15 e15) (dz0 (.agg [.str x15.1,.tree Y6 x15.2.1,ai x15.2.2.1,ai x15.2.2.2.1,tS x15.2.2.2.2]) (dzl (.agg [.str gA,.tree Y6 hA,ai bB,ai bC,tS dA]) (dcH h (fun h=>Vo (Xo h)) fun y16 h=>dz0 (.bool (!y16)) (dz0 (.bool (!y16)) (D6 (A0 kr) (tn_ (jE [])))))))
 intro u9 h;refine kQ h (fun _ h=>Ae (Ac (tr_ (jZ h [(false,[.nils]),(false,[.bool false])] (L4 (Me (t:=Yd) (xs:=[]) .nil) (L4 Rj L3)))))) fun _ h=>skW (Ae (sqF h (fun u6=>sT [(9,.own (oi 0 1) Yd 0 u6.length)] [(oi 0 1,.tv 42 (some nz_) Yd u6)]) ?_ fun u6 h=>Ae (Ac (jZ h [(false,[.own (oi 0 1) Yd 0 u6.length]),(false,[.bool true])] (L4 (Me (.tv (e:=42) kr rfl)) (L4 Rj L3))))))
 intro _ h;refine Ae (Ad (lpF h (fun (u7,u0)=>sT [(5,.box (oi 0 1) 0),(8,ai y11),(9,.own (oi 1 1) Yd 0 u0.length),(39,.tree Yd pA),(40,an pA.length),(41,an u7)] [(oi 0 1,.cells 42 [.str gA,.tree Y6 hA,ai bB,ai bC,tS dA]),(oi 1 1,.tv 42 (some nz_) Yd u0)]) ((Tk 9 42 (some nz_) Yd kr).trans (Aj [(oi 1 1,oi 9 6)])) ?_));rintro n_ ⟨u7,u0⟩ c_ h hn22;refine Ae (Ab (kQ h (fun _ h=>skW (Ab (Ad (Ab (Aa 9 (rsT 1 (riH Yd h fun x28 _ h=>rsB 4 (rnW (sqF h (fun (ua,ub,uc,ud,ue)=>sT [(5,.box (oi 0 1) 0),(8,ai y11),(9,.own (oi 1 1) Yd 0 u0.length),(11,.box (oi 2 1) 0),(39,.tree Yd pA),(40,an pA.length),(41,an u7)] [(oi 0 1,.cells 42 [.str gA,.tree Y6 hA,ai bB,ai bC,tS dA]),(oi 1 1,.tv 42 (some nz_) Yd u0),(oi 2 1,.cells 42 [.str ua,.tree Y6 ub,ai uc,ai ud,tS ue])]) (fun _ h=>Ae (kQ h (fun _ h=>Aa 14 (rsB 2 (Ap (tn_ (jE [(oi 2 1,oi 11 6)]))))) fun _ h=>Aw (tn_ (jE [(oi 2 1,oi 11 6)])))) ?_))))))))) fun _ h=>lxT (have h:=jO h hn22;jE [(oi 0 1,oi 1 1)])));rintro ⟨ua,ub,uc,ud,ue⟩ h;refine Aa 8 (rsT 2 (rcH h (fun h=>Agq hz_ (Vi h)) fun y32 h=>Aha (.own (oi 53 5) Yd 0 1) (oi 53 5) (.vec 42 5 1 (tvC (some nz_) Yd ([y32]))) trivial (Zb kr) ?_));obtain ⟨g33,h⟩:=Au h;refine rs2 (.own (oi 1 6) Yd 0 (u0.length+1)) (oi 1 1) (oi 1 6) (.vec 42 5 (u0.length+1) (tvC (some nz_) Yd (u0++[y32]))) (Agm (t':=Yd) (t:=Yd) (t2:=Yd) (e2:=42) (q:=oi 53 5) (m:=some nz_) (z:=y32) (o:=oi 1 1) (xs:=u0) (len:=u0.length) kr kr rfl kr kr g33) (rsT 1 (Ap (bn_ (tn_ ⟨_,Ac6 (N:=u0.length+1) (oi 1 6) 42 (some nz_) Yd (u0++[y32]) kr (by simp),Aa 10 (raH h fun h=>rsT 1 (Ap (tn_ ?_)))⟩))));obtain rfl:=zj h;exact jLw hn22 ((wL 9 ((by simp):u0.length+1=(u0++[y32]).length)).trans (Aj [(oi 1 1,oi 1 6)]))
end


section
def Cg (p a b:Int):Prop:=∃ q,a=b+p*q
section
variable {p a b c d:Int}
theorem Cg.rf:Cg p a a:=⟨0,by simp⟩
theorem Cg.of (h:a=b):Cg p a b:=h▸Cg.rf
theorem Cg.symm (h:Cg p a b):Cg p b a:=by obtain ⟨q,rfl⟩:=h;exact ⟨-q,by grind⟩
theorem Cg.trans (h1:Cg p a b) (h2:Cg p b c):Cg p a c:=by obtain ⟨q,rfl⟩:=h1;obtain ⟨r,rfl⟩:=h2;exact ⟨q+r,by grind⟩
theorem Cg.add (h1:Cg p a b) (h2:Cg p c d):Cg p (a+c) (b+d):=by obtain ⟨q,rfl⟩:=h1;obtain ⟨r,rfl⟩:=h2;exact ⟨q+r,by grind⟩
theorem Cg.sub (h1:Cg p a b) (h2:Cg p c d):Cg p (a - c) (b - d):=by obtain ⟨q,rfl⟩:=h1;obtain ⟨r,rfl⟩:=h2;exact ⟨q - r,by grind⟩
theorem Cg.mul (h1:Cg p a b) (h2:Cg p c d):Cg p (a*c) (b*d):=by obtain ⟨q,rfl⟩:=h1;obtain ⟨r,rfl⟩:=h2;exact ⟨q*d+b*r+p*q*r,by grind⟩
theorem Cg.md:Cg p (a % p) a:=⟨-(a / p),by have:=Int.emod_add_mul_ediv a p;grind⟩
theorem Cg.to (h:Cg p a b):a % p=b % p:=by obtain ⟨q,rfl⟩:=h;rw [Int.add_mul_emod_self_left]
theorem Cg.fr (h:a % p=b % p):Cg p a b:=(Cg.md.symm.trans (Cg.of h)).trans Cg.md
theorem Cg.eq (h:Cg p a b) (h1:0<=a/\a<p) (h2:0<=b/\b<p):a=b:=by
 have:=h.to
 rwa [Int.emod_eq_of_lt h1.1 h1.2,Int.emod_eq_of_lt h2.1 h2.2] at this
end
def sm:Nat->(Nat->Int)->Int
 | 0,_=>0
 | k+1,f=>sm k f+f k
section
variable {p:Int} {f g:Nat->Int}
theorem Ank:∀ {k:Nat},(∀ i,i<k->Cg p (f i) (g i))->Cg p (sm k f) (sm k g)
 | 0,_=>Cg.rf
 | k+1,h=>(Ank fun i hi=>h i oM).add (h k oM)
theorem Afh:∀ {k:Nat},(∀ i,i<k->f i=0)->sm k f=0
 | 0,_=>rfl
 | k+1,h=>by unfold sm;rw [Afh fun i hi=>h i oM,h k oM];rfl
end
def en (m:List (List Int)) (i j:Nat):Int:=(m.getD i []).getD j 0
inductive H9 (p:Int) (n:Nat) (m:List (List Int)):(Nat->Int)->Prop
 | zero {f:Nat->Int}:(∀ j,j<n->Cg p (f j) 0)->H9 p n m f
 | add {f g:Nat->Int} (i:Nat) (k:Int):i<m.length->H9 p n m g->(∀ j,j<n->Cg p (f j) (g j+k*en m i j))->H9 p n m f
section
variable {p:Int} {n:Nat} {m m':List (List Int)} {f g:Nat->Int}
theorem Fn {i:Nat} (h:i<m.length):H9 p n m (en m i):=.add i 1 h (.zero (f:=fun _=>0) fun _ _=>Cg.rf) fun _ _=>Cg.of oM
theorem E8 (h:H9 p n m f) (hf:∀ j,j<n->Cg p (g j) (f j)):H9 p n m g:=by
 cases h with
 | zero h=>exact .zero fun j hj=>(hf j hj).trans (h j hj)
 | add i k hi h hs=>exact .add i k hi h fun j hj=>(hf j hj).trans (hs j hj)
theorem Xa (h:H9 p n m f) (hg:H9 p n m g):H9 p n m (fun j=>f j+g j):=by
 induction hg with
 | zero h0=>exact E8 h fun j hj=>(Cg.rf.add (h0 j hj)).trans (Cg.of oM)
 | add i k hi _ hs ih=>exact .add i k hi ih fun j hj=>(Cg.rf.add (hs j hj)).trans (Cg.of oM)
theorem Om (a:Int) (h:H9 p n m f):H9 p n m (fun j=>a*f j):=by
 induction h with
 | zero h0=>exact .zero fun j hj=>(Cg.rf.mul (h0 j hj)).trans (Cg.of oM)
 | add i k hi _ hs ih=>exact .add i (a*k) hi ih fun j hj=>(Cg.rf.mul (hs j hj)).trans (Cg.of (by grind))
theorem O4 (h:∀ i,i<m.length->H9 p n m' (en m i)) (hf:H9 p n m f):H9 p n m' f:=by
 induction hf with
 | zero h0=>exact .zero h0
 | add i k hi _ hs ih=>exact E8 (Xa ih (Om k (h i hi))) hs
structure Ny (c r:Nat) (m:List (List Int)) (pv:Nat->Nat):Prop where
 rl:r<=m.length
 lt:∀ i,i<r->pv i<c
 mono:∀ i k,i<k->k<r->pv i<pv k
 low:∀ i,i<r->∀ j,j<pv i->en m i j=0
 one:∀ i,i<r->en m i (pv i)=1
 zero:∀ i,i<r->∀ k,k≠i->en m k (pv i)=0
 tail:∀ i,r<=i->∀ j,j<c->en m i j=0
theorem Ql {i j:Nat} (h:m.length<=i):en m i j=0:=by
 unfold en;rw [gDg (l:=m),List.getElem?_eq_none h];rfl
theorem Ano {i j:Nat} (hp:2<=p) (hm:MatW p n m):0<=en m i j/\en m i j<p:=by
 unfold en;by_cases h:i<m.length
 ·have hx:=hm _ (Gr h);generalize m.getD i []=x at hx;by_cases hj:j<x.length
  ·rw [Bi (gEg hj)];exact hx.2 _ (List.getElem_mem hj)
  ·rw [gDg,List.getElem?_eq_none oM];exact ⟨by simp,by simp;omega⟩
 ·rw [gDg (l:=m),List.getElem?_eq_none oM];simp;omega
theorem Aoo {r k i j:Nat} (hr:r<m.length) (hk:k<m.length):en (Ib m r k) i j=if i=k then en m r j else if i=r then en m k j else en m i j:=by
 unfold en Ib;by_cases h1:i=k
 ·subst h1;rw [if_pos rfl,gDg (l:=List.set _ _ _),List.getElem?_set_self (by rw [List.length_set];exact hk)];rfl
 ·rw [if_neg h1,gDg (l:=List.set _ _ _),List.getElem?_set_ne (Ne.symm h1)];by_cases h2:i=r
  ·subst h2;rw [if_pos rfl,List.getElem?_set_self hr];rfl
  ·rw [if_neg h2,List.getElem?_set_ne (Ne.symm h2),← gDg]
theorem Aib {k:Int} {x:List Int} {j:Nat}:(Cz p k x).getD j 0=x.getD j 0*k % p:=by
 unfold Cz;rw [gDg,List.getElem?_map,gDg];cases x[j]? with
 | none=>simp
 | some a=>rfl
theorem Yu {k:Int} {x v:List Int} {j:Nat} (h:x.length=v.length):(B8 p k x v).getD j 0=(x.getD j 0 - k*v.getD j 0) % p:=by
 unfold B8;rw [gDg,List.getElem?_zipWith,gDg,gDg];by_cases hj:j<x.length
 ·rw [gEg hj,gEg (show j<v.length by omega)];rfl
 ·rw [List.getElem?_eq_none (show x.length<=j by omega),List.getElem?_eq_none (show v.length<=j by omega)];simp
theorem Ao3 {c r i j:Nat} {pr:List Int} (hm:MatW p n m) (hpr:pr.length=n) (hi:i<m.length):en (Ey p c r pr m) i j=if i=r then pr.getD j 0 else (en m i j - en m i c*pr.getD j 0) % p:=by
 have hx:=hm _ (List.getElem_mem hi);unfold en Ey;rw [gDg (l:=List.mapIdx _ _),List.getElem?_mapIdx,gEg hi,Bi (gEg hi)];show (if i=r then pr else B8 p (m[i].getD c 0) m[i] pr).getD j 0=_;split
 ·rfl
 ·rw [Yu (by rw [hx.1,hpr])]
def Agg (p:Int):Prop:=∀ a,1<=a->a<p->a*K0 p a % p=1
theorem Alj {c:Nat} {s:Nat×List (List Int)} {pv:Nat->Nat} (hp:2<=p) (hI:Agg p) (hm:MatW p n s.2) (h:Ny c s.1 s.2 pv) :
  (∃ pv',Ny (c+1) (gjS p c s).1 (gjS p c s).2 pv')/\(∀ f,H9 p n (gjS p c s).2 f↔H9 p n s.2 f):=by
 obtain ⟨r,m⟩:=s;dsimp only at hm h;unfold gjS;dsimp only;by_cases h1:r<m.length
 ·rw [if_pos h1];by_cases h2:Cj m c r=m.length
  ·rw [if_pos h2];refine ⟨⟨pv,h.rl,fun i hi=>Nat.lt_succ_of_lt (h.lt i hi),h.mono,h.low,h.one,h.zero,fun i hi j hj=>?_⟩,fun f=>Iff.rfl⟩;dsimp only at hi ⊢;by_cases hjc:j<c
   ·exact h.tail i hi j hjc
   ·obtain rfl:j=c:=by omega
    by_cases hil:i<m.length
    ·exact Wl hi oM h.rl
    ·exact Ql oM
  ·rw [if_neg h2];have hk1:=Oq (c:=c) h.rl;have hk2:=Aov m c r;have hnz:=Uw h2 h.rl;have hkl:Cj m c r<m.length:=by omega
   have hx:=hm _ (Gr hkl);have ha:en m (Cj m c r) c≠0:=hnz;generalize hk:Cj m c r=k at *;have hab:=Ano (i:=k) (j:=c) hp hm;have hinv:=hI (en m k c) oM hab.2;generalize hv:K0 p (en m k c)=v at hinv
   have hpr:∀ j,(prV p c (m.getD k [])).getD j 0=en m k j*v % p:=fun j=>by
    unfold prV;rw [Aib];show _*K0 p (en m k c) % p=_;rw [hv];rfl
   have hprl:(prV p c (m.getD k [])).length=n:=(Ow hp hx.1).1;generalize prV p c (m.getD k [])=pr at *;have hW:=Uh hm h1 hkl;have hWl:=M8 m r k;have hWe:∀ i j,en (Ib m r k) i j=if i=k then en m r j else if i=r then en m k j else en m i j:=fun i j=>Aoo h1 hkl
   generalize Ib m r k=W at *
   have hE:∀ i j,i<m.length->en (Ey p c r pr W) i j=if i=r then en m k j*v % p else (en W i j - en W i c*(en m k j*v % p)) % p:=fun i j hi=>by
    rw [Ao3 hW hprl oM,hpr]
   have hEl:=Ll p c r pr W
   have h0:∀ i j,i<m.length->i≠r->en m k j=0->en (Ey p c r pr W) i j=en W i j:=fun i j hi hne h0=>by
    have hb:=Ano (i:=i) (j:=j) hp hW;rw [hE i j hi,if_neg hne,h0,Int.zero_mul,Int.zero_emod,Int.mul_zero,Int.sub_zero,Int.emod_eq_of_lt hb.1 hb.2]
   have hkj:∀ j,j<c->en m k j=0:=fun j hj=>h.tail k oM j hj
   have hkp:∀ i,i<r->en m k (pv i)=0:=fun i hi=>h.zero i hi k oM
   have hcc:en m k c*v % p=1:=hinv
   have hsp:∀ i j,i<m.length->i≠r->Cg p (en (Ey p c r pr W) i j) (en W i j+ -en W i c*en (Ey p c r pr W) r j):=fun i j hi hne=>by
    rw [hE i j hi,if_neg hne,hE r j h1,if_pos rfl];exact Cg.md.trans (Cg.of (by grind))
   have hWr:∀ j,Cg p (en W r j) (en m k c*en (Ey p c r pr W) r j):=fun j=>by
    have e:en W r j=en m k j:=by
     rw [hWe];by_cases e:r=k
     ·rw [if_pos e,e]
     ·rw [if_neg e,if_pos rfl]
    rw [e,hE r j h1,if_pos rfl];obtain ⟨q,hq⟩:=Cg.fr (p:=p) (a:=en m k c*v) (b:=1) (by rw [hcc];exact (Int.emod_eq_of_lt oM oM).symm);refine Cg.trans ⟨-q*en m k j,?_⟩ (Cg.rf.mul Cg.md.symm)
    grind
   refine ⟨⟨fun i=>if i=r then c else pv i,?_,?_,?_,?_,?_,?_,?_⟩,fun f=>⟨O4 fun i hi=>?_,O4 fun i hi=>?_⟩⟩
   ·show r+1<=(Ey p c r pr W).length;omega
   ·intro i hi
    try dsimp only
    split
    ·omega
    ·have:=h.lt i oM;omega
   ·intro i l hil hl
    try dsimp only
    rw [if_neg (by omega:i≠r)];split
    ·exact h.lt i oM
    ·exact h.mono i l hil oM
   ·intro i hi j hj;dsimp only at hj ⊢;by_cases e:i=r
    ·subst e;rw [if_pos rfl] at hj;rw [hE i j h1,if_pos rfl,hkj j hj,Int.zero_mul,Int.zero_emod]
    ·rw [if_neg e] at hj;have:=h.lt i oM;rw [h0 i j oM e (hkj j oM),hWe,if_neg oM,if_neg e];exact h.low i oM j hj
   ·intro i hi;dsimp only;by_cases e:i=r
    ·subst e;rw [if_pos rfl,hE i c h1,if_pos rfl,hcc]
    ·rw [if_neg e,h0 i (pv i) oM e (hkp i oM),hWe,if_neg oM,if_neg e];exact h.one i oM
   ·intro i hi l hl;dsimp only;by_cases hll:l<m.length
    ·by_cases e:i=r
     ·subst e;rw [if_pos rfl,hE l c hll,if_neg hl,hcc,Int.mul_one,Int.sub_self,Int.zero_emod]
     ·rw [if_neg e];by_cases e2:l=r
      ·subst e2;rw [hE l (pv i) hll,if_pos rfl,hkp i oM,Int.zero_mul,Int.zero_emod]
      ·rw [h0 l (pv i) hll e2 (hkp i oM),hWe];by_cases e3:l=k
       ·rw [if_pos e3];exact h.zero i oM r oM
       ·rw [if_neg e3,if_neg e2];exact h.zero i oM l hl
    ·exact Ql oM
   ·intro i hi j hj;dsimp only at hi ⊢;by_cases hil:i<m.length
    ·by_cases e:j=c
     ·subst e;rw [hE i j hil,if_neg oM,hcc,Int.mul_one,Int.sub_self,Int.zero_emod]
     ·rw [h0 i j hil oM (hkj j oM),hWe];by_cases e3:i=k
      ·rw [if_pos e3];exact h.tail r (Nat.le_refl r) j oM
      ·rw [if_neg e3,if_neg oM];exact h.tail i oM j oM
    ·exact Ql oM
   ·have hi:i<m.length:=by dsimp only at hi;omega
    have hrow:∀ t,t<m.length->H9 p n m (en W t):=fun t ht=>by
     by_cases e1:t=k
     ·exact E8 (Fn h1) fun j hj=>Cg.of (by rw [hWe,if_pos e1])
     ·by_cases e2:t=r
      ·exact E8 (Fn hkl) fun j hj=>Cg.of (by rw [hWe,if_neg e1,if_pos e2])
      ·exact E8 (Fn ht) fun j hj=>Cg.of (by rw [hWe,if_neg e1,if_neg e2])
    have hr':H9 p n m (en (Ey p c r pr W) r):=E8 (Om v (Fn hkl)) fun j hj=>by
     rw [hE r j h1,if_pos rfl];exact Cg.md.trans (Cg.of (by grind))
    by_cases e:i=r
    ·subst e;exact hr'
    ·exact E8 (Xa (hrow i hi) (Om (-en W i c) hr')) fun j hj=>hsp i j hi e
   ·have hE':∀ t,t<m.length->H9 p n (Ey p c r pr W) (en W t):=fun t ht=>by
     by_cases e:t=r
     ·subst e;exact E8 (Om (en m k c) (Fn (i:=t) oM)) fun j hj=>hWr j
     ·refine E8 (Xa (Fn (i:=t) oM) (Om (en W t c) (Fn (i:=r) oM))) fun j hj=>?_
      exact Cg.symm (((hsp t j ht e).add Cg.rf).trans (Cg.of (by grind)))
    by_cases e1:i=r
    ·subst e1;exact E8 (hE' k hkl) fun j hj=>Cg.of (by rw [hWe,if_pos rfl])
    ·by_cases e2:i=k
     ·subst e2;exact E8 (hE' r h1) fun j hj=>Cg.of (by rw [hWe,if_neg oM,if_pos rfl])
     ·exact E8 (hE' i hi) fun j hj=>Cg.of (by rw [hWe,if_neg e2,if_neg e1])
 ·rw [if_neg h1];have:=h.rl;refine ⟨⟨pv,h.rl,fun i hi=>Nat.lt_succ_of_lt (h.lt i hi),h.mono,h.low,h.one,h.zero,fun i hi j hj=>Ql (m:=m) (by dsimp only at hi;omega)⟩,fun f=>Iff.rfl⟩
theorem Agj {m:List (List Int)} (hp:2<=p) (hI:Agg p) (hm:MatW p n m):∀ c,(∃ pv,Ny c (gjT p m c).1 (gjT p m c).2 pv)/\∀ f,H9 p n (gjT p m c).2 f↔H9 p n m f
 | 0=>⟨⟨fun _=>0,Nat.zero_le _,by intro i hi;simp [gjT] at hi,by intro i k _ hk;simp [gjT] at hk,by intro i hi;simp [gjT] at hi,by intro i hi;simp [gjT] at hi,by intro i hi;simp [gjT] at hi,fun _ _ j hj=>by omega⟩,fun _=>Iff.rfl⟩
 | c+1=>by
  obtain ⟨⟨pv,h1⟩,h2⟩:=Agj hp hI hm c;obtain ⟨h3,h4⟩:=Alj hp hI (L6 hp hm c).1 h1;exact ⟨h3,fun f=>(h4 f).trans (h2 f)⟩
theorem Ri {r i j:Nat} (h:i<r):en (m.take r) i j=en m i j:=by
 unfold en;rw [gDg (l:=m.take r),List.getElem?_take,if_pos h,← gDg]
theorem Abe {k:Nat} (hk:k<=n) (h:H9 p n m f):H9 p k m f:=by
 induction h with
 | zero h0=>exact .zero fun j hj=>h0 j oM
 | add i k hi _ hs ih=>exact .add i k hi ih fun j hj=>hs j oM
theorem Alb {c:Nat} (hp:2<=p) (hI:Agg p) (hm:MatW p n m) (hc:c<=n):(∃ pv,Ny c (gj p c m).length (gj p c m) pv)/\∀ f,H9 p c (gj p c m) f↔H9 p c m f:=by
 obtain ⟨⟨pv,h⟩,h2⟩:=Agj hp hI hm c;have hl:=Afc (n:=c) hp hm;have hrl:=h.rl;refine ⟨⟨pv,Nat.le_refl _,?_,?_,?_,?_,?_,?_⟩,fun f=>Iff.trans (b:=H9 p c (gjT p m c).2 f) ⟨O4 fun i hi=>?_,O4 fun i hi=>?_⟩ ⟨O4 fun i hi=>Abe hc ((h2 _).1 (Fn hi)),O4 fun i hi=>Abe hc ((h2 _).2 (Fn hi))⟩⟩
 ·rw [hl];exact h.lt
 ·rw [hl];exact h.mono
 ·rw [hl];intro i hi j hj;unfold gj;rw [Ri hi];exact h.low i hi j hj
 ·rw [hl];intro i hi;unfold gj;rw [Ri hi];exact h.one i hi
 ·rw [hl];intro i hi k hk;by_cases hkl:k<(gjT p m c).1
  ·unfold gj;rw [Ri hkl];exact h.zero i hi k hk
  ·exact Ql oM
 ·intro i hi j _;exact Ql hi
 ·rw [hl] at hi;exact E8 (Fn (i:=i) oM) fun j hj=>Cg.of (by unfold gj;rw [Ri hi])
 ·by_cases hir:i<(gjT p m c).1
  ·exact E8 (Fn (i:=i) oM) fun j hj=>Cg.of (by unfold gj;rw [Ri hir])
  ·exact .zero fun j hj=>Cg.of (h.tail i oM j hj)
theorem Ani (hp:2<=p) (hI:Agg p) (hm:MatW p n m):(∃ pv,Ny n (gj p n m).length (gj p n m) pv)/\∀ f,H9 p n (gj p n m) f↔H9 p n m f:=Alb hp hI hm (Nat.le_refl n)
end
end
section
def D4 (x:List Int):Nat:=x.findIdx fun a=>a !=0
section
variable {p:Int} {n:Nat} {m m' B:List (List Int)} {o:List Int}
theorem Aku {c r i:Nat} {pv:Nat->Nat} (h:Ny c r m pv) (hm:MatW p n m) (hc:c<=n) (hi:i<r):D4 (m.getD i [])=pv i:=by
 have hl:=h.rl;have hx:=(hm _ (Gr (show i<m.length by omega))).1;have hlt:=h.lt i hi;have e:∀ (j:Nat) (hj:j<(m.getD i []).length),(m.getD i [])[j]=en m i j:=fun j hj=>(Bi (gEg hj)).symm
 unfold D4;refine (List.findIdx_eq (show pv i<(m.getD i []).length by omega)).2 ⟨?_,fun j hj=>?_⟩
 ·rw [e,h.one i hi];rfl
 ·rw [e,h.low i hi j hj];rfl
end
end
section
section
variable {p:Int} {n:Nat} {m m':List (List Int)} {f g:Nat->Int}
end
def lv (R:List (List Int)) (i:Nat):Nat:=D4 (R.getD i [])
section
variable {p:Int} {n:Nat} {R:List (List Int)}
theorem Ag0 {pv:Nat->Nat} (h:Ny n R.length R pv) {w:Nat} (hm:MatW p w R) (hw:n<=w):Ny n R.length R (lv R):=by
 have e:∀ i,i<R.length->lv R i=pv i:=fun i hi=>Aku h hm hw hi
 refine ⟨Nat.le_refl _,fun i hi=>?_,fun i k hik hk=>?_,fun i hi j hj=>?_,fun i hi=>?_,fun i hi k hk=>?_,fun i hi j _=>Ql hi⟩
 ·rw [e i hi];exact h.lt i hi
 ·rw [e i oM,e k hk];exact h.mono i k hik hk
 ·rw [e i hi] at hj;exact h.low i hi j hj
 ·rw [e i hi];exact h.one i hi
 ·rw [e i hi];exact h.zero i hi k hk
end
end
section
section
variable {p:Int} {n:Nat} {m E R F:List (List Int)} {f g u v:Nat->Int}
def P5 (p:Int) (R:List (List Int)) (x:List Int):Nat->List Int
 | 0=>x
 | i+1=>B8 p ((P5 p R x i).getD (lv R i) 0) (P5 p R x i) (R.getD i [])
theorem O0 {x:List Int} (hp:2<=p) (hR:MatW p n R) (hx:VecW p n x):∀ i,i<=R.length->VecW p n (P5 p R x i)
 | 0,_=>hx
 | i+1,hi=>Abl hp (O0 hp hR hx i oM).1 (hR _ (Gr oM)).1
theorem Ai1 {x:List Int} (hp:2<=p) (hR:MatW p n R) (hx:VecW p n x) (h:Ny n R.length R (lv R)):∀ i,i<=R.length->∀ j,j<n->Cg p ((P5 p R x i).getD j 0) (x.getD j 0 - sm i fun t=>x.getD (lv R t) 0*en R t j)
 | 0,_,j,_=>Cg.of (by show _=_ - 0;rw [Int.sub_zero];rfl)
 | i+1,hi,j,hj=>by
  have ih:=Ai1 hp hR hx h i oM
  have hk:Cg p ((P5 p R x i).getD (lv R i) 0) (x.getD (lv R i) 0):=by
   refine (ih _ (h.lt i oM)).trans (Cg.of ?_);rw [Afh fun t ht=>by rw [h.zero i oM t oM];omega];omega
  show Cg p ((B8 p _ _ _).getD j 0) _;rw [Yu (by rw [(O0 hp hR hx i oM).1,(hR _ (Gr (show i<R.length by omega))).1])];refine Cg.md.trans (((ih j hj).sub (hk.mul Cg.rf)).trans (Cg.of ?_));show _=x.getD j 0 - (sm i _+x.getD (lv R i) 0*en R i j);unfold en;omega
-- the equations from behind
end
end
section
section
variable {p:Int} {n:Nat} {m:List (List Int)}
theorem Ak6 (x:List Int) (hx:x.length<=1000):I9 x=some ((D4 x:Nat):Int):=by
 unfold I9;have hle:D4 x<=x.length:=List.findIdx_le_length
 have h:Aq (fun s_:Nat=>F6 x s_) 4611686018427387904 0=some (D4 x):=by
  refine Bo (D4 x) (fun i=>i) oM _ rfl (fun i hi=>?_) ?_
  ·have h0:=List.not_of_lt_findIdx hi;have h1:x[i]'oM=0:=by simpa using h0
   try dsimp only
   unfold F6;rw [Ay oM,cond_true,gEg (show i<x.length by omega),obs,obs,h1,show ((0:Int)==0)=true from rfl,cond_true,Ah oM]
  ·unfold F6;by_cases h:D4 x=x.length
   ·rw [Av oM,cond_false,obs,cond_false]
   ·have h0:=List.findIdx_getElem (w:=show D4 x<x.length by omega);rw [Ay oM,cond_true,gEg (show D4 x<x.length by omega),obs,obs,show ((x[D4 x]'oM)==0)=false from Bool.eq_false_iff.2 (fun e=>bne_iff_ne.1 h0 (beq_iff_eq.1 e)),cond_false]
 rw [h,obs]
theorem Ajd (x:List Int) (hx:x.length<=100000):Jn x=some ((D4 x:Nat):Int):=by
 unfold Jn;have hle:D4 x<=x.length:=List.findIdx_le_length
 have h:Aq (fun s_:Nat=>H1 x s_) 4611686018427387904 0=some (if D4 x=x.length then .next () else .out ((D4 x:Nat):Int)):=by
  refine Bo (D4 x) (fun i=>i) oM _ rfl (fun i hi=>?_) ?_
  ·have h0:=List.not_of_lt_findIdx hi;have h1:x[i]'oM=0:=by simpa using h0
   try dsimp only
   unfold H1;rw [Ay oM,cond_true,gEg (show i<x.length by omega),obs,h1,show ((0:Int) !=0)=false from rfl,cond_false,Ah oM]
  ·unfold H1;by_cases h:D4 x=x.length
   ·rw [Av oM,cond_false,if_pos h]
   ·have h0:(x[D4 x]'oM !=0)=true:=List.findIdx_getElem (w:=show D4 x<x.length by omega);rw [Ay oM,cond_true,gEg (show D4 x<x.length by omega),obs,h0,cond_true,if_neg h]
 rw [h];by_cases h2:D4 x=x.length
 ·rw [if_pos h2];show some _=some _;rw [h2]
 ·rw [if_neg h2];rfl
def spV (p:Int) (n:Nat) (m:List (List Int)) (c:List Int):Nat->List Int
 | 0=>List.replicate n 0
 | i+1=>List.zipWith (fun a x=>(a+c.getD i 0*x) % p) (spV p n m c i) (m.getD i [])
theorem Qm {c:List Int} (hp:2<=p) (hm:MatW p n m):∀ i,i<=m.length->VecW p n (spV p n m c i)
 | 0,_=>⟨by simp [spV],fun a ha=>by obtain rfl:=(List.mem_replicate.1 ha).2;omega⟩
 | i+1,hi=>by
  have h1:=Qm (c:=c) hp hm i oM;have h2:=hm _ (Gr (show i<m.length by omega));refine ⟨by unfold spV;rw [List.length_zipWith,h1.1,h2.1];omega,fun a ha=>?_⟩;obtain ⟨b,d,rfl⟩:=Aem ha;exact Aal hp
theorem Anq {c:List Int} (hp:2<=p) (hm:MatW p n m):∀ i,i<=m.length->∀ j,j<n->Cg p ((spV p n m c i).getD j 0) (sm i fun t=>c.getD t 0*en m t j)
 | 0,_,j,_=>Cg.of (by show (List.replicate n (0:Int)).getD j 0=0;rw [gDg,List.getElem?_replicate];split <;> rfl)
 | i+1,hi,j,hj=>by
  have h1:=Qm (c:=c) hp hm i oM;have h2:=hm _ (Gr (show i<m.length by omega))
  have e:(spV p n m c (i+1)).getD j 0=((spV p n m c i).getD j 0+c.getD i 0*en m i j) % p:=by
   have k1:=(De h1 hj).2.2;have k2:=(De h2 hj).2.2;show (List.zipWith (fun a x=>(a+c.getD i 0*x) % p) (spV p n m c i) (m.getD i [])).getD j 0=_;unfold en;generalize spV p n m c i=X at *;rw [gDg,List.getElem?_zipWith,k1,k2];rfl
  rw [e];exact Cg.md.trans ((Anq hp hm i oM j hj).add Cg.rf)
theorem All {c:List Int} (hp:2<=p/\p<=97) (hm:MatW p n m) (hc:VecW p m.length c) (hn:n<=1000) (hl:m.length<=1000):J4 p (n:Int) m c=some (spV p n m c m.length):=by
 unfold J4;rw [Ah oM,Int.toNat_natCast]
 have key:Aq (fun s_:Nat×List Int=>G6 m c p s_.1 s_.2) 4611686018427387904 (0,List.replicate n 0)=some (spV p n m c m.length):=by
  refine Bo m.length (fun i=>(i,spV p n m c i)) oM _ rfl (fun i hi=>?_) ?_
  ·have h1:=Qm (c:=c) hp.1 hm i oM;have h2:=hm _ (List.getElem_mem hi);have hl1:=h1.1;have hl2:=h2.1;have hcc:=hc.1;have hci:=Nz hc (j:=i) oM
   have hin:Aq (fun s_:Nat×List Int=>Gx m[i] c i p s_.1 s_.2) 4611686018427387904 (0,spV p n m c i)=some (spV p n m c (i+1)):=by
    have hv:=Qm (c:=c) hp.1 hm (i+1) oM;have hvl:=hv.1;refine Aga (y:=spV p n m c (i+1)) oM oM (fun j hj z hz=>?_) ?_
    ·have a1:=Nz h1 hj;have a2:=Nz h2 (j:=j) oM;have a3:=Aao hp hci a2
     try dsimp only
     unfold Gx;rw [Ay oM,cond_true,gEg (show j<m[i].length by omega),obs,hz,obs,gEg (show i<c.length by omega),obs,Ah oM,Ah oM,Bk (n:=c[i]'oM*m[i][j]'oM) oM oM,Bk oM oM,Int.tmod_eq_emod_of_nonneg oM];congr 4;simp only [spV,List.getElem_zipWith,Bi (gEg (show i<c.length by omega)),Bi (m:=m) (gEg hi)]
    ·try dsimp only
     unfold Gx;rw [Av oM,cond_false]
   try dsimp only
   unfold G6;rw [Ay oM,cond_true,gEg hi,obs,hin,obs,Ah oM]
  ·try dsimp only
   unfold G6;rw [Av oM,cond_false]
 rw [key,obs]
def cvV (m:List (List Int)) (x:List Int) (i:Nat):List Int:=(List.range i).map fun t=>x.getD (lv m t) 0
theorem Akp {x:List Int} {i:Nat}:(cvV m x i).length=i:=by simp [cvV]
theorem Amc {x:List Int} {i:Nat}:cvV m x (i+1)=cvV m x i++[x.getD (lv m i) 0]:=by simp [cvV,List.range_succ]
theorem Ann {i:Nat} (hi:i<m.length):D4 m[i]=lv m i:=by unfold lv;rw [Bi (gEg hi)]
theorem Ao1 {x:List Int} (h:Ny n m.length m (lv m)) (hx:VecW p n x):VecW p m.length (cvV m x m.length):=by
 refine ⟨Akp,fun a ha=>?_⟩;obtain ⟨t,ht,rfl⟩:=List.mem_map.1 ha;have:=De hx (h.lt t (List.mem_range.1 ht));exact ⟨this.1,this.2.1⟩
theorem Am7 {x:List Int} {t:Nat} (ht:t<m.length):(cvV m x m.length).getD t 0=x.getD (lv m t) 0:=by
 unfold cvV;rw [gDg,List.getElem?_map,List.getElem?_range ht];rfl
theorem Aed {x:List Int} (hm:MatW p n m) (h:Ny n m.length m (lv m)) (hx:VecW p n x) (hn:n<=1000) (hl:m.length<=1000):G7 m x=some (cvV m x m.length):=by
 unfold G7
 have key:Aq (fun s_:Nat×List Int=>Ef m x s_.1 s_.2) 4611686018427387904 (0,[])=some (cvV m x m.length):=by
  refine Bo m.length (fun i=>(i,cvV m x i)) oM _ rfl (fun i hi=>?_) ?_
  ·have h1:=hm _ (List.getElem_mem hi);have h2:=De hx (h.lt i hi);have h3:=Akp (m:=m) (x:=x) (i:=i)
   try dsimp only
   unfold Ef;rw [Ay oM,cond_true,gEg hi,obs,Ak6 _ (by rw [h1.1];exact hn),obs,Cf oM,Int.toNat_natCast,Ann hi,h2.2.2,obs,Ah oM,Ah oM,Amc]
  ·try dsimp only
   unfold Ef;rw [Av oM,cond_false]
 rw [key];rfl
def Jp (p:Int) (n:Nat) (m:List (List Int)) (x:List Int):Bool:=spV p n m (cvV m x m.length) m.length==x
theorem Al0 {x:List Int} (hp:2<=p/\p<=97) (hm:MatW p n m) (h:Ny n m.length m (lv m)) (hx:VecW p n x) (hn:n<=1000) (hl:m.length<=1000):J9 p m x=some (Jp p n m x):=by
 unfold J9;have hv:=Ao1 h hx;have hs:=Qm (c:=cvV m x m.length) hp.1 hm m.length (Nat.le_refl _);rw [Aed hm h hx hn hl,obs,hx.1,All hp hm hv hn hl,obs,Ade _ _ (by rw [hs.1];omega)];rfl
theorem Ahl {x:List Int} (hx:VecW p n x):(((D4 x:Nat):Int)==((x.length:Nat):Int))=true↔∀ j,j<n->Cg p (x.getD j 0) 0:=by
 rw [beq_iff_eq];constructor
 ·intro e j hj;have e2:D4 x=x.length:=by omega
  have g:=De hx hj;have h0:=List.not_of_lt_findIdx (xs:=x) (p:=fun a=>a !=0) (i:=j) (by show j<D4 x;rw [e2,hx.1];exact hj);have h1:x[j]'(by rw [hx.1];exact hj)=0:=by simpa using h0
  rw [Bi (gEg (show j<x.length by rw [hx.1];exact hj)),h1];exact Cg.rf
 ·intro H
  have e2:D4 x=x.length:=by
   refine List.findIdx_eq_length.2 fun a ha=>?_
   obtain ⟨j,hj,rfl⟩:=List.mem_iff_getElem.1 ha;have hj':j<n:=by rw [← hx.1];exact hj
   have g:=De hx hj';have:=(H j hj').eq ⟨g.1,g.2.1⟩ ⟨by omega,by omega⟩;rw [Bi (gEg hj)] at this;simp [this]
  omega
theorem Af5 {a s:Int}:Cg p (a - s) 0↔Cg p s a:=by
 constructor
 ·intro h;exact (Cg.of oM).trans (((Cg.rf (a:=a)).sub h).trans (Cg.of oM))
 ·intro h;exact ((Cg.rf (a:=a)).sub h).trans (Cg.of oM)
theorem Aoe {x y:List Int} (hx:VecW p n x) (hy:VecW p n y):(x==y)=true↔∀ j,j<n->Cg p (x.getD j 0) (y.getD j 0):=by
 rw [beq_iff_eq];constructor
 ·rintro rfl j _;exact Cg.rf
 ·intro H;refine List.ext_getElem (by rw [hx.1,hy.1]) fun j h1 h2=>?_
  have hj:j<n:=by rw [← hx.1];exact h1
  have g:=De hx hj;have g':=De hy hj;have:=(H j hj).eq ⟨g.1,g.2.1⟩ ⟨g'.1,g'.2.1⟩
  rwa [Bi (gEg h1),Bi (gEg h2)] at this
theorem Aly {x:List Int} (hp:2<=p) (hm:MatW p n m) (h:Ny n m.length m (lv m)) (hx:VecW p n x) :
  (((D4 (P5 p m x m.length):Nat):Int)==(((P5 p m x m.length).length:Nat):Int))=Jp p n m x:=by
 rw [Bool.eq_iff_iff,Ahl (O0 hp hm hx _ (Nat.le_refl _))];unfold Jp;rw [Aoe (Qm hp hm _ (Nat.le_refl _)) hx]
 have key:∀ j,j<n->(Cg p ((P5 p m x m.length).getD j 0) 0↔Cg p ((spV p n m (cvV m x m.length) m.length).getD j 0) (x.getD j 0)):=fun j hj=>by
  have h1:=Ai1 hp hm hx h m.length (Nat.le_refl _) j hj;have h2:=(Anq (c:=cvV m x m.length) hp hm m.length (Nat.le_refl _) j hj).trans (Ank (g:=fun t=>x.getD (lv m t) 0*en m t j) fun t ht=>by rw [Am7 ht];exact Cg.rf);exact ⟨fun h0=>h2.trans ((Af5).1 (h1.symm.trans h0)),fun h0=>h1.trans ((Af5).2 (h2.symm.trans h0))⟩
 exact ⟨fun H j hj=>(key j hj).1 (H j hj),fun H j hj=>(key j hj).2 (H j hj)⟩
theorem Ahi {l r:Int} {x:List Int} (hp:2<=p/\p<=97) (hm:MatW p n m) (h:Ny n m.length m (lv m)) (hx:VecW p n x) (hn:n<=1000) (hl:m.length<=1000):H7 p l r m x=some (Jp p n m x):=by
 unfold H7 Hf;have hxl:=hx.1;rw [Af0 x oM,obs]
 have key:Aq (fun s_:Nat×List Int×List Int=>Dd m p s_.1 s_.2.1 s_.2.2) 4611686018427387904 (0,x,[])=some (P5 p m x m.length,(List.range m.length).map fun t=>(P5 p m x t).getD (lv m t) 0):=by
  refine Bo m.length (fun i=>(i,P5 p m x i,(List.range i).map fun t=>(P5 p m x t).getD (lv m t) 0)) oM _ rfl (fun i hi=>?_) ?_
  ·have h1:=hm _ (List.getElem_mem hi);have hc:=O0 hp.1 hm hx i oM;have hc':=O0 hp.1 hm hx (i+1) oM;have h2:=De hc (h.lt i hi)
   have e:B8 p ((P5 p m x i).getD (lv m i) 0) (P5 p m x i) m[i]=P5 p m x (i+1):=by
    show _=B8 p _ _ (m.getD i []);rw [Bi (m:=m) (gEg hi)]
   try dsimp only
   unfold Dd;rw [Ay oM,cond_true,gEg hi,obs,Ajd _ (by rw [h1.1];omega),obs,Cf oM,Int.toNat_natCast,Ann hi,h2.2.2,obs,Ah (by simp;omega),Ur hp hc h1 oM ⟨h2.1,h2.2.1⟩,obs,e,Ah (by rw [hc.1,hc'.1]),Ah oM,List.range_succ,List.map_append];rfl
  ·try dsimp only
   unfold Dd;rw [Av oM,cond_false]
 have hc:=O0 hp.1 hm hx m.length (Nat.le_refl _);rw [key,obs];dsimp only;unfold L1;rw [Ajd _ (by rw [hc.1];omega),obs,Aly hp.1 hm h hx];rfl
theorem Alh {l r l' r':Int} {b:List (List Int)} (hp:2<=p/\p<=97) (hm:MatW p n m) (h:Ny n m.length m (lv m)) (hb:MatW p n b) (hn:n<=1000) (hl:m.length<=1000) (hl':b.length<=1000):E3 p l r m l' r' b=some (b.all (Jp p n m)):=by
 unfold E3
 have key:Aq (fun s_:Nat=>Do b p m s_) 4611686018427387904 0=some (if b.all (Jp p n m) then Ctl.next () else .out false):=by
  refine D1 b (Jp p n m) _ _ oM (fun i x hx=>?_) ?_
  ·have hi:=An hx;unfold Do;rw [Ay oM,cond_true,hx,obs,Al0 hp hm h (hb x (List.mem_of_getElem? hx)) hn hl,obs,Ah oM];cases Jp p n m x <;> rfl
  ·unfold Do;rw [Av oM,cond_false]
 rw [key,It]
theorem Ami {x:List Int} (hm:MatW p 0 m) (hp:2<=p) (hx:VecW p 0 x):Jp p 0 m x=true:=by
 unfold Jp;rw [beq_iff_eq,List.length_eq_zero_iff.1 (Qm (c:=cvV m x m.length) hp hm m.length (Nat.le_refl _)).1,List.length_eq_zero_iff.1 hx.1]
theorem Aml {l r l' r':Int} {b:List (List Int)} (hp:2<=p/\p<=97) (hm:MatW p n m) (h:Ny n m.length m (lv m)) (hb:MatW p n b) (hn:n<=1000) (hl:m.length<=1000) (hl':b.length<=1000) :
  ∃ z,Fr p l r m l' r' b=some z/\((z=.inl ()/\b.find? (fun x=> !Jp p n m x)=none)∨∃ x:List Int,z=.inr x/\b.find? (fun x=> !Jp p n m x)=some x):=by
 unfold Fr
 have key:∃ c,Aq (fun s_:Nat=>Fb b p l r m s_) 4611686018427387904 0=some c/\((c=Ctl.next ()/\b.find? (fun x=> !Jp p n m x)=none)∨∃ x:List Int,c=Ctl.out (Sum.inr x)/\b.find? (fun x=> !Jp p n m x)=some x):=by
  refine Ee (Post:=fun c=>(c=Ctl.next ()/\b.find? (fun x=> !Jp p n m x)=none)∨∃ x:List Int,c=Ctl.out (Sum.inr x)/\b.find? (fun x=> !Jp p n m x)=some x) b.length (fun i s=>s=i/\(b.take i).find? (fun x=> !Jp p n m x)=none) oM ⟨rfl,by simp⟩ ?_ ?_
  ·rintro i s hi ⟨rfl,hI⟩;have hg:=gEg hi;have hx:=hb _ (List.getElem_mem hi);have e:b.take (s+1)=b.take s++[b[s]]:=by rw [List.take_add_one,hg];rfl
   unfold Fb;rw [Ay oM,cond_true,hg,obs,Ahi hp hm h hx hn hl,obs,Ah oM];cases hh:Jp p n m b[s]
   ·refine .inr ⟨_,rfl,.inr ⟨_,rfl,?_⟩⟩;have e2:b=b.take (s+1)++b.drop (s+1):=(List.take_append_drop _ _).symm
    conv=>lhs;rw [e2,e]
    rw [List.find?_append,List.find?_append,hI];simp [hh]
   ·exact .inl ⟨_,rfl,rfl,by rw [e,List.find?_append,hI];simp [hh]⟩
  ·rintro s ⟨rfl,hI⟩;unfold Fb;rw [Av oM,cond_false];rw [List.take_length] at hI;exact ⟨_,rfl,.inl ⟨rfl,hI⟩⟩
 obtain ⟨c,hc,h1⟩:=key;rw [hc];rcases h1 with ⟨rfl,h1⟩|⟨x,rfl,h1⟩
 ·exact ⟨_,rfl,.inl ⟨rfl,h1⟩⟩
 ·exact ⟨_,rfl,.inr ⟨x,rfl,h1⟩⟩
theorem Ak5 {b:List (List Int)} {x:List Int} (hp:2<=p/\p<=97) (hm:MatW p n m) (hb:MatW p n b) (h:b.find? (fun x=> !Jp p n m x)=some x):VecW p n x/\x.length≠0/\b.all (Jp p n m)=false:=by
 have hx:=hb x (List.mem_of_find?_eq_some h);have hh:=List.find?_some h;have hh:Jp p n m x=false:=by simpa using hh
 refine ⟨hx,fun h0=>?_,?_⟩
 ·have hn0:n=0:=by rw [← hx.1];exact h0
  subst hn0;rw [Ami hm hp.1 hx] at hh;exact absurd hh (by decide)
 ·rw [List.all_eq_false];exact ⟨x,List.mem_of_find?_eq_some h,by rw [hh];decide⟩
theorem Ahm {b:List (List Int)} (h:b.find? (fun x=> !Jp p n m x)=none):b.all (Jp p n m)=true:=by
 rw [List.all_eq_true];intro x hx
 simpa using List.find?_eq_none.1 h x hx
theorem Ag9 {l r l' r':Int} {b:List (List Int)} (hp:2<=p/\p<=97) (hm:MatW p n m) (h:Ny n m.length m (lv m)) (hb:MatW p n b) (hn:n<=1000) (hl:m.length<=1000) (hl':b.length<=1000) :
  ∃ z,Fr p l r m l' r' b=some z/\((z=.inl ()/\b.all (Jp p n m)=true)∨∃ x:List Int,z=.inr x/\x.length≠0/\b.all (Jp p n m)=false):=by
 obtain ⟨z,hz,⟨rfl,h1⟩|⟨x,rfl,h1⟩⟩:=Aml (l:=l) (r:=r) (l':=l') (r':=r') hp hm h hb hn hl hl'
 ·exact ⟨_,hz,.inl ⟨rfl,Ahm h1⟩⟩
 ·exact ⟨_,hz,.inr ⟨x,rfl,(Ak5 hp hm hb h1).2⟩⟩
theorem Akr {s:ByteArray} {xs:List Nd} {l r:Int} {b:List (List Int)} (hx:xs.length<=1073741824) (hb:b.length<=1048576) (hr:Gh 1048576 b) (h:Cc p s xs l r b=some true):Q4 p l r b=true:=by
 unfold Cc at h;obtain ⟨nm,n1,n2⟩:=Aj1 s;rw [Ach,obs,n2,obs,Ab8 xs p hx,Ut xs hx,Aby p l r b hb hr] at h;cases ht:tyV xs with
 | none=>rw [ht] at h;exact absurd h (by simp)
 | some w =>
  rw [ht,Option.isSome_some,Bool.true_and] at h;dsimp only at h;generalize isF p=a1 at h;generalize Tp p xs=a2 at h;generalize Ah4 xs=a3 at h;cases hg:Q4 p l r b
  ·rw [hg] at h;cases nm <;> cases a1 <;> cases a2 <;> cases a3 <;> exact absurd h (by simp)
  ·rfl
theorem Ahu {l r:Int} {b:List (List Int)} (G:Acz p l r b):Ny (l+r).toNat b.length b (lv b):=by
 have hp:=Ik G.fp;obtain ⟨⟨pv,h⟩,_⟩:=Ani hp.1 (fun _ h1 h2=>(Ado G.fp ⟨h1,h2⟩).2.2.2.2) G.mb;rw [G.rb] at h;exact Ag0 h G.mb (Nat.le_refl _)
theorem Alz (p:Int) (s s':ByteArray) (xs xs':List Nd) {l r l' r':Int} {b b':List (List Int)} (G:Acz p l r b) (G':Acz p l' r' b'):∃ v,Gb p s xs l r b s' xs' l' r' b'=some v/\Bz p s xs l r b s' xs' l' r' b'=some v:=by
 unfold Gb Bz;cases s.toList==s'.toList
 ·exact ⟨_,rfl,rfl⟩
 by_cases hl:l=l'
 ·by_cases hr0:r=r'
  ·subst hl hr0;have hp:=Ik G.fp;have q1:=G.hl;have q2:=G.hr;have q3:=G.hs;have q4:=G.lb;have q5:=G'.lb;have hI:=Ahu G;rw [beq_self_eq_true,beq_self_eq_true,cond_true,cond_true,cond_true,cond_true,cond_true,cond_true,Alh hp G.mb hI G'.mb oM oM oM];obtain ⟨z,hz,⟨rfl,h1⟩|⟨x,rfl,h1,h2⟩⟩:=Ag9 (l:=l) (r:=r) (l':=l) (r':=r) hp G.mb hI G'.mb oM oM oM
   ·rw [hz,h1];exact ⟨_,rfl,rfl⟩
   ·rw [hz,h2,obs];refine ⟨false,rfl,?_⟩;show Option.bind (og (x.length≠0) _) _=_;rw [Ah h1];rfl
  ·rw [show (r==r')=false from by rw [beq_eq_false_iff_ne];exact hr0];cases l==l' <;> exact ⟨_,rfl,rfl⟩
 ·rw [show (l==l')=false from by rw [beq_eq_false_iff_ne];exact hl];exact ⟨_,rfl,rfl⟩
end
end
section
def Pf (b:Cp) (x:Cp):Cp:=if x.1.toList==b.1.toList then b else x
def Vk (a g:Bool) (m:Cp->Bool) (l:List Cp) (b:Cp):List Cp×Bool:=if a&&(g&&(l.any (fun x=>x.1.toList==b.1.toList)&&l.all fun x=> !(x.1.toList==b.1.toList)||m x)) then (l.map (Pf b),true) else ([],false)
def Ajr (p:Int) (l:List Cp) (b:Cp) (V:List Cp×Bool):Prop :=
 l.length<=1048576/\(∀ x∈l,Lv x)/\Lv b/\∃ (a g:Bool) (m:Cp->Bool),Di p l=some a/\Ca p b.1 b.2.1 b.2.2.1 b.2.2.2.1 b.2.2.2.2=some g /\
  (a=true->g=true->(∀ x∈l,(x.1.toList==b.1.toList)=true->Bz p x.1 x.2.1 x.2.2.1 x.2.2.2.1 x.2.2.2.2 b.1 b.2.1 b.2.2.1 b.2.2.2.1 b.2.2.2.2=some (m x)) /\
   (∀ x∈l,Bv x.1 x.2.1 x.2.2.1 x.2.2.2.1 x.2.2.2.2=some (x.2.1,x.2.2.2.2))/\Bv b.1 b.2.1 b.2.2.1 b.2.2.2.1 b.2.2.2.2=some (b.2.1,b.2.2.2.2))/\V=Vk a g m l b
section
variable {p:Int}
theorem Agn {l:List Cp} (h:okL p [] l=true):∀ k,k<=l.length->okL p ((l.take k).map (·.1)) (l.drop k)=true
 | 0,_=>h
 | k+1,hk=>by
  have h1:=Agn h k oM;rw [Rs (gEg (show k<l.length by omega)),Bool.and_eq_true] at h1;exact h1.2
theorem Adt {l:List Cp} (h:okL p [] l=true) {k:Nat} (hk:k<l.length):Mn p l[k]=true/\∀ i (hi:i<k),(l[i].1.toList==l[k].1.toList)=false:=by
 have h1:=Agn h k oM;rw [Rs (gEg hk),Bool.and_eq_true,Bool.and_eq_true] at h1;refine ⟨h1.1.1,fun i hi=>?_⟩;have h2:=h1.1.2;rw [Bool.not_eq_true',List.any_eq_false] at h2;have h3:=h2 l[i].1 (List.mem_map.2 ⟨l[i],List.mem_take_iff_getElem.2 ⟨i,by omega,rfl⟩,rfl⟩)
 simpa using h3
theorem Z8 {l:List Cp} (h:okL p [] l=true) {x:Cp} (hx:x∈l):Mn p x=true:=by
 obtain ⟨k,hk,rfl⟩:=List.mem_iff_getElem.1 hx;exact (Adt h hk).1
theorem Anj {l:List Cp} (h:okL p [] l=true) {b:ByteArray} {i j:Nat} (hi:i<l.length) (hj:j<l.length) (e1:(l[i].1.toList==b.toList)=true) (e2:(l[j].1.toList==b.toList)=true):i=j:=by
 rcases Nat.lt_trichotomy i j with h1|h1|h1
 ·have:=(Adt h hj).2 i h1;rw [beq_iff_eq.1 e1,beq_iff_eq.1 e2,beq_self_eq_true] at this;cases this
 ·exact h1
 ·have:=(Adt h hi).2 j h1;rw [beq_iff_eq.1 e1,beq_iff_eq.1 e2,beq_self_eq_true] at this;cases this
theorem Amm (l:List Df) (hl:l.length<=1048576) (s:ByteArray):(Bl l s=some (-1)/\(l.any fun d=>d.1.toList==s.toList)=false)∨∃ (i:Nat) (d:Df),Bl l s=some (i:Int)/\l[i]? =some d/\(d.1.toList==s.toList)=true:=by
 unfold Bl
 have key:∃ r,Aq (fun s_:Nat=>Ba l s s_) 4611686018427387904 0=some r/\((r=Ctl.next ()/\(l.any fun d=>d.1.toList==s.toList)=false)∨∃ (i:Nat) (d:Df),r=Ctl.out (i:Int)/\l[i]? =some d/\(d.1.toList==s.toList)=true):=by
  refine Ee (Post:=fun r=>(r=Ctl.next ()/\(l.any fun d=>d.1.toList==s.toList)=false)∨∃ (i:Nat) (d:Df),r=Ctl.out (i:Int)/\l[i]? =some d/\(d.1.toList==s.toList)=true) l.length (fun i t=>t=i/\((l.take i).any fun d=>d.1.toList==s.toList)=false) oM ⟨rfl,by simp⟩ ?_ ?_
  ·rintro i t hi ⟨rfl,hq⟩;have hx:=gEg hi;unfold Ba;rw [Ay oM,cond_true,hx,obs,Ah oM];cases hc:l[t].1.toList==s.toList
   ·refine .inl ⟨t+1,rfl,rfl,?_⟩;rw [List.take_add_one,List.any_append,hq,hx]
    simpa using hc
   ·exact .inr ⟨_,rfl,.inr ⟨t,_,rfl,hx,hc⟩⟩
  ·rintro t ⟨rfl,hq⟩;unfold Ba;rw [Av oM,cond_false];rw [List.take_length] at hq;exact ⟨_,rfl,.inl ⟨rfl,hq⟩⟩
 obtain ⟨r,hr,⟨rfl,h⟩|⟨i,d,rfl,h1,h2⟩⟩:=key
 ·exact .inl ⟨by rw [hr];rfl,h⟩
 ·exact .inr ⟨i,d,by rw [hr];rfl,h1,h2⟩
theorem Ajn {n:Nat} (m:List (List Int)) (hl:m.length<=1000) (hm:MatW p n m) (hn:n<=1000):Ix m=some m:=by
 unfold Ix
 have key:Aq (fun s_:Nat×List (List Int)=>F1 m s_.1 s_.2) 4611686018427387904 (0,([]:List (List Int)))=some ([]++m.map fun x=>x):=by
  refine Mo m (fun x=>x) [] oM _ (fun j x h=>?_) ?_
  ·have:=An h;have hxl:=(hm x (List.mem_of_getElem? h)).1
   try dsimp only
   unfold F1;rw [Ay oM,cond_true,h,obs,Af7 _ oM,obs,Ah (by simp;omega),Ah oM]
  ·try dsimp only
   unfold F1;rw [Av oM,cond_false]
 rw [key];simp
theorem Aek {x:Cp} (hc:Lv x) (h:Mn p x=true):Acz p x.2.2.1 x.2.2.2.1 x.2.2.2.2:=by
 have h1:=(Aa2 (p:=p) hc).1;rw [h] at h1;exact Ahe (Akr (by have:=hc.1;omega) hc.2.1 hc.2.2 h1)
theorem Qy {x:Cp} (hc:Lv x) (h:Mn p x=true):Bv x.1 x.2.1 x.2.2.1 x.2.2.2.1 x.2.2.2.2=some (x.2.1,x.2.2.2.2)/\Jb x.1 x.2.1 x.2.2.1 x.2.2.2.1 x.2.2.2.2=some x:=by
 have G:=Aek hc h;have h1:=hc.1;have g1:=G.hl;have g2:=G.hr;have g3:=G.hs;have g4:=G.lb;unfold Bv Jr Bf Jb M7 Ng;rw [Ah oM,Abg G.mb oM oM,Ajn _ oM G.mb oM];exact ⟨rfl,rfl⟩
theorem Ah7 {l:List Cp} {b:Cp} (hl:l.length<=1048576) (hc:∀ x∈l,Lv x) (hb:Lv b) (hn:∀ x∈l,x.1.size<=maxLen) :
  ∃ V:List Cp×Bool,Cl p l b.1 b.2.1 b.2.2.1 b.2.2.2.1 b.2.2.2.2=some V/\Ajr p l b V/\V.1.length<=1048576/\∀ x∈V.1,Lv x:=by
 have hA:=Al8 (p:=p) hl hc;have hA2:=Ajk (p:=p) hl hc hn;obtain ⟨hG,hG2⟩:=Aa2 (p:=p) hb;unfold Cl;rw [hA,obs];have none_:([]:List Cp).length<=1048576/\∀ x∈([]:List Cp),Lv x:=⟨by simp,fun x hx=>by cases hx⟩
 cases ha:(okL p [] l&&(isF p&&decide (((l.length:Nat):Int)<=12)))
 ·refine ⟨([],false),rfl,⟨hl,hc,hb,_,_,fun _=>true,hA2,hG2,?_,?_⟩,none_⟩
  ·rw [ha];intro h;cases h
  ·rw [ha];rfl
 rw [hG,obs];cases hg:Mn p b
 ·refine ⟨([],false),rfl,⟨hl,hc,hb,_,_,fun _=>true,hA2,hG2,?_,?_⟩,none_⟩
  ·rw [hg];intro _ h;cases h
  ·rw [ha,hg];rfl
 have ho:okL p [] l=true:=by
  rw [Bool.and_eq_true] at ha;exact ha.1
 have GB:=Aek hb hg
 have hmay:∀ x∈l,∃ v,Gb p x.1 x.2.1 x.2.2.1 x.2.2.2.1 x.2.2.2.2 b.1 b.2.1 b.2.2.1 b.2.2.2.1 b.2.2.2.2=some v/\Bz p x.1 x.2.1 x.2.2.1 x.2.2.2.1 x.2.2.2.2 b.1 b.2.1 b.2.2.1 b.2.2.2.1 b.2.2.2.2=some v:=fun x hx =>
  Alz p x.1 b.1 x.2.1 b.2.1 (Aek (hc x hx) (Z8 ho hx)) GB
 let m:Cp->Bool:=fun x=>(Bz p x.1 x.2.1 x.2.2.1 x.2.2.2.1 x.2.2.2.2 b.1 b.2.1 b.2.2.1 b.2.2.2.1 b.2.2.2.2).getD false
 have hm:∀ x∈l,Gb p x.1 x.2.1 x.2.2.1 x.2.2.2.1 x.2.2.2.2 b.1 b.2.1 b.2.2.1 b.2.2.2.1 b.2.2.2.2=some (m x)/\Bz p x.1 x.2.1 x.2.2.1 x.2.2.2.1 x.2.2.2.2 b.1 b.2.1 b.2.2.1 b.2.2.2.1 b.2.2.2.2=some (m x):=fun x hx=>by
  obtain ⟨v,h1,h2⟩:=hmay x hx;have e:m x=v:=by show Option.getD _ _=_;rw [h2];rfl
  rw [e];exact ⟨h1,h2⟩
 have hOK:∀ V,V=Vk true true m l b->Ajr p l b V:=fun V hV=>⟨hl,hc,hb,_,_,m,by rw [hA2,ha],by rw [hG2,hg],fun _ _=>⟨fun x hx _=>(hm x hx).2,fun x hx=>(Qy (hc x hx) (Z8 ho hx)).1,(Qy hb hg).1⟩,hV⟩
 have hlib:(l.map fun x=>((x.1,x.2.2.1,x.2.2.2.1,x.2.1):Df)).length<=1048576:=by rw [List.length_map];exact hl
 have hany:((l.map fun x=>((x.1,x.2.2.1,x.2.2.2.1,x.2.1):Df)).any fun d=>d.1.toList==b.1.toList)=l.any fun x=>x.1.toList==b.1.toList:=by rw [List.any_map];rfl
 rw [Bool.not_true,cond_false,obs,cond_false,Zd l hl,obs];rcases Amm _ hlib b.1 with ⟨h1,h2⟩|⟨k,d,h1,h2,h3⟩
 ·rw [h1];refine ⟨([],false),rfl,hOK _ ?_,none_⟩;rw [hany] at h2;unfold Vk;rw [h2];rfl
 ·rw [h1,obs];rw [List.getElem?_map] at h2;obtain ⟨x,hx,rfl⟩:=oms.1 h2;obtain ⟨hk,hxk⟩:=gSi.1 hx
  replace h3:(x.1.toList==b.1.toList)=true:=h3
  have hxm:x∈l:=List.mem_of_getElem? hx
  have hone:∀ i (hi:i<l.length),(l[i].1.toList==b.1.toList)=(decide (i=k)):=fun i hi=>by
   cases hb':l[i].1.toList==b.1.toList
   ·exact (decide_eq_false (fun e=>by subst e;rw [hxk,h3] at hb';cases hb')).symm
   ·exact (decide_eq_true (Anj ho hi hk hb' (by rw [hxk];exact h3))).symm
  have hany':(l.any fun x=>x.1.toList==b.1.toList)=true:=List.any_eq_true.2 ⟨x,hxm,h3⟩
  have hall:(l.all fun y=> !(y.1.toList==b.1.toList)||m y)=m x:=by
   cases hmx:m x
   ·exact List.all_eq_false.2 ⟨x,hxm,by rw [h3,hmx];decide⟩
   ·refine List.all_eq_true.2 fun y hy=>?_
    obtain ⟨i,hi,rfl⟩:=List.mem_iff_getElem.1 hy;rw [hone i hi];by_cases e:i=k
    ·subst e;rw [hxk,hmx];simp
    ·simp [e]
  have hV:Vk true true m l b=if m x then (l.map (Pf b),true) else ([],false):=by
   unfold Vk;rw [hany',hall];rfl
  have hd:decide ((k:Int)<0)=false:=decide_eq_false oM;rw [hd,cond_false,Cf oM,Int.toNat_natCast,hx,obs,(hm x hxm).1,obs,obs];cases hmx:m x
  ·exact ⟨([],false),rfl,hOK _ (by rw [hV,hmx];rfl),none_⟩
  ·rw [Bool.not_true,cond_false]
   have key:Aq (fun s_:Nat×List Cp=>Bx l (k:Int) b.1 b.2.1 b.2.2.1 b.2.2.2.1 b.2.2.2.2 s_.1 s_.2) 4611686018427387904 (0,[])=some ([]++l.map (Pf b)):=by
    refine Mo l (Pf b) [] oM _ (fun j y h=>?_) ?_
    ·have hj:=An h;obtain ⟨_,hy⟩:=gSi.1 h;have hym:y∈l:=List.mem_of_getElem? h
     try dsimp only
     unfold Bx;rw [Ay oM,cond_true,h,obs];have e:(y.1.toList==b.1.toList)=decide (j=k):=by rw [← hy];exact hone j hj
     by_cases ejk:j=k
     ·subst ejk;have er:Pf b y=b:=by unfold Pf;rw [e];simp
      rw [beq_self_eq_true,cond_true,obs,er];dsimp only;rw [(Qy hb hg).2,obs,Ah (by simp;omega),Ah oM]
     ·have er:Pf b y=y:=by unfold Pf;rw [e];simp [ejk]
      rw [show (((j:Nat):Int)==(k:Int))=false from beq_eq_false_iff_ne.2 oM,cond_false,obs,er];dsimp only;rw [(Qy (hc y hym) (Z8 ho hym)).2,obs,Ah (by simp;omega),Ah oM]
    ·try dsimp only
     unfold Bx;rw [Av oM,cond_false]
   rw [key,obs,List.nil_append];refine ⟨(l.map (Pf b),true),rfl,hOK _ (by rw [hV,hmx];rfl),by rw [List.length_map];exact hl,fun y hy=>?_⟩;obtain ⟨z,hz,rfl⟩:=List.mem_map.1 hy;unfold Pf;split
   ·exact hb
   ·exact hc z hz
end
end
section
open Go.RowKit Go.Deep
theorem Aam (R:Nat->Prop) (w:World) (t:Ty):Sl R w t none 0 [] []:=⟨by simp,by simp [maxLen],fun _=>[],by simp,fun h=>absurd h (by simp)⟩
theorem Ait {w:World} {T:TypeId} {v0 v1 v2 v3 v4:Value}:∀ j u,[v0,v1,v2,v3,v4][j]? =some u->(w.alloc (.cells #[v0,v1,v2,v3,v4] T)).cell? ((⟨w.heap.size,0,none⟩:Addr).add j)=some u:=fun j u h=>by
 rw [Bd,Nat.zero_add];exact Ahq (by simpa using h)
theorem Apw {s:ByteArray} {a b:Int} {A B:Option Addr} {n c k d:Nat}:∀ u∈[Value.string s,.slice A n c,.int .i64 a,.int .i64 b,.slice B k d],u.oneCell'=true:=fun u hu=>by
 simp only [List.mem_cons,List.not_mem_nil,or_false] at hu;rcases hu with rfl|rfl|rfl|rfl|rfl <;> rfl
theorem Ln {R R':Nat->Prop} (x0:ByteArray) (x1:List Nd) (A1:Option Addr) (c1:Nat) (l1:List Addr) (x2 x3:Int) (x4:List (List Int)) (A4:Option Addr) (c4:Nat) (l4:List Addr) (w:World) (s1:Sl R w Mg A1 c1 x1 l1) (s4:Sl R' w (.slice .int) A4 c4 x4 l4) (hc:Bv x0 x1 x2 x3 x4=some (x1,x4)) (tab:Tab w) :
  Calls Tryz.prog 28 #[.agg #[.string x0,.slice A1 x1.length c1,.int .i64 x2,.int .i64 x3,.slice A4 x4.length c4]] w fun e w'=>∃ B1 d1 m1 B4 d4 m4,e=.returned (.agg #[.string x0,.slice B1 x1.length d1,.int .i64 x2,.int .i64 x3,.slice B4 x4.length d4])/\Sl (Ic w.heap.size) w' Mg B1 d1 x1 m1/\Sl (Ic w.heap.size) w' (.slice .int) B4 d4 x4 m4/\Fresh w' w.heap.size (m1++m4)/\Below w.heap.size w w':=by
 refine (S4 (vs:=[.agg #[.string x0,.slice A1 x1.length c1,.int .i64 x2,.int .i64 x3,.slice A4 x4.length c4]]) (Nu hc) (fun w' hb=>tab.below hb) ⟨_,_,rfl,L5 x0 x1 A1 c1 l1 x2 x3 x4 A4 c4 l4 s1 s4,rfl⟩).mono ?_;rintro e w' ⟨u,rfl,hb,σ',hm,hv⟩;obtain ⟨vs,rfl,v0,_,rfl,rfl,v1,_,rfl,h1,v2,_,rfl,rfl,v3,_,rfl,rfl,v4,_,rfl,h4,rfl⟩:=hv;obtain ⟨B1,d1,m1,rfl,t1,f1⟩:=R8 hm rfl h1;obtain ⟨B4,d4,m4,rfl,t4,f4⟩:=Yr hm rfl (fun k xs hx=>Abi hx rfl) h4;exact ⟨B1,d1,m1,B4,d4,m4,rfl,t1,t4,(f1.append hm f4 (by rintro i rfl ⟨k,e⟩;cases e)).fresh,hb⟩
theorem Ma {R R1 R4:Nat->Prop} (p:Int) (l:List Cp) (A:Option Addr) (c:Nat) (ll:List Addr) (x0:ByteArray) (x1:List Nd) (A1:Option Addr) (c1:Nat) (l1:List Addr) (x2 x3:Int) (x4:List (List Int)) (A4:Option Addr) (c4:Nat) (l4:List Addr) (w:World) (s:Sl R w Mi A c l ll) (s1:Sl R1 w Mg A1 c1 x1 l1) (s4:Sl R4 w (.slice .int) A4 c4 x4 l4) {V:List Cp×Bool} (h:Cl p l x0 x1 x2 x3 x4=some V) (tab:Tab w) :
  Calls Tryz.prog 6 #[.int .i64 p,.slice A l.length c,.agg #[.string x0,.slice A1 x1.length c1,.int .i64 x2,.int .i64 x3,.slice A4 x4.length c4]] w fun e w'=>∃ B d mm,e=.returned (.tuple #[.slice B V.1.length d,.bool V.2])/\Sl (Ic w.heap.size) w' Mi B d V.1 mm/\Below w.heap.size w w':=by
 refine (Ls h w (fun _=>True) [.int .i64 p,.slice A l.length c,.agg #[.string x0,.slice A1 x1.length c1,.int .i64 x2,.int .i64 x3,.slice A4 x4.length c4]] (fun _ hb=>tab.below hb) ⟨_,_,rfl,rfl,⟨_,_,rfl,⟨A,c,ll,rfl,Nb s⟩,⟨_,_,rfl,L5 x0 x1 A1 c1 l1 x2 x3 x4 A4 c4 l4 s1 s4,rfl⟩⟩⟩).mono ?_;rintro e w' ⟨u,rfl,hb,hv⟩;obtain ⟨us,ls,ho,hf,rfl⟩:=RV.out_of hv rfl;obtain ⟨v1,_,rfl,⟨B,d,mm,rfl,t⟩,v2,_,rfl,q2,rfl,rfl⟩:=ho;obtain rfl:v2=.bool V.2:=q2;exact ⟨B,d,mm,rfl,t,hb⟩
set_option maxRecDepth 100000 in
set_option maxHeartbeats 16000000 in
theorem Gw {R R1 R4:Nat->Prop} (p:Int) (l:List Cp) (A:Option Addr) (c:Nat) (ll:List Addr) (x0:ByteArray) (x1:List Nd) (A1:Option Addr) (c1:Nat) (l1:List Addr) (x2 x3:Int) (x4:List (List Int)) (A4:Option Addr) (c4:Nat) (l4:List Addr) (w:World) (s:Sl R w Mi A c l ll) (s1:Sl R1 w Mg A1 c1 x1 l1) (s4:Sl R4 w (.slice .int) A4 c4 x4 l4) {V:List Cp×Bool} (h:Ajr p l (x0,x1,x2,x3,x4) V) (tab:Tab w) :
  Calls Tryz.prog 9 #[.int .i64 p,.slice A l.length c,.agg #[.string x0,.slice A1 x1.length c1,.int .i64 x2,.int .i64 x3,.slice A4 x4.length c4]] w fun e w'=>∃ B d mm,e=.returned (.tuple #[.slice B V.1.length d,.bool V.2])/\Sl (Ic w.heap.size) w' Mi B d V.1 mm/\Fresh w' w.heap.size mm/\Below w.heap.size w w':=by
 obtain ⟨hn,hok,hbk,a,g,m,hA,hG,hM,rfl⟩:=h;dsimp only at hG hM
 have cA:∀ w',Below w.heap.size w w'->Calls Tryz.prog 25 #[.int .i64 p,.slice A l.length c] w' fun e w2=>e=.returned (.bool a)/\Below w'.heap.size w' w2:=fun w' hb =>
  Hh (vs:=[.int .i64 p,.slice A l.length c]) (Ns hA) (fun _ hb2=>tab.below (hb.trans (hb2.mono hb.size))) ⟨_,_,rfl,rfl,⟨_,_,rfl,⟨A,c,ll,rfl,Nb (Ao s hb)⟩,rfl⟩⟩
 have cG:∀ w',Below w.heap.size w w'->Calls Tryz.prog 26 #[.int .i64 p,.agg #[.string x0,.slice A1 x1.length c1,.int .i64 x2,.int .i64 x3,.slice A4 x4.length c4]] w' fun e w2=>e=.returned (.bool g)/\Below w'.heap.size w' w2:=fun w' hb =>
  Hh (vs:=[.int .i64 p,.agg #[.string x0,.slice A1 x1.length c1,.int .i64 x2,.int .i64 x3,.slice A4 x4.length c4]]) (Jv hG) (fun _ hb2=>tab.below (hb.trans (hb2.mono hb.size))) ⟨_,_,rfl,rfl,⟨_,_,rfl,L5 x0 x1 A1 c1 l1 x2 x3 x4 A4 c4 l4 (Ao s1 hb) (Ao s4 hb),rfl⟩⟩
 have b0:Below w.heap.size w (w.alloc (.cells #[.string x0,.slice A1 x1.length c1,.int .i64 x2,.int .i64 x3,.slice A4 x4.length c4] 42)):=(by repeat (first|with_reducible exact Below.refl _ _|((with_reducible refine Below.setCell ?_ ?_ _);rotate_left;focus (first|(simp;done)|omega|(simp;omega)))|((with_reducible refine Below.alloc ?_ ?_ _);rotate_left;focus (first|(simp;done)|omega|(simp;omega)))|(with_reducible refine Below.drew ?_)|(with_reducible refine below_draws_ ?_ _)))
 cases a
 ·have e:Vk false g m l (x0,x1,x2,x3,x4)=([],false):=rfl;rw [e]
  go_enter Tryz.func9,Tryz.ntmps9
  go_wp2_with (go_at_call 25;refine (cA _ b0).mono ?_;rintro e w1 ⟨rfl,hb_w1⟩)
  go_ret2
  exact ⟨none,0,[],rfl,Aam _ _ _,Fresh.nil _ _,b0.trans (hb_w1.mono b0.size)⟩
 cases g
 ·have e:Vk true false m l (x0,x1,x2,x3,x4)=([],false):=rfl;rw [e]
  go_enter Tryz.func9,Tryz.ntmps9
  go_wp2_with fail
  (refine (cA _ (by repeat (first|with_reducible exact Below.refl _ _|((with_reducible refine Below.setCell ?_ ?_ _);rotate_left;focus (first|(simp;done)|omega|(simp;omega)))|((with_reducible refine Below.alloc ?_ ?_ _);rotate_left;focus (first|(simp;done)|omega|(simp;omega)))|(with_reducible refine Below.drew ?_)|(with_reducible refine below_draws_ ?_ _)))).mono ?_;rintro e w1 ⟨rfl,hb_w1⟩;obtain ⟨hc_w1,hf_w1⟩:=Dm hb_w1;have hz_w1:=hb_w1.size;(try simp at hz_w1);have hl_w1_0:w.heap.size<w1.heap.size:=oM);go_wp2_with fail
  (refine (cG _ (by repeat (first|with_reducible exact Below.refl _ _|((with_reducible refine Below.setCell ?_ ?_ _);rotate_left;focus (first|(simp;done)|omega|(simp;omega)))|((with_reducible refine Below.alloc ?_ ?_ _);rotate_left;focus (first|(simp;done)|omega|(simp;omega)))|(with_reducible refine Below.drew ?_)|(with_reducible refine below_draws_ ?_ _)|((with_reducible refine Below.trans ?_ (Below.mono hb_w1 ?_));rotate_left;focus (first|(simp;done)|omega|(simp;omega)))))).mono ?_;rintro e w2 ⟨rfl,hb_w2⟩;obtain ⟨hc_w2,hf_w2⟩:=Dm hb_w2;have hz_w2:=hb_w2.size;(try simp at hz_w2);have hl_w2_0:w.heap.size<w2.heap.size:=oM);go_wp2_with fail
  go_ret2
  exact ⟨none,0,[],rfl,Aam _ _ _,Fresh.nil _ _,by repeat (first|with_reducible exact Below.refl _ _|((with_reducible refine Below.setCell ?_ ?_ _);rotate_left;focus (first|(simp;done)|omega|(simp;omega)))|((with_reducible refine Below.alloc ?_ ?_ _);rotate_left;focus (first|(simp;done)|omega|(simp;omega)))|(with_reducible refine Below.drew ?_)|(with_reducible refine below_draws_ ?_ _)|((with_reducible refine Below.trans ?_ (Below.mono hb_w1 ?_));rotate_left;focus (first|(simp;done)|omega|(simp;omega)))|((with_reducible refine Below.trans ?_ (Below.mono hb_w2 ?_));rotate_left;focus (first|(simp;done)|omega|(simp;omega))))⟩
 obtain ⟨hMay,hCp,hCb⟩:=hM rfl rfl
 clear hM
 go_enter Tryz.func9,Tryz.ntmps9
 go_wp2_with fail
 (refine (cA _ (by repeat (first|with_reducible exact Below.refl _ _|((with_reducible refine Below.setCell ?_ ?_ _);rotate_left;focus (first|(simp;done)|omega|(simp;omega)))|((with_reducible refine Below.alloc ?_ ?_ _);rotate_left;focus (first|(simp;done)|omega|(simp;omega)))|(with_reducible refine Below.drew ?_)|(with_reducible refine below_draws_ ?_ _)))).mono ?_;rintro e w1 ⟨rfl,hb_w1⟩;obtain ⟨hc_w1,hf_w1⟩:=Dm hb_w1;have hz_w1:=hb_w1.size;(try simp at hz_w1);have hl_w1_0:w.heap.size<w1.heap.size:=oM);go_wp2_with fail
 (refine (cG _ (by repeat (first|with_reducible exact Below.refl _ _|((with_reducible refine Below.setCell ?_ ?_ _);rotate_left;focus (first|(simp;done)|omega|(simp;omega)))|((with_reducible refine Below.alloc ?_ ?_ _);rotate_left;focus (first|(simp;done)|omega|(simp;omega)))|(with_reducible refine Below.drew ?_)|(with_reducible refine below_draws_ ?_ _)|((with_reducible refine Below.trans ?_ (Below.mono hb_w1 ?_));rotate_left;focus (first|(simp;done)|omega|(simp;omega)))))).mono ?_;rintro e w2 ⟨rfl,hb_w2⟩;obtain ⟨hc_w2,hf_w2⟩:=Dm hb_w2;have hz_w2:=hb_w2.size;(try simp at hz_w2);have hl_w2_0:w.heap.size<w2.heap.size:=oM);go_wp2_with fail
 have q0:w2.cell? ⟨w.heap.size,0,none⟩=some (.string x0):=(hc_w2 _ _ (by first|(simp;done)|omega|(simp;omega))).trans ((hc_w1 _ _ (by first|(simp;done)|omega|(simp;omega))).trans (by simp));have q1:w2.cell? ⟨w.heap.size,1,none⟩=some (.slice A1 x1.length c1):=(hc_w2 _ _ (by first|(simp;done)|omega|(simp;omega))).trans ((hc_w1 _ _ (by first|(simp;done)|omega|(simp;omega))).trans (by simp));have q2:w2.cell? ⟨w.heap.size,2,none⟩=some (.int .i64 x2):=(hc_w2 _ _ (by first|(simp;done)|omega|(simp;omega))).trans ((hc_w1 _ _ (by first|(simp;done)|omega|(simp;omega))).trans (by simp));have q3:w2.cell? ⟨w.heap.size,3,none⟩=some (.int .i64 x3):=(hc_w2 _ _ (by first|(simp;done)|omega|(simp;omega))).trans ((hc_w1 _ _ (by first|(simp;done)|omega|(simp;omega))).trans (by simp));have q4:w2.cell? ⟨w.heap.size,4,none⟩=some (.slice A4 x4.length c4):=(hc_w2 _ _ (by first|(simp;done)|omega|(simp;omega))).trans ((hc_w1 _ _ (by first|(simp;done)|omega|(simp;omega))).trans (by simp));have bW:Below w.heap.size w w2:=(by repeat (first|with_reducible exact Below.refl _ _|((with_reducible refine Below.setCell ?_ ?_ _);rotate_left;focus (first|(simp;done)|omega|(simp;omega)))|((with_reducible refine Below.alloc ?_ ?_ _);rotate_left;focus (first|(simp;done)|omega|(simp;omega)))|(with_reducible refine Below.drew ?_)|(with_reducible refine below_draws_ ?_ _)|((with_reducible refine Below.trans ?_ (Below.mono hb_w1 ?_));rotate_left;focus (first|(simp;done)|omega|(simp;omega)))|((with_reducible refine Below.trans ?_ (Below.mono hb_w2 ?_));rotate_left;focus (first|(simp;done)|omega|(simp;omega)))))
 have hz:w.heap.size<w2.heap.size:=by omega
 clear cA cG hc_w1 hf_w1 hc_w2 hf_w2 hl_w1_0
 go_loopw [8,9,25] (fun out fd i wr=>∃ k:Nat,k<=l.length/\i=.int .i64 k/\fd=.bool ((l.take k).any fun y=>y.1.toList==x0.toList)/\((l.take k).all fun y=> !(y.1.toList==x0.toList)||m y)=true/\GrowV w2.heap.size wr 42 Mi out ((l.take k).map (Pf (x0,x1,x2,x3,x4)))/\Below w2.heap.size w2 wr) (fun _ _ i _=>l.length - (intOf i).toNat)
 case atStart=>exact ⟨0,by omega,rfl,by simp,by simp,by simpa using GrowV.lit w2 42 Mi (Nat.le_refl _),by repeat (first|with_reducible exact Below.refl _ _|((with_reducible refine Below.setCell ?_ ?_ _);rotate_left;focus (first|(simp;done)|omega|(simp;omega)))|((with_reducible refine Below.alloc ?_ ?_ _);rotate_left;focus (first|(simp;done)|omega|(simp;omega)))|(with_reducible refine Below.drew ?_)|(with_reducible refine below_draws_ ?_ _))⟩
 case round =>
  obtain ⟨k,hk,rfl,rfl,hall,hG',hbl⟩:=hrel;by_cases hlt:k<l.length
  ·obtain ⟨b,o,f,rfl,_,hs⟩:=Aay s oM;obtain ⟨B1,d1,n1,B4,d4,n4,e0,e1,e2,e3,e4,t1,t4,_⟩:=hs k hlt;have hmem:=List.getElem_mem hlt;have hmay:=hMay _ hmem;have hcp:=hCp _ hmem;have bR:Below w.heap.size w wr:=bW.trans (hbl.mono bW.size);obtain ⟨⟨y0,y1,y2,y3,y4⟩,hx⟩:∃ x,x=l[k]:=⟨_,rfl⟩
   rw [← hx] at e0 e1 e2 e3 e4 t1 t4 hmay hcp
   replace e0:=Af bR e0
   replace e1:=Af bR e1
   replace e2:=Af bR e2
   replace e3:=Af bR e3
   replace e4:=Af bR e4
   have r0:=Af hbl q0;have r1:=Af hbl q1;have r2:=Af hbl q2;have r3:=Af hbl q3;have r4:=Af hbl q4;have hzr:=hbl.size;have hlr:w.heap.size<wr.heap.size:=by omega
   obtain ⟨GA,gc,rfl,hgl,hgm⟩:=hG'.len;rw [List.length_map,List.length_take,Nat.min_eq_left hk] at hG' hgl;dsimp only at e0 e1 e2 e3 e4 t1 t4 hmay hcp;have hX:=Lib.hid hx
   clear hs hx hMay hCp
   have et:l.take (k+1)=l.take k++[(y0,y1,y2,y3,y4)]:=by rw [List.take_succ_eq_append_getElem hlt,hX.out]
   have hz3:wr.heap.size<=(wr.alloc (.cells #[.string y0,.slice B1 y1.length d1,.int .i64 y2,.int .i64 y3,.slice B4 y4.length d4] 42)).heap.size:=by simp
   have bR3:Below w.heap.size w (wr.alloc (.cells #[.string y0,.slice B1 y1.length d1,.int .i64 y2,.int .i64 y3,.slice B4 y4.length d4] 42)):=bR.trans (Below.mono (by repeat (first|with_reducible exact Below.refl _ _|((with_reducible refine Below.setCell ?_ ?_ _);rotate_left;focus (first|(simp;done)|omega|(simp;omega)))|((with_reducible refine Below.alloc ?_ ?_ _);rotate_left;focus (first|(simp;done)|omega|(simp;omega)))|(with_reducible refine Below.drew ?_)|(with_reducible refine below_draws_ ?_ _))) bR.size);cases he:y0.toList==x0.toList
   ·skip
    go_wp2_with fail
    refine (Ln y0 y1 B1 d1 n1 y2 y3 y4 B4 d4 n4 _ (Ao t1 bR3) (Ao t4 bR3) hcp (tab.below bR3)).mono ?_;rintro e w4 ⟨C1,p1,m1,C4,p4,m4,rfl,u1,u4,fF,hb_w4⟩;have hz_w4:=hb_w4.size
    (try simp at hz_w4)
    have hF:=Lib.hid fF;have hv:Hid (∀ W,Below w4.heap.size w4 W->Ty.Val (Ic wr.heap.size) W Mi [.string y0,.slice C1 y1.length p1,.int .i64 y2,.int .i64 y3,.slice C4 y4.length p4] (y0,y1,y2,y3,y4) (m1++m4)):=Lib.hid fun W hb=>⟨[_],_,[],_,rfl,⟨rfl,rfl⟩,⟨[_],_,m1,_,rfl,⟨C1,p1,rfl,Bb (fun b _ h=>Nat.le_trans hz3 h) (Ao u1 hb)⟩,⟨[_],_,[],_,rfl,⟨rfl,rfl⟩,⟨[_],_,[],_,rfl,⟨rfl,rfl⟩,⟨C4,p4,rfl,Bb (fun b _ h=>Nat.le_trans hz3 h) (Ao u4 hb)⟩,rfl⟩,rfl⟩,rfl⟩,rfl⟩
    clear u1 u4 fF
    go_wp2_with (at_builtin;refine Q6 (t:=Mi) (y:=(y0,y1,y2,y3,y4)) (cs:=[.string y0,.slice C1 y1.length p1,.int .i64 y2,.int .i64 y3,.slice C4 y4.length p4]) (l:=m1++m4) (z:=.agg #[.string ⟨#[]⟩,.slice none 0 0,.int .i64 0,.int .i64 0,.slice none 0 0]) rfl _ _ 33 rfl 80 Tryz.underlying33 (by kernel_rfl) rfl (by decide) rfl hG' (by repeat (first|with_reducible exact Below.refl _ _|((with_reducible refine Below.setCell ?_ ?_ _);rotate_left;focus (first|(simp;done)|omega|(simp;omega)))|((with_reducible refine Below.alloc ?_ ?_ _);rotate_left;focus (first|(simp;done)|omega|(simp;omega)))|(with_reducible refine Below.drew ?_)|(with_reducible refine below_draws_ ?_ _)|((with_reducible refine Below.trans ?_ (Below.mono hb_w4 ?_));rotate_left;focus (first|(simp;done)|omega|(simp;omega))))) oM (hv.out _ (by repeat (first|with_reducible exact Below.refl _ _|((with_reducible refine Below.setCell ?_ ?_ _);rotate_left;focus (first|(simp;done)|omega|(simp;omega)))|((with_reducible refine Below.alloc ?_ ?_ _);rotate_left;focus (first|(simp;done)|omega|(simp;omega)))|(with_reducible refine Below.drew ?_)|(with_reducible refine below_draws_ ?_ _)))) ((hF.out.below (by repeat (first|with_reducible exact Below.refl _ _|((with_reducible refine Below.setCell ?_ ?_ _);rotate_left;focus (first|(simp;done)|omega|(simp;omega)))|((with_reducible refine Below.alloc ?_ ?_ _);rotate_left;focus (first|(simp;done)|omega|(simp;omega)))|(with_reducible refine Below.drew ?_)|(with_reducible refine below_draws_ ?_ _)))).le hz3) rfl Ait Apw (by rw [List.length_map,List.length_take];omega) (by rw [List.length_map,List.length_take];simp only [maxLen];omega) ?_;intro v' w5 hV hb_w5 hgr)
    refine ⟨⟨k+1,by omega,by congr 1,?_,?_,?_,hbl.trans (Below.trans (Below.mono (show Below wr.heap.size wr _ from (by repeat (first|with_reducible exact Below.refl _ _|((with_reducible refine Below.setCell ?_ ?_ _);rotate_left;focus (first|(simp;done)|omega|(simp;omega)))|((with_reducible refine Below.alloc ?_ ?_ _);rotate_left;focus (first|(simp;done)|omega|(simp;omega)))|(with_reducible refine Below.drew ?_)|(with_reducible refine below_draws_ ?_ _)|((with_reducible refine Below.trans ?_ (Below.mono hb_w4 ?_));rotate_left;focus (first|(simp;done)|omega|(simp;omega)))))) hbl.size) hb_w5)⟩,?_⟩
    ·rw [et,List.any_append];simp [he]
    ·rw [et,List.all_append,hall];simp [he]
    ·rw [et,List.map_append];have e2:[(y0,y1,y2,y3,y4)].map (Pf (x0,x1,x2,x3,x4))=[(y0,y1,y2,y3,y4)]:=by simp [Pf,he]
     rw [e2];exact hV
    ·simp [intOf];omega
   ·have hmay':=hmay he;cases hm:m (y0,y1,y2,y3,y4)
    ·rw [hm] at hmay'
     have hV0:Vk true true m l (x0,x1,x2,x3,x4)=([],false):=by
      unfold Vk;have e1:(l.all fun x=> !(x.1.toList==x0.toList)||m x)=false:=List.all_eq_false.2 ⟨_,hmem,by rw [← hX.out,he,hm];decide⟩;dsimp only;rw [e1,Bool.and_false,Bool.and_false,Bool.and_false];rfl
     go_wp2_with fail
     (refine (Hh (vs:=[.int .i64 p,.agg #[.string y0,.slice B1 y1.length d1,.int .i64 y2,.int .i64 y3,.slice B4 y4.length d4],.agg #[.string x0,.slice A1 x1.length c1,.int .i64 x2,.int .i64 x3,.slice A4 x4.length c4]]) (Kz hmay') (fun _ hb2=>tab.below (bR3.trans (hb2.mono bR3.size))) ⟨_,_,rfl,rfl,⟨_,_,rfl,L5 y0 y1 B1 d1 n1 y2 y3 y4 B4 d4 n4 (Ao t1 bR3) (Ao t4 bR3),⟨_,_,rfl,L5 x0 x1 A1 c1 l1 x2 x3 x4 A4 c4 l4 (Ao s1 bR3) (Ao s4 bR3),rfl⟩⟩⟩).mono ?_;rintro e w3 ⟨rfl,hb_w3⟩;obtain ⟨hc_w3,hf_w3⟩:=Dm hb_w3;have hz_w3:=hb_w3.size;(try simp at hz_w3);have hl_w3_0:w.heap.size<w3.heap.size:=oM;have hl_w3_1:wr.heap.size<w3.heap.size:=oM);go_wp2_with fail
     go_ret2
     rw [hV0];exact ⟨none,0,[],rfl,Aam _ _ _,Fresh.nil _ _,bR.trans (Below.mono (show Below wr.heap.size wr _ from (by repeat (first|with_reducible exact Below.refl _ _|((with_reducible refine Below.setCell ?_ ?_ _);rotate_left;focus (first|(simp;done)|omega|(simp;omega)))|((with_reducible refine Below.alloc ?_ ?_ _);rotate_left;focus (first|(simp;done)|omega|(simp;omega)))|(with_reducible refine Below.drew ?_)|(with_reducible refine below_draws_ ?_ _)|((with_reducible refine Below.trans ?_ (Below.mono hb_w3 ?_));rotate_left;focus (first|(simp;done)|omega|(simp;omega)))))) bR.size)⟩
    rw [hm] at hmay'
    go_wp2_with fail
    (refine (Hh (vs:=[.int .i64 p,.agg #[.string y0,.slice B1 y1.length d1,.int .i64 y2,.int .i64 y3,.slice B4 y4.length d4],.agg #[.string x0,.slice A1 x1.length c1,.int .i64 x2,.int .i64 x3,.slice A4 x4.length c4]]) (Kz hmay') (fun _ hb2=>tab.below (bR3.trans (hb2.mono bR3.size))) ⟨_,_,rfl,rfl,⟨_,_,rfl,L5 y0 y1 B1 d1 n1 y2 y3 y4 B4 d4 n4 (Ao t1 bR3) (Ao t4 bR3),⟨_,_,rfl,L5 x0 x1 A1 c1 l1 x2 x3 x4 A4 c4 l4 (Ao s1 bR3) (Ao s4 bR3),rfl⟩⟩⟩).mono ?_;rintro e w3 ⟨rfl,hb_w3⟩;obtain ⟨hc_w3,hf_w3⟩:=Dm hb_w3;have hz_w3:=hb_w3.size;(try simp at hz_w3);have hl_w3_0:w.heap.size<w3.heap.size:=oM;have hl_w3_1:wr.heap.size<w3.heap.size:=oM);go_wp2_with fail
    have bR4:Below w.heap.size w (((((w3.setCell ⟨wr.heap.size,0,none⟩ (.string x0)).setCell ⟨wr.heap.size,1,none⟩ (.slice A1 x1.length c1)).setCell ⟨wr.heap.size,2,none⟩ (.int .i64 x2)).setCell ⟨wr.heap.size,3,none⟩ (.int .i64 x3)).setCell ⟨wr.heap.size,4,none⟩ (.slice A4 x4.length c4)):=bR.trans (Below.mono (by repeat (first|with_reducible exact Below.refl _ _|((with_reducible refine Below.setCell ?_ ?_ _);rotate_left;focus (first|(simp;done)|omega|(simp;omega)))|((with_reducible refine Below.alloc ?_ ?_ _);rotate_left;focus (first|(simp;done)|omega|(simp;omega)))|(with_reducible refine Below.drew ?_)|(with_reducible refine below_draws_ ?_ _)|((with_reducible refine Below.trans ?_ (Below.mono hb_w3 ?_));rotate_left;focus (first|(simp;done)|omega|(simp;omega))))) bR.size);have hz4:wr.heap.size<=(((((w3.setCell ⟨wr.heap.size,0,none⟩ (.string x0)).setCell ⟨wr.heap.size,1,none⟩ (.slice A1 x1.length c1)).setCell ⟨wr.heap.size,2,none⟩ (.int .i64 x2)).setCell ⟨wr.heap.size,3,none⟩ (.int .i64 x3)).setCell ⟨wr.heap.size,4,none⟩ (.slice A4 x4.length c4)).heap.size:=by simp [World.setCell];omega
    refine (Ln x0 x1 A1 c1 l1 x2 x3 x4 A4 c4 l4 _ (Ao s1 bR4) (Ao s4 bR4) hCb (tab.below bR4)).mono ?_;rintro e w4 ⟨C1,p1,m1,C4,p4,m4,rfl,u1,u4,fF,hb_w4⟩;have hz_w4:=hb_w4.size
    (try simp at hz_w4)
    have hF:=Lib.hid fF;have hv:Hid (∀ W,Below w4.heap.size w4 W->Ty.Val (Ic wr.heap.size) W Mi [.string x0,.slice C1 x1.length p1,.int .i64 x2,.int .i64 x3,.slice C4 x4.length p4] (x0,x1,x2,x3,x4) (m1++m4)):=Lib.hid fun W hb=>⟨[_],_,[],_,rfl,⟨rfl,rfl⟩,⟨[_],_,m1,_,rfl,⟨C1,p1,rfl,Bb (fun b _ h=>Nat.le_trans hz4 h) (Ao u1 hb)⟩,⟨[_],_,[],_,rfl,⟨rfl,rfl⟩,⟨[_],_,[],_,rfl,⟨rfl,rfl⟩,⟨C4,p4,rfl,Bb (fun b _ h=>Nat.le_trans hz4 h) (Ao u4 hb)⟩,rfl⟩,rfl⟩,rfl⟩,rfl⟩
    clear u1 u4 fF
    go_wp2_with (at_builtin;refine Q6 (t:=Mi) (y:=(x0,x1,x2,x3,x4)) (cs:=[.string x0,.slice C1 x1.length p1,.int .i64 x2,.int .i64 x3,.slice C4 x4.length p4]) (l:=m1++m4) (z:=.agg #[.string ⟨#[]⟩,.slice none 0 0,.int .i64 0,.int .i64 0,.slice none 0 0]) rfl _ _ 33 rfl 80 Tryz.underlying33 (by kernel_rfl) rfl (by decide) rfl hG' (by repeat (first|with_reducible exact Below.refl _ _|((with_reducible refine Below.setCell ?_ ?_ _);rotate_left;focus (first|(simp;done)|omega|(simp;omega)))|((with_reducible refine Below.alloc ?_ ?_ _);rotate_left;focus (first|(simp;done)|omega|(simp;omega)))|(with_reducible refine Below.drew ?_)|(with_reducible refine below_draws_ ?_ _)|((with_reducible refine Below.trans ?_ (Below.mono hb_w3 ?_));rotate_left;focus (first|(simp;done)|omega|(simp;omega)))|((with_reducible refine Below.trans ?_ (Below.mono hb_w4 ?_));rotate_left;focus (first|(simp;done)|omega|(simp;omega))))) oM (hv.out _ (by repeat (first|with_reducible exact Below.refl _ _|((with_reducible refine Below.setCell ?_ ?_ _);rotate_left;focus (first|(simp;done)|omega|(simp;omega)))|((with_reducible refine Below.alloc ?_ ?_ _);rotate_left;focus (first|(simp;done)|omega|(simp;omega)))|(with_reducible refine Below.drew ?_)|(with_reducible refine below_draws_ ?_ _)))) ((hF.out.below (by repeat (first|with_reducible exact Below.refl _ _|((with_reducible refine Below.setCell ?_ ?_ _);rotate_left;focus (first|(simp;done)|omega|(simp;omega)))|((with_reducible refine Below.alloc ?_ ?_ _);rotate_left;focus (first|(simp;done)|omega|(simp;omega)))|(with_reducible refine Below.drew ?_)|(with_reducible refine below_draws_ ?_ _)))).le hz4) rfl Ait Apw (by rw [List.length_map,List.length_take];omega) (by rw [List.length_map,List.length_take];simp only [maxLen];omega) ?_;intro v' w5 hV hb_w5 hgr)
    refine ⟨⟨k+1,by omega,by congr 1,?_,?_,?_,hbl.trans (Below.trans (Below.mono (show Below wr.heap.size wr _ from (by repeat (first|with_reducible exact Below.refl _ _|((with_reducible refine Below.setCell ?_ ?_ _);rotate_left;focus (first|(simp;done)|omega|(simp;omega)))|((with_reducible refine Below.alloc ?_ ?_ _);rotate_left;focus (first|(simp;done)|omega|(simp;omega)))|(with_reducible refine Below.drew ?_)|(with_reducible refine below_draws_ ?_ _)|((with_reducible refine Below.trans ?_ (Below.mono hb_w3 ?_));rotate_left;focus (first|(simp;done)|omega|(simp;omega)))|((with_reducible refine Below.trans ?_ (Below.mono hb_w4 ?_));rotate_left;focus (first|(simp;done)|omega|(simp;omega)))))) hbl.size) hb_w5)⟩,?_⟩
    ·rw [et,List.any_append];simp [he]
    ·rw [et,List.all_append,hall];simp [he,hm]
    ·rw [et,List.map_append];have e2:[(y0,y1,y2,y3,y4)].map (Pf (x0,x1,x2,x3,x4))=[(x0,x1,x2,x3,x4)]:=by simp [Pf,he]
     rw [e2];exact hV
    ·simp [intOf];omega
  ·obtain rfl:k=l.length:=by omega
   rw [List.take_length] at hall hG'
   have hV0:Vk true true m l (x0,x1,x2,x3,x4)=if (l.any fun y=>y.1.toList==x0.toList) then (l.map (Pf (x0,x1,x2,x3,x4)),true) else ([],false):=by
    unfold Vk;dsimp only;rw [hall];cases (l.any fun y=>y.1.toList==x0.toList) <;> rfl
   obtain ⟨GB,gd,gm,rfl,hsl,hfr⟩:=hG'.done;rw [List.length_map] at *;cases ha:l.any fun y=>y.1.toList==x0.toList
   ·rw [ha] at hV0;rw [List.take_length,ha]
    go_wp2
    go_ret2
    rw [hV0];exact ⟨none,0,[],rfl,Aam _ _ _,Fresh.nil _ _,bW.trans (hbl.mono bW.size)⟩
   ·rw [ha] at hV0;rw [List.take_length,ha]
    go_wp2
    refine bodyPost_ret (v:=.tuple #[.slice GB l.length gd,.bool true]) (by simp [results,Tryz.results9,go_sem, *]) rfl ?_;exact ⟨GB,gd,rfl,gm,Bb (fun b _ h=>Nat.le_trans bW.size h) hsl,hfr.le bW.size,bW.trans (hbl.mono bW.size)⟩
end
section
open Go.RowKit Go.Deep
set_option maxRecDepth 100000 in
set_option maxHeartbeats 60000000 in
theorem replaceComponent_walk (p:Int) (l:List (ByteArray×(List (Int×Int×ByteArray))×(Int×Int×(List (List Int))))) (A_l:Option Addr) (c_l:Nat) (l_l:List Addr) (bName:ByteArray) (bBodyNodes:List (Int×Int×ByteArray)) (A_bBodyNodes:Option Addr) (c_bBodyNodes:Nat) (l_bBodyNodes:List Addr) (bPromiseLeft:Int) (bPromiseRight:Int) (bPromiseBasis:List (List Int)) (A_bPromiseBasis:Option Addr) (c_bPromiseBasis:Nat) (l_bPromiseBasis:List Addr) (w:World) (i_p: -9223372036854775808<=p/\p<=9223372036854775807) (s_l:Sl (fun _=>True) w (.pair .str (.pair (.slice (.pair .int (.pair .int .str))) (.pair .int (.pair .int (.slice (.slice .int)))))) A_l c_l l l_l) (i_l:Ty.In (.slice (.pair .str (.pair (.slice (.pair .int (.pair .int .str))) (.pair .int (.pair .int (.slice (.slice .int))))))) l) (i_bName:bName.size<=maxLen) (s_bBodyNodes:Sl (fun _=>True) w (.pair .int (.pair .int .str)) A_bBodyNodes c_bBodyNodes bBodyNodes l_bBodyNodes) (i_bBodyNodes:Ty.In (.slice (.pair .int (.pair .int .str))) bBodyNodes) (i_bPromiseLeft: -9223372036854775808<=bPromiseLeft/\bPromiseLeft<=9223372036854775807) (i_bPromiseRight: -9223372036854775808<=bPromiseRight/\bPromiseRight<=9223372036854775807) (s_bPromiseBasis:Sl (fun _=>True) w (.slice .int) A_bPromiseBasis c_bPromiseBasis bPromiseBasis l_bPromiseBasis) (i_bPromiseBasis:Ty.In (.slice (.slice .int)) bPromiseBasis) (tab:Tab w) :
  Calls Tryz.prog 3 #[.int .i64 p,.slice A_l l.length c_l,.agg #[.string bName,.slice A_bBodyNodes bBodyNodes.length c_bBodyNodes,.int .i64 bPromiseLeft,.int .i64 bPromiseRight,.slice A_bPromiseBasis bPromiseBasis.length c_bPromiseBasis]] w fun e w'=>e=.returned (.bool true)/\Below w.heap.size w w':=by
 obtain ⟨y0,hy0,e0|⟨p0,q0,hn_l,hok_l⟩⟩:=Amn l (v:=1048576) oM (Hl s_l).2 (Anf s_l i_l)
 ·skip
  go_enter Tryz.func3,Tryz.ntmps3
  go_wp2_with fail
  (refine (Io l A_l c_l l_l hy0 _ (Ao s_l bw) (tab.below bw)).mono ?_;rintro e w1 ⟨rfl,hb_w1⟩;obtain ⟨hc_w1,hf_w1⟩:=Dm hb_w1;have hz_w1:=hb_w1.size;(try simp at hz_w1);have hl_w1_0:w.heap.size<w1.heap.size:=oM);go_wp2_with fail
  go_ret
  exact ⟨rfl,bw⟩
 obtain ⟨y1,hy1,e1|⟨p1,q1,ha_b,hb_b,hc_b⟩⟩:=Pz bName bBodyNodes bPromiseLeft bPromiseRight bPromiseBasis (v:=y0) oM (Nat.le_trans i_bName (by decide)) (Hl s_bBodyNodes).2 (fun n hn=>Nat.le_trans (i_bBodyNodes n hn).2.2 (by decide)) (Hl s_bPromiseBasis).2 (Af4 s_bPromiseBasis)
 ·skip
  go_enter Tryz.func3,Tryz.ntmps3
  go_wp2_with fail
  (refine (Io l A_l c_l l_l hy0 _ (Ao s_l bw) (tab.below bw)).mono ?_;rintro e w1 ⟨rfl,hb_w1⟩;obtain ⟨hc_w1,hf_w1⟩:=Dm hb_w1;have hz_w1:=hb_w1.size;(try simp at hz_w1);have hl_w1_0:w.heap.size<w1.heap.size:=oM);go_wp2_with fail
  (refine (Nn bName bBodyNodes A_bBodyNodes c_bBodyNodes l_bBodyNodes bPromiseLeft bPromiseRight bPromiseBasis A_bPromiseBasis c_bPromiseBasis l_bPromiseBasis hy1 _ (Ao s_bBodyNodes bw) (Ao s_bPromiseBasis bw) (tab.below bw)).mono ?_;rintro e w2 ⟨rfl,hb_w2⟩;obtain ⟨hc_w2,hf_w2⟩:=Dm hb_w2;have hz_w2:=hb_w2.size;(try simp at hz_w2);have hl_w2_0:w.heap.size<w2.heap.size:=oM);go_wp2_with fail
  go_ret
  exact ⟨rfl,bw⟩
 obtain ⟨V,hSp,hIm,hv1,hv2⟩:=Ah7 (p:=p) (b:=(bName,bBodyNodes,bPromiseLeft,bPromiseRight,bPromiseBasis)) hn_l hok_l ⟨ha_b,hb_b,hc_b⟩ (fun x hx=>(i_l x hx).1)
 go_enter Tryz.func3,Tryz.ntmps3
 go_wp2_with fail
 (refine (Io l A_l c_l l_l hy0 _ (Ao s_l bw) (tab.below bw)).mono ?_;rintro e w1 ⟨rfl,hb_w1⟩;obtain ⟨hc_w1,hf_w1⟩:=Dm hb_w1;have hz_w1:=hb_w1.size;(try simp at hz_w1);have hl_w1_0:w.heap.size<w1.heap.size:=oM);go_wp2_with fail
 (refine (Nn bName bBodyNodes A_bBodyNodes c_bBodyNodes l_bBodyNodes bPromiseLeft bPromiseRight bPromiseBasis A_bPromiseBasis c_bPromiseBasis l_bPromiseBasis hy1 _ (Ao s_bBodyNodes bw) (Ao s_bPromiseBasis bw) (tab.below bw)).mono ?_;rintro e w2 ⟨rfl,hb_w2⟩;obtain ⟨hc_w2,hf_w2⟩:=Dm hb_w2;have hz_w2:=hb_w2.size;(try simp at hz_w2);have hl_w2_0:w.heap.size<w2.heap.size:=oM);go_wp2_with fail
 have kf_w2:Below w.heap.size w w2:=bw;have kb0_w2:Below (w.alloc (.cells #[.string bName,.slice A_bBodyNodes bBodyNodes.length c_bBodyNodes,.int .i64 bPromiseLeft,.int .i64 bPromiseRight,.slice A_bPromiseBasis bPromiseBasis.length c_bPromiseBasis] 30)).heap.size (w.alloc (.cells #[.string bName,.slice A_bBodyNodes bBodyNodes.length c_bBodyNodes,.int .i64 bPromiseLeft,.int .i64 bPromiseRight,.slice A_bPromiseBasis bPromiseBasis.length c_bPromiseBasis] 30)) w2:=bw;have kc0_w2_0:=Af kb0_w2 (p:=⟨w.heap.size,0,none⟩) (u:=.string bName) (by simp);have kc0_w2_1:=Af kb0_w2 (p:=⟨w.heap.size,1,none⟩) (u:=.slice A_bBodyNodes bBodyNodes.length c_bBodyNodes) (by simp);have kc0_w2_2:=Af kb0_w2 (p:=⟨w.heap.size,2,none⟩) (u:=.int .i64 bPromiseLeft) (by simp);have kc0_w2_3:=Af kb0_w2 (p:=⟨w.heap.size,3,none⟩) (u:=.int .i64 bPromiseRight) (by simp);have kc0_w2_4:=Af kb0_w2 (p:=⟨w.heap.size,4,none⟩) (u:=.slice A_bPromiseBasis bPromiseBasis.length c_bPromiseBasis) (by simp)
 go_region_held3 (fun w'=>Below w.heap.size w w'/\w'.cell? ⟨w.heap.size,0,none⟩=some (.string bName)/\w'.cell? ⟨w.heap.size,1,none⟩=some (.slice A_bBodyNodes bBodyNodes.length c_bBodyNodes)/\w'.cell? ⟨w.heap.size,2,none⟩=some (.int .i64 bPromiseLeft)/\w'.cell? ⟨w.heap.size,3,none⟩=some (.int .i64 bPromiseRight)/\w'.cell? ⟨w.heap.size,4,none⟩=some (.slice A_bPromiseBasis bPromiseBasis.length c_bPromiseBasis))
  (first|((with_reducible show Below _ _ w3/\_);go_split_ands;exact ⟨Below.trans (by assumption) (hb_w3.mono ol),(hb_w3.cell (show w.heap.size<_ from ol)).trans (by assumption),(hb_w3.cell (show w.heap.size<_ from ol)).trans (by assumption),(hb_w3.cell (show w.heap.size<_ from ol)).trans (by assumption),(hb_w3.cell (show w.heap.size<_ from ol)).trans (by assumption),(hb_w3.cell (show w.heap.size<_ from ol)).trans (by assumption)⟩)|((with_reducible show Below _ _ w4/\_);go_split_ands;exact ⟨Below.trans (by assumption) (hb_w4.mono ol),(hb_w4.cell (show w.heap.size<_ from ol)).trans (by assumption),(hb_w4.cell (show w.heap.size<_ from ol)).trans (by assumption),(hb_w4.cell (show w.heap.size<_ from ol)).trans (by assumption),(hb_w4.cell (show w.heap.size<_ from ol)).trans (by assumption),(hb_w4.cell (show w.heap.size<_ from ol)).trans (by assumption)⟩)|((with_reducible show Below _ _ w5/\_);go_split_ands;exact ⟨Below.trans (by assumption) (hb_w5.mono ol),(hb_w5.cell (show w.heap.size<_ from ol)).trans (by assumption),(hb_w5.cell (show w.heap.size<_ from ol)).trans (by assumption),(hb_w5.cell (show w.heap.size<_ from ol)).trans (by assumption),(hb_w5.cell (show w.heap.size<_ from ol)).trans (by assumption),(hb_w5.cell (show w.heap.size<_ from ol)).trans (by assumption)⟩)|(go_split_ands;exact ⟨alloc_swap (by assumption) ol,alloc_swap_has (by assumption) (show w.heap.size<_ from ol),alloc_swap_has (by assumption) (show w.heap.size<_ from ol),alloc_swap_has (by assumption) (show w.heap.size<_ from ol),alloc_swap_has (by assumption) (show w.heap.size<_ from ol),alloc_swap_has (by assumption) (show w.heap.size<_ from ol)⟩)|exact ⟨kf_w2.drew,kc0_w2_0,kc0_w2_1,kc0_w2_2,kc0_w2_3,kc0_w2_4⟩|exact ⟨alloc_drew_below kf_w2 ol,alloc_drew_has kc0_w2_0,alloc_drew_has kc0_w2_1,alloc_drew_has kc0_w2_2,alloc_drew_has kc0_w2_3,alloc_drew_has kc0_w2_4⟩|(go_split_ands;refine ⟨?_,?_,?_,?_,?_,?_⟩;(focus (repeat (first|assumption|((with_reducible refine Below.setCell ?_ ?_ _);rotate_left;focus (first|(simp;done)|omega|(simp;omega)))|((with_reducible refine Below.alloc ?_ ?_ _);rotate_left;focus (first|(simp;done)|omega|(simp;omega))))));all_goals go_keep))
  (first
   | (go_at_call 7;(with_reducible show Calls _ _ #[.slice A_l l.length c_l] _ _);(try go_split_ands);refine (Fx l A_l c_l l_l _ (by exact Ao s_l (by assumption)) hn_l hok_l (tab.below (by assumption))).mono ?_;rintro e w3 ⟨g3,d3,m3,rfl,t3,f3,hb_w3⟩;have hz_w3:=hb_w3.size;(try simp at hz_w3);have hl_w3_h0:w.heap.size<w3.heap.size:=oM)
   | (go_at_call 8;(with_reducible show Calls _ _ #[.agg #[.string bName,.slice A_bBodyNodes bBodyNodes.length c_bBodyNodes,.int .i64 bPromiseLeft,.int .i64 bPromiseRight,.slice A_bPromiseBasis bPromiseBasis.length c_bPromiseBasis]] _ _);(try go_split_ands);refine (Eo bName bBodyNodes A_bBodyNodes c_bBodyNodes l_bBodyNodes bPromiseLeft bPromiseRight bPromiseBasis A_bPromiseBasis c_bPromiseBasis l_bPromiseBasis _ (by exact Ao s_bBodyNodes (by assumption)) (by exact Ao s_bPromiseBasis (by assumption)) ⟨ha_b,hb_b,hc_b⟩ (tab.below (by assumption))).mono ?_;rintro e w4 ⟨B4_1,d4_1,m4_1,B4_4,d4_4,m4_4,rfl,t4_1,t4_4,f4,hb_w4⟩;have hz_w4:=hb_w4.size;(try simp at hz_w4);have hl_w4_h0:w.heap.size<w4.heap.size:=oM)
   | (go_at_call 6;(with_reducible show Calls _ _ #[.int .i64 p,.slice (some ⟨g3,0,none⟩) l.length d3,.agg #[.string bName,.slice B4_1 bBodyNodes.length d4_1,.int .i64 bPromiseLeft,.int .i64 bPromiseRight,.slice B4_4 bPromiseBasis.length d4_4]] _ _);(try go_split_ands);refine (Ma p l (some ⟨g3,0,none⟩) d3 m3 bName bBodyNodes B4_1 d4_1 m4_1 bPromiseLeft bPromiseRight bPromiseBasis B4_4 d4_4 m4_4 _ (Ao t3 bw) (Ao t4_1 bw) (Ao t4_4 bw) hSp (tab.below (by assumption))).mono ?_;rintro e w5 ⟨B5_0_0,d5_0_0,m5_0_0,rfl,t5_0_0,hb_w5⟩;have hz_w5:=hb_w5.size;(try simp at hz_w5);have hl_w5_h0:w.heap.size<w5.heap.size:=oM))
 obtain ⟨hc_w3,hf_w3⟩:=Dm hb_w3;have hz_w3:w2.heap.size<=w3.heap.size:=(by have h_:=hb_w3.size;(try simp at h_);exact h_)
 have hl_w3_0:w.heap.size<w3.heap.size:=oM;obtain ⟨hc_w4,hf_w4⟩:=Dm hb_w4;have hz_w4:w3.heap.size<=w4.heap.size:=(by have h_:=hb_w4.size;(try simp at h_);exact h_)
 have hl_w4_0:w.heap.size<w4.heap.size:=oM;obtain ⟨hc_w5,hf_w5⟩:=Dm hb_w5;have hz_w5:w4.heap.size<=w5.heap.size:=(by have h_:=hb_w5.size;(try simp at h_);exact h_)
 have hl_w5_0:w.heap.size<w5.heap.size:=oM
 go_wp2_with fail
 (refine (Fx l A_l c_l l_l _ (Ao s_l bw) hn_l hok_l (tab.below bw)).mono ?_;rintro e w6 ⟨g6,d6,m6,rfl,t6,f6,hb_w6⟩;obtain ⟨hc_w6,hf_w6⟩:=Dm hb_w6;have hz_w6:=hb_w6.size;(try simp at hz_w6);have hl_w6_0:w.heap.size<w6.heap.size:=oM);go_wp2_with fail
 (refine (Eo bName bBodyNodes A_bBodyNodes c_bBodyNodes l_bBodyNodes bPromiseLeft bPromiseRight bPromiseBasis A_bPromiseBasis c_bPromiseBasis l_bPromiseBasis _ (Ao s_bBodyNodes bw) (Ao s_bPromiseBasis bw) ⟨ha_b,hb_b,hc_b⟩ (tab.below bw)).mono ?_;rintro e w7 ⟨B7_1,d7_1,m7_1,B7_4,d7_4,m7_4,rfl,t7_1,t7_4,f7,hb_w7⟩;obtain ⟨hc_w7,hf_w7⟩:=Dm hb_w7;have hz_w7:=hb_w7.size;(try simp at hz_w7);have hl_w7_0:w.heap.size<w7.heap.size:=oM);go_wp2_with fail
 (refine (Gw p l (some ⟨g6,0,none⟩) d6 m6 bName bBodyNodes B7_1 d7_1 m7_1 bPromiseLeft bPromiseRight bPromiseBasis B7_4 d7_4 m7_4 _ (Ao t6 bw) (Ao t7_1 bw) (Ao t7_4 bw) hIm (tab.below bw)).mono ?_;rintro e w8 ⟨B8_0_0,d8_0_0,m8_0_0,rfl,t8_0_0,f8,hb_w8⟩;obtain ⟨hc_w8,hf_w8⟩:=Dm hb_w8;have hz_w8:=hb_w8.size;(try simp at hz_w8);have hl_w8_0:w.heap.size<w8.heap.size:=oM;have hl_w8_1:w7.heap.size<w8.heap.size:=oM);go_wp2_with fail
 (refine (Ff V.1 B8_0_0 d8_0_0 m8_0_0 B5_0_0 d5_0_0 m5_0_0 _ (Ao t8_0_0 bw) (Ao t5_0_0 bw) hv1 hv2 (tab.below bw)).mono ?_;rintro e w9 ⟨rfl,hb_w9⟩;obtain ⟨hc_w9,hf_w9⟩:=Dm hb_w9;have hz_w9:=hb_w9.size;(try simp at hz_w9);have hl_w9_0:w.heap.size<w9.heap.size:=oM;have hl_w9_1:w7.heap.size<w9.heap.size:=oM);go_wp2_with fail
 (refine (Fx l A_l c_l l_l _ (Ao s_l bw) hn_l hok_l (tab.below bw)).mono ?_;rintro e w10 ⟨g10,d10,m10,rfl,t10,f10,hb_w10⟩;obtain ⟨hc_w10,hf_w10⟩:=Dm hb_w10;have hz_w10:=hb_w10.size;(try simp at hz_w10);have hl_w10_0:w.heap.size<w10.heap.size:=oM;have hl_w10_1:w7.heap.size<w10.heap.size:=oM);go_wp2_with fail
 (refine (Ff l (some ⟨g6,0,none⟩) d6 m6 (some ⟨g10,0,none⟩) d10 m10 _ (Ao t6 bw) (Ao t10 bw) hn_l hok_l (tab.below bw)).mono ?_;rintro e w11 ⟨rfl,hb_w11⟩;obtain ⟨hc_w11,hf_w11⟩:=Dm hb_w11;have hz_w11:=hb_w11.size;(try simp at hz_w11);have hl_w11_0:w.heap.size<w11.heap.size:=oM;have hl_w11_1:w7.heap.size<w11.heap.size:=oM);go_wp2_with fail
 have bA12:Below w.heap.size w w11:=bw;have bX12:Below w7.heap.size w7 w11:=bw;have bT12:Tab w11:=(tab.below bw)
 have bB12_0:Below (w.alloc (.cells #[.string bName,.slice A_bBodyNodes bBodyNodes.length c_bBodyNodes,.int .i64 bPromiseLeft,.int .i64 bPromiseRight,.slice A_bPromiseBasis bPromiseBasis.length c_bPromiseBasis] 30)).heap.size (w.alloc (.cells #[.string bName,.slice A_bBodyNodes bBodyNodes.length c_bBodyNodes,.int .i64 bPromiseLeft,.int .i64 bPromiseRight,.slice A_bPromiseBasis bPromiseBasis.length c_bPromiseBasis] 30)) w11:=bw;have k12_0_0:=Af bB12_0 (p:=⟨w.heap.size,0,none⟩) (u:=.string bName) (by simp);have k12_0_1:=Af bB12_0 (p:=⟨w.heap.size,1,none⟩) (u:=.slice A_bBodyNodes bBodyNodes.length c_bBodyNodes) (by simp);have k12_0_2:=Af bB12_0 (p:=⟨w.heap.size,2,none⟩) (u:=.int .i64 bPromiseLeft) (by simp);have k12_0_3:=Af bB12_0 (p:=⟨w.heap.size,3,none⟩) (u:=.int .i64 bPromiseRight) (by simp);have k12_0_4:=Af bB12_0 (p:=⟨w.heap.size,4,none⟩) (u:=.slice A_bPromiseBasis bPromiseBasis.length c_bPromiseBasis) (by simp);have bB12_1:Below (w7.alloc (.cells #[.string bName,.slice B7_1 bBodyNodes.length d7_1,.int .i64 bPromiseLeft,.int .i64 bPromiseRight,.slice B7_4 bPromiseBasis.length d7_4] 42)).heap.size (w7.alloc (.cells #[.string bName,.slice B7_1 bBodyNodes.length d7_1,.int .i64 bPromiseLeft,.int .i64 bPromiseRight,.slice B7_4 bPromiseBasis.length d7_4] 42)) w11:=bw;have k12_1_0:=Af bB12_1 (p:=⟨w7.heap.size,0,none⟩) (u:=.string bName) (by simp);have k12_1_1:=Af bB12_1 (p:=⟨w7.heap.size,1,none⟩) (u:=.slice B7_1 bBodyNodes.length d7_1) (by simp);have k12_1_2:=Af bB12_1 (p:=⟨w7.heap.size,2,none⟩) (u:=.int .i64 bPromiseLeft) (by simp);have k12_1_3:=Af bB12_1 (p:=⟨w7.heap.size,3,none⟩) (u:=.int .i64 bPromiseRight) (by simp);have k12_1_4:=Af bB12_1 (p:=⟨w7.heap.size,4,none⟩) (u:=.slice B7_4 bPromiseBasis.length d7_4) (by simp)
 go_region_held3 (fun w'=>Below w11.heap.size w11 w'/\w'.cell? ⟨w.heap.size,0,none⟩=some (.string bName)/\w'.cell? ⟨w.heap.size,1,none⟩=some (.slice A_bBodyNodes bBodyNodes.length c_bBodyNodes)/\w'.cell? ⟨w.heap.size,2,none⟩=some (.int .i64 bPromiseLeft)/\w'.cell? ⟨w.heap.size,3,none⟩=some (.int .i64 bPromiseRight)/\w'.cell? ⟨w.heap.size,4,none⟩=some (.slice A_bPromiseBasis bPromiseBasis.length c_bPromiseBasis)/\w'.cell? ⟨w7.heap.size,0,none⟩=some (.string bName)/\w'.cell? ⟨w7.heap.size,1,none⟩=some (.slice B7_1 bBodyNodes.length d7_1)/\w'.cell? ⟨w7.heap.size,2,none⟩=some (.int .i64 bPromiseLeft)/\w'.cell? ⟨w7.heap.size,3,none⟩=some (.int .i64 bPromiseRight)/\w'.cell? ⟨w7.heap.size,4,none⟩=some (.slice B7_4 bPromiseBasis.length d7_4))
  (first|(go_split_ands;exact ⟨Below.trans (by assumption) (hb_w12.mono (Below.size (by assumption))),Af hb_w12 (by assumption),Af hb_w12 (by assumption),Af hb_w12 (by assumption),Af hb_w12 (by assumption),Af hb_w12 (by assumption),Af hb_w12 (by assumption),Af hb_w12 (by assumption),Af hb_w12 (by assumption),Af hb_w12 (by assumption),Af hb_w12 (by assumption)⟩)|(go_split_ands;exact ⟨Below.trans (by assumption) (hb_w13.mono (Below.size (by assumption))),Af hb_w13 (by assumption),Af hb_w13 (by assumption),Af hb_w13 (by assumption),Af hb_w13 (by assumption),Af hb_w13 (by assumption),Af hb_w13 (by assumption),Af hb_w13 (by assumption),Af hb_w13 (by assumption),Af hb_w13 (by assumption),Af hb_w13 (by assumption)⟩)|exact ⟨(Below.refl _ _).drew,k12_0_0,k12_0_1,k12_0_2,k12_0_3,k12_0_4,k12_1_0,k12_1_1,k12_1_2,k12_1_3,k12_1_4⟩|go_keep)
  (first
   | (go_at_call 8;(try go_split_ands);refine (Eo bName bBodyNodes A_bBodyNodes c_bBodyNodes l_bBodyNodes bPromiseLeft bPromiseRight bPromiseBasis A_bPromiseBasis c_bPromiseBasis l_bPromiseBasis _ (by exact Ao s_bBodyNodes (bA12.trans (Below.mono (by assumption) bA12.size))) (by exact Ao s_bPromiseBasis (bA12.trans (Below.mono (by assumption) bA12.size))) ⟨ha_b,hb_b,hc_b⟩ (bT12.below (by assumption))).mono ?_;rintro e w12 ⟨B12_1,d12_1,m12_1,B12_4,d12_4,m12_4,rfl,t12_1,t12_4,_,hb_w12⟩)
   | (go_at_call 11;(try go_split_ands);refine (Sk bName bBodyNodes B7_1 d7_1 m7_1 bPromiseLeft bPromiseRight bPromiseBasis B7_4 d7_4 m7_4 B12_1 d12_1 m12_1 B12_4 d12_4 m12_4 _ (by exact Ao t7_1 (bX12.trans (Below.mono (by assumption) bX12.size))) (by exact Ao t7_4 (bX12.trans (Below.mono (by assumption) bX12.size))) t12_1 t12_4 ⟨ha_b,hb_b,hc_b⟩ (bT12.below (by assumption))).mono ?_;rintro e w13 ⟨rfl,hb_w13⟩))
 have hsz_w12:=Nat.le_trans bA12.size hb_w12.size;have hsy_w13:=Nat.le_trans hsz_w12 hb_w13.size;obtain ⟨hc_w12,hf_w12⟩:=Dm hb_w12;have hz_w12:w11.heap.size<=w12.heap.size:=hb_w12.size;have hl_w12_0:w.heap.size<w12.heap.size:=oM;have hl_w12_1:w7.heap.size<w12.heap.size:=oM;obtain ⟨hc_w13,hf_w13⟩:=Dm hb_w13;have hz_w13:w12.heap.size<=w13.heap.size:=hb_w13.size;have hl_w13_0:w.heap.size<w13.heap.size:=oM;have hl_w13_1:w7.heap.size<w13.heap.size:=oM
 go_wp2_with fail
 have F14:Fresh w13 _ _:=Fresh.below f6 bw;have hl14_t6:=Afv t6 hn_l hok_l;have cb14_1:=(show Below (w.alloc (.cells #[.string bName,.slice A_bBodyNodes bBodyNodes.length c_bBodyNodes,.int .i64 bPromiseLeft,.int .i64 bPromiseRight,.slice A_bPromiseBasis bPromiseBasis.length c_bPromiseBasis] 30)).heap.size (w.alloc (.cells #[.string bName,.slice A_bBodyNodes bBodyNodes.length c_bBodyNodes,.int .i64 bPromiseLeft,.int .i64 bPromiseRight,.slice A_bPromiseBasis bPromiseBasis.length c_bPromiseBasis] 30)) w13 from bw)
 have cb14_1_0:=Af cb14_1 (p:=⟨w.heap.size,0,none⟩) (u:=.string bName) (by simp);have cb14_1_1:=Af cb14_1 (p:=⟨w.heap.size,1,none⟩) (u:=.slice A_bBodyNodes bBodyNodes.length c_bBodyNodes) (by simp);have cb14_1_2:=Af cb14_1 (p:=⟨w.heap.size,2,none⟩) (u:=.int .i64 bPromiseLeft) (by simp);have cb14_1_3:=Af cb14_1 (p:=⟨w.heap.size,3,none⟩) (u:=.int .i64 bPromiseRight) (by simp);have cb14_1_4:=Af cb14_1 (p:=⟨w.heap.size,4,none⟩) (u:=.slice A_bPromiseBasis bPromiseBasis.length c_bPromiseBasis) (by simp);have cb14_6:=(show Below (w7.alloc (.cells #[.string bName,.slice B7_1 bBodyNodes.length d7_1,.int .i64 bPromiseLeft,.int .i64 bPromiseRight,.slice B7_4 bPromiseBasis.length d7_4] 42)).heap.size (w7.alloc (.cells #[.string bName,.slice B7_1 bBodyNodes.length d7_1,.int .i64 bPromiseLeft,.int .i64 bPromiseRight,.slice B7_4 bPromiseBasis.length d7_4] 42)) w13 from bw)
 have cb14_6_0:=Af cb14_6 (p:=⟨w7.heap.size,0,none⟩) (u:=.string bName) (by simp);have cb14_6_1:=Af cb14_6 (p:=⟨w7.heap.size,1,none⟩) (u:=.slice B7_1 bBodyNodes.length d7_1) (by simp);have cb14_6_2:=Af cb14_6 (p:=⟨w7.heap.size,2,none⟩) (u:=.int .i64 bPromiseLeft) (by simp);have cb14_6_3:=Af cb14_6 (p:=⟨w7.heap.size,3,none⟩) (u:=.int .i64 bPromiseRight) (by simp);have cb14_6_4:=Af cb14_6 (p:=⟨w7.heap.size,4,none⟩) (u:=.slice B7_4 bPromiseBasis.length d7_4) (by simp);refine (Kp l (some ⟨g6,0,none⟩) d6 m6 (1) _ _ (Ao t6 bw) F14 oM tab bw om).mono ?_;rintro e w14 ⟨rfl,mk14⟩;have hb_w14:=mk14.belowAt (fun p hp=>(F14.2 p hp).1) om;have hz_w14:w13.heap.size<=w14.heap.size:=mk14.size;have hl_w14_0:w.heap.size<w14.heap.size:=oM;have hl_w14_1:w7.heap.size<w14.heap.size:=oM;have mb14_1_0:w14.cell? ⟨w.heap.size,0,none⟩=some (.string bName):=(mk14.frame.cell _ (show w.heap.size<_ by omega) (fun hp=>by have h1:_<=w.heap.size:=(f6.2 _ hp).1;have h2:w.heap.size<_:=(f6.2 _ hp).2.1;(try simp at h1);omega)).trans cb14_1_0;have mb14_1_1:w14.cell? ⟨w.heap.size,1,none⟩=some (.slice A_bBodyNodes bBodyNodes.length c_bBodyNodes):=(mk14.frame.cell _ (show w.heap.size<_ by omega) (fun hp=>by have h1:_<=w.heap.size:=(f6.2 _ hp).1;have h2:w.heap.size<_:=(f6.2 _ hp).2.1;(try simp at h1);omega)).trans cb14_1_1;have mb14_1_2:w14.cell? ⟨w.heap.size,2,none⟩=some (.int .i64 bPromiseLeft):=(mk14.frame.cell _ (show w.heap.size<_ by omega) (fun hp=>by have h1:_<=w.heap.size:=(f6.2 _ hp).1;have h2:w.heap.size<_:=(f6.2 _ hp).2.1;(try simp at h1);omega)).trans cb14_1_2;have mb14_1_3:w14.cell? ⟨w.heap.size,3,none⟩=some (.int .i64 bPromiseRight):=(mk14.frame.cell _ (show w.heap.size<_ by omega) (fun hp=>by have h1:_<=w.heap.size:=(f6.2 _ hp).1;have h2:w.heap.size<_:=(f6.2 _ hp).2.1;(try simp at h1);omega)).trans cb14_1_3;have mb14_1_4:w14.cell? ⟨w.heap.size,4,none⟩=some (.slice A_bPromiseBasis bPromiseBasis.length c_bPromiseBasis):=(mk14.frame.cell _ (show w.heap.size<_ by omega) (fun hp=>by have h1:_<=w.heap.size:=(f6.2 _ hp).1;have h2:w.heap.size<_:=(f6.2 _ hp).2.1;(try simp at h1);omega)).trans cb14_1_4;have mb14_6_0:w14.cell? ⟨w7.heap.size,0,none⟩=some (.string bName):=(mk14.frame.cell _ (show w7.heap.size<_ by omega) (fun hp=>by have h1:_<=w7.heap.size:=(f6.2 _ hp).1;have h2:w7.heap.size<_:=(f6.2 _ hp).2.1;(try simp at h1);omega)).trans cb14_6_0;have mb14_6_1:w14.cell? ⟨w7.heap.size,1,none⟩=some (.slice B7_1 bBodyNodes.length d7_1):=(mk14.frame.cell _ (show w7.heap.size<_ by omega) (fun hp=>by have h1:_<=w7.heap.size:=(f6.2 _ hp).1;have h2:w7.heap.size<_:=(f6.2 _ hp).2.1;(try simp at h1);omega)).trans cb14_6_1;have mb14_6_2:w14.cell? ⟨w7.heap.size,2,none⟩=some (.int .i64 bPromiseLeft):=(mk14.frame.cell _ (show w7.heap.size<_ by omega) (fun hp=>by have h1:_<=w7.heap.size:=(f6.2 _ hp).1;have h2:w7.heap.size<_:=(f6.2 _ hp).2.1;(try simp at h1);omega)).trans cb14_6_2;have mb14_6_3:w14.cell? ⟨w7.heap.size,3,none⟩=some (.int .i64 bPromiseRight):=(mk14.frame.cell _ (show w7.heap.size<_ by omega) (fun hp=>by have h1:_<=w7.heap.size:=(f6.2 _ hp).1;have h2:w7.heap.size<_:=(f6.2 _ hp).2.1;(try simp at h1);omega)).trans cb14_6_3;have mb14_6_4:w14.cell? ⟨w7.heap.size,4,none⟩=some (.slice B7_4 bPromiseBasis.length d7_4):=(mk14.frame.cell _ (show w7.heap.size<_ by omega) (fun hp=>by have h1:_<=w7.heap.size:=(f6.2 _ hp).1;have h2:w7.heap.size<_:=(f6.2 _ hp).2.1;(try simp at h1);omega)).trans cb14_6_4;have t7_1m14:=Kw (Ao t7_1 bw) (mk14.aboveAt (fun p hp=>by have h2:=(f6.2 p hp).2.1;first|omega|(simp;omega))) (fun _ h=>h);have t7_4m14:=Kw (Ao t7_4 bw) (mk14.aboveAt (fun p hp=>by have h2:=(f6.2 p hp).2.1;first|omega|(simp;omega))) (fun _ h=>h);have f7m14:=Fresh.above (Fresh.below f7 bw) (mk14.aboveAt (fun p hp=>by have h2:=(f6.2 p hp).2.1;first|omega|(simp;omega)));have t8_0_0m14:=Kw (Ao t8_0_0 bw) (mk14.aboveAt (fun p hp=>by have h2:=(f6.2 p hp).2.1;first|omega|(simp;omega))) (fun _ h=>h);have f8m14:=Fresh.above (Fresh.below f8 bw) (mk14.aboveAt (fun p hp=>by have h2:=(f6.2 p hp).2.1;first|omega|(simp;omega)));have t10m14:=Kw (Ao t10 bw) (mk14.aboveAt (fun p hp=>by have h2:=(f6.2 p hp).2.1;first|omega|(simp;omega))) (fun _ h=>h);have f10m14:=Fresh.above (Fresh.below f10 bw) (mk14.aboveAt (fun p hp=>by have h2:=(f6.2 p hp).2.1;first|omega|(simp;omega)))
 go_wp2_with fail
 have F15:Fresh w14 _ _:=Fresh.below f7m14 bw;have hl15_t7_1m14:=Am3 t7_1m14 ha_b;have hl15_t7_4m14:=Amu t7_4m14 hb_b hc_b;have cb15_1:=(show Below (w14).heap.size (w14) w14 from bw)
 have cb15_1_0:=Af cb15_1 (p:=⟨w.heap.size,0,none⟩) (u:=.string bName) mb14_1_0;have cb15_1_1:=Af cb15_1 (p:=⟨w.heap.size,1,none⟩) (u:=.slice A_bBodyNodes bBodyNodes.length c_bBodyNodes) mb14_1_1;have cb15_1_2:=Af cb15_1 (p:=⟨w.heap.size,2,none⟩) (u:=.int .i64 bPromiseLeft) mb14_1_2;have cb15_1_3:=Af cb15_1 (p:=⟨w.heap.size,3,none⟩) (u:=.int .i64 bPromiseRight) mb14_1_3;have cb15_1_4:=Af cb15_1 (p:=⟨w.heap.size,4,none⟩) (u:=.slice A_bPromiseBasis bPromiseBasis.length c_bPromiseBasis) mb14_1_4;have cb15_6:=(show Below (w14).heap.size (w14) w14 from bw)
 have cb15_6_0:=Af cb15_6 (p:=⟨w7.heap.size,0,none⟩) (u:=.string bName) mb14_6_0;have cb15_6_1:=Af cb15_6 (p:=⟨w7.heap.size,1,none⟩) (u:=.slice B7_1 bBodyNodes.length d7_1) mb14_6_1;have cb15_6_2:=Af cb15_6 (p:=⟨w7.heap.size,2,none⟩) (u:=.int .i64 bPromiseLeft) mb14_6_2;have cb15_6_3:=Af cb15_6 (p:=⟨w7.heap.size,3,none⟩) (u:=.int .i64 bPromiseRight) mb14_6_3;have cb15_6_4:=Af cb15_6 (p:=⟨w7.heap.size,4,none⟩) (u:=.slice B7_4 bPromiseBasis.length d7_4) mb14_6_4;have hL15:(m7_1++(m7_4)).length=m7_1.length+m7_4.length:=by simp
 refine (Rk bName bBodyNodes B7_1 d7_1 m7_1 bPromiseLeft bPromiseRight bPromiseBasis B7_4 d7_4 m7_4 ((1)+((m6).length:Int)) _ _ (Ao t7_1m14 bw) (Ao t7_4m14 bw) F15 oM tab bw om).mono ?_;rintro e w15 ⟨rfl,mk15⟩;have hb_w15:=mk15.belowAt (fun p hp=>(F15.2 p hp).1) om;have hz_w15:w14.heap.size<=w15.heap.size:=mk15.size;have hl_w15_0:w.heap.size<w15.heap.size:=oM;have hl_w15_1:w7.heap.size<w15.heap.size:=oM;have mb15_1_0:w15.cell? ⟨w.heap.size,0,none⟩=some (.string bName):=(mk15.frame.cell _ (show w.heap.size<_ by omega) (fun hp=>by have h1:_<=w.heap.size:=(f7.2 _ hp).1;have h2:w.heap.size<_:=(f7.2 _ hp).2.1;(try simp at h1);omega)).trans cb15_1_0;have mb15_1_1:w15.cell? ⟨w.heap.size,1,none⟩=some (.slice A_bBodyNodes bBodyNodes.length c_bBodyNodes):=(mk15.frame.cell _ (show w.heap.size<_ by omega) (fun hp=>by have h1:_<=w.heap.size:=(f7.2 _ hp).1;have h2:w.heap.size<_:=(f7.2 _ hp).2.1;(try simp at h1);omega)).trans cb15_1_1;have mb15_1_2:w15.cell? ⟨w.heap.size,2,none⟩=some (.int .i64 bPromiseLeft):=(mk15.frame.cell _ (show w.heap.size<_ by omega) (fun hp=>by have h1:_<=w.heap.size:=(f7.2 _ hp).1;have h2:w.heap.size<_:=(f7.2 _ hp).2.1;(try simp at h1);omega)).trans cb15_1_2;have mb15_1_3:w15.cell? ⟨w.heap.size,3,none⟩=some (.int .i64 bPromiseRight):=(mk15.frame.cell _ (show w.heap.size<_ by omega) (fun hp=>by have h1:_<=w.heap.size:=(f7.2 _ hp).1;have h2:w.heap.size<_:=(f7.2 _ hp).2.1;(try simp at h1);omega)).trans cb15_1_3;have mb15_1_4:w15.cell? ⟨w.heap.size,4,none⟩=some (.slice A_bPromiseBasis bPromiseBasis.length c_bPromiseBasis):=(mk15.frame.cell _ (show w.heap.size<_ by omega) (fun hp=>by have h1:_<=w.heap.size:=(f7.2 _ hp).1;have h2:w.heap.size<_:=(f7.2 _ hp).2.1;(try simp at h1);omega)).trans cb15_1_4;have mb15_6_0:w15.cell? ⟨w7.heap.size,0,none⟩=some (.string bName):=(mk15.frame.cell _ (show w7.heap.size<_ by omega) (fun hp=>by have h1:_<=w7.heap.size:=(f7.2 _ hp).1;have h2:w7.heap.size<_:=(f7.2 _ hp).2.1;(try simp at h1);omega)).trans cb15_6_0;have mb15_6_1:w15.cell? ⟨w7.heap.size,1,none⟩=some (.slice B7_1 bBodyNodes.length d7_1):=(mk15.frame.cell _ (show w7.heap.size<_ by omega) (fun hp=>by have h1:_<=w7.heap.size:=(f7.2 _ hp).1;have h2:w7.heap.size<_:=(f7.2 _ hp).2.1;(try simp at h1);omega)).trans cb15_6_1;have mb15_6_2:w15.cell? ⟨w7.heap.size,2,none⟩=some (.int .i64 bPromiseLeft):=(mk15.frame.cell _ (show w7.heap.size<_ by omega) (fun hp=>by have h1:_<=w7.heap.size:=(f7.2 _ hp).1;have h2:w7.heap.size<_:=(f7.2 _ hp).2.1;(try simp at h1);omega)).trans cb15_6_2;have mb15_6_3:w15.cell? ⟨w7.heap.size,3,none⟩=some (.int .i64 bPromiseRight):=(mk15.frame.cell _ (show w7.heap.size<_ by omega) (fun hp=>by have h1:_<=w7.heap.size:=(f7.2 _ hp).1;have h2:w7.heap.size<_:=(f7.2 _ hp).2.1;(try simp at h1);omega)).trans cb15_6_3;have mb15_6_4:w15.cell? ⟨w7.heap.size,4,none⟩=some (.slice B7_4 bPromiseBasis.length d7_4):=(mk15.frame.cell _ (show w7.heap.size<_ by omega) (fun hp=>by have h1:_<=w7.heap.size:=(f7.2 _ hp).1;have h2:w7.heap.size<_:=(f7.2 _ hp).2.1;(try simp at h1);omega)).trans cb15_6_4;have t8_0_0m14m15:=Kw (Ao t8_0_0m14 bw) (mk15.aboveAt (fun p hp=>by have h2:=(f7.2 p hp).2.1;first|omega|(simp;omega))) (fun _ h=>h);have f8m14m15:=Fresh.above (Fresh.below f8m14 bw) (mk15.aboveAt (fun p hp=>by have h2:=(f7.2 p hp).2.1;first|omega|(simp;omega)));have t10m14m15:=Kw (Ao t10m14 bw) (mk15.aboveAt (fun p hp=>by have h2:=(f7.2 p hp).2.1;first|omega|(simp;omega))) (fun _ h=>h);have f10m14m15:=Fresh.above (Fresh.below f10m14 bw) (mk15.aboveAt (fun p hp=>by have h2:=(f7.2 p hp).2.1;first|omega|(simp;omega)))
 go_wp2_with fail
 (refine (Ff V.1 B8_0_0 d8_0_0 m8_0_0 B5_0_0 d5_0_0 m5_0_0 _ (Ao t8_0_0m14m15 bw) (Ao t5_0_0 bw) hv1 hv2 (tab.below bw)).mono ?_;rintro e w16 ⟨rfl,hb_w16⟩;obtain ⟨hc_w16,hf_w16⟩:=Dm hb_w16;have hz_w16:=hb_w16.size;(try simp at hz_w16);have hl_w16_0:w.heap.size<w16.heap.size:=oM;have hl_w16_1:w7.heap.size<w16.heap.size:=oM);go_wp2_with fail
 have F17:Fresh w16 _ _:=Fresh.below f8m14m15 bw;have hl17_t8_0_0m14m15:=Afv t8_0_0m14m15 hv1 hv2;have cb17_1:=(show Below (w15).heap.size (w15) w16 from bw)
 have cb17_1_0:=Af cb17_1 (p:=⟨w.heap.size,0,none⟩) (u:=.string bName) mb15_1_0;have cb17_1_1:=Af cb17_1 (p:=⟨w.heap.size,1,none⟩) (u:=.slice A_bBodyNodes bBodyNodes.length c_bBodyNodes) mb15_1_1;have cb17_1_2:=Af cb17_1 (p:=⟨w.heap.size,2,none⟩) (u:=.int .i64 bPromiseLeft) mb15_1_2;have cb17_1_3:=Af cb17_1 (p:=⟨w.heap.size,3,none⟩) (u:=.int .i64 bPromiseRight) mb15_1_3;have cb17_1_4:=Af cb17_1 (p:=⟨w.heap.size,4,none⟩) (u:=.slice A_bPromiseBasis bPromiseBasis.length c_bPromiseBasis) mb15_1_4;refine (Kp V.1 B8_0_0 d8_0_0 m8_0_0 (1) _ _ (Ao t8_0_0m14m15 bw) F17 oM tab bw om).mono ?_;rintro e w17 ⟨rfl,mk17⟩;have hb_w17:=mk17.belowAt (fun p hp=>(F17.2 p hp).1) om;have hz_w17:w16.heap.size<=w17.heap.size:=mk17.size;have hl_w17_0:w.heap.size<w17.heap.size:=oM;have hl_w17_1:w7.heap.size<w17.heap.size:=oM;have mb17_1_0:w17.cell? ⟨w.heap.size,0,none⟩=some (.string bName):=(mk17.frame.cell _ (show w.heap.size<_ by omega) (fun hp=>by have h1:_<=w.heap.size:=(f8.2 _ hp).1;have h2:w.heap.size<_:=(f8.2 _ hp).2.1;(try simp at h1);omega)).trans cb17_1_0;have mb17_1_1:w17.cell? ⟨w.heap.size,1,none⟩=some (.slice A_bBodyNodes bBodyNodes.length c_bBodyNodes):=(mk17.frame.cell _ (show w.heap.size<_ by omega) (fun hp=>by have h1:_<=w.heap.size:=(f8.2 _ hp).1;have h2:w.heap.size<_:=(f8.2 _ hp).2.1;(try simp at h1);omega)).trans cb17_1_1;have mb17_1_2:w17.cell? ⟨w.heap.size,2,none⟩=some (.int .i64 bPromiseLeft):=(mk17.frame.cell _ (show w.heap.size<_ by omega) (fun hp=>by have h1:_<=w.heap.size:=(f8.2 _ hp).1;have h2:w.heap.size<_:=(f8.2 _ hp).2.1;(try simp at h1);omega)).trans cb17_1_2;have mb17_1_3:w17.cell? ⟨w.heap.size,3,none⟩=some (.int .i64 bPromiseRight):=(mk17.frame.cell _ (show w.heap.size<_ by omega) (fun hp=>by have h1:_<=w.heap.size:=(f8.2 _ hp).1;have h2:w.heap.size<_:=(f8.2 _ hp).2.1;(try simp at h1);omega)).trans cb17_1_3;have mb17_1_4:w17.cell? ⟨w.heap.size,4,none⟩=some (.slice A_bPromiseBasis bPromiseBasis.length c_bPromiseBasis):=(mk17.frame.cell _ (show w.heap.size<_ by omega) (fun hp=>by have h1:_<=w.heap.size:=(f8.2 _ hp).1;have h2:w.heap.size<_:=(f8.2 _ hp).2.1;(try simp at h1);omega)).trans cb17_1_4;have t10m14m15m17:=Kw (Ao t10m14m15 bw) (mk17.aboveAt (fun p hp=>by have h2:=(f8.2 p hp).2.1;first|omega|(simp;omega))) (fun _ h=>h);have f10m14m15m17:=Fresh.above (Fresh.below f10m14m15 bw) (mk17.aboveAt (fun p hp=>by have h2:=(f8.2 p hp).2.1;first|omega|(simp;omega)));obtain ⟨ys17_0,hy17_0,sy17_0⟩:=mk17.sl (Ao t8_0_0m14m15 bw);have hh17:=mk17.held
 go_wp2_with fail
 (refine (Uv (by rw [hy17_0]) (Kl ys17_0 B8_0_0 d8_0_0 m8_0_0 (1) _ (Ao sy17_0 bw) (HeldAs.below hh17 bw) oM (tab.below bw))).mono ?_;rintro e w18 ⟨rfl,hb_w18⟩;obtain ⟨hc_w18,hf_w18⟩:=Dm hb_w18;have hz_w18:=hb_w18.size;(try simp at hz_w18);have hl_w18_0:w.heap.size<w18.heap.size:=oM;have hl_w18_1:w7.heap.size<w18.heap.size:=oM);go_wp2_with fail
 have kf_w18:Below w.heap.size w w18:=bw;have kb0_w18:Below (w17).heap.size (w17) w18:=bw;have kc0_w18_0:=Af kb0_w18 (p:=⟨w.heap.size,0,none⟩) (u:=.string bName) mb17_1_0;have kc0_w18_1:=Af kb0_w18 (p:=⟨w.heap.size,1,none⟩) (u:=.slice A_bBodyNodes bBodyNodes.length c_bBodyNodes) mb17_1_1;have kc0_w18_2:=Af kb0_w18 (p:=⟨w.heap.size,2,none⟩) (u:=.int .i64 bPromiseLeft) mb17_1_2;have kc0_w18_3:=Af kb0_w18 (p:=⟨w.heap.size,3,none⟩) (u:=.int .i64 bPromiseRight) mb17_1_3;have kc0_w18_4:=Af kb0_w18 (p:=⟨w.heap.size,4,none⟩) (u:=.slice A_bPromiseBasis bPromiseBasis.length c_bPromiseBasis) mb17_1_4
 go_region_held3 (fun w'=>Below w.heap.size w w'/\w'.cell? ⟨w.heap.size,0,none⟩=some (.string bName)/\w'.cell? ⟨w.heap.size,1,none⟩=some (.slice A_bBodyNodes bBodyNodes.length c_bBodyNodes)/\w'.cell? ⟨w.heap.size,2,none⟩=some (.int .i64 bPromiseLeft)/\w'.cell? ⟨w.heap.size,3,none⟩=some (.int .i64 bPromiseRight)/\w'.cell? ⟨w.heap.size,4,none⟩=some (.slice A_bPromiseBasis bPromiseBasis.length c_bPromiseBasis))
  (first|((with_reducible show Below _ _ w19/\_);go_split_ands;exact ⟨Below.trans (by assumption) (hb_w19.mono ol),(hb_w19.cell (show w.heap.size<_ from ol)).trans (by assumption),(hb_w19.cell (show w.heap.size<_ from ol)).trans (by assumption),(hb_w19.cell (show w.heap.size<_ from ol)).trans (by assumption),(hb_w19.cell (show w.heap.size<_ from ol)).trans (by assumption),(hb_w19.cell (show w.heap.size<_ from ol)).trans (by assumption)⟩)|((with_reducible show Below _ _ w20/\_);go_split_ands;exact ⟨Below.trans (by assumption) (hb_w20.mono ol),(hb_w20.cell (show w.heap.size<_ from ol)).trans (by assumption),(hb_w20.cell (show w.heap.size<_ from ol)).trans (by assumption),(hb_w20.cell (show w.heap.size<_ from ol)).trans (by assumption),(hb_w20.cell (show w.heap.size<_ from ol)).trans (by assumption),(hb_w20.cell (show w.heap.size<_ from ol)).trans (by assumption)⟩)|((with_reducible show Below _ _ w21/\_);go_split_ands;exact ⟨Below.trans (by assumption) (hb_w21.mono ol),(hb_w21.cell (show w.heap.size<_ from ol)).trans (by assumption),(hb_w21.cell (show w.heap.size<_ from ol)).trans (by assumption),(hb_w21.cell (show w.heap.size<_ from ol)).trans (by assumption),(hb_w21.cell (show w.heap.size<_ from ol)).trans (by assumption),(hb_w21.cell (show w.heap.size<_ from ol)).trans (by assumption)⟩)|(go_split_ands;exact ⟨alloc_swap (by assumption) ol,alloc_swap_has (by assumption) (show w.heap.size<_ from ol),alloc_swap_has (by assumption) (show w.heap.size<_ from ol),alloc_swap_has (by assumption) (show w.heap.size<_ from ol),alloc_swap_has (by assumption) (show w.heap.size<_ from ol),alloc_swap_has (by assumption) (show w.heap.size<_ from ol)⟩)|exact ⟨kf_w18.drew,kc0_w18_0,kc0_w18_1,kc0_w18_2,kc0_w18_3,kc0_w18_4⟩|exact ⟨alloc_drew_below kf_w18 ol,alloc_drew_has kc0_w18_0,alloc_drew_has kc0_w18_1,alloc_drew_has kc0_w18_2,alloc_drew_has kc0_w18_3,alloc_drew_has kc0_w18_4⟩|(go_split_ands;refine ⟨?_,?_,?_,?_,?_,?_⟩;(focus (repeat (first|assumption|((with_reducible refine Below.setCell ?_ ?_ _);rotate_left;focus (first|(simp;done)|omega|(simp;omega)))|((with_reducible refine Below.alloc ?_ ?_ _);rotate_left;focus (first|(simp;done)|omega|(simp;omega))))));all_goals go_keep))
  (first
   | (go_at_call 7;(with_reducible show Calls _ _ #[.slice A_l l.length c_l] _ _);(try go_split_ands);refine (Fx l A_l c_l l_l _ (by exact Ao s_l (by assumption)) hn_l hok_l (tab.below (by assumption))).mono ?_;rintro e w19 ⟨g19,d19,m19,rfl,t19,f19,hb_w19⟩;have hz_w19:=hb_w19.size;(try simp at hz_w19);have hl_w19_h0:w.heap.size<w19.heap.size:=oM)
   | (go_at_call 8;(with_reducible show Calls _ _ #[.agg #[.string bName,.slice A_bBodyNodes bBodyNodes.length c_bBodyNodes,.int .i64 bPromiseLeft,.int .i64 bPromiseRight,.slice A_bPromiseBasis bPromiseBasis.length c_bPromiseBasis]] _ _);(try go_split_ands);refine (Eo bName bBodyNodes A_bBodyNodes c_bBodyNodes l_bBodyNodes bPromiseLeft bPromiseRight bPromiseBasis A_bPromiseBasis c_bPromiseBasis l_bPromiseBasis _ (by exact Ao s_bBodyNodes (by assumption)) (by exact Ao s_bPromiseBasis (by assumption)) ⟨ha_b,hb_b,hc_b⟩ (tab.below (by assumption))).mono ?_;rintro e w20 ⟨B20_1,d20_1,m20_1,B20_4,d20_4,m20_4,rfl,t20_1,t20_4,f20,hb_w20⟩;have hz_w20:=hb_w20.size;(try simp at hz_w20);have hl_w20_h0:w.heap.size<w20.heap.size:=oM)
   | (go_at_call 9;(with_reducible show Calls _ _ #[.int .i64 p,.slice (some ⟨g19,0,none⟩) l.length d19,.agg #[.string bName,.slice B20_1 bBodyNodes.length d20_1,.int .i64 bPromiseLeft,.int .i64 bPromiseRight,.slice B20_4 bPromiseBasis.length d20_4]] _ _);(try go_split_ands);refine (Gw p l (some ⟨g19,0,none⟩) d19 m19 bName bBodyNodes B20_1 d20_1 m20_1 bPromiseLeft bPromiseRight bPromiseBasis B20_4 d20_4 m20_4 _ (Ao t19 bw) (Ao t20_1 bw) (Ao t20_4 bw) hIm (tab.below (by assumption))).mono ?_;rintro e w21 ⟨B21_0_0,d21_0_0,m21_0_0,rfl,t21_0_0,f21,hb_w21⟩;have hz_w21:=hb_w21.size;(try simp at hz_w21);have hl_w21_h0:w.heap.size<w21.heap.size:=oM))
 obtain ⟨hc_w19,hf_w19⟩:=Dm hb_w19;have hz_w19:w18.heap.size<=w19.heap.size:=(by have h_:=hb_w19.size;(try simp at h_);exact h_)
 have hl_w19_0:w.heap.size<w19.heap.size:=oM;have hl_w19_1:w7.heap.size<w19.heap.size:=oM;obtain ⟨hc_w20,hf_w20⟩:=Dm hb_w20;have hz_w20:w19.heap.size<=w20.heap.size:=(by have h_:=hb_w20.size;(try simp at h_);exact h_)
 have hl_w20_0:w.heap.size<w20.heap.size:=oM;have hl_w20_1:w7.heap.size<w20.heap.size:=oM;obtain ⟨hc_w21,hf_w21⟩:=Dm hb_w21;have hz_w21:w20.heap.size<=w21.heap.size:=(by have h_:=hb_w21.size;(try simp at h_);exact h_)
 have hl_w21_0:w.heap.size<w21.heap.size:=oM;have hl_w21_1:w7.heap.size<w21.heap.size:=oM
 go_wp2_with fail
 (refine (Ff V.1 B21_0_0 d21_0_0 m21_0_0 B5_0_0 d5_0_0 m5_0_0 _ (Ao t21_0_0 bw) (Ao t5_0_0 bw) hv1 hv2 (tab.below bw)).mono ?_;rintro e w22 ⟨rfl,hb_w22⟩;obtain ⟨hc_w22,hf_w22⟩:=Dm hb_w22;have hz_w22:=hb_w22.size;(try simp at hz_w22);have hl_w22_0:w.heap.size<w22.heap.size:=oM;have hl_w22_1:w7.heap.size<w22.heap.size:=oM);go_wp2_with fail
 (refine (Uv (by rw [hy17_0]) (Kl ys17_0 B8_0_0 d8_0_0 m8_0_0 (1) _ (Ao sy17_0 bw) (HeldAs.below hh17 bw) oM (tab.below bw))).mono ?_;rintro e w23 ⟨rfl,hb_w23⟩;obtain ⟨hc_w23,hf_w23⟩:=Dm hb_w23;have hz_w23:=hb_w23.size;(try simp at hz_w23);have hl_w23_0:w.heap.size<w23.heap.size:=oM;have hl_w23_1:w7.heap.size<w23.heap.size:=oM);go_wp2_with fail
 go_ret
 exact ⟨rfl,bw⟩
end
end Go.Proofs.YtlaebfbpgeegcaaGreatDoor
