/- Lemmas on the program and on partial functions that stand in place of its code (part 7); no condition beyond those that each one states. -/
import Derived.Test.YtopjojkjaklalaaGreatDoorZ6
import Derived.WalkKit
import Derived.LaidEql
import Derived.Stop.Asserts
import Derived.RowKitTokens
import Derived.Laws.Cells
import Derived.Laws.IdiomCopy
import Derived.BigQuiet
import Derived.Deep.RegionHeld3
import Derived.Laws.Strings
import Derived.KernelRfl
namespace Go.Proofs.YtopjojkjaklalaaGreatDoor
section
open Go.RowKit Go.Deep Go.Extern.Stop Go.Stop Go.Extern
theorem Aiz (t:Addr) (w:World):(ReflectliteValue.unpack (.iface 65 (.pointer (some t)))).run Tryz.prog w
  = .ok (.agg #[.pointer (some ⟨3,65,none⟩),.pointer (some ⟨w.heap.size,0,none⟩),.int .u64 150]) (w.alloc (.cells #[.pointer (some t)] 65)):=by kernel_rfl
theorem Aqp (a:Addr) (w:World):(ReflectliteValue.methodAny (ReflectliteValue.valueError "reflectlite.Value.Type" 0) (fun t _ _ _=>ReflectliteType.toType t) #[.agg #[.pointer (some ⟨3,65,none⟩),.pointer (some a),.int .u64 150]]).run Tryz.prog w
  = .ok (.iface 130 (.agg #[.pointer (some ⟨3,65,none⟩)])) w:=by kernel_rfl
theorem Ao8 (h:Value) (w:World):(Go.method 353 130 (.agg #[h]) "Kind").run Tryz.prog w=.ok (185,h) w:=by kernel_rfl
theorem Ary (w:World):((ReflectliteType.abiMethod fun t=>(fun a:Nat=>Value.int IntKind.u8 (a:Int)) <$> Rtype.kind t) #[.pointer (some ⟨3,65,none⟩)]).run Tryz.prog w=.ok (.int .u8 22) w:=by kernel_rfl
theorem Ars (w:World):((ReflectliteType.abiMethod fun t=>(fun a:Nat=>Value.int IntKind.u8 (a:Int)) <$> Rtype.kind t) #[.pointer (some ⟨3,63,none⟩)]).run Tryz.prog w=.ok (.int .u8 25) w:=by kernel_rfl
theorem Ark (z:Sem Value) (f:TypeId->Addr->Nat->Nat->Sem Value) (v:Value) :
  ReflectliteValue.method z f #[v]=(do match ← ReflectliteValue.parts v with|none=>z|some (t,a,fl)=>f t a fl (fl % 32)):=rfl
theorem Aej (a:Addr) (w:World):(ReflectliteValue.parts (.agg #[.pointer (some ⟨3,65,none⟩),.pointer (some a),.int .u64 150])).run Tryz.prog w=.ok (some (65,a,150)) w:=by kernel_rfl
theorem Aoa (a p:Addr) (W:World) (ha:W.cell? a=some (.pointer (some p))) :
  (ReflectliteValue.method (ReflectliteValue.valueError "reflectlite.Value.IsNil" 0) ReflectliteValue.isNil #[.agg #[.pointer (some ⟨3,65,none⟩),.pointer (some a),.int .u64 150]]).run Tryz.prog W=.ok (.bool false) W:=by
 rw [Ark];simp only [Sem.run_bind,Aej,Result.andThen];simp [ReflectliteValue.isNil,loadVar,isAgg,underlying,Tryz.underlying65,ha,Result.andThen]
theorem Apk (h:Value) (w:World):(Go.method 353 130 (.agg #[h]) "Elem").run Tryz.prog w=.ok (197,.agg #[h]) w:=by kernel_rfl
theorem Adh (h:Value) (w:World):(Go.method 353 130 (.agg #[h]) "Implements").run Tryz.prog w=.ok (198,.agg #[h]) w:=by kernel_rfl
theorem Aaq (h:Value) (w:World):(Go.method 353 130 (.agg #[h]) "AssignableTo").run Tryz.prog w=.ok (195,.agg #[h]) w:=by kernel_rfl
theorem Asa (w:World):(ReflectliteType.method ReflectliteType.elem #[.agg #[.pointer (some ⟨3,65,none⟩)]]).run Tryz.prog w=.ok (.iface 130 (.agg #[.pointer (some ⟨3,63,none⟩)])) w:=by kernel_rfl
theorem Ac5 (w:World):(ReflectliteType.relation "Implements" ReflectliteType.implements_ #[.agg #[.pointer (some ⟨3,63,none⟩)],.iface 130 (.agg #[.pointer (some ⟨3,55,none⟩)])]).run Tryz.prog w=.ok (.bool true) w:=by kernel_rfl
theorem Ald (v:Value) (w:World):(ReflectliteType.typeOf #[.iface 63 v]).run Tryz.prog w=.ok (.iface 130 (.agg #[.pointer (some ⟨3,63,none⟩)])) w:=by kernel_rfl
theorem Aag (w:World):(ReflectliteType.relation "AssignableTo" ReflectliteType.assignableTo #[.agg #[.pointer (some ⟨3,63,none⟩)],.iface 130 (.agg #[.pointer (some ⟨3,63,none⟩)])]).run Tryz.prog w=.ok (.bool true) w:=by kernel_rfl
theorem Ajc (a c:Value) (w:World):(ReflectliteValue.unpack (.iface 63 (.agg #[a,c]))).run Tryz.prog w
  = .ok (.agg #[.pointer (some ⟨3,63,none⟩),.pointer (some ⟨w.heap.size,0,none⟩),.int .u64 153]) (w.alloc (.cells #[a,c] 63)):=by kernel_rfl
theorem Akc (w:World):(Rtype.elem? 65).run Tryz.prog w=.ok (some 63) w:=by kernel_rfl
theorem Aw3 (p:Addr) (w:World):(ReflectliteValue.mk 63 p ReflectliteValue.flagAddr).run Tryz.prog w=.ok (.agg #[.pointer (some ⟨3,63,none⟩),.pointer (some p),.int .u64 409]) w:=by kernel_rfl
theorem Aof (a p:Addr) (W:World) (ha:W.cell? a=some (.pointer (some p))) :
  (ReflectliteValue.method (ReflectliteValue.valueError "reflectlite.Value.Elem" 0) ReflectliteValue.elem #[.agg #[.pointer (some ⟨3,65,none⟩),.pointer (some a),.int .u64 150]]).run Tryz.prog W
   = .ok (.agg #[.pointer (some ⟨3,63,none⟩),.pointer (some p),.int .u64 409]) W:=by
 rw [Ark];simp only [Sem.run_bind,Aej,Result.andThen];simp [ReflectliteValue.elem,loadVar,isAgg,underlying,Tryz.underlying65,ha,Result.andThen,Akc,Aw3]
theorem Awt (v x:Value):ReflectliteValue.set #[v,x]=(do
  let (some (dst,a,fl),some (src,b,_)):=(← ReflectliteValue.parts v,← ReflectliteValue.parts x)
   | unsupported (.noEntry "extern/(internal/reflectlite.Value).Set.zeroValue")
  if fl / ReflectliteValue.flagAddr % 2==0 then unsupported (.noEntry "extern/(internal/reflectlite.Value).Set.unaddressable")
  let val ← loadVar src b
  if ← Rtype.directlyAssignable dst src then storeVar dst a val
  else if ← Rtype.implements dst src then
   if (← Rtype.kind src)==20 then
    match val with
    | .nilIface=>unsupported (.noEntry "extern/reflectlite: a nil value of one interface type handed on as a value of another")
    | _=>storeVar dst a val
   else storeVar dst a (.iface src val)
  else panicString ("reflectlite.Set: value of type " ++ (← Rtype.spelt src) ++ " is not assignable to type " ++ (← Rtype.spelt dst))
  pure (.tuple #[])):=rfl
theorem Ajq (a:Addr) (w:World):(ReflectliteValue.parts (.agg #[.pointer (some ⟨3,63,none⟩),.pointer (some a),.int .u64 409])).run Tryz.prog w=.ok (some (63,a,409)) w:=by kernel_rfl
theorem Anr (a:Addr) (w:World):(ReflectliteValue.parts (.agg #[.pointer (some ⟨3,63,none⟩),.pointer (some a),.int .u64 153])).run Tryz.prog w=.ok (some (63,a,153)) w:=by kernel_rfl
theorem Akr (w:World):(Rtype.directlyAssignable 63 63).run Tryz.prog w=.ok true w:=by kernel_rfl
theorem Ato (tb b:Nat) (x y o1 o2:Value) (W:World) (hb:W.cell? ⟨b,0,none⟩=some x) (hb1:W.cell? ⟨b,1,none⟩=some y) (hx:x.oneCell'=true) (hy:y.oneCell'=true) (ht:W.cell? ⟨tb,0,none⟩=some o1) (ht1:W.cell? ⟨tb,1,none⟩=some o2) (hf:W.frozen? ⟨tb,0,none⟩=false) (hf1:W.frozen? ⟨tb,1,none⟩=false) :
  (ReflectliteValue.set #[.agg #[.pointer (some ⟨3,63,none⟩),.pointer (some ⟨tb,0,none⟩),.int .u64 409],.agg #[.pointer (some ⟨3,63,none⟩),.pointer (some ⟨b,0,none⟩),.int .u64 153]]).run Tryz.prog W
   = .ok (.tuple #[]) ((W.setCell ⟨tb,0,none⟩ x).setCell ⟨tb,1,none⟩ y):=by
 rw [Awt];simp only [Sem.run_bind,Ajq,Anr,Result.andThen]
 have hl:(loadCells ⟨b,0,none⟩ 2).run Tryz.prog W=.ok #[x,y] W:=run_loadCells_list (P:=Tryz.prog) W ⟨b,0,none⟩ [x,y] fun j v hj=>by
  match j,hj with
  | 0,hj=>simp at hj;subst hj;exact hb
  | 1,hj=>simp at hj;subst hj;exact hb1
 have hs:(storeCells ⟨tb,0,none⟩ [x,y]).run Tryz.prog W=.ok () (W.setCells tb 0 [x,y]):=by
  refine run_storeCells_cells (P:=Tryz.prog) tb 0 [x,y] 0 W (fun j hj=>?_) (fun j hj=>?_) (fun v hv=>?_)
  ·match j,hj with
   | 0,_=>simp [ht]
   | 1,_=>simp [ht1]
  ·match j,hj with
   | 0,_=>simp [hf]
   | 1,_=>simp [hf1]
  ·simp at hv;rcases hv with rfl|rfl
   ·exact hx
   ·exact hy
 simp [ReflectliteValue.flagAddr,loadVar,isAgg,underlying,Tryz.underlying63,hl,hs,Result.andThen,Akr,storeVar,Value.cells,World.setCells]
theorem Dd {w:World} {p:Addr} {u:Value} (h:w.cell? p=some u) (o:Obj):(w.alloc o).cell? p=some u:=(World.cell?_alloc_lt _ _ _ (World.block_lt_of_cell? w p h)).trans h
set_option maxRecDepth 10000 in
theorem Ax3 (a c:Value) (t:Nat) (o1 o2:Value) (w:World) (ha:a.oneCell'=true) (hc:c.oneCell'=true) (hg:w.cell? ⟨1,0,none⟩=some (.iface 130 (.agg #[.pointer (some ⟨3,55,none⟩)]))) (ht0:w.cell? ⟨t,0,none⟩=some o1) (ht1:w.cell? ⟨t,1,none⟩=some o2) (hf0:w.frozen? ⟨t,0,none⟩=false) (hf1:w.frozen? ⟨t,1,none⟩=false) :
  Calls Tryz.prog 30 #[.iface 63 (.agg #[a,c]),.iface 65 (.pointer (some ⟨t,0,none⟩))] w fun ev w'=>ev=.returned (.bool true)/\w'=(((((w.alloc (.cells #[.pointer (some ⟨t,0,none⟩)] 65)).alloc (.cells #[.pointer (some ⟨3,65,none⟩),.pointer (some ⟨w.heap.size,0,none⟩),.int .u64 150] 99)).alloc (.cells #[.pointer (some ⟨3,65,none⟩),.pointer (some ⟨w.heap.size,0,none⟩),.int .u64 150] 99)).alloc (.cells #[a,c] 63)).setCell ⟨t,0,none⟩ a).setCell ⟨t,1,none⟩ c:=by
 have h26:= @run_callFunc_extern Tryz.prog 58 _ (fun args=>ReflectliteValue.unpack (args.getD 0 (.tuple #[]))) Tryz.func58 (by kernel_rfl) (by kernel_rfl) (by kernel_rfl) (by kernel_rfl);have h27:= @run_callFunc_extern Tryz.prog 59 _ (ReflectliteValue.methodAny (ReflectliteValue.valueError "reflectlite.Value.Type" 0) (fun t _ _ _=>ReflectliteType.toType t)) Tryz.func59 (by kernel_rfl) (by kernel_rfl) (by kernel_rfl) (by kernel_rfl);have h28:= @run_callFunc_extern Tryz.prog 60 _ (ReflectliteValue.method (ReflectliteValue.valueError "reflectlite.Value.IsNil" 0) ReflectliteValue.isNil) Tryz.func60 (by kernel_rfl) (by kernel_rfl) (by kernel_rfl) (by kernel_rfl);have h47:= @run_callFunc_extern Tryz.prog 185 _ (ReflectliteType.abiMethod fun t=>do pure (.int .u8 (← Rtype.kind t))) Tryz.func185 (by kernel_rfl) (by kernel_rfl) (by kernel_rfl) (by kernel_rfl);have h58:= @run_callFunc_extern Tryz.prog 197 _ (ReflectliteType.method ReflectliteType.elem) Tryz.func197 (by kernel_rfl) (by kernel_rfl) (by kernel_rfl) (by kernel_rfl);have h59:= @run_callFunc_extern Tryz.prog 198 _ (ReflectliteType.relation "Implements" ReflectliteType.implements_) Tryz.func198 (by kernel_rfl) (by kernel_rfl) (by kernel_rfl) (by kernel_rfl);have h24:= @run_callFunc_extern Tryz.prog 47 _ ReflectliteType.typeOf Tryz.func47 (by kernel_rfl) (by kernel_rfl) (by kernel_rfl) (by kernel_rfl);have h56:= @run_callFunc_extern Tryz.prog 195 _ (ReflectliteType.relation "AssignableTo" ReflectliteType.assignableTo) Tryz.func195 (by kernel_rfl) (by kernel_rfl) (by kernel_rfl) (by kernel_rfl);have h31:= @run_callFunc_extern Tryz.prog 98 _ (ReflectliteValue.method (ReflectliteValue.valueError "reflectlite.Value.Elem" 0) ReflectliteValue.elem) Tryz.func98 (by kernel_rfl) (by kernel_rfl) (by kernel_rfl) (by kernel_rfl);have h32:= @run_callFunc_extern Tryz.prog 99 _ ReflectliteValue.set Tryz.func99 (by kernel_rfl) (by kernel_rfl) (by kernel_rfl) (by kernel_rfl);have tO:=Ald;have mA:=Aaq;have a25:=Aag;have v25:=Ajc;have f6:=Aiz;have f7:=Aqp;have mK:=Ao8;have mE:=Apk;have mI:=Adh;have k27:=Ary;have k25:=Ars;have e27:=Asa;have i25:=Ac5;have hlt:∀ {p:Addr} {u:Value},w.cell? p=some u->p.block<w.heap.size:=fun h=>World.block_lt_of_cell? w _ h
 have htl:t<w.heap.size:=hlt ht0;have ho1:=Dd (Dd hg (.cells #[.pointer (some ⟨t,0,none⟩)] 65)) (.cells #[.pointer (some ⟨3,65,none⟩),.pointer (some ⟨w.heap.size,0,none⟩),.int .u64 150] 99);have n8:=Aoa ⟨w.heap.size,0,none⟩ ⟨t,0,none⟩ ((w.alloc (.cells #[.pointer (some ⟨t,0,none⟩)] 65)).alloc (.cells #[.pointer (some ⟨3,65,none⟩),.pointer (some ⟨w.heap.size,0,none⟩),.int .u64 150] 99)) (by simp);have el:=Aof ⟨w.heap.size,0,none⟩ ⟨t,0,none⟩ (((w.alloc (.cells #[.pointer (some ⟨t,0,none⟩)] 65)).alloc (.cells #[.pointer (some ⟨3,65,none⟩),.pointer (some ⟨w.heap.size,0,none⟩),.int .u64 150] 99)).alloc (.cells #[.pointer (some ⟨3,65,none⟩),.pointer (some ⟨w.heap.size,0,none⟩),.int .u64 150] 99)) (by rw [World.cell?_alloc_lt _ _ ⟨w.heap.size,0,none⟩ (by simp;omega)];simp)
 have st:=Ato t (w.heap.size+1+1+1) a c o1 o2 ((((w.alloc (.cells #[.pointer (some ⟨t,0,none⟩)] 65)).alloc (.cells #[.pointer (some ⟨3,65,none⟩),.pointer (some ⟨w.heap.size,0,none⟩),.int .u64 150] 99)).alloc (.cells #[.pointer (some ⟨3,65,none⟩),.pointer (some ⟨w.heap.size,0,none⟩),.int .u64 150] 99)).alloc (.cells #[a,c] 63))
  (by rw [World.cell?_alloc_at _ _ _ _ (by simp)];rfl) (by rw [World.cell?_alloc_at _ _ _ _ (by simp)];rfl) ha hc
  (Dd (Dd (Dd (Dd ht0 _) _) _) _) (Dd (Dd (Dd (Dd ht1 _) _) _) _)
  (by rw [World.frozen?_alloc_old _ _ _ (by simp;omega),World.frozen?_alloc_old _ _ _ (by simp;omega),World.frozen?_alloc_old _ _ _ (by simp;omega),World.frozen?_alloc_old _ _ _ (by simp;omega)];exact hf0)
  (by rw [World.frozen?_alloc_old _ _ _ (by simp;omega),World.frozen?_alloc_old _ _ _ (by simp;omega),World.frozen?_alloc_old _ _ _ (by simp;omega),World.frozen?_alloc_old _ _ _ (by simp;omega)];exact hf1)
 go_enter Tryz.func30,Tryz.ntmps30
 go_wp2
 refine wp_loop_rounds 1 ?_;rw [rounds_succ]
 go_wp2
 go_ret
 exact ⟨rfl,rfl⟩
theorem Aoy (v:Value) (w:World):Calls Tryz.prog 30 #[.nilIface,v] w fun e w'=>e=.returned (.bool false)/\w'=w:=by
 go_enter Tryz.func30,Tryz.ntmps30
 go_wp2
 go_ret
 exact ⟨rfl,rfl⟩
end
section
open Go.RowKit Go.Deep
section
variable {g n k:Nat} {tt:TypeId} {t:Ty} {xs:List t.D} {w w':World}
end
end
section
open Go.RowKit Go.Deep
section
variable {w:World} {lo:Nat} {e:TypeId} {t:Ty}
end
end
section
open Go.RowKit Go.Deep
theorem Acc {P:Program} (d:Nat) (t e:TypeId) (ht:P.underlying t=some (.slice e)) (A:Option Addr) (n c:Nat) (w:World):(Op.equalIn (d+1) t (.slice A n c) (.slice none 0 0)).run P w=.ok A.isNone w:=by
 cases A <;> simp [Op.equalIn,run_underlying ht]
theorem Agf {P:Program} (t e:TypeId) (ht:P.underlying t=some (.slice e)) (A:Option Addr) (n c:Nat) (w:World):(Op.equal t (.slice A n c) (.slice none 0 0)).run P w=.ok A.isNone w:=Acc 9999 t e ht A n c w
theorem X0 {P:Program} (t e:TypeId) (ht:P.underlying t=some (.slice e)) (A:Option Addr) (n c:Nat) (w:World):(binOp .eql t (.slice A n c) (.slice none 0 0)).run P w=.ok (.bool A.isNone) w:=by
 simp only [binOp];simp [Agf t e ht A n c w]
theorem Au4 {R:Nat->Prop} {w:World} {t:Ty} {c:Nat} {xs:List t.D} {l:List Addr} (h:Sl R w t none c xs l):xs=[]:=by
 rcases Nat.eq_zero_or_pos xs.length with h0|h0
 ·exact List.length_eq_zero_iff.1 h0
 ·obtain ⟨_,_,_,_,hf⟩:=h;obtain ⟨ad,he,_⟩:=hf h0;cases he
theorem Ajl {w:World} {lo:Nat} {e:TypeId} {v:Value} {n:Nat} {cs:List Value} (h:ownsV w lo e 1 v n cs):∃ L:Loc,v=L.val n/\∀ b c s,L=.at_ b c s->s=1/\v.ownBlock=some b:=by
 rcases h.2 with ⟨rfl,rfl⟩|⟨g,cap,cur,rfl,_⟩
 ·exact ⟨.nil,rfl,fun b c s h=>by cases h⟩
 ·exact ⟨.at_ g cap 1,rfl,fun b c s h=>by cases h;exact ⟨rfl,rfl⟩⟩
theorem Ajn {R:Nat->Prop} (xs:List Int) (A:Option Addr) (c:Nat) (l:List Addr) (w:World) (h:Sl R w .int A c xs l) (hn:xs.length<=1000) (tab:Tab w) :
  Calls Tryz.prog 51 #[.slice A xs.length c] w fun e w'=>∃ B d,e=.returned (.slice B xs.length d)/\ownsV w' w.heap.size 3 1 (.slice B xs.length d) xs.length (Ty.int.cells xs)/\Below w.heap.size w w':=by
 refine (Py (show Iz xs=some xs by unfold Iz;rw [Af oM]) w (fun _=>True) [.slice A xs.length c] (fun _ hb=>tab.below hb) ⟨_,_,rfl,⟨A,c,l,rfl,Rw h⟩,rfl⟩).mono ?_;rintro e w' ⟨u,rfl,hb,us,ls,⟨L,ls',us',rfl,rfl,_,ho,_,rfl,rfl⟩,_,rfl⟩;have ho':ownsV w' w.heap.size 3 1 (L.val xs.length) xs.length (Ty.int.cells xs):=ho;rcases ho'.2 with ⟨e1,e2⟩|⟨g,cap,cur,e1,_⟩
 ·have e3:L.val xs.length=.slice none xs.length 0:=by rw [e1,e2]
  rw [e3] at ho';exact ⟨none,0,by rw [← e3];rfl,ho',hb⟩
 ·rw [e1] at ho';exact ⟨some ⟨g,0,none⟩,cap,by rw [← e1];rfl,ho',hb⟩
theorem Anc {w w':World} {lo lo':Nat} {e:TypeId} {v:Value} {n:Nat} {cs:List Value} (h:ownsV w lo e 1 v n cs) (hb:Above lo w w') (hl:lo'<=lo):ownsV w' lo' e 1 v n cs :=
 (h.block fun k hk=>hb.block k (h.lt k hk).1 (h.lt k hk).2).low hl
def Two (lo:Nat) (w:World) (u v:Value) (xs ys:List Int):Prop :=
 ownsV w lo 3 1 u xs.length (Ty.int.cells xs)/\ownsV w lo 3 1 v ys.length (Ty.int.cells ys)/\∀ g,u.ownBlock=some g->v.ownBlock≠some g
theorem Two.above {lo lo':Nat} {w w':World} {u v:Value} {xs ys:List Int} (h:Two lo w u v xs ys) (hb:Above lo w w') (hl:lo'<=lo):Two lo' w' u v xs ys:=⟨Anc h.1 hb hl,Anc h.2.1 hb hl,h.2.2⟩
def Aqb (E:Option Addr) (k c:Nat):Option Addr:=if c=k then E else E.map (·.add k)
theorem Apy {w:World} (l r:Int) (D:Value) (E:Option Addr) (n c k:Nat) (hl:l=k) (hk:k<=n) (hc:n<=c/\c<=maxLen) :
  Calls Tryz.prog 52 #[.agg #[.int .i64 l,.int .i64 r,D],.slice E n c] w fun e w'=>e=.returned (.slice E k c)/\Below w.heap.size w w':=by
 subst hl
 go_enter Tryz.func52,Tryz.ntmps52
 go_wp2
 go_ret
 exact ⟨by simp,by repeat (first|with_reducible exact Below.refl _ _|((with_reducible refine Below.setCell ?_ ?_ _);rotate_left;focus (first|(simp;done)|omega|(simp;omega)))|((with_reducible refine Below.alloc ?_ ?_ _);rotate_left;focus (first|(simp;done)|omega|(simp;omega)))|(with_reducible refine Below.drew ?_)|(with_reducible refine below_draws_ ?_ _))⟩
theorem Aov {w:World} (l r:Int) (D:Value) (E:Option Addr) (n c k:Nat) (hl:l=k) (hk:k<=n) (hc:n<=c/\c<=maxLen) :
  Calls Tryz.prog 53 #[.agg #[.int .i64 l,.int .i64 r,D],.slice E n c] w fun e w'=>e=.returned (.slice (Aqb E k c) (n - k) (c - k))/\Below w.heap.size w w':=by
 subst hl;unfold Aqb
 go_enter Tryz.func53,Tryz.ntmps53
 go_wp2
 ·subst c
  go_ret
  exact ⟨by simp,by repeat (first|with_reducible exact Below.refl _ _|((with_reducible refine Below.setCell ?_ ?_ _);rotate_left;focus (first|(simp;done)|omega|(simp;omega)))|((with_reducible refine Below.alloc ?_ ?_ _);rotate_left;focus (first|(simp;done)|omega|(simp;omega)))|(with_reducible refine Below.drew ?_)|(with_reducible refine below_draws_ ?_ _))⟩
 ·go_ret
  exact ⟨rfl,by repeat (first|with_reducible exact Below.refl _ _|((with_reducible refine Below.setCell ?_ ?_ _);rotate_left;focus (first|(simp;done)|omega|(simp;omega)))|((with_reducible refine Below.alloc ?_ ?_ _);rotate_left;focus (first|(simp;done)|omega|(simp;omega)))|(with_reducible refine Below.drew ?_)|(with_reducible refine below_draws_ ?_ _))⟩
theorem Auq {R:Nat->Prop} {w:World} {z:List Int} {E:Option Addr} {c k:Nat} {m:List Addr} (h:Sl R w .int E c z m) (hk:k<=z.length):∃ m',Sl (fun _=>True) w .int E c (z.take k) m':=by
 have h1:AV.Rep (fun _=>none) (fun _=>True) w (.tree .int z) (.slice E z.length c):=⟨E,c,m,rfl,Rw h⟩
 have h2:=Acu (sz:=1) (l:=0) (h:=k) h1;rw [Tg (t:=.int) (sz:=1) rfl (Nat.zero_le _) hk,List.drop_zero] at h2;obtain ⟨A',c',m',e,hs⟩:=h2;have e1:(if c=0 then E else E.map (·.add (0*1)))=E:=by rw [Aiy,ite_self]
 rw [e1] at e;simp only [Nat.sub_zero,Value.slice.injEq] at e;obtain ⟨rfl,-,rfl⟩:=e;exact ⟨m',hs⟩
theorem As4 {R:Nat->Prop} {w:World} {z:List Int} {E:Option Addr} {c k:Nat} {m:List Addr} (h:Sl R w .int E c z m) (hk:k<=z.length):∃ m',Sl (fun _=>True) w .int (Aqb E k c) (c - k) (z.drop k) m':=by
 have h1:AV.Rep (fun _=>none) (fun _=>True) w (.tree .int z) (.slice E z.length c):=⟨E,c,m,rfl,Rw h⟩
 have h2:=Acu (sz:=1) (l:=k) (h:=z.length) h1;rw [Tg (t:=.int) (sz:=1) rfl hk (Nat.le_refl _),List.take_length] at h2;obtain ⟨A',c',m',e,hs⟩:=h2;rw [Nat.mul_one] at e;simp only [Value.slice.injEq] at e;obtain ⟨rfl,-,rfl⟩:=e;exact ⟨m',hs⟩
theorem Avy (a c:Value) (t:Nat) (o1 o2:Value) (w:World) (ha:a.oneCell'=true) (hc:c.oneCell'=true) (hg:w.cell? ⟨1,0,none⟩=some (.iface 130 (.agg #[.pointer (some ⟨3,55,none⟩)]))) (ht0:w.cell? ⟨t,0,none⟩=some o1) (ht1:w.cell? ⟨t,1,none⟩=some o2) (hf0:w.frozen? ⟨t,0,none⟩=false) (hf1:w.frozen? ⟨t,1,none⟩=false) :
  Calls Tryz.prog 30 #[.iface 63 (.agg #[a,c]),.iface 65 (.pointer (some ⟨t,0,none⟩))] w fun ev w'=>ev=.returned (.bool true)/\w'.cell? ⟨t,0,none⟩=some a/\w'.cell? ⟨t,1,none⟩=some c/\Below t w w'/\Above (t+1) w w':=by
 have hlt:t<w.heap.size:=World.block_lt_of_cell? w _ ht0;refine (Ax3 a c t o1 o2 w ha hc hg ht0 ht1 hf0 hf1).mono ?_;rintro e w' ⟨rfl,rfl⟩
 have k1:∀ {w:World} {i j:Nat} {u v:Value},i≠j->w.cell? ⟨t,i,none⟩=some u->(w.setCell ⟨t,j,none⟩ v).cell? ⟨t,i,none⟩=some u:=fun {w i j u v} hne h =>
  ((Marked.setCell w ⟨t,j,none⟩ v).cell _ (World.block_lt_of_cell? _ _ h) (fun e=>hne (by have:=List.mem_singleton.1 e;injection this))).trans h
 refine ⟨rfl,k1 (by decide) (World.cell?_setCell_same _ _ _ (Dd (Dd (Dd (Dd ht0 _) _) _) _)),World.cell?_setCell_same _ _ _ (k1 (by decide) (Dd (Dd (Dd (Dd ht1 _) _) _) _)),?_,?_⟩
 ·exact ((((((Below.refl t w).alloc oM _).alloc (by simp;omega) _).alloc (by simp;omega) _).alloc (by simp;omega) _).setCell (Nat.le_refl _) _).setCell (Nat.le_refl _) _
 ·exact ((((((Above.refl (t+1) w).alloc _).alloc _).alloc _).alloc _).setCell (by simp) _).setCell (by simp) _
section
variable {a0 l r l' r':Int} {nm:ByteArray} {A B:Option Addr} {n1 c1 n2 c2:Nat} {w:World} {bs:List (List Int)}
set_option maxRecDepth 100000 in
set_option maxHeartbeats 4000000 in
theorem Agy
  (hD:∀ w',Below w.heap.size w w'->Calls Tryz.prog 49 #[.int .i64 a0,.agg #[.slice A n1 c1]] w' fun e w2=>∃ D d m,e=.returned (.agg #[.int .i64 l',.int .i64 r',.slice D bs.length d])/\Sl (fun _=>True) w2 (.slice .int) D d bs m/\Below w'.heap.size w' w2)
  (hM:∀ w' D d m,Below w.heap.size w w'->Sl (fun _=>True) w' (.slice .int) D d bs m->Calls Tryz.prog 50 #[.int .i64 a0,.agg #[.int .i64 l,.int .i64 r,.slice B n2 c2],.agg #[.int .i64 l',.int .i64 r',.slice D bs.length d]] w' fun e w2=>e=.returned (.slice none 0 0)/\Below w'.heap.size w' w2) :
  Calls Tryz.prog 24 #[.int .i64 a0,.agg #[.string nm,.slice A n1 c1,.int .i64 l,.int .i64 r,.slice B n2 c2]] w fun e w'=>e=.returned .nilIface/\Below w.heap.size w w':=by
 have hq:=fun A n c W=>X0 (P:=Tryz.prog) 42 _ Tryz.underlying42 A n c W
 have hb0:Below w.heap.size w (w.alloc (.cells #[.string nm,.slice A n1 c1,.int .i64 l,.int .i64 r,.slice B n2 c2] 38)):=(by repeat (first|with_reducible exact Below.refl _ _|((with_reducible refine Below.setCell ?_ ?_ _);rotate_left;focus (first|(simp;done)|omega|(simp;omega)))|((with_reducible refine Below.alloc ?_ ?_ _);rotate_left;focus (first|(simp;done)|omega|(simp;omega)))|(with_reducible refine Below.drew ?_)|(with_reducible refine below_draws_ ?_ _)))
 go_enter Tryz.func24,Tryz.ntmps24
 go_wp2_with fail
 (refine (hD _ (by repeat (first|with_reducible exact Below.refl _ _|((with_reducible refine Below.setCell ?_ ?_ _);rotate_left;focus (first|(simp;done)|omega|(simp;omega)))|((with_reducible refine Below.alloc ?_ ?_ _);rotate_left;focus (first|(simp;done)|omega|(simp;omega)))|(with_reducible refine Below.drew ?_)|(with_reducible refine below_draws_ ?_ _)))).mono ?_;rintro e w1 ⟨D,d,m,rfl,hs,hb_w1⟩;obtain ⟨hc_w1,hf_w1⟩:=X5 hb_w1;have hz_w1:=hb_w1.size;(try simp at hz_w1);have hl_w1_0:w.heap.size<w1.heap.size:=oM);go_wp2_with fail
 (refine (hM _ D d m (by repeat (first|with_reducible exact Below.refl _ _|((with_reducible refine Below.setCell ?_ ?_ _);rotate_left;focus (first|(simp;done)|omega|(simp;omega)))|((with_reducible refine Below.alloc ?_ ?_ _);rotate_left;focus (first|(simp;done)|omega|(simp;omega)))|(with_reducible refine Below.drew ?_)|(with_reducible refine below_draws_ ?_ _)|((with_reducible refine Below.trans ?_ (Below.mono hb_w1 ?_));rotate_left;focus (first|(simp;done)|omega|(simp;omega))))) (Ov hs (by repeat (first|with_reducible exact Below.refl _ _|((with_reducible refine Below.setCell ?_ ?_ _);rotate_left;focus (first|(simp;done)|omega|(simp;omega)))|((with_reducible refine Below.alloc ?_ ?_ _);rotate_left;focus (first|(simp;done)|omega|(simp;omega)))|(with_reducible refine Below.drew ?_)|(with_reducible refine below_draws_ ?_ _))))).mono ?_;rintro e w2 ⟨rfl,hb_w2⟩;obtain ⟨hc_w2,hf_w2⟩:=X5 hb_w2;have hz_w2:=hb_w2.size;(try simp at hz_w2);have hl_w2_0:w.heap.size<w2.heap.size:=oM);go_wp2_with fail
 go_ret
 exact ⟨rfl,by repeat (first|with_reducible exact Below.refl _ _|((with_reducible refine Below.setCell ?_ ?_ _);rotate_left;focus (first|(simp;done)|omega|(simp;omega)))|((with_reducible refine Below.alloc ?_ ?_ _);rotate_left;focus (first|(simp;done)|omega|(simp;omega)))|(with_reducible refine Below.drew ?_)|(with_reducible refine below_draws_ ?_ _)|((with_reducible refine Below.trans ?_ (Below.mono hb_w1 ?_));rotate_left;focus (first|(simp;done)|omega|(simp;omega)))|((with_reducible refine Below.trans ?_ (Below.mono hb_w2 ?_));rotate_left;focus (first|(simp;done)|omega|(simp;omega))))⟩
set_option maxRecDepth 100000 in
set_option maxHeartbeats 4000000 in
theorem Agw (tab:Tab w) {z:List Int} {k:Nat} (hlk:l'=k) (hk:k<=z.length) (hz0:z≠[]) (hzn:z.length<=1000)
  (hD:∀ w',Below w.heap.size w w'->Calls Tryz.prog 49 #[.int .i64 a0,.agg #[.slice A n1 c1]] w' fun e w2=>∃ D d m,e=.returned (.agg #[.int .i64 l',.int .i64 r',.slice D bs.length d])/\Sl (fun _=>True) w2 (.slice .int) D d bs m/\Below w'.heap.size w' w2)
  (hM:∀ w' D d m,Below w.heap.size w w'->Sl (fun _=>True) w' (.slice .int) D d bs m->Calls Tryz.prog 50 #[.int .i64 a0,.agg #[.int .i64 l,.int .i64 r,.slice B n2 c2],.agg #[.int .i64 l',.int .i64 r',.slice D bs.length d]] w' fun e w2=>∃ E q mz,e=.returned (.slice E z.length q)/\Sl (fun _=>True) w2 .int E q z mz/\Below w'.heap.size w' w2) :
  Calls Tryz.prog 24 #[.int .i64 a0,.agg #[.string nm,.slice A n1 c1,.int .i64 l,.int .i64 r,.slice B n2 c2]] w fun e w'=>∃ X x Y y,e=.returned (.iface 63 (.agg #[.slice X (z.take k).length x,.slice Y (z.drop k).length y]))/\Two w.heap.size w' (.slice X (z.take k).length x) (.slice Y (z.drop k).length y) (z.take k) (z.drop k)/\Below w.heap.size w w':=by
 subst hlk;have hq:=fun A n c W=>X0 (P:=Tryz.prog) 42 _ Tryz.underlying42 A n c W
 have hb0:Below w.heap.size w (w.alloc (.cells #[.string nm,.slice A n1 c1,.int .i64 l,.int .i64 r,.slice B n2 c2] 38)):=(by repeat (first|with_reducible exact Below.refl _ _|((with_reducible refine Below.setCell ?_ ?_ _);rotate_left;focus (first|(simp;done)|omega|(simp;omega)))|((with_reducible refine Below.alloc ?_ ?_ _);rotate_left;focus (first|(simp;done)|omega|(simp;omega)))|(with_reducible refine Below.drew ?_)|(with_reducible refine below_draws_ ?_ _)))
 go_enter Tryz.func24,Tryz.ntmps24
 go_wp2_with fail
 (refine (hD _ (by repeat (first|with_reducible exact Below.refl _ _|((with_reducible refine Below.setCell ?_ ?_ _);rotate_left;focus (first|(simp;done)|omega|(simp;omega)))|((with_reducible refine Below.alloc ?_ ?_ _);rotate_left;focus (first|(simp;done)|omega|(simp;omega)))|(with_reducible refine Below.drew ?_)|(with_reducible refine below_draws_ ?_ _)))).mono ?_;rintro e w1 ⟨D,d,m,rfl,hs,hb_w1⟩;obtain ⟨hc_w1,hf_w1⟩:=X5 hb_w1;have hz_w1:=hb_w1.size;(try simp at hz_w1);have hl_w1_0:w.heap.size<w1.heap.size:=oM);go_wp2_with fail
 refine (hM _ D d m (by repeat (first|with_reducible exact Below.refl _ _|((with_reducible refine Below.setCell ?_ ?_ _);rotate_left;focus (first|(simp;done)|omega|(simp;omega)))|((with_reducible refine Below.alloc ?_ ?_ _);rotate_left;focus (first|(simp;done)|omega|(simp;omega)))|(with_reducible refine Below.drew ?_)|(with_reducible refine below_draws_ ?_ _)|((with_reducible refine Below.trans ?_ (Below.mono hb_w1 ?_));rotate_left;focus (first|(simp;done)|omega|(simp;omega))))) (Ov hs (by repeat (first|with_reducible exact Below.refl _ _|((with_reducible refine Below.setCell ?_ ?_ _);rotate_left;focus (first|(simp;done)|omega|(simp;omega)))|((with_reducible refine Below.alloc ?_ ?_ _);rotate_left;focus (first|(simp;done)|omega|(simp;omega)))|(with_reducible refine Below.drew ?_)|(with_reducible refine below_draws_ ?_ _))))).mono ?_;rintro e w2 ⟨E,q,mz,rfl,hsz,hb_w2⟩;obtain ⟨hc_w2,hf_w2⟩:=X5 hb_w2;have hz_w2:=hb_w2.size
 (try simp at hz_w2)
 have hl_w2_0:w.heap.size<w2.heap.size:=by omega
 have hl_w2_1:w1.heap.size<w2.heap.size:=by omega
 obtain ⟨ad,rfl⟩:∃ ad,E=some ad:=by
  cases E with
  | none=>exact absurd (Au4 hsz) hz0
  | some ad=>exact ⟨ad,rfl⟩
 have hcq1:z.length<=q:=hsz.1;have hcq2:q<=maxLen:=hsz.2.1;obtain ⟨m1,st⟩:=Auq hsz hk;obtain ⟨m2,sd⟩:=As4 hsz hk;have tb2:Tab w2:=tab.below (by repeat (first|with_reducible exact Below.refl _ _|((with_reducible refine Below.setCell ?_ ?_ _);rotate_left;focus (first|(simp;done)|omega|(simp;omega)))|((with_reducible refine Below.alloc ?_ ?_ _);rotate_left;focus (first|(simp;done)|omega|(simp;omega)))|(with_reducible refine Below.drew ?_)|(with_reducible refine below_draws_ ?_ _)|((with_reducible refine Below.trans ?_ (Below.mono hb_w1 ?_));rotate_left;focus (first|(simp;done)|omega|(simp;omega)))|((with_reducible refine Below.trans ?_ (Below.mono hb_w2 ?_));rotate_left;focus (first|(simp;done)|omega|(simp;omega)))));have et:(z.take k).length=k:=by rw [List.length_take];omega
 have ed:(z.drop k).length=z.length - k:=List.length_drop
 go_wp2_with fail
 have kf_w2:Below w2.heap.size w2 w2:=(by repeat (first|with_reducible exact Below.refl _ _|((with_reducible refine Below.setCell ?_ ?_ _);rotate_left;focus (first|(simp;done)|omega|(simp;omega)))|((with_reducible refine Below.alloc ?_ ?_ _);rotate_left;focus (first|(simp;done)|omega|(simp;omega)))|(with_reducible refine Below.drew ?_)|(with_reducible refine below_draws_ ?_ _)|((with_reducible refine Below.trans ?_ (Below.mono hb_w2 ?_));rotate_left;focus (first|(simp;done)|omega|(simp;omega)))))
 have kb0_w2:Below (w1.alloc (.cells #[.int .i64 k,.int .i64 r',.slice D bs.length d] 36)).heap.size (w1.alloc (.cells #[.int .i64 k,.int .i64 r',.slice D bs.length d] 36)) w2:=(by repeat (first|with_reducible exact Below.refl _ _|((with_reducible refine Below.setCell ?_ ?_ _);rotate_left;focus (first|(simp;done)|omega|(simp;omega)))|((with_reducible refine Below.alloc ?_ ?_ _);rotate_left;focus (first|(simp;done)|omega|(simp;omega)))|(with_reducible refine Below.drew ?_)|(with_reducible refine below_draws_ ?_ _)|((with_reducible refine Below.trans ?_ (Below.mono hb_w2 ?_));rotate_left;focus (first|(simp;done)|omega|(simp;omega)))))
 have kc0_w2_0:=G9 kb0_w2 (p:=⟨w1.heap.size,0,none⟩) (u:=.int .i64 k) (by simp);have kc0_w2_1:=G9 kb0_w2 (p:=⟨w1.heap.size,1,none⟩) (u:=.int .i64 r') (by simp);have kc0_w2_2:=G9 kb0_w2 (p:=⟨w1.heap.size,2,none⟩) (u:=.slice D bs.length d) (by simp)
 go_region_held3 (fun w'=>Below w2.heap.size w2 w'/\w'.cell? ⟨w1.heap.size,0,none⟩=some (.int .i64 k)/\w'.cell? ⟨w1.heap.size,1,none⟩=some (.int .i64 r')/\w'.cell? ⟨w1.heap.size,2,none⟩=some (.slice D bs.length d))
  (first|((with_reducible show Below _ _ w3/\_);go_split_ands;exact ⟨Below.trans (by assumption) (hb_w3.mono (by first|omega|(simp;omega)|(simp;done))),(hb_w3.cell (show w1.heap.size<_ by first|omega|(simp;omega)|(simp;done))).trans (by assumption),(hb_w3.cell (show w1.heap.size<_ by first|omega|(simp;omega)|(simp;done))).trans (by assumption),(hb_w3.cell (show w1.heap.size<_ by first|omega|(simp;omega)|(simp;done))).trans (by assumption)⟩)|((with_reducible show Below _ _ w4/\_);go_split_ands;exact ⟨Below.trans (by assumption) (hb_w4.mono (by first|omega|(simp;omega)|(simp;done))),(hb_w4.cell (show w1.heap.size<_ by first|omega|(simp;omega)|(simp;done))).trans (by assumption),(hb_w4.cell (show w1.heap.size<_ by first|omega|(simp;omega)|(simp;done))).trans (by assumption),(hb_w4.cell (show w1.heap.size<_ by first|omega|(simp;omega)|(simp;done))).trans (by assumption)⟩)|((with_reducible show Below _ _ w5/\_);go_split_ands;exact ⟨Below.trans (by assumption) (hb_w5.mono (by first|omega|(simp;omega)|(simp;done))),(hb_w5.cell (show w1.heap.size<_ by first|omega|(simp;omega)|(simp;done))).trans (by assumption),(hb_w5.cell (show w1.heap.size<_ by first|omega|(simp;omega)|(simp;done))).trans (by assumption),(hb_w5.cell (show w1.heap.size<_ by first|omega|(simp;omega)|(simp;done))).trans (by assumption)⟩)|((with_reducible show Below _ _ w6/\_);go_split_ands;exact ⟨Below.trans (by assumption) (hb_w6.mono (by first|omega|(simp;omega)|(simp;done))),(hb_w6.cell (show w1.heap.size<_ by first|omega|(simp;omega)|(simp;done))).trans (by assumption),(hb_w6.cell (show w1.heap.size<_ by first|omega|(simp;omega)|(simp;done))).trans (by assumption),(hb_w6.cell (show w1.heap.size<_ by first|omega|(simp;omega)|(simp;done))).trans (by assumption)⟩)|(go_split_ands;exact ⟨alloc_swap (by assumption) (by first|omega|(simp;omega)|(simp;done)),alloc_swap_has (by assumption) (show w1.heap.size<_ by first|omega|(simp;omega)|(simp;done)),alloc_swap_has (by assumption) (show w1.heap.size<_ by first|omega|(simp;omega)|(simp;done)),alloc_swap_has (by assumption) (show w1.heap.size<_ by first|omega|(simp;omega)|(simp;done))⟩)|exact ⟨kf_w2.drew,kc0_w2_0,kc0_w2_1,kc0_w2_2⟩|exact ⟨alloc_drew_below kf_w2 (by first|omega|(simp;omega)|(simp;done)),alloc_drew_has kc0_w2_0,alloc_drew_has kc0_w2_1,alloc_drew_has kc0_w2_2⟩|(go_split_ands;refine ⟨?_,?_,?_,?_⟩;(focus (repeat (first|assumption|((with_reducible refine Below.setCell ?_ ?_ _);rotate_left;focus (first|(simp;done)|omega|(simp;omega)))|((with_reducible refine Below.alloc ?_ ?_ _);rotate_left;focus (first|(simp;done)|omega|(simp;omega))))));all_goals go_keep))
  (first
   | (go_at_call 52;(with_reducible show Calls _ _ #[.agg #[.int .i64 k,.int .i64 r',.slice D bs.length d],.slice (some ad) z.length q] _ _);(try go_split_ands);refine (Apy k r' (.slice D bs.length d) (some ad) z.length q k rfl hk ⟨hcq1,hcq2⟩).mono ?_;rintro e w3 ⟨rfl,hb_w3⟩;have hz_w3:=hb_w3.size;(try simp at hz_w3);have hl_w3_h0:w1.heap.size<w3.heap.size:=oM)
   | (go_at_call 51;(with_reducible show Calls _ _ #[.slice (some ad) k q] _ _);(try go_split_ands);refine (Ab1 (by rw [et]) (Ajn (z.take k) (some ad) q m1 _ (by exact Ov st (by assumption)) (by rw [et];omega) (tb2.below (by assumption)))).mono ?_;rintro e w4 ⟨X,x,rfl,tx,hb_w4⟩;have hz_w4:=hb_w4.size;(try simp at hz_w4);have hl_w4_h0:w1.heap.size<w4.heap.size:=oM)
   | (go_at_call 53;(with_reducible show Calls _ _ #[.agg #[.int .i64 k,.int .i64 r',.slice D bs.length d],.slice (some ad) z.length q] _ _);(try go_split_ands);refine (Aov k r' (.slice D bs.length d) (some ad) z.length q k rfl hk ⟨hcq1,hcq2⟩).mono ?_;rintro e w5 ⟨rfl,hb_w5⟩;have hz_w5:=hb_w5.size;(try simp at hz_w5);have hl_w5_h0:w1.heap.size<w5.heap.size:=oM)
   | (go_at_call 51;(with_reducible show Calls _ _ #[.slice (Aqb (some ad) k q) (z.length - k) (q - k)] _ _);(try go_split_ands);refine (Ab1 (by rw [ed]) (Ajn (z.drop k) (Aqb (some ad) k q) (q - k) m2 _ (by exact Ov sd (by assumption)) (by rw [ed];omega) (tb2.below (by assumption)))).mono ?_;rintro e w6 ⟨Y,y,rfl,ty,hb_w6⟩;have hz_w6:=hb_w6.size;(try simp at hz_w6);have hl_w6_h0:w1.heap.size<w6.heap.size:=oM))
 go_wp2_with fail
 refine bodyPost_ret (v:=.iface 63 (.agg #[.slice X k x,.slice Y (z.length - k) y])) (by simp [results,Tryz.results24,go_sem, *]) rfl ⟨X,x,Y,y,by rw [et,ed],⟨Anc tx (by repeat (first|with_reducible exact Above.refl _ _|((with_reducible refine Above.setCell ?_ ?_ _);rotate_left;focus (first|(simp;done)|omega|(simp;omega)))|(with_reducible refine Above.alloc ?_ _)|(with_reducible refine Above.drew ?_)|(with_reducible refine Above.drewN ?_ _)|(with_reducible refine Above.below ?_ hb_w5)|(with_reducible refine Above.below ?_ hb_w6))) (by first|(simp;done)|omega|(simp;omega)),Anc ty (by repeat (first|with_reducible exact Above.refl _ _|((with_reducible refine Above.setCell ?_ ?_ _);rotate_left;focus (first|(simp;done)|omega|(simp;omega)))|(with_reducible refine Above.alloc ?_ _)|(with_reducible refine Above.drew ?_)|(with_reducible refine Above.drewN ?_ _))) (by first|(simp;done)|omega|(simp;omega)),fun g h1 h2=>?_⟩,by repeat (first|with_reducible exact Below.refl _ _|((with_reducible refine Below.setCell ?_ ?_ _);rotate_left;focus (first|(simp;done)|omega|(simp;omega)))|((with_reducible refine Below.alloc ?_ ?_ _);rotate_left;focus (first|(simp;done)|omega|(simp;omega)))|(with_reducible refine Below.drew ?_)|(with_reducible refine below_draws_ ?_ _)|((with_reducible refine Below.trans ?_ (Below.mono hb_w1 ?_));rotate_left;focus (first|(simp;done)|omega|(simp;omega)))|((with_reducible refine Below.trans ?_ (Below.mono hb_w2 ?_));rotate_left;focus (first|(simp;done)|omega|(simp;omega)))|((with_reducible refine Below.trans ?_ (Below.mono hb_w3 ?_));rotate_left;focus (first|(simp;done)|omega|(simp;omega)))|((with_reducible refine Below.trans ?_ (Below.mono hb_w4 ?_));rotate_left;focus (first|(simp;done)|omega|(simp;omega)))|((with_reducible refine Below.trans ?_ (Below.mono hb_w5 ?_));rotate_left;focus (first|(simp;done)|omega|(simp;omega)))|((with_reducible refine Below.trans ?_ (Below.mono hb_w6 ?_));rotate_left;focus (first|(simp;done)|omega|(simp;omega))))⟩;have q1:=(tx.lt g h1).2;have q2:=(ty.lt g h2).1;omega
theorem Vb {g:Bool}
  (h1:∀ w',Below w.heap.size w w'->Calls Tryz.prog 22 #[.int .i64 a0,.agg #[.string nm,.slice A n1 c1,.int .i64 l,.int .i64 r,.slice B n2 c2]] w' fun e w2=>e=.returned (.bool g)/\Below w'.heap.size w' w2)
  (h2:g=true->∀ w',Below w.heap.size w w'->Calls Tryz.prog 24 #[.int .i64 a0,.agg #[.string nm,.slice A n1 c1,.int .i64 l,.int .i64 r,.slice B n2 c2]] w' fun e w2=>e=.returned .nilIface/\Below w'.heap.size w' w2) :
  Calls Tryz.prog 11 #[.int .i64 a0,.agg #[.string nm,.slice A n1 c1,.int .i64 l,.int .i64 r,.slice B n2 c2]] w fun e w'=>e=.returned (.tuple #[.slice none 0 0,.slice none 0 0,.bool false])/\Below w.heap.size w w':=by
 have hb0:Below w.heap.size w (w.alloc (.cells #[.string nm,.slice A n1 c1,.int .i64 l,.int .i64 r,.slice B n2 c2] 38)):=(by repeat (first|with_reducible exact Below.refl _ _|((with_reducible refine Below.setCell ?_ ?_ _);rotate_left;focus (first|(simp;done)|omega|(simp;omega)))|((with_reducible refine Below.alloc ?_ ?_ _);rotate_left;focus (first|(simp;done)|omega|(simp;omega)))|(with_reducible refine Below.drew ?_)|(with_reducible refine below_draws_ ?_ _)))
 cases g
 ·go_enter Tryz.func11,Tryz.ntmps11
  go_wp2_with (go_at_call 22;refine (h1 _ hb0).mono ?_;rintro e w1 ⟨rfl,hb_w1⟩)
  exact bodyPost_ret (v:=.tuple #[.slice none 0 0,.slice none 0 0,.bool false]) (by simp [results,Tryz.results11,go_sem, *]) rfl ⟨rfl,by repeat (first|with_reducible exact Below.refl _ _|((with_reducible refine Below.setCell ?_ ?_ _);rotate_left;focus (first|(simp;done)|omega|(simp;omega)))|((with_reducible refine Below.alloc ?_ ?_ _);rotate_left;focus (first|(simp;done)|omega|(simp;omega)))|(with_reducible refine Below.drew ?_)|(with_reducible refine below_draws_ ?_ _)|((with_reducible refine Below.trans ?_ (Below.mono hb_w1 ?_));rotate_left;focus (first|(simp;done)|omega|(simp;omega))))⟩
 have h3:=h2 rfl
 clear h2
 go_enter Tryz.func11,Tryz.ntmps11
 go_wp2_with fail
 (refine (h1 _ hb0).mono ?_;rintro e w1 ⟨rfl,hb_w1⟩;obtain ⟨hc_w1,hf_w1⟩:=X5 hb_w1;have hz_w1:=hb_w1.size;(try simp at hz_w1);have hl_w1_0:w.heap.size<w1.heap.size:=oM);go_wp2_with fail
 (refine (h3 _ (by repeat (first|with_reducible exact Below.refl _ _|((with_reducible refine Below.setCell ?_ ?_ _);rotate_left;focus (first|(simp;done)|omega|(simp;omega)))|((with_reducible refine Below.alloc ?_ ?_ _);rotate_left;focus (first|(simp;done)|omega|(simp;omega)))|(with_reducible refine Below.drew ?_)|(with_reducible refine below_draws_ ?_ _)|((with_reducible refine Below.trans ?_ (Below.mono hb_w1 ?_));rotate_left;focus (first|(simp;done)|omega|(simp;omega)))))).mono ?_;rintro e w2 ⟨rfl,hb_w2⟩;obtain ⟨hc_w2,hf_w2⟩:=X5 hb_w2;have hz_w2:=hb_w2.size;(try simp at hz_w2);have hl_w2_0:w.heap.size<w2.heap.size:=oM;have hl_w2_1:w1.heap.size<w2.heap.size:=oM);go_wp2_with fail
 refine (Aoy _ _).mono ?_;rintro e w3 ⟨rfl,rfl⟩
 go_wp2_with fail
 exact bodyPost_ret (v:=.tuple #[.slice none 0 0,.slice none 0 0,.bool false]) (by simp [results,Tryz.results11,go_sem, *]) rfl ⟨rfl,by repeat (first|with_reducible exact Below.refl _ _|((with_reducible refine Below.setCell ?_ ?_ _);rotate_left;focus (first|(simp;done)|omega|(simp;omega)))|((with_reducible refine Below.alloc ?_ ?_ _);rotate_left;focus (first|(simp;done)|omega|(simp;omega)))|(with_reducible refine Below.drew ?_)|(with_reducible refine below_draws_ ?_ _)|((with_reducible refine Below.trans ?_ (Below.mono hb_w1 ?_));rotate_left;focus (first|(simp;done)|omega|(simp;omega)))|((with_reducible refine Below.trans ?_ (Below.mono hb_w2 ?_));rotate_left;focus (first|(simp;done)|omega|(simp;omega))))⟩
set_option maxRecDepth 100000 in
set_option maxHeartbeats 4000000 in
theorem Afm (hT:Tab w) {xs ys:List Int}
  (h1:∀ w',Below w.heap.size w w'->Calls Tryz.prog 22 #[.int .i64 a0,.agg #[.string nm,.slice A n1 c1,.int .i64 l,.int .i64 r,.slice B n2 c2]] w' fun e w2=>e=.returned (.bool true)/\Below w'.heap.size w' w2)
  (h2:∀ w',Below w.heap.size w w'->Calls Tryz.prog 24 #[.int .i64 a0,.agg #[.string nm,.slice A n1 c1,.int .i64 l,.int .i64 r,.slice B n2 c2]] w' fun e w2=>∃ X x Y y,e=.returned (.iface 63 (.agg #[.slice X xs.length x,.slice Y ys.length y]))/\Two w'.heap.size w2 (.slice X xs.length x) (.slice Y ys.length y) xs ys/\Below w'.heap.size w' w2) :
  Calls Tryz.prog 11 #[.int .i64 a0,.agg #[.string nm,.slice A n1 c1,.int .i64 l,.int .i64 r,.slice B n2 c2]] w fun e w'=>∃ X x Y y,e=.returned (.tuple #[.slice X xs.length x,.slice Y ys.length y,.bool true])/\Two w.heap.size w' (.slice X xs.length x) (.slice Y ys.length y) xs ys/\Below w.heap.size w w':=by
 have hb0:Below w.heap.size w (w.alloc (.cells #[.string nm,.slice A n1 c1,.int .i64 l,.int .i64 r,.slice B n2 c2] 38)):=(by repeat (first|with_reducible exact Below.refl _ _|((with_reducible refine Below.setCell ?_ ?_ _);rotate_left;focus (first|(simp;done)|omega|(simp;omega)))|((with_reducible refine Below.alloc ?_ ?_ _);rotate_left;focus (first|(simp;done)|omega|(simp;omega)))|(with_reducible refine Below.drew ?_)|(with_reducible refine below_draws_ ?_ _)))
 have hE:=hT.2
 go_enter Tryz.func11,Tryz.ntmps11
 go_wp2_with fail
 (refine (h1 _ hb0).mono ?_;rintro e w1 ⟨rfl,hb_w1⟩;obtain ⟨hc_w1,hf_w1⟩:=X5 hb_w1;have hz_w1:=hb_w1.size;(try simp at hz_w1);have hl_w1_0:w.heap.size<w1.heap.size:=oM);go_wp2_with fail
 (refine (h2 _ (by repeat (first|with_reducible exact Below.refl _ _|((with_reducible refine Below.setCell ?_ ?_ _);rotate_left;focus (first|(simp;done)|omega|(simp;omega)))|((with_reducible refine Below.alloc ?_ ?_ _);rotate_left;focus (first|(simp;done)|omega|(simp;omega)))|(with_reducible refine Below.drew ?_)|(with_reducible refine below_draws_ ?_ _)|((with_reducible refine Below.trans ?_ (Below.mono hb_w1 ?_));rotate_left;focus (first|(simp;done)|omega|(simp;omega)))))).mono ?_;rintro e w2 ⟨X,x,Y,y,rfl,tx,hb_w2⟩;obtain ⟨hc_w2,hf_w2⟩:=X5 hb_w2;have hz_w2:=hb_w2.size;(try simp at hz_w2);have hl_w2_0:w.heap.size<w2.heap.size:=oM;have hl_w2_1:w1.heap.size<w2.heap.size:=oM);go_wp2_with fail
 have hE2:=G9 (show Below w.heap.size w w2 from (by repeat (first|with_reducible exact Below.refl _ _|((with_reducible refine Below.setCell ?_ ?_ _);rotate_left;focus (first|(simp;done)|omega|(simp;omega)))|((with_reducible refine Below.alloc ?_ ?_ _);rotate_left;focus (first|(simp;done)|omega|(simp;omega)))|(with_reducible refine Below.drew ?_)|(with_reducible refine below_draws_ ?_ _)|((with_reducible refine Below.trans ?_ (Below.mono hb_w1 ?_));rotate_left;focus (first|(simp;done)|omega|(simp;omega)))|((with_reducible refine Below.trans ?_ (Below.mono hb_w2 ?_));rotate_left;focus (first|(simp;done)|omega|(simp;omega)))))) hE;have e0:w2.cell? ⟨w1.heap.size,0,none⟩=some (.slice none 0 0):=(hc_w2 _ _ (by first|(simp;done)|omega|(simp;omega))).trans (by simp);have e1:w2.cell? ⟨w1.heap.size,1,none⟩=some (.slice none 0 0):=(hc_w2 _ _ (by first|(simp;done)|omega|(simp;omega))).trans (by simp);have z0:w2.frozen? ⟨w1.heap.size,0,none⟩=false:=(hf_w2 _ _ (by first|(simp;done)|omega|(simp;omega))).trans (by simp);have z1:w2.frozen? ⟨w1.heap.size,1,none⟩=false:=(hf_w2 _ _ (by first|(simp;done)|omega|(simp;omega))).trans (by simp);refine (Avy _ _ w1.heap.size (.slice none 0 0) (.slice none 0 0) _ rfl rfl hE2 e0 e1 z0 z1).mono ?_;rintro e w3 ⟨rfl,cX,cY,hb_w3,ha_w3⟩
 clear e0 e1 z0 z1 hc_w2 hf_w2
 have hz_w3:=hb_w3.size
 go_wp2_with fail
 go_region
 all_goals go_wp2
 all_goals refine bodyPost_ret (v:=.tuple #[.slice X xs.length x,.slice Y ys.length y,.bool true]) (by simp [results,Tryz.results11,go_sem, *]) rfl ⟨X,x,Y,y,rfl,tx.above (by simpa using ha_w3.drew) (by first|(simp;done)|omega|(simp;omega)),((show Below w.heap.size w w2 from (by repeat (first|with_reducible exact Below.refl _ _|((with_reducible refine Below.setCell ?_ ?_ _);rotate_left;focus (first|(simp;done)|omega|(simp;omega)))|((with_reducible refine Below.alloc ?_ ?_ _);rotate_left;focus (first|(simp;done)|omega|(simp;omega)))|(with_reducible refine Below.drew ?_)|(with_reducible refine below_draws_ ?_ _)|((with_reducible refine Below.trans ?_ (Below.mono hb_w1 ?_));rotate_left;focus (first|(simp;done)|omega|(simp;omega)))|((with_reducible refine Below.trans ?_ (Below.mono hb_w2 ?_));rotate_left;focus (first|(simp;done)|omega|(simp;omega)))))).trans (hb_w3.mono oM)).drew⟩
end
def Dw (a0:Int) (a1_0:ByteArray) (a1_1:List (Int×Int×ByteArray)) (a1_2:Int) (a1_3:Int) (a1_4:List (List Int)):Option (List Int×List Int×Bool) :=
 Option.bind (Gi a0 a1_0 a1_1 a1_2 a1_3 a1_4) fun y =>
 cond (!y)
 (some ([],[],false))
 (Option.bind (Mm a0 a1_1) fun d =>
  Option.bind (Kw a0 a1_2 a1_3 a1_4 d.1 d.2.1 d.2.2) fun z =>
  Sum.elim (fun _=>some ([],[],false)) (fun x =>
   og (0<=d.1/\d.1<=x.length/\x≠[]/\x.length<=1000) <|
   some (x.take d.1.toNat,x.drop d.1.toNat,true)) z)
def Eo (r:List Int×List Int×Bool):RV:=⟨true,[(false,[.new 3 .int r.1]),(false,[.new 3 .int r.2.1]),(false,[.sc (.bool r.2.2)])]⟩
theorem Asg {σ:Oid->Option Loc} {im:Nat->Prop} {w w':World} (hb:Below w.heap.size w w'):Later σ σ im im w w':=⟨fun _ _ h=>h,fun _ _ h=>h,fun b hlt _=>hb.block b hlt,hb.size⟩
theorem Yl (lo:Nat) (im:Nat->Prop) (vs:List Value) (w:World):(Eo ([],[],false)).Rep lo im vs w (.tuple #[.slice none 0 0,.slice none 0 0,.bool false]) :=
 ⟨[.slice none 0 0,.slice none 0 0,.bool false],[.nil,.nil],⟨.nil,[.nil],_,rfl,rfl,rfl,Ks _ _ _ _,(fun _ _ _ h=>by cases h),.nil,[],_,rfl,rfl,rfl,Ks _ _ _ _,(fun _ _ _ h=>by cases h),.bool false,[],rfl,rfl,rfl,rfl,rfl⟩,⟨⟨(fun _ _ _ h=>by cases h),(fun _ _ _ h=>by cases h),trivial⟩,fun ⟨l,hl,hf⟩=>by
  have:l=.new 3 .int []∨l=.new 3 .int []∨l=.sc (.bool false):=by simpa [Eo,RV.leaves] using hl
  rcases this with rfl|rfl|rfl <;> cases hf⟩,rfl⟩
theorem Aic {lo:Nat} {im:Nat->Prop} {vs:List Value} {w:World} {u v:Value} {xs ys:List Int} (h:Two lo w u v xs ys):(Eo (xs,ys,true)).Rep lo im vs w (.tuple #[u,v,.bool true]):=by
 obtain ⟨h1,h2,h3⟩:=h;obtain ⟨L1,rfl,f1⟩:=Ajl h1;obtain ⟨L2,rfl,f2⟩:=Ajl h2;refine ⟨[L1.val xs.length,L2.val ys.length,.bool true],[L1,L2],⟨L1,[L2],_,rfl,rfl,rfl,h1,(fun b c s e=>(f1 b c s e).1),L2,[],_,rfl,rfl,rfl,h2,(fun b c s e=>(f2 b c s e).1),.bool true,[],rfl,rfl,rfl,rfl,rfl⟩,⟨⟨fun b c s e c' s' hm=>?_,(fun _ _ _ _ _ _ hm=>by cases hm),trivial⟩,fun ⟨l,hl,hf⟩=>?_⟩,rfl⟩
 ·exact h3 b (f1 b c s e).2 (f2 b c' s' (List.mem_singleton.1 hm).symm).2
 ·have:l=.new 3 .int xs∨l=.new 3 .int ys∨l=.sc (.bool true):=by simpa [Eo,RV.leaves] using hl
  rcases this with rfl|rfl|rfl <;> cases hf
theorem N8 {a0:Int} {a1_0:ByteArray} {a1_1:List (Int×Int×ByteArray)} {a1_2:Int} {a1_3:Int} {a1_4:List (List Int)} {r:List Int×List Int×Bool} (h:Dw a0 a1_0 a1_1 a1_2 a1_3 a1_4=some r):Cr Tryz.prog Tab 11 [ai a0,.agg [.str a1_0,.tree (.pair .int (.pair .int .str)) a1_1,ai a1_2,ai a1_3,.tree (.slice .int) a1_4]] (Eo r):=by
 unfold Dw at h;obtain ⟨y,hy,h⟩:=Ah h;intro w im vs hG hr;have hr0:=hr;obtain ⟨u1,_,rfl,h1,u2,_,rfl,h2,h3⟩:=hr;obtain rfl:_=[]:=h3;obtain rfl:u1=.int .i64 a0:=h1;obtain ⟨us,rfl,v1,_,rfl,e1,v2,_,rfl,e2,v3,_,rfl,e3,v4,_,rfl,e4,v5,_,rfl,e5,e6⟩:=h2;obtain rfl:_=[]:=e6;obtain rfl:v1=.string a1_0:=e1;obtain ⟨A,c1,l1,rfl,s1⟩:=e2;obtain rfl:v3=.int .i64 a1_2:=e3;obtain rfl:v4=.int .i64 a1_3:=e4;obtain ⟨B,c2,l2,rfl,s2⟩:=e5;have hT:Tab w:=hG w (Below.refl _ _)
 have g1:∀ w',Below w.heap.size w w'->Calls Tryz.prog 22 #[.int .i64 a0,.agg #[.string a1_0,.slice A a1_1.length c1,.int .i64 a1_2,.int .i64 a1_3,.slice B a1_4.length c2]] w' fun e w2=>e=.returned (.bool y)/\Below w'.heap.size w' w2:=fun w' hb=>by
  refine (Tq hy w' im _ (fun w2 hb2=>hG w2 (hb.trans (hb2.mono hb.size))) (AV.RepL.later (Asg hb) _ _ hr0)).mono ?_;rintro e w2 ⟨u,rfl,hb2,us,ls,k1,_,rfl⟩;obtain ⟨u1,us1,rfl,k2,_,rfl,rfl⟩:=k1;obtain rfl:u1=.bool y:=k2;exact ⟨rfl,hb2⟩
 cases y
 ·obtain rfl:=osj h;refine (Vb (g:=false) g1 (fun h=>by cases h)).mono ?_;rintro e w' ⟨rfl,hb⟩;exact ⟨_,rfl,hb,Yl _ _ _ _⟩
 obtain ⟨d,hd,h⟩:=Ah h;obtain ⟨z,hz,h⟩:=Ah h
 have hD:∀ w',Below w.heap.size w w'->Calls Tryz.prog 49 #[.int .i64 a0,.agg #[.slice A a1_1.length c1]] w' fun e w2=>∃ D q m,e=.returned (.agg #[.int .i64 d.1,.int .i64 d.2.1,.slice D d.2.2.length q])/\Sl (fun _=>True) w2 (.slice .int) D q d.2.2 m/\Below w'.heap.size w' w2:=fun w' hb=>by
  refine (Adf hd w' (fun _=>True) [.int .i64 a0,.agg #[.slice A a1_1.length c1]] (fun w2 hb2=>hG w2 (hb.trans (hb2.mono hb.size))) ⟨_,_,rfl,rfl,⟨_,_,rfl,⟨_,rfl,⟨_,_,rfl,⟨A,c1,l1,rfl,Rw (Ov s1 hb)⟩,rfl⟩⟩,rfl⟩⟩).mono ?_;rintro e w2 ⟨u,rfl,hb2,us,ls,⟨u1,_,rfl,k1,_,u2,_,rfl,k2,_,u3,_,rfl,k3,_,rfl,rfl⟩,_,rfl⟩;obtain rfl:u1=.int .i64 d.1:=k1;obtain rfl:u2=.int .i64 d.2.1:=k2;obtain ⟨D,q,m,rfl,hs⟩:=k3;exact ⟨D,q,m,rfl,Rw hs,hb2⟩
 have hMr:∀ w' D q m,Below w.heap.size w w'->Sl (fun _=>True) w' (.slice .int) D q d.2.2 m->AV.RepL (fun _=>none) (fun _=>True) w' [ai a0,.agg [ai a1_2,ai a1_3,.tree (.slice .int) a1_4],.agg [ai d.1,ai d.2.1,.tree (.slice .int) d.2.2]] [.int .i64 a0,.agg #[.int .i64 a1_2,.int .i64 a1_3,.slice B a1_4.length c2],.agg #[.int .i64 d.1,.int .i64 d.2.1,.slice D d.2.2.length q]]:=fun w' D q m hb hs =>
  ⟨_,_,rfl,rfl,⟨_,_,rfl,⟨_,rfl,⟨_,_,rfl,rfl,⟨_,_,rfl,rfl,⟨_,_,rfl,⟨B,c2,l2,rfl,Rw (Ov s2 hb)⟩,rfl⟩⟩⟩⟩,⟨_,_,rfl,⟨_,rfl,⟨_,_,rfl,rfl,⟨_,_,rfl,rfl,⟨_,_,rfl,⟨D,q,m,rfl,Rw hs⟩,rfl⟩⟩⟩⟩,rfl⟩⟩⟩
 rcases z with z|x
 ·obtain rfl:=osj h;refine (Vb (g:=true) g1 (fun _ w' hw=>Agy (fun w2 hb=>hD w2 (hw.trans (hb.mono hw.size))) (fun w2 D q m hb hs=>?_))).mono ?_
  ·refine (Re hz w2 (fun _=>True) _ (fun w3 hb2=>hG w3 ((hw.trans (hb.mono hw.size)).trans (hb2.mono (hw.trans (hb.mono hw.size)).size))) (hMr w2 D q m (hw.trans (hb.mono hw.size)) hs)).mono ?_;rintro e w3 ⟨u,rfl,hb2,us,ls,k0,_,rfl⟩;obtain ⟨u1,us1,rfl,k1,_,rfl,rfl⟩:=k0;have k2:u1=.slice none 0 0:=k1;rw [k2];exact ⟨rfl,hb2⟩
  ·rintro e w' ⟨rfl,hb⟩;exact ⟨_,rfl,hb,Yl _ _ _ _⟩
 ·obtain ⟨⟨b1,b2,b3,b4⟩,h⟩:=Ak h;obtain rfl:=osj h;refine (Afm (xs:=x.take d.1.toNat) (ys:=x.drop d.1.toNat) hT g1 (fun w' hw=>Agw (hT.below hw) (z:=x) (k:=d.1.toNat) oM oM b3 b4 (fun w2 hb=>hD w2 (hw.trans (hb.mono hw.size))) (fun w2 D q m hb hs=>?_))).mono ?_
  ·refine (Re hz w2 (fun _=>True) _ (fun w3 hb2=>hG w3 ((hw.trans (hb.mono hw.size)).trans (hb2.mono (hw.trans (hb.mono hw.size)).size))) (hMr w2 D q m (hw.trans (hb.mono hw.size)) hs)).mono ?_;rintro e w3 ⟨u,rfl,hb2,us,ls,⟨u1,_,rfl,k1,_,rfl,rfl⟩,_,rfl⟩;obtain ⟨E,qq,mz,rfl,hs2⟩:=k1;exact ⟨E,qq,mz,rfl,Rw hs2,hb2⟩
  ·rintro e w' ⟨X,x',Y,y',rfl,ht,hb⟩;exact ⟨_,rfl,hb,Aic ht⟩
end
section
open Go.RowKit Go.Deep
set_option maxRecDepth 4000
set_option maxHeartbeats 4800000
variable {hA:List (Int×Int×ByteArray)} {bA bB bC:Int} {xA:(List (Int×Int×ByteArray))×Int} {aA:List Int} {yA:List Int×Int} {dA:LL} {zA:LL×Int} {gA:ByteArray} {aA1:(List (Int×Int×ByteArray))×LL×Int} {cA:Bool}
def Fq  (u1:Int) (u0:Nat) (u2:List (Int×Int×ByteArray)):Option (Ctl (Int×Nat×(List (Int×Int×ByteArray))) (Int×(List (Int×Int×ByteArray)))) :=
 cond (decide ((u0:Int)<(u2.length:Int)))
 ((u2[u0]?).bind fun x11 =>
 ((u2.set u0 (u1,x11.2))[u0]?).bind fun x14 =>
 (Jz (wI (wI (u1+1)+1))).bind fun y17 =>
 (((u2.set u0 (u1,x11.2)).set u0 (x14.1,wI (u1+1),x14.2.2))[u0]?).bind fun x18 =>
 og (u0+1<4611686018427387904) <|
 some (Ctl.next (wI (wI (wI (u1+1)+1)+1),u0+1,((u2.set u0 (u1,x11.2)).set u0 (x14.1,wI (u1+1),x14.2.2)).set u0 (x18.1,x18.2.1,y17))))
 (some (Ctl.out (u1,u2)))
def I6 (a0:List (Int×Int×ByteArray)) (a1:Int):Option ((List (Int×Int×ByteArray))×Int) :=
 (Aq (fun s_:Int×Nat×(List (Int×Int×ByteArray))=>Fq s_.1 s_.2.1 s_.2.2) 4611686018427387904 (a1,0,a0)).bind fun (u0,l3_p0) =>
some (l3_p0,u0)
theorem Vi (h:I6 hA bA=some xA) {n_a0:Nat} (hn_a0:n_a0=hA.length):D1 Tryz.prog Tab 62 [.own (oi 0 0) Y8 0 n_a0,ai bA] [(oi 0 0,.arr 117 Y8 hA)] (ai xA.2) [(oi 0 0,.arr 117 Y8 xA.1)]:=by
 refine Br kr Tryz.func62 (B6 kr) (n:=35) kr (by simp) rfl kr ⟨trivial,trivial⟩ ⟨trivial,trivial⟩ (Ae (sqF h (fun (u3,l3_p0)=>sT [(1,ai u3)] [(oi 0 0,.arr 117 Y8 l3_p0)]) ?_ ?_))
 ·intro _ h;refine Ae (Ad (lpF h (fun (u2,u0,u1)=>sT [(0,.own (oi 0 0) Y8 0 u1.length),(1,ai u2),(5,an u0)] [(oi 0 0,.arr 117 Y8 u1)]) ((wL 0 (hn_a0:n_a0=hA.length)).trans (Ag [])) ?_));rintro n_ ⟨u2,u0,u1⟩ c_ h hn5;refine Ab (Ae (kQ h (fun _ h=>skW (Ab (Ad (Ab (Aa 12 (rsT 3 ?_)))))) fun _ h=>lxT (have h:=jO h hn5;jE [])));obtain ⟨x11,e11,h⟩:=Ah h;refine rs0 (.elt (oi 0 0) u0 0) (zo (t:=Y8) (o:=oi 0 0) (len:=u1.length) (k:=.i64) (m:=(u0:Int)) (Cu _) (Ai e11)) (rsT 1 (Afj (oi 0 0) (oi 0 0) (.arr 117 Y8 (u1.set u0 (u2,x11.2))) (Vm (i:=oi 0 0) (j:=u0) (k:=0) (e:=117) (t:=Y8) (xs:=u1) (cs:=[ai u2,ai x11.2.1,.str x11.2.2]) (x1:=(u2,x11.2)) kr kr e11 kr kr) (rnW (Ae (Ab (Aa 21 (rsT 3 ?_)))))));obtain ⟨x14,e14,h⟩:=Ah h;refine rs0 (.elt (oi 0 0) u0 0) (zo (t:=Y8) (o:=oi 0 0) (len:=u1.length) (k:=.i64) (m:=(u0:Int)) (Cu _) (Nat.lt_of_lt_of_le (Ai e14) (Nat.le_of_eq (Eq.symm ((rfl:u1.length=u1.length).trans List.length_set.symm))))) (rsT 1 (Afj (oi 0 0) (oi 0 0) (.arr 117 Y8 ((u1.set u0 (u2,x11.2)).set u0 (x14.1,wI (u2+1),x14.2.2))) (Vm (i:=oi 0 0) (j:=u0) (k:=1) (e:=117) (t:=Y8) (xs:=u1.set u0 (u2,x11.2)) (cs:=[ai x14.1,ai (wI (u2+1)),.str x14.2.2]) (x1:=(x14.1,wI (u2+1),x14.2.2)) kr kr e14 kr kr) (rnW (Ae (Ab (Aa 31 (rsT 3 (rcM h [] [ai (wI (wI (u2+1)+1))] W0 trivial (aR kr) (Ay kr kr trivial) fun y17 h=>?_))))))));obtain ⟨x18,e18,h⟩:=Ah h;refine rs0 (.elt (oi 0 0) u0 0) (zo (t:=Y8) (o:=oi 0 0) (len:=u1.length) (k:=.i64) (m:=(u0:Int)) (Cu _) (Nat.lt_of_lt_of_le (Ai e18) (Nat.le_of_eq (Eq.symm (((rfl:u1.length=u1.length).trans List.length_set.symm).trans List.length_set.symm))))) (rsT 1 (Afj (oi 0 0) (oi 0 0) (.arr 117 Y8 (((u1.set u0 (u2,x11.2)).set u0 (x14.1,wI (u2+1),x14.2.2)).set u0 (x18.1,x18.2.1,y17))) (Vm (i:=oi 0 0) (j:=u0) (k:=2) (e:=117) (t:=Y8) (xs:=(u1.set u0 (u2,x11.2)).set u0 (x14.1,wI (u2+1),x14.2.2)) (cs:=[ai x18.1,ai x18.2.1,.str y17]) (x1:=(x18.1,x18.2.1,y17)) kr kr e18 kr kr) (rnW (Aa 34 (rsT 3 (Ap (bn_ (tn_ (wr_ (Aa 37 (rsT 1 (raH h fun h=>rsT 1 (Ap (tn_ ?_))))))))))))));obtain rfl:=zj h;exact jLw hn5 ((wL 0 (((((rfl:u1.length=u1.length).trans List.length_set.symm).trans List.length_set.symm).trans List.length_set.symm):u1.length=(((u1.set u0 (u2,x11.2)).set u0 (x14.1,wI (u2+1),x14.2.2)).set u0 (x18.1,x18.2.1,y17)).length)).trans (Ag []))
 rintro ⟨u3,l3_p0⟩ h;refine Ae (Ac ?_);obtain rfl:=zj h;exact E4 [ai u3] (Ag (tl:=[(4,ai u3)]) (g:=2) [])
def Nh (u0:List (Int×Int×ByteArray)) (a1:Int):Option ((List (Int×Int×ByteArray))×Int) :=
 (I6 u0 a1).bind fun y4 =>
og (y4.1.length=(u0.length)) <|
some (y4.1,y4.2)
theorem Xb (h:Nh hA bA=some xA) {n_a0_0:Nat} (hn_a0_0:n_a0_0=hA.length):D1 Tryz.prog Tab 31 [.agg [.own (oi 0 0) Y8 0 n_a0_0],ai bA] [(oi 0 0,.arr 117 Y8 hA)] (ai xA.2) [(oi 0 0,.arr 117 Y8 xA.1)]:=by
 refine Br kr Tryz.func31 (B6 kr) (n:=10) kr (by simp) rfl kr ⟨trivial,trivial⟩ ⟨trivial,trivial⟩ ?_
 (try rw [← hn_a0_0] at h)
 refine Ae (Ab (Aa 8 (rsT 3 (rcM h [] [.own (oi 0 0) Y8 0 n_a0_0,ai bA] (fun h=>Vi h hn_a0_0) ⟨kr,trivial⟩ (aR kr) (Ay kr kr ⟨Bh kr,trivial⟩) fun y4 h=>rsT 1 (rnW (Ae (Ac ?_)))))));obtain ⟨g5,h⟩:=Ak h;obtain rfl:=zj h;exact E4 [ai y4.2] (Ag (tl:=[(4,ai y4.2)]) (g:=2) [])
def Gk  (u2:Int) (u0:Nat) (u1:List Int):Option (Ctl (Int×Nat×List Int) (Int×List Int)) :=
 cond (decide ((u0:Int)<(u1.length:Int)))
 ((u1[u0]?).bind fun x11 =>
 og (u0+1<4611686018427387904) <|
 some (Ctl.next (wI (u2+1),u0+1,u1.set u0 u2)))
 (some (Ctl.out (u2,u1)))
def E8 (a0:List Int) (a1:Int):Option (List Int×Int) :=
 (Aq (fun s_:Int×Nat×List Int=>Gk s_.1 s_.2.1 s_.2.2) 4611686018427387904 (a1,0,a0)).bind fun (u0,l3_p0) =>
some (l3_p0,u0)
theorem L8 (h:E8 aA bA=some yA) {n_a0:Nat} (hn_a0:n_a0=aA.length):D1 Tryz.prog Tab 14 [oI 0 0 n_a0,ai bA] [(oi 0 0,.arr 3 .int aA)] (ai yA.2) [(oi 0 0,.arr 3 .int yA.1)]:=by
 refine Br kr Tryz.func14 (B6 kr) (n:=19) kr (by simp) rfl kr ⟨trivial,trivial⟩ ⟨trivial,trivial⟩ (Ae (sqF h (fun (u1,l3_p0)=>sT [(1,ai u1)] [(oi 0 0,.arr 3 .int l3_p0)]) ?_ ?_))
 ·intro _ h;refine Ae (Ad (lpF h (fun (u2,u3,u0)=>sT [(0,oI 0 0 u0.length),(1,ai u2),(5,an u3)] [(oi 0 0,.arr 3 .int u0)]) ((wL 0 (hn_a0:n_a0=aA.length)).trans (Ag [])) ?_));rintro n_ ⟨u2,u3,u0⟩ c_ h hn5;refine Ab (Ae (kQ h (fun _ h=>skW (Ab (Ad (Ab (Aa 11 (rsT 3 ?_)))))) fun _ h=>lxT (have h:=jO h hn5;jE [])));obtain ⟨x11,e11,h⟩:=Ah h;refine zO (oi 0 0) .int u0.length (Ai e11) (zS (oi 0 0) (u2) e11 (rnW (Aa 14 (rsT 3 (Ap (bn_ (tn_ (wr_ (Aa 17 (rsT 1 (raH h fun h=>rsT 1 (Ap (tn_ ?_)))))))))))));obtain rfl:=zj h;exact jLw hn5 ((wL 0 (((rfl:u0.length=u0.length).trans List.length_set.symm):u0.length=(u0.set u3 u2).length)).trans (Ag []))
 rintro ⟨u1,l3_p0⟩ h;refine Ae (Ac ?_);obtain rfl:=zj h;exact E4 [ai u1] (Ag (tl:=[(4,ai u1)]) (g:=2) [])
def Fp  (u2:Int) (u0:Nat) (u1:LL):Option (Ctl (Int×Nat×LL) (Int×LL)) :=
 cond (decide ((u0:Int)<(u1.length:Int)))
 ((u1[u0]?).bind fun x10 =>
 (E8 x10 u2).bind fun y11 =>
 og (y11.1.length=x10.length) <|
 og (u0+1<4611686018427387904) <|
 some (Ctl.next (y11.2,u0+1,u1.set u0 y11.1)))
 (some (Ctl.out (u2,u1)))
def Iq (a0:LL) (a1:Int):Option (LL×Int) :=
 (Aq (fun s_:Int×Nat×LL=>Fp s_.1 s_.2.1 s_.2.2) 4611686018427387904 (a1,0,a0)).bind fun (u0,l3_p0) =>
some (l3_p0,u0)
theorem Vu (h:Iq dA bA=some zA) {n_a0:Nat} (hn_a0:n_a0=dA.length):D1 Tryz.prog Tab 63 [oS 0 0 n_a0,ai bA] [(oi 0 0,.mat 42 (oi 1 0) .int dA),(oi 1 0,.pool 3 .int dA)] (ai zA.2) [(oi 0 0,.mat 42 (oi 0 1) .int zA.1),(oi 0 1,.pool 3 .int zA.1)]:=by
 refine Br kr Tryz.func63 (B6 kr) (n:=19) kr (by simp) rfl kr ⟨⟨3,.tail _ (.head _)⟩,⟨trivial,trivial⟩⟩ ⟨⟨3,.tail _ (.head _)⟩,⟨trivial,trivial⟩⟩ (Ae (sqF h (fun (u2,l3_p0)=>sT [(1,ai u2)] [(oi 0 0,.mat 42 (oi 0 1) .int l3_p0),(oi 0 1,.pool 3 .int l3_p0)]) ?_ ?_))
 ·intro _ h;refine Ae (Ad (lpF h (fun (u3,u1,u0)=>sT [(0,oS 0 0 u0.length),(1,ai u3),(5,an u1)] [(oi 0 0,.mat 42 (oi 0 1) .int u0),(oi 0 1,.pool 3 .int u0)]) ((wL 0 (hn_a0:n_a0=dA.length)).trans (Ag [(oi 0 1,oi 1 0)])) ?_));rintro n_ ⟨u3,u1,u0⟩ c_ h hn5;refine Ab (Ae (kQ h (fun _ h=>skW (Ab (Ad (Aa 13 (rsT 2 ?_))))) fun _ h=>lxT (have h:=jO h hn5;jE [])));obtain ⟨x10,e10,h⟩:=Ah h;refine zO (oi 0 0) sI u0.length (Ai e10) (rsl (.own (kid (oi 0 1) u1) .int 0 x10.length) (D6 (o:=oi 0 0) (p:=oi 0 1) (e1:=42) (u:=.int) (xss:=u0) (row:=x10) (j:=u1) kr kr e10) (rsT 1 (rcM h [(oi 0 0,kid (oi 0 1) u1)] [.own (kid (oi 0 1) u1) .int 0 x10.length,ai u3] (fun h=>L8 h rfl) ⟨Aeg kr e10,trivial⟩ (aR kr) (Ay kr kr ⟨.arg (by simp [AV.nmsL,AV.nms,Ba]),trivial⟩) fun y11 h=>?_)));obtain ⟨g12,h⟩:=Ak h;refine Ax1 (Aa8 (o:=oi 0 0) (p:=oi 0 1) (e1:=42) (e:=3) (u:=.int) (xss:=u0) (k:=u1) (row:=x10) (row':=y11.1) kr rfl kr e10 g12) (rsT 1 (Ap (bn_ (tn_ (wr_ (Aa 16 (rsT 1 (raH h fun h=>rsT 1 (Ap (tn_ ?_))))))))));obtain rfl:=zj h;exact jLw hn5 ((wL 0 ((Eq.trans (b:=u0.length) rfl List.length_set.symm):u0.length=(u0.set u1 y11.1).length)).trans (Ag []))
 rintro ⟨u2,l3_p0⟩ h;refine Ae (Ac ?_);obtain rfl:=zj h;exact E4 [ai u2] (Ag (tl:=[(4,ai u2)]) (g:=2) [])
def Jg (u1 u2:Int) (u0:LL) (a1:Int):Option (LL×Int) :=
 (Iq u0 a1).bind fun y4 =>
og (y4.1.length=(u0.length)) <|
some (y4.1,y4.2)
theorem Rv (h:Jg bA bB dA bC=some zA) {n_a0_2:Nat} (hn_a0_2:n_a0_2=dA.length):D1 Tryz.prog Tab 32 [.agg [ai bA,ai bB,oS 0 0 n_a0_2],ai bC] [(oi 0 0,.mat 42 (oi 1 0) .int dA),(oi 1 0,.pool 3 .int dA)] (ai zA.2) [(oi 0 0,.mat 42 (oi 0 1) .int zA.1),(oi 0 1,.pool 3 .int zA.1)]:=by
 refine Br kr Tryz.func32 (B6 kr) (n:=10) kr (by simp) rfl kr ⟨⟨3,.tail _ (.head _)⟩,⟨trivial,trivial⟩⟩ ⟨⟨3,.tail _ (.head _)⟩,⟨trivial,trivial⟩⟩ ?_
 (try rw [← hn_a0_2] at h)
 refine Ae (Ab (Aa 8 (rsT 3 (rcM h [] [oS 0 0 n_a0_2,ai bC] (fun h=>Vu h hn_a0_2) ⟨kr,⟨kr,trivial⟩⟩ (aR kr) (Ay kr kr ⟨Bh kr,⟨Gm (o:=oi 0 0) (p:=oi 1 0) (e1:=42) (m:=dA.length) (u:=.int) (xss:=dA) (Bh kr) kr,trivial⟩⟩) fun y4 h=>rsT 1 (rnW (Ae (Ac ?_)))))));obtain ⟨g5,h⟩:=Ak h;obtain rfl:=zj h;exact E4 [ai y4.2] (Ag (tl:=[(4,ai y4.2)]) (g:=2) [(oi 0 1,oi 128 6)])
def Fk (u4:ByteArray) (u0:List (Int×Int×ByteArray)) (u2 u3:Int) (u1:LL) (a1:Int):Option ((List (Int×Int×ByteArray))×LL×Int) :=
 (Nh u0 a1).bind fun y4 =>
og (y4.1.length=(u0.length)) <|
(Jg u2 u3 u1 y4.2).bind fun y7 =>
og (y7.1.length=(u1.length)) <|
some (y4.1,y7.1,y7.2)
theorem Ri (h:Fk gA hA bA bB dA bC=some aA1) {n_a0_1:Nat} (hn_a0_1:n_a0_1=hA.length) {n_a0_4:Nat} (hn_a0_4:n_a0_4=dA.length):D1 Tryz.prog Tab 13 [.agg [.str gA,.own (oi 0 0) Y8 0 n_a0_1,ai bA,ai bB,oS 1 0 n_a0_4],ai bC] [(oi 0 0,.arr 117 Y8 hA),(oi 1 0,.mat 42 (oi 2 0) .int dA),(oi 2 0,.pool 3 .int dA)] (ai aA1.2.2) [(oi 0 0,.arr 117 Y8 aA1.1),(oi 1 0,.mat 42 (oi 0 1) .int aA1.2.1),(oi 0 1,.pool 3 .int aA1.2.1)]:=by
 refine Br kr Tryz.func13 (B6 kr) (n:=14) kr (by simp) rfl kr ⟨trivial,⟨⟨3,.tail _ (.tail _ (.head _))⟩,⟨trivial,trivial⟩⟩⟩ ⟨trivial,⟨⟨3,.tail _ (.tail _ (.head _))⟩,⟨trivial,trivial⟩⟩⟩ ?_
 (try rw [← hn_a0_1] at h)
 (try rw [← hn_a0_4] at h)
 refine Ae (Ab (Aa 8 (rsT 3 (rcM h [] [.agg [.own (oi 0 0) Y8 0 n_a0_1],ai bC] (fun h=>Xb h hn_a0_1) ⟨kr,trivial⟩ (.cons (.agg (.cons (.ren kr) .nil)) (.cons (.ren kr) .nil)) (Ay kr kr ⟨Bh kr,trivial⟩) fun y4 h=>rsT 1 (rnW (Ab (Aa 13 (rsT 3 ?_))))))));obtain ⟨g5,h⟩:=Ak h;obtain ⟨y7,h7,h⟩:=Ah h;refine L0 (ai y7.2) [(oi 1 0,some (.mat 42 (oi 192 11) .int y7.1)),(oi 192 11,some (.pool 3 .int y7.1)),(oi 1 0,none),(oi 2 0,some (.pool 3 .int []))] [(oi 0 0,oi 1 0),(oi 1 0,oi 2 0)] [.agg [ai bA,ai bB,oS 1 0 n_a0_4],ai y4.2] (caps:=[]) trivial (Rv h7 hn_a0_4) kr ⟨kr,⟨kr,trivial⟩⟩ (.cons (.agg (.cons (.ren kr) (.cons (.ren kr) (.cons (.ren kr) .nil)))) (.cons (.ren kr) .nil)) (Ay kr kr ⟨Bh kr,⟨Gm (o:=oi 1 0) (p:=oi 2 0) (e1:=42) (m:=dA.length) (u:=.int) (xss:=dA) (Bh kr) kr,trivial⟩⟩) (rsT 1 (rnW (Ae (Ac ?_))));obtain ⟨g8,h⟩:=Ak h;obtain rfl:=zj h;exact E4 [ai y7.2] (Ag (tl:=[(4,ai y7.2)]) (g:=2) [(oi 0 1,oi 192 11)])
def Gs (a0:List Int) (u1:Int) (u0:Nat):Option (Ctl (Int×Nat) (Ctl Int Int)) :=
 cond (decide ((u0:Int)<(a0.length:Int)))
 ((a0[u0]?).bind fun x11 =>
 cond (x11 !=u1)
  (some (Ctl.out (Ctl.out (-1))))
  (og (u0+1<4611686018427387904) <|
  some (Ctl.next (wI (u1+1),u0+1))))
 (some (Ctl.out (Ctl.next u1)))
def D4 (a0:List Int) (a1:Int):Option Int :=
 Di (Aq (fun s_:Int×Nat=>Gs a0 s_.1 s_.2) 4611686018427387904 (a1,0)) fun u0 =>
some u0
theorem I7 (h:D4 aA bA=some bB):cK 15 [tI aA,ai bA] (A3 bB):=by
 refine cO Tryz.func15 (Ae (sqC h (fun u0=>sT [(1,ai u0)] []) ?_ fun u0 h=>Ae (Ac (jS h))));intro _ h hk2;refine Ae (Ad (lpF h (fun (u1,u2)=>sT [(0,tI aA),(1,ai u1),(5,an u2)] []) (Ag []) ?_));rintro n_ ⟨u1,u2⟩ c_ h hn4;exact Ab (Ae (kQ h (fun _ h=>skW (Ab (Ad (Ab (Ab (Aa 12 (rsT 2 (riH .int h fun x11 _ h=>rsT 3 (rnW (kQ h (fun _ h=>Ae (Ac (tr_ (br_ (tr_ (tr_ (br_ (tr_ (have h:=jO h hn4;(have h:=jO h hk2;jS h)))))))))) fun _ h=>skW (Aa 15 (rsT 3 (Ap (bn_ (tn_ (wr_ (Aa 18 (rsT 1 (raH h fun h=>rsT 1 (Ap (tn_ (jL [])))))))))))))))))))))) fun _ h=>lxT (have h:=jO h hn4;jC [])))
def Dm (a0:Int) (u0:ByteArray) (u3:List (Int×Int×ByteArray)) (u1 u2:Int) (u4:LL):Option Bool :=
 (Gp u0 u3 u1 u2 u4 1048576).bind fun y4 =>
cond (decide (y4<0))
 (some true)
 ((Cq u0 u3 u1 u2 u4).bind fun y10 =>
 (Ht a0 u0 y10.1 u1 u2 y10.2).bind fun y11 =>
 (Cq u0 u3 u1 u2 u4).bind fun y13 =>
 (Dw a0 u0 y13.1 u1 u2 y13.2).bind fun y15 =>
 ((Cx y15.1 y11.1).bind fun y18 =>
  cond (!y18)
   (some true)
   ((Cx y15.2.1 y11.2.1).bind fun y20 =>
   cond (!y20)
    (some true)
    (some (y15.2.2 !=y11.2.2)))).bind fun u5 =>
 cond u5
  (some false)
  ((Cq u0 u3 u1 u2 u4).bind fun y26 =>
  (Gv u0 y13.1 u1 u2 y13.2 u0 y26.1 u1 u2 y26.2).bind fun y27 =>
  cond (!y27)
   (some false)
   ((Fk u0 y13.1 u1 u2 y13.2 1).bind fun y32 =>
   og (y32.1.length=y13.1.length) <|
   og (y32.2.1.length=y13.2.length) <|
   (cond (decide (y32.2.2<0))
     (some true)
     ((Cx y15.1 y11.1).bind fun y38 =>
     cond (!y38)
      (some true)
      ((Cx y15.2.1 y11.2.1).bind fun y40 =>
      cond (!y40)
       (some true)
       (some (y15.2.2 !=y11.2.2))))).bind fun u6 =>
   cond u6
    (some false)
    ((E8 y15.1 1).bind fun y46 =>
    og (y46.1.length=y15.1.length) <|
    (E8 y15.2.1 y46.2).bind fun y49 =>
    og (y49.1.length=y15.2.1.length) <|
    (D4 y46.1 1).bind fun y53 =>
    cond (decide (y53<0))
     (some false)
     ((D4 y49.1 y53).bind fun y59 =>
     cond (decide (y59<0))
      (some false)
      (cond (y59 !=y49.2)
       (some false)
       ((Cq u0 u3 u1 u2 u4).bind fun y69 =>
       (Dw a0 u0 y69.1 u1 u2 y69.2).bind fun y70 =>
       ((Cx y70.1 y11.1).bind fun y73 =>
        cond (!y73)
         (some true)
         ((Cx y70.2.1 y11.2.1).bind fun y75 =>
         cond (!y75)
          (some true)
          (some (y70.2.2 !=y11.2.2)))).bind fun u7 =>
       cond u7
        (some false)
        ((D4 y46.1 1).bind fun y81 =>
        cond (decide (y81<0))
         (some false)
         ((D4 y49.1 y81).bind fun y87 =>
         cond (decide (y87<0))
          (some false)
          (cond (y87 !=y49.2)
           (some false)
           (some true)))))))))))
theorem O0 (h:Dm bA gA hA bB bC dA=some cA):cK 4 [ai bA,.agg [.str gA,.tree Y8 hA,ai bB,ai bC,tS dA]] (An cA):=by
 refine cO Tryz.func4 (Ae (Ae (Ab (Aa 8 (rsT 2 ?_)))));obtain ⟨y4,h4,h⟩:=Ah h;refine zc (ai y4) [] [.agg [.str gA,.tree Y8 hA,ai bB,ai bC,tS dA],ai 1048576] (Tp h4) (rsT 1 (rnW (Ab (Ae (kQ h (fun _ h=>Ae (Ac (tr_ (jS h)))) fun _ h=>skW (Ab (Aa 21 (rsT 2 ?_))))))));obtain ⟨y10,h10,h⟩:=Ah h;refine L0 (.agg [.str gA,.own (oi 433 12) Y8 0 y10.1.length,ai bB,ai bC,oS 434 12 y10.2.length]) [(oi 432 12,some (.cells 38 [.str gA,.own (oi 433 12) Y8 0 y10.1.length,ai bB,ai bC,oS 434 12 y10.2.length])),(oi 433 12,some (.arr 117 Y8 y10.1)),(oi 434 12,some (.mat 42 (oi 435 12) .int y10.2)),(oi 435 12,some (.pool 3 .int y10.2))] [] [.agg [.str gA,.tree Y8 hA,ai bB,ai bC,tS dA]] (caps:=[]) trivial (Fr h10) kr trivial (.cons (.ren kr) .nil) (Ay kr kr trivial) ?_;obtain ⟨y11,h11,h⟩:=Ah h;refine Jk (.tup [oI 448 13 y11.1.length,oI 449 13 y11.2.1.length,.bool y11.2.2]) [nI 448 13 y11.1,nI 449 13 y11.2.1] [ai bA,.agg [.str gA,.own (oi 433 12) Y8 0 y10.1.length,ai bB,ai bC,oS 434 12 y10.2.length]] _ (caps:=[]) (args0:=[ai bA,.agg [.str gA,.tree Y8 y10.1,ai bB,ai bC,tS y10.2]]) trivial (Al kr (Al (Z6 (Al kr (Al (Bl (e:=117) kr rfl) (Al kr (Al kr (Al (La (p:=oi 435 12) (e1:=42) (e:=3) (u:=.int) (xss:=y10.2) kr (Cc kr) rfl) Bg)))))) Bg)) (Ub h11) kr (rsT 7 (rnW (Ab (Aa 25 (rsT 1 ?_)))));obtain ⟨y13,h13,h⟩:=Ah h;refine L0 (.agg [.str gA,.own (oi 529 22) Y8 0 y13.1.length,ai bB,ai bC,oS 530 22 y13.2.length]) [(oi 528 22,some (.cells 38 [.str gA,.own (oi 529 22) Y8 0 y13.1.length,ai bB,ai bC,oS 530 22 y13.2.length])),(oi 529 22,some (.arr 117 Y8 y13.1)),(oi 530 22,some (.mat 42 (oi 531 22) .int y13.2)),(oi 531 22,some (.pool 3 .int y13.2))] [] [.agg [.str gA,.tree Y8 hA,ai bB,ai bC,tS dA]] (caps:=[]) trivial (Fr h13) kr trivial (.cons (.ren kr) .nil) (Ay kr kr trivial) (rsB 2 (rnW (Ab (Aa 35 (rsT 2 ?_)))));obtain ⟨y15,h15,h⟩:=Ah h;refine Jk (.tup [oI 592 27 y15.1.length,oI 593 27 y15.2.1.length,.bool y15.2.2]) [nI 592 27 y15.1,nI 593 27 y15.2.1] [ai bA,.agg [.str gA,.own (oi 529 22) Y8 0 y13.1.length,ai bB,ai bC,oS 530 22 y13.2.length]] _ (caps:=[]) (args0:=[ai bA,.agg [.str gA,.tree Y8 y13.1,ai bB,ai bC,tS y13.2]]) trivial (Al kr (Al (Z6 (Al kr (Al (Bl (e:=117) kr rfl) (Al kr (Al kr (Al (La (p:=oi 531 22) (e1:=42) (e:=3) (u:=.int) (xss:=y13.2) kr (Cc kr) rfl) Bg)))))) Bg)) (N8 h15) kr (rsT 7 (rnW (Ab (sqF h (fun u5=>sT [(0,ai bA),(3,.box (oi 0 1) 0),(6,oI 1 1 y11.1.length),(7,oI 2 1 y11.2.1.length),(8,.bool y11.2.2),(9,.box (oi 3 1) 0),(10,oI 4 1 y15.1.length),(11,oI 5 1 y15.2.1.length),(12,.bool y15.2.2),(55,.bool u5)] [(oi 0 1,.cells 29 [.str gA,.tree Y8 hA,ai bB,ai bC,tS dA]),(oi 1 1,.arr 3 .int y11.1),(oi 2 1,.arr 3 .int y11.2.1),(oi 3 1,.cells 38 [.str gA,.own (oi 6 1) Y8 0 y13.1.length,ai bB,ai bC,oS 7 1 y13.2.length]),(oi 4 1,.arr 3 .int y15.1),(oi 5 1,.arr 3 .int y15.2.1),(oi 6 1,.arr 117 Y8 y13.1),(oi 7 1,.mat 42 (oi 8 1) .int y13.2),(oi 8 1,.pool 3 .int y13.2)]) ?_ ?_))))
 ·intro _ h;refine Aa 50 (rsT 2 ?_);obtain ⟨y18,h18,h⟩:=Ah h;refine Jk (.bool y18) [] [oI 592 27 y15.1.length,oI 448 13 y11.1.length] _ (caps:=[]) (args0:=[tI y15.1,tI y11.1]) trivial (Al (Bl (e:=3) kr rfl) (Al (Bl (e:=3) kr rfl) Bg)) (Ev h18) kr (rsT 2 ?_);rcases A0 h with ⟨q19,h⟩|⟨q19,h⟩
  ·exact rq 45 q19 (rsT 10 (Ap (tn_ (jE [(oi 0 1,oi 3 1),(oi 1 1,oi 448 13),(oi 2 1,oi 449 13),(oi 3 1,oi 9 23),(oi 6 1,oi 529 22),(oi 7 1,oi 530 22),(oi 8 1,oi 531 22),(oi 4 1,oi 592 27),(oi 5 1,oi 593 27)]))))
  refine rq 45 q19 (rsT 2 ?_);obtain ⟨y20,h20,h⟩:=Ah h;exact Jk (.bool y20) [] [oI 593 27 y15.2.1.length,oI 449 13 y11.2.1.length] _ (caps:=[]) (args0:=[tI y15.2.1,tI y11.2.1]) (Aah kr) (Al (Bl (e:=3) kr rfl) (Al (Bl (e:=3) kr rfl) Bg)) (Ev h20) kr (rsT 3 (kR h 51 (fun _ h=>rsT 4 (Ap (tn_ (jE [(oi 0 1,oi 3 1),(oi 1 1,oi 448 13),(oi 2 1,oi 449 13),(oi 3 1,oi 9 23),(oi 6 1,oi 529 22),(oi 7 1,oi 530 22),(oi 8 1,oi 531 22),(oi 4 1,oi 592 27),(oi 5 1,oi 593 27)])))) fun _ h=>rsT 4 (Ap (tn_ (jE [(oi 0 1,oi 3 1),(oi 1 1,oi 448 13),(oi 2 1,oi 449 13),(oi 3 1,oi 9 23),(oi 6 1,oi 529 22),(oi 7 1,oi 530 22),(oi 8 1,oi 531 22),(oi 4 1,oi 592 27),(oi 5 1,oi 593 27)])))))
 intro u5 h;refine kQ h (fun _ h=>Ae (Ac (tr_ (jS h)))) fun _ h=>skW (Ab (Ab (Ao 7 (dzl (.agg [.str gA,.own (oi 6 1) Y8 0 y13.1.length,ai bB,ai bC,oS 7 1 y13.2.length]) (dzl (.agg [.str gA,.tree Y8 hA,ai bB,ai bC,tS dA]) ?_)))))
 obtain ⟨y26,h26,h⟩:=Ah h;refine Alk (.agg [.str gA,.own (oi 929 4) Y8 0 y26.1.length,ai bB,ai bC,oS 930 4 y26.2.length]) [(oi 928 4,some (.cells 38 [.str gA,.own (oi 929 4) Y8 0 y26.1.length,ai bB,ai bC,oS 930 4 y26.2.length])),(oi 929 4,some (.arr 117 Y8 y26.1)),(oi 930 4,some (.mat 42 (oi 931 4) .int y26.2)),(oi 931 4,some (.pool 3 .int y26.2))] [] [.agg [.str gA,.tree Y8 hA,ai bB,ai bC,tS dA]] (caps:=[]) trivial (Fr h26) kr trivial (.cons (.ren kr) .nil) (Ay kr kr trivial) (Aj4 kr) ?_;obtain ⟨y27,h27,h⟩:=Ah h;refine My (.bool y27) [] [.agg [.str gA,.own (oi 6 1) Y8 0 y13.1.length,ai bB,ai bC,oS 7 1 y13.2.length],.agg [.str gA,.own (oi 929 4) Y8 0 y26.1.length,ai bB,ai bC,oS 930 4 y26.2.length]] _ (caps:=[]) (args0:=[.agg [.str gA,.tree Y8 y13.1,ai bB,ai bC,tS y13.2],.agg [.str gA,.tree Y8 y26.1,ai bB,ai bC,tS y26.2]]) trivial (Al (Z6 (Al kr (Al (Bl (e:=117) ((Fj (Z0 [.str gA,.own (oi 6 1) Y8 0 y13.1.length,ai bB,ai bC,oS 7 1 y13.2.length] (t:=Y8) (off:=0) (len:=y13.1.length) 0 1 rfl kr rfl)).trans kr) rfl) (Al kr (Al kr (Al (La (p:=oi 8 1) (e1:=42) (e:=3) (u:=.int) (xss:=y13.2) ((Fj (Z0 [.str gA,.own (oi 6 1) Y8 0 y13.1.length,ai bB,ai bC,oS 7 1 y13.2.length] (t:=sI) (off:=0) (len:=y13.2.length) 0 4 rfl kr rfl)).trans kr) (Adg [.str gA,.own (oi 6 1) Y8 0 y13.1.length,ai bB,ai bC,oS 7 1 y13.2.length] (t:=sI) (off:=0) (len:=y13.2.length) (i:=oi 7 1) (e1:=42) (z:=1) (m:=y13.2.length) 0 4 rfl kr rfl kr (Cc kr)) rfl) Bg)))))) (Al (Z6 (Al kr (Al (Bl (e:=117) ((Fj (Z0 [.str gA,.own (oi 929 4) Y8 0 y26.1.length,ai bB,ai bC,oS 930 4 y26.2.length] (t:=Y8) (off:=0) (len:=y26.1.length) 1 1 rfl kr rfl)).trans kr) rfl) (Al kr (Al kr (Al (La (p:=oi 931 4) (e1:=42) (e:=3) (u:=.int) (xss:=y26.2) ((Fj (Z0 [.str gA,.own (oi 929 4) Y8 0 y26.1.length,ai bB,ai bC,oS 930 4 y26.2.length] (t:=sI) (off:=0) (len:=y26.2.length) 1 4 rfl kr rfl)).trans kr) (Adg [.str gA,.own (oi 929 4) Y8 0 y26.1.length,ai bB,ai bC,oS 930 4 y26.2.length] (t:=sI) (off:=0) (len:=y26.2.length) (i:=oi 930 4) (e1:=42) (z:=1) (m:=y26.2.length) 1 4 rfl kr rfl kr (Cc kr)) rfl) Bg)))))) Bg)) (Tm h27) kr (dz0 (.bool (!y27)) (Co ⟨Alm kr,trivial⟩ (tn_ (wr_ (kQ h (fun _ h=>Ae (Ac (tr_ (jS h)))) fun _ h=>skW (Ae (Ab (Aa 12 ?_))))))));refine rsT 2 ?_;obtain ⟨y32,h32,h⟩:=Ah h;refine L0 (ai y32.2.2) [(oi 6 1,some (.arr 117 Y8 y32.1)),(oi 7 1,some (.mat 42 (oi 1008 10) .int y32.2.1)),(oi 1008 10,some (.pool 3 .int y32.2.1)),(oi 6 1,none),(oi 7 1,none),(oi 8 1,some (.pool 3 .int []))] [(oi 0 0,oi 6 1),(oi 1 0,oi 7 1),(oi 2 0,oi 8 1)] [.agg [.str gA,.own (oi 6 1) Y8 0 y13.1.length,ai bB,ai bC,oS 7 1 y13.2.length],ai 1] (caps:=[]) trivial (Ri h32 rfl rfl) kr ⟨kr,⟨kr,⟨kr,trivial⟩⟩⟩ (.cons (.agg (.cons (.ren kr) (.cons (.ren kr) (.cons (.ren kr) (.cons (.ren kr) (.cons (.ren kr) .nil)))))) (.cons (.ren kr) .nil)) (Ay kr kr ⟨Bh kr,⟨Bh kr,⟨Gm (o:=oi 7 1) (p:=oi 8 1) (e1:=42) (m:=y13.2.length) (u:=.int) (xss:=y13.2) (Bh kr) kr,trivial⟩⟩⟩) (rsT 1 (rnW (Ab ?_)));obtain ⟨g33,h⟩:=Ak h;obtain ⟨g34,h⟩:=Ak h;refine sqF h (fun u6=>sT [(0,ai bA),(3,.box (oi 0 1) 0),(6,oI 1 1 y11.1.length),(7,oI 2 1 y11.2.1.length),(8,.bool y11.2.2),(10,oI 3 1 y15.1.length),(11,oI 4 1 y15.2.1.length),(82,.bool u6)] [(oi 0 1,.cells 29 [.str gA,.tree Y8 hA,ai bB,ai bC,tS dA]),(oi 1 1,.arr 3 .int y11.1),(oi 2 1,.arr 3 .int y11.2.1),(oi 3 1,.arr 3 .int y15.1),(oi 4 1,.arr 3 .int y15.2.1)]) ?_ ?_
 ·intro _ h;refine Aa 31 (rsT 3 ?_);rcases A0 h with ⟨q37,h⟩|⟨q37,h⟩
  ·exact rq 66 q37 (rsT 16 (Ap (tn_ (jE [(oi 3 1,oi 4 1),(oi 4 1,oi 5 1)]))))
  refine rq 66 q37 (rsT 2 ?_);obtain ⟨y38,h38,h⟩:=Ah h;refine Jk (.bool y38) [] [oI 4 1 y15.1.length,oI 1 1 y11.1.length] _ (caps:=[]) (args0:=[tI y15.1,tI y11.1]) (Aah kr) (Al (Bl (e:=3) kr rfl) (Al (Bl (e:=3) kr rfl) Bg)) (Ev h38) kr (rsT 3 ?_);rcases A0 h with ⟨q39,h⟩|⟨q39,h⟩
  ·exact rq 72 q39 (rsT 10 (Ap (tn_ (jE [(oi 3 1,oi 4 1),(oi 4 1,oi 5 1)]))))
  refine rq 72 q39 (rsT 2 ?_);obtain ⟨y40,h40,h⟩:=Ah h;exact Jk (.bool y40) [] [oI 5 1 y15.2.1.length,oI 2 1 y11.2.1.length] _ (caps:=[]) (args0:=[tI y15.2.1,tI y11.2.1]) (Aah kr) (Al (Bl (e:=3) kr rfl) (Al (Bl (e:=3) kr rfl) Bg)) (Ev h40) kr (rsT 3 (kR h 78 (fun _ h=>rsT 4 (Ap (tn_ (jE [(oi 3 1,oi 4 1),(oi 4 1,oi 5 1)])))) fun _ h=>rsT 4 (Ap (tn_ (jE [(oi 3 1,oi 4 1),(oi 4 1,oi 5 1)])))))
 intro u6 h;refine kQ h (fun _ h=>Ae (Ac (tr_ (jS h)))) fun _ h=>skW (Ae (Ab (Aa 7 (rsT 2 ?_))))
 obtain ⟨y46,h46,h⟩:=Ah h;refine L0 (ai y46.2) [nI 3 1 y46.1,(oi 3 1,none)] [(oi 0 0,oi 3 1)] [oI 3 1 y15.1.length,ai 1] (caps:=[]) trivial (L8 h46 rfl) kr ⟨kr,trivial⟩ (.cons (.ren kr) (.cons (.ren kr) .nil)) (Ay kr kr ⟨Bh kr,trivial⟩) (rsT 1 (rnW (Ab (Aa 11 (rsT 2 ?_)))));obtain ⟨g47,h⟩:=Ak h;obtain ⟨y49,h49,h⟩:=Ah h;refine L0 (ai y49.2) [nI 4 1 y49.1,(oi 4 1,none)] [(oi 0 0,oi 4 1)] [oI 4 1 y15.2.1.length,ai y46.2] (caps:=[]) trivial (L8 h49 rfl) kr ⟨kr,trivial⟩ (.cons (.ren kr) (.cons (.ren kr) .nil)) (Ay kr kr ⟨Bh kr,trivial⟩) (rsT 1 (rnW (Ae (Ab (Aa 16 (rsT 2 ?_))))));obtain ⟨g50,h⟩:=Ak h;obtain ⟨y53,h53,h⟩:=Ah h;refine Jk (ai y53) [] [oI 3 1 y15.1.length,ai 1] _ (caps:=[]) (args0:=[tI y46.1,ai 1]) trivial (Al (Bl (e:=3) kr g47.symm) (Al kr Bg)) (I7 h53) kr (rsT 1 (rnW (Ab (Ae (kQ h (fun _ h=>Ae (Ac (tr_ (jS h)))) fun _ h=>skW (Ab (Aa 22 (rsT 2 ?_))))))));obtain ⟨y59,h59,h⟩:=Ah h;refine Jk (ai y59) [] [oI 4 1 y15.2.1.length,ai y53] _ (caps:=[]) (args0:=[tI y49.1,ai y53]) trivial (Al (Bl (e:=3) kr g50.symm) (Al kr Bg)) (I7 h59) kr (rsT 1 (rnW (Ab (Ae (kQ h (fun _ h=>Ae (Ac (tr_ (jS h)))) fun _ h=>skW (Ab (Ae (kQ h (fun _ h=>Ae (Ac (tr_ (jS h)))) fun _ h=>skW (Ab (Aa 38 (rsT 2 ?_)))))))))));obtain ⟨y69,h69,h⟩:=Ah h;refine L0 (.agg [.str gA,.own (oi 1681 29) Y8 0 y69.1.length,ai bB,ai bC,oS 1682 29 y69.2.length]) [(oi 1680 29,some (.cells 38 [.str gA,.own (oi 1681 29) Y8 0 y69.1.length,ai bB,ai bC,oS 1682 29 y69.2.length])),(oi 1681 29,some (.arr 117 Y8 y69.1)),(oi 1682 29,some (.mat 42 (oi 1683 29) .int y69.2)),(oi 1683 29,some (.pool 3 .int y69.2))] [] [.agg [.str gA,.tree Y8 hA,ai bB,ai bC,tS dA]] (caps:=[]) trivial (Fr h69) kr trivial (.cons (.ren kr) .nil) (Ay kr kr trivial) ?_;obtain ⟨y70,h70,h⟩:=Ah h;refine Jk (.tup [oI 1696 30 y70.1.length,oI 1697 30 y70.2.1.length,.bool y70.2.2]) [nI 1696 30 y70.1,nI 1697 30 y70.2.1] [ai bA,.agg [.str gA,.own (oi 1681 29) Y8 0 y69.1.length,ai bB,ai bC,oS 1682 29 y69.2.length]] _ (caps:=[]) (args0:=[ai bA,.agg [.str gA,.tree Y8 y69.1,ai bB,ai bC,tS y69.2]]) trivial (Al kr (Al (Z6 (Al kr (Al (Bl (e:=117) kr rfl) (Al kr (Al kr (Al (La (p:=oi 1683 29) (e1:=42) (e:=3) (u:=.int) (xss:=y69.2) kr (Cc kr) rfl) Bg)))))) Bg)) (N8 h70) kr (rsT 7 (rnW (Ab (sqF h (fun u7=>sT [(10,oI 0 1 y46.1.length),(11,oI 1 1 y49.1.length),(14,ai y49.2),(124,.bool u7)] [(oi 0 1,.arr 3 .int y46.1),(oi 1 1,.arr 3 .int y49.1)]) ?_ ?_))))
 ·intro _ h;refine Aa 53 (rsT 2 ?_);obtain ⟨y73,h73,h⟩:=Ah h;refine Jk (.bool y73) [] [oI 1696 30 y70.1.length,oI 1 1 y11.1.length] _ (caps:=[]) (args0:=[tI y70.1,tI y11.1]) trivial (Al (Bl (e:=3) kr rfl) (Al (Bl (e:=3) kr rfl) Bg)) (Ev h73) kr (rsT 2 ?_);rcases A0 h with ⟨q74,h⟩|⟨q74,h⟩
  ·refine rq 114 q74 (rsT 10 (Ap (tn_ ?_)));obtain rfl:=zj h;exact (wL 10 (g47.symm:y15.1.length=y46.1.length)).trans ((wL 11 (g50.symm:y15.2.1.length=y49.1.length)).trans (Ag [(oi 0 1,oi 3 1),(oi 1 1,oi 4 1)]))
  refine rq 114 q74 (rsT 2 ?_);obtain ⟨y75,h75,h⟩:=Ah h;exact Jk (.bool y75) [] [oI 1697 30 y70.2.1.length,oI 2 1 y11.2.1.length] _ (caps:=[]) (args0:=[tI y70.2.1,tI y11.2.1]) (Aah kr) (Al (Bl (e:=3) kr rfl) (Al (Bl (e:=3) kr rfl) Bg)) (Ev h75) kr (rsT 3 (kR h 120 (fun _ h=>rsT 4 (Ap (tn_ (by obtain rfl:=osj h;exact (wL 10 (g47.symm:y15.1.length=y46.1.length)).trans ((wL 11 (g50.symm:y15.2.1.length=y49.1.length)).trans (Ag [(oi 0 1,oi 3 1),(oi 1 1,oi 4 1)])))))) fun _ h=>rsT 4 (Ap (tn_ (by obtain rfl:=osj h;exact (wL 10 (g47.symm:y15.1.length=y46.1.length)).trans ((wL 11 (g50.symm:y15.2.1.length=y49.1.length)).trans (Ag [(oi 0 1,oi 3 1),(oi 1 1,oi 4 1)])))))))
 intro u7 h;refine kQ h (fun _ h=>Ae (Ac (tr_ (jS h)))) fun _ h=>skW (Ae (Ab (Aa 7 (rsT 2 ?_))))
 obtain ⟨y81,h81,h⟩:=Ah h;refine Jk (ai y81) [] [oI 0 1 y46.1.length,ai 1] _ (caps:=[]) (args0:=[tI y46.1,ai 1]) trivial (Al (Bl (e:=3) kr rfl) (Al kr Bg)) (I7 h81) kr (rsT 1 (rnW (Ab (Ae (kQ h (fun _ h=>Ae (Ac (tr_ (jS h)))) fun _ h=>skW (Ab (Aa 13 (rsT 2 ?_))))))));obtain ⟨y87,h87,h⟩:=Ah h;exact Jk (ai y87) [] [oI 1 1 y49.1.length,ai y81] _ (caps:=[]) (args0:=[tI y49.1,ai y81]) trivial (Al (Bl (e:=3) kr rfl) (Al kr Bg)) (I7 h87) kr (rsT 1 (rnW (Ab (Ae (kQ h (fun _ h=>Ae (Ac (tr_ (jS h)))) fun _ h=>skW (Ab (Ae (kQ h (fun _ h=>Ae (Ac (tr_ (jS h)))) fun _ h=>skW (Ae (Ac (jS h)))))))))))
end


section
section
variable {α β σ ρ:Type}
theorem Ae3 {body:σ->Option (Ctl σ ρ)} {Post:ρ->Prop} (n:Nat) (I:Nat->σ->Prop)
  (hs:∀ i s,i<n->I i s->(∃ s',body s=some (.next s')/\I (i+1) s')∨∃ r,body s=some (.out r)/\Post r) (he:∀ s,I n s->∃ r,body s=some (.out r)/\Post r) :
  ∀ (F k:Nat) (s:σ),k<=n->n - k<F->I k s->∃ r,Aq body F s=some r/\Post r
 | 0,_,_,_,h,_=>by omega
 | F+1,k,s,hk,h,hi=>by
  have key:(∃ r,body s=some (.out r)/\Post r)->∃ r,Aq body (F+1) s=some r/\Post r:=by
   rintro ⟨r,h1,h2⟩;exact ⟨r,by simp only [Aq,h1,obs,Ctl.then],h2⟩
  rcases Nat.lt_or_ge k n with hlt|hge
  ·rcases hs k s hlt hi with ⟨s',h1,h2⟩|h
   ·obtain ⟨r,h3,h4⟩:=Ae3 n I hs he F (k+1) s' hlt oM h2;exact ⟨r,by simp only [Aq,h1,obs,Ctl.then];exact h3,h4⟩
   ·exact key h
  ·obtain rfl:k=n:=by omega
   exact key (he s hi)
theorem Gg {body:σ->Option (Ctl σ ρ)} {Post:ρ->Prop} (n:Nat) (I:Nat->σ->Prop) {F:Nat} (hn:n<F) {s0:σ} (h0:I 0 s0)
  (hs:∀ i s,i<n->I i s->(∃ s',body s=some (.next s')/\I (i+1) s')∨∃ r,body s=some (.out r)/\Post r) (he:∀ s,I n s->∃ r,body s=some (.out r)/\Post r):∃ r,Aq body F s0=some r/\Post r :=
 Ae3 n I hs he F 0 s0 (Nat.zero_le _) oM h0
theorem Jr {body:σ->Option (Ctl σ ρ)} (n:Nat) (I:Nat->σ->Prop) {F:Nat} (hn:n<F) {s0:σ} (r:ρ) (h0:I 0 s0)
  (hs:∀ i s,i<n->I i s->(∃ s',body s=some (.next s')/\I (i+1) s')∨body s=some (.out r)) (he:∀ s,I n s->body s=some (.out r)):Aq body F s0=some r:=by
 obtain ⟨r',h1,rfl⟩:=Gg (Post:=fun r'=>r'=r) n I hn h0 (fun i s hi hI=>(hs i s hi hI).imp id fun h=>⟨r,h,rfl⟩) (fun s h=>⟨r,he s h,rfl⟩);exact h1
theorem A2 {body:σ->Option (Ctl σ ρ)} (n:Nat) (S:Nat->σ) {F:Nat} (hn:n<F) {s0:σ} (r:ρ) (h0:s0=S 0) (hs:∀ i,i<n->body (S i)=some (.next (S (i+1)))) (he:body (S n)=some (.out r)):Aq body F s0=some r:=by
 subst h0;refine Jr n (fun i s=>s=S i) hn r rfl (fun i s hi e=>.inl ?_) (fun s e=>by subst e;exact he);subst e;exact ⟨_,hs i hi,rfl⟩
theorem Hc {body:Nat->Option (Ctl Nat ρ)} (xs:List α) (q:α->Bool) (good bad:ρ) {F:Nat} (hn:xs.length<F) (hs:∀ i x,xs[i]? =some x->body i=some (if q x then .next (i+1) else .out bad)) (he:body xs.length=some (.out good)):Aq body F 0=some (if xs.all q then good else bad):=by
 refine Jr xs.length (fun i s=>s=i/\(xs.take i).all q=true) hn _ ⟨rfl,by simp⟩ ?_ ?_
 ·rintro i s hi ⟨hsi,hq⟩;subst s;have hx:=gEg hi;rw [hs i _ hx];cases hc:q xs[i]
  ·refine .inr ?_
   have:xs.all q=false:=by
    rw [Bool.eq_false_iff];intro ha;rw [List.all_eq_true] at ha;rw [ha _ (List.getElem_mem hi)] at hc;cases hc
   rw [this];rfl
  ·refine .inl ⟨i+1,rfl,rfl,?_⟩;rw [List.take_add_one,List.all_append,hq,hx];simp [hc]
 ·rintro s ⟨rfl,hq⟩;rw [List.take_length] at hq;rw [he,hq];rfl
theorem Aeb {body:Nat->Option (Ctl Nat ρ)} (xs:List α) (q:α->Bool) (none_:ρ) (g:Nat->ρ) {F:Nat} (hn:xs.length<F) (hs:∀ i x,xs[i]? =some x->body i=some (if q x then .out (g i) else .next (i+1))) (he:body xs.length=some (.out none_)) :
  (xs.any q=true/\∃ i,i<xs.length/\Aq body F 0=some (g i))∨(xs.any q=false/\Aq body F 0=some none_):=by
 have key:∃ r,Aq body F 0=some r/\((xs.any q=true/\∃ i,i<xs.length/\r=g i)∨(xs.any q=false/\r=none_)):=by
  refine Gg xs.length (fun i s=>s=i/\(xs.take i).any q=false) hn ⟨rfl,by simp⟩ ?_ ?_
  ·rintro i s hi ⟨hsi,hq⟩;subst s;have hx:=gEg hi;rw [hs i _ hx];cases hc:q xs[i]
   ·refine .inl ⟨i+1,rfl,rfl,?_⟩;rw [List.take_add_one,List.any_append,hq,hx];simp [hc]
   ·exact .inr ⟨_,rfl,.inl ⟨List.any_eq_true.2 ⟨_,List.getElem_mem hi,hc⟩,i,hi,rfl⟩⟩
  ·rintro s ⟨hsi,hq⟩;subst hsi;rw [List.take_length] at hq;exact ⟨_,he,.inr ⟨hq,rfl⟩⟩
 obtain ⟨r,h,⟨h1,i,hi,rfl⟩|⟨h1,rfl⟩⟩:=key
 ·exact .inl ⟨h1,i,hi,h⟩
 ·exact .inr ⟨h1,h⟩
theorem Du {body:Nat×List β->Option (Ctl (Nat×List β) ρ)} (xs:List α) (f:α->β) (ys:List β) {F:Nat} (hn:xs.length<F) (r:ρ) (hs:∀ i x,xs[i]? =some x->body (i,ys++(xs.take i).map f)=some (.next (i+1,(ys++(xs.take i).map f)++[f x]))) (he:body (xs.length,ys++xs.map f)=some (.out r)):Aq body F (0,ys)=some r:=by
 refine A2 xs.length (fun i=>(i,ys++(xs.take i).map f)) hn r (by simp) (fun i hi=>?_) (by rw [List.take_length];exact he);have hx:=gEg hi;rw [hs i _ hx,List.take_add_one,hx];simp only [List.map_append,Option.toList,List.map_cons,List.map_nil,List.append_assoc]
theorem Xg {xs:List α} {d:α} {i:Nat} (h:i<xs.length):(xs.take i++List.replicate (xs.length - i) d)[i]? =some d:=by
 have h1:(xs.take i).length=i:=by rw [List.length_take];omega
 rw [List.getElem?_append_right oM,h1,Nat.sub_self,List.getElem?_replicate,if_pos oM]
theorem Xo {xs:List α} {d x:α} {i:Nat} (h:xs[i]? =some x):(xs.take i++List.replicate (xs.length - i) d).set i x=xs.take (i+1)++List.replicate (xs.length - (i+1)) d:=by
 have hi:=(gSi.1 h).1;have e:xs.length - i=(xs.length - (i+1))+1:=by omega
 rw [List.take_add_one,h,e,List.replicate_succ,List.set_append,if_neg (by simp;omega)];simp [Nat.min_eq_left (Nat.le_of_lt hi)]
theorem L9 {xs ys:List α} {i:Nat} (h:i<xs.length) (hl:ys.length=i):(ys++xs.drop i)[i]? =some xs[i]:=by
 rw [List.getElem?_append_right oM,hl];simp [List.getElem?_drop,h]
theorem Lv {xs ys:List α} {y:α} {i:Nat} (h:i<xs.length) (hl:ys.length=i):(ys++xs.drop i).set i y=(ys++[y])++xs.drop (i+1):=by
 rw [List.set_append,if_neg oM,hl,Nat.sub_self,List.drop_eq_getElem_cons h,List.append_assoc];rfl
end
theorem A6 {n:Int} (h1: -9223372036854775808<=n) (h2:n<9223372036854775808):wI n=n:=Go.IntWalk.i64_in _ oM
theorem Au {p:Prop} [Decidable p] (h:p):decide p=true:=decide_eq_true h
theorem At {p:Prop} [Decidable p] (h:¬ p):decide p=false:=decide_eq_false h
end
section
theorem Nr (b:Bool):Di (some (if b then Ctl.next () else Ctl.out false)) (fun _:Unit=>some true)=some b:=by cases b <;> rfl
theorem Pk (x lo hi:Int):B7 x lo hi=some (inR x lo hi):=by
 unfold B7 inR;by_cases h:lo<=x <;> simp [h]
theorem N2 (x lo hi:Int):B0 x lo hi=some (inR x lo hi):=by
 unfold B0 inR;by_cases h:lo<=x <;> simp [h]
theorem Atu (xs:List Int) (lo hi:Int) (hx:xs.length<=1099511627776):Fa xs lo hi=some (xs.all fun x=>inR x lo hi):=by
 unfold Fa;rw [Hc xs (fun x=>inR x lo hi) (.next ()) (.out false) oM (fun i x h=>?_) ?_,Nr]
 ·unfold Nc;rw [At oM,cond_false]
 ·have:=Ai h;unfold Nc;rw [Au oM,cond_true,h,obs,Pk,obs,Af oM];cases inR x lo hi <;> rfl
theorem As3 {p:Int} (h:inR p 2 97=false):isF p=false:=by rcases Aor.1 h with h|h <;> simp [isF] <;> omega
theorem Wd (p:Int):Hd p=some (isF p):=by
 unfold Hd;rw [Pk,obs];cases hr:inR p 2 97
 ·rw [As3 hr];rfl
 rw [Bool.not_true,cond_false];obtain ⟨h1,h2⟩:=D7.1 hr;obtain ⟨n,rfl⟩:=Int.eq_ofNat_of_zero_le (show 0<=p by omega)
 have h:Aq (fun s_:Nat=>Il n s_) 4611686018427387904 2=some (if isF n then .next () else .out false):=by
  refine Jr 8 (fun i s=>s=i+2/\Ad9 n s=true) oM _ ⟨rfl,by simp [Ad9,List.range_succ]⟩ ?_ ?_
  ·rintro i s hi ⟨hs,hd⟩;unfold Il;have hm:((s:Int)*(s:Int))=((s*s:Nat):Int):=by simp
   have hss:s*s<=9*9:=Nat.mul_le_mul oM oM;rw [hm,A6 oM oM];by_cases hle:s*s<=n
   ·rw [Au oM,cond_true,Af oM,show Int.tmod (n:Int) (s:Int)=((n % s:Nat):Int) from by rw [Int.tmod_eq_emod_of_nonneg oM];rfl];by_cases h0:n % s=0
    ·refine .inr ?_;rw [h0,Auf n oM s oM oM hle h0];rfl
    ·refine .inl ⟨s+1,?_,by omega,Alj hd h0⟩;rw [show (((n % s:Nat):Int)==0)=false from by rw [beq_eq_false_iff_ne];omega,cond_false,Af oM]
   ·refine .inr ?_;rw [At oM,cond_false,Aei n oM oM s oM hd oM];rfl
  ·rintro s ⟨hs,hd⟩;obtain rfl:s=10:=by omega
   unfold Il;rw [show wI (((10:Nat):Int)*((10:Nat):Int))=100 from A6 oM oM,At oM,cond_false,Aei n oM oM 10 oM hd oM];rfl
 rw [h,Nr]
theorem Aim (p x:Int):Ij p x=some (inR x 0 (p - 1)):=by
 unfold Ij inR;by_cases h:0<=x
 ·simp [h,show (x<p↔x<=p - 1) by omega]
 ·simp [h]
theorem Awb (p:Int) (xs:List Int) (hp:2<=p/\p<=97) (hx:xs.length<=1099511627776):O7 p xs=some (xs.all fun x=>inR x 0 (p - 1)):=by
 unfold O7;rw [A6 oM oM,Atu _ _ _ hx];rfl
theorem All (p:Int) (xs:List Int) (n:Int) (hx:xs.length<=1099511627776):J4 p xs n=some (((xs.length:Nat):Int)==n&&xs.all fun x=>inR x 0 (p - 1)):=by
 unfold J4;cases hn:((xs.length:Nat):Int)==n
 ·rw [show (((xs.length:Nat):Int) !=n)=true by simp only [bne,hn,Bool.not_false]];rfl
 rw [show (((xs.length:Nat):Int) !=n)=false by simp only [bne,hn,Bool.not_true],cond_false];rw [Hc xs (fun x=>inR x 0 (p - 1)) (.next ()) (.out false) oM (fun i x h=>?_) ?_,Nr,Bool.true_and]
 ·unfold Ki;rw [At oM,cond_false]
 ·have:=Ai h;unfold Ki;rw [Au oM,cond_true,h,obs,Aim,obs,Af oM];cases inR x 0 (p - 1) <;> rfl
theorem Ap3 {p x:Int} (hp:2<=p/\p<=97):Qp p x=some (x % p):=by
 unfold Qp;rw [Af oM]
 have e1:x.tmod p=if 0<=x∨x % p=0 then x % p else x % p - p:=by
  simp only [Int.tmod_eq_emod,Int.dvd_iff_emod_eq_zero];split <;> simp <;> omega
 have h1:=Int.emod_nonneg x (show p≠0 by omega);have h2:=Int.emod_lt_of_pos x (show 0<p by omega);by_cases h:x.tmod p<0
 ·rw [Au h,cond_true,obs,A6 oM oM];congr 1;split at e1 <;> omega
 ·rw [At h,cond_false,obs];congr 1;split at e1 <;> omega
theorem Am5 (xs:List Int) (h:xs.length<=1000000):Iz xs=some xs:=by
 unfold Iz;rw [Af oM]
theorem Td (xs:List Int) (h:xs.length<=1000000):Fi xs=some xs:=by
 unfold Fi;rw [Af oM]
theorem Amw {p x y:Int} (hp:2<=p/\p<=97) (hx:0<=x/\x<p) (hy:0<=y/\y<p):Do p x y=some ((x+y) % p):=by
 unfold Do;rw [Af oM,A6 oM oM,Int.tmod_eq_emod_of_nonneg oM]
theorem Aak {p x y:Int} (hp:2<=p/\p<=97) (hx:0<=x/\x<p) (hy:0<=y/\y<p):0<=x*y/\x*y<=10000:=by
 refine ⟨Int.mul_nonneg hx.1 hy.1,?_⟩;have h1:x*y<=97*y:=Int.mul_le_mul_of_nonneg_right oM hy.1;omega
theorem Al7 {p x y:Int} (hp:2<=p/\p<=97) (hx:0<=x/\x<p) (hy:0<=y/\y<p):Ll p x y=some ((x*y) % p):=by
 have:=Aak hp hx hy;unfold Ll;rw [Af oM,A6 oM oM,Int.tmod_eq_emod_of_nonneg oM]
end
section
theorem Axw (a b:ByteArray):(a.toList==b.toList)=(a.data.toList==b.data.toList):=by rw [ByteArray.toList_eq,ByteArray.toList_eq]
theorem Akf (s:ByteArray) (i:Nat):s[i]? =s.data.toList[i]?:=by
 by_cases h:i<s.size
 ·rw [getElem?_pos s i h];have h':i<s.data.toList.length:=by simpa using h
  rw [gEg h'];rfl
 ·rw [getElem?_neg s i h,List.getElem?_eq_none (by simp;exact Nat.le_of_not_lt h)]
theorem Aus (s:ByteArray):s.size=s.data.toList.length:=by
 show s.data.size=_;exact Array.length_toList.symm
def loB (c:UInt8):Bool:=decide (97<=((c.toNat:Nat):Int))&&decide (((c.toNat:Nat):Int)<=122)
def dgB (c:UInt8):Bool:=decide (48<=((c.toNat:Nat):Int))&&decide (((c.toNat:Nat):Int)<=57)
theorem Ae0 (c:UInt8):Ia ((c.toNat:Nat):Int)=some (loB c):=by
 unfold Ia loB;cases decide (97<=((c.toNat:Nat):Int)) <;> rfl
theorem An7 (c:UInt8):K0 ((c.toNat:Nat):Int)=some (dgB c):=by
 unfold K0 dgB;cases decide (48<=((c.toNat:Nat):Int)) <;> rfl
def Us:List ByteArray:=[(⟨#[105,100]⟩:ByteArray),(⟨#[115,119,97,112]⟩:ByteArray),(⟨#[99,111,112,121]⟩:ByteArray),(⟨#[100,105,115,99,97,114,100]⟩:ByteArray),(⟨#[97,100,100]⟩:ByteArray),(⟨#[122,101,114,111]⟩:ByteArray),(⟨#[115,99,97,108,101]⟩:ByteArray),(⟨#[100,101,108,97,121]⟩:ByteArray),(⟨#[99,111,99,111,112,121]⟩:ByteArray),(⟨#[99,111,100,105,115,99,97,114,100]⟩:ByteArray),(⟨#[99,111,97,100,100]⟩:ByteArray),(⟨#[99,111,122,101,114,111]⟩:ByteArray),(⟨#[99,111,115,99,97,108,101]⟩:ByteArray),(⟨#[99,111,100,101,108,97,121]⟩:ByteArray)]
theorem Alf:Le=some Us:=rfl
theorem Ahy:Ly=some ((⟨#[]⟩:ByteArray) :: Us):=rfl
theorem Aws (l:List ByteArray) (hl:l.length<=1000) (s:ByteArray):Mg l s=some (l.any fun x=>x.toList==s.toList):=by
 unfold Mg
 have hs:∀ i x,l[i]? =some x->Em l s i=some (if x.toList==s.toList then Ctl.out (Ctl.out true) else Ctl.next (i+1)):=fun i x h=>by
  have:=Ai h;unfold Em;rw [Au oM,cond_true,h,obs,Af oM];cases x.toList==s.toList <;> rfl
 have he:Em l s l.length=some (Ctl.out (Ctl.next ())):=by
  unfold Em;rw [At oM,cond_false]
 rcases Aeb (body:=fun s_:Nat=>Em l s s_) l (fun x=>x.toList==s.toList) (Ctl.next ()) (fun i=>Ctl.out true) (F:=4611686018427387904) oM hs he with ⟨h1,i,hi,h2⟩|⟨h1,h2⟩
 ·rw [h2,h1];rfl
 ·rw [h2,h1];rfl
theorem Ap6 (s:ByteArray):∃ k:Int,Mf s=some k/\(k !=17)=(((⟨#[]⟩:ByteArray) :: Us).any fun x=>x.toList==s.toList):=by
 unfold Mf;rw [Ahy,obs];have hl:((⟨#[]⟩:ByteArray) :: Us).length=15:=rfl;generalize ((⟨#[]⟩:ByteArray) :: Us)=l at hl ⊢
 have hs:∀ i x,l[i]? =some x->En l s i=some (if x.toList==s.toList then Ctl.out (Ctl.out (i:Int)) else Ctl.next (i+1)):=fun i x h=>by
  have:=Ai h;unfold En;rw [Au oM,cond_true,h,obs,Af oM];cases x.toList==s.toList <;> rfl
 have he:En l s l.length=some (Ctl.out (Ctl.next ())):=by
  unfold En;rw [At oM,cond_false]
 rcases Aeb (body:=fun s_:Nat=>En l s s_) l (fun x=>x.toList==s.toList) (Ctl.next ()) (fun i=>Ctl.out (i:Int)) (F:=4611686018427387904) oM hs he with ⟨h1,i,hi,h2⟩|⟨h1,h2⟩
 ·rw [h2,h1];exact ⟨_,rfl,by rw [bne_iff_ne];omega⟩
 ·rw [h2,h1];exact ⟨_,rfl,rfl⟩
theorem Akt (s:ByteArray):∃ b,Mo s=some b/\Ma s=some b:=by
 unfold Mo Ma Pj;rw [N2,Pk];cases hr:inR ((s.size:Nat):Int) 1 8
 ·exact ⟨false,rfl,rfl⟩
 have hb:=D7.1 hr;have hsz:=Aus s;obtain ⟨c,hc⟩:∃ c,s[0]? =some c:=⟨_,getElem?_pos s 0 oM⟩
 have hcl:s.data.toList[0]? =some c:=by rw [← Akf];exact hc
 rw [obs,obs,Bool.not_true,cond_false,cond_false,hc,obs,obs,Ae0,obs,obs];cases hlo:loB c
 ·refine ⟨false,rfl,?_⟩
  have:(decide (((c.toNat:Nat):Int)<97))=true∨decide (122<((c.toNat:Nat):Int))=true:=by
   simp only [decide_eq_true_eq];simp only [loB,Bool.and_eq_false_iff,decide_eq_false_iff_not] at hlo;omega
  rcases this with h|h
  ·rw [h];rfl
  ·rw [h];cases decide (((c.toNat:Nat):Int)<97) <;> rfl
 have hlo':=hlo;simp only [loB,Bool.and_eq_true,decide_eq_true_eq] at hlo';obtain ⟨k,hk,hk2⟩:=Ap6 s;rw [hk,obs,Bool.not_true,cond_false,obs,hk2,At (show ¬ ((c.toNat:Nat):Int)<97 by omega),cond_false,At (show ¬ 122<((c.toNat:Nat):Int) by omega),obs,cond_false]
 have hne:((⟨#[]⟩:ByteArray).toList==s.toList)=false:=by
  rw [Axw,beq_eq_false_iff_ne];intro e;rw [← e] at hcl;simp at hcl
 rw [List.any_cons,hne,Bool.false_or]
 -- the rest of the letters
 have hI:Aq (fun s_:Nat=>I3 s s_) 4611686018427387904 0=some (if s.data.toList.all (fun x=>loB x||dgB x) then Ctl.next () else Ctl.out false):=by
  refine Hc s.data.toList (fun x=>loB x||dgB x) (Ctl.next ()) (Ctl.out false) oM (fun i x h=>?_) ?_
  ·have:=Ai h;unfold I3;rw [Au oM,cond_true,Akf,h,obs,Ae0,obs,obs,An7,obs,Af oM];cases loB x <;> cases dgB x <;> rfl
  ·unfold I3;rw [At oM,cond_false]
 have hstep:∀ i x,s.data.toList[i]? =some x->B1 s i=some (if loB x||dgB x then Ctl.next (i+1) else Ctl.out (Ctl.out false)):=fun i x h=>by
  have:=Ai h;unfold B1;rw [Au oM,cond_true,Akf,h];simp only [obs];rw [Af oM]
  have e:∀ n:Int,(cond (decide (n<97)) (cond (decide (n<48)) (some true) (some (decide (57<n)))) (cond (decide (122<n)) (cond (decide (n<48)) (some true) (some (decide (57<n)))) (some false)):Option Bool)=some (!((decide (97<=n)&&decide (n<=122))||(decide (48<=n)&&decide (n<=57)))):=by
   intro n;by_cases h1:n<97
   ·by_cases h2:n<48
    ·rw [Au h1,Au h2,At (show ¬ 97<=n by omega),At (show ¬ 48<=n by omega)];rfl
    ·by_cases h3:57<n
     ·rw [Au h1,At h2,Au h3,At (show ¬ 97<=n by omega),At (show ¬ n<=57 by omega),Bool.and_false];rfl
     ·rw [Au h1,At h2,At h3,At (show ¬ 97<=n by omega),Au (show 48<=n by omega),Au (show n<=57 by omega)];rfl
   ·by_cases h2:122<n
    ·rw [At h1,Au h2,At (show ¬ n<48 by omega),Au (show 57<n by omega),At (show ¬ n<=122 by omega),At (show ¬ n<=57 by omega),Bool.and_false,Bool.and_false];rfl
    ·rw [At h1,At h2,Au (show 97<=n by omega),Au (show n<=122 by omega)];rfl
  have e':=e ((x.toNat:Nat):Int);rw [e',obs];show cond (!(loB x||dgB x)) _ _=_;cases loB x||dgB x <;> rfl
 have hS0:Aq (fun s_:Nat=>B1 s s_) (4611686018427387904+1) 0=some (if s.data.toList.all (fun x=>loB x||dgB x) then Ctl.next () else Ctl.out false):=by
  refine Hc s.data.toList (fun x=>loB x||dgB x) (Ctl.next ()) (Ctl.out false) oM hstep ?_;unfold B1;rw [At oM,cond_false]
 have hS:Aq (fun s_:Nat=>B1 s s_) 4611686018427387904 1=some (if s.data.toList.all (fun x=>loB x||dgB x) then Ctl.next () else Ctl.out false):=by
  rw [← hS0];have h0:B1 s 0=some (Ctl.next 1):=by rw [hstep 0 c hcl,hlo];rfl
  have hu:∀ n,Aq (fun s_:Nat=>B1 s s_) (n+1) 0=Aq (fun s_:Nat=>B1 s s_) n 1:=fun n=>by
   show (B1 s 0).bind _=_;rw [h0];rfl
  exact (hu _).symm
 rw [hI,hS,Alf,obs,Aws Us (by decide) s];generalize (Us.any fun x=>x.toList==s.toList)=u;cases s.data.toList.all (fun x=>loB x||dgB x) <;> cases u <;> exact ⟨_,rfl,rfl⟩
end
section
abbrev Nd:=Int×Int×ByteArray
abbrev Lz (s:ByteArray):Bool:=s.toList==(⟨#[]⟩:ByteArray).toList
def Y7 (k v:Int):Bool:=if k=7∨k=13 then inR v 0 96 else v==0
def lfW (n:Nd):Option (Int×Int) :=
 if Lz n.2.2=true then
  if n.1=1 then (if 0<=n.2.1/\n.2.1<=12 then some (n.2.1,n.2.1) else none)
  else if n.1=2 then (if n.2.1=0 then some (2,2) else none)
  else if 3<=n.1/\n.1<=14 then (if Y7 n.1 n.2.1=true then some (gwV n.1) else none)
  else none
 else none
def okW (w:Int×Int):Prop:=(0<=w.1/\w.1<=12)/\(0<=w.2/\w.2<=12)
theorem Axl (k:Int):okW (gwV k):=by
 unfold gwV
 repeat' split
 all_goals exact ⟨⟨by decide,by decide⟩,⟨by decide,by decide⟩⟩
theorem Agt {n:Nd} {w:Int×Int} (h:lfW n=some w):okW w:=by
 unfold lfW at h;split at h
 ·split at h
  ·split at h
   ·rename_i h1;obtain rfl:=osj h;exact ⟨h1,h1⟩
   ·cases h
  ·split at h
   ·split at h
    ·obtain rfl:=osj h;exact ⟨⟨by decide,by decide⟩,⟨by decide,by decide⟩⟩
    ·cases h
   ·split at h
    ·split at h
     ·obtain rfl:=osj h;exact Axl _
     ·cases h
    ·cases h
 ·cases h
theorem R9 {n:Nd} {w:Int×Int} (h:lfW n=some w):1<=n.1/\n.1<=14:=by
 unfold lfW at h;split at h
 ·split at h
  ·omega
  ·split at h
   ·omega
   ·split at h
    ·omega
    ·cases h
 ·cases h
def lfL (lib:List (ByteArray×Int×Int×List Nd)) (n:Nd):Option (Int×Int) :=
 if n.1=17 then (if n.2.1=0 then (lib.find? fun d=>d.1.toList==n.2.2.toList).map fun d=>(d.2.1,d.2.2.1) else none) else lfW n
theorem Auu:lfL []=lfW:=by
 funext n;unfold lfL;by_cases h:n.1=17
 ·rw [if_pos h];cases hw:lfW n with
  | some w=>have:=R9 hw;omega
  | none=>split <;> rfl
 ·rw [if_neg h]
theorem Ak8 {lib:List (ByteArray×Int×Int×List Nd)} (hl:∀ d∈lib,okW (d.2.1,d.2.2.1)) (n:Nd) (w:Int×Int) (h:lfL lib n=some w):okW w:=by
 unfold lfL at h;split at h
 ·split at h
  ·obtain ⟨d,hd,rfl⟩:=oms.1 h;exact hl d (List.mem_of_find?_eq_some hd)
  ·cases h
 ·exact Agt h
section
variable (lf:Nd->Option (Int×Int))
def Ei (n:Nd) (T:List (Int×Int)):Option (List (Int×Int)) :=
 if n.1=15∨n.1=16 then
  if n.2.1=0/\Lz n.2.2=true then
   match T with
   | b :: a :: r=>if n.1=15 then (if a.2=b.1 then some ((a.1,b.2) :: r) else none) else (if a.1+b.1<=12/\a.2+b.2<=12 then some ((a.1+b.1,a.2+b.2) :: r) else none)
   | _=>none
  else none
 else (lf n).map (· :: T)
def Kk:List Nd->List (Int×Int)->Option (List (Int×Int))
 | [],T=>some T
 | n :: r,T=>(Ei lf n T).bind (Kk r)
end
section
variable {lf:Nd->Option (Int×Int)}
def okT (T:List (Int×Int)):Prop:=∀ w∈T,okW w
theorem Ou (hlf:∀ n w,lf n=some w->okW w) {n:Nd} {T T':List (Int×Int)} (h:Ei lf n T=some T') (hT:okT T):okT T':=by
 unfold Ei at h;split at h
 ·split at h
  ·split at h
   ·rename_i b a r;have ha:=hT a (by simp);have hb:=hT b (by simp);have hr:okT r:=fun w hw=>hT w (by simp [hw])
    split at h
    ·split at h
     ·obtain rfl:=osj h;intro w hw;rcases List.mem_cons.1 hw with rfl|hw
      ·exact ⟨ha.1,hb.2⟩
      ·exact hr w hw
     ·cases h
    ·split at h
     ·rename_i h1;obtain rfl:=osj h;intro w hw;rcases List.mem_cons.1 hw with rfl|hw
      ·have:=ha.1;have:=hb.1;have:=ha.2;have:=hb.2;refine ⟨⟨?_,h1.1⟩,⟨?_,h1.2⟩⟩ <;> (try show (0:Int)<=_+_) <;> omega
      ·exact hr w hw
     ·cases h
   ·cases h
  ·cases h
 ·obtain ⟨w,hw,rfl⟩:=oms.1 h;intro v hv;rcases List.mem_cons.1 hv with rfl|hv
  ·exact hlf _ _ hw
  ·exact hT v hv
theorem Ac9:∀ (xs ys:List Nd) (T:List (Int×Int)),Kk lf (xs++ys) T=(Kk lf xs T).bind (Kk lf ys)
 | [],_,_=>rfl
 | n :: r,ys,T=>by
  show (Ei lf n T).bind (Kk lf (r++ys))=((Ei lf n T).bind (Kk lf r)).bind (Kk lf ys);cases Ei lf n T with
  | none=>rfl
  | some T'=>exact Ac9 r ys T'
theorem Nx {xs:List Nd} {k:Nat} {n:Nd} {T:List (Int×Int)} (h:xs[k]? =some n) (hT:Kk lf (xs.take k) []=some T):Kk lf (xs.take (k+1)) []=Ei lf n T:=by
 rw [List.take_add_one,h,Ac9,hT,obs];show (Ei lf n T).bind (Kk lf [])=_;cases Ei lf n T <;> rfl
theorem Tj {xs:List Nd} {k:Nat} (h:Kk lf (xs.take k) []=none):Kk lf xs []=none:=by
 rw [← List.take_append_drop k xs,Ac9,h];rfl
theorem Ani {xs:List Nd} {T:List (Int×Int)} (hx:xs≠[]) (h:Kk lf xs []=some T):T≠[]:=by
 obtain ⟨k,hk⟩:∃ k,xs.length=k+1:=⟨xs.length - 1,by have:=List.length_pos_iff.2 hx;omega⟩
 have hl:xs.take xs.length=xs:=List.take_length;have hn:=gEg (show k<xs.length by omega);cases hp:Kk lf (xs.take k) [] with
 | none=>rw [Tj hp] at h;cases h
 | some T0 =>
  have h2:=Nx hn hp;rw [← hk,hl,h] at h2;intro e;subst e;unfold Ei at h2;split at h2
  ·split at h2
   ·split at h2
    ·split at h2 <;> split at h2 <;> cases h2
    ·cases h2
   ·cases h2
  ·cases hw:lf (xs[k]'oM) with
   | none=>rw [hw] at h2;cases h2
   | some w=>rw [hw] at h2;cases h2
end
def tyG (lf:Nd->Option (Int×Int)) (xs:List Nd):Option (Int×Int) :=
 if 1<=xs.length/\xs.length<=400 then (match Kk lf xs [] with|some [w]=>some w|_=>none) else none
def tyV (xs:List Nd):Option (Int×Int):=tyG lfW xs
-- leaves on both sides
theorem Av9 (n:Nd):∃ r:Int×Int×Bool,F3 n.1 n.2.1 n.2.2=some r/\match lfW n with|some w=>r=(w.1,w.2,true)|none=>r.2.2=false:=by
 obtain ⟨k,v,s⟩:=n;dsimp only;unfold F3 lfW;dsimp only;cases hs:Lz s
 ·have hs':(s.toList==(⟨#[]⟩:ByteArray).toList)=false:=hs;rw [hs'];exact ⟨_,rfl,rfl⟩
 have hs':(s.toList==(⟨#[]⟩:ByteArray).toList)=true:=hs;rw [hs',if_pos rfl,Bool.not_true,cond_false];by_cases h1:k=1
 ·subst h1;rw [beq_self_eq_true,cond_true,N2,if_pos rfl];by_cases h2:0<=v/\v<=12
  ·rw [if_pos h2,D7.2 h2];exact ⟨_,rfl,rfl⟩
  ·rw [if_neg h2,show inR v 0 12=false by rw [Bool.eq_false_iff];intro e;exact h2 (D7.1 e)];exact ⟨_,rfl,rfl⟩
 rw [beq_eq_false_iff_ne.2 h1,cond_false,if_neg h1];by_cases h2:k=2
 ·subst h2;rw [beq_self_eq_true,cond_true,if_pos rfl];by_cases h3:v=0
  ·subst h3;exact ⟨_,rfl,rfl⟩
  ·rw [if_neg h3,beq_eq_false_iff_ne.2 h3];exact ⟨_,rfl,rfl⟩
 rw [beq_eq_false_iff_ne.2 h2,cond_false,if_neg h2];unfold Km;rw [N2];by_cases h3:3<=k/\k<=14
 ·rw [if_pos h3,D7.2 h3,obs,obs,cond_true];unfold Dj Fx G2;rw [Af h3,obs];by_cases h7:k=7∨k=13
  ·have e:cond (k==7) (some true) (some (k==13))=some true:=by
    rcases h7 with rfl|rfl <;> rfl
   rw [e,obs,obs,cond_true,N2,show Y7 k v=inR v 0 96 from if_pos h7];cases inR v 0 96 <;> exact ⟨_,rfl,rfl⟩
  ·have e:cond (k==7) (some true) (some (k==13))=some false:=by
    rw [beq_eq_false_iff_ne.2 (fun e=>h7 (.inl e)),beq_eq_false_iff_ne.2 (fun e=>h7 (.inr e))];rfl
   rw [e,obs,obs,cond_false,show Y7 k v=(v==0) from if_neg h7];cases v==0 <;> exact ⟨_,rfl,rfl⟩
 ·rw [if_neg h3,show inR k 3 14=false by rw [Bool.eq_false_iff];intro e;exact h3 (D7.1 e)];exact ⟨_,rfl,rfl⟩
theorem Aqo (n:Nd):Jw n.1 n.2.1 n.2.2=some (lfW n).isSome:=by
 obtain ⟨k,v,s⟩:=n;dsimp only;unfold Jw lfW;dsimp only;cases hs:Lz s
 ·have hs':(s.toList==(⟨#[]⟩:ByteArray).toList)=false:=hs;rw [hs'];rfl
 have hs':(s.toList==(⟨#[]⟩:ByteArray).toList)=true:=hs;rw [hs',if_pos rfl,Bool.not_true,cond_false,Pk,obs];by_cases h0:1<=k/\k<=14
 ·rw [D7.2 h0,obs,Bool.not_true,cond_false];by_cases h1:k=1
  ·subst h1;rw [beq_self_eq_true,cond_true,Pk,if_pos rfl];by_cases h2:0<=v/\v<=12
   ·rw [if_pos h2,D7.2 h2];rfl
   ·rw [if_neg h2,show inR v 0 12=false by rw [Bool.eq_false_iff];intro e;exact h2 (D7.1 e)];rfl
  rw [beq_eq_false_iff_ne.2 h1,cond_false,if_neg h1];by_cases h7:k=7∨k=13
  ·have e:cond (k==7) (some (k==7)) (some (k==13))=some true:=by
    rcases h7 with rfl|rfl <;> rfl
   rw [e,obs,cond_true,Pk,if_neg oM,if_pos oM,show Y7 k v=inR v 0 96 from if_pos h7];cases inR v 0 96 <;> rfl
  ·have e:cond (k==7) (some (k==7)) (some (k==13))=some false:=by
    rw [beq_eq_false_iff_ne.2 (fun e=>h7 (.inl e)),beq_eq_false_iff_ne.2 (fun e=>h7 (.inr e))];rfl
   rw [e,obs,cond_false];by_cases h2:k=2
   ·rw [if_pos h2];by_cases h3:v=0
    ·rw [if_pos h3,beq_iff_eq.2 h3];rfl
    ·rw [if_neg h3,beq_eq_false_iff_ne.2 h3];rfl
   ·rw [if_neg h2,if_pos oM,show Y7 k v=(v==0) from if_neg h7];cases v==0 <;> rfl
 ·rw [show inR k 1 14=false by rw [Bool.eq_false_iff];intro e;exact h0 (D7.1 e),if_neg oM,if_neg oM,if_neg oM];rfl
theorem Aub {n:Nd} {w:Int×Int} (h:lfW n=some w):F4 n.1 n.2.1 n.2.2=some w:=by
 have hk:=R9 h;obtain ⟨k,v,s⟩:=n;dsimp only at hk ⊢;unfold lfW at h;dsimp only at h;unfold F4 G7;split at h
 ·split at h
  ·rename_i h1;subst h1;split at h
   ·obtain rfl:=osj h;rfl
   ·cases h
  ·rename_i h1;rw [beq_eq_false_iff_ne.2 h1,cond_false];split at h
   ·rename_i h2;subst h2;split at h
    ·obtain rfl:=osj h;rfl
    ·cases h
   ·split at h
    ·split at h
     ·obtain rfl:=osj h;have hk':k=3∨k=4∨k=5∨k=6∨k=7∨k=8∨k=9∨k=10∨k=11∨k=12∨k=13∨k=14:=by omega
      rcases hk' with rfl|rfl|rfl|rfl|rfl|rfl|rfl|rfl|rfl|rfl|rfl|rfl <;> rfl
     ·cases h
    ·cases h
 ·cases h
theorem Anb {lf:Nd->Option (Int×Int)} (hlf:∀ n w,lf n=some w->okW w):∀ {xs:List Nd} {T T':List (Int×Int)},Kk lf xs T=some T'->okT T->okT T'
 | [],_,_,h,hT=>by obtain rfl:=osj h;exact hT
 | n :: r,T,T',h,hT=>by
  have h:(Ei lf n T).bind (Kk lf r)=some T':=h;obtain ⟨T1,h1,h2⟩:=Option.bind_eq_some_iff.1 h;exact Anb hlf h2 (Ou hlf h1 hT)
end
section
theorem Ayn {a b:Int×Int} {r:List (Int×Int)}:(b :: a :: r).reverse=r.reverse++[a,b]:=by simp
theorem Au6 {a b:Int×Int} {r:List (Int×Int)}:(r.reverse++[a,b])[r.length]? =some a/\(r.reverse++[a,b])[r.length+1]? =some b:=by
 constructor
 ·rw [List.getElem?_append_right (by simp),List.length_reverse,Nat.sub_self];rfl
 ·rw [List.getElem?_append_right (by simp),List.length_reverse,Nat.add_sub_cancel_left];rfl
theorem Axj {k:Int} {a b:Int×Int} (ha:okW a) (hb:okW b):F1 k a.1 a.2 b.1 b.2=some (if k=15 then (a.1,b.2,a.2==b.1) else (a.1+b.1,a.2+b.2,decide (a.1+b.1<=12)&&decide (a.2+b.2<=12))):=by
 obtain ⟨⟨a1,a2⟩,a3,a4⟩:=ha;obtain ⟨⟨b1,b2⟩,b3,b4⟩:=hb;unfold F1 Lw;by_cases h:k=15
 ·rw [if_pos h,beq_iff_eq.2 h];rfl
 ·rw [if_neg h,beq_eq_false_iff_ne.2 h,cond_false,A6 (n:=a.1+b.1) oM oM,A6 (n:=a.2+b.2) oM oM];cases decide (a.1+b.1<=12) <;> rfl
def As8 (leaf:Int->Int->ByteArray->Option (Int×Int×Bool)) (a0:List (Int×Int×ByteArray)) (l10_m22:Nat) (l10_m6:List (Int×Int)):Option (Ctl (Nat×(List (Int×Int))) (Ctl (List (Int×Int)) (Int×Int×Bool))) :=
 cond (decide (((l10_m22:Nat):Int)<((a0.length:Nat):Int)))
 (Di (Option.bind (a0[l10_m22]?) fun x16 =>
  Option.bind (cond (x16.1 !=15)
   (some (x16.1 !=16))
   (some false)) fun l18_m33 =>
  cond l18_m33
   (Option.bind (leaf x16.1 x16.2.1 x16.2.2) fun y22 =>
   cond (!y22.2.2)
    (some (Ctl.out (Ctl.out (Ctl.out (0,0,false)))))
    (og (l10_m6.length+1<=1073741824/\(l10_m6.length+1)*16<=140737488355328) <|
    some (Ctl.next (l10_m6++([(y22.1,y22.2.1)])))))
   (Option.bind (cond (x16.2.1 !=0)
    (some true)
    (cond (!(x16.2.2.toList==(⟨#[]⟩:ByteArray).toList))
     (some true)
     (some (decide (((l10_m6.length:Nat):Int)<2))))) fun l30_m59 =>
   cond l30_m59
    (some (Ctl.out (Ctl.out (Ctl.out (0,0,false)))))
    (Option.bind (Cb l10_m6 (wI ((wI (((l10_m6.length:Nat):Int) - 1)) - 1))) fun x37 =>
    Option.bind (Cb l10_m6 (wI ((wI (((l10_m6.length:Nat):Int) - 1)) - 1))) fun x38 =>
    Option.bind (Cb l10_m6 (wI (((l10_m6.length:Nat):Int) - 1))) fun x39 =>
    Option.bind (Cb l10_m6 (wI (((l10_m6.length:Nat):Int) - 1))) fun x40 =>
    Option.bind (F1 x16.1 x38.1 x38.2 x40.1 x40.2) fun y41 =>
    cond (!y41.2.2)
     (some (Ctl.out (Ctl.out (Ctl.out (0,0,false)))))
     (og ((0:Int)<=0/\0<=wI ((wI (((l10_m6.length:Nat):Int) - 1)) - 1)/\wI ((wI (((l10_m6.length:Nat):Int) - 1)) - 1)<=((l10_m6.length:Nat):Int)) <|
     og (((l10_m6.take ((wI ((wI (((l10_m6.length:Nat):Int) - 1)) - 1)).toNat)).length)+1<=1073741824/\(((l10_m6.take ((wI ((wI (((l10_m6.length:Nat):Int) - 1)) - 1)).toNat)).length)+1)*16<=140737488355328) <|
     some (Ctl.next ((l10_m6.take ((wI ((wI (((l10_m6.length:Nat):Int) - 1)) - 1)).toNat))++([(y41.1,y41.2.1)]))))))) fun l14_m6 =>
 og (l10_m22+1<4611686018427387904) <|
 some (Ctl.next (l10_m22+1,l14_m6)))
 (some (Ctl.out (Ctl.next l10_m6)))
section
variable {lf:Nd->Option (Int×Int)} {leaf:Int->Int->ByteArray->Option (Int×Int×Bool)}
theorem Axd (hlf:∀ n w,lf n=some w->okW w) {xs:List Nd} (hleaf:∀ n∈xs,n.1≠15->n.1≠16->∃ r:Int×Int×Bool,leaf n.1 n.2.1 n.2.2=some r/\match lf n with|some w=>r=(w.1,w.2,true)|none=>r.2.2=false) (hx:1<=xs.length/\xs.length<=400):Aq (fun s_:Nat×List (Int×Int)=>As8 leaf xs s_.1 s_.2) 4611686018427387904 (0,[])=some (match Kk lf xs [] with|some T=>Ctl.next T.reverse|none=>Ctl.out (0,0,false)):=by
 refine Jr xs.length (fun k s=>∃ T,s=(k,T.reverse)/\Kk lf (xs.take k) []=some T/\okT T/\T.length<=k) oM _ ⟨[],rfl,rfl,(fun _ h=>by cases h),Nat.le_refl _⟩ ?_ ?_
 ·rintro k s hk ⟨T,rfl,hT,hok,hlen⟩;have hn:=gEg hk;generalize xs[k]=n at hn;have hnext:=Nx hn hT;have hfail:Ei lf n T=none->Kk lf xs []=none:=fun h=>Tj (k:=k+1) (by rw [hnext,h])
  have hlr:T.reverse.length=T.length:=by simp
  try dsimp only
  unfold As8;rw [Au oM,cond_true,hn,obs];by_cases hj:n.1=15∨n.1=16
  ·have e:(cond (n.1 !=15) (some (n.1 !=16)) (some false):Option Bool)=some false:=by
    rcases hj with h|h <;> rw [h] <;> rfl
   rw [e,obs,cond_false];by_cases hv:n.2.1=0/\Lz n.2.2=true
   ·have hs':(n.2.2.toList==(⟨#[]⟩:ByteArray).toList)=true:=hv.2;rw [hv.1,hs',show ((0:Int) !=0)=false from rfl,cond_false,Bool.not_true,cond_false,obs,hlr]
    match T,hT,hok,hlen,hnext,hfail with
    | [],hT,hok,hlen,hnext,hfail =>
     refine .inr ?_;rw [hfail (by unfold Ei;rw [if_pos hj,if_pos hv]),Au (by simp),cond_true];rfl
    | [b],hT,hok,hlen,hnext,hfail =>
     refine .inr ?_;rw [hfail (by unfold Ei;rw [if_pos hj,if_pos hv]),Au (by simp),cond_true];rfl
    | b :: a :: r,hT,hok,hlen,hnext,hfail =>
     have hb:=hok b (by simp);have ha:=hok a (by simp);have hl2:(b :: a :: r).length=r.length+2:=by simp
     have w1:wI (((r.length+2:Nat):Int) - 1)=((r.length+1:Nat):Int):=by rw [A6 oM oM];omega
     have w2:wI (((r.length+1:Nat):Int) - 1)=((r.length:Nat):Int):=by rw [A6 oM oM];omega
     obtain ⟨g1,g2⟩:=Au6 (a:=a) (b:=b) (r:=r);rw [hl2,At oM,cond_false,w1,w2,Ayn,Bt oM,Int.toNat_natCast,g1,obs,obs,Bt oM,Int.toNat_natCast,g2,obs,obs,Axj ha hb,obs];have htake:(r.reverse++[a,b]).take r.length=r.reverse:=List.take_left' (by simp)
     have hst:Ei lf n (b :: a :: r)=if n.1=15 then (if a.2=b.1 then some ((a.1,b.2) :: r) else none) else (if a.1+b.1<=12/\a.2+b.2<=12 then some ((a.1+b.1,a.2+b.2) :: r) else none):=by
      unfold Ei;rw [if_pos hj,if_pos hv]
     have hfin:∀ w:Int×Int,Ei lf n (b :: a :: r)=some (w :: r)->∃ s',(Di (og ((0:Int)<=0/\0<=((r.length:Nat):Int)/\((r.length:Nat):Int)<=((r.length+2:Nat):Int)) (og ((((r.reverse++[a,b]).take r.length).length)+1<=1073741824/\((((r.reverse++[a,b]).take r.length).length)+1)*16<=140737488355328) (some (Ctl.next (((r.reverse++[a,b]).take r.length)++([(w.1,w.2)])):Ctl (List (Int×Int)) (Ctl (Nat×(List (Int×Int))) (Ctl (List (Int×Int)) (Int×Int×Bool))))))) fun l14_m6=>og (k+1<4611686018427387904) (some (Ctl.next (k+1,l14_m6))))=some (.next s')/\∃ T,s'=(k+1,T.reverse)/\Kk lf (xs.take (k+1)) []=some T/\okT T/\T.length<=k+1:=fun w hw=>by
      refine ⟨(k+1,r.reverse++[w]),?_,w :: r,by simp,by rw [hnext,hw],Ou hlf hw hok,by simp at hlen ⊢;omega⟩;rw [Af oM,htake,Af (by simp at hlen ⊢;omega)];simp only [Di,obs,Ctl.then];rw [Af oM]
     by_cases h15:n.1=15
     ·rw [if_pos h15];rw [if_pos h15] at hst;dsimp only;by_cases hab:a.2=b.1
      ·rw [if_pos hab] at hst;rw [beq_iff_eq.2 hab,Bool.not_true,cond_false];exact .inl (hfin (a.1,b.2) hst)
      ·rw [if_neg hab] at hst;rw [beq_eq_false_iff_ne.2 hab,hfail hst];exact .inr rfl
     ·rw [if_neg h15];rw [if_neg h15] at hst;dsimp only;by_cases hab:a.1+b.1<=12/\a.2+b.2<=12
      ·rw [if_pos hab] at hst;rw [Au hab.1,Au hab.2,Bool.and_true,Bool.not_true,cond_false];exact .inl (hfin (a.1+b.1,a.2+b.2) hst)
      ·rw [if_neg hab] at hst
       have e:(decide (a.1+b.1<=12)&&decide (a.2+b.2<=12))=false:=by
        rw [Bool.eq_false_iff];intro h;simp only [Bool.and_eq_true,decide_eq_true_eq] at h;exact hab h
       rw [e,hfail hst];exact .inr rfl
   ·refine .inr ?_;rw [hfail (by unfold Ei;rw [if_pos hj,if_neg hv])];by_cases h0:n.2.1=0
    ·have hs':(n.2.2.toList==(⟨#[]⟩:ByteArray).toList)=false:=by
      rw [Bool.eq_false_iff];intro h;exact hv ⟨h0,h⟩
     rw [h0,hs'];rfl
    ·rw [show (n.2.1 !=0)=true by rw [bne_iff_ne];exact h0];rfl
  ·have h15:n.1≠15:=fun e=>hj (.inl e)
   have h16:n.1≠16:=fun e=>hj (.inr e)
   have e:(cond (n.1 !=15) (some (n.1 !=16)) (some false):Option Bool)=some true:=by
    rw [bne_iff_ne.2 h15,cond_true,bne_iff_ne.2 h16]
   rw [e,obs,cond_true];have hst:Ei lf n T=(lf n).map (· :: T):=if_neg hj;obtain ⟨r,hr,hm⟩:=hleaf n (List.mem_of_getElem? hn) h15 h16;rw [hr,obs];cases hw:lf n with
   | none =>
    rw [hw] at hm hst;dsimp only at hm;rw [hm,hfail hst];exact .inr rfl
   | some w =>
    rw [hw] at hm hst;dsimp only at hm;subst hm;refine .inl ⟨(k+1,T.reverse++[w]),?_,w :: T,by simp,by rw [hnext,hst];rfl,Ou hlf hst hok,by simp;omega⟩;rw [Bool.not_true,cond_false,Af (by rw [hlr];omega)];simp only [Di,obs,Ctl.then];rw [Af oM]
 ·rintro s ⟨T,rfl,hT,hok,hlen⟩;rw [List.take_length] at hT;rw [hT]
  try dsimp only
  unfold As8;rw [At oM,cond_false]
theorem Axx (hlf:∀ n w,lf n=some w->okW w) {xs:List Nd} (hleaf:∀ n∈xs,n.1≠15->n.1≠16->∃ r:Int×Int×Bool,leaf n.1 n.2.1 n.2.2=some r/\match lf n with|some w=>r=(w.1,w.2,true)|none=>r.2.2=false) :
  ∃ r:Int×Int×Bool,(Option.bind (B0 ((xs.length:Nat):Int) 1 400) fun y4=>cond (!y4) (some (0,0,false)) (Di (Aq (fun s_:Nat×(List (Int×Int))=>As8 leaf xs s_.1 s_.2) 4611686018427387904 (0,[])) fun l8_m6=>Option.bind (l8_m6[0]?) fun x50=>some (x50.1,x50.2,((l8_m6.length:Nat):Int)==1)))=some r/\match tyG lf xs with|some w=>r=(w.1,w.2,true)|none=>r.2.2=false:=by
 unfold tyG;rw [N2];by_cases hx:1<=xs.length/\xs.length<=400
 ·rw [D7.2 (show (1:Int)<=((xs.length:Nat):Int)/\((xs.length:Nat):Int)<=400 by omega),obs,Bool.not_true,cond_false,if_pos hx,Axd hlf hleaf hx];cases hr:Kk lf xs [] with
  | none=>exact ⟨_,rfl,rfl⟩
  | some T =>
   have hne:=Ani (fun e=>by subst e;simp at hx) hr;dsimp only [Di,obs,Ctl.then]
   match T,hne with
   | [w],_=>exact ⟨_,rfl,rfl⟩
   | a :: b :: r,_ =>
    obtain ⟨c,hc⟩:∃ c,(a :: b :: r).reverse[0]? =some c:=⟨_,gEg (by simp)⟩
    rw [hc];refine ⟨_,rfl,?_⟩;show ((((a :: b :: r).reverse.length:Nat):Int)==1)=false;rw [beq_eq_false_iff_ne];simp;omega
 ·rw [if_neg hx,show inR ((xs.length:Nat):Int) 1 400=false by rw [Bool.eq_false_iff];intro e;have:=D7.1 e;exact hx oM];exact ⟨_,rfl,rfl⟩
end
theorem Ang (xs:List Nd):∃ r:Int×Int×Bool,Fg xs=some r/\match tyV xs with|some w=>r=(w.1,w.2,true)|none=>r.2.2=false:=by
 obtain ⟨r,h,hm⟩:=Axx (lf:=lfW) (leaf:=F3) (xs:=xs) (fun _ _ h=>Agt h) fun n _ _ _=>Av9 n
 refine ⟨r,?_,hm⟩;unfold Fg;rw [show C9 xs=some r from h];rfl
end
section
def SRel (F I O:List Int):Nat->List (Int×Int)->Prop
 | k,[]=>k=0
 | k,w :: T=>∃ j:Nat,j<k/\F[k - 1]? =some (j:Int)/\I[k - 1]? =some w.1/\O[k - 1]? =some w.2/\SRel F I O j T
theorem Agu {l:List Int} {k:Nat} {x y:Int} (h:l[k]? =some x):(l++[y])[k]? =some x:=by
 rw [List.getElem?_append_left (gSi.1 h).1];exact h
theorem SRel.app {F I O:List Int} {x y z:Int}:∀ {T:List (Int×Int)} {k:Nat},SRel F I O k T->SRel (F++[x]) (I++[y]) (O++[z]) k T
 | [],_,h=>h
 | _ :: _,_,⟨j,h1,h2,h3,h4,h5⟩=>⟨j,h1,Agu h2,Agu h3,Agu h4,h5.app⟩
theorem K3 {l:List Int} {k:Nat} {y:Int} (h:l.length=k):(l++[y])[k+1 - 1]? =some y:=by
 subst h;rw [Nat.add_sub_cancel,List.getElem?_append_right (Nat.le_refl _),Nat.sub_self];rfl
abbrev ScR:=List Int×List Int×List Int×Bool
def Avk (n:Nat) (t:Option (List (Int×Int))) (r:Ctl (List Int×List Int×List Int) ScR):Prop :=
 match t with
 | some T=>∃ F I O,r=Ctl.next (F,I,O)/\F.length=n/\I.length=n/\O.length=n/\okT T/\SRel F I O n T
 | none=>∃ F I O,r=Ctl.out (F,I,O,false)
theorem Apd (l:List (ByteArray×Int×Int×List Nd)) (hl:l.length<=1048576) (s:ByteArray):(∃ (i:Nat) (d:ByteArray×Int×Int×List Nd),Jo l s=some (i:Int)/\l[i]? =some d/\l.find? (fun d=>d.1.toList==s.toList)=some d)∨(Jo l s=some (-1)/\l.find? (fun d=>d.1.toList==s.toList)=none):=by
 unfold Jo
 have key:∀ i,i<=l.length->(∀ k (hk:k<l.length),k<i->(l[k].1.toList==s.toList)=false)->(∃ (i:Nat) (d:ByteArray×Int×Int×List Nd),l[i]? =some d/\l.find? (fun d=>d.1.toList==s.toList)=some d)∨l.find? (fun d=>d.1.toList==s.toList)=none:=fun i _ _=>by
  cases h:l.find? (fun d=>d.1.toList==s.toList) with
  | none=>exact .inr rfl
  | some d =>
   obtain ⟨k,hk⟩:=List.mem_iff_getElem?.1 (List.mem_of_find?_eq_some h);exact .inl ⟨k,d,hk,rfl⟩
 have hP:∃ r,Aq (fun s_:Nat=>Ip l s s_) 4611686018427387904 0=some r/\((∃ (i:Nat) (d:ByteArray×Int×Int×List Nd),r=Ctl.out (i:Int)/\l[i]? =some d/\l.find? (fun d=>d.1.toList==s.toList)=some d)∨(r=Ctl.next ()/\l.find? (fun d=>d.1.toList==s.toList)=none)):=by
  refine Gg (Post:=fun r=>(∃ (i:Nat) (d:ByteArray×Int×Int×List Nd),r=Ctl.out (i:Int)/\l[i]? =some d/\l.find? (fun d=>d.1.toList==s.toList)=some d)∨(r=Ctl.next ()/\l.find? (fun d=>d.1.toList==s.toList)=none)) l.length (fun i st=>st=i/\(l.take i).find? (fun d=>d.1.toList==s.toList)=none) oM ⟨rfl,by simp⟩ ?_ ?_
  ·rintro i st hi ⟨rfl,hI⟩;have hx:=gEg hi;unfold Ip;rw [Au oM,cond_true,hx,obs];have e:l.take (st+1)=l.take st++[l[st]]:=by rw [List.take_add_one,hx];rfl
   cases hb:(l[st].1.toList==s.toList)
   ·rw [cond_false,Af oM];exact .inl ⟨_,rfl,rfl,by rw [e,List.find?_append,hI];simp [hb]⟩
   ·refine .inr ⟨_,rfl,.inl ⟨st,l[st],rfl,hx,?_⟩⟩;have e2:l=l.take (st+1)++l.drop (st+1):=(List.take_append_drop _ _).symm
    conv=>lhs;rw [e2,e]
    rw [List.find?_append,List.find?_append,hI];simp [hb]
  ·rintro st ⟨rfl,hI⟩;unfold Ip;rw [At oM,cond_false];rw [List.take_length] at hI;exact ⟨_,rfl,.inr ⟨rfl,hI⟩⟩
 obtain ⟨r,hr,⟨i,d,rfl,h1,h2⟩|⟨rfl,h1⟩⟩:=hP
 ·rw [hr];exact .inl ⟨i,d,rfl,h1,h2⟩
 ·rw [hr];exact .inr ⟨rfl,h1⟩
theorem Aw2 {lib:List (ByteArray×Int×Int×List Nd)} (hll:lib.length<=1048576) (hlb:∀ d∈lib,okW (d.2.1,d.2.2.1)) {xs:List Nd} (hx:1<=xs.length/\xs.length<=400):∃ r,Aq (fun s_:Nat×List Int×List Int×List Int=>I8 xs lib s_.1 s_.2.1 s_.2.2.1 s_.2.2.2) 4611686018427387904 (0,[],[],[])=some r/\Avk xs.length (Kk (lfL lib) xs []) r:=by
 refine Gg (Post:=Avk xs.length (Kk (lfL lib) xs [])) xs.length (fun k s=>∃ F I O T,s=(k,F,I,O)/\F.length=k/\I.length=k/\O.length=k/\Kk (lfL lib) (xs.take k) []=some T/\okT T/\SRel F I O k T) oM ⟨[],[],[],[],rfl,rfl,rfl,rfl,rfl,(fun _ h=>by cases h),rfl⟩ ?_ ?_
 ·rintro k s hk ⟨F,I,O,T,rfl,lF,lI,lO,hT,hok,hS⟩;have hn:=gEg hk;generalize xs[k]=n at hn;have hnext:=Nx hn hT;have hfail:Ei (lfL lib) n T=none->Kk (lfL lib) xs []=none:=fun h=>Tj (k:=k+1) (by rw [hnext,h])
  try dsimp only
  unfold I8;rw [Au oM,cond_true,hn,obs,Aqo,obs];by_cases hj:n.1=15∨n.1=16
  ·have hnl:lfW n=none:=by
    cases hw:lfW n with
    | none=>rfl
    | some w=>have:=R9 hw;omega
   rw [hnl];have e17:(n.1==17)=false:=by rw [beq_eq_false_iff_ne];omega
   rw [Option.isSome_none,cond_false,e17,obs,cond_false]
   have hst0:Ei (lfL lib) n T=if n.2.1=0/\Lz n.2.2=true then (match T with
     | b :: a :: r=>if n.1=15 then (if a.2=b.1 then some ((a.1,b.2) :: r) else none) else (if a.1+b.1<=12/\a.2+b.2<=12 then some ((a.1+b.1,a.2+b.2) :: r) else none)
     | _=>none) else none:=if_pos hj
   have hcond:∀ q:Option Bool,(cond (n.1 !=15) (cond (n.1 !=16) (some true) q) q:Option Bool)=q:=fun q=>by
    rcases hj with h|h <;> rw [h] <;> rfl
   rw [hcond];by_cases hv:n.2.1=0/\Lz n.2.2=true
   ·have hs':(n.2.2.toList==(⟨#[]⟩:ByteArray).toList)=true:=hv.2;rw [if_pos hv] at hst0;rw [hv.1,hs',Bool.not_true,cond_false,show ((0:Int) !=0)=false from rfl,cond_false]
    match T,hT,hok,hS,hnext,hfail,hst0 with
    | [],hT,hok,hS,hnext,hfail,hst0 =>
     refine .inr ⟨Ctl.out (F,I,O,false),?_,?_⟩
     ·have:k=0:=hS;rw [Au oM];rfl
     ·rw [hfail hst0];exact ⟨_,_,_,rfl⟩
    | [b],hT,hok,hS,hnext,hfail,hst0 =>
     refine .inr ⟨Ctl.out (F,I,O,false),?_,?_⟩
     ·obtain ⟨j,h1,h2,h3,h4,h5⟩:=hS;have h5:j=0:=h5;subst h5;by_cases h:k<2
      ·rw [Au oM];rfl
      ·have w1:wI ((k:Int) - 1)=((k - 1:Nat):Int):=by rw [A6 oM oM];omega
       rw [At oM,cond_false,w1,Bt oM,Int.toNat_natCast,h2];rfl
     ·rw [hfail hst0];exact ⟨_,_,_,rfl⟩
    | b :: a :: r,hT,hok,hS,hnext,hfail,hst0 =>
     have hb:=hok b (by simp);have ha:=hok a (by simp);obtain ⟨⟨b1,b2⟩,b3,b4⟩:=hb;obtain ⟨⟨a1,a2⟩,a3,a4⟩:=ha;obtain ⟨j,h1,h2,h3,h4,j0,g1,g2,g3,g4,g5⟩:=hS;have w1:wI ((k:Int) - 1)=((k - 1:Nat):Int):=by rw [A6 oM oM];omega
     have w2:wI ((j:Int) - 1)=((j - 1:Nat):Int):=by rw [A6 oM oM];omega
     have G:∀ (l:List Int) (m:Nat),Cb l ((m:Nat):Int)=l[m]?:=fun l m=>by rw [Bt oM,Int.toNat_natCast]
     rw [At oM,cond_false,w1];simp only [G,h2,h3,h4,obs,w2,g2,g3,g4];rw [At (show ¬ ((j:Nat):Int)<1 by omega),cond_false];dsimp only at hst0
     have hfin:∀ w:Int×Int,Ei (lfL lib) n (b :: a :: r)=some (w :: r)->∃ s',(Di (some (Ctl.next (F++([(j0:Int)]),I++([w.1]),O++([w.2])):Ctl (List Int×List Int×List Int) (Ctl (Nat×List Int×List Int×List Int) (Ctl (List Int×List Int×List Int) ScR)))) fun q=>og (k+1<4611686018427387904) (some (Ctl.next (k+1,q.1,q.2.1,q.2.2))))=some (.next s')/\∃ F I O T,s'=(k+1,F,I,O)/\F.length=k+1/\I.length=k+1/\O.length=k+1/\Kk (lfL lib) (xs.take (k+1)) []=some T/\okT T/\SRel F I O (k+1) T:=fun w hw=>by
      refine ⟨_,?_,F++[(j0:Int)],I++[w.1],O++[w.2],w :: r,rfl,by simp [lF],by simp [lI],by simp [lO],by rw [hnext,hw],Ou (Ak8 hlb) hw hok,j0,by omega,K3 lF,K3 lI,K3 lO,g5.app⟩;simp only [Di,obs,Ctl.then];rw [Af oM]
     by_cases h15:n.1=15
     ·rw [if_pos h15] at hst0;rw [beq_iff_eq.2 h15,cond_true];by_cases hab:a.2=b.1
      ·rw [if_pos hab] at hst0;rw [show (a.2 !=b.1)=false by rw [hab];exact bne_self_eq_false _,cond_false];simp only [Di,obs,Ctl.then];rw [At (show ¬ 12<a.1 by omega),At (show ¬ 12<b.2 by omega),cond_false,obs,cond_false,Af oM,Af oM,Af oM];exact .inl (hfin (a.1,b.2) hst0)
      ·rw [if_neg hab] at hst0;rw [bne_iff_ne.2 hab,hfail hst0];exact .inr ⟨_,rfl,_,_,_,rfl⟩
     ·rw [if_neg h15] at hst0;rw [beq_eq_false_iff_ne.2 h15,cond_false,A6 (n:=a.1+b.1) oM oM,A6 (n:=a.2+b.2) oM oM];simp only [Di,obs,Ctl.then];by_cases hab:a.1+b.1<=12/\a.2+b.2<=12
      ·rw [if_pos hab] at hst0;rw [At (show ¬ 12<a.1+b.1 by omega),At (show ¬ 12<a.2+b.2 by omega),cond_false,obs,cond_false,Af oM,Af oM,Af oM];exact .inl (hfin (a.1+b.1,a.2+b.2) hst0)
      ·rw [if_neg hab] at hst0;rw [hfail hst0];refine .inr ⟨Ctl.out (F,I,O,false),?_,_,_,_,rfl⟩;by_cases h1:12<a.1+b.1
       ·rw [Au h1];rfl
       ·rw [At h1,Au (show 12<a.2+b.2 by omega)];rfl
   ·rw [if_neg hv] at hst0;refine .inr ⟨Ctl.out (F,I,O,false),?_,?_⟩
    ·by_cases hn0:Lz n.2.2=true
     ·have hs':(n.2.2.toList==(⟨#[]⟩:ByteArray).toList)=true:=hn0;rw [hs',show (n.2.1 !=0)=true by rw [bne_iff_ne];exact fun e=>hv ⟨e,hn0⟩];rfl
     ·have hs':(n.2.2.toList==(⟨#[]⟩:ByteArray).toList)=false:=by simpa using hn0
      rw [hs'];rfl
    ·rw [hfail hst0];exact ⟨_,_,_,rfl⟩
  ·have hst:Ei (lfL lib) n T=(lfL lib n).map (· :: T):=if_neg hj;by_cases h17:n.1=17
   ·have hnl:lfW n=none:=by
     cases hw:lfW n with
     | none=>rfl
     | some w=>have:=R9 hw;omega
    have har:F4 n.1 n.2.1 n.2.2=some (1,1):=by
     unfold F4 G7;rw [h17];rfl
    rw [hnl,Option.isSome_none,cond_false,beq_iff_eq.2 h17,obs,cond_true,har,obs,cond_true];have hlf:lfL lib n=if n.2.1=0 then (lib.find? fun d=>d.1.toList==n.2.2.toList).map fun d=>(d.2.1,d.2.2.1) else none:=if_pos h17
    rcases Apd lib hll n.2.2 with ⟨i,d,h1,h2,h3⟩|⟨h1,h3⟩
    ·have hi:=Ai h2;rw [h1,obs,At oM,cond_false,obs];by_cases hv:n.2.1=0
     ·rw [if_pos hv,h3] at hlf;have hlf:lfL lib n=some (d.2.1,d.2.2.1):=hlf;rw [hlf] at hst;rw [hv,show ((0:Int) !=0)=false from rfl,cond_false,Bt oM,Int.toNat_natCast,h2,obs];simp only [Di,obs,Ctl.then];rw [Af oM,Af oM,Af oM];simp only [obs,Ctl.then];rw [Af oM];exact .inl ⟨_,rfl,F++[(k:Int)],I++[d.2.1],O++[d.2.2.1],(d.2.1,d.2.2.1) :: T,rfl,by simp [lF],by simp [lI],by simp [lO],by rw [hnext,hst];rfl,Ou (Ak8 hlb) hst hok,k,by omega,K3 lF,K3 lI,K3 lO,hS.app⟩
     ·rw [if_neg hv] at hlf;rw [hlf] at hst;rw [bne_iff_ne.2 hv,cond_true,hfail hst];exact .inr ⟨_,rfl,_,_,_,rfl⟩
    ·have hlf:lfL lib n=none:=by rw [hlf,h3];split <;> rfl
     rw [hlf] at hst;rw [h1,obs,Au oM,cond_true,obs,cond_true,hfail hst];exact .inr ⟨_,rfl,_,_,_,rfl⟩
   have hlw:lfL lib n=lfW n:=if_neg h17;rw [hlw] at hst;have e17:(n.1==17)=false:=beq_eq_false_iff_ne.2 h17;cases hw:lfW n with
   | some w =>
    rw [hw] at hst;rw [Option.isSome_some,cond_true,obs,cond_true,Aub hw,obs,e17,cond_false];simp only [Di,obs,Ctl.then];rw [Af oM,Af oM,Af oM];simp only [obs,Ctl.then];rw [Af oM];exact .inl ⟨_,rfl,F++[(k:Int)],I++[w.1],O++[w.2],w :: T,rfl,by simp [lF],by simp [lI],by simp [lO],by rw [hnext,hst];rfl,Ou (Ak8 hlb) hst hok,k,by omega,K3 lF,K3 lI,K3 lO,hS.app⟩
   | none =>
    rw [hw] at hst;rw [Option.isSome_none,cond_false];refine .inr ⟨Ctl.out (F,I,O,false),?_,?_⟩
    ·have h15:n.1≠15:=fun e=>hj (.inl e)
     have h16:n.1≠16:=fun e=>hj (.inr e)
     rw [e17,obs,cond_false,bne_iff_ne.2 h15,cond_true,bne_iff_ne.2 h16];rfl
    ·rw [hfail hst];exact ⟨_,_,_,rfl⟩
 ·rintro s ⟨F,I,O,T,rfl,lF,lI,lO,hT,hok,hS⟩;rw [List.take_length] at hT;rw [hT]
  try dsimp only
  unfold I8;rw [At oM,cond_false];exact ⟨_,rfl,_,_,_,rfl,lF,lI,lO,hok,hS⟩
theorem Asj {lib:List (ByteArray×Int×Int×List Nd)} (hll:lib.length<=1048576) (hlb:∀ d∈lib,okW (d.2.1,d.2.2.1)) (xs:List Nd):∃ F I O b,Mh lib xs=some (F,I,O,b)/\match tyG (lfL lib) xs with|some w=>b=true/\I[xs.length - 1]? =some w.1/\O[xs.length - 1]? =some w.2|none=>b=false:=by
 unfold Mh tyG;rw [Pk];by_cases hx:1<=xs.length/\xs.length<=400
 ·rw [D7.2 (show (1:Int)<=((xs.length:Nat):Int)/\((xs.length:Nat):Int)<=400 by omega),obs,Bool.not_true,cond_false,if_pos hx];obtain ⟨r,hr,hP⟩:=Aw2 hll hlb hx;rw [hr];cases ht:Kk (lfL lib) xs [] with
  | none =>
   rw [ht] at hP;obtain ⟨F,I,O,rfl⟩:=hP;exact ⟨_,_,_,_,rfl,rfl⟩
  | some T =>
   rw [ht] at hP;obtain ⟨F,I,O,rfl,lF,lI,lO,hok,hS⟩:=hP;have hne:=Ani (fun e=>by subst e;simp at hx) ht;have w1:wI (((xs.length:Nat):Int) - 1)=((xs.length - 1:Nat):Int):=by rw [A6 oM oM];omega
   simp only [Di,obs,Ctl.then]
   match T,hne,hS with
   | w :: T,_,⟨j,h1,h2,h3,h4,h5⟩ =>
    rw [w1,Bt oM,Int.toNat_natCast,h2,obs,obs];refine ⟨F,I,O,_,rfl,?_⟩;cases T with
    | nil =>
     have h5:j=0:=h5;subst h5;exact ⟨rfl,h3,h4⟩
    | cons v T =>
     obtain ⟨j',h',_⟩:=h5;show ((j:Int)==0)=false;rw [beq_eq_false_iff_ne];omega
 ·rw [if_neg hx,show inR ((xs.length:Nat):Int) 1 400=false by rw [Bool.eq_false_iff];intro e;have:=D7.1 e;exact hx oM];exact ⟨_,_,_,_,rfl,rfl⟩
theorem Ai0 (xs:List Nd):∃ F I O b,Jx xs=some (F,I,O,b)/\match tyV xs with|some w=>b=true/\I[xs.length - 1]? =some w.1/\O[xs.length - 1]? =some w.2|none=>b=false:=by
 obtain ⟨F,I,O,b,h1,h2⟩:=Asj (lib:=[]) (by simp) (fun d hd=>by cases hd) xs;rw [Auu] at h2;refine ⟨F,I,O,b,?_,h2⟩;unfold Jx;rw [h1];rfl
theorem Ab2 (xs:List Nd):Mi xs=some (match tyV xs with|some w=>(w.1,w.2,true)|none=>(0,0,false)):=by
 unfold Mi;obtain ⟨F,I,O,b,h,hm⟩:=Ai0 xs;rw [h,obs];cases ht:tyV xs with
 | none=>rw [ht] at hm;dsimp only at hm;subst hm;rfl
 | some w =>
  rw [ht] at hm;obtain ⟨rfl,h1,h2⟩:=hm
  have hx:1<=xs.length/\xs.length<=400:=by
   unfold tyV tyG at ht;split at ht
   ·assumption
   ·cases ht
  have w1:wI (((xs.length:Nat):Int) - 1)=((xs.length - 1:Nat):Int):=by rw [A6 oM oM];omega
  dsimp only;rw [Bool.not_true,cond_false,w1,Bt oM,Int.toNat_natCast,h1,obs,obs,Bt oM,Int.toNat_natCast,h2];rfl
end
section
def szV (v:Int) (n:Nat):Int:=if v<n then -1 else v - n
theorem Aqf (xs:List Int) {v:Int} (hv:0<=v/\v<=1048576) (hx:xs.length<=9223372036854775807):Mr xs v=some (szV v xs.length):=by
 unfold Mr szV;rw [A6 oM oM];by_cases h:v<xs.length
 ·rw [Au oM,if_pos h];rfl
 ·rw [At oM,if_neg h];rfl
theorem Apw (xs:List Int) (hx:xs.length<=1073741824):Ml xs=some xs:=by
 unfold Ml;rw [Af oM]
 have h:Aq (fun s_:Nat×List Int=>It xs s_.1 s_.2) 4611686018427387904 (0,List.replicate xs.length (0:Int))=some xs:=by
  refine A2 xs.length (fun i=>(i,xs.take i++List.replicate (xs.length - i) 0)) oM xs (by simp) (fun i hi=>?_) ?_
  ·have hx:=gEg hi
   try dsimp only
   unfold It;rw [Au oM,cond_true,hx,obs,Xg hi,obs,Af oM,Xo hx]
  ·try dsimp only
   unfold It;rw [At oM,cond_false];simp
 rw [h];rfl
theorem Aay (xs:List Int) (hx:xs.length<=1073741824):Cx xs xs=some true:=by
 unfold Cx
 have h:Aq (fun s_:Nat=>Io xs xs s_) 4611686018427387904 0=some (.next ()):=by
  refine A2 xs.length (fun i=>i) oM _ rfl (fun i hi=>?_) ?_
  ·have hx:=gEg hi
   try dsimp only
   unfold Io;rw [Au oM,cond_true,hx,obs,obs,bne_self_eq_false,cond_false,Af oM]
  ·try dsimp only
   unfold Io;rw [At oM,cond_false]
 rw [h,bne_self_eq_false,cond_false];rfl
end
section
section
variable {σ ρ:Type}
end
def mkL (v:Int) (n:Nat):List Int:=(List.range n).map fun j:Nat=>v+(j:Int)
def Gc (b:Nat) (xss:List (List Int)):Prop:=∀ x∈xss,x.length<=b
def G1 (xss:List (List Int)):Nat:=(xss.map List.length).sum
def N0 (v:Int):List (List Int)->List (List Int)
 | []=>[]
 | x :: r=>mkL v x.length :: N0 (v+x.length) r
theorem Oy:∀ (v:Int) (xss:List (List Int)),(N0 v xss).length=xss.length
 | _,[]=>rfl
 | v,x :: r=>by simp [N0,Oy]
theorem Aax:∀ (v:Int) (xss:List (List Int)) (i:Nat) (h:i<xss.length),(N0 v xss)[i]? =some (mkL (v+G1 (xss.take i)) xss[i].length)
 | v,x :: r,0,h=>by simp [N0,G1]
 | v,x :: r,i+1,h=>by
  have:=Aax (v+x.length) r i (by simpa using h);simp only [N0,List.getElem?_cons_succ,this,List.take_succ_cons,List.getElem_cons_succ,G1,List.map_cons,List.sum_cons];congr 2;simp [Int.add_assoc]
theorem Aep {xss:List (List Int)} {i:Nat} (h:i<xss.length):G1 (xss.take (i+1))=G1 (xss.take i)+xss[i].length:=by
 unfold G1;rw [List.take_add_one,gEg h];simp only [Option.toList,List.map_append,List.map_cons,List.map_nil,List.sum_append,List.sum_cons,List.sum_nil,Nat.add_zero]
theorem Af6 {b:Nat}:∀ {xss:List (List Int)},Gc b xss->G1 xss<=xss.length*b
 | [],_=>by simp [G1]
 | x :: r,h=>by
  have h1:=h x (by simp);have h2:=Af6 (xss:=r) fun y hy=>h y (by simp [hy])
  simp only [G1,List.map_cons,List.sum_cons,List.length_cons,Nat.succ_mul] at h2 ⊢;omega
theorem Ant {b:Nat} {xss:List (List Int)} (h:Gc b xss) (i:Nat):G1 (xss.take i)<=xss.length*b:=by
 refine Nat.le_trans (Af6 fun x hx=>h x (List.mem_of_mem_take hx)) (Nat.mul_le_mul_right _ ?_);rw [List.length_take];omega
theorem Aol (xss:List (List Int)) (hn:xss.length<=1048576) (hb:Gc 1048576 xss):K9 xss xss=some true:=by
 unfold K9
 have h:Aq (fun s_:Nat=>Hi xss xss s_) 4611686018427387904 0=some (.next ()):=by
  refine A2 xss.length (fun i=>i) oM _ rfl (fun i hi=>?_) ?_
  ·have hx:=gEg hi;have:=hb _ (List.getElem_mem hi)
   try dsimp only
   unfold Hi;rw [Au oM,cond_true,hx,obs,obs,Aay _ oM,obs,Bool.not_true,cond_false,Af oM]
  ·try dsimp only
   unfold Hi;rw [At oM,cond_false]
 rw [h,bne_self_eq_false,cond_false];rfl
def szW (v:Int) (xss:List (List Int)):Int:=if v<xss.length+G1 xss then -1 else v - (xss.length+G1 xss)
theorem Av7 {v:Int} {xss:List (List Int)} (hv:v<=1048576) (h:¬ szW v xss<0):xss.length+G1 xss<=1048576/\Gc 1048576 xss/\szW v xss=v - (xss.length+G1 xss):=by
 unfold szW at h ⊢;split at h
 ·omega
 rename_i h1;have h2:xss.length+G1 xss<=1048576:=by omega
 refine ⟨h2,fun x hx=>?_,if_neg h1⟩
 have:∀ {l:List (List Int)},x∈l->x.length<=G1 l:=by
  intro l
  induction l with
  | nil=>intro h;cases h
  | cons y r ih =>
   intro h;simp only [G1,List.map_cons,List.sum_cons] at ih ⊢;rcases List.mem_cons.1 h with rfl|h
   ·omega
   ·have:=ih h;omega
 have:=this hx;omega
theorem Anz (xss:List (List Int)) {v:Int} (hv:0<=v/\v<=1048576) (hn:xss.length<=9223372036854775807) (hb:Gc 9223372036854775807 xss):Lb xss v=some (szW v xss):=by
 unfold Lb;rw [A6 oM oM];by_cases h0:v<xss.length
 ·rw [Au oM,szW,if_pos oM];rfl
 rw [At oM,cond_false]
 have h:Aq (fun s_:Int×Nat=>Hh xss s_.1 s_.2) 4611686018427387904 (v - xss.length,0)=some (if v<xss.length+G1 xss then .out (-1) else .next (v - (xss.length+G1 xss))):=by
  have hm:∀ i,G1 (xss.take i)<=G1 xss:=fun i=>by
   have:G1 xss=G1 (xss.take i)+G1 (xss.drop i):=by
    conv=>lhs;rw [← List.take_append_drop i xss]
    rw [G1,List.map_append,List.sum_append];rfl
   omega
  refine Jr xss.length (fun i s=>s=(v - xss.length - G1 (xss.take i),i)/\(xss.length:Int)+G1 (xss.take i)<=v) oM _ ⟨by simp [G1],by simp [G1];omega⟩ ?_ ?_
  ·rintro i s hi ⟨rfl,h1⟩;have hx:=gEg hi;have hr:=hb _ (List.getElem_mem hi);have hs:=Aep hi;have hm1:=hm (i+1)
   try dsimp only
   unfold Hh;rw [Au oM,cond_true,hx,obs,Aqf _ oM hr,obs,szV];by_cases h2:v - xss.length - G1 (xss.take i)<xss[i].length
   ·refine .inr ?_;rw [if_pos h2,if_pos oM];rfl
   ·refine .inl ⟨(v - xss.length - G1 (xss.take (i+1)),i+1),?_,rfl,by omega⟩;rw [if_neg h2,At oM,cond_false,Af oM,hs,show v - ↑xss.length - ↑(G1 (List.take i xss)) - ↑xss[i].length=v - ↑xss.length - ↑(G1 (List.take i xss)+xss[i].length) by omega]
  ·rintro s ⟨rfl,h1⟩;rw [List.take_length] at h1 ⊢
   try dsimp only
   unfold Hh;rw [At oM,cond_false,if_neg oM];simp [Int.sub_sub]
 rw [h,szW];split <;> rfl
theorem Ao3 (xss:List (List Int)) (hn:xss.length<=1048576) (hb:Gc 1048576 xss):Lc xss=some xss:=by
 unfold Lc;rw [Af oM]
 have h:Aq (fun s_:Nat×List (List Int)=>Hj xss s_.1 s_.2) 4611686018427387904 (0,List.replicate xss.length ([]:List Int))=some xss:=by
  refine A2 xss.length (fun i=>(i,xss.take i++List.replicate (xss.length - i) [])) oM xss (by simp) (fun i hi=>?_) ?_
  ·have hx:=gEg hi;have hr:=hb _ (List.getElem_mem hi)
   try dsimp only
   unfold Hj;rw [Au oM,cond_true,hx,obs,Apw _ oM,obs,Xg hi,obs,Af oM,Xo hx]
  ·try dsimp only
   unfold Hj;rw [At oM,cond_false];simp
 rw [h];rfl
theorem Ath {R:Nat->Prop} {w:World} {t:Ty} {A:Option Addr} {c:Nat} {xss:List (List t.D)} {l:List Addr} (h:Sl R w (.slice t) A c xss l):∀ x∈xss,x.length<=9223372036854775807:=by
 obtain ⟨_,_,f,_,h4⟩:=h;intro x hx;obtain ⟨i,hi,rfl⟩:=List.getElem_of_mem hx;obtain ⟨_,_,_,h5⟩:=h4 oM;obtain ⟨A',c',_,h6⟩:=h5 i hi;exact (Ako (xs:=xss[i]) h6).2
end
section
def inV (p:Int) (x:List Int):Prop:=∀ a,a∈x->0<=a/\a<p
def VecW (p:Int) (w:Nat) (x:List Int):Prop:=x.length=w/\inV p x
def MatW (p:Int) (w:Nat) (m:List (List Int)):Prop:=∀ x,x∈m->VecW p w x
def Eh (p k:Int) (v:List Int):List Int:=v.map fun a=>a*k % p
def De (p f:Int) (x v:List Int):List Int:=List.zipWith (fun a b=>(a - f*b) % p) x v
def Dq (m:List (List Int)) (c r:Nat):Nat:=r+(m.drop r).findIdx fun x=>x.getD c 0 !=0
def Lo (m:List (List Int)) (r k:Nat):List (List Int):=(m.set r (m.getD k [])).set k (m.getD r [])
def Hf (p:Int) (c r:Nat) (pr:List Int) (m:List (List Int)):List (List Int):=m.mapIdx fun i x=>if i=r then pr else De p (x.getD c 0) x pr
def Oj (p a:Int):Int:=(((List.range p.toNat).find? fun (x:Nat)=>a*(x:Int) % p==1).getD 0:Nat)
def prV (p:Int) (c:Nat) (x:List Int):List Int:=Eh p (Oj p (x.getD c 0)) x
def gjS (p:Int) (c:Nat) (s:Nat×List (List Int)):Nat×List (List Int) :=
 if s.1<s.2.length then
  if Dq s.2 c s.1=s.2.length then s
  else (s.1+1,Hf p c s.1 (prV p c (s.2.getD (Dq s.2 c s.1) [])) (Lo s.2 s.1 (Dq s.2 c s.1)))
 else s
def gjT (p:Int) (m:List (List Int)):Nat->Nat×List (List Int)
 | 0=>(0,m)
 | c+1=>gjS p c (gjT p m c)
def gj (p:Int) (n:Nat) (m:List (List Int)):List (List Int):=(gjT p m n).2.take (gjT p m n).1
theorem Sm {p x:Int} (hp:2<=p):0<=x % p/\x % p<p:=⟨Int.emod_nonneg x oM,Int.emod_lt_of_pos x oM⟩
theorem R6 {p k:Int} {w:Nat} {x:List Int} (hp:2<=p) (h:x.length=w):VecW p w (Eh p k x) :=
 ⟨by simp [Eh,h],fun a ha=>by obtain ⟨b,_,rfl⟩:=List.mem_map.1 ha;exact Sm hp⟩
theorem Aky {α β γ:Type} {f:α->β->γ}:∀ {x:List α} {v:List β} {c:γ},c∈List.zipWith f x v->∃ a b,c=f a b
 | [],_,_,h=>by simp at h
 | _ :: _,[],_,h=>by simp at h
 | a :: x,b :: v,c,h=>by
  rw [List.zipWith_cons_cons,List.mem_cons] at h;rcases h with h|h
  ·exact ⟨a,b,h⟩
  ·exact Aky h
theorem Ai3 {p f:Int} {w:Nat} {x v:List Int} (hp:2<=p) (hx:x.length=w) (hv:v.length=w):VecW p w (De p f x v) :=
 ⟨by simp [De,hx,hv],fun a ha=>by obtain ⟨b,c,rfl⟩:=Aky ha;exact Sm hp⟩
theorem W3 {p:Int} {x v:List Int} (hx:inV p x) (hl:x.length<=v.length):De p 0 x v=x:=by
 apply List.ext_getElem
 ·simp [De];omega
 ·intro i h1 h2;have:=hx x[i] (List.getElem_mem h2);simp only [De,List.getElem_zipWith,Int.zero_mul,Int.sub_zero];exact Int.emod_eq_of_lt this.1 this.2
theorem Be {α:Type} {m:List α} {i:Nat} {d x:α} (h:m[i]? =some x):m.getD i d=x:=by rw [gDg,h];rfl
theorem J9 {α:Type} {m:List α} {i:Nat} (h:i<m.length):∃ x,m[i]? =some x:=⟨_,gEg h⟩
theorem Sn {m:List (List Int)} {c r:Nat} (h:r<=m.length):Dq m c r<=m.length:=by
 have:=List.findIdx_le_length (xs:=m.drop r) (p:=fun x=>x.getD c 0 !=0);rw [List.length_drop] at this;unfold Dq;omega
theorem Awv (m:List (List Int)) (c r:Nat):r<=Dq m c r:=by unfold Dq;omega
theorem Aa1 {m:List (List Int)} {c r i:Nat} (h1:r<=i) (h2:i<Dq m c r) (hr:r<=m.length):(m.getD i []).getD c 0=0:=by
 have hl:=Sn (c:=c) hr;have h3:i - r<(m.drop r).findIdx fun x=>x.getD c 0 !=0:=by unfold Dq at h2;omega
 have h4:i - r<(m.drop r).length:=by rw [List.length_drop];omega
 have h5:=List.not_of_lt_findIdx h3;rw [List.getElem_drop] at h5
 have e:m[r+(i - r)]'(by rw [List.length_drop] at h4;omega)=m.getD i []:=by
  rw [gDg,gEg oM];simp only [show r+(i - r)=i by omega,Option.getD_some]
 rw [e] at h5
 simpa using h5
theorem Aaj {m:List (List Int)} {c r:Nat} (h:Dq m c r≠m.length) (hr:r<=m.length):(m.getD (Dq m c r) []).getD c 0≠0:=by
 have hl:=Sn (c:=c) hr;have h4:(m.drop r).findIdx (fun x=>x.getD c 0 !=0)<(m.drop r).length:=by rw [List.length_drop];unfold Dq at h hl;omega
 have h5:=List.findIdx_getElem (w:=h4);rw [List.getElem_drop] at h5
 have e:m[r+(m.drop r).findIdx (fun x=>x.getD c 0 !=0)]'(by rw [List.length_drop] at h4;omega)=m.getD (Dq m c r) []:=by
  rw [gDg,gEg oM];rfl
 rw [e] at h5
 simpa using h5
theorem Q6 (m:List (List Int)) (r k:Nat):(Lo m r k).length=m.length:=by simp [Lo]
theorem O8 (p:Int) (c r:Nat) (pr:List Int) (m:List (List Int)):(Hf p c r pr m).length=m.length:=by simp [Hf]
theorem Id {m:List (List Int)} {i:Nat} (h:i<m.length):m.getD i []∈m:=by
 rw [gDg,gEg h];exact List.getElem_mem h
theorem Z2 {p:Int} {w:Nat} {m:List (List Int)} {r k:Nat} (h:MatW p w m) (hr:r<m.length) (hk:k<m.length):MatW p w (Lo m r k):=by
 intro x hx;unfold Lo at hx;rcases List.mem_or_eq_of_mem_set hx with hx|rfl
 ·rcases List.mem_or_eq_of_mem_set hx with hx|rfl
  ·exact h x hx
  ·exact h _ (Id hk)
 ·exact h _ (Id hr)
theorem Avc {p:Int} {w c r:Nat} {m:List (List Int)} {pr:List Int} (hp:2<=p) (h:MatW p w m) (hpr:VecW p w pr):MatW p w (Hf p c r pr m):=by
 intro x hx;unfold Hf at hx;obtain ⟨i,hi,rfl⟩:=List.mem_mapIdx.1 hx;split
 ·exact hpr
 ·exact Ai3 hp (h _ (List.getElem_mem hi)).1 hpr.1
theorem Axo {p:Int} {w c:Nat} {s:Nat×List (List Int)} (hp:2<=p) (h:MatW p w s.2) (hr:s.1<=s.2.length):MatW p w (gjS p c s).2/\(gjS p c s).1<=(gjS p c s).2.length/\(gjS p c s).2.length=s.2.length:=by
 unfold gjS;split
 ·rename_i h1;split
  ·exact ⟨h,hr,rfl⟩
  ·rename_i h2;have h3:=Sn (c:=c) hr;have hk:Dq s.2 c s.1<s.2.length:=by omega
   refine ⟨Avc hp (Z2 h h1 hk) (R6 hp (h _ (Id hk)).1),?_,?_⟩
   ·simp only [O8,Q6];omega
   ·simp only [O8,Q6]
 ·exact ⟨h,hr,rfl⟩
theorem L5 {p:Int} {w:Nat} {m:List (List Int)} (hp:2<=p) (h:MatW p w m):∀ c,MatW p w (gjT p m c).2/\(gjT p m c).1<=(gjT p m c).2.length/\(gjT p m c).2.length=m.length
 | 0=>⟨h,Nat.zero_le _,rfl⟩
 | c+1=>by
  obtain ⟨h1,h2,h3⟩:=L5 hp h c;obtain ⟨k1,k2,k3⟩:=Axo (c:=c) hp h1 h2;exact ⟨k1,k2,k3.trans h3⟩
theorem Adk {p:Int} {m:List (List Int)} {c:Nat} (h:¬ (gjT p m c).1<(gjT p m c).2.length):∀ d,c<=d->gjT p m d=gjT p m c
 | 0, h0 => by obtain rfl : c = 0 := by omega
               rfl
 | d+1,h0=>by
  by_cases e:c=d+1
  ·rw [e]
  ·have ih:=Adk h d oM;show gjS p d (gjT p m d)=_;rw [ih];unfold gjS;rw [if_neg h]
theorem Afp {p:Int} {n w:Nat} {m:List (List Int)} (hp:2<=p) (h:MatW p w m):(gj p n m).length=(gjT p m n).1:=by
 obtain ⟨_,h2,_⟩:=L5 hp h n;unfold gj;rw [List.length_take];omega
theorem R7 {p:Int} {n w:Nat} {m:List (List Int)} (hp:2<=p) (h:MatW p w m):MatW p w (gj p n m):=fun x hx=>(L5 hp h n).1 x (List.mem_of_mem_take hx)
end
section
def Awu (p a:Int):Bool:=match Nt p a with
 | some v=>(v==Oj p a)&&((Ld p a==some v)&&((decide (0<=v)&&decide (v<p))&&(a*v % p==1)))
 | none=>false
def ivB:Bool:=(List.range 98).all fun p=> !(isF p)||(List.range p).all fun a=>a==0||Awu (p:Int) (a:Int)
theorem Apg:ivB=true:=by kernel_rfl
theorem Ae5 {p a:Int} (hp:isF p=true) (ha:1<=a/\a<p):Nt p a=some (Oj p a)/\Ld p a=some (Oj p a)/\0<=Oj p a/\Oj p a<p/\a*Oj p a % p=1:=by
 have hb:=Cd hp;obtain ⟨q,rfl⟩:=Int.eq_ofNat_of_zero_le (show 0<=p by omega);obtain ⟨b,rfl⟩:=Int.eq_ofNat_of_zero_le (show 0<=a by omega);have h1:=List.all_eq_true.1 Apg q (List.mem_range.2 oM);rw [hp,Bool.not_true,Bool.false_or] at h1;have h2:=List.all_eq_true.1 h1 b (List.mem_range.2 oM)
 have h3:Awu (q:Int) (b:Int)=true:=by
  rcases (Bool.or_eq_true _ _).mp h2 with h|h
  ·have:b=0:=by simpa using h
   omega
  ·exact h
 unfold Awu at h3;split at h3
 ·rename_i v hv;simp only [Bool.and_eq_true,beq_iff_eq,decide_eq_true_eq] at h3;obtain ⟨h4,h5,⟨h6,h7⟩,h8⟩:=h3;subst h4;exact ⟨hv,h5,h6,h7,h8⟩
 ·cases h3
end
section
theorem As2 {p x y:Int} (hp:2<=p/\p<=97) (hx:0<=x/\x<p) (hy:0<=y/\y<p):Nq p x y=some ((x - y) % p):=by
 unfold Nq;rw [Af oM,A6 (n:=x+p) oM oM,A6 oM oM,Int.tmod_eq_emod_of_nonneg oM,show x+p - y=x - y+p by omega,Int.add_emod_right]
theorem Agi {ρ:Type} {body:Nat×List (List Int)->Option (Ctl (Nat×List (List Int)) ρ)} {M:List (List Int)} {r:Nat} {x y:List Int} {o:ρ} (hx:M[r]? =some x) (hl:y.length=x.length) (hb:x.length<4611686018427387904)
  (hs:∀ j (h:j<x.length) (z:List Int),z[j]? =some x[j]->body (j,M.set r z)=some (.next (j+1,M.set r (z.set j (y[j]'oM))))) (he:body (x.length,M.set r y)=some (.out o)) :
  Aq body 4611686018427387904 (0,M)=some o:=by
 refine A2 x.length (fun j=>(j,M.set r (y.take j++x.drop j))) hb _ ?_ (fun j hj=>?_) ?_
 ·obtain ⟨h1,h2⟩:=gSi.1 hx;simp only [List.take_zero,List.nil_append,List.drop_zero];rw [← h2,List.set_getElem_self]
 ·have h1:(y.take j).length=j:=by rw [List.length_take];omega
  rw [hs j hj _ (L9 hj h1),Lv hj h1,List.take_add_one,gEg oM];rfl
 ·rw [List.drop_length,List.append_nil,← hl,List.take_length,hl];exact he
theorem V1 {ρ:Type} {body:Nat×List Int->Option (Ctl (Nat×List Int) ρ)} {x y:List Int} {o:ρ} (hl:y.length=x.length) (hb:x.length<4611686018427387904)
  (hs:∀ j (h:j<x.length) (z:List Int),z[j]? =some x[j]->body (j,z)=some (.next (j+1,z.set j (y[j]'oM)))) (he:body (x.length,y)=some (.out o)) :
  Aq body 4611686018427387904 (0,x)=some o:=by
 refine A2 x.length (fun j=>(j,y.take j++x.drop j)) hb _ rfl (fun j hj=>?_) ?_
 ·have h1:(y.take j).length=j:=by rw [List.length_take];omega
  rw [hs j hj _ (L9 hj h1),Lv hj h1,List.take_add_one,gEg oM];rfl
 ·rw [List.drop_length,List.append_nil,← hl,List.take_length,hl];exact he
theorem Aud {ρ:Type} {body:Nat×List (List Int)->Option (Ctl (Nat×List (List Int)) ρ)} {M E:List (List Int)} {r:Nat} {pr:List Int} {o:ρ} (hl:E.length=M.length) (hM:M[r]? =some pr) (hE:E[r]? =some pr)
  (hb:M.length<4611686018427387904) (hs:∀ i (h:i<M.length) (s:List (List Int)),s.length=M.length->s[i]? =some M[i]->s[r]? =some pr->body (i,s)=some (.next (i+1,s.set i (E[i]'oM)))) (he:body (M.length,E)=some (.out o)) :
  Aq body 4611686018427387904 (0,M)=some o:=by
 refine A2 M.length (fun j=>(j,E.take j++M.drop j)) hb _ rfl (fun j hj=>?_) ?_
 ·have h1:(E.take j).length=j:=by rw [List.length_take];omega
  rw [hs j hj _ (by simp;omega) (L9 hj h1) ?_,Lv hj h1,List.take_add_one,gEg oM];rfl;by_cases h2:r<j
  ·rw [List.getElem?_append_left oM,List.getElem?_take,if_pos h2];exact hE
  ·rw [List.getElem?_append_right oM,h1,List.getElem?_drop,show j+(r - j)=r by omega];exact hM
 ·rw [List.drop_length,List.append_nil,← hl,List.take_length,hl];exact he
theorem S6 {α:Type} {m:List α} {i:Nat} {x z:α} (h:m[i]? =some x):(m.set i z)[i]? =some z:=by
 rw [List.getElem?_set_self (Ai h)]
theorem Oq {α:Type} {m:List α} {i:Nat} {x:α} (h:m[i]? =some x):m.set i x=m:=by
 obtain ⟨h1,h2⟩:=gSi.1 h;rw [← h2,List.set_getElem_self]
theorem Ak1 {α:Type} {m:List α} {i j:Nat} {z:α} (h:i≠j):(m.set i z)[j]? =m[j]?:=List.getElem?_set_ne h
theorem Aib {p k:Int} {x:List Int} {j:Nat} (h:j<(Eh p k x).length):(Eh p k x)[j]=x[j]'(by simpa [Eh] using h)*k % p:=by simp [Eh]
theorem Ahq {p f:Int} {x v:List Int} {j:Nat} (h:j<(De p f x v).length):(De p f x v)[j]=(x[j]'(by simp [De] at h;omega) - f*v[j]'(by simp [De] at h;omega)) % p:=by simp [De]
theorem Pd {p:Int} {c r:Nat} {pr:List Int} {m:List (List Int)} {i:Nat} (h:i<(Hf p c r pr m).length) :
  (Hf p c r pr m)[i]=if i=r then pr else De p ((m[i]'(by simpa [Hf] using h)).getD c 0) (m[i]'(by simpa [Hf] using h)) pr:=by simp [Hf]
theorem N3 {p:Int} {w j:Nat} {x:List Int} (hx:VecW p w x) (hj:j<x.length):0<=x[j]/\x[j]<p:=hx.2 _ (List.getElem_mem hj)
theorem Ct {p:Int} {w j:Nat} {x:List Int} (hx:VecW p w x) (hj:j<w):0<=x.getD j 0/\x.getD j 0<p/\x[j]? =some (x.getD j 0):=by
 have h:j<x.length:=by rw [hx.1];exact hj
 have e:x[j]? =some x[j]:=gEg h;rw [Be e];exact ⟨(N3 hx h).1,(N3 hx h).2,e⟩
theorem Au0 {p f a b:Int}:(a - f*b % p) % p=(a - f*b) % p:=by rw [Int.sub_emod_emod]
section
variable {p:Int} {w:Nat} {m:List (List Int)}
theorem An0 {r:Nat} {x:List Int} {k:Int} (hp:2<=p/\p<=97) (hx:VecW p w x) (hw:w<=100000) (hr:m[r]? =some x) (hk:0<=k/\k<p) :
  Aq (fun s_:Nat×List (List Int)=>Gj x r p k s_.1 s_.2) 4611686018427387904 (0,m)=some (m.set r (Eh p k x)):=by
 have hl:=hx.1;refine Agi hr (y:=Eh p k x) (by simp [Eh]) oM (fun j hj z hz=>?_) ?_
 ·have hv:=N3 hx hj
  try dsimp only
  unfold Gj;rw [Au oM,cond_true,S6 hr,obs,hz,obs,Al7 hp hv hk,obs,Af oM,List.set_set,Aib]
 ·try dsimp only
  unfold Gj;rw [At oM,cond_false]
theorem Arv {i r:Nat} {x v:List Int} {f:Int} (hp:2<=p/\p<=97) (hx:VecW p w x) (hv:VecW p w v) (hw:w<=100000) (hi:m[i]? =some x) (hr:m[r]? =some v) (hn:i≠r) (hf:0<=f/\f<p) :
  Aq (fun s_:Nat×List (List Int)=>Gf x i r p f s_.1 s_.2) 4611686018427387904 (0,m)=some (m.set i (De p f x v)):=by
 have hl:=hx.1;have hl':=hv.1;refine Agi hi (y:=De p f x v) (by simp [De];omega) oM (fun j hj z hz=>?_) ?_
 ·have h1:=N3 hx hj;have h2:=N3 hv (j:=j) oM
  try dsimp only
  unfold Gf
  rw [Au oM,cond_true,S6 hi,obs,hz,obs,Ak1 hn,hr,obs,gEg (show j<v.length by omega),obs,Al7 hp hf h2,obs,
   As2 hp h1 (Sm hp.1),obs,Af oM,List.set_set,Ahq,Au0]
 ·try dsimp only
  unfold Gf;rw [At oM,cond_false]
theorem Ai5 {c r:Nat} {pr:List Int} (h:r<m.length):(Hf p c r pr m)[r]? =some pr:=by
 rw [gEg (by rw [O8];exact h),Pd,if_pos rfl]
theorem Aqu {M0:List (List Int)} {c r:Nat} {pr:List Int} (hp:2<=p/\p<=97) (hm:MatW p w m) (hw:w<=100000) (hl:m.length<=100000) (hr:m[r]? =some pr) (hc:c<w) (h0:M0.length=m.length) :
  Aq (fun s_:Nat×List (List Int)=>Gu M0 r c p s_.1 s_.2) 4611686018427387904 (0,m)=some (Hf p c r pr m):=by
 refine Aud (E:=Hf p c r pr m) (O8 ..) hr (Ai5 (Ai hr)) oM (fun i hi s hs h1 h2=>?_) ?_
 ·have hx:=hm _ (List.getElem_mem hi);have hv:=hm _ (List.mem_of_getElem? hr);obtain ⟨g1,g2,g3⟩:=Ct hx hc;generalize hxe:m[i]=x at *
  try dsimp only
  unfold Gu;rw [Au oM,cond_true,Pd,hxe];by_cases hir:i=r
  ·subst hir;rw [if_pos rfl,show (((i:Nat):Int)==((i:Nat):Int))=true from beq_self_eq_true _,cond_true,obs,cond_true,obs,Af oM,Oq h2]
  ·rw [if_neg hir,show (((i:Nat):Int)==((r:Nat):Int))=false from by rw [beq_eq_false_iff_ne];omega,cond_false,h1,obs,g3,obs,obs];by_cases h0:x.getD c 0=0
   ·rw [h0,show ((0:Int)==0)=true from rfl,cond_true,obs,Af oM,W3 hx.2 (by rw [hx.1,hv.1];exact Nat.le_refl _),Oq h1]
   ·rw [show (x.getD c 0==0)=false from beq_eq_false_iff_ne.2 h0,cond_false,obs,g3,obs,Arv hp hx hv hw h1 h2 hir ⟨g1,g2⟩,obs,Af oM]
 ·try dsimp only
  unfold Gu;rw [At oM,cond_false]
theorem Amn {c r:Nat} {pr y:List Int}:Hf p c r pr (m.set r y)=Hf p c r pr m:=by
 apply List.ext_getElem
 ·rw [O8,O8,List.length_set]
 ·intro i h1 h2;rw [Pd,Pd];by_cases h:i=r
  ·rw [if_pos h,if_pos h]
  ·rw [if_neg h,if_neg h];simp only [List.getElem_set,if_neg (fun e=>h (Eq.symm e))]
theorem At4 {c r:Nat} (hm:MatW p w m) (hc:c<w) (hl:m.length<=100000) (hr:r<=m.length) :
  Aq (fun s_:Nat=>Ew m c s_) 4611686018427387904 r=some (Dq m c r):=by
 have hle:=Sn (c:=c) hr;refine A2 ((m.drop r).findIdx fun x=>x.getD c 0 !=0) (fun t=>r+t) (by unfold Dq at hle;omega) _ rfl (fun t ht=>?_) ?_
 ·have h1:r+t<Dq m c r:=by unfold Dq;omega
  have h0:=Aa1 (i:=r+t) oM h1 hr;obtain ⟨x,hx⟩:=J9 (show r+t<m.length by omega);obtain ⟨g1,g2,g3⟩:=Ct (hm _ (List.mem_of_getElem? hx)) hc;rw [Be hx] at h0
  try dsimp only
  unfold Ew;rw [Au oM,cond_true,hx,obs,g3,obs,obs,h0,show ((0:Int)==0)=true from rfl,cond_true,Af oM,Nat.add_assoc]
 ·show Ew m c (Dq m c r)=_;unfold Ew;by_cases h:Dq m c r=m.length
  ·rw [At oM,cond_false,obs,cond_false]
  ·have h0:=Aaj h hr;obtain ⟨x,hx⟩:=J9 (show Dq m c r<m.length by omega);obtain ⟨g1,g2,g3⟩:=Ct (hm _ (List.mem_of_getElem? hx)) hc;rw [Be hx] at h0;rw [Au oM,cond_true,hx,obs,g3,obs,obs,beq_eq_false_iff_ne.2 h0,cond_false]
theorem Ard {r k:Nat} (hr:r<m.length) (hk:k<m.length):(Lo m r k)[r]? =some (m.getD k []):=by
 unfold Lo;by_cases h:r=k
 ·subst h;rw [List.getElem?_set_self (by rw [List.length_set];exact hr)]
 ·rw [List.getElem?_set_ne (Ne.symm h),List.getElem?_set_self hr]
theorem Apf {n:Nat} (hp:isF p=true) (hm:MatW p w m) (hn:n<=w) (hw:w<=100000) (hl:m.length<=100000) :
  Aq (fun s_:Nat×Nat×List (List Int)=>Dk (n:Int) p s_.1 s_.2.1 s_.2.2) 4611686018427387904 (0,0,m)=some (gjT p m n):=by
 have hb:=Cd hp;refine Jr n (fun c s=>s=((gjT p m c).1,c,(gjT p m c).2)) oM _ rfl (fun c s hc hI=>?_) (fun s hI=>?_)
 ·subst hI;obtain ⟨hm',hr,hl'⟩:=L5 hb.1 hm c;by_cases hlt:(gjT p m c).1<(gjT p m c).2.length
  ·refine .inl ?_;refine ⟨_,?_,rfl⟩;show Dk _ _ _ _ _=some (Ctl.next ((gjS p c (gjT p m c)).1,c+1,(gjS p c (gjT p m c)).2));generalize gjT p m c=s at *;obtain ⟨r,M⟩:=s
   try dsimp only at *
   unfold Dk gjS;rw [Au oM,cond_true,obs,Au oM,cond_true,At4 hm' oM oM hr,obs,if_pos hlt];by_cases hk:Dq M c r=M.length
   ·rw [hk,beq_self_eq_true,cond_true,obs,if_pos rfl];exact Af oM _
   ·have hle:=Sn (c:=c) hr;have hkl:Dq M c r<M.length:=by omega
    rw [show (((Dq M c r:Nat):Int)==((M.length:Nat):Int))=false from by rw [beq_eq_false_iff_ne];omega,cond_false,if_neg hk];have hnz:=Aaj hk hr;obtain ⟨x,hx⟩:=J9 hlt;obtain ⟨y,hy⟩:=J9 hkl;have hyM:=hm' _ (List.mem_of_getElem? hy);obtain ⟨g1,g2,g3⟩:=Ct hyM (show c<w by omega);rw [Be hy] at hnz;obtain ⟨i1,_,i2,i3,_⟩:=Ae5 hp (a:=y.getD c 0) oM;have hs:=Ard hlt hkl;have hpm:=Z2 hm' hlt hkl;have hsl:=Q6 M r (Dq M c r);have hsw:(M.set r y).set (Dq M c r) x=Lo M r (Dq M c r):=by unfold Lo;rw [Be hx,Be hy]
    rw [hx,obs,hy,obs,hsw,Be hy];rw [Be hy] at hs;generalize Lo M r (Dq M c r)=W at *;have hpr:VecW p w (Eh p (Oj p (y.getD c 0)) y):=R6 hb.1 hyM.1
    rw [hs,obs,g3,obs,i1,obs,An0 hb hyM hw hs ⟨i2,i3⟩,obs,
     Aqu hb (w:=w) (m:=W.set r (Eh p (Oj p (y.getD c 0)) y)) (pr:=Eh p (Oj p (y.getD c 0)) y) (fun z hz=>?_) hw (by rw [List.length_set];omega) (S6 hs) oM rfl,obs,Af oM,obs,Amn]
    ·exact Af oM _
    ·rcases List.mem_or_eq_of_mem_set hz with hz|rfl
     ·exact hpm _ hz
     ·exact hpr
  ·refine .inr ?_;rw [Adk hlt n oM];generalize gjT p m c=s at *
   try dsimp only
   unfold Dk;rw [Au oM,cond_true,obs,At oM,cond_false]
 ·subst hI
  try dsimp only
  unfold Dk;rw [At oM,cond_false,obs,cond_false]
theorem Auh (hm:MatW p w m) (hw:w<=100000) (hl:m.length<=100000) :
  Aq (fun s_:Nat×List (List Int)=>Er m s_.1 s_.2) 4611686018427387904 (0,([]:List (List Int)))=some m:=by
 have h:=Du (body:=fun s_:Nat×List (List Int)=>Er m s_.1 s_.2) m id [] (F:=4611686018427387904) oM m (fun i x h=>?_) ?_
 ·simpa using h
 ·have:=Ai h;have hx:=(hm x (List.mem_of_getElem? h)).1
  try dsimp only
  unfold Er;rw [Au oM,cond_true,h,obs,Td _ oM,obs,Af (by simp;omega),Af oM];rfl
 ·try dsimp only
  unfold Er;rw [At oM,cond_false,List.map_id,List.nil_append]
theorem Qs {n:Nat} (hp:isF p=true) (hm:MatW p w m) (hn:n<=w) (hw:w<=100000) (hl:m.length<=100000):D2 p (n:Int) m=some (gj p n m):=by
 have hb:=Cd hp;obtain ⟨_,h2,h3⟩:=L5 hb.1 hm n;unfold D2;rw [Auh hm hw hl,obs,Apf hp hm hn hw hl,obs];exact Af oM _
end
end
section
theorem Ape {ρ:Type} {body:Nat×List (List Int)×List (List Int)->Option (Ctl (Nat×List (List Int)×List (List Int)) ρ)} {M E A B:List (List Int)} {r:Nat} {pr pa:List Int} {o:ρ}
  (hl:E.length=M.length) (hA:A.length=M.length) (hB:B.length=M.length) (hM:M[r]? =some pr) (hE:E[r]? =some pr) (hM':A[r]? =some pa) (hE':B[r]? =some pa) (hb:M.length<4611686018427387904)
  (hs:∀ i (h:i<M.length) (s t:List (List Int)),s.length=M.length->t.length=M.length->s[i]? =some M[i]->t[i]? =some (A[i]'oM)->s[r]? =some pr->t[r]? =some pa ->
   body (i,s,t)=some (.next (i+1,s.set i (E[i]'oM),t.set i (B[i]'oM)))) (he:body (M.length,E,B)=some (.out o)) :
  Aq body 4611686018427387904 (0,M,A)=some o:=by
 have hr:∀ {M E:List (List Int)} {pr:List Int} {j:Nat},(E.take j).length=j->M[r]? =some pr->E[r]? =some pr->(E.take j++M.drop j)[r]? =some pr:=by
  intro M E pr j h1 hM hE;by_cases h2:r<j
  ·rw [List.getElem?_append_left oM,List.getElem?_take,if_pos h2];exact hE
  ·rw [List.getElem?_append_right oM,h1,List.getElem?_drop,show j+(r - j)=r by omega];exact hM
 refine A2 M.length (fun j=>(j,E.take j++M.drop j,B.take j++A.drop j)) hb _ rfl (fun j hj=>?_) ?_
 ·have h1:(E.take j).length=j:=by rw [List.length_take];omega
  have h2:(B.take j).length=j:=by rw [List.length_take];omega
  rw [hs j hj _ _ (by simp;omega) (by simp;omega) (L9 hj h1) (L9 oM h2) (hr h1 hM hE) (hr h2 hM' hE'),Lv hj h1,Lv oM h2,List.take_add_one,gEg oM,List.take_add_one,gEg oM];rfl
 ·rw [List.drop_length,List.append_nil,← hl,List.take_length,hl,← hA,List.drop_length,List.append_nil,hA,← hB,List.take_length,hB];exact he
theorem VecW.tk {p:Int} {w u:Nat} {x:List Int} (h:VecW p w x) (hu:u<=w):VecW p u (x.take u):=⟨by rw [List.length_take,h.1];omega,fun a ha=>h.2 a (List.mem_of_mem_take ha)⟩
theorem VecW.dr {p:Int} {w u:Nat} {x:List Int} (h:VecW p w x):VecW p (w - u) (x.drop u):=⟨by rw [List.length_drop,h.1],fun a ha=>h.2 a (List.mem_of_mem_drop ha)⟩
theorem MatW.tk {p:Int} {w u:Nat} {m:List (List Int)} (h:MatW p w m) (hu:u<=w):MatW p u (m.map (·.take u)):=fun x hx=>by
 obtain ⟨y,hy,rfl⟩:=List.mem_map.1 hx;exact (h y hy).tk hu
theorem MatW.dr {p:Int} {w u:Nat} {m:List (List Int)} (h:MatW p w m):MatW p (w - u) (m.map (·.drop u)):=fun x hx=>by
 obtain ⟨y,hy,rfl⟩:=List.mem_map.1 hx;exact (h y hy).dr
section
variable {p:Int} {w:Nat} {m:List (List Int)}
theorem Aa2 {x v:List Int} {f:Int} (hp:2<=p/\p<=97) (hx:VecW p w x) (hv:VecW p w v) (hw:w<=100000) (hf:0<=f/\f<p) :
  Bv p x (wI (0 - f)) v=some (De p f x v):=by
 have hl:=hx.1;have hl':=hv.1;unfold Bv;refine V1 (y:=De p f x v) (by simp [De];omega) oM (fun j hj z hz=>?_) ?_
 ·have h1:=N3 hx hj;have h2:=N3 hv (j:=j) oM;have h3:=Aak hp hf h2;have e:(0 - f)*v[j]= -(f*v[j]):=by rw [Int.zero_sub,Int.neg_mul]
  try dsimp only
  unfold Cp;rw [Au oM,cond_true,gEg (show j<v.length by omega),obs,hz,obs,A6 (n:=0 - f) oM oM,e,A6 (n:= -(f*v[j])) oM oM,A6 oM oM,Ap3 hp,obs,Af oM,Ahq];rfl
 ·try dsimp only
  unfold Cp;rw [At oM,cond_false]
theorem Ail {r k:Nat} {x y:List Int} {b:Int} (hr:m[r]? =some x) (hk:m[k]? =some y):Bb 0 (r:Int) (k:Int) b p m=some (Lo m r k):=by
 unfold Bb Lo;rw [show ((0:Int)==0)=true from rfl,cond_true,Bt oM,Int.toNat_natCast,hk,obs,Bt oM,Int.toNat_natCast,hr,obs,Be hr,Be hk]
theorem Ahv {r:Nat} {x:List Int} {a b:Int} (hp:isF p=true) (hx:VecW p w x) (hw:w<=100000) (hr:m[r]? =some x) (ha:1<=a/\a<p) :
  Bb 1 (r:Int) b a p m=some (m.set r (Eh p (Oj p a) x)):=by
 obtain ⟨_,i1,i2,i3,_⟩:=Ae5 hp ha;have hb:=Cd hp;have hl:=hx.1;unfold Bb;rw [show ((1:Int)==0)=false from rfl,cond_false,show ((1:Int)==1)=true from rfl,cond_true,i1,obs,Bt oM,Int.toNat_natCast,hr,obs];refine Agi hr (y:=Eh p (Oj p a) x) (by simp [Eh]) oM (fun j hj z hz=>?_) ?_
 ·have hv:=N3 hx hj;have h3:=Aak hb hv ⟨i2,i3⟩
  try dsimp only
  unfold D3;rw [Au oM,cond_true,Bt oM,Int.toNat_natCast,S6 hr,obs,Af oM,hz,obs,Af oM,Af oM,List.set_set,Aib,A6 oM oM,Int.tmod_eq_emod_of_nonneg oM]
 ·try dsimp only
  unfold D3;rw [At oM,cond_false]
theorem Ajk {i r:Nat} {x v:List Int} {f:Int} (hp:2<=p/\p<=97) (hx:VecW p w x) (hv:VecW p w v) (hw:w<=100000) (hi:m[i]? =some x) (hr:m[r]? =some v) (hn:i≠r) (hf:0<=f/\f<p) :
  Bb 2 (i:Int) (r:Int) f p m=some (m.set i (De p f x v)):=by
 have hl:=hx.1;have hl':=hv.1;unfold Bb
 rw [show ((2:Int)==0)=false from rfl,cond_false,show ((2:Int)==1)=false from rfl,cond_false,show ((2:Int)==2)=true from rfl,cond_true,Bt oM,Int.toNat_natCast,hi,obs,Bt oM,Int.toNat_natCast,hr,obs,
  Af hn,Aa2 hp hx hv hw hf,obs,Af (by simp [De];omega)]
theorem Aji {r:Nat} (hr:r<m.length):Lo m r r=m:=by
 obtain ⟨x,hx⟩:=J9 hr;unfold Lo;rw [Be hx,List.set_set,Oq hx]
theorem Ate {A:List (List Int)} {r k:Nat} (hA:A.length=m.length) (hr:r<m.length) (hk:k<m.length):Bn 0 (r:Int) (k:Int) 0 p m A=some (Lo m r k,Lo A r k):=by
 unfold Bn;by_cases h:r=k
 ·subst h;rw [beq_self_eq_true,cond_true,Aji hr,Aji oM]
 ·obtain ⟨x,hx⟩:=J9 hr;obtain ⟨y,hy⟩:=J9 hk;obtain ⟨x',hx'⟩:=J9 (show r<A.length by omega);obtain ⟨y',hy'⟩:=J9 (show k<A.length by omega);rw [show ([(0:Int),(r:Int),(k:Int),0]==[0,(r:Int),(r:Int),0])=false from by rw [beq_eq_false_iff_ne];intro e;simp at e;omega,cond_false,Ail hx hy,obs,Af (Q6 ..),Ail hx' hy',obs,Af (Q6 ..)]
theorem Aul {A:List (List Int)} {w' r:Nat} {x y:List Int} {a:Int} (hp:isF p=true) (hx:VecW p w x) (hy:VecW p w' y) (hw:w<=100000) (hw':w'<=100000) (hr:m[r]? =some x) (hA:A[r]? =some y) (ha:1<=a/\a<p) :
  Bn 1 (r:Int) 0 a p m A=some (m.set r (Eh p (Oj p a) x),A.set r (Eh p (Oj p a) y)):=by
 unfold Bn;rw [show ([(1:Int),(r:Int),0,a]==[0,(r:Int),(r:Int),0])=false from by rw [beq_eq_false_iff_ne];intro e;simp at e,cond_false,Ahv hp hx hw hr ha,obs,Af (List.length_set ..),Ahv hp hy hw' hA ha,obs,Af (List.length_set ..)]
theorem Atq {A:List (List Int)} {w' i r:Nat} {x v y u:List Int} {f:Int} (hp:2<=p/\p<=97) (hx:VecW p w x) (hv:VecW p w v) (hy:VecW p w' y) (hu:VecW p w' u) (hw:w<=100000) (hw':w'<=100000)
  (hi:m[i]? =some x) (hr:m[r]? =some v) (hi':A[i]? =some y) (hr':A[r]? =some u) (hn:i≠r) (hf:0<=f/\f<p) :
  Bn 2 (i:Int) (r:Int) f p m A=some (m.set i (De p f x v),A.set i (De p f y u)):=by
 unfold Bn;rw [show ([(2:Int),(i:Int),(r:Int),f]==[0,(i:Int),(i:Int),0])=false from by rw [beq_eq_false_iff_ne];intro e;simp at e,cond_false,Ajk hp hx hv hw hi hr hn hf,obs,Af (List.length_set ..),Ajk hp hy hu hw' hi' hr' hn hf,obs,Af (List.length_set ..)]
def Wf (p:Int) (c r:Nat) (pa:List Int) (M A:List (List Int)):List (List Int):=A.mapIdx fun i x=>if i=r then pa else De p ((M.getD i []).getD c 0) x pa
theorem Sw {c r:Nat} {pa:List Int} {M A:List (List Int)} {i:Nat} (h:i<(Wf p c r pa M A).length) :
  (Wf p c r pa M A)[i]=if i=r then pa else De p ((M.getD i []).getD c 0) (A[i]'(by simpa [Wf] using h)) pa:=by simp [Wf]
theorem Aqk {M0:List (List Int)×List (List Int)} {A:List (List Int)} {w' c r:Nat} {pr pa:List Int} (hp:2<=p/\p<=97) (hm:MatW p w m) (hA:MatW p w' A) (hlA:A.length=m.length) (hw:w<=100000) (hw':w'<=100000) (hl:m.length<=100000)
  (hr:m[r]? =some pr) (hr':A[r]? =some pa) (hc:c<w) (h0:M0.1.length=m.length) :
  Aq (fun s_:Nat×List (List Int)×List (List Int)=>Fs M0 r c p s_.1 s_.2.1 s_.2.2) 4611686018427387904 (0,m,A)=some (Hf p c r pr m,Wf p c r pa m A):=by
 have hla:(Wf p c r pa m A).length=m.length:=by simp [Wf,hlA]
 have hr2:=Ai hr;refine Ape (E:=Hf p c r pr m) (B:=Wf p c r pa m A) (O8 ..) hlA hla hr (Ai5 hr2) hr' ?_ oM (fun i hi s t hs ht h1 k1 h2 k2=>?_) ?_
 ·rw [gEg oM,Sw,if_pos rfl]
 ·have hx:=hm _ (List.getElem_mem hi);have hy:=hA _ (List.getElem_mem (show i<A.length by omega));have hv:=hm _ (List.mem_of_getElem? hr);have hu:=hA _ (List.mem_of_getElem? hr');obtain ⟨g1,g2,g3⟩:=Ct hx hc;have hD:m.getD i []=m[i]:=Be (gEg hi)
  try dsimp only
  unfold Fs;rw [Au oM,cond_true,Pd,Sw,hD];generalize m[i]=x at *;generalize A[i]=y at *;by_cases hir:i=r
  ·subst hir;rw [if_pos rfl,if_pos rfl,show (((i:Nat):Int) !=((i:Nat):Int))=false from bne_self_eq_false _,cond_false,obs,cond_false,obs,Oq h2,Oq k2];exact Af oM _
  ·rw [if_neg hir,if_neg hir,show (((i:Nat):Int) !=((r:Nat):Int))=true from by rw [bne_iff_ne];omega,cond_true,h1,obs,g3,obs,obs];by_cases h0:x.getD c 0=0
   ·rw [h0,show ((0:Int) !=0)=false from rfl,cond_false,obs,W3 hx.2 (by rw [hx.1,hv.1];exact Nat.le_refl _),W3 hy.2 (by rw [hy.1,hu.1];exact Nat.le_refl _),Oq h1,Oq k1];exact Af oM _
   ·rw [show (x.getD c 0 !=0)=true from bne_iff_ne.2 h0,cond_true,obs,g3,obs,Atq hp hx hv hy hu hw hw' h1 h2 k1 k2 hir ⟨g1,g2⟩,obs,obs];exact Af oM _
 ·try dsimp only
  unfold Fs;rw [At oM,cond_false]
theorem Auj {c r:Nat} (hm:MatW p w m) (hc:c<w) (hl:m.length<=100000) (hr:r<=m.length) :
  Aq (fun s_:Nat=>D5 m c s_) 4611686018427387904 r=some (Dq m c r):=by
 have hle:=Sn (c:=c) hr;refine A2 ((m.drop r).findIdx fun x=>x.getD c 0 !=0) (fun t=>r+t) (by unfold Dq at hle;omega) _ rfl (fun t ht=>?_) ?_
 ·have h1:r+t<Dq m c r:=by unfold Dq;omega
  have h0:=Aa1 (i:=r+t) oM h1 hr;obtain ⟨x,hx⟩:=J9 (show r+t<m.length by omega);obtain ⟨g1,g2,g3⟩:=Ct (hm _ (List.mem_of_getElem? hx)) hc;rw [Be hx] at h0
  try dsimp only
  unfold D5;rw [Au oM,cond_true,hx,obs,g3,obs,obs,h0,show ((0:Int)==0)=true from rfl,cond_true,Af oM,Nat.add_assoc]
 ·show D5 m c (Dq m c r)=_;unfold D5;by_cases h:Dq m c r=m.length
  ·rw [At oM,cond_false,obs,cond_false]
  ·have h0:=Aaj h hr;obtain ⟨x,hx⟩:=J9 (show Dq m c r<m.length by omega);obtain ⟨g1,g2,g3⟩:=Ct (hm _ (List.mem_of_getElem? hx)) hc;rw [Be hx] at h0;rw [Au oM,cond_true,hx,obs,g3,obs,obs,beq_eq_false_iff_ne.2 h0,cond_false]
theorem Tc {x:List Int} {u c:Nat} (h:c<u):(x.take u).getD c 0=x.getD c 0:=by
 rw [gDg,List.getElem?_take,if_pos h,gDg]
theorem Apo {u c r:Nat} (h:c<u):Dq (m.map (·.take u)) c r=Dq m c r:=by
 unfold Dq;rw [← List.map_drop,List.findIdx_map];congr 2;funext x;exact congrArg (· !=0) (Tc h)
theorem Sp {f:List Int->List Int} (hf:f []=[]) {i:Nat}:(m.map f).getD i []=f (m.getD i []):=by
 rw [gDg,List.getElem?_map,gDg];cases m[i]? with
 | none=>exact hf.symm
 | some x=>rfl
theorem Amx {f:List Int->List Int} (hf:f []=[]) {r k:Nat}:(Lo m r k).map f=Lo (m.map f) r k:=by
 unfold Lo;rw [List.map_set,List.map_set,Sp hf,Sp hf]
theorem Aom {k:Int} {x:List Int} {u:Nat}:(Eh p k x).take u=Eh p k (x.take u):=by simp [Eh,List.map_take]
theorem Aoj {k:Int} {x:List Int} {u:Nat}:(Eh p k x).drop u=Eh p k (x.drop u):=by simp [Eh,List.map_drop]
theorem Anv {k:Int} {x v:List Int} {u:Nat}:(De p k x v).take u=De p k (x.take u) (v.take u):=by simp [De,List.take_zipWith]
theorem Anm {k:Int} {x v:List Int} {u:Nat}:(De p k x v).drop u=De p k (x.drop u) (v.drop u):=by simp [De,List.drop_zipWith]
theorem Arl {c r u:Nat} {pr:List Int} (h:c<u):(Hf p c r pr m).map (·.take u)=Hf p c r (pr.take u) (m.map (·.take u)):=by
 apply List.ext_getElem
 ·simp [Hf]
 ·intro i h1 h2;rw [List.getElem_map,Pd,Pd,List.getElem_map,Tc h];split
  ·rfl
  ·exact Anv
theorem Arx {c r u:Nat} {pr:List Int} (h:c<u):(Hf p c r pr m).map (·.drop u)=Wf p c r (pr.drop u) (m.map (·.take u)) (m.map (·.drop u)):=by
 apply List.ext_getElem
 ·simp [Hf,Wf]
 ·intro i h1 h2;rw [List.getElem_map,Pd,Sw,List.getElem_map,Sp (f:=(·.take u)) List.take_nil,Tc h,show m.getD i []=m[i]'(by simpa [Hf] using h1) from Be (gEg (by simpa [Hf] using h1))];split
  ·rfl
  ·exact Anm
theorem Ar4 {c r:Nat} {pa y z:List Int} {M A:List (List Int)}:Wf p c r pa (M.set r z) (A.set r y)=Wf p c r pa M A:=by
 apply List.ext_getElem
 ·simp [Wf]
 ·intro i h1 h2;rw [Sw,Sw];by_cases h:i=r
  ·rw [if_pos h,if_pos h]
  ·rw [if_neg h,if_neg h];simp only [List.getElem_set,if_neg (fun e=>h (Eq.symm e)),gDg,List.getElem?_set_ne (Ne.symm h)]
def rdW (u:Nat) (W:List (List Int)):List (List Int):=W.map (·.take u)
def alW (u:Nat) (W:List (List Int)):List (List Int):=W.map (·.drop u)
theorem Arm {n u:Nat} (hp:isF p=true) (hm:MatW p w m) (hn:n<=u) (hu:u<=w) (hw:w<=100000) (hl:m.length<=100000) :
  Aq (fun s_:Nat×Nat×List (List Int)×List (List Int)=>C8 (n:Int) p s_.1 s_.2.1 s_.2.2.1 s_.2.2.2) 4611686018427387904 (0,0,rdW u m,alW u m)=some ((gjT p m n).1,rdW u (gjT p m n).2,alW u (gjT p m n).2):=by
 have hb:=Cd hp;refine Jr n (fun c s=>s=((gjT p m c).1,c,rdW u (gjT p m c).2,alW u (gjT p m c).2)) oM _ rfl (fun c s hc hI=>?_) (fun s hI=>?_)
 ·subst hI;obtain ⟨hm',hr,hl'⟩:=L5 hb.1 hm c;have hlr:(rdW u (gjT p m c).2).length=(gjT p m c).2.length:=List.length_map ..;have hla:(alW u (gjT p m c).2).length=(gjT p m c).2.length:=List.length_map ..;by_cases hlt:(gjT p m c).1<(gjT p m c).2.length
  ·refine .inl ?_;refine ⟨_,?_,rfl⟩;show C8 _ _ _ _ _ _=some (Ctl.next ((gjS p c (gjT p m c)).1,c+1,rdW u (gjS p c (gjT p m c)).2,alW u (gjS p c (gjT p m c)).2));generalize gjT p m c=s at *;obtain ⟨r,M⟩:=s
   try dsimp only at *
   have hR:MatW p u (rdW u M):=hm'.tk hu;have hA:MatW p (w - u) (alW u M):=hm'.dr;have hpv:Dq (rdW u M) c r=Dq M c r:=Apo oM;unfold C8 gjS;rw [Au oM,cond_true,obs,Au oM,cond_true,Auj hR oM oM oM,obs,if_pos hlt,hlr,hpv];by_cases hk:Dq M c r=M.length
   ·rw [hk,beq_self_eq_true,cond_true,obs,if_pos rfl];exact Af oM _
   ·have hle:=Sn (c:=c) hr;have hkl:Dq M c r<M.length:=by omega
    rw [show (((Dq M c r:Nat):Int)==((M.length:Nat):Int))=false from by rw [beq_eq_false_iff_ne];omega,cond_false,if_neg hk];have hnz:=Aaj hk hr;obtain ⟨y,hy⟩:=J9 hkl;have hyM:=hm' _ (List.mem_of_getElem? hy);obtain ⟨g1,g2,_⟩:=Ct hyM (show c<w by omega);rw [Be hy] at hnz;have hs:=Ard hlt hkl;rw [Be hy] at hs;have hpm:=Z2 hm' hlt hkl;have hsl:=Q6 M r (Dq M c r);have e1:Lo (rdW u M) r (Dq M c r)=rdW u (Lo M r (Dq M c r)):=(Amx List.take_nil).symm;have e2:Lo (alW u M) r (Dq M c r)=alW u (Lo M r (Dq M c r)):=(Amx List.drop_nil).symm;rw [Ate oM oM oM,obs,e1,e2,Be hy];generalize Lo M r (Dq M c r)=W at *;have hs1:(rdW u W)[r]? =some (y.take u):=by simp [rdW,hs]
    have hs2:(alW u W)[r]? =some (y.drop u):=by simp [alW,hs]
    have g4:(y.take u)[c]? =some (y.getD c 0):=by rw [(Ct (hyM.tk hu) (show c<u by omega)).2.2,Tc oM]
    have q1:VecW p u (Eh p (Oj p (y.getD c 0)) (y.take u)):=R6 hb.1 (hyM.tk hu).1;have q2:VecW p (w - u) (Eh p (Oj p (y.getD c 0)) (y.drop u)):=R6 hb.1 hyM.dr.1;have l1:(rdW u W).length=W.length:=List.length_map ..;have l2:(alW u W).length=W.length:=List.length_map ..
    try dsimp only
    rw [hs1,obs,g4,obs,Aul hp (hyM.tk hu) hyM.dr oM oM hs1 hs2 oM,obs]
    try dsimp only
    rw [Aqk hb (w:=u) (w':=w - u) (pr:=Eh p (Oj p (y.getD c 0)) (y.take u)) (pa:=Eh p (Oj p (y.getD c 0)) (y.drop u)) (fun z hz=>?_) (fun z hz=>?_) (by simp only [List.length_set];omega) oM oM (by simp only [List.length_set];omega) (S6 hs1) (S6 hs2) oM rfl,obs]
    ·have e3:rdW u (Hf p c r (prV p c y) W)=Hf p c r (Eh p (Oj p (y.getD c 0)) (y.take u)) (rdW u W):=by
      unfold rdW prV;rw [Arl oM,Aom]
     have e4:alW u (Hf p c r (prV p c y) W)=Wf p c r (Eh p (Oj p (y.getD c 0)) (y.drop u)) (rdW u W) (alW u W):=by
      unfold rdW alW prV;rw [Arx oM,Aoj]
     try dsimp only
     rw [Af oM,obs,Amn,Ar4,e3,e4];exact Af oM _
    ·rcases List.mem_or_eq_of_mem_set hz with hz|rfl
     ·exact hpm.tk hu _ hz
     ·exact q1
    ·rcases List.mem_or_eq_of_mem_set hz with hz|rfl
     ·exact hpm.dr _ hz
     ·exact q2
  ·refine .inr ?_;rw [Adk hlt n oM];generalize gjT p m c=s at *
   try dsimp only
   unfold C8;rw [Au oM,cond_true,obs,hlr,At oM,cond_false]
 ·subst hI
  try dsimp only
  unfold C8;rw [At oM,cond_false,obs,cond_false]
theorem X1 {n u:Nat} (hp:isF p=true) (hm:MatW p w m) (hn:n<=u) (hu:u<=w) (hw:w<=100000) (hl:m.length<=100000):F8 p (rdW u m) (n:Int) (alW u m)=some (rdW u (gjT p m n).2,alW u (gjT p m n).2,(gjT p m n).1):=by
 unfold F8;rw [Arm hp hm hn hu hw hl,obs]
theorem Ahn (hm:MatW p w m) (hw:w<=100000) (hl:m.length<=100000):Jj m=some m:=by
 unfold Jj;have h:=Du (body:=fun s_:Nat×List (List Int)=>Fz m s_.1 s_.2) m id [] (F:=4611686018427387904) oM m (fun i x h=>?_) ?_
 ·rw [Af oM,show List.replicate 0 ([]:List Int)=[] from rfl,show Aq (fun s_:Nat×List (List Int)=>Fz m s_.1 s_.2) 4611686018427387904 (0,[])=some m by simpa using h];rfl
 ·have:=Ai h;have hx:=(hm x (List.mem_of_getElem? h)).1
  try dsimp only
  unfold Fz;rw [Au oM,cond_true,h,obs,Am5 _ oM,obs,Af (by simp;omega),Af oM];rfl
 ·try dsimp only
  unfold Fz;rw [At oM,cond_false,List.map_id,List.nil_append]
end
end
section
def Vp (p n:Int) (b:List (List Int)):Bool:=b.all fun x=>((x.length:Nat):Int)==n&&x.all fun a=>inR a 0 (p - 1)
theorem Gw {a lo hi:Int}:inR a lo hi=true↔lo<=a/\a<=hi:=by simp [inR]
theorem Wq {p:Int} {n:Nat} {b:List (List Int)} (h:Vp p n b=true):MatW p n b:=by
 intro x hx;have h1:=List.all_eq_true.1 h x hx;simp only [Bool.and_eq_true,beq_iff_eq,List.all_eq_true,Gw] at h1;exact ⟨by omega,fun a ha=>by have:=h1.2 a ha;omega⟩
theorem Aph (p n:Int) (b:List (List Int)) (hp:2<=p/\p<=97) (hb:b.length<=1048576) (hr:Gc 1048576 b):Mk p n b=some (Vp p n b):=by
 unfold Mk;rw [Hc b (fun x=>((x.length:Nat):Int)==n&&x.all fun a=>inR a 0 (p - 1)) (.next ()) (.out false) oM (fun i x h=>?_) ?_,Nr];rfl
 ·unfold L7;rw [At oM,cond_false]
 ·have:=Ai h;have hx:=hr x (List.mem_of_getElem? h);unfold L7;rw [Au oM,cond_true,h,obs];cases hc:((x.length:Nat):Int)==n
  ·rw [show (((x.length:Nat):Int) !=n)=true by simp only [bne,hc,Bool.not_false],cond_true,obs,cond_true,Bool.false_and];rfl
  ·rw [show (((x.length:Nat):Int) !=n)=false by simp only [bne,hc,Bool.not_true],cond_false,Awb p x hp oM,obs,obs,Bool.true_and,Af oM];cases x.all fun a=>inR a 0 (p - 1) <;> rfl
theorem Af4 (p n:Int) (b:List (List Int)) (hb:b.length<=1048576) (hr:Gc 1048576 b):Hk p b n=some (Vp p n b):=by
 unfold Hk;rw [Hc b (fun x=>((x.length:Nat):Int)==n&&x.all fun a=>inR a 0 (p - 1)) (.next ()) (.out false) oM (fun i x h=>?_) ?_,Nr];rfl
 ·unfold H9;rw [At oM,cond_false]
 ·have:=Ai h;have hx:=hr x (List.mem_of_getElem? h);unfold H9;rw [Au oM,cond_true,h,obs,All p x n oM,obs,Af oM];cases ((x.length:Nat):Int)==n&&x.all fun a=>inR a 0 (p - 1) <;> rfl
theorem Aie (x y:List Int) (hx:x.length<=1048576):Js x y=some (x==y):=by
 unfold Js;by_cases h:x.length=y.length
 ·rw [show (((x.length:Nat):Int) !=((y.length:Nat):Int))=false by rw [h];exact bne_self_eq_false _,cond_false]
  have key:Aq (fun s_:Nat=>Iw x y s_) 4611686018427387904 0=some (if x==y then .next () else .out false):=by
   refine Jr x.length (fun i s=>s=i/\x.take i=y.take i) oM _ ⟨rfl,by simp⟩ ?_ ?_
   ·rintro i s hi ⟨hsi,ht⟩;subst hsi;unfold Iw;rw [Au oM,cond_true,gEg hi,obs,gEg (show s<y.length by omega),obs];by_cases he:x[s]=y[s]'oM
    ·refine .inl ⟨s+1,?_,rfl,?_⟩
     ·rw [show (x[s] !=y[s]'oM)=false by rw [he];exact bne_self_eq_false _,cond_false,Af oM]
     ·rw [List.take_add_one,List.take_add_one,ht,gEg hi,gEg (show s<y.length by omega),he]
    ·refine .inr ?_;rw [bne_iff_ne.2 he,cond_true,show (x==y)=false from by rw [beq_eq_false_iff_ne];intro e;subst e;exact he rfl];rfl
   ·rintro s ⟨hs,ht⟩;subst hs;rw [List.take_length,h,List.take_length] at ht;subst ht;unfold Iw;rw [At oM,cond_false,beq_self_eq_true];rfl
  rw [key];cases x==y <;> rfl
 ·rw [show (((x.length:Nat):Int) !=((y.length:Nat):Int))=true by rw [bne_iff_ne];omega,cond_true,show (x==y)=false from by rw [beq_eq_false_iff_ne];intro e;subst e;exact h rfl]
theorem Apl (x y:List (List Int)) (hx:x.length<=1048576) (hr:Gc 1048576 x):Mj x y=some (x==y):=by
 unfold Mj;by_cases h:x.length=y.length
 ·rw [show (((x.length:Nat):Int) !=((y.length:Nat):Int))=false by rw [h];exact bne_self_eq_false _,cond_false]
  have key:Aq (fun s_:Nat=>I5 x y s_) 4611686018427387904 0=some (if x==y then .next () else .out false):=by
   refine Jr x.length (fun i s=>s=i/\x.take i=y.take i) oM _ ⟨rfl,by simp⟩ ?_ ?_
   ·rintro i s hi ⟨hsi,ht⟩;subst hsi;unfold I5;rw [Au oM,cond_true,gEg hi,obs,gEg (show s<y.length by omega),obs,Aie _ _ (hr _ (List.getElem_mem hi)),obs];by_cases he:x[s]=y[s]'oM
    ·refine .inl ⟨s+1,?_,rfl,?_⟩
     ·rw [show (x[s]==y[s]'oM)=true by rw [he];exact beq_self_eq_true _,Bool.not_true,cond_false,Af oM]
     ·rw [List.take_add_one,List.take_add_one,ht,gEg hi,gEg (show s<y.length by omega),he]
    ·refine .inr ?_;rw [beq_eq_false_iff_ne.2 he,Bool.not_false,cond_true,show (x==y)=false from by rw [beq_eq_false_iff_ne];intro e;subst e;exact he rfl];rfl
   ·rintro s ⟨hs,ht⟩;subst hs;rw [List.take_length,h,List.take_length] at ht;subst ht;unfold I5;rw [At oM,cond_false,beq_self_eq_true];rfl
  rw [key];cases x==y <;> rfl
 ·rw [show (((x.length:Nat):Int) !=((y.length:Nat):Int))=true by rw [bne_iff_ne];omega,cond_true,show (x==y)=false from by rw [beq_eq_false_iff_ne];intro e;subst e;exact h rfl]
theorem W9 {p:Int} {w:Nat} {m:List (List Int)} (hp:isF p=true) (hm:MatW p w m) (hw:w<=100000) (hl:m.length<=100000):Ep p m (w:Int)=some (gj p w m):=by
 have hb:=Cd hp;obtain ⟨k1,h2,h3⟩:=L5 hb.1 hm w
 have e1:∀ {m:List (List Int)},MatW p w m->rdW w m=m:=fun {m} hm=>by
  unfold rdW;exact (List.map_congr_left (g:=id) (fun x hx=>List.take_of_length_le (Nat.le_of_eq (hm x hx).1))).trans (List.map_id _)
 have e2:alW w m=List.replicate m.length []:=by
  unfold alW;rw [List.eq_replicate_iff];refine ⟨List.length_map ..,fun b hb=>?_⟩;obtain ⟨x,hx,rfl⟩:=List.mem_map.1 hb;exact List.drop_of_length_le (Nat.le_of_eq (hm x hx).1)
 have e3:(alW w (gjT p m w).2).length=m.length:=by rw [← h3];exact List.length_map ..
 have hR:=X1 hp hm (Nat.le_refl w) (Nat.le_refl w) hw hl;rw [e1 hm,e2] at hR;unfold Ep;rw [Ahn hm hw hl,obs,Af oM,hR,obs];rw [e1 k1];rw [Af h3,Af e3];exact Af (by dsimp only;omega) _
theorem Avu (x:List Int):Q5 x=some (x.take 48++(List.replicate 48 0).drop (x.take 48).length):=rfl
theorem Al6 (x:List Int):(x.take 48++(List.replicate 48 (0:Int)).drop (x.take 48).length).length=48:=by simp;omega
theorem At9 {x y:List Int} {n:Nat} (hx:x.length=n) (hy:y.length=n) (hn:n<=48) (h:x.take 48++(List.replicate 48 (0:Int)).drop (x.take 48).length=y.take 48++(List.replicate 48 (0:Int)).drop (y.take 48).length):x=y:=by
 rw [List.take_of_length_le oM,List.take_of_length_le (show y.length<=48 by omega)] at h;exact (List.append_inj h oM).1
theorem Ah0 {p:Int} {n:Nat} (b:List (List Int)) (hp:isF p=true) (hn:n<=48) (hb:b.length<=1048576) (hr:Gc 1048576 b) :
  Ig p b (n:Int)=some (decide (((b.length:Nat):Int)<=n)&&(Vp p n b&&gj p n b==b)):=by
 unfold Ig;by_cases h1:(n:Int)<b.length
 ·rw [Au h1,cond_true,obs,cond_true,At oM,Bool.false_and]
 rw [At h1,cond_false,Au (show ((b.length:Nat):Int)<=n by omega),Bool.true_and,Af4 p n b hb hr,obs,obs];cases hv:Vp p n b
 ·rw [Bool.not_false,cond_true,Bool.false_and]
 have hm:=Wq hv;have hp2:=Cd hp;have hl:=(L5 hp2.1 hm n).2;have hgl:=Afp (n:=n) hp2.1 hm;have hgm:=R7 (n:=n) hp2.1 hm;rw [Bool.not_true,cond_false,W9 hp hm oM oM,obs,obs,Bool.true_and]
 have key:Aq (fun s_:Nat=>Fu (gj p n b) b s_) 4611686018427387904 0=some (if gj p n b==b.take (gj p n b).length then .next () else .out false):=by
  generalize gj p n b=x at *;refine Jr x.length (fun i s=>s=i/\x.take i=b.take i) oM _ ⟨rfl,by simp⟩ ?_ ?_
  ·rintro i s hi ⟨hsi,ht⟩;subst hsi;have hs:s<b.length:=by omega
   unfold Fu;rw [Au oM,cond_true,gEg hi,obs,Avu,obs,gEg hs,obs,Avu,obs,Af ⟨Al6 _,Al6 _⟩];by_cases he:x[s]=b[s]
   ·refine .inl ⟨s+1,?_,rfl,?_⟩
    ·rw [he,beq_self_eq_true,Bool.not_true,cond_false,Af oM]
    ·rw [List.take_add_one,List.take_add_one,ht,gEg hi,gEg hs,he]
   ·refine .inr ?_;rw [beq_eq_false_iff_ne.2 (fun e=>he (At9 (hgm _ (List.getElem_mem hi)).1 (hm _ (List.getElem_mem hs)).1 hn e)),Bool.not_false,cond_true,show (x==b.take x.length)=false from ?_]
    ·rfl
    ·rw [beq_eq_false_iff_ne];intro e;refine he ?_;have e2:=congrArg (fun l=>l[s]?) e;simp only [List.getElem?_take,if_pos hi,gEg hi,gEg hs,Option.some.injEq] at e2;exact e2
  ·rintro s ⟨hs,ht⟩;subst hs;rw [List.take_length] at ht;unfold Fu;rw [At oM,cond_false,← ht,beq_self_eq_true];rfl
 rw [key];by_cases he:gj p n b=b.take (gj p n b).length
 ·rw [show (gj p n b==b.take (gj p n b).length)=true from beq_iff_eq.2 he];show some _=_;congr 1;by_cases hll:(gj p n b).length=b.length
  ·rw [hll,List.take_length] at he;rw [he,beq_self_eq_true,beq_self_eq_true]
  ·rw [show (gj p n b==b)=false from by rw [beq_eq_false_iff_ne];exact fun e=>hll (congrArg List.length e),beq_eq_false_iff_ne];omega
 ·rw [beq_eq_false_iff_ne.2 he,show (gj p n b==b)=false from ?_]
  ·rfl
  ·rw [beq_eq_false_iff_ne];intro e;exact he (by rw [e,List.take_length])
def Ms (p l r:Int) (b:List (List Int)):Bool:=isF p&&(inR l 0 24&&(inR r 0 (24 - l)&&(decide (((b.length:Nat):Int)<=l+r)&&(Vp p (l+r) b&&gj p (l+r).toNat b==b))))
theorem Aap (p l r:Int) (b:List (List Int)) (hb:b.length<=1048576) (hr:Gc 1048576 b):Me p l r b=some (Ms p l r b):=by
 unfold Me Ms;rw [Pk,obs];cases h1:inR l 0 24
 ·rw [Bool.false_and,Bool.and_false];rfl
 have h1':=Gw.1 h1;rw [cond_true,A6 (n:=24 - l) oM oM,Pk,obs];cases h2:inR r 0 (24 - l)
 ·rw [Bool.false_and,Bool.and_false,Bool.and_false];rfl
 have h2':=Gw.1 h2;rw [cond_true,A6 oM oM];unfold P4;rw [Wd,obs];cases hp:isF p
 ·rfl
 rw [cond_true,Pk,obs,Gw.2 (show 0<=l+r/\l+r<=24 by omega),cond_true];by_cases h3:((b.length:Nat):Int)<=l+r
 ·obtain ⟨n,hn⟩:=Int.eq_ofNat_of_zero_le (show 0<=l+r by omega);rw [Au h3,cond_true,hn,Aph p n b (Cd hp) hb hr,obs];cases hv:Vp p (n:Int) b
  ·rfl
  have hm:=Wq hv;have hgl:=Afp (n:=n) (Cd hp).1 hm;have hgm:=R7 (n:=n) (Cd hp).1 hm;have hl:=(L5 (Cd hp).1 hm n).2;rw [cond_true,Qs hp hm (Nat.le_refl n) oM oM,obs,Apl _ _ oM (fun x hx=>by rw [(hgm x hx).1];omega),obs];rfl
 ·rw [At h3];rfl
theorem Agk (p l r:Int) (b:List (List Int)) (hb:b.length<=1048576) (hr:Gc 1048576 b):Hr p l r b=some (Ms p l r b):=by
 unfold Hr Ms;rw [show H7 p=some (isF p) from rfl,obs];cases hp:isF p
 ·rfl
 rw [cond_true,Bool.true_and]
 have hf:O1 l r=some (inR l 0 24&&inR r 0 (24 - l)):=by
  unfold O1;rw [N2,obs];cases h1:inR l 0 24
  ·rfl
  have h1':=Gw.1 h1;rw [cond_true,N2,obs,Bool.true_and];by_cases h2:0<=r/\r<=24
  ·rw [Gw.2 h2,cond_true,obs,A6 oM oM];congr 1;rw [Bool.eq_iff_iff,Gw];simp only [decide_eq_true_eq];omega
  ·rw [show inR r 0 24=false from by rw [Bool.eq_false_iff];exact fun h=>h2 (Gw.1 h),cond_false,obs];congr 1;symm;rw [Bool.eq_false_iff];intro h;have:=Gw.1 h;exact h2 oM
 rw [hf,obs];cases h1:inR l 0 24
 ·rfl
 have h1':=Gw.1 h1;cases h2:inR r 0 (24 - l)
 ·rfl
 have h2':=Gw.1 h2;obtain ⟨n,hn⟩:=Int.eq_ofNat_of_zero_le (show 0<=l+r by omega);rw [Bool.true_and,cond_true,A6 oM oM,hn,Ah0 b hp oM hb hr];rfl
structure Avn (p l r:Int) (b:List (List Int)):Prop where
 fp:isF p=true
 hl:0<=l
 hr:0<=r
 hs:l+r<=24
 lb:((b.length:Nat):Int)<=l+r
 mb:MatW p (l+r).toNat b
 rb:gj p (l+r).toNat b=b
theorem Aeh {p l r:Int} {b:List (List Int)} (h:Ms p l r b=true):Avn p l r b:=by
 unfold Ms at h;simp only [Bool.and_eq_true,Gw,decide_eq_true_eq,beq_iff_eq] at h;obtain ⟨h1,h2,h3,h4,h5,h6⟩:=h;refine ⟨h1,h2.1,h3.1,by omega,h4,?_,h6⟩;obtain ⟨n,hn⟩:=Int.eq_ofNat_of_zero_le (show 0<=l+r by omega);rw [hn] at h5 ⊢;exact Wq h5
theorem Afn (l r:Int) (b:List (List Int)) {v:Int} (hv:0<=v/\v<=1048576) (hn:b.length<=9223372036854775807) (hb:Gc 9223372036854775807 b):Hm l r b v=some (szW v b):=by
 unfold Hm;rw [Anz b hv hn hb,obs];by_cases h:szW v b<0
 ·rw [Au h,cond_true];congr 1;unfold szW at h ⊢;split at h <;> rename_i h'
  ·rw [if_pos h']
  ·omega
 ·rw [At h,cond_false]
theorem Af8 (l r:Int) (b:List (List Int)) (hn:b.length<=1048576) (hb:Gc 1048576 b):Hs l r b=some b:=by
 unfold Hs;rw [Ao3 b hn hb,obs]
theorem Af2 (l r:Int) (b:List (List Int)) (hn:b.length<=1048576) (hb:Gc 1048576 b):Hl l r b l r b=some true:=by
 unfold Hl;rw [bne_self_eq_false,cond_false,bne_self_eq_false,cond_false,Aol b hn hb,obs,Bool.not_true,cond_false]
end
section
def Pc (p:Int) (xs:List Nd):Bool:=xs.all fun n=> !((n.1==7||n.1==13)&&decide (p<=n.2.1))
def Zc (xs:List Nd):Bool:=xs.all fun n=> !(n.1==8||n.1==14)
theorem Ar0 (xs:List Nd) (p:Int) (hx:xs.length<=1073741824):Gt xs p=some (isF p&&((tyV xs).isSome&&Pc p xs)):=by
 unfold Gt Ja;obtain ⟨r,hr,hm⟩:=Ang xs;rw [show H7 p=some (isF p) from rfl,obs,hr];cases hp:isF p
 ·rfl
 have e:r.2.2=(tyV xs).isSome:=by
  cases ht:tyV xs with
  | none=>rw [ht] at hm;exact hm
  | some w=>rw [ht] at hm;dsimp only at hm;rw [hm];rfl
 rw [Bool.not_true,cond_false,obs,obs,obs,e,Bool.true_and];cases (tyV xs).isSome
 ·rfl
 rw [Bool.not_true,cond_false,Bool.true_and]
 have key:Aq (fun s_:Nat=>E0 xs p s_) 4611686018427387904 0=some (if Pc p xs then Ctl.next () else Ctl.out false):=by
  refine Hc xs (fun n=> !((n.1==7||n.1==13)&&decide (p<=n.2.1))) (Ctl.next ()) (Ctl.out false) oM (fun i n h=>?_) ?_
  ·have:=Ai h;unfold E0 G2;rw [Au oM,cond_true,h,obs,Af oM];cases n.1==7 <;> cases n.1==13 <;> cases decide (p<=n.2.1) <;> rfl
  ·unfold E0;rw [At oM,cond_false]
 rw [key,Nr]
theorem Ali (xs:List Nd) (p:Int) (hx:xs.length<=1073741824):E9 xs p=some ((isF p&&((tyV xs).isSome&&Pc p xs))&&Zc xs):=by
 unfold E9;rw [Ar0 xs p hx,obs];cases isF p&&((tyV xs).isSome&&Pc p xs)
 ·rfl
 rw [Bool.not_true,cond_false,Bool.true_and]
 have key:Aq (fun s_:Nat=>Dy xs s_) 4611686018427387904 0=some (if Zc xs then Ctl.next () else Ctl.out false):=by
  refine Hc xs (fun n=> !(n.1==8||n.1==14)) (Ctl.next ()) (Ctl.out false) oM (fun i n h=>?_) ?_
  ·have:=Ai h;unfold Dy Nz;rw [Au oM,cond_true,h,obs,Af oM];cases n.1==8 <;> cases n.1==14 <;> rfl
  ·unfold Dy;rw [At oM,cond_false]
 rw [key,Nr]
theorem Vn (xs:List Nd) (p:Int) (hx:xs.length<=1073741824):Jv p xs=some ((tyV xs).isSome&&(isF p&&Pc p xs)):=by
 unfold Jv;obtain ⟨F,I,O,b,h,hm⟩:=Ai0 xs
 have e:b=(tyV xs).isSome:=by
  cases ht:tyV xs with
  | none=>rw [ht] at hm;exact hm
  | some w=>rw [ht] at hm;exact hm.1
 rw [h,obs,Wd,e];cases (tyV xs).isSome
 ·rfl
 rw [Bool.not_true,cond_false,obs,obs];cases hp:isF p
 ·rfl
 rw [Bool.not_true,cond_false,Bool.true_and,Bool.true_and]
 have key:Aq (fun s_:Nat=>Iv xs p s_) 4611686018427387904 0=some (if Pc p xs then Ctl.next () else Ctl.out false):=by
  refine Hc xs (fun n=> !((n.1==7||n.1==13)&&decide (p<=n.2.1))) (Ctl.next ()) (Ctl.out false) oM (fun i n h=>?_) ?_
  ·have:=Ai h;unfold Iv;rw [Au oM,cond_true,h,obs,Af oM];cases n.1==7 <;> cases n.1==13 <;> cases decide (p<=n.2.1) <;> rfl
  ·unfold Iv;rw [At oM,cond_false]
 rw [key,Nr]
theorem T8 (xs:List Nd) (hx:xs.length<=1073741824):Hx xs=some (Zc xs):=by
 unfold Hx
 have key:Aq (fun s_:Nat=>Fe xs s_) 4611686018427387904 0=some (if Zc xs then Ctl.next () else Ctl.out false):=by
  refine Hc xs (fun n=> !(n.1==8||n.1==14)) (Ctl.next ()) (Ctl.out false) oM (fun i n h=>?_) ?_
  ·have:=Ai h;unfold Fe Cf;rw [Au oM,cond_true,h,obs,Af oM];rw [show (n.1 !=8)= !(n.1==8) from rfl,show (n.1 !=14)= !(n.1==14) from rfl];cases n.1==8 <;> cases n.1==14 <;> rfl
  ·unfold Fe;rw [At oM,cond_false]
 rw [key,Nr]
theorem Ayd (p:Int) (s:ByteArray) (xs:List Nd) (l r:Int) (b:List (List Int)) (hx:xs.length<=1073741824) (hb:b.length<=1048576) (hr:Gc 1048576 b):∃ v,Ej p s xs l r b=some v/\Gi p s xs l r b=some v:=by
 unfold Ej Gi;obtain ⟨nm,n1,n2⟩:=Akt s;obtain ⟨q,hq,hm⟩:=Ang xs;rw [Ab2,obs,n1,n2,obs,Ali xs p hx,Vn xs p hx,T8 xs hx,Aap p l r b hb hr,Agk p l r b hb hr,hq];cases ht:tyV xs with
 | none =>
  refine ⟨false,rfl,?_⟩;cases nm
  ·rfl
  rw [Option.isSome_none,Bool.false_and,Bool.and_false,Bool.false_and];rfl
 | some w =>
  rw [ht] at hm;dsimp only at hm;subst hm;rw [Option.isSome_some,Bool.true_and];dsimp only;cases nm
  ·exact ⟨false,rfl,rfl⟩
  generalize isF p=a1;generalize Pc p xs=a2;generalize Zc xs=a3;generalize Ms p l r b=a4
  have e:([w.1,w.2]==[l,r])=cond (l==w.1) (r==w.2) false:=by
   have c1:(w.1==l)=(l==w.1):=Bool.beq_comm;have c2:(w.2==r)=(r==w.2):=Bool.beq_comm;show (w.1==l&&(w.2==r&&(([]:List Int)==[])))=_;rw [c1,c2];cases l==w.1 <;> cases r==w.2 <;> rfl
  simp only [obs,e];cases a1 <;> cases a2 <;> cases a3 <;> cases a4 <;> cases l==w.1 <;> cases r==w.2 <;> exact ⟨_,rfl,rfl⟩
-- copies and comparisons
theorem Anx (xs:List Nd) (hx:xs.length<=1073741824):Kv xs=some xs:=by
 unfold Kv;rw [Af oM]
 have h:Aq (fun s_:Nat×List Nd=>Hq xs s_.1 s_.2) 4611686018427387904 (0,List.replicate xs.length ((0,0,(⟨#[]⟩:ByteArray)):Nd))=some xs:=by
  refine A2 xs.length (fun i=>(i,xs.take i++List.replicate (xs.length - i) ((0,0,(⟨#[]⟩:ByteArray)):Nd))) oM xs (by simp) (fun i hi=>?_) ?_
  ·have hx:=gEg hi
   try dsimp only
   unfold Hq Pi;rw [Au oM,cond_true,hx,obs,obs,Xg hi,obs,Af oM,Xo hx]
  ·try dsimp only
   unfold Hq;rw [At oM,cond_false];simp
 rw [h];rfl
theorem Aon (xs:List Nd) (hx:xs.length<=1073741824):Lj xs xs=some true:=by
 unfold Lj;rw [bne_self_eq_false,cond_false]
 have h:Aq (fun s_:Nat=>Hv xs xs s_) 4611686018427387904 0=some (Ctl.next ()):=by
  refine A2 xs.length (fun i=>i) oM _ rfl (fun i hi=>?_) ?_
  ·have hx:=gEg hi
   try dsimp only
   unfold Hv Px;rw [Au oM,cond_true,hx,obs,obs,bne_self_eq_false,cond_false,bne_self_eq_false,cond_false,beq_self_eq_true,Bool.not_true,cond_false,obs,Bool.not_true,cond_false,Af oM]
  ·try dsimp only
   unfold Hv;rw [At oM,cond_false]
 rw [h];rfl
theorem Aou (xs:List Nd) {v:Int} (hv:0<=v/\v<=1048576) (hx:xs.length<=9223372036854775807) (hs:∀ n∈xs,n.2.2.size<=9223372036854775807):∃ y,K7 xs v=some y/\(y<0∨(0<=y/\y<=v/\((xs.length:Nat):Int)<=v)):=by
 unfold K7;rw [A6 (n:=v - ((xs.length:Nat):Int)) oM oM];by_cases h:v - ((xs.length:Nat):Int)<0
 ·rw [Au h];exact ⟨_,rfl,.inl oM⟩
 rw [At h,cond_false]
 have key:∃ c,Aq (fun s_:Int×Nat=>Hg xs s_.1 s_.2) 4611686018427387904 (v - ((xs.length:Nat):Int),0)=some c/\((∃ y,c=Ctl.next y/\0<=y/\y<=v)∨∃ y,c=Ctl.out y/\y<0):=by
  refine Gg (Post:=fun c=>(∃ y,c=Ctl.next y/\0<=y/\y<=v)∨∃ y,c=Ctl.out y/\y<0) xs.length (fun k s=>s.2=k/\0<=s.1/\s.1<=v) oM ⟨rfl,by dsimp only;omega,by dsimp only;omega⟩ ?_ ?_
  ·rintro k ⟨y,k'⟩ hk ⟨h1,h2,h3⟩;dsimp only at h1 h2 h3;subst h1;have hn:=gEg hk;have hz:=hs _ (List.getElem_mem hk)
   try dsimp only
   unfold Hg P1;rw [Au oM,cond_true,hn,obs,A6 (n:=y - ((xs[k'].2.2.size:Nat):Int)) oM oM];by_cases h4:y - ((xs[k'].2.2.size:Nat):Int)<0
   ·rw [Au h4];exact .inr ⟨_,rfl,.inr ⟨_,rfl,by omega⟩⟩
   ·rw [At h4,cond_false,obs,At h4,cond_false,Af oM];exact .inl ⟨_,rfl,rfl,by dsimp only;omega,by dsimp only;omega⟩
  ·rintro ⟨y,k'⟩ ⟨h1,h2,h3⟩;dsimp only at h1 h2 h3;subst h1
   try dsimp only
   unfold Hg;rw [At oM,cond_false];exact ⟨_,rfl,.inl ⟨_,rfl,h2,h3⟩⟩
 obtain ⟨c,hc,⟨y,rfl,h1,h2⟩|⟨y,rfl,h1⟩⟩:=key
 ·rw [hc];exact ⟨_,rfl,.inr ⟨h1,h2,by omega⟩⟩
 ·rw [hc];exact ⟨_,rfl,.inl h1⟩
theorem Ado (s:ByteArray) (xs:List Nd) (l r:Int) (b:List (List Int)) {v:Int} (hv:0<=v/\v<=1048576) (h0:s.size<=9223372036854775807) (hx:xs.length<=9223372036854775807) (hs:∀ n∈xs,n.2.2.size<=9223372036854775807) (hb:b.length<=9223372036854775807) (hr:Gc 9223372036854775807 b) :
  ∃ y,Gp s xs l r b v=some y/\(y<0∨(0<=y/\y<=v/\xs.length<=1048576/\b.length<=1048576/\Gc 1048576 b)):=by
 unfold Gp Pz;rw [A6 (n:=v - ((s.size:Nat):Int)) oM oM];by_cases h:v - ((s.size:Nat):Int)<0
 ·rw [Au h];exact ⟨_,rfl,.inl oM⟩
 rw [At h,cond_false];obtain ⟨y,hy,h1|⟨h1,h2,h3⟩⟩:=Aou xs (v:=v - ((s.size:Nat):Int)) oM hx hs
 ·rw [hy,obs,Au h1];exact ⟨_,rfl,.inl oM⟩
 ·rw [hy,obs,At oM,cond_false,obs,At oM,cond_false,Afn l r b oM hb hr,obs];by_cases h4:szW y b<0
  ·rw [Au h4];exact ⟨_,rfl,.inl oM⟩
  ·obtain ⟨g1,g2,g3⟩:=Av7 oM h4;rw [At h4];exact ⟨_,rfl,.inr ⟨by omega,by omega,by omega,by omega,g2⟩⟩
theorem Adz (s:ByteArray) (xs:List Nd) (l r:Int) (b:List (List Int)) (hx:xs.length<=1048576) (hb:b.length<=1048576) (hr:Gc 1048576 b):Cq s xs l r b=some (xs,b):=by
 unfold Cq Pw;rw [Anx xs oM,Af8 l r b hb hr];rfl
theorem Adp (s:ByteArray) (xs:List Nd) (l r:Int) (b:List (List Int)) (hx:xs.length<=1048576) (hb:b.length<=1048576) (hr:Gc 1048576 b):Gv s xs l r b s xs l r b=some true:=by
 unfold Gv Ph;rw [Aon xs oM,Af2 l r b hb hr,beq_self_eq_true];rfl
end
end Go.Proofs.YtopjojkjaklalaaGreatDoor
