/- Lemmas on the program and on partial functions that stand in place of its code (part 1); no condition beyond those that each one states. -/
import Derived.Test.YthlpchhhinipaaaGreatDoorRows
import Derived.WalkKit
import Derived.ProofKit
import Derived.OpenShut
import Derived.Deep.Slices
import Derived.Deep.Fields
import Derived.Lib.Hide
import Derived.Deep.OwnRows
import Derived.Deep.Draws
import Derived.ChangeSame
import Derived.ChangeOld
import Derived.WalkSpells
import Derived.WalkLawsBesides
import Derived.RegionTactic
import Derived.BigRegion
import Derived.Deep.QuietTactic
import Derived.BigQuiet
import Derived.StillTailTactics
import Derived.Laws.AppendOwnNone
import Derived.Laws.OwnMore
import Derived.OwnWalk
import Derived.Deep.RegionLaw
import Derived.Maps.OwnSet
import Derived.DeepKeys4
import Derived.ChangeKeysEq
import Derived.Laws.Rows
import Derived.Laws.Cells
import Derived.Laws.BytesArg
import Derived.WideLaws
import Derived.Laws.CopyRow
namespace Go.Proofs.YthlpchhhinipaaaGreatDoor
open Go.RowKit Go.Deep List
theorem fO{p:Prop}(h:p:=by first|(simp;done)|omega|(simp;omega)):p:=h
theorem fS{p:Prop}(h:p:=by simp):p:=h
theorem fI{p:Prop}(h:p:=by simp[ho,Op.operands]):p:=h
theorem sO{p:Prop}(h:p:=by simp;omega):p:=h
theorem aS{p:Prop}(h:p:=by assumption):p:=h
theorem fQ(n:Nat):n<=n:=Nat.le_refl n
theorem fT(a b:Bool):((a&&b)=true)=(a=true/\b=true):=Bool.and_eq_true a b
theorem fV{α:Type _}(a b:α):(some a=some b)=(a=b):=Option.some.injEq a b
theorem fX(n:Nat):((n:Nat):Int).toNat=n:=Int.toNat_natCast n
theorem fY{α:Sort _}(a b:α):cond false a b=b:=rfl
theorem fZ{α:Sort _}(a b:α):cond true a b=a:=rfl
theorem fU{α:Type _}[BEq α][LawfulBEq α]{a b:α}:(a==b)=false↔a≠b:=_root_.beq_eq_false_iff_ne
theorem fW{c:Prop}{h:Decidable c}(hc:c){α:Sort _}{t e:α}:ite c t e=t:=_root_.if_pos hc
theorem fB{c:Prop}{h:Decidable c}(hc:¬c){α:Sort _}{t e:α}:ite c t e=e:=_root_.if_neg hc
theorem fD :(!true)=false:=rfl
theorem fE(n:Nat):0+n=n:=Nat.zero_add n
theorem fF{α:Type _}[BEq α][LawfulBEq α]{a b:α}:(a==b)=true↔a=b:=_root_.beq_iff_eq
theorem fG{p:Prop}(h:p:=by repeat (first|with_reducible exact Below.refl _ _|((with_reducible refine Below.setCell ?_ ?_ _);rotate_left;exact fO)|((with_reducible refine Below.alloc ?_ ?_ _);rotate_left;exact fO)|(with_reducible refine Below.drew ?_)|(with_reducible refine below_draws_ ?_ _))):p:=h
theorem fH{p:Prop}[Decidable p](h:p){α:Sort _}(x y:α):cond (decide p) x y=x:=by rw[decide_eq_true h];rfl
theorem fJ{p:Prop}[Decidable p](h:¬p){α:Sort _}(x y:α):cond (decide p) x y=y:=by rw[decide_eq_false h];rfl
section
theorem osj{α:Type _}{a b:α}(h:some a=some b):a=b:=Option.some.inj h
theorem obs{α:Type _}{β:Type _}(x:α)(f:α→Option β):(some x).bind f=f x:=rfl
theorem gEg{α:Type _}{l:List α}{i:Nat}(h:i<l.length):l[i]? =some l[i]:=List.getElem?_eq_getElem h
abbrev wI(n:Int):Int:=IntKind.i64.wrap n
theorem gDg{α:Type _}{l:List α}{i:Nat}{a:α}:l.getD i a=l[i]?.getD a:=List.getD_eq_getElem?_getD
theorem oms{α:Type _}{β:Type _}{x:Option α}{f:α→β}{b:β}:x.map f=some b↔∃ a,x=some a/\f a=b:=Option.map_eq_some_iff
theorem gSi{α:Type _}{l:List α}{i:Nat}{a:α}:l[i]? =some a↔∃ h:i<l.length,l[i]=a:=List.getElem?_eq_some_iff
theorem oM{p:Prop}(h:p:=by omega):p:=h
open Go.ChangeShapes Go.WideShapes Go.ChangeAt Go.RowKit List
abbrev NP:=Nat->Prop
abbrev WP:=World->Prop
abbrev LV:=List Value
abbrev ZA:=List (List Int)
abbrev ZB:=Int×Int×ByteArray
theorem Ef(a:Addr)(n:Nat):(a.add n).block=a.block:=by unfold Addr.add;split <;> rfl
theorem Di(a:Addr)(i j:Nat):(a.add i).add j=a.add (i+j):=by
 unfold Addr.add;by_cases hi:i=0 <;> by_cases hj:j=0 <;> simp[hi,hj,Nat.add_assoc]
inductive Ty where
 | int|bool|str
 | slice (t:Ty)
 | pair (a b:Ty)
@[reducible] def Ty.D:Ty->Type
 | .int=>Int
 | .bool=>Bool
 | .str=>ByteArray
 | .slice t=>List t.D
 | .pair a b=>a.D×b.D
def Ty.dflt:(t:Ty)->t.D
 | .int=>(0:Int)
 | .bool=>false
 | .str=>ByteArray.empty
 | .slice _=>[]
 | .pair a b=>(a.dflt,b.dflt)
def Ty.size:Ty->Nat
 | .int | .bool | .str | .slice _=>1
 | .pair a b=>a.size+b.size
def Elems{α:Type}(R:NP)(M:Addr->α->List Addr->Prop)(sz:Nat)(A:Option Addr)(c:Nat)(xs:List α)(ls:List Addr):Prop:=
 xs.length<=c/\c<=maxLen/\∃ f:Nat->List Addr,ls=(range xs.length).flatMap f /\
  (0<xs.length->∃ ad,A=some ad/\R ad.block/\∀(i:Nat) (h:i<xs.length),M (ad.add (i*sz)) xs[i] (f i))
def Ty.Mem(R:NP)(w:World):(t:Ty)->Addr->t.D->List Addr->Prop
 | .int,a,n,ls=>w.cell? a=some (.int .i64 n)/\ls=[a]
 | .bool,a,b,ls=>w.cell? a=some (.bool b)/\ls=[a]
 | .str,a,s,ls=>w.cell? a=some (.string s)/\ls=[a]
 | .slice t,a,xs,ls=>∃ A c,w.cell? a=some (.slice A xs.length c)/\Elems R (Ty.Mem R w t) t.size A c xs ls
 | .pair t u,a,x,ls=>∃ l1 l2,Ty.Mem R w t a x.1 l1/\Ty.Mem R w u (a.add t.size) x.2 l2/\ls=l1++l2
def Ty.Val(R:NP)(w:World):(t:Ty)->LV->t.D->List Addr->Prop
 | .int,cs,n,ls=>cs=[.int .i64 n]/\ls=[]
 | .bool,cs,b,ls=>cs=[.bool b]/\ls=[]
 | .str,cs,s,ls=>cs=[.string s]/\ls=[]
 | .slice t,cs,xs,ls=>∃ A c,cs=[.slice A xs.length c]/\Elems R (Ty.Mem R w t) t.size A c xs ls
 | .pair t u,cs,x,ls=>∃ c1 c2 l1 l2,cs=c1++c2/\Ty.Val R w t c1 x.1 l1/\Ty.Val R w u c2 x.2 l2/\ls=l1++l2
def Ty.In:(t:Ty)->t.D->Prop
 | .int,n=> -9223372036854775808<=n/\n<=9223372036854775807
 | .bool,_=>True
 | .str,s=>s.size<=maxLen
 | .slice t,xs=>∀ x∈xs,Ty.In t x
 | .pair t u,x=>Ty.In t x.1/\Ty.In u x.2
abbrev Sl(R:NP)(w:World)(t:Ty)(A:Option Addr)(c:Nat)(xs:List t.D)(ls:List Addr):Prop:=Elems R (Ty.Mem R w t) t.size A c xs ls
def Ty.fitsL(P:Program)(F:Ty->TypeId->Bool):Ty->List Field->Nat->Bool
 | ty,[f],o=>f.offset==o&&(P.cellsOf f.type==ty.size&&F ty f.type)
 | .pair a b,f :: g :: fs,o=>(f.offset==o&&(P.cellsOf f.type==a.size&&F a f.type))&&Ty.fitsL P F b (g :: fs) (o+a.size)
 | _,_,_=>false
def Ty.fits(P:Program):Nat->Ty->TypeId->Bool
 | 0,_,_=>false
 | n+1,ty,t=>
  match P.underlying t with
  | some (.int .i64)=>(match ty with | .int=>true|_=>false)
  | some .bool=>(match ty with | .bool=>true|_=>false)
  | some .string=>(match ty with | .str=>true|_=>false)
  | some (.slice e)=>(match ty with | .slice u=>P.cellsOf e==u.size&&Ty.fits P n u e|_=>false)
  | some (.struct fs)=>P.cellsOf t==ty.size&&Ty.fitsL P (Ty.fits P n) ty fs.toList 0
  | _=>false
theorem Ty.Val.length{R:NP}{w:World}:∀{t:Ty} {cs:LV} {x:t.D} {ls:List Addr},Ty.Val R w t cs x ls->cs.length=t.size
 | .int,_,_,_,h=>by rw[h.1];rfl
 | .bool,_,_,_,h=>by rw[h.1];rfl
 | .str,_,_,_,h=>by rw[h.1];rfl
 | .slice _,_,_,_,⟨_,_,h,_⟩=>by rw[h];rfl
 | .pair _ _,_,_,_,⟨_,_,_,_,h,h1,h2,_⟩=>by
  rw[h,length_append,Ty.Val.length h1,Ty.Val.length h2];rfl
theorem Ty.Val.mem{R:NP}{w:World}:∀{t:Ty} {cs:LV} {x:t.D} {ls:List Addr} {a:Addr},Ty.Val R w t cs x ls->(∀ j,j<cs.length->w.cell? (a.add j)=cs[j]?)->∃ bs,Ty.Mem R w t a x bs
 | .int,_,_,_,a,h,hc=>by
  obtain ⟨rfl,_⟩:=h;exact ⟨_,by simpa [Addr.add] using hc 0 fS,rfl⟩
 | .bool,_,_,_,a,h,hc=>by
  obtain ⟨rfl,_⟩:=h;exact ⟨_,by simpa [Addr.add] using hc 0 fS,rfl⟩
 | .str,_,_,_,a,h,hc=>by
  obtain ⟨rfl,_⟩:=h;exact ⟨_,by simpa [Addr.add] using hc 0 fS,rfl⟩
 | .slice t,_,_,ls,a,h,hc=>by
  obtain ⟨A,c,rfl,he⟩:=h;exact ⟨ls,A,c,by simpa [Addr.add] using hc 0 fS,he⟩
 | .pair t u,_,x,_,a,h,hc=>by
  obtain ⟨c1,c2,l1,l2,rfl,h1,h2,_⟩:=h
  have ⟨b1,m1⟩:=Ty.Val.mem (a:=a) h1 (fun j hj=>by
   rw[hc j (by rw[length_append];omega),getElem?_append_left hj])
  have ⟨b2,m2⟩:=Ty.Val.mem (a:=a.add t.size) h2 (fun j hj=>by
   rw[Di,hc _ (by rw[length_append,h1.length];omega),getElem?_append_right (by rw[h1.length];omega),h1.length];congr 1;omega)
  exact ⟨_,b1,b2,m1,m2,rfl⟩
section
variable{H:Type}{enc:TypeId×Value->H}{P:Program}{w:World}{base:Nat}{spare:Nat->Bool}{held:Bool}
theorem Ty.openL{n:Nat}(ih:∀(ty:Ty) (t:TypeId) (cs:LV) (x:DataW H×List MemPlace) (fuel:Nat),Ty.fits P n ty t=true->DataW.trod enc P w base spare held fuel t cs=some x->∃ d ls,Ty.Val (fun _=>True) w ty cs d ls/\Ty.In ty d)
  (fuel:Nat) (cs:LV):∀(fs:List Field) (ty:Ty) (o:Nat),Ty.fitsL P (Ty.fits P n) ty fs o=true->cs.length=o+ty.size ->
   (∀ f∈fs,∃ x,DataW.trod enc P w base spare held fuel f.type ((cs.drop f.offset).take (P.cellsOf f.type))=some x)->∃ d ls,Ty.Val (fun _=>True) w ty (cs.drop o) d ls/\Ty.In ty d
 | [],ty,o,hf,_,_=>by simp[Ty.fitsL]at hf
 | [f],ty,o,hf,hl,ht=>by
  have hf':f.offset=o/\P.cellsOf f.type=ty.size/\Ty.fits P n ty f.type=true:=by
   cases ty <;> simpa [Ty.fitsL] using hf
  have ⟨ho,hc,hF⟩:=hf';have ⟨x,hx⟩:=ht f fS;rw[ho,hc,take_of_length_le (by rw[length_drop];omega)]at hx;exact ih _ _ _ _ _ hF hx
 | f :: g :: fs,.pair a b,o,hf,hl,ht=>by
  simp only[Ty.fitsL,fT,fF]at hf;have ⟨⟨ho,hc,hF⟩,hr⟩:=hf;have ⟨x,hx⟩:=ht f fS;rw[ho,hc]at hx;have ⟨d1,l1,v1,i1⟩:=ih _ _ _ _ _ hF hx;have hl':cs.length=o+(a.size+b.size):=hl;have ⟨d2,l2,v2,i2⟩:=Ty.openL ih fuel cs (g :: fs) b (o+a.size) hr oM fun f' hf'=>ht f'<|mem_cons_of_mem _ hf';exact ⟨(d1,d2),_,⟨_,_,l1,l2,by rw[← drop_drop,take_append_drop],v1,v2,rfl⟩,i1,i2⟩
 | f :: g :: fs,.int,o,hf,_,_=>by simp[Ty.fitsL]at hf
 | f :: g :: fs,.bool,o,hf,_,_=>by simp[Ty.fitsL]at hf
 | f :: g :: fs,.str,o,hf,_,_=>by simp[Ty.fitsL]at hf
 | f :: g :: fs,.slice _,o,hf,_,_=>by simp[Ty.fitsL]at hf
theorem Ty.open_:∀(n:Nat) (ty:Ty) (t:TypeId) (cs:LV) (x:DataW H×List MemPlace) (fuel:Nat),Ty.fits P n ty t=true->DataW.trod enc P w base spare held fuel t cs=some x->∃ d ls,Ty.Val (fun _=>True) w ty cs d ls/\Ty.In ty d
 | 0,_,_,_,_,_,hf,_=>by simp[Ty.fits]at hf
 | n+1,ty,t,cs,x,fuel,hf,h=>by
  unfold Ty.fits at hf;split at hf
  next hu=>obtain ⟨k,rfl,_,hwf⟩:=DataW.trod_int hu h;cases ty <;> simp at hf;exact ⟨k,[],⟨rfl,rfl⟩,bounds_i64 hwf⟩
  next hu=>obtain ⟨k,rfl,_⟩:=DataW.trod_bool hu h;cases ty <;> simp at hf;exact ⟨k,[],⟨rfl,rfl⟩,trivial⟩
  next hu=>obtain ⟨k,rfl,_,hl⟩:=DataW.trod_string hu h;cases ty <;> simp at hf;exact ⟨k,[],⟨rfl,rfl⟩,hl⟩
  ·rename_i e hu;cases ty <;> simp at hf;rename_i u;have ⟨hc,hF⟩:=hf;rcases Deep.open_slice hu h with ⟨rfl,_⟩|⟨a,len,cap,m,n',D,Pl,rfl,hb,hl,hm,hmm,_,hi⟩
   ·exact ⟨([]:List u.D),[],⟨none,0,rfl,by simp,by simp[maxLen],fun _=>[],by simp,fun h0=>absurd h0 fS⟩,fun y hy=>by cases hy⟩
   ·have hlm:len<=m:=by rw[hmm];split <;> omega
    have hex:∀ i,i<len->∃ d:u.D×List Addr,Ty.Mem (fun _=>True) w u (a.add (i*u.size)) d.1 d.2/\Ty.In u d.1:=by
     intro i hilt;have ⟨cs',hcs',ht'⟩:=hi i oM;have ⟨_,hcl,hat⟩:=World.cells?_some hcs';have ⟨d,ls,hv,hin⟩:=Ty.open_ n u e cs' _ n' hF ht';rw[hc]at hat;have ⟨bs,hm'⟩:=Ty.Val.mem hv (a:=a.add<|i*u.size) fun j hj=>hat j oM;exact ⟨(d,bs),hm',hin⟩
    have hg:∃ g:Nat->u.D×List Addr,∀ i,i<len->Ty.Mem (fun _=>True) w u (a.add<|i*u.size) (g i).1 (g i).2/\Ty.In u (g i).1:=by
     rcases Nat.eq_zero_or_pos len with h0|h0
     ·exact ⟨fun _=>(Ty.dflt u,[]),fun i hi'=>absurd hi' oM⟩
     ·have:Inhabited (u.D×List Addr):=⟨(hex 0 h0).choose⟩
      exact Deep.choose_lt hex
    have ⟨g,hg⟩:=hg;have hlen:((range len).map fun i=>(g i).1).length=len:=by simp
    refine ⟨((range len).map fun i=>(g i).1:List u.D),_,⟨some a,cap,by rw[hlen],by rw[hlen];exact hl,hm,fun i=>(g i).2,rfl,fun _=>⟨a,rfl,trivial,fun i hi'=>?_⟩⟩,?_⟩
    ·rw[hlen]at hi'
     simpa using (hg i hi').1
    ·intro y hy;obtain ⟨i,hi',rfl⟩:=mem_map.1 hy;exact (hg i (by simpa using hi')).2
  ·rename_i fs hu;simp only[fT,fF]at hf;have ⟨hc,hF⟩:=hf;have ⟨xs,n',_,_,hcl,hxl,hg⟩:=DataW.trod_struct hu h
   have:=Ty.openL (enc:=enc) (base:=base) (spare:=spare) (held:=held) (Ty.open_ n) n' cs fs.toList ty 0 hF oM (fun f hf'=>by
    obtain ⟨i,hi,rfl⟩:=mem_iff_getElem.1 hf';have hi':i<fs.size:=by simpa using hi
    refine ⟨xs[i]'oM,?_⟩;rw[hg i _ (by simp[hi']),gEg])
   simpa using this
  ·simp at hf
end
end
section
open Go.ChangeShapes Go.WideShapes Go.ChangeAt Go.RowKit List
theorem Qd{a b:Bool}(h:a=b):Ending.returned (.bool a)=.returned (.bool b):=by rw[h]
theorem Vp{k:IntKind}{a b:Int}(h:a=b):Ending.returned (.int k a)=.returned (.int k b):=by rw[h]
theorem Hg{W w1:World}(hb:Below W.heap.size W w1):(∀ b o,b<W.heap.size->w1.cell? ⟨b,o,none⟩=W.cell? ⟨b,o,none⟩)/\(∀ b o,b<W.heap.size->w1.frozen? ⟨b,o,none⟩=W.frozen? ⟨b,o,none⟩):=
 ⟨fun b o h=>hb.cell (p:=⟨b,o,none⟩) h,fun b o h=>hb.frozen (p:=⟨b,o,none⟩) h⟩
theorem A7{w w':World}(h:Below w.heap.size w w'){p:Addr}{u:Value}(hu:w.cell? p=some u):w'.cell? p=some u:=
 (h.cell (World.block_lt_of_cell? w p hu)).trans hu
section
variable{R R':NP}{w w':World}
def Stays(R:NP)(w w':World)(l:List Addr):Prop:=
 ∀(p:Addr) (u:Value),R p.block->w.cell? p=some u->(p∈l∨∃ A n c,u=.slice A n c)->w'.cell? p=some u
theorem Stays.sub{l l':List Addr}(h:Stays R w w' l)(hl:∀ p∈l',p∈l):Stays R w w' l' :=
 fun p u hr hc hp=>h p u hr hc (hp.imp (hl p) id)
theorem Stays.below(h:Below w.heap.size w w')(l:List Addr):Stays R w w' l:=fun _ _ _ hc _=>A7 h hc
theorem Elems.keep{α:Type}{M M':Addr->α->List Addr->Prop}{sz:Nat}{A:Option Addr}{c:Nat}{xs:List α}{l:List Addr}(h:Elems R M sz A c xs l)
  (hM:∀ a x k,R a.block->(∀ p∈k,p∈l)->M a x k->M' a x k):Elems R M' sz A c xs l:=by
 obtain ⟨h1,h2,f,rfl,hf⟩:=h;refine ⟨h1,h2,f,rfl,fun h0=>?_⟩;obtain ⟨ad,rfl,hr,hi⟩:=hf h0;exact ⟨ad,rfl,hr,fun i hlt=>hM _ _ _ (by rw[Ef];exact hr) (fun p hp=>mem_flatMap.2 ⟨i,by simpa using hlt,hp⟩)<|hi i hlt⟩
theorem Ty.Mem.keep:∀{t:Ty} {a:Addr} {x:t.D} {l:List Addr},R a.block->Stays R w w' l->Ty.Mem R w t a x l->Ty.Mem R w' t a x l
 | .int,_,_,_,ha,hs,⟨h,e⟩=>⟨hs _ _ ha h (.inl (by rw[e];simp)),e⟩
 | .bool,_,_,_,ha,hs,⟨h,e⟩=>⟨hs _ _ ha h (.inl (by rw[e];simp)),e⟩
 | .str,_,_,_,ha,hs,⟨h,e⟩=>⟨hs _ _ ha h (.inl (by rw[e];simp)),e⟩
 | .slice t,_,_,_,ha,hs,⟨A,c,h,he⟩=>⟨A,c,hs _ _ ha h (.inr ⟨_,_,_,rfl⟩),he.keep fun _ _ _ hr hk hm=>Ty.Mem.keep hr (hs.sub hk) hm⟩
 | .pair t u,a,_,_,ha,hs,⟨l1,l2,h1,h2,e⟩=>
  ⟨l1,l2,Ty.Mem.keep ha (hs.sub fun p hp=>by rw[e];simp[hp]) h1,Ty.Mem.keep (a:=a.add t.size) (by rw[Ef];exact ha) (hs.sub fun p hp=>by rw[e];simp[hp]) h2,e⟩
theorem Ty.Val.keep:∀{t:Ty} {cs:LV} {x:t.D} {l:List Addr},Stays R w w' l->Ty.Val R w t cs x l->Ty.Val R w' t cs x l
 | .int,_,_,_,_,h=>h
 | .bool,_,_,_,_,h=>h
 | .str,_,_,_,_,h=>h
 | .slice t,_,_,_,hs,⟨A,c,h,he⟩=>⟨A,c,h,he.keep fun _ _ _ hr hk hm=>Ty.Mem.keep hr (hs.sub hk) hm⟩
 | .pair t u,_,_,_,hs,⟨c1,c2,l1,l2,hc,h1,h2,e⟩=>
  ⟨c1,c2,l1,l2,hc,Ty.Val.keep (hs.sub fun p hp=>by rw[e];simp[hp]) h1,Ty.Val.keep (hs.sub fun p hp=>by rw[e];simp[hp]) h2,e⟩
theorem Aij{t:Ty}{A:Option Addr}{c:Nat}{xs:List t.D}{l:List Addr}(h:Sl R w t A c xs l)(hs:Stays R w w' l):Sl R w' t A c xs l:=
 h.keep fun _ _ _ hr hk hm=>Ty.Mem.keep hr (hs.sub hk) hm
theorem Be{t:Ty}{A:Option Addr}{c:Nat}{xs:List t.D}{l:List Addr}(h:Sl R w t A c xs l)(hb:Below w.heap.size w w'):Sl R w' t A c xs l:=
 Aij h (Stays.below hb l)
theorem Ahh{t:Ty}{cs:LV}{x:t.D}{l:List Addr}(h:Ty.Val R w t cs x l)(hb:Below w.heap.size w w'):Ty.Val R w' t cs x l:=
 h.keep (Stays.below hb l)
theorem Ty.Mem.mono(hR:∀ b,b<w.heap.size->R b->R' b):∀{t:Ty} {a:Addr} {x:t.D} {l:List Addr},Ty.Mem R w t a x l->Ty.Mem R' w t a x l
 | .int,_,_,_,h=>h
 | .bool,_,_,_,h=>h
 | .str,_,_,_,h=>h
 | .slice t,_,_,_,⟨A,c,h,h1,h2,f,e,hf⟩=>⟨A,c,h,h1,h2,f,e,fun h0=>by
  have ⟨ad,e',hr,hi⟩:=hf h0
  have hlt:ad.block<w.heap.size:=by
   have:∀{t:Ty} {a:Addr} {x:t.D} {l:List Addr},Ty.Mem R w t a x l->a.block<w.heap.size:=by
    intro t
    induction t with
    | int=>exact fun h=>World.block_lt_of_cell? w _ h.1
    | bool=>exact fun h=>World.block_lt_of_cell? w _ h.1
    | str=>exact fun h=>World.block_lt_of_cell? w _ h.1
    | slice t _=>exact fun ⟨_,_,h,_⟩=>World.block_lt_of_cell? w _ h
    | pair a b ha _=>exact fun ⟨_,_,h,_⟩=>ha h
   have:=this<|hi 0 h0
   rwa [Ef]at this
  exact ⟨ad,e',hR _ hlt hr,fun i hlt'=>Ty.Mem.mono hR<|hi i hlt'⟩⟩
 | .pair _ _,_,_,_,⟨l1,l2,h1,h2,e⟩=>⟨l1,l2,Ty.Mem.mono hR h1,Ty.Mem.mono hR h2,e⟩
theorem Ty.Mem.lt{t:Ty}{a:Addr}{x:t.D}{l:List Addr}(h:Ty.Mem R w t a x l):a.block<w.heap.size:=by
 induction t generalizing a l with
 | int=>exact World.block_lt_of_cell? w _ h.1
 | bool=>exact World.block_lt_of_cell? w _ h.1
 | str=>exact World.block_lt_of_cell? w _ h.1
 | slice t _=>have ⟨_,_,h,_⟩:=h;exact World.block_lt_of_cell? w _ h
 | pair a b ha _=>have ⟨_,_,h,_⟩:=h;exact ha h
theorem Ty.Mem.spot{t:Ty}{a:Addr}{x:t.D}{l:List Addr}(h:Ty.Mem R w t a x l):a.spot=none:=by
 induction t generalizing a l with
 | int=>exact World.cell?_spot h.1
 | bool=>exact World.cell?_spot h.1
 | str=>exact World.cell?_spot h.1
 | slice t _=>have ⟨_,_,h,_⟩:=h;exact World.cell?_spot h
 | pair a b ha _=>have ⟨_,_,h,_⟩:=h;exact ha h
theorem Cn(b o k:Nat):(⟨b,o,none⟩:Addr).add k=⟨b,o+k,none⟩:=by unfold Addr.add;split <;> simp_all
theorem Asb{t:Ty}{A:Option Addr}{c:Nat}{xs:List t.D}{l:List Addr}(h:Sl R w t A c xs l)(h0:0<xs.length):
  ∃(b o:Nat) (f:Nat->List Addr),A=some ⟨b,o,none⟩/\R b/\b<w.heap.size/\l=(range xs.length).flatMap f/\∀(i:Nat) (hi:i<xs.length),Ty.Mem R w t ⟨b,o+i*t.size,none⟩ xs[i] (f i):=by
 have ⟨_,_,f,e,hf⟩:=h;obtain ⟨⟨b,o,s⟩,rfl,hr,hi⟩:=hf h0;obtain rfl:s=none:=by simpa [Addr.add] using (hi 0 h0).spot
 exact ⟨b,o,f,rfl,hr,by simpa [Addr.add] using (hi 0 h0).lt,e,fun i hlt=>by rw[← Cn];exact hi i hlt⟩
theorem Cc{t:Ty}{A:Option Addr}{c:Nat}{xs:List t.D}{l:List Addr}(hR:∀ b,b<w.heap.size->R b->R' b)(h:Sl R w t A c xs l):Sl R' w t A c xs l:=by
 have ⟨h1,h2,f,e,hf⟩:=h;refine ⟨h1,h2,f,e,fun h0=>?_⟩;have ⟨ad,e',hr,hi⟩:=hf h0;have hlt:ad.block<w.heap.size:=by have:=(hi 0 h0).lt;rwa [Ef]at this
 exact ⟨ad,e',hR _ hlt hr,fun i hlt'=>(hi i hlt').mono hR⟩
theorem Li{t:Ty}{A:Option Addr}{c:Nat}{xs:List t.D}{l:List Addr}(h:Sl R w t A c xs l):Sl (fun _=>True) w t A c xs l:=Cc (fun _ _ _=>trivial) h
def Afj:Value->Prop
 | .int _ _ | .bool _ | .string _=>True
 | _=>False
end
def Fresh(w:World)(lo:Nat)(l:List Addr):Prop:=l.Nodup/\∀ p∈l,lo<=p.block/\p.block<w.heap.size/\w.frozen? p=false
section
variable{w w':World}{lo mid:Nat}{l l1 l2:List Addr}
theorem Fresh.nil(w:World)(lo:Nat):Fresh w lo []:=⟨nodup_nil,fun _ h=>by cases h⟩
theorem Fresh.below(h:Fresh w lo l)(hb:Below w.heap.size w w'):Fresh w' lo l:=
 ⟨h.1,fun p hp=>⟨(h.2 p hp).1,Nat.lt_of_lt_of_le (h.2 p hp).2.1 hb.size,(hb.frozen (h.2 p hp).2.1).trans (h.2 p hp).2.2⟩⟩
theorem Fresh.append(h1:Fresh w lo l1)(hb:Below w.heap.size w w')(h2:Fresh w' w.heap.size l2)(hlo:lo<=w.heap.size):Fresh w' lo (l1++l2):=by
 refine ⟨nodup_append.2 ⟨h1.1,h2.1,fun a ha b hb' e=>?_⟩,fun p hp=>?_⟩
 ·subst e;have:=(h1.2 a ha).2.1;have:=(h2.2 a hb').1;omega
 ·rcases mem_append.1 hp with h|h
  ·exact (h1.below hb).2 p h
  ·exact ⟨Nat.le_trans hlo (h2.2 p h).1,(h2.2 p h).2⟩
theorem Fresh.sub1(h:Fresh w lo (l1++l2)):Fresh w lo l1:=⟨(nodup_append.1 h.1).1,fun p hp=>h.2 p (mem_append_left _ hp)⟩
theorem Fresh.sub2(h:Fresh w lo (l1++l2)):Fresh w lo l2:=⟨(nodup_append.1 h.1).2.1,fun p hp=>h.2 p (mem_append_right _ hp)⟩
end
def L4(lo:Nat)(b:Nat):Prop:=lo<=b
structure Above(lo:Nat)(w w':World):Prop where
 size:w.heap.size<=w'.heap.size
 block:∀ k,lo<=k->k<w.heap.size->w'.heap[k]? =w.heap[k]?
section
variable{lo mid:Nat}{a w w':World}{l l1 l2:List Addr}
theorem Above.refl(lo:Nat)(w:World):Above lo w w:=⟨fQ _,fun _ _ _=>rfl⟩
theorem Above.setCell(h:Above lo a w){p:Addr}(hp:p.block<lo)(v:Value):Above lo a (w.setCell p v):=
 ⟨by simpa [World.setCell] using h.size,fun k h1 h2=>(Below.heap_setCell w p v k oM).trans (h.block k h1 h2)⟩
theorem Above.alloc(h:Above lo a w)(o:Obj):Above lo a (w.alloc o):=
 ⟨Nat.le_trans h.size fS,fun k h1 h2=>(Below.heap_alloc w o k (Nat.lt_of_lt_of_le h2 h.size)).trans (h.block k h1 h2)⟩
theorem Above.stays{R:NP}(h:Above lo w w')(hR:∀ b,R b->lo<=b)(l:List Addr):Stays R w w' l:=
 fun p _ hr hc _=>(World.cell?_of_block (h.block p.block (hR _ hr) (World.block_lt_of_cell? w p hc))).trans hc
theorem Qk{R:NP}{t:Ty}{A:Option Addr}{c:Nat}{xs:List t.D}{l:List Addr}(h:Sl R w t A c xs l)(hb:Above lo w w')(hR:∀ b,R b->lo<=b):Sl R w' t A c xs l:=
 Aij h (hb.stays hR l)
theorem Ayx{lo':Nat}{t:Ty}{A:Option Addr}{c:Nat}{xs:List t.D}{l:List Addr}(h:Sl (L4 lo) w t A c xs l)(hb:Above lo w w')(hl:lo'<=lo):Sl (L4 lo') w' t A c xs l:=
 Cc (fun _ _ hr=>Nat.le_trans hl hr) (Qk h hb (fun _ hr=>hr))
theorem Fresh.above(h:Fresh w lo l)(hb:Above lo w w'):Fresh w' lo l:=
 ⟨h.1,fun p hp=>⟨(h.2 p hp).1,Nat.lt_of_lt_of_le (h.2 p hp).2.1 hb.size,(World.frozen?_of_block (hb.block _ (h.2 p hp).1 (h.2 p hp).2.1)).trans (h.2 p hp).2.2⟩⟩
end
structure Marked(S:List Addr)(w w':World):Prop where
 os:w'.os=w.os
 tape:w'.tape=w.tape
 output:w'.output=w.output
 size:w.heap.size<=w'.heap.size
 cell:∀ p,p.block<w.heap.size->p∉S->w'.cell? p=w.cell? p
 frozen:∀ p,p.block<w.heap.size->w'.frozen? p=w.frozen? p
 block:∀ k,k<w.heap.size->(∀ p∈S,p.block≠k)->w'.heap[k]? =w.heap[k]?
section
variable{w w' w'':World}{S S' l:List Addr}{R:NP}
theorem Marked.of_below(h:Below w.heap.size w w'):Marked [] w w' :=
 ⟨h.os,h.tape,h.output,h.size,fun _ hp _=>h.cell hp,fun _ hp=>h.frozen hp,fun k hk _=>h.block k hk⟩
theorem Marked.trans(h:Marked S w w')(k:Marked S' w' w''):Marked (S++S') w w'' :=
 ⟨k.os.trans h.os,k.tape.trans h.tape,k.output.trans h.output,Nat.le_trans h.size k.size,
  fun p hp hn=>(k.cell p (Nat.lt_of_lt_of_le hp h.size) (fun hm=>hn (mem_append_right _ hm))).trans (h.cell p hp (fun hm=>hn (mem_append_left _ hm))),
  fun p hp=>(k.frozen p (Nat.lt_of_lt_of_le hp h.size)).trans (h.frozen p hp),
  fun b hb hn=>(k.block b (Nat.lt_of_lt_of_le hb h.size) (fun p hm=>hn p (mem_append_right _ hm))).trans (h.block b hb (fun p hm=>hn p (mem_append_left _ hm)))⟩
theorem Marked.setCell(w:World)(p:Addr)(v:Value):Marked [p] w (w.setCell p v):=
 ⟨rfl,rfl,rfl,by simp[World.setCell],fun q _ hq=>World.cell?_setCell_other _ _ _ _ (fun e=>hq (by rw[e];simp)),fun q _=>World.frozen?_setCell _ _ _ _,
  fun k _ hk=>Below.heap_setCell w p v k (fun e=>hk p fS e.symm)⟩
theorem Marked.stays(h:Marked S w w')(hS:∀ p∈S,∃ u,w.cell? p=some u/\Afj u)(hd:∀ p∈l,p∉S):Stays R w w' l:=by
 intro p u _ hc hp;refine (h.cell p (World.block_lt_of_cell? w p hc) ?_).trans hc;rcases hp with hp|⟨A,n,c,rfl⟩
 ·exact hd p hp
 ·intro hm;have ⟨u,hu,hl⟩:=hS p hm;rw[hc]at hu;cases hu;exact hl
theorem Marked.below{B:Nat}(h:Marked S w w')(hS:∀ p∈S,B<=p.block)(hB:B<=w.heap.size):Below B w w' :=
 ⟨h.os,h.tape,h.output,h.size,fun k hk=>h.block k oM (fun p hp=>by have:=hS p hp;omega)⟩
theorem Fresh.marked{lo:Nat}(h:Fresh w lo l)(hm:Marked S w w'):Fresh w' lo l:=
 ⟨h.1,fun p hp=>⟨(h.2 p hp).1,Nat.lt_of_lt_of_le (h.2 p hp).2.1 hm.size,(hm.frozen p (h.2 p hp).2.1).trans (h.2 p hp).2.2⟩⟩
end
section
variable{H:Type}{enc:TypeId×Value->H}{P:Program}{W W':World}
theorem Ad4(hl:laidOutB P=true)(hb:Below W.heap.size W W'){sp:Nat->Bool}:∀{ts:List TypeId} {vs:LV} {ds:List (DataW H)} {ps:List MemPlace},
  (∀ t∈ts,P.readableRec t=true/\t<P.types.size)->DataW.TrodAll enc P W 0 (fun _=>true) true ts vs ds ps->(∀ x∈ps,x.block<W.heap.size)->(∀ x∈ps,sp x.block=true)->DataW.TrodAll enc P W' 0 sp true ts vs ds ps
 | [],vs,ds,ps,_,h,_,_=>by
  obtain ⟨rfl,rfl,rfl⟩:=trodAll_nil h;exact trodAll_mk0
 | t :: ts,vs,ds,ps,hr,h,hlt,hsp=>by
  cases vs with
  | nil=>cases ds <;> simp[DataW.TrodAll]at h
  | cons v vs=>
   cases ds with
   | nil=>simp[DataW.TrodAll]at h
   | cons d ds=>
    obtain ⟨p,q,h1,h2,rfl⟩:=h;have ⟨hrt,htt⟩:=hr t fS
    exact ⟨p,q,WideElems.Trod_stays hl hrt htt h1 (fun x hx=>hb.same (hlt x (mem_append_left _ hx))) (fun x hx=>hsp x (mem_append_left _ hx)),
     Ad4 hl hb (fun t ht=>hr t (mem_cons_of_mem _ ht)) h2 (fun x hx=>hlt x (mem_append_right _ hx)) (fun x hx=>hsp x (mem_append_right _ hx)),rfl⟩
theorem Ado(hl:laidOutB P=true)(hb:Below W.heap.size W W'){sp:Nat->Bool}:∀{ns:List String} {ds:List (DataW H)} {ps:List MemPlace},
  (∀ n∈ns,∀ g t,P.globalNamed n=some g->(P.globals[g]?).map (·.type)=some t->P.readableRec t=true/\t<P.types.size)->DataW.TrodVars enc P W (fun _=>true) ns ds ps->(∀ x∈ps,x.block<W.heap.size)->(∀ x∈ps,sp x.block=true)->DataW.TrodVars enc P W' sp ns ds ps
 | [],ds,ps,_,h,_,_=>by
  obtain ⟨rfl,rfl⟩:=trodVars_none h;rfl
 | n :: ns,ds,ps,hr,h,hlt,hsp=>by
  cases ds with
  | nil=>simp[DataW.TrodVars]at h
  | cons d ds=>
   obtain ⟨g,t,cs,fuel,p,q,h1,h2,h3,h4,h5,rfl⟩:=h;have ⟨hrt,htt⟩:=hr n fS g t h1 h2
   have hg:g<W.heap.size:=by
    unfold World.var? at h3;simp only[h1,obs]at h3;rcases Nat.lt_or_ge g W.heap.size with h|h
    ·exact h
    ·rw[Array.getElem?_eq_none h]at h3;simp at h3
   have h3':W'.var? P n=some cs:=by
    unfold World.var? at h3 ⊢;simp only[h1,obs]at h3 ⊢;rw[hb.block g hg];exact h3
   have hlt':∀ x∈p,x.block<W.heap.size:=fun x hx=>hlt x (by simp[hx])
   have hsp':∀ x∈p,sp x.block=true:=fun x hx=>hsp x (by simp[hx])
   have h4':=DataW.trod_stays (kids_book hl hrt) (book_sized hrt) (fun h=>by cases h) ⟨htt,book_self t⟩ h4 (fun x hx=>hb.same<|hlt' x hx) hsp';exact ⟨g,t,cs,fuel,p,q,h1,h2,h3',h4',Ado hl hb (fun n hn=>hr n<|mem_cons_of_mem _ hn) h5 (fun x hx=>hlt x (by simp[hx])) (fun x hx=>hsp x (by simp[hx])),rfl⟩
theorem law_post{f:Func}{s:ChangeSpec}{args:Array Value}{ds gs:List (DataW H)}{before:List MemPlace}{tb:TypeId}(hl:laidOutB P=true)
  (hW:DataW.Whole enc P f.params.toList s.vars false W args.toList ds gs before) (hb:Below W.heap.size W W')
  (hs:s.fn H (ds++gs)={ results:=[.lit (.bool true)],args:=ds,vars:=gs }) (hrt:f.resultTypes= #[tb]) (htb:P.underlying tb=some .bool)
  (hp:∀ t∈f.params.toList,P.readableRec t=true/\t<P.types.size)
  (hv:∀ n∈s.vars,∀ g t,P.globalNamed n=some g->(P.globals[g]?).map (·.type)=some t->P.readableRec t=true/\t<P.types.size):
  s.post enc P f false true false false W args (.bool true) W':=by
 have hlt:∀ p∈before,p.block<W.heap.size:=fun p hp=>hW.lt p hp
 have hold:∀ p∈before,(fun b=>decide (b<W.heap.size)) p.block=true:=fun p hp=>by simpa using hlt p hp
 have hW':=hW;obtain ⟨p,q,hA,hV,rfl,_,_⟩:=hW';refine ⟨ds,gs,p++q,[],p,q,hW,?_,?_,?_,World.keptBut_mono (fun x hx=>⟨hx,?_⟩) (hb.frame (·∈p++q)),fun h=>by cases h⟩
 ·rw[hs,hrt];exact trodAll_mk1<|shut_bool htb _
 ·rw[hs];exact Ad4 hl hb hp hA (fun x hx=>hlt x<|mem_append_left _ hx) fun x hx=>hold x<|mem_append_left _ hx
 ·rw[hs];exact Ado hl hb hv hV (fun x hx=>hlt x<|mem_append_right _ hx) fun x hx=>hold x<|mem_append_right _ hx
 ·exact Or.inr<|mem_append.1 hx
theorem open_struct{r:Reach}{b0 base:Nat}{spare:Nat->Bool}{held:Bool}{t:TypeId}{fs:Array Field}{ty:Ty}{v:Value}{d:DataW H}{p:List MemPlace}(hs:P.underlying t=some (.struct fs))(hf:∃ n,Ty.fits P n ty t=true)
  (hv:Value.okWide P W r b0 t v) (h:DataW.Trod enc P W base spare held t v d p):∃(cs:LV) (x:ty.D) (l:List Addr),v=.agg cs.toArray/\Ty.Val (fun _=>True) W ty cs x l/\Ty.In ty x:=by
 obtain ⟨cs,rfl,_⟩:=okWide_struct hs hv;have ⟨fuel,h⟩:=h;have ⟨n,hf⟩:=hf;have ⟨x,l,hx,hi⟩:=Ty.open_ n ty t _ _ fuel hf h;exact ⟨cs.toList,x,l,by simp,by simpa [Value.cells] using hx,hi⟩
theorem open_sl{r:Reach}{b0 base:Nat}{spare:Nat->Bool}{held:Bool}{t e:TypeId}{ty:Ty}{v:Value}{d:DataW H}{p:List MemPlace}(hs:P.underlying t=some (.slice e))(hf:∃ n,Ty.fits P n (.slice ty) t=true)
  (hv:Value.okWide P W r b0 t v) (h:DataW.Trod enc P W base spare held t v d p):∃(A:Option Addr) (c:Nat) (xs:List ty.D) (l:List Addr),v=.slice A xs.length c/\Sl (fun _=>True) W ty A c xs l/\Ty.In (.slice ty) xs:=by
 obtain ⟨A,n',c,rfl⟩:=okWide_slice hs hv;have ⟨fuel,h⟩:=h;have ⟨n,hf⟩:=hf;have ⟨x,l,⟨A',c',e',hx⟩,hi⟩:=Ty.open_ n (.slice ty) t _ _ fuel hf h;simp[Value.cells]at e';obtain ⟨rfl,rfl,rfl⟩:=e';exact ⟨A,c,x,l,rfl,hx,hi⟩
end
end
section
theorem Qi{R:NP}{w:World}{t:Ty}{A:Option Addr}{c:Nat}{xs:List t.D}{l:List Addr}(h:Sl R w t A c xs l):xs.length<=c/\xs.length<=9223372036854775807:=
 ⟨h.1,by have:=h.2.1;have:=h.1;simp only[maxLen]at *;omega⟩
def Ty.flat:Ty->Bool
 | .int | .bool | .str=>true
 | .slice _=>false
 | .pair a b=>a.flat&&b.flat
def Ty.enc:(t:Ty)->t.D->LV
 | .int,n=>[.int .i64 n]
 | .bool,b=>[.bool b]
 | .str,s=>[.string s]
 | .slice _,_=>[]
 | .pair a b,x=>a.enc x.1++b.enc x.2
theorem Ty.enc_length:∀{t:Ty} (x:t.D),t.flat=true->(t.enc x).length=t.size
 | .int,_,_=>rfl
 | .bool,_,_=>rfl
 | .str,_,_=>rfl
 | .slice _,_,h=>by simp[Ty.flat]at h
 | .pair a b,x,h=>by
  simp only[Ty.flat,fT]at h;simp only[Ty.enc,length_append,Ty.enc_length _ h.1,Ty.enc_length _ h.2,Ty.size]
theorem Y7(a b:Nat)(ad:Addr):(range (a+b)).map (ad.add ·)=(range a).map (ad.add ·)++(range b).map ((ad.add a).add ·):=by
 rw[range_add,map_append,map_map];congr 1;exact map_congr_left fun j _=>by simp[Di]
theorem Ty.mem_flat{R:NP}{w:World}:∀{t:Ty} {a:Addr} {x:t.D},t.flat=true->(∀ j,j<t.size->w.cell? (a.add j)=(t.enc x)[j]?)->Ty.Mem R w t a x ((range t.size).map (a.add ·))
 | .int,a,x,_,h=>⟨by simpa [Ty.enc,Addr.add] using h 0 (by simp[Ty.size]),by simp[Ty.size,Addr.add,range_succ]⟩
 | .bool,a,x,_,h=>⟨by simpa [Ty.enc,Addr.add] using h 0 (by simp[Ty.size]),by simp[Ty.size,Addr.add,range_succ]⟩
 | .str,a,x,_,h=>⟨by simpa [Ty.enc,Addr.add] using h 0 (by simp[Ty.size]),by simp[Ty.size,Addr.add,range_succ]⟩
 | .slice _,_,_,hf,_=>by simp[Ty.flat]at hf
 | .pair t u,a,x,hf,h=>by
  simp only[Ty.flat,fT]at hf;refine ⟨_,_,Ty.mem_flat hf.1 (fun j hj=>?_),Ty.mem_flat (a:=a.add t.size) hf.2 (fun j hj=>?_),Y7 _ _ _⟩
  ·rw[h j (by simp only[Ty.size];omega)];simp only[Ty.enc];rw[getElem?_append_left (by rw[Ty.enc_length _ hf.1];exact hj)]
  ·rw[Di,h _ (by simp only[Ty.size];omega)];simp only[Ty.enc];rw[getElem?_append_right (by rw[Ty.enc_length _ hf.1];omega),Ty.enc_length _ hf.1];congr 1;omega
theorem Ty.Mem.flat{R:NP}{w:World}:∀{t:Ty} {a:Addr} {x:t.D} {l:List Addr},t.flat=true->Ty.Mem R w t a x l->(∀ j,j<t.size->w.cell? (a.add j)=(t.enc x)[j]?)/\l=(range t.size).map (a.add ·)
 | .int, a, x, l, _, ⟨h, e⟩ => ⟨fun j hj => by obtain rfl : j = 0 := by simp[Ty.size]at hj; omega
                                               simpa [Ty.enc,Addr.add] using h,by simp[e,Ty.size,Addr.add,range_succ]⟩
 | .bool, a, x, l, _, ⟨h, e⟩ => ⟨fun j hj => by obtain rfl : j = 0 := by simp[Ty.size]at hj; omega
                                                simpa [Ty.enc,Addr.add] using h,by simp[e,Ty.size,Addr.add,range_succ]⟩
 | .str, a, x, l, _, ⟨h, e⟩ => ⟨fun j hj => by obtain rfl : j = 0 := by simp[Ty.size]at hj; omega
                                               simpa [Ty.enc,Addr.add] using h,by simp[e,Ty.size,Addr.add,range_succ]⟩
 | .slice _,_,_,_,hf,_=>by simp[Ty.flat]at hf
 | .pair t u,a,x,l,hf,⟨l1,l2,h1,h2,e⟩=>by
  simp only[Ty.flat,fT]at hf;obtain ⟨c1,rfl⟩:=Ty.Mem.flat hf.1 h1;obtain ⟨c2,rfl⟩:=Ty.Mem.flat hf.2 h2;refine ⟨fun j hj=>?_,e.trans (Y7 _ _ _).symm⟩;simp only[Ty.enc];by_cases h:j<t.size
  ·rw[c1 j h,getElem?_append_left (by rw[Ty.enc_length _ hf.1];exact h)]
  ·rw[getElem?_append_right (by rw[Ty.enc_length _ hf.1];omega),Ty.enc_length _ hf.1,← c2 (j - t.size) (by simp only[Ty.size]at hj;omega),Di];congr 2;omega
section
variable{R:NP}{w:World}{t:Ty}{A:Option Addr}{c:Nat}{xs:List t.D}{l:List Addr}
theorem An7(g n c:Nat):(range n).flatMap (fun i=>(range c).map (((⟨g,0,none⟩:Addr).add (i*c)).add ·))=(range (n*c)).map fun j=>(⟨g,j,none⟩:Addr):=by
 induction n with
 | zero=>simp
 | succ n ih=>
  rw[range_succ,flatMap_append,ih,Nat.succ_mul,range_add,map_append,map_map];congr 1;simp only[flatMap_cons,flatMap_nil,append_nil];refine map_congr_left fun j _=>?_
  rw[Di];simp only[Function.comp_apply,Addr.add];split <;> simp_all
theorem Agi{P:Program}(t e:TypeId)(z:Array Value)(sz bytes:Nat)(ht:P.underlying t=some (.slice e))(hinfo:(P.info? e).map (fun i=>(i.zero.map (·.cells),i.size,i.bytes))=some (some z,sz,bytes))
  (kl kc:IntKind) (n:Nat) (hbytes:bytes*n<=281474976710656) (h63:n<=9223372036854775807) (w:World):
  (Instr.makeSlice t (.int kl (n:Int)) (.int kc (n:Int))).run P w=.ok (.slice (some ⟨w.heap.size,0,none⟩) n n) (w.alloc (.cells (madeCells z (n*sz)) e)):=by
 have ⟨i,hi,hzz⟩:=oms.1 hinfo;simp only[Prod.mk.injEq,oms]at hzz;obtain ⟨⟨z',hz,rfl⟩,rfl,rfl⟩:=hzz
 have hb:(i.bytes:Int)*(n:Int)<=281474976710656:=by
  have h:((i.bytes*n:Nat):Int)<=281474976710656:=by omega
  rwa [Int.natCast_mul]at h
 have hr:=run_make (P:=P) w t e i z' ht hi hz kl kc n n oM oM hb oM;simp only[fX]at hr;exact hr
theorem Alp(w:World)(z:Array Value)(n:Nat)(t:TypeId):(w.alloc (.cells (madeCells z n) t)).rowIs w.heap.size t n (fun j=>z[j % z.size]!):=by
 have:=World.rowIs_alloc w (madeCells z n) t (fun j=>z[j % z.size]!) fun i hi=>by simp[madeCells]at hi;simp[madeCells,hi]
 rwa [show (madeCells z n).size=n by simp[madeCells]]at this
end
def Al5(n:Nat)(acc:List UInt8):List UInt8:=if h:n=0 then acc else Al5 (n / 10) (UInt8.ofNat (48+n % 10) :: acc)
termination_by n
decreasing_by omega
def Aoc(k:Int):ByteArray:=⟨(109 :: if k<=0 then [48] else Al5 k.toNat []).toArray⟩
def Wg:Value->Int->Value
 | .int ik _,n=>.int ik n
 | .bool _,n=>.bool (decide (n % 3=0))
 | .string _,n=>.string (Aoc n)
 | v,_=>v
theorem Aer{P:Program}{f:FuncId}{args args':Array Value}{w:World}{Q:Ending->WP}(h:args'=args)(H:Calls P f args w Q):Calls P f args' w Q:=h▸H
structure MarkedAs(l:List Addr)(k:Int)(w w':World):Prop where
 frame:Marked l w w'
 val:∀(i:Nat) (h:i<l.length),∃ u,w.cell? l[i]=some u/\Afj u/\w'.cell? l[i]=some (Wg u (k+i))
def HeldAs(l:List Addr)(k:Int)(w:World):Prop:=∀(i:Nat) (h:i<l.length),∃ u,Afj u/\w.cell? l[i]=some (Wg u (k+i))
section
variable{R:NP}{w w1 w2 w':World}{k:Int}{lo:Nat}{l l1 l2:List Addr}
theorem MarkedAs.nil(w:World)(k:Int):MarkedAs [] k w w:=⟨Marked.of_below (Below.refl _ _),fun i h=>absurd h fS⟩
theorem MarkedAs.held(h:MarkedAs l k w w'):HeldAs l k w':=fun i hi=>by
 have ⟨u,_,hl,hc⟩:=h.val i hi;exact ⟨u,hl,hc⟩
theorem HeldAs.below(h:HeldAs l k w)(hb:Below w.heap.size w w'):HeldAs l k w':=fun i hi=>by
 have ⟨u,hl,hc⟩:=h i hi;exact ⟨u,hl,A7 hb hc⟩
theorem HeldAs.left(h:HeldAs (l1++l2) k w):HeldAs l1 k w:=fun i hi=>by
 have:=h i (by rw[length_append];omega)
 rwa [getElem_append_left hi]at this
theorem HeldAs.right(h:HeldAs (l1++l2) k w):HeldAs l2 (k+l1.length) w:=fun i hi=>by
 have:=h (l1.length+i) (by rw[length_append];omega);rw[getElem_append_right oM]at this;simp only[Nat.add_sub_cancel_left,Int.natCast_add]at this
 rwa [← Int.add_assoc]at this
theorem MarkedAs.below(h:MarkedAs l k w w1)(hb:Below w1.heap.size w1 w2):MarkedAs l k w w2:=by
 refine ⟨by simpa using h.frame.trans (Marked.of_below hb),fun i hi=>?_⟩;have ⟨u,hc,hl,hm⟩:=h.val i hi;exact ⟨u,hc,hl,A7 hb hm⟩
theorem MarkedAs.after(hb:Below w.heap.size w w1)(h:MarkedAs l k w1 w2)(hl:∀ p∈l,p.block<w.heap.size):MarkedAs l k w w2:=by
 refine ⟨by simpa using (Marked.of_below hb).trans h.frame,fun i hi=>?_⟩;have ⟨u,hc,hu,hm⟩:=h.val i hi;exact ⟨u,(hb.cell<|hl _<|getElem_mem hi).symm.trans hc,hu,hm⟩
theorem MarkedAs.append(h1:MarkedAs l1 k w w1)(h2:MarkedAs l2 (k+l1.length) w1 w2)(hf:Fresh w lo (l1++l2)):MarkedAs (l1++l2) k w w2:=by
 have hd:=(nodup_append.1 hf.1).2.2;refine ⟨h1.frame.trans h2.frame,fun i hi=>?_⟩;by_cases h:i<l1.length
 ·rw[getElem_append_left h];have ⟨u,hc,hl,hm⟩:=h1.val i h;refine ⟨u,hc,hl,(h2.frame.cell _ (World.block_lt_of_cell? w1 _ hm) fun hp=>?_).trans hm⟩;exact hd _ (getElem_mem h) _ hp rfl
 ·rw[getElem_append_right oM];have hi2:i - l1.length<l2.length:=by rw[length_append]at hi;omega
  have ⟨u,hc,hl,hm⟩:=h2.val (i - l1.length) hi2;have hp:l2[i - l1.length]∈l2:=getElem_mem hi2;refine ⟨u,(h1.frame.cell _ (hf.2 _<|mem_append_right _ hp).2.1 fun hq=>hd _ hq _ hp rfl).symm.trans hc,hl,?_⟩;rw[hm];congr 2;omega
theorem MarkedAs.cellOf{j i:Nat}{u:Value}(h:MarkedAs (l.take j) k w w1)(hf:Fresh w lo l)(hj:j<=i)(hi:i<l.length)(hu:w.cell? l[i]=some u):w1.cell? l[i]=some u:=by
 refine (h.frame.cell _ (World.block_lt_of_cell? w _ hu) fun hp=>?_).trans hu;have ⟨q,hq,he⟩:=mem_take_iff_getElem.1 hp;have:=(getElem_inj hf.1).1 he;omega
theorem MarkedAs.thaw(h:MarkedAs l1 k w w1)(hf:Fresh w lo l){p:Addr}(hp:p∈l):w1.frozen? p=false:=
 (h.frame.frozen _ (hf.2 _ hp).2.1).trans (hf.2 _ hp).2.2
theorem MarkedAs.step{j:Nat}{u:Value}(h:MarkedAs (l.take j) k w w1)(hf:Fresh w lo l)(hj:j<l.length)(hu:w.cell? l[j]=some u)(hl:Afj u){p:Addr}{v:Value}(hp:p=l[j])(hv:v=Wg u (k+j)):
  MarkedAs (l.take (j+1)) k w (w1.setCell p v):=by
 subst hp hv;have hc:=h.cellOf hf (fQ j) hj hu;rw[take_succ_eq_append_getElem hj];refine h.append (lo:=lo) ⟨Marked.setCell w1 l[j] _,fun i hi=>?_⟩ ?_
 ·obtain rfl:i=0:=by simp at hi;omega
  refine ⟨u,hc,hl,?_⟩;have hlen:(l.take j).length=j:=by rw[length_take];omega
  simp only[getElem_singleton,hlen];rw[World.cell?_setCell_same _ _ _ hc];simp
 ·rw[← take_succ_eq_append_getElem hj];exact ⟨hf.1.sublist<|take_sublist _ _,fun p hp=>hf.2 p<|mem_of_mem_take hp⟩
theorem MarkedAs.size(h:MarkedAs l k w w'):w.heap.size<=w'.heap.size:=h.frame.size
theorem MarkedAs.belowAt{B:Nat}(h:MarkedAs l k w w')(hl:∀ p∈l,B<=p.block)(hB:B<=w.heap.size):Below B w w':=h.frame.below hl hB
theorem MarkedAs.aboveAt{B:Nat}(h:MarkedAs l k w w')(hl:∀ p∈l,p.block<B):Above B w w' :=
 ⟨h.size,fun q hq hs=>h.frame.block q hs (fun p hp e=>by have:=hl p hp;omega)⟩
theorem Ty.Mem.remark(hk:∀ p u,w.cell? p=some u->(¬ Afj u->w'.cell? p=some u)/\(∀ k n,u=.int k n->∃ m,w'.cell? p=some (.int k m))/\(∀ b,u=.bool b->∃ c,w'.cell? p=some (.bool c))/\(∀ s,u=.string s->∃ t,w'.cell? p=some (.string t))):
  ∀{t:Ty} {a:Addr} {x:t.D} {l:List Addr},Ty.Mem R w t a x l->∃ y:t.D,Ty.Mem R w' t a y l/\(∀(u:Ty) (e:t=.slice u) ,(cast (by rw[e]) y:(Ty.slice u).D).length=(cast (by rw[e]) x:(Ty.slice u).D).length)
 | .int,a,x,l,⟨h,e⟩=>by
  have ⟨m,hm⟩:=(hk _ _ h).2.1 _ _ rfl;exact ⟨m,⟨hm,e⟩,fun u e=>by cases e⟩
 | .bool,a,x,l,⟨h,e⟩=>by
  have ⟨m,hm⟩:=(hk _ _ h).2.2.1 _ rfl;exact ⟨m,⟨hm,e⟩,fun u e=>by cases e⟩
 | .str,a,x,l,⟨h,e⟩=>by
  have ⟨m,hm⟩:=(hk _ _ h).2.2.2 _ rfl;exact ⟨m,⟨hm,e⟩,fun u e=>by cases e⟩
 | .slice t,a,x,l,⟨A,c,h,h1,h2,f,e,hf⟩=>by
  have hc:=(hk _ _ h).1 (fun hl=>hl)
  have hex:∀ i,i<x.length->∃ d:t.D,Ty.Mem R w' t ((A.getD default).add (i*t.size)) d (f i):=by
   intro i hi;obtain ⟨ad,rfl,hr,hm⟩:=hf oM;have ⟨d,hd,_⟩:=Ty.Mem.remark hk<|hm i hi;exact ⟨d,hd⟩
  have hg:∃ g:Nat->t.D,∀ i,i<x.length->Ty.Mem R w' t ((A.getD default).add<|i*t.size) (g i) (f i):=by
   rcases Nat.eq_zero_or_pos x.length with h0|h0
   ·exact ⟨fun _=>Ty.dflt t,fun i hi'=>absurd hi' oM⟩
   ·have:Inhabited t.D:=⟨(hex 0 h0).choose⟩
    exact Deep.choose_lt hex
  have ⟨g,hg⟩:=hg;have hlen:((range x.length).map g).length=x.length:=by simp
  refine ⟨((range x.length).map g:List t.D),⟨A,c,by rw[hlen];exact hc,by rw[hlen];exact h1,h2,f,by rw[hlen];exact e,fun h0=>?_⟩,fun u e=>by cases e;simp⟩;rw[hlen]at h0;obtain ⟨ad,rfl,hr,hm⟩:=hf h0;refine ⟨ad,rfl,hr,fun i hi=>?_⟩;rw[hlen]at hi
  simpa using hg i hi
 | .pair t u,a,x,l,⟨l1,l2,h1,h2,e⟩=>by
  have ⟨y1,m1,_⟩:=Ty.Mem.remark hk h1;have ⟨y2,m2,_⟩:=Ty.Mem.remark hk h2;exact ⟨(y1,y2),⟨l1,l2,m1,m2,e⟩,fun u e=>by cases e⟩
theorem MarkedAs.kinds(h:MarkedAs l k w w'):∀ p u,w.cell? p=some u->(¬ Afj u->w'.cell? p=some u)/\(∀ k n,u=.int k n->∃ m,w'.cell? p=some (.int k m))/\(∀ b,u=.bool b->∃ c,w'.cell? p=some (.bool c))/\(∀ s,u=.string s->∃ t,w'.cell? p=some (.string t)):=by
 intro p u hc;have hlt:=World.block_lt_of_cell? w p hc;by_cases hp:p∈l
 ·obtain ⟨i,hi,rfl⟩:=mem_iff_getElem.1 hp;have ⟨u',hu',hl,hm⟩:=h.val i hi;rw[hc]at hu';cases hu';refine ⟨fun hn=>absurd hl hn,?_,?_,?_⟩
  ·rintro q n rfl;exact ⟨_,hm⟩
  ·rintro b rfl;exact ⟨_,hm⟩
  ·rintro b rfl;exact ⟨_,hm⟩
 ·have hs:=(h.frame.cell p hlt hp).trans hc;refine ⟨fun _=>hs,?_,?_,?_⟩
  ·rintro q n rfl;exact ⟨_,hs⟩
  ·rintro b rfl;exact ⟨_,hs⟩
  ·rintro b rfl;exact ⟨_,hs⟩
theorem MarkedAs.keepSl{t:Ty}{A:Option Addr}{c:Nat}{xs:List t.D}{l':List Addr}(h:MarkedAs l k w w')(hs:Sl R w t A c xs l')(hd:∀ p∈l',p∉l):Sl R w' t A c xs l' :=
 Aij hs (h.frame.stays (fun p hp=>by
  obtain ⟨i,hi,rfl⟩:=mem_iff_getElem.1 hp;have ⟨u,hu,hl,_⟩:=h.val i hi;exact ⟨u,hu,hl⟩) hd)
theorem MarkedAs.sl{t:Ty}{A:Option Addr}{c:Nat}{xs:List t.D}{l':List Addr}(h:MarkedAs l k w w')(hs:Sl R w t A c xs l'):∃ ys:List t.D,ys.length=xs.length/\Sl R w' t A c ys l':=by
 have ⟨h1,h2,f,e,hf⟩:=hs
 have hex:∀ i,i<xs.length->∃ d:t.D,Ty.Mem R w' t ((A.getD default).add<|i*t.size) d (f i):=by
  intro i hi;obtain ⟨ad,rfl,hr,hm⟩:=hf oM;have ⟨d,hd,_⟩:=Ty.Mem.remark h.kinds<|hm i hi;exact ⟨d,hd⟩
 have hg:∃ g:Nat->t.D,∀ i,i<xs.length->Ty.Mem R w' t ((A.getD default).add<|i*t.size) (g i) (f i):=by
  rcases Nat.eq_zero_or_pos xs.length with h0|h0
  ·exact ⟨fun _=>Ty.dflt t,fun i hi'=>absurd hi' oM⟩
  ·have:Inhabited t.D:=⟨(hex 0 h0).choose⟩
   exact Deep.choose_lt hex
 have ⟨g,hg⟩:=hg;have hlen:((range xs.length).map g).length=xs.length:=by simp
 refine ⟨(range xs.length).map g,hlen,by rw[hlen];exact h1,h2,f,by rw[hlen];exact e,fun h0=>?_⟩;rw[hlen]at h0;obtain ⟨ad,rfl,hr,hm⟩:=hf h0;refine ⟨ad,rfl,hr,fun i hi=>?_⟩;rw[hlen]at hi
 simpa using hg i hi
end
def Ty.cnt:(t:Ty)->t.D->Nat
 | .int,_ | .bool,_ | .str,_=>1
 | .slice t,xs=>(xs.map (Ty.cnt t)).sum
 | .pair a b,x=>Ty.cnt a x.1+Ty.cnt b x.2
theorem Aa8{α:Type}(f:Nat->List Addr)(g:α->Nat)(xs:List α)(h:∀(i:Nat) (hi:i<xs.length),(f i).length=g xs[i]):((range xs.length).flatMap f).length=(xs.map g).sum:=by
 have:(range xs.length).map (fun i=>(f i).length)=xs.map g:=by
  refine ext_getElem fS fun i h1 h2=>?_
  simp only[length_map,length_range]at h1
  simpa using h i h1
 rw[length_flatMap,this]
theorem Ty.Mem.cnt{R:NP}{w:World}:∀{t:Ty} {a:Addr} {x:t.D} {l:List Addr},Ty.Mem R w t a x l->l.length=t.cnt x
 | .int,_,_,_,⟨_,e⟩=>by rw[e];rfl
 | .bool,_,_,_,⟨_,e⟩=>by rw[e];rfl
 | .str,_,_,_,⟨_,e⟩=>by rw[e];rfl
 | .slice t,_,x,_,⟨A,c,_,_,_,f,e,hf⟩=>by
  rw[e]
  exact Aa8 f _ x fun i hi=>by
   have ⟨ad,_,_,hm⟩:=hf oM;exact Ty.Mem.cnt (hm i hi)
 | .pair a b,_,x,_,⟨l1,l2,h1,h2,e⟩=>by
  rw[e,length_append,Ty.Mem.cnt h1,Ty.Mem.cnt h2];rfl
theorem An0{R:NP}{w:World}{t:Ty}{A:Option Addr}{c:Nat}{xs:List t.D}{l:List Addr}(h:Sl R w t A c xs l):l.length=(xs.map t.cnt).sum:=by
 have ⟨_,_,f,e,hf⟩:=h;rw[e]
 exact Aa8 f _ xs fun i hi=>by
  have ⟨ad,_,_,hm⟩:=hf oM;exact (hm i hi).cnt
theorem Ty.cnt_flat:∀{t:Ty} (x:t.D),t.flat=true->t.cnt x=t.size
 | .int,_,_=>rfl
 | .bool,_,_=>rfl
 | .str,_,_=>rfl
 | .slice _,_,h=>by simp[Ty.flat]at h
 | .pair a b,x,h=>by
  simp only[Ty.flat,fT]at h;simp only[Ty.cnt,Ty.cnt_flat _ h.1,Ty.cnt_flat _ h.2,Ty.size]
theorem Re{R:NP}{w:World}{t:Ty}{A:Option Addr}{c:Nat}{xs:List t.D}{l:List Addr}(hfl:t.flat=true)(h:Sl R w t A c xs l)(h0:0<xs.length):
  ∃ b o,A=some ⟨b,o,none⟩/\l=(range (xs.length*t.size)).map (fun j=>(⟨b,o+j,none⟩:Addr))/\∀(i:Nat) (hi:i<xs.length) (j:Nat),j<t.size->w.cell? ⟨b,o+(i*t.size+j),none⟩=(t.enc xs[i])[j]?:=by
 obtain ⟨b,o,f,rfl,hr,_,e,hf⟩:=Asb h h0;refine ⟨b,o,rfl,?_,fun i hi j hj=>?_⟩
 ·rw[e]
  have:∀ n,n<=xs.length->(range n).flatMap f=(range<|n*t.size).map (fun j=>(⟨b,o+j,none⟩:Addr)):=by
   intro n
   induction n with
   | zero=>intro _;simp
   | succ n ih=>
    intro hn;rw[range_succ,flatMap_append,ih oM,Nat.succ_mul,range_add,map_append,map_map];congr 1;simp only[flatMap_cons,flatMap_nil,append_nil];rw[((hf n oM).flat hfl).2];refine map_congr_left fun j _=>?_
    rw[Cn];simp[Nat.add_assoc]
  exact this _<|fQ _
 ·have:=((hf i hi).flat hfl).1 j hj
  rwa [Cn,Nat.add_assoc]at this
theorem Q5{R:NP}{w:World}{t:Ty}{A:Option Addr}{c:Nat}{xs:List t.D}{l:List Addr}(hfl:t.flat=true)(h:Sl R w t A c xs l):l.length=xs.length*t.size:=by
 rw[An0 h];have:xs.map t.cnt=xs.map (fun _=>t.size):=map_congr_left fun x _=>Ty.cnt_flat x hfl
 rw[this,map_const',sum_replicate_nat]
theorem Ah7{R:NP}(xs:List Int)(A:Option Addr)(c:Nat)(l:List Addr)(k:Int)(lo:Nat)(w:World)(h:Sl R w .int A c xs l)(hf:Fresh w lo l)(hk:0<=k/\k+l.length<=9223372036854775807):
  Calls Tryz.prog 73 #[.slice A xs.length c,.int .i64 k] w fun e w'=>e=.returned (.int .i64 (k+l.length))/\MarkedAs l k w w':=by
 have hn:=(Qi h).2;have hlen:=Q5 rfl h;simp only[Ty.size,Nat.mul_one]at hlen
 go_enter Tryz.func73,Tryz.ntmps73
 go_wp2
 go_loopw [1,5] (fun m i wr=>∃ j:Nat,j<=xs.length/\i=.int .i64 j/\m=.int .i64 (k+j)/\MarkedAs (l.take j) k w wr) fun _ i _=>xs.length - (intOf i).toNat
 case atStart=>exact ⟨0,by omega,rfl,by simp,MarkedAs.nil w k⟩
 case round=>
  obtain ⟨j,hj,rfl,rfl,hm⟩:=hrel;by_cases hlt:j<xs.length
  ·obtain ⟨b,o,rfl,hl,hcell⟩:=Re rfl h oM;have hc:=hcell j hlt 0 (by decide);simp only[Ty.size,Nat.mul_one,Nat.add_zero,Ty.enc,getElem?_cons_zero]at hc;have hp:l[j]'oM=⟨b,o+j,none⟩:=by simp[hl,Ty.size]
   have hc':=hm.cellOf hf (fQ j) oM (by rw[hp];exact hc);have hz:=hm.thaw hf (p:=l[j]'oM)<|getElem_mem _;rw[hp]at hc' hz;obtain ⟨x,hx⟩:∃ x,x=xs[j]:=⟨_,rfl⟩
   rw[← hx]at hc' hc;have hM:=Lib.hid<|hm.step hf oM (u:=.int .i64 x) (by rw[hp];exact hc) trivial hp.symm (v:=.int .i64<|k+j) rfl
   clear hcell hx hm
   go_wp2
   go_roundw
   case rel=>exact ⟨j+1,by omega,by go_num,by congr 1;omega,hM.out⟩
   case measure=>simp[intOf];omega
  ·obtain rfl:j=xs.length:=by omega
   go_wp2
   go_ret
   rw[take_of_length_le oM]at hm;exact ⟨Vp (by rw[hlen]),hm⟩
theorem Aj2{R:NP}(xs:List Int)(A:Option Addr)(c:Nat)(l:List Addr)(k:Int)(w:World)(h:Sl R w .int A c xs l)(hh:HeldAs l k w)(hk:0<=k/\k+l.length<=9223372036854775807):
  Calls Tryz.prog 74 #[.slice A xs.length c,.int .i64 k] w fun e w'=>e=.returned (.int .i64 (k+l.length))/\Below w.heap.size w w':=by
 have hn:=(Qi h).2;have hlen:=Q5 rfl h;simp only[Ty.size,Nat.mul_one]at hlen
 go_enter Tryz.func74,Tryz.ntmps74
 go_wp2
 go_loopw [1,5] (fun m i wr=>∃ j:Nat,j<=xs.length/\i=.int .i64 j/\m=.int .i64 (k+j)/\Below w.heap.size w wr) fun _ i _=>xs.length - (intOf i).toNat
 case atStart=>exact ⟨0,by omega,rfl,by simp,fG⟩
 case round=>
  obtain ⟨j,hj,rfl,rfl,hbl⟩:=hrel;by_cases hlt:j<xs.length
  ·obtain ⟨b,o,rfl,hl,hcell⟩:=Re rfl h oM;have hc:=hcell j hlt 0 (by decide);simp only[Ty.size,Nat.mul_one,Nat.add_zero,Ty.enc,getElem?_cons_zero]at hc;have hp:l[j]'oM=⟨b,o+j,none⟩:=by simp[hl,Ty.size]
   have ⟨u,hu,hm⟩:=hh j oM;rw[hp,hc]at hm;have hx:xs[j]=k+j:=by cases u <;> simp[Wg]at hm;exact hm.2
   have hc1:=A7 hbl hc;rw[hx]at hc1
   clear hcell hc hm hx
   go_wp2
   go_roundw
   case rel=>exact ⟨j+1,by omega,by go_num,by congr 1;omega,hbl⟩
   case measure=>simp[intOf];omega
  ·obtain rfl:j=xs.length:=by omega
   go_wp2
   go_ret
   exact ⟨Vp (by rw[hlen]),hbl⟩
theorem Aym{R:NP}{w:World}{t:Ty}{A:Option Addr}{c:Nat}{xs:List (List t.D)}{l:List Addr}(h:Sl R w (.slice t) A c xs l):
  ∃(b o:Nat) (f:Nat->List Addr),(0<xs.length->A=some ⟨b,o,none⟩/\R b)/\l=(range xs.length).flatMap f/\∀(k:Nat) (hk:k<xs.length),∃ Ak ck,w.cell? ⟨b,o+k,none⟩=some (.slice Ak (xs[k]'hk).length ck)/\Sl R w t Ak ck (xs[k]'hk) (f k):=by
 rcases Nat.eq_zero_or_pos xs.length with h0|h0
 ·have ⟨_,_,f,e,_⟩:=h;exact ⟨0,0,f,fun h=>absurd h oM,e,fun k hk=>absurd hk oM⟩
 ·obtain ⟨b,o,f,rfl,hr,_,e,hf⟩:=Asb h h0;refine ⟨b,o,f,fun _=>⟨rfl,hr⟩,e,fun k hk=>?_⟩;have ⟨Ak,ck,hc,he⟩:=hf k hk;exact ⟨Ak,ck,by simpa [Ty.size] using hc,he⟩
theorem Pg(f:Nat->List Addr)(j:Nat):(range (j+1)).flatMap f=(range j).flatMap f++f j:=by rw[range_succ,flatMap_append];simp
theorem Vh(f:Nat->List Addr){j n:Nat}(h:j<n):∃ r,(range n).flatMap f=(range j).flatMap f++(f j++r):=by
 obtain ⟨d,rfl⟩:∃ d,n=(j+1)+d:=⟨n - (j+1),by omega⟩
 exact ⟨((range d).map ((j+1)+·)).flatMap f,by rw[range_add,flatMap_append,Pg,append_assoc]⟩
theorem MarkedAs.header{l:List Addr}{k:Int}{w w':World}(h:MarkedAs l k w w'){p:Addr}{A:Option Addr}{n c:Nat}(hc:w.cell? p=some (.slice A n c)):w'.cell? p=some (.slice A n c):=
 (h.kinds p _ hc).1 fun hl=>hl
set_option maxRecDepth 100000 in
theorem We{R:NP}(xs:ZA)(A:Option Addr)(c:Nat)(l:List Addr)(k:Int)(lo:Nat)(w:World)(h:Sl R w (.slice .int) A c xs l)(hf:Fresh w lo l)(hk:0<=k/\k+l.length<=9223372036854775807):
  Calls Tryz.prog 38 #[.slice A xs.length c,.int .i64 k] w fun e w'=>e=.returned (.int .i64 (k+l.length))/\MarkedAs l k w w':=by
 have hn:=(Qi h).2;obtain ⟨b,o,f,hA,rfl,hs⟩:=Aym h
 go_enter Tryz.func38,Tryz.ntmps38
 go_wp2
 go_loopw [1,5] (fun m i wr=>∃(j:Nat) (F:List Addr),Hid (F=(range j).flatMap f)/\j<=xs.length/\i=.int .i64 j/\m=.int .i64 (k+F.length)/\MarkedAs F k w wr) fun _ i _=>xs.length - (intOf i).toNat
 case atStart=>exact ⟨0,[],rfl,by omega,rfl,by simp,MarkedAs.nil w k⟩
 case round=>
  obtain ⟨j,F,hFe,hj,rfl,rfl,hm⟩:=hrel;by_cases hlt:j<xs.length
  ·obtain ⟨rfl,_⟩:=hA oM;have ⟨Ak,ck,hc,hsk⟩:=hs j hlt;have ⟨r,hr⟩:=Vh f hlt;rw[← hFe.out]at hr;have hcr:=hm.header hc;have hf2:=hf;rw[hr]at hf2;have hk2:=hk;rw[hr]at hk2;simp only[length_append]at hk2;have hF:Fresh w lo (F++f j):=by rw[← append_assoc]at hf2;exact hf2.sub1
   have hskr:=hm.keepSl hsk fun p hp hq=>(nodup_append.1 hF.1).2.2 _ hq _ hp rfl;obtain ⟨x,hx⟩:∃ x,x=xs[j]:=⟨_,rfl⟩
   rw[← hx]at hc hsk hcr hskr;have HF:=Lib.hid hF;have HM:=Lib.hid hm
   clear hm hF hf2 hr hc hx
   go_wp2_with fail
   refine (Ah7 x Ak ck (f j) (k+F.length) lo _ hskr (HF.out.sub2.marked HM.out.frame) oM).mono ?_;rintro e w1 ⟨rfl,hm1⟩;have hM:=Lib.hid<|HM.out.append hm1 HF.out
   clear hm1
   go_wp2_with fail
   go_roundw
   case rel=>exact ⟨j+1,F++f j,Lib.hid (by rw[Pg,← hFe.out]),by omega,by go_num,by simp only[length_append];congr 1;omega,hM.out⟩
   case measure=>simp[intOf];omega
  ·obtain rfl:j=xs.length:=by omega
   go_wp2
   go_ret
   rw[← hFe.out];exact ⟨rfl,hm⟩
set_option maxRecDepth 100000 in
theorem Agl{R:NP}(xs:ZA)(A:Option Addr)(c:Nat)(l:List Addr)(k:Int)(w:World)(h:Sl R w (.slice .int) A c xs l)(hh:HeldAs l k w)(hk:0<=k/\k+l.length<=9223372036854775807):
  Calls Tryz.prog 39 #[.slice A xs.length c,.int .i64 k] w fun e w'=>e=.returned (.int .i64 (k+l.length))/\Below w.heap.size w w':=by
 have hn:=(Qi h).2;obtain ⟨b,o,f,hA,rfl,hs⟩:=Aym h
 go_enter Tryz.func39,Tryz.ntmps39
 go_wp2
 go_loopw [1,5] (fun m i wr=>∃(j:Nat) (F:List Addr),Hid (F=(range j).flatMap f)/\j<=xs.length/\i=.int .i64 j/\m=.int .i64 (k+F.length)/\Below w.heap.size w wr) fun _ i _=>xs.length - (intOf i).toNat
 case atStart=>exact ⟨0,[],rfl,by omega,rfl,by simp,fG⟩
 case round=>
  obtain ⟨j,F,hFe,hj,rfl,rfl,hbl⟩:=hrel;by_cases hlt:j<xs.length
  ·obtain ⟨rfl,_⟩:=hA oM;have ⟨Ak,ck,hc,hsk⟩:=hs j hlt;have ⟨r,hr⟩:=Vh f hlt;rw[← hFe.out]at hr;have hcr:=A7 hbl hc;have hk2:=hk;rw[hr]at hk2 hh;simp only[length_append]at hk2;have hh2:=hh.right.left;obtain ⟨x,hx⟩:∃ x,x=xs[j]:=⟨_,rfl⟩
   rw[← hx]at hc hsk hcr
   clear hr hc hx hh
   go_wp2_with fail
   refine (Aj2 x Ak ck (f j) (k+F.length) _ (by exact Be hsk hbl) (by exact hh2.below hbl) oM).mono ?_;rintro e w1 ⟨rfl,hb1⟩
   go_wp2_with fail
   go_roundw
   case rel=>exact ⟨j+1,F++f j,Lib.hid (by rw[Pg,← hFe.out]),by omega,by go_num,by simp only[length_append];congr 1;omega,hbl.trans<|hb1.mono hbl.size⟩
   case measure=>simp[intOf];omega
  ·obtain rfl:j=xs.length:=by omega
   go_wp2
   go_ret
   rw[← hFe.out];exact ⟨rfl,hbl⟩
end
section
open Go.RowKit List
def Tab(w:World):Prop:=w.cell? ⟨0,0,none⟩=some (.int .i64 2)/\w.cell? ⟨0,1,none⟩=some (.int .i64 3)/\w.cell? ⟨0,2,none⟩=some (.int .i64 5)/\w.cell? ⟨0,3,none⟩=some (.int .i64 7)
theorem Tab.below{w w':World}(h:Tab w)(hb:Below w.heap.size w w'):Tab w':=⟨A7 hb h.1,A7 hb h.2.1,A7 hb h.2.2.1,A7 hb h.2.2.2⟩
def inR(n lo hi:Int):Bool:=decide (lo<=n)&&decide (n<=hi)
theorem E5{n lo hi:Int}:inR n lo hi=true↔lo<=n/\n<=hi:=by simp[inR]
theorem Aqu{n lo hi:Int}:inR n lo hi=false↔n<lo∨hi<n:=by
 cases h:inR n lo hi
 ·simp only[true_iff];have h1:¬ (lo<=n/\n<=hi):=fun h'=>by rw[E5.2 h']at h;cases h
  omega
 ·simp only[Bool.true_eq_false,false_iff];have:=E5.1 h;omega
def isF(p:Int):Bool:=decide (2<=p)&&(decide (p<=97)&&((p % 2 !=0||p==2)&&((p % 3 !=0||p==3)&&((p % 5 !=0||p==5)&&(p % 7 !=0||p==7)))))
theorem Dh{p:Int}(h:isF p=true):2<=p/\p<=97:=by
 simp only[isF,fT,decide_eq_true_eq]at h;exact ⟨h.1,h.2.1⟩
set_option maxHeartbeats 1000000 in
theorem Alz(p:Int)(w:World)(tab:Tab w):Calls Tryz.prog 106 #[.int .i64 p] w fun e w'=>e=.returned (.bool (isF p))/\w=w':=by
 have ⟨t0,t1,t2,t3⟩:=tab;by_cases hlo:p<2
 ·have hf:=Lib.hid (show isF p=false by simp[isF];omega)
  go_enter Tryz.func106,Tryz.ntmps106
  go_wp2
  go_ret
  exact ⟨Qd hf.out.symm,rfl⟩
 ·by_cases hhi:97<p
  ·have hf:=Lib.hid (show isF p=false by simp[isF];omega)
   go_enter Tryz.func106,Tryz.ntmps106
   go_wp2
   go_ret
   exact ⟨Qd hf.out.symm,rfl⟩
  ·have i0:∀ w,(Instr.index 172 (.agg #[.int .i64 2,.int .i64 3,.int .i64 5,.int .i64 7])<|.int .i64 0).run Tryz.prog w=.ok (.int .i64 2) w:=fun _=>by kernel_rfl
   have i1:∀ w,(Instr.index 172 (.agg #[.int .i64 2,.int .i64 3,.int .i64 5,.int .i64 7])<|.int .i64 1).run Tryz.prog w=.ok (.int .i64 3) w:=fun _=>by kernel_rfl
   have i2:∀ w,(Instr.index 172 (.agg #[.int .i64 2,.int .i64 3,.int .i64 5,.int .i64 7])<|.int .i64 2).run Tryz.prog w=.ok (.int .i64 5) w:=fun _=>by kernel_rfl
   have i3:∀ w,(Instr.index 172 (.agg #[.int .i64 2,.int .i64 3,.int .i64 5,.int .i64 7])<|.int .i64 3).run Tryz.prog w=.ok (.int .i64 7) w:=fun _=>by kernel_rfl
   go_enter Tryz.func106,Tryz.ntmps106
   go_wp2
   go_loop [2,4,12] (fun r _ i=>r=.bool false/\∃ k:Nat,k<=4/\i=.int .i64 k/\(0<k->p % 2≠0∨p=2)/\(1<k->p % 3≠0∨p=3)/\(2<k->p % 5≠0∨p=5)/\(3<k->p % 7≠0∨p=7)) fun _ _ i=>4 - (intOf i).toNat
   case atStart=>exact ⟨rfl,0,by omega,rfl,by omega,by omega,by omega,by omega⟩
   case round=>
    obtain ⟨rfl,k,hk,rfl,q0,q1,q2,q3⟩:=hrel;rcases (show k=0∨k=1∨k=2∨k=3∨k=4 by omega) with rfl|rfl|rfl|rfl|rfl
    ·skip
     by_cases hz:p % 2=0
     ·by_cases he:p=2
      ·subst he
       go_wp2
       go_round
       case rel=>exact ⟨rfl,1,by omega,rfl,by decide,by decide,by decide,by decide⟩
       case measure=>simp[intOf]
      ·have hf:=Lib.hid (show isF p=false by simp[isF];omega)
       go_wp2
       go_ret
       exact ⟨Qd hf.out.symm,rfl⟩
     ·go_wp2
      go_round
      case rel=>exact ⟨rfl,1,by omega,rfl,by omega,by omega,by omega,by omega⟩
      case measure=>simp[intOf]
    ·skip
     by_cases hz:p % 3=0
     ·by_cases he:p=3
      ·subst he
       go_wp2
       go_round
       case rel=>exact ⟨rfl,2,by omega,rfl,by decide,by decide,by decide,by decide⟩
       case measure=>simp[intOf]
      ·have hf:=Lib.hid (show isF p=false by simp[isF];omega)
       go_wp2
       go_ret
       exact ⟨Qd hf.out.symm,rfl⟩
     ·go_wp2
      go_round
      case rel=>exact ⟨rfl,2,by omega,rfl,by omega,by omega,by omega,by omega⟩
      case measure=>simp[intOf]
    ·skip
     by_cases hz:p % 5=0
     ·by_cases he:p=5
      ·subst he
       go_wp2
       go_round
       case rel=>exact ⟨rfl,3,by omega,rfl,by decide,by decide,by decide,by decide⟩
       case measure=>simp[intOf]
      ·have hf:=Lib.hid (show isF p=false by simp[isF];omega)
       go_wp2
       go_ret
       exact ⟨Qd hf.out.symm,rfl⟩
     ·go_wp2
      go_round
      case rel=>exact ⟨rfl,3,by omega,rfl,by omega,by omega,by omega,by omega⟩
      case measure=>simp[intOf]
    ·skip
     by_cases hz:p % 7=0
     ·by_cases he:p=7
      ·subst he
       go_wp2
       go_round
       case rel=>exact ⟨rfl,4,by omega,rfl,by decide,by decide,by decide,by decide⟩
       case measure=>simp[intOf]
      ·have hf:=Lib.hid (show isF p=false by simp[isF];omega)
       go_wp2
       go_ret
       exact ⟨Qd hf.out.symm,rfl⟩
     ·go_wp2
      go_round
      case rel=>exact ⟨rfl,4,by omega,rfl,by omega,by omega,by omega,by omega⟩
      case measure=>simp[intOf]
    ·have hf:=Lib.hid (show isF p=true by simp[isF];omega)
     clear q0 q1 q2 q3
     go_wp2
     go_ret
     exact ⟨Qd hf.out.symm,rfl⟩
def Ag6(n k:Nat):Bool:=(range k).all fun j=>decide (j<2)||n % j !=0
theorem Ahb:∀ n:Nat,n<98->2<=n->∀ k:Nat,k<11->Ag6 n k=true->n<k*k->isF (n:Int)=true:=by decide +kernel
theorem Ax6:∀ n:Nat,n<98->∀ k:Nat,k<10->2<=k->k*k<=n->n % k=0->isF (n:Int)=false:=by decide +kernel
theorem Amq{n k:Nat}(h:Ag6 n k=true)(hk:n % k≠0):Ag6 n (k+1)=true:=by
 unfold Ag6 at *;rw[range_succ,all_append,h];simp[hk]
end
section
def Ty.cells(t:Ty)(xs:List t.D):LV:=xs.flatMap t.enc
theorem Ty.cells_length{t:Ty}(hfl:t.flat=true)(xs:List t.D):(t.cells xs).length=xs.length*t.size:=by
 unfold Ty.cells;rw[length_flatMap];have:xs.map (fun x=>(t.enc x).length)=xs.map (fun _=>t.size):=map_congr_left fun x _=>Ty.enc_length x hfl
 rw[this,map_const',sum_replicate_nat]
theorem Ty.cells_append(t:Ty)(xs ys:List t.D):t.cells (xs++ys)=t.cells xs++t.cells ys:=by simp[Ty.cells]
theorem Ty.cells_get{t:Ty}(hfl:t.flat=true):∀(xs:List t.D) (i:Nat) (hi:i<xs.length) (j:Nat),j<t.size->(t.cells xs)[i*t.size+j]? =(t.enc xs[i])[j]?
 | [],i,hi,_,_=>absurd hi fS
 | x :: r,0,_,j,hj=>by
  simp only[Ty.cells,flatMap_cons,Nat.zero_mul,fE,getElem_cons_zero];rw[getElem?_append_left (by rw[Ty.enc_length _ hfl];exact hj)]
 | x :: r,i+1,hi,j,hj=>by
  simp only[Ty.cells,flatMap_cons,getElem_cons_succ];rw[getElem?_append_right (by rw[Ty.enc_length _ hfl,Nat.succ_mul];omega),Ty.enc_length _ hfl];rw[show (i+1)*t.size+j - t.size=i*t.size+j by rw[Nat.succ_mul];omega];exact Ty.cells_get hfl r i (by simpa using hi) j hj
theorem Ty.enc_one:∀{t:Ty} (x:t.D),∀ u∈t.enc x,u.oneCell'=true
 | .int,_,u,h=>by obtain rfl:=mem_singleton.1 h;rfl
 | .bool,_,u,h=>by obtain rfl:=mem_singleton.1 h;rfl
 | .str,_,u,h=>by obtain rfl:=mem_singleton.1 h;rfl
 | .slice _,_,u,h=>by cases h
 | .pair a b,x,u,h=>by
  rcases mem_append.1 h with h|h
  ·exact Ty.enc_one _ u h
  ·exact Ty.enc_one _ u h
theorem Ty.cells_one{t:Ty}(xs:List t.D):∀ u∈t.cells xs,u.oneCell'=true:=fun u h=>by
 have ⟨x,_,hu⟩:=mem_flatMap.1 h;exact Ty.enc_one x u hu
theorem Arr{w:World}{p:Addr}{u:Value}(o:Obj)(h:w.cell? p=some u):(w.alloc o).cell? p=some u:=(World.cell?_alloc_lt _ _ _ (World.block_lt_of_cell? w p h)).trans h
theorem Vd{w:World}{p:Addr}{u:Value}{o:Obj}(h:w.cell? p=some u):(w.alloc o).drew.cell? p=some u:=Arr o h
theorem Sg{B:Nat}{a w:World}{o:Obj}(h:Below B a w)(hB:B<=w.heap.size):Below B a (w.alloc o).drew:=(Below.alloc h hB o).drew
section
variable{w:World}{lo:Nat}{e:TypeId}{t:Ty}{v:Value}{n:Nat}{xs:List t.D}
variable{P:Program}{ops:Array Oper}{rest:List Oper}{o:Oper}{a:Act}{Q:Exit->Act->WP}
end
end
section
open Go.RowKit Go.Deep Go.ChangeMaps Go.MapKept List
section
variable{V:Type}
def D8(es:List (Int×V))(k:Int):Option V:=(es.find? fun e=>e.1==k).map (·.2)
def Sa(es:List (Int×V))(k:Int):List (Int×V):=es.filter fun e=> !(e.1==k)
def Og(es:List (Int×V))(k:Int)(v:V):List (Int×V):=(k,v) :: Sa es k
theorem Nv(es:List (Int×V))(k:Int)(v:V):D8 (Og es k v) k=some v:=by simp[D8,Og]
theorem Ps{es:List (Int×V)}{k k':Int}(h:k'≠k):D8 (Sa es k) k'=D8 es k':=by
 unfold D8 Sa;rw[find?_filter];congr 1;refine congrArg (fun f=>es.find? f) (funext fun e=>?_);by_cases he:e.1=k'
 ·have:(e.1==k)=false:=fU.2 (by rw[he];exact h);simp[he,h]
 ·simp[he]
theorem Mm{es:List (Int×V)}{k k':Int}{v:V}(h:k'≠k):D8 (Og es k v) k'=D8 es k':=by
 have h1:=Ps (es:=es) h;unfold Og;rw[← h1];unfold D8;rw[find?_cons_of_neg (by simpa using fun e=>h e.symm)]
theorem V9(es:List (Int×V))(k:Int):D8 (Sa es k) k=none:=by
 unfold D8 Sa;rw[Option.map_eq_none_iff,find?_eq_none];intro e he;have:=(mem_filter.1 he).2
 simpa using this
theorem Ahn(es:List (Int×V))(k:Int):(Sa es k).map (·.1)=(es.map (·.1)).filter fun x=> !(x==k):=by
 unfold Sa;rw[filter_map];rfl
theorem Ao4{es:List (Int×V)}(h:(es.map (·.1)).Nodup)(k:Int):((Sa es k).map (·.1)).Nodup:=by
 rw[Ahn];exact h.filter _
theorem Awv{es:List (Int×V)}(h:(es.map (·.1)).Nodup)(k:Int)(v:V):((Og es k v).map (·.1)).Nodup:=by
 unfold Og;rw[map_cons,nodup_cons];refine ⟨fun hm=>?_,Ao4 h k⟩;rw[Ahn]at hm;have:=(mem_filter.1 hm).2;simp at this
theorem Afh:∀{es:List (Int×V)} (k:Int),(es.map (·.1)).Nodup->(Sa es k).length+(if (D8 es k).isSome then 1 else 0)=es.length
 | [],k,_=>rfl
 | (x,v) :: r,k,h=>by
  rw[map_cons,nodup_cons]at h;have ih:=Afh k h.2;by_cases hx:x=k
  ·subst hx
   have hn:D8 r x=none:=by
    unfold D8;rw[Option.map_eq_none_iff,find?_eq_none];intro e he hb;rw[fF]at hb;exact h.1<|mem_map.2 ⟨e,he,hb⟩
   rw[hn]at ih;have h1:D8 ((x,v) :: r) x=some v:=by simp[D8]
   have h2:Sa ((x,v) :: r) x=Sa r x:=by simp[Sa]
   rw[h1,h2];simp at ih ⊢;omega
  ·have h1:D8 ((x,v) :: r) k=D8 r k:=by
    unfold D8;rw[find?_cons_of_neg (by simpa using hx)]
   have h2:Sa ((x,v) :: r) k=(x,v) :: Sa r k:=by
    unfold Sa;rw[filter_cons_of_pos (by simpa using hx)]
   rw[h1,h2,length_cons,length_cons];omega
end
def Uy:(t:Ty)->t.D->DataW Unit
 | .int,n=>.lit (.int .i64 n)
 | .bool,b=>.lit (.bool b)
 | .pair .int .int,x=>.agg [.lit (.int .i64 x.1),.lit (.int .i64 x.2)]
 | _,_=>.agg []
theorem Ail:∀{x y x' y':Nat},2 ^ x*(2*y+1)=2 ^ x'*(2*y'+1)->x=x'/\y=y'
 | 0,y,0,y',h=>by simp at h;omega
 | 0,y,x'+1,y',h=>by
  have e:2 ^ (x'+1)*(2*y'+1)=2*(2 ^ x'*(2*y'+1)):=by rw[Nat.pow_succ,Nat.mul_comm (2 ^ x') 2,Nat.mul_assoc]
  rw[e]at h;generalize 2 ^ x'*(2*y'+1)=z at h;simp at h;omega
 | x+1,y,0,y',h=>by
  have e:2 ^ (x+1)*(2*y+1)=2*(2 ^ x*(2*y+1)):=by rw[Nat.pow_succ,Nat.mul_comm (2 ^ x) 2,Nat.mul_assoc]
  rw[e]at h;generalize 2 ^ x*(2*y+1)=z at h;simp at h;omega
 | x+1,y,x'+1,y',h=>by
  have e:∀ x y,2 ^ (x+1)*(2*y+1)=2*(2 ^ x*(2*y+1)):=fun x y=>by rw[Nat.pow_succ,Nat.mul_comm (2 ^ x) 2,Nat.mul_assoc]
  rw[e,e]at h;have:=Ail (Nat.eq_of_mul_eq_mul_left (by decide) h);exact ⟨by omega,this.2⟩
def zig:Int->Nat
 | .ofNat n=>2*n
 | .negSucc n=>2*n+1
theorem Aik:∀{x y:Int},zig x=zig y->x=y
 | .ofNat _,.ofNat _,h=>by simp only[zig]at h;congr 1;omega
 | .ofNat _,.negSucc _,h=>by simp only[zig]at h;omega
 | .negSucc _,.ofNat _,h=>by simp only[zig]at h;omega
 | .negSucc _,.negSucc _,h=>by simp only[zig]at h;congr 1;omega
def Avd(x:Int×Int×Int):Int:=((2 ^ zig x.1*(2*(2 ^ zig x.2.1*(2*zig x.2.2+1))+1):Nat):Int)
theorem At6{x y:Int×Int×Int}(h:Avd x=Avd y):x=y:=by
 have h1:=Ail<|Int.ofNat.inj h;have h2:=Ail h1.2;have ⟨a,b,c⟩:=x;have ⟨a',b',c'⟩:=y;have e1:a=a':=Aik h1.1;have e2:b=b':=Aik h2.1;have e3:c=c':=Aik h2.2;rw[e1,e2,e3]
def Aqt(a b c:Int):Int:=Avd (a,b,c)
open Classical in
noncomputable def Avt(k:Int):Int×Int×Int:=if h:∃ x,Avd x=k then Classical.choose h else (0,0,0)
theorem Aew(a b c:Int):Avt (Aqt a b c)=(a,b,c):=by
 have h:∃ x,Avd x=Aqt a b c:=⟨(a,b,c),rfl⟩
 rw[Avt,dif_pos h];exact At6<|Classical.choose_spec h
def L6(n:Int):Prop:= -9223372036854775808<=n/\n<=9223372036854775807
instance(n:Int):Decidable (L6 n):=inferInstanceAs (Decidable (_/\_))
theorem Ajo{n:Int}(h:L6 n):(Lit.int .i64 n).wf=true:=by
 have ⟨h1,h2⟩:=h;simp[Lit.wf,IntKind.min,IntKind.max,IntKind.signed,IntKind.bits];omega
def Aj1:List UInt8->Nat
 | []=>0
 | c :: l=>257*Aj1 l+(c.toNat+1)
theorem Ak2:∀{l m:List UInt8},Aj1 l=Aj1 m->l=m
 | [],[],_=>rfl
 | [],c :: m,h=>by simp only[Aj1]at h;omega
 | c :: l,[],h=>by simp only[Aj1]at h;omega
 | c :: l,d :: m,h=>by
  simp only[Aj1]at h;have hc:=c.toNat_lt;have hd:=d.toNat_lt;have h1:Aj1 l=Aj1 m:=by omega
  have h2:c.toNat=d.toNat:=by omega
  rw[Ak2 h1,UInt8.toNat_inj.1 h2]
def G6(s:ByteArray):Int:=((Aj1 s.data.toList:Nat):Int)
theorem Acw{s u:ByteArray}(h:G6 s=G6 u):s=u:=by
 have:=Ak2<|Int.ofNat.inj h;cases s;cases u
 simpa using this
open Classical in
noncomputable def Azs(k:Int):ByteArray:=if h:∃ x,G6 x=k then Classical.choose h else ByteArray.empty
theorem Af5(s:ByteArray):Azs (G6 s)=s:=by
 have h:∃ x,G6 x=G6 s:=⟨s,rfl⟩
 rw[Azs,dif_pos h];exact Acw<|Classical.choose_spec h
def KG(s:Option Bool)(k:Int):Prop:=
 match s with
 | none=>∃ x:ByteArray,x.size<=maxLen/\k=G6 x
 | some true=>∃ a b c,L6 a/\L6 b/\L6 c/\k=Aqt a b c
 | some false=>L6 k
noncomputable def kv(s:Option Bool)(k:Int):Value:=
 match s with
 | none=>.string (Azs k)
 | some true=>.agg #[.int .i64 (Avt k).1,.int .i64 (Avt k).2.1,.int .i64 (Avt k).2.2]
 | some false=>.int .i64 k
theorem Ay7{s:Option Bool}{k k':Int}(h:KG s k)(h':KG s k')(he:kv s k=kv s k'):k=k':=by
 match s,h,h',he with
 | none,⟨x,_,e⟩,⟨y,_,e'⟩,he=>
  subst e e';simp only[kv,Af5,Value.string.injEq]at he;rw[he]
 | some false,_,_,he=>simp only[kv,Value.int.injEq,true_and]at he;exact he
 | some true,⟨a,b,c,_,_,_,e⟩,⟨a',b',c',_,_,_,e'⟩,he=>
  subst e e';simp only[kv,Aew]at he;simp at he;obtain ⟨rfl,rfl,rfl⟩:=he;rfl
structure KeyTy(P:Program)(kt:TypeId)(s:Option Bool):Prop where
 keyed:Maps.Keyed P kt
 lit:∀ k,KG s k->∃ l,keyOf P kt (kv s k)=some l
noncomputable def kl(P:Program)(kt:TypeId)(s:Option Bool)(k:Int):Lit:=(keyOf P kt (kv s k)).getD .nil
section
variable{P:Program}{kt:TypeId}{s:Option Bool}
theorem KeyTy.at(h:KeyTy P kt s){k:Int}(hk:KG s k):keyOf P kt (kv s k)=some (kl P kt s k):=by
 have ⟨l,hl⟩:=h.lit k hk;rw[kl,hl];rfl
theorem KeyTy.ne(h:KeyTy P kt s){k k':Int}(hk:KG s k)(hk':KG s k')(hne:k'≠k):kl P kt s k'≠kl P kt s k:=fun e=>
 hne (Ay7 hk' hk (h.keyed.inj (h.at hk') (e▸h.at hk)))
theorem KeyTy.isKey(h:KeyTy P kt s){k:Int}(hk:KG s k):WideAt.IsKeyLit (kl P kt s k):=h.keyed.key (h.at hk)
theorem Ayb(h:P.underlying kt=some (.int .i64)):KeyTy P kt (some false):=
 ⟨Maps.int_keyed h,fun k hk=>⟨_,Maps.keyOf_int_mk h (Ajo (by simpa [KG] using hk))⟩⟩
theorem Axm(h:P.underlying kt=some .string):KeyTy P kt none:=
 ⟨Maps.string_keyed h,fun k ⟨x,hx,e⟩=>⟨.string x.data.toList,by subst e;simp only[kv,Af5];simp[keyOf,h,mapKey,hx]⟩⟩
def Auu(P:Program)(t:TypeId):Bool:=
 match P.underlying t with
 | some (.int .i64)=>P.cellsOf t==1
 | _=>false
def st3(P:Program)(kt:TypeId):Bool:=
 match P.underlying kt with
 | some (.struct fs)=>match fs.toList with
  | [f,g,h]=>(f.offset==0&&(g.offset==1&&h.offset==2))&&((Auu P f.type&&(Auu P g.type&&Auu P h.type))&&((f.name != "_" && (g.name != "_" && h.name != "_"))&&(P.cellsOf kt==3&&(P.keyType kt&&(P.keyTypeAt 2 kt&&decide (kt<P.types.size))))))
  | _=>false
 | _=>false
theorem Aat{t:TypeId}(h:Auu P t=true):P.underlying t=some (.int .i64)/\P.cellsOf t=1:=by
 unfold Auu at h;split at h
 next e=>exact ⟨e,by simpa using h⟩
 ·cases h
theorem Awp(hl:laidOutB P=true)(h:st3 P kt=true):KeyTy P kt (some true):=by
 unfold st3 at h;split at h
 ·rename_i fs hu;split at h
  ·rename_i f g h' hfs;simp only[fT,fF,decide_eq_true_eq]at h;have ⟨⟨o1,o2,o3⟩,⟨t1,t2,t3⟩,⟨n1,n2,n3⟩,c3,k1,k2,k3⟩:=h;have ⟨u1,c1⟩:=Aat t1;have ⟨u2,c2⟩:=Aat t2;have ⟨u3,c4⟩:=Aat t3;refine ⟨Maps.Keyed.of_law<|deep_law_laid hl (m:=2) (by decide) k3 k2 (by rw[hu]),fun k hk=>?_⟩;obtain ⟨a,b,c,ha,hb,hc,rfl⟩:∃ a b c,L6 a/\L6 b/\L6 c/\k=Aqt a b c:=by simpa [KG] using hk
   have hfs':fs= #[f,g,h']:=by
    have:=congrArg List.toArray hfs
    simpa using this
   obtain ⟨d,hd⟩:∃ d,P.types.size=d+1:=⟨P.types.size - 1,(Nat.sub_add_cancel<|Nat.lt_of_le_of_lt (Nat.zero_le _) k3).symm⟩
   have key:∀(t:TypeId) (x:Int),P.underlying t=some (.int .i64)->L6 x->P.keyLits (d+1) t [.int .i64 x]=some [.int .i64 x]:=fun t x ht hx=>by
    simp[Program.keyLits,ht,Ajo hx]
   have hall:(fs.all (·.name != "_"))=true:=by rw[hfs'];simp[n1,n2,n3]
   have hlits:P.keyLits (d+1+1) kt [.int .i64 a,.int .i64 b,.int .i64 c]=some [.int .i64 a,.int .i64 b,.int .i64 c]:=by
    unfold Program.keyLits;simp only[hu,c3,hall,length_cons,length_nil,and_self,if_true,hfs,mapM_cons,mapM_nil,o1,o2,o3,c1,c2,c4];simp[key _ _ u1 ha,key _ _ u2 hb,key _ _ u3 hc]
   refine ⟨.string<|keyBytes [.int .i64 a,.int .i64 b,.int .i64 c],?_⟩
   ·simp only[kv,Aew];unfold keyOf;rw[hu];simp only[k1,Value.formed,hu,c3,Value.cells,hd,hlits];simp
  ·cases h
 ·cases h
end
structure MapIs(P:Program)(kt:TypeId)(s:Option Bool)(t:Ty)(es:List (Int×t.D))(D:DataW Unit):Prop where
 tidy:Maps.Tidy D
 nd:(es.map (·.1)).Nodup
 get:∀ k z,KG s k->D.atKey (kl P kt s k) z=((D8 es k).map (Uy t)).getD z
 has:∀ k,KG s k->Maps.has D (kl P kt s k)=(D8 es k).isSome
 size:Maps.size D=es.length
section
variable{P:Program}{kt:TypeId}{s:Option Bool}
theorem MapIs.nil(t:Ty):MapIs P kt s t [] (.map []):=⟨Maps.tidy_empty,.nil,fun _ _ _=>rfl,fun _ _=>rfl,rfl⟩
theorem MapIs.put{t:Ty}{es:List (Int×t.D)}{D:DataW Unit}(h:MapIs P kt s t es D)(K:KeyTy P kt s){k:Int}(hk:KG s k)(v:t.D):MapIs P kt s t (Og es k v) (D.put (kl P kt s k) (Uy t v)):=by
 refine ⟨h.tidy.put (K.isKey hk) _,Awv h.nd k v,fun k' z hk'=>?_,fun k' hk'=>?_,?_⟩
 ·by_cases e:k'=k
  ·subst e;rw[Maps.atKey_put_same h.tidy.isMap<|K.isKey hk,Nv];rfl
  ·rw[Maps.atKey_put_other<|K.ne hk hk' e,Mm e,h.get _ _ hk']
 ·by_cases e:k'=k
  ·subst e;rw[Maps.has_put_same h.tidy.isMap<|K.isKey hk,Nv];rfl
  ·rw[Maps.has_put_other<|K.ne hk hk' e,Mm e,h.has _ hk']
 ·rw[Maps.size_put h.tidy,h.has _ hk,h.size];have:=Afh (es:=es) k h.nd;unfold Og;rw[length_cons];split <;> rename_i hh <;> simp[hh]at this <;> omega
theorem MapIs.del{t:Ty}{es:List (Int×t.D)}{D:DataW Unit}(h:MapIs P kt s t es D)(K:KeyTy P kt s){k:Int}(hk:KG s k):MapIs P kt s t (Sa es k) (D.del (kl P kt s k)):=by
 refine ⟨h.tidy.del _,Ao4 h.nd k,fun k' z hk'=>?_,fun k' hk'=>?_,?_⟩
 ·by_cases e:k'=k
  ·subst e;rw[Maps.atKey_del_same,V9];rfl
  ·rw[Maps.atKey_del_other<|K.ne hk hk' e,Ps e,h.get _ _ hk']
 ·by_cases e:k'=k
  ·subst e;rw[Maps.has_del_same,V9];rfl
  ·rw[Maps.has_del_other<|K.ne hk hk' e,Ps e,h.has _ hk']
 ·have h1:=Maps.size_del (k:=kl P kt s k) h.tidy;have h2:=Afh (es:=es) k h.nd;rw[h.has _ hk,h.size]at h1;omega
end
def Xk(P:Program)(e:TypeId)(v:Value):Option (DataW Unit×List MemPlace):=
 match v with
 | .agg cs=>match cs.toList with
  | [.int .i64 a,.int .i64 b]=>some (.agg [.lit (.int .i64 a),.lit (.int .i64 b)],[])
  | _=>none
 | v=>plainElem P e v
def Ays:LV->Bool
 | [.int .i64 a,.int .i64 b]=>a==0&&b==0
 | _=>false
def Oa(P:Program)(e:TypeId)(t:Ty):Bool:=
 match t,P.underlying e,(P.info? e).bind (·.zero) with
 | .int,some (.int .i64),some (.int .i64 n)=>n==0
 | .bool,some .bool,some (.bool b)=> !b
 | .pair .int .int,some (.struct _),some (.agg z)=>Ays z.toList
 | _,_,_=>false
def Zo(P:Program)(kt:TypeId):Bool:=
 match P.underlying kt with
 | some .string=>true
 | _=>false
theorem Amb{P:Program}{kt:TypeId}(h:Zo P kt=true):P.underlying kt=some .string:=by
 unfold Zo at h;split at h
 ·assumption
 ·cases h
def k3(P:Program)(mt:TypeId):Option Bool:=
 match P.underlying mt with
 | some (.map kt _)=>if Zo P kt then none else some (st3 P kt)
 | _=>some false
def As0(P:Program)(mt:TypeId)(t:Ty)(kt et:TypeId):Prop:=P.underlying mt=some (.map kt et)/\KeyTy P kt (k3 P mt)/\Oa P et t=true
def MapRep(P:Program)(mt:TypeId)(t:Ty)(es:List (Int×t.D))(w:World)(b:Nat):Prop:=
 ∃ kt et D,As0 P mt t kt et/\w.ownsMap P kt (Xk P et) b es.length D/\MapIs P kt (k3 P mt) t es D
section
variable{P:Program}{mt:TypeId}{t:Ty}{es:List (Int×t.D)}{w w':World}{b:Nat}
theorem MapRep.lt(h:MapRep P mt t es w b):b<w.heap.size:=by
 have ⟨_,_,_,_,h,_⟩:=h;exact h.lt
theorem MapRep.same(h:MapRep P mt t es w b)(he:w'.heap[b]? =w.heap[b]?):MapRep P mt t es w' b:=by
 have ⟨kt,et,D,ht,⟨ms,clock,h1,h2⟩,hi⟩:=h;exact ⟨kt,et,D,ht,⟨ms,clock,he.trans h1,h2⟩,hi⟩
theorem Abb{H:Type}{P:Program}{w:World}{k:TypeId}{R:Value->Option (DataW H×List MemPlace)}{b n:Nat}{D:DataW H}(h:w.ownsMap P k R b n D):w.ownsMap P k R b (Maps.size D) D:=by
 have ⟨ms,clock,h1,h2,_,h4⟩:=h;refine ⟨ms,clock,h1,h2,?_,h4⟩;subst h4;simp[Maps.size,length_sorted]
def Tz:(t:Ty)->t.D->Value
 | .int,n=>.int .i64 n
 | .bool,b=>.bool b
 | .pair .int .int,x=>.agg #[.int .i64 x.1,.int .i64 x.2]
 | _,_=>undef
def A0r:(t:Ty)->t.D->Prop
 | .int,n=>L6 n
 | .pair .int .int,x=>L6 x.1/\L6 x.2
 | _,_=>True
theorem Xh{H:Type}{P:Program}{e:TypeId}(he:P.underlying e=some .bool){v:Value}{z:DataW H×List MemPlace}(h:plainElem P e v=some z):∃ b,v=.bool b/\z=(.lit (.bool b),[]):=by
 unfold plainElem at h;rw[he]at h;cases v <;> simp at h;exact ⟨_,rfl,h.symm⟩
theorem Za{e:TypeId}(h:Oa P e t=true):((t=.int/\P.underlying e=some (.int .i64))∨(t=.bool/\P.underlying e=some .bool)∨t=.pair .int .int)/\(∀ w,(zeroValue e).run P w=.ok (Tz t t.dflt) w) /\
  (∀ d,Xk P e (Tz t t.dflt)=d->d=some (Uy t t.dflt,[]))/\∀ v z ps,Xk P e v=some (z,ps)->(∃ x:t.D,z=Uy t x)->∃ x:t.D,v=Tz t x/\z=Uy t x:=by
 unfold Oa at h;split at h
 ·rename_i n hu hz;have hn:n=0:=by simpa using h
  subst hn;have ⟨i,hi,hz⟩:=Option.bind_eq_some_iff.1 hz;refine ⟨.inl ⟨rfl,hu⟩,fun w=>by simp[zeroValue,typeInfo,hi,hz,Tz,Ty.dflt],fun d hd=>?_,fun v z ps hv hx=>?_⟩
  ·rw[← hd];exact plainElem_int hu (by decide)
  ·have hv':plainElem P e v=some (z,ps):=by
    cases v with
    | agg cs=>
     exfalso;obtain ⟨x,rfl⟩:=hx;unfold Xk at hv;dsimp only at hv;split at hv
     ·simp[Uy]at hv
     ·cases hv
    | _=>exact hv
   have ⟨a,h1,h2,_⟩:=plainElem_int_inv hu hv';exact ⟨a,h1,(Prod.mk.inj h2).1⟩
 ·rename_i b hu hz;have hb:b=false:=by simpa using h
  subst hb;have ⟨i,hi,hz⟩:=Option.bind_eq_some_iff.1 hz;refine ⟨.inr<|.inl ⟨rfl,hu⟩,fun w=>by simp[zeroValue,typeInfo,hi,hz,Tz,Ty.dflt],fun d hd=>?_,fun v z ps hv hx=>?_⟩
  ·rw[← hd];exact plainElem_bool hu _
  ·have hv':plainElem P e v=some (z,ps):=by
    cases v with
    | agg cs=>
     exfalso;obtain ⟨x,rfl⟩:=hx;unfold Xk at hv;dsimp only at hv;split at hv
     ·simp[Uy]at hv
     ·cases hv
    | _=>exact hv
   have ⟨x,h1,h2⟩:=Xh hu hv';exact ⟨x,h1,(Prod.mk.inj h2).1⟩
 ·rename_i fs z hu hz;have ⟨i,hi,hz⟩:=Option.bind_eq_some_iff.1 hz
  have hz2:z= #[.int .i64 0,.int .i64 0]:=by
   unfold Ays at h;split at h
   next a b e=>simp only[fT,fF]at h;rw[h.1,h.2]at e;rw[← Array.toArray_toList (xs:=z),e]
   ·cases h
  refine ⟨.inr<|.inr rfl,fun w=>by simp[zeroValue,typeInfo,hi,hz,hz2,Tz,Ty.dflt],fun d hd=>?_,fun v z ps hv hx=>?_⟩
  ·rw[← hd];rfl
  ·obtain ⟨x,rfl⟩:=hx;cases v with
   | agg cs=>
    unfold Xk at hv;dsimp only at hv;split at hv
    next a b e=>refine ⟨(a,b),?_,(Prod.mk.inj<|osj hv).1.symm⟩;show Value.agg cs=.agg #[.int .i64 a,.int .i64 b];rw[← Array.toArray_toList (xs:=cs),e]
    ·cases hv
   | _=>
    exfalso;have hv':plainElem P e _=some (Uy (.pair .int .int) x,ps):=hv;unfold plainElem at hv';rw[hu]at hv';cases hv'
 ·cases h
theorem Au3{x y:t.D}(hm:t=.int∨t=.bool∨t=.pair .int .int)(h:Uy t x=Uy t y):x=y:=by
 rcases hm with rfl|rfl|rfl
 ·simp only[Uy,DataW.lit.injEq,Lit.int.injEq,true_and]at h;exact h
 ·simp only[Uy,DataW.lit.injEq,Lit.bool.injEq]at h;exact h
 ·simp only[Uy,DataW.agg.injEq,List.cons.injEq,DataW.lit.injEq,Lit.int.injEq,true_and,and_true]at h;exact Prod.ext h.1 h.2
theorem MapRep.look(h:MapRep P mt t es w b){k:Int}(hk:KG (k3 P mt) k)(ok:Bool):(Instr.lookup mt (.map (some b)) (kv (k3 P mt) k) ok).run P w=.ok (if ok then .tuple #[Tz t ((D8 es k).getD t.dflt),.bool (D8 es k).isSome] else Tz t ((D8 es k).getD t.dflt)) w:=by
 have ⟨kt,et,D,⟨h1,h2,h3⟩,ho,hi⟩:=h;have ⟨hm,hz,hd,hinv⟩:=Za h3
 have hm':t=.int∨t=.bool∨t=.pair .int .int:=by
  rcases hm with ⟨e,_⟩|⟨e,_⟩|e
  ·exact .inl e
  ·exact .inr<|.inl e
  ·exact .inr<|.inr e
 have hkey:=h2.at hk;have K:=h2.keyed
 have key:∀ v ps,Xk P et v=some (D.atKey (kl P kt (k3 P mt) k)<|Uy t t.dflt,ps)->v=Tz t ((D8 es k).getD t.dflt):=fun v ps hv=>by
  have e0:D.atKey (kl P kt (k3 P mt) k) (Uy t t.dflt)=Uy t ((D8 es k).getD t.dflt):=by
   rw[hi.get _ _ hk];cases D8 es k <;> rfl
  obtain ⟨x,rfl,e1⟩:=hinv v _ ps hv ⟨_,e0⟩;rw[e0]at e1;rw[Au3 hm' e1]
 cases ok
 ·have ⟨v,ps,hrun,hv⟩:=ho.lookup K h1 (hz w) (hd _ rfl) hkey;rw[hrun,key v ps hv];rfl
 ·have ⟨v,ps,hrun,hv⟩:=ho.look_ok K h1 (hz w) (hd _ rfl) hkey;rw[hrun,key v ps hv,hi.has _ hk];rfl
theorem MapRep.len(h:MapRep P mt t es w b)(ty:TypeId):(Builtin.len_ #[mt] ty #[.map (some b)]).run P w=.ok (.int .i64 es.length) w:=by
 have ⟨kt,et,D,⟨h1,h2,h3⟩,ho,hi⟩:=h;rw[ho.len h1,hi.size]
theorem Ajb{b:Nat}(h:w.mapTurned w' b):w'.os=w.os/\w'.tape=w.tape/\w'.output=w.output/\w'.heap.size=w.heap.size/\∀ k,k≠b->w'.heap[k]? =w.heap[k]?:=by
 obtain ⟨ms,c,ms',c',h1,rfl⟩:=h;refine ⟨rfl,rfl,rfl,by simp[setBlock],fun k hk=>?_⟩;exact heap_setBlock_other h1 _ hk
theorem MapRep.put(h:MapRep P mt t es w b){k:Int}(hk:KG (k3 P mt) k){x:t.D}(hx:A0r t x)(hl:es.length<maxLen):∃ w',(Instr.mapUpdate mt (.map (some b)) (kv (k3 P mt) k) (Tz t x)).run P w=.ok () w'/\MapRep P mt t (Og es k x) w' b/\w.mapTurned w' b:=by
 have ⟨kt,et,D,⟨h1,h2,h3⟩,ho,hi⟩:=h;have ⟨hm,hz,hd,hinv⟩:=Za h3;have hkey:=h2.at hk;have K:=h2.keyed
 have hv:Xk P et (Tz t x)=some (Uy t x,[]):=by
  rcases hm with ⟨rfl,hu⟩|⟨rfl,hu⟩|rfl
  ·exact plainElem_int hu<|Ajo hx
  ·exact plainElem_bool hu x
  ·rfl
 have ⟨w',hrun,ho',hg⟩:=ho.store K h1 hl hkey hv;have hi':=hi.put h2 hk x;refine ⟨w',hrun,⟨kt,et,_,⟨h1,h2,h3⟩,?_,hi'⟩,hg⟩;rw[← hi'.size];exact Abb ho'
theorem MapRep.del(h:MapRep P mt t es w b){k:Int}(hk:KG (k3 P mt) k)(kt':TypeId)(hkt:∀ kt et,P.underlying mt=some (.map kt et)->kt=kt')(ty:TypeId):∃ w',(Builtin.delete_ #[mt,kt'] ty #[.map (some b),kv (k3 P mt) k]).run P w=.ok (.tuple #[]) w'/\MapRep P mt t (Sa es k) w' b/\w.mapTurned w' b:=by
 have ⟨kt,et,D,⟨h1,h2,h3⟩,ho,hi⟩:=h;obtain rfl:=hkt _ _ h1;have hkey:=h2.at hk;have K:=h2.keyed;have ⟨w',hrun,ho',hg⟩:=ho.drop K h1 hkey ty;have hi':=hi.del h2 hk;refine ⟨w',hrun,⟨kt,et,_,⟨h1,h2,h3⟩,?_,hi'⟩,hg⟩;rw[← hi'.size];exact Abb ho'
theorem MapRep.made{kt et:TypeId}(ht:As0 P mt t kt et)(w:World):MapRep P mt t [] (w.alloc (.map #[] 0)) w.heap.size:=
 ⟨kt,et,_,ht,World.ownsMap_made w P kt (Xk P et),MapIs.nil t⟩
end
attribute [irreducible] k3 Aqt G6 kv
end
section
def ownsV(w:World)(lo:Nat)(e:TypeId)(sz:Nat)(v:Value)(n:Nat)(xs:LV):Prop:=
 xs.length=n*sz /\
 ((v=.slice none 0 0/\n=0) ∨
  ∃ g cap cur,v=.slice (some ⟨g,0,none⟩) n cap/\lo<=g/\w.heap[g]? =some (.cells cur e (0,0))/\n<=cap/\cap<=maxLen/\cap*sz<=cur.size/\cur.toList.take (n*sz)=xs)
section
variable{w w':World}{lo lo':Nat}{e:TypeId}{sz:Nat}{v:Value}{n:Nat}{xs:LV}
theorem Po(w:World)(lo:Nat)(e:TypeId)(sz:Nat):ownsV w lo e sz (.slice none 0 0) 0 []:=⟨by simp,.inl ⟨rfl,rfl⟩⟩
theorem ownsV.lt(h:ownsV w lo e sz v n xs):∀ k,v.ownBlock=some k->lo<=k/\k<w.heap.size:=by
 intro k hk;rcases h.2 with ⟨rfl,_⟩|⟨g,cap,cur,rfl,hb,hg,_⟩
 ·cases hk
 ·cases hk;exact ⟨hb,(Array.getElem?_eq_some_iff.1 hg).1⟩
theorem ownsV.low(h:ownsV w lo e sz v n xs)(hl:lo'<=lo):ownsV w lo' e sz v n xs:=by
 refine ⟨h.1,?_⟩;rcases h.2 with hn|⟨g,cap,cur,e1,hb,rest⟩
 ·exact .inl hn
 ·exact .inr ⟨g,cap,cur,e1,Nat.le_trans hl hb,rest⟩
theorem ownsV.block(h:ownsV w lo e sz v n xs)(hb:∀ k,v.ownBlock=some k->w'.heap[k]? =w.heap[k]?):ownsV w' lo e sz v n xs:=by
 refine ⟨h.1,?_⟩;rcases h.2 with hn|⟨g,cap,cur,e1,hb',hg,rest⟩
 ·exact .inl hn
 ·subst e1;exact .inr ⟨g,cap,cur,rfl,hb',(hb g rfl).trans hg,rest⟩
theorem ownsV.cells(h:ownsV w lo e sz v n xs){g:Nat}(hg:v.ownBlock=some g):∀ j u,xs[j]? =some u->w.cell? ((⟨g,0,none⟩:Addr).add j)=some u:=by
 intro j u hj;rcases h.2 with ⟨rfl,_⟩|⟨g',cap,cur,rfl,hb,hgg,_,_,_,ht⟩
 ·cases hg
 ·cases hg;rw[← ht,getElem?_take]at hj;split at hj
  ·have e1:(⟨g',0,none⟩:Addr).add j=⟨g',j,none⟩:=by
    unfold Addr.add;split <;> simp_all
   rw[e1];simp only[World.cell?,hgg]
   simpa using hj
  ·cases hj
theorem ownsV.take{k:Nat}(h:ownsV w lo e sz v n xs)(hk:k<=n){v':Value}(hv:∀ g cap,v=.slice (some ⟨g,0,none⟩) n cap->v'=.slice (some ⟨g,0,none⟩) k cap)(hn:v=.slice none 0 0->v'=.slice none 0 0):ownsV w lo e sz v' k (xs.take (k*sz)):=by
 have hkn:k*sz<=n*sz:=Nat.mul_le_mul_right _ hk;refine ⟨by rw[length_take,h.1];omega,?_⟩;rcases h.2 with ⟨e1,rfl⟩|⟨g,cap,cur,e1,hb,hg,h1,h2,h3,ht⟩
 ·exact .inl ⟨hn e1,by omega⟩
 ·refine .inr ⟨g,cap,cur,hv g cap e1,hb,hg,by omega,h2,h3,?_⟩;rw[← ht,take_take,Nat.min_eq_left hkn]
end
class IsP (P:Program):Prop where
 eq:P=Tryz.prog
instance:IsP Tryz.prog:=⟨rfl⟩
abbrev Oid:=(Nat×Nat)×Nat
def kid(p:Oid)(r:Nat):Oid:=((p.1.1,r+1),p.2)
theorem Gr{p:Oid}{r s:Nat}(h:kid p r=kid p s):r=s:=by
 have:=congrArg (fun i:Oid=>i.1.2) h;simp only[kid]at this;omega
def mtd:Nat:=1000000
def Rc(g:FuncId):FuncId:=if g<mtd then g else g - mtd
def Dt{α:Type}(g:FuncId)(xs caps:List α):List α:=if g<mtd then xs++caps else caps++xs
def fnV(g:FuncId)(vs:LV):Value:=if g<mtd then .func (.func g) #[] vs.toArray else .func (.func (g - mtd)) vs.toArray #[]
theorem Aw5(g:FuncId)(vs:LV):(fnV g vs).oneCell'=true:=by unfold fnV;split <;> rfl
theorem Ag2{α β:Type}(f:α->β)(g:FuncId)(xs caps:List α):(Dt g xs caps).map f=Dt g (xs.map f) (caps.map f):=by unfold Dt;split <;> rw[map_append]
def mR(m:Option NP)(im:NP):NP:=
 match m with
 | none=>im
 | some R=>fun b=>im b/\R b
theorem Ao8{m:Option NP}{im im':NP}(hi:∀ b,im b->im' b){b:Nat}(h:mR m im b):mR m im' b:=by
 cases m with
 | none=>exact hi b h
 | some R=>exact ⟨hi b h.1,h.2⟩
inductive AV where
 | any
 | int (k:IntKind) (n:Int)
 | bool (b:Bool)
 | str (s:ByteArray)
 | nils
 | tree (t:Ty) (xs:List t.D)
 | own (i:Oid) (t:Ty) (off len:Nat)
 | box (i:Oid) (k:Nat)
 | elt (i:Oid) (j k:Nat)
 | telt (m:Option NP) (t:Ty) (x:t.D) (k:Nat)
 | sla (i:Oid) (j n:Nat)
 | agg (cs:List AV)
 | tup (vs:List AV)
 | fn (f:FuncId) (caps:List AV)
 | ref (cs:List AV)
 | giv (v:Value) (t:Ty) (xs:List t.D)
 | ftr (R:NP) (t:Ty) (xs:List t.D)
 | abool (pos:Bool) (n:Nat)
 | err (b:Bool) (o:Option (TypeId×(Nat ⊕ List Int)))
 | mp (i:Oid)
 | mtree (mt:TypeId) (t:Ty) (es:List (Int×t.D))
inductive Ob where
 | cells (ty:TypeId) (cs:List AV)
 | arr (e:TypeId) (t:Ty) (xs:List t.D)
 | map (mt:TypeId) (t:Ty) (es:List (Int×t.D))
 | vec (e:TypeId) (sz n:Nat) (cs:List AV)
 | pool (e:TypeId) (t:Ty) (xss:List (List t.D))
 | mat (e:TypeId) (p:Oid) (t:Ty) (xss:List (List t.D))
 | tv (e:TypeId) (m:Option NP) (t:Ty) (xs:List t.D)
inductive Loc where
 | nil
 | at_ (b cap sz:Nat)
abbrev OL:=List (Oid×Option Ob)
abbrev OF:=Oid->Option Ob
abbrev OC:=Oid->Option Loc
abbrev TL:=List (Nat×AV)
abbrev TF:=Nat->AV
abbrev LA:=List AV
def Loc.val:Loc->Nat->Value
 | .nil,_=>.slice none 0 0
 | .at_ b cap _,n=>.slice (some ⟨b,0,none⟩) n cap
mutual
def AV.Rep(C:OC)(im:NP)(w:World):AV->Value->Prop
 | .any,_=>True
 | .int k n,v=>v=.int k n
 | .bool b,v=>v=.bool b
 | .str s,v=>v=.string s
 | .nils,v=>v=.slice none 0 0
 | .tree t xs,v=>∃ A c l,v=.slice A xs.length c/\Sl im w t A c xs l
 | .ftr R t xs,v=>∃ A c l,v=.slice A xs.length c/\Sl (fun b=>im b/\R b) w t A c xs l
 | .abool pos n,v=>∃ b,v=.bool b/\(b=pos->n=0)
 | .err b o,v=>(b=false/\v=.nilIface)∨(b=true/\∃ t u,v=.iface t u/\∀ T xs,o=some (T,xs)->t=T/\(∀ n,xs=.inl n->∃ us:LV,us.length=n/\u=.agg us.toArray)/\∀ l,xs=.inr l->u=.agg (l.map (Value.int .i64)).toArray)
 | .giv u t xs,v=>v=u/\∃ A c l,v=.slice A xs.length c/\Sl im w t A c xs l
 | .own i t off len,v=>(C i=some .nil/\off=0/\len=0/\v=.slice none 0 0)∨(∃ b cap,C i=some (.at_ b cap t.size)/\off+len<=cap/\v=.slice (some ⟨b,off*t.size,none⟩) len (cap - off))∨∃ lc,C i=some lc/\off≠0/\len=0/\∃ A c,v=.slice A 0 c/\c<=maxLen
 | .box i k,v=>∃ b cap sz,C i=some (.at_ b cap sz)/\v=.pointer (some ⟨b,k,none⟩)
 | .elt i j k,v=>∃ b cap sz,C i=some (.at_ b cap sz)/\v=.pointer (some ⟨b,j*sz+k,none⟩)
 | .sla i j n,v=>∃ b cap,C i=some (.at_ b cap n)/\v=.slice (some ⟨b,j*n,none⟩) n n
 | .mp i,v=>∃ b cap sz,C i=some (.at_ b cap sz)/\v=.map (some b)
 | .mtree mt t es,v=>∃ b,v=.map (some b)/\im b/\MapRep Tryz.prog mt t es w b
 | .telt m t x k,v=>∃ a l,v=.pointer (some (a.add k))/\Ty.Mem (mR m im) w t a x l/\mR m im a.block
 | .agg cs,v=>∃ vs:LV,v=.agg vs.toArray/\AV.RepL C im w cs vs
 | .tup cs,v=>∃ vs:LV,v=.tuple vs.toArray/\AV.RepL C im w cs vs
 | .fn f caps,v=>∃ vs:LV,v=fnV f vs/\AV.RepL C im w caps vs
 | .ref cs,v=>∃(b k:Nat) (vs:LV),v=.pointer (some ⟨b,k,none⟩)/\(b<w.heap.size/\im b)/\(∀(j:Nat) (u:Value),vs[j]? =some u->w.cell? ⟨b,k+j,none⟩=some u)/\AV.RepL C im w cs vs
def AV.RepL(C:OC)(im:NP)(w:World):LA->LV->Prop
 | [],vs=>vs=[]
 | c :: cs,vs=>∃ u us,vs=u :: us/\AV.Rep C im w c u/\AV.RepL C im w cs us
end
structure Later(C C':OC)(im im':NP)(w w':World):Prop where
 loc:∀ i l,C i=some l->C' i=some l
 im_:∀ b,b<w.heap.size->im b->im' b
 blk:∀ b,b<w.heap.size->im b->w'.heap[b]? =w.heap[b]?
 size:w.heap.size<=w'.heap.size
theorem Later.cell{C C':OC}{im im':NP}{w w':World}(h:Later C C' im im' w w')(p:Addr)(u:Value)(hp:im p.block)(hc:w.cell? p=some u):w'.cell? p=some u:=
 (World.cell?_of_block (h.blk _ (World.block_lt_of_cell? w p hc) hp)).trans hc
section
variable{C C' C'':OC}{im im' im'':NP}{w w' w'':World}
theorem Later.mem(h:Later C C' im im' w w'){t:Ty}{a:Addr}{x:t.D}{l:List Addr}(ha:im a.block)(hm:Ty.Mem im w t a x l):im' a.block/\Ty.Mem im' w' t a x l:=by
 have hlt:=hm.lt;refine ⟨h.im_ _ hlt ha,?_⟩;have h1:Ty.Mem (fun b=>im b/\b<w.heap.size) w t a x l:=hm.mono fun b hb hi=>⟨hi,hb⟩
 have h2:Ty.Mem (fun b=>im b/\b<w.heap.size) w' t a x l:=h1.keep (R:=fun b=>im b/\b<w.heap.size) ⟨ha,hlt⟩ fun p u hr hc _=>h.cell p u hr.1 hc;exact h2.mono fun b _ hb=>h.im_ b hb.2 hb.1
theorem Later.sl(h:Later C C' im im' w w'){t:Ty}{A:Option Addr}{c:Nat}{xs:List t.D}{l:List Addr}(hs:Sl im w t A c xs l):Sl im' w' t A c xs l:=by
 have ⟨h1,h2,f,e2,hf⟩:=hs;refine ⟨h1,h2,f,e2,fun h0=>?_⟩;have ⟨ad,e',hr,hm⟩:=hf h0;have hb:=(h.mem (by rw[Ef];exact hr)<|hm 0 h0).1;rw[Ef]at hb;exact ⟨ad,e',hb,fun i hlt=>(h.mem (by rw[Ef];exact hr)<|hm i hlt).2⟩
theorem Later.mR(h:Later C C' im im' w w')(m:Option NP):Later C C' (mR m im) (mR m im') w w':=by
 cases m with
 | none=>exact h
 | some R=>exact ⟨h.loc,fun b hb hi=>⟨h.im_ b hb hi.1,hi.2⟩,fun b hb hi=>h.blk b hb hi.1,h.size⟩
theorem Later.slN(h:Later C C' im im' w w'){R:NP}{t:Ty}{A:Option Addr}{c:Nat}{xs:List t.D}{l:List Addr}(hs:Sl (fun b=>im b/\R b) w t A c xs l):Sl (fun b=>im' b/\R b) w' t A c xs l:=
 Later.sl (C:=C) (C':=C') (im:=fun b=>im b/\R b) (im':=fun b=>im' b/\R b) ⟨h.loc,fun b hb hi=>⟨h.im_ b hb hi.1,hi.2⟩,fun b hb hi=>h.blk b hb hi.1,h.size⟩ hs
mutual
theorem AV.Rep.later(h:Later C C' im im' w w'):∀(c:AV) (v:Value),AV.Rep C im w c v->AV.Rep C' im' w' c v
 | .any,_,_=>trivial
 | .int _ _,_,h=>h
 | .bool _,_,h=>h
 | .str _,_,h=>h
 | .nils,_,h=>h
 | .tree _ _,_,⟨A,c,l,e,hs⟩=>⟨A,c,l,e,h.sl hs⟩
 | .giv _ _ _,_,⟨h0,A,c,l,e,hs⟩=>⟨h0,A,c,l,e,h.sl hs⟩
 | .ftr _ _ _,_,⟨A,c,l,e,hs⟩=>⟨A,c,l,e,h.slN hs⟩
 | .abool _ _,_,h=>h
 | .err _ _,_,h=>h
 | .own _ _ _ _,_,hv=>by
   rcases hv with ⟨h1,h2⟩|⟨b,cap,h1,h2⟩|⟨lc,h1,h2⟩
   ·exact .inl ⟨h.loc _ _ h1,h2⟩
   ·exact .inr (.inl ⟨b,cap,h.loc _ _ h1,h2⟩)
   ·exact .inr (.inr ⟨lc,h.loc _ _ h1,h2⟩)
 | .box _ _,_,⟨b,cap,sz,h1,h2⟩=>⟨b,cap,sz,h.loc _ _ h1,h2⟩
 | .elt _ _ _,_,⟨b,cap,sz,h1,h2⟩=>⟨b,cap,sz,h.loc _ _ h1,h2⟩
 | .sla _ _ _,_,⟨b,cap,h1,h2⟩=>⟨b,cap,h.loc _ _ h1,h2⟩
 | .mp _,_,⟨b,cap,sz,h1,h2⟩=>⟨b,cap,sz,h.loc _ _ h1,h2⟩
 | .mtree _ _ _,_,⟨b,e,h1,h2⟩=>⟨b,e,h.im_ _ h2.lt h1,h2.same (h.blk _ h2.lt h1)⟩
 | .telt m _ _ _,_,⟨a,l,e,h1,h2⟩=>⟨a,l,e,((h.mR m).mem h2 h1).2,((h.mR m).mem h2 h1).1⟩
 | .agg cs,_,⟨vs,e,hl⟩=>⟨vs,e,AV.RepL.later h cs vs hl⟩
 | .tup cs,_,⟨vs,e,hl⟩=>⟨vs,e,AV.RepL.later h cs vs hl⟩
 | .fn _ cs,_,⟨vs,e,hl⟩=>⟨vs,e,AV.RepL.later h cs vs hl⟩
 | .ref cs,_,⟨b,k,vs,e,hb,hc,hl⟩=>⟨b,k,vs,e,⟨Nat.lt_of_lt_of_le hb.1 h.size,h.im_ _ hb.1 hb.2⟩,fun j u hu=>h.cell _ _ hb.2 (hc j u hu),AV.RepL.later h cs vs hl⟩
theorem AV.RepL.later(h:Later C C' im im' w w'):∀(cs:LA) (vs:LV),AV.RepL C im w cs vs->AV.RepL C' im' w' cs vs
 | [],_,h=>h
 | c :: cs,_,⟨u,us,e,h1,h2⟩=>⟨u,us,e,AV.Rep.later h c u h1,AV.RepL.later h cs us h2⟩
end
theorem Later.refl(C:OC)(im:NP)(w:World):Later C C im im w w:=⟨fun _ _ h=>h,fun _ _ h=>h,fun _ _ _=>rfl,fQ _⟩
theorem AV.RepL.length:∀{cs:LA} {vs:LV},AV.RepL C im w cs vs->vs.length=cs.length
 | [],_,h=>by rw[show _=[] from h];rfl
 | _ :: _,_,⟨_,_,e,_,h⟩=>by subst e;simp[AV.RepL.length h]
theorem AV.RepL.get:∀ {cs:LA} {vs:LV} {k:Nat} {c:AV},AV.RepL C im w cs vs->cs[k]? =some c->∃ v,vs[k]? =some v/\AV.Rep C im w c v
 | [],_,_,_,_,hk=>by simp at hk
 | _ :: _,_,0,_,⟨u,_,e,h1,_⟩,hk=>by subst e;simp at hk;subst hk;exact ⟨u,by simp,h1⟩
 | _ :: _,_,k+1,_,⟨_,_,e,_,h2⟩,hk=>by
  subst e;obtain ⟨v,hv,hr⟩:=AV.RepL.get h2 (by simpa using hk);exact ⟨v,by simpa using hv,hr⟩
theorem AV.RepL.of_get:∀{cs:LA} {vs:LV},vs.length=cs.length->(∀(k:Nat) (c:AV) (v:Value),cs[k]? =some c->vs[k]? =some v->AV.Rep C im w c v)->AV.RepL C im w cs vs
 | [],_,hl,_=>length_eq_zero_iff.1 (by simpa using hl)
 | _ :: _,[],hl,_=>by simp at hl
 | c :: _,v :: vs,hl,h=>⟨v,vs,rfl,h 0 c v fS fS,AV.RepL.of_get (by simpa using hl) (fun k c' v' h1 h2=>h (k+1) c' v' (by simpa using h1) (by simpa using h2))⟩
theorem AV.RepL.set{cs:LA}{vs:LV}{k:Nat}{c:AV}{v:Value}(h:AV.RepL C im w cs vs)(hv:AV.Rep C im w c v):AV.RepL C im w (cs.set k c) (vs.set k v):=by
 refine AV.RepL.of_get (by simp[h.length]) fun j c' v' h1 h2=>?_;rw[getElem?_set]at h1 h2;by_cases hj:k=j
 ·subst hj;simp at h1 h2;obtain ⟨_,rfl⟩:=h1;obtain ⟨_,rfl⟩:=h2;exact hv
 ·simp[hj]at h1 h2;have ⟨u,hu,hr⟩:=h.get h1;rw[h2]at hu;cases hu;exact hr
theorem AV.RepL.append{cs ds:LA}{vs us:LV}(h:AV.RepL C im w cs vs)(h':AV.RepL C im w ds us):AV.RepL C im w (cs++ds) (vs++us):=by
 induction cs generalizing vs with
 | nil=>rw[show vs=[] from h];exact h'
 | cons c cs ih=>obtain ⟨u,ws,rfl,h1,h2⟩:=h;exact ⟨u,_,rfl,h1,ih h2⟩
theorem AV.RepL.take{cs:LA}{vs:LV}(h:AV.RepL C im w cs vs)(n:Nat):AV.RepL C im w (cs.take n) (vs.take n):=by
 refine AV.RepL.of_get (by simp[h.length]) fun j c' v' h1 h2=>?_;rw[getElem?_take]at h1 h2;split at h1 <;> simp_all;have ⟨u,hu,hr⟩:=h.get h1;rw[h2]at hu;cases hu;exact hr
theorem AV.RepL.drop{cs:LA}{vs:LV}(h:AV.RepL C im w cs vs)(n:Nat):AV.RepL C im w (cs.drop n) (vs.drop n):=by
 refine AV.RepL.of_get (by simp[h.length]) fun j c' v' h1 h2=>?_;rw[getElem?_drop]at h1 h2;have ⟨u,hu,hr⟩:=h.get h1;rw[h2]at hu;cases hu;exact hr
end
def AV.one:AV->Bool
 | .any | .agg _ | .tup _=>false
 | _=>true
theorem AV.one_rep{C:OC}{im:NP}{w:World}{c:AV}{v:Value}(h:c.one=true)(hr:AV.Rep C im w c v):v.oneCell'=true:=by
 cases c with
 | any=>cases h
 | agg _=>cases h
 | tup _=>cases h
 | int k n=>rw[show v=.int k n from hr];rfl
 | bool b=>rw[show v=.bool b from hr];rfl
 | str s=>rw[show v=.string s from hr];rfl
 | nils=>rw[show v=.slice none 0 0 from hr];rfl
 | tree t xs=>have ⟨_,_,_,e,_⟩:=hr;subst e;rfl
 | ftr n t xs=>have ⟨_,_,_,e,_⟩:=hr;subst e;rfl
 | abool _ _=>have ⟨_,e,_⟩:=hr;subst e;rfl
 | err _ _=>rcases hr with ⟨_,e⟩|⟨_,_,_,e,_⟩ <;> subst e <;> rfl
 | giv _ _ _=>have ⟨_,_,_,_,e,_⟩:=hr;subst e;rfl
 | own i t off len=>rcases hr with ⟨_,_,_,e⟩|⟨_,_,_,_,e⟩|⟨_,_,_,_,_,_,e,_⟩ <;> subst e <;> rfl
 | box i k=>have ⟨_,_,_,_,e⟩:=hr;subst e;rfl
 | elt i j k=>have ⟨_,_,_,_,e⟩:=hr;subst e;rfl
 | telt m t x k=>have ⟨_,_,e,_⟩:=hr;subst e;rfl
 | mp i=>have ⟨_,_,_,_,e⟩:=hr;subst e;rfl
 | sla i j n=>have ⟨_,_,_,e⟩:=hr;subst e;rfl
 | mtree mt t es=>have ⟨_,e,_⟩:=hr;subst e;rfl
 | fn f caps=>have ⟨_,e,_⟩:=hr;subst e;exact Aw5 _ _
 | ref cs=>have ⟨_,_,_,e,_⟩:=hr;subst e;rfl
theorem AV.one_repL{C:OC}{im:NP}{w:World}:∀{cs:LA} {vs:LV},cs.all AV.one=true->AV.RepL C im w cs vs->∀ v∈vs,v.oneCell'=true
 | [],_,_,h,v,hv=>by rw[show _=[] from h]at hv;cases hv
 | c :: cs,_,hc,⟨u,us,e,h1,h2⟩,v,hv=>by
  subst e;simp only[all_cons,fT]at hc;rcases mem_cons.1 hv with rfl|hv
  ·exact AV.one_rep hc.1 h1
  ·exact AV.one_repL hc.2 h2 v hv
def AV.un:AV->AV
 | .giv _ t xs=>.tree t xs
 | .ftr _ t xs=>.tree t xs
 | c=>c
def AV.tag:AV->Option NP
 | .ftr R _ _=>some R
 | _=>none
theorem Apq{C:OC}{im:NP}{w:World}{c:AV}{v:Value}{t:Ty}{xs:List t.D}(h:AV.Rep C im w c v)(hu:c.un=.tree t xs):∃ A cp l,v=.slice A xs.length cp/\Sl (mR c.tag im) w t A cp xs l:=by
 cases c <;> simp only[AV.un]at hu <;> first|(cases hu;done)|skip
 ·cases hu;exact h
 ·cases hu;exact h.2
 ·cases hu;exact h
theorem Afk{C:OC}{im:NP}{w:World}{c:AV}{v:Value}(h:AV.Rep C im w c v):AV.Rep C im w c.un v:=by
 cases c with
 | giv _ _ _=>exact h.2
 | ftr _ _ _=>have ⟨A,c,l,e,hs⟩:=h;exact ⟨A,c,l,e,Cc (fun b _ hb=>hb.1) hs⟩
 | _=>exact h
def Ob.Rep(lo:Nat)(C:OC)(im:NP)(w:World):Ob->Loc->Prop
 | .cells ty cs,.at_ b _ _=>∃ vs:LV,w.heap[b]? =some (.cells vs.toArray ty (0,0))/\AV.RepL C im w cs vs/\∀ v∈vs,v.oneCell'=true
 | .cells _ _,.nil=>False
 | .map mt t es,.at_ b _ _=>MapRep Tryz.prog mt t es w b
 | .map _ _ _,.nil=>False
 | .arr e t xs,l=>t.flat=true/\ownsV w lo e t.size (l.val xs.length) xs.length (t.cells xs)/\∀ b c s,l=.at_ b c s->s=t.size
 | .vec e sz n cs,l=>∃ vs:LV,ownsV w lo e sz (l.val n) n vs/\AV.RepL C im w cs vs/\(∀ v∈vs,v.oneCell'=true)/\∀ b c s,l=.at_ b c s->s=sz
 | .pool _ _ _,_=>False
 | .mat _ _ _ _,_=>False
 | .tv _ _ _ _,_=>False
def imm(ob:OF)(C:OC)(b:Nat):Prop:=∀ i o c s,ob i=some o->C i≠some (.at_ b c s)
structure Mem0(G:WP)(w0:World)(ob:OF)(C:OC)(K:NP)(w:World):Prop where
 below:Below w0.heap.size w0 w
 inv:∀ w',Below w0.heap.size w0 w'->G w'
 gen:∀ i l,C i=some l->K i.2
 lt:∀ i b c s,C i=some (.at_ b c s)->w0.heap.size<=b/\b<w.heap.size
 cap:∀ i b c s,C i=some (.at_ b c s)->c<=maxLen
 inj:∀ i j b c s c' s' o o',ob i=some o->ob j=some o'->C i=some (.at_ b c s)->C j=some (.at_ b c' s')->i=j
 obs:∀ i o l,ob i=some o->C i=some l->o.Rep w0.heap.size C (imm ob C) w l
end
section
def upd{ι α:Type}[DecidableEq ι](f:ι->α)(i:ι)(v:α)(j:ι):α:=if j=i then v else f j
section
variable{ι α:Type}[DecidableEq ι](f:ι->α)(i j:ι)(v:α)
theorem Bh:upd f i v i=v:=by simp[upd]
theorem A0(h:j≠i):upd f i v j=f j:=by simp[upd,h]
end
section
variable{G:WP}{w0 w w':World}{ob ob':OF}{C C':OC}{K K':NP}{lo:Nat}
theorem Yl{base:Nat}{e:TypeId}{sz:Nat}{l:Loc}{n:Nat}{cells:LV}(h:ownsV w base e sz (l.val n) n cells)(hb:∀ b c s,l=.at_ b c s->w'.heap[b]? =w.heap[b]?):ownsV w' base e sz (l.val n) n cells:=by
 refine h.block fun k hk=>?_
 cases l with
 | nil=>cases hk
 | at_ b c s=>cases hk;exact hb _ _ _ rfl
theorem Ob.Rep.later{im im':NP}(h:Later C C' im im' w w'):∀{o:Ob} {l:Loc},o.Rep lo C im w l->(∀ b c s,l=.at_ b c s->w'.heap[b]? =w.heap[b]?)->o.Rep lo C' im' w' l
 | .cells _ _,.at_ b c s,⟨vs,h1,h2,h3⟩,hb=>⟨vs,(hb b c s rfl).trans h1,AV.RepL.later h _ _ h2,h3⟩
 | .cells _ _,.nil,hh,_=>hh
 | .map _ _ _,.at_ b c s,hh,hb=>MapRep.same hh (hb b c s rfl)
 | .map _ _ _,.nil,hh,_=>hh
 | .arr _ _ _,_,⟨h1,h2,h3⟩,hb=>⟨h1,Yl h2 hb,h3⟩
 | .vec _ _ _ _,_,⟨vs,h1,h2,h3,h4⟩,hb=>⟨vs,Yl h1 hb,AV.RepL.later h _ _ h2,h3,h4⟩
 | .pool _ _ _,_,hh,_=>hh
 | .mat _ _ _ _,_,hh,_=>hh
 | .tv _ _ _ _,_,hh,_=>hh
theorem Later.below(hb:Below w.heap.size w w'):Later C C (imm ob C) (imm ob C) w w' :=
 ⟨fun _ _ h=>h,fun _ _ h=>h,fun b hlt _=>hb.block b hlt,hb.size⟩
theorem Mem0.grow(h:Mem0 G w0 ob C K w)(hb:Below w.heap.size w w')(hK:∀ n,K n->K' n):Mem0 G w0 ob C K' w' where
 below:=h.below.trans (hb.mono h.below.size)
 inv:=h.inv
 gen i l hi:=hK _ (h.gen i l hi)
 lt i b c s hi:=⟨(h.lt i b c s hi).1,Nat.lt_of_lt_of_le (h.lt i b c s hi).2 hb.size⟩
 cap:=h.cap
 inj:=h.inj
 obs i o l ho hi:=(h.obs i o l ho hi).later (Later.below hb) fun b c s e=>hb.block b (h.lt i b c s (e▸hi)).2
theorem Later.new{i:Oid}{l:Loc}{o:Ob}(hi:C i=none)(hb:Below w.heap.size w w')(hl:∀ b c s,l=.at_ b c s->w.heap.size<=b):
  Later C (upd C i (some l)) (imm ob C) (imm (upd ob i (some o)) (upd C i (some l))) w w':=by
 refine ⟨fun j k hj=>?_,fun b hlt him j o' c s ho hs=>?_,fun b hlt _=>hb.block b hlt,hb.size⟩
 ·have:j≠i:=fun e=>by rw[e,hi]at hj;cases hj
  rw[A0 _ _ _ _ this];exact hj
 ·by_cases e:j=i
  ·subst e;rw[Bh]at hs;have:=hl b c s<|osj hs;omega
  ·rw[A0 _ _ _ _ e]at ho hs;exact him j o' c s ho hs
theorem Mem0.new(h:Mem0 G w0 ob C K w){i:Oid}{l:Loc}{o:Ob}(hi:C i=none)(hb:Below w.heap.size w w')(hl:∀ b c s,l=.at_ b c s->w.heap.size<=b/\b<w'.heap.size/\c<=maxLen)
  (hK:∀ n,K n->K' n) (hi':K' i.2) (ho:o.Rep w0.heap.size (upd C i (some l)) (imm (upd ob i (some o)) (upd C i (some l))) w' l):Mem0 G w0 (upd ob i (some o)) (upd C i (some l)) K' w':=by
 have hL:=Later.new (ob:=ob) (o:=o) hi hb fun b c s e=>(hl b c s e).1;refine ⟨h.below.trans<|hb.mono h.below.size,h.inv,fun j k hj=>?_,fun j b c s hj=>?_,fun j b c s hj=>?_,fun j k b c s c' s' oj ok hoj hok hj hk=>?_,fun j oj lj hoj hj=>?_⟩
 ·by_cases e:j=i
  ·subst e;exact hi'
  ·rw[A0 _ _ _ _ e]at hj;exact hK _<|h.gen j k hj
 ·by_cases e:j=i
  ·subst e;rw[Bh]at hj;have:=hl b c s<|osj hj;exact ⟨Nat.le_trans h.below.size this.1,this.2.1⟩
  ·rw[A0 _ _ _ _ e]at hj;exact ⟨(h.lt j b c s hj).1,Nat.lt_of_lt_of_le (h.lt j b c s hj).2 hb.size⟩
 ·by_cases e:j=i
  ·subst e;rw[Bh]at hj;exact (hl b c s<|osj hj).2.2
  ·rw[A0 _ _ _ _ e]at hj;exact h.cap j b c s hj
 ·by_cases e:j=i <;> by_cases e':k=i
  ·rw[e,e']
  ·subst e;rw[Bh]at hj;rw[A0 _ _ _ _ e']at hk;have:=(hl b c s<|osj hj).1;have:=(h.lt k b c' s' hk).2;omega
  ·subst e';rw[Bh]at hk;rw[A0 _ _ _ _ e]at hj;have:=(hl b c' s'<|osj hk).1;have:=(h.lt j b c s hj).2;omega
  ·rw[A0 _ _ _ _ e]at hj hoj;rw[A0 _ _ _ _ e']at hk hok;exact h.inj j k b c s c' s' oj ok hoj hok hj hk
 ·by_cases e:j=i
  ·subst e;rw[Bh]at hj hoj;cases hj;cases hoj;exact ho
  ·rw[A0 _ _ _ _ e]at hj hoj;exact (h.obs j oj lj hoj hj).later hL fun b c s e'=>hb.block b (h.lt j b c s<|e'▸hj).2
structure Only(b:Nat)(w w':World):Prop where
 os:w'.os=w.os
 tape:w'.tape=w.tape
 output:w'.output=w.output
 size:w.heap.size<=w'.heap.size
 block:∀ k,k<w.heap.size->k≠b->w'.heap[k]? =w.heap[k]?
theorem Only.below{b:Nat}(h:Only b w w')(hB:lo<=b)(hl:lo<=w.heap.size):Below lo w w':=⟨h.os,h.tape,h.output,h.size,fun k hk=>h.block k oM oM⟩
theorem Only.of_below{b:Nat}(h:Below w.heap.size w w'):Only b w w':=⟨h.os,h.tape,h.output,h.size,fun k hk _=>h.block k hk⟩
theorem Later.swap{i i':Oid}{b c s c' s':Nat}{o o':Ob}(ho:ob i=some o)(hi:C i=some (.at_ b c s))(hi':i'=i/\c'=c/\s'=s∨C i'=none)(hb:Only b w w'):
  Later C (upd C i' (some (.at_ b c' s'))) (imm ob C) (imm (upd (upd ob i none) i' (some o')) (upd C i' (some (.at_ b c' s')))) w w':=by
 refine ⟨fun j k hj=>?_,fun b' hlt him j oj cj sj hoj hj=>?_,fun b' hlt hp=>?_,hb.size⟩
 ·by_cases e:j=i'
  ·subst e;rcases hi' with ⟨rfl,rfl,rfl⟩|hn
   ·rw[Bh,← hi];exact hj
   ·rw[hn]at hj;cases hj
  ·rw[A0 _ _ _ _ e];exact hj
 ·by_cases e:j=i'
  ·subst e;rw[Bh]at hj;obtain ⟨rfl,_⟩:=Loc.at_.inj<|osj hj;exact him i o c s ho hi
  ·rw[A0 _ _ _ _ e]at hoj hj;by_cases e2:j=i
   ·subst e2;rw[Bh]at hoj;cases hoj
   ·rw[A0 _ _ _ _ e2]at hoj;exact him j oj cj sj hoj hj
 ·exact hb.block b' hlt fun e=>hp i o c s ho (by rw[e];exact hi)
theorem Mem0.swap(h:Mem0 G w0 ob C K w){i i':Oid}{b c s c' s':Nat}{o o':Ob}(ho:ob i=some o)(hi:C i=some (.at_ b c s))(hi':i'=i/\c'=c/\s'=s∨C i'=none)(hb:Only b w w')
  (hK:∀ n,K n->K' n) (hk:K' i'.2) (hcap:c'<=maxLen) (hr:o'.Rep w0.heap.size (upd C i' (some (.at_ b c' s'))) (imm (upd (upd ob i none) i' (some o')) (upd C i' (some (.at_ b c' s')))) w' (.at_ b c' s')):
  Mem0 G w0 (upd (upd ob i none) i' (some o')) (upd C i' (some (.at_ b c' s'))) K' w':=by
 have hL:=Later.swap (o':=o') ho hi hi' hb;have hbl:=h.lt i b c s hi;refine ⟨h.below.trans<|hb.below hbl.1 h.below.size,h.inv,fun j k hj=>?_,fun j b' cj sj hj=>?_,fun j b' cj sj hj=>?_,fun j k b' cj sj ck sk oj ok hoj hok hj hk'=>?_,fun j oj lj hoj hj=>?_⟩
 ·by_cases e:j=i'
  ·subst e;exact hk
  ·rw[A0 _ _ _ _ e]at hj;exact hK _<|h.gen j k hj
 ·by_cases e:j=i'
  ·subst e;rw[Bh]at hj;obtain ⟨rfl,_⟩:=Loc.at_.inj<|osj hj;exact ⟨hbl.1,Nat.lt_of_lt_of_le hbl.2 hb.size⟩
  ·rw[A0 _ _ _ _ e]at hj;exact ⟨(h.lt j b' cj sj hj).1,Nat.lt_of_lt_of_le (h.lt j b' cj sj hj).2 hb.size⟩
 ·by_cases e:j=i'
  ·subst e;rw[Bh]at hj;obtain ⟨_,rfl,_⟩:=Loc.at_.inj<|osj hj;exact hcap
  ·rw[A0 _ _ _ _ e]at hj;exact h.cap j b' cj sj hj
 ·have key:∀ j b' cj sj oj,upd (upd ob i none) i' (some o') j=some oj->upd C i' (some<|.at_ b c' s') j=some (.at_ b' cj sj)->(j=i'/\b'=b)∨(j≠i'/\j≠i/\ob j=some oj/\C j=some (.at_ b' cj sj)):=by
   intro j b' cj sj oj hoj hj;by_cases e:j=i'
   ·subst e;rw[Bh]at hj;exact .inl ⟨rfl,(Loc.at_.inj<|osj hj).1.symm⟩
   ·rw[A0 _ _ _ _ e]at hoj hj;by_cases e2:j=i
    ·subst e2;rw[Bh]at hoj;cases hoj
    ·rw[A0 _ _ _ _ e2]at hoj;exact .inr ⟨e,e2,hoj,hj⟩
  rcases key j b' cj sj oj hoj hj with ⟨rfl,rfl⟩|⟨n1,n2,a1,a2⟩ <;> rcases key k b' ck sk ok hok hk' with ⟨rfl,e⟩|⟨m1,m2,c1,c2⟩
  ·rfl
  ·exact absurd (h.inj k i b' ck sk c s ok o c1 ho c2 hi) m2
  ·subst e;exact absurd (h.inj j i b' cj sj c s oj o a1 ho a2 hi) n2
  ·exact h.inj j k b' cj sj ck sk oj ok a1 c1 a2 c2
 ·by_cases e:j=i'
  ·subst e;rw[Bh]at hoj hj;cases hoj;cases hj;exact hr
  ·rw[A0 _ _ _ _ e]at hoj hj;by_cases e2:j=i
   ·subst e2;rw[Bh]at hoj;cases hoj
   ·rw[A0 _ _ _ _ e2]at hoj;refine (h.obs j oj lj hoj hj).later hL fun b' cj sj el=>?_
    subst el;refine hb.block b' (h.lt j b' cj sj hj).2 fun eb=>e2 ?_
    subst eb;exact h.inj j i b' cj sj c s oj o hoj ho hj hi
end
end
section
inductive Opd where
 | tmp (n:Nat)
 | cst (v:AV)
def AV.of1:Value->AV
 | .int k n=>.int k n
 | .bool b=>.bool b
 | .string s=>.str s
 | .slice none 0 0=>.nils
 | .nilIface=>.err false none
 | _=>.any
def AV.of:Value->AV
 | .agg cs=>.agg (cs.toList.map AV.of1)
 | v=>AV.of1 v
def Opd.of:Operand->Option Opd
 | .tmp t=>some (.tmp t)
 | .const v=>some (.cst (AV.of v))
 | .func f=>if f<mtd then some (.cst (.fn f [])) else none
 | .global _=>none
def Opd.ofL:List Operand->Option (List Opd)
 | []=>some []
 | x :: xs=>match Opd.of x,Opd.ofL xs with
  | some y,some ys=>some (y :: ys)
  | _,_=>none
def Opd.ev(f:TF):Opd->AV
 | .tmp n=>f n
 | .cst v=>v
section
variable{C:OC}{im:NP}{w:World}
theorem AV.of1_rep(v:Value):AV.Rep C im w (AV.of1 v) v:=by
 unfold AV.of1;split <;> first|rfl|trivial|exact .inl ⟨rfl,rfl⟩
theorem AV.of1_repL:∀(l:LV),AV.RepL C im w (l.map AV.of1) l
 | []=>rfl
 | v :: l=>⟨v,l,rfl,AV.of1_rep v,AV.of1_repL l⟩
theorem AV.of_rep(v:Value):AV.Rep C im w (AV.of v) v:=by
 unfold AV.of;split
 ·exact ⟨_,rfl,AV.of1_repL _⟩
 ·exact AV.of1_rep v
def TmRep(C:OC)(im:NP)(w:World)(f:TF)(a:Act):Prop:=∀ t,AV.Rep C im w (f t) (a.tmps.getD t undef)
theorem Opd.rep{f:TF}{a:Act}{x:Operand}{y:Opd}(h:Opd.of x=some y)(hf:∀ t,y=.tmp t->AV.Rep C im w (f t) (a.tmps.getD t undef)):AV.Rep C im w (y.ev f) (a.eval x):=by
 cases x <;> simp[Opd.of]at h
 ·subst h;exact hf _ rfl
 ·subst h;exact AV.of_rep _
 ·obtain ⟨h0,rfl⟩:=h;exact ⟨[],by unfold fnV;rw[fW h0];rfl,rfl⟩
end
def Oper.does(P:Program)(o:Oper)(a:Act)(w:World)(post:Value->WP):Prop:=
 ∀(next:Act->WP) (Q:Exit->Act->WP),(∀ v w',post v w'->next (a.put o.dst v) w')->o.wp P a w next Q
section
variable{P:Program}{o:Oper}{a:Act}{w w':World}{post:Value->WP}
theorem Oper.does_value{v:Value}(h:(execOp a.eval o).run P w=.ok (.value v) w')(hp:post v w'):Oper.does P o a w post:=fun next Q hn=>by
 unfold Oper.wp;rw[h];exact hn v w' hp
theorem Oper.does_skip(h:(execOp a.eval o).run P w=.ok .skip w')(hp:post undef w'):Oper.does P o a w post:=fun next Q hn=>by
 unfold Oper.wp;rw[h];exact hn _ w' hp
theorem Oper.does_enter{f:FuncId}{args:Array Value}(h:(execOp a.eval o).run P w=.ok (.enter f args) w')(hp:Calls P f args w' fun e w''=>∃ v,e=.returned v/\post v w''):Oper.does P o a w post:=fun next Q hn=>by
 unfold Oper.wp;rw[h];refine Calls.mono hp ?_;rintro e w'' ⟨v,rfl,h⟩;exact hn v w'' h
end
inductive I where
 | mov (x:Opd)
 | pick (c x y:Opd)
 | alloc (ty:TypeId) (z:LA)
 | box (ty:TypeId) (x:Opd)
 | fld (k:Nat) (x:Opd)
 | idx (sz:Nat) (x i:Opd)
 | ld (one:Bool) (m:Nat) (x:Opd)
 | bin (op:BinOp) (x y:Opd)
 | cmp (neg:Bool) (k:Nat) (x y:Opd)
 | not (x:Opd)
 | neg (x:Opd)
 | conv (k:IntKind) (x:Opd)
 | len (x:Opd)
 | lenS (x:Opd)
 | extr (k:Nat) (x:Opd)
 | char (x i:Opd)
 | mkfn (f:FuncId) (caps:List Opd)
 | idxA (t:TypeId) (n:Nat) (x i:Opd)
 | idxV (n:Nat) (x i:Opd)
 | look (mt:TypeId) (ok:Bool) (x i:Opd)
 | lenM (mt:TypeId) (x:Opd)
 | ofld (one:Bool) (m k:Nat) (x:Opd)
 | b2s (x:Opd)
 | isnil (neg:Bool) (x:Opd)
 | toI (T:TypeId) (x:Opd)
def Abh(op:BinOp)(x y:AV):Option AV:=
 match x,y with
 | .int k a,.int k' b=>if k=k' then
   match op with
   | .add=>some (.int k (k.wrap (a+b)))
   | .sub=>some (.int k (k.wrap (a - b)))
   | .mul=>some (.int k (k.wrap (a*b)))
   | .quo=>if b=0 then none else some (.int k (k.wrap (a.tdiv b)))
   | .rem=>if b=0 then none else some (.int k (a.tmod b))
   | .eql=>some (.bool (a==b))
   | .neq=>some (.bool (a !=b))
   | .lss=>some (.bool (decide (a<b)))
   | .leq=>some (.bool (decide (a<=b)))
   | .gtr=>some (.bool (decide (b<a)))
   | .geq=>some (.bool (decide (b<=a)))
   | _=>none
  else none
 | .str a,.str b=>
   match op with
   | .add=>if (a.size+b.size:Nat)<=9223372036854775807 then some (.str (a++b)) else none
   | .eql=>some (.bool (a.toList==b.toList))
   | .neq=>some (.bool (!(a.toList==b.toList)))
   | _=>none
 | _,_=>none
def Amw(neg:Bool)(x y:AV):Option AV:=
 match x,y with
 | .bool a,.bool b=>some (.bool (if neg then a !=b else a==b))
 | _,_=>none
def Anr(neg:Bool)(x y:AV):Option AV:=
 match x,y with
 | .nils,.nils=>some (.bool (!neg))
 | .tree _ xs,.nils=>some (.abool (!neg) xs.length)
 | .own _ _ _ len,.nils=>some (.abool (!neg) len)
 | _,_=>none
def T2:LA->Option (List Int)
 | []=>some []
 | .int .i64 n :: r=>match T2 r with
  | some l=>some (n :: l)
  | none=>none
 | _=>none
def Ah9(neg:Bool)(x y:AV):Option AV:=
 match x,y with
 | .agg cs,.agg ds=>match T2 cs,T2 ds with
  | some a,some b=>if a.length=b.length then some (.bool (if neg then !(a==b) else a==b)) else none
  | _,_=>none
 | _,_=>none
def Abf(neg:Bool)(k:Nat)(x y:AV):Option AV:=
 match k with
 | 0=>Amw neg x y
 | 1=>Anr neg x y
 | 2=>none
 | n+3=>match x with
  | .agg cs=>if cs.length=n then Ah9 neg x y else none
  | _=>none
def Vv(P:Program):Nat->List Field->Bool
 | _,[]=>true
 | k,f :: fs=>(f.name != "_")&&((f.offset==k)&&((match P.underlying f.type with|some (.int .i64)=>true|_=>false)&&Vv P (k+1) fs))
def Vy(P:Program)(t:TypeId):Bool:=Vv P 0 (P.fieldsOf t).toList&&(!P.stoodInHeld t&& !P.eqGuardType P.depth t)
def Ajq(P:Program)(t e:TypeId):Bool:=(match P.underlying e with|some (.int .i64)=>true|_=>false)&&((P.info? e).isSome&&(P.cellsOf e==1&& !P.eqGuardType P.depth t))
def Avo(P:Program)(op:BinOp)(t:TypeId):Option (Bool×Nat):=
 match op,P.underlying t with
 | .eql,some .bool=>some (false,0)
 | .neq,some .bool=>some (true,0)
 | .eql,some (.slice _)=>some (false,1)
 | .neq,some (.slice _)=>some (true,1)
 | .eql,some (.struct fs)=>if Vy P t then some (false,fs.size+3) else none
 | .neq,some (.struct fs)=>if Vy P t then some (true,fs.size+3) else none
 | .eql,some (.array n e)=>if Ajq P t e then some (false,n+3) else none
 | .neq,some (.array n e)=>if Ajq P t e then some (true,n+3) else none
 | _,_=>none
def Ano(P:Program)(op:BinOp)(t:TypeId)(y:Operand):Option Bool:=
 match y,P.underlying t,op with
 | .const .nilIface,some (.interface _),.eql=>some false
 | .const .nilIface,some (.interface _),.neq=>some true
 | _,_,_=>none
def Ty.av:(t:Ty)->t.D->LA
 | .int,n=>[.int .i64 n]
 | .bool,b=>[.bool b]
 | .str,s=>[.str s]
 | .slice t,xs=>[.tree t xs]
 | .pair a b,x=>a.av x.1++b.av x.2
def trM(m:Option NP)(t:Ty)(xs:List t.D):AV:=
 match m with
 | none=>.tree t xs
 | some n=>.ftr n t xs
def Ty.avM(m:Option NP):(t:Ty)->t.D->LA
 | .int,n=>[.int .i64 n]
 | .bool,b=>[.bool b]
 | .str,s=>[.str s]
 | .slice t,xs=>[trM m t xs]
 | .pair a b,x=>a.avM m x.1++b.avM m x.2
def Dw(one:Bool)(m k:Nat)(cs:LA):Option AV:=
 if one then cs[k]? else if k+m<=cs.length then some (.agg ((cs.drop k).take m)) else none
def Ay4:(t:Ty)->t.D->AV
 | .int,n=>.int .i64 n
 | .bool,b=>.bool b
 | .pair .int .int,x=>.agg [.int .i64 x.1,.int .i64 x.2]
 | _,_=>.any
def Zu(ok:Bool)(t:Ty)(es:List (Int×t.D))(k:Int):AV:=
 if ok then .tup [Ay4 t ((D8 es k).getD t.dflt),.bool (D8 es k).isSome] else Ay4 t ((D8 es k).getD t.dflt)
def AV.n64:AV->Option Int
 | .int .i64 n=>some n
 | _=>none
noncomputable def Alq(mt:TypeId)(c:AV):Option Int:=
 match c with
 | .int .i64 k=>if L6 k/\k3 Tryz.prog mt=some false then some k else none
 | .str s=>if s.size<=maxLen/\k3 Tryz.prog mt=none then some (G6 s) else none
 | .agg cs=>match cs with
  | [x,y,z]=>match x.n64,y.n64,z.n64 with
   | some a,some b,some c=>if (L6 a/\L6 b/\L6 c)/\k3 Tryz.prog mt=some true then some (Aqt a b c) else none
   | _,_,_=>none
  | _=>none
 | _=>none
theorem Zb{mt:TypeId}{s:ByteArray}(h:s.size<=maxLen)(h3:k3 Tryz.prog mt=none):Alq mt (.str s)=some (G6 s):=fW ⟨h,h3⟩
theorem Ai4{C:OC}{im:NP}{w:World}{c:AV}{v:Value}{n:Int}(hr:AV.Rep C im w c v)(h:c.n64=some n):v=.int .i64 n:=by
 unfold AV.n64 at h;split at h
 ·cases h;exact hr
 ·cases h
theorem Ol{C:OC}{im:NP}{w:World}{mt:TypeId}{c:AV}{v:Value}{k:Int}(hr:AV.Rep C im w c v)(h:Alq mt c=some k):KG (k3 Tryz.prog mt) k/\v=kv (k3 Tryz.prog mt) k:=by
 unfold Alq at h;split at h
 ·split at h
  next k' hc=>cases h;rw[hc.2];exact ⟨hc.1,by unfold kv;exact hr⟩
  ·cases h
 ·split at h
  next s hc=>cases h;rw[hc.2];exact ⟨⟨s,hc.1,rfl⟩,by simp only[kv,Af5];exact hr⟩
  ·cases h
 ·split at h
  ·split at h
   ·rename_i a b c' q1 q2 q3;split at h
    next hc=>cases h;rw[hc.2];obtain ⟨us,rfl,_,_,rfl,h1,_,_,rfl,h2,_,_,rfl,h3,rfl⟩:=hr;refine ⟨⟨a,b,c',hc.1.1,hc.1.2.1,hc.1.2.2,rfl⟩,?_⟩;obtain rfl:=Ai4 h1 q1;obtain rfl:=Ai4 h2 q2;obtain rfl:=Ai4 h3 q3;simp[kv,Aew]
    ·cases h
   ·cases h
  ·cases h
 ·cases h
attribute [irreducible] Alq
noncomputable def evN(f:TF)(i:Oid):I->Option (AV×List (Oid×Option Ob))
 | .mov x=>some (x.ev f,[])
 | .pick c x y=>match c.ev f with
  | .bool b=>some (if b then x.ev f else y.ev f,[])
  | _=>none
 | .alloc ty z=>some (.box i 0,[(i,some (.cells ty z))])
 | .box ty x=>match x.ev f with
  | .agg cs=>if cs.all AV.one then some (.box i 0,[(i,some (.cells ty cs))]) else none
  | c=>if c.one then some (.box i 0,[(i,some (.cells ty [c]))]) else none
 | .fld k x=>match x.ev f with
  | .box j n=>some (.box j (n+k),[])
  | .elt j e n=>some (.elt j e (n+k),[])
  | .telt m t y n=>some (.telt m t y (n+k),[])
  | .ref cs=>some (.ref (cs.drop k),[])
  | _=>none
 | .idx sz x n=>match (x.ev f).un,n.ev f with
  | .tree t xs,.int _ n=>if sz=t.size then if 0<=n then (xs[n.toNat]?).map fun y=>(.telt (x.ev f).tag t y 0,[]) else none else none
  | .own j t off len,.int _ n=>if sz=t.size then if 0<=n/\n<len then some (.elt j (off+n.toNat) 0,[]) else none else none
  | _,_=>none
 | .ld one m x=>match x.ev f with
  | .telt g t y k=>(Dw one m k (t.avM g y)).map fun v=>(v,[])
  | .ref cs=>(Dw one m 0 cs).map fun v=>(v,[])
  | _=>none
 | .bin op x y=>(Abh op (x.ev f) (y.ev f)).map fun v=>(v,[])
 | .cmp neg k x y=>(Abf neg k (x.ev f).un (y.ev f)).map fun v=>(v,[])
 | .not x=>match x.ev f with
  | .bool b=>some (.bool (!b),[])
  | _=>none
 | .neg x=>match x.ev f with
  | .int k n=>some (.int k (k.wrap (0 - n)),[])
  | _=>none
 | .conv k x=>match x.ev f with
  | .int _ n=>some (.int k (k.wrap n),[])
  | _=>none
 | .len x=>match (x.ev f).un with
  | .tree _ xs=>some (.int .i64 xs.length,[])
  | .own _ _ _ n=>some (.int .i64 n,[])
  | .nils=>some (.int .i64 (0:Nat),[])
  | _=>none
 | .lenS x=>match x.ev f with
  | .str s=>some (.int .i64 s.size,[])
  | _=>none
 | .extr k x=>match x.ev f with
  | .tup vs=>(vs[k]?).map fun v=>(v,[])
  | _=>none
 | .char x n=>match x.ev f,n.ev f with
  | .str s,.int _ n=>if 0<=n then (s[n.toNat]?).map fun b=>(.int .u8 b.toNat,[]) else none
  | _,_=>none
 | .mkfn g caps=>some (.fn g (caps.map (Opd.ev f)),[])
 | .idxA _ m0 x n=>match x.ev f,n.ev f with
  | .box j k,.int _ m=>if 0<=m/\m<(m0:Int) then some (.box j (k+m.toNat),[]) else none
  | .elt j e k,.int _ m=>if 0<=m/\m<(m0:Int) then some (.elt j e (k+m.toNat),[]) else none
  | _,_=>none
 | .look mt ok x n=>match x.ev f,Alq mt (n.ev f) with
  | .mtree mt' t es,some k=>if mt=mt' then some (Zu ok t es k,[]) else none
  | _,_=>none
 | .lenM mt x=>match x.ev f with
  | .mtree mt' _ es=>if mt=mt' then some (.int .i64 es.length,[]) else none
  | _=>none
 | .idxV m0 x n=>match x.ev f,n.ev f with
  | .agg cs,.int _ m=>if 0<=m/\m<(m0:Int) then (cs[m.toNat]?).map fun v=>(v,[]) else none
  | _,_=>none
 | .ofld one m k x=>match x.ev f with
  | .agg cs=>(Dw one m k cs).map fun v=>(v,[])
  | _=>none
 | .b2s _=>none
 | .isnil neg x=>match x.ev f with
  | .err b _=>some (.bool (if neg then b else !b),[])
  | _=>none
 | .toI T x=>match x.ev f with
  | .agg cs=>some (.err true (some (T,match T2 cs with|some l=>.inr l|none=>.inl cs.length)),[])
  | _=>none
def Acq:LA->Option (List Int)
 | []=>some []
 | .int .u8 n :: r=>match Acq r with
  | some l=>some (n :: l)
  | none=>none
 | _=>none
noncomputable def evR(f:TF)(ob:OF):I->Option AV
 | .ld one m x=>match x.ev f with
  | .box j k=>match ob j with
   | some (.cells _ cs)=>Dw one m k cs
   | _=>none
  | .elt j e k=>match ob j with
   | some (.arr _ t xs)=>match xs[e]? with
    | some y=>Dw one m k (t.av y)
    | none=>none
   | some (.vec _ sz _ cs)=>Dw one m (e*sz+k) cs
   | _=>none
  | _=>none
 | .look mt ok x n=>match x.ev f,Alq mt (n.ev f) with
  | .mp j,some k=>match ob j with
   | some (.map mt' t es)=>if mt=mt' then some (Zu ok t es k) else none
   | _=>none
  | _,_=>none
 | .lenM mt x=>match x.ev f with
  | .mp j=>match ob j with
   | some (.map mt' _ es)=>if mt=mt' then some (.int .i64 es.length) else none
   | _=>none
  | _=>none
 | .b2s x=>match x.ev f with
  | .own j t off len=>match ob j with
   | some (.vec _ sz n cs)=>if sz=1/\t.size=1/\off=0/\len=n/\0<n then (Acq cs).map fun l=>.str (strOfNums l) else none
   | _=>none
  | _=>none
 | _=>none
theorem Akc{C:OC}{im:NP}{w:World}:∀(t:Ty) (x:t.D),AV.Rep C im w (Ay4 t x) (Tz t x)
 | .int,_=>rfl
 | .bool,_=>rfl
 | .str,_=>trivial
 | .slice _,_=>trivial
 | .pair a b,x=>by
  cases a with
  | int=>cases b with
   | int=>exact ⟨[_,_],rfl,_,_,rfl,rfl,_,_,rfl,rfl,rfl⟩
   | _=>trivial
  | _=>trivial
theorem Afo{C:OC}{im:NP}{w:World}(ok:Bool)(t:Ty)(es:List (Int×t.D))(k:Int):AV.Rep C im w (Zu ok t es k) (if ok then .tuple #[Tz t ((D8 es k).getD t.dflt),.bool (D8 es k).isSome] else Tz t ((D8 es k).getD t.dflt)):=by
 cases ok
 ·exact Akc _ _
 ·exact ⟨[_,_],rfl,_,_,rfl,Akc _ _,_,_,rfl,rfl,rfl⟩
def R1(P:Program)(t:TypeId):Option (Bool×Nat):=
 match P.underlying t,P.info? t with
 | some (.struct _),some i|some (.array _ _),some i=>some (false,i.size)
 | some _,some i=>if i.size=1 then some (true,1) else none
 | _,_=>none
def Ane(P:Program)(s:TypeId)(k:Nat):Option Nat:=
 match P.underlying s with
 | some (.struct fs)=>match fs[k]? with
  | some g=>match P.info? g.type with
   | some i=>if i.size=0 then none else some g.offset
   | none=>none
  | none=>none
 | _=>none
def Ayq(P:Program)(s:TypeId)(k:Nat):Option ((Bool×Nat)×Nat):=
 match P.underlying s with
 | some (.struct fs)=>match fs[k]? with
  | some g=>(R1 P g.type).map fun q=>(q,g.offset)
  | none=>none
 | _=>none
def Oe(P:Program)(t:TypeId):Option Nat:=
 match P.underlying t with
 | some (.slice e)=>(P.info? e).map (·.size)
 | _=>none
def Wx(P:Program)(t:TypeId):Option Nat:=
 match P.underlying t with
 | some (.array m0 e)=>match (P.info? e).map (·.size),P.underlying e with
  | some 1,some (.int .i64)=>some m0
  | _,_=>none
 | _=>none
def I.of(P:Program)(o:Oper):Option I:=
 match o.op with
 | .move x=>(Opd.of x).map .mov
 | .assign x=>(Opd.of x).map .mov
 | .pick c x y=>match Opd.of c,Opd.of x,Opd.of y with
  | some c,some x,some y=>some (.pick c x y)
  | _,_,_=>none
 | .alloc e=>if (Wx P e).isSome then none else match P.info? e with
  | some i=>match i.zero with
   | some z=>if z.cells.toList.all (·.oneCell') then some (.alloc e (z.cells.toList.map AV.of1)) else none
   | none=>none
  | none=>none
 | .box e x=>(Opd.of x).map (.box e)
 | .fieldAddr s x k=>match Ane P s k,Opd.of x with
  | some n,some x=>some (.fld n x)
  | _,_=>none
 | .indexAddr t x n=>match Wx P t with
  | some m0=>match Opd.of x,Opd.of n with
   | some x,some n=>some (.idxA t m0 x n)
   | _,_=>none
  | none=>match Oe P t,Opd.of x,Opd.of n with
   | some sz,some x,some n=>some (.idx sz x n)
   | _,_,_=>none
 | .load t x=>match R1 P t,Opd.of x with
  | some (one,m),some x=>some (.ld one m x)
  | _,_=>none
 | .binOp op t x y _=>match Ano P op t y with
  | some ng=>(Opd.of x).map (.isnil ng)
  | none=>match Opd.of x,Opd.of y with
   | some x,some y=>match Avo P op t with
    | some (ng,k)=>some (.cmp ng k x y)
    | none=>some (.bin op x y)
   | _,_=>none
 | .unOp .not _ x=>(Opd.of x).map .not
 | .unOp .neg _ x=>(Opd.of x).map .neg
 | .convert s d x=>match P.underlying s,P.underlying d,Opd.of x with
  | some (.int _),some (.int k),some x=>some (.conv k x)
  | some (.slice e),some .string,some x=>match P.underlying e with
   | some (.int .u8)=>some (.b2s x)
   | _=>none
  | _,_,_=>none
 | .call c=>match c.callee,c.args.toList,c.argTypes.toList with
  | .builtin .len,[x],[t]=>match P.underlying t,Opd.of x with
   | some (.slice _),some x=>some (.len x)
   | some .string,some x=>some (.lenS x)
   | some (.map _ _),some x=>some (.lenM t x)
   | _,_=>none
  | _,_,_=>none
 | .extract x k=>(Opd.of x).map (.extr k)
 | .lookup t x n ok=>match P.underlying t,Opd.of x,Opd.of n with
  | some (.map _ _),some x,some n=>some (.look t ok x n)
  | _,_,_=>none
 | .index t x n=>match Wx P t with
  | some m0=>match Opd.of x,Opd.of n with
   | some x,some n=>some (.idxV m0 x n)
   | _,_=>none
  | none=>match P.underlying t,Opd.of x,Opd.of n with
   | some .string,some x,some n=>some (.char x n)
   | _,_,_=>none
 | .makeFunc (.func g) first caps=>if g<mtd then (if first.toList.isEmpty then (Opd.ofL caps.toList).map (.mkfn g) else if caps.toList.isEmpty then (Opd.ofL first.toList).map (.mkfn (g+mtd)) else none) else none
 | .field s x k=>match Ayq P s k,Opd.of x with
  | some q,some x=>some (.ofld q.1.1 q.1.2 q.2 x)
  | _,_=>none
 | .makeInterface T x=>match P.underlying T with
  | some (.struct _)=>(Opd.of x).map (.toI T)
  | _=>none
 | _=>none
end
section
def A3(us:OL)(ob:OF):OF:=us.foldl (fun ob u=>upd ob u.1 u.2) ob
def Goes(G:WP)(w0:World)(ob':OF)(K':NP)(C:OC)(im:NP)(w:World)(v:AV)(u:Value)(w':World):Prop:=
 ∃ C',Later C C' im (imm ob' C') w w'/\Mem0 G w0 ob' C' K' w'/\AV.Rep C' (imm ob' C') w' v u
section
variable{P:Program}{G:WP}{w0 w w':World}{ob:OF}{C:OC}{K K':NP}
theorem Mem0.wide(h:Mem0 G w0 ob C K w)(hK:∀ n,K n->K' n):Mem0 G w0 ob C K' w:=h.grow (Below.refl _ _) hK
theorem Goes.same(h:Mem0 G w0 ob C K w)(hK:∀ n,K n->K' n){v:AV}{u:Value}(hr:AV.Rep C (imm ob C) w v u):Goes G w0 ob K' C (imm ob C) w v u w:=
 ⟨C,Later.refl _ _ _,h.wide hK,hr⟩
theorem Goes.fresh(h:Mem0 G w0 ob C K w){i:Oid}(hi:¬ K i.2):C i=none:=by
 cases hs:C i with
 | none=>rfl
 | some l=>exact absurd (h.gen i l hs) hi
theorem Goes.box(h:Mem0 G w0 ob C K w)(hK:∀ n,K n->K' n){i:Oid}(hi:¬ K i.2)(hi':K' i.2){ty:TypeId}{cs:LA}{vs:LV}(hr:AV.RepL C (imm ob C) w cs vs)(h1:∀ v∈vs,v.oneCell'=true):
  Goes G w0 (upd ob i (some (.cells ty cs))) K' C (imm ob C) w (.box i 0) (.pointer (some ⟨w.heap.size,0,none⟩)) (w.alloc (.cells vs.toArray ty)):=by
 have hs:=Goes.fresh h hi;have hb:Below w.heap.size w (w.alloc<|.cells vs.toArray ty):=(Below.refl _ _).alloc (fQ _) _;have hL:=Later.new (ob:=ob) (i:=i) (l:=.at_ w.heap.size 0 0) (o:=.cells ty cs) hs hb (fun b c s e=>by cases e;exact fQ _);refine ⟨_,hL,h.new hs hb (fun b c s e=>by cases e;exact ⟨fQ _,by simp,Nat.zero_le _⟩) hK hi' ?_,⟨w.heap.size,0,0,Bh _ _ _,rfl⟩⟩;exact ⟨vs,by show (w.heap.push _)[w.heap.size]? =_;simp,AV.RepL.later hL _ _ hr,h1⟩
theorem Ty.av_rep{im:NP}:∀{t:Ty} {a:Addr} {x:t.D} {l:List Addr},Ty.Mem im w t a x l ->
  (t.av x).length=t.size/\∀ j,j<t.size->∃ v c,w.cell? (a.add j)=some v/\(t.av x)[j]? =some c/\AV.Rep C im w c v
 | .int,a,_,_,⟨h,_⟩=>⟨rfl,fun j hj=>by
   obtain rfl:j=0:=by simp[Ty.size]at hj;omega
   exact ⟨_,_,by rw[Addr.add_zero'];exact h,rfl,rfl⟩⟩
 | .bool,a,_,_,⟨h,_⟩=>⟨rfl,fun j hj=>by
   obtain rfl:j=0:=by simp[Ty.size]at hj;omega
   exact ⟨_,_,by rw[Addr.add_zero'];exact h,rfl,rfl⟩⟩
 | .str,a,_,_,⟨h,_⟩=>⟨rfl,fun j hj=>by
   obtain rfl:j=0:=by simp[Ty.size]at hj;omega
   exact ⟨_,_,by rw[Addr.add_zero'];exact h,rfl,rfl⟩⟩
 | .slice t,a,_,l,⟨A,c,h,he⟩=>⟨rfl,fun j hj=>by
   obtain rfl:j=0:=by simp[Ty.size]at hj;omega
   exact ⟨_,_,by rw[Addr.add_zero'];exact h,rfl,A,c,l,rfl,he⟩⟩
 | .pair t u,a,x,_,⟨l1,l2,h1,h2,_⟩=>by
   have ⟨n1,c1⟩:=Ty.av_rep h1;have ⟨n2,c2⟩:=Ty.av_rep (a:=a.add t.size) h2;refine ⟨by simp[Ty.av,n1,n2,Ty.size],fun j hj=>?_⟩;simp only[Ty.av];by_cases hlt:j<t.size
   ·rw[getElem?_append_left oM];exact c1 j hlt
   ·rw[getElem?_append_right oM,n1];have ⟨v,c,e1,e2,e3⟩:=c2 (j - t.size) (by simp only[Ty.size]at hj;omega);rw[Di,show t.size+(j - t.size)=j by omega]at e1;exact ⟨v,c,e1,e2,e3⟩
theorem Ty.avM_rep{im:NP}(g:Option NP):∀{t:Ty} {a:Addr} {x:t.D} {l:List Addr},Ty.Mem (mR g im) w t a x l ->
  (t.avM g x).length=t.size/\∀ j,j<t.size->∃ v c,w.cell? (a.add j)=some v/\(t.avM g x)[j]? =some c/\AV.Rep C im w c v
 | .int,a,_,_,⟨h,_⟩=>⟨rfl,fun j hj=>by
   obtain rfl:j=0:=by simp[Ty.size]at hj;omega
   exact ⟨_,_,by rw[Addr.add_zero'];exact h,rfl,rfl⟩⟩
 | .bool,a,_,_,⟨h,_⟩=>⟨rfl,fun j hj=>by
   obtain rfl:j=0:=by simp[Ty.size]at hj;omega
   exact ⟨_,_,by rw[Addr.add_zero'];exact h,rfl,rfl⟩⟩
 | .str,a,_,_,⟨h,_⟩=>⟨rfl,fun j hj=>by
   obtain rfl:j=0:=by simp[Ty.size]at hj;omega
   exact ⟨_,_,by rw[Addr.add_zero'];exact h,rfl,rfl⟩⟩
 | .slice t,a,_,l,⟨A,c,h,he⟩=>⟨rfl,fun j hj=>by
   obtain rfl:j=0:=by simp[Ty.size]at hj;omega
   refine ⟨_,_,by rw[Addr.add_zero'];exact h,rfl,?_⟩;cases g with
   | none=>exact ⟨A,c,l,rfl,he⟩
   | some R=>exact ⟨A,c,l,rfl,he⟩⟩
 | .pair t u,a,x,_,⟨l1,l2,h1,h2,_⟩=>by
   have ⟨n1,c1⟩:=Ty.avM_rep g h1;have ⟨n2,c2⟩:=Ty.avM_rep g (a:=a.add t.size) h2;refine ⟨by simp[Ty.avM,n1,n2,Ty.size],fun j hj=>?_⟩;simp only[Ty.avM];by_cases hlt:j<t.size
   ·rw[getElem?_append_left oM];exact c1 j hlt
   ·rw[getElem?_append_right oM,n1];have ⟨v,c,e1,e2,e3⟩:=c2 (j - t.size) (by simp only[Ty.size]at hj;omega);rw[Di,show t.size+(j - t.size)=j by omega]at e1;exact ⟨v,c,e1,e2,e3⟩
theorem W6{im:NP}{t:TypeId}{one:Bool}{m k:Nat}{cs:LA}{c:AV}{ad:Addr}(ht:R1 P t=some (one,m))(hl:Dw one m k cs=some c)
  (hc:∀ j d,cs[k+j]? =some d->∃ v,w.cell? (ad.add j)=some v/\AV.Rep C im w d v):∃ v,(Instr.loadAt t (.pointer (some ad))).run P w=.ok v w/\AV.Rep C im w c v:=by
 unfold R1 at ht
 have agg:∀ i,P.info? t=some i->(isAgg t).run P w=.ok true w->Dw false i.size k cs=some c->∃ v,(Instr.loadAt t<|.pointer<|some ad).run P w=.ok v w/\AV.Rep C im w c v:=by
  intro i hi ha hl;simp only[Dw]at hl;simp at hl;obtain ⟨hle,rfl⟩:=hl
  have hex:∀ j,j<i.size->∃ v,w.cell? (ad.add j)=some v/\∀ d,cs[k+j]? =some d->AV.Rep C im w d v:=by
   intro j hj;have ⟨v,h1,h2⟩:=hc j (cs[k+j]'oM)<|gEg oM;exact ⟨v,h1,fun d hd=>by rw[gEg oM]at hd;cases hd;exact h2⟩
  have hg:∃ g:Nat->Value,∀ j,j<i.size->w.cell? (ad.add j)=some (g j)/\∀ d,cs[k+j]? =some d->AV.Rep C im w d (g j):=Deep.choose_lt hex;have ⟨g,hg⟩:=hg;refine ⟨.agg ((range i.size).map g).toArray,?_,⟨_,rfl,AV.RepL.of_get sO (fun j d v h1 h2=>?_)⟩⟩
  ·have:=run_loadCells (P:=P) (w:=w) ad i.size g fun j hj=>(hg j hj).1;simp only[Instr.loadAt,Instr.sureAddr,loadVar,Sem.run_bind,Sem.run_pure,Result.andThen_ok,ha,if_true,sizeOf,typeInfo,run_program,hi,this]
  ·rw[getElem?_take]at h1;split at h1
   next hj=>rw[getElem?_drop]at h1;rw[getElem?_map,getElem?_range hj]at h2;simp at h2;subst h2;exact (hg j hj).2 d h1
   ·cases h1
 split at ht
 next fs i hu hi=>simp at ht;obtain ⟨rfl,rfl⟩:=ht;exact agg i hi (by simp[isAgg,run_underlying hu]) hl
 next n e i hu hi=>simp at ht;obtain ⟨rfl,rfl⟩:=ht;exact agg i hi (by simp[isAgg,run_underlying hu]) hl
 ·rename_i d i h1 h2 hu hi;split at ht
  ·simp at ht;obtain ⟨rfl,rfl⟩:=ht;simp only[Dw,if_true]at hl;have ⟨v,hv,hr⟩:=hc 0 c (by simpa using hl);refine ⟨v,?_,hr⟩;rw[Addr.add_zero']at hv
   have ha:(isAgg t).run P w=.ok false w:=by
    unfold isAgg;rw[Sem.run_bind,run_underlying hu];cases d <;> first|rfl|(exact absurd rfl<|h1 _)|(exact absurd rfl<|h2 _ _)
   simp[Instr.loadAt,Instr.sureAddr,loadVar,ha,hv]
  ·cases ht
 ·cases ht
theorem Aq4{im:NP}{t:TypeId}{one:Bool}{m k:Nat}{cs:LA}{c:AV}{us:LV}(ht:R1 P t=some (one,m))(hl:Dw one m k cs=some c)(hr:AV.RepL C im w cs us):
  ∃ v,(part t us.toArray k).run P w=.ok v w/\AV.Rep C im w c v:=by
 unfold R1 at ht
 have agg:∀ i,P.info? t=some i->(isAgg t).run P w=.ok true w->Dw false i.size k cs=some c->∃ v,(part t us.toArray k).run P w=.ok v w/\AV.Rep C im w c v:=by
  intro i hi ha hl;simp only[Dw]at hl;simp at hl;obtain ⟨hle,rfl⟩:=hl;have hln:=hr.length;refine ⟨.agg ((us.drop k).take i.size).toArray,?_,⟨_,rfl,AV.RepL.of_get sO (fun j d v h1 h2=>?_)⟩⟩
  ·have e:us.toArray.extract k (k+i.size)=((us.drop k).take i.size).toArray:=by
    simp only[extract_toArray,extract_eq_take_drop,Nat.add_sub_cancel_left]
   simp only[part,Sem.run_bind,ha,Result.andThen_ok,if_true,sizeOf,typeInfo,run_program,hi,Sem.run_pure,e]
  ·rw[getElem?_take]at h1 h2;split at h1
   next hj=>rw[fW hj]at h2;rw[getElem?_drop]at h1 h2;have ⟨v',e1,e2⟩:=hr.get h1;rw[h2]at e1;cases e1;exact e2
   ·cases h1
 split at ht
 next fs i hu hi=>simp at ht;obtain ⟨rfl,rfl⟩:=ht;exact agg i hi (by simp[isAgg,run_underlying hu]) hl
 next n e i hu hi=>simp at ht;obtain ⟨rfl,rfl⟩:=ht;exact agg i hi (by simp[isAgg,run_underlying hu]) hl
 ·rename_i d i h1 h2 hu hi;split at ht
  ·simp at ht;obtain ⟨rfl,rfl⟩:=ht;simp only[Dw,if_true]at hl;have ⟨v,hv,hr⟩:=hr.get hl;refine ⟨v,?_,hr⟩
   have ha:(isAgg t).run P w=.ok false w:=by
    unfold isAgg;rw[Sem.run_bind,run_underlying hu];cases d <;> first|rfl|(exact absurd rfl<|h1 _)|(exact absurd rfl<|h2 _ _)
   simp[part,ha,hv]
  ·cases ht
 ·cases ht
theorem Ad8{o:Oper}{a:Act}{x:Operand}(h:o.op=.move x∨o.op=.assign x):(execOp a.eval o).run P w=.ok (.value (a.eval x)) w:=by
 rcases h with h|h <;> simp[execOp,h]
theorem Tc{s:TypeId}{k n:Nat}(h:Ane P s k=some n)(ad:Addr):(Instr.fieldAt s (.pointer (some ad)) k).run P w=.ok (.pointer (some (ad.add n))) w:=by
 unfold Ane at h;split at h
 ·rename_i fs hs;split at h
  ·rename_i g hg;split at h
   ·rename_i i hi;split at h
    ·cases h
    next hsz=>cases h;simp[Instr.fieldAt,run_underlying hs,hg,Instr.sureAddr,fieldPlace,sizeOf,typeInfo,hi,hsz]
   ·cases h
  ·cases h
 ·cases h
theorem Xu{t:TypeId}{sz:Nat}(h:Oe P t=some sz)(ad:Addr)(len cap:Nat)(k:IntKind)(n:Int)(hn:0<=n/\n<len):
  (Instr.indexAt t (.slice (some ad) len cap) (.int k n)).run P w=.ok (.pointer (some (ad.add (n.toNat*sz)))) w:=by
 unfold Oe at h;split at h
 next e he=>obtain ⟨i,hi,rfl⟩:=oms.1 h;simp[Instr.indexAt,run_underlying he,asIntOf,hn,sizeOf,typeInfo,hi]
 ·cases h
theorem Ael{t:TypeId}{len:Nat}(h:Wx P t=some len)(ad:Addr)(k:IntKind)(n:Int)(hn:0<=n/\n<len):
  (Instr.indexAt t (.pointer (some ad)) (.int k n)).run P w=.ok (.pointer (some (ad.add n.toNat))) w:=by
 unfold Wx at h;split at h
 ·rename_i len' e he;split at h
  next hi _=>cases h;have ⟨i,hi,hs⟩:=oms.1 hi;simp[Instr.indexAt,run_underlying he,asIntOf,hn,sizeOf,typeInfo,hi,hs,Instr.sureAddr]
  ·cases h
 ·cases h
theorem Aj0{t:TypeId}{len:Nat}(h:Wx P t=some len)(cs:Array Value)(k:IntKind)(n:Int)(hn:0<=n/\n<len){v:Value}(hv:cs[n.toNat]? =some v):
  (Instr.index t (.agg cs) (.int k n)).run P w=.ok v w:=by
 unfold Wx at h;split at h
 ·rename_i len' e he;split at h
  next hi hu=>cases h;have ⟨i,hi,hs⟩:=oms.1 hi;simp[Instr.index,run_underlying he,run_underlying hu,asIntOf,hn,sizeOf,typeInfo,hi,hs,part,isAgg,hv]
  ·cases h
 ·cases h
theorem Ara{op:BinOp}{t:TypeId}{x y:Operand}{u v:AV}{c:AV}{ux vy:Value}{im:NP}(h:Abh op u v=some c)(hu:AV.Rep C im w u ux)(hv:AV.Rep C im w v vy):
  ∃ r,((do eqGuard op t x y ux vy;binOp op t ux vy:Sem Value)).run P w=.ok r w/\AV.Rep C im w c r:=by
 unfold Abh at h;split at h
 ·rename_i k a k' b;have hu':ux=.int k a:=hu;have hv':vy=.int k' b:=hv;subst hu' hv';split at h
  ·rename_i hk;subst hk
   split at h <;> first
    | (cases h;refine ⟨_,?_,rfl⟩;simp[eqGuard_at_int,binOp,Op.intArith,Op.intCmp];done)
    | skip
   ·split at h
    ·cases h
    next hb=>cases h;exact ⟨_,by simp[eqGuard_at_int,binOp,Op.intDiv,hb],rfl⟩
   ·split at h
    ·cases h
    next hb=>cases h;exact ⟨_,by simp[eqGuard_at_int,binOp,Op.intDiv,hb],rfl⟩
   ·cases h
  ·cases h
 ·rename_i a b;have hu':ux=.string a:=hu;have hv':vy=.string b:=hv;subst hu' hv';split at h
  ·split at h
   ·rename_i hs;cases h;have hs':¬ (9223372036854775807:Int)<(a.size:Int)+(b.size:Int):=by omega
    exact ⟨_,by simp[eqGuard_at_string,binOp,Op.stringOp,hs'],rfl⟩
   ·cases h
  ·cases h;exact ⟨_,by simp[eqGuard_at_string,binOp,Op.stringOp],rfl⟩
  ·cases h;exact ⟨_,by simp[eqGuard_at_string,binOp,Op.stringOp],rfl⟩
  ·cases h
 ·cases h
theorem Aiv{t e:TypeId}(d:Nat)(ht:P.underlying t=some (.slice e))(A:Option Addr)(n c:Nat):(Op.equalIn (d+1) t (.slice A n c) (.slice none 0 0)).run P w=.ok A.isNone w:=by
 cases A <;> simp[Op.equalIn,run_underlying ht]
theorem Aky{t e:TypeId}(ht:P.underlying t=some (.slice e))(A:Option Addr)(n c:Nat):(Op.equal t (.slice A n c) (.slice none 0 0)).run P w=.ok A.isNone w:=Aiv 9999 ht A n c
theorem Agc{t:TypeId}(d:Nat)(ht:P.underlying t=some .bool)(a b:Bool):(Op.equalIn (d+1) t (.bool a) (.bool b)).run P w=.ok (a==b) w:=by
 simp[Op.equalIn,run_underlying ht]
theorem Yj{t:TypeId}(ht:P.underlying t=some .bool)(a b:Bool):(Op.equal t (.bool a) (.bool b)).run P w=.ok (a==b) w:=Agc 9999 ht a b
theorem Ni{im:NP}:∀{cs:LA} {vs:LV} {a:List Int},AV.RepL C im w cs vs->T2 cs=some a->vs=a.map (Value.int .i64)
 | [],_,_,hr,h=>by
  cases h;exact hr
 | c :: cs,_,a,⟨u,us,e,h1,h2⟩,h=>by
  subst e;unfold T2 at h;split at h
  next he=>cases he
  ·rename_i n r he;obtain ⟨rfl,rfl⟩:=List.cons.inj he;split at h
   next l hl=>cases h;rw[show u=.int .i64 n from h1,Ni h2 hl];rfl
   ·cases h
  ·cases h
theorem Zi(d:Nat):∀(fs:List Field) (k:Nat) (a b:List Int),Vv P k fs=true->a.length=k+fs.length->b.length=k+fs.length->(Op.eqFields (d+1) (a.map (Value.int .i64)).toArray (b.map (Value.int .i64)).toArray fs).run P w=.ok (a.drop k==b.drop k) w
 | [],k,a,b,_,h1,h2=>by
  rw[drop_of_length_le (by simp at h1;omega),drop_of_length_le (by simp at h2;omega)];simp[Op.eqFields]
 | f :: fs,k,a,b,h,h1,h2=>by
  simp only[Vv,fT]at h;have ⟨n1,n2,n3,n4⟩:=h;have n2:f.offset=k:=by simpa using n2
  have hn:f.name ≠ "_" := by simpa using n1
  have ht:P.underlying f.type=some (.int .i64):=by split at n3;assumption;cases n3
  rw[length_cons]at h1 h2;have ka:k<a.length:=by omega
  have kb:k<b.length:=by omega
  have p1:∀(l:List Int) (hk:k<l.length),(part f.type (l.map (Value.int .i64)).toArray f.offset).run P w=.ok (.int .i64 l[k]) w:=fun l hk=>by
   simp[part,isAgg,run_underlying ht,n2,hk]
  have ih:=Zi d fs (k+1) a b n4 oM oM;rw[drop_eq_getElem_cons ka,drop_eq_getElem_cons kb];simp only[Op.eqFields,fW hn,Sem.run_bind,p1 a ka,p1 b kb,Result.andThen_ok,run_equalIn_int w d f.type .i64 .i64 a[k] b[k] ht,Sem.run_ite,Sem.run_pure,ih];cases hab:a[k]==b[k]
  ·have:(a[k] :: a.drop (k+1)==b[k] :: b.drop (k+1))=false:=by rw[cons_beq_cons,hab,Bool.false_and]
   rw[this];simp
  ·have:(a[k] :: a.drop (k+1)==b[k] :: b.drop (k+1))=(a.drop (k+1)==b.drop (k+1)):=by rw[cons_beq_cons,hab,Bool.true_and]
   rw[this];simp
theorem Abe(d:Nat){e:TypeId}(he:P.underlying e=some (.int .i64))(a b:List Int):∀ is:List Nat,(∀ i∈is,i<a.length/\i<b.length)->(Op.eqItems (d+1) e 1 (a.map (Value.int .i64)).toArray (b.map (Value.int .i64)).toArray is).run P w=.ok (is.all fun i=>a[i]? ==b[i]?) w
 | [],_=>by simp[Op.eqItems]
 | i :: is,h=>by
  have ih:=Abe d he a b is (fun j hj=>h j (mem_cons_of_mem _ hj));have ⟨ha,hb⟩:=h i (mem_cons_self ..)
  have p1:∀(l:List Int) (hi:i<l.length),(part e (l.map (Value.int .i64)).toArray (i*1)).run P w=.ok (.int .i64 l[i]) w:=fun l hi=>by
   simp[part,isAgg,run_underlying he,hi]
  simp only[Op.eqItems,Sem.run_bind,p1 a ha,p1 b hb,Result.andThen_ok,run_equalIn_int w d e .i64 .i64 a[i] b[i] he];rw[all_cons,gEg ha,gEg hb];have hq:(some a[i]==some b[i])=(a[i]==b[i]):=rfl;rw[hq];cases hab:a[i]==b[i]
  ·simp
  ·simpa using ih
theorem Ajk{a b:List Int}{n:Nat}(h1:a.length=n)(h2:b.length=n):((range n).all fun i=>a[i]? ==b[i]?)=(a==b):=by
 rw[Bool.eq_iff_iff,all_eq_true,fF];constructor
 ·intro h;apply ext_getElem?;intro i;by_cases hi:i<n
  ·exact fF.1<|h i<|mem_range.2 hi
  ·rw[getElem?_eq_none oM,getElem?_eq_none oM]
 ·intro h i _;rw[h];simp
theorem Arw{op:BinOp}{t:TypeId}{neg:Bool}{k:Nat}{x y:Operand}{u v:AV}{c:AV}{ux vy:Value}{im:NP}(ho:Avo P op t=some (neg,k))(h0:Abf neg k u v=some c)(hu:AV.Rep C im w u ux)(hv:AV.Rep C im w v vy):
  ∃ r,((do eqGuard op t x y ux vy;binOp op t ux vy:Sem Value)).run P w=.ok r w/\AV.Rep C im w c r:=by
 have hb:∀{op':BinOp},P.underlying t=some .bool->Amw neg u v=some c->(op'=if neg then .neq else .eql)->∃ r,((do eqGuard op' t x y ux vy;binOp op' t ux vy:Sem Value)).run P w=.ok r w/\AV.Rep C im w c r:=by
  intro op' ht h hop;subst hop
  clear h0
  unfold Amw at h;split at h
  ·rename_i a a';have e1:ux=.bool a:=hu;have e2:vy=.bool a':=hv;subst e1 e2;cases h;cases neg
   ·exact ⟨.bool<|a==a',by simp[eqGuard,binOp,Yj ht],rfl⟩
   ·exact ⟨.bool<|a !=a',by simp[eqGuard,binOp,Yj ht,bne],rfl⟩
  ·cases h
 have hs:∀{op':BinOp} {e:TypeId},P.underlying t=some (.slice e)->Anr neg u v=some c->(op'=if neg then .neq else .eql)->∃ r,((do eqGuard op' t x y ux vy;binOp op' t ux vy:Sem Value)).run P w=.ok r w/\AV.Rep C im w c r:=by
  intro op' e ht h hop;subst hop
  have key:∀ A n cp,ux=.slice A n cp->vy=.slice none 0 0->((do eqGuard (if neg then .neq else .eql) t x y ux vy;binOp (if neg then .neq else .eql) t ux vy:Sem Value)).run P w=.ok (.bool<|if neg then !A.isNone else A.isNone) w:=by
   intro A n cp h1 h2;subst h1 h2;cases neg <;> simp[eqGuard,binOp,Aky ht]
  clear h0
  unfold Anr at h;split at h
  ·cases h;have:=key none 0 0 hu hv;refine ⟨_,this,?_⟩;cases neg <;> rfl
  ·cases h;have ⟨A,cp,l,e1,hsl⟩:=hu;refine ⟨_,key A _ cp e1 hv,_,rfl,fun hb=>?_⟩;have hn:A=none:=by cases neg <;> cases A <;> simp_all
   subst hn
   have h0:∀(u:Ty) (zs:List u.D),Sl im w u none cp zs l->zs.length=0:=by
    intro u zs hs;rcases Nat.eq_zero_or_pos zs.length with h0|h0
    ·exact h0
    ·have ⟨_,_,_,_,hf⟩:=hs;have ⟨ad,he,_⟩:=hf h0;cases he
   exact h0 _ _ hsl
  ·cases h;rcases hu with ⟨_,_,_,e1⟩|⟨b,cap,_,_,e1⟩|⟨_,_,_,h00,_,_,e1,_⟩
   ·exact ⟨_,key _ _ _ e1 hv,_,rfl,fun _=>by assumption⟩
   ·exact ⟨_,key _ _ _ e1 hv,_,rfl,fun hb=>by cases neg <;> simp at hb⟩
   ·subst h00;exact ⟨_,key _ _ _ e1 hv,_,rfl,fun _=>rfl⟩
  ·cases h
 have hst:∀{op':BinOp} {fs:Array Field},P.underlying t=some (.struct fs)->Vy P t=true->Abf neg (fs.size+3) u v=some c->(op'=if neg then .neq else .eql)->∃ r,((do eqGuard op' t x y ux vy;binOp op' t ux vy:Sem Value)).run P w=.ok r w/\AV.Rep C im w c r:=by
  intro op' fs hfs hI h hop;subst hop
  clear h0
  have hfo:P.fieldsOf t=fs:=by simp[Program.fieldsOf,hfs]
  unfold Vy at hI;rw[hfo]at hI;simp only[fT,Bool.not_eq_true']at hI;have ⟨i1,i2,i3⟩:=hI;simp only[Abf]at h;cases u <;> simp only at h <;> try (cases h;done)
  rename_i cs;split at h
  ·rename_i hlen;unfold Ah9 at h;split at h
   ·rename_i cs' ds hcs;obtain rfl:=AV.agg.inj hcs;split at h
    ·rename_i a b ha hb';split at h
     ·rename_i hab;cases h;have ⟨vs,e1,r1⟩:=hu;have ⟨us,e2,r2⟩:=hv;have hvs:=Ni r1 ha;have hus:=Ni r2 hb';subst hvs hus e1 e2;have l1:a.length=0+fs.toList.length:=by have:=r1.length;simp at this ⊢;omega
      have l2:b.length=0+fs.toList.length:=by omega
      have hrun:=Zi (P:=P) (w:=w) 9998 fs.toList 0 a b i1 l1 l2;have hst:=run_equalIn_struct (P:=P) w 9999 t (a.map<|Value.int .i64).toArray (b.map<|Value.int .i64).toArray (by rw[hfs,hfo]) i2;rw[hfo,hrun]at hst;simp only[drop_zero]at hst;cases neg
      ·refine ⟨.bool<|a==b,?_,rfl⟩;simp only[Sem.run_bind,run_eqGuard_agg w _ t x y _ _ i3,Result.andThen_ok,Bool.false_eq_true,if_false,run_eql_struct,hst]
      ·refine ⟨.bool<|!(a==b),?_,rfl⟩;simp only[Sem.run_bind,run_eqGuard_agg w _ t x y _ _ i3,Result.andThen_ok,if_true,run_neq_struct,hst]
     ·cases h
    ·cases h
   ·cases h
  ·cases h
 have har:∀{op':BinOp} {n:Nat} {e:TypeId},P.underlying t=some (.array n e)->Ajq P t e=true->Abf neg (n+3) u v=some c->(op'=if neg then .neq else .eql)->∃ r,((do eqGuard op' t x y ux vy;binOp op' t ux vy:Sem Value)).run P w=.ok r w/\AV.Rep C im w c r:=by
  intro op' n e hfs hI h hop;subst hop
  clear h0
  unfold Ajq at hI;simp only[fT,Bool.not_eq_true',fF]at hI;have ⟨i1,i2,i3,i4⟩:=hI;have he:P.underlying e=some (.int .i64):=by split at i1;assumption;cases i1
  have ⟨inf,hinf⟩:=Option.isSome_iff_exists.1 i2;simp only[Abf]at h;cases u <;> simp only at h <;> try (cases h;done)
  rename_i cs;split at h
  ·rename_i hlen;unfold Ah9 at h;split at h
   ·rename_i cs' ds hcs;obtain rfl:=AV.agg.inj hcs;split at h
    ·rename_i a b ha hb';split at h
     ·rename_i hab;cases h;have ⟨vs,e1,r1⟩:=hu;have ⟨us,e2,r2⟩:=hv;have hvs:=Ni r1 ha;have hus:=Ni r2 hb';subst hvs hus e1 e2;have l1:a.length=n:=by have:=r1.length;simp at this ⊢;omega
      have l2:b.length=n:=by omega
      have har:(Op.equalIn 10000 t (.agg (a.map<|Value.int .i64).toArray)<|.agg (b.map<|Value.int .i64).toArray).run P w=.ok (a==b) w:=by
       refine (run_equalIn_array (P:=P) w 9999 (a.map<|Value.int .i64).toArray (b.map<|Value.int .i64).toArray hfs hinf).trans ?_;rw[i3];refine (Abe 9998 he a b (range n) fun i hi=>by have:=mem_range.1 hi;omega).trans ?_;rw[Ajk l1 l2]
      cases neg
      ·refine ⟨.bool<|a==b,?_,rfl⟩;simp only[Sem.run_bind,run_eqGuard_agg w _ t x y _ _ i4,Result.andThen_ok,Bool.false_eq_true,if_false,run_eql_struct,har]
      ·refine ⟨.bool<|!(a==b),?_,rfl⟩;simp only[Sem.run_bind,run_eqGuard_agg w _ t x y _ _ i4,Result.andThen_ok,if_true,run_neq_struct,har]
     ·cases h
    ·cases h
   ·cases h
  ·cases h
 unfold Avo at ho;split at ho
 ·obtain ⟨rfl,rfl⟩:=Prod.mk.inj<|osj ho;exact hb aS h0 rfl
 ·obtain ⟨rfl,rfl⟩:=Prod.mk.inj<|osj ho;exact hb aS h0 rfl
 ·obtain ⟨rfl,rfl⟩:=Prod.mk.inj<|osj ho;exact hs aS h0 rfl
 ·obtain ⟨rfl,rfl⟩:=Prod.mk.inj<|osj ho;exact hs aS h0 rfl
 ·rename_i fs hfs;split at ho
  next hI=>obtain ⟨rfl,rfl⟩:=Prod.mk.inj<|osj ho;exact hst hfs hI h0 rfl
  ·cases ho
 ·rename_i fs hfs;split at ho
  next hI=>obtain ⟨rfl,rfl⟩:=Prod.mk.inj<|osj ho;exact hst hfs hI h0 rfl
  ·cases ho
 ·rename_i n e hfs;split at ho
  next hI=>obtain ⟨rfl,rfl⟩:=Prod.mk.inj<|osj ho;exact har hfs hI h0 rfl
  ·cases ho
 ·rename_i n e hfs;split at ho
  next hI=>obtain ⟨rfl,rfl⟩:=Prod.mk.inj<|osj ho;exact har hfs hI h0 rfl
  ·cases ho
 ·cases ho
theorem Yw{im:NP}{f:TF}{a:Act}:∀{xs:List Operand} {ys:List Opd},Opd.ofL xs=some ys->(∀ x∈xs,∀ y,Opd.of x=some y->AV.Rep C im w (y.ev f) (a.eval x))->AV.RepL C im w (ys.map (Opd.ev f)) (xs.map a.eval)
 | [],ys,h,_=>by
  obtain rfl:[]=ys:=osj h;rfl
 | x :: xs,ys,h,hf=>by
  simp only[Opd.ofL]at h;split at h
  next y zs h1 h2=>cases h;exact ⟨_,_,rfl,hf x fS y h1,Yw h2 (fun z hz=>hf z (by simp[hz]))⟩
  ·cases h
set_option maxHeartbeats 1000000 in
theorem Ale{P:Program}{op:BinOp}{t:TypeId}{y:Operand}{ng:Bool}(h:Ano P op t y=some ng):y=.const .nilIface/\∃ ms,P.underlying t=some (.interface ms)/\((op=.eql/\ng=false)∨(op=.neq/\ng=true)):=by
 unfold Ano at h;split at h
 next ms ht=>cases h;exact ⟨rfl,ms,ht,.inl ⟨rfl,rfl⟩⟩
 next ms ht=>cases h;exact ⟨rfl,ms,ht,.inr ⟨rfl,rfl⟩⟩
 ·cases h
theorem Au5 [IsP P]{o:Oper}{a:Act}{q:I}{f:TF}{i:Oid}{v:AV}{us:OL}(hc:I.of P o=some q)(he:evN f i q=some (v,us))(hm:Mem0 G w0 ob C K w)(hK:∀ n,K n->K' n)(hi:¬ K i.2)(hi':K' i.2)
  (hf:∀ x∈o.op.operands,∀ y,Opd.of x=some y->AV.Rep C (imm ob C) w (y.ev f) (a.eval x)):Oper.does P o a w (Goes G w0 (A3 us ob) K' C (imm ob C) w v):=by
 have same:∀{c:AV} {r:Value},(execOp a.eval o).run P w=.ok (.value r) w->some (c,([]:OL))=some (v,us)->AV.Rep C (imm ob C) w c r->Oper.does P o a w (Goes G w0 (A3 us ob) K' C (imm ob C) w v):=by
  intro c r hr hs hrep;obtain ⟨rfl,rfl⟩:=Prod.mk.inj<|osj hs;exact Oper.does_value hr<|Goes.same hm hK hrep
 unfold I.of at hc;split at hc
 ·
  rename_i x ho;obtain ⟨y,hy,rfl⟩:=oms.1 hc;exact same (Ad8<|.inl ho) he<|hf x fI y hy
 next x ho=>obtain ⟨y,hy,rfl⟩:=oms.1 hc;exact same (Ad8<|.inr ho) he<|hf x fI y hy
 ·
  rename_i c x y ho;split at hc
  ·rename_i c' x' y' h1 h2 h3;cases hc;have r1:=hf c fI c' h1;have r2:=hf x fI x' h2;have r3:=hf y fI y' h3;simp only[evN]at he;split at he
   ·rename_i b hb;rw[hb]at r1;have r1':a.eval c=.bool b:=r1;refine same (r:=if b then a.eval x else a.eval y) (by simp[execOp,ho,asBool,r1']) he ?_;cases b
    ·exact r3
    ·exact r2
   ·cases he
  ·cases hc
 ·
  rename_i e ho;split at hc
  ·cases hc
  ·skip
   split at hc
   ·rename_i inf hinf;split at hc
    ·rename_i z hz;split at hc
     ·rename_i hone;cases hc;obtain ⟨rfl,rfl⟩:=Prod.mk.inj<|osj he;refine Oper.does_value (v:=.pointer<|some ⟨w.heap.size,0,none⟩) (w':=w.alloc<|.cells z.cells.toList.toArray e) ?_<|Goes.box hm hK hi hi' (AV.of1_repL _) fun u hu=>?_
      ·simp[execOp,ho,Instr.alloc,zeroValue,typeInfo,hinf,hz,newVar,newRow]
      ·rw[all_eq_true]at hone;exact hone u (by simpa using hu)
     ·cases hc
    ·cases hc
   ·cases hc
 ·
  rename_i e x ho;obtain ⟨x',h1,rfl⟩:=oms.1 hc;have r1:=hf x fI x' h1;simp only[evN]at he;split at he
  ·rename_i cs hcs;rw[hcs]at r1;have ⟨vs,e1,hl⟩:=r1;split at he
   next hone=>obtain ⟨rfl,rfl⟩:=Prod.mk.inj<|osj he;refine Oper.does_value (v:=.pointer<|some ⟨w.heap.size,0,none⟩) (w':=w.alloc<|.cells vs.toArray e) ?_<|Goes.box hm hK hi hi' hl<|AV.one_repL hone hl;simp[execOp,ho,Instr.box,newVar,newRow,e1,Value.cells]
   ·cases he
  ·split at he
   ·rename_i hone;obtain ⟨rfl,rfl⟩:=Prod.mk.inj<|osj he;have h1c:=AV.one_rep hone r1;have hcells:(a.eval x).cells= #[a.eval x]:=by cases hq:a.eval x <;> first|rfl|(rw[hq]at h1c;cases h1c)
    refine Oper.does_value (v:=.pointer<|some ⟨w.heap.size,0,none⟩) (w':=w.alloc<|.cells [a.eval x].toArray e) ?_ (Goes.box hm hK hi hi' ⟨_,[],rfl,r1,rfl⟩ fun u hu=>by obtain rfl:=mem_singleton.1 hu;exact h1c);simp[execOp,ho,Instr.box,newVar,newRow,hcells]
   ·cases he
 ·
  rename_i s x k ho;split at hc
  ·rename_i n x' h1 h2;cases hc;have r1:=hf x fI x' h2;simp only[evN]at he;split at he
   next j m hx=>rw[hx]at r1;have ⟨b,cap,sz,e1,e2⟩:=r1;refine same (r:=.pointer<|some ⟨b,m+n,none⟩) ?_ he ⟨b,cap,sz,e1,rfl⟩;simp[execOp,ho,e2,Tc h1,Cn]
   next j m m2 hx=>rw[hx]at r1;have ⟨b,cap,sz,e1,e2⟩:=r1;refine same (r:=.pointer<|some ⟨b,m*sz+(m2+n),none⟩) ?_ he ⟨b,cap,sz,e1,rfl⟩;simp[execOp,ho,e2,Tc h1,Cn,Nat.add_assoc]
   next t y m hx=>rw[hx]at r1;have ⟨ad,l,e1,e2,e3⟩:=r1;refine same (r:=.pointer<|some<|ad.add<|m+n) ?_ he ⟨ad,l,rfl,e2,e3⟩;simp[execOp,ho,e1,Tc h1,Di]
   ·rename_i cs hx;rw[hx]at r1;have ⟨b,m,vs,e1,e2,e3,e4⟩:=r1;refine same (r:=.pointer<|some ⟨b,m+n,none⟩) ?_ he ⟨b,m+n,vs.drop n,rfl,e2,fun j u hu=>?_,e4.drop n⟩
    ·simp[execOp,ho,e1,Tc h1,Cn]
    ·rw[getElem?_drop]at hu;rw[Nat.add_assoc];exact e3 _ _ hu
   ·cases he
  ·cases hc
 ·
  rename_i t x n ho;split at hc
  ·rename_i len hlen;split at hc
   ·rename_i x' n' h2 h3;cases hc;have r1:=hf x fI x' h2;have r2:=hf n fI n' h3;simp only[evN]at he;split at he
    ·rename_i j k q m hx hn;rw[hx]at r1;rw[hn]at r2;have ⟨b,cap,sz,e1,e2⟩:=r1;have e3:a.eval n=.int q m:=r2;split at he
     next h0=>refine same (r:=.pointer<|some ⟨b,k+m.toNat,none⟩) ?_ he ⟨b,cap,sz,e1,rfl⟩;have:=Ael (P:=P) (w:=w) hlen ⟨b,k,none⟩ q m h0;simp[execOp,ho,e2,e3,this,Cn]
     ·cases he
    ·rename_i j e k q m hx hn;rw[hx]at r1;rw[hn]at r2;have ⟨b,cap,sz,e1,e2⟩:=r1;have e3:a.eval n=.int q m:=r2;split at he
     next h0=>refine same (r:=.pointer<|some ⟨b,e*sz+(k+m.toNat),none⟩) ?_ he ⟨b,cap,sz,e1,rfl⟩;have:=Ael (P:=P) (w:=w) hlen ⟨b,e*sz+k,none⟩ q m h0;simp[execOp,ho,e2,e3,this,Cn,Nat.add_assoc]
     ·cases he
    ·cases he
   ·cases hc
  ·skip
   split at hc
   ·rename_i sz x' n' h1 h2 h3;cases hc;have r0:=hf x fI x' h2;have r1:=Afk r0;have r2:=hf n fI n' h3;simp only[evN]at he;split at he
    ·rename_i ty xs k m hx hn;rw[hn]at r2;have ⟨A,c,l,e1,e2⟩:=Apq r0 hx;have e3:a.eval n=.int k m:=r2;split at he
     ·rename_i hsz;split at he
      next h0=>have ⟨y,hy,hh⟩:=oms.1 he;obtain ⟨hlt,rfl⟩:=gSi.1 hy;have ⟨_,_,g,_,hg⟩:=e2;obtain ⟨ad,rfl,hr,hmem⟩:=hg oM;refine same (c:=.telt (x'.ev f).tag ty xs[m.toNat] 0) (r:=.pointer<|some<|ad.add<|m.toNat*sz) ?_ (by rw[hh]) ⟨ad.add<|m.toNat*ty.size,_,by rw[Di,Nat.add_zero,hsz],hmem _ hlt,by rw[Ef];exact hr⟩;have:=Xu (P:=P) (w:=w) h1 ad xs.length c k m ⟨h0,by omega⟩;simp[execOp,ho,e1,e3,this]
      ·cases he
     ·cases he
    ·rename_i j ty off len k m hx hn;rw[hx]at r1;rw[hn]at r2;have e3:a.eval n=.int k m:=r2;split at he
     ·rename_i hsz;split at he
      ·rename_i h0;rcases r1 with ⟨_,_,rfl,_⟩|⟨b,cap,e1,e2,e4⟩|⟨_,_,_,rfl,_⟩
       ·omega
       rotate_left
       ·omega
       ·refine same (r:=.pointer<|some ⟨b,(off+m.toNat)*ty.size+0,none⟩) ?_ he ⟨b,cap,ty.size,e1,rfl⟩;have:=Xu (P:=P) (w:=w) h1 ⟨b,off*ty.size,none⟩ len (cap - off) k m h0;simp[execOp,ho,e4,e3,this,Cn,hsz,Nat.add_mul]
      ·cases he
     ·cases he
    ·cases he
   ·cases hc
 ·
  rename_i t x ho;split at hc
  ·rename_i one m x' h1 h2;cases hc;have r1:=hf x fI x' h2;simp only[evN]at he;split at he
   ·rename_i g ty y k hx;rw[hx]at r1;have ⟨ad,l,e1,e2,e3⟩:=r1;have ⟨c,hc',hh⟩:=oms.1 he
    have ⟨u,hu,hr⟩:=W6 (P:=P) (w:=w) (C:=C) (im:=imm ob C) (ad:=ad.add k) h1 hc' (fun j d hd=>by
     have hlt:k+j<ty.size:=by
      have:=(Ty.avM_rep (C:=C) g e2).1;have:=(gSi.1 hd).1;omega
     have ⟨u,c,q1,q2,q3⟩:=(Ty.avM_rep (C:=C) g e2).2 _ hlt;rw[hd]at q2;cases q2;exact ⟨u,by rw[Di];exact q1,q3⟩)
    exact same (r:=u) (by simp[execOp,ho,e1,hu]) (by rw[hh]) hr
   ·rename_i cs hx;rw[hx]at r1;have ⟨b,k,vs,e1,e2,e3,e4⟩:=r1;have ⟨c,hc',hh⟩:=oms.1 he
    have ⟨u,hu,hr⟩:=W6 (P:=P) (w:=w) (C:=C) (im:=imm ob C) (ad:=⟨b,k,none⟩) h1 hc' (fun j d hd=>by
     rw[fE]at hd;have ⟨u,q1,q2⟩:=e4.get hd;exact ⟨u,by rw[Cn];exact e3 _ _ q1,q2⟩)
    exact same (r:=u) (by simp[execOp,ho,e1,hu]) (by rw[hh]) hr
   ·cases he
  ·cases hc
 ·
  rename_i op t x y t' ho;split at hc
  ·rename_i ng hng;obtain ⟨x',h1,rfl⟩:=oms.1 hc;have r1:=hf x fI x' h1;simp only[evN]at he;split at he
   ·rename_i b _ hb;rw[hb]at r1;have ⟨hy,ms,ht,hop⟩:=Ale hng;have hm':P.underlying t=some (.interface<|P.methodsAt t):=by simp[Program.methodsAt,ht]
    subst hy;have e2:a.eval (.const .nilIface)=.nilIface:=rfl;rcases r1 with ⟨rfl,e1⟩|⟨rfl,tu,u,e1,_⟩
    ·refine same (r:=.bool<|if ng then false else !false) ?_ he rfl;rcases hop with ⟨rfl,rfl⟩|⟨rfl,rfl⟩
     ·simp[execOp,ho,e1,e2,eqGuard_nil_constR,run_eql_nil_nil w t hm']
     ·simp[execOp,ho,e1,e2,eqGuard_nil_constR,run_neq_nil_nil w t hm']
    ·refine same (r:=.bool<|if ng then true else !true) ?_ he rfl;rcases hop with ⟨rfl,rfl⟩|⟨rfl,rfl⟩
     ·simp[execOp,ho,e1,e2,eqGuard_at_iface,run_eql_held_nil w t tu u hm']
     ·simp[execOp,ho,e1,e2,eqGuard_at_iface,run_neq_held_nil w t tu u hm']
   ·cases he
  ·split at hc
   ·rename_i x' y' h1 h2;have r1:=hf x fI x' h1;have r2:=hf y fI y' h2;split at hc
    next neg k hcmp=>cases hc;have ⟨c,hc',hh⟩:=oms.1<|show (Abf neg k (x'.ev f).un<|y'.ev f).map (fun v=>(v,[]))=some (v,us) from he;have ⟨r,hr,hrep⟩:=Arw (P:=P) (t:=t) (x:=x) (y:=y) hcmp hc' (Afk r1) r2;refine same (r:=r) ?_ (by rw[hh]) hrep;rw[Sem.run_bind]at hr;simp only[execOp,ho,Sem.run_bind,hr,Result.andThen_ok,Sem.run_pure]
    cases hc;have ⟨c,hc',hh⟩:=oms.1<|show (Abh op (x'.ev f)<|y'.ev f).map (fun v=>(v,[]))=some (v,us) from he;have ⟨r,hr,hrep⟩:=Ara (P:=P) (t:=t) (x:=x) (y:=y) hc' r1 r2;refine same (r:=r) ?_ (by rw[hh]) hrep;rw[Sem.run_bind]at hr;simp only[execOp,ho,Sem.run_bind,hr,Result.andThen_ok,Sem.run_pure]
   ·cases hc
 ·
  rename_i t x ho;obtain ⟨x',h1,rfl⟩:=oms.1 hc;have r1:=hf x fI x' h1;simp only[evN]at he;split at he
  next b hb=>rw[hb]at r1;have e1:a.eval x=.bool b:=r1;exact same (r:=.bool<|!b) (by simp[execOp,ho,e1,Op.unary]) he rfl
  ·cases he
 ·
  rename_i t x ho;obtain ⟨x',h1,rfl⟩:=oms.1 hc;have r1:=hf x fI x' h1;simp only[evN]at he;split at he
  next k n hb=>rw[hb]at r1;have e1:a.eval x=.int k n:=r1;exact same (r:=.int k<|k.wrap<|0 - n) (by simp[execOp,ho,e1,Op.unary,Op.intArith]) he rfl
  ·cases he
 ·
  rename_i s d x ho;split at hc
  ·rename_i k0 k x' h1 h2 h3;cases hc;have r1:=hf x fI x' h3;simp only[evN]at he;split at he
   next k' n hb=>rw[hb]at r1;have e1:a.eval x=.int k' n:=r1;exact same (r:=.int k<|k.wrap n) (by simp[execOp,ho,e1,convert,run_underlying h1,run_underlying h2,Conv.intToInt]) he rfl
   ·cases he
  ·split at hc
   ·cases hc;simp only[evN]at he;cases he
   ·cases hc
  ·cases hc
 ·
  rename_i c ho;split at hc
  ·rename_i x t hca hcb hcc;have hargs:c.args= #[x]:=by rw[← Array.toArray_toList (xs:=c.args),hcb]
   have htys:c.argTypes= #[t]:=by rw[← Array.toArray_toList (xs:=c.argTypes),hcc]
   split at hc
   ·rename_i e x' hu h1;cases hc;have r1:=Afk<|hf x (by simp[ho,Op.operands,Call.operands,hca,hargs]) x' h1
    have sl:∀ A (n c:Nat),a.eval x=.slice A n c->(execOp a.eval o).run P w=.ok (.value<|.int .i64 n) w:=by
     intro A n c e;simp[execOp,ho,resolve,hca,hargs,htys,invoke,builtin,Builtin.len_,e,run_underlying hu,goInt]
    simp only[evN]at he;split at he
    next ty xs hx=>rw[hx]at r1;have ⟨A,c',l,e1,_⟩:=r1;exact same (sl _ _ _ e1) he rfl
    ·rename_i j ty off n hx;rw[hx]at r1;rcases r1 with ⟨_,_,rfl,e1⟩|⟨b,cap,_,_,e1⟩|⟨_,_,_,rfl,_,_,e1,_⟩
     ·exact same (sl _ _ _ e1) he rfl
     ·exact same (sl _ _ _ e1) he rfl
     ·exact same (sl _ _ _ e1) he rfl
    next hx=>rw[hx]at r1;exact same (sl _ _ _<|show a.eval x=.slice none 0 0 from r1) he rfl
    ·cases he
   ·rename_i x' hu h1;cases hc;have r1:=hf x (by simp[ho,Op.operands,Call.operands,hca,hargs]) x' h1;simp only[evN]at he;split at he
    next s hx=>rw[hx]at r1;have e1:a.eval x=.string s:=r1;refine same (r:=.int .i64 s.size) ?_ he rfl;simp[execOp,ho,resolve,hca,hargs,htys,invoke,builtin,Builtin.len_,e1,run_underlying hu,goInt]
    ·cases he
   ·rename_i x' hu h1;cases hc;have r1:=hf x (by simp[ho,Op.operands,Call.operands,hca,hargs]) x' h1;simp only[evN]at he;split at he
    ·rename_i mt' ty es hx;rw[hx]at r1;have ⟨b,e1,_,hr⟩:=r1;split at he
     next hmt=>subst hmt;have hP:=IsP.eq (P:=P);subst hP;have hrun:=hr.len o.type;refine same (r:=.int .i64 es.length) ?_ he rfl;simp[execOp,ho,resolve,hca,hargs,htys,invoke,builtin,e1,hrun,Result.andThen]
     ·cases he
    ·cases he
   ·cases hc
  ·cases hc
 ·
  rename_i x k ho;obtain ⟨x',h1,rfl⟩:=oms.1 hc;have r1:=hf x fI x' h1;simp only[evN]at he;split at he
  next vs hb=>rw[hb]at r1;have ⟨us',e1,hl⟩:=r1;have ⟨c,hc',hh⟩:=oms.1 he;have ⟨r,hr,hrep⟩:=hl.get hc';exact same (r:=r) (by simp[execOp,ho,e1,Instr.extract,hr]) (by rw[hh]) hrep
  ·cases he
 ·
  rename_i t x n ok ho;split at hc
  ·rename_i x' n' hu h1 h2;cases hc;have r1:=hf x fI x' h1;have r2:=hf n fI n' h2;simp only[evN]at he;split at he
   ·rename_i mt' ty es k hx hn;rw[hx]at r1;have hk:=(Ol r2 hn).1;have e2:=(Ol r2 hn).2;have ⟨b,e1,_,hr⟩:=r1;split at he
    next hmt=>subst hmt;have hP:=IsP.eq (P:=P);subst hP;have hrun:=hr.look hk ok;refine same (c:=Zu ok ty es k) (r:=if ok then .tuple #[Tz ty<|(D8 es k).getD ty.dflt,.bool (D8 es k).isSome] else Tz ty ((D8 es k).getD ty.dflt)) ?_ he<|Afo _ _ _ _;simp[execOp,ho,e1,e2,hrun,Result.andThen]
    ·cases he
   ·cases he
  ·cases hc
 ·
  rename_i t x n ho;split at hc
  ·rename_i len hlen;split at hc
   ·rename_i x' n' h2 h3;cases hc;have r1:=hf x fI x' h2;have r2:=hf n fI n' h3;simp only[evN]at he;split at he
    ·rename_i cs k m hx hn;rw[hx]at r1;rw[hn]at r2;have ⟨vs,e1,hl⟩:=r1;have e2:a.eval n=.int k m:=r2;split at he
     next h0=>have ⟨c,hcc,hh⟩:=oms.1 he;have ⟨v',hv',hr⟩:=hl.get hcc;have:=Aj0 (P:=P) (w:=w) hlen vs.toArray k m h0 (v:=v') (by simpa using hv');refine same (c:=c) (r:=v') (by simp[execOp,ho,e1,e2,this]) (by rw[hh]) hr
     ·cases he
    ·cases he
   ·cases hc
  ·skip
   split at hc
   ·rename_i x' n' h1 h2 h3;cases hc;have r1:=hf x fI x' h2;have r2:=hf n fI n' h3;simp only[evN]at he;split at he
    ·rename_i s k m hx hn;rw[hx]at r1;rw[hn]at r2;have e1:a.eval x=.string s:=r1;have e2:a.eval n=.int k m:=r2;split at he
     next h0=>have ⟨b,hb,hh⟩:=oms.1 he;exact same (r:=.int .u8 b.toNat) (by simp[execOp,ho,e1,e2,Instr.index,asIntOf,run_underlying h1,h0,hb]) (c:=.int .u8 b.toNat) (by rw[hh]) rfl
     ·cases he
    ·cases he
   ·cases hc
 ·
  rename_i g first caps ho
  split at hc
  next hg=>
   have e0:∀ xs:Array Operand,xs.toList.isEmpty=true->xs= #[]:=fun xs h=>by
    have:xs.toList=[]:=by simpa using h
    rw[← Array.toArray_toList (xs:=xs),this]
   split at hc
   next h0=>obtain ⟨ys,h1,rfl⟩:=oms.1 hc;have hfst:=e0 _ h0;have hl:=Yw (C:=C) (w:=w) (im:=imm ob C) (f:=f) (a:=a) h1 (fun x hx=>hf x (by simp[ho,Op.operands];exact .inr (by simpa using hx)));refine same (r:=.func (.func g) #[] (caps.map a.eval)) (by simp[execOp,ho,hfst,Instr.makeFunc]) he ⟨_,?_,hl⟩;unfold fnV;rw[fW hg,← Array.toArray_toList (xs:=caps.map a.eval),Array.toList_map]
   ·split at hc
    next h0=>obtain ⟨ys,h1,rfl⟩:=oms.1 hc;have hcap:=e0 _ h0;have hl:=Yw (C:=C) (w:=w) (im:=imm ob C) (f:=f) (a:=a) h1 (fun x hx=>hf x (by simp[ho,Op.operands];exact .inl (by simpa using hx)));refine same (r:=.func (.func g) (first.map a.eval) #[]) (by simp[execOp,ho,hcap,Instr.makeFunc]) he ⟨_,?_,hl⟩;unfold fnV;rw[fB<|Nat.not_lt.2<|Nat.le_add_left _ _,Nat.add_sub_cancel,← Array.toArray_toList (xs:=first.map a.eval),Array.toList_map]
    ·cases hc
  ·cases hc
 ·
  rename_i s x k ho;split at hc
  ·rename_i q x' h1 h2;cases hc;have r1:=hf x fI x' h2;simp only[evN]at he;split at he
   ·rename_i cs hx;rw[hx]at r1;have ⟨vs,e1,hl⟩:=r1;have ⟨c,hcc,hh⟩:=oms.1 he;unfold Ayq at h1;split at h1
    ·rename_i fs hs;split at h1
     next g hg=>obtain ⟨q',hq,rfl⟩:=oms.1 h1;have ⟨v',hv',hr⟩:=Aq4 (P:=P) hq hcc hl;refine same (c:=c) (r:=v') ?_ (by rw[hh]) hr;simp[execOp,ho,e1,Instr.field,run_underlying hs,hg,asAgg,hv']
     ·cases h1
    ·cases h1
   ·cases he
  ·cases hc
 ·
  rename_i T x ho;split at hc
  ·rename_i fs hu;obtain ⟨y,hy,rfl⟩:=oms.1 hc;have r1:=hf x fI y hy;simp only[evN]at he;split at he
   ·rename_i cs hcs;rw[hcs]at r1;have ⟨vs,e1,hl⟩:=r1;refine same (r:=.iface T<|a.eval x) ?_ he<|.inr ⟨rfl,T,_,rfl,fun T' xs e=>?_⟩
    ·simp[execOp,ho,Instr.makeInterface,run_underlying hu]
    ·obtain ⟨rfl,rfl⟩:=Prod.mk.inj<|osj e;refine ⟨rfl,fun n hn=>⟨vs,?_,e1⟩,fun l hl'=>?_⟩
     ·split at hn
      ·cases hn
      ·cases hn;exact hl.length
     ·split at hl'
      next hi=>cases hl';rw[e1,Ni hl hi]
      ·cases hl'
   ·cases he
  ·cases hc
 ·cases hc
end
end
section
def ofI:LA->Option Int
 | [.int .i64 n]=>some n
 | _=>none
def ofB:LA->Option Bool
 | [.bool b]=>some b
 | _=>none
def ofS:LA->Option ByteArray
 | [.str s]=>some s
 | _=>none
def Ty.ofAV:(t:Ty)->LA->Option t.D
 | .int,cs=>ofI cs
 | .bool,cs=>ofB cs
 | .str,cs=>ofS cs
 | .slice _,_=>none
 | .pair a b,cs=>match a.ofAV (cs.take a.size),b.ofAV (cs.drop a.size) with
  | some x,some y=>some (x,y)
  | _,_=>none
def K4(one:Bool)(m k:Nat)(cs:LA)(v:AV):Option LA:=
 if one then (if k<cs.length/\v.one=true then some (cs.set k v) else none) else
  match v with
  | .agg ds=>if ds.length=m/\k+m<=cs.length/\ds.all AV.one=true then some (cs.take k++(ds++cs.drop (k+m))) else none
  | _=>none
def Agj(f:TF)(ob:OF)(one:Bool)(m:Nat)(x y:Opd):Option (AV×List (Oid×Option Ob)):=
 match x.ev f with
 | .box j k=>match ob j with
  | some (.cells ty cs)=>(K4 one m k cs (y.ev f)).map fun ds=>(.any,[(j,none),(j,some (.cells ty ds))])
  | _=>none
 | .elt j e k=>match ob j with
  | some (.arr et t xs)=>match xs[e]? with
   | some d=>match K4 one m k (t.av d) (y.ev f) with
    | some ds=>match t.ofAV ds with
     | some d'=>some (.any,[(j,none),(j,some (.arr et t (xs.set e d')))])
     | none=>none
    | none=>none
   | none=>none
  | some (.vec et sz n cs)=>(K4 one m (e*sz+k) cs (y.ev f)).map fun ds=>(.any,[(j,none),(j,some (.vec et sz n ds))])
  | _=>none
 | _=>none
section
variable{P:Program}{G:WP}{w0 w w':World}{ob:OF}{C:OC}{K K':NP}{im:NP}
theorem Ty.enc_rep:∀{t:Ty} (x:t.D),t.flat=true->AV.RepL C im w (t.av x) (t.enc x)
 | .int,_,_=>⟨_,_,rfl,rfl,rfl⟩
 | .bool,_,_=>⟨_,_,rfl,rfl,rfl⟩
 | .str,_,_=>⟨_,_,rfl,rfl,rfl⟩
 | .slice _,_,h=>by cases h
 | .pair a b,x,h=>by
  simp only[Ty.flat,fT]at h;exact AV.RepL.append (Ty.enc_rep x.1 h.1) (Ty.enc_rep x.2 h.2)
theorem Ty.ofAV_enc:∀{t:Ty} {cs:LA} {vs:LV} {x:t.D},t.flat=true->AV.RepL C im w cs vs->t.ofAV cs=some x->vs=t.enc x
 | .int,cs,vs,x,_,h,he=>by
  have he':ofI cs=some x:=he;unfold ofI at he';split at he'
  ·obtain ⟨_,_,rfl,h1,h2⟩:=h;cases he';rw[h1,h2];rfl
  ·cases he'
 | .bool,cs,vs,x,_,h,he=>by
  have he':ofB cs=some x:=he;unfold ofB at he';split at he'
  ·obtain ⟨_,_,rfl,h1,h2⟩:=h;cases he';rw[h1,h2];rfl
  ·cases he'
 | .str,cs,vs,x,_,h,he=>by
  have he':ofS cs=some x:=he;unfold ofS at he';split at he'
  ·obtain ⟨_,_,rfl,h1,h2⟩:=h;cases he';rw[h1,h2];rfl
  ·cases he'
 | .slice _,_,_,_,h,_,_=>by cases h
 | .pair a b,cs,vs,x,hf,h,he=>by
  simp only[Ty.flat,fT]at hf;simp only[Ty.ofAV]at he;split at he
  next y z h1 h2=>cases he;have e1:=Ty.ofAV_enc hf.1 (h.take a.size) h1;have e2:=Ty.ofAV_enc hf.2 (h.drop a.size) h2;rw[← take_append_drop a.size vs,e1,e2];rfl
  ·cases he
theorem Vm{e:TypeId}{t:Ty}{xs:List t.D}{b cap n base:Nat}(hfl:t.flat=true)(h:ownsV w base e t.size (.slice (some ⟨b,0,none⟩) n cap) n (t.cells xs)){i k:Nat}{x:t.D}(hx:xs[i]? =some x){u:Value}(hu:(t.enc x)[k]? =some u):
  w.cell? ⟨b,i*t.size+k,none⟩=some u:=by
 obtain ⟨hlt,rfl⟩:=gSi.1 hx;have hk:k<t.size:=by have:=(gSi.1 hu).1;rwa [Ty.enc_length _ hfl]at this
 have hc:=h.cells (g:=b) rfl (i*t.size+k) u (by rw[Ty.cells_get hfl xs i hlt k hk];exact hu)
 rwa [Cn,fE]at hc
theorem Ag8{C:OC}{im:NP}{w:World}:∀{cs:LA} {l:List Int} {vs:LV},Acq cs=some l->AV.RepL C im w cs vs->vs=l.map (Value.int .u8)
 | [],l,vs,h,hr=>by
  cases h;exact hr
 | c :: cs,l,vs,h,hr=>by
  obtain ⟨v,vs',rfl,h1,h2⟩:=hr;unfold Acq at h;split at h
  next heq=>cases heq
  ·rename_i n r heq;obtain ⟨rfl,rfl⟩:=List.cons.inj heq;split at h
   next l' hl=>cases h;rw[map_cons,← Ag8 hl h2];exact congrArg (· :: vs') h1
   ·cases h
  ·cases h
theorem Ar6 [IsP P]{o:Oper}{a:Act}{q:I}{f:TF}{v:AV}{obL:OF}(hc:I.of P o=some q)(he:evR f obL q=some v)(hm:Mem0 G w0 ob C K w)(hK:∀ n,K n->K' n)
  (hob:∀ i o l,obL i=some o->C i=some l->o.Rep w0.heap.size C (imm ob C) w l)
  (hf:∀ x∈o.op.operands,∀ y,Opd.of x=some y->AV.Rep C (imm ob C) w (y.ev f) (a.eval x)):Oper.does P o a w (Goes G w0 ob K' C (imm ob C) w v):=by
 unfold I.of at hc
 split at hc <;> try (first
  | (obtain ⟨_,_,rfl⟩:=oms.1 hc;simp only[evR]at he;cases he;done)
  | ((repeat' split at hc) <;> first|(cases hc;done)|(cases hc;simp only[evR]at he;cases he;done)|(obtain ⟨_,_,rfl⟩:=oms.1 hc;simp only[evR]at he;cases he;done)))
 ·skip
  rename_i t x ho;split at hc
  ·rename_i one m x' h1 h2;cases hc;have r1:=hf x fI x' h2;simp only[evR]at he;split at he
   ·rename_i j k hx;rw[hx]at r1;have ⟨b,cap,sz,e1,e2⟩:=r1;split at he
    ·rename_i ty cs hj;have ⟨vs,g1,g2,_⟩:=hob j _ _ hj e1
     have ⟨u,hu,hr⟩:=W6 (P:=P) (w:=w) (C:=C) (im:=imm ob C) (ad:=⟨b,k,none⟩) h1 he (fun j d hd=>by
      have ⟨u,hu,hr⟩:=g2.get hd;refine ⟨u,?_,hr⟩;rw[Cn];simp only[World.cell?,g1]
      simpa using hu)
     exact Oper.does_value (by simp[execOp,ho,e2,hu])<|Goes.same hm hK hr
    ·cases he
   ·rename_i j e k hx;rw[hx]at r1;have ⟨b,cap,sz,e1,e2⟩:=r1;split at he
    ·rename_i et t' xs hj;split at he
     ·rename_i y hy;have ⟨hfl,hown,hsz⟩:=hob j _ _ hj e1;obtain rfl:=hsz b cap sz rfl
      have ⟨u,hu,hr⟩:=W6 (P:=P) (w:=w) (C:=C) (im:=imm ob C) (ad:=⟨b,e*t'.size+k,none⟩) h1 he (fun j d hd=>by
       have ⟨u,hu,hr⟩:=(Ty.enc_rep (C:=C) (im:=imm ob C) (w:=w) y hfl).get hd;refine ⟨u,?_,hr⟩;rw[Cn,Nat.add_assoc];exact Vm hfl hown hy hu)
      exact Oper.does_value (by simp[execOp,ho,e2,hu])<|Goes.same hm hK hr
     ·cases he
    ·rename_i et sz' n cs hj;have ⟨vs,hown,g2,_,hsz⟩:=hob j _ _ hj e1;obtain rfl:=hsz b cap sz rfl
     have ⟨u,hu,hr⟩:=W6 (P:=P) (w:=w) (C:=C) (im:=imm ob C) (ad:=⟨b,e*sz+k,none⟩) h1 he (fun j d hd=>by
      have ⟨u,hu,hr⟩:=g2.get hd;refine ⟨u,?_,hr⟩;have:=hown.cells (g:=b) rfl _ _ hu;rw[Cn,fE]at this;rw[Cn];exact this)
     exact Oper.does_value (by simp[execOp,ho,e2,hu])<|Goes.same hm hK hr
    ·cases he
   ·cases he
  ·cases hc
 ·
  rename_i s d x ho;split at hc
  ·cases hc;simp only[evR]at he;cases he
  ·rename_i e x' hs hd h1;split at hc
   ·rename_i he8;cases hc;have r1:=hf x fI x' h1;simp only[evR]at he;split at he
    ·rename_i j t off len hx;rw[hx]at r1;split at he
     ·rename_i e0 sz n cs hj;split at he
      ·rename_i hcc;obtain ⟨rfl,ht1,rfl,rfl,hn⟩:=hcc;obtain ⟨l,hl,rfl⟩:=oms.1 he;rcases r1 with ⟨_,_,h0,_⟩|⟨b,cap,e1,hcap,e2⟩|⟨_,_,h0,_⟩
       ·omega
       ·have ⟨vs,hown,g2,_,_⟩:=hob j _ _ hj e1;have hv:=Ag8 hl g2
        have hlen:l.length=len:=by
         have:=hown.1;rw[hv,length_map]at this;omega
        rw[Nat.zero_mul,Nat.sub_zero]at e2
        have hcv:=run_convert_bytes_arg (P:=P) w s e hs he8 b 0 len cap l hlen (fun i hi=>by
         have:=hown.cells (g:=b) rfl i (.int .u8<|l.getD i 0) (by rw[hv,getElem?_map,gEg oM];simp[List.getD,gEg (show i<l.length by omega)])
         rwa [Cn]at this) d hd
        exact Oper.does_value (by simp[execOp,ho,e2,hcv,Result.andThen])<|Goes.same hm hK rfl
       ·exact absurd rfl h0
      ·cases he
     ·cases he
    ·cases he
   ·cases hc
  ·cases hc
 ·
  rename_i c ho;split at hc
  ·rename_i x t hca hcb hcc;have hargs:c.args= #[x]:=by rw[← Array.toArray_toList (xs:=c.args),hcb]
   have htys:c.argTypes= #[t]:=by rw[← Array.toArray_toList (xs:=c.argTypes),hcc]
   split at hc
   ·cases hc;simp only[evR]at he;cases he
   ·cases hc;simp only[evR]at he;cases he
   ·rename_i x' hu h1;cases hc;have r1:=hf x (by simp[ho,Op.operands,Call.operands,hca,hargs]) x' h1;simp only[evR]at he;split at he
    ·rename_i j hx;rw[hx]at r1;have ⟨b,cap,sz,e1,e2⟩:=r1;split at he
     ·rename_i mt' ty es hj;split at he
      next hmt=>subst hmt;cases he;have hr:=hob j _ _ hj e1;have hP:=IsP.eq (P:=P);subst hP;have hrun:=MapRep.len hr o.type;exact Oper.does_value (v:=.int .i64 es.length) (by simp[execOp,ho,resolve,hca,hargs,htys,invoke,builtin,e2,hrun,Result.andThen])<|Goes.same hm hK rfl
      ·cases he
     ·cases he
    ·cases he
   ·cases hc
  ·cases hc
 ·
  rename_i t x n ok ho;split at hc
  ·rename_i x' n' hu h1 h2;cases hc;have r1:=hf x fI x' h1;have r2:=hf n fI n' h2;simp only[evR]at he;split at he
   ·rename_i j k hx hn;rw[hx]at r1;have hk:=(Ol r2 hn).1;have e3:=(Ol r2 hn).2;have ⟨b,cap,sz,e1,e2⟩:=r1;split at he
    ·rename_i mt' ty es hj;split at he
     next hmt=>subst hmt;cases he;have hr:=hob j _ _ hj e1;have hP:=IsP.eq (P:=P);subst hP;have hrun:=MapRep.look hr hk ok;exact Oper.does_value (v:=if ok then .tuple #[Tz ty<|(D8 es k).getD ty.dflt,.bool (D8 es k).isSome] else Tz ty ((D8 es k).getD ty.dflt)) (by simp[execOp,ho,e2,e3,hrun,Result.andThen])<|Goes.same hm hK<|Afo _ _ _ _
     ·cases he
    ·cases he
   ·cases he
  ·cases hc
end
end
section
theorem Avk{ι α:Type}[DecidableEq ι](f:ι->α)(i:ι)(a:α)(h:f i=a):upd f i a=f:=by
 funext j;unfold upd;split <;> simp_all
section
variable{P:Program}{G:WP}{w0 w w':World}{ob:OF}{C:OC}{K K':NP}{im:NP}
theorem Only.setRow(w:World)(g:Nat)(cs:Array Value):Only g w (w.setRow g cs):=⟨rfl,rfl,rfl,by simp,fun k _ hk=>setRow_other w g k cs hk⟩
theorem Am8{t:TypeId}{one:Bool}{m:Nat}(ht:R1 P t=some (one,m)){g k:Nat}{cur:LV}{e:TypeId}(hg:w.heap[g]? =some (.cells cur.toArray e (0,0))){v:Value}{vs:LV}
  (hv:v.cells=vs.toArray) (hm:vs.length=m) (hk:k+m<=cur.length) (h1:∀ u∈vs,u.oneCell'=true):
  (Instr.storeAt t (.pointer (some ⟨g,k,none⟩)) v).run P w=.ok () (w.setRow g (cur.take k++(vs++cur.drop (k+m))).toArray):=by
 have hi:∃ i,P.info? t=some i/\i.size=m:=by
  unfold R1 at ht;split at ht
  ·simp at ht;exact ⟨_,by assumption,ht.2⟩
  ·simp at ht;exact ⟨_,by assumption,ht.2⟩
  ·split at ht
   ·simp at ht;exact ⟨_,by assumption,by omega⟩
   ·cases ht
  ·cases ht
 have ⟨i,hi,hsz⟩:=hi;have hs:=run_storeCells_at P g k e vs 0 cur.toArray w hg sO h1;simp only[Nat.add_zero,append_assoc]at hs;simp[Instr.storeAt,Instr.sureAddr,storeVar,hv,sizeOf,typeInfo,hi,hsz,hm,hs]
theorem Qq{one:Bool}{m k:Nat}{cs ds:LA}{v:AV}{u:Value}{vs:LV}(h:K4 one m k cs v=some ds)(hm:one=true->m=1)(hv:AV.Rep C im w v u)(hr:AV.RepL C im w cs vs):
  ∃ us:LV,u.cells=us.toArray/\us.length=m/\k+m<=vs.length/\(∀ x∈us,x.oneCell'=true)/\AV.RepL C im w ds (vs.take k++(us++vs.drop (k+m))):=by
 unfold K4 at h;split at h
 ·rename_i ho;split at h
  ·rename_i hc;cases h;have ⟨hk,h1⟩:=hc;have hu:=AV.one_rep h1 hv;have hm1:=hm ho;subst hm1;have hl:=hr.length;refine ⟨[u],?_,rfl,by omega,by simpa using hu,?_⟩
   ·cases u <;> first|rfl|cases hu
   ·have:=hr.set (k:=k) hv;rw[set_eq_take_append_cons_drop]at this;rw[set_eq_take_append_cons_drop]at this;rw[fW oM,fW oM]at this;rw[set_eq_take_append_cons_drop,fW oM];exact this
  ·cases h
 ·split at h
  ·rename_i ds';split at h
   next hc=>cases h;have ⟨h1,h2,h3⟩:=hc;have ⟨us,e,hl⟩:=hv;subst e;refine ⟨us,rfl,by rw[hl.length];exact h1,by rw[hr.length];exact h2,AV.one_repL h3 hl,(hr.take k).append<|hl.append<|hr.drop _⟩
   ·cases h
  ·cases h
theorem Ty.cells_set{t:Ty}(hfl:t.flat=true):∀(xs:List t.D) (i:Nat) (y:t.D) (hi:i<xs.length),t.cells (xs.set i y)=(t.cells xs).take (i*t.size)++(t.enc y++(t.cells xs).drop ((i+1)*t.size))
 | [],i,_,h=>absurd h fS
 | x :: r,0,y,_=>by
  have h1:(t.cells (x :: r)).drop ((0+1)*t.size)=t.cells r:=by
   simp only[Ty.cells,flatMap_cons,fE,Nat.one_mul];rw[drop_left' (Ty.enc_length x hfl)]
  rw[h1];simp[Ty.cells]
 | x :: r,i+1,y,h=>by
  have ih:=Ty.cells_set hfl r i y (by simpa using h);have hx:=Ty.enc_length x hfl;have e1:t.cells (x :: r)=t.enc x++t.cells r:=by simp[Ty.cells]
  have e2:t.cells ((x :: r).set (i+1) y)=t.enc x++t.cells (r.set i y):=by simp[Ty.cells]
  have a1:(t.enc x++t.cells r).take ((i+1)*t.size)=t.enc x++(t.cells r).take (i*t.size):=by
   rw[Nat.succ_mul,take_append,hx,take_of_length_le oM,Nat.add_sub_cancel]
  have a2:(t.enc x++t.cells r).drop ((i+1+1)*t.size)=(t.cells r).drop ((i+1)*t.size):=by
   rw[Nat.succ_mul<|i+1,drop_append,hx,drop_of_length_le oM,nil_append,Nat.add_sub_cancel]
  rw[e1,e2,ih,a1,a2,append_assoc]
theorem Aw6{α:Type}(L us:List α)(A s k m N:Nat)(hm:us.length=m)(hk:k+m<=s)(hN:A+s<=N)(hL:N<=L.length):
  (L.take (A+k)++(us++L.drop (A+k+m))).take N=(L.take N).take A++(((((L.take N).drop A).take s).take k++(us++(((L.take N).drop A).take s).drop (k+m)))++(L.take N).drop (A+s)):=by
 apply ext_getElem?;intro j;simp only[getElem?_append,getElem?_take,getElem?_drop,length_append,length_take,length_drop,hm]
 repeat' split
 all_goals first|rfl|(exfalso;omega)|(congr 1;omega)|(rw[getElem?_eq_none oM])
theorem Apd{e:TypeId}{t:Ty}{xs:List t.D}{b cap base i k m:Nat}{x y:t.D}{us:LV}(hfl:t.flat=true)(hx:xs[i]? =some x)
  (h:ownsV w base e t.size (.slice (some ⟨b,0,none⟩) xs.length cap) xs.length (t.cells xs)) (hm:us.length=m) (hk:k+m<=t.size) (hy:t.enc y=(t.enc x).take k++(us++(t.enc x).drop (k+m))):
  ∃ cur:LV,w.heap[b]? =some (.cells cur.toArray e (0,0))/\i*t.size+k+m<=cur.length /\
   ownsV (w.setRow b (cur.take (i*t.size+k)++(us++cur.drop (i*t.size+k+m))).toArray) base e t.size (.slice (some ⟨b,0,none⟩) xs.length cap) xs.length (t.cells (xs.set i y)):=by
 obtain ⟨hlt,rfl⟩:=gSi.1 hx;rcases h.2 with ⟨h0,_⟩|⟨g,cap',cur,e1,hb,hg,hnc,hcm,hcs,ht⟩
 ·cases h0
 ·cases e1
  have hin:i*t.size+t.size<=xs.length*t.size:=by
   rw[← Nat.succ_mul];exact Nat.mul_le_mul_right _ hlt
  have hcap:xs.length*t.size<=cap*t.size:=Nat.mul_le_mul_right _ hnc;have hcl:cap*t.size<=cur.toList.length:=by simpa using hcs
  have hcl':cur.toList.length=cur.size:=Array.length_toList ..;refine ⟨cur.toList,by simpa using hg,by omega,?_,.inr ⟨b,cap,_,rfl,hb,setRow_heap w b cur _ e _ hg,hnc,hcm,?_,?_⟩⟩
  ·rw[Ty.cells_length hfl,length_set]
  ·simp only[size_toArray,length_append,length_take,length_drop,hm];omega
  ·have hcells:=Ty.cells_set hfl xs i y hlt;rw[hcells,hy,← ht]
   have hxe:t.enc xs[i]=((cur.toList.take<|xs.length*t.size).drop<|i*t.size).take t.size:=by
    apply ext_getElem?;intro j;rw[getElem?_take];split
    next hj=>rw[getElem?_drop,ht,Ty.cells_get hfl xs i hlt j hj]
    ·rw[getElem?_eq_none (by rw[Ty.enc_length _ hfl];omega)]
   rw[hxe];have:=Aw6 cur.toList us (i*t.size) t.size k m (xs.length*t.size) hm hk hin oM;rw[Nat.succ_mul i];exact this
theorem Amj{e:TypeId}{vs us:LV}{b cap base n p m sz:Nat}(h:ownsV w base e sz (.slice (some ⟨b,0,none⟩) n cap) n vs)(hm:us.length=m)(hp:p+m<=vs.length):
  ∃ cur:LV,w.heap[b]? =some (.cells cur.toArray e (0,0))/\p+m<=cur.length /\
   ownsV (w.setRow b (cur.take p++(us++cur.drop (p+m))).toArray) base e sz (.slice (some ⟨b,0,none⟩) n cap) n (vs.take p++(us++vs.drop (p+m))):=by
 have hl:=h.1;rcases h.2 with ⟨h0,_⟩|⟨g,cap',cur,e1,hb,hg,hnc,hcm,hcs,ht⟩
 ·cases h0
 ·cases e1;have hcap:n*sz<=cap*sz:=Nat.mul_le_mul_right _ hnc;have hcl:cap*sz<=cur.toList.length:=by simpa using hcs
  have hcl':cur.toList.length=cur.size:=Array.length_toList ..;refine ⟨cur.toList,by simpa using hg,by omega,?_,.inr ⟨b,cap,_,rfl,hb,setRow_heap w b cur _ e _ hg,hnc,hcm,?_,?_⟩⟩
  ·simp only[length_append,length_take,length_drop];omega
  ·simp only[size_toArray,length_append,length_take,length_drop,hm];omega
  ·rw[← ht];apply ext_getElem?;intro j;simp only[getElem?_append,getElem?_take,getElem?_drop,length_append,length_take,length_drop,hm]
   repeat' split
   all_goals first|rfl|(exfalso;omega)|(congr 1;omega)|(rw[getElem?_eq_none oM])
theorem Aaa{t:TypeId}{one:Bool}{m:Nat}(h:R1 P t=some (one,m))(ho:one=true):m=1:=by
 unfold R1 at h;split at h
 ·simp at h;rw[h.1]at ho;cases ho
 ·simp at h;rw[h.1]at ho;cases ho
 ·split at h
  ·simp at h;exact h.2.symm
  ·cases h
 ·cases h
theorem Aru{o:Oper}{a:Act}{f:TF}{v:AV}{us:OL}{t:TypeId}{x y:Operand}{x' y':Opd}{one:Bool}{m:Nat}(ho:o.op=.store t x y)(h1:R1 P t=some (one,m))(h2:Opd.of x=some x')(h3:Opd.of y=some y')
  (he:Agj f ob one m x' y'=some (v,us)) (hm:Mem0 G w0 ob C K w) (hK:∀ n,K n->K' n)
  (hf:∀ x∈o.op.operands,∀ y,Opd.of x=some y->AV.Rep C (imm ob C) w (y.ev f) (a.eval x)):Oper.does P o a w (Goes G w0 (A3 us ob) K' C (imm ob C) w v):=by
 have r1:=hf x fI x' h2;have r2:=hf y fI y' h3;unfold Agj at he;split at he
 ·rename_i j k hx;rw[hx]at r1;have ⟨b,cap,sz,e1,e2⟩:=r1;split at he
  ·rename_i ty cs hj;have ⟨ds,hds,hh⟩:=oms.1 he;obtain ⟨rfl,rfl⟩:=Prod.mk.inj hh;have ⟨vs,g1,g2,g3⟩:=hm.obs j _ _ hj e1;have ⟨ws,q1,q2,q3,q4,q5⟩:=Qq hds (Aaa h1) r2 g2;have hrun:=Am8 (P:=P) h1 g1 q1 q2 q3 q4;have hL:=Later.swap (o':=.cells ty ds) hj e1 (.inl ⟨rfl,rfl,rfl⟩)<|Only.setRow w b (vs.take k++(ws++vs.drop (k+m))).toArray;refine Oper.does_skip (by simp[execOp,ho,e2,hrun]) ⟨_,hL,hm.swap hj e1 (.inl ⟨rfl,rfl,rfl⟩) (Only.setRow w b _) hK (hK _<|hm.gen _ _ e1) (hm.cap _ _ _ _ e1) ⟨_,setRow_heap w b _ _ ty _ g1,AV.RepL.later hL _ _ q5,?_⟩,trivial⟩;intro u hu;rcases mem_append.1 hu with hu|hu
   ·exact g3 u<|mem_of_mem_take hu
   ·rcases mem_append.1 hu with hu|hu
    ·exact q4 u hu
    ·exact g3 u<|mem_of_mem_drop hu
  ·cases he
 ·rename_i j e k hx;rw[hx]at r1;have ⟨b,cap,sz,e1,e2⟩:=r1;split at he
  ·rename_i et ty xs hj;split at he
   ·rename_i d hd;split at he
    ·rename_i ds hds;split at he
     next d' hd'=>obtain ⟨rfl,rfl⟩:=Prod.mk.inj<|osj he;have ⟨hfl,hown,hsz⟩:=hm.obs j _ _ hj e1;obtain rfl:=hsz b cap sz rfl;have ⟨ws,q1,q2,q3,q4,q5⟩:=Qq hds (Aaa h1) r2<|Ty.enc_rep (C:=C) (im:=imm ob C) (w:=w) d hfl;rw[Ty.enc_length d hfl]at q3;have ⟨cur,c1,c2,c3⟩:=Apd hfl hd hown q2 q3 (Ty.ofAV_enc hfl q5 hd').symm;have hrun:=Am8 (P:=P) (k:=e*ty.size+k) h1 c1 q1 q2 c2 q4;have hL:=Later.swap (o':=.arr et ty<|xs.set e d') hj e1 (.inl ⟨rfl,rfl,rfl⟩)<|Only.setRow w b (cur.take (e*ty.size+k)++(ws++cur.drop (e*ty.size+k+m))).toArray;refine Oper.does_skip (by simp[execOp,ho,e2,hrun]) ⟨_,hL,hm.swap hj e1 (.inl ⟨rfl,rfl,rfl⟩) (Only.setRow w b _) hK (hK _<|hm.gen _ _ e1) (hm.cap _ _ _ _ e1) ⟨hfl,?_,fun b c s h=>by cases h;rfl⟩,trivial⟩;rw[length_set];exact c3
     ·cases he
    ·cases he
   ·cases he
  ·rename_i et sz' n cs hj;have ⟨ds,hds,hh⟩:=oms.1 he;obtain ⟨rfl,rfl⟩:=Prod.mk.inj hh;have ⟨vs,hown,g2,g3,hsz⟩:=hm.obs j _ _ hj e1;obtain rfl:=hsz b cap sz rfl;have ⟨ws,q1,q2,q3,q4,q5⟩:=Qq hds (Aaa h1) r2 g2;have ⟨cur,c1,c2,c3⟩:=Amj hown q2 q3;have hrun:=Am8 (P:=P) (k:=e*sz+k) h1 c1 q1 q2 c2 q4;have hL:=Later.swap (o':=.vec et sz n ds) hj e1 (.inl ⟨rfl,rfl,rfl⟩)<|Only.setRow w b (cur.take (e*sz+k)++(ws++cur.drop (e*sz+k+m))).toArray;refine Oper.does_skip (by simp[execOp,ho,e2,hrun]) ⟨_,hL,hm.swap hj e1 (.inl ⟨rfl,rfl,rfl⟩) (Only.setRow w b _) hK (hK _<|hm.gen _ _ e1) (hm.cap _ _ _ _ e1) ⟨_,c3,AV.RepL.later hL _ _ q5,?_,fun b c s h=>by cases h;rfl⟩,trivial⟩;intro u hu;rcases mem_append.1 hu with hu|hu
   ·exact g3 u<|mem_of_mem_take hu
   ·rcases mem_append.1 hu with hu|hu
    ·exact q4 u hu
    ·exact g3 u<|mem_of_mem_drop hu
  ·cases he
 ·cases he
end
end
section
def Ty.eq?:(a b:Ty)->Option (PLift (a=b))
 | .int,.int=>some ⟨rfl⟩
 | .bool,.bool=>some ⟨rfl⟩
 | .str,.str=>some ⟨rfl⟩
 | .slice a,.slice b=>match Ty.eq? a b with
  | some ⟨h⟩=>some ⟨congrArg Ty.slice h⟩
  | none=>none
 | .pair a b,.pair c d=>match Ty.eq? a c,Ty.eq? b d with
  | some ⟨h⟩,some ⟨k⟩=>some ⟨by rw[h,k]⟩
  | _,_=>none
 | _,_=>none
theorem Ty.eq?_self:∀ a:Ty,Ty.eq? a a=some ⟨rfl⟩
 | .int=>rfl
 | .bool=>rfl
 | .str=>rfl
 | .slice a=>by simp[Ty.eq?,Ty.eq?_self a]
 | .pair a b=>by simp[Ty.eq?,Ty.eq?_self a,Ty.eq?_self b]
def Wh{a b:Ty}(h:PLift (a=b))(xs:List a.D):List b.D:=h.down▸xs
theorem Cx{a:Ty}(h:PLift (a=a))(xs:List a.D):Wh h xs=xs:=rfl
def Am4:List (Option Ty)->Option Ty
 | []=>none
 | [x]=>x
 | x :: y :: r=>match x,Am4 (y :: r) with
  | some a,some b=>some (.pair a b)
  | _,_=>none
def Ty.ofP(P:Program):Nat->TypeId->Option Ty
 | 0,_=>none
 | n+1,t=>match P.underlying t with
  | some (.int .i64)=>some .int
  | some .bool=>some .bool
  | some .string=>some .str
  | some (.slice e)=>(Ty.ofP P n e).map .slice
  | some (.struct fs)=>Am4 (fs.toList.map fun f=>Ty.ofP P n f.type)
  | some (.array m e)=>Am4 (replicate m (Ty.ofP P n e))
  | _=>none
def Ty.zeroB:Ty->LV->Bool
 | .int,[.int .i64 n]=>n==0
 | .bool,[.bool b]=> !b
 | .str,[.string s]=>s.data.toList.isEmpty
 | .pair a b,vs=>a.zeroB (vs.take a.size)&&b.zeroB (vs.drop a.size)
 | _,_=>false
def Yr(P:Program)(e:TypeId)(t:Ty)(bytes:Nat):Bool:=
 match P.info? e with
 | some i=>match i.zero with
  | some z=>i.size==t.size&&(i.bytes==bytes&&(t.flat&&(t.zeroB z.cells.toList&&(decide (0<t.size)&&z.cells.size==t.size))))
  | none=>false
 | none=>false
theorem Ty.zeroB_eq:∀{t:Ty} {vs:LV},t.zeroB vs=true->vs=t.enc t.dflt
 | .int,vs,h=>by
  unfold Ty.zeroB at h;split at h <;> first|(cases h;done)|skip
  all_goals simp_all[Ty.enc,Ty.dflt]
 | .bool,vs,h=>by
  unfold Ty.zeroB at h;split at h <;> first|(cases h;done)|skip
  all_goals simp_all[Ty.enc,Ty.dflt]
 | .str,vs,h=>by
  unfold Ty.zeroB at h;split at h <;> first|(cases h;done)|skip
  all_goals simp_all[Ty.enc,Ty.dflt]
  exact ByteArray.ext h
 | .slice _,vs,h=>by
  unfold Ty.zeroB at h;cases h
 | .pair a b,vs,h=>by
  simp only[Ty.zeroB,fT]at h;have e1:=Ty.zeroB_eq h.1;have e2:=Ty.zeroB_eq h.2;rw[← take_append_drop a.size vs,e1,e2];rfl
theorem Qc{P:Program}{e:TypeId}{t:Ty}{bytes:Nat}(h:Yr P e t bytes=true):∃ i z,P.info? e=some i/\i.zero=some z/\i.size=t.size/\i.bytes=bytes/\t.flat=true/\z.cells.toList=t.enc t.dflt/\0<t.size/\z.cells.size=t.size:=by
 unfold Yr at h;split at h
 ·rename_i i hi;split at h
  next z hz=>simp only[fT,fF,decide_eq_true_eq]at h;have ⟨h1,h2,h3,h4,h5,h6⟩:=h;exact ⟨i,z,hi,hz,h1,h2,h3,Ty.zeroB_eq h4,h5,h6⟩
  ·cases h
 ·cases h
def E6(ob:OF)(t:Ty):AV->Option (List t.D)
 | .nils=>some []
 | .tree u xs=>match Ty.eq? u t with
  | some h=>some (Wh h xs)
  | none=>none
 | .giv _ u xs=>match Ty.eq? u t with
  | some h=>some (Wh h xs)
  | none=>none
 | .ftr _ u xs=>match Ty.eq? u t with
  | some h=>some (Wh h xs)
  | none=>none
 | .own i _ off len=>match ob i with
  | some (.arr _ u xs)=>if off+len<=xs.length then match Ty.eq? u t with
   | some h=>some (((Wh h xs).drop off).take len)
   | none=>none
   else none
  | _=>none
 | _=>none
section
variable{P:Program}{G:WP}{w0 w w':World}{ob:OF}{C:OC}{K K':NP}{im:NP}
theorem Ahe{t:Ty}(hfl:t.flat=true)(xs:List t.D)(off len:Nat):t.cells ((xs.drop off).take len)=((t.cells xs).drop (off*t.size)).take (len*t.size):=by
 have hd:∀(n:Nat) (xs:List t.D),t.cells (xs.drop n)=(t.cells xs).drop (n*t.size):=by
  intro n
  induction n with
  | zero=>simp
  | succ n ih=>
   intro xs;cases xs with
   | nil=>simp[Ty.cells]
   | cons x r=>
    have e1:t.cells (x :: r)=t.enc x++t.cells r:=by simp[Ty.cells]
    rw[drop_succ_cons,ih,e1,Nat.succ_mul,drop_append,Ty.enc_length x hfl,drop_of_length_le (l:=t.enc x) (by rw[Ty.enc_length x hfl];omega),nil_append,Nat.add_sub_cancel]
 have ht:∀(n:Nat) (xs:List t.D),t.cells (xs.take n)=(t.cells xs).take (n*t.size):=by
  intro n
  induction n with
  | zero=>simp[Ty.cells]
  | succ n ih=>
   intro xs;cases xs with
   | nil=>simp[Ty.cells]
   | cons x r=>
    have e1:t.cells (x :: r)=t.enc x++t.cells r:=by simp[Ty.cells]
    have e2:t.cells (x :: r.take n)=t.enc x++t.cells (r.take n):=by simp[Ty.cells]
    rw[take_succ_cons,e2,ih,e1,Nat.succ_mul,take_append,Ty.enc_length x hfl,take_of_length_le (l:=t.enc x) (by rw[Ty.enc_length x hfl];omega),Nat.add_sub_cancel]
 rw[ht,hd]
theorem Ae2{t:Ty}(hfl:t.flat=true){R:NP}{ad:Addr}{c:Nat}{ys:List t.D}{l:List Addr}(hy:Sl R w t (some ad) c ys l){j:Nat}{u:Value}(hj:(t.cells ys)[j]? =some u):w.cell? (ad.add j)=some u:=by
 have hlt':=(gSi.1 hj).1;rw[Ty.cells_length hfl]at hlt'
 have hsz:0<t.size:=by
  rcases Nat.eq_zero_or_pos t.size with h|h
  ·rw[h]at hlt';omega
  ·exact h
 have hi':j / t.size<ys.length:=Nat.div_lt_of_lt_mul (by rw[Nat.mul_comm];exact hlt');have h0:0<ys.length:=Nat.lt_of_le_of_lt (Nat.zero_le _) hi';have hm:=Nat.mod_lt j hsz;have hj':j / t.size*t.size+j % t.size=j:=by rw[Nat.mul_comm];exact Nat.div_add_mod j t.size
 have ⟨_,_,f,_,hf⟩:=hy;have ⟨ad',he,_,hmem⟩:=hf h0;cases he;have:=((hmem _ hi').flat hfl).1 _ hm;rw[Di,hj',← Ty.cells_get hfl ys _ hi' _ hm,hj']at this;rw[this];exact hj
theorem Aa7{t:Ty}{c:AV}{v:Value}{ys:List t.D}{obL:OF}{lo:Nat}(hfl:t.flat=true)(h:E6 obL t c=some ys)(hob:∀ i o l,obL i=some o->C i=some l->o.Rep lo C im w l)(hr:AV.Rep C im w c v):
  ∃ A cp,v=.slice A ys.length cp/\(A=none->ys=[])/\∀ ad,A=some ad->∀ j u,(t.cells ys)[j]? =some u->w.cell? (ad.add j)=some u:=by
 unfold E6 at h;split at h
 ·cases h;exact ⟨none,0,hr,fun _=>rfl,fun _ e=>by cases e⟩
 ·rename_i u xs;split at h
  ·rename_i hh _;cases h;have ⟨hh⟩:=hh;subst hh;obtain ⟨A,cp,l,rfl,hs⟩:=hr;refine ⟨A,cp,rfl,fun e=>?_,fun ad e j u' hu=>?_⟩
   ·subst e;rcases Nat.eq_zero_or_pos xs.length with h0|h0
    ·exact length_eq_zero_iff.1 h0
    ·have ⟨_,_,_,_,hf⟩:=hs;have ⟨ad,he,_⟩:=hf h0;cases he
   ·subst e;exact Ae2 hfl hs hu
  ·cases h
 ·rename_i vg u xs;split at h
  ·rename_i hh _;cases h;have ⟨hh⟩:=hh;subst hh;obtain ⟨A,cp,l,rfl,hs⟩:=hr.2;refine ⟨A,cp,rfl,fun e=>?_,fun ad e j u' hu=>?_⟩
   ·subst e;rcases Nat.eq_zero_or_pos xs.length with h0|h0
    ·exact length_eq_zero_iff.1 h0
    ·have ⟨_,_,_,_,hf⟩:=hs;have ⟨ad,he,_⟩:=hf h0;cases he
   ·subst e;exact Ae2 hfl hs hu
  ·cases h
 ·rename_i vg u xs;split at h
  ·rename_i hh _;cases h;have ⟨hh⟩:=hh;subst hh;obtain ⟨A,cp,l,rfl,hs0⟩:=hr;have hs:Sl im w _ A cp xs l:=Cc (fun b _ hb=>hb.1) hs0;refine ⟨A,cp,rfl,fun e=>?_,fun ad e j u' hu=>?_⟩
   ·subst e;rcases Nat.eq_zero_or_pos xs.length with h0|h0
    ·exact length_eq_zero_iff.1 h0
    ·have ⟨_,_,_,_,hf⟩:=hs;have ⟨ad,he,_⟩:=hf h0;cases he
   ·subst e;exact Ae2 hfl hs hu
  ·cases h
 ·rename_i i u0 off len;split at h
  ·rename_i e' u xs hj;split at h
   ·rename_i hle;split at h
    ·rename_i hh _;cases h;have ⟨hh⟩:=hh;subst hh
     have hlen:(((Wh ⟨rfl⟩ xs:List u.D).drop off).take len).length=len:=by
      rw[Cx,length_take,length_drop];omega
     rcases hr with ⟨e1,e2,e3,e4⟩|⟨b,cap,e1,e2,e3⟩|⟨lc,e1,e2,e3,A,c,e4,e5⟩
     rotate_left
     rotate_left
     ·subst e3;exact ⟨A,c,by rw[hlen];exact e4,fun _=>by simp,fun ad _ j u' hu=>by simp[Cx,Ty.cells]at hu⟩
     ·subst e2 e3;exact ⟨none,0,by rw[hlen];exact e4,fun _=>by simp,fun _ e=>by cases e⟩
     ·have ⟨_,hown,hsz⟩:=hob i _ _ hj e1;have hs0:=hsz b cap _ rfl;refine ⟨some ⟨b,off*u0.size,none⟩,cap - off,by rw[hlen];exact e3,(fun e=>by cases e),fun ad e j u' hu=>?_⟩;cases e;rw[Cx,Ahe hfl,getElem?_take]at hu;split at hu
      ·rw[getElem?_drop]at hu;have:=hown.cells (g:=b) rfl _ _ hu;rw[Cn,fE]at this;rw[Cn,hs0];exact this
      ·cases hu
    ·cases h
   ·cases h
  ·cases h
 ·cases h
end
end
end Go.Proofs.YthlpchhhinipaaaGreatDoor
