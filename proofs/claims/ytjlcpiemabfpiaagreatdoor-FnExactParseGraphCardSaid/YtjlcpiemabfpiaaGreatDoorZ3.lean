/- Lemmas on the program and on partial functions that stand in place of its code (part 3); no condition beyond those that each one states. -/
import Derived.Test.YtjlcpiemabfpiaaGreatDoorZ2
import Derived.ScopeJumps
import Derived.Deep.LoopGhost
import Derived.KernelRfl
namespace Go.Proofs.YtjlcpiemabfpiaaGreatDoor
section
open Go.RowKit Go.Deep
inductive Q where
 | i (q:I)
 | st (one:Bool) (m:Nat) (x y:Opd)
 | mkS (e:TypeId) (t:Ty) (xs:List Opd)
 | make (e:TypeId) (t:Ty) (bytes:Nat) (len cap:Opd)
 | append (e:TypeId) (t:Ty) (bytes:Nat) (x y:Opd)
 | slice (sz:Nat) (x:Opd) (lo hi mx:Option Opd)
 | sub (x:Opd) (lo hi:Option Opd)
 | call (fo:Opd) (xs:List Opd) (tys:List (List (Option Ty)))
 | build (z:List AV) (ps:List (Nat×Nat×Opd))
 | mm (mx:Bool) (x y:Opd)
 | mkV (e:TypeId) (t:Ty) (sz:Nat) (xs:List Opd)
 | makeV (e:TypeId) (t:Ty) (bytes:Nat) (zc:List AV) (len cap:Opd)
 | appV (e:TypeId) (t:Ty) (bytes:Nat) (x y:Opd)
 | makeA (e:TypeId) (t:Ty)
 | makeM (mt:TypeId) (t:Ty)
 | upd (mt:TypeId) (x i v:Opd)
 | del (mt:TypeId) (x i:Opd)
 | slA (n:Nat) (x:Opd)
 | copy (x y:Opd)
def Q.ofSlice (P:Program) (t:TypeId) (x:Operand) (lo hi mx:Option Operand):Option Q :=
 match Opd.of x,Gm lo,Gm hi,Gm mx with
 | some x',some lo',some hi',some mx'=>match Ga P t with
  | some sz=>if mx.isSome&&hi.isNone then none else some (.slice sz x' lo' hi' mx')
  | none=>match P.underlying t with
   | some .string=>if mx.isSome then none else some (.sub x' lo' hi')
   | _=>match O1 P t with
    | some n=>if lo=none/\hi=none/\mx=none then some (.slA n x') else none
    | none=>none
 | _,_,_,_=>none
def Ua (P:Program) (e:TypeId):Nat:=((P.info? e).map (·.bytes)).getD 0
def Qy (P:Program) (t:TypeId):Option (TypeId×Ty×Nat) :=
 match P.underlying t with
 | some (.slice e)=>match Ty.ofP P 8 e with
  | some u=>if L3 P e u (Ua P e) then some (e,u,Ua P e) else none
  | none=>none
 | _=>none
def J7 (P:Program) (t:TypeId):Option (TypeId×Ty×Nat×List AV) :=
 match Np P t with
 | some (e,b,zc)=>match Ty.ofP P 8 e with
  | some u=>if u.size=zc.length then some (e,u,b,zc) else none
  | none=>match P.underlying e with
   | some (.int .u8)=>if Ty.int.size=zc.length then some (e,.int,b,zc) else none
   | _=>none
 | none=>none
def Aex (P:Program):Nat->TypeId->List (Option Ty)
 | 0,_=>[]
 | n+1,t=>match P.underlying t with
  | some (.slice e)=>[Ty.ofP P 8 e]
  | some (.struct fs)=>fs.toList.flatMap fun g=>match Aex P n g.type with
   | []=>[none]
   | l=>l
  | _=>[]
def Tn (P:Program) (mt:TypeId):Option TypeId :=
 match P.underlying mt with
 | some (.map kt _)=>some kt
 | _=>none
def Ae7 (P:Program) (t:TypeId):Bool :=
 match P.underlying t with
 | some (.slice e)=>decide ((P.info? e).map (·.size)=some 1)
 | _=>false
def Q.ofCall (P:Program) (c:Call):Option Q :=
 match c.callee with
 | .value fo=>match Opd.of fo,Opd.ofL c.args.toList with
  | some fo',some xs=>some (.call fo' xs (c.argTypes.toList.map (Aex P 8)))
  | _,_=>none
 | .builtin .append=>match c.args.toList,c.argTypes.toList with
  | [x,y],[t,t']=>if t=t' then match Qy P t,Opd.of x,Opd.of y with
   | some (e,u,b),some x',some y'=>some (.append e u b x' y')
   | none,some x',some y'=>match J7 P t with
    | some (e,u,b,_)=>some (.appV e u b x' y')
    | none=>none
   | _,_,_=>none
   else none
  | _,_=>none
 | .builtin .delete=>match c.args.toList,c.argTypes.toList with
  | [m,x],[t,k]=>match Opd.of m,Opd.of x with
   | some m,some x=>if Tn P t=some k then some (.del t m x) else none
   | _,_=>none
  | _,_=>none
 | .builtin .max=>match c.args.toList with
  | [x,y]=>match Opd.of x,Opd.of y with
   | some x',some y'=>some (.mm true x' y')
   | _,_=>none
  | _=>none
 | .builtin .min=>match c.args.toList with
  | [x,y]=>match Opd.of x,Opd.of y with
   | some x',some y'=>some (.mm false x' y')
   | _,_=>none
  | _=>none
 | .builtin .copy=>match c.args.toList,c.argTypes.toList with
  | [x,y],[t,_]=>match Opd.of x,Opd.of y with
   | some x',some y'=>if Ae7 P t then some (.copy x' y') else none
   | _,_=>none
  | _,_=>none
 | _=>none
def Q.ofBuild (P:Program) (t:TypeId) (parts:List (Nat×Operand)):Option Q :=
 match P.info? t,G7 P t parts with
 | some inf,some ps=>match inf.zero with
  | some z=>if O3 P t then some (.build (z.cells.toList.map AV.of1) ps) else none
  | none=>none
 | _,_=>none
def Abb (P:Program) (kt:TypeId):Bool :=
 match P.underlying kt with
 | some (.int .i64)=>true
 | _=>false
def Xl (P:Program) (et:TypeId):Option Ty:=if F3 P et .int then some .int else if F3 P et .bool then some .bool else if F3 P et (.pair .int .int) then some (.pair .int .int) else none
theorem Vb {P:Program} {et:TypeId} {t:Ty} (h:Xl P et=some t):F3 P et t=true:=by
 unfold Xl at h;by_cases h1:F3 P et .int=true
 ·rw [if_pos h1] at h;obtain rfl:=osj h;exact h1
 rw [if_neg h1] at h;by_cases h2:F3 P et .bool=true
 ·rw [if_pos h2] at h;obtain rfl:=osj h;exact h2
 rw [if_neg h2] at h;by_cases h3:F3 P et (.pair .int .int)=true
 ·rw [if_pos h3] at h;obtain rfl:=osj h;exact h3
 rw [if_neg h3] at h;cases h
def Ac5 (P:Program) (mt:TypeId):Option Ty :=
 match P.underlying mt with
 | some (.map kt et)=>if Abb P kt||(st3 P kt||Mu P kt) then Xl P et else none
 | _=>none
def Acc (P:Program) (t:TypeId):Option Ty :=
 match Ty.ofP P 8 t with
 | some u=>if L3 P t u (Ua P t) then some u else none
 | none=>none
def Q.of (P:Program) (o:Oper):Option Q :=
 match I.of P o with
 | some q=>some (.i q)
 | none=>match o.op with
  | .store t x y=>match Id P t,Opd.of x,Opd.of y with
   | some (one,m),some x',some y'=>some (.st one m x' y')
   | _,_,_=>none
  | .buildSlice t n parts=>match Qy P t,Opd.ofL (parts.toList.map (·.2)) with
   | some (e,u,_),some zs=>if parts.toList.map (·.1)=List.range n/\n*u.size<=16777216 then some (.mkS e u zs) else none
   | none,some zs=>match J7 P t with
    | some (e,u,_,zc)=>if parts.toList.map (·.1)=List.range n/\n*zc.length<=16777216 then some (.mkV e u zc.length zs) else none
    | none=>none
   | _,_=>none
  | .makeSlice t x y=>match Qy P t,Opd.of x,Opd.of y with
   | some (e,u,b),some x',some y'=>some (.make e u b x' y')
   | none,some x',some y'=>match J7 P t with
    | some (e,u,b,zc)=>some (.makeV e u b zc x' y')
    | none=>none
   | _,_,_=>none
  | .slice t x lo hi mx=>Q.ofSlice P t x lo hi mx
  | .call c=>Q.ofCall P c
  | .build t parts=>Q.ofBuild P t parts.toList
  | .alloc e=>(Acc P e).map (.makeA e)
  | .makeMap t none=>(Ac5 P t).map (.makeM t)
  | .mapUpdate t m x v=>match Opd.of m,Opd.of x,Opd.of v with
   | some m,some x,some v=>some (.upd t m x v)
   | _,_,_=>none
  | _=>none
abbrev Af7:=Nat×AV×List (Oid×Option Ob)
noncomputable def Lo (f:Nat->AV) (ob:Oid->Option Ob) (mt:TypeId) (m x v:Opd):Option (Nat×AV×List (Oid×Option Ob)) :=
 match m.ev f,Wo mt (x.ev f) with
 | .mp j,some k=>match ob j with
  | some (.map mt' .int es)=>match v.ev f with
   | .int .i64 n=>if mt=mt'/\es.length<1073741824/\H4 n then some (2,.any,[(j,none),(j,some (.map mt .int (Nv es k n)))]) else none
   | _=>none
  | some (.map mt' .bool es)=>match v.ev f with
   | .bool b=>if mt=mt'/\es.length<1073741824 then some (2,.any,[(j,none),(j,some (.map mt .bool (Nv es k b)))]) else none
   | _=>none
  | some (.map mt' (.pair .int .int) es)=>match v.ev f with
   | .agg [.int .i64 a,.int .i64 b]=>if mt=mt'/\es.length<1073741824/\H4 a/\H4 b then some (2,.any,[(j,none),(j,some (.map mt (.pair .int .int) (Nv es k (a,b))))]) else none
   | _=>none
  | _=>none
 | _,_=>none
noncomputable def Me (f:Nat->AV) (ob:Oid->Option Ob) (mt:TypeId) (m x:Opd):Option (Nat×AV×List (Oid×Option Ob)) :=
 match m.ev f,Wo mt (x.ev f) with
 | .mp j,some k=>match ob j with
  | some (.map mt' t es)=>if mt=mt' then some (2,.any,[(j,none),(j,some (.map mt t (I5 es k)))]) else none
  | _=>none
 | _,_=>none
noncomputable def ev (f:Nat->AV) (ob:Oid->Option Ob) (i:Oid):Q->Option (Nat×AV×List (Oid×Option Ob))
 | .i q=>match evN f i q with
  | some (v,us)=>some (if us.isEmpty then 0 else 1,v,us)
  | none=>match evR f ob q with
   | some v=>some (1,v,[])
   | none=>none
 | .st one m x y=>match U7 f ob one m x y with
  | some (v,us)=>some (2,v,us)
  | none=>none
 | .mkS e t xs=>match Yb f i e t xs with
  | some (v,us)=>some (1,v,us)
  | none=>none
 | .make e t b x y=>match Pk f i e t b x y with
  | some (v,us)=>some (1,v,us)
  | none=>none
 | .append e t b x y=>match F7 f ob i e t b x y with
  | some (v,us)=>some (match x.ev f with | .nils=>1|_=>2,v,us)
  | none=>none
 | .slice sz x lo hi mx=>match Tf f sz x lo hi mx with
  | some v=>some (0,v,[])
  | none=>match Gh f ob i sz x lo hi mx with
   | some (v,us)=>some (2,v,us)
   | none=>none
 | .sub x lo hi=>match Yx f x lo hi with
  | some v=>some (0,v,[])
  | none=>none
 | .call _ _ _=>none
 | .build z ps=>match Sz f z ps with
  | some v=>some (0,v,[])
  | none=>none
 | .mm mx x y=>match Aff f mx x y with
  | some v=>some (0,v,[])
  | none=>none
 | .mkV _ t sz xs=>match t with
  | .slice u=>if sz=1 then match Nc f ob u xs with
   | some (v,us)=>some (2,v,us)
   | none=>none
   else none
  | _=>none
 | .makeV e t b zc x y=>match Om f i e t b zc x y with
  | some (v,us)=>some (1,v,us)
  | none=>none
 | .appV e t b x y=>Io f ob i e t b x y
 | .makeA e t=>some (1,.elt i 0 0,[(i,some (.arr e t [t.dflt]))])
 | .makeM mt t=>some (1,.mp i,[(i,some (.map mt t []))])
 | .upd mt m x v=>Lo f ob mt m x v
 | .del mt m x=>Me f ob mt m x
 | .slA n x=>match Acj f ob n x with
  | some v=>some (1,v,[])
  | none=>none
 | .copy x y=>match K7 f ob x y with
  | some (v,us)=>some (2,v,us)
  | none=>none
def evL (f:Nat->AV) (i:Oid):Q->Option Af7
 | .mkV e t sz xs=>match Sc f i e t sz xs with
  | some (v,us)=>some (1,v,us)
  | none=>none
 | _=>none
def Ae0 (f:Nat->AV) (i:Oid) (q:Q) (r:Nat×AV×List (Oid×Option Ob)):Prop :=
 ∃ (e e':TypeId) (u:Ty) (b:Nat) (x y:Opd) (k k':IntKind) (n c:Int),q=.makeV e (.slice u) b [.nils] x y/\x.ev f=.int k n/\y.ev f=.int k' c/\(0<=n/\n<=c/\c<=1073741824/\(b:Int)*c<=140737488355328)/\u.flat=true /\
  r=(1,RV.out ⟨false,[(false,[.newM e e' u (List.replicate n.toNat [])])]⟩ (Ev i) [])
def EvR (P:Program) (G:World->Prop) (pure:Bool) (f:Nat->AV) (ob:Oid->Option Ob) (i:Oid) (q:Q) (r:Nat×AV×List (Oid×Option Ob)):Prop :=
 ((ev f ob i q=some r∨evL f i q=some r)∨Ae0 f i q r)∨∃ fo xs tys g caps,q=.call fo xs tys/\fo.ev f=.fn g caps/\((r.1=1/\Aet P G f ob i tys (Kz g) (Ct g xs (caps.map .cst)) r.2)∨(pure=false/\r.1=2/\Aae P G f ob i (Kz g) (Ct g xs (caps.map .cst)) r.2))
section
variable {P:Program} {G:World->Prop} {w0 w w':World} {ob:Oid->Option Ob} {σ:Oid->Option Loc} {K K':Nat->Prop} {im:Nat->Prop}
theorem Jq {t e:TypeId} {u:Ty} {b:Nat} (h:Qy P t=some (e,u,b)):P.underlying t=some (.slice e)/\L3 P e u b=true:=by
 unfold Qy at h;split at h
 ·rename_i e' he;split at h
  ·split at h
   ·rename_i u' _ hb;have:=osj h;simp only [Prod.mk.injEq] at this;obtain ⟨rfl,rfl,rfl⟩:=this;exact ⟨he,hb⟩
   ·cases h
  ·cases h
 ·cases h
theorem X0 (f:Nat->AV) (cs:List AV):(cs.map Opd.cst).map (Opd.ev f)=cs:=by
 induction cs with
 | nil=>rfl
 | cons c cs ih=>simp only [List.map_cons,ih];rfl
theorem O6 {obL:Oid->Option Ob} (hag:∀ id o l,obL id=some o->σ id=some l->ob id=some o) {t:Ty} {v:AV} {u:Value} {ys:List t.D} (hr:AV.Rep σ im w v u) (h:D4 obL t v=some ys):D4 ob t v=some ys:=by
 unfold D4 at h ⊢;split at h
 ·exact h
 ·exact h
 ·exact h
 ·exact h
 ·rename_i i t0 off len;split at h
  ·rename_i e u0 xs hj
   have:ob i=some (.arr e u0 xs):=by
    rcases hr with ⟨g1,_⟩|⟨b,cap,g1,_⟩|⟨_,g1,_⟩
    ·exact hag _ _ _ hj g1
    ·exact hag _ _ _ hj g1
    ·exact hag _ _ _ hj g1
   simp only [this];exact h
  ·cases h
 ·cases h
theorem Ado {obL:Oid->Option Ob} (hag:∀ id o l,obL id=some o->σ id=some l->ob id=some o) {f:Nat->AV} {one:Bool} {m:Nat} {x y:Opd} {u:Value} {r:AV×List (Oid×Option Ob)} (hr:AV.Rep σ im w (x.ev f) u) (h:U7 f obL one m x y=some r):U7 f ob one m x y=some r:=by
 unfold U7 at h ⊢;split at h
 ·rename_i j k hx;rw [hx] at hr;obtain ⟨b,cap,sz,g1,_⟩:=hr;split at h
  ·rename_i ty cs hj;simp only [hag _ _ _ hj g1];exact h
  ·cases h
 ·rename_i j e k hx;rw [hx] at hr;obtain ⟨b,cap,sz,g1,_⟩:=hr;split at h
  ·rename_i ty cs xs hj;simp only [hag _ _ _ hj g1];exact h
  ·rename_i et sz' n cs hj;simp only [hag _ _ _ hj g1];exact h
  ·cases h
 ·cases h
theorem Uj {obL:Oid->Option Ob} (hag:∀ id o l,obL id=some o->σ id=some l->ob id=some o) {f:Nat->AV} {i:Oid} {e:TypeId} {t:Ty} {b:Nat} {x y:Opd} {u u':Value} {r:AV×List (Oid×Option Ob)} (hr:AV.Rep σ im w (x.ev f) u) (hr':AV.Rep σ im w (y.ev f) u') (h:F7 f obL i e t b x y=some r):F7 f ob i e t b x y=some r:=by
 unfold F7 at h ⊢;split at h
 ·rename_i ys hys;rw [O6 hag hr' hys];dsimp only;split at h
  ·exact h
  ·rename_i j t0 off len hx;rw [hx] at hr;split at h
   ·rename_i e' u0 xs hj
    have:ob j=some (.arr e' u0 xs):=by
     rcases hr with ⟨g1,_⟩|⟨b,cap,g1,_⟩|⟨_,g1,_⟩
     ·exact hag _ _ _ hj g1
     ·exact hag _ _ _ hj g1
     ·exact hag _ _ _ hj g1
    simp only [this];exact h
   ·cases h
  ·cases h
 ·cases h
theorem X3 {obL:Oid->Option Ob} (hag:∀ id o l,obL id=some o->σ id=some l->ob id=some o) {f:Nat->AV} {t:Ty} {a:Act}:∀ {xs:List Operand} {zs:List Opd} {yss:List (List t.D)},Opd.ofL xs=some zs->(∀ x∈xs,∀ y,Opd.of x=some y->AV.Rep σ im w (y.ev f) (a.eval x))->T6 f obL t zs=some yss->T6 f ob t zs=some yss
 | [],zs,yss,h,_,he=>by
  obtain rfl:[]=zs:=osj h;exact he
 | x :: xs,zs,yss,h,hf,he=>by
  simp only [Opd.ofL] at h;split at h
  ·rename_i y ys' h1 h2;obtain rfl:=osj h;simp only [T6] at he ⊢;split at he
   ·rename_i q qs h3 h4;rw [O6 hag (hf x (by simp) y h1) h3,X3 hag h2 (fun x hx=>hf x (by simp [hx])) h4];exact he
   ·cases he
  ·cases h
theorem Acp {obL:Oid->Option Ob} (hag:∀ id o l,obL id=some o->σ id=some l->ob id=some o) {f:Nat->AV} {t:Ty} {a:Act} {xs:List Operand} {zs:List Opd} {r:AV×List (Oid×Option Ob)} (h:Opd.ofL xs=some zs) (hf:∀ x∈xs,∀ y,Opd.of x=some y->AV.Rep σ im w (y.ev f) (a.eval x)) (he:Nc f obL t zs=some r):Nc f ob t zs=some r:=by
 unfold Nc at he ⊢;split at he
 ·rename_i yss hy;rw [X3 hag h hf hy];exact he
 ·cases he
theorem Adj {obL:Oid->Option Ob} (hag:∀ id o l,obL id=some o->σ id=some l->ob id=some o) {t:Ty} {v:AV} {u:Value} {r:Nat×List AV} (hr:AV.Rep σ im w v u) (h:Zx obL t v=some r):Zx ob t v=some r:=by
 unfold Zx at h ⊢;split at h
 ·exact h
 ·exact h
 ·exact h
 ·exact h
 ·rename_i i t0 off len;split at h
  ·rename_i e sz n cs hj
   have:ob i=some (.vec e sz n cs):=by
    rcases hr with ⟨g1,_⟩|⟨b,cap,g1,_⟩|⟨_,g1,_⟩
    ·exact hag _ _ _ hj g1
    ·exact hag _ _ _ hj g1
    ·exact hag _ _ _ hj g1
   simp only [this];exact h
  ·cases h
 ·cases h
theorem Zk {obL:Oid->Option Ob} (hag:∀ id o l,obL id=some o->σ id=some l->ob id=some o) {f:Nat->AV} {i:Oid} {e:TypeId} {t:Ty} {b:Nat} {x y:Opd} {u u':Value} {r:Af7} (hr:AV.Rep σ im w (x.ev f) u) (hr':AV.Rep σ im w (y.ev f) u') (h:Io f obL i e t b x y=some r):Io f ob i e t b x y=some r:=by
 unfold Io at h ⊢;split at h
 ·rename_i m ds hys;rw [Adj hag hr' hys];dsimp only;split at h
  ·exact h
  ·rename_i j t0 off len hx;rw [hx] at hr;split at h
   ·rename_i e' sz n cs hj
    have:ob j=some (.vec e' sz n cs):=by
     rcases hr with ⟨g1,_⟩|⟨b,cap,g1,_⟩|⟨_,g1,_⟩
     ·exact hag _ _ _ hj g1
     ·exact hag _ _ _ hj g1
     ·exact hag _ _ _ hj g1
    simp only [this];exact h
   ·cases h
  ·cases h
 ·cases h
theorem Fh {t e:TypeId} {u:Ty} {b:Nat} {zc:List AV} (h:J7 P t=some (e,u,b,zc)):Np P t=some (e,b,zc)/\u.size=zc.length:=by
 unfold J7 at h;split at h
 ·rename_i e' b' zc' he;split at h
  ·split at h
   ·rename_i u' _ hb;have:=osj h;simp only [Prod.mk.injEq] at this;obtain ⟨rfl,rfl,rfl,rfl⟩:=this;exact ⟨he,hb⟩
   ·cases h
  ·split at h
   ·split at h
    ·rename_i hb;have:=osj h;simp only [Prod.mk.injEq] at this;obtain ⟨rfl,rfl,rfl,rfl⟩:=this;exact ⟨he,hb⟩
    ·cases h
   ·cases h
 ·cases h
theorem Tc {ty e:TypeId} {b:Nat} {zc:List AV} (h:Np P ty=some (e,b,zc)) (h1:zc.length=1):H7 P e=true:=by
 obtain ⟨_,i,z,q1,q2,_,_,q3,_,q8,_⟩:=Fy h;unfold H7;simp [q1,q2,q3,q8,h1]
theorem Qn {f:Nat->AV} {obL:Oid->Option Ob} {mt:TypeId} {m x v:Opd} {k:Nat} {r:AV×List (Oid×Option Ob)} (h:Lo f obL mt m x v=some (k,r)):k=2:=by
 unfold Lo at h
 (repeat' split at h) <;> first|(cases h;done)|(simp only [Option.some.injEq,Prod.mk.injEq] at h;exact h.1.symm)
theorem O2 {f:Nat->AV} {obL:Oid->Option Ob} {mt:TypeId} {m x:Opd} {k:Nat} {r:AV×List (Oid×Option Ob)} (h:Me f obL mt m x=some (k,r)):k=2:=by
 unfold Me at h
 (repeat' split at h) <;> first|(cases h;done)|(simp only [Option.some.injEq,Prod.mk.injEq] at h;exact h.1.symm)
theorem Aa6 {obL:Oid->Option Ob} (hag:∀ id o l,obL id=some o->σ id=some l->ob id=some o) {f:Nat->AV} {mt:TypeId} {m x v:Opd} {u:Value} (hr:AV.Rep σ (imm ob σ) w (m.ev f) u) {r:Nat×AV×List (Oid×Option Ob)} (h:Lo f obL mt m x v=some r):Lo f ob mt m x v=some r:=by
 unfold Lo at h ⊢;split at h
 ·rename_i j k hm hx;rw [hm] at hr;obtain ⟨b,cap,sz,e1,_⟩:=hr;cases hj:obL j with
  | none=>rw [hj] at h;cases h
  | some o =>
   rw [hj] at h;simp only [hm,hx,hag j o _ hj e1];exact h
 ·cases h
theorem Acw {obL:Oid->Option Ob} (hag:∀ id o l,obL id=some o->σ id=some l->ob id=some o) {f:Nat->AV} {mt:TypeId} {m x:Opd} {u:Value} (hr:AV.Rep σ (imm ob σ) w (m.ev f) u) {r:Nat×AV×List (Oid×Option Ob)} (h:Me f obL mt m x=some r):Me f ob mt m x=some r:=by
 unfold Me at h ⊢;split at h
 ·rename_i j k hm hx;rw [hm] at hr;obtain ⟨b,cap,sz,e1,_⟩:=hr;cases hj:obL j with
  | none=>rw [hj] at h;cases h
  | some o =>
   rw [hj] at h;simp only [hm,hx,hag j o _ hj e1];exact h
 ·cases h
theorem Wt {o:Oper} {a:Act} {i:Oid} {e:TypeId} {t:Ty} (ho:o.op=.alloc e) (h:Acc P e=some t) (hm:Mem0 G w0 ob σ K w) (hK:∀ n,K n->K' n) (hi:¬ K i.2) (hi':K' i.2) :
  Oper.does P o a w (Goes G w0 (Ae [(i,some (.arr e t [t.dflt]))] ob) K' σ (imm ob σ) w (.elt i 0 0)):=by
 unfold Acc at h;split at h
 ·rename_i u hu;split at h
  ·rename_i hel;obtain rfl:=osj h;obtain ⟨inf,z,q1,q2,q3,q4,q5,q6,q7,q8⟩:=Hk hel;have hz:z.cells.toList=u.cells [u.dflt]:=by rw [q6];simp [Ty.cells]
   have hg:=Goes.row (w':=w.alloc (.cells z.cells e)) hm hK hi hi' (e:=e) (xs:=[u.dflt]) q5 ((Below.refl _ _).alloc (Nat.le_refl _) _) (l:=.at_ w.heap.size 1 u.size) (fun b c s h=>by cases h;rfl) (by
    refine ⟨by rw [Ty.cells_length q5],.inr ⟨w.heap.size,1,z.cells,rfl,Nat.le_refl _,by show (w.heap.push _)[w.heap.size]? =_;simp,by simp,by simp [maxLen],by rw [q8];simp,?_⟩⟩;rw [← hz,List.take_of_length_le];rw [Array.length_toList,q8];simp)
   obtain ⟨σ',hL,hm',hr⟩:=hg;refine Oper.does_value (v:=.pointer (some ⟨w.heap.size,0,none⟩)) (w':=w.alloc (.cells z.cells e)) ?_ ⟨σ',hL,hm',?_⟩
   ·simp [execOp,ho,Instr.alloc,zeroValue,typeInfo,q1,q2,newVar,newRow]
   ·rcases hr with ⟨_,_,h0,_⟩|⟨b,cap,e1,_,e2⟩|⟨_,_,h0,_⟩
    ·exact absurd h0 (by simp)
    ·refine ⟨b,cap,u.size,e1,?_⟩;simp only [Loc.val,Nat.zero_mul,Value.slice.injEq,Option.some.injEq,Addr.mk.injEq] at e2;rw [e2.1.1];simp
    ·exact absurd rfl h0
  ·cases h
 ·cases h
theorem laid:laidOutB Tryz.prog=true:=by kernel_rfl
theorem W8 [IsP P] {o:Oper} {a:Act} {i:Oid} {mt:TypeId} {t:Ty} (ho:o.op=.makeMap mt none) (h:Ac5 P mt=some t) (hm:Mem0 G w0 ob σ K w) (hK:∀ n,K n->K' n) (hi:¬ K i.2) (hi':K' i.2) :
  Oper.does P o a w (Goes G w0 (Ae [(i,some (.map mt t []))] ob) K' σ (imm ob σ) w (.mp i)):=by
 have hP:=IsP.eq (P:=P);subst hP
 obtain ⟨kt,et,ht⟩:∃ kt et,Ac2 Tryz.prog mt t kt et:=by
  unfold Ac5 at h;split at h
  ·rename_i kt et h1;split at h
   ·rename_i h2
    have hk:KeyTy Tryz.prog kt (k3 Tryz.prog mt):=by
     have h4:k3 Tryz.prog mt=if Mu Tryz.prog kt then none else some (st3 Tryz.prog kt):=by unfold k3;rw [h1]
     rw [h4];cases h6:Mu Tryz.prog kt with
     | true=>exact Aem (V3 h6)
     | false =>
     rw [if_neg (by simp)];cases h5:st3 Tryz.prog kt with
     | true=>exact Ael laid h5
     | false =>
      rw [h5,h6,Bool.or_false,Bool.or_false] at h2;unfold Abb at h2;split at h2
      ·rename_i h6;exact Ad3 h6
      ·cases h2
    exact ⟨kt,et,h1,hk,Vb h⟩
   ·cases h
  ·cases h
 have hs:=Goes.fresh hm hi;have hb:Below w.heap.size w (w.alloc (.map #[] 0)):=(Below.refl _ _).alloc (Nat.le_refl _) _;have hL:=Later.new (ob:=ob) (i:=i) (l:=.at_ w.heap.size 0 0) (o:=.map mt t []) hs hb (fun b c s e=>by cases e;exact Nat.le_refl _);refine Oper.does_value (v:=.map (some w.heap.size)) (w':=w.alloc (.map #[] 0)) ?_ ⟨_,hL,hm.new hs hb (fun b c s e=>by cases e;exact ⟨Nat.le_refl _,by simp,Nat.zero_le _⟩) hK hi' ?_,⟨w.heap.size,0,0,Ar _ _ _,rfl⟩⟩
 ·simp [execOp,ho,run_makeMap,Result.andThen]
 ·exact MapRep.made ht w
theorem Only.turned {b:Nat} (h:w.mapTurned w' b):Only b w w':=by
 obtain ⟨h1,h2,h3,h4,h5⟩:=T0 h;exact ⟨h1,h2,h3,by omega,fun k _ hk=>h5 k hk⟩
theorem Goes.turned {j:Oid} {b cap sz:Nat} {mt:TypeId} {t:Ty} {es es':List (Int×t.D)} (hm:Mem0 G w0 ob σ K w) (hK:∀ n,K n->K' n) (hj:ob j=some (.map mt t es)) (e1:σ j=some (.at_ b cap sz)) (hg:w.mapTurned w' b) (hr:MapRep Tryz.prog mt t es' w' b) (u:Value) :
  Goes G w0 (Ae [(j,none),(j,some (.map mt t es'))] ob) K' σ (imm ob σ) w .any u w' :=
 ⟨_,Later.swap (o':=.map mt t es') hj e1 (.inl ⟨rfl,rfl,rfl⟩) (Only.turned hg),hm.swap hj e1 (.inl ⟨rfl,rfl,rfl⟩) (Only.turned hg) hK (hK _ (hm.gen _ _ e1)) (hm.cap _ _ _ _ e1) hr,trivial⟩
theorem Abw [IsP P] {o:Oper} {a:Act} {f:Nat->AV} {k:Nat} {v:AV} {us:List (Oid×Option Ob)} {mt:TypeId} {x y z:Operand} {x' y' z':Opd} (ho:o.op=.mapUpdate mt x y z) (h1:Opd.of x=some x') (h2:Opd.of y=some y') (h3:Opd.of z=some z')
  (he:Lo f ob mt x' y' z'=some (k,v,us)) (hm:Mem0 G w0 ob σ K w) (hK:∀ n,K n->K' n)
  (hf:∀ x∈o.op.operands,∀ y,Opd.of x=some y->AV.Rep σ (imm ob σ) w (y.ev f) (a.eval x)):Oper.does P o a w (Goes G w0 (Ae us ob) K' σ (imm ob σ) w v):=by
 have r1:=hf x (by simp [ho,Op.operands]) x' h1;have r2:=hf y (by simp [ho,Op.operands]) y' h2;have r3:=hf z (by simp [ho,Op.operands]) z' h3;have hP:=IsP.eq (P:=P);subst hP;unfold Lo at he;split at he
 ·rename_i j key hx hy;rw [hx] at r1;have c1:=(Gi r2 hy).1;have e3:=(Gi r2 hy).2;obtain ⟨b,cap,sz,e1,e2⟩:=r1;split at he
  ·rename_i mt' es hj;split at he
   ·rename_i n hz;rw [hz] at r3;have e4:a.eval z=.int .i64 n:=r3;split at he
    ·rename_i hc;obtain ⟨rfl,c2,c3⟩:=hc;simp only [Option.some.injEq,Prod.mk.injEq] at he;obtain ⟨_,rfl,rfl⟩:=he;have hr:MapRep Tryz.prog mt .int es w b:=hm.obs j _ _ hj e1;obtain ⟨w',hrun,hr',hg⟩:=hr.put c1 (x:=(n:Ty.int.D)) c3 (by unfold maxLen;omega);have hrun':(Instr.mapUpdate mt (.map (some b)) (kv (k3 Tryz.prog mt) key) (.int .i64 n)).run Tryz.prog w=.ok () w':=hrun;exact Oper.does_skip (by simp [execOp,ho,e2,e3,e4,hrun',Result.andThen]) (Goes.turned hm hK hj e1 hg hr' _)
    ·cases he
   ·cases he
  ·rename_i mt' es hj;split at he
   ·rename_i n hz;rw [hz] at r3;have e4:a.eval z=.bool n:=r3;split at he
    ·rename_i hc;obtain ⟨rfl,c2⟩:=hc;simp only [Option.some.injEq,Prod.mk.injEq] at he;obtain ⟨_,rfl,rfl⟩:=he;have hr:MapRep Tryz.prog mt .bool es w b:=hm.obs j _ _ hj e1;obtain ⟨w',hrun,hr',hg⟩:=hr.put c1 (x:=(n:Ty.bool.D)) trivial (by unfold maxLen;omega);have hrun':(Instr.mapUpdate mt (.map (some b)) (kv (k3 Tryz.prog mt) key) (.bool n)).run Tryz.prog w=.ok () w':=hrun;exact Oper.does_skip (by simp [execOp,ho,e2,e3,e4,hrun',Result.andThen]) (Goes.turned hm hK hj e1 hg hr' _)
    ·cases he
   ·cases he
  ·rename_i mt' es hj;split at he
   ·rename_i n m hz;rw [hz] at r3
    have e4:a.eval z=.agg #[.int .i64 n,.int .i64 m]:=by
     obtain ⟨vs,e,u1,us1,rfl,q1,u2,us2,rfl,q2,q3⟩:=r3;obtain rfl:us2=[]:=q3;obtain rfl:u1=.int .i64 n:=q1;obtain rfl:u2=.int .i64 m:=q2;exact e
    split at he
    ·rename_i hc;obtain ⟨rfl,c2,c3⟩:=hc;simp only [Option.some.injEq,Prod.mk.injEq] at he;obtain ⟨_,rfl,rfl⟩:=he;have hr:MapRep Tryz.prog mt (.pair .int .int) es w b:=hm.obs j _ _ hj e1;obtain ⟨w',hrun,hr',hg⟩:=hr.put c1 (x:=((n,m):(Ty.pair .int .int).D)) c3 (by unfold maxLen;omega);have hrun':(Instr.mapUpdate mt (.map (some b)) (kv (k3 Tryz.prog mt) key) (.agg #[.int .i64 n,.int .i64 m])).run Tryz.prog w=.ok () w':=hrun;exact Oper.does_skip (by simp [execOp,ho,e2,e3,e4,hrun',Result.andThen]) (Goes.turned hm hK hj e1 hg hr' _)
    ·cases he
   ·cases he
  ·cases he
 ·cases he
theorem Z8 [IsP P] {o:Oper} {a:Act} {f:Nat->AV} {k:Nat} {v:AV} {us:List (Oid×Option Ob)} {mt kt:TypeId} {x y:Operand} {x' y':Opd} {c:Call} (ho:o.op=.call c) (hcb:c.callee=.builtin .delete) (hca:c.args.toList=[x,y]) (hct:c.argTypes.toList=[mt,kt]) (hkt:Tn P mt=some kt) (h1:Opd.of x=some x') (h2:Opd.of y=some y')
  (he:Me f ob mt x' y'=some (k,v,us)) (hm:Mem0 G w0 ob σ K w) (hK:∀ n,K n->K' n)
  (hf:∀ x∈o.op.operands,∀ y,Opd.of x=some y->AV.Rep σ (imm ob σ) w (y.ev f) (a.eval x)):Oper.does P o a w (Goes G w0 (Ae us ob) K' σ (imm ob σ) w v):=by
 have hargs:c.args= #[x,y]:=by rw [← Array.toArray_toList (xs:=c.args),hca]
 have htys:c.argTypes= #[mt,kt]:=by rw [← Array.toArray_toList (xs:=c.argTypes),hct]
 have r1:=hf x (by simp [ho,Op.operands,Call.operands,hcb,hargs]) x' h1;have r2:=hf y (by simp [ho,Op.operands,Call.operands,hcb,hargs]) y' h2;have hP:=IsP.eq (P:=P);subst hP;unfold Me at he;split at he
 ·rename_i j key hx hy;rw [hx] at r1;have c1:=(Gi r2 hy).1;have e3:=(Gi r2 hy).2;obtain ⟨b,cap,sz,e1,e2⟩:=r1;split at he
  ·rename_i mt' t es hj;split at he
   ·rename_i hc;subst hc;simp only [Option.some.injEq,Prod.mk.injEq] at he;obtain ⟨_,rfl,rfl⟩:=he;have hr:MapRep Tryz.prog mt t es w b:=hm.obs j _ _ hj e1;obtain ⟨w',hrun,hr',hg⟩:=hr.del c1 kt (fun k2 e2 hu=>by unfold Tn at hkt;rw [hu] at hkt;exact osj hkt) o.type;exact Oper.does_value (v:=.tuple #[]) (by simp [execOp,ho,resolve,invoke,builtin,hcb,hargs,htys,e2,e3,hrun,Result.andThen]) (Goes.turned hm hK hj e1 hg hr' _)
   ·cases he
  ·cases he
 ·cases he
theorem Uy {o:Oper} {a:Act} {f:Nat->AV} {i:Oid} {q:Q} {k:Nat} {v:AV} {us:List (Oid×Option Ob)} (hc:Q.of P o=some q) (h:Ae0 f i q (k,v,us)) (hm:Mem0 G w0 ob σ K w) (hK:∀ n,K n->K' n) (hi:¬ K i.2) (hi':K' i.2)
  (hf:∀ x∈o.op.operands,∀ y,Opd.of x=some y->AV.Rep σ (imm ob σ) w (y.ev f) (a.eval x)):Oper.does P o a w (Goes G w0 (Ae us ob) K' σ (imm ob σ) w v):=by
 obtain ⟨e,e',u,b,x',y',q1,q2,n,c,rfl,hx,hy,⟨c1,c2,c3,c4⟩,hfl,hr⟩:=h
 have hop:∃ ty x y,o.op=.makeSlice ty x y/\J7 P ty=some (e,.slice u,b,[.nils])/\Opd.of x=some x'/\Opd.of y=some y':=by
  unfold Q.of at hc;split at hc
  ·cases hc
  ·split at hc
   all_goals try (cases hc;done)
   all_goals try ((repeat' split at hc) <;> first|(cases hc;done)|(simp only [Option.some.injEq,reduceCtorEq] at hc;done))
   ·rename_i t x y ho;split at hc
    ·cases hc
    ·rename_i x1 y1 h1 h2 h3;split at hc
     ·rename_i e1 u1 b1 zc1 hte;obtain ⟨rfl,rfl,rfl,rfl,rfl,rfl⟩:=Q.makeV.inj (osj hc);exact ⟨t,x,y,ho,hte,h2,h3⟩
     ·cases hc
    ·cases hc
   ·unfold Q.ofSlice at hc
    (repeat' split at hc) <;> first|(cases hc;done)|(simp only [Option.some.injEq,reduceCtorEq] at hc;done)
   ·unfold Q.ofCall at hc
    (repeat' split at hc) <;> first|(cases hc;done)|(simp only [Option.some.injEq,reduceCtorEq] at hc;done)
   ·unfold Q.ofBuild at hc
    (repeat' split at hc) <;> first|(cases hc;done)|(simp only [Option.some.injEq,reduceCtorEq] at hc;done)
   ·obtain ⟨_,_,hh⟩:=oms.1 hc;cases hh
   ·obtain ⟨_,_,hh⟩:=oms.1 hc;cases hh
 obtain ⟨ty,x,y,ho,hte,h2,h3⟩:=hop;have r1:=hf x (by simp [ho,Op.operands]) x' h2;have r2:=hf y (by simp [ho,Op.operands]) y' h3;rw [hx] at r1;rw [hy] at r2;have e1:a.eval x=.int q1 n:=r1;have e2:a.eval y=.int q2 c:=r2;obtain ⟨ht,inf,z,p1,p2,p4,p5,p3,p7,p8,p9⟩:=Fy (Fh hte).1;have hrun:=run_make (P:=P) w ty e inf z ht p1 p2 q1 q2 n c c1 c2 (by rw [p4];omega) oM;have hz1:z.cells.size=1:=by rw [p8];rfl
 have hs1:inf.size=1:=by rw [p3];rfl
 have hz:z.cells.toList=[.slice none 0 0]:=by
  have:AV.RepL σ (imm ob σ) w [.nils] z.cells.toList:=by rw [← p5];exact AV.of1_repL _
  obtain ⟨u0,us0,e0,h0,h0'⟩:=this;obtain rfl:us0=[]:=h0';rw [e0,show u0=.slice none 0 0 from h0]
 have hmade:(madeCells z.cells (c.toNat*inf.size)).toList=List.replicate c.toNat (.slice none 0 0):=by
  have:=Qv z.cells c.toNat;rw [hz1] at this;rw [hs1,this,hz]
  induction c.toNat with
  | zero=>rfl
  | succ m ih=>simp only [List.replicate_succ,List.flatten_cons,ih];rfl
 obtain ⟨rfl,hr2⟩:=Prod.mk.inj hr;have hb:Below w.heap.size w (w.alloc (.cells (madeCells z.cells (c.toNat*inf.size)) e)):=(Below.refl _ _).alloc (Nat.le_refl _) _
 have hg:=RV.goes (r:=⟨false,[(false,[.newM e e' u (List.replicate n.toNat [])])]⟩) (im0:=fun _=>False) (az:=[]) (vs:=[]) (u:=.slice (some ⟨w.heap.size,0,none⟩) n.toNat c.toNat) hm hb hK hi hi' rfl (fun ⟨d,hd,e⟩=>by simp [RV.leaves] at hd;subst hd;cases e)
  ⟨[(Loc.at_ w.heap.size c.toNat 1).val n.toNat],.at_ w.heap.size c.toNat 1 :: (List.replicate n.toNat .nil++[]),⟨.at_ w.heap.size c.toNat 1,List.replicate n.toNat .nil,[],[],List.replicate n.toNat (.slice none 0 0),by simp,rfl,⟨⟨by simp,hfl⟩,⟨?_,fun b c s h=>by cases h;rfl⟩,fun k xs l h1 h2=>?_⟩,rfl,rfl⟩,⟨⟨fun b c s _ c' s' hin=>by simp at hin,?_⟩,fun ⟨d,hd,e⟩=>by simp [RV.leaves] at hd;subst hd;cases e⟩,rfl⟩
 ·rw [← hr2] at hg;exact Oper.does_value (by simp [execOp,ho,e1,e2,hrun]) hg
 ·rw [List.length_replicate];refine ⟨by simp,.inr ⟨w.heap.size,c.toNat,madeCells z.cells (c.toNat*inf.size),rfl,Nat.le_refl _,by show (w.heap.push _)[w.heap.size]? =_;simp,by omega,by simp only [maxLen];omega,by simp [madeCells,hs1],?_⟩⟩;rw [hmade,Nat.mul_one,List.take_replicate,Nat.min_eq_left oM]
 ·rw [List.getElem?_replicate] at h1 h2;split at h1
  ·rename_i hlt;rw [if_pos hlt] at h2;obtain rfl:=osj h1;obtain rfl:=osj h2;exact ⟨by rw [List.getElem?_replicate,if_pos hlt];rfl,Ie _ _ _ _,fun b c s h=>by cases h⟩
  ·cases h1
 ·rw [List.append_nil]
  have:∀ m:Nat,Fe (List.replicate m Loc.nil):=by
   intro m
   induction m with
   | zero=>trivial
   | succ m ih=>exact ⟨fun b c s h=>(by cases h),ih⟩
  exact this _
theorem Yz [IsP P] {pure:Bool} {o:Oper} {a:Act} {q:Q} {f:Nat->AV} {obL:Oid->Option Ob} {i:Oid} {k:Nat} {v:AV} {us:List (Oid×Option Ob)} (hc:Q.of P o=some q) (he0:EvR P G pure f obL i q (k,v,us)) (hm:Mem0 G w0 ob σ K w) (hK:∀ n,K n->K' n) (hi:¬ K i.2) (hi':K' i.2)
  (hob:k≠0->∀ i o l,obL i=some o->σ i=some l->o.Rep w0.heap.size σ (imm ob σ) w l) (hE:k=2->∀ id o l,obL id=some o->σ id=some l->ob id=some o)
  (hf:∀ x∈o.op.operands,∀ y,Opd.of x=some y->AV.Rep σ (imm ob σ) w (y.ev f) (a.eval x)):Oper.does P o a w (Goes G w0 (Ae us ob) K' σ (imm ob σ) w v):=by
 rcases he0 with ((he|hl)|hmk)|⟨fo0,xs0,tys0,g0,caps0,rfl,hg,hcall⟩
 rotate_left
 rotate_left
 ·exact Uy hc hmk hm hK hi hi' hf
 ·unfold Q.of at hc;split at hc
  ·cases hc
  ·split at hc
   all_goals try (cases hc;done)
   all_goals try ((repeat' split at hc) <;> first|(cases hc;done)|(simp only [Option.some.injEq,reduceCtorEq] at hc;done))
   ·unfold Q.ofSlice at hc
    (repeat' split at hc) <;> first|(cases hc;done)|(simp only [Option.some.injEq,reduceCtorEq] at hc;done)
   ·rename_i c ho;unfold Q.ofCall at hc;split at hc
    ·rename_i fo hcb;split at hc
     ·rename_i fo' xs h1 h2;obtain ⟨rfl,rfl,rfl⟩:=Q.call.inj (osj hc);rcases hcall with ⟨hk,hcall⟩|⟨_,hk,hcall⟩
      ·exact Um ho hcb h1 hg h2 (X0 f caps0) hcall hm hK hi hi' (hob (by simp at hk;omega)) hf
      ·exact W1 ho hcb h1 hg h2 (X0 f caps0) hcall hm hK hi hi' (hE hk) hf
     ·cases hc
    all_goals ((repeat' split at hc) <;> first|(cases hc;done)|(simp only [Option.some.injEq,reduceCtorEq] at hc;done))
   ·unfold Q.ofBuild at hc
    (repeat' split at hc) <;> first|(cases hc;done)|(simp only [Option.some.injEq,reduceCtorEq] at hc;done)
   ·obtain ⟨_,_,hh⟩:=oms.1 hc;cases hh
   ·obtain ⟨_,_,hh⟩:=oms.1 hc;cases hh
 unfold Q.of at hc;split at hc
 ·rename_i q' hq;obtain rfl:=osj hc;simp only [ev] at he;split at he
  ·rename_i v' us' h;simp only [Option.some.injEq,Prod.mk.injEq] at he;obtain ⟨_,rfl,rfl⟩:=he;exact Aap hq h hm hK hi hi' hf
  ·split at he
   ·rename_i v' h;simp only [Option.some.injEq,Prod.mk.injEq] at he;obtain ⟨rfl,rfl,rfl⟩:=he;exact Aa3 hq h hm hK (hob (by simp)) hf
   ·cases he
 ·split at hc
  ·rename_i t x y ho;split at hc
   ·rename_i one m x' y' h1 h2 h3;obtain rfl:=osj hc;simp only [ev] at he;split at he
    ·rename_i v' us' h;simp only [Option.some.injEq,Prod.mk.injEq] at he;obtain ⟨rfl,rfl,rfl⟩:=he;exact Zz ho h1 h2 h3 (Ado (hE rfl) (hf x (by simp [ho,Op.operands]) x' h2) h) hm hK hf
    ·cases he
   ·cases hc
  ·rename_i t n parts ho;split at hc
   ·rename_i e u b zs h1 h2;split at hc
    ·rename_i hp;obtain rfl:=osj hc;obtain ⟨g1,g2⟩:=Jq h1;simp only [ev] at he;split at he
     ·rename_i v' us' h;simp only [Option.some.injEq,Prod.mk.injEq] at he;obtain ⟨rfl,rfl,rfl⟩:=he;exact W4 ho g1 g2 hp.1 h2 hp.2 h hm hK hi hi' hf
     ·cases he
    ·cases hc
   ·rename_i zs h1 h2;split at hc
    ·rename_i e u b zc hte;obtain ⟨g1,g2⟩:=Fh hte;split at hc
     ·rename_i hp;obtain rfl:=osj hc;simp only [ev] at he;split at he
      ·rename_i u';split at he
       ·rename_i h1z;split at he
        ·rename_i v' us' h;simp only [Option.some.injEq,Prod.mk.injEq] at he;obtain ⟨rfl,rfl,rfl⟩:=he;have hops:o.op.operands=(parts.toList.map (·.2)).toArray:=by rw [ho];rfl
         exact Wg ho (Fy g1).1 (Tc g1 h1z) hp.1 h2 (by have:=hp.2;rw [h1z] at this;omega) (Acp (hE rfl) h2 (fun x hx=>hf x (by rw [hops];simpa using hx)) h) hm hK hf
        ·cases he
       ·cases he
      ·cases he
     ·cases hc
    ·cases hc
   ·cases hc
  ·rename_i t x y ho;split at hc
   ·rename_i e u b x' y' h1 h2 h3;obtain rfl:=osj hc;obtain ⟨g1,g2⟩:=Jq h1;simp only [ev] at he;split at he
    ·rename_i v' us' h;simp only [Option.some.injEq,Prod.mk.injEq] at he;obtain ⟨rfl,rfl,rfl⟩:=he;exact Ux ho g1 g2 h2 h3 h hm hK hi hi' hf
    ·cases he
   ·rename_i x' y' h1 h2 h3;split at hc
    ·rename_i e u b zc hte;obtain rfl:=osj hc;obtain ⟨g1,g2⟩:=Fh hte;simp only [ev] at he;split at he
     ·rename_i v' us' h;simp only [Option.some.injEq,Prod.mk.injEq] at he;obtain ⟨rfl,rfl,rfl⟩:=he;exact Wn ho g1 h2 h3 h hm hK hi hi' hf
     ·cases he
    ·cases hc
   ·cases hc
  ·rename_i t x lo hi0 mx ho;unfold Q.ofSlice at hc;split at hc
   ·rename_i x' lo' hi1 mx' h0 h1 h2 h3;split at hc
    ·rename_i sz hsz;split at hc
     ·cases hc
     ·rename_i hmx;obtain rfl:=osj hc;simp only [ev] at he;split at he
      ·rename_i v' h;simp only [Option.some.injEq,Prod.mk.injEq] at he;obtain ⟨rfl,rfl,rfl⟩:=he;refine Tl ho hsz h0 h1 h2 h3 (fun hne e=>hmx ?_) h hm hK hf;cases mx with
       | none=>exact absurd rfl hne
       | some z=>simp [e]
      ·split at he
       ·rename_i v' us' h;simp only [Option.some.injEq,Prod.mk.injEq] at he;obtain ⟨rfl,rfl,rfl⟩:=he;refine Q6 ho hsz h0 h1 h2 h3 (fun hne e=>hmx ?_) (U1 (hE rfl) (hf x (by simp [ho,Op.operands]) x' h0) h) hm hK hi hi' hf;cases mx with
        | none=>exact absurd rfl hne
        | some z=>simp [e]
       ·cases he
    ·split at hc
     ·rename_i hu;split at hc
      ·cases hc
      ·rename_i hmx;obtain rfl:=osj hc;simp only [ev] at he;split at he
       ·rename_i v' h;simp only [Option.some.injEq,Prod.mk.injEq] at he;obtain ⟨rfl,rfl,rfl⟩:=he;have hmx':mx=none:=by cases mx <;> simp_all
        subst hmx';exact W0 ho hu h0 h1 h2 h hm hK hf
       ·cases he
     ·split at hc
      ·rename_i n hn;split at hc
       ·rename_i hnone;obtain ⟨rfl,rfl,rfl⟩:=hnone;obtain rfl:=osj hc;simp only [ev] at he;split at he
        ·rename_i v' h;simp only [Option.some.injEq,Prod.mk.injEq] at he;obtain ⟨rfl,rfl,rfl⟩:=he;exact Wh ho hn h0 h (hob (by simp)) hm hK hf
        ·cases he
       ·cases hc
      ·cases hc
   ·cases hc
  ·rename_i c ho;unfold Q.ofCall at hc;split at hc
   ·rename_i fo hcb;split at hc
    ·rename_i fo' xs h1 h2;obtain rfl:=osj hc;simp only [ev] at he;cases he
    ·cases hc
   ·rename_i hcb;split at hc
    ·rename_i x y t t' hca hct;split at hc
     ·rename_i htt;subst htt;split at hc
      ·rename_i e u b x' y' h1 h2 h3;obtain rfl:=osj hc;obtain ⟨g1,g2⟩:=Jq h1;have hargs:c.args= #[x,y]:=by rw [← Array.toArray_toList (xs:=c.args),hca]
       have htys:c.argTypes= #[t,t]:=by rw [← Array.toArray_toList (xs:=c.argTypes),hct]
       simp only [ev] at he;split at he
       ·rename_i v' us' h;simp only [Option.some.injEq,Prod.mk.injEq] at he;obtain ⟨hk,rfl,rfl⟩:=he;by_cases hne:x'.ev f=.nils
        ·exact Kk ho hcb hargs htys g1 g2 h2 h3 h (hob (by rw [← hk];split <;> simp)) (fun h=>absurd hne h) hm hK hi hi' hf
        ·have hk2:k=2:=by
          rw [← hk];split
          ·rename_i hx;exact absurd hx hne
          ·rfl
         exact Kk ho hcb hargs htys g1 g2 h2 h3 (Uj (hE hk2) (hf x (by simp [ho,Op.operands,Call.operands,hargs]) x' h2) (hf y (by simp [ho,Op.operands,Call.operands,hargs]) y' h3) h) hm.obs (fun _=>rfl) hm hK hi hi' hf
       ·cases he
      ·rename_i x' y' h1 h2 h3;split at hc
       ·rename_i e u b zc hte;obtain rfl:=osj hc;obtain ⟨g1,g2⟩:=Fh hte;have hargs:c.args= #[x,y]:=by rw [← Array.toArray_toList (xs:=c.args),hca]
        have htys:c.argTypes= #[t,t]:=by rw [← Array.toArray_toList (xs:=c.argTypes),hct]
        simp only [ev] at he
        have hk:k=1∨k=2:=by
         unfold Io at he
         (repeat' split at he) <;> first|(cases he;done)|(simp only [Option.some.injEq,Prod.mk.injEq] at he;omega)
        rcases hk with hk|hk
        ·exact Rr ho hcb hargs htys g1 g2.symm h2 h3 he (hob oM) (fun h=>by omega) hm hK hi hi' hf
        ·exact Rr ho hcb hargs htys g1 g2.symm h2 h3 (Zk (hE hk) (hf x (by simp [ho,Op.operands,Call.operands,hargs]) x' h2) (hf y (by simp [ho,Op.operands,Call.operands,hargs]) y' h3) he) hm.obs (fun _=>rfl) hm hK hi hi' hf
       ·cases hc
      ·cases hc
     ·cases hc
    ·cases hc
   ·rename_i hcb;split at hc
    ·rename_i x y t t' hca hct;split at hc
     ·rename_i x' y' h1 h2;split at hc
      ·rename_i hkt;obtain rfl:=osj hc;have hargs:c.args= #[x,y]:=by rw [← Array.toArray_toList (xs:=c.args),hca]
       simp only [ev] at he;exact Z8 ho hcb hca hct hkt h1 h2 (Acw (hE (O2 he)) (hf x (by simp [ho,Op.operands,Call.operands,hcb,hargs]) x' h1) he) hm hK hf
      ·cases hc
     ·cases hc
    ·cases hc
   ·rename_i hcb;split at hc
    ·rename_i x y hca;split at hc
     ·rename_i x' y' h1 h2;obtain rfl:=osj hc;have hargs:c.args= #[x,y]:=by rw [← Array.toArray_toList (xs:=c.args),hca]
      simp only [ev] at he;split at he
      ·rename_i v' h;simp only [Option.some.injEq,Prod.mk.injEq] at he;obtain ⟨rfl,rfl,rfl⟩:=he;exact Rk (mx:=true) ho hcb hargs h1 h2 h hm hK hf
      ·cases he
     ·cases hc
    ·cases hc
   ·rename_i hcb;split at hc
    ·rename_i x y hca;split at hc
     ·rename_i x' y' h1 h2;obtain rfl:=osj hc;have hargs:c.args= #[x,y]:=by rw [← Array.toArray_toList (xs:=c.args),hca]
      simp only [ev] at he;split at he
      ·rename_i v' h;simp only [Option.some.injEq,Prod.mk.injEq] at he;obtain ⟨rfl,rfl,rfl⟩:=he;exact Rk (mx:=false) ho hcb hargs h1 h2 h hm hK hf
      ·cases he
     ·cases hc
    ·cases hc
   ·rename_i hcb;split at hc
    ·rename_i x y t t' hca hct;split at hc
     ·rename_i x' y' h1 h2;split at hc
      ·rename_i hct';obtain rfl:=osj hc;have hargs:c.args= #[x,y]:=by rw [← Array.toArray_toList (xs:=c.args),hca]
       have htys:c.argTypes= #[t,t']:=by rw [← Array.toArray_toList (xs:=c.argTypes),hct]
       unfold Ae7 at hct';split at hct'
       ·rename_i e hu;simp only [ev] at he;split at he
        ·rename_i v' us' h;simp only [Option.some.injEq,Prod.mk.injEq] at he;obtain ⟨rfl,rfl,rfl⟩:=he;have r2:=hf y (by simp [ho,Op.operands,Call.operands,hargs]) y' h2;exact Uz ho hcb hargs htys hu (of_decide_eq_true hct') h1 h2 (Zl (u':=a.eval y) (hE rfl) (fun ys hys=>O6 (hE rfl) r2 hys) (hf x (by simp [ho,Op.operands,Call.operands,hargs]) x' h1) rfl h) hm hK hf
        ·cases he
       ·cases hct'
      ·cases hc
     ·cases hc
    ·cases hc
   ·cases hc
  ·rename_i t parts ho;unfold Q.ofBuild at hc;split at hc
   ·rename_i inf ps h1 h2;split at hc
    ·rename_i z hz;split at hc
     ·rename_i hok;obtain rfl:=osj hc;simp only [ev] at he;split at he
      ·rename_i v' h;simp only [Option.some.injEq,Prod.mk.injEq] at he;obtain ⟨rfl,rfl,rfl⟩:=he;exact Tb ho h1 hz hok h2 h hm hK hf
      ·cases he
     ·cases hc
    ·cases hc
   ·cases hc
  ·rename_i e ho;obtain ⟨t,h1,rfl⟩:=oms.1 hc;simp only [ev,Option.some.injEq,Prod.mk.injEq] at he;obtain ⟨rfl,rfl,rfl⟩:=he;exact Wt ho h1 hm hK hi hi'
  ·rename_i mt ho;obtain ⟨t,h1,rfl⟩:=oms.1 hc;simp only [ev,Option.some.injEq,Prod.mk.injEq] at he;obtain ⟨rfl,rfl,rfl⟩:=he;exact W8 ho h1 hm hK hi hi'
  ·rename_i t m x v ho;split at hc
   ·rename_i m' x' v' h1 h2 h3;obtain rfl:=osj hc;simp only [ev] at he;exact Abw ho h1 h2 h3 (Aa6 (hE (Qn he)) (hf m (by simp [ho,Op.operands]) m' h1) he) hm hK hf
   ·cases hc
  ·cases hc
 unfold evL at hl;split at hl
 ·split at hl
  ·rename_i v' us' h;simp only [Option.some.injEq,Prod.mk.injEq] at hl;obtain ⟨rfl,rfl,rfl⟩:=hl;unfold Q.of at hc;split at hc
   ·cases hc
   ·split at hc
    all_goals try (cases hc;done)
    ·((repeat' split at hc) <;> first|(cases hc;done)|(simp only [Option.some.injEq,reduceCtorEq] at hc;done))
    ·rename_i ho;split at hc
     ·(repeat' split at hc) <;> first|(cases hc;done)|(simp only [Option.some.injEq,reduceCtorEq] at hc;done)
     ·rename_i zs h1 h2;split at hc
      ·rename_i e u b zc hte;obtain ⟨g1,g2⟩:=Fh hte;split at hc
       ·rename_i hp;obtain ⟨rfl,rfl,rfl,rfl⟩:=Q.mkV.inj (osj hc);exact Acf ho g1 hp.1 h2 hp.2 h hm hK hi hi' hf
       ·cases hc
      ·cases hc
     ·cases hc
    ·((repeat' split at hc) <;> first|(cases hc;done)|(simp only [Option.some.injEq,reduceCtorEq] at hc;done))
    ·unfold Q.ofSlice at hc
     (repeat' split at hc) <;> first|(cases hc;done)|(simp only [Option.some.injEq,reduceCtorEq] at hc;done)
    ·unfold Q.ofCall at hc
     ((repeat' split at hc) <;> first|(cases hc;done)|(simp only [Option.some.injEq,reduceCtorEq] at hc;done))
    ·unfold Q.ofBuild at hc
     (repeat' split at hc) <;> first|(cases hc;done)|(simp only [Option.some.injEq,reduceCtorEq] at hc;done)
    ·obtain ⟨_,_,hh⟩:=oms.1 hc;cases hh
    ·obtain ⟨_,_,hh⟩:=oms.1 hc;cases hh
    ·((repeat' split at hc) <;> first|(cases hc;done)|(simp only [Option.some.injEq,reduceCtorEq] at hc;done))
  ·cases hl
 ·cases hl
end
end
section
open Go.RowKit Go.Deep
structure St where
 tm:Nat->AV
 ob:Oid->Option Ob
 gen:Nat
structure X where
 dst:Option Nat
 guard:Option (Nat×Bool)
 q:Q
abbrev Rec:=Nat×AV×List (Oid×Option Ob)
def Hm (d:Option Nat) (v:AV) (f:Nat->AV):Nat->AV :=
 match d with
 | some d=>upd f d v
 | none=>f
def gdv (c:AV) (b:Bool):Option Bool :=
 match c with
 | .bool c=>some (c==b)
 | .tup []=>some false
 | _=>none
noncomputable def Bi (n:Nat) (x:X) (f:Nat->AV) (ob:Oid->Option Ob):Option Rec :=
 match x.guard with
 | none=>ev f ob ((x.dst.getD 0,0),n) x.q
 | some (s,b)=>match gdv (f s) b with
  | some true=>ev f ob ((x.dst.getD 0,0),n) x.q
  | some false=>some (0,.tup [],[])
  | none=>none
def Et (P:Program) (G:World->Prop) (pure:Bool) (n:Nat) (x:X) (f:Nat->AV) (ob:Oid->Option Ob) (r:Rec):Prop :=
 match x.guard with
 | none=>EvR P G pure f ob ((x.dst.getD 0,0),n) x.q r
 | some (s,b)=>∃ c,gdv (f s) b=some c/\(if c=true then EvR P G pure f ob ((x.dst.getD 0,0),n) x.q r else r=(0,.tup [],[]))
def Ad6 (P:Program) (G:World->Prop) (g:Nat):Nat->List X->(Nat->AV)->(Oid->Option Ob)->List Rec->(Nat->AV)->(Oid->Option Ob)->Prop
 | _,[],f,ob,rs,f',ob'=>rs=[]/\f'=f/\ob'=ob
 | k,x :: xs,f,ob,rs,f',ob'=>∃ r rs',rs=r :: rs'/\Et P G false (g+k) x f ob r/\Ad6 P G g (k+1) xs (Hm x.dst r.2.1 f) (Ae r.2.2 ob) rs' f' ob'
def Gg:AV->List Oid
 | .own i _ _ _=>[i]
 | .elt i _ _=>[i]
 | .sla i _ _=>[i]
 | .box i _=>[i]
 | .mp i=>[i]
 | _=>[]
def Re (ob:Oid->Option Ob):Nat->AV->List Oid
 | 0,_=>[]
 | n+1,c=>match c with
  | .own i _ _ _=>match ob i with
   | some (.vec _ _ _ cs)=>i :: cs.flatMap Gg
   | _=>[i]
  | .elt i _ _=>[i]
  | .sla i _ _=>[i]
  | .mp i=>[i]
  | .box i _=>match ob i with
   | some (.cells _ cs)=>i :: cs.flatMap (Re ob n)
   | _=>[i]
  | .agg cs=>cs.flatMap (Re ob n)
  | .tup cs=>cs.flatMap (Re ob n)
  | .fn _ cs=>cs.flatMap (Re ob n)
  | .ref cs=>cs.flatMap (Re ob n)
  | _=>[]
def rdX (f:Nat->AV) (ob:Oid->Option Ob) (x:X):List Oid :=
 match x.q with
 | .call fo xs _=>(fo :: xs).flatMap fun y=>Re ob 8 (y.ev f)
 | .i (.ld _ _ x)=>Gg (x.ev f)
 | .i (.look _ _ x _)=>Gg (x.ev f)
 | .i (.lenM _ x)=>Gg (x.ev f)
 | .i (.b2s x)=>Gg (x.ev f)
 | .upd _ m _ _=>Gg (m.ev f)
 | .del _ m _=>Gg (m.ev f)
 | .st _ _ x _=>Gg (x.ev f)
 | .append _ _ _ x y=>Gg (x.ev f)++Gg (y.ev f)
 | .slice _ x _ _ (some _)=>Gg (x.ev f)
 | .slA _ x=>Gg (x.ev f)
 | .copy x y=>Gg (x.ev f)++Gg (y.ev f)
 | .mkV _ _ _ xs=>xs.flatMap fun y=>Gg (y.ev f)
 | .appV _ _ _ x y=>Gg (x.ev f)++Gg (y.ev f)
 | _=>[]
def only (L:List Oid) (ob:Oid->Option Ob) (i:Oid):Option Ob:=if i∈L then ob i else none
theorem Zp {L:List Oid} {ob:Oid->Option Ob} {i:Oid} {o:Ob} (h:only L ob i=some o):i∈L/\ob i=some o:=by
 unfold only at h;split at h
 ·rename_i hi;exact ⟨hi,h⟩
 ·cases h
def Zb (P:Program) (G:World->Prop) (g:Nat):Nat->List X->(Nat->AV)->(Oid->Option Ob)->List Rec->List (List Oid)->(Nat->AV)->(Oid->Option Ob)->Prop
 | _,[],f,ob,rs,ds,f',ob'=>rs=[]/\ds=[]/\f'=f/\ob'=ob
 | k,x :: xs,f,ob,rs,ds,f',ob'=>∃ r rs' ds',rs=r :: rs'/\ds=rdX f ob x :: ds'/\Et P G false (g+k) x f (only (rdX f ob x) ob) r/\Zb P G g (k+1) xs (Hm x.dst r.2.1 f) (Ae r.2.2 ob) rs' ds' f' ob'
def Aej (N:Nat) (o:Oper):Bool :=
 match o.dst with
 | some d=>decide (d<N)
 | none=>true
def X.of (P:Program) (N:Nat) (ops:Array Oper) (o:Oper):Option X :=
 match Q.of P o with
 | some q=>if Aej N o=true then
   match o.guard with
   | none=>some ⟨o.dst,none,q⟩
   | some (j,b)=>match (ops[j]?).bind (·.dst) with
    | some s=>some ⟨o.dst,some (s,b),q⟩
    | none=>none
  else none
 | none=>none
def X.ofL (P:Program) (N:Nat) (ops:Array Oper):List Oper->Option (List X)
 | []=>some []
 | o :: os=>match X.of P N ops o,X.ofL P N ops os with
  | some x,some xs=>some (x :: xs)
  | _,_=>none
section
variable {P:Program} {G:World->Prop} {w0 w w':World} {N:Nat}
structure Mq where
 σ:Oid->Option Loc
 im:Nat->Prop
 w:World
 zero:∀ i l,σ i=some l->i.2=0
def TmB (B:Mq) (σ:Oid->Option Loc) (im:Nat->Prop) (w:World) (f:Nat->AV) (a:Act):Prop:=TmRep σ im w f a/\Later B.σ σ B.im im B.w w
structure Ji (G:World->Prop) (w0:World) (B:Mq) (N:Nat) (S:St) (a:Act) (w:World):Prop where
 ex:∃ σ,Mem0 G w0 S.ob σ (·<S.gen) w/\TmB B σ (imm S.ob σ) w S.tm a
 size:a.tmps.size=N
 defers:a.defers=[]
 obg:∀ i,S.ob i≠none->i.2<S.gen
theorem TmRep.put {σ:Oid->Option Loc} {im:Nat->Prop} {f:Nat->AV} {a:Act} {d:Option Nat} {v:AV} {u:Value} (h:TmRep σ im w f a) (hv:AV.Rep σ im w v u) (hd:∀ x,d=some x->x<a.tmps.size):TmRep σ im w (Hm d v f) (a.put d u):=by
 intro t;cases d with
 | none=>exact h t
 | some x =>
  simp only [Hm,upd,Act.put];split
  ·rename_i e;subst e;rw [Array.getD_eq_getD_getElem?,Array.getElem?_setIfInBounds_self_of_lt (hd _ rfl)];exact hv
  ·rename_i e;rw [Array.getD_eq_getD_getElem?,Array.getElem?_setIfInBounds_ne (fun h=>e h.symm),← Array.getD_eq_getD_getElem?];exact h t
theorem TmRep.later {σ σ':Oid->Option Loc} {im im':Nat->Prop} {f:Nat->AV} {a:Act} (h:TmRep σ im w f a) (hL:Later σ σ' im im' w w'):TmRep σ' im' w' f a:=fun t=>AV.Rep.later hL _ _ (h t)
theorem TmRep.opd {σ:Oid->Option Loc} {im:Nat->Prop} {f:Nat->AV} {a:Act} (h:TmRep σ im w f a) {x:Operand} {y:Opd} (hy:Opd.of x=some y):AV.Rep σ im w (y.ev f) (a.eval x):=Opd.rep hy fun t _=>h t
theorem TmB.put {B:Mq} {σ:Oid->Option Loc} {im:Nat->Prop} {f:Nat->AV} {a:Act} {d:Option Nat} {v:AV} {u:Value} (h:TmB B σ im w f a) (hv:AV.Rep σ im w v u) (hd:∀ x,d=some x->x<a.tmps.size):TmB B σ im w (Hm d v f) (a.put d u):=⟨h.1.put hv hd,h.2⟩
theorem TmB.later {B:Mq} {σ σ':Oid->Option Loc} {im im':Nat->Prop} {f:Nat->AV} {a:Act} (h:TmB B σ im w f a) (hL:Later σ σ' im im' w w'):TmB B σ' im' w' f a:=⟨h.1.later hL,h.2.trans hL⟩
theorem TmB.opd {B:Mq} {σ:Oid->Option Loc} {im:Nat->Prop} {f:Nat->AV} {a:Act} (h:TmB B σ im w f a) {x:Operand} {y:Opd} (hy:Opd.of x=some y):AV.Rep σ im w (y.ev f) (a.eval x):=h.1.opd hy
theorem Wq {σ:Oid->Option Loc} {im:Nat->Prop} {f:Nat->AV} {a:Act} {ops:Array Oper} {o:Oper} {j s:Nat} {b c:Bool} (hg:o.guard=some (j,b)) (hs:(ops[j]?).bind (·.dst)=some s) (hf:AV.Rep σ im w (f s) (a.tmps.getD s undef)) (hc:f s=.bool c):Region.wanted o (yielded ops a.tmps)=(c==b):=by
 rw [hc] at hf;have e:a.tmps.getD s undef=.bool c:=hf
 have e2:a.tmps[s]? =some (.bool c):=by
  rw [Array.getD_eq_getD_getElem?] at e;cases hq:a.tmps[s]? with
  | none=>rw [hq] at e;simp [undef] at e
  | some u=>rw [hq] at e;simp at e;rw [e]
 simp [Region.wanted,hg,yielded,hs,e2]
theorem Rj {σ:Oid->Option Loc} {im:Nat->Prop} {f:Nat->AV} {a:Act} {ops:Array Oper} {o:Oper} {j s:Nat} {b c:Bool} (hg:o.guard=some (j,b)) (hs:(ops[j]?).bind (·.dst)=some s) (hf:AV.Rep σ im w (f s) (a.tmps.getD s undef)) (hc:gdv (f s) b=some c):Region.wanted o (yielded ops a.tmps)=c:=by
 unfold gdv at hc;split at hc
 ·rename_i c' h;obtain rfl:=osj hc;exact Wq hg hs hf h
 ·rename_i h;obtain rfl:=osj hc;rw [h] at hf;obtain ⟨vs,e,hl⟩:=hf;obtain rfl:vs=[]:=hl
  have:yielded ops a.tmps j=none:=by
   unfold yielded;rw [hs];simp only [obs];rw [Array.getD_eq_getD_getElem?] at e;cases hq:a.tmps[s]? with
   | none=>rfl
   | some u=>rw [hq] at e;simp at e;rw [e]
  simp [Region.wanted,hg,this]
 ·cases hc
theorem Afz {f:Nat->AV} {ob:Oid->Option Ob} {i:Oid} {q:Q} {r:Rec} (h:ev f ob i q=some r):∀ u∈r.2.2,(r.1=2/\(ob u.1≠none∨u.1.2=i.2))∨(r.1=1/\u.1.2=i.2):=by
 intro u hu;unfold ev at h;split at h
 ·split at h
  ·rename_i v us he;obtain rfl:=osj h
   have hN:us=[]∨u.1=i:=by
    unfold evN at he
    (repeat' split at he) <;> first
     | (cases he;done)
     | (obtain ⟨_,rfl⟩:=Prod.mk.inj (osj he);first|exact .inl rfl|(refine .inr ?_;obtain rfl:=List.mem_singleton.1 hu;rfl))
     | (obtain ⟨_,_,hh⟩:=oms.1 he;obtain ⟨_,rfl⟩:=Prod.mk.inj hh;exact .inl rfl)
   rcases hN with rfl|e
   ·cases hu
   ·refine .inr ⟨?_,by rw [e]⟩;cases us with
    | nil=>cases hu
    | cons _ _=>rfl
  ·split at h
   ·obtain rfl:=osj h;cases hu
   ·cases h
 ·split at h
  ·rename_i v us he;obtain rfl:=osj h;refine .inl ⟨rfl,.inl ?_⟩;unfold U7 at he;split at he
   ·split at he
    ·rename_i hj;obtain ⟨_,_,hh⟩:=oms.1 he;obtain ⟨_,rfl⟩:=Prod.mk.inj hh;rcases List.mem_cons.1 hu with rfl|hu
     ·simp [hj]
     ·obtain rfl:=List.mem_singleton.1 hu;simp [hj]
    ·cases he
   ·split at he
    ·rename_i hj;split at he
     ·split at he
      ·split at he
       ·obtain ⟨_,rfl⟩:=Prod.mk.inj (osj he);rcases List.mem_cons.1 hu with rfl|hu
        ·simp [hj]
        ·obtain rfl:=List.mem_singleton.1 hu;simp [hj]
       ·cases he
      ·cases he
     ·cases he
    ·rename_i hj;obtain ⟨_,_,hh⟩:=oms.1 he;obtain ⟨_,rfl⟩:=Prod.mk.inj hh;rcases List.mem_cons.1 hu with rfl|hu
     ·simp [hj]
     ·obtain rfl:=List.mem_singleton.1 hu;simp [hj]
    ·cases he
   ·cases he
  ·cases h
 ·split at h
  ·rename_i v us he;obtain rfl:=osj h;unfold Yb at he;split at he
   ·obtain ⟨_,rfl⟩:=Prod.mk.inj (osj he);obtain rfl:=List.mem_singleton.1 hu;exact .inr ⟨rfl,rfl⟩
   ·cases he
  ·cases h
 ·split at h
  ·rename_i v us he;obtain rfl:=osj h;unfold Pk at he;split at he
   ·split at he
    ·obtain ⟨_,rfl⟩:=Prod.mk.inj (osj he);obtain rfl:=List.mem_singleton.1 hu;exact .inr ⟨rfl,rfl⟩
    ·cases he
   ·cases he
  ·cases h
 ·split at h
  ·rename_i x y v us he;obtain rfl:=osj h;unfold F7 at he;split at he
   ·split at he
    ·rename_i hx;split at he
     ·obtain ⟨_,rfl⟩:=Prod.mk.inj (osj he);obtain rfl:=List.mem_singleton.1 hu;refine .inr ⟨?_,rfl⟩;simp only [hx]
     ·cases he
    ·rename_i hx;split at he
     ·rename_i hj;split at he
      ·split at he
       ·obtain ⟨_,rfl⟩:=Prod.mk.inj (osj he);refine .inl ⟨by simp only [hx],?_⟩;rcases List.mem_cons.1 hu with rfl|hu
        ·exact .inl (by rw [hj];simp)
        ·obtain rfl:=List.mem_singleton.1 hu;exact .inr rfl
       ·cases he
      ·cases he
     ·cases he
    ·cases he
   ·cases he
  ·cases h
 ·split at h
  ·obtain rfl:=osj h;cases hu
  ·split at h
   ·rename_i v us he;obtain rfl:=osj h;refine .inl ⟨rfl,?_⟩;unfold Gh at he;split at he
    ·split at he
     ·rename_i hj _ _ _;split at he
      ·split at he
       ·obtain ⟨_,rfl⟩:=Prod.mk.inj (osj he);rcases List.mem_cons.1 hu with rfl|hu
        ·exact .inl (by rw [hj];simp)
        ·obtain rfl:=List.mem_singleton.1 hu;exact .inr rfl
       ·cases he
      ·cases he
     ·cases he
    ·cases he
   ·cases h
 ·split at h
  ·obtain rfl:=osj h;cases hu
  ·cases h
 ·cases h
 ·split at h
  ·obtain rfl:=osj h;cases hu
  ·cases h
 ·split at h
  ·obtain rfl:=osj h;cases hu
  ·cases h
 ·split at h
  ·split at h
   ·split at h
    ·rename_i v us he;obtain rfl:=osj h;exact .inl ⟨rfl,.inl (Xr he u hu)⟩
    ·cases h
   ·cases h
  ·cases h
 ·split at h
  ·rename_i v us he;obtain rfl:=osj h;unfold Om at he;split at he
   ·split at he
    ·obtain ⟨_,rfl⟩:=Prod.mk.inj (osj he);obtain rfl:=List.mem_singleton.1 hu;exact .inr ⟨rfl,rfl⟩
    ·cases he
   ·cases he
  ·cases h
 ·unfold Io at h;split at h
  ·split at h
   ·split at h
    ·obtain rfl:=osj h;obtain rfl:=List.mem_singleton.1 hu;exact .inr ⟨rfl,rfl⟩
    ·cases h
   ·split at h
    ·rename_i hj;split at h
     ·obtain rfl:=osj h;refine .inl ⟨rfl,?_⟩;rcases List.mem_cons.1 hu with rfl|hu
      ·exact .inl (by rw [hj];simp)
      ·obtain rfl:=List.mem_singleton.1 hu;exact .inr rfl
     ·cases h
    ·cases h
   ·cases h
  ·cases h
 ·obtain rfl:=osj h;obtain rfl:=List.mem_singleton.1 hu;exact .inr ⟨rfl,rfl⟩
 ·obtain rfl:=osj h;obtain rfl:=List.mem_singleton.1 hu;exact .inr ⟨rfl,rfl⟩
 ·unfold Lo at h;split at h
  ·split at h
   ·rename_i hj;split at h
    ·split at h
     ·obtain rfl:=osj h;refine .inl ⟨rfl,.inl ?_⟩;rcases List.mem_cons.1 hu with rfl|hu
      ·simp [hj]
      ·obtain rfl:=List.mem_singleton.1 hu;simp [hj]
     ·cases h
    ·cases h
   ·rename_i hj;split at h
    ·split at h
     ·obtain rfl:=osj h;refine .inl ⟨rfl,.inl ?_⟩;rcases List.mem_cons.1 hu with rfl|hu
      ·simp [hj]
      ·obtain rfl:=List.mem_singleton.1 hu;simp [hj]
     ·cases h
    ·cases h
   ·rename_i hj;split at h
    ·split at h
     ·obtain rfl:=osj h;refine .inl ⟨rfl,.inl ?_⟩;rcases List.mem_cons.1 hu with rfl|hu
      ·simp [hj]
      ·obtain rfl:=List.mem_singleton.1 hu;simp [hj]
     ·cases h
    ·cases h
   ·cases h
  ·cases h
 ·unfold Me at h;split at h
  ·split at h
   ·rename_i hj;split at h
    ·obtain rfl:=osj h;refine .inl ⟨rfl,.inl ?_⟩;rcases List.mem_cons.1 hu with rfl|hu
     ·simp [hj]
     ·obtain rfl:=List.mem_singleton.1 hu;simp [hj]
    ·cases h
   ·cases h
  ·cases h
 ·split at h
  ·obtain rfl:=osj h;cases hu
  ·cases h
 ·split at h
  ·rename_i v us he;obtain rfl:=osj h;refine .inl ⟨rfl,.inl ?_⟩;unfold K7 at he;split at he
   ·split at he
    ·split at he
     ·rename_i hj;split at he
      ·split at he
       ·split at he
        ·split at he
         ·obtain ⟨_,rfl⟩:=Prod.mk.inj (osj he);rcases List.mem_cons.1 hu with rfl|hu
          ·simp [hj]
          ·obtain rfl:=List.mem_singleton.1 hu;simp [hj]
         ·cases he
        ·cases he
       ·cases he
      ·cases he
     ·cases he
    ·cases he
   ·split at he
    ·split at he
     ·rename_i hj;split at he
      ·obtain ⟨_,rfl⟩:=Prod.mk.inj (osj he);rcases List.mem_cons.1 hu with rfl|hu
       ·simp [hj]
       ·obtain rfl:=List.mem_singleton.1 hu;simp [hj]
      ·cases he
     ·cases he
    ·cases he
   ·cases he
  ·cases h
theorem Tg {pure:Bool} {f:Nat->AV} {ob:Oid->Option Ob} {i:Oid} {q:Q} {r:Rec} (h:EvR P G pure f ob i q r):∀ u∈r.2.2,(r.1=2/\(ob u.1≠none∨u.1.2=i.2))∨(r.1=1/\u.1.2=i.2):=by
 have key:∀ (u:Oid×Option Ob) {az:List AV} (rs:List RL) (j:Nat),u∈(RL.out (Ev i) az j rs).2->u.1.2=i.2:=by
  intro u az rs
  induction rs with
  | nil=>intro j h;cases h
  | cons l rs ih =>
   intro j h;cases l with
   | sc c=>exact ih j h
   | new e t xs =>
    rcases List.mem_cons.1 h with rfl|h
    ·rfl
    ·exact ih (j+1) h
   | newM e e' t xss =>
    rcases List.mem_cons.1 h with rfl|h
    ·rfl
    ·rcases List.mem_append.1 h with h|h
     ·obtain ⟨x,_,rfl⟩:=List.mem_map.1 h;rfl
     ·exact ih (j+1) h
   | arg _ _=>exact ih j h
   | argS _ _ _ _ _=>exact ih j h
   | frz _=>exact ih j h
   | imm _=>exact ih j h
 rcases h with ((h|h)|⟨_,_,_,_,_,_,_,_,_,_,_,_,_,_,_,hmk⟩)|⟨_,_,_,_,_,_,_,⟨hk,_,args,rv,_,_,hh⟩|⟨_,hk,⟨_,θ,args,ol,us,v0,_,e2,_,_,_,e4,e5⟩|⟨_,v0,us,_,e4,e5⟩⟩⟩
 ·exact Afz h
 ·intro u hu;unfold evL at h;split at h
  ·split at h
   ·rename_i v us he;obtain rfl:=osj h;unfold Sc at he;split at he
    ·obtain ⟨_,rfl⟩:=Prod.mk.inj (osj he);obtain rfl:=List.mem_singleton.1 hu;exact .inr ⟨rfl,rfl⟩
    ·cases he
   ·cases h
  ·cases h
 ·subst hmk;exact fun u hu=>.inr ⟨rfl,key u _ _ hu⟩
 ·intro u hu;rw [← hh] at hu;exact .inr ⟨hk,key u _ _ hu⟩
 ·intro u hu;rw [e5] at hu;refine .inl ⟨hk,?_⟩
  have hold:∀ j,j∈nmL ol->ob (θ j)≠none:=by
   intro j hj;obtain ⟨q,hq,rfl⟩:=List.mem_map.1 hj;rw [e2 q hq];simp
  rcases List.mem_append.1 hu with hu|hu
  ·obtain ⟨q,hq,rfl⟩:=List.mem_map.1 hu;exact .inl (hold _ (List.mem_map.2 ⟨q,hq,rfl⟩))
  ·obtain ⟨q,hq,rfl⟩:=List.mem_map.1 hu;by_cases h0:q.1.2=0
   ·refine .inl ?_;have hm:=(e4 q.1 (List.mem_map.2 ⟨q,hq,rfl⟩)).resolve_left (fun h=>h h0);simp only [Bk,if_pos h0];exact hold _ hm
   ·refine .inr ?_;simp only [Bk,if_neg h0]
 ·intro u hu;rw [e5] at hu;refine .inl ⟨hk,.inr ?_⟩;rcases List.mem_append.1 hu with hu|hu
  ·cases hu
  ·obtain ⟨q,hq,rfl⟩:=List.mem_map.1 hu;have h0:=e4 q.1 (List.mem_map.2 ⟨q,hq,rfl⟩);simp only [Bk,if_neg h0]
theorem Xw [IsP P] {B:Mq} {ops:Array Oper} {Q':Exit->Act->World->Prop} {S0:St}:∀ (os:List Oper) (xs:List X) (k:Nat) (f:Nat->AV) (ob:Oid->Option Ob) (rs:List Rec) (f':Nat->AV) (ob':Oid->Option Ob) (a:Act) (w:World),
  X.ofL P N ops os=some xs->Ad6 P G S0.gen k xs f ob rs f' ob'->(∃ σ,Mem0 G w0 ob σ (·<S0.gen+k) w/\TmB B σ (imm ob σ) w f a)->a.tmps.size=N->a.defers=[]->(∀ i,ob i≠none->i.2<S0.gen+k) ->
  (∀ a' w',Ji G w0 B N ⟨f',ob',S0.gen+k+os.length⟩ a' w'->Q' .normal a' w')->wpList P ops Q' os a w
 | [],xs,k,f,ob,rs,f',ob',a,w,hx,hr,hm,hsz,hd,hg,hQ=>by
  obtain rfl:[]=xs:=osj hx;obtain ⟨_,rfl,rfl⟩:=hr;exact hQ a w ⟨hm,hsz,hd,hg⟩
 | o :: os,xs,k,f,ob,rs,f',ob',a,w,hx,hr,⟨σ,hm,hf⟩,hsz,hd,hg,hQ=>by
  simp only [X.ofL] at hx;split at hx
  ·rename_i x xs' h1 h2;obtain rfl:=osj hx;obtain ⟨r,rs',rfl,hst,hrun⟩:=hr
   ··skip
     have go:∀ a' w',(∃ σ,Mem0 G w0 (Ae r.2.2 ob) σ (·<S0.gen+(k+1)) w'/\TmB B σ (imm (Ae r.2.2 ob) σ) w' (Hm x.dst r.2.1 f) a')->a'.tmps.size=N->a'.defers=[]->(∀ i,Ae r.2.2 ob i≠none->i.2<S0.gen+(k+1))->wpList P ops Q' os a' w':=fun a' w' q1 q2 q3 q4 =>
      Xw os xs' (k+1) _ _ rs' f' ob' a' w' h2 hrun q1 q2 q3 q4 (fun a'' w'' hq=>hQ a'' w'' (by
       have:S0.gen+(k+1)+os.length=S0.gen+k+(o :: os).length:=by simp only [List.length_cons];omega
       rw [← this];exact hq))
     have hput:∀ (d:Option Nat) (u:Value),(a.put d u).tmps.size=N/\(a.put d u).defers=[]:=by
      intro d u;cases d <;> simp [Act.put,hsz,hd]
     have hobg:∀ i,Ae r.2.2 ob i≠none->(∀ u∈r.2.2,ob u.1≠none∨u.1.2=S0.gen+k)->i.2<S0.gen+(k+1):=by
      intro i hi hu;by_cases hex:∃ u∈r.2.2,u.1=i
      ·obtain ⟨u,hu',rfl⟩:=hex;rcases hu u hu' with h|h
       ·have:=hg _ h;omega
       ·omega
      ·rw [Cd (fun u hu e=>hex ⟨u,hu,e⟩)] at hi;have:=hg i hi;omega
     unfold X.of at h1;split at h1
     ·rename_i q hq;split at h1
      ·rename_i hdst
       have hdb:∀ d,o.dst=some d->d<a.tmps.size:=by
        intro d e;unfold Aej at hdst;rw [e] at hdst;rw [hsz];exact of_decide_eq_true hdst
       have doit:∀ (h:EvR P G false f ob ((o.dst.getD 0,0),S0.gen+k) q r) (hxd:x.dst=o.dst),o.wp P a w (wpList P ops Q' os) Q':=by
        intro h hxd;have:=Yz (a:=a) (w:=w) (K':=(·<S0.gen+(k+1))) hq h hm (fun n hn=>by omega) (by simp) (by simp) (fun _ i o l h1 h2=>hm.obs i o l h1 h2) (fun _ _ _ _ h _=>h) (fun z _ y hy=>hf.opd hy);refine this _ _ (fun u w' hgo=>?_);obtain ⟨σ',hL,hM,hR⟩:=hgo;refine go _ _ ⟨σ',hM,?_⟩ (hput _ _).1 (hput _ _).2 (fun i hi=>hobg i hi (fun u hu=>?_))
        ·rw [hxd];exact (hf.later hL).put hR hdb
        ·rcases Tg h u hu with ⟨_,h⟩|⟨_,h⟩
         ·exact h
         ·exact .inr h
       split at h1
       ·rename_i hgd;obtain rfl:=osj h1;unfold wpList;rw [if_pos (by simp [Region.wanted,hgd])];exact .inl (doit hst rfl)
       ·rename_i j b hgd;split at h1
        ·rename_i s hs;obtain rfl:=osj h1;obtain ⟨c,hc,hst⟩:=hst
         ·skip
          have hw:=Rj (ops:=ops) hgd hs (hf.1 s) hc;unfold wpList;rw [hw];split at hst
          ·rename_i hcb;rw [if_pos hcb];exact .inl (doit hst rfl)
          ·rename_i hcb;rw [if_neg hcb];subst hst;exact go _ _ ⟨σ,hm.wide (fun n hn=>by omega),hf.put ⟨[],rfl,rfl⟩ hdb⟩ (hput _ _).1 (hput _ _).2 (fun i hi=>by have:=hg i hi;omega)
        ·cases h1
      ·cases h1
     ·cases h1
  ·cases hx
end
end
section
open Go.RowKit Go.Deep
def Fq (p:Nat->Bool):Nat->List X->List Rec->(Nat->AV)->(Nat->AV)
 | k,x :: xs,r :: rs,f=>Fq p (k+1) xs rs (if p k then Hm x.dst r.2.1 f else f)
 | _,_,_,f=>f
def Er (p:Nat->Bool):Nat->List Rec->(Oid->Option Ob)->(Oid->Option Ob)
 | k,r :: rs,ob=>Er p (k+1) rs (if p k then Ae r.2.2 ob else ob)
 | _,[],ob=>ob
theorem Ml {p:Nat->Bool}:∀ (k:Nat) (xs:List X) (rs:List Rec) (f:Nat->AV),(∀ i,k<=i->p i=false)->Fq p k xs rs f=f
 | _,[],_,_,_=>by simp [Fq]
 | _,_ :: _,[],_,_=>rfl
 | k,x :: xs,r :: rs,f,h=>by
  simp only [Fq,h k (Nat.le_refl _),Bool.false_eq_true,if_false];exact Ml (k+1) xs rs f (fun i hi=>h i oM)
theorem J5 {p:Nat->Bool}:∀ (k:Nat) (rs:List Rec) (ob:Oid->Option Ob),(∀ i,k<=i->p i=false)->Er p k rs ob=ob
 | _,[],_,_=>rfl
 | k,r :: rs,ob,h=>by
  simp only [Er,h k (Nat.le_refl _),Bool.false_eq_true,if_false];exact J5 (k+1) rs ob (fun i hi=>h i oM)
theorem M7 {P:Program} {G:World->Prop} {g:Nat}:∀ (xs:List X) (k:Nat) (f:Nat->AV) (ob:Oid->Option Ob) (rs:List Rec) (ds:List (List Oid)) (f':Nat->AV) (ob':Oid->Option Ob),Zb P G g k xs f ob rs ds f' ob' ->
  xs.length=rs.length/\xs.length=ds.length/\f'=Fq (fun _=>true) k xs rs f/\ob'=Er (fun _=>true) k rs ob /\
  ∀ j x r,xs[j]? =some x->rs[j]? =some r->∃ d,ds[j]? =some d/\Et P G false (g+(k+j)) x (Fq (fun m=>decide (m<k+j)) k xs rs f) (only d (Er (fun m=>decide (m<k+j)) k rs ob)) r
 | [],k,f,ob,rs,ds,f',ob',h=>by
  obtain ⟨rfl,rfl,rfl,rfl⟩:=h;exact ⟨rfl,rfl,rfl,rfl,fun j x r h=>by simp at h⟩
 | x :: xs,k,f,ob,rs,ds,f',ob',h=>by
  obtain ⟨r,rs',ds',rfl,rfl,hst,hrun⟩:=h
  ··skip
    obtain ⟨h1,h1',h2,h3,h4⟩:=M7 xs (k+1) _ _ rs' ds' f' ob' hrun;refine ⟨by simp [h1],by simp [h1'],by simpa [Fq] using h2,by simpa [Er] using h3,fun j y s hy hs=>?_⟩;cases j with
    | zero =>
     simp at hy hs;subst hy hs;refine ⟨_,rfl,?_⟩;rw [Ml k _ _ _ (fun i hi=>by simp;omega),J5 k _ _ (fun i hi=>by simp;omega)];exact hst
    | succ j =>
     obtain ⟨d,hd,this⟩:=h4 j y s (by simpa using hy) (by simpa using hs);refine ⟨d,by simpa using hd,?_⟩;simp only [Fq,Er,show decide (k<k+(j+1))=true by simp,if_true];rw [show k+(j+1)=k+1+j by omega];exact this
theorem Zg {P:Program} {G:World->Prop} {p:Bool} {n:Nat} {x:X} {f:Nat->AV} {ob:Oid->Option Ob} {r:Rec} (h:Et P G p n x f ob r):∀ u∈r.2.2,(r.1=2/\(ob u.1≠none∨u.1.2=n))∨(r.1=1/\u.1.2=n):=by
 unfold Et at h;split at h
 ·exact Tg h
 ·obtain ⟨c,_,h⟩:=h;split at h
  ·exact Tg h
  ·subst h;intro u hu;cases hu
theorem O5 {P:Program} {G:World->Prop} {p:Bool} {n:Nat} {x:X} {f:Nat->AV} {d:List Oid} {ob:Oid->Option Ob} {r:Rec} (h:Et P G p n x f (only d ob) r):∀ u∈r.2.2,(r.1=2/\(ob u.1≠none∨u.1.2=n))∨(r.1=1/\u.1.2=n):=by
 intro u hu;rcases Zg h u hu with ⟨h1,h2|h2⟩|h
 ·refine .inl ⟨h1,.inl fun e=>h2 ?_⟩;unfold only;rw [e];split <;> rfl
 ·exact .inl ⟨h1,.inr h2⟩
 ·exact .inr h
theorem Qq {P:Program} {G:World->Prop} {g:Nat}:∀ (xs:List X) (k:Nat) (f:Nat->AV) (ob:Oid->Option Ob) (rs:List Rec) (ds:List (List Oid)) (f':Nat->AV) (ob':Oid->Option Ob),Zb P G g k xs f ob rs ds f' ob'->(∀ i,ob i≠none->i.2<g+k) ->
  ∀ j i,Er (fun m=>decide (m<k+j)) k rs ob i≠none->i.2<g+k+j
 | [],k,f,ob,rs,ds,f',ob',h,hg,j,i,hi=>by
  obtain ⟨rfl,rfl,rfl,rfl⟩:=h;have:=hg i hi;omega
 | x :: xs,k,f,ob,rs,ds,f',ob',h,hg,j,i,hi=>by
  obtain ⟨r,rs',ds',rfl,rfl,hst,hrun⟩:=h
  ··skip
    cases j with
    | zero =>
     rw [J5 k _ _ (fun i hi=>by simp;omega)] at hi;have:=hg i hi;omega
    | succ j =>
     simp only [Er,show decide (k<k+(j+1))=true by simp,if_true] at hi;rw [show k+(j+1)=k+1+j by omega] at hi
     have:=Qq xs (k+1) _ _ rs' ds' f' ob' hrun (fun i hi=>by
      by_cases hex:∃ u∈r.2.2,u.1=i
      ·obtain ⟨u,hu,rfl⟩:=hex;rcases O5 hst u hu with ⟨_,h|h⟩|⟨_,h⟩
       ·have:=hg _ h;omega
       ·omega
       ·omega
      ·rw [Cd (fun u hu e=>hex ⟨u,hu,e⟩)] at hi;have:=hg i hi;omega) j i hi
     omega
theorem M3 {us:List (Oid×Option Ob)} {ob ob':Oid->Option Ob} {i:Oid} (h:ob i=ob' i):Ae us ob i=Ae us ob' i:=by
 induction us generalizing ob ob' with
 | nil=>exact h
 | cons u us ih =>
  simp only [Ae,List.foldl_cons];refine ih ?_;by_cases e:i=u.1
  ·subst e;rw [Ar,Ar]
  ·rw [Aq _ _ _ _ e,Aq _ _ _ _ e,h]
theorem Ir {p q:Nat->Bool} {i:Oid}:∀ (k:Nat) (rs:List Rec) (ob ob':Oid->Option Ob),ob i=ob' i->(∀ j r,rs[j]? =some r->p (k+j)≠q (k+j)->∀ u∈r.2.2,u.1≠i)->Er p k rs ob i=Er q k rs ob' i
 | _,[],_,_,h,_=>h
 | k,r :: rs,ob,ob',h,hd=>by
  simp only [Er];refine Ir (k+1) rs _ _ ?_ (fun j s hs hne=>hd (j+1) s (by simpa using hs) (by rw [show k+(j+1)=k+1+j by omega];exact hne));by_cases e:p k=q k
  ·rw [e];split
   ·exact M3 h
   ·exact h
  ·have:=hd 0 r (by simp) (by simpa using e);have hn:∀ o:Oid->Option Ob,Ae r.2.2 o i=o i:=fun o=>Cd this
   split <;> split <;> simp [hn,h]
def Ac6 (us vs:List (Oid×Option Ob)):Prop:=∀ u∈us,∀ v∈vs,u.1≠v.1
theorem Ul {us vs:List (Oid×Option Ob)} (h:Ac6 us vs) (ob:Oid->Option Ob):Ae us (Ae vs ob)=Ae vs (Ae us ob):=by
 funext i;by_cases hu:∃ u∈us,u.1=i
 ·have hv:∀ v∈vs,v.1≠i:=by
   obtain ⟨u,hu,rfl⟩:=hu;exact fun v hv e=>h u hu v hv e.symm
  rw [Cd (ob:=Ae us ob) hv];exact M3 (Cd hv)
 ·have hu':∀ u∈us,u.1≠i:=fun u h e=>hu ⟨u,h,e⟩
  rw [Cd (ob:=Ae vs ob) hu'];exact (M3 (Cd hu')).symm
theorem Ri {p:Nat->Bool} {us:List (Oid×Option Ob)}:∀ (k:Nat) (rs:List Rec) (ob:Oid->Option Ob),(∀ j r,rs[j]? =some r->p (k+j)=true->Ac6 us r.2.2)->Er p k rs (Ae us ob)=Ae us (Er p k rs ob)
 | _,[],_,_=>rfl
 | k,r :: rs,ob,h=>by
  simp only [Er];rw [← Ri (k+1) rs _ (fun j s hs hp=>h (j+1) s (by simpa using hs) (by rw [show k+(j+1)=k+1+j by omega];exact hp))];split
  ·rename_i hp;rw [Ul (h 0 r (by simp) (by simpa using hp))]
  ·rfl
theorem Rt {p q:Nat->Bool}:∀ (k:Nat) (rs:List Rec) (ob:Oid->Option Ob),(∀ j,k<=j->p j=q j)->Er p k rs ob=Er q k rs ob
 | _,[],_,_=>rfl
 | k,r :: rs,ob,h=>by
  simp only [Er,h k (Nat.le_refl _)];exact Rt (k+1) rs _ (fun j hj=>h j oM)
theorem Vh {p q:Nat->Bool} {i:Nat} (hq:∀ j,q j=(p j||decide (j=i))) (hp:p i=false):∀ (k:Nat) (rs:List Rec) (ob:Oid->Option Ob) (r:Rec),k<=i->rs[i - k]? =some r->(∀ j s,rs[j]? =some s->i<k+j->p (k+j)=true->Ac6 r.2.2 s.2.2)->Er q k rs ob=Ae r.2.2 (Er p k rs ob)
 | _,[],_,_,_,h,_=>by simp at h
 | k,s :: rs,ob,r,hk,hr,hd=>by
  by_cases e:k=i
  ·subst e;simp at hr;subst hr;simp only [Er,hq k,hp,Bool.false_or,decide_true,if_true,Bool.false_eq_true,if_false];rw [Rt (p:=q) (q:=p) (k+1) rs _ (fun j hj=>by rw [hq];simp;omega)];exact Ri (k+1) rs ob (fun j s hs hpj=>hd (j+1) s (by simpa using hs) oM (by rw [show k+(j+1)=k+1+j by omega];exact hpj))
  ·simp only [Er,hq k,show decide (k=i)=false by simp [e],Bool.or_false];have hk':k+1<=i:=by omega
   refine Vh hq hp (k+1) rs _ r hk' ?_ (fun j s hs h1 h2=>hd (j+1) s (by simpa using hs) oM (by rw [show k+(j+1)=k+1+j by omega];exact h2));rw [show i - k=(i - (k+1))+1 by omega] at hr
   simpa using hr
theorem Yn {p:Nat->Bool} {s:Nat}:∀ (k:Nat) (xs:List X) (rs:List Rec) (f:Nat->AV) (j:Nat) (x:X) (r:Rec),xs[j]? =some x->rs[j]? =some r->x.dst=some s->p (k+j)=true->(∀ l y,xs[l]? =some y->j<l->y.dst≠some s)->Fq p k xs rs f s=r.2.1
 | _,[],_,_,_,_,_,h,_,_,_,_=>by simp at h
 | _,_ :: _,[],_,_,_,_,_,h,_,_,_=>by simp at h
 | k,x0 :: xs,r0 :: rs,f,0,x,r,hx,hr,hd,hp,hl=>by
  simp at hx hr;subst hx hr;simp only [Fq,show p k=true by simpa using hp,if_true]
  have key:∀ (k:Nat) (xs:List X) (rs:List Rec) (f:Nat->AV),(∀ y∈xs,y.dst≠some s)->Fq p k xs rs f s=f s:=by
   intro k xs
   induction xs generalizing k with
   | nil=>intro rs f _;simp [Fq]
   | cons y ys ih =>
    intro rs f h;cases rs with
    | nil=>rfl
    | cons r rs =>
     simp only [Fq];rw [ih (k+1) rs _ (fun z hz=>h z (by simp [hz]))];split
     ·have:=h y (by simp);cases hy:y.dst with
      | none=>rfl
      | some d=>simp only [Hm];rw [Aq];intro e;subst e;exact this hy
     ·rfl
  rw [key (k+1) xs rs _ (fun y hy=>by
   obtain ⟨l,hl1,rfl⟩:=List.mem_iff_getElem.1 hy;exact hl (l+1) _ (by simp [hl1]) oM),hd]
  simp only [Hm,Ar]
 | k,x0 :: xs,r0 :: rs,f,j+1,x,r,hx,hr,hd,hp,hl=>by
  simp only [Fq];exact Yn (k+1) xs rs _ j x r (by simpa using hx) (by simpa using hr) hd (by rw [show k+1+j=k+(j+1) by omega];exact hp) (fun l y hy h=>hl (l+1) y (by simpa using hy) oM)
def Mo:List (List Nat)->List Nat->List Nat
 | [],acc=>acc
 | ds :: rest,acc=>Mo rest (acc++[ds.foldl (fun s d=>s ||| 2 ^ d ||| acc.getD d 0) 0])
theorem Vp (A:Nat->Nat):∀ (ds:List Nat) (s j:Nat),(ds.foldl (fun s d=>s ||| 2 ^ d ||| A d) s).testBit j=true->s.testBit j=true∨∃ d∈ds,j=d∨(A d).testBit j=true
 | [],s,j,h=>.inl h
 | d :: ds,s,j,h=>by
  rcases Vp A ds _ j h with h|⟨e,he,h⟩
  ·rw [Nat.testBit_or,Nat.testBit_or,Bool.or_eq_true,Bool.or_eq_true] at h;rcases h with (h|h)|h
   ·exact .inl h
   ·rw [Nat.testBit_two_pow] at h;have e:d=j:=by simpa using h
    exact .inr ⟨d,by simp,.inl e.symm⟩
   ·exact .inr ⟨d,by simp,.inr h⟩
  ·exact .inr ⟨e,by simp [he],h⟩
theorem R9:∀ (deps:List (List Nat)) (acc:List Nat),(∃ t,Mo deps acc=acc++t/\t.length=deps.length) /\
  ∀ k ds,deps[k]? =some ds->∀ j,((Mo deps acc).getD (acc.length+k) 0).testBit j=true->∃ d∈ds,j=d∨((Mo deps acc).getD d 0).testBit j=true
 | [],acc=>⟨⟨[],by simp [Mo],rfl⟩,fun k ds h=>by simp at h⟩
 | ds0 :: rest,acc=>by
  obtain ⟨⟨t,h1,h2⟩,h3⟩:=R9 rest (acc++[ds0.foldl (fun s d=>s ||| 2 ^ d ||| acc.getD d 0) 0]);refine ⟨⟨ds0.foldl (fun s d=>s ||| 2 ^ d ||| acc.getD d 0) 0 :: t,by simp only [Mo,h1,List.append_assoc];rfl,by simp [h2]⟩,fun k ds hk j hj=>?_⟩;simp only [Mo] at hj ⊢;cases k with
  | zero =>
   simp at hk;subst hk;rw [h1] at hj;rw [Nat.add_zero,gDg,List.append_assoc,List.getElem?_append_right (Nat.le_refl _)] at hj;simp at hj;rcases Vp (fun d=>acc[d]?.getD 0) _ _ _ hj with h|⟨d,hd,h⟩
   ·simp at h
   ·refine ⟨d,hd,h.imp id fun h=>?_⟩;rw [h1,gDg];by_cases hlt:d<acc.length
    ·rw [List.append_assoc,List.getElem?_append_left hlt];exact h
    ·rw [List.getElem?_eq_none oM] at h;simp at h
  | succ k =>
   have:=h3 k ds (by simpa using hk) j (by
    rw [List.length_append,List.length_cons,List.length_nil,show acc.length+(0+1)+k=acc.length+(k+1) by omega];exact hj)
   exact this
end
section
open Go.RowKit Go.Deep
def Eu (o:Oper):List Nat:=(o.after.toList.filter (Region.binds .any)).map (·.on)
def K4 (ri rj:Rec) (di dj:List Oid):Prop :=
 ((ri.1=2->rj.1=0)/\(rj.1=2->ri.1=0))∨((ri.1=2->∀ u∈ri.2.2,u.1∉dj)/\(rj.1=2->∀ u∈rj.2.2,u.1∉di)/\∀ u∈ri.2.2,∀ v∈rj.2.2,u.1≠v.1)
def P9:List (Option Nat)->Bool
 | []=>true
 | none :: r=>P9 r
 | some d :: r=> !r.contains (some d)&&P9 r
theorem Ld:∀ {ds:List (Option Nat)},P9 ds=true->∀ (i j s:Nat),i<j->ds[i]? =some (some s)->ds[j]?≠some (some s)
 | [],_,i,j,s,_,h=>by simp at h
 | none :: r,hb,0,j,s,_,h=>by simp at h
 | none :: r,hb,i+1,0,s,hij,_=>by omega
 | none :: r,hb,i+1,j+1,s,hij,h=>by
  have:=Ld (ds:=r) hb i j s oM (by simpa using h)
  simpa using this
 | some d :: r,hb,0,j,s,hij,h=>by
  simp only [P9,Bool.and_eq_true] at hb;simp at h;subst h;intro hj;cases j with
  | zero=>omega
  | succ j =>
   have h1:(some d:Option Nat)∈r:=List.mem_of_getElem? (by simpa using hj);have h2:=hb.1;simp at h2;exact h2 h1
 | some d :: r,hb,i+1,0,s,hij,_=>by omega
 | some d :: r,hb,i+1,j+1,s,hij,h=>by
  simp only [P9,Bool.and_eq_true] at hb;have:=Ld (ds:=r) hb.2 i j s oM (by simpa using h)
  simpa using this
section
variable {P:Program} {G:World->Prop} {w0 w w':World} {N:Nat}
theorem Oj:∀ {os:List Oper} {xs:List X} {ops:Array Oper},X.ofL P N ops os=some xs->os.length=xs.length/\∀ (k:Nat) (o:Oper),os[k]? =some o->∃ x:X,xs[k]? =some x/\X.of P N ops o=some x
 | [],xs,ops,h=>by
  obtain rfl:[]=xs:=osj h;exact ⟨rfl,fun k o h=>by simp at h⟩
 | o :: os,xs,ops,h=>by
  simp only [X.ofL] at h;split at h
  ·rename_i x xs' h1 h2;obtain rfl:=osj h;obtain ⟨q1,q2⟩:=Oj h2;refine ⟨by simp [q1],fun k o' hk=>?_⟩;cases k with
   | zero=>simp at hk;subst hk;exact ⟨x,by simp,h1⟩
   | succ k=>obtain ⟨y,r1,r2⟩:=q2 k o' (by simpa using hk);exact ⟨y,by simpa using r1,r2⟩
  ·cases h
theorem X.of_dst {ops:Array Oper} {o:Oper} {x:X} (h:X.of P N ops o=some x):x.dst=o.dst/\Aej N o=true:=by
 unfold X.of at h;split at h
 ·split at h
  ·rename_i hd;split at h
   ·obtain rfl:=osj h;exact ⟨rfl,hd⟩
   ·split at h
    ·obtain rfl:=osj h;exact ⟨rfl,hd⟩
    ·cases h
  ·cases h
 ·cases h
structure Drawn (ops:Array Oper) (xs:List X) (rs:List Rec) (ds:List (List Oid)):Prop where
 lx:xs.length=ops.size
 lr:rs.length=ops.size
 ld:ds.length=ops.size
 dst:∀ (k:Nat) (o:Oper) (x:X),ops[k]? =some o->xs[k]? =some x->x.dst=o.dst
 fwd:∀ (k:Nat) (o:Oper),ops[k]? =some o->∀ d∈Eu o,d<k
 one:∀ (i j:Nat) (x y:X) (s:Nat),i<j->xs[i]? =some x->xs[j]? =some y->x.dst=some s->y.dst≠some s
 pair:∀ (i j:Nat) (oi oj:Oper) (ri rj:Rec) (di dj:List Oid),j<i->ops[i]? =some oi->ops[j]? =some oj->rs[i]? =some ri->rs[j]? =some rj->ds[i]? =some di->ds[j]? =some dj ->
  ((Mo (ops.toList.map Eu) []).getD i 0).testBit j=true∨(oj.apart ops oi=true/\K4 ri rj di dj)
theorem Drawn.of {ops:Array Oper} {xs:List X} {rs:List Rec} {ds:List (List Oid)} (hx:X.ofL P N ops ops.toList=some xs) (hr:xs.length=rs.length) (hd:xs.length=ds.length)
  (b2:(ops.toList.zipIdx.all fun x=>(Eu x.1).all fun d=>decide (d<x.2))=true) (b3:P9 (ops.toList.map (·.dst))=true)
  (b4:∀ i j,i<ops.size->j<i->((Mo (ops.toList.map Eu) []).getD i 0).testBit j=true∨((ops.getD j default).apart ops (ops.getD i default)=true/\K4 (rs.getD i (0,.any,[])) (rs.getD j (0,.any,[])) (ds.getD i []) (ds.getD j []))):Drawn ops xs rs ds:=by
 obtain ⟨q1,q2⟩:=Oj hx;have lx:xs.length=ops.size:=by rw [← q1];simp
 have hdst:∀ (k:Nat) (o:Oper) (x:X),ops[k]? =some o->xs[k]? =some x->x.dst=o.dst:=by
  intro k o x ho hx';obtain ⟨y,r1,r2⟩:=q2 k o (by simpa using ho);rw [hx'] at r1;obtain rfl:=osj r1;exact (X.of_dst r2).1
 refine ⟨lx,by omega,by omega,hdst,?_,?_,?_⟩
 ·intro k o ho d hd;rw [List.all_eq_true] at b2;have:=b2 (o,k) (by rw [List.mem_zipIdx_iff_getElem?];simpa using ho);rw [List.all_eq_true] at this;exact of_decide_eq_true (this d hd)
 ·intro i j x y s hij hxi hxj hs hs';have hi:i<ops.size:=by rw [← lx];exact (gSi.1 hxi).1
  have hj:j<ops.size:=by rw [← lx];exact (gSi.1 hxj).1
  refine Ld b3 i j s hij ?_ ?_
  ·rw [List.getElem?_map];simp [hi,← hdst i _ x (Array.getElem?_eq_getElem hi) hxi,hs]
  ·rw [List.getElem?_map];simp [hj,← hdst j _ y (Array.getElem?_eq_getElem hj) hxj,hs']
 ·intro i j oi oj ri rj di dj hij hoi hoj hri hrj hdi hdj;have hi:i<ops.size:=(Array.getElem?_eq_some_iff.1 hoi).1;have h2:=b4 i j hi hij;have e1:ops.getD i default=oi:=by simp [Array.getD_eq_getD_getElem?,hoi]
  have e2:ops.getD j default=oj:=by simp [Array.getD_eq_getD_getElem?,hoj]
  rw [e1,e2] at h2
  simpa only [gDg,hri,hrj,hdi,hdj,Option.getD_some] using h2
def Bz (listed:Array Bool) (k:Nat):Bool:=listed.getD k false
theorem Xe {ops:Array Oper} {xs:List X} {rs:List Rec} {ds:List (List Oid)} (hD:Drawn ops xs rs ds) {p:Nat->Bool} (hcl:∀ (k:Nat) (o:Oper),ops[k]? =some o->p k=true->∀ d∈Eu o,p d=true):∀ (n k:Nat),k<=n->∀ (o:Oper),ops[k]? =some o->(∀ d∈Eu o,p d=true)->∀ j,((Mo (ops.toList.map Eu) []).getD k 0).testBit j=true->p j=true
 | n,k,hk,o,ho,hd,j,hj=>by
  obtain ⟨d,hdm,h⟩:=(R9 (ops.toList.map Eu) []).2 k (Eu o) (by rw [List.getElem?_map];simp [ho]) j (by simpa using hj);have hpd:=hd d hdm;rcases h with rfl|h
  ·exact hpd
  ·have hlt:=hD.fwd k o ho d hdm;have hko:k<ops.size:=(Array.getElem?_eq_some_iff.1 ho).1;cases n with
   | zero=>omega
   | succ n =>
    exact Xe hD hcl n d oM _ (Array.getElem?_eq_getElem (by omega:d<ops.size)) (hcl d _ (Array.getElem?_eq_getElem (by omega:d<ops.size)) hpd) j h
theorem Nl {ops:Array Oper} {x y:Oper} (h:x.apart ops y=true):(∀ d,x.dst=some d->d∉y.looksAt ops)/\(∀ d,x.dst=some d->y.dst≠some d)/\(∀ d,y.dst=some d->d∉x.looksAt ops):=Oper.apart_spec h
theorem J2 {p q:Nat->Bool} {s:Nat}:∀ (k:Nat) (xs:List X) (rs:List Rec) (f f':Nat->AV),f s=f' s->(∀ (j:Nat) (x:X),xs[j]? =some x->x.dst=some s->p (k+j)=q (k+j))->Fq p k xs rs f s=Fq q k xs rs f' s
 | _,[],rs,f,f',h,_=>by cases rs <;> exact h
 | _,_ :: _,[],_,_,h,_=>h
 | k,x :: xs,r :: rs,f,f',h,hd=>by
  simp only [Fq];refine J2 (k+1) xs rs _ _ ?_ (fun j y hy hs=>by rw [show k+1+j=k+(j+1) by omega];exact hd (j+1) y (by simpa using hy) hs);by_cases e:x.dst=some s
  ·have:=hd 0 x (by simp) e;rw [Nat.add_zero] at this;rw [this,e];split
   ·simp only [Hm,Ar]
   ·exact h
  ·have hp:∀ g:Nat->AV,Hm x.dst r.2.1 g s=g s:=by
    intro g;cases hx:x.dst with
    | none=>rfl
    | some d=>simp only [Hm];rw [Aq];intro e';subst e';exact e hx
   split <;> split <;> simp [hp,h]
theorem Agr (p:Nat->Bool):∀ k,p k=false->∃ m,m<=k/\p m=false/\∀ l,l<m->p l=true:=by
 intro k
 induction k using Nat.strongRecOn with
 | _ k ih =>
  intro hk;by_cases h:∃ l,l<k/\p l=false
  ·obtain ⟨l,h1,h2⟩:=h;obtain ⟨m,q1,q2,q3⟩:=ih l h1 h2;exact ⟨m,by omega,q2,q3⟩
  ·refine ⟨k,Nat.le_refl _,hk,fun l hl=>?_⟩;cases hp:p l with
   | true=>rfl
   | false=>exact absurd ⟨l,hl,hp⟩ h
theorem Wu (l:List Bool) (i:Nat) (h:l[i]? =some false):((l.set i true).filter (!·)).length+1=(l.filter (!·)).length:=by
 induction l generalizing i with
 | nil=>simp at h
 | cons b l ih =>
  cases i with
  | zero=>simp at h;subst h;simp
  | succ i =>
   have:=ih i (by simpa using h);cases b <;> simp [List.filter_cons] at* <;> omega
theorem Aei [IsP P] {B:Mq} {ops:Array Oper} {Q':Exit->Act->World->Prop} {g:Nat} {xs:List X} {f0:Nat->AV} {ob0:Oid->Option Ob} {rs:List Rec} {ds:List (List Oid)} {f':Nat->AV} {ob':Oid->Option Ob}
  (hx:X.ofL P N ops ops.toList=some xs) (hr:Zb P G g 0 xs f0 ob0 rs ds f' ob') (hD:Drawn ops xs rs ds) (hg:∀ i,ob0 i≠none->i.2<g)
  (hQ:∀ a' w',(∃ σ,Mem0 G w0 ob' σ (fun m=>m<g+ops.size) w'/\TmB B σ (imm ob' σ) w' f' a')->a'.tmps.size=N->a'.defers=[]->Q' .normal a' w') :
  ∀ (fuel:Nat) (listed:Array Bool) (a:Act) (w:World),listed.size=ops.size->(listed.toList.filter (!·)).length=fuel->(∀ (k:Nat) (o:Oper),ops[k]? =some o->Bz listed k=true->∀ d∈Eu o,Bz listed d=true) ->
   (∃ σ,Mem0 G w0 (Er (Bz listed) 0 rs ob0) σ (fun m=>m<g∨∃ k,Bz listed k=true/\m=g+k) w/\TmB B σ (imm (Er (Bz listed) 0 rs ob0) σ) w (Fq (Bz listed) 0 xs rs f0) a)->a.tmps.size=N->a.defers=[] ->
   wpAny P .any ops Q' fuel listed a w:=by
 obtain ⟨s1,_,s2,s3,s4⟩:=M7 xs 0 f0 ob0 rs ds f' ob' hr;obtain ⟨_,hxo⟩:=Oj hx;intro fuel
 induction fuel with
 | zero =>
  intro listed a w hsz hcnt hcl hm hN hd
  have hall:∀ k,k<ops.size->Bz listed k=true:=by
   intro k hk;have h0:listed.toList.filter (!·)=[]:=List.length_eq_zero_iff.1 hcnt;rw [List.filter_eq_nil_iff] at h0;have:=h0 (listed[k]'oM) (by simp)
   simpa [Bz,Array.getD_eq_getD_getElem?,hsz,hk] using this
  have hready:Region.ready .any ops listed=[]:=by
   unfold Region.ready;rw [List.filter_eq_nil_iff];intro k hk;have:=hall k (by simpa using hk);have hk':k<listed.size:=by rw [hsz];simpa using hk
   simp only [Bz,Array.getD_eq_getD_getElem?,Array.getElem?_eq_getElem hk',Option.getD_some] at this;simp [hk',this]
  refine ⟨hready,hQ a w ?_ hN hd⟩;obtain ⟨σ,h1,h2⟩:=hm
  have e1:Er (Bz listed) 0 rs ob0=ob':=by
   rw [s3];funext id;exact Ir 0 rs ob0 ob0 rfl (fun j r hj hne=>absurd (hall (0+j) (by have:=(gSi.1 hj).1;have:=hD.lr;omega)) hne)
  have e2:Fq (Bz listed) 0 xs rs f0=f':=by
   rw [s2];funext t;exact J2 0 xs rs f0 f0 rfl (fun j x hj _=>hall (0+j) (by have:=(gSi.1 hj).1;have:=hD.lx;omega))
  rw [e1] at h1 h2;rw [e2] at h2
  exact ⟨σ,h1.wide (fun n hn=>by
   rcases hn with hn|⟨k,hk,rfl⟩
   ·omega
   ·have:k<ops.size:=by
     rcases Nat.lt_or_ge k ops.size with h|h
     ·exact h
     ·simp [Bz,Array.getD_eq_getD_getElem?,Array.getElem?_eq_none (show listed.size<=k by omega)] at hk
    omega),h2⟩
 | succ fuel ih =>
  intro listed a w hsz hcnt hcl hm hN hd
  have hbig:∀ k,Bz listed k=true->k<ops.size:=by
   intro k hk;rcases Nat.lt_or_ge k ops.size with h|h
   ·exact h
   ·simp [Bz,Array.getD_eq_getD_getElem?,Array.getElem?_eq_none (show listed.size<=k by omega)] at hk
  refine ⟨fun hready=>?_,fun i hi=>?_⟩
  ·have hne:listed.toList.filter (!·)≠[]:=fun h=>by rw [h] at hcnt;cases hcnt
   obtain ⟨b,hb'⟩:=List.exists_mem_of_ne_nil _ hne;obtain ⟨hb1,hb2⟩:=List.mem_filter.1 hb';obtain ⟨k,hk,rfl⟩:=List.mem_iff_getElem.1 hb1;have hk':k<listed.size:=by simpa using hk
   have hkf:Bz listed k=false:=by
    simp only [Bz,Array.getD_eq_getD_getElem?,Array.getElem?_eq_getElem hk',Option.getD_some]
    simpa using hb2
   obtain ⟨m,q1,q2,q3⟩:=Agr (Bz listed) k hkf;have hmo:m<ops.size:=by omega
   have:m∈Region.ready .any ops listed:=by
    unfold Region.ready;rw [List.mem_filter];refine ⟨by simpa using hmo,?_⟩;have hml:m<listed.size:=by omega
    simp only [Bz,Array.getD_eq_getD_getElem?,Array.getElem?_eq_getElem hml,Option.getD_some] at q2;simp only [Array.getD_eq_getD_getElem?,Array.getElem?_eq_getElem hml,Option.getD_some,q2,Bool.not_false,Bool.true_and,Array.getElem?_eq_getElem hmo,Option.map_some];rw [Array.all_eq_true_iff_forall_mem];intro e he;cases hbe:Region.binds .any e with
    | false=>rfl
    | true =>
     have hlt:=hD.fwd m _ (Array.getElem?_eq_getElem hmo) e.on (List.mem_map.2 ⟨e,List.mem_filter.2 ⟨by simpa using he,hbe⟩,rfl⟩);have:=q3 e.on hlt;simp only [Bz] at this;rw [Array.getD_eq_getD_getElem?] at this;simp [this]
   rw [hready] at this;cases this
  ·unfold Region.ready at hi;rw [List.mem_filter] at hi;obtain ⟨hir,hi2⟩:=hi;have hio:i<ops.size:=by simpa using hir
   have hil:i<listed.size:=by omega
   simp only [Bool.and_eq_true,Array.getElem?_eq_getElem hio,Option.map_some,Option.getD_some] at hi2;obtain ⟨hi3,hi4⟩:=hi2
   have hpi:Bz listed i=false:=by
    simp only [Array.getD_eq_getD_getElem?,Array.getElem?_eq_getElem hil,Option.getD_some] at hi3;simp only [Bz,Array.getD_eq_getD_getElem?,Array.getElem?_eq_getElem hil,Option.getD_some]
    simpa using hi3
   have hoi:ops[i]? =some ops[i]:=Array.getElem?_eq_getElem hio;generalize ops[i]=o at hoi hi4
   have hdeps:∀ d∈Eu o,Bz listed d=true:=by
    intro d hd';obtain ⟨e,he,rfl⟩:=List.mem_map.1 hd';obtain ⟨he1,he2⟩:=List.mem_filter.1 he;rw [Array.all_eq_true_iff_forall_mem] at hi4;have:=hi4 e (by simpa using he1);rw [he2] at this
    simpa [Bz] using this
   obtain ⟨x,hxi,hxof⟩:=hxo i o (by simpa using hoi);obtain ⟨hxd,hdb⟩:=X.of_dst hxof;have hri:∃ r,rs[i]? =some r:=⟨_,gEg (by have:=hD.lr;omega)⟩
   obtain ⟨r,hri⟩:=hri;obtain ⟨d0,hd0,hst⟩:=s4 i x r hxi hri;rw [Nat.zero_add] at hst
   have before:∀ j oj rj,j<i->Bz listed j=false->ops[j]? =some oj->rs[j]? =some rj->oj.apart ops o=true/\∃ dj,ds[j]? =some dj/\K4 r rj d0 dj:=by
    intro j oj rj hj hpj hoj hrj;have hdj:ds[j]? =some (ds[j]'(by have:=hD.ld;have:=(Array.getElem?_eq_some_iff.1 hoj).1;omega)):=gEg _;rcases hD.pair i j o oj r rj _ _ hj hoi hoj hri hrj hd0 hdj with h|h
    ·have:=Xe hD hcl i i (Nat.le_refl _) o hoi hdeps j h;rw [hpj] at this;cases this
    ·exact ⟨h.1,_,hdj,h.2⟩
   have after:∀ k ok rk,i<k->Bz listed k=true->ops[k]? =some ok->rs[k]? =some rk->o.apart ops ok=true/\∃ dk,ds[k]? =some dk/\K4 rk r dk d0:=by
    intro k ok rk hk hpk hok hrk;have hdk:ds[k]? =some (ds[k]'(by have:=hD.ld;have:=(Array.getElem?_eq_some_iff.1 hok).1;omega)):=gEg _;rcases hD.pair k i ok o rk r _ _ hk hok hoi hrk hri hdk hd0 with h|h
    ·have:=Xe hD hcl k k (Nat.le_refl _) ok hok (hcl k ok hok hpk) i h;rw [hpi] at this;cases this
    ·exact ⟨h.1,_,hdk,h.2⟩
   have rec0:∀ j rj,rs[j]? =some rj->∀ u∈rj.2.2,(rj.1=2/\(Er (fun m=>decide (m<j)) 0 rs ob0 u.1≠none∨u.1.2=g+j))∨(rj.1=1/\u.1.2=g+j):=by
    intro j rj hrj;have hjx:∃ y,xs[j]? =some y:=⟨_,gEg (by have:=(gSi.1 hrj).1;omega)⟩
    obtain ⟨y,hy⟩:=hjx;obtain ⟨_,_,hsj⟩:=s4 j y rj hy hrj;have:=O5 hsj
    rwa [Nat.zero_add] at this
   obtain ⟨σ,hM,hF⟩:=hm
   -- the temporaries that the operation looks at
   have htm:∀ t∈o.looksAt ops,Fq (fun m=>decide (m<i)) 0 xs rs f0 t=Fq (Bz listed) 0 xs rs f0 t:=by
    intro t ht;refine J2 0 xs rs f0 f0 rfl (fun j y hy hd'=>?_);rw [Nat.zero_add];have hjo:j<ops.size:=by rw [← hD.lx];exact (gSi.1 hy).1
    have hoj:ops[j]? =some ops[j]:=Array.getElem?_eq_getElem hjo;have hrj:rs[j]? =some (rs[j]'(by have:=hD.lr;omega)):=gEg _;have hdj:(ops[j]).dst=some t:=by rw [← hD.dst j _ y hoj hy];exact hd'
    rcases Nat.lt_trichotomy j i with h|rfl|h
    ·cases hp:Bz listed j with
     | true=>simp [h]
     | false=>exact absurd ht ((Nl (before j _ _ h hp hoj hrj).1).1 t hdj)
    ·rw [hpi];simp
    ·cases hp:Bz listed j with
     | true=>exact absurd ht ((Nl (after j _ _ h hp hoj hrj).1).2.2 t hdj)
     | false=>simp;omega
   have hops:∀ z∈o.op.operands,∀ y,Opd.of z=some y->AV.Rep σ (imm (Er (Bz listed) 0 rs ob0) σ) w (y.ev (Fq (fun m=>decide (m<i)) 0 xs rs f0)) (a.eval z):=by
    intro z hz y hy;refine Opd.rep hy (fun t e=>?_)
    have:t∈o.looksAt ops:=by
     refine List.mem_append_left _ (List.mem_filterMap.2 ⟨z,by simpa using hz,?_⟩);cases z <;> simp [Opd.of] at hy <;> first|(subst hy;cases e;done)|(subst hy;cases e;rfl)|(obtain ⟨_,rfl⟩:=hy;cases e)
    rw [htm t this];exact hF.1 t
   -- the objects
   have hagree:r.1≠0->∀ id ob l,only d0 (Er (fun m=>decide (m<i)) 0 rs ob0) id=some ob->σ id=some l->Er (Bz listed) 0 rs ob0 id=some ob:=by
    intro hk id ob l h0 h2;obtain ⟨hid,h1⟩:=Zp h0;rw [← h1];refine (Ir 0 rs ob0 ob0 rfl (fun j rj hrj hne u hu e=>?_)).symm;rw [Nat.zero_add] at hne;subst e;have hjo:j<ops.size:=by rw [← hD.lr];exact (gSi.1 hrj).1
    have hoj:ops[j]? =some ops[j]:=Array.getElem?_eq_getElem hjo;have hgen:=hM.gen _ _ h2;rcases Nat.lt_trichotomy j i with h|rfl|h
    ·have hp:Bz listed j=false:=by
      cases hp:Bz listed j with
      | false=>rfl
      | true=>rw [hp] at hne;simp [h] at hne
     have hk2:rj.1≠2:=fun e=>by
      obtain ⟨_,dj,_,h|h⟩:=before j _ _ h hp hoj hrj
      ·exact hk (h.2 e)
      ·exact h.2.1 e u hu hid
     rcases rec0 j rj hrj u hu with ⟨e,_⟩|⟨_,e⟩
     ·exact hk2 e
     ·rcases hgen with hg'|⟨m,hm1,hm2⟩
      ·omega
      ·have:m=j:=by omega
       subst this;rw [hp] at hm1;cases hm1
    ·rw [hpi] at hne;simp at hne
    ·have hp:Bz listed j=true:=by
      cases hp:Bz listed j with
      | true=>rfl
      | false=>rw [hp] at hne;simp at hne;omega
     have hk2:rj.1≠2:=fun e=>by
      obtain ⟨_,dj,_,h|h⟩:=after j _ _ h hp hoj hrj
      ·exact hk (h.1 e)
      ·exact h.1 e u hu hid
     rcases rec0 j rj hrj u hu with ⟨e,_⟩|⟨_,e⟩
     ·exact hk2 e
     ·have:=Qq xs 0 f0 ob0 rs ds f' ob' hr (fun i hi=>by have:=hg i hi;omega) i u.1 (by rw [Nat.zero_add,h1];simp);omega
   -- behind it
   have hq:∀ j,Bz (listed.setIfInBounds i true) j=(Bz listed j||decide (j=i)):=by
    intro j;simp only [Bz,Array.getD_eq_getD_getElem?];by_cases e:j=i
    ·subst e;simp [Array.getElem?_setIfInBounds_self_of_lt hil]
    ·rw [Array.getElem?_setIfInBounds_ne (fun h=>e h.symm)];simp [e]
   have hO:Er (Bz (listed.setIfInBounds i true)) 0 rs ob0=Ae r.2.2 (Er (Bz listed) 0 rs ob0):=by
    refine Vh hq hpi 0 rs ob0 r (Nat.zero_le _) (by simpa using hri) (fun j s hs hij hp=>?_);rw [Nat.zero_add] at hij hp;have hjo:j<ops.size:=hbig j hp;have hoj:ops[j]? =some ops[j]:=Array.getElem?_eq_getElem hjo;obtain ⟨_,dj,_,⟨a1,a2⟩|⟨_,_,a3⟩⟩:=after j _ _ hij hp hoj hs
    ·intro u hu v hv;rcases rec0 i r hri u hu with ⟨e,_⟩|⟨e,e'⟩ <;> rcases rec0 j s hs v hv with ⟨k,_⟩|⟨k,k'⟩
     ·have:=a1 k;omega
     ·have:=a2 e;omega
     ·have:=a1 k;omega
     ·intro he;rw [he] at e';omega
    ·exact fun u hu v hv e=>a3 v hv u hu e.symm
   have hT':Fq (Bz (listed.setIfInBounds i true)) 0 xs rs f0=Hm x.dst r.2.1 (Fq (Bz listed) 0 xs rs f0):=by
    funext t;by_cases e:x.dst=some t
    ·rw [Yn 0 xs rs f0 i x r hxi hri e (by rw [Nat.zero_add,hq];simp) (fun l y hy hl=>hD.one i l x y t hl hxi hy e),e];simp only [Hm,Ar]
    ·have hp:Hm x.dst r.2.1 (Fq (Bz listed) 0 xs rs f0) t=Fq (Bz listed) 0 xs rs f0 t:=by
      cases hx':x.dst with
      | none=>rfl
      | some d=>simp only [Hm];rw [Aq];intro e';subst e';exact e hx'
     rw [hp];refine J2 0 xs rs f0 f0 rfl (fun j y hy hd'=>?_);rw [hq]
     have:j≠i:=by
      intro h;subst h;rw [hxi] at hy;obtain rfl:=osj hy;exact e hd'
     rw [Nat.zero_add];simp [this]
   have hcl':∀ (k:Nat) (ok:Oper),ops[k]? =some ok->Bz (listed.setIfInBounds i true) k=true->∀ d∈Eu ok,Bz (listed.setIfInBounds i true) d=true:=by
    intro k ok hok hk d hd';rw [hq] at hk ⊢;by_cases e:k=i
    ·subst e;rw [hoi] at hok;obtain rfl:=osj hok;rw [hdeps d hd'];rfl
    ·have:Bz listed k=true:=by simpa [e] using hk
     rw [hcl k ok hok this d hd'];rfl
   have hcnt':((listed.setIfInBounds i true).toList.filter (!·)).length=fuel:=by
    have:listed.toList[i]? =some false:=by
     rw [Array.getElem?_toList,Array.getElem?_eq_getElem hil]
     simpa [Bz,Array.getD_eq_getD_getElem?,hil] using hpi
    have:=Wu listed.toList i this;rw [Array.toList_setIfInBounds];omega
   have hputs:∀ u,(a.put o.dst u).tmps.size=N/\(a.put o.dst u).defers=[]:=by
    intro u;cases o.dst <;> simp [Act.put,hN,hd]
   have hdlt:∀ d,x.dst=some d->d<a.tmps.size:=by
    intro d e;rw [hxd] at e;unfold Aej at hdb;rw [e] at hdb;rw [hN];exact of_decide_eq_true hdb
   have go:∀ u w',(∃ σ',Mem0 G w0 (Ae r.2.2 (Er (Bz listed) 0 rs ob0)) σ' (fun m=>m<g∨∃ k,Bz (listed.setIfInBounds i true) k=true/\m=g+k) w'/\TmB B σ' (imm (Ae r.2.2 (Er (Bz listed) 0 rs ob0)) σ') w' (Hm x.dst r.2.1 (Fq (Bz listed) 0 xs rs f0)) (a.put o.dst u)) ->
     wpAny P .any ops Q' fuel (listed.setIfInBounds i true) (a.put o.dst u) w':=by
    intro u w' h;refine ih _ _ _ (by simpa using hsz) hcnt' hcl' ?_ (hputs u).1 (hputs u).2;rw [hO,hT'];exact h
   have hKw:∀ n,(n<g∨∃ k,Bz listed k=true/\n=g+k)->(n<g∨∃ k,Bz (listed.setIfInBounds i true) k=true/\n=g+k):=by
    rintro n (h|⟨k,hk,h⟩)
    ·exact .inl h
    ·exact .inr ⟨k,by rw [hq,hk];rfl,h⟩
   have doit:∀ q,Q.of P o=some q->EvR P G false (Fq (fun m=>decide (m<i)) 0 xs rs f0) (only d0 (Er (fun m=>decide (m<i)) 0 rs ob0)) ((x.dst.getD 0,0),g+i) q r->o.wp P a w (wpAny P .any ops Q' fuel (listed.setIfInBounds i true)) Q':=by
    intro q hqo he
    have:=Yz (a:=a) (w:=w) (K':=fun m=>m<g∨∃ k,Bz (listed.setIfInBounds i true) k=true/\m=g+k) hqo he hM hKw
     (by
      rintro (h|⟨k,hk,h⟩)
      ·exact absurd (show g+i<g from h) oM
      ·have:k=i:=by simp at h;omega
       subst this;rw [hpi] at hk;cases hk)
     (.inr ⟨i,by rw [hq];simp,rfl⟩)
     (fun hk id o' l h1 h2=>hM.obs id o' l (hagree hk id o' l h1 h2) h2) (fun hk=>hagree oM) hops
    refine this _ _ (fun u w' hgo=>?_);obtain ⟨σ',hL,hM',hR⟩:=hgo;refine go u w' ⟨σ',hM',?_⟩;rw [← hxd];exact (hF.later hL).put hR hdlt
   unfold wpOp;rw [hoi];simp only;unfold X.of at hxof;split at hxof
   ·rename_i q hqo;rw [if_pos hdb] at hxof;split at hxof
    ·rename_i hgd;obtain rfl:=osj hxof;rw [if_pos (by simp [Region.wanted,hgd])];exact .inl (doit q hqo hst)
    ·rename_i j b hgd;split at hxof
     ·rename_i s hs;obtain rfl:=osj hxof
      have hsl:s∈o.looksAt ops:=by
       refine List.mem_append_right _ ?_;simp [hgd,hs]
      obtain ⟨c,hc,hst⟩:=hst
      ·skip
       rw [htm s hsl] at hc;have hw:=Rj (ops:=ops) hgd hs (hF.1 s) hc;rw [hw];split at hst
       ·rename_i hcb;rw [if_pos hcb];exact .inl (doit q hqo hst)
       ·rename_i hcb;rw [if_neg hcb];subst hst;refine go _ _ ⟨σ,hM.wide hKw,?_⟩;exact hF.put ⟨[],rfl,rfl⟩ hdlt
     ·cases hxof
   ·cases hxof
end
end
section
open Go.RowKit Go.Deep
def I.pot:I->Nat
 | .alloc .. | .box .. | .ld .. | .look .. | .lenM .. | .b2s ..=>1
 | _=>0
def Q.pot:Q->Nat
 | .i q=>q.pot
 | .st .. | .append .. | .mkV .. | .appV .. | .call .. | .upd .. | .del .. | .copy ..=>2
 | .slice _ _ _ _ (some _)=>2
 | .slice .. | .sub .. | .build .. | .mm ..=>0
 | _=>1
def Afl (kj ki:Nat):Bool:=(ki==2&&kj !=0)||(kj==2&&ki !=0)
def Aa2 (ops:Array Oper) (ps:List Nat):Option (List (Nat×Nat)) :=
 if (ps.length==ops.size)&&((ops.toList.zipIdx.all fun x=>(Eu x.1).all fun d=>decide (d<x.2))&&(P9 (ops.toList.map (·.dst)) &&
  ((List.range ops.size).all fun i=>(List.range i).all fun j =>
   ((Mo (ops.toList.map Eu) []).getD i 0).testBit j||(ops.getD j default).apart ops (ops.getD i default)))) then
  some ((List.range ops.size).flatMap fun i=>((List.range i).filter fun j=> !((Mo (ops.toList.map Eu) []).getD i 0).testBit j&&Afl (ps.getD j 0) (ps.getD i 0)).map fun j=>(j,i))
 else none
def Wx (rs:List Rec) (ds:List (List Oid)):List (Nat×Nat)->Prop
 | []=>True
 | p :: ps=>K4 (rs.getD p.2 (0,.any,[])) (rs.getD p.1 (0,.any,[])) (ds.getD p.2 []) (ds.getD p.1 [])/\Wx rs ds ps
theorem Uv {rs:List Rec} {ds:List (List Oid)}:∀ {bad:List (Nat×Nat)},Wx rs ds bad->∀ p∈bad,K4 (rs.getD p.2 (0,.any,[])) (rs.getD p.1 (0,.any,[])) (ds.getD p.2 []) (ds.getD p.1 [])
 | [],_,p,hp=>by cases hp
 | q :: ps,h,p,hp=>by
  rcases List.mem_cons.1 hp with rfl|hp
  ·exact h.1
  ·exact Uv h.2 p hp
inductive AC where
 | skip
 | region (xs:List X) (draw:Bool) (bad:List (Nat×Nat))
 | seq (a b:AC)
 | cond (c:Opd) (a b:AC)
 | block (id:Nat) (a:AC)
 | loop (a:AC)
 | exit (id:Nat)
 | ret
def Ck (l:Nat):Nat:=1000000+2*l
def L0:Code->Option Nat
 | .label l=>some l
 | _=>none
def Qm:Code->Option Nat
 | .seq a b=>match L0 a with
  | some l=>some l
  | none=>match Qm b with
   | some l=>if (findLabel a l).isNone then some l else none
   | none=>none
 | _=>none
def AC.exB (p:Nat->Bool):AC->Bool
 | .seq a b=>AC.exB p a&&AC.exB p b
 | .cond _ a b=>AC.exB p a&&AC.exB p b
 | .block _ a=>AC.exB p a
 | .loop a=>AC.exB p a
 | .exit id=>p id
 | _=>true
def AC.ofB (P:Program) (N:Nat):Bool->Code->Option AC
 | false,.skip=>some .skip
 | false,.region _ ops draw=>match X.ofL P N ops ops.toList with
  | some xs=>if draw then match Aa2 ops (xs.map (·.q.pot)) with
    | some bad=>some (.region xs true bad)
    | none=>none
   else some (.region xs false [])
  | none=>none
 | s,.seq a b=>match L0 a with
  | some l=>match s,AC.ofB P N false b with
   | true,some b=>if AC.exB (fun i=>decide (i<1000000)||i==Ck l) b then some (.block (Ck l+1) (.loop (.block (Ck l) (.seq b (.exit (Ck l+1)))))) else none
   | _,_=>none
  | none=>match AC.ofB P N false a,AC.ofB P N s b with
   | some a,some b=>if !s||AC.exB (fun i=>decide (i<1000000)) a then some (.seq a b) else none
   | _,_=>none
 | false,.cond c a b=>match Opd.of c,AC.ofB P N false a,AC.ofB P N false b with
  | some c,some a,some b=>some (.cond c a b)
  | _,_,_=>none
 | false,.block id a=>if id<1000000 then (AC.ofB P N false a).map (.block id) else none
 | false,.loop a=>(AC.ofB P N false a).map .loop
 | false,.exit id=>if id<1000000 then some (.exit id) else none
 | false,.goto l=>some (.exit (Ck l))
 | false,.scope c=>match Qm c with
  | some _=>AC.ofB P N true c
  | none=>none
 | false,.ret=>some .ret
 | _,_=>none
def AC.of (P:Program) (N:Nat) (c:Code):Option AC:=AC.ofB P N false c
inductive AE where
 | normal
 | exit (id:Nat)
 | ret
def AE.out:AE->Exit
 | .normal=>.normal
 | .exit id=>if id<1000000 then .exit id else .goto ((id - 1000000) / 2)
 | .ret=>.ret
def WeakG (G:World->Prop) (S S':St):Prop:=∀ (w0:World) (B:Mq) (N:Nat) (a:Act) (w:World),Ji G w0 B N S a w->Ji G w0 B N S' a w
def Ed (K:St->Prop) (R:AE->St->Prop):AE->St->Prop
 | .normal,S=>K S
 | e,S=>R e S
def Fn (id:Nat) (R:AE->St->Prop):AE->St->Prop
 | .exit i,S=>if i=id then R .normal S else R (.exit i) S
 | e,S=>R e S
def awp (P:Program) (G:World->Prop):AC->(AE->St->Prop)->St->Prop
 | .skip,R,S=>R .normal S
 | .region xs false _,R,S=>∃ rs f' ob',Ad6 P G S.gen 0 xs S.tm S.ob rs f' ob'/\R .normal ⟨f',ob',S.gen+xs.length⟩
 | .region xs true bad,R,S=>∃ rs ds f' ob',Zb P G S.gen 0 xs S.tm S.ob rs ds f' ob'/\Wx rs ds bad/\R .normal ⟨f',ob',S.gen+xs.length⟩
 | .seq a b,R,S=>awp P G a (Ed (fun S'=>∃ S'',WeakG G S' S''/\awp P G b R S'') R) S
 | .cond c a b,R,S=>(∃ t,c.ev S.tm=.bool t/\(t=true->awp P G a R S)/\(t=false->awp P G b R S))∨(∃ pos n,c.ev S.tm=.abool pos n/\((pos=true->n=0)->awp P G a R S)/\((pos=false->n=0)->awp P G b R S))
 | .block id a,R,S=>awp P G a (Fn id R) S
 | .loop a,R,S=>∃ (α:Type) (I:α->St->Prop) (μ:α->Nat),(∃ s S0,WeakG G S S0/\I s S0)/\∀ s S1,I s S1->awp P G a (Ed (fun S2=>∃ s' S3,WeakG G S2 S3/\I s' S3/\μ s'<μ s) R) S1
 | .exit id,R,S=>R (.exit id) S
 | .ret,R,S=>R .ret S
theorem B4 {P:Program} {G:World->Prop}:∀ {c:AC} {R R':AE->St->Prop} {S:St},(∀ e S,R e S->R' e S)->awp P G c R S->awp P G c R' S
 | .skip,_,_,_,h,hh=>h _ _ hh
 | .region _ false _,_,_,_,h,⟨rs,f',ob',h1,h3⟩=>⟨rs,f',ob',h1,h _ _ h3⟩
 | .region _ true _,_,_,_,h,⟨rs,ds,f',ob',h1,h2,h3⟩=>⟨rs,ds,f',ob',h1,h2,h _ _ h3⟩
 | .seq a b,_,_,_,h,hh=>B4 (c:=a) (fun e S hq=>by
   cases e with
   | normal=>obtain ⟨S',hw,hq⟩:=hq;exact ⟨S',hw,B4 (c:=b) h hq⟩
   | exit id=>exact h _ _ hq
   | ret=>exact h _ _ hq) hh
 | .cond c a b,_,_,_,h,.inl ⟨t,h1,h2,h3⟩=>.inl ⟨t,h1,fun e=>B4 (c:=a) h (h2 e),fun e=>B4 (c:=b) h (h3 e)⟩
 | .cond c a b,_,_,_,h,.inr ⟨p,n,h1,h2,h3⟩=>.inr ⟨p,n,h1,fun e=>B4 (c:=a) h (h2 e),fun e=>B4 (c:=b) h (h3 e)⟩
 | .block id a,R,R',_,h,hh=>B4 (c:=a) (fun e S hq=>by
   cases e with
   | normal=>exact h _ _ hq
   | exit i=>simp only [Fn] at hq ⊢;split <;> simp_all
   | ret=>exact h _ _ hq) hh
 | .loop a,_,_,_,h,⟨α,I,μ,h1,h2⟩=>⟨α,I,μ,h1,fun s S1 hs=>B4 (c:=a) (fun e S hq=>by
   cases e with
   | normal=>exact hq
   | exit id=>exact h _ _ hq
   | ret=>exact h _ _ hq) (h2 s S1 hs)⟩
 | .exit _,_,_,_,h,hh=>h _ _ hh
 | .ret,_,_,_,h,hh=>h _ _ hh
section
variable {P:Program} {G:World->Prop} {w0 w w':World} {N:Nat}
theorem Zi {c:Code} {Q:Exit->Act->World->Prop} {a:Act} {w:World} {α:Type} (I:α->Act->World->Prop) (μ:α->Nat) (s0:α) (h₀:I s0 a w)
  (round:∀ s a w,I s a w->c.wp P (Exit.then (fun a' w'=>∃ s',I s' a' w'/\μ s'<μ s) Q) a w):(Code.loop c).wp P Q a w:=by
 intro b k cs
 have key:∀ n s a w,μ s=n->I s a w ->
   ∃ e a' w',Q e a' w'/\Arrives P (lone (b.at a (.code c :: .inLoop c :: k)) cs w) b k cs e a' w':=by
  intro n
  induction n using Nat.strongRecOn with
  | _ n ih =>
   intro s a w hn hI;obtain ⟨e,a₁,w₁,hq,harr⟩:=round s a w hI b (.inLoop c :: k) cs;cases e with
   | normal =>
    obtain ⟨s',hI₁,hlt⟩:=hq;obtain ⟨e₂,a₂,w₂,hq₂,harr₂⟩:=ih (μ s') (hn▸hlt) s' a₁ w₁ rfl hI₁;exact ⟨e₂,a₂,w₂,hq₂,.of_steps (Steps.trans harr (.one step_inLoop)) harr₂⟩
   | exit id=>exact ⟨_,a₁,w₁,hq,.pass (x:=.inLoop c) rfl (fun _ _=>.inl (by simp)) harr⟩
   | goto l=>exact ⟨_,a₁,w₁,hq,.pass (x:=.inLoop c) rfl (fun _ _=>.inl (by simp)) harr⟩
   | ret=>exact ⟨_,a₁,w₁,hq,.pass (x:=.inLoop c) rfl (fun _ _=>.inl (by simp)) harr⟩
   | panic ch=>exact ⟨_,a₁,w₁,hq,.pass (x:=.inLoop c) rfl (fun _ _=>.inl (by simp)) harr⟩
   | outgrown=>exact ⟨_,a₁,w₁,hq,.pass (x:=.inLoop c) rfl (fun _ _=>.inl (by simp)) harr⟩
 obtain ⟨e,a',w',hq,harr⟩:=key _ s0 a w rfl h₀;exact ⟨e,a',w',hq,.of_steps (.one step_loop) harr⟩
theorem W5 {c rest:Code} {Q:Exit->Act->World->Prop} {a:Act} {w:World} (l:Nat) (J:Nat->Act->World->Prop) (hf:findLabel c l=some rest)
  (first:c.wp P (Exit.jump l (fun a w=>∃ n,J n a w) Q) a w)
  (pass:∀ n a w,J n a w->rest.wp P (Exit.jump l (fun a' w'=>∃ m,m<n/\J m a' w') Q) a w):(Code.scope c).wp P Q a w:=by
 intro b k cs;have hg:gotoIn l (.inScope c :: k)=some (.code rest :: .inScope c :: k):=by simp [gotoIn,hf]
 have key:∀ n a w,J n a w->∃ e a' w',Q e a' w'/\Arrives P (lone (b.at a (.code rest :: .inScope c :: k)) cs w) b k cs e a' w':=by
  intro n
  induction n using Nat.strongRecOn with
  | _ n ih =>
   intro a w hJ;obtain ⟨e,a₁,w₁,hq,harr⟩:=pass n a w hJ b (.inScope c :: k) cs;cases e with
   | normal=>exact ⟨.normal,a₁,w₁,hq,Steps.trans harr (.one step_inScope)⟩
   | exit id=>exact ⟨.exit id,a₁,w₁,hq,fun k' hk=>harr k' (by simp [exitTo,hk])⟩
   | goto l' =>
    obtain ⟨rfl,m,hlt,hJ'⟩:=hq;obtain ⟨e₂,a₂,w₂,hq₂,harr₂⟩:=ih m hlt a₁ w₁ hJ';exact ⟨e₂,a₂,w₂,hq₂,.of_steps (harr _ hg) harr₂⟩
   | ret=>exact ⟨_,a₁,w₁,hq,harr⟩
   | panic ch=>exact ⟨_,a₁,w₁,hq,harr⟩
   | outgrown=>exact ⟨_,a₁,w₁,hq,harr⟩
 obtain ⟨e,a₁,w₁,hq,harr⟩:=first b (.inScope c :: k) cs
 cases e with
 | normal=>exact ⟨.normal,a₁,w₁,hq,.head step_scope (Steps.trans harr (.one step_inScope))⟩
 | exit id=>exact ⟨.exit id,a₁,w₁,hq,fun k' hk=>.head step_scope (harr k' (by simp [exitTo,hk]))⟩
 | goto l' =>
  obtain ⟨rfl,n,hJ'⟩:=hq;obtain ⟨e₂,a₂,w₂,hq₂,harr₂⟩:=key n a₁ w₁ hJ';exact ⟨e₂,a₂,w₂,hq₂,.of_steps (.head step_scope (harr _ hg)) harr₂⟩
 | ret=>exact ⟨_,a₁,w₁,hq,.of_steps (.one step_scope) harr⟩
 | panic ch=>exact ⟨_,a₁,w₁,hq,.of_steps (.one step_scope) harr⟩
 | outgrown=>exact ⟨_,a₁,w₁,hq,.of_steps (.one step_scope) harr⟩
def okE (p:Nat->Bool):AE->Prop
 | .exit i=>p i=true
 | _=>True
theorem Dx {p:Nat->Bool}:∀ {c:AC} {R:AE->St->Prop} {S:St},c.exB p=true->awp P G c R S->awp P G c (fun e S=>okE p e/\R e S) S
 | .skip,_,_,_,h=>⟨trivial,h⟩
 | .region _ false _,_,_,_,⟨rs,f',ob',h1,h3⟩=>⟨rs,f',ob',h1,trivial,h3⟩
 | .region _ true _,_,_,_,⟨rs,ds,f',ob',h1,h2,h3⟩=>⟨rs,ds,f',ob',h1,h2,trivial,h3⟩
 | .seq a b,_,_,hp,h=>by
  rw [AC.exB,Bool.and_eq_true] at hp;refine B4 (c:=a) (fun e S hq=>?_) (Dx (c:=a) hp.1 h);cases e with
  | normal=>obtain ⟨_,S',hw,hq⟩:=hq;exact ⟨S',hw,Dx (c:=b) hp.2 hq⟩
  | exit id=>exact hq
  | ret=>exact hq
 | .cond c a b,_,_,hp,.inl ⟨t,h1,h2,h3⟩=>by
  rw [AC.exB,Bool.and_eq_true] at hp;exact .inl ⟨t,h1,fun e=>Dx (c:=a) hp.1 (h2 e),fun e=>Dx (c:=b) hp.2 (h3 e)⟩
 | .cond c a b,_,_,hp,.inr ⟨q,n,h1,h2,h3⟩=>by
  rw [AC.exB,Bool.and_eq_true] at hp;exact .inr ⟨q,n,h1,fun e=>Dx (c:=a) hp.1 (h2 e),fun e=>Dx (c:=b) hp.2 (h3 e)⟩
 | .block id a,_,_,hp,h=>by
  refine B4 (c:=a) (fun e S hq=>?_) (Dx (c:=a) hp h);cases e with
  | normal=>exact hq
  | exit i =>
   obtain ⟨h1,h2⟩:=hq;simp only [Fn] at h2 ⊢;split
   ·rename_i e;rw [if_pos e] at h2;exact ⟨trivial,h2⟩
   ·rename_i e;rw [if_neg e] at h2;exact ⟨h1,h2⟩
  | ret=>exact hq
 | .loop a,_,_,hp,⟨α,I,μ,h1,h2⟩=>⟨α,I,μ,h1,fun s S1 hs=>B4 (c:=a) (fun e S hq=>by
   cases e with
   | normal=>exact hq.2
   | exit id=>exact hq
   | ret=>exact hq) (Dx (c:=a) hp (h2 s S1 hs))⟩
 | .exit _,_,_,hp,h=>⟨hp,h⟩
 | .ret,_,_,_,h=>⟨trivial,h⟩
theorem Af3 {f:Nat->AV} {ob:Oid->Option Ob} {i:Oid} {q:Q} {r:Rec} (h:ev f ob i q=some r):r.1=0∨(r.1=1/\1<=q.pot)∨(r.1=2/\q.pot=2):=by
 unfold ev at h;split at h
 ·rename_i q;split at h
  ·rename_i v us he;obtain rfl:=osj h;cases us with
   | nil=>exact .inl rfl
   | cons u us =>
    refine .inr (.inl ⟨rfl,?_⟩)
    cases q <;> simp only [evN] at he <;> first
     | exact Nat.le_refl _
     | (exfalso;(repeat' split at he) <;> simp_all;done)
  ·split at h
   ·rename_i v he;obtain rfl:=osj h;refine .inr (.inl ⟨rfl,?_⟩);cases q <;> first|exact Nat.le_refl _|cases he
   ·cases h
 ·skip
  split at h
  ·obtain rfl:=osj h;exact .inr (.inr ⟨rfl,rfl⟩)
  ·cases h
 ·skip
  split at h
  ·obtain rfl:=osj h;exact .inr (.inl ⟨rfl,Nat.le_refl _⟩)
  ·cases h
 ·skip
  split at h
  ·obtain rfl:=osj h;exact .inr (.inl ⟨rfl,Nat.le_refl _⟩)
  ·cases h
 ·skip
  split at h
  ·obtain rfl:=osj h;dsimp only;split
   ·exact .inr (.inl ⟨rfl,by simp [Q.pot]⟩)
   ·exact .inr (.inr ⟨rfl,rfl⟩)
  ·cases h
 ·split at h
  ·obtain rfl:=osj h;exact .inl rfl
  ·split at h
   ·rename_i v us he;obtain rfl:=osj h;refine .inr (.inr ⟨rfl,?_⟩)
    have key:∀ (sz:Nat) (x:Opd) (lo hi mx:Option Opd),mx.isSome=true->Q.pot (.slice sz x lo hi mx)=2:=fun sz x lo hi mx h=>by
     cases mx with
     | none=>cases h
     | some z=>rfl
    unfold Gh at he;split at he
    ·split at he
     ·split at he
      ·rename_i hc;obtain ⟨_,_,_,_,c4⟩:=hc;exact key _ _ _ _ _ c4
      ·cases he
     ·cases he
    ·cases he
   ·cases h
 ·split at h
  ·obtain rfl:=osj h;exact .inl rfl
  ·cases h
 ·cases h
 ·split at h
  ·obtain rfl:=osj h;exact .inl rfl
  ·cases h
 ·split at h
  ·obtain rfl:=osj h;exact .inl rfl
  ·cases h
 ·split at h
  ·split at h
   ·split at h
    ·obtain rfl:=osj h;exact .inr (.inr ⟨rfl,rfl⟩)
    ·cases h
   ·cases h
  ·cases h
 ·split at h
  ·obtain rfl:=osj h;exact .inr (.inl ⟨rfl,Nat.le_refl _⟩)
  ·cases h
 ·unfold Io at h
  (repeat' split at h) <;> first|(cases h;done)|(obtain rfl:=osj h;exact .inr (.inl ⟨rfl,by simp [Q.pot]⟩))|(obtain rfl:=osj h;exact .inr (.inr ⟨rfl,rfl⟩))
 ·obtain rfl:=osj h;exact .inr (.inl ⟨rfl,Nat.le_refl _⟩)
 ·obtain rfl:=osj h;exact .inr (.inl ⟨rfl,Nat.le_refl _⟩)
 ·exact .inr (.inr ⟨Qn (r:=r.2) h,rfl⟩)
 ·exact .inr (.inr ⟨O2 (r:=r.2) h,rfl⟩)
 ·split at h
  ·obtain rfl:=osj h;exact .inr (.inl ⟨rfl,Nat.le_refl _⟩)
  ·cases h
 ·split at h
  ·obtain rfl:=osj h;exact .inr (.inr ⟨rfl,rfl⟩)
  ·cases h
theorem Zo {p:Bool} {n:Nat} {x:X} {f:Nat->AV} {ob:Oid->Option Ob} {r:Rec} (h:Et P G p n x f ob r):r.1=0∨(r.1=1/\1<=x.q.pot)∨(r.1=2/\x.q.pot=2):=by
 have key:∀ {i:Oid},EvR P G p f ob i x.q r->r.1=0∨(r.1=1/\1<=x.q.pot)∨(r.1=2/\x.q.pot=2):=by
  rintro i (((h|h)|⟨_,_,_,_,_,_,_,_,_,_,hq,_,_,_,_,hr⟩)|⟨_,_,_,_,_,hq,_,⟨hk,_⟩|⟨_,hk,_⟩⟩)
  ·exact Af3 h
  ·unfold evL at h;split at h
   ·rename_i hq;split at h
    ·obtain rfl:=osj h;rw [hq];exact .inr (.inl ⟨rfl,by simp [Q.pot]⟩)
    ·cases h
   ·cases h
  ·subst hr;rw [hq];exact .inr (.inl ⟨rfl,by simp [Q.pot]⟩)
  ·rw [hq];exact .inr (.inl ⟨hk,by simp [Q.pot]⟩)
  ·rw [hq];exact .inr (.inr ⟨hk,rfl⟩)
 unfold Et at h;split at h
 ·exact key h
 ·obtain ⟨c,_,h⟩:=h;split at h
  ·exact key h
  ·subst h;exact .inl rfl
theorem Adk {ops:Array Oper} {xs:List X} {rs:List Rec} {ds:List (List Oid)} {ps:List Nat} {bad:List (Nat×Nat)} (h:Aa2 ops ps=some bad) (hb:Wx rs ds bad) (hx:X.ofL P N ops ops.toList=some xs) (hr:xs.length=rs.length) (hd:xs.length=ds.length)
  (hk:∀ j,(rs.getD j (0,.any,[])).1=0∨((rs.getD j (0,.any,[])).1=1/\1<=ps.getD j 0)∨((rs.getD j (0,.any,[])).1=2/\ps.getD j 0=2)):Drawn ops xs rs ds:=by
 unfold Aa2 at h;split at h
 ·rename_i hc;obtain rfl:=osj h;simp only [Bool.and_eq_true,beq_iff_eq] at hc;obtain ⟨c1,c2,c3,c4⟩:=hc;refine Drawn.of hx hr hd c2 c3 (fun i j hi hj=>?_);rw [List.all_eq_true] at c4;have c5:=c4 i (by simpa using hi);rw [List.all_eq_true] at c5;have c6:=c5 j (by simpa using hj);rw [Bool.or_eq_true] at c6;by_cases hbit:((Mo (ops.toList.map Eu) []).getD i 0).testBit j=true
  ·exact .inl hbit
  ·refine .inr ⟨c6.resolve_left hbit,?_⟩;cases hq:Afl (ps.getD j 0) (ps.getD i 0) with
   | true=>exact Uv hb (j,i) (List.mem_flatMap.2 ⟨i,by simpa using hi,List.mem_map.2 ⟨j,List.mem_filter.2 ⟨by simpa using hj,by rw [Bool.and_eq_true];exact ⟨by simpa using hbit,hq⟩⟩,rfl⟩⟩)
   | false =>
    refine .inl ?_;have h1:=hk j;have h2:=hk i;simp only [Afl,Bool.or_eq_false_iff,Bool.and_eq_false_iff,beq_eq_false_iff_ne,bne_eq_false_iff_eq] at hq;omega
 ·cases h
theorem Vc {K:Act->World->Prop} {Q:Exit->Act->World->Prop} {id:Nat} {a:Act} {w:World} (h:Q (AE.out (.exit id)) a w):Exit.then K Q (AE.out (.exit id)) a w:=by
 simp only [AE.out] at h ⊢;split
 ·rename_i e;rw [if_pos e] at h;exact h
 ·rename_i e;rw [if_neg e] at h;exact h
def QR (G:World->Prop) (w0:World) (B:Mq) (N:Nat) (R:AE->St->Prop):Exit->Act->World->Prop:=fun e a w=>∃ e' S',e=AE.out e'/\R e' S'/\Ji G w0 B N S' a w
def Sw (P:Program) (G:World->Prop) (w0:World) (B:Mq) (N:Nat) (b:AC) (l:Nat) (R:AE->St->Prop) (n:Nat) (a:Act) (w:World):Prop :=
 ∃ (α:Type) (I:α->St->Prop) (μ:α->Nat) (s:α) (S1:St),μ s=n/\I s S1/\Ji G w0 B N S1 a w /\
  ∀ s S1,I s S1->awp P G (.block (Ck l) (.seq b (.exit (Ck l+1)))) (Ed (fun S2=>∃ s' S3,WeakG G S2 S3/\I s' S3/\μ s'<μ s) (Fn (Ck l+1) R)) S1
theorem Rf {B:Mq} {b:Code} {b':AC} {l:Nat} {R:AE->St->Prop} (hex:b'.exB (fun i=>decide (i<1000000)||i==Ck l)=true)
  (hb:∀ R S a w,awp P G b' R S->Ji G w0 B N S a w->b.wp P (QR G w0 B N R) a w) (n:Nat) (a:Act) (w:World) (hJ:Sw P G w0 B N b' l R n a w) :
  b.wp P (Exit.jump l (fun a' w'=>∃ m,m<n/\Sw P G w0 B N b' l R m a' w') (QR G w0 B N R)) a w:=by
 obtain ⟨α,I,μ,s,S1,hn,hI,hr,hround⟩:=hJ;have h0:=hround s S1 hI;simp only [awp] at h0;have h1:=Dx hex h0;refine Code.wp_mono (fun e a' w' hq=>?_) (hb _ S1 a w h1 hr);obtain ⟨e',S',rfl,⟨ho,hq⟩,hr'⟩:=hq;cases e' with
 | normal =>
  obtain ⟨S'',hw,hq⟩:=hq;have hq:R .normal S'':=by simpa [Fn,Ed] using hq
  exact ⟨.normal,S'',rfl,hq,hw _ _ _ _ _ hr'⟩
 | exit i =>
  have ho:i<1000000∨i=Ck l:=by simpa [okE] using ho
  by_cases hi:i=Ck l
  ·subst hi;have hq:∃ s' S3,WeakG G S' S3/\I s' S3/\μ s'<μ s:=by simpa [Fn,Ed] using hq
   obtain ⟨s',S3,g1,g2,g3⟩:=hq
   have ho:AE.out (.exit (Ck l))=.goto l:=by
    have h1:¬ Ck l<1000000:=by unfold Ck;omega
    have h2:(Ck l - 1000000) / 2=l:=by unfold Ck;omega
    simp only [AE.out,if_neg h1,h2]
   rw [ho];exact ⟨rfl,μ s',hn▸g3,α,I,μ,s',S3,rfl,g2,g1 _ _ _ _ _ hr',hround⟩
  ·have hlt:i<1000000:=by omega
   have h2:¬ i=Ck l+1:=by unfold Ck;omega
   have hq:R (.exit i) S':=by simpa [Fn,Ed,hi,h2] using hq
   have ho:AE.out (.exit i)=.exit i:=by simp only [AE.out,if_pos hlt]
   rw [ho];exact ⟨.exit i,S',ho.symm,hq,hr'⟩
 | ret=>exact ⟨.ret,S',rfl,hq,hr'⟩
theorem Ef [IsP P] {B:Mq} (hfol:P.follows .mixedOrders=true):∀ (c:Code),(∀ (ac:AC) (R:AE->St->Prop) (S:St) (a:Act) (w:World),AC.ofB P N false c=some ac->awp P G ac R S->Ji G w0 B N S a w->c.wp P (QR G w0 B N R) a w) /\
  ∀ (l:Nat) (ac:AC),AC.ofB P N true c=some ac->Qm c=some l->∃ b b',findLabel c l=some (.seq .skip b)/\b'.exB (fun i=>decide (i<1000000)||i==Ck l)=true /\
   (∀ R S a w,awp P G b' R S->Ji G w0 B N S a w->b.wp P (QR G w0 B N R) a w) /\
   ∀ R S a w,awp P G ac R S->Ji G w0 B N S a w->c.wp P (Exit.jump l (fun a w=>∃ n,Sw P G w0 B N b' l R n a w) (QR G w0 B N R)) a w
 | .skip=>⟨fun ac R S a w hc h hr=>by
   obtain rfl:=osj hc;exact wp_skip ⟨.normal,S,rfl,h,hr⟩,fun _ _ hc=>by cases hc⟩
 | .region id ops draw=>by
  refine ⟨fun ac R S a w hc h hr=>?_,fun _ _ hc=>by cases hc⟩;simp only [AC.ofB] at hc;split at hc
  ·rename_i xs hx;have hlen:=(Oj hx).1;split at hc
   ·rename_i hd;subst hd;split at hc
    ·rename_i bad hbad;obtain rfl:=osj hc;obtain ⟨rs,ds,f',ob',h1,h2,h3⟩:=h;have hsp:=M7 xs 0 S.tm S.ob rs ds f' ob' h1
     have hB:Drawn ops xs rs ds:=Adk hbad h2 hx hsp.1 hsp.2.1 (fun j=>by
      rcases Nat.lt_or_ge j rs.length with hj|hj
      ·have hxj:xs[j]? =some (xs[j]'(by have:=hsp.1;omega)):=gEg _;have hrj:rs[j]? =some rs[j]:=gEg _;obtain ⟨_,_,hst⟩:=hsp.2.2.2.2 j _ _ hxj hrj;have:=Zo hst
       simpa [gDg,hxj,hrj] using this
      ·exact .inl (by simp [gDg,List.getElem?_eq_none hj]))
     refine wp_region_any hfol ?_
     have hend:∀ a' w',(∃ σ,Mem0 G w0 ob' σ (fun m=>m<S.gen+ops.size) w'/\TmB B σ (imm ob' σ) w' f' a')->a'.tmps.size=N->a'.defers=[]->Ji G w0 B N ⟨f',ob',S.gen+xs.length⟩ a' w':=by
      intro a' w' hm hN hd;refine ⟨?_,hN,hd,?_⟩
      ·have:xs.length=ops.size:=by rw [← hlen];simp
       rw [this];exact hm
      ·intro i hi
       have:=Qq xs 0 S.tm S.ob rs ds f' ob' h1 (fun i hi=>by have:=hr.obg i hi;omega) xs.length i (by
        rw [hsp.2.2.2.1] at hi;intro he;apply hi;rw [← he];refine Ir 0 rs S.ob S.ob rfl (fun j r hj hne=>?_);exfalso;apply hne;have:=(gSi.1 hj).1;have:=hsp.1;simp;omega)
       simpa using this
     refine Aei (N:=N) (w0:=w0) hx h1 hB hr.obg (fun a' w' hm hN hd=>⟨.normal,⟨f',ob',S.gen+xs.length⟩,rfl,h3,hend a' w' hm hN hd⟩) ops.size _ a _ (by simp) (by simp) ?_ ?_ hr.size hr.defers
     ·intro k o _ hk;simp [Bz,Array.getD_eq_getD_getElem?] at hk;exfalso;rcases Nat.lt_or_ge k ops.size with h|h
      ·simp [h] at hk
      ·simp [Nat.not_lt.2 h] at hk
     ·obtain ⟨σ,q1,q2⟩:=hr.ex
      have hnone:∀ i,Bz (Array.replicate ops.size false) i=false:=by
       intro i;simp only [Bz,Array.getD_eq_getD_getElem?];rcases Nat.lt_or_ge i ops.size with h|h
       ·simp [h]
       ·simp [Nat.not_lt.2 h]
      rw [J5 0 rs S.ob (fun i _=>hnone i),Ml 0 xs rs S.tm (fun i _=>hnone i)];have hb:Below w.heap.size w { w with drawn:=w.drawn+1 }:=⟨rfl,rfl,rfl,Nat.le_refl _,fun _ _=>rfl⟩
      exact ⟨σ,q1.grow hb (fun n hn=>.inl hn),q2.later (Later.below hb)⟩
    ·cases hc
   ·rename_i hd;have hd':draw=false:=by simpa using hd
    subst hd';obtain rfl:=osj hc;obtain ⟨rs,f',ob',h1,h3⟩:=h;refine wp_region_list (Xw (N:=N) (w0:=w0) (S0:=S) ops.toList xs 0 S.tm S.ob rs f' ob' a w hx h1 (by simpa using hr.ex) hr.size hr.defers (by simpa using hr.obg) (fun a' w' hq=>⟨.normal,_,rfl,h3,?_⟩));rw [Nat.add_zero,hlen] at hq;exact hq
  ·cases hc
 | .seq x y=>by
  have ihx:=Ef (B:=B) hfol x;have ihy:=Ef (B:=B) hfol y;refine ⟨fun ac R S a w hc h hr=>?_,fun l ac hc hl=>?_⟩
  ·simp only [AC.ofB] at hc;cases hx:L0 x with
   | some l=>rw [hx] at hc;simp at hc
   | none =>
    rw [hx] at hc;dsimp only at hc;split at hc
    ·rename_i x' y' h1 h2;simp only [Bool.not_false,Bool.true_or,if_true] at hc;obtain rfl:=osj hc;refine wp_seq (Code.wp_mono (fun e a' w' hq=>?_) (ihx.1 x' _ S a w h1 h hr));obtain ⟨e',S',rfl,hq,hr'⟩:=hq;cases e' with
     | normal =>
      obtain ⟨S'',hw,hq⟩:=hq;exact ihy.1 y' R S'' a' w' h2 hq (hw w0 B N a' w' hr')
     | exit id=>exact Vc ⟨.exit id,S',rfl,hq,hr'⟩
     | ret=>exact ⟨.ret,S',rfl,hq,hr'⟩
    ·cases hc
  ·simp only [AC.ofB] at hc;cases hx:L0 x with
   | some l' =>
    simp only [Qm,hx] at hl;obtain rfl:=osj hl
    obtain rfl:x=.label l':=by
     cases x <;> simp [L0] at hx;rw [hx]
    rw [hx] at hc;dsimp only at hc;split at hc
    ·rename_i b' _ h1;split at hc
     ·rename_i hex;obtain rfl:=osj hc;have hy:∀ R S a w,awp P G b' R S->Ji G w0 B N S a w->y.wp P (QR G w0 B N R) a w:=fun R S a w=>ihy.1 b' R S a w h1
      refine ⟨y,b',by simp [findLabel],hex,hy,fun R S a w h hr=>?_⟩;obtain ⟨α,I,μ,⟨s0,S0,hw,hI⟩,hround⟩:=h;refine wp_seq (wp_label ?_);refine Code.wp_mono (fun e a' w' hq=>?_) (Rf hex hy (μ s0) a w ⟨α,I,μ,s0,S0,rfl,hI,hw _ _ _ _ _ hr,hround⟩);cases e with
      | goto l2=>exact ⟨hq.1,hq.2.imp fun _ h=>h.2⟩
      | _=>exact hq
     ·cases hc
    ·cases hc
   | none =>
    rw [hx] at hc;dsimp only at hc;simp only [Qm,hx] at hl;split at hl
    ·rename_i l' hs;split at hl
     ·rename_i hfn;obtain rfl:=osj hl;split at hc
      ·rename_i x' y' h1 h2;split at hc
       ·rename_i hex;obtain rfl:=osj hc;simp only [Bool.not_true,Bool.false_or] at hex;obtain ⟨b,b',f1,f2,f3,f4⟩:=ihy.2 l' y' h2 hs;refine ⟨b,b',by rw [findLabel,Option.isNone_iff_eq_none.1 hfn];exact f1,f2,f3,fun R S a w h hr=>?_⟩;refine wp_seq (Code.wp_mono (fun e a' w' hq=>?_) (ihx.1 x' _ S a w h1 (Dx hex h) hr));obtain ⟨e',S',rfl,⟨ho,hq⟩,hr'⟩:=hq;cases e' with
        | normal =>
         obtain ⟨S'',hw,hq⟩:=hq;exact f4 R S'' a' w' hq (hw w0 B N a' w' hr')
        | exit id =>
         have hlt:id<1000000:=by simpa [okE] using ho
         have ho:AE.out (.exit id)=.exit id:=by simp only [AE.out,if_pos hlt]
         rw [ho];exact ⟨.exit id,S',ho.symm,hq,hr'⟩
        | ret=>exact ⟨.ret,S',rfl,hq,hr'⟩
       ·cases hc
      ·cases hc
     ·cases hl
    ·cases hl
 | .cond c x y=>by
  have ihx:=Ef (B:=B) hfol x;have ihy:=Ef (B:=B) hfol y;refine ⟨fun ac R S a w hc h hr=>?_,fun _ _ hc=>by cases hc⟩;simp only [AC.ofB] at hc;split at hc
  ·rename_i c' x' y' h0 h1 h2;obtain rfl:=osj hc;obtain ⟨σ,m1,m2⟩:=hr.ex;have hv:=m2.opd h0;rcases h with ⟨t,ht,q1,q2⟩|⟨pos,n,ht,q1,q2⟩
   rotate_left
   ·rw [ht] at hv;obtain ⟨t,hv,hn⟩:=hv;refine wp_cond (t:=t) hv ?_;cases t with
    | true=>exact ihx.1 x' R S a w h1 (q1 fun e=>hn e.symm) hr
    | false=>exact ihy.1 y' R S a w h2 (q2 fun e=>hn e.symm) hr
   rw [ht] at hv;refine wp_cond (t:=t) hv ?_;cases t with
   | true=>exact ihx.1 x' R S a w h1 (q1 rfl) hr
   | false=>exact ihy.1 y' R S a w h2 (q2 rfl) hr
  ·cases hc
 | .block id x=>by
  have ihx:=Ef (B:=B) hfol x;refine ⟨fun ac R S a w hc h hr=>?_,fun _ _ hc=>by cases hc⟩;simp only [AC.ofB] at hc;split at hc
  ·rename_i hid;obtain ⟨x',h1,rfl⟩:=oms.1 hc;refine wp_block (Code.wp_mono (fun e a' w' hq=>?_) (ihx.1 x' _ S a w h1 h hr));obtain ⟨e',S',rfl,hq,hr'⟩:=hq;cases e' with
   | normal=>exact ⟨.normal,S',rfl,hq,hr'⟩
   | exit i =>
    simp only [Fn] at hq;by_cases hi:i<1000000
    ·have ho:AE.out (.exit i)=.exit i:=by simp only [AE.out,if_pos hi]
     rw [ho];simp only [Exit.inBlock];split
     ·rename_i e;rw [if_pos e] at hq;exact ⟨.normal,S',rfl,hq,hr'⟩
     ·rename_i e;rw [if_neg e] at hq;exact ⟨.exit i,S',ho.symm,hq,hr'⟩
    ·rw [if_neg oM] at hq;have ho:AE.out (.exit i)=.goto ((i - 1000000) / 2):=by simp only [AE.out,if_neg hi]
     rw [ho];exact ⟨.exit i,S',ho.symm,hq,hr'⟩
   | ret=>exact ⟨.ret,S',rfl,hq,hr'⟩
  ·cases hc
 | .loop x=>by
  have ihx:=Ef (B:=B) hfol x;refine ⟨fun ac R S a w hc h hr=>?_,fun _ _ hc=>by cases hc⟩;simp only [AC.ofB] at hc;obtain ⟨x',h1,rfl⟩:=oms.1 hc;obtain ⟨α,I,μ,⟨s0,S0,hw,hI⟩,hround⟩:=h;refine Zi (fun s a w=>∃ S1,I s S1/\Ji G w0 B N S1 a w) μ s0 ⟨S0,hI,hw w0 B N a w hr⟩ (fun s a1 w1 ⟨S1,hI1,hr1⟩=>?_);refine Code.wp_mono (fun e a' w' hq=>?_) (ihx.1 x' _ S1 a1 w1 h1 (hround s S1 hI1) hr1);obtain ⟨e',S',rfl,hq,hr'⟩:=hq;cases e' with
  | normal =>
   obtain ⟨s',S3,g1,g2,g3⟩:=hq;exact ⟨s',⟨S3,g2,g1 w0 B N a' w' hr'⟩,g3⟩
  | exit i=>exact Vc ⟨.exit i,S',rfl,hq,hr'⟩
  | ret=>exact ⟨.ret,S',rfl,hq,hr'⟩
 | .exit id=>by
  refine ⟨fun ac R S a w hc h hr=>?_,fun _ _ hc=>by cases hc⟩;simp only [AC.ofB] at hc;split at hc
  ·rename_i hlt;obtain rfl:=osj hc;exact wp_exit ⟨.exit id,S,by simp only [AE.out,if_pos hlt],h,hr⟩
  ·cases hc
 | .ret=>⟨fun ac R S a w hc h hr=>by
   obtain rfl:=osj hc;exact wp_ret ⟨.ret,S,rfl,h,hr⟩,fun _ _ hc=>by cases hc⟩
 | .scope c=>by
  have ih:=Ef (B:=B) hfol c;refine ⟨fun ac R S a w hc h hr=>?_,fun _ _ hc=>by cases hc⟩;simp only [AC.ofB] at hc;split at hc
  ·rename_i l hl;obtain ⟨b,b',f1,f2,f3,f4⟩:=ih.2 l ac hc hl;exact W5 l (Sw P G w0 B N b' l R) f1 (f4 R S a w h hr) (fun n a w hJ=>wp_seq (wp_skip (Rf f2 f3 n a w hJ)))
  ·cases hc
 | .goto l=>by
  refine ⟨fun ac R S a w hc h hr=>?_,fun _ _ hc=>by cases hc⟩;obtain rfl:=osj hc;have h1:¬ Ck l<1000000:=by unfold Ck;omega
  have h2:(Ck l - 1000000) / 2=l:=by unfold Ck;omega
  exact wp_goto ⟨.exit (Ck l),S,by simp only [AE.out,if_neg h1,h2],h,hr⟩
 | .rangeFunc _ _ _ _=>⟨fun _ _ _ _ _ hc=>(by cases hc),fun _ _ hc=>by cases hc⟩
 | .label _=>⟨fun _ _ _ _ _ hc=>(by cases hc),fun _ _ hc=>by cases hc⟩
 | .refuse _=>⟨fun _ _ _ _ _ hc=>(by cases hc),fun _ _ hc=>by cases hc⟩
theorem M6 [IsP P] {B:Mq} (hfol:P.follows .mixedOrders=true) (c:Code) (ac:AC) (R:AE->St->Prop) (S:St) (a:Act) (w:World) (hc:AC.of P N c=some ac) (h:awp P G ac R S) (hr:Ji G w0 B N S a w) :
  c.wp P (fun e a w=>∃ e' S',e=AE.out e'/\R e' S'/\Ji G w0 B N S' a w) a w:=(Ef hfol c).1 ac R S a w hc h hr
end
end
section
open Go.RowKit Go.Deep
inductive Res where
 | tmp (t:Nat)
 | cell (t:Nat) (one:Bool) (m:Nat)
def Res.of (P:Program):ResultVar->Option Res
 | .tmp t=>some (.tmp t)
 | .cell t ty=>(Id P ty).map fun x=>.cell t x.1 x.2
def Res.ofL (P:Program):List ResultVar->Option (List Res)
 | []=>some []
 | r :: rs=>match Res.of P r,Res.ofL P rs with
  | some x,some xs=>some (x :: xs)
  | _,_=>none
def Res.ev (f:Nat->AV) (ob:Oid->Option Ob):Res->Option AV
 | .tmp t=>some (f t)
 | .cell t one m=>match f t with
  | .box i k=>match ob i with
   | some (.cells _ cs)=>Cz one m k cs
   | _=>none
  | .elt i j k=>match ob i with
   | some (.arr _ t xs)=>match xs[j]? with
    | some y=>Cz one m k (t.av y)
    | none=>none
   | _=>none
  | _=>none
def Res.evL (f:Nat->AV) (ob:Oid->Option Ob):List Res->Option (List AV)
 | []=>some []
 | r :: rs=>match r.ev f ob,Res.evL f ob rs with
  | some x,some xs=>some (x :: xs)
  | _,_=>none
def Jd (ob:Oid->Option Ob):AV->Option RL
 | .int k n=>some (.sc (.int k n))
 | .bool b=>some (.sc (.bool b))
 | .str s=>some (.sc (.str s))
 | .nils=>some (.sc .nils)
 | .err b o=>some (.sc (.err b o))
 | .own i _ off len=>match ob i with
  | some (.arr e u xs)=>if off=0/\len<=xs.length then some (.new e u (xs.take len)) else none
  | _=>none
 | _=>none
def Agn (ob:Oid->Option Ob) (c:AV) (l:RL):Prop :=
 ∃ (i:Oid) (t:Ty) (len:Nat) (e e':TypeId) (u:Ty) (n:Nat) (cs:List AV) (xss:List (List u.D)),c=.own i t 0 len/\ob i=some (.vec e 1 n cs)/\len<=n/\l=.newM e e' u xss/\u.flat=true/\xss.length=len /\
  ∀ (k:Nat) (xs:List u.D),xss[k]? =some xs->∃ (i':Oid) (t':Ty) (len':Nat) (ys:List u.D),cs[k]? =some (.own i' t' 0 len')/\ob i'=some (.arr e' u ys)/\len'<=ys.length/\xs=ys.take len'
def LeafR (vs:List Value) (ob:Oid->Option Ob) (c:AV) (l:RL):Prop :=
 (Jd ob c=some l∨(∃ v t xs i k,c=.giv v t xs/\l=.arg i k/\Rs vs i k=some v)∨∃ e t,c=.nils/\l=.new e t []/\t.flat=true)∨(Agn ob c l∨∃ e e' u,c=.nils/\l=.newM e e' u []/\u.flat=true)
def LeavesR (vs:List Value) (ob:Oid->Option Ob):List AV->List RL->Prop
 | [],ls=>ls=[]
 | c :: cs,ls=>∃ l ls',ls=l :: ls'/\LeafR vs ob c l/\LeavesR vs ob cs ls'
def PartsR (vs:List Value) (ob:Oid->Option Ob):List AV->List (Bool×List RL)->Prop
 | [],ps=>ps=[]
 | .agg cs :: r,ps=>∃ ls ps',ps=(true,ls) :: ps'/\LeavesR vs ob cs ls/\PartsR vs ob r ps'
 | c :: r,ps=>∃ l ps',ps=(false,[l]) :: ps'/\LeafR vs ob c l/\PartsR vs ob r ps'
def Rb:List AV->List Oid
 | []=>[]
 | .own i _ _ _ :: r=>i :: Rb r
 | _ :: r=>Rb r
def N0 (ob:Oid->Option Ob):List AV->List Oid
 | []=>[]
 | .own i _ _ len :: r=>(match ob i with
  | some (.vec _ _ _ cs)=>i :: Rb (cs.take len)
  | _=>[i])++N0 ob r
 | _ :: r=>N0 ob r
def Ja:List AV->List AV
 | []=>[]
 | .agg cs :: r=>cs++Ja r
 | c :: r=>c :: Ja r
def RetOK (vs:List Value) (rs:List Res) (S:St) (r:RV):Prop :=
 ∃ avs ps,Res.evL S.tm S.ob rs=some avs/\PartsR vs S.ob avs ps/\(N0 S.ob (Ja avs)).Nodup/\r=⟨decide (rs.length≠1),ps⟩
def St.init (args:List AV):St:=⟨fun i=>args.getD i .any,fun _=>none,1⟩
def Ak:List (Nat×AV)->Nat->AV
 | [],_=>.any
 | (j,v) :: r,i=>if i=j then v else Ak r i
theorem Xp {ob:Oid->Option Ob} {c:AV} {l:RL} (h:Jd ob c=some l):l.fi=false:=by
 unfold Jd at h
 (repeat' split at h) <;> first|(cases h;done)|(obtain rfl:=osj h;rfl)
theorem R0 {vs:List Value} {ob:Oid->Option Ob} {c:AV} {l:RL} (h:LeafR vs ob c l):l.fi=false:=by
 rcases h with (h|⟨_,_,_,_,_,_,rfl,_⟩|⟨_,_,_,rfl,_⟩)|⟨_,_,_,_,_,_,_,_,_,_,_,_,rfl,_⟩|⟨_,_,_,_,rfl,_⟩
 ·exact Xp h
 ·rfl
 ·rfl
 ·rfl
 ·rfl
theorem Nt {vs:List Value} {ob:Oid->Option Ob}:∀ {cs:List AV} {ls:List RL},LeavesR vs ob cs ls->∀ d∈ls,d.fi=false
 | [],ls,h=>by
  obtain rfl:ls=[]:=h;simp
 | c :: cs,ls,h=>by
  obtain ⟨l,ls',rfl,h1,h2⟩:=h;intro d hm;rcases List.mem_cons.1 hm with rfl|hm
  ·exact R0 h1
  ·exact Nt h2 d hm
theorem Iu {vs:List Value} {ob:Oid->Option Ob} {c:AV} (hc:¬ ∃ cs,c=.agg cs) (r:List AV) (ps:List (Bool×List RL)):PartsR vs ob (c :: r) ps=∃ l ps',ps=(false,[l]) :: ps'/\LeafR vs ob c l/\PartsR vs ob r ps':=by
 cases c <;> first|rfl|exact absurd ⟨_,rfl⟩ hc
theorem Le {vs:List Value} {ob:Oid->Option Ob}:∀ {cs:List AV} {ps:List (Bool×List RL)},PartsR vs ob cs ps->∀ d∈ps.flatMap (·.2),d.fi=false
 | [],ps,h,d=>by
  obtain rfl:ps=[]:=h;simp
 | c :: cs,ps,h,d=>by
  by_cases hagg:∃ ds,c=.agg ds
  ·obtain ⟨ds,rfl⟩:=hagg;obtain ⟨ls,qs,rfl,h1,h2⟩:=h;rw [List.flatMap_cons,List.mem_append];rintro (hm|hm)
   ·exact Nt h1 d hm
   ·exact Le h2 d hm
  ·rw [Iu hagg] at h;obtain ⟨l,qs,rfl,h1,h2⟩:=h;rw [List.flatMap_cons,List.mem_append];rintro (hm|hm)
   ·rw [List.mem_singleton.1 hm];exact R0 h1
   ·exact Le h2 d hm
section
variable {P:Program} {G:World->Prop} {w0 w w':World} {ob:Oid->Option Ob} {σ:Oid->Option Loc} {K:Nat->Prop} {im:Nat->Prop}
theorem Mk (hM:Mem0 G w0 ob σ K w):∀ {idl:List (Option Oid×Loc)},(∀ x∈idl,(x.1=none->x.2=.nil)/\∀ i,x.1=some i->∃ o,ob i=some o/\σ i=some x.2)->(idl.filterMap (·.1)).Nodup->Fe (idl.map (·.2))
 | [],_,_=>trivial
 | x :: idl,h,nd=>by
  obtain ⟨q1,q2⟩:=h x (by simp);cases hx:x.1 with
  | none =>
   rw [List.filterMap_cons_none hx] at nd;refine ⟨fun b c s e=>?_,Mk hM (fun y hy=>h y (by simp [hy])) nd⟩;have e:x.2=.at_ b c s:=e;rw [q1 hx] at e;cases e
  | some i =>
   rw [List.filterMap_cons_some hx] at nd;obtain ⟨n1,n2⟩:=List.nodup_cons.1 nd;refine ⟨fun b c s e c' s' hin=>?_,Mk hM (fun y hy=>h y (by simp [hy])) n2⟩;obtain ⟨y,hy,ey⟩:=List.mem_map.1 hin;have e:x.2=.at_ b c s:=e;have ey:y.2=.at_ b c' s':=ey;obtain ⟨o,g1,g2⟩:=q2 i hx;obtain ⟨r1,r2⟩:=h y (by simp [hy]);cases hy1:y.1 with
   | none=>rw [r1 hy1] at ey;cases ey
   | some j =>
    obtain ⟨o',g3,g4⟩:=r2 j hy1;rw [e] at g2;rw [ey] at g4;have:=hM.inj i j b c s c' s' o o' g1 g3 g2 g4;subst this;exact n1 (List.mem_filterMap.2 ⟨y,hy,hy1⟩)
theorem Te {i:Oid} {t:Ty} {len:Nat} {u:Value} {im':Nat->Prop} (h1:AV.Rep σ im' w (.own i t 0 len) u):∃ l,σ i=some l/\u=l.val len/\(l=.nil->len=0):=by
 rcases h1 with ⟨g1,_,g3,g4⟩|⟨b,cap,g1,_,g4⟩|⟨_,_,g,_⟩
 rotate_left
 rotate_left
 ·exact absurd rfl g
 ·exact ⟨.nil,g1,g4,fun _=>g3⟩
 ·exact ⟨.at_ b cap t.size,g1,by simpa [Loc.val] using g4,fun h=>by cases h⟩
theorem Pd {vs0:List Value} (hM:Mem0 G w0 ob σ K w):∀ {cs:List AV} {ls:List RL} {us:List Value},LeavesR vs0 ob cs ls->AV.RepL σ (imm ob σ) w cs us ->
  ∃ idl:List (Option Oid×Loc),RL.RepL w0.heap.size im vs0 w ls us (idl.map (·.2))/\idl.filterMap (·.1)=N0 ob cs/\∀ x∈idl,(x.1=none->x.2=.nil)/\∀ i,x.1=some i->∃ o,ob i=some o/\σ i=some x.2
 | [],ls,us,h,hr=>by
  obtain rfl:ls=[]:=h;exact ⟨[],⟨hr,rfl⟩,rfl,fun _ h=>by cases h⟩
 | c :: cs,ls,us,h,⟨u,us',e,h1,h2⟩=>by
  subst e;obtain ⟨l,ls',rfl,q0,q2⟩:=h;obtain ⟨idl,r1,r3,r2⟩:=Pd hM q2 h2
  have sc:∀ {d:AV},d.scal=true->l=.sc d->AV.Rep (fun _=>none) im w d u->N0 ob (c :: cs)=N0 ob cs->∃ idl:List (Option Oid×Loc),RL.RepL w0.heap.size im vs0 w (l :: ls') (u :: us') (idl.map (·.2))/\idl.filterMap (·.1)=N0 ob (c :: cs)/\∀ x∈idl,(x.1=none->x.2=.nil)/\∀ i,x.1=some i->∃ o,ob i=some o/\σ i=some x.2:=by
   intro d hd hl hr he;subst hl;exact ⟨idl,⟨u,us',rfl,hr,hd,r1⟩,by rw [he];exact r3,r2⟩
  rcases q0 with (q1|⟨v,t,xs,i,k,rfl,rfl,hv⟩|⟨e,t,rfl,rfl,hfl⟩)|⟨i,t,len,e,e',u0,n,cs0,xss,rfl,hj,hle,rfl,hfl,hxl,hrow⟩|⟨e,e',u0,rfl,rfl,hfl⟩
  ·unfold Jd at q1;split at q1
   ·exact sc rfl (osj q1).symm h1 rfl
   ·exact sc rfl (osj q1).symm h1 rfl
   ·exact sc rfl (osj q1).symm h1 rfl
   ·exact sc rfl (osj q1).symm h1 rfl
   ·exact sc rfl (osj q1).symm h1 rfl
   ·rename_i i u0 off len;split at q1
    ·rename_i e v xs hj;split at q1
     ·rename_i hc;obtain ⟨rfl,hle⟩:=hc;obtain rfl:=osj q1;have hlen:(xs.take len).length=len:=by rw [List.length_take];omega
      obtain ⟨l,g1,g2,g3⟩:=Te h1;obtain ⟨hfl,hown,hs⟩:=hM.obs i _ _ hj g1;have hown':=Lp hfl hown hle g3;refine ⟨(some i,l) :: idl,⟨l,idl.map (·.2),us',by rw [hlen,g2],rfl,hfl,by rw [hlen];exact hown',hs,r1⟩,?_,fun x hx=>?_⟩
      ·rw [show ((some i,l) :: idl).filterMap (·.1)=i :: idl.filterMap (·.1) from rfl,r3];simp only [N0,hj,List.singleton_append]
      ·rcases List.mem_cons.1 hx with rfl|hx
       ·exact ⟨fun h=>(by cases h),fun i' e=>(by cases e;exact ⟨_,hj,g1⟩)⟩
       ·exact r2 x hx
     ·cases q1
    ·cases q1
   ·cases q1
  ·obtain ⟨rfl,_⟩:=h1;exact ⟨idl,⟨_,us',rfl,hv,r1⟩,r3,r2⟩
  ·obtain rfl:u=.slice none 0 0:=h1;refine ⟨(none,.nil) :: idl,⟨.nil,idl.map (·.2),us',rfl,rfl,hfl,Ie w w0.heap.size e t.size,fun _ _ _ h=>(nomatch h),r1⟩,by rw [show ((none,Loc.nil) :: idl).filterMap (·.1)=idl.filterMap (·.1) from rfl,r3];rfl,fun x hx=>?_⟩;rcases List.mem_cons.1 hx with rfl|hx
   ·exact ⟨fun _=>rfl,fun _ e=>by cases e⟩
   ·exact r2 x hx
  ·obtain ⟨l,g1,g2,g3⟩:=Te h1;obtain ⟨vs,hown,p2,p3,hs⟩:=hM.obs i _ _ hj g1;have hvn:vs.length=n:=by have:=hown.1;omega
   have hcn:cs0.length=n:=by rw [← p2.length];exact hvn
   have hown':ownsV w w0.heap.size e 1 (l.val len) len (vs.take (len*1)):=hown.take hle (fun g cap e=>by
    cases l with
    | nil=>cases e
    | at_ b c s=>cases e;rfl) (fun e=>by
    cases l with
    | nil=>rfl
    | at_ b c s=>cases e)
   subst hxl
   have hkid:∀ k,k<xss.length->∃ x:Oid×Loc,∃ (t':Ty) (len':Nat) (ys:List u0.D),cs0[k]? =some (.own x.1 t' 0 len')/\ob x.1=some (.arr e' u0 ys)/\len'<=ys.length/\xss[k]? =some (ys.take len')/\σ x.1=some x.2/\vs[k]? =some (x.2.val len')/\(x.2=.nil->len'=0):=by
    intro k hk;obtain ⟨i',t',len',ys,a1,a2,a3,a4⟩:=hrow k _ (gEg hk);obtain ⟨v,hv,hr⟩:=p2.get a1;obtain ⟨l',b1,b2,b3⟩:=Te hr;exact ⟨(i',l'),t',len',ys,a1,a2,a3,by rw [gEg hk,a4],b1,by rw [hv,b2],b3⟩
   have hkid':∃ g:Nat->Oid×Loc,∀ k,k<xss.length->∃ (t':Ty) (len':Nat) (ys:List u0.D),cs0[k]? =some (.own (g k).1 t' 0 len')/\ob (g k).1=some (.arr e' u0 ys)/\len'<=ys.length/\xss[k]? =some (ys.take len')/\σ (g k).1=some (g k).2/\vs[k]? =some ((g k).2.val len')/\((g k).2=.nil->len'=0):=by
    rcases Nat.eq_zero_or_pos xss.length with h0|h0
    ·exact ⟨fun _=>(((0,0),0),.nil),fun k hk=>by omega⟩
    ·have:Inhabited (Oid×Loc):=⟨(((0,0),0),.nil)⟩
     exact Deep.choose_lt hkid
   obtain ⟨g,hg⟩:=hkid'
   have hids:Rb (cs0.take xss.length)=(List.range xss.length).map fun k=>(g k).1:=by
    have key:∀ (m:Nat) (cs:List AV) (h:Nat->Oid),cs.length=m->(∀ k,k<m->∃ t' len',cs[k]? =some (.own (h k) t' 0 len'))->Rb cs=(List.range m).map h:=by
     intro m
     induction m with
     | zero=>intro cs h hl _;obtain rfl:=List.length_eq_zero_iff.1 hl;rfl
     | succ m ih =>
      intro cs h hl hk;cases cs with
      | nil=>simp at hl
      | cons c cs =>
       obtain ⟨t',len',h0⟩:=hk 0 oM;obtain rfl:=osj h0;rw [List.range_succ_eq_map,List.map_cons,List.map_map];simp only [Rb];rw [ih cs (fun k=>h (k+1)) (by simpa using hl) (fun k hk'=>by simpa using hk (k+1) oM)];rfl
    refine key _ _ _ (by rw [List.length_take];omega) fun k hk=>?_
    obtain ⟨t',len',_,a1,_⟩:=hg k hk;exact ⟨t',len',by rw [List.getElem?_take,if_pos hk];exact a1⟩
   refine ⟨(some i,l) :: (((List.range xss.length).map fun k=>(some (g k).1,(g k).2))++idl),⟨l,(List.range xss.length).map fun k=>(g k).2,idl.map (·.2),us',vs.take (xss.length*1),by rw [g2],by simp,⟨⟨by simp,hfl⟩,⟨hown',hs⟩,fun k xs l' hk hl'=>?_⟩,r1⟩,?_,fun x hx=>?_⟩
   ·have hlt:=(gSi.1 hk).1;obtain ⟨t',len',ys,a1,a2,a3,a4,a5,a6,a7⟩:=hg k hlt;rw [List.getElem?_map,List.getElem?_range hlt] at hl';obtain rfl:=osj hl';rw [hk] at a4;obtain rfl:=osj a4;have hlen:(ys.take len').length=len':=by rw [List.length_take];omega
    obtain ⟨_,hown2,hs2⟩:=hM.obs _ _ _ a2 a5;rw [hlen];exact ⟨by rw [List.getElem?_take,if_pos oM];exact a6,Lp hfl hown2 a3 a7,hs2⟩
   ·rw [show ((some i,l) :: (((List.range xss.length).map fun k=>(some (g k).1,(g k).2))++idl)).filterMap (·.1)=i :: (((List.range xss.length).map fun k=>(some (g k).1,(g k).2))++idl).filterMap (·.1) from rfl,List.filterMap_append,r3];simp only [N0,hj,hids,List.filterMap_map,List.cons_append];congr 2;rw [← List.filterMap_eq_map];rfl
   ·rcases List.mem_cons.1 hx with rfl|hx
    ·exact ⟨fun h=>(by cases h),fun i' e=>(by cases e;exact ⟨_,hj,g1⟩)⟩
    ·rcases List.mem_append.1 hx with hx|hx
     ·obtain ⟨k,hk,rfl⟩:=List.mem_map.1 hx;obtain ⟨t',len',ys,a1,a2,a3,a4,a5,a6,a7⟩:=hg k (by simpa using hk);exact ⟨fun h=>(by cases h),fun i' e=>(by cases e;exact ⟨_,a2,a5⟩)⟩
     ·exact r2 x hx
  ·obtain rfl:u=.slice none 0 0:=h1;refine ⟨(none,.nil) :: idl,⟨.nil,[],idl.map (·.2),us',[],rfl,rfl,⟨⟨rfl,hfl⟩,⟨Ie w w0.heap.size e 1,fun _ _ _ h=>nomatch h⟩,fun k xs l h=>by simp at h⟩,r1⟩,by rw [show ((none,Loc.nil) :: idl).filterMap (·.1)=idl.filterMap (·.1) from rfl,r3];rfl,fun x hx=>?_⟩;rcases List.mem_cons.1 hx with rfl|hx
   ·exact ⟨fun _=>rfl,fun _ e=>by cases e⟩
   ·exact r2 x hx
theorem Lf {vs0:List Value}:∀ {avs:List AV} {ps:List (Bool×List RL)} {us:List Value},PartsR vs0 ob avs ps->AV.RepL σ im w avs us ->
  ∃ vs,LeavesR vs0 ob (Ja avs) (ps.flatMap (·.2))/\AV.RepL σ im w (Ja avs) vs/\Ec ps vs=us
 | [],ps,us,h,hr=>by
  obtain rfl:ps=[]:=h;exact ⟨[],rfl,rfl,hr.symm⟩
 | c :: r,ps,us,h,⟨u,us',e,h1,h2⟩=>by
  subst e
  have app:∀ (xs ys:List AV) (l m:List RL),LeavesR vs0 ob xs l->LeavesR vs0 ob ys m->LeavesR vs0 ob (xs++ys) (l++m):=by
   intro xs
   induction xs with
   | nil=>intro ys l m hl hm;obtain rfl:l=[]:=hl;simpa using hm
   | cons x xs ih =>
    rintro ys l m ⟨a,b,rfl,q1,q2⟩ hm;exact ⟨a,b++m,rfl,q1,ih ys _ _ q2 hm⟩
  have len:∀ (xs:List AV) (l:List RL),LeavesR vs0 ob xs l->l.length=xs.length:=by
   intro xs
   induction xs with
   | nil=>intro l hl;obtain rfl:l=[]:=hl;rfl
   | cons x xs ih =>
    rintro l ⟨a,b,rfl,q1,q2⟩;simp [ih _ q2]
  by_cases hagg:∃ cs,c=.agg cs
  ·obtain ⟨cs,rfl⟩:=hagg;obtain ⟨ls,ps',rfl,q1,q2⟩:=h;obtain ⟨vs,r1,r2,r3⟩:=Lf q2 h2;obtain ⟨ws,e1,e2⟩:=h1;have hwl:ls.length=ws.length:=by rw [len _ _ q1,e2.length]
   refine ⟨ws++vs,?_,e2.append r2,?_⟩
   ·simp only [Ja,List.flatMap_cons];exact app _ _ _ _ q1 r1
   ·simp only [Ec,if_true];rw [List.take_left' hwl.symm,List.drop_left' hwl.symm,r3,e1]
  ·rw [Iu hagg] at h;obtain ⟨l,ps',rfl,q1,q2⟩:=h
   have hf:Ja (c :: r)=c :: Ja r:=by
    cases c <;> first|rfl|exact absurd ⟨_,rfl⟩ hagg
   obtain ⟨vs,r1,r2,r3⟩:=Lf q2 h2;refine ⟨u :: vs,?_,?_,?_⟩
   ·rw [hf];exact ⟨l,_,rfl,q1,r1⟩
   ·rw [hf];exact ⟨u,vs,rfl,h1,r2⟩
   ·simp [Ec,r3]
def Ui (tmps:Array Value):ResultVar->Sem Value
 | .tmp t=>pure (tmps.getD t undef)
 | .cell a t=>do loadVar t (← asAddr (tmps.getD a undef))
theorem Jl {fn:Func} {tmps:Array Value} {us:List Value} (h:(fn.results.toList.mapM (Ui tmps)).run P w=.ok us w) (hl:us.length=fn.results.size) :
  (results fn tmps).run P w=.ok (if fn.results.size=1 then us.headD undef else .tuple us.toArray) w:=by
 have e:results fn tmps=(do let vs ← fn.results.mapM (Ui tmps);pure (if h:vs.size=1 then vs[0] else .tuple vs)):=rfl;rw [e,Array.mapM_eq_mapM_toList];simp only [Sem.run_bind,Sem.run_map,h,Result.andThen_ok,Sem.run_pure];by_cases h1:fn.results.size=1
 ·have:us.toArray.size=1:=by simp [hl,h1]
  rw [dif_pos this,if_pos h1];cases us with
  | nil=>simp at this
  | cons u us=>rfl
 ·rw [dif_neg (by simp [hl,h1]),if_neg h1]
theorem Res.run {f:Nat->AV} {a:Act} (hM:Mem0 G w0 ob σ K w) (hF:TmRep σ (imm ob σ) w f a) {r:ResultVar} {x:Res} {c:AV} (h:Res.of P r=some x) (he:x.ev f ob=some c) :
  ∃ u,(Ui a.tmps r).run P w=.ok u w/\AV.Rep σ (imm ob σ) w c u:=by
 cases r with
 | tmp t =>
  obtain rfl:=osj h;obtain rfl:=osj he;exact ⟨_,rfl,hF t⟩
 | cell t ty =>
  obtain ⟨⟨one,m⟩,h1,rfl⟩:=oms.1 h;simp only [Res.ev] at he;split at he
  ·rename_i i k hb;have hv:=hF t;rw [hb] at hv;obtain ⟨b,cap,sz,e1,e2⟩:=hv;split at he
   ·rename_i ty' cs hj;obtain ⟨vs,g1,g2,_⟩:=hM.obs i _ _ hj e1
    obtain ⟨u,hu,hr⟩:=Ks (P:=P) (w:=w) (σ:=σ) (im:=imm ob σ) (ad:=⟨b,k,none⟩) h1 he (fun j d hd=>by
     obtain ⟨u,hu,hr⟩:=g2.get hd;refine ⟨u,?_,hr⟩;rw [A4];simp only [World.cell?,g1]
     simpa using hu)
    refine ⟨u,?_,hr⟩;simp only [Instr.loadAt,Instr.sureAddr,Sem.run_bind,Sem.run_pure,Result.andThen_ok] at hu;simp [Ui,e2,asAddr,hu]
   ·cases he
  ·rename_i i e k hb;have hv:=hF t;rw [hb] at hv;obtain ⟨b,cap,sz,e1,e2⟩:=hv;split at he
   ·rename_i et t' xs hj;split at he
    ·rename_i y hy;obtain ⟨hfl,hown,hsz⟩:=hM.obs i _ _ hj e1;obtain rfl:=hsz b cap sz rfl
     obtain ⟨u,hu,hr⟩:=Ks (P:=P) (w:=w) (σ:=σ) (im:=imm ob σ) (ad:=⟨b,e*t'.size+k,none⟩) h1 he (fun j d hd=>by
      obtain ⟨u,hu,hr⟩:=(Ty.enc_rep (σ:=σ) (im:=imm ob σ) (w:=w) y hfl).get hd;refine ⟨u,?_,hr⟩;rw [A4,Nat.add_assoc];exact J9 hfl hown hy hu)
     refine ⟨u,?_,hr⟩;simp only [Instr.loadAt,Instr.sureAddr,Sem.run_bind,Sem.run_pure,Result.andThen_ok] at hu;simp [Ui,e2,asAddr,hu]
    ·cases he
   ·cases he
  ·cases he
theorem LeafR.wide {vs:List Value} {ob:Oid->Option Ob} {c:AV} {l:RL} (h:LeafR [] ob c l):LeafR vs ob c l:=by
 rcases h with (h|⟨_,_,_,i,k,_,_,hv⟩|h)|h
 ·exact .inl (.inl h)
 ·cases k <;> simp [Rs] at hv
 ·exact .inl (.inr (.inr h))
 ·exact .inr h
theorem LeavesR.wide {vs:List Value} {ob:Oid->Option Ob}:∀ {cs:List AV} {ls:List RL},LeavesR [] ob cs ls->LeavesR vs ob cs ls
 | [],_,h=>h
 | _ :: _,_,⟨l,ls',e,h1,h2⟩=>⟨l,ls',e,h1.wide,h2.wide⟩
theorem PartsR.wide {vs:List Value} {ob:Oid->Option Ob}:∀ {cs:List AV} {ps:List (Bool×List RL)},PartsR [] ob cs ps->PartsR vs ob cs ps
 | [],_,h=>h
 | c :: cs,ps,h=>by
  by_cases hagg:∃ ds,c=.agg ds
  ·obtain ⟨ds,rfl⟩:=hagg;obtain ⟨ls,qs,e,h1,h2⟩:=h;exact ⟨ls,qs,e,h1.wide,h2.wide⟩
  ·rw [Iu hagg] at h ⊢;obtain ⟨l,qs,e,h1,h2⟩:=h;exact ⟨l,qs,e,h1.wide,h2.wide⟩
theorem RetOK.wide {vs:List Value} {rs:List Res} {S:St} {r:RV} (h:RetOK [] rs S r):RetOK vs rs S r:=by
 obtain ⟨avs,ps,h1,h2,h3,h4⟩:=h;exact ⟨avs,ps,h1,h2.wide,h3,h4⟩
theorem Adp [IsP P] (hfol:P.follows .mixedOrders=true) {g:FuncId} {fn:Func} {c:Code} {ac:AC} {rs:List Res} {args:List AV} {r:RV} (hf:P.funcs[g]? =some fn) (hb:fn.body=some c) (hc:AC.of P fn.ntmps c=some ac) (hrs:Res.ofL P fn.results.toList=some rs)
  (hn:args.length<=fn.ntmps) (h:∀ (im:Nat->Prop) (w:World) (vs:List Value),AV.RepL (fun _=>none) im w args vs->∃ args',args'.length=args.length/\AV.RepL (fun _=>none) im w args' vs/\awp P G ac (fun e S=>∃ S',WeakG G S S'/\(e=.normal∨e=.ret)/\RetOK vs rs S' r) (St.init args')):Bs P G g args r:=by
 intro w im vs hG hargs0;obtain ⟨args',hlen',hargs,h⟩:=h im w vs hargs0;rw [← hlen'] at hn
 clear hargs0
 revert hn hargs h
 generalize args'=args;intro hn hargs h;have hlen:vs.length=args.length:=hargs.length
 have hany:∀ (cs:List AV) (us:List Value),AV.RepL (fun _=>none) im w cs us->AV.RepL (fun _=>none) (imm (fun _=>none) (fun _=>none)) w cs us:=fun cs us h' =>
  AV.RepL.later ⟨fun _ _ h=>h,(fun _ _ _ _ _ _ _ h=>by cases h),fun _ _ _=>rfl,Nat.le_refl _⟩ cs us h'
 have hreps:Ji G w ⟨fun _=>none,fun _=>False,w,fun _ _ h=>nomatch h⟩ fn.ntmps (St.init args) { tmps:=vs.toArray++Array.replicate (fn.ntmps - vs.toArray.size) undef,defers:=[] } w:=by
  refine ⟨⟨fun _=>none,⟨Below.refl _ _,hG,(fun _ _ h=>by cases h),(fun _ _ _ _ h=>by cases h),(fun _ _ _ _ h=>by cases h),(fun _ _ _ _ _ _ _ _ _ h=>by cases h),(fun _ _ _ h=>by cases h)⟩,fun t=>?_,⟨fun _ _ h=>h,fun _ _ h=>h.elim,fun _ _ h=>h.elim,Nat.le_refl _⟩⟩,by simp;omega,rfl,fun i h=>absurd rfl h⟩;simp only [St.init,gDg];cases ht:args[t]? with
  | none=>trivial
  | some c =>
   obtain ⟨v,hv,hr⟩:=(hany _ _ hargs).get ht;have hlt:t<vs.length:=(gSi.1 hv).1
   have e:(vs.toArray++Array.replicate (fn.ntmps - vs.toArray.size) undef).getD t undef=v:=by
    rw [Array.getD_eq_getD_getElem?,Array.getElem?_append_left (by simpa using hlt)];simp [hv]
   rw [e];exact hr
 refine calls_of_wp hf hb (Code.wp_mono (fun e a' w' hq=>?_) (M6 hfol c ac _ _ _ w hc h hreps));obtain ⟨e',S0,rfl,⟨S',hweak,hend,avs,ps,h1,h2,h3,h4⟩,hr⟩:=hq
 replace hr:=hweak _ _ _ _ _ hr
 obtain ⟨σ,hM,hF,_⟩:=hr.ex
 have hrun:∀ (vars:List ResultVar) (rs:List Res) (avs:List AV),Res.ofL P vars=some rs->Res.evL S'.tm S'.ob rs=some avs ->
   ∃ us,(vars.mapM (Ui a'.tmps)).run P w'=.ok us w'/\AV.RepL σ (imm S'.ob σ) w' avs us/\us.length=vars.length/\rs.length=vars.length:=by
  intro vars
  induction vars with
  | nil =>
   intro rs avs q1 q2;obtain rfl:[]=rs:=osj q1;obtain rfl:[]=avs:=osj q2;exact ⟨[],rfl,rfl,rfl,rfl⟩
  | cons v vars ih =>
   intro rs avs q1 q2;simp only [Res.ofL] at q1;split at q1
   ·rename_i x xs p1 p2;obtain rfl:=osj q1;simp only [Res.evL] at q2;split at q2
    ·rename_i y ys p3 p4;obtain rfl:=osj q2;obtain ⟨u,r1,r2⟩:=Res.run hM hF p1 p3;obtain ⟨us,r3,r4,r5,r6⟩:=ih _ _ p2 p4;refine ⟨u :: us,?_,⟨u,us,rfl,r2,r4⟩,by simp [r5],by simp [r6]⟩;rw [List.mapM_cons,Sem.run_bind,r1];simp only [Result.andThen_ok,Sem.run_bind,r3,Sem.run_pure]
    ·cases q2
   ·cases q1
 obtain ⟨us,u1,u2,u3,u4⟩:=hrun fn.results.toList rs avs hrs h1;obtain ⟨vs',f1,f2,f3⟩:=Lf h2 u2;obtain ⟨idl,l1,l3,l4⟩:=Pd (im:=im) hM f1 f2;have l2:=Mk hM l4 (by rw [l3];exact h3)
 have hres:(results fn a'.tmps).run P w'=.ok (if fn.results.size=1 then us.headD undef else .tuple us.toArray) w':=by
  exact Jl u1 (by rw [u3];simp)
 have hrv:r.Rep w.heap.size im vs w' (if fn.results.size=1 then us.headD undef else .tuple us.toArray):=by
  subst h4;refine ⟨vs',_,l1,⟨l2,fun ⟨c,hc,hd⟩=>by rw [Le h2 c hc] at hd;cases hd⟩,?_⟩;simp only [f3];have:rs.length=fn.results.size:=by rw [u4];simp
  rw [this];by_cases h1:fn.results.size=1 <;> simp [h1]
 have fin:∃ u,(results fn a'.tmps).run P w'=.ok u w'/\∃ v,Ending.returned u=.returned v/\Below w.heap.size w w'/\r.Rep w.heap.size im vs w' v:=⟨_,hres,_,rfl,hM.below,hrv⟩
 rcases hend with rfl|rfl
 ·exact ⟨hr.defers,fin⟩
 ·exact ⟨hr.defers,fin⟩
end
end
section
open Go.RowKit Go.Deep
section
variable {P:Program} {G:World->Prop} {w0 w w':World} {ob:Oid->Option Ob} {σ:Oid->Option Loc} {K:Nat->Prop} {im:Nat->Prop}
mutual
def AV.clo (D:List Oid):AV->Bool
 | .own i _ _ _=>D.contains i
 | .box i _=>D.contains i
 | .elt i _ _=>D.contains i
 | .sla i _ _=>D.contains i
 | .mp i=>D.contains i
 | .agg cs=>AV.cloL D cs
 | .tup cs=>AV.cloL D cs
 | .fn _ cs=>AV.cloL D cs
 | .ref cs=>AV.cloL D cs
 | _=>true
def AV.cloL (D:List Oid):List AV->Bool
 | []=>true
 | c :: cs=>AV.clo D c&&AV.cloL D cs
end
mutual
def AV.cloP (D:Oid->Prop):AV->Prop
 | .own i _ _ _=>D i
 | .box i _=>D i
 | .elt i _ _=>D i
 | .sla i _ _=>D i
 | .mp i=>D i
 | .agg cs=>AV.cloPL D cs
 | .tup cs=>AV.cloPL D cs
 | .fn _ cs=>AV.cloPL D cs
 | .ref cs=>AV.cloPL D cs
 | _=>True
def AV.cloPL (D:Oid->Prop):List AV->Prop
 | []=>True
 | c :: cs=>AV.cloP D c/\AV.cloPL D cs
end
mutual
theorem AV.cloP_of {D:List Oid}:∀ (c:AV),c.clo D=true->c.cloP (·∈D)
 | .any,_ | .int _ _,_ | .bool _,_ | .str _,_ | .nils,_ | .abool _ _,_ | .err ..,_ | .tree _ _,_ | .giv _ _ _,_ | .mtree _ _ _,_ | .ftr _ _ _,_ | .telt _ _ _ _,_=>trivial
 | .own _ _ _ _,h=>List.contains_iff_mem.1 h
 | .box _ _,h=>List.contains_iff_mem.1 h
 | .elt _ _ _,h=>List.contains_iff_mem.1 h
 | .sla _ _ _,h=>List.contains_iff_mem.1 h
 | .mp _,h=>List.contains_iff_mem.1 h
 | .agg cs,h=>AV.cloPL_of cs h
 | .tup cs,h=>AV.cloPL_of cs h
 | .fn _ cs,h=>AV.cloPL_of cs h
 | .ref cs,h=>AV.cloPL_of cs h
theorem AV.cloPL_of {D:List Oid}:∀ (cs:List AV),AV.cloL D cs=true->AV.cloPL (·∈D) cs
 | [],_=>trivial
 | c :: cs,h=>by
  simp only [AV.cloL,Bool.and_eq_true] at h;exact ⟨AV.cloP_of c h.1,AV.cloPL_of cs h.2⟩
end
mutual
theorem AV.cloP_mono {D E:Oid->Prop} (hd:∀ i,D i->E i):∀ (c:AV),c.cloP D->c.cloP E
 | .any,_ | .int _ _,_ | .bool _,_ | .str _,_ | .nils,_ | .abool _ _,_ | .err ..,_ | .tree _ _,_ | .giv _ _ _,_ | .mtree _ _ _,_ | .ftr _ _ _,_ | .telt _ _ _ _,_=>trivial
 | .own i _ _ _,h=>hd i h
 | .box i _,h=>hd i h
 | .elt i _ _,h=>hd i h
 | .sla i _ _,h=>hd i h
 | .mp i,h=>hd i h
 | .agg cs,h=>AV.cloPL_mono hd cs h
 | .tup cs,h=>AV.cloPL_mono hd cs h
 | .fn _ cs,h=>AV.cloPL_mono hd cs h
 | .ref cs,h=>AV.cloPL_mono hd cs h
theorem AV.cloPL_mono {D E:Oid->Prop} (hd:∀ i,D i->E i):∀ (cs:List AV),AV.cloPL D cs->AV.cloPL E cs
 | [],_=>trivial
 | c :: cs,h=>⟨AV.cloP_mono hd c h.1,AV.cloPL_mono hd cs h.2⟩
end
def Ob.cloP (D:Oid->Prop):Ob->Prop
 | .cells _ cs=>AV.cloPL D cs
 | .vec _ _ _ cs=>AV.cloPL D cs
 | .pool _ _ _=>False
 | .mat _ _ _ _=>False
 | .tv _ _ _ _=>False
 | _=>True
mutual
def AV.hp (D:Oid->Prop):AV->Prop
 | .own i _ _ _=>D i
 | .box i _=>D i
 | .elt i _ _=>D i
 | .sla i _ _=>D i
 | .mp i=>D i
 | .agg cs=>AV.hpL D cs
 | .tup cs=>AV.hpL D cs
 | .fn _ cs=>AV.hpL D cs
 | .ref _=>False
 | .tree _ _=>False
 | .giv _ _ _=>False
 | .ftr _ _ _=>False
 | .telt _ _ _ _=>False
 | .mtree _ _ _=>False
 | _=>True
def AV.hpL (D:Oid->Prop):List AV->Prop
 | []=>True
 | c :: cs=>AV.hp D c/\AV.hpL D cs
end
def Ob.hp (D:Oid->Prop):Ob->Prop
 | .cells _ cs=>AV.hpL D cs
 | .vec _ _ _ cs=>AV.hpL D cs
 | .pool _ _ _=>False
 | .mat _ _ _ _=>False
 | .tv _ _ _ _=>False
 | _=>True
mutual
def AV.hpB (D:List Oid):AV->Bool
 | .own i _ _ _=>D.contains i
 | .box i _=>D.contains i
 | .elt i _ _=>D.contains i
 | .sla i _ _=>D.contains i
 | .mp i=>D.contains i
 | .agg cs=>AV.hpBL D cs
 | .tup cs=>AV.hpBL D cs
 | .fn _ cs=>AV.hpBL D cs
 | .ref _=>false
 | .tree _ _=>false
 | .giv _ _ _=>false
 | .ftr _ _ _=>false
 | .telt _ _ _ _=>false
 | .mtree _ _ _=>false
 | _=>true
def AV.hpBL (D:List Oid):List AV->Bool
 | []=>true
 | c :: cs=>AV.hpB D c&&AV.hpBL D cs
end
mutual
theorem AV.hpB_P {D:List Oid}:∀ (c:AV),c.hpB D=true->c.hp (·∈D)
 | .any,_ | .int _ _,_ | .bool _,_ | .str _,_ | .nils,_ | .abool _ _,_ | .err ..,_=>trivial
 | .own _ _ _ _,h=>List.contains_iff_mem.1 h
 | .box _ _,h=>List.contains_iff_mem.1 h
 | .elt _ _ _,h=>List.contains_iff_mem.1 h
 | .sla _ _ _,h=>List.contains_iff_mem.1 h
 | .mp _,h=>List.contains_iff_mem.1 h
 | .agg cs,h=>AV.hpB_PL cs h
 | .tup cs,h=>AV.hpB_PL cs h
 | .fn _ cs,h=>AV.hpB_PL cs h
theorem AV.hpB_PL {D:List Oid}:∀ (cs:List AV),AV.hpBL D cs=true->AV.hpL (·∈D) cs
 | [],_=>trivial
 | c :: cs,h=>by
  simp only [AV.hpBL,Bool.and_eq_true] at h;exact ⟨AV.hpB_P c h.1,AV.hpB_PL cs h.2⟩
end
mutual
theorem AV.hp_mono {D E:Oid->Prop} (hd:∀ i,D i->E i):∀ (c:AV),c.hp D->c.hp E
 | .any,_ | .int _ _,_ | .bool _,_ | .str _,_ | .nils,_ | .abool _ _,_ | .err ..,_=>trivial
 | .own i _ _ _,h=>hd i h
 | .box i _,h=>hd i h
 | .elt i _ _,h=>hd i h
 | .sla i _ _,h=>hd i h
 | .mp i,h=>hd i h
 | .agg cs,h=>AV.hpL_mono hd cs h
 | .tup cs,h=>AV.hpL_mono hd cs h
 | .fn _ cs,h=>AV.hpL_mono hd cs h
 | .ref _,h=>h
 | .tree _ _,h=>h
 | .giv _ _ _,h=>h
 | .ftr _ _ _,h=>h
 | .telt _ _ _ _,h=>h
 | .mtree _ _ _,h=>h
theorem AV.hpL_mono {D E:Oid->Prop} (hd:∀ i,D i->E i):∀ (cs:List AV),AV.hpL D cs->AV.hpL E cs
 | [],_=>trivial
 | c :: cs,h=>⟨AV.hp_mono hd c h.1,AV.hpL_mono hd cs h.2⟩
end
def Ob.clo1 (D:List Oid):Ob->Bool
 | .cells _ cs=>AV.cloL D cs
 | .vec _ _ _ cs=>AV.cloL D cs
 | _=>true
def Ob.hp1 (D:List Oid):Ob->Bool
 | .tv ..=>false
 | .cells _ cs=>AV.hpBL D cs
 | .vec _ _ _ cs=>AV.hpBL D cs
 | _=>true
mutual
theorem Ok {D:Oid->Prop} {ν:Oid->Oid} {σ σ':Oid->Option Loc} {im im':Nat->Prop} (hσ:∀ i,D i->σ' (ν i)=σ i):∀ (c:AV) (v:Value),c.hp D->AV.Rep σ im w c v->AV.Rep σ' im' w (c.ren ν) v
 | .any,_,_,_=>trivial
 | .int _ _,_,_,h=>h
 | .bool _,_,_,h=>h
 | .str _,_,_,h=>h
 | .nils,_,_,h=>h
 | .abool _ _,_,_,h=>h
 | .err ..,_,_,h=>h
 | .own i t off len,_,hc,h=>by
  have e:=hσ i hc;rcases h with ⟨g,q⟩|⟨b,cap,g,q⟩|⟨lc,g,q⟩
  ·exact .inl ⟨e.trans g,q⟩
  ·exact .inr (.inl ⟨b,cap,e.trans g,q⟩)
  ·exact .inr (.inr ⟨lc,e.trans g,q⟩)
 | .box i k,_,hc,⟨b,cap,sz,g,e⟩=>⟨b,cap,sz,(hσ i hc).trans g,e⟩
 | .elt i _ _,_,hc,⟨b,cap,sz,g,e⟩=>⟨b,cap,sz,(hσ i hc).trans g,e⟩
 | .sla i _ _,_,hc,⟨b,cap,g,e⟩=>⟨b,cap,(hσ i hc).trans g,e⟩
 | .mp i,_,hc,⟨b,cap,sz,g,e⟩=>⟨b,cap,sz,(hσ i hc).trans g,e⟩
 | .agg cs,_,hc,⟨vs,e,h⟩=>⟨vs,e,H5 hσ cs vs hc h⟩
 | .tup cs,_,hc,⟨vs,e,h⟩=>⟨vs,e,H5 hσ cs vs hc h⟩
 | .fn _ cs,_,hc,⟨vs,e,h⟩=>⟨vs,e,H5 hσ cs vs hc h⟩
 | .ref _,_,hc,_ | .tree _ _,_,hc,_ | .giv _ _ _,_,hc,_ | .ftr _ _ _,_,hc,_ | .telt _ _ _ _,_,hc,_ | .mtree _ _ _,_,hc,_=>by cases hc
theorem H5 {D:Oid->Prop} {ν:Oid->Oid} {σ σ':Oid->Option Loc} {im im':Nat->Prop} (hσ:∀ i,D i->σ' (ν i)=σ i):∀ (cs:List AV) (vs:List Value),AV.hpL D cs->AV.RepL σ im w cs vs->AV.RepL σ' im' w (AV.renL ν cs) vs
 | [],_,_,h=>h
 | c :: cs,_,hc,⟨u,us,e,h1,h2⟩=>⟨u,us,e,Ok hσ c u hc.1 h1,H5 hσ cs us hc.2 h2⟩
end
theorem Af4 {D:Oid->Prop} (m:Option (Nat->Prop)) (t:Ty) (xs:List t.D):(trM m t xs).cloP D:=by cases m <;> trivial
theorem Mj {D:Oid->Prop}:∀ {a b:List AV},AV.cloPL D a->AV.cloPL D b->AV.cloPL D (a++b)
 | [],_,_,h=>h
 | _ :: _,_,h,h'=>⟨h.1,Mj h.2 h'⟩
theorem Wy {D:Oid->Prop} (m:Option (Nat->Prop)):∀ (t:Ty) (x:t.D),AV.cloPL D (t.avM m x)
 | .int,_=>⟨trivial,trivial⟩
 | .bool,_=>⟨trivial,trivial⟩
 | .str,_=>⟨trivial,trivial⟩
 | .slice t,xs=>⟨Af4 m t xs,trivial⟩
 | .pair a b,x=>Mj (Wy m a x.1) (Wy m b x.2)
theorem V8 {D:Oid->Prop} {m:Option (Nat->Prop)} {t:Ty}:∀ (xs:List t.D),AV.cloPL D (tvC m t xs)
 | []=>trivial
 | x :: xs=>Mj (Wy m t x) (V8 xs)
theorem Qo {θ:Oid->Oid}:∀ (a b:List AV),AV.renL θ (a++b)=AV.renL θ a++AV.renL θ b
 | [],_=>rfl
 | c :: a,b=>by simp only [List.cons_append,AV.renL,Qo a b]
theorem T9 {θ:Oid->Oid} (m:Option (Nat->Prop)):∀ (t:Ty) (x:t.D),AV.renL θ (t.avM m x)=t.avM m x
 | .int,_=>rfl
 | .bool,_=>rfl
 | .str,_=>rfl
 | .slice t,xs=>by cases m <;> rfl
 | .pair a b,x=>by simp only [Ty.avM,Qo,T9 m a,T9 m b]
theorem S5 {θ:Oid->Oid} {m:Option (Nat->Prop)} {t:Ty}:∀ (xs:List t.D),AV.renL θ (tvC m t xs)=tvC m t xs
 | []=>rfl
 | x :: xs=>by
  have:=S5 (θ:=θ) (m:=m) xs;simp only [tvC,List.flatMap_cons,Qo,T9] at *;rw [this]
theorem Afj {D:Oid->Prop} {ν:Oid->Oid} {σ σ':Oid->Option Loc} {im im':Nat->Prop} {lo:Nat} (hσ:∀ i,D i->σ' (ν i)=σ i) {q:Ob} {l:Loc} (hq:q.hp D) (h:q.Rep lo σ im w l):(q.ren ν).Rep lo σ' im' w l:=by
 cases q with
 | arr e t xs=>exact h
 | map mt t es=>cases l <;> exact h
 | cells ty cs =>
  cases l with
  | nil=>exact h
  | at_ b c s=>obtain ⟨vs,h1,h2,h3⟩:=h;exact ⟨vs,h1,H5 hσ cs vs hq h2,h3⟩
 | vec e sz n cs=>obtain ⟨vs,h1,h2,h3⟩:=h;exact ⟨vs,h1,H5 hσ cs vs hq h2,h3⟩
 | pool e t xss=>cases hq
 | mat e p t xss=>cases hq
 | tv e m t xs=>cases hq
mutual
theorem X9 {D:Oid->Prop} {θ:Oid->Oid} {σ σ':Oid->Option Loc} {im im':Nat->Prop} (hσ:∀ i,D i->σ' i=σ (θ i)) (hi:∀ b,im b->im' b):∀ (c:AV) (v:Value),c.cloP D->AV.Rep σ im w (c.ren θ) v->AV.Rep σ' im' w c v
 | .any,_,_,_=>trivial
 | .int _ _,_,_,h=>h
 | .bool _,_,_,h=>h
 | .str _,_,_,h=>h
 | .nils,_,_,h=>h
 | .abool _ _,_,_,h=>h
 | .err ..,_,_,h=>h
 | .tree _ _,_,_,⟨A,c,l,e,hs⟩=>⟨A,c,l,e,Al (fun b _ hb=>hi b hb) hs⟩
 | .giv _ _ _,_,_,⟨h0,A,c,l,e,hs⟩=>⟨h0,A,c,l,e,Al (fun b _ hb=>hi b hb) hs⟩
 | .ftr _ _ _,_,_,⟨A,c,l,e,hs⟩=>⟨A,c,l,e,Al (fun b _ hb=>⟨hi b hb.1,hb.2⟩) hs⟩
 | .own i t off len,_,hc,h=>by
  have e:=hσ i hc;rcases h with ⟨g,q⟩|⟨b,cap,g,q⟩|⟨lc,g,q⟩
  ·exact .inl ⟨e.trans g,q⟩
  ·exact .inr (.inl ⟨b,cap,e.trans g,q⟩)
  ·exact .inr (.inr ⟨lc,e.trans g,q⟩)
 | .box i k,_,hc,⟨b,cap,sz,g,e⟩=>⟨b,cap,sz,(hσ i hc).trans g,e⟩
 | .elt i _ _,_,hc,⟨b,cap,sz,g,e⟩=>⟨b,cap,sz,(hσ i hc).trans g,e⟩
 | .sla i _ _,_,hc,⟨b,cap,g,e⟩=>⟨b,cap,(hσ i hc).trans g,e⟩
 | .mp i,_,hc,⟨b,cap,sz,g,e⟩=>⟨b,cap,sz,(hσ i hc).trans g,e⟩
 | .mtree _ _ _,_,_,⟨b,e,h1,h2⟩=>⟨b,e,hi _ h1,h2⟩
 | .telt _ _ _ _,_,_,⟨a,l,e,hm,hb⟩=>⟨a,l,e,hm.mono fun b _ hb=>Ys hi hb,Ys hi hb⟩
 | .agg cs,_,hc,⟨vs,e,h⟩=>⟨vs,e,F9 hσ hi cs vs hc h⟩
 | .tup cs,_,hc,⟨vs,e,h⟩=>⟨vs,e,F9 hσ hi cs vs hc h⟩
 | .fn _ cs,_,hc,⟨vs,e,h⟩=>⟨vs,e,F9 hσ hi cs vs hc h⟩
 | .ref cs,_,hc,⟨b,k,vs,e,hb,hcl,h⟩=>⟨b,k,vs,e,⟨hb.1,hi _ hb.2⟩,hcl,F9 hσ hi cs vs hc h⟩
theorem F9 {D:Oid->Prop} {θ:Oid->Oid} {σ σ':Oid->Option Loc} {im im':Nat->Prop} (hσ:∀ i,D i->σ' i=σ (θ i)) (hi:∀ b,im b->im' b):∀ (cs:List AV) (vs:List Value),AV.cloPL D cs->AV.RepL σ im w (AV.renL θ cs) vs->AV.RepL σ' im' w cs vs
 | [],_,_,h=>h
 | c :: cs,_,hc,⟨u,us,e,h1,h2⟩=>by
  exact ⟨u,us,e,X9 hσ hi c u hc.1 h1,F9 hσ hi cs us hc.2 h2⟩
end
theorem Acn {D:Oid->Prop} {θ:Oid->Oid} {σ σ':Oid->Option Loc} {im im':Nat->Prop} {lo:Nat} (hσ:∀ i,D i->σ' i=σ (θ i)) (hi:∀ b,im b->im' b) {q:Ob} {l:Loc} (hq:q.cloP D) (h:(q.ren θ).Rep lo σ im w l):q.Rep lo σ' im' w l:=by
 cases q with
 | arr e t xs=>exact h
 | map mt t es=>cases l <;> exact h
 | cells ty cs =>
  cases l with
  | nil=>exact h
  | at_ b c s=>obtain ⟨vs,h1,h2,h3⟩:=h;exact ⟨vs,h1,F9 hσ hi cs vs hq h2,h3⟩
 | vec e sz n cs=>obtain ⟨vs,h1,h2,h3⟩:=h;exact ⟨vs,h1,F9 hσ hi cs vs hq h2,h3⟩
 | pool e t xss=>cases hq
 | mat e p t xss=>cases hq
 | tv e m t xs=>cases hq
theorem D7 {i:Oid} {o:Ob}:∀ {ol:List (Oid×Ob)},Ag (Br ol) i=some o->(i,o)∈exL ol
 | [],h=>by cases h
 | (j,x) :: r,h=>by
  simp only [Br,List.map_cons] at h;cases x with
  | pool e u xss =>
   simp only [Ag] at h;simp only [exL,List.mem_append];split at h
   ·rename_i hc;obtain ⟨c1,c2,c3⟩:=hc;obtain ⟨row,hrow,rfl⟩:=oms.1 h;refine .inl (List.mem_map.2 ⟨(row,i.1.2 - 1),?_,?_⟩)
    ·rw [List.mem_zipIdx_iff_getElem?];exact hrow
    ·obtain ⟨⟨i1,i2⟩,i3⟩:=i;simp only [kid] at *;subst c1 c2;rw [show i2 - 1+1=i2 by omega]
   ·exact .inr (D7 (ol:=r) h)
  | mat e p u xss =>
   simp only [Ag] at h;simp only [exL];split at h
   ·rename_i e;subst e;obtain rfl:=osj h;exact List.mem_cons_self
   ·exact List.mem_cons_of_mem _ (D7 (ol:=r) h)
  | _ =>
   simp only [Ag] at h;simp only [exL];split at h
   ·rename_i e;subst e;obtain rfl:=osj h;exact List.mem_cons_self
   ·exact List.mem_cons_of_mem _ (D7 (ol:=r) h)
theorem Fu {α β:Type} {f:α->β}:∀ {l:List α},(l.map f).Nodup->∀ {x y:α},x∈l->y∈l->f x=f y->x=y
 | [],_,_,_,h,_,_=>by cases h
 | a :: r,nd,x,y,hx,hy,e=>by
  simp only [List.map_cons,List.nodup_cons] at nd;rcases List.mem_cons.1 hx with h1|h1
  ·rcases List.mem_cons.1 hy with h2|h2
   ·rw [h1,h2]
   ·exact absurd (List.mem_map.2 ⟨y,h2,by rw [← e,h1]⟩) nd.1
  ·rcases List.mem_cons.1 hy with h2|h2
   ·exact absurd (List.mem_map.2 ⟨x,h1,by rw [e,h2]⟩) nd.1
   ·exact Fu nd.2 h1 h2 e
theorem Pv {α β:Type} {f:α->β}:∀ {l:List α},l.Nodup->(∀ x∈l,∀ y∈l,f x=f y->x=y)->(l.map f).Nodup
 | [],_,_=>by simp
 | a :: r,nd,h=>by
  obtain ⟨n1,n2⟩:=List.nodup_cons.1 nd;refine List.nodup_cons.2 ⟨fun hm=>?_,Pv n2 fun x hx y hy=>h x (by simp [hx]) y (by simp [hy])⟩;obtain ⟨y,hy,e⟩:=List.mem_map.1 hm;exact n1 (h a (by simp) y (by simp [hy]) e.symm▸hy)
def Sv:List AV->AV
 | [x]=>x
 | l=>.tup l
theorem Ve {S':St} {a':Act} {w':World} (hM:Mem0 G w0 S'.ob σ K w') (hF:TmRep σ (imm S'.ob σ) w' S'.tm a') {fn:Func} {rs:List Res} {rvs:List AV} (hrs:Res.ofL P fn.results.toList=some rs) (h:Res.evL S'.tm S'.ob rs=some rvs) :
  ∃ u,(results fn a'.tmps).run P w'=.ok u w'/\AV.Rep σ (imm S'.ob σ) w' (Sv rvs) u:=by
 have key:∀ (vars:List ResultVar) (rs:List Res) (avs:List AV),Res.ofL P vars=some rs->Res.evL S'.tm S'.ob rs=some avs->∃ us,(vars.mapM (Ui a'.tmps)).run P w'=.ok us w'/\AV.RepL σ (imm S'.ob σ) w' avs us:=by
  intro vars
  induction vars with
  | nil =>
   intro rs avs h1 h2;obtain rfl:[]=rs:=osj h1;obtain rfl:[]=avs:=osj h2;exact ⟨[],rfl,rfl⟩
  | cons z zs ih =>
   intro rs avs h1 h2;simp only [Res.ofL] at h1;split at h1
   ·rename_i x xs p1 p2;obtain rfl:=osj h1;simp only [Res.evL] at h2;split at h2
    ·rename_i y ys p3 p4;obtain rfl:=osj h2;obtain ⟨u,r1,r2⟩:=Res.run hM hF p1 p3;obtain ⟨us,s1,s2⟩:=ih xs ys p2 p4;exact ⟨u :: us,by rw [List.mapM_cons,Sem.run_bind,r1];simp [s1],u,us,rfl,r2,s2⟩
    ·cases h2
   ·cases h1
 obtain ⟨us,h1,h2⟩:=key _ _ _ hrs h
 have hl1:∀ (vars:List ResultVar) (rs:List Res),Res.ofL P vars=some rs->rs.length=vars.length:=by
  intro vars
  induction vars with
  | nil=>intro rs h;obtain rfl:[]=rs:=osj h;rfl
  | cons z zs ih =>
   intro rs h;simp only [Res.ofL] at h;split at h
   ·rename_i x xs p1 p2;obtain rfl:=osj h;simp [ih xs p2]
   ·cases h
 have hl2:∀ (rs:List Res) (avs:List AV),Res.evL S'.tm S'.ob rs=some avs->avs.length=rs.length:=by
  intro rs
  induction rs with
  | nil=>intro avs h;obtain rfl:[]=avs:=osj h;rfl
  | cons z zs ih =>
   intro avs h;simp only [Res.evL] at h;split at h
   ·rename_i y ys p3 p4;obtain rfl:=osj h;simp [ih ys p4]
   ·cases h
 have hlen:us.length=fn.results.size:=by rw [h2.length,hl2 _ _ h,hl1 _ _ hrs,Array.length_toList]
 refine ⟨_,Jl h1 hlen,?_⟩;by_cases hs:fn.results.size=1
 ·rw [if_pos hs];have hlv:rvs.length=1:=by rw [← h2.length,hlen,hs]
  match rvs,us,hlv,h2 with
  | [x],_,_,⟨u,us',e,q1,q2⟩ =>
   rw [e];exact q1
 ·rw [if_neg hs];have hlv:rvs.length≠1:=by rw [← h2.length,hlen];exact hs
  have:Sv rvs=.tup rvs:=by
   unfold Sv;split
   ·exact absurd rfl hlv
   ·rfl
  rw [this];exact ⟨us,rfl,h2⟩
def Ob.hpG (D:Oid->Prop):Ob->Prop
 | .cells _ cs=>∀ c∈cs,c.hp D∨∃ (u:Value) (t:Ty) (xs:List t.D),c=.giv u t xs
 | _=>False
theorem U9 {D:Oid->Prop} {ν θ:Oid->Oid} {σ σ' σ1:Oid->Option Loc} {im im' im1:Nat->Prop} {w1:World} (hσ:∀ i,D i->σ' (ν i)=σ i) (hL:Later σ1 σ' im1 im' w1 w):∀ (cs:List AV) (vs vs1:List Value),(∀ c∈cs,c.hp D∨∃ (u:Value) (t:Ty) (xs:List t.D),c=.giv u t xs)->AV.RepL σ im w cs vs->AV.RepL σ1 im1 w1 (AV.renL θ cs) vs1->AV.RepL σ' im' w (AV.renL ν cs) vs
 | [],_,_,_,h,_=>h
 | c :: cs,_,_,hc,⟨u,us,e,h1,h2⟩,⟨u1,us1,_,g1,g2⟩=>by
  refine ⟨u,us,e,?_,U9 hσ hL cs us us1 (fun x hx=>hc x (List.mem_cons_of_mem _ hx)) h2 g2⟩;rcases hc c List.mem_cons_self with hp|⟨u',t,xs,rfl⟩
  ·exact Ok hσ c u hp h1
  ·obtain ⟨rfl,A',c',l',e',_⟩:=h1;obtain ⟨e2,A,cp,l,e3,hs⟩:=g1;exact ⟨rfl,A,cp,l,e2▸e3,hL.sl hs⟩
def Ob.hpR (R:Nat->Prop) (D:Oid->Prop):Ob->Prop
 | .vec _ _ _ cs=>∀ c∈cs,c.hp D∨∃ (t:Ty) (xs:List t.D),c=.ftr R t xs
 | _=>False
theorem Ut {R:Nat->Prop} {D:Oid->Prop} {ν:Oid->Oid} {σ σ':Oid->Option Loc} {im im':Nat->Prop} (hσ:∀ i,D i->σ' (ν i)=σ i) (hR:∀ b,im b->R b->im' b):∀ (cs:List AV) (vs:List Value),(∀ c∈cs,c.hp D∨∃ (t:Ty) (xs:List t.D),c=.ftr R t xs)->AV.RepL σ im w cs vs->AV.RepL σ' im' w (AV.renL ν cs) vs
 | [],_,_,h=>h
 | c :: cs,_,hc,⟨u,us,e,h1,h2⟩=>by
  refine ⟨u,us,e,?_,Ut hσ hR cs us (fun x hx=>hc x (List.mem_cons_of_mem _ hx)) h2⟩;rcases hc c List.mem_cons_self with hp|⟨t,xs,rfl⟩
  ·exact Ok hσ c u hp h1
  ·obtain ⟨A,cp,l,e',hs⟩:=h1;exact ⟨A,cp,l,e',Al (fun b _ hb=>⟨hR b hb.1 hb.2,hb.2⟩) hs⟩
theorem Aad [IsP P] {R:Nat->Prop} (hfol:P.follows .mixedOrders=true) {g:FuncId} {fn:Func} {c:Code} {ac:AC} {rs:List Res} {args:List AV} {ol us:List (Oid×Ob)} {v:AV} (hf:P.funcs[g]? =some fn) (hb:fn.body=some c) (hc:AC.of P fn.ntmps c=some ac) (hrs:Res.ofL P fn.results.toList=some rs)
  (hn:args.length<=fn.ntmps) (hz:∀ q∈exL ol,q.1.2=0/\q.2.cloP (·∈nmL ol)) (hnd:(nmL us).Nodup) (hus:∀ q∈exL us,(q.1.2=1∨q.1∈nmL ol)/\(q.2.hp (·∈nmL us)∨(q∈exL ol/\q.2.hpG (·∈nmL us))∨q.2.hpR R (·∈nmL us))) (hcl:AV.cloPL (·∈nmL ol) args) (hv:v.hp (·∈nmL us))
  (h:awp P G ac (fun e S=>∃ S',WeakG G S S'/\(e=.normal∨e=.ret)/\(∃ rvs,Res.evL S'.tm S'.ob rs=some rvs/\v=Sv rvs)/\∀ q∈exL us,S'.ob q.1=some q.2) ⟨fun i=>args.getD i .any,Ag (Br ol),1⟩):Af8 P G R g args ol v us:=by
 intro θ i w0 ob σ K w vs hRi hM hi hol hθ hloc hargs;have hnm:∀ {l:List (Oid×Ob)} {q},q∈exL l->q.1∈nmL l:=fun hq=>List.mem_map.2 ⟨_,hq,rfl⟩
 have hnm':∀ {l:List (Oid×Ob)} {j},j∈nmL l->∃ q∈exL l,q.1=j:=fun hj=>by
  obtain ⟨q,hq,e⟩:=List.mem_map.1 hj;exact ⟨q,hq,e⟩
 have hlen:vs.length=args.length:=by
  rw [hargs.length]
  have:∀ cs:List AV,(AV.renL θ cs).length=cs.length:=by
   intro cs;induction cs with
   | nil=>rfl
   | cons c cs ih=>simp [AV.renL,ih]
  exact this args
 let σ0:Oid->Option Loc:=fun j=>if j∈nmL ol then σ (θ j) else none
 have hσ0:∀ j,j∈nmL ol->σ0 j=σ (θ j):=fun j hj=>if_pos hj
 have hσ1:∀ j l,σ0 j=some l->j∈nmL ol/\σ (θ j)=some l:=by
  intro j l hj;simp only [σ0] at hj;split at hj
  ·rename_i h;exact ⟨h,hj⟩
  ·cases hj
 have h0:∀ j,j∈nmL ol->j.2=0:=fun j hj=>by
  obtain ⟨q,hq,e⟩:=hnm' hj;rw [← e];exact (hz q hq).1
 have hold:∀ j,j∈nmL ol->∃ o,ob (θ j)=some o:=fun j hj=>by
  obtain ⟨q,hq,e⟩:=hnm' hj;rw [← e];exact ⟨_,hol q hq⟩
 have him0:∀ b,Ra θ ol σ b->imm (Ag (Br ol)) σ0 b:=by
  intro b hb j o cp s ho hs;exact hb (j,o) (D7 ho) cp s (hσ1 j _ hs).2
 have himO:∀ b,imm ob σ b->Ra θ ol σ b:=fun b hb q hq cp s hs=>hb (θ q.1) _ cp s (hol q hq) hs
 have him:∀ b,imm ob σ b->imm (Ag (Br ol)) σ0 b:=fun b hb=>him0 b (himO b hb)
 have hM0:Mem0 G w0 (Ag (Br ol)) σ0 (·<1) w:=by
  refine ⟨hM.below,hM.inv,fun j l hj=>?_,fun j b cp s hj=>hM.lt _ b cp s (hσ1 j _ hj).2,fun j b cp s hj=>hM.cap _ b cp s (hσ1 j _ hj).2,fun j k b cp s cp' s' o o' hj hk h1 h2=>?_,fun j o l ho hl=>?_⟩
  ·have:=h0 j (hσ1 j l hj).1;show j.2<1;omega
  ·obtain ⟨d1,h1⟩:=hσ1 j _ h1;obtain ⟨d2,h2⟩:=hσ1 k _ h2;obtain ⟨o1,r1⟩:=hold j d1;obtain ⟨o2,r2⟩:=hold k d2;exact hθ j k d1 d2 (hM.inj (θ j) (θ k) b cp s cp' s' _ _ r1 r2 h1 h2)
  ·obtain ⟨d,hs⟩:=hσ1 j l hl;have hq:=D7 ho;exact Acn hσ0 him (hz _ hq).2 (hM.obs (θ j) _ l (hol _ hq) hs)
 have hreps:Ji G w0 ⟨σ0,imm (Ag (Br ol)) σ0,w,fun j l hj=>h0 j (hσ1 j l hj).1⟩ fn.ntmps ⟨fun i=>args.getD i .any,Ag (Br ol),1⟩ { tmps:=vs.toArray++Array.replicate (fn.ntmps - vs.toArray.size) undef,defers:=[] } w:=by
  refine ⟨⟨σ0,hM0,fun t=>?_,Later.refl _ _ _⟩,by simp;omega,rfl,fun j h=>?_⟩
  ·simp only [gDg];cases ht:args[t]? with
   | none=>trivial
   | some c =>
    have hrep:=F9 hσ0 him0 args vs hcl hargs;obtain ⟨v,hv,hr⟩:=hrep.get ht;have hlt:t<vs.length:=(gSi.1 hv).1
    have e:(vs.toArray++Array.replicate (fn.ntmps - vs.toArray.size) undef).getD t undef=v:=by
     rw [Array.getD_eq_getD_getElem?,Array.getElem?_append_left (by simpa using hlt)];simp [hv]
    rw [e];exact hr
  ·show j.2<1;have h:Ag (Br ol) j≠none:=h;cases ho:Ag (Br ol) j with
   | none=>exact absurd ho h
   | some o=>have:j.2=0:=(hz _ (D7 ho)).1;omega
 refine calls_of_wp hf hb (Code.wp_mono (fun e a' w' hq=>?_) (M6 hfol c ac _ _ _ w hc h hreps));obtain ⟨e',S0,rfl,⟨S',hweak,hend,⟨rvs,h1,hvr⟩,h2⟩,hr⟩:=hq
 replace hr:=hweak _ _ _ _ _ hr
 obtain ⟨σ2,hM2,hF,hL⟩:=hr.ex;obtain ⟨u,hrun,hu⟩:=Ve hM2 hF hrs h1;rw [← hvr] at hu
 let ν:=Bk θ i
 let un:Oid->Oid:=fun k=>((k.1.1 - i.1.1*16,k.1.2),1)
 have hKθ:∀ j,j∈nmL ol->(θ j).2≠i.2:=fun j hj e=>by
  cases hs:σ (θ j) with
  | none=>exact hloc j hj hs
  | some l=>exact hi (e▸hM.gen _ _ hs)
 have hcase:∀ j,j∈nmL us->(j.2=0/\j∈nmL ol/\ν j=θ j)∨(j.2=1/\ν j=((i.1.1*16+j.1.1,j.1.2),i.2)/\un (ν j)=j):=by
  intro j hj;obtain ⟨q,hq,rfl⟩:=hnm' hj;rcases (hus q hq).1 with hg|hg
  ·refine .inr ⟨hg,by simp [ν,Bk,hg],?_⟩;simp only [un,ν,Bk,hg];obtain ⟨⟨⟨a,b⟩,c⟩,d⟩:=q;simp at hg ⊢;exact hg.symm
  ·exact .inl ⟨h0 _ hg,hg,by simp [ν,Bk,h0 _ hg]⟩
 have hνinj:∀ j∈nmL us,∀ k∈nmL us,ν j=ν k->j=k:=by
  intro j hj k hk e;rcases hcase j hj with ⟨a1,a2,a3⟩|⟨a1,a2,a3⟩ <;> rcases hcase k hk with ⟨b1,b2,b3⟩|⟨b1,b2,b3⟩
  ·exact hθ j k a2 b2 (by rw [← a3,← b3,e])
  ·have:=hKθ j a2;rw [← a3,e,b2] at this;exact absurd rfl this
  ·have:=hKθ k b2;rw [← b3,← e,a2] at this;exact absurd rfl this
  ·rw [← a3,← b3,e]
 let σ':Oid->Option Loc:=fun k=>if k.2=i.2 then (if un k∈nmL us/\ν (un k)=k then σ2 (un k) else none) else σ k
 have hσ2:∀ j,j∈nmL ol->σ2 j=σ (θ j):=by
  intro j hj;cases hs:σ (θ j) with
  | none=>exact absurd hs (hloc j hj)
  | some l=>exact hL.loc _ _ (show σ0 j=some l by rw [hσ0 _ hj];exact hs)
 have hσν:∀ j,j∈nmL us->σ' (ν j)=σ2 j:=by
  intro j hj;rcases hcase j hj with ⟨a1,a2,a3⟩|⟨a1,a2,a3⟩
  ·simp only [σ'];rw [a3,if_neg (hKθ j a2),hσ2 j a2]
  ·simp only [σ'];rw [if_pos (by rw [a2]),a3,if_pos ⟨hj,rfl⟩]
 have hσo:∀ k l,σ k=some l->σ' k=some l:=by
  intro k l hk;have:k.2≠i.2:=fun e=>hi (e▸hM.gen _ _ hk)
  simp only [σ',if_neg this];exact hk
 -- the objects behind the call
 have hB1:∀ j q,(j,q)∈exL us->Ae (Fr θ i ol us) ob (ν j)=some (q.ren ν):=by
  intro j q hq
  have hkeys:(((exL us).map fun q=>(Bk θ i q.1,some (q.2.ren (Bk θ i)))).map (·.1)).Nodup:=by
   rw [List.map_map]
   have:((exL us).map ((·.1)∘fun q:Oid×Ob=>(Bk θ i q.1,some (q.2.ren (Bk θ i)))))=(nmL us).map ν:=by
    unfold nmL;rw [List.map_map];rfl
   rw [this];exact Pv hnd hνinj
  have:=Ha (fun u:Oid×Option Ob=>u.2) (fun u=>u.1) ((exL us).map fun q=>(Bk θ i q.1,some (q.2.ren (Bk θ i)))) (Ae ((exL ol).map fun q=>(θ q.1,none)) ob) (Bk θ i j,some (q.ren (Bk θ i))) hkeys (List.mem_map.2 ⟨(j,q),hq,rfl⟩);unfold Ae Fr;rw [List.foldl_append];exact this
 have hB2:∀ k,(∀ j∈nmL us,ν j≠k)->Ae (Fr θ i ol us) ob k=if k∈(nmL ol).map θ then none else ob k:=by
  intro k hk
  have e1:Ae (Fr θ i ol us) ob k=Ae ((exL ol).map fun q=>(θ q.1,none)) ob k:=by
   have:=Cd (us:=(exL us).map fun q=>(Bk θ i q.1,some (q.2.ren (Bk θ i)))) (ob:=Ae ((exL ol).map fun q=>(θ q.1,none)) ob) (j:=k) fun u hu=>by
    obtain ⟨q,hq,rfl⟩:=List.mem_map.1 hu;exact hk q.1 (hnm hq)
   rw [← this];unfold Ae Fr;rw [List.foldl_append]
  rw [e1];split
  ·rename_i hk';obtain ⟨j,hj,rfl⟩:=List.mem_map.1 hk';obtain ⟨q,hq,rfl⟩:=hnm' hj;exact (Hq ((exL ol).map fun q=>(θ q.1,none)) ob (fun u hu=>by obtain ⟨_,_,rfl⟩:=List.mem_map.1 hu;rfl)).2 (θ q.1,none) (List.mem_map.2 ⟨q,hq,rfl⟩)
  ·rename_i hk';exact Cd fun u hu e=>hk' (by obtain ⟨q,hq,rfl⟩:=List.mem_map.1 hu;exact List.mem_map.2 ⟨q.1,hnm hq,e⟩)
 generalize Ae (Fr θ i ol us) ob=ob' at hB1 hB2
 have hcaseO:∀ k o,ob' k=some o->(∃ j q,(j,q)∈exL us/\k=ν j/\o=q.ren ν)∨((∀ j∈nmL us,ν j≠k)/\k∉(nmL ol).map θ/\ob k=some o):=by
  intro k o ho;by_cases hex:∃ j∈nmL us,ν j=k
  ·obtain ⟨j,hj,rfl⟩:=hex;obtain ⟨q,hq,rfl⟩:=hnm' hj;have:=hB1 q.1 q.2 hq;rw [ho] at this;exact .inl ⟨q.1,q.2,hq,rfl,osj this⟩
  ·have hno:∀ j∈nmL us,ν j≠k:=fun j hj e=>hex ⟨j,hj,e⟩
   rw [hB2 k hno] at ho;split at ho
   ·cases ho
   ·rename_i hk';exact .inr ⟨hno,hk',ho⟩
 have hσk:∀ k l,(∀ j∈nmL us,ν j≠k)->σ' k=some l->σ k=some l:=by
  intro k l hno hk;simp only [σ'] at hk;split at hk
  ·split at hk
   ·rename_i hc;exact absurd hc.2 (hno _ hc.1)
   ·cases hk
  ·exact hk
 have hσs:∀ k l,σ' k=some l->(∃ j∈nmL us,k=ν j/\σ2 j=some l)∨σ k=some l:=by
  intro k l hk;by_cases hex:∃ j∈nmL us,ν j=k
  ·obtain ⟨j,hj,rfl⟩:=hex;rw [hσν j hj] at hk;exact .inl ⟨j,hj,rfl,hk⟩
  ·exact .inr (hσk k l (fun j hj e=>hex ⟨j,hj,e⟩) hk)
 have hS':∀ j q,(j,q)∈exL us->S'.ob j=some q:=fun j q hq=>h2 (j,q) hq
 have himL:∀ b,b<w.heap.size->imm ob σ b->imm ob' σ' b:=by
  intro b hlt hb k o cp s ho hs;rcases hcaseO k o ho with ⟨j,q,hq,rfl,rfl⟩|⟨hno,hk',hk⟩
  ·rw [hσν j (hnm hq)] at hs;exact hL.im_ b hlt (him b hb) j q cp s (hS' j q hq) hs
  ·exact hb k o cp s hk (hσk k _ hno hs)
 have hLL:Later σ σ' (imm ob σ) (imm ob' σ') w w':=⟨hσo,himL,fun b hlt hb=>hL.blk b hlt (him b hb),hL.size⟩
 -- blocks of the caller's other objects
 have hoth:∀ k o b cp s,k∉(nmL ol).map θ->ob k=some o->σ k=some (.at_ b cp s)->imm (Ag (Br ol)) σ0 b:=by
  intro k o b cp s hk ho hs j o' cp' s' ho' hs';obtain ⟨d,hs'⟩:=hσ1 j _ hs';obtain ⟨o2,h⟩:=hold j d;exact hk (List.mem_map.2 ⟨j,d,hM.inj (θ j) k b cp' s' cp s _ o h ho hs' hs⟩)
 have hback:∀ j q,(j,q)∈exL us->∀ l,σ' (ν j)=some l->q.Rep w0.heap.size σ2 (imm S'.ob σ2) w' l:=fun j q hq l hl=>hM2.obs j q l (hS' j q hq) (by rw [← hσν j (hnm hq)];exact hl)
 have fin:Goes G w0 ob' (fun n=>K n∨n=i.2) σ (imm ob σ) w (v.ren ν) u w':=by
  refine ⟨σ',hLL,⟨hM2.below,hM.inv,fun k l hk=>?_,fun k b cp s hk=>?_,fun k b cp s hk=>?_,fun k1 k2 b cp s cp' s' o o' hk1 hk2 e1 e2=>?_,fun k o l ho hl=>?_⟩,Ok hσν v u hv hu⟩
  ·by_cases e:k.2=i.2
   ·exact .inr e
   ·simp only [σ',if_neg e] at hk;exact .inl (hM.gen k l hk)
  ·rcases hσs k _ hk with ⟨j,_,_,h⟩|h
   ·exact hM2.lt j b cp s h
   ·exact ⟨(hM.lt k b cp s h).1,Nat.lt_of_lt_of_le (hM.lt k b cp s h).2 hL.size⟩
  ·rcases hσs k _ hk with ⟨j,_,_,h⟩|h
   ·exact hM2.cap j b cp s h
   ·exact hM.cap k b cp s h
  ·rcases hcaseO k1 o hk1 with ⟨j1,q1,m1,rfl,rfl⟩|⟨n1,p1,r1⟩ <;> rcases hcaseO k2 o' hk2 with ⟨j2,q2,m2,rfl,rfl⟩|⟨n2,p2,r2⟩
   ·rw [hσν j1 (hnm m1)] at e1;rw [hσν j2 (hnm m2)] at e2;rw [hM2.inj j1 j2 b cp s cp' s' q1 q2 (hS' _ _ m1) (hS' _ _ m2) e1 e2]
   ·rw [hσν j1 (hnm m1)] at e1;have e2:=hσk k2 _ n2 e2;have hb:=hoth k2 o' b cp' s' p2 r2 e2;exact absurd e1 (hL.im_ b (hM.lt k2 b cp' s' e2).2 hb j1 q1 cp s (hS' _ _ m1))
   ·rw [hσν j2 (hnm m2)] at e2;have e1:=hσk k1 _ n1 e1;have hb:=hoth k1 o b cp s p1 r1 e1;exact absurd e2 (hL.im_ b (hM.lt k1 b cp s e1).2 hb j2 q2 cp' s' (hS' _ _ m2))
   ·exact hM.inj k1 k2 b cp s cp' s' o o' r1 r2 (hσk k1 _ n1 e1) (hσk k2 _ n2 e2)
  ·rcases hcaseO k o ho with ⟨j,q,hq,rfl,rfl⟩|⟨hno,hk',hk⟩
   ·rcases (hus _ hq).2 with hp|⟨hin,hg⟩|hr'
    ·exact Afj hσν hp (hback j q hq l hl)
    ·have hb:=hback j q hq l hl;have hs1:σ (θ j)=some l:=by rw [← hσ2 j (hnm hin),← hσν j (hnm hq)];exact hl
     have h1:=hM.obs (θ j) _ l (hol _ hin) hs1;cases q with
     | cells ty cs =>
      cases l with
      | nil=>exact hb
      | at_ b c s =>
       obtain ⟨vs2,k1,k2,k3⟩:=hb;obtain ⟨vs1,_,k5,_⟩:=h1;exact ⟨vs2,k1,U9 hσν hLL cs vs2 vs1 hg k2 k5,k3⟩
     | _=>exact hg.elim
    ·have hb:=hback j q hq l hl
     have him2:∀ b,imm S'.ob σ2 b->R b->imm ob' σ' b:=fun b h1 h2 k o cp s ho hs=>by
      rcases hcaseO k o ho with ⟨j',q',hq',rfl,rfl⟩|⟨hno,_,hk⟩
      ·rw [hσν j' (hnm hq')] at hs;exact h1 j' q' cp s (hS' j' q' hq') hs
      ·exact hRi b h2 k o cp s hk (hσk k _ hno hs)
     cases q with
     | vec e sz n cs =>
      obtain ⟨vs2,k1,k2,k3⟩:=hb;exact ⟨vs2,k1,Ut hσν him2 cs vs2 hr' k2,k3⟩
     | _=>exact hr'.elim
   ·have hl':=hσk k l hno hl;refine (hM.obs k o l hk hl').later hLL fun b cp s el=>?_
    subst el;exact hL.blk b (hM.lt k b cp s hl').2 (hoth k o b cp s hk' hk hl')
 rcases hend with rfl|rfl
 ·exact ⟨hr.defers,u,hrun,u,rfl,fin⟩
 ·exact ⟨hr.defers,u,hrun,u,rfl,fin⟩
theorem Z4 [IsP P] (hfol:P.follows .mixedOrders=true) {g:FuncId} {fn:Func} {c:Code} {ac:AC} {rs:List Res} {args:List AV} {ol us:List (Oid×Ob)} {v:AV} (hf:P.funcs[g]? =some fn) (hb:fn.body=some c) (hc:AC.of P fn.ntmps c=some ac) (hrs:Res.ofL P fn.results.toList=some rs)
  (hn:args.length<=fn.ntmps) (hz:∀ q∈exL ol,q.1.2=0/\q.2.cloP (·∈nmL ol)) (hnd:(nmL us).Nodup) (hus:∀ q∈exL us,(q.1.2=1∨q.1∈nmL ol)/\(q.2.hp (·∈nmL us)∨q∈exL ol/\q.2.hpG (·∈nmL us))) (hcl:AV.cloPL (·∈nmL ol) args) (hv:v.hp (·∈nmL us))
  (h:awp P G ac (fun e S=>∃ S',WeakG G S S'/\(e=.normal∨e=.ret)/\(∃ rvs,Res.evL S'.tm S'.ob rs=some rvs/\v=Sv rvs)/\∀ q∈exL us,S'.ob q.1=some q.2) ⟨fun i=>args.getD i .any,Ag (Br ol),1⟩):I3 P G g args ol v us :=
 fun θ i w0 ob σ K w vs=>Aad (R:=fun _=>False) hfol hf hb hc hrs hn hz hnd (fun q hq=>⟨(hus q hq).1,(hus q hq).2.imp id .inl⟩) hcl hv h θ i w0 ob σ K w vs fun _ hb=>hb.elim
end
end
section
open Go.RowKit Go.Deep
theorem WeakG.refl {G:World->Prop} (S:St):WeakG G S S:=fun _ _ _ _ _ h=>h
theorem WeakG.trans {G:World->Prop} {S S' S'':St} (h:WeakG G S S') (k:WeakG G S' S''):WeakG G S S'':=fun w0 B N a w hr=>k w0 B N a w (h w0 B N a w hr)
theorem Ads {G:World->Prop} {w0 w:World} {ob:Oid->Option Ob} {σ:Oid->Option Loc} {g:Nat} {e:TypeId} {t:Ty} {i:Oid} (hm:Mem0 G w0 ob σ (·<g) w) (hi:i.2=g) (ht:t.flat=true) :
  Later σ (upd σ i (some .nil)) (imm ob σ) (imm (upd ob i (some (.arr e t []))) (upd σ i (some .nil))) w w/\Mem0 G w0 (upd ob i (some (.arr e t []))) (upd σ i (some .nil)) (·<g+1) w:=by
 have hfr:σ i=none:=Goes.fresh hm (by rw [hi];exact Nat.lt_irrefl _);refine ⟨Later.new (l:=.nil) hfr (Below.refl _ _) (fun _ _ _ h=>by cases h),hm.new (l:=.nil) hfr (Below.refl _ _) (fun _ _ _ h=>by cases h) (fun n hn=>by omega) (by show i.2<g+1;omega) ⟨ht,Ie w w0.heap.size e t.size,fun _ _ _ h=>by cases h⟩⟩
theorem Ace {G:World->Prop} {S:St} (s:Nat) (e:TypeId) (t:Ty) (ht:t.flat=true) (hs:S.tm s=.nils):WeakG G S ⟨upd S.tm s (.own ((s,0),S.gen) t 0 0),upd S.ob ((s,0),S.gen) (some (.arr e t [])),S.gen+1⟩:=by
 intro w0 B N a w hr;obtain ⟨σ,hm,hf,hB⟩:=hr.ex;obtain ⟨hL,hM⟩:=Ads (e:=e) (i:=((s,0),S.gen)) hm rfl ht;refine ⟨⟨_,hM,fun u=>?_,hB.trans hL⟩,hr.size,hr.defers,fun i hi=>?_⟩
 ·simp only [upd];split
  ·rename_i eu;subst eu;have:=hf u;rw [hs] at this;exact .inl ⟨Ar _ _ _,rfl,rfl,this⟩
  ·exact AV.Rep.later hL _ _ (hf u)
 ·show i.2<S.gen+1;by_cases h:i=((s,0),S.gen)
  ·subst h;show S.gen<S.gen+1;omega
  ·simp only [Aq _ _ _ _ h] at hi;have:=hr.obg i hi;omega
def Be:List (Oid×Oid)->Oid->Oid
 | [],i=>i
 | (a,b) :: r,i=>if i=a then b else if i.1.1=a.1.1/\i.2=a.2/\i.1.2≠0 then ((b.1.1,i.1.2),b.2) else Be r i
def Px (l:List (Oid×Oid)):Bool:=l.all fun x=>x.1.1.2==0
theorem Gf:∀ {l:List (Oid×Oid)},Px l=true->∀ {p:Oid},p.1.2=0->∀ k,Be l (kid p k)=kid (Be l p) k
 | [],_,_,_,_=>rfl
 | (a,b) :: r,h,p,hp,k=>by
  simp only [Px,List.all_cons,Bool.and_eq_true,beq_iff_eq] at h;obtain ⟨h1,h2⟩:=h
  have hne:kid p k≠a:=fun e=>by
   rw [← e] at h1;simp [kid] at h1
  simp only [Be,if_neg hne];by_cases hpa:p=a
  ·subst hpa;rw [if_pos ⟨rfl,rfl,by simp [kid]⟩,if_pos rfl];rfl
  ·have:¬ ((kid p k).1.1=a.1.1/\(kid p k).2=a.2/\(kid p k).1.2≠0):=by
    rintro ⟨e1,e2,_⟩;apply hpa;obtain ⟨⟨p1,p2⟩,p3⟩:=p;obtain ⟨⟨a1,a2⟩,a3⟩:=a;simp only [kid] at *;subst hp h1 e1 e2;rfl
   rw [if_neg this,if_neg hpa,if_neg (fun h=>h.2.2 hp)];exact Gf h2 hp k
def ndB:List Oid->Bool
 | []=>true
 | i :: r=> !r.contains i&&ndB r
theorem Cy:∀ {l:List Oid},ndB l=true->l.Nodup
 | [],_=>List.nodup_nil
 | i :: r,h=>by
  simp only [ndB,Bool.and_eq_true,Bool.not_eq_true',List.contains_eq_mem,decide_eq_false_iff_not] at h;exact List.nodup_cons.2 ⟨h.1,Cy h.2⟩
def Ob.isPool:Ob->Bool
 | .pool ..=>true
 | _=>false
def Ia (i:Oid):Oid:=((i.1.1,0),i.2)
theorem Cg {p:Oid} (h:p.1.2=0) (k:Nat):Ia (kid p k)=p:=by
 obtain ⟨⟨p1,p2⟩,p3⟩:=p;simp only at h;subst h;rfl
theorem S6 {i:Oid} (h:i.1.2≠0):i=kid (Ia i) (i.1.2 - 1):=by
 obtain ⟨⟨a,b⟩,c⟩:=i;simp only [kid,Ia] at *;rw [show b - 1+1=b by omega]
def Jh:List (Oid×Option Ob)->Oid->Option Ob
 | [],_=>none
 | (j,o) :: r,i=>match o with
  | some (.pool e u xss)=>if i.1.1=j.1.1/\i.2=j.2/\i.1.2≠0 then (xss[i.1.2 - 1]?).map (.arr e u) else Jh r i
  | o=>if i=j then o else Jh r i
def Ob.exp:Ob->Ob
 | .mat e p u xss=>.vec e 1 xss.length (hdL p u xss)
 | .tv e m t xs=>.vec e t.size xs.length (tvC m t xs)
 | o=>o
theorem Po:∀ (ol:List (Oid×Option Ob)) (i:Oid),Ag ol i=(Jh ol i).map Ob.exp
 | [],_=>rfl
 | (j,o) :: r,i=>by
  have ih:=Po r i;cases o with
  | none =>
   simp only [Ag,Jh];split
   ·rfl
   ·exact ih
  | some o =>
   cases o with
   | pool e u xss =>
    simp only [Ag,Jh];split
    ·cases xss[i.1.2 - 1]? <;> rfl
    ·exact ih
   | _ =>
    simp only [Ag,Jh];split
    ·rfl
    ·exact ih
def Hv:List (Oid×Option Ob)->Oid->Option Ob
 | [],_=>none
 | (j,o) :: r,p=>match o with
  | some (.pool e u xss)=>if p.1.1=j.1.1/\p.2=j.2 then some (.pool e u xss) else Hv r p
  | _=>if p.1.1=j.1.1/\p.2=j.2/\j.1.2≠0 then none else Hv r p
theorem Iv {e:TypeId} {u:Ty} {xss:List (List u.D)} {p:Oid}:∀ {ol:List (Oid×Option Ob)},Hv ol p=some (.pool e u xss)->∀ k,Jh ol (kid p k)=(xss[k]?).map (.arr e u)
 | [],h,_=>by cases h
 | (j,o) :: r,h,k=>by
  have hk:¬ (p.1.1=j.1.1/\p.2=j.2/\j.1.2≠0)->kid p k≠j:=fun hn ej=>hn (by subst ej;exact ⟨rfl,rfl,by simp [kid]⟩)
  cases o with
  | none =>
   simp only [Hv] at h;simp only [Jh];split at h
   ·cases h
   ·rename_i hn;rw [if_neg (hk hn)];exact Iv h k
  | some o =>
   cases o with
   | pool e' u' xss' =>
    simp only [Hv] at h;simp only [Jh];split at h
    ·rename_i hc;obtain ⟨rfl,rfl,he⟩:=Ob.pool.inj (osj h);obtain rfl:=eq_of_heq he;rw [if_pos ⟨by simpa [kid] using hc.1,by simpa [kid] using hc.2,by simp [kid]⟩];simp [kid]
    ·rename_i hc;rw [if_neg (fun h'=>hc ⟨h'.1,h'.2.1⟩)];exact Iv h k
   | _ =>
    simp only [Hv] at h;simp only [Jh];split at h
    ·cases h
    ·rename_i hn;rw [if_neg (hk hn)];exact Iv h k
theorem R7 {e:TypeId} {u:Ty} {xss:List (List u.D)} {p:Oid} {ol:List (Oid×Option Ob)} (h:Hv ol p=some (.pool e u xss)) (k:Nat):Ag ol (kid p k)=(xss[k]?).map (.arr e u):=by
 rw [Po,Iv h];cases xss[k]? <;> rfl
theorem Acl {e:TypeId} {u:Ty} {xss:List (List u.D)} {row:List u.D} {p:Oid} {k:Nat} {ol:List (Oid×Option Ob)} (h:Hv ol p=some (.pool e u xss)) (hx:xss[k]? =some row):Ag ol (kid p k)=some (.arr e u row):=by
 rw [R7 h,hx];rfl
theorem Ym (θ:Oid->Oid) (o:Ob) (hk:∀ e p u xss,o=.mat e p u xss->∀ k,θ (kid p k)=kid (θ p) k):(o.ren θ).exp=o.exp.ren θ:=by
 cases o with
 | mat e p u xss =>
  have:AV.renL θ (hdL p u xss)=hdL (θ p) u xss:=by
   have key:∀ l:List (List u.D×Nat),AV.renL θ (l.map fun x=>.own (kid p x.2) u 0 x.1.length)=l.map fun x=>.own (kid (θ p) x.2) u 0 x.1.length:=by
    intro l
    induction l with
    | nil=>rfl
    | cons x l ih=>simp only [List.map_cons,AV.renL,ih,AV.ren,hk _ _ _ _ rfl]
   exact key _
  simp only [Ob.ren,Ob.exp,this]
 | tv e m t xs=>simp only [Ob.ren,Ob.exp,S5]
 | _=>rfl
def Zq (ol0:List (Oid×Option Ob)) (θ:Oid->Oid) (q:Oid×Ob):Option Ob:=if q.2.isPool then Hv ol0 (θ q.1) else Jh ol0 (θ q.1)
def N6 (ol0:List (Oid×Option Ob)) (θ:Oid->Oid):List (Oid×Ob)->Prop
 | []=>True
 | q :: r=>Zq ol0 θ q=some (q.2.ren θ)/\N6 ol0 θ r
theorem Lt {ol0:List (Oid×Option Ob)} {θ:Oid->Oid}:∀ {ol:List (Oid×Ob)},(ol.map fun q=>Zq ol0 θ q)=(ol.map fun q=>some (q.2.ren θ))->N6 ol0 θ ol
 | [],_=>trivial
 | q :: r,h=>by
  simp only [List.map_cons,List.cons.injEq] at h;exact ⟨h.1,Lt h.2⟩
theorem Li {ol0:List (Oid×Option Ob)} {θ:Oid->Oid}:∀ {ol:List (Oid×Ob)},N6 ol0 θ ol->∀ q∈ol,Zq ol0 θ q=some (q.2.ren θ)
 | _ :: _,h,q,hq=>by
  rcases List.mem_cons.1 hq with rfl|hq
  ·exact h.1
  ·exact Li h.2 q hq
theorem E0 {q:Oid×Ob}:∀ {ol:List (Oid×Ob)},q∈exL ol->(∃ p e u xss k row,(p,Ob.pool e u xss)∈ol/\xss[k]? =some row/\q=(kid p k,.arr e u row))∨∃ o,(q.1,o)∈ol/\o.isPool=false/\q.2=o.exp
 | [],h=>by cases h
 | (p,o) :: r,h=>by
  have rest:q∈exL r->_:=fun h=>E0 (ol:=r) h
  have lift:((∃ p e u xss k row,(p,Ob.pool e u xss)∈r/\xss[k]? =some row/\q=(kid p k,.arr e u row))∨∃ o,(q.1,o)∈r/\o.isPool=false/\q.2=o.exp)->((∃ p' e u xss k row,(p',Ob.pool e u xss)∈(p,o) :: r/\xss[k]? =some row/\q=(kid p' k,.arr e u row))∨∃ o',(q.1,o')∈(p,o) :: r/\o'.isPool=false/\q.2=o'.exp):=by
   rintro (⟨p',e,u,xss,k,row,h1,h2⟩|⟨o',h1,h2⟩)
   ·exact .inl ⟨p',e,u,xss,k,row,List.mem_cons_of_mem _ h1,h2⟩
   ·exact .inr ⟨o',List.mem_cons_of_mem _ h1,h2⟩
  cases o with
  | pool e u xss =>
   simp only [exL,List.mem_append] at h;rcases h with h|h
   ·obtain ⟨⟨row,k⟩,hx,rfl⟩:=List.mem_map.1 h;rw [List.mem_zipIdx_iff_getElem?] at hx;exact .inl ⟨p,e,u,xss,k,row,by simp,hx,rfl⟩
   ·exact lift (rest h)
  | _ =>
   simp only [exL] at h;rcases List.mem_cons.1 h with rfl|h
   ·exact .inr ⟨_,List.mem_cons_self,rfl,rfl⟩
   ·exact lift (rest h)
theorem T4 {ol0:List (Oid×Option Ob)} {l:List (Oid×Oid)} {ol:List (Oid×Ob)} (hl:Px l=true) (h:N6 ol0 (Be l) ol) (hp:(ol.all fun q=>match q.2 with | .pool ..=>q.1.1.2==0 | .mat _ p _ _=>p.1.2==0|_=>true)=true):∀ q∈exL ol,Ag ol0 (Be l q.1)=some (q.2.ren (Be l)):=by
 intro q hq;rw [List.all_eq_true] at hp;rcases E0 hq with ⟨p,e,u,xss,k,row,h1,h2,rfl⟩|⟨o,h1,h2,h3⟩
 ·have g:=Li h _ h1;simp only [Zq,Ob.isPool,if_true,Ob.ren] at g;have hp0:=hp _ h1;simp only [beq_iff_eq] at hp0;rw [Gf hl hp0,Acl g h2];rfl
 ·have g:=Li h _ h1;simp only [Zq,h2,Bool.false_eq_true,if_false] at g;rw [h3,Po,g];simp only [Option.map_some];rw [Ym];intro e p u xss e' k;subst e';have hp0:=hp _ h1;simp only [beq_iff_eq] at hp0;exact Gf hl hp0 k
def Jf (DN DP:List Oid) (i:Oid):Bool:=if i.1.2=0 then DN.contains i else DP.contains (Ia i)
mutual
def AV.cl (DN DP:List Oid):AV->Bool
 | .own i _ _ _=>Jf DN DP i
 | .box i _=>Jf DN DP i
 | .elt i _ _=>Jf DN DP i
 | .sla i _ _=>Jf DN DP i
 | .mp i=>Jf DN DP i
 | .agg cs=>AV.clL DN DP cs
 | .tup cs=>AV.clL DN DP cs
 | .fn _ cs=>AV.clL DN DP cs
 | .ref cs=>AV.clL DN DP cs
 | _=>true
def AV.clL (DN DP:List Oid):List AV->Bool
 | []=>true
 | c :: cs=>AV.cl DN DP c&&AV.clL DN DP cs
end
def Ob.cl (DN DP:List Oid):Ob->Bool
 | .cells _ cs=>AV.clL DN DP cs
 | .vec _ _ _ cs=>AV.clL DN DP cs
 | .mat _ p _ _=>DP.contains p&&p.1.2==0
 | _=>true
mutual
theorem AV.cl_P {DN DP:List Oid}:∀ (c:AV),c.cl DN DP=true->c.cloP (fun i=>Jf DN DP i=true)
 | .any,_ | .int _ _,_ | .bool _,_ | .str _,_ | .nils,_ | .abool _ _,_ | .err ..,_ | .tree _ _,_ | .giv _ _ _,_ | .mtree _ _ _,_ | .ftr _ _ _,_ | .telt _ _ _ _,_=>trivial
 | .own _ _ _ _,h=>h
 | .box _ _,h=>h
 | .elt _ _ _,h=>h
 | .sla _ _ _,h=>h
 | .mp _,h=>h
 | .agg cs,h=>AV.clL_P cs h
 | .tup cs,h=>AV.clL_P cs h
 | .fn _ cs,h=>AV.clL_P cs h
 | .ref cs,h=>AV.clL_P cs h
theorem AV.clL_P {DN DP:List Oid}:∀ (cs:List AV),AV.clL DN DP cs=true->AV.cloPL (fun i=>Jf DN DP i=true) cs
 | [],_=>trivial
 | c :: cs,h=>by
  simp only [AV.clL,Bool.and_eq_true] at h;exact ⟨AV.cl_P c h.1,AV.clL_P cs h.2⟩
end
theorem Aa4 {D:Oid->Prop} {p:Oid} {u:Ty} (xss:List (List u.D)) (h:∀ k,k<xss.length->D (kid p k)):AV.cloPL D (hdL p u xss):=by
 have key:∀ l:List (List u.D×Nat),(∀ x∈l,D (kid p x.2))->AV.cloPL D (l.map fun x=>.own (kid p x.2) u 0 x.1.length):=by
  intro l
  induction l with
  | nil=>intro _;trivial
  | cons x l ih=>intro h;exact ⟨h x (by simp),ih fun y hy=>h y (by simp [hy])⟩
 refine key _ fun x hx=>h _ ?_
 obtain ⟨row,k⟩:=x;rw [List.mem_zipIdx_iff_getElem?] at hx;exact (gSi.1 hx).1
theorem Ob.cl_P {DN DP:List Oid} (o:Ob) (hp:o.isPool=false) (h:o.cl DN DP=true):o.exp.cloP (fun i=>Jf DN DP i=true):=by
 cases o with
 | cells _ cs=>exact AV.clL_P cs h
 | vec _ _ _ cs=>exact AV.clL_P cs h
 | mat e p u xss =>
  simp only [Ob.cl,Bool.and_eq_true,beq_iff_eq] at h;refine Aa4 xss fun k _=>?_
  simp only [Jf];rw [if_neg (by simp [kid]),Cg h.2];exact h.1
 | arr _ _ _=>trivial
 | map _ _ _=>trivial
 | pool _ _ _=>cases hp
 | tv e m t xs=>exact V8 xs
def A9 (ol:List (Oid×Ob)):List Oid:=(ol.filter fun q=> !q.2.isPool).map (·.1)
def Bf (ol:List (Oid×Ob)):List Oid:=(ol.filter fun q=>q.2.isPool).map (·.1)
def Aby (l:List (Oid×Oid)) (tl:List (Nat×AV)) (ol:List (Oid×Ob)) (g:Nat):Bool :=
 Px l&&((tl.all fun p=>p.2.cl (A9 ol) (Bf ol))&&((ol.all fun q=>q.2.cl (A9 ol) (Bf ol))&&(ndB ((A9 ol).map (Be l))&&(ndB ((Bf ol).map (Be l)) &&
  ((ol.all fun q=>decide (q.1.2<g)&&(q.1.1.2==0))&&((ol.all fun q=> !(q.1.2==0)||(Be l q.1==q.1)) &&
   (((Bf ol).all fun i=>(Be l i).1.2==0)&&(((A9 ol).all fun i=>(Be l i).1.2==0|| !((Bf ol).map (Be l)).contains (Ia (Be l i)))&&decide (0<g)))))))))
theorem Av {G:World->Prop} {tl0:List (Nat×AV)} {ol0:List (Oid×Option Ob)} {g0:Nat} (l:List (Oid×Oid)) {tl:List (Nat×AV)} {ol:List (Oid×Ob)} {g:Nat} (h1:(tl.map fun p=>Ak tl0 p.1)=tl.map fun p=>p.2.ren (Be l):=by kernel_rfl) (h2:N6 ol0 (Be l) ol:=by exact Lt (by kernel_rfl)) (h3:Aby l tl ol g=true:=by kernel_rfl):WeakG G ⟨Ak tl0,Ag ol0,g0⟩ ⟨Ak tl,Ag (Br ol),g⟩:=by
 intro w0 B N a w hr;obtain ⟨σ,hm,hf,hB⟩:=hr.ex;simp only [Aby,Bool.and_eq_true,decide_eq_true_eq] at h3;obtain ⟨c0,c1,c2,c3,c4,c5,c6,c7,c8,c9⟩:=h3;rw [List.all_eq_true] at c1 c2 c5 c6 c7 c8;have memN:∀ {q},q∈ol->q.2.isPool=false->q.1∈A9 ol:=fun hq hp=>List.mem_map.2 ⟨_,List.mem_filter.2 ⟨hq,by simp [hp]⟩,rfl⟩
 have memP:∀ {q},q∈ol->q.2.isPool=true->q.1∈Bf ol:=fun hq hp=>List.mem_map.2 ⟨_,List.mem_filter.2 ⟨hq,by simp [hp]⟩,rfl⟩
 have ofN:∀ {i},i∈A9 ol->∃ q∈ol,q.1=i:=fun hi=>by
  obtain ⟨q,hq,e⟩:=List.mem_map.1 hi;exact ⟨q,(List.mem_filter.1 hq).1,e⟩
 have ofP:∀ {i},i∈Bf ol->∃ q∈ol,q.1=i:=fun hi=>by
  obtain ⟨q,hq,e⟩:=List.mem_map.1 hi;exact ⟨q,(List.mem_filter.1 hq).1,e⟩
 have c5':∀ q∈ol,q.1.2<g/\q.1.1.2=0:=fun q hq=>by
  have:=c5 q hq
  simpa only [Bool.and_eq_true,decide_eq_true_eq,beq_iff_eq] using this
 have ndN:=Cy c3;have ndP:=Cy c4
 let D:Oid->Prop:=fun i=>Jf (A9 ol) (Bf ol) i=true
 let σ':Oid->Option Loc:=fun i=>if i.2=0 then σ i else if Jf (A9 ol) (Bf ol) i=true then σ (Be l i) else none
 have hzero:∀ q∈ol,q.1.2=0->Be l q.1=q.1:=by
  intro q hq h;have:=c6 q hq;simp only [Bool.or_eq_true,Bool.not_eq_true',beq_eq_false_iff_ne,beq_iff_eq] at this;exact this.resolve_left fun h'=>h' h
 have hDc:∀ i,D i->(i.1.2=0/\i∈A9 ol)∨(i.1.2≠0/\Ia i∈Bf ol):=by
  intro i hi;have hi:Jf (A9 ol) (Bf ol) i=true:=hi;unfold Jf at hi;split at hi
  ·exact .inl ⟨by assumption,List.contains_iff_mem.1 hi⟩
  ·exact .inr ⟨by assumption,List.contains_iff_mem.1 hi⟩
 have hkid:∀ i,i.1.2≠0->Be l i=kid (Be l (Ia i)) (i.1.2 - 1):=by
  intro i hi;have:=Gf c0 (p:=Ia i) rfl (i.1.2 - 1)
  rwa [← S6 hi] at this
 have hσ:∀ i,D i->σ' i=σ (Be l i):=by
  intro i hi;by_cases h0:i.2=0
  ·simp only [σ',if_pos h0];rcases hDc i hi with ⟨_,hm⟩|⟨hk,hm⟩
   ·obtain ⟨q,hq,rfl⟩:=ofN hm;rw [hzero q hq h0]
   ·obtain ⟨q,hq,e⟩:=ofP hm;have:Be l (Ia i)=Ia i:=by rw [← e];exact hzero q hq (by rw [e];exact h0)
    rw [hkid i hk,this,← S6 hk]
  ·simp only [σ',if_neg h0];exact if_pos hi
 have hpl:(ol.all fun q=>match q.2 with | .pool ..=>q.1.1.2==0 | .mat _ p _ _=>p.1.2==0|_=>true)=true:=by
  rw [List.all_eq_true];rintro ⟨i,o⟩ hq;cases o with
  | pool e u xss=>simpa using (c5' _ hq).2
  | mat e p u xss =>
   have:=c2 _ hq;simp only [Ob.cl,Bool.and_eq_true] at this;exact this.2
  | _=>rfl
 have hget:=T4 c0 h2 hpl;have htget:∀ p∈tl,Ak tl0 p.1=p.2.ren (Be l):=fun p hp=>List.map_inj_left.1 h1 p hp
 have hex:∀ q∈exL ol,D q.1/\q.2.cloP D:=by
  intro q hq;rcases E0 hq with ⟨p,e,u,xss,k,row,m1,m2,rfl⟩|⟨o,m1,m2,m3⟩
  ·refine ⟨?_,trivial⟩;show Jf _ _ _=true;unfold Jf;rw [if_neg (by simp [kid]),Cg (c5' _ m1).2];exact List.contains_iff_mem.2 (memP m1 rfl)
  ·refine ⟨?_,by rw [m3];exact Ob.cl_P o m2 (c2 _ m1)⟩;show Jf _ _ _=true;unfold Jf;rw [if_pos (c5' (q.1,o) m1).2];exact List.contains_iff_mem.2 (memN (q:=(q.1,o)) m1 m2)
 have hinj:∀ q∈exL ol,∀ q'∈exL ol,Be l q.1=Be l q'.1->q.1=q'.1:=by
  intro q hq q' hq' e;rcases hDc _ (hex q hq).1 with ⟨a1,a2⟩|⟨a1,a2⟩ <;> rcases hDc _ (hex q' hq').1 with ⟨b1,b2⟩|⟨b1,b2⟩
  ·exact Fu ndN a2 b2 e
  ·exfalso;rw [hkid _ b1] at e;have hz:=c7 _ b2;rw [beq_iff_eq] at hz;have:=c8 _ a2;rw [e] at this;simp only [Bool.or_eq_true,beq_iff_eq,Bool.not_eq_true',Cg hz] at this;rcases this with h|h
   ·simp [kid] at h
   ·rw [List.contains_iff_mem.2 (List.mem_map.2 ⟨_,b2,rfl⟩)] at h;cases h
  ·exfalso;rw [hkid _ a1] at e;have hz:=c7 _ a2;rw [beq_iff_eq] at hz;have:=c8 _ b2;rw [← e] at this;simp only [Bool.or_eq_true,beq_iff_eq,Bool.not_eq_true',Cg hz] at this;rcases this with h|h
   ·simp [kid] at h
   ·rw [List.contains_iff_mem.2 (List.mem_map.2 ⟨_,a2,rfl⟩)] at h;cases h
  ·rw [hkid _ a1,hkid _ b1] at e;have z1:=c7 _ a2;have z2:=c7 _ b2;rw [beq_iff_eq] at z1 z2
   have e1:Be l (Ia q.1)=Be l (Ia q'.1):=by
    rw [← Cg z1 (q.1.1.2 - 1),e,Cg z2]
   have e2:=Fu ndP a2 b2 e1;rw [e1] at e;have e3:=N8 e;rw [S6 a1,S6 b1,e2,e3]
 have him:∀ b,imm (Ag ol0) σ b->imm (Ag (Br ol)) σ' b:=by
  intro b hb i o cp s ho hs;have hq:=D7 ho;rw [hσ i (hex _ hq).1] at hs;exact hb (Be l i) _ cp s (hget _ hq) hs
 have hσ0:∀ i l',σ' i=some l'->(i.2=0/\σ i=some l')∨(D i/\σ (Be l i)=some l'):=by
  intro i l' hi;simp only [σ'] at hi;split at hi
  ·exact .inl ⟨by assumption,hi⟩
  ·split at hi
   ·exact .inr ⟨by assumption,hi⟩
   ·cases hi
 refine ⟨⟨σ',⟨hm.below,hm.inv,fun i l' hi=>?_,fun i b cp s hi=>?_,fun i b cp s hi=>?_,fun i j b cp s cp' s' o o' hi hj e1 e2=>?_,fun i o l' ho hl=>?_⟩,fun t=>?_,?_⟩,hr.size,hr.defers,fun i hi=>?_⟩
 ·rcases hσ0 i l' hi with ⟨h,_⟩|⟨h,_⟩
  ·show i.2<g;omega
  ·show i.2<g;rcases hDc i h with ⟨_,hm⟩|⟨_,hm⟩
   ·obtain ⟨q,hq,rfl⟩:=ofN hm;exact (c5' q hq).1
   ·obtain ⟨q,hq,e⟩:=ofP hm;have:=(c5' q hq).1;rw [e] at this;exact this
 ·rcases hσ0 i _ hi with ⟨_,h⟩|⟨_,h⟩ <;> exact hm.lt _ b cp s h
 ·rcases hσ0 i _ hi with ⟨_,h⟩|⟨_,h⟩ <;> exact hm.cap _ b cp s h
 ·have q1:=D7 hi;have q2:=D7 hj;rw [hσ i (hex _ q1).1] at e1;rw [hσ j (hex _ q2).1] at e2;have:=hm.inj (Be l i) (Be l j) b cp s cp' s' _ _ (hget _ q1) (hget _ q2) e1 e2;exact hinj _ q1 _ q2 this
 ·have hq:=D7 ho;rw [hσ i (hex _ hq).1] at hl;exact Acn hσ him (hex _ hq).2 (hm.obs (Be l i) _ l' (hget _ hq) hl)
 ·have key:∀ l':List (Nat×AV),(∀ p∈l',p∈tl)->AV.Rep σ' (imm (Ag (Br ol)) σ') w (Ak l' t) (a.tmps.getD t undef):=by
   intro l'
   induction l' with
   | nil=>intro _;trivial
   | cons p r ih =>
    obtain ⟨j,v⟩:=p;intro h;simp only [Ak];split
    ·rename_i e;subst e;have hp:=h (t,v) (by simp);have:AV.Rep σ (imm (Ag ol0) σ) w (Ak tl0 t) (a.tmps.getD t undef):=hf t;rw [show Ak tl0 t=v.ren (Be l) from htget _ hp] at this;exact X9 hσ him v _ (AV.cl_P v (c1 _ hp)) this
    ·exact ih fun p hp=>h p (by simp [hp])
  exact key tl fun _ h=>h
 ·refine ⟨fun i l' hi=>?_,fun b hb hi=>him b (hB.im_ b hb hi),hB.blk,hB.size⟩;have:=hB.loc i l' hi;have h0:=B.zero i l' hi;simp only [σ',if_pos h0];exact this
 ·cases ho:Ag (Br ol) i with
  | none=>exact absurd ho hi
  | some o =>
   show i.2<g;rcases hDc i (hex _ (D7 ho)).1 with ⟨_,hm⟩|⟨_,hm⟩
   ·obtain ⟨q,hq,rfl⟩:=ofN hm;exact (c5' q hq).1
   ·obtain ⟨q,hq,e⟩:=ofP hm;have:=(c5' q hq).1;rw [e] at this;exact this
def Cj (P:Program) (fn:Func):Option (AC×List Res) :=
 match fn.body with
 | some c=>match AC.of P fn.ntmps c,Res.ofL P fn.results.toList with
  | some ac,some rs=>some (ac,rs)
  | _,_=>none
 | none=>none
def mC (x:Option (AC×List Res)):AC:=x.elim .skip (·.1)
theorem Ad4 {P:Program} [IsP P] {G:World->Prop} (hfol:P.follows .mixedOrders=true) {g:FuncId} {fn:Func} (hf:P.funcs[g]? =some fn) {ac:AC} {rs:List Res} (hc:Cj P fn=some (ac,rs)) {args:List AV} {r:RV} {n:Nat} (hN:fn.ntmps=n) (hn:args.length<=n)
  (h:awp P G ac (fun e S=>∃ S',WeakG G S S'/\(e=.normal∨e=.ret)/\RetOK [] rs S' r) (St.init args)):Bs P G g args r:=by
 unfold Cj at hc;split at hc
 ·rename_i c hb;split at hc
  ·rename_i ac' rs' h1 h2;obtain ⟨rfl,rfl⟩:=Prod.mk.inj (osj hc);exact Adp hfol hf hb h1 h2 oM fun im w vs hr=>⟨args,rfl,hr,B4 (fun e S ⟨S',hw,he,hq⟩=>⟨S',hw,he,hq.wide⟩) h⟩
  ·cases hc
 ·cases hc
theorem Acx {P:Program} [IsP P] {G:World->Prop} (hfol:P.follows .mixedOrders=true) {g:FuncId} {fn:Func} (hf:P.funcs[g]? =some fn) {ac:AC} {rs:List Res} (hc:Cj P fn=some (ac,rs)) {args:List AV} {n:Nat} (hN:fn.ntmps=n) (hn:args.length<=n)
  {ol us:List (Oid×Ob)} {v:AV} (hz:∀ q∈exL ol,q.1.2=0/\q.2.cloP (·∈nmL ol)) (hnd:(nmL us).Nodup) (hus:∀ q∈exL us,(q.1.2=1∨q.1∈nmL ol)/\(q.2.hp (·∈nmL us)∨q∈exL ol/\q.2.hpG (·∈nmL us))) (hcl:AV.cloPL (·∈nmL ol) args) (hv:v.hp (·∈nmL us))
  (h:awp P G ac (fun e S=>∃ S',WeakG G S S'/\(e=.normal∨e=.ret)/\(∃ rvs,Res.evL S'.tm S'.ob rs=some rvs/\v=Sv rvs)/\∀ q∈exL us,S'.ob q.1=some q.2) ⟨fun i=>args.getD i .any,Ag (Br ol),1⟩):I3 P G g args ol v us:=by
 unfold Cj at hc;split at hc
 ·rename_i c hb;split at hc
  ·rename_i ac' rs' h1 h2;obtain ⟨rfl,rfl⟩:=Prod.mk.inj (osj hc);exact Z4 hfol hf hb h1 h2 oM hz hnd hus hcl hv h
  ·cases hc
 ·cases hc
end
section
open Go.RowKit Go.Deep
-- lists of objects, spelt otherwise
section
variable {ol:List (Oid×Option Ob)} {e1 e:TypeId} {u:Ty} {xss:List (List u.D)} {p o:Oid}
theorem Yl {i p:Oid} (h:∀ k,i≠kid p k):¬ (i.1.1=p.1.1/\i.2=p.2/\i.1.2≠0):=by
 rintro ⟨a,b,c⟩;refine h (i.1.2 - 1) ?_;obtain ⟨⟨i1,i2⟩,i3⟩:=i;simp only [kid] at *;subst a b;rw [show i2 - 1+1=i2 by omega]
theorem J3 (i:Oid):Ag ((p,some (.pool e u xss)) :: ol) i=if i.1.1=p.1.1/\i.2=p.2/\i.1.2≠0 then (xss[i.1.2 - 1]?).map (.arr e u) else Ag ol i:=by
 simp only [Ag]
theorem Kj (k:Nat):Ag ((p,some (.pool e u xss)) :: ol) (kid p k)=(xss[k]?).map (.arr e u):=by
 rw [J3,if_pos ⟨rfl,rfl,by simp [kid]⟩];simp [kid]
theorem I0 {i:Oid} (h:∀ k,i≠kid p k):Ag ((p,some (.pool e u xss)) :: ol) i=Ag ol i:=by
 rw [J3,if_neg (Yl h)]
theorem Aa9 (i:Oid):Ag ((o,some (.mat e p u xss)) :: ol) i=if i=o then some (.vec e 1 xss.length (hdL p u xss)) else Ag ol i:=by
 simp only [Ag]
theorem Ade (i p:Oid):(∃ k,i=kid p k)∨∀ k,i≠kid p k:=by
 by_cases h:∃ k,i=kid p k
 ·exact .inl h
 ·exact .inr fun k e=>h ⟨k,e⟩
def Xv (n:Nat) (ol:List (Oid×Option Ob)):Bool:=ol.all fun q=>q.1.2 !=n
theorem Ky:∀ {ol:List (Oid×Option Ob)} {n:Nat},Xv n ol=true->∀ i:Oid,i.2=n->Ag ol i=none
 | [],_,_,_,_=>rfl
 | (j,o) :: r,n,h,i,hi=>by
  simp only [Xv,List.all_cons,Bool.and_eq_true,bne_iff_ne,ne_eq] at h;obtain ⟨h1,h2⟩:=h;have ih:=Ky (ol:=r) h2 i hi;have hne:i≠j:=fun e=>h1 (by rw [← e];exact hi)
  cases o with
  | none=>simp only [Ag];rw [if_neg hne];exact ih
  | some o =>
   cases o with
   | pool e u xss=>rw [J3,if_neg (fun h=>h1 (by rw [← h.2.1];exact hi))];exact ih
   | mat e p u xss=>rw [Aa9,if_neg hne];exact ih
   | _=>simp only [Ag];rw [if_neg hne];exact ih
end
theorem Z1 {p:Oid} {ol:List (Oid×Option Ob)} {e:TypeId} {u:Ty} (i:Oid):Ag ((p,some (.pool e u [])) :: ol) i=if i.1.1=p.1.1/\i.2=p.2/\i.1.2≠0 then none else Ag ol i:=by
 rw [J3];split <;> simp
theorem Sb {q:Oid} {ol:List (Oid×Option Ob)} (i:Oid):Ag ((q,none) :: ol) i=if i=q then none else Ag ol i:=by
 simp only [Ag]
end
end Go.Proofs.YtjlcpiemabfpiaaGreatDoor
